import Derived.Test.YtknfcngfhlpaeaaGreatDoorQAmCore
namespace AM
set_option linter.unusedVariables false
open Go
variable{U:kz}(E:Env U)
def fI(v:Value):Prop:=v.oneCell'=true/\match v with
 | .int k n=>k.min<=n/\n<=k.max
 | .string s=>s.size<=9223372036854775807
 |_=>True
inductive Rp (w:World) (F:Nat->Prop):Bool->U.C->Value->List Nat->Prop
 |lit (m:Bool) (v:Value) (h:fI v):Rp w F m (.lit v) v []
 |nil (m:Bool) (τ:U.Ty) (a:Option Addr) (c:Nat) (h:m=true->c=0):Rp w F m (.sl τ []) (.slice a 0 c) []
 |shr (τ:U.Ty) (xs:List (U.T τ)) (b off cap:Nat) (vs:Nat->Value) (hF:F b) (hc:xs.length<=cap) (hm:xs.length<=maxLen)
   (hv:∀i,i<xs.length*U.wd τ->w.cell? ⟨b,off+i,none⟩=some (vs i))
   (hr:∀i x j c,xs[i]? =some x->(U.enc τ x)[j]? =some c->Rp w F false c (vs (i*U.wd τ+j)) []):
   Rp w F false (.sl τ xs) (.slice (some ⟨b,off,none⟩) xs.length cap) []
 |own (τ:U.Ty) (xs:List (U.T τ)) (b cap:Nat) (cur:Array Value) (vs:Nat->Value) (gr:Nat->List Nat)
   (hb:w.heap[b]? =some (.cells cur (E.tid τ) (0,0))) (hc:xs.length<=cap) (hm:cap<=maxLen) (hs:cur.size=cap*U.wd τ)
   (hv:∀i,i<xs.length*U.wd τ->cur[i]? =some (vs i))
   (hr:∀i x j c,xs[i]? =some x->(U.enc τ x)[j]? =some c->Rp w F true c (vs (i*U.wd τ+j)) (gr (i*U.wd τ+j))):
   Rp w F true (.sl τ xs) (.slice (some ⟨b,0,none⟩) xs.length cap) (b::(List.range (xs.length*U.wd τ)).flatMap gr)
variable{E}
theorem Rp.fJ{w:World}{F:Nat->Prop}{m:Bool}{c:U.C}{v:Value}{fp:List Nat}(h:Rp E w F m c v fp):fI v:=by
 cases h<;>first|assumption|exact⟨rfl,trivial⟩
theorem fi{U:kz}{τ:U.Ty}{xs:List (U.T τ)}{i j:Nat}{x:U.T τ}{c:U.C}(hx:xs[i]? =some x)(hc:(U.enc τ x)[j]? =some c):
  i*U.wd τ+j<xs.length*U.wd τ:=by
 have hi:i<xs.length:=by
  rcases nL i xs.length with h|h
  ·exact h
  ·rw[nb h] at hx;cases hx
 have hj:j<U.wd τ:=by
  rw[<-U.cY τ x]
  rcases nL j (U.enc τ x).length with h|h
  ·exact h
  ·rw[nb h] at hc;cases hc
 calc i*U.wd τ+j<i*U.wd τ+U.wd τ:=by omega
  _=(i+1)*U.wd τ:=by rw[x_,Nv]
  _<=xs.length*U.wd τ:=ze _ hi
theorem Rp.fC{w w':World}{F F':Nat->Prop}{m:Bool}{c:U.C}{v:Value}{fp:List Nat}(h:Rp E w F m c v fp)
  (hF:∀b,F b->F' b/\w'.heap[b]? =w.heap[b]?) (rl:∀b∈fp,w'.heap[b]? =w.heap[b]?):Rp E w' F' m c v fp:=by
 induction h with
 |lit m v h=>exact .lit m v h
 |nil m τ a c h=>exact .nil m τ a c h
 |shr τ xs b off cap vs M1 hc hm hv hr ih=>
  refine .shr τ xs b off cap vs (hF b M1).1 hc hm (fun i hi=> ?_) (fun i x j c hx hj=>ih i x j c hx hj (by simp))
  rw[World.cell?_of_block (w:=w) (a:=⟨b,off+i,none⟩) (hF b M1).2];exact hv i hi
 |own τ xs b cap cur vs gr hb hc hm hs hv hr ih=>
  refine .own τ xs b cap cur vs gr ?_ hc hm hs hv (fun i x j c hx hj=>ih i x j c hx hj (fun b' bg=> ?_))
  ·rw[rl b (by simp)];exact hb
  ·exact rl b' (e8 _ (nF.2 ⟨_,n9.2 (fi hx hj),bg⟩))
theorem Rp.kB{w:World}{F F':Nat->Prop}{m:Bool}{c:U.C}{v:Value}{fp:List Nat}(h:Rp E w F m c v fp)
  (hF:∀b,F b->F' b) (rl:∀b∈fp,F' b):Rp E w F' false c v []:=by
 induction h with
 |lit m v h=>exact .lit _ v h
 |nil m τ a c h=>exact .nil _ τ a c (by simp)
 |shr τ xs b off cap vs M1 hc hm hv hr ih=>exact .shr τ xs b off cap vs (hF b M1) hc hm hv (fun i x j c hx hj=>ih i x j c hx hj (by simp))
 |own τ xs b cap cur vs gr hb hc hm hs hv hr ih=>
  refine .shr τ xs b 0 cap vs (rl b (by simp)) hc (vg hc hm) (fun i hi=> ?_) (fun i x j c hx hj=>ih i x j c hx hj (fun b' bg=> ?_))
  ·have:=hv i hi
   simp only[World.cell?,hb,tH]
   simpa using this
  ·exact rl b' (e8 _ (nF.2 ⟨_,n9.2 (fi hx hj),bg⟩))
def nU(w:World)(S:Nat->Prop):Value->Path->Value->Prop
 |v,[],v'=>v'=v
 |v,(i,wd,j)::p,v'=>∃b off n c u,v=.slice (some ⟨b,off,none⟩) n c/\S b/\w.cell? ⟨b,off+(i*wd+j),none⟩=some u/\nU w S u p v'
theorem nU.fC{w w':World}{S S':Nat->Prop}:∀{p:Path}{v v':Value},nU w S v p v'->(∀b,S b->S' b/\w'.heap[b]? =w.heap[b]?)->nU w' S' v p v':=by
 intro p
 induction p with
 |nil=>intro v v' h _;exact h
 |cons s p ih=>
  obtain⟨i,wd,j⟩:=s
  rintro v v' ⟨b,off,n,c,u,h1,h2,h3,h4⟩ hS
  refine⟨b,off,n,c,u,h1,(hS b h2).1,?_,ih h4 hS⟩
  rw[World.cell?_of_block (w:=w) (a:=⟨b,off+(i*wd+j),none⟩) (hS b h2).2];exact h3
theorem nU.unique{w:World}{S S':Nat->Prop}:∀{p:Path}{v v1 v2:Value},nU w S v p v1->nU w S' v p v2->v1=v2:=by
 intro p
 induction p with
 |nil=>intro v v1 v2 h h';exact h.trans h'.symm
 |cons s p ih=>
  obtain⟨i,wd,j⟩:=s
  rintro v v1 v2 ⟨b,off,n,c,u,h1,h2,h3,h4⟩ ⟨b',am2,n',c',u',JB,SF,h3',h4'⟩
  rw[h1] at JB
  simp only[Value.slice.injEq,fM,Addr.mk.injEq] at JB
  obtain⟨⟨rfl,rfl,_⟩,rfl,rfl⟩:=JB
  rw[h3] at h3'
  cases h3'
  exact ih h4 h4'
theorem nU.append{w:World}{S:Nat->Prop}:∀{p q:Path}{v v1 v2:Value},nU w S v p v1->nU w S v1 q v2->nU w S v (p++q) v2:=by
 intro p
 induction p with
 |nil=>intro q v v1 v2 h h';cases h;exact h'
 |cons s p ih=>
  obtain⟨i,wd,j⟩:=s
  rintro q v v1 v2 ⟨b,off,n,c,u,h1,h2,h3,h4⟩ h'
  exact⟨b,off,n,c,u,h1,h2,h3,ih h4 h'⟩
theorem Rp.inv{w:World}{F:Nat->Prop}{τ:U.Ty}{xs:List (U.T τ)}{v:Value}{fp:List Nat}(h:Rp E w F false (.sl τ xs) v fp):
  (xs=[]/\∃a c,v=.slice a 0 c)\/
  ∃(b off cap:Nat)(vs:Nat->Value),v=.slice (some ⟨b,off,none⟩) xs.length cap/\F b/\xs.length<=cap/\(∀i,i<xs.length*U.wd τ->w.cell? ⟨b,off+i,none⟩=some (vs i))/\
   ∀i x j c,xs[i]? =some x->(U.enc τ x)[j]? =some c->Rp E w F false c (vs (i*U.wd τ+j)) []:=by
 generalize hc:Cell.sl τ xs=c at h
 generalize hm:false=m at h
 cases h with
 |lit=>cases hc
 |nil m El a c h=>cases hc;exact .inl ⟨rfl,a,c,rfl⟩
 |shr El xs' b off cap vs hF yJ hm hv hr=>cases hc;exact .inr ⟨b,off,cap,vs,rfl,hF,yJ,hv,hr⟩
 |own=>cases hm
theorem Rp.len{w:World}{F:Nat->Prop}{m:Bool}{τ:U.Ty}{xs:List (U.T τ)}{v:Value}{fp:List Nat}(h:Rp E w F m (.sl τ xs) v fp):xs.length<=maxLen:=by
 generalize hc:Cell.sl τ xs=c at h
 cases h with
 |lit=>cases hc
 |nil m El a c h=>cases hc;simp
 |shr El xs' b off cap vs hF yJ hm hv hr=>cases hc;exact hm
 |own El xs' b cap cur vs gr hb yJ hm hs hv hr=>cases hc;exact vg yJ hm
theorem Rp.CZ{w:World}{F:Nat->Prop}{m:Bool}{u v:Value}{fp:List Nat}(h:Rp E w F m (.lit u) v fp):fI u:=by
 generalize hc:(Cell.lit u:U.C)=c at h
 cases h with
 |lit _ _ h=>cases hc;exact h
 |nil=>cases hc
 |shr=>cases hc
 |own=>cases hc
theorem ff{α:Type}{xs:List α}{i:Nat}{d:α}(h:i<xs.length):xs[i]? =some (xs.getD i d):=by
 rw[dB,eW h];rfl
theorem abj{ps:List Prop}{q:Prop}:Nf ps q↔(∀p∈ps,p)/\q:=by
 induction ps with
 |nil=>simp[Nf]
 |cons p ps ih=>
  simp only[Nf,ih,jF]
  constructor
  ·rintro⟨h1,h2,h3⟩
   exact⟨fun r hr=>hr.elim (fun e=>e▸h1) (h2 r),h3⟩
  ·rintro⟨h1,h2⟩
   exact⟨h1 p (.inl rfl),fun r hr=>h1 r (.inr hr),h2⟩
theorem Rp.Zd{w:World}{F:Nat->Prop}:∀{p:Path}{a b:cC U}{v:Value}{ps:List Prop},Rp E w F false (.sl a.τ a.xs) v []->
  walk p a=some (ps,b)->(∀q∈ps,q)->∃v',nU w F v p v'/\Rp E w F false (.sl b.τ b.xs) v' []:=by
 intro p
 induction p with
 |nil=>
  intro a b v ps h hw hp
  simp only[walk,fM,nT] at hw
  obtain⟨_,rfl⟩:=hw
  exact⟨v,rfl,h⟩
 |cons s p ih=>
  obtain⟨i,wd,j⟩:=s
  intro a b v ps h hw hp
  obtain⟨aτ,axs⟩:=a
  simp only[walk] at hw
  cases tT:Nat.beq wd (U.wd aτ)<;>simp only[tT,cond_false,cond_true] at hw
  ·cases hw
  ·have OZ:wd=U.wd aτ:=mc tT
   subst OZ
   split at hw
   ·rename_i τ xs hx
    split at hw
    ·rename_i H_ b' hw'
     simp only[fM,nT] at hw
     obtain⟨rfl,rfl⟩:=hw
     have hi:i<axs.length:=hp _ (by simp)
     have uR:=ff (d:=U.ee aτ) hi
     rcases h.inv with⟨h0,_⟩|⟨bb,off,cap,vs,rfl,hF,hc,hv,hr⟩
     ·simp only at h0;subst h0;simp at hi
     ·have jz:=hr i _ j _ uR hx
      obtain⟨v',h1,h2⟩:=ih (a:=⟨τ,xs⟩) jz hw' (fun q hq=>hp q (by simp[hq]))
      exact⟨v',⟨bb,off,_,cap,_,rfl,hF,hv _ (fi uR hx),h1⟩,h2⟩
    ·cases hw
   ·cases hw
def p9(wd lo hi:Nat):Value->Value
 | .slice a n c=> .slice (if c=lo then a else a.map (·.add (lo*wd))) (hi-lo) (c-lo)
 |v=>v
def tr:Value->Bool
 | .slice none _ _=>true
 |_=>false
structure gq(W:Nat->Prop)(w w':World):Prop where
 os:w'.os=w.os
 tape:w'.tape=w.tape
 output:w'.output=w.output
 size:w.heap.size<=w'.heap.size
 block:∀k,k<w.heap.size->¬W k->w'.heap[k]? =w.heap[k]?
def xY(P:Program)(f:FuncId):Prop:=∃fn,P.funcs[f]? =some fn/\fn.body.isSome=true/\(fn.name== "runtime.NumGoroutine")=false
def ZC(E:Env U)(w:World)(F:Nat->Prop)(d:DA U)(v:Value):Prop:=
 ∃vs:List Value,vs.length=d.cs.length/\(∀(i:Nat)(c:U.C),d.cs[i]? =some c->Rp E w F false c (vs.getD i undef) [])/\(if d.agg then v=.agg vs.toArray else vs=[v])
def ag7(E:Env U)(w:World)(F:Nat->Prop)(ds:List (DA U))(vs:List Value):Prop:=
 ds.length=vs.length/\∀(i:Nat)(d:DA U)(v:Value),ds[i]? =some d->vs[i]? =some v->ZC E w F d v
def mP(E:Env U)(w:World)(F:Nat->Prop)(p:List (DA U)->Option Value)(v:Value):Prop:=
 ∃g oG,v=.func (.func g) #[] oG/\xY E.P g/\∀ds r,p ds=some r->∀(w':World)(F':Nat->Prop),(∀b,F b->F' b/\w'.heap[b]? =w.heap[b]?)->(∀b,F' b->b<w'.heap.size)->∀vs,ag7 E w' F' ds vs->
  Calls E.P g (vs.toArray++oG) w' fun e ZV=>e=.returned r/\fI r/\gq (fun _=>False) w' ZV
theorem mP.fC{E:Env U}{w w':World}{F F':Nat->Prop}{p:List (DA U)->Option Value}{v:Value}(h:mP E w F p v)(hF:∀b,F b->F' b/\w'.heap[b]? =w.heap[b]?):mP E w' F' p v:=by
 obtain⟨g,oG,h1,h2,h3⟩:=h
 exact⟨g,oG,h1,h2,fun ds r hr ZV F'' h4 h5 vs h6=>h3 ds r hr ZV F'' (fun b hb=>⟨(h4 b (hF b hb).1).1,(h4 b (hF b hb).1).2.trans (hF b hb).2⟩) h5 vs h6⟩
section
variable(E)(w:World)(F:Nat->Prop)(kv:Key->Value)(fp:Key->List Nat)(bad:Key->Bool)
def RA:AC U->Value->Prop
 | .c x,v=>Rp E w F false x v []
 | .e0,v=>∃a,v=.slice a 0 0
 | .ref k p,v=>nU w (fun b=>F b\/b∈fp k) (kv k) p v
 | .sub k wd lo hi,v=>v=p9 wd lo hi (kv k)/\lo<=hi
 | .kI k p i wd off,v=>∃b o n c,nU w (fun b=>F b\/b∈fp k) (kv k) p (.slice (some ⟨b,o,none⟩) n c)/\v=.pointer (some ⟨b,o+(i*wd+off),none⟩)
 | .jU k off,v=>∃b,kv k=.pointer (some ⟨b,0,none⟩)/\v=.pointer (some ⟨b,off,none⟩)
 | .kn b τ xs,v=>Rp E w F false (.sl τ xs) v []/\tr v=b
 | .ia cs,v=>∃b o,v=.pointer (some ⟨b,o,none⟩)/\F b/\∀j c,cs[j]? =some c->∃u,w.cell? ⟨b,o+j,none⟩=some u/\Rp E w F false c u []
def hJ:AC U->Bool
 | .ref k p=> !p.isEmpty&&bad k
 | .kI k p _ _ _=> !p.isEmpty&&bad k
 |_=>false
def RD(x:AC U)(v:Value):Prop:=fI v/\(hJ bad x=true\/RA E w F kv fp x v)
def kU(xs:List (AC U))(vs:List Value):Prop:=
 xs.length=vs.length/\∀(i:Nat)(x:AC U)(v:Value),xs[i]? =some x->vs[i]? =some v->RD E w F kv fp bad x v
def RV(x:AV U)(v:Value):Prop:=
 ∃vs:List Value,kU E w F kv fp bad x.cs vs/\(if x.agg then v=.agg vs.toArray else vs=[v])
def RS:SV U->Value->Prop
 | .v x,v=>RV E w F kv fp bad x v
 | .uZ xs,v=>∃vs:List Value,v=.tuple vs.toArray/\xs.length=vs.length/\∀(i:Nat)(x:AV U)(u:Value),xs[i]? =some x->vs[i]? =some u->RV E w F kv fp bad x u
 | .fn p,v=>mP E w F p v
 | .Ff g xs,v=>∃vs:List Value,v=.func (.func g) #[] vs.toArray/\xs.length=vs.length/\∀(i:Nat)(x:AV U)(u:Value),xs[i]? =some x->vs[i]? =some u->RV E w F kv fp bad x u
def eo(deep:Bool)(a:cC U)(v:Value)(fp:List Nat):Prop:=
 (a.xs=[]/\(∃ad,v=.slice ad 0 0)/\fp=[])\/
 ∃(b cap:Nat)(cur:Array Value)(vs:Nat->Value)(gr:Nat->List Nat),v=.slice (some ⟨b,0,none⟩) a.xs.length cap/\w.heap[b]? =some (.cells cur (E.tid a.τ) (0,0))/\a.xs.length<=cap/\cap<=maxLen/\
  cur.size=cap*U.wd a.τ/\(∀i,i<a.xs.length*U.wd a.τ->cur[i]? =some (vs i))/\
  (∀i x j c,a.xs[i]? =some x->(U.enc a.τ x)[j]? =some c->Rp E w F deep c (vs (i*U.wd a.τ+j)) (gr (i*U.wd a.τ+j)))/\
  fp=b::(List.range (a.xs.length*U.wd a.τ)).flatMap gr
def dK(dead:Nat->Bool)(a:cC U)(v:Value)(fp:List Nat):Prop:=
 (a.xs=[]/\(∃ad,v=.slice ad 0 0)/\fp=[])\/
 ∃(b cap:Nat)(cur:Array Value)(vs:Nat->Value)(gr:Nat->List Nat),v=.slice (some ⟨b,0,none⟩) a.xs.length cap/\w.heap[b]? =some (.cells cur (E.tid a.τ) (0,0))/\a.xs.length<=cap/\cap<=maxLen/\
  cur.size=cap*U.wd a.τ/\(∀i,i<a.xs.length*U.wd a.τ->cur[i]? =some (vs i)/\fI (vs i))/\
  (∀i x j c,dead i=false->a.xs[i]? =some x->(U.enc a.τ x)[j]? =some c->Rp E w F true c (vs (i*U.wd a.τ+j)) (gr (i*U.wd a.τ+j)))/\
  (∀i j,dead i=true->j<U.wd a.τ->gr (i*U.wd a.τ+j)=[])/\
  fp=b::(List.range (a.xs.length*U.wd a.τ)).flatMap gr
def sg:ie U->Value->List Nat->Prop
 | .arr a deep,v,l=>eo E w F deep a v l
 | .part a dead,v,l=>dK E w F dead a v l
 | .box cs,v,l=>∃b cur e,v=.pointer (some ⟨b,0,none⟩)/\w.heap[b]? =some (.cells cur e (0,0))/\l=[b]/\kU E w F kv fp bad cs cur.toList
end
theorem eo.kB{w:World}{F F':Nat->Prop}{deep:Bool}{a:cC U}{v:Value}{fp:List Nat}(h:eo E w F deep a v fp)
  (hF:∀b,F b->F' b) (rl:∀b∈fp,F' b):Rp E w F' false (.sl a.τ a.xs) v []:=by
 obtain⟨aτ,axs⟩:=a
 rcases h with⟨h1,⟨ad,h2⟩,h3⟩|⟨b,cap,cur,vs,gr,rfl,hb,hc,hm,hs,hv,hr,rfl⟩
 ·simp only at h1
  subst h1 h2
  exact .nil _ _ _ _ (by simp)
 ·refine .shr aτ axs b 0 cap vs (rl b (by simp)) hc (vg hc hm) (fun i hi=> ?_) (fun i x j c hx hj=>(hr i x j c hx hj).kB hF (fun b' bg=> ?_))
  ·have:=hv i hi
   simp only[World.cell?,hb,tH]
   simpa using this
  ·exact rl b' (e8 _ (nF.2 ⟨_,n9.2 (fi hx hj),bg⟩))
theorem eo.fC{w w':World}{F F':Nat->Prop}{deep:Bool}{a:cC U}{v:Value}{fp:List Nat}(h:eo E w F deep a v fp)
  (hF:∀b,F b->F' b/\w'.heap[b]? =w.heap[b]?) (rl:∀b∈fp,w'.heap[b]? =w.heap[b]?):eo E w' F' deep a v fp:=by
 rcases h with h|⟨b,cap,cur,vs,gr,rfl,hb,hc,hm,hs,hv,hr,rfl⟩
 ·exact .inl h
 ·refine .inr ⟨b,cap,cur,vs,gr,rfl,?_,hc,hm,hs,hv,fun i x j c hx hj=>(hr i x j c hx hj).fC hF (fun b' bg=> ?_),rfl⟩
  ·rw[rl b (by simp)];exact hb
  ·exact rl b' (e8 _ (nF.2 ⟨_,n9.2 (fi hx hj),bg⟩))
theorem dK.fC{w w':World}{F F':Nat->Prop}{dead:Nat->Bool}{a:cC U}{v:Value}{fp:List Nat}(h:dK E w F dead a v fp)
  (hF:∀b,F b->F' b/\w'.heap[b]? =w.heap[b]?) (rl:∀b∈fp,w'.heap[b]? =w.heap[b]?):dK E w' F' dead a v fp:=by
 rcases h with h|⟨b,cap,cur,vs,gr,rfl,hb,hc,hm,hs,hv,hr,hd,rfl⟩
 ·exact .inl h
 ·refine .inr ⟨b,cap,cur,vs,gr,rfl,?_,hc,hm,hs,hv,fun i x j c hi hx hj=>(hr i x j c hi hx hj).fC hF (fun b' bg=> ?_),hd,rfl⟩
  ·rw[rl b (by simp)];exact hb
  ·exact rl b' (e8 _ (nF.2 ⟨_,n9.2 (fi hx hj),bg⟩))
theorem dK.own{w:World}{F:Nat->Prop}{dead:Nat->Bool}{a:cC U}{v:Value}{fp:List Nat}(h:dK E w F dead a v fp)
  (hd:∀i,i<a.xs.length->dead i=false):eo E w F true a v fp:=by
 rcases h with h|⟨b,cap,cur,vs,gr,rfl,hb,hc,hm,hs,hv,hr,_,rfl⟩
 ·exact .inl h
 ·refine .inr ⟨b,cap,cur,vs,gr,rfl,hb,hc,hm,hs,fun i hi=>(hv i hi).1,fun i x j c hx hj=>hr i x j c (hd i ?_) hx hj,rfl⟩
  rcases nL i a.xs.length with h|h
  ·exact h
  ·rw[nb h] at hx;cases hx
end AM
