/- THE ABSTRACT MACHINE: what a contract says; a call by a contract. -/
import Derived.Test.YtceiiofmelhipaaGreatAmOps8
namespace AM
set_option linter.unusedVariables false
open Go
variable{U:Uni}
def restAt(w:World)(v:Value)(n:Nat):List Value:=match v with
 | .pointer (some a)=>match w.heap[a.block]? with
  |some (.cells cur _ _)=>cur.toList.drop n
  |_=>[]
 |_=>[]
section
variable(E:Env U)(w:World)(F:Nat→Prop)
def RBoxD(own:Bool)(cs:List U.C)(rest:List Value)(v:Value)(l:List Nat):Prop:=
 ∃(b:Nat)(cur:Array Value)(e:TypeId)(fl:List (List Nat)),v=.pointer (some ⟨b,0,none⟩)∧w.heap[b]? =some (.cells cur e (0,0))∧cs.length≤cur.size∧cur.toList.drop cs.length=rest∧(∀u∈rest,LitOk u)∧
  fl.length=cs.length∧(∀(i:Nat)(c:U.C),cs[i]? =some c→Rp E w F own c (cur.toList.getD i undef) (fl.getD i []))∧l=b::fl.flatten
def RAggO(cs:List U.C)(v:Value)(l:List Nat):Prop:=
 ∃(vs:List Value)(fl:List (List Nat)),v=.agg vs.toArray∧vs.length=cs.length∧fl.length=cs.length∧(∀(i:Nat)(c:U.C),cs[i]? =some c→Rp E w F true c (vs.getD i undef) (fl.getD i []))∧l=fl.flatten
def RArg:Mode→DV U→Value→List Nat→Prop
 | .ro,.one c,v,l=>Rp E w F false c v []∧l=[]
 | .ro,.agg cs,v,l=>∃vs:List Value,v=.agg vs.toArray∧vs.length=cs.length∧(∀(i:Nat)(c:U.C),cs[i]? =some c→Rp E w F false c (vs.getD i undef) [])∧l=[]
 | .ro,.ptr cs,v,l=>(∃b o,v=.pointer (some ⟨b,o,none⟩)∧F b∧∀(j:Nat)(c:U.C),cs[j]? =some c→∃u,w.cell? ⟨b,o+j,none⟩=some u∧Rp E w F false c u [])∧l=[]
 | .ro,.fn p,v,l=>FnSpec E w F p v∧l=[]
 | .wr,.one (.sl τ xs),v,l=>ROwn E w F true ⟨τ,xs⟩ v l
 | .wr,.agg cs,v,l=>RAggO E w F cs v l
 | .mv,.one c,v,l=>Rp E w F true c v l
 | .mv,.agg cs,v,l=>RAggO E w F cs v l
 | .box own,.box cs,v,l=>RBoxD E w F own cs (restAt w v cs.length) v l
 |_,_,_,_=>False
def RArgs:List Mode→List (DV U)→List Value→List (List Nat)→Prop
 |[],[],[],[]=>True
 |m::ms,d::ds,v::vs,l::ls=>RArg E w F m d v l∧RArgs ms ds vs ls
 |_,_,_,_=>False
def RRes(fresh:Bool):DV U→Value→List Nat→Prop
 | .one c,v,l=>if fresh then Rp E w F true c v l else Rp E w F false c v []∧l=[]
 | .agg cs,v,l=>if fresh then RAggO E w F cs v l
   else∃vs:List Value,v=.agg vs.toArray∧vs.length=cs.length∧(∀(i:Nat)(c:U.C),cs[i]? =some c→Rp E w F false c (vs.getD i undef) [])∧l=[]
 | .box cs,v,l=>fresh=true∧∃b cur e,v=.pointer (some ⟨b,0,none⟩)∧w.heap[b]? =some (.cells cur e (0,0))∧l=[b]∧cur.size=cs.length∧∀(i:Nat)(c:U.C),cs[i]? =some c→Rp E w F false c (cur.toList.getD i undef) []
 | .ptr _,_,_=>False
 | .fn _,_,_=>False
def RRess(fresh:Bool):List (DV U)→List Value→List (List Nat)→Prop
 |[],[],[]=>True
 |d::ds,v::vs,l::ls=>RRes E w F fresh d v l∧RRess fresh ds vs ls
 |_,_,_=>False
def RMuts(w0:World):List Mode→List Value→List (DV U)→List (List Nat)→Prop
 |[],[],[],[]=>True
 | .ro::ms,_::vs,ds,ls=>RMuts w0 ms vs ds ls
 | .mv::ms,_::vs,ds,ls=>RMuts w0 ms vs ds ls
 | .wr::ms,v::vs,.one (.sl τ ys)::ds,l::ls=>ROwn E w F true ⟨τ,ys⟩ v l∧RMuts w0 ms vs ds ls
 | .wr::ms,v::vs,.agg cs::ds,l::ls=>RAggO E w F cs v l∧RMuts w0 ms vs ds ls
 | .box own::ms,v::vs,.box cs::ds,l::ls=>RBoxD E w F own cs (restAt w0 v cs.length) v l∧RMuts w0 ms vs ds ls
 |_,_,_,_=>False
end
def retV:List Value→Value
 |[v]=>v
 |vs=> .tuple vs.toArray
def grownF(F:Nat→Prop)(w w':World)(own:List Nat)(b:Nat):Prop:=F b∨(w.heap.size≤b∧b<w'.heap.size∧b∉own)
def RestLen(w:World)(n:Nat):List Mode→List (DV U)→List Value→Prop
 |m::ms,d::ds,v::vs=>(∀own cs,m=.box own→d=.box cs→(restAt w v cs.length).length=n)∧RestLen w n ms ds vs
 |_,_,_=>True
theorem restLen_ro{w:World}{n:Nat}:∀{ms:List Mode}{ds:List (DV U)}{vs:List Value},allRo ms=true→RestLen w n ms ds vs
 |[],_,_,_=>trivial
 |_::_,[],_,_=>trivial
 |_::_,_::_,[],_=>trivial
 |m::ms,d::ds,v::vs,h=>by
  cases m with
  |ro=>exact⟨fun own cs hm=>(by cases hm),restLen_ro (by simpa[allRo] using h)⟩
  |wr=>simp[allRo] at h
  |mv=>simp[allRo] at h
  |box _=>simp[allRo] at h
def SoundCon(E:Env U)(f:FuncId)(k:Con U):Prop:=
 ∀x:k.α,(∀p∈k.pre x,p)→∀(w:World)(F:Nat→Prop)(vs:List Value)(ls:List (List Nat)),(∀b,F b→b<w.heap.size)→Lay E w F→RArgs E w F k.md (k.ds x) vs ls→RestLen w k.rst k.md (k.ds x) vs→ls.flatten.Nodup→
  (∀b∈ls.flatten,b<w.heap.size∧¬F b)→
  Calls E.P f vs.toArray w fun e w'=>∃(us:List Value)(rls mls:List (List Nat)),e=.returned (retV us)∧Upto (·∈ls.flatten) w w'∧
   RRess E w' (grownF F w w' (rls.flatten++mls.flatten)) (k.res x).fresh (k.res x).val us rls∧
   RMuts E w' (grownF F w w' (rls.flatten++mls.flatten)) w k.md vs (k.res x).muts mls∧
   (rls.flatten++mls.flatten).Nodup∧(∀b∈rls.flatten,(b∈ls.flatten∨w.heap.size≤b)∧b<w'.heap.size)∧(∀b∈mls.flatten,b∈ls.flatten∨(w.heap.size≤b∧b<w'.heap.size))
variable{E:Env U}{pm:Pm}
variable{F F':Nat→Prop}{kv:Key→Value}{fp:Key→List Nat}{σ:AState U}{a:Act}{w w':World}{bad:Key→Bool}
theorem arrOf_sound'(h:Sim E pm F kv fp σ a w){rs:List Key}{x:AC U}{v:Value}{ps:List Prop}{b:Arr U}
  (ha:arrOf (restrict σ.ent rs) σ.dirty x=some (ps,b)) (hp:∀p∈ps,p) (hx:RD E w F kv fp (badK σ) x v):
  Rp E w (FK F fp (x.keys.filter fun k=>(σ.ent k).isSome)) false (.sl b.τ b.xs) v []:=by
 have key:∀(k:Key)(y:Arr U)(d:Bool),restrict σ.ent rs k=some (.arr y d)→k∈x.keys→∀b,(F b∨b∈fp k)→FK F fp (x.keys.filter fun k=>(σ.ent k).isSome) b:=by
  intro k y d he hk b hb
  rcases hb with hb|hb
  ·exact .inl hb
  ·exact .inr ⟨k,zcg.2 ⟨hk,by simp[qald he]⟩,hb⟩
 unfold arrOf at ha
 split at ha
 ·cases ha
  exact(RA_of hx rfl:Rp E w F false _ _ _).widen (fun b hb=> .inl hb)
 ·cases ha
  exact(RA_of hx rfl).1.widen (fun b hb=> .inl hb)
 ·rename_i k p
  split at ha
  ·rename_i y d he
   cases hcl:clearP (restrict σ.ent rs) σ.dirty k p<;>simp only[hcl,cond_false,cond_true] at ha
   ·cases ha
   ·have hn:=RA_of hx (qaco hcl he)
    obtain⟨v',h1,h2⟩:=(qagt h (qald he)).nav ha hp
    have:v=v':=hn.unique h1
    subst this
    exact h2.widen (key k y d he (by simp[AC.keys]))
  ·cases ha
 ·rename_i k wd lo hi
  split at ha
  ·rename_i y d he
   cases hw:Nat.beq wd (U.wd y.τ)<;>simp only[hw,cond_false,cond_true] at ha
   ·cases ha
   ·cases ha
    have hwd:=zai hw
    subst hwd
    obtain⟨h1,h2⟩:=RA_of hx rfl
    subst h1
    exact((qagt h (qald he)).sub h2 (hp _ (by simp))).widen (key k y d he (by simp[AC.keys]))
  ·cases ha
 ·cases ha
theorem qabm(h:Sim E pm F kv fp σ a w){rs:List Key}{x:AC U}{v:Value}{ps:List Prop}{b:Arr U}
  (ha:arrOfP (restrict σ.ent rs) σ.dirty x=some (ps,b)) (hp:∀p∈ps,p) (hx:RD E w F kv fp (badK σ) x v):
  Rp E w (FK F fp (x.keys.filter fun k=>(σ.ent k).isSome)) false (.sl b.τ b.xs) v []:=by
 unfold arrOfP at ha
 split at ha
 rotate_left
 ·cases ha
 rename_i k i wd j p
 split at ha
 rotate_left
 ·cases ha
 rename_i y dead he
 cases hcl:clearP (restrict σ.ent rs) σ.dirty k ((i,wd,j)::p)<;>simp only[hcl,cond_false,cond_true] at ha
 ·cases ha
 split at ha
 rotate_left
 ·cases ha
 rename_i ps' b' hw
 cases ha
 have he':=qald he
 have hn:=RA_of hx (qaco hcl he)
 obtain⟨v',h1,h2⟩:=ROwnP.nav (h.ents k _ he') hw (fun q hq=>hp q (by simp[hq])) (hp _ (by simp))
 have:v=v':=hn.unique h1
 subst this
 refine h2.widen fun b hb=> ?_
 rcases hb with hb|hb
 ·exact .inl hb
 ·exact .inr ⟨k,zcg.2 ⟨by simp[AC.keys],by simp[he']⟩,hb⟩
theorem qaci(h:Sim E pm F kv fp σ a w){rs:List Key}{want:Option U.Ty}{x:AC U}{v:Value}{ps:List Prop}{c:U.C}
  (hc:cellOf (restrict σ.ent rs) σ.dirty want x=some (ps,c)) (hp:∀p∈ps,p) (hx:RD E w F kv fp (badK σ) x v):Rp E w (FK F fp (x.keys.filter fun k=>(σ.ent k).isSome)) false c v []:=by
 unfold cellOf at hc
 split at hc
 ·cases hc
  exact(RA_of hx rfl:Rp E w F false _ _ _).widen (fun b hb=> .inl hb)
 ·split at hc
  ·cases hc
   obtain⟨ad,h1⟩:=RA_of hx rfl
   subst h1
   exact .nil _ _ _ _ (by simp)
  ·cases hc
 ·split at hc
  ·rename_i ps' b ha
   cases hc
   exact arrOf_sound' h ha hp hx
  ·split at hc
   ·rename_i ps' b ha
    cases hc
    exact qabm h ha hp hx
   ·cases hc
theorem qacl(h:Sim E pm F kv fp σ a w){rs:List Key}:∀{xs:List (AC U)}{want:List (Option U.Ty)}{vs:List Value}{ps:List Prop}{cs:List U.C},
  cellsOf (restrict σ.ent rs) σ.dirty want xs=some (ps,cs)→(∀p∈ps,p)→RDs E w F kv fp (badK σ) xs vs→
  cs.length=xs.length∧∀(i:Nat)(c:U.C),cs[i]? =some c→Rp E w (FK F fp ((xs.flatMap AC.keys).filter fun k=>(σ.ent k).isSome)) false c (vs.getD i undef) []:=by
 intro xs
 induction xs with
 |nil=>
  intro want vs ps cs hc hp hx
  simp only[cellsOf,zae,zax] at hc
  obtain⟨rfl,rfl⟩:=hc
  exact⟨rfl,fun i c hc=>by simp at hc⟩
 |cons x xs ih=>
  intro want vs ps cs hc hp hx
  simp only[cellsOf] at hc
  split at hc
  ·rename_i ps1 c1 ps2 cs2 h1 h2
   cases hc
   cases vs with
   |nil=>have:=hx.1;simp at this
   |cons v vs=>
    have hx1:RD E w F kv fp (badK σ) x v:=hx.2 0 x v rfl rfl
    have hx2:RDs E w F kv fp (badK σ) xs vs:=⟨by have:=hx.1;simpa using this,fun i y u hy hu=>hx.2 (i+1) y u (by simpa using hy) (by simpa using hu)⟩
    have g1:=qaci h h1 (fun p hp'=>hp p (by simp[hp'])) hx1
    obtain⟨i1,i2⟩:=ih h2 (fun p hp'=>hp p (by simp[hp'])) hx2
    refine⟨by simp[i1],fun i c hc=> ?_⟩
    cases i with
    |zero=>
     simp only[zam,zae] at hc;subst hc
     exact g1.widen (fun b hb=>qaab (fun k hk=>by
      rw[zcg] at hk⊢
      exact⟨by rw[zbm];exact zar _ hk.1,hk.2⟩) hb)
    |succ i=>exact(i2 i c (by simpa using hc)).widen (fun b hb=>qaab (fun k hk=>by
      rw[zcg] at hk⊢
      exact⟨by rw[zbm];exact zas _ hk.1,hk.2⟩) hb)
  ·cases hc
theorem qaaa{ks K:List Key}(hK:∀k∈ks,(σ.ent k).isSome=true→k∈K){b:Nat}:FK F fp (ks.filter fun k=>(σ.ent k).isSome) b→FK F fp K b:=
 qaab (fun k hk=>by rw[zcg] at hk;exact hK k hk.1 hk.2)
theorem Rp.lit_all{m:Bool}{u v:Value}{l:List Nat}(h:Rp E w F m (.lit u) v l):l=[]∧v=u∧LitOk u:=by
 generalize hc:(Cell.lit u:U.C)=c at h
 cases h with
 |lit _ _ ho=>cases hc;exact⟨rfl,rfl,ho⟩
 |nil=>cases hc
 |shr=>cases hc
 |own=>cases hc
theorem qaka:∀{cs:List (AC U)}{l:List U.C},plain cs=some l→cs=l.map .c
 |[],l,h=>by cases h;rfl
 | .c x::r,l,h=>by
  simp only[plain] at h
  split at h
  ·rename_i l' hl;cases h;rw[qaka hl];rfl
  ·cases h
 | .e0::r,l,h=>by simp[plain] at h
 | .ref _ _::r,l,h=>by simp[plain] at h
 | .sub _ _ _ _::r,l,h=>by simp[plain] at h
 | .eptr _ _ _ _ _::r,l,h=>by simp[plain] at h
 | .bptr _ _::r,l,h=>by simp[plain] at h
 | .ia _::r,l,h=>by simp[plain] at h
 | .kn _ _ _::r,l,h=>by simp[plain] at h
theorem qabh(h:Sim E pm F kv fp σ a w){rs:List Key}{want:List (Option U.Ty)}{x:SV U}{v:Value}{ps:List Prop}{d:DV U}{K:List Key}
  (ha:argRo0 (restrict σ.ent rs) σ.dirty want x=some (ps,d)) (hp:∀p∈ps,p) (hx:RS E w F kv fp (badK σ) x v) (hK:∀k∈x.keys,(σ.ent k).isSome=true→k∈K):RArg E w (FK F fp K) .ro d v []:=by
 unfold argRo0 at ha
 split at ha
 ·rename_i cs
  cases ha
  obtain⟨b,o,h1,h2,h3⟩:=RA_of (qaak hx) rfl
  exact⟨⟨b,o,h1,.inl h2,fun j c hj=>by obtain⟨u,h4,h5⟩:=h3 j c hj;exact⟨u,h4,h5.widen (fun b hb=> .inl hb)⟩⟩,rfl⟩
 ·rename_i k off
  split at ha
  ·rename_i cs he
   split at ha
   ·rename_i l hl
    cases ha
    have hcs:=qaka hl
    obtain⟨b,h1,h2⟩:=RA_of (qaak hx) rfl
    have he':=qald he
    obtain⟨b',cur,e',g1,g2,g3,g4⟩:=h.ents k _ he'
    rw[h1] at g1
    simp only[Value.pointer.injEq,zae,Addr.mk.injEq] at g1
    obtain⟨rfl,_,_⟩:=g1
    have hk:k∈K:=hK k (by simp[SV.keys,SV.acs,AC.keys]) (by rw[he'];rfl)
    refine⟨⟨b,off,h2,.inr ⟨k,hk,by rw[g3];exact zau.2 rfl⟩,fun j c hj=> ?_⟩,rfl⟩
    rw[zbv] at hj
    have hj':cs[off+j]? =some (.c c):=by rw[hcs,zal,hj];rfl
    obtain⟨u,hu⟩:∃u,cur.toList[off+j]? =some u:=by
     have hlt:off+j<cs.length:=by
      rcases zba (off+j) cs.length with h|h
      ·exact h
      ·rw[zaj h] at hj';cases hj'
     exact⟨_,zad (by rw[←g4.1];exact hlt)⟩
    have hd:=g4.2 _ _ u hj' hu
    refine⟨u,?_,(RA_of hd rfl:Rp E w F false _ _ _).widen (fun b hb=> .inl hb)⟩
    simp only[World.cell?,g2]
    simpa using hu
   ·cases ha
  ·cases ha
 ·rename_i y _
  split at ha
  ·rename_i ps' c hc
   cases ha
   exact⟨(qaci h hc hp (qaak hx)).widen (fun b hb=>qaaa (fun k hk=>hK k (by simpa[SV.keys,SV.acs] using hk)) hb),rfl⟩
  ·cases ha
 ·rename_i cs
  split at ha
  ·rename_i ps' l hl
   cases ha
   obtain⟨vs,h1,h2⟩:=hx
   simp only[if_true] at h2
   obtain⟨g1,g2⟩:=qacl h hl hp h1
   exact⟨vs,h2,by rw[g1];exact h1.1.symm,fun i c hc=>(g2 i c hc).widen (fun b hb=>qaaa (fun k hk=>hK k (by simpa[SV.keys,SV.acs] using hk)) hb),rfl⟩
  ·cases ha
 ·cases ha
theorem RArg.keepRo{w w':World}{F F':Nat→Prop}{d:DV U}{v:Value}{l:List Nat}(h:RArg E w F .ro d v l)(hF:∀b,F b→F' b∧w'.heap[b]? =w.heap[b]?):RArg E w' F' .ro d v l:=by
 cases d with
 |one c=>exact⟨h.1.keep hF (by simp),h.2⟩
 |agg cs=>
  obtain⟨vs,h1,h2,h3,h4⟩:=h
  exact⟨vs,h1,h2,fun i c hc=>(h3 i c hc).keep hF (by simp),h4⟩
 |ptr cs=>
  obtain⟨⟨b,o,h1,h2,h3⟩,h4⟩:=h
  refine⟨⟨b,o,h1,(hF b h2).1,fun j c hj=> ?_⟩,h4⟩
  obtain⟨u,g1,g2⟩:=h3 j c hj
  refine⟨u,?_,g2.keep hF (by simp)⟩
  rw[World.cell?_of_block (w:=w) (a:=⟨b,o+j,none⟩) (hF b h2).2];exact g1
 |box _=>exact h.elim
 |fn p=>exact⟨FnSpec.keep h.1 hF,h.2⟩
theorem RDA.arg{w:World}{F:Nat→Prop}{d:DA U}{v:Value}(h:RDA E w F d v):RArg E w F .ro d.dv v []:=by
 obtain⟨g,cs⟩:=d
 obtain⟨vs,h1,h2,h3⟩:=h
 cases g with
 |true=>
  simp only[if_true] at h3
  have e:(DA.mk true cs:DA U).dv=.agg cs:=rfl
  rw[e]
  exact⟨vs,h3,h1,h2,rfl⟩
 |false=>
  simp only[zbg,if_false] at h3
  subst h3
  match cs,h1,h2 with
  |[c],h1,h2=>exact⟨h2 0 c rfl,rfl⟩
theorem RArgs.ofRo{w:World}{F:Nat→Prop}:∀{ms:List Mode}{ds:List (DV U)}{vs:List Value},allRo ms=true→ms.length=ds.length→ds.length=vs.length→(∀(i:Nat)(d:DV U)(v:Value),ds[i]? =some d→vs[i]? =some v→RArg E w F .ro d v [])→
  RArgs E w F ms ds vs (List.replicate ms.length [])
 |[],[],[],_,_,_,_=>trivial
 |m::ms,d::ds,v::vs,hr,h1,h2,h=>by
  cases m with
  |ro=>exact⟨h 0 d v rfl rfl,RArgs.ofRo (by simpa[allRo] using hr) (by simpa using h1) (by simpa using h2) (fun i d v hd hv=>h (i+1) d v (by simpa using hd) (by simpa using hv))⟩
  |wr=>simp[allRo] at hr
  |mv=>simp[allRo] at hr
  |box _=>simp[allRo] at hr
 |[],_::_,_,_,h1,_,_=>by simp at h1
 |_::_,[],_,_,h1,_,_=>by simp at h1
 |[],[],_::_,_,_,h2,_=>by simp at h2
 |_::_,_::_,[],_,_,h2,_=>by simp at h2
theorem qacg(h:Sim E pm F kv fp σ a w){rs:List Key}{K:List Key}:∀{xs:List (AV U)}{vs:List Value}{ps:List Prop}{ds:List (DV U)},capsOf (restrict σ.ent rs) σ.dirty xs=some (ps,ds)→(∀p∈ps,p)→xs.length=vs.length→
  (∀(i:Nat)(x:AV U)(u:Value),xs[i]? =some x→vs[i]? =some u→RV E w F kv fp (badK σ) x u)→(∀x∈xs,∀y∈x.cs,∀k∈y.keys,(σ.ent k).isSome=true→k∈K)→
  ds.length=vs.length∧∀(i:Nat)(d:DV U)(v:Value),ds[i]? =some d→vs[i]? =some v→RArg E w (FK F fp K) .ro d v []:=by
 intro xs
 induction xs with
 |nil=>
  intro vs ps ds hc hp hl hx hK
  simp only[capsOf,zae,zax] at hc
  obtain⟨rfl,rfl⟩:=hc
  exact⟨hl,fun i d v hd=>by simp at hd⟩
 |cons x xs ih=>
  intro vs ps ds hc hp hl hx hK
  cases vs with
  |nil=>simp at hl
  |cons v vs=>
   simp only[capsOf] at hc
   split at hc
   ·rename_i ps1 d1 ps2 ds2 h1 h2
    cases hc
    obtain⟨i1,i2⟩:=ih h2 (fun p hp'=>hp p (by simp[hp'])) (by simpa using hl) (fun i y u hy hu=>hx (i+1) y u (by simpa using hy) (by simpa using hu)) (fun y hy=>hK y (zaa _ hy))
    refine⟨by simp[i1],fun i d u hd hu=> ?_⟩
    cases i with
    |zero=>
     simp only[zam,zae] at hd hu
     subst hd;subst hu
     exact qabh h h1 (fun p hp'=>hp p (by simp[hp'])) (show RS E w F kv fp (badK σ) (.v x) v from hx 0 x v rfl rfl) (fun k hk=>by
      obtain⟨y,hy,hk⟩:=SV.mem_keys.1 hk
      exact hK x zab y hy k hk)
    |succ i=>exact i2 i d u (by simpa using hd) (by simpa using hu)
   ·cases hc
theorem qacq{w:World}{F:Nat→Prop}(hlay:Lay E w F){g:FuncId}{k:Con U}{vs:List Value}{ds:List (DV U)}(hf:FnOk E.P g)(hk:SoundCon E g k)(hr:allRo k.md=true)(hl:ds.length=vs.length)
  (hd:∀(i:Nat)(d:DV U)(v:Value),ds[i]? =some d→vs[i]? =some v→RArg E w F .ro d v []):FnSpec E w F (closP k ds) (.func (.func g) #[] vs.toArray):=by
 refine⟨g,_,rfl,hf,fun das r hp w' F' hF hlt us hus=> ?_⟩
 unfold closP at hp
 split at hp
 ·rename_i x hof
  split at hp
  ·rename_i v hval hmut
   split at hp
   ·rename_i hc
    cases hp
    obtain⟨hc1,hc2⟩:=hc
    have hlaw:=k.law _ x hof
    have hlen:(das.map DA.dv++ds).length=(us++vs).length:=by simp[hus.1,hl]
    have hra:=RArgs.ofRo (E:=E) (w:=w') (F:=F') (ms:=k.md) (ds:=das.map DA.dv++ds) (vs:=us++vs) hr (by simp[hc1]) hlen (fun i d u hd' hu=>by
     rcases zba i us.length with hi|hi
     ·rw[zaq (by simpa[hus.1] using hi)] at hd'
      rw[zaq hi] at hu
      rw[zal] at hd'
      cases hda:das[i]? with
      |none=>rw[hda] at hd';cases hd'
      |some da=>rw[hda] at hd';cases hd';exact(hus.2 i da u hda hu).arg
     ·rw[zap (by simpa[hus.1] using hi)] at hd'
      rw[zap hi] at hu
      have e:(das.map DA.dv).length=us.length:=by simp[hus.1]
      rw[e] at hd'
      exact(hd _ d u hd' hu).keepRo hF)
    have hfl:(List.replicate k.md.length ([]:List Nat)).flatten=[]:=by simp
    have:=hk x hc2 w' F' (us++vs) (List.replicate k.md.length []) hlt (hlay.keep hF) (by rw[hlaw];exact hra) (restLen_ro hr) (by rw[hfl];exact zdu) (by rw[hfl];simp)
    have e:us.toArray++vs.toArray=(us++vs).toArray:=by simp
    rw[e]
    refine this.mono ?_
    rintro e w'' ⟨rus,rls,mls,rfl,h1,h2,_⟩
    rw[hfl] at h1
    rw[hval] at h2
    cases rus with
    |nil=>exact h2.elim
    |cons u rus=>cases rls with
     |nil=>exact h2.elim
     |cons l rls=>cases rus with
      |cons _ _=>exact h2.2.elim
      |nil=>
       have h3:=h2.1
       have key:∀fresh,RRes E w'' (grownF F' w' w'' ((l::rls).flatten++mls.flatten)) fresh (.one (.lit r)) u l→u=r∧LitOk r:=by
        intro fresh h
        cases fresh with
        |true=>exact⟨(Rp.lit_all h).2.1,(Rp.lit_all h).2.2⟩
        |false=>exact⟨(Rp.lit_all h.1).2.1,(Rp.lit_all h.1).2.2⟩
       obtain⟨e1,e2⟩:=key _ h3
       exact⟨by rw[e1];rfl,e2,h1.mono (by simp)⟩
   ·cases hp
  ·cases hp
 ·cases hp
theorem qabf(hC:∀g k,E.con g=some k→FnOk E.P g∧SoundCon E g k)(h:Sim E pm F kv fp σ a w){rs:List Key}{want:List (Option U.Ty)}{x:SV U}{v:Value}{ps:List Prop}{d:DV U}{K:List Key}
  (ha:argOf E (restrict σ.ent rs) σ.dirty want .ro x=some (ps,d)) (hp:∀p∈ps,p) (hx:RS E w F kv fp (badK σ) x v) (hK:∀k∈x.keys,(σ.ent k).isSome=true→k∈K):RArg E w (FK F fp K) .ro d v []:=by
 simp only[argOf] at ha
 unfold argRo at ha
 split at ha
 ·cases ha
  exact⟨FnSpec.keep hx (fun b hb=>⟨.inl hb,rfl⟩),rfl⟩
 ·rename_i g xs
  split at ha
  ·rename_i k ps' ds hk hcs
   rw[zah] at ha
   split at ha
   ·rename_i hc
    simp only[zaf] at hc
    cases ha
    obtain⟨vs,rfl,hl,hvs⟩:=hx
    obtain⟨h1,h2⟩:=qacg (K:=K) h hcs hp hl hvs (fun y hy z hz k' hk'=>hK k' (SV.mem_keys.2 ⟨z,zat.2 ⟨y,hy,hz⟩,hk'⟩))
    exact⟨qacq (h.lay.keep fun b hb=>⟨.inl hb,rfl⟩) (hC g k hk).1 (hC g k hk).2 hc.1 h1 h2,rfl⟩
   ·cases ha
  ·cases ha
 ·exact qabh h ha hp hx hK
theorem qaky{w:World}{b:Nat}{cur:Array Value}{e:TypeId}(h:w.heap[b]? =some (.cells cur e (0,0)))(n:Nat):restAt w (.pointer (some ⟨b,0,none⟩)) n=cur.toList.drop n:=by
 simp only[restAt,h]
theorem RDs.cons_inv{x:AC U}{xs:List (AC U)}{vs:List Value}(h:RDs E w F kv fp bad (x::xs) vs):∃v vs',vs=v::vs'∧RD E w F kv fp bad x v∧RDs E w F kv fp bad xs vs':=by
 cases vs with
 |nil=>have:=h.1;simp at this
 |cons v vs=>exact⟨v,vs,rfl,h.2 0 x v rfl rfl,by have:=h.1;simpa using this,fun i y u hy hu=>h.2 (i+1) y u (by simpa using hy) (by simpa using hu)⟩
theorem RDs.cons{x:AC U}{xs:List (AC U)}{v:Value}{vs:List Value}(h:RD E w F kv fp bad x v)(h':RDs E w F kv fp bad xs vs):RDs E w F kv fp bad (x::xs) (v::vs):=by
 refine⟨by simp[h'.1],fun i y u hy hu=> ?_⟩
 cases i with
 |zero=>simp only[zam,zae] at hy hu;subst hy hu;exact h
 |succ i=>exact h'.2 i y u (by simpa using hy) (by simpa using hu)
theorem ROwn.rp{y:Arr U}{v:Value}{l:List Nat}(h:ROwn E w F true y v l):Rp E w F true (.sl y.τ y.xs) v l:=by
 obtain⟨τ,xs⟩:=y
 rcases h with⟨h1,⟨ad,rfl⟩,rfl⟩|⟨b,cap,cur,vs,fps,rfl,h2,h3,h4,h5,h6,h7,rfl⟩
 ·simp only at h1
  subst h1
  exact .nil _ _ _ _ (fun _=>rfl)
 ·exact .own τ xs b cap cur vs fps h2 h3 h4 h5 h6 h7
theorem qanx(h:Sim E pm F kv fp σ a w){rs:List Key}:∀{xs:List (AC U)}{vs:List Value}{cs:List U.C}{ks:List Key},wrCells (restrict σ.ent rs) xs=some (cs,ks)→RDs E w F kv fp (badK σ) xs vs→
  cs.length=xs.length∧(∀k∈ks,(σ.ent k).isSome=true)∧∃fl:List (List Nat),fl.length=cs.length∧(∀(i:Nat)(c:U.C),cs[i]? =some c→Rp E w F true c (vs.getD i undef) (fl.getD i []))∧fl.flatten=ks.flatMap fp
 |[],vs,cs,ks,hw,hx=>by
  simp only[wrCells,zae,zax] at hw
  obtain⟨rfl,rfl⟩:=hw
  exact⟨rfl,by simp,[],rfl,fun i c hc=>by simp at hc,rfl⟩
 |x::xs,vs,cs,ks,hw,hx=>by
  obtain⟨v,vs',rfl,h1,h2⟩:=hx.cons_inv
  have put:∀{c:U.C}{cs':List U.C}{ks':List Key}{l:List Nat},Rp E w F true c v l→(cs'.length=xs.length∧(∀k∈ks',(σ.ent k).isSome=true)∧∃fl:List (List Nat),fl.length=cs'.length∧(∀(i:Nat)(c:U.C),cs'[i]? =some c→Rp E w F true c (vs'.getD i undef) (fl.getD i []))∧fl.flatten=ks'.flatMap fp)→
    ∃fl:List (List Nat),fl.length=(c::cs').length∧(∀(i:Nat)(c':U.C),(c::cs')[i]? =some c'→Rp E w F true c' ((v::vs').getD i undef) (fl.getD i []))∧fl.flatten=l++ks'.flatMap fp:=by
   rintro c cs' ks' l hr ⟨_,_,fl,f1,f2,f3⟩
   refine⟨l::fl,by simp[f1],fun i c' hc=> ?_,by simp[f3]⟩
   cases i with
   |zero=>simp only[zam,zae] at hc;subst hc;simpa using hr
   |succ i=>simpa using f2 i c' (by simpa using hc)
  unfold wrCells at hw
  split at hw
  ·rename_i heq;cases heq
  ·rename_i u r heq
   cases heq
   split at hw
   ·rename_i cs' ks' hr
    cases hw
    have ih:=qanx h hr h2
    have hl:Rp E w F false _ v []:=RA_of h1 rfl
    obtain⟨_,hvu,ho⟩:=hl.lit_all
    subst hvu
    obtain⟨fl,f1,f2,f3⟩:=put (.lit true _ ho) ih
    exact⟨by simp[ih.1],ih.2.1,fl,f1,f2,by simpa using f3⟩
   ·cases hw
  ·rename_i k r heq
   cases heq
   split at hw
   ·rename_i y cs' ks' he hr
    cases hw
    have ih:=qanx h hr h2
    have he':=qald he
    have hv:v=kv k:=RA_of h1 rfl
    have ho:ROwn E w F true y (kv k) (fp k):=h.ents k _ he'
    obtain⟨fl,f1,f2,f3⟩:=put (c:=.sl y.τ y.xs) (by rw[hv];exact ho.rp) ih
    exact⟨by simp[ih.1],fun k' hk'=>by
     rcases zak.1 hk' with rfl|hk'
     ·rw[he'];rfl
     ·exact ih.2.1 k' hk',fl,f1,f2,by simpa using f3⟩
   ·cases hw
  ·cases hw
end AM
