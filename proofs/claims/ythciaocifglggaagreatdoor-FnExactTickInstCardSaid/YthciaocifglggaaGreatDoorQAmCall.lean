import Derived.Test.YthciaocifglggaaGreatDoorQAmOps8
namespace AM
set_option linter.unusedVariables false
open Go
variable{U:kz}
def qc(w:World)(v:Value)(n:Nat):List Value:=match v with
 | .pointer (some a)=>match w.heap[a.block]? with
  |some (.cells cur _ _)=>cur.toList.drop n
  |_=>[]
 |_=>[]
section
variable(E:Env U)(w:World)(F:Nat->Prop)
def pW(own:Bool)(cs:List U.C)(rest:List Value)(v:Value)(l:List Nat):Prop:=
 ∃(b:Nat)(cur:Array Value)(e:TypeId)(fl:List (List Nat)),v=.pointer (some ⟨b,0,none⟩)/\w.heap[b]? =some (.cells cur e (0,0))/\cs.length<=cur.size/\cur.toList.drop cs.length=rest/\(∀u∈rest,fA u)/\
  fl.length=cs.length/\(∀(i:Nat)(c:U.C),cs[i]? =some c->Rp E w F own c (cur.toList.getD i undef) (fl.getD i []))/\l=b::fl.flatten
def lp(cs:List U.C)(v:Value)(l:List Nat):Prop:=
 ∃(vs:List Value)(fl:List (List Nat)),v=.agg vs.toArray/\vs.length=cs.length/\fl.length=cs.length/\(∀(i:Nat)(c:U.C),cs[i]? =some c->Rp E w F true c (vs.getD i undef) (fl.getD i []))/\l=fl.flatten
def mg:Mode->DV U->Value->List Nat->Prop
 | .ro,.one c,v,l=>Rp E w F false c v []/\l=[]
 | .ro,.agg cs,v,l=>∃vs:List Value,v=.agg vs.toArray/\vs.length=cs.length/\(∀(i:Nat)(c:U.C),cs[i]? =some c->Rp E w F false c (vs.getD i undef) [])/\l=[]
 | .ro,.ptr cs,v,l=>(∃b o,v=.pointer (some ⟨b,o,none⟩)/\F b/\∀(j:Nat)(c:U.C),cs[j]? =some c->∃u,w.cell? ⟨b,o+j,none⟩=some u/\Rp E w F false c u [])/\l=[]
 | .ro,.fn p,v,l=>mh E w F p v/\l=[]
 | .wr,.one (.sl τ xs),v,l=>eu E w F true ⟨τ,xs⟩ v l
 | .wr,.agg cs,v,l=>lp E w F cs v l
 | .mv,.one c,v,l=>Rp E w F true c v l
 | .mv,.agg cs,v,l=>lp E w F cs v l
 | .box own,.box cs,v,l=>pW E w F own cs (qc w v cs.length) v l
 |_,_,_,_=>False
def iY:List Mode->List (DV U)->List Value->List (List Nat)->Prop
 |[],[],[],[]=>True
 |m::ms,d::ds,v::vs,l::ls=>mg E w F m d v l/\iY ms ds vs ls
 |_,_,_,_=>False
def kc(fresh:Bool):DV U->Value->List Nat->Prop
 | .one c,v,l=>if fresh then Rp E w F true c v l else Rp E w F false c v []/\l=[]
 | .agg cs,v,l=>if fresh then lp E w F cs v l
   else∃vs:List Value,v=.agg vs.toArray/\vs.length=cs.length/\(∀(i:Nat)(c:U.C),cs[i]? =some c->Rp E w F false c (vs.getD i undef) [])/\l=[]
 | .box cs,v,l=>fresh=true/\∃b cur e,v=.pointer (some ⟨b,0,none⟩)/\w.heap[b]? =some (.cells cur e (0,0))/\l=[b]/\cur.size=cs.length/\∀(i:Nat)(c:U.C),cs[i]? =some c->Rp E w F false c (cur.toList.getD i undef) []
 | .ptr _,_,_=>False
 | .fn _,_,_=>False
def lW:List Bool->List (DV U)->List Value->List (List Nat)->Prop
 |_,[],[],[]=>True
 |fs,d::ds,v::vs,l::ls=>kc E w F (fs.headD true) d v l/\lW fs.tail ds vs ls
 |_,_,_,_=>False
def eR(w0:World):List Mode->List Value->List (DV U)->List (List Nat)->Prop
 |[],[],[],[]=>True
 | .ro::ms,_::vs,ds,ls=>eR w0 ms vs ds ls
 | .mv::ms,_::vs,ds,ls=>eR w0 ms vs ds ls
 | .wr::ms,v::vs,.one (.sl τ ys)::ds,l::ls=>eu E w F true ⟨τ,ys⟩ v l/\eR w0 ms vs ds ls
 | .wr::ms,v::vs,.agg cs::ds,l::ls=>lp E w F cs v l/\eR w0 ms vs ds ls
 | .box own::ms,v::vs,.box cs::ds,l::ls=>pW E w F own cs (qc w0 v cs.length) v l/\eR w0 ms vs ds ls
 |_,_,_,_=>False
end
def J9:List Value->Value
 |[v]=>v
 |vs=> .tuple vs.toArray
def Bp(F:Nat->Prop)(w w':World)(own ab9:List Nat)(b:Nat):Prop:=F b\/((w.heap.size<=b\/b∈ab9)/\b<w'.heap.size/\b∉own)
def rh(w:World)(n:Nat):List Mode->List (DV U)->List Value->Prop
 |m::ms,d::ds,v::vs=>(∀own cs,m=.box own->d=.box cs->(qc w v cs.length).length=n)/\rh w n ms ds vs
 |_,_,_=>True
theorem ub{w:World}{n:Nat}:∀{ms:List Mode}{ds:List (DV U)}{vs:List Value},oZ ms=true->rh w n ms ds vs
 |[],_,_,_=>trivial
 |_::_,[],_,_=>trivial
 |_::_,_::_,[],_=>trivial
 |m::ms,d::ds,v::vs,h=>by
  cases m with
  |ro=>exact⟨fun own cs hm=>(by cases hm),ub (by simpa[oZ] using h)⟩
  |wr=>simp[oZ] at h
  |mv=>simp[oZ] at h
  |box _=>simp[oZ] at h
def ee(E:Env U)(f:FuncId)(k:jH U):Prop:=
 ∀x:k.α,(∀p∈k.pre x,p)->∀(w:World)(F:Nat->Prop)(vs:List Value)(ls:List (List Nat)),(∀b,F b->b<w.heap.size)->Lj E w F->iY E w F k.md (k.ds x) vs ls->rh w k.FW k.md (k.ds x) vs->ls.flatten.Nodup->
  (∀b∈ls.flatten,b<w.heap.size/\¬F b)->
  Calls E.P f vs.toArray w fun e w'=>∃(us:List Value)(pY iB:List (List Nat)),e=.returned (J9 us)/\gy (·∈ls.flatten) w w'/\
   lW E w' (Bp F w w' (pY.flatten++iB.flatten) ls.flatten) (k.mE x).fresh (k.mE x).val us pY/\
   eR E w' (Bp F w w' (pY.flatten++iB.flatten) ls.flatten) w k.md vs (k.mE x).Gg iB/\
   (pY.flatten++iB.flatten).Nodup/\(∀b∈pY.flatten,(b∈ls.flatten\/w.heap.size<=b)/\b<w'.heap.size)/\(∀b∈iB.flatten,b∈ls.flatten\/(w.heap.size<=b/\b<w'.heap.size))
variable{E:Env U}{pm:Pm}
variable{F F':Nat->Prop}{kv:Key->Value}{fp:Key->List Nat}{σ:af U}{a:Act}{w w':World}{bad:Key->Bool}
theorem vQ(h:cG E pm F kv fp σ a w){rs:List Key}{x:AC U}{v:Value}{ps:List Prop}{b:eK U}
  (ha:oW (restrict σ.bH rs) σ.aC x=some (ps,b)) (hp:∀p∈ps,p) (hx:RD E w F kv fp (bW σ) x v):
  Rp E w (FK F fp (x.keys.filter fun k=>(σ.bH k).isSome)) false (.sl b.τ b.xs) v []:=by
 have key:∀(k:Key)(y:eK U)(d:Bool),restrict σ.bH rs k=some (.arr y d)->k∈x.keys->∀b,(F b\/b∈fp k)->FK F fp (x.keys.filter fun k=>(σ.bH k).isSome) b:=by
  intro k y d he hk b hb
  rcases hb with hb|hb
  ·exact .inl hb
  ·exact .inr ⟨k,BW.2 ⟨hk,by simp[jx he]⟩,hb⟩
 unfold oW at ha
 split at ha
 ·cases ha
  exact(cn hx rfl:Rp E w F false _ _ _).fh (fun b hb=> .inl hb)
 ·cases ha
  exact(cn hx rfl).1.fh (fun b hb=> .inl hb)
 ·rename_i k p
  split at ha
  ·rename_i y d he
   cases gU:fg (restrict σ.bH rs) σ.aC k p<;>simp only[gU,cond_false,cond_true] at ha
   ·cases ha
   ·have hn:=cn hx (DF gU he)
    obtain⟨v',h1,h2⟩:=(Ka h (jx he)).Y_ ha hp
    have:v=v':=hn.unique h1
    subst this
    exact h2.fh (key k y d he (by simp[AC.keys]))
  ·cases ha
 ·rename_i k wd lo hi
  split at ha
  ·rename_i y d he
   cases hw:Nat.beq wd (U.wd y.τ)<;>simp only[hw,cond_false,cond_true] at ha
   ·cases ha
   ·cases ha
    have sK:=lN hw
    subst sK
    obtain⟨h1,h2⟩:=cn hx rfl
    subst h1
    exact((Ka h (jx he)).sub h2 (hp _ (by simp))).fh (key k y d he (by simp[AC.keys]))
  ·cases ha
 ·cases ha
theorem alO(h:cG E pm F kv fp σ a w){rs:List Key}{x:AC U}{v:Value}{ps:List Prop}{b:eK U}
  (ha:xg (restrict σ.bH rs) σ.aC x=some (ps,b)) (hp:∀p∈ps,p) (hx:RD E w F kv fp (bW σ) x v):
  Rp E w (FK F fp (x.keys.filter fun k=>(σ.bH k).isSome)) false (.sl b.τ b.xs) v []:=by
 unfold xg at ha
 split at ha
 rotate_left
 ·cases ha
 rename_i k i wd j p
 split at ha
 rotate_left
 ·cases ha
 rename_i y dead he
 cases gU:fg (restrict σ.bH rs) σ.aC k ((i,wd,j)::p)<;>simp only[gU,cond_false,cond_true] at ha
 ·cases ha
 split at ha
 rotate_left
 ·cases ha
 rename_i Ga b' hw
 cases ha
 have eG:=jx he
 have hn:=cn hx (DF gU he)
 obtain⟨v',h1,h2⟩:=dU.Y_ (h.cV k _ eG) hw (fun q hq=>hp q (by simp[hq])) (hp _ (by simp))
 have:v=v':=hn.unique h1
 subst this
 refine h2.fh fun b hb=> ?_
 rcases hb with hb|hb
 ·exact .inl hb
 ·exact .inr ⟨k,BW.2 ⟨by simp[AC.keys],by simp[eG]⟩,hb⟩
theorem abh(h:cG E pm F kv fp σ a w){rs:List Key}{want:Option U.Ty}{x:AC U}{v:Value}{ps:List Prop}{c:U.C}
  (hc:cellOf (restrict σ.bH rs) σ.aC want x=some (ps,c)) (hp:∀p∈ps,p) (hx:RD E w F kv fp (bW σ) x v):Rp E w (FK F fp (x.keys.filter fun k=>(σ.bH k).isSome)) false c v []:=by
 unfold cellOf at hc
 split at hc
 ·cases hc
  exact(cn hx rfl:Rp E w F false _ _ _).fh (fun b hb=> .inl hb)
 ·split at hc
  ·cases hc
   obtain⟨ad,h1⟩:=cn hx rfl
   subst h1
   exact .nil _ _ _ _ (by simp)
  ·cases hc
 ·split at hc
  ·rename_i Ga b ha
   cases hc
   exact vQ h ha hp hx
  ·split at hc
   ·rename_i Ga b ha
    cases hc
    exact alO h ha hp hx
   ·cases hc
theorem abg(h:cG E pm F kv fp σ a w){rs:List Key}:∀{xs:List (AC U)}{want:List (Option U.Ty)}{vs:List Value}{ps:List Prop}{cs:List U.C},
  cellsOf (restrict σ.bH rs) σ.aC want xs=some (ps,cs)->(∀p∈ps,p)->kX E w F kv fp (bW σ) xs vs->
  cs.length=xs.length/\∀(i:Nat)(c:U.C),cs[i]? =some c->Rp E w (FK F fp ((xs.flatMap AC.keys).filter fun k=>(σ.bH k).isSome)) false c (vs.getD i undef) []:=by
 intro xs
 induction xs with
 |nil=>
  intro want vs ps cs hc hp hx
  simp only[cellsOf,fJ,nE] at hc
  obtain⟨rfl,rfl⟩:=hc
  exact⟨rfl,fun i c hc=>by simp at hc⟩
 |cons x xs ih=>
  intro want vs ps cs hc hp hx
  simp only[cellsOf] at hc
  split at hc
  ·rename_i ON c1 WJ cs2 h1 h2
   cases hc
   cases vs with
   |nil=>have:=hx.1;simp at this
   |cons v vs=>
    have Zb:RD E w F kv fp (bW σ) x v:=hx.2 0 x v rfl rfl
    have hx2:kX E w F kv fp (bW σ) xs vs:=⟨by have:=hx.1;simpa using this,fun i y u hy hu=>hx.2 (i+1) y u (by simpa using hy) (by simpa using hu)⟩
    have g1:=abh h h1 (fun p j_=>hp p (by simp[j_])) Zb
    obtain⟨i1,i2⟩:=ih h2 (fun p j_=>hp p (by simp[j_])) hx2
    refine⟨by simp[i1],fun i c hc=> ?_⟩
    cases i with
    |zero=>
     simp only[sB,fJ] at hc;subst hc
     exact g1.fh (fun b hb=>DI (fun k hk=>by
      rw[BW] at hk⊢
      exact⟨by rw[xv];exact pw _ hk.1,hk.2⟩) hb)
    |succ i=>exact(i2 i c (by simpa using hc)).fh (fun b hb=>DI (fun k hk=>by
      rw[BW] at hk⊢
      exact⟨by rw[xv];exact oq _ hk.1,hk.2⟩) hb)
  ·cases hc
theorem abu{ks K:List Key}(hK:∀k∈ks,(σ.bH k).isSome=true->k∈K){b:Nat}:FK F fp (ks.filter fun k=>(σ.bH k).isSome) b->FK F fp K b:=
 DI (fun k hk=>by rw[BW] at hk;exact hK k hk.1 hk.2)
theorem Rp.jC{m:Bool}{u v:Value}{l:List Nat}(h:Rp E w F m (.lit u) v l):l=[]/\v=u/\fA u:=by
 generalize hc:(Cell.lit u:U.C)=c at h
 cases h with
 |lit _ _ ho=>cases hc;exact⟨rfl,rfl,ho⟩
 |nil=>cases hc
 |shr=>cases hc
 |own=>cases hc
theorem J':∀{cs:List (AC U)}{l:List U.C},plain cs=some l->cs=l.map .c
 |[],l,h=>by cases h;rfl
 | .c x::r,l,h=>by
  simp only[plain] at h
  split at h
  ·rename_i l' hl;cases h;rw[J' hl];rfl
  ·cases h
 | .e0::r,l,h=>by simp[plain] at h
 | .ref _ _::r,l,h=>by simp[plain] at h
 | .sub _ _ _ _::r,l,h=>by simp[plain] at h
 | .kM _ _ _ _ _::r,l,h=>by simp[plain] at h
 | .j0 _ _::r,l,h=>by simp[plain] at h
 | .ia _::r,l,h=>by simp[plain] at h
 | .kn _ _ _::r,l,h=>by simp[plain] at h
theorem PM(h:cG E pm F kv fp σ a w){rs:List Key}{want:List (Option U.Ty)}{x:SV U}{v:Value}{ps:List Prop}{d:DV U}{K:List Key}
  (ha:sk (restrict σ.bH rs) σ.aC want x=some (ps,d)) (hp:∀p∈ps,p) (hx:RS E w F kv fp (bW σ) x v) (hK:∀k∈x.keys,(σ.bH k).isSome=true->k∈K):mg E w (FK F fp K) .ro d v []:=by
 unfold sk at ha
 split at ha
 ·rename_i cs
  cases ha
  obtain⟨b,o,h1,h2,h3⟩:=cn (DH hx) rfl
  exact⟨⟨b,o,h1,.inl h2,fun j c hj=>by obtain⟨u,h4,h5⟩:=h3 j c hj;exact⟨u,h4,h5.fh (fun b hb=> .inl hb)⟩⟩,rfl⟩
 ·rename_i k off
  split at ha
  ·rename_i cs he
   split at ha
   ·rename_i l hl
    cases ha
    have sN:=J' hl
    obtain⟨b,h1,h2⟩:=cn (DH hx) rfl
    have eG:=jx he
    obtain⟨b',cur,e',g1,g2,g3,g4⟩:=h.cV k _ eG
    rw[h1] at g1
    simp only[Value.pointer.injEq,fJ,Addr.mk.injEq] at g1
    obtain⟨rfl,_,_⟩:=g1
    have hk:k∈K:=hK k (by simp[SV.keys,SV.yL,AC.keys]) (by rw[eG];rfl)
    refine⟨⟨b,off,h2,.inr ⟨k,hk,by rw[g3];exact oa.2 rfl⟩,fun j c hj=> ?_⟩,rfl⟩
    rw[Dt] at hj
    have tH:cs[off+j]? =some (.c c):=by rw[sN,lZ,hj];rfl
    obtain⟨u,hu⟩:∃u,cur.toList[off+j]? =some u:=by
     have fX:off+j<cs.length:=by
      rcases mX (off+j) cs.length with h|h
      ·exact h
      ·rw[mi h] at tH;cases tH
     exact⟨_,gg (by rw[<-g4.1];exact fX)⟩
    have hd:=g4.2 _ _ u tH hu
    refine⟨u,?_,(cn hd rfl:Rp E w F false _ _ _).fh (fun b hb=> .inl hb)⟩
    simp only[World.cell?,g2]
    simpa using hu
   ·cases ha
  ·cases ha
 ·rename_i y _
  split at ha
  ·rename_i Ga c hc
   cases ha
   exact⟨(abh h hc hp (DH hx)).fh (fun b hb=>abu (fun k hk=>hK k (by simpa[SV.keys,SV.yL] using hk)) hb),rfl⟩
  ·cases ha
 ·rename_i cs
  split at ha
  ·rename_i Ga l hl
   cases ha
   obtain⟨vs,h1,h2⟩:=hx
   simp only[if_true] at h2
   obtain⟨g1,g2⟩:=abg h hl hp h1
   exact⟨vs,h2,by rw[g1];exact h1.1.symm,fun i c hc=>(g2 i c hc).fh (fun b hb=>abu (fun k hk=>hK k (by simpa[SV.keys,SV.yL] using hk)) hb),rfl⟩
  ·cases ha
 ·cases ha
theorem mg.WR{w w':World}{F F':Nat->Prop}{d:DV U}{v:Value}{l:List Nat}(h:mg E w F .ro d v l)(hF:∀b,F b->F' b/\w'.heap[b]? =w.heap[b]?):mg E w' F' .ro d v l:=by
 cases d with
 |one c=>exact⟨h.1.fE hF (by simp),h.2⟩
 |agg cs=>
  obtain⟨vs,h1,h2,h3,h4⟩:=h
  exact⟨vs,h1,h2,fun i c hc=>(h3 i c hc).fE hF (by simp),h4⟩
 |ptr cs=>
  obtain⟨⟨b,o,h1,h2,h3⟩,h4⟩:=h
  refine⟨⟨b,o,h1,(hF b h2).1,fun j c hj=> ?_⟩,h4⟩
  obtain⟨u,g1,g2⟩:=h3 j c hj
  refine⟨u,?_,g2.fE hF (by simp)⟩
  rw[World.cell?_of_block (w:=w) (a:=⟨b,o+j,none⟩) (hF b h2).2];exact g1
 |box _=>exact h.elim
 |fn p=>exact⟨mh.fE h.1 hF,h.2⟩
theorem Zs.arg{w:World}{F:Nat->Prop}{d:DA U}{v:Value}(h:Zs E w F d v):mg E w F .ro d.dv v []:=by
 obtain⟨g,cs⟩:=d
 obtain⟨vs,h1,h2,h3⟩:=h
 cases g with
 |true=>
  simp only[if_true] at h3
  have e:(DA.mk true cs:DA U).dv=.agg cs:=rfl
  rw[e]
  exact⟨vs,h3,h1,h2,rfl⟩
 |false=>
  simp only[wE,if_false] at h3
  subst h3
  match cs,h1,h2 with
  |[c],h1,h2=>exact⟨h2 0 c rfl,rfl⟩
theorem iY.Mr{w:World}{F:Nat->Prop}:∀{ms:List Mode}{ds:List (DV U)}{vs:List Value},oZ ms=true->ms.length=ds.length->ds.length=vs.length->(∀(i:Nat)(d:DV U)(v:Value),ds[i]? =some d->vs[i]? =some v->mg E w F .ro d v [])->
  iY E w F ms ds vs (List.replicate ms.length [])
 |[],[],[],_,_,_,_=>trivial
 |m::ms,d::ds,v::vs,hr,h1,h2,h=>by
  cases m with
  |ro=>exact⟨h 0 d v rfl rfl,iY.Mr (by simpa[oZ] using hr) (by simpa using h1) (by simpa using h2) (fun i d v hd hv=>h (i+1) d v (by simpa using hd) (by simpa using hv))⟩
  |wr=>simp[oZ] at hr
  |mv=>simp[oZ] at hr
  |box _=>simp[oZ] at hr
 |[],_::_,_,_,h1,_,_=>by simp at h1
 |_::_,[],_,_,h1,_,_=>by simp at h1
 |[],[],_::_,_,_,h2,_=>by simp at h2
 |_::_,_::_,[],_,_,h2,_=>by simp at h2
theorem alD(h:cG E pm F kv fp σ a w){rs:List Key}{K:List Key}:∀{xs:List (AV U)}{vs:List Value}{ps:List Prop}{ds:List (DV U)},si (restrict σ.bH rs) σ.aC xs=some (ps,ds)->(∀p∈ps,p)->xs.length=vs.length->
  (∀(i:Nat)(x:AV U)(u:Value),xs[i]? =some x->vs[i]? =some u->RV E w F kv fp (bW σ) x u)->(∀x∈xs,∀y∈x.cs,∀k∈y.keys,(σ.bH k).isSome=true->k∈K)->
  ds.length=vs.length/\∀(i:Nat)(d:DV U)(v:Value),ds[i]? =some d->vs[i]? =some v->mg E w (FK F fp K) .ro d v []:=by
 intro xs
 induction xs with
 |nil=>
  intro vs ps ds hc hp hl hx hK
  simp only[si,fJ,nE] at hc
  obtain⟨rfl,rfl⟩:=hc
  exact⟨hl,fun i d v hd=>by simp at hd⟩
 |cons x xs ih=>
  intro vs ps ds hc hp hl hx hK
  cases vs with
  |nil=>simp at hl
  |cons v vs=>
   simp only[si] at hc
   split at hc
   ·rename_i ON d1 WJ Yf h1 h2
    cases hc
    obtain⟨i1,i2⟩:=ih h2 (fun p j_=>hp p (by simp[j_])) (by simpa using hl) (fun i y u hy hu=>hx (i+1) y u (by simpa using hy) (by simpa using hu)) (fun y hy=>hK y (bi _ hy))
    refine⟨by simp[i1],fun i d u hd hu=> ?_⟩
    cases i with
    |zero=>
     simp only[sB,fJ] at hd hu
     subst hd;subst hu
     exact PM h h1 (fun p j_=>hp p (by simp[j_])) (show RS E w F kv fp (bW σ) (.v x) v from hx 0 x v rfl rfl) (fun k hk=>by
      obtain⟨y,hy,hk⟩:=SV.mem_keys.1 hk
      exact hK x dw y hy k hk)
    |succ i=>exact i2 i d u (by simpa using hd) (by simpa using hu)
   ·cases hc
theorem alz{w:World}{F:Nat->Prop}(yj:Lj E w F){g:FuncId}{k:jH U}{vs:List Value}{ds:List (DV U)}(hf:wB E.P g)(hk:ee E g k)(hr:oZ k.md=true)(hl:ds.length=vs.length)
  (hd:∀(i:Nat)(d:DV U)(v:Value),ds[i]? =some d->vs[i]? =some v->mg E w F .ro d v []):mh E w F (eQ k ds) (.func (.func g) #[] vs.toArray):=by
 refine⟨g,_,rfl,hf,fun das r hp w' F' hF fX us tS=> ?_⟩
 unfold eQ at hp
 split at hp
 ·rename_i x hof
  split at hp
  ·rename_i v Gq Xo
   split at hp
   ·rename_i hc
    cases hp
    obtain⟨B0,Jt⟩:=hc
    have Xu:=k.law _ x hof
    have hlen:(das.map DA.dv++ds).length=(us++vs).length:=by simp[tS.1,hl]
    have mo:=iY.Mr (E:=E) (w:=w') (F:=F') (ms:=k.md) (ds:=das.map DA.dv++ds) (vs:=us++vs) hr (by simp[B0]) hlen (fun i d u Cm hu=>by
     rcases mX i us.length with hi|hi
     ·rw[wF (by simpa[tS.1] using hi)] at Cm
      rw[wF hi] at hu
      rw[lZ] at Cm
      cases hda:das[i]? with
      |none=>rw[hda] at Cm;cases Cm
      |some da=>rw[hda] at Cm;cases Cm;exact(tS.2 i da u hda hu).arg
     ·rw[wI (by simpa[tS.1] using hi)] at Cm
      rw[wI hi] at hu
      have e:(das.map DA.dv).length=us.length:=by simp[tS.1]
      rw[e] at Cm
      exact(hd _ d u Cm hu).WR hF)
    have yD:(List.replicate k.md.length ([]:List Nat)).flatten=[]:=by simp
    have:=hk x Jt w' F' (us++vs) (List.replicate k.md.length []) fX (yj.fE hF) (by rw[Xu];exact mo) (ub hr) (by rw[yD];exact UQ) (by rw[yD];simp)
    have e:us.toArray++vs.toArray=(us++vs).toArray:=by simp
    rw[e]
    refine this.mono ?_
    rintro e ZR ⟨VY,pY,iB,rfl,h1,h2,_⟩
    rw[yD] at h1
    rw[Gq] at h2
    cases VY with
    |nil=>exact h2.elim
    |cons u VY=>cases pY with
     |nil=>exact h2.elim
     |cons l pY=>cases VY with
      |cons _ _=>exact h2.2.elim
      |nil=>
       have h3:=h2.1
       have key:∀(G:Nat->Prop) fresh,kc E ZR G fresh (.one (.lit r)) u l->u=r/\fA r:=by
        intro G fresh h
        cases fresh with
        |true=>exact⟨(Rp.jC h).2.1,(Rp.jC h).2.2⟩
        |false=>exact⟨(Rp.jC h.1).2.1,(Rp.jC h.1).2.2⟩
       obtain⟨e1,e2⟩:=key _ _ h3
       exact⟨by rw[e1];rfl,e2,h1.mono (by simp)⟩
   ·cases hp
  ·cases hp
 ·cases hp
theorem alS(hC:∀g k,E.K3 g=some k->wB E.P g/\ee E g k)(h:cG E pm F kv fp σ a w){rs:List Key}{want:List (Option U.Ty)}{x:SV U}{v:Value}{ps:List Prop}{d:DV U}{K:List Key}
  (ha:sn E (restrict σ.bH rs) σ.aC want .ro x=some (ps,d)) (hp:∀p∈ps,p) (hx:RS E w F kv fp (bW σ) x v) (hK:∀k∈x.keys,(σ.bH k).isSome=true->k∈K):mg E w (FK F fp K) .ro d v []:=by
 simp only[sn] at ha
 unfold Hi at ha
 split at ha
 ·cases ha
  exact⟨mh.fE hx (fun b hb=>⟨.inl hb,rfl⟩),rfl⟩
 ·rename_i g xs
  split at ha
  ·rename_i k Ga ds hk sN
   rw[gT] at ha
   split at ha
   ·rename_i hc
    simp only[eE] at hc
    cases ha
    obtain⟨vs,rfl,hl,Ic⟩:=hx
    obtain⟨h1,h2⟩:=alD (K:=K) h sN hp hl Ic (fun y hy z hz k' cM=>hK k' (SV.mem_keys.2 ⟨z,nl.2 ⟨y,hy,hz⟩,cM⟩))
    exact⟨alz (h.lay.fE fun b hb=>⟨.inl hb,rfl⟩) (hC g k hk).1 (hC g k hk).2 hc.1 h1 h2,rfl⟩
   ·cases ha
  ·cases ha
 ·exact PM h ha hp hx hK
theorem HW{w:World}{b:Nat}{cur:Array Value}{e:TypeId}(h:w.heap[b]? =some (.cells cur e (0,0)))(n:Nat):qc w (.pointer (some ⟨b,0,none⟩)) n=cur.toList.drop n:=by
 simp only[qc,h]
theorem kX.cons_inv{x:AC U}{xs:List (AC U)}{vs:List Value}(h:kX E w F kv fp bad (x::xs) vs):∃v tY,vs=v::tY/\RD E w F kv fp bad x v/\kX E w F kv fp bad xs tY:=by
 cases vs with
 |nil=>have:=h.1;simp at this
 |cons v vs=>exact⟨v,vs,rfl,h.2 0 x v rfl rfl,by have:=h.1;simpa using this,fun i y u hy hu=>h.2 (i+1) y u (by simpa using hy) (by simpa using hu)⟩
theorem kX.cons{x:AC U}{xs:List (AC U)}{v:Value}{vs:List Value}(h:RD E w F kv fp bad x v)(h':kX E w F kv fp bad xs vs):kX E w F kv fp bad (x::xs) (v::vs):=by
 refine⟨by simp[h'.1],fun i y u hy hu=> ?_⟩
 cases i with
 |zero=>simp only[sB,fJ] at hy hu;subst hy hu;exact h
 |succ i=>exact h'.2 i y u (by simpa using hy) (by simpa using hu)
theorem eu.rp{y:eK U}{v:Value}{l:List Nat}(h:eu E w F true y v l):Rp E w F true (.sl y.τ y.xs) v l:=by
 obtain⟨τ,xs⟩:=y
 rcases h with⟨h1,⟨ad,rfl⟩,rfl⟩|⟨b,cap,cur,vs,gA,rfl,h2,h3,h4,h5,h6,h7,rfl⟩
 ·simp only at h1
  subst h1
  exact .nil _ _ _ _ (fun _=>rfl)
 ·exact .own τ xs b cap cur vs gA h2 h3 h4 h5 h6 h7
theorem V9(h:cG E pm F kv fp σ a w){rs:List Key}:∀{xs:List (AC U)}{vs:List Value}{cs:List U.C}{ks:List Key},i_ (restrict σ.bH rs) xs=some (cs,ks)->kX E w F kv fp (bW σ) xs vs->
  cs.length=xs.length/\(∀k∈ks,(σ.bH k).isSome=true)/\∃fl:List (List Nat),fl.length=cs.length/\(∀(i:Nat)(c:U.C),cs[i]? =some c->Rp E w F true c (vs.getD i undef) (fl.getD i []))/\fl.flatten=ks.flatMap fp
 |[],vs,cs,ks,hw,hx=>by
  simp only[i_,fJ,nE] at hw
  obtain⟨rfl,rfl⟩:=hw
  exact⟨rfl,by simp,[],rfl,fun i c hc=>by simp at hc,rfl⟩
 |x::xs,vs,cs,ks,hw,hx=>by
  obtain⟨v,tY,rfl,h1,h2⟩:=hx.cons_inv
  have put:∀{c:U.C}{tt:List U.C}{ks':List Key}{l:List Nat},Rp E w F true c v l->(tt.length=xs.length/\(∀k∈ks',(σ.bH k).isSome=true)/\∃fl:List (List Nat),fl.length=tt.length/\(∀(i:Nat)(c:U.C),tt[i]? =some c->Rp E w F true c (tY.getD i undef) (fl.getD i []))/\fl.flatten=ks'.flatMap fp)->
    ∃fl:List (List Nat),fl.length=(c::tt).length/\(∀(i:Nat)(c':U.C),(c::tt)[i]? =some c'->Rp E w F true c' ((v::tY).getD i undef) (fl.getD i []))/\fl.flatten=l++ks'.flatMap fp:=by
   rintro c tt ks' l hr ⟨_,_,fl,f1,f2,f3⟩
   refine⟨l::fl,by simp[f1],fun i c' hc=> ?_,by simp[f3]⟩
   cases i with
   |zero=>simp only[sB,fJ] at hc;subst hc;simpa using hr
   |succ i=>simpa using f2 i c' (by simpa using hc)
  unfold i_ at hw
  split at hw
  ·rename_i nV;cases nV
  ·rename_i u r nV
   cases nV
   split at hw
   ·rename_i tt ks' hr
    cases hw
    have ih:=V9 h hr h2
    have hl:Rp E w F false _ v []:=cn h1 rfl
    obtain⟨_,hvu,ho⟩:=hl.jC
    subst hvu
    obtain⟨fl,f1,f2,f3⟩:=put (.lit true _ ho) ih
    exact⟨by simp[ih.1],ih.2.1,fl,f1,f2,by simpa using f3⟩
   ·cases hw
  ·rename_i k r nV
   cases nV
   split at hw
   ·rename_i y tt ks' he hr
    cases hw
    have ih:=V9 h hr h2
    have eG:=jx he
    have hv:v=kv k:=cn h1 rfl
    have ho:eu E w F true y (kv k) (fp k):=h.cV k _ eG
    obtain⟨fl,f1,f2,f3⟩:=put (c:=.sl y.τ y.xs) (by rw[hv];exact ho.rp) ih
    exact⟨by simp[ih.1],fun k' cM=>by
     rcases jw.1 cM with rfl|cM
     ·rw[eG];rfl
     ·exact ih.2.1 k' cM,fl,f1,f2,by simpa using f3⟩
   ·cases hw
  ·cases hw
end AM
