/- THE ABSTRACT MACHINE: what a contract says; a call by a contract. -/
import Derived.Test.YtlachfpabecaeaaQAmOps8
namespace AM
set_option linter.unusedVariables false
open Go
variable{U:dw}
def gV(w:World)(v:Value)(n:Nat):List Value:=match v with
 | .pointer (some a)=>match w.heap[a.block]? with
  |some (.cells cur _ _)=>cur.toList.drop n
  |_=>[]
 |_=>[]
section
variable(E:Env U)(w:World)(F:Nat->Prop)
def gP(own:Bool)(cs:List U.C)(rest:List Value)(v:Value)(l:List Nat):Prop:=
 ∃(b:Nat)(cur:Array Value)(e:TypeId)(fl:List (List Nat)),v=.pointer (some ⟨b,0,none⟩)/\w.heap[b]? =some (.cells cur e (0,0))/\cs.length<=cur.size/\cur.toList.drop cs.length=rest/\(∀u∈rest,bD u)/\
  fl.length=cs.length/\(∀(i:Nat)(c:U.C),cs[i]? =some c->Rp E w F own c (cur.toList.getD i undef) (fl.getD i []))/\l=b::fl.flatten
def ee(cs:List U.C)(v:Value)(l:List Nat):Prop:=
 ∃(vs:List Value)(fl:List (List Nat)),v=.agg vs.toArray/\vs.length=cs.length/\fl.length=cs.length/\(∀(i:Nat)(c:U.C),cs[i]? =some c->Rp E w F true c (vs.getD i undef) (fl.getD i []))/\l=fl.flatten
def eo:Mode->DV U->Value->List Nat->Prop
 | .ro,.one c,v,l=>Rp E w F false c v []/\l=[]
 | .ro,.agg cs,v,l=>∃vs:List Value,v=.agg vs.toArray/\vs.length=cs.length/\(∀(i:Nat)(c:U.C),cs[i]? =some c->Rp E w F false c (vs.getD i undef) [])/\l=[]
 | .ro,.ptr cs,v,l=>(∃b o,v=.pointer (some ⟨b,o,none⟩)/\F b/\∀(j:Nat)(c:U.C),cs[j]? =some c->∃u,w.cell? ⟨b,o+j,none⟩=some u/\Rp E w F false c u [])/\l=[]
 | .ro,.fn p,v,l=>eU E w F p v/\l=[]
 | .wr,.one (.sl τ xs),v,l=>aZ E w F true ⟨τ,xs⟩ v l
 | .wr,.agg cs,v,l=>ee E w F cs v l
 | .mv,.one c,v,l=>Rp E w F true c v l
 | .mv,.agg cs,v,l=>ee E w F cs v l
 | .box own,.box cs,v,l=>gP E w F own cs (gV w v cs.length) v l
 |_,_,_,_=>False
def cA:List Mode->List (DV U)->List Value->List (List Nat)->Prop
 |[],[],[],[]=>True
 |m::ms,d::ds,v::vs,l::ls=>eo E w F m d v l/\cA ms ds vs ls
 |_,_,_,_=>False
def dk(fresh:Bool):DV U->Value->List Nat->Prop
 | .one c,v,l=>if fresh then Rp E w F true c v l else Rp E w F false c v []/\l=[]
 | .agg cs,v,l=>if fresh then ee E w F cs v l
   else∃vs:List Value,v=.agg vs.toArray/\vs.length=cs.length/\(∀(i:Nat)(c:U.C),cs[i]? =some c->Rp E w F false c (vs.getD i undef) [])/\l=[]
 | .box cs,v,l=>fresh=true/\∃b cur e,v=.pointer (some ⟨b,0,none⟩)/\w.heap[b]? =some (.cells cur e (0,0))/\l=[b]/\cur.size=cs.length/\∀(i:Nat)(c:U.C),cs[i]? =some c->Rp E w F false c (cur.toList.getD i undef) []
 | .ptr _,_,_=>False
 | .fn _,_,_=>False
def dH:List Bool->List (DV U)->List Value->List (List Nat)->Prop
 |_,[],[],[]=>True
 |fs,d::ds,v::vs,l::ls=>dk E w F (fs.headD true) d v l/\dH fs.tail ds vs ls
 |_,_,_,_=>False
def bh(w0:World):List Mode->List Value->List (DV U)->List (List Nat)->Prop
 |[],[],[],[]=>True
 | .ro::ms,_::vs,ds,ls=>bh w0 ms vs ds ls
 | .mv::ms,_::vs,ds,ls=>bh w0 ms vs ds ls
 | .wr::ms,v::vs,.one (.sl τ ys)::ds,l::ls=>aZ E w F true ⟨τ,ys⟩ v l/\bh w0 ms vs ds ls
 | .wr::ms,v::vs,.agg cs::ds,l::ls=>ee E w F cs v l/\bh w0 ms vs ds ls
 | .box own::ms,v::vs,.box cs::ds,l::ls=>gP E w F own cs (gV w0 v cs.length) v l/\bh w0 ms vs ds ls
 |_,_,_,_=>False
end
def oN:List Value->Value
 |[v]=>v
 |vs=> .tuple vs.toArray
def fJ(F:Nat->Prop)(w w':World)(own Fz:List Nat)(b:Nat):Prop:=F b\/((w.heap.size<=b\/b∈Fz)/\b<w'.heap.size/\b∉own)
def ie(w:World)(n:Nat):List Mode->List (DV U)->List Value->Prop
 |m::ms,d::ds,v::vs=>(∀own cs,m=.box own->d=.box cs->(gV w v cs.length).length=n)/\ie w n ms ds vs
 |_,_,_=>True
theorem jL{w:World}{n:Nat}:∀{ms:List Mode}{ds:List (DV U)}{vs:List Value},gi ms=true->ie w n ms ds vs
 |[],_,_,_=>trivial
 |_::_,[],_,_=>trivial
 |_::_,_::_,[],_=>trivial
 |m::ms,d::ds,v::vs,h=>by
  cases m with
  |ro=>exact⟨fun own cs hm=>(by cases hm),jL (by simpa[gi] using h)⟩
  |wr=>simp[gi] at h
  |mv=>simp[gi] at h
  |box _=>simp[gi] at h
def aV(E:Env U)(f:FuncId)(k:eg U):Prop:=
 ∀x:k.α,(∀p∈k.pre x,p)->∀(w:World)(F:Nat->Prop)(vs:List Value)(ls:List (List Nat)),(∀b,F b->b<w.heap.size)->wP E w F->cA E w F k.md (k.ds x) vs ls->ie w k.qu k.md (k.ds x) vs->ls.flatten.Nodup->
  (∀b∈ls.flatten,b<w.heap.size/\¬F b)->
  Calls E.P f vs.toArray w fun e w'=>∃(us:List Value)(dz bL:List (List Nat)),e=.returned (oN us)/\bB (·∈ls.flatten) w w'/\
   dH E w' (fJ F w w' (dz.flatten++bL.flatten) ls.flatten) (k.fZ x).fresh (k.fZ x).val us dz/\
   bh E w' (fJ F w w' (dz.flatten++bL.flatten) ls.flatten) w k.md vs (k.fZ x).rX bL/\
   (dz.flatten++bL.flatten).Nodup/\(∀b∈dz.flatten,(b∈ls.flatten\/w.heap.size<=b)/\b<w'.heap.size)/\(∀b∈bL.flatten,b∈ls.flatten\/(w.heap.size<=b/\b<w'.heap.size))
variable{E:Env U}{pm:Pm}
variable{F F':Nat->Prop}{kv:Key->Value}{fp:Key->List Nat}{σ:aa U}{a:Act}{w w':World}{bad:Key->Bool}
theorem kL(h:aE E pm F kv fp σ a w){rs:List Key}{x:AC U}{v:Value}{ps:List Prop}{b:fx U}
  (ha:fq (restrict σ.aw rs) σ.ah x=some (ps,b)) (hp:∀p∈ps,p) (hx:RD E w F kv fp (ay σ) x v):
  Rp E w (FK F fp (x.keys.filter fun k=>(σ.aw k).isSome)) false (.sl b.τ b.xs) v []:=by
 have key:∀(k:Key)(y:fx U)(d:Bool),restrict σ.aw rs k=some (.arr y d)->k∈x.keys->∀b,(F b\/b∈fp k)->FK F fp (x.keys.filter fun k=>(σ.aw k).isSome) b:=by
  intro k y d he hk b hb
  rcases hb with hb|hb
  ·exact .inl hb
  ·exact .inr ⟨k,qa.2 ⟨hk,by simp[cQ he]⟩,hb⟩
 unfold fq at ha
 split at ha
 ·cases ha
  exact(aA hx rfl:Rp E w F false _ _ _).bx (fun b hb=> .inl hb)
 ·cases ha
  exact(aA hx rfl).1.bx (fun b hb=> .inl hb)
 ·rename_i k p
  split at ha
  ·rename_i y d he
   cases ck:bw (restrict σ.aw rs) σ.ah k p<;>simp only[ck,cond_false,cond_true] at ha
   ·cases ha
   ·have hn:=aA hx (oW ck he)
    obtain⟨v',h1,h2⟩:=(tu h (cQ he)).B4 ha hp
    have:v=v':=hn.unique h1
    subst this
    exact h2.bx (key k y d he (by simp[AC.keys]))
  ·cases ha
 ·rename_i k wd lo hi
  split at ha
  ·rename_i y d he
   cases hw:Nat.beq wd (U.wd y.τ)<;>simp only[hw,cond_false,cond_true] at ha
   ·cases ha
   ·cases ha
    have je:=eI hw
    subst je
    obtain⟨h1,h2⟩:=aA hx rfl
    subst h1
    exact((tu h (cQ he)).sub h2 (hp _ (by simp))).bx (key k y d he (by simp[AC.keys]))
  ·cases ha
 ·cases ha
theorem J2(h:aE E pm F kv fp σ a w){rs:List Key}{x:AC U}{v:Value}{ps:List Prop}{b:fx U}
  (ha:lz (restrict σ.aw rs) σ.ah x=some (ps,b)) (hp:∀p∈ps,p) (hx:RD E w F kv fp (ay σ) x v):
  Rp E w (FK F fp (x.keys.filter fun k=>(σ.aw k).isSome)) false (.sl b.τ b.xs) v []:=by
 unfold lz at ha
 split at ha
 rotate_left
 ·cases ha
 rename_i k i wd j p
 split at ha
 rotate_left
 ·cases ha
 rename_i y dead he
 cases ck:bw (restrict σ.aw rs) σ.ah k ((i,wd,j)::p)<;>simp only[ck,cond_false,cond_true] at ha
 ·cases ha
 split at ha
 rotate_left
 ·cases ha
 rename_i qG b' hw
 cases ha
 have a_:=cQ he
 have hn:=aA hx (oW ck he)
 obtain⟨v',h1,h2⟩:=aU.B4 (h.aJ k _ a_) hw (fun q hq=>hp q (by simp[hq])) (hp _ (by simp))
 have:v=v':=hn.unique h1
 subst this
 refine h2.bx fun b hb=> ?_
 rcases hb with hb|hb
 ·exact .inl hb
 ·exact .inr ⟨k,qa.2 ⟨by simp[AC.keys],by simp[a_]⟩,hb⟩
theorem Ec(h:aE E pm F kv fp σ a w){rs:List Key}{want:Option U.Ty}{x:AC U}{v:Value}{ps:List Prop}{c:U.C}
  (hc:cellOf (restrict σ.aw rs) σ.ah want x=some (ps,c)) (hp:∀p∈ps,p) (hx:RD E w F kv fp (ay σ) x v):Rp E w (FK F fp (x.keys.filter fun k=>(σ.aw k).isSome)) false c v []:=by
 unfold cellOf at hc
 split at hc
 ·cases hc
  exact(aA hx rfl:Rp E w F false _ _ _).bx (fun b hb=> .inl hb)
 ·split at hc
  ·cases hc
   obtain⟨ad,h1⟩:=aA hx rfl
   subst h1
   exact .nil _ _ _ _ (by simp)
  ·cases hc
 ·split at hc
  ·rename_i qG b ha
   cases hc
   exact kL h ha hp hx
  ·split at hc
   ·rename_i qG b ha
    cases hc
    exact J2 h ha hp hx
   ·cases hc
theorem Eb(h:aE E pm F kv fp σ a w){rs:List Key}:∀{xs:List (AC U)}{want:List (Option U.Ty)}{vs:List Value}{ps:List Prop}{cs:List U.C},
  cellsOf (restrict σ.aw rs) σ.ah want xs=some (ps,cs)->(∀p∈ps,p)->dQ E w F kv fp (ay σ) xs vs->
  cs.length=xs.length/\∀(i:Nat)(c:U.C),cs[i]? =some c->Rp E w (FK F fp ((xs.flatMap AC.keys).filter fun k=>(σ.aw k).isSome)) false c (vs.getD i undef) []:=by
 intro xs
 induction xs with
 |nil=>
  intro want vs ps cs hc hp hx
  simp only[cellsOf,bH,fB] at hc
  obtain⟨rfl,rfl⟩:=hc
  exact⟨rfl,fun i c hc=>by simp at hc⟩
 |cons x xs ih=>
  intro want vs ps cs hc hp hx
  simp only[cellsOf] at hc
  split at hc
  ·rename_i wF c1 Ar Pu h1 h2
   cases hc
   cases vs with
   |nil=>have:=hx.1;simp at this
   |cons v vs=>
    have B6:RD E w F kv fp (ay σ) x v:=hx.2 0 x v rfl rfl
    have Ki:dQ E w F kv fp (ay σ) xs vs:=⟨by have:=hx.1;simpa using this,fun i y u hy hu=>hx.2 (i+1) y u (by simpa using hy) (by simpa using hu)⟩
    have g1:=Ec h h1 (fun p dj=>hp p (by simp[dj])) B6
    obtain⟨i1,i2⟩:=ih h2 (fun p dj=>hp p (by simp[dj])) Ki
    refine⟨by simp[i1],fun i c hc=> ?_⟩
    cases i with
    |zero=>
     simp only[ja,bH] at hc;subst hc
     exact g1.bx (fun b hb=>o6 (fun k hk=>by
      rw[qa] at hk⊢
      exact⟨by rw[mf];exact fV _ hk.1,hk.2⟩) hb)
    |succ i=>exact(i2 i c (by simpa using hc)).bx (fun b hb=>o6 (fun k hk=>by
      rw[qa] at hk⊢
      exact⟨by rw[mf];exact fD _ hk.1,hk.2⟩) hb)
  ·cases hc
theorem Eo{ks K:List Key}(hK:∀k∈ks,(σ.aw k).isSome=true->k∈K){b:Nat}:FK F fp (ks.filter fun k=>(σ.aw k).isSome) b->FK F fp K b:=
 o6 (fun k hk=>by rw[qa] at hk;exact hK k hk.1 hk.2)
theorem Rp.dK{m:Bool}{u v:Value}{l:List Nat}(h:Rp E w F m (.lit u) v l):l=[]/\v=u/\bD u:=by
 generalize hc:(Cell.lit u:U.C)=c at h
 cases h with
 |lit _ _ ho=>cases hc;exact⟨rfl,rfl,ho⟩
 |nil=>cases hc
 |shr=>cases hc
 |own=>cases hc
theorem tr:∀{cs:List (AC U)}{l:List U.C},plain cs=some l->cs=l.map .c
 |[],l,h=>by cases h;rfl
 | .c x::r,l,h=>by
  simp only[plain] at h
  split at h
  ·rename_i l' hl;cases h;rw[tr hl];rfl
  ·cases h
 | .e0::r,l,h=>by simp[plain] at h
 | .ref _ _::r,l,h=>by simp[plain] at h
 | .sub _ _ _ _::r,l,h=>by simp[plain] at h
 | .dG _ _ _ _ _::r,l,h=>by simp[plain] at h
 | .dh _ _::r,l,h=>by simp[plain] at h
 | .ia _::r,l,h=>by simp[plain] at h
 | .kn _ _ _::r,l,h=>by simp[plain] at h
theorem xx(h:aE E pm F kv fp σ a w){rs:List Key}{want:List (Option U.Ty)}{x:SV U}{v:Value}{ps:List Prop}{d:DV U}{K:List Key}
  (ha:iX (restrict σ.aw rs) σ.ah want x=some (ps,d)) (hp:∀p∈ps,p) (hx:RS E w F kv fp (ay σ) x v) (hK:∀k∈x.keys,(σ.aw k).isSome=true->k∈K):eo E w (FK F fp K) .ro d v []:=by
 unfold iX at ha
 split at ha
 ·rename_i cs
  cases ha
  obtain⟨b,o,h1,h2,h3⟩:=aA (o0 hx) rfl
  exact⟨⟨b,o,h1,.inl h2,fun j c hj=>by obtain⟨u,h4,h5⟩:=h3 j c hj;exact⟨u,h4,h5.bx (fun b hb=> .inl hb)⟩⟩,rfl⟩
 ·rename_i k off
  split at ha
  ·rename_i cs he
   split at ha
   ·rename_i l hl
    cases ha
    have ik:=tr hl
    obtain⟨b,h1,h2⟩:=aA (o0 hx) rfl
    have a_:=cQ he
    obtain⟨b',cur,e',g1,g2,g3,g4⟩:=h.aJ k _ a_
    rw[h1] at g1
    simp only[Value.pointer.injEq,bH,Addr.mk.injEq] at g1
    obtain⟨rfl,_,_⟩:=g1
    have hk:k∈K:=hK k (by simp[SV.keys,SV.mE,AC.keys]) (by rw[a_];rfl)
    refine⟨⟨b,off,h2,.inr ⟨k,hk,by rw[g3];exact gn.2 rfl⟩,fun j c hj=> ?_⟩,rfl⟩
    rw[nH] at hj
    have ir:cs[off+j]? =some (.c c):=by rw[ik,eW,hj];rfl
    obtain⟨u,hu⟩:∃u,cur.toList[off+j]? =some u:=by
     have bU:off+j<cs.length:=by
      rcases fA (off+j) cs.length with h|h
      ·exact h
      ·rw[fb h] at ir;cases ir
     exact⟨_,cF (by rw[<-g4.1];exact bU)⟩
    have hd:=g4.2 _ _ u ir hu
    refine⟨u,?_,(aA hd rfl:Rp E w F false _ _ _).bx (fun b hb=> .inl hb)⟩
    simp only[World.cell?,g2]
    simpa using hu
   ·cases ha
  ·cases ha
 ·rename_i y _
  split at ha
  ·rename_i qG c hc
   cases ha
   exact⟨(Ec h hc hp (o0 hx)).bx (fun b hb=>Eo (fun k hk=>hK k (by simpa[SV.keys,SV.mE] using hk)) hb),rfl⟩
  ·cases ha
 ·rename_i cs
  split at ha
  ·rename_i qG l hl
   cases ha
   obtain⟨vs,h1,h2⟩:=hx
   simp only[if_true] at h2
   obtain⟨g1,g2⟩:=Eb h hl hp h1
   exact⟨vs,h2,by rw[g1];exact h1.1.symm,fun i c hc=>(g2 i c hc).bx (fun b hb=>Eo (fun k hk=>hK k (by simpa[SV.keys,SV.mE] using hk)) hb),rfl⟩
  ·cases ha
 ·cases ha
theorem eo.Aw{w w':World}{F F':Nat->Prop}{d:DV U}{v:Value}{l:List Nat}(h:eo E w F .ro d v l)(hF:∀b,F b->F' b/\w'.heap[b]? =w.heap[b]?):eo E w' F' .ro d v l:=by
 cases d with
 |one c=>exact⟨h.1.bu hF (by simp),h.2⟩
 |agg cs=>
  obtain⟨vs,h1,h2,h3,h4⟩:=h
  exact⟨vs,h1,h2,fun i c hc=>(h3 i c hc).bu hF (by simp),h4⟩
 |ptr cs=>
  obtain⟨⟨b,o,h1,h2,h3⟩,h4⟩:=h
  refine⟨⟨b,o,h1,(hF b h2).1,fun j c hj=> ?_⟩,h4⟩
  obtain⟨u,g1,g2⟩:=h3 j c hj
  refine⟨u,?_,g2.bu hF (by simp)⟩
  rw[World.cell?_of_block (w:=w) (a:=⟨b,o+j,none⟩) (hF b h2).2];exact g1
 |box _=>exact h.elim
 |fn p=>exact⟨eU.bu h.1 hF,h.2⟩
theorem Cs.arg{w:World}{F:Nat->Prop}{d:DA U}{v:Value}(h:Cs E w F d v):eo E w F .ro d.dv v []:=by
 obtain⟨g,cs⟩:=d
 obtain⟨vs,h1,h2,h3⟩:=h
 cases g with
 |true=>
  simp only[if_true] at h3
  have e:(DA.mk true cs:DA U).dv=.agg cs:=rfl
  rw[e]
  exact⟨vs,h3,h1,h2,rfl⟩
 |false=>
  simp only[mF,if_false] at h3
  subst h3
  match cs,h1,h2 with
  |[c],h1,h2=>exact⟨h2 0 c rfl,rfl⟩
theorem cA.va{w:World}{F:Nat->Prop}:∀{ms:List Mode}{ds:List (DV U)}{vs:List Value},gi ms=true->ms.length=ds.length->ds.length=vs.length->(∀(i:Nat)(d:DV U)(v:Value),ds[i]? =some d->vs[i]? =some v->eo E w F .ro d v [])->
  cA E w F ms ds vs (List.replicate ms.length [])
 |[],[],[],_,_,_,_=>trivial
 |m::ms,d::ds,v::vs,hr,h1,h2,h=>by
  cases m with
  |ro=>exact⟨h 0 d v rfl rfl,cA.va (by simpa[gi] using hr) (by simpa using h1) (by simpa using h2) (fun i d v hd hv=>h (i+1) d v (by simpa using hd) (by simpa using hv))⟩
  |wr=>simp[gi] at hr
  |mv=>simp[gi] at hr
  |box _=>simp[gi] at hr
 |[],_::_,_,_,h1,_,_=>by simp at h1
 |_::_,[],_,_,h1,_,_=>by simp at h1
 |[],[],_::_,_,_,h2,_=>by simp at h2
 |_::_,_::_,[],_,_,h2,_=>by simp at h2
theorem JR(h:aE E pm F kv fp σ a w){rs:List Key}{K:List Key}:∀{xs:List (AV U)}{vs:List Value}{ps:List Prop}{ds:List (DV U)},iV (restrict σ.aw rs) σ.ah xs=some (ps,ds)->(∀p∈ps,p)->xs.length=vs.length->
  (∀(i:Nat)(x:AV U)(u:Value),xs[i]? =some x->vs[i]? =some u->RV E w F kv fp (ay σ) x u)->(∀x∈xs,∀y∈x.cs,∀k∈y.keys,(σ.aw k).isSome=true->k∈K)->
  ds.length=vs.length/\∀(i:Nat)(d:DV U)(v:Value),ds[i]? =some d->vs[i]? =some v->eo E w (FK F fp K) .ro d v []:=by
 intro xs
 induction xs with
 |nil=>
  intro vs ps ds hc hp hl hx hK
  simp only[iV,bH,fB] at hc
  obtain⟨rfl,rfl⟩:=hc
  exact⟨hl,fun i d v hd=>by simp at hd⟩
 |cons x xs ih=>
  intro vs ps ds hc hp hl hx hK
  cases vs with
  |nil=>simp at hl
  |cons v vs=>
   simp only[iV] at hc
   split at hc
   ·rename_i wF d1 Ar Cq h1 h2
    cases hc
    obtain⟨i1,i2⟩:=ih h2 (fun p dj=>hp p (by simp[dj])) (by simpa using hl) (fun i y u hy hu=>hx (i+1) y u (by simpa using hy) (by simpa using hu)) (fun y hy=>hK y (d_ _ hy))
    refine⟨by simp[i1],fun i d u hd hu=> ?_⟩
    cases i with
    |zero=>
     simp only[ja,bH] at hd hu
     subst hd;subst hu
     exact xx h h1 (fun p dj=>hp p (by simp[dj])) (show RS E w F kv fp (ay σ) (.v x) v from hx 0 x v rfl rfl) (fun k hk=>by
      obtain⟨y,hy,hk⟩:=SV.mem_keys.1 hk
      exact hK x gp y hy k hk)
    |succ i=>exact i2 i d u (by simpa using hd) (by simpa using hu)
   ·cases hc
theorem JN{w:World}{F:Nat->Prop}(nS:wP E w F){g:FuncId}{k:eg U}{vs:List Value}{ds:List (DV U)}(hf:kM E.P g)(hk:aV E g k)(hr:gi k.md=true)(hl:ds.length=vs.length)
  (hd:∀(i:Nat)(d:DV U)(v:Value),ds[i]? =some d->vs[i]? =some v->eo E w F .ro d v []):eU E w F (we k ds) (.func (.func g) #[] vs.toArray):=by
 refine⟨g,_,rfl,hf,fun G' r hp w' F' hF bU us fS=> ?_⟩
 unfold we at hp
 split at hp
 ·rename_i x KD
  split at hp
  ·rename_i v tO A5
   split at hp
   ·rename_i hc
    cases hp
    obtain⟨nV,ud⟩:=hc
    have A':=k.law _ x KD
    have hlen:(G'.map DA.dv++ds).length=(us++vs).length:=by simp[fS.1,hl]
    have eF:=cA.va (E:=E) (w:=w') (F:=F') (ms:=k.md) (ds:=G'.map DA.dv++ds) (vs:=us++vs) hr (by simp[nV]) hlen (fun i d u nU hu=>by
     rcases fA i us.length with hi|hi
     ·rw[j7 (by simpa[fS.1] using hi)] at nU
      rw[j7 hi] at hu
      rw[eW] at nU
      cases Fi:G'[i]? with
      |none=>rw[Fi] at nU;cases nU
      |some da=>rw[Fi] at nU;cases nU;exact(fS.2 i da u Fi hu).arg
     ·rw[kT (by simpa[fS.1] using hi)] at nU
      rw[kT hi] at hu
      have e:(G'.map DA.dv).length=us.length:=by simp[fS.1]
      rw[e] at nU
      exact(hd _ d u nU hu).Aw hF)
    have rc:(List.replicate k.md.length ([]:List Nat)).flatten=[]:=by simp
    have:=hk x ud w' F' (us++vs) (List.replicate k.md.length []) bU (nS.bu hF) (by rw[A'];exact eF) (jL hr) (by rw[rc];exact zq) (by rw[rc];simp)
    have e:us.toArray++vs.toArray=(us++vs).toArray:=by simp
    rw[e]
    refine this.mono ?_
    rintro e CN ⟨zE,dz,bL,rfl,h1,h2,_⟩
    rw[rc] at h1
    rw[tO] at h2
    cases zE with
    |nil=>exact h2.elim
    |cons u zE=>cases dz with
     |nil=>exact h2.elim
     |cons l dz=>cases zE with
      |cons _ _=>exact h2.2.elim
      |nil=>
       have h3:=h2.1
       have key:∀(G:Nat->Prop) fresh,dk E CN G fresh (.one (.lit r)) u l->u=r/\bD r:=by
        intro G fresh h
        cases fresh with
        |true=>exact⟨(Rp.dK h).2.1,(Rp.dK h).2.2⟩
        |false=>exact⟨(Rp.dK h.1).2.1,(Rp.dK h.1).2.2⟩
       obtain⟨e1,e2⟩:=key _ _ h3
       exact⟨by rw[e1];rfl,e2,h1.mono (by simp)⟩
   ·cases hp
  ·cases hp
 ·cases hp
theorem J6(hC:∀g k,E.ul g=some k->kM E.P g/\aV E g k)(h:aE E pm F kv fp σ a w){rs:List Key}{want:List (Option U.Ty)}{x:SV U}{v:Value}{ps:List Prop}{d:DV U}{K:List Key}
  (ha:iY E (restrict σ.aw rs) σ.ah want .ro x=some (ps,d)) (hp:∀p∈ps,p) (hx:RS E w F kv fp (ay σ) x v) (hK:∀k∈x.keys,(σ.aw k).isSome=true->k∈K):eo E w (FK F fp K) .ro d v []:=by
 simp only[iY] at ha
 unfold ru at ha
 split at ha
 ·cases ha
  exact⟨eU.bu hx (fun b hb=>⟨.inl hb,rfl⟩),rfl⟩
 ·rename_i g xs
  split at ha
  ·rename_i k qG ds hk ik
   rw[bV] at ha
   split at ha
   ·rename_i hc
    simp only[c9] at hc
    cases ha
    obtain⟨vs,rfl,hl,rE⟩:=hx
    obtain⟨h1,h2⟩:=JR (K:=K) h ik hp hl rE (fun y hy z hz k' aG=>hK k' (SV.mem_keys.2 ⟨z,fC.2 ⟨y,hy,hz⟩,aG⟩))
    exact⟨JN (h.lay.bu fun b hb=>⟨.inl hb,rfl⟩) (hC g k hk).1 (hC g k hk).2 hc.1 h1 h2,rfl⟩
   ·cases ha
  ·cases ha
 ·exact xx h ha hp hx hK
theorem rP{w:World}{b:Nat}{cur:Array Value}{e:TypeId}(h:w.heap[b]? =some (.cells cur e (0,0)))(n:Nat):gV w (.pointer (some ⟨b,0,none⟩)) n=cur.toList.drop n:=by
 simp only[gV,h]
theorem dQ.cons_inv{x:AC U}{xs:List (AC U)}{vs:List Value}(h:dQ E w F kv fp bad (x::xs) vs):∃v jJ,vs=v::jJ/\RD E w F kv fp bad x v/\dQ E w F kv fp bad xs jJ:=by
 cases vs with
 |nil=>have:=h.1;simp at this
 |cons v vs=>exact⟨v,vs,rfl,h.2 0 x v rfl rfl,by have:=h.1;simpa using this,fun i y u hy hu=>h.2 (i+1) y u (by simpa using hy) (by simpa using hu)⟩
theorem dQ.cons{x:AC U}{xs:List (AC U)}{v:Value}{vs:List Value}(h:RD E w F kv fp bad x v)(h':dQ E w F kv fp bad xs vs):dQ E w F kv fp bad (x::xs) (v::vs):=by
 refine⟨by simp[h'.1],fun i y u hy hu=> ?_⟩
 cases i with
 |zero=>simp only[ja,bH] at hy hu;subst hy hu;exact h
 |succ i=>exact h'.2 i y u (by simpa using hy) (by simpa using hu)
theorem aZ.rp{y:fx U}{v:Value}{l:List Nat}(h:aZ E w F true y v l):Rp E w F true (.sl y.τ y.xs) v l:=by
 obtain⟨τ,xs⟩:=y
 rcases h with⟨h1,⟨ad,rfl⟩,rfl⟩|⟨b,cap,cur,vs,bM,rfl,h2,h3,h4,h5,h6,h7,rfl⟩
 ·simp only at h1
  subst h1
  exact .nil _ _ _ _ (fun _=>rfl)
 ·exact .own τ xs b cap cur vs bM h2 h3 h4 h5 h6 h7
theorem zI(h:aE E pm F kv fp σ a w){rs:List Key}:∀{xs:List (AC U)}{vs:List Value}{cs:List U.C}{ks:List Key},cG (restrict σ.aw rs) xs=some (cs,ks)->dQ E w F kv fp (ay σ) xs vs->
  cs.length=xs.length/\(∀k∈ks,(σ.aw k).isSome=true)/\∃fl:List (List Nat),fl.length=cs.length/\(∀(i:Nat)(c:U.C),cs[i]? =some c->Rp E w F true c (vs.getD i undef) (fl.getD i []))/\fl.flatten=ks.flatMap fp
 |[],vs,cs,ks,hw,hx=>by
  simp only[cG,bH,fB] at hw
  obtain⟨rfl,rfl⟩:=hw
  exact⟨rfl,by simp,[],rfl,fun i c hc=>by simp at hc,rfl⟩
 |x::xs,vs,cs,ks,hw,hx=>by
  obtain⟨v,jJ,rfl,h1,h2⟩:=hx.cons_inv
  have put:∀{c:U.C}{jo:List U.C}{ks':List Key}{l:List Nat},Rp E w F true c v l->(jo.length=xs.length/\(∀k∈ks',(σ.aw k).isSome=true)/\∃fl:List (List Nat),fl.length=jo.length/\(∀(i:Nat)(c:U.C),jo[i]? =some c->Rp E w F true c (jJ.getD i undef) (fl.getD i []))/\fl.flatten=ks'.flatMap fp)->
    ∃fl:List (List Nat),fl.length=(c::jo).length/\(∀(i:Nat)(c':U.C),(c::jo)[i]? =some c'->Rp E w F true c' ((v::jJ).getD i undef) (fl.getD i []))/\fl.flatten=l++ks'.flatMap fp:=by
   rintro c jo ks' l hr ⟨_,_,fl,f1,f2,f3⟩
   refine⟨l::fl,by simp[f1],fun i c' hc=> ?_,by simp[f3]⟩
   cases i with
   |zero=>simp only[ja,bH] at hc;subst hc;simpa using hr
   |succ i=>simpa using f2 i c' (by simpa using hc)
  unfold cG at hw
  split at hw
  ·rename_i fI;cases fI
  ·rename_i u r fI
   cases fI
   split at hw
   ·rename_i jo ks' hr
    cases hw
    have ih:=zI h hr h2
    have hl:Rp E w F false _ v []:=aA h1 rfl
    obtain⟨_,Kj,ho⟩:=hl.dK
    subst Kj
    obtain⟨fl,f1,f2,f3⟩:=put (.lit true _ ho) ih
    exact⟨by simp[ih.1],ih.2.1,fl,f1,f2,by simpa using f3⟩
   ·cases hw
  ·rename_i k r fI
   cases fI
   split at hw
   ·rename_i y jo ks' he hr
    cases hw
    have ih:=zI h hr h2
    have a_:=cQ he
    have hv:v=kv k:=aA h1 rfl
    have ho:aZ E w F true y (kv k) (fp k):=h.aJ k _ a_
    obtain⟨fl,f1,f2,f3⟩:=put (c:=.sl y.τ y.xs) (by rw[hv];exact ho.rp) ih
    exact⟨by simp[ih.1],fun k' aG=>by
     rcases dJ.1 aG with rfl|aG
     ·rw[a_];rfl
     ·exact ih.2.1 k' aG,fl,f1,f2,by simpa using f3⟩
   ·cases hw
  ·cases hw
end AM
