/- THE ABSTRACT MACHINE: what a contract says; a call by a contract. -/
import Derived.Test.YtmlhlndkkidhoaaGreatQAmOps8
namespace AM
set_option linter.unusedVariables false
open Go
variable{U:kZ}
def rA(w:World)(v:Value)(n:Nat):List Value:=match v with
 | .pointer (some a)=>match w.heap[a.block]? with
  |some (.cells cur _ _)=>cur.toList.drop n
  |_=>[]
 |_=>[]
section
variable(E:Env U)(w:World)(F:Nat->Prop)
def ra(own:Bool)(cs:List U.C)(rest:List Value)(v:Value)(l:List Nat):Prop:=
 ∃(b:Nat)(cur:Array Value)(e:TypeId)(fl:List (List Nat)),v=.pointer (some ⟨b,0,none⟩)/\w.heap[b]? =some (.cells cur e (0,0))/\cs.length<=cur.size/\cur.toList.drop cs.length=rest/\(∀u∈rest,gp u)/\
  fl.length=cs.length/\(∀(i:Nat)(c:U.C),cs[i]? =some c->Rp E w F own c (cur.toList.getD i undef) (fl.getD i []))/\l=b::fl.flatten
def l8(cs:List U.C)(v:Value)(l:List Nat):Prop:=
 ∃(vs:List Value)(fl:List (List Nat)),v=.agg vs.toArray/\vs.length=cs.length/\fl.length=cs.length/\(∀(i:Nat)(c:U.C),cs[i]? =some c->Rp E w F true c (vs.getD i undef) (fl.getD i []))/\l=fl.flatten
def l_:Mode->DV U->Value->List Nat->Prop
 | .ro,.one c,v,l=>Rp E w F false c v []/\l=[]
 | .ro,.agg cs,v,l=>∃vs:List Value,v=.agg vs.toArray/\vs.length=cs.length/\(∀(i:Nat)(c:U.C),cs[i]? =some c->Rp E w F false c (vs.getD i undef) [])/\l=[]
 | .ro,.ptr cs,v,l=>(∃b o,v=.pointer (some ⟨b,o,none⟩)/\F b/\∀(j:Nat)(c:U.C),cs[j]? =some c->∃u,w.cell? ⟨b,o+j,none⟩=some u/\Rp E w F false c u [])/\l=[]
 | .ro,.fn p,v,l=>nj E w F p v/\l=[]
 | .wr,.one (.sl τ xs),v,l=>eW E w F true ⟨τ,xs⟩ v l
 | .wr,.agg cs,v,l=>l8 E w F cs v l
 | .mv,.one c,v,l=>Rp E w F true c v l
 | .mv,.agg cs,v,l=>l8 E w F cs v l
 | .box own,.box cs,v,l=>ra E w F own cs (rA w v cs.length) v l
 |_,_,_,_=>False
def jj:List Mode->List (DV U)->List Value->List (List Nat)->Prop
 |[],[],[],[]=>True
 |m::ms,d::ds,v::vs,l::ls=>l_ E w F m d v l/\jj ms ds vs ls
 |_,_,_,_=>False
def kz(fresh:Bool):DV U->Value->List Nat->Prop
 | .one c,v,l=>if fresh then Rp E w F true c v l else Rp E w F false c v []/\l=[]
 | .agg cs,v,l=>if fresh then l8 E w F cs v l
   else∃vs:List Value,v=.agg vs.toArray/\vs.length=cs.length/\(∀(i:Nat)(c:U.C),cs[i]? =some c->Rp E w F false c (vs.getD i undef) [])/\l=[]
 | .box cs,v,l=>fresh=true/\∃b cur e,v=.pointer (some ⟨b,0,none⟩)/\w.heap[b]? =some (.cells cur e (0,0))/\l=[b]/\cur.size=cs.length/\∀(i:Nat)(c:U.C),cs[i]? =some c->Rp E w F false c (cur.toList.getD i undef) []
 | .ptr _,_,_=>False
 | .fn _,_,_=>False
def mU:List Bool->List (DV U)->List Value->List (List Nat)->Prop
 |_,[],[],[]=>True
 |fs,d::ds,v::vs,l::ls=>kz E w F (fs.headD true) d v l/\mU fs.tail ds vs ls
 |_,_,_,_=>False
def fe(w0:World):List Mode->List Value->List (DV U)->List (List Nat)->Prop
 |[],[],[],[]=>True
 | .ro::ms,_::vs,ds,ls=>fe w0 ms vs ds ls
 | .mv::ms,_::vs,ds,ls=>fe w0 ms vs ds ls
 | .wr::ms,v::vs,.one (.sl τ ys)::ds,l::ls=>eW E w F true ⟨τ,ys⟩ v l/\fe w0 ms vs ds ls
 | .wr::ms,v::vs,.agg cs::ds,l::ls=>l8 E w F cs v l/\fe w0 ms vs ds ls
 | .box own::ms,v::vs,.box cs::ds,l::ls=>ra E w F own cs (rA w0 v cs.length) v l/\fe w0 ms vs ds ls
 |_,_,_,_=>False
end
def MR:List Value->Value
 |[v]=>v
 |vs=> .tuple vs.toArray
def Dg(F:Nat->Prop)(w w':World)(own adR:List Nat)(b:Nat):Prop:=F b\/((w.heap.size<=b\/b∈adR)/\b<w'.heap.size/\b∉own)
def sD(w:World)(n:Nat):List Mode->List (DV U)->List Value->Prop
 |m::ms,d::ds,v::vs=>(∀own cs,m=.box own->d=.box cs->(rA w v cs.length).length=n)/\sD w n ms ds vs
 |_,_,_=>True
theorem vL{w:World}{n:Nat}:∀{ms:List Mode}{ds:List (DV U)}{vs:List Value},qe ms=true->sD w n ms ds vs
 |[],_,_,_=>trivial
 |_::_,[],_,_=>trivial
 |_::_,_::_,[],_=>trivial
 |m::ms,d::ds,v::vs,h=>by
  cases m with
  |ro=>exact⟨fun own cs hm=>(by cases hm),vL (by simpa[qe] using h)⟩
  |wr=>simp[qe] at h
  |mv=>simp[qe] at h
  |box _=>simp[qe] at h
def eu(E:Env U)(f:FuncId)(k:bp U):Prop:=
 ∀x:k.α,(∀p∈k.pre x,p)->∀(w:World)(F:Nat->Prop)(vs:List Value)(ls:List (List Nat)),(∀b,F b->b<w.heap.size)->Tj E w F->jj E w F k.md (k.ds x) vs ls->sD w k.Iq k.md (k.ds x) vs->ls.flatten.Nodup->
  (∀b∈ls.flatten,b<w.heap.size/\¬F b)->
  Calls E.P f vs.toArray w fun e w'=>∃(us:List Value)(re iQ:List (List Nat)),e=.returned (MR us)/\gN (·∈ls.flatten) w w'/\
   mU E w' (Dg F w w' (re.flatten++iQ.flatten) ls.flatten) (k.bT x).fresh (k.bT x).val us re/\
   fe E w' (Dg F w w' (re.flatten++iQ.flatten) ls.flatten) w k.md vs (k.bT x).IV iQ/\
   (re.flatten++iQ.flatten).Nodup/\(∀b∈re.flatten,(b∈ls.flatten\/w.heap.size<=b)/\b<w'.heap.size)/\(∀b∈iQ.flatten,b∈ls.flatten\/(w.heap.size<=b/\b<w'.heap.size))
variable{E:Env U}{pm:Pm}
variable{F F':Nat->Prop}{kv:Key->Value}{fp:Key->List Nat}{σ:ah U}{a:Act}{w w':World}{bad:Key->Bool}
theorem xG(h:cE E pm F kv fp σ a w){rs:List Key}{x:AC U}{v:Value}{ps:List Prop}{b:iX U}
  (ha:ou (restrict σ.bJ rs) σ.aK x=some (ps,b)) (hp:∀p∈ps,p) (hx:RD E w F kv fp (bW σ) x v):
  Rp E w (FK F fp (x.keys.filter fun k=>(σ.bJ k).isSome)) false (.sl b.τ b.xs) v []:=by
 have key:∀(k:Key)(y:iX U)(d:Bool),restrict σ.bJ rs k=some (.arr y d)->k∈x.keys->∀b,(F b\/b∈fp k)->FK F fp (x.keys.filter fun k=>(σ.bJ k).isSome) b:=by
  intro k y d he hk b hb
  rcases hb with hb|hb
  ·exact .inl hb
  ·exact .inr ⟨k,wA.2 ⟨hk,by simp[jS he]⟩,hb⟩
 unfold ou at ha
 split at ha
 ·cases ha
  exact(cf hx rfl:Rp E w F false _ _ _).fQ (fun b hb=> .inl hb)
 ·cases ha
  exact(cf hx rfl).1.fQ (fun b hb=> .inl hb)
 ·rename_i k p
  split at ha
  ·rename_i y d he
   cases iq:fL (restrict σ.bJ rs) σ.aK k p<;>simp only[iq,cond_false,cond_true] at ha
   ·cases ha
   ·have hn:=cf hx (Gd iq he)
    obtain⟨v',h1,h2⟩:=(MW h (jS he)).nav ha hp
    have:v=v':=hn.unique h1
    subst this
    exact h2.fQ (key k y d he (by simp[AC.keys]))
  ·cases ha
 ·rename_i k wd lo hi
  split at ha
  ·rename_i y d he
   cases hw:Nat.beq wd (U.wd y.τ)<;>simp only[hw,cond_false,cond_true] at ha
   ·cases ha
   ·cases ha
    have ui:=mM hw
    subst ui
    obtain⟨h1,h2⟩:=cf hx rfl
    subst h1
    exact((MW h (jS he)).sub h2 (hp _ (by simp))).fQ (key k y d he (by simp[AC.keys]))
  ·cases ha
 ·cases ha
theorem anM(h:cE E pm F kv fp σ a w){rs:List Key}{x:AC U}{v:Value}{ps:List Prop}{b:iX U}
  (ha:zi (restrict σ.bJ rs) σ.aK x=some (ps,b)) (hp:∀p∈ps,p) (hx:RD E w F kv fp (bW σ) x v):
  Rp E w (FK F fp (x.keys.filter fun k=>(σ.bJ k).isSome)) false (.sl b.τ b.xs) v []:=by
 unfold zi at ha
 split at ha
 rotate_left
 ·cases ha
 rename_i k i wd j p
 split at ha
 rotate_left
 ·cases ha
 rename_i y dead he
 cases iq:fL (restrict σ.bJ rs) σ.aK k ((i,wd,j)::p)<;>simp only[iq,cond_false,cond_true] at ha
 ·cases ha
 split at ha
 rotate_left
 ·cases ha
 rename_i IF b' hw
 cases ha
 have e8:=jS he
 have hn:=cf hx (Gd iq he)
 obtain⟨v',h1,h2⟩:=eo.nav (h.di k _ e8) hw (fun q hq=>hp q (by simp[hq])) (hp _ (by simp))
 have:v=v':=hn.unique h1
 subst this
 refine h2.fQ fun b hb=> ?_
 rcases hb with hb|hb
 ·exact .inl hb
 ·exact .inr ⟨k,wA.2 ⟨by simp[AC.keys],by simp[e8]⟩,hb⟩
theorem acY(h:cE E pm F kv fp σ a w){rs:List Key}{want:Option U.Ty}{x:AC U}{v:Value}{ps:List Prop}{c:U.C}
  (hc:cellOf (restrict σ.bJ rs) σ.aK want x=some (ps,c)) (hp:∀p∈ps,p) (hx:RD E w F kv fp (bW σ) x v):Rp E w (FK F fp (x.keys.filter fun k=>(σ.bJ k).isSome)) false c v []:=by
 unfold cellOf at hc
 split at hc
 ·cases hc
  exact(cf hx rfl:Rp E w F false _ _ _).fQ (fun b hb=> .inl hb)
 ·split at hc
  ·cases hc
   obtain⟨ad,h1⟩:=cf hx rfl
   subst h1
   exact .nil _ _ _ _ (by simp)
  ·cases hc
 ·split at hc
  ·rename_i IF b ha
   cases hc
   exact xG h ha hp hx
  ·split at hc
   ·rename_i IF b ha
    cases hc
    exact anM h ha hp hx
   ·cases hc
theorem acW(h:cE E pm F kv fp σ a w){rs:List Key}:∀{xs:List (AC U)}{want:List (Option U.Ty)}{vs:List Value}{ps:List Prop}{cs:List U.C},
  cellsOf (restrict σ.bJ rs) σ.aK want xs=some (ps,cs)->(∀p∈ps,p)->ly E w F kv fp (bW σ) xs vs->
  cs.length=xs.length/\∀(i:Nat)(c:U.C),cs[i]? =some c->Rp E w (FK F fp ((xs.flatMap AC.keys).filter fun k=>(σ.bJ k).isSome)) false c (vs.getD i undef) []:=by
 intro xs
 induction xs with
 |nil=>
  intro want vs ps cs hc hp hx
  simp only[cellsOf,gx,ox] at hc
  obtain⟨rfl,rfl⟩:=hc
  exact⟨rfl,fun i c hc=>by simp at hc⟩
 |cons x xs ih=>
  intro want vs ps cs hc hp hx
  simp only[cellsOf] at hc
  split at hc
  ·rename_i S_ c1 X' cs2 h1 h2
   cases hc
   cases vs with
   |nil=>have:=hx.1;simp at this
   |cons v vs=>
    have hx1:RD E w F kv fp (bW σ) x v:=hx.2 0 x v rfl rfl
    have hx2:ly E w F kv fp (bW σ) xs vs:=⟨by have:=hx.1;simpa using this,fun i y u hy hu=>hx.2 (i+1) y u (by simpa using hy) (by simpa using hu)⟩
    have g1:=acY h h1 (fun p kq=>hp p (by simp[kq])) hx1
    obtain⟨i1,i2⟩:=ih h2 (fun p kq=>hp p (by simp[kq])) hx2
    refine⟨by simp[i1],fun i c hc=> ?_⟩
    cases i with
    |zero=>
     simp only[t_,gx] at hc;subst hc
     exact g1.fQ (fun b hb=>Gg (fun k hk=>by
      rw[wA] at hk⊢
      exact⟨by rw[yh];exact qC _ hk.1,hk.2⟩) hb)
    |succ i=>exact(i2 i c (by simpa using hc)).fQ (fun b hb=>Gg (fun k hk=>by
      rw[wA] at hk⊢
      exact⟨by rw[yh];exact pS _ hk.1,hk.2⟩) hb)
  ·cases hc
theorem ac'{ks K:List Key}(hK:∀k∈ks,(σ.bJ k).isSome=true->k∈K){b:Nat}:FK F fp (ks.filter fun k=>(σ.bJ k).isSome) b->FK F fp K b:=
 Gg (fun k hk=>by rw[wA] at hk;exact hK k hk.1 hk.2)
theorem Rp.mh{m:Bool}{u v:Value}{l:List Nat}(h:Rp E w F m (.lit u) v l):l=[]/\v=u/\gp u:=by
 generalize hc:(Cell.lit u:U.C)=c at h
 cases h with
 |lit _ _ ho=>cases hc;exact⟨rfl,rfl,ho⟩
 |nil=>cases hc
 |shr=>cases hc
 |own=>cases hc
theorem MU:∀{cs:List (AC U)}{l:List U.C},plain cs=some l->cs=l.map .c
 |[],l,h=>by cases h;rfl
 | .c x::r,l,h=>by
  simp only[plain] at h
  split at h
  ·rename_i l' hl;cases h;rw[MU hl];rfl
  ·cases h
 | .e0::r,l,h=>by simp[plain] at h
 | .ref _ _::r,l,h=>by simp[plain] at h
 | .sub _ _ _ _::r,l,h=>by simp[plain] at h
 | .lg _ _ _ _ _::r,l,h=>by simp[plain] at h
 | .kc _ _::r,l,h=>by simp[plain] at h
 | .ia _::r,l,h=>by simp[plain] at h
 | .kn _ _ _::r,l,h=>by simp[plain] at h
theorem Uj(h:cE E pm F kv fp σ a w){rs:List Key}{want:List (Option U.Ty)}{x:SV U}{v:Value}{ps:List Prop}{d:DV U}{K:List Key}
  (ha:tP (restrict σ.bJ rs) σ.aK want x=some (ps,d)) (hp:∀p∈ps,p) (hx:RS E w F kv fp (bW σ) x v) (hK:∀k∈x.keys,(σ.bJ k).isSome=true->k∈K):l_ E w (FK F fp K) .ro d v []:=by
 unfold tP at ha
 split at ha
 ·rename_i cs
  cases ha
  obtain⟨b,o,h1,h2,h3⟩:=cf (Gf hx) rfl
  exact⟨⟨b,o,h1,.inl h2,fun j c hj=>by obtain⟨u,h4,h5⟩:=h3 j c hj;exact⟨u,h4,h5.fQ (fun b hb=> .inl hb)⟩⟩,rfl⟩
 ·rename_i k off
  split at ha
  ·rename_i cs he
   split at ha
   ·rename_i l hl
    cases ha
    have ur:=MU hl
    obtain⟨b,h1,h2⟩:=cf (Gf hx) rfl
    have e8:=jS he
    obtain⟨b',cur,e',g1,g2,g3,g4⟩:=h.di k _ e8
    rw[h1] at g1
    simp only[Value.pointer.injEq,gx,Addr.mk.injEq] at g1
    obtain⟨rfl,_,_⟩:=g1
    have hk:k∈K:=hK k (by simp[SV.keys,SV.AQ,AC.keys]) (by rw[e8];rfl)
    refine⟨⟨b,off,h2,.inr ⟨k,hk,by rw[g3];exact ma.2 rfl⟩,fun j c hj=> ?_⟩,rfl⟩
    rw[FV] at hj
    have s8:cs[off+j]? =some (.c c):=by rw[ur,nk,hj];rfl
    obtain⟨u,hu⟩:∃u,cur.toList[off+j]? =some u:=by
     have gF:off+j<cs.length:=by
      rcases nV (off+j) cs.length with h|h
      ·exact h
      ·rw[nz h] at s8;cases s8
     exact⟨_,fo (by rw[<-g4.1];exact gF)⟩
    have hd:=g4.2 _ _ u s8 hu
    refine⟨u,?_,(cf hd rfl:Rp E w F false _ _ _).fQ (fun b hb=> .inl hb)⟩
    simp only[World.cell?,g2]
    simpa using hu
   ·cases ha
  ·cases ha
 ·rename_i y _
  split at ha
  ·rename_i IF c hc
   cases ha
   exact⟨(acY h hc hp (Gf hx)).fQ (fun b hb=>ac' (fun k hk=>hK k (by simpa[SV.keys,SV.AQ] using hk)) hb),rfl⟩
  ·cases ha
 ·rename_i cs
  split at ha
  ·rename_i IF l hl
   cases ha
   obtain⟨vs,h1,h2⟩:=hx
   simp only[if_true] at h2
   obtain⟨g1,g2⟩:=acW h hl hp h1
   exact⟨vs,h2,by rw[g1];exact h1.1.symm,fun i c hc=>(g2 i c hc).fQ (fun b hb=>ac' (fun k hk=>hK k (by simpa[SV.keys,SV.AQ] using hk)) hb),rfl⟩
  ·cases ha
 ·cases ha
theorem l_.Yj{w w':World}{F F':Nat->Prop}{d:DV U}{v:Value}{l:List Nat}(h:l_ E w F .ro d v l)(hF:∀b,F b->F' b/\w'.heap[b]? =w.heap[b]?):l_ E w' F' .ro d v l:=by
 cases d with
 |one c=>exact⟨h.1.f_ hF (by simp),h.2⟩
 |agg cs=>
  obtain⟨vs,h1,h2,h3,h4⟩:=h
  exact⟨vs,h1,h2,fun i c hc=>(h3 i c hc).f_ hF (by simp),h4⟩
 |ptr cs=>
  obtain⟨⟨b,o,h1,h2,h3⟩,h4⟩:=h
  refine⟨⟨b,o,h1,(hF b h2).1,fun j c hj=> ?_⟩,h4⟩
  obtain⟨u,g1,g2⟩:=h3 j c hj
  refine⟨u,?_,g2.f_ hF (by simp)⟩
  rw[World.cell?_of_block (w:=w) (a:=⟨b,o+j,none⟩) (hF b h2).2];exact g1
 |box _=>exact h.elim
 |fn p=>exact⟨nj.f_ h.1 hF,h.2⟩
theorem RDA.arg{w:World}{F:Nat->Prop}{d:DA U}{v:Value}(h:RDA E w F d v):l_ E w F .ro d.dv v []:=by
 obtain⟨g,cs⟩:=d
 obtain⟨vs,h1,h2,h3⟩:=h
 cases g with
 |true=>
  simp only[if_true] at h3
  have e:(DA.mk true cs:DA U).dv=.agg cs:=rfl
  rw[e]
  exact⟨vs,h3,h1,h2,rfl⟩
 |false=>
  simp only[wx,if_false] at h3
  subst h3
  match cs,h1,h2 with
  |[c],h1,h2=>exact⟨h2 0 c rfl,rfl⟩
theorem jj.Ph{w:World}{F:Nat->Prop}:∀{ms:List Mode}{ds:List (DV U)}{vs:List Value},qe ms=true->ms.length=ds.length->ds.length=vs.length->(∀(i:Nat)(d:DV U)(v:Value),ds[i]? =some d->vs[i]? =some v->l_ E w F .ro d v [])->
  jj E w F ms ds vs (List.replicate ms.length [])
 |[],[],[],_,_,_,_=>trivial
 |m::ms,d::ds,v::vs,hr,h1,h2,h=>by
  cases m with
  |ro=>exact⟨h 0 d v rfl rfl,jj.Ph (by simpa[qe] using hr) (by simpa using h1) (by simpa using h2) (fun i d v hd hv=>h (i+1) d v (by simpa using hd) (by simpa using hv))⟩
  |wr=>simp[qe] at hr
  |mv=>simp[qe] at hr
  |box _=>simp[qe] at hr
 |[],_::_,_,_,h1,_,_=>by simp at h1
 |_::_,[],_,_,h1,_,_=>by simp at h1
 |[],[],_::_,_,_,h2,_=>by simp at h2
 |_::_,_::_,[],_,_,h2,_=>by simp at h2
theorem anz(h:cE E pm F kv fp σ a w){rs:List Key}{K:List Key}:∀{xs:List (AV U)}{vs:List Value}{ps:List Prop}{ds:List (DV U)},tL (restrict σ.bJ rs) σ.aK xs=some (ps,ds)->(∀p∈ps,p)->xs.length=vs.length->
  (∀(i:Nat)(x:AV U)(u:Value),xs[i]? =some x->vs[i]? =some u->RV E w F kv fp (bW σ) x u)->(∀x∈xs,∀y∈x.cs,∀k∈y.keys,(σ.bJ k).isSome=true->k∈K)->
  ds.length=vs.length/\∀(i:Nat)(d:DV U)(v:Value),ds[i]? =some d->vs[i]? =some v->l_ E w (FK F fp K) .ro d v []:=by
 intro xs
 induction xs with
 |nil=>
  intro vs ps ds hc hp hl hx hK
  simp only[tL,gx,ox] at hc
  obtain⟨rfl,rfl⟩:=hc
  exact⟨hl,fun i d v hd=>by simp at hd⟩
 |cons x xs ih=>
  intro vs ps ds hc hp hl hx hK
  cases vs with
  |nil=>simp at hl
  |cons v vs=>
   simp only[tL] at hc
   split at hc
   ·rename_i S_ d1 X' ds2 h1 h2
    cases hc
    obtain⟨i1,i2⟩:=ih h2 (fun p kq=>hp p (by simp[kq])) (by simpa using hl) (fun i y u hy hu=>hx (i+1) y u (by simpa using hy) (by simpa using hu)) (fun y hy=>hK y (cA _ hy))
    refine⟨by simp[i1],fun i d u hd hu=> ?_⟩
    cases i with
    |zero=>
     simp only[t_,gx] at hd hu
     subst hd;subst hu
     exact Uj h h1 (fun p kq=>hp p (by simp[kq])) (show RS E w F kv fp (bW σ) (.v x) v from hx 0 x v rfl rfl) (fun k hk=>by
      obtain⟨y,hy,hk⟩:=SV.mem_keys.1 hk
      exact hK x gj y hy k hk)
    |succ i=>exact i2 i d u (by simpa using hd) (by simpa using hu)
   ·cases hc
theorem anu{w:World}{F:Nat->Prop}(GF:Tj E w F){g:FuncId}{k:bp U}{vs:List Value}{ds:List (DV U)}(hf:yf E.P g)(hk:eu E g k)(hr:qe k.md=true)(hl:ds.length=vs.length)
  (hd:∀(i:Nat)(d:DV U)(v:Value),ds[i]? =some d->vs[i]? =some v->l_ E w F .ro d v []):nj E w F (ic k ds) (.func (.func g) #[] vs.toArray):=by
 refine⟨g,_,rfl,hf,fun das r hp w' F' hF gF us vr=> ?_⟩
 unfold ic at hp
 split at hp
 ·rename_i x hof
  split at hp
  ·rename_i v Nl YN
   split at hp
   ·rename_i hc
    cases hp
    obtain⟨EF,NG⟩:=hc
    have YT:=k.law _ x hof
    have hlen:(das.map DA.dv++ds).length=(us++vs).length:=by simp[vr.1,hl]
    have ol:=jj.Ph (E:=E) (w:=w') (F:=F') (ms:=k.md) (ds:=das.map DA.dv++ds) (vs:=us++vs) hr (by simp[EF]) hlen (fun i d u AD hu=>by
     rcases nV i us.length with hi|hi
     ·rw[vC (by simpa[vr.1] using hi)] at AD
      rw[vC hi] at hu
      rw[nk] at AD
      cases hda:das[i]? with
      |none=>rw[hda] at AD;cases AD
      |some da=>rw[hda] at AD;cases AD;exact(vr.2 i da u hda hu).arg
     ·rw[wC (by simpa[vr.1] using hi)] at AD
      rw[wC hi] at hu
      have e:(das.map DA.dv).length=us.length:=by simp[vr.1]
      rw[e] at AD
      exact(hd _ d u AD hu).Yj hF)
    have EC:(List.replicate k.md.length ([]:List Nat)).flatten=[]:=by simp
    have:=hk x NG w' F' (us++vs) (List.replicate k.md.length []) gF (GF.f_ hF) (by rw[YT];exact ol) (vL hr) (by rw[EC];exact W4) (by rw[EC];simp)
    have e:us.toArray++vs.toArray=(us++vs).toArray:=by simp
    rw[e]
    refine this.mono ?_
    rintro e w'' ⟨Xw,re,iQ,rfl,h1,h2,_⟩
    rw[EC] at h1
    rw[Nl] at h2
    cases Xw with
    |nil=>exact h2.elim
    |cons u Xw=>cases re with
     |nil=>exact h2.elim
     |cons l re=>cases Xw with
      |cons _ _=>exact h2.2.elim
      |nil=>
       have h3:=h2.1
       have key:∀(G:Nat->Prop) fresh,kz E w'' G fresh (.one (.lit r)) u l->u=r/\gp r:=by
        intro G fresh h
        cases fresh with
        |true=>exact⟨(Rp.mh h).2.1,(Rp.mh h).2.2⟩
        |false=>exact⟨(Rp.mh h.1).2.1,(Rp.mh h.1).2.2⟩
       obtain⟨e1,e2⟩:=key _ _ h3
       exact⟨by rw[e1];rfl,e2,h1.mono (by simp)⟩
   ·cases hp
  ·cases hp
 ·cases hp
theorem anQ(hC:∀g k,E.NY g=some k->yf E.P g/\eu E g k)(h:cE E pm F kv fp σ a w){rs:List Key}{want:List (Option U.Ty)}{x:SV U}{v:Value}{ps:List Prop}{d:DV U}{K:List Key}
  (ha:tQ E (restrict σ.bJ rs) σ.aK want .ro x=some (ps,d)) (hp:∀p∈ps,p) (hx:RS E w F kv fp (bW σ) x v) (hK:∀k∈x.keys,(σ.bJ k).isSome=true->k∈K):l_ E w (FK F fp K) .ro d v []:=by
 simp only[tQ] at ha
 unfold JT at ha
 split at ha
 ·cases ha
  exact⟨nj.f_ hx (fun b hb=>⟨.inl hb,rfl⟩),rfl⟩
 ·rename_i g xs
  split at ha
  ·rename_i k IF ds hk ur
   rw[h_] at ha
   split at ha
   ·rename_i hc
    simp only[cK] at hc
    cases ha
    obtain⟨vs,rfl,hl,Eh⟩:=hx
    obtain⟨h1,h2⟩:=anz (K:=K) h ur hp hl Eh (fun y hy z hz k' cO=>hK k' (SV.mem_keys.2 ⟨z,nT.2 ⟨y,hy,hz⟩,cO⟩))
    exact⟨anu (h.lay.f_ fun b hb=>⟨.inl hb,rfl⟩) (hC g k hk).1 (hC g k hk).2 hc.1 h1 h2,rfl⟩
   ·cases ha
  ·cases ha
 ·exact Uj h ha hp hx hK
theorem KD{w:World}{b:Nat}{cur:Array Value}{e:TypeId}(h:w.heap[b]? =some (.cells cur e (0,0)))(n:Nat):rA w (.pointer (some ⟨b,0,none⟩)) n=cur.toList.drop n:=by
 simp only[rA,h]
theorem ly.cons_inv{x:AC U}{xs:List (AC U)}{vs:List Value}(h:ly E w F kv fp bad (x::xs) vs):∃v uZ,vs=v::uZ/\RD E w F kv fp bad x v/\ly E w F kv fp bad xs uZ:=by
 cases vs with
 |nil=>have:=h.1;simp at this
 |cons v vs=>exact⟨v,vs,rfl,h.2 0 x v rfl rfl,by have:=h.1;simpa using this,fun i y u hy hu=>h.2 (i+1) y u (by simpa using hy) (by simpa using hu)⟩
theorem ly.cons{x:AC U}{xs:List (AC U)}{v:Value}{vs:List Value}(h:RD E w F kv fp bad x v)(h':ly E w F kv fp bad xs vs):ly E w F kv fp bad (x::xs) (v::vs):=by
 refine⟨by simp[h'.1],fun i y u hy hu=> ?_⟩
 cases i with
 |zero=>simp only[t_,gx] at hy hu;subst hy hu;exact h
 |succ i=>exact h'.2 i y u (by simpa using hy) (by simpa using hu)
theorem eW.rp{y:iX U}{v:Value}{l:List Nat}(h:eW E w F true y v l):Rp E w F true (.sl y.τ y.xs) v l:=by
 obtain⟨τ,xs⟩:=y
 rcases h with⟨h1,⟨ad,rfl⟩,rfl⟩|⟨b,cap,cur,vs,gV,rfl,h2,h3,h4,h5,h6,h7,rfl⟩
 ·simp only at h1
  subst h1
  exact .nil _ _ _ _ (fun _=>rfl)
 ·exact .own τ xs b cap cur vs gV h2 h3 h4 h5 h6 h7
theorem Xz(h:cE E pm F kv fp σ a w){rs:List Key}:∀{xs:List (AC U)}{vs:List Value}{cs:List U.C}{ks:List Key},js (restrict σ.bJ rs) xs=some (cs,ks)->ly E w F kv fp (bW σ) xs vs->
  cs.length=xs.length/\(∀k∈ks,(σ.bJ k).isSome=true)/\∃fl:List (List Nat),fl.length=cs.length/\(∀(i:Nat)(c:U.C),cs[i]? =some c->Rp E w F true c (vs.getD i undef) (fl.getD i []))/\fl.flatten=ks.flatMap fp
 |[],vs,cs,ks,hw,hx=>by
  simp only[js,gx,ox] at hw
  obtain⟨rfl,rfl⟩:=hw
  exact⟨rfl,by simp,[],rfl,fun i c hc=>by simp at hc,rfl⟩
 |x::xs,vs,cs,ks,hw,hx=>by
  obtain⟨v,uZ,rfl,h1,h2⟩:=hx.cons_inv
  have put:∀{c:U.C}{uK:List U.C}{ks':List Key}{l:List Nat},Rp E w F true c v l->(uK.length=xs.length/\(∀k∈ks',(σ.bJ k).isSome=true)/\∃fl:List (List Nat),fl.length=uK.length/\(∀(i:Nat)(c:U.C),uK[i]? =some c->Rp E w F true c (uZ.getD i undef) (fl.getD i []))/\fl.flatten=ks'.flatMap fp)->
    ∃fl:List (List Nat),fl.length=(c::uK).length/\(∀(i:Nat)(c':U.C),(c::uK)[i]? =some c'->Rp E w F true c' ((v::uZ).getD i undef) (fl.getD i []))/\fl.flatten=l++ks'.flatMap fp:=by
   rintro c uK ks' l hr ⟨_,_,fl,f1,f2,f3⟩
   refine⟨l::fl,by simp[f1],fun i c' hc=> ?_,by simp[f3]⟩
   cases i with
   |zero=>simp only[t_,gx] at hc;subst hc;simpa using hr
   |succ i=>simpa using f2 i c' (by simpa using hc)
  unfold js at hw
  split at hw
  ·rename_i pe;cases pe
  ·rename_i u r pe
   cases pe
   split at hw
   ·rename_i uK ks' hr
    cases hw
    have ih:=Xz h hr h2
    have hl:Rp E w F false _ v []:=cf h1 rfl
    obtain⟨_,hvu,ho⟩:=hl.mh
    subst hvu
    obtain⟨fl,f1,f2,f3⟩:=put (.lit true _ ho) ih
    exact⟨by simp[ih.1],ih.2.1,fl,f1,f2,by simpa using f3⟩
   ·cases hw
  ·rename_i k r pe
   cases pe
   split at hw
   ·rename_i y uK ks' he hr
    cases hw
    have ih:=Xz h hr h2
    have e8:=jS he
    have hv:v=kv k:=cf h1 rfl
    have ho:eW E w F true y (kv k) (fp k):=h.di k _ e8
    obtain⟨fl,f1,f2,f3⟩:=put (c:=.sl y.τ y.xs) (by rw[hv];exact ho.rp) ih
    exact⟨by simp[ih.1],fun k' cO=>by
     rcases jQ.1 cO with rfl|cO
     ·rw[e8];rfl
     ·exact ih.2.1 k' cO,fl,f1,f2,by simpa using f3⟩
   ·cases hw
  ·cases hw
end AM
