import Derived.Test.YtmcepppejchhkaaGreatDoorQAmOps8
namespace AM
set_option linter.unusedVariables false
open Go
variable{U:lQ}
def s_(w:World)(v:Value)(n:Nat):List Value:=match v with
 | .pointer (some a)=>match w.heap[a.block]? with
  |some (.cells cur _ _)=>cur.toList.drop n
  |_=>[]
 |_=>[]
section
variable(E:Env U)(w:World)(F:Nat->Prop)
def sM(own:Bool)(cs:List U.C)(rest:List Value)(v:Value)(l:List Nat):Prop:=
 ∃(b:Nat)(cur:Array Value)(e:TypeId)(fl:List (List Nat)),v=.pointer (some ⟨b,0,none⟩)/\w.heap[b]? =some (.cells cur e (0,0))/\cs.length<=cur.size/\cur.toList.drop cs.length=rest/\(∀u∈rest,gD u)/\
  fl.length=cs.length/\(∀(i:Nat)(c:U.C),cs[i]? =some c->Rp E w F own c (cur.toList.getD i undef) (fl.getD i []))/\l=b::fl.flatten
def mT(cs:List U.C)(v:Value)(l:List Nat):Prop:=
 ∃(vs:List Value)(fl:List (List Nat)),v=.agg vs.toArray/\vs.length=cs.length/\fl.length=cs.length/\(∀(i:Nat)(c:U.C),cs[i]? =some c->Rp E w F true c (vs.getD i undef) (fl.getD i []))/\l=fl.flatten
def o6:Mode->DV U->Value->List Nat->Prop
 | .ro,.one c,v,l=>Rp E w F false c v []/\l=[]
 | .ro,.agg cs,v,l=>∃vs:List Value,v=.agg vs.toArray/\vs.length=cs.length/\(∀(i:Nat)(c:U.C),cs[i]? =some c->Rp E w F false c (vs.getD i undef) [])/\l=[]
 | .ro,.ptr cs,v,l=>(∃b o,v=.pointer (some ⟨b,o,none⟩)/\F b/\∀(j:Nat)(c:U.C),cs[j]? =some c->∃u,w.cell? ⟨b,o+j,none⟩=some u/\Rp E w F false c u [])/\l=[]
 | .ro,.fn p,v,l=>oa E w F p v/\l=[]
 | .wr,.one (.sl τ xs),v,l=>fe E w F true ⟨τ,xs⟩ v l
 | .wr,.agg cs,v,l=>mT E w F cs v l
 | .mv,.one c,v,l=>Rp E w F true c v l
 | .mv,.agg cs,v,l=>mT E w F cs v l
 | .box own,.box cs,v,l=>sM E w F own cs (s_ w v cs.length) v l
 |_,_,_,_=>False
def jD:List Mode->List (DV U)->List Value->List (List Nat)->Prop
 |[],[],[],[]=>True
 |m::ms,d::ds,v::vs,l::ls=>o6 E w F m d v l/\jD ms ds vs ls
 |_,_,_,_=>False
def lg(fresh:Bool):DV U->Value->List Nat->Prop
 | .one c,v,l=>if fresh then Rp E w F true c v l else Rp E w F false c v []/\l=[]
 | .agg cs,v,l=>if fresh then mT E w F cs v l
   else∃vs:List Value,v=.agg vs.toArray/\vs.length=cs.length/\(∀(i:Nat)(c:U.C),cs[i]? =some c->Rp E w F false c (vs.getD i undef) [])/\l=[]
 | .box cs,v,l=>fresh=true/\∃b cur e,v=.pointer (some ⟨b,0,none⟩)/\w.heap[b]? =some (.cells cur e (0,0))/\l=[b]/\cur.size=cs.length/\∀(i:Nat)(c:U.C),cs[i]? =some c->Rp E w F false c (cur.toList.getD i undef) []
 | .ptr _,_,_=>False
 | .fn _,_,_=>False
def nQ:List Bool->List (DV U)->List Value->List (List Nat)->Prop
 |_,[],[],[]=>True
 |fs,d::ds,v::vs,l::ls=>lg E w F (fs.headD true) d v l/\nQ fs.tail ds vs ls
 |_,_,_,_=>False
def fq(w0:World):List Mode->List Value->List (DV U)->List (List Nat)->Prop
 |[],[],[],[]=>True
 | .ro::ms,_::vs,ds,ls=>fq w0 ms vs ds ls
 | .mv::ms,_::vs,ds,ls=>fq w0 ms vs ds ls
 | .wr::ms,v::vs,.one (.sl τ ys)::ds,l::ls=>fe E w F true ⟨τ,ys⟩ v l/\fq w0 ms vs ds ls
 | .wr::ms,v::vs,.agg cs::ds,l::ls=>mT E w F cs v l/\fq w0 ms vs ds ls
 | .box own::ms,v::vs,.box cs::ds,l::ls=>sM E w F own cs (s_ w0 v cs.length) v l/\fq w0 ms vs ds ls
 |_,_,_,_=>False
end
def Pr:List Value->Value
 |[v]=>v
 |vs=> .tuple vs.toArray
def Fh(F:Nat->Prop)(w w':World)(own aeV:List Nat)(b:Nat):Prop:=F b\/((w.heap.size<=b\/b∈aeV)/\b<w'.heap.size/\b∉own)
def uf(w:World)(n:Nat):List Mode->List (DV U)->List Value->Prop
 |m::ms,d::ds,v::vs=>(∀own cs,m=.box own->d=.box cs->(s_ w v cs.length).length=n)/\uf w n ms ds vs
 |_,_,_=>True
theorem xi{w:World}{n:Nat}:∀{ms:List Mode}{ds:List (DV U)}{vs:List Value},rv ms=true->uf w n ms ds vs
 |[],_,_,_=>trivial
 |_::_,[],_,_=>trivial
 |_::_,_::_,[],_=>trivial
 |m::ms,d::ds,v::vs,h=>by
  cases m with
  |ro=>exact⟨fun own cs hm=>(by cases hm),xi (by simpa[rv] using h)⟩
  |wr=>simp[rv] at h
  |mv=>simp[rv] at h
  |box _=>simp[rv] at h
def eQ(E:Env U)(f:FuncId)(k:ka U):Prop:=
 ∀x:k.α,(∀p∈k.pre x,p)->∀(w:World)(F:Nat->Prop)(vs:List Value)(ls:List (List Nat)),(∀b,F b->b<w.heap.size)->QR E w F->jD E w F k.md (k.ds x) vs ls->uf w k.KQ k.md (k.ds x) vs->ls.flatten.Nodup->
  (∀b∈ls.flatten,b<w.heap.size/\¬F b)->
  Calls E.P f vs.toArray w fun e w'=>∃(us:List Value)(sQ jh:List (List Nat)),e=.returned (Pr us)/\ic (·∈ls.flatten) w w'/\
   nQ E w' (Fh F w w' (sQ.flatten++jh.flatten) ls.flatten) (k.oe x).fresh (k.oe x).val us sQ/\
   fq E w' (Fh F w w' (sQ.flatten++jh.flatten) ls.flatten) w k.md vs (k.oe x).Ll jh/\
   (sQ.flatten++jh.flatten).Nodup/\(∀b∈sQ.flatten,(b∈ls.flatten\/w.heap.size<=b)/\b<w'.heap.size)/\(∀b∈jh.flatten,b∈ls.flatten\/(w.heap.size<=b/\b<w'.heap.size))
variable{E:Env U}{pm:Pm}
variable{F F':Nat->Prop}{kv:Key->Value}{fp:Key->List Nat}{σ:ak U}{a:Act}{w w':World}{bad:Key->Bool}
theorem zl(h:cR E pm F kv fp σ a w){rs:List Key}{x:AC U}{v:Value}{ps:List Prop}{b:iE U}
  (ha:ru (restrict σ.bP rs) σ.aS x=some (ps,b)) (hp:∀p∈ps,p) (hx:RD E w F kv fp (bY σ) x v):
  Rp E w (FK F fp (x.keys.filter fun k=>(σ.bP k).isSome)) false (.sl b.τ b.xs) v []:=by
 have key:∀(k:Key)(y:iE U)(d:Bool),restrict σ.bP rs k=some (.arr y d)->k∈x.keys->∀b,(F b\/b∈fp k)->FK F fp (x.keys.filter fun k=>(σ.bP k).isSome) b:=by
  intro k y d he hk b hb
  rcases hb with hb|hb
  ·exact .inl hb
  ·exact .inr ⟨k,xR.2 ⟨hk,by simp[kf he]⟩,hb⟩
 unfold ru at ha
 split at ha
 ·cases ha
  exact(cx hx rfl:Rp E w F false _ _ _).fW (fun b hb=> .inl hb)
 ·cases ha
  exact(cx hx rfl).1.fW (fun b hb=> .inl hb)
 ·rename_i k p
  split at ha
  ·rename_i y d he
   cases ix:fU (restrict σ.bP rs) σ.aS k p<;>simp only[ix,cond_false,cond_true] at ha
   ·cases ha
   ·have hn:=cx hx (H5 ix he)
    obtain⟨v',h1,h2⟩:=(Pv h (kf he)).nav ha hp
    have:v=v':=hn.unique h1
    subst this
    exact h2.fW (key k y d he (by simp[AC.keys]))
  ·cases ha
 ·rename_i k wd lo hi
  split at ha
  ·rename_i y d he
   cases hw:Nat.beq wd (U.wd y.τ)<;>simp only[hw,cond_false,cond_true] at ha
   ·cases ha
   ·cases ha
    have vP:=nF hw
    subst vP
    obtain⟨h1,h2⟩:=cx hx rfl
    subst h1
    exact((Pv h (kf he)).sub h2 (hp _ (by simp))).fW (key k y d he (by simp[AC.keys]))
  ·cases ha
 ·cases ha
theorem am_(h:cR E pm F kv fp σ a w){rs:List Key}{x:AC U}{v:Value}{ps:List Prop}{b:iE U}
  (ha:AY (restrict σ.bP rs) σ.aS x=some (ps,b)) (hp:∀p∈ps,p) (hx:RD E w F kv fp (bY σ) x v):
  Rp E w (FK F fp (x.keys.filter fun k=>(σ.bP k).isSome)) false (.sl b.τ b.xs) v []:=by
 unfold AY at ha
 split at ha
 rotate_left
 ·cases ha
 rename_i k i wd j p
 split at ha
 rotate_left
 ·cases ha
 rename_i y dead he
 cases ix:fU (restrict σ.bP rs) σ.aS k ((i,wd,j)::p)<;>simp only[ix,cond_false,cond_true] at ha
 ·cases ha
 split at ha
 rotate_left
 ·cases ha
 rename_i K6 b' hw
 cases ha
 have fi:=kf he
 have hn:=cx hx (H5 ix he)
 obtain⟨v',h1,h2⟩:=eK.nav (h.dD k _ fi) hw (fun q hq=>hp q (by simp[hq])) (hp _ (by simp))
 have:v=v':=hn.unique h1
 subst this
 refine h2.fW fun b hb=> ?_
 rcases hb with hb|hb
 ·exact .inl hb
 ·exact .inr ⟨k,xR.2 ⟨by simp[AC.keys],by simp[fi]⟩,hb⟩
theorem ad1(h:cR E pm F kv fp σ a w){rs:List Key}{want:Option U.Ty}{x:AC U}{v:Value}{ps:List Prop}{c:U.C}
  (hc:cellOf (restrict σ.bP rs) σ.aS want x=some (ps,c)) (hp:∀p∈ps,p) (hx:RD E w F kv fp (bY σ) x v):Rp E w (FK F fp (x.keys.filter fun k=>(σ.bP k).isSome)) false c v []:=by
 unfold cellOf at hc
 split at hc
 ·cases hc
  exact(cx hx rfl:Rp E w F false _ _ _).fW (fun b hb=> .inl hb)
 ·split at hc
  ·cases hc
   obtain⟨ad,h1⟩:=cx hx rfl
   subst h1
   exact .nil _ _ _ _ (by simp)
  ·cases hc
 ·split at hc
  ·rename_i K6 b ha
   cases hc
   exact zl h ha hp hx
  ·split at hc
   ·rename_i K6 b ha
    cases hc
    exact am_ h ha hp hx
   ·cases hc
theorem ad0(h:cR E pm F kv fp σ a w){rs:List Key}:∀{xs:List (AC U)}{want:List (Option U.Ty)}{vs:List Value}{ps:List Prop}{cs:List U.C},
  cellsOf (restrict σ.bP rs) σ.aS want xs=some (ps,cs)->(∀p∈ps,p)->mw E w F kv fp (bY σ) xs vs->
  cs.length=xs.length/\∀(i:Nat)(c:U.C),cs[i]? =some c->Rp E w (FK F fp ((xs.flatMap AC.keys).filter fun k=>(σ.bP k).isSome)) false c (vs.getD i undef) []:=by
 intro xs
 induction xs with
 |nil=>
  intro want vs ps cs hc hp hx
  simp only[cellsOf,gI,pE] at hc
  obtain⟨rfl,rfl⟩:=hc
  exact⟨rfl,fun i c hc=>by simp at hc⟩
 |cons x xs ih=>
  intro want vs ps cs hc hp hx
  simp only[cellsOf] at hc
  split at hc
  ·rename_i Uw c1 ps2 cs2 h1 h2
   cases hc
   cases vs with
   |nil=>have:=hx.1;simp at this
   |cons v vs=>
    have hx1:RD E w F kv fp (bY σ) x v:=hx.2 0 x v rfl rfl
    have hx2:mw E w F kv fp (bY σ) xs vs:=⟨by have:=hx.1;simpa using this,fun i y u hy hu=>hx.2 (i+1) y u (by simpa using hy) (by simpa using hu)⟩
    have g1:=ad1 h h1 (fun p kW=>hp p (by simp[kW])) hx1
    obtain⟨i1,i2⟩:=ih h2 (fun p kW=>hp p (by simp[kW])) hx2
    refine⟨by simp[i1],fun i c hc=> ?_⟩
    cases i with
    |zero=>
     simp only[vF,gI] at hc;subst hc
     exact g1.fW (fun b hb=>H8 (fun k hk=>by
      rw[xR] at hk⊢
      exact⟨by rw[zZ];exact rW _ hk.1,hk.2⟩) hb)
    |succ i=>exact(i2 i c (by simpa using hc)).fW (fun b hb=>H8 (fun k hk=>by
      rw[xR] at hk⊢
      exact⟨by rw[zZ];exact qM _ hk.1,hk.2⟩) hb)
  ·cases hc
theorem aec{ks K:List Key}(hK:∀k∈ks,(σ.bP k).isSome=true->k∈K){b:Nat}:FK F fp (ks.filter fun k=>(σ.bP k).isSome) b->FK F fp K b:=
 H8 (fun k hk=>by rw[xR] at hk;exact hK k hk.1 hk.2)
theorem Rp.kt{m:Bool}{u v:Value}{l:List Nat}(h:Rp E w F m (.lit u) v l):l=[]/\v=u/\gD u:=by
 generalize hc:(Cell.lit u:U.C)=c at h
 cases h with
 |lit _ _ ho=>cases hc;exact⟨rfl,rfl,ho⟩
 |nil=>cases hc
 |shr=>cases hc
 |own=>cases hc
theorem Pt:∀{cs:List (AC U)}{l:List U.C},plain cs=some l->cs=l.map .c
 |[],l,h=>by cases h;rfl
 | .c x::r,l,h=>by
  simp only[plain] at h
  split at h
  ·rename_i l' hl;cases h;rw[Pt hl];rfl
  ·cases h
 | .e0::r,l,h=>by simp[plain] at h
 | .ref _ _::r,l,h=>by simp[plain] at h
 | .sub _ _ _ _::r,l,h=>by simp[plain] at h
 | .l7 _ _ _ _ _::r,l,h=>by simp[plain] at h
 | .kQ _ _::r,l,h=>by simp[plain] at h
 | .ia _::r,l,h=>by simp[plain] at h
 | .kn _ _ _::r,l,h=>by simp[plain] at h
theorem Vv(h:cR E pm F kv fp σ a w){rs:List Key}{want:List (Option U.Ty)}{x:SV U}{v:Value}{ps:List Prop}{d:DV U}{K:List Key}
  (ha:vt (restrict σ.bP rs) σ.aS want x=some (ps,d)) (hp:∀p∈ps,p) (hx:RS E w F kv fp (bY σ) x v) (hK:∀k∈x.keys,(σ.bP k).isSome=true->k∈K):o6 E w (FK F fp K) .ro d v []:=by
 unfold vt at ha
 split at ha
 ·rename_i cs
  cases ha
  obtain⟨b,o,h1,h2,h3⟩:=cx (H7 hx) rfl
  exact⟨⟨b,o,h1,.inl h2,fun j c hj=>by obtain⟨u,h4,h5⟩:=h3 j c hj;exact⟨u,h4,h5.fW (fun b hb=> .inl hb)⟩⟩,rfl⟩
 ·rename_i k off
  split at ha
  ·rename_i cs he
   split at ha
   ·rename_i l hl
    cases ha
    have vU:=Pt hl
    obtain⟨b,h1,h2⟩:=cx (H7 hx) rfl
    have fi:=kf he
    obtain⟨b',cur,e',g1,g2,g3,g4⟩:=h.dD k _ fi
    rw[h1] at g1
    simp only[Value.pointer.injEq,gI,Addr.mk.injEq] at g1
    obtain⟨rfl,_,_⟩:=g1
    have hk:k∈K:=hK k (by simp[SV.keys,SV.Cu,AC.keys]) (by rw[fi];rfl)
    refine⟨⟨b,off,h2,.inr ⟨k,hk,by rw[g3];exact mW.2 rfl⟩,fun j c hj=> ?_⟩,rfl⟩
    rw[HR] at hj
    have uA:cs[off+j]? =some (.c c):=by rw[vU,nS,hj];rfl
    obtain⟨u,hu⟩:∃u,cur.toList[off+j]? =some u:=by
     have gy:off+j<cs.length:=by
      rcases pt (off+j) cs.length with h|h
      ·exact h
      ·rw[ot h] at uA;cases uA
     exact⟨_,fE (by rw[<-g4.1];exact gy)⟩
    have hd:=g4.2 _ _ u uA hu
    refine⟨u,?_,(cx hd rfl:Rp E w F false _ _ _).fW (fun b hb=> .inl hb)⟩
    simp only[World.cell?,g2]
    simpa using hu
   ·cases ha
  ·cases ha
 ·rename_i y _
  split at ha
  ·rename_i K6 c hc
   cases ha
   exact⟨(ad1 h hc hp (H7 hx)).fW (fun b hb=>aec (fun k hk=>hK k (by simpa[SV.keys,SV.Cu] using hk)) hb),rfl⟩
  ·cases ha
 ·rename_i cs
  split at ha
  ·rename_i K6 l hl
   cases ha
   obtain⟨vs,h1,h2⟩:=hx
   simp only[if_true] at h2
   obtain⟨g1,g2⟩:=ad0 h hl hp h1
   exact⟨vs,h2,by rw[g1];exact h1.1.symm,fun i c hc=>(g2 i c hc).fW (fun b hb=>aec (fun k hk=>hK k (by simpa[SV.keys,SV.Cu] using hk)) hb),rfl⟩
  ·cases ha
 ·cases ha
theorem o6.aaQ{w w':World}{F F':Nat->Prop}{d:DV U}{v:Value}{l:List Nat}(h:o6 E w F .ro d v l)(hF:∀b,F b->F' b/\w'.heap[b]? =w.heap[b]?):o6 E w' F' .ro d v l:=by
 cases d with
 |one c=>exact⟨h.1.gv hF (by simp),h.2⟩
 |agg cs=>
  obtain⟨vs,h1,h2,h3,h4⟩:=h
  exact⟨vs,h1,h2,fun i c hc=>(h3 i c hc).gv hF (by simp),h4⟩
 |ptr cs=>
  obtain⟨⟨b,o,h1,h2,h3⟩,h4⟩:=h
  refine⟨⟨b,o,h1,(hF b h2).1,fun j c hj=> ?_⟩,h4⟩
  obtain⟨u,g1,g2⟩:=h3 j c hj
  refine⟨u,?_,g2.gv hF (by simp)⟩
  rw[World.cell?_of_block (w:=w) (a:=⟨b,o+j,none⟩) (hF b h2).2];exact g1
 |box _=>exact h.elim
 |fn p=>exact⟨oa.gv h.1 hF,h.2⟩
theorem RDA.arg{w:World}{F:Nat->Prop}{d:DA U}{v:Value}(h:RDA E w F d v):o6 E w F .ro d.dv v []:=by
 obtain⟨g,cs⟩:=d
 obtain⟨vs,h1,h2,h3⟩:=h
 cases g with
 |true=>
  simp only[if_true] at h3
  have e:(DA.mk true cs:DA U).dv=.agg cs:=rfl
  rw[e]
  exact⟨vs,h3,h1,h2,rfl⟩
 |false=>
  simp only[xS,if_false] at h3
  subst h3
  match cs,h1,h2 with
  |[c],h1,h2=>exact⟨h2 0 c rfl,rfl⟩
theorem jD.RX{w:World}{F:Nat->Prop}:∀{ms:List Mode}{ds:List (DV U)}{vs:List Value},rv ms=true->ms.length=ds.length->ds.length=vs.length->(∀(i:Nat)(d:DV U)(v:Value),ds[i]? =some d->vs[i]? =some v->o6 E w F .ro d v [])->
  jD E w F ms ds vs (List.replicate ms.length [])
 |[],[],[],_,_,_,_=>trivial
 |m::ms,d::ds,v::vs,hr,h1,h2,h=>by
  cases m with
  |ro=>exact⟨h 0 d v rfl rfl,jD.RX (by simpa[rv] using hr) (by simpa using h1) (by simpa using h2) (fun i d v hd hv=>h (i+1) d v (by simpa using hd) (by simpa using hv))⟩
  |wr=>simp[rv] at hr
  |mv=>simp[rv] at hr
  |box _=>simp[rv] at hr
 |[],_::_,_,_,h1,_,_=>by simp at h1
 |_::_,[],_,_,h1,_,_=>by simp at h1
 |[],[],_::_,_,_,h2,_=>by simp at h2
 |_::_,_::_,[],_,_,h2,_=>by simp at h2
theorem am0(h:cR E pm F kv fp σ a w){rs:List Key}{K:List Key}:∀{xs:List (AV U)}{vs:List Value}{ps:List Prop}{ds:List (DV U)},vp (restrict σ.bP rs) σ.aS xs=some (ps,ds)->(∀p∈ps,p)->xs.length=vs.length->
  (∀(i:Nat)(x:AV U)(u:Value),xs[i]? =some x->vs[i]? =some u->RV E w F kv fp (bY σ) x u)->(∀x∈xs,∀y∈x.cs,∀k∈y.keys,(σ.bP k).isSome=true->k∈K)->
  ds.length=vs.length/\∀(i:Nat)(d:DV U)(v:Value),ds[i]? =some d->vs[i]? =some v->o6 E w (FK F fp K) .ro d v []:=by
 intro xs
 induction xs with
 |nil=>
  intro vs ps ds hc hp hl hx hK
  simp only[vp,gI,pE] at hc
  obtain⟨rfl,rfl⟩:=hc
  exact⟨hl,fun i d v hd=>by simp at hd⟩
 |cons x xs ih=>
  intro vs ps ds hc hp hl hx hK
  cases vs with
  |nil=>simp at hl
  |cons v vs=>
   simp only[vp] at hc
   split at hc
   ·rename_i Uw d1 ps2 ds2 h1 h2
    cases hc
    obtain⟨i1,i2⟩:=ih h2 (fun p kW=>hp p (by simp[kW])) (by simpa using hl) (fun i y u hy hu=>hx (i+1) y u (by simpa using hy) (by simpa using hu)) (fun y hy=>hK y (fF _ hy))
    refine⟨by simp[i1],fun i d u hd hu=> ?_⟩
    cases i with
    |zero=>
     simp only[vF,gI] at hd hu
     subst hd;subst hu
     exact Vv h h1 (fun p kW=>hp p (by simp[kW])) (show RS E w F kv fp (bY σ) (.v x) v from hx 0 x v rfl rfl) (fun k hk=>by
      obtain⟨y,hy,hk⟩:=SV.mem_keys.1 hk
      exact hK x iH y hy k hk)
    |succ i=>exact i2 i d u (by simpa using hd) (by simpa using hu)
   ·cases hc
theorem amW{w:World}{F:Nat->Prop}(BY:QR E w F){g:FuncId}{k:ka U}{vs:List Value}{ds:List (DV U)}(hf:zW E.P g)(hk:eQ E g k)(hr:rv k.md=true)(hl:ds.length=vs.length)
  (hd:∀(i:Nat)(d:DV U)(v:Value),ds[i]? =some d->vs[i]? =some v->o6 E w F .ro d v []):oa E w F (fo k ds) (.func (.func g) #[] vs.toArray):=by
 refine⟨g,_,rfl,hf,fun das r hp w' F' hF gy us w5=> ?_⟩
 unfold fo at hp
 split at hp
 ·rename_i x hof
  split at hp
  ·rename_i v PW aa7
   split at hp
   ·rename_i hc
    cases hp
    obtain⟨GC,Qf⟩:=hc
    have aa_:=k.law _ x hof
    have hlen:(das.map DA.dv++ds).length=(us++vs).length:=by simp[w5.1,hl]
    have oi:=jD.RX (E:=E) (w:=w') (F:=F') (ms:=k.md) (ds:=das.map DA.dv++ds) (vs:=us++vs) hr (by simp[GC]) hlen (fun i d u Ck hu=>by
     rcases pt i us.length with hi|hi
     ·rw[zY (by simpa[w5.1] using hi)] at Ck
      rw[zY hi] at hu
      rw[nS] at Ck
      cases hda:das[i]? with
      |none=>rw[hda] at Ck;cases Ck
      |some da=>rw[hda] at Ck;cases Ck;exact(w5.2 i da u hda hu).arg
     ·rw[z_ (by simpa[w5.1] using hi)] at Ck
      rw[z_ hi] at hu
      have e:(das.map DA.dv).length=us.length:=by simp[w5.1]
      rw[e] at Ck
      exact(hd _ d u Ck hu).aaQ hF)
    have Cj:(List.replicate k.md.length ([]:List Nat)).flatten=[]:=by simp
    have:=hk x Qf w' F' (us++vs) (List.replicate k.md.length []) gy (BY.gv hF) (by rw[aa_];exact oi) (xi hr) (by rw[Cj];exact ZB) (by rw[Cj];simp)
    have e:us.toArray++vs.toArray=(us++vs).toArray:=by simp
    rw[e]
    refine this.mono ?_
    rintro e w'' ⟨Z6,sQ,jh,rfl,h1,h2,_⟩
    rw[Cj] at h1
    rw[PW] at h2
    cases Z6 with
    |nil=>exact h2.elim
    |cons u Z6=>cases sQ with
     |nil=>exact h2.elim
     |cons l sQ=>cases Z6 with
      |cons _ _=>exact h2.2.elim
      |nil=>
       have h3:=h2.1
       have key:∀(G:Nat->Prop) fresh,lg E w'' G fresh (.one (.lit r)) u l->u=r/\gD r:=by
        intro G fresh h
        cases fresh with
        |true=>exact⟨(Rp.kt h).2.1,(Rp.kt h).2.2⟩
        |false=>exact⟨(Rp.kt h.1).2.1,(Rp.kt h.1).2.2⟩
       obtain⟨e1,e2⟩:=key _ _ h3
       exact⟨by rw[e1];rfl,e2,h1.mono (by simp)⟩
   ·cases hp
  ·cases hp
 ·cases hp
theorem ane(hC:∀g k,E.Qw g=some k->zW E.P g/\eQ E g k)(h:cR E pm F kv fp σ a w){rs:List Key}{want:List (Option U.Ty)}{x:SV U}{v:Value}{ps:List Prop}{d:DV U}{K:List Key}
  (ha:vu E (restrict σ.bP rs) σ.aS want .ro x=some (ps,d)) (hp:∀p∈ps,p) (hx:RS E w F kv fp (bY σ) x v) (hK:∀k∈x.keys,(σ.bP k).isSome=true->k∈K):o6 E w (FK F fp K) .ro d v []:=by
 simp only[vu] at ha
 unfold Md at ha
 split at ha
 ·cases ha
  exact⟨oa.gv hx (fun b hb=>⟨.inl hb,rfl⟩),rfl⟩
 ·rename_i g xs
  split at ha
  ·rename_i k K6 ds hk vU
   rw[iw] at ha
   split at ha
   ·rename_i hc
    simp only[cN] at hc
    cases ha
    obtain⟨vs,rfl,hl,Gf⟩:=hx
    obtain⟨h1,h2⟩:=am0 (K:=K) h vU hp hl Gf (fun y hy z hz k' cY=>hK k' (SV.mem_keys.2 ⟨z,o8.2 ⟨y,hy,hz⟩,cY⟩))
    exact⟨amW (h.lay.gv fun b hb=>⟨.inl hb,rfl⟩) (hC g k hk).1 (hC g k hk).2 hc.1 h1 h2,rfl⟩
   ·cases ha
  ·cases ha
 ·exact Vv h ha hp hx hK
theorem M3{w:World}{b:Nat}{cur:Array Value}{e:TypeId}(h:w.heap[b]? =some (.cells cur e (0,0)))(n:Nat):s_ w (.pointer (some ⟨b,0,none⟩)) n=cur.toList.drop n:=by
 simp only[s_,h]
theorem mw.cons_inv{x:AC U}{xs:List (AC U)}{vs:List Value}(h:mw E w F kv fp bad (x::xs) vs):∃v wJ,vs=v::wJ/\RD E w F kv fp bad x v/\mw E w F kv fp bad xs wJ:=by
 cases vs with
 |nil=>have:=h.1;simp at this
 |cons v vs=>exact⟨v,vs,rfl,h.2 0 x v rfl rfl,by have:=h.1;simpa using this,fun i y u hy hu=>h.2 (i+1) y u (by simpa using hy) (by simpa using hu)⟩
theorem mw.cons{x:AC U}{xs:List (AC U)}{v:Value}{vs:List Value}(h:RD E w F kv fp bad x v)(h':mw E w F kv fp bad xs vs):mw E w F kv fp bad (x::xs) (v::vs):=by
 refine⟨by simp[h'.1],fun i y u hy hu=> ?_⟩
 cases i with
 |zero=>simp only[vF,gI] at hy hu;subst hy hu;exact h
 |succ i=>exact h'.2 i y u (by simpa using hy) (by simpa using hu)
theorem fe.rp{y:iE U}{v:Value}{l:List Nat}(h:fe E w F true y v l):Rp E w F true (.sl y.τ y.xs) v l:=by
 obtain⟨τ,xs⟩:=y
 rcases h with⟨h1,⟨ad,rfl⟩,rfl⟩|⟨b,cap,cur,vs,ie,rfl,h2,h3,h4,h5,h6,h7,rfl⟩
 ·simp only at h1
  subst h1
  exact .nil _ _ _ _ (fun _=>rfl)
 ·exact .own τ xs b cap cur vs ie h2 h3 h4 h5 h6 h7
theorem Z_(h:cR E pm F kv fp σ a w){rs:List Key}:∀{xs:List (AC U)}{vs:List Value}{cs:List U.C}{ks:List Key},jJ (restrict σ.bP rs) xs=some (cs,ks)->mw E w F kv fp (bY σ) xs vs->
  cs.length=xs.length/\(∀k∈ks,(σ.bP k).isSome=true)/\∃fl:List (List Nat),fl.length=cs.length/\(∀(i:Nat)(c:U.C),cs[i]? =some c->Rp E w F true c (vs.getD i undef) (fl.getD i []))/\fl.flatten=ks.flatMap fp
 |[],vs,cs,ks,hw,hx=>by
  simp only[jJ,gI,pE] at hw
  obtain⟨rfl,rfl⟩:=hw
  exact⟨rfl,by simp,[],rfl,fun i c hc=>by simp at hc,rfl⟩
 |x::xs,vs,cs,ks,hw,hx=>by
  obtain⟨v,wJ,rfl,h1,h2⟩:=hx.cons_inv
  have put:∀{c:U.C}{wu:List U.C}{ks':List Key}{l:List Nat},Rp E w F true c v l->(wu.length=xs.length/\(∀k∈ks',(σ.bP k).isSome=true)/\∃fl:List (List Nat),fl.length=wu.length/\(∀(i:Nat)(c:U.C),wu[i]? =some c->Rp E w F true c (wJ.getD i undef) (fl.getD i []))/\fl.flatten=ks'.flatMap fp)->
    ∃fl:List (List Nat),fl.length=(c::wu).length/\(∀(i:Nat)(c':U.C),(c::wu)[i]? =some c'->Rp E w F true c' ((v::wJ).getD i undef) (fl.getD i []))/\fl.flatten=l++ks'.flatMap fp:=by
   rintro c wu ks' l hr ⟨_,_,fl,f1,f2,f3⟩
   refine⟨l::fl,by simp[f1],fun i c' hc=> ?_,by simp[f3]⟩
   cases i with
   |zero=>simp only[vF,gI] at hc;subst hc;simpa using hr
   |succ i=>simpa using f2 i c' (by simpa using hc)
  unfold jJ at hw
  split at hw
  ·rename_i qc;cases qc
  ·rename_i u r qc
   cases qc
   split at hw
   ·rename_i wu ks' hr
    cases hw
    have ih:=Z_ h hr h2
    have hl:Rp E w F false _ v []:=cx h1 rfl
    obtain⟨_,hvu,ho⟩:=hl.kt
    subst hvu
    obtain⟨fl,f1,f2,f3⟩:=put (.lit true _ ho) ih
    exact⟨by simp[ih.1],ih.2.1,fl,f1,f2,by simpa using f3⟩
   ·cases hw
  ·rename_i k r qc
   cases qc
   split at hw
   ·rename_i y wu ks' he hr
    cases hw
    have ih:=Z_ h hr h2
    have fi:=kf he
    have hv:v=kv k:=cx h1 rfl
    have ho:fe E w F true y (kv k) (fp k):=h.dD k _ fi
    obtain⟨fl,f1,f2,f3⟩:=put (c:=.sl y.τ y.xs) (by rw[hv];exact ho.rp) ih
    exact⟨by simp[ih.1],fun k' cY=>by
     rcases kc.1 cY with rfl|cY
     ·rw[fi];rfl
     ·exact ih.2.1 k' cY,fl,f1,f2,by simpa using f3⟩
   ·cases hw
  ·cases hw
end AM
