import Derived.Test.YtknfcngfhlpaeaaGreatDoorQAmOps8
namespace AM
set_option linter.unusedVariables false
open Go
variable{U:kz}
def qV(w:World)(v:Value)(n:Nat):List Value:=match v with
 | .pointer (some a)=>match w.heap[a.block]? with
  |some (.cells cur _ _)=>cur.toList.drop n
  |_=>[]
 |_=>[]
section
variable(E:Env U)(w:World)(F:Nat->Prop)
def qx(own:Bool)(cs:List U.C)(rest:List Value)(v:Value)(l:List Nat):Prop:=
 ∃(b:Nat)(cur:Array Value)(e:TypeId)(fl:List (List Nat)),v=.pointer (some ⟨b,0,none⟩)/\w.heap[b]? =some (.cells cur e (0,0))/\cs.length<=cur.size/\cur.toList.drop cs.length=rest/\(∀u∈rest,fI u)/\
  fl.length=cs.length/\(∀(i:Nat)(c:U.C),cs[i]? =some c->Rp E w F own c (cur.toList.getD i undef) (fl.getD i []))/\l=b::fl.flatten
def lr(cs:List U.C)(v:Value)(l:List Nat):Prop:=
 ∃(vs:List Value)(fl:List (List Nat)),v=.agg vs.toArray/\vs.length=cs.length/\fl.length=cs.length/\(∀(i:Nat)(c:U.C),cs[i]? =some c->Rp E w F true c (vs.getD i undef) (fl.getD i []))/\l=fl.flatten
def nC:Mode->DV U->Value->List Nat->Prop
 | .ro,.one c,v,l=>Rp E w F false c v []/\l=[]
 | .ro,.agg cs,v,l=>∃vs:List Value,v=.agg vs.toArray/\vs.length=cs.length/\(∀(i:Nat)(c:U.C),cs[i]? =some c->Rp E w F false c (vs.getD i undef) [])/\l=[]
 | .ro,.ptr cs,v,l=>(∃b o,v=.pointer (some ⟨b,o,none⟩)/\F b/\∀(j:Nat)(c:U.C),cs[j]? =some c->∃u,w.cell? ⟨b,o+j,none⟩=some u/\Rp E w F false c u [])/\l=[]
 | .ro,.fn p,v,l=>mP E w F p v/\l=[]
 | .wr,.one (.sl τ xs),v,l=>eo E w F true ⟨τ,xs⟩ v l
 | .wr,.agg cs,v,l=>lr E w F cs v l
 | .mv,.one c,v,l=>Rp E w F true c v l
 | .mv,.agg cs,v,l=>lr E w F cs v l
 | .box own,.box cs,v,l=>qx E w F own cs (qV w v cs.length) v l
 |_,_,_,_=>False
def iP:List Mode->List (DV U)->List Value->List (List Nat)->Prop
 |[],[],[],[]=>True
 |m::ms,d::ds,v::vs,l::ls=>nC E w F m d v l/\iP ms ds vs ls
 |_,_,_,_=>False
def kf(fresh:Bool):DV U->Value->List Nat->Prop
 | .one c,v,l=>if fresh then Rp E w F true c v l else Rp E w F false c v []/\l=[]
 | .agg cs,v,l=>if fresh then lr E w F cs v l
   else∃vs:List Value,v=.agg vs.toArray/\vs.length=cs.length/\(∀(i:Nat)(c:U.C),cs[i]? =some c->Rp E w F false c (vs.getD i undef) [])/\l=[]
 | .box cs,v,l=>fresh=true/\∃b cur e,v=.pointer (some ⟨b,0,none⟩)/\w.heap[b]? =some (.cells cur e (0,0))/\l=[b]/\cur.size=cs.length/\∀(i:Nat)(c:U.C),cs[i]? =some c->Rp E w F false c (cur.toList.getD i undef) []
 | .ptr _,_,_=>False
 | .fn _,_,_=>False
def mr:List Bool->List (DV U)->List Value->List (List Nat)->Prop
 |_,[],[],[]=>True
 |fs,d::ds,v::vs,l::ls=>kf E w F (fs.headD true) d v l/\mr fs.tail ds vs ls
 |_,_,_,_=>False
def eQ(w0:World):List Mode->List Value->List (DV U)->List (List Nat)->Prop
 |[],[],[],[]=>True
 | .ro::ms,_::vs,ds,ls=>eQ w0 ms vs ds ls
 | .mv::ms,_::vs,ds,ls=>eQ w0 ms vs ds ls
 | .wr::ms,v::vs,.one (.sl τ ys)::ds,l::ls=>eo E w F true ⟨τ,ys⟩ v l/\eQ w0 ms vs ds ls
 | .wr::ms,v::vs,.agg cs::ds,l::ls=>lr E w F cs v l/\eQ w0 ms vs ds ls
 | .box own::ms,v::vs,.box cs::ds,l::ls=>qx E w F own cs (qV w0 v cs.length) v l/\eQ w0 ms vs ds ls
 |_,_,_,_=>False
end
def Ma:List Value->Value
 |[v]=>v
 |vs=> .tuple vs.toArray
def Dc(F:Nat->Prop)(w w':World)(own ab_:List Nat)(b:Nat):Prop:=F b\/((w.heap.size<=b\/b∈ab_)/\b<w'.heap.size/\b∉own)
def sf(w:World)(n:Nat):List Mode->List (DV U)->List Value->Prop
 |m::ms,d::ds,v::vs=>(∀own cs,m=.box own->d=.box cs->(qV w v cs.length).length=n)/\sf w n ms ds vs
 |_,_,_=>True
theorem vt{w:World}{n:Nat}:∀{ms:List Mode}{ds:List (DV U)}{vs:List Value},pF ms=true->sf w n ms ds vs
 |[],_,_,_=>trivial
 |_::_,[],_,_=>trivial
 |_::_,_::_,[],_=>trivial
 |m::ms,d::ds,v::vs,h=>by
  cases m with
  |ro=>exact⟨fun own cs hm=>(by cases hm),vt (by simpa[pF] using h)⟩
  |wr=>simp[pF] at h
  |mv=>simp[pF] at h
  |box _=>simp[pF] at h
def dR(E:Env U)(f:FuncId)(k:jw U):Prop:=
 ∀x:k.α,(∀p∈k.pre x,p)->∀(w:World)(F:Nat->Prop)(vs:List Value)(ls:List (List Nat)),(∀b,F b->b<w.heap.size)->Ns E w F->iP E w F k.md (k.ds x) vs ls->sf w k.HX k.md (k.ds x) vs->ls.flatten.Nodup->
  (∀b∈ls.flatten,b<w.heap.size/\¬F b)->
  Calls E.P f vs.toArray w fun e w'=>∃(us:List Value)(qz iw:List (List Nat)),e=.returned (Ma us)/\gq (·∈ls.flatten) w w'/\
   mr E w' (Dc F w w' (qz.flatten++iw.flatten) ls.flatten) (k.mS x).fresh (k.mS x).val us qz/\
   eQ E w' (Dc F w w' (qz.flatten++iw.flatten) ls.flatten) w k.md vs (k.mS x).Ip iw/\
   (qz.flatten++iw.flatten).Nodup/\(∀b∈qz.flatten,(b∈ls.flatten\/w.heap.size<=b)/\b<w'.heap.size)/\(∀b∈iw.flatten,b∈ls.flatten\/(w.heap.size<=b/\b<w'.heap.size))
variable{E:Env U}{pm:Pm}
variable{F F':Nat->Prop}{kv:Key->Value}{fp:Key->List Nat}{σ:ak U}{a:Act}{w w':World}{bad:Key->Bool}
theorem xr(h:cG E pm F kv fp σ a w){rs:List Key}{x:AC U}{v:Value}{ps:List Prop}{b:cC U}
  (ha:pE (restrict σ.bH rs) σ.aR x=some (ps,b)) (hp:∀p∈ps,p) (hx:RD E w F kv fp (bR σ) x v):
  Rp E w (FK F fp (x.keys.filter fun k=>(σ.bH k).isSome)) false (.sl b.τ b.xs) v []:=by
 have key:∀(k:Key)(y:cC U)(d:Bool),restrict σ.bH rs k=some (.arr y d)->k∈x.keys->∀b,(F b\/b∈fp k)->FK F fp (x.keys.filter fun k=>(σ.bH k).isSome) b:=by
  intro k y d he hk b hb
  rcases hb with hb|hb
  ·exact .inl hb
  ·exact .inr ⟨k,wc.2 ⟨hk,by simp[jx he]⟩,hb⟩
 unfold pE at ha
 split at ha
 ·cases ha
  exact(ca hx rfl:Rp E w F false _ _ _).fq (fun b hb=> .inl hb)
 ·cases ha
  exact(ca hx rfl).1.fq (fun b hb=> .inl hb)
 ·rename_i k p
  split at ha
  ·rename_i y d he
   cases gB:fm (restrict σ.bH rs) σ.aR k p<;>simp only[gB,cond_false,cond_true] at ha
   ·cases ha
   ·have hn:=ca hx (FM gB he)
    obtain⟨v',h1,h2⟩:=(Me h (jx he)).Zd ha hp
    have:v=v':=hn.unique h1
    subst this
    exact h2.fq (key k y d he (by simp[AC.keys]))
  ·cases ha
 ·rename_i k wd lo hi
  split at ha
  ·rename_i y d he
   cases hw:Nat.beq wd (U.wd y.τ)<;>simp only[hw,cond_false,cond_true] at ha
   ·cases ha
   ·cases ha
    have tT:=mc hw
    subst tT
    obtain⟨h1,h2⟩:=ca hx rfl
    subst h1
    exact((Me h (jx he)).sub h2 (hp _ (by simp))).fq (key k y d he (by simp[AC.keys]))
  ·cases ha
 ·cases ha
theorem ajG(h:cG E pm F kv fp σ a w){rs:List Key}{x:AC U}{v:Value}{ps:List Prop}{b:cC U}
  (ha:y3 (restrict σ.bH rs) σ.aR x=some (ps,b)) (hp:∀p∈ps,p) (hx:RD E w F kv fp (bR σ) x v):
  Rp E w (FK F fp (x.keys.filter fun k=>(σ.bH k).isSome)) false (.sl b.τ b.xs) v []:=by
 unfold y3 at ha
 split at ha
 rotate_left
 ·cases ha
 rename_i k i wd j p
 split at ha
 rotate_left
 ·cases ha
 rename_i y dead he
 cases gB:fm (restrict σ.bH rs) σ.aR k ((i,wd,j)::p)<;>simp only[gB,cond_false,cond_true] at ha
 ·cases ha
 split at ha
 rotate_left
 ·cases ha
 rename_i H_ b' hw
 cases ha
 have ew:=jx he
 have hn:=ca hx (FM gB he)
 obtain⟨v',h1,h2⟩:=dK.Zd (h.cW k _ ew) hw (fun q hq=>hp q (by simp[hq])) (hp _ (by simp))
 have:v=v':=hn.unique h1
 subst this
 refine h2.fq fun b hb=> ?_
 rcases hb with hb|hb
 ·exact .inl hb
 ·exact .inr ⟨k,wc.2 ⟨by simp[AC.keys],by simp[ew]⟩,hb⟩
theorem abe(h:cG E pm F kv fp σ a w){rs:List Key}{want:Option U.Ty}{x:AC U}{v:Value}{ps:List Prop}{c:U.C}
  (hc:cellOf (restrict σ.bH rs) σ.aR want x=some (ps,c)) (hp:∀p∈ps,p) (hx:RD E w F kv fp (bR σ) x v):Rp E w (FK F fp (x.keys.filter fun k=>(σ.bH k).isSome)) false c v []:=by
 unfold cellOf at hc
 split at hc
 ·cases hc
  exact(ca hx rfl:Rp E w F false _ _ _).fq (fun b hb=> .inl hb)
 ·split at hc
  ·cases hc
   obtain⟨ad,h1⟩:=ca hx rfl
   subst h1
   exact .nil _ _ _ _ (by simp)
  ·cases hc
 ·split at hc
  ·rename_i H_ b ha
   cases hc
   exact xr h ha hp hx
  ·split at hc
   ·rename_i H_ b ha
    cases hc
    exact ajG h ha hp hx
   ·cases hc
theorem abd(h:cG E pm F kv fp σ a w){rs:List Key}:∀{xs:List (AC U)}{want:List (Option U.Ty)}{vs:List Value}{ps:List Prop}{cs:List U.C},
  cellsOf (restrict σ.bH rs) σ.aR want xs=some (ps,cs)->(∀p∈ps,p)->kU E w F kv fp (bR σ) xs vs->
  cs.length=xs.length/\∀(i:Nat)(c:U.C),cs[i]? =some c->Rp E w (FK F fp ((xs.flatMap AC.keys).filter fun k=>(σ.bH k).isSome)) false c (vs.getD i undef) []:=by
 intro xs
 induction xs with
 |nil=>
  intro want vs ps cs hc hp hx
  simp only[cellsOf,fM,nT] at hc
  obtain⟨rfl,rfl⟩:=hc
  exact⟨rfl,fun i c hc=>by simp at hc⟩
 |cons x xs ih=>
  intro want vs ps cs hc hp hx
  simp only[cellsOf] at hc
  split at hc
  ·rename_i QR c1 W9 cs2 h1 h2
   cases hc
   cases vs with
   |nil=>have:=hx.1;simp at this
   |cons v vs=>
    have Zf:RD E w F kv fp (bR σ) x v:=hx.2 0 x v rfl rfl
    have hx2:kU E w F kv fp (bR σ) xs vs:=⟨by have:=hx.1;simpa using this,fun i y u hy hu=>hx.2 (i+1) y u (by simpa using hy) (by simpa using hu)⟩
    have g1:=abe h h1 (fun p j6=>hp p (by simp[j6])) Zf
    obtain⟨i1,i2⟩:=ih h2 (fun p j6=>hp p (by simp[j6])) hx2
    refine⟨by simp[i1],fun i c hc=> ?_⟩
    cases i with
    |zero=>
     simp only[tJ,fM] at hc;subst hc
     exact g1.fq (fun b hb=>FP (fun k hk=>by
      rw[wc] at hk⊢
      exact⟨by rw[yb];exact pP _ hk.1,hk.2⟩) hb)
    |succ i=>exact(i2 i c (by simpa using hc)).fq (fun b hb=>FP (fun k hk=>by
      rw[wc] at hk⊢
      exact⟨by rw[yb];exact pd _ hk.1,hk.2⟩) hb)
  ·cases hc
theorem abq{ks K:List Key}(hK:∀k∈ks,(σ.bH k).isSome=true->k∈K){b:Nat}:FK F fp (ks.filter fun k=>(σ.bH k).isSome) b->FK F fp K b:=
 FP (fun k hk=>by rw[wc] at hk;exact hK k hk.1 hk.2)
theorem Rp.jI{m:Bool}{u v:Value}{l:List Nat}(h:Rp E w F m (.lit u) v l):l=[]/\v=u/\fI u:=by
 generalize hc:(Cell.lit u:U.C)=c at h
 cases h with
 |lit _ _ ho=>cases hc;exact⟨rfl,rfl,ho⟩
 |nil=>cases hc
 |shr=>cases hc
 |own=>cases hc
theorem Mc:∀{cs:List (AC U)}{l:List U.C},plain cs=some l->cs=l.map .c
 |[],l,h=>by cases h;rfl
 | .c x::r,l,h=>by
  simp only[plain] at h
  split at h
  ·rename_i l' hl;cases h;rw[Mc hl];rfl
  ·cases h
 | .e0::r,l,h=>by simp[plain] at h
 | .ref _ _::r,l,h=>by simp[plain] at h
 | .sub _ _ _ _::r,l,h=>by simp[plain] at h
 | .kI _ _ _ _ _::r,l,h=>by simp[plain] at h
 | .jU _ _::r,l,h=>by simp[plain] at h
 | .ia _::r,l,h=>by simp[plain] at h
 | .kn _ _ _::r,l,h=>by simp[plain] at h
theorem RP(h:cG E pm F kv fp σ a w){rs:List Key}{want:List (Option U.Ty)}{x:SV U}{v:Value}{ps:List Prop}{d:DV U}{K:List Key}
  (ha:tC (restrict σ.bH rs) σ.aR want x=some (ps,d)) (hp:∀p∈ps,p) (hx:RS E w F kv fp (bR σ) x v) (hK:∀k∈x.keys,(σ.bH k).isSome=true->k∈K):nC E w (FK F fp K) .ro d v []:=by
 unfold tC at ha
 split at ha
 ·rename_i cs
  cases ha
  obtain⟨b,o,h1,h2,h3⟩:=ca (FO hx) rfl
  exact⟨⟨b,o,h1,.inl h2,fun j c hj=>by obtain⟨u,h4,h5⟩:=h3 j c hj;exact⟨u,h4,h5.fq (fun b hb=> .inl hb)⟩⟩,rfl⟩
 ·rename_i k off
  split at ha
  ·rename_i cs he
   split at ha
   ·rename_i l hl
    cases ha
    have tY:=Mc hl
    obtain⟨b,h1,h2⟩:=ca (FO hx) rfl
    have ew:=jx he
    obtain⟨b',cur,e',g1,g2,g3,g4⟩:=h.cW k _ ew
    rw[h1] at g1
    simp only[Value.pointer.injEq,fM,Addr.mk.injEq] at g1
    obtain⟨rfl,_,_⟩:=g1
    have hk:k∈K:=hK k (by simp[SV.keys,SV.Ax,AC.keys]) (by rw[ew];rfl)
    refine⟨⟨b,off,h2,.inr ⟨k,hk,by rw[g3];exact mb.2 rfl⟩,fun j c hj=> ?_⟩,rfl⟩
    rw[Fx] at hj
    have sI:cs[off+j]? =some (.c c):=by rw[tY,mw,hj];rfl
    obtain⟨u,hu⟩:∃u,cur.toList[off+j]? =some u:=by
     have fU:off+j<cs.length:=by
      rcases nL (off+j) cs.length with h|h
      ·exact h
      ·rw[nb h] at sI;cases sI
     exact⟨_,eW (by rw[<-g4.1];exact fU)⟩
    have hd:=g4.2 _ _ u sI hu
    refine⟨u,?_,(ca hd rfl:Rp E w F false _ _ _).fq (fun b hb=> .inl hb)⟩
    simp only[World.cell?,g2]
    simpa using hu
   ·cases ha
  ·cases ha
 ·rename_i y _
  split at ha
  ·rename_i H_ c hc
   cases ha
   exact⟨(abe h hc hp (FO hx)).fq (fun b hb=>abq (fun k hk=>hK k (by simpa[SV.keys,SV.Ax] using hk)) hb),rfl⟩
  ·cases ha
 ·rename_i cs
  split at ha
  ·rename_i H_ l hl
   cases ha
   obtain⟨vs,h1,h2⟩:=hx
   simp only[if_true] at h2
   obtain⟨g1,g2⟩:=abd h hl hp h1
   exact⟨vs,h2,by rw[g1];exact h1.1.symm,fun i c hc=>(g2 i c hc).fq (fun b hb=>abq (fun k hk=>hK k (by simpa[SV.keys,SV.Ax] using hk)) hb),rfl⟩
  ·cases ha
 ·cases ha
theorem nC.Xe{w w':World}{F F':Nat->Prop}{d:DV U}{v:Value}{l:List Nat}(h:nC E w F .ro d v l)(hF:∀b,F b->F' b/\w'.heap[b]? =w.heap[b]?):nC E w' F' .ro d v l:=by
 cases d with
 |one c=>exact⟨h.1.fC hF (by simp),h.2⟩
 |agg cs=>
  obtain⟨vs,h1,h2,h3,h4⟩:=h
  exact⟨vs,h1,h2,fun i c hc=>(h3 i c hc).fC hF (by simp),h4⟩
 |ptr cs=>
  obtain⟨⟨b,o,h1,h2,h3⟩,h4⟩:=h
  refine⟨⟨b,o,h1,(hF b h2).1,fun j c hj=> ?_⟩,h4⟩
  obtain⟨u,g1,g2⟩:=h3 j c hj
  refine⟨u,?_,g2.fC hF (by simp)⟩
  rw[World.cell?_of_block (w:=w) (a:=⟨b,o+j,none⟩) (hF b h2).2];exact g1
 |box _=>exact h.elim
 |fn p=>exact⟨mP.fC h.1 hF,h.2⟩
theorem ZC.arg{w:World}{F:Nat->Prop}{d:DA U}{v:Value}(h:ZC E w F d v):nC E w F .ro d.dv v []:=by
 obtain⟨g,cs⟩:=d
 obtain⟨vs,h1,h2,h3⟩:=h
 cases g with
 |true=>
  simp only[if_true] at h3
  have e:(DA.mk true cs:DA U).dv=.agg cs:=rfl
  rw[e]
  exact⟨vs,h3,h1,h2,rfl⟩
 |false=>
  simp only[wb,if_false] at h3
  subst h3
  match cs,h1,h2 with
  |[c],h1,h2=>exact⟨h2 0 c rfl,rfl⟩
theorem iP.Ox{w:World}{F:Nat->Prop}:∀{ms:List Mode}{ds:List (DV U)}{vs:List Value},pF ms=true->ms.length=ds.length->ds.length=vs.length->(∀(i:Nat)(d:DV U)(v:Value),ds[i]? =some d->vs[i]? =some v->nC E w F .ro d v [])->
  iP E w F ms ds vs (List.replicate ms.length [])
 |[],[],[],_,_,_,_=>trivial
 |m::ms,d::ds,v::vs,hr,h1,h2,h=>by
  cases m with
  |ro=>exact⟨h 0 d v rfl rfl,iP.Ox (by simpa[pF] using hr) (by simpa using h1) (by simpa using h2) (fun i d v hd hv=>h (i+1) d v (by simpa using hd) (by simpa using hv))⟩
  |wr=>simp[pF] at hr
  |mv=>simp[pF] at hr
  |box _=>simp[pF] at hr
 |[],_::_,_,_,h1,_,_=>by simp at h1
 |_::_,[],_,_,h1,_,_=>by simp at h1
 |[],[],_::_,_,_,h2,_=>by simp at h2
 |_::_,_::_,[],_,_,h2,_=>by simp at h2
theorem ajv(h:cG E pm F kv fp σ a w){rs:List Key}{K:List Key}:∀{xs:List (AV U)}{vs:List Value}{ps:List Prop}{ds:List (DV U)},tz (restrict σ.bH rs) σ.aR xs=some (ps,ds)->(∀p∈ps,p)->xs.length=vs.length->
  (∀(i:Nat)(x:AV U)(u:Value),xs[i]? =some x->vs[i]? =some u->RV E w F kv fp (bR σ) x u)->(∀x∈xs,∀y∈x.cs,∀k∈y.keys,(σ.bH k).isSome=true->k∈K)->
  ds.length=vs.length/\∀(i:Nat)(d:DV U)(v:Value),ds[i]? =some d->vs[i]? =some v->nC E w (FK F fp K) .ro d v []:=by
 intro xs
 induction xs with
 |nil=>
  intro vs ps ds hc hp hl hx hK
  simp only[tz,fM,nT] at hc
  obtain⟨rfl,rfl⟩:=hc
  exact⟨hl,fun i d v hd=>by simp at hd⟩
 |cons x xs ih=>
  intro vs ps ds hc hp hl hx hK
  cases vs with
  |nil=>simp at hl
  |cons v vs=>
   simp only[tz] at hc
   split at hc
   ·rename_i QR d1 W9 ZA h1 h2
    cases hc
    obtain⟨i1,i2⟩:=ih h2 (fun p j6=>hp p (by simp[j6])) (by simpa using hl) (fun i y u hy hu=>hx (i+1) y u (by simpa using hy) (by simpa using hu)) (fun y hy=>hK y (e8 _ hy))
    refine⟨by simp[i1],fun i d u hd hu=> ?_⟩
    cases i with
    |zero=>
     simp only[tJ,fM] at hd hu
     subst hd;subst hu
     exact RP h h1 (fun p j6=>hp p (by simp[j6])) (show RS E w F kv fp (bR σ) (.v x) v from hx 0 x v rfl rfl) (fun k hk=>by
      obtain⟨y,hy,hk⟩:=SV.mem_keys.1 hk
      exact hK x gS y hy k hk)
    |succ i=>exact i2 i d u (by simpa using hd) (by simpa using hu)
   ·cases hc
theorem ajr{w:World}{F:Nat->Prop}(zV:Ns E w F){g:FuncId}{k:jw U}{vs:List Value}{ds:List (DV U)}(hf:xY E.P g)(hk:dR E g k)(hr:pF k.md=true)(hl:ds.length=vs.length)
  (hd:∀(i:Nat)(d:DV U)(v:Value),ds[i]? =some d->vs[i]? =some v->nC E w F .ro d v []):mP E w F (eN k ds) (.func (.func g) #[] vs.toArray):=by
 refine⟨g,_,rfl,hf,fun das r hp w' F' hF fU us ve=> ?_⟩
 unfold eN at hp
 split at hp
 ·rename_i x hof
  split at hp
  ·rename_i v MG XF
   split at hp
   ·rename_i hc
    cases hp
    obtain⟨Eg,MY⟩:=hc
    have XL:=k.law _ x hof
    have hlen:(das.map DA.dv++ds).length=(us++vs).length:=by simp[ve.1,hl]
    have mV:=iP.Ox (E:=E) (w:=w') (F:=F') (ms:=k.md) (ds:=das.map DA.dv++ds) (vs:=us++vs) hr (by simp[Eg]) hlen (fun i d u Ao hu=>by
     rcases nL i us.length with hi|hi
     ·rw[wg (by simpa[ve.1] using hi)] at Ao
      rw[wg hi] at hu
      rw[mw] at Ao
      cases hda:das[i]? with
      |none=>rw[hda] at Ao;cases Ao
      |some da=>rw[hda] at Ao;cases Ao;exact(ve.2 i da u hda hu).arg
     ·rw[ya (by simpa[ve.1] using hi)] at Ao
      rw[ya hi] at hu
      have e:(das.map DA.dv).length=us.length:=by simp[ve.1]
      rw[e] at Ao
      exact(hd _ d u Ao hu).Xe hF)
    have An:(List.replicate k.md.length ([]:List Nat)).flatten=[]:=by simp
    have:=hk x MY w' F' (us++vs) (List.replicate k.md.length []) fU (zV.fC hF) (by rw[XL];exact mV) (vt hr) (by rw[An];exact VV) (by rw[An];simp)
    have e:us.toArray++vs.toArray=(us++vs).toArray:=by simp
    rw[e]
    refine this.mono ?_
    rintro e ZV ⟨Wq,qz,iw,rfl,h1,h2,_⟩
    rw[An] at h1
    rw[MG] at h2
    cases Wq with
    |nil=>exact h2.elim
    |cons u Wq=>cases qz with
     |nil=>exact h2.elim
     |cons l qz=>cases Wq with
      |cons _ _=>exact h2.2.elim
      |nil=>
       have h3:=h2.1
       have key:∀(G:Nat->Prop) fresh,kf E ZV G fresh (.one (.lit r)) u l->u=r/\fI r:=by
        intro G fresh h
        cases fresh with
        |true=>exact⟨(Rp.jI h).2.1,(Rp.jI h).2.2⟩
        |false=>exact⟨(Rp.jI h.1).2.1,(Rp.jI h.1).2.2⟩
       obtain⟨e1,e2⟩:=key _ _ h3
       exact⟨by rw[e1];rfl,e2,h1.mono (by simp)⟩
   ·cases hp
  ·cases hp
 ·cases hp
theorem ajK(hC:∀g k,E.Na g=some k->xY E.P g/\dR E g k)(h:cG E pm F kv fp σ a w){rs:List Key}{want:List (Option U.Ty)}{x:SV U}{v:Value}{ps:List Prop}{d:DV U}{K:List Key}
  (ha:tD E (restrict σ.bH rs) σ.aR want .ro x=some (ps,d)) (hp:∀p∈ps,p) (hx:RS E w F kv fp (bR σ) x v) (hK:∀k∈x.keys,(σ.bH k).isSome=true->k∈K):nC E w (FK F fp K) .ro d v []:=by
 simp only[tD] at ha
 unfold Jd at ha
 split at ha
 ·cases ha
  exact⟨mP.fC hx (fun b hb=>⟨.inl hb,rfl⟩),rfl⟩
 ·rename_i g xs
  split at ha
  ·rename_i k H_ ds hk tY
   rw[gI] at ha
   split at ha
   ·rename_i hc
    simp only[cH] at hc
    cases ha
    obtain⟨vs,rfl,hl,DZ⟩:=hx
    obtain⟨h1,h2⟩:=ajv (K:=K) h tY hp hl DZ (fun y hy z hz k' cK=>hK k' (SV.mem_keys.2 ⟨z,nF.2 ⟨y,hy,hz⟩,cK⟩))
    exact⟨ajr (h.lay.fC fun b hb=>⟨.inl hb,rfl⟩) (hC g k hk).1 (hC g k hk).2 hc.1 h1 h2,rfl⟩
   ·cases ha
  ·cases ha
 ·exact RP h ha hp hx hK
theorem J0{w:World}{b:Nat}{cur:Array Value}{e:TypeId}(h:w.heap[b]? =some (.cells cur e (0,0)))(n:Nat):qV w (.pointer (some ⟨b,0,none⟩)) n=cur.toList.drop n:=by
 simp only[qV,h]
theorem kU.cons_inv{x:AC U}{xs:List (AC U)}{vs:List Value}(h:kU E w F kv fp bad (x::xs) vs):∃v uP,vs=v::uP/\RD E w F kv fp bad x v/\kU E w F kv fp bad xs uP:=by
 cases vs with
 |nil=>have:=h.1;simp at this
 |cons v vs=>exact⟨v,vs,rfl,h.2 0 x v rfl rfl,by have:=h.1;simpa using this,fun i y u hy hu=>h.2 (i+1) y u (by simpa using hy) (by simpa using hu)⟩
theorem kU.cons{x:AC U}{xs:List (AC U)}{v:Value}{vs:List Value}(h:RD E w F kv fp bad x v)(h':kU E w F kv fp bad xs vs):kU E w F kv fp bad (x::xs) (v::vs):=by
 refine⟨by simp[h'.1],fun i y u hy hu=> ?_⟩
 cases i with
 |zero=>simp only[tJ,fM] at hy hu;subst hy hu;exact h
 |succ i=>exact h'.2 i y u (by simpa using hy) (by simpa using hu)
theorem eo.rp{y:cC U}{v:Value}{l:List Nat}(h:eo E w F true y v l):Rp E w F true (.sl y.τ y.xs) v l:=by
 obtain⟨τ,xs⟩:=y
 rcases h with⟨h1,⟨ad,rfl⟩,rfl⟩|⟨b,cap,cur,vs,gr,rfl,h2,h3,h4,h5,h6,h7,rfl⟩
 ·simp only at h1
  subst h1
  exact .nil _ _ _ _ (fun _=>rfl)
 ·exact .own τ xs b cap cur vs gr h2 h3 h4 h5 h6 h7
theorem Wv(h:cG E pm F kv fp σ a w){rs:List Key}:∀{xs:List (AC U)}{vs:List Value}{cs:List U.C}{ks:List Key},iT (restrict σ.bH rs) xs=some (cs,ks)->kU E w F kv fp (bR σ) xs vs->
  cs.length=xs.length/\(∀k∈ks,(σ.bH k).isSome=true)/\∃fl:List (List Nat),fl.length=cs.length/\(∀(i:Nat)(c:U.C),cs[i]? =some c->Rp E w F true c (vs.getD i undef) (fl.getD i []))/\fl.flatten=ks.flatMap fp
 |[],vs,cs,ks,hw,hx=>by
  simp only[iT,fM,nT] at hw
  obtain⟨rfl,rfl⟩:=hw
  exact⟨rfl,by simp,[],rfl,fun i c hc=>by simp at hc,rfl⟩
 |x::xs,vs,cs,ks,hw,hx=>by
  obtain⟨v,uP,rfl,h1,h2⟩:=hx.cons_inv
  have put:∀{c:U.C}{uy:List U.C}{ks':List Key}{l:List Nat},Rp E w F true c v l->(uy.length=xs.length/\(∀k∈ks',(σ.bH k).isSome=true)/\∃fl:List (List Nat),fl.length=uy.length/\(∀(i:Nat)(c:U.C),uy[i]? =some c->Rp E w F true c (uP.getD i undef) (fl.getD i []))/\fl.flatten=ks'.flatMap fp)->
    ∃fl:List (List Nat),fl.length=(c::uy).length/\(∀(i:Nat)(c':U.C),(c::uy)[i]? =some c'->Rp E w F true c' ((v::uP).getD i undef) (fl.getD i []))/\fl.flatten=l++ks'.flatMap fp:=by
   rintro c uy ks' l hr ⟨_,_,fl,f1,f2,f3⟩
   refine⟨l::fl,by simp[f1],fun i c' hc=> ?_,by simp[f3]⟩
   cases i with
   |zero=>simp only[tJ,fM] at hc;subst hc;simpa using hr
   |succ i=>simpa using f2 i c' (by simpa using hc)
  unfold iT at hw
  split at hw
  ·rename_i oq;cases oq
  ·rename_i u r oq
   cases oq
   split at hw
   ·rename_i uy ks' hr
    cases hw
    have ih:=Wv h hr h2
    have hl:Rp E w F false _ v []:=ca h1 rfl
    obtain⟨_,hvu,ho⟩:=hl.jI
    subst hvu
    obtain⟨fl,f1,f2,f3⟩:=put (.lit true _ ho) ih
    exact⟨by simp[ih.1],ih.2.1,fl,f1,f2,by simpa using f3⟩
   ·cases hw
  ·rename_i k r oq
   cases oq
   split at hw
   ·rename_i y uy ks' he hr
    cases hw
    have ih:=Wv h hr h2
    have ew:=jx he
    have hv:v=kv k:=ca h1 rfl
    have ho:eo E w F true y (kv k) (fp k):=h.cW k _ ew
    obtain⟨fl,f1,f2,f3⟩:=put (c:=.sl y.τ y.xs) (by rw[hv];exact ho.rp) ih
    exact⟨by simp[ih.1],fun k' cK=>by
     rcases jF.1 cK with rfl|cK
     ·rw[ew];rfl
     ·exact ih.2.1 k' cK,fl,f1,f2,by simpa using f3⟩
   ·cases hw
  ·cases hw
end AM
