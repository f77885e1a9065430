/- THE ABSTRACT MACHINE: what a contract says; a call by a contract. -/
import Derived.Test.YtpkdgcookaobfaaGreatDoorQAmOps8
namespace AM
set_option linter.unusedVariables false
open Go
variable{U:lz}
def sP(w:World)(v:Value)(n:Nat):List Value:=match v with
 | .pointer (some a)=>match w.heap[a.block]? with
  |some (.cells cur _ _)=>cur.toList.drop n
  |_=>[]
 |_=>[]
section
variable(E:Env U)(w:World)(F:Nat->Prop)
def sz(own:Bool)(cs:List U.C)(rest:List Value)(v:Value)(l:List Nat):Prop:=
 ∃(b:Nat)(cur:Array Value)(e:TypeId)(fl:List (List Nat)),v=.pointer (some ⟨b,0,none⟩)/\w.heap[b]? =some (.cells cur e (0,0))/\cs.length<=cur.size/\cur.toList.drop cs.length=rest/\(∀u∈rest,gr u)/\
  fl.length=cs.length/\(∀(i:Nat)(c:U.C),cs[i]? =some c->Rp E w F own c (cur.toList.getD i undef) (fl.getD i []))/\l=b::fl.flatten
def mF(cs:List U.C)(v:Value)(l:List Nat):Prop:=
 ∃(vs:List Value)(fl:List (List Nat)),v=.agg vs.toArray/\vs.length=cs.length/\fl.length=cs.length/\(∀(i:Nat)(c:U.C),cs[i]? =some c->Rp E w F true c (vs.getD i undef) (fl.getD i []))/\l=fl.flatten
def oK:Mode->DV U->Value->List Nat->Prop
 | .ro,.one c,v,l=>Rp E w F false c v []/\l=[]
 | .ro,.agg cs,v,l=>∃vs:List Value,v=.agg vs.toArray/\vs.length=cs.length/\(∀(i:Nat)(c:U.C),cs[i]? =some c->Rp E w F false c (vs.getD i undef) [])/\l=[]
 | .ro,.ptr cs,v,l=>(∃b o,v=.pointer (some ⟨b,o,none⟩)/\F b/\∀(j:Nat)(c:U.C),cs[j]? =some c->∃u,w.cell? ⟨b,o+j,none⟩=some u/\Rp E w F false c u [])/\l=[]
 | .ro,.fn p,v,l=>nS E w F p v/\l=[]
 | .wr,.one (.sl τ xs),v,l=>e7 E w F true ⟨τ,xs⟩ v l
 | .wr,.agg cs,v,l=>mF E w F cs v l
 | .mv,.one c,v,l=>Rp E w F true c v l
 | .mv,.agg cs,v,l=>mF E w F cs v l
 | .box own,.box cs,v,l=>sz E w F own cs (sP w v cs.length) v l
 |_,_,_,_=>False
def js:List Mode->List (DV U)->List Value->List (List Nat)->Prop
 |[],[],[],[]=>True
 |m::ms,d::ds,v::vs,l::ls=>oK E w F m d v l/\js ms ds vs ls
 |_,_,_,_=>False
def kT(fresh:Bool):DV U->Value->List Nat->Prop
 | .one c,v,l=>if fresh then Rp E w F true c v l else Rp E w F false c v []/\l=[]
 | .agg cs,v,l=>if fresh then mF E w F cs v l
   else∃vs:List Value,v=.agg vs.toArray/\vs.length=cs.length/\(∀(i:Nat)(c:U.C),cs[i]? =some c->Rp E w F false c (vs.getD i undef) [])/\l=[]
 | .box cs,v,l=>fresh=true/\∃b cur e,v=.pointer (some ⟨b,0,none⟩)/\w.heap[b]? =some (.cells cur e (0,0))/\l=[b]/\cur.size=cs.length/\∀(i:Nat)(c:U.C),cs[i]? =some c->Rp E w F false c (cur.toList.getD i undef) []
 | .ptr _,_,_=>False
 | .fn _,_,_=>False
def nD:List Bool->List (DV U)->List Value->List (List Nat)->Prop
 |_,[],[],[]=>True
 |fs,d::ds,v::vs,l::ls=>kT E w F (fs.headD true) d v l/\nD fs.tail ds vs ls
 |_,_,_,_=>False
def fg(w0:World):List Mode->List Value->List (DV U)->List (List Nat)->Prop
 |[],[],[],[]=>True
 | .ro::ms,_::vs,ds,ls=>fg w0 ms vs ds ls
 | .mv::ms,_::vs,ds,ls=>fg w0 ms vs ds ls
 | .wr::ms,v::vs,.one (.sl τ ys)::ds,l::ls=>e7 E w F true ⟨τ,ys⟩ v l/\fg w0 ms vs ds ls
 | .wr::ms,v::vs,.agg cs::ds,l::ls=>mF E w F cs v l/\fg w0 ms vs ds ls
 | .box own::ms,v::vs,.box cs::ds,l::ls=>sz E w F own cs (sP w0 v cs.length) v l/\fg w0 ms vs ds ls
 |_,_,_,_=>False
end
def Pd:List Value->Value
 |[v]=>v
 |vs=> .tuple vs.toArray
def ET(F:Nat->Prop)(w w':World)(own aeB:List Nat)(b:Nat):Prop:=F b\/((w.heap.size<=b\/b∈aeB)/\b<w'.heap.size/\b∉own)
def tO(w:World)(n:Nat):List Mode->List (DV U)->List Value->Prop
 |m::ms,d::ds,v::vs=>(∀own cs,m=.box own->d=.box cs->(sP w v cs.length).length=n)/\tO w n ms ds vs
 |_,_,_=>True
theorem wT{w:World}{n:Nat}:∀{ms:List Mode}{ds:List (DV U)}{vs:List Value},rc ms=true->tO w n ms ds vs
 |[],_,_,_=>trivial
 |_::_,[],_,_=>trivial
 |_::_,_::_,[],_=>trivial
 |m::ms,d::ds,v::vs,h=>by
  cases m with
  |ro=>exact⟨fun own cs hm=>(by cases hm),wT (by simpa[rc] using h)⟩
  |wr=>simp[rc] at h
  |mv=>simp[rc] at h
  |box _=>simp[rc] at h
def eG(E:Env U)(f:FuncId)(k:jY U):Prop:=
 ∀x:k.α,(∀p∈k.pre x,p)->∀(w:World)(F:Nat->Prop)(vs:List Value)(ls:List (List Nat)),(∀b,F b->b<w.heap.size)->QH E w F->js E w F k.md (k.ds x) vs ls->tO w k.Ku k.md (k.ds x) vs->ls.flatten.Nodup->
  (∀b∈ls.flatten,b<w.heap.size/\¬F b)->
  Calls E.P f vs.toArray w fun e w'=>∃(us:List Value)(sE iY:List (List Nat)),e=.returned (Pd us)/\hU (·∈ls.flatten) w w'/\
   nD E w' (ET F w w' (sE.flatten++iY.flatten) ls.flatten) (k.nY x).fresh (k.nY x).val us sE/\
   fg E w' (ET F w w' (sE.flatten++iY.flatten) ls.flatten) w k.md vs (k.nY x).KW iY/\
   (sE.flatten++iY.flatten).Nodup/\(∀b∈sE.flatten,(b∈ls.flatten\/w.heap.size<=b)/\b<w'.heap.size)/\(∀b∈iY.flatten,b∈ls.flatten\/(w.heap.size<=b/\b<w'.heap.size))
variable{E:Env U}{pm:Pm}
variable{F F':Nat->Prop}{kv:Key->Value}{fp:Key->List Nat}{σ:ak U}{a:Act}{w w':World}{bad:Key->Bool}
theorem yS(h:cM E pm F kv fp σ a w){rs:List Key}{x:AC U}{v:Value}{ps:List Prop}{b:fu U}
  (ha:rb (restrict σ.bO rs) σ.aT x=some (ps,b)) (hp:∀p∈ps,p) (hx:RD E w F kv fp (bW σ) x v):
  Rp E w (FK F fp (x.keys.filter fun k=>(σ.bO k).isSome)) false (.sl b.τ b.xs) v []:=by
 have key:∀(k:Key)(y:fu U)(d:Bool),restrict σ.bO rs k=some (.arr y d)->k∈x.keys->∀b,(F b\/b∈fp k)->FK F fp (x.keys.filter fun k=>(σ.bO k).isSome) b:=by
  intro k y d he hk b hb
  rcases hb with hb|hb
  ·exact .inl hb
  ·exact .inr ⟨k,zA.2 ⟨hk,by simp[j0 he]⟩,hb⟩
 unfold rb at ha
 split at ha
 ·cases ha
  exact(cw hx rfl:Rp E w F false _ _ _).fT (fun b hb=> .inl hb)
 ·cases ha
  exact(cw hx rfl).1.fT (fun b hb=> .inl hb)
 ·rename_i k p
  split at ha
  ·rename_i y d he
   cases iv:fR (restrict σ.bO rs) σ.aT k p<;>simp only[iv,cond_false,cond_true] at ha
   ·cases ha
   ·have hn:=cw hx (HR iv he)
    obtain⟨v',h1,h2⟩:=(Pk h (j0 he)).nav ha hp
    have:v=v':=hn.unique h1
    subst this
    exact h2.fT (key k y d he (by simp[AC.keys]))
  ·cases ha
 ·rename_i k wd lo hi
  split at ha
  ·rename_i y d he
   cases hw:Nat.beq wd (U.wd y.τ)<;>simp only[hw,cond_false,cond_true] at ha
   ·cases ha
   ·cases ha
    have vw:=nk hw
    subst vw
    obtain⟨h1,h2⟩:=cw hx rfl
    subst h1
    exact((Pk h (j0 he)).sub h2 (hp _ (by simp))).fT (key k y d he (by simp[AC.keys]))
  ·cases ha
 ·cases ha
theorem amK(h:cM E pm F kv fp σ a w){rs:List Key}{x:AC U}{v:Value}{ps:List Prop}{b:fu U}
  (ha:Aw (restrict σ.bO rs) σ.aT x=some (ps,b)) (hp:∀p∈ps,p) (hx:RD E w F kv fp (bW σ) x v):
  Rp E w (FK F fp (x.keys.filter fun k=>(σ.bO k).isSome)) false (.sl b.τ b.xs) v []:=by
 unfold Aw at ha
 split at ha
 rotate_left
 ·cases ha
 rename_i k i wd j p
 split at ha
 rotate_left
 ·cases ha
 rename_i y dead he
 cases iv:fR (restrict σ.bO rs) σ.aT k ((i,wd,j)::p)<;>simp only[iv,cond_false,cond_true] at ha
 ·cases ha
 split at ha
 rotate_left
 ·cases ha
 rename_i KH b' hw
 cases ha
 have fc:=j0 he
 have hn:=cw hx (HR iv he)
 obtain⟨v',h1,h2⟩:=eE.nav (h.dH k _ fc) hw (fun q hq=>hp q (by simp[hq])) (hp _ (by simp))
 have:v=v':=hn.unique h1
 subst this
 refine h2.fT fun b hb=> ?_
 rcases hb with hb|hb
 ·exact .inl hb
 ·exact .inr ⟨k,zA.2 ⟨by simp[AC.keys],by simp[fc]⟩,hb⟩
theorem adH(h:cM E pm F kv fp σ a w){rs:List Key}{want:Option U.Ty}{x:AC U}{v:Value}{ps:List Prop}{c:U.C}
  (hc:cellOf (restrict σ.bO rs) σ.aT want x=some (ps,c)) (hp:∀p∈ps,p) (hx:RD E w F kv fp (bW σ) x v):Rp E w (FK F fp (x.keys.filter fun k=>(σ.bO k).isSome)) false c v []:=by
 unfold cellOf at hc
 split at hc
 ·cases hc
  exact(cw hx rfl:Rp E w F false _ _ _).fT (fun b hb=> .inl hb)
 ·split at hc
  ·cases hc
   obtain⟨ad,h1⟩:=cw hx rfl
   subst h1
   exact .nil _ _ _ _ (by simp)
  ·cases hc
 ·split at hc
  ·rename_i KH b ha
   cases hc
   exact yS h ha hp hx
  ·split at hc
   ·rename_i KH b ha
    cases hc
    exact amK h ha hp hx
   ·cases hc
theorem adG(h:cM E pm F kv fp σ a w){rs:List Key}:∀{xs:List (AC U)}{want:List (Option U.Ty)}{vs:List Value}{ps:List Prop}{cs:List U.C},
  cellsOf (restrict σ.bO rs) σ.aT want xs=some (ps,cs)->(∀p∈ps,p)->mc E w F kv fp (bW σ) xs vs->
  cs.length=xs.length/\∀(i:Nat)(c:U.C),cs[i]? =some c->Rp E w (FK F fp ((xs.flatMap AC.keys).filter fun k=>(σ.bO k).isSome)) false c (vs.getD i undef) []:=by
 intro xs
 induction xs with
 |nil=>
  intro want vs ps cs hc hp hx
  simp only[cellsOf,gA,pq] at hc
  obtain⟨rfl,rfl⟩:=hc
  exact⟨rfl,fun i c hc=>by simp at hc⟩
 |cons x xs ih=>
  intro want vs ps cs hc hp hx
  simp only[cellsOf] at hc
  split at hc
  ·rename_i Um c1 ps2 cs2 h1 h2
   cases hc
   cases vs with
   |nil=>have:=hx.1;simp at this
   |cons v vs=>
    have hx1:RD E w F kv fp (bW σ) x v:=hx.2 0 x v rfl rfl
    have hx2:mc E w F kv fp (bW σ) xs vs:=⟨by have:=hx.1;simpa using this,fun i y u hy hu=>hx.2 (i+1) y u (by simpa using hy) (by simpa using hu)⟩
    have g1:=adH h h1 (fun p kJ=>hp p (by simp[kJ])) hx1
    obtain⟨i1,i2⟩:=ih h2 (fun p kJ=>hp p (by simp[kJ])) hx2
    refine⟨by simp[i1],fun i c hc=> ?_⟩
    cases i with
    |zero=>
     simp only[vn,gA] at hc;subst hc
     exact g1.fT (fun b hb=>HU (fun k hk=>by
      rw[zA] at hk⊢
      exact⟨by rw[zB];exact sD _ hk.1,hk.2⟩) hb)
    |succ i=>exact(i2 i c (by simpa using hc)).fT (fun b hb=>HU (fun k hk=>by
      rw[zA] at hk⊢
      exact⟨by rw[zB];exact rv _ hk.1,hk.2⟩) hb)
  ·cases hc
theorem adT{ks K:List Key}(hK:∀k∈ks,(σ.bO k).isSome=true->k∈K){b:Nat}:FK F fp (ks.filter fun k=>(σ.bO k).isSome) b->FK F fp K b:=
 HU (fun k hk=>by rw[zA] at hk;exact hK k hk.1 hk.2)
theorem Rp.kc{m:Bool}{u v:Value}{l:List Nat}(h:Rp E w F m (.lit u) v l):l=[]/\v=u/\gr u:=by
 generalize hc:(Cell.lit u:U.C)=c at h
 cases h with
 |lit _ _ ho=>cases hc;exact⟨rfl,rfl,ho⟩
 |nil=>cases hc
 |shr=>cases hc
 |own=>cases hc
theorem Ph:∀{cs:List (AC U)}{l:List U.C},plain cs=some l->cs=l.map .c
 |[],l,h=>by cases h;rfl
 | .c x::r,l,h=>by
  simp only[plain] at h
  split at h
  ·rename_i l' hl;cases h;rw[Ph hl];rfl
  ·cases h
 | .e0::r,l,h=>by simp[plain] at h
 | .ref _ _::r,l,h=>by simp[plain] at h
 | .sub _ _ _ _::r,l,h=>by simp[plain] at h
 | .lN _ _ _ _ _::r,l,h=>by simp[plain] at h
 | .ky _ _::r,l,h=>by simp[plain] at h
 | .ia _::r,l,h=>by simp[plain] at h
 | .kn _ _ _::r,l,h=>by simp[plain] at h
theorem Vl(h:cM E pm F kv fp σ a w){rs:List Key}{want:List (Option U.Ty)}{x:SV U}{v:Value}{ps:List Prop}{d:DV U}{K:List Key}
  (ha:u9 (restrict σ.bO rs) σ.aT want x=some (ps,d)) (hp:∀p∈ps,p) (hx:RS E w F kv fp (bW σ) x v) (hK:∀k∈x.keys,(σ.bO k).isSome=true->k∈K):oK E w (FK F fp K) .ro d v []:=by
 unfold u9 at ha
 split at ha
 ·rename_i cs
  cases ha
  obtain⟨b,o,h1,h2,h3⟩:=cw (HT hx) rfl
  exact⟨⟨b,o,h1,.inl h2,fun j c hj=>by obtain⟨u,h4,h5⟩:=h3 j c hj;exact⟨u,h4,h5.fT (fun b hb=> .inl hb)⟩⟩,rfl⟩
 ·rename_i k off
  split at ha
  ·rename_i cs he
   split at ha
   ·rename_i l hl
    cases ha
    have vA:=Ph hl
    obtain⟨b,h1,h2⟩:=cw (HT hx) rfl
    have fc:=j0 he
    obtain⟨b',cur,e',g1,g2,g3,g4⟩:=h.dH k _ fc
    rw[h1] at g1
    simp only[Value.pointer.injEq,gA,Addr.mk.injEq] at g1
    obtain⟨rfl,_,_⟩:=g1
    have hk:k∈K:=hK k (by simp[SV.keys,SV.Ca,AC.keys]) (by rw[fc];rfl)
    refine⟨⟨b,off,h2,.inr ⟨k,hk,by rw[g3];exact mI.2 rfl⟩,fun j c hj=> ?_⟩,rfl⟩
    rw[HB] at hj
    have ue:cs[off+j]? =some (.c c):=by rw[vA,nT,hj];rfl
    obtain⟨u,hu⟩:∃u,cur.toList[off+j]? =some u:=by
     have gI:off+j<cs.length:=by
      rcases pe (off+j) cs.length with h|h
      ·exact h
      ·rw[od h] at ue;cases ue
     exact⟨_,fw (by rw[<-g4.1];exact gI)⟩
    have hd:=g4.2 _ _ u ue hu
    refine⟨u,?_,(cw hd rfl:Rp E w F false _ _ _).fT (fun b hb=> .inl hb)⟩
    simp only[World.cell?,g2]
    simpa using hu
   ·cases ha
  ·cases ha
 ·rename_i y _
  split at ha
  ·rename_i KH c hc
   cases ha
   exact⟨(adH h hc hp (HT hx)).fT (fun b hb=>adT (fun k hk=>hK k (by simpa[SV.keys,SV.Ca] using hk)) hb),rfl⟩
  ·cases ha
 ·rename_i cs
  split at ha
  ·rename_i KH l hl
   cases ha
   obtain⟨vs,h1,h2⟩:=hx
   simp only[if_true] at h2
   obtain⟨g1,g2⟩:=adG h hl hp h1
   exact⟨vs,h2,by rw[g1];exact h1.1.symm,fun i c hc=>(g2 i c hc).fT (fun b hb=>adT (fun k hk=>hK k (by simpa[SV.keys,SV.Ca] using hk)) hb),rfl⟩
  ·cases ha
 ·cases ha
theorem oK.aax{w w':World}{F F':Nat->Prop}{d:DV U}{v:Value}{l:List Nat}(h:oK E w F .ro d v l)(hF:∀b,F b->F' b/\w'.heap[b]? =w.heap[b]?):oK E w' F' .ro d v l:=by
 cases d with
 |one c=>exact⟨h.1.gg hF (by simp),h.2⟩
 |agg cs=>
  obtain⟨vs,h1,h2,h3,h4⟩:=h
  exact⟨vs,h1,h2,fun i c hc=>(h3 i c hc).gg hF (by simp),h4⟩
 |ptr cs=>
  obtain⟨⟨b,o,h1,h2,h3⟩,h4⟩:=h
  refine⟨⟨b,o,h1,(hF b h2).1,fun j c hj=> ?_⟩,h4⟩
  obtain⟨u,g1,g2⟩:=h3 j c hj
  refine⟨u,?_,g2.gg hF (by simp)⟩
  rw[World.cell?_of_block (w:=w) (a:=⟨b,o+j,none⟩) (hF b h2).2];exact g1
 |box _=>exact h.elim
 |fn p=>exact⟨nS.gg h.1 hF,h.2⟩
theorem RDA.arg{w:World}{F:Nat->Prop}{d:DA U}{v:Value}(h:RDA E w F d v):oK E w F .ro d.dv v []:=by
 obtain⟨g,cs⟩:=d
 obtain⟨vs,h1,h2,h3⟩:=h
 cases g with
 |true=>
  simp only[if_true] at h3
  have e:(DA.mk true cs:DA U).dv=.agg cs:=rfl
  rw[e]
  exact⟨vs,h3,h1,h2,rfl⟩
 |false=>
  simp only[xv,if_false] at h3
  subst h3
  match cs,h1,h2 with
  |[c],h1,h2=>exact⟨h2 0 c rfl,rfl⟩
theorem js.RL{w:World}{F:Nat->Prop}:∀{ms:List Mode}{ds:List (DV U)}{vs:List Value},rc ms=true->ms.length=ds.length->ds.length=vs.length->(∀(i:Nat)(d:DV U)(v:Value),ds[i]? =some d->vs[i]? =some v->oK E w F .ro d v [])->
  js E w F ms ds vs (List.replicate ms.length [])
 |[],[],[],_,_,_,_=>trivial
 |m::ms,d::ds,v::vs,hr,h1,h2,h=>by
  cases m with
  |ro=>exact⟨h 0 d v rfl rfl,js.RL (by simpa[rc] using hr) (by simpa using h1) (by simpa using h2) (fun i d v hd hv=>h (i+1) d v (by simpa using hd) (by simpa using hv))⟩
  |wr=>simp[rc] at hr
  |mv=>simp[rc] at hr
  |box _=>simp[rc] at hr
 |[],_::_,_,_,h1,_,_=>by simp at h1
 |_::_,[],_,_,h1,_,_=>by simp at h1
 |[],[],_::_,_,_,h2,_=>by simp at h2
 |_::_,_::_,[],_,_,h2,_=>by simp at h2
theorem amz(h:cM E pm F kv fp σ a w){rs:List Key}{K:List Key}:∀{xs:List (AV U)}{vs:List Value}{ps:List Prop}{ds:List (DV U)},u5 (restrict σ.bO rs) σ.aT xs=some (ps,ds)->(∀p∈ps,p)->xs.length=vs.length->
  (∀(i:Nat)(x:AV U)(u:Value),xs[i]? =some x->vs[i]? =some u->RV E w F kv fp (bW σ) x u)->(∀x∈xs,∀y∈x.cs,∀k∈y.keys,(σ.bO k).isSome=true->k∈K)->
  ds.length=vs.length/\∀(i:Nat)(d:DV U)(v:Value),ds[i]? =some d->vs[i]? =some v->oK E w (FK F fp K) .ro d v []:=by
 intro xs
 induction xs with
 |nil=>
  intro vs ps ds hc hp hl hx hK
  simp only[u5,gA,pq] at hc
  obtain⟨rfl,rfl⟩:=hc
  exact⟨hl,fun i d v hd=>by simp at hd⟩
 |cons x xs ih=>
  intro vs ps ds hc hp hl hx hK
  cases vs with
  |nil=>simp at hl
  |cons v vs=>
   simp only[u5] at hc
   split at hc
   ·rename_i Um d1 ps2 ds2 h1 h2
    cases hc
    obtain⟨i1,i2⟩:=ih h2 (fun p kJ=>hp p (by simp[kJ])) (by simpa using hl) (fun i y u hy hu=>hx (i+1) y u (by simpa using hy) (by simpa using hu)) (fun y hy=>hK y (fA _ hy))
    refine⟨by simp[i1],fun i d u hd hu=> ?_⟩
    cases i with
    |zero=>
     simp only[vn,gA] at hd hu
     subst hd;subst hu
     exact Vl h h1 (fun p kJ=>hp p (by simp[kJ])) (show RS E w F kv fp (bW σ) (.v x) v from hx 0 x v rfl rfl) (fun k hk=>by
      obtain⟨y,hy,hk⟩:=SV.mem_keys.1 hk
      exact hK x iy y hy k hk)
    |succ i=>exact i2 i d u (by simpa using hd) (by simpa using hu)
   ·cases hc
theorem amv{w:World}{F:Nat->Prop}(BF:QH E w F){g:FuncId}{k:jY U}{vs:List Value}{ds:List (DV U)}(hf:zy E.P g)(hk:eG E g k)(hr:rc k.md=true)(hl:ds.length=vs.length)
  (hd:∀(i:Nat)(d:DV U)(v:Value),ds[i]? =some d->vs[i]? =some v->oK E w F .ro d v []):nS E w F (ff k ds) (.func (.func g) #[] vs.toArray):=by
 refine⟨g,_,rfl,hf,fun das r hp w' F' hF gI us wF=> ?_⟩
 unfold ff at hp
 split at hp
 ·rename_i x hof
  split at hp
  ·rename_i v PK aaO
   split at hp
   ·rename_i hc
    cases hp
    obtain⟨Gf,P6⟩:=hc
    have aaS:=k.law _ x hof
    have hlen:(das.map DA.dv++ds).length=(us++vs).length:=by simp[wF.1,hl]
    have n9:=js.RL (E:=E) (w:=w') (F:=F') (ms:=k.md) (ds:=das.map DA.dv++ds) (vs:=us++vs) hr (by simp[Gf]) hlen (fun i d u BZ hu=>by
     rcases pe i us.length with hi|hi
     ·rw[xA (by simpa[wF.1] using hi)] at BZ
      rw[xA hi] at hu
      rw[nT] at BZ
      cases hda:das[i]? with
      |none=>rw[hda] at BZ;cases BZ
      |some da=>rw[hda] at BZ;cases BZ;exact(wF.2 i da u hda hu).arg
     ·rw[zC (by simpa[wF.1] using hi)] at BZ
      rw[zC hi] at hu
      have e:(das.map DA.dv).length=us.length:=by simp[wF.1]
      rw[e] at BZ
      exact(hd _ d u BZ hu).aax hF)
    have Gd:(List.replicate k.md.length ([]:List Nat)).flatten=[]:=by simp
    have:=hk x P6 w' F' (us++vs) (List.replicate k.md.length []) gI (BF.gg hF) (by rw[aaS];exact n9) (wT hr) (by rw[Gd];exact Ze) (by rw[Gd];simp)
    have e:us.toArray++vs.toArray=(us++vs).toArray:=by simp
    rw[e]
    refine this.mono ?_
    rintro e w'' ⟨ZL,sE,iY,rfl,h1,h2,_⟩
    rw[Gd] at h1
    rw[PK] at h2
    cases ZL with
    |nil=>exact h2.elim
    |cons u ZL=>cases sE with
     |nil=>exact h2.elim
     |cons l sE=>cases ZL with
      |cons _ _=>exact h2.2.elim
      |nil=>
       have h3:=h2.1
       have key:∀(G:Nat->Prop) fresh,kT E w'' G fresh (.one (.lit r)) u l->u=r/\gr r:=by
        intro G fresh h
        cases fresh with
        |true=>exact⟨(Rp.kc h).2.1,(Rp.kc h).2.2⟩
        |false=>exact⟨(Rp.kc h.1).2.1,(Rp.kc h.1).2.2⟩
       obtain⟨e1,e2⟩:=key _ _ h3
       exact⟨by rw[e1];rfl,e2,h1.mono (by simp)⟩
   ·cases hp
  ·cases hp
 ·cases hp
theorem amO(hC:∀g k,E.Ql g=some k->zy E.P g/\eG E g k)(h:cM E pm F kv fp σ a w){rs:List Key}{want:List (Option U.Ty)}{x:SV U}{v:Value}{ps:List Prop}{d:DV U}{K:List Key}
  (ha:u_ E (restrict σ.bO rs) σ.aT want .ro x=some (ps,d)) (hp:∀p∈ps,p) (hx:RS E w F kv fp (bW σ) x v) (hK:∀k∈x.keys,(σ.bO k).isSome=true->k∈K):oK E w (FK F fp K) .ro d v []:=by
 simp only[u_] at ha
 unfold LS at ha
 split at ha
 ·cases ha
  exact⟨nS.gg hx (fun b hb=>⟨.inl hb,rfl⟩),rfl⟩
 ·rename_i g xs
  split at ha
  ·rename_i k KH ds hk vA
   rw[im] at ha
   split at ha
   ·rename_i hc
    simp only[cJ] at hc
    cases ha
    obtain⟨vs,rfl,hl,FO⟩:=hx
    obtain⟨h1,h2⟩:=amz (K:=K) h vA hp hl FO (fun y hy z hz k' cU=>hK k' (SV.mem_keys.2 ⟨z,oQ.2 ⟨y,hy,hz⟩,cU⟩))
    exact⟨amv (h.lay.gg fun b hb=>⟨.inl hb,rfl⟩) (hC g k hk).1 (hC g k hk).2 hc.1 h1 h2,rfl⟩
   ·cases ha
  ·cases ha
 ·exact Vl h ha hp hx hK
theorem MN{w:World}{b:Nat}{cur:Array Value}{e:TypeId}(h:w.heap[b]? =some (.cells cur e (0,0)))(n:Nat):sP w (.pointer (some ⟨b,0,none⟩)) n=cur.toList.drop n:=by
 simp only[sP,h]
theorem mc.cons_inv{x:AC U}{xs:List (AC U)}{vs:List Value}(h:mc E w F kv fp bad (x::xs) vs):∃v wj,vs=v::wj/\RD E w F kv fp bad x v/\mc E w F kv fp bad xs wj:=by
 cases vs with
 |nil=>have:=h.1;simp at this
 |cons v vs=>exact⟨v,vs,rfl,h.2 0 x v rfl rfl,by have:=h.1;simpa using this,fun i y u hy hu=>h.2 (i+1) y u (by simpa using hy) (by simpa using hu)⟩
theorem mc.cons{x:AC U}{xs:List (AC U)}{v:Value}{vs:List Value}(h:RD E w F kv fp bad x v)(h':mc E w F kv fp bad xs vs):mc E w F kv fp bad (x::xs) (v::vs):=by
 refine⟨by simp[h'.1],fun i y u hy hu=> ?_⟩
 cases i with
 |zero=>simp only[vn,gA] at hy hu;subst hy hu;exact h
 |succ i=>exact h'.2 i y u (by simpa using hy) (by simpa using hu)
theorem e7.rp{y:fu U}{v:Value}{l:List Nat}(h:e7 E w F true y v l):Rp E w F true (.sl y.τ y.xs) v l:=by
 obtain⟨τ,xs⟩:=y
 rcases h with⟨h1,⟨ad,rfl⟩,rfl⟩|⟨b,cap,cur,vs,hZ,rfl,h2,h3,h4,h5,h6,h7,rfl⟩
 ·simp only at h1
  subst h1
  exact .nil _ _ _ _ (fun _=>rfl)
 ·exact .own τ xs b cap cur vs hZ h2 h3 h4 h5 h6 h7
theorem ZR(h:cM E pm F kv fp σ a w){rs:List Key}:∀{xs:List (AC U)}{vs:List Value}{cs:List U.C}{ks:List Key},jD (restrict σ.bO rs) xs=some (cs,ks)->mc E w F kv fp (bW σ) xs vs->
  cs.length=xs.length/\(∀k∈ks,(σ.bO k).isSome=true)/\∃fl:List (List Nat),fl.length=cs.length/\(∀(i:Nat)(c:U.C),cs[i]? =some c->Rp E w F true c (vs.getD i undef) (fl.getD i []))/\fl.flatten=ks.flatMap fp
 |[],vs,cs,ks,hw,hx=>by
  simp only[jD,gA,pq] at hw
  obtain⟨rfl,rfl⟩:=hw
  exact⟨rfl,by simp,[],rfl,fun i c hc=>by simp at hc,rfl⟩
 |x::xs,vs,cs,ks,hw,hx=>by
  obtain⟨v,wj,rfl,h1,h2⟩:=hx.cons_inv
  have put:∀{c:U.C}{vT:List U.C}{ks':List Key}{l:List Nat},Rp E w F true c v l->(vT.length=xs.length/\(∀k∈ks',(σ.bO k).isSome=true)/\∃fl:List (List Nat),fl.length=vT.length/\(∀(i:Nat)(c:U.C),vT[i]? =some c->Rp E w F true c (wj.getD i undef) (fl.getD i []))/\fl.flatten=ks'.flatMap fp)->
    ∃fl:List (List Nat),fl.length=(c::vT).length/\(∀(i:Nat)(c':U.C),(c::vT)[i]? =some c'->Rp E w F true c' ((v::wj).getD i undef) (fl.getD i []))/\fl.flatten=l++ks'.flatMap fp:=by
   rintro c vT ks' l hr ⟨_,_,fl,f1,f2,f3⟩
   refine⟨l::fl,by simp[f1],fun i c' hc=> ?_,by simp[f3]⟩
   cases i with
   |zero=>simp only[vn,gA] at hc;subst hc;simpa using hr
   |succ i=>simpa using f2 i c' (by simpa using hc)
  unfold jD at hw
  split at hw
  ·rename_i pV;cases pV
  ·rename_i u r pV
   cases pV
   split at hw
   ·rename_i vT ks' hr
    cases hw
    have ih:=ZR h hr h2
    have hl:Rp E w F false _ v []:=cw h1 rfl
    obtain⟨_,hvu,ho⟩:=hl.kc
    subst hvu
    obtain⟨fl,f1,f2,f3⟩:=put (.lit true _ ho) ih
    exact⟨by simp[ih.1],ih.2.1,fl,f1,f2,by simpa using f3⟩
   ·cases hw
  ·rename_i k r pV
   cases pV
   split at hw
   ·rename_i y vT ks' he hr
    cases hw
    have ih:=ZR h hr h2
    have fc:=j0 he
    have hv:v=kv k:=cw h1 rfl
    have ho:e7 E w F true y (kv k) (fp k):=h.dH k _ fc
    obtain⟨fl,f1,f2,f3⟩:=put (c:=.sl y.τ y.xs) (by rw[hv];exact ho.rp) ih
    exact⟨by simp[ih.1],fun k' cU=>by
     rcases jZ.1 cU with rfl|cU
     ·rw[fc];rfl
     ·exact ih.2.1 k' cU,fl,f1,f2,by simpa using f3⟩
   ·cases hw
  ·cases hw
end AM
