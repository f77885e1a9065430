/- THE ABSTRACT MACHINE: what a contract says; a call by a contract. -/
import Derived.Test.YtjlajhgabffmpaaGreatQAmOps8
namespace AM
set_option linter.unusedVariables false
open Go
variable{U:lu}
def sE(w:World)(v:Value)(n:Nat):List Value:=match v with
 | .pointer (some a)=>match w.heap[a.block]? with
  |some (.cells cur _ _)=>cur.toList.drop n
  |_=>[]
 |_=>[]
section
variable(E:Env U)(w:World)(F:Nat->Prop)
def se(own:Bool)(cs:List U.C)(rest:List Value)(v:Value)(l:List Nat):Prop:=
 ∃(b:Nat)(cur:Array Value)(e:TypeId)(fl:List (List Nat)),v=.pointer (some ⟨b,0,none⟩)/\w.heap[b]? =some (.cells cur e (0,0))/\cs.length<=cur.size/\cur.toList.drop cs.length=rest/\(∀u∈rest,gM u)/\
  fl.length=cs.length/\(∀(i:Nat)(c:U.C),cs[i]? =some c->Rp E w F own c (cur.toList.getD i undef) (fl.getD i []))/\l=b::fl.flatten
def mD(cs:List U.C)(v:Value)(l:List Nat):Prop:=
 ∃(vs:List Value)(fl:List (List Nat)),v=.agg vs.toArray/\vs.length=cs.length/\fl.length=cs.length/\(∀(i:Nat)(c:U.C),cs[i]? =some c->Rp E w F true c (vs.getD i undef) (fl.getD i []))/\l=fl.flatten
def ou:Mode->DV U->Value->List Nat->Prop
 | .ro,.one c,v,l=>Rp E w F false c v []/\l=[]
 | .ro,.agg cs,v,l=>∃vs:List Value,v=.agg vs.toArray/\vs.length=cs.length/\(∀(i:Nat)(c:U.C),cs[i]? =some c->Rp E w F false c (vs.getD i undef) [])/\l=[]
 | .ro,.ptr cs,v,l=>(∃b o,v=.pointer (some ⟨b,o,none⟩)/\F b/\∀(j:Nat)(c:U.C),cs[j]? =some c->∃u,w.cell? ⟨b,o+j,none⟩=some u/\Rp E w F false c u [])/\l=[]
 | .ro,.fn p,v,l=>nN E w F p v/\l=[]
 | .wr,.one (.sl τ xs),v,l=>fi E w F true ⟨τ,xs⟩ v l
 | .wr,.agg cs,v,l=>mD E w F cs v l
 | .mv,.one c,v,l=>Rp E w F true c v l
 | .mv,.agg cs,v,l=>mD E w F cs v l
 | .box own,.box cs,v,l=>se E w F own cs (sE w v cs.length) v l
 |_,_,_,_=>False
def kw:List Mode->List (DV U)->List Value->List (List Nat)->Prop
 |[],[],[],[]=>True
 |m::ms,d::ds,v::vs,l::ls=>ou E w F m d v l/\kw ms ds vs ls
 |_,_,_,_=>False
def lr(fresh:Bool):DV U->Value->List Nat->Prop
 | .one c,v,l=>if fresh then Rp E w F true c v l else Rp E w F false c v []/\l=[]
 | .agg cs,v,l=>if fresh then mD E w F cs v l
   else∃vs:List Value,v=.agg vs.toArray/\vs.length=cs.length/\(∀(i:Nat)(c:U.C),cs[i]? =some c->Rp E w F false c (vs.getD i undef) [])/\l=[]
 | .box cs,v,l=>fresh=true/\∃b cur e,v=.pointer (some ⟨b,0,none⟩)/\w.heap[b]? =some (.cells cur e (0,0))/\l=[b]/\cur.size=cs.length/\∀(i:Nat)(c:U.C),cs[i]? =some c->Rp E w F false c (cur.toList.getD i undef) []
 | .ptr _,_,_=>False
 | .fn _,_,_=>False
def nu:List Bool->List (DV U)->List Value->List (List Nat)->Prop
 |_,[],[],[]=>True
 |fs,d::ds,v::vs,l::ls=>lr E w F (fs.headD true) d v l/\nu fs.tail ds vs ls
 |_,_,_,_=>False
def fE(w0:World):List Mode->List Value->List (DV U)->List (List Nat)->Prop
 |[],[],[],[]=>True
 | .ro::ms,_::vs,ds,ls=>fE w0 ms vs ds ls
 | .mv::ms,_::vs,ds,ls=>fE w0 ms vs ds ls
 | .wr::ms,v::vs,.one (.sl τ ys)::ds,l::ls=>fi E w F true ⟨τ,ys⟩ v l/\fE w0 ms vs ds ls
 | .wr::ms,v::vs,.agg cs::ds,l::ls=>mD E w F cs v l/\fE w0 ms vs ds ls
 | .box own::ms,v::vs,.box cs::ds,l::ls=>se E w F own cs (sE w0 v cs.length) v l/\fE w0 ms vs ds ls
 |_,_,_,_=>False
end
def Pj:List Value->Value
 |[v]=>v
 |vs=> .tuple vs.toArray
def ER(F:Nat->Prop)(w w':World)(own ad8:List Nat)(b:Nat):Prop:=F b\/((w.heap.size<=b\/b∈ad8)/\b<w'.heap.size/\b∉own)
def tG(w:World)(n:Nat):List Mode->List (DV U)->List Value->Prop
 |m::ms,d::ds,v::vs=>(∀own cs,m=.box own->d=.box cs->(sE w v cs.length).length=n)/\tG w n ms ds vs
 |_,_,_=>True
theorem wR{w:World}{n:Nat}:∀{ms:List Mode}{ds:List (DV U)}{vs:List Value},qP ms=true->tG w n ms ds vs
 |[],_,_,_=>trivial
 |_::_,[],_,_=>trivial
 |_::_,_::_,[],_=>trivial
 |m::ms,d::ds,v::vs,h=>by
  cases m with
  |ro=>exact⟨fun own cs hm=>(by cases hm),wR (by simpa[qP] using h)⟩
  |wr=>simp[qP] at h
  |mv=>simp[qP] at h
  |box _=>simp[qP] at h
def fh(E:Env U)(f:FuncId)(k:kz U):Prop:=
 ∀x:k.α,(∀p∈k.pre x,p)->∀(w:World)(F:Nat->Prop)(vs:List Value)(ls:List (List Nat)),(∀b,F b->b<w.heap.size)->WD E w F->kw E w F k.md (k.ds x) vs ls->tG w k.Kl k.md (k.ds x) vs->ls.flatten.Nodup->
  (∀b∈ls.flatten,b<w.heap.size/\¬F b)->
  Calls E.P f vs.toArray w fun e w'=>∃(us:List Value)(si ji:List (List Nat)),e=.returned (Pj us)/\iC (·∈ls.flatten) w w'/\
   nu E w' (ER F w w' (si.flatten++ji.flatten) ls.flatten) (k.pj x).fresh (k.pj x).val us si/\
   fE E w' (ER F w w' (si.flatten++ji.flatten) ls.flatten) w k.md vs (k.pj x).M0 ji/\
   (si.flatten++ji.flatten).Nodup/\(∀b∈si.flatten,(b∈ls.flatten\/w.heap.size<=b)/\b<w'.heap.size)/\(∀b∈ji.flatten,b∈ls.flatten\/(w.heap.size<=b/\b<w'.heap.size))
variable{E:Env U}{pm:Pm}
variable{F F':Nat->Prop}{kv:Key->Value}{fp:Key->List Nat}{σ:ai U}{a:Act}{w w':World}{bad:Key->Bool}
theorem yN(h:cQ E pm F kv fp σ a w){rs:List Key}{x:AC U}{v:Value}{ps:List Prop}{b:jh U}
  (ha:qN (restrict σ.bM rs) σ.aN x=some (ps,b)) (hp:∀p∈ps,p) (hx:RD E w F kv fp (bR σ) x v):
  Rp E w (FK F fp (x.keys.filter fun k=>(σ.bM k).isSome)) false (.sl b.τ b.xs) v []:=by
 have key:∀(k:Key)(y:jh U)(d:Bool),restrict σ.bM rs k=some (.arr y d)->k∈x.keys->∀b,(F b\/b∈fp k)->FK F fp (x.keys.filter fun k=>(σ.bM k).isSome) b:=by
  intro k y d he hk b hb
  rcases hb with hb|hb
  ·exact .inl hb
  ·exact .inr ⟨k,zr.2 ⟨hk,by simp[kj he]⟩,hb⟩
 unfold qN at ha
 split at ha
 ·cases ha
  exact(cw hx rfl:Rp E w F false _ _ _).fZ (fun b hb=> .inl hb)
 ·cases ha
  exact(cw hx rfl).1.fZ (fun b hb=> .inl hb)
 ·rename_i k p
  split at ha
  ·rename_i y d he
   cases iH:fW (restrict σ.bM rs) σ.aN k p<;>simp only[iH,cond_false,cond_true] at ha
   ·cases ha
   ·have hn:=cw hx (HJ iH he)
    obtain⟨v',h1,h2⟩:=(Pp h (kj he)).nav ha hp
    have:v=v':=hn.unique h1
    subst this
    exact h2.fZ (key k y d he (by simp[AC.keys]))
  ·cases ha
 ·rename_i k wd lo hi
  split at ha
  ·rename_i y d he
   cases hw:Nat.beq wd (U.wd y.τ)<;>simp only[hw,cond_false,cond_true] at ha
   ·cases ha
   ·cases ha
    have vt:=nc hw
    subst vt
    obtain⟨h1,h2⟩:=cw hx rfl
    subst h1
    exact((Pp h (kj he)).sub h2 (hp _ (by simp))).fZ (key k y d he (by simp[AC.keys]))
  ·cases ha
 ·cases ha
theorem alX(h:cQ E pm F kv fp σ a w){rs:List Key}{x:AC U}{v:Value}{ps:List Prop}{b:jh U}
  (ha:As (restrict σ.bM rs) σ.aN x=some (ps,b)) (hp:∀p∈ps,p) (hx:RD E w F kv fp (bR σ) x v):
  Rp E w (FK F fp (x.keys.filter fun k=>(σ.bM k).isSome)) false (.sl b.τ b.xs) v []:=by
 unfold As at ha
 split at ha
 rotate_left
 ·cases ha
 rename_i k i wd j p
 split at ha
 rotate_left
 ·cases ha
 rename_i y dead he
 cases iH:fW (restrict σ.bM rs) σ.aN k ((i,wd,j)::p)<;>simp only[iH,cond_false,cond_true] at ha
 ·cases ha
 split at ha
 rotate_left
 ·cases ha
 rename_i Kz b' hw
 cases ha
 have fo:=kj he
 have hn:=cw hx (HJ iH he)
 obtain⟨v',h1,h2⟩:=eW.nav (h.dV k _ fo) hw (fun q hq=>hp q (by simp[hq])) (hp _ (by simp))
 have:v=v':=hn.unique h1
 subst this
 refine h2.fZ fun b hb=> ?_
 rcases hb with hb|hb
 ·exact .inl hb
 ·exact .inr ⟨k,zr.2 ⟨by simp[AC.keys],by simp[fo]⟩,hb⟩
theorem adh(h:cQ E pm F kv fp σ a w){rs:List Key}{want:Option U.Ty}{x:AC U}{v:Value}{ps:List Prop}{c:U.C}
  (hc:cellOf (restrict σ.bM rs) σ.aN want x=some (ps,c)) (hp:∀p∈ps,p) (hx:RD E w F kv fp (bR σ) x v):Rp E w (FK F fp (x.keys.filter fun k=>(σ.bM k).isSome)) false c v []:=by
 unfold cellOf at hc
 split at hc
 ·cases hc
  exact(cw hx rfl:Rp E w F false _ _ _).fZ (fun b hb=> .inl hb)
 ·split at hc
  ·cases hc
   obtain⟨ad,h1⟩:=cw hx rfl
   subst h1
   exact .nil _ _ _ _ (by simp)
  ·cases hc
 ·split at hc
  ·rename_i Kz b ha
   cases hc
   exact yN h ha hp hx
  ·split at hc
   ·rename_i Kz b ha
    cases hc
    exact alX h ha hp hx
   ·cases hc
theorem adg(h:cQ E pm F kv fp σ a w){rs:List Key}:∀{xs:List (AC U)}{want:List (Option U.Ty)}{vs:List Value}{ps:List Prop}{cs:List U.C},
  cellsOf (restrict σ.bM rs) σ.aN want xs=some (ps,cs)->(∀p∈ps,p)->l8 E w F kv fp (bR σ) xs vs->
  cs.length=xs.length/\∀(i:Nat)(c:U.C),cs[i]? =some c->Rp E w (FK F fp ((xs.flatMap AC.keys).filter fun k=>(σ.bM k).isSome)) false c (vs.getD i undef) []:=by
 intro xs
 induction xs with
 |nil=>
  intro want vs ps cs hc hp hx
  simp only[cellsOf,gJ,pb] at hc
  obtain⟨rfl,rfl⟩:=hc
  exact⟨rfl,fun i c hc=>by simp at hc⟩
 |cons x xs ih=>
  intro want vs ps cs hc hp hx
  simp only[cellsOf] at hc
  split at hc
  ·rename_i Un c1 Z8 cs2 h1 h2
   cases hc
   cases vs with
   |nil=>have:=hx.1;simp at this
   |cons v vs=>
    have hx1:RD E w F kv fp (bR σ) x v:=hx.2 0 x v rfl rfl
    have hx2:l8 E w F kv fp (bR σ) xs vs:=⟨by have:=hx.1;simpa using this,fun i y u hy hu=>hx.2 (i+1) y u (by simpa using hy) (by simpa using hu)⟩
    have g1:=adh h h1 (fun p kP=>hp p (by simp[kP])) hx1
    obtain⟨i1,i2⟩:=ih h2 (fun p kP=>hp p (by simp[kP])) hx2
    refine⟨by simp[i1],fun i c hc=> ?_⟩
    cases i with
    |zero=>
     simp only[vh,gJ] at hc;subst hc
     exact g1.fZ (fun b hb=>HM (fun k hk=>by
      rw[zr] at hk⊢
      exact⟨by rw[zt];exact sh _ hk.1,hk.2⟩) hb)
    |succ i=>exact(i2 i c (by simpa using hc)).fZ (fun b hb=>HM (fun k hk=>by
      rw[zr] at hk⊢
      exact⟨by rw[zt];exact rb _ hk.1,hk.2⟩) hb)
  ·cases hc
theorem adt{ks K:List Key}(hK:∀k∈ks,(σ.bM k).isSome=true->k∈K){b:Nat}:FK F fp (ks.filter fun k=>(σ.bM k).isSome) b->FK F fp K b:=
 HM (fun k hk=>by rw[zr] at hk;exact hK k hk.1 hk.2)
theorem Rp.mJ{m:Bool}{u v:Value}{l:List Nat}(h:Rp E w F m (.lit u) v l):l=[]/\v=u/\gM u:=by
 generalize hc:(Cell.lit u:U.C)=c at h
 cases h with
 |lit _ _ ho=>cases hc;exact⟨rfl,rfl,ho⟩
 |nil=>cases hc
 |shr=>cases hc
 |own=>cases hc
theorem Pn:∀{cs:List (AC U)}{l:List U.C},plain cs=some l->cs=l.map .c
 |[],l,h=>by cases h;rfl
 | .c x::r,l,h=>by
  simp only[plain] at h
  split at h
  ·rename_i l' hl;cases h;rw[Pn hl];rfl
  ·cases h
 | .e0::r,l,h=>by simp[plain] at h
 | .ref _ _::r,l,h=>by simp[plain] at h
 | .sub _ _ _ _::r,l,h=>by simp[plain] at h
 | .lK _ _ _ _ _::r,l,h=>by simp[plain] at h
 | .kH _ _::r,l,h=>by simp[plain] at h
 | .ia _::r,l,h=>by simp[plain] at h
 | .kn _ _ _::r,l,h=>by simp[plain] at h
theorem Vi(h:cQ E pm F kv fp σ a w){rs:List Key}{want:List (Option U.Ty)}{x:SV U}{v:Value}{ps:List Prop}{d:DV U}{K:List Key}
  (ha:uW (restrict σ.bM rs) σ.aN want x=some (ps,d)) (hp:∀p∈ps,p) (hx:RS E w F kv fp (bR σ) x v) (hK:∀k∈x.keys,(σ.bM k).isSome=true->k∈K):ou E w (FK F fp K) .ro d v []:=by
 unfold uW at ha
 split at ha
 ·rename_i cs
  cases ha
  obtain⟨b,o,h1,h2,h3⟩:=cw (HL hx) rfl
  exact⟨⟨b,o,h1,.inl h2,fun j c hj=>by obtain⟨u,h4,h5⟩:=h3 j c hj;exact⟨u,h4,h5.fZ (fun b hb=> .inl hb)⟩⟩,rfl⟩
 ·rename_i k off
  split at ha
  ·rename_i cs he
   split at ha
   ·rename_i l hl
    cases ha
    have vz:=Pn hl
    obtain⟨b,h1,h2⟩:=cw (HL hx) rfl
    have fo:=kj he
    obtain⟨b',cur,e',g1,g2,g3,g4⟩:=h.dV k _ fo
    rw[h1] at g1
    simp only[Value.pointer.injEq,gJ,Addr.mk.injEq] at g1
    obtain⟨rfl,_,_⟩:=g1
    have hk:k∈K:=hK k (by simp[SV.keys,SV.B7,AC.keys]) (by rw[fo];rfl)
    refine⟨⟨b,off,h2,.inr ⟨k,hk,by rw[g3];exact mF.2 rfl⟩,fun j c hj=> ?_⟩,rfl⟩
    rw[Hu] at hj
    have ug:cs[off+j]? =some (.c c):=by rw[vz,nO,hj];rfl
    obtain⟨u,hu⟩:∃u,cur.toList[off+j]? =some u:=by
     have gZ:off+j<cs.length:=by
      rcases pa (off+j) cs.length with h|h
      ·exact h
      ·rw[ox h] at ug;cases ug
     exact⟨_,fH (by rw[<-g4.1];exact gZ)⟩
    have hd:=g4.2 _ _ u ug hu
    refine⟨u,?_,(cw hd rfl:Rp E w F false _ _ _).fZ (fun b hb=> .inl hb)⟩
    simp only[World.cell?,g2]
    simpa using hu
   ·cases ha
  ·cases ha
 ·rename_i y _
  split at ha
  ·rename_i Kz c hc
   cases ha
   exact⟨(adh h hc hp (HL hx)).fZ (fun b hb=>adt (fun k hk=>hK k (by simpa[SV.keys,SV.B7] using hk)) hb),rfl⟩
  ·cases ha
 ·rename_i cs
  split at ha
  ·rename_i Kz l hl
   cases ha
   obtain⟨vs,h1,h2⟩:=hx
   simp only[if_true] at h2
   obtain⟨g1,g2⟩:=adg h hl hp h1
   exact⟨vs,h2,by rw[g1];exact h1.1.symm,fun i c hc=>(g2 i c hc).fZ (fun b hb=>adt (fun k hk=>hK k (by simpa[SV.keys,SV.B7] using hk)) hb),rfl⟩
  ·cases ha
 ·cases ha
theorem ou.aaf{w w':World}{F F':Nat->Prop}{d:DV U}{v:Value}{l:List Nat}(h:ou E w F .ro d v l)(hF:∀b,F b->F' b/\w'.heap[b]? =w.heap[b]?):ou E w' F' .ro d v l:=by
 cases d with
 |one c=>exact⟨h.1.gx hF (by simp),h.2⟩
 |agg cs=>
  obtain⟨vs,h1,h2,h3,h4⟩:=h
  exact⟨vs,h1,h2,fun i c hc=>(h3 i c hc).gx hF (by simp),h4⟩
 |ptr cs=>
  obtain⟨⟨b,o,h1,h2,h3⟩,h4⟩:=h
  refine⟨⟨b,o,h1,(hF b h2).1,fun j c hj=> ?_⟩,h4⟩
  obtain⟨u,g1,g2⟩:=h3 j c hj
  refine⟨u,?_,g2.gx hF (by simp)⟩
  rw[World.cell?_of_block (w:=w) (a:=⟨b,o+j,none⟩) (hF b h2).2];exact g1
 |box _=>exact h.elim
 |fn p=>exact⟨nN.gx h.1 hF,h.2⟩
theorem RDA.arg{w:World}{F:Nat->Prop}{d:DA U}{v:Value}(h:RDA E w F d v):ou E w F .ro d.dv v []:=by
 obtain⟨g,cs⟩:=d
 obtain⟨vs,h1,h2,h3⟩:=h
 cases g with
 |true=>
  simp only[if_true] at h3
  have e:(DA.mk true cs:DA U).dv=.agg cs:=rfl
  rw[e]
  exact⟨vs,h3,h1,h2,rfl⟩
 |false=>
  simp only[xt,if_false] at h3
  subst h3
  match cs,h1,h2 with
  |[c],h1,h2=>exact⟨h2 0 c rfl,rfl⟩
theorem kw.Vu{w:World}{F:Nat->Prop}:∀{ms:List Mode}{ds:List (DV U)}{vs:List Value},qP ms=true->ms.length=ds.length->ds.length=vs.length->(∀(i:Nat)(d:DV U)(v:Value),ds[i]? =some d->vs[i]? =some v->ou E w F .ro d v [])->
  kw E w F ms ds vs (List.replicate ms.length [])
 |[],[],[],_,_,_,_=>trivial
 |m::ms,d::ds,v::vs,hr,h1,h2,h=>by
  cases m with
  |ro=>exact⟨h 0 d v rfl rfl,kw.Vu (by simpa[qP] using hr) (by simpa using h1) (by simpa using h2) (fun i d v hd hv=>h (i+1) d v (by simpa using hd) (by simpa using hv))⟩
  |wr=>simp[qP] at hr
  |mv=>simp[qP] at hr
  |box _=>simp[qP] at hr
 |[],_::_,_,_,h1,_,_=>by simp at h1
 |_::_,[],_,_,h1,_,_=>by simp at h1
 |[],[],_::_,_,_,h2,_=>by simp at h2
 |_::_,_::_,[],_,_,h2,_=>by simp at h2
theorem alM(h:cQ E pm F kv fp σ a w){rs:List Key}{K:List Key}:∀{xs:List (AV U)}{vs:List Value}{ps:List Prop}{ds:List (DV U)},uT (restrict σ.bM rs) σ.aN xs=some (ps,ds)->(∀p∈ps,p)->xs.length=vs.length->
  (∀(i:Nat)(x:AV U)(u:Value),xs[i]? =some x->vs[i]? =some u->RV E w F kv fp (bR σ) x u)->(∀x∈xs,∀y∈x.cs,∀k∈y.keys,(σ.bM k).isSome=true->k∈K)->
  ds.length=vs.length/\∀(i:Nat)(d:DV U)(v:Value),ds[i]? =some d->vs[i]? =some v->ou E w (FK F fp K) .ro d v []:=by
 intro xs
 induction xs with
 |nil=>
  intro vs ps ds hc hp hl hx hK
  simp only[uT,gJ,pb] at hc
  obtain⟨rfl,rfl⟩:=hc
  exact⟨hl,fun i d v hd=>by simp at hd⟩
 |cons x xs ih=>
  intro vs ps ds hc hp hl hx hK
  cases vs with
  |nil=>simp at hl
  |cons v vs=>
   simp only[uT] at hc
   split at hc
   ·rename_i Un d1 Z8 ds2 h1 h2
    cases hc
    obtain⟨i1,i2⟩:=ih h2 (fun p kP=>hp p (by simp[kP])) (by simpa using hl) (fun i y u hy hu=>hx (i+1) y u (by simpa using hy) (by simpa using hu)) (fun y hy=>hK y (cI _ hy))
    refine⟨by simp[i1],fun i d u hd hu=> ?_⟩
    cases i with
    |zero=>
     simp only[vh,gJ] at hd hu
     subst hd;subst hu
     exact Vi h h1 (fun p kP=>hp p (by simp[kP])) (show RS E w F kv fp (bR σ) (.v x) v from hx 0 x v rfl rfl) (fun k hk=>by
      obtain⟨y,hy,hk⟩:=SV.mem_keys.1 hk
      exact hK x gB y hy k hk)
    |succ i=>exact i2 i d u (by simpa using hd) (by simpa using hu)
   ·cases hc
theorem alI{w:World}{F:Nat->Prop}(Nc:WD E w F){g:FuncId}{k:kz U}{vs:List Value}{ds:List (DV U)}(hf:zp E.P g)(hk:fh E g k)(hr:qP k.md=true)(hl:ds.length=vs.length)
  (hd:∀(i:Nat)(d:DV U)(v:Value),ds[i]? =some d->vs[i]? =some v->ou E w F .ro d v []):nN E w F (gL k ds) (.func (.func g) #[] vs.toArray):=by
 refine⟨g,_,rfl,hf,fun das r hp w' F' hF gZ us wC=> ?_⟩
 unfold gL at hp
 split at hp
 ·rename_i x hof
  split at hp
  ·rename_i v PP aax
   split at hp
   ·rename_i hc
    cases hp
    obtain⟨Gf,Qd⟩:=hc
    have aaB:=k.law _ x hof
    have hlen:(das.map DA.dv++ds).length=(us++vs).length:=by simp[wC.1,hl]
    have pI:=kw.Vu (E:=E) (w:=w') (F:=F') (ms:=k.md) (ds:=das.map DA.dv++ds) (vs:=us++vs) hr (by simp[Gf]) hlen (fun i d u BT hu=>by
     rcases pa i us.length with hi|hi
     ·rw[xx (by simpa[wC.1] using hi)] at BT
      rw[xx hi] at hu
      rw[nO] at BT
      cases hda:das[i]? with
      |none=>rw[hda] at BT;cases BT
      |some da=>rw[hda] at BT;cases BT;exact(wC.2 i da u hda hu).arg
     ·rw[zu (by simpa[wC.1] using hi)] at BT
      rw[zu hi] at hu
      have e:(das.map DA.dv).length=us.length:=by simp[wC.1]
      rw[e] at BT
      exact(hd _ d u BT hu).aaf hF)
    have Gd:(List.replicate k.md.length ([]:List Nat)).flatten=[]:=by simp
    have:=hk x Qd w' F' (us++vs) (List.replicate k.md.length []) gZ (Nc.gx hF) (by rw[aaB];exact pI) (wR hr) (by rw[Gd];exact YZ) (by rw[Gd];simp)
    have e:us.toArray++vs.toArray=(us++vs).toArray:=by simp
    rw[e]
    refine this.mono ?_
    rintro e w'' ⟨Zu,si,ji,rfl,h1,h2,_⟩
    rw[Gd] at h1
    rw[PP] at h2
    cases Zu with
    |nil=>exact h2.elim
    |cons u Zu=>cases si with
     |nil=>exact h2.elim
     |cons l si=>cases Zu with
      |cons _ _=>exact h2.2.elim
      |nil=>
       have h3:=h2.1
       have key:∀(G:Nat->Prop) fresh,lr E w'' G fresh (.one (.lit r)) u l->u=r/\gM r:=by
        intro G fresh h
        cases fresh with
        |true=>exact⟨(Rp.mJ h).2.1,(Rp.mJ h).2.2⟩
        |false=>exact⟨(Rp.mJ h.1).2.1,(Rp.mJ h.1).2.2⟩
       obtain⟨e1,e2⟩:=key _ _ h3
       exact⟨by rw[e1];rfl,e2,h1.mono (by simp)⟩
   ·cases hp
  ·cases hp
 ·cases hp
theorem al1(hC:∀g k,E.Qu g=some k->zp E.P g/\fh E g k)(h:cQ E pm F kv fp σ a w){rs:List Key}{want:List (Option U.Ty)}{x:SV U}{v:Value}{ps:List Prop}{d:DV U}{K:List Key}
  (ha:uX E (restrict σ.bM rs) σ.aN want .ro x=some (ps,d)) (hp:∀p∈ps,p) (hx:RS E w F kv fp (bR σ) x v) (hK:∀k∈x.keys,(σ.bM k).isSome=true->k∈K):ou E w (FK F fp K) .ro d v []:=by
 simp only[uX] at ha
 unfold LU at ha
 split at ha
 ·cases ha
  exact⟨nN.gx hx (fun b hb=>⟨.inl hb,rfl⟩),rfl⟩
 ·rename_i g xs
  split at ha
  ·rename_i k Kz ds hk vz
   rw[iu] at ha
   split at ha
   ·rename_i hc
    simp only[cO] at hc
    cases ha
    obtain⟨vs,rfl,hl,FO⟩:=hx
    obtain⟨h1,h2⟩:=alM (K:=K) h vz hp hl FO (fun y hy z hz k' db=>hK k' (SV.mem_keys.2 ⟨z,ow.2 ⟨y,hy,hz⟩,db⟩))
    exact⟨alI (h.lay.gx fun b hb=>⟨.inl hb,rfl⟩) (hC g k hk).1 (hC g k hk).2 hc.1 h1 h2,rfl⟩
   ·cases ha
  ·cases ha
 ·exact Vi h ha hp hx hK
theorem MN{w:World}{b:Nat}{cur:Array Value}{e:TypeId}(h:w.heap[b]? =some (.cells cur e (0,0)))(n:Nat):sE w (.pointer (some ⟨b,0,none⟩)) n=cur.toList.drop n:=by
 simp only[sE,h]
theorem l8.cons_inv{x:AC U}{xs:List (AC U)}{vs:List Value}(h:l8 E w F kv fp bad (x::xs) vs):∃v wc,vs=v::wc/\RD E w F kv fp bad x v/\l8 E w F kv fp bad xs wc:=by
 cases vs with
 |nil=>have:=h.1;simp at this
 |cons v vs=>exact⟨v,vs,rfl,h.2 0 x v rfl rfl,by have:=h.1;simpa using this,fun i y u hy hu=>h.2 (i+1) y u (by simpa using hy) (by simpa using hu)⟩
theorem l8.cons{x:AC U}{xs:List (AC U)}{v:Value}{vs:List Value}(h:RD E w F kv fp bad x v)(h':l8 E w F kv fp bad xs vs):l8 E w F kv fp bad (x::xs) (v::vs):=by
 refine⟨by simp[h'.1],fun i y u hy hu=> ?_⟩
 cases i with
 |zero=>simp only[vh,gJ] at hy hu;subst hy hu;exact h
 |succ i=>exact h'.2 i y u (by simpa using hy) (by simpa using hu)
theorem fi.rp{y:jh U}{v:Value}{l:List Nat}(h:fi E w F true y v l):Rp E w F true (.sl y.τ y.xs) v l:=by
 obtain⟨τ,xs⟩:=y
 rcases h with⟨h1,⟨ad,rfl⟩,rfl⟩|⟨b,cap,cur,vs,ic,rfl,h2,h3,h4,h5,h6,h7,rfl⟩
 ·simp only at h1
  subst h1
  exact .nil _ _ _ _ (fun _=>rfl)
 ·exact .own τ xs b cap cur vs ic h2 h3 h4 h5 h6 h7
theorem Zx(h:cQ E pm F kv fp σ a w){rs:List Key}:∀{xs:List (AC U)}{vs:List Value}{cs:List U.C}{ks:List Key},jP (restrict σ.bM rs) xs=some (cs,ks)->l8 E w F kv fp (bR σ) xs vs->
  cs.length=xs.length/\(∀k∈ks,(σ.bM k).isSome=true)/\∃fl:List (List Nat),fl.length=cs.length/\(∀(i:Nat)(c:U.C),cs[i]? =some c->Rp E w F true c (vs.getD i undef) (fl.getD i []))/\fl.flatten=ks.flatMap fp
 |[],vs,cs,ks,hw,hx=>by
  simp only[jP,gJ,pb] at hw
  obtain⟨rfl,rfl⟩:=hw
  exact⟨rfl,by simp,[],rfl,fun i c hc=>by simp at hc,rfl⟩
 |x::xs,vs,cs,ks,hw,hx=>by
  obtain⟨v,wc,rfl,h1,h2⟩:=hx.cons_inv
  have put:∀{c:U.C}{vS:List U.C}{ks':List Key}{l:List Nat},Rp E w F true c v l->(vS.length=xs.length/\(∀k∈ks',(σ.bM k).isSome=true)/\∃fl:List (List Nat),fl.length=vS.length/\(∀(i:Nat)(c:U.C),vS[i]? =some c->Rp E w F true c (wc.getD i undef) (fl.getD i []))/\fl.flatten=ks'.flatMap fp)->
    ∃fl:List (List Nat),fl.length=(c::vS).length/\(∀(i:Nat)(c':U.C),(c::vS)[i]? =some c'->Rp E w F true c' ((v::wc).getD i undef) (fl.getD i []))/\fl.flatten=l++ks'.flatMap fp:=by
   rintro c vS ks' l hr ⟨_,_,fl,f1,f2,f3⟩
   refine⟨l::fl,by simp[f1],fun i c' hc=> ?_,by simp[f3]⟩
   cases i with
   |zero=>simp only[vh,gJ] at hc;subst hc;simpa using hr
   |succ i=>simpa using f2 i c' (by simpa using hc)
  unfold jP at hw
  split at hw
  ·rename_i pK;cases pK
  ·rename_i u r pK
   cases pK
   split at hw
   ·rename_i vS ks' hr
    cases hw
    have ih:=Zx h hr h2
    have hl:Rp E w F false _ v []:=cw h1 rfl
    obtain⟨_,hvu,ho⟩:=hl.mJ
    subst hvu
    obtain⟨fl,f1,f2,f3⟩:=put (.lit true _ ho) ih
    exact⟨by simp[ih.1],ih.2.1,fl,f1,f2,by simpa using f3⟩
   ·cases hw
  ·rename_i k r pK
   cases pK
   split at hw
   ·rename_i y vS ks' he hr
    cases hw
    have ih:=Zx h hr h2
    have fo:=kj he
    have hv:v=kv k:=cw h1 rfl
    have ho:fi E w F true y (kv k) (fp k):=h.dV k _ fo
    obtain⟨fl,f1,f2,f3⟩:=put (c:=.sl y.τ y.xs) (by rw[hv];exact ho.rp) ih
    exact⟨by simp[ih.1],fun k' db=>by
     rcases kf.1 db with rfl|db
     ·rw[fo];rfl
     ·exact ih.2.1 k' db,fl,f1,f2,by simpa using f3⟩
   ·cases hw
  ·cases hw
end AM
