import Derived.Test.YtnndcpncmmcaaaaGreatQAmOps8
namespace AM
set_option linter.unusedVariables false
open Go
variable{U:jO}
def rA(w:World)(v:Value)(n:Nat):List Value:=match v with
 | .pointer (some a)=>match w.heap[a.block]? with
  |some (.cells cur _ _)=>cur.toList.drop n
  |_=>[]
 |_=>[]
section
variable(E:Env U)(w:World)(F:Nat->Prop)
def rf(own:Bool)(cs:List U.C)(rest:List Value)(v:Value)(l:List Nat):Prop:=
 ∃(b:Nat)(cur:Array Value)(e:TypeId)(fl:List (List Nat)),v=.pointer (some ⟨b,0,none⟩)/\w.heap[b]? =some (.cells cur e (0,0))/\cs.length<=cur.size/\cur.toList.drop cs.length=rest/\(∀u∈rest,fu u)/\
  fl.length=cs.length/\(∀(i:Nat)(c:U.C),cs[i]? =some c->Rp E w F own c (cur.toList.getD i undef) (fl.getD i []))/\l=b::fl.flatten
def lH(cs:List U.C)(v:Value)(l:List Nat):Prop:=
 ∃(vs:List Value)(fl:List (List Nat)),v=.agg vs.toArray/\vs.length=cs.length/\fl.length=cs.length/\(∀(i:Nat)(c:U.C),cs[i]? =some c->Rp E w F true c (vs.getD i undef) (fl.getD i []))/\l=fl.flatten
def mN:Mode->DV U->Value->List Nat->Prop
 | .ro,.one c,v,l=>Rp E w F false c v []/\l=[]
 | .ro,.agg cs,v,l=>∃vs:List Value,v=.agg vs.toArray/\vs.length=cs.length/\(∀(i:Nat)(c:U.C),cs[i]? =some c->Rp E w F false c (vs.getD i undef) [])/\l=[]
 | .ro,.ptr cs,v,l=>(∃b o,v=.pointer (some ⟨b,o,none⟩)/\F b/\∀(j:Nat)(c:U.C),cs[j]? =some c->∃u,w.cell? ⟨b,o+j,none⟩=some u/\Rp E w F false c u [])/\l=[]
 | .ro,.fn p,v,l=>mC E w F p v/\l=[]
 | .wr,.one (.sl τ xs),v,l=>cF E w F true ⟨τ,xs⟩ v l
 | .wr,.agg cs,v,l=>lH E w F cs v l
 | .mv,.one c,v,l=>Rp E w F true c v l
 | .mv,.agg cs,v,l=>lH E w F cs v l
 | .box own,.box cs,v,l=>rf E w F own cs (rA w v cs.length) v l
 |_,_,_,_=>False
def iN:List Mode->List (DV U)->List Value->List (List Nat)->Prop
 |[],[],[],[]=>True
 |m::ms,d::ds,v::vs,l::ls=>mN E w F m d v l/\iN ms ds vs ls
 |_,_,_,_=>False
def kp(fresh:Bool):DV U->Value->List Nat->Prop
 | .one c,v,l=>if fresh then Rp E w F true c v l else Rp E w F false c v []/\l=[]
 | .agg cs,v,l=>if fresh then lH E w F cs v l
   else∃vs:List Value,v=.agg vs.toArray/\vs.length=cs.length/\(∀(i:Nat)(c:U.C),cs[i]? =some c->Rp E w F false c (vs.getD i undef) [])/\l=[]
 | .box cs,v,l=>fresh=true/\∃b cur e,v=.pointer (some ⟨b,0,none⟩)/\w.heap[b]? =some (.cells cur e (0,0))/\l=[b]/\cur.size=cs.length/\∀(i:Nat)(c:U.C),cs[i]? =some c->Rp E w F false c (cur.toList.getD i undef) []
 | .ptr _,_,_=>False
 | .fn _,_,_=>False
def lG:List Bool->List (DV U)->List Value->List (List Nat)->Prop
 |_,[],[],[]=>True
 |fs,d::ds,v::vs,l::ls=>kp E w F (fs.headD true) d v l/\lG fs.tail ds vs ls
 |_,_,_,_=>False
def e_(w0:World):List Mode->List Value->List (DV U)->List (List Nat)->Prop
 |[],[],[],[]=>True
 | .ro::ms,_::vs,ds,ls=>e_ w0 ms vs ds ls
 | .mv::ms,_::vs,ds,ls=>e_ w0 ms vs ds ls
 | .wr::ms,v::vs,.one (.sl τ ys)::ds,l::ls=>cF E w F true ⟨τ,ys⟩ v l/\e_ w0 ms vs ds ls
 | .wr::ms,v::vs,.agg cs::ds,l::ls=>lH E w F cs v l/\e_ w0 ms vs ds ls
 | .box own::ms,v::vs,.box cs::ds,l::ls=>rf E w F own cs (rA w0 v cs.length) v l/\e_ w0 ms vs ds ls
 |_,_,_,_=>False
end
def MO:List Value->Value
 |[v]=>v
 |vs=> .tuple vs.toArray
def rI(F:Nat->Prop)(w w':World)(own ae3:List Nat)(b:Nat):Prop:=F b\/((w.heap.size<=b\/b∈ae3)/\b<w'.heap.size/\b∉own)
def sH(w:World)(n:Nat):List Mode->List (DV U)->List Value->Prop
 |m::ms,d::ds,v::vs=>(∀own cs,m=.box own->d=.box cs->(rA w v cs.length).length=n)/\sH w n ms ds vs
 |_,_,_=>True
theorem oK{w:World}{n:Nat}:∀{ms:List Mode}{ds:List (DV U)}{vs:List Value},p8 ms=true->sH w n ms ds vs
 |[],_,_,_=>trivial
 |_::_,[],_,_=>trivial
 |_::_,_::_,[],_=>trivial
 |m::ms,d::ds,v::vs,h=>by
  cases m with
  |ro=>exact⟨fun own cs hm=>(by cases hm),oK (by simpa[p8] using h)⟩
  |wr=>simp[p8] at h
  |mv=>simp[p8] at h
  |box _=>simp[p8] at h
def eL(E:Env U)(f:FuncId)(k:kq U):Prop:=
 ∀x:k.α,(∀p∈k.pre x,p)->∀(w:World)(F:Nat->Prop)(vs:List Value)(ls:List (List Nat)),(∀b,F b->b<w.heap.size)->Lj E w F->iN E w F k.md (k.ds x) vs ls->sH w k.LA k.md (k.ds x) vs->ls.flatten.Nodup->
  (∀b∈ls.flatten,b<w.heap.size/\¬F b)->
  Calls E.P f vs.toArray w fun e w'=>∃(us:List Value)(oi gS:List (List Nat)),e=.returned (MO us)/\fm (·∈ls.flatten) w w'/\
   lG E w' (rI F w w' (oi.flatten++gS.flatten) ls.flatten) (k.ot x).fresh (k.ot x).val us oi/\
   e_ E w' (rI F w w' (oi.flatten++gS.flatten) ls.flatten) w k.md vs (k.ot x).Kz gS/\
   (oi.flatten++gS.flatten).Nodup/\(∀b∈oi.flatten,(b∈ls.flatten\/w.heap.size<=b)/\b<w'.heap.size)/\(∀b∈gS.flatten,b∈ls.flatten\/(w.heap.size<=b/\b<w'.heap.size))
variable{E:Env U}{pm:Pm}
variable{F F':Nat->Prop}{kv:Key->Value}{fp:Key->List Nat}{σ:ah U}{a:Act}{w w':World}{bad:Key->Bool}
theorem xB(h:cd E pm F kv fp σ a w){rs:List Key}{x:AC U}{v:Value}{ps:List Prop}{b:fK U}
  (ha:p7 (restrict σ.aU rs) σ.ay x=some (ps,b)) (hp:∀p∈ps,p) (hx:RD E w F kv fp (aZ σ) x v):
  Rp E w (FK F fp (x.keys.filter fun k=>(σ.aU k).isSome)) false (.sl b.τ b.xs) v []:=by
 have ao8:∀(k:Key)(y:eX U),restrict σ.aU rs k=some y->k∈x.keys->∀b,(F b\/b∈fp k)->FK F fp (x.keys.filter fun k=>(σ.aU k).isSome) b:=by
  intro k y he hk b hb
  rcases hb with hb|hb
  ·exact .inl hb
  ·exact .inr ⟨k,CD.2 ⟨hk,by simp[fA he]⟩,hb⟩
 have key:∀(k:Key)(y:fK U)(d:Bool),restrict σ.aU rs k=some (.arr y d)->k∈x.keys->∀b,(F b\/b∈fp k)->FK F fp (x.keys.filter fun k=>(σ.aU k).isSome) b:=by
  intro k y d he hk b hb
  rcases hb with hb|hb
  ·exact .inl hb
  ·exact .inr ⟨k,CD.2 ⟨hk,by simp[fA he]⟩,hb⟩
 unfold p7 at ha
 split at ha
 ·cases ha
  exact(bG hx rfl:Rp E w F false _ _ _).fe (fun b hb=> .inl hb)
 ·cases ha
  exact(bG hx rfl).1.fe (fun b hb=> .inl hb)
 ·rename_i k p
  split at ha
  ·rename_i y d he
   cases fa:eg (restrict σ.aU rs) σ.ay k p<;>simp only[fa,cond_false,cond_true] at ha
   ·cases ha
   ·have hn:=bG hx (y4 fa he)
    obtain⟨v',h1,h2⟩:=(MX h (fA he)).Vy ha hp
    have:v=v':=hn.unique h1
    subst this
    exact h2.fe (key k y d he (by simp[AC.keys]))
  ·rename_i y he
   cases fa:eg (restrict σ.aU rs) σ.ay k p<;>simp only[fa,cond_false,cond_true] at ha
   ·cases ha
   ·have hn:=bG hx (y4 fa he)
    obtain⟨v',h1,h2⟩:=(ZU h (fA he)).Vy ha hp
    have:v=v':=hn.unique h1
    subst this
    exact h2.fe (ao8 k _ he (by simp[AC.keys]))
  ·cases ha
 ·rename_i k wd lo hi
  split at ha
  ·rename_i y d he
   cases hw:Nat.beq wd (U.wd y.τ)<;>simp only[hw,cond_false,cond_true] at ha
   ·cases ha
   ·cases ha
    have mH:=jp hw
    subst mH
    obtain⟨h1,h2⟩:=bG hx rfl
    subst h1
    exact((MX h (fA he)).sub h2 (hp _ (by simp))).fe (key k y d he (by simp[AC.keys]))
  ·cases ha
 ·cases ha
theorem aoS(h:cd E pm F kv fp σ a w){rs:List Key}{x:AC U}{v:Value}{ps:List Prop}{b:fK U}
  (ha:zv (restrict σ.aU rs) σ.ay x=some (ps,b)) (hp:∀p∈ps,p) (hx:RD E w F kv fp (aZ σ) x v):
  Rp E w (FK F fp (x.keys.filter fun k=>(σ.aU k).isSome)) false (.sl b.τ b.xs) v []:=by
 unfold zv at ha
 split at ha
 rotate_left
 ·cases ha
 rename_i k i wd j p
 split at ha
 rotate_left
 ·cases ha
 rename_i y dead he
 cases fa:eg (restrict σ.aU rs) σ.ay k ((i,wd,j)::p)<;>simp only[fa,cond_false,cond_true] at ha
 ·cases ha
 split at ha
 rotate_left
 ·cases ha
 rename_i HV b' hw
 cases ha
 have dr:=fA he
 have hn:=bG hx (y4 fa he)
 obtain⟨v',h1,h2⟩:=cM.Vy (h.cT k _ dr) hw (fun q hq=>hp q (by simp[hq])) (hp _ (by simp))
 have:v=v':=hn.unique h1
 subst this
 refine h2.fe fun b hb=> ?_
 rcases hb with hb|hb
 ·exact .inl hb
 ·exact .inr ⟨k,CD.2 ⟨by simp[AC.keys],by simp[dr]⟩,hb⟩
theorem ad6(h:cd E pm F kv fp σ a w){rs:List Key}{want:Option U.Ty}{x:AC U}{v:Value}{ps:List Prop}{c:U.C}
  (hc:cellOf (restrict σ.aU rs) σ.ay want x=some (ps,c)) (hp:∀p∈ps,p) (hx:RD E w F kv fp (aZ σ) x v):Rp E w (FK F fp (x.keys.filter fun k=>(σ.aU k).isSome)) false c v []:=by
 unfold cellOf at hc
 split at hc
 ·cases hc
  exact(bG hx rfl:Rp E w F false _ _ _).fe (fun b hb=> .inl hb)
 ·split at hc
  ·cases hc
   obtain⟨ad,h1⟩:=bG hx rfl
   subst h1
   exact .nil _ _ _ _ (by simp)
  ·cases hc
 ·split at hc
  ·rename_i HV b ha
   cases hc
   exact xB h ha hp hx
  ·split at hc
   ·rename_i HV b ha
    cases hc
    exact aoS h ha hp hx
   ·cases hc
theorem ad5(h:cd E pm F kv fp σ a w){rs:List Key}:∀{xs:List (AC U)}{want:List (Option U.Ty)}{vs:List Value}{ps:List Prop}{cs:List U.C},
  cellsOf (restrict σ.aU rs) σ.ay want xs=some (ps,cs)->(∀p∈ps,p)->kS E w F kv fp (aZ σ) xs vs->
  cs.length=xs.length/\∀(i:Nat)(c:U.C),cs[i]? =some c->Rp E w (FK F fp ((xs.flatMap AC.keys).filter fun k=>(σ.aU k).isSome)) false c (vs.getD i undef) []:=by
 intro xs
 induction xs with
 |nil=>
  intro want vs ps cs hc hp hx
  simp only[cellsOf,eZ,kG] at hc
  obtain⟨rfl,rfl⟩:=hc
  exact⟨rfl,fun i c hc=>by simp at hc⟩
 |cons x xs ih=>
  intro want vs ps cs hc hp hx
  simp only[cellsOf] at hc
  split at hc
  ·rename_i Rv c1 ps2 cs2 h1 h2
   cases hc
   cases vs with
   |nil=>have:=hx.1;simp at this
   |cons v vs=>
    have hx1:RD E w F kv fp (aZ σ) x v:=hx.2 0 x v rfl rfl
    have hx2:kS E w F kv fp (aZ σ) xs vs:=⟨by have:=hx.1;simpa using this,fun i y u hy hu=>hx.2 (i+1) y u (by simpa using hy) (by simpa using hu)⟩
    have g1:=ad6 h h1 (fun p jf=>hp p (by simp[jf])) hx1
    obtain⟨i1,i2⟩:=ih h2 (fun p jf=>hp p (by simp[jf])) hx2
    refine⟨by simp[i1],fun i c hc=> ?_⟩
    cases i with
    |zero=>
     simp only[sT,eZ] at hc;subst hc
     exact g1.fe (fun b hb=>Ga (fun k hk=>by
      rw[CD] at hk⊢
      exact⟨by rw[tV];exact oE _ hk.1,hk.2⟩) hb)
    |succ i=>exact(i2 i c (by simpa using hc)).fe (fun b hb=>Ga (fun k hk=>by
      rw[CD] at hk⊢
      exact⟨by rw[tV];exact pA _ hk.1,hk.2⟩) hb)
  ·cases hc
theorem aej{ks K:List Key}(hK:∀k∈ks,(σ.aU k).isSome=true->k∈K){b:Nat}:FK F fp (ks.filter fun k=>(σ.aU k).isSome) b->FK F fp K b:=
 Ga (fun k hk=>by rw[CD] at hk;exact hK k hk.1 hk.2)
theorem Rp.kL{m:Bool}{u v:Value}{l:List Nat}(h:Rp E w F m (.lit u) v l):l=[]/\v=u/\fu u:=by
 generalize hc:(Cell.lit u:U.C)=c at h
 cases h with
 |lit _ _ ho=>cases hc;exact⟨rfl,rfl,ho⟩
 |nil=>cases hc
 |shr=>cases hc
 |own=>cases hc
theorem MU:∀{cs:List (AC U)}{l:List U.C},plain cs=some l->cs=l.map .c
 |[],l,h=>by cases h;rfl
 | .c x::r,l,h=>by
  simp only[plain] at h
  split at h
  ·rename_i l' hl;cases h;rw[MU hl];rfl
  ·cases h
 | .e0::r,l,h=>by simp[plain] at h
 | .ref _ _::r,l,h=>by simp[plain] at h
 | .sub _ _ _ _::r,l,h=>by simp[plain] at h
 | .iC _ _ _ _ _::r,l,h=>by simp[plain] at h
 | .ji _ _::r,l,h=>by simp[plain] at h
 | .ia _::r,l,h=>by simp[plain] at h
 | .kn _ _ _::r,l,h=>by simp[plain] at h
theorem Sl(h:cd E pm F kv fp σ a w){rs:List Key}{want:List (Option U.Ty)}{x:SV U}{v:Value}{ps:List Prop}{d:DV U}{K:List Key}
  (ha:tM (restrict σ.aU rs) σ.ay want x=some (ps,d)) (hp:∀p∈ps,p) (hx:RS E w F kv fp (aZ σ) x v) (hK:∀k∈x.keys,(σ.aU k).isSome=true->k∈K):mN E w (FK F fp K) .ro d v []:=by
 unfold tM at ha
 split at ha
 ·rename_i cs
  cases ha
  obtain⟨b,o,h1,h2,h3⟩:=bG (F_ hx) rfl
  exact⟨⟨b,o,h1,.inl h2,fun j c hj=>by obtain⟨u,h4,h5⟩:=h3 j c hj;exact⟨u,h4,h5.fe (fun b hb=> .inl hb)⟩⟩,rfl⟩
 ·rename_i k off
  split at ha
  ·rename_i cs he
   split at ha
   ·rename_i l hl
    cases ha
    have lh:=MU hl
    obtain⟨b,h1,h2⟩:=bG (F_ hx) rfl
    have dr:=fA he
    obtain⟨b',cur,e',g1,g2,g3,g4⟩:=h.cT k _ dr
    rw[h1] at g1
    simp only[Value.pointer.injEq,eZ,Addr.mk.injEq] at g1
    obtain⟨rfl,_,_⟩:=g1
    have hk:k∈K:=hK k (by simp[SV.keys,SV.xE,AC.keys]) (by rw[dr];rfl)
    refine⟨⟨b,off,h2,.inr ⟨k,hk,by rw[g3];exact g_.2 rfl⟩,fun j c hj=> ?_⟩,rfl⟩
    rw[Eo] at hj
    have pg:cs[off+j]? =some (.c c):=by rw[lh,mE,hj];rfl
    obtain⟨u,hu⟩:∃u,cur.toList[off+j]? =some u:=by
     have fx:off+j<cs.length:=by
      rcases lR (off+j) cs.length with h|h
      ·exact h
      ·rw[lU h] at pg;cases pg
     exact⟨_,gr (by rw[<-g4.1];exact fx)⟩
    have hd:=g4.2 _ _ u pg hu
    refine⟨u,?_,(bG hd rfl:Rp E w F false _ _ _).fe (fun b hb=> .inl hb)⟩
    simp only[World.cell?,g2]
    simpa using hu
   ·cases ha
  ·cases ha
 ·rename_i y _
  split at ha
  ·rename_i HV c hc
   cases ha
   exact⟨(ad6 h hc hp (F_ hx)).fe (fun b hb=>aej (fun k hk=>hK k (by simpa[SV.keys,SV.xE] using hk)) hb),rfl⟩
  ·cases ha
 ·rename_i cs
  split at ha
  ·rename_i HV l hl
   cases ha
   obtain⟨vs,h1,h2⟩:=hx
   simp only[if_true] at h2
   obtain⟨g1,g2⟩:=ad5 h hl hp h1
   exact⟨vs,h2,by rw[g1];exact h1.1.symm,fun i c hc=>(g2 i c hc).fe (fun b hb=>aej (fun k hk=>hK k (by simpa[SV.keys,SV.xE] using hk)) hb),rfl⟩
  ·cases ha
 ·cases ha
theorem mN.aan{w w':World}{F F':Nat->Prop}{d:DV U}{v:Value}{l:List Nat}(h:mN E w F .ro d v l)(hF:∀b,F b->F' b/\w'.heap[b]? =w.heap[b]?):mN E w' F' .ro d v l:=by
 cases d with
 |one c=>exact⟨h.1.cI hF (by simp),h.2⟩
 |agg cs=>
  obtain⟨vs,h1,h2,h3,h4⟩:=h
  exact⟨vs,h1,h2,fun i c hc=>(h3 i c hc).cI hF (by simp),h4⟩
 |ptr cs=>
  obtain⟨⟨b,o,h1,h2,h3⟩,h4⟩:=h
  refine⟨⟨b,o,h1,(hF b h2).1,fun j c hj=> ?_⟩,h4⟩
  obtain⟨u,g1,g2⟩:=h3 j c hj
  refine⟨u,?_,g2.cI hF (by simp)⟩
  rw[World.cell?_of_block (w:=w) (a:=⟨b,o+j,none⟩) (hF b h2).2];exact g1
 |box _=>exact h.elim
 |fn p=>exact⟨mC.cI h.1 hF,h.2⟩
theorem RDA.arg{w:World}{F:Nat->Prop}{d:DA U}{v:Value}(h:RDA E w F d v):mN E w F .ro d.dv v []:=by
 obtain⟨g,cs⟩:=d
 obtain⟨vs,h1,h2,h3⟩:=h
 cases g with
 |true=>
  simp only[if_true] at h3
  have e:(DA.mk true cs:DA U).dv=.agg cs:=rfl
  rw[e]
  exact⟨vs,h3,h1,h2,rfl⟩
 |false=>
  simp only[yN,if_false] at h3
  subst h3
  match cs,h1,h2 with
  |[c],h1,h2=>exact⟨h2 0 c rfl,rfl⟩
theorem iN.SX{w:World}{F:Nat->Prop}:∀{ms:List Mode}{ds:List (DV U)}{vs:List Value},p8 ms=true->ms.length=ds.length->ds.length=vs.length->(∀(i:Nat)(d:DV U)(v:Value),ds[i]? =some d->vs[i]? =some v->mN E w F .ro d v [])->
  iN E w F ms ds vs (List.replicate ms.length [])
 |[],[],[],_,_,_,_=>trivial
 |m::ms,d::ds,v::vs,hr,h1,h2,h=>by
  cases m with
  |ro=>exact⟨h 0 d v rfl rfl,iN.SX (by simpa[p8] using hr) (by simpa using h1) (by simpa using h2) (fun i d v hd hv=>h (i+1) d v (by simpa using hd) (by simpa using hv))⟩
  |wr=>simp[p8] at hr
  |mv=>simp[p8] at hr
  |box _=>simp[p8] at hr
 |[],_::_,_,_,h1,_,_=>by simp at h1
 |_::_,[],_,_,h1,_,_=>by simp at h1
 |[],[],_::_,_,_,h2,_=>by simp at h2
 |_::_,_::_,[],_,_,h2,_=>by simp at h2
theorem aoG(h:cd E pm F kv fp σ a w){rs:List Key}{K:List Key}:∀{xs:List (AV U)}{vs:List Value}{ps:List Prop}{ds:List (DV U)},tL (restrict σ.aU rs) σ.ay xs=some (ps,ds)->(∀p∈ps,p)->xs.length=vs.length->
  (∀(i:Nat)(x:AV U)(u:Value),xs[i]? =some x->vs[i]? =some u->RV E w F kv fp (aZ σ) x u)->(∀x∈xs,∀y∈x.cs,∀k∈y.keys,(σ.aU k).isSome=true->k∈K)->
  ds.length=vs.length/\∀(i:Nat)(d:DV U)(v:Value),ds[i]? =some d->vs[i]? =some v->mN E w (FK F fp K) .ro d v []:=by
 intro xs
 induction xs with
 |nil=>
  intro vs ps ds hc hp hl hx hK
  simp only[tL,eZ,kG] at hc
  obtain⟨rfl,rfl⟩:=hc
  exact⟨hl,fun i d v hd=>by simp at hd⟩
 |cons x xs ih=>
  intro vs ps ds hc hp hl hx hK
  cases vs with
  |nil=>simp at hl
  |cons v vs=>
   simp only[tL] at hc
   split at hc
   ·rename_i Rv d1 ps2 ds2 h1 h2
    cases hc
    obtain⟨i1,i2⟩:=ih h2 (fun p jf=>hp p (by simp[jf])) (by simpa using hl) (fun i y u hy hu=>hx (i+1) y u (by simpa using hy) (by simpa using hu)) (fun y hy=>hK y (aJ _ hy))
    refine⟨by simp[i1],fun i d u hd hu=> ?_⟩
    cases i with
    |zero=>
     simp only[sT,eZ] at hd hu
     subst hd;subst hu
     exact Sl h h1 (fun p jf=>hp p (by simp[jf])) (show RS E w F kv fp (aZ σ) (.v x) v from hx 0 x v rfl rfl) (fun k hk=>by
      obtain⟨y,hy,hk⟩:=SV.mem_keys.1 hk
      exact hK x cH y hy k hk)
    |succ i=>exact i2 i d u (by simpa using hd) (by simpa using hu)
   ·cases hc
theorem aoA{w:World}{F:Nat->Prop}(tw:Lj E w F){g:FuncId}{k:kq U}{vs:List Value}{ds:List (DV U)}(hf:u7 E.P g)(hk:eL E g k)(hr:p8 k.md=true)(hl:ds.length=vs.length)
  (hd:∀(i:Nat)(d:DV U)(v:Value),ds[i]? =some d->vs[i]? =some v->mN E w F .ro d v []):mC E w F (dK k ds) (.func (.func g) #[] vs.toArray):=by
 refine⟨g,_,rfl,hf,fun das r hp w' F' hF fx us sO=> ?_⟩
 unfold dK at hp
 split at hp
 ·rename_i x hof
  split at hp
  ·rename_i v Gs aaG
   split at hp
   ·rename_i hc
    cases hp
    obtain⟨yL,Fg⟩:=hc
    have aaI:=k.law _ x hof
    have hlen:(das.map DA.dv++ds).length=(us++vs).length:=by simp[sO.1,hl]
    have oZ:=iN.SX (E:=E) (w:=w') (F:=F') (ms:=k.md) (ds:=das.map DA.dv++ds) (vs:=us++vs) hr (by simp[yL]) hlen (fun i d u wo hu=>by
     rcases lR i us.length with hi|hi
     ·rw[u_ (by simpa[sO.1] using hi)] at wo
      rw[u_ hi] at hu
      rw[mE] at wo
      cases hda:das[i]? with
      |none=>rw[hda] at wo;cases wo
      |some da=>rw[hda] at wo;cases wo;exact(sO.2 i da u hda hu).arg
     ·rw[va (by simpa[sO.1] using hi)] at wo
      rw[va hi] at hu
      have e:(das.map DA.dv).length=us.length:=by simp[sO.1]
      rw[e] at wo
      exact(hd _ d u wo hu).aan hF)
    have Ek:(List.replicate k.md.length ([]:List Nat)).flatten=[]:=by simp
    have:=hk x Fg w' F' (us++vs) (List.replicate k.md.length []) fx (tw.cI hF) (by rw[aaI];exact oZ) (oK hr) (by rw[Ek];exact MH) (by rw[Ek];simp)
    have e:us.toArray++vs.toArray=(us++vs).toArray:=by simp
    rw[e]
    refine this.mono ?_
    rintro e w'' ⟨Zp,oi,gS,rfl,h1,h2,_⟩
    rw[Ek] at h1
    rw[Gs] at h2
    cases Zp with
    |nil=>exact h2.elim
    |cons u Zp=>cases oi with
     |nil=>exact h2.elim
     |cons l oi=>cases Zp with
      |cons _ _=>exact h2.2.elim
      |nil=>
       have h3:=h2.1
       have key:∀(G:Nat->Prop) fresh,kp E w'' G fresh (.one (.lit r)) u l->u=r/\fu r:=by
        intro G fresh h
        cases fresh with
        |true=>exact⟨(Rp.kL h).2.1,(Rp.kL h).2.2⟩
        |false=>exact⟨(Rp.kL h.1).2.1,(Rp.kL h.1).2.2⟩
       obtain⟨e1,e2⟩:=key _ _ h3
       exact⟨by rw[e1];rfl,e2,h1.mono (by simp)⟩
   ·cases hp
  ·cases hp
 ·cases hp
theorem aoW(hC:∀g k,E.NU g=some k->u7 E.P g/\eL E g k)(h:cd E pm F kv fp σ a w){rs:List Key}{want:List (Option U.Ty)}{x:SV U}{v:Value}{ps:List Prop}{d:DV U}{K:List Key}
  (ha:tN E (restrict σ.aU rs) σ.ay want .ro x=some (ps,d)) (hp:∀p∈ps,p) (hx:RS E w F kv fp (aZ σ) x v) (hK:∀k∈x.keys,(σ.aU k).isSome=true->k∈K):mN E w (FK F fp K) .ro d v []:=by
 simp only[tN] at ha
 unfold JJ at ha
 split at ha
 ·cases ha
  exact⟨mC.cI hx (fun b hb=>⟨.inl hb,rfl⟩),rfl⟩
 ·rename_i g xs
  split at ha
  ·rename_i k HV ds hk lh
   rw[fc] at ha
   split at ha
   ·rename_i hc
    simp only[fY] at hc
    cases ha
    obtain⟨vs,rfl,hl,HX⟩:=hx
    obtain⟨h1,h2⟩:=aoG (K:=K) h lh hp hl HX (fun y hy z hz k' bp=>hK k' (SV.mem_keys.2 ⟨z,ln.2 ⟨y,hy,hz⟩,bp⟩))
    exact⟨aoA (h.lay.cI fun b hb=>⟨.inl hb,rfl⟩) (hC g k hk).1 (hC g k hk).2 hc.1 h1 h2,rfl⟩
   ·cases ha
  ·cases ha
 ·exact Sl h ha hp hx hK
theorem Kk{w:World}{b:Nat}{cur:Array Value}{e:TypeId}(h:w.heap[b]? =some (.cells cur e (0,0)))(n:Nat):rA w (.pointer (some ⟨b,0,none⟩)) n=cur.toList.drop n:=by
 simp only[rA,h]
theorem kS.cons_inv{x:AC U}{xs:List (AC U)}{vs:List Value}(h:kS E w F kv fp bad (x::xs) vs):∃v rm,vs=v::rm/\RD E w F kv fp bad x v/\kS E w F kv fp bad xs rm:=by
 cases vs with
 |nil=>have:=h.1;simp at this
 |cons v vs=>exact⟨v,vs,rfl,h.2 0 x v rfl rfl,by have:=h.1;simpa using this,fun i y u hy hu=>h.2 (i+1) y u (by simpa using hy) (by simpa using hu)⟩
theorem kS.cons{x:AC U}{xs:List (AC U)}{v:Value}{vs:List Value}(h:RD E w F kv fp bad x v)(h':kS E w F kv fp bad xs vs):kS E w F kv fp bad (x::xs) (v::vs):=by
 refine⟨by simp[h'.1],fun i y u hy hu=> ?_⟩
 cases i with
 |zero=>simp only[sT,eZ] at hy hu;subst hy hu;exact h
 |succ i=>exact h'.2 i y u (by simpa using hy) (by simpa using hu)
theorem cF.rp{y:fK U}{v:Value}{l:List Nat}(h:cF E w F true y v l):Rp E w F true (.sl y.τ y.xs) v l:=by
 obtain⟨τ,xs⟩:=y
 rcases h with⟨h1,⟨ad,rfl⟩,rfl⟩|⟨b,cap,cur,vs,dH,rfl,h2,h3,h4,h5,h6,h7,rfl⟩
 ·simp only at h1
  subst h1
  exact .nil _ _ _ _ (fun _=>rfl)
 ·exact .own τ xs b cap cur vs dH h2 h3 h4 h5 h6 h7
theorem Zw(h:cd E pm F kv fp σ a w){rs:List Key}:∀{xs:List (AC U)}{vs:List Value}{cs:List U.C}{ks:List Key},iP (restrict σ.aU rs) xs=some (cs,ks)->kS E w F kv fp (aZ σ) xs vs->
  cs.length=xs.length/\(∀k∈ks,(σ.aU k).isSome=true)/\∃fl:List (List Nat),fl.length=cs.length/\(∀(i:Nat)(c:U.C),cs[i]? =some c->Rp E w F true c (vs.getD i undef) (fl.getD i []))/\fl.flatten=ks.flatMap fp
 |[],vs,cs,ks,hw,hx=>by
  simp only[iP,eZ,kG] at hw
  obtain⟨rfl,rfl⟩:=hw
  exact⟨rfl,by simp,[],rfl,fun i c hc=>by simp at hc,rfl⟩
 |x::xs,vs,cs,ks,hw,hx=>by
  obtain⟨v,rm,rfl,h1,h2⟩:=hx.cons_inv
  have put:∀{c:U.C}{uJ:List U.C}{ks':List Key}{l:List Nat},Rp E w F true c v l->(uJ.length=xs.length/\(∀k∈ks',(σ.aU k).isSome=true)/\∃fl:List (List Nat),fl.length=uJ.length/\(∀(i:Nat)(c:U.C),uJ[i]? =some c->Rp E w F true c (rm.getD i undef) (fl.getD i []))/\fl.flatten=ks'.flatMap fp)->
    ∃fl:List (List Nat),fl.length=(c::uJ).length/\(∀(i:Nat)(c':U.C),(c::uJ)[i]? =some c'->Rp E w F true c' ((v::rm).getD i undef) (fl.getD i []))/\fl.flatten=l++ks'.flatMap fp:=by
   rintro c uJ ks' l hr ⟨_,_,fl,f1,f2,f3⟩
   refine⟨l::fl,by simp[f1],fun i c' hc=> ?_,by simp[f3]⟩
   cases i with
   |zero=>simp only[sT,eZ] at hc;subst hc;simpa using hr
   |succ i=>simpa using f2 i c' (by simpa using hc)
  unfold iP at hw
  split at hw
  ·rename_i ph;cases ph
  ·rename_i u r ph
   cases ph
   split at hw
   ·rename_i uJ ks' hr
    cases hw
    have ih:=Zw h hr h2
    have hl:Rp E w F false _ v []:=bG h1 rfl
    obtain⟨_,hvu,ho⟩:=hl.kL
    subst hvu
    obtain⟨fl,f1,f2,f3⟩:=put (.lit true _ ho) ih
    exact⟨by simp[ih.1],ih.2.1,fl,f1,f2,by simpa using f3⟩
   ·cases hw
  ·rename_i k r ph
   cases ph
   split at hw
   ·rename_i y uJ ks' he hr
    cases hw
    have ih:=Zw h hr h2
    have dr:=fA he
    have hv:v=kv k:=bG h1 rfl
    have ho:cF E w F true y (kv k) (fp k):=h.cT k _ dr
    obtain⟨fl,f1,f2,f3⟩:=put (c:=.sl y.τ y.xs) (by rw[hv];exact ho.rp) ih
    exact⟨by simp[ih.1],fun k' bp=>by
     rcases h_.1 bp with rfl|bp
     ·rw[dr];rfl
     ·exact ih.2.1 k' bp,fl,f1,f2,by simpa using f3⟩
   ·cases hw
  ·cases hw
end AM
