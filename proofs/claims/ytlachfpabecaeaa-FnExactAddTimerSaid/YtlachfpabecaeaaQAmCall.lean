/- THE ABSTRACT MACHINE: what a contract says; a call by a contract. -/
import Derived.Test.YtlachfpabecaeaaQAmOps8
namespace AM
set_option linter.unusedVariables false
open Go
variable{U:dh}
def gp(w:World)(v:Value)(n:Nat):List Value:=match v with
 | .pointer (some a)=>match w.heap[a.block]? with
  |some (.cells cur _ _)=>cur.toList.drop n
  |_=>[]
 |_=>[]
section
variable(E:Env U)(w:World)(F:Nat->Prop)
def gh(own:Bool)(cs:List U.C)(rest:List Value)(v:Value)(l:List Nat):Prop:=
 ∃(b:Nat)(cur:Array Value)(e:TypeId)(fl:List (List Nat)),v=.pointer (some ⟨b,0,none⟩)/\w.heap[b]? =some (.cells cur e (0,0))/\cs.length<=cur.size/\cur.toList.drop cs.length=rest/\(∀u∈rest,bI u)/\
  fl.length=cs.length/\(∀(i:Nat)(c:U.C),cs[i]? =some c->Rp E w F own c (cur.toList.getD i undef) (fl.getD i []))/\l=b::fl.flatten
def dN(cs:List U.C)(v:Value)(l:List Nat):Prop:=
 ∃(vs:List Value)(fl:List (List Nat)),v=.agg vs.toArray/\vs.length=cs.length/\fl.length=cs.length/\(∀(i:Nat)(c:U.C),cs[i]? =some c->Rp E w F true c (vs.getD i undef) (fl.getD i []))/\l=fl.flatten
def dV:Mode->DV U->Value->List Nat->Prop
 | .ro,.one c,v,l=>Rp E w F false c v []/\l=[]
 | .ro,.agg cs,v,l=>∃vs:List Value,v=.agg vs.toArray/\vs.length=cs.length/\(∀(i:Nat)(c:U.C),cs[i]? =some c->Rp E w F false c (vs.getD i undef) [])/\l=[]
 | .ro,.ptr cs,v,l=>(∃b o,v=.pointer (some ⟨b,o,none⟩)/\F b/\∀(j:Nat)(c:U.C),cs[j]? =some c->∃u,w.cell? ⟨b,o+j,none⟩=some u/\Rp E w F false c u [])/\l=[]
 | .ro,.fn p,v,l=>ey E w F p v/\l=[]
 | .wr,.one (.sl τ xs),v,l=>ba E w F true ⟨τ,xs⟩ v l
 | .wr,.agg cs,v,l=>dN E w F cs v l
 | .mv,.one c,v,l=>Rp E w F true c v l
 | .mv,.agg cs,v,l=>dN E w F cs v l
 | .box own,.box cs,v,l=>gh E w F own cs (gp w v cs.length) v l
 |_,_,_,_=>False
def cv:List Mode->List (DV U)->List Value->List (List Nat)->Prop
 |[],[],[],[]=>True
 |m::ms,d::ds,v::vs,l::ls=>dV E w F m d v l/\cv ms ds vs ls
 |_,_,_,_=>False
def cV(fresh:Bool):DV U->Value->List Nat->Prop
 | .one c,v,l=>if fresh then Rp E w F true c v l else Rp E w F false c v []/\l=[]
 | .agg cs,v,l=>if fresh then dN E w F cs v l
   else∃vs:List Value,v=.agg vs.toArray/\vs.length=cs.length/\(∀(i:Nat)(c:U.C),cs[i]? =some c->Rp E w F false c (vs.getD i undef) [])/\l=[]
 | .box cs,v,l=>fresh=true/\∃b cur e,v=.pointer (some ⟨b,0,none⟩)/\w.heap[b]? =some (.cells cur e (0,0))/\l=[b]/\cur.size=cs.length/\∀(i:Nat)(c:U.C),cs[i]? =some c->Rp E w F false c (cur.toList.getD i undef) []
 | .ptr _,_,_=>False
 | .fn _,_,_=>False
def dw:List Bool->List (DV U)->List Value->List (List Nat)->Prop
 |_,[],[],[]=>True
 |fs,d::ds,v::vs,l::ls=>cV E w F (fs.headD true) d v l/\dw fs.tail ds vs ls
 |_,_,_,_=>False
def bk(w0:World):List Mode->List Value->List (DV U)->List (List Nat)->Prop
 |[],[],[],[]=>True
 | .ro::ms,_::vs,ds,ls=>bk w0 ms vs ds ls
 | .mv::ms,_::vs,ds,ls=>bk w0 ms vs ds ls
 | .wr::ms,v::vs,.one (.sl τ ys)::ds,l::ls=>ba E w F true ⟨τ,ys⟩ v l/\bk w0 ms vs ds ls
 | .wr::ms,v::vs,.agg cs::ds,l::ls=>dN E w F cs v l/\bk w0 ms vs ds ls
 | .box own::ms,v::vs,.box cs::ds,l::ls=>gh E w F own cs (gp w0 v cs.length) v l/\bk w0 ms vs ds ls
 |_,_,_,_=>False
end
def nQ:List Value->Value
 |[v]=>v
 |vs=> .tuple vs.toArray
def fg(F:Nat->Prop)(w w':World)(own Fg:List Nat)(b:Nat):Prop:=F b\/((w.heap.size<=b\/b∈Fg)/\b<w'.heap.size/\b∉own)
def gN(w:World)(n:Nat):List Mode->List (DV U)->List Value->Prop
 |m::ms,d::ds,v::vs=>(∀own cs,m=.box own->d=.box cs->(gp w v cs.length).length=n)/\gN w n ms ds vs
 |_,_,_=>True
theorem jj{w:World}{n:Nat}:∀{ms:List Mode}{ds:List (DV U)}{vs:List Value},fI ms=true->gN w n ms ds vs
 |[],_,_,_=>trivial
 |_::_,[],_,_=>trivial
 |_::_,_::_,[],_=>trivial
 |m::ms,d::ds,v::vs,h=>by
  cases m with
  |ro=>exact⟨fun own cs hm=>(by cases hm),jj (by simpa[fI] using h)⟩
  |wr=>simp[fI] at h
  |mv=>simp[fI] at h
  |box _=>simp[fI] at h
def aZ(E:Env U)(f:FuncId)(k:bB U):Prop:=
 ∀x:k.α,(∀p∈k.pre x,p)->∀(w:World)(F:Nat->Prop)(vs:List Value)(ls:List (List Nat)),(∀b,F b->b<w.heap.size)->vH E w F->cv E w F k.md (k.ds x) vs ls->gN w k.qv k.md (k.ds x) vs->ls.flatten.Nodup->
  (∀b∈ls.flatten,b<w.heap.size/\¬F b)->
  Calls E.P f vs.toArray w fun e w'=>∃(us:List Value)(dj bQ:List (List Nat)),e=.returned (nQ us)/\bH (·∈ls.flatten) w w'/\
   dw E w' (fg F w w' (dj.flatten++bQ.flatten) ls.flatten) (k.cf x).fresh (k.cf x).val us dj/\
   bk E w' (fg F w w' (dj.flatten++bQ.flatten) ls.flatten) w k.md vs (k.cf x).qH bQ/\
   (dj.flatten++bQ.flatten).Nodup/\(∀b∈dj.flatten,(b∈ls.flatten\/w.heap.size<=b)/\b<w'.heap.size)/\(∀b∈bQ.flatten,b∈ls.flatten\/(w.heap.size<=b/\b<w'.heap.size))
variable{E:Env U}{pm:Pm}
variable{F F':Nat->Prop}{kv:Key->Value}{fp:Key->List Nat}{σ:aa U}{a:Act}{w w':World}{bad:Key->Bool}
theorem j9(h:aC E pm F kv fp σ a w){rs:List Key}{x:AC U}{v:Value}{ps:List Prop}{b:eT U}
  (ha:eN (restrict σ.aq rs) σ.ag x=some (ps,b)) (hp:∀p∈ps,p) (hx:RD E w F kv fp (av σ) x v):
  Rp E w (FK F fp (x.keys.filter fun k=>(σ.aq k).isSome)) false (.sl b.τ b.xs) v []:=by
 have key:∀(k:Key)(y:eT U)(d:Bool),restrict σ.aq rs k=some (.arr y d)->k∈x.keys->∀b,(F b\/b∈fp k)->FK F fp (x.keys.filter fun k=>(σ.aq k).isSome) b:=by
  intro k y d he hk b hb
  rcases hb with hb|hb
  ·exact .inl hb
  ·exact .inr ⟨k,po.2 ⟨hk,by simp[cJ he]⟩,hb⟩
 unfold eN at ha
 split at ha
 ·cases ha
  exact(ax hx rfl:Rp E w F false _ _ _).bG (fun b hb=> .inl hb)
 ·cases ha
  exact(ax hx rfl).1.bG (fun b hb=> .inl hb)
 ·rename_i k p
  split at ha
  ·rename_i y d he
   cases cp:bE (restrict σ.aq rs) σ.ag k p<;>simp only[cp,cond_false,cond_true] at ha
   ·cases ha
   ·have hn:=ax hx (nV cp he)
    obtain⟨v',h1,h2⟩:=(sf h (cJ he)).BL ha hp
    have:v=v':=hn.unique h1
    subst this
    exact h2.bG (key k y d he (by simp[AC.keys]))
  ·cases ha
 ·rename_i k wd lo hi
  split at ha
  ·rename_i y d he
   cases hw:Nat.beq wd (U.wd y.τ)<;>simp only[hw,cond_false,cond_true] at ha
   ·cases ha
   ·cases ha
    have iF:=en hw
    subst iF
    obtain⟨h1,h2⟩:=ax hx rfl
    subst h1
    exact((sf h (cJ he)).sub h2 (hp _ (by simp))).bG (key k y d he (by simp[AC.keys]))
  ·cases ha
 ·cases ha
theorem JD(h:aC E pm F kv fp σ a w){rs:List Key}{x:AC U}{v:Value}{ps:List Prop}{b:eT U}
  (ha:kP (restrict σ.aq rs) σ.ag x=some (ps,b)) (hp:∀p∈ps,p) (hx:RD E w F kv fp (av σ) x v):
  Rp E w (FK F fp (x.keys.filter fun k=>(σ.aq k).isSome)) false (.sl b.τ b.xs) v []:=by
 unfold kP at ha
 split at ha
 rotate_left
 ·cases ha
 rename_i k i wd j p
 split at ha
 rotate_left
 ·cases ha
 rename_i y dead he
 cases cp:bE (restrict σ.aq rs) σ.ag k ((i,wd,j)::p)<;>simp only[cp,cond_false,cond_true] at ha
 ·cases ha
 split at ha
 rotate_left
 ·cases ha
 rename_i pP b' hw
 cases ha
 have bf:=cJ he
 have hn:=ax hx (nV cp he)
 obtain⟨v',h1,h2⟩:=aW.BL (h.aJ k _ bf) hw (fun q hq=>hp q (by simp[hq])) (hp _ (by simp))
 have:v=v':=hn.unique h1
 subst this
 refine h2.bG fun b hb=> ?_
 rcases hb with hb|hb
 ·exact .inl hb
 ·exact .inr ⟨k,po.2 ⟨by simp[AC.keys],by simp[bf]⟩,hb⟩
theorem DX(h:aC E pm F kv fp σ a w){rs:List Key}{want:Option U.Ty}{x:AC U}{v:Value}{ps:List Prop}{c:U.C}
  (hc:cellOf (restrict σ.aq rs) σ.ag want x=some (ps,c)) (hp:∀p∈ps,p) (hx:RD E w F kv fp (av σ) x v):Rp E w (FK F fp (x.keys.filter fun k=>(σ.aq k).isSome)) false c v []:=by
 unfold cellOf at hc
 split at hc
 ·cases hc
  exact(ax hx rfl:Rp E w F false _ _ _).bG (fun b hb=> .inl hb)
 ·split at hc
  ·cases hc
   obtain⟨ad,h1⟩:=ax hx rfl
   subst h1
   exact .nil _ _ _ _ (by simp)
  ·cases hc
 ·split at hc
  ·rename_i pP b ha
   cases hc
   exact j9 h ha hp hx
  ·split at hc
   ·rename_i pP b ha
    cases hc
    exact JD h ha hp hx
   ·cases hc
theorem DW(h:aC E pm F kv fp σ a w){rs:List Key}:∀{xs:List (AC U)}{want:List (Option U.Ty)}{vs:List Value}{ps:List Prop}{cs:List U.C},
  cellsOf (restrict σ.aq rs) σ.ag want xs=some (ps,cs)->(∀p∈ps,p)->dC E w F kv fp (av σ) xs vs->
  cs.length=xs.length/\∀(i:Nat)(c:U.C),cs[i]? =some c->Rp E w (FK F fp ((xs.flatMap AC.keys).filter fun k=>(σ.aq k).isSome)) false c (vs.getD i undef) []:=by
 intro xs
 induction xs with
 |nil=>
  intro want vs ps cs hc hp hx
  simp only[cellsOf,bM,eX] at hc
  obtain⟨rfl,rfl⟩:=hc
  exact⟨rfl,fun i c hc=>by simp at hc⟩
 |cons x xs ih=>
  intro want vs ps cs hc hp hx
  simp only[cellsOf] at hc
  split at hc
  ·rename_i vx c1 zf QA h1 h2
   cases hc
   cases vs with
   |nil=>have:=hx.1;simp at this
   |cons v vs=>
    have BN:RD E w F kv fp (av σ) x v:=hx.2 0 x v rfl rfl
    have JV:dC E w F kv fp (av σ) xs vs:=⟨by have:=hx.1;simpa using this,fun i y u hy hu=>hx.2 (i+1) y u (by simpa using hy) (by simpa using hu)⟩
    have g1:=DX h h1 (fun p cT=>hp p (by simp[cT])) BN
    obtain⟨i1,i2⟩:=ih h2 (fun p cT=>hp p (by simp[cT])) JV
    refine⟨by simp[i1],fun i c hc=> ?_⟩
    cases i with
    |zero=>
     simp only[iB,bM] at hc;subst hc
     exact g1.bG (fun b hb=>nY (fun k hk=>by
      rw[po] at hk⊢
      exact⟨by rw[ln];exact fy _ hk.1,hk.2⟩) hb)
    |succ i=>exact(i2 i c (by simpa using hc)).bG (fun b hb=>nY (fun k hk=>by
      rw[po] at hk⊢
      exact⟨by rw[ln];exact eZ _ hk.1,hk.2⟩) hb)
  ·cases hc
theorem D9{ks K:List Key}(hK:∀k∈ks,(σ.aq k).isSome=true->k∈K){b:Nat}:FK F fp (ks.filter fun k=>(σ.aq k).isSome) b->FK F fp K b:=
 nY (fun k hk=>by rw[po] at hk;exact hK k hk.1 hk.2)
theorem Rp.dy{m:Bool}{u v:Value}{l:List Nat}(h:Rp E w F m (.lit u) v l):l=[]/\v=u/\bI u:=by
 generalize hc:(Cell.lit u:U.C)=c at h
 cases h with
 |lit _ _ ho=>cases hc;exact⟨rfl,rfl,ho⟩
 |nil=>cases hc
 |shr=>cases hc
 |own=>cases hc
theorem sd:∀{cs:List (AC U)}{l:List U.C},plain cs=some l->cs=l.map .c
 |[],l,h=>by cases h;rfl
 | .c x::r,l,h=>by
  simp only[plain] at h
  split at h
  ·rename_i l' hl;cases h;rw[sd hl];rfl
  ·cases h
 | .e0::r,l,h=>by simp[plain] at h
 | .ref _ _::r,l,h=>by simp[plain] at h
 | .sub _ _ _ _::r,l,h=>by simp[plain] at h
 | .dt _ _ _ _ _::r,l,h=>by simp[plain] at h
 | .cR _ _::r,l,h=>by simp[plain] at h
 | .ia _::r,l,h=>by simp[plain] at h
 | .kn _ _ _::r,l,h=>by simp[plain] at h
theorem wu(h:aC E pm F kv fp σ a w){rs:List Key}{want:List (Option U.Ty)}{x:SV U}{v:Value}{ps:List Prop}{d:DV U}{K:List Key}
  (ha:ix (restrict σ.aq rs) σ.ag want x=some (ps,d)) (hp:∀p∈ps,p) (hx:RS E w F kv fp (av σ) x v) (hK:∀k∈x.keys,(σ.aq k).isSome=true->k∈K):dV E w (FK F fp K) .ro d v []:=by
 unfold ix at ha
 split at ha
 ·rename_i cs
  cases ha
  obtain⟨b,o,h1,h2,h3⟩:=ax (nX hx) rfl
  exact⟨⟨b,o,h1,.inl h2,fun j c hj=>by obtain⟨u,h4,h5⟩:=h3 j c hj;exact⟨u,h4,h5.bG (fun b hb=> .inl hb)⟩⟩,rfl⟩
 ·rename_i k off
  split at ha
  ·rename_i cs he
   split at ha
   ·rename_i l hl
    cases ha
    have gS:=sd hl
    obtain⟨b,h1,h2⟩:=ax (nX hx) rfl
    have bf:=cJ he
    obtain⟨b',cur,e',g1,g2,g3,g4⟩:=h.aJ k _ bf
    rw[h1] at g1
    simp only[Value.pointer.injEq,bM,Addr.mk.injEq] at g1
    obtain⟨rfl,_,_⟩:=g1
    have hk:k∈K:=hK k (by simp[SV.keys,SV.lM,AC.keys]) (by rw[bf];rfl)
    refine⟨⟨b,off,h2,.inr ⟨k,hk,by rw[g3];exact gj.2 rfl⟩,fun j c hj=> ?_⟩,rfl⟩
    rw[mQ] at hj
    have gY:cs[off+j]? =some (.c c):=by rw[gS,eC,hj];rfl
    obtain⟨u,hu⟩:∃u,cur.toList[off+j]? =some u:=by
     have bZ:off+j<cs.length:=by
      rcases eW (off+j) cs.length with h|h
      ·exact h
      ·rw[eD h] at gY;cases gY
     exact⟨_,cE (by rw[<-g4.1];exact bZ)⟩
    have hd:=g4.2 _ _ u gY hu
    refine⟨u,?_,(ax hd rfl:Rp E w F false _ _ _).bG (fun b hb=> .inl hb)⟩
    simp only[World.cell?,g2]
    simpa using hu
   ·cases ha
  ·cases ha
 ·rename_i y _
  split at ha
  ·rename_i pP c hc
   cases ha
   exact⟨(DX h hc hp (nX hx)).bG (fun b hb=>D9 (fun k hk=>hK k (by simpa[SV.keys,SV.lM] using hk)) hb),rfl⟩
  ·cases ha
 ·rename_i cs
  split at ha
  ·rename_i pP l hl
   cases ha
   obtain⟨vs,h1,h2⟩:=hx
   simp only[if_true] at h2
   obtain⟨g1,g2⟩:=DW h hl hp h1
   exact⟨vs,h2,by rw[g1];exact h1.1.symm,fun i c hc=>(g2 i c hc).bG (fun b hb=>D9 (fun k hk=>hK k (by simpa[SV.keys,SV.lM] using hk)) hb),rfl⟩
  ·cases ha
 ·cases ha
theorem dV.zk{w w':World}{F F':Nat->Prop}{d:DV U}{v:Value}{l:List Nat}(h:dV E w F .ro d v l)(hF:∀b,F b->F' b/\w'.heap[b]? =w.heap[b]?):dV E w' F' .ro d v l:=by
 cases d with
 |one c=>exact⟨h.1.bD hF (by simp),h.2⟩
 |agg cs=>
  obtain⟨vs,h1,h2,h3,h4⟩:=h
  exact⟨vs,h1,h2,fun i c hc=>(h3 i c hc).bD hF (by simp),h4⟩
 |ptr cs=>
  obtain⟨⟨b,o,h1,h2,h3⟩,h4⟩:=h
  refine⟨⟨b,o,h1,(hF b h2).1,fun j c hj=> ?_⟩,h4⟩
  obtain⟨u,g1,g2⟩:=h3 j c hj
  refine⟨u,?_,g2.bD hF (by simp)⟩
  rw[World.cell?_of_block (w:=w) (a:=⟨b,o+j,none⟩) (hF b h2).2];exact g1
 |box _=>exact h.elim
 |fn p=>exact⟨ey.bD h.1 hF,h.2⟩
theorem Cb.arg{w:World}{F:Nat->Prop}{d:DA U}{v:Value}(h:Cb E w F d v):dV E w F .ro d.dv v []:=by
 obtain⟨g,cs⟩:=d
 obtain⟨vs,h1,h2,h3⟩:=h
 cases g with
 |true=>
  simp only[if_true] at h3
  have e:(DA.mk true cs:DA U).dv=.agg cs:=rfl
  rw[e]
  exact⟨vs,h3,h1,h2,rfl⟩
 |false=>
  simp only[lN,if_false] at h3
  subst h3
  match cs,h1,h2 with
  |[c],h1,h2=>exact⟨h2 0 c rfl,rfl⟩
theorem cv.tT{w:World}{F:Nat->Prop}:∀{ms:List Mode}{ds:List (DV U)}{vs:List Value},fI ms=true->ms.length=ds.length->ds.length=vs.length->(∀(i:Nat)(d:DV U)(v:Value),ds[i]? =some d->vs[i]? =some v->dV E w F .ro d v [])->
  cv E w F ms ds vs (List.replicate ms.length [])
 |[],[],[],_,_,_,_=>trivial
 |m::ms,d::ds,v::vs,hr,h1,h2,h=>by
  cases m with
  |ro=>exact⟨h 0 d v rfl rfl,cv.tT (by simpa[fI] using hr) (by simpa using h1) (by simpa using h2) (fun i d v hd hv=>h (i+1) d v (by simpa using hd) (by simpa using hv))⟩
  |wr=>simp[fI] at hr
  |mv=>simp[fI] at hr
  |box _=>simp[fI] at hr
 |[],_::_,_,_,h1,_,_=>by simp at h1
 |_::_,[],_,_,h1,_,_=>by simp at h1
 |[],[],_::_,_,_,h2,_=>by simp at h2
 |_::_,_::_,[],_,_,h2,_=>by simp at h2
theorem Js(h:aC E pm F kv fp σ a w){rs:List Key}{K:List Key}:∀{xs:List (AV U)}{vs:List Value}{ps:List Prop}{ds:List (DV U)},iu (restrict σ.aq rs) σ.ag xs=some (ps,ds)->(∀p∈ps,p)->xs.length=vs.length->
  (∀(i:Nat)(x:AV U)(u:Value),xs[i]? =some x->vs[i]? =some u->RV E w F kv fp (av σ) x u)->(∀x∈xs,∀y∈x.cs,∀k∈y.keys,(σ.aq k).isSome=true->k∈K)->
  ds.length=vs.length/\∀(i:Nat)(d:DV U)(v:Value),ds[i]? =some d->vs[i]? =some v->dV E w (FK F fp K) .ro d v []:=by
 intro xs
 induction xs with
 |nil=>
  intro vs ps ds hc hp hl hx hK
  simp only[iu,bM,eX] at hc
  obtain⟨rfl,rfl⟩:=hc
  exact⟨hl,fun i d v hd=>by simp at hd⟩
 |cons x xs ih=>
  intro vs ps ds hc hp hl hx hK
  cases vs with
  |nil=>simp at hl
  |cons v vs=>
   simp only[iu] at hc
   split at hc
   ·rename_i vx d1 zf B_ h1 h2
    cases hc
    obtain⟨i1,i2⟩:=ih h2 (fun p cT=>hp p (by simp[cT])) (by simpa using hl) (fun i y u hy hu=>hx (i+1) y u (by simpa using hy) (by simpa using hu)) (fun y hy=>hK y (c9 _ hy))
    refine⟨by simp[i1],fun i d u hd hu=> ?_⟩
    cases i with
    |zero=>
     simp only[iB,bM] at hd hu
     subst hd;subst hu
     exact wu h h1 (fun p cT=>hp p (by simp[cT])) (show RS E w F kv fp (av σ) (.v x) v from hx 0 x v rfl rfl) (fun k hk=>by
      obtain⟨y,hy,hk⟩:=SV.mem_keys.1 hk
      exact hK x e_ y hy k hk)
    |succ i=>exact i2 i d u (by simpa using hd) (by simpa using hu)
   ·cases hc
theorem Jo{w:World}{F:Nat->Prop}(na:vH E w F){g:FuncId}{k:bB U}{vs:List Value}{ds:List (DV U)}(hf:j_ E.P g)(hk:aZ E g k)(hr:fI k.md=true)(hl:ds.length=vs.length)
  (hd:∀(i:Nat)(d:DV U)(v:Value),ds[i]? =some d->vs[i]? =some v->dV E w F .ro d v []):ey E w F (u5 k ds) (.func (.func g) #[] vs.toArray):=by
 refine⟨g,_,rfl,hf,fun GI r hp w' F' hF bZ us fv=> ?_⟩
 unfold u5 at hp
 split at hp
 ·rename_i x Kf
  split at hp
  ·rename_i v qL zR
   split at hp
   ·rename_i hc
    cases hp
    obtain⟨mO,rK⟩:=hc
    have zW:=k.law _ x Kf
    have hlen:(GI.map DA.dv++ds).length=(us++vs).length:=by simp[fv.1,hl]
    have eh:=cv.tT (E:=E) (w:=w') (F:=F') (ms:=k.md) (ds:=GI.map DA.dv++ds) (vs:=us++vs) hr (by simp[mO]) hlen (fun i d u nc hu=>by
     rcases eW i us.length with hi|hi
     ·rw[jA (by simpa[fv.1] using hi)] at nc
      rw[jA hi] at hu
      rw[eC] at nc
      cases E0:GI[i]? with
      |none=>rw[E0] at nc;cases nc
      |some da=>rw[E0] at nc;cases nc;exact(fv.2 i da u E0 hu).arg
     ·rw[kj (by simpa[fv.1] using hi)] at nc
      rw[kj hi] at hu
      have e:(GI.map DA.dv).length=us.length:=by simp[fv.1]
      rw[e] at nc
      exact(hd _ d u nc hu).zk hF)
    have p6:(List.replicate k.md.length ([]:List Nat)).flatten=[]:=by simp
    have:=hk x rK w' F' (us++vs) (List.replicate k.md.length []) bZ (na.bD hF) (by rw[zW];exact eh) (jj hr) (by rw[p6];exact yg) (by rw[p6];simp)
    have e:us.toArray++vs.toArray=(us++vs).toArray:=by simp
    rw[e]
    refine this.mono ?_
    rintro e Cu ⟨yr,dj,bQ,rfl,h1,h2,_⟩
    rw[p6] at h1
    rw[qL] at h2
    cases yr with
    |nil=>exact h2.elim
    |cons u yr=>cases dj with
     |nil=>exact h2.elim
     |cons l dj=>cases yr with
      |cons _ _=>exact h2.2.elim
      |nil=>
       have h3:=h2.1
       have key:∀(G:Nat->Prop) fresh,cV E Cu G fresh (.one (.lit r)) u l->u=r/\bI r:=by
        intro G fresh h
        cases fresh with
        |true=>exact⟨(Rp.dy h).2.1,(Rp.dy h).2.2⟩
        |false=>exact⟨(Rp.dy h.1).2.1,(Rp.dy h.1).2.2⟩
       obtain⟨e1,e2⟩:=key _ _ h3
       exact⟨by rw[e1];rfl,e2,h1.mono (by simp)⟩
   ·cases hp
  ·cases hp
 ·cases hp
theorem JH(hC:∀g k,E.s3 g=some k->j_ E.P g/\aZ E g k)(h:aC E pm F kv fp σ a w){rs:List Key}{want:List (Option U.Ty)}{x:SV U}{v:Value}{ps:List Prop}{d:DV U}{K:List Key}
  (ha:iy E (restrict σ.aq rs) σ.ag want .ro x=some (ps,d)) (hp:∀p∈ps,p) (hx:RS E w F kv fp (av σ) x v) (hK:∀k∈x.keys,(σ.aq k).isSome=true->k∈K):dV E w (FK F fp K) .ro d v []:=by
 simp only[iy] at ha
 unfold qe at ha
 split at ha
 ·cases ha
  exact⟨ey.bD hx (fun b hb=>⟨.inl hb,rfl⟩),rfl⟩
 ·rename_i g xs
  split at ha
  ·rename_i k pP ds hk gS
   rw[bY] at ha
   split at ha
   ·rename_i hc
    simp only[dR] at hc
    cases ha
    obtain⟨vs,rfl,hl,qj⟩:=hx
    obtain⟨h1,h2⟩:=Js (K:=K) h gS hp hl qj (fun y hy z hz k' aG=>hK k' (SV.mem_keys.2 ⟨z,eY.2 ⟨y,hy,hz⟩,aG⟩))
    exact⟨Jo (h.lay.bD fun b hb=>⟨.inl hb,rfl⟩) (hC g k hk).1 (hC g k hk).2 hc.1 h1 h2,rfl⟩
   ·cases ha
  ·cases ha
 ·exact wu h ha hp hx hK
theorem qz{w:World}{b:Nat}{cur:Array Value}{e:TypeId}(h:w.heap[b]? =some (.cells cur e (0,0)))(n:Nat):gp w (.pointer (some ⟨b,0,none⟩)) n=cur.toList.drop n:=by
 simp only[gp,h]
theorem dC.cons_inv{x:AC U}{xs:List (AC U)}{vs:List Value}(h:dC E w F kv fp bad (x::xs) vs):∃v jh,vs=v::jh/\RD E w F kv fp bad x v/\dC E w F kv fp bad xs jh:=by
 cases vs with
 |nil=>have:=h.1;simp at this
 |cons v vs=>exact⟨v,vs,rfl,h.2 0 x v rfl rfl,by have:=h.1;simpa using this,fun i y u hy hu=>h.2 (i+1) y u (by simpa using hy) (by simpa using hu)⟩
theorem dC.cons{x:AC U}{xs:List (AC U)}{v:Value}{vs:List Value}(h:RD E w F kv fp bad x v)(h':dC E w F kv fp bad xs vs):dC E w F kv fp bad (x::xs) (v::vs):=by
 refine⟨by simp[h'.1],fun i y u hy hu=> ?_⟩
 cases i with
 |zero=>simp only[iB,bM] at hy hu;subst hy hu;exact h
 |succ i=>exact h'.2 i y u (by simpa using hy) (by simpa using hu)
theorem ba.rp{y:eT U}{v:Value}{l:List Nat}(h:ba E w F true y v l):Rp E w F true (.sl y.τ y.xs) v l:=by
 obtain⟨τ,xs⟩:=y
 rcases h with⟨h1,⟨ad,rfl⟩,rfl⟩|⟨b,cap,cur,vs,bT,rfl,h2,h3,h4,h5,h6,h7,rfl⟩
 ·simp only at h1
  subst h1
  exact .nil _ _ _ _ (fun _=>rfl)
 ·exact .own τ xs b cap cur vs bT h2 h3 h4 h5 h6 h7
theorem yz(h:aC E pm F kv fp σ a w){rs:List Key}:∀{xs:List (AC U)}{vs:List Value}{cs:List U.C}{ks:List Key},cy (restrict σ.aq rs) xs=some (cs,ks)->dC E w F kv fp (av σ) xs vs->
  cs.length=xs.length/\(∀k∈ks,(σ.aq k).isSome=true)/\∃fl:List (List Nat),fl.length=cs.length/\(∀(i:Nat)(c:U.C),cs[i]? =some c->Rp E w F true c (vs.getD i undef) (fl.getD i []))/\fl.flatten=ks.flatMap fp
 |[],vs,cs,ks,hw,hx=>by
  simp only[cy,bM,eX] at hw
  obtain⟨rfl,rfl⟩:=hw
  exact⟨rfl,by simp,[],rfl,fun i c hc=>by simp at hc,rfl⟩
 |x::xs,vs,cs,ks,hw,hx=>by
  obtain⟨v,jh,rfl,h1,h2⟩:=hx.cons_inv
  have put:∀{c:U.C}{iP:List U.C}{ks':List Key}{l:List Nat},Rp E w F true c v l->(iP.length=xs.length/\(∀k∈ks',(σ.aq k).isSome=true)/\∃fl:List (List Nat),fl.length=iP.length/\(∀(i:Nat)(c:U.C),iP[i]? =some c->Rp E w F true c (jh.getD i undef) (fl.getD i []))/\fl.flatten=ks'.flatMap fp)->
    ∃fl:List (List Nat),fl.length=(c::iP).length/\(∀(i:Nat)(c':U.C),(c::iP)[i]? =some c'->Rp E w F true c' ((v::jh).getD i undef) (fl.getD i []))/\fl.flatten=l++ks'.flatMap fp:=by
   rintro c iP ks' l hr ⟨_,_,fl,f1,f2,f3⟩
   refine⟨l::fl,by simp[f1],fun i c' hc=> ?_,by simp[f3]⟩
   cases i with
   |zero=>simp only[iB,bM] at hc;subst hc;simpa using hr
   |succ i=>simpa using f2 i c' (by simpa using hc)
  unfold cy at hw
  split at hw
  ·rename_i ff;cases ff
  ·rename_i u r ff
   cases ff
   split at hw
   ·rename_i iP ks' hr
    cases hw
    have ih:=yz h hr h2
    have hl:Rp E w F false _ v []:=ax h1 rfl
    obtain⟨_,JW,ho⟩:=hl.dy
    subst JW
    obtain⟨fl,f1,f2,f3⟩:=put (.lit true _ ho) ih
    exact⟨by simp[ih.1],ih.2.1,fl,f1,f2,by simpa using f3⟩
   ·cases hw
  ·rename_i k r ff
   cases ff
   split at hw
   ·rename_i y iP ks' he hr
    cases hw
    have ih:=yz h hr h2
    have bf:=cJ he
    have hv:v=kv k:=ax h1 rfl
    have ho:ba E w F true y (kv k) (fp k):=h.aJ k _ bf
    obtain⟨fl,f1,f2,f3⟩:=put (c:=.sl y.τ y.xs) (by rw[hv];exact ho.rp) ih
    exact⟨by simp[ih.1],fun k' aG=>by
     rcases dQ.1 aG with rfl|aG
     ·rw[bf];rfl
     ·exact ih.2.1 k' aG,fl,f1,f2,by simpa using f3⟩
   ·cases hw
  ·cases hw
end AM
