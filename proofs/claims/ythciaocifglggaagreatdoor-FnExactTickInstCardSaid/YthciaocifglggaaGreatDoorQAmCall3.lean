import Derived.Test.YthciaocifglggaaGreatDoorQAmCall4
namespace AM
set_option linter.unusedVariables false
open Go
variable{U:kz}{E:Env U}{pm:Pm}
variable{F F':Nat->Prop}{kv:Key->Value}{fp:Key->List Nat}{σ:af U}{a:Act}{w w':World}{bad:Key->Bool}
theorem abc{l:List Nat}:mc l=true↔l.Nodup:=by
 induction l with
 |nil=>simp[mc]
 |cons k l ih=>
  simp only[mc,eE,rj,rv,ih]
  rw[<-uK,sA]
  simp
theorem eZ.NK{d:eZ U}{dst:Nat}{k:Key}{t:Nat×ir U×Value×List Nat}(h:d.find? (fun t=>iw (dst,t.1) k)=some t):t∈d/\k=(dst,t.1):=
 ⟨List.mem_of_find?_eq_some h,(nK.1 (by simpa using List.find?_some h)).symm⟩
theorem eZ.Jw{d:eZ U}{dst:Nat}(hn:(d.map (·.1)).Nodup){t:Nat×ir U×Value×List Nat}(ht:t∈d):d.find? (fun t'=>iw (dst,t'.1) (dst,t.1))=some t:=by
 cases hf:d.find? (fun t'=>iw (dst,t'.1) (dst,t.1)) with
 |none=>
  have:=Zy.1 hf t ht
  simp[wR] at this
 |some t'=>
  obtain⟨h1,h2⟩:=eZ.NK hf
  have h3:t'.1=t.1:=by simpa using h2.symm
  rw[ZB,List.pairwise_map] at hn
  by_cases he:t'=t
  ·rw[he]
  ·exfalso
   have hp:=hn
   obtain⟨i,hi,pg⟩:=tX h1
   obtain⟨j,hj,tH⟩:=tX ht
   rw[RT] at hp
   rcases Nat.lt_trichotomy i j with h|h|h
   ·exact hp i j hi hj h (by rw[pg,tH,h3])
   ·subst h;exact he (by rw[<-pg,<-tH])
   ·exact hp j i hj hi h (by rw[pg,tH,h3])
theorem eZ.vh{d:eZ U}{dst:Nat}{kv:Key->Value}(hn:(d.map (·.1)).Nodup){t:Nat×ir U×Value×List Nat}(ht:t∈d):d.yi dst kv (dst,t.1)=t.2.2.1:=by
 unfold eZ.yi;rw[eZ.Jw hn ht]
theorem eZ.sO{d:eZ U}{dst:Nat}{fp:Key->List Nat}(hn:(d.map (·.1)).Nodup){t:Nat×ir U×Value×List Nat}(ht:t∈d):d.xb dst fp (dst,t.1)=t.2.2.2:=by
 unfold eZ.xb;rw[eZ.Jw hn ht]
theorem eZ.other{d:eZ U}{dst:Nat}{k:Key}(h:∀t∈d,k≠(dst,t.1))(kv:Key->Value)(fp:Key->List Nat):d.yi dst kv k=kv k/\d.xb dst fp k=fp k:=by
 have:d.find? (fun t=>iw (dst,t.1) k)=none:=Zy.2 fun t ht hk=>h t ht (nK.1 (by simpa using hk)).symm
 unfold eZ.yi eZ.xb
 rw[this]
 exact⟨rfl,rfl⟩
theorem eZ.n6{d:eZ U}{b:Nat}:b∈d.bl↔∃t∈d,b∈t.2.2.2:=by simp[eZ.bl]
theorem eZ.vO:∀{d:eZ U},d.bl.Nodup->∀{t:Nat×ir U×Value×List Nat},t∈d->t.2.2.2.Nodup
 |[],_,t,ht=>by simp at ht
 |t0::d,h,t,ht=>by
  simp only[eZ.bl,xv,pu] at h
  rcases jw.1 ht with rfl|ht
  ·exact h.1
  ·exact eZ.vO (d:=d) h.2.1 ht
theorem eZ.pU:∀{d:eZ U},d.bl.Nodup->∀{t t':Nat×ir U×Value×List Nat},t∈d->t'∈d->t.1≠t'.1->∀{b:Nat},b∈t.2.2.2->b∉t'.2.2.2
 |[],_,t,t',ht,_,_,_,_=>by simp at ht
 |t0::d,h,t,t',ht,OP,et,b,hb=>by
  simp only[eZ.bl,xv,pu] at h
  intro aY
  rcases jw.1 ht with rfl|_
  ·rcases jw.1 OP with rfl|OP
   ·exact et rfl
   ·exact h.2.2 b hb b (nl.2 ⟨t',OP,aY⟩) rfl
  ·rename_i ht1
   rcases jw.1 OP with h0|ht2
   ·subst h0
    exact h.2.2 b aY b (nl.2 ⟨t,ht1,hb⟩) rfl
   ·exact eZ.pU (d:=d) h.2.1 ht1 ht2 et hb aY
theorem ajZ{P:Program}{w:World}{a:Act}{o:Oper}{cl:Call}{f:FuncId}(p5:o.op=.call cl)(gU:cl.callee=.value (.func f))(hf:wB P f):
  (execOp a.eval o).run P w=.ok (.enter f (cl.args.toList.map a.eval).toArray) w:=by
 obtain⟨fn,h1,h2,h3⟩:=hf
 have e:execOp a.eval o=callFunc f (#[]++cl.args.map a.eval++ #[]):=by
  unfold execOp
  rw[p5]
  simp only[resolve,gU]
  rfl
 rw[e]
 have e2:(#[]++cl.args.map a.eval++ #[]:Array Value)=(cl.args.toList.map a.eval).toArray:=by
  apply Array.ext'
  simp
 rw[e2]
 have h4:fn.body≠none:=by cases hb:fn.body<;>simp[hb] at h2⊢
 have h5:fn.name≠ "runtime.NumGoroutine" :=by simpa using h3
 simp[callFunc,go_sem,h1,h4,h5]
theorem aj1{avs:List (AV U)}{us:List Value}{bad:Key->Bool}(hl:avs.length=us.length)(h:∀(i:Nat)(x:AV U)(u:Value),avs[i]? =some x->us[i]? =some u->RV E w F kv fp bad x u):
  RS E w F kv fp bad (match(generalizing:=false) avs with|[v]=> .v v|vs=> .tJ vs) (J9 us):=by
 match avs,us,hl with
 |[v],[u],_=>exact h 0 v u rfl rfl
 |[],[],_=>exact⟨[],rfl,rfl,h⟩
 |x::y::r,p::q::s,hl=>exact⟨p::q::s,rfl,hl,h⟩
def OY(tl:List (Key×ir U×List Nat))(fp:Key->List Nat)(k:Key):List Nat:=match tl.find? (fun t=>iw t.1 k) with|some t=>t.2.2|none=>fp k
theorem ak9{tl:List (Key×ir U×List Nat)}(hn:(tl.map (·.1)).Nodup){t:Key×ir U×List Nat}(ht:t∈tl):tl.find? (fun s=>iw s.1 t.1)=some t:=by
 induction tl with
 |nil=>cases ht
 |cons s tl ih=>
  rw[tI,rv] at hn
  rcases jw.1 ht with rfl|ht
  ·simp[wR]
  ·have et:iw s.1 t.1=false:=HY.2 fun e=>hn.1 (by rw[e];exact lH.2 ⟨t,ht,rfl⟩)
   rw[List.find?_cons,et]
   exact ih hn.2 ht
theorem Ec{tl:List (Key×ir U×List Nat)}{fp:Key->List Nat}(hn:(tl.map (·.1)).Nodup){t:Key×ir U×List Nat}(ht:t∈tl):OY tl fp t.1=t.2.2:=by
 unfold OY;rw[ak9 hn ht]
theorem Wu{tl:List (Key×ir U×List Nat)}{fp:Key->List Nat}{k:Key}(h:k∉tl.map (·.1)):OY tl fp k=fp k:=by
 unfold OY
 have:tl.find? (fun t=>iw t.1 k)=none:=Zy.2 fun t ht hk=>h (lH.2 ⟨t,ht,nK.1 (by simpa using hk)⟩)
 rw[this]
theorem PG{α:Type}{f:α->List Nat}:∀{l:List α},(l.flatMap f).Nodup->∀{t:α},t∈l->(f t).Nodup
 |[],_,t,ht=>by simp at ht
 |t0::d,h,t,ht=>by
  simp only[xv,pu] at h
  rcases jw.1 ht with rfl|ht
  ·exact h.1
  ·exact PG h.2.1 ht
theorem LY{α:Type}{f:α->List Nat}:∀{l:List α},(l.flatMap f).Nodup->∀{t t':α},t∈l->t'∈l->t≠t'->∀{b:Nat},b∈f t->b∉f t'
 |[],_,t,t',ht,_,_,_,_=>by simp at ht
 |t0::d,h,t,t',ht,OP,et,b,hb=>by
  simp only[xv,pu] at h
  intro aY
  rcases jw.1 ht with e1|h1
  ·rcases jw.1 OP with e2|h2
   ·exact et (e1.trans e2.symm)
   ·subst e1;exact h.2.2 b hb b (nl.2 ⟨t',h2,aY⟩) rfl
  ·rcases jw.1 OP with e2|h2
   ·subst e2;exact h.2.2 b aY b (nl.2 ⟨t,h1,hb⟩) rfl
   ·exact LY h.2.1 h1 h2 et hb aY
theorem alF(hC:∀g k,E.K3 g=some k->wB E.P g/\ee E g k)(h:cG E pm F kv fp σ a w){o:Oper}(hd:∀d,o.dst=some d->d<σ.n){cl:Call}{f:FuncId}(p5:o.op=.call cl)(gU:cl.callee=.value (.func f)){k:jH U}(hf:wB E.P f)(hk:ee E f k)
  {xs:List (SV U)} (hxl:xs.length=cl.args.toList.length) (sM:∀x∈xs,∀k∈x.keys,Names σ k) (hxs:∀(i:Nat)(x:SV U)(q:Operand),xs[i]? =some x->cl.args.toList[i]? =some q->RS E w F kv fp (bW σ) x (a.eval q))
  {rs:List Key} {types:List TypeId} {r:ch U} (hr:xf E (restrict σ.bH rs) σ.aC (o.dst.getD 1000000) k types xs=some r) (hp:∀p∈r.pre,p) (ng:∀k∈du o r,¬Names σ k)
  {next:Act->World->Prop} {Q:Exit->Act->World->Prop} (hn:∀F kv fp a' w',cG E pm F kv fp (AM.apply o r σ) a' w'->next a' w'):o.wp E.P a w next Q:=by
 unfold xf at hr
 split at hr
 ·rename_i ps ds kK
  split at hr
  ·rename_i x hof
   split at hr
   ·rename_i us eb lk avs es hmu Xe
    simp only at hr
    generalize XH:(bif sE (k.mE x).fresh (k.mE x).val&& !(w9 k.md) then[] else fu k.md xs)=kH at hr
    cases hc:(mc ((es++eb).map (·.1))&& !(lk.any fun u=>(fu k.md xs).any (iw u))&&AI (restrict σ.bH rs) k.FW k.md (k.want (types.map E.wP)) xs)<;>simp only[hc,cond_false,cond_true] at hr
    ·cases hr
    ·have CK:=UP hr
     have hp:∀p∈ps++k.pre x,p:=by rw[<-CK] at hp;exact hp
     simp only[eE,rj] at hc
     obtain⟨⟨B0,Jt⟩,hc3⟩:=hc
     have Xu:=k.law ds x hof
     obtain⟨ls,mo,apX,Jn,amd,CN,al5,al6,xL⟩:=alP hC (K:=(fu k.md xs).filter fun k=>(σ.bH k).isSome) (vs:=cl.args.toList.map a.eval) h kK (fun p j_=>hp p (by simp[j_])) (by simp[hxl]) (fun i y u hy hu=>by
      rw[lZ] at hu
      cases hq:cl.args.toList[i]? with
      |none=>rw[hq] at hu;cases hu
      |some q=>rw[hq] at hu;cases hu;exact hxs i y q hy hq) sM (fun _ h1 h2=>BW.2 ⟨h1,h2⟩) hmu
     have If:rh w k.FW k.md ds (cl.args.toList.map a.eval):=aj3 h kK (by simp[hxl]) (fun i y u hy hu=>by
      rw[lZ] at hu
      cases hq:cl.args.toList[i]? with
      |none=>rw[hq] at hu;cases hu
      |some q=>rw[hq] at hu;cases hu;exact hxs i y q hy hq) hc3
     rw[<-Xu] at mo If
     have al8:∀k'∈lk,k'∉fu k.md xs:=by
      intro u hu px
      have:(lk.any fun u=>(fu k.md xs).any (iw u))=true:=sA.2 ⟨u,hu,qe.2 px⟩
      rw[this] at Jt;cases Jt
     have BY:∀{k':Key}{b:Nat},(σ.bH k').isSome=true->b∈fp k'->¬F b/\(pm.W b\/pm.w0.heap.size<=b)/\b<w.heap.size:=by
      intro k' b cM hb
      obtain⟨e,he⟩:=lJ.1 cM
      exact h.ff k' e b he hb
     have vq:∀{k' WU:Key}{b:Nat},k'≠WU->(σ.bH k').isSome=true->(σ.bH WU).isSome=true->b∈fp k'->b∉fp WU:=by
      intro k' WU b et h1 h2 hb
      obtain⟨e,he⟩:=lJ.1 h1
      obtain⟨e',eG⟩:=lJ.1 h2
      exact h.apart k' WU e e' b et he eG hb
     generalize ab6:FK F fp ((fu k.md xs).filter fun k=>(σ.bH k).isSome)=Fc at mo
     have QF:∀b,F b->Fc b:=fun b hb=>by rw[<-ab6];exact .inl hb
     have QE:∀b,Fc b->F b\/∃k'∈fu k.md xs,(σ.bH k').isSome=true/\b∈fp k':=by
      intro b hb
      rw[<-ab6] at hb
      rcases hb with hb|⟨k',cM,hb⟩
      ·exact .inl hb
      ·rw[BW] at cM
       exact .inr ⟨k',cM.1,cM.2,hb⟩
     have X4:∀b,Fc b->b<w.heap.size:=by
      intro b hb
      rcases QE b hb with hb|⟨k',_,h2,hb⟩
      ·exact h.rI b hb
      ·exact(BY h2 hb).2.2
     have ab5:∀k'∈lk,∀b∈fp k',¬Fc b:=by
      intro u hu b hb uq
      rcases QE b uq with h1|⟨k',h1,h2,h3⟩
      ·exact(BY (Jn u hu).1 hb).1 h1
      ·exact vq (fun e=>al8 u hu (by rw[<-e];exact h1)) h2 (Jn u hu).1 h3 hb
     have Xs:∀b∈ls.flatten,b<w.heap.size/\¬Fc b:=by
      intro b hb
      obtain⟨u,hu,hb⟩:=CN b hb
      exact⟨(BY (Jn u hu).1 hb).2.2,ab5 u hu b hb⟩
     show o.upon E.P a next Q ((execOp a.eval o).run E.P w)
     rw[ajZ p5 gU hf,Oper.upon_enter]
     refine(hk x (fun p j_=>hp p (by simp[j_])) w Fc _ ls X4 (h.lay.fE fun b hb=>⟨QF b hb,rfl⟩) mo If amd Xs).mono ?_
     rintro e w' ⟨VY,pY,iB,rfl,ob,KB,Xo,oi,If,Sn⟩
     show next (a.put o.dst (J9 VY)) w'
     obtain⟨Fn,P1,P2,P3,abL,abO⟩:∃Fn:Nat->Prop,(∀b,F b->Fn b)/\(∀b,Fn b->Fc b\/((w.heap.size<=b\/b∈ls.flatten)/\b<w'.heap.size/\b∉pY.flatten++iB.flatten))/\
       (∀k' b,k'∉kH->k'∉lk->(σ.bH k').isSome=true->b∈fp k'->¬Fn b)/\lW E w' Fn (k.mE x).fresh (k.mE x).val VY pY/\eR E w' Fn w k.md (cl.args.toList.map a.eval) (k.mE x).Gg iB:=by
      cases Jl:(sE (k.mE x).fresh (k.mE x).val&& !(w9 k.md))<;>simp only[Jl,cond_true,cond_false] at XH
      ·refine⟨_,fun b hb=> .inl (QF b hb),fun b hb=>hb,fun k' b cM kJ hl hb KU=> ?_,KB,Xo⟩
       rcases KU with KU|KU
       ·rcases QE b KU with h1|⟨WU,h1,h2,h3⟩
        ·exact(BY hl hb).1 h1
        ·exact vq (fun e=>cM (by rw[<-XH,<-e];exact h1)) h2 hl h3 hb
       ·rcases KU.1 with g|g
        ·have:=(BY hl hb).2.2
         omega
        ·obtain⟨u,hu,aY⟩:=CN b g
         exact vq (fun e=>kJ (by rw[<-e];exact hu)) (Jn u hu).1 hl aY hb
      ·simp only[eE,rj] at Jl
       exact⟨F,fun b hb=>hb,fun b hb=> .inl (QF b hb),fun k' b _ _ hl hb=>(BY hl hb).1,KB.any Jl.1,Xo.any Jl.2⟩
     have iA:∀b,b<w.heap.size->b∉ls.flatten->w'.heap[b]? =w.heap[b]? :=fun b h1 h2=>ob.block b h1 h2
     have sL:w.heap.size<=w'.heap.size:=ob.size
     have apV:=oi
     rw[pu] at oi
     have xM:∀b,F b->Fn b/\w'.heap[b]? =w.heap[b]? :=fun b hb=>⟨P1 b hb,iA b (h.rI b hb) (fun aY=>(Xs b aY).2 (QF b hb))⟩
     obtain⟨tl,t,htl,rfl,hT1,hT2,hT3,hT4⟩:=xL w' Fn iB abO xM (fun k hk c hc gU=>iA c (BY (Jn k hk).1 hc).2.2 gU) oi.2.1 (fun b hb=>(Sn b hb).imp id fun g k hk iq=>by have:=(BY (Jn k hk).1 iq).2.2;omega)
     obtain⟨d,rfl,d1,d2,d3⟩:=aaF Xe abL
     have amc:∀b∈iB.flatten,b<w'.heap.size:=fun b hb=>by
      rcases Sn b hb with g|g
      ·have:=(Xs b g).1;omega
      ·exact g.2
     have hC:∀b,(b∈pY.flatten++iB.flatten\/(b∉ls.flatten/\∃k'∈lk,b∈fp k'))->¬Fn b/\(pm.W b\/pm.w0.heap.size<=b)/\b<w'.heap.size/\∀k',(σ.bH k').isSome=true->k'∉lk->b∉fp k':=by
      intro b hb
      have Jm:¬((w.heap.size<=b\/b∈ls.flatten)/\b<w'.heap.size/\b∉pY.flatten++iB.flatten):=fun h1=>by
       rcases hb with hb|hb
       ·exact h1.2.2 hb
       ·rcases h1.1 with g|g
        ·obtain⟨k',cM,aY⟩:=hb.2
         have:=(BY (Jn k' cM).1 aY).2.2
         omega
        ·exact hb.1 g
      have Nu:(w.heap.size<=b/\b<w'.heap.size/\b∈pY.flatten++iB.flatten)\/∃k'∈lk,b∈fp k':=by
       rcases hb with hb|hb
       ·have h0:(b∈ls.flatten\/w.heap.size<=b)/\b<w'.heap.size:=by
         rcases kA.1 hb with g|g
         ·exact If b g
         ·exact⟨(Sn b g).imp id fun g=>g.1,amc b g⟩
        rcases h0.1 with g|g
        ·exact .inr (CN b g)
        ·exact .inl ⟨g,h0.2,hb⟩
       ·exact .inr hb.2
      rcases Nu with⟨g1,g2,g3⟩|⟨k',cM,aY⟩
      ·refine⟨fun uq=> ?_,.inr (BU h.upto.size g1),g2,fun k' hl _ aY=> ?_⟩
       ·rcases P2 b uq with h1|h1
        ·have:=X4 b h1;omega
        ·exact Jm h1
       ·have:=(BY hl aY).2.2;omega
      ·have h3:=BY (Jn k' cM).1 aY
       refine⟨fun uq=> ?_,h3.2.1,by omega,fun WU hl hn Co=>vq (fun e=>hn (by rw[<-e];exact cM)) (Jn k' cM).1 hl aY Co⟩
       rcases P2 b uq with h1|h1
       ·exact ab5 k' cM b aY h1
       ·exact Jm h1
     have hCt:∀b∈tl.flatMap (·.2.2)++t.bl,b∈pY.flatten++iB.flatten\/(b∉ls.flatten/\∃k'∈lk,b∈fp k'):=fun b hb=>(hT4 b hb).imp (fun g=>oq _ g) (fun g=>g)
     have hCd:∀b∈d.bl,b∈pY.flatten++iB.flatten\/(b∉ls.flatten/\∃k'∈lk,b∈fp k'):=fun b hb=> .inl (pw _ (by rw[<-d2];exact hb))
     have Ns:∀b∈d.bl,b∉tl.flatMap (·.2.2)++t.bl:=by
      intro b hb aY
      rw[d2] at hb
      rcases hT4 b aY with g|⟨g1,k',cM,g2⟩
      ·exact oi.2.2 b hb b g rfl
      ·rcases(If b hb).1 with g3|g3
       ·exact g1 g3
       ·have:=(BY (Jn k' cM).1 g2).2.2;omega
     generalize hD:(d++t:eZ U)=D
     have X5:D.bl=d.bl++t.bl:=by rw[<-hD,eZ.tu]
     have ab0:D.bl.Nodup:=by
      rw[X5,pu]
      rw[pu] at hT3
      exact⟨by rw[d2];exact oi.1,hT3.2.1,fun b hb c hc e=>Ns b hb (oq _ (by rw[e];exact hc))⟩
     have htn:(tl.flatMap (·.2.2)).Nodup:=(pu.1 hT3).1
     have hDt:∀b∈D.bl,b∉tl.flatMap (·.2.2):=by
      intro b hb aY
      rw[X5,kA] at hb
      rcases hb with g|g
      ·exact Ns b g (pw _ aY)
      ·exact(pu.1 hT3).2.2 b aY b g rfl
     have hCD:∀b∈D.bl,b∈pY.flatten++iB.flatten\/(b∉ls.flatten/\∃k'∈lk,b∈fp k'):=by
      intro b hb
      rw[X5,kA] at hb
      rcases hb with g|g
      ·exact hCd b g
      ·exact hCt b (oq _ g)
     have Js:(D.map (·.1)).Nodup:=by
      have:=abc.1 B0
      rw[<-hD]
      simpa[eZ.es,Function.comp_def] using this
     have hD1:∀s∈D,∀kv fp bad,ri E w' Fn kv fp bad s.2.1 s.2.2.1 s.2.2.2:=by
      intro s hs
      rw[<-hD,kA] at hs
      rcases hs with hs|hs
      ·exact d1 s hs
      ·exact hT2 s hs
     have jV:∀k',k'∈du o r↔∃s∈D,k'=(o.dst.getD 1000000,s.1):=by
      intro k'
      rw[<-CK,<-hD]
      simp only[du,eZ.es,lH,kA]
      constructor
      ·rintro⟨p,(⟨s,hs,rfl⟩|⟨s,hs,rfl⟩),rfl⟩
       ·exact⟨s,.inl hs,rfl⟩
       ·exact⟨s,.inr hs,rfl⟩
      ·rintro⟨s,(hs|hs),rfl⟩
       ·exact⟨_,.inl ⟨s,hs,rfl⟩,rfl⟩
       ·exact⟨_,.inr ⟨s,hs,rfl⟩,rfl⟩
     have kl:jp r=us.map (·.1):=by rw[<-CK];rfl
     have Ie:us.map (·.1)=tl.map (·.1):=by rw[<-htl];simp[Function.comp_def]
     have Qj:(tl.map (·.1)).Nodup:=by rw[<-Ie];exact al5
     have w5:r.kH=kH++lk:=by rw[<-CK]
     have jz:∀k',k'∉du o r->D.yi (o.dst.getD 1000000) kv k'=kv k'/\D.xb (o.dst.getD 1000000) (OY tl fp) k'=OY tl fp k':=by
      intro k' cM
      exact eZ.other (fun t ht e=>cM ((jV k').2 ⟨t,ht,e⟩)) kv (OY tl fp)
     have al7:∀k'∈lk,k'∉du o r:=fun u hu e=>ng _ e (Jn u hu).2
     have al4:∀k'∈tl.map (·.1),k'∈lk:=by
      intro k' cM
      rw[<-Ie] at cM
      obtain⟨u,hu,rfl⟩:=lH.1 cM
      exact al6 u hu
     have Xm:∀k',Names σ k'->D.yi (o.dst.getD 1000000) kv k'=kv k':=fun k' cM=>(jz k' (fun e=>ng _ e cM)).1
     have ab7:∀s∈D,∀b∈s.2.2.2,b∈D.bl:=fun s hs b hb=>eZ.n6.2 ⟨s,hs,hb⟩
     have W2:∀s∈tl,∀b∈s.2.2,b∈tl.flatMap (·.2.2):=fun s hs b hb=>nl.2 ⟨s,hs,hb⟩
     refine hn Fn (D.yi (o.dst.getD 1000000) kv) (D.xb (o.dst.getD 1000000) (OY tl fp)) _ w' ?_
     refine cG.apply h o r (J9 VY) hd ?_ (fun k' cM=>(jz k' cM).1) ?_ ng xM ?_ ?_ ?_ ?_ ?_ ?_ ?_ sL
     ·intro sv A_
      rw[<-CK] at A_
      simp only[fJ] at A_
      subst A_
      obtain⟨g1,g2⟩:=d3 (D.yi (o.dst.getD 1000000) kv) (D.xb (o.dst.getD 1000000) (OY tl fp)) (bW (AM.apply o r σ)) (fun s hs=>eZ.vh Js (by rw[<-hD];exact pw _ hs))
      exact aj1 g1 g2
     ·intro k' h1 h2
      rw[(jz k' h1).2]
      exact Wu (by rw[<-Ie,<-kl];exact h2)
     ·intro k' e h1 h2 h3 he b hb
      have hl:(σ.bH k').isSome=true:=by rw[he];rfl
      refine iA b (BY hl hb).2.2 (fun aY=> ?_)
      obtain⟨u,hu,aY⟩:=CN b aY
      exact vq (fun e'=>h3 (by rw[w5];exact oq _ (by rw[<-e'];exact hu))) (Jn u hu).1 hl aY hb
     ·rintro k' e (⟨j,rfl,hj⟩|hu)
      ·have:∃s∈D,s.1=j/\s.2.1=e:=by
        rw[<-CK] at hj
        rw[<-hD]
        simp only[eZ.es,lH,kA,nE] at hj
        rcases hj with⟨s,h1,h2,h3⟩|⟨s,h1,h2,h3⟩
        ·exact⟨s,pw _ h1,h2,h3⟩
        ·exact⟨s,oq _ h1,h2,h3⟩
       obtain⟨s,hs,rfl,rfl⟩:=this
       rw[eZ.vh Js hs,eZ.sO Js hs]
       refine⟨hD1 s hs _ _ _,eZ.vO ab0 hs,fun b hb=> ?_⟩
       obtain⟨c1,c2,c3,_⟩:=hC b (hCD b (ab7 s hs b hb))
       exact⟨c1,c2,c3⟩
      ·have hu:(k',e)∈us:=by rw[<-CK] at hu;exact hu
       rw[<-htl] at hu
       obtain⟨s,hs,hse⟩:=lH.1 hu
       simp only[nE] at hse
       obtain⟨rfl,rfl⟩:=hse
       have hsk:s.1∈lk:=al4 _ (lH.2 ⟨s,hs,rfl⟩)
       have OR:=al7 _ hsk
       rw[(jz _ OR).1,(jz _ OR).2,Ec Qj hs]
       refine⟨hT1 s hs _ _ _ Xm (fun s' jG=>eZ.vh Js (by rw[<-hD];exact oq _ jG)),PG htn hs,fun b hb=> ?_⟩
       obtain⟨c1,c2,c3,_⟩:=hC b (hCt b (pw _ (W2 s hs b hb)))
       exact⟨c1,c2,c3⟩
     ·intro k' e b _ _ h3 he hb
      rw[w5] at h3
      exact P3 k' b (fun e=>h3 (pw _ e)) (fun e=>h3 (oq _ e)) (by rw[he];rfl) hb
     ·
      have hA:∀s∈D,∀k' b,k'≠(o.dst.getD 1000000,s.1)->(k'∈du o r\/k'∈jp r\/(k'∉r.kH/\(σ.bH k').isSome))->b∈s.2.2.2->b∉D.xb (o.dst.getD 1000000) (OY tl fp) k':=by
       intro s hs k' b et cM hb aY
       have hbD:=ab7 s hs b hb
       by_cases Nf:k'∈du o r
       ·obtain⟨s',jG,rfl⟩:=(jV k').1 Nf
        rw[eZ.sO Js jG] at aY
        exact eZ.pU ab0 hs jG (fun e=>et (by rw[e])) hb aY
       ·rw[(jz k' Nf).2] at aY
        by_cases hku:k'∈tl.map (·.1)
        ·obtain⟨s',jG,rfl⟩:=lH.1 hku
         rw[Ec Qj jG] at aY
         exact hDt b hbD (W2 s' jG b aY)
        ·rw[Wu hku] at aY
         have hk3:k'∉r.kH/\(σ.bH k').isSome:=by
          rcases cM with cM|cM|cM
          ·exact absurd cM Nf
          ·exact absurd (by rw[<-Ie,<-kl];exact cM) hku
          ·exact cM
         rw[w5] at hk3
         exact(hC b (hCD b hbD)).2.2.2 k' hk3.2 (fun e=>hk3.1 (oq _ e)) aY
      intro k1 k2 b et h1 h2 hb
      by_cases h1a:k1∈du o r
      ·obtain⟨s,hs,rfl⟩:=(jV k1).1 h1a
       rw[eZ.sO Js hs] at hb
       exact hA s hs k2 b (Ne.symm et) h2 hb
      ·have h1u:k1∈tl.map (·.1):=by rw[<-Ie,<-kl];exact h1.resolve_left h1a
       obtain⟨s1,W7,rfl⟩:=lH.1 h1u
       by_cases h2a:k2∈du o r
       ·obtain⟨s,hs,rfl⟩:=(jV k2).1 h2a
        intro aY
        rw[eZ.sO Js hs] at aY
        exact hA s hs s1.1 b et (.inr (.inl (by rw[kl,Ie];exact h1u))) aY hb
       ·rw[(jz _ h1a).2,Ec Qj W7] at hb
        rw[(jz _ h2a).2]
        by_cases h2u:k2∈tl.map (·.1)
        ·obtain⟨s2,Zc,rfl⟩:=lH.1 h2u
         rw[Ec Qj Zc]
         exact LY htn W7 Zc (fun e=>et (by rw[e])) hb
        ·rw[Wu h2u]
         have h2l:k2∉r.kH/\(σ.bH k2).isSome:=by
          rcases h2 with h2|h2|h2
          ·exact absurd h2 h2a
          ·exact absurd (by rw[<-Ie,<-kl];exact h2) h2u
          ·exact h2
         rw[w5] at h2l
         exact(hC b (hCt b (pw _ (W2 s1 W7 b hb)))).2.2.2 k2 h2l.2 (fun e=>h2l.1 (oq _ e))
     ·intro b hb
      rcases P2 b hb with h1|h1
      ·have:=X4 b h1;omega
      ·exact h1.2.1
     ·intro b hb
      rcases P2 b hb with h1|h1
      ·rcases QE b h1 with h2|⟨k',_,h2,h3⟩
       ·exact h.rH b h2
       ·exact .inr (BY h2 h3).2.1
      ·rcases h1.1 with g|g
       ·exact .inr (.inr (BU h.upto.size g))
       ·obtain⟨u,hu,aY⟩:=CN b g
        exact .inr (BY (Jn u hu).1 aY).2.1
     ·refine h.upto.trans (ob.mono (fun b hb=> ?_))
      obtain⟨u,hu,hb⟩:=CN b hb
      exact(BY (Jn u hu).1 hb).2.1
   ·cases hr
  ·cases hr
 ·cases hr
end AM
