/- THE ABSTRACT MACHINE: a call by its contract. -/
import Derived.Test.YtlachfpabecaeaaQAmCall4
namespace AM
set_option linter.unusedVariables false
open Go
variable{U:dh}{E:Env U}{pm:Pm}
variable{F F':Nat->Prop}{kv:Key->Value}{fp:Key->List Nat}{σ:aa U}{a:Act}{w w':World}{bad:Key->Bool}
theorem DR{l:List Nat}:et l=true↔l.Nodup:=by
 induction l with
 |nil=>simp[et]
 |cons k l ih=>
  simp only[et,dR,k_,fU,ih]
  rw[<-nq,jg]
  simp
theorem bm.uY{d:bm U}{dst:Nat}{k:Key}{t:Nat×b9 U×Value×List Nat}(h:d.find? (fun t=>cn (dst,t.1) k)=some t):t∈d/\k=(dst,t.1):=
 ⟨List.mem_of_find?_eq_some h,(fb.1 (by simpa using List.find?_some h)).symm⟩
theorem bm.rP{d:bm U}{dst:Nat}(hn:(d.map (·.1)).Nodup){t:Nat×b9 U×Value×List Nat}(ht:t∈d):d.find? (fun t'=>cn (dst,t'.1) (dst,t.1))=some t:=by
 cases hf:d.find? (fun t'=>cn (dst,t'.1) (dst,t.1)) with
 |none=>
  have:=GY.1 hf t ht
  simp[kr] at this
 |some t'=>
  obtain⟨h1,h2⟩:=bm.uY hf
  have h3:t'.1=t.1:=by simpa using h2.symm
  rw[Cj,List.pairwise_map] at hn
  by_cases he:t'=t
  ·rw[he]
  ·exfalso
   have hp:=hn
   obtain⟨i,hi,fP⟩:=pA h1
   obtain⟨j,hj,gY⟩:=pA ht
   rw[Oi] at hp
   rcases Nat.lt_trichotomy i j with h|h|h
   ·exact hp i j hi hj h (by rw[fP,gY,h3])
   ·subst h;exact he (by rw[<-fP,<-gY])
   ·exact hp j i hj hi h (by rw[fP,gY,h3])
theorem bm.jI{d:bm U}{dst:Nat}{kv:Key->Value}(hn:(d.map (·.1)).Nodup){t:Nat×b9 U×Value×List Nat}(ht:t∈d):d.lg dst kv (dst,t.1)=t.2.2.1:=by
 unfold bm.lg;rw[bm.rP hn ht]
theorem bm.iI{d:bm U}{dst:Nat}{fp:Key->List Nat}(hn:(d.map (·.1)).Nodup){t:Nat×b9 U×Value×List Nat}(ht:t∈d):d.kJ dst fp (dst,t.1)=t.2.2.2:=by
 unfold bm.kJ;rw[bm.rP hn ht]
theorem bm.other{d:bm U}{dst:Nat}{k:Key}(h:∀t∈d,k≠(dst,t.1))(kv:Key->Value)(fp:Key->List Nat):d.lg dst kv k=kv k/\d.kJ dst fp k=fp k:=by
 have:d.find? (fun t=>cn (dst,t.1) k)=none:=GY.2 fun t ht hk=>h t ht (fb.1 (by simpa using hk)).symm
 unfold bm.lg bm.kJ
 rw[this]
 exact⟨rfl,rfl⟩
theorem bm.fj{d:bm U}{b:Nat}:b∈d.bl↔∃t∈d,b∈t.2.2.2:=by simp[bm.bl]
theorem bm.j7:∀{d:bm U},d.bl.Nodup->∀{t:Nat×b9 U×Value×List Nat},t∈d->t.2.2.2.Nodup
 |[],_,t,ht=>by simp at ht
 |t0::d,h,t,ht=>by
  simp only[bm.bl,ln,fW] at h
  rcases dQ.1 ht with rfl|ht
  ·exact h.1
  ·exact bm.j7 (d:=d) h.2.1 ht
theorem bm.gg:∀{d:bm U},d.bl.Nodup->∀{t t':Nat×b9 U×Value×List Nat},t∈d->t'∈d->t.1≠t'.1->∀{b:Nat},b∈t.2.2.2->b∉t'.2.2.2
 |[],_,t,t',ht,_,_,_,_=>by simp at ht
 |t0::d,h,t,t',ht,vy,a_,b,hb=>by
  simp only[bm.bl,ln,fW] at h
  intro aj
  rcases dQ.1 ht with rfl|_
  ·rcases dQ.1 vy with rfl|vy
   ·exact a_ rfl
   ·exact h.2.2 b hb b (eY.2 ⟨t',vy,aj⟩) rfl
  ·rename_i Ox
   rcases dQ.1 vy with h0|Pt
   ·subst h0
    exact h.2.2 b aj b (eY.2 ⟨t,Ox,hb⟩) rfl
   ·exact bm.gg (d:=d) h.2.1 Ox Pt a_ hb aj
theorem HM{P:Program}{w:World}{a:Act}{o:Oper}{cl:Call}{f:FuncId}(fV:o.op=.call cl)(cp:cl.callee=.value (.func f))(hf:j_ P f):
  (execOp a.eval o).run P w=.ok (.enter f (cl.args.toList.map a.eval).toArray) w:=by
 obtain⟨fn,h1,h2,h3⟩:=hf
 have e:execOp a.eval o=callFunc f (#[]++cl.args.map a.eval++ #[]):=by
  unfold execOp
  rw[fV]
  simp only[resolve,cp]
  rfl
 rw[e]
 have e2:(#[]++cl.args.map a.eval++ #[]:Array Value)=(cl.args.toList.map a.eval).toArray:=by
  apply Array.ext'
  simp
 rw[e2]
 have h4:fn.body≠none:=by cases hb:fn.body<;>simp[hb] at h2⊢
 have h5:fn.name≠ "runtime.NumGoroutine" :=by simpa using h3
 simp[callFunc,go_sem,h1,h4,h5]
theorem HO{Fv:List (AV U)}{us:List Value}{bad:Key->Bool}(hl:Fv.length=us.length)(h:∀(i:Nat)(x:AV U)(u:Value),Fv[i]? =some x->us[i]? =some u->RV E w F kv fp bad x u):
  RS E w F kv fp bad (match(generalizing:=false) Fv with|[v]=> .v v|vs=> .iV vs) (nQ us):=by
 match Fv,us,hl with
 |[v],[u],_=>exact h 0 v u rfl rfl
 |[],[],_=>exact⟨[],rfl,rfl,h⟩
 |x::y::r,p::q::s,hl=>exact⟨p::q::s,rfl,hl,h⟩
theorem Pb{ms:List Mode}{xs:List (SV U)}:∀k∈bi ms xs,k∈bi ms xs:=fun _ h=>h
def vG(tl:List (Key×b9 U×List Nat))(fp:Key->List Nat)(k:Key):List Nat:=match tl.find? (fun t=>cn t.1 k) with|some t=>t.2.2|none=>fp k
theorem I0{tl:List (Key×b9 U×List Nat)}(hn:(tl.map (·.1)).Nodup){t:Key×b9 U×List Nat}(ht:t∈tl):tl.find? (fun s=>cn s.1 t.1)=some t:=by
 induction tl with
 |nil=>cases ht
 |cons s tl ih=>
  rw[mR,fU] at hn
  rcases dQ.1 ht with rfl|ht
  ·simp[kr]
  ·have a_:cn s.1 t.1=false:=qB.2 fun e=>hn.1 (by rw[e];exact ez.2 ⟨t,ht,rfl⟩)
   rw[List.find?_cons,a_]
   exact ih hn.2 ht
theorem ow{tl:List (Key×b9 U×List Nat)}{fp:Key->List Nat}(hn:(tl.map (·.1)).Nodup){t:Key×b9 U×List Nat}(ht:t∈tl):vG tl fp t.1=t.2.2:=by
 unfold vG;rw[I0 hn ht]
theorem yY{tl:List (Key×b9 U×List Nat)}{fp:Key->List Nat}{k:Key}(h:k∉tl.map (·.1)):vG tl fp k=fp k:=by
 unfold vG
 have:tl.find? (fun t=>cn t.1 k)=none:=GY.2 fun t ht hk=>h (ez.2 ⟨t,ht,fb.1 (by simpa using hk)⟩)
 rw[this]
theorem wj{α:Type}{f:α->List Nat}:∀{l:List α},(l.flatMap f).Nodup->∀{t:α},t∈l->(f t).Nodup
 |[],_,t,ht=>by simp at ht
 |t0::d,h,t,ht=>by
  simp only[ln,fW] at h
  rcases dQ.1 ht with rfl|ht
  ·exact h.1
  ·exact wj h.2.1 ht
theorem tI{α:Type}{f:α->List Nat}:∀{l:List α},(l.flatMap f).Nodup->∀{t t':α},t∈l->t'∈l->t≠t'->∀{b:Nat},b∈f t->b∉f t'
 |[],_,t,t',ht,_,_,_,_=>by simp at ht
 |t0::d,h,t,t',ht,vy,a_,b,hb=>by
  simp only[ln,fW] at h
  intro aj
  rcases dQ.1 ht with e1|h1
  ·rcases dQ.1 vy with e2|h2
   ·exact a_ (e1.trans e2.symm)
   ·subst e1;exact h.2.2 b hb b (eY.2 ⟨t',h2,aj⟩) rfl
  ·rcases dQ.1 vy with e2|h2
   ·subst e2;exact h.2.2 b aj b (eY.2 ⟨t,h1,hb⟩) rfl
   ·exact tI h.2.1 h1 h2 a_ hb aj
theorem Ju(hC:∀g k,E.s3 g=some k->j_ E.P g/\aZ E g k)(h:aC E pm F kv fp σ a w){o:Oper}(hd:∀d,o.dst=some d->d<σ.n){cl:Call}{f:FuncId}(fV:o.op=.call cl)(cp:cl.callee=.value (.func f)){k:bB U}(hf:j_ E.P f)(hk:aZ E f k)
  {xs:List (SV U)} (qi:xs.length=cl.args.toList.length) (gi:∀x∈xs,∀k∈x.keys,Names σ k) (JU:∀(i:Nat)(x:SV U)(q:Operand),xs[i]? =some x->cl.args.toList[i]? =some q->RS E w F kv fp (av σ) x (a.eval q))
  {rs:List Key} {types:List TypeId} {r:aw U} (hr:kN E (restrict σ.aq rs) σ.ag (o.dst.getD 1000000) k types xs=some r) (hp:∀p∈r.pre,p) (eK:∀k∈aQ o r,¬Names σ k)
  {next:Act->World->Prop} {Q:Exit->Act->World->Prop} (hn:∀F kv fp a' w',aC E pm F kv fp (AM.apply o r σ) a' w'->next a' w'):o.wp E.P a w next Q:=by
 unfold kN at hr
 split at hr
 ·rename_i ps ds dr
  split at hr
  ·rename_i x Kf
   split at hr
   ·rename_i us eb lk Fv es PI zK
    simp only at hr
    generalize xR:(bif iE (k.cf x).fresh (k.cf x).val&& !(kH k.md) then[] else bi k.md xs)=dn at hr
    cases hc:(et ((es++eb).map (·.1))&& !(lk.any fun u=>(bi k.md xs).any (cn u))&&lW (restrict σ.aq rs) k.qv k.md (k.want (types.map E.kq)) xs)<;>simp only[hc,cond_false,cond_true] at hr
    ·cases hr
    ·have nw:=yf hr
     have hp:∀p∈ps++k.pre x,p:=by rw[<-nw] at hp;exact hp
     simp only[dR,k_] at hc
     obtain⟨⟨mO,rK⟩,E4⟩:=hc
     have zW:=k.law ds x Kf
     obtain⟨ls,eh,PN,rG,Kl,ny,JY,JZ,kX⟩:=JE hC (K:=(bi k.md xs).filter fun k=>(σ.aq k).isSome) (vs:=cl.args.toList.map a.eval) h dr (fun p cT=>hp p (by simp[cT])) (by simp[qi]) (fun i y u hy hu=>by
      rw[eC] at hu
      cases hq:cl.args.toList[i]? with
      |none=>rw[hq] at hu;cases hu
      |some q=>rw[hq] at hu;cases hu;exact JU i y q hy hq) gi (fun _ h1 h2=>po.2 ⟨h1,h2⟩) PI
     have qN:gN w k.qv k.md ds (cl.args.toList.map a.eval):=HQ h dr (by simp[qi]) (fun i y u hy hu=>by
      rw[eC] at hu
      cases hq:cl.args.toList[i]? with
      |none=>rw[hq] at hu;cases hu
      |some q=>rw[hq] at hu;cases hu;exact JU i y q hy hq) E4
     rw[<-zW] at eh qN
     have J1:∀k'∈lk,k'∉bi k.md xs:=by
      intro u hu eU
      have:(lk.any fun u=>(bi k.md xs).any (cn u))=true:=jg.2 ⟨u,hu,gr.2 eU⟩
      rw[this] at rK;cases rK
     have mL:∀{k':Key}{b:Nat},(σ.aq k').isSome=true->b∈fp k'->¬F b/\(pm.W b\/pm.w0.heap.size<=b)/\b<w.heap.size:=by
      intro k' b aG hb
      obtain⟨e,he⟩:=ef.1 aG
      exact h.bC k' e b he hb
     have jS:∀{k' zn:Key}{b:Nat},k'≠zn->(σ.aq k').isSome=true->(σ.aq zn).isSome=true->b∈fp k'->b∉fp zn:=by
      intro k' zn b a_ h1 h2 hb
      obtain⟨e,he⟩:=ef.1 h1
      obtain⟨e',bf⟩:=ef.1 h2
      exact h.apart k' zn e e' b a_ he bf hb
     generalize E_:FK F fp ((bi k.md xs).filter fun k=>(σ.aq k).isSome)=Fc at eh
     have w2:∀b,F b->Fc b:=fun b hb=>by rw[<-E_];exact .inl hb
     have wZ:∀b,Fc b->F b\/∃k'∈bi k.md xs,(σ.aq k').isSome=true/\b∈fp k':=by
      intro b hb
      rw[<-E_] at hb
      rcases hb with hb|⟨k',aG,hb⟩
      ·exact .inl hb
      ·rw[po] at aG
       exact .inr ⟨k',aG.1,aG.2,hb⟩
     have Av:∀b,Fc b->b<w.heap.size:=by
      intro b hb
      rcases wZ b hb with hb|⟨k',_,h2,hb⟩
      ·exact h.hJ b hb
      ·exact(mL h2 hb).2.2
     have E9:∀k'∈lk,∀b∈fp k',¬Fc b:=by
      intro u hu b hb jr
      rcases wZ b jr with h1|⟨k',h1,h2,h3⟩
      ·exact(mL (rG u hu).1 hb).1 h1
      ·exact jS (fun e=>J1 u hu (by rw[<-e];exact h1)) h2 (rG u hu).1 h3 hb
     have zU:∀b∈ls.flatten,b<w.heap.size/\¬Fc b:=by
      intro b hb
      obtain⟨u,hu,hb⟩:=ny b hb
      exact⟨(mL (rG u hu).1 hb).2.2,E9 u hu b hb⟩
     show o.upon E.P a next Q ((execOp a.eval o).run E.P w)
     rw[HM fV cp hf,Oper.upon_enter]
     refine(hk x (fun p cT=>hp p (by simp[cT])) w Fc _ ls Av (h.lay.bD fun b hb=>⟨w2 b hb,rfl⟩) eh qN Kl zU).mono ?_
     rintro e w' ⟨yr,dj,bQ,rfl,eJ,sG,zR,eH,qN,xN⟩
     show next (a.put o.dst (nQ yr)) w'
     obtain⟨Fn,P1,P2,P3,EA,EJ⟩:∃Fn:Nat->Prop,(∀b,F b->Fn b)/\(∀b,Fn b->Fc b\/((w.heap.size<=b\/b∈ls.flatten)/\b<w'.heap.size/\b∉dj.flatten++bQ.flatten))/\
       (∀k' b,k'∉dn->k'∉lk->(σ.aq k').isSome=true->b∈fp k'->¬Fn b)/\dw E w' Fn (k.cf x).fresh (k.cf x).val yr dj/\bk E w' Fn w k.md (cl.args.toList.map a.eval) (k.cf x).qH bQ:=by
      cases rF:(iE (k.cf x).fresh (k.cf x).val&& !(kH k.md))<;>simp only[rF,cond_true,cond_false] at xR
      ·refine⟨_,fun b hb=> .inl (w2 b hb),fun b hb=>hb,fun k' b aG ej hl hb sX=> ?_,sG,zR⟩
       rcases sX with sX|sX
       ·rcases wZ b sX with h1|⟨zn,h1,h2,h3⟩
        ·exact(mL hl hb).1 h1
        ·exact jS (fun e=>aG (by rw[<-xR,<-e];exact h1)) h2 hl h3 hb
       ·rcases sX.1 with g|g
        ·have:=(mL hl hb).2.2
         omega
        ·obtain⟨u,hu,aj⟩:=ny b g
         exact jS (fun e=>ej (by rw[<-e];exact hu)) (rG u hu).1 hl aj hb
      ·simp only[dR,k_] at rF
       exact⟨F,fun b hb=>hb,fun b hb=> .inl (w2 b hb),fun k' b _ _ hl hb=>(mL hl hb).1,sG.any rF.1,zR.any rF.2⟩
     have bW:∀b,b<w.heap.size->b∉ls.flatten->w'.heap[b]? =w.heap[b]? :=fun b h1 h2=>eJ.block b h1 h2
     have iG:w.heap.size<=w'.heap.size:=eJ.size
     have PF:=eH
     rw[fW] at eH
     have kY:∀b,F b->Fn b/\w'.heap[b]? =w.heap[b]? :=fun b hb=>⟨P1 b hb,bW b (h.hJ b hb) (fun aj=>(zU b aj).2 (w2 b hb))⟩
     obtain⟨tl,t,Ow,rfl,Qc,Qb,Gw,OP⟩:=kX w' Fn bQ EJ kY (fun k hk c hc cp=>bW c (mL (rG k hk).1 hc).2.2 cp) eH.2.1 (fun b hb=>(xN b hb).imp id fun g k hk cq=>by have:=(mL (rG k hk).1 cq).2.2;omega)
     obtain⟨d,rfl,d1,d2,d3⟩:=De zK EA
     have Kj:∀b∈bQ.flatten,b<w'.heap.size:=fun b hb=>by
      rcases xN b hb with g|g
      ·have:=(zU b g).1;omega
      ·exact g.2
     have hC:∀b,(b∈dj.flatten++bQ.flatten\/(b∉ls.flatten/\∃k'∈lk,b∈fp k'))->¬Fn b/\(pm.W b\/pm.w0.heap.size<=b)/\b<w'.heap.size/\∀k',(σ.aq k').isSome=true->k'∉lk->b∉fp k':=by
      intro b hb
      have s_:¬((w.heap.size<=b\/b∈ls.flatten)/\b<w'.heap.size/\b∉dj.flatten++bQ.flatten):=fun h1=>by
       rcases hb with hb|hb
       ·exact h1.2.2 hb
       ·rcases h1.1 with g|g
        ·obtain⟨k',aG,aj⟩:=hb.2
         have:=(mL (rG k' aG).1 aj).2.2
         omega
        ·exact hb.1 g
      have uO:(w.heap.size<=b/\b<w'.heap.size/\b∈dj.flatten++bQ.flatten)\/∃k'∈lk,b∈fp k':=by
       rcases hb with hb|hb
       ·have h0:(b∈ls.flatten\/w.heap.size<=b)/\b<w'.heap.size:=by
         rcases cZ.1 hb with g|g
         ·exact qN b g
         ·exact⟨(xN b g).imp id fun g=>g.1,Kj b g⟩
        rcases h0.1 with g|g
        ·exact .inr (ny b g)
        ·exact .inl ⟨g,h0.2,hb⟩
       ·exact .inr hb.2
      rcases uO with⟨g1,g2,g3⟩|⟨k',aG,aj⟩
      ·refine⟨fun jr=> ?_,.inr (tg h.upto.size g1),g2,fun k' hl _ aj=> ?_⟩
       ·rcases P2 b jr with h1|h1
        ·have:=Av b h1;omega
        ·exact s_ h1
       ·have:=(mL hl aj).2.2;omega
      ·have h3:=mL (rG k' aG).1 aj
       refine⟨fun jr=> ?_,h3.2.1,by omega,fun zn hl hn nf=>jS (fun e=>hn (by rw[<-e];exact aG)) (rG k' aG).1 hl aj nf⟩
       rcases P2 b jr with h1|h1
       ·exact E9 k' aG b aj h1
       ·exact s_ h1
     have K5:∀b∈tl.flatMap (·.2.2)++t.bl,b∈dj.flatten++bQ.flatten\/(b∉ls.flatten/\∃k'∈lk,b∈fp k'):=fun b hb=>(OP b hb).imp (fun g=>eZ _ g) (fun g=>g)
     have Ql:∀b∈d.bl,b∈dj.flatten++bQ.flatten\/(b∉ls.flatten/\∃k'∈lk,b∈fp k'):=fun b hb=> .inl (fy _ (by rw[<-d2];exact hb))
     have uM:∀b∈d.bl,b∉tl.flatMap (·.2.2)++t.bl:=by
      intro b hb aj
      rw[d2] at hb
      rcases OP b aj with g|⟨g1,k',aG,g2⟩
      ·exact eH.2.2 b hb b g rfl
      ·rcases(qN b hb).1 with g3|g3
       ·exact g1 g3
       ·have:=(mL (rG k' aG).1 g2).2.2;omega
     generalize hD:(d++t:bm U)=D
     have Aw:D.bl=d.bl++t.bl:=by rw[<-hD,bm.iQ]
     have EW:D.bl.Nodup:=by
      rw[Aw,fW]
      rw[fW] at Gw
      exact⟨by rw[d2];exact eH.1,Gw.2.1,fun b hb c hc e=>uM b hb (eZ _ (by rw[e];exact hc))⟩
     have BO:(tl.flatMap (·.2.2)).Nodup:=(fW.1 Gw).1
     have Qi:∀b∈D.bl,b∉tl.flatMap (·.2.2):=by
      intro b hb aj
      rw[Aw,cZ] at hb
      rcases hb with g|g
      ·exact uM b g (fy _ aj)
      ·exact(fW.1 Gw).2.2 b aj b g rfl
     have OS:∀b∈D.bl,b∈dj.flatten++bQ.flatten\/(b∉ls.flatten/\∃k'∈lk,b∈fp k'):=by
      intro b hb
      rw[Aw,cZ] at hb
      rcases hb with g|g
      ·exact Ql b g
      ·exact K5 b (eZ _ g)
     have rJ:(D.map (·.1)).Nodup:=by
      have:=DR.1 mO
      rw[<-hD]
      simpa[bm.es,Function.comp_def] using this
     have Qk:∀s∈D,∀kv fp bad,gO E w' Fn kv fp bad s.2.1 s.2.2.1 s.2.2.2:=by
      intro s hs
      rw[<-hD,cZ] at hs
      rcases hs with hs|hs
      ·exact d1 s hs
      ·exact Qb s hs
     have cP:∀k',k'∈aQ o r↔∃s∈D,k'=(o.dst.getD 1000000,s.1):=by
      intro k'
      rw[<-nw,<-hD]
      simp only[aQ,bm.es,ez,cZ]
      constructor
      ·rintro⟨p,(⟨s,hs,rfl⟩|⟨s,hs,rfl⟩),rfl⟩
       ·exact⟨s,.inl hs,rfl⟩
       ·exact⟨s,.inr hs,rfl⟩
      ·rintro⟨s,(hs|hs),rfl⟩
       ·exact⟨_,.inl ⟨s,hs,rfl⟩,rfl⟩
       ·exact⟨_,.inr ⟨s,hs,rfl⟩,rfl⟩
     have cX:cF r=us.map (·.1):=by rw[<-nw];rfl
     have qM:us.map (·.1)=tl.map (·.1):=by rw[<-Ow];simp[Function.comp_def]
     have wI:(tl.map (·.1)).Nodup:=by rw[<-qM];exact JY
     have kE:r.dn=dn++lk:=by rw[<-nw]
     have cL:∀k',k'∉aQ o r->D.lg (o.dst.getD 1000000) kv k'=kv k'/\D.kJ (o.dst.getD 1000000) (vG tl fp) k'=vG tl fp k':=by
      intro k' aG
      exact bm.other (fun t ht e=>aG ((cP k').2 ⟨t,ht,e⟩)) kv (vG tl fp)
     have J0:∀k'∈lk,k'∉aQ o r:=fun u hu e=>eK _ e (rG u hu).2
     have JX:∀k'∈tl.map (·.1),k'∈lk:=by
      intro k' aG
      rw[<-qM] at aG
      obtain⟨u,hu,rfl⟩:=ez.1 aG
      exact JZ u hu
     have zP:∀k',Names σ k'->D.lg (o.dst.getD 1000000) kv k'=kv k':=fun k' aG=>(cL k' (fun e=>eK _ e aG)).1
     have Fb:∀s∈D,∀b∈s.2.2.2,b∈D.bl:=fun s hs b hb=>bm.fj.2 ⟨s,hs,hb⟩
     have zx:∀s∈tl,∀b∈s.2.2,b∈tl.flatMap (·.2.2):=fun s hs b hb=>eY.2 ⟨s,hs,hb⟩
     refine hn Fn (D.lg (o.dst.getD 1000000) kv) (D.kJ (o.dst.getD 1000000) (vG tl fp)) _ w' ?_
     refine aC.apply h o r (nQ yr) hd ?_ (fun k' aG=>(cL k' aG).1) ?_ eK kY ?_ ?_ ?_ ?_ ?_ ?_ ?_ iG
     ·intro sv mg
      rw[<-nw] at mg
      simp only[bM] at mg
      subst mg
      obtain⟨g1,g2⟩:=d3 (D.lg (o.dst.getD 1000000) kv) (D.kJ (o.dst.getD 1000000) (vG tl fp)) (av (AM.apply o r σ)) (fun s hs=>bm.jI rJ (by rw[<-hD];exact fy _ hs))
      exact HO g1 g2
     ·intro k' h1 h2
      rw[(cL k' h1).2]
      exact yY (by rw[<-qM,<-cX];exact h2)
     ·intro k' e h1 h2 h3 he b hb
      have hl:(σ.aq k').isSome=true:=by rw[he];rfl
      refine bW b (mL hl hb).2.2 (fun aj=> ?_)
      obtain⟨u,hu,aj⟩:=ny b aj
      exact jS (fun e'=>h3 (by rw[kE];exact eZ _ (by rw[<-e'];exact hu))) (rG u hu).1 hl aj hb
     ·rintro k' e (⟨j,rfl,hj⟩|hu)
      ·have:∃s∈D,s.1=j/\s.2.1=e:=by
        rw[<-nw] at hj
        rw[<-hD]
        simp only[bm.es,ez,cZ,eX] at hj
        rcases hj with⟨s,h1,h2,h3⟩|⟨s,h1,h2,h3⟩
        ·exact⟨s,fy _ h1,h2,h3⟩
        ·exact⟨s,eZ _ h1,h2,h3⟩
       obtain⟨s,hs,rfl,rfl⟩:=this
       rw[bm.jI rJ hs,bm.iI rJ hs]
       refine⟨Qk s hs _ _ _,bm.j7 EW hs,fun b hb=> ?_⟩
       obtain⟨c1,c2,c3,_⟩:=hC b (OS b (Fb s hs b hb))
       exact⟨c1,c2,c3⟩
      ·have hu:(k',e)∈us:=by rw[<-nw] at hu;exact hu
       rw[<-Ow] at hu
       obtain⟨s,hs,Oy⟩:=ez.1 hu
       simp only[eX] at Oy
       obtain⟨rfl,rfl⟩:=Oy
       have Pv:s.1∈lk:=JX _ (ez.2 ⟨s,hs,rfl⟩)
       have vz:=J0 _ Pv
       rw[(cL _ vz).1,(cL _ vz).2,ow wI hs]
       refine⟨Qc s hs _ _ _ zP (fun s' cO=>bm.jI rJ (by rw[<-hD];exact eZ _ cO)),wj BO hs,fun b hb=> ?_⟩
       obtain⟨c1,c2,c3,_⟩:=hC b (K5 b (fy _ (zx s hs b hb)))
       exact⟨c1,c2,c3⟩
     ·intro k' e b _ _ h3 he hb
      rw[kE] at h3
      exact P3 k' b (fun e=>h3 (fy _ e)) (fun e=>h3 (eZ _ e)) (by rw[he];rfl) hb
     ·
      have hA:∀s∈D,∀k' b,k'≠(o.dst.getD 1000000,s.1)->(k'∈aQ o r\/k'∈cF r\/(k'∉r.dn/\(σ.aq k').isSome))->b∈s.2.2.2->b∉D.kJ (o.dst.getD 1000000) (vG tl fp) k':=by
       intro s hs k' b a_ aG hb aj
       have ON:=Fb s hs b hb
       by_cases uB:k'∈aQ o r
       ·obtain⟨s',cO,rfl⟩:=(cP k').1 uB
        rw[bm.iI rJ cO] at aj
        exact bm.gg EW hs cO (fun e=>a_ (by rw[e])) hb aj
       ·rw[(cL k' uB).2] at aj
        by_cases Ku:k'∈tl.map (·.1)
        ·obtain⟨s',cO,rfl⟩:=ez.1 Ku
         rw[ow wI cO] at aj
         exact Qi b ON (zx s' cO b aj)
        ·rw[yY Ku] at aj
         have Kw:k'∉r.dn/\(σ.aq k').isSome:=by
          rcases aG with aG|aG|aG
          ·exact absurd aG uB
          ·exact absurd (by rw[<-qM,<-cX];exact aG) Ku
          ·exact aG
         rw[kE] at Kw
         exact(hC b (OS b ON)).2.2.2 k' Kw.2 (fun e=>Kw.1 (eZ _ e)) aj
      intro k1 k2 b a_ h1 h2 hb
      by_cases La:k1∈aQ o r
      ·obtain⟨s,hs,rfl⟩:=(cP k1).1 La
       rw[bm.iI rJ hs] at hb
       exact hA s hs k2 b (Ne.symm a_) h2 hb
      ·have Az:k1∈tl.map (·.1):=by rw[<-qM,<-cX];exact h1.resolve_left La
       obtain⟨s1,zD,rfl⟩:=ez.1 Az
       by_cases K_:k2∈aQ o r
       ·obtain⟨s,hs,rfl⟩:=(cP k2).1 K_
        intro aj
        rw[bm.iI rJ hs] at aj
        exact hA s hs s1.1 b a_ (.inr (.inl (by rw[cX,qM];exact Az))) aj hb
       ·rw[(cL _ La).2,ow wI zD] at hb
        rw[(cL _ K_).2]
        by_cases K8:k2∈tl.map (·.1)
        ·obtain⟨s2,BP,rfl⟩:=ez.1 K8
         rw[ow wI BP]
         exact tI BO zD BP (fun e=>a_ (by rw[e])) hb
        ·rw[yY K8]
         have K9:k2∉r.dn/\(σ.aq k2).isSome:=by
          rcases h2 with h2|h2|h2
          ·exact absurd h2 K_
          ·exact absurd (by rw[<-qM,<-cX];exact h2) K8
          ·exact h2
         rw[kE] at K9
         exact(hC b (K5 b (fy _ (zx s1 zD b hb)))).2.2.2 k2 K9.2 (fun e=>K9.1 (eZ _ e))
     ·intro b hb
      rcases P2 b hb with h1|h1
      ·have:=Av b h1;omega
      ·exact h1.2.1
     ·intro b hb
      rcases P2 b hb with h1|h1
      ·rcases wZ b h1 with h2|⟨k',_,h2,h3⟩
       ·exact h.hH b h2
       ·exact .inr (mL h2 h3).2.1
      ·rcases h1.1 with g|g
       ·exact .inr (.inr (tg h.upto.size g))
       ·obtain⟨u,hu,aj⟩:=ny b g
        exact .inr (mL (rG u hu).1 aj).2.1
     ·refine h.upto.trans (eJ.mono (fun b hb=> ?_))
      obtain⟨u,hu,hb⟩:=ny b hb
      exact(mL (rG u hu).1 hb).2.1
   ·cases hr
  ·cases hr
 ·cases hr
end AM
