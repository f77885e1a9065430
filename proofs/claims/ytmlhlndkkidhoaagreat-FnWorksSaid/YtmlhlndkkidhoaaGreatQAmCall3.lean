/- THE ABSTRACT MACHINE: a call by its contract. -/
import Derived.Test.YtmlhlndkkidhoaaGreatQAmCall4
namespace AM
set_option linter.unusedVariables false
open Go
variable{U:kZ}{E:Env U}{pm:Pm}
variable{F F':Nat->Prop}{kv:Key->Value}{fp:Key->List Nat}{σ:ah U}{a:Act}{w w':World}{bad:Key->Bool}
theorem acS{l:List Nat}:nc l=true↔l.Nodup:=by
 induction l with
 |nil=>simp[nc]
 |cons k l ih=>
  simp only[nc,cK,ql,sN,ih]
  rw[<-yi,tZ]
  simp
theorem fi.Qo{d:fi U}{dst:Nat}{k:Key}{t:Nat×iv U×Value×List Nat}(h:d.find? (fun t=>iJ (dst,t.1) k)=some t):t∈d/\k=(dst,t.1):=
 ⟨List.mem_of_find?_eq_some h,(o6.1 (by simpa using List.find?_some h)).symm⟩
theorem fi.Md{d:fi U}{dst:Nat}(hn:(d.map (·.1)).Nodup){t:Nat×iv U×Value×List Nat}(ht:t∈d):d.find? (fun t'=>iJ (dst,t'.1) (dst,t.1))=some t:=by
 cases hf:d.find? (fun t'=>iJ (dst,t'.1) (dst,t.1)) with
 |none=>
  have:=zeb.1 hf t ht
  simp[yB] at this
 |some t'=>
  obtain⟨h1,h2⟩:=fi.Qo hf
  have h3:t'.1=t.1:=by simpa using h2.symm
  rw[zdg,List.pairwise_map] at hn
  by_cases he:t'=t
  ·rw[he]
  ·exfalso
   have hp:=hn
   obtain⟨i,hi,pN⟩:=ri h1
   obtain⟨j,hj,s8⟩:=ri ht
   rw[Tn] at hp
   rcases Nat.lt_trichotomy i j with h|h|h
   ·exact hp i j hi hj h (by rw[pN,s8,h3])
   ·subst h;exact he (by rw[<-pN,<-s8])
   ·exact hp j i hj hi h (by rw[pN,s8,h3])
theorem fi.w4{d:fi U}{dst:Nat}{kv:Key->Value}(hn:(d.map (·.1)).Nodup){t:Nat×iv U×Value×List Nat}(ht:t∈d):d.Ai dst kv (dst,t.1)=t.2.2.1:=by
 unfold fi.Ai;rw[fi.Md hn ht]
theorem fi.uu{d:fi U}{dst:Nat}{fp:Key->List Nat}(hn:(d.map (·.1)).Nodup){t:Nat×iv U×Value×List Nat}(ht:t∈d):d.y3 dst fp (dst,t.1)=t.2.2.2:=by
 unfold fi.y3;rw[fi.Md hn ht]
theorem fi.other{d:fi U}{dst:Nat}{k:Key}(h:∀t∈d,k≠(dst,t.1))(kv:Key->Value)(fp:Key->List Nat):d.Ai dst kv k=kv k/\d.y3 dst fp k=fp k:=by
 have:d.find? (fun t=>iJ (dst,t.1) k)=none:=zeb.2 fun t ht hk=>h t ht (o6.1 (by simpa using hk)).symm
 unfold fi.Ai fi.y3
 rw[this]
 exact⟨rfl,rfl⟩
theorem fi.px{d:fi U}{b:Nat}:b∈d.bl↔∃t∈d,b∈t.2.2.2:=by simp[fi.bl]
theorem fi.xE:∀{d:fi U},d.bl.Nodup->∀{t:Nat×iv U×Value×List Nat},t∈d->t.2.2.2.Nodup
 |[],_,t,ht=>by simp at ht
 |t0::d,h,t,ht=>by
  simp only[fi.bl,yh,qB] at h
  rcases jQ.1 ht with rfl|ht
  ·exact h.1
  ·exact fi.xE (d:=d) h.2.1 ht
theorem fi.qW:∀{d:fi U},d.bl.Nodup->∀{t t':Nat×iv U×Value×List Nat},t∈d->t'∈d->t.1≠t'.1->∀{b:Nat},b∈t.2.2.2->b∉t'.2.2.2
 |[],_,t,t',ht,_,_,_,_=>by simp at ht
 |t0::d,h,t,t',ht,Tb,eO,b,hb=>by
  simp only[fi.bl,yh,qB] at h
  intro bf
  rcases jQ.1 ht with rfl|_
  ·rcases jQ.1 Tb with rfl|Tb
   ·exact eO rfl
   ·exact h.2.2 b hb b (nT.2 ⟨t',Tb,bf⟩) rfl
  ·rename_i ht1
   rcases jQ.1 Tb with h0|ht2
   ·subst h0
    exact h.2.2 b bf b (nT.2 ⟨t,ht1,hb⟩) rfl
   ·exact fi.qW (d:=d) h.2.1 ht1 ht2 eO hb bf
theorem alV{P:Program}{w:World}{a:Act}{o:Oper}{cl:Call}{f:FuncId}(rf:o.op=.call cl)(iq:cl.callee=.value (.func f))(hf:yf P f):
  (execOp a.eval o).run P w=.ok (.enter f (cl.args.toList.map a.eval).toArray) w:=by
 obtain⟨fn,h1,h2,h3⟩:=hf
 have e:execOp a.eval o=callFunc f (#[]++cl.args.map a.eval++ #[]):=by
  unfold execOp
  rw[rf]
  simp only[resolve,iq]
  rfl
 rw[e]
 have e2:(#[]++cl.args.map a.eval++ #[]:Array Value)=(cl.args.toList.map a.eval).toArray:=by
  apply Array.ext'
  simp
 rw[e2]
 have h4:fn.body≠none:=by cases hb:fn.body<;>simp[hb] at h2⊢
 have h5:fn.name≠ "runtime.NumGoroutine" :=by simpa using h3
 simp[callFunc,go_sem,h1,h4,h5]
theorem alX{avs:List (AV U)}{us:List Value}{bad:Key->Bool}(hl:avs.length=us.length)(h:∀(i:Nat)(x:AV U)(u:Value),avs[i]? =some x->us[i]? =some u->RV E w F kv fp bad x u):
  RS E w F kv fp bad (match(generalizing:=false) avs with|[v]=> .v v|vs=> .vf vs) (MR us):=by
 match avs,us,hl with
 |[v],[u],_=>exact h 0 v u rfl rfl
 |[],[],_=>exact⟨[],rfl,rfl,h⟩
 |x::y::r,p::q::s,hl=>exact⟨p::q::s,rfl,hl,h⟩
theorem at4{ms:List Mode}{xs:List (SV U)}:∀k∈fc ms xs,k∈fc ms xs:=fun _ h=>h
def Tg(tl:List (Key×iv U×List Nat))(fp:Key->List Nat)(k:Key):List Nat:=match tl.find? (fun t=>iJ t.1 k) with|some t=>t.2.2|none=>fp k
theorem am4{tl:List (Key×iv U×List Nat)}(hn:(tl.map (·.1)).Nodup){t:Key×iv U×List Nat}(ht:t∈tl):tl.find? (fun s=>iJ s.1 t.1)=some t:=by
 induction tl with
 |nil=>cases ht
 |cons s tl ih=>
  rw[uY,sN] at hn
  rcases jQ.1 ht with rfl|ht
  ·simp[yB]
  ·have eO:iJ s.1 t.1=false:=KF.2 fun e=>hn.1 (by rw[e];exact lB.2 ⟨t,ht,rfl⟩)
   rw[List.find?_cons,eO]
   exact ih hn.2 ht
theorem GR{tl:List (Key×iv U×List Nat)}{fp:Key->List Nat}(hn:(tl.map (·.1)).Nodup){t:Key×iv U×List Nat}(ht:t∈tl):Tg tl fp t.1=t.2.2:=by
 unfold Tg;rw[am4 hn ht]
theorem XW{tl:List (Key×iv U×List Nat)}{fp:Key->List Nat}{k:Key}(h:k∉tl.map (·.1)):Tg tl fp k=fp k:=by
 unfold Tg
 have:tl.find? (fun t=>iJ t.1 k)=none:=zeb.2 fun t ht hk=>h (lB.2 ⟨t,ht,o6.1 (by simpa using hk)⟩)
 rw[this]
theorem Ud{α:Type}{f:α->List Nat}:∀{l:List α},(l.flatMap f).Nodup->∀{t:α},t∈l->(f t).Nodup
 |[],_,t,ht=>by simp at ht
 |t0::d,h,t,ht=>by
  simp only[yh,qB] at h
  rcases jQ.1 ht with rfl|ht
  ·exact h.1
  ·exact Ud h.2.1 ht
theorem O3{α:Type}{f:α->List Nat}:∀{l:List α},(l.flatMap f).Nodup->∀{t t':α},t∈l->t'∈l->t≠t'->∀{b:Nat},b∈f t->b∉f t'
 |[],_,t,t',ht,_,_,_,_=>by simp at ht
 |t0::d,h,t,t',ht,Tb,eO,b,hb=>by
  simp only[yh,qB] at h
  intro bf
  rcases jQ.1 ht with e1|h1
  ·rcases jQ.1 Tb with e2|h2
   ·exact eO (e1.trans e2.symm)
   ·subst e1;exact h.2.2 b hb b (nT.2 ⟨t',h2,bf⟩) rfl
  ·rcases jQ.1 Tb with e2|h2
   ·subst e2;exact h.2.2 b bf b (nT.2 ⟨t,h1,hb⟩) rfl
   ·exact O3 h.2.1 h1 h2 eO hb bf
theorem anB(hC:∀g k,E.NY g=some k->yf E.P g/\eu E g k)(h:cE E pm F kv fp σ a w){o:Oper}(hd:∀d,o.dst=some d->d<σ.n){cl:Call}{f:FuncId}(rf:o.op=.call cl)(iq:cl.callee=.value (.func f)){k:bp U}(hf:yf E.P f)(hk:eu E f k)
  {xs:List (SV U)} (hxl:xs.length=cl.args.toList.length) (uk:∀x∈xs,∀k∈x.keys,Names σ k) (hxs:∀(i:Nat)(x:SV U)(q:Operand),xs[i]? =some x->cl.args.toList[i]? =some q->RS E w F kv fp (bW σ) x (a.eval q))
  {rs:List Key} {types:List TypeId} {r:cd U} (hr:ze E (restrict σ.bJ rs) σ.aK (o.dst.getD 1000000) k types xs=some r) (hp:∀p∈r.pre,p) (nM:∀k∈dG o r,¬Names σ k)
  {next:Act->World->Prop} {Q:Exit->Act->World->Prop} (hn:∀F kv fp a' w',cE E pm F kv fp (AM.apply o r σ) a' w'->next a' w'):o.wp E.P a w next Q:=by
 unfold ze at hr
 split at hr
 ·rename_i ps ds ld
  split at hr
  ·rename_i x hof
   split at hr
   ·rename_i us eb lk avs es hmu YG
    simp only at hr
    generalize Wa:(bif ud (k.bT x).fresh (k.bT x).val&& !(yX k.md) then[] else fc k.md xs)=k_ at hr
    cases hc:(nc ((es++eb).map (·.1))&& !(lk.any fun u=>(fc k.md xs).any (iJ u))&&Cz (restrict σ.bJ rs) k.Iq k.md (k.want (types.map E.yu)) xs)<;>simp only[hc,cond_false,cond_true] at hr
    ·cases hr
    ·have Fe:=W3 hr
     have hp:∀p∈ps++k.pre x,p:=by rw[<-Fe] at hp;exact hp
     simp only[cK,ql] at hc
     obtain⟨⟨EF,NG⟩,hc3⟩:=hc
     have YT:=k.law ds x hof
     obtain⟨ls,ol,aua,L5,aoa,Fi,an1,an2,zV⟩:=anN hC (K:=(fc k.md xs).filter fun k=>(σ.bJ k).isSome) (vs:=cl.args.toList.map a.eval) h ld (fun p kq=>hp p (by simp[kq])) (by simp[hxl]) (fun i y u hy hu=>by
      rw[nk] at hu
      cases hq:cl.args.toList[i]? with
      |none=>rw[hq] at hu;cases hu
      |some q=>rw[hq] at hu;cases hu;exact hxs i y q hy hq) uk (fun _ h1 h2=>wA.2 ⟨h1,h2⟩) hmu
     have KX:sD w k.Iq k.md ds (cl.args.toList.map a.eval):=alZ h ld (by simp[hxl]) (fun i y u hy hu=>by
      rw[nk] at hu
      cases hq:cl.args.toList[i]? with
      |none=>rw[hq] at hu;cases hu
      |some q=>rw[hq] at hu;cases hu;exact hxs i y q hy hq) hc3
     rw[<-YT] at ol KX
     have an4:∀k'∈lk,k'∉fc k.md xs:=by
      intro u hu pM
      have:(lk.any fun u=>(fc k.md xs).any (iJ u))=true:=tZ.2 ⟨u,hu,rE.2 pM⟩
      rw[this] at NG;cases NG
     have Ei:∀{k':Key}{b:Nat},(σ.bJ k').isSome=true->b∈fp k'->¬F b/\(pm.W b\/pm.w0.heap.size<=b)/\b<w.heap.size:=by
      intro k' b cO hb
      obtain⟨e,he⟩:=mI.1 cO
      exact h.fK k' e b he hb
     have xb:∀{k' Ym:Key}{b:Nat},k'≠Ym->(σ.bJ k').isSome=true->(σ.bJ Ym).isSome=true->b∈fp k'->b∉fp Ym:=by
      intro k' Ym b eO h1 h2 hb
      obtain⟨e,he⟩:=mI.1 h1
      obtain⟨e',e8⟩:=mI.1 h2
      exact h.apart k' Ym e e' b eO he e8 hb
     generalize adP:FK F fp ((fc k.md xs).filter fun k=>(σ.bJ k).isSome)=Fc at ol
     have U2:∀b,F b->Fc b:=fun b hb=>by rw[<-adP];exact .inl hb
     have U1:∀b,Fc b->F b\/∃k'∈fc k.md xs,(σ.bJ k').isSome=true/\b∈fp k':=by
      intro b hb
      rw[<-adP] at hb
      rcases hb with hb|⟨k',cO,hb⟩
      ·exact .inl hb
      ·rw[wA] at cO
       exact .inr ⟨k',cO.1,cO.2,hb⟩
     have Zi:∀b,Fc b->b<w.heap.size:=by
      intro b hb
      rcases U1 b hb with hb|⟨k',_,h2,hb⟩
      ·exact h.sZ b hb
      ·exact(Ei h2 hb).2.2
     have adO:∀k'∈lk,∀b∈fp k',¬Fc b:=by
      intro u hu b hb u9
      rcases U1 b u9 with h1|⟨k',h1,h2,h3⟩
      ·exact(Ei (L5 u hu).1 hb).1 h1
      ·exact xb (fun e=>an4 u hu (by rw[<-e];exact h1)) h2 (L5 u hu).1 h3 hb
     have YR:∀b∈ls.flatten,b<w.heap.size/\¬Fc b:=by
      intro b hb
      obtain⟨u,hu,hb⟩:=Fi b hb
      exact⟨(Ei (L5 u hu).1 hb).2.2,adO u hu b hb⟩
     show o.upon E.P a next Q ((execOp a.eval o).run E.P w)
     rw[alV rf iq hf,Oper.upon_enter]
     refine(hk x (fun p kq=>hp p (by simp[kq])) w Fc _ ls Zi (h.lay.f_ fun b hb=>⟨U2 b hb,rfl⟩) ol KX aoa YR).mono ?_
     rintro e w' ⟨Xw,re,iQ,rfl,pE,Nm,YN,pL,KX,V'⟩
     show next (a.put o.dst (MR Xw)) w'
     obtain⟨Fn,P1,P2,P3,adq,adu⟩:∃Fn:Nat->Prop,(∀b,F b->Fn b)/\(∀b,Fn b->Fc b\/((w.heap.size<=b\/b∈ls.flatten)/\b<w'.heap.size/\b∉re.flatten++iQ.flatten))/\
       (∀k' b,k'∉k_->k'∉lk->(σ.bJ k').isSome=true->b∈fp k'->¬Fn b)/\mU E w' Fn (k.bT x).fresh (k.bT x).val Xw re/\fe E w' Fn w k.md (cl.args.toList.map a.eval) (k.bT x).IV iQ:=by
      cases L3:(ud (k.bT x).fresh (k.bT x).val&& !(yX k.md))<;>simp only[L3,cond_true,cond_false] at Wa
      ·refine⟨_,fun b hb=> .inl (U2 b hb),fun b hb=>hb,fun k' b cO kU hl hb NJ=> ?_,Nm,YN⟩
       rcases NJ with NJ|NJ
       ·rcases U1 b NJ with h1|⟨Ym,h1,h2,h3⟩
        ·exact(Ei hl hb).1 h1
        ·exact xb (fun e=>cO (by rw[<-Wa,<-e];exact h1)) h2 hl h3 hb
       ·rcases NJ.1 with g|g
        ·have:=(Ei hl hb).2.2
         omega
        ·obtain⟨u,hu,bf⟩:=Fi b g
         exact xb (fun e=>kU (by rw[<-e];exact hu)) (L5 u hu).1 hl bf hb
      ·simp only[cK,ql] at L3
       exact⟨F,fun b hb=>hb,fun b hb=> .inl (U2 b hb),fun k' b _ _ hl hb=>(Ei hl hb).1,Nm.any L3.1,YN.any L3.2⟩
     have iN:∀b,b<w.heap.size->b∉ls.flatten->w'.heap[b]? =w.heap[b]? :=fun b h1 h2=>pE.block b h1 h2
     have wy:w.heap.size<=w'.heap.size:=pE.size
     have at9:=pL
     rw[qB] at pL
     have zW:∀b,F b->Fn b/\w'.heap[b]? =w.heap[b]? :=fun b hb=>⟨P1 b hb,iN b (h.sZ b hb) (fun bf=>(YR b bf).2 (U2 b hb))⟩
     obtain⟨tl,t,htl,rfl,hT1,hT2,hT3,hT4⟩:=zV w' Fn iQ adu zW (fun k hk c hc iq=>iN c (Ei (L5 k hk).1 hc).2.2 iq) pL.2.1 (fun b hb=>(V' b hb).imp id fun g k hk iO=>by have:=(Ei (L5 k hk).1 iO).2.2;omega)
     obtain⟨d,rfl,d1,d2,d3⟩:=aca YG adq
     have an_:∀b∈iQ.flatten,b<w'.heap.size:=fun b hb=>by
      rcases V' b hb with g|g
      ·have:=(YR b g).1;omega
      ·exact g.2
     have hC:∀b,(b∈re.flatten++iQ.flatten\/(b∉ls.flatten/\∃k'∈lk,b∈fp k'))->¬Fn b/\(pm.W b\/pm.w0.heap.size<=b)/\b<w'.heap.size/\∀k',(σ.bJ k').isSome=true->k'∉lk->b∉fp k':=by
      intro b hb
      have L4:¬((w.heap.size<=b\/b∈ls.flatten)/\b<w'.heap.size/\b∉re.flatten++iQ.flatten):=fun h1=>by
       rcases hb with hb|hb
       ·exact h1.2.2 hb
       ·rcases h1.1 with g|g
        ·obtain⟨k',cO,bf⟩:=hb.2
         have:=(Ei (L5 k' cO).1 bf).2.2
         omega
        ·exact hb.1 g
      have Qa:(w.heap.size<=b/\b<w'.heap.size/\b∈re.flatten++iQ.flatten)\/∃k'∈lk,b∈fp k':=by
       rcases hb with hb|hb
       ·have h0:(b∈ls.flatten\/w.heap.size<=b)/\b<w'.heap.size:=by
         rcases jr.1 hb with g|g
         ·exact KX b g
         ·exact⟨(V' b g).imp id fun g=>g.1,an_ b g⟩
        rcases h0.1 with g|g
        ·exact .inr (Fi b g)
        ·exact .inl ⟨g,h0.2,hb⟩
       ·exact .inr hb.2
      rcases Qa with⟨g1,g2,g3⟩|⟨k',cO,bf⟩
      ·refine⟨fun u9=> ?_,.inr (wu h.upto.size g1),g2,fun k' hl _ bf=> ?_⟩
       ·rcases P2 b u9 with h1|h1
        ·have:=Zi b h1;omega
        ·exact L4 h1
       ·have:=(Ei hl bf).2.2;omega
      ·have h3:=Ei (L5 k' cO).1 bf
       refine⟨fun u9=> ?_,h3.2.1,by omega,fun Ym hl hn EH=>xb (fun e=>hn (by rw[<-e];exact cO)) (L5 k' cO).1 hl bf EH⟩
       rcases P2 b u9 with h1|h1
       ·exact adO k' cO b bf h1
       ·exact L4 h1
     have hCt:∀b∈tl.flatMap (·.2.2)++t.bl,b∈re.flatten++iQ.flatten\/(b∉ls.flatten/\∃k'∈lk,b∈fp k'):=fun b hb=>(hT4 b hb).imp (fun g=>pS _ g) (fun g=>g)
     have hCd:∀b∈d.bl,b∈re.flatten++iQ.flatten\/(b∉ls.flatten/\∃k'∈lk,b∈fp k'):=fun b hb=> .inl (qC _ (by rw[<-d2];exact hb))
     have P':∀b∈d.bl,b∉tl.flatMap (·.2.2)++t.bl:=by
      intro b hb bf
      rw[d2] at hb
      rcases hT4 b bf with g|⟨g1,k',cO,g2⟩
      ·exact pL.2.2 b hb b g rfl
      ·rcases(KX b hb).1 with g3|g3
       ·exact g1 g3
       ·have:=(Ei (L5 k' cO).1 g2).2.2;omega
     generalize hD:(d++t:fi U)=D
     have Zj:D.bl=d.bl++t.bl:=by rw[<-hD,fi.uL]
     have adH:D.bl.Nodup:=by
      rw[Zj,qB]
      rw[qB] at hT3
      exact⟨by rw[d2];exact pL.1,hT3.2.1,fun b hb c hc e=>P' b hb (pS _ (by rw[e];exact hc))⟩
     have htn:(tl.flatMap (·.2.2)).Nodup:=(qB.1 hT3).1
     have hDt:∀b∈D.bl,b∉tl.flatMap (·.2.2):=by
      intro b hb bf
      rw[Zj,jr] at hb
      rcases hb with g|g
      ·exact P' b g (qC _ bf)
      ·exact(qB.1 hT3).2.2 b bf b g rfl
     have hCD:∀b∈D.bl,b∈re.flatten++iQ.flatten\/(b∉ls.flatten/\∃k'∈lk,b∈fp k'):=by
      intro b hb
      rw[Zj,jr] at hb
      rcases hb with g|g
      ·exact hCd b g
      ·exact hCt b (pS _ g)
     have L9:(D.map (·.1)).Nodup:=by
      have:=acS.1 EF
      rw[<-hD]
      simpa[fi.es,Function.comp_def] using this
     have hD1:∀s∈D,∀kv fp bad,sE E w' Fn kv fp bad s.2.1 s.2.2.1 s.2.2.2:=by
      intro s hs
      rw[<-hD,jr] at hs
      rcases hs with hs|hs
      ·exact d1 s hs
      ·exact hT2 s hs
     have j_:∀k',k'∈dG o r↔∃s∈D,k'=(o.dst.getD 1000000,s.1):=by
      intro k'
      rw[<-Fe,<-hD]
      simp only[dG,fi.es,lB,jr]
      constructor
      ·rintro⟨p,(⟨s,hs,rfl⟩|⟨s,hs,rfl⟩),rfl⟩
       ·exact⟨s,.inl hs,rfl⟩
       ·exact⟨s,.inr hs,rfl⟩
      ·rintro⟨s,(hs|hs),rfl⟩
       ·exact⟨_,.inl ⟨s,hs,rfl⟩,rfl⟩
       ·exact⟨_,.inr ⟨s,hs,rfl⟩,rfl⟩
     have kF:jE r=us.map (·.1):=by rw[<-Fe];rfl
     have KW:us.map (·.1)=tl.map (·.1):=by rw[<-htl];simp[Function.comp_def]
     have UL:(tl.map (·.1)).Nodup:=by rw[<-KW];exact an1
     have yU:r.k_=k_++lk:=by rw[<-Fe]
     have jU:∀k',k'∉dG o r->D.Ai (o.dst.getD 1000000) kv k'=kv k'/\D.y3 (o.dst.getD 1000000) (Tg tl fp) k'=Tg tl fp k':=by
      intro k' cO
      exact fi.other (fun t ht e=>cO ((j_ k').2 ⟨t,ht,e⟩)) kv (Tg tl fp)
     have an3:∀k'∈lk,k'∉dG o r:=fun u hu e=>nM _ e (L5 u hu).2
     have an0:∀k'∈tl.map (·.1),k'∈lk:=by
      intro k' cO
      rw[<-KW] at cO
      obtain⟨u,hu,rfl⟩:=lB.1 cO
      exact an2 u hu
     have YL:∀k',Names σ k'->D.Ai (o.dst.getD 1000000) kv k'=kv k':=fun k' cO=>(jU k' (fun e=>nM _ e cO)).1
     have adQ:∀s∈D,∀b∈s.2.2.2,b∈D.bl:=fun s hs b hb=>fi.px.2 ⟨s,hs,hb⟩
     have Yt:∀s∈tl,∀b∈s.2.2,b∈tl.flatMap (·.2.2):=fun s hs b hb=>nT.2 ⟨s,hs,hb⟩
     refine hn Fn (D.Ai (o.dst.getD 1000000) kv) (D.y3 (o.dst.getD 1000000) (Tg tl fp)) _ w' ?_
     refine cE.apply h o r (MR Xw) hd ?_ (fun k' cO=>(jU k' cO).1) ?_ nM zW ?_ ?_ ?_ ?_ ?_ ?_ ?_ wy
     ·intro sv C1
      rw[<-Fe] at C1
      simp only[gx] at C1
      subst C1
      obtain⟨g1,g2⟩:=d3 (D.Ai (o.dst.getD 1000000) kv) (D.y3 (o.dst.getD 1000000) (Tg tl fp)) (bW (AM.apply o r σ)) (fun s hs=>fi.w4 L9 (by rw[<-hD];exact qC _ hs))
      exact alX g1 g2
     ·intro k' h1 h2
      rw[(jU k' h1).2]
      exact XW (by rw[<-KW,<-kF];exact h2)
     ·intro k' e h1 h2 h3 he b hb
      have hl:(σ.bJ k').isSome=true:=by rw[he];rfl
      refine iN b (Ei hl hb).2.2 (fun bf=> ?_)
      obtain⟨u,hu,bf⟩:=Fi b bf
      exact xb (fun e'=>h3 (by rw[yU];exact pS _ (by rw[<-e'];exact hu))) (L5 u hu).1 hl bf hb
     ·rintro k' e (⟨j,rfl,hj⟩|hu)
      ·have:∃s∈D,s.1=j/\s.2.1=e:=by
        rw[<-Fe] at hj
        rw[<-hD]
        simp only[fi.es,lB,jr,ox] at hj
        rcases hj with⟨s,h1,h2,h3⟩|⟨s,h1,h2,h3⟩
        ·exact⟨s,qC _ h1,h2,h3⟩
        ·exact⟨s,pS _ h1,h2,h3⟩
       obtain⟨s,hs,rfl,rfl⟩:=this
       rw[fi.w4 L9 hs,fi.uu L9 hs]
       refine⟨hD1 s hs _ _ _,fi.xE adH hs,fun b hb=> ?_⟩
       obtain⟨c1,c2,c3,_⟩:=hC b (hCD b (adQ s hs b hb))
       exact⟨c1,c2,c3⟩
      ·have hu:(k',e)∈us:=by rw[<-Fe] at hu;exact hu
       rw[<-htl] at hu
       obtain⟨s,hs,hse⟩:=lB.1 hu
       simp only[ox] at hse
       obtain⟨rfl,rfl⟩:=hse
       have hsk:s.1∈lk:=an0 _ (lB.2 ⟨s,hs,rfl⟩)
       have Tc:=an3 _ hsk
       rw[(jU _ Tc).1,(jU _ Tc).2,GR UL hs]
       refine⟨hT1 s hs _ _ _ YL (fun s' j0=>fi.w4 L9 (by rw[<-hD];exact pS _ j0)),Ud htn hs,fun b hb=> ?_⟩
       obtain⟨c1,c2,c3,_⟩:=hC b (hCt b (qC _ (Yt s hs b hb)))
       exact⟨c1,c2,c3⟩
     ·intro k' e b _ _ h3 he hb
      rw[yU] at h3
      exact P3 k' b (fun e=>h3 (qC _ e)) (fun e=>h3 (pS _ e)) (by rw[he];rfl) hb
     ·
      have hA:∀s∈D,∀k' b,k'≠(o.dst.getD 1000000,s.1)->(k'∈dG o r\/k'∈jE r\/(k'∉r.k_/\(σ.bJ k').isSome))->b∈s.2.2.2->b∉D.y3 (o.dst.getD 1000000) (Tg tl fp) k':=by
       intro s hs k' b eO cO hb bf
       have hbD:=adQ s hs b hb
       by_cases PV:k'∈dG o r
       ·obtain⟨s',j0,rfl⟩:=(j_ k').1 PV
        rw[fi.uu L9 j0] at bf
        exact fi.qW adH hs j0 (fun e=>eO (by rw[e])) hb bf
       ·rw[(jU k' PV).2] at bf
        by_cases hku:k'∈tl.map (·.1)
        ·obtain⟨s',j0,rfl⟩:=lB.1 hku
         rw[GR UL j0] at bf
         exact hDt b hbD (Yt s' j0 b bf)
        ·rw[XW hku] at bf
         have hk3:k'∉r.k_/\(σ.bJ k').isSome:=by
          rcases cO with cO|cO|cO
          ·exact absurd cO PV
          ·exact absurd (by rw[<-KW,<-kF];exact cO) hku
          ·exact cO
         rw[yU] at hk3
         exact(hC b (hCD b hbD)).2.2.2 k' hk3.2 (fun e=>hk3.1 (pS _ e)) bf
      intro k1 k2 b eO h1 h2 hb
      by_cases h1a:k1∈dG o r
      ·obtain⟨s,hs,rfl⟩:=(j_ k1).1 h1a
       rw[fi.uu L9 hs] at hb
       exact hA s hs k2 b (Ne.symm eO) h2 hb
      ·have h1u:k1∈tl.map (·.1):=by rw[<-KW,<-kF];exact h1.resolve_left h1a
       obtain⟨s1,hs1,rfl⟩:=lB.1 h1u
       by_cases h2a:k2∈dG o r
       ·obtain⟨s,hs,rfl⟩:=(j_ k2).1 h2a
        intro bf
        rw[fi.uu L9 hs] at bf
        exact hA s hs s1.1 b eO (.inr (.inl (by rw[kF,KW];exact h1u))) bf hb
       ·rw[(jU _ h1a).2,GR UL hs1] at hb
        rw[(jU _ h2a).2]
        by_cases h2u:k2∈tl.map (·.1)
        ·obtain⟨s2,Yz,rfl⟩:=lB.1 h2u
         rw[GR UL Yz]
         exact O3 htn hs1 Yz (fun e=>eO (by rw[e])) hb
        ·rw[XW h2u]
         have h2l:k2∉r.k_/\(σ.bJ k2).isSome:=by
          rcases h2 with h2|h2|h2
          ·exact absurd h2 h2a
          ·exact absurd (by rw[<-KW,<-kF];exact h2) h2u
          ·exact h2
         rw[yU] at h2l
         exact(hC b (hCt b (qC _ (Yt s1 hs1 b hb)))).2.2.2 k2 h2l.2 (fun e=>h2l.1 (pS _ e))
     ·intro b hb
      rcases P2 b hb with h1|h1
      ·have:=Zi b h1;omega
      ·exact h1.2.1
     ·intro b hb
      rcases P2 b hb with h1|h1
      ·rcases U1 b h1 with h2|⟨k',_,h2,h3⟩
       ·exact h.sY b h2
       ·exact .inr (Ei h2 h3).2.1
      ·rcases h1.1 with g|g
       ·exact .inr (.inr (wu h.upto.size g))
       ·obtain⟨u,hu,bf⟩:=Fi b g
        exact .inr (Ei (L5 u hu).1 bf).2.1
     ·refine h.upto.trans (pE.mono (fun b hb=> ?_))
      obtain⟨u,hu,hb⟩:=Fi b hb
      exact(Ei (L5 u hu).1 hb).2.1
   ·cases hr
  ·cases hr
 ·cases hr
end AM
