import Derived.Test.YtknfcngfhlpaeaaGreatDoorQAmCall4
namespace AM
set_option linter.unusedVariables false
open Go
variable{U:kz}{E:Env U}{pm:Pm}
variable{F F':Nat->Prop}{kv:Key->Value}{fp:Key->List Nat}{σ:ak U}{a:Act}{w w':World}{bad:Key->Bool}
theorem aa_{l:List Nat}:mI l=true↔l.Nodup:=by
 induction l with
 |nil=>simp[mI]
 |cons k l ih=>
  simp only[mI,cH,pc,sC,ih]
  rw[<-uO,tI]
  simp
theorem eX.PH{d:eX U}{dst:Nat}{k:Key}{t:Nat×ie U×Value×List Nat}(h:d.find? (fun t=>ik (dst,t.1) k)=some t):t∈d/\k=(dst,t.1):=
 ⟨List.mem_of_find?_eq_some h,(og.1 (by simpa using List.find?_some h)).symm⟩
theorem eX.Lx{d:eX U}{dst:Nat}(hn:(d.map (·.1)).Nodup){t:Nat×ie U×Value×List Nat}(ht:t∈d):d.find? (fun t'=>ik (dst,t'.1) (dst,t.1))=some t:=by
 cases hf:d.find? (fun t'=>ik (dst,t'.1) (dst,t.1)) with
 |none=>
  have:=ZE.1 hf t ht
  simp[yl] at this
 |some t'=>
  obtain⟨h1,h2⟩:=eX.PH hf
  have h3:t'.1=t.1:=by simpa using h2.symm
  rw[ZH,List.pairwise_map] at hn
  by_cases he:t'=t
  ·rw[he]
  ·exfalso
   have hp:=hn
   obtain⟨i,hi,pa⟩:=qD h1
   obtain⟨j,hj,sI⟩:=qD ht
   rw[Q7] at hp
   rcases Nat.lt_trichotomy i j with h|h|h
   ·exact hp i j hi hj h (by rw[pa,sI,h3])
   ·subst h;exact he (by rw[<-pa,<-sI])
   ·exact hp j i hj hi h (by rw[pa,sI,h3])
theorem eX.wT{d:eX U}{dst:Nat}{kv:Key->Value}(hn:(d.map (·.1)).Nodup){t:Nat×ie U×Value×List Nat}(ht:t∈d):d.zT dst kv (dst,t.1)=t.2.2.1:=by
 unfold eX.zT;rw[eX.Lx hn ht]
theorem eX.tZ{d:eX U}{dst:Nat}{fp:Key->List Nat}(hn:(d.map (·.1)).Nodup){t:Nat×ie U×Value×List Nat}(ht:t∈d):d.yN dst fp (dst,t.1)=t.2.2.2:=by
 unfold eX.yN;rw[eX.Lx hn ht]
theorem eX.other{d:eX U}{dst:Nat}{k:Key}(h:∀t∈d,k≠(dst,t.1))(kv:Key->Value)(fp:Key->List Nat):d.zT dst kv k=kv k/\d.yN dst fp k=fp k:=by
 have:d.find? (fun t=>ik (dst,t.1) k)=none:=ZE.2 fun t ht hk=>h t ht (og.1 (by simpa using hk)).symm
 unfold eX.zT eX.yN
 rw[this]
 exact⟨rfl,rfl⟩
theorem eX.oJ{d:eX U}{b:Nat}:b∈d.bl↔∃t∈d,b∈t.2.2.2:=by simp[eX.bl]
theorem eX.xo:∀{d:eX U},d.bl.Nodup->∀{t:Nat×ie U×Value×List Nat},t∈d->t.2.2.2.Nodup
 |[],_,t,ht=>by simp at ht
 |t0::d,h,t,ht=>by
  simp only[eX.bl,yb,p8] at h
  rcases jF.1 ht with rfl|ht
  ·exact h.1
  ·exact eX.xo (d:=d) h.2.1 ht
theorem eX.qv:∀{d:eX U},d.bl.Nodup->∀{t t':Nat×ie U×Value×List Nat},t∈d->t'∈d->t.1≠t'.1->∀{b:Nat},b∈t.2.2.2->b∉t'.2.2.2
 |[],_,t,t',ht,_,_,_,_=>by simp at ht
 |t0::d,h,t,t',ht,QU,d_,b,hb=>by
  simp only[eX.bl,yb,p8] at h
  intro bg
  rcases jF.1 ht with rfl|_
  ·rcases jF.1 QU with rfl|QU
   ·exact d_ rfl
   ·exact h.2.2 b hb b (nF.2 ⟨t',QU,bg⟩) rfl
  ·rename_i ht1
   rcases jF.1 QU with h0|ht2
   ·subst h0
    exact h.2.2 b bg b (nF.2 ⟨t,ht1,hb⟩) rfl
   ·exact eX.qv (d:=d) h.2.1 ht1 ht2 d_ hb bg
theorem ahS{P:Program}{w:World}{a:Act}{o:Oper}{cl:Call}{f:FuncId}(qB:o.op=.call cl)(gB:cl.callee=.value (.func f))(hf:xY P f):
  (execOp a.eval o).run P w=.ok (.enter f (cl.args.toList.map a.eval).toArray) w:=by
 obtain⟨fn,h1,h2,h3⟩:=hf
 have e:execOp a.eval o=callFunc f (#[]++cl.args.map a.eval++ #[]):=by
  unfold execOp
  rw[qB]
  simp only[resolve,gB]
  rfl
 rw[e]
 have e2:(#[]++cl.args.map a.eval++ #[]:Array Value)=(cl.args.toList.map a.eval).toArray:=by
  apply Array.ext'
  simp
 rw[e2]
 have h4:fn.body≠none:=by cases hb:fn.body<;>simp[hb] at h2⊢
 have h5:fn.name≠ "runtime.NumGoroutine" :=by simpa using h3
 simp[callFunc,go_sem,h1,h4,h5]
theorem ahU{avs:List (AV U)}{us:List Value}{bad:Key->Bool}(hl:avs.length=us.length)(h:∀(i:Nat)(x:AV U)(u:Value),avs[i]? =some x->us[i]? =some u->RV E w F kv fp bad x u):
  RS E w F kv fp bad (match(generalizing:=false) avs with|[v]=> .v v|vs=> .uZ vs) (Ma us):=by
 match avs,us,hl with
 |[v],[u],_=>exact h 0 v u rfl rfl
 |[],[],_=>exact⟨[],rfl,rfl,h⟩
 |x::y::r,p::q::s,hl=>exact⟨p::q::s,rfl,hl,h⟩
def Q3(tl:List (Key×ie U×List Nat))(fp:Key->List Nat)(k:Key):List Nat:=match tl.find? (fun t=>ik t.1 k) with|some t=>t.2.2|none=>fp k
theorem ai3{tl:List (Key×ie U×List Nat)}(hn:(tl.map (·.1)).Nodup){t:Key×ie U×List Nat}(ht:t∈tl):tl.find? (fun s=>ik s.1 t.1)=some t:=by
 induction tl with
 |nil=>cases ht
 |cons s tl ih=>
  rw[sS,sC] at hn
  rcases jF.1 ht with rfl|ht
  ·simp[yl]
  ·have d_:ik s.1 t.1=false:=J2.2 fun e=>hn.1 (by rw[e];exact kW.2 ⟨t,ht,rfl⟩)
   rw[List.find?_cons,d_]
   exact ih hn.2 ht
theorem Gq{tl:List (Key×ie U×List Nat)}{fp:Key->List Nat}(hn:(tl.map (·.1)).Nodup){t:Key×ie U×List Nat}(ht:t∈tl):Q3 tl fp t.1=t.2.2:=by
 unfold Q3;rw[ai3 hn ht]
theorem WU{tl:List (Key×ie U×List Nat)}{fp:Key->List Nat}{k:Key}(h:k∉tl.map (·.1)):Q3 tl fp k=fp k:=by
 unfold Q3
 have:tl.find? (fun t=>ik t.1 k)=none:=ZE.2 fun t ht hk=>h (kW.2 ⟨t,ht,og.1 (by simpa using hk)⟩)
 rw[this]
theorem RJ{α:Type}{f:α->List Nat}:∀{l:List α},(l.flatMap f).Nodup->∀{t:α},t∈l->(f t).Nodup
 |[],_,t,ht=>by simp at ht
 |t0::d,h,t,ht=>by
  simp only[yb,p8] at h
  rcases jF.1 ht with rfl|ht
  ·exact h.1
  ·exact RJ h.2.1 ht
theorem N8{α:Type}{f:α->List Nat}:∀{l:List α},(l.flatMap f).Nodup->∀{t t':α},t∈l->t'∈l->t≠t'->∀{b:Nat},b∈f t->b∉f t'
 |[],_,t,t',ht,_,_,_,_=>by simp at ht
 |t0::d,h,t,t',ht,QU,d_,b,hb=>by
  simp only[yb,p8] at h
  intro bg
  rcases jF.1 ht with e1|h1
  ·rcases jF.1 QU with e2|h2
   ·exact d_ (e1.trans e2.symm)
   ·subst e1;exact h.2.2 b hb b (nF.2 ⟨t',h2,bg⟩) rfl
  ·rcases jF.1 QU with e2|h2
   ·subst e2;exact h.2.2 b bg b (nF.2 ⟨t,h1,hb⟩) rfl
   ·exact N8 h.2.1 h1 h2 d_ hb bg
theorem ajx(hC:∀g k,E.Na g=some k->xY E.P g/\dR E g k)(h:cG E pm F kv fp σ a w){o:Oper}(hd:∀d,o.dst=some d->d<σ.n){cl:Call}{f:FuncId}(qB:o.op=.call cl)(gB:cl.callee=.value (.func f)){k:jw U}(hf:xY E.P f)(hk:dR E f k)
  {xs:List (SV U)} (hxl:xs.length=cl.args.toList.length) (tW:∀x∈xs,∀k∈x.keys,Names σ k) (hxs:∀(i:Nat)(x:SV U)(q:Operand),xs[i]? =some x->cl.args.toList[i]? =some q->RS E w F kv fp (bR σ) x (a.eval q))
  {rs:List Key} {types:List TypeId} {r:bX U} (hr:yY E (restrict σ.bH rs) σ.aR (o.dst.getD 1000000) k types xs=some r) (hp:∀p∈r.pre,p) (nu:∀k∈dk o r,¬Names σ k)
  {next:Act->World->Prop} {Q:Exit->Act->World->Prop} (hn:∀F kv fp a' w',cG E pm F kv fp (AM.apply o r σ) a' w'->next a' w'):o.wp E.P a w next Q:=by
 unfold yY at hr
 split at hr
 ·rename_i ps ds kG
  split at hr
  ·rename_i x hof
   split at hr
   ·rename_i us eb lk avs es hmu Xz
    simp only at hr
    generalize X7:(bif tP (k.mS x).fresh (k.mS x).val&& !(yK k.md) then[] else fB k.md xs)=kE at hr
    cases hc:(mI ((es++eb).map (·.1))&& !(lk.any fun u=>(fB k.md xs).any (ik u))&&CD (restrict σ.bH rs) k.HX k.md (k.want (types.map E.yi)) xs)<;>simp only[hc,cond_false,cond_true] at hr
    ·cases hr
    ·have EN:=VU hr
     have hp:∀p∈ps++k.pre x,p:=by rw[<-EN] at hp;exact hp
     simp only[cH,pc] at hc
     obtain⟨⟨Eg,MY⟩,hc3⟩:=hc
     have XL:=k.law ds x hof
     obtain⟨ls,mV,am5,Lr,aj8,EQ,ajX,ajY,zw⟩:=ajH hC (K:=(fB k.md xs).filter fun k=>(σ.bH k).isSome) (vs:=cl.args.toList.map a.eval) h kG (fun p j6=>hp p (by simp[j6])) (by simp[hxl]) (fun i y u hy hu=>by
      rw[mw] at hu
      cases hq:cl.args.toList[i]? with
      |none=>rw[hq] at hu;cases hu
      |some q=>rw[hq] at hu;cases hu;exact hxs i y q hy hq) tW (fun _ h1 h2=>wc.2 ⟨h1,h2⟩) hmu
     have Kf:sf w k.HX k.md ds (cl.args.toList.map a.eval):=ahW h kG (by simp[hxl]) (fun i y u hy hu=>by
      rw[mw] at hu
      cases hq:cl.args.toList[i]? with
      |none=>rw[hq] at hu;cases hu
      |some q=>rw[hq] at hu;cases hu;exact hxs i y q hy hq) hc3
     rw[<-XL] at mV Kf
     have aj0:∀k'∈lk,k'∉fB k.md xs:=by
      intro u hu o_
      have:(lk.any fun u=>(fB k.md xs).any (ik u))=true:=tI.2 ⟨u,hu,q_.2 o_⟩
      rw[this] at MY;cases MY
     have D0:∀{k':Key}{b:Nat},(σ.bH k').isSome=true->b∈fp k'->¬F b/\(pm.W b\/pm.w0.heap.size<=b)/\b<w.heap.size:=by
      intro k' b cK hb
      obtain⟨e,he⟩:=l6.1 cK
      exact h.fj k' e b he hb
     have w5:∀{k' Xh:Key}{b:Nat},k'≠Xh->(σ.bH k').isSome=true->(σ.bH Xh).isSome=true->b∈fp k'->b∉fp Xh:=by
      intro k' Xh b d_ h1 h2 hb
      obtain⟨e,he⟩:=l6.1 h1
      obtain⟨e',ew⟩:=l6.1 h2
      exact h.apart k' Xh e e' b d_ he ew hb
     generalize ab8:FK F fp ((fB k.md xs).filter fun k=>(σ.bH k).isSome)=Fc at mV
     have SD:∀b,F b->Fc b:=fun b hb=>by rw[<-ab8];exact .inl hb
     have SC:∀b,Fc b->F b\/∃k'∈fB k.md xs,(σ.bH k').isSome=true/\b∈fp k':=by
      intro b hb
      rw[<-ab8] at hb
      rcases hb with hb|⟨k',cK,hb⟩
      ·exact .inl hb
      ·rw[wc] at cK
       exact .inr ⟨k',cK.1,cK.2,hb⟩
     have Yv:∀b,Fc b->b<w.heap.size:=by
      intro b hb
      rcases SC b hb with hb|⟨k',_,h2,hb⟩
      ·exact h.sO b hb
      ·exact(D0 h2 hb).2.2
     have ab7:∀k'∈lk,∀b∈fp k',¬Fc b:=by
      intro u hu b hb uT
      rcases SC b uT with h1|⟨k',h1,h2,h3⟩
      ·exact(D0 (Lr u hu).1 hb).1 h1
      ·exact w5 (fun e=>aj0 u hu (by rw[<-e];exact h1)) h2 (Lr u hu).1 h3 hb
     have XJ:∀b∈ls.flatten,b<w.heap.size/\¬Fc b:=by
      intro b hb
      obtain⟨u,hu,hb⟩:=EQ b hb
      exact⟨(D0 (Lr u hu).1 hb).2.2,ab7 u hu b hb⟩
     show o.upon E.P a next Q ((execOp a.eval o).run E.P w)
     rw[ahS qB gB hf,Oper.upon_enter]
     refine(hk x (fun p j6=>hp p (by simp[j6])) w Fc _ ls Yv (h.lay.fC fun b hb=>⟨SD b hb,rfl⟩) mV Kf aj8 XJ).mono ?_
     rintro e w' ⟨Wq,qz,iw,rfl,oV,MH,XF,o9,Kf,TT⟩
     show next (a.put o.dst (Ma Wq)) w'
     obtain⟨Fn,P1,P2,P3,abH,abM⟩:∃Fn:Nat->Prop,(∀b,F b->Fn b)/\(∀b,Fn b->Fc b\/((w.heap.size<=b\/b∈ls.flatten)/\b<w'.heap.size/\b∉qz.flatten++iw.flatten))/\
       (∀k' b,k'∉kE->k'∉lk->(σ.bH k').isSome=true->b∈fp k'->¬Fn b)/\mr E w' Fn (k.mS x).fresh (k.mS x).val Wq qz/\eQ E w' Fn w k.md (cl.args.toList.map a.eval) (k.mS x).Ip iw:=by
      cases Lq:(tP (k.mS x).fresh (k.mS x).val&& !(yK k.md))<;>simp only[Lq,cond_true,cond_false] at X7
      ·refine⟨_,fun b hb=> .inl (SD b hb),fun b hb=>hb,fun k' b cK kx hl hb M1=> ?_,MH,XF⟩
       rcases M1 with M1|M1
       ·rcases SC b M1 with h1|⟨Xh,h1,h2,h3⟩
        ·exact(D0 hl hb).1 h1
        ·exact w5 (fun e=>cK (by rw[<-X7,<-e];exact h1)) h2 hl h3 hb
       ·rcases M1.1 with g|g
        ·have:=(D0 hl hb).2.2
         omega
        ·obtain⟨u,hu,bg⟩:=EQ b g
         exact w5 (fun e=>kx (by rw[<-e];exact hu)) (Lr u hu).1 hl bg hb
      ·simp only[cH,pc] at Lq
       exact⟨F,fun b hb=>hb,fun b hb=> .inl (SD b hb),fun k' b _ _ hl hb=>(D0 hl hb).1,MH.any Lq.1,XF.any Lq.2⟩
     have iv:∀b,b<w.heap.size->b∉ls.flatten->w'.heap[b]? =w.heap[b]? :=fun b h1 h2=>oV.block b h1 h2
     have tU:w.heap.size<=w'.heap.size:=oV.size
     have am3:=o9
     rw[p8] at o9
     have zx:∀b,F b->Fn b/\w'.heap[b]? =w.heap[b]? :=fun b hb=>⟨P1 b hb,iv b (h.sO b hb) (fun bg=>(XJ b bg).2 (SD b hb))⟩
     obtain⟨tl,t,htl,rfl,hT1,hT2,hT3,hT4⟩:=zw w' Fn iw abM zx (fun k hk c hc gB=>iv c (D0 (Lr k hk).1 hc).2.2 gB) o9.2.1 (fun b hb=>(TT b hb).imp id fun g k hk ic=>by have:=(D0 (Lr k hk).1 ic).2.2;omega)
     obtain⟨d,rfl,d1,d2,d3⟩:=aaC Xz abH
     have aj7:∀b∈iw.flatten,b<w'.heap.size:=fun b hb=>by
      rcases TT b hb with g|g
      ·have:=(XJ b g).1;omega
      ·exact g.2
     have hC:∀b,(b∈qz.flatten++iw.flatten\/(b∉ls.flatten/\∃k'∈lk,b∈fp k'))->¬Fn b/\(pm.W b\/pm.w0.heap.size<=b)/\b<w'.heap.size/\∀k',(σ.bH k').isSome=true->k'∉lk->b∉fp k':=by
      intro b hb
      have IB:¬((w.heap.size<=b\/b∈ls.flatten)/\b<w'.heap.size/\b∉qz.flatten++iw.flatten):=fun h1=>by
       rcases hb with hb|hb
       ·exact h1.2.2 hb
       ·rcases h1.1 with g|g
        ·obtain⟨k',cK,bg⟩:=hb.2
         have:=(D0 (Lr k' cK).1 bg).2.2
         omega
        ·exact hb.1 g
      have Pt:(w.heap.size<=b/\b<w'.heap.size/\b∈qz.flatten++iw.flatten)\/∃k'∈lk,b∈fp k':=by
       rcases hb with hb|hb
       ·have h0:(b∈ls.flatten\/w.heap.size<=b)/\b<w'.heap.size:=by
         rcases jE.1 hb with g|g
         ·exact Kf b g
         ·exact⟨(TT b g).imp id fun g=>g.1,aj7 b g⟩
        rcases h0.1 with g|g
        ·exact .inr (EQ b g)
        ·exact .inl ⟨g,h0.2,hb⟩
       ·exact .inr hb.2
      rcases Pt with⟨g1,g2,g3⟩|⟨k',cK,bg⟩
      ·refine⟨fun uT=> ?_,.inr (vg h.upto.size g1),g2,fun k' hl _ bg=> ?_⟩
       ·rcases P2 b uT with h1|h1
        ·have:=Yv b h1;omega
        ·exact IB h1
       ·have:=(D0 hl bg).2.2;omega
      ·have h3:=D0 (Lr k' cK).1 bg
       refine⟨fun uT=> ?_,h3.2.1,by omega,fun Xh hl hn Ei=>w5 (fun e=>hn (by rw[<-e];exact cK)) (Lr k' cK).1 hl bg Ei⟩
       rcases P2 b uT with h1|h1
       ·exact ab7 k' cK b bg h1
       ·exact IB h1
     have hCt:∀b∈tl.flatMap (·.2.2)++t.bl,b∈qz.flatten++iw.flatten\/(b∉ls.flatten/\∃k'∈lk,b∈fp k'):=fun b hb=>(hT4 b hb).imp (fun g=>pd _ g) (fun g=>g)
     have hCd:∀b∈d.bl,b∈qz.flatten++iw.flatten\/(b∉ls.flatten/\∃k'∈lk,b∈fp k'):=fun b hb=> .inl (pP _ (by rw[<-d2];exact hb))
     have Pr:∀b∈d.bl,b∉tl.flatMap (·.2.2)++t.bl:=by
      intro b hb bg
      rw[d2] at hb
      rcases hT4 b bg with g|⟨g1,k',cK,g2⟩
      ·exact o9.2.2 b hb b g rfl
      ·rcases(Kf b hb).1 with g3|g3
       ·exact g1 g3
       ·have:=(D0 (Lr k' cK).1 g2).2.2;omega
     generalize hD:(d++t:eX U)=D
     have Yw:D.bl=d.bl++t.bl:=by rw[<-hD,eX.uz]
     have ab1:D.bl.Nodup:=by
      rw[Yw,p8]
      rw[p8] at hT3
      exact⟨by rw[d2];exact o9.1,hT3.2.1,fun b hb c hc e=>Pr b hb (pd _ (by rw[e];exact hc))⟩
     have htn:(tl.flatMap (·.2.2)).Nodup:=(p8.1 hT3).1
     have hDt:∀b∈D.bl,b∉tl.flatMap (·.2.2):=by
      intro b hb bg
      rw[Yw,jE] at hb
      rcases hb with g|g
      ·exact Pr b g (pP _ bg)
      ·exact(p8.1 hT3).2.2 b bg b g rfl
     have hCD:∀b∈D.bl,b∈qz.flatten++iw.flatten\/(b∉ls.flatten/\∃k'∈lk,b∈fp k'):=by
      intro b hb
      rw[Yw,jE] at hb
      rcases hb with g|g
      ·exact hCd b g
      ·exact hCt b (pd _ g)
     have Lu:(D.map (·.1)).Nodup:=by
      have:=aa_.1 Eg
      rw[<-hD]
      simpa[eX.es,Function.comp_def] using this
     have hD1:∀s∈D,∀kv fp bad,sg E w' Fn kv fp bad s.2.1 s.2.2.1 s.2.2.2:=by
      intro s hs
      rw[<-hD,jE] at hs
      rcases hs with hs|hs
      ·exact d1 s hs
      ·exact hT2 s hs
     have jS:∀k',k'∈dk o r↔∃s∈D,k'=(o.dst.getD 1000000,s.1):=by
      intro k'
      rw[<-EN,<-hD]
      simp only[dk,eX.es,kW,jE]
      constructor
      ·rintro⟨p,(⟨s,hs,rfl⟩|⟨s,hs,rfl⟩),rfl⟩
       ·exact⟨s,.inl hs,rfl⟩
       ·exact⟨s,.inr hs,rfl⟩
      ·rintro⟨s,(hs|hs),rfl⟩
       ·exact⟨_,.inl ⟨s,hs,rfl⟩,rfl⟩
       ·exact⟨_,.inr ⟨s,hs,rfl⟩,rfl⟩
     have kj:jh r=us.map (·.1):=by rw[<-EN];rfl
     have Ke:us.map (·.1)=tl.map (·.1):=by rw[<-htl];simp[Function.comp_def]
     have Sf:(tl.map (·.1)).Nodup:=by rw[<-Ke];exact ajX
     have yG:r.kE=kE++lk:=by rw[<-EN]
     have jA:∀k',k'∉dk o r->D.zT (o.dst.getD 1000000) kv k'=kv k'/\D.yN (o.dst.getD 1000000) (Q3 tl fp) k'=Q3 tl fp k':=by
      intro k' cK
      exact eX.other (fun t ht e=>cK ((jS k').2 ⟨t,ht,e⟩)) kv (Q3 tl fp)
     have ajZ:∀k'∈lk,k'∉dk o r:=fun u hu e=>nu _ e (Lr u hu).2
     have ajW:∀k'∈tl.map (·.1),k'∈lk:=by
      intro k' cK
      rw[<-Ke] at cK
      obtain⟨u,hu,rfl⟩:=kW.1 cK
      exact ajY u hu
     have XD:∀k',Names σ k'->D.zT (o.dst.getD 1000000) kv k'=kv k':=fun k' cK=>(jA k' (fun e=>nu _ e cK)).1
     have ab9:∀s∈D,∀b∈s.2.2.2,b∈D.bl:=fun s hs b hb=>eX.oJ.2 ⟨s,hs,hb⟩
     have Xo:∀s∈tl,∀b∈s.2.2,b∈tl.flatMap (·.2.2):=fun s hs b hb=>nF.2 ⟨s,hs,hb⟩
     refine hn Fn (D.zT (o.dst.getD 1000000) kv) (D.yN (o.dst.getD 1000000) (Q3 tl fp)) _ w' ?_
     refine cG.apply h o r (Ma Wq) hd ?_ (fun k' cK=>(jA k' cK).1) ?_ nu zx ?_ ?_ ?_ ?_ ?_ ?_ ?_ tU
     ·intro sv C4
      rw[<-EN] at C4
      simp only[fM] at C4
      subst C4
      obtain⟨g1,g2⟩:=d3 (D.zT (o.dst.getD 1000000) kv) (D.yN (o.dst.getD 1000000) (Q3 tl fp)) (bR (AM.apply o r σ)) (fun s hs=>eX.wT Lu (by rw[<-hD];exact pP _ hs))
      exact ahU g1 g2
     ·intro k' h1 h2
      rw[(jA k' h1).2]
      exact WU (by rw[<-Ke,<-kj];exact h2)
     ·intro k' e h1 h2 h3 he b hb
      have hl:(σ.bH k').isSome=true:=by rw[he];rfl
      refine iv b (D0 hl hb).2.2 (fun bg=> ?_)
      obtain⟨u,hu,bg⟩:=EQ b bg
      exact w5 (fun e'=>h3 (by rw[yG];exact pd _ (by rw[<-e'];exact hu))) (Lr u hu).1 hl bg hb
     ·rintro k' e (⟨j,rfl,hj⟩|hu)
      ·have:∃s∈D,s.1=j/\s.2.1=e:=by
        rw[<-EN] at hj
        rw[<-hD]
        simp only[eX.es,kW,jE,nT] at hj
        rcases hj with⟨s,h1,h2,h3⟩|⟨s,h1,h2,h3⟩
        ·exact⟨s,pP _ h1,h2,h3⟩
        ·exact⟨s,pd _ h1,h2,h3⟩
       obtain⟨s,hs,rfl,rfl⟩:=this
       rw[eX.wT Lu hs,eX.tZ Lu hs]
       refine⟨hD1 s hs _ _ _,eX.xo ab1 hs,fun b hb=> ?_⟩
       obtain⟨c1,c2,c3,_⟩:=hC b (hCD b (ab9 s hs b hb))
       exact⟨c1,c2,c3⟩
      ·have hu:(k',e)∈us:=by rw[<-EN] at hu;exact hu
       rw[<-htl] at hu
       obtain⟨s,hs,hse⟩:=kW.1 hu
       simp only[nT] at hse
       obtain⟨rfl,rfl⟩:=hse
       have hsk:s.1∈lk:=ajW _ (kW.2 ⟨s,hs,rfl⟩)
       have QW:=ajZ _ hsk
       rw[(jA _ QW).1,(jA _ QW).2,Gq Sf hs]
       refine⟨hT1 s hs _ _ _ XD (fun s' jK=>eX.wT Lu (by rw[<-hD];exact pd _ jK)),RJ htn hs,fun b hb=> ?_⟩
       obtain⟨c1,c2,c3,_⟩:=hC b (hCt b (pP _ (Xo s hs b hb)))
       exact⟨c1,c2,c3⟩
     ·intro k' e b _ _ h3 he hb
      rw[yG] at h3
      exact P3 k' b (fun e=>h3 (pP _ e)) (fun e=>h3 (pd _ e)) (by rw[he];rfl) hb
     ·
      have hA:∀s∈D,∀k' b,k'≠(o.dst.getD 1000000,s.1)->(k'∈dk o r\/k'∈jh r\/(k'∉r.kE/\(σ.bH k').isSome))->b∈s.2.2.2->b∉D.yN (o.dst.getD 1000000) (Q3 tl fp) k':=by
       intro s hs k' b d_ cK hb bg
       have hbD:=ab9 s hs b hb
       by_cases Pc:k'∈dk o r
       ·obtain⟨s',jK,rfl⟩:=(jS k').1 Pc
        rw[eX.tZ Lu jK] at bg
        exact eX.qv ab1 hs jK (fun e=>d_ (by rw[e])) hb bg
       ·rw[(jA k' Pc).2] at bg
        by_cases hku:k'∈tl.map (·.1)
        ·obtain⟨s',jK,rfl⟩:=kW.1 hku
         rw[Gq Sf jK] at bg
         exact hDt b hbD (Xo s' jK b bg)
        ·rw[WU hku] at bg
         have hk3:k'∉r.kE/\(σ.bH k').isSome:=by
          rcases cK with cK|cK|cK
          ·exact absurd cK Pc
          ·exact absurd (by rw[<-Ke,<-kj];exact cK) hku
          ·exact cK
         rw[yG] at hk3
         exact(hC b (hCD b hbD)).2.2.2 k' hk3.2 (fun e=>hk3.1 (pd _ e)) bg
      intro k1 k2 b d_ h1 h2 hb
      by_cases h1a:k1∈dk o r
      ·obtain⟨s,hs,rfl⟩:=(jS k1).1 h1a
       rw[eX.tZ Lu hs] at hb
       exact hA s hs k2 b (Ne.symm d_) h2 hb
      ·have h1u:k1∈tl.map (·.1):=by rw[<-Ke,<-kj];exact h1.resolve_left h1a
       obtain⟨s1,hs1,rfl⟩:=kW.1 h1u
       by_cases h2a:k2∈dk o r
       ·obtain⟨s,hs,rfl⟩:=(jS k2).1 h2a
        intro bg
        rw[eX.tZ Lu hs] at bg
        exact hA s hs s1.1 b d_ (.inr (.inl (by rw[kj,Ke];exact h1u))) bg hb
       ·rw[(jA _ h1a).2,Gq Sf hs1] at hb
        rw[(jA _ h2a).2]
        by_cases h2u:k2∈tl.map (·.1)
        ·obtain⟨s2,Zg,rfl⟩:=kW.1 h2u
         rw[Gq Sf Zg]
         exact N8 htn hs1 Zg (fun e=>d_ (by rw[e])) hb
        ·rw[WU h2u]
         have h2l:k2∉r.kE/\(σ.bH k2).isSome:=by
          rcases h2 with h2|h2|h2
          ·exact absurd h2 h2a
          ·exact absurd (by rw[<-Ke,<-kj];exact h2) h2u
          ·exact h2
         rw[yG] at h2l
         exact(hC b (hCt b (pP _ (Xo s1 hs1 b hb)))).2.2.2 k2 h2l.2 (fun e=>h2l.1 (pd _ e))
     ·intro b hb
      rcases P2 b hb with h1|h1
      ·have:=Yv b h1;omega
      ·exact h1.2.1
     ·intro b hb
      rcases P2 b hb with h1|h1
      ·rcases SC b h1 with h2|⟨k',_,h2,h3⟩
       ·exact h.sN b h2
       ·exact .inr (D0 h2 h3).2.1
      ·rcases h1.1 with g|g
       ·exact .inr (.inr (vg h.upto.size g))
       ·obtain⟨u,hu,bg⟩:=EQ b g
        exact .inr (D0 (Lr u hu).1 bg).2.1
     ·refine h.upto.trans (oV.mono (fun b hb=> ?_))
      obtain⟨u,hu,hb⟩:=EQ b hb
      exact(D0 (Lr u hu).1 hb).2.1
   ·cases hr
  ·cases hr
 ·cases hr
end AM
