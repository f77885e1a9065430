import Derived.Test.YtmcepppejchhkaaGreatDoorQAmCall4
namespace AM
set_option linter.unusedVariables false
open Go
variable{U:lQ}{E:Env U}{pm:Pm}
variable{F F':Nat->Prop}{kv:Key->Value}{fp:Key->List Nat}{σ:ak U}{a:Act}{w w':World}{bad:Key->Bool}
theorem adW{l:List Nat}:n7 l=true↔l.Nodup:=by
 induction l with
 |nil=>simp[n7]
 |cons k l ih=>
  simp only[n7,cN,qK,ur,ih]
  rw[<-wI,vD]
  simp
theorem fw.S5{d:fw U}{dst:Nat}{k:Key}{t:Nat×iX U×Value×List Nat}(h:d.find? (fun t=>iZ (dst,t.1) k)=some t):t∈d/\k=(dst,t.1):=
 ⟨List.mem_of_find?_eq_some h,(pX.1 (by simpa using List.find?_some h)).symm⟩
theorem fw.Oy{d:fw U}{dst:Nat}(hn:(d.map (·.1)).Nodup){t:Nat×iX U×Value×List Nat}(ht:t∈d):d.find? (fun t'=>iZ (dst,t'.1) (dst,t.1))=some t:=by
 cases hf:d.find? (fun t'=>iZ (dst,t'.1) (dst,t.1)) with
 |none=>
  have:=zeb.1 hf t ht
  simp[Am] at this
 |some t'=>
  obtain⟨h1,h2⟩:=fw.S5 hf
  have h3:t'.1=t.1:=by simpa using h2.symm
  rw[zdg,List.pairwise_map] at hn
  by_cases he:t'=t
  ·rw[he]
  ·exfalso
   have hp:=hn
   obtain⟨i,hi,qH⟩:=sT h1
   obtain⟨j,hj,uA⟩:=sT ht
   rw[UM] at hp
   rcases Nat.lt_trichotomy i j with h|h|h
   ·exact hp i j hi hj h (by rw[qH,uA,h3])
   ·subst h;exact he (by rw[<-qH,<-uA])
   ·exact hp j i hj hi h (by rw[qH,uA,h3])
theorem fw.yE{d:fw U}{dst:Nat}{kv:Key->Value}(hn:(d.map (·.1)).Nodup){t:Nat×iX U×Value×List Nat}(ht:t∈d):d.BX dst kv (dst,t.1)=t.2.2.1:=by
 unfold fw.BX;rw[fw.Oy hn ht]
theorem fw.vV{d:fw U}{dst:Nat}{fp:Key->List Nat}(hn:(d.map (·.1)).Nodup){t:Nat×iX U×Value×List Nat}(ht:t∈d):d.AH dst fp (dst,t.1)=t.2.2.2:=by
 unfold fw.AH;rw[fw.Oy hn ht]
theorem fw.other{d:fw U}{dst:Nat}{k:Key}(h:∀t∈d,k≠(dst,t.1))(kv:Key->Value)(fp:Key->List Nat):d.BX dst kv k=kv k/\d.AH dst fp k=fp k:=by
 have:d.find? (fun t=>iZ (dst,t.1) k)=none:=zeb.2 fun t ht hk=>h t ht (pX.1 (by simpa using hk)).symm
 unfold fw.BX fw.AH
 rw[this]
 exact⟨rfl,rfl⟩
theorem fw.qp{d:fw U}{b:Nat}:b∈d.bl↔∃t∈d,b∈t.2.2.2:=by simp[fw.bl]
theorem fw.zi:∀{d:fw U},d.bl.Nodup->∀{t:Nat×iX U×Value×List Nat},t∈d->t.2.2.2.Nodup
 |[],_,t,ht=>by simp at ht
 |t0::d,h,t,ht=>by
  simp only[fw.bl,zZ,rV] at h
  rcases kc.1 ht with rfl|ht
  ·exact h.1
  ·exact fw.zi (d:=d) h.2.1 ht
theorem fw.sD:∀{d:fw U},d.bl.Nodup->∀{t t':Nat×iX U×Value×List Nat},t∈d->t'∈d->t.1≠t'.1->∀{b:Nat},b∈t.2.2.2->b∉t'.2.2.2
 |[],_,t,t',ht,_,_,_,_=>by simp at ht
 |t0::d,h,t,t',ht,Uy,fc,b,hb=>by
  simp only[fw.bl,zZ,rV] at h
  intro bj
  rcases kc.1 ht with rfl|_
  ·rcases kc.1 Uy with rfl|Uy
   ·exact fc rfl
   ·exact h.2.2 b hb b (o8.2 ⟨t',Uy,bj⟩) rfl
  ·rename_i ht1
   rcases kc.1 Uy with h0|ht2
   ·subst h0
    exact h.2.2 b bj b (o8.2 ⟨t,ht1,hb⟩) rfl
   ·exact fw.sD (d:=d) h.2.1 ht1 ht2 fc hb bj
theorem alk{P:Program}{w:World}{a:Act}{o:Oper}{cl:Call}{f:FuncId}(sR:o.op=.call cl)(ix:cl.callee=.value (.func f))(hf:zW P f):
  (execOp a.eval o).run P w=.ok (.enter f (cl.args.toList.map a.eval).toArray) w:=by
 obtain⟨fn,h1,h2,h3⟩:=hf
 have e:execOp a.eval o=callFunc f (#[]++cl.args.map a.eval++ #[]):=by
  unfold execOp
  rw[sR]
  simp only[resolve,ix]
  rfl
 rw[e]
 have e2:(#[]++cl.args.map a.eval++ #[]:Array Value)=(cl.args.toList.map a.eval).toArray:=by
  apply Array.ext'
  simp
 rw[e2]
 have h4:fn.body≠none:=by cases hb:fn.body<;>simp[hb] at h2⊢
 have h5:fn.name≠ "runtime.NumGoroutine" :=by simpa using h3
 simp[callFunc,go_sem,h1,h4,h5]
theorem aln{avs:List (AV U)}{us:List Value}{bad:Key->Bool}(hl:avs.length=us.length)(h:∀(i:Nat)(x:AV U)(u:Value),avs[i]? =some x->us[i]? =some u->RV E w F kv fp bad x u):
  RS E w F kv fp bad (match(generalizing:=false) avs with|[v]=> .v v|vs=> .wR vs) (Pr us):=by
 match avs,us,hl with
 |[v],[u],_=>exact h 0 v u rfl rfl
 |[],[],_=>exact⟨[],rfl,rfl,h⟩
 |x::y::r,p::q::s,hl=>exact⟨p::q::s,rfl,hl,h⟩
def UH(tl:List (Key×iX U×List Nat))(fp:Key->List Nat)(k:Key):List Nat:=match tl.find? (fun t=>iZ t.1 k) with|some t=>t.2.2|none=>fp k
theorem amw{tl:List (Key×iX U×List Nat)}(hn:(tl.map (·.1)).Nodup){t:Key×iX U×List Nat}(ht:t∈tl):tl.find? (fun s=>iZ s.1 t.1)=some t:=by
 induction tl with
 |nil=>cases ht
 |cons s tl ih=>
  rw[wH,ur] at hn
  rcases kc.1 ht with rfl|ht
  ·simp[Am]
  ·have fc:iZ s.1 t.1=false:=M5.2 fun e=>hn.1 (by rw[e];exact mz.2 ⟨t,ht,rfl⟩)
   rw[List.find?_cons,fc]
   exact ih hn.2 ht
theorem IG{tl:List (Key×iX U×List Nat)}{fp:Key->List Nat}(hn:(tl.map (·.1)).Nodup){t:Key×iX U×List Nat}(ht:t∈tl):UH tl fp t.1=t.2.2:=by
 unfold UH;rw[amw hn ht]
theorem aaw{tl:List (Key×iX U×List Nat)}{fp:Key->List Nat}{k:Key}(h:k∉tl.map (·.1)):UH tl fp k=fp k:=by
 unfold UH
 have:tl.find? (fun t=>iZ t.1 k)=none:=zeb.2 fun t ht hk=>h (mz.2 ⟨t,ht,pX.1 (by simpa using hk)⟩)
 rw[this]
theorem Vp{α:Type}{f:α->List Nat}:∀{l:List α},(l.flatMap f).Nodup->∀{t:α},t∈l->(f t).Nodup
 |[],_,t,ht=>by simp at ht
 |t0::d,h,t,ht=>by
  simp only[zZ,rV] at h
  rcases kc.1 ht with rfl|ht
  ·exact h.1
  ·exact Vp h.2.1 ht
theorem Ry{α:Type}{f:α->List Nat}:∀{l:List α},(l.flatMap f).Nodup->∀{t t':α},t∈l->t'∈l->t≠t'->∀{b:Nat},b∈f t->b∉f t'
 |[],_,t,t',ht,_,_,_,_=>by simp at ht
 |t0::d,h,t,t',ht,Uy,fc,b,hb=>by
  simp only[zZ,rV] at h
  intro bj
  rcases kc.1 ht with e1|h1
  ·rcases kc.1 Uy with e2|h2
   ·exact fc (e1.trans e2.symm)
   ·subst e1;exact h.2.2 b hb b (o8.2 ⟨t',h2,bj⟩) rfl
  ·rcases kc.1 Uy with e2|h2
   ·subst e2;exact h.2.2 b bj b (o8.2 ⟨t,h1,hb⟩) rfl
   ·exact Ry h.2.1 h1 h2 fc hb bj
theorem am2(hC:∀g k,E.Qw g=some k->zW E.P g/\eQ E g k)(h:cR E pm F kv fp σ a w){o:Oper}(hd:∀d,o.dst=some d->d<σ.n){cl:Call}{f:FuncId}(sR:o.op=.call cl)(ix:cl.callee=.value (.func f)){k:ka U}(hf:zW E.P f)(hk:eQ E f k)
  {xs:List (SV U)} (hxl:xs.length=cl.args.toList.length) (vS:∀x∈xs,∀k∈x.keys,Names σ k) (hxs:∀(i:Nat)(x:SV U)(q:Operand),xs[i]? =some x->cl.args.toList[i]? =some q->RS E w F kv fp (bY σ) x (a.eval q))
  {rs:List Key} {types:List TypeId} {r:cq U} (hr:AT E (restrict σ.bP rs) σ.aS (o.dst.getD 1000000) k types xs=some r) (hp:∀p∈r.pre,p) (oG:∀k∈dZ o r,¬Names σ k)
  {next:Act->World->Prop} {Q:Exit->Act->World->Prop} (hn:∀F kv fp a' w',cR E pm F kv fp (AM.apply o r σ) a' w'->next a' w'):o.wp E.P a w next Q:=by
 unfold AT at hr
 split at hr
 ·rename_i ps ds l5
  split at hr
  ·rename_i x hof
   split at hr
   ·rename_i us eb lk avs es hmu aa4
    simp only at hr
    generalize XG:(bif vK (k.oe x).fresh (k.oe x).val&& !(AF k.md) then[] else gr k.md xs)=lZ at hr
    cases hc:(n7 ((es++eb).map (·.1))&& !(lk.any fun u=>(gr k.md xs).any (iZ u))&&ED (restrict σ.bP rs) k.KQ k.md (k.want (types.map E.Ai)) xs)<;>simp only[hc,cond_false,cond_true] at hr
    ·cases hr
    ·have G9:=ZA hr
     have hp:∀p∈ps++k.pre x,p:=by rw[<-G9] at hp;exact hp
     simp only[cN,qK] at hc
     obtain⟨⟨GC,Qf⟩,hc3⟩:=hc
     have aa_:=k.law ds x hof
     obtain⟨ls,oi,aqD,Oo,anD,Hb,anr,ans,BB⟩:=ana hC (K:=(gr k.md xs).filter fun k=>(σ.bP k).isSome) (vs:=cl.args.toList.map a.eval) h l5 (fun p kW=>hp p (by simp[kW])) (by simp[hxl]) (fun i y u hy hu=>by
      rw[nS] at hu
      cases hq:cl.args.toList[i]? with
      |none=>rw[hq] at hu;cases hu
      |some q=>rw[hq] at hu;cases hu;exact hxs i y q hy hq) vS (fun _ h1 h2=>xR.2 ⟨h1,h2⟩) hmu
     have Nl:uf w k.KQ k.md ds (cl.args.toList.map a.eval):=alp h l5 (by simp[hxl]) (fun i y u hy hu=>by
      rw[nS] at hu
      cases hq:cl.args.toList[i]? with
      |none=>rw[hq] at hu;cases hu
      |some q=>rw[hq] at hu;cases hu;exact hxs i y q hy hq) hc3
     rw[<-aa_] at oi Nl
     have anu:∀k'∈lk,k'∉gr k.md xs:=by
      intro u hu qG
      have:(lk.any fun u=>(gr k.md xs).any (iZ u))=true:=vD.2 ⟨u,hu,tf.2 qG⟩
      rw[this] at Qf;cases Qf
     have Gg:∀{k':Key}{b:Nat},(σ.bP k').isSome=true->b∈fp k'->¬F b/\(pm.W b\/pm.w0.heap.size<=b)/\b<w.heap.size:=by
      intro k' b cY hb
      obtain⟨e,he⟩:=nA.1 cY
      exact h.fT k' e b he hb
     have yN:∀{k' k'':Key}{b:Nat},k'≠k''->(σ.bP k').isSome=true->(σ.bP k'').isSome=true->b∈fp k'->b∉fp k'':=by
      intro k' k'' b fc h1 h2 hb
      obtain⟨e,he⟩:=nA.1 h1
      obtain⟨e',fi⟩:=nA.1 h2
      exact h.apart k' k'' e e' b fc he fi hb
     generalize aeS:FK F fp ((gr k.md xs).filter fun k=>(σ.bP k).isSome)=Fc at oi
     have Wl:∀b,F b->Fc b:=fun b hb=>by rw[<-aeS];exact .inl hb
     have Wk:∀b,Fc b->F b\/∃k'∈gr k.md xs,(σ.bP k').isSome=true/\b∈fp k':=by
      intro b hb
      rw[<-aeS] at hb
      rcases hb with hb|⟨k',cY,hb⟩
      ·exact .inl hb
      ·rw[xR] at cY
       exact .inr ⟨k',cY.1,cY.2,hb⟩
     have abJ:∀b,Fc b->b<w.heap.size:=by
      intro b hb
      rcases Wk b hb with hb|⟨k',_,h2,hb⟩
      ·exact h.uI b hb
      ·exact(Gg h2 hb).2.2
     have aeR:∀k'∈lk,∀b∈fp k',¬Fc b:=by
      intro u hu b hb wO
      rcases Wk b wO with h1|⟨k',h1,h2,h3⟩
      ·exact(Gg (Oo u hu).1 hb).1 h1
      ·exact yN (fun e=>anu u hu (by rw[<-e];exact h1)) h2 (Oo u hu).1 h3 hb
     have aa9:∀b∈ls.flatten,b<w.heap.size/\¬Fc b:=by
      intro b hb
      obtain⟨u,hu,hb⟩:=Hb b hb
      exact⟨(Gg (Oo u hu).1 hb).2.2,aeR u hu b hb⟩
     show o.upon E.P a next Q ((execOp a.eval o).run E.P w)
     rw[alk sR ix hf,Oper.upon_enter]
     refine(hk x (fun p kW=>hp p (by simp[kW])) w Fc _ ls abJ (h.lay.gv fun b hb=>⟨Wl b hb,rfl⟩) oi Nl anD aa9).mono ?_
     rintro e w' ⟨Z6,sQ,jh,rfl,qw,PX,aa7,qE,Nl,XA⟩
     show next (a.put o.dst (Pr Z6)) w'
     obtain⟨Fn,P1,P2,P3,aes,aew⟩:∃Fn:Nat->Prop,(∀b,F b->Fn b)/\(∀b,Fn b->Fc b\/((w.heap.size<=b\/b∈ls.flatten)/\b<w'.heap.size/\b∉sQ.flatten++jh.flatten))/\
       (∀k' b,k'∉lZ->k'∉lk->(σ.bP k').isSome=true->b∈fp k'->¬Fn b)/\nQ E w' Fn (k.oe x).fresh (k.oe x).val Z6 sQ/\fq E w' Fn w k.md (cl.args.toList.map a.eval) (k.oe x).Ll jh:=by
      cases Om:(vK (k.oe x).fresh (k.oe x).val&& !(AF k.md))<;>simp only[Om,cond_true,cond_false] at XG
      ·refine⟨_,fun b hb=> .inl (Wl b hb),fun b hb=>hb,fun k' b cY lH hl hb Qi=> ?_,PX,aa7⟩
       rcases Qi with Qi|Qi
       ·rcases Wk b Qi with h1|⟨k'',h1,h2,h3⟩
        ·exact(Gg hl hb).1 h1
        ·exact yN (fun e=>cY (by rw[<-XG,<-e];exact h1)) h2 hl h3 hb
       ·rcases Qi.1 with g|g
        ·have:=(Gg hl hb).2.2
         omega
        ·obtain⟨u,hu,bj⟩:=Hb b g
         exact yN (fun e=>lH (by rw[<-e];exact hu)) (Oo u hu).1 hl bj hb
      ·simp only[cN,qK] at Om
       exact⟨F,fun b hb=>hb,fun b hb=> .inl (Wl b hb),fun k' b _ _ hl hb=>(Gg hl hb).1,PX.any Om.1,aa7.any Om.2⟩
     have jg:∀b,b<w.heap.size->b∉ls.flatten->w'.heap[b]? =w.heap[b]? :=fun b h1 h2=>qw.block b h1 h2
     have vQ:w.heap.size<=w'.heap.size:=qw.size
     have aqB:=qE
     rw[rV] at qE
     have BC:∀b,F b->Fn b/\w'.heap[b]? =w.heap[b]? :=fun b hb=>⟨P1 b hb,jg b (h.uI b hb) (fun bj=>(aa9 b bj).2 (Wl b hb))⟩
     obtain⟨tl,t,htl,rfl,hT1,hT2,hT3,hT4⟩:=BB w' Fn jh aew BC (fun k hk c hc ix=>jg c (Gg (Oo k hk).1 hc).2.2 ix) qE.2.1 (fun b hb=>(XA b hb).imp id fun g k hk iW=>by have:=(Gg (Oo k hk).1 iW).2.2;omega)
     obtain⟨d,rfl,d1,d2,d3⟩:=adn aa4 aes
     have anC:∀b∈jh.flatten,b<w'.heap.size:=fun b hb=>by
      rcases XA b hb with g|g
      ·have:=(aa9 b g).1;omega
      ·exact g.2
     have hC:∀b,(b∈sQ.flatten++jh.flatten\/(b∉ls.flatten/\∃k'∈lk,b∈fp k'))->¬Fn b/\(pm.W b\/pm.w0.heap.size<=b)/\b<w'.heap.size/\∀k',(σ.bP k').isSome=true->k'∉lk->b∉fp k':=by
      intro b hb
      have On:¬((w.heap.size<=b\/b∈ls.flatten)/\b<w'.heap.size/\b∉sQ.flatten++jh.flatten):=fun h1=>by
       rcases hb with hb|hb
       ·exact h1.2.2 hb
       ·rcases h1.1 with g|g
        ·obtain⟨k',cY,bj⟩:=hb.2
         have:=(Gg (Oo k' cY).1 bj).2.2
         omega
        ·exact hb.1 g
      have SN:(w.heap.size<=b/\b<w'.heap.size/\b∈sQ.flatten++jh.flatten)\/∃k'∈lk,b∈fp k':=by
       rcases hb with hb|hb
       ·have h0:(b∈ls.flatten\/w.heap.size<=b)/\b<w'.heap.size:=by
         rcases jI.1 hb with g|g
         ·exact Nl b g
         ·exact⟨(XA b g).imp id fun g=>g.1,anC b g⟩
        rcases h0.1 with g|g
        ·exact .inr (Hb b g)
        ·exact .inl ⟨g,h0.2,hb⟩
       ·exact .inr hb.2
      rcases SN with⟨g1,g2,g3⟩|⟨k',cY,bj⟩
      ·refine⟨fun wO=> ?_,.inr (uN h.upto.size g1),g2,fun k' hl _ bj=> ?_⟩
       ·rcases P2 b wO with h1|h1
        ·have:=abJ b h1;omega
        ·exact On h1
       ·have:=(Gg hl bj).2.2;omega
      ·have h3:=Gg (Oo k' cY).1 bj
       refine⟨fun wO=> ?_,h3.2.1,by omega,fun k'' hl hn GF=>yN (fun e=>hn (by rw[<-e];exact cY)) (Oo k' cY).1 hl bj GF⟩
       rcases P2 b wO with h1|h1
       ·exact aeR k' cY b bj h1
       ·exact On h1
     have hCt:∀b∈tl.flatMap (·.2.2)++t.bl,b∈sQ.flatten++jh.flatten\/(b∉ls.flatten/\∃k'∈lk,b∈fp k'):=fun b hb=>(hT4 b hb).imp (fun g=>qM _ g) (fun g=>g)
     have hCd:∀b∈d.bl,b∈sQ.flatten++jh.flatten\/(b∉ls.flatten/\∃k'∈lk,b∈fp k'):=fun b hb=> .inl (rW _ (by rw[<-d2];exact hb))
     have SL:∀b∈d.bl,b∉tl.flatMap (·.2.2)++t.bl:=by
      intro b hb bj
      rw[d2] at hb
      rcases hT4 b bj with g|⟨g1,k',cY,g2⟩
      ·exact qE.2.2 b hb b g rfl
      ·rcases(Nl b hb).1 with g3|g3
       ·exact g1 g3
       ·have:=(Gg (Oo k' cY).1 g2).2.2;omega
     generalize hD:(d++t:fw U)=D
     have abK:D.bl=d.bl++t.bl:=by rw[<-hD,fw.wv]
     have aeL:D.bl.Nodup:=by
      rw[abK,rV]
      rw[rV] at hT3
      exact⟨by rw[d2];exact qE.1,hT3.2.1,fun b hb c hc e=>SL b hb (qM _ (by rw[e];exact hc))⟩
     have htn:(tl.flatMap (·.2.2)).Nodup:=(rV.1 hT3).1
     have hDt:∀b∈D.bl,b∉tl.flatMap (·.2.2):=by
      intro b hb bj
      rw[abK,jI] at hb
      rcases hb with g|g
      ·exact SL b g (rW _ bj)
      ·exact(rV.1 hT3).2.2 b bj b g rfl
     have hCD:∀b∈D.bl,b∈sQ.flatten++jh.flatten\/(b∉ls.flatten/\∃k'∈lk,b∈fp k'):=by
      intro b hb
      rw[abK,jI] at hb
      rcases hb with g|g
      ·exact hCd b g
      ·exact hCt b (qM _ g)
     have Ou:(D.map (·.1)).Nodup:=by
      have:=adW.1 GC
      rw[<-hD]
      simpa[fw.es,Function.comp_def] using this
     have hD1:∀s∈D,∀kv fp bad,ug E w' Fn kv fp bad s.2.1 s.2.2.1 s.2.2.2:=by
      intro s hs
      rw[<-hD,jI] at hs
      rcases hs with hs|hs
      ·exact d1 s hs
      ·exact hT2 s hs
     have kN:∀k',k'∈dZ o r↔∃s∈D,k'=(o.dst.getD 1000000,s.1):=by
      intro k'
      rw[<-G9,<-hD]
      simp only[dZ,fw.es,mz,jI]
      constructor
      ·rintro⟨p,(⟨s,hs,rfl⟩|⟨s,hs,rfl⟩),rfl⟩
       ·exact⟨s,.inl hs,rfl⟩
       ·exact⟨s,.inr hs,rfl⟩
      ·rintro⟨s,(hs|hs),rfl⟩
       ·exact⟨_,.inl ⟨s,hs,rfl⟩,rfl⟩
       ·exact⟨_,.inr ⟨s,hs,rfl⟩,rfl⟩
     have ll:jW r=us.map (·.1):=by rw[<-G9];rfl
     have Nk:us.map (·.1)=tl.map (·.1):=by rw[<-htl];simp[Function.comp_def]
     have V1:(tl.map (·.1)).Nodup:=by rw[<-Nk];exact anr
     have AA:r.lZ=lZ++lk:=by rw[<-G9]
     have kk:∀k',k'∉dZ o r->D.BX (o.dst.getD 1000000) kv k'=kv k'/\D.AH (o.dst.getD 1000000) (UH tl fp) k'=UH tl fp k':=by
      intro k' cY
      exact fw.other (fun t ht e=>cY ((kN k').2 ⟨t,ht,e⟩)) kv (UH tl fp)
     have ant:∀k'∈lk,k'∉dZ o r:=fun u hu e=>oG _ e (Oo u hu).2
     have anq:∀k'∈tl.map (·.1),k'∈lk:=by
      intro k' cY
      rw[<-Nk] at cY
      obtain⟨u,hu,rfl⟩:=mz.1 cY
      exact ans u hu
     have hnk:∀k',Names σ k'->D.BX (o.dst.getD 1000000) kv k'=kv k':=fun k' cY=>(kk k' (fun e=>oG _ e cY)).1
     have aeT:∀s∈D,∀b∈s.2.2.2,b∈D.bl:=fun s hs b hb=>fw.qp.2 ⟨s,hs,hb⟩
     have aaW:∀s∈tl,∀b∈s.2.2,b∈tl.flatMap (·.2.2):=fun s hs b hb=>o8.2 ⟨s,hs,hb⟩
     refine hn Fn (D.BX (o.dst.getD 1000000) kv) (D.AH (o.dst.getD 1000000) (UH tl fp)) _ w' ?_
     refine cR.apply h o r (Pr Z6) hd ?_ (fun k' cY=>(kk k' cY).1) ?_ oG BC ?_ ?_ ?_ ?_ ?_ ?_ ?_ vQ
     ·intro sv E5
      rw[<-G9] at E5
      simp only[gI] at E5
      subst E5
      obtain⟨g1,g2⟩:=d3 (D.BX (o.dst.getD 1000000) kv) (D.AH (o.dst.getD 1000000) (UH tl fp)) (bY (AM.apply o r σ)) (fun s hs=>fw.yE Ou (by rw[<-hD];exact rW _ hs))
      exact aln g1 g2
     ·intro k' h1 h2
      rw[(kk k' h1).2]
      exact aaw (by rw[<-Nk,<-ll];exact h2)
     ·intro k' e h1 h2 h3 he b hb
      have hl:(σ.bP k').isSome=true:=by rw[he];rfl
      refine jg b (Gg hl hb).2.2 (fun bj=> ?_)
      obtain⟨u,hu,bj⟩:=Hb b bj
      exact yN (fun e'=>h3 (by rw[AA];exact qM _ (by rw[<-e'];exact hu))) (Oo u hu).1 hl bj hb
     ·rintro k' e (⟨j,rfl,hj⟩|hu)
      ·have:∃s∈D,s.1=j/\s.2.1=e:=by
        rw[<-G9] at hj
        rw[<-hD]
        simp only[fw.es,mz,jI,pE] at hj
        rcases hj with⟨s,h1,h2,h3⟩|⟨s,h1,h2,h3⟩
        ·exact⟨s,rW _ h1,h2,h3⟩
        ·exact⟨s,qM _ h1,h2,h3⟩
       obtain⟨s,hs,rfl,rfl⟩:=this
       rw[fw.yE Ou hs,fw.vV Ou hs]
       refine⟨hD1 s hs _ _ _,fw.zi aeL hs,fun b hb=> ?_⟩
       obtain⟨c1,c2,c3,_⟩:=hC b (hCD b (aeT s hs b hb))
       exact⟨c1,c2,c3⟩
      ·have hu:(k',e)∈us:=by rw[<-G9] at hu;exact hu
       rw[<-htl] at hu
       obtain⟨s,hs,hse⟩:=mz.1 hu
       simp only[pE] at hse
       obtain⟨rfl,rfl⟩:=hse
       have hsk:s.1∈lk:=anq _ (mz.2 ⟨s,hs,rfl⟩)
       have UA:=ant _ hsk
       rw[(kk _ UA).1,(kk _ UA).2,IG V1 hs]
       refine⟨hT1 s hs _ _ _ hnk (fun s' kE=>fw.yE Ou (by rw[<-hD];exact qM _ kE)),Vp htn hs,fun b hb=> ?_⟩
       obtain⟨c1,c2,c3,_⟩:=hC b (hCt b (rW _ (aaW s hs b hb)))
       exact⟨c1,c2,c3⟩
     ·intro k' e b _ _ h3 he hb
      rw[AA] at h3
      exact P3 k' b (fun e=>h3 (rW _ e)) (fun e=>h3 (qM _ e)) (by rw[he];rfl) hb
     ·
      have hA:∀s∈D,∀k' b,k'≠(o.dst.getD 1000000,s.1)->(k'∈dZ o r\/k'∈jW r\/(k'∉r.lZ/\(σ.bP k').isSome))->b∈s.2.2.2->b∉D.AH (o.dst.getD 1000000) (UH tl fp) k':=by
       intro s hs k' b fc cY hb bj
       have hbD:=aeT s hs b hb
       by_cases Sy:k'∈dZ o r
       ·obtain⟨s',kE,rfl⟩:=(kN k').1 Sy
        rw[fw.vV Ou kE] at bj
        exact fw.sD aeL hs kE (fun e=>fc (by rw[e])) hb bj
       ·rw[(kk k' Sy).2] at bj
        by_cases hku:k'∈tl.map (·.1)
        ·obtain⟨s',kE,rfl⟩:=mz.1 hku
         rw[IG V1 kE] at bj
         exact hDt b hbD (aaW s' kE b bj)
        ·rw[aaw hku] at bj
         have hk3:k'∉r.lZ/\(σ.bP k').isSome:=by
          rcases cY with cY|cY|cY
          ·exact absurd cY Sy
          ·exact absurd (by rw[<-Nk,<-ll];exact cY) hku
          ·exact cY
         rw[AA] at hk3
         exact(hC b (hCD b hbD)).2.2.2 k' hk3.2 (fun e=>hk3.1 (qM _ e)) bj
      intro k1 k2 b fc h1 h2 hb
      by_cases h1a:k1∈dZ o r
      ·obtain⟨s,hs,rfl⟩:=(kN k1).1 h1a
       rw[fw.vV Ou hs] at hb
       exact hA s hs k2 b (Ne.symm fc) h2 hb
      ·have h1u:k1∈tl.map (·.1):=by rw[<-Nk,<-ll];exact h1.resolve_left h1a
       obtain⟨s1,hs1,rfl⟩:=mz.1 h1u
       by_cases h2a:k2∈dZ o r
       ·obtain⟨s,hs,rfl⟩:=(kN k2).1 h2a
        intro bj
        rw[fw.vV Ou hs] at bj
        exact hA s hs s1.1 b fc (.inr (.inl (by rw[ll,Nk];exact h1u))) bj hb
       ·rw[(kk _ h1a).2,IG V1 hs1] at hb
        rw[(kk _ h2a).2]
        by_cases h2u:k2∈tl.map (·.1)
        ·obtain⟨s2,hs2,rfl⟩:=mz.1 h2u
         rw[IG V1 hs2]
         exact Ry htn hs1 hs2 (fun e=>fc (by rw[e])) hb
        ·rw[aaw h2u]
         have h2l:k2∉r.lZ/\(σ.bP k2).isSome:=by
          rcases h2 with h2|h2|h2
          ·exact absurd h2 h2a
          ·exact absurd (by rw[<-Nk,<-ll];exact h2) h2u
          ·exact h2
         rw[AA] at h2l
         exact(hC b (hCt b (rW _ (aaW s1 hs1 b hb)))).2.2.2 k2 h2l.2 (fun e=>h2l.1 (qM _ e))
     ·intro b hb
      rcases P2 b hb with h1|h1
      ·have:=abJ b h1;omega
      ·exact h1.2.1
     ·intro b hb
      rcases P2 b hb with h1|h1
      ·rcases Wk b h1 with h2|⟨k',_,h2,h3⟩
       ·exact h.uH b h2
       ·exact .inr (Gg h2 h3).2.1
      ·rcases h1.1 with g|g
       ·exact .inr (.inr (uN h.upto.size g))
       ·obtain⟨u,hu,bj⟩:=Hb b g
        exact .inr (Gg (Oo u hu).1 bj).2.1
     ·refine h.upto.trans (qw.mono (fun b hb=> ?_))
      obtain⟨u,hu,hb⟩:=Hb b hb
      exact(Gg (Oo u hu).1 hb).2.1
   ·cases hr
  ·cases hr
 ·cases hr
end AM
