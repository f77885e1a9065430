/- THE ABSTRACT MACHINE: a call by its contract. -/
import Derived.Test.YtpkdgcookaobfaaGreatDoorQAmCall4
namespace AM
set_option linter.unusedVariables false
open Go
variable{U:lz}{E:Env U}{pm:Pm}
variable{F F':Nat->Prop}{kv:Key->Value}{fp:Key->List Nat}{σ:ak U}{a:Act}{w w':World}{bad:Key->Bool}
theorem adC{l:List Nat}:nN l=true↔l.Nodup:=by
 induction l with
 |nil=>simp[nN]
 |cons k l ih=>
  simp only[nN,cJ,ru,tY,ih]
  rw[<-wu,vm]
  simp
theorem fi.SW{d:fi U}{dst:Nat}{k:Key}{t:Nat×iN U×Value×List Nat}(h:d.find? (fun t=>iR (dst,t.1) k)=some t):t∈d/\k=(dst,t.1):=
 ⟨List.mem_of_find?_eq_some h,(pK.1 (by simpa using List.find?_some h)).symm⟩
theorem fi.Ol{d:fi U}{dst:Nat}(hn:(d.map (·.1)).Nodup){t:Nat×iN U×Value×List Nat}(ht:t∈d):d.find? (fun t'=>iR (dst,t'.1) (dst,t.1))=some t:=by
 cases hf:d.find? (fun t'=>iR (dst,t'.1) (dst,t.1)) with
 |none=>
  have:=zeb.1 hf t ht
  simp[zM] at this
 |some t'=>
  obtain⟨h1,h2⟩:=fi.SW hf
  have h3:t'.1=t.1:=by simpa using h2.symm
  rw[zdg,List.pairwise_map] at hn
  by_cases he:t'=t
  ·rw[he]
  ·exfalso
   have hp:=hn
   obtain⟨i,hi,qw⟩:=sG h1
   obtain⟨j,hj,ue⟩:=sG ht
   rw[UC] at hp
   rcases Nat.lt_trichotomy i j with h|h|h
   ·exact hp i j hi hj h (by rw[qw,ue,h3])
   ·subst h;exact he (by rw[<-qw,<-ue])
   ·exact hp j i hj hi h (by rw[qw,ue,h3])
theorem fi.x_{d:fi U}{dst:Nat}{kv:Key->Value}(hn:(d.map (·.1)).Nodup){t:Nat×iN U×Value×List Nat}(ht:t∈d):d.BE dst kv (dst,t.1)=t.2.2.1:=by
 unfold fi.BE;rw[fi.Ol hn ht]
theorem fi.vB{d:fi U}{dst:Nat}{fp:Key->List Nat}(hn:(d.map (·.1)).Nodup){t:Nat×iN U×Value×List Nat}(ht:t∈d):d.Af dst fp (dst,t.1)=t.2.2.2:=by
 unfold fi.Af;rw[fi.Ol hn ht]
theorem fi.other{d:fi U}{dst:Nat}{k:Key}(h:∀t∈d,k≠(dst,t.1))(kv:Key->Value)(fp:Key->List Nat):d.BE dst kv k=kv k/\d.Af dst fp k=fp k:=by
 have:d.find? (fun t=>iR (dst,t.1) k)=none:=zeb.2 fun t ht hk=>h t ht (pK.1 (by simpa using hk)).symm
 unfold fi.BE fi.Af
 rw[this]
 exact⟨rfl,rfl⟩
theorem fi.qe{d:fi U}{b:Nat}:b∈d.bl↔∃t∈d,b∈t.2.2.2:=by simp[fi.bl]
theorem fi.yQ:∀{d:fi U},d.bl.Nodup->∀{t:Nat×iN U×Value×List Nat},t∈d->t.2.2.2.Nodup
 |[],_,t,ht=>by simp at ht
 |t0::d,h,t,ht=>by
  simp only[fi.bl,zB,rK] at h
  rcases jZ.1 ht with rfl|ht
  ·exact h.1
  ·exact fi.yQ (d:=d) h.2.1 ht
theorem fi.sh:∀{d:fi U},d.bl.Nodup->∀{t t':Nat×iN U×Value×List Nat},t∈d->t'∈d->t.1≠t'.1->∀{b:Nat},b∈t.2.2.2->b∉t'.2.2.2
 |[],_,t,t',ht,_,_,_,_=>by simp at ht
 |t0::d,h,t,t',ht,Up,eZ,b,hb=>by
  simp only[fi.bl,zB,rK] at h
  intro bj
  rcases jZ.1 ht with rfl|_
  ·rcases jZ.1 Up with rfl|Up
   ·exact eZ rfl
   ·exact h.2.2 b hb b (oQ.2 ⟨t',Up,bj⟩) rfl
  ·rename_i ht1
   rcases jZ.1 Up with h0|ht2
   ·subst h0
    exact h.2.2 b bj b (oQ.2 ⟨t,ht1,hb⟩) rfl
   ·exact fi.sh (d:=d) h.2.1 ht1 ht2 eZ hb bj
theorem akV{P:Program}{w:World}{a:Act}{o:Oper}{cl:Call}{f:FuncId}(sF:o.op=.call cl)(iv:cl.callee=.value (.func f))(hf:zy P f):
  (execOp a.eval o).run P w=.ok (.enter f (cl.args.toList.map a.eval).toArray) w:=by
 obtain⟨fn,h1,h2,h3⟩:=hf
 have e:execOp a.eval o=callFunc f (#[]++cl.args.map a.eval++ #[]):=by
  unfold execOp
  rw[sF]
  simp only[resolve,iv]
  rfl
 rw[e]
 have e2:(#[]++cl.args.map a.eval++ #[]:Array Value)=(cl.args.toList.map a.eval).toArray:=by
  apply Array.ext'
  simp
 rw[e2]
 have h4:fn.body≠none:=by cases hb:fn.body<;>simp[hb] at h2⊢
 have h5:fn.name≠ "runtime.NumGoroutine" :=by simpa using h3
 simp[callFunc,go_sem,h1,h4,h5]
theorem akX{avs:List (AV U)}{us:List Value}{bad:Key->Bool}(hl:avs.length=us.length)(h:∀(i:Nat)(x:AV U)(u:Value),avs[i]? =some x->us[i]? =some u->RV E w F kv fp bad x u):
  RS E w F kv fp bad (match(generalizing:=false) avs with|[v]=> .v v|vs=> .wv vs) (Pd us):=by
 match avs,us,hl with
 |[v],[u],_=>exact h 0 v u rfl rfl
 |[],[],_=>exact⟨[],rfl,rfl,h⟩
 |x::y::r,p::q::s,hl=>exact⟨p::q::s,rfl,hl,h⟩
def Uw(tl:List (Key×iN U×List Nat))(fp:Key->List Nat)(k:Key):List Nat:=match tl.find? (fun t=>iR t.1 k) with|some t=>t.2.2|none=>fp k
theorem al7{tl:List (Key×iN U×List Nat)}(hn:(tl.map (·.1)).Nodup){t:Key×iN U×List Nat}(ht:t∈tl):tl.find? (fun s=>iR s.1 t.1)=some t:=by
 induction tl with
 |nil=>cases ht
 |cons s tl ih=>
  rw[wh,tY] at hn
  rcases jZ.1 ht with rfl|ht
  ·simp[zM]
  ·have eZ:iR s.1 t.1=false:=MP.2 fun e=>hn.1 (by rw[e];exact mf.2 ⟨t,ht,rfl⟩)
   rw[List.find?_cons,eZ]
   exact ih hn.2 ht
theorem Is{tl:List (Key×iN U×List Nat)}{fp:Key->List Nat}(hn:(tl.map (·.1)).Nodup){t:Key×iN U×List Nat}(ht:t∈tl):Uw tl fp t.1=t.2.2:=by
 unfold Uw;rw[al7 hn ht]
theorem aac{tl:List (Key×iN U×List Nat)}{fp:Key->List Nat}{k:Key}(h:k∉tl.map (·.1)):Uw tl fp k=fp k:=by
 unfold Uw
 have:tl.find? (fun t=>iR t.1 k)=none:=zeb.2 fun t ht hk=>h (mf.2 ⟨t,ht,pK.1 (by simpa using hk)⟩)
 rw[this]
theorem Vf{α:Type}{f:α->List Nat}:∀{l:List α},(l.flatMap f).Nodup->∀{t:α},t∈l->(f t).Nodup
 |[],_,t,ht=>by simp at ht
 |t0::d,h,t,ht=>by
  simp only[zB,rK] at h
  rcases jZ.1 ht with rfl|ht
  ·exact h.1
  ·exact Vf h.2.1 ht
theorem Ro{α:Type}{f:α->List Nat}:∀{l:List α},(l.flatMap f).Nodup->∀{t t':α},t∈l->t'∈l->t≠t'->∀{b:Nat},b∈f t->b∉f t'
 |[],_,t,t',ht,_,_,_,_=>by simp at ht
 |t0::d,h,t,t',ht,Up,eZ,b,hb=>by
  simp only[zB,rK] at h
  intro bj
  rcases jZ.1 ht with e1|h1
  ·rcases jZ.1 Up with e2|h2
   ·exact eZ (e1.trans e2.symm)
   ·subst e1;exact h.2.2 b hb b (oQ.2 ⟨t',h2,bj⟩) rfl
  ·rcases jZ.1 Up with e2|h2
   ·subst e2;exact h.2.2 b bj b (oQ.2 ⟨t,h1,hb⟩) rfl
   ·exact Ro h.2.1 h1 h2 eZ hb bj
theorem amB(hC:∀g k,E.Ql g=some k->zy E.P g/\eG E g k)(h:cM E pm F kv fp σ a w){o:Oper}(hd:∀d,o.dst=some d->d<σ.n){cl:Call}{f:FuncId}(sF:o.op=.call cl)(iv:cl.callee=.value (.func f)){k:jY U}(hf:zy E.P f)(hk:eG E f k)
  {xs:List (SV U)} (hxl:xs.length=cl.args.toList.length) (vy:∀x∈xs,∀k∈x.keys,Names σ k) (hxs:∀(i:Nat)(x:SV U)(q:Operand),xs[i]? =some x->cl.args.toList[i]? =some q->RS E w F kv fp (bW σ) x (a.eval q))
  {rs:List Key} {types:List TypeId} {r:cn U} (hr:As E (restrict σ.bO rs) σ.aT (o.dst.getD 1000000) k types xs=some r) (hp:∀p∈r.pre,p) (ov:∀k∈dR o r,¬Names σ k)
  {next:Act->World->Prop} {Q:Exit->Act->World->Prop} (hn:∀F kv fp a' w',cM E pm F kv fp (AM.apply o r σ) a' w'->next a' w'):o.wp E.P a w next Q:=by
 unfold As at hr
 split at hr
 ·rename_i ps ds lK
  split at hr
  ·rename_i x hof
   split at hr
   ·rename_i us eb lk avs es hmu aaL
    simp only at hr
    generalize Xj:(bif vt (k.nY x).fresh (k.nY x).val&& !(Ad k.md) then[] else gb k.md xs)=lG at hr
    cases hc:(nN ((es++eb).map (·.1))&& !(lk.any fun u=>(gb k.md xs).any (iR u))&&Ef (restrict σ.bO rs) k.Ku k.md (k.want (types.map E.zJ)) xs)<;>simp only[hc,cond_false,cond_true] at hr
    ·cases hr
    ·have GR:=Zd hr
     have hp:∀p∈ps++k.pre x,p:=by rw[<-GR] at hp;exact hp
     simp only[cJ,ru] at hc
     obtain⟨⟨Gf,P6⟩,hc3⟩:=hc
     have aaS:=k.law ds x hof
     obtain⟨ls,n9,ap_,Ob,am',GW,amZ,am0,Be⟩:=amL hC (K:=(gb k.md xs).filter fun k=>(σ.bO k).isSome) (vs:=cl.args.toList.map a.eval) h lK (fun p kJ=>hp p (by simp[kJ])) (by simp[hxl]) (fun i y u hy hu=>by
      rw[nT] at hu
      cases hq:cl.args.toList[i]? with
      |none=>rw[hq] at hu;cases hu
      |some q=>rw[hq] at hu;cases hu;exact hxs i y q hy hq) vy (fun _ h1 h2=>zA.2 ⟨h1,h2⟩) hmu
     have M8:tO w k.Ku k.md ds (cl.args.toList.map a.eval):=akZ h lK (by simp[hxl]) (fun i y u hy hu=>by
      rw[nT] at hu
      cases hq:cl.args.toList[i]? with
      |none=>rw[hq] at hu;cases hu
      |some q=>rw[hq] at hu;cases hu;exact hxs i y q hy hq) hc3
     rw[<-aaS] at n9 M8
     have am2:∀k'∈lk,k'∉gb k.md xs:=by
      intro u hu qv
      have:(lk.any fun u=>(gb k.md xs).any (iR u))=true:=vm.2 ⟨u,hu,sR.2 qv⟩
      rw[this] at P6;cases P6
     have FP:∀{k':Key}{b:Nat},(σ.bO k').isSome=true->b∈fp k'->¬F b/\(pm.W b\/pm.w0.heap.size<=b)/\b<w.heap.size:=by
      intro k' b cU hb
      obtain⟨e,he⟩:=nf.1 cU
      exact h.fQ k' e b he hb
     have yh:∀{k' k'':Key}{b:Nat},k'≠k''->(σ.bO k').isSome=true->(σ.bO k'').isSome=true->b∈fp k'->b∉fp k'':=by
      intro k' k'' b eZ h1 h2 hb
      obtain⟨e,he⟩:=nf.1 h1
      obtain⟨e',fc⟩:=nf.1 h2
      exact h.apart k' k'' e e' b eZ he fc hb
     generalize aey:FK F fp ((gb k.md xs).filter fun k=>(σ.bO k).isSome)=Fc at n9
     have V':∀b,F b->Fc b:=fun b hb=>by rw[<-aey];exact .inl hb
     have V9:∀b,Fc b->F b\/∃k'∈gb k.md xs,(σ.bO k').isSome=true/\b∈fp k':=by
      intro b hb
      rw[<-aey] at hb
      rcases hb with hb|⟨k',cU,hb⟩
      ·exact .inl hb
      ·rw[zA] at cU
       exact .inr ⟨k',cU.1,cU.2,hb⟩
     have abp:∀b,Fc b->b<w.heap.size:=by
      intro b hb
      rcases V9 b hb with hb|⟨k',_,h2,hb⟩
      ·exact h.uk b hb
      ·exact(FP h2 hb).2.2
     have aex:∀k'∈lk,∀b∈fp k',¬Fc b:=by
      intro u hu b hb wo
      rcases V9 b wo with h1|⟨k',h1,h2,h3⟩
      ·exact(FP (Ob u hu).1 hb).1 h1
      ·exact yh (fun e=>am2 u hu (by rw[<-e];exact h1)) h2 (Ob u hu).1 h3 hb
     have aaQ:∀b∈ls.flatten,b<w.heap.size/\¬Fc b:=by
      intro b hb
      obtain⟨u,hu,hb⟩:=GW b hb
      exact⟨(FP (Ob u hu).1 hb).2.2,aex u hu b hb⟩
     show o.upon E.P a next Q ((execOp a.eval o).run E.P w)
     rw[akV sF iv hf,Oper.upon_enter]
     refine(hk x (fun p kJ=>hp p (by simp[kJ])) w Fc _ ls abp (h.lay.gg fun b hb=>⟨V' b hb,rfl⟩) n9 M8 am' aaQ).mono ?_
     rintro e w' ⟨ZL,sE,iY,rfl,ql,PL,aaO,qu,M8,Xd⟩
     show next (a.put o.dst (Pd ZL)) w'
     obtain⟨Fn,P1,P2,P3,ad_,aed⟩:∃Fn:Nat->Prop,(∀b,F b->Fn b)/\(∀b,Fn b->Fc b\/((w.heap.size<=b\/b∈ls.flatten)/\b<w'.heap.size/\b∉sE.flatten++iY.flatten))/\
       (∀k' b,k'∉lG->k'∉lk->(σ.bO k').isSome=true->b∈fp k'->¬Fn b)/\nD E w' Fn (k.nY x).fresh (k.nY x).val ZL sE/\fg E w' Fn w k.md (cl.args.toList.map a.eval) (k.nY x).KW iY:=by
      cases N_:(vt (k.nY x).fresh (k.nY x).val&& !(Ad k.md))<;>simp only[N_,cond_true,cond_false] at Xj
      ·refine⟨_,fun b hb=> .inl (V' b hb),fun b hb=>hb,fun k' b cU lp hl hb P9=> ?_,PL,aaO⟩
       rcases P9 with P9|P9
       ·rcases V9 b P9 with h1|⟨k'',h1,h2,h3⟩
        ·exact(FP hl hb).1 h1
        ·exact yh (fun e=>cU (by rw[<-Xj,<-e];exact h1)) h2 hl h3 hb
       ·rcases P9.1 with g|g
        ·have:=(FP hl hb).2.2
         omega
        ·obtain⟨u,hu,bj⟩:=GW b g
         exact yh (fun e=>lp (by rw[<-e];exact hu)) (Ob u hu).1 hl bj hb
      ·simp only[cJ,ru] at N_
       exact⟨F,fun b hb=>hb,fun b hb=> .inl (V' b hb),fun k' b _ _ hl hb=>(FP hl hb).1,PL.any N_.1,aaO.any N_.2⟩
     have iX:∀b,b<w.heap.size->b∉ls.flatten->w'.heap[b]? =w.heap[b]? :=fun b h1 h2=>ql.block b h1 h2
     have xx:w.heap.size<=w'.heap.size:=ql.size
     have ap9:=qu
     rw[rK] at qu
     have Bf:∀b,F b->Fn b/\w'.heap[b]? =w.heap[b]? :=fun b hb=>⟨P1 b hb,iX b (h.uk b hb) (fun bj=>(aaQ b bj).2 (V' b hb))⟩
     obtain⟨tl,t,htl,rfl,hT1,hT2,hT3,hT4⟩:=Be w' Fn iY aed Bf (fun k hk c hc iv=>iX c (FP (Ob k hk).1 hc).2.2 iv) qu.2.1 (fun b hb=>(Xd b hb).imp id fun g k hk iM=>by have:=(FP (Ob k hk).1 iM).2.2;omega)
     obtain⟨d,rfl,d1,d2,d3⟩:=ac3 aaL ad_
     have am9:∀b∈iY.flatten,b<w'.heap.size:=fun b hb=>by
      rcases Xd b hb with g|g
      ·have:=(aaQ b g).1;omega
      ·exact g.2
     have hC:∀b,(b∈sE.flatten++iY.flatten\/(b∉ls.flatten/\∃k'∈lk,b∈fp k'))->¬Fn b/\(pm.W b\/pm.w0.heap.size<=b)/\b<w'.heap.size/\∀k',(σ.bO k').isSome=true->k'∉lk->b∉fp k':=by
      intro b hb
      have Oa:¬((w.heap.size<=b\/b∈ls.flatten)/\b<w'.heap.size/\b∉sE.flatten++iY.flatten):=fun h1=>by
       rcases hb with hb|hb
       ·exact h1.2.2 hb
       ·rcases h1.1 with g|g
        ·obtain⟨k',cU,bj⟩:=hb.2
         have:=(FP (Ob k' cU).1 bj).2.2
         omega
        ·exact hb.1 g
      have SG:(w.heap.size<=b/\b<w'.heap.size/\b∈sE.flatten++iY.flatten)\/∃k'∈lk,b∈fp k':=by
       rcases hb with hb|hb
       ·have h0:(b∈ls.flatten\/w.heap.size<=b)/\b<w'.heap.size:=by
         rcases jC.1 hb with g|g
         ·exact M8 b g
         ·exact⟨(Xd b g).imp id fun g=>g.1,am9 b g⟩
        rcases h0.1 with g|g
        ·exact .inr (GW b g)
        ·exact .inl ⟨g,h0.2,hb⟩
       ·exact .inr hb.2
      rcases SG with⟨g1,g2,g3⟩|⟨k',cU,bj⟩
      ·refine⟨fun wo=> ?_,.inr (xr h.upto.size g1),g2,fun k' hl _ bj=> ?_⟩
       ·rcases P2 b wo with h1|h1
        ·have:=abp b h1;omega
        ·exact Oa h1
       ·have:=(FP hl bj).2.2;omega
      ·have h3:=FP (Ob k' cU).1 bj
       refine⟨fun wo=> ?_,h3.2.1,by omega,fun k'' hl hn Gh=>yh (fun e=>hn (by rw[<-e];exact cU)) (Ob k' cU).1 hl bj Gh⟩
       rcases P2 b wo with h1|h1
       ·exact aex k' cU b bj h1
       ·exact Oa h1
     have hCt:∀b∈tl.flatMap (·.2.2)++t.bl,b∈sE.flatten++iY.flatten\/(b∉ls.flatten/\∃k'∈lk,b∈fp k'):=fun b hb=>(hT4 b hb).imp (fun g=>rv _ g) (fun g=>g)
     have hCd:∀b∈d.bl,b∈sE.flatten++iY.flatten\/(b∉ls.flatten/\∃k'∈lk,b∈fp k'):=fun b hb=> .inl (sD _ (by rw[<-d2];exact hb))
     have SE:∀b∈d.bl,b∉tl.flatMap (·.2.2)++t.bl:=by
      intro b hb bj
      rw[d2] at hb
      rcases hT4 b bj with g|⟨g1,k',cU,g2⟩
      ·exact qu.2.2 b hb b g rfl
      ·rcases(M8 b hb).1 with g3|g3
       ·exact g1 g3
       ·have:=(FP (Ob k' cU).1 g2).2.2;omega
     generalize hD:(d++t:fi U)=D
     have abq:D.bl=d.bl++t.bl:=by rw[<-hD,fi.vU]
     have aer:D.bl.Nodup:=by
      rw[abq,rK]
      rw[rK] at hT3
      exact⟨by rw[d2];exact qu.1,hT3.2.1,fun b hb c hc e=>SE b hb (rv _ (by rw[e];exact hc))⟩
     have htn:(tl.flatMap (·.2.2)).Nodup:=(rK.1 hT3).1
     have hDt:∀b∈D.bl,b∉tl.flatMap (·.2.2):=by
      intro b hb bj
      rw[abq,jC] at hb
      rcases hb with g|g
      ·exact SE b g (sD _ bj)
      ·exact(rK.1 hT3).2.2 b bj b g rfl
     have hCD:∀b∈D.bl,b∈sE.flatten++iY.flatten\/(b∉ls.flatten/\∃k'∈lk,b∈fp k'):=by
      intro b hb
      rw[abq,jC] at hb
      rcases hb with g|g
      ·exact hCd b g
      ·exact hCt b (rv _ g)
     have Og:(D.map (·.1)).Nodup:=by
      have:=adC.1 Gf
      rw[<-hD]
      simpa[fi.es,Function.comp_def] using this
     have hD1:∀s∈D,∀kv fp bad,tP E w' Fn kv fp bad s.2.1 s.2.2.1 s.2.2.2:=by
      intro s hs
      rw[<-hD,jC] at hs
      rcases hs with hs|hs
      ·exact d1 s hs
      ·exact hT2 s hs
     have kw:∀k',k'∈dR o r↔∃s∈D,k'=(o.dst.getD 1000000,s.1):=by
      intro k'
      rw[<-GR,<-hD]
      simp only[dR,fi.es,mf,jC]
      constructor
      ·rintro⟨p,(⟨s,hs,rfl⟩|⟨s,hs,rfl⟩),rfl⟩
       ·exact⟨s,.inl hs,rfl⟩
       ·exact⟨s,.inr hs,rfl⟩
      ·rintro⟨s,(hs|hs),rfl⟩
       ·exact⟨_,.inl ⟨s,hs,rfl⟩,rfl⟩
       ·exact⟨_,.inr ⟨s,hs,rfl⟩,rfl⟩
     have kX:jQ r=us.map (·.1):=by rw[<-GR];rfl
     have M7:us.map (·.1)=tl.map (·.1):=by rw[<-htl];simp[Function.comp_def]
     have VO:(tl.map (·.1)).Nodup:=by rw[<-M7];exact amZ
     have z_:r.lG=lG++lk:=by rw[<-GR]
     have j7:∀k',k'∉dR o r->D.BE (o.dst.getD 1000000) kv k'=kv k'/\D.Af (o.dst.getD 1000000) (Uw tl fp) k'=Uw tl fp k':=by
      intro k' cU
      exact fi.other (fun t ht e=>cU ((kw k').2 ⟨t,ht,e⟩)) kv (Uw tl fp)
     have am1:∀k'∈lk,k'∉dR o r:=fun u hu e=>ov _ e (Ob u hu).2
     have amY:∀k'∈tl.map (·.1),k'∈lk:=by
      intro k' cU
      rw[<-M7] at cU
      obtain⟨u,hu,rfl⟩:=mf.1 cU
      exact am0 u hu
     have hnk:∀k',Names σ k'->D.BE (o.dst.getD 1000000) kv k'=kv k':=fun k' cU=>(j7 k' (fun e=>ov _ e cU)).1
     have aez:∀s∈D,∀b∈s.2.2.2,b∈D.bl:=fun s hs b hb=>fi.qe.2 ⟨s,hs,hb⟩
     have aaD:∀s∈tl,∀b∈s.2.2,b∈tl.flatMap (·.2.2):=fun s hs b hb=>oQ.2 ⟨s,hs,hb⟩
     refine hn Fn (D.BE (o.dst.getD 1000000) kv) (D.Af (o.dst.getD 1000000) (Uw tl fp)) _ w' ?_
     refine cM.apply h o r (Pd ZL) hd ?_ (fun k' cU=>(j7 k' cU).1) ?_ ov Bf ?_ ?_ ?_ ?_ ?_ ?_ ?_ xx
     ·intro sv EI
      rw[<-GR] at EI
      simp only[gA] at EI
      subst EI
      obtain⟨g1,g2⟩:=d3 (D.BE (o.dst.getD 1000000) kv) (D.Af (o.dst.getD 1000000) (Uw tl fp)) (bW (AM.apply o r σ)) (fun s hs=>fi.x_ Og (by rw[<-hD];exact sD _ hs))
      exact akX g1 g2
     ·intro k' h1 h2
      rw[(j7 k' h1).2]
      exact aac (by rw[<-M7,<-kX];exact h2)
     ·intro k' e h1 h2 h3 he b hb
      have hl:(σ.bO k').isSome=true:=by rw[he];rfl
      refine iX b (FP hl hb).2.2 (fun bj=> ?_)
      obtain⟨u,hu,bj⟩:=GW b bj
      exact yh (fun e'=>h3 (by rw[z_];exact rv _ (by rw[<-e'];exact hu))) (Ob u hu).1 hl bj hb
     ·rintro k' e (⟨j,rfl,hj⟩|hu)
      ·have:∃s∈D,s.1=j/\s.2.1=e:=by
        rw[<-GR] at hj
        rw[<-hD]
        simp only[fi.es,mf,jC,pq] at hj
        rcases hj with⟨s,h1,h2,h3⟩|⟨s,h1,h2,h3⟩
        ·exact⟨s,sD _ h1,h2,h3⟩
        ·exact⟨s,rv _ h1,h2,h3⟩
       obtain⟨s,hs,rfl,rfl⟩:=this
       rw[fi.x_ Og hs,fi.vB Og hs]
       refine⟨hD1 s hs _ _ _,fi.yQ aer hs,fun b hb=> ?_⟩
       obtain⟨c1,c2,c3,_⟩:=hC b (hCD b (aez s hs b hb))
       exact⟨c1,c2,c3⟩
      ·have hu:(k',e)∈us:=by rw[<-GR] at hu;exact hu
       rw[<-htl] at hu
       obtain⟨s,hs,hse⟩:=mf.1 hu
       simp only[pq] at hse
       obtain⟨rfl,rfl⟩:=hse
       have hsk:s.1∈lk:=amY _ (mf.2 ⟨s,hs,rfl⟩)
       have Uq:=am1 _ hsk
       rw[(j7 _ Uq).1,(j7 _ Uq).2,Is VO hs]
       refine⟨hT1 s hs _ _ _ hnk (fun s' kl=>fi.x_ Og (by rw[<-hD];exact rv _ kl)),Vf htn hs,fun b hb=> ?_⟩
       obtain⟨c1,c2,c3,_⟩:=hC b (hCt b (sD _ (aaD s hs b hb)))
       exact⟨c1,c2,c3⟩
     ·intro k' e b _ _ h3 he hb
      rw[z_] at h3
      exact P3 k' b (fun e=>h3 (sD _ e)) (fun e=>h3 (rv _ e)) (by rw[he];rfl) hb
     ·
      have hA:∀s∈D,∀k' b,k'≠(o.dst.getD 1000000,s.1)->(k'∈dR o r\/k'∈jQ r\/(k'∉r.lG/\(σ.bO k').isSome))->b∈s.2.2.2->b∉D.Af (o.dst.getD 1000000) (Uw tl fp) k':=by
       intro s hs k' b eZ cU hb bj
       have hbD:=aez s hs b hb
       by_cases Ss:k'∈dR o r
       ·obtain⟨s',kl,rfl⟩:=(kw k').1 Ss
        rw[fi.vB Og kl] at bj
        exact fi.sh aer hs kl (fun e=>eZ (by rw[e])) hb bj
       ·rw[(j7 k' Ss).2] at bj
        by_cases hku:k'∈tl.map (·.1)
        ·obtain⟨s',kl,rfl⟩:=mf.1 hku
         rw[Is VO kl] at bj
         exact hDt b hbD (aaD s' kl b bj)
        ·rw[aac hku] at bj
         have hk3:k'∉r.lG/\(σ.bO k').isSome:=by
          rcases cU with cU|cU|cU
          ·exact absurd cU Ss
          ·exact absurd (by rw[<-M7,<-kX];exact cU) hku
          ·exact cU
         rw[z_] at hk3
         exact(hC b (hCD b hbD)).2.2.2 k' hk3.2 (fun e=>hk3.1 (rv _ e)) bj
      intro k1 k2 b eZ h1 h2 hb
      by_cases h1a:k1∈dR o r
      ·obtain⟨s,hs,rfl⟩:=(kw k1).1 h1a
       rw[fi.vB Og hs] at hb
       exact hA s hs k2 b (Ne.symm eZ) h2 hb
      ·have h1u:k1∈tl.map (·.1):=by rw[<-M7,<-kX];exact h1.resolve_left h1a
       obtain⟨s1,hs1,rfl⟩:=mf.1 h1u
       by_cases h2a:k2∈dR o r
       ·obtain⟨s,hs,rfl⟩:=(kw k2).1 h2a
        intro bj
        rw[fi.vB Og hs] at bj
        exact hA s hs s1.1 b eZ (.inr (.inl (by rw[kX,M7];exact h1u))) bj hb
       ·rw[(j7 _ h1a).2,Is VO hs1] at hb
        rw[(j7 _ h2a).2]
        by_cases h2u:k2∈tl.map (·.1)
        ·obtain⟨s2,hs2,rfl⟩:=mf.1 h2u
         rw[Is VO hs2]
         exact Ro htn hs1 hs2 (fun e=>eZ (by rw[e])) hb
        ·rw[aac h2u]
         have h2l:k2∉r.lG/\(σ.bO k2).isSome:=by
          rcases h2 with h2|h2|h2
          ·exact absurd h2 h2a
          ·exact absurd (by rw[<-M7,<-kX];exact h2) h2u
          ·exact h2
         rw[z_] at h2l
         exact(hC b (hCt b (sD _ (aaD s1 hs1 b hb)))).2.2.2 k2 h2l.2 (fun e=>h2l.1 (rv _ e))
     ·intro b hb
      rcases P2 b hb with h1|h1
      ·have:=abp b h1;omega
      ·exact h1.2.1
     ·intro b hb
      rcases P2 b hb with h1|h1
      ·rcases V9 b h1 with h2|⟨k',_,h2,h3⟩
       ·exact h.uj b h2
       ·exact .inr (FP h2 h3).2.1
      ·rcases h1.1 with g|g
       ·exact .inr (.inr (xr h.upto.size g))
       ·obtain⟨u,hu,bj⟩:=GW b g
        exact .inr (FP (Ob u hu).1 bj).2.1
     ·refine h.upto.trans (ql.mono (fun b hb=> ?_))
      obtain⟨u,hu,hb⟩:=GW b hb
      exact(FP (Ob u hu).1 hb).2.1
   ·cases hr
  ·cases hr
 ·cases hr
end AM
