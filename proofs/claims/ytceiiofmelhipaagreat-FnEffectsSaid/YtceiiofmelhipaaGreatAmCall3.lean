/- THE ABSTRACT MACHINE: a call by its contract. -/
import Derived.Test.YtceiiofmelhipaaGreatAmCall4
namespace AM
set_option linter.unusedVariables false
open Go
variable{U:Uni}{E:Env U}{pm:Pm}
variable{F F':Nat→Prop}{kv:Key→Value}{fp:Key→List Nat}{σ:AState U}{a:Act}{w w':World}{bad:Key→Bool}
theorem qadc{l:List Nat}:distinctN l=true↔l.Nodup:=by
 induction l with
 |nil=>simp[distinctN]
 |cons k l ih=>
  simp only[distinctN,zaf,zbd,zbe,ih]
  rw[←zbj,zbb]
  simp
theorem Dat.find_mem{d:Dat U}{dst:Nat}{k:Key}{t:Nat×Ent U×Value×List Nat}(h:d.find? (fun t=>keq (dst,t.1) k)=some t):t∈d∧k=(dst,t.1):=
 ⟨List.mem_of_find?_eq_some h,(qagi.1 (by simpa using List.find?_some h)).symm⟩
theorem Dat.find_of{d:Dat U}{dst:Nat}(hn:(d.map (·.1)).Nodup){t:Nat×Ent U×Value×List Nat}(ht:t∈d):d.find? (fun t'=>keq (dst,t'.1) (dst,t.1))=some t:=by
 cases hf:d.find? (fun t'=>keq (dst,t'.1) (dst,t.1)) with
 |none=>
  have:=zeb.1 hf t ht
  simp[qagj] at this
 |some t'=>
  obtain⟨h1,h2⟩:=Dat.find_mem hf
  have h3:t'.1=t.1:=by simpa using h2.symm
  rw[zdg,List.pairwise_map] at hn
  by_cases he:t'=t
  ·rw[he]
  ·exfalso
   have hp:=hn
   obtain⟨i,hi,hi'⟩:=zbk h1
   obtain⟨j,hj,hj'⟩:=zbk ht
   rw[zdv] at hp
   rcases Nat.lt_trichotomy i j with h|h|h
   ·exact hp i j hi hj h (by rw[hi',hj',h3])
   ·subst h;exact he (by rw[←hi',←hj'])
   ·exact hp j i hj hi h (by rw[hi',hj',h3])
theorem Dat.kvOf_of{d:Dat U}{dst:Nat}{kv:Key→Value}(hn:(d.map (·.1)).Nodup){t:Nat×Ent U×Value×List Nat}(ht:t∈d):d.kvOf dst kv (dst,t.1)=t.2.2.1:=by
 unfold Dat.kvOf;rw[Dat.find_of hn ht]
theorem Dat.fpOf_of{d:Dat U}{dst:Nat}{fp:Key→List Nat}(hn:(d.map (·.1)).Nodup){t:Nat×Ent U×Value×List Nat}(ht:t∈d):d.fpOf dst fp (dst,t.1)=t.2.2.2:=by
 unfold Dat.fpOf;rw[Dat.find_of hn ht]
theorem Dat.other{d:Dat U}{dst:Nat}{k:Key}(h:∀t∈d,k≠(dst,t.1))(kv:Key→Value)(fp:Key→List Nat):d.kvOf dst kv k=kv k∧d.fpOf dst fp k=fp k:=by
 have:d.find? (fun t=>keq (dst,t.1) k)=none:=zeb.2 fun t ht hk=>h t ht (qagi.1 (by simpa using hk)).symm
 unfold Dat.kvOf Dat.fpOf
 rw[this]
 exact⟨rfl,rfl⟩
theorem Dat.bl_mem{d:Dat U}{b:Nat}:b∈d.bl↔∃t∈d,b∈t.2.2.2:=by simp[Dat.bl]
theorem Dat.bl_nodup:∀{d:Dat U},d.bl.Nodup→∀{t:Nat×Ent U×Value×List Nat},t∈d→t.2.2.2.Nodup
 |[],_,t,ht=>by simp at ht
 |t0::d,h,t,ht=>by
  simp only[Dat.bl,zbm,zav] at h
  rcases zak.1 ht with rfl|ht
  ·exact h.1
  ·exact Dat.bl_nodup (d:=d) h.2.1 ht
theorem Dat.bl_apart:∀{d:Dat U},d.bl.Nodup→∀{t t':Nat×Ent U×Value×List Nat},t∈d→t'∈d→t.1≠t'.1→∀{b:Nat},b∈t.2.2.2→b∉t'.2.2.2
 |[],_,t,t',ht,_,_,_,_=>by simp at ht
 |t0::d,h,t,t',ht,ht',hne,b,hb=>by
  simp only[Dat.bl,zbm,zav] at h
  intro hb'
  rcases zak.1 ht with rfl|_
  ·rcases zak.1 ht' with rfl|ht'
   ·exact hne rfl
   ·exact h.2.2 b hb b (zat.2 ⟨t',ht',hb'⟩) rfl
  ·rename_i ht1
   rcases zak.1 ht' with h0|ht2
   ·subst h0
    exact h.2.2 b hb' b (zat.2 ⟨t,ht1,hb⟩) rfl
   ·exact Dat.bl_apart (d:=d) h.2.1 ht1 ht2 hne hb hb'
theorem qaln{P:Program}{w:World}{a:Act}{o:Oper}{cl:Call}{f:FuncId}(hop:o.op=.call cl)(hcl:cl.callee=.value (.func f))(hf:FnOk P f):
  (execOp a.eval o).run P w=.ok (.enter f (cl.args.toList.map a.eval).toArray) w:=by
 obtain⟨fn,h1,h2,h3⟩:=hf
 have e:execOp a.eval o=callFunc f (#[]++cl.args.map a.eval++ #[]):=by
  unfold execOp
  rw[hop]
  simp only[resolve,hcl]
  rfl
 rw[e]
 have e2:(#[]++cl.args.map a.eval++ #[]:Array Value)=(cl.args.toList.map a.eval).toArray:=by
  apply Array.ext'
  simp
 rw[e2]
 have h4:fn.body≠none:=by cases hb:fn.body<;>simp[hb] at h2⊢
 have h5:fn.name≠ "runtime.NumGoroutine" :=by simpa using h3
 simp[callFunc,go_sem,h1,h4,h5]
theorem qalf{avs:List (AV U)}{us:List Value}{bad:Key→Bool}(hl:avs.length=us.length)(h:∀(i:Nat)(x:AV U)(u:Value),avs[i]? =some x→us[i]? =some u→RV E w F kv fp bad x u):
  RS E w F kv fp bad (match(generalizing:=false) avs with|[v]=> .v v|vs=> .tup vs) (retV us):=by
 match avs,us,hl with
 |[v],[u],_=>exact h 0 v u rfl rfl
 |[],[],_=>exact⟨[],rfl,rfl,h⟩
 |x::y::r,p::q::s,hl=>exact⟨p::q::s,rfl,hl,h⟩
theorem qajr{ms:List Mode}{xs:List (SV U)}:∀k∈ownedKeys ms xs,k∈ownedKeys ms xs:=fun _ h=>h
def fpU(tl:List (Key×Ent U×List Nat))(fp:Key→List Nat)(k:Key):List Nat:=match tl.find? (fun t=>keq t.1 k) with|some t=>t.2.2|none=>fp k
theorem qael{tl:List (Key×Ent U×List Nat)}(hn:(tl.map (·.1)).Nodup){t:Key×Ent U×List Nat}(ht:t∈tl):tl.find? (fun s=>keq s.1 t.1)=some t:=by
 induction tl with
 |nil=>cases ht
 |cons s tl ih=>
  rw[zbt,zbe] at hn
  rcases zak.1 ht with rfl|ht
  ·simp[qagj]
  ·have hne:keq s.1 t.1=false:=qagh.2 fun e=>hn.1 (by rw[e];exact zaz.2 ⟨t,ht,rfl⟩)
   rw[List.find?_cons,hne]
   exact ih hn.2 ht
theorem fpU_of{tl:List (Key×Ent U×List Nat)}{fp:Key→List Nat}(hn:(tl.map (·.1)).Nodup){t:Key×Ent U×List Nat}(ht:t∈tl):fpU tl fp t.1=t.2.2:=by
 unfold fpU;rw[qael hn ht]
theorem qaew{tl:List (Key×Ent U×List Nat)}{fp:Key→List Nat}{k:Key}(h:k∉tl.map (·.1)):fpU tl fp k=fp k:=by
 unfold fpU
 have:tl.find? (fun t=>keq t.1 k)=none:=zeb.2 fun t ht hk=>h (zaz.2 ⟨t,ht,qagi.1 (by simpa using hk)⟩)
 rw[this]
theorem qaeo{α:Type}{f:α→List Nat}:∀{l:List α},(l.flatMap f).Nodup→∀{t:α},t∈l→(f t).Nodup
 |[],_,t,ht=>by simp at ht
 |t0::d,h,t,ht=>by
  simp only[zbm,zav] at h
  rcases zak.1 ht with rfl|ht
  ·exact h.1
  ·exact qaeo h.2.1 ht
theorem qaem{α:Type}{f:α→List Nat}:∀{l:List α},(l.flatMap f).Nodup→∀{t t':α},t∈l→t'∈l→t≠t'→∀{b:Nat},b∈f t→b∉f t'
 |[],_,t,t',ht,_,_,_,_=>by simp at ht
 |t0::d,h,t,t',ht,ht',hne,b,hb=>by
  simp only[zbm,zav] at h
  intro hb'
  rcases zak.1 ht with e1|h1
  ·rcases zak.1 ht' with e2|h2
   ·exact hne (e1.trans e2.symm)
   ·subst e1;exact h.2.2 b hb b (zat.2 ⟨t',h2,hb'⟩) rfl
  ·rcases zak.1 ht' with e2|h2
   ·subst e2;exact h.2.2 b hb' b (zat.2 ⟨t,h1,hb⟩) rfl
   ·exact qaem h.2.1 h1 h2 hne hb hb'
theorem qace(hC:∀g k,E.con g=some k→FnOk E.P g∧SoundCon E g k)(h:Sim E pm F kv fp σ a w){o:Oper}(hd:∀d,o.dst=some d→d<σ.n){cl:Call}{f:FuncId}(hop:o.op=.call cl)(hcl:cl.callee=.value (.func f)){k:Con U}(hf:FnOk E.P f)(hk:SoundCon E f k)
  {xs:List (SV U)} (hxl:xs.length=cl.args.toList.length) (hnm:∀x∈xs,∀k∈x.keys,Names σ k) (hxs:∀(i:Nat)(x:SV U)(q:Operand),xs[i]? =some x→cl.args.toList[i]? =some q→RS E w F kv fp (badK σ) x (a.eval q))
  {rs:List Key} {types:List TypeId} {r:Rslt U} (hr:callBy E (restrict σ.ent rs) σ.dirty (o.dst.getD 1000000) k types xs=some r) (hp:∀p∈r.pre,p) (hfr:∀k∈adds o r,¬Names σ k)
  {next:Act→World→Prop} {Q:Exit→Act→World→Prop} (hn:∀F kv fp a' w',Sim E pm F kv fp (AM.apply o r σ) a' w'→next a' w'):o.wp E.P a w next Q:=by
 unfold callBy at hr
 split at hr
 ·rename_i ps ds hargs
  split at hr
  ·rename_i x hof
   split at hr
   ·rename_i us eb lk avs es hmu hput
    simp only at hr
    generalize hkl:(bif (k.res x).val.all (DV.safe (k.res x).fresh)&& !(hasBox k.md) then[] else ownedKeys k.md xs)=kills at hr
    cases hc:(distinctN ((es++eb).map (·.1))&& !(lk.any fun u=>(ownedKeys k.md xs).any (keq u))&&restOk (restrict σ.ent rs) k.rst k.md (types.map E.shapeA) xs)<;>simp only[hc,cond_false,cond_true] at hr
    ·cases hr
    ·have hr':=zdx hr
     have hp:∀p∈ps++k.pre x,p:=by rw[←hr'] at hp;exact hp
     simp only[zaf,zbd] at hc
     obtain⟨⟨hc1,hc2⟩,hc3⟩:=hc
     have hlaw:=k.law ds x hof
     obtain⟨ls,hra,hlkn,hlk,hlsn,hlsfp,husn,husk,hback⟩:=qabl hC (K:=(ownedKeys k.md xs).filter fun k=>(σ.ent k).isSome) (vs:=cl.args.toList.map a.eval) h hargs (fun p hp'=>hp p (by simp[hp'])) (by simp[hxl]) (fun i y u hy hu=>by
      rw[zal] at hu
      cases hq:cl.args.toList[i]? with
      |none=>rw[hq] at hu;cases hu
      |some q=>rw[hq] at hu;cases hu;exact hxs i y q hy hq) hnm (fun _ h1 h2=>zcg.2 ⟨h1,h2⟩) hmu
     have hrl:RestLen w k.rst k.md ds (cl.args.toList.map a.eval):=qalc h hargs (by simp[hxl]) (fun i y u hy hu=>by
      rw[zal] at hu
      cases hq:cl.args.toList[i]? with
      |none=>rw[hq] at hu;cases hu
      |some q=>rw[hq] at hu;cases hu;exact hxs i y q hy hq) hc3
     rw[←hlaw] at hra hrl
     have hunK:∀k'∈lk,k'∉ownedKeys k.md xs:=by
      intro u hu hin
      have:(lk.any fun u=>(ownedKeys k.md xs).any (keq u))=true:=zbb.2 ⟨u,hu,qaaw.2 hin⟩
      rw[this] at hc2;cases hc2
     have hlv:∀{k':Key}{b:Nat},(σ.ent k').isSome=true→b∈fp k'→¬F b∧(pm.W b∨pm.w0.heap.size≤b)∧b<w.heap.size:=by
      intro k' b hk' hb
      obtain⟨e,he⟩:=zag.1 hk'
      exact h.mine k' e b he hb
     have hap:∀{k' k'':Key}{b:Nat},k'≠k''→(σ.ent k').isSome=true→(σ.ent k'').isSome=true→b∈fp k'→b∉fp k'':=by
      intro k' k'' b hne h1 h2 hb
      obtain⟨e,he⟩:=zag.1 h1
      obtain⟨e',he'⟩:=zag.1 h2
      exact h.apart k' k'' e e' b hne he he' hb
     generalize hFcd:FK F fp ((ownedKeys k.md xs).filter fun k=>(σ.ent k).isSome)=Fc at hra
     have hFc1:∀b,F b→Fc b:=fun b hb=>by rw[←hFcd];exact .inl hb
     have hFc2:∀b,Fc b→F b∨∃k'∈ownedKeys k.md xs,(σ.ent k').isSome=true∧b∈fp k':=by
      intro b hb
      rw[←hFcd] at hb
      rcases hb with hb|⟨k',hk',hb⟩
      ·exact .inl hb
      ·rw[zcg] at hk'
       exact .inr ⟨k',hk'.1,hk'.2,hb⟩
     have hFcl:∀b,Fc b→b<w.heap.size:=by
      intro b hb
      rcases hFc2 b hb with hb|⟨k',_,h2,hb⟩
      ·exact h.Flt b hb
      ·exact(hlv h2 hb).2.2
     have hFcu:∀k'∈lk,∀b∈fp k',¬Fc b:=by
      intro u hu b hb hF'
      rcases hFc2 b hF' with h1|⟨k',h1,h2,h3⟩
      ·exact(hlv (hlk u hu).1 hb).1 h1
      ·exact hap (fun e=>hunK u hu (by rw[←e];exact h1)) h2 (hlk u hu).1 h3 hb
     have hlsd:∀b∈ls.flatten,b<w.heap.size∧¬Fc b:=by
      intro b hb
      obtain⟨u,hu,hb⟩:=hlsfp b hb
      exact⟨(hlv (hlk u hu).1 hb).2.2,hFcu u hu b hb⟩
     show o.upon E.P a next Q ((execOp a.eval o).run E.P w)
     rw[qaln hop hcl hf,Oper.upon_enter]
     refine(hk x (fun p hp'=>hp p (by simp[hp'])) w Fc _ ls hFcl (h.lay.keep fun b hb=>⟨hFc1 b hb,rfl⟩) hra hrl hlsn hlsd).mono ?_
     rintro e w' ⟨rus,rls,mls,rfl,hup,hres,hmut,hnd,hrl,hml⟩
     show next (a.put o.dst (retV rus)) w'
     obtain⟨Fn,P1,P2,P3,hres',hmut'⟩:∃Fn:Nat→Prop,(∀b,F b→Fn b)∧(∀b,Fn b→Fc b∨(w.heap.size≤b∧b<w'.heap.size∧b∉rls.flatten++mls.flatten))∧
       (∀k' b,k'∉kills→(σ.ent k').isSome=true→b∈fp k'→¬Fn b)∧RRess E w' Fn (k.res x).fresh (k.res x).val rus rls∧RMuts E w' Fn w k.md (cl.args.toList.map a.eval) (k.res x).muts mls:=by
      cases hsafe:((k.res x).val.all (DV.safe (k.res x).fresh)&& !(hasBox k.md))<;>simp only[hsafe,cond_true,cond_false] at hkl
      ·refine⟨_,fun b hb=> .inl (hFc1 b hb),fun b hb=>hb,fun k' b hk' hl hb hFb=> ?_,hres,hmut⟩
       rcases hFb with hFb|hFb
       ·rcases hFc2 b hFb with h1|⟨k'',h1,h2,h3⟩
        ·exact(hlv hl hb).1 h1
        ·exact hap (fun e=>hk' (by rw[←hkl,←e];exact h1)) h2 hl h3 hb
       ·have:=(hlv hl hb).2.2
        omega
      ·simp only[zaf,zbd] at hsafe
       exact⟨F,fun b hb=>hb,fun b hb=> .inl (hFc1 b hb),fun k' b _ hl hb=>(hlv hl hb).1,hres.any hsafe.1,hmut.any hsafe.2⟩
     have hkeep:∀b,b<w.heap.size→b∉ls.flatten→w'.heap[b]? =w.heap[b]? :=fun b h1 h2=>hup.block b h1 h2
     have hsz:w.heap.size≤w'.heap.size:=hup.size
     have hnd0:=hnd
     rw[zav] at hnd
     have hFF:∀b,F b→Fn b∧w'.heap[b]? =w.heap[b]? :=fun b hb=>⟨P1 b hb,hkeep b (h.Flt b hb) (fun hb'=>(hlsd b hb').2 (hFc1 b hb))⟩
     obtain⟨tl,t,htl,rfl,hT1,hT2,hT3,hT4⟩:=hback w' Fn mls hmut' hFF hkeep hnd.2.1 (fun b hb=>(hml b hb).imp id fun g=>g.1)
     obtain⟨d,rfl,d1,d2,d3⟩:=qakp hput hres'
     have hmlt:∀b∈mls.flatten,b<w'.heap.size:=fun b hb=>by
      rcases hml b hb with g|g
      ·have:=(hlsd b g).1;omega
      ·exact g.2
     have hC:∀b,(b∈rls.flatten++mls.flatten∨∃k'∈lk,b∈fp k')→¬Fn b∧(pm.W b∨pm.w0.heap.size≤b)∧b<w'.heap.size∧∀k',(σ.ent k').isSome=true→k'∉lk→b∉fp k':=by
      intro b hb
      have hcase:(w.heap.size≤b∧b<w'.heap.size∧b∈rls.flatten++mls.flatten)∨∃k'∈lk,b∈fp k':=by
       rcases hb with hb|hb
       ·have h0:(b∈ls.flatten∨w.heap.size≤b)∧b<w'.heap.size:=by
         rcases zao.1 hb with g|g
         ·exact hrl b g
         ·exact⟨(hml b g).imp id fun g=>g.1,hmlt b g⟩
        rcases h0.1 with g|g
        ·exact .inr (hlsfp b g)
        ·exact .inl ⟨g,h0.2,hb⟩
       ·exact .inr hb
      rcases hcase with⟨g1,g2,g3⟩|⟨k',hk',hb'⟩
      ·refine⟨fun hF'=> ?_,.inr (zde h.upto.size g1),g2,fun k' hl _ hb'=> ?_⟩
       ·rcases P2 b hF' with h1|h1
        ·have:=hFcl b h1;omega
        ·exact h1.2.2 g3
       ·have:=(hlv hl hb').2.2;omega
      ·have h3:=hlv (hlk k' hk').1 hb'
       refine⟨fun hF'=> ?_,h3.2.1,by omega,fun k'' hl hn hb''=>hap (fun e=>hn (by rw[←e];exact hk')) (hlk k' hk').1 hl hb' hb''⟩
       rcases P2 b hF' with h1|h1
       ·exact hFcu k' hk' b hb' h1
       ·omega
     have hCt:∀b∈tl.flatMap (·.2.2)++t.bl,b∈rls.flatten++mls.flatten∨∃k'∈lk,b∈fp k':=fun b hb=>(hT4 b hb).imp (fun g=>zas _ g) (fun g=>g.2)
     have hCd:∀b∈d.bl,b∈rls.flatten++mls.flatten∨∃k'∈lk,b∈fp k':=fun b hb=> .inl (zar _ (by rw[←d2];exact hb))
     have hcross:∀b∈d.bl,b∉tl.flatMap (·.2.2)++t.bl:=by
      intro b hb hb'
      rw[d2] at hb
      rcases hT4 b hb' with g|⟨g1,k',hk',g2⟩
      ·exact hnd.2.2 b hb b g rfl
      ·rcases(hrl b hb).1 with g3|g3
       ·exact g1 g3
       ·have:=(hlv (hlk k' hk').1 g2).2.2;omega
     generalize hD:(d++t:Dat U)=D
     have hDbl:D.bl=d.bl++t.bl:=by rw[←hD,Dat.bl_append]
     have hdnd:D.bl.Nodup:=by
      rw[hDbl,zav]
      rw[zav] at hT3
      exact⟨by rw[d2];exact hnd.1,hT3.2.1,fun b hb c hc e=>hcross b hb (zas _ (by rw[e];exact hc))⟩
     have htn:(tl.flatMap (·.2.2)).Nodup:=(zav.1 hT3).1
     have hDt:∀b∈D.bl,b∉tl.flatMap (·.2.2):=by
      intro b hb hb'
      rw[hDbl,zao] at hb
      rcases hb with g|g
      ·exact hcross b g (zar _ hb')
      ·exact(zav.1 hT3).2.2 b hb' b g rfl
     have hCD:∀b∈D.bl,b∈rls.flatten++mls.flatten∨∃k'∈lk,b∈fp k':=by
      intro b hb
      rw[hDbl,zao] at hb
      rcases hb with g|g
      ·exact hCd b g
      ·exact hCt b (zas _ g)
     have hdn:(D.map (·.1)).Nodup:=by
      have:=qadc.1 hc1
      rw[←hD]
      simpa[Dat.es,Function.comp_def] using this
     have hD1:∀s∈D,∀kv fp bad,REnt E w' Fn kv fp bad s.2.1 s.2.2.1 s.2.2.2:=by
      intro s hs
      rw[←hD,zao] at hs
      rcases hs with hs|hs
      ·exact d1 s hs
      ·exact hT2 s hs
     have hadds:∀k',k'∈adds o r↔∃s∈D,k'=(o.dst.getD 1000000,s.1):=by
      intro k'
      rw[←hr',←hD]
      simp only[adds,Dat.es,zaz,zao]
      constructor
      ·rintro⟨p,(⟨s,hs,rfl⟩|⟨s,hs,rfl⟩),rfl⟩
       ·exact⟨s,.inl hs,rfl⟩
       ·exact⟨s,.inr hs,rfl⟩
      ·rintro⟨s,(hs|hs),rfl⟩
       ·exact⟨_,.inl ⟨s,hs,rfl⟩,rfl⟩
       ·exact⟨_,.inr ⟨s,hs,rfl⟩,rfl⟩
     have hupds:upds r=us.map (·.1):=by rw[←hr'];rfl
     have hutl:us.map (·.1)=tl.map (·.1):=by rw[←htl];simp[Function.comp_def]
     have htln:(tl.map (·.1)).Nodup:=by rw[←hutl];exact husn
     have hkills:r.kills=kills++lk:=by rw[←hr']
     have hother:∀k',k'∉adds o r→D.kvOf (o.dst.getD 1000000) kv k'=kv k'∧D.fpOf (o.dst.getD 1000000) (fpU tl fp) k'=fpU tl fp k':=by
      intro k' hk'
      exact Dat.other (fun t ht e=>hk' ((hadds k').2 ⟨t,ht,e⟩)) kv (fpU tl fp)
     have hund:∀k'∈lk,k'∉adds o r:=fun u hu e=>hfr _ e (hlk u hu).2
     have hutk:∀k'∈tl.map (·.1),k'∈lk:=by
      intro k' hk'
      rw[←hutl] at hk'
      obtain⟨u,hu,rfl⟩:=zaz.1 hk'
      exact husk u hu
     have hnk:∀k',Names σ k'→D.kvOf (o.dst.getD 1000000) kv k'=kv k':=fun k' hk'=>(hother k' (fun e=>hfr _ e hk')).1
     have hDbm:∀s∈D,∀b∈s.2.2.2,b∈D.bl:=fun s hs b hb=>Dat.bl_mem.2 ⟨s,hs,hb⟩
     have htbm:∀s∈tl,∀b∈s.2.2,b∈tl.flatMap (·.2.2):=fun s hs b hb=>zat.2 ⟨s,hs,hb⟩
     refine hn Fn (D.kvOf (o.dst.getD 1000000) kv) (D.fpOf (o.dst.getD 1000000) (fpU tl fp)) _ w' ?_
     refine Sim.apply h o r (retV rus) hd ?_ (fun k' hk'=>(hother k' hk').1) ?_ hfr hFF ?_ ?_ ?_ ?_ ?_ ?_ ?_ hsz
     ·intro sv hsv
      rw[←hr'] at hsv
      simp only[zae] at hsv
      subst hsv
      obtain⟨g1,g2⟩:=d3 (D.kvOf (o.dst.getD 1000000) kv) (D.fpOf (o.dst.getD 1000000) (fpU tl fp)) (badK (AM.apply o r σ)) (fun s hs=>Dat.kvOf_of hdn (by rw[←hD];exact zar _ hs))
      exact qalf g1 g2
     ·intro k' h1 h2
      rw[(hother k' h1).2]
      exact qaew (by rw[←hutl,←hupds];exact h2)
     ·intro k' e h1 h2 h3 he b hb
      have hl:(σ.ent k').isSome=true:=by rw[he];rfl
      refine hkeep b (hlv hl hb).2.2 (fun hb'=> ?_)
      obtain⟨u,hu,hb'⟩:=hlsfp b hb'
      exact hap (fun e'=>h3 (by rw[hkills];exact zas _ (by rw[←e'];exact hu))) (hlk u hu).1 hl hb' hb
     ·rintro k' e (⟨j,rfl,hj⟩|hu)
      ·have:∃s∈D,s.1=j∧s.2.1=e:=by
        rw[←hr'] at hj
        rw[←hD]
        simp only[Dat.es,zaz,zao,zax] at hj
        rcases hj with⟨s,h1,h2,h3⟩|⟨s,h1,h2,h3⟩
        ·exact⟨s,zar _ h1,h2,h3⟩
        ·exact⟨s,zas _ h1,h2,h3⟩
       obtain⟨s,hs,rfl,rfl⟩:=this
       rw[Dat.kvOf_of hdn hs,Dat.fpOf_of hdn hs]
       refine⟨hD1 s hs _ _ _,Dat.bl_nodup hdnd hs,fun b hb=> ?_⟩
       obtain⟨c1,c2,c3,_⟩:=hC b (hCD b (hDbm s hs b hb))
       exact⟨c1,c2,c3⟩
      ·have hu:(k',e)∈us:=by rw[←hr'] at hu;exact hu
       rw[←htl] at hu
       obtain⟨s,hs,hse⟩:=zaz.1 hu
       simp only[zax] at hse
       obtain⟨rfl,rfl⟩:=hse
       have hsk:s.1∈lk:=hutk _ (zaz.2 ⟨s,hs,rfl⟩)
       have hna:=hund _ hsk
       rw[(hother _ hna).1,(hother _ hna).2,fpU_of htln hs]
       refine⟨hT1 s hs _ _ _ hnk (fun s' hs'=>Dat.kvOf_of hdn (by rw[←hD];exact zas _ hs')),qaeo htn hs,fun b hb=> ?_⟩
       obtain⟨c1,c2,c3,_⟩:=hC b (hCt b (zar _ (htbm s hs b hb)))
       exact⟨c1,c2,c3⟩
     ·intro k' e b _ _ h3 he hb
      rw[hkills] at h3
      exact P3 k' b (fun e=>h3 (zar _ e)) (by rw[he];rfl) hb
     ·
      have hA:∀s∈D,∀k' b,k'≠(o.dst.getD 1000000,s.1)→(k'∈adds o r∨k'∈upds r∨(k'∉r.kills∧(σ.ent k').isSome))→b∈s.2.2.2→b∉D.fpOf (o.dst.getD 1000000) (fpU tl fp) k':=by
       intro s hs k' b hne hk' hb hb'
       have hbD:=hDbm s hs b hb
       by_cases hka:k'∈adds o r
       ·obtain⟨s',hs',rfl⟩:=(hadds k').1 hka
        rw[Dat.fpOf_of hdn hs'] at hb'
        exact Dat.bl_apart hdnd hs hs' (fun e=>hne (by rw[e])) hb hb'
       ·rw[(hother k' hka).2] at hb'
        by_cases hku:k'∈tl.map (·.1)
        ·obtain⟨s',hs',rfl⟩:=zaz.1 hku
         rw[fpU_of htln hs'] at hb'
         exact hDt b hbD (htbm s' hs' b hb')
        ·rw[qaew hku] at hb'
         have hk3:k'∉r.kills∧(σ.ent k').isSome:=by
          rcases hk' with hk'|hk'|hk'
          ·exact absurd hk' hka
          ·exact absurd (by rw[←hutl,←hupds];exact hk') hku
          ·exact hk'
         rw[hkills] at hk3
         exact(hC b (hCD b hbD)).2.2.2 k' hk3.2 (fun e=>hk3.1 (zas _ e)) hb'
      intro k1 k2 b hne h1 h2 hb
      by_cases h1a:k1∈adds o r
      ·obtain⟨s,hs,rfl⟩:=(hadds k1).1 h1a
       rw[Dat.fpOf_of hdn hs] at hb
       exact hA s hs k2 b (Ne.symm hne) h2 hb
      ·have h1u:k1∈tl.map (·.1):=by rw[←hutl,←hupds];exact h1.resolve_left h1a
       obtain⟨s1,hs1,rfl⟩:=zaz.1 h1u
       by_cases h2a:k2∈adds o r
       ·obtain⟨s,hs,rfl⟩:=(hadds k2).1 h2a
        intro hb'
        rw[Dat.fpOf_of hdn hs] at hb'
        exact hA s hs s1.1 b hne (.inr (.inl (by rw[hupds,hutl];exact h1u))) hb' hb
       ·rw[(hother _ h1a).2,fpU_of htln hs1] at hb
        rw[(hother _ h2a).2]
        by_cases h2u:k2∈tl.map (·.1)
        ·obtain⟨s2,hs2,rfl⟩:=zaz.1 h2u
         rw[fpU_of htln hs2]
         exact qaem htn hs1 hs2 (fun e=>hne (by rw[e])) hb
        ·rw[qaew h2u]
         have h2l:k2∉r.kills∧(σ.ent k2).isSome:=by
          rcases h2 with h2|h2|h2
          ·exact absurd h2 h2a
          ·exact absurd (by rw[←hutl,←hupds];exact h2) h2u
          ·exact h2
         rw[hkills] at h2l
         exact(hC b (hCt b (zar _ (htbm s1 hs1 b hb)))).2.2.2 k2 h2l.2 (fun e=>h2l.1 (zas _ e))
     ·intro b hb
      rcases P2 b hb with h1|h1
      ·have:=hFcl b h1;omega
      ·exact h1.2.1
     ·intro b hb
      rcases P2 b hb with h1|h1
      ·rcases hFc2 b h1 with h2|⟨k',_,h2,h3⟩
       ·exact h.Fsub b h2
       ·exact .inr (hlv h2 h3).2.1
      ·exact .inr (.inr (zde h.upto.size h1.1))
     ·refine h.upto.trans (hup.mono (fun b hb=> ?_))
      obtain⟨u,hu,hb⟩:=hlsfp b hb
      exact(hlv (hlk u hu).1 hb).2.1
   ·cases hr
  ·cases hr
 ·cases hr
end AM
