/- THE ABSTRACT MACHINE: a call by its contract. -/
import Derived.Test.YtlachfpabecaeaaQAmCall4
namespace AM
set_option linter.unusedVariables false
open Go
variable{U:dw}{E:Env U}{pm:Pm}
variable{F F':Nat->Prop}{kv:Key->Value}{fp:Key->List Nat}{σ:aa U}{a:Act}{w w':World}{bad:Key->Bool}
theorem D8{l:List Nat}:eP l=true↔l.Nodup:=by
 induction l with
 |nil=>simp[eP]
 |cons k l ih=>
  simp only[eP,c9,l6,gx,ih]
  rw[<-n7,jI]
  simp
theorem bi.v9{d:bi U}{dst:Nat}{k:Key}{t:Nat×bZ U×Value×List Nat}(h:d.find? (fun t=>cj (dst,t.1) k)=some t):t∈d/\k=(dst,t.1):=
 ⟨List.mem_of_find?_eq_some h,(fF.1 (by simpa using List.find?_some h)).symm⟩
theorem bi.sZ{d:bi U}{dst:Nat}(hn:(d.map (·.1)).Nodup){t:Nat×bZ U×Value×List Nat}(ht:t∈d):d.find? (fun t'=>cj (dst,t'.1) (dst,t.1))=some t:=by
 cases hf:d.find? (fun t'=>cj (dst,t'.1) (dst,t.1)) with
 |none=>
  have:=Hm.1 hf t ht
  simp[k9] at this
 |some t'=>
  obtain⟨h1,h2⟩:=bi.v9 hf
  have h3:t'.1=t.1:=by simpa using h2.symm
  rw[CB,List.pairwise_map] at hn
  by_cases he:t'=t
  ·rw[he]
  ·exfalso
   have hp:=hn
   obtain⟨i,hi,gu⟩:=nJ h1
   obtain⟨j,hj,ir⟩:=nJ ht
   rw[Cy] at hp
   rcases Nat.lt_trichotomy i j with h|h|h
   ·exact hp i j hi hj h (by rw[gu,ir,h3])
   ·subst h;exact he (by rw[<-gu,<-ir])
   ·exact hp j i hj hi h (by rw[gu,ir,h3])
theorem bi.kl{d:bi U}{dst:Nat}{kv:Key->Value}(hn:(d.map (·.1)).Nodup){t:Nat×bZ U×Value×List Nat}(ht:t∈d):d.l9 dst kv (dst,t.1)=t.2.2.1:=by
 unfold bi.l9;rw[bi.sZ hn ht]
theorem bi.jg{d:bi U}{dst:Nat}{fp:Key->List Nat}(hn:(d.map (·.1)).Nodup){t:Nat×bZ U×Value×List Nat}(ht:t∈d):d.lq dst fp (dst,t.1)=t.2.2.2:=by
 unfold bi.lq;rw[bi.sZ hn ht]
theorem bi.other{d:bi U}{dst:Nat}{k:Key}(h:∀t∈d,k≠(dst,t.1))(kv:Key->Value)(fp:Key->List Nat):d.l9 dst kv k=kv k/\d.lq dst fp k=fp k:=by
 have:d.find? (fun t=>cj (dst,t.1) k)=none:=Hm.2 fun t ht hk=>h t ht (fF.1 (by simpa using hk)).symm
 unfold bi.l9 bi.lq
 rw[this]
 exact⟨rfl,rfl⟩
theorem bi.fO{d:bi U}{b:Nat}:b∈d.bl↔∃t∈d,b∈t.2.2.2:=by simp[bi.bl]
theorem bi.kJ:∀{d:bi U},d.bl.Nodup->∀{t:Nat×bZ U×Value×List Nat},t∈d->t.2.2.2.Nodup
 |[],_,t,ht=>by simp at ht
 |t0::d,h,t,ht=>by
  simp only[bi.bl,mf,gz] at h
  rcases dJ.1 ht with rfl|ht
  ·exact h.1
  ·exact bi.kJ (d:=d) h.2.1 ht
theorem bi.gL:∀{d:bi U},d.bl.Nodup->∀{t t':Nat×bZ U×Value×List Nat},t∈d->t'∈d->t.1≠t'.1->∀{b:Nat},b∈t.2.2.2->b∉t'.2.2.2
 |[],_,t,t',ht,_,_,_,_=>by simp at ht
 |t0::d,h,t,t',ht,wG,aX,b,hb=>by
  simp only[bi.bl,mf,gz] at h
  intro ap
  rcases dJ.1 ht with rfl|_
  ·rcases dJ.1 wG with rfl|wG
   ·exact aX rfl
   ·exact h.2.2 b hb b (fC.2 ⟨t',wG,ap⟩) rfl
  ·rename_i Nk
   rcases dJ.1 wG with h0|Od
   ·subst h0
    exact h.2.2 b ap b (fC.2 ⟨t,Nk,hb⟩) rfl
   ·exact bi.gL (d:=d) h.2.1 Nk Od aX hb ap
theorem Ia{P:Program}{w:World}{a:Act}{o:Oper}{cl:Call}{f:FuncId}(gy:o.op=.call cl)(ck:cl.callee=.value (.func f))(hf:kM P f):
  (execOp a.eval o).run P w=.ok (.enter f (cl.args.toList.map a.eval).toArray) w:=by
 obtain⟨fn,h1,h2,h3⟩:=hf
 have e:execOp a.eval o=callFunc f (#[]++cl.args.map a.eval++ #[]):=by
  unfold execOp
  rw[gy]
  simp only[resolve,ck]
  rfl
 rw[e]
 have e2:(#[]++cl.args.map a.eval++ #[]:Array Value)=(cl.args.toList.map a.eval).toArray:=by
  apply Array.ext'
  simp
 rw[e2]
 have h4:fn.body≠none:=by cases hb:fn.body<;>simp[hb] at h2⊢
 have h5:fn.name≠ "runtime.NumGoroutine" :=by simpa using h3
 simp[callFunc,go_sem,h1,h4,h5]
theorem Ic{FO:List (AV U)}{us:List Value}{bad:Key->Bool}(hl:FO.length=us.length)(h:∀(i:Nat)(x:AV U)(u:Value),FO[i]? =some x->us[i]? =some u->RV E w F kv fp bad x u):
  RS E w F kv fp bad (match(generalizing:=false) FO with|[v]=> .v v|vs=> .jx vs) (oN us):=by
 match FO,us,hl with
 |[v],[u],_=>exact h 0 v u rfl rfl
 |[],[],_=>exact⟨[],rfl,rfl,h⟩
 |x::y::r,p::q::s,hl=>exact⟨p::q::s,rfl,hl,h⟩
theorem NX{ms:List Mode}{xs:List (SV U)}:∀k∈bg ms xs,k∈bg ms xs:=fun _ h=>h
def wN(tl:List (Key×bZ U×List Nat))(fp:Key->List Nat)(k:Key):List Nat:=match tl.find? (fun t=>cj t.1 k) with|some t=>t.2.2|none=>fp k
theorem Jn{tl:List (Key×bZ U×List Nat)}(hn:(tl.map (·.1)).Nodup){t:Key×bZ U×List Nat}(ht:t∈tl):tl.find? (fun s=>cj s.1 t.1)=some t:=by
 induction tl with
 |nil=>cases ht
 |cons s tl ih=>
  rw[qd,gx] at hn
  rcases dJ.1 ht with rfl|ht
  ·simp[k9]
  ·have aX:cj s.1 t.1=false:=rR.2 fun e=>hn.1 (by rw[e];exact eV.2 ⟨t,ht,rfl⟩)
   rw[List.find?_cons,aX]
   exact ih hn.2 ht
theorem pw{tl:List (Key×bZ U×List Nat)}{fp:Key->List Nat}(hn:(tl.map (·.1)).Nodup){t:Key×bZ U×List Nat}(ht:t∈tl):wN tl fp t.1=t.2.2:=by
 unfold wN;rw[Jn hn ht]
theorem Ad{tl:List (Key×bZ U×List Nat)}{fp:Key->List Nat}{k:Key}(h:k∉tl.map (·.1)):wN tl fp k=fp k:=by
 unfold wN
 have:tl.find? (fun t=>cj t.1 k)=none:=Hm.2 fun t ht hk=>h (eV.2 ⟨t,ht,fF.1 (by simpa using hk)⟩)
 rw[this]
theorem xp{α:Type}{f:α->List Nat}:∀{l:List α},(l.flatMap f).Nodup->∀{t:α},t∈l->(f t).Nodup
 |[],_,t,ht=>by simp at ht
 |t0::d,h,t,ht=>by
  simp only[mf,gz] at h
  rcases dJ.1 ht with rfl|ht
  ·exact h.1
  ·exact xp h.2.1 ht
theorem uY{α:Type}{f:α->List Nat}:∀{l:List α},(l.flatMap f).Nodup->∀{t t':α},t∈l->t'∈l->t≠t'->∀{b:Nat},b∈f t->b∉f t'
 |[],_,t,t',ht,_,_,_,_=>by simp at ht
 |t0::d,h,t,t',ht,wG,aX,b,hb=>by
  simp only[mf,gz] at h
  intro ap
  rcases dJ.1 ht with e1|h1
  ·rcases dJ.1 wG with e2|h2
   ·exact aX (e1.trans e2.symm)
   ·subst e1;exact h.2.2 b hb b (fC.2 ⟨t',h2,ap⟩) rfl
  ·rcases dJ.1 wG with e2|h2
   ·subst e2;exact h.2.2 b ap b (fC.2 ⟨t,h1,hb⟩) rfl
   ·exact uY h.2.1 h1 h2 aX hb ap
theorem JT(hC:∀g k,E.ul g=some k->kM E.P g/\aV E g k)(h:aE E pm F kv fp σ a w){o:Oper}(hd:∀d,o.dst=some d->d<σ.n){cl:Call}{f:FuncId}(gy:o.op=.call cl)(ck:cl.callee=.value (.func f)){k:eg U}(hf:kM E.P f)(hk:aV E f k)
  {xs:List (SV U)} (rD:xs.length=cl.args.toList.length) (gR:∀x∈xs,∀k∈x.keys,Names σ k) (Kh:∀(i:Nat)(x:SV U)(q:Operand),xs[i]? =some x->cl.args.toList[i]? =some q->RS E w F kv fp (ay σ) x (a.eval q))
  {rs:List Key} {types:List TypeId} {r:az U} (hr:ly E (restrict σ.aw rs) σ.ah (o.dst.getD 1000000) k types xs=some r) (hp:∀p∈r.pre,p) (fj:∀k∈aM o r,¬Names σ k)
  {next:Act->World->Prop} {Q:Exit->Act->World->Prop} (hn:∀F kv fp a' w',aE E pm F kv fp (AM.apply o r σ) a' w'->next a' w'):o.wp E.P a w next Q:=by
 unfold ly at hr
 split at hr
 ·rename_i ps ds dE
  split at hr
  ·rename_i x KD
   split at hr
   ·rename_i us eb lk FO es Ow AY
    simp only at hr
    generalize y9:(bif jd (k.fZ x).fresh (k.fZ x).val&& !(ln k.md) then[] else bg k.md xs)=dB at hr
    cases hc:(eP ((es++eb).map (·.1))&& !(lk.any fun u=>(bg k.md xs).any (cj u))&&mL (restrict σ.aw rs) k.qu k.md (k.want (types.map E.k8)) xs)<;>simp only[hc,cond_false,cond_true] at hr
    ·cases hr
    ·have od:=zp hr
     have hp:∀p∈ps++k.pre x,p:=by rw[<-od] at hp;exact hp
     simp only[c9,l6] at hc
     obtain⟨⟨nV,ud⟩,GY⟩:=hc
     have A':=k.law ds x KD
     obtain⟨ls,eF,OB,sR,KJ,og,Kl,Km,lW⟩:=J3 hC (K:=(bg k.md xs).filter fun k=>(σ.aw k).isSome) (vs:=cl.args.toList.map a.eval) h dE (fun p dj=>hp p (by simp[dj])) (by simp[rD]) (fun i y u hy hu=>by
      rw[eW] at hu
      cases hq:cl.args.toList[i]? with
      |none=>rw[hq] at hu;cases hu
      |some q=>rw[hq] at hu;cases hu;exact Kh i y q hy hq) gR (fun _ h1 h2=>qa.2 ⟨h1,h2⟩) Ow
     have r9:ie w k.qu k.md ds (cl.args.toList.map a.eval):=If h dE (by simp[rD]) (fun i y u hy hu=>by
      rw[eW] at hu
      cases hq:cl.args.toList[i]? with
      |none=>rw[hq] at hu;cases hu
      |some q=>rw[hq] at hu;cases hu;exact Kh i y q hy hq) GY
     rw[<-A'] at eF r9
     have Ko:∀k'∈lk,k'∉bg k.md xs:=by
      intro u hu fy
      have:(lk.any fun u=>(bg k.md xs).any (cj u))=true:=jI.2 ⟨u,hu,gX.2 fy⟩
      rw[this] at ud;cases ud
     have nD:∀{k':Key}{b:Nat},(σ.aw k').isSome=true->b∈fp k'->¬F b/\(pm.W b\/pm.w0.heap.size<=b)/\b<w.heap.size:=by
      intro k' b aG hb
      obtain⟨e,he⟩:=eD.1 aG
      exact h.bt k' e b he hb
     have ky:∀{k' Az:Key}{b:Nat},k'≠Az->(σ.aw k').isSome=true->(σ.aw Az).isSome=true->b∈fp k'->b∉fp Az:=by
      intro k' Az b aX h1 h2 hb
      obtain⟨e,he⟩:=eD.1 h1
      obtain⟨e',a_⟩:=eD.1 h2
      exact h.apart k' Az e e' b aX he a_ hb
     generalize Ft:FK F fp ((bg k.md xs).filter fun k=>(σ.aw k).isSome)=Fc at eF
     have ya:∀b,F b->Fc b:=fun b hb=>by rw[<-Ft];exact .inl hb
     have x_:∀b,Fc b->F b\/∃k'∈bg k.md xs,(σ.aw k').isSome=true/\b∈fp k':=by
      intro b hb
      rw[<-Ft] at hb
      rcases hb with hb|⟨k',aG,hb⟩
      ·exact .inl hb
      ·rw[qa] at aG
       exact .inr ⟨k',aG.1,aG.2,hb⟩
     have BC:∀b,Fc b->b<w.heap.size:=by
      intro b hb
      rcases x_ b hb with hb|⟨k',_,h2,hb⟩
      ·exact h.iz b hb
      ·exact(nD h2 hb).2.2
     have Fs:∀k'∈lk,∀b∈fp k',¬Fc b:=by
      intro u hu b hb jU
      rcases x_ b jU with h1|⟨k',h1,h2,h3⟩
      ·exact(nD (sR u hu).1 hb).1 h1
      ·exact ky (fun e=>Ko u hu (by rw[<-e];exact h1)) h2 (sR u hu).1 h3 hb
     have A8:∀b∈ls.flatten,b<w.heap.size/\¬Fc b:=by
      intro b hb
      obtain⟨u,hu,hb⟩:=og b hb
      exact⟨(nD (sR u hu).1 hb).2.2,Fs u hu b hb⟩
     show o.upon E.P a next Q ((execOp a.eval o).run E.P w)
     rw[Ia gy ck hf,Oper.upon_enter]
     refine(hk x (fun p dj=>hp p (by simp[dj])) w Fc _ ls BC (h.lay.bu fun b hb=>⟨ya b hb,rfl⟩) eF r9 KJ A8).mono ?_
     rintro e w' ⟨zE,dz,bL,rfl,fi,tP,A5,fc,r9,y5⟩
     show next (a.put o.dst (oN zE)) w'
     obtain⟨Fn,P1,P2,P3,ET,E1⟩:∃Fn:Nat->Prop,(∀b,F b->Fn b)/\(∀b,Fn b->Fc b\/((w.heap.size<=b\/b∈ls.flatten)/\b<w'.heap.size/\b∉dz.flatten++bL.flatten))/\
       (∀k' b,k'∉dB->k'∉lk->(σ.aw k').isSome=true->b∈fp k'->¬Fn b)/\dH E w' Fn (k.fZ x).fresh (k.fZ x).val zE dz/\bh E w' Fn w k.md (cl.args.toList.map a.eval) (k.fZ x).rX bL:=by
      cases sQ:(jd (k.fZ x).fresh (k.fZ x).val&& !(ln k.md))<;>simp only[sQ,cond_true,cond_false] at y9
      ·refine⟨_,fun b hb=> .inl (ya b hb),fun b hb=>hb,fun k' b aG eH hl hb uh=> ?_,tP,A5⟩
       rcases uh with uh|uh
       ·rcases x_ b uh with h1|⟨Az,h1,h2,h3⟩
        ·exact(nD hl hb).1 h1
        ·exact ky (fun e=>aG (by rw[<-y9,<-e];exact h1)) h2 hl h3 hb
       ·rcases uh.1 with g|g
        ·have:=(nD hl hb).2.2
         omega
        ·obtain⟨u,hu,ap⟩:=og b g
         exact ky (fun e=>eH (by rw[<-e];exact hu)) (sR u hu).1 hl ap hb
      ·simp only[c9,l6] at sQ
       exact⟨F,fun b hb=>hb,fun b hb=> .inl (ya b hb),fun k' b _ _ hl hb=>(nD hl hb).1,tP.any sQ.1,A5.any sQ.2⟩
     have bQ:∀b,b<w.heap.size->b∉ls.flatten->w'.heap[b]? =w.heap[b]? :=fun b h1 h2=>fi.block b h1 h2
     have jf:w.heap.size<=w'.heap.size:=fi.size
     have Ot:=fc
     rw[gz] at fc
     have lZ:∀b,F b->Fn b/\w'.heap[b]? =w.heap[b]? :=fun b hb=>⟨P1 b hb,bQ b (h.iz b hb) (fun ap=>(A8 b ap).2 (ya b hb))⟩
     obtain⟨tl,t,Nj,rfl,O3,O2,G0,NA⟩:=lW w' Fn bL E1 lZ (fun k hk c hc ck=>bQ c (nD (sR k hk).1 hc).2.2 ck) fc.2.1 (fun b hb=>(y5 b hb).imp id fun g k hk cn=>by have:=(nD (sR k hk).1 cn).2.2;omega)
     obtain⟨d,rfl,d1,d2,d3⟩:=Dv AY ET
     have KH:∀b∈bL.flatten,b<w'.heap.size:=fun b hb=>by
      rcases y5 b hb with g|g
      ·have:=(A8 b g).1;omega
      ·exact g.2
     have hC:∀b,(b∈dz.flatten++bL.flatten\/(b∉ls.flatten/\∃k'∈lk,b∈fp k'))->¬Fn b/\(pm.W b\/pm.w0.heap.size<=b)/\b<w'.heap.size/\∀k',(σ.aw k').isSome=true->k'∉lk->b∉fp k':=by
      intro b hb
      have uy:¬((w.heap.size<=b\/b∈ls.flatten)/\b<w'.heap.size/\b∉dz.flatten++bL.flatten):=fun h1=>by
       rcases hb with hb|hb
       ·exact h1.2.2 hb
       ·rcases h1.1 with g|g
        ·obtain⟨k',aG,ap⟩:=hb.2
         have:=(nD (sR k' aG).1 ap).2.2
         omega
        ·exact hb.1 g
      have vW:(w.heap.size<=b/\b<w'.heap.size/\b∈dz.flatten++bL.flatten)\/∃k'∈lk,b∈fp k':=by
       rcases hb with hb|hb
       ·have h0:(b∈ls.flatten\/w.heap.size<=b)/\b<w'.heap.size:=by
         rcases cY.1 hb with g|g
         ·exact r9 b g
         ·exact⟨(y5 b g).imp id fun g=>g.1,KH b g⟩
        rcases h0.1 with g|g
        ·exact .inr (og b g)
        ·exact .inl ⟨g,h0.2,hb⟩
       ·exact .inr hb.2
      rcases vW with⟨g1,g2,g3⟩|⟨k',aG,ap⟩
      ·refine⟨fun jU=> ?_,.inr (tg h.upto.size g1),g2,fun k' hl _ ap=> ?_⟩
       ·rcases P2 b jU with h1|h1
        ·have:=BC b h1;omega
        ·exact uy h1
       ·have:=(nD hl ap).2.2;omega
      ·have h3:=nD (sR k' aG).1 ap
       refine⟨fun jU=> ?_,h3.2.1,by omega,fun Az hl hn nX=>ky (fun e=>hn (by rw[<-e];exact aG)) (sR k' aG).1 hl ap nX⟩
       rcases P2 b jU with h1|h1
       ·exact Fs k' aG b ap h1
       ·exact uy h1
     have Lu:∀b∈tl.flatMap (·.2.2)++t.bl,b∈dz.flatten++bL.flatten\/(b∉ls.flatten/\∃k'∈lk,b∈fp k'):=fun b hb=>(NA b hb).imp (fun g=>fD _ g) (fun g=>g)
     have Pc:∀b∈d.bl,b∈dz.flatten++bL.flatten\/(b∉ls.flatten/\∃k'∈lk,b∈fp k'):=fun b hb=> .inl (fV _ (by rw[<-d2];exact hb))
     have vU:∀b∈d.bl,b∉tl.flatMap (·.2.2)++t.bl:=by
      intro b hb ap
      rw[d2] at hb
      rcases NA b ap with g|⟨g1,k',aG,g2⟩
      ·exact fc.2.2 b hb b g rfl
      ·rcases(r9 b hb).1 with g3|g3
       ·exact g1 g3
       ·have:=(nD (sR k' aG).1 g2).2.2;omega
     generalize hD:(d++t:bi U)=D
     have BD:D.bl=d.bl++t.bl:=by rw[<-hD,bi.jp]
     have Fe:D.bl.Nodup:=by
      rw[BD,gz]
      rw[gz] at G0
      exact⟨by rw[d2];exact fc.1,G0.2.1,fun b hb c hc e=>vU b hb (fD _ (by rw[e];exact hc))⟩
     have B7:(tl.flatMap (·.2.2)).Nodup:=(gz.1 G0).1
     have O':∀b∈D.bl,b∉tl.flatMap (·.2.2):=by
      intro b hb ap
      rw[BD,cY] at hb
      rcases hb with g|g
      ·exact vU b g (fV _ ap)
      ·exact(gz.1 G0).2.2 b ap b g rfl
     have ND:∀b∈D.bl,b∈dz.flatten++bL.flatten\/(b∉ls.flatten/\∃k'∈lk,b∈fp k'):=by
      intro b hb
      rw[BD,cY] at hb
      rcases hb with g|g
      ·exact Pc b g
      ·exact Lu b (fD _ g)
     have sU:(D.map (·.1)).Nodup:=by
      have:=D8.1 nV
      rw[<-hD]
      simpa[bi.es,Function.comp_def] using this
     have Pb:∀s∈D,∀kv fp bad,ig E w' Fn kv fp bad s.2.1 s.2.2.1 s.2.2.2:=by
      intro s hs
      rw[<-hD,cY] at hs
      rcases hs with hs|hs
      ·exact d1 s hs
      ·exact O2 s hs
     have de:∀k',k'∈aM o r↔∃s∈D,k'=(o.dst.getD 1000000,s.1):=by
      intro k'
      rw[<-od,<-hD]
      simp only[aM,bi.es,eV,cY]
      constructor
      ·rintro⟨p,(⟨s,hs,rfl⟩|⟨s,hs,rfl⟩),rfl⟩
       ·exact⟨s,.inl hs,rfl⟩
       ·exact⟨s,.inr hs,rfl⟩
      ·rintro⟨s,(hs|hs),rfl⟩
       ·exact⟨_,.inl ⟨s,hs,rfl⟩,rfl⟩
       ·exact⟨_,.inr ⟨s,hs,rfl⟩,rfl⟩
     have dn:cK r=us.map (·.1):=by rw[<-od];rfl
     have rZ:us.map (·.1)=tl.map (·.1):=by rw[<-Nj];simp[Function.comp_def]
     have xO:(tl.map (·.1)).Nodup:=by rw[<-rZ];exact Kl
     have lj:r.dB=dB++lk:=by rw[<-od]
     have cS:∀k',k'∉aM o r->D.l9 (o.dst.getD 1000000) kv k'=kv k'/\D.lq (o.dst.getD 1000000) (wN tl fp) k'=wN tl fp k':=by
      intro k' aG
      exact bi.other (fun t ht e=>aG ((de k').2 ⟨t,ht,e⟩)) kv (wN tl fp)
     have Kn:∀k'∈lk,k'∉aM o r:=fun u hu e=>fj _ e (sR u hu).2
     have Kk:∀k'∈tl.map (·.1),k'∈lk:=by
      intro k' aG
      rw[<-rZ] at aG
      obtain⟨u,hu,rfl⟩:=eV.1 aG
      exact Km u hu
     have A3:∀k',Names σ k'->D.l9 (o.dst.getD 1000000) kv k'=kv k':=fun k' aG=>(cS k' (fun e=>fj _ e aG)).1
     have Fv:∀s∈D,∀b∈s.2.2.2,b∈D.bl:=fun s hs b hb=>bi.fO.2 ⟨s,hs,hb⟩
     have AJ:∀s∈tl,∀b∈s.2.2,b∈tl.flatMap (·.2.2):=fun s hs b hb=>fC.2 ⟨s,hs,hb⟩
     refine hn Fn (D.l9 (o.dst.getD 1000000) kv) (D.lq (o.dst.getD 1000000) (wN tl fp)) _ w' ?_
     refine aE.apply h o r (oN zE) hd ?_ (fun k' aG=>(cS k' aG).1) ?_ fj lZ ?_ ?_ ?_ ?_ ?_ ?_ ?_ jf
     ·intro sv mX
      rw[<-od] at mX
      simp only[bH] at mX
      subst mX
      obtain⟨g1,g2⟩:=d3 (D.l9 (o.dst.getD 1000000) kv) (D.lq (o.dst.getD 1000000) (wN tl fp)) (ay (AM.apply o r σ)) (fun s hs=>bi.kl sU (by rw[<-hD];exact fV _ hs))
      exact Ic g1 g2
     ·intro k' h1 h2
      rw[(cS k' h1).2]
      exact Ad (by rw[<-rZ,<-dn];exact h2)
     ·intro k' e h1 h2 h3 he b hb
      have hl:(σ.aw k').isSome=true:=by rw[he];rfl
      refine bQ b (nD hl hb).2.2 (fun ap=> ?_)
      obtain⟨u,hu,ap⟩:=og b ap
      exact ky (fun e'=>h3 (by rw[lj];exact fD _ (by rw[<-e'];exact hu))) (sR u hu).1 hl ap hb
     ·rintro k' e (⟨j,rfl,hj⟩|hu)
      ·have:∃s∈D,s.1=j/\s.2.1=e:=by
        rw[<-od] at hj
        rw[<-hD]
        simp only[bi.es,eV,cY,fB] at hj
        rcases hj with⟨s,h1,h2,h3⟩|⟨s,h1,h2,h3⟩
        ·exact⟨s,fV _ h1,h2,h3⟩
        ·exact⟨s,fD _ h1,h2,h3⟩
       obtain⟨s,hs,rfl,rfl⟩:=this
       rw[bi.kl sU hs,bi.jg sU hs]
       refine⟨Pb s hs _ _ _,bi.kJ Fe hs,fun b hb=> ?_⟩
       obtain⟨c1,c2,c3,_⟩:=hC b (ND b (Fv s hs b hb))
       exact⟨c1,c2,c3⟩
      ·have hu:(k',e)∈us:=by rw[<-od] at hu;exact hu
       rw[<-Nj] at hu
       obtain⟨s,hs,Nl⟩:=eV.1 hu
       simp only[fB] at Nl
       obtain⟨rfl,rfl⟩:=Nl
       have Of:s.1∈lk:=Kk _ (eV.2 ⟨s,hs,rfl⟩)
       have wH:=Kn _ Of
       rw[(cS _ wH).1,(cS _ wH).2,pw xO hs]
       refine⟨O3 s hs _ _ _ A3 (fun s' cZ=>bi.kl sU (by rw[<-hD];exact fD _ cZ)),xp B7 hs,fun b hb=> ?_⟩
       obtain⟨c1,c2,c3,_⟩:=hC b (Lu b (fV _ (AJ s hs b hb)))
       exact⟨c1,c2,c3⟩
     ·intro k' e b _ _ h3 he hb
      rw[lj] at h3
      exact P3 k' b (fun e=>h3 (fV _ e)) (fun e=>h3 (fD _ e)) (by rw[he];rfl) hb
     ·
      have hA:∀s∈D,∀k' b,k'≠(o.dst.getD 1000000,s.1)->(k'∈aM o r\/k'∈cK r\/(k'∉r.dB/\(σ.aw k').isSome))->b∈s.2.2.2->b∉D.lq (o.dst.getD 1000000) (wN tl fp) k':=by
       intro s hs k' b aX aG hb ap
       have Ny:=Fv s hs b hb
       by_cases vI:k'∈aM o r
       ·obtain⟨s',cZ,rfl⟩:=(de k').1 vI
        rw[bi.jg sU cZ] at ap
        exact bi.gL Fe hs cZ (fun e=>aX (by rw[e])) hb ap
       ·rw[(cS k' vI).2] at ap
        by_cases KR:k'∈tl.map (·.1)
        ·obtain⟨s',cZ,rfl⟩:=eV.1 KR
         rw[pw xO cZ] at ap
         exact O' b Ny (AJ s' cZ b ap)
        ·rw[Ad KR] at ap
         have KT:k'∉r.dB/\(σ.aw k').isSome:=by
          rcases aG with aG|aG|aG
          ·exact absurd aG vI
          ·exact absurd (by rw[<-rZ,<-dn];exact aG) KR
          ·exact aG
         rw[lj] at KT
         exact(hC b (ND b Ny)).2.2.2 k' KT.2 (fun e=>KT.1 (fD _ e)) ap
      intro k1 k2 b aX h1 h2 hb
      by_cases LB:k1∈aM o r
      ·obtain⟨s,hs,rfl⟩:=(de k1).1 LB
       rw[bi.jg sU hs] at hb
       exact hA s hs k2 b (Ne.symm aX) h2 hb
      ·have BG:k1∈tl.map (·.1):=by rw[<-rZ,<-dn];exact h1.resolve_left LB
       obtain⟨s1,ER,rfl⟩:=eV.1 BG
       by_cases LA:k2∈aM o r
       ·obtain⟨s,hs,rfl⟩:=(de k2).1 LA
        intro ap
        rw[bi.jg sU hs] at ap
        exact hA s hs s1.1 b aX (.inr (.inl (by rw[dn,rZ];exact BG))) ap hb
       ·rw[(cS _ LB).2,pw xO ER] at hb
        rw[(cS _ LA).2]
        by_cases Lx:k2∈tl.map (·.1)
        ·obtain⟨s2,B8,rfl⟩:=eV.1 Lx
         rw[pw xO B8]
         exact uY B7 ER B8 (fun e=>aX (by rw[e])) hb
        ·rw[Ad Lx]
         have Ly:k2∉r.dB/\(σ.aw k2).isSome:=by
          rcases h2 with h2|h2|h2
          ·exact absurd h2 LA
          ·exact absurd (by rw[<-rZ,<-dn];exact h2) Lx
          ·exact h2
         rw[lj] at Ly
         exact(hC b (Lu b (fV _ (AJ s1 ER b hb)))).2.2.2 k2 Ly.2 (fun e=>Ly.1 (fD _ e))
     ·intro b hb
      rcases P2 b hb with h1|h1
      ·have:=BC b h1;omega
      ·exact h1.2.1
     ·intro b hb
      rcases P2 b hb with h1|h1
      ·rcases x_ b h1 with h2|⟨k',_,h2,h3⟩
       ·exact h.iy b h2
       ·exact .inr (nD h2 h3).2.1
      ·rcases h1.1 with g|g
       ·exact .inr (.inr (tg h.upto.size g))
       ·obtain⟨u,hu,ap⟩:=og b g
        exact .inr (nD (sR u hu).1 ap).2.1
     ·refine h.upto.trans (fi.mono (fun b hb=> ?_))
      obtain⟨u,hu,hb⟩:=og b hb
      exact(nD (sR u hu).1 hb).2.1
   ·cases hr
  ·cases hr
 ·cases hr
end AM
