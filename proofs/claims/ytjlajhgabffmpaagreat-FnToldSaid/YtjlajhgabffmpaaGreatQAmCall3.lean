/- THE ABSTRACT MACHINE: a call by its contract. -/
import Derived.Test.YtjlajhgabffmpaaGreatQAmCall4
namespace AM
set_option linter.unusedVariables false
open Go
variable{U:lu}{E:Env U}{pm:Pm}
variable{F F':Nat->Prop}{kv:Key->Value}{fp:Key->List Nat}{σ:ai U}{a:Act}{w w':World}{bad:Key->Bool}
theorem ada{l:List Nat}:nH l=true↔l.Nodup:=by
 induction l with
 |nil=>simp[nH]
 |cons k l ih=>
  simp only[nH,cO,ra,tS,ih]
  rw[<-wl,vg]
  simp
theorem fA.SY{d:fA U}{dst:Nat}{k:Key}{t:Nat×i_ U×Value×List Nat}(h:d.find? (fun t=>jb (dst,t.1) k)=some t):t∈d/\k=(dst,t.1):=
 ⟨List.mem_of_find?_eq_some h,(pA.1 (by simpa using List.find?_some h)).symm⟩
theorem fA.Ot{d:fA U}{dst:Nat}(hn:(d.map (·.1)).Nodup){t:Nat×i_ U×Value×List Nat}(ht:t∈d):d.find? (fun t'=>jb (dst,t'.1) (dst,t.1))=some t:=by
 cases hf:d.find? (fun t'=>jb (dst,t'.1) (dst,t.1)) with
 |none=>
  have:=zeb.1 hf t ht
  simp[zH] at this
 |some t'=>
  obtain⟨h1,h2⟩:=fA.SY hf
  have h3:t'.1=t.1:=by simpa using h2.symm
  rw[zdg,List.pairwise_map] at hn
  by_cases he:t'=t
  ·rw[he]
  ·exfalso
   have hp:=hn
   obtain⟨i,hi,qh⟩:=sn h1
   obtain⟨j,hj,ug⟩:=sn ht
   rw[UA] at hp
   rcases Nat.lt_trichotomy i j with h|h|h
   ·exact hp i j hi hj h (by rw[qh,ug,h3])
   ·subst h;exact he (by rw[<-qh,<-ug])
   ·exact hp j i hj hi h (by rw[qh,ug,h3])
theorem fA.xV{d:fA U}{dst:Nat}{kv:Key->Value}(hn:(d.map (·.1)).Nodup){t:Nat×i_ U×Value×List Nat}(ht:t∈d):d.Bw dst kv (dst,t.1)=t.2.2.1:=by
 unfold fA.Bw;rw[fA.Ot hn ht]
theorem fA.vA{d:fA U}{dst:Nat}{fp:Key->List Nat}(hn:(d.map (·.1)).Nodup){t:Nat×i_ U×Value×List Nat}(ht:t∈d):d.Ac dst fp (dst,t.1)=t.2.2.2:=by
 unfold fA.Ac;rw[fA.Ot hn ht]
theorem fA.other{d:fA U}{dst:Nat}{k:Key}(h:∀t∈d,k≠(dst,t.1))(kv:Key->Value)(fp:Key->List Nat):d.Bw dst kv k=kv k/\d.Ac dst fp k=fp k:=by
 have:d.find? (fun t=>jb (dst,t.1) k)=none:=zeb.2 fun t ht hk=>h t ht (pA.1 (by simpa using hk)).symm
 unfold fA.Bw fA.Ac
 rw[this]
 exact⟨rfl,rfl⟩
theorem fA.pX{d:fA U}{b:Nat}:b∈d.bl↔∃t∈d,b∈t.2.2.2:=by simp[fA.bl]
theorem fA.yL:∀{d:fA U},d.bl.Nodup->∀{t:Nat×i_ U×Value×List Nat},t∈d->t.2.2.2.Nodup
 |[],_,t,ht=>by simp at ht
 |t0::d,h,t,ht=>by
  simp only[fA.bl,zt,rz] at h
  rcases kf.1 ht with rfl|ht
  ·exact h.1
  ·exact fA.yL (d:=d) h.2.1 ht
theorem fA.rW:∀{d:fA U},d.bl.Nodup->∀{t t':Nat×i_ U×Value×List Nat},t∈d->t'∈d->t.1≠t'.1->∀{b:Nat},b∈t.2.2.2->b∉t'.2.2.2
 |[],_,t,t',ht,_,_,_,_=>by simp at ht
 |t0::d,h,t,t',ht,Up,fg,b,hb=>by
  simp only[fA.bl,zt,rz] at h
  intro bg
  rcases kf.1 ht with rfl|_
  ·rcases kf.1 Up with rfl|Up
   ·exact fg rfl
   ·exact h.2.2 b hb b (ow.2 ⟨t',Up,bg⟩) rfl
  ·rename_i ht1
   rcases kf.1 Up with h0|ht2
   ·subst h0
    exact h.2.2 b bg b (ow.2 ⟨t,ht1,hb⟩) rfl
   ·exact fA.rW (d:=d) h.2.1 ht1 ht2 fg hb bg
theorem aj8{P:Program}{w:World}{a:Act}{o:Oper}{cl:Call}{f:FuncId}(sj:o.op=.call cl)(iH:cl.callee=.value (.func f))(hf:zp P f):
  (execOp a.eval o).run P w=.ok (.enter f (cl.args.toList.map a.eval).toArray) w:=by
 obtain⟨fn,h1,h2,h3⟩:=hf
 have e:execOp a.eval o=callFunc f (#[]++cl.args.map a.eval++ #[]):=by
  unfold execOp
  rw[sj]
  simp only[resolve,iH]
  rfl
 rw[e]
 have e2:(#[]++cl.args.map a.eval++ #[]:Array Value)=(cl.args.toList.map a.eval).toArray:=by
  apply Array.ext'
  simp
 rw[e2]
 have h4:fn.body≠none:=by cases hb:fn.body<;>simp[hb] at h2⊢
 have h5:fn.name≠ "runtime.NumGoroutine" :=by simpa using h3
 simp[callFunc,go_sem,h1,h4,h5]
theorem aj'{avs:List (AV U)}{us:List Value}{bad:Key->Bool}(hl:avs.length=us.length)(h:∀(i:Nat)(x:AV U)(u:Value),avs[i]? =some x->us[i]? =some u->RV E w F kv fp bad x u):
  RS E w F kv fp bad (match(generalizing:=false) avs with|[v]=> .v v|vs=> .wm vs) (Pj us):=by
 match avs,us,hl with
 |[v],[u],_=>exact h 0 v u rfl rfl
 |[],[],_=>exact⟨[],rfl,rfl,h⟩
 |x::y::r,p::q::s,hl=>exact⟨p::q::s,rfl,hl,h⟩
def Uv(tl:List (Key×i_ U×List Nat))(fp:Key->List Nat)(k:Key):List Nat:=match tl.find? (fun t=>jb t.1 k) with|some t=>t.2.2|none=>fp k
theorem alg{tl:List (Key×i_ U×List Nat)}(hn:(tl.map (·.1)).Nodup){t:Key×i_ U×List Nat}(ht:t∈tl):tl.find? (fun s=>jb s.1 t.1)=some t:=by
 induction tl with
 |nil=>cases ht
 |cons s tl ih=>
  rw[wb,tS] at hn
  rcases kf.1 ht with rfl|ht
  ·simp[zH]
  ·have fg:jb s.1 t.1=false:=MP.2 fun e=>hn.1 (by rw[e];exact l_.2 ⟨t,ht,rfl⟩)
   rw[List.find?_cons,fg]
   exact ih hn.2 ht
theorem Ij{tl:List (Key×i_ U×List Nat)}{fp:Key->List Nat}(hn:(tl.map (·.1)).Nodup){t:Key×i_ U×List Nat}(ht:t∈tl):Uv tl fp t.1=t.2.2:=by
 unfold Uv;rw[alg hn ht]
theorem ZU{tl:List (Key×i_ U×List Nat)}{fp:Key->List Nat}{k:Key}(h:k∉tl.map (·.1)):Uv tl fp k=fp k:=by
 unfold Uv
 have:tl.find? (fun t=>jb t.1 k)=none:=zeb.2 fun t ht hk=>h (l_.2 ⟨t,ht,pA.1 (by simpa using hk)⟩)
 rw[this]
theorem Vc{α:Type}{f:α->List Nat}:∀{l:List α},(l.flatMap f).Nodup->∀{t:α},t∈l->(f t).Nodup
 |[],_,t,ht=>by simp at ht
 |t0::d,h,t,ht=>by
  simp only[zt,rz] at h
  rcases kf.1 ht with rfl|ht
  ·exact h.1
  ·exact Vc h.2.1 ht
theorem Rw{α:Type}{f:α->List Nat}:∀{l:List α},(l.flatMap f).Nodup->∀{t t':α},t∈l->t'∈l->t≠t'->∀{b:Nat},b∈f t->b∉f t'
 |[],_,t,t',ht,_,_,_,_=>by simp at ht
 |t0::d,h,t,t',ht,Up,fg,b,hb=>by
  simp only[zt,rz] at h
  intro bg
  rcases kf.1 ht with e1|h1
  ·rcases kf.1 Up with e2|h2
   ·exact fg (e1.trans e2.symm)
   ·subst e1;exact h.2.2 b hb b (ow.2 ⟨t',h2,bg⟩) rfl
  ·rcases kf.1 Up with e2|h2
   ·subst e2;exact h.2.2 b bg b (ow.2 ⟨t,h1,hb⟩) rfl
   ·exact Rw h.2.1 h1 h2 fg hb bg
theorem alO(hC:∀g k,E.Qu g=some k->zp E.P g/\fh E g k)(h:cQ E pm F kv fp σ a w){o:Oper}(hd:∀d,o.dst=some d->d<σ.n){cl:Call}{f:FuncId}(sj:o.op=.call cl)(iH:cl.callee=.value (.func f)){k:kz U}(hf:zp E.P f)(hk:fh E f k)
  {xs:List (SV U)} (hxl:xs.length=cl.args.toList.length) (vv:∀x∈xs,∀k∈x.keys,Names σ k) (hxs:∀(i:Nat)(x:SV U)(q:Operand),xs[i]? =some x->cl.args.toList[i]? =some q->RS E w F kv fp (bR σ) x (a.eval q))
  {rs:List Key} {types:List TypeId} {r:cm U} (hr:Ao E (restrict σ.bM rs) σ.aN (o.dst.getD 1000000) k types xs=some r) (hp:∀p∈r.pre,p) (od:∀k∈eo o r,¬Names σ k)
  {next:Act->World->Prop} {Q:Exit->Act->World->Prop} (hn:∀F kv fp a' w',cQ E pm F kv fp (AM.apply o r σ) a' w'->next a' w'):o.wp E.P a w next Q:=by
 unfold Ao at hr
 split at hr
 ·rename_i ps ds lH
  split at hr
  ·rename_i x hof
   split at hr
   ·rename_i us eb lk avs es hmu aau
    simp only at hr
    generalize W_:(bif vn (k.pj x).fresh (k.pj x).val&& !(z_ k.md) then[] else gv k.md xs)=lD at hr
    cases hc:(nH ((es++eb).map (·.1))&& !(lk.any fun u=>(gv k.md xs).any (jb u))&&D7 (restrict σ.bM rs) k.Kl k.md (k.want (types.map E.zD)) xs)<;>simp only[hc,cond_false,cond_true] at hr
    ·cases hr
    ·have GP:=YY hr
     have hp:∀p∈ps++k.pre x,p:=by rw[<-GP] at hp;exact hp
     simp only[cO,ra] at hc
     obtain⟨⟨Gf,Qd⟩,hc3⟩:=hc
     have aaB:=k.law ds x hof
     obtain⟨ls,pI,apq,Oh,aml,GS,ama,amb,A9⟩:=alY hC (K:=(gv k.md xs).filter fun k=>(σ.bM k).isSome) (vs:=cl.args.toList.map a.eval) h lH (fun p kP=>hp p (by simp[kP])) (by simp[hxl]) (fun i y u hy hu=>by
      rw[nO] at hu
      cases hq:cl.args.toList[i]? with
      |none=>rw[hq] at hu;cases hu
      |some q=>rw[hq] at hu;cases hu;exact hxs i y q hy hq) vv (fun _ h1 h2=>zr.2 ⟨h1,h2⟩) hmu
     have M9:tG w k.Kl k.md ds (cl.args.toList.map a.eval):=aka h lH (by simp[hxl]) (fun i y u hy hu=>by
      rw[nO] at hu
      cases hq:cl.args.toList[i]? with
      |none=>rw[hq] at hu;cases hu
      |some q=>rw[hq] at hu;cases hu;exact hxs i y q hy hq) hc3
     rw[<-aaB] at pI M9
     have amd:∀k'∈lk,k'∉gv k.md xs:=by
      intro u hu qg
      have:(lk.any fun u=>(gv k.md xs).any (jb u))=true:=vg.2 ⟨u,hu,sI.2 qg⟩
      rw[this] at Qd;cases Qd
     have FP:∀{k':Key}{b:Nat},(σ.bM k').isSome=true->b∈fp k'->¬F b/\(pm.W b\/pm.w0.heap.size<=b)/\b<w.heap.size:=by
      intro k' b db hb
      obtain⟨e,he⟩:=m8.1 db
      exact h.fV k' e b he hb
     have yb:∀{k' k'':Key}{b:Nat},k'≠k''->(σ.bM k').isSome=true->(σ.bM k'').isSome=true->b∈fp k'->b∉fp k'':=by
      intro k' k'' b fg h1 h2 hb
      obtain⟨e,he⟩:=m8.1 h1
      obtain⟨e',fo⟩:=m8.1 h2
      exact h.apart k' k'' e e' b fg he fo hb
     generalize ad5:FK F fp ((gv k.md xs).filter fun k=>(σ.bM k).isSome)=Fc at pI
     have V5:∀b,F b->Fc b:=fun b hb=>by rw[<-ad5];exact .inl hb
     have V4:∀b,Fc b->F b\/∃k'∈gv k.md xs,(σ.bM k').isSome=true/\b∈fp k':=by
      intro b hb
      rw[<-ad5] at hb
      rcases hb with hb|⟨k',db,hb⟩
      ·exact .inl hb
      ·rw[zr] at db
       exact .inr ⟨k',db.1,db.2,hb⟩
     have aa2:∀b,Fc b->b<w.heap.size:=by
      intro b hb
      rcases V4 b hb with hb|⟨k',_,h2,hb⟩
      ·exact h.uc b hb
      ·exact(FP h2 hb).2.2
     have ad4:∀k'∈lk,∀b∈fp k',¬Fc b:=by
      intro u hu b hb wj
      rcases V4 b wj with h1|⟨k',h1,h2,h3⟩
      ·exact(FP (Oh u hu).1 hb).1 h1
      ·exact yb (fun e=>amd u hu (by rw[<-e];exact h1)) h2 (Oh u hu).1 h3 hb
     have aaz:∀b∈ls.flatten,b<w.heap.size/\¬Fc b:=by
      intro b hb
      obtain⟨u,hu,hb⟩:=GS b hb
      exact⟨(FP (Oh u hu).1 hb).2.2,ad4 u hu b hb⟩
     show o.upon E.P a next Q ((execOp a.eval o).run E.P w)
     rw[aj8 sj iH hf,Oper.upon_enter]
     refine(hk x (fun p kP=>hp p (by simp[kP])) w Fc _ ls aa2 (h.lay.gx fun b hb=>⟨V5 b hb,rfl⟩) pI M9 aml aaz).mono ?_
     rintro e w' ⟨Zu,si,ji,rfl,qz,PQ,aax,qD,M9,W8⟩
     show next (a.put o.dst (Pj Zu)) w'
     obtain⟨Fn,P1,P2,P3,adJ,adN⟩:∃Fn:Nat->Prop,(∀b,F b->Fn b)/\(∀b,Fn b->Fc b\/((w.heap.size<=b\/b∈ls.flatten)/\b<w'.heap.size/\b∉si.flatten++ji.flatten))/\
       (∀k' b,k'∉lD->k'∉lk->(σ.bM k').isSome=true->b∈fp k'->¬Fn b)/\nu E w' Fn (k.pj x).fresh (k.pj x).val Zu si/\fE E w' Fn w k.md (cl.args.toList.map a.eval) (k.pj x).M0 ji:=by
      cases Of:(vn (k.pj x).fresh (k.pj x).val&& !(z_ k.md))<;>simp only[Of,cond_true,cond_false] at W_
      ·refine⟨_,fun b hb=> .inl (V5 b hb),fun b hb=>hb,fun k' b db lm hl hb Qg=> ?_,PQ,aax⟩
       rcases Qg with Qg|Qg
       ·rcases V4 b Qg with h1|⟨k'',h1,h2,h3⟩
        ·exact(FP hl hb).1 h1
        ·exact yb (fun e=>db (by rw[<-W_,<-e];exact h1)) h2 hl h3 hb
       ·rcases Qg.1 with g|g
        ·have:=(FP hl hb).2.2
         omega
        ·obtain⟨u,hu,bg⟩:=GS b g
         exact yb (fun e=>lm (by rw[<-e];exact hu)) (Oh u hu).1 hl bg hb
      ·simp only[cO,ra] at Of
       exact⟨F,fun b hb=>hb,fun b hb=> .inl (V5 b hb),fun k' b _ _ hl hb=>(FP hl hb).1,PQ.any Of.1,aax.any Of.2⟩
     have jf:∀b,b<w.heap.size->b∉ls.flatten->w'.heap[b]? =w.heap[b]? :=fun b h1 h2=>qz.block b h1 h2
     have xu:w.heap.size<=w'.heap.size:=qz.size
     have apo:=qD
     rw[rz] at qD
     have A':∀b,F b->Fn b/\w'.heap[b]? =w.heap[b]? :=fun b hb=>⟨P1 b hb,jf b (h.uc b hb) (fun bg=>(aaz b bg).2 (V5 b hb))⟩
     obtain⟨tl,t,htl,rfl,hT1,hT2,hT3,hT4⟩:=A9 w' Fn ji adN A' (fun k hk c hc iH=>jf c (FP (Oh k hk).1 hc).2.2 iH) qD.2.1 (fun b hb=>(W8 b hb).imp id fun g k hk jg=>by have:=(FP (Oh k hk).1 jg).2.2;omega)
     obtain⟨d,rfl,d1,d2,d3⟩:=acz aau adJ
     have amk:∀b∈ji.flatten,b<w'.heap.size:=fun b hb=>by
      rcases W8 b hb with g|g
      ·have:=(aaz b g).1;omega
      ·exact g.2
     have hC:∀b,(b∈si.flatten++ji.flatten\/(b∉ls.flatten/\∃k'∈lk,b∈fp k'))->¬Fn b/\(pm.W b\/pm.w0.heap.size<=b)/\b<w'.heap.size/\∀k',(σ.bM k').isSome=true->k'∉lk->b∉fp k':=by
      intro b hb
      have Og:¬((w.heap.size<=b\/b∈ls.flatten)/\b<w'.heap.size/\b∉si.flatten++ji.flatten):=fun h1=>by
       rcases hb with hb|hb
       ·exact h1.2.2 hb
       ·rcases h1.1 with g|g
        ·obtain⟨k',db,bg⟩:=hb.2
         have:=(FP (Oh k' db).1 bg).2.2
         omega
        ·exact hb.1 g
      have SI:(w.heap.size<=b/\b<w'.heap.size/\b∈si.flatten++ji.flatten)\/∃k'∈lk,b∈fp k':=by
       rcases hb with hb|hb
       ·have h0:(b∈ls.flatten\/w.heap.size<=b)/\b<w'.heap.size:=by
         rcases jO.1 hb with g|g
         ·exact M9 b g
         ·exact⟨(W8 b g).imp id fun g=>g.1,amk b g⟩
        rcases h0.1 with g|g
        ·exact .inr (GS b g)
        ·exact .inl ⟨g,h0.2,hb⟩
       ·exact .inr hb.2
      rcases SI with⟨g1,g2,g3⟩|⟨k',db,bg⟩
      ·refine⟨fun wj=> ?_,.inr (xo h.upto.size g1),g2,fun k' hl _ bg=> ?_⟩
       ·rcases P2 b wj with h1|h1
        ·have:=aa2 b h1;omega
        ·exact Og h1
       ·have:=(FP hl bg).2.2;omega
      ·have h3:=FP (Oh k' db).1 bg
       refine⟨fun wj=> ?_,h3.2.1,by omega,fun k'' hl hn Gh=>yb (fun e=>hn (by rw[<-e];exact db)) (Oh k' db).1 hl bg Gh⟩
       rcases P2 b wj with h1|h1
       ·exact ad4 k' db b bg h1
       ·exact Og h1
     have hCt:∀b∈tl.flatMap (·.2.2)++t.bl,b∈si.flatten++ji.flatten\/(b∉ls.flatten/\∃k'∈lk,b∈fp k'):=fun b hb=>(hT4 b hb).imp (fun g=>rb _ g) (fun g=>g)
     have hCd:∀b∈d.bl,b∈si.flatten++ji.flatten\/(b∉ls.flatten/\∃k'∈lk,b∈fp k'):=fun b hb=> .inl (sh _ (by rw[<-d2];exact hb))
     have SG:∀b∈d.bl,b∉tl.flatMap (·.2.2)++t.bl:=by
      intro b hb bg
      rw[d2] at hb
      rcases hT4 b bg with g|⟨g1,k',db,g2⟩
      ·exact qD.2.2 b hb b g rfl
      ·rcases(M9 b hb).1 with g3|g3
       ·exact g1 g3
       ·have:=(FP (Oh k' db).1 g2).2.2;omega
     generalize hD:(d++t:fA U)=D
     have aa3:D.bl=d.bl++t.bl:=by rw[<-hD,fA.vT]
     have adY:D.bl.Nodup:=by
      rw[aa3,rz]
      rw[rz] at hT3
      exact⟨by rw[d2];exact qD.1,hT3.2.1,fun b hb c hc e=>SG b hb (rb _ (by rw[e];exact hc))⟩
     have htn:(tl.flatMap (·.2.2)).Nodup:=(rz.1 hT3).1
     have hDt:∀b∈D.bl,b∉tl.flatMap (·.2.2):=by
      intro b hb bg
      rw[aa3,jO] at hb
      rcases hb with g|g
      ·exact SG b g (sh _ bg)
      ·exact(rz.1 hT3).2.2 b bg b g rfl
     have hCD:∀b∈D.bl,b∈si.flatten++ji.flatten\/(b∉ls.flatten/\∃k'∈lk,b∈fp k'):=by
      intro b hb
      rw[aa3,jO] at hb
      rcases hb with g|g
      ·exact hCd b g
      ·exact hCt b (rb _ g)
     have Om:(D.map (·.1)).Nodup:=by
      have:=ada.1 Gf
      rw[<-hD]
      simpa[fA.es,Function.comp_def] using this
     have hD1:∀s∈D,∀kv fp bad,tH E w' Fn kv fp bad s.2.1 s.2.2.1 s.2.2.2:=by
      intro s hs
      rw[<-hD,jO] at hs
      rcases hs with hs|hs
      ·exact d1 s hs
      ·exact hT2 s hs
     have kF:∀k',k'∈eo o r↔∃s∈D,k'=(o.dst.getD 1000000,s.1):=by
      intro k'
      rw[<-GP,<-hD]
      simp only[eo,fA.es,l_,jO]
      constructor
      ·rintro⟨p,(⟨s,hs,rfl⟩|⟨s,hs,rfl⟩),rfl⟩
       ·exact⟨s,.inl hs,rfl⟩
       ·exact⟨s,.inr hs,rfl⟩
      ·rintro⟨s,(hs|hs),rfl⟩
       ·exact⟨_,.inl ⟨s,hs,rfl⟩,rfl⟩
       ·exact⟨_,.inr ⟨s,hs,rfl⟩,rfl⟩
     have kX:jY r=us.map (·.1):=by rw[<-GP];rfl
     have M8:us.map (·.1)=tl.map (·.1):=by rw[<-htl];simp[Function.comp_def]
     have VM:(tl.map (·.1)).Nodup:=by rw[<-M8];exact ama
     have zZ:r.lD=lD++lk:=by rw[<-GP]
     have kl:∀k',k'∉eo o r->D.Bw (o.dst.getD 1000000) kv k'=kv k'/\D.Ac (o.dst.getD 1000000) (Uv tl fp) k'=Uv tl fp k':=by
      intro k' db
      exact fA.other (fun t ht e=>db ((kF k').2 ⟨t,ht,e⟩)) kv (Uv tl fp)
     have amc:∀k'∈lk,k'∉eo o r:=fun u hu e=>od _ e (Oh u hu).2
     have al_:∀k'∈tl.map (·.1),k'∈lk:=by
      intro k' db
      rw[<-M8] at db
      obtain⟨u,hu,rfl⟩:=l_.1 db
      exact amb u hu
     have hnk:∀k',Names σ k'->D.Bw (o.dst.getD 1000000) kv k'=kv k':=fun k' db=>(kl k' (fun e=>od _ e db)).1
     have ad6:∀s∈D,∀b∈s.2.2.2,b∈D.bl:=fun s hs b hb=>fA.pX.2 ⟨s,hs,hb⟩
     have aal:∀s∈tl,∀b∈s.2.2,b∈tl.flatMap (·.2.2):=fun s hs b hb=>ow.2 ⟨s,hs,hb⟩
     refine hn Fn (D.Bw (o.dst.getD 1000000) kv) (D.Ac (o.dst.getD 1000000) (Uv tl fp)) _ w' ?_
     refine cQ.apply h o r (Pj Zu) hd ?_ (fun k' db=>(kl k' db).1) ?_ od A' ?_ ?_ ?_ ?_ ?_ ?_ ?_ xu
     ·intro sv Ey
      rw[<-GP] at Ey
      simp only[gJ] at Ey
      subst Ey
      obtain⟨g1,g2⟩:=d3 (D.Bw (o.dst.getD 1000000) kv) (D.Ac (o.dst.getD 1000000) (Uv tl fp)) (bR (AM.apply o r σ)) (fun s hs=>fA.xV Om (by rw[<-hD];exact sh _ hs))
      exact aj' g1 g2
     ·intro k' h1 h2
      rw[(kl k' h1).2]
      exact ZU (by rw[<-M8,<-kX];exact h2)
     ·intro k' e h1 h2 h3 he b hb
      have hl:(σ.bM k').isSome=true:=by rw[he];rfl
      refine jf b (FP hl hb).2.2 (fun bg=> ?_)
      obtain⟨u,hu,bg⟩:=GS b bg
      exact yb (fun e'=>h3 (by rw[zZ];exact rb _ (by rw[<-e'];exact hu))) (Oh u hu).1 hl bg hb
     ·rintro k' e (⟨j,rfl,hj⟩|hu)
      ·have:∃s∈D,s.1=j/\s.2.1=e:=by
        rw[<-GP] at hj
        rw[<-hD]
        simp only[fA.es,l_,jO,pb] at hj
        rcases hj with⟨s,h1,h2,h3⟩|⟨s,h1,h2,h3⟩
        ·exact⟨s,sh _ h1,h2,h3⟩
        ·exact⟨s,rb _ h1,h2,h3⟩
       obtain⟨s,hs,rfl,rfl⟩:=this
       rw[fA.xV Om hs,fA.vA Om hs]
       refine⟨hD1 s hs _ _ _,fA.yL adY hs,fun b hb=> ?_⟩
       obtain⟨c1,c2,c3,_⟩:=hC b (hCD b (ad6 s hs b hb))
       exact⟨c1,c2,c3⟩
      ·have hu:(k',e)∈us:=by rw[<-GP] at hu;exact hu
       rw[<-htl] at hu
       obtain⟨s,hs,hse⟩:=l_.1 hu
       simp only[pb] at hse
       obtain⟨rfl,rfl⟩:=hse
       have hsk:s.1∈lk:=al_ _ (l_.2 ⟨s,hs,rfl⟩)
       have Uq:=amc _ hsk
       rw[(kl _ Uq).1,(kl _ Uq).2,Ij VM hs]
       refine⟨hT1 s hs _ _ _ hnk (fun s' ky=>fA.xV Om (by rw[<-hD];exact rb _ ky)),Vc htn hs,fun b hb=> ?_⟩
       obtain⟨c1,c2,c3,_⟩:=hC b (hCt b (sh _ (aal s hs b hb)))
       exact⟨c1,c2,c3⟩
     ·intro k' e b _ _ h3 he hb
      rw[zZ] at h3
      exact P3 k' b (fun e=>h3 (sh _ e)) (fun e=>h3 (rb _ e)) (by rw[he];rfl) hb
     ·
      have hA:∀s∈D,∀k' b,k'≠(o.dst.getD 1000000,s.1)->(k'∈eo o r\/k'∈jY r\/(k'∉r.lD/\(σ.bM k').isSome))->b∈s.2.2.2->b∉D.Ac (o.dst.getD 1000000) (Uv tl fp) k':=by
       intro s hs k' b fg db hb bg
       have hbD:=ad6 s hs b hb
       by_cases Su:k'∈eo o r
       ·obtain⟨s',ky,rfl⟩:=(kF k').1 Su
        rw[fA.vA Om ky] at bg
        exact fA.rW adY hs ky (fun e=>fg (by rw[e])) hb bg
       ·rw[(kl k' Su).2] at bg
        by_cases hku:k'∈tl.map (·.1)
        ·obtain⟨s',ky,rfl⟩:=l_.1 hku
         rw[Ij VM ky] at bg
         exact hDt b hbD (aal s' ky b bg)
        ·rw[ZU hku] at bg
         have hk3:k'∉r.lD/\(σ.bM k').isSome:=by
          rcases db with db|db|db
          ·exact absurd db Su
          ·exact absurd (by rw[<-M8,<-kX];exact db) hku
          ·exact db
         rw[zZ] at hk3
         exact(hC b (hCD b hbD)).2.2.2 k' hk3.2 (fun e=>hk3.1 (rb _ e)) bg
      intro k1 k2 b fg h1 h2 hb
      by_cases h1a:k1∈eo o r
      ·obtain⟨s,hs,rfl⟩:=(kF k1).1 h1a
       rw[fA.vA Om hs] at hb
       exact hA s hs k2 b (Ne.symm fg) h2 hb
      ·have h1u:k1∈tl.map (·.1):=by rw[<-M8,<-kX];exact h1.resolve_left h1a
       obtain⟨s1,hs1,rfl⟩:=l_.1 h1u
       by_cases h2a:k2∈eo o r
       ·obtain⟨s,hs,rfl⟩:=(kF k2).1 h2a
        intro bg
        rw[fA.vA Om hs] at bg
        exact hA s hs s1.1 b fg (.inr (.inl (by rw[kX,M8];exact h1u))) bg hb
       ·rw[(kl _ h1a).2,Ij VM hs1] at hb
        rw[(kl _ h2a).2]
        by_cases h2u:k2∈tl.map (·.1)
        ·obtain⟨s2,hs2,rfl⟩:=l_.1 h2u
         rw[Ij VM hs2]
         exact Rw htn hs1 hs2 (fun e=>fg (by rw[e])) hb
        ·rw[ZU h2u]
         have h2l:k2∉r.lD/\(σ.bM k2).isSome:=by
          rcases h2 with h2|h2|h2
          ·exact absurd h2 h2a
          ·exact absurd (by rw[<-M8,<-kX];exact h2) h2u
          ·exact h2
         rw[zZ] at h2l
         exact(hC b (hCt b (sh _ (aal s1 hs1 b hb)))).2.2.2 k2 h2l.2 (fun e=>h2l.1 (rb _ e))
     ·intro b hb
      rcases P2 b hb with h1|h1
      ·have:=aa2 b h1;omega
      ·exact h1.2.1
     ·intro b hb
      rcases P2 b hb with h1|h1
      ·rcases V4 b h1 with h2|⟨k',_,h2,h3⟩
       ·exact h.ub b h2
       ·exact .inr (FP h2 h3).2.1
      ·rcases h1.1 with g|g
       ·exact .inr (.inr (xo h.upto.size g))
       ·obtain⟨u,hu,bg⟩:=GS b g
        exact .inr (FP (Oh u hu).1 bg).2.1
     ·refine h.upto.trans (qz.mono (fun b hb=> ?_))
      obtain⟨u,hu,hb⟩:=GS b hb
      exact(FP (Oh u hu).1 hb).2.1
   ·cases hr
  ·cases hr
 ·cases hr
end AM
