import Derived.Test.YtnndcpncmmcaaaaGreatQAmCall4
namespace AM
set_option linter.unusedVariables false
open Go
variable{U:jO}{E:Env U}{pm:Pm}
variable{F F':Nat->Prop}{kv:Key->Value}{fp:Key->List Nat}{σ:ah U}{a:Act}{w w':World}{bad:Key->Bool}
theorem ad1{l:List Nat}:nu l=true↔l.Nodup:=by
 induction l with
 |nil=>simp[nu]
 |cons k l ih=>
  simp only[nu,fY,sS,pH,ih]
  rw[<-Al,tW]
  simp
theorem eV.QE{d:eV U}{dst:Nat}{k:Key}{t:Nat×eX U×Value×List Nat}(h:d.find? (fun t=>fU (dst,t.1) k)=some t):t∈d/\k=(dst,t.1):=
 ⟨List.mem_of_find?_eq_some h,(lM.1 (by simpa using List.find?_some h)).symm⟩
theorem eV.Ma{d:eV U}{dst:Nat}(hn:(d.map (·.1)).Nodup){t:Nat×eX U×Value×List Nat}(ht:t∈d):d.find? (fun t'=>fU (dst,t'.1) (dst,t.1))=some t:=by
 cases hf:d.find? (fun t'=>fU (dst,t'.1) (dst,t.1)) with
 |none=>
  have:=zeb.1 hf t ht
  simp[qd] at this
 |some t'=>
  obtain⟨h1,h2⟩:=eV.QE hf
  have h3:t'.1=t.1:=by simpa using h2.symm
  rw[zdg,List.pairwise_map] at hn
  by_cases he:t'=t
  ·rw[he]
  ·exfalso
   have hp:=hn
   obtain⟨i,hi,od⟩:=zG h1
   obtain⟨j,hj,pg⟩:=zG ht
   rw[zdv] at hp
   rcases Nat.lt_trichotomy i j with h|h|h
   ·exact hp i j hi hj h (by rw[od,pg,h3])
   ·subst h;exact he (by rw[<-od,<-pg])
   ·exact hp j i hj hi h (by rw[od,pg,h3])
theorem eV.wH{d:eV U}{dst:Nat}{kv:Key->Value}(hn:(d.map (·.1)).Nodup){t:Nat×eX U×Value×List Nat}(ht:t∈d):d.An dst kv (dst,t.1)=t.2.2.1:=by
 unfold eV.An;rw[eV.Ma hn ht]
theorem eV.uf{d:eV U}{dst:Nat}{fp:Key->List Nat}(hn:(d.map (·.1)).Nodup){t:Nat×eX U×Value×List Nat}(ht:t∈d):d.zm dst fp (dst,t.1)=t.2.2.2:=by
 unfold eV.zm;rw[eV.Ma hn ht]
theorem eV.other{d:eV U}{dst:Nat}{k:Key}(h:∀t∈d,k≠(dst,t.1))(kv:Key->Value)(fp:Key->List Nat):d.An dst kv k=kv k/\d.zm dst fp k=fp k:=by
 have:d.find? (fun t=>fU (dst,t.1) k)=none:=zeb.2 fun t ht hk=>h t ht (lM.1 (by simpa using hk)).symm
 unfold eV.An eV.zm
 rw[this]
 exact⟨rfl,rfl⟩
theorem eV.pw{d:eV U}{b:Nat}:b∈d.bl↔∃t∈d,b∈t.2.2.2:=by simp[eV.bl]
theorem eV.xz:∀{d:eV U},d.bl.Nodup->∀{t:Nat×eX U×Value×List Nat},t∈d->t.2.2.2.Nodup
 |[],_,t,ht=>by simp at ht
 |t0::d,h,t,ht=>by
  simp only[eV.bl,tV,nH] at h
  rcases h_.1 ht with rfl|ht
  ·exact h.1
  ·exact eV.xz (d:=d) h.2.1 ht
theorem eV.rc:∀{d:eV U},d.bl.Nodup->∀{t t':Nat×eX U×Value×List Nat},t∈d->t'∈d->t.1≠t'.1->∀{b:Nat},b∈t.2.2.2->b∉t'.2.2.2
 |[],_,t,t',ht,_,_,_,_=>by simp at ht
 |t0::d,h,t,t',ht,Ei,cO,b,hb=>by
  simp only[eV.bl,tV,nH] at h
  intro aI
  rcases h_.1 ht with rfl|_
  ·rcases h_.1 Ei with rfl|Ei
   ·exact cO rfl
   ·exact h.2.2 b hb b (ln.2 ⟨t',Ei,aI⟩) rfl
  ·rename_i Tw
   rcases h_.1 Ei with h0|Oa
   ·subst h0
    exact h.2.2 b aI b (ln.2 ⟨t,Tw,hb⟩) rfl
   ·exact eV.rc (d:=d) h.2.1 Tw Oa cO hb aI
theorem R8{P:Program}{w:World}{a:Act}{o:Oper}{cl:Call}{f:FuncId}(mI:o.op=.call cl)(fa:cl.callee=.value (.func f))(hf:u7 P f):
  (execOp a.eval o).run P w=.ok (.enter f (cl.args.toList.map a.eval).toArray) w:=by
 obtain⟨fn,h1,h2,h3⟩:=hf
 have e:execOp a.eval o=callFunc f (#[]++cl.args.map a.eval++ #[]):=by
  unfold execOp
  rw[mI]
  simp only[resolve,fa]
  rfl
 rw[e]
 have e2:(#[]++cl.args.map a.eval++ #[]:Array Value)=(cl.args.toList.map a.eval).toArray:=by
  apply Array.ext'
  simp
 rw[e2]
 have h4:fn.body≠none:=by cases hb:fn.body<;>simp[hb] at h2⊢
 have h5:fn.name≠ "runtime.NumGoroutine" :=by simpa using h3
 simp[callFunc,go_sem,h1,h4,h5]
theorem amI{avs:List (AV U)}{us:List Value}{bad:Key->Bool}(hl:avs.length=us.length)(h:∀(i:Nat)(x:AV U)(u:Value),avs[i]? =some x->us[i]? =some u->RV E w F kv fp bad x u):
  RS E w F kv fp bad (match(generalizing:=false) avs with|[v]=> .v v|vs=> .tX vs) (MO us):=by
 match avs,us,hl with
 |[v],[u],_=>exact h 0 v u rfl rfl
 |[],[],_=>exact⟨[],rfl,rfl,h⟩
 |x::y::r,p::q::s,hl=>exact⟨p::q::s,rfl,hl,h⟩
theorem F8{dst:Nat}{fresh:Bool}{p:Nat×eX U}:∀{cs:List U.C}{base:Nat},p∈(putCells dst fresh base cs).2->p.2.wk=false
 |[],_,h=>by simp[putCells] at h
 | .lit v::cs,base,h=>F8 (cs:=cs) (base:=base+1) (by simpa[putCells] using h)
 | .sl τ xs::cs,base,h=>by
  cases fresh
  ·exact F8 (cs:=cs) (base:=base+1) (by simpa[putCells] using h)
  ·simp only[putCells,cond_true,h_] at h
   rcases h with rfl|h
   ·rfl
   ·exact F8 (cs:=cs) (base:=base+1) h
theorem amZ{dst:Nat}{fresh:Bool}{base:Nat}{d:DV U}{x:AV U}{es:List (Nat×eX U)}(h:sL dst fresh base d=some (x,es)){p:Nat×eX U}(hp:p∈es):p.2.wk=false:=by
 cases d with
 |one c=>simp only[sL,eZ,kG] at h;rw[<-h.2] at hp;exact F8 hp
 |agg cs=>simp only[sL,eZ,kG] at h;rw[<-h.2] at hp;exact F8 hp
 |box cs=>
  cases fresh
  ·simp[sL] at h
  ·simp only[sL,cond_true,eZ,kG] at h
   rw[<-h.2] at hp
   rw[g_.1 hp];rfl
 |ptr cs=>simp[sL] at h
 |fn p=>simp[sL] at h
theorem adn{dst:Nat}:∀{ds:List (DV U)}{fs:List Bool}{base:Nat}{xs:List (AV U)}{es:List (Nat×eX U)},tg dst fs base ds=some (xs,es)->∀{j:Nat}{e:eX U},(j,e)∈es->e.wk=false
 |[],_,_,_,_,h,_,_,hp=>by simp only[tg,eZ,kG] at h;rw[<-h.2] at hp;simp at hp
 |d::ds,fs,base,xs,es,h,j,e,hp=>by
  simp only[tg] at h
  split at h
  ·rename_i x e1 xs' V9 h1 h2
   cases h
   exact(gA.1 hp).elim (amZ h1) (adn h2)
  ·cases h
theorem al2:∀{xs:List (AC U)}{cs:List U.C}{us:List (Key×eX U)},jY xs cs=some us->∀{k:Key}{e:eX U},(k,e)∈us->e.wk=false:=by
 intro xs cs
 fun_induction jY xs cs with
 |case1=>intro us h k e hp;cases h;simp at hp
 |case2 _ _ _ _ ih=>exact fun h k e hp=>ih h hp
 |case3 k r τ ys cs us1 h1 ih=>
  intro us h k e hp
  cases h
  rcases h_.1 hp with hp|hp
  ·rw[(Prod.mk.inj hp).2];rfl
  ·exact ih h1 hp
 |case4=>intro us h;cases h
 |case5=>intro us h;cases h
theorem aoR{tb:mG U}{ku n:Nat}{m:Mode}{x:SV U}{dm:List (DV U)}{us:List (Key×eX U)}{es:List (Nat×eX U)}(h:gn tb ku n m x dm=some (us,es)):
  (∀{k:Key}{e:eX U},(k,e)∈us->e.wk=false)/\∀{j:Nat}{e:eX U},(j,e)∈es->e.wk=false:=by
 unfold gn at h
 split at h
 ·split at h
  ·split at h
   ·cases h;exact⟨fun hp=>by rw[(Prod.mk.inj (g_.1 hp)).2];rfl,fun hp=>by simp at hp⟩
   ·cases h
  ·cases h
 ·split at h
  ·rename_i h1;cases h;exact⟨al2 h1,fun hp=>by simp at hp⟩
  ·cases h
 ·cases h;exact⟨fun hp=>by simp at hp,fun hp=>by simp at hp⟩
 ·split at h
  ·rw[fc] at h
   split at h
   ·cases h;exact⟨fun hp=>by rw[(Prod.mk.inj (g_.1 hp)).2];rfl,fun hp=>F8 hp⟩
   ·cases h
  ·cases h
 ·split at h
  ·rw[fc] at h
   split at h
   ·cases h;exact⟨fun hp=>by rw[(Prod.mk.inj (g_.1 hp)).2];rfl,fun hp=>by simp at hp⟩
   ·cases h
  ·cases h
 ·cases h
theorem adB{tb:mG U}{ay:List Key}{ku:Nat}:∀{ms:List Mode}{ws:List (List (Option U.Ty))}{xs:List (SV U)}{ds:List (DV U)}{us:List (Key×eX U)}{es:List (Nat×eX U)}{lk:List Key},
  jE tb ay ku ms ws xs ds=some (us,es,lk)->(∀{k:Key}{e:eX U},(k,e)∈us->e.wk=false)/\∀{j:Nat}{e:eX U},(j,e)∈es->e.wk=false:=by
 intro ms
 intro ws xs ds
 fun_induction jE tb ay ku ms ws xs ds with
 |case1=>intro us es lk h;cases h;exact⟨fun hp=>by simp at hp,fun hp=>by simp at hp⟩
 |case2 _ _ _ _ _ ih=>exact fun h=>ih h
 |case3 _ _ _ _ _ _ _ _ _ _ _ _ h2 _ _ _ _ h3 _ ih=>
  intro us es lk h
  cases h
  obtain⟨a1,a2⟩:=aoR h2
  obtain⟨b1,b2⟩:=ih h3
  exact⟨fun hp=>(gA.1 hp).elim a1 b1,fun hp=>(gA.1 hp).elim a2 b2⟩
 |case4=>intro us es lk h;cases h
 |case5=>intro us es lk h;cases h
 |case6=>intro us es lk h;cases h
 |case7=>intro us es lk h;cases h
def RP(tl:List (Key×eX U×List Nat))(fp:Key->List Nat)(k:Key):List Nat:=match tl.find? (fun t=>fU t.1 k) with|some t=>t.2.2|none=>fp k
theorem an'{tl:List (Key×eX U×List Nat)}(hn:(tl.map (·.1)).Nodup){t:Key×eX U×List Nat}(ht:t∈tl):tl.find? (fun s=>fU s.1 t.1)=some t:=by
 induction tl with
 |nil=>cases ht
 |cons s tl ih=>
  rw[rl,pH] at hn
  rcases h_.1 ht with rfl|ht
  ·simp[qd]
  ·have cO:fU s.1 t.1=false:=wA.2 fun e=>hn.1 (by rw[e];exact jX.2 ⟨t,ht,rfl⟩)
   rw[List.find?_cons,cO]
   exact ih hn.2 ht
theorem GM{tl:List (Key×eX U×List Nat)}{fp:Key->List Nat}(hn:(tl.map (·.1)).Nodup){t:Key×eX U×List Nat}(ht:t∈tl):RP tl fp t.1=t.2.2:=by
 unfold RP;rw[an' hn ht]
theorem Z6{tl:List (Key×eX U×List Nat)}{fp:Key->List Nat}{k:Key}(h:k∉tl.map (·.1)):RP tl fp k=fp k:=by
 unfold RP
 have:tl.find? (fun t=>fU t.1 k)=none:=zeb.2 fun t ht hk=>h (jX.2 ⟨t,ht,lM.1 (by simpa using hk)⟩)
 rw[this]
theorem Sf{α:Type}{f:α->List Nat}:∀{l:List α},(l.flatMap f).Nodup->∀{t:α},t∈l->(f t).Nodup
 |[],_,t,ht=>by simp at ht
 |t0::d,h,t,ht=>by
  simp only[tV,nH] at h
  rcases h_.1 ht with rfl|ht
  ·exact h.1
  ·exact Sf h.2.1 ht
theorem OV{α:Type}{f:α->List Nat}:∀{l:List α},(l.flatMap f).Nodup->∀{t t':α},t∈l->t'∈l->t≠t'->∀{b:Nat},b∈f t->b∉f t'
 |[],_,t,t',ht,_,_,_,_=>by simp at ht
 |t0::d,h,t,t',ht,Ei,cO,b,hb=>by
  simp only[tV,nH] at h
  intro aI
  rcases h_.1 ht with e1|h1
  ·rcases h_.1 Ei with e2|h2
   ·exact cO (e1.trans e2.symm)
   ·subst e1;exact h.2.2 b hb b (ln.2 ⟨t',h2,aI⟩) rfl
  ·rcases h_.1 Ei with e2|h2
   ·subst e2;exact h.2.2 b aI b (ln.2 ⟨t,h1,hb⟩) rfl
   ·exact OV h.2.1 h1 h2 cO hb aI
theorem aoI(hC:∀g k,E.NU g=some k->u7 E.P g/\eL E g k)(h:cd E pm F kv fp σ a w){o:Oper}(hd:∀d,o.dst=some d->d<σ.n){cl:Call}{f:FuncId}(mI:o.op=.call cl)(fa:cl.callee=.value (.func f)){k:kq U}(hf:u7 E.P f)(hk:eL E f k)
  {xs:List (SV U)} (PJ:xs.length=cl.args.toList.length) (ol:∀x∈xs,∀k∈x.keys,Names σ k) (Rx:∀(i:Nat)(x:SV U)(q:Operand),xs[i]? =some x->cl.args.toList[i]? =some q->RS E w F kv fp (aZ σ) x (a.eval q))
  {rs:List Key} {types:List TypeId} {r:bz U} (hr:zr E (restrict σ.aU rs) σ.ay (o.dst.getD 1000000) k types xs=some r) (hp:∀p∈r.pre,p) (jq:∀k∈ct o r,¬Names σ k)
  {next:Act->World->Prop} {Q:Exit->Act->World->Prop} (hn:∀F kv fp a' w',cd E pm F kv fp (AM.apply o r σ) a' w'->next a' w'):o.wp E.P a w next Q:=by
 unfold zr at hr
 split at hr
 ·rename_i ps ds ib
  split at hr
  ·rename_i x hof
   split at hr
   ·rename_i us eb lk avs es hmu TC
    simp only at hr
    generalize sP:(bif tZ (k.ot x).fresh (k.ot x).val&& !(zk k.md) then[] else fD k.md xs)=gH at hr
    cases hc:(nu ((es++eb).map (·.1))&& !(lk.any fun u=>(fD k.md xs).any (fU u))&&CQ (restrict σ.aU rs) k.LA k.md (k.want (types.map E.yU)) xs)<;>simp only[hc,cond_false,cond_true] at hr
    ·cases hr
    ·have nZ:=X2 hr
     have hp:∀p∈ps++k.pre x,p:=by rw[<-nZ] at hp;exact hp
     simp only[fY,sS] at hc
     obtain⟨⟨yL,Fg⟩,hc3⟩:=hc
     have aaI:=k.law ds x hof
     obtain⟨ls,oZ,as6,pT,apm,E6,ao',ao_,wU⟩:=aoT hC (K:=(fD k.md xs).filter fun k=>(σ.aU k).isSome) (vs:=cl.args.toList.map a.eval) h ib (fun p jf=>hp p (by simp[jf])) (by simp[PJ]) (fun i y u hy hu=>by
      rw[mE] at hu
      cases hq:cl.args.toList[i]? with
      |none=>rw[hq] at hu;cases hu
      |some q=>rw[hq] at hu;cases hu;exact Rx i y q hy hq) ol (fun _ h1 h2=>CD.2 ⟨h1,h2⟩) hmu
     have KJ:sH w k.LA k.md ds (cl.args.toList.map a.eval):=amK h ib (by simp[PJ]) (fun i y u hy hu=>by
      rw[mE] at hu
      cases hq:cl.args.toList[i]? with
      |none=>rw[hq] at hu;cases hu
      |some q=>rw[hq] at hu;cases hu;exact Rx i y q hy hq) hc3
     rw[<-aaI] at oZ KJ
     have apb:∀k'∈lk,k'∉fD k.md xs:=by
      intro u hu pE
      have:(lk.any fun u=>(fD k.md xs).any (fU u))=true:=tW.2 ⟨u,hu,nP.2 pE⟩
      rw[this] at Fg;cases Fg
     have wM:∀{k':Key}{b:Nat},(σ.aU k').isSome=true->b∈fp k'->¬F b/\(pm.W b\/pm.w0.heap.size<=b)/\b<w.heap.size:=by
      intro k' b bp hb
      obtain⟨e,he⟩:=kH.1 bp
      exact h.cU k' e b he hb
     have wV:∀{k' k'':Key}{b:Nat},k'≠k''->(σ.aU k').isSome=true->(σ.aU k'').isSome=true->b∈fp k'->b∉fp k'':=by
      intro k' k'' b cO h1 h2 hb
      obtain⟨e,he⟩:=kH.1 h1
      obtain⟨e',dr⟩:=kH.1 h2
      exact h.apart k' k'' e e' b cO he dr hb
     generalize aeZ:FK F fp ((fD k.md xs).filter fun k=>(σ.aU k).isSome)=Fc at oZ
     have Ub:∀b,F b->Fc b:=fun b hb=>by rw[<-aeZ];exact .inl hb
     have Ua:∀b,Fc b->F b\/∃k'∈fD k.md xs,(σ.aU k').isSome=true/\b∈fp k':=by
      intro b hb
      rw[<-aeZ] at hb
      rcases hb with hb|⟨k',bp,hb⟩
      ·exact .inl hb
      ·rw[CD] at bp
       exact .inr ⟨k',bp.1,bp.2,hb⟩
     have aba:∀b,Fc b->b<w.heap.size:=by
      intro b hb
      rcases Ua b hb with hb|⟨k',_,h2,hb⟩
      ·exact h.lT b hb
      ·exact(wM h2 hb).2.2
     have aeY:∀k'∈lk,∀b∈fp k',¬Fc b:=by
      intro u hu b hb vO
      rcases Ua b vO with h1|⟨k',h1,h2,h3⟩
      ·exact(wM (pT u hu).1 hb).1 h1
      ·exact wV (fun e=>apb u hu (by rw[<-e];exact h1)) h2 (pT u hu).1 h3 hb
     have aaH:∀b∈ls.flatten,b<w.heap.size/\¬Fc b:=by
      intro b hb
      obtain⟨u,hu,hb⟩:=E6 b hb
      exact⟨(wM (pT u hu).1 hb).2.2,aeY u hu b hb⟩
     show o.upon E.P a next Q ((execOp a.eval o).run E.P w)
     rw[R8 mI fa hf,Oper.upon_enter]
     refine(hk x (fun p jf=>hp p (by simp[jf])) w Fc _ ls aba (h.lay.cI fun b hb=>⟨Ub b hb,rfl⟩) oZ KJ apm aaH).mono ?_
     rintro e w' ⟨Zp,oi,gS,rfl,kx,sX,aaG,oB,KJ,TI⟩
     show next (a.put o.dst (MO Zp)) w'
     obtain⟨Fn,P1,P2,P3,aez,aeD⟩:∃Fn:Nat->Prop,(∀b,F b->Fn b)/\(∀b,Fn b->Fc b\/((w.heap.size<=b\/b∈ls.flatten)/\b<w'.heap.size/\b∉oi.flatten++gS.flatten))/\
       (∀k' b,k'∉gH->k'∉lk->(σ.aU k').isSome=true->b∈fp k'->¬Fn b)/\lG E w' Fn (k.ot x).fresh (k.ot x).val Zp oi/\e_ E w' Fn w k.md (cl.args.toList.map a.eval) (k.ot x).Kz gS:=by
      cases LV:(tZ (k.ot x).fresh (k.ot x).val&& !(zk k.md))<;>simp only[LV,cond_true,cond_false] at sP
      ·refine⟨_,fun b hb=> .inl (Ub b hb),fun b hb=>hb,fun k' b bp eS hl hb NS=> ?_,sX,aaG⟩
       rcases NS with NS|NS
       ·rcases Ua b NS with h1|⟨k'',h1,h2,h3⟩
        ·exact(wM hl hb).1 h1
        ·exact wV (fun e=>bp (by rw[<-sP,<-e];exact h1)) h2 hl h3 hb
       ·rcases NS.1 with g|g
        ·have:=(wM hl hb).2.2
         omega
        ·obtain⟨u,hu,aI⟩:=E6 b g
         exact wV (fun e=>eS (by rw[<-e];exact hu)) (pT u hu).1 hl aI hb
      ·simp only[fY,sS] at LV
       exact⟨F,fun b hb=>hb,fun b hb=> .inl (Ub b hb),fun k' b _ _ hl hb=>(wM hl hb).1,sX.any LV.1,aaG.any LV.2⟩
     have eW:∀b,b<w.heap.size->b∉ls.flatten->w'.heap[b]? =w.heap[b]? :=fun b h1 h2=>kx.block b h1 h2
     have mS:w.heap.size<=w'.heap.size:=kx.size
     have as4:=oB
     rw[nH] at oB
     have mF:∀b,F b->Fn b/\w'.heap[b]? =w.heap[b]? :=fun b hb=>⟨P1 b hb,eW b (h.lT b hb) (fun aI=>(aaH b aI).2 (Ub b hb))⟩
     obtain⟨tl,t,htl,rfl,hT1,hT2,hT3,hT4⟩:=wU w' Fn gS aeD mF (fun k hk c hc fa=>eW c (wM (pT k hk).1 hc).2.2 fa) oB.2.1 (fun b hb=>(TI b hb).imp id fun g k hk gX=>by have:=(wM (pT k hk).1 gX).2.2;omega)
     obtain⟨d,rfl,d1,d2,d3⟩:=adm TC aez
     have apl:∀b∈gS.flatten,b<w'.heap.size:=fun b hb=>by
      rcases TI b hb with g|g
      ·have:=(aaH b g).1;omega
      ·exact g.2
     have hC:∀b,(b∈oi.flatten++gS.flatten\/(b∉ls.flatten/\∃k'∈lk,b∈fp k'))->¬Fn b/\(pm.W b\/pm.w0.heap.size<=b)/\b<w'.heap.size/\∀k',(σ.aU k').isSome=true->k'∉lk->b∉fp k':=by
      intro b hb
      have Gt:¬((w.heap.size<=b\/b∈ls.flatten)/\b<w'.heap.size/\b∉oi.flatten++gS.flatten):=fun h1=>by
       rcases hb with hb|hb
       ·exact h1.2.2 hb
       ·rcases h1.1 with g|g
        ·obtain⟨k',bp,aI⟩:=hb.2
         have:=(wM (pT k' bp).1 aI).2.2
         omega
        ·exact hb.1 g
      have Ql:(w.heap.size<=b/\b<w'.heap.size/\b∈oi.flatten++gS.flatten)\/∃k'∈lk,b∈fp k':=by
       rcases hb with hb|hb
       ·have h0:(b∈ls.flatten\/w.heap.size<=b)/\b<w'.heap.size:=by
         rcases gA.1 hb with g|g
         ·exact KJ b g
         ·exact⟨(TI b g).imp id fun g=>g.1,apl b g⟩
        rcases h0.1 with g|g
        ·exact .inr (E6 b g)
        ·exact .inl ⟨g,h0.2,hb⟩
       ·exact .inr hb.2
      rcases Ql with⟨g1,g2,g3⟩|⟨k',bp,aI⟩
      ·refine⟨fun vO=> ?_,.inr (En h.upto.size g1),g2,fun k' hl _ aI=> ?_⟩
       ·rcases P2 b vO with h1|h1
        ·have:=aba b h1;omega
        ·exact Gt h1
       ·have:=(wM hl aI).2.2;omega
      ·have h3:=wM (pT k' bp).1 aI
       refine⟨fun vO=> ?_,h3.2.1,by omega,fun k'' hl hn EF=>wV (fun e=>hn (by rw[<-e];exact bp)) (pT k' bp).1 hl aI EF⟩
       rcases P2 b vO with h1|h1
       ·exact aeY k' bp b aI h1
       ·exact Gt h1
     have hCt:∀b∈tl.flatMap (·.2.2)++t.bl,b∈oi.flatten++gS.flatten\/(b∉ls.flatten/\∃k'∈lk,b∈fp k'):=fun b hb=>(hT4 b hb).imp (fun g=>pA _ g) (fun g=>g)
     have hCd:∀b∈d.bl,b∈oi.flatten++gS.flatten\/(b∉ls.flatten/\∃k'∈lk,b∈fp k'):=fun b hb=> .inl (oE _ (by rw[<-d2];exact hb))
     have Qj:∀b∈d.bl,b∉tl.flatMap (·.2.2)++t.bl:=by
      intro b hb aI
      rw[d2] at hb
      rcases hT4 b aI with g|⟨g1,k',bp,g2⟩
      ·exact oB.2.2 b hb b g rfl
      ·rcases(KJ b hb).1 with g3|g3
       ·exact g1 g3
       ·have:=(wM (pT k' bp).1 g2).2.2;omega
     generalize hD:(d++t:eV U)=D
     have abb:D.bl=d.bl++t.bl:=by rw[<-hD,eV.uM]
     have aeT:D.bl.Nodup:=by
      rw[abb,nH]
      rw[nH] at hT3
      exact⟨by rw[d2];exact oB.1,hT3.2.1,fun b hb c hc e=>Qj b hb (pA _ (by rw[e];exact hc))⟩
     have htn:(tl.flatMap (·.2.2)).Nodup:=(nH.1 hT3).1
     have hDt:∀b∈D.bl,b∉tl.flatMap (·.2.2):=by
      intro b hb aI
      rw[abb,gA] at hb
      rcases hb with g|g
      ·exact Qj b g (oE _ aI)
      ·exact(nH.1 hT3).2.2 b aI b g rfl
     have hCD:∀b∈D.bl,b∈oi.flatten++gS.flatten\/(b∉ls.flatten/\∃k'∈lk,b∈fp k'):=by
      intro b hb
      rw[abb,gA] at hb
      rcases hb with g|g
      ·exact hCd b g
      ·exact hCt b (pA _ g)
     have H4:(D.map (·.1)).Nodup:=by
      have:=ad1.1 yL
      rw[<-hD]
      simpa[eV.es,Function.comp_def] using this
     have hD1:∀s∈D,∀kv fp bad,lm E w' Fn kv fp bad s.2.1 s.2.2.1 s.2.2.2:=by
      intro s hs
      rw[<-hD,gA] at hs
      rcases hs with hs|hs
      ·exact d1 s hs
      ·exact hT2 s hs
     have fq:∀k',k'∈ct o r↔∃s∈D,k'=(o.dst.getD 1000000,s.1):=by
      intro k'
      rw[<-nZ,<-hD]
      simp only[ct,eV.es,jX,gA]
      constructor
      ·rintro⟨p,(⟨s,hs,rfl⟩|⟨s,hs,rfl⟩),rfl⟩
       ·exact⟨s,.inl hs,rfl⟩
       ·exact⟨s,.inr hs,rfl⟩
      ·rintro⟨s,(hs|hs),rfl⟩
       ·exact⟨_,.inl ⟨s,hs,rfl⟩,rfl⟩
       ·exact⟨_,.inr ⟨s,hs,rfl⟩,rfl⟩
     have fI:fM r=us.map (·.1):=by rw[<-nZ];rfl
     have KH:us.map (·.1)=tl.map (·.1):=by rw[<-htl];simp[Function.comp_def]
     have Tv:(tl.map (·.1)).Nodup:=by rw[<-KH];exact ao'
     have lc:r.gH=gH++lk:=by rw[<-nZ]
     have gj:∀k',k'∉ct o r->D.An (o.dst.getD 1000000) kv k'=kv k'/\D.zm (o.dst.getD 1000000) (RP tl fp) k'=RP tl fp k':=by
      intro k' bp
      exact eV.other (fun t ht e=>bp ((fq k').2 ⟨t,ht,e⟩)) kv (RP tl fp)
     have apa:∀k'∈lk,k'∉ct o r:=fun u hu e=>jq _ e (pT u hu).2
     have ao9:∀k'∈tl.map (·.1),k'∈lk:=by
      intro k' bp
      rw[<-KH] at bp
      obtain⟨u,hu,rfl⟩:=jX.1 bp
      exact ao_ u hu
     have hnk:∀k',Names σ k'->D.An (o.dst.getD 1000000) kv k'=kv k':=fun k' bp=>(gj k' (fun e=>jq _ e bp)).1
     have ae0:∀s∈D,∀b∈s.2.2.2,b∈D.bl:=fun s hs b hb=>eV.pw.2 ⟨s,hs,hb⟩
     have aat:∀s∈tl,∀b∈s.2.2,b∈tl.flatMap (·.2.2):=fun s hs b hb=>ln.2 ⟨s,hs,hb⟩
     refine hn Fn (D.An (o.dst.getD 1000000) kv) (D.zm (o.dst.getD 1000000) (RP tl fp)) _ w' ?_
     refine cd.apply h o r (MO Zp) hd ?_ (fun k' bp=>(gj k' bp).1) ?_ jq mF ?_ ?_ ?_ ?_ ?_ ?_ ?_ mS (fun _ hk=>by rw[<-nZ] at hk;exact absurd hk rh) (fun k' e' hk=>by
      rw[<-nZ] at hk
      rcases hk with⟨j,_,hk⟩|hk
      ·exact(gA.1 hk).elim (adn TC) (adB hmu).2
      ·exact(adB hmu).1 hk)
     ·intro sv rD
      rw[<-nZ] at rD
      simp only[eZ] at rD
      subst rD
      obtain⟨g1,g2⟩:=d3 (D.An (o.dst.getD 1000000) kv) (D.zm (o.dst.getD 1000000) (RP tl fp)) (aZ (AM.apply o r σ)) (fun s hs=>eV.wH H4 (by rw[<-hD];exact oE _ hs))
      exact amI g1 g2
     ·intro k' h1 h2
      rw[(gj k' h1).2]
      exact Z6 (by rw[<-KH,<-fI];exact h2)
     ·intro k' e h1 h2 h3 he b hb
      have hl:(σ.aU k').isSome=true:=by rw[he];rfl
      refine eW b (wM hl hb).2.2 (fun aI=> ?_)
      obtain⟨u,hu,aI⟩:=E6 b aI
      exact wV (fun e'=>h3 (by rw[lc];exact pA _ (by rw[<-e'];exact hu))) (pT u hu).1 hl aI hb
     ·rintro k' e (⟨j,rfl,hj⟩|hu)
      ·have:∃s∈D,s.1=j/\s.2.1=e:=by
        rw[<-nZ] at hj
        rw[<-hD]
        simp only[eV.es,jX,gA,kG] at hj
        rcases hj with⟨s,h1,h2,h3⟩|⟨s,h1,h2,h3⟩
        ·exact⟨s,oE _ h1,h2,h3⟩
        ·exact⟨s,pA _ h1,h2,h3⟩
       obtain⟨s,hs,rfl,rfl⟩:=this
       rw[eV.wH H4 hs,eV.uf H4 hs]
       refine⟨hD1 s hs _ _ _,eV.xz aeT hs,fun b hb=> ?_⟩
       obtain⟨c1,c2,c3,_⟩:=hC b (hCD b (ae0 s hs b hb))
       exact⟨c1,c2,c3⟩
      ·have hu:(k',e)∈us:=by rw[<-nZ] at hu;exact hu
       rw[<-htl] at hu
       obtain⟨s,hs,hse⟩:=jX.1 hu
       simp only[kG] at hse
       obtain⟨rfl,rfl⟩:=hse
       have hsk:s.1∈lk:=ao9 _ (jX.2 ⟨s,hs,rfl⟩)
       have RE:=apa _ hsk
       rw[(gj _ RE).1,(gj _ RE).2,GM Tv hs]
       refine⟨hT1 s hs _ _ _ hnk (fun s' ky=>eV.wH H4 (by rw[<-hD];exact pA _ ky)),Sf htn hs,fun b hb=> ?_⟩
       obtain⟨c1,c2,c3,_⟩:=hC b (hCt b (oE _ (aat s hs b hb)))
       exact⟨c1,c2,c3⟩
     ·intro k' e b _ _ h3 he hb
      rw[lc] at h3
      exact P3 k' b (fun e=>h3 (oE _ e)) (fun e=>h3 (pA _ e)) (by rw[he];rfl) hb
     ·
      have hA:∀s∈D,∀k' b,k'≠(o.dst.getD 1000000,s.1)->(k'∈ct o r\/k'∈fM r\/(k'∉r.gH/\(σ.aU k').isSome))->b∈s.2.2.2->b∉D.zm (o.dst.getD 1000000) (RP tl fp) k':=by
       intro s hs k' b cO bp hb aI
       have hbD:=ae0 s hs b hb
       by_cases P8:k'∈ct o r
       ·obtain⟨s',ky,rfl⟩:=(fq k').1 P8
        rw[eV.uf H4 ky] at aI
        exact eV.rc aeT hs ky (fun e=>cO (by rw[e])) hb aI
       ·rw[(gj k' P8).2] at aI
        by_cases hku:k'∈tl.map (·.1)
        ·obtain⟨s',ky,rfl⟩:=jX.1 hku
         rw[GM Tv ky] at aI
         exact hDt b hbD (aat s' ky b aI)
        ·rw[Z6 hku] at aI
         have V0:k'∉r.gH/\(σ.aU k').isSome:=by
          rcases bp with bp|bp|bp
          ·exact absurd bp P8
          ·exact absurd (by rw[<-KH,<-fI];exact bp) hku
          ·exact bp
         rw[lc] at V0
         exact(hC b (hCD b hbD)).2.2.2 k' V0.2 (fun e=>V0.1 (pA _ e)) aI
      intro k1 k2 b cO h1 h2 hb
      by_cases h1a:k1∈ct o r
      ·obtain⟨s,hs,rfl⟩:=(fq k1).1 h1a
       rw[eV.uf H4 hs] at hb
       exact hA s hs k2 b (Ne.symm cO) h2 hb
      ·have h1u:k1∈tl.map (·.1):=by rw[<-KH,<-fI];exact h1.resolve_left h1a
       obtain⟨s1,hs1,rfl⟩:=jX.1 h1u
       by_cases h2a:k2∈ct o r
       ·obtain⟨s,hs,rfl⟩:=(fq k2).1 h2a
        intro aI
        rw[eV.uf H4 hs] at aI
        exact hA s hs s1.1 b cO (.inr (.inl (by rw[fI,KH];exact h1u))) aI hb
       ·rw[(gj _ h1a).2,GM Tv hs1] at hb
        rw[(gj _ h2a).2]
        by_cases h2u:k2∈tl.map (·.1)
        ·obtain⟨s2,hs2,rfl⟩:=jX.1 h2u
         rw[GM Tv hs2]
         exact OV htn hs1 hs2 (fun e=>cO (by rw[e])) hb
        ·rw[Z6 h2u]
         have h2l:k2∉r.gH/\(σ.aU k2).isSome:=by
          rcases h2 with h2|h2|h2
          ·exact absurd h2 h2a
          ·exact absurd (by rw[<-KH,<-fI];exact h2) h2u
          ·exact h2
         rw[lc] at h2l
         exact(hC b (hCt b (oE _ (aat s1 hs1 b hb)))).2.2.2 k2 h2l.2 (fun e=>h2l.1 (pA _ e))
     ·intro b hb
      rcases P2 b hb with h1|h1
      ·have:=aba b h1;omega
      ·exact h1.2.1
     ·intro b hb
      rcases P2 b hb with h1|h1
      ·rcases Ua b h1 with h2|⟨k',_,h2,h3⟩
       ·exact h.ny b h2
       ·exact .inr (wM h2 h3).2.1
      ·rcases h1.1 with g|g
       ·exact .inr (.inr (En h.upto.size g))
       ·obtain⟨u,hu,aI⟩:=E6 b g
        exact .inr (wM (pT u hu).1 aI).2.1
     ·refine h.upto.trans (kx.mono (fun b hb=> ?_))
      obtain⟨u,hu,hb⟩:=E6 b hb
      exact(wM (pT u hu).1 hb).2.1
   ·cases hr
  ·cases hr
 ·cases hr
end AM
