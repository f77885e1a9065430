/- THE ABSTRACT MACHINE: an operation hangs on what it looks at alone; operations that do not meet commute. -/
import Derived.Test.YtlachfpabecaeaaQAmStep
namespace AM
set_option linter.unusedVariables false
open Go
variable{U:dh}{E:Env U}{pm:Pm}
variable{F F':Nat->Prop}{kv:Key->Value}{fp:Key->List Nat}{σ τ:aa U}{a:Act}{w w':World}{bad:Key->Bool}
section
variable{tb:fw U}{d d':List Key}(h:bE tb d=bE tb d')
include h
theorem y_:eN tb d=eN tb d':=by
 funext x
 unfold eN
 rw[h]
theorem DY:cellOf tb d=cellOf tb d':=by
 funext t x
 unfold cellOf
 have e:kP tb d=kP tb d':=by
  funext y
  unfold kP
  rw[h]
 rw[y_ h,e]
theorem Jr:cellsOf tb d=cellsOf tb d':=by
 funext ws xs
 induction xs generalizing ws with
 |nil=>rfl
 |cons x xs ih=>simp only[cellsOf,DY h,ih]
theorem IH:loadAt tb d=loadAt tb d':=by
 funext g n x
 unfold loadAt
 rw[h]
theorem Hr:storeAt tb d=storeAt tb d':=by
 funext x y
 unfold storeAt
 rw[h]
theorem Hv:iD E tb d=iD E tb d':=by
 funext t x l hh m
 unfold iD
 rw[y_ h]
theorem za:ix tb d=ix tb d':=by
 funext t x
 unfold ix
 rw[DY h,Jr h]
theorem Jt:iu tb d=iu tb d':=by
 funext xs
 induction xs with
 |nil=>rfl
 |cons x xs ih=>simp only[iu,za h,ih]
theorem Jj:kZ tb d=kZ tb d':=by
 funext ws xs
 induction xs generalizing ws with
 |nil=>rfl
 |cons x xs ih=>simp only[kZ,za h,ih]
theorem IY:mr E tb d=mr E tb d':=by
 funext t ts p xs
 unfold mr
 rw[Jj h]
theorem JG:qe E tb d=qe E tb d':=by
 funext t x
 unfold qe
 rw[za h,Jt h]
theorem wa:dG tb d=dG tb d':=by
 funext ws m x
 unfold dG
 rw[h]
theorem JI:iy E tb d=iy E tb d':=by
 funext ws m x
 unfold iy
 rw[JG h,wa h]
theorem JF:ew E tb d=ew E tb d':=by
 funext ms ws xs
 induction ms generalizing ws xs with
 |nil=>cases xs<;>rfl
 |cons m ms ih=>
  cases xs with
  |nil=>rfl
  |cons x xs=>simp only[ew,JI h,ih]
theorem H_:dE tb d=dE tb d':=by
 funext er ms
 induction ms with
 |nil=>funext ws xs ds;cases xs<;>cases ds<;>rfl
 |cons m ms ih=>
  funext ws xs ds
  cases xs with
  |nil=>cases m<;>rfl
  |cons x xs=>
   cases m with
   |ro=>simp only[dE];rw[ih]
   |wr=>simp only[dE];rw[wa h,ih]
   |mv=>simp only[dE];rw[wa h,ih]
   |box _=>simp only[dE];rw[wa h,ih]
theorem Jq:ir tb d=ir tb d':=by
 funext cs
 unfold ir
 have:mE tb d=mE tb d':=by
  funext x
  unfold mE
  rw[h]
 rw[this]
theorem Jv:kN E tb d=kN E tb d':=by
 funext dst k ts xs
 unfold kN
 rw[JF h,H_ h]
theorem I4{b:Bool}:kL E b tb d=kL E b tb d':=by
 funext o xs
 unfold kL
 rw[IH h,Hr h,Hv h,y_ h,Jv h,Jq h,IY h,h]
end
theorem IE{o:Oper}:∀q∈Oper.looks o,q∈o.op.operands.toList:=by
 intro q hq
 unfold Oper.looks at hq
 split at hq
 ·rename_i ps ho;rw[ho];simpa[Op.operands] using hq
 ·rename_i ps ho;rw[ho];simpa[Op.operands] using hq
 ·rename_i c ho
  rw[ho]
  simp only[Op.operands,Call.operands]
  split at hq<;>rename_i hc<;>simp[hc] at hq⊢<;>first|exact hq|exact .inr hq|skip
 ·exact hq
theorem H0{q:Operand}(h:∀t,q=.tmp t->σ.get t=τ.get t):qF σ q=qF τ q:=by
 cases q with
 |tmp t=>exact h t rfl
 |const v=>rfl
 |global g=>rfl
 |func f=>rfl
theorem Hu{b:Bool}{o:Oper}{r:aw U}{ks:List Key}(hs:step E b σ o=some (r,ks))(hn:σ.n=τ.n)(Ex:∀t,.tmp t∈o.op.operands.toList->σ.get t=τ.get t)
  (uI:∀k∈ks,σ.aq k=τ.aq k) (sU:∀k∈ks,σ.ag.any (cn k)=τ.ag.any (cn k)):step E b τ o=some (r,ks):=by
 have fV:∀q∈o.op.operands.toList,qF σ q=qF τ q:=fun q hq=>H0 (fun t ht=>Ex t (ht▸hq))
 unfold step at hs⊢
 have hd:fF σ o=fF τ o:=by unfold fF;rw[hn]
 rw[<-hd]
 rw[bY] at hs⊢
 split at hs
 ·rename_i hc
  rw[if_pos hc]
  split at hs
  ·rename_i c x y ho
   have h1:=fV c (by rw[ho];simp[Op.operands])
   have h2:=fV x (by rw[ho];simp[Op.operands])
   have h3:=fV y (by rw[ho];simp[Op.operands])
   unfold kw at hs⊢
   rw[h1,h2,h3] at hs
   exact hs
  ·have hg:fQ σ o=fQ τ o:=by
    unfold fQ
    congr 1
    exact th (fun q hq=>fV q (IE q hq))
   rw[<-hg]
   split at hs
   ·rename_i xs JU
    split at hs
    ·rename_i r' hr
     cases hs
     have Px:fa τ o xs=fa σ o xs:=by
      unfold fa at uI⊢
      cases Pq:rk o
      rotate_left
      ·rfl
      rw[Pq] at uI
      simp only[cond_false] at uI⊢
      cases J7:rz o
      rotate_left
      ·rfl
      rw[J7] at uI
      simp only[cond_false] at uI⊢
      unfold reach
      simp only
      congr 1
      have:∀k∈xs.flatMap SV.keys,aa.lJ τ k=aa.lJ σ k:=by
       intro k hk
       unfold aa.lJ
       rw[uI k (fy _ hk)]
      generalize xs.flatMap SV.keys=l at this
      rw[r_,r_,th this]
     have J':restrict τ.aq (fa σ o xs)=restrict σ.aq (fa σ o xs):=by
      funext k
      unfold restrict
      cases hk:(fa σ o xs).any (cn k)
      ·rfl
      ·simp only[cond_true];exact(uI k (gr.1 hk)).symm
     have cp:bE (restrict σ.aq (fa σ o xs)) σ.ag=bE (restrict σ.aq (fa σ o xs)) τ.ag:=by
      funext k p
      unfold bE
      cases hk:(fa σ o xs).any (cn k)
      ·simp[restrict,hk]
      ·rw[sU k (gr.1 hk)]
     simp only[Px,J']
     rw[<-I4 cp,hr]
    ·cases hs
   ·cases hs
 ·cases hs
structure lm(σ τ:aa U):Prop where
 n:σ.n=τ.n
 get:∀s,σ.get s=τ.get s
 aq:∀k,σ.aq k=τ.aq k
 ag:∀k,σ.ag.any (cn k)=τ.ag.any (cn k)
theorem lm.refl(σ:aa U):lm σ σ:=⟨rfl,fun _=>rfl,fun _=>rfl,fun _=>rfl⟩
theorem lm.symm(h:lm σ τ):lm τ σ:=⟨h.n.symm,fun s=>(h.get s).symm,fun s=>(h.aq s).symm,fun s=>(h.ag s).symm⟩
theorem lm.trans{ρ:aa U}(h:lm σ τ)(h':lm τ ρ):lm σ ρ:=⟨h.n.trans h'.n,fun s=>(h.get s).trans (h'.get s),fun s=>(h.aq s).trans (h'.aq s),fun s=>(h.ag s).trans (h'.ag s)⟩
theorem lm.rV(h:lm σ τ):av σ=av τ:=by
 funext k;unfold av;rw[h.ag,h.aq]
theorem aC.congr(h:aC E pm F kv fp σ a w)(he:lm σ τ):aC E pm F kv fp τ a w:=by
 refine⟨by rw[<-he.n];exact h.size,h.defers,fun s x hs=> ?_,fun k e hk=> ?_,fun k k' e e' b a_ h1 h2=> ?_,fun k e hk=> ?_,fun k e b hk=> ?_,h.hJ,h.hH,h.upto,by rw[<-he.n];exact h.rA,h.lay⟩
 ·rw[<-he.rV];exact h.ap s x (by rw[he.get];exact hs)
 ·rw[<-he.rV];exact h.aJ k e (by rw[he.aq];exact hk)
 ·exact h.apart k k' e e' b a_ (by rw[he.aq];exact h1) (by rw[he.aq];exact h2)
 ·exact h.nodup k e (by rw[he.aq];exact hk)
 ·exact h.bC k e b (by rw[he.aq];exact hk)
def lays(o:Oper)(r:aw U):List (Key×Option (b9 U)):=fe (o.dst.getD 1000000) r.aQ++r.cF.map (fun(k,e)=>(k,some e))++r.dn.map (fun k=>(k,none))
theorem qC(o:Oper)(r:aw U)(σ:aa U)(k:Key):(AM.apply o r σ).aq k=if(lays o r).any (fun p=>cn p.1 k) then a9 (lays o r) k else σ.aq k:=by
 show a9 (lays o r++σ.tab) k=_
 rw[mT]
 rfl
theorem yS{o:Oper}{r:aw U}{k:Key}:(lays o r).any (fun p=>cn p.1 k)=true↔k∈r.writes (o.dst.getD 1000000):=by
 simp only[lays,fe,aw.writes,List.any_append,tc,qo,jg,Function.comp,fb,cZ,ez]
 constructor
 ·rintro((⟨x,h1,h2⟩|⟨x,h1,h2⟩)|⟨x,h1,h2⟩)
  ·exact .inl (.inl ⟨x,h1,h2⟩)
  ·exact .inr ⟨x,h1,h2⟩
  ·exact .inl (.inr (h2▸h1))
 ·rintro((⟨x,h1,h2⟩|h1)|⟨x,h1,h2⟩)
  ·exact .inl (.inl ⟨x,h1,h2⟩)
  ·exact .inr ⟨k,h1,rfl⟩
  ·exact .inl (.inr ⟨x,h1,h2⟩)
theorem si(o:Oper)(r:aw U)(σ:aa U)(k:Key):(AM.apply o r σ).ag.any (cn k)=((r.cF.map (·.1)).any (cn k)||σ.ag.any (cn k)):=by
 simp[AM.apply,List.any_append]
theorem lm.apply(h:lm σ τ)(o:Oper)(r:aw U):lm (AM.apply o r σ) (AM.apply o r τ):=by
 refine⟨h.n,fun s=> ?_,fun k=> ?_,fun k=> ?_⟩
 ·rw[nS,nS,h.get]
 ·rw[qC,qC,h.aq]
 ·rw[si,si,h.ag]
theorem JK{x y:Oper}{rx ry:aw U}(hd:∀d,x.dst=some d->y.dst≠some d)(hw:∀k∈rx.writes (x.dst.getD 1000000),k∉ry.writes (y.dst.getD 1000000)):
  lm (AM.apply y ry (AM.apply x rx σ)) (AM.apply x rx (AM.apply y ry σ)):=by
 refine⟨rfl,fun s=> ?_,fun k=> ?_,fun k=> ?_⟩
 ·simp only[nS]
  cases hx:x.dst with
  |none=>rfl
  |some d=>cases hy:y.dst with
   |none=>rfl
   |some d'=>
    have a_:d'≠d:=fun e=>hd d hx (by rw[hy,e])
    by_cases h1:d=s
    ·subst h1;simp[a_]
    ·simp[h1]
 ·simp only[qC]
  by_cases h1:(lays x rx).any (fun p=>cn p.1 k)=true
  ·have h2:¬(lays y ry).any (fun p=>cn p.1 k)=true:=fun e=>hw k (yS.1 h1) (yS.1 e)
   simp[h1,h2]
  ·simp[h1]
 ·simp only[si]
  rw[<-Bool.or_assoc,<-Bool.or_assoc,Bool.or_comm ((ry.cF.map (·.1)).any (cn k))]
end AM
