import Derived.Test.YtmcepppejchhkaaGreatDoorQAmStep
namespace AM
set_option linter.unusedVariables false
open Go
variable{U:lQ}{E:Env U}{pm:Pm}
variable{F F':Nat->Prop}{kv:Key->Value}{fp:Key->List Nat}{σ τ:ak U}{a:Act}{w w':World}{bad:Key->Bool}
section
variable{tb:rF U}{d d':List Key}(h:fU tb d=fU tb d')
include h
theorem aaF:ru tb d=ru tb d':=by
 funext x
 unfold ru
 rw[h]
theorem ad2:cellOf tb d=cellOf tb d':=by
 funext t x
 unfold cellOf
 have e:AY tb d=AY tb d':=by
  funext y
  unfold AY
  rw[h]
 rw[aaF h,e]
theorem amZ:cellsOf tb d=cellsOf tb d':=by
 funext ws xs
 induction xs generalizing ws with
 |nil=>rfl
 |cons x xs ih=>simp only[cellsOf,ad2 h,ih]
theorem ame:loadAt tb d=loadAt tb d':=by
 funext g n x
 unfold loadAt
 rw[h]
theorem ak3:storeAt tb d=storeAt tb d':=by
 funext x y
 unfold storeAt
 rw[h]
theorem ak7:vI E tb d=vI E tb d':=by
 funext t x l hh m
 unfold vI
 rw[aaF h]
theorem aaG:vt tb d=vt tb d':=by
 funext t x
 unfold vt
 rw[ad2 h,amZ h]
theorem am1:vp tb d=vp tb d':=by
 funext xs
 induction xs with
 |nil=>rfl
 |cons x xs ih=>simp only[vp,aaG h,ih]
theorem amR:BG tb d=BG tb d':=by
 funext ws xs
 induction xs generalizing ws with
 |nil=>rfl
 |cons x xs ih=>simp only[BG,aaG h,ih]
theorem amu:Fj E tb d=Fj E tb d':=by
 funext t ts p xs
 unfold Fj
 rw[amR h]
theorem anc:Md E tb d=Md E tb d':=by
 funext t x
 unfold Md
 rw[aaG h,am1 h]
theorem Vi:mG tb d=mG tb d':=by
 funext ws m x
 unfold mG
 rw[h]
theorem anf:vu E tb d=vu E tb d':=by
 funext ws m x
 unfold vu
 rw[anc h,Vi h]
theorem anb:n9 E tb d=n9 E tb d':=by
 funext ms ws xs
 induction ms generalizing ws xs with
 |nil=>cases xs<;>rfl
 |cons m ms ih=>
  cases xs with
  |nil=>rfl
  |cons x xs=>simp only[n9,anf h,ih]
theorem alL:mF tb d=mF tb d':=by
 funext nV ms
 induction ms with
 |nil=>funext ws xs ds;cases xs<;>cases ds<;>rfl
 |cons m ms ih=>
  funext ws xs ds
  cases xs with
  |nil=>cases m<;>rfl
  |cons x xs=>
   cases m with
   |ro=>simp only[mF];rw[ih]
   |wr=>simp only[mF];rw[Vi h,ih]
   |mv=>simp only[mF];rw[Vi h,ih]
   |box _=>simp only[mF];rw[Vi h,ih]
theorem amY:vo tb d=vo tb d':=by
 funext cs
 unfold vo
 have:FB tb d=FB tb d':=by
  funext x
  unfold FB
  rw[h]
 rw[this]
theorem am3:AT E tb d=AT E tb d':=by
 funext dst k ts xs
 unfold AT
 rw[anb h,alL h]
theorem amA{b:Bool}:AO E b tb d=AO E b tb d':=by
 funext o xs
 unfold AO
 rw[ame h,ak3 h,ak7 h,aaF h,am3 h,amY h,amu h,h]
end
theorem amb{o:Oper}:∀q∈Oper.looks o,q∈o.op.operands.toList:=by
 intro q hq
 unfold Oper.looks at hq
 split at hq
 ·rename_i ps ho;rw[ho];simpa[Op.operands] using hq
 ·rename_i ps ho;rw[ho];simpa[Op.operands] using hq
 ·rename_i c ho
  rw[ho]
  simp only[Op.operands,Call.operands]
  split at hq<;>rename_i hc<;>simp[hc] at hq⊢<;>first|exact hq|exact .inr hq|skip
 ·exact hq
theorem alB{q:Operand}(h:∀t,q=.tmp t->σ.get t=τ.get t):M_ σ q=M_ τ q:=by
 cases q with
 |tmp t=>exact h t rfl
 |const v=>rfl
 |global g=>rfl
 |func f=>rfl
theorem ak6{b:Bool}{o:Oper}{r:cq U}{ks:List Key}(hs:step E b σ o=some (r,ks))(hn:σ.n=τ.n)(hsl:∀t,.tmp t∈o.op.operands.toList->σ.get t=τ.get t)
  (SH:∀k∈ks,σ.bP k=τ.bP k) (IB:∀k∈ks,σ.aS.any (iZ k)=τ.aS.any (iZ k)):step E b τ o=some (r,ks):=by
 have sR:∀q∈o.op.operands.toList,M_ σ q=M_ τ q:=fun q hq=>alB (fun t ht=>hsl t (ht▸hq))
 unfold step at hs⊢
 have hd:rl σ o=rl τ o:=by unfold rl;rw[hn]
 rw[<-hd]
 rw[iw] at hs⊢
 split at hs
 ·rename_i hc
  rw[if_pos hc]
  split at hs
  ·rename_i c x y ho
   have h1:=sR c (by rw[ho];simp[Op.operands])
   have h2:=sR x (by rw[ho];simp[Op.operands])
   have h3:=sR y (by rw[ho];simp[Op.operands])
   unfold Ap at hs⊢
   rw[h1,h2,h3] at hs
   exact hs
  ·have hg:rO σ o=rO τ o:=by
    unfold rO
    congr 1
    exact Pb (fun q hq=>sR q (amb q hq))
   rw[<-hg]
   split at hs
   ·rename_i xs hxs
    split at hs
    ·rename_i r' hr
     cases hs
     have hre:pW τ o xs=pW σ o xs:=by
      unfold pW at SH⊢
      cases hvo:NY o
      rotate_left
      ·rfl
      rw[hvo] at SH
      simp only[cond_false] at SH⊢
      cases hsh:Ob o
      rotate_left
      ·rfl
      rw[hsh] at SH
      simp only[cond_false] at SH⊢
      unfold reach
      simp only
      congr 1
      have:∀k∈xs.flatMap SV.keys,ak.Ct τ k=ak.Ct σ k:=by
       intro k hk
       unfold ak.Ct
       rw[SH k (rW _ hk)]
      generalize xs.flatMap SV.keys=l at this
      rw[Pa,Pa,Pb this]
     have hrt:restrict τ.bP (pW σ o xs)=restrict σ.bP (pW σ o xs):=by
      funext k
      unfold restrict
      cases hk:(pW σ o xs).any (iZ k)
      ·rfl
      ·simp only[cond_true];exact(SH k (tf.1 hk)).symm
     have ix:fU (restrict σ.bP (pW σ o xs)) σ.aS=fU (restrict σ.bP (pW σ o xs)) τ.aS:=by
      funext k p
      unfold fU
      cases hk:(pW σ o xs).any (iZ k)
      ·simp[restrict,hk]
      ·rw[IB k (tf.1 hk)]
     simp only[hre,hrt]
     rw[<-amA ix,hr]
    ·cases hs
   ·cases hs
 ·cases hs
structure B5(σ τ:ak U):Prop where
 n:σ.n=τ.n
 get:∀s,σ.get s=τ.get s
 bP:∀k,σ.bP k=τ.bP k
 aS:∀k,σ.aS.any (iZ k)=τ.aS.any (iZ k)
theorem B5.refl(σ:ak U):B5 σ σ:=⟨rfl,fun _=>rfl,fun _=>rfl,fun _=>rfl⟩
theorem B5.symm(h:B5 σ τ):B5 τ σ:=⟨h.n.symm,fun s=>(h.get s).symm,fun s=>(h.bP s).symm,fun s=>(h.aS s).symm⟩
theorem B5.trans{ρ:ak U}(h:B5 σ τ)(h':B5 τ ρ):B5 σ ρ:=⟨h.n.trans h'.n,fun s=>(h.get s).trans (h'.get s),fun s=>(h.bP s).trans (h'.bP s),fun s=>(h.aS s).trans (h'.aS s)⟩
theorem B5.OO(h:B5 σ τ):bY σ=bY τ:=by
 funext k;unfold bY;rw[h.aS,h.bP]
theorem cR.congr(h:cR E pm F kv fp σ a w)(he:B5 σ τ):cR E pm F kv fp τ a w:=by
 refine⟨by rw[<-he.n];exact h.size,h.defers,fun s x hs=> ?_,fun k e hk=> ?_,fun k k' e e' b fc h1 h2=> ?_,fun k e hk=> ?_,fun k e b hk=> ?_,h.uI,h.uH,h.upto,by rw[<-he.n];exact h.Oe,h.lay⟩
 ·rw[<-he.OO];exact h.bG s x (by rw[he.get];exact hs)
 ·rw[<-he.OO];exact h.dD k e (by rw[he.bP];exact hk)
 ·exact h.apart k k' e e' b fc (by rw[he.bP];exact h1) (by rw[he.bP];exact h2)
 ·exact h.nodup k e (by rw[he.bP];exact hk)
 ·exact h.fT k e b (by rw[he.bP];exact hk)
def lays(o:Oper)(r:cq U):List (Key×Option (iX U)):=p8 (o.dst.getD 1000000) r.dZ++r.jW.map (fun(k,e)=>(k,some e))++r.lZ.map (fun k=>(k,none))
theorem M6(o:Oper)(r:cq U)(σ:ak U)(k:Key):(AM.apply o r σ).bP k=if(lays o r).any (fun p=>iZ p.1 k) then eY (lays o r) k else σ.bP k:=by
 show eY (lays o r++σ.o9) k=_
 rw[Gr]
 rfl
theorem aar{o:Oper}{r:cq U}{k:Key}:(lays o r).any (fun p=>iZ p.1 k)=true↔k∈r.writes (o.dst.getD 1000000):=by
 simp only[lays,p8,cq.writes,List.any_append,QW,Gc,vD,Function.comp,pX,jI,mz]
 constructor
 ·rintro((⟨x,h1,h2⟩|⟨x,h1,h2⟩)|⟨x,h1,h2⟩)
  ·exact .inl (.inl ⟨x,h1,h2⟩)
  ·exact .inr ⟨x,h1,h2⟩
  ·exact .inl (.inr (h2▸h1))
 ·rintro((⟨x,h1,h2⟩|h1)|⟨x,h1,h2⟩)
  ·exact .inl (.inl ⟨x,h1,h2⟩)
  ·exact .inr ⟨k,h1,rfl⟩
  ·exact .inl (.inr ⟨x,h1,h2⟩)
theorem Py(o:Oper)(r:cq U)(σ:ak U)(k:Key):(AM.apply o r σ).aS.any (iZ k)=((r.jW.map (·.1)).any (iZ k)||σ.aS.any (iZ k)):=by
 simp[AM.apply,List.any_append]
theorem B5.apply(h:B5 σ τ)(o:Oper)(r:cq U):B5 (AM.apply o r σ) (AM.apply o r τ):=by
 refine⟨h.n,fun s=> ?_,fun k=> ?_,fun k=> ?_⟩
 ·rw[H2,H2,h.get]
 ·rw[M6,M6,h.bP]
 ·rw[Py,Py,h.aS]
theorem anh{x y:Oper}{rx ry:cq U}(hd:∀d,x.dst=some d->y.dst≠some d)(hw:∀k∈rx.writes (x.dst.getD 1000000),k∉ry.writes (y.dst.getD 1000000)):
  B5 (AM.apply y ry (AM.apply x rx σ)) (AM.apply x rx (AM.apply y ry σ)):=by
 refine⟨rfl,fun s=> ?_,fun k=> ?_,fun k=> ?_⟩
 ·simp only[H2]
  cases hx:x.dst with
  |none=>rfl
  |some d=>cases hy:y.dst with
   |none=>rfl
   |some d'=>
    have fc:d'≠d:=fun e=>hd d hx (by rw[hy,e])
    by_cases h1:d=s
    ·subst h1;simp[fc]
    ·simp[h1]
 ·simp only[M6]
  by_cases h1:(lays x rx).any (fun p=>iZ p.1 k)=true
  ·have h2:¬(lays y ry).any (fun p=>iZ p.1 k)=true:=fun e=>hw k (aar.1 h1) (aar.1 e)
   simp[h1,h2]
  ·simp[h1]
 ·simp only[Py]
  rw[<-Bool.or_assoc,<-Bool.or_assoc,Bool.or_comm ((ry.jW.map (·.1)).any (iZ k))]
end AM
