/- THE ABSTRACT MACHINE: an operation hangs on what it looks at alone; operations that do not meet commute. -/
import Derived.Test.YtjlajhgabffmpaaGreatQAmStep
namespace AM
set_option linter.unusedVariables false
open Go
variable{U:lu}{E:Env U}{pm:Pm}
variable{F F':Nat->Prop}{kv:Key->Value}{fp:Key->List Nat}{σ τ:ai U}{a:Act}{w w':World}{bad:Key->Bool}
section
variable{tb:qW U}{d d':List Key}(h:fW tb d=fW tb d')
include h
theorem Z3:qN tb d=qN tb d':=by
 funext x
 unfold qN
 rw[h]
theorem adi:cellOf tb d=cellOf tb d':=by
 funext t x
 unfold cellOf
 have e:As tb d=As tb d':=by
  funext y
  unfold As
  rw[h]
 rw[Z3 h,e]
theorem alL:cellsOf tb d=cellsOf tb d':=by
 funext ws xs
 induction xs generalizing ws with
 |nil=>rfl
 |cons x xs ih=>simp only[cellsOf,adi h,ih]
theorem ak0:loadAt tb d=loadAt tb d':=by
 funext g n x
 unfold loadAt
 rw[h]
theorem ajP:storeAt tb d=storeAt tb d':=by
 funext x y
 unfold storeAt
 rw[h]
theorem ajT:vl E tb d=vl E tb d':=by
 funext t x l hh m
 unfold vl
 rw[Z3 h]
theorem Z4:uW tb d=uW tb d':=by
 funext t x
 unfold uW
 rw[adi h,alL h]
theorem alN:uT tb d=uT tb d':=by
 funext xs
 induction xs with
 |nil=>rfl
 |cons x xs ih=>simp only[uT,Z4 h,ih]
theorem alD:Bf tb d=Bf tb d':=by
 funext ws xs
 induction xs generalizing ws with
 |nil=>rfl
 |cons x xs ih=>simp only[Bf,Z4 h,ih]
theorem ale:ET E tb d=ET E tb d':=by
 funext t ts p xs
 unfold ET
 rw[alD h]
theorem al0:LU E tb d=LU E tb d':=by
 funext t x
 unfold LU
 rw[Z4 h,alN h]
theorem U7:mf tb d=mf tb d':=by
 funext ws m x
 unfold mf
 rw[h]
theorem al2:uX E tb d=uX E tb d':=by
 funext ws m x
 unfold uX
 rw[al0 h,U7 h]
theorem alZ:nK E tb d=nK E tb d':=by
 funext ms ws xs
 induction ms generalizing ws xs with
 |nil=>cases xs<;>rfl
 |cons m ms ih=>
  cases xs with
  |nil=>rfl
  |cons x xs=>simp only[nK,al2 h,ih]
theorem akv:me tb d=me tb d':=by
 funext nC ms
 induction ms with
 |nil=>funext ws xs ds;cases xs<;>cases ds<;>rfl
 |cons m ms ih=>
  funext ws xs ds
  cases xs with
  |nil=>cases m<;>rfl
  |cons x xs=>
   cases m with
   |ro=>simp only[me];rw[ih]
   |wr=>simp only[me];rw[U7 h,ih]
   |mv=>simp only[me];rw[U7 h,ih]
   |box _=>simp only[me];rw[U7 h,ih]
theorem alK:uS tb d=uS tb d':=by
 funext cs
 unfold uS
 have:E8 tb d=E8 tb d':=by
  funext x
  unfold E8
  rw[h]
 rw[this]
theorem alP:Ao E tb d=Ao E tb d':=by
 funext dst k ts xs
 unfold Ao
 rw[alZ h,akv h]
theorem alk{b:Bool}:Aj E b tb d=Aj E b tb d':=by
 funext o xs
 unfold Aj
 rw[ak0 h,ajP h,ajT h,Z3 h,alP h,alK h,ale h,h]
end
theorem akX{o:Oper}:∀q∈Oper.looks o,q∈o.op.operands.toList:=by
 intro q hq
 unfold Oper.looks at hq
 split at hq
 ·rename_i ps ho;rw[ho];simpa[Op.operands] using hq
 ·rename_i ps ho;rw[ho];simpa[Op.operands] using hq
 ·rename_i c ho
  rw[ho]
  simp only[Op.operands,Call.operands]
  split at hq<;>rename_i hc<;>simp[hc] at hq⊢<;>first|exact hq|exact .inr hq|skip
 ·exact hq
theorem akl{q:Operand}(h:∀t,q=.tmp t->σ.get t=τ.get t):MW σ q=MW τ q:=by
 cases q with
 |tmp t=>exact h t rfl
 |const v=>rfl
 |global g=>rfl
 |func f=>rfl
theorem ajS{b:Bool}{o:Oper}{r:cm U}{ks:List Key}(hs:step E b σ o=some (r,ks))(hn:σ.n=τ.n)(hsl:∀t,.tmp t∈o.op.operands.toList->σ.get t=τ.get t)
  (SC:∀k∈ks,σ.bM k=τ.bM k) (Ld:∀k∈ks,σ.aN.any (jb k)=τ.aN.any (jb k)):step E b τ o=some (r,ks):=by
 have sj:∀q∈o.op.operands.toList,MW σ q=MW τ q:=fun q hq=>akl (fun t ht=>hsl t (ht▸hq))
 unfold step at hs⊢
 have hd:qH σ o=qH τ o:=by unfold qH;rw[hn]
 rw[<-hd]
 rw[iu] at hs⊢
 split at hs
 ·rename_i hc
  rw[if_pos hc]
  split at hs
  ·rename_i c x y ho
   have h1:=sj c (by rw[ho];simp[Op.operands])
   have h2:=sj x (by rw[ho];simp[Op.operands])
   have h3:=sj y (by rw[ho];simp[Op.operands])
   unfold zK at hs⊢
   rw[h1,h2,h3] at hs
   exact hs
  ·have hg:rl σ o=rl τ o:=by
    unfold rl
    congr 1
    exact QK (fun q hq=>sj q (akX q hq))
   rw[<-hg]
   split at hs
   ·rename_i xs hxs
    split at hs
    ·rename_i r' hr
     cases hs
     have hre:pz τ o xs=pz σ o xs:=by
      unfold pz at SC⊢
      cases hvo:NR o
      rotate_left
      ·rfl
      rw[hvo] at SC
      simp only[cond_false] at SC⊢
      cases hsh:N5 o
      rotate_left
      ·rfl
      rw[hsh] at SC
      simp only[cond_false] at SC⊢
      unfold reach
      simp only
      congr 1
      have:∀k∈xs.flatMap SV.keys,ai.B4 τ k=ai.B4 σ k:=by
       intro k hk
       unfold ai.B4
       rw[SC k (sh _ hk)]
      generalize xs.flatMap SV.keys=l at this
      rw[O6,O6,QK this]
     have hrt:restrict τ.bM (pz σ o xs)=restrict σ.bM (pz σ o xs):=by
      funext k
      unfold restrict
      cases hk:(pz σ o xs).any (jb k)
      ·rfl
      ·simp only[cond_true];exact(SC k (sI.1 hk)).symm
     have iH:fW (restrict σ.bM (pz σ o xs)) σ.aN=fW (restrict σ.bM (pz σ o xs)) τ.aN:=by
      funext k p
      unfold fW
      cases hk:(pz σ o xs).any (jb k)
      ·simp[restrict,hk]
      ·rw[Ld k (sI.1 hk)]
     simp only[hre,hrt]
     rw[<-alk iH,hr]
    ·cases hs
   ·cases hs
 ·cases hs
structure BD(σ τ:ai U):Prop where
 n:σ.n=τ.n
 get:∀s,σ.get s=τ.get s
 bM:∀k,σ.bM k=τ.bM k
 aN:∀k,σ.aN.any (jb k)=τ.aN.any (jb k)
theorem BD.refl(σ:ai U):BD σ σ:=⟨rfl,fun _=>rfl,fun _=>rfl,fun _=>rfl⟩
theorem BD.symm(h:BD σ τ):BD τ σ:=⟨h.n.symm,fun s=>(h.get s).symm,fun s=>(h.bM s).symm,fun s=>(h.aN s).symm⟩
theorem BD.trans{ρ:ai U}(h:BD σ τ)(h':BD τ ρ):BD σ ρ:=⟨h.n.trans h'.n,fun s=>(h.get s).trans (h'.get s),fun s=>(h.bM s).trans (h'.bM s),fun s=>(h.aN s).trans (h'.aN s)⟩
theorem BD.OI(h:BD σ τ):bR σ=bR τ:=by
 funext k;unfold bR;rw[h.aN,h.bM]
theorem cQ.congr(h:cQ E pm F kv fp σ a w)(he:BD σ τ):cQ E pm F kv fp τ a w:=by
 refine⟨by rw[<-he.n];exact h.size,h.defers,fun s x hs=> ?_,fun k e hk=> ?_,fun k k' e e' b fg h1 h2=> ?_,fun k e hk=> ?_,fun k e b hk=> ?_,h.uc,h.ub,h.upto,by rw[<-he.n];exact h.N8,h.lay⟩
 ·rw[<-he.OI];exact h.bI s x (by rw[he.get];exact hs)
 ·rw[<-he.OI];exact h.dV k e (by rw[he.bM];exact hk)
 ·exact h.apart k k' e e' b fg (by rw[he.bM];exact h1) (by rw[he.bM];exact h2)
 ·exact h.nodup k e (by rw[he.bM];exact hk)
 ·exact h.fV k e b (by rw[he.bM];exact hk)
def lays(o:Oper)(r:cm U):List (Key×Option (i_ U)):=pE (o.dst.getD 1000000) r.eo++r.jY.map (fun(k,e)=>(k,some e))++r.lD.map (fun k=>(k,none))
theorem MQ(o:Oper)(r:cm U)(σ:ai U)(k:Key):(AM.apply o r σ).bM k=if(lays o r).any (fun p=>jb p.1 k) then eZ (lays o r) k else σ.bM k:=by
 show eZ (lays o r++σ.oy) k=_
 rw[F4]
 rfl
theorem ZP{o:Oper}{r:cm U}{k:Key}:(lays o r).any (fun p=>jb p.1 k)=true↔k∈r.writes (o.dst.getD 1000000):=by
 simp only[lays,pE,cm.writes,List.any_append,QW,FL,vg,Function.comp,pA,jO,l_]
 constructor
 ·rintro((⟨x,h1,h2⟩|⟨x,h1,h2⟩)|⟨x,h1,h2⟩)
  ·exact .inl (.inl ⟨x,h1,h2⟩)
  ·exact .inr ⟨x,h1,h2⟩
  ·exact .inl (.inr (h2▸h1))
 ·rintro((⟨x,h1,h2⟩|h1)|⟨x,h1,h2⟩)
  ·exact .inl (.inl ⟨x,h1,h2⟩)
  ·exact .inr ⟨k,h1,rfl⟩
  ·exact .inl (.inr ⟨x,h1,h2⟩)
theorem Ps(o:Oper)(r:cm U)(σ:ai U)(k:Key):(AM.apply o r σ).aN.any (jb k)=((r.jY.map (·.1)).any (jb k)||σ.aN.any (jb k)):=by
 simp[AM.apply,List.any_append]
theorem BD.apply(h:BD σ τ)(o:Oper)(r:cm U):BD (AM.apply o r σ) (AM.apply o r τ):=by
 refine⟨h.n,fun s=> ?_,fun k=> ?_,fun k=> ?_⟩
 ·rw[HF,HF,h.get]
 ·rw[MQ,MQ,h.bM]
 ·rw[Ps,Ps,h.aN]
theorem al4{x y:Oper}{rx ry:cm U}(hd:∀d,x.dst=some d->y.dst≠some d)(hw:∀k∈rx.writes (x.dst.getD 1000000),k∉ry.writes (y.dst.getD 1000000)):
  BD (AM.apply y ry (AM.apply x rx σ)) (AM.apply x rx (AM.apply y ry σ)):=by
 refine⟨rfl,fun s=> ?_,fun k=> ?_,fun k=> ?_⟩
 ·simp only[HF]
  cases hx:x.dst with
  |none=>rfl
  |some d=>cases hy:y.dst with
   |none=>rfl
   |some d'=>
    have fg:d'≠d:=fun e=>hd d hx (by rw[hy,e])
    by_cases h1:d=s
    ·subst h1;simp[fg]
    ·simp[h1]
 ·simp only[MQ]
  by_cases h1:(lays x rx).any (fun p=>jb p.1 k)=true
  ·have h2:¬(lays y ry).any (fun p=>jb p.1 k)=true:=fun e=>hw k (ZP.1 h1) (ZP.1 e)
   simp[h1,h2]
  ·simp[h1]
 ·simp only[Ps]
  rw[<-Bool.or_assoc,<-Bool.or_assoc,Bool.or_comm ((ry.jY.map (·.1)).any (jb k))]
end AM
