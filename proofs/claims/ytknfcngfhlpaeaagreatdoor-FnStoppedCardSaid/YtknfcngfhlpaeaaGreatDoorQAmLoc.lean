import Derived.Test.YtknfcngfhlpaeaaGreatDoorQAmStep
namespace AM
set_option linter.unusedVariables false
open Go
variable{U:kz}{E:Env U}{pm:Pm}
variable{F F':Nat->Prop}{kv:Key->Value}{fp:Key->List Nat}{σ τ:ak U}{a:Act}{w w':World}{bad:Key->Bool}
section
variable{tb:pL U}{d d':List Key}(h:fm tb d=fm tb d')
include h
theorem W3:pE tb d=pE tb d':=by
 funext x
 unfold pE
 rw[h]
theorem abf:cellOf tb d=cellOf tb d':=by
 funext t x
 unfold cellOf
 have e:y3 tb d=y3 tb d':=by
  funext y
  unfold y3
  rw[h]
 rw[W3 h,e]
theorem aju:cellsOf tb d=cellsOf tb d':=by
 funext ws xs
 induction xs generalizing ws with
 |nil=>rfl
 |cons x xs ih=>simp only[cellsOf,abf h,ih]
theorem aiL:loadAt tb d=loadAt tb d':=by
 funext g n x
 unfold loadAt
 rw[h]
theorem ahz:storeAt tb d=storeAt tb d':=by
 funext x y
 unfold storeAt
 rw[h]
theorem ahD:tM E tb d=tM E tb d':=by
 funext t x l hh m
 unfold tM
 rw[W3 h]
theorem W4:tC tb d=tC tb d':=by
 funext t x
 unfold tC
 rw[abf h,aju h]
theorem ajw:tz tb d=tz tb d':=by
 funext xs
 induction xs with
 |nil=>rfl
 |cons x xs ih=>simp only[tz,W4 h,ih]
theorem ajm:zC tb d=zC tb d':=by
 funext ws xs
 induction xs generalizing ws with
 |nil=>rfl
 |cons x xs ih=>simp only[zC,W4 h,ih]
theorem ai1:Dd E tb d=Dd E tb d':=by
 funext t ts p xs
 unfold Dd
 rw[ajm h]
theorem ajJ:Jd E tb d=Jd E tb d':=by
 funext t x
 unfold Jd
 rw[W4 h,ajw h]
theorem RB:k8 tb d=k8 tb d':=by
 funext ws m x
 unfold k8
 rw[h]
theorem ajL:tD E tb d=tD E tb d':=by
 funext ws m x
 unfold tD
 rw[ajJ h,RB h]
theorem ajI:mL E tb d=mL E tb d':=by
 funext ms ws xs
 induction ms generalizing ws xs with
 |nil=>cases xs<;>rfl
 |cons m ms ih=>
  cases xs with
  |nil=>rfl
  |cons x xs=>simp only[mL,ajL h,ih]
theorem aif:kZ tb d=kZ tb d':=by
 funext mB ms
 induction ms with
 |nil=>funext ws xs ds;cases xs<;>cases ds<;>rfl
 |cons m ms ih=>
  funext ws xs ds
  cases xs with
  |nil=>cases m<;>rfl
  |cons x xs=>
   cases m with
   |ro=>simp only[kZ];rw[ih]
   |wr=>simp only[kZ];rw[RB h,ih]
   |mv=>simp only[kZ];rw[RB h,ih]
   |box _=>simp only[kZ];rw[RB h,ih]
theorem ajt:tx tb d=tx tb d':=by
 funext cs
 unfold tx
 have:Dq tb d=Dq tb d':=by
  funext x
  unfold Dq
  rw[h]
 rw[this]
theorem ajy:yY E tb d=yY E tb d':=by
 funext dst k ts xs
 unfold yY
 rw[ajI h,aif h]
theorem ai7{b:Bool}:yU E b tb d=yU E b tb d':=by
 funext o xs
 unfold yU
 rw[aiL h,ahz h,ahD h,W3 h,ajy h,ajt h,ai1 h,h]
end
theorem aiI{o:Oper}:∀q∈Oper.looks o,q∈o.op.operands.toList:=by
 intro q hq
 unfold Oper.looks at hq
 split at hq
 ·rename_i ps ho;rw[ho];simpa[Op.operands] using hq
 ·rename_i ps ho;rw[ho];simpa[Op.operands] using hq
 ·rename_i c ho
  rw[ho]
  simp only[Op.operands,Call.operands]
  split at hq<;>rename_i hc<;>simp[hc] at hq⊢<;>first|exact hq|exact .inr hq|skip
 ·exact hq
theorem ah7{q:Operand}(h:∀t,q=.tmp t->σ.get t=τ.get t):J8 σ q=J8 τ q:=by
 cases q with
 |tmp t=>exact h t rfl
 |const v=>rfl
 |global g=>rfl
 |func f=>rfl
theorem ahC{b:Bool}{o:Oper}{r:bX U}{ks:List Key}(hs:step E b σ o=some (r,ks))(hn:σ.n=τ.n)(hsl:∀t,.tmp t∈o.op.operands.toList->σ.get t=τ.get t)
  (Pn:∀k∈ks,σ.bH k=τ.bH k) (Gk:∀k∈ks,σ.aR.any (ik k)=τ.aR.any (ik k)):step E b τ o=some (r,ks):=by
 have qB:∀q∈o.op.operands.toList,J8 σ q=J8 τ q:=fun q hq=>ah7 (fun t ht=>hsl t (ht▸hq))
 unfold step at hs⊢
 have hd:pB σ o=pB τ o:=by unfold pB;rw[hn]
 rw[<-hd]
 rw[gI] at hs⊢
 split at hs
 ·rename_i hc
  rw[if_pos hc]
  split at hs
  ·rename_i c x y ho
   have h1:=qB c (by rw[ho];simp[Op.operands])
   have h2:=qB x (by rw[ho];simp[Op.operands])
   have h3:=qB y (by rw[ho];simp[Op.operands])
   unfold yo at hs⊢
   rw[h1,h2,h3] at hs
   exact hs
  ·have hg:pX σ o=pX τ o:=by
    unfold pX
    congr 1
    exact LW (fun q hq=>qB q (aiI q hq))
   rw[<-hg]
   split at hs
   ·rename_i xs hxs
    split at hs
    ·rename_i r' hr
     cases hs
     have hre:oe τ o xs=oe σ o xs:=by
      unfold oe at Pn⊢
      cases hvo:KT o
      rotate_left
      ·rfl
      rw[hvo] at Pn
      simp only[cond_false] at Pn⊢
      cases hsh:Lc o
      rotate_left
      ·rfl
      rw[hsh] at Pn
      simp only[cond_false] at Pn⊢
      unfold reach
      simp only
      congr 1
      have:∀k∈xs.flatMap SV.keys,ak.Aw τ k=ak.Aw σ k:=by
       intro k hk
       unfold ak.Aw
       rw[Pn k (pP _ hk)]
      generalize xs.flatMap SV.keys=l at this
      rw[LV,LV,LW this]
     have hrt:restrict τ.bH (oe σ o xs)=restrict σ.bH (oe σ o xs):=by
      funext k
      unfold restrict
      cases hk:(oe σ o xs).any (ik k)
      ·rfl
      ·simp only[cond_true];exact(Pn k (q_.1 hk)).symm
     have gB:fm (restrict σ.bH (oe σ o xs)) σ.aR=fm (restrict σ.bH (oe σ o xs)) τ.aR:=by
      funext k p
      unfold fm
      cases hk:(oe σ o xs).any (ik k)
      ·simp[restrict,hk]
      ·rw[Gk k (q_.1 hk)]
     simp only[hre,hrt]
     rw[<-ai7 gB,hr]
    ·cases hs
   ·cases hs
 ·cases hs
structure z_(σ τ:ak U):Prop where
 n:σ.n=τ.n
 get:∀s,σ.get s=τ.get s
 bH:∀k,σ.bH k=τ.bH k
 aR:∀k,σ.aR.any (ik k)=τ.aR.any (ik k)
theorem z_.refl(σ:ak U):z_ σ σ:=⟨rfl,fun _=>rfl,fun _=>rfl,fun _=>rfl⟩
theorem z_.symm(h:z_ σ τ):z_ τ σ:=⟨h.n.symm,fun s=>(h.get s).symm,fun s=>(h.bH s).symm,fun s=>(h.aR s).symm⟩
theorem z_.trans{ρ:ak U}(h:z_ σ τ)(h':z_ τ ρ):z_ σ ρ:=⟨h.n.trans h'.n,fun s=>(h.get s).trans (h'.get s),fun s=>(h.bH s).trans (h'.bH s),fun s=>(h.aR s).trans (h'.aR s)⟩
theorem z_.LJ(h:z_ σ τ):bR σ=bR τ:=by
 funext k;unfold bR;rw[h.aR,h.bH]
theorem cG.congr(h:cG E pm F kv fp σ a w)(he:z_ σ τ):cG E pm F kv fp τ a w:=by
 refine⟨by rw[<-he.n];exact h.size,h.defers,fun s x hs=> ?_,fun k e hk=> ?_,fun k k' e e' b d_ h1 h2=> ?_,fun k e hk=> ?_,fun k e b hk=> ?_,h.sO,h.sN,h.upto,by rw[<-he.n];exact h.Lg,h.lay⟩
 ·rw[<-he.LJ];exact h.bx s x (by rw[he.get];exact hs)
 ·rw[<-he.LJ];exact h.cW k e (by rw[he.bH];exact hk)
 ·exact h.apart k k' e e' b d_ (by rw[he.bH];exact h1) (by rw[he.bH];exact h2)
 ·exact h.nodup k e (by rw[he.bH];exact hk)
 ·exact h.fj k e b (by rw[he.bH];exact hk)
def lays(o:Oper)(r:bX U):List (Key×Option (ie U)):=ol (o.dst.getD 1000000) r.dk++r.jh.map (fun(k,e)=>(k,some e))++r.kE.map (fun k=>(k,none))
theorem J3(o:Oper)(r:bX U)(σ:ak U)(k:Key):(AM.apply o r σ).bH k=if(lays o r).any (fun p=>ik p.1 k) then dW (lays o r) k else σ.bH k:=by
 show dW (lays o r++σ.nG) k=_
 rw[D7]
 rfl
theorem WO{o:Oper}{r:bX U}{k:Key}:(lays o r).any (fun p=>ik p.1 k)=true↔k∈r.writes (o.dst.getD 1000000):=by
 simp only[lays,ol,bX.writes,List.any_append,Nx,DW,tI,Function.comp,og,jE,kW]
 constructor
 ·rintro((⟨x,h1,h2⟩|⟨x,h1,h2⟩)|⟨x,h1,h2⟩)
  ·exact .inl (.inl ⟨x,h1,h2⟩)
  ·exact .inr ⟨x,h1,h2⟩
  ·exact .inl (.inr (h2▸h1))
 ·rintro((⟨x,h1,h2⟩|h1)|⟨x,h1,h2⟩)
  ·exact .inl (.inl ⟨x,h1,h2⟩)
  ·exact .inr ⟨k,h1,rfl⟩
  ·exact .inl (.inr ⟨x,h1,h2⟩)
theorem Mh(o:Oper)(r:bX U)(σ:ak U)(k:Key):(AM.apply o r σ).aR.any (ik k)=((r.jh.map (·.1)).any (ik k)||σ.aR.any (ik k)):=by
 simp[AM.apply,List.any_append]
theorem z_.apply(h:z_ σ τ)(o:Oper)(r:bX U):z_ (AM.apply o r σ) (AM.apply o r τ):=by
 refine⟨h.n,fun s=> ?_,fun k=> ?_,fun k=> ?_⟩
 ·rw[FI,FI,h.get]
 ·rw[J3,J3,h.bH]
 ·rw[Mh,Mh,h.aR]
theorem ajN{x y:Oper}{rx ry:bX U}(hd:∀d,x.dst=some d->y.dst≠some d)(hw:∀k∈rx.writes (x.dst.getD 1000000),k∉ry.writes (y.dst.getD 1000000)):
  z_ (AM.apply y ry (AM.apply x rx σ)) (AM.apply x rx (AM.apply y ry σ)):=by
 refine⟨rfl,fun s=> ?_,fun k=> ?_,fun k=> ?_⟩
 ·simp only[FI]
  cases hx:x.dst with
  |none=>rfl
  |some d=>cases hy:y.dst with
   |none=>rfl
   |some d'=>
    have d_:d'≠d:=fun e=>hd d hx (by rw[hy,e])
    by_cases h1:d=s
    ·subst h1;simp[d_]
    ·simp[h1]
 ·simp only[J3]
  by_cases h1:(lays x rx).any (fun p=>ik p.1 k)=true
  ·have h2:¬(lays y ry).any (fun p=>ik p.1 k)=true:=fun e=>hw k (WO.1 h1) (WO.1 e)
   simp[h1,h2]
  ·simp[h1]
 ·simp only[Mh]
  rw[<-Bool.or_assoc,<-Bool.or_assoc,Bool.or_comm ((ry.jh.map (·.1)).any (ik k))]
end AM
