/- THE ABSTRACT MACHINE: an operation hangs on what it looks at alone; operations that do not meet commute. -/
import Derived.Test.YtpkdgcookaobfaaGreatDoorQAmStep
namespace AM
set_option linter.unusedVariables false
open Go
variable{U:lz}{E:Env U}{pm:Pm}
variable{F F':Nat->Prop}{kv:Key->Value}{fp:Key->List Nat}{σ τ:ak U}{a:Act}{w w':World}{bad:Key->Bool}
section
variable{tb:rl U}{d d':List Key}(h:fR tb d=fR tb d')
include h
theorem aal:rb tb d=rb tb d':=by
 funext x
 unfold rb
 rw[h]
theorem adI:cellOf tb d=cellOf tb d':=by
 funext t x
 unfold cellOf
 have e:Aw tb d=Aw tb d':=by
  funext y
  unfold Aw
  rw[h]
 rw[aal h,e]
theorem amy:cellsOf tb d=cellsOf tb d':=by
 funext ws xs
 induction xs generalizing ws with
 |nil=>rfl
 |cons x xs ih=>simp only[cellsOf,adI h,ih]
theorem alP:loadAt tb d=loadAt tb d':=by
 funext g n x
 unfold loadAt
 rw[h]
theorem akC:storeAt tb d=storeAt tb d':=by
 funext x y
 unfold storeAt
 rw[h]
theorem akG:vq E tb d=vq E tb d':=by
 funext t x l hh m
 unfold vq
 rw[aal h]
theorem aam:u9 tb d=u9 tb d':=by
 funext t x
 unfold u9
 rw[adI h,amy h]
theorem amA:u5 tb d=u5 tb d':=by
 funext xs
 induction xs with
 |nil=>rfl
 |cons x xs ih=>simp only[u5,aam h,ih]
theorem amq:Bn tb d=Bn tb d':=by
 funext ws xs
 induction xs generalizing ws with
 |nil=>rfl
 |cons x xs ih=>simp only[Bn,aam h,ih]
theorem al5:EU E tb d=EU E tb d':=by
 funext t ts p xs
 unfold EU
 rw[amq h]
theorem amN:LS E tb d=LS E tb d':=by
 funext t x
 unfold LS
 rw[aam h,amA h]
theorem U':mo tb d=mo tb d':=by
 funext ws m x
 unfold mo
 rw[h]
theorem amP:u_ E tb d=u_ E tb d':=by
 funext ws m x
 unfold u_
 rw[amN h,U' h]
theorem amM:nQ E tb d=nQ E tb d':=by
 funext ms ws xs
 induction ms generalizing ws xs with
 |nil=>cases xs<;>rfl
 |cons m ms ih=>
  cases xs with
  |nil=>rfl
  |cons x xs=>simp only[nQ,amP h,ih]
theorem ali:mn tb d=mn tb d':=by
 funext nI ms
 induction ms with
 |nil=>funext ws xs ds;cases xs<;>cases ds<;>rfl
 |cons m ms ih=>
  funext ws xs ds
  cases xs with
  |nil=>cases m<;>rfl
  |cons x xs=>
   cases m with
   |ro=>simp only[mn];rw[ih]
   |wr=>simp only[mn];rw[U' h,ih]
   |mv=>simp only[mn];rw[U' h,ih]
   |box _=>simp only[mn];rw[U' h,ih]
theorem amx:u4 tb d=u4 tb d':=by
 funext cs
 unfold u4
 have:E9 tb d=E9 tb d':=by
  funext x
  unfold E9
  rw[h]
 rw[this]
theorem amC:As E tb d=As E tb d':=by
 funext dst k ts xs
 unfold As
 rw[amM h,ali h]
theorem al_{b:Bool}:Am E b tb d=Am E b tb d':=by
 funext o xs
 unfold Am
 rw[alP h,akC h,akG h,aal h,amC h,amx h,al5 h,h]
end
theorem alM{o:Oper}:∀q∈Oper.looks o,q∈o.op.operands.toList:=by
 intro q hq
 unfold Oper.looks at hq
 split at hq
 ·rename_i ps ho;rw[ho];simpa[Op.operands] using hq
 ·rename_i ps ho;rw[ho];simpa[Op.operands] using hq
 ·rename_i c ho
  rw[ho]
  simp only[Op.operands,Call.operands]
  split at hq<;>rename_i hc<;>simp[hc] at hq⊢<;>first|exact hq|exact .inr hq|skip
 ·exact hq
theorem ak'{q:Operand}(h:∀t,q=.tmp t->σ.get t=τ.get t):MV σ q=MV τ q:=by
 cases q with
 |tmp t=>exact h t rfl
 |const v=>rfl
 |global g=>rfl
 |func f=>rfl
theorem akF{b:Bool}{o:Oper}{r:cn U}{ks:List Key}(hs:step E b σ o=some (r,ks))(hn:σ.n=τ.n)(hsl:∀t,.tmp t∈o.op.operands.toList->σ.get t=τ.get t)
  (SA:∀k∈ks,σ.bO k=τ.bO k) (Lc:∀k∈ks,σ.aT.any (iR k)=τ.aT.any (iR k)):step E b τ o=some (r,ks):=by
 have sF:∀q∈o.op.operands.toList,MV σ q=MV τ q:=fun q hq=>ak' (fun t ht=>hsl t (ht▸hq))
 unfold step at hs⊢
 have hd:qW σ o=qW τ o:=by unfold qW;rw[hn]
 rw[<-hd]
 rw[im] at hs⊢
 split at hs
 ·rename_i hc
  rw[if_pos hc]
  split at hs
  ·rename_i c x y ho
   have h1:=sF c (by rw[ho];simp[Op.operands])
   have h2:=sF x (by rw[ho];simp[Op.operands])
   have h3:=sF y (by rw[ho];simp[Op.operands])
   unfold zP at hs⊢
   rw[h1,h2,h3] at hs
   exact hs
  ·have hg:rD σ o=rD τ o:=by
    unfold rD
    congr 1
    exact O1 (fun q hq=>sF q (alM q hq))
   rw[<-hg]
   split at hs
   ·rename_i xs hxs
    split at hs
    ·rename_i r' hr
     cases hs
     have hre:pJ τ o xs=pJ σ o xs:=by
      unfold pJ at SA⊢
      cases hvo:NJ o
      rotate_left
      ·rfl
      rw[hvo] at SA
      simp only[cond_false] at SA⊢
      cases hsh:NX o
      rotate_left
      ·rfl
      rw[hsh] at SA
      simp only[cond_false] at SA⊢
      unfold reach
      simp only
      congr 1
      have:∀k∈xs.flatMap SV.keys,ak.B' τ k=ak.B' σ k:=by
       intro k hk
       unfold ak.B'
       rw[SA k (sD _ hk)]
      generalize xs.flatMap SV.keys=l at this
      rw[O0,O0,O1 this]
     have hrt:restrict τ.bO (pJ σ o xs)=restrict σ.bO (pJ σ o xs):=by
      funext k
      unfold restrict
      cases hk:(pJ σ o xs).any (iR k)
      ·rfl
      ·simp only[cond_true];exact(SA k (sR.1 hk)).symm
     have iv:fR (restrict σ.bO (pJ σ o xs)) σ.aT=fR (restrict σ.bO (pJ σ o xs)) τ.aT:=by
      funext k p
      unfold fR
      cases hk:(pJ σ o xs).any (iR k)
      ·simp[restrict,hk]
      ·rw[Lc k (sR.1 hk)]
     simp only[hre,hrt]
     rw[<-al_ iv,hr]
    ·cases hs
   ·cases hs
 ·cases hs
structure BJ(σ τ:ak U):Prop where
 n:σ.n=τ.n
 get:∀s,σ.get s=τ.get s
 bO:∀k,σ.bO k=τ.bO k
 aT:∀k,σ.aT.any (iR k)=τ.aT.any (iR k)
theorem BJ.refl(σ:ak U):BJ σ σ:=⟨rfl,fun _=>rfl,fun _=>rfl,fun _=>rfl⟩
theorem BJ.symm(h:BJ σ τ):BJ τ σ:=⟨h.n.symm,fun s=>(h.get s).symm,fun s=>(h.bO s).symm,fun s=>(h.aT s).symm⟩
theorem BJ.trans{ρ:ak U}(h:BJ σ τ)(h':BJ τ ρ):BJ σ ρ:=⟨h.n.trans h'.n,fun s=>(h.get s).trans (h'.get s),fun s=>(h.bO s).trans (h'.bO s),fun s=>(h.aT s).trans (h'.aT s)⟩
theorem BJ.OC(h:BJ σ τ):bW σ=bW τ:=by
 funext k;unfold bW;rw[h.aT,h.bO]
theorem cM.congr(h:cM E pm F kv fp σ a w)(he:BJ σ τ):cM E pm F kv fp τ a w:=by
 refine⟨by rw[<-he.n];exact h.size,h.defers,fun s x hs=> ?_,fun k e hk=> ?_,fun k k' e e' b eZ h1 h2=> ?_,fun k e hk=> ?_,fun k e b hk=> ?_,h.uk,h.uj,h.upto,by rw[<-he.n];exact h.N0,h.lay⟩
 ·rw[<-he.OC];exact h.bM s x (by rw[he.get];exact hs)
 ·rw[<-he.OC];exact h.dH k e (by rw[he.bO];exact hk)
 ·exact h.apart k k' e e' b eZ (by rw[he.bO];exact h1) (by rw[he.bO];exact h2)
 ·exact h.nodup k e (by rw[he.bO];exact hk)
 ·exact h.fQ k e b (by rw[he.bO];exact hk)
def lays(o:Oper)(r:cn U):List (Key×Option (iN U)):=pO (o.dst.getD 1000000) r.dR++r.jQ.map (fun(k,e)=>(k,some e))++r.lG.map (fun k=>(k,none))
theorem MQ(o:Oper)(r:cn U)(σ:ak U)(k:Key):(AM.apply o r σ).bO k=if(lays o r).any (fun p=>iR p.1 k) then eJ (lays o r) k else σ.bO k:=by
 show eJ (lays o r++σ.oR) k=_
 rw[F5]
 rfl
theorem Z9{o:Oper}{r:cn U}{k:Key}:(lays o r).any (fun p=>iR p.1 k)=true↔k∈r.writes (o.dst.getD 1000000):=by
 simp only[lays,pO,cn.writes,List.any_append,QN,FI,vm,Function.comp,pK,jC,mf]
 constructor
 ·rintro((⟨x,h1,h2⟩|⟨x,h1,h2⟩)|⟨x,h1,h2⟩)
  ·exact .inl (.inl ⟨x,h1,h2⟩)
  ·exact .inr ⟨x,h1,h2⟩
  ·exact .inl (.inr (h2▸h1))
 ·rintro((⟨x,h1,h2⟩|h1)|⟨x,h1,h2⟩)
  ·exact .inl (.inl ⟨x,h1,h2⟩)
  ·exact .inr ⟨k,h1,rfl⟩
  ·exact .inl (.inr ⟨x,h1,h2⟩)
theorem Po(o:Oper)(r:cn U)(σ:ak U)(k:Key):(AM.apply o r σ).aT.any (iR k)=((r.jQ.map (·.1)).any (iR k)||σ.aT.any (iR k)):=by
 simp[AM.apply,List.any_append]
theorem BJ.apply(h:BJ σ τ)(o:Oper)(r:cn U):BJ (AM.apply o r σ) (AM.apply o r τ):=by
 refine⟨h.n,fun s=> ?_,fun k=> ?_,fun k=> ?_⟩
 ·rw[HO,HO,h.get]
 ·rw[MQ,MQ,h.bO]
 ·rw[Po,Po,h.aT]
theorem amR{x y:Oper}{rx ry:cn U}(hd:∀d,x.dst=some d->y.dst≠some d)(hw:∀k∈rx.writes (x.dst.getD 1000000),k∉ry.writes (y.dst.getD 1000000)):
  BJ (AM.apply y ry (AM.apply x rx σ)) (AM.apply x rx (AM.apply y ry σ)):=by
 refine⟨rfl,fun s=> ?_,fun k=> ?_,fun k=> ?_⟩
 ·simp only[HO]
  cases hx:x.dst with
  |none=>rfl
  |some d=>cases hy:y.dst with
   |none=>rfl
   |some d'=>
    have eZ:d'≠d:=fun e=>hd d hx (by rw[hy,e])
    by_cases h1:d=s
    ·subst h1;simp[eZ]
    ·simp[h1]
 ·simp only[MQ]
  by_cases h1:(lays x rx).any (fun p=>iR p.1 k)=true
  ·have h2:¬(lays y ry).any (fun p=>iR p.1 k)=true:=fun e=>hw k (Z9.1 h1) (Z9.1 e)
   simp[h1,h2]
  ·simp[h1]
 ·simp only[Po]
  rw[<-Bool.or_assoc,<-Bool.or_assoc,Bool.or_comm ((ry.jQ.map (·.1)).any (iR k))]
end AM
