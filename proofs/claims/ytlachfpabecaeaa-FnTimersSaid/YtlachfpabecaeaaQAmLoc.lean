/- THE ABSTRACT MACHINE: an operation hangs on what it looks at alone; operations that do not meet commute. -/
import Derived.Test.YtlachfpabecaeaaQAmStep
namespace AM
set_option linter.unusedVariables false
open Go
variable{U:dw}{E:Env U}{pm:Pm}
variable{F F':Nat->Prop}{kv:Key->Value}{fp:Key->List Nat}{σ τ:aa U}{a:Act}{w w':World}{bad:Key->Bool}
section
variable{tb:fT U}{d d':List Key}(h:bw tb d=bw tb d')
include h
theorem Am:fq tb d=fq tb d':=by
 funext x
 unfold fq
 rw[h]
theorem Ed:cellOf tb d=cellOf tb d':=by
 funext t x
 unfold cellOf
 have e:lz tb d=lz tb d':=by
  funext y
  unfold lz
  rw[h]
 rw[Am h,e]
theorem JQ:cellsOf tb d=cellsOf tb d':=by
 funext ws xs
 induction xs generalizing ws with
 |nil=>rfl
 |cons x xs ih=>simp only[cellsOf,Ed h,ih]
theorem I7:loadAt tb d=loadAt tb d':=by
 funext g n x
 unfold loadAt
 rw[h]
theorem HS:storeAt tb d=storeAt tb d':=by
 funext x y
 unfold storeAt
 rw[h]
theorem HW:jc E tb d=jc E tb d':=by
 funext t x l hh m
 unfold jc
 rw[Am h]
theorem An:iX tb d=iX tb d':=by
 funext t x
 unfold iX
 rw[Ed h,JQ h]
theorem JS:iV tb d=iV tb d':=by
 funext xs
 induction xs with
 |nil=>rfl
 |cons x xs ih=>simp only[iV,An h,ih]
theorem JI:l4 tb d=l4 tb d':=by
 funext ws xs
 induction xs generalizing ws with
 |nil=>rfl
 |cons x xs ih=>simp only[l4,An h,ih]
theorem Jl:nd E tb d=nd E tb d':=by
 funext t ts p xs
 unfold nd
 rw[JI h]
theorem J5:ru E tb d=ru E tb d':=by
 funext t x
 unfold ru
 rw[An h,JS h]
theorem xi:dW tb d=dW tb d':=by
 funext ws m x
 unfold dW
 rw[h]
theorem J7:iY E tb d=iY E tb d':=by
 funext ws m x
 unfold iY
 rw[J5 h,xi h]
theorem J4:eS E tb d=eS E tb d':=by
 funext ms ws xs
 induction ms generalizing ws xs with
 |nil=>cases xs<;>rfl
 |cons m ms ih=>
  cases xs with
  |nil=>rfl
  |cons x xs=>simp only[eS,J7 h,ih]
theorem IB:dV tb d=dV tb d':=by
 funext eN ms
 induction ms with
 |nil=>funext ws xs ds;cases xs<;>cases ds<;>rfl
 |cons m ms ih=>
  funext ws xs ds
  cases xs with
  |nil=>cases m<;>rfl
  |cons x xs=>
   cases m with
   |ro=>simp only[dV];rw[ih]
   |wr=>simp only[dV];rw[xi h,ih]
   |mv=>simp only[dV];rw[xi h,ih]
   |box _=>simp only[dV];rw[xi h,ih]
theorem JP:iU tb d=iU tb d':=by
 funext cs
 unfold iU
 have:ns tb d=ns tb d':=by
  funext x
  unfold ns
  rw[h]
 rw[this]
theorem JU:ly E tb d=ly E tb d':=by
 funext dst k ts xs
 unfold ly
 rw[J4 h,IB h]
theorem Jr{b:Bool}:lu E b tb d=lu E b tb d':=by
 funext o xs
 unfold lu
 rw[I7 h,HS h,HW h,Am h,JU h,JP h,Jl h,h]
end
theorem I4{o:Oper}:∀q∈Oper.looks o,q∈o.op.operands.toList:=by
 intro q hq
 unfold Oper.looks at hq
 split at hq
 ·rename_i ps ho;rw[ho];simpa[Op.operands] using hq
 ·rename_i ps ho;rw[ho];simpa[Op.operands] using hq
 ·rename_i c ho
  rw[ho]
  simp only[Op.operands,Call.operands]
  split at hq<;>rename_i hc<;>simp[hc] at hq⊢<;>first|exact hq|exact .inr hq|skip
 ·exact hq
theorem Iq{q:Operand}(h:∀t,q=.tmp t->σ.get t=τ.get t):rV σ q=rV τ q:=by
 cases q with
 |tmp t=>exact h t rfl
 |const v=>rfl
 |global g=>rfl
 |func f=>rfl
theorem HV{b:Bool}{o:Oper}{r:az U}{ks:List Key}(hs:step E b σ o=some (r,ks))(hn:σ.n=τ.n)(EP:∀t,.tmp t∈o.op.operands.toList->σ.get t=τ.get t)
  (vQ:∀k∈ks,σ.aw k=τ.aw k) (uc:∀k∈ks,σ.ah.any (cj k)=τ.ah.any (cj k)):step E b τ o=some (r,ks):=by
 have gy:∀q∈o.op.operands.toList,rV σ q=rV τ q:=fun q hq=>Iq (fun t ht=>EP t (ht▸hq))
 unfold step at hs⊢
 have hd:gh σ o=gh τ o:=by unfold gh;rw[hn]
 rw[<-hd]
 rw[bV] at hs⊢
 split at hs
 ·rename_i hc
  rw[if_pos hc]
  split at hs
  ·rename_i c x y ho
   have h1:=gy c (by rw[ho];simp[Op.operands])
   have h2:=gy x (by rw[ho];simp[Op.operands])
   have h3:=gy y (by rw[ho];simp[Op.operands])
   unfold lc at hs⊢
   rw[h1,h2,h3] at hs
   exact hs
  ·have hg:gv σ o=gv τ o:=by
    unfold gv
    congr 1
    exact uE (fun q hq=>gy q (I4 q hq))
   rw[<-hg]
   split at hs
   ·rename_i xs Kh
    split at hs
    ·rename_i r' hr
     cases hs
     have Oh:fE τ o xs=fE σ o xs:=by
      unfold fE at vQ⊢
      cases Oa:sC o
      rotate_left
      ·rfl
      rw[Oa] at vQ
      simp only[cond_false] at vQ⊢
      cases Ku:sK o
      rotate_left
      ·rfl
      rw[Ku] at vQ
      simp only[cond_false] at vQ⊢
      unfold reach
      simp only
      congr 1
      have:∀k∈xs.flatMap SV.keys,aa.mD τ k=aa.mD σ k:=by
       intro k hk
       unfold aa.mD
       rw[vQ k (fV _ hk)]
      generalize xs.flatMap SV.keys=l at this
      rw[tj,tj,uE this]
     have Kx:restrict τ.aw (fE σ o xs)=restrict σ.aw (fE σ o xs):=by
      funext k
      unfold restrict
      cases hk:(fE σ o xs).any (cj k)
      ·rfl
      ·simp only[cond_true];exact(vQ k (gX.1 hk)).symm
     have ck:bw (restrict σ.aw (fE σ o xs)) σ.ah=bw (restrict σ.aw (fE σ o xs)) τ.ah:=by
      funext k p
      unfold bw
      cases hk:(fE σ o xs).any (cj k)
      ·simp[restrict,hk]
      ·rw[uc k (gX.1 hk)]
     simp only[Oh,Kx]
     rw[<-Jr ck,hr]
    ·cases hs
   ·cases hs
 ·cases hs
structure me(σ τ:aa U):Prop where
 n:σ.n=τ.n
 get:∀s,σ.get s=τ.get s
 aw:∀k,σ.aw k=τ.aw k
 ah:∀k,σ.ah.any (cj k)=τ.ah.any (cj k)
theorem me.refl(σ:aa U):me σ σ:=⟨rfl,fun _=>rfl,fun _=>rfl,fun _=>rfl⟩
theorem me.symm(h:me σ τ):me τ σ:=⟨h.n.symm,fun s=>(h.get s).symm,fun s=>(h.aw s).symm,fun s=>(h.ah s).symm⟩
theorem me.trans{ρ:aa U}(h:me σ τ)(h':me τ ρ):me σ ρ:=⟨h.n.trans h'.n,fun s=>(h.get s).trans (h'.get s),fun s=>(h.aw s).trans (h'.aw s),fun s=>(h.ah s).trans (h'.ah s)⟩
theorem me.s8(h:me σ τ):ay σ=ay τ:=by
 funext k;unfold ay;rw[h.ah,h.aw]
theorem aE.congr(h:aE E pm F kv fp σ a w)(he:me σ τ):aE E pm F kv fp τ a w:=by
 refine⟨by rw[<-he.n];exact h.size,h.defers,fun s x hs=> ?_,fun k e hk=> ?_,fun k k' e e' b aX h1 h2=> ?_,fun k e hk=> ?_,fun k e b hk=> ?_,h.iz,h.iy,h.upto,by rw[<-he.n];exact h.sL,h.lay⟩
 ·rw[<-he.s8];exact h.au s x (by rw[he.get];exact hs)
 ·rw[<-he.s8];exact h.aJ k e (by rw[he.aw];exact hk)
 ·exact h.apart k k' e e' b aX (by rw[he.aw];exact h1) (by rw[he.aw];exact h2)
 ·exact h.nodup k e (by rw[he.aw];exact hk)
 ·exact h.bt k e b (by rw[he.aw];exact hk)
def lays(o:Oper)(r:az U):List (Key×Option (bZ U)):=fH (o.dst.getD 1000000) r.aM++r.cK.map (fun(k,e)=>(k,some e))++r.dB.map (fun k=>(k,none))
theorem rS(o:Oper)(r:az U)(σ:aa U)(k:Key):(AM.apply o r σ).aw k=if(lays o r).any (fun p=>cj p.1 k) then aW (lays o r) k else σ.aw k:=by
 show aW (lays o r++σ.tab) k=_
 rw[nL]
 rfl
theorem z9{o:Oper}{r:az U}{k:Key}:(lays o r).any (fun p=>cj p.1 k)=true↔k∈r.writes (o.dst.getD 1000000):=by
 simp only[lays,fH,az.writes,List.any_append,uB,qi,jI,Function.comp,fF,cY,eV]
 constructor
 ·rintro((⟨x,h1,h2⟩|⟨x,h1,h2⟩)|⟨x,h1,h2⟩)
  ·exact .inl (.inl ⟨x,h1,h2⟩)
  ·exact .inr ⟨x,h1,h2⟩
  ·exact .inl (.inr (h2▸h1))
 ·rintro((⟨x,h1,h2⟩|h1)|⟨x,h1,h2⟩)
  ·exact .inl (.inl ⟨x,h1,h2⟩)
  ·exact .inr ⟨k,h1,rfl⟩
  ·exact .inl (.inr ⟨x,h1,h2⟩)
theorem tx(o:Oper)(r:az U)(σ:aa U)(k:Key):(AM.apply o r σ).ah.any (cj k)=((r.cK.map (·.1)).any (cj k)||σ.ah.any (cj k)):=by
 simp[AM.apply,List.any_append]
theorem me.apply(h:me σ τ)(o:Oper)(r:az U):me (AM.apply o r σ) (AM.apply o r τ):=by
 refine⟨h.n,fun s=> ?_,fun k=> ?_,fun k=> ?_⟩
 ·rw[oR,oR,h.get]
 ·rw[rS,rS,h.aw]
 ·rw[tx,tx,h.ah]
theorem J9{x y:Oper}{rx ry:az U}(hd:∀d,x.dst=some d->y.dst≠some d)(hw:∀k∈rx.writes (x.dst.getD 1000000),k∉ry.writes (y.dst.getD 1000000)):
  me (AM.apply y ry (AM.apply x rx σ)) (AM.apply x rx (AM.apply y ry σ)):=by
 refine⟨rfl,fun s=> ?_,fun k=> ?_,fun k=> ?_⟩
 ·simp only[oR]
  cases hx:x.dst with
  |none=>rfl
  |some d=>cases hy:y.dst with
   |none=>rfl
   |some d'=>
    have aX:d'≠d:=fun e=>hd d hx (by rw[hy,e])
    by_cases h1:d=s
    ·subst h1;simp[aX]
    ·simp[h1]
 ·simp only[rS]
  by_cases h1:(lays x rx).any (fun p=>cj p.1 k)=true
  ·have h2:¬(lays y ry).any (fun p=>cj p.1 k)=true:=fun e=>hw k (z9.1 h1) (z9.1 e)
   simp[h1,h2]
  ·simp[h1]
 ·simp only[tx]
  rw[<-Bool.or_assoc,<-Bool.or_assoc,Bool.or_comm ((ry.cK.map (·.1)).any (cj k))]
end AM
