import Derived.Test.YthciaocifglggaaGreatDoorQAmStep
namespace AM
set_option linter.unusedVariables false
open Go
variable{U:kz}{E:Env U}{pm:Pm}
variable{F F':Nat->Prop}{kv:Key->Value}{fp:Key->List Nat}{σ τ:af U}{a:Act}{w w':World}{bad:Key->Bool}
section
variable{tb:o7 U}{d d':List Key}(h:fg tb d=fg tb d')
include h
theorem WD:oW tb d=oW tb d':=by
 funext x
 unfold oW
 rw[h]
theorem abi:cellOf tb d=cellOf tb d':=by
 funext t x
 unfold cellOf
 have e:xg tb d=xg tb d':=by
  funext y
  unfold xg
  rw[h]
 rw[WD h,e]
theorem alC:cellsOf tb d=cellsOf tb d':=by
 funext ws xs
 induction xs generalizing ws with
 |nil=>rfl
 |cons x xs ih=>simp only[cellsOf,abi h,ih]
theorem akR:loadAt tb d=loadAt tb d':=by
 funext g n x
 unfold loadAt
 rw[h]
theorem ajG:storeAt tb d=storeAt tb d':=by
 funext x y
 unfold storeAt
 rw[h]
theorem ajK:sD E tb d=sD E tb d':=by
 funext t x l hh m
 unfold sD
 rw[WD h]
theorem WE:sk tb d=sk tb d':=by
 funext t x
 unfold sk
 rw[abi h,alC h]
theorem alE:si tb d=si tb d':=by
 funext xs
 induction xs with
 |nil=>rfl
 |cons x xs ih=>simp only[si,WE h,ih]
theorem alu:xS tb d=xS tb d':=by
 funext ws xs
 induction xs generalizing ws with
 |nil=>rfl
 |cons x xs ih=>simp only[xS,WE h,ih]
theorem ak7:Bq E tb d=Bq E tb d':=by
 funext t ts p xs
 unfold Bq
 rw[alu h]
theorem alR:Hi E tb d=Hi E tb d':=by
 funext t x
 unfold Hi
 rw[WE h,alE h]
theorem Pz:k9 tb d=k9 tb d':=by
 funext ws m x
 unfold k9
 rw[h]
theorem alT:sn E tb d=sn E tb d':=by
 funext ws m x
 unfold sn
 rw[alR h,Pz h]
theorem alQ:mf E tb d=mf E tb d':=by
 funext ms ws xs
 induction ms generalizing ws xs with
 |nil=>cases xs<;>rfl
 |cons m ms ih=>
  cases xs with
  |nil=>rfl
  |cons x xs=>simp only[mf,alT h,ih]
theorem akm:k8 tb d=k8 tb d':=by
 funext l8 ms
 induction ms with
 |nil=>funext ws xs ds;cases xs<;>cases ds<;>rfl
 |cons m ms ih=>
  funext ws xs ds
  cases xs with
  |nil=>cases m<;>rfl
  |cons x xs=>
   cases m with
   |ro=>simp only[k8];rw[ih]
   |wr=>simp only[k8];rw[Pz h,ih]
   |mv=>simp only[k8];rw[Pz h,ih]
   |box _=>simp only[k8];rw[Pz h,ih]
theorem alB:sh tb d=sh tb d':=by
 funext cs
 unfold sh
 have:BF tb d=BF tb d':=by
  funext x
  unfold BF
  rw[h]
 rw[this]
theorem alG:xf E tb d=xf E tb d':=by
 funext dst k ts xs
 unfold xf
 rw[alQ h,akm h]
theorem alb{b:Bool}:xd E b tb d=xd E b tb d':=by
 funext o xs
 unfold xd
 rw[akR h,ajG h,ajK h,WD h,alG h,alB h,ak7 h,h]
end
theorem akO{o:Oper}:∀q∈Oper.looks o,q∈o.op.operands.toList:=by
 intro q hq
 unfold Oper.looks at hq
 split at hq
 ·rename_i ps ho;rw[ho];simpa[Op.operands] using hq
 ·rename_i ps ho;rw[ho];simpa[Op.operands] using hq
 ·rename_i c ho
  rw[ho]
  simp only[Op.operands,Call.operands]
  split at hq<;>rename_i hc<;>simp[hc] at hq⊢<;>first|exact hq|exact .inr hq|skip
 ·exact hq
theorem akc{q:Operand}(h:∀t,q=.tmp t->σ.get t=τ.get t):H4 σ q=H4 τ q:=by
 cases q with
 |tmp t=>exact h t rfl
 |const v=>rfl
 |global g=>rfl
 |func f=>rfl
theorem ajJ{b:Bool}{o:Oper}{r:ch U}{ks:List Key}(hs:step E b σ o=some (r,ks))(hn:σ.n=τ.n)(hsl:∀t,.tmp t∈o.op.operands.toList->σ.get t=τ.get t)
  (No:∀k∈ks,σ.bH k=τ.bH k) (D8:∀k∈ks,σ.aC.any (iw k)=τ.aC.any (iw k)):step E b τ o=some (r,ks):=by
 have p5:∀q∈o.op.operands.toList,H4 σ q=H4 τ q:=fun q hq=>akc (fun t ht=>hsl t (ht▸hq))
 unfold step at hs⊢
 have hd:oR σ o=oR τ o:=by unfold oR;rw[hn]
 rw[<-hd]
 rw[gT] at hs⊢
 split at hs
 ·rename_i hc
  rw[if_pos hc]
  split at hs
  ·rename_i c x y ho
   have h1:=p5 c (by rw[ho];simp[Op.operands])
   have h2:=p5 x (by rw[ho];simp[Op.operands])
   have h3:=p5 y (by rw[ho];simp[Op.operands])
   unfold wU at hs⊢
   rw[h1,h2,h3] at hs
   exact hs
  ·have hg:pi σ o=pi τ o:=by
    unfold pi
    congr 1
    exact J1 (fun q hq=>p5 q (akO q hq))
   rw[<-hg]
   split at hs
   ·rename_i xs hxs
    split at hs
    ·rename_i r' hr
     cases hs
     have hre:nJ τ o xs=nJ σ o xs:=by
      unfold nJ at No⊢
      cases hvo:I3 o
      rotate_left
      ·rfl
      rw[hvo] at No
      simp only[cond_false] at No⊢
      cases hsh:Jg o
      rotate_left
      ·rfl
      rw[hsh] at No
      simp only[cond_false] at No⊢
      unfold reach
      simp only
      congr 1
      have:∀k∈xs.flatMap SV.keys,af.yJ τ k=af.yJ σ k:=by
       intro k hk
       unfold af.yJ
       rw[No k (pw _ hk)]
      generalize xs.flatMap SV.keys=l at this
      rw[JZ,JZ,J1 this]
     have hrt:restrict τ.bH (nJ σ o xs)=restrict σ.bH (nJ σ o xs):=by
      funext k
      unfold restrict
      cases hk:(nJ σ o xs).any (iw k)
      ·rfl
      ·simp only[cond_true];exact(No k (qe.1 hk)).symm
     have gU:fg (restrict σ.bH (nJ σ o xs)) σ.aC=fg (restrict σ.bH (nJ σ o xs)) τ.aC:=by
      funext k p
      unfold fg
      cases hk:(nJ σ o xs).any (iw k)
      ·simp[restrict,hk]
      ·rw[D8 k (qe.1 hk)]
     simp only[hre,hrt]
     rw[<-alb gU,hr]
    ·cases hs
   ·cases hs
 ·cases hs
structure yo(σ τ:af U):Prop where
 n:σ.n=τ.n
 get:∀s,σ.get s=τ.get s
 bH:∀k,σ.bH k=τ.bH k
 aC:∀k,σ.aC.any (iw k)=τ.aC.any (iw k)
theorem yo.refl(σ:af U):yo σ σ:=⟨rfl,fun _=>rfl,fun _=>rfl,fun _=>rfl⟩
theorem yo.symm(h:yo σ τ):yo τ σ:=⟨h.n.symm,fun s=>(h.get s).symm,fun s=>(h.bH s).symm,fun s=>(h.aC s).symm⟩
theorem yo.trans{ρ:af U}(h:yo σ τ)(h':yo τ ρ):yo σ ρ:=⟨h.n.trans h'.n,fun s=>(h.get s).trans (h'.get s),fun s=>(h.bH s).trans (h'.bH s),fun s=>(h.aC s).trans (h'.aC s)⟩
theorem yo.JH(h:yo σ τ):bW σ=bW τ:=by
 funext k;unfold bW;rw[h.aC,h.bH]
theorem cG.congr(h:cG E pm F kv fp σ a w)(he:yo σ τ):cG E pm F kv fp τ a w:=by
 refine⟨by rw[<-he.n];exact h.size,h.defers,fun s x hs=> ?_,fun k e hk=> ?_,fun k k' e e' b et h1 h2=> ?_,fun k e hk=> ?_,fun k e b hk=> ?_,h.rI,h.rH,h.upto,by rw[<-he.n];exact h.Ji,h.lay⟩
 ·rw[<-he.JH];exact h.bp s x (by rw[he.get];exact hs)
 ·rw[<-he.JH];exact h.cV k e (by rw[he.bH];exact hk)
 ·exact h.apart k k' e e' b et (by rw[he.bH];exact h1) (by rw[he.bH];exact h2)
 ·exact h.nodup k e (by rw[he.bH];exact hk)
 ·exact h.ff k e b (by rw[he.bH];exact hk)
def lays(o:Oper)(r:ch U):List (Key×Option (ir U)):=nN (o.dst.getD 1000000) r.du++r.jp.map (fun(k,e)=>(k,some e))++r.kH.map (fun k=>(k,none))
theorem HZ(o:Oper)(r:ch U)(σ:af U)(k:Key):(AM.apply o r σ).bH k=if(lays o r).any (fun p=>iw p.1 k) then eo (lays o r) k else σ.bH k:=by
 show eo (lays o r++σ.mW) k=_
 rw[B9]
 rfl
theorem Wp{o:Oper}{r:ch U}{k:Key}:(lays o r).any (fun p=>iw p.1 k)=true↔k∈r.writes (o.dst.getD 1000000):=by
 simp only[lays,nN,ch.writes,List.any_append,Ll,B3,sA,Function.comp,nK,kA,lH]
 constructor
 ·rintro((⟨x,h1,h2⟩|⟨x,h1,h2⟩)|⟨x,h1,h2⟩)
  ·exact .inl (.inl ⟨x,h1,h2⟩)
  ·exact .inr ⟨x,h1,h2⟩
  ·exact .inl (.inr (h2▸h1))
 ·rintro((⟨x,h1,h2⟩|h1)|⟨x,h1,h2⟩)
  ·exact .inl (.inl ⟨x,h1,h2⟩)
  ·exact .inr ⟨k,h1,rfl⟩
  ·exact .inl (.inr ⟨x,h1,h2⟩)
theorem Kd(o:Oper)(r:ch U)(σ:af U)(k:Key):(AM.apply o r σ).aC.any (iw k)=((r.jp.map (·.1)).any (iw k)||σ.aC.any (iw k)):=by
 simp[AM.apply,List.any_append]
theorem yo.apply(h:yo σ τ)(o:Oper)(r:ch U):yo (AM.apply o r σ) (AM.apply o r τ):=by
 refine⟨h.n,fun s=> ?_,fun k=> ?_,fun k=> ?_⟩
 ·rw[DC,DC,h.get]
 ·rw[HZ,HZ,h.bH]
 ·rw[Kd,Kd,h.aC]
theorem alV{x y:Oper}{rx ry:ch U}(hd:∀d,x.dst=some d->y.dst≠some d)(hw:∀k∈rx.writes (x.dst.getD 1000000),k∉ry.writes (y.dst.getD 1000000)):
  yo (AM.apply y ry (AM.apply x rx σ)) (AM.apply x rx (AM.apply y ry σ)):=by
 refine⟨rfl,fun s=> ?_,fun k=> ?_,fun k=> ?_⟩
 ·simp only[DC]
  cases hx:x.dst with
  |none=>rfl
  |some d=>cases hy:y.dst with
   |none=>rfl
   |some d'=>
    have et:d'≠d:=fun e=>hd d hx (by rw[hy,e])
    by_cases h1:d=s
    ·subst h1;simp[et]
    ·simp[h1]
 ·simp only[HZ]
  by_cases h1:(lays x rx).any (fun p=>iw p.1 k)=true
  ·have h2:¬(lays y ry).any (fun p=>iw p.1 k)=true:=fun e=>hw k (Wp.1 h1) (Wp.1 e)
   simp[h1,h2]
  ·simp[h1]
 ·simp only[Kd]
  rw[<-Bool.or_assoc,<-Bool.or_assoc,Bool.or_comm ((ry.jp.map (·.1)).any (iw k))]
end AM
