/- THE ABSTRACT MACHINE: an operation hangs on what it looks at alone; operations that do not meet commute. -/
import Derived.Test.YtceiiofmelhipaaGreatAmStep
namespace AM
set_option linter.unusedVariables false
open Go
variable{U:Uni}{E:Env U}{pm:Pm}
variable{F F':Nat→Prop}{kv:Key→Value}{fp:Key→List Nat}{σ τ:AState U}{a:Act}{w w':World}{bad:Key→Bool}
section
variable{tb:Tab U}{d d':List Key}(h:clearP tb d=clearP tb d')
include h
theorem qabn:arrOf tb d=arrOf tb d':=by
 funext x
 unfold arrOf
 rw[h]
theorem qach:cellOf tb d=cellOf tb d':=by
 funext t x
 unfold cellOf
 have e:arrOfP tb d=arrOfP tb d':=by
  funext y
  unfold arrOfP
  rw[h]
 rw[qabn h,e]
theorem qack:cellsOf tb d=cellsOf tb d':=by
 funext ws xs
 induction xs generalizing ws with
 |nil=>rfl
 |cons x xs ih=>simp only[cellsOf,qach h,ih]
theorem qagu:loadAt tb d=loadAt tb d':=by
 funext g n x
 unfold loadAt
 rw[h]
theorem qamu:storeAt tb d=storeAt tb d':=by
 funext x y
 unfold storeAt
 rw[h]
theorem qamo:sliceBy E tb d=sliceBy E tb d':=by
 funext t x l hh m
 unfold sliceBy
 rw[qabn h]
theorem qabg:argRo0 tb d=argRo0 tb d':=by
 funext t x
 unfold argRo0
 rw[qach h,qack h]
theorem qacf:capsOf tb d=capsOf tb d':=by
 funext xs
 induction xs with
 |nil=>rfl
 |cons x xs ih=>simp only[capsOf,qabg h,ih]
theorem qacy:dasOf tb d=dasOf tb d':=by
 funext ws xs
 induction xs generalizing ws with
 |nil=>rfl
 |cons x xs ih=>simp only[dasOf,qabg h,ih]
theorem qaet:fnCall E tb d=fnCall E tb d':=by
 funext t ts p xs
 unfold fnCall
 rw[qacy h]
theorem qabi:argRo E tb d=argRo E tb d':=by
 funext t x
 unfold argRo
 rw[qabg h,qacf h]
theorem qagm:lentOf tb d=lentOf tb d':=by
 funext ws m x
 unfold lentOf
 rw[h]
theorem qabe:argOf E tb d=argOf E tb d':=by
 funext ws m x
 unfold argOf
 rw[qabi h,qagm h]
theorem qabj:argsOf E tb d=argsOf E tb d':=by
 funext ms ws xs
 induction ms generalizing ws xs with
 |nil=>cases xs<;>rfl
 |cons m ms ih=>
  cases xs with
  |nil=>rfl
  |cons x xs=>simp only[argsOf,qabe h,ih]
theorem qais:mvKeys tb d=mvKeys tb d':=by
 funext ms
 induction ms with
 |nil=>funext ws xs;cases xs<;>rfl
 |cons m ms ih=>
  funext ws xs
  cases xs with
  |nil=>cases m<;>rfl
  |cons x xs=>
   cases m with
   |ro=>simp only[mvKeys];rw[ih]
   |wr=>rfl
   |mv=>simp only[mvKeys];rw[qagm h,ih]
   |box _=>rfl
theorem qair:mutsOf tb d=mutsOf tb d':=by
 funext okey ms
 induction ms with
 |nil=>funext ws xs ds;cases xs<;>cases ds<;>rfl
 |cons m ms ih=>
  funext ws xs ds
  cases xs with
  |nil=>cases m<;>rfl
  |cons x xs=>
   cases m with
   |ro=>simp only[mutsOf];rw[ih]
   |wr=>simp only[mutsOf];rw[qagm h,qais h]
   |mv=>simp only[mutsOf];rw[qagm h,qais h]
   |box _=>simp only[mutsOf];rw[qagm h,qais h]
theorem qacm:clearAll tb d=clearAll tb d':=by
 funext cs
 unfold clearAll
 have:clearC tb d=clearC tb d':=by
  funext x
  unfold clearC
  rw[h]
 rw[this]
theorem qacd:callBy E tb d=callBy E tb d':=by
 funext dst k ts xs
 unfold callBy
 rw[qabj h,qair h]
theorem qaee:evalOp E tb d=evalOp E tb d':=by
 funext o xs
 unfold evalOp
 rw[qagu h,qamu h,qamo h,qabn h,qacd h,qacm h,qaet h,h]
end
theorem qahh{o:Oper}:∀q∈Oper.looks o,q∈o.op.operands.toList:=by
 intro q hq
 unfold Oper.looks at hq
 split at hq
 ·rename_i ps ho;rw[ho];simpa[Op.operands] using hq
 ·rename_i ps ho;rw[ho];simpa[Op.operands] using hq
 ·rename_i c ho
  rw[ho]
  simp only[Op.operands,Call.operands]
  split at hq<;>rename_i hc<;>simp[hc] at hq⊢<;>first|exact hq|exact .inr hq|skip
 ·exact hq
theorem qajm{q:Operand}(h:∀t,q=.tmp t→σ.get t=τ.get t):opd σ q=opd τ q:=by
 cases q with
 |tmp t=>exact h t rfl
 |const v=>rfl
 |global g=>rfl
 |func f=>rfl
theorem qamq{o:Oper}{r:Rslt U}{ks:List Key}(hs:step E σ o=some (r,ks))(hn:σ.n=τ.n)(hsl:∀t,.tmp t∈o.op.operands.toList→σ.get t=τ.get t)
  (hen:∀k∈ks,σ.ent k=τ.ent k) (hdi:∀k∈ks,σ.dirty.any (keq k)=τ.dirty.any (keq k)):step E τ o=some (r,ks):=by
 have hop:∀q∈o.op.operands.toList,opd σ q=opd τ q:=fun q hq=>qajm (fun t ht=>hsl t (ht▸hq))
 unfold step at hs⊢
 have hd:dstOk σ o=dstOk τ o:=by unfold dstOk;rw[hn]
 rw[←hd]
 rw[zah] at hs⊢
 split at hs
 ·rename_i hc
  rw[if_pos hc]
  split at hs
  ·rename_i c x y ho
   have h1:=hop c (by rw[ho];simp[Op.operands])
   have h2:=hop x (by rw[ho];simp[Op.operands])
   have h3:=hop y (by rw[ho];simp[Op.operands])
   unfold opdLit at hs⊢
   rw[h1,h2,h3] at hs
   exact hs
  ·have hg:gather σ o=gather τ o:=by
    unfold gather
    congr 1
    exact zcr (fun q hq=>hop q (qahh q hq))
   rw[←hg]
   split at hs
   ·rename_i xs hxs
    split at hs
    ·rename_i r' hr
     cases hs
     have hre:reachO τ o xs=reachO σ o xs:=by
      unfold reachO at hen⊢
      cases hsh:ptrOnly o
      rotate_left
      ·rfl
      rw[hsh] at hen
      simp only[cond_false] at hen⊢
      unfold reach
      simp only
      congr 1
      have:∀k∈xs.flatMap SV.keys,AState.boxKeys τ k=AState.boxKeys σ k:=by
       intro k hk
       unfold AState.boxKeys
       rw[hen k (zar _ hk)]
      generalize xs.flatMap SV.keys=l at this
      rw[zct,zct,zcr this]
     have hrt:restrict τ.ent (reachO σ o xs)=restrict σ.ent (reachO σ o xs):=by
      funext k
      unfold restrict
      cases hk:(reachO σ o xs).any (keq k)
      ·rfl
      ·simp only[cond_true];exact(hen k (qaaw.1 hk)).symm
     have hcl:clearP (restrict σ.ent (reachO σ o xs)) σ.dirty=clearP (restrict σ.ent (reachO σ o xs)) τ.dirty:=by
      funext k p
      unfold clearP
      cases hk:(reachO σ o xs).any (keq k)
      ·simp[restrict,hk]
      ·rw[hdi k (qaaw.1 hk)]
     simp only[hre,hrt]
     rw[←qaee hcl,hr]
    ·cases hs
   ·cases hs
 ·cases hs
structure Eqv(σ τ:AState U):Prop where
 n:σ.n=τ.n
 get:∀s,σ.get s=τ.get s
 ent:∀k,σ.ent k=τ.ent k
 dirty:∀k,σ.dirty.any (keq k)=τ.dirty.any (keq k)
theorem Eqv.refl(σ:AState U):Eqv σ σ:=⟨rfl,fun _=>rfl,fun _=>rfl,fun _=>rfl⟩
theorem Eqv.symm(h:Eqv σ τ):Eqv τ σ:=⟨h.n.symm,fun s=>(h.get s).symm,fun s=>(h.ent s).symm,fun s=>(h.dirty s).symm⟩
theorem Eqv.trans{ρ:AState U}(h:Eqv σ τ)(h':Eqv τ ρ):Eqv σ ρ:=⟨h.n.trans h'.n,fun s=>(h.get s).trans (h'.get s),fun s=>(h.ent s).trans (h'.ent s),fun s=>(h.dirty s).trans (h'.dirty s)⟩
theorem Eqv.badK_eq(h:Eqv σ τ):badK σ=badK τ:=by
 funext k;unfold badK;rw[h.dirty,h.ent]
theorem Sim.congr(h:Sim E pm F kv fp σ a w)(he:Eqv σ τ):Sim E pm F kv fp τ a w:=by
 refine⟨by rw[←he.n];exact h.size,h.defers,fun s x hs=> ?_,fun k e hk=> ?_,fun k k' e e' b hne h1 h2=> ?_,fun k e hk=> ?_,fun k e b hk=> ?_,h.Flt,h.Fsub,h.upto,by rw[←he.n];exact h.pin,h.lay⟩
 ·rw[←he.badK_eq];exact h.slots s x (by rw[he.get];exact hs)
 ·rw[←he.badK_eq];exact h.ents k e (by rw[he.ent];exact hk)
 ·exact h.apart k k' e e' b hne (by rw[he.ent];exact h1) (by rw[he.ent];exact h2)
 ·exact h.nodup k e (by rw[he.ent];exact hk)
 ·exact h.mine k e b (by rw[he.ent];exact hk)
def lays(o:Oper)(r:Rslt U):List (Key×Option (Ent U)):=mkAdds (o.dst.getD 1000000) r.adds++r.upds.map (fun(k,e)=>(k,some e))++r.kills.map (fun k=>(k,none))
theorem qadq(o:Oper)(r:Rslt U)(σ:AState U)(k:Key):(AM.apply o r σ).ent k=if(lays o r).any (fun p=>keq p.1 k) then lookK (lays o r) k else σ.ent k:=by
 show lookK (lays o r++σ.tab) k=_
 rw[qagx]
 rfl
theorem qagl{o:Oper}{r:Rslt U}{k:Key}:(lays o r).any (fun p=>keq p.1 k)=true↔k∈r.writes (o.dst.getD 1000000):=by
 simp only[lays,mkAdds,Rslt.writes,List.any_append,zdo,zcn,zbb,Function.comp,qagi,zao,zaz]
 constructor
 ·rintro((⟨x,h1,h2⟩|⟨x,h1,h2⟩)|⟨x,h1,h2⟩)
  ·exact .inl (.inl ⟨x,h1,h2⟩)
  ·exact .inr ⟨x,h1,h2⟩
  ·exact .inl (.inr (h2▸h1))
 ·rintro((⟨x,h1,h2⟩|h1)|⟨x,h1,h2⟩)
  ·exact .inl (.inl ⟨x,h1,h2⟩)
  ·exact .inr ⟨k,h1,rfl⟩
  ·exact .inl (.inr ⟨x,h1,h2⟩)
theorem qadb(o:Oper)(r:Rslt U)(σ:AState U)(k:Key):(AM.apply o r σ).dirty.any (keq k)=((r.upds.map (·.1)).any (keq k)||σ.dirty.any (keq k)):=by
 simp[AM.apply,List.any_append]
theorem Eqv.apply(h:Eqv σ τ)(o:Oper)(r:Rslt U):Eqv (AM.apply o r σ) (AM.apply o r τ):=by
 refine⟨h.n,fun s=> ?_,fun k=> ?_,fun k=> ?_⟩
 ·rw[qafu,qafu,h.get]
 ·rw[qadq,qadq,h.ent]
 ·rw[qadb,qadb,h.dirty]
theorem qabc{x y:Oper}{rx ry:Rslt U}(hd:∀d,x.dst=some d→y.dst≠some d)(hw:∀k∈rx.writes (x.dst.getD 1000000),k∉ry.writes (y.dst.getD 1000000)):
  Eqv (AM.apply y ry (AM.apply x rx σ)) (AM.apply x rx (AM.apply y ry σ)):=by
 refine⟨rfl,fun s=> ?_,fun k=> ?_,fun k=> ?_⟩
 ·simp only[qafu]
  cases hx:x.dst with
  |none=>rfl
  |some d=>cases hy:y.dst with
   |none=>rfl
   |some d'=>
    have hne:d'≠d:=fun e=>hd d hx (by rw[hy,e])
    by_cases h1:d=s
    ·subst h1;simp[hne]
    ·simp[h1]
 ·simp only[qadq]
  by_cases h1:(lays x rx).any (fun p=>keq p.1 k)=true
  ·have h2:¬(lays y ry).any (fun p=>keq p.1 k)=true:=fun e=>hw k (qagl.1 h1) (qagl.1 e)
   simp[h1,h2]
  ·simp[h1]
 ·simp only[qadb]
  rw[←Bool.or_assoc,←Bool.or_assoc,Bool.or_comm ((ry.upds.map (·.1)).any (keq k))]
end AM
