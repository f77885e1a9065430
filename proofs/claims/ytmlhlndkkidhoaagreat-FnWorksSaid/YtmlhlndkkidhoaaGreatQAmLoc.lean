/- THE ABSTRACT MACHINE: an operation hangs on what it looks at alone; operations that do not meet commute. -/
import Derived.Test.YtmlhlndkkidhoaaGreatQAmStep
namespace AM
set_option linter.unusedVariables false
open Go
variable{U:kZ}{E:Env U}{pm:Pm}
variable{F F':Nat->Prop}{kv:Key->Value}{fp:Key->List Nat}{σ τ:ah U}{a:Act}{w w':World}{bad:Key->Bool}
section
variable{tb:pQ U}{d d':List Key}(h:fL tb d=fL tb d')
include h
theorem X5:ou tb d=ou tb d':=by
 funext x
 unfold ou
 rw[h]
theorem acZ:cellOf tb d=cellOf tb d':=by
 funext t x
 unfold cellOf
 have e:zi tb d=zi tb d':=by
  funext y
  unfold zi
  rw[h]
 rw[X5 h,e]
theorem anx:cellsOf tb d=cellsOf tb d':=by
 funext ws xs
 induction xs generalizing ws with
 |nil=>rfl
 |cons x xs ih=>simp only[cellsOf,acZ h,ih]
theorem amM:loadAt tb d=loadAt tb d':=by
 funext g n x
 unfold loadAt
 rw[h]
theorem alC:storeAt tb d=storeAt tb d':=by
 funext x y
 unfold storeAt
 rw[h]
theorem alG:ub E tb d=ub E tb d':=by
 funext t x l hh m
 unfold ub
 rw[X5 h]
theorem X6:tP tb d=tP tb d':=by
 funext t x
 unfold tP
 rw[acZ h,anx h]
theorem anA:tL tb d=tL tb d':=by
 funext xs
 induction xs with
 |nil=>rfl
 |cons x xs ih=>simp only[tL,X6 h,ih]
theorem anp:z9 tb d=z9 tb d':=by
 funext ws xs
 induction xs generalizing ws with
 |nil=>rfl
 |cons x xs ih=>simp only[z9,X6 h,ih]
theorem am2:Dj E tb d=Dj E tb d':=by
 funext t ts p xs
 unfold Dj
 rw[anp h]
theorem anP:JT E tb d=JT E tb d':=by
 funext t x
 unfold JT
 rw[X6 h,anA h]
theorem TY:lJ tb d=lJ tb d':=by
 funext ws m x
 unfold lJ
 rw[h]
theorem anR:tQ E tb d=tQ E tb d':=by
 funext ws m x
 unfold tQ
 rw[anP h,TY h]
theorem anO:nf E tb d=nf E tb d':=by
 funext ms ws xs
 induction ms generalizing ws xs with
 |nil=>cases xs<;>rfl
 |cons m ms ih=>
  cases xs with
  |nil=>rfl
  |cons x xs=>simp only[nf,anR h,ih]
theorem amh:lH tb d=lH tb d':=by
 funext m8 ms
 induction ms with
 |nil=>funext ws xs ds;cases xs<;>cases ds<;>rfl
 |cons m ms ih=>
  funext ws xs ds
  cases xs with
  |nil=>cases m<;>rfl
  |cons x xs=>
   cases m with
   |ro=>simp only[lH];rw[ih]
   |wr=>simp only[lH];rw[TY h,ih]
   |mv=>simp only[lH];rw[TY h,ih]
   |box _=>simp only[lH];rw[TY h,ih]
theorem anw:tK tb d=tK tb d':=by
 funext cs
 unfold tK
 have:Dy tb d=Dy tb d':=by
  funext x
  unfold Dy
  rw[h]
 rw[this]
theorem anC:ze E tb d=ze E tb d':=by
 funext dst k ts xs
 unfold ze
 rw[anO h,amh h]
theorem am8{b:Bool}:y_ E b tb d=y_ E b tb d':=by
 funext o xs
 unfold y_
 rw[amM h,alC h,alG h,X5 h,anC h,anw h,am2 h,h]
end
theorem amJ{o:Oper}:∀q∈Oper.looks o,q∈o.op.operands.toList:=by
 intro q hq
 unfold Oper.looks at hq
 split at hq
 ·rename_i ps ho;rw[ho];simpa[Op.operands] using hq
 ·rename_i ps ho;rw[ho];simpa[Op.operands] using hq
 ·rename_i c ho
  rw[ho]
  simp only[Op.operands,Call.operands]
  split at hq<;>rename_i hc<;>simp[hc] at hq⊢<;>first|exact hq|exact .inr hq|skip
 ·exact hq
theorem al9{q:Operand}(h:∀t,q=.tmp t->σ.get t=τ.get t):KL σ q=KL τ q:=by
 cases q with
 |tmp t=>exact h t rfl
 |const v=>rfl
 |global g=>rfl
 |func f=>rfl
theorem alF{b:Bool}{o:Oper}{r:cd U}{ks:List Key}(hs:step E b σ o=some (r,ks))(hn:σ.n=τ.n)(hsl:∀t,.tmp t∈o.op.operands.toList->σ.get t=τ.get t)
  (P6:∀k∈ks,σ.bJ k=τ.bJ k) (Ji:∀k∈ks,σ.aK.any (iJ k)=τ.aK.any (iJ k)):step E b τ o=some (r,ks):=by
 have rf:∀q∈o.op.operands.toList,KL σ q=KL τ q:=fun q hq=>al9 (fun t ht=>hsl t (ht▸hq))
 unfold step at hs⊢
 have hd:qb σ o=qb τ o:=by unfold qb;rw[hn]
 rw[<-hd]
 rw[h_] at hs⊢
 split at hs
 ·rename_i hc
  rw[if_pos hc]
  split at hs
  ·rename_i c x y ho
   have h1:=rf c (by rw[ho];simp[Op.operands])
   have h2:=rf x (by rw[ho];simp[Op.operands])
   have h3:=rf y (by rw[ho];simp[Op.operands])
   unfold yE at hs⊢
   rw[h1,h2,h3] at hs
   exact hs
  ·have hg:qw σ o=qw τ o:=by
    unfold qw
    congr 1
    exact Ob (fun q hq=>rf q (amJ q hq))
   rw[<-hg]
   split at hs
   ·rename_i xs hxs
    split at hs
    ·rename_i r' hr
     cases hs
     have hre:oZ τ o xs=oZ σ o xs:=by
      unfold oZ at P6⊢
      cases hvo:LC o
      rotate_left
      ·rfl
      rw[hvo] at P6
      simp only[cond_false] at P6⊢
      cases hsh:LR o
      rotate_left
      ·rfl
      rw[hsh] at P6
      simp only[cond_false] at P6⊢
      unfold reach
      simp only
      congr 1
      have:∀k∈xs.flatMap SV.keys,ah.AN τ k=ah.AN σ k:=by
       intro k hk
       unfold ah.AN
       rw[P6 k (qC _ hk)]
      generalize xs.flatMap SV.keys=l at this
      rw[MD,MD,Ob this]
     have hrt:restrict τ.bJ (oZ σ o xs)=restrict σ.bJ (oZ σ o xs):=by
      funext k
      unfold restrict
      cases hk:(oZ σ o xs).any (iJ k)
      ·rfl
      ·simp only[cond_true];exact(P6 k (rE.1 hk)).symm
     have iq:fL (restrict σ.bJ (oZ σ o xs)) σ.aK=fL (restrict σ.bJ (oZ σ o xs)) τ.aK:=by
      funext k p
      unfold fL
      cases hk:(oZ σ o xs).any (iJ k)
      ·simp[restrict,hk]
      ·rw[Ji k (rE.1 hk)]
     simp only[hre,hrt]
     rw[<-am8 iq,hr]
    ·cases hs
   ·cases hs
 ·cases hs
structure Ap(σ τ:ah U):Prop where
 n:σ.n=τ.n
 get:∀s,σ.get s=τ.get s
 bJ:∀k,σ.bJ k=τ.bJ k
 aK:∀k,σ.aK.any (iJ k)=τ.aK.any (iJ k)
theorem Ap.refl(σ:ah U):Ap σ σ:=⟨rfl,fun _=>rfl,fun _=>rfl,fun _=>rfl⟩
theorem Ap.symm(h:Ap σ τ):Ap τ σ:=⟨h.n.symm,fun s=>(h.get s).symm,fun s=>(h.bJ s).symm,fun s=>(h.aK s).symm⟩
theorem Ap.trans{ρ:ah U}(h:Ap σ τ)(h':Ap τ ρ):Ap σ ρ:=⟨h.n.trans h'.n,fun s=>(h.get s).trans (h'.get s),fun s=>(h.bJ s).trans (h'.bJ s),fun s=>(h.aK s).trans (h'.aK s)⟩
theorem Ap.Mo(h:Ap σ τ):bW σ=bW τ:=by
 funext k;unfold bW;rw[h.aK,h.bJ]
theorem cE.congr(h:cE E pm F kv fp σ a w)(he:Ap σ τ):cE E pm F kv fp τ a w:=by
 refine⟨by rw[<-he.n];exact h.size,h.defers,fun s x hs=> ?_,fun k e hk=> ?_,fun k k' e e' b eO h1 h2=> ?_,fun k e hk=> ?_,fun k e b hk=> ?_,h.sZ,h.sY,h.upto,by rw[<-he.n];exact h.LV,h.lay⟩
 ·rw[<-he.Mo];exact h.bz s x (by rw[he.get];exact hs)
 ·rw[<-he.Mo];exact h.di k e (by rw[he.bJ];exact hk)
 ·exact h.apart k k' e e' b eO (by rw[he.bJ];exact h1) (by rw[he.bJ];exact h2)
 ·exact h.nodup k e (by rw[he.bJ];exact hk)
 ·exact h.fK k e b (by rw[he.bJ];exact hk)
def lays(o:Oper)(r:cd U):List (Key×Option (iv U)):=pa (o.dst.getD 1000000) r.dG++r.jE.map (fun(k,e)=>(k,some e))++r.k_.map (fun k=>(k,none))
theorem KG(o:Oper)(r:cd U)(σ:ah U)(k:Key):(AM.apply o r σ).bJ k=if(lays o r).any (fun p=>iJ p.1 k) then eD (lays o r) k else σ.bJ k:=by
 show eD (lays o r++σ.nU) k=_
 rw[Er]
 rfl
theorem XR{o:Oper}{r:cd U}{k:Key}:(lays o r).any (fun p=>iJ p.1 k)=true↔k∈r.writes (o.dst.getD 1000000):=by
 simp only[lays,pa,cd.writes,List.any_append,On,Ee,tZ,Function.comp,o6,jr,lB]
 constructor
 ·rintro((⟨x,h1,h2⟩|⟨x,h1,h2⟩)|⟨x,h1,h2⟩)
  ·exact .inl (.inl ⟨x,h1,h2⟩)
  ·exact .inr ⟨x,h1,h2⟩
  ·exact .inl (.inr (h2▸h1))
 ·rintro((⟨x,h1,h2⟩|h1)|⟨x,h1,h2⟩)
  ·exact .inl (.inl ⟨x,h1,h2⟩)
  ·exact .inr ⟨k,h1,rfl⟩
  ·exact .inl (.inr ⟨x,h1,h2⟩)
theorem MZ(o:Oper)(r:cd U)(σ:ah U)(k:Key):(AM.apply o r σ).aK.any (iJ k)=((r.jE.map (·.1)).any (iJ k)||σ.aK.any (iJ k)):=by
 simp[AM.apply,List.any_append]
theorem Ap.apply(h:Ap σ τ)(o:Oper)(r:cd U):Ap (AM.apply o r σ) (AM.apply o r τ):=by
 refine⟨h.n,fun s=> ?_,fun k=> ?_,fun k=> ?_⟩
 ·rw[Ga,Ga,h.get]
 ·rw[KG,KG,h.bJ]
 ·rw[MZ,MZ,h.aK]
theorem anT{x y:Oper}{rx ry:cd U}(hd:∀d,x.dst=some d->y.dst≠some d)(hw:∀k∈rx.writes (x.dst.getD 1000000),k∉ry.writes (y.dst.getD 1000000)):
  Ap (AM.apply y ry (AM.apply x rx σ)) (AM.apply x rx (AM.apply y ry σ)):=by
 refine⟨rfl,fun s=> ?_,fun k=> ?_,fun k=> ?_⟩
 ·simp only[Ga]
  cases hx:x.dst with
  |none=>rfl
  |some d=>cases hy:y.dst with
   |none=>rfl
   |some d'=>
    have eO:d'≠d:=fun e=>hd d hx (by rw[hy,e])
    by_cases h1:d=s
    ·subst h1;simp[eO]
    ·simp[h1]
 ·simp only[KG]
  by_cases h1:(lays x rx).any (fun p=>iJ p.1 k)=true
  ·have h2:¬(lays y ry).any (fun p=>iJ p.1 k)=true:=fun e=>hw k (XR.1 h1) (XR.1 e)
   simp[h1,h2]
  ·simp[h1]
 ·simp only[MZ]
  rw[<-Bool.or_assoc,<-Bool.or_assoc,Bool.or_comm ((ry.jE.map (·.1)).any (iJ k))]
end AM
