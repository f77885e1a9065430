import Derived.Test.YtnndcpncmmcaaaaGreatQAmStep
namespace AM
set_option linter.unusedVariables false
open Go
variable{U:jO}{E:Env U}{pm:Pm}
variable{F F':Nat->Prop}{kv:Key->Value}{fp:Key->List Nat}{σ τ:ah U}{a:Act}{w w':World}{bad:Key->Bool}
section
variable{tb:mG U}{d d':List Key}(h:eg tb d=eg tb d')
include h
theorem aaa:p7 tb d=p7 tb d':=by
 funext x
 unfold p7
 rw[h]
theorem ad7:cellOf tb d=cellOf tb d':=by
 funext t x
 unfold cellOf
 have e:zv tb d=zv tb d':=by
  funext y
  unfold zv
  rw[h]
 rw[aaa h,e]
theorem aoF:cellsOf tb d=cellsOf tb d':=by
 funext ws xs
 induction xs generalizing ws with
 |nil=>rfl
 |cons x xs ih=>simp only[cellsOf,ad7 h,ih]
theorem anP:loadAt tb d=loadAt tb d':=by
 funext g n x
 unfold loadAt ID
 rw[h]
theorem aoC{τ:U.Ty}:FB τ tb d=FB τ tb d':=by
 funext x
 unfold FB
 rw[h]
theorem aoz:uL tb d=uL tb d':=by
 funext dst ok τ xs
 unfold uL
 rw[aoC h]
theorem ami:storeAt tb d=storeAt tb d':=by
 funext x y
 unfold storeAt
 rw[h]
theorem amo:tY E tb d=tY E tb d':=by
 funext t x l hh m
 unfold tY
 rw[aaa h]
theorem aab:tM tb d=tM tb d':=by
 funext t x
 unfold tM
 rw[ad7 h,aoF h]
theorem aoH:tL tb d=tL tb d':=by
 funext xs
 induction xs with
 |nil=>rfl
 |cons x xs ih=>simp only[tL,aab h,ih]
theorem aov:zY tb d=zY tb d':=by
 funext ws xs
 induction xs generalizing ws with
 |nil=>rfl
 |cons x xs ih=>simp only[zY,aab h,ih]
theorem an8:Dx E tb d=Dx E tb d':=by
 funext t ts p xs
 unfold Dx
 rw[aov h]
theorem aoV:JJ E tb d=JJ E tb d':=by
 funext t x
 unfold JJ
 rw[aab h,aoH h]
theorem Sd:kY tb d=kY tb d':=by
 funext ws m x
 unfold kY
 rw[h]
theorem aoX:tN E tb d=tN E tb d':=by
 funext ws m x
 unfold tN
 rw[aoV h,Sd h]
theorem aoU:nw E tb d=nw E tb d':=by
 funext ms ws xs
 induction ms generalizing ws xs with
 |nil=>cases xs<;>rfl
 |cons m ms ih=>
  cases xs with
  |nil=>rfl
  |cons x xs=>simp only[nw,aoX h,ih]
theorem ane:jE tb d=jE tb d':=by
 funext ku ms
 induction ms with
 |nil=>funext ws xs ds;cases xs<;>cases ds<;>rfl
 |cons m ms ih=>
  funext ws xs ds
  cases xs with
  |nil=>cases m<;>rfl
  |cons x xs=>
   cases m with
   |ro=>simp only[jE];rw[ih]
   |wr=>simp only[jE];rw[Sd h,ih]
   |mv=>simp only[jE];rw[Sd h,ih]
   |box _=>simp only[jE];rw[Sd h,ih]
theorem aoE:tK tb d=tK tb d':=by
 funext cs
 unfold tK
 have:DT tb d=DT tb d':=by
  funext x
  unfold DT
  rw[h]
 rw[this]
theorem aoJ:zr E tb d=zr E tb d':=by
 funext dst k ts xs
 unfold zr
 rw[aoU h,ane h]
theorem aod{b:Bool}:zn E b tb d=zn E b tb d':=by
 funext o xs
 unfold zn
 rw[aoz h,anP h,ami h,amo h,aaa h,aoJ h,aoE h,an8 h,h]
end
theorem anI{o:Oper}:∀q∈Oper.looks o,q∈o.op.operands.toList:=by
 intro q hq
 unfold Oper.looks at hq
 split at hq
 ·rename_i ps ho;rw[ho];simpa[Op.operands] using hq
 ·rename_i ps ho;rw[ho];simpa[Op.operands] using hq
 ·rename_i c ho
  rw[ho]
  simp only[Op.operands,Call.operands]
  split at hq<;>rename_i hc<;>simp[hc] at hq⊢<;>first|exact hq|exact .inr hq|skip
 ·exact hq
theorem am5{q:Operand}(h:∀t,q=.tmp t->σ.get t=τ.get t):Ku σ q=Ku τ q:=by
 cases q with
 |tmp t=>exact h t rfl
 |const v=>rfl
 |global g=>rfl
 |func f=>rfl
theorem aml{b:Bool}{o:Oper}{r:bz U}{ks:List Key}(hs:step E b σ o=some (r,ks))(hn:σ.n=τ.n)(RC:∀t,.tmp t∈o.op.operands.toList->σ.get t=τ.get t)
  (Qe:∀k∈ks,σ.aU k=τ.aU k) (NR:∀k∈ks,σ.ay.any (fU k)=τ.ay.any (fU k)):step E b τ o=some (r,ks):=by
 have mI:∀q∈o.op.operands.toList,Ku σ q=Ku τ q:=fun q hq=>am5 (fun t ht=>RC t (ht▸hq))
 unfold step at hs⊢
 have hd:pX σ o=pX τ o:=by unfold pX;rw[hn]
 rw[<-hd]
 rw[fc] at hs⊢
 split at hs
 ·rename_i hc
  rw[if_pos hc]
  split at hs
  ·rename_i c x y ho
   have h1:=mI c (by rw[ho];simp[Op.operands])
   have h2:=mI x (by rw[ho];simp[Op.operands])
   have h3:=mI y (by rw[ho];simp[Op.operands])
   unfold y6 at hs⊢
   rw[h1,h2,h3] at hs
   exact hs
  ·have hg:qm σ o=qm τ o:=by
    unfold qm
    congr 1
    exact Lp (fun q hq=>mI q (anI q hq))
   rw[<-hg]
   split at hs
   ·rename_i xs Rx
    split at hs
    ·rename_i r' hr
     cases hs
     have hre:oM τ o xs=oM σ o xs:=by
      unfold oM at Qe⊢
      cases hvo:Lr o
      rotate_left
      ·rfl
      rw[hvo] at Qe
      simp only[cond_false] at Qe⊢
      cases hsh:LF o
      rotate_left
      ·rfl
      rw[hsh] at Qe
      simp only[cond_false] at Qe⊢
      unfold reach
      simp only
      congr 1
      have:∀k∈xs.flatMap SV.keys,ah.AL τ k=ah.AL σ k:=by
       intro k hk
       unfold ah.AL
       rw[Qe k (oE _ hk)]
      generalize xs.flatMap SV.keys=l at this
      rw[J',J',Lp this]
     have hrt:restrict τ.aU (oM σ o xs)=restrict σ.aU (oM σ o xs):=by
      funext k
      unfold restrict
      cases hk:(oM σ o xs).any (fU k)
      ·rfl
      ·simp only[cond_true];exact(Qe k (nP.1 hk)).symm
     have fa:eg (restrict σ.aU (oM σ o xs)) σ.ay=eg (restrict σ.aU (oM σ o xs)) τ.ay:=by
      funext k p
      unfold eg
      cases hk:(oM σ o xs).any (fU k)
      ·simp[restrict,hk]
      ·rw[NR k (nP.1 hk)]
     simp only[hre,hrt]
     rw[<-aod fa,hr]
    ·cases hs
   ·cases hs
 ·cases hs
structure Au(σ τ:ah U):Prop where
 n:σ.n=τ.n
 get:∀s,σ.get s=τ.get s
 aU:∀k,σ.aU k=τ.aU k
 ay:∀k,σ.ay.any (fU k)=τ.ay.any (fU k)
theorem Au.refl(σ:ah U):Au σ σ:=⟨rfl,fun _=>rfl,fun _=>rfl,fun _=>rfl⟩
theorem Au.symm(h:Au σ τ):Au τ σ:=⟨h.n.symm,fun s=>(h.get s).symm,fun s=>(h.aU s).symm,fun s=>(h.ay s).symm⟩
theorem Au.trans{ρ:ah U}(h:Au σ τ)(h':Au τ ρ):Au σ ρ:=⟨h.n.trans h'.n,fun s=>(h.get s).trans (h'.get s),fun s=>(h.aU s).trans (h'.aU s),fun s=>(h.ay s).trans (h'.ay s)⟩
theorem Au.Mo(h:Au σ τ):aZ σ=aZ τ:=by
 funext k;unfold aZ;rw[h.ay,h.aU]
theorem cd.congr(h:cd E pm F kv fp σ a w)(he:Au σ τ):cd E pm F kv fp τ a w:=by
 refine⟨by rw[<-he.n];exact h.size,h.defers,fun s x hs=> ?_,fun k e hk=> ?_,fun k k' e e' b cO h1 h2=> ?_,fun k e hk=> ?_,fun k e b hk=> ?_,h.lT,h.ny,h.upto,by rw[<-he.n];exact h.HW,h.lay,h.bQ.imp fun tk ht=>ht.cI (fun k e hk _=>⟨by rw[he.aU];exact hk,rfl,rfl,fun _ _=>rfl⟩) (fun b hb=>⟨hb,rfl⟩)⟩
 ·rw[<-he.Mo];exact h.bw s x (by rw[he.get];exact hs)
 ·rw[<-he.Mo];exact h.cT k e (by rw[he.aU];exact hk)
 ·exact h.apart k k' e e' b cO (by rw[he.aU];exact h1) (by rw[he.aU];exact h2)
 ·exact h.nodup k e (by rw[he.aU];exact hk)
 ·exact h.cU k e b (by rw[he.aU];exact hk)
theorem ZW{o:Oper}{r:bz U}{k:Key}:(lays o r).any (fun p=>fU p.1 k)=true↔k∈r.writes (o.dst.getD 1000000):=by
 simp only[lays,kX,bz.writes,List.any_append,Oo,Ee,tW,Function.comp,lM,gA,jX]
 constructor
 ·rintro((⟨x,h1,h2⟩|⟨x,h1,h2⟩)|⟨x,h1,h2⟩)
  ·exact .inl (.inl ⟨x,h1,h2⟩)
  ·exact .inr ⟨x,h1,h2⟩
  ·exact .inl (.inr (h2▸h1))
 ·rintro((⟨x,h1,h2⟩|h1)|⟨x,h1,h2⟩)
  ·exact .inl (.inl ⟨x,h1,h2⟩)
  ·exact .inr ⟨k,h1,rfl⟩
  ·exact .inl (.inr ⟨x,h1,h2⟩)
theorem M0(o:Oper)(r:bz U)(σ:ah U)(k:Key):(AM.apply o r σ).ay.any (fU k)=(r.IZ.any (fU k)||σ.ay.any (fU k)):=by
 simp[AM.apply,List.any_append]
theorem Au.apply(h:Au σ τ)(o:Oper)(r:bz U):Au (AM.apply o r σ) (AM.apply o r τ):=by
 refine⟨h.n,fun s=> ?_,fun k=> ?_,fun k=> ?_⟩
 ·rw[yX,yX,h.get]
 ·rw[yZ,yZ,h.aU]
 ·rw[M0,M0,h.ay]
theorem aoZ{x y:Oper}{rx ry:bz U}(hd:∀d,x.dst=some d->y.dst≠some d)(hw:∀k∈rx.writes (x.dst.getD 1000000),k∉ry.writes (y.dst.getD 1000000)):
  Au (AM.apply y ry (AM.apply x rx σ)) (AM.apply x rx (AM.apply y ry σ)):=by
 refine⟨rfl,fun s=> ?_,fun k=> ?_,fun k=> ?_⟩
 ·simp only[yX]
  cases hx:x.dst with
  |none=>rfl
  |some d=>cases hy:y.dst with
   |none=>rfl
   |some d'=>
    have cO:d'≠d:=fun e=>hd d hx (by rw[hy,e])
    by_cases h1:d=s
    ·subst h1;simp[cO]
    ·simp[h1]
 ·simp only[yZ]
  by_cases h1:(lays x rx).any (fun p=>fU p.1 k)=true
  ·have h2:¬(lays y ry).any (fun p=>fU p.1 k)=true:=fun e=>hw k (ZW.1 h1) (ZW.1 e)
   simp[h1,h2]
  ·simp[h1]
 ·simp only[M0]
  rw[<-Bool.or_assoc,<-Bool.or_assoc,Bool.or_comm (ry.IZ.any (fU k))]
end AM
