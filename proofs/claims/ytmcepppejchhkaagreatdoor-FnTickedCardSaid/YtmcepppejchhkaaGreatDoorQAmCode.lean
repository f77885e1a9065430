import Derived.Test.YtmcepppejchhkaaGreatDoorQAmWp
namespace AM
set_option linter.unusedVariables false
open Go
variable{U:lQ}{E:Env U}{pm:Pm}
variable{F F':Nat->Prop}{kv kv':Key->Value}{fp fp':Key->List Nat}{σ τ:ak U}{a:Act}{w w':World}
def Out.st:Out U->ak U
 | .normal σ=>σ
 | .exit _ σ=>σ
 | .ret σ=>σ
def Out.ex:Out U->Exit
 | .normal _=> .normal
 | .exit id _=> .exit id
 | .ret _=> .ret
theorem cR.less(h:cR E pm F kv fp σ a w)(hn:τ.n=σ.n)(hc:fD E w F kv fp σ a)
  (hg:∀s x,τ.get s=some x->σ.get s=some x) (he:∀k e,τ.bP k=some e->σ.bP k=some e):cR E pm F kv fp τ a w:=by
 refine⟨by rw[hn];exact h.size,h.defers,fun s x hs=> ?_,fun k e hk=> ?_,fun k k' e e' b fc h1 h2=>h.apart k k' e e' b fc (he k e h1) (he k' e' h2),
  fun k e hk=>h.nodup k e (he k e hk),fun k e b hk=>h.fT k e b (he k e hk),h.uI,h.uH,h.upto,by rw[hn];exact h.Oe,h.lay⟩
 ·exact(hc.bG s x (hg s x hs)).nL (fun y hy=>H6 fun _ _=>rfl)
 ·have:=hc.dD k e (he k e hk)
  cases e with
  |arr x deep=>exact this
  |part x dead=>exact this
  |box cs=>
   obtain⟨b,cur,e',g1,g2,g3,g4⟩:=this
   exact⟨b,cur,e',g1,g2,g3,g4.nL (fun y hy=>H6 fun _ _=>rfl)⟩
theorem akX{k:Key}(h:unnamed k σ=true):¬Names σ k:=by
 unfold unnamed at h
 simp only[cN,sP] at h
 rintro(⟨s,x,hs,hk⟩|⟨k',cs,he,x,hx,hk⟩)
 ·have:=h.1 _ (K0 hs)
  simp only[qK,<-wI,tf] at this
  exact this hk
 ·have:=h.2 _ (Gq he)
  simp only[qK,<-wI,vD] at this
  exact this ⟨x,hx,vD.1 (tf.2 hk)⟩
theorem cR.row(h:cR E pm F kv fp σ a w)(hc:fD E w F kv fp σ a){k0:Key}(Ci:σ.bP k0=none)(Xz:¬Names σ k0)(aqy:1024<=k0.2){ty:U.Ty}{d0:Bool}{v0:Value}(Sk:∃ad,v0=.slice ad 0 0)(hn:τ.n=σ.n)
  (hg:∀s x,τ.get s=some x->σ.get s=some x\/∃y j,σ.get s=some (.v y)/\y.cs[j]? =some .e0/\x=.v ⟨y.agg,y.cs.set j (.ref k0 [])⟩/\∀vs,mw E w F kv fp (fun _=>false) y.cs vs->(if y.agg then a.tmps.getD s undef=.agg vs.toArray else vs=[a.tmps.getD s undef])->vs[j]? =some v0)
  (he:∀k e,τ.bP k=some e->(k=k0/\e=.arr ⟨ty,[]⟩ d0)\/σ.bP k=some e\/∃cs j,σ.bP k=some (.box cs)/\cs[j]? =some .e0/\e=.box (cs.set j (.ref k0 []))/\∀b cur ety,kv k=.pointer (some ⟨b,0,none⟩)->w.heap[b]? =some (.cells cur ety (0,0))->cur.toList[j]? =some v0):
  ∃kv fp,cR E pm F kv fp τ a w/\fD E w F kv fp τ a:=by
 classical
 let kv':Key->Value:=fun k=>if k=k0 then v0 else kv k
 let fp':Key->List Nat:=fun k=>if k=k0 then[] else fp k
 have P9:∀k,k≠k0->kv' k=kv k:=fun k hk=>if_neg hk
 have tw:∀k,k≠k0->fp' k=fp k:=fun k hk=>if_neg hk
 have aeF:kv' k0=v0:=if_pos rfl
 have SD:fp' k0=[]:=if_pos rfl
 have rh:∀k,Names σ k->qv w w kv kv' fp fp' (fun _=>false) (fun _=>false) k:=by
  intro k hk
  have:k≠k0:=fun e=>Xz (e▸hk)
  exact⟨P9 k this,.inr ⟨rfl,tw k this,fun _ _=>rfl⟩⟩
 have hF:∀b,F b->F b/\w.heap[b]? =w.heap[b]? :=fun b hb=>⟨hb,rfl⟩
 have Sp:∀{cs:List (AC U)}{vs:List Value}{j:Nat},mw E w F kv fp (fun _=>false) cs vs->(∀x∈cs,∀k∈x.keys,Names σ k)->vs[j]? =some v0->mw E w F kv' fp' (fun _=>false) (cs.set j (.ref k0 [])) vs:=by
  intro cs vs j hd vS hj
  have Ck:mw E w F kv' fp' (fun _=>false) cs vs:=hd.move (fun x hx k hk=>rh k (vS x hx k hk)) hF
  refine⟨by simpa using hd.1,fun i x v hx hv=> ?_⟩
  rw[Xa] at hx
  split at hx
  ·rename_i Gh
   subst Gh
   split at hx
   ·cases hx
    rw[hv] at hj
    cases hj
    obtain⟨ad,rfl⟩:=Sk
    exact⟨⟨rfl,trivial⟩,.inr (by simp only[RA];rw[aeF];rfl)⟩
   ·cases hx
  ·exact Ck.2 i x v hx hv
 have kE:fD E w F kv' fp' τ a:=by
  refine⟨fun s x hs=> ?_,fun k e hk=> ?_⟩
  ·rcases hg s x hs with g|⟨y,j,g1,g2,rfl,g4⟩
   ·exact(hc.bG s x g).move (fun k hk=>rh k (.inl ⟨s,x,g,hk⟩)) hF
   ·obtain⟨vs,r1,r2⟩:=hc.bG s _ g1
    exact⟨vs,Sp r1 (fun x hx k hk=> .inl ⟨s,_,g1,SV.mem_keys.2 ⟨x,hx,hk⟩⟩) (g4 vs r1 r2),r2⟩
  ·rcases he k e hk with⟨rfl,rfl⟩|g|⟨cs,j,g1,g2,rfl,g4⟩
   ·obtain⟨ad,rfl⟩:=Sk
    exact .inl ⟨rfl,⟨ad,aeF⟩,SD⟩
   ·have fc:k≠k0:=fun e'=>by rw[e',Ci] at g;cases g
    have:=hc.dD k e g
    rw[P9 k fc,tw k fc]
    cases e with
    |arr x deep=>exact this
    |part x dead=>exact this
    |box cs=>
     obtain⟨b,cur,e',r1,r2,r3,r4⟩:=this
     exact⟨b,cur,e',r1,r2,r3,r4.move (fun x hx k' cY=>rh k' (.inr ⟨k,cs,g,x,hx,cY⟩)) hF⟩
   ·have fc:k≠k0:=fun e'=>by rw[e',Ci] at g1;cases g1
    obtain⟨b,cur,e',r1,r2,r3,r4⟩:=hc.dD k _ g1
    rw[P9 k fc,tw k fc]
    exact⟨b,cur,e',r1,r2,r3,Sp r4 (fun x hx k' cY=> .inr ⟨k,cs,g1,x,hx,cY⟩) (g4 b cur e' r1 r2)⟩
 have hold:∀k e,τ.bP k=some e->k≠k0->∃e',σ.bP k=some e':=by
  intro k e hk fc
  rcases he k e hk with⟨rfl,_⟩|g|⟨cs,j,g1,_⟩
  ·exact absurd rfl fc
  ·exact⟨_,g⟩
  ·exact⟨_,g1⟩
 refine⟨kv',fp',⟨by rw[hn];exact h.size,h.defers,fun s x hs=>(kE.bG s x hs).nL (fun y hy=>H6 fun _ _=>rfl),fun k e hk=> ?_,fun k k' e e' b fc h1 h2 hb=> ?_,fun k e hk=> ?_,fun k e b hk hb=> ?_,h.uI,h.uH,h.upto,fun k v hp=> ?_,h.lay⟩,kE⟩
 ·have:=kE.dD k e hk
  cases e with
  |arr x deep=>exact this
  |part x dead=>exact this
  |box cs=>
   obtain⟨b,cur,e',g1,g2,g3,g4⟩:=this
   exact⟨b,cur,e',g1,g2,g3,g4.nL (fun y hy=>H6 fun _ _=>rfl)⟩
 ·by_cases hk:k=k0
  ·rw[hk,SD] at hb;cases hb
  ·by_cases cY:k'=k0
   ·rw[cY,SD];exact NV
   ·obtain⟨e1,g1⟩:=hold k e h1 hk
    obtain⟨e2,g2⟩:=hold k' e' h2 cY
    rw[tw k hk] at hb
    rw[tw k' cY]
    exact h.apart k k' e1 e2 b fc g1 g2 hb
 ·by_cases cY:k=k0
  ·rw[cY,SD];exact ZB
  ·obtain⟨e1,g1⟩:=hold k e hk cY
   rw[tw k cY];exact h.nodup k e1 g1
 ·by_cases cY:k=k0
  ·rw[cY,SD] at hb;cases hb
  ·obtain⟨e1,g1⟩:=hold k e hk cY
   rw[tw k cY] at hb;exact h.fT k e1 b g1 hb
 ·obtain⟨p1,p2,p3,p4⟩:=h.Oe k v hp
  refine⟨p1,p2,by rw[hn];exact p3,?_⟩
  rw[P9 k (fun e=>by rw[e] at p2;omega)];exact p4
theorem cR.acq(h:cR E pm F kv fp σ a w)(hc:fD E w F kv fp σ a)(hn:τ.n=σ.n)
  (hg:∀s x,τ.get s=some x->σ.get s=some x\/∃y j ty,σ.get s=some (.v y)/\y.cs[j]? =some .e0/\x=.v ⟨y.agg,y.cs.set j (.c (.sl ty []))⟩)
  (he:∀k e,τ.bP k=some e->σ.bP k=some e\/∃cs j ty,σ.bP k=some (.box cs)/\cs[j]? =some .e0/\e=.box (cs.set j (.c (.sl ty [])))):
  cR E pm F kv fp τ a w/\fD E w F kv fp τ a:=by
 have Sp:∀{cs:List (AC U)}{vs:List Value}{j:Nat}{ty:U.Ty},mw E w F kv fp (fun _=>false) cs vs->cs[j]? =some .e0->mw E w F kv fp (fun _=>false) (cs.set j (.c (.sl ty []))) vs:=by
  intro cs vs j ty hd hj
  refine⟨by simpa using hd.1,fun i x v hx hv=> ?_⟩
  rw[Xa] at hx
  split at hx
  ·rename_i Gh
   subst Gh
   split at hx
   ·cases hx
    obtain⟨g1,g2⟩:=hd.2 j _ v hj hv
    refine⟨g1,.inr ?_⟩
    rcases g2 with g2|⟨ad,rfl⟩
    ·cases g2
    ·exact .nil false ty ad 0 (fun _=>rfl)
   ·cases hx
  ·exact hd.2 i x v hx hv
 have kE:fD E w F kv fp τ a:=by
  refine⟨fun s x hs=> ?_,fun k e hk=> ?_⟩
  ·rcases hg s x hs with g|⟨y,j,ty,g1,g2,rfl⟩
   ·exact hc.bG s x g
   ·obtain⟨vs,r1,r2⟩:=hc.bG s _ g1
    exact⟨vs,Sp r1 g2,r2⟩
  ·rcases he k e hk with g|⟨cs,j,ty,g1,g2,rfl⟩
   ·exact hc.dD k e g
   ·obtain⟨b,cur,e',r1,r2,r3,r4⟩:=hc.dD k _ g1
    exact⟨b,cur,e',r1,r2,r3,Sp r4 g2⟩
 have hold:∀k e,τ.bP k=some e->∃e',σ.bP k=some e':=by
  intro k e hk
  rcases he k e hk with g|⟨cs,j,ty,g1,_⟩
  ·exact⟨_,g⟩
  ·exact⟨_,g1⟩
 refine⟨⟨by rw[hn];exact h.size,h.defers,fun s x hs=>(kE.bG s x hs).nL (fun y hy=>H6 fun _ _=>rfl),fun k e hk=> ?_,fun k k' e e' b fc h1 h2 hb=> ?_,fun k e hk=> ?_,fun k e b hk hb=> ?_,h.uI,h.uH,h.upto,fun k v hp=> ?_,h.lay⟩,kE⟩
 ·have:=kE.dD k e hk
  cases e with
  |arr x deep=>exact this
  |part x dead=>exact this
  |box cs=>
   obtain⟨b,cur,e',g1,g2,g3,g4⟩:=this
   exact⟨b,cur,e',g1,g2,g3,g4.nL (fun y hy=>H6 fun _ _=>rfl)⟩
 ·obtain⟨e1,g1⟩:=hold k e h1
  obtain⟨e2,g2⟩:=hold k' e' h2
  exact h.apart k k' e1 e2 b fc g1 g2 hb
 ·obtain⟨e1,g1⟩:=hold k e hk
  exact h.nodup k e1 g1
 ·obtain⟨e1,g1⟩:=hold k e hk
  exact h.fT k e1 b g1 hb
 ·obtain⟨p1,p2,p3,p4⟩:=h.Oe k v hp
  exact⟨p1,p2,by rw[hn];exact p3,p4⟩
theorem Vj{x:Option (AC U)}:PT x=true↔x=some .e0:=by
 unfold PT
 split
 ·simp
 ·rename_i h;simp only[xS,false_iff];exact fun e=>h e
theorem Rx{β:Type}(k k':Key)(v:Option β)(l:List (Key×Option β)):eY ((k,v)::l) k'=if k=k' then v else eY l k':=by
 simp only[eY]
 by_cases h:k=k'
 ·rw[pX.2 h,if_pos h];rfl
 ·rw[M5.2 h,if_neg h];rfl
theorem M4{β:Type}(k k':Nat)(v:Option β)(l:List (Nat×Option β)):look ((k,v)::l) k'=if k=k' then v else look l k':=by
 simp only[look]
 by_cases h:k=k'
 ·rw[if_pos h,(by simpa using h:Nat.beq k k'=true)];rfl
 ·rw[if_neg h,(by rw[<-wI,HQ];exact h:Nat.beq k k'=false)];rfl
theorem Te{x:AC U}{v:Value}(h:RD E w F kv fp (fun _=>false) x v)(hx:x=.e0):∃ad,v=.slice ad 0 0:=by
 subst hx
 exact cx h rfl
theorem alG{p:qJ}{ty:U.Ty×Bool}(h:cR E pm F kv fp σ a w)(hc:fD E w F kv fp σ a):∃kv fp,cR E pm F kv fp (PL p ty σ) a w/\fD E w F kv fp (PL p ty σ) a:=by
 have same:∃kv fp,cR E pm F kv fp σ a w/\fD E w F kv fp σ a:=⟨kv,fp,h,hc⟩
 unfold PL
 rw[iw]
 split
 ·rename_i nJ
  simp only[cN,QT,Option.isNone_iff_eq_none] at nJ
  obtain⟨⟨c1,c2⟩,c3⟩:=nJ
  have Xy:=akX c2
  cases p with
  |slot s j=>
   simp only
   split
   ·rename_i x hx
    rw[iw]
    split
    ·rename_i nX
     have nX:=Vj.1 nX
     obtain⟨vs,r1,r2⟩:=hc.bG s _ hx
     have gy:j<vs.length:=by
      rw[<-r1.1]
      rcases pt j x.cs.length with g|g
      ·exact g
      ·rw[ot g] at nX;cases nX
     have hvj:vs[j]? =some vs[j]:=fE gy
     refine h.row hc (τ:={σ with bG:=(s,some (.v ⟨x.agg,x.cs.set j (.ref (qJ.slot s j).key [])⟩))::σ.bG,o9:=((qJ.slot s j).key,some (.arr ⟨ty.1,[]⟩ ty.2))::σ.o9})
      (k0:=(qJ.slot s j).key) c1 Xy c3 (ty:=ty.1) (d0:=ty.2) (v0:=vs[j]) (Te (r1.2 j _ _ nX hvj) rfl) rfl (fun s' x' kE=> ?_) (fun k e hk=> ?_)
     ·replace kE:=(M4 _ _ _ _).symm.trans kE
      split at kE
      ·rename_i e;subst e
       cases kE
       refine .inr ⟨x,j,hx,nX,rfl,fun wJ r1' U2=> ?_⟩
       have:wJ=vs:=by
        cases UG:x.agg
        ·rw[UG] at r2 U2;simp only[xS,if_false] at r2 U2;rw[r2,U2]
        ·rw[UG] at r2 U2;simp only[if_true] at r2 U2
         rw[r2] at U2
         simpa using U2.symm
       rw[this];exact hvj
      ·exact .inl kE
     ·replace hk:=(Rx _ _ _ _).symm.trans hk
      split at hk
      ·rename_i e;cases hk;exact .inl ⟨e.symm,rfl⟩
      ·exact .inr (.inl hk)
    ·exact same
   ·exact same
  |box k1 j=>
   simp only
   split
   ·rename_i cs hx
    rw[iw]
    split
    ·rename_i nX
     have nX:=Vj.1 nX
     obtain⟨b,cur,e',r1,r2,r3,r4⟩:=hc.dD k1 _ hx
     have gy:j<cur.toList.length:=by
      rw[<-r4.1]
      rcases pt j cs.length with g|g
      ·exact g
      ·rw[ot g] at nX;cases nX
     have hvj:cur.toList[j]? =some cur.toList[j]:=fE gy
     refine h.row hc (τ:={σ with o9:=((qJ.box k1 j).key,some (.arr ⟨ty.1,[]⟩ ty.2))::(k1,some (.box (cs.set j (.ref (qJ.box k1 j).key []))))::σ.o9})
      (k0:=(qJ.box k1 j).key) c1 Xy c3 (ty:=ty.1) (d0:=ty.2) (v0:=cur.toList[j]) (Te (r4.2 j _ _ nX hvj) rfl) rfl (fun s' x' kE=> .inl kE) (fun k e hk=> ?_)
     replace hk:=(Rx _ _ _ _).symm.trans hk
     split at hk
     ·rename_i e;cases hk;exact .inl ⟨e.symm,rfl⟩
     ·rw[Rx] at hk
      split at hk
      ·rename_i e;cases hk
       subst e
       refine .inr (.inr ⟨cs,j,hx,nX,rfl,fun b2 aqI e2 g1 g2=> ?_⟩)
       rw[r1] at g1;cases g1
       rw[r2] at g2;cases g2
       exact hvj
      ·exact .inr (.inl hk)
    ·exact same
   ·exact same
 ·exact same
theorem alE{p:qJ}{ty:U.Ty}(h:cR E pm F kv fp σ a w)(hc:fD E w F kv fp σ a):cR E pm F kv fp (PK p ty σ) a w/\fD E w F kv fp (PK p ty σ) a:=by
 have same:cR E pm F kv fp σ a w/\fD E w F kv fp σ a:=⟨h,hc⟩
 unfold PK
 cases p with
 |slot s j=>
  simp only
  split
  ·rename_i x hx
   rw[iw]
   split
   ·rename_i nX
    have nX:=Vj.1 nX
    refine h.acq hc (τ:={σ with bG:=(s,some (.v ⟨x.agg,x.cs.set j (.c (.sl ty []))⟩))::σ.bG}) rfl (fun s' x' kE=> ?_) (fun k e hk=> .inl hk)
    replace kE:=(M4 _ _ _ _).symm.trans kE
    split at kE
    ·rename_i e;subst e
     cases kE
     exact .inr ⟨x,j,ty,hx,nX,rfl⟩
    ·exact .inl kE
   ·exact same
  ·exact same
 |box k1 j=>
  simp only
  split
  ·rename_i cs hx
   rw[iw]
   split
   ·rename_i nX
    have nX:=Vj.1 nX
    refine h.acq hc (τ:={σ with o9:=(k1,some (.box (cs.set j (.c (.sl ty [])))))::σ.o9}) rfl (fun s' x' kE=> .inl kE) (fun k e hk=> ?_)
    replace hk:=(Rx _ _ _ _).symm.trans hk
    split at hk
    ·rename_i e;cases hk
     subst e
     exact .inr ⟨cs,j,ty,hx,nX,rfl⟩
    ·exact .inl hk
   ·exact same
  ·exact same
theorem Vc:∀{l:List (qJ×U.Ty×Option Bool)}{σ:ak U},(∃kv fp,cR E pm F kv fp σ a w/\fD E w F kv fp σ a)->∃kv fp,cR E pm F kv fp (PJ l σ) a w/\fD E w F kv fp (PJ l σ) a
 |[],σ,h=>h
 |(p,ty,some d)::r,σ,⟨kv,fp,h,hc⟩=>Vc (l:=r) (alG h hc)
 |(p,ty,none)::r,σ,⟨kv,fp,h,hc⟩=>Vc (l:=r) ⟨kv,fp,alE h hc⟩
theorem alF{p:qJ}{W:List Nat}(ty:U.Ty)(σ:ak U)(hW:∀s j,p=.slot s j->s∈W):eH W σ (PK p ty σ):=by
 unfold PK
 cases p with
 |slot s j=>
  simp only
  split
  ·rename_i x hx
   rw[iw]
   split
   ·refine⟨rfl,fun s' v hs hg _=> ?_,fun s' p hs hg=> ?_⟩
    ·have:s≠s':=fun e=>hs (e▸hW s j rfl)
     exact(M4 _ _ _ _).trans ((if_neg this).trans hg)
    ·have:s≠s':=fun e=>hs (e▸hW s j rfl)
     exact(M4 _ _ _ _).trans ((if_neg this).trans hg)
   ·exact eH.refl _ _
  ·exact eH.refl _ _
 |box k1 j=>
  simp only
  split
  ·rename_i cs hx
   rw[iw]
   split
   ·exact⟨rfl,fun s' v hs hg _=>hg,fun s' p hs hg=>hg⟩
   ·exact eH.refl _ _
  ·exact eH.refl _ _
theorem alH{p:qJ}{W:List Nat}(ty:U.Ty×Bool)(σ:ak U)(hW:∀s j,p=.slot s j->s∈W):eH W σ (PL p ty σ):=by
 unfold PL
 rw[iw]
 split
 ·cases p with
  |slot s j=>
   simp only
   split
   ·rename_i x hx
    rw[iw]
    split
    ·refine⟨rfl,fun s' v hs hg _=> ?_,fun s' p hs hg=> ?_⟩
     ·have:s≠s':=fun e=>hs (e▸hW s j rfl)
      exact(M4 _ _ _ _).trans ((if_neg this).trans hg)
     ·have:s≠s':=fun e=>hs (e▸hW s j rfl)
      exact(M4 _ _ _ _).trans ((if_neg this).trans hg)
    ·exact eH.refl _ _
   ·exact eH.refl _ _
  |box k j=>
   simp only
   split
   ·rw[iw]
    split
    ·exact⟨rfl,fun s v _ hg _=>hg,fun s p _ hg=>hg⟩
    ·exact eH.refl _ _
   ·exact eH.refl _ _
 ·exact eH.refl _ _
theorem adt{k0 k:Key}{e:iX U}(h:(re k0 σ).bP k=some e):σ.bP k=some e\/(k=k0/\∃x,σ.bP k0=some (.arr x true)/\e=.part x fun _=>false):=by
 unfold re at h
 split at h
 ·rename_i x hx
  replace h:=(Rx _ _ _ _).symm.trans h
  split at h
  ·rename_i hk
   cases h
   exact .inr ⟨hk.symm,x,hx,rfl⟩
  ·exact .inl h
 ·exact .inl h
theorem ads(k0:Key)(σ:ak U):(re k0 σ).n=σ.n/\(re k0 σ).bG=σ.bG/\(re k0 σ).aS=σ.aS:=by
 unfold re
 split
 ·exact⟨rfl,rfl,rfl⟩
 ·exact⟨rfl,rfl,rfl⟩
theorem aly(h:cR E pm F kv fp σ a w)(hc:fD E w F kv fp σ a)(k0:Key):cR E pm F kv fp (re k0 σ) a w/\fD E w F kv fp (re k0 σ) a:=by
 obtain⟨q1,q2,_⟩:=ads k0 σ
 have tv:∀s,(re k0 σ).get s=σ.get s:=fun s=>by unfold ak.get;rw[q2]
 have kE:fD E w F kv fp (re k0 σ) a:=by
  refine⟨fun s x hs=>hc.bG s x (by rw[<-tv];exact hs),fun k e hk=> ?_⟩
  rcases adt hk with hk|⟨rfl,x,hx,rfl⟩
  ·exact hc.dD k e hk
  ·exact fe.part (hc.dD _ _ hx)
 have hold:∀k e,(re k0 σ).bP k=some e->∃e',σ.bP k=some e':=by
  intro k e hk
  rcases adt hk with hk|⟨rfl,x,hx,rfl⟩
  ·exact⟨_,hk⟩
  ·exact⟨_,hx⟩
 refine⟨⟨by rw[q1];exact h.size,h.defers,fun s x hs=>(kE.bG s x hs).nL (fun y hy=>H6 fun _ _=>rfl),fun k e hk=> ?_,fun k k' e e' b fc h1 h2 hb=> ?_,fun k e hk=> ?_,fun k e b hk hb=> ?_,h.uI,h.uH,h.upto,by rw[q1];exact h.Oe,h.lay⟩,kE⟩
 ·have:=kE.dD k e hk
  cases e with
  |arr x deep=>exact this
  |part x dead=>exact this
  |box cs=>
   obtain⟨b,cur,e',g1,g2,g3,g4⟩:=this
   exact⟨b,cur,e',g1,g2,g3,g4.nL (fun y hy=>H6 fun _ _=>rfl)⟩
 ·obtain⟨e1,g1⟩:=hold k e h1
  obtain⟨e2,g2⟩:=hold k' e' h2
  exact h.apart k k' e1 e2 b fc g1 g2 hb
 ·obtain⟨e1,g1⟩:=hold k e hk
  exact h.nodup k e1 g1
 ·obtain⟨e1,g1⟩:=hold k e hk
  exact h.fT k e1 b g1 hb
theorem aaj:∀{l:List Key}{σ:ak U},(∃kv fp,cR E pm F kv fp σ a w/\fD E w F kv fp σ a)->∃kv fp,cR E pm F kv fp (parts l σ) a w/\fD E w F kv fp (parts l σ) a
 |[],σ,h=>h
 |s::l,σ,⟨kv,fp,h,hc⟩=>by
  exact aaj (l:=l) (σ:=re s σ) ⟨kv,fp,aly h hc _⟩
theorem aak(W:List Nat):∀(l:List Key)(σ:ak U),eH W σ (parts l σ)
 |[],σ=>eH.refl _ _
 |s::l,σ=>by
  refine eH.trans (τ:=re s σ) ?_ (aak W l _)
  obtain⟨q1,q2,_⟩:=ads s σ
  exact⟨q1,fun s v _ hg _=>by unfold ak.get at hg⊢;rw[q2];exact hg,fun s p _ hg=>by unfold ak.get at hg⊢;rw[q2];exact hg⟩
theorem aag:∀{l:List Nat}{σ:ak U},(∃kv fp,cR E pm F kv fp σ a w)->∃kv fp,cR E pm F kv fp (uZ l σ) a w
 |[],σ,h=>h
 |d::l,σ,h=>aag (l:=l) (ac_ h d)
theorem aah:∀(l W:List Nat)(σ:ak U),eH W σ (uZ l σ)
 |[],W,σ=>eH.refl _ _
 |d::l,W,σ=>(ada d W σ).trans (aah l W _)
theorem Vd{W:List Nat}:∀(l:List (qJ×U.Ty×Option Bool))(σ:ak U),(∀p∈l,∀s j,p.1=qJ.slot s j->s∈W)->eH W σ (PJ l σ)
 |[],σ,_=>eH.refl _ _
 |(p,ty,some d)::r,σ,h=>(alH (ty,d) σ (h _ iH)).trans (Vd r _ fun q hq=>h q (fF _ hq))
 |(p,ty,none)::r,σ,h=>(alF ty σ (h _ iH)).trans (Vd r _ fun q hq=>h q (fF _ hq))
theorem aap{β:Type}(l r:List (Nat×Option β))(s:Nat):look (l++r) s=if l.any (fun p=>Nat.beq p.1 s) then look l s else look r s:=by
 induction l with
 |nil=>simp
 |cons p l ih=>
  obtain⟨t,v⟩:=p
  simp only[zex,look,UK]
  rcases Bool.eq_false_or_eq_true (Nat.beq t s) with h|h
  ·simp[h]
  ·simp only[h,cond_false,GJ];exact ih
theorem adH{A:sS U}{wr:List Nat}{x:A.X}{s:Nat}{v:SV U}(h:(mJ A wr σ x).get s=some v):
  (s,v)∈A.bG x\/(s∉wr/\s∉A.names/\σ.get s=some v/\((∃y,v=.v y/\(SV.v y).keys=[])\/∃p,v=.fn p)):=by
 unfold ak.get mJ at h
 simp only at h
 rw[aap] at h
 split at h
 ·left
  have:=K0 h
  obtain⟨⟨s',v'⟩,hp,e⟩:=mz.1 this
  simp only[pE,gI] at e
  obtain⟨rfl,rfl⟩:=e
  exact hp
 ·right
  have hm:=xR.1 (K0 h)
  have h1:=Rv KV.1 hm.1
  rw[KW (by simp)] at h1
  have h2:=hm.2
  simp only[cN,qK,<-wI,vD,HQ] at h2
  obtain⟨⟨h3,h4⟩,h5⟩:=h2
  refine⟨fun e=>h3 ⟨s,e,rfl⟩,fun e=>h4 ⟨s,e,rfl⟩,h1,?_⟩
  cases v with
  |v y=>exact .inl ⟨y,rfl,by simpa using h5⟩
  |wR xs=>cases h5
  |fn p=>exact .inr ⟨p,rfl⟩
  |Hy g xs=>cases h5
theorem amk{A:sS U}{wr:List Nat}{x:A.X}{s:Nat}{y:AV U}(hw:s∉wr)(hn:s∉A.names)(hg:σ.get s=some (.v y))(hk:(SV.v y).keys=[]):
  (mJ A wr σ x).get s=some (.v y):=by
 unfold ak.get mJ
 simp only
 rw[aap,if_neg]
 ·refine Rv (Vb KV.1) (xR.2 ⟨K0 (by rw[KW (by simp)];exact hg),?_⟩)
  simp only[cN,qK,<-wI,vD,HQ]
  exact⟨⟨fun⟨t,h1,h2⟩=>hw (h2▸h1),fun⟨t,h1,h2⟩=>hn (h2▸h1)⟩,by simp[hk]⟩
 ·simp only[QW,vD,Function.comp,HQ]
  rintro⟨p,hp,rfl⟩
  exact hn (A.inn x p hp)
theorem aml{A:sS U}{wr:List Nat}{x:A.X}{s:Nat}{p:List (DA U)->Option Value}(hw:s∉wr)(hn:s∉A.names)(hg:σ.get s=some (.fn p)):
  (mJ A wr σ x).get s=some (.fn p):=by
 unfold ak.get mJ
 simp only
 rw[aap,if_neg]
 ·refine Rv (Vb KV.1) (xR.2 ⟨K0 (by rw[KW (by simp)];exact hg),?_⟩)
  simp only[cN,qK,<-wI,vD,HQ]
  exact⟨⟨fun⟨t,h1,h2⟩=>hw (h2▸h1),fun⟨t,h1,h2⟩=>hn (h2▸h1)⟩,by simp⟩
 ·simp only[QW,vD,Function.comp,HQ]
  rintro⟨p,hp,rfl⟩
  exact hn (A.inn x p hp)
theorem adI{A:sS U}{wr:List Nat}{x:A.X}{k:Key}{e:iX U}(h:(mJ A wr σ x).bP k=some e):(k,e)∈A.dD x:=by
 have:=Gq (show eY ((A.dD x).map fun(k,e)=>(k,some e)) k=some e from h)
 obtain⟨⟨k',e'⟩,hp,e⟩:=mz.1 this
 simp only[pE,gI] at e
 obtain⟨rfl,rfl⟩:=e
 exact hp
theorem alC(h:cR E pm F kv fp σ a w){q:Operand}{v:Value}(hb:Ap σ q=some v):a.eval q=v:=by
 unfold Ap GP at hb
 split at hb
 ·rename_i sc hsc;exact qB (EF h hsc) hb
 ·cases hb
variable{oV:Nat->Option (sS U)}
theorem U3(hE:E.Good)(c:Code):∀{F:Nat->Prop}{kv:Key->Value}{fp:Key->List Nat}{σ:ak U}{a:Act}{w:World}{Q:Out U->Prop}{Q':Exit->Act->World->Prop},
  cR E pm F kv fp σ a w->AM.wp E oV c σ Q->
  (∀o,Q o->eH (gP oV c) σ o.st->∀F kv fp a' w',cR E pm F kv fp o.st a' w'->Q' o.ex a' w')->c.wp E.P Q' a w:=by
 induction c with
 |skip=>
  intro F kv fp σ a w Q Q' h hw hq
  exact wp_skip (hq _ hw (eH.refl _ _) F kv fp a w h)
 |ret=>
  intro F kv fp σ a w Q Q' h hw hq
  exact wp_ret (hq _ hw (eH.refl _ _) F kv fp a w h)
 |exit id=>
  intro F kv fp σ a w Q Q' h hw hq
  exact wp_exit (hq _ hw (eH.refl _ _) F kv fp a w h)
 |region id ops draw=>
  intro F kv fp σ a w Q Q' h hw hq
  exact als hE h (show xV E ops.toList draw σ _ from hw) (fun my F kv fp a' w' hk jg hs=>hq (.normal my) hk jg F kv fp a' w' hs)
 |seq x y ihx ihy=>
  intro F kv fp σ a w Q Q' h hw hq
  simp only[AM.wp] at hw
  refine wp_seq (ihx h hw (fun o ho hk F kv fp a' w' hs=> ?_))
  have AB:eH (gP oV (.seq x y)) σ o.st:=hk.mono fun s hs=>rW _ hs
  cases o with
  |normal my=>
   refine ihy hs ho (fun o' Ss cY F kv fp a' w' kE=>hq o' Ss (AB.trans (cY.mono fun s hs=>qM _ hs)) F kv fp a' w' kE)
  |exit id my=>exact hq _ ho AB F kv fp a' w' hs
  |ret my=>exact hq _ ho AB F kv fp a' w' hs
 |cond q x y ihx ihy=>
  intro F kv fp σ a w Q Q' h hw hq
  simp only[AM.wp] at hw
  split at hw
  ·rename_i b hb
   have he:=alC h hb
   refine wp_cond he ?_
   cases b with
   |true=>exact ihx h hw (fun o ho hk=>hq o ho (hk.mono fun s hs=>rW _ hs))
   |false=>exact ihy h hw (fun o ho hk=>hq o ho (hk.mono fun s hs=>qM _ hs))
  ·exact hw.elim
 |block id x ih=>
  intro F kv fp σ a w Q Q' h hw hq
  simp only[AM.wp] at hw
  refine wp_block (ih h hw (fun o ho hk F kv fp a' w' hs=> ?_))
  cases o with
  |normal my=>exact hq (.normal my) ho hk F kv fp a' w' hs
  |exit id' my=>
   simp only at ho
   rw[iw] at ho
   by_cases hid:id'=id
   ·subst hid
    rw[if_pos (by simp)] at ho
    have:=hq (.normal my) ho hk F kv fp a' w' hs
    simpa[Exit.inBlock,Out.ex] using this
   ·rw[if_neg (by simpa using hid)] at ho
    have:=hq (.exit id' my) ho hk F kv fp a' w' hs
    simpa[Exit.inBlock,Out.ex,hid] using this
  |ret my=>exact hq (.ret my) ho hk F kv fp a' w' hs
 |loop x ih=>
  intro F kv fp σ a w Q Q' h hw hq
  simp only[AM.wp] at hw
  split at hw
  ·rename_i A hA
   obtain⟨x0,⟨hI0,aa1⟩,anx,anS⟩:=A.law _ _ hw
   have Sm:gP oV (.loop x)=gP oV x++A.names:=by simp only[gP,hA]
   have start:∀{my:ak U}{F kv fp a' w'}(z:A.X),cR E pm F kv fp my a' w'->my.n=σ.n->
     (∀s y,s∉gP oV x->s∉A.names->σ.get s=some (.v y)->(SV.v y).keys=[]->my.get s=some (.v y))->
     (∀s p,s∉gP oV x->s∉A.names->σ.get s=some (.fn p)->my.get s=some (.fn p))->
     (∀p∈A.bG z,(Gs A my).get p.1=some p.2)->(∀p∈A.dD z,(Gs A my).bP p.1=some p.2)->∃F kv fp,cR E pm F kv fp (mJ A (gP oV x) σ z) a' w':=by
    intro my F kv fp a' w' z hs hn jg Iy h1 h2
    obtain⟨kvS,fpS,hS⟩:=aag (l:=A.names) ⟨kv,fp,H0 hs (fun _=>false)⟩
    obtain⟨kvB,fpB,hB⟩:=U6 (l:=boxes (uZ A.names (jN my))) ⟨kvS,fpS,hS⟩
    obtain⟨FZ,abN,hS1,hS2⟩:=ac5 (l:=A.Xf) (H0 hB (fun _=>false)) (Rt hB _)
    obtain⟨F3,kv3,fp3,g1,g2⟩:=Vn (l:=A.XR) (Vl (l:=A.XQ) ⟨FZ,kvB,abN,hS1,hS2⟩)
    obtain⟨kv2,fp2,s1,s2⟩:=aaj (l:=A.Xg) (Vc (l:=A.nil) ⟨kv3,fp3,g1,g2⟩)
    have hnk:eH A.names (jN my) (Gs A my):=(((((((aah A.names A.names (jN my)).trans (U7 _ _ _)).trans (KY _ _ _)).trans (ac6 _ _ _)).trans (Vm _ _ _)).trans (Vo _ _ _)).trans (Vd (W:=A.names) A.nil _ A.nin)).trans (aak _ _ _)
    refine⟨F3,kv2,fp2,s1.less (τ:=mJ A (gP oV x) σ z) (hn.symm.trans hnk.n.symm) s2 (fun s v hv=> ?_) (fun k e he=> ?_)⟩
    ·rcases adH hv with hm|⟨g1,g2,g3,⟨y,rfl,g5⟩|⟨p,rfl⟩⟩
     ·exact h1 _ hm
     rotate_left
     ·exact hnk.fn s p g2 ((KY _ [] _).fn s p (by simp) (Iy s p g1 g2 g3))
     ·exact hnk.get s y g2 ((KY _ [] _).get s y (by simp) (jg s y g1 g2 g3 g5) g5) g5
    ·exact h2 _ (adI he)
   obtain⟨F0,Lp,Wo,hs0⟩:=start x0 h rfl (fun s y _ _ hg _=>hg) (fun s p _ _ hg=>hg) anx anS
   refine wp_loop_ghost (fun n a w=>∃y:A.X,A.I x0 y/\A.μ y=n/\∃F kv fp,cR E pm F kv fp (mJ A (gP oV x) σ y) a w) (A.μ x0)
    ⟨x0,hI0,rfl,F0,Lp,Wo,hs0⟩ ?_
   rintro n a1 w1 ⟨y,hI,rfl,F1,kv1,fp1,hs1⟩
   refine ih hs1 (A.TK _ aa1 y hI) (fun o ho hk F kv fp a' w' hs=> ?_)
   have jg:∀s v,s∉gP oV x->s∉A.names->σ.get s=some (.v v)->(SV.v v).keys=[]->o.st.get s=some (.v v):=
    fun s v g1 g2 g3 g4=>hk.get s v g1 (amk g1 g2 g3 g4) g4
   have Iy:∀s p,s∉gP oV x->s∉A.names->σ.get s=some (.fn p)->o.st.get s=some (.fn p):=
    fun s p g1 g2 g3=>hk.fn s p g1 (aml g1 g2 g3)
   have E_:eH (gP oV (.loop x)) σ o.st:=by
    refine⟨hk.n,fun s v g1 g3 g4=> ?_,fun s p g1 g3=> ?_⟩
    ·rw[Sm,jI,not_or] at g1
     exact jg s v g1.1 g1.2 g3 g4
    ·rw[Sm,jI,not_or] at g1
     exact Iy s p g1.1 g1.2 g3
   cases o with
   |normal my=>
    obtain⟨z,⟨hIz,gy⟩,hsl,SH⟩:=A.law _ _ ho
    obtain⟨F2,kv2,fp2,hs2⟩:=start z hs hk.n jg Iy hsl SH
    exact⟨A.μ z,gy,z,hIz,rfl,F2,kv2,fp2,hs2⟩
   |exit id my=>exact hq _ ho E_ F kv fp a' w' hs
   |ret my=>exact hq _ ho E_ F kv fp a' w' hs
  ·exact hw.elim
 |_=>
  intros
  rename_i hw _
  exact hw.elim
def ae2(A:sS U)(Q:Out U->Prop):Out U->Prop
 | .normal σ=>A.un (Gs A σ) fun z=>A.I z z
 |o=>Q o
def WpS(E:Env U)(c:Code)(τ:ak U)(Q:Out U->Prop):Prop:=
 ∀{pm:Pm}{F:Nat->Prop}{kv:Key->Value}{fp:Key->List Nat}{a:Act}{w:World}{Q':Exit->Act->World->Prop},
  cR E pm F kv fp τ a w->(∀o,Q o->∀F kv fp a' w',cR E pm F kv fp o.st a' w'->Q' o.ex a' w')->c.wp E.P Q' a w
theorem MM(hE:E.Good){c:Code}{τ:ak U}{Q:Out U->Prop}(h:AM.wp E oV c τ Q):WpS E c τ Q:=fun hs hq=>U3 hE c hs h (fun o ho _=>hq o ho)
theorem amS{A:sS U}{n:Nat}{my:ak U}(hn:my.n=n)(hs:cR E pm F kv fp my a w){z:A.X}(h1:∀p∈A.bG z,(Gs A my).get p.1=some p.2)(h2:∀p∈A.dD z,(Gs A my).bP p.1=some p.2):
  ∃F kv fp,cR E pm F kv fp (mJ A [] ⟨n,[],[],[]⟩ z) a w:=by
 obtain⟨kvS,fpS,hS⟩:=aag (l:=A.names) ⟨kv,fp,H0 hs (fun _=>false)⟩
 obtain⟨kvB,fpB,hB⟩:=U6 (l:=boxes (uZ A.names (jN my))) ⟨kvS,fpS,hS⟩
 obtain⟨FZ,abN,hS1,hS2⟩:=ac5 (l:=A.Xf) (H0 hB (fun _=>false)) (Rt hB _)
 obtain⟨F3,kv3,fp3,g1,g2⟩:=Vn (l:=A.XR) (Vl (l:=A.XQ) ⟨FZ,kvB,abN,hS1,hS2⟩)
 obtain⟨kv2,fp2,s1,s2⟩:=aaj (l:=A.Xg) (Vc (l:=A.nil) ⟨kv3,fp3,g1,g2⟩)
 have hnk:eH A.names (jN my) (Gs A my):=(((((((aah A.names A.names (jN my)).trans (U7 _ _ _)).trans (KY _ _ _)).trans (ac6 _ _ _)).trans (Vm _ _ _)).trans (Vo _ _ _)).trans (Vd (W:=A.names) A.nil _ A.nin)).trans (aak _ _ _)
 refine⟨F3,kv2,fp2,s1.less (τ:=mJ A [] ⟨n,[],[],[]⟩ z) (hn.symm.trans hnk.n.symm) s2 (fun s v hv=> ?_) (fun k e he=> ?_)⟩
 ·rcases adH hv with hm|⟨_,_,g3,_⟩
  ·exact h1 _ hm
  ·cases g3
 ·exact h2 _ (adI he)
theorem amT(hE:E.Good){r n:Nat}{A:sS U}{Q:Out U->Prop}:∀{c:Code}{p:Code×Code}{σ:ak U},Qs r c=some p->σ.n=n->
  AM.wp E oV p.1 σ (ae2 A Q)->(∀y,A.I y y->AM.wp E oV p.2 (mJ A [] ⟨n,[],[],[]⟩ y) Q)->WpS E c σ Q:=by
 intro c
 induction c with
 |seq x y ihx ihy=>
  intro p σ hc hn h1 h2 pm F kv fp a w Q' hs hq
  simp only[Qs,iw] at hc
  split at hc
  ·cases hc
   refine wp_seq (U3 hE x hs h1 (fun o ho hk F kv fp a' w' kE=> ?_))
   cases o with
   |normal my=>
    obtain⟨z,hI,hsl,SH⟩:=A.law _ _ (show A.un (Gs A my) (fun z=>A.I z z) from ho)
    obtain⟨F3,kv3,fp3,g⟩:=amS (hk.n.trans hn) kE hsl SH
    exact U3 hE y g (h2 z hI) (fun o' Ss _=>hq o' Ss)
   |exit id my=>exact hq _ ho F kv fp a' w' kE
   |ret my=>exact hq _ ho F kv fp a' w' kE
  ·split at hc
   ·rename_i q hb
    cases hc
    simp only[AM.wp] at h1
    refine wp_seq (U3 hE x hs h1 (fun o ho hk F kv fp a' w' kE=> ?_))
    cases o with
    |normal my=>exact ihy hb (hk.n.trans hn) ho h2 kE hq
    |exit id my=>exact hq _ ho F kv fp a' w' kE
    |ret my=>exact hq _ ho F kv fp a' w' kE
   ·cases hc
 |_=>intro p σ hc;cases hc
end AM
