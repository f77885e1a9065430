import Derived.Test.YtknfcngfhlpaeaaGreatDoorQAmWp
namespace AM
set_option linter.unusedVariables false
open Go
variable{U:kz}{E:Env U}{pm:Pm}
variable{F F':Nat->Prop}{kv kv':Key->Value}{fp fp':Key->List Nat}{σ τ:ak U}{a:Act}{w w':World}
def Out.st:Out U->ak U
 | .normal σ=>σ
 | .exit _ σ=>σ
 | .ret σ=>σ
def Out.ex:Out U->Exit
 | .normal _=> .normal
 | .exit id _=> .exit id
 | .ret _=> .ret
theorem cG.less(h:cG E pm F kv fp σ a w)(hn:τ.n=σ.n)(hc:e7 E w F kv fp σ a)
  (hg:∀s x,τ.get s=some x->σ.get s=some x) (he:∀k e,τ.bH k=some e->σ.bH k=some e):cG E pm F kv fp τ a w:=by
 refine⟨by rw[hn];exact h.size,h.defers,fun s x hs=> ?_,fun k e hk=> ?_,fun k k' e e' b d_ h1 h2=>h.apart k k' e e' b d_ (he k e h1) (he k' e' h2),
  fun k e hk=>h.nodup k e (he k e hk),fun k e b hk=>h.fj k e b (he k e hk),h.sO,h.sN,h.upto,by rw[hn];exact h.Lg,h.lay⟩
 ·exact(hc.bx s x (hg s x hs)).mn (fun y hy=>FN fun _ _=>rfl)
 ·have:=hc.cW k e (he k e hk)
  cases e with
  |arr x deep=>exact this
  |part x dead=>exact this
  |box cs=>
   obtain⟨b,cur,e',g1,g2,g3,g4⟩:=this
   exact⟨b,cur,e',g1,g2,g3,g4.mn (fun y hy=>FN fun _ _=>rfl)⟩
theorem aht{k:Key}(h:unnamed k σ=true):¬Names σ k:=by
 unfold unnamed at h
 simp only[cH,sh] at h
 rintro(⟨s,x,hs,hk⟩|⟨k',cs,he,x,hx,hk⟩)
 ·have:=h.1 _ (H7 hs)
  simp only[pc,<-uO,q_] at this
  exact this hk
 ·have:=h.2 _ (D6 he)
  simp only[pc,<-uO,tI] at this
  exact this ⟨x,hx,tI.1 (q_.2 hk)⟩
theorem cG.row(h:cG E pm F kv fp σ a w)(hc:e7 E w F kv fp σ a){k0:Key}(Am:σ.bH k0=none)(Sm:¬Names σ k0)(am0:1024<=k0.2){ty:U.Ty}{d0:Bool}{v0:Value}(O0:∃ad,v0=.slice ad 0 0)(hn:τ.n=σ.n)
  (hg:∀s x,τ.get s=some x->σ.get s=some x\/∃y j,σ.get s=some (.v y)/\y.cs[j]? =some .e0/\x=.v ⟨y.agg,y.cs.set j (.ref k0 [])⟩/\∀vs,kU E w F kv fp (fun _=>false) y.cs vs->(if y.agg then a.tmps.getD s undef=.agg vs.toArray else vs=[a.tmps.getD s undef])->vs[j]? =some v0)
  (he:∀k e,τ.bH k=some e->(k=k0/\e=.arr ⟨ty,[]⟩ d0)\/σ.bH k=some e\/∃cs j,σ.bH k=some (.box cs)/\cs[j]? =some .e0/\e=.box (cs.set j (.ref k0 []))/\∀b cur ety,kv k=.pointer (some ⟨b,0,none⟩)->w.heap[b]? =some (.cells cur ety (0,0))->cur.toList[j]? =some v0):
  ∃kv fp,cG E pm F kv fp τ a w/\e7 E w F kv fp τ a:=by
 classical
 let kv':Key->Value:=fun k=>if k=k0 then v0 else kv k
 let fp':Key->List Nat:=fun k=>if k=k0 then[] else fp k
 have MR:∀k,k≠k0->kv' k=kv k:=fun k hk=>if_neg hk
 have rl:∀k,k≠k0->fp' k=fp k:=fun k hk=>if_neg hk
 have abV:kv' k0=v0:=if_pos rfl
 have Ph:fp' k0=[]:=if_pos rfl
 have oW:∀k,Names σ k->oQ w w kv kv' fp fp' (fun _=>false) (fun _=>false) k:=by
  intro k hk
  have:k≠k0:=fun e=>Sm (e▸hk)
  exact⟨MR k this,.inr ⟨rfl,rl k this,fun _ _=>rfl⟩⟩
 have hF:∀b,F b->F b/\w.heap[b]? =w.heap[b]? :=fun b hb=>⟨hb,rfl⟩
 have O5:∀{cs:List (AC U)}{vs:List Value}{j:Nat},kU E w F kv fp (fun _=>false) cs vs->(∀x∈cs,∀k∈x.keys,Names σ k)->vs[j]? =some v0->kU E w F kv' fp' (fun _=>false) (cs.set j (.ref k0 [])) vs:=by
  intro cs vs j hd tW hj
  have Ao:kU E w F kv' fp' (fun _=>false) cs vs:=hd.move (fun x hx k hk=>oW k (tW x hx k hk)) hF
  refine⟨by simpa using hd.1,fun i x v hx hv=> ?_⟩
  rw[Ts] at hx
  split at hx
  ·rename_i D2
   subst D2
   split at hx
   ·cases hx
    rw[hv] at hj
    cases hj
    obtain⟨ad,rfl⟩:=O0
    exact⟨⟨rfl,trivial⟩,.inr (by simp only[RA];rw[abV];rfl)⟩
   ·cases hx
  ·exact Ao.2 i x v hx hv
 have jK:e7 E w F kv' fp' τ a:=by
  refine⟨fun s x hs=> ?_,fun k e hk=> ?_⟩
  ·rcases hg s x hs with g|⟨y,j,g1,g2,rfl,g4⟩
   ·exact(hc.bx s x g).move (fun k hk=>oW k (.inl ⟨s,x,g,hk⟩)) hF
   ·obtain⟨vs,r1,r2⟩:=hc.bx s _ g1
    exact⟨vs,O5 r1 (fun x hx k hk=> .inl ⟨s,_,g1,SV.mem_keys.2 ⟨x,hx,hk⟩⟩) (g4 vs r1 r2),r2⟩
  ·rcases he k e hk with⟨rfl,rfl⟩|g|⟨cs,j,g1,g2,rfl,g4⟩
   ·obtain⟨ad,rfl⟩:=O0
    exact .inl ⟨rfl,⟨ad,abV⟩,Ph⟩
   ·have d_:k≠k0:=fun e'=>by rw[e',Am] at g;cases g
    have:=hc.cW k e g
    rw[MR k d_,rl k d_]
    cases e with
    |arr x deep=>exact this
    |part x dead=>exact this
    |box cs=>
     obtain⟨b,cur,e',r1,r2,r3,r4⟩:=this
     exact⟨b,cur,e',r1,r2,r3,r4.move (fun x hx k' cK=>oW k' (.inr ⟨k,cs,g,x,hx,cK⟩)) hF⟩
   ·have d_:k≠k0:=fun e'=>by rw[e',Am] at g1;cases g1
    obtain⟨b,cur,e',r1,r2,r3,r4⟩:=hc.cW k _ g1
    rw[MR k d_,rl k d_]
    exact⟨b,cur,e',r1,r2,r3,O5 r4 (fun x hx k' cK=> .inr ⟨k,cs,g1,x,hx,cK⟩) (g4 b cur e' r1 r2)⟩
 have hold:∀k e,τ.bH k=some e->k≠k0->∃e',σ.bH k=some e':=by
  intro k e hk d_
  rcases he k e hk with⟨rfl,_⟩|g|⟨cs,j,g1,_⟩
  ·exact absurd rfl d_
  ·exact⟨_,g⟩
  ·exact⟨_,g1⟩
 refine⟨kv',fp',⟨by rw[hn];exact h.size,h.defers,fun s x hs=>(jK.bx s x hs).mn (fun y hy=>FN fun _ _=>rfl),fun k e hk=> ?_,fun k k' e e' b d_ h1 h2 hb=> ?_,fun k e hk=> ?_,fun k e b hk hb=> ?_,h.sO,h.sN,h.upto,fun k v hp=> ?_,h.lay⟩,jK⟩
 ·have:=jK.cW k e hk
  cases e with
  |arr x deep=>exact this
  |part x dead=>exact this
  |box cs=>
   obtain⟨b,cur,e',g1,g2,g3,g4⟩:=this
   exact⟨b,cur,e',g1,g2,g3,g4.mn (fun y hy=>FN fun _ _=>rfl)⟩
 ·by_cases hk:k=k0
  ·rw[hk,Ph] at hb;cases hb
  ·by_cases cK:k'=k0
   ·rw[cK,Ph];exact LX
   ·obtain⟨e1,g1⟩:=hold k e h1 hk
    obtain⟨e2,g2⟩:=hold k' e' h2 cK
    rw[rl k hk] at hb
    rw[rl k' cK]
    exact h.apart k k' e1 e2 b d_ g1 g2 hb
 ·by_cases cK:k=k0
  ·rw[cK,Ph];exact VV
  ·obtain⟨e1,g1⟩:=hold k e hk cK
   rw[rl k cK];exact h.nodup k e1 g1
 ·by_cases cK:k=k0
  ·rw[cK,Ph] at hb;cases hb
  ·obtain⟨e1,g1⟩:=hold k e hk cK
   rw[rl k cK] at hb;exact h.fj k e1 b g1 hb
 ·obtain⟨p1,p2,p3,p4⟩:=h.Lg k v hp
  refine⟨p1,p2,by rw[hn];exact p3,?_⟩
  rw[MR k (fun e=>by rw[e] at p2;omega)];exact p4
theorem cG.ZK(h:cG E pm F kv fp σ a w)(hc:e7 E w F kv fp σ a)(hn:τ.n=σ.n)
  (hg:∀s x,τ.get s=some x->σ.get s=some x\/∃y j ty,σ.get s=some (.v y)/\y.cs[j]? =some .e0/\x=.v ⟨y.agg,y.cs.set j (.c (.sl ty []))⟩)
  (he:∀k e,τ.bH k=some e->σ.bH k=some e\/∃cs j ty,σ.bH k=some (.box cs)/\cs[j]? =some .e0/\e=.box (cs.set j (.c (.sl ty [])))):
  cG E pm F kv fp τ a w/\e7 E w F kv fp τ a:=by
 have O5:∀{cs:List (AC U)}{vs:List Value}{j:Nat}{ty:U.Ty},kU E w F kv fp (fun _=>false) cs vs->cs[j]? =some .e0->kU E w F kv fp (fun _=>false) (cs.set j (.c (.sl ty []))) vs:=by
  intro cs vs j ty hd hj
  refine⟨by simpa using hd.1,fun i x v hx hv=> ?_⟩
  rw[Ts] at hx
  split at hx
  ·rename_i D2
   subst D2
   split at hx
   ·cases hx
    obtain⟨g1,g2⟩:=hd.2 j _ v hj hv
    refine⟨g1,.inr ?_⟩
    rcases g2 with g2|⟨ad,rfl⟩
    ·cases g2
    ·exact .nil false ty ad 0 (fun _=>rfl)
   ·cases hx
  ·exact hd.2 i x v hx hv
 have jK:e7 E w F kv fp τ a:=by
  refine⟨fun s x hs=> ?_,fun k e hk=> ?_⟩
  ·rcases hg s x hs with g|⟨y,j,ty,g1,g2,rfl⟩
   ·exact hc.bx s x g
   ·obtain⟨vs,r1,r2⟩:=hc.bx s _ g1
    exact⟨vs,O5 r1 g2,r2⟩
  ·rcases he k e hk with g|⟨cs,j,ty,g1,g2,rfl⟩
   ·exact hc.cW k e g
   ·obtain⟨b,cur,e',r1,r2,r3,r4⟩:=hc.cW k _ g1
    exact⟨b,cur,e',r1,r2,r3,O5 r4 g2⟩
 have hold:∀k e,τ.bH k=some e->∃e',σ.bH k=some e':=by
  intro k e hk
  rcases he k e hk with g|⟨cs,j,ty,g1,_⟩
  ·exact⟨_,g⟩
  ·exact⟨_,g1⟩
 refine⟨⟨by rw[hn];exact h.size,h.defers,fun s x hs=>(jK.bx s x hs).mn (fun y hy=>FN fun _ _=>rfl),fun k e hk=> ?_,fun k k' e e' b d_ h1 h2 hb=> ?_,fun k e hk=> ?_,fun k e b hk hb=> ?_,h.sO,h.sN,h.upto,fun k v hp=> ?_,h.lay⟩,jK⟩
 ·have:=jK.cW k e hk
  cases e with
  |arr x deep=>exact this
  |part x dead=>exact this
  |box cs=>
   obtain⟨b,cur,e',g1,g2,g3,g4⟩:=this
   exact⟨b,cur,e',g1,g2,g3,g4.mn (fun y hy=>FN fun _ _=>rfl)⟩
 ·obtain⟨e1,g1⟩:=hold k e h1
  obtain⟨e2,g2⟩:=hold k' e' h2
  exact h.apart k k' e1 e2 b d_ g1 g2 hb
 ·obtain⟨e1,g1⟩:=hold k e hk
  exact h.nodup k e1 g1
 ·obtain⟨e1,g1⟩:=hold k e hk
  exact h.fj k e1 b g1 hb
 ·obtain⟨p1,p2,p3,p4⟩:=h.Lg k v hp
  exact⟨p1,p2,by rw[hn];exact p3,p4⟩
theorem RC{x:Option (AC U)}:MD x=true↔x=some .e0:=by
 unfold MD
 split
 ·simp
 ·rename_i h;simp only[wb,false_iff];exact fun e=>h e
theorem N7{β:Type}(k k':Key)(v:Option β)(l:List (Key×Option β)):dW ((k,v)::l) k'=if k=k' then v else dW l k':=by
 simp only[dW]
 by_cases h:k=k'
 ·rw[og.2 h,if_pos h];rfl
 ·rw[J2.2 h,if_neg h];rfl
theorem J1{β:Type}(k k':Nat)(v:Option β)(l:List (Nat×Option β)):look ((k,v)::l) k'=if k=k' then v else look l k':=by
 simp only[look]
 by_cases h:k=k'
 ·rw[if_pos h,(by simpa using h:Nat.beq k k'=true)];rfl
 ·rw[if_neg h,(by rw[<-uO,Fv];exact h:Nat.beq k k'=false)];rfl
theorem PR{x:AC U}{v:Value}(h:RD E w F kv fp (fun _=>false) x v)(hx:x=.e0):∃ad,v=.slice ad 0 0:=by
 subst hx
 exact ca h rfl
theorem aia{p:pb}{ty:U.Ty×Bool}(h:cG E pm F kv fp σ a w)(hc:e7 E w F kv fp σ a):∃kv fp,cG E pm F kv fp (Mx p ty σ) a w/\e7 E w F kv fp (Mx p ty σ) a:=by
 have same:∃kv fp,cG E pm F kv fp σ a w/\e7 E w F kv fp σ a:=⟨kv,fp,h,hc⟩
 unfold Mx
 rw[gI]
 split
 ·rename_i mi
  simp only[cH,Nt,Option.isNone_iff_eq_none] at mi
  obtain⟨⟨c1,c2⟩,c3⟩:=mi
  have TS:=aht c2
  cases p with
  |slot s j=>
   simp only
   split
   ·rename_i x hx
    rw[gI]
    split
    ·rename_i mD
     have mD:=RC.1 mD
     obtain⟨vs,r1,r2⟩:=hc.bx s _ hx
     have fU:j<vs.length:=by
      rw[<-r1.1]
      rcases nL j x.cs.length with g|g
      ·exact g
      ·rw[nb g] at mD;cases mD
     have hvj:vs[j]? =some vs[j]:=eW fU
     refine h.row hc (τ:={σ with bx:=(s,some (.v ⟨x.agg,x.cs.set j (.ref (pb.slot s j).key [])⟩))::σ.bx,nG:=((pb.slot s j).key,some (.arr ⟨ty.1,[]⟩ ty.2))::σ.nG})
      (k0:=(pb.slot s j).key) c1 TS c3 (ty:=ty.1) (d0:=ty.2) (v0:=vs[j]) (PR (r1.2 j _ _ mD hvj) rfl) rfl (fun s' x' jK=> ?_) (fun k e hk=> ?_)
     ·replace jK:=(J1 _ _ _ _).symm.trans jK
      split at jK
      ·rename_i e;subst e
       cases jK
       refine .inr ⟨x,j,hx,mD,rfl,fun uP r1' Rh=> ?_⟩
       have:uP=vs:=by
        cases Q2:x.agg
        ·rw[Q2] at r2 Rh;simp only[wb,if_false] at r2 Rh;rw[r2,Rh]
        ·rw[Q2] at r2 Rh;simp only[if_true] at r2 Rh
         rw[r2] at Rh
         simpa using Rh.symm
       rw[this];exact hvj
      ·exact .inl jK
     ·replace hk:=(N7 _ _ _ _).symm.trans hk
      split at hk
      ·rename_i e;cases hk;exact .inl ⟨e.symm,rfl⟩
      ·exact .inr (.inl hk)
    ·exact same
   ·exact same
  |box k1 j=>
   simp only
   split
   ·rename_i cs hx
    rw[gI]
    split
    ·rename_i mD
     have mD:=RC.1 mD
     obtain⟨b,cur,e',r1,r2,r3,r4⟩:=hc.cW k1 _ hx
     have fU:j<cur.toList.length:=by
      rw[<-r4.1]
      rcases nL j cs.length with g|g
      ·exact g
      ·rw[nb g] at mD;cases mD
     have hvj:cur.toList[j]? =some cur.toList[j]:=eW fU
     refine h.row hc (τ:={σ with nG:=((pb.box k1 j).key,some (.arr ⟨ty.1,[]⟩ ty.2))::(k1,some (.box (cs.set j (.ref (pb.box k1 j).key []))))::σ.nG})
      (k0:=(pb.box k1 j).key) c1 TS c3 (ty:=ty.1) (d0:=ty.2) (v0:=cur.toList[j]) (PR (r4.2 j _ _ mD hvj) rfl) rfl (fun s' x' jK=> .inl jK) (fun k e hk=> ?_)
     replace hk:=(N7 _ _ _ _).symm.trans hk
     split at hk
     ·rename_i e;cases hk;exact .inl ⟨e.symm,rfl⟩
     ·rw[N7] at hk
      split at hk
      ·rename_i e;cases hk
       subst e
       refine .inr (.inr ⟨cs,j,hx,mD,rfl,fun b2 am' e2 g1 g2=> ?_⟩)
       rw[r1] at g1;cases g1
       rw[r2] at g2;cases g2
       exact hvj
      ·exact .inr (.inl hk)
    ·exact same
   ·exact same
 ·exact same
theorem ah'{p:pb}{ty:U.Ty}(h:cG E pm F kv fp σ a w)(hc:e7 E w F kv fp σ a):cG E pm F kv fp (Mw p ty σ) a w/\e7 E w F kv fp (Mw p ty σ) a:=by
 have same:cG E pm F kv fp σ a w/\e7 E w F kv fp σ a:=⟨h,hc⟩
 unfold Mw
 cases p with
 |slot s j=>
  simp only
  split
  ·rename_i x hx
   rw[gI]
   split
   ·rename_i mD
    have mD:=RC.1 mD
    refine h.ZK hc (τ:={σ with bx:=(s,some (.v ⟨x.agg,x.cs.set j (.c (.sl ty []))⟩))::σ.bx}) rfl (fun s' x' jK=> ?_) (fun k e hk=> .inl hk)
    replace jK:=(J1 _ _ _ _).symm.trans jK
    split at jK
    ·rename_i e;subst e
     cases jK
     exact .inr ⟨x,j,ty,hx,mD,rfl⟩
    ·exact .inl jK
   ·exact same
  ·exact same
 |box k1 j=>
  simp only
  split
  ·rename_i cs hx
   rw[gI]
   split
   ·rename_i mD
    have mD:=RC.1 mD
    refine h.ZK hc (τ:={σ with nG:=(k1,some (.box (cs.set j (.c (.sl ty [])))))::σ.nG}) rfl (fun s' x' jK=> .inl jK) (fun k e hk=> ?_)
    replace hk:=(N7 _ _ _ _).symm.trans hk
    split at hk
    ·rename_i e;cases hk
     subst e
     exact .inr ⟨cs,j,ty,hx,mD,rfl⟩
    ·exact .inl hk
   ·exact same
  ·exact same
theorem Ru:∀{l:List (pb×U.Ty×Option Bool)}{σ:ak U},(∃kv fp,cG E pm F kv fp σ a w/\e7 E w F kv fp σ a)->∃kv fp,cG E pm F kv fp (Mv l σ) a w/\e7 E w F kv fp (Mv l σ) a
 |[],σ,h=>h
 |(p,ty,some d)::r,σ,⟨kv,fp,h,hc⟩=>Ru (l:=r) (aia h hc)
 |(p,ty,none)::r,σ,⟨kv,fp,h,hc⟩=>Ru (l:=r) ⟨kv,fp,ah' h hc⟩
theorem ah_{p:pb}{W:List Nat}(ty:U.Ty)(σ:ak U)(hW:∀s j,p=.slot s j->s∈W):dH W σ (Mw p ty σ):=by
 unfold Mw
 cases p with
 |slot s j=>
  simp only
  split
  ·rename_i x hx
   rw[gI]
   split
   ·refine⟨rfl,fun s' v hs hg _=> ?_,fun s' p hs hg=> ?_⟩
    ·have:s≠s':=fun e=>hs (e▸hW s j rfl)
     exact(J1 _ _ _ _).trans ((if_neg this).trans hg)
    ·have:s≠s':=fun e=>hs (e▸hW s j rfl)
     exact(J1 _ _ _ _).trans ((if_neg this).trans hg)
   ·exact dH.refl _ _
  ·exact dH.refl _ _
 |box k1 j=>
  simp only
  split
  ·rename_i cs hx
   rw[gI]
   split
   ·exact⟨rfl,fun s' v hs hg _=>hg,fun s' p hs hg=>hg⟩
   ·exact dH.refl _ _
  ·exact dH.refl _ _
theorem aib{p:pb}{W:List Nat}(ty:U.Ty×Bool)(σ:ak U)(hW:∀s j,p=.slot s j->s∈W):dH W σ (Mx p ty σ):=by
 unfold Mx
 rw[gI]
 split
 ·cases p with
  |slot s j=>
   simp only
   split
   ·rename_i x hx
    rw[gI]
    split
    ·refine⟨rfl,fun s' v hs hg _=> ?_,fun s' p hs hg=> ?_⟩
     ·have:s≠s':=fun e=>hs (e▸hW s j rfl)
      exact(J1 _ _ _ _).trans ((if_neg this).trans hg)
     ·have:s≠s':=fun e=>hs (e▸hW s j rfl)
      exact(J1 _ _ _ _).trans ((if_neg this).trans hg)
    ·exact dH.refl _ _
   ·exact dH.refl _ _
  |box k j=>
   simp only
   split
   ·rw[gI]
    split
    ·exact⟨rfl,fun s v _ hg _=>hg,fun s p _ hg=>hg⟩
    ·exact dH.refl _ _
   ·exact dH.refl _ _
 ·exact dH.refl _ _
theorem aaI{k0 k:Key}{e:ie U}(h:(po k0 σ).bH k=some e):σ.bH k=some e\/(k=k0/\∃x,σ.bH k0=some (.arr x true)/\e=.part x fun _=>false):=by
 unfold po at h
 split at h
 ·rename_i x hx
  replace h:=(N7 _ _ _ _).symm.trans h
  split at h
  ·rename_i hk
   cases h
   exact .inr ⟨hk.symm,x,hx,rfl⟩
  ·exact .inl h
 ·exact .inl h
theorem aaH(k0:Key)(σ:ak U):(po k0 σ).n=σ.n/\(po k0 σ).bx=σ.bx/\(po k0 σ).aR=σ.aR:=by
 unfold po
 split
 ·exact⟨rfl,rfl,rfl⟩
 ·exact⟨rfl,rfl,rfl⟩
theorem ah4(h:cG E pm F kv fp σ a w)(hc:e7 E w F kv fp σ a)(k0:Key):cG E pm F kv fp (po k0 σ) a w/\e7 E w F kv fp (po k0 σ) a:=by
 obtain⟨q1,q2,_⟩:=aaH k0 σ
 have rk:∀s,(po k0 σ).get s=σ.get s:=fun s=>by unfold ak.get;rw[q2]
 have jK:e7 E w F kv fp (po k0 σ) a:=by
  refine⟨fun s x hs=>hc.bx s x (by rw[<-rk];exact hs),fun k e hk=> ?_⟩
  rcases aaI hk with hk|⟨rfl,x,hx,rfl⟩
  ·exact hc.cW k e hk
  ·exact eo.part (hc.cW _ _ hx)
 have hold:∀k e,(po k0 σ).bH k=some e->∃e',σ.bH k=some e':=by
  intro k e hk
  rcases aaI hk with hk|⟨rfl,x,hx,rfl⟩
  ·exact⟨_,hk⟩
  ·exact⟨_,hx⟩
 refine⟨⟨by rw[q1];exact h.size,h.defers,fun s x hs=>(jK.bx s x hs).mn (fun y hy=>FN fun _ _=>rfl),fun k e hk=> ?_,fun k k' e e' b d_ h1 h2 hb=> ?_,fun k e hk=> ?_,fun k e b hk hb=> ?_,h.sO,h.sN,h.upto,by rw[q1];exact h.Lg,h.lay⟩,jK⟩
 ·have:=jK.cW k e hk
  cases e with
  |arr x deep=>exact this
  |part x dead=>exact this
  |box cs=>
   obtain⟨b,cur,e',g1,g2,g3,g4⟩:=this
   exact⟨b,cur,e',g1,g2,g3,g4.mn (fun y hy=>FN fun _ _=>rfl)⟩
 ·obtain⟨e1,g1⟩:=hold k e h1
  obtain⟨e2,g2⟩:=hold k' e' h2
  exact h.apart k k' e1 e2 b d_ g1 g2 hb
 ·obtain⟨e1,g1⟩:=hold k e hk
  exact h.nodup k e1 g1
 ·obtain⟨e1,g1⟩:=hold k e hk
  exact h.fj k e1 b g1 hb
theorem WG:∀{l:List Key}{σ:ak U},(∃kv fp,cG E pm F kv fp σ a w/\e7 E w F kv fp σ a)->∃kv fp,cG E pm F kv fp (parts l σ) a w/\e7 E w F kv fp (parts l σ) a
 |[],σ,h=>h
 |s::l,σ,⟨kv,fp,h,hc⟩=>by
  exact WG (l:=l) (σ:=po s σ) ⟨kv,fp,ah4 h hc _⟩
theorem WH(W:List Nat):∀(l:List Key)(σ:ak U),dH W σ (parts l σ)
 |[],σ=>dH.refl _ _
 |s::l,σ=>by
  refine dH.trans (τ:=po s σ) ?_ (WH W l _)
  obtain⟨q1,q2,_⟩:=aaH s σ
  exact⟨q1,fun s v _ hg _=>by unfold ak.get at hg⊢;rw[q2];exact hg,fun s p _ hg=>by unfold ak.get at hg⊢;rw[q2];exact hg⟩
theorem WC:∀{l:List Nat}{σ:ak U},(∃kv fp,cG E pm F kv fp σ a w)->∃kv fp,cG E pm F kv fp (s8 l σ) a w
 |[],σ,h=>h
 |d::l,σ,h=>WC (l:=l) (aaq h d)
theorem WD:∀(l W:List Nat)(σ:ak U),dH W σ (s8 l σ)
 |[],W,σ=>dH.refl _ _
 |d::l,W,σ=>(aar d W σ).trans (WD l W _)
theorem Rv{W:List Nat}:∀(l:List (pb×U.Ty×Option Bool))(σ:ak U),(∀p∈l,∀s j,p.1=pb.slot s j->s∈W)->dH W σ (Mv l σ)
 |[],σ,_=>dH.refl _ _
 |(p,ty,some d)::r,σ,h=>(aib (ty,d) σ (h _ gS)).trans (Rv r _ fun q hq=>h q (e8 _ hq))
 |(p,ty,none)::r,σ,h=>(ah_ ty σ (h _ gS)).trans (Rv r _ fun q hq=>h q (e8 _ hq))
theorem WM{β:Type}(l r:List (Nat×Option β))(s:Nat):look (l++r) s=if l.any (fun p=>Nat.beq p.1 s) then look l s else look r s:=by
 induction l with
 |nil=>simp
 |cons p l ih=>
  obtain⟨t,v⟩:=p
  simp only[VR,look,Q5]
  rcases Bool.eq_false_or_eq_true (Nat.beq t s) with h|h
  ·simp[h]
  ·simp only[h,cond_false,Fw];exact ih
theorem aaW{A:sA U}{wr:List Nat}{x:A.X}{s:Nat}{v:SV U}(h:(la A wr σ x).get s=some v):
  (s,v)∈A.bx x\/(s∉wr/\s∉A.names/\σ.get s=some v/\((∃y,v=.v y/\(SV.v y).keys=[])\/∃p,v=.fn p)):=by
 unfold ak.get la at h
 simp only at h
 rw[WM] at h
 split at h
 ·left
  have:=H7 h
  obtain⟨⟨s',v'⟩,hp,e⟩:=kW.1 this
  simp only[nT,fM] at e
  obtain⟨rfl,rfl⟩:=e
  exact hp
 ·right
  have hm:=wc.1 (H7 h)
  have h1:=N5 H2.1 hm.1
  rw[H3 (by simp)] at h1
  have h2:=hm.2
  simp only[cH,pc,<-uO,tI,Fv] at h2
  obtain⟨⟨h3,h4⟩,h5⟩:=h2
  refine⟨fun e=>h3 ⟨s,e,rfl⟩,fun e=>h4 ⟨s,e,rfl⟩,h1,?_⟩
  cases v with
  |v y=>exact .inl ⟨y,rfl,by simpa using h5⟩
  |uZ xs=>cases h5
  |fn p=>exact .inr ⟨p,rfl⟩
  |Ff g xs=>cases h5
theorem aiR{A:sA U}{wr:List Nat}{x:A.X}{s:Nat}{y:AV U}(hw:s∉wr)(hn:s∉A.names)(hg:σ.get s=some (.v y))(hk:(SV.v y).keys=[]):
  (la A wr σ x).get s=some (.v y):=by
 unfold ak.get la
 simp only
 rw[WM,if_neg]
 ·refine N5 (Rt H2.1) (wc.2 ⟨H7 (by rw[H3 (by simp)];exact hg),?_⟩)
  simp only[cH,pc,<-uO,tI,Fv]
  exact⟨⟨fun⟨t,h1,h2⟩=>hw (h2▸h1),fun⟨t,h1,h2⟩=>hn (h2▸h1)⟩,by simp[hk]⟩
 ·simp only[Nx,tI,Function.comp,Fv]
  rintro⟨p,hp,rfl⟩
  exact hn (A.Ze x p hp)
theorem aiS{A:sA U}{wr:List Nat}{x:A.X}{s:Nat}{p:List (DA U)->Option Value}(hw:s∉wr)(hn:s∉A.names)(hg:σ.get s=some (.fn p)):
  (la A wr σ x).get s=some (.fn p):=by
 unfold ak.get la
 simp only
 rw[WM,if_neg]
 ·refine N5 (Rt H2.1) (wc.2 ⟨H7 (by rw[H3 (by simp)];exact hg),?_⟩)
  simp only[cH,pc,<-uO,tI,Fv]
  exact⟨⟨fun⟨t,h1,h2⟩=>hw (h2▸h1),fun⟨t,h1,h2⟩=>hn (h2▸h1)⟩,by simp⟩
 ·simp only[Nx,tI,Function.comp,Fv]
  rintro⟨p,hp,rfl⟩
  exact hn (A.Ze x p hp)
theorem aaX{A:sA U}{wr:List Nat}{x:A.X}{k:Key}{e:ie U}(h:(la A wr σ x).bH k=some e):(k,e)∈A.cW x:=by
 have:=D6 (show dW ((A.cW x).map fun(k,e)=>(k,some e)) k=some e from h)
 obtain⟨⟨k',e'⟩,hp,e⟩:=kW.1 this
 simp only[nT,fM] at e
 obtain⟨rfl,rfl⟩:=e
 exact hp
theorem ah8(h:cG E pm F kv fp σ a w){q:Operand}{v:Value}(hb:yo σ q=some v):a.eval q=v:=by
 unfold yo Er at hb
 split at hb
 ·rename_i sc hsc;exact o6 (CG h hsc) hb
 ·cases hb
variable{nA:Nat->Option (sA U)}
theorem Ri(hE:E.Good)(c:Code):∀{F:Nat->Prop}{kv:Key->Value}{fp:Key->List Nat}{σ:ak U}{a:Act}{w:World}{Q:Out U->Prop}{Q':Exit->Act->World->Prop},
  cG E pm F kv fp σ a w->AM.wp E nA c σ Q->
  (∀o,Q o->dH (fV nA c) σ o.st->∀F kv fp a' w',cG E pm F kv fp o.st a' w'->Q' o.ex a' w')->c.wp E.P Q' a w:=by
 induction c with
 |skip=>
  intro F kv fp σ a w Q Q' h hw hq
  exact wp_skip (hq _ hw (dH.refl _ _) F kv fp a w h)
 |ret=>
  intro F kv fp σ a w Q Q' h hw hq
  exact wp_ret (hq _ hw (dH.refl _ _) F kv fp a w h)
 |exit id=>
  intro F kv fp σ a w Q Q' h hw hq
  exact wp_exit (hq _ hw (dH.refl _ _) F kv fp a w h)
 |region id ops draw=>
  intro F kv fp σ a w Q Q' h hw hq
  exact ahZ hE h (show wh E ops.toList draw σ _ from hw) (fun kV F kv fp a' w' hk iv hs=>hq (.normal kV) hk iv F kv fp a' w' hs)
 |seq x y ihx ihy=>
  intro F kv fp σ a w Q Q' h hw hq
  simp only[AM.wp] at hw
  refine wp_seq (ihx h hw (fun o ho hk F kv fp a' w' hs=> ?_))
  have yH:dH (fV nA (.seq x y)) σ o.st:=hk.mono fun s hs=>pP _ hs
  cases o with
  |normal kV=>
   refine ihy hs ho (fun o' O8 cK F kv fp a' w' jK=>hq o' O8 (yH.trans (cK.mono fun s hs=>pd _ hs)) F kv fp a' w' jK)
  |exit id kV=>exact hq _ ho yH F kv fp a' w' hs
  |ret kV=>exact hq _ ho yH F kv fp a' w' hs
 |cond q x y ihx ihy=>
  intro F kv fp σ a w Q Q' h hw hq
  simp only[AM.wp] at hw
  split at hw
  ·rename_i b hb
   have he:=ah8 h hb
   refine wp_cond he ?_
   cases b with
   |true=>exact ihx h hw (fun o ho hk=>hq o ho (hk.mono fun s hs=>pP _ hs))
   |false=>exact ihy h hw (fun o ho hk=>hq o ho (hk.mono fun s hs=>pd _ hs))
  ·exact hw.elim
 |block id x ih=>
  intro F kv fp σ a w Q Q' h hw hq
  simp only[AM.wp] at hw
  refine wp_block (ih h hw (fun o ho hk F kv fp a' w' hs=> ?_))
  cases o with
  |normal kV=>exact hq (.normal kV) ho hk F kv fp a' w' hs
  |exit id' kV=>
   simp only at ho
   rw[gI] at ho
   by_cases hid:id'=id
   ·subst hid
    rw[if_pos (by simp)] at ho
    have:=hq (.normal kV) ho hk F kv fp a' w' hs
    simpa[Exit.inBlock,Out.ex] using this
   ·rw[if_neg (by simpa using hid)] at ho
    have:=hq (.exit id' kV) ho hk F kv fp a' w' hs
    simpa[Exit.inBlock,Out.ex,hid] using this
  |ret kV=>exact hq (.ret kV) ho hk F kv fp a' w' hs
 |loop x ih=>
  intro F kv fp σ a w Q Q' h hw hq
  simp only[AM.wp] at hw
  split at hw
  ·rename_i A hA
   obtain⟨x0,⟨hI0,Xw⟩,aj3,akh⟩:=A.law _ _ hw
   have O2:fV nA (.loop x)=fV nA x++A.names:=by simp only[fV,hA]
   have start:∀{kV:ak U}{F kv fp a' w'}(z:A.X),cG E pm F kv fp kV a' w'->kV.n=σ.n->
     (∀s y,s∉fV nA x->s∉A.names->σ.get s=some (.v y)->(SV.v y).keys=[]->kV.get s=some (.v y))->
     (∀s p,s∉fV nA x->s∉A.names->σ.get s=some (.fn p)->kV.get s=some (.fn p))->
     (∀p∈A.bx z,(D8 A kV).get p.1=some p.2)->(∀p∈A.cW z,(D8 A kV).bH p.1=some p.2)->∃F kv fp,cG E pm F kv fp (la A (fV nA x) σ z) a' w':=by
    intro kV F kv fp a' w' z hs hn iv Gh h1 h2
    obtain⟨kvS,fpS,hS⟩:=WC (l:=A.names) ⟨kv,fp,FH hs (fun _=>false)⟩
    obtain⟨kvB,fpB,hB⟩:=Rl (l:=Xa (s8 A.names (iY kV))) ⟨kvS,fpS,hS⟩
    obtain⟨FZ,Yz,hS1,hS2⟩:=aak (l:=A.Tz) (FH hB (fun _=>false)) (N3 hB _)
    obtain⟨F3,kv3,fp3,g1,g2⟩:=RH (l:=A.Ug) (RF (l:=A.Uf) ⟨FZ,kvB,Yz,hS1,hS2⟩)
    obtain⟨kv2,fp2,s1,s2⟩:=WG (l:=A.TA) (Ru (l:=A.nil) ⟨kv3,fp3,g1,g2⟩)
    have XD:dH A.names (iY kV) (D8 A kV):=(((((((WD A.names A.names (iY kV)).trans (Rm _ _ _)).trans (H5 _ _ _)).trans (aal _ _ _)).trans (RG _ _ _)).trans (RI _ _ _)).trans (Rv (W:=A.names) A.nil _ A.nin)).trans (WH _ _ _)
    refine⟨F3,kv2,fp2,s1.less (τ:=la A (fV nA x) σ z) (hn.symm.trans XD.n.symm) s2 (fun s v hv=> ?_) (fun k e he=> ?_)⟩
    ·rcases aaW hv with hm|⟨g1,g2,g3,⟨y,rfl,g5⟩|⟨p,rfl⟩⟩
     ·exact h1 _ hm
     rotate_left
     ·exact XD.fn s p g2 ((H5 _ [] _).fn s p (by simp) (Gh s p g1 g2 g3))
     ·exact XD.get s y g2 ((H5 _ [] _).get s y (by simp) (iv s y g1 g2 g3 g5) g5) g5
    ·exact h2 _ (aaX he)
   obtain⟨F0,Is,SG,hs0⟩:=start x0 h rfl (fun s y _ _ hg _=>hg) (fun s p _ _ hg=>hg) aj3 akh
   refine wp_loop_ghost (fun n a w=>∃y:A.X,A.I x0 y/\A.μ y=n/\∃F kv fp,cG E pm F kv fp (la A (fV nA x) σ y) a w) (A.μ x0)
    ⟨x0,hI0,rfl,F0,Is,SG,hs0⟩ ?_
   rintro n a1 w1 ⟨y,hI,rfl,F1,kv1,Zz,hs1⟩
   refine ih hs1 (A.Qe _ Xw y hI) (fun o ho hk F kv fp a' w' hs=> ?_)
   have iv:∀s v,s∉fV nA x->s∉A.names->σ.get s=some (.v v)->(SV.v v).keys=[]->o.st.get s=some (.v v):=
    fun s v g1 g2 g3 g4=>hk.get s v g1 (aiR g1 g2 g3 g4) g4
   have Gh:∀s p,s∉fV nA x->s∉A.names->σ.get s=some (.fn p)->o.st.get s=some (.fn p):=
    fun s p g1 g2 g3=>hk.fn s p g1 (aiS g1 g2 g3)
   have C8:dH (fV nA (.loop x)) σ o.st:=by
    refine⟨hk.n,fun s v g1 g3 g4=> ?_,fun s p g1 g3=> ?_⟩
    ·rw[O2,jE,not_or] at g1
     exact iv s v g1.1 g1.2 g3 g4
    ·rw[O2,jE,not_or] at g1
     exact Gh s p g1.1 g1.2 g3
   cases o with
   |normal kV=>
    obtain⟨z,⟨hIz,fU⟩,hsl,Pn⟩:=A.law _ _ ho
    obtain⟨F2,kv2,fp2,Zg⟩:=start z hs hk.n iv Gh hsl Pn
    exact⟨A.μ z,fU,z,hIz,rfl,F2,kv2,fp2,Zg⟩
   |exit id kV=>exact hq _ ho C8 F kv fp a' w' hs
   |ret kV=>exact hq _ ho C8 F kv fp a' w' hs
  ·exact hw.elim
 |_=>
  intros
  rename_i hw _
  exact hw.elim
def ach(A:sA U)(Q:Out U->Prop):Out U->Prop
 | .normal σ=>A.un (D8 A σ) fun z=>A.I z z
 |o=>Q o
def WpS(E:Env U)(c:Code)(τ:ak U)(Q:Out U->Prop):Prop:=
 ∀{pm:Pm}{F:Nat->Prop}{kv:Key->Value}{fp:Key->List Nat}{a:Act}{w:World}{Q':Exit->Act->World->Prop},
  cG E pm F kv fp τ a w->(∀o,Q o->∀F kv fp a' w',cG E pm F kv fp o.st a' w'->Q' o.ex a' w')->c.wp E.P Q' a w
theorem JG(hE:E.Good){c:Code}{τ:ak U}{Q:Out U->Prop}(h:AM.wp E nA c τ Q):WpS E c τ Q:=fun hs hq=>Ri hE c hs h (fun o ho _=>hq o ho)
theorem ajn{A:sA U}{n:Nat}{kV:ak U}(hn:kV.n=n)(hs:cG E pm F kv fp kV a w){z:A.X}(h1:∀p∈A.bx z,(D8 A kV).get p.1=some p.2)(h2:∀p∈A.cW z,(D8 A kV).bH p.1=some p.2):
  ∃F kv fp,cG E pm F kv fp (la A [] ⟨n,[],[],[]⟩ z) a w:=by
 obtain⟨kvS,fpS,hS⟩:=WC (l:=A.names) ⟨kv,fp,FH hs (fun _=>false)⟩
 obtain⟨kvB,fpB,hB⟩:=Rl (l:=Xa (s8 A.names (iY kV))) ⟨kvS,fpS,hS⟩
 obtain⟨FZ,Yz,hS1,hS2⟩:=aak (l:=A.Tz) (FH hB (fun _=>false)) (N3 hB _)
 obtain⟨F3,kv3,fp3,g1,g2⟩:=RH (l:=A.Ug) (RF (l:=A.Uf) ⟨FZ,kvB,Yz,hS1,hS2⟩)
 obtain⟨kv2,fp2,s1,s2⟩:=WG (l:=A.TA) (Ru (l:=A.nil) ⟨kv3,fp3,g1,g2⟩)
 have XD:dH A.names (iY kV) (D8 A kV):=(((((((WD A.names A.names (iY kV)).trans (Rm _ _ _)).trans (H5 _ _ _)).trans (aal _ _ _)).trans (RG _ _ _)).trans (RI _ _ _)).trans (Rv (W:=A.names) A.nil _ A.nin)).trans (WH _ _ _)
 refine⟨F3,kv2,fp2,s1.less (τ:=la A [] ⟨n,[],[],[]⟩ z) (hn.symm.trans XD.n.symm) s2 (fun s v hv=> ?_) (fun k e he=> ?_)⟩
 ·rcases aaW hv with hm|⟨_,_,g3,_⟩
  ·exact h1 _ hm
  ·cases g3
 ·exact h2 _ (aaX he)
theorem ajo(hE:E.Good){r n:Nat}{A:sA U}{Q:Out U->Prop}:∀{c:Code}{p:Code×Code}{σ:ak U},M8 r c=some p->σ.n=n->
  AM.wp E nA p.1 σ (ach A Q)->(∀y,A.I y y->AM.wp E nA p.2 (la A [] ⟨n,[],[],[]⟩ y) Q)->WpS E c σ Q:=by
 intro c
 induction c with
 |seq x y ihx ihy=>
  intro p σ hc hn h1 h2 pm F kv fp a w Q' hs hq
  simp only[M8,gI] at hc
  split at hc
  ·cases hc
   refine wp_seq (Ri hE x hs h1 (fun o ho hk F kv fp a' w' jK=> ?_))
   cases o with
   |normal kV=>
    obtain⟨z,hI,hsl,Pn⟩:=A.law _ _ (show A.un (D8 A kV) (fun z=>A.I z z) from ho)
    obtain⟨F3,kv3,fp3,g⟩:=ajn (hk.n.trans hn) jK hsl Pn
    exact Ri hE y g (h2 z hI) (fun o' O8 _=>hq o' O8)
   |exit id kV=>exact hq _ ho F kv fp a' w' jK
   |ret kV=>exact hq _ ho F kv fp a' w' jK
  ·split at hc
   ·rename_i q hb
    cases hc
    simp only[AM.wp] at h1
    refine wp_seq (Ri hE x hs h1 (fun o ho hk F kv fp a' w' jK=> ?_))
    cases o with
    |normal kV=>exact ihy hb (hk.n.trans hn) ho h2 jK hq
    |exit id kV=>exact hq _ ho F kv fp a' w' jK
    |ret kV=>exact hq _ ho F kv fp a' w' jK
   ·cases hc
 |_=>intro p σ hc;cases hc
end AM
