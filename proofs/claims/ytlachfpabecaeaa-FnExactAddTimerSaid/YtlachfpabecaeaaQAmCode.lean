/- THE ABSTRACT MACHINE: code: its weakest precondition is the model's. -/
import Derived.Test.YtlachfpabecaeaaQAmWp
namespace AM
set_option linter.unusedVariables false
open Go
variable{U:dh}{E:Env U}{pm:Pm}
variable{F F':Nat->Prop}{kv kv':Key->Value}{fp fp':Key->List Nat}{σ τ:aa U}{a:Act}{w w':World}
def Out.st:Out U->aa U
 | .normal σ=>σ
 | .exit _ σ=>σ
 | .ret σ=>σ
def Out.ex:Out U->Exit
 | .normal _=> .normal
 | .exit id _=> .exit id
 | .ret _=> .ret
theorem aC.less(h:aC E pm F kv fp σ a w)(hn:τ.n=σ.n)(hc:bp E w F kv fp σ a)
  (hg:∀s x,τ.get s=some x->σ.get s=some x) (he:∀k e,τ.aq k=some e->σ.aq k=some e):aC E pm F kv fp τ a w:=by
 refine⟨by rw[hn];exact h.size,h.defers,fun s x hs=> ?_,fun k e hk=> ?_,fun k k' e e' b a_ h1 h2=>h.apart k k' e e' b a_ (he k e h1) (he k' e' h2),
  fun k e hk=>h.nodup k e (he k e hk),fun k e b hk=>h.bC k e b (he k e hk),h.hJ,h.hH,h.upto,by rw[hn];exact h.rA,h.lay⟩
 ·exact(hc.ap s x (hg s x hs)).ep (fun y hy=>nW fun _ _=>rfl)
 ·have:=hc.aJ k e (he k e hk)
  cases e with
  |arr x deep=>exact this
  |part x dead=>exact this
  |box cs=>
   obtain⟨b,cur,e',g1,g2,g3,g4⟩:=this
   exact⟨b,cur,e',g1,g2,g3,g4.ep (fun y hy=>nW fun _ _=>rfl)⟩
theorem Hl{k:Key}(h:unnamed k σ=true):¬Names σ k:=by
 unfold unnamed at h
 simp only[dR,qp] at h
 rintro(⟨s,x,hs,hk⟩|⟨k',cs,he,x,hx,hk⟩)
 ·have:=h.1 _ (pM hs)
  simp only[k_,<-nq,gr] at this
  exact this hk
 ·have:=h.2 _ (l4 he)
  simp only[k_,<-nq,jg] at this
  exact this ⟨x,hx,jg.1 (gr.2 hk)⟩
theorem aC.row(h:aC E pm F kv fp σ a w)(hc:bp E w F kv fp σ a){k0:Key}(mM:σ.aq k0=none)(xM:¬Names σ k0)(OU:1024<=k0.2){ty:U.Ty}{d0:Bool}{v0:Value}(ui:∃ad,v0=.slice ad 0 0)(hn:τ.n=σ.n)
  (hg:∀s x,τ.get s=some x->σ.get s=some x\/∃y j,σ.get s=some (.v y)/\y.cs[j]? =some .e0/\x=.v ⟨y.agg,y.cs.set j (.ref k0 [])⟩/\∀vs,dC E w F kv fp (fun _=>false) y.cs vs->(if y.agg then a.tmps.getD s undef=.agg vs.toArray else vs=[a.tmps.getD s undef])->vs[j]? =some v0)
  (he:∀k e,τ.aq k=some e->(k=k0/\e=.arr ⟨ty,[]⟩ d0)\/σ.aq k=some e\/∃cs j,σ.aq k=some (.box cs)/\cs[j]? =some .e0/\e=.box (cs.set j (.ref k0 []))/\∀b cur Qw,kv k=.pointer (some ⟨b,0,none⟩)->w.heap[b]? =some (.cells cur Qw (0,0))->cur.toList[j]? =some v0):
  ∃kv fp,aC E pm F kv fp τ a w/\bp E w F kv fp τ a:=by
 classical
 let kv':Key->Value:=fun k=>if k=k0 then v0 else kv k
 let fp':Key->List Nat:=fun k=>if k=k0 then[] else fp k
 have sP:∀k,k≠k0->kv' k=kv k:=fun k hk=>if_neg hk
 have gB:∀k,k≠k0->fp' k=fp k:=fun k hk=>if_neg hk
 have EL:kv' k0=v0:=if_pos rfl
 have uE:fp' k0=[]:=if_pos rfl
 have gW:∀k,Names σ k->fo w w kv kv' fp fp' (fun _=>false) (fun _=>false) k:=by
  intro k hk
  have:k≠k0:=fun e=>xM (e▸hk)
  exact⟨sP k this,.inr ⟨rfl,gB k this,fun _ _=>rfl⟩⟩
 have hF:∀b,F b->F b/\w.heap[b]? =w.heap[b]? :=fun b hb=>⟨hb,rfl⟩
 have um:∀{cs:List (AC U)}{vs:List Value}{j:Nat},dC E w F kv fp (fun _=>false) cs vs->(∀x∈cs,∀k∈x.keys,Names σ k)->vs[j]? =some v0->dC E w F kv' fp' (fun _=>false) (cs.set j (.ref k0 [])) vs:=by
  intro cs vs j hd gi hj
  have nc:dC E w F kv' fp' (fun _=>false) cs vs:=hd.move (fun x hx k hk=>gW k (gi x hx k hk)) hF
  refine⟨by simpa using hd.1,fun i x v hx hv=> ?_⟩
  rw[vI] at hx
  split at hx
  ·rename_i wR
   subst wR
   split at hx
   ·cases hx
    rw[hv] at hj
    cases hj
    obtain⟨ad,rfl⟩:=ui
    exact⟨⟨rfl,trivial⟩,.inr (by simp only[RA];rw[EL];rfl)⟩
   ·cases hx
  ·exact nc.2 i x v hx hv
 have cO:bp E w F kv' fp' τ a:=by
  refine⟨fun s x hs=> ?_,fun k e hk=> ?_⟩
  ·rcases hg s x hs with g|⟨y,j,g1,g2,rfl,g4⟩
   ·exact(hc.ap s x g).move (fun k hk=>gW k (.inl ⟨s,x,g,hk⟩)) hF
   ·obtain⟨vs,r1,r2⟩:=hc.ap s _ g1
    exact⟨vs,um r1 (fun x hx k hk=> .inl ⟨s,_,g1,SV.mem_keys.2 ⟨x,hx,hk⟩⟩) (g4 vs r1 r2),r2⟩
  ·rcases he k e hk with⟨rfl,rfl⟩|g|⟨cs,j,g1,g2,rfl,g4⟩
   ·obtain⟨ad,rfl⟩:=ui
    exact .inl ⟨rfl,⟨ad,EL⟩,uE⟩
   ·have a_:k≠k0:=fun e'=>by rw[e',mM] at g;cases g
    have:=hc.aJ k e g
    rw[sP k a_,gB k a_]
    cases e with
    |arr x deep=>exact this
    |part x dead=>exact this
    |box cs=>
     obtain⟨b,cur,e',r1,r2,r3,r4⟩:=this
     exact⟨b,cur,e',r1,r2,r3,r4.move (fun x hx k' aG=>gW k' (.inr ⟨k,cs,g,x,hx,aG⟩)) hF⟩
   ·have a_:k≠k0:=fun e'=>by rw[e',mM] at g1;cases g1
    obtain⟨b,cur,e',r1,r2,r3,r4⟩:=hc.aJ k _ g1
    rw[sP k a_,gB k a_]
    exact⟨b,cur,e',r1,r2,r3,um r4 (fun x hx k' aG=> .inr ⟨k,cs,g1,x,hx,aG⟩) (g4 b cur e' r1 r2)⟩
 have hold:∀k e,τ.aq k=some e->k≠k0->∃e',σ.aq k=some e':=by
  intro k e hk a_
  rcases he k e hk with⟨rfl,_⟩|g|⟨cs,j,g1,_⟩
  ·exact absurd rfl a_
  ·exact⟨_,g⟩
  ·exact⟨_,g1⟩
 refine⟨kv',fp',⟨by rw[hn];exact h.size,h.defers,fun s x hs=>(cO.ap s x hs).ep (fun y hy=>nW fun _ _=>rfl),fun k e hk=> ?_,fun k k' e e' b a_ h1 h2 hb=> ?_,fun k e hk=> ?_,fun k e b hk hb=> ?_,h.hJ,h.hH,h.upto,fun k v hp=> ?_,h.lay⟩,cO⟩
 ·have:=cO.aJ k e hk
  cases e with
  |arr x deep=>exact this
  |part x dead=>exact this
  |box cs=>
   obtain⟨b,cur,e',g1,g2,g3,g4⟩:=this
   exact⟨b,cur,e',g1,g2,g3,g4.ep (fun y hy=>nW fun _ _=>rfl)⟩
 ·by_cases hk:k=k0
  ·rw[hk,uE] at hb;cases hb
  ·by_cases aG:k'=k0
   ·rw[aG,uE];exact vt
   ·obtain⟨e1,g1⟩:=hold k e h1 hk
    obtain⟨e2,g2⟩:=hold k' e' h2 aG
    rw[gB k hk] at hb
    rw[gB k' aG]
    exact h.apart k k' e1 e2 b a_ g1 g2 hb
 ·by_cases aG:k=k0
  ·rw[aG,uE];exact yg
  ·obtain⟨e1,g1⟩:=hold k e hk aG
   rw[gB k aG];exact h.nodup k e1 g1
 ·by_cases aG:k=k0
  ·rw[aG,uE] at hb;cases hb
  ·obtain⟨e1,g1⟩:=hold k e hk aG
   rw[gB k aG] at hb;exact h.bC k e1 b g1 hb
 ·obtain⟨p1,p2,p3,p4⟩:=h.rA k v hp
  refine⟨p1,p2,by rw[hn];exact p3,?_⟩
  rw[sP k (fun e=>by rw[e] at p2;omega)];exact p4
theorem aC.Cn(h:aC E pm F kv fp σ a w)(hc:bp E w F kv fp σ a)(hn:τ.n=σ.n)
  (hg:∀s x,τ.get s=some x->σ.get s=some x\/∃y j ty,σ.get s=some (.v y)/\y.cs[j]? =some .e0/\x=.v ⟨y.agg,y.cs.set j (.c (.sl ty []))⟩)
  (he:∀k e,τ.aq k=some e->σ.aq k=some e\/∃cs j ty,σ.aq k=some (.box cs)/\cs[j]? =some .e0/\e=.box (cs.set j (.c (.sl ty [])))):
  aC E pm F kv fp τ a w/\bp E w F kv fp τ a:=by
 have um:∀{cs:List (AC U)}{vs:List Value}{j:Nat}{ty:U.Ty},dC E w F kv fp (fun _=>false) cs vs->cs[j]? =some .e0->dC E w F kv fp (fun _=>false) (cs.set j (.c (.sl ty []))) vs:=by
  intro cs vs j ty hd hj
  refine⟨by simpa using hd.1,fun i x v hx hv=> ?_⟩
  rw[vI] at hx
  split at hx
  ·rename_i wR
   subst wR
   split at hx
   ·cases hx
    obtain⟨g1,g2⟩:=hd.2 j _ v hj hv
    refine⟨g1,.inr ?_⟩
    rcases g2 with g2|⟨ad,rfl⟩
    ·cases g2
    ·exact .nil false ty ad 0 (fun _=>rfl)
   ·cases hx
  ·exact hd.2 i x v hx hv
 have cO:bp E w F kv fp τ a:=by
  refine⟨fun s x hs=> ?_,fun k e hk=> ?_⟩
  ·rcases hg s x hs with g|⟨y,j,ty,g1,g2,rfl⟩
   ·exact hc.ap s x g
   ·obtain⟨vs,r1,r2⟩:=hc.ap s _ g1
    exact⟨vs,um r1 g2,r2⟩
  ·rcases he k e hk with g|⟨cs,j,ty,g1,g2,rfl⟩
   ·exact hc.aJ k e g
   ·obtain⟨b,cur,e',r1,r2,r3,r4⟩:=hc.aJ k _ g1
    exact⟨b,cur,e',r1,r2,r3,um r4 g2⟩
 have hold:∀k e,τ.aq k=some e->∃e',σ.aq k=some e':=by
  intro k e hk
  rcases he k e hk with g|⟨cs,j,ty,g1,_⟩
  ·exact⟨_,g⟩
  ·exact⟨_,g1⟩
 refine⟨⟨by rw[hn];exact h.size,h.defers,fun s x hs=>(cO.ap s x hs).ep (fun y hy=>nW fun _ _=>rfl),fun k e hk=> ?_,fun k k' e e' b a_ h1 h2 hb=> ?_,fun k e hk=> ?_,fun k e b hk hb=> ?_,h.hJ,h.hH,h.upto,fun k v hp=> ?_,h.lay⟩,cO⟩
 ·have:=cO.aJ k e hk
  cases e with
  |arr x deep=>exact this
  |part x dead=>exact this
  |box cs=>
   obtain⟨b,cur,e',g1,g2,g3,g4⟩:=this
   exact⟨b,cur,e',g1,g2,g3,g4.ep (fun y hy=>nW fun _ _=>rfl)⟩
 ·obtain⟨e1,g1⟩:=hold k e h1
  obtain⟨e2,g2⟩:=hold k' e' h2
  exact h.apart k k' e1 e2 b a_ g1 g2 hb
 ·obtain⟨e1,g1⟩:=hold k e hk
  exact h.nodup k e1 g1
 ·obtain⟨e1,g1⟩:=hold k e hk
  exact h.bC k e1 b g1 hb
 ·obtain⟨p1,p2,p3,p4⟩:=h.rA k v hp
  exact⟨p1,p2,by rw[hn];exact p3,p4⟩
theorem wb{x:Option (AC U)}:sB x=true↔x=some .e0:=by
 unfold sB
 split
 ·simp
 ·rename_i h;simp only[lN,false_iff];exact fun e=>h e
theorem tH{β:Type}(k k':Key)(v:Option β)(l:List (Key×Option β)):a9 ((k,v)::l) k'=if k=k' then v else a9 l k':=by
 simp only[a9]
 by_cases h:k=k'
 ·rw[fb.2 h,if_pos h];rfl
 ·rw[qB.2 h,if_neg h];rfl
theorem qA{β:Type}(k k':Nat)(v:Option β)(l:List (Nat×Option β)):look ((k,v)::l) k'=if k=k' then v else look l k':=by
 simp only[look]
 by_cases h:k=k'
 ·rw[if_pos h,(by simpa using h:Nat.beq k k'=true)];rfl
 ·rw[if_neg h,(by rw[<-nq,te];exact h:Nat.beq k k'=false)];rfl
theorem u2{x:AC U}{v:Value}(h:RD E w F kv fp (fun _=>false) x v)(hx:x=.e0):∃ad,v=.slice ad 0 0:=by
 subst hx
 exact ax h rfl
theorem H6{p:fx}{ty:U.Ty×Bool}(h:aC E pm F kv fp σ a w)(hc:bp E w F kv fp σ a):∃kv fp,aC E pm F kv fp (su p ty σ) a w/\bp E w F kv fp (su p ty σ) a:=by
 have same:∃kv fp,aC E pm F kv fp σ a w/\bp E w F kv fp σ a:=⟨kv,fp,h,hc⟩
 unfold su
 rw[bY]
 split
 ·rename_i eo
  simp only[dR,vo,Option.isNone_iff_eq_none] at eo
  obtain⟨⟨c1,c2⟩,c3⟩:=eo
  have wL:=Hl c2
  cases p with
  |slot s j=>
   simp only
   split
   ·rename_i x hx
    rw[bY]
    split
    ·rename_i eL
     have eL:=wb.1 eL
     obtain⟨vs,r1,r2⟩:=hc.ap s _ hx
     have bZ:j<vs.length:=by
      rw[<-r1.1]
      rcases eW j x.cs.length with g|g
      ·exact g
      ·rw[eD g] at eL;cases eL
     have En:vs[j]? =some vs[j]:=cE bZ
     refine h.row hc (τ:={σ with ap:=(s,some (.v ⟨x.agg,x.cs.set j (.ref (fx.slot s j).key [])⟩))::σ.ap,tab:=((fx.slot s j).key,some (.arr ⟨ty.1,[]⟩ ty.2))::σ.tab})
      (k0:=(fx.slot s j).key) c1 wL c3 (ty:=ty.1) (d0:=ty.2) (v0:=vs[j]) (u2 (r1.2 j _ _ eL En) rfl) rfl (fun s' x' cO=> ?_) (fun k e hk=> ?_)
     ·replace cO:=(qA _ _ _ _).symm.trans cO
      split at cO
      ·rename_i e;subst e
       cases cO
       refine .inr ⟨x,j,hx,eL,rfl,fun jh Ra yu=> ?_⟩
       have:jh=vs:=by
        cases vD:x.agg
        ·rw[vD] at r2 yu;simp only[lN,if_false] at r2 yu;rw[r2,yu]
        ·rw[vD] at r2 yu;simp only[if_true] at r2 yu
         rw[r2] at yu
         simpa using yu.symm
       rw[this];exact En
      ·exact .inl cO
     ·replace hk:=(tH _ _ _ _).symm.trans hk
      split at hk
      ·rename_i e;cases hk;exact .inl ⟨e.symm,rfl⟩
      ·exact .inr (.inl hk)
    ·exact same
   ·exact same
  |box k1 j=>
   simp only
   split
   ·rename_i cs hx
    rw[bY]
    split
    ·rename_i eL
     have eL:=wb.1 eL
     obtain⟨b,cur,e',r1,r2,r3,r4⟩:=hc.aJ k1 _ hx
     have bZ:j<cur.toList.length:=by
      rw[<-r4.1]
      rcases eW j cs.length with g|g
      ·exact g
      ·rw[eD g] at eL;cases eL
     have En:cur.toList[j]? =some cur.toList[j]:=cE bZ
     refine h.row hc (τ:={σ with tab:=((fx.box k1 j).key,some (.arr ⟨ty.1,[]⟩ ty.2))::(k1,some (.box (cs.set j (.ref (fx.box k1 j).key []))))::σ.tab})
      (k0:=(fx.box k1 j).key) c1 wL c3 (ty:=ty.1) (d0:=ty.2) (v0:=cur.toList[j]) (u2 (r4.2 j _ _ eL En) rfl) rfl (fun s' x' cO=> .inl cO) (fun k e hk=> ?_)
     replace hk:=(tH _ _ _ _).symm.trans hk
     split at hk
     ·rename_i e;cases hk;exact .inl ⟨e.symm,rfl⟩
     ·rw[tH] at hk
      split at hk
      ·rename_i e;cases hk
       subst e
       refine .inr (.inr ⟨cs,j,hx,eL,rfl,fun b2 Qz e2 g1 g2=> ?_⟩)
       rw[r1] at g1;cases g1
       rw[r2] at g2;cases g2
       exact En
      ·exact .inr (.inl hk)
    ·exact same
   ·exact same
 ·exact same
theorem H4{p:fx}{ty:U.Ty}(h:aC E pm F kv fp σ a w)(hc:bp E w F kv fp σ a):aC E pm F kv fp (sr p ty σ) a w/\bp E w F kv fp (sr p ty σ) a:=by
 have same:aC E pm F kv fp σ a w/\bp E w F kv fp σ a:=⟨h,hc⟩
 unfold sr
 cases p with
 |slot s j=>
  simp only
  split
  ·rename_i x hx
   rw[bY]
   split
   ·rename_i eL
    have eL:=wb.1 eL
    refine h.Cn hc (τ:={σ with ap:=(s,some (.v ⟨x.agg,x.cs.set j (.c (.sl ty []))⟩))::σ.ap}) rfl (fun s' x' cO=> ?_) (fun k e hk=> .inl hk)
    replace cO:=(qA _ _ _ _).symm.trans cO
    split at cO
    ·rename_i e;subst e
     cases cO
     exact .inr ⟨x,j,ty,hx,eL,rfl⟩
    ·exact .inl cO
   ·exact same
  ·exact same
 |box k1 j=>
  simp only
  split
  ·rename_i cs hx
   rw[bY]
   split
   ·rename_i eL
    have eL:=wb.1 eL
    refine h.Cn hc (τ:={σ with tab:=(k1,some (.box (cs.set j (.c (.sl ty [])))))::σ.tab}) rfl (fun s' x' cO=> .inl cO) (fun k e hk=> ?_)
    replace hk:=(tH _ _ _ _).symm.trans hk
    split at hk
    ·rename_i e;cases hk
     subst e
     exact .inr ⟨cs,j,ty,hx,eL,rfl⟩
    ·exact .inl hk
   ·exact same
  ·exact same
theorem v5:∀{l:List (fx×U.Ty×Option Bool)}{σ:aa U},(∃kv fp,aC E pm F kv fp σ a w/\bp E w F kv fp σ a)->∃kv fp,aC E pm F kv fp (sq l σ) a w/\bp E w F kv fp (sq l σ) a
 |[],σ,h=>h
 |(p,ty,some d)::r,σ,⟨kv,fp,h,hc⟩=>v5 (l:=r) (H6 h hc)
 |(p,ty,none)::r,σ,⟨kv,fp,h,hc⟩=>v5 (l:=r) ⟨kv,fp,H4 h hc⟩
theorem H5{p:fx}{W:List Nat}(ty:U.Ty)(σ:aa U)(hW:∀s j,p=.slot s j->s∈W):aV W σ (sr p ty σ):=by
 unfold sr
 cases p with
 |slot s j=>
  simp only
  split
  ·rename_i x hx
   rw[bY]
   split
   ·refine⟨rfl,fun s' v hs hg _=> ?_,fun s' p hs hg=> ?_⟩
    ·have:s≠s':=fun e=>hs (e▸hW s j rfl)
     exact(qA _ _ _ _).trans ((if_neg this).trans hg)
    ·have:s≠s':=fun e=>hs (e▸hW s j rfl)
     exact(qA _ _ _ _).trans ((if_neg this).trans hg)
   ·exact aV.refl _ _
  ·exact aV.refl _ _
 |box k1 j=>
  simp only
  split
  ·rename_i cs hx
   rw[bY]
   split
   ·exact⟨rfl,fun s' v hs hg _=>hg,fun s' p hs hg=>hg⟩
   ·exact aV.refl _ _
  ·exact aV.refl _ _
theorem H7{p:fx}{W:List Nat}(ty:U.Ty×Bool)(σ:aa U)(hW:∀s j,p=.slot s j->s∈W):aV W σ (su p ty σ):=by
 unfold su
 rw[bY]
 split
 ·cases p with
  |slot s j=>
   simp only
   split
   ·rename_i x hx
    rw[bY]
    split
    ·refine⟨rfl,fun s' v hs hg _=> ?_,fun s' p hs hg=> ?_⟩
     ·have:s≠s':=fun e=>hs (e▸hW s j rfl)
      exact(qA _ _ _ _).trans ((if_neg this).trans hg)
     ·have:s≠s':=fun e=>hs (e▸hW s j rfl)
      exact(qA _ _ _ _).trans ((if_neg this).trans hg)
    ·exact aV.refl _ _
   ·exact aV.refl _ _
  |box k j=>
   simp only
   split
   ·rw[bY]
    split
    ·exact⟨rfl,fun s v _ hg _=>hg,fun s p _ hg=>hg⟩
    ·exact aV.refl _ _
   ·exact aV.refl _ _
 ·exact aV.refl _ _
theorem Dm{k0 k:Key}{e:b9 U}(h:(fB k0 σ).aq k=some e):σ.aq k=some e\/(k=k0/\∃x,σ.aq k0=some (.arr x true)/\e=.part x fun _=>false):=by
 unfold fB at h
 split at h
 ·rename_i x hx
  replace h:=(tH _ _ _ _).symm.trans h
  split at h
  ·rename_i hk
   cases h
   exact .inr ⟨hk.symm,x,hx,rfl⟩
  ·exact .inl h
 ·exact .inl h
theorem Dl(k0:Key)(σ:aa U):(fB k0 σ).n=σ.n/\(fB k0 σ).ap=σ.ap/\(fB k0 σ).ag=σ.ag:=by
 unfold fB
 split
 ·exact⟨rfl,rfl,rfl⟩
 ·exact⟨rfl,rfl,rfl⟩
theorem HX(h:aC E pm F kv fp σ a w)(hc:bp E w F kv fp σ a)(k0:Key):aC E pm F kv fp (fB k0 σ) a w/\bp E w F kv fp (fB k0 σ) a:=by
 obtain⟨q1,q2,_⟩:=Dl k0 σ
 have gA:∀s,(fB k0 σ).get s=σ.get s:=fun s=>by unfold aa.get;rw[q2]
 have cO:bp E w F kv fp (fB k0 σ) a:=by
  refine⟨fun s x hs=>hc.ap s x (by rw[<-gA];exact hs),fun k e hk=> ?_⟩
  rcases Dm hk with hk|⟨rfl,x,hx,rfl⟩
  ·exact hc.aJ k e hk
  ·exact ba.part (hc.aJ _ _ hx)
 have hold:∀k e,(fB k0 σ).aq k=some e->∃e',σ.aq k=some e':=by
  intro k e hk
  rcases Dm hk with hk|⟨rfl,x,hx,rfl⟩
  ·exact⟨_,hk⟩
  ·exact⟨_,hx⟩
 refine⟨⟨by rw[q1];exact h.size,h.defers,fun s x hs=>(cO.ap s x hs).ep (fun y hy=>nW fun _ _=>rfl),fun k e hk=> ?_,fun k k' e e' b a_ h1 h2 hb=> ?_,fun k e hk=> ?_,fun k e b hk hb=> ?_,h.hJ,h.hH,h.upto,by rw[q1];exact h.rA,h.lay⟩,cO⟩
 ·have:=cO.aJ k e hk
  cases e with
  |arr x deep=>exact this
  |part x dead=>exact this
  |box cs=>
   obtain⟨b,cur,e',g1,g2,g3,g4⟩:=this
   exact⟨b,cur,e',g1,g2,g3,g4.ep (fun y hy=>nW fun _ _=>rfl)⟩
 ·obtain⟨e1,g1⟩:=hold k e h1
  obtain⟨e2,g2⟩:=hold k' e' h2
  exact h.apart k k' e1 e2 b a_ g1 g2 hb
 ·obtain⟨e1,g1⟩:=hold k e hk
  exact h.nodup k e1 g1
 ·obtain⟨e1,g1⟩:=hold k e hk
  exact h.bC k e1 b g1 hb
theorem yK:∀{l:List Key}{σ:aa U},(∃kv fp,aC E pm F kv fp σ a w/\bp E w F kv fp σ a)->∃kv fp,aC E pm F kv fp (parts l σ) a w/\bp E w F kv fp (parts l σ) a
 |[],σ,h=>h
 |s::l,σ,⟨kv,fp,h,hc⟩=>by
  exact yK (l:=l) (σ:=fB s σ) ⟨kv,fp,HX h hc _⟩
theorem yL(W:List Nat):∀(l:List Key)(σ:aa U),aV W σ (parts l σ)
 |[],σ=>aV.refl _ _
 |s::l,σ=>by
  refine aV.trans (τ:=fB s σ) ?_ (yL W l _)
  obtain⟨q1,q2,_⟩:=Dl s σ
  exact⟨q1,fun s v _ hg _=>by unfold aa.get at hg⊢;rw[q2];exact hg,fun s p _ hg=>by unfold aa.get at hg⊢;rw[q2];exact hg⟩
theorem yH:∀{l:List Nat}{σ:aa U},(∃kv fp,aC E pm F kv fp σ a w)->∃kv fp,aC E pm F kv fp (hZ l σ) a w
 |[],σ,h=>h
 |d::l,σ,h=>yH (l:=l) (C4 h d)
theorem yI:∀(l W:List Nat)(σ:aa U),aV W σ (hZ l σ)
 |[],W,σ=>aV.refl _ _
 |d::l,W,σ=>(C5 d W σ).trans (yI l W _)
theorem v7{W:List Nat}:∀(l:List (fx×U.Ty×Option Bool))(σ:aa U),(∀p∈l,∀s j,p.1=fx.slot s j->s∈W)->aV W σ (sq l σ)
 |[],σ,_=>aV.refl _ _
 |(p,ty,some d)::r,σ,h=>(H7 (ty,d) σ (h _ e_)).trans (v7 r _ fun q hq=>h q (c9 _ hq))
 |(p,ty,none)::r,σ,h=>(H5 ty σ (h _ e_)).trans (v7 r _ fun q hq=>h q (c9 _ hq))
theorem yQ{β:Type}(l r:List (Nat×Option β))(s:Nat):look (l++r) s=if l.any (fun p=>Nat.beq p.1 s) then look l s else look r s:=by
 induction l with
 |nil=>simp
 |cons p l ih=>
  obtain⟨t,v⟩:=p
  simp only[FV,look,ye]
  rcases Bool.eq_false_or_eq_true (Nat.beq t s) with h|h
  ·simp[h]
  ·simp only[h,cond_false,rh];exact ih
theorem DC{A:cw U}{wr:List Nat}{x:A.X}{s:Nat}{v:SV U}(h:(dH A wr σ x).get s=some v):
  (s,v)∈A.ap x\/(s∉wr/\s∉A.names/\σ.get s=some v/\((∃y,v=.v y/\(SV.v y).keys=[])\/∃p,v=.fn p)):=by
 unfold aa.get dH at h
 simp only at h
 rw[yQ] at h
 split at h
 ·left
  have:=pM h
  obtain⟨⟨s',v'⟩,hp,e⟩:=ez.1 this
  simp only[eX,bM] at e
  obtain⟨rfl,rfl⟩:=e
  exact hp
 ·right
  have hm:=po.1 (pM h)
  have h1:=tF pH.1 hm.1
  rw[pI (by simp)] at h1
  have h2:=hm.2
  simp only[dR,k_,<-nq,jg,te] at h2
  obtain⟨⟨h3,h4⟩,h5⟩:=h2
  refine⟨fun e=>h3 ⟨s,e,rfl⟩,fun e=>h4 ⟨s,e,rfl⟩,h1,?_⟩
  cases v with
  |v y=>exact .inl ⟨y,rfl,by simpa using h5⟩
  |iV xs=>cases h5
  |fn p=>exact .inr ⟨p,rfl⟩
  |nH g xs=>cases h5
theorem IN{A:cw U}{wr:List Nat}{x:A.X}{s:Nat}{y:AV U}(hw:s∉wr)(hn:s∉A.names)(hg:σ.get s=some (.v y))(hk:(SV.v y).keys=[]):
  (dH A wr σ x).get s=some (.v y):=by
 unfold aa.get dH
 simp only
 rw[yQ,if_neg]
 ·refine tF (v3 pH.1) (po.2 ⟨pM (by rw[pI (by simp)];exact hg),?_⟩)
  simp only[dR,k_,<-nq,jg,te]
  exact⟨⟨fun⟨t,h1,h2⟩=>hw (h2▸h1),fun⟨t,h1,h2⟩=>hn (h2▸h1)⟩,by simp[hk]⟩
 ·simp only[tc,jg,Function.comp,te]
  rintro⟨p,hp,rfl⟩
  exact hn (A.BM x p hp)
theorem IP{A:cw U}{wr:List Nat}{x:A.X}{s:Nat}{p:List (DA U)->Option Value}(hw:s∉wr)(hn:s∉A.names)(hg:σ.get s=some (.fn p)):
  (dH A wr σ x).get s=some (.fn p):=by
 unfold aa.get dH
 simp only
 rw[yQ,if_neg]
 ·refine tF (v3 pH.1) (po.2 ⟨pM (by rw[pI (by simp)];exact hg),?_⟩)
  simp only[dR,k_,<-nq,jg,te]
  exact⟨⟨fun⟨t,h1,h2⟩=>hw (h2▸h1),fun⟨t,h1,h2⟩=>hn (h2▸h1)⟩,by simp⟩
 ·simp only[tc,jg,Function.comp,te]
  rintro⟨p,hp,rfl⟩
  exact hn (A.BM x p hp)
theorem DD{A:cw U}{wr:List Nat}{x:A.X}{k:Key}{e:b9 U}(h:(dH A wr σ x).aq k=some e):(k,e)∈A.aJ x:=by
 have:=l4 (show a9 ((A.aJ x).map fun(k,e)=>(k,some e)) k=some e from h)
 obtain⟨⟨k',e'⟩,hp,e⟩:=ez.1 this
 simp only[eX,bM] at e
 obtain⟨rfl,rfl⟩:=e
 exact hp
theorem H2(h:aC E pm F kv fp σ a w){q:Operand}{v:Value}(hb:kw σ q=some v):a.eval q=v:=by
 unfold kw ns at hb
 split at hb
 ·rename_i sc J8;exact fq (lZ h J8) hb
 ·cases hb
variable{eO:Nat->Option (cw U)}
theorem vR(hE:E.Good)(c:Code):∀{F:Nat->Prop}{kv:Key->Value}{fp:Key->List Nat}{σ:aa U}{a:Act}{w:World}{Q:Out U->Prop}{Q':Exit->Act->World->Prop},
  aC E pm F kv fp σ a w->AM.wp E eO c σ Q->
  (∀o,Q o->aV (bO eO c) σ o.st->∀F kv fp a' w',aC E pm F kv fp o.st a' w'->Q' o.ex a' w')->c.wp E.P Q' a w:=by
 induction c with
 |skip=>
  intro F kv fp σ a w Q Q' h hw hq
  exact wp_skip (hq _ hw (aV.refl _ _) F kv fp a w h)
 |ret=>
  intro F kv fp σ a w Q Q' h hw hq
  exact wp_ret (hq _ hw (aV.refl _ _) F kv fp a w h)
 |exit id=>
  intro F kv fp σ a w Q Q' h hw hq
  exact wp_exit (hq _ hw (aV.refl _ _) F kv fp a w h)
 |region id ops draw=>
  intro F kv fp σ a w Q Q' h hw hq
  exact HT hE h (show jB E ops.toList draw σ _ from hw) (fun dD F kv fp a' w' hk bW hs=>hq (.normal dD) hk bW F kv fp a' w' hs)
 |seq x y Gk Ef=>
  intro F kv fp σ a w Q Q' h hw hq
  simp only[AM.wp] at hw
  refine wp_seq (Gk h hw (fun o ho hk F kv fp a' w' hs=> ?_))
  have kF:aV (bO eO (.seq x y)) σ o.st:=hk.mono fun s hs=>fy _ hs
  cases o with
  |normal dD=>
   refine Ef hs ho (fun o' uq aG F kv fp a' w' cO=>hq o' uq (kF.trans (aG.mono fun s hs=>eZ _ hs)) F kv fp a' w' cO)
  |exit id dD=>exact hq _ ho kF F kv fp a' w' hs
  |ret dD=>exact hq _ ho kF F kv fp a' w' hs
 |cond q x y Gk Ef=>
  intro F kv fp σ a w Q Q' h hw hq
  simp only[AM.wp] at hw
  split at hw
  ·rename_i b hb
   have he:=H2 h hb
   refine wp_cond he ?_
   cases b with
   |true=>exact Gk h hw (fun o ho hk=>hq o ho (hk.mono fun s hs=>fy _ hs))
   |false=>exact Ef h hw (fun o ho hk=>hq o ho (hk.mono fun s hs=>eZ _ hs))
  ·exact hw.elim
 |block id x ih=>
  intro F kv fp σ a w Q Q' h hw hq
  simp only[AM.wp] at hw
  refine wp_block (ih h hw (fun o ho hk F kv fp a' w' hs=> ?_))
  cases o with
  |normal dD=>exact hq (.normal dD) ho hk F kv fp a' w' hs
  |exit Eg dD=>
   simp only at ho
   rw[bY] at ho
   by_cases Kz:Eg=id
   ·subst Kz
    rw[if_pos (by simp)] at ho
    have:=hq (.normal dD) ho hk F kv fp a' w' hs
    simpa[Exit.inBlock,Out.ex] using this
   ·rw[if_neg (by simpa using Kz)] at ho
    have:=hq (.exit Eg dD) ho hk F kv fp a' w' hs
    simpa[Exit.inBlock,Out.ex,Kz] using this
  |ret dD=>exact hq (.ret dD) ho hk F kv fp a' w' hs
 |loop x ih=>
  intro F kv fp σ a w Q Q' h hw hq
  simp only[AM.wp] at hw
  split at hw
  ·rename_i A hA
   obtain⟨x0,⟨Qf,zH⟩,J6,KD⟩:=A.law _ _ hw
   have uk:bO eO (.loop x)=bO eO x++A.names:=by simp only[bO,hA]
   have start:∀{dD:aa U}{F kv fp a' w'}(z:A.X),aC E pm F kv fp dD a' w'->dD.n=σ.n->
     (∀s y,s∉bO eO x->s∉A.names->σ.get s=some (.v y)->(SV.v y).keys=[]->dD.get s=some (.v y))->
     (∀s p,s∉bO eO x->s∉A.names->σ.get s=some (.fn p)->dD.get s=some (.fn p))->
     (∀p∈A.ap z,(mU A dD).get p.1=some p.2)->(∀p∈A.aJ z,(mU A dD).aq p.1=some p.2)->∃F kv fp,aC E pm F kv fp (dH A (bO eO x) σ z) a' w':=by
    intro dD F kv fp a' w' z hs hn bW ol h1 h2
    obtain⟨JQ,Le,hS⟩:=yH (l:=A.names) ⟨kv,fp,nR hs (fun _=>false)⟩
    obtain⟨JR,Qt,hB⟩:=vT (l:=boxes (hZ A.names (cB dD))) ⟨JQ,Le,hS⟩
    obtain⟨FZ,AA,K2,K0⟩:=CV (l:=A.xr) (nR hB (fun _=>false)) (tC hB _)
    obtain⟨F3,Gh,GF,g1,g2⟩:=wh (l:=A.xX) (we (l:=A.xW) ⟨FZ,JR,AA,K2,K0⟩)
    obtain⟨Ec,Fk,s1,s2⟩:=yK (l:=A.xt) (v5 (l:=A.nil) ⟨Gh,GF,g1,g2⟩)
    have zP:aV A.names (cB dD) (mU A dD):=(((((((yI A.names A.names (cB dD)).trans (vU _ _ _)).trans (pK _ _ _)).trans (CW _ _ _)).trans (wg _ _ _)).trans (wi _ _ _)).trans (v7 (W:=A.names) A.nil _ A.Ea)).trans (yL _ _ _)
    refine⟨F3,Ec,Fk,s1.less (τ:=dH A (bO eO x) σ z) (hn.symm.trans zP.n.symm) s2 (fun s v hv=> ?_) (fun k e he=> ?_)⟩
    ·rcases DC hv with hm|⟨g1,g2,g3,⟨y,rfl,g5⟩|⟨p,rfl⟩⟩
     ·exact h1 _ hm
     rotate_left
     ·exact zP.fn s p g2 ((pK _ [] _).fn s p (by simp) (ol s p g1 g2 g3))
     ·exact zP.get s y g2 ((pK _ [] _).get s y (by simp) (bW s y g1 g2 g3 g5) g5) g5
    ·exact h2 _ (DD he)
   obtain⟨F0,pT,w5,lh⟩:=start x0 h rfl (fun s y _ _ hg _=>hg) (fun s p _ _ hg=>hg) J6 KD
   refine wp_loop_ghost (fun n a w=>∃y:A.X,A.I x0 y/\A.μ y=n/\∃F kv fp,aC E pm F kv fp (dH A (bO eO x) σ y) a w) (A.μ x0)
    ⟨x0,Qf,rfl,F0,pT,w5,lh⟩ ?_
   rintro n a1 w1 ⟨y,hI,rfl,F1,JS,B',zD⟩
   refine ih zD (A.va _ zH y hI) (fun o ho hk F kv fp a' w' hs=> ?_)
   have bW:∀s v,s∉bO eO x->s∉A.names->σ.get s=some (.v v)->(SV.v v).keys=[]->o.st.get s=some (.v v):=
    fun s v g1 g2 g3 g4=>hk.get s v g1 (IN g1 g2 g3 g4) g4
   have ol:∀s p,s∉bO eO x->s∉A.names->σ.get s=some (.fn p)->o.st.get s=some (.fn p):=
    fun s p g1 g2 g3=>hk.fn s p g1 (IP g1 g2 g3)
   have i_:aV (bO eO (.loop x)) σ o.st:=by
    refine⟨hk.n,fun s v g1 g3 g4=> ?_,fun s p g1 g3=> ?_⟩
    ·rw[uk,cZ,not_or] at g1
     exact bW s v g1.1 g1.2 g3 g4
    ·rw[uk,cZ,not_or] at g1
     exact ol s p g1.1 g1.2 g3
   cases o with
   |normal dD=>
    obtain⟨z,⟨Qe,bZ⟩,Ex,uI⟩:=A.law _ _ ho
    obtain⟨F2,Ec,Fk,BP⟩:=start z hs hk.n bW ol Ex uI
    exact⟨A.μ z,bZ,z,Qe,rfl,F2,Ec,Fk,BP⟩
   |exit id dD=>exact hq _ ho i_ F kv fp a' w' hs
   |ret dD=>exact hq _ ho i_ F kv fp a' w' hs
  ·exact hw.elim
 |_=>
  intros
  rename_i hw _
  exact hw.elim
def Fq(A:cw U)(Q:Out U->Prop):Out U->Prop
 | .normal σ=>A.un (mU A σ) fun z=>A.I z z
 |o=>Q o
def Oc(E:Env U)(c:Code)(τ:aa U)(Q:Out U->Prop):Prop:=
 ∀{pm:Pm}{F:Nat->Prop}{kv:Key->Value}{fp:Key->List Nat}{a:Act}{w:World}{Q':Exit->Act->World->Prop},
  aC E pm F kv fp τ a w->(∀o,Q o->∀F kv fp a' w',aC E pm F kv fp o.st a' w'->Q' o.ex a' w')->c.wp E.P Q' a w
theorem qu(hE:E.Good){c:Code}{τ:aa U}{Q:Out U->Prop}(h:AM.wp E eO c τ Q):Oc E c τ Q:=fun hs hq=>vR hE c hs h (fun o ho _=>hq o ho)
theorem Jk{A:cw U}{n:Nat}{dD:aa U}(hn:dD.n=n)(hs:aC E pm F kv fp dD a w){z:A.X}(h1:∀p∈A.ap z,(mU A dD).get p.1=some p.2)(h2:∀p∈A.aJ z,(mU A dD).aq p.1=some p.2):
  ∃F kv fp,aC E pm F kv fp (dH A [] ⟨n,[],[],[]⟩ z) a w:=by
 obtain⟨JQ,Le,hS⟩:=yH (l:=A.names) ⟨kv,fp,nR hs (fun _=>false)⟩
 obtain⟨JR,Qt,hB⟩:=vT (l:=boxes (hZ A.names (cB dD))) ⟨JQ,Le,hS⟩
 obtain⟨FZ,AA,K2,K0⟩:=CV (l:=A.xr) (nR hB (fun _=>false)) (tC hB _)
 obtain⟨F3,Gh,GF,g1,g2⟩:=wh (l:=A.xX) (we (l:=A.xW) ⟨FZ,JR,AA,K2,K0⟩)
 obtain⟨Ec,Fk,s1,s2⟩:=yK (l:=A.xt) (v5 (l:=A.nil) ⟨Gh,GF,g1,g2⟩)
 have zP:aV A.names (cB dD) (mU A dD):=(((((((yI A.names A.names (cB dD)).trans (vU _ _ _)).trans (pK _ _ _)).trans (CW _ _ _)).trans (wg _ _ _)).trans (wi _ _ _)).trans (v7 (W:=A.names) A.nil _ A.Ea)).trans (yL _ _ _)
 refine⟨F3,Ec,Fk,s1.less (τ:=dH A [] ⟨n,[],[],[]⟩ z) (hn.symm.trans zP.n.symm) s2 (fun s v hv=> ?_) (fun k e he=> ?_)⟩
 ·rcases DC hv with hm|⟨_,_,g3,_⟩
  ·exact h1 _ hm
  ·cases g3
 ·exact h2 _ (DD he)
theorem Jl(hE:E.Good){r n:Nat}{A:cw U}{Q:Out U->Prop}:∀{c:Code}{p:Code×Code}{σ:aa U},sZ r c=some p->σ.n=n->
  AM.wp E eO p.1 σ (Fq A Q)->(∀y,A.I y y->AM.wp E eO p.2 (dH A [] ⟨n,[],[],[]⟩ y) Q)->Oc E c σ Q:=by
 intro c
 induction c with
 |seq x y Gk Ef=>
  intro p σ hc hn h1 h2 pm F kv fp a w Q' hs hq
  simp only[sZ,bY] at hc
  split at hc
  ·cases hc
   refine wp_seq (vR hE x hs h1 (fun o ho hk F kv fp a' w' cO=> ?_))
   cases o with
   |normal dD=>
    obtain⟨z,hI,Ex,uI⟩:=A.law _ _ (show A.un (mU A dD) (fun z=>A.I z z) from ho)
    obtain⟨F3,Gh,GF,g⟩:=Jk (hk.n.trans hn) cO Ex uI
    exact vR hE y g (h2 z hI) (fun o' uq _=>hq o' uq)
   |exit id dD=>exact hq _ ho F kv fp a' w' cO
   |ret dD=>exact hq _ ho F kv fp a' w' cO
  ·split at hc
   ·rename_i q hb
    cases hc
    simp only[AM.wp] at h1
    refine wp_seq (vR hE x hs h1 (fun o ho hk F kv fp a' w' cO=> ?_))
    cases o with
    |normal dD=>exact Ef hb (hk.n.trans hn) ho h2 cO hq
    |exit id dD=>exact hq _ ho F kv fp a' w' cO
    |ret dD=>exact hq _ ho F kv fp a' w' cO
   ·cases hc
 |_=>intro p σ hc;cases hc
end AM
