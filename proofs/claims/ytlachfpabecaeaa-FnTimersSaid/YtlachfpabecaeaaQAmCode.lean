/- THE ABSTRACT MACHINE: code: its weakest precondition is the model's. -/
import Derived.Test.YtlachfpabecaeaaQAmWp
namespace AM
set_option linter.unusedVariables false
open Go
variable{U:dw}{E:Env U}{pm:Pm}
variable{F F':Nat->Prop}{kv kv':Key->Value}{fp fp':Key->List Nat}{σ τ:aa U}{a:Act}{w w':World}
def Out.st:Out U->aa U
 | .normal σ=>σ
 | .exit _ σ=>σ
 | .ret σ=>σ
def Out.ex:Out U->Exit
 | .normal _=> .normal
 | .exit id _=> .exit id
 | .ret _=> .ret
theorem aE.less(h:aE E pm F kv fp σ a w)(hn:τ.n=σ.n)(hc:bk E w F kv fp σ a)
  (hg:∀s x,τ.get s=some x->σ.get s=some x) (he:∀k e,τ.aw k=some e->σ.aw k=some e):aE E pm F kv fp τ a w:=by
 refine⟨by rw[hn];exact h.size,h.defers,fun s x hs=> ?_,fun k e hk=> ?_,fun k k' e e' b aX h1 h2=>h.apart k k' e e' b aX (he k e h1) (he k' e' h2),
  fun k e hk=>h.nodup k e (he k e hk),fun k e b hk=>h.bt k e b (he k e hk),h.iz,h.iy,h.upto,by rw[hn];exact h.sL,h.lay⟩
 ·exact(hc.au s x (hg s x hs)).eL (fun y hy=>oZ fun _ _=>rfl)
 ·have:=hc.aJ k e (he k e hk)
  cases e with
  |arr x deep=>exact this
  |part x dead=>exact this
  |box cs=>
   obtain⟨b,cur,e',g1,g2,g3,g4⟩:=this
   exact⟨b,cur,e',g1,g2,g3,g4.eL (fun y hy=>oZ fun _ _=>rfl)⟩
theorem HM{k:Key}(h:unnamed k σ=true):¬Names σ k:=by
 unfold unnamed at h
 simp only[c9,qc] at h
 rintro(⟨s,x,hs,hk⟩|⟨k',cs,he,x,hx,hk⟩)
 ·have:=h.1 _ (qB hs)
  simp only[l6,<-n7,gX] at this
  exact this hk
 ·have:=h.2 _ (mN he)
  simp only[l6,<-n7,jI] at this
  exact this ⟨x,hx,jI.1 (gX.2 hk)⟩
theorem aE.row(h:aE E pm F kv fp σ a w)(hc:bk E w F kv fp σ a){k0:Key}(nE:σ.aw k0=none)(y4:¬Names σ k0)(NF:1024<=k0.2){ty:U.Ty}{d0:Bool}{v0:Value}(vr:∃ad,v0=.slice ad 0 0)(hn:τ.n=σ.n)
  (hg:∀s x,τ.get s=some x->σ.get s=some x\/∃y j,σ.get s=some (.v y)/\y.cs[j]? =some .e0/\x=.v ⟨y.agg,y.cs.set j (.ref k0 [])⟩/\∀vs,dQ E w F kv fp (fun _=>false) y.cs vs->(if y.agg then a.tmps.getD s undef=.agg vs.toArray else vs=[a.tmps.getD s undef])->vs[j]? =some v0)
  (he:∀k e,τ.aw k=some e->(k=k0/\e=.arr ⟨ty,[]⟩ d0)\/σ.aw k=some e\/∃cs j,σ.aw k=some (.box cs)/\cs[j]? =some .e0/\e=.box (cs.set j (.ref k0 []))/\∀b cur Pq,kv k=.pointer (some ⟨b,0,none⟩)->w.heap[b]? =some (.cells cur Pq (0,0))->cur.toList[j]? =some v0):
  ∃kv fp,aE E pm F kv fp τ a w/\bk E w F kv fp τ a:=by
 classical
 let kv':Key->Value:=fun k=>if k=k0 then v0 else kv k
 let fp':Key->List Nat:=fun k=>if k=k0 then[] else fp k
 have tZ:∀k,k≠k0->kv' k=kv k:=fun k hk=>if_neg hk
 have g_:∀k,k≠k0->fp' k=fp k:=fun k hk=>if_neg hk
 have E2:kv' k0=v0:=if_pos rfl
 have vM:fp' k0=[]:=if_pos rfl
 have io:∀k,Names σ k->fP w w kv kv' fp fp' (fun _=>false) (fun _=>false) k:=by
  intro k hk
  have:k≠k0:=fun e=>y4 (e▸hk)
  exact⟨tZ k this,.inr ⟨rfl,g_ k this,fun _ _=>rfl⟩⟩
 have hF:∀b,F b->F b/\w.heap[b]? =w.heap[b]? :=fun b hb=>⟨hb,rfl⟩
 have vx:∀{cs:List (AC U)}{vs:List Value}{j:Nat},dQ E w F kv fp (fun _=>false) cs vs->(∀x∈cs,∀k∈x.keys,Names σ k)->vs[j]? =some v0->dQ E w F kv' fp' (fun _=>false) (cs.set j (.ref k0 [])) vs:=by
  intro cs vs j hd gR hj
  have nU:dQ E w F kv' fp' (fun _=>false) cs vs:=hd.move (fun x hx k hk=>io k (gR x hx k hk)) hF
  refine⟨by simpa using hd.1,fun i x v hx hv=> ?_⟩
  rw[yw] at hx
  split at hx
  ·rename_i vJ
   subst vJ
   split at hx
   ·cases hx
    rw[hv] at hj
    cases hj
    obtain⟨ad,rfl⟩:=vr
    exact⟨⟨rfl,trivial⟩,.inr (by simp only[RA];rw[E2];rfl)⟩
   ·cases hx
  ·exact nU.2 i x v hx hv
 have cZ:bk E w F kv' fp' τ a:=by
  refine⟨fun s x hs=> ?_,fun k e hk=> ?_⟩
  ·rcases hg s x hs with g|⟨y,j,g1,g2,rfl,g4⟩
   ·exact(hc.au s x g).move (fun k hk=>io k (.inl ⟨s,x,g,hk⟩)) hF
   ·obtain⟨vs,r1,r2⟩:=hc.au s _ g1
    exact⟨vs,vx r1 (fun x hx k hk=> .inl ⟨s,_,g1,SV.mem_keys.2 ⟨x,hx,hk⟩⟩) (g4 vs r1 r2),r2⟩
  ·rcases he k e hk with⟨rfl,rfl⟩|g|⟨cs,j,g1,g2,rfl,g4⟩
   ·obtain⟨ad,rfl⟩:=vr
    exact .inl ⟨rfl,⟨ad,E2⟩,vM⟩
   ·have aX:k≠k0:=fun e'=>by rw[e',nE] at g;cases g
    have:=hc.aJ k e g
    rw[tZ k aX,g_ k aX]
    cases e with
    |arr x deep=>exact this
    |part x dead=>exact this
    |box cs=>
     obtain⟨b,cur,e',r1,r2,r3,r4⟩:=this
     exact⟨b,cur,e',r1,r2,r3,r4.move (fun x hx k' aG=>io k' (.inr ⟨k,cs,g,x,hx,aG⟩)) hF⟩
   ·have aX:k≠k0:=fun e'=>by rw[e',nE] at g1;cases g1
    obtain⟨b,cur,e',r1,r2,r3,r4⟩:=hc.aJ k _ g1
    rw[tZ k aX,g_ k aX]
    exact⟨b,cur,e',r1,r2,r3,vx r4 (fun x hx k' aG=> .inr ⟨k,cs,g1,x,hx,aG⟩) (g4 b cur e' r1 r2)⟩
 have hold:∀k e,τ.aw k=some e->k≠k0->∃e',σ.aw k=some e':=by
  intro k e hk aX
  rcases he k e hk with⟨rfl,_⟩|g|⟨cs,j,g1,_⟩
  ·exact absurd rfl aX
  ·exact⟨_,g⟩
  ·exact⟨_,g1⟩
 refine⟨kv',fp',⟨by rw[hn];exact h.size,h.defers,fun s x hs=>(cZ.au s x hs).eL (fun y hy=>oZ fun _ _=>rfl),fun k e hk=> ?_,fun k k' e e' b aX h1 h2 hb=> ?_,fun k e hk=> ?_,fun k e b hk hb=> ?_,h.iz,h.iy,h.upto,fun k v hp=> ?_,h.lay⟩,cZ⟩
 ·have:=cZ.aJ k e hk
  cases e with
  |arr x deep=>exact this
  |part x dead=>exact this
  |box cs=>
   obtain⟨b,cur,e',g1,g2,g3,g4⟩:=this
   exact⟨b,cur,e',g1,g2,g3,g4.eL (fun y hy=>oZ fun _ _=>rfl)⟩
 ·by_cases hk:k=k0
  ·rw[hk,vM] at hb;cases hb
  ·by_cases aG:k'=k0
   ·rw[aG,vM];exact wE
   ·obtain⟨e1,g1⟩:=hold k e h1 hk
    obtain⟨e2,g2⟩:=hold k' e' h2 aG
    rw[g_ k hk] at hb
    rw[g_ k' aG]
    exact h.apart k k' e1 e2 b aX g1 g2 hb
 ·by_cases aG:k=k0
  ·rw[aG,vM];exact zq
  ·obtain⟨e1,g1⟩:=hold k e hk aG
   rw[g_ k aG];exact h.nodup k e1 g1
 ·by_cases aG:k=k0
  ·rw[aG,vM] at hb;cases hb
  ·obtain⟨e1,g1⟩:=hold k e hk aG
   rw[g_ k aG] at hb;exact h.bt k e1 b g1 hb
 ·obtain⟨p1,p2,p3,p4⟩:=h.sL k v hp
  refine⟨p1,p2,by rw[hn];exact p3,?_⟩
  rw[tZ k (fun e=>by rw[e] at p2;omega)];exact p4
theorem aE.CE(h:aE E pm F kv fp σ a w)(hc:bk E w F kv fp σ a)(hn:τ.n=σ.n)
  (hg:∀s x,τ.get s=some x->σ.get s=some x\/∃y j ty,σ.get s=some (.v y)/\y.cs[j]? =some .e0/\x=.v ⟨y.agg,y.cs.set j (.c (.sl ty []))⟩)
  (he:∀k e,τ.aw k=some e->σ.aw k=some e\/∃cs j ty,σ.aw k=some (.box cs)/\cs[j]? =some .e0/\e=.box (cs.set j (.c (.sl ty [])))):
  aE E pm F kv fp τ a w/\bk E w F kv fp τ a:=by
 have vx:∀{cs:List (AC U)}{vs:List Value}{j:Nat}{ty:U.Ty},dQ E w F kv fp (fun _=>false) cs vs->cs[j]? =some .e0->dQ E w F kv fp (fun _=>false) (cs.set j (.c (.sl ty []))) vs:=by
  intro cs vs j ty hd hj
  refine⟨by simpa using hd.1,fun i x v hx hv=> ?_⟩
  rw[yw] at hx
  split at hx
  ·rename_i vJ
   subst vJ
   split at hx
   ·cases hx
    obtain⟨g1,g2⟩:=hd.2 j _ v hj hv
    refine⟨g1,.inr ?_⟩
    rcases g2 with g2|⟨ad,rfl⟩
    ·cases g2
    ·exact .nil false ty ad 0 (fun _=>rfl)
   ·cases hx
  ·exact hd.2 i x v hx hv
 have cZ:bk E w F kv fp τ a:=by
  refine⟨fun s x hs=> ?_,fun k e hk=> ?_⟩
  ·rcases hg s x hs with g|⟨y,j,ty,g1,g2,rfl⟩
   ·exact hc.au s x g
   ·obtain⟨vs,r1,r2⟩:=hc.au s _ g1
    exact⟨vs,vx r1 g2,r2⟩
  ·rcases he k e hk with g|⟨cs,j,ty,g1,g2,rfl⟩
   ·exact hc.aJ k e g
   ·obtain⟨b,cur,e',r1,r2,r3,r4⟩:=hc.aJ k _ g1
    exact⟨b,cur,e',r1,r2,r3,vx r4 g2⟩
 have hold:∀k e,τ.aw k=some e->∃e',σ.aw k=some e':=by
  intro k e hk
  rcases he k e hk with g|⟨cs,j,ty,g1,_⟩
  ·exact⟨_,g⟩
  ·exact⟨_,g1⟩
 refine⟨⟨by rw[hn];exact h.size,h.defers,fun s x hs=>(cZ.au s x hs).eL (fun y hy=>oZ fun _ _=>rfl),fun k e hk=> ?_,fun k k' e e' b aX h1 h2 hb=> ?_,fun k e hk=> ?_,fun k e b hk hb=> ?_,h.iz,h.iy,h.upto,fun k v hp=> ?_,h.lay⟩,cZ⟩
 ·have:=cZ.aJ k e hk
  cases e with
  |arr x deep=>exact this
  |part x dead=>exact this
  |box cs=>
   obtain⟨b,cur,e',g1,g2,g3,g4⟩:=this
   exact⟨b,cur,e',g1,g2,g3,g4.eL (fun y hy=>oZ fun _ _=>rfl)⟩
 ·obtain⟨e1,g1⟩:=hold k e h1
  obtain⟨e2,g2⟩:=hold k' e' h2
  exact h.apart k k' e1 e2 b aX g1 g2 hb
 ·obtain⟨e1,g1⟩:=hold k e hk
  exact h.nodup k e1 g1
 ·obtain⟨e1,g1⟩:=hold k e hk
  exact h.bt k e1 b g1 hb
 ·obtain⟨p1,p2,p3,p4⟩:=h.sL k v hp
  exact⟨p1,p2,by rw[hn];exact p3,p4⟩
theorem xj{x:Option (AC U)}:tI x=true↔x=some .e0:=by
 unfold tI
 split
 ·simp
 ·rename_i h;simp only[mF,false_iff];exact fun e=>h e
theorem uX{β:Type}(k k':Key)(v:Option β)(l:List (Key×Option β)):aW ((k,v)::l) k'=if k=k' then v else aW l k':=by
 simp only[aW]
 by_cases h:k=k'
 ·rw[fF.2 h,if_pos h];rfl
 ·rw[rR.2 h,if_neg h];rfl
theorem rQ{β:Type}(k k':Nat)(v:Option β)(l:List (Nat×Option β)):look ((k,v)::l) k'=if k=k' then v else look l k':=by
 simp only[look]
 by_cases h:k=k'
 ·rw[if_pos h,(by simpa using h:Nat.beq k k'=true)];rfl
 ·rw[if_neg h,(by rw[<-n7,uC];exact h:Nat.beq k k'=false)];rfl
theorem wc{x:AC U}{v:Value}(h:RD E w F kv fp (fun _=>false) x v)(hx:x=.e0):∃ad,v=.slice ad 0 0:=by
 subst hx
 exact aA h rfl
theorem Iw{p:fU}{ty:U.Ty×Bool}(h:aE E pm F kv fp σ a w)(hc:bk E w F kv fp σ a):∃kv fp,aE E pm F kv fp (tE p ty σ) a w/\bk E w F kv fp (tE p ty σ) a:=by
 have same:∃kv fp,aE E pm F kv fp σ a w/\bk E w F kv fp σ a:=⟨kv,fp,h,hc⟩
 unfold tE
 rw[bV]
 split
 ·rename_i eK
  simp only[c9,wC,Option.isNone_iff_eq_none] at eK
  obtain⟨⟨c1,c2⟩,c3⟩:=eK
  have xR:=HM c2
  cases p with
  |slot s j=>
   simp only
   split
   ·rename_i x hx
    rw[bV]
    split
    ·rename_i fm
     have fm:=xj.1 fm
     obtain⟨vs,r1,r2⟩:=hc.au s _ hx
     have bU:j<vs.length:=by
      rw[<-r1.1]
      rcases fA j x.cs.length with g|g
      ·exact g
      ·rw[fb g] at fm;cases fm
     have EG:vs[j]? =some vs[j]:=cF bU
     refine h.row hc (τ:={σ with au:=(s,some (.v ⟨x.agg,x.cs.set j (.ref (fU.slot s j).key [])⟩))::σ.au,tab:=((fU.slot s j).key,some (.arr ⟨ty.1,[]⟩ ty.2))::σ.tab})
      (k0:=(fU.slot s j).key) c1 xR c3 (ty:=ty.1) (d0:=ty.2) (v0:=vs[j]) (wc (r1.2 j _ _ fm EG) rfl) rfl (fun s' x' cZ=> ?_) (fun k e hk=> ?_)
     ·replace cZ:=(rQ _ _ _ _).symm.trans cZ
      split at cZ
      ·rename_i e;subst e
       cases cZ
       refine .inr ⟨x,j,hx,fm,rfl,fun jJ PO zG=> ?_⟩
       have:jJ=vs:=by
        cases wK:x.agg
        ·rw[wK] at r2 zG;simp only[mF,if_false] at r2 zG;rw[r2,zG]
        ·rw[wK] at r2 zG;simp only[if_true] at r2 zG
         rw[r2] at zG
         simpa using zG.symm
       rw[this];exact EG
      ·exact .inl cZ
     ·replace hk:=(uX _ _ _ _).symm.trans hk
      split at hk
      ·rename_i e;cases hk;exact .inl ⟨e.symm,rfl⟩
      ·exact .inr (.inl hk)
    ·exact same
   ·exact same
  |box k1 j=>
   simp only
   split
   ·rename_i cs hx
    rw[bV]
    split
    ·rename_i fm
     have fm:=xj.1 fm
     obtain⟨b,cur,e',r1,r2,r3,r4⟩:=hc.aJ k1 _ hx
     have bU:j<cur.toList.length:=by
      rw[<-r4.1]
      rcases fA j cs.length with g|g
      ·exact g
      ·rw[fb g] at fm;cases fm
     have EG:cur.toList[j]? =some cur.toList[j]:=cF bU
     refine h.row hc (τ:={σ with tab:=((fU.box k1 j).key,some (.arr ⟨ty.1,[]⟩ ty.2))::(k1,some (.box (cs.set j (.ref (fU.box k1 j).key []))))::σ.tab})
      (k0:=(fU.box k1 j).key) c1 xR c3 (ty:=ty.1) (d0:=ty.2) (v0:=cur.toList[j]) (wc (r4.2 j _ _ fm EG) rfl) rfl (fun s' x' cZ=> .inl cZ) (fun k e hk=> ?_)
     replace hk:=(uX _ _ _ _).symm.trans hk
     split at hk
     ·rename_i e;cases hk;exact .inl ⟨e.symm,rfl⟩
     ·rw[uX] at hk
      split at hk
      ·rename_i e;cases hk
       subst e
       refine .inr (.inr ⟨cs,j,hx,fm,rfl,fun b2 Pt e2 g1 g2=> ?_⟩)
       rw[r1] at g1;cases g1
       rw[r2] at g2;cases g2
       exact EG
      ·exact .inr (.inl hk)
    ·exact same
   ·exact same
 ·exact same
theorem Iu{p:fU}{ty:U.Ty}(h:aE E pm F kv fp σ a w)(hc:bk E w F kv fp σ a):aE E pm F kv fp (tD p ty σ) a w/\bk E w F kv fp (tD p ty σ) a:=by
 have same:aE E pm F kv fp σ a w/\bk E w F kv fp σ a:=⟨h,hc⟩
 unfold tD
 cases p with
 |slot s j=>
  simp only
  split
  ·rename_i x hx
   rw[bV]
   split
   ·rename_i fm
    have fm:=xj.1 fm
    refine h.CE hc (τ:={σ with au:=(s,some (.v ⟨x.agg,x.cs.set j (.c (.sl ty []))⟩))::σ.au}) rfl (fun s' x' cZ=> ?_) (fun k e hk=> .inl hk)
    replace cZ:=(rQ _ _ _ _).symm.trans cZ
    split at cZ
    ·rename_i e;subst e
     cases cZ
     exact .inr ⟨x,j,ty,hx,fm,rfl⟩
    ·exact .inl cZ
   ·exact same
  ·exact same
 |box k1 j=>
  simp only
  split
  ·rename_i cs hx
   rw[bV]
   split
   ·rename_i fm
    have fm:=xj.1 fm
    refine h.CE hc (τ:={σ with tab:=(k1,some (.box (cs.set j (.c (.sl ty [])))))::σ.tab}) rfl (fun s' x' cZ=> .inl cZ) (fun k e hk=> ?_)
    replace hk:=(uX _ _ _ _).symm.trans hk
    split at hk
    ·rename_i e;cases hk
     subst e
     exact .inr ⟨cs,j,ty,hx,fm,rfl⟩
    ·exact .inl hk
   ·exact same
  ·exact same
theorem xd:∀{l:List (fU×U.Ty×Option Bool)}{σ:aa U},(∃kv fp,aE E pm F kv fp σ a w/\bk E w F kv fp σ a)->∃kv fp,aE E pm F kv fp (tC l σ) a w/\bk E w F kv fp (tC l σ) a
 |[],σ,h=>h
 |(p,ty,some d)::r,σ,⟨kv,fp,h,hc⟩=>xd (l:=r) (Iw h hc)
 |(p,ty,none)::r,σ,⟨kv,fp,h,hc⟩=>xd (l:=r) ⟨kv,fp,Iu h hc⟩
theorem Iv{p:fU}{W:List Nat}(ty:U.Ty)(σ:aa U)(hW:∀s j,p=.slot s j->s∈W):aS W σ (tD p ty σ):=by
 unfold tD
 cases p with
 |slot s j=>
  simp only
  split
  ·rename_i x hx
   rw[bV]
   split
   ·refine⟨rfl,fun s' v hs hg _=> ?_,fun s' p hs hg=> ?_⟩
    ·have:s≠s':=fun e=>hs (e▸hW s j rfl)
     exact(rQ _ _ _ _).trans ((if_neg this).trans hg)
    ·have:s≠s':=fun e=>hs (e▸hW s j rfl)
     exact(rQ _ _ _ _).trans ((if_neg this).trans hg)
   ·exact aS.refl _ _
  ·exact aS.refl _ _
 |box k1 j=>
  simp only
  split
  ·rename_i cs hx
   rw[bV]
   split
   ·exact⟨rfl,fun s' v hs hg _=>hg,fun s' p hs hg=>hg⟩
   ·exact aS.refl _ _
  ·exact aS.refl _ _
theorem Ix{p:fU}{W:List Nat}(ty:U.Ty×Bool)(σ:aa U)(hW:∀s j,p=.slot s j->s∈W):aS W σ (tE p ty σ):=by
 unfold tE
 rw[bV]
 split
 ·cases p with
  |slot s j=>
   simp only
   split
   ·rename_i x hx
    rw[bV]
    split
    ·refine⟨rfl,fun s' v hs hg _=> ?_,fun s' p hs hg=> ?_⟩
     ·have:s≠s':=fun e=>hs (e▸hW s j rfl)
      exact(rQ _ _ _ _).trans ((if_neg this).trans hg)
     ·have:s≠s':=fun e=>hs (e▸hW s j rfl)
      exact(rQ _ _ _ _).trans ((if_neg this).trans hg)
    ·exact aS.refl _ _
   ·exact aS.refl _ _
  |box k j=>
   simp only
   split
   ·rw[bV]
    split
    ·exact⟨rfl,fun s v _ hg _=>hg,fun s p _ hg=>hg⟩
    ·exact aS.refl _ _
   ·exact aS.refl _ _
 ·exact aS.refl _ _
theorem DE{k0 k:Key}{e:bZ U}(h:(f_ k0 σ).aw k=some e):σ.aw k=some e\/(k=k0/\∃x,σ.aw k0=some (.arr x true)/\e=.part x fun _=>false):=by
 unfold f_ at h
 split at h
 ·rename_i x hx
  replace h:=(uX _ _ _ _).symm.trans h
  split at h
  ·rename_i hk
   cases h
   exact .inr ⟨hk.symm,x,hx,rfl⟩
  ·exact .inl h
 ·exact .inl h
theorem DD(k0:Key)(σ:aa U):(f_ k0 σ).n=σ.n/\(f_ k0 σ).au=σ.au/\(f_ k0 σ).ah=σ.ah:=by
 unfold f_
 split
 ·exact⟨rfl,rfl,rfl⟩
 ·exact⟨rfl,rfl,rfl⟩
theorem Im(h:aE E pm F kv fp σ a w)(hc:bk E w F kv fp σ a)(k0:Key):aE E pm F kv fp (f_ k0 σ) a w/\bk E w F kv fp (f_ k0 σ) a:=by
 obtain⟨q1,q2,_⟩:=DD k0 σ
 have gZ:∀s,(f_ k0 σ).get s=σ.get s:=fun s=>by unfold aa.get;rw[q2]
 have cZ:bk E w F kv fp (f_ k0 σ) a:=by
  refine⟨fun s x hs=>hc.au s x (by rw[<-gZ];exact hs),fun k e hk=> ?_⟩
  rcases DE hk with hk|⟨rfl,x,hx,rfl⟩
  ·exact hc.aJ k e hk
  ·exact aZ.part (hc.aJ _ _ hx)
 have hold:∀k e,(f_ k0 σ).aw k=some e->∃e',σ.aw k=some e':=by
  intro k e hk
  rcases DE hk with hk|⟨rfl,x,hx,rfl⟩
  ·exact⟨_,hk⟩
  ·exact⟨_,hx⟩
 refine⟨⟨by rw[q1];exact h.size,h.defers,fun s x hs=>(cZ.au s x hs).eL (fun y hy=>oZ fun _ _=>rfl),fun k e hk=> ?_,fun k k' e e' b aX h1 h2 hb=> ?_,fun k e hk=> ?_,fun k e b hk hb=> ?_,h.iz,h.iy,h.upto,by rw[q1];exact h.sL,h.lay⟩,cZ⟩
 ·have:=cZ.aJ k e hk
  cases e with
  |arr x deep=>exact this
  |part x dead=>exact this
  |box cs=>
   obtain⟨b,cur,e',g1,g2,g3,g4⟩:=this
   exact⟨b,cur,e',g1,g2,g3,g4.eL (fun y hy=>oZ fun _ _=>rfl)⟩
 ·obtain⟨e1,g1⟩:=hold k e h1
  obtain⟨e2,g2⟩:=hold k' e' h2
  exact h.apart k k' e1 e2 b aX g1 g2 hb
 ·obtain⟨e1,g1⟩:=hold k e hk
  exact h.nodup k e1 g1
 ·obtain⟨e1,g1⟩:=hold k e hk
  exact h.bt k e1 b g1 hb
theorem zS:∀{l:List Key}{σ:aa U},(∃kv fp,aE E pm F kv fp σ a w/\bk E w F kv fp σ a)->∃kv fp,aE E pm F kv fp (parts l σ) a w/\bk E w F kv fp (parts l σ) a
 |[],σ,h=>h
 |s::l,σ,⟨kv,fp,h,hc⟩=>by
  exact zS (l:=l) (σ:=f_ s σ) ⟨kv,fp,Im h hc _⟩
theorem zT(W:List Nat):∀(l:List Key)(σ:aa U),aS W σ (parts l σ)
 |[],σ=>aS.refl _ _
 |s::l,σ=>by
  refine aS.trans (τ:=f_ s σ) ?_ (zT W l _)
  obtain⟨q1,q2,_⟩:=DD s σ
  exact⟨q1,fun s v _ hg _=>by unfold aa.get at hg⊢;rw[q2];exact hg,fun s p _ hg=>by unfold aa.get at hg⊢;rw[q2];exact hg⟩
theorem zP:∀{l:List Nat}{σ:aa U},(∃kv fp,aE E pm F kv fp σ a w)->∃kv fp,aE E pm F kv fp (iG l σ) a w
 |[],σ,h=>h
 |d::l,σ,h=>zP (l:=l) (Di h d)
theorem zQ:∀(l W:List Nat)(σ:aa U),aS W σ (iG l σ)
 |[],W,σ=>aS.refl _ _
 |d::l,W,σ=>(Dj d W σ).trans (zQ l W _)
theorem xe{W:List Nat}:∀(l:List (fU×U.Ty×Option Bool))(σ:aa U),(∀p∈l,∀s j,p.1=fU.slot s j->s∈W)->aS W σ (tC l σ)
 |[],σ,_=>aS.refl _ _
 |(p,ty,some d)::r,σ,h=>(Ix (ty,d) σ (h _ gp)).trans (xe r _ fun q hq=>h q (d_ _ hq))
 |(p,ty,none)::r,σ,h=>(Iv ty σ (h _ gp)).trans (xe r _ fun q hq=>h q (d_ _ hq))
theorem zY{β:Type}(l r:List (Nat×Option β))(s:Nat):look (l++r) s=if l.any (fun p=>Nat.beq p.1 s) then look l s else look r s:=by
 induction l with
 |nil=>simp
 |cons p l ih=>
  obtain⟨t,v⟩:=p
  simp only[Hg,look,zo]
  rcases Bool.eq_false_or_eq_true (Nat.beq t s) with h|h
  ·simp[h]
  ·simp only[h,cond_false,sA];exact ih
theorem DS{A:iC U}{wr:List Nat}{x:A.X}{s:Nat}{v:SV U}(h:(dZ A wr σ x).get s=some v):
  (s,v)∈A.au x\/(s∉wr/\s∉A.names/\σ.get s=some v/\((∃y,v=.v y/\(SV.v y).keys=[])\/∃p,v=.fn p)):=by
 unfold aa.get dZ at h
 simp only at h
 rw[zY] at h
 split at h
 ·left
  have:=qB h
  obtain⟨⟨s',v'⟩,hp,e⟩:=eV.1 this
  simp only[fB,bH] at e
  obtain⟨rfl,rfl⟩:=e
  exact hp
 ·right
  have hm:=qa.1 (qB h)
  have h1:=uV qv.1 hm.1
  rw[qw (by simp)] at h1
  have h2:=hm.2
  simp only[c9,l6,<-n7,jI,uC] at h2
  obtain⟨⟨h3,h4⟩,h5⟩:=h2
  refine⟨fun e=>h3 ⟨s,e,rfl⟩,fun e=>h4 ⟨s,e,rfl⟩,h1,?_⟩
  cases v with
  |v y=>exact .inl ⟨y,rfl,by simpa using h5⟩
  |jx xs=>cases h5
  |fn p=>exact .inr ⟨p,rfl⟩
  |ox g xs=>cases h5
theorem Jb{A:iC U}{wr:List Nat}{x:A.X}{s:Nat}{y:AV U}(hw:s∉wr)(hn:s∉A.names)(hg:σ.get s=some (.v y))(hk:(SV.v y).keys=[]):
  (dZ A wr σ x).get s=some (.v y):=by
 unfold aa.get dZ
 simp only
 rw[zY,if_neg]
 ·refine uV (xc qv.1) (qa.2 ⟨qB (by rw[qw (by simp)];exact hg),?_⟩)
  simp only[c9,l6,<-n7,jI,uC]
  exact⟨⟨fun⟨t,h1,h2⟩=>hw (h2▸h1),fun⟨t,h1,h2⟩=>hn (h2▸h1)⟩,by simp[hk]⟩
 ·simp only[uB,jI,Function.comp,uC]
  rintro⟨p,hp,rfl⟩
  exact hn (A.B5 x p hp)
theorem Jc{A:iC U}{wr:List Nat}{x:A.X}{s:Nat}{p:List (DA U)->Option Value}(hw:s∉wr)(hn:s∉A.names)(hg:σ.get s=some (.fn p)):
  (dZ A wr σ x).get s=some (.fn p):=by
 unfold aa.get dZ
 simp only
 rw[zY,if_neg]
 ·refine uV (xc qv.1) (qa.2 ⟨qB (by rw[qw (by simp)];exact hg),?_⟩)
  simp only[c9,l6,<-n7,jI,uC]
  exact⟨⟨fun⟨t,h1,h2⟩=>hw (h2▸h1),fun⟨t,h1,h2⟩=>hn (h2▸h1)⟩,by simp⟩
 ·simp only[uB,jI,Function.comp,uC]
  rintro⟨p,hp,rfl⟩
  exact hn (A.B5 x p hp)
theorem DT{A:iC U}{wr:List Nat}{x:A.X}{k:Key}{e:bZ U}(h:(dZ A wr σ x).aw k=some e):(k,e)∈A.aJ x:=by
 have:=mN (show aW ((A.aJ x).map fun(k,e)=>(k,some e)) k=some e from h)
 obtain⟨⟨k',e'⟩,hp,e⟩:=eV.1 this
 simp only[fB,bH] at e
 obtain⟨rfl,rfl⟩:=e
 exact hp
theorem Ir(h:aE E pm F kv fp σ a w){q:Operand}{v:Value}(hb:lc σ q=some v):a.eval q=v:=by
 unfold lc n9 at hb
 split at hb
 ·rename_i sc Kv;exact fR (mM h Kv) hb
 ·cases hb
variable{fa:Nat->Option (iC U)}
theorem w4(hE:E.Good)(c:Code):∀{F:Nat->Prop}{kv:Key->Value}{fp:Key->List Nat}{σ:aa U}{a:Act}{w:World}{Q:Out U->Prop}{Q':Exit->Act->World->Prop},
  aE E pm F kv fp σ a w->AM.wp E fa c σ Q->
  (∀o,Q o->aS (bI fa c) σ o.st->∀F kv fp a' w',aE E pm F kv fp o.st a' w'->Q' o.ex a' w')->c.wp E.P Q' a w:=by
 induction c with
 |skip=>
  intro F kv fp σ a w Q Q' h hw hq
  exact wp_skip (hq _ hw (aS.refl _ _) F kv fp a w h)
 |ret=>
  intro F kv fp σ a w Q Q' h hw hq
  exact wp_ret (hq _ hw (aS.refl _ _) F kv fp a w h)
 |exit id=>
  intro F kv fp σ a w Q Q' h hw hq
  exact wp_exit (hq _ hw (aS.refl _ _) F kv fp a w h)
 |region id ops draw=>
  intro F kv fp σ a w Q Q' h hw hq
  exact Ii hE h (show j_ E ops.toList draw σ _ from hw) (fun dR F kv fp a' w' hk bQ hs=>hq (.normal dR) hk bQ F kv fp a' w' hs)
 |seq x y GN Ex=>
  intro F kv fp σ a w Q Q' h hw hq
  simp only[AM.wp] at hw
  refine wp_seq (GN h hw (fun o ho hk F kv fp a' w' hs=> ?_))
  have ll:aS (bI fa (.seq x y)) σ o.st:=hk.mono fun s hs=>fV _ hs
  cases o with
  |normal dR=>
   refine Ex hs ho (fun o' vA aG F kv fp a' w' cZ=>hq o' vA (ll.trans (aG.mono fun s hs=>fD _ hs)) F kv fp a' w' cZ)
  |exit id dR=>exact hq _ ho ll F kv fp a' w' hs
  |ret dR=>exact hq _ ho ll F kv fp a' w' hs
 |cond q x y GN Ex=>
  intro F kv fp σ a w Q Q' h hw hq
  simp only[AM.wp] at hw
  split at hw
  ·rename_i b hb
   have he:=Ir h hb
   refine wp_cond he ?_
   cases b with
   |true=>exact GN h hw (fun o ho hk=>hq o ho (hk.mono fun s hs=>fV _ hs))
   |false=>exact Ex h hw (fun o ho hk=>hq o ho (hk.mono fun s hs=>fD _ hs))
  ·exact hw.elim
 |block id x ih=>
  intro F kv fp σ a w Q Q' h hw hq
  simp only[AM.wp] at hw
  refine wp_block (ih h hw (fun o ho hk F kv fp a' w' hs=> ?_))
  cases o with
  |normal dR=>exact hq (.normal dR) ho hk F kv fp a' w' hs
  |exit Ey dR=>
   simp only at ho
   rw[bV] at ho
   by_cases KW:Ey=id
   ·subst KW
    rw[if_pos (by simp)] at ho
    have:=hq (.normal dR) ho hk F kv fp a' w' hs
    simpa[Exit.inBlock,Out.ex] using this
   ·rw[if_neg (by simpa using KW)] at ho
    have:=hq (.exit Ey dR) ho hk F kv fp a' w' hs
    simpa[Exit.inBlock,Out.ex,KW] using this
  |ret dR=>exact hq (.ret dR) ho hk F kv fp a' w' hs
 |loop x ih=>
  intro F kv fp σ a w Q Q' h hw hq
  simp only[AM.wp] at hw
  split at hw
  ·rename_i A hA
   obtain⟨x0,⟨O7,AT⟩,Kt,K0⟩:=A.law _ _ hw
   have vu:bI fa (.loop x)=bI fa x++A.names:=by simp only[bI,hA]
   have start:∀{dR:aa U}{F kv fp a' w'}(z:A.X),aE E pm F kv fp dR a' w'->dR.n=σ.n->
     (∀s y,s∉bI fa x->s∉A.names->σ.get s=some (.v y)->(SV.v y).keys=[]->dR.get s=some (.v y))->
     (∀s p,s∉bI fa x->s∉A.names->σ.get s=some (.fn p)->dR.get s=some (.fn p))->
     (∀p∈A.au z,(nM A dR).get p.1=some p.2)->(∀p∈A.aJ z,(nM A dR).aw p.1=some p.2)->∃F kv fp,aE E pm F kv fp (dZ A (bI fa x) σ z) a' w':=by
    intro dR F kv fp a' w' z hs hn bQ pk h1 h2
    obtain⟨Kd,LD,hS⟩:=zP (l:=A.names) ⟨kv,fp,oQ hs (fun _=>false)⟩
    obtain⟨Ke,Pn,hB⟩:=w6 (l:=boxes (iG A.names (cI dR))) ⟨Kd,LD,hS⟩
    obtain⟨FZ,BH,Lr,Lq⟩:=Dc (l:=A.yG) (oQ hB (fun _=>false)) (uS hB _)
    obtain⟨F3,GK,G8,g1,g2⟩:=xn (l:=A.zg) (xl (l:=A.zf) ⟨FZ,Ke,BH,Lr,Lq⟩)
    obtain⟨Et,FE,s1,s2⟩:=zS (l:=A.yH) (xd (l:=A.nil) ⟨GK,G8,g1,g2⟩)
    have A3:aS A.names (cI dR) (nM A dR):=(((((((zQ A.names A.names (cI dR)).trans (w7 _ _ _)).trans (qy _ _ _)).trans (Dd _ _ _)).trans (xm _ _ _)).trans (xo _ _ _)).trans (xe (W:=A.names) A.nil _ A.Er)).trans (zT _ _ _)
    refine⟨F3,Et,FE,s1.less (τ:=dZ A (bI fa x) σ z) (hn.symm.trans A3.n.symm) s2 (fun s v hv=> ?_) (fun k e he=> ?_)⟩
    ·rcases DS hv with hm|⟨g1,g2,g3,⟨y,rfl,g5⟩|⟨p,rfl⟩⟩
     ·exact h1 _ hm
     rotate_left
     ·exact A3.fn s p g2 ((qy _ [] _).fn s p (by simp) (pk s p g1 g2 g3))
     ·exact A3.get s y g2 ((qy _ [] _).get s y (by simp) (bQ s y g1 g2 g3 g5) g5) g5
    ·exact h2 _ (DT he)
   obtain⟨F0,qQ,yd,l_⟩:=start x0 h rfl (fun s y _ _ hg _=>hg) (fun s p _ _ hg=>hg) Kt K0
   refine wp_loop_ghost (fun n a w=>∃y:A.X,A.I x0 y/\A.μ y=n/\∃F kv fp,aE E pm F kv fp (dZ A (bI fa x) σ y) a w) (A.μ x0)
    ⟨x0,O7,rfl,F0,qQ,yd,l_⟩ ?_
   rintro n a1 w1 ⟨y,hI,rfl,F1,Kf,Cp,ER⟩
   refine ih ER (A.wo _ AT y hI) (fun o ho hk F kv fp a' w' hs=> ?_)
   have bQ:∀s v,s∉bI fa x->s∉A.names->σ.get s=some (.v v)->(SV.v v).keys=[]->o.st.get s=some (.v v):=
    fun s v g1 g2 g3 g4=>hk.get s v g1 (Jb g1 g2 g3 g4) g4
   have pk:∀s p,s∉bI fa x->s∉A.names->σ.get s=some (.fn p)->o.st.get s=some (.fn p):=
    fun s p g1 g2 g3=>hk.fn s p g1 (Jc g1 g2 g3)
   have lV:aS (bI fa (.loop x)) σ o.st:=by
    refine⟨hk.n,fun s v g1 g3 g4=> ?_,fun s p g1 g3=> ?_⟩
    ·rw[vu,cY,not_or] at g1
     exact bQ s v g1.1 g1.2 g3 g4
    ·rw[vu,cY,not_or] at g1
     exact pk s p g1.1 g1.2 g3
   cases o with
   |normal dR=>
    obtain⟨z,⟨O6,bU⟩,EP,vQ⟩:=A.law _ _ ho
    obtain⟨F2,Et,FE,B8⟩:=start z hs hk.n bQ pk EP vQ
    exact⟨A.μ z,bU,z,O6,rfl,F2,Et,FE,B8⟩
   |exit id dR=>exact hq _ ho lV F kv fp a' w' hs
   |ret dR=>exact hq _ ho lV F kv fp a' w' hs
  ·exact hw.elim
 |_=>
  intros
  rename_i hw _
  exact hw.elim
def FI(A:iC U)(Q:Out U->Prop):Out U->Prop
 | .normal σ=>A.un (nM A σ) fun z=>A.I z z
 |o=>Q o
def M6(E:Env U)(c:Code)(τ:aa U)(Q:Out U->Prop):Prop:=
 ∀{pm:Pm}{F:Nat->Prop}{kv:Key->Value}{fp:Key->List Nat}{a:Act}{w:World}{Q':Exit->Act->World->Prop},
  aE E pm F kv fp τ a w->(∀o,Q o->∀F kv fp a' w',aE E pm F kv fp o.st a' w'->Q' o.ex a' w')->c.wp E.P Q' a w
theorem rL(hE:E.Good){c:Code}{τ:aa U}{Q:Out U->Prop}(h:AM.wp E fa c τ Q):M6 E c τ Q:=fun hs hq=>w4 hE c hs h (fun o ho _=>hq o ho)
theorem JJ{A:iC U}{n:Nat}{dR:aa U}(hn:dR.n=n)(hs:aE E pm F kv fp dR a w){z:A.X}(h1:∀p∈A.au z,(nM A dR).get p.1=some p.2)(h2:∀p∈A.aJ z,(nM A dR).aw p.1=some p.2):
  ∃F kv fp,aE E pm F kv fp (dZ A [] ⟨n,[],[],[]⟩ z) a w:=by
 obtain⟨Kd,LD,hS⟩:=zP (l:=A.names) ⟨kv,fp,oQ hs (fun _=>false)⟩
 obtain⟨Ke,Pn,hB⟩:=w6 (l:=boxes (iG A.names (cI dR))) ⟨Kd,LD,hS⟩
 obtain⟨FZ,BH,Lr,Lq⟩:=Dc (l:=A.yG) (oQ hB (fun _=>false)) (uS hB _)
 obtain⟨F3,GK,G8,g1,g2⟩:=xn (l:=A.zg) (xl (l:=A.zf) ⟨FZ,Ke,BH,Lr,Lq⟩)
 obtain⟨Et,FE,s1,s2⟩:=zS (l:=A.yH) (xd (l:=A.nil) ⟨GK,G8,g1,g2⟩)
 have A3:aS A.names (cI dR) (nM A dR):=(((((((zQ A.names A.names (cI dR)).trans (w7 _ _ _)).trans (qy _ _ _)).trans (Dd _ _ _)).trans (xm _ _ _)).trans (xo _ _ _)).trans (xe (W:=A.names) A.nil _ A.Er)).trans (zT _ _ _)
 refine⟨F3,Et,FE,s1.less (τ:=dZ A [] ⟨n,[],[],[]⟩ z) (hn.symm.trans A3.n.symm) s2 (fun s v hv=> ?_) (fun k e he=> ?_)⟩
 ·rcases DS hv with hm|⟨_,_,g3,_⟩
  ·exact h1 _ hm
  ·cases g3
 ·exact h2 _ (DT he)
theorem JK(hE:E.Good){r n:Nat}{A:iC U}{Q:Out U->Prop}:∀{c:Code}{p:Code×Code}{σ:aa U},uj r c=some p->σ.n=n->
  AM.wp E fa p.1 σ (FI A Q)->(∀y,A.I y y->AM.wp E fa p.2 (dZ A [] ⟨n,[],[],[]⟩ y) Q)->M6 E c σ Q:=by
 intro c
 induction c with
 |seq x y GN Ex=>
  intro p σ hc hn h1 h2 pm F kv fp a w Q' hs hq
  simp only[uj,bV] at hc
  split at hc
  ·cases hc
   refine wp_seq (w4 hE x hs h1 (fun o ho hk F kv fp a' w' cZ=> ?_))
   cases o with
   |normal dR=>
    obtain⟨z,hI,EP,vQ⟩:=A.law _ _ (show A.un (nM A dR) (fun z=>A.I z z) from ho)
    obtain⟨F3,GK,G8,g⟩:=JJ (hk.n.trans hn) cZ EP vQ
    exact w4 hE y g (h2 z hI) (fun o' vA _=>hq o' vA)
   |exit id dR=>exact hq _ ho F kv fp a' w' cZ
   |ret dR=>exact hq _ ho F kv fp a' w' cZ
  ·split at hc
   ·rename_i q hb
    cases hc
    simp only[AM.wp] at h1
    refine wp_seq (w4 hE x hs h1 (fun o ho hk F kv fp a' w' cZ=> ?_))
    cases o with
    |normal dR=>exact Ex hb (hk.n.trans hn) ho h2 cZ hq
    |exit id dR=>exact hq _ ho F kv fp a' w' cZ
    |ret dR=>exact hq _ ho F kv fp a' w' cZ
   ·cases hc
 |_=>intro p σ hc;cases hc
end AM
