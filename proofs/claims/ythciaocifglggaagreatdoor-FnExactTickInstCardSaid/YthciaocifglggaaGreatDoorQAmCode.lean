import Derived.Test.YthciaocifglggaaGreatDoorQAmWp
namespace AM
set_option linter.unusedVariables false
open Go
variable{U:kz}{E:Env U}{pm:Pm}
variable{F F':Nat->Prop}{kv kv':Key->Value}{fp fp':Key->List Nat}{σ τ:af U}{a:Act}{w w':World}
def Out.st:Out U->af U
 | .normal σ=>σ
 | .exit _ σ=>σ
 | .ret σ=>σ
def Out.ex:Out U->Exit
 | .normal _=> .normal
 | .exit id _=> .exit id
 | .ret _=> .ret
theorem cG.less(h:cG E pm F kv fp σ a w)(hn:τ.n=σ.n)(hc:e7 E w F kv fp σ a)
  (hg:∀s x,τ.get s=some x->σ.get s=some x) (he:∀k e,τ.bH k=some e->σ.bH k=some e):cG E pm F kv fp τ a w:=by
 refine⟨by rw[hn];exact h.size,h.defers,fun s x hs=> ?_,fun k e hk=> ?_,fun k k' e e' b et h1 h2=>h.apart k k' e e' b et (he k e h1) (he k' e' h2),
  fun k e hk=>h.nodup k e (he k e hk),fun k e b hk=>h.ff k e b (he k e hk),h.rI,h.rH,h.upto,by rw[hn];exact h.Ji,h.lay⟩
 ·exact(hc.bp s x (hg s x hs)).lV (fun y hy=>DG fun _ _=>rfl)
 ·have:=hc.cV k e (he k e hk)
  cases e with
  |arr x deep=>exact this
  |part x dead=>exact this
  |box cs=>
   obtain⟨b,cur,e',g1,g2,g3,g4⟩:=this
   exact⟨b,cur,e',g1,g2,g3,g4.lV (fun y hy=>DG fun _ _=>rfl)⟩
theorem ajA{k:Key}(h:unnamed k σ=true):¬Names σ k:=by
 unfold unnamed at h
 simp only[eE,As] at h
 rintro(⟨s,x,hs,hk⟩|⟨k',cs,he,x,hx,hk⟩)
 ·have:=h.1 _ (F8 hs)
  simp only[rj,<-uK,qe] at this
  exact this hk
 ·have:=h.2 _ (B8 he)
  simp only[rj,<-uK,sA] at this
  exact this ⟨x,hx,sA.1 (qe.2 hk)⟩
theorem cG.row(h:cG E pm F kv fp σ a w)(hc:e7 E w F kv fp σ a){k0:Key}(yC:σ.bH k0=none)(Sm:¬Names σ k0)(apK:1024<=k0.2){ty:U.Ty}{d0:Bool}{v0:Value}(M1:∃ad,v0=.slice ad 0 0)(hn:τ.n=σ.n)
  (hg:∀s x,τ.get s=some x->σ.get s=some x\/∃y j,σ.get s=some (.v y)/\y.cs[j]? =some .e0/\x=.v ⟨y.agg,y.cs.set j (.ref k0 [])⟩/\∀vs,kX E w F kv fp (fun _=>false) y.cs vs->(if y.agg then a.tmps.getD s undef=.agg vs.toArray else vs=[a.tmps.getD s undef])->vs[j]? =some v0)
  (he:∀k e,τ.bH k=some e->(k=k0/\e=.arr ⟨ty,[]⟩ d0)\/σ.bH k=some e\/∃cs j,σ.bH k=some (.box cs)/\cs[j]? =some .e0/\e=.box (cs.set j (.ref k0 []))/\∀b cur ety,kv k=.pointer (some ⟨b,0,none⟩)->w.heap[b]? =some (.cells cur ety (0,0))->cur.toList[j]? =some v0):
  ∃kv fp,cG E pm F kv fp τ a w/\e7 E w F kv fp τ a:=by
 classical
 let kv':Key->Value:=fun k=>if k=k0 then v0 else kv k
 let fp':Key->List Nat:=fun k=>if k=k0 then[] else fp k
 have KL:∀k,k≠k0->kv' k=kv k:=fun k hk=>if_neg hk
 have qn:∀k,k≠k0->fp' k=fp k:=fun k hk=>if_neg hk
 have abU:kv' k0=v0:=if_pos rfl
 have Nj:fp' k0=[]:=if_pos rfl
 have pZ:∀k,Names σ k->n8 w w kv kv' fp fp' (fun _=>false) (fun _=>false) k:=by
  intro k hk
  have:k≠k0:=fun e=>Sm (e▸hk)
  exact⟨KL k this,.inr ⟨rfl,qn k this,fun _ _=>rfl⟩⟩
 have hF:∀b,F b->F b/\w.heap[b]? =w.heap[b]? :=fun b hb=>⟨hb,rfl⟩
 have M6:∀{cs:List (AC U)}{vs:List Value}{j:Nat},kX E w F kv fp (fun _=>false) cs vs->(∀x∈cs,∀k∈x.keys,Names σ k)->vs[j]? =some v0->kX E w F kv' fp' (fun _=>false) (cs.set j (.ref k0 [])) vs:=by
  intro cs vs j hd sM hj
  have Cm:kX E w F kv' fp' (fun _=>false) cs vs:=hd.move (fun x hx k hk=>pZ k (sM x hx k hk)) hF
  refine⟨by simpa using hd.1,fun i x v hx hv=> ?_⟩
  rw[O4] at hx
  split at hx
  ·rename_i BZ
   subst BZ
   split at hx
   ·cases hx
    rw[hv] at hj
    cases hj
    obtain⟨ad,rfl⟩:=M1
    exact⟨⟨rfl,trivial⟩,.inr (by simp only[RA];rw[abU];rfl)⟩
   ·cases hx
  ·exact Cm.2 i x v hx hv
 have jG:e7 E w F kv' fp' τ a:=by
  refine⟨fun s x hs=> ?_,fun k e hk=> ?_⟩
  ·rcases hg s x hs with g|⟨y,j,g1,g2,rfl,g4⟩
   ·exact(hc.bp s x g).move (fun k hk=>pZ k (.inl ⟨s,x,g,hk⟩)) hF
   ·obtain⟨vs,r1,r2⟩:=hc.bp s _ g1
    exact⟨vs,M6 r1 (fun x hx k hk=> .inl ⟨s,_,g1,SV.mem_keys.2 ⟨x,hx,hk⟩⟩) (g4 vs r1 r2),r2⟩
  ·rcases he k e hk with⟨rfl,rfl⟩|g|⟨cs,j,g1,g2,rfl,g4⟩
   ·obtain⟨ad,rfl⟩:=M1
    exact .inl ⟨rfl,⟨ad,abU⟩,Nj⟩
   ·have et:k≠k0:=fun e'=>by rw[e',yC] at g;cases g
    have:=hc.cV k e g
    rw[KL k et,qn k et]
    cases e with
    |arr x deep=>exact this
    |part x dead=>exact this
    |box cs=>
     obtain⟨b,cur,e',r1,r2,r3,r4⟩:=this
     exact⟨b,cur,e',r1,r2,r3,r4.move (fun x hx k' cM=>pZ k' (.inr ⟨k,cs,g,x,hx,cM⟩)) hF⟩
   ·have et:k≠k0:=fun e'=>by rw[e',yC] at g1;cases g1
    obtain⟨b,cur,e',r1,r2,r3,r4⟩:=hc.cV k _ g1
    rw[KL k et,qn k et]
    exact⟨b,cur,e',r1,r2,r3,M6 r4 (fun x hx k' cM=> .inr ⟨k,cs,g1,x,hx,cM⟩) (g4 b cur e' r1 r2)⟩
 have hold:∀k e,τ.bH k=some e->k≠k0->∃e',σ.bH k=some e':=by
  intro k e hk et
  rcases he k e hk with⟨rfl,_⟩|g|⟨cs,j,g1,_⟩
  ·exact absurd rfl et
  ·exact⟨_,g⟩
  ·exact⟨_,g1⟩
 refine⟨kv',fp',⟨by rw[hn];exact h.size,h.defers,fun s x hs=>(jG.bp s x hs).lV (fun y hy=>DG fun _ _=>rfl),fun k e hk=> ?_,fun k k' e e' b et h1 h2 hb=> ?_,fun k e hk=> ?_,fun k e b hk hb=> ?_,h.rI,h.rH,h.upto,fun k v hp=> ?_,h.lay⟩,jG⟩
 ·have:=jG.cV k e hk
  cases e with
  |arr x deep=>exact this
  |part x dead=>exact this
  |box cs=>
   obtain⟨b,cur,e',g1,g2,g3,g4⟩:=this
   exact⟨b,cur,e',g1,g2,g3,g4.lV (fun y hy=>DG fun _ _=>rfl)⟩
 ·by_cases hk:k=k0
  ·rw[hk,Nj] at hb;cases hb
  ·by_cases cM:k'=k0
   ·rw[cM,Nj];exact FE
   ·obtain⟨e1,g1⟩:=hold k e h1 hk
    obtain⟨e2,g2⟩:=hold k' e' h2 cM
    rw[qn k hk] at hb
    rw[qn k' cM]
    exact h.apart k k' e1 e2 b et g1 g2 hb
 ·by_cases cM:k=k0
  ·rw[cM,Nj];exact UQ
  ·obtain⟨e1,g1⟩:=hold k e hk cM
   rw[qn k cM];exact h.nodup k e1 g1
 ·by_cases cM:k=k0
  ·rw[cM,Nj] at hb;cases hb
  ·obtain⟨e1,g1⟩:=hold k e hk cM
   rw[qn k cM] at hb;exact h.ff k e1 b g1 hb
 ·obtain⟨p1,p2,p3,p4⟩:=h.Ji k v hp
  refine⟨p1,p2,by rw[hn];exact p3,?_⟩
  rw[KL k (fun e=>by rw[e] at p2;omega)];exact p4
theorem cG.ZI(h:cG E pm F kv fp σ a w)(hc:e7 E w F kv fp σ a)(hn:τ.n=σ.n)
  (hg:∀s x,τ.get s=some x->σ.get s=some x\/∃y j ty,σ.get s=some (.v y)/\y.cs[j]? =some .e0/\x=.v ⟨y.agg,y.cs.set j (.c (.sl ty []))⟩)
  (he:∀k e,τ.bH k=some e->σ.bH k=some e\/∃cs j ty,σ.bH k=some (.box cs)/\cs[j]? =some .e0/\e=.box (cs.set j (.c (.sl ty [])))):
  cG E pm F kv fp τ a w/\e7 E w F kv fp τ a:=by
 have M6:∀{cs:List (AC U)}{vs:List Value}{j:Nat}{ty:U.Ty},kX E w F kv fp (fun _=>false) cs vs->cs[j]? =some .e0->kX E w F kv fp (fun _=>false) (cs.set j (.c (.sl ty []))) vs:=by
  intro cs vs j ty hd hj
  refine⟨by simpa using hd.1,fun i x v hx hv=> ?_⟩
  rw[O4] at hx
  split at hx
  ·rename_i BZ
   subst BZ
   split at hx
   ·cases hx
    obtain⟨g1,g2⟩:=hd.2 j _ v hj hv
    refine⟨g1,.inr ?_⟩
    rcases g2 with g2|⟨ad,rfl⟩
    ·cases g2
    ·exact .nil false ty ad 0 (fun _=>rfl)
   ·cases hx
  ·exact hd.2 i x v hx hv
 have jG:e7 E w F kv fp τ a:=by
  refine⟨fun s x hs=> ?_,fun k e hk=> ?_⟩
  ·rcases hg s x hs with g|⟨y,j,ty,g1,g2,rfl⟩
   ·exact hc.bp s x g
   ·obtain⟨vs,r1,r2⟩:=hc.bp s _ g1
    exact⟨vs,M6 r1 g2,r2⟩
  ·rcases he k e hk with g|⟨cs,j,ty,g1,g2,rfl⟩
   ·exact hc.cV k e g
   ·obtain⟨b,cur,e',r1,r2,r3,r4⟩:=hc.cV k _ g1
    exact⟨b,cur,e',r1,r2,r3,M6 r4 g2⟩
 have hold:∀k e,τ.bH k=some e->∃e',σ.bH k=some e':=by
  intro k e hk
  rcases he k e hk with g|⟨cs,j,ty,g1,_⟩
  ·exact⟨_,g⟩
  ·exact⟨_,g1⟩
 refine⟨⟨by rw[hn];exact h.size,h.defers,fun s x hs=>(jG.bp s x hs).lV (fun y hy=>DG fun _ _=>rfl),fun k e hk=> ?_,fun k k' e e' b et h1 h2 hb=> ?_,fun k e hk=> ?_,fun k e b hk hb=> ?_,h.rI,h.rH,h.upto,fun k v hp=> ?_,h.lay⟩,jG⟩
 ·have:=jG.cV k e hk
  cases e with
  |arr x deep=>exact this
  |part x dead=>exact this
  |box cs=>
   obtain⟨b,cur,e',g1,g2,g3,g4⟩:=this
   exact⟨b,cur,e',g1,g2,g3,g4.lV (fun y hy=>DG fun _ _=>rfl)⟩
 ·obtain⟨e1,g1⟩:=hold k e h1
  obtain⟨e2,g2⟩:=hold k' e' h2
  exact h.apart k k' e1 e2 b et g1 g2 hb
 ·obtain⟨e1,g1⟩:=hold k e hk
  exact h.nodup k e1 g1
 ·obtain⟨e1,g1⟩:=hold k e hk
  exact h.ff k e1 b g1 hb
 ·obtain⟨p1,p2,p3,p4⟩:=h.Ji k v hp
  exact⟨p1,p2,by rw[hn];exact p3,p4⟩
theorem PA{x:Option (AC U)}:Kx x=true↔x=some .e0:=by
 unfold Kx
 split
 ·simp
 ·rename_i h;simp only[wE,false_iff];exact fun e=>h e
theorem LX{β:Type}(k k':Key)(v:Option β)(l:List (Key×Option β)):eo ((k,v)::l) k'=if k=k' then v else eo l k':=by
 simp only[eo]
 by_cases h:k=k'
 ·rw[nK.2 h,if_pos h];rfl
 ·rw[HY.2 h,if_neg h];rfl
theorem HX{β:Type}(k k':Nat)(v:Option β)(l:List (Nat×Option β)):look ((k,v)::l) k'=if k=k' then v else look l k':=by
 simp only[look]
 by_cases h:k=k'
 ·rw[if_pos h,(by simpa using h:Nat.beq k k'=true)];rfl
 ·rw[if_neg h,(by rw[<-uK,FF];exact h:Nat.beq k k'=false)];rfl
theorem NP{x:AC U}{v:Value}(h:RD E w F kv fp (fun _=>false) x v)(hx:x=.e0):∃ad,v=.slice ad 0 0:=by
 subst hx
 exact cn h rfl
theorem akh{p:oj}{ty:U.Ty×Bool}(h:cG E pm F kv fp σ a w)(hc:e7 E w F kv fp σ a):∃kv fp,cG E pm F kv fp (Kn p ty σ) a w/\e7 E w F kv fp (Kn p ty σ) a:=by
 have same:∃kv fp,cG E pm F kv fp σ a w/\e7 E w F kv fp σ a:=⟨kv,fp,h,hc⟩
 unfold Kn
 rw[gT]
 split
 ·rename_i lU
  simp only[eE,OL,Option.isNone_iff_eq_none] at lU
  obtain⟨⟨c1,c2⟩,c3⟩:=lU
  have Sl:=ajA c2
  cases p with
  |slot s j=>
   simp only
   split
   ·rename_i x hx
    rw[gT]
    split
    ·rename_i ni
     have ni:=PA.1 ni
     obtain⟨vs,r1,r2⟩:=hc.bp s _ hx
     have fX:j<vs.length:=by
      rw[<-r1.1]
      rcases mX j x.cs.length with g|g
      ·exact g
      ·rw[mi g] at ni;cases ni
     have hvj:vs[j]? =some vs[j]:=gg fX
     refine h.row hc (τ:={σ with bp:=(s,some (.v ⟨x.agg,x.cs.set j (.ref (oj.slot s j).key [])⟩))::σ.bp,mW:=((oj.slot s j).key,some (.arr ⟨ty.1,[]⟩ ty.2))::σ.mW})
      (k0:=(oj.slot s j).key) c1 Sl c3 (ty:=ty.1) (d0:=ty.2) (v0:=vs[j]) (NP (r1.2 j _ _ ni hvj) rfl) rfl (fun s' x' jG=> ?_) (fun k e hk=> ?_)
     ·replace jG:=(HX _ _ _ _).symm.trans jG
      split at jG
      ·rename_i e;subst e
       cases jG
       refine .inr ⟨x,j,hx,ni,rfl,fun tY r1' V7=> ?_⟩
       have:tY=vs:=by
        cases OX:x.agg
        ·rw[OX] at r2 V7;simp only[wE,if_false] at r2 V7;rw[r2,V7]
        ·rw[OX] at r2 V7;simp only[if_true] at r2 V7
         rw[r2] at V7
         simpa using V7.symm
       rw[this];exact hvj
      ·exact .inl jG
     ·replace hk:=(LX _ _ _ _).symm.trans hk
      split at hk
      ·rename_i e;cases hk;exact .inl ⟨e.symm,rfl⟩
      ·exact .inr (.inl hk)
    ·exact same
   ·exact same
  |box k1 j=>
   simp only
   split
   ·rename_i cs hx
    rw[gT]
    split
    ·rename_i ni
     have ni:=PA.1 ni
     obtain⟨b,cur,e',r1,r2,r3,r4⟩:=hc.cV k1 _ hx
     have fX:j<cur.toList.length:=by
      rw[<-r4.1]
      rcases mX j cs.length with g|g
      ·exact g
      ·rw[mi g] at ni;cases ni
     have hvj:cur.toList[j]? =some cur.toList[j]:=gg fX
     refine h.row hc (τ:={σ with mW:=((oj.box k1 j).key,some (.arr ⟨ty.1,[]⟩ ty.2))::(k1,some (.box (cs.set j (.ref (oj.box k1 j).key []))))::σ.mW})
      (k0:=(oj.box k1 j).key) c1 Sl c3 (ty:=ty.1) (d0:=ty.2) (v0:=cur.toList[j]) (NP (r4.2 j _ _ ni hvj) rfl) rfl (fun s' x' jG=> .inl jG) (fun k e hk=> ?_)
     replace hk:=(LX _ _ _ _).symm.trans hk
     split at hk
     ·rename_i e;cases hk;exact .inl ⟨e.symm,rfl⟩
     ·rw[LX] at hk
      split at hk
      ·rename_i e;cases hk
       subst e
       refine .inr (.inr ⟨cs,j,hx,ni,rfl,fun b2 ap2 e2 g1 g2=> ?_⟩)
       rw[r1] at g1;cases g1
       rw[r2] at g2;cases g2
       exact hvj
      ·exact .inr (.inl hk)
    ·exact same
   ·exact same
 ·exact same
theorem akf{p:oj}{ty:U.Ty}(h:cG E pm F kv fp σ a w)(hc:e7 E w F kv fp σ a):cG E pm F kv fp (Km p ty σ) a w/\e7 E w F kv fp (Km p ty σ) a:=by
 have same:cG E pm F kv fp σ a w/\e7 E w F kv fp σ a:=⟨h,hc⟩
 unfold Km
 cases p with
 |slot s j=>
  simp only
  split
  ·rename_i x hx
   rw[gT]
   split
   ·rename_i ni
    have ni:=PA.1 ni
    refine h.ZI hc (τ:={σ with bp:=(s,some (.v ⟨x.agg,x.cs.set j (.c (.sl ty []))⟩))::σ.bp}) rfl (fun s' x' jG=> ?_) (fun k e hk=> .inl hk)
    replace jG:=(HX _ _ _ _).symm.trans jG
    split at jG
    ·rename_i e;subst e
     cases jG
     exact .inr ⟨x,j,ty,hx,ni,rfl⟩
    ·exact .inl jG
   ·exact same
  ·exact same
 |box k1 j=>
  simp only
  split
  ·rename_i cs hx
   rw[gT]
   split
   ·rename_i ni
    have ni:=PA.1 ni
    refine h.ZI hc (τ:={σ with mW:=(k1,some (.box (cs.set j (.c (.sl ty [])))))::σ.mW}) rfl (fun s' x' jG=> .inl jG) (fun k e hk=> ?_)
    replace hk:=(LX _ _ _ _).symm.trans hk
    split at hk
    ·rename_i e;cases hk
     subst e
     exact .inr ⟨cs,j,ty,hx,ni,rfl⟩
    ·exact .inl hk
   ·exact same
  ·exact same
theorem Pt:∀{l:List (oj×U.Ty×Option Bool)}{σ:af U},(∃kv fp,cG E pm F kv fp σ a w/\e7 E w F kv fp σ a)->∃kv fp,cG E pm F kv fp (Kl l σ) a w/\e7 E w F kv fp (Kl l σ) a
 |[],σ,h=>h
 |(p,ty,some d)::r,σ,⟨kv,fp,h,hc⟩=>Pt (l:=r) (akh h hc)
 |(p,ty,none)::r,σ,⟨kv,fp,h,hc⟩=>Pt (l:=r) ⟨kv,fp,akf h hc⟩
theorem akg{p:oj}{W:List Nat}(ty:U.Ty)(σ:af U)(hW:∀s j,p=.slot s j->s∈W):dT W σ (Km p ty σ):=by
 unfold Km
 cases p with
 |slot s j=>
  simp only
  split
  ·rename_i x hx
   rw[gT]
   split
   ·refine⟨rfl,fun s' v hs hg _=> ?_,fun s' p hs hg=> ?_⟩
    ·have:s≠s':=fun e=>hs (e▸hW s j rfl)
     exact(HX _ _ _ _).trans ((if_neg this).trans hg)
    ·have:s≠s':=fun e=>hs (e▸hW s j rfl)
     exact(HX _ _ _ _).trans ((if_neg this).trans hg)
   ·exact dT.refl _ _
  ·exact dT.refl _ _
 |box k1 j=>
  simp only
  split
  ·rename_i cs hx
   rw[gT]
   split
   ·exact⟨rfl,fun s' v hs hg _=>hg,fun s' p hs hg=>hg⟩
   ·exact dT.refl _ _
  ·exact dT.refl _ _
theorem aki{p:oj}{W:List Nat}(ty:U.Ty×Bool)(σ:af U)(hW:∀s j,p=.slot s j->s∈W):dT W σ (Kn p ty σ):=by
 unfold Kn
 rw[gT]
 split
 ·cases p with
  |slot s j=>
   simp only
   split
   ·rename_i x hx
    rw[gT]
    split
    ·refine⟨rfl,fun s' v hs hg _=> ?_,fun s' p hs hg=> ?_⟩
     ·have:s≠s':=fun e=>hs (e▸hW s j rfl)
      exact(HX _ _ _ _).trans ((if_neg this).trans hg)
     ·have:s≠s':=fun e=>hs (e▸hW s j rfl)
      exact(HX _ _ _ _).trans ((if_neg this).trans hg)
    ·exact dT.refl _ _
   ·exact dT.refl _ _
  |box k j=>
   simp only
   split
   ·rw[gT]
    split
    ·exact⟨rfl,fun s v _ hg _=>hg,fun s p _ hg=>hg⟩
    ·exact dT.refl _ _
   ·exact dT.refl _ _
 ·exact dT.refl _ _
theorem aaL{k0 k:Key}{e:ir U}(h:(oB k0 σ).bH k=some e):σ.bH k=some e\/(k=k0/\∃x,σ.bH k0=some (.arr x true)/\e=.part x fun _=>false):=by
 unfold oB at h
 split at h
 ·rename_i x hx
  replace h:=(LX _ _ _ _).symm.trans h
  split at h
  ·rename_i hk
   cases h
   exact .inr ⟨hk.symm,x,hx,rfl⟩
  ·exact .inl h
 ·exact .inl h
theorem aaK(k0:Key)(σ:af U):(oB k0 σ).n=σ.n/\(oB k0 σ).bp=σ.bp/\(oB k0 σ).aC=σ.aC:=by
 unfold oB
 split
 ·exact⟨rfl,rfl,rfl⟩
 ·exact⟨rfl,rfl,rfl⟩
theorem aj_(h:cG E pm F kv fp σ a w)(hc:e7 E w F kv fp σ a)(k0:Key):cG E pm F kv fp (oB k0 σ) a w/\e7 E w F kv fp (oB k0 σ) a:=by
 obtain⟨q1,q2,_⟩:=aaK k0 σ
 have qm:∀s,(oB k0 σ).get s=σ.get s:=fun s=>by unfold af.get;rw[q2]
 have jG:e7 E w F kv fp (oB k0 σ) a:=by
  refine⟨fun s x hs=>hc.bp s x (by rw[<-qm];exact hs),fun k e hk=> ?_⟩
  rcases aaL hk with hk|⟨rfl,x,hx,rfl⟩
  ·exact hc.cV k e hk
  ·exact eu.part (hc.cV _ _ hx)
 have hold:∀k e,(oB k0 σ).bH k=some e->∃e',σ.bH k=some e':=by
  intro k e hk
  rcases aaL hk with hk|⟨rfl,x,hx,rfl⟩
  ·exact⟨_,hk⟩
  ·exact⟨_,hx⟩
 refine⟨⟨by rw[q1];exact h.size,h.defers,fun s x hs=>(jG.bp s x hs).lV (fun y hy=>DG fun _ _=>rfl),fun k e hk=> ?_,fun k k' e e' b et h1 h2 hb=> ?_,fun k e hk=> ?_,fun k e b hk hb=> ?_,h.rI,h.rH,h.upto,by rw[q1];exact h.Ji,h.lay⟩,jG⟩
 ·have:=jG.cV k e hk
  cases e with
  |arr x deep=>exact this
  |part x dead=>exact this
  |box cs=>
   obtain⟨b,cur,e',g1,g2,g3,g4⟩:=this
   exact⟨b,cur,e',g1,g2,g3,g4.lV (fun y hy=>DG fun _ _=>rfl)⟩
 ·obtain⟨e1,g1⟩:=hold k e h1
  obtain⟨e2,g2⟩:=hold k' e' h2
  exact h.apart k k' e1 e2 b et g1 g2 hb
 ·obtain⟨e1,g1⟩:=hold k e hk
  exact h.nodup k e1 g1
 ·obtain⟨e1,g1⟩:=hold k e hk
  exact h.ff k e1 b g1 hb
theorem Wh:∀{l:List Key}{σ:af U},(∃kv fp,cG E pm F kv fp σ a w/\e7 E w F kv fp σ a)->∃kv fp,cG E pm F kv fp (parts l σ) a w/\e7 E w F kv fp (parts l σ) a
 |[],σ,h=>h
 |s::l,σ,⟨kv,fp,h,hc⟩=>by
  exact Wh (l:=l) (σ:=oB s σ) ⟨kv,fp,aj_ h hc _⟩
theorem Wi(W:List Nat):∀(l:List Key)(σ:af U),dT W σ (parts l σ)
 |[],σ=>dT.refl _ _
 |s::l,σ=>by
  refine dT.trans (τ:=oB s σ) ?_ (Wi W l _)
  obtain⟨q1,q2,_⟩:=aaK s σ
  exact⟨q1,fun s v _ hg _=>by unfold af.get at hg⊢;rw[q2];exact hg,fun s p _ hg=>by unfold af.get at hg⊢;rw[q2];exact hg⟩
theorem We:∀{l:List Nat}{σ:af U},(∃kv fp,cG E pm F kv fp σ a w)->∃kv fp,cG E pm F kv fp (rS l σ) a w
 |[],σ,h=>h
 |d::l,σ,h=>We (l:=l) (aat h d)
theorem Wf:∀(l W:List Nat)(σ:af U),dT W σ (rS l σ)
 |[],W,σ=>dT.refl _ _
 |d::l,W,σ=>(aau d W σ).trans (Wf l W _)
theorem Pu{W:List Nat}:∀(l:List (oj×U.Ty×Option Bool))(σ:af U),(∀p∈l,∀s j,p.1=oj.slot s j->s∈W)->dT W σ (Kl l σ)
 |[],σ,_=>dT.refl _ _
 |(p,ty,some d)::r,σ,h=>(aki (ty,d) σ (h _ dw)).trans (Pu r _ fun q hq=>h q (bi _ hq))
 |(p,ty,none)::r,σ,h=>(akg ty σ (h _ dw)).trans (Pu r _ fun q hq=>h q (bi _ hq))
theorem Wn{β:Type}(l r:List (Nat×Option β))(s:Nat):look (l++r) s=if l.any (fun p=>Nat.beq p.1 s) then look l s else look r s:=by
 induction l with
 |nil=>simp
 |cons p l ih=>
  obtain⟨t,v⟩:=p
  simp only[Zu,look,UO]
  rcases Bool.eq_false_or_eq_true (Nat.beq t s) with h|h
  ·simp[h]
  ·simp only[h,cond_false,Hv];exact ih
theorem aaZ{A:rJ U}{wr:List Nat}{x:A.X}{s:Nat}{v:SV U}(h:(lg A wr σ x).get s=some v):
  (s,v)∈A.bp x\/(s∉wr/\s∉A.names/\σ.get s=some v/\((∃y,v=.v y/\(SV.v y).keys=[])\/∃p,v=.fn p)):=by
 unfold af.get lg at h
 simp only at h
 rw[Wn] at h
 split at h
 ·left
  have:=F8 h
  obtain⟨⟨s',v'⟩,hp,e⟩:=lH.1 this
  simp only[nE,fJ] at e
  obtain⟨rfl,rfl⟩:=e
  exact hp
 ·right
  have hm:=BW.1 (F8 h)
  have h1:=LV FY.1 hm.1
  rw[F4 (by simp)] at h1
  have h2:=hm.2
  simp only[eE,rj,<-uK,sA,FF] at h2
  obtain⟨⟨h3,h4⟩,h5⟩:=h2
  refine⟨fun e=>h3 ⟨s,e,rfl⟩,fun e=>h4 ⟨s,e,rfl⟩,h1,?_⟩
  cases v with
  |v y=>exact .inl ⟨y,rfl,by simpa using h5⟩
  |tJ xs=>cases h5
  |fn p=>exact .inr ⟨p,rfl⟩
  |Db g xs=>cases h5
theorem akX{A:rJ U}{wr:List Nat}{x:A.X}{s:Nat}{y:AV U}(hw:s∉wr)(hn:s∉A.names)(hg:σ.get s=some (.v y))(hk:(SV.v y).keys=[]):
  (lg A wr σ x).get s=some (.v y):=by
 unfold af.get lg
 simp only
 rw[Wn,if_neg]
 ·refine LV (Ps FY.1) (BW.2 ⟨F8 (by rw[F4 (by simp)];exact hg),?_⟩)
  simp only[eE,rj,<-uK,sA,FF]
  exact⟨⟨fun⟨t,h1,h2⟩=>hw (h2▸h1),fun⟨t,h1,h2⟩=>hn (h2▸h1)⟩,by simp[hk]⟩
 ·simp only[Ll,sA,Function.comp,FF]
  rintro⟨p,hp,rfl⟩
  exact hn (A.Za x p hp)
theorem akY{A:rJ U}{wr:List Nat}{x:A.X}{s:Nat}{p:List (DA U)->Option Value}(hw:s∉wr)(hn:s∉A.names)(hg:σ.get s=some (.fn p)):
  (lg A wr σ x).get s=some (.fn p):=by
 unfold af.get lg
 simp only
 rw[Wn,if_neg]
 ·refine LV (Ps FY.1) (BW.2 ⟨F8 (by rw[F4 (by simp)];exact hg),?_⟩)
  simp only[eE,rj,<-uK,sA,FF]
  exact⟨⟨fun⟨t,h1,h2⟩=>hw (h2▸h1),fun⟨t,h1,h2⟩=>hn (h2▸h1)⟩,by simp⟩
 ·simp only[Ll,sA,Function.comp,FF]
  rintro⟨p,hp,rfl⟩
  exact hn (A.Za x p hp)
theorem aa0{A:rJ U}{wr:List Nat}{x:A.X}{k:Key}{e:ir U}(h:(lg A wr σ x).bH k=some e):(k,e)∈A.cV x:=by
 have:=B8 (show eo ((A.cV x).map fun(k,e)=>(k,some e)) k=some e from h)
 obtain⟨⟨k',e'⟩,hp,e⟩:=lH.1 this
 simp only[nE,fJ] at e
 obtain⟨rfl,rfl⟩:=e
 exact hp
theorem akd(h:cG E pm F kv fp σ a w){q:Operand}{v:Value}(hb:wU σ q=some v):a.eval q=v:=by
 unfold wU Cx at hb
 split at hb
 ·rename_i sc hsc;exact og (AK h hsc) hb
 ·cases hb
variable{mU:Nat->Option (rJ U)}
theorem Pg(hE:E.Good)(c:Code):∀{F:Nat->Prop}{kv:Key->Value}{fp:Key->List Nat}{σ:af U}{a:Act}{w:World}{Q:Out U->Prop}{Q':Exit->Act->World->Prop},
  cG E pm F kv fp σ a w->AM.wp E mU c σ Q->
  (∀o,Q o->dT (fZ mU c) σ o.st->∀F kv fp a' w',cG E pm F kv fp o.st a' w'->Q' o.ex a' w')->c.wp E.P Q' a w:=by
 induction c with
 |skip=>
  intro F kv fp σ a w Q Q' h hw hq
  exact wp_skip (hq _ hw (dT.refl _ _) F kv fp a w h)
 |ret=>
  intro F kv fp σ a w Q Q' h hw hq
  exact wp_ret (hq _ hw (dT.refl _ _) F kv fp a w h)
 |exit id=>
  intro F kv fp σ a w Q Q' h hw hq
  exact wp_exit (hq _ hw (dT.refl _ _) F kv fp a w h)
 |region id ops draw=>
  intro F kv fp σ a w Q Q' h hw hq
  exact aj6 hE h (show uM E ops.toList draw σ _ from hw) (fun kY F kv fp a' w' hk iA hs=>hq (.normal kY) hk iA F kv fp a' w' hs)
 |seq x y ihx ihy=>
  intro F kv fp σ a w Q Q' h hw hq
  simp only[AM.wp] at hw
  refine wp_seq (ihx h hw (fun o ho hk F kv fp a' w' hs=> ?_))
  have w6:dT (fZ mU (.seq x y)) σ o.st:=hk.mono fun s hs=>pw _ hs
  cases o with
  |normal kY=>
   refine ihy hs ho (fun o' M7 cM F kv fp a' w' jG=>hq o' M7 (w6.trans (cM.mono fun s hs=>oq _ hs)) F kv fp a' w' jG)
  |exit id kY=>exact hq _ ho w6 F kv fp a' w' hs
  |ret kY=>exact hq _ ho w6 F kv fp a' w' hs
 |cond q x y ihx ihy=>
  intro F kv fp σ a w Q Q' h hw hq
  simp only[AM.wp] at hw
  split at hw
  ·rename_i b hb
   have he:=akd h hb
   refine wp_cond he ?_
   cases b with
   |true=>exact ihx h hw (fun o ho hk=>hq o ho (hk.mono fun s hs=>pw _ hs))
   |false=>exact ihy h hw (fun o ho hk=>hq o ho (hk.mono fun s hs=>oq _ hs))
  ·exact hw.elim
 |block id x ih=>
  intro F kv fp σ a w Q Q' h hw hq
  simp only[AM.wp] at hw
  refine wp_block (ih h hw (fun o ho hk F kv fp a' w' hs=> ?_))
  cases o with
  |normal kY=>exact hq (.normal kY) ho hk F kv fp a' w' hs
  |exit id' kY=>
   simp only at ho
   rw[gT] at ho
   by_cases hid:id'=id
   ·subst hid
    rw[if_pos (by simp)] at ho
    have:=hq (.normal kY) ho hk F kv fp a' w' hs
    simpa[Exit.inBlock,Out.ex] using this
   ·rw[if_neg (by simpa using hid)] at ho
    have:=hq (.exit id' kY) ho hk F kv fp a' w' hs
    simpa[Exit.inBlock,Out.ex,hid] using this
  |ret kY=>exact hq (.ret kY) ho hk F kv fp a' w' hs
 |loop x ih=>
  intro F kv fp σ a w Q Q' h hw hq
  simp only[AM.wp] at hw
  split at hw
  ·rename_i A hA
   obtain⟨x0,⟨hI0,Xa⟩,al',amm⟩:=A.law _ _ hw
   have M3:fZ mU (.loop x)=fZ mU x++A.names:=by simp only[fZ,hA]
   have start:∀{kY:af U}{F kv fp a' w'}(z:A.X),cG E pm F kv fp kY a' w'->kY.n=σ.n->
     (∀s y,s∉fZ mU x->s∉A.names->σ.get s=some (.v y)->(SV.v y).keys=[]->kY.get s=some (.v y))->
     (∀s p,s∉fZ mU x->s∉A.names->σ.get s=some (.fn p)->kY.get s=some (.fn p))->
     (∀p∈A.bp z,(B' A kY).get p.1=some p.2)->(∀p∈A.cV z,(B' A kY).bH p.1=some p.2)->∃F kv fp,cG E pm F kv fp (lg A (fZ mU x) σ z) a' w':=by
    intro kY F kv fp a' w' z hs hn iA D5 h1 h2
    obtain⟨kvS,fpS,hS⟩:=We (l:=A.names) ⟨kv,fp,DB hs (fun _=>false)⟩
    obtain⟨kvB,fpB,hB⟩:=Pk (l:=WL (rS A.names (je kY))) ⟨kvS,fpS,hS⟩
    obtain⟨FZ,X8,hS1,hS2⟩:=aan (l:=A.R2) (DB hB (fun _=>false)) (LS hB _)
    obtain⟨F3,kv3,fp3,g1,g2⟩:=PE (l:=A.SG) (PC (l:=A.SF) ⟨FZ,kvB,X8,hS1,hS2⟩)
    obtain⟨kv2,fp2,s1,s2⟩:=Wh (l:=A.R5) (Pt (l:=A.nil) ⟨kv3,fp3,g1,g2⟩)
    have Xm:dT A.names (je kY) (B' A kY):=(((((((Wf A.names A.names (je kY)).trans (Pl _ _ _)).trans (F6 _ _ _)).trans (aao _ _ _)).trans (PD _ _ _)).trans (PF _ _ _)).trans (Pu (W:=A.names) A.nil _ A.nin)).trans (Wi _ _ _)
    refine⟨F3,kv2,fp2,s1.less (τ:=lg A (fZ mU x) σ z) (hn.symm.trans Xm.n.symm) s2 (fun s v hv=> ?_) (fun k e he=> ?_)⟩
    ·rcases aaZ hv with hm|⟨g1,g2,g3,⟨y,rfl,g5⟩|⟨p,rfl⟩⟩
     ·exact h1 _ hm
     rotate_left
     ·exact Xm.fn s p g2 ((F6 _ [] _).fn s p (by simp) (D5 s p g1 g2 g3))
     ·exact Xm.get s y g2 ((F6 _ [] _).get s y (by simp) (iA s y g1 g2 g3 g5) g5) g5
    ·exact h2 _ (aa0 he)
   obtain⟨F0,Gm,QI,hs0⟩:=start x0 h rfl (fun s y _ _ hg _=>hg) (fun s p _ _ hg=>hg) al' amm
   refine wp_loop_ghost (fun n a w=>∃y:A.X,A.I x0 y/\A.μ y=n/\∃F kv fp,cG E pm F kv fp (lg A (fZ mU x) σ y) a w) (A.μ x0)
    ⟨x0,hI0,rfl,F0,Gm,QI,hs0⟩ ?_
   rintro n a1 w1 ⟨y,hI,rfl,F1,kv1,Zq,W7⟩
   refine ih W7 (A.Ob _ Xa y hI) (fun o ho hk F kv fp a' w' hs=> ?_)
   have iA:∀s v,s∉fZ mU x->s∉A.names->σ.get s=some (.v v)->(SV.v v).keys=[]->o.st.get s=some (.v v):=
    fun s v g1 g2 g3 g4=>hk.get s v g1 (akX g1 g2 g3 g4) g4
   have D5:∀s p,s∉fZ mU x->s∉A.names->σ.get s=some (.fn p)->o.st.get s=some (.fn p):=
    fun s p g1 g2 g3=>hk.fn s p g1 (akY g1 g2 g3)
   have lT:dT (fZ mU (.loop x)) σ o.st:=by
    refine⟨hk.n,fun s v g1 g3 g4=> ?_,fun s p g1 g3=> ?_⟩
    ·rw[M3,kA,not_or] at g1
     exact iA s v g1.1 g1.2 g3 g4
    ·rw[M3,kA,not_or] at g1
     exact D5 s p g1.1 g1.2 g3
   cases o with
   |normal kY=>
    obtain⟨z,⟨hIz,fX⟩,hsl,No⟩:=A.law _ _ ho
    obtain⟨F2,kv2,fp2,Zc⟩:=start z hs hk.n iA D5 hsl No
    exact⟨A.μ z,fX,z,hIz,rfl,F2,kv2,fp2,Zc⟩
   |exit id kY=>exact hq _ ho lT F kv fp a' w' hs
   |ret kY=>exact hq _ ho lT F kv fp a' w' hs
  ·exact hw.elim
 |_=>
  intros
  rename_i hw _
  exact hw.elim
def ach(A:rJ U)(Q:Out U->Prop):Out U->Prop
 | .normal σ=>A.un (B' A σ) fun z=>A.I z z
 |o=>Q o
def WpS(E:Env U)(c:Code)(τ:af U)(Q:Out U->Prop):Prop:=
 ∀{pm:Pm}{F:Nat->Prop}{kv:Key->Value}{fp:Key->List Nat}{a:Act}{w:World}{Q':Exit->Act->World->Prop},
  cG E pm F kv fp τ a w->(∀o,Q o->∀F kv fp a' w',cG E pm F kv fp o.st a' w'->Q' o.ex a' w')->c.wp E.P Q' a w
theorem HK(hE:E.Good){c:Code}{τ:af U}{Q:Out U->Prop}(h:AM.wp E mU c τ Q):WpS E c τ Q:=fun hs hq=>Pg hE c hs h (fun o ho _=>hq o ho)
theorem alv{A:rJ U}{n:Nat}{kY:af U}(hn:kY.n=n)(hs:cG E pm F kv fp kY a w){z:A.X}(h1:∀p∈A.bp z,(B' A kY).get p.1=some p.2)(h2:∀p∈A.cV z,(B' A kY).bH p.1=some p.2):
  ∃F kv fp,cG E pm F kv fp (lg A [] ⟨n,[],[],[]⟩ z) a w:=by
 obtain⟨kvS,fpS,hS⟩:=We (l:=A.names) ⟨kv,fp,DB hs (fun _=>false)⟩
 obtain⟨kvB,fpB,hB⟩:=Pk (l:=WL (rS A.names (je kY))) ⟨kvS,fpS,hS⟩
 obtain⟨FZ,X8,hS1,hS2⟩:=aan (l:=A.R2) (DB hB (fun _=>false)) (LS hB _)
 obtain⟨F3,kv3,fp3,g1,g2⟩:=PE (l:=A.SG) (PC (l:=A.SF) ⟨FZ,kvB,X8,hS1,hS2⟩)
 obtain⟨kv2,fp2,s1,s2⟩:=Wh (l:=A.R5) (Pt (l:=A.nil) ⟨kv3,fp3,g1,g2⟩)
 have Xm:dT A.names (je kY) (B' A kY):=(((((((Wf A.names A.names (je kY)).trans (Pl _ _ _)).trans (F6 _ _ _)).trans (aao _ _ _)).trans (PD _ _ _)).trans (PF _ _ _)).trans (Pu (W:=A.names) A.nil _ A.nin)).trans (Wi _ _ _)
 refine⟨F3,kv2,fp2,s1.less (τ:=lg A [] ⟨n,[],[],[]⟩ z) (hn.symm.trans Xm.n.symm) s2 (fun s v hv=> ?_) (fun k e he=> ?_)⟩
 ·rcases aaZ hv with hm|⟨_,_,g3,_⟩
  ·exact h1 _ hm
  ·cases g3
 ·exact h2 _ (aa0 he)
theorem alw(hE:E.Good){r n:Nat}{A:rJ U}{Q:Out U->Prop}:∀{c:Code}{p:Code×Code}{σ:af U},KY r c=some p->σ.n=n->
  AM.wp E mU p.1 σ (ach A Q)->(∀y,A.I y y->AM.wp E mU p.2 (lg A [] ⟨n,[],[],[]⟩ y) Q)->WpS E c σ Q:=by
 intro c
 induction c with
 |seq x y ihx ihy=>
  intro p σ hc hn h1 h2 pm F kv fp a w Q' hs hq
  simp only[KY,gT] at hc
  split at hc
  ·cases hc
   refine wp_seq (Pg hE x hs h1 (fun o ho hk F kv fp a' w' jG=> ?_))
   cases o with
   |normal kY=>
    obtain⟨z,hI,hsl,No⟩:=A.law _ _ (show A.un (B' A kY) (fun z=>A.I z z) from ho)
    obtain⟨F3,kv3,fp3,g⟩:=alv (hk.n.trans hn) jG hsl No
    exact Pg hE y g (h2 z hI) (fun o' M7 _=>hq o' M7)
   |exit id kY=>exact hq _ ho F kv fp a' w' jG
   |ret kY=>exact hq _ ho F kv fp a' w' jG
  ·split at hc
   ·rename_i q hb
    cases hc
    simp only[AM.wp] at h1
    refine wp_seq (Pg hE x hs h1 (fun o ho hk F kv fp a' w' jG=> ?_))
    cases o with
    |normal kY=>exact ihy hb (hk.n.trans hn) ho h2 jG hq
    |exit id kY=>exact hq _ ho F kv fp a' w' jG
    |ret kY=>exact hq _ ho F kv fp a' w' jG
   ·cases hc
 |_=>intro p σ hc;cases hc
end AM
