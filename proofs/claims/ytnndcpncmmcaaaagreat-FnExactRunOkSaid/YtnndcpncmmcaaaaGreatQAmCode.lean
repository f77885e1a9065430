import Derived.Test.YtnndcpncmmcaaaaGreatQAmWp
import Derived.Test.YtnndcpncmmcaaaaGreatQAmLock
namespace AM
set_option linter.unusedVariables false
open Go
variable{U:jO}{E:Env U}{pm:Pm}
variable{F F':Nat->Prop}{kv kv':Key->Value}{fp fp':Key->List Nat}{σ τ:ah U}{a:Act}{w w':World}
def Out.st:Out U->ah U
 | .normal σ=>σ
 | .exit _ σ=>σ
 | .ret σ=>σ
def Out.ex:Out U->Exit
 | .normal _=> .normal
 | .exit id _=> .exit id
 | .ret _=> .ret
theorem cd.less(h:cd E pm F kv fp σ a w)(hn:τ.n=σ.n)(hc:ej E w F kv fp σ a)
  (hg:∀s x,τ.get s=some x->σ.get s=some x) (he:∀k e,τ.aU k=some e->σ.aU k=some e):cd E pm F kv fp τ a w:=by
 refine⟨by rw[hn];exact h.size,h.defers,fun s x hs=> ?_,fun k e hk=> ?_,fun k k' e e' b cO h1 h2=>h.apart k k' e e' b cO (he k e h1) (he k' e' h2),
  fun k e hk=>h.nodup k e (he k e hk),fun k e b hk=>h.cU k e b (he k e hk),h.lT,h.ny,h.upto,by rw[hn];exact h.HW,h.lay,h.bQ.imp fun tk ht=>ht.cI (fun k e hk _=>⟨he k e hk,rfl,rfl,fun _ _=>rfl⟩) (fun b hb=>⟨hb,rfl⟩)⟩
 ·exact(hc.bw s x (hg s x hs)).mV (fun y hy=>Ip fun _ _=>rfl)
 ·exact lm.GU (hc.cT k e (he k e hk))
theorem al9{k:Key}(h:unnamed k σ=true):¬Names σ k:=by
 unfold unnamed at h
 simp only[fY,FU] at h
 rintro(⟨s,x,hs,hk⟩|⟨k',cs,he,x,hx,hk⟩)
 ·have:=h.1 _ (Im hs)
  simp only[sS,<-Al,nP] at this
  exact this hk
 ·rcases he with he|⟨a,i,y,he,rfl⟩
  ·have:=h.2 _ (yV he)
   simp only[sS,<-Al,tW] at this
   exact this ⟨x,hx,tW.1 (nP.2 hk)⟩
  ·have:=h.2 _ (yV he)
   simp only[sS,<-Al] at this
   rw[g_.1 hx] at hk
   exact this (nP.2 hk)
theorem cd.row(h:cd E pm F kv fp σ a w)(hc:ej E w F kv fp σ a){k0:Key}(qu:σ.aU k0=none)(NF:¬Names σ k0)(asP:1024<=k0.2){ty:U.Ty}{d0:Bool}{v0:Value}(KG:∃ad,v0=.slice ad 0 0)(hn:τ.n=σ.n)
  (hg:∀s x,τ.get s=some x->σ.get s=some x\/∃y j,σ.get s=some (.v y)/\y.cs[j]? =some .e0/\x=.v ⟨y.agg,y.cs.set j (.ref k0 [])⟩/\∀vs,kS E w F kv fp (fun _=>false) y.cs vs->(if y.agg then a.tmps.getD s undef=.agg vs.toArray else vs=[a.tmps.getD s undef])->vs[j]? =some v0)
  (he:∀k e,τ.aU k=some e->(k=k0/\e=.arr ⟨ty,[]⟩ d0)\/σ.aU k=some e\/∃cs j,σ.aU k=some (.box cs)/\cs[j]? =some .e0/\e=.box (cs.set j (.ref k0 []))/\∀b cur ety,kv k=.pointer (some ⟨b,0,none⟩)->w.heap[b]? =some (.cells cur ety (0,0))->cur.toList[j]? =some v0):
  ∃kv fp,cd E pm F kv fp τ a w/\ej E w F kv fp τ a:=by
 classical
 let kv':Key->Value:=fun k=>if k=k0 then v0 else kv k
 let fp':Key->List Nat:=fun k=>if k=k0 then[] else fp k
 have IV:∀k,k≠k0->kv' k=kv k:=fun k hk=>if_neg hk
 have lN:∀k,k≠k0->fp' k=fp k:=fun k hk=>if_neg hk
 have aeL:kv' k0=v0:=if_pos rfl
 have P_:fp' k0=[]:=if_pos rfl
 have nd:∀k,Names σ k->mz w w kv kv' fp fp' (fun _=>false) (fun _=>false) k:=by
  intro k hk
  have:k≠k0:=fun e=>NF (e▸hk)
  exact⟨IV k this,.inr ⟨rfl,lN k this,fun _ _=> .of rfl⟩⟩
 have hF:∀b,F b->F b/\w.heap[b]? =w.heap[b]? :=fun b hb=>⟨hb,rfl⟩
 have PM:∀{cs:List (AC U)}{vs:List Value}{j:Nat},kS E w F kv fp (fun _=>false) cs vs->(∀x∈cs,∀k∈x.keys,Names σ k)->vs[j]? =some v0->kS E w F kv' fp' (fun _=>false) (cs.set j (.ref k0 [])) vs:=by
  intro cs vs j hd ol hj
  have wo:kS E w F kv' fp' (fun _=>false) cs vs:=hd.move (fun x hx k hk=>nd k (ol x hx k hk)) hF
  refine⟨by simpa using hd.1,fun i x v hx hv=> ?_⟩
  rw[Ov] at hx
  split at hx
  ·rename_i H2
   subst H2
   split at hx
   ·cases hx
    rw[hv] at hj
    cases hj
    obtain⟨ad,rfl⟩:=KG
    exact⟨⟨rfl,trivial⟩,.inr (by simp only[RA];rw[aeL];rfl)⟩
   ·cases hx
  ·exact wo.2 i x v hx hv
 have ky:ej E w F kv' fp' τ a:=by
  refine⟨fun s x hs=> ?_,fun k e hk=> ?_⟩
  ·rcases hg s x hs with g|⟨y,j,g1,g2,rfl,g4⟩
   ·exact(hc.bw s x g).move (fun k hk=>nd k (.inl ⟨s,x,g,hk⟩)) hF
   ·obtain⟨vs,r1,r2⟩:=hc.bw s _ g1
    exact⟨vs,PM r1 (fun x hx k hk=> .inl ⟨s,_,g1,SV.mem_keys.2 ⟨x,hx,hk⟩⟩) (g4 vs r1 r2),r2⟩
  ·rcases he k e hk with⟨rfl,rfl⟩|g|⟨cs,j,g1,g2,rfl,g4⟩
   ·obtain⟨ad,rfl⟩:=KG
    exact .inl ⟨rfl,⟨ad,aeL⟩,P_⟩
   ·have cO:k≠k0:=fun e'=>by rw[e',qu] at g;cases g
    have:=hc.cT k e g
    rw[IV k cO,lN k cO]
    cases e with
    |arr x deep=>exact this
    |part x dead=>exact this
    |box cs=>
     obtain⟨b,cur,e',r1,r2,r3,r4⟩:=this
     exact⟨b,cur,e',r1,r2,r3,r4.move (fun x hx k' bp=>nd k' (.inr ⟨k,cs,.inl g,x,hx,bp⟩)) hF⟩
    |nA x i y=>
     obtain⟨g1,g2,g3,b,n,c,u,g4,g5,g6,g7⟩:=this
     exact⟨g1,g2,g3,b,n,c,u,g4,g5,g6,g7.move (fun k' bp=>nd k' (.inr ⟨k,[y],.inr ⟨x,i,y,g,rfl⟩,y,by simp,bp⟩)) hF⟩
    |li x=>trivial
    |Dw x i=>trivial
    |fz x=>trivial
   ·have cO:k≠k0:=fun e'=>by rw[e',qu] at g1;cases g1
    obtain⟨b,cur,e',r1,r2,r3,r4⟩:=hc.cT k _ g1
    rw[IV k cO,lN k cO]
    exact⟨b,cur,e',r1,r2,r3,PM r4 (fun x hx k' bp=> .inr ⟨k,cs,.inl g1,x,hx,bp⟩) (g4 b cur e' r1 r2)⟩
 have hold:∀k e,τ.aU k=some e->k≠k0->∃e',σ.aU k=some e':=by
  intro k e hk cO
  rcases he k e hk with⟨rfl,_⟩|g|⟨cs,j,g1,_⟩
  ·exact absurd rfl cO
  ·exact⟨_,g⟩
  ·exact⟨_,g1⟩
 refine⟨kv',fp',⟨by rw[hn];exact h.size,h.defers,fun s x hs=>(ky.bw s x hs).mV (fun y hy=>Ip fun _ _=>rfl),fun k e hk=> ?_,fun k k' e e' b cO h1 h2 hb=> ?_,fun k e hk=> ?_,fun k e b hk hb=> ?_,h.lT,h.ny,h.upto,fun k v hp=> ?_,h.lay,h.bQ.imp fun tk ht=>ht.cI (fun k e hk hl=>by
   rcases he k e hk with⟨rfl,rfl⟩|g|⟨cs,j,g1,g2,rfl,g4⟩
   ·cases hl
   ·have cO:k≠k0:=fun e'=>by rw[e',qu] at g;cases g
    exact⟨g,IV k cO,lN k cO,fun _ _=>rfl⟩
   ·cases hl) (fun b hb=>⟨hb,rfl⟩)⟩,ky⟩
 ·exact lm.GU (ky.cT k e hk)
 ·by_cases hk:k=k0
  ·rw[hk,P_] at hb;cases hb
  ·by_cases bp:k'=k0
   ·rw[bp,P_];exact rh
   ·obtain⟨e1,g1⟩:=hold k e h1 hk
    obtain⟨e2,g2⟩:=hold k' e' h2 bp
    rw[lN k hk] at hb
    rw[lN k' bp]
    exact h.apart k k' e1 e2 b cO g1 g2 hb
 ·by_cases bp:k=k0
  ·rw[bp,P_];exact MH
  ·obtain⟨e1,g1⟩:=hold k e hk bp
   rw[lN k bp];exact h.nodup k e1 g1
 ·by_cases bp:k=k0
  ·rw[bp,P_] at hb;cases hb
  ·obtain⟨e1,g1⟩:=hold k e hk bp
   rw[lN k bp] at hb;exact h.cU k e1 b g1 hb
 ·obtain⟨p1,p2,p3,p4⟩:=h.HW k v hp
  refine⟨p1,p2,by rw[hn];exact p3,?_⟩
  rw[IV k (fun e=>by rw[e] at p2;omega)];exact p4
theorem cd.acx(h:cd E pm F kv fp σ a w)(hc:ej E w F kv fp σ a)(hn:τ.n=σ.n)
  (hg:∀s x,τ.get s=some x->σ.get s=some x\/∃y j ty,σ.get s=some (.v y)/\y.cs[j]? =some .e0/\x=.v ⟨y.agg,y.cs.set j (.c (.sl ty []))⟩)
  (he:∀k e,τ.aU k=some e->σ.aU k=some e\/∃cs j ty,σ.aU k=some (.box cs)/\cs[j]? =some .e0/\e=.box (cs.set j (.c (.sl ty [])))):
  cd E pm F kv fp τ a w/\ej E w F kv fp τ a:=by
 have PM:∀{cs:List (AC U)}{vs:List Value}{j:Nat}{ty:U.Ty},kS E w F kv fp (fun _=>false) cs vs->cs[j]? =some .e0->kS E w F kv fp (fun _=>false) (cs.set j (.c (.sl ty []))) vs:=by
  intro cs vs j ty hd hj
  refine⟨by simpa using hd.1,fun i x v hx hv=> ?_⟩
  rw[Ov] at hx
  split at hx
  ·rename_i H2
   subst H2
   split at hx
   ·cases hx
    obtain⟨g1,g2⟩:=hd.2 j _ v hj hv
    refine⟨g1,.inr ?_⟩
    rcases g2 with g2|⟨ad,rfl⟩
    ·cases g2
    ·exact .nil false ty ad 0 (fun _=>rfl)
   ·cases hx
  ·exact hd.2 i x v hx hv
 have ky:ej E w F kv fp τ a:=by
  refine⟨fun s x hs=> ?_,fun k e hk=> ?_⟩
  ·rcases hg s x hs with g|⟨y,j,ty,g1,g2,rfl⟩
   ·exact hc.bw s x g
   ·obtain⟨vs,r1,r2⟩:=hc.bw s _ g1
    exact⟨vs,PM r1 g2,r2⟩
  ·rcases he k e hk with g|⟨cs,j,ty,g1,g2,rfl⟩
   ·exact hc.cT k e g
   ·obtain⟨b,cur,e',r1,r2,r3,r4⟩:=hc.cT k _ g1
    exact⟨b,cur,e',r1,r2,r3,PM r4 g2⟩
 have hold:∀k e,τ.aU k=some e->∃e',σ.aU k=some e':=by
  intro k e hk
  rcases he k e hk with g|⟨cs,j,ty,g1,_⟩
  ·exact⟨_,g⟩
  ·exact⟨_,g1⟩
 refine⟨⟨by rw[hn];exact h.size,h.defers,fun s x hs=>(ky.bw s x hs).mV (fun y hy=>Ip fun _ _=>rfl),fun k e hk=> ?_,fun k k' e e' b cO h1 h2 hb=> ?_,fun k e hk=> ?_,fun k e b hk hb=> ?_,h.lT,h.ny,h.upto,fun k v hp=> ?_,h.lay,h.bQ.imp fun tk ht=>ht.cI (fun k e hk hl=>by
   rcases he k e hk with g|⟨cs,j,ty,g1,g2,rfl⟩
   ·exact⟨g,rfl,rfl,fun _ _=>rfl⟩
   ·cases hl) (fun b hb=>⟨hb,rfl⟩)⟩,ky⟩
 ·exact lm.GU (ky.cT k e hk)
 ·obtain⟨e1,g1⟩:=hold k e h1
  obtain⟨e2,g2⟩:=hold k' e' h2
  exact h.apart k k' e1 e2 b cO g1 g2 hb
 ·obtain⟨e1,g1⟩:=hold k e hk
  exact h.nodup k e1 g1
 ·obtain⟨e1,g1⟩:=hold k e hk
  exact h.cU k e1 b g1 hb
 ·obtain⟨p1,p2,p3,p4⟩:=h.HW k v hp
  exact⟨p1,p2,by rw[hn];exact p3,p4⟩
theorem Se{x:Option (AC U)}:Nx x=true↔x=some .e0:=by
 unfold Nx
 split
 ·simp
 ·rename_i h;simp only[yN,false_iff];exact fun e=>h e
theorem Kl{β:Type}(k k':Nat)(v:Option β)(l:List (Nat×Option β)):look ((k,v)::l) k'=if k=k' then v else look l k':=by
 simp only[look]
 by_cases h:k=k'
 ·rw[if_pos h,(by simpa using h:Nat.beq k k'=true)];rfl
 ·rw[if_neg h,(by rw[<-Al,Oq];exact h:Nat.beq k k'=false)];rfl
theorem QH{x:AC U}{v:Value}(h:RD E w F kv fp (fun _=>false) x v)(hx:x=.e0):∃ad,v=.slice ad 0 0:=by
 subst hx
 exact bG h rfl
theorem am'{p:pF}{ty:U.Ty×Bool}(h:cd E pm F kv fp σ a w)(hc:ej E w F kv fp σ a):∃kv fp,cd E pm F kv fp (Ng p ty σ) a w/\ej E w F kv fp (Ng p ty σ) a:=by
 have same:∃kv fp,cd E pm F kv fp σ a w/\ej E w F kv fp σ a:=⟨kv,fp,h,hc⟩
 unfold Ng
 rw[fc]
 split
 ·rename_i mU
  simp only[fY,Vn,Option.isNone_iff_eq_none] at mU
  obtain⟨⟨c1,c2⟩,c3⟩:=mU
  have hnn:=al9 c2
  cases p with
  |slot s j=>
   simp only
   split
   ·rename_i x hx
    rw[fc]
    split
    ·rename_i iX
     have iX:=Se.1 iX
     obtain⟨vs,r1,r2⟩:=hc.bw s _ hx
     have fx:j<vs.length:=by
      rw[<-r1.1]
      rcases lR j x.cs.length with g|g
      ·exact g
      ·rw[lU g] at iX;cases iX
     have hvj:vs[j]? =some vs[j]:=gr fx
     refine h.row hc (τ:={σ with bw:=(s,some (.v ⟨x.agg,x.cs.set j (.ref (pF.slot s j).key [])⟩))::σ.bw,iZ:=((pF.slot s j).key,some (.arr ⟨ty.1,[]⟩ ty.2))::σ.iZ})
      (k0:=(pF.slot s j).key) c1 hnn c3 (ty:=ty.1) (d0:=ty.2) (v0:=vs[j]) (QH (r1.2 j _ _ iX hvj) rfl) rfl (fun s' x' ky=> ?_) (fun k e hk=> ?_)
     ·replace ky:=(Kl _ _ _ _).symm.trans ky
      split at ky
      ·rename_i e;subst e
       cases ky
       refine .inr ⟨x,j,hx,iX,rfl,fun rm r1' Zu=> ?_⟩
       have:rm=vs:=by
        cases J7:x.agg
        ·rw[J7] at r2 Zu;simp only[yN,if_false] at r2 Zu;rw[r2,Zu]
        ·rw[J7] at r2 Zu;simp only[if_true] at r2 Zu
         rw[r2] at Zu
         simpa using Zu.symm
       rw[this];exact hvj
      ·exact .inl ky
     ·replace hk:=(CU _ _ _ _).symm.trans hk
      split at hk
      ·rename_i e;cases hk;exact .inl ⟨e.symm,rfl⟩
      ·exact .inr (.inl hk)
    ·exact same
   ·exact same
  |box k1 j=>
   simp only
   split
   ·rename_i cs hx
    rw[fc]
    split
    ·rename_i iX
     have iX:=Se.1 iX
     obtain⟨b,cur,e',r1,r2,r3,r4⟩:=hc.cT k1 _ hx
     have fx:j<cur.toList.length:=by
      rw[<-r4.1]
      rcases lR j cs.length with g|g
      ·exact g
      ·rw[lU g] at iX;cases iX
     have hvj:cur.toList[j]? =some cur.toList[j]:=gr fx
     refine h.row hc (τ:={σ with iZ:=((pF.box k1 j).key,some (.arr ⟨ty.1,[]⟩ ty.2))::(k1,some (.box (cs.set j (.ref (pF.box k1 j).key []))))::σ.iZ})
      (k0:=(pF.box k1 j).key) c1 hnn c3 (ty:=ty.1) (d0:=ty.2) (v0:=cur.toList[j]) (QH (r4.2 j _ _ iX hvj) rfl) rfl (fun s' x' ky=> .inl ky) (fun k e hk=> ?_)
     replace hk:=(CU _ _ _ _).symm.trans hk
     split at hk
     ·rename_i e;cases hk;exact .inl ⟨e.symm,rfl⟩
     ·rw[CU] at hk
      split at hk
      ·rename_i e;cases hk
       subst e
       refine .inr (.inr ⟨cs,j,hx,iX,rfl,fun b2 atk e2 g1 g2=> ?_⟩)
       rw[r1] at g1;cases g1
       rw[r2] at g2;cases g2
       exact hvj
      ·exact .inr (.inl hk)
    ·exact same
   ·exact same
 ·exact same
theorem am8{p:pF}{ty:U.Ty}(h:cd E pm F kv fp σ a w)(hc:ej E w F kv fp σ a):cd E pm F kv fp (Nf p ty σ) a w/\ej E w F kv fp (Nf p ty σ) a:=by
 have same:cd E pm F kv fp σ a w/\ej E w F kv fp σ a:=⟨h,hc⟩
 unfold Nf
 cases p with
 |slot s j=>
  simp only
  split
  ·rename_i x hx
   rw[fc]
   split
   ·rename_i iX
    have iX:=Se.1 iX
    refine h.acx hc (τ:={σ with bw:=(s,some (.v ⟨x.agg,x.cs.set j (.c (.sl ty []))⟩))::σ.bw}) rfl (fun s' x' ky=> ?_) (fun k e hk=> .inl hk)
    replace ky:=(Kl _ _ _ _).symm.trans ky
    split at ky
    ·rename_i e;subst e
     cases ky
     exact .inr ⟨x,j,ty,hx,iX,rfl⟩
    ·exact .inl ky
   ·exact same
  ·exact same
 |box k1 j=>
  simp only
  split
  ·rename_i cs hx
   rw[fc]
   split
   ·rename_i iX
    have iX:=Se.1 iX
    refine h.acx hc (τ:={σ with iZ:=(k1,some (.box (cs.set j (.c (.sl ty [])))))::σ.iZ}) rfl (fun s' x' ky=> .inl ky) (fun k e hk=> ?_)
    replace hk:=(CU _ _ _ _).symm.trans hk
    split at hk
    ·rename_i e;cases hk
     subst e
     exact .inr ⟨cs,j,ty,hx,iX,rfl⟩
    ·exact .inl hk
   ·exact same
  ·exact same
theorem ZM:∀{l:List (pF×U.Ty×Option Bool)}{σ:ah U},(∃kv fp,cd E pm F kv fp σ a w/\ej E w F kv fp σ a)->∃kv fp,cd E pm F kv fp (Nd l σ) a w/\ej E w F kv fp (Nd l σ) a
 |[],σ,h=>h
 |(p,ty,some d)::r,σ,⟨kv,fp,h,hc⟩=>ZM (l:=r) (am' h hc)
 |(p,ty,none)::r,σ,⟨kv,fp,h,hc⟩=>ZM (l:=r) ⟨kv,fp,am8 h hc⟩
theorem am9{p:pF}{W:List Nat}(ty:U.Ty)(σ:ah U)(hW:∀s j,p=.slot s j->s∈W):cX W σ (Nf p ty σ):=by
 unfold Nf
 cases p with
 |slot s j=>
  simp only
  split
  ·rename_i x hx
   rw[fc]
   split
   ·refine⟨rfl,fun s' v hs hg _=> ?_,fun s' p hs hg=> ?_⟩
    ·have:s≠s':=fun e=>hs (e▸hW s j rfl)
     exact(Kl _ _ _ _).trans ((if_neg this).trans hg)
    ·have:s≠s':=fun e=>hs (e▸hW s j rfl)
     exact(Kl _ _ _ _).trans ((if_neg this).trans hg)
   ·exact cX.refl _ _
  ·exact cX.refl _ _
 |box k1 j=>
  simp only
  split
  ·rename_i cs hx
   rw[fc]
   split
   ·exact⟨rfl,fun s' v hs hg _=>hg,fun s' p hs hg=>hg⟩
   ·exact cX.refl _ _
  ·exact cX.refl _ _
theorem am_{p:pF}{W:List Nat}(ty:U.Ty×Bool)(σ:ah U)(hW:∀s j,p=.slot s j->s∈W):cX W σ (Ng p ty σ):=by
 unfold Ng
 rw[fc]
 split
 ·cases p with
  |slot s j=>
   simp only
   split
   ·rename_i x hx
    rw[fc]
    split
    ·refine⟨rfl,fun s' v hs hg _=> ?_,fun s' p hs hg=> ?_⟩
     ·have:s≠s':=fun e=>hs (e▸hW s j rfl)
      exact(Kl _ _ _ _).trans ((if_neg this).trans hg)
     ·have:s≠s':=fun e=>hs (e▸hW s j rfl)
      exact(Kl _ _ _ _).trans ((if_neg this).trans hg)
    ·exact cX.refl _ _
   ·exact cX.refl _ _
  |box k j=>
   simp only
   split
   ·rw[fc]
    split
    ·exact⟨rfl,fun s v _ hg _=>hg,fun s p _ hg=>hg⟩
    ·exact cX.refl _ _
   ·exact cX.refl _ _
 ·exact cX.refl _ _
theorem ZL{k0 k:Key}{e:eX U}(h:(pP k0 σ).aU k=some e):σ.aU k=some e\/(k=k0/\∃x,σ.aU k0=some (.arr x true)/\e=.part x fun _=>false):=by
 unfold pP at h
 split at h
 ·rename_i x hx
  replace h:=(CU _ _ _ _).symm.trans h
  split at h
  ·rename_i hk
   cases h
   exact .inr ⟨hk.symm,x,hx,rfl⟩
  ·exact .inl h
 ·exact .inl h
theorem adv(k0:Key)(σ:ah U):(pP k0 σ).n=σ.n/\(pP k0 σ).bw=σ.bw/\(pP k0 σ).ay=σ.ay:=by
 unfold pP
 split
 ·exact⟨rfl,rfl,rfl⟩
 ·exact⟨rfl,rfl,rfl⟩
theorem am2(h:cd E pm F kv fp σ a w)(hc:ej E w F kv fp σ a)(k0:Key):cd E pm F kv fp (pP k0 σ) a w/\ej E w F kv fp (pP k0 σ) a:=by
 obtain⟨q1,q2,_⟩:=adv k0 σ
 have qk:∀s,(pP k0 σ).get s=σ.get s:=fun s=>by unfold ah.get;rw[q2]
 have ky:ej E w F kv fp (pP k0 σ) a:=by
  refine⟨fun s x hs=>hc.bw s x (by rw[<-qk];exact hs),fun k e hk=> ?_⟩
  rcases ZL hk with hk|⟨rfl,x,hx,rfl⟩
  ·exact hc.cT k e hk
  ·exact cF.part (hc.cT _ _ hx)
 have hold:∀k e,(pP k0 σ).aU k=some e->∃e',σ.aU k=some e':=by
  intro k e hk
  rcases ZL hk with hk|⟨rfl,x,hx,rfl⟩
  ·exact⟨_,hk⟩
  ·exact⟨_,hx⟩
 refine⟨⟨by rw[q1];exact h.size,h.defers,fun s x hs=>(ky.bw s x hs).mV (fun y hy=>Ip fun _ _=>rfl),fun k e hk=> ?_,fun k k' e e' b cO h1 h2 hb=> ?_,fun k e hk=> ?_,fun k e b hk hb=> ?_,h.lT,h.ny,h.upto,by rw[q1];exact h.HW,h.lay,h.bQ.imp fun tk ht=>ht.cI (fun k e hk hl=>by
   rcases ZL hk with hk|⟨rfl,x,hx,rfl⟩
   ·exact⟨hk,rfl,rfl,fun _ _=>rfl⟩
   ·cases hl) (fun b hb=>⟨hb,rfl⟩)⟩,ky⟩
 ·exact lm.GU (ky.cT k e hk)
 ·obtain⟨e1,g1⟩:=hold k e h1
  obtain⟨e2,g2⟩:=hold k' e' h2
  exact h.apart k k' e1 e2 b cO g1 g2 hb
 ·obtain⟨e1,g1⟩:=hold k e hk
  exact h.nodup k e1 g1
 ·obtain⟨e1,g1⟩:=hold k e hk
  exact h.cU k e1 b g1 hb
theorem adr:∀{l:List Key}{σ:ah U},(∃kv fp,cd E pm F kv fp σ a w/\ej E w F kv fp σ a)->∃kv fp,cd E pm F kv fp (parts l σ) a w/\ej E w F kv fp (parts l σ) a
 |[],σ,h=>h
 |s::l,σ,⟨kv,fp,h,hc⟩=>by
  exact adr (l:=l) (σ:=pP s σ) ⟨kv,fp,am2 h hc _⟩
theorem ads(W:List Nat):∀(l:List Key)(σ:ah U),cX W σ (parts l σ)
 |[],σ=>cX.refl _ _
 |s::l,σ=>by
  refine cX.trans (τ:=pP s σ) ?_ (ads W l _)
  obtain⟨q1,q2,_⟩:=adv s σ
  exact⟨q1,fun s v _ hg _=>by unfold ah.get at hg⊢;rw[q2];exact hg,fun s p _ hg=>by unfold ah.get at hg⊢;rw[q2];exact hg⟩
theorem ac8:∀{l:List Nat}{σ:ah U},(∃kv fp,cd E pm F kv fp σ a w)->∃kv fp,cd E pm F kv fp (wv l σ) a w
 |[],σ,h=>h
 |d::l,σ,h=>ac8 (l:=l) (ada h d)
theorem ac9:∀(l W:List Nat)(σ:ah U),cX W σ (wv l σ)
 |[],W,σ=>cX.refl _ _
 |d::l,W,σ=>(adb d W σ).trans (ac9 l W _)
theorem ZN{W:List Nat}:∀(l:List (pF×U.Ty×Option Bool))(σ:ah U),(∀p∈l,∀s j,p.1=pF.slot s j->s∈W)->cX W σ (Nd l σ)
 |[],σ,_=>cX.refl _ _
 |(p,ty,some d)::r,σ,h=>(am_ (ty,d) σ (h _ cH)).trans (ZN r _ fun q hq=>h q (aJ _ hq))
 |(p,ty,none)::r,σ,h=>(am9 ty σ (h _ cH)).trans (ZN r _ fun q hq=>h q (aJ _ hq))
theorem ZS{β:Type}(l r:List (Nat×Option β))(s:Nat):look (l++r) s=if l.any (fun p=>Nat.beq p.1 s) then look l s else look r s:=by
 induction l with
 |nil=>simp
 |cons p l ih=>
  obtain⟨t,v⟩:=p
  simp only[zex,look,Rs]
  rcases Bool.eq_false_or_eq_true (Nat.beq t s) with h|h
  ·simp[h]
  ·simp only[h,cond_false,JY];exact ih
theorem anX{A:Ai U}{wr:List Nat}{x:A.X}{s:Nat}{v:SV U}(h:(np A wr σ x).get s=some v):
  (s,v)∈A.bw x\/(s∉wr/\s∉A.names/\σ.get s=some v/\((∃y,v=.v y/\(SV.v y).keys=[])\/∃p,v=.fn p)):=by
 unfold ah.get np at h
 simp only at h
 rw[ZS] at h
 split at h
 ·left
  have:=Im h
  obtain⟨⟨s',v'⟩,hp,e⟩:=jX.1 this
  simp only[kG,eZ] at e
  obtain⟨rfl,rfl⟩:=e
  exact hp
 ·right
  have hm:=CD.1 (Im h)
  have h1:=OT Ii.1 hm.1
  rw[Ij (by simp)] at h1
  have h2:=hm.2
  simp only[fY,sS,<-Al,tW,Oq] at h2
  obtain⟨⟨h3,h4⟩,h5⟩:=h2
  refine⟨fun e=>h3 ⟨s,e,rfl⟩,fun e=>h4 ⟨s,e,rfl⟩,h1,?_⟩
  cases v with
  |v y=>exact .inl ⟨y,rfl,by simpa using h5⟩
  |tX xs=>cases h5
  |fn p=>exact .inr ⟨p,rfl⟩
  |El g xs=>cases h5
theorem adK{A:Ai U}{wr:List Nat}{x:A.X}{s:Nat}{y:AV U}(hw:s∉wr)(hn:s∉A.names)(hg:σ.get s=some (.v y))(hk:(SV.v y).keys=[]):
  (np A wr σ x).get s=some (.v y):=by
 unfold ah.get np
 simp only
 rw[ZS,if_neg]
 ·refine OT (Sa Ii.1) (CD.2 ⟨Im (by rw[Ij (by simp)];exact hg),?_⟩)
  simp only[fY,sS,<-Al,tW,Oq]
  exact⟨⟨fun⟨t,h1,h2⟩=>hw (h2▸h1),fun⟨t,h1,h2⟩=>hn (h2▸h1)⟩,by simp[hk]⟩
 ·simp only[Oo,tW,Function.comp,Oq]
  rintro⟨p,hp,rfl⟩
  exact hn (A.inn x p hp)
theorem adL{A:Ai U}{wr:List Nat}{x:A.X}{s:Nat}{p:List (DA U)->Option Value}(hw:s∉wr)(hn:s∉A.names)(hg:σ.get s=some (.fn p)):
  (np A wr σ x).get s=some (.fn p):=by
 unfold ah.get np
 simp only
 rw[ZS,if_neg]
 ·refine OT (Sa Ii.1) (CD.2 ⟨Im (by rw[Ij (by simp)];exact hg),?_⟩)
  simp only[fY,sS,<-Al,tW,Oq]
  exact⟨⟨fun⟨t,h1,h2⟩=>hw (h2▸h1),fun⟨t,h1,h2⟩=>hn (h2▸h1)⟩,by simp⟩
 ·simp only[Oo,tW,Function.comp,Oq]
  rintro⟨p,hp,rfl⟩
  exact hn (A.inn x p hp)
theorem anY{A:Ai U}{wr:List Nat}{x:A.X}{k:Key}{e:eX U}(h:(np A wr σ x).aU k=some e):(k,e)∈A.cT x:=by
 have:=yV (show cm ((A.cT x).map fun(k,e)=>(k,some e)) k=some e from h)
 obtain⟨⟨k',e'⟩,hp,e⟩:=jX.1 this
 simp only[kG,eZ] at e
 obtain⟨rfl,rfl⟩:=e
 exact hp
theorem am6(h:cd E pm F kv fp σ a w){q:Operand}{v:Value}(hb:y6 σ q=some v):a.eval q=v:=by
 unfold y6 ES at hb
 split at hb
 ·rename_i sc hsc;exact pD (CT h hsc) hb
 ·cases hb
variable{n9:Nat->Option (Ai U)}
theorem ZZ{A:Ai U}{wr:List Nat}{lK:ah U}{a':Act}{w':World}{z:A.X}(hs:cd E pm F kv fp lK a' w')(hn:lK.n=σ.n)
  (eW:∀s y,s∉wr->s∉A.names->σ.get s=some (.v y)->(SV.v y).keys=[]->lK.get s=some (.v y))
  (GD:∀s p,s∉wr->s∉A.names->σ.get s=some (.fn p)->lK.get s=some (.fn p))
  (h1:∀p∈A.bw z,(Kq A lK).get p.1=some p.2) (h2:∀p∈A.cT z,(Kq A lK).aU p.1=some p.2):∃F kv fp,cd E pm F kv fp (np A wr σ z) a' w':=by
 obtain⟨kvS,fpS,hS⟩:=ac8 (l:=A.names) ⟨kv,fp,CR hs (fun _=>false)⟩
 obtain⟨kvB,fpB,hB⟩:=ZD (l:=aek (wv A.names (me lK))) ⟨kvS,fpS,hS⟩
 obtain⟨fpR,hR1,hR2⟩:=amN (l:=A.rlk) (CR hB (fun _=>false)) (MT hB _)
 obtain⟨FZ,ath,hS1,hS2⟩:=ams (l:=A.shk) hR1 hR2
 obtain⟨FY,fpY,hY1,hY2⟩:=anK (l:=A.lck) hS1 hS2
 obtain⟨F3,kv3,fp3,g1,g2⟩:=Z3 (l:=A.frk) (Z1 (l:=A.frz) ⟨FY,kvB,fpY,hY1,hY2⟩)
 obtain⟨kv2,fp2,s1,s2⟩:=adr (l:=A.prt) (ZM (l:=A.nil) ⟨kv3,fp3,g1,g2⟩)
 have hnk:cX A.names (me lK) (Kq A lK):=(((((((((ac9 A.names A.names (me lK)).trans (ZE _ _ _)).trans (F9 _ _ _)).trans (amO _ _ _)).trans (amt _ _ _)).trans (anL _ _ _)).trans (Z2 _ _ _)).trans (Z4 _ _ _)).trans (ZN (W:=A.names) A.nil _ A.nin)).trans (ads _ _ _)
 refine⟨F3,kv2,fp2,s1.less (τ:=np A wr σ z) (hn.symm.trans hnk.n.symm) s2 (fun s v hv=> ?_) (fun k e he=> ?_)⟩
 ·rcases anX hv with hm|⟨g1,g2,g3,⟨y,rfl,g5⟩|⟨p,rfl⟩⟩
  ·exact h1 _ hm
  rotate_left
  ·exact hnk.fn s p g2 ((F9 _ [] _).fn s p (by simp) (GD s p g1 g2 g3))
  ·exact hnk.get s y g2 ((F9 _ [] _).get s y (by simp) (eW s y g1 g2 g3 g5) g5) g5
 ·exact h2 _ (anY he)
theorem anW{A:Ai U}{wr W:List Nat}{z:A.X}(h1:∀s,s∈wr->s∈W)(h2:∀s,s∈A.names->s∈W):cX W σ (np A wr σ z):=
 ⟨rfl,fun s v hs hg hk=>adK (fun h=>hs (h1 s h)) (fun h=>hs (h2 s h)) hg hk,fun s p hs hg=>adL (fun h=>hs (h1 s h)) (fun h=>hs (h2 s h)) hg⟩
theorem amB{x y:Code}{Q:Out U->Prop}(h:AM.wp E n9 (.seq x y) σ Q):∃P:ah U->Prop,AM.wp E n9 x σ (fun| .normal lK=>P lK|o=>Q o)/\
  ∀{lK:ah U}{F:Nat->Prop}{kv:Key->Value}{fp:Key->List Nat}{a:Act}{w:World},cd E pm F kv fp lK a w->cX (eA n9 x) σ lK->P lK->
   ∃τ F kv fp,cd E pm F kv fp τ a w/\cX (eA n9 (.seq x y)) σ τ/\AM.wp E n9 y τ Q:=by
 have hW:∀s,s∈eA n9 x->s∈eA n9 (.seq x y):=fun s hs=>oE _ (oE _ hs)
 simp only[AM.wp] at h
 split at h
 ·exact⟨_,h,fun hs hk hp=>⟨_,_,_,_,hs,hk.mono hW,hp⟩⟩
 ·rename_i A hA
  obtain⟨x0,h,_,_⟩:=A.law _ _ h
  refine⟨_,h.1,fun{lK F kv fp a w} hs hk hp=> ?_⟩
  obtain⟨z,hI,RC,Qe⟩:=A.law _ _ hp
  obtain⟨F3,kv3,fp3,g⟩:=ZZ (wr:=eA n9 x) (σ:=σ) hs hk.n (fun s y g1 _ g3 g4=>hk.get s y g1 g3 g4) (fun s p g1 _ g3=>hk.fn s p g1 g3) RC Qe
  refine⟨_,F3,kv3,fp3,g,anW hW (fun s hs=> ?_),A.abr _ h.2 z hI⟩
  simp only[eA,hA]
  exact pA _ hs
theorem al3(hE:E.Good)(c:Code):∀{F:Nat->Prop}{kv:Key->Value}{fp:Key->List Nat}{σ:ah U}{a:Act}{w:World}{Q:Out U->Prop}{Q':Exit->Act->World->Prop},
  cd E pm F kv fp σ a w->AM.wp E n9 c σ Q->
  (∀o,Q o->cX (eA n9 c) σ o.st->∀F kv fp a' w',cd E pm F kv fp o.st a' w'->Q' o.ex a' w')->c.wp E.P Q' a w:=by
 induction c with
 |skip=>
  intro F kv fp σ a w Q Q' h hw hq
  exact wp_skip (hq _ hw (cX.refl _ _) F kv fp a w h)
 |ret=>
  intro F kv fp σ a w Q Q' h hw hq
  exact wp_ret (hq _ hw (cX.refl _ _) F kv fp a w h)
 |exit id=>
  intro F kv fp σ a w Q Q' h hw hq
  exact wp_exit (hq _ hw (cX.refl _ _) F kv fp a w h)
 |region id ops draw=>
  intro F kv fp σ a w Q Q' h hw hq
  exact amS hE h (show wq E ops.toList draw σ _ from hw) (fun lK F kv fp a' w' hk eW hs=>hq (.normal lK) hk eW F kv fp a' w' hs)
 |seq x y ihx ihy=>
  intro F kv fp σ a w Q Q' h hw hq
  obtain⟨P,hx,hy⟩:=amB (pm:=pm) hw
  have hW:∀s,s∈eA n9 x->s∈eA n9 (.seq x y):=fun s hs=>oE _ (oE _ hs)
  refine wp_seq (ihx h hx (fun o ho hk F kv fp a' w' hs=> ?_))
  cases o with
  |normal lK=>
   obtain⟨τ,F,kv,fp,hs,bp,hw'⟩:=hy hs hk ho
   exact ihy hs hw' (fun o' PP eS F kv fp a' w' ky=>hq o' PP (bp.trans (eS.mono fun s hs=>oE _ (pA _ hs))) F kv fp a' w' ky)
  |exit id lK=>exact hq _ ho (hk.mono hW) F kv fp a' w' hs
  |ret lK=>exact hq _ ho (hk.mono hW) F kv fp a' w' hs
 |cond q x y ihx ihy=>
  intro F kv fp σ a w Q Q' h hw hq
  simp only[AM.wp] at hw
  split at hw
  ·rename_i b hb
   have he:=am6 h hb
   refine wp_cond he ?_
   cases b with
   |true=>exact ihx h hw (fun o ho hk=>hq o ho (hk.mono fun s hs=>oE _ hs))
   |false=>exact ihy h hw (fun o ho hk=>hq o ho (hk.mono fun s hs=>pA _ hs))
  ·exact hw.elim
 |block id x ih=>
  intro F kv fp σ a w Q Q' h hw hq
  simp only[AM.wp] at hw
  refine wp_block (ih h hw (fun o ho hk F kv fp a' w' hs=> ?_))
  cases o with
  |normal lK=>exact hq (.normal lK) ho hk F kv fp a' w' hs
  |exit id' lK=>
   simp only at ho
   rw[fc] at ho
   by_cases hid:id'=id
   ·subst hid
    rw[if_pos (by simp)] at ho
    have:=hq (.normal lK) ho hk F kv fp a' w' hs
    simpa[Exit.inBlock,Out.ex] using this
   ·rw[if_neg (by simpa using hid)] at ho
    have:=hq (.exit id' lK) ho hk F kv fp a' w' hs
    simpa[Exit.inBlock,Out.ex,hid] using this
  |ret lK=>exact hq (.ret lK) ho hk F kv fp a' w' hs
 |loop x ih=>
  intro F kv fp σ a w Q Q' h hw hq
  simp only[AM.wp] at hw
  split at hw
  ·rename_i A hA
   obtain⟨x0,⟨hI0,aaB⟩,apg,apB⟩:=A.law _ _ hw
   have HY:eA n9 (.loop x)=eA n9 x++A.names:=by simp only[eA,hA]
   obtain⟨F0,J1,Uf,hs0⟩:=ZZ (wr:=eA n9 x) h rfl (fun s y _ _ hg _=>hg) (fun s p _ _ hg=>hg) apg apB
   refine wp_loop_ghost (fun n a w=>∃y:A.X,A.I x0 y/\A.μ y=n/\∃F kv fp,cd E pm F kv fp (np A (eA n9 x) σ y) a w) (A.μ x0)
    ⟨x0,hI0,rfl,F0,J1,Uf,hs0⟩ ?_
   rintro n a1 w1 ⟨y,hI,rfl,F1,kv1,K4,hs1⟩
   refine ih hs1 (A.abr _ aaB y hI) (fun o ho hk F kv fp a' w' hs=> ?_)
   have eW:∀s v,s∉eA n9 x->s∉A.names->σ.get s=some (.v v)->(SV.v v).keys=[]->o.st.get s=some (.v v):=
    fun s v g1 g2 g3 g4=>hk.get s v g1 (adK g1 g2 g3 g4) g4
   have GD:∀s p,s∉eA n9 x->s∉A.names->σ.get s=some (.fn p)->o.st.get s=some (.fn p):=
    fun s p g1 g2 g3=>hk.fn s p g1 (adL g1 g2 g3)
   have wT:cX (eA n9 (.loop x)) σ o.st:=by
    refine⟨hk.n,fun s v g1 g3 g4=> ?_,fun s p g1 g3=> ?_⟩
    ·rw[HY,gA,not_or] at g1
     exact eW s v g1.1 g1.2 g3 g4
    ·rw[HY,gA,not_or] at g1
     exact GD s p g1.1 g1.2 g3
   cases o with
   |normal lK=>
    obtain⟨z,⟨hIz,fx⟩,RC,Qe⟩:=A.law _ _ ho
    obtain⟨F2,kv2,fp2,hs2⟩:=ZZ (wr:=eA n9 x) (σ:=σ) hs hk.n eW GD RC Qe
    exact⟨A.μ z,fx,z,hIz,rfl,F2,kv2,fp2,hs2⟩
   |exit id lK=>exact hq _ ho wT F kv fp a' w' hs
   |ret lK=>exact hq _ ho wT F kv fp a' w' hs
  ·exact hw.elim
 |_=>
  intros
  rename_i hw _
  exact hw.elim
def WpS(E:Env U)(c:Code)(τ:ah U)(Q:Out U->Prop):Prop:=
 ∀{pm:Pm}{F:Nat->Prop}{kv:Key->Value}{fp:Key->List Nat}{a:Act}{w:World}{Q':Exit->Act->World->Prop},
  cd E pm F kv fp τ a w->(∀o,Q o->∀F kv fp a' w',cd E pm F kv fp o.st a' w'->Q' o.ex a' w')->c.wp E.P Q' a w
theorem J_(hE:E.Good){c:Code}{τ:ah U}{Q:Out U->Prop}(h:AM.wp E n9 c τ Q):WpS E c τ Q:=fun hs hq=>al3 hE c hs h (fun o ho _=>hq o ho)
end AM
