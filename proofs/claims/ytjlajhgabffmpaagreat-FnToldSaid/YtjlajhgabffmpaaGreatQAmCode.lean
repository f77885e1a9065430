/- THE ABSTRACT MACHINE: code: its weakest precondition is the model's. -/
import Derived.Test.YtjlajhgabffmpaaGreatQAmWp
namespace AM
set_option linter.unusedVariables false
open Go
variable{U:lu}{E:Env U}{pm:Pm}
variable{F F':Nat->Prop}{kv kv':Key->Value}{fp fp':Key->List Nat}{σ τ:ai U}{a:Act}{w w':World}
def Out.st:Out U->ai U
 | .normal σ=>σ
 | .exit _ σ=>σ
 | .ret σ=>σ
def Out.ex:Out U->Exit
 | .normal _=> .normal
 | .exit id _=> .exit id
 | .ret _=> .ret
theorem cQ.less(h:cQ E pm F kv fp σ a w)(hn:τ.n=σ.n)(hc:fD E w F kv fp σ a)
  (hg:∀s x,τ.get s=some x->σ.get s=some x) (he:∀k e,τ.bM k=some e->σ.bM k=some e):cQ E pm F kv fp τ a w:=by
 refine⟨by rw[hn];exact h.size,h.defers,fun s x hs=> ?_,fun k e hk=> ?_,fun k k' e e' b fg h1 h2=>h.apart k k' e e' b fg (he k e h1) (he k' e' h2),
  fun k e hk=>h.nodup k e (he k e hk),fun k e b hk=>h.fV k e b (he k e hk),h.uc,h.ub,h.upto,by rw[hn];exact h.N8,h.lay⟩
 ·exact(hc.bI s x (hg s x hs)).nl (fun y hy=>HK fun _ _=>rfl)
 ·have:=hc.dV k e (he k e hk)
  cases e with
  |arr x deep=>exact this
  |part x dead=>exact this
  |box cs=>
   obtain⟨b,cur,e',g1,g2,g3,g4⟩:=this
   exact⟨b,cur,e',g1,g2,g3,g4.nl (fun y hy=>HK fun _ _=>rfl)⟩
theorem ajJ{k:Key}(h:unnamed k σ=true):¬Names σ k:=by
 unfold unnamed at h
 simp only[cO,sk] at h
 rintro(⟨s,x,hs,hk⟩|⟨k',cs,he,x,hx,hk⟩)
 ·have:=h.1 _ (Kv hs)
  simp only[ra,<-wl,sI] at this
  exact this hk
 ·have:=h.2 _ (FY he)
  simp only[ra,<-wl,vg] at this
  exact this ⟨x,hx,vg.1 (sI.2 hk)⟩
theorem cQ.row(h:cQ E pm F kv fp σ a w)(hc:fD E w F kv fp σ a){k0:Key}(BS:σ.bM k0=none)(W7:¬Names σ k0)(apl:1024<=k0.2){ty:U.Ty}{d0:Bool}{v0:Value}(Sh:∃ad,v0=.slice ad 0 0)(hn:τ.n=σ.n)
  (hg:∀s x,τ.get s=some x->σ.get s=some x\/∃y j,σ.get s=some (.v y)/\y.cs[j]? =some .e0/\x=.v ⟨y.agg,y.cs.set j (.ref k0 [])⟩/\∀vs,l8 E w F kv fp (fun _=>false) y.cs vs->(if y.agg then a.tmps.getD s undef=.agg vs.toArray else vs=[a.tmps.getD s undef])->vs[j]? =some v0)
  (he:∀k e,τ.bM k=some e->(k=k0/\e=.arr ⟨ty,[]⟩ d0)\/σ.bM k=some e\/∃cs j,σ.bM k=some (.box cs)/\cs[j]? =some .e0/\e=.box (cs.set j (.ref k0 []))/\∀b cur ety,kv k=.pointer (some ⟨b,0,none⟩)->w.heap[b]? =some (.cells cur ety (0,0))->cur.toList[j]? =some v0):
  ∃kv fp,cQ E pm F kv fp τ a w/\fD E w F kv fp τ a:=by
 classical
 let kv':Key->Value:=fun k=>if k=k0 then v0 else kv k
 let fp':Key->List Nat:=fun k=>if k=k0 then[] else fp k
 have P7:∀k,k≠k0->kv' k=kv k:=fun k hk=>if_neg hk
 have sR:∀k,k≠k0->fp' k=fp k:=fun k hk=>if_neg hk
 have adS:kv' k0=v0:=if_pos rfl
 have Sy:fp' k0=[]:=if_pos rfl
 have qB:∀k,Names σ k->p8 w w kv kv' fp fp' (fun _=>false) (fun _=>false) k:=by
  intro k hk
  have:k≠k0:=fun e=>W7 (e▸hk)
  exact⟨P7 k this,.inr ⟨rfl,sR k this,fun _ _=>rfl⟩⟩
 have hF:∀b,F b->F b/\w.heap[b]? =w.heap[b]? :=fun b hb=>⟨hb,rfl⟩
 have Sl:∀{cs:List (AC U)}{vs:List Value}{j:Nat},l8 E w F kv fp (fun _=>false) cs vs->(∀x∈cs,∀k∈x.keys,Names σ k)->vs[j]? =some v0->l8 E w F kv' fp' (fun _=>false) (cs.set j (.ref k0 [])) vs:=by
  intro cs vs j hd vv hj
  have BT:l8 E w F kv' fp' (fun _=>false) cs vs:=hd.move (fun x hx k hk=>qB k (vv x hx k hk)) hF
  refine⟨by simpa using hd.1,fun i x v hx hv=> ?_⟩
  rw[WJ] at hx
  split at hx
  ·rename_i FQ
   subst FQ
   split at hx
   ·cases hx
    rw[hv] at hj
    cases hj
    obtain⟨ad,rfl⟩:=Sh
    exact⟨⟨rfl,trivial⟩,.inr (by simp only[RA];rw[adS];rfl)⟩
   ·cases hx
  ·exact BT.2 i x v hx hv
 have ky:fD E w F kv' fp' τ a:=by
  refine⟨fun s x hs=> ?_,fun k e hk=> ?_⟩
  ·rcases hg s x hs with g|⟨y,j,g1,g2,rfl,g4⟩
   ·exact(hc.bI s x g).move (fun k hk=>qB k (.inl ⟨s,x,g,hk⟩)) hF
   ·obtain⟨vs,r1,r2⟩:=hc.bI s _ g1
    exact⟨vs,Sl r1 (fun x hx k hk=> .inl ⟨s,_,g1,SV.mem_keys.2 ⟨x,hx,hk⟩⟩) (g4 vs r1 r2),r2⟩
  ·rcases he k e hk with⟨rfl,rfl⟩|g|⟨cs,j,g1,g2,rfl,g4⟩
   ·obtain⟨ad,rfl⟩:=Sh
    exact .inl ⟨rfl,⟨ad,adS⟩,Sy⟩
   ·have fg:k≠k0:=fun e'=>by rw[e',BS] at g;cases g
    have:=hc.dV k e g
    rw[P7 k fg,sR k fg]
    cases e with
    |arr x deep=>exact this
    |part x dead=>exact this
    |box cs=>
     obtain⟨b,cur,e',r1,r2,r3,r4⟩:=this
     exact⟨b,cur,e',r1,r2,r3,r4.move (fun x hx k' db=>qB k' (.inr ⟨k,cs,g,x,hx,db⟩)) hF⟩
   ·have fg:k≠k0:=fun e'=>by rw[e',BS] at g1;cases g1
    obtain⟨b,cur,e',r1,r2,r3,r4⟩:=hc.dV k _ g1
    rw[P7 k fg,sR k fg]
    exact⟨b,cur,e',r1,r2,r3,Sl r4 (fun x hx k' db=> .inr ⟨k,cs,g1,x,hx,db⟩) (g4 b cur e' r1 r2)⟩
 have hold:∀k e,τ.bM k=some e->k≠k0->∃e',σ.bM k=some e':=by
  intro k e hk fg
  rcases he k e hk with⟨rfl,_⟩|g|⟨cs,j,g1,_⟩
  ·exact absurd rfl fg
  ·exact⟨_,g⟩
  ·exact⟨_,g1⟩
 refine⟨kv',fp',⟨by rw[hn];exact h.size,h.defers,fun s x hs=>(ky.bI s x hs).nl (fun y hy=>HK fun _ _=>rfl),fun k e hk=> ?_,fun k k' e e' b fg h1 h2 hb=> ?_,fun k e hk=> ?_,fun k e b hk hb=> ?_,h.uc,h.ub,h.upto,fun k v hp=> ?_,h.lay⟩,ky⟩
 ·have:=ky.dV k e hk
  cases e with
  |arr x deep=>exact this
  |part x dead=>exact this
  |box cs=>
   obtain⟨b,cur,e',g1,g2,g3,g4⟩:=this
   exact⟨b,cur,e',g1,g2,g3,g4.nl (fun y hy=>HK fun _ _=>rfl)⟩
 ·by_cases hk:k=k0
  ·rw[hk,Sy] at hb;cases hb
  ·by_cases db:k'=k0
   ·rw[db,Sy];exact NO
   ·obtain⟨e1,g1⟩:=hold k e h1 hk
    obtain⟨e2,g2⟩:=hold k' e' h2 db
    rw[sR k hk] at hb
    rw[sR k' db]
    exact h.apart k k' e1 e2 b fg g1 g2 hb
 ·by_cases db:k=k0
  ·rw[db,Sy];exact YZ
  ·obtain⟨e1,g1⟩:=hold k e hk db
   rw[sR k db];exact h.nodup k e1 g1
 ·by_cases db:k=k0
  ·rw[db,Sy] at hb;cases hb
  ·obtain⟨e1,g1⟩:=hold k e hk db
   rw[sR k db] at hb;exact h.fV k e1 b g1 hb
 ·obtain⟨p1,p2,p3,p4⟩:=h.N8 k v hp
  refine⟨p1,p2,by rw[hn];exact p3,?_⟩
  rw[P7 k (fun e=>by rw[e] at p2;omega)];exact p4
theorem cQ.abJ(h:cQ E pm F kv fp σ a w)(hc:fD E w F kv fp σ a)(hn:τ.n=σ.n)
  (hg:∀s x,τ.get s=some x->σ.get s=some x\/∃y j ty,σ.get s=some (.v y)/\y.cs[j]? =some .e0/\x=.v ⟨y.agg,y.cs.set j (.c (.sl ty []))⟩)
  (he:∀k e,τ.bM k=some e->σ.bM k=some e\/∃cs j ty,σ.bM k=some (.box cs)/\cs[j]? =some .e0/\e=.box (cs.set j (.c (.sl ty [])))):
  cQ E pm F kv fp τ a w/\fD E w F kv fp τ a:=by
 have Sl:∀{cs:List (AC U)}{vs:List Value}{j:Nat}{ty:U.Ty},l8 E w F kv fp (fun _=>false) cs vs->cs[j]? =some .e0->l8 E w F kv fp (fun _=>false) (cs.set j (.c (.sl ty []))) vs:=by
  intro cs vs j ty hd hj
  refine⟨by simpa using hd.1,fun i x v hx hv=> ?_⟩
  rw[WJ] at hx
  split at hx
  ·rename_i FQ
   subst FQ
   split at hx
   ·cases hx
    obtain⟨g1,g2⟩:=hd.2 j _ v hj hv
    refine⟨g1,.inr ?_⟩
    rcases g2 with g2|⟨ad,rfl⟩
    ·cases g2
    ·exact .nil false ty ad 0 (fun _=>rfl)
   ·cases hx
  ·exact hd.2 i x v hx hv
 have ky:fD E w F kv fp τ a:=by
  refine⟨fun s x hs=> ?_,fun k e hk=> ?_⟩
  ·rcases hg s x hs with g|⟨y,j,ty,g1,g2,rfl⟩
   ·exact hc.bI s x g
   ·obtain⟨vs,r1,r2⟩:=hc.bI s _ g1
    exact⟨vs,Sl r1 g2,r2⟩
  ·rcases he k e hk with g|⟨cs,j,ty,g1,g2,rfl⟩
   ·exact hc.dV k e g
   ·obtain⟨b,cur,e',r1,r2,r3,r4⟩:=hc.dV k _ g1
    exact⟨b,cur,e',r1,r2,r3,Sl r4 g2⟩
 have hold:∀k e,τ.bM k=some e->∃e',σ.bM k=some e':=by
  intro k e hk
  rcases he k e hk with g|⟨cs,j,ty,g1,_⟩
  ·exact⟨_,g⟩
  ·exact⟨_,g1⟩
 refine⟨⟨by rw[hn];exact h.size,h.defers,fun s x hs=>(ky.bI s x hs).nl (fun y hy=>HK fun _ _=>rfl),fun k e hk=> ?_,fun k k' e e' b fg h1 h2 hb=> ?_,fun k e hk=> ?_,fun k e b hk hb=> ?_,h.uc,h.ub,h.upto,fun k v hp=> ?_,h.lay⟩,ky⟩
 ·have:=ky.dV k e hk
  cases e with
  |arr x deep=>exact this
  |part x dead=>exact this
  |box cs=>
   obtain⟨b,cur,e',g1,g2,g3,g4⟩:=this
   exact⟨b,cur,e',g1,g2,g3,g4.nl (fun y hy=>HK fun _ _=>rfl)⟩
 ·obtain⟨e1,g1⟩:=hold k e h1
  obtain⟨e2,g2⟩:=hold k' e' h2
  exact h.apart k k' e1 e2 b fg g1 g2 hb
 ·obtain⟨e1,g1⟩:=hold k e hk
  exact h.nodup k e1 g1
 ·obtain⟨e1,g1⟩:=hold k e hk
  exact h.fV k e1 b g1 hb
 ·obtain⟨p1,p2,p3,p4⟩:=h.N8 k v hp
  exact⟨p1,p2,by rw[hn];exact p3,p4⟩
theorem U8{x:Option (AC U)}:PN x=true↔x=some .e0:=by
 unfold PN
 split
 ·simp
 ·rename_i h;simp only[xt,false_iff];exact fun e=>h e
theorem Rv{β:Type}(k k':Key)(v:Option β)(l:List (Key×Option β)):eZ ((k,v)::l) k'=if k=k' then v else eZ l k':=by
 simp only[eZ]
 by_cases h:k=k'
 ·rw[pA.2 h,if_pos h];rfl
 ·rw[MP.2 h,if_neg h];rfl
theorem MO{β:Type}(k k':Nat)(v:Option β)(l:List (Nat×Option β)):look ((k,v)::l) k'=if k=k' then v else look l k':=by
 simp only[look]
 by_cases h:k=k'
 ·rw[if_pos h,(by simpa using h:Nat.beq k k'=true)];rfl
 ·rw[if_neg h,(by rw[<-wl,JU];exact h:Nat.beq k k'=false)];rfl
theorem S9{x:AC U}{v:Value}(h:RD E w F kv fp (fun _=>false) x v)(hx:x=.e0):∃ad,v=.slice ad 0 0:=by
 subst hx
 exact cw h rfl
theorem akq{p:qk}{ty:U.Ty×Bool}(h:cQ E pm F kv fp σ a w)(hc:fD E w F kv fp σ a):∃kv fp,cQ E pm F kv fp (PF p ty σ) a w/\fD E w F kv fp (PF p ty σ) a:=by
 have same:∃kv fp,cQ E pm F kv fp σ a w/\fD E w F kv fp σ a:=⟨kv,fp,h,hc⟩
 unfold PF
 rw[iu]
 split
 ·rename_i ni
  simp only[cO,QS,Option.isNone_iff_eq_none] at ni
  obtain⟨⟨c1,c2⟩,c3⟩:=ni
  have W6:=ajJ c2
  cases p with
  |slot s j=>
   simp only
   split
   ·rename_i x hx
    rw[iu]
    split
    ·rename_i nE
     have nE:=U8.1 nE
     obtain⟨vs,r1,r2⟩:=hc.bI s _ hx
     have gZ:j<vs.length:=by
      rw[<-r1.1]
      rcases pa j x.cs.length with g|g
      ·exact g
      ·rw[ox g] at nE;cases nE
     have hvj:vs[j]? =some vs[j]:=fH gZ
     refine h.row hc (τ:={σ with bI:=(s,some (.v ⟨x.agg,x.cs.set j (.ref (qk.slot s j).key [])⟩))::σ.bI,oy:=((qk.slot s j).key,some (.arr ⟨ty.1,[]⟩ ty.2))::σ.oy})
      (k0:=(qk.slot s j).key) c1 W6 c3 (ty:=ty.1) (d0:=ty.2) (v0:=vs[j]) (S9 (r1.2 j _ _ nE hvj) rfl) rfl (fun s' x' ky=> ?_) (fun k e hk=> ?_)
     ·replace ky:=(MO _ _ _ _).symm.trans ky
      split at ky
      ·rename_i e;subst e
       cases ky
       refine .inr ⟨x,j,hx,nE,rfl,fun wc r1' UN=> ?_⟩
       have:wc=vs:=by
        cases Uu:x.agg
        ·rw[Uu] at r2 UN;simp only[xt,if_false] at r2 UN;rw[r2,UN]
        ·rw[Uu] at r2 UN;simp only[if_true] at r2 UN
         rw[r2] at UN
         simpa using UN.symm
       rw[this];exact hvj
      ·exact .inl ky
     ·replace hk:=(Rv _ _ _ _).symm.trans hk
      split at hk
      ·rename_i e;cases hk;exact .inl ⟨e.symm,rfl⟩
      ·exact .inr (.inl hk)
    ·exact same
   ·exact same
  |box k1 j=>
   simp only
   split
   ·rename_i cs hx
    rw[iu]
    split
    ·rename_i nE
     have nE:=U8.1 nE
     obtain⟨b,cur,e',r1,r2,r3,r4⟩:=hc.dV k1 _ hx
     have gZ:j<cur.toList.length:=by
      rw[<-r4.1]
      rcases pa j cs.length with g|g
      ·exact g
      ·rw[ox g] at nE;cases nE
     have hvj:cur.toList[j]? =some cur.toList[j]:=fH gZ
     refine h.row hc (τ:={σ with oy:=((qk.box k1 j).key,some (.arr ⟨ty.1,[]⟩ ty.2))::(k1,some (.box (cs.set j (.ref (qk.box k1 j).key []))))::σ.oy})
      (k0:=(qk.box k1 j).key) c1 W6 c3 (ty:=ty.1) (d0:=ty.2) (v0:=cur.toList[j]) (S9 (r4.2 j _ _ nE hvj) rfl) rfl (fun s' x' ky=> .inl ky) (fun k e hk=> ?_)
     replace hk:=(Rv _ _ _ _).symm.trans hk
     split at hk
     ·rename_i e;cases hk;exact .inl ⟨e.symm,rfl⟩
     ·rw[Rv] at hk
      split at hk
      ·rename_i e;cases hk
       subst e
       refine .inr (.inr ⟨cs,j,hx,nE,rfl,fun b2 apw e2 g1 g2=> ?_⟩)
       rw[r1] at g1;cases g1
       rw[r2] at g2;cases g2
       exact hvj
      ·exact .inr (.inl hk)
    ·exact same
   ·exact same
 ·exact same
theorem ako{p:qk}{ty:U.Ty}(h:cQ E pm F kv fp σ a w)(hc:fD E w F kv fp σ a):cQ E pm F kv fp (PE p ty σ) a w/\fD E w F kv fp (PE p ty σ) a:=by
 have same:cQ E pm F kv fp σ a w/\fD E w F kv fp σ a:=⟨h,hc⟩
 unfold PE
 cases p with
 |slot s j=>
  simp only
  split
  ·rename_i x hx
   rw[iu]
   split
   ·rename_i nE
    have nE:=U8.1 nE
    refine h.abJ hc (τ:={σ with bI:=(s,some (.v ⟨x.agg,x.cs.set j (.c (.sl ty []))⟩))::σ.bI}) rfl (fun s' x' ky=> ?_) (fun k e hk=> .inl hk)
    replace ky:=(MO _ _ _ _).symm.trans ky
    split at ky
    ·rename_i e;subst e
     cases ky
     exact .inr ⟨x,j,ty,hx,nE,rfl⟩
    ·exact .inl ky
   ·exact same
  ·exact same
 |box k1 j=>
  simp only
  split
  ·rename_i cs hx
   rw[iu]
   split
   ·rename_i nE
    have nE:=U8.1 nE
    refine h.abJ hc (τ:={σ with oy:=(k1,some (.box (cs.set j (.c (.sl ty [])))))::σ.oy}) rfl (fun s' x' ky=> .inl ky) (fun k e hk=> ?_)
    replace hk:=(Rv _ _ _ _).symm.trans hk
    split at hk
    ·rename_i e;cases hk
     subst e
     exact .inr ⟨cs,j,ty,hx,nE,rfl⟩
    ·exact .inl hk
   ·exact same
  ·exact same
theorem U1:∀{l:List (qk×U.Ty×Option Bool)}{σ:ai U},(∃kv fp,cQ E pm F kv fp σ a w/\fD E w F kv fp σ a)->∃kv fp,cQ E pm F kv fp (PD l σ) a w/\fD E w F kv fp (PD l σ) a
 |[],σ,h=>h
 |(p,ty,some d)::r,σ,⟨kv,fp,h,hc⟩=>U1 (l:=r) (akq h hc)
 |(p,ty,none)::r,σ,⟨kv,fp,h,hc⟩=>U1 (l:=r) ⟨kv,fp,ako h hc⟩
theorem akp{p:qk}{W:List Nat}(ty:U.Ty)(σ:ai U)(hW:∀s j,p=.slot s j->s∈W):eV W σ (PE p ty σ):=by
 unfold PE
 cases p with
 |slot s j=>
  simp only
  split
  ·rename_i x hx
   rw[iu]
   split
   ·refine⟨rfl,fun s' v hs hg _=> ?_,fun s' p hs hg=> ?_⟩
    ·have:s≠s':=fun e=>hs (e▸hW s j rfl)
     exact(MO _ _ _ _).trans ((if_neg this).trans hg)
    ·have:s≠s':=fun e=>hs (e▸hW s j rfl)
     exact(MO _ _ _ _).trans ((if_neg this).trans hg)
   ·exact eV.refl _ _
  ·exact eV.refl _ _
 |box k1 j=>
  simp only
  split
  ·rename_i cs hx
   rw[iu]
   split
   ·exact⟨rfl,fun s' v hs hg _=>hg,fun s' p hs hg=>hg⟩
   ·exact eV.refl _ _
  ·exact eV.refl _ _
theorem akr{p:qk}{W:List Nat}(ty:U.Ty×Bool)(σ:ai U)(hW:∀s j,p=.slot s j->s∈W):eV W σ (PF p ty σ):=by
 unfold PF
 rw[iu]
 split
 ·cases p with
  |slot s j=>
   simp only
   split
   ·rename_i x hx
    rw[iu]
    split
    ·refine⟨rfl,fun s' v hs hg _=> ?_,fun s' p hs hg=> ?_⟩
     ·have:s≠s':=fun e=>hs (e▸hW s j rfl)
      exact(MO _ _ _ _).trans ((if_neg this).trans hg)
     ·have:s≠s':=fun e=>hs (e▸hW s j rfl)
      exact(MO _ _ _ _).trans ((if_neg this).trans hg)
    ·exact eV.refl _ _
   ·exact eV.refl _ _
  |box k j=>
   simp only
   split
   ·rw[iu]
    split
    ·exact⟨rfl,fun s v _ hg _=>hg,fun s p _ hg=>hg⟩
    ·exact eV.refl _ _
   ·exact eV.refl _ _
 ·exact eV.refl _ _
theorem acH{k0 k:Key}{e:i_ U}(h:(qx k0 σ).bM k=some e):σ.bM k=some e\/(k=k0/\∃x,σ.bM k0=some (.arr x true)/\e=.part x fun _=>false):=by
 unfold qx at h
 split at h
 ·rename_i x hx
  replace h:=(Rv _ _ _ _).symm.trans h
  split at h
  ·rename_i hk
   cases h
   exact .inr ⟨hk.symm,x,hx,rfl⟩
  ·exact .inl h
 ·exact .inl h
theorem acG(k0:Key)(σ:ai U):(qx k0 σ).n=σ.n/\(qx k0 σ).bI=σ.bI/\(qx k0 σ).aN=σ.aN:=by
 unfold qx
 split
 ·exact⟨rfl,rfl,rfl⟩
 ·exact⟨rfl,rfl,rfl⟩
theorem aki(h:cQ E pm F kv fp σ a w)(hc:fD E w F kv fp σ a)(k0:Key):cQ E pm F kv fp (qx k0 σ) a w/\fD E w F kv fp (qx k0 σ) a:=by
 obtain⟨q1,q2,_⟩:=acG k0 σ
 have sQ:∀s,(qx k0 σ).get s=σ.get s:=fun s=>by unfold ai.get;rw[q2]
 have ky:fD E w F kv fp (qx k0 σ) a:=by
  refine⟨fun s x hs=>hc.bI s x (by rw[<-sQ];exact hs),fun k e hk=> ?_⟩
  rcases acH hk with hk|⟨rfl,x,hx,rfl⟩
  ·exact hc.dV k e hk
  ·exact fi.part (hc.dV _ _ hx)
 have hold:∀k e,(qx k0 σ).bM k=some e->∃e',σ.bM k=some e':=by
  intro k e hk
  rcases acH hk with hk|⟨rfl,x,hx,rfl⟩
  ·exact⟨_,hk⟩
  ·exact⟨_,hx⟩
 refine⟨⟨by rw[q1];exact h.size,h.defers,fun s x hs=>(ky.bI s x hs).nl (fun y hy=>HK fun _ _=>rfl),fun k e hk=> ?_,fun k k' e e' b fg h1 h2 hb=> ?_,fun k e hk=> ?_,fun k e b hk hb=> ?_,h.uc,h.ub,h.upto,by rw[q1];exact h.N8,h.lay⟩,ky⟩
 ·have:=ky.dV k e hk
  cases e with
  |arr x deep=>exact this
  |part x dead=>exact this
  |box cs=>
   obtain⟨b,cur,e',g1,g2,g3,g4⟩:=this
   exact⟨b,cur,e',g1,g2,g3,g4.nl (fun y hy=>HK fun _ _=>rfl)⟩
 ·obtain⟨e1,g1⟩:=hold k e h1
  obtain⟨e2,g2⟩:=hold k' e' h2
  exact h.apart k k' e1 e2 b fg g1 g2 hb
 ·obtain⟨e1,g1⟩:=hold k e hk
  exact h.nodup k e1 g1
 ·obtain⟨e1,g1⟩:=hold k e hk
  exact h.fV k e1 b g1 hb
theorem ZH:∀{l:List Key}{σ:ai U},(∃kv fp,cQ E pm F kv fp σ a w/\fD E w F kv fp σ a)->∃kv fp,cQ E pm F kv fp (parts l σ) a w/\fD E w F kv fp (parts l σ) a
 |[],σ,h=>h
 |s::l,σ,⟨kv,fp,h,hc⟩=>by
  exact ZH (l:=l) (σ:=qx s σ) ⟨kv,fp,aki h hc _⟩
theorem ZI(W:List Nat):∀(l:List Key)(σ:ai U),eV W σ (parts l σ)
 |[],σ=>eV.refl _ _
 |s::l,σ=>by
  refine eV.trans (τ:=qx s σ) ?_ (ZI W l _)
  obtain⟨q1,q2,_⟩:=acG s σ
  exact⟨q1,fun s v _ hg _=>by unfold ai.get at hg⊢;rw[q2];exact hg,fun s p _ hg=>by unfold ai.get at hg⊢;rw[q2];exact hg⟩
theorem ZE:∀{l:List Nat}{σ:ai U},(∃kv fp,cQ E pm F kv fp σ a w)->∃kv fp,cQ E pm F kv fp (uv l σ) a w
 |[],σ,h=>h
 |d::l,σ,h=>ZE (l:=l) (ack h d)
theorem ZF:∀(l W:List Nat)(σ:ai U),eV W σ (uv l σ)
 |[],W,σ=>eV.refl _ _
 |d::l,W,σ=>(acm d W σ).trans (ZF l W _)
theorem U2{W:List Nat}:∀(l:List (qk×U.Ty×Option Bool))(σ:ai U),(∀p∈l,∀s j,p.1=qk.slot s j->s∈W)->eV W σ (PD l σ)
 |[],σ,_=>eV.refl _ _
 |(p,ty,some d)::r,σ,h=>(akr (ty,d) σ (h _ gB)).trans (U2 r _ fun q hq=>h q (cI _ hq))
 |(p,ty,none)::r,σ,h=>(akp ty σ (h _ gB)).trans (U2 r _ fun q hq=>h q (cI _ hq))
theorem ZN{β:Type}(l r:List (Nat×Option β))(s:Nat):look (l++r) s=if l.any (fun p=>Nat.beq p.1 s) then look l s else look r s:=by
 induction l with
 |nil=>simp
 |cons p l ih=>
  obtain⟨t,v⟩:=p
  simp only[zex,look,Ux]
  rcases Bool.eq_false_or_eq_true (Nat.beq t s) with h|h
  ·simp[h]
  ·simp only[h,cond_false,Gl];exact ih
theorem acW{A:ud U}{wr:List Nat}{x:A.X}{s:Nat}{v:SV U}(h:(mj A wr σ x).get s=some v):
  (s,v)∈A.bI x\/(s∉wr/\s∉A.names/\σ.get s=some v/\((∃y,v=.v y/\(SV.v y).keys=[])\/∃p,v=.fn p)):=by
 unfold ai.get mj at h
 simp only at h
 rw[ZN] at h
 split at h
 ·left
  have:=Kv h
  obtain⟨⟨s',v'⟩,hp,e⟩:=l_.1 this
  simp only[pb,gJ] at e
  obtain⟨rfl,rfl⟩:=e
  exact hp
 ·right
  have hm:=zr.1 (Kv h)
  have h1:=Rt Kq.1 hm.1
  rw[Kr (by simp)] at h1
  have h2:=hm.2
  simp only[cO,ra,<-wl,vg,JU] at h2
  obtain⟨⟨h3,h4⟩,h5⟩:=h2
  refine⟨fun e=>h3 ⟨s,e,rfl⟩,fun e=>h4 ⟨s,e,rfl⟩,h1,?_⟩
  cases v with
  |v y=>exact .inl ⟨y,rfl,by simpa using h5⟩
  |wm xs=>cases h5
  |fn p=>exact .inr ⟨p,rfl⟩
  |He g xs=>cases h5
theorem ak6{A:ud U}{wr:List Nat}{x:A.X}{s:Nat}{y:AV U}(hw:s∉wr)(hn:s∉A.names)(hg:σ.get s=some (.v y))(hk:(SV.v y).keys=[]):
  (mj A wr σ x).get s=some (.v y):=by
 unfold ai.get mj
 simp only
 rw[ZN,if_neg]
 ·refine Rt (U0 Kq.1) (zr.2 ⟨Kv (by rw[Kr (by simp)];exact hg),?_⟩)
  simp only[cO,ra,<-wl,vg,JU]
  exact⟨⟨fun⟨t,h1,h2⟩=>hw (h2▸h1),fun⟨t,h1,h2⟩=>hn (h2▸h1)⟩,by simp[hk]⟩
 ·simp only[QW,vg,Function.comp,JU]
  rintro⟨p,hp,rfl⟩
  exact hn (A.inn x p hp)
theorem ak7{A:ud U}{wr:List Nat}{x:A.X}{s:Nat}{p:List (DA U)->Option Value}(hw:s∉wr)(hn:s∉A.names)(hg:σ.get s=some (.fn p)):
  (mj A wr σ x).get s=some (.fn p):=by
 unfold ai.get mj
 simp only
 rw[ZN,if_neg]
 ·refine Rt (U0 Kq.1) (zr.2 ⟨Kv (by rw[Kr (by simp)];exact hg),?_⟩)
  simp only[cO,ra,<-wl,vg,JU]
  exact⟨⟨fun⟨t,h1,h2⟩=>hw (h2▸h1),fun⟨t,h1,h2⟩=>hn (h2▸h1)⟩,by simp⟩
 ·simp only[QW,vg,Function.comp,JU]
  rintro⟨p,hp,rfl⟩
  exact hn (A.inn x p hp)
theorem acY{A:ud U}{wr:List Nat}{x:A.X}{k:Key}{e:i_ U}(h:(mj A wr σ x).bM k=some e):(k,e)∈A.dV x:=by
 have:=FY (show eZ ((A.dV x).map fun(k,e)=>(k,some e)) k=some e from h)
 obtain⟨⟨k',e'⟩,hp,e⟩:=l_.1 this
 simp only[pb,gJ] at e
 obtain⟨rfl,rfl⟩:=e
 exact hp
theorem akm(h:cQ E pm F kv fp σ a w){q:Operand}{v:Value}(hb:zK σ q=some v):a.eval q=v:=by
 unfold zK Gv at hb
 split at hb
 ·rename_i sc hsc;exact qd (D8 h hsc) hb
 ·cases hb
variable{om:Nat->Option (ud U)}
theorem UO(hE:E.Good)(c:Code):∀{F:Nat->Prop}{kv:Key->Value}{fp:Key->List Nat}{σ:ai U}{a:Act}{w:World}{Q:Out U->Prop}{Q':Exit->Act->World->Prop},
  cQ E pm F kv fp σ a w->AM.wp E om c σ Q->
  (∀o,Q o->eV (gO om c) σ o.st->∀F kv fp a' w',cQ E pm F kv fp o.st a' w'->Q' o.ex a' w')->c.wp E.P Q' a w:=by
 induction c with
 |skip=>
  intro F kv fp σ a w Q Q' h hw hq
  exact wp_skip (hq _ hw (eV.refl _ _) F kv fp a w h)
 |ret=>
  intro F kv fp σ a w Q Q' h hw hq
  exact wp_ret (hq _ hw (eV.refl _ _) F kv fp a w h)
 |exit id=>
  intro F kv fp σ a w Q Q' h hw hq
  exact wp_exit (hq _ hw (eV.refl _ _) F kv fp a w h)
 |region id ops draw=>
  intro F kv fp σ a w Q Q' h hw hq
  exact akd hE h (show xy E ops.toList draw σ _ from hw) (fun l9 F kv fp a' w' hk jf hs=>hq (.normal l9) hk jf F kv fp a' w' hs)
 |seq x y ihx ihy=>
  intro F kv fp σ a w Q Q' h hw hq
  simp only[AM.wp] at hw
  refine wp_seq (ihx h hw (fun o ho hk F kv fp a' w' hs=> ?_))
  have z0:eV (gO om (.seq x y)) σ o.st:=hk.mono fun s hs=>sh _ hs
  cases o with
  |normal l9=>
   refine ihy hs ho (fun o' So db F kv fp a' w' ky=>hq o' So (z0.trans (db.mono fun s hs=>rb _ hs)) F kv fp a' w' ky)
  |exit id l9=>exact hq _ ho z0 F kv fp a' w' hs
  |ret l9=>exact hq _ ho z0 F kv fp a' w' hs
 |cond q x y ihx ihy=>
  intro F kv fp σ a w Q Q' h hw hq
  simp only[AM.wp] at hw
  split at hw
  ·rename_i b hb
   have he:=akm h hb
   refine wp_cond he ?_
   cases b with
   |true=>exact ihx h hw (fun o ho hk=>hq o ho (hk.mono fun s hs=>sh _ hs))
   |false=>exact ihy h hw (fun o ho hk=>hq o ho (hk.mono fun s hs=>rb _ hs))
  ·exact hw.elim
 |block id x ih=>
  intro F kv fp σ a w Q Q' h hw hq
  simp only[AM.wp] at hw
  refine wp_block (ih h hw (fun o ho hk F kv fp a' w' hs=> ?_))
  cases o with
  |normal l9=>exact hq (.normal l9) ho hk F kv fp a' w' hs
  |exit id' l9=>
   simp only at ho
   rw[iu] at ho
   by_cases hid:id'=id
   ·subst hid
    rw[if_pos (by simp)] at ho
    have:=hq (.normal l9) ho hk F kv fp a' w' hs
    simpa[Exit.inBlock,Out.ex] using this
   ·rw[if_neg (by simpa using hid)] at ho
    have:=hq (.exit id' l9) ho hk F kv fp a' w' hs
    simpa[Exit.inBlock,Out.ex,hid] using this
  |ret l9=>exact hq (.ret l9) ho hk F kv fp a' w' hs
 |loop x ih=>
  intro F kv fp σ a w Q Q' h hw hq
  simp only[AM.wp] at hw
  split at hw
  ·rename_i A hA
   obtain⟨x0,⟨hI0,aar⟩,amg,amw⟩:=A.law _ _ hw
   have Sj:gO om (.loop x)=gO om x++A.names:=by simp only[gO,hA]
   have start:∀{l9:ai U}{F kv fp a' w'}(z:A.X),cQ E pm F kv fp l9 a' w'->l9.n=σ.n->
     (∀s y,s∉gO om x->s∉A.names->σ.get s=some (.v y)->(SV.v y).keys=[]->l9.get s=some (.v y))->
     (∀s p,s∉gO om x->s∉A.names->σ.get s=some (.fn p)->l9.get s=some (.fn p))->
     (∀p∈A.bI z,(F5 A l9).get p.1=some p.2)->(∀p∈A.dV z,(F5 A l9).bM p.1=some p.2)->∃F kv fp,cQ E pm F kv fp (mj A (gO om x) σ z) a' w':=by
    intro l9 F kv fp a' w' z hs hn jf Ib h1 h2
    obtain⟨kvS,fpS,hS⟩:=ZE (l:=A.names) ⟨kv,fp,HE hs (fun _=>false)⟩
    obtain⟨kvB,fpB,hB⟩:=UR (l:=boxes (uv A.names (jT l9))) ⟨kvS,fpS,hS⟩
    obtain⟨FZ,aa6,hS1,hS2⟩:=ace (l:=A.shk) (HE hB (fun _=>false)) (Rr hB _)
    obtain⟨F3,kv3,fp3,g1,g2⟩:=Va (l:=A.frk) (U' (l:=A.frz) ⟨FZ,kvB,aa6,hS1,hS2⟩)
    obtain⟨kv2,fp2,s1,s2⟩:=ZH (l:=A.prt) (U1 (l:=A.nil) ⟨kv3,fp3,g1,g2⟩)
    have hnk:eV A.names (jT l9) (F5 A l9):=(((((((ZF A.names A.names (jT l9)).trans (US _ _ _)).trans (Kt _ _ _)).trans (acf _ _ _)).trans (U_ _ _ _)).trans (Vb _ _ _)).trans (U2 (W:=A.names) A.nil _ A.nin)).trans (ZI _ _ _)
    refine⟨F3,kv2,fp2,s1.less (τ:=mj A (gO om x) σ z) (hn.symm.trans hnk.n.symm) s2 (fun s v hv=> ?_) (fun k e he=> ?_)⟩
    ·rcases acW hv with hm|⟨g1,g2,g3,⟨y,rfl,g5⟩|⟨p,rfl⟩⟩
     ·exact h1 _ hm
     rotate_left
     ·exact hnk.fn s p g2 ((Kt _ [] _).fn s p (by simp) (Ib s p g1 g2 g3))
     ·exact hnk.get s y g2 ((Kt _ [] _).get s y (by simp) (jf s y g1 g2 g3 g5) g5) g5
    ·exact h2 _ (acY he)
   obtain⟨F0,KS,V9,hs0⟩:=start x0 h rfl (fun s y _ _ hg _=>hg) (fun s p _ _ hg=>hg) amg amw
   refine wp_loop_ghost (fun n a w=>∃y:A.X,A.I x0 y/\A.μ y=n/\∃F kv fp,cQ E pm F kv fp (mj A (gO om x) σ y) a w) (A.μ x0)
    ⟨x0,hI0,rfl,F0,KS,V9,hs0⟩ ?_
   rintro n a1 w1 ⟨y,hI,rfl,F1,kv1,fp1,hs1⟩
   refine ih hs1 (A.aej _ aar y hI) (fun o ho hk F kv fp a' w' hs=> ?_)
   have jf:∀s v,s∉gO om x->s∉A.names->σ.get s=some (.v v)->(SV.v v).keys=[]->o.st.get s=some (.v v):=
    fun s v g1 g2 g3 g4=>hk.get s v g1 (ak6 g1 g2 g3 g4) g4
   have Ib:∀s p,s∉gO om x->s∉A.names->σ.get s=some (.fn p)->o.st.get s=some (.fn p):=
    fun s p g1 g2 g3=>hk.fn s p g1 (ak7 g1 g2 g3)
   have EK:eV (gO om (.loop x)) σ o.st:=by
    refine⟨hk.n,fun s v g1 g3 g4=> ?_,fun s p g1 g3=> ?_⟩
    ·rw[Sj,jO,not_or] at g1
     exact jf s v g1.1 g1.2 g3 g4
    ·rw[Sj,jO,not_or] at g1
     exact Ib s p g1.1 g1.2 g3
   cases o with
   |normal l9=>
    obtain⟨z,⟨hIz,gZ⟩,hsl,SC⟩:=A.law _ _ ho
    obtain⟨F2,kv2,fp2,hs2⟩:=start z hs hk.n jf Ib hsl SC
    exact⟨A.μ z,gZ,z,hIz,rfl,F2,kv2,fp2,hs2⟩
   |exit id l9=>exact hq _ ho EK F kv fp a' w' hs
   |ret l9=>exact hq _ ho EK F kv fp a' w' hs
  ·exact hw.elim
 |_=>
  intros
  rename_i hw _
  exact hw.elim
def aef(A:ud U)(Q:Out U->Prop):Out U->Prop
 | .normal σ=>A.un (F5 A σ) fun z=>A.I z z
 |o=>Q o
def WpS(E:Env U)(c:Code)(τ:ai U)(Q:Out U->Prop):Prop:=
 ∀{pm:Pm}{F:Nat->Prop}{kv:Key->Value}{fp:Key->List Nat}{a:Act}{w:World}{Q':Exit->Act->World->Prop},
  cQ E pm F kv fp τ a w->(∀o,Q o->∀F kv fp a' w',cQ E pm F kv fp o.st a' w'->Q' o.ex a' w')->c.wp E.P Q' a w
theorem Mv(hE:E.Good){c:Code}{τ:ai U}{Q:Out U->Prop}(h:AM.wp E om c τ Q):WpS E c τ Q:=fun hs hq=>UO hE c hs h (fun o ho _=>hq o ho)
theorem alE{A:ud U}{n:Nat}{l9:ai U}(hn:l9.n=n)(hs:cQ E pm F kv fp l9 a w){z:A.X}(h1:∀p∈A.bI z,(F5 A l9).get p.1=some p.2)(h2:∀p∈A.dV z,(F5 A l9).bM p.1=some p.2):
  ∃F kv fp,cQ E pm F kv fp (mj A [] ⟨n,[],[],[]⟩ z) a w:=by
 obtain⟨kvS,fpS,hS⟩:=ZE (l:=A.names) ⟨kv,fp,HE hs (fun _=>false)⟩
 obtain⟨kvB,fpB,hB⟩:=UR (l:=boxes (uv A.names (jT l9))) ⟨kvS,fpS,hS⟩
 obtain⟨FZ,aa6,hS1,hS2⟩:=ace (l:=A.shk) (HE hB (fun _=>false)) (Rr hB _)
 obtain⟨F3,kv3,fp3,g1,g2⟩:=Va (l:=A.frk) (U' (l:=A.frz) ⟨FZ,kvB,aa6,hS1,hS2⟩)
 obtain⟨kv2,fp2,s1,s2⟩:=ZH (l:=A.prt) (U1 (l:=A.nil) ⟨kv3,fp3,g1,g2⟩)
 have hnk:eV A.names (jT l9) (F5 A l9):=(((((((ZF A.names A.names (jT l9)).trans (US _ _ _)).trans (Kt _ _ _)).trans (acf _ _ _)).trans (U_ _ _ _)).trans (Vb _ _ _)).trans (U2 (W:=A.names) A.nil _ A.nin)).trans (ZI _ _ _)
 refine⟨F3,kv2,fp2,s1.less (τ:=mj A [] ⟨n,[],[],[]⟩ z) (hn.symm.trans hnk.n.symm) s2 (fun s v hv=> ?_) (fun k e he=> ?_)⟩
 ·rcases acW hv with hm|⟨_,_,g3,_⟩
  ·exact h1 _ hm
  ·cases g3
 ·exact h2 _ (acY he)
theorem alF(hE:E.Good){r n:Nat}{A:ud U}{Q:Out U->Prop}:∀{c:Code}{p:Code×Code}{σ:ai U},Qq r c=some p->σ.n=n->
  AM.wp E om p.1 σ (aef A Q)->(∀y,A.I y y->AM.wp E om p.2 (mj A [] ⟨n,[],[],[]⟩ y) Q)->WpS E c σ Q:=by
 intro c
 induction c with
 |seq x y ihx ihy=>
  intro p σ hc hn h1 h2 pm F kv fp a w Q' hs hq
  simp only[Qq,iu] at hc
  split at hc
  ·cases hc
   refine wp_seq (UO hE x hs h1 (fun o ho hk F kv fp a' w' ky=> ?_))
   cases o with
   |normal l9=>
    obtain⟨z,hI,hsl,SC⟩:=A.law _ _ (show A.un (F5 A l9) (fun z=>A.I z z) from ho)
    obtain⟨F3,kv3,fp3,g⟩:=alE (hk.n.trans hn) ky hsl SC
    exact UO hE y g (h2 z hI) (fun o' So _=>hq o' So)
   |exit id l9=>exact hq _ ho F kv fp a' w' ky
   |ret l9=>exact hq _ ho F kv fp a' w' ky
  ·split at hc
   ·rename_i q hb
    cases hc
    simp only[AM.wp] at h1
    refine wp_seq (UO hE x hs h1 (fun o ho hk F kv fp a' w' ky=> ?_))
    cases o with
    |normal l9=>exact ihy hb (hk.n.trans hn) ho h2 ky hq
    |exit id l9=>exact hq _ ho F kv fp a' w' ky
    |ret l9=>exact hq _ ho F kv fp a' w' ky
   ·cases hc
 |_=>intro p σ hc;cases hc
end AM
