/- THE ABSTRACT MACHINE: code: its weakest precondition is the model's. -/
import Derived.Test.YtmlhlndkkidhoaaGreatQAmWp
namespace AM
set_option linter.unusedVariables false
open Go
variable{U:kZ}{E:Env U}{pm:Pm}
variable{F F':Nat->Prop}{kv kv':Key->Value}{fp fp':Key->List Nat}{σ τ:ah U}{a:Act}{w w':World}
def Out.st:Out U->ah U
 | .normal σ=>σ
 | .exit _ σ=>σ
 | .ret σ=>σ
def Out.ex:Out U->Exit
 | .normal _=> .normal
 | .exit id _=> .exit id
 | .ret _=> .ret
theorem cE.less(h:cE E pm F kv fp σ a w)(hn:τ.n=σ.n)(hc:fm E w F kv fp σ a)
  (hg:∀s x,τ.get s=some x->σ.get s=some x) (he:∀k e,τ.bJ k=some e->σ.bJ k=some e):cE E pm F kv fp τ a w:=by
 refine⟨by rw[hn];exact h.size,h.defers,fun s x hs=> ?_,fun k e hk=> ?_,fun k k' e e' b eO h1 h2=>h.apart k k' e e' b eO (he k e h1) (he k' e' h2),
  fun k e hk=>h.nodup k e (he k e hk),fun k e b hk=>h.fK k e b (he k e hk),h.sZ,h.sY,h.upto,by rw[hn];exact h.LV,h.lay⟩
 ·exact(hc.bz s x (hg s x hs)).mR (fun y hy=>Ge fun _ _=>rfl)
 ·have:=hc.di k e (he k e hk)
  cases e with
  |arr x deep=>exact this
  |part x dead=>exact this
  |box cs=>
   obtain⟨b,cur,e',g1,g2,g3,g4⟩:=this
   exact⟨b,cur,e',g1,g2,g3,g4.mR (fun y hy=>Ge fun _ _=>rfl)⟩
theorem alw{k:Key}(h:unnamed k σ=true):¬Names σ k:=by
 unfold unnamed at h
 simp only[cK,rh] at h
 rintro(⟨s,x,hs,hk⟩|⟨k',cs,he,x,hx,hk⟩)
 ·have:=h.1 _ (IB hs)
  simp only[ql,<-yi,rE] at this
  exact this hk
 ·have:=h.2 _ (CB he)
  simp only[ql,<-yi,tZ] at this
  exact this ⟨x,hx,tZ.1 (rE.2 hk)⟩
theorem cE.row(h:cE E pm F kv fp σ a w)(hc:fm E w F kv fp σ a){k0:Key}(AB:σ.bJ k0=none)(V9:¬Names σ k0)(at0:1024<=k0.2){ty:U.Ty}{d0:Bool}{v0:Value}(PH:∃ad,v0=.slice ad 0 0)(hn:τ.n=σ.n)
  (hg:∀s x,τ.get s=some x->σ.get s=some x\/∃y j,σ.get s=some (.v y)/\y.cs[j]? =some .e0/\x=.v ⟨y.agg,y.cs.set j (.ref k0 [])⟩/\∀vs,ly E w F kv fp (fun _=>false) y.cs vs->(if y.agg then a.tmps.getD s undef=.agg vs.toArray else vs=[a.tmps.getD s undef])->vs[j]? =some v0)
  (he:∀k e,τ.bJ k=some e->(k=k0/\e=.arr ⟨ty,[]⟩ d0)\/σ.bJ k=some e\/∃cs j,σ.bJ k=some (.box cs)/\cs[j]? =some .e0/\e=.box (cs.set j (.ref k0 []))/\∀b cur ety,kv k=.pointer (some ⟨b,0,none⟩)->w.heap[b]? =some (.cells cur ety (0,0))->cur.toList[j]? =some v0):
  ∃kv fp,cE E pm F kv fp τ a w/\fm E w F kv fp τ a:=by
 classical
 let kv':Key->Value:=fun k=>if k=k0 then v0 else kv k
 let fp':Key->List Nat:=fun k=>if k=k0 then[] else fp k
 have Ny:∀k,k≠k0->kv' k=kv k:=fun k hk=>if_neg hk
 have rM:∀k,k≠k0->fp' k=fp k:=fun k hk=>if_neg hk
 have adB:kv' k0=v0:=if_pos rfl
 have PZ:fp' k0=[]:=if_pos rfl
 have p9:∀k,Names σ k->pD w w kv kv' fp fp' (fun _=>false) (fun _=>false) k:=by
  intro k hk
  have:k≠k0:=fun e=>V9 (e▸hk)
  exact⟨Ny k this,.inr ⟨rfl,rM k this,fun _ _=>rfl⟩⟩
 have hF:∀b,F b->F b/\w.heap[b]? =w.heap[b]? :=fun b hb=>⟨hb,rfl⟩
 have PL:∀{cs:List (AC U)}{vs:List Value}{j:Nat},ly E w F kv fp (fun _=>false) cs vs->(∀x∈cs,∀k∈x.keys,Names σ k)->vs[j]? =some v0->ly E w F kv' fp' (fun _=>false) (cs.set j (.ref k0 [])) vs:=by
  intro cs vs j hd uk hj
  have AD:ly E w F kv' fp' (fun _=>false) cs vs:=hd.move (fun x hx k hk=>p9 k (uk x hx k hk)) hF
  refine⟨by simpa using hd.1,fun i x v hx hv=> ?_⟩
  rw[To] at hx
  split at hx
  ·rename_i Ej
   subst Ej
   split at hx
   ·cases hx
    rw[hv] at hj
    cases hj
    obtain⟨ad,rfl⟩:=PH
    exact⟨⟨rfl,trivial⟩,.inr (by simp only[RA];rw[adB];rfl)⟩
   ·cases hx
  ·exact AD.2 i x v hx hv
 have j0:fm E w F kv' fp' τ a:=by
  refine⟨fun s x hs=> ?_,fun k e hk=> ?_⟩
  ·rcases hg s x hs with g|⟨y,j,g1,g2,rfl,g4⟩
   ·exact(hc.bz s x g).move (fun k hk=>p9 k (.inl ⟨s,x,g,hk⟩)) hF
   ·obtain⟨vs,r1,r2⟩:=hc.bz s _ g1
    exact⟨vs,PL r1 (fun x hx k hk=> .inl ⟨s,_,g1,SV.mem_keys.2 ⟨x,hx,hk⟩⟩) (g4 vs r1 r2),r2⟩
  ·rcases he k e hk with⟨rfl,rfl⟩|g|⟨cs,j,g1,g2,rfl,g4⟩
   ·obtain⟨ad,rfl⟩:=PH
    exact .inl ⟨rfl,⟨ad,adB⟩,PZ⟩
   ·have eO:k≠k0:=fun e'=>by rw[e',AB] at g;cases g
    have:=hc.di k e g
    rw[Ny k eO,rM k eO]
    cases e with
    |arr x deep=>exact this
    |part x dead=>exact this
    |box cs=>
     obtain⟨b,cur,e',r1,r2,r3,r4⟩:=this
     exact⟨b,cur,e',r1,r2,r3,r4.move (fun x hx k' cO=>p9 k' (.inr ⟨k,cs,g,x,hx,cO⟩)) hF⟩
   ·have eO:k≠k0:=fun e'=>by rw[e',AB] at g1;cases g1
    obtain⟨b,cur,e',r1,r2,r3,r4⟩:=hc.di k _ g1
    rw[Ny k eO,rM k eO]
    exact⟨b,cur,e',r1,r2,r3,PL r4 (fun x hx k' cO=> .inr ⟨k,cs,g1,x,hx,cO⟩) (g4 b cur e' r1 r2)⟩
 have hold:∀k e,τ.bJ k=some e->k≠k0->∃e',σ.bJ k=some e':=by
  intro k e hk eO
  rcases he k e hk with⟨rfl,_⟩|g|⟨cs,j,g1,_⟩
  ·exact absurd rfl eO
  ·exact⟨_,g⟩
  ·exact⟨_,g1⟩
 refine⟨kv',fp',⟨by rw[hn];exact h.size,h.defers,fun s x hs=>(j0.bz s x hs).mR (fun y hy=>Ge fun _ _=>rfl),fun k e hk=> ?_,fun k k' e e' b eO h1 h2 hb=> ?_,fun k e hk=> ?_,fun k e b hk hb=> ?_,h.sZ,h.sY,h.upto,fun k v hp=> ?_,h.lay⟩,j0⟩
 ·have:=j0.di k e hk
  cases e with
  |arr x deep=>exact this
  |part x dead=>exact this
  |box cs=>
   obtain⟨b,cur,e',g1,g2,g3,g4⟩:=this
   exact⟨b,cur,e',g1,g2,g3,g4.mR (fun y hy=>Ge fun _ _=>rfl)⟩
 ·by_cases hk:k=k0
  ·rw[hk,PZ] at hb;cases hb
  ·by_cases cO:k'=k0
   ·rw[cO,PZ];exact LA
   ·obtain⟨e1,g1⟩:=hold k e h1 hk
    obtain⟨e2,g2⟩:=hold k' e' h2 cO
    rw[rM k hk] at hb
    rw[rM k' cO]
    exact h.apart k k' e1 e2 b eO g1 g2 hb
 ·by_cases cO:k=k0
  ·rw[cO,PZ];exact W4
  ·obtain⟨e1,g1⟩:=hold k e hk cO
   rw[rM k cO];exact h.nodup k e1 g1
 ·by_cases cO:k=k0
  ·rw[cO,PZ] at hb;cases hb
  ·obtain⟨e1,g1⟩:=hold k e hk cO
   rw[rM k cO] at hb;exact h.fK k e1 b g1 hb
 ·obtain⟨p1,p2,p3,p4⟩:=h.LV k v hp
  refine⟨p1,p2,by rw[hn];exact p3,?_⟩
  rw[Ny k (fun e=>by rw[e] at p2;omega)];exact p4
theorem cE.abk(h:cE E pm F kv fp σ a w)(hc:fm E w F kv fp σ a)(hn:τ.n=σ.n)
  (hg:∀s x,τ.get s=some x->σ.get s=some x\/∃y j ty,σ.get s=some (.v y)/\y.cs[j]? =some .e0/\x=.v ⟨y.agg,y.cs.set j (.c (.sl ty []))⟩)
  (he:∀k e,τ.bJ k=some e->σ.bJ k=some e\/∃cs j ty,σ.bJ k=some (.box cs)/\cs[j]? =some .e0/\e=.box (cs.set j (.c (.sl ty [])))):
  cE E pm F kv fp τ a w/\fm E w F kv fp τ a:=by
 have PL:∀{cs:List (AC U)}{vs:List Value}{j:Nat}{ty:U.Ty},ly E w F kv fp (fun _=>false) cs vs->cs[j]? =some .e0->ly E w F kv fp (fun _=>false) (cs.set j (.c (.sl ty []))) vs:=by
  intro cs vs j ty hd hj
  refine⟨by simpa using hd.1,fun i x v hx hv=> ?_⟩
  rw[To] at hx
  split at hx
  ·rename_i Ej
   subst Ej
   split at hx
   ·cases hx
    obtain⟨g1,g2⟩:=hd.2 j _ v hj hv
    refine⟨g1,.inr ?_⟩
    rcases g2 with g2|⟨ad,rfl⟩
    ·cases g2
    ·exact .nil false ty ad 0 (fun _=>rfl)
   ·cases hx
  ·exact hd.2 i x v hx hv
 have j0:fm E w F kv fp τ a:=by
  refine⟨fun s x hs=> ?_,fun k e hk=> ?_⟩
  ·rcases hg s x hs with g|⟨y,j,ty,g1,g2,rfl⟩
   ·exact hc.bz s x g
   ·obtain⟨vs,r1,r2⟩:=hc.bz s _ g1
    exact⟨vs,PL r1 g2,r2⟩
  ·rcases he k e hk with g|⟨cs,j,ty,g1,g2,rfl⟩
   ·exact hc.di k e g
   ·obtain⟨b,cur,e',r1,r2,r3,r4⟩:=hc.di k _ g1
    exact⟨b,cur,e',r1,r2,r3,PL r4 g2⟩
 have hold:∀k e,τ.bJ k=some e->∃e',σ.bJ k=some e':=by
  intro k e hk
  rcases he k e hk with g|⟨cs,j,ty,g1,_⟩
  ·exact⟨_,g⟩
  ·exact⟨_,g1⟩
 refine⟨⟨by rw[hn];exact h.size,h.defers,fun s x hs=>(j0.bz s x hs).mR (fun y hy=>Ge fun _ _=>rfl),fun k e hk=> ?_,fun k k' e e' b eO h1 h2 hb=> ?_,fun k e hk=> ?_,fun k e b hk hb=> ?_,h.sZ,h.sY,h.upto,fun k v hp=> ?_,h.lay⟩,j0⟩
 ·have:=j0.di k e hk
  cases e with
  |arr x deep=>exact this
  |part x dead=>exact this
  |box cs=>
   obtain⟨b,cur,e',g1,g2,g3,g4⟩:=this
   exact⟨b,cur,e',g1,g2,g3,g4.mR (fun y hy=>Ge fun _ _=>rfl)⟩
 ·obtain⟨e1,g1⟩:=hold k e h1
  obtain⟨e2,g2⟩:=hold k' e' h2
  exact h.apart k k' e1 e2 b eO g1 g2 hb
 ·obtain⟨e1,g1⟩:=hold k e hk
  exact h.nodup k e1 g1
 ·obtain⟨e1,g1⟩:=hold k e hk
  exact h.fK k e1 b g1 hb
 ·obtain⟨p1,p2,p3,p4⟩:=h.LV k v hp
  exact⟨p1,p2,by rw[hn];exact p3,p4⟩
theorem TZ{x:Option (AC U)}:Ni x=true↔x=some .e0:=by
 unfold Ni
 split
 ·simp
 ·rename_i h;simp only[wx,false_iff];exact fun e=>h e
theorem O2{β:Type}(k k':Key)(v:Option β)(l:List (Key×Option β)):eD ((k,v)::l) k'=if k=k' then v else eD l k':=by
 simp only[eD]
 by_cases h:k=k'
 ·rw[o6.2 h,if_pos h];rfl
 ·rw[KF.2 h,if_neg h];rfl
theorem KE{β:Type}(k k':Nat)(v:Option β)(l:List (Nat×Option β)):look ((k,v)::l) k'=if k=k' then v else look l k':=by
 simp only[look]
 by_cases h:k=k'
 ·rw[if_pos h,(by simpa using h:Nat.beq k k'=true)];rfl
 ·rw[if_neg h,(by rw[<-yi,Lx];exact h:Nat.beq k k'=false)];rfl
theorem Qu{x:AC U}{v:Value}(h:RD E w F kv fp (fun _=>false) x v)(hx:x=.e0):∃ad,v=.slice ad 0 0:=by
 subst hx
 exact cf h rfl
theorem amc{p:pR}{ty:U.Ty×Bool}(h:cE E pm F kv fp σ a w)(hc:fm E w F kv fp σ a):∃kv fp,cE E pm F kv fp (Na p ty σ) a w/\fm E w F kv fp (Na p ty σ) a:=by
 have same:∃kv fp,cE E pm F kv fp σ a w/\fm E w F kv fp σ a:=⟨kv,fp,h,hc⟩
 unfold Na
 rw[h_]
 split
 ·rename_i mP
  simp only[cK,S7,Option.isNone_iff_eq_none] at mP
  obtain⟨⟨c1,c2⟩,c3⟩:=mP
  have V8:=alw c2
  cases p with
  |slot s j=>
   simp only
   split
   ·rename_i x hx
    rw[h_]
    split
    ·rename_i om
     have om:=TZ.1 om
     obtain⟨vs,r1,r2⟩:=hc.bz s _ hx
     have gF:j<vs.length:=by
      rw[<-r1.1]
      rcases nV j x.cs.length with g|g
      ·exact g
      ·rw[nz g] at om;cases om
     have hvj:vs[j]? =some vs[j]:=fo gF
     refine h.row hc (τ:={σ with bz:=(s,some (.v ⟨x.agg,x.cs.set j (.ref (pR.slot s j).key [])⟩))::σ.bz,nU:=((pR.slot s j).key,some (.arr ⟨ty.1,[]⟩ ty.2))::σ.nU})
      (k0:=(pR.slot s j).key) c1 V8 c3 (ty:=ty.1) (d0:=ty.2) (v0:=vs[j]) (Qu (r1.2 j _ _ om hvj) rfl) rfl (fun s' x' j0=> ?_) (fun k e hk=> ?_)
     ·replace j0:=(KE _ _ _ _).symm.trans j0
      split at j0
      ·rename_i e;subst e
       cases j0
       refine .inr ⟨x,j,hx,om,rfl,fun uZ r1' TH=> ?_⟩
       have:uZ=vs:=by
        cases Tf:x.agg
        ·rw[Tf] at r2 TH;simp only[wx,if_false] at r2 TH;rw[r2,TH]
        ·rw[Tf] at r2 TH;simp only[if_true] at r2 TH
         rw[r2] at TH
         simpa using TH.symm
       rw[this];exact hvj
      ·exact .inl j0
     ·replace hk:=(O2 _ _ _ _).symm.trans hk
      split at hk
      ·rename_i e;cases hk;exact .inl ⟨e.symm,rfl⟩
      ·exact .inr (.inl hk)
    ·exact same
   ·exact same
  |box k1 j=>
   simp only
   split
   ·rename_i cs hx
    rw[h_]
    split
    ·rename_i om
     have om:=TZ.1 om
     obtain⟨b,cur,e',r1,r2,r3,r4⟩:=hc.di k1 _ hx
     have gF:j<cur.toList.length:=by
      rw[<-r4.1]
      rcases nV j cs.length with g|g
      ·exact g
      ·rw[nz g] at om;cases om
     have hvj:cur.toList[j]? =some cur.toList[j]:=fo gF
     refine h.row hc (τ:={σ with nU:=((pR.box k1 j).key,some (.arr ⟨ty.1,[]⟩ ty.2))::(k1,some (.box (cs.set j (.ref (pR.box k1 j).key []))))::σ.nU})
      (k0:=(pR.box k1 j).key) c1 V8 c3 (ty:=ty.1) (d0:=ty.2) (v0:=cur.toList[j]) (Qu (r4.2 j _ _ om hvj) rfl) rfl (fun s' x' j0=> .inl j0) (fun k e hk=> ?_)
     replace hk:=(O2 _ _ _ _).symm.trans hk
     split at hk
     ·rename_i e;cases hk;exact .inl ⟨e.symm,rfl⟩
     ·rw[O2] at hk
      split at hk
      ·rename_i e;cases hk
       subst e
       refine .inr (.inr ⟨cs,j,hx,om,rfl,fun b2 auh e2 g1 g2=> ?_⟩)
       rw[r1] at g1;cases g1
       rw[r2] at g2;cases g2
       exact hvj
      ·exact .inr (.inl hk)
    ·exact same
   ·exact same
 ·exact same
theorem ama{p:pR}{ty:U.Ty}(h:cE E pm F kv fp σ a w)(hc:fm E w F kv fp σ a):cE E pm F kv fp (M_ p ty σ) a w/\fm E w F kv fp (M_ p ty σ) a:=by
 have same:cE E pm F kv fp σ a w/\fm E w F kv fp σ a:=⟨h,hc⟩
 unfold M_
 cases p with
 |slot s j=>
  simp only
  split
  ·rename_i x hx
   rw[h_]
   split
   ·rename_i om
    have om:=TZ.1 om
    refine h.abk hc (τ:={σ with bz:=(s,some (.v ⟨x.agg,x.cs.set j (.c (.sl ty []))⟩))::σ.bz}) rfl (fun s' x' j0=> ?_) (fun k e hk=> .inl hk)
    replace j0:=(KE _ _ _ _).symm.trans j0
    split at j0
    ·rename_i e;subst e
     cases j0
     exact .inr ⟨x,j,ty,hx,om,rfl⟩
    ·exact .inl j0
   ·exact same
  ·exact same
 |box k1 j=>
  simp only
  split
  ·rename_i cs hx
   rw[h_]
   split
   ·rename_i om
    have om:=TZ.1 om
    refine h.abk hc (τ:={σ with nU:=(k1,some (.box (cs.set j (.c (.sl ty [])))))::σ.nU}) rfl (fun s' x' j0=> .inl j0) (fun k e hk=> ?_)
    replace hk:=(O2 _ _ _ _).symm.trans hk
    split at hk
    ·rename_i e;cases hk
     subst e
     exact .inr ⟨cs,j,ty,hx,om,rfl⟩
    ·exact .inl hk
   ·exact same
  ·exact same
theorem TT:∀{l:List (pR×U.Ty×Option Bool)}{σ:ah U},(∃kv fp,cE E pm F kv fp σ a w/\fm E w F kv fp σ a)->∃kv fp,cE E pm F kv fp (M' l σ) a w/\fm E w F kv fp (M' l σ) a
 |[],σ,h=>h
 |(p,ty,some d)::r,σ,⟨kv,fp,h,hc⟩=>TT (l:=r) (amc h hc)
 |(p,ty,none)::r,σ,⟨kv,fp,h,hc⟩=>TT (l:=r) ⟨kv,fp,ama h hc⟩
theorem amb{p:pR}{W:List Nat}(ty:U.Ty)(σ:ah U)(hW:∀s j,p=.slot s j->s∈W):ej W σ (M_ p ty σ):=by
 unfold M_
 cases p with
 |slot s j=>
  simp only
  split
  ·rename_i x hx
   rw[h_]
   split
   ·refine⟨rfl,fun s' v hs hg _=> ?_,fun s' p hs hg=> ?_⟩
    ·have:s≠s':=fun e=>hs (e▸hW s j rfl)
     exact(KE _ _ _ _).trans ((if_neg this).trans hg)
    ·have:s≠s':=fun e=>hs (e▸hW s j rfl)
     exact(KE _ _ _ _).trans ((if_neg this).trans hg)
   ·exact ej.refl _ _
  ·exact ej.refl _ _
 |box k1 j=>
  simp only
  split
  ·rename_i cs hx
   rw[h_]
   split
   ·exact⟨rfl,fun s' v hs hg _=>hg,fun s' p hs hg=>hg⟩
   ·exact ej.refl _ _
  ·exact ej.refl _ _
theorem amd{p:pR}{W:List Nat}(ty:U.Ty×Bool)(σ:ah U)(hW:∀s j,p=.slot s j->s∈W):ej W σ (Na p ty σ):=by
 unfold Na
 rw[h_]
 split
 ·cases p with
  |slot s j=>
   simp only
   split
   ·rename_i x hx
    rw[h_]
    split
    ·refine⟨rfl,fun s' v hs hg _=> ?_,fun s' p hs hg=> ?_⟩
     ·have:s≠s':=fun e=>hs (e▸hW s j rfl)
      exact(KE _ _ _ _).trans ((if_neg this).trans hg)
     ·have:s≠s':=fun e=>hs (e▸hW s j rfl)
      exact(KE _ _ _ _).trans ((if_neg this).trans hg)
    ·exact ej.refl _ _
   ·exact ej.refl _ _
  |box k j=>
   simp only
   split
   ·rw[h_]
    split
    ·exact⟨rfl,fun s v _ hg _=>hg,fun s p _ hg=>hg⟩
    ·exact ej.refl _ _
   ·exact ej.refl _ _
 ·exact ej.refl _ _
theorem acj{k0 k:Key}{e:iv U}(h:(p7 k0 σ).bJ k=some e):σ.bJ k=some e\/(k=k0/\∃x,σ.bJ k0=some (.arr x true)/\e=.part x fun _=>false):=by
 unfold p7 at h
 split at h
 ·rename_i x hx
  replace h:=(O2 _ _ _ _).symm.trans h
  split at h
  ·rename_i hk
   cases h
   exact .inr ⟨hk.symm,x,hx,rfl⟩
  ·exact .inl h
 ·exact .inl h
theorem aci(k0:Key)(σ:ah U):(p7 k0 σ).n=σ.n/\(p7 k0 σ).bz=σ.bz/\(p7 k0 σ).aK=σ.aK:=by
 unfold p7
 split
 ·exact⟨rfl,rfl,rfl⟩
 ·exact⟨rfl,rfl,rfl⟩
theorem al6(h:cE E pm F kv fp σ a w)(hc:fm E w F kv fp σ a)(k0:Key):cE E pm F kv fp (p7 k0 σ) a w/\fm E w F kv fp (p7 k0 σ) a:=by
 obtain⟨q1,q2,_⟩:=aci k0 σ
 have rL:∀s,(p7 k0 σ).get s=σ.get s:=fun s=>by unfold ah.get;rw[q2]
 have j0:fm E w F kv fp (p7 k0 σ) a:=by
  refine⟨fun s x hs=>hc.bz s x (by rw[<-rL];exact hs),fun k e hk=> ?_⟩
  rcases acj hk with hk|⟨rfl,x,hx,rfl⟩
  ·exact hc.di k e hk
  ·exact eW.part (hc.di _ _ hx)
 have hold:∀k e,(p7 k0 σ).bJ k=some e->∃e',σ.bJ k=some e':=by
  intro k e hk
  rcases acj hk with hk|⟨rfl,x,hx,rfl⟩
  ·exact⟨_,hk⟩
  ·exact⟨_,hx⟩
 refine⟨⟨by rw[q1];exact h.size,h.defers,fun s x hs=>(j0.bz s x hs).mR (fun y hy=>Ge fun _ _=>rfl),fun k e hk=> ?_,fun k k' e e' b eO h1 h2 hb=> ?_,fun k e hk=> ?_,fun k e b hk hb=> ?_,h.sZ,h.sY,h.upto,by rw[q1];exact h.LV,h.lay⟩,j0⟩
 ·have:=j0.di k e hk
  cases e with
  |arr x deep=>exact this
  |part x dead=>exact this
  |box cs=>
   obtain⟨b,cur,e',g1,g2,g3,g4⟩:=this
   exact⟨b,cur,e',g1,g2,g3,g4.mR (fun y hy=>Ge fun _ _=>rfl)⟩
 ·obtain⟨e1,g1⟩:=hold k e h1
  obtain⟨e2,g2⟩:=hold k' e' h2
  exact h.apart k k' e1 e2 b eO g1 g2 hb
 ·obtain⟨e1,g1⟩:=hold k e hk
  exact h.nodup k e1 g1
 ·obtain⟨e1,g1⟩:=hold k e hk
  exact h.fK k e1 b g1 hb
theorem XJ:∀{l:List Key}{σ:ah U},(∃kv fp,cE E pm F kv fp σ a w/\fm E w F kv fp σ a)->∃kv fp,cE E pm F kv fp (parts l σ) a w/\fm E w F kv fp (parts l σ) a
 |[],σ,h=>h
 |s::l,σ,⟨kv,fp,h,hc⟩=>by
  exact XJ (l:=l) (σ:=p7 s σ) ⟨kv,fp,al6 h hc _⟩
theorem XK(W:List Nat):∀(l:List Key)(σ:ah U),ej W σ (parts l σ)
 |[],σ=>ej.refl _ _
 |s::l,σ=>by
  refine ej.trans (τ:=p7 s σ) ?_ (XK W l _)
  obtain⟨q1,q2,_⟩:=aci s σ
  exact⟨q1,fun s v _ hg _=>by unfold ah.get at hg⊢;rw[q2];exact hg,fun s p _ hg=>by unfold ah.get at hg⊢;rw[q2];exact hg⟩
theorem XG:∀{l:List Nat}{σ:ah U},(∃kv fp,cE E pm F kv fp σ a w)->∃kv fp,cE E pm F kv fp (tm l σ) a w
 |[],σ,h=>h
 |d::l,σ,h=>XG (l:=l) (ab0 h d)
theorem XH:∀(l W:List Nat)(σ:ah U),ej W σ (tm l σ)
 |[],W,σ=>ej.refl _ _
 |d::l,W,σ=>(ab1 d W σ).trans (XH l W _)
theorem TU{W:List Nat}:∀(l:List (pR×U.Ty×Option Bool))(σ:ah U),(∀p∈l,∀s j,p.1=pR.slot s j->s∈W)->ej W σ (M' l σ)
 |[],σ,_=>ej.refl _ _
 |(p,ty,some d)::r,σ,h=>(amd (ty,d) σ (h _ gj)).trans (TU r _ fun q hq=>h q (cA _ hq))
 |(p,ty,none)::r,σ,h=>(amb ty σ (h _ gj)).trans (TU r _ fun q hq=>h q (cA _ hq))
theorem XP{β:Type}(l r:List (Nat×Option β))(s:Nat):look (l++r) s=if l.any (fun p=>Nat.beq p.1 s) then look l s else look r s:=by
 induction l with
 |nil=>simp
 |cons p l ih=>
  obtain⟨t,v⟩:=p
  simp only[zex,look,Tk]
  rcases Bool.eq_false_or_eq_true (Nat.beq t s) with h|h
  ·simp[h]
  ·simp only[h,cond_false,FT];exact ih
theorem acA{A:bY U}{wr:List Nat}{x:A.X}{s:Nat}{v:SV U}(h:(lM A wr σ x).get s=some v):
  (s,v)∈A.bz x\/(s∉wr/\s∉A.names/\σ.get s=some v/\((∃y,v=.v y/\(SV.v y).keys=[])\/∃p,v=.fn p)):=by
 unfold ah.get lM at h
 simp only at h
 rw[XP] at h
 split at h
 ·left
  have:=IB h
  obtain⟨⟨s',v'⟩,hp,e⟩:=lB.1 this
  simp only[ox,gx] at e
  obtain⟨rfl,rfl⟩:=e
  exact hp
 ·right
  have hm:=wA.1 (IB h)
  have h1:=O0 Iw.1 hm.1
  rw[Ix (by simp)] at h1
  have h2:=hm.2
  simp only[cK,ql,<-yi,tZ,Lx] at h2
  obtain⟨⟨h3,h4⟩,h5⟩:=h2
  refine⟨fun e=>h3 ⟨s,e,rfl⟩,fun e=>h4 ⟨s,e,rfl⟩,h1,?_⟩
  cases v with
  |v y=>exact .inl ⟨y,rfl,by simpa using h5⟩
  |vf xs=>cases h5
  |fn p=>exact .inr ⟨p,rfl⟩
  |FE g xs=>cases h5
theorem amS{A:bY U}{wr:List Nat}{x:A.X}{s:Nat}{y:AV U}(hw:s∉wr)(hn:s∉A.names)(hg:σ.get s=some (.v y))(hk:(SV.v y).keys=[]):
  (lM A wr σ x).get s=some (.v y):=by
 unfold ah.get lM
 simp only
 rw[XP,if_neg]
 ·refine O0 (TS Iw.1) (wA.2 ⟨IB (by rw[Ix (by simp)];exact hg),?_⟩)
  simp only[cK,ql,<-yi,tZ,Lx]
  exact⟨⟨fun⟨t,h1,h2⟩=>hw (h2▸h1),fun⟨t,h1,h2⟩=>hn (h2▸h1)⟩,by simp[hk]⟩
 ·simp only[On,tZ,Function.comp,Lx]
  rintro⟨p,hp,rfl⟩
  exact hn (A.inn x p hp)
theorem amT{A:bY U}{wr:List Nat}{x:A.X}{s:Nat}{p:List (DA U)->Option Value}(hw:s∉wr)(hn:s∉A.names)(hg:σ.get s=some (.fn p)):
  (lM A wr σ x).get s=some (.fn p):=by
 unfold ah.get lM
 simp only
 rw[XP,if_neg]
 ·refine O0 (TS Iw.1) (wA.2 ⟨IB (by rw[Ix (by simp)];exact hg),?_⟩)
  simp only[cK,ql,<-yi,tZ,Lx]
  exact⟨⟨fun⟨t,h1,h2⟩=>hw (h2▸h1),fun⟨t,h1,h2⟩=>hn (h2▸h1)⟩,by simp⟩
 ·simp only[On,tZ,Function.comp,Lx]
  rintro⟨p,hp,rfl⟩
  exact hn (A.inn x p hp)
theorem acC{A:bY U}{wr:List Nat}{x:A.X}{k:Key}{e:iv U}(h:(lM A wr σ x).bJ k=some e):(k,e)∈A.di x:=by
 have:=CB (show eD ((A.di x).map fun(k,e)=>(k,some e)) k=some e from h)
 obtain⟨⟨k',e'⟩,hp,e⟩:=lB.1 this
 simp only[ox,gx] at e
 obtain⟨rfl,rfl⟩:=e
 exact hp
theorem al'(h:cE E pm F kv fp σ a w){q:Operand}{v:Value}(hb:yE σ q=some v):a.eval q=v:=by
 unfold yE EU at hb
 split at hb
 ·rename_i sc hsc;exact pH (CA h hsc) hb
 ·cases hb
variable{ov:Nat->Option (bY U)}
theorem TJ(hE:E.Good)(c:Code):∀{F:Nat->Prop}{kv:Key->Value}{fp:Key->List Nat}{σ:ah U}{a:Act}{w:World}{Q:Out U->Prop}{Q':Exit->Act->World->Prop},
  cE E pm F kv fp σ a w->AM.wp E ov c σ Q->
  (∀o,Q o->ej (gD ov c) σ o.st->∀F kv fp a' w',cE E pm F kv fp o.st a' w'->Q' o.ex a' w')->c.wp E.P Q' a w:=by
 induction c with
 |skip=>
  intro F kv fp σ a w Q Q' h hw hq
  exact wp_skip (hq _ hw (ej.refl _ _) F kv fp a w h)
 |ret=>
  intro F kv fp σ a w Q Q' h hw hq
  exact wp_ret (hq _ hw (ej.refl _ _) F kv fp a w h)
 |exit id=>
  intro F kv fp σ a w Q Q' h hw hq
  exact wp_exit (hq _ hw (ej.refl _ _) F kv fp a w h)
 |region id ops draw=>
  intro F kv fp σ a w Q Q' h hw hq
  exact al2 hE h (show wD E ops.toList draw σ _ from hw) (fun lz F kv fp a' w' hk iN hs=>hq (.normal lz) hk iN F kv fp a' w' hs)
 |seq x y ihx ihy=>
  intro F kv fp σ a w Q Q' h hw hq
  simp only[AM.wp] at hw
  refine wp_seq (ihx h hw (fun o ho hk F kv fp a' w' hs=> ?_))
  have yV:ej (gD ov (.seq x y)) σ o.st:=hk.mono fun s hs=>qC _ hs
  cases o with
  |normal lz=>
   refine ihy hs ho (fun o' PO cO F kv fp a' w' j0=>hq o' PO (yV.trans (cO.mono fun s hs=>pS _ hs)) F kv fp a' w' j0)
  |exit id lz=>exact hq _ ho yV F kv fp a' w' hs
  |ret lz=>exact hq _ ho yV F kv fp a' w' hs
 |cond q x y ihx ihy=>
  intro F kv fp σ a w Q Q' h hw hq
  simp only[AM.wp] at hw
  split at hw
  ·rename_i b hb
   have he:=al' h hb
   refine wp_cond he ?_
   cases b with
   |true=>exact ihx h hw (fun o ho hk=>hq o ho (hk.mono fun s hs=>qC _ hs))
   |false=>exact ihy h hw (fun o ho hk=>hq o ho (hk.mono fun s hs=>pS _ hs))
  ·exact hw.elim
 |block id x ih=>
  intro F kv fp σ a w Q Q' h hw hq
  simp only[AM.wp] at hw
  refine wp_block (ih h hw (fun o ho hk F kv fp a' w' hs=> ?_))
  cases o with
  |normal lz=>exact hq (.normal lz) ho hk F kv fp a' w' hs
  |exit id' lz=>
   simp only at ho
   rw[h_] at ho
   by_cases hid:id'=id
   ·subst hid
    rw[if_pos (by simp)] at ho
    have:=hq (.normal lz) ho hk F kv fp a' w' hs
    simpa[Exit.inBlock,Out.ex] using this
   ·rw[if_neg (by simpa using hid)] at ho
    have:=hq (.exit id' lz) ho hk F kv fp a' w' hs
    simpa[Exit.inBlock,Out.ex,hid] using this
  |ret lz=>exact hq (.ret lz) ho hk F kv fp a' w' hs
 |loop x ih=>
  intro F kv fp σ a w Q Q' h hw hq
  simp only[AM.wp] at hw
  split at hw
  ·rename_i A hA
   obtain⟨x0,⟨hI0,YD⟩,an7,aol⟩:=A.law _ _ hw
   have PJ:gD ov (.loop x)=gD ov x++A.names:=by simp only[gD,hA]
   have start:∀{lz:ah U}{F kv fp a' w'}(z:A.X),cE E pm F kv fp lz a' w'->lz.n=σ.n->
     (∀s y,s∉gD ov x->s∉A.names->σ.get s=some (.v y)->(SV.v y).keys=[]->lz.get s=some (.v y))->
     (∀s p,s∉gD ov x->s∉A.names->σ.get s=some (.fn p)->lz.get s=some (.fn p))->
     (∀p∈A.bz z,(Es A lz).get p.1=some p.2)->(∀p∈A.di z,(Es A lz).bJ p.1=some p.2)->∃F kv fp,cE E pm F kv fp (lM A (gD ov x) σ z) a' w':=by
    intro lz F kv fp a' w' z hs hn iN GJ h1 h2
    obtain⟨kvS,fpS,hS⟩:=XG (l:=A.names) ⟨kv,fp,F_ hs (fun _=>false)⟩
    obtain⟨kvB,fpB,hB⟩:=TL (l:=boxes (tm A.names (jz lz))) ⟨kvS,fpS,hS⟩
    obtain⟨fS9,Zm,hS1,hS2⟩:=abU (l:=A.VP) (F_ hB (fun _=>false)) (OX hB _)
    obtain⟨F3,kv3,fp3,g1,g2⟩:=Ub (l:=A.Wn) (T_ (l:=A.Wm) ⟨fS9,kvB,Zm,hS1,hS2⟩)
    obtain⟨kv2,fp2,s1,s2⟩:=XJ (l:=A.VQ) (TT (l:=A.nil) ⟨kv3,fp3,g1,g2⟩)
    have YL:ej A.names (jz lz) (Es A lz):=(((((((XH A.names A.names (jz lz)).trans (TM _ _ _)).trans (Iz _ _ _)).trans (abV _ _ _)).trans (Ua _ _ _)).trans (Uc _ _ _)).trans (TU (W:=A.names) A.nil _ A.nin)).trans (XK _ _ _)
    refine⟨F3,kv2,fp2,s1.less (τ:=lM A (gD ov x) σ z) (hn.symm.trans YL.n.symm) s2 (fun s v hv=> ?_) (fun k e he=> ?_)⟩
    ·rcases acA hv with hm|⟨g1,g2,g3,⟨y,rfl,g5⟩|⟨p,rfl⟩⟩
     ·exact h1 _ hm
     rotate_left
     ·exact YL.fn s p g2 ((Iz _ [] _).fn s p (by simp) (GJ s p g1 g2 g3))
     ·exact YL.get s y g2 ((Iz _ [] _).get s y (by simp) (iN s y g1 g2 g3 g5) g5) g5
    ·exact h2 _ (acC he)
   obtain⟨F0,I2,U6,hs0⟩:=start x0 h rfl (fun s y _ _ hg _=>hg) (fun s p _ _ hg=>hg) an7 aol
   refine wp_loop_ghost (fun n a w=>∃y:A.X,A.I x0 y/\A.μ y=n/\∃F kv fp,cE E pm F kv fp (lM A (gD ov x) σ y) a w) (A.μ x0)
    ⟨x0,hI0,rfl,F0,I2,U6,hs0⟩ ?_
   rintro n a1 w1 ⟨y,hI,rfl,F1,kv1,fp1,hs1⟩
   refine ih hs1 (A.QP _ YD y hI) (fun o ho hk F kv fp a' w' hs=> ?_)
   have iN:∀s v,s∉gD ov x->s∉A.names->σ.get s=some (.v v)->(SV.v v).keys=[]->o.st.get s=some (.v v):=
    fun s v g1 g2 g3 g4=>hk.get s v g1 (amS g1 g2 g3 g4) g4
   have GJ:∀s p,s∉gD ov x->s∉A.names->σ.get s=some (.fn p)->o.st.get s=some (.fn p):=
    fun s p g1 g2 g3=>hk.fn s p g1 (amT g1 g2 g3)
   have C_:ej (gD ov (.loop x)) σ o.st:=by
    refine⟨hk.n,fun s v g1 g3 g4=> ?_,fun s p g1 g3=> ?_⟩
    ·rw[PJ,jr,not_or] at g1
     exact iN s v g1.1 g1.2 g3 g4
    ·rw[PJ,jr,not_or] at g1
     exact GJ s p g1.1 g1.2 g3
   cases o with
   |normal lz=>
    obtain⟨z,⟨hIz,gF⟩,hsl,P6⟩:=A.law _ _ ho
    obtain⟨F2,kv2,fp2,Yz⟩:=start z hs hk.n iN GJ hsl P6
    exact⟨A.μ z,gF,z,hIz,rfl,F2,kv2,fp2,Yz⟩
   |exit id lz=>exact hq _ ho C_ F kv fp a' w' hs
   |ret lz=>exact hq _ ho C_ F kv fp a' w' hs
  ·exact hw.elim
 |_=>
  intros
  rename_i hw _
  exact hw.elim
def ad1(A:bY U)(Q:Out U->Prop):Out U->Prop
 | .normal σ=>A.un (Es A σ) fun z=>A.I z z
 |o=>Q o
def WpS(E:Env U)(c:Code)(τ:ah U)(Q:Out U->Prop):Prop:=
 ∀{pm:Pm}{F:Nat->Prop}{kv:Key->Value}{fp:Key->List Nat}{a:Act}{w:World}{Q':Exit->Act->World->Prop},
  cE E pm F kv fp τ a w->(∀o,Q o->∀F kv fp a' w',cE E pm F kv fp o.st a' w'->Q' o.ex a' w')->c.wp E.P Q' a w
theorem Kl(hE:E.Good){c:Code}{τ:ah U}{Q:Out U->Prop}(h:AM.wp E ov c τ Q):WpS E c τ Q:=fun hs hq=>TJ hE c hs h (fun o ho _=>hq o ho)
theorem anq{A:bY U}{n:Nat}{lz:ah U}(hn:lz.n=n)(hs:cE E pm F kv fp lz a w){z:A.X}(h1:∀p∈A.bz z,(Es A lz).get p.1=some p.2)(h2:∀p∈A.di z,(Es A lz).bJ p.1=some p.2):
  ∃F kv fp,cE E pm F kv fp (lM A [] ⟨n,[],[],[]⟩ z) a w:=by
 obtain⟨kvS,fpS,hS⟩:=XG (l:=A.names) ⟨kv,fp,F_ hs (fun _=>false)⟩
 obtain⟨kvB,fpB,hB⟩:=TL (l:=boxes (tm A.names (jz lz))) ⟨kvS,fpS,hS⟩
 obtain⟨fS9,Zm,hS1,hS2⟩:=abU (l:=A.VP) (F_ hB (fun _=>false)) (OX hB _)
 obtain⟨F3,kv3,fp3,g1,g2⟩:=Ub (l:=A.Wn) (T_ (l:=A.Wm) ⟨fS9,kvB,Zm,hS1,hS2⟩)
 obtain⟨kv2,fp2,s1,s2⟩:=XJ (l:=A.VQ) (TT (l:=A.nil) ⟨kv3,fp3,g1,g2⟩)
 have YL:ej A.names (jz lz) (Es A lz):=(((((((XH A.names A.names (jz lz)).trans (TM _ _ _)).trans (Iz _ _ _)).trans (abV _ _ _)).trans (Ua _ _ _)).trans (Uc _ _ _)).trans (TU (W:=A.names) A.nil _ A.nin)).trans (XK _ _ _)
 refine⟨F3,kv2,fp2,s1.less (τ:=lM A [] ⟨n,[],[],[]⟩ z) (hn.symm.trans YL.n.symm) s2 (fun s v hv=> ?_) (fun k e he=> ?_)⟩
 ·rcases acA hv with hm|⟨_,_,g3,_⟩
  ·exact h1 _ hm
  ·cases g3
 ·exact h2 _ (acC he)
theorem anr(hE:E.Good){r n:Nat}{A:bY U}{Q:Out U->Prop}:∀{c:Code}{p:Code×Code}{σ:ah U},NU r c=some p->σ.n=n->
  AM.wp E ov p.1 σ (ad1 A Q)->(∀y,A.I y y->AM.wp E ov p.2 (lM A [] ⟨n,[],[],[]⟩ y) Q)->WpS E c σ Q:=by
 intro c
 induction c with
 |seq x y ihx ihy=>
  intro p σ hc hn h1 h2 pm F kv fp a w Q' hs hq
  simp only[NU,h_] at hc
  split at hc
  ·cases hc
   refine wp_seq (TJ hE x hs h1 (fun o ho hk F kv fp a' w' j0=> ?_))
   cases o with
   |normal lz=>
    obtain⟨z,hI,hsl,P6⟩:=A.law _ _ (show A.un (Es A lz) (fun z=>A.I z z) from ho)
    obtain⟨F3,kv3,fp3,g⟩:=anq (hk.n.trans hn) j0 hsl P6
    exact TJ hE y g (h2 z hI) (fun o' PO _=>hq o' PO)
   |exit id lz=>exact hq _ ho F kv fp a' w' j0
   |ret lz=>exact hq _ ho F kv fp a' w' j0
  ·split at hc
   ·rename_i q hb
    cases hc
    simp only[AM.wp] at h1
    refine wp_seq (TJ hE x hs h1 (fun o ho hk F kv fp a' w' j0=> ?_))
    cases o with
    |normal lz=>exact ihy hb (hk.n.trans hn) ho h2 j0 hq
    |exit id lz=>exact hq _ ho F kv fp a' w' j0
    |ret lz=>exact hq _ ho F kv fp a' w' j0
   ·cases hc
 |_=>intro p σ hc;cases hc
end AM
