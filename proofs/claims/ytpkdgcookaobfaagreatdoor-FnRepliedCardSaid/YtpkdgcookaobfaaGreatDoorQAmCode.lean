/- THE ABSTRACT MACHINE: code: its weakest precondition is the model's. -/
import Derived.Test.YtpkdgcookaobfaaGreatDoorQAmWp
namespace AM
set_option linter.unusedVariables false
open Go
variable{U:lz}{E:Env U}{pm:Pm}
variable{F F':Nat->Prop}{kv kv':Key->Value}{fp fp':Key->List Nat}{σ τ:ak U}{a:Act}{w w':World}
def Out.st:Out U->ak U
 | .normal σ=>σ
 | .exit _ σ=>σ
 | .ret σ=>σ
def Out.ex:Out U->Exit
 | .normal _=> .normal
 | .exit id _=> .exit id
 | .ret _=> .ret
theorem cM.less(h:cM E pm F kv fp σ a w)(hn:τ.n=σ.n)(hc:fq E w F kv fp σ a)
  (hg:∀s x,τ.get s=some x->σ.get s=some x) (he:∀k e,τ.bO k=some e->σ.bO k=some e):cM E pm F kv fp τ a w:=by
 refine⟨by rw[hn];exact h.size,h.defers,fun s x hs=> ?_,fun k e hk=> ?_,fun k k' e e' b eZ h1 h2=>h.apart k k' e e' b eZ (he k e h1) (he k' e' h2),
  fun k e hk=>h.nodup k e (he k e hk),fun k e b hk=>h.fQ k e b (he k e hk),h.uk,h.uj,h.upto,by rw[hn];exact h.N0,h.lay⟩
 ·exact(hc.bM s x (hg s x hs)).ny (fun y hy=>HS fun _ _=>rfl)
 ·have:=hc.dH k e (he k e hk)
  cases e with
  |arr x deep=>exact this
  |part x dead=>exact this
  |box cs=>
   obtain⟨b,cur,e',g1,g2,g3,g4⟩:=this
   exact⟨b,cur,e',g1,g2,g3,g4.ny (fun y hy=>HS fun _ _=>rfl)⟩
theorem akw{k:Key}(h:unnamed k σ=true):¬Names σ k:=by
 unfold unnamed at h
 simp only[cJ,sC] at h
 rintro(⟨s,x,hs,hk⟩|⟨k',cs,he,x,hx,hk⟩)
 ·have:=h.1 _ (KD hs)
  simp only[ru,<-wu,sR] at this
  exact this hk
 ·have:=h.2 _ (F4 he)
  simp only[ru,<-wu,vm] at this
  exact this ⟨x,hx,vm.1 (sR.2 hk)⟩
theorem cM.row(h:cM E pm F kv fp σ a w)(hc:fq E w F kv fp σ a){k0:Key}(BY:σ.bO k0=none)(Xc:¬Names σ k0)(ap6:1024<=k0.2){ty:U.Ty}{d0:Bool}{v0:Value}(Sc:∃ad,v0=.slice ad 0 0)(hn:τ.n=σ.n)
  (hg:∀s x,τ.get s=some x->σ.get s=some x\/∃y j,σ.get s=some (.v y)/\y.cs[j]? =some .e0/\x=.v ⟨y.agg,y.cs.set j (.ref k0 [])⟩/\∀vs,mc E w F kv fp (fun _=>false) y.cs vs->(if y.agg then a.tmps.getD s undef=.agg vs.toArray else vs=[a.tmps.getD s undef])->vs[j]? =some v0)
  (he:∀k e,τ.bO k=some e->(k=k0/\e=.arr ⟨ty,[]⟩ d0)\/σ.bO k=some e\/∃cs j,σ.bO k=some (.box cs)/\cs[j]? =some .e0/\e=.box (cs.set j (.ref k0 []))/\∀b cur ety,kv k=.pointer (some ⟨b,0,none⟩)->w.heap[b]? =some (.cells cur ety (0,0))->cur.toList[j]? =some v0):
  ∃kv fp,cM E pm F kv fp τ a w/\fq E w F kv fp τ a:=by
 classical
 let kv':Key->Value:=fun k=>if k=k0 then v0 else kv k
 let fp':Key->List Nat:=fun k=>if k=k0 then[] else fp k
 have PW:∀k,k≠k0->kv' k=kv k:=fun k hk=>if_neg hk
 have sZ:∀k,k≠k0->fp' k=fp k:=fun k hk=>if_neg hk
 have ael:kv' k0=v0:=if_pos rfl
 have Sw:fp' k0=[]:=if_pos rfl
 have qR:∀k,Names σ k->qi w w kv kv' fp fp' (fun _=>false) (fun _=>false) k:=by
  intro k hk
  have:k≠k0:=fun e=>Xc (e▸hk)
  exact⟨PW k this,.inr ⟨rfl,sZ k this,fun _ _=>rfl⟩⟩
 have hF:∀b,F b->F b/\w.heap[b]? =w.heap[b]? :=fun b hb=>⟨hb,rfl⟩
 have Sh:∀{cs:List (AC U)}{vs:List Value}{j:Nat},mc E w F kv fp (fun _=>false) cs vs->(∀x∈cs,∀k∈x.keys,Names σ k)->vs[j]? =some v0->mc E w F kv' fp' (fun _=>false) (cs.set j (.ref k0 [])) vs:=by
  intro cs vs j hd vy hj
  have BZ:mc E w F kv' fp' (fun _=>false) cs vs:=hd.move (fun x hx k hk=>qR k (vy x hx k hk)) hF
  refine⟨by simpa using hd.1,fun i x v hx hv=> ?_⟩
  rw[WR] at hx
  split at hx
  ·rename_i FQ
   subst FQ
   split at hx
   ·cases hx
    rw[hv] at hj
    cases hj
    obtain⟨ad,rfl⟩:=Sc
    exact⟨⟨rfl,trivial⟩,.inr (by simp only[RA];rw[ael];rfl)⟩
   ·cases hx
  ·exact BZ.2 i x v hx hv
 have kl:fq E w F kv' fp' τ a:=by
  refine⟨fun s x hs=> ?_,fun k e hk=> ?_⟩
  ·rcases hg s x hs with g|⟨y,j,g1,g2,rfl,g4⟩
   ·exact(hc.bM s x g).move (fun k hk=>qR k (.inl ⟨s,x,g,hk⟩)) hF
   ·obtain⟨vs,r1,r2⟩:=hc.bM s _ g1
    exact⟨vs,Sh r1 (fun x hx k hk=> .inl ⟨s,_,g1,SV.mem_keys.2 ⟨x,hx,hk⟩⟩) (g4 vs r1 r2),r2⟩
  ·rcases he k e hk with⟨rfl,rfl⟩|g|⟨cs,j,g1,g2,rfl,g4⟩
   ·obtain⟨ad,rfl⟩:=Sc
    exact .inl ⟨rfl,⟨ad,ael⟩,Sw⟩
   ·have eZ:k≠k0:=fun e'=>by rw[e',BY] at g;cases g
    have:=hc.dH k e g
    rw[PW k eZ,sZ k eZ]
    cases e with
    |arr x deep=>exact this
    |part x dead=>exact this
    |box cs=>
     obtain⟨b,cur,e',r1,r2,r3,r4⟩:=this
     exact⟨b,cur,e',r1,r2,r3,r4.move (fun x hx k' cU=>qR k' (.inr ⟨k,cs,g,x,hx,cU⟩)) hF⟩
   ·have eZ:k≠k0:=fun e'=>by rw[e',BY] at g1;cases g1
    obtain⟨b,cur,e',r1,r2,r3,r4⟩:=hc.dH k _ g1
    rw[PW k eZ,sZ k eZ]
    exact⟨b,cur,e',r1,r2,r3,Sh r4 (fun x hx k' cU=> .inr ⟨k,cs,g1,x,hx,cU⟩) (g4 b cur e' r1 r2)⟩
 have hold:∀k e,τ.bO k=some e->k≠k0->∃e',σ.bO k=some e':=by
  intro k e hk eZ
  rcases he k e hk with⟨rfl,_⟩|g|⟨cs,j,g1,_⟩
  ·exact absurd rfl eZ
  ·exact⟨_,g⟩
  ·exact⟨_,g1⟩
 refine⟨kv',fp',⟨by rw[hn];exact h.size,h.defers,fun s x hs=>(kl.bM s x hs).ny (fun y hy=>HS fun _ _=>rfl),fun k e hk=> ?_,fun k k' e e' b eZ h1 h2 hb=> ?_,fun k e hk=> ?_,fun k e b hk hb=> ?_,h.uk,h.uj,h.upto,fun k v hp=> ?_,h.lay⟩,kl⟩
 ·have:=kl.dH k e hk
  cases e with
  |arr x deep=>exact this
  |part x dead=>exact this
  |box cs=>
   obtain⟨b,cur,e',g1,g2,g3,g4⟩:=this
   exact⟨b,cur,e',g1,g2,g3,g4.ny (fun y hy=>HS fun _ _=>rfl)⟩
 ·by_cases hk:k=k0
  ·rw[hk,Sw] at hb;cases hb
  ·by_cases cU:k'=k0
   ·rw[cU,Sw];exact NG
   ·obtain⟨e1,g1⟩:=hold k e h1 hk
    obtain⟨e2,g2⟩:=hold k' e' h2 cU
    rw[sZ k hk] at hb
    rw[sZ k' cU]
    exact h.apart k k' e1 e2 b eZ g1 g2 hb
 ·by_cases cU:k=k0
  ·rw[cU,Sw];exact Ze
  ·obtain⟨e1,g1⟩:=hold k e hk cU
   rw[sZ k cU];exact h.nodup k e1 g1
 ·by_cases cU:k=k0
  ·rw[cU,Sw] at hb;cases hb
  ·obtain⟨e1,g1⟩:=hold k e hk cU
   rw[sZ k cU] at hb;exact h.fQ k e1 b g1 hb
 ·obtain⟨p1,p2,p3,p4⟩:=h.N0 k v hp
  refine⟨p1,p2,by rw[hn];exact p3,?_⟩
  rw[PW k (fun e=>by rw[e] at p2;omega)];exact p4
theorem cM.ab9(h:cM E pm F kv fp σ a w)(hc:fq E w F kv fp σ a)(hn:τ.n=σ.n)
  (hg:∀s x,τ.get s=some x->σ.get s=some x\/∃y j ty,σ.get s=some (.v y)/\y.cs[j]? =some .e0/\x=.v ⟨y.agg,y.cs.set j (.c (.sl ty []))⟩)
  (he:∀k e,τ.bO k=some e->σ.bO k=some e\/∃cs j ty,σ.bO k=some (.box cs)/\cs[j]? =some .e0/\e=.box (cs.set j (.c (.sl ty [])))):
  cM E pm F kv fp τ a w/\fq E w F kv fp τ a:=by
 have Sh:∀{cs:List (AC U)}{vs:List Value}{j:Nat}{ty:U.Ty},mc E w F kv fp (fun _=>false) cs vs->cs[j]? =some .e0->mc E w F kv fp (fun _=>false) (cs.set j (.c (.sl ty []))) vs:=by
  intro cs vs j ty hd hj
  refine⟨by simpa using hd.1,fun i x v hx hv=> ?_⟩
  rw[WR] at hx
  split at hx
  ·rename_i FQ
   subst FQ
   split at hx
   ·cases hx
    obtain⟨g1,g2⟩:=hd.2 j _ v hj hv
    refine⟨g1,.inr ?_⟩
    rcases g2 with g2|⟨ad,rfl⟩
    ·cases g2
    ·exact .nil false ty ad 0 (fun _=>rfl)
   ·cases hx
  ·exact hd.2 i x v hx hv
 have kl:fq E w F kv fp τ a:=by
  refine⟨fun s x hs=> ?_,fun k e hk=> ?_⟩
  ·rcases hg s x hs with g|⟨y,j,ty,g1,g2,rfl⟩
   ·exact hc.bM s x g
   ·obtain⟨vs,r1,r2⟩:=hc.bM s _ g1
    exact⟨vs,Sh r1 g2,r2⟩
  ·rcases he k e hk with g|⟨cs,j,ty,g1,g2,rfl⟩
   ·exact hc.dH k e g
   ·obtain⟨b,cur,e',r1,r2,r3,r4⟩:=hc.dH k _ g1
    exact⟨b,cur,e',r1,r2,r3,Sh r4 g2⟩
 have hold:∀k e,τ.bO k=some e->∃e',σ.bO k=some e':=by
  intro k e hk
  rcases he k e hk with g|⟨cs,j,ty,g1,_⟩
  ·exact⟨_,g⟩
  ·exact⟨_,g1⟩
 refine⟨⟨by rw[hn];exact h.size,h.defers,fun s x hs=>(kl.bM s x hs).ny (fun y hy=>HS fun _ _=>rfl),fun k e hk=> ?_,fun k k' e e' b eZ h1 h2 hb=> ?_,fun k e hk=> ?_,fun k e b hk hb=> ?_,h.uk,h.uj,h.upto,fun k v hp=> ?_,h.lay⟩,kl⟩
 ·have:=kl.dH k e hk
  cases e with
  |arr x deep=>exact this
  |part x dead=>exact this
  |box cs=>
   obtain⟨b,cur,e',g1,g2,g3,g4⟩:=this
   exact⟨b,cur,e',g1,g2,g3,g4.ny (fun y hy=>HS fun _ _=>rfl)⟩
 ·obtain⟨e1,g1⟩:=hold k e h1
  obtain⟨e2,g2⟩:=hold k' e' h2
  exact h.apart k k' e1 e2 b eZ g1 g2 hb
 ·obtain⟨e1,g1⟩:=hold k e hk
  exact h.nodup k e1 g1
 ·obtain⟨e1,g1⟩:=hold k e hk
  exact h.fQ k e1 b g1 hb
 ·obtain⟨p1,p2,p3,p4⟩:=h.N0 k v hp
  exact⟨p1,p2,by rw[hn];exact p3,p4⟩
theorem U_{x:Option (AC U)}:PI x=true↔x=some .e0:=by
 unfold PI
 split
 ·simp
 ·rename_i h;simp only[xv,false_iff];exact fun e=>h e
theorem Rn{β:Type}(k k':Key)(v:Option β)(l:List (Key×Option β)):eJ ((k,v)::l) k'=if k=k' then v else eJ l k':=by
 simp only[eJ]
 by_cases h:k=k'
 ·rw[pK.2 h,if_pos h];rfl
 ·rw[MP.2 h,if_neg h];rfl
theorem MO{β:Type}(k k':Nat)(v:Option β)(l:List (Nat×Option β)):look ((k,v)::l) k'=if k=k' then v else look l k':=by
 simp only[look]
 by_cases h:k=k'
 ·rw[if_pos h,(by simpa using h:Nat.beq k k'=true)];rfl
 ·rw[if_neg h,(by rw[<-wu,J5];exact h:Nat.beq k k'=false)];rfl
theorem S7{x:AC U}{v:Value}(h:RD E w F kv fp (fun _=>false) x v)(hx:x=.e0):∃ad,v=.slice ad 0 0:=by
 subst hx
 exact cw h rfl
theorem ald{p:qz}{ty:U.Ty×Bool}(h:cM E pm F kv fp σ a w)(hc:fq E w F kv fp σ a):∃kv fp,cM E pm F kv fp (PB p ty σ) a w/\fq E w F kv fp (PB p ty σ) a:=by
 have same:∃kv fp,cM E pm F kv fp σ a w/\fq E w F kv fp σ a:=⟨kv,fp,h,hc⟩
 unfold PB
 rw[im]
 split
 ·rename_i nt
  simp only[cJ,QJ,Option.isNone_iff_eq_none] at nt
  obtain⟨⟨c1,c2⟩,c3⟩:=nt
  have Xb:=akw c2
  cases p with
  |slot s j=>
   simp only
   split
   ·rename_i x hx
    rw[im]
    split
    ·rename_i nK
     have nK:=U_.1 nK
     obtain⟨vs,r1,r2⟩:=hc.bM s _ hx
     have gI:j<vs.length:=by
      rw[<-r1.1]
      rcases pe j x.cs.length with g|g
      ·exact g
      ·rw[od g] at nK;cases nK
     have hvj:vs[j]? =some vs[j]:=fw gI
     refine h.row hc (τ:={σ with bM:=(s,some (.v ⟨x.agg,x.cs.set j (.ref (qz.slot s j).key [])⟩))::σ.bM,oR:=((qz.slot s j).key,some (.arr ⟨ty.1,[]⟩ ty.2))::σ.oR})
      (k0:=(qz.slot s j).key) c1 Xb c3 (ty:=ty.1) (d0:=ty.2) (v0:=vs[j]) (S7 (r1.2 j _ _ nK hvj) rfl) rfl (fun s' x' kl=> ?_) (fun k e hk=> ?_)
     ·replace kl:=(MO _ _ _ _).symm.trans kl
      split at kl
      ·rename_i e;subst e
       cases kl
       refine .inr ⟨x,j,hx,nK,rfl,fun wj r1' UQ=> ?_⟩
       have:wj=vs:=by
        cases Uv:x.agg
        ·rw[Uv] at r2 UQ;simp only[xv,if_false] at r2 UQ;rw[r2,UQ]
        ·rw[Uv] at r2 UQ;simp only[if_true] at r2 UQ
         rw[r2] at UQ
         simpa using UQ.symm
       rw[this];exact hvj
      ·exact .inl kl
     ·replace hk:=(Rn _ _ _ _).symm.trans hk
      split at hk
      ·rename_i e;cases hk;exact .inl ⟨e.symm,rfl⟩
      ·exact .inr (.inl hk)
    ·exact same
   ·exact same
  |box k1 j=>
   simp only
   split
   ·rename_i cs hx
    rw[im]
    split
    ·rename_i nK
     have nK:=U_.1 nK
     obtain⟨b,cur,e',r1,r2,r3,r4⟩:=hc.dH k1 _ hx
     have gI:j<cur.toList.length:=by
      rw[<-r4.1]
      rcases pe j cs.length with g|g
      ·exact g
      ·rw[od g] at nK;cases nK
     have hvj:cur.toList[j]? =some cur.toList[j]:=fw gI
     refine h.row hc (τ:={σ with oR:=((qz.box k1 j).key,some (.arr ⟨ty.1,[]⟩ ty.2))::(k1,some (.box (cs.set j (.ref (qz.box k1 j).key []))))::σ.oR})
      (k0:=(qz.box k1 j).key) c1 Xb c3 (ty:=ty.1) (d0:=ty.2) (v0:=cur.toList[j]) (S7 (r4.2 j _ _ nK hvj) rfl) rfl (fun s' x' kl=> .inl kl) (fun k e hk=> ?_)
     replace hk:=(Rn _ _ _ _).symm.trans hk
     split at hk
     ·rename_i e;cases hk;exact .inl ⟨e.symm,rfl⟩
     ·rw[Rn] at hk
      split at hk
      ·rename_i e;cases hk
       subst e
       refine .inr (.inr ⟨cs,j,hx,nK,rfl,fun b2 aqe e2 g1 g2=> ?_⟩)
       rw[r1] at g1;cases g1
       rw[r2] at g2;cases g2
       exact hvj
      ·exact .inr (.inl hk)
    ·exact same
   ·exact same
 ·exact same
theorem alb{p:qz}{ty:U.Ty}(h:cM E pm F kv fp σ a w)(hc:fq E w F kv fp σ a):cM E pm F kv fp (PA p ty σ) a w/\fq E w F kv fp (PA p ty σ) a:=by
 have same:cM E pm F kv fp σ a w/\fq E w F kv fp σ a:=⟨h,hc⟩
 unfold PA
 cases p with
 |slot s j=>
  simp only
  split
  ·rename_i x hx
   rw[im]
   split
   ·rename_i nK
    have nK:=U_.1 nK
    refine h.ab9 hc (τ:={σ with bM:=(s,some (.v ⟨x.agg,x.cs.set j (.c (.sl ty []))⟩))::σ.bM}) rfl (fun s' x' kl=> ?_) (fun k e hk=> .inl hk)
    replace kl:=(MO _ _ _ _).symm.trans kl
    split at kl
    ·rename_i e;subst e
     cases kl
     exact .inr ⟨x,j,ty,hx,nK,rfl⟩
    ·exact .inl kl
   ·exact same
  ·exact same
 |box k1 j=>
  simp only
  split
  ·rename_i cs hx
   rw[im]
   split
   ·rename_i nK
    have nK:=U_.1 nK
    refine h.ab9 hc (τ:={σ with oR:=(k1,some (.box (cs.set j (.c (.sl ty [])))))::σ.oR}) rfl (fun s' x' kl=> .inl kl) (fun k e hk=> ?_)
    replace hk:=(Rn _ _ _ _).symm.trans hk
    split at hk
    ·rename_i e;cases hk
     subst e
     exact .inr ⟨cs,j,ty,hx,nK,rfl⟩
    ·exact .inl hk
   ·exact same
  ·exact same
theorem U4:∀{l:List (qz×U.Ty×Option Bool)}{σ:ak U},(∃kv fp,cM E pm F kv fp σ a w/\fq E w F kv fp σ a)->∃kv fp,cM E pm F kv fp (Pz l σ) a w/\fq E w F kv fp (Pz l σ) a
 |[],σ,h=>h
 |(p,ty,some d)::r,σ,⟨kv,fp,h,hc⟩=>U4 (l:=r) (ald h hc)
 |(p,ty,none)::r,σ,⟨kv,fp,h,hc⟩=>U4 (l:=r) ⟨kv,fp,alb h hc⟩
theorem alc{p:qz}{W:List Nat}(ty:U.Ty)(σ:ak U)(hW:∀s j,p=.slot s j->s∈W):eD W σ (PA p ty σ):=by
 unfold PA
 cases p with
 |slot s j=>
  simp only
  split
  ·rename_i x hx
   rw[im]
   split
   ·refine⟨rfl,fun s' v hs hg _=> ?_,fun s' p hs hg=> ?_⟩
    ·have:s≠s':=fun e=>hs (e▸hW s j rfl)
     exact(MO _ _ _ _).trans ((if_neg this).trans hg)
    ·have:s≠s':=fun e=>hs (e▸hW s j rfl)
     exact(MO _ _ _ _).trans ((if_neg this).trans hg)
   ·exact eD.refl _ _
  ·exact eD.refl _ _
 |box k1 j=>
  simp only
  split
  ·rename_i cs hx
   rw[im]
   split
   ·exact⟨rfl,fun s' v hs hg _=>hg,fun s' p hs hg=>hg⟩
   ·exact eD.refl _ _
  ·exact eD.refl _ _
theorem ale{p:qz}{W:List Nat}(ty:U.Ty×Bool)(σ:ak U)(hW:∀s j,p=.slot s j->s∈W):eD W σ (PB p ty σ):=by
 unfold PB
 rw[im]
 split
 ·cases p with
  |slot s j=>
   simp only
   split
   ·rename_i x hx
    rw[im]
    split
    ·refine⟨rfl,fun s' v hs hg _=> ?_,fun s' p hs hg=> ?_⟩
     ·have:s≠s':=fun e=>hs (e▸hW s j rfl)
      exact(MO _ _ _ _).trans ((if_neg this).trans hg)
     ·have:s≠s':=fun e=>hs (e▸hW s j rfl)
      exact(MO _ _ _ _).trans ((if_neg this).trans hg)
    ·exact eD.refl _ _
   ·exact eD.refl _ _
  |box k j=>
   simp only
   split
   ·rw[im]
    split
    ·exact⟨rfl,fun s v _ hg _=>hg,fun s p _ hg=>hg⟩
    ·exact eD.refl _ _
   ·exact eD.refl _ _
 ·exact eD.refl _ _
theorem ac9{k0 k:Key}{e:iN U}(h:(qP k0 σ).bO k=some e):σ.bO k=some e\/(k=k0/\∃x,σ.bO k0=some (.arr x true)/\e=.part x fun _=>false):=by
 unfold qP at h
 split at h
 ·rename_i x hx
  replace h:=(Rn _ _ _ _).symm.trans h
  split at h
  ·rename_i hk
   cases h
   exact .inr ⟨hk.symm,x,hx,rfl⟩
  ·exact .inl h
 ·exact .inl h
theorem ac8(k0:Key)(σ:ak U):(qP k0 σ).n=σ.n/\(qP k0 σ).bM=σ.bM/\(qP k0 σ).aT=σ.aT:=by
 unfold qP
 split
 ·exact⟨rfl,rfl,rfl⟩
 ·exact⟨rfl,rfl,rfl⟩
theorem ak7(h:cM E pm F kv fp σ a w)(hc:fq E w F kv fp σ a)(k0:Key):cM E pm F kv fp (qP k0 σ) a w/\fq E w F kv fp (qP k0 σ) a:=by
 obtain⟨q1,q2,_⟩:=ac8 k0 σ
 have sY:∀s,(qP k0 σ).get s=σ.get s:=fun s=>by unfold ak.get;rw[q2]
 have kl:fq E w F kv fp (qP k0 σ) a:=by
  refine⟨fun s x hs=>hc.bM s x (by rw[<-sY];exact hs),fun k e hk=> ?_⟩
  rcases ac9 hk with hk|⟨rfl,x,hx,rfl⟩
  ·exact hc.dH k e hk
  ·exact e7.part (hc.dH _ _ hx)
 have hold:∀k e,(qP k0 σ).bO k=some e->∃e',σ.bO k=some e':=by
  intro k e hk
  rcases ac9 hk with hk|⟨rfl,x,hx,rfl⟩
  ·exact⟨_,hk⟩
  ·exact⟨_,hx⟩
 refine⟨⟨by rw[q1];exact h.size,h.defers,fun s x hs=>(kl.bM s x hs).ny (fun y hy=>HS fun _ _=>rfl),fun k e hk=> ?_,fun k k' e e' b eZ h1 h2 hb=> ?_,fun k e hk=> ?_,fun k e b hk hb=> ?_,h.uk,h.uj,h.upto,by rw[q1];exact h.N0,h.lay⟩,kl⟩
 ·have:=kl.dH k e hk
  cases e with
  |arr x deep=>exact this
  |part x dead=>exact this
  |box cs=>
   obtain⟨b,cur,e',g1,g2,g3,g4⟩:=this
   exact⟨b,cur,e',g1,g2,g3,g4.ny (fun y hy=>HS fun _ _=>rfl)⟩
 ·obtain⟨e1,g1⟩:=hold k e h1
  obtain⟨e2,g2⟩:=hold k' e' h2
  exact h.apart k k' e1 e2 b eZ g1 g2 hb
 ·obtain⟨e1,g1⟩:=hold k e hk
  exact h.nodup k e1 g1
 ·obtain⟨e1,g1⟩:=hold k e hk
  exact h.fQ k e1 b g1 hb
theorem Z1:∀{l:List Key}{σ:ak U},(∃kv fp,cM E pm F kv fp σ a w/\fq E w F kv fp σ a)->∃kv fp,cM E pm F kv fp (parts l σ) a w/\fq E w F kv fp (parts l σ) a
 |[],σ,h=>h
 |s::l,σ,⟨kv,fp,h,hc⟩=>by
  exact Z1 (l:=l) (σ:=qP s σ) ⟨kv,fp,ak7 h hc _⟩
theorem Z2(W:List Nat):∀(l:List Key)(σ:ak U),eD W σ (parts l σ)
 |[],σ=>eD.refl _ _
 |s::l,σ=>by
  refine eD.trans (τ:=qP s σ) ?_ (Z2 W l _)
  obtain⟨q1,q2,_⟩:=ac8 s σ
  exact⟨q1,fun s v _ hg _=>by unfold ak.get at hg⊢;rw[q2];exact hg,fun s p _ hg=>by unfold ak.get at hg⊢;rw[q2];exact hg⟩
theorem ZY:∀{l:List Nat}{σ:ak U},(∃kv fp,cM E pm F kv fp σ a w)->∃kv fp,cM E pm F kv fp (uG l σ) a w
 |[],σ,h=>h
 |d::l,σ,h=>ZY (l:=l) (acQ h d)
theorem ZZ:∀(l W:List Nat)(σ:ak U),eD W σ (uG l σ)
 |[],W,σ=>eD.refl _ _
 |d::l,W,σ=>(acR d W σ).trans (ZZ l W _)
theorem U5{W:List Nat}:∀(l:List (qz×U.Ty×Option Bool))(σ:ak U),(∀p∈l,∀s j,p.1=qz.slot s j->s∈W)->eD W σ (Pz l σ)
 |[],σ,_=>eD.refl _ _
 |(p,ty,some d)::r,σ,h=>(ale (ty,d) σ (h _ iy)).trans (U5 r _ fun q hq=>h q (fA _ hq))
 |(p,ty,none)::r,σ,h=>(alc ty σ (h _ iy)).trans (U5 r _ fun q hq=>h q (fA _ hq))
theorem Z7{β:Type}(l r:List (Nat×Option β))(s:Nat):look (l++r) s=if l.any (fun p=>Nat.beq p.1 s) then look l s else look r s:=by
 induction l with
 |nil=>simp
 |cons p l ih=>
  obtain⟨t,v⟩:=p
  simp only[zex,look,UA]
  rcases Bool.eq_false_or_eq_true (Nat.beq t s) with h|h
  ·simp[h]
  ·simp only[h,cond_false,Gk];exact ih
theorem adn{A:ul U}{wr:List Nat}{x:A.X}{s:Nat}{v:SV U}(h:(mr A wr σ x).get s=some v):
  (s,v)∈A.bM x\/(s∉wr/\s∉A.names/\σ.get s=some v/\((∃y,v=.v y/\(SV.v y).keys=[])\/∃p,v=.fn p)):=by
 unfold ak.get mr at h
 simp only at h
 rw[Z7] at h
 split at h
 ·left
  have:=KD h
  obtain⟨⟨s',v'⟩,hp,e⟩:=mf.1 this
  simp only[pq,gA] at e
  obtain⟨rfl,rfl⟩:=e
  exact hp
 ·right
  have hm:=zA.1 (KD h)
  have h1:=Rl Ky.1 hm.1
  rw[Kz (by simp)] at h1
  have h2:=hm.2
  simp only[cJ,ru,<-wu,vm,J5] at h2
  obtain⟨⟨h3,h4⟩,h5⟩:=h2
  refine⟨fun e=>h3 ⟨s,e,rfl⟩,fun e=>h4 ⟨s,e,rfl⟩,h1,?_⟩
  cases v with
  |v y=>exact .inl ⟨y,rfl,by simpa using h5⟩
  |wv xs=>cases h5
  |fn p=>exact .inr ⟨p,rfl⟩
  |Hk g xs=>cases h5
theorem alV{A:ul U}{wr:List Nat}{x:A.X}{s:Nat}{y:AV U}(hw:s∉wr)(hn:s∉A.names)(hg:σ.get s=some (.v y))(hk:(SV.v y).keys=[]):
  (mr A wr σ x).get s=some (.v y):=by
 unfold ak.get mr
 simp only
 rw[Z7,if_neg]
 ·refine Rl (U3 Ky.1) (zA.2 ⟨KD (by rw[Kz (by simp)];exact hg),?_⟩)
  simp only[cJ,ru,<-wu,vm,J5]
  exact⟨⟨fun⟨t,h1,h2⟩=>hw (h2▸h1),fun⟨t,h1,h2⟩=>hn (h2▸h1)⟩,by simp[hk]⟩
 ·simp only[QN,vm,Function.comp,J5]
  rintro⟨p,hp,rfl⟩
  exact hn (A.inn x p hp)
theorem alW{A:ul U}{wr:List Nat}{x:A.X}{s:Nat}{p:List (DA U)->Option Value}(hw:s∉wr)(hn:s∉A.names)(hg:σ.get s=some (.fn p)):
  (mr A wr σ x).get s=some (.fn p):=by
 unfold ak.get mr
 simp only
 rw[Z7,if_neg]
 ·refine Rl (U3 Ky.1) (zA.2 ⟨KD (by rw[Kz (by simp)];exact hg),?_⟩)
  simp only[cJ,ru,<-wu,vm,J5]
  exact⟨⟨fun⟨t,h1,h2⟩=>hw (h2▸h1),fun⟨t,h1,h2⟩=>hn (h2▸h1)⟩,by simp⟩
 ·simp only[QN,vm,Function.comp,J5]
  rintro⟨p,hp,rfl⟩
  exact hn (A.inn x p hp)
theorem ado{A:ul U}{wr:List Nat}{x:A.X}{k:Key}{e:iN U}(h:(mr A wr σ x).bO k=some e):(k,e)∈A.dH x:=by
 have:=F4 (show eJ ((A.dH x).map fun(k,e)=>(k,some e)) k=some e from h)
 obtain⟨⟨k',e'⟩,hp,e⟩:=mf.1 this
 simp only[pq,gA] at e
 obtain⟨rfl,rfl⟩:=e
 exact hp
theorem ak_(h:cM E pm F kv fp σ a w){q:Operand}{v:Value}(hb:zP σ q=some v):a.eval q=v:=by
 unfold zP Gu at hb
 split at hb
 ·rename_i sc hsc;exact qp (Eh h hsc) hb
 ·cases hb
variable{oG:Nat->Option (ul U)}
theorem UR(hE:E.Good)(c:Code):∀{F:Nat->Prop}{kv:Key->Value}{fp:Key->List Nat}{σ:ak U}{a:Act}{w:World}{Q:Out U->Prop}{Q':Exit->Act->World->Prop},
  cM E pm F kv fp σ a w->AM.wp E oG c σ Q->
  (∀o,Q o->eD (gH oG c) σ o.st->∀F kv fp a' w',cM E pm F kv fp o.st a' w'->Q' o.ex a' w')->c.wp E.P Q' a w:=by
 induction c with
 |skip=>
  intro F kv fp σ a w Q Q' h hw hq
  exact wp_skip (hq _ hw (eD.refl _ _) F kv fp a w h)
 |ret=>
  intro F kv fp σ a w Q Q' h hw hq
  exact wp_ret (hq _ hw (eD.refl _ _) F kv fp a w h)
 |exit id=>
  intro F kv fp σ a w Q Q' h hw hq
  exact wp_exit (hq _ hw (eD.refl _ _) F kv fp a w h)
 |region id ops draw=>
  intro F kv fp σ a w Q Q' h hw hq
  exact ak2 hE h (show xB E ops.toList draw σ _ from hw) (fun me F kv fp a' w' hk iX hs=>hq (.normal me) hk iX F kv fp a' w' hs)
 |seq x y ihx ihy=>
  intro F kv fp σ a w Q Q' h hw hq
  simp only[AM.wp] at hw
  refine wp_seq (ihx h hw (fun o ho hk F kv fp a' w' hs=> ?_))
  have Aa:eD (gH oG (.seq x y)) σ o.st:=hk.mono fun s hs=>sD _ hs
  cases o with
  |normal me=>
   refine ihy hs ho (fun o' Sk cU F kv fp a' w' kl=>hq o' Sk (Aa.trans (cU.mono fun s hs=>rv _ hs)) F kv fp a' w' kl)
  |exit id me=>exact hq _ ho Aa F kv fp a' w' hs
  |ret me=>exact hq _ ho Aa F kv fp a' w' hs
 |cond q x y ihx ihy=>
  intro F kv fp σ a w Q Q' h hw hq
  simp only[AM.wp] at hw
  split at hw
  ·rename_i b hb
   have he:=ak_ h hb
   refine wp_cond he ?_
   cases b with
   |true=>exact ihx h hw (fun o ho hk=>hq o ho (hk.mono fun s hs=>sD _ hs))
   |false=>exact ihy h hw (fun o ho hk=>hq o ho (hk.mono fun s hs=>rv _ hs))
  ·exact hw.elim
 |block id x ih=>
  intro F kv fp σ a w Q Q' h hw hq
  simp only[AM.wp] at hw
  refine wp_block (ih h hw (fun o ho hk F kv fp a' w' hs=> ?_))
  cases o with
  |normal me=>exact hq (.normal me) ho hk F kv fp a' w' hs
  |exit id' me=>
   simp only at ho
   rw[im] at ho
   by_cases hid:id'=id
   ·subst hid
    rw[if_pos (by simp)] at ho
    have:=hq (.normal me) ho hk F kv fp a' w' hs
    simpa[Exit.inBlock,Out.ex] using this
   ·rw[if_neg (by simpa using hid)] at ho
    have:=hq (.exit id' me) ho hk F kv fp a' w' hs
    simpa[Exit.inBlock,Out.ex,hid] using this
  |ret me=>exact hq (.ret me) ho hk F kv fp a' w' hs
 |loop x ih=>
  intro F kv fp σ a w Q Q' h hw hq
  simp only[AM.wp] at hw
  split at hw
  ·rename_i A hA
   obtain⟨x0,⟨hI0,aaI⟩,am5,anl⟩:=A.law _ _ hw
   have Se:gH oG (.loop x)=gH oG x++A.names:=by simp only[gH,hA]
   have start:∀{me:ak U}{F kv fp a' w'}(z:A.X),cM E pm F kv fp me a' w'->me.n=σ.n->
     (∀s y,s∉gH oG x->s∉A.names->σ.get s=some (.v y)->(SV.v y).keys=[]->me.get s=some (.v y))->
     (∀s p,s∉gH oG x->s∉A.names->σ.get s=some (.fn p)->me.get s=some (.fn p))->
     (∀p∈A.bM z,(F6 A me).get p.1=some p.2)->(∀p∈A.dH z,(F6 A me).bO p.1=some p.2)->∃F kv fp,cM E pm F kv fp (mr A (gH oG x) σ z) a' w':=by
    intro me F kv fp a' w' z hs hn iX Ik h1 h2
    obtain⟨kvS,fpS,hS⟩:=ZY (l:=A.names) ⟨kv,fp,HN hs (fun _=>false)⟩
    obtain⟨kvB,fpB,hB⟩:=UW (l:=boxes (uG A.names (jH me))) ⟨kvS,fpS,hS⟩
    obtain⟨FZ,abu,hS1,hS2⟩:=acJ (l:=A.shk) (HN hB (fun _=>false)) (Rj hB _)
    obtain⟨F3,kv3,fp3,g1,g2⟩:=Vd (l:=A.frk) (Vb (l:=A.frz) ⟨FZ,kvB,abu,hS1,hS2⟩)
    obtain⟨kv2,fp2,s1,s2⟩:=Z1 (l:=A.prt) (U4 (l:=A.nil) ⟨kv3,fp3,g1,g2⟩)
    have hnk:eD A.names (jH me) (F6 A me):=(((((((ZZ A.names A.names (jH me)).trans (UX _ _ _)).trans (KB _ _ _)).trans (acL _ _ _)).trans (Vc _ _ _)).trans (Ve _ _ _)).trans (U5 (W:=A.names) A.nil _ A.nin)).trans (Z2 _ _ _)
    refine⟨F3,kv2,fp2,s1.less (τ:=mr A (gH oG x) σ z) (hn.symm.trans hnk.n.symm) s2 (fun s v hv=> ?_) (fun k e he=> ?_)⟩
    ·rcases adn hv with hm|⟨g1,g2,g3,⟨y,rfl,g5⟩|⟨p,rfl⟩⟩
     ·exact h1 _ hm
     rotate_left
     ·exact hnk.fn s p g2 ((KB _ [] _).fn s p (by simp) (Ik s p g1 g2 g3))
     ·exact hnk.get s y g2 ((KB _ [] _).get s y (by simp) (iX s y g1 g2 g3 g5) g5) g5
    ·exact h2 _ (ado he)
   obtain⟨F0,K3,Wb,hs0⟩:=start x0 h rfl (fun s y _ _ hg _=>hg) (fun s p _ _ hg=>hg) am5 anl
   refine wp_loop_ghost (fun n a w=>∃y:A.X,A.I x0 y/\A.μ y=n/\∃F kv fp,cM E pm F kv fp (mr A (gH oG x) σ y) a w) (A.μ x0)
    ⟨x0,hI0,rfl,F0,K3,Wb,hs0⟩ ?_
   rintro n a1 w1 ⟨y,hI,rfl,F1,kv1,fp1,hs1⟩
   refine ih hs1 (A.aeN _ aaI y hI) (fun o ho hk F kv fp a' w' hs=> ?_)
   have iX:∀s v,s∉gH oG x->s∉A.names->σ.get s=some (.v v)->(SV.v v).keys=[]->o.st.get s=some (.v v):=
    fun s v g1 g2 g3 g4=>hk.get s v g1 (alV g1 g2 g3 g4) g4
   have Ik:∀s p,s∉gH oG x->s∉A.names->σ.get s=some (.fn p)->o.st.get s=some (.fn p):=
    fun s p g1 g2 g3=>hk.fn s p g1 (alW g1 g2 g3)
   have EN:eD (gH oG (.loop x)) σ o.st:=by
    refine⟨hk.n,fun s v g1 g3 g4=> ?_,fun s p g1 g3=> ?_⟩
    ·rw[Se,jC,not_or] at g1
     exact iX s v g1.1 g1.2 g3 g4
    ·rw[Se,jC,not_or] at g1
     exact Ik s p g1.1 g1.2 g3
   cases o with
   |normal me=>
    obtain⟨z,⟨hIz,gI⟩,hsl,SA⟩:=A.law _ _ ho
    obtain⟨F2,kv2,fp2,hs2⟩:=start z hs hk.n iX Ik hsl SA
    exact⟨A.μ z,gI,z,hIz,rfl,F2,kv2,fp2,hs2⟩
   |exit id me=>exact hq _ ho EN F kv fp a' w' hs
   |ret me=>exact hq _ ho EN F kv fp a' w' hs
  ·exact hw.elim
 |_=>
  intros
  rename_i hw _
  exact hw.elim
def aeJ(A:ul U)(Q:Out U->Prop):Out U->Prop
 | .normal σ=>A.un (F6 A σ) fun z=>A.I z z
 |o=>Q o
def WpS(E:Env U)(c:Code)(τ:ak U)(Q:Out U->Prop):Prop:=
 ∀{pm:Pm}{F:Nat->Prop}{kv:Key->Value}{fp:Key->List Nat}{a:Act}{w:World}{Q':Exit->Act->World->Prop},
  cM E pm F kv fp τ a w->(∀o,Q o->∀F kv fp a' w',cM E pm F kv fp o.st a' w'->Q' o.ex a' w')->c.wp E.P Q' a w
theorem Mv(hE:E.Good){c:Code}{τ:ak U}{Q:Out U->Prop}(h:AM.wp E oG c τ Q):WpS E c τ Q:=fun hs hq=>UR hE c hs h (fun o ho _=>hq o ho)
theorem amr{A:ul U}{n:Nat}{me:ak U}(hn:me.n=n)(hs:cM E pm F kv fp me a w){z:A.X}(h1:∀p∈A.bM z,(F6 A me).get p.1=some p.2)(h2:∀p∈A.dH z,(F6 A me).bO p.1=some p.2):
  ∃F kv fp,cM E pm F kv fp (mr A [] ⟨n,[],[],[]⟩ z) a w:=by
 obtain⟨kvS,fpS,hS⟩:=ZY (l:=A.names) ⟨kv,fp,HN hs (fun _=>false)⟩
 obtain⟨kvB,fpB,hB⟩:=UW (l:=boxes (uG A.names (jH me))) ⟨kvS,fpS,hS⟩
 obtain⟨FZ,abu,hS1,hS2⟩:=acJ (l:=A.shk) (HN hB (fun _=>false)) (Rj hB _)
 obtain⟨F3,kv3,fp3,g1,g2⟩:=Vd (l:=A.frk) (Vb (l:=A.frz) ⟨FZ,kvB,abu,hS1,hS2⟩)
 obtain⟨kv2,fp2,s1,s2⟩:=Z1 (l:=A.prt) (U4 (l:=A.nil) ⟨kv3,fp3,g1,g2⟩)
 have hnk:eD A.names (jH me) (F6 A me):=(((((((ZZ A.names A.names (jH me)).trans (UX _ _ _)).trans (KB _ _ _)).trans (acL _ _ _)).trans (Vc _ _ _)).trans (Ve _ _ _)).trans (U5 (W:=A.names) A.nil _ A.nin)).trans (Z2 _ _ _)
 refine⟨F3,kv2,fp2,s1.less (τ:=mr A [] ⟨n,[],[],[]⟩ z) (hn.symm.trans hnk.n.symm) s2 (fun s v hv=> ?_) (fun k e he=> ?_)⟩
 ·rcases adn hv with hm|⟨_,_,g3,_⟩
  ·exact h1 _ hm
  ·cases g3
 ·exact h2 _ (ado he)
theorem ams(hE:E.Good){r n:Nat}{A:ul U}{Q:Out U->Prop}:∀{c:Code}{p:Code×Code}{σ:ak U},Qh r c=some p->σ.n=n->
  AM.wp E oG p.1 σ (aeJ A Q)->(∀y,A.I y y->AM.wp E oG p.2 (mr A [] ⟨n,[],[],[]⟩ y) Q)->WpS E c σ Q:=by
 intro c
 induction c with
 |seq x y ihx ihy=>
  intro p σ hc hn h1 h2 pm F kv fp a w Q' hs hq
  simp only[Qh,im] at hc
  split at hc
  ·cases hc
   refine wp_seq (UR hE x hs h1 (fun o ho hk F kv fp a' w' kl=> ?_))
   cases o with
   |normal me=>
    obtain⟨z,hI,hsl,SA⟩:=A.law _ _ (show A.un (F6 A me) (fun z=>A.I z z) from ho)
    obtain⟨F3,kv3,fp3,g⟩:=amr (hk.n.trans hn) kl hsl SA
    exact UR hE y g (h2 z hI) (fun o' Sk _=>hq o' Sk)
   |exit id me=>exact hq _ ho F kv fp a' w' kl
   |ret me=>exact hq _ ho F kv fp a' w' kl
  ·split at hc
   ·rename_i q hb
    cases hc
    simp only[AM.wp] at h1
    refine wp_seq (UR hE x hs h1 (fun o ho hk F kv fp a' w' kl=> ?_))
    cases o with
    |normal me=>exact ihy hb (hk.n.trans hn) ho h2 kl hq
    |exit id me=>exact hq _ ho F kv fp a' w' kl
    |ret me=>exact hq _ ho F kv fp a' w' kl
   ·cases hc
 |_=>intro p σ hc;cases hc
end AM
