/- THE ABSTRACT MACHINE: code: its weakest precondition is the model's. -/
import Derived.Test.YtceiiofmelhipaaGreatAmWp
namespace AM
set_option linter.unusedVariables false
open Go
variable{U:Uni}{E:Env U}{pm:Pm}
variable{F F':Nat→Prop}{kv kv':Key→Value}{fp fp':Key→List Nat}{σ τ:AState U}{a:Act}{w w':World}
def Out.st:Out U→AState U
 | .normal σ=>σ
 | .exit _ σ=>σ
 | .ret σ=>σ
def Out.ex:Out U→Exit
 | .normal _=> .normal
 | .exit id _=> .exit id
 | .ret _=> .ret
theorem Sim.less(h:Sim E pm F kv fp σ a w)(hn:τ.n=σ.n)(hc:Strong E w F kv fp σ a)
  (hg:∀s x,τ.get s=some x→σ.get s=some x) (he:∀k e,τ.ent k=some e→σ.ent k=some e):Sim E pm F kv fp τ a w:=by
 refine⟨by rw[hn];exact h.size,h.defers,fun s x hs=> ?_,fun k e hk=> ?_,fun k k' e e' b hne h1 h2=>h.apart k k' e e' b hne (he k e h1) (he k' e' h2),
  fun k e hk=>h.nodup k e (he k e hk),fun k e b hk=>h.mine k e b (he k e hk),h.Flt,h.Fsub,h.upto,by rw[hn];exact h.pin,h.lay⟩
 ·exact(hc.slots s x (hg s x hs)).clean (fun y hy=>qabs fun _ _=>rfl)
 ·have:=hc.ents k e (he k e hk)
  cases e with
  |arr x deep=>exact this
  |part x dead=>exact this
  |box cs=>
   obtain⟨b,cur,e',g1,g2,g3,g4⟩:=this
   exact⟨b,cur,e',g1,g2,g3,g4.clean (fun y hy=>qabs fun _ _=>rfl)⟩
theorem qanl{k:Key}(h:unnamed k σ=true):¬Names σ k:=by
 unfold unnamed at h
 simp only[zaf,zcb] at h
 rintro(⟨s,x,hs,hk⟩|⟨k',cs,he,x,hx,hk⟩)
 ·have:=h.1 _ (qahg hs)
  simp only[zbd,←zbj,qaaw] at this
  exact this hk
 ·have:=h.2 _ (qaha he)
  simp only[zbd,←zbj,zbb] at this
  exact this ⟨x,hx,zbb.1 (qaaw.2 hk)⟩
theorem Sim.row(h:Sim E pm F kv fp σ a w)(hc:Strong E w F kv fp σ a){k0:Key}(hk0:σ.ent k0=none)(hn0:¬Names σ k0)(h1024:1024≤k0.2){ty:U.Ty}{d0:Bool}{v0:Value}(hv0:∃ad,v0=.slice ad 0 0)(hn:τ.n=σ.n)
  (hg:∀s x,τ.get s=some x→σ.get s=some x∨∃y j,σ.get s=some (.v y)∧y.cs[j]? =some .e0∧x=.v ⟨y.agg,y.cs.set j (.ref k0 [])⟩∧∀vs,RDs E w F kv fp (fun _=>false) y.cs vs→(if y.agg then a.tmps.getD s undef=.agg vs.toArray else vs=[a.tmps.getD s undef])→vs[j]? =some v0)
  (he:∀k e,τ.ent k=some e→(k=k0∧e=.arr ⟨ty,[]⟩ d0)∨σ.ent k=some e∨∃cs j,σ.ent k=some (.box cs)∧cs[j]? =some .e0∧e=.box (cs.set j (.ref k0 []))∧∀b cur ety,kv k=.pointer (some ⟨b,0,none⟩)→w.heap[b]? =some (.cells cur ety (0,0))→cur.toList[j]? =some v0):
  ∃kv fp,Sim E pm F kv fp τ a w∧Strong E w F kv fp τ a:=by
 classical
 let kv':Key→Value:=fun k=>if k=k0 then v0 else kv k
 let fp':Key→List Nat:=fun k=>if k=k0 then[] else fp k
 have hkv:∀k,k≠k0→kv' k=kv k:=fun k hk=>if_neg hk
 have hfp:∀k,k≠k0→fp' k=fp k:=fun k hk=>if_neg hk
 have hkv0:kv' k0=v0:=if_pos rfl
 have hfp0:fp' k0=[]:=if_pos rfl
 have hst:∀k,Names σ k→Stays w w kv kv' fp fp' (fun _=>false) (fun _=>false) k:=by
  intro k hk
  have:k≠k0:=fun e=>hn0 (e▸hk)
  exact⟨hkv k this,.inr ⟨rfl,hfp k this,fun _ _=>rfl⟩⟩
 have hF:∀b,F b→F b∧w.heap[b]? =w.heap[b]? :=fun b hb=>⟨hb,rfl⟩
 have hset:∀{cs:List (AC U)}{vs:List Value}{j:Nat},RDs E w F kv fp (fun _=>false) cs vs→(∀x∈cs,∀k∈x.keys,Names σ k)→vs[j]? =some v0→RDs E w F kv' fp' (fun _=>false) (cs.set j (.ref k0 [])) vs:=by
  intro cs vs j hd hnm hj
  have hd':RDs E w F kv' fp' (fun _=>false) cs vs:=hd.move (fun x hx k hk=>hst k (hnm x hx k hk)) hF
  refine⟨by simpa using hd.1,fun i x v hx hv=> ?_⟩
  rw[zdh] at hx
  split at hx
  ·rename_i hij
   subst hij
   split at hx
   ·cases hx
    rw[hv] at hj
    cases hj
    obtain⟨ad,rfl⟩:=hv0
    exact⟨⟨rfl,trivial⟩,.inr (by simp only[RA];rw[hkv0];rfl)⟩
   ·cases hx
  ·exact hd'.2 i x v hx hv
 have hs':Strong E w F kv' fp' τ a:=by
  refine⟨fun s x hs=> ?_,fun k e hk=> ?_⟩
  ·rcases hg s x hs with g|⟨y,j,g1,g2,rfl,g4⟩
   ·exact(hc.slots s x g).move (fun k hk=>hst k (.inl ⟨s,x,g,hk⟩)) hF
   ·obtain⟨vs,r1,r2⟩:=hc.slots s _ g1
    exact⟨vs,hset r1 (fun x hx k hk=> .inl ⟨s,_,g1,SV.mem_keys.2 ⟨x,hx,hk⟩⟩) (g4 vs r1 r2),r2⟩
  ·rcases he k e hk with⟨rfl,rfl⟩|g|⟨cs,j,g1,g2,rfl,g4⟩
   ·obtain⟨ad,rfl⟩:=hv0
    exact .inl ⟨rfl,⟨ad,hkv0⟩,hfp0⟩
   ·have hne:k≠k0:=fun e'=>by rw[e',hk0] at g;cases g
    have:=hc.ents k e g
    rw[hkv k hne,hfp k hne]
    cases e with
    |arr x deep=>exact this
    |part x dead=>exact this
    |box cs=>
     obtain⟨b,cur,e',r1,r2,r3,r4⟩:=this
     exact⟨b,cur,e',r1,r2,r3,r4.move (fun x hx k' hk'=>hst k' (.inr ⟨k,cs,g,x,hx,hk'⟩)) hF⟩
   ·have hne:k≠k0:=fun e'=>by rw[e',hk0] at g1;cases g1
    obtain⟨b,cur,e',r1,r2,r3,r4⟩:=hc.ents k _ g1
    rw[hkv k hne,hfp k hne]
    exact⟨b,cur,e',r1,r2,r3,hset r4 (fun x hx k' hk'=> .inr ⟨k,cs,g1,x,hx,hk'⟩) (g4 b cur e' r1 r2)⟩
 have hold:∀k e,τ.ent k=some e→k≠k0→∃e',σ.ent k=some e':=by
  intro k e hk hne
  rcases he k e hk with⟨rfl,_⟩|g|⟨cs,j,g1,_⟩
  ·exact absurd rfl hne
  ·exact⟨_,g⟩
  ·exact⟨_,g1⟩
 refine⟨kv',fp',⟨by rw[hn];exact h.size,h.defers,fun s x hs=>(hs'.slots s x hs).clean (fun y hy=>qabs fun _ _=>rfl),fun k e hk=> ?_,fun k k' e e' b hne h1 h2 hb=> ?_,fun k e hk=> ?_,fun k e b hk hb=> ?_,h.Flt,h.Fsub,h.upto,fun k v hp=> ?_,h.lay⟩,hs'⟩
 ·have:=hs'.ents k e hk
  cases e with
  |arr x deep=>exact this
  |part x dead=>exact this
  |box cs=>
   obtain⟨b,cur,e',g1,g2,g3,g4⟩:=this
   exact⟨b,cur,e',g1,g2,g3,g4.clean (fun y hy=>qabs fun _ _=>rfl)⟩
 ·by_cases hk:k=k0
  ·rw[hk,hfp0] at hb;cases hb
  ·by_cases hk':k'=k0
   ·rw[hk',hfp0];exact zcf
   ·obtain⟨e1,g1⟩:=hold k e h1 hk
    obtain⟨e2,g2⟩:=hold k' e' h2 hk'
    rw[hfp k hk] at hb
    rw[hfp k' hk']
    exact h.apart k k' e1 e2 b hne g1 g2 hb
 ·by_cases hk':k=k0
  ·rw[hk',hfp0];exact zdu
  ·obtain⟨e1,g1⟩:=hold k e hk hk'
   rw[hfp k hk'];exact h.nodup k e1 g1
 ·by_cases hk':k=k0
  ·rw[hk',hfp0] at hb;cases hb
  ·obtain⟨e1,g1⟩:=hold k e hk hk'
   rw[hfp k hk'] at hb;exact h.mine k e1 b g1 hb
 ·obtain⟨p1,p2,p3,p4⟩:=h.pin k v hp
  refine⟨p1,p2,by rw[hn];exact p3,?_⟩
  rw[hkv k (fun e=>by rw[e] at p2;omega)];exact p4
theorem Sim.weak(h:Sim E pm F kv fp σ a w)(hc:Strong E w F kv fp σ a)(hn:τ.n=σ.n)
  (hg:∀s x,τ.get s=some x→σ.get s=some x∨∃y j ty,σ.get s=some (.v y)∧y.cs[j]? =some .e0∧x=.v ⟨y.agg,y.cs.set j (.c (.sl ty []))⟩)
  (he:∀k e,τ.ent k=some e→σ.ent k=some e∨∃cs j ty,σ.ent k=some (.box cs)∧cs[j]? =some .e0∧e=.box (cs.set j (.c (.sl ty [])))):
  Sim E pm F kv fp τ a w∧Strong E w F kv fp τ a:=by
 have hset:∀{cs:List (AC U)}{vs:List Value}{j:Nat}{ty:U.Ty},RDs E w F kv fp (fun _=>false) cs vs→cs[j]? =some .e0→RDs E w F kv fp (fun _=>false) (cs.set j (.c (.sl ty []))) vs:=by
  intro cs vs j ty hd hj
  refine⟨by simpa using hd.1,fun i x v hx hv=> ?_⟩
  rw[zdh] at hx
  split at hx
  ·rename_i hij
   subst hij
   split at hx
   ·cases hx
    obtain⟨g1,g2⟩:=hd.2 j _ v hj hv
    refine⟨g1,.inr ?_⟩
    rcases g2 with g2|⟨ad,rfl⟩
    ·cases g2
    ·exact .nil false ty ad 0 (fun _=>rfl)
   ·cases hx
  ·exact hd.2 i x v hx hv
 have hs':Strong E w F kv fp τ a:=by
  refine⟨fun s x hs=> ?_,fun k e hk=> ?_⟩
  ·rcases hg s x hs with g|⟨y,j,ty,g1,g2,rfl⟩
   ·exact hc.slots s x g
   ·obtain⟨vs,r1,r2⟩:=hc.slots s _ g1
    exact⟨vs,hset r1 g2,r2⟩
  ·rcases he k e hk with g|⟨cs,j,ty,g1,g2,rfl⟩
   ·exact hc.ents k e g
   ·obtain⟨b,cur,e',r1,r2,r3,r4⟩:=hc.ents k _ g1
    exact⟨b,cur,e',r1,r2,r3,hset r4 g2⟩
 have hold:∀k e,τ.ent k=some e→∃e',σ.ent k=some e':=by
  intro k e hk
  rcases he k e hk with g|⟨cs,j,ty,g1,_⟩
  ·exact⟨_,g⟩
  ·exact⟨_,g1⟩
 refine⟨⟨by rw[hn];exact h.size,h.defers,fun s x hs=>(hs'.slots s x hs).clean (fun y hy=>qabs fun _ _=>rfl),fun k e hk=> ?_,fun k k' e e' b hne h1 h2 hb=> ?_,fun k e hk=> ?_,fun k e b hk hb=> ?_,h.Flt,h.Fsub,h.upto,fun k v hp=> ?_,h.lay⟩,hs'⟩
 ·have:=hs'.ents k e hk
  cases e with
  |arr x deep=>exact this
  |part x dead=>exact this
  |box cs=>
   obtain⟨b,cur,e',g1,g2,g3,g4⟩:=this
   exact⟨b,cur,e',g1,g2,g3,g4.clean (fun y hy=>qabs fun _ _=>rfl)⟩
 ·obtain⟨e1,g1⟩:=hold k e h1
  obtain⟨e2,g2⟩:=hold k' e' h2
  exact h.apart k k' e1 e2 b hne g1 g2 hb
 ·obtain⟨e1,g1⟩:=hold k e hk
  exact h.nodup k e1 g1
 ·obtain⟨e1,g1⟩:=hold k e hk
  exact h.mine k e1 b g1 hb
 ·obtain⟨p1,p2,p3,p4⟩:=h.pin k v hp
  exact⟨p1,p2,by rw[hn];exact p3,p4⟩
theorem qagd{x:Option (AC U)}:isE0 x=true↔x=some .e0:=by
 unfold isE0
 split
 ·simp
 ·rename_i h;simp only[zbg,false_iff];exact fun e=>h e
theorem qagy{β:Type}(k k':Key)(v:Option β)(l:List (Key×Option β)):lookK ((k,v)::l) k'=if k=k' then v else lookK l k':=by
 simp only[lookK]
 by_cases h:k=k'
 ·rw[qagi.2 h,if_pos h];rfl
 ·rw[qagh.2 h,if_neg h];rfl
theorem qahd{β:Type}(k k':Nat)(v:Option β)(l:List (Nat×Option β)):look ((k,v)::l) k'=if k=k' then v else look l k':=by
 simp only[look]
 by_cases h:k=k'
 ·rw[if_pos h,(by simpa using h:Nat.beq k k'=true)];rfl
 ·rw[if_neg h,(by rw[←zbj,zdn];exact h:Nat.beq k k'=false)];rfl
theorem e0_nil{x:AC U}{v:Value}(h:RD E w F kv fp (fun _=>false) x v)(hx:x=.e0):∃ad,v=.slice ad 0 0:=by
 subst hx
 exact RA_of h rfl
theorem qaiz{p:Spot}{ty:U.Ty×Bool}(h:Sim E pm F kv fp σ a w)(hc:Strong E w F kv fp σ a):∃kv fp,Sim E pm F kv fp (nil1 p ty σ) a w∧Strong E w F kv fp (nil1 p ty σ) a:=by
 have same:∃kv fp,Sim E pm F kv fp σ a w∧Strong E w F kv fp σ a:=⟨kv,fp,h,hc⟩
 unfold nil1
 rw[zah]
 split
 ·rename_i hcond
  simp only[zaf,zeq,Option.isNone_iff_eq_none] at hcond
  obtain⟨⟨c1,c2⟩,c3⟩:=hcond
  have hnn:=qanl c2
  cases p with
  |slot s j=>
   simp only
   split
   ·rename_i x hx
    rw[zah]
    split
    ·rename_i he0
     have he0:=qagd.1 he0
     obtain⟨vs,r1,r2⟩:=hc.slots s _ hx
     have hlt:j<vs.length:=by
      rw[←r1.1]
      rcases zba j x.cs.length with g|g
      ·exact g
      ·rw[zaj g] at he0;cases he0
     have hvj:vs[j]? =some vs[j]:=zad hlt
     refine h.row hc (τ:={σ with slots:=(s,some (.v ⟨x.agg,x.cs.set j (.ref (Spot.slot s j).key [])⟩))::σ.slots,tab:=((Spot.slot s j).key,some (.arr ⟨ty.1,[]⟩ ty.2))::σ.tab})
      (k0:=(Spot.slot s j).key) c1 hnn c3 (ty:=ty.1) (d0:=ty.2) (v0:=vs[j]) (e0_nil (r1.2 j _ _ he0 hvj) rfl) rfl (fun s' x' hs'=> ?_) (fun k e hk=> ?_)
     ·replace hs':=(qahd _ _ _ _).symm.trans hs'
      split at hs'
      ·rename_i e;subst e
       cases hs'
       refine .inr ⟨x,j,hx,he0,rfl,fun vs' r1' r2'=> ?_⟩
       have:vs'=vs:=by
        cases hag:x.agg
        ·rw[hag] at r2 r2';simp only[zbg,if_false] at r2 r2';rw[r2,r2']
        ·rw[hag] at r2 r2';simp only[if_true] at r2 r2'
         rw[r2] at r2'
         simpa using r2'.symm
       rw[this];exact hvj
      ·exact .inl hs'
     ·replace hk:=(qagy _ _ _ _).symm.trans hk
      split at hk
      ·rename_i e;cases hk;exact .inl ⟨e.symm,rfl⟩
      ·exact .inr (.inl hk)
    ·exact same
   ·exact same
  |box k1 j=>
   simp only
   split
   ·rename_i cs hx
    rw[zah]
    split
    ·rename_i he0
     have he0:=qagd.1 he0
     obtain⟨b,cur,e',r1,r2,r3,r4⟩:=hc.ents k1 _ hx
     have hlt:j<cur.toList.length:=by
      rw[←r4.1]
      rcases zba j cs.length with g|g
      ·exact g
      ·rw[zaj g] at he0;cases he0
     have hvj:cur.toList[j]? =some cur.toList[j]:=zad hlt
     refine h.row hc (τ:={σ with tab:=((Spot.box k1 j).key,some (.arr ⟨ty.1,[]⟩ ty.2))::(k1,some (.box (cs.set j (.ref (Spot.box k1 j).key []))))::σ.tab})
      (k0:=(Spot.box k1 j).key) c1 hnn c3 (ty:=ty.1) (d0:=ty.2) (v0:=cur.toList[j]) (e0_nil (r4.2 j _ _ he0 hvj) rfl) rfl (fun s' x' hs'=> .inl hs') (fun k e hk=> ?_)
     replace hk:=(qagy _ _ _ _).symm.trans hk
     split at hk
     ·rename_i e;cases hk;exact .inl ⟨e.symm,rfl⟩
     ·rw[qagy] at hk
      split at hk
      ·rename_i e;cases hk
       subst e
       refine .inr (.inr ⟨cs,j,hx,he0,rfl,fun b2 cur2 e2 g1 g2=> ?_⟩)
       rw[r1] at g1;cases g1
       rw[r2] at g2;cases g2
       exact hvj
      ·exact .inr (.inl hk)
    ·exact same
   ·exact same
 ·exact same
theorem qajb{p:Spot}{ty:U.Ty}(h:Sim E pm F kv fp σ a w)(hc:Strong E w F kv fp σ a):Sim E pm F kv fp (nilS p ty σ) a w∧Strong E w F kv fp (nilS p ty σ) a:=by
 have same:Sim E pm F kv fp σ a w∧Strong E w F kv fp σ a:=⟨h,hc⟩
 unfold nilS
 cases p with
 |slot s j=>
  simp only
  split
  ·rename_i x hx
   rw[zah]
   split
   ·rename_i he0
    have he0:=qagd.1 he0
    refine h.weak hc (τ:={σ with slots:=(s,some (.v ⟨x.agg,x.cs.set j (.c (.sl ty []))⟩))::σ.slots}) rfl (fun s' x' hs'=> ?_) (fun k e hk=> .inl hk)
    replace hs':=(qahd _ _ _ _).symm.trans hs'
    split at hs'
    ·rename_i e;subst e
     cases hs'
     exact .inr ⟨x,j,ty,hx,he0,rfl⟩
    ·exact .inl hs'
   ·exact same
  ·exact same
 |box k1 j=>
  simp only
  split
  ·rename_i cs hx
   rw[zah]
   split
   ·rename_i he0
    have he0:=qagd.1 he0
    refine h.weak hc (τ:={σ with tab:=(k1,some (.box (cs.set j (.c (.sl ty [])))))::σ.tab}) rfl (fun s' x' hs'=> .inl hs') (fun k e hk=> ?_)
    replace hk:=(qagy _ _ _ _).symm.trans hk
    split at hk
    ·rename_i e;cases hk
     subst e
     exact .inr ⟨cs,j,ty,hx,he0,rfl⟩
    ·exact .inl hk
   ·exact same
  ·exact same
theorem qajd:∀{l:List (Spot×U.Ty×Option Bool)}{σ:AState U},(∃kv fp,Sim E pm F kv fp σ a w∧Strong E w F kv fp σ a)→∃kv fp,Sim E pm F kv fp (nils l σ) a w∧Strong E w F kv fp (nils l σ) a
 |[],σ,h=>h
 |(p,ty,some d)::r,σ,⟨kv,fp,h,hc⟩=>qajd (l:=r) (qaiz h hc)
 |(p,ty,none)::r,σ,⟨kv,fp,h,hc⟩=>qajd (l:=r) ⟨kv,fp,qajb h hc⟩
theorem qaja{p:Spot}{W:List Nat}(ty:U.Ty)(σ:AState U)(hW:∀s j,p=.slot s j→s∈W):Keep W σ (nilS p ty σ):=by
 unfold nilS
 cases p with
 |slot s j=>
  simp only
  split
  ·rename_i x hx
   rw[zah]
   split
   ·refine⟨rfl,fun s' v hs hg _=> ?_,fun s' p hs hg=> ?_⟩
    ·have:s≠s':=fun e=>hs (e▸hW s j rfl)
     exact(qahd _ _ _ _).trans ((if_neg this).trans hg)
    ·have:s≠s':=fun e=>hs (e▸hW s j rfl)
     exact(qahd _ _ _ _).trans ((if_neg this).trans hg)
   ·exact Keep.refl _ _
  ·exact Keep.refl _ _
 |box k1 j=>
  simp only
  split
  ·rename_i cs hx
   rw[zah]
   split
   ·exact⟨rfl,fun s' v hs hg _=>hg,fun s' p hs hg=>hg⟩
   ·exact Keep.refl _ _
  ·exact Keep.refl _ _
theorem qaiy{p:Spot}{W:List Nat}(ty:U.Ty×Bool)(σ:AState U)(hW:∀s j,p=.slot s j→s∈W):Keep W σ (nil1 p ty σ):=by
 unfold nil1
 rw[zah]
 split
 ·cases p with
  |slot s j=>
   simp only
   split
   ·rename_i x hx
    rw[zah]
    split
    ·refine⟨rfl,fun s' v hs hg _=> ?_,fun s' p hs hg=> ?_⟩
     ·have:s≠s':=fun e=>hs (e▸hW s j rfl)
      exact(qahd _ _ _ _).trans ((if_neg this).trans hg)
     ·have:s≠s':=fun e=>hs (e▸hW s j rfl)
      exact(qahd _ _ _ _).trans ((if_neg this).trans hg)
    ·exact Keep.refl _ _
   ·exact Keep.refl _ _
  |box k j=>
   simp only
   split
   ·rw[zah]
    split
    ·exact⟨rfl,fun s v _ hg _=>hg,fun s p _ hg=>hg⟩
    ·exact Keep.refl _ _
   ·exact Keep.refl _ _
 ·exact Keep.refl _ _
theorem qajs{k0 k:Key}{e:Ent U}(h:(partK k0 σ).ent k=some e):σ.ent k=some e∨(k=k0∧∃x,σ.ent k0=some (.arr x true)∧e=.part x fun _=>false):=by
 unfold partK at h
 split at h
 ·rename_i x hx
  replace h:=(qagy _ _ _ _).symm.trans h
  split at h
  ·rename_i hk
   cases h
   exact .inr ⟨hk.symm,x,hx,rfl⟩
  ·exact .inl h
 ·exact .inl h
theorem qajt(k0:Key)(σ:AState U):(partK k0 σ).n=σ.n∧(partK k0 σ).slots=σ.slots∧(partK k0 σ).dirty=σ.dirty:=by
 unfold partK
 split
 ·exact⟨rfl,rfl,rfl⟩
 ·exact⟨rfl,rfl,rfl⟩
theorem qaju(h:Sim E pm F kv fp σ a w)(hc:Strong E w F kv fp σ a)(k0:Key):Sim E pm F kv fp (partK k0 σ) a w∧Strong E w F kv fp (partK k0 σ) a:=by
 obtain⟨q1,q2,_⟩:=qajt k0 σ
 have hget:∀s,(partK k0 σ).get s=σ.get s:=fun s=>by unfold AState.get;rw[q2]
 have hs':Strong E w F kv fp (partK k0 σ) a:=by
  refine⟨fun s x hs=>hc.slots s x (by rw[←hget];exact hs),fun k e hk=> ?_⟩
  rcases qajs hk with hk|⟨rfl,x,hx,rfl⟩
  ·exact hc.ents k e hk
  ·exact ROwn.part (hc.ents _ _ hx)
 have hold:∀k e,(partK k0 σ).ent k=some e→∃e',σ.ent k=some e':=by
  intro k e hk
  rcases qajs hk with hk|⟨rfl,x,hx,rfl⟩
  ·exact⟨_,hk⟩
  ·exact⟨_,hx⟩
 refine⟨⟨by rw[q1];exact h.size,h.defers,fun s x hs=>(hs'.slots s x hs).clean (fun y hy=>qabs fun _ _=>rfl),fun k e hk=> ?_,fun k k' e e' b hne h1 h2 hb=> ?_,fun k e hk=> ?_,fun k e b hk hb=> ?_,h.Flt,h.Fsub,h.upto,by rw[q1];exact h.pin,h.lay⟩,hs'⟩
 ·have:=hs'.ents k e hk
  cases e with
  |arr x deep=>exact this
  |part x dead=>exact this
  |box cs=>
   obtain⟨b,cur,e',g1,g2,g3,g4⟩:=this
   exact⟨b,cur,e',g1,g2,g3,g4.clean (fun y hy=>qabs fun _ _=>rfl)⟩
 ·obtain⟨e1,g1⟩:=hold k e h1
  obtain⟨e2,g2⟩:=hold k' e' h2
  exact h.apart k k' e1 e2 b hne g1 g2 hb
 ·obtain⟨e1,g1⟩:=hold k e hk
  exact h.nodup k e1 g1
 ·obtain⟨e1,g1⟩:=hold k e hk
  exact h.mine k e1 b g1 hb
theorem qajy:∀{l:List Key}{σ:AState U},(∃kv fp,Sim E pm F kv fp σ a w∧Strong E w F kv fp σ a)→∃kv fp,Sim E pm F kv fp (parts l σ) a w∧Strong E w F kv fp (parts l σ) a
 |[],σ,h=>h
 |s::l,σ,⟨kv,fp,h,hc⟩=>by
  exact qajy (l:=l) (σ:=partK s σ) ⟨kv,fp,qaju h hc _⟩
theorem qajx(W:List Nat):∀(l:List Key)(σ:AState U),Keep W σ (parts l σ)
 |[],σ=>Keep.refl _ _
 |s::l,σ=>by
  refine Keep.trans (τ:=partK s σ) ?_ (qajx W l _)
  obtain⟨q1,q2,_⟩:=qajt s σ
  exact⟨q1,fun s v _ hg _=>by unfold AState.get at hg⊢;rw[q2];exact hg,fun s p _ hg=>by unfold AState.get at hg⊢;rw[q2];exact hg⟩
theorem qamg:∀{l:List Nat}{σ:AState U},(∃kv fp,Sim E pm F kv fp σ a w)→∃kv fp,Sim E pm F kv fp (settleNs l σ) a w
 |[],σ,h=>h
 |d::l,σ,h=>qamg (l:=l) (qaly h d)
theorem qamf:∀(l W:List Nat)(σ:AState U),Keep W σ (settleNs l σ)
 |[],W,σ=>Keep.refl _ _
 |d::l,W,σ=>(qalx d W σ).trans (qamf l W _)
theorem qajc{W:List Nat}:∀(l:List (Spot×U.Ty×Option Bool))(σ:AState U),(∀p∈l,∀s j,p.1=Spot.slot s j→s∈W)→Keep W σ (nils l σ)
 |[],σ,_=>Keep.refl _ _
 |(p,ty,some d)::r,σ,h=>(qaiy (ty,d) σ (h _ zab)).trans (qajc r _ fun q hq=>h q (zaa _ hq))
 |(p,ty,none)::r,σ,h=>(qaja ty σ (h _ zab)).trans (qajc r _ fun q hq=>h q (zaa _ hq))
theorem qahc{β:Type}(l r:List (Nat×Option β))(s:Nat):look (l++r) s=if l.any (fun p=>Nat.beq p.1 s) then look l s else look r s:=by
 induction l with
 |nil=>simp
 |cons p l ih=>
  obtain⟨t,v⟩:=p
  simp only[zex,look,zeg]
  rcases Bool.eq_false_or_eq_true (Nat.beq t s) with h|h
  ·simp[h]
  ·simp only[h,cond_false,zcw];exact ih
theorem qafx{A:Ann U}{wr:List Nat}{x:A.X}{s:Nat}{v:SV U}(h:(headAt A wr σ x).get s=some v):
  (s,v)∈A.slots x∨(s∉wr∧s∉A.names∧σ.get s=some v∧((∃y,v=.v y∧(SV.v y).keys=[])∨∃p,v=.fn p)):=by
 unfold AState.get headAt at h
 simp only at h
 rw[qahc] at h
 split at h
 ·left
  have:=qahg h
  obtain⟨⟨s',v'⟩,hp,e⟩:=zaz.1 this
  simp only[zax,zae] at e
  obtain⟨rfl,rfl⟩:=e
  exact hp
 ·right
  have hm:=zcg.1 (qahg h)
  have h1:=qaim qank.1 hm.1
  rw[qanj (by simp)] at h1
  have h2:=hm.2
  simp only[zaf,zbd,←zbj,zbb,zdn] at h2
  obtain⟨⟨h3,h4⟩,h5⟩:=h2
  refine⟨fun e=>h3 ⟨s,e,rfl⟩,fun e=>h4 ⟨s,e,rfl⟩,h1,?_⟩
  cases v with
  |v y=>exact .inl ⟨y,rfl,by simpa using h5⟩
  |tup xs=>cases h5
  |fn p=>exact .inr ⟨p,rfl⟩
  |clo g xs=>cases h5
theorem qafz{A:Ann U}{wr:List Nat}{x:A.X}{s:Nat}{y:AV U}(hw:s∉wr)(hn:s∉A.names)(hg:σ.get s=some (.v y))(hk:(SV.v y).keys=[]):
  (headAt A wr σ x).get s=some (.v y):=by
 unfold AState.get headAt
 simp only
 rw[qahc,if_neg]
 ·refine qaim (qaje qank.1) (zcg.2 ⟨qahg (by rw[qanj (by simp)];exact hg),?_⟩)
  simp only[zaf,zbd,←zbj,zbb,zdn]
  exact⟨⟨fun⟨t,h1,h2⟩=>hw (h2▸h1),fun⟨t,h1,h2⟩=>hn (h2▸h1)⟩,by simp[hk]⟩
 ·simp only[zdo,zbb,Function.comp,zdn]
  rintro⟨p,hp,rfl⟩
  exact hn (A.inn x p hp)
theorem qafy{A:Ann U}{wr:List Nat}{x:A.X}{s:Nat}{p:List (DA U)→Option Value}(hw:s∉wr)(hn:s∉A.names)(hg:σ.get s=some (.fn p)):
  (headAt A wr σ x).get s=some (.fn p):=by
 unfold AState.get headAt
 simp only
 rw[qahc,if_neg]
 ·refine qaim (qaje qank.1) (zcg.2 ⟨qahg (by rw[qanj (by simp)];exact hg),?_⟩)
  simp only[zaf,zbd,←zbj,zbb,zdn]
  exact⟨⟨fun⟨t,h1,h2⟩=>hw (h2▸h1),fun⟨t,h1,h2⟩=>hn (h2▸h1)⟩,by simp⟩
 ·simp only[zdo,zbb,Function.comp,zdn]
  rintro⟨p,hp,rfl⟩
  exact hn (A.inn x p hp)
theorem qafw{A:Ann U}{wr:List Nat}{x:A.X}{k:Key}{e:Ent U}(h:(headAt A wr σ x).ent k=some e):(k,e)∈A.ents x:=by
 have:=qaha (show lookK ((A.ents x).map fun(k,e)=>(k,some e)) k=some e from h)
 obtain⟨⟨k',e'⟩,hp,e⟩:=zaz.1 this
 simp only[zax,zae] at e
 obtain⟨rfl,rfl⟩:=e
 exact hp
theorem qajl(h:Sim E pm F kv fp σ a w){q:Operand}{v:Value}(hb:opdLit σ q=some v):a.eval q=v:=by
 unfold opdLit svLit at hb
 split at hb
 ·rename_i sc hsc;exact qaah (qajo h hsc) hb
 ·cases hb
variable{ann:Nat→Option (Ann U)}
theorem qanu(hE:E.Good)(c:Code):∀{F:Nat→Prop}{kv:Key→Value}{fp:Key→List Nat}{σ:AState U}{a:Act}{w:World}{Q:Out U→Prop}{Q':Exit→Act→World→Prop},
  Sim E pm F kv fp σ a w→AM.wp E ann c σ Q→
  (∀o,Q o→Keep (touched ann c) σ o.st→∀F kv fp a' w',Sim E pm F kv fp o.st a' w'→Q' o.ex a' w')→c.wp E.P Q' a w:=by
 induction c with
 |skip=>
  intro F kv fp σ a w Q Q' h hw hq
  exact wp_skip (hq _ hw (Keep.refl _ _) F kv fp a w h)
 |ret=>
  intro F kv fp σ a w Q Q' h hw hq
  exact wp_ret (hq _ hw (Keep.refl _ _) F kv fp a w h)
 |exit id=>
  intro F kv fp σ a w Q Q' h hw hq
  exact wp_exit (hq _ hw (Keep.refl _ _) F kv fp a w h)
 |region id ops draw=>
  intro F kv fp σ a w Q Q' h hw hq
  exact qakt hE h (show wpRegion E ops.toList draw σ _ from hw) (fun σ' F kv fp a' w' hk hkeep hs=>hq (.normal σ') hk hkeep F kv fp a' w' hs)
 |seq x y ihx ihy=>
  intro F kv fp σ a w Q Q' h hw hq
  simp only[AM.wp] at hw
  refine wp_seq (ihx h hw (fun o ho hk F kv fp a' w' hs=> ?_))
  have hk1:Keep (touched ann (.seq x y)) σ o.st:=hk.mono fun s hs=>zar _ hs
  cases o with
  |normal σ'=>
   refine ihy hs ho (fun o' ho' hk' F kv fp a' w' hs'=>hq o' ho' (hk1.trans (hk'.mono fun s hs=>zas _ hs)) F kv fp a' w' hs')
  |exit id σ'=>exact hq _ ho hk1 F kv fp a' w' hs
  |ret σ'=>exact hq _ ho hk1 F kv fp a' w' hs
 |cond q x y ihx ihy=>
  intro F kv fp σ a w Q Q' h hw hq
  simp only[AM.wp] at hw
  split at hw
  ·rename_i b hb
   have he:=qajl h hb
   refine wp_cond he ?_
   cases b with
   |true=>exact ihx h hw (fun o ho hk=>hq o ho (hk.mono fun s hs=>zar _ hs))
   |false=>exact ihy h hw (fun o ho hk=>hq o ho (hk.mono fun s hs=>zas _ hs))
  ·exact hw.elim
 |block id x ih=>
  intro F kv fp σ a w Q Q' h hw hq
  simp only[AM.wp] at hw
  refine wp_block (ih h hw (fun o ho hk F kv fp a' w' hs=> ?_))
  cases o with
  |normal σ'=>exact hq (.normal σ') ho hk F kv fp a' w' hs
  |exit id' σ'=>
   simp only at ho
   rw[zah] at ho
   by_cases hid:id'=id
   ·subst hid
    rw[if_pos (by simp)] at ho
    have:=hq (.normal σ') ho hk F kv fp a' w' hs
    simpa[Exit.inBlock,Out.ex] using this
   ·rw[if_neg (by simpa using hid)] at ho
    have:=hq (.exit id' σ') ho hk F kv fp a' w' hs
    simpa[Exit.inBlock,Out.ex,hid] using this
  |ret σ'=>exact hq (.ret σ') ho hk F kv fp a' w' hs
 |loop x ih=>
  intro F kv fp σ a w Q Q' h hw hq
  simp only[AM.wp] at hw
  split at hw
  ·rename_i A hA
   obtain⟨x0,⟨hI0,hround⟩,hsl0,hen0⟩:=A.law _ _ hw
   have hto:touched ann (.loop x)=touched ann x++A.names:=by simp only[touched,hA]
   have start:∀{σ':AState U}{F kv fp a' w'}(z:A.X),Sim E pm F kv fp σ' a' w'→σ'.n=σ.n→
     (∀s y,s∉touched ann x→s∉A.names→σ.get s=some (.v y)→(SV.v y).keys=[]→σ'.get s=some (.v y))→
     (∀s p,s∉touched ann x→s∉A.names→σ.get s=some (.fn p)→σ'.get s=some (.fn p))→
     (∀p∈A.slots z,(prep A σ').get p.1=some p.2)→(∀p∈A.ents z,(prep A σ').ent p.1=some p.2)→∃F kv fp,Sim E pm F kv fp (headAt A (touched ann x) σ z) a' w':=by
    intro σ' F kv fp a' w' z hs hn hkeep hkeepF h1 h2
    obtain⟨kvS,fpS,hS⟩:=qamg (l:=A.names) ⟨kv,fp,qakg hs (fun _=>false)⟩
    obtain⟨kvB,fpB,hB⟩:=qamc (l:=boxes (settleNs A.names (purge0 σ'))) ⟨kvS,fpS,hS⟩
    obtain⟨F3,kv3,fp3,g1,g2⟩:=qafi (l:=A.frz) ⟨F,kvB,fpB,qakg hB (fun _=>false),qakh hB _⟩
    obtain⟨kv2,fp2,s1,s2⟩:=qajy (l:=A.prt) (qajd (l:=A.nil) ⟨kv3,fp3,g1,g2⟩)
    have hnk:Keep A.names (purge0 σ') (prep A σ'):=(((((qamf A.names A.names (purge0 σ')).trans (qamb _ _ _)).trans (qake _ _ _)).trans (qafg _ _ _)).trans (qajc (W:=A.names) A.nil _ A.nin)).trans (qajx _ _ _)
    refine⟨F3,kv2,fp2,s1.less (τ:=headAt A (touched ann x) σ z) (hn.symm.trans hnk.n.symm) s2 (fun s v hv=> ?_) (fun k e he=> ?_)⟩
    ·rcases qafx hv with hm|⟨g1,g2,g3,⟨y,rfl,g5⟩|⟨p,rfl⟩⟩
     ·exact h1 _ hm
     rotate_left
     ·exact hnk.fn s p g2 ((qake _ [] _).fn s p (by simp) (hkeepF s p g1 g2 g3))
     ·exact hnk.get s y g2 ((qake _ [] _).get s y (by simp) (hkeep s y g1 g2 g3 g5) g5) g5
    ·exact h2 _ (qafw he)
   obtain⟨F0,kv0,fp0,hs0⟩:=start x0 h rfl (fun s y _ _ hg _=>hg) (fun s p _ _ hg=>hg) hsl0 hen0
   refine wp_loop_ghost (fun n a w=>∃y:A.X,A.I x0 y∧A.μ y=n∧∃F kv fp,Sim E pm F kv fp (headAt A (touched ann x) σ y) a w) (A.μ x0)
    ⟨x0,hI0,rfl,F0,kv0,fp0,hs0⟩ ?_
   rintro n a1 w1 ⟨y,hI,rfl,F1,kv1,fp1,hs1⟩
   refine ih hs1 (hround y hI) (fun o ho hk F kv fp a' w' hs=> ?_)
   have hkeep:∀s v,s∉touched ann x→s∉A.names→σ.get s=some (.v v)→(SV.v v).keys=[]→o.st.get s=some (.v v):=
    fun s v g1 g2 g3 g4=>hk.get s v g1 (qafz g1 g2 g3 g4) g4
   have hkeepF:∀s p,s∉touched ann x→s∉A.names→σ.get s=some (.fn p)→o.st.get s=some (.fn p):=
    fun s p g1 g2 g3=>hk.fn s p g1 (qafy g1 g2 g3)
   have hkk:Keep (touched ann (.loop x)) σ o.st:=by
    refine⟨hk.n,fun s v g1 g3 g4=> ?_,fun s p g1 g3=> ?_⟩
    ·rw[hto,zao,not_or] at g1
     exact hkeep s v g1.1 g1.2 g3 g4
    ·rw[hto,zao,not_or] at g1
     exact hkeepF s p g1.1 g1.2 g3
   cases o with
   |normal σ'=>
    obtain⟨z,⟨hIz,hlt⟩,hsl,hen⟩:=A.law _ _ ho
    obtain⟨F2,kv2,fp2,hs2⟩:=start z hs hk.n hkeep hkeepF hsl hen
    exact⟨A.μ z,hlt,z,hIz,rfl,F2,kv2,fp2,hs2⟩
   |exit id σ'=>exact hq _ ho hkk F kv fp a' w' hs
   |ret σ'=>exact hq _ ho hkk F kv fp a' w' hs
  ·exact hw.elim
 |_=>
  intros
  rename_i hw _
  exact hw.elim
def cutQ(A:Ann U)(Q:Out U→Prop):Out U→Prop
 | .normal σ=>A.un (prep A σ) fun z=>A.I z z
 |o=>Q o
def WpS(E:Env U)(c:Code)(τ:AState U)(Q:Out U→Prop):Prop:=
 ∀{pm:Pm}{F:Nat→Prop}{kv:Key→Value}{fp:Key→List Nat}{a:Act}{w:World}{Q':Exit→Act→World→Prop},
  Sim E pm F kv fp τ a w→(∀o,Q o→∀F kv fp a' w',Sim E pm F kv fp o.st a' w'→Q' o.ex a' w')→c.wp E.P Q' a w
theorem wpS_of(hE:E.Good){c:Code}{τ:AState U}{Q:Out U→Prop}(h:AM.wp E ann c τ Q):WpS E c τ Q:=fun hs hq=>qanu hE c hs h (fun o ho _=>hq o ho)
theorem qacx{A:Ann U}{n:Nat}{σ':AState U}(hn:σ'.n=n)(hs:Sim E pm F kv fp σ' a w){z:A.X}(h1:∀p∈A.slots z,(prep A σ').get p.1=some p.2)(h2:∀p∈A.ents z,(prep A σ').ent p.1=some p.2):
  ∃F kv fp,Sim E pm F kv fp (headAt A [] ⟨n,[],[],[]⟩ z) a w:=by
 obtain⟨kvS,fpS,hS⟩:=qamg (l:=A.names) ⟨kv,fp,qakg hs (fun _=>false)⟩
 obtain⟨kvB,fpB,hB⟩:=qamc (l:=boxes (settleNs A.names (purge0 σ'))) ⟨kvS,fpS,hS⟩
 obtain⟨F3,kv3,fp3,g1,g2⟩:=qafi (l:=A.frz) ⟨F,kvB,fpB,qakg hB (fun _=>false),qakh hB _⟩
 obtain⟨kv2,fp2,s1,s2⟩:=qajy (l:=A.prt) (qajd (l:=A.nil) ⟨kv3,fp3,g1,g2⟩)
 have hnk:Keep A.names (purge0 σ') (prep A σ'):=(((((qamf A.names A.names (purge0 σ')).trans (qamb _ _ _)).trans (qake _ _ _)).trans (qafg _ _ _)).trans (qajc (W:=A.names) A.nil _ A.nin)).trans (qajx _ _ _)
 refine⟨F3,kv2,fp2,s1.less (τ:=headAt A [] ⟨n,[],[],[]⟩ z) (hn.symm.trans hnk.n.symm) s2 (fun s v hv=> ?_) (fun k e he=> ?_)⟩
 ·rcases qafx hv with hm|⟨_,_,g3,_⟩
  ·exact h1 _ hm
  ·cases g3
 ·exact h2 _ (qafw he)
theorem qacw(hE:E.Good){r n:Nat}{A:Ann U}{Q:Out U→Prop}:∀{c:Code}{p:Code×Code}{σ:AState U},cutC r c=some p→σ.n=n→
  AM.wp E ann p.1 σ (cutQ A Q)→(∀y,A.I y y→AM.wp E ann p.2 (headAt A [] ⟨n,[],[],[]⟩ y) Q)→WpS E c σ Q:=by
 intro c
 induction c with
 |seq x y ihx ihy=>
  intro p σ hc hn h1 h2 pm F kv fp a w Q' hs hq
  simp only[cutC,zah] at hc
  split at hc
  ·cases hc
   refine wp_seq (qanu hE x hs h1 (fun o ho hk F kv fp a' w' hs'=> ?_))
   cases o with
   |normal σ'=>
    obtain⟨z,hI,hsl,hen⟩:=A.law _ _ (show A.un (prep A σ') (fun z=>A.I z z) from ho)
    obtain⟨F3,kv3,fp3,g⟩:=qacx (hk.n.trans hn) hs' hsl hen
    exact qanu hE y g (h2 z hI) (fun o' ho' _=>hq o' ho')
   |exit id σ'=>exact hq _ ho F kv fp a' w' hs'
   |ret σ'=>exact hq _ ho F kv fp a' w' hs'
  ·split at hc
   ·rename_i q hb
    cases hc
    simp only[AM.wp] at h1
    refine wp_seq (qanu hE x hs h1 (fun o ho hk F kv fp a' w' hs'=> ?_))
    cases o with
    |normal σ'=>exact ihy hb (hk.n.trans hn) ho h2 hs' hq
    |exit id σ'=>exact hq _ ho F kv fp a' w' hs'
    |ret σ'=>exact hq _ ho F kv fp a' w' hs'
   ·cases hc
 |_=>intro p σ hc;cases hc
end AM
