/- THE ABSTRACT MACHINE: new names for entries. -/
import Derived.Test.YtpkdgcookaobfaaGreatDoorQAmSettle
namespace AM
set_option linter.unusedVariables false
open Go
variable{U:lz}{E:Env U}{pm:Pm}
variable{F F':Nat->Prop}{kv kv':Key->Value}{fp fp':Key->List Nat}{σ τ:ak U}{a:Act}{w w':World}
structure fq(E:Env U)(w:World)(F:Nat->Prop)(kv:Key->Value)(fp:Key->List Nat)(σ:ak U)(a:Act):Prop where
 bM:∀s x,σ.get s=some x->RS E w F kv fp (fun _=>false) x (a.tmps.getD s undef)
 dH:∀k e,σ.bO k=some e->tP E w F kv fp (fun _=>false) e (kv k) (fp k)
theorem HS{bad:Key->Bool}{x:AC U}(h:∀k∈x.keys,bad k=false):iJ bad x=false:=by
 cases x with
 |ref k p=>simp[iJ,h k (by simp[AC.keys])]
 |lN k p i wd off=>simp[iJ,h k (by simp[AC.keys])]
 |_=>rfl
theorem RA.uM{f:Key->Key}{x:AC U}{v:Value}(hk:∀k∈x.keys,kv' (f k)=kv k/\fp' (f k)=fp k)(h:RA E w F kv fp x v):RA E w F kv' fp' (x.uM f) v:=by
 cases x with
 |c x=>exact h
 |e0=>exact h
 |kn b τ xs=>exact h
 |ia cs=>exact h
 |ref k p=>
  obtain⟨h1,h2⟩:=hk k (by simp[AC.keys])
  simp only[AC.uM,RA] at h⊢
  rw[h1,h2];exact h
 |sub k wd lo hi=>
  obtain⟨h1,h2⟩:=hk k (by simp[AC.keys])
  simp only[AC.uM,RA] at h⊢
  rw[h1];exact h
 |lN k p i wd off=>
  obtain⟨h1,h2⟩:=hk k (by simp[AC.keys])
  simp only[AC.uM,RA] at h⊢
  rw[h1,h2];exact h
 |ky k off=>
  obtain⟨h1,h2⟩:=hk k (by simp[AC.keys])
  simp only[AC.uM,RA] at h⊢
  rw[h1];exact h
theorem mc.uM{f:Key->Key}{bad bad':Key->Bool}{xs:List (AC U)}{vs:List Value}(hb:∀y∈xs,∀k∈y.keys,bad k=false)(hk:∀y∈xs,∀k∈y.keys,kv' (f k)=kv k/\fp' (f k)=fp k)
  (h:mc E w F kv fp bad xs vs):mc E w F kv' fp' bad' (xs.map (AC.uM f)) vs:=by
 refine⟨by simpa using h.1,fun i x v hx hv=> ?_⟩
 rw[nT] at hx
 cases hy:xs[i]? with
 |none=>rw[hy] at hx;cases hx
 |some y=>
  rw[hy] at hx;cases hx
  have hm:=Gl hy
  have:=h.2 i y v hy hv
  exact⟨this.1,.inr ((cw this (HS (hb y hm))).uM (hk y hm))⟩
theorem RS.uM{f:Key->Key}{bad bad':Key->Bool}{x:SV U}{v:Value}(hb:∀k∈x.keys,bad k=false)(hk:∀k∈x.keys,kv' (f k)=kv k/\fp' (f k)=fp k)
  (h:RS E w F kv fp bad x v):RS E w F kv' fp' bad' (x.uM f) v:=by
 cases x with
 |v x=>
  obtain⟨vs,h1,h2⟩:=h
  exact⟨vs,h1.uM (fun y hy k hky=>hb k (SV.mem_keys.2 ⟨y,hy,hky⟩)) (fun y hy k hky=>hk k (SV.mem_keys.2 ⟨y,hy,hky⟩)),h2⟩
 |wv xs=>
  obtain⟨vs,h1,h2,h3⟩:=h
  refine⟨vs,h1,by simpa using h2,fun i x u hx hu=> ?_⟩
  rw[nT] at hx
  cases hy:xs[i]? with
  |none=>rw[hy] at hx;cases hx
  |some y=>
   rw[hy] at hx;cases hx
   have hm:=Gl hy
   obtain⟨us,g1,g2⟩:=h3 i y u hy hu
   exact⟨us,g1.uM (fun z hz k hkz=>hb k (SV.mem_keys.2 ⟨z,oQ.2 ⟨y,hm,hz⟩,hkz⟩)) (fun z hz k hkz=>hk k (SV.mem_keys.2 ⟨z,oQ.2 ⟨y,hm,hz⟩,hkz⟩)),g2⟩
 |fn p=>exact h
 |Hk g xs=>
  obtain⟨vs,h1,h2,h3⟩:=h
  refine⟨vs,h1,by simpa using h2,fun i x u hx hu=> ?_⟩
  rw[nT] at hx
  cases hy:xs[i]? with
  |none=>rw[hy] at hx;cases hx
  |some y=>
   rw[hy] at hx;cases hx
   have hm:=Gl hy
   obtain⟨us,g1,g2⟩:=h3 i y u hy hu
   exact⟨us,g1.uM (fun z hz k hkz=>hb k (SV.mem_keys.2 ⟨z,oQ.2 ⟨y,hm,hz⟩,hkz⟩)) (fun z hz k hkz=>hk k (SV.mem_keys.2 ⟨z,oQ.2 ⟨y,hm,hz⟩,hkz⟩)),g2⟩
theorem U7{β γ:Type}{g:β->γ}:∀{l:List (Nat×Option β)}{s:Nat},look (l.map fun p=>(p.1,p.2.map g)) s=(look l s).map g
 |[],s=>rfl
 |(t,v)::r,s=>by
  simp only[wh,look]
  cases Nat.beq t s
  ·exact U7
  ·rfl
theorem ak0(h:cM E pm F kv fp σ a w)(hc:fq E w F kv fp σ a)(hn:(σ.oR.map (·.1)).Nodup)(W6:∀p∈σ.oR,p.2.isSome=true){l:List (Key×Key)}{S:Key->Prop}
  (hSn:∀k,Names σ k->S k) (hSl:∀k,(σ.bO k).isSome=true->S k) (aba:∀k k',S k->S k'->wU l k=wU l k'->k=k') (Gb:∀k,2000000<=k.1->k.2<1024->∀k0,wU l k0=k->k0=k):
  ∃kv' fp',cM E pm F kv' fp' (rename l σ) a w:=by
 classical
 generalize hf:wU l=f at aba Gb
 have jo:∀p∈σ.oR,(σ.bO p.1).isSome=true:=by
  rintro⟨k,v⟩ hp
  have:=W6 _ hp
  cases v with
  |none=>cases this
  |some e=>unfold ak.bO;rw[U6 hn hp];rfl
 have Sf:(rename l σ).oR=σ.oR.map fun(k,e)=>(f k,e.map (iN.uM f)):=by rw[<-hf];rfl
 have aaG:(rename l σ).bM=σ.bM.map fun(s,v)=>(s,v.map (SV.uM f)):=by rw[<-hf];rfl
 have wm:((rename l σ).oR.map (·.1)).Nodup:=by
  rw[Sf,List.map_map]
  have:(σ.oR.map ((·.1)∘fun((k,e):Key×Option (iN U))=>(f k,e.map (iN.uM f))))=(σ.oR.map (·.1)).map f:=by
   rw[List.map_map];rfl
  rw[this]
  rw[zdg,List.pairwise_map]
  rw[zdg] at hn
  refine List.Pairwise.imp_of_mem (fun{k k'} hk cU eZ he=>eZ ?_) hn
  obtain⟨p,hp,rfl⟩:=mf.1 hk
  obtain⟨p',kJ,rfl⟩:=mf.1 cU
  exact aba _ _ (hSl _ (jo p hp)) (hSl _ (jo p' kJ)) he
 have s6:∀k' e',(rename l σ).bO k'=some e'↔∃k e,σ.bO k=some e/\k'=f k/\e'=e.uM f:=by
  intro k' e'
  constructor
  ·intro he
   have hm:=F4 he
   rw[Sf] at hm
   obtain⟨⟨k,v⟩,hp,hx⟩:=mf.1 hm
   simp only[pq] at hx
   obtain⟨h1,h2⟩:=hx
   cases v with
   |none=>cases h2
   |some e=>cases h2;exact⟨k,e,U6 hn hp,h1.symm,rfl⟩
  ·rintro⟨k,e,he,rfl,rfl⟩
   refine U6 wm ?_
   rw[Sf]
   exact mf.2 ⟨(k,some e),F4 he,rfl⟩
 have sY:∀s,(rename l σ).get s=(σ.get s).map (SV.uM f):=by
  intro s
  show look (rename l σ).bM s=_
  rw[aaG]
  exact U7
 let g:Key->Key:=fun k'=>if h:∃k,S k/\f k=k' then h.choose else k'
 have hg:∀k,S k->g (f k)=k:=by
  intro k hk
  have hx:∃k1,S k1/\f k1=f k:=⟨k,hk,rfl⟩
  have:g (f k)=hx.choose:=by simp only[g];rw[dif_pos hx]
  rw[this]
  exact aba _ _ hx.choose_spec.1 hk hx.choose_spec.2
 have Be:∀k,Names σ k->(fun k'=>kv (g k')) (f k)=kv k/\(fun k'=>fp (g k')) (f k)=fp k:=by
  intro k hk
  simp only
  rw[hg k (hSn k hk)]
  exact⟨rfl,rfl⟩
 have Su:∀{k:Key}{e:iN U},σ.bO k=some e->g (f k)=k:=fun he=>hg _ (hSl _ (by rw[he];rfl))
 refine⟨fun k'=>kv (g k'),fun k'=>fp (g k'),?_⟩
 ·refine⟨h.size,h.defers,fun s x' hs=> ?_,fun k' e' he=> ?_,fun k1 k2 e1 e2 b eZ h1 h2=> ?_,fun k' e' he=> ?_,fun k' e' b he=> ?_,h.uk,h.uj,h.upto,fun k v hpk=> ?_,h.lay⟩
  ·rw[sY] at hs
   cases hx:σ.get s with
   |none=>rw[hx] at hs;cases hs
   |some x=>
    rw[hx] at hs;cases hs
    exact(hc.bM s x hx).uM (fun k hk=>rfl) (fun k hk=>Be k (.inl ⟨s,x,hx,hk⟩))
  ·obtain⟨k,e,h1,rfl,rfl⟩:=(s6 k' e').1 he
   have h0:=hc.dH k e h1
   simp only[Su h1]
   cases e with
   |arr x deep=>exact h0
   |part x dead=>exact h0
   |box cs=>
    obtain⟨b,cur,e',g1,g2,g3,g4⟩:=h0
    exact⟨b,cur,e',g1,g2,g3,g4.uM (fun y hy k' cU=>rfl) (fun y hy k' cU=>Be k' (.inr ⟨k,cs,h1,y,hy,cU⟩))⟩
  ·obtain⟨k,e,g1,rfl,rfl⟩:=(s6 k1 e1).1 h1
   obtain⟨k',e',g2,rfl,rfl⟩:=(s6 k2 e2).1 h2
   simp only[Su g1,Su g2]
   exact h.apart k k' e e' b (fun e=>eZ (by rw[e])) g1 g2
  ·obtain⟨k,e,g1,rfl,rfl⟩:=(s6 k' e').1 he
   simp only[Su g1]
   exact h.nodup k e g1
  ·obtain⟨k,e,g1,rfl,rfl⟩:=(s6 k' e').1 he
   simp only[Su g1]
   exact h.fQ k e b g1
  ·obtain⟨p1,p2,p3,p4⟩:=h.N0 k v hpk
   have:g k=k:=by
    by_cases hx:∃k1,S k1/\f k1=k
    ·have e:g k=hx.choose:=by simp only[g];rw[dif_pos hx]
     rw[e]
     exact Gb k p1 p2 _ hx.choose_spec.2
    ·simp only[g];rw[dif_neg hx]
   exact⟨p1,p2,p3,by simp only[this];exact p4⟩
theorem ak6(bad:Key->Bool)(σ:ak U):((tT bad σ).oR.map (·.1)).Nodup/\∀p∈(tT bad σ).oR,p.2.isSome=true:=by
 refine⟨U3 Rh.1,fun p hp=> ?_⟩
 have hm:=(zA.1 hp).1
 have:∀{l:List (Key×Option (iN U))}{seen:List Key},∀p∈qJ seen l,p.2.isSome=true:=by
  intro l
  induction l with
  |nil=>intro seen p hp;simp[qJ] at hp
  |cons q l ih=>
   obtain⟨k,v⟩:=q
   intro seen p hp
   simp only[qJ] at hp
   cases hs:seen.any (iR k)<;>rw[hs] at hp<;>simp only[cond_true,cond_false] at hp
   ·cases v with
    |none=>exact ih p hp
    |some x=>
     rcases jZ.1 hp with rfl|hp
     ·rfl
     ·exact ih p hp
   ·exact ih p hp
 exact this p hm
theorem Rj(h:cM E pm F kv fp σ a w)(bad:Key->Bool):fq E w F kv fp (tT bad σ) a:=by
 refine⟨fun s x hs=> ?_,fun k e he=> ?_⟩
 ·obtain⟨h1,h2,_⟩:=Rk.1 hs
  exact(h.bM s x h1).ny (fun y hy=>(Pj h2 hy).1)
 ·obtain⟨h1,h2,h3⟩:=KC he
  have h0:=h.dH k e h1
  cases e with
  |arr x deep=>exact h0
  |part x dead=>exact h0
  |box cs=>
   obtain⟨b,cur,e',g1,g2,g3,g4⟩:=h0
   exact⟨b,cur,e',g1,g2,g3,g4.ny (fun y hy=>(Pj (h3 cs rfl) (x:=.v ⟨true,cs⟩) hy).1)⟩
theorem U0:∀{l:List (Key×Key)}{k:Key},(∃b,(k,b)∈l/\wU l k=b)\/((∀b,(k,b)∉l)/\wU l k=k)
 |[],k=> .inr ⟨fun b hb=>(NG hb).elim,rfl⟩
 |(a,b)::r,k=>by
  simp only[wU]
  cases h:iR a k
  ·simp only[cond_false]
   rcases U0 (l:=r) (k:=k) with⟨c,h1,h2⟩|⟨h1,h2⟩
   ·exact .inl ⟨c,fA _ h1,h2⟩
   ·refine .inr ⟨fun c hc=> ?_,h2⟩
    rcases jZ.1 hc with hc|hc
    ·cases hc;rw[zM] at h;cases h
    ·exact h1 c hc
  ·have:=pK.1 h
   subst this
   exact .inl ⟨b,iy,rfl⟩
theorem acO(h:∃kv fp,cM E pm F kv fp σ a w)(l0:List (Key×Key)):∃kv fp,cM E pm F kv fp (rQ l0 σ) a w:=by
 unfold rQ
 simp only
 rw[im]
 split
 ·exact h
 ·rename_i nt
  generalize hl:(l0.filter fun(a,b)=> !(iR a b)&& !(Nat.ble 2000000 a.1&&Nat.blt a.2 1024))=l at nt⊢
  simp only[FI,not_or,wu,Bool.not_eq_false'] at nt
  obtain⟨⟨⟨h1,h2⟩,h3⟩,h4⟩:=nt
  obtain⟨kv,fp,hs⟩:=h
  have htn:(l.map (·.2)).Nodup:=uN.1 h3
  have han:(l.map (·.1)).Nodup:=uN.1 h2
  obtain⟨t1,t2⟩:=ak6 (fun k=>(l.map (·.2)).any (iR k)) σ
  refine ak0 (HN hs _) (Rj hs _) t1 t2 (S:=fun k=>k∉l.map (·.2)) (fun k hk=> ?_) (fun k hk=> ?_) (fun k k' hk cU he=> ?_) (fun k p1 p2 k0 he=> ?_)
  ·have:=(ac5 hk).1
   exact fun hm=>by rw[sR.2 hm] at this;cases this
  ·obtain⟨e,he⟩:=nf.1 hk
   have:=(KC he).2.1
   exact fun hm=>by rw[sR.2 hm] at this;cases this
  ·rcases U0 (l:=l) (k:=k) with⟨b,g1,g2⟩|⟨g1,g2⟩<;>rcases U0 (l:=l) (k:=k') with⟨b',g1',g2'⟩|⟨g1',g2'⟩
   ·rw[g2,g2'] at he
    subst he
    obtain⟨i,hi,qw⟩:=sG g1
    obtain⟨j,hj,ue⟩:=sG g1'
    have FQ:i=j:=by
     refine(List.getElem_inj (h₀:=by simpa using hi) (h₁:=by simpa using hj) htn).1 ?_
     simp[qw,ue]
    subst FQ
    rw[qw] at ue
    exact(Prod.mk.inj ue).1
   ·rw[g2,g2'] at he
    subst he
    exact absurd (mf.2 ⟨_,g1,rfl⟩) cU
   ·rw[g2,g2'] at he
    subst he
    exact absurd (mf.2 ⟨_,g1',rfl⟩) hk
   ·rw[g2,g2'] at he
    exact he
  ·rcases U0 (l:=l) (k:=k0) with⟨b,g1,g2⟩|⟨g1,g2⟩
   ·exfalso
    have:=sC.1 h4 _ g1
    simp only[QJ] at this
    rw[g2] at he
    subst he
    omega
   ·rw[g2] at he;exact he
theorem acQ(h:∃kv fp,cM E pm F kv fp σ a w)(d:Nat):∃kv fp,cM E pm F kv fp (sM d σ) a w:=by
 unfold sM
 split
 ·exact acO h _
 ·exact h
theorem akO(h:∃kv fp,cM E pm F kv fp σ a w)(k:Key):∃kv fp,cM E pm F kv fp (xJ k σ) a w:=by
 unfold xJ
 split
 ·exact acO h _
 ·exact h
theorem UW:∀{l:List Key}{τ:ak U},(∃kv fp,cM E pm F kv fp τ a w)->∃kv fp,cM E pm F kv fp (xI l τ) a w
 |[],τ,h=>h
 |k::l,τ,h=>UW (l:=l) (akO h k)
theorem akM(h:cM E pm F kv fp σ a w)(ops:List Oper):∃kv fp,cM E pm F kv fp (settle ops σ) a w:=by
 unfold settle
 simp only
 refine UW ?_
 have h0:∃kv fp,cM E pm F kv fp (jH σ) a w:=⟨kv,fp,HN h _⟩
 generalize jH σ=τ at h0
 generalize assigned ops=l
 induction l generalizing τ with
 |nil=>exact h0
 |cons d l ih=>exact ih _ (acQ h0 d)
theorem Rm{β:Type}(f:β->β):∀(l:List (Nat×Option β))(s:Nat),look (l.map fun(t,v)=>(t,v.map f)) s=(look l s).map f
 |[],s=>rfl
 |(t,v)::r,s=>by
  simp only[wh,look]
  cases h:Nat.beq t s<;>simp only[cond_true,cond_false]
  exact Rm f r s
theorem Z8{β:Type}(f:β->β):∀(l:List (Key×Option β))(s:Key),eJ (l.map fun(t,v)=>(t,v.map f)) s=(eJ l s).map f
 |[],s=>rfl
 |(t,v)::r,s=>by
  simp only[wh,eJ]
  cases h:iR t s<;>simp only[cond_true,cond_false]
  exact Z8 f r s
theorem acH{bad':Key->Bool}(k:Key):qi w w kv kv fp fp (fun _=>false) bad' k:=⟨rfl,.inr ⟨rfl,rfl,fun _ _=>rfl⟩⟩
theorem RD.fr{k0:Key}{c:U.C}{bad':Key->Bool}{x:AC U}{v:Value}(h:RD E w F kv fp (fun _=>false) x v)(hF:∀b,F b->F' b)
  (hc:Rp E w F' false c (kv k0) []):RD E w F' kv fp bad' (Ir k0 c x) v:=by
 have hm:RD E w F' kv fp bad' x v:=h.move (fun k _=>acH k) (fun b hb=>⟨hF b hb,rfl⟩)
 unfold Ir
 split
 ·rename_i k
  rw[im]
  split
  ·rename_i hk
   have:=pK.1 hk
   subst this
   refine⟨h.1,.inr ?_⟩
   have h2:=h.2
   simp only[iJ,List.isEmpty_nil,zfa,qm,xv,false_or,RA,pu] at h2
   rw[h2];exact hc
  ·exact hm
 ·exact hm
theorem mc.fr{k0:Key}{c:U.C}{bad':Key->Bool}{xs:List (AC U)}{vs:List Value}(h:mc E w F kv fp (fun _=>false) xs vs)(hF:∀b,F b->F' b)
  (hc:Rp E w F' false c (kv k0) []):mc E w F' kv fp bad' (xs.map (Ir k0 c)) vs:=by
 refine⟨by simpa using h.1,fun i x v hx hv=> ?_⟩
 rw[nT] at hx
 cases hy:xs[i]? with
 |none=>rw[hy] at hx;cases hx
 |some y=>
  rw[hy] at hx;cases hx
  exact(h.2 i y v hy hv).fr hF hc
theorem RS.fr{k0:Key}{c:U.C}{bad':Key->Bool}{x:SV U}{v:Value}(h:RS E w F kv fp (fun _=>false) x v)(hF:∀b,F b->F' b)
  (hc:Rp E w F' false c (kv k0) []):RS E w F' kv fp bad' (Nf k0 c x) v:=by
 have hm:RS E w F' kv fp bad' x v:=h.move (fun k _=>acH k) (fun b hb=>⟨hF b hb,rfl⟩)
 cases x with
 |v x=>
  obtain⟨vs,h1,h2⟩:=h
  exact⟨vs,h1.fr hF hc,h2⟩
 |wv xs=>exact hm
 |fn p=>exact hm
 |Hk g xs=>exact hm
theorem tP.fr{k0:Key}{c:U.C}{bad':Key->Bool}{x:iN U}{v:Value}{l:List Nat}(h:tP E w F kv fp (fun _=>false) x v l)(hF:∀b,F b->F' b)
  (hc:Rp E w F' false c (kv k0) []):tP E w F' kv fp bad' (Lh k0 c x) v l:=by
 cases x with
 |arr a d=>exact e7.gg h (fun b hb=>⟨hF b hb,rfl⟩) (fun _ _=>rfl)
 |part a d=>exact eE.gg h (fun b hb=>⟨hF b hb,rfl⟩) (fun _ _=>rfl)
 |box cs=>
  obtain⟨b,cur,e',g1,g2,g3,g4⟩:=h
  exact⟨b,cur,e',g1,g2,g3,g4.fr hF hc⟩
theorem adr(h:cM E pm F kv fp σ a w)(hc:fq E w F kv fp σ a)(k0:Key):∃F,cM E pm F kv fp (l7 k0 σ) a w/\fq E w F kv fp (l7 k0 σ) a:=by
 unfold l7
 split
 rotate_left
 ·exact⟨F,h,hc⟩
 rename_i ar d he
 have hs:Rp E w (fun b=>F b\/b∈fp k0) false (.sl ar.τ ar.xs) (kv k0) []:=e7.lD (hc.dH k0 _ he) (fun b hb=> .inl hb) (fun b hb=> .inr hb)
 have hF:∀b,F b->(fun b=>F b\/b∈fp k0) b:=fun b hb=> .inl hb
 have s6:∀k e,eJ ((k0,none)::σ.oR.map fun(k,e)=>(k,e.map (Lh k0 (.sl ar.τ ar.xs)))) k=some e->k≠k0/\∃e0,σ.bO k=some e0/\e=Lh k0 (.sl ar.τ ar.xs) e0:=by
  intro k e hk
  simp only[eJ] at hk
  cases hq:iR k0 k<;>simp only[hq,cond_true,cond_false] at hk
  ·rw[Z8] at hk
   cases hl:eJ σ.oR k with
   |none=>rw[hl] at hk;cases hk
   |some e0=>rw[hl] at hk;cases hk;exact⟨fun e=>(MP.1 hq) e.symm,e0,hl,rfl⟩
  ·cases hk
 have sY:∀s x,look (σ.bM.map fun(s,v)=>(s,v.map (Nf k0 (.sl ar.τ ar.xs)))) s=some x->∃x0,σ.get s=some x0/\x=Nf k0 (.sl ar.τ ar.xs) x0:=by
  intro s x hx
  rw[Rm] at hx
  cases hl:look σ.bM s with
  |none=>rw[hl] at hx;cases hx
  |some x0=>rw[hl] at hx;cases hx;exact⟨x0,hl,rfl⟩
 refine⟨fun b=>F b\/b∈fp k0,⟨h.size,h.defers,fun s x hx=> ?_,fun k e hk=> ?_,fun k k' e e' b eZ h1 h2=> ?_,fun k e hk=> ?_,fun k e b hk hb=> ?_,fun b hb=> ?_,fun b hb=> ?_,h.upto,h.N0,h.lay.gg (fun b hb=>⟨.inl hb,rfl⟩)⟩,⟨fun s x hx=> ?_,fun k e hk=> ?_⟩⟩
 ·obtain⟨x0,hx0,rfl⟩:=sY s x hx
  exact(hc.bM s x0 hx0).fr hF hs
 ·obtain⟨eZ,e0,nK,rfl⟩:=s6 k e hk
  exact(hc.dH k e0 nK).fr hF hs
 ·obtain⟨_,e0,nK,_⟩:=s6 k e h1
  obtain⟨_,e0',abh,_⟩:=s6 k' e' h2
  exact h.apart k k' e0 e0' b eZ nK abh
 ·obtain⟨_,e0,nK,_⟩:=s6 k e hk
  exact h.nodup k e0 nK
 ·obtain⟨eZ,e0,nK,_⟩:=s6 k e hk
  obtain⟨m1,m2,m3⟩:=h.fQ k e0 b nK hb
  exact⟨fun hh=>hh.elim m1 (fun hh=>h.apart k k0 e0 _ b eZ nK he hb hh),m2,m3⟩
 ·exact hb.elim (h.uk b) (fun hb=>(h.fQ k0 _ b he hb).2.2)
 ·exact hb.elim (h.uj b) (fun hb=> .inr (h.fQ k0 _ b he hb).2.1)
 ·obtain⟨x0,hx0,rfl⟩:=sY s x hx
  exact(hc.bM s x0 hx0).fr hF hs
 ·obtain⟨eZ,e0,nK,rfl⟩:=s6 k e hk
  exact(hc.dH k e0 nK).fr hF hs
theorem Vb:∀{l:List Nat}{σ:ak U},(∃F kv fp,cM E pm F kv fp σ a w/\fq E w F kv fp σ a)->∃F kv fp,cM E pm F kv fp (qV l σ) a w/\fq E w F kv fp (qV l σ) a
 |[],σ,h=>h
 |s::l,σ,h=>by
  refine Vb (l:=l) (σ:=tf s σ) ?_
  obtain⟨F,kv,fp,h1,h2⟩:=h
  unfold tf
  split
  ·obtain⟨F',h3⟩:=adr h1 h2 _
   exact⟨F',kv,fp,h3⟩
  ·exact⟨F,kv,fp,h1,h2⟩
theorem adu{k0:Key}{c:U.C}{x:AC U}{k:Key}(h:k∈(Ir k0 c x).keys):k∈x.keys:=by
 unfold Ir at h
 split at h
 ·rename_i q
  rw[im] at h
  split at h
  ·simp[AC.keys] at h
  ·exact h
 ·exact h
theorem al1{k0:Key}{c:U.C}{x:SV U}{k:Key}(h:k∈(Nf k0 c x).keys):k∈x.keys:=by
 cases x with
 |v x=>
  obtain⟨y,hy,hk⟩:=SV.mem_keys.1 h
  simp only[Nf,SV.Ca,mf] at hy
  obtain⟨z,hz,rfl⟩:=hy
  exact SV.mem_keys.2 ⟨z,hz,adu hk⟩
 |wv xs=>exact h
 |fn p=>exact h
 |Hk g xs=>exact h
theorem ads{k0 k:Key}(h:Names (l7 k0 σ) k):Names σ k:=by
 unfold l7 at h
 split at h
 rotate_left
 ·exact h
 rcases h with⟨s,x,hs,hk⟩|⟨k',cs,he,x,hx,hk⟩
 ·have hs:look (σ.bM.map _) s=some x:=hs
  rw[Rm] at hs
  cases hl:look σ.bM s with
  |none=>rw[hl] at hs;cases hs
  |some y=>rw[hl] at hs;cases hs;exact .inl ⟨s,y,hl,al1 hk⟩
 ·have he:eJ ((k0,none)::σ.oR.map _) k'=some (iN.box cs):=he
  simp only[eJ] at he
  cases hq:iR k0 k'<;>simp only[hq,cond_true,cond_false] at he
  ·rw[Z8] at he
   cases hl:eJ σ.oR k' with
   |none=>rw[hl] at he;cases he
   |some e=>
    rw[hl] at he
    cases e with
    |arr a d=>cases he
    |part a d=>cases he
    |box cs0=>
     simp only[FT,Lh,gA,iN.box.injEq] at he
     subst he
     obtain⟨z,hz,rfl⟩:=mf.1 hx
     exact .inr ⟨k',cs0,hl,z,hz,adu hk⟩
  ·cases he
theorem adp{k:Key}:∀{l:List Nat}{σ:ak U},Names (qV l σ) k->Names σ k
 |[],σ,h=>h
 |s::l,σ,h=>by
  have h2:Names (tf s σ) k:=adp (l:=l) h
  unfold tf at h2
  split at h2
  ·exact ads h2
  ·exact h2
theorem Vd:∀{l:List Key}{σ:ak U},(∃F kv fp,cM E pm F kv fp σ a w/\fq E w F kv fp σ a)->∃F kv fp,cM E pm F kv fp (sa l σ) a w/\fq E w F kv fp (sa l σ) a
 |[],σ,h=>h
 |s::l,σ,h=>by
  refine Vd (l:=l) (σ:=l7 s σ) ?_
  obtain⟨F,kv,fp,h1,h2⟩:=h
  obtain⟨F',h3⟩:=adr h1 h2 s
  exact⟨F',kv,fp,h3⟩
theorem adq{k:Key}:∀{l:List Key}{σ:ak U},Names (sa l σ) k->Names σ k
 |[],σ,h=>h
 |s::l,σ,h=>ads (adq (l:=l) (σ:=l7 s σ) h)
theorem amj(h:cM E pm F kv fp σ a w)(E':Env U)(ops:List Oper):∃F kv fp,cM E pm F kv fp (E0 E' ops σ) a w:=by
 obtain⟨F',kv',fp',h1,_⟩:=Vd (l:=Oq ops (qV (N4 E' ops) (enter ops σ))) (Vb (l:=N4 E' ops) (σ:=enter ops σ) ⟨F,kv,fp,amh h ops,Rj h _⟩)
 exact⟨F',kv',fp',h1⟩
theorem adA{E':Env U}{ops:List Oper}{k:Key}(h:Names (E0 E' ops σ) k)(hd:k.1∈BI ops\/k.1=1000000):1024<=k.2:=ami (adp (adq h)) hd
theorem akK(h:cM E pm F kv fp σ a w)(k0:Key):∃F' fp',cM E pm F' kv fp' (D6 k0 σ) a w:=by
 unfold D6
 split
 rotate_left
 ·exact⟨F,fp,h⟩
 rename_i ar he
 have s6:∀k e,eJ ((k0,some (iN.arr ar false))::σ.oR) k=some e->(k=k0/\e=iN.arr ar false)\/(k≠k0/\σ.bO k=some e):=by
  intro k e hk
  simp only[eJ] at hk
  cases hq:iR k0 k<;>simp only[hq,cond_true,cond_false] at hk
  ·exact .inr ⟨fun e=>(MP.1 hq) e.symm,hk⟩
  ·cases hk;exact .inl ⟨(pK.1 hq).symm,rfl⟩
 have W6:∀k,∃k' e',σ.bO k=some e'\/k'=k:=fun k=>⟨k,.arr ar true,.inr rfl⟩
 obtain⟨F',fp',hF,hF2,P4,qt,qu,om⟩:∃(F':Nat->Prop)(fp':Key->List Nat),(∀b,F b->F' b)/\(∀b,F' b->F b\/b∈fp k0)/\(∀k,k≠k0->fp' k=fp k)/\(∀b∈fp' k0,b∈fp k0/\¬F' b)/\(fp' k0).Nodup/\e7 E w F' false ar (kv k0) (fp' k0):=by
  have ho:e7 E w F true ar (kv k0) (fp k0):=h.dH k0 _ he
  have hn:=h.nodup k0 _ he
  rcases ho with⟨h1,h2,h3⟩|⟨b,cap,cur,vs,hZ,h1,h2,h3,h4,h5,h6,h7,h8⟩
  ·exact⟨F,fp,fun _ hb=>hb,fun b hb=> .inl hb,fun _ _=>rfl,fun b hb=>(by rw[h3] at hb;cases hb),hn,.inl ⟨h1,h2,h3⟩⟩
  ·rw[h8,tY] at hn
   refine⟨fun c=>F c\/(c∈fp k0/\c≠b),fun k=>if iR k k0=true then[b] else fp k,fun _ hb=> .inl hb,fun c hc=>hc.imp id fun g=>g.1,fun k hk=> ?_,fun c hc=> ?_,?_,?_⟩
   ·dsimp only;rw[if_neg (by rw[pK];exact hk)]
   ·dsimp only at hc;rw[if_pos (zM _),mI] at hc
    subst hc
    have hm:c∈fp k0:=by rw[h8];exact iy
    exact⟨hm,fun g=>g.elim (h.fQ k0 _ c he hm).1 fun g=>g.2 rfl⟩
   ·dsimp only;rw[if_pos (zM _)];simp
   ·dsimp only;rw[if_pos (zM _)]
    refine .inr ⟨b,cap,cur,vs,fun _=>[],h1,h2,h3,h4,h5,h6,fun i x j c hx hj=> ?_,by simp⟩
    have gI:i*U.wd ar.τ+j<ar.xs.length*U.wd ar.τ:=fP hx hj
    refine(h7 i x j c hx hj).lD (fun b hb=> .inl hb) fun b' bj=> .inr ?_
    have EK:b'∈(List.range (ar.xs.length*U.wd ar.τ)).flatMap hZ:=oQ.2 ⟨_,pD.2 gI,bj⟩
    exact⟨by rw[h8];exact fA _ EK,fun e=>hn.1 (by rw[<-e];exact EK)⟩
 have Bf:∀b,F b->F' b/\w.heap[b]? =w.heap[b]? :=fun b hb=>⟨hF b hb,rfl⟩
 have qR:∀k,qi w w kv kv fp fp' (bW σ) (bW ({σ with oR:=(k0,some (iN.arr ar false))::σ.oR,aT:=k0::σ.aT}:ak U)) k:=by
  intro k
  refine⟨rfl,?_⟩
  by_cases hk:k=k0
  ·left
   subst hk
   simp[bW,zM]
  ·cases hb:bW σ k
   ·right;exact⟨rfl,P4 k hk,fun _ _=>rfl⟩
   ·left
    simp only[bW,FI] at hb⊢
    rcases hb with hb|hb
    ·left;rw[UA,hb,Bool.or_true]
    ·right
     show(eJ ((k0,some (iN.arr ar false))::σ.oR) k).isNone=true
     have hq:iR k0 k=false:=MP.2 fun e=>hk e.symm
     simp only[eJ,hq,cond_false]
     exact hb
 have yf:∀k e b,σ.bO k=some e->k≠k0->b∈fp k->¬F' b:=fun k e b hke hk hb bj=>by
  rcases hF2 b bj with g|g
  ·exact(h.fQ k e b hke hb).1 g
  ·exact h.apart k k0 e _ b hk hke he hb g
 refine⟨F',fp',⟨h.size,h.defers,fun s x hx=>(h.bM s x hx).move (fun k _=>qR k) Bf,fun k e hk=> ?_,fun k k' e e' b eZ h1 h2 hb=> ?_,fun k e hk=> ?_,fun k e b hk hb=> ?_,fun b hb=> ?_,fun b hb=> ?_,h.upto,h.N0,h.lay.gg Bf⟩⟩
 ·rcases s6 k e hk with⟨rfl,rfl⟩|⟨eZ,hke⟩
  ·exact om
  ·rw[P4 k eZ]
   have h1:=h.dH k e hke
   cases e with
   |arr a d=>exact e7.gg h1 Bf (fun _ _=>rfl)
   |part a d=>exact eE.gg h1 Bf (fun _ _=>rfl)
   |box cs=>
    obtain⟨b,cur,e',g1,g2,g3,g4⟩:=h1
    exact⟨b,cur,e',g1,g2,g3,g4.move (fun _ _ k _=>qR k) Bf⟩
 ·rcases s6 k e h1 with⟨rfl,_⟩|⟨n1,g1⟩
  ·rcases s6 k' e' h2 with⟨rfl,_⟩|⟨n2,g2⟩
   ·exact absurd rfl eZ
   ·rw[P4 k' n2]
    exact h.apart _ k' _ _ b eZ he g2 (qt b hb).1
  ·rw[P4 k n1] at hb
   rcases s6 k' e' h2 with⟨rfl,_⟩|⟨n2,g2⟩
   ·exact fun bj=>h.apart k _ _ _ b eZ g1 he hb (qt b bj).1
   ·rw[P4 k' n2]
    exact h.apart k k' _ _ b eZ g1 g2 hb
 ·rcases s6 k e hk with⟨rfl,_⟩|⟨n1,g1⟩
  ·exact qu
  ·rw[P4 k n1];exact h.nodup k e g1
 ·rcases s6 k e hk with⟨rfl,_⟩|⟨n1,g1⟩
  ·obtain⟨g1,g2⟩:=qt b hb
   exact⟨g2,(h.fQ _ _ b he g1).2⟩
  ·rw[P4 k n1] at hb
   exact⟨yf k e b g1 n1 hb,(h.fQ k e b g1 hb).2⟩
 ·rcases hF2 b hb with g|g
  ·exact h.uk b g
  ·exact(h.fQ k0 _ b he g).2.2
 ·rcases hF2 b hb with g|g
  ·exact h.uj b g
  ·exact .inr (h.fQ k0 _ b he g).2.1
theorem acM:∀{l:List Key}{σ:ak U}{F:Nat->Prop}{fp:Key->List Nat},cM E pm F kv fp σ a w->∃F' fp',cM E pm F' kv fp' (l.foldl (fun σ k=>D6 k σ) σ) a w
 |[],_,F,fp,h=>⟨F,fp,h⟩
 |k::l,σ,F,fp,h=>by
  obtain⟨F1,fp1,h1⟩:=akK h k
  exact acM (l:=l) h1
theorem acJ{l:List Key}(h:cM E pm F kv fp σ a w)(hc:fq E w F kv fp σ a):∃F' fp',cM E pm F' kv fp' (NO l σ) a w/\fq E w F' kv fp' (NO l σ) a:=by
 cases l with
 |nil=>exact⟨F,fp,h,hc⟩
 |cons k l=>
  obtain⟨F1,fp1,h1⟩:=acM (l:=k::l) h
  exact⟨F1,fp1,HN h1 _,Rj h1 _⟩
end AM
