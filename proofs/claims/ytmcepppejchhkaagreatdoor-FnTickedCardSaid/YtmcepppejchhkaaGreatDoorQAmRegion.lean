import Derived.Test.YtmcepppejchhkaaGreatDoorQAmLoc
namespace AM
set_option linter.unusedVariables false
open Go
variable{U:lQ}{E:Env U}{pm:Pm}
variable{F F':Nat->Prop}{kv:Key->Value}{fp:Key->List Nat}{σ τ:ak U}{a:Act}{w w':World}
structure Item(U:lQ) where
 o:Oper
 r:cq U
 ks:List Key
def oz(i:Nat)(it:Item U):Rec:=⟨i,it.ks,it.r.names,it.r.writes (it.o.dst.getD 1000000),it.r.news (it.o.dst.getD 1000000)⟩
def iJ(ops:List Oper)(o:Oper)(σ:ak U):Option Bool:=
 match o.guard with
 |none=>some true
 |some (g,want)=>match((ops[g]?).bind (·.dst)).bind σ.get with
  |some (.v x)=>match ji (.v x) with
   |some (.bool b)=>some (Tv b want)
   |_=>none
  |some (.wR [])=>some false
  |_=>none
def ace(E:Env U)(ops:List Oper)(it:Item U)(σ:ak U)(rs:List Rec):Prop:=
 rl σ it.o=true/\
 ((iJ ops it.o σ=some false/\it.r=Ae/\it.ks=[])\/
  (iJ ops it.o σ=some true/\(∃b,step E b σ it.o=some (it.r,it.ks))/\(∀p∈it.r.pre,p)/\tD (it.o.dst.getD 1000000) it.r rs=true/\xD it.o it.r=true))
def W6(E:Env U)(ops:List Oper):Nat->List (Item U)->ak U->List Rec->Prop
 |_,[],_,_=>True
 |i,it::r,σ,rs=>ace E ops it σ rs/\W6 E ops (i+1) r (apply it.o it.r σ) (oz i it::rs)
def xx:List (Item U)->ak U->ak U
 |[],σ=>σ
 |it::r,σ=>xx r (apply it.o it.r σ)
def yZ:Nat->List (Item U)->List Rec->List Rec
 |_,[],rs=>rs
 |i,it::r,rs=>yZ (i+1) r (oz i it::rs)
theorem adb{r:cq U}{b:Bool}(h:GP r.val=some (.bool b)):Z4 r b=r:=by
 obtain⟨v,ad,ki,up,pr⟩:=r
 unfold GP at h
 simp only at h
 split at h
 ·rename_i y
  rw[Au h];rfl
 ·cases h
theorem aac{b:Bool}{ops:List Oper}{i:Nat}{o:Oper}{rs:List Rec}{K:ak U->Rec->Prop}(h:Kr E b ops i o σ rs K):
  ∃r ks,step E b σ o=some (r,ks)/\(∀p∈r.pre,p)/\tD (o.dst.getD 1000000) r rs=true/\xD o r=true/\K (apply o r σ) ⟨i,ks,r.names,r.writes (o.dst.getD 1000000),r.news (o.dst.getD 1000000)⟩:=by
 unfold Kr at h
 split at h
 ·rename_i r ks hs
  rw[ad6] at h
  obtain⟨h1,h2⟩:=h
  have h3:Q2 i o σ rs ks K r:=by
   rw[iw] at h2
   split at h2
   ·split at h2
    ·rename_i b hb
     cases b with
     |true=>rw[adb hb] at h2;exact h2
     |false=>rw[adb hb] at h2;exact h2
    ·exact h2.elim
   ·exact h2
  unfold Q2 at h3
  rw[iw] at h3
  split at h3
  ·rename_i hc
   simp only[cN] at hc
   exact⟨r,ks,hs,h1,hc.1,hc.2,h3⟩
  ·exact h3.elim
 ·exact h.elim
theorem akS{ops:List Oper}{i:Nat}{o:Oper}{rs:List Rec}{K:ak U->Rec->Prop}(h:Kq E ops i o σ rs K):
  ∃b r ks,step E b σ o=some (r,ks)/\(∀p∈r.pre,p)/\tD (o.dst.getD 1000000) r rs=true/\xD o r=true/\K (apply o r σ) ⟨i,ks,r.names,r.writes (o.dst.getD 1000000),r.news (o.dst.getD 1000000)⟩:=by
 unfold Kq at h
 rw[iw] at h
 split at h
 ·rcases h with h|h
  ·exact⟨_,aac h⟩
  ·exact⟨_,aac h⟩
 ·exact⟨_,aac h⟩
theorem aab{ops:List Oper}:∀{rest:List Oper}{i:Nat}{σ:ak U}{rs:List Rec}{K:ak U->List Rec->Prop},AM.wpOps E ops rest i σ rs K->
  ∃items:List (Item U),items.map (·.o)=rest/\W6 E ops i items σ rs/\K (xx items σ) (yZ i items rs)
 |[],i,σ,rs,K,h=>⟨[],rfl,trivial,h⟩
 |o::rest,i,σ,rs,K,h=>by
  have go:∀{K':ak U->Rec->Prop},iJ ops o σ=some true->Kq E ops i o σ rs (fun my r=>AM.wpOps E ops rest (i+1) my (r::rs) K)->
    ∃items:List (Item U),items.map (·.o)=o::rest/\W6 E ops i items σ rs/\K (xx items σ) (yZ i items rs):=by
   intro K' hw h
   obtain⟨b,r,ks,h1,h2,h3,h4,h5⟩:=akS h
   obtain⟨items,g1,g2,g3⟩:=aab h5
   have hd:rl σ o=true:=by
    unfold step at h1
    rw[iw] at h1
    split at h1
    ·rename_i hc;simp only[cN] at hc;exact hc.1
    ·cases h1
   exact⟨⟨o,r,ks⟩::items,by simp[g1],⟨⟨hd,.inr ⟨hw,⟨b,h1⟩,h2,h3,h4⟩⟩,g2⟩,g3⟩
  have skip:iJ ops o σ=some false->rl σ o=true->AM.wpOps E ops rest (i+1) (apply o Ae σ) (⟨i,[],[],[],[]⟩::rs) K->
    ∃items:List (Item U),items.map (·.o)=o::rest/\W6 E ops i items σ rs/\K (xx items σ) (yZ i items rs):=by
   intro hw hd h
   obtain⟨items,g1,g2,g3⟩:=aab h
   exact⟨⟨o,Ae,[]⟩::items,by simp[g1],⟨⟨hd,.inl ⟨hw,rfl,rfl⟩⟩,g2⟩,g3⟩
  simp only[AM.wpOps] at h
  split at h
  ·rename_i MF
   exact go (K':=fun _ _=>True) (by unfold iJ;rw[MF]) h
  ·rename_i g want MF
   split at h
   ·rename_i x hx
    split at h
    ·rename_i b hb
     have hw:iJ ops o σ=some (Tv b want):=by unfold iJ;simp only[MF,hx,hb]
     cases hbw:Tv b want<;>rw[hbw] at h hw<;>simp only[cond_true,cond_false] at h
     ·rw[iw] at h
      split at h
      ·rename_i hd;exact skip hw hd h
      ·exact h.elim
     ·exact go (K':=fun _ _=>True) hw h
    ·exact h.elim
   ·rename_i hx
    rw[iw] at h
    split at h
    ·rename_i hd
     exact skip (by unfold iJ;simp only[MF,hx]) hd h
    ·exact h.elim
   ·exact h.elim
theorem am'(a b:Bool):Tv a b=(a==b):=by cases a<;>cases b<;>rfl
theorem acZ(h:cR E pm F kv fp σ a w){ops:Array Oper}{o:Oper}{b:Bool}(hw:iJ ops.toList o σ=some b):Region.wanted o (yielded ops a.tmps)=b:=by
 unfold iJ at hw
 unfold Region.wanted
 split at hw
 ·rename_i hg;rw[hg];cases hw;rfl
 ·rename_i g want hg
  rw[hg]
  simp only
  unfold yielded
  have e:ops.toList[g]? =ops[g]? :=by simp
  rw[e] at hw
  cases ht:(ops[g]?).bind (·.dst) with
  |none=>rw[ht] at hw;simp at hw
  |some t=>
   rw[ht] at hw
   simp only[Option.bind_some] at hw⊢
   have tv:∀v:Value,a.tmps.getD t undef=v->v≠undef->a.tmps[t]? =some v:=by
    intro v hv fc
    rw[QZ] at hv
    cases hx:a.tmps[t]? with
    |none=>rw[hx] at hv;exact absurd hv.symm fc
    |some u=>rw[hx] at hv;simp at hv;rw[hv]
   split at hw
   ·rename_i x hx
    split at hw
    ·rename_i c hc
     cases hw
     have hv:=qB (h.bG t _ hx) hc
     rw[tv _ hv (by simp[undef])]
     rw[am']
     cases c<;>cases want<;>rfl
    ·cases hw
   ·rename_i hx
    cases hw
    have hv:a.tmps.getD t undef=undef:=by
     obtain⟨vs,h1,h2,_⟩:=h.bG t _ hx
     cases vs with
     |nil=>exact h1
     |cons v vs=>simp at h2
    rw[QZ] at hv
    cases hx:a.tmps[t]? with
    |none=>rfl
    |some u=>rw[hx] at hv;simp at hv;rw[hv];rfl
   ·cases hw
theorem adF(hE:E.Good)(h:cR E pm F kv fp σ a w){ops:Array Oper}{i:Nat}{it:Item U}(hi:ops[i]? =some it.o)(hd:rl σ it.o=true)
  (ME:(iJ ops.toList it.o σ=some false/\it.r=Ae)\/(iJ ops.toList it.o σ=some true/\(∃b,step E b σ it.o=some (it.r,it.ks))/\(∀p∈it.r.pre,p)/\∀k∈dZ it.o it.r,¬Names σ k))
  {K:Act->World->Prop} {Q:Exit->Act->World->Prop} (hn:∀F kv fp a' w',cR E pm F kv fp (apply it.o it.r σ) a' w'->K a' w'):wpOp E.P ops Q i K a w:=by
 unfold wpOp
 simp only[hi]
 rcases ME with⟨h1,h2⟩|⟨h1,h2,h3,h4⟩
 ·rw[acZ h h1]
  simp only[xS,if_false]
  refine hn F kv fp _ w ?_
  rw[h2]
  refine h.val it.o (some (.wR [])) [] undef (fun d kM=> ?_) (fun x hx=> ?_)
  ·unfold rl at hd
   rw[kM] at hd
   exact Nat.blt_eq▸hd
  ·cases hx
   exact⟨[],rfl,rfl,fun i x u hx=>by simp at hx⟩
 ·rw[acZ h h1]
  simp only[if_true]
  obtain⟨b,h2⟩:=h2
  exact .inl (ak5 hE h h2 h3 h4 hn)
end AM
