/- THE ABSTRACT MACHINE: a region, in whatever order its operations are done. -/
import Derived.Test.YtlachfpabecaeaaQAmLoc
namespace AM
set_option linter.unusedVariables false
open Go
variable{U:dh}{E:Env U}{pm:Pm}
variable{F F':Nat->Prop}{kv:Key->Value}{fp:Key->List Nat}{σ τ:aa U}{a:Act}{w w':World}
structure Item(U:dh) where
 o:Oper
 r:aw U
 ks:List Key
def eF(i:Nat)(it:Item U):Rec:=⟨i,it.ks,it.r.names,it.r.writes (it.o.dst.getD 1000000),it.r.news (it.o.dst.getD 1000000)⟩
def b_(ops:List Oper)(o:Oper)(σ:aa U):Option Bool:=
 match o.guard with
 |none=>some true
 |some (g,want)=>match((ops[g]?).bind (·.dst)).bind σ.get with
  |some (.v x)=>match cr (.v x) with
   |some (.bool b)=>some (u_ b want)
   |_=>none
  |some (.iV [])=>some false
  |_=>none
def BF(E:Env U)(ops:List Oper)(it:Item U)(σ:aa U)(rs:List Rec):Prop:=
 fF σ it.o=true/\
 ((b_ ops it.o σ=some false/\it.r=kl/\it.ks=[])\/
  (b_ ops it.o σ=some true/\(∃b,step E b σ it.o=some (it.r,it.ks))/\(∀p∈it.r.pre,p)/\gF (it.o.dst.getD 1000000) it.r rs=true/\jv it.o it.r=true))
def xe(E:Env U)(ops:List Oper):Nat->List (Item U)->aa U->List Rec->Prop
 |_,[],_,_=>True
 |i,it::r,σ,rs=>BF E ops it σ rs/\xe E ops (i+1) r (apply it.o it.r σ) (eF i it::rs)
def jt:List (Item U)->aa U->aa U
 |[],σ=>σ
 |it::r,σ=>jt r (apply it.o it.r σ)
def jU:Nat->List (Item U)->List Rec->List Rec
 |_,[],rs=>rs
 |i,it::r,rs=>jU (i+1) r (eF i it::rs)
theorem C6{r:aw U}{b:Bool}(h:ns r.val=some (.bool b)):yp r b=r:=by
 obtain⟨v,ad,ki,up,pr⟩:=r
 unfold ns at h
 simp only at h
 split at h
 ·rename_i y
  rw[kx h];rfl
 ·cases h
theorem yC{b:Bool}{ops:List Oper}{i:Nat}{o:Oper}{rs:List Rec}{K:aa U->Rec->Prop}(h:pE E b ops i o σ rs K):
  ∃r ks,step E b σ o=some (r,ks)/\(∀p∈r.pre,p)/\gF (o.dst.getD 1000000) r rs=true/\jv o r=true/\K (apply o r σ) ⟨i,ks,r.names,r.writes (o.dst.getD 1000000),r.news (o.dst.getD 1000000)⟩:=by
 unfold pE at h
 split at h
 ·rename_i r ks hs
  rw[D2] at h
  obtain⟨h1,h2⟩:=h
  have h3:tn i o σ rs ks K r:=by
   rw[bY] at h2
   split at h2
   ·split at h2
    ·rename_i b hb
     cases b with
     |true=>rw[C6 hb] at h2;exact h2
     |false=>rw[C6 hb] at h2;exact h2
    ·exact h2.elim
   ·exact h2
  unfold tn at h3
  rw[bY] at h3
  split at h3
  ·rename_i hc
   simp only[dR] at hc
   exact⟨r,ks,hs,h1,hc.1,hc.2,h3⟩
  ·exact h3.elim
 ·exact h.elim
theorem Hg{ops:List Oper}{i:Nat}{o:Oper}{rs:List Rec}{K:aa U->Rec->Prop}(h:pD E ops i o σ rs K):
  ∃b r ks,step E b σ o=some (r,ks)/\(∀p∈r.pre,p)/\gF (o.dst.getD 1000000) r rs=true/\jv o r=true/\K (apply o r σ) ⟨i,ks,r.names,r.writes (o.dst.getD 1000000),r.news (o.dst.getD 1000000)⟩:=by
 unfold pD at h
 rw[bY] at h
 split at h
 ·rcases h with h|h
  ·exact⟨_,yC h⟩
  ·exact⟨_,yC h⟩
 ·exact⟨_,yC h⟩
theorem yB{ops:List Oper}:∀{rest:List Oper}{i:Nat}{σ:aa U}{rs:List Rec}{K:aa U->List Rec->Prop},AM.wpOps E ops rest i σ rs K->
  ∃items:List (Item U),items.map (·.o)=rest/\xe E ops i items σ rs/\K (jt items σ) (jU i items rs)
 |[],i,σ,rs,K,h=>⟨[],rfl,trivial,h⟩
 |o::rest,i,σ,rs,K,h=>by
  have go:∀{K':aa U->Rec->Prop},b_ ops o σ=some true->pD E ops i o σ rs (fun dD r=>AM.wpOps E ops rest (i+1) dD (r::rs) K)->
    ∃items:List (Item U),items.map (·.o)=o::rest/\xe E ops i items σ rs/\K (jt items σ) (jU i items rs):=by
   intro K' hw h
   obtain⟨b,r,ks,h1,h2,h3,h4,h5⟩:=Hg h
   obtain⟨items,g1,g2,g3⟩:=yB h5
   have hd:fF σ o=true:=by
    unfold step at h1
    rw[bY] at h1
    split at h1
    ·rename_i hc;simp only[dR] at hc;exact hc.1
    ·cases h1
   exact⟨⟨o,r,ks⟩::items,by simp[g1],⟨⟨hd,.inr ⟨hw,⟨b,h1⟩,h2,h3,h4⟩⟩,g2⟩,g3⟩
  have skip:b_ ops o σ=some false->fF σ o=true->AM.wpOps E ops rest (i+1) (apply o kl σ) (⟨i,[],[],[],[]⟩::rs) K->
    ∃items:List (Item U),items.map (·.o)=o::rest/\xe E ops i items σ rs/\K (jt items σ) (jU i items rs):=by
   intro hw hd h
   obtain⟨items,g1,g2,g3⟩:=yB h
   exact⟨⟨o,kl,[]⟩::items,by simp[g1],⟨⟨hd,.inl ⟨hw,rfl,rfl⟩⟩,g2⟩,g3⟩
  simp only[AM.wpOps] at h
  split at h
  ·rename_i mN
   exact go (K':=fun _ _=>True) (by unfold b_;rw[mN]) h
  ·rename_i g want mN
   split at h
   ·rename_i x hx
    split at h
    ·rename_i b hb
     have hw:b_ ops o σ=some (u_ b want):=by unfold b_;simp only[mN,hx,hb]
     cases P6:u_ b want<;>rw[P6] at h hw<;>simp only[cond_true,cond_false] at h
     ·rw[bY] at h
      split at h
      ·rename_i hd;exact skip hw hd h
      ·exact h.elim
     ·exact go (K':=fun _ _=>True) hw h
    ·exact h.elim
   ·rename_i hx
    rw[bY] at h
    split at h
    ·rename_i hd
     exact skip (by unfold b_;simp only[mN,hx]) hd h
    ·exact h.elim
   ·exact h.elim
theorem JC(a b:Bool):u_ a b=(a==b):=by cases a<;>cases b<;>rfl
theorem CN(h:aC E pm F kv fp σ a w){ops:Array Oper}{o:Oper}{b:Bool}(hw:b_ ops.toList o σ=some b):Region.wanted o (yielded ops a.tmps)=b:=by
 unfold b_ at hw
 unfold Region.wanted
 split at hw
 ·rename_i hg;rw[hg];cases hw;rfl
 ·rename_i g want hg
  rw[hg]
  simp only
  unfold yielded
  have e:ops.toList[g]? =ops[g]? :=by simp
  rw[e] at hw
  cases ht:(ops[g]?).bind (·.dst) with
  |none=>rw[ht] at hw;simp at hw
  |some t=>
   rw[ht] at hw
   simp only[Option.bind_some] at hw⊢
   have gA:∀v:Value,a.tmps.getD t undef=v->v≠undef->a.tmps[t]? =some v:=by
    intro v hv a_
    rw[tm] at hv
    cases hx:a.tmps[t]? with
    |none=>rw[hx] at hv;exact absurd hv.symm a_
    |some u=>rw[hx] at hv;simp at hv;rw[hv]
   split at hw
   ·rename_i x hx
    split at hw
    ·rename_i c hc
     cases hw
     have hv:=fq (h.ap t _ hx) hc
     rw[gA _ hv (by simp[undef])]
     rw[JC]
     cases c<;>cases want<;>rfl
    ·cases hw
   ·rename_i hx
    cases hw
    have hv:a.tmps.getD t undef=undef:=by
     obtain⟨vs,h1,h2,_⟩:=h.ap t _ hx
     cases vs with
     |nil=>exact h1
     |cons v vs=>simp at h2
    rw[tm] at hv
    cases hx:a.tmps[t]? with
    |none=>rfl
    |some u=>rw[hx] at hv;simp at hv;rw[hv];rfl
   ·cases hw
theorem Dz(hE:E.Good)(h:aC E pm F kv fp σ a w){ops:Array Oper}{i:Nat}{it:Item U}(hi:ops[i]? =some it.o)(hd:fF σ it.o=true)
  (qm:(b_ ops.toList it.o σ=some false/\it.r=kl)\/(b_ ops.toList it.o σ=some true/\(∃b,step E b σ it.o=some (it.r,it.ks))/\(∀p∈it.r.pre,p)/\∀k∈aQ it.o it.r,¬Names σ k))
  {K:Act->World->Prop} {Q:Exit->Act->World->Prop} (hn:∀F kv fp a' w',aC E pm F kv fp (apply it.o it.r σ) a' w'->K a' w'):wpOp E.P ops Q i K a w:=by
 unfold wpOp
 simp only[hi]
 rcases qm with⟨h1,h2⟩|⟨h1,h2,h3,h4⟩
 ·rw[CN h h1]
  simp only[lN,if_false]
  refine hn F kv fp _ w ?_
  rw[h2]
  refine h.val it.o (some (.iV [])) [] undef (fun d dq=> ?_) (fun x hx=> ?_)
  ·unfold fF at hd
   rw[dq] at hd
   exact Nat.blt_eq▸hd
  ·cases hx
   exact⟨[],rfl,rfl,fun i x u hx=>by simp at hx⟩
 ·rw[CN h h1]
  simp only[if_true]
  obtain⟨b,h2⟩:=h2
  exact .inl (Ht hE h h2 h3 h4 hn)
end AM
