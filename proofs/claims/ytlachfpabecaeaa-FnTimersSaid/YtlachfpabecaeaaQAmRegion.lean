/- THE ABSTRACT MACHINE: a region, in whatever order its operations are done. -/
import Derived.Test.YtlachfpabecaeaaQAmLoc
namespace AM
set_option linter.unusedVariables false
open Go
variable{U:dw}{E:Env U}{pm:Pm}
variable{F F':Nat->Prop}{kv:Key->Value}{fp:Key->List Nat}{σ τ:aa U}{a:Act}{w w':World}
structure Item(U:dw) where
 o:Oper
 r:az U
 ks:List Key
def eY(i:Nat)(it:Item U):Rec:=⟨i,it.ks,it.r.names,it.r.writes (it.o.dst.getD 1000000),it.r.news (it.o.dst.getD 1000000)⟩
def b7(ops:List Oper)(o:Oper)(σ:aa U):Option Bool:=
 match o.guard with
 |none=>some true
 |some (g,want)=>match((ops[g]?).bind (·.dst)).bind σ.get with
  |some (.v x)=>match cq (.v x) with
   |some (.bool b)=>some (wj b want)
   |_=>none
  |some (.jx [])=>some false
  |_=>none
def BW(E:Env U)(ops:List Oper)(it:Item U)(σ:aa U)(rs:List Rec):Prop:=
 gh σ it.o=true/\
 ((b7 ops it.o σ=some false/\it.r=kW/\it.ks=[])\/
  (b7 ops it.o σ=some true/\(∃b,step E b σ it.o=some (it.r,it.ks))/\(∀p∈it.r.pre,p)/\hO (it.o.dst.getD 1000000) it.r rs=true/\jY it.o it.r=true))
def yo(E:Env U)(ops:List Oper):Nat->List (Item U)->aa U->List Rec->Prop
 |_,[],_,_=>True
 |i,it::r,σ,rs=>BW E ops it σ rs/\yo E ops (i+1) r (apply it.o it.r σ) (eY i it::rs)
def jW:List (Item U)->aa U->aa U
 |[],σ=>σ
 |it::r,σ=>jW r (apply it.o it.r σ)
def kB:Nat->List (Item U)->List Rec->List Rec
 |_,[],rs=>rs
 |i,it::r,rs=>kB (i+1) r (eY i it::rs)
theorem Dk{r:az U}{b:Bool}(h:n9 r.val=some (.bool b)):zD r b=r:=by
 obtain⟨v,ad,ki,up,pr⟩:=r
 unfold n9 at h
 simp only at h
 split at h
 ·rename_i y
  rw[ld h];rfl
 ·cases h
theorem zL{b:Bool}{ops:List Oper}{i:Nat}{o:Oper}{rs:List Rec}{K:aa U->Rec->Prop}(h:qm E b ops i o σ rs K):
  ∃r ks,step E b σ o=some (r,ks)/\(∀p∈r.pre,p)/\hO (o.dst.getD 1000000) r rs=true/\jY o r=true/\K (apply o r σ) ⟨i,ks,r.names,r.writes (o.dst.getD 1000000),r.news (o.dst.getD 1000000)⟩:=by
 unfold qm at h
 split at h
 ·rename_i r ks hs
  rw[Eh] at h
  obtain⟨h1,h2⟩:=h
  have h3:uH i o σ rs ks K r:=by
   rw[bV] at h2
   split at h2
   ·split at h2
    ·rename_i b hb
     cases b with
     |true=>rw[Dk hb] at h2;exact h2
     |false=>rw[Dk hb] at h2;exact h2
    ·exact h2.elim
   ·exact h2
  unfold uH at h3
  rw[bV] at h3
  split at h3
  ·rename_i hc
   simp only[c9] at hc
   exact⟨r,ks,hs,h1,hc.1,hc.2,h3⟩
  ·exact h3.elim
 ·exact h.elim
theorem HG{ops:List Oper}{i:Nat}{o:Oper}{rs:List Rec}{K:aa U->Rec->Prop}(h:ql E ops i o σ rs K):
  ∃b r ks,step E b σ o=some (r,ks)/\(∀p∈r.pre,p)/\hO (o.dst.getD 1000000) r rs=true/\jY o r=true/\K (apply o r σ) ⟨i,ks,r.names,r.writes (o.dst.getD 1000000),r.news (o.dst.getD 1000000)⟩:=by
 unfold ql at h
 rw[bV] at h
 split at h
 ·rcases h with h|h
  ·exact⟨_,zL h⟩
  ·exact⟨_,zL h⟩
 ·exact⟨_,zL h⟩
theorem zK{ops:List Oper}:∀{rest:List Oper}{i:Nat}{σ:aa U}{rs:List Rec}{K:aa U->List Rec->Prop},AM.wpOps E ops rest i σ rs K->
  ∃items:List (Item U),items.map (·.o)=rest/\yo E ops i items σ rs/\K (jW items σ) (kB i items rs)
 |[],i,σ,rs,K,h=>⟨[],rfl,trivial,h⟩
 |o::rest,i,σ,rs,K,h=>by
  have go:∀{K':aa U->Rec->Prop},b7 ops o σ=some true->ql E ops i o σ rs (fun dR r=>AM.wpOps E ops rest (i+1) dR (r::rs) K)->
    ∃items:List (Item U),items.map (·.o)=o::rest/\yo E ops i items σ rs/\K (jW items σ) (kB i items rs):=by
   intro K' hw h
   obtain⟨b,r,ks,h1,h2,h3,h4,h5⟩:=HG h
   obtain⟨items,g1,g2,g3⟩:=zK h5
   have hd:gh σ o=true:=by
    unfold step at h1
    rw[bV] at h1
    split at h1
    ·rename_i hc;simp only[c9] at hc;exact hc.1
    ·cases h1
   exact⟨⟨o,r,ks⟩::items,by simp[g1],⟨⟨hd,.inr ⟨hw,⟨b,h1⟩,h2,h3,h4⟩⟩,g2⟩,g3⟩
  have skip:b7 ops o σ=some false->gh σ o=true->AM.wpOps E ops rest (i+1) (apply o kW σ) (⟨i,[],[],[],[]⟩::rs) K->
    ∃items:List (Item U),items.map (·.o)=o::rest/\yo E ops i items σ rs/\K (jW items σ) (kB i items rs):=by
   intro hw hd h
   obtain⟨items,g1,g2,g3⟩:=zK h
   exact⟨⟨o,kW,[]⟩::items,by simp[g1],⟨⟨hd,.inl ⟨hw,rfl,rfl⟩⟩,g2⟩,g3⟩
  simp only[AM.wpOps] at h
  split at h
  ·rename_i nF
   exact go (K':=fun _ _=>True) (by unfold b7;rw[nF]) h
  ·rename_i g want nF
   split at h
   ·rename_i x hx
    split at h
    ·rename_i b hb
     have hw:b7 ops o σ=some (wj b want):=by unfold b7;simp only[nF,hx,hb]
     cases OV:wj b want<;>rw[OV] at h hw<;>simp only[cond_true,cond_false] at h
     ·rw[bV] at h
      split at h
      ·rename_i hd;exact skip hw hd h
      ·exact h.elim
     ·exact go (K':=fun _ _=>True) hw h
    ·exact h.elim
   ·rename_i hx
    rw[bV] at h
    split at h
    ·rename_i hd
     exact skip (by unfold b7;simp only[nF,hx]) hd h
    ·exact h.elim
   ·exact h.elim
theorem J1(a b:Bool):wj a b=(a==b):=by cases a<;>cases b<;>rfl
theorem C8(h:aE E pm F kv fp σ a w){ops:Array Oper}{o:Oper}{b:Bool}(hw:b7 ops.toList o σ=some b):Region.wanted o (yielded ops a.tmps)=b:=by
 unfold b7 at hw
 unfold Region.wanted
 split at hw
 ·rename_i hg;rw[hg];cases hw;rfl
 ·rename_i g want hg
  rw[hg]
  simp only
  unfold yielded
  have e:ops.toList[g]? =ops[g]? :=by simp
  rw[e] at hw
  cases ht:(ops[g]?).bind (·.dst) with
  |none=>rw[ht] at hw;simp at hw
  |some t=>
   rw[ht] at hw
   simp only[Option.bind_some] at hw⊢
   have gZ:∀v:Value,a.tmps.getD t undef=v->v≠undef->a.tmps[t]? =some v:=by
    intro v hv aX
    rw[uG] at hv
    cases hx:a.tmps[t]? with
    |none=>rw[hx] at hv;exact absurd hv.symm aX
    |some u=>rw[hx] at hv;simp at hv;rw[hv]
   split at hw
   ·rename_i x hx
    split at hw
    ·rename_i c hc
     cases hw
     have hv:=fR (h.au t _ hx) hc
     rw[gZ _ hv (by simp[undef])]
     rw[J1]
     cases c<;>cases want<;>rfl
    ·cases hw
   ·rename_i hx
    cases hw
    have hv:a.tmps.getD t undef=undef:=by
     obtain⟨vs,h1,h2,_⟩:=h.au t _ hx
     cases vs with
     |nil=>exact h1
     |cons v vs=>simp at h2
    rw[uG] at hv
    cases hx:a.tmps[t]? with
    |none=>rfl
    |some u=>rw[hx] at hv;simp at hv;rw[hv];rfl
   ·cases hw
theorem DQ(hE:E.Good)(h:aE E pm F kv fp σ a w){ops:Array Oper}{i:Nat}{it:Item U}(hi:ops[i]? =some it.o)(hd:gh σ it.o=true)
  (rH:(b7 ops.toList it.o σ=some false/\it.r=kW)\/(b7 ops.toList it.o σ=some true/\(∃b,step E b σ it.o=some (it.r,it.ks))/\(∀p∈it.r.pre,p)/\∀k∈aM it.o it.r,¬Names σ k))
  {K:Act->World->Prop} {Q:Exit->Act->World->Prop} (hn:∀F kv fp a' w',aE E pm F kv fp (apply it.o it.r σ) a' w'->K a' w'):wpOp E.P ops Q i K a w:=by
 unfold wpOp
 simp only[hi]
 rcases rH with⟨h1,h2⟩|⟨h1,h2,h3,h4⟩
 ·rw[C8 h h1]
  simp only[mF,if_false]
  refine hn F kv fp _ w ?_
  rw[h2]
  refine h.val it.o (some (.jx [])) [] undef (fun d dD=> ?_) (fun x hx=> ?_)
  ·unfold gh at hd
   rw[dD] at hd
   exact Nat.blt_eq▸hd
  ·cases hx
   exact⟨[],rfl,rfl,fun i x u hx=>by simp at hx⟩
 ·rw[C8 h h1]
  simp only[if_true]
  obtain⟨b,h2⟩:=h2
  exact .inl (HU hE h h2 h3 h4 hn)
end AM
