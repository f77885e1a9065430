/- THE ABSTRACT MACHINE: a region, in whatever order its operations are done. -/
import Derived.Test.YtjlajhgabffmpaaGreatQAmLoc
namespace AM
set_option linter.unusedVariables false
open Go
variable{U:lu}{E:Env U}{pm:Pm}
variable{F F':Nat->Prop}{kv:Key->Value}{fp:Key->List Nat}{σ τ:ai U}{a:Act}{w w':World}
structure Item(U:lu) where
 o:Oper
 r:cm U
 ks:List Key
def n_(i:Nat)(it:Item U):Rec:=⟨i,it.ks,it.r.names,it.r.writes (it.o.dst.getD 1000000),it.r.news (it.o.dst.getD 1000000)⟩
def iL(ops:List Oper)(o:Oper)(σ:ai U):Option Bool:=
 match o.guard with
 |none=>some true
 |some (g,want)=>match((ops[g]?).bind (·.dst)).bind σ.get with
  |some (.v x)=>match jj (.v x) with
   |some (.bool b)=>some (Tp b want)
   |_=>none
  |some (.wm [])=>some false
  |_=>none
def aby(E:Env U)(ops:List Oper)(it:Item U)(σ:ai U)(rs:List Rec):Prop:=
 qH σ it.o=true/\
 ((iL ops it.o σ=some false/\it.r=zA/\it.ks=[])\/
  (iL ops it.o σ=some true/\(∃b,step E b σ it.o=some (it.r,it.ks))/\(∀p∈it.r.pre,p)/\sW (it.o.dst.getD 1000000) it.r rs=true/\xe it.o it.r=true))
def WB(E:Env U)(ops:List Oper):Nat->List (Item U)->ai U->List Rec->Prop
 |_,[],_,_=>True
 |i,it::r,σ,rs=>aby E ops it σ rs/\WB E ops (i+1) r (apply it.o it.r σ) (n_ i it::rs)
def xa:List (Item U)->ai U->ai U
 |[],σ=>σ
 |it::r,σ=>xa r (apply it.o it.r σ)
def yo:Nat->List (Item U)->List Rec->List Rec
 |_,[],rs=>rs
 |i,it::r,rs=>yo (i+1) r (n_ i it::rs)
theorem acn{r:cm U}{b:Bool}(h:Gv r.val=some (.bool b)):Zs r b=r:=by
 obtain⟨v,ad,ki,up,pr⟩:=r
 unfold Gv at h
 simp only at h
 split at h
 ·rename_i y
  rw[zO h];rfl
 ·cases h
theorem ZA{b:Bool}{ops:List Oper}{i:Nat}{o:Oper}{rs:List Rec}{K:ai U->Rec->Prop}(h:J1 E b ops i o σ rs K):
  ∃r ks,step E b σ o=some (r,ks)/\(∀p∈r.pre,p)/\sW (o.dst.getD 1000000) r rs=true/\xe o r=true/\K (apply o r σ) ⟨i,ks,r.names,r.writes (o.dst.getD 1000000),r.news (o.dst.getD 1000000)⟩:=by
 unfold J1 at h
 split at h
 ·rename_i r ks hs
  rw[adm] at h
  obtain⟨h1,h2⟩:=h
  have h3:Q0 i o σ rs ks K r:=by
   rw[iu] at h2
   split at h2
   ·split at h2
    ·rename_i b hb
     cases b with
     |true=>rw[acn hb] at h2;exact h2
     |false=>rw[acn hb] at h2;exact h2
    ·exact h2.elim
   ·exact h2
  unfold Q0 at h3
  rw[iu] at h3
  split at h3
  ·rename_i hc
   simp only[cO] at hc
   exact⟨r,ks,hs,h1,hc.1,hc.2,h3⟩
  ·exact h3.elim
 ·exact h.elim
theorem ajE{ops:List Oper}{i:Nat}{o:Oper}{rs:List Rec}{K:ai U->Rec->Prop}(h:J0 E ops i o σ rs K):
  ∃b r ks,step E b σ o=some (r,ks)/\(∀p∈r.pre,p)/\sW (o.dst.getD 1000000) r rs=true/\xe o r=true/\K (apply o r σ) ⟨i,ks,r.names,r.writes (o.dst.getD 1000000),r.news (o.dst.getD 1000000)⟩:=by
 unfold J0 at h
 rw[iu] at h
 split at h
 ·rcases h with h|h
  ·exact⟨_,ZA h⟩
  ·exact⟨_,ZA h⟩
 ·exact⟨_,ZA h⟩
theorem Zz{ops:List Oper}:∀{rest:List Oper}{i:Nat}{σ:ai U}{rs:List Rec}{K:ai U->List Rec->Prop},AM.wpOps E ops rest i σ rs K->
  ∃items:List (Item U),items.map (·.o)=rest/\WB E ops i items σ rs/\K (xa items σ) (yo i items rs)
 |[],i,σ,rs,K,h=>⟨[],rfl,trivial,h⟩
 |o::rest,i,σ,rs,K,h=>by
  have go:∀{K':ai U->Rec->Prop},iL ops o σ=some true->J0 E ops i o σ rs (fun l9 r=>AM.wpOps E ops rest (i+1) l9 (r::rs) K)->
    ∃items:List (Item U),items.map (·.o)=o::rest/\WB E ops i items σ rs/\K (xa items σ) (yo i items rs):=by
   intro K' hw h
   obtain⟨b,r,ks,h1,h2,h3,h4,h5⟩:=ajE h
   obtain⟨items,g1,g2,g3⟩:=Zz h5
   have hd:qH σ o=true:=by
    unfold step at h1
    rw[iu] at h1
    split at h1
    ·rename_i hc;simp only[cO] at hc;exact hc.1
    ·cases h1
   exact⟨⟨o,r,ks⟩::items,by simp[g1],⟨⟨hd,.inr ⟨hw,⟨b,h1⟩,h2,h3,h4⟩⟩,g2⟩,g3⟩
  have skip:iL ops o σ=some false->qH σ o=true->AM.wpOps E ops rest (i+1) (apply o zA σ) (⟨i,[],[],[],[]⟩::rs) K->
    ∃items:List (Item U),items.map (·.o)=o::rest/\WB E ops i items σ rs/\K (xa items σ) (yo i items rs):=by
   intro hw hd h
   obtain⟨items,g1,g2,g3⟩:=Zz h
   exact⟨⟨o,zA,[]⟩::items,by simp[g1],⟨⟨hd,.inl ⟨hw,rfl,rfl⟩⟩,g2⟩,g3⟩
  simp only[AM.wpOps] at h
  split at h
  ·rename_i Mm
   exact go (K':=fun _ _=>True) (by unfold iL;rw[Mm]) h
  ·rename_i g want Mm
   split at h
   ·rename_i x hx
    split at h
    ·rename_i b hb
     have hw:iL ops o σ=some (Tp b want):=by unfold iL;simp only[Mm,hx,hb]
     cases hbw:Tp b want<;>rw[hbw] at h hw<;>simp only[cond_true,cond_false] at h
     ·rw[iu] at h
      split at h
      ·rename_i hd;exact skip hw hd h
      ·exact h.elim
     ·exact go (K':=fun _ _=>True) hw h
    ·exact h.elim
   ·rename_i hx
    rw[iu] at h
    split at h
    ·rename_i hd
     exact skip (by unfold iL;simp only[Mm,hx]) hd h
    ·exact h.elim
   ·exact h.elim
theorem alW(a b:Bool):Tp a b=(a==b):=by cases a<;>cases b<;>rfl
theorem ab9(h:cQ E pm F kv fp σ a w){ops:Array Oper}{o:Oper}{b:Bool}(hw:iL ops.toList o σ=some b):Region.wanted o (yielded ops a.tmps)=b:=by
 unfold iL at hw
 unfold Region.wanted
 split at hw
 ·rename_i hg;rw[hg];cases hw;rfl
 ·rename_i g want hg
  rw[hg]
  simp only
  unfold yielded
  have e:ops.toList[g]? =ops[g]? :=by simp
  rw[e] at hw
  cases ht:(ops[g]?).bind (·.dst) with
  |none=>rw[ht] at hw;simp at hw
  |some t=>
   rw[ht] at hw
   simp only[Option.bind_some] at hw⊢
   have sQ:∀v:Value,a.tmps.getD t undef=v->v≠undef->a.tmps[t]? =some v:=by
    intro v hv fg
    rw[QY] at hv
    cases hx:a.tmps[t]? with
    |none=>rw[hx] at hv;exact absurd hv.symm fg
    |some u=>rw[hx] at hv;simp at hv;rw[hv]
   split at hw
   ·rename_i x hx
    split at hw
    ·rename_i c hc
     cases hw
     have hv:=qd (h.bI t _ hx) hc
     rw[sQ _ hv (by simp[undef])]
     rw[alW]
     cases c<;>cases want<;>rfl
    ·cases hw
   ·rename_i hx
    cases hw
    have hv:a.tmps.getD t undef=undef:=by
     obtain⟨vs,h1,h2,_⟩:=h.bI t _ hx
     cases vs with
     |nil=>exact h1
     |cons v vs=>simp at h2
    rw[QY] at hv
    cases hx:a.tmps[t]? with
    |none=>rfl
    |some u=>rw[hx] at hv;simp at hv;rw[hv];rfl
   ·cases hw
theorem acU(hE:E.Good)(h:cQ E pm F kv fp σ a w){ops:Array Oper}{i:Nat}{it:Item U}(hi:ops[i]? =some it.o)(hd:qH σ it.o=true)
  (Ml:(iL ops.toList it.o σ=some false/\it.r=zA)\/(iL ops.toList it.o σ=some true/\(∃b,step E b σ it.o=some (it.r,it.ks))/\(∀p∈it.r.pre,p)/\∀k∈eo it.o it.r,¬Names σ k))
  {K:Act->World->Prop} {Q:Exit->Act->World->Prop} (hn:∀F kv fp a' w',cQ E pm F kv fp (apply it.o it.r σ) a' w'->K a' w'):wpOp E.P ops Q i K a w:=by
 unfold wpOp
 simp only[hi]
 rcases Ml with⟨h1,h2⟩|⟨h1,h2,h3,h4⟩
 ·rw[ab9 h h1]
  simp only[xt,if_false]
  refine hn F kv fp _ w ?_
  rw[h2]
  refine h.val it.o (some (.wm [])) [] undef (fun d kY=> ?_) (fun x hx=> ?_)
  ·unfold qH at hd
   rw[kY] at hd
   exact Nat.blt_eq▸hd
  ·cases hx
   exact⟨[],rfl,rfl,fun i x u hx=>by simp at hx⟩
 ·rw[ab9 h h1]
  simp only[if_true]
  obtain⟨b,h2⟩:=h2
  exact .inl (ajR hE h h2 h3 h4 hn)
end AM
