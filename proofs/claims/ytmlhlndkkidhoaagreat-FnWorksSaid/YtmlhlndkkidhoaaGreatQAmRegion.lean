/- THE ABSTRACT MACHINE: a region, in whatever order its operations are done. -/
import Derived.Test.YtmlhlndkkidhoaaGreatQAmLoc
namespace AM
set_option linter.unusedVariables false
open Go
variable{U:kZ}{E:Env U}{pm:Pm}
variable{F F':Nat->Prop}{kv:Key->Value}{fp:Key->List Nat}{σ τ:ah U}{a:Act}{w w':World}
structure Item(U:kZ) where
 o:Oper
 r:cd U
 ks:List Key
def nG(i:Nat)(it:Item U):Rec:=⟨i,it.ks,it.r.names,it.r.writes (it.o.dst.getD 1000000),it.r.news (it.o.dst.getD 1000000)⟩
def iw(ops:List Oper)(o:Oper)(σ:ah U):Option Bool:=
 match o.guard with
 |none=>some true
 |some (g,want)=>match((ops[g]?).bind (·.dst)).bind σ.get with
  |some (.v x)=>match iR (.v x) with
   |some (.bool b)=>some (QD b want)
   |_=>none
  |some (.vf [])=>some false
  |_=>none
def abf(E:Env U)(ops:List Oper)(it:Item U)(σ:ah U)(rs:List Rec):Prop:=
 qb σ it.o=true/\
 ((iw ops it.o σ=some false/\it.r=yo/\it.ks=[])\/
  (iw ops it.o σ=some true/\(∃b,step E b σ it.o=some (it.r,it.ks))/\(∀p∈it.r.pre,p)/\rR (it.o.dst.getD 1000000) it.r rs=true/\wa it.o it.r=true))
def VD(E:Env U)(ops:List Oper):Nat->List (Item U)->ah U->List Rec->Prop
 |_,[],_,_=>True
 |i,it::r,σ,rs=>abf E ops it σ rs/\VD E ops (i+1) r (apply it.o it.r σ) (nG i it::rs)
def v5:List (Item U)->ah U->ah U
 |[],σ=>σ
 |it::r,σ=>v5 r (apply it.o it.r σ)
def xm:Nat->List (Item U)->List Rec->List Rec
 |_,[],rs=>rs
 |i,it::r,rs=>xm (i+1) r (nG i it::rs)
theorem ab2{r:cd U}{b:Bool}(h:EU r.val=some (.bool b)):Xu r b=r:=by
 obtain⟨v,ad,ki,up,pr⟩:=r
 unfold EU at h
 simp only at h
 split at h
 ·rename_i y
  rw[yJ h];rfl
 ·cases h
theorem XC{b:Bool}{ops:List Oper}{i:Nat}{o:Oper}{rs:List Rec}{K:ah U->Rec->Prop}(h:H7 E b ops i o σ rs K):
  ∃r ks,step E b σ o=some (r,ks)/\(∀p∈r.pre,p)/\rR (o.dst.getD 1000000) r rs=true/\wa o r=true/\K (apply o r σ) ⟨i,ks,r.names,r.writes (o.dst.getD 1000000),r.news (o.dst.getD 1000000)⟩:=by
 unfold H7 at h
 split at h
 ·rename_i r ks hs
  rw[ac3] at h
  obtain⟨h1,h2⟩:=h
  have h3:Ov i o σ rs ks K r:=by
   rw[h_] at h2
   split at h2
   ·split at h2
    ·rename_i b hb
     cases b with
     |true=>rw[ab2 hb] at h2;exact h2
     |false=>rw[ab2 hb] at h2;exact h2
    ·exact h2.elim
   ·exact h2
  unfold Ov at h3
  rw[h_] at h3
  split at h3
  ·rename_i hc
   simp only[cK] at hc
   exact⟨r,ks,hs,h1,hc.1,hc.2,h3⟩
  ·exact h3.elim
 ·exact h.elim
theorem alq{ops:List Oper}{i:Nat}{o:Oper}{rs:List Rec}{K:ah U->Rec->Prop}(h:H6 E ops i o σ rs K):
  ∃b r ks,step E b σ o=some (r,ks)/\(∀p∈r.pre,p)/\rR (o.dst.getD 1000000) r rs=true/\wa o r=true/\K (apply o r σ) ⟨i,ks,r.names,r.writes (o.dst.getD 1000000),r.news (o.dst.getD 1000000)⟩:=by
 unfold H6 at h
 rw[h_] at h
 split at h
 ·rcases h with h|h
  ·exact⟨_,XC h⟩
  ·exact⟨_,XC h⟩
 ·exact⟨_,XC h⟩
theorem XB{ops:List Oper}:∀{rest:List Oper}{i:Nat}{σ:ah U}{rs:List Rec}{K:ah U->List Rec->Prop},AM.wpOps E ops rest i σ rs K->
  ∃items:List (Item U),items.map (·.o)=rest/\VD E ops i items σ rs/\K (v5 items σ) (xm i items rs)
 |[],i,σ,rs,K,h=>⟨[],rfl,trivial,h⟩
 |o::rest,i,σ,rs,K,h=>by
  have go:∀{K':ah U->Rec->Prop},iw ops o σ=some true->H6 E ops i o σ rs (fun lz r=>AM.wpOps E ops rest (i+1) lz (r::rs) K)->
    ∃items:List (Item U),items.map (·.o)=o::rest/\VD E ops i items σ rs/\K (v5 items σ) (xm i items rs):=by
   intro K' hw h
   obtain⟨b,r,ks,h1,h2,h3,h4,h5⟩:=alq h
   obtain⟨items,g1,g2,g3⟩:=XB h5
   have hd:qb σ o=true:=by
    unfold step at h1
    rw[h_] at h1
    split at h1
    ·rename_i hc;simp only[cK] at hc;exact hc.1
    ·cases h1
   exact⟨⟨o,r,ks⟩::items,by simp[g1],⟨⟨hd,.inr ⟨hw,⟨b,h1⟩,h2,h3,h4⟩⟩,g2⟩,g3⟩
  have skip:iw ops o σ=some false->qb σ o=true->AM.wpOps E ops rest (i+1) (apply o yo σ) (⟨i,[],[],[],[]⟩::rs) K->
    ∃items:List (Item U),items.map (·.o)=o::rest/\VD E ops i items σ rs/\K (v5 items σ) (xm i items rs):=by
   intro hw hd h
   obtain⟨items,g1,g2,g3⟩:=XB h
   exact⟨⟨o,yo,[]⟩::items,by simp[g1],⟨⟨hd,.inl ⟨hw,rfl,rfl⟩⟩,g2⟩,g3⟩
  simp only[AM.wpOps] at h
  split at h
  ·rename_i Kd
   exact go (K':=fun _ _=>True) (by unfold iw;rw[Kd]) h
  ·rename_i g want Kd
   split at h
   ·rename_i x hx
    split at h
    ·rename_i b hb
     have hw:iw ops o σ=some (QD b want):=by unfold iw;simp only[Kd,hx,hb]
     cases hbw:QD b want<;>rw[hbw] at h hw<;>simp only[cond_true,cond_false] at h
     ·rw[h_] at h
      split at h
      ·rename_i hd;exact skip hw hd h
      ·exact h.elim
     ·exact go (K':=fun _ _=>True) hw h
    ·exact h.elim
   ·rename_i hx
    rw[h_] at h
    split at h
    ·rename_i hd
     exact skip (by unfold iw;simp only[Kd,hx]) hd h
    ·exact h.elim
   ·exact h.elim
theorem anL(a b:Bool):QD a b=(a==b):=by cases a<;>cases b<;>rfl
theorem abO(h:cE E pm F kv fp σ a w){ops:Array Oper}{o:Oper}{b:Bool}(hw:iw ops.toList o σ=some b):Region.wanted o (yielded ops a.tmps)=b:=by
 unfold iw at hw
 unfold Region.wanted
 split at hw
 ·rename_i hg;rw[hg];cases hw;rfl
 ·rename_i g want hg
  rw[hg]
  simp only
  unfold yielded
  have e:ops.toList[g]? =ops[g]? :=by simp
  rw[e] at hw
  cases ht:(ops[g]?).bind (·.dst) with
  |none=>rw[ht] at hw;simp at hw
  |some t=>
   rw[ht] at hw
   simp only[Option.bind_some] at hw⊢
   have rL:∀v:Value,a.tmps.getD t undef=v->v≠undef->a.tmps[t]? =some v:=by
    intro v hv eO
    rw[Ot] at hv
    cases hx:a.tmps[t]? with
    |none=>rw[hx] at hv;exact absurd hv.symm eO
    |some u=>rw[hx] at hv;simp at hv;rw[hv]
   split at hw
   ·rename_i x hx
    split at hw
    ·rename_i c hc
     cases hw
     have hv:=pH (h.bz t _ hx) hc
     rw[rL _ hv (by simp[undef])]
     rw[anL]
     cases c<;>cases want<;>rfl
    ·cases hw
   ·rename_i hx
    cases hw
    have hv:a.tmps.getD t undef=undef:=by
     obtain⟨vs,h1,h2,_⟩:=h.bz t _ hx
     cases vs with
     |nil=>exact h1
     |cons v vs=>simp at h2
    rw[Ot] at hv
    cases hx:a.tmps[t]? with
    |none=>rfl
    |some u=>rw[hx] at hv;simp at hv;rw[hv];rfl
   ·cases hw
theorem acy(hE:E.Good)(h:cE E pm F kv fp σ a w){ops:Array Oper}{i:Nat}{it:Item U}(hi:ops[i]? =some it.o)(hd:qb σ it.o=true)
  (Kc:(iw ops.toList it.o σ=some false/\it.r=yo)\/(iw ops.toList it.o σ=some true/\(∃b,step E b σ it.o=some (it.r,it.ks))/\(∀p∈it.r.pre,p)/\∀k∈dG it.o it.r,¬Names σ k))
  {K:Act->World->Prop} {Q:Exit->Act->World->Prop} (hn:∀F kv fp a' w',cE E pm F kv fp (apply it.o it.r σ) a' w'->K a' w'):wpOp E.P ops Q i K a w:=by
 unfold wpOp
 simp only[hi]
 rcases Kc with⟨h1,h2⟩|⟨h1,h2,h3,h4⟩
 ·rw[abO h h1]
  simp only[wx,if_false]
  refine hn F kv fp _ w ?_
  rw[h2]
  refine h.val it.o (some (.vf [])) [] undef (fun d kG=> ?_) (fun x hx=> ?_)
  ·unfold qb at hd
   rw[kG] at hd
   exact Nat.blt_eq▸hd
  ·cases hx
   exact⟨[],rfl,rfl,fun i x u hx=>by simp at hx⟩
 ·rw[abO h h1]
  simp only[if_true]
  obtain⟨b,h2⟩:=h2
  exact .inl (alE hE h h2 h3 h4 hn)
end AM
