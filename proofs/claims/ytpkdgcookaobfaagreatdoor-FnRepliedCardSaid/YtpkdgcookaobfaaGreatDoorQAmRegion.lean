/- THE ABSTRACT MACHINE: a region, in whatever order its operations are done. -/
import Derived.Test.YtpkdgcookaobfaaGreatDoorQAmLoc
namespace AM
set_option linter.unusedVariables false
open Go
variable{U:lz}{E:Env U}{pm:Pm}
variable{F F':Nat->Prop}{kv:Key->Value}{fp:Key->List Nat}{σ τ:ak U}{a:Act}{w w':World}
structure Item(U:lz) where
 o:Oper
 r:cn U
 ks:List Key
def ol(i:Nat)(it:Item U):Rec:=⟨i,it.ks,it.r.names,it.r.writes (it.o.dst.getD 1000000),it.r.news (it.o.dst.getD 1000000)⟩
def iz(ops:List Oper)(o:Oper)(σ:ak U):Option Bool:=
 match o.guard with
 |none=>some true
 |some (g,want)=>match((ops[g]?).bind (·.dst)).bind σ.get with
  |some (.v x)=>match iZ (.v x) with
   |some (.bool b)=>some (Tn b want)
   |_=>none
  |some (.wv [])=>some false
  |_=>none
def abX(E:Env U)(ops:List Oper)(it:Item U)(σ:ak U)(rs:List Rec):Prop:=
 qW σ it.o=true/\
 ((iz ops it.o σ=some false/\it.r=zG/\it.ks=[])\/
  (iz ops it.o σ=some true/\(∃b,step E b σ it.o=some (it.r,it.ks))/\(∀p∈it.r.pre,p)/\tc (it.o.dst.getD 1000000) it.r rs=true/\xg it.o it.r=true))
def WK(E:Env U)(ops:List Oper):Nat->List (Item U)->ak U->List Rec->Prop
 |_,[],_,_=>True
 |i,it::r,σ,rs=>abX E ops it σ rs/\WK E ops (i+1) r (apply it.o it.r σ) (ol i it::rs)
def xb:List (Item U)->ak U->ak U
 |[],σ=>σ
 |it::r,σ=>xb r (apply it.o it.r σ)
def yw:Nat->List (Item U)->List Rec->List Rec
 |_,[],rs=>rs
 |i,it::r,rs=>yw (i+1) r (ol i it::rs)
theorem acS{r:cn U}{b:Bool}(h:Gu r.val=some (.bool b)):ZJ r b=r:=by
 obtain⟨v,ad,ki,up,pr⟩:=r
 unfold Gu at h
 simp only at h
 split at h
 ·rename_i y
  rw[zT h];rfl
 ·cases h
theorem ZU{b:Bool}{ops:List Oper}{i:Nat}{o:Oper}{rs:List Rec}{K:ak U->Rec->Prop}(h:Ka E b ops i o σ rs K):
  ∃r ks,step E b σ o=some (r,ks)/\(∀p∈r.pre,p)/\tc (o.dst.getD 1000000) r rs=true/\xg o r=true/\K (apply o r σ) ⟨i,ks,r.names,r.writes (o.dst.getD 1000000),r.news (o.dst.getD 1000000)⟩:=by
 unfold Ka at h
 split at h
 ·rename_i r ks hs
  rw[adM] at h
  obtain⟨h1,h2⟩:=h
  have h3:QT i o σ rs ks K r:=by
   rw[im] at h2
   split at h2
   ·split at h2
    ·rename_i b hb
     cases b with
     |true=>rw[acS hb] at h2;exact h2
     |false=>rw[acS hb] at h2;exact h2
    ·exact h2.elim
   ·exact h2
  unfold QT at h3
  rw[im] at h3
  split at h3
  ·rename_i hc
   simp only[cJ] at hc
   exact⟨r,ks,hs,h1,hc.1,hc.2,h3⟩
  ·exact h3.elim
 ·exact h.elim
theorem akr{ops:List Oper}{i:Nat}{o:Oper}{rs:List Rec}{K:ak U->Rec->Prop}(h:J_ E ops i o σ rs K):
  ∃b r ks,step E b σ o=some (r,ks)/\(∀p∈r.pre,p)/\tc (o.dst.getD 1000000) r rs=true/\xg o r=true/\K (apply o r σ) ⟨i,ks,r.names,r.writes (o.dst.getD 1000000),r.news (o.dst.getD 1000000)⟩:=by
 unfold J_ at h
 rw[im] at h
 split at h
 ·rcases h with h|h
  ·exact⟨_,ZU h⟩
  ·exact⟨_,ZU h⟩
 ·exact⟨_,ZU h⟩
theorem ZT{ops:List Oper}:∀{rest:List Oper}{i:Nat}{σ:ak U}{rs:List Rec}{K:ak U->List Rec->Prop},AM.wpOps E ops rest i σ rs K->
  ∃items:List (Item U),items.map (·.o)=rest/\WK E ops i items σ rs/\K (xb items σ) (yw i items rs)
 |[],i,σ,rs,K,h=>⟨[],rfl,trivial,h⟩
 |o::rest,i,σ,rs,K,h=>by
  have go:∀{K':ak U->Rec->Prop},iz ops o σ=some true->J_ E ops i o σ rs (fun me r=>AM.wpOps E ops rest (i+1) me (r::rs) K)->
    ∃items:List (Item U),items.map (·.o)=o::rest/\WK E ops i items σ rs/\K (xb items σ) (yw i items rs):=by
   intro K' hw h
   obtain⟨b,r,ks,h1,h2,h3,h4,h5⟩:=akr h
   obtain⟨items,g1,g2,g3⟩:=ZT h5
   have hd:qW σ o=true:=by
    unfold step at h1
    rw[im] at h1
    split at h1
    ·rename_i hc;simp only[cJ] at hc;exact hc.1
    ·cases h1
   exact⟨⟨o,r,ks⟩::items,by simp[g1],⟨⟨hd,.inr ⟨hw,⟨b,h1⟩,h2,h3,h4⟩⟩,g2⟩,g3⟩
  have skip:iz ops o σ=some false->qW σ o=true->AM.wpOps E ops rest (i+1) (apply o zG σ) (⟨i,[],[],[],[]⟩::rs) K->
    ∃items:List (Item U),items.map (·.o)=o::rest/\WK E ops i items σ rs/\K (xb items σ) (yw i items rs):=by
   intro hw hd h
   obtain⟨items,g1,g2,g3⟩:=ZT h
   exact⟨⟨o,zG,[]⟩::items,by simp[g1],⟨⟨hd,.inl ⟨hw,rfl,rfl⟩⟩,g2⟩,g3⟩
  simp only[AM.wpOps] at h
  split at h
  ·rename_i Mm
   exact go (K':=fun _ _=>True) (by unfold iz;rw[Mm]) h
  ·rename_i g want Mm
   split at h
   ·rename_i x hx
    split at h
    ·rename_i b hb
     have hw:iz ops o σ=some (Tn b want):=by unfold iz;simp only[Mm,hx,hb]
     cases hbw:Tn b want<;>rw[hbw] at h hw<;>simp only[cond_true,cond_false] at h
     ·rw[im] at h
      split at h
      ·rename_i hd;exact skip hw hd h
      ·exact h.elim
     ·exact go (K':=fun _ _=>True) hw h
    ·exact h.elim
   ·rename_i hx
    rw[im] at h
    split at h
    ·rename_i hd
     exact skip (by unfold iz;simp only[Mm,hx]) hd h
    ·exact h.elim
   ·exact h.elim
theorem amJ(a b:Bool):Tn a b=(a==b):=by cases a<;>cases b<;>rfl
theorem acC(h:cM E pm F kv fp σ a w){ops:Array Oper}{o:Oper}{b:Bool}(hw:iz ops.toList o σ=some b):Region.wanted o (yielded ops a.tmps)=b:=by
 unfold iz at hw
 unfold Region.wanted
 split at hw
 ·rename_i hg;rw[hg];cases hw;rfl
 ·rename_i g want hg
  rw[hg]
  simp only
  unfold yielded
  have e:ops.toList[g]? =ops[g]? :=by simp
  rw[e] at hw
  cases ht:(ops[g]?).bind (·.dst) with
  |none=>rw[ht] at hw;simp at hw
  |some t=>
   rw[ht] at hw
   simp only[Option.bind_some] at hw⊢
   have sY:∀v:Value,a.tmps.getD t undef=v->v≠undef->a.tmps[t]? =some v:=by
    intro v hv eZ
    rw[QR] at hv
    cases hx:a.tmps[t]? with
    |none=>rw[hx] at hv;exact absurd hv.symm eZ
    |some u=>rw[hx] at hv;simp at hv;rw[hv]
   split at hw
   ·rename_i x hx
    split at hw
    ·rename_i c hc
     cases hw
     have hv:=qp (h.bM t _ hx) hc
     rw[sY _ hv (by simp[undef])]
     rw[amJ]
     cases c<;>cases want<;>rfl
    ·cases hw
   ·rename_i hx
    cases hw
    have hv:a.tmps.getD t undef=undef:=by
     obtain⟨vs,h1,h2,_⟩:=h.bM t _ hx
     cases vs with
     |nil=>exact h1
     |cons v vs=>simp at h2
    rw[QR] at hv
    cases hx:a.tmps[t]? with
    |none=>rfl
    |some u=>rw[hx] at hv;simp at hv;rw[hv];rfl
   ·cases hw
theorem adl(hE:E.Good)(h:cM E pm F kv fp σ a w){ops:Array Oper}{i:Nat}{it:Item U}(hi:ops[i]? =some it.o)(hd:qW σ it.o=true)
  (Ml:(iz ops.toList it.o σ=some false/\it.r=zG)\/(iz ops.toList it.o σ=some true/\(∃b,step E b σ it.o=some (it.r,it.ks))/\(∀p∈it.r.pre,p)/\∀k∈dR it.o it.r,¬Names σ k))
  {K:Act->World->Prop} {Q:Exit->Act->World->Prop} (hn:∀F kv fp a' w',cM E pm F kv fp (apply it.o it.r σ) a' w'->K a' w'):wpOp E.P ops Q i K a w:=by
 unfold wpOp
 simp only[hi]
 rcases Ml with⟨h1,h2⟩|⟨h1,h2,h3,h4⟩
 ·rw[acC h h1]
  simp only[xv,if_false]
  refine hn F kv fp _ w ?_
  rw[h2]
  refine h.val it.o (some (.wv [])) [] undef (fun d kY=> ?_) (fun x hx=> ?_)
  ·unfold qW at hd
   rw[kY] at hd
   exact Nat.blt_eq▸hd
  ·cases hx
   exact⟨[],rfl,rfl,fun i x u hx=>by simp at hx⟩
 ·rw[acC h h1]
  simp only[if_true]
  obtain⟨b,h2⟩:=h2
  exact .inl (akE hE h h2 h3 h4 hn)
end AM
