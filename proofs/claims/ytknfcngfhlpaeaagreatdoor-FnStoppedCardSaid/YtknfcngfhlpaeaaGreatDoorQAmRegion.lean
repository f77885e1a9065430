import Derived.Test.YtknfcngfhlpaeaaGreatDoorQAmLoc
namespace AM
set_option linter.unusedVariables false
open Go
variable{U:kz}{E:Env U}{pm:Pm}
variable{F F':Nat->Prop}{kv:Key->Value}{fp:Key->List Nat}{σ τ:ak U}{a:Act}{w w':World}
structure Item(U:kz) where
 o:Oper
 r:bX U
 ks:List Key
def nk(i:Nat)(it:Item U):Rec:=⟨i,it.ks,it.r.names,it.r.writes (it.o.dst.getD 1000000),it.r.news (it.o.dst.getD 1000000)⟩
def gT(ops:List Oper)(o:Oper)(σ:ak U):Option Bool:=
 match o.guard with
 |none=>some true
 |some (g,want)=>match((ops[g]?).bind (·.dst)).bind σ.get with
  |some (.v x)=>match ix (.v x) with
   |some (.bool b)=>some (P7 b want)
   |_=>none
  |some (.uZ [])=>some false
  |_=>none
def Y2(E:Env U)(ops:List Oper)(it:Item U)(σ:ak U)(rs:List Rec):Prop:=
 pB σ it.o=true/\
 ((gT ops it.o σ=some false/\it.r=ye/\it.ks=[])\/
  (gT ops it.o σ=some true/\(∃b,step E b σ it.o=some (it.r,it.ks))/\(∀p∈it.r.pre,p)/\rz (it.o.dst.getD 1000000) it.r rs=true/\vQ it.o it.r=true))
def Tl(E:Env U)(ops:List Oper):Nat->List (Item U)->ak U->List Rec->Prop
 |_,[],_,_=>True
 |i,it::r,σ,rs=>Y2 E ops it σ rs/\Tl E ops (i+1) r (apply it.o it.r σ) (nk i it::rs)
def vJ:List (Item U)->ak U->ak U
 |[],σ=>σ
 |it::r,σ=>vJ r (apply it.o it.r σ)
def xc:Nat->List (Item U)->List Rec->List Rec
 |_,[],rs=>rs
 |i,it::r,rs=>xc (i+1) r (nk i it::rs)
theorem aas{r:bX U}{b:Bool}(h:Er r.val=some (.bool b)):Wo r b=r:=by
 obtain⟨v,ad,ki,up,pr⟩:=r
 unfold Er at h
 simp only at h
 split at h
 ·rename_i y
  rw[yt h];rfl
 ·cases h
theorem Wy{b:Bool}{ops:List Oper}{i:Nat}{o:Oper}{rs:List Rec}{K:ak U->Rec->Prop}(h:HK E b ops i o σ rs K):
  ∃r ks,step E b σ o=some (r,ks)/\(∀p∈r.pre,p)/\rz (o.dst.getD 1000000) r rs=true/\vQ o r=true/\K (apply o r σ) ⟨i,ks,r.names,r.writes (o.dst.getD 1000000),r.news (o.dst.getD 1000000)⟩:=by
 unfold HK at h
 split at h
 ·rename_i r ks hs
  rw[abj] at h
  obtain⟨h1,h2⟩:=h
  have h3:ND i o σ rs ks K r:=by
   rw[gI] at h2
   split at h2
   ·split at h2
    ·rename_i b hb
     cases b with
     |true=>rw[aas hb] at h2;exact h2
     |false=>rw[aas hb] at h2;exact h2
    ·exact h2.elim
   ·exact h2
  unfold ND at h3
  rw[gI] at h3
  split at h3
  ·rename_i hc
   simp only[cH] at hc
   exact⟨r,ks,hs,h1,hc.1,hc.2,h3⟩
  ·exact h3.elim
 ·exact h.elim
theorem aho{ops:List Oper}{i:Nat}{o:Oper}{rs:List Rec}{K:ak U->Rec->Prop}(h:HJ E ops i o σ rs K):
  ∃b r ks,step E b σ o=some (r,ks)/\(∀p∈r.pre,p)/\rz (o.dst.getD 1000000) r rs=true/\vQ o r=true/\K (apply o r σ) ⟨i,ks,r.names,r.writes (o.dst.getD 1000000),r.news (o.dst.getD 1000000)⟩:=by
 unfold HJ at h
 rw[gI] at h
 split at h
 ·rcases h with h|h
  ·exact⟨_,Wy h⟩
  ·exact⟨_,Wy h⟩
 ·exact⟨_,Wy h⟩
theorem Wx{ops:List Oper}:∀{rest:List Oper}{i:Nat}{σ:ak U}{rs:List Rec}{K:ak U->List Rec->Prop},AM.wpOps E ops rest i σ rs K->
  ∃items:List (Item U),items.map (·.o)=rest/\Tl E ops i items σ rs/\K (vJ items σ) (xc i items rs)
 |[],i,σ,rs,K,h=>⟨[],rfl,trivial,h⟩
 |o::rest,i,σ,rs,K,h=>by
  have go:∀{K':ak U->Rec->Prop},gT ops o σ=some true->HJ E ops i o σ rs (fun kV r=>AM.wpOps E ops rest (i+1) kV (r::rs) K)->
    ∃items:List (Item U),items.map (·.o)=o::rest/\Tl E ops i items σ rs/\K (vJ items σ) (xc i items rs):=by
   intro K' hw h
   obtain⟨b,r,ks,h1,h2,h3,h4,h5⟩:=aho h
   obtain⟨items,g1,g2,g3⟩:=Wx h5
   have hd:pB σ o=true:=by
    unfold step at h1
    rw[gI] at h1
    split at h1
    ·rename_i hc;simp only[cH] at hc;exact hc.1
    ·cases h1
   exact⟨⟨o,r,ks⟩::items,by simp[g1],⟨⟨hd,.inr ⟨hw,⟨b,h1⟩,h2,h3,h4⟩⟩,g2⟩,g3⟩
  have skip:gT ops o σ=some false->pB σ o=true->AM.wpOps E ops rest (i+1) (apply o ye σ) (⟨i,[],[],[],[]⟩::rs) K->
    ∃items:List (Item U),items.map (·.o)=o::rest/\Tl E ops i items σ rs/\K (vJ items σ) (xc i items rs):=by
   intro hw hd h
   obtain⟨items,g1,g2,g3⟩:=Wx h
   exact⟨⟨o,ye,[]⟩::items,by simp[g1],⟨⟨hd,.inl ⟨hw,rfl,rfl⟩⟩,g2⟩,g3⟩
  simp only[AM.wpOps] at h
  split at h
  ·rename_i JA
   exact go (K':=fun _ _=>True) (by unfold gT;rw[JA]) h
  ·rename_i g want JA
   split at h
   ·rename_i x hx
    split at h
    ·rename_i b hb
     have hw:gT ops o σ=some (P7 b want):=by unfold gT;simp only[JA,hx,hb]
     cases hbw:P7 b want<;>rw[hbw] at h hw<;>simp only[cond_true,cond_false] at h
     ·rw[gI] at h
      split at h
      ·rename_i hd;exact skip hw hd h
      ·exact h.elim
     ·exact go (K':=fun _ _=>True) hw h
    ·exact h.elim
   ·rename_i hx
    rw[gI] at h
    split at h
    ·rename_i hd
     exact skip (by unfold gT;simp only[JA,hx]) hd h
    ·exact h.elim
   ·exact h.elim
theorem ajF(a b:Bool):P7 a b=(a==b):=by cases a<;>cases b<;>rfl
theorem aae(h:cG E pm F kv fp σ a w){ops:Array Oper}{o:Oper}{b:Bool}(hw:gT ops.toList o σ=some b):Region.wanted o (yielded ops a.tmps)=b:=by
 unfold gT at hw
 unfold Region.wanted
 split at hw
 ·rename_i hg;rw[hg];cases hw;rfl
 ·rename_i g want hg
  rw[hg]
  simp only
  unfold yielded
  have e:ops.toList[g]? =ops[g]? :=by simp
  rw[e] at hw
  cases ht:(ops[g]?).bind (·.dst) with
  |none=>rw[ht] at hw;simp at hw
  |some t=>
   rw[ht] at hw
   simp only[Option.bind_some] at hw⊢
   have rk:∀v:Value,a.tmps.getD t undef=v->v≠undef->a.tmps[t]? =some v:=by
    intro v hv d_
    rw[NB] at hv
    cases hx:a.tmps[t]? with
    |none=>rw[hx] at hv;exact absurd hv.symm d_
    |some u=>rw[hx] at hv;simp at hv;rw[hv]
   split at hw
   ·rename_i x hx
    split at hw
    ·rename_i c hc
     cases hw
     have hv:=o6 (h.bx t _ hx) hc
     rw[rk _ hv (by simp[undef])]
     rw[ajF]
     cases c<;>cases want<;>rfl
    ·cases hw
   ·rename_i hx
    cases hw
    have hv:a.tmps.getD t undef=undef:=by
     obtain⟨vs,h1,h2,_⟩:=h.bx t _ hx
     cases vs with
     |nil=>exact h1
     |cons v vs=>simp at h2
    rw[NB] at hv
    cases hx:a.tmps[t]? with
    |none=>rfl
    |some u=>rw[hx] at hv;simp at hv;rw[hv];rfl
   ·cases hw
theorem aaU(hE:E.Good)(h:cG E pm F kv fp σ a w){ops:Array Oper}{i:Nat}{it:Item U}(hi:ops[i]? =some it.o)(hd:pB σ it.o=true)
  (Jz:(gT ops.toList it.o σ=some false/\it.r=ye)\/(gT ops.toList it.o σ=some true/\(∃b,step E b σ it.o=some (it.r,it.ks))/\(∀p∈it.r.pre,p)/\∀k∈dk it.o it.r,¬Names σ k))
  {K:Act->World->Prop} {Q:Exit->Act->World->Prop} (hn:∀F kv fp a' w',cG E pm F kv fp (apply it.o it.r σ) a' w'->K a' w'):wpOp E.P ops Q i K a w:=by
 unfold wpOp
 simp only[hi]
 rcases Jz with⟨h1,h2⟩|⟨h1,h2,h3,h4⟩
 ·rw[aae h h1]
  simp only[wb,if_false]
  refine hn F kv fp _ w ?_
  rw[h2]
  refine h.val it.o (some (.uZ [])) [] undef (fun d jR=> ?_) (fun x hx=> ?_)
  ·unfold pB at hd
   rw[jR] at hd
   exact Nat.blt_eq▸hd
  ·cases hx
   exact⟨[],rfl,rfl,fun i x u hx=>by simp at hx⟩
 ·rw[aae h h1]
  simp only[if_true]
  obtain⟨b,h2⟩:=h2
  exact .inl (ahB hE h h2 h3 h4 hn)
end AM
