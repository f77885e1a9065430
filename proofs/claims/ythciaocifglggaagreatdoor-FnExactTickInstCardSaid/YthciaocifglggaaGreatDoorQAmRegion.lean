import Derived.Test.YthciaocifglggaaGreatDoorQAmLoc
namespace AM
set_option linter.unusedVariables false
open Go
variable{U:kz}{E:Env U}{pm:Pm}
variable{F F':Nat->Prop}{kv:Key->Value}{fp:Key->List Nat}{σ τ:af U}{a:Act}{w w':World}
structure Item(U:kz) where
 o:Oper
 r:ch U
 ks:List Key
def mF(i:Nat)(it:Item U):Rec:=⟨i,it.ks,it.r.names,it.r.writes (it.o.dst.getD 1000000),it.r.news (it.o.dst.getD 1000000)⟩
def hZ(ops:List Oper)(o:Oper)(σ:af U):Option Bool:=
 match o.guard with
 |none=>some true
 |some (g,want)=>match((ops[g]?).bind (·.dst)).bind σ.get with
  |some (.v x)=>match iC (.v x) with
   |some (.bool b)=>some (N1 b want)
   |_=>none
  |some (.tJ [])=>some false
  |_=>none
def Y5(E:Env U)(ops:List Oper)(it:Item U)(σ:af U)(rs:List Rec):Prop:=
 oR σ it.o=true/\
 ((hZ ops it.o σ=some false/\it.r=wM/\it.ks=[])\/
  (hZ ops it.o σ=some true/\(∃b,step E b σ it.o=some (it.r,it.ks))/\(∀p∈it.r.pre,p)/\qu (it.o.dst.getD 1000000) it.r rs=true/\uA it.o it.r=true))
def RO(E:Env U)(ops:List Oper):Nat->List (Item U)->af U->List Rec->Prop
 |_,[],_,_=>True
 |i,it::r,σ,rs=>Y5 E ops it σ rs/\RO E ops (i+1) r (apply it.o it.r σ) (mF i it::rs)
def uw:List (Item U)->af U->af U
 |[],σ=>σ
 |it::r,σ=>uw r (apply it.o it.r σ)
def vv:Nat->List (Item U)->List Rec->List Rec
 |_,[],rs=>rs
 |i,it::r,rs=>vv (i+1) r (mF i it::rs)
theorem aav{r:ch U}{b:Bool}(h:Cx r.val=some (.bool b)):VU r b=r:=by
 obtain⟨v,ad,ki,up,pr⟩:=r
 unfold Cx at h
 simp only at h
 split at h
 ·rename_i y
  rw[wX h];rfl
 ·cases h
theorem Wa{b:Bool}{ops:List Oper}{i:Nat}{o:Oper}{rs:List Rec}{K:af U->Rec->Prop}(h:FO E b ops i o σ rs K):
  ∃r ks,step E b σ o=some (r,ks)/\(∀p∈r.pre,p)/\qu (o.dst.getD 1000000) r rs=true/\uA o r=true/\K (apply o r σ) ⟨i,ks,r.names,r.writes (o.dst.getD 1000000),r.news (o.dst.getD 1000000)⟩:=by
 unfold FO at h
 split at h
 ·rename_i r ks hs
  rw[abm] at h
  obtain⟨h1,h2⟩:=h
  have h3:Lx i o σ rs ks K r:=by
   rw[gT] at h2
   split at h2
   ·split at h2
    ·rename_i b hb
     cases b with
     |true=>rw[aav hb] at h2;exact h2
     |false=>rw[aav hb] at h2;exact h2
    ·exact h2.elim
   ·exact h2
  unfold Lx at h3
  rw[gT] at h3
  split at h3
  ·rename_i hc
   simp only[eE] at hc
   exact⟨r,ks,hs,h1,hc.1,hc.2,h3⟩
  ·exact h3.elim
 ·exact h.elim
theorem ajv{ops:List Oper}{i:Nat}{o:Oper}{rs:List Rec}{K:af U->Rec->Prop}(h:FN E ops i o σ rs K):
  ∃b r ks,step E b σ o=some (r,ks)/\(∀p∈r.pre,p)/\qu (o.dst.getD 1000000) r rs=true/\uA o r=true/\K (apply o r σ) ⟨i,ks,r.names,r.writes (o.dst.getD 1000000),r.news (o.dst.getD 1000000)⟩:=by
 unfold FN at h
 rw[gT] at h
 split at h
 ·rcases h with h|h
  ·exact⟨_,Wa h⟩
  ·exact⟨_,Wa h⟩
 ·exact⟨_,Wa h⟩
theorem V_{ops:List Oper}:∀{rest:List Oper}{i:Nat}{σ:af U}{rs:List Rec}{K:af U->List Rec->Prop},AM.wpOps E ops rest i σ rs K->
  ∃items:List (Item U),items.map (·.o)=rest/\RO E ops i items σ rs/\K (uw items σ) (vv i items rs)
 |[],i,σ,rs,K,h=>⟨[],rfl,trivial,h⟩
 |o::rest,i,σ,rs,K,h=>by
  have go:∀{K':af U->Rec->Prop},hZ ops o σ=some true->FN E ops i o σ rs (fun kY r=>AM.wpOps E ops rest (i+1) kY (r::rs) K)->
    ∃items:List (Item U),items.map (·.o)=o::rest/\RO E ops i items σ rs/\K (uw items σ) (vv i items rs):=by
   intro K' hw h
   obtain⟨b,r,ks,h1,h2,h3,h4,h5⟩:=ajv h
   obtain⟨items,g1,g2,g3⟩:=V_ h5
   have hd:oR σ o=true:=by
    unfold step at h1
    rw[gT] at h1
    split at h1
    ·rename_i hc;simp only[eE] at hc;exact hc.1
    ·cases h1
   exact⟨⟨o,r,ks⟩::items,by simp[g1],⟨⟨hd,.inr ⟨hw,⟨b,h1⟩,h2,h3,h4⟩⟩,g2⟩,g3⟩
  have skip:hZ ops o σ=some false->oR σ o=true->AM.wpOps E ops rest (i+1) (apply o wM σ) (⟨i,[],[],[],[]⟩::rs) K->
    ∃items:List (Item U),items.map (·.o)=o::rest/\RO E ops i items σ rs/\K (uw items σ) (vv i items rs):=by
   intro hw hd h
   obtain⟨items,g1,g2,g3⟩:=V_ h
   exact⟨⟨o,wM,[]⟩::items,by simp[g1],⟨⟨hd,.inl ⟨hw,rfl,rfl⟩⟩,g2⟩,g3⟩
  simp only[AM.wpOps] at h
  split at h
  ·rename_i HE
   exact go (K':=fun _ _=>True) (by unfold hZ;rw[HE]) h
  ·rename_i g want HE
   split at h
   ·rename_i x hx
    split at h
    ·rename_i b hb
     have hw:hZ ops o σ=some (N1 b want):=by unfold hZ;simp only[HE,hx,hb]
     cases hbw:N1 b want<;>rw[hbw] at h hw<;>simp only[cond_true,cond_false] at h
     ·rw[gT] at h
      split at h
      ·rename_i hd;exact skip hw hd h
      ·exact h.elim
     ·exact go (K':=fun _ _=>True) hw h
    ·exact h.elim
   ·rename_i hx
    rw[gT] at h
    split at h
    ·rename_i hd
     exact skip (by unfold hZ;simp only[HE,hx]) hd h
    ·exact h.elim
   ·exact h.elim
theorem alN(a b:Bool):N1 a b=(a==b):=by cases a<;>cases b<;>rfl
theorem aah(h:cG E pm F kv fp σ a w){ops:Array Oper}{o:Oper}{b:Bool}(hw:hZ ops.toList o σ=some b):Region.wanted o (yielded ops a.tmps)=b:=by
 unfold hZ at hw
 unfold Region.wanted
 split at hw
 ·rename_i hg;rw[hg];cases hw;rfl
 ·rename_i g want hg
  rw[hg]
  simp only
  unfold yielded
  have e:ops.toList[g]? =ops[g]? :=by simp
  rw[e] at hw
  cases ht:(ops[g]?).bind (·.dst) with
  |none=>rw[ht] at hw;simp at hw
  |some t=>
   rw[ht] at hw
   simp only[Option.bind_some] at hw⊢
   have qm:∀v:Value,a.tmps.getD t undef=v->v≠undef->a.tmps[t]? =some v:=by
    intro v hv et
    rw[Lr] at hv
    cases hx:a.tmps[t]? with
    |none=>rw[hx] at hv;exact absurd hv.symm et
    |some u=>rw[hx] at hv;simp at hv;rw[hv]
   split at hw
   ·rename_i x hx
    split at hw
    ·rename_i c hc
     cases hw
     have hv:=og (h.bp t _ hx) hc
     rw[qm _ hv (by simp[undef])]
     rw[alN]
     cases c<;>cases want<;>rfl
    ·cases hw
   ·rename_i hx
    cases hw
    have hv:a.tmps.getD t undef=undef:=by
     obtain⟨vs,h1,h2,_⟩:=h.bp t _ hx
     cases vs with
     |nil=>exact h1
     |cons v vs=>simp at h2
    rw[Lr] at hv
    cases hx:a.tmps[t]? with
    |none=>rfl
    |some u=>rw[hx] at hv;simp at hv;rw[hv];rfl
   ·cases hw
theorem aaX(hE:E.Good)(h:cG E pm F kv fp σ a w){ops:Array Oper}{i:Nat}{it:Item U}(hi:ops[i]? =some it.o)(hd:oR σ it.o=true)
  (HD:(hZ ops.toList it.o σ=some false/\it.r=wM)\/(hZ ops.toList it.o σ=some true/\(∃b,step E b σ it.o=some (it.r,it.ks))/\(∀p∈it.r.pre,p)/\∀k∈du it.o it.r,¬Names σ k))
  {K:Act->World->Prop} {Q:Exit->Act->World->Prop} (hn:∀F kv fp a' w',cG E pm F kv fp (apply it.o it.r σ) a' w'->K a' w'):wpOp E.P ops Q i K a w:=by
 unfold wpOp
 simp only[hi]
 rcases HD with⟨h1,h2⟩|⟨h1,h2,h3,h4⟩
 ·rw[aah h h1]
  simp only[wE,if_false]
  refine hn F kv fp _ w ?_
  rw[h2]
  refine h.val it.o (some (.tJ [])) [] undef (fun d jU=> ?_) (fun x hx=> ?_)
  ·unfold oR at hd
   rw[jU] at hd
   exact Nat.blt_eq▸hd
  ·cases hx
   exact⟨[],rfl,rfl,fun i x u hx=>by simp at hx⟩
 ·rw[aah h h1]
  simp only[if_true]
  obtain⟨b,h2⟩:=h2
  exact .inl (ajI hE h h2 h3 h4 hn)
end AM
