import Derived.Test.YtnndcpncmmcaaaaGreatQAmLoc
namespace AM
set_option linter.unusedVariables false
open Go
variable{U:jO}{E:Env U}{pm:Pm}
variable{F F':Nat->Prop}{kv:Key->Value}{fp:Key->List Nat}{σ τ:ah U}{a:Act}{w w':World}
structure Item(U:jO) where
 o:Oper
 r:bz U
 ks:List Key
def nO(i:Nat)(it:Item U):Rec:=⟨i,it.ks,it.r.names,it.r.writes (it.o.dst.getD 1000000),it.r.news (it.o.dst.getD 1000000)⟩
def gT(ops:List Oper)(o:Oper)(σ:ah U):Option Bool:=
 match o.guard with
 |none=>some true
 |some (g,want)=>match((ops[g]?).bind (·.dst)).bind σ.get with
  |some (.v x)=>match ie (.v x) with
   |some (.bool b)=>some (QM b want)
   |_=>none
  |some (.tX [])=>some false
  |_=>none
def acm(E:Env U)(ops:List Oper)(it:Item U)(σ:ah U)(rs:List Rec):Prop:=
 pX σ it.o=true/\
 ((gT ops it.o σ=some false/\it.r=yR/\it.ks=[])\/
  (gT ops it.o σ=some true/\(∃b,step E b σ it.o=some (it.r,it.ks))/\(∀p∈it.r.pre,p)/\rJ (it.o.dst.getD 1000000) it.r rs=true/\vY it.o it.r=true))
def Vk(E:Env U)(ops:List Oper):Nat->List (Item U)->ah U->List Rec->Prop
 |_,[],_,_=>True
 |i,it::r,σ,rs=>acm E ops it σ rs/\Vk E ops (i+1) r (apply it.o it.r σ) (nO i it::rs)
def vR:List (Item U)->ah U->ah U
 |[],σ=>σ
 |it::r,σ=>vR r (apply it.o it.r σ)
def wY:Nat->List (Item U)->List Rec->List Rec
 |_,[],rs=>rs
 |i,it::r,rs=>wY (i+1) r (nO i it::rs)
theorem ade{r:bz U}{b:Bool}(h:ES r.val=some (.bool b)):Zo r b=r:=by
 obtain⟨v,ad,ki,up,pr⟩:=r
 unfold ES at h
 simp only at h
 split at h
 ·rename_i y
  rw[y9 h];rfl
 ·cases h
theorem Zz{b:Bool}{ops:List Oper}{i:Nat}{o:Oper}{rs:List Rec}{K:ah U->Rec->Prop}(h:H9 E b ops i o σ rs K):
  ∃r ks,step E b σ o=some (r,ks)/\(∀p∈r.pre,p)/\rJ (o.dst.getD 1000000) r rs=true/\vY o r=true/\K (apply o r σ) ⟨i,ks,r.names,r.writes (o.dst.getD 1000000),r.news (o.dst.getD 1000000)⟩:=by
 unfold H9 at h
 split at h
 ·rename_i r ks hs
  rw[aec] at h
  obtain⟨h1,h2⟩:=h
  have h3:OB i o σ rs ks K r:=by
   rw[fc] at h2
   split at h2
   ·split at h2
    ·rename_i b hb
     cases b with
     |true=>rw[ade hb] at h2;exact h2
     |false=>rw[ade hb] at h2;exact h2
    ·exact h2.elim
   ·exact h2
  unfold OB at h3
  rw[fc] at h3
  split at h3
  ·rename_i hc
   simp only[fY] at hc
   exact⟨r,ks,hs,h1,hc.1,hc.2,h3⟩
  ·exact h3.elim
 ·exact h.elim
theorem al4{ops:List Oper}{i:Nat}{o:Oper}{rs:List Rec}{K:ah U->Rec->Prop}(h:H8 E ops i o σ rs K):
  ∃b r ks,step E b σ o=some (r,ks)/\(∀p∈r.pre,p)/\rJ (o.dst.getD 1000000) r rs=true/\vY o r=true/\K (apply o r σ) ⟨i,ks,r.names,r.writes (o.dst.getD 1000000),r.news (o.dst.getD 1000000)⟩:=by
 unfold H8 at h
 rw[fc] at h
 split at h
 ·rcases h with h|h
  ·exact⟨_,Zz h⟩
  ·exact⟨_,Zz h⟩
 ·exact⟨_,Zz h⟩
theorem Zy{ops:List Oper}:∀{rest:List Oper}{i:Nat}{σ:ah U}{rs:List Rec}{K:ah U->List Rec->Prop},AM.wpOps E ops rest i σ rs K->
  ∃items:List (Item U),items.map (·.o)=rest/\Vk E ops i items σ rs/\K (vR items σ) (wY i items rs)
 |[],i,σ,rs,K,h=>⟨[],rfl,trivial,h⟩
 |o::rest,i,σ,rs,K,h=>by
  have go:∀{K':ah U->Rec->Prop},gT ops o σ=some true->H8 E ops i o σ rs (fun lK r=>AM.wpOps E ops rest (i+1) lK (r::rs) K)->
    ∃items:List (Item U),items.map (·.o)=o::rest/\Vk E ops i items σ rs/\K (vR items σ) (wY i items rs):=by
   intro K' hw h
   obtain⟨b,r,ks,h1,h2,h3,h4,h5⟩:=al4 h
   obtain⟨items,g1,g2,g3⟩:=Zy h5
   have hd:pX σ o=true:=by
    unfold step at h1
    rw[fc] at h1
    split at h1
    ·rename_i hc;simp only[fY] at hc;exact hc.1
    ·cases h1
   exact⟨⟨o,r,ks⟩::items,by simp[g1],⟨⟨hd,.inr ⟨hw,⟨b,h1⟩,h2,h3,h4⟩⟩,g2⟩,g3⟩
  have skip:gT ops o σ=some false->pX σ o=true->AM.wpOps E ops rest (i+1) (apply o yR σ) (⟨i,[],[],[],[]⟩::rs) K->
    ∃items:List (Item U),items.map (·.o)=o::rest/\Vk E ops i items σ rs/\K (vR items σ) (wY i items rs):=by
   intro hw hd h
   obtain⟨items,g1,g2,g3⟩:=Zy h
   exact⟨⟨o,yR,[]⟩::items,by simp[g1],⟨⟨hd,.inl ⟨hw,rfl,rfl⟩⟩,g2⟩,g3⟩
  simp only[AM.wpOps] at h
  split at h
  ·rename_i H3
   exact go (K':=fun _ _=>True) (by unfold gT;rw[H3]) h
  ·rename_i g want H3
   split at h
   ·rename_i x hx
    split at h
    ·rename_i b hb
     have hw:gT ops o σ=some (QM b want):=by unfold gT;simp only[H3,hx,hb]
     cases hbw:QM b want<;>rw[hbw] at h hw<;>simp only[cond_true,cond_false] at h
     ·rw[fc] at h
      split at h
      ·rename_i hd;exact skip hw hd h
      ·exact h.elim
     ·exact go (K':=fun _ _=>True) hw h
    ·exact h.elim
   ·rename_i hx
    rw[fc] at h
    split at h
    ·rename_i hd
     exact skip (by unfold gT;simp only[H3,hx]) hd h
    ·exact h.elim
   ·exact h.elim
theorem aoQ(a b:Bool):QM a b=(a==b):=by cases a<;>cases b<;>rfl
theorem acY(h:cd E pm F kv fp σ a w){ops:Array Oper}{o:Oper}{b:Bool}(hw:gT ops.toList o σ=some b):Region.wanted o (yielded ops a.tmps)=b:=by
 unfold gT at hw
 unfold Region.wanted
 split at hw
 ·rename_i hg;rw[hg];cases hw;rfl
 ·rename_i g want hg
  rw[hg]
  simp only
  unfold yielded
  have e:ops.toList[g]? =ops[g]? :=by simp
  rw[e] at hw
  cases ht:(ops[g]?).bind (·.dst) with
  |none=>rw[ht] at hw;simp at hw
  |some t=>
   rw[ht] at hw
   simp only[Option.bind_some] at hw⊢
   have qk:∀v:Value,a.tmps.getD t undef=v->v≠undef->a.tmps[t]? =some v:=by
    intro v hv cO
    rw[Oy] at hv
    cases hx:a.tmps[t]? with
    |none=>rw[hx] at hv;exact absurd hv.symm cO
    |some u=>rw[hx] at hv;simp at hv;rw[hv]
   split at hw
   ·rename_i x hx
    split at hw
    ·rename_i c hc
     cases hw
     have hv:=pD (h.bw t _ hx) hc
     rw[qk _ hv (by simp[undef])]
     rw[aoQ]
     cases c<;>cases want<;>rfl
    ·cases hw
   ·rename_i hx
    cases hw
    have hv:a.tmps.getD t undef=undef:=by
     obtain⟨vs,h1,h2,_⟩:=h.bw t _ hx
     cases vs with
     |nil=>exact h1
     |cons v vs=>simp at h2
    rw[Oy] at hv
    cases hx:a.tmps[t]? with
    |none=>rfl
    |some u=>rw[hx] at hv;simp at hv;rw[hv];rfl
   ·cases hw
theorem adJ(hE:E.Good)(h:cd E pm F kv fp σ a w){ops:Array Oper}{i:Nat}{it:Item U}(hi:ops[i]? =some it.o)(hd:pX σ it.o=true)
  (J6:(gT ops.toList it.o σ=some false/\it.r=yR)\/(gT ops.toList it.o σ=some true/\(∃b,step E b σ it.o=some (it.r,it.ks))/\(∀p∈it.r.pre,p)/\∀k∈ct it.o it.r,¬Names σ k))
  {K:Act->World->Prop} {Q:Exit->Act->World->Prop} (hn:∀F kv fp a' w',cd E pm F kv fp (apply it.o it.r σ) a' w'->K a' w'):wpOp E.P ops Q i K a w:=by
 unfold wpOp
 simp only[hi]
 rcases J6 with⟨h1,h2⟩|⟨h1,h2,h3,h4⟩
 ·rw[acY h h1]
  simp only[yN,if_false]
  refine hn F kv fp _ w ?_
  rw[h2]
  refine h.val it.o (some (.tX [])) [] undef (fun d jh=> ?_) (fun x hx=> ?_)
  ·unfold pX at hd
   rw[jh] at hd
   exact Nat.blt_eq▸hd
  ·cases hx
   exact⟨[],rfl,rfl,fun i x u hx=>by simp at hx⟩
 ·rw[acY h h1]
  simp only[if_true]
  obtain⟨b,h2⟩:=h2
  exact .inl (amk hE h h2 h3 h4 hn)
end AM
