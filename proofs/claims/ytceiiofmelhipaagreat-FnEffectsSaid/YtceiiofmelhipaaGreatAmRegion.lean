/- THE ABSTRACT MACHINE: a region, in whatever order its operations are done. -/
import Derived.Test.YtceiiofmelhipaaGreatAmLoc
namespace AM
set_option linter.unusedVariables false
open Go
variable{U:Uni}{E:Env U}{pm:Pm}
variable{F F':Nat→Prop}{kv:Key→Value}{fp:Key→List Nat}{σ τ:AState U}{a:Act}{w w':World}
structure Item(U:Uni) where
 o:Oper
 r:Rslt U
 ks:List Key
def recOf(i:Nat)(it:Item U):Rec:=⟨i,it.ks++it.r.names,it.r.writes (it.o.dst.getD 1000000)⟩
def wantedA(ops:List Oper)(o:Oper)(σ:AState U):Option Bool:=
 match o.guard with
 |none=>some true
 |some (g,want)=>match((ops[g]?).bind (·.dst)).bind σ.get with
  |some (.v x)=>match lit? (.v x) with
   |some (.bool b)=>some (beqB b want)
   |_=>none
  |some (.tup [])=>some false
  |_=>none
def ItOk(E:Env U)(ops:List Oper)(it:Item U)(σ:AState U)(rs:List Rec):Prop:=
 dstOk σ it.o=true∧
 ((wantedA ops it.o σ=some false∧it.r=undefR∧it.ks=[])∨
  (wantedA ops it.o σ=some true∧step E σ it.o=some (it.r,it.ks)∧(∀p∈it.r.pre,p)∧freshOk (it.o.dst.getD 1000000) it.r rs=true∧addsOk it.o it.r=true))
def Run(E:Env U)(ops:List Oper):Nat→List (Item U)→AState U→List Rec→Prop
 |_,[],_,_=>True
 |i,it::r,σ,rs=>ItOk E ops it σ rs∧Run E ops (i+1) r (apply it.o it.r σ) (recOf i it::rs)
def endS:List (Item U)→AState U→AState U
 |[],σ=>σ
 |it::r,σ=>endS r (apply it.o it.r σ)
def endR:Nat→List (Item U)→List Rec→List Rec
 |_,[],rs=>rs
 |i,it::r,rs=>endR (i+1) r (recOf i it::rs)
theorem qalu{r:Rslt U}{b:Bool}(h:svLit r.val=some (.bool b)):setB r b=r:=by
 obtain⟨v,ad,ki,up,pr⟩:=r
 unfold svLit at h
 simp only at h
 split at h
 ·rename_i y
  rw[lit?_some h];rfl
 ·cases h
theorem qanr{ops:List Oper}{i:Nat}{o:Oper}{rs:List Rec}{K:AState U→Rec→Prop}(h:wpOp1 E ops i o σ rs K):
  ∃r ks,step E σ o=some (r,ks)∧(∀p∈r.pre,p)∧freshOk (o.dst.getD 1000000) r rs=true∧addsOk o r=true∧K (apply o r σ) ⟨i,ks++r.names,r.writes (o.dst.getD 1000000)⟩:=by
 unfold wpOp1 at h
 split at h
 ·rename_i r ks hs
  rw[qaav] at h
  obtain⟨h1,h2⟩:=h
  have h3:wpGo i o σ rs ks K r:=by
   rw[zah] at h2
   split at h2
   ·split at h2
    ·rename_i b hb
     cases b with
     |true=>rw[qalu hb] at h2;exact h2
     |false=>rw[qalu hb] at h2;exact h2
    ·exact h2.elim
   ·exact h2
  unfold wpGo at h3
  rw[zah] at h3
  split at h3
  ·rename_i hc
   simp only[zaf] at hc
   exact⟨r,ks,hs,h1,hc.1,hc.2,h3⟩
  ·exact h3.elim
 ·exact h.elim
theorem qans{ops:List Oper}:∀{rest:List Oper}{i:Nat}{σ:AState U}{rs:List Rec}{K:AState U→List Rec→Prop},AM.wpOps E ops rest i σ rs K→
  ∃items:List (Item U),items.map (·.o)=rest∧Run E ops i items σ rs∧K (endS items σ) (endR i items rs)
 |[],i,σ,rs,K,h=>⟨[],rfl,trivial,h⟩
 |o::rest,i,σ,rs,K,h=>by
  have go:∀{K':AState U→Rec→Prop},wantedA ops o σ=some true→wpOp1 E ops i o σ rs (fun σ' r=>AM.wpOps E ops rest (i+1) σ' (r::rs) K)→
    ∃items:List (Item U),items.map (·.o)=o::rest∧Run E ops i items σ rs∧K (endS items σ) (endR i items rs):=by
   intro K' hw h
   obtain⟨r,ks,h1,h2,h3,h4,h5⟩:=qanr h
   obtain⟨items,g1,g2,g3⟩:=qans h5
   have hd:dstOk σ o=true:=by
    unfold step at h1
    rw[zah] at h1
    split at h1
    ·rename_i hc;simp only[zaf] at hc;exact hc.1
    ·cases h1
   exact⟨⟨o,r,ks⟩::items,by simp[g1],⟨⟨hd,.inr ⟨hw,h1,h2,h3,h4⟩⟩,g2⟩,g3⟩
  have skip:wantedA ops o σ=some false→dstOk σ o=true→AM.wpOps E ops rest (i+1) (apply o undefR σ) (⟨i,[],[]⟩::rs) K→
    ∃items:List (Item U),items.map (·.o)=o::rest∧Run E ops i items σ rs∧K (endS items σ) (endR i items rs):=by
   intro hw hd h
   obtain⟨items,g1,g2,g3⟩:=qans h
   exact⟨⟨o,undefR,[]⟩::items,by simp[g1],⟨⟨hd,.inl ⟨hw,rfl,rfl⟩⟩,g2⟩,g3⟩
  simp only[AM.wpOps] at h
  split at h
  ·rename_i hgd
   exact go (K':=fun _ _=>True) (by unfold wantedA;rw[hgd]) h
  ·rename_i g want hgd
   split at h
   ·rename_i x hx
    split at h
    ·rename_i b hb
     have hw:wantedA ops o σ=some (beqB b want):=by unfold wantedA;simp only[hgd,hx,hb]
     cases hbw:beqB b want<;>rw[hbw] at h hw<;>simp only[cond_true,cond_false] at h
     ·rw[zah] at h
      split at h
      ·rename_i hd;exact skip hw hd h
      ·exact h.elim
     ·exact go (K':=fun _ _=>True) hw h
    ·exact h.elim
   ·rename_i hx
    rw[zah] at h
    split at h
    ·rename_i hd
     exact skip (by unfold wantedA;simp only[hgd,hx]) hd h
    ·exact h.elim
   ·exact h.elim
theorem qabt(a b:Bool):beqB a b=(a==b):=by cases a<;>cases b<;>rfl
theorem qano(h:Sim E pm F kv fp σ a w){ops:Array Oper}{o:Oper}{b:Bool}(hw:wantedA ops.toList o σ=some b):Region.wanted o (yielded ops a.tmps)=b:=by
 unfold wantedA at hw
 unfold Region.wanted
 split at hw
 ·rename_i hg;rw[hg];cases hw;rfl
 ·rename_i g want hg
  rw[hg]
  simp only
  unfold yielded
  have e:ops.toList[g]? =ops[g]? :=by simp
  rw[e] at hw
  cases ht:(ops[g]?).bind (·.dst) with
  |none=>rw[ht] at hw;simp at hw
  |some t=>
   rw[ht] at hw
   simp only[Option.bind_some] at hw⊢
   have hget:∀v:Value,a.tmps.getD t undef=v→v≠undef→a.tmps[t]? =some v:=by
    intro v hv hne
    rw[zby] at hv
    cases hx:a.tmps[t]? with
    |none=>rw[hx] at hv;exact absurd hv.symm hne
    |some u=>rw[hx] at hv;simp at hv;rw[hv]
   split at hw
   ·rename_i x hx
    split at hw
    ·rename_i c hc
     cases hw
     have hv:=qaah (h.slots t _ hx) hc
     rw[hget _ hv (by simp[undef])]
     rw[qabt]
     cases c<;>cases want<;>rfl
    ·cases hw
   ·rename_i hx
    cases hw
    have hv:a.tmps.getD t undef=undef:=by
     obtain⟨vs,h1,h2,_⟩:=h.slots t _ hx
     cases vs with
     |nil=>exact h1
     |cons v vs=>simp at h2
    rw[zby] at hv
    cases hx:a.tmps[t]? with
    |none=>rfl
    |some u=>rw[hx] at hv;simp at hv;rw[hv];rfl
   ·cases hw
theorem qage(hE:E.Good)(h:Sim E pm F kv fp σ a w){ops:Array Oper}{i:Nat}{it:Item U}(hi:ops[i]? =some it.o)(hd:dstOk σ it.o=true)
  (hit:(wantedA ops.toList it.o σ=some false∧it.r=undefR)∨(wantedA ops.toList it.o σ=some true∧step E σ it.o=some (it.r,it.ks)∧(∀p∈it.r.pre,p)∧∀k∈adds it.o it.r,¬Names σ k))
  {K:Act→World→Prop} {Q:Exit→Act→World→Prop} (hn:∀F kv fp a' w',Sim E pm F kv fp (apply it.o it.r σ) a' w'→K a' w'):wpOp E.P ops Q i K a w:=by
 unfold wpOp
 simp only[hi]
 rcases hit with⟨h1,h2⟩|⟨h1,h2,h3,h4⟩
 ·rw[qano h h1]
  simp only[zbg,if_false]
  refine hn F kv fp _ w ?_
  rw[h2]
  refine h.val it.o (some (.tup [])) [] undef (fun d hdd=> ?_) (fun x hx=> ?_)
  ·unfold dstOk at hd
   rw[hdd] at hd
   exact Nat.blt_eq▸hd
  ·cases hx
   exact⟨[],rfl,rfl,fun i x u hx=>by simp at hx⟩
 ·rw[qano h h1]
  simp only[if_true]
  exact .inl (qamr hE h h2 h3 h4 hn)
end AM
