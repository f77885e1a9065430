/- THE ABSTRACT MACHINE: a region whose order is drawn. -/
import Derived.Test.YtlachfpabecaeaaQAmRegion
namespace AM
set_option linter.unusedVariables false
open Go
variable{U:dh}{E:Env U}{pm:Pm}
variable{F F':Nat->Prop}{kv:Key->Value}{fp:Key->List Nat}{σ τ:aa U}{a:Act}{w w':World}
def T(D:Nat->Bool):Nat->List (Item U)->aa U->aa U
 |_,[],σ=>σ
 |j,it::r,σ=>T D (j+1) r (bif D j then apply it.o it.r σ else σ)
theorem GQ{D:Nat->Bool}:∀{items:List (Item U)}{j:Nat}{σ:aa U},(T D j items σ).n=σ.n
 |[],_,_=>rfl
 |it::r,j,σ=>by
  simp only[T]
  rw[GQ]
  cases D j<;>rfl
theorem yb{D D':Nat->Bool}{s:Nat}:∀{items:List (Item U)}{j:Nat}{σ τ:aa U},(∀(k:Nat)(it:Item U),items[k]? =some it->D (j+k)≠D' (j+k)->it.o.dst≠some s)->σ.get s=τ.get s->
  (T D j items σ).get s=(T D' j items τ).get s
 |[],_,_,_,_,h=>h
 |it::r,j,σ,τ,hd,h=>by
  simp only[T]
  refine yb (fun k jJ hk a_=>hd (k+1) jJ (by simpa using hk) (by rw[show j+(k+1)=j+1+k by omega];exact a_)) ?_
  have h0:=hd 0 it rfl
  simp only[pn] at h0
  have jS:∀{ρ:aa U},it.o.dst≠some s->(apply it.o it.r ρ).get s=ρ.get s:=by
   intro ρ a_
   rw[nS]
   cases dq:it.o.dst with
   |none=>rfl
   |some d=>simp only;rw[if_neg (fun e=>a_ (by rw[dq,e]))]
  cases h1:D j<;>cases h2:D' j<;>simp only[cond_true,cond_false]
  ·exact h
  ·rw[jS (h0 (by rw[h1,h2];simp)),h]
  ·rw[jS (h0 (by rw[h1,h2];simp)),h]
  ·rw[nS,nS,h]
theorem yd{D D':Nat->Bool}{k:Key}:∀{items:List (Item U)}{j:Nat}{σ τ:aa U},(∀(m:Nat)(it:Item U),items[m]? =some it->D (j+m)≠D' (j+m)->k∉it.r.writes (it.o.dst.getD 1000000))->σ.aq k=τ.aq k->
  (T D j items σ).aq k=(T D' j items τ).aq k
 |[],_,_,_,_,h=>h
 |it::r,j,σ,τ,hd,h=>by
  simp only[T]
  refine yd (fun m jJ hm a_=>hd (m+1) jJ (by simpa using hm) (by rw[show j+(m+1)=j+1+m by omega];exact a_)) ?_
  have h0:=hd 0 it rfl
  simp only[pn] at h0
  have jS:∀{ρ:aa U},k∉it.r.writes (it.o.dst.getD 1000000)->(apply it.o it.r ρ).aq k=ρ.aq k:=by
   intro ρ a_
   rw[qC,if_neg (fun e=>a_ (yS.1 e))]
  cases h1:D j<;>cases h2:D' j<;>simp only[cond_true,cond_false]
  ·exact h
  ·rw[jS (h0 (by rw[h1,h2];simp)),h]
  ·rw[jS (h0 (by rw[h1,h2];simp)),h]
  ·rw[qC,qC,h]
theorem Hk{r:aw U}{d:Nat}{k:Key}(h:k∉r.writes d):(r.cF.map (·.1)).any (cn k)=false:=by
 rw[<-nq,gr]
 exact fun e=>h (eZ _ e)
theorem D8{D D':Nat->Bool}{k:Key}:∀{items:List (Item U)}{j:Nat}{σ τ:aa U},(∀(m:Nat)(it:Item U),items[m]? =some it->D (j+m)≠D' (j+m)->k∉it.r.writes (it.o.dst.getD 1000000))->σ.ag.any (cn k)=τ.ag.any (cn k)->
  (T D j items σ).ag.any (cn k)=(T D' j items τ).ag.any (cn k)
 |[],_,_,_,_,h=>h
 |it::r,j,σ,τ,hd,h=>by
  simp only[T]
  refine D8 (fun m jJ hm a_=>hd (m+1) jJ (by simpa using hm) (by rw[show j+(m+1)=j+1+m by omega];exact a_)) ?_
  have h0:=hd 0 it rfl
  simp only[pn] at h0
  have jS:∀{ρ:aa U},k∉it.r.writes (it.o.dst.getD 1000000)->(apply it.o it.r ρ).ag.any (cn k)=ρ.ag.any (cn k):=by
   intro ρ a_
   rw[si,Hk a_];rfl
  cases h1:D j<;>cases h2:D' j<;>simp only[cond_true,cond_false]
  ·exact h
  ·rw[jS (h0 (by rw[h1,h2];simp)),h]
  ·rw[jS (h0 (by rw[h1,h2];simp)),h]
  ·rw[si,si,h]
theorem yc{D:Nat->Bool}:∀{items:List (Item U)}{j:Nat}{σ τ:aa U},lm σ τ->lm (T D j items σ) (T D j items τ)
 |[],_,_,_,h=>h
 |it::r,j,σ,τ,h=>by
  simp only[T]
  refine yc ?_
  cases D j
  ·exact h
  ·exact h.apply _ _
theorem H'{o:Oper}{r:aw U}{k:Key}(h:Names (apply o r σ) k):k∈r.names\/Names σ k:=by
 rcases h with⟨s,x,hs,hk⟩|⟨k',cs,he,x,hx,hk⟩
 ·rw[nS] at hs
  cases hd:o.dst with
  |none=>rw[hd] at hs;exact .inr (.inl ⟨s,x,hs,hk⟩)
  |some d=>
   rw[hd] at hs
   simp only at hs
   split at hs
   ·left
    unfold aw.names
    rw[hs]
    exact fy _ (fy _ hk)
   ·exact .inr (.inl ⟨s,x,hs,hk⟩)
 ·rw[qC] at he
  split at he
  ·left
   have hm:=l4 he
   have hn:k∈(b9.box cs:b9 U).names:=eY.2 ⟨x,hx,hk⟩
   simp only[lays,fe,cZ,ez,eX,bM] at hm
   unfold aw.names
   rcases hm with(⟨y,h1,h2,h3⟩|⟨y,h1,h2,h3⟩)|⟨y,h1,h2,h3⟩
   ·exact fy _ (eZ _ (eY.2 ⟨y,h1,by obtain⟨y1,y2⟩:=y;simp only at h3;subst h3;exact hn⟩))
   ·exact eZ _ (eY.2 ⟨y,h1,by obtain⟨y1,y2⟩:=y;simp only at h3;subst h3;exact hn⟩)
   ·cases h3
  ·exact .inr (.inr ⟨k',cs,he,x,hx,hk⟩)
theorem zb{D:Nat->Bool}{k:Key}:∀{items:List (Item U)}{j:Nat}{σ:aa U},Names (T D j items σ) k->Names σ k\/∃m it,items[m]? =some it/\D (j+m)=true/\k∈it.r.names
 |[],_,_,h=> .inl h
 |it::r,j,σ,h=>by
  simp only[T] at h
  rcases zb h with h|⟨m,jJ,h1,h2,h3⟩
  ·cases hd:D j<;>rw[hd] at h<;>simp only[cond_true,cond_false] at h
   ·exact .inl h
   ·rcases H' h with h|h
    ·exact .inr ⟨0,it,rfl,hd,h⟩
    ·exact .inl h
  ·exact .inr ⟨m+1,jJ,by simpa using h1,by rw[show j+(m+1)=j+1+m by omega];exact h2,h3⟩
theorem rY{D:Nat->Bool}:∀{items:List (Item U)}{j:Nat}{σ:aa U},(∀k,k<items.length->D (j+k)=true)->T D j items σ=jt items σ
 |[],_,_,_=>rfl
 |it::r,j,σ,h=>by
  simp only[T,jt]
  have h0:=h 0 (by simp)
  simp only[pn] at h0
  rw[h0]
  exact rY (fun k hk=>by rw[show j+1+k=j+(k+1) by omega];exact h (k+1) (by simpa using hk))
theorem ph{D:Nat->Bool}:∀{items:List (Item U)}{j:Nat}{σ:aa U},(∀k,k<items.length->D (j+k)=false)->T D j items σ=σ
 |[],_,_,_=>rfl
 |it::r,j,σ,h=>by
  simp only[T]
  have h0:=h 0 (by simp)
  simp only[pn] at h0
  rw[h0]
  exact ph (fun k hk=>by rw[show j+1+k=j+(k+1) by omega];exact h (k+1) (by simpa using hk))
theorem wx{D D':Nat->Bool}:∀{items:List (Item U)}{j:Nat}{σ:aa U},(∀k,k<items.length->D (j+k)=D' (j+k))->T D j items σ=T D' j items σ
 |[],_,_,_=>rfl
 |it::r,j,σ,h=>by
  simp only[T]
  have h0:=h 0 (by simp)
  simp only[pn] at h0
  rw[h0]
  exact wx (fun k hk=>by rw[show j+1+k=j+(k+1) by omega];exact h (k+1) (by simpa using hk))
theorem tq{D:Nat->Bool}:∀{items:List (Item U)}{i j:Nat}{σ:aa U},(∀k,D k=decide (k<j+i))->jt (items.take i) σ=T D j items σ
 |[],i,j,σ,_=>by cases i<;>rfl
 |it::r,0,j,σ,h=>by
  rw[List.take_zero]
  exact(ph (fun k _=>by rw[h];simp)).symm
 |it::r,i+1,j,σ,h=>by
  simp only[List.take_succ_cons,jt,T]
  rw[show D j=true by rw[h];simp]
  exact tq (fun k=>by rw[h,show j+(i+1)=j+1+i by omega])
theorem vg{ops:List Oper}:∀{items:List (Item U)}{i j:Nat}{σ:aa U}{rs:List Rec}{it:Item U},xe E ops i items σ rs->items[j]? =some it->BF E ops it (jt (items.take j) σ) (jU i (items.take j) rs)
 |[],_,_,_,_,_,_,h=>by simp at h
 |jJ::r,i,0,σ,rs,it,h,hj=>by
  simp only[iB,bM] at hj
  subst hj
  exact h.1
 |jJ::r,i,j+1,σ,rs,it,h,hj=>by
  simp only[List.take_succ_cons,jt,jU]
  exact vg h.2 (by simpa using hj)
theorem tJ{x:Rec}:∀{items:List (Item U)}{i:Nat}{rs:List Rec},x∈jU i items rs↔x∈rs\/∃m it,items[m]? =some it/\x=eF (i+m) it
 |[],i,rs=>by simp[jU]
 |it::r,i,rs=>by
  simp only[jU]
  rw[tJ]
  simp only[dQ]
  constructor
  ·rintro((h|h)|⟨m,jJ,h1,h2⟩)
   ·exact .inr ⟨0,it,rfl,by simpa using h⟩
   ·exact .inl h
   ·exact .inr ⟨m+1,jJ,by simpa using h1,by rw[h2,show i+(m+1)=i+1+m by omega]⟩
  ·rintro(h|⟨m,jJ,h1,h2⟩)
   ·exact .inl (.inr h)
   ·cases m with
    |zero=>simp only[iB,bM] at h1;subst h1;exact .inl (.inl (by simpa using h2))
    |succ m=>exact .inr ⟨m,jJ,by simpa using h1,by rw[h2,show i+(m+1)=i+1+m by omega]⟩
theorem vf{D:Nat->Bool}{i:Nat}{it:Item U}:∀{items:List (Item U)}{j:Nat}{σ:aa U},items[i]? =some it->D (j+i)=false->
  (∀(m:Nat)(jJ:Item U),items[m]? =some jJ->i<m->D (j+m)=true->(∀d,it.o.dst=some d->jJ.o.dst≠some d)/\∀k∈it.r.writes (it.o.dst.getD 1000000),k∉jJ.r.writes (jJ.o.dst.getD 1000000))->
  lm (apply it.o it.r (T D j items σ)) (T (fun k=>D k||Nat.beq k (j+i)) j items σ):=by
 have late:∀{items:List (Item U)}{j:Nat}{σ:aa U},(∀(m:Nat)(jJ:Item U),items[m]? =some jJ->D (j+m)=true->(∀d,it.o.dst=some d->jJ.o.dst≠some d)/\∀k∈it.r.writes (it.o.dst.getD 1000000),k∉jJ.r.writes (jJ.o.dst.getD 1000000))->
   lm (apply it.o it.r (T D j items σ)) (T D j items (apply it.o it.r σ)):=by
  intro items
  induction items with
  |nil=>intro j σ _;exact lm.refl _
  |cons jJ r ih=>
   intro j σ h
   simp only[T]
   refine(ih (fun m x hm hD=>h (m+1) x (by simpa using hm) (by rw[show j+(m+1)=j+1+m by omega];exact hD))).trans (yc ?_)
   cases hd:D j<;>simp only[cond_true,cond_false]
   ·exact lm.refl _
   ·obtain⟨h1,h2⟩:=h 0 jJ rfl (by simpa using hd)
    exact(JK h1 h2).symm
 induction i with
 |zero=>
  intro items j σ hi hD h
  cases items with
  |nil=>simp at hi
  |cons jJ r=>
   simp only[iB,bM] at hi
   subst hi
   simp only[T,pn] at hD⊢
   rw[hD]
   simp only[cond_false,rh]
   rw[show Nat.beq j j=true by simp]
   simp only[cond_true]
   refine(late (fun m x hm lj=>h (m+1) x (by simpa using hm) (by omega) (by rw[show j+(m+1)=j+1+m by omega];exact lj))).trans ?_
   rw[wx (D':=fun k=>D k||Nat.beq k j)]
   ·exact lm.refl _
   ·intro k _
    have:Nat.beq (j+1+k) j=false:=by
     cases hb:Nat.beq (j+1+k) j
     ·rfl
     ·have:=en hb;omega
    simp[this]
 |succ i ih=>
  intro items j σ hi hD h
  cases items with
  |nil=>simp at hi
  |cons jJ r=>
   simp only[T]
   have hj:Nat.beq j (j+(i+1))=false:=by
    cases hb:Nat.beq j (j+(i+1))
    ·rfl
    ·have:=en hb;omega
   rw[hj,Oh]
   have:=ih (items:=r) (j:=j+1) (σ:=bif D j then apply jJ.o jJ.r σ else σ) (by simpa using hi) (by rw[show j+1+i=j+(i+1) by omega];exact hD)
    (fun m x hm bZ lj=>h (m+1) x (by simpa using hm) (by omega) (by rw[show j+(m+1)=j+1+m by omega];exact lj))
   rw[show j+(i+1)=j+1+i by omega]
   exact this
theorem wq(m i:Nat):j8 m i=m.testBit i:=by
 have h:j8 m i=Nat.beq ((m>>>i)&&&1) 1:=rfl
 rw[h,Nat.and_one_is_mod,Nat.shiftRight_eq_div_pow,Nat.testBit_eq_decide_div_mod_eq]
 rw[Cl,te,decide_eq_true_eq]
theorem DZ{a b i:Nat}(h:j8 (Nat.lor a b) i=true):j8 a i=true\/j8 b i=true:=by
 rw[wq] at h⊢
 rw[wq]
 have h:(a|||b).testBit i=true:=h
 rw[Nat.testBit_or,qo] at h
 exact h
theorem JB{k i:Nat}(h:j8 (Nat.shiftLeft 1 k) i=true):i=k:=by
 rw[wq] at h
 have h:(1<<<k).testBit i=true:=h
 rw[Nat.shiftLeft_eq,ta,Nat.testBit_two_pow] at h
 exact(of_decide_eq_true h).symm
theorem y8{i:Nat}:j8 0 i=false:=by rw[wq,Nat.zero_testBit]
theorem D4{D:Nat->Prop}{acc:List Nat}:∀(es:List Edge)(m:Nat),(∀i,j8 m i=true->D i)->(∀e∈es,Region.binds .any e=true->D e.on/\∀i,j8 (acc.getD e.on 0) i=true->D i)->
  ∀i,j8 (es.foldl (fun m e=>bif Region.binds .any e then Nat.lor m (Nat.lor (Nat.shiftLeft 1 e.on) (acc.getD e.on 0)) else m) m) i=true->D i
 |[],m,h,_,i,hi=>h i hi
 |e::es,m,h,he,i,hi=>by
  rw[List.foldl_cons] at hi
  refine D4 es _ (fun j hj=> ?_) (fun e' h'=>he e' (c9 _ h')) i hi
  rw[bY] at hj
  split at hj
  ·rename_i hb
   obtain⟨h1,h2⟩:=he e e_ hb
   rcases DZ hj with hj|hj
   ·exact h j hj
   ·rcases DZ hj with hj|hj
    ·rw[JB hj];exact h1
    ·exact h2 j hj
  ·exact h j hj
theorem D3{D:Nat->Prop}:∀{ops:List Oper}{acc:List Nat}{n:Nat},acc.length=n->(∀j,j<n->D j->∀i,j8 (acc.getD j 0) i=true->D i)->
  (∀(m:Nat)(o:Oper),ops[m]? =some o->D (n+m)->∀e∈o.after.toList,Region.binds .any e=true->D e.on)->
  ∀j,D j->∀i,j8 ((ops.foldl (fun acc o=>acc++[o.after.toList.foldl (fun m e=>bif Region.binds .any e then Nat.lor m (Nat.lor (Nat.shiftLeft 1 e.on) (acc.getD e.on 0)) else m) 0]) acc).getD j 0) i=true->D i
 |[],acc,n,hl,ha,_,j,hj,i,hi=>by
  rcases eW j n with h|h
  ·exact ha j h hj i hi
  ·simp only[List.foldl_nil] at hi
   rw[cI,eD (by omega)] at hi
   simp[y8] at hi
 |o::ops,acc,n,hl,ha,ho,j,hj,i,hi=>by
  simp only[List.foldl_cons] at hi
  refine D3 (ops:=ops) (n:=n+1) (by simp[hl]) (fun j' gY hD i' fP=> ?_) (fun m o' hm hD=>ho (m+1) o' (by simpa using hm) (by rw[show n+(m+1)=n+1+m by omega];exact hD)) j hj i hi
  have gd:∀m i,j8 (acc.getD m 0) i=true->D m->D i:=by
   intro m i hi hD
   rcases eW m n with h|h
   ·exact ha m h hD i hi
   ·rw[cI,eD (by omega)] at hi
    simp[y8] at hi
  rcases eW j' n with h|h
  ·rw[pN (by omega)] at fP
   exact ha j' h hD i' fP
  ·have:j'=n:=by omega
   subst this
   rw[sg (by omega),hl,Cf] at fP
   simp only[List.getD_cons_zero] at fP
   refine D4 (D:=D) (acc:=acc) o.after.toList 0 (fun i hi=>by rw[y8] at hi;cases hi) (fun e he hb=> ?_) i' fP
   have OC:D e.on:=ho 0 o rfl (by simpa using hD) e he hb
   exact⟨OC,fun i hi=>gd e.on i hi OC⟩
theorem yN{x y:List Key}(h:meet x y=false):∀k∈x,k∉y:=by
 intro k hk hy
 have:meet x y=true:=jg.2 ⟨k,hk,gr.2 hy⟩
 rw[h] at this;cases this
structure nM(ops:List Oper)(x y:Item U):Prop where
 w:∀k∈x.r.writes (x.o.dst.getD 1000000),k∉y.ks/\k∉y.r.writes (y.o.dst.getD 1000000)
 r:∀k∈y.r.writes (y.o.dst.getD 1000000),k∉x.ks
 n:∀k∈x.r.news (x.o.dst.getD 1000000),k∉y.r.names
 d:∀d,x.o.dst=some d->d∉slotsOf ops y.o/\y.o.dst≠some d
 e:∀d,y.o.dst=some d->d∉slotsOf ops x.o
theorem nM.of{ops:List Oper}{x y:Item U}{i j:Nat}(h:oH ops x.o y.o (eF i x) (eF j y)=true):nM ops x y:=by
 unfold oH eF at h
 simp only[dR,k_] at h
 obtain⟨⟨⟨⟨h1,h2⟩,h5⟩,h3⟩,h4⟩:=h
 refine⟨fun k hk=> ?_,yN h2,yN h5,fun d hd=> ?_,fun d hd=> ?_⟩
 ·have:=yN h1 k hk
  simp only[cZ,not_or] at this⊢
  exact this
 ·rw[hd] at h3
  simp only[dR,k_] at h3
  refine⟨fun hm=> ?_,fun he=> ?_⟩
  ·have:(slotsOf ops y.o).any (Nat.beq d)=true:=jg.2 ⟨d,hm,by simp⟩
   rw[h3.1] at this;cases this
  ·rw[he] at h3;simp at h3
 ·rw[hd] at h4
  simp only[k_] at h4
  intro hm
  have:(slotsOf ops x.o).any (Nat.beq d)=true:=jg.2 ⟨d,hm,by simp⟩
  rw[h4] at this;cases this
theorem xe.xv{ops:List Oper}{items:List (Item U)}{σ:aa U}(h:xe E ops 0 items σ []){j:Nat}{it:Item U}(hj:items[j]? =some it):
  BF E ops it (T (fun k=>decide (k<j)) 0 items σ) (jU 0 (items.take j) []):=by
 have:=vg h hj
 rwa[tq (D:=fun k=>decide (k<j)) (j:=0) (fun k=>by simp)] at this
theorem Hj{ops:List Oper}{o:Oper}(h:∀t∈kI ops o,σ.get t=τ.get t):b_ ops o σ=b_ ops o τ:=by
 unfold b_
 unfold kI at h
 split
 ·rfl
 ·rename_i g want hg
  rw[hg] at h
  simp only at h
  have:((ops[g]?).bind (·.dst)).bind σ.get=((ops[g]?).bind (·.dst)).bind τ.get:=by
   cases hq:ops[g]? with
   |none=>rfl
   |some q=>
    rw[hq] at h
    cases hd:q.dst with
    |none=>simp[hd]
    |some d=>simp only[Option.bind_some,hd];exact h d (by simp[hd])
  rw[this]
theorem yW{bz:Array Bool}{k:Nat}(h:k<bz.size)(d d':Bool):bz.getD k d=bz.getD k d':=by
 simp[tm,h]
theorem Jf(hE:E.Good){ops:Array Oper}{items:List (Item U)}{σ:aa U}(cu:xe E ops.toList 0 items σ [])(jo:items.map (·.o)=ops.toList)(uK:rb ops.toList (jU 0 items [])=true)
  (hN:∀k,Names σ k->(k.1∈ll ops.toList\/k.1=1000000)->1024<=k.2) {Q:Exit->Act->World->Prop} (gZ:∀F kv fp a w,aC E pm F kv fp (jt items σ) a w->Q .normal a w):
  ∀(uW:Nat)(bz:Array Bool)(F:Nat->Prop)(kv:Key->Value)(fp:Key->List Nat)(a:Act)(w:World),aC E pm F kv fp (T (fun k=>bz.getD k false) 0 items σ) a w->bz.size=ops.size->
   (∀j,bz.getD j false=true->∀o,ops[j]? =some o->∀e∈o.after,Region.binds .any e=true->bz.getD e.on false=true)->bz.toList.count false<=uW->
   wpAny E.P .any ops Q uW bz a w:=by
 have hlen:items.length=ops.size:=by simpa using congrArg List.length jo
 have fV:∀(j:Nat)(it:Item U),items[j]? =some it->ops[j]? =some it.o:=by
  intro j it hj
  have:(items.map (·.o))[j]? =some it.o:=by rw[eC,hj];rfl
  rw[jo] at this
  simpa using this
 unfold rb at uK
 simp only[dR] at uK
 obtain⟨zM,xJ⟩:=uK
 have kX:∀(j:Nat)(o:Oper),ops[j]? =some o->∀e∈o.after,Region.binds .any e=true->e.on<j:=by
  intro j o hj e he hb
  unfold xu at zM
  rw[qp] at zM
  have hm:(o,j)∈ops.toList.zipIdx:=by
   rw[List.mem_zipIdx_iff_getElem?]
   simpa using hj
  have:=qp.1 (zM _ hm) e (by simpa using he)
  rw[hb] at this
  exact Nat.blt_eq▸this
 have jS:∀{D:Nat->Prop},(∀j,D j->∀o,ops[j]? =some o->∀e∈o.after,Region.binds .any e=true->D e.on)->∀(i j:Nat)(x y:Item U),items[i]? =some x->items[j]? =some y->i<j->D j->¬D i->nM ops.toList x y:=by
  intro D hD i j x y hi hj wR Qj B8
  rw[qp] at xJ
  have h1:=xJ (eF j y) (tJ.2 (.inr ⟨j,y,hj,by simp⟩))
  rw[qp] at h1
  have h2:=h1 (eF i x) (tJ.2 (.inr ⟨i,x,hi,by simp⟩))
  simp only[qo,k_] at h2
  rcases h2 with(h2|h2)|h2
  ·have:Nat.blt i j=true:=by simpa using wR
   simp only[eF] at h2
   rw[this] at h2;cases h2
  ·exfalso
   refine B8 (D3 (D:=D) (acc:=[]) (n:=0) rfl (fun j hj=>by omega) (fun m o hm lj e he hb=> ?_) j Qj i h2)
   exact hD m (by simpa using lj) o (by simpa using hm) e (by simpa using he) hb
  ·have e1:ops.toList[(eF i x).i]? =some x.o:=by simpa[eF] using fV i x hi
   have e2:ops.toList[(eF j y).i]? =some y.o:=by simpa[eF] using fV j y hj
   rw[e1,e2] at h2
   exact nM.of h2
 intro uW
 induction uW with
 |zero=>
  intro bz F kv fp a w hs iG cp KO
  have wX:∀k,k<items.length->bz.getD k false=true:=by
   intro k hk
   have aG:k<bz.size:=by omega
   rw[tm,Ci aG]
   simp only[xk]
   cases hb:bz[k] with
   |true=>rfl
   |false=>
    exfalso
    have:false∈bz.toList:=by rw[<-hb];exact Array.mem_toList_iff.2 (Array.getElem_mem aG)
    have:=List.count_pos_iff.2 this
    omega
  refine⟨?_,gZ F kv fp a w ?_⟩
  ·rw[G0]
   intro i hi
   obtain⟨h0,o,ho,_⟩:=mem_ready.1 hi
   have bZ:i<ops.size:=(Array.getElem?_eq_some_iff.1 ho).1
   rw[yW (by omega) true false,wX i (by omega)] at h0
   cases h0
  ·rw[<-rY (D:=fun k=>bz.getD k false) (j:=0) (fun k hk=>by simpa using wX k hk)];exact hs
 |succ uW ih=>
  intro bz F kv fp a w hs iG cp KO
  refine⟨fun qQ=> ?_,fun i hi=> ?_⟩
  ·have wX:∀k,k<items.length->bz.getD k false=true:=by
    intro k
    induction k using Nat.strongRecOn with
    |ind k Pg=>
     intro hk
     cases hb:bz.getD k false with
     |true=>rfl
     |false=>
      exfalso
      have bZ:k<ops.size:=by omega
      have hr:k∈Region.ready .any ops bz:=by
       refine mem_ready.2 ⟨by rw[yW (by omega) true false];exact hb,ops[k],Ci bZ,fun e he P7=> ?_⟩
       have:=kX k ops[k] (Ci bZ) e he P7
       exact Pg e.on this (by omega)
      rw[qQ] at hr;cases hr
   refine gZ F kv fp a w ?_
   rw[<-rY (D:=fun k=>bz.getD k false) (j:=0) (fun k hk=>by simpa using wX k hk)];exact hs
  ·obtain⟨h0,o,ho,xU⟩:=mem_ready.1 hi
   have bZ:i<ops.size:=(Array.getElem?_eq_some_iff.1 ho).1
   have J2:bz.getD i false=false:=by rw[yW (by omega) false true];exact h0
   obtain⟨it,qm⟩:∃it,items[i]? =some it:=⟨_,cE (by omega)⟩
   have BU:ops[i]? =some it.o:=fV i it qm
   have:o=it.o:=by rw[ho] at BU;exact yf BU
   subst this
   generalize Gy:(fun k=>bz.getD k false)=D at hs
   have B8:D i=false:=by rw[<-Gy];exact J2
   have wV:∀j,D j=true->∀o,ops[j]? =some o->∀e∈o.after,Region.binds .any e=true->D e.on=true:=by rw[<-Gy];exact cp
   have ux:∀(m:Nat)(y:Item U),items[m]? =some y->i<m->D m=true->nM ops.toList it y:=fun m y hm Gs lj=>
    jS (D:=fun k=>D k=true) wV i m it y qm hm Gs lj (by simp[B8])
   have Ak:∀(m:Nat)(x:Item U),items[m]? =some x->m<i->D m=false->nM ops.toList x it:=fun m x hm PK lj=>
    jS (D:=fun k=>D k=true\/k=i) (by
     intro j hj o' uq e he hb
     rcases hj with hj|hj
     ·exact .inl (wV j hj o' uq e he hb)
     ·subst hj
      rw[ho] at uq
      cases uq
      left
      rw[<-Gy]
      exact xU e he hb) m i x it hm qm PK (.inr rfl) (by simp[lj];omega)
   have uL:∀(m:Nat)(x:Item U),items[m]? =some x->D (0+m)≠decide (0+m<i)->(∀d,x.o.dst=some d->d∉slotsOf ops.toList it.o)/\∀k∈x.r.writes (x.o.dst.getD 1000000),k∉it.ks:=by
    intro m x hm a_
    simp only[ke] at a_
    rcases Nat.lt_trichotomy m i with qS|ff|xS
    ·have lj:D m=false:=by
      cases hb:D m
      ·rfl
      ·exact absurd (by rw[hb];simp[qS]) a_
     have:=Ak m x hm qS lj
     exact⟨fun d hd=>(this.d d hd).1,fun k hk=>(this.w k hk).1⟩
    ·subst ff
     exact absurd (by rw[B8];simp) a_
    ·have lj:D m=true:=by
      cases hb:D m
      ·exact absurd (by rw[hb];simp;omega) a_
      ·rfl
     have:=ux m x hm xS lj
     exact⟨fun d hd=>this.e d hd,fun k hk=>this.r k hk⟩
   obtain⟨kG,BT⟩:=cu.xv qm
   have xH:∀t∈slotsOf ops.toList it.o,(T (fun k=>decide (k<i)) 0 items σ).get t=(T D 0 items σ).get t:=fun t ht=>
    (yb (fun m x hm a_ e=>((uL m x hm a_).1 t e) ht) rfl).symm
   have EN:∀k∈it.ks,(T (fun k=>decide (k<i)) 0 items σ).aq k=(T D 0 items σ).aq k:=fun k hk=>
    (yd (fun m x hm a_ e=>(uL m x hm a_).2 k e hk) rfl).symm
   have EO:∀k∈it.ks,(T (fun k=>decide (k<i)) 0 items σ).ag.any (cn k)=(T D 0 items σ).ag.any (cn k):=fun k hk=>
    (D8 (fun m x hm a_ e=>(uL m x hm a_).2 k e hk) rfl).symm
   have hw:b_ ops.toList it.o (T D 0 items σ)=b_ ops.toList it.o (T (fun k=>decide (k<i)) 0 items σ):=
    Hj (fun t ht=>(xH t (eZ _ ht)).symm)
   have nc:fF (T D 0 items σ) it.o=true:=by
    unfold fF at kG⊢
    rw[GQ] at kG⊢
    exact kG
   refine Dz hE hs BU nc ?_ (fun F' kv' fp' a' w' cO=>ih (bz.setIfInBounds i true) F' kv' fp' a' w' ?_ (by simp[iG]) ?_ ?_)
   ·rcases BT with⟨g1,g2,g3⟩|⟨g1,g2,g3,g4,g5⟩
    ·exact .inl ⟨by rw[hw];exact g1,g2⟩
    ·refine .inr ⟨by rw[hw];exact g1,g2.imp fun b g2=>Hu g2 (by rw[GQ,GQ]) (fun t ht=>xH t (fy _ (eY.2 ⟨.tmp t,ht,by simp⟩))) EN EO,g3,fun k hk gi=> ?_⟩
     ·
      have uB:∃j,k=(it.o.dst.getD 1000000,j)/\j<1024/\it.r.aQ≠[]:=by
       simp only[aQ,ez] at hk
       obtain⟨⟨j,e⟩,hj,rfl⟩:=hk
       unfold jv at g5
       have:=qp.1 g5 _ hj
       exact⟨j,rfl,Nat.blt_eq▸this,(fun e=>by rw[e] at hj;cases hj)⟩
      obtain⟨j,rfl,hj,a_⟩:=uB
      have PQ:((it.o.dst.getD 1000000,j):Key)∈it.r.news (it.o.dst.getD 1000000):=hk
      rcases zb gi with gi|⟨m,x,hm,lj,hx⟩
      ·have:=hN _ gi (by
        cases hd:it.o.dst with
        |none=>exact .inr rfl
        |some d=>
         refine .inl ?_
         simp only[xk,ll,eY]
         exact⟨it.o,by have:=BU;rw[<-qt] at this;exact np this,by simp[hd]⟩)
       simp only at this
       omega
      ·simp only[ke] at lj
       rcases Nat.lt_trichotomy m i with qS|ff|xS
       ·
        unfold gF at g4
        have Ky:it.r.aQ.isEmpty=false:=by cases ha:it.r.aQ with
         |nil=>exact absurd ha a_
         |cons _ _=>rfl
        rw[Ky,rh,qp] at g4
        have iU:eF m x∈jU 0 (items.take i) []:=tJ.2 (.inr ⟨m,x,by rw[eP,if_pos qS];exact hm,by simp⟩)
        have:=g4 _ iU
        simp only[k_,eF] at this
        rw[<-nq,jg] at this
        exact this ⟨_,fy _ (eZ _ hx),by simp⟩
       ·subst ff
        rw[B8] at lj;cases lj
       ·exact(ux m x hm xS lj).n _ PQ hx
   ·refine cO.congr ?_
    have h1:=vf (D:=D) (i:=i) (it:=it) (items:=items) (j:=0) (σ:=σ) qm (by simpa using B8) (fun m y hm Gs lj=>by
     have:=ux m y hm Gs (by simpa using lj)
     exact⟨fun d hd=>(this.d d hd).2,fun k hk=>(this.w k hk).2⟩)
    refine h1.trans ?_
    rw[wx (D':=fun k=>(bz.setIfInBounds i true).getD k false)]
    ·exact lm.refl _
    ·intro k hk
     simp only[ke]
     rw[<-Gy]
     simp only
     cases hb:Nat.beq k i
     ·rw[Oh,getD_set_ne]
      intro e
      subst e
      simp at hb
     ·have:=en hb
      subst this
      rw[Bool.or_true,tm,Array.getElem?_setIfInBounds_self_of_lt (by omega)]
      rfl
   ·intro j hj o' uq e he hb
    by_cases Gr:j=i
    ·subst Gr
     rw[ho] at uq
     cases uq
     exact getD_set_true (xU e he hb)
    ·rw[getD_set_ne false (Ne.symm Gr)] at hj
     exact getD_set_true (cp j hj o' uq e he hb)
   ·have Gp:i<bz.size:=by omega
    have hb:bz[i]=false:=by
     rw[tm,Ci Gp] at J2
     simpa using J2
    rw[Array.toList_setIfInBounds,List.count_set (by simpa using Gp)]
    have e1:(bz.toList[i]'(by simpa using Gp)==false)=true:=by simp[hb]
    have e2:(true==false)=false:=rfl
    rw[e1,e2]
    have:false∈bz.toList:=by rw[<-hb];exact Array.mem_toList_iff.2 (Array.getElem_mem Gp)
    have:=List.count_pos_iff.2 this
    simp only[if_true,lN,if_false]
    omega
end AM
