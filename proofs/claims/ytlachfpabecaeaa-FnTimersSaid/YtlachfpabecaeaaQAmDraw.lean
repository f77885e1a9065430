/- THE ABSTRACT MACHINE: a region whose order is drawn. -/
import Derived.Test.YtlachfpabecaeaaQAmRegion
namespace AM
set_option linter.unusedVariables false
open Go
variable{U:dw}{E:Env U}{pm:Pm}
variable{F F':Nat->Prop}{kv:Key->Value}{fp:Key->List Nat}{σ τ:aa U}{a:Act}{w w':World}
def T(D:Nat->Bool):Nat->List (Item U)->aa U->aa U
 |_,[],σ=>σ
 |j,it::r,σ=>T D (j+1) r (bif D j then apply it.o it.r σ else σ)
theorem He{D:Nat->Bool}:∀{items:List (Item U)}{j:Nat}{σ:aa U},(T D j items σ).n=σ.n
 |[],_,_=>rfl
 |it::r,j,σ=>by
  simp only[T]
  rw[He]
  cases D j<;>rfl
theorem zl{D D':Nat->Bool}{s:Nat}:∀{items:List (Item U)}{j:Nat}{σ τ:aa U},(∀(k:Nat)(it:Item U),items[k]? =some it->D (j+k)≠D' (j+k)->it.o.dst≠some s)->σ.get s=τ.get s->
  (T D j items σ).get s=(T D' j items τ).get s
 |[],_,_,_,_,h=>h
 |it::r,j,σ,τ,hd,h=>by
  simp only[T]
  refine zl (fun k ko hk aX=>hd (k+1) ko (by simpa using hk) (by rw[show j+(k+1)=j+1+k by omega];exact aX)) ?_
  have h0:=hd 0 it rfl
  simp only[qh] at h0
  have ky:∀{ρ:aa U},it.o.dst≠some s->(apply it.o it.r ρ).get s=ρ.get s:=by
   intro ρ aX
   rw[oR]
   cases dD:it.o.dst with
   |none=>rfl
   |some d=>simp only;rw[if_neg (fun e=>aX (by rw[dD,e]))]
  cases h1:D j<;>cases h2:D' j<;>simp only[cond_true,cond_false]
  ·exact h
  ·rw[ky (h0 (by rw[h1,h2];simp)),h]
  ·rw[ky (h0 (by rw[h1,h2];simp)),h]
  ·rw[oR,oR,h]
theorem zn{D D':Nat->Bool}{k:Key}:∀{items:List (Item U)}{j:Nat}{σ τ:aa U},(∀(m:Nat)(it:Item U),items[m]? =some it->D (j+m)≠D' (j+m)->k∉it.r.writes (it.o.dst.getD 1000000))->σ.aw k=τ.aw k->
  (T D j items σ).aw k=(T D' j items τ).aw k
 |[],_,_,_,_,h=>h
 |it::r,j,σ,τ,hd,h=>by
  simp only[T]
  refine zn (fun m ko hm aX=>hd (m+1) ko (by simpa using hm) (by rw[show j+(m+1)=j+1+m by omega];exact aX)) ?_
  have h0:=hd 0 it rfl
  simp only[qh] at h0
  have ky:∀{ρ:aa U},k∉it.r.writes (it.o.dst.getD 1000000)->(apply it.o it.r ρ).aw k=ρ.aw k:=by
   intro ρ aX
   rw[rS,if_neg (fun e=>aX (z9.1 e))]
  cases h1:D j<;>cases h2:D' j<;>simp only[cond_true,cond_false]
  ·exact h
  ·rw[ky (h0 (by rw[h1,h2];simp)),h]
  ·rw[ky (h0 (by rw[h1,h2];simp)),h]
  ·rw[rS,rS,h]
theorem HL{r:az U}{d:Nat}{k:Key}(h:k∉r.writes d):(r.cK.map (·.1)).any (cj k)=false:=by
 rw[<-n7,gX]
 exact fun e=>h (fD _ e)
theorem En{D D':Nat->Bool}{k:Key}:∀{items:List (Item U)}{j:Nat}{σ τ:aa U},(∀(m:Nat)(it:Item U),items[m]? =some it->D (j+m)≠D' (j+m)->k∉it.r.writes (it.o.dst.getD 1000000))->σ.ah.any (cj k)=τ.ah.any (cj k)->
  (T D j items σ).ah.any (cj k)=(T D' j items τ).ah.any (cj k)
 |[],_,_,_,_,h=>h
 |it::r,j,σ,τ,hd,h=>by
  simp only[T]
  refine En (fun m ko hm aX=>hd (m+1) ko (by simpa using hm) (by rw[show j+(m+1)=j+1+m by omega];exact aX)) ?_
  have h0:=hd 0 it rfl
  simp only[qh] at h0
  have ky:∀{ρ:aa U},k∉it.r.writes (it.o.dst.getD 1000000)->(apply it.o it.r ρ).ah.any (cj k)=ρ.ah.any (cj k):=by
   intro ρ aX
   rw[tx,HL aX];rfl
  cases h1:D j<;>cases h2:D' j<;>simp only[cond_true,cond_false]
  ·exact h
  ·rw[ky (h0 (by rw[h1,h2];simp)),h]
  ·rw[ky (h0 (by rw[h1,h2];simp)),h]
  ·rw[tx,tx,h]
theorem zm{D:Nat->Bool}:∀{items:List (Item U)}{j:Nat}{σ τ:aa U},me σ τ->me (T D j items σ) (T D j items τ)
 |[],_,_,_,h=>h
 |it::r,j,σ,τ,h=>by
  simp only[T]
  refine zm ?_
  cases D j
  ·exact h
  ·exact h.apply _ _
theorem IA{o:Oper}{r:az U}{k:Key}(h:Names (apply o r σ) k):k∈r.names\/Names σ k:=by
 rcases h with⟨s,x,hs,hk⟩|⟨k',cs,he,x,hx,hk⟩
 ·rw[oR] at hs
  cases hd:o.dst with
  |none=>rw[hd] at hs;exact .inr (.inl ⟨s,x,hs,hk⟩)
  |some d=>
   rw[hd] at hs
   simp only at hs
   split at hs
   ·left
    unfold az.names
    rw[hs]
    exact fV _ (fV _ hk)
   ·exact .inr (.inl ⟨s,x,hs,hk⟩)
 ·rw[rS] at he
  split at he
  ·left
   have hm:=mN he
   have hn:k∈(bZ.box cs:bZ U).names:=fC.2 ⟨x,hx,hk⟩
   simp only[lays,fH,cY,eV,fB,bH] at hm
   unfold az.names
   rcases hm with(⟨y,h1,h2,h3⟩|⟨y,h1,h2,h3⟩)|⟨y,h1,h2,h3⟩
   ·exact fV _ (fD _ (fC.2 ⟨y,h1,by obtain⟨y1,y2⟩:=y;simp only at h3;subst h3;exact hn⟩))
   ·exact fD _ (fC.2 ⟨y,h1,by obtain⟨y1,y2⟩:=y;simp only at h3;subst h3;exact hn⟩)
   ·cases h3
  ·exact .inr (.inr ⟨k',cs,he,x,hx,hk⟩)
theorem Ao{D:Nat->Bool}{k:Key}:∀{items:List (Item U)}{j:Nat}{σ:aa U},Names (T D j items σ) k->Names σ k\/∃m it,items[m]? =some it/\D (j+m)=true/\k∈it.r.names
 |[],_,_,h=> .inl h
 |it::r,j,σ,h=>by
  simp only[T] at h
  rcases Ao h with h|⟨m,ko,h1,h2,h3⟩
  ·cases hd:D j<;>rw[hd] at h<;>simp only[cond_true,cond_false] at h
   ·exact .inl h
   ·rcases IA h with h|h
    ·exact .inr ⟨0,it,rfl,hd,h⟩
    ·exact .inl h
  ·exact .inr ⟨m+1,ko,by simpa using h1,by rw[show j+(m+1)=j+1+m by omega];exact h2,h3⟩
theorem tc{D:Nat->Bool}:∀{items:List (Item U)}{j:Nat}{σ:aa U},(∀k,k<items.length->D (j+k)=true)->T D j items σ=jW items σ
 |[],_,_,_=>rfl
 |it::r,j,σ,h=>by
  simp only[T,jW]
  have h0:=h 0 (by simp)
  simp only[qh] at h0
  rw[h0]
  exact tc (fun k hk=>by rw[show j+1+k=j+(k+1) by omega];exact h (k+1) (by simpa using hk))
theorem p7{D:Nat->Bool}:∀{items:List (Item U)}{j:Nat}{σ:aa U},(∀k,k<items.length->D (j+k)=false)->T D j items σ=σ
 |[],_,_,_=>rfl
 |it::r,j,σ,h=>by
  simp only[T]
  have h0:=h 0 (by simp)
  simp only[qh] at h0
  rw[h0]
  exact p7 (fun k hk=>by rw[show j+1+k=j+(k+1) by omega];exact h (k+1) (by simpa using hk))
theorem xA{D D':Nat->Bool}:∀{items:List (Item U)}{j:Nat}{σ:aa U},(∀k,k<items.length->D (j+k)=D' (j+k))->T D j items σ=T D' j items σ
 |[],_,_,_=>rfl
 |it::r,j,σ,h=>by
  simp only[T]
  have h0:=h 0 (by simp)
  simp only[qh] at h0
  rw[h0]
  exact xA (fun k hk=>by rw[show j+1+k=j+(k+1) by omega];exact h (k+1) (by simpa using hk))
theorem uI{D:Nat->Bool}:∀{items:List (Item U)}{i j:Nat}{σ:aa U},(∀k,D k=decide (k<j+i))->jW (items.take i) σ=T D j items σ
 |[],i,j,σ,_=>by cases i<;>rfl
 |it::r,0,j,σ,h=>by
  rw[List.take_zero]
  exact(p7 (fun k _=>by rw[h];simp)).symm
 |it::r,i+1,j,σ,h=>by
  simp only[List.take_succ_cons,jW,T]
  rw[show D j=true by rw[h];simp]
  exact uI (fun k=>by rw[h,show j+(i+1)=j+1+i by omega])
theorem ww{ops:List Oper}:∀{items:List (Item U)}{i j:Nat}{σ:aa U}{rs:List Rec}{it:Item U},yo E ops i items σ rs->items[j]? =some it->BW E ops it (jW (items.take j) σ) (kB i (items.take j) rs)
 |[],_,_,_,_,_,_,h=>by simp at h
 |ko::r,i,0,σ,rs,it,h,hj=>by
  simp only[ja,bH] at hj
  subst hj
  exact h.1
 |ko::r,i,j+1,σ,rs,it,h,hj=>by
  simp only[List.take_succ_cons,jW,kB]
  exact ww h.2 (by simpa using hj)
theorem uZ{x:Rec}:∀{items:List (Item U)}{i:Nat}{rs:List Rec},x∈kB i items rs↔x∈rs\/∃m it,items[m]? =some it/\x=eY (i+m) it
 |[],i,rs=>by simp[kB]
 |it::r,i,rs=>by
  simp only[kB]
  rw[uZ]
  simp only[dJ]
  constructor
  ·rintro((h|h)|⟨m,ko,h1,h2⟩)
   ·exact .inr ⟨0,it,rfl,by simpa using h⟩
   ·exact .inl h
   ·exact .inr ⟨m+1,ko,by simpa using h1,by rw[h2,show i+(m+1)=i+1+m by omega]⟩
  ·rintro(h|⟨m,ko,h1,h2⟩)
   ·exact .inl (.inr h)
   ·cases m with
    |zero=>simp only[ja,bH] at h1;subst h1;exact .inl (.inl (by simpa using h2))
    |succ m=>exact .inr ⟨m,ko,by simpa using h1,by rw[h2,show i+(m+1)=i+1+m by omega]⟩
theorem wv{D:Nat->Bool}{i:Nat}{it:Item U}:∀{items:List (Item U)}{j:Nat}{σ:aa U},items[i]? =some it->D (j+i)=false->
  (∀(m:Nat)(ko:Item U),items[m]? =some ko->i<m->D (j+m)=true->(∀d,it.o.dst=some d->ko.o.dst≠some d)/\∀k∈it.r.writes (it.o.dst.getD 1000000),k∉ko.r.writes (ko.o.dst.getD 1000000))->
  me (apply it.o it.r (T D j items σ)) (T (fun k=>D k||Nat.beq k (j+i)) j items σ):=by
 have late:∀{items:List (Item U)}{j:Nat}{σ:aa U},(∀(m:Nat)(ko:Item U),items[m]? =some ko->D (j+m)=true->(∀d,it.o.dst=some d->ko.o.dst≠some d)/\∀k∈it.r.writes (it.o.dst.getD 1000000),k∉ko.r.writes (ko.o.dst.getD 1000000))->
   me (apply it.o it.r (T D j items σ)) (T D j items (apply it.o it.r σ)):=by
  intro items
  induction items with
  |nil=>intro j σ _;exact me.refl _
  |cons ko r ih=>
   intro j σ h
   simp only[T]
   refine(ih (fun m x hm hD=>h (m+1) x (by simpa using hm) (by rw[show j+(m+1)=j+1+m by omega];exact hD))).trans (zm ?_)
   cases hd:D j<;>simp only[cond_true,cond_false]
   ·exact me.refl _
   ·obtain⟨h1,h2⟩:=h 0 ko rfl (by simpa using hd)
    exact(J9 h1 h2).symm
 induction i with
 |zero=>
  intro items j σ hi hD h
  cases items with
  |nil=>simp at hi
  |cons ko r=>
   simp only[ja,bH] at hi
   subst hi
   simp only[T,qh] at hD⊢
   rw[hD]
   simp only[cond_false,sA]
   rw[show Nat.beq j j=true by simp]
   simp only[cond_true]
   refine(late (fun m x hm mb=>h (m+1) x (by simpa using hm) (by omega) (by rw[show j+(m+1)=j+1+m by omega];exact mb))).trans ?_
   rw[xA (D':=fun k=>D k||Nat.beq k j)]
   ·exact me.refl _
   ·intro k _
    have:Nat.beq (j+1+k) j=false:=by
     cases hb:Nat.beq (j+1+k) j
     ·rfl
     ·have:=eI hb;omega
    simp[this]
 |succ i ih=>
  intro items j σ hi hD h
  cases items with
  |nil=>simp at hi
  |cons ko r=>
   simp only[T]
   have hj:Nat.beq j (j+(i+1))=false:=by
    cases hb:Nat.beq j (j+(i+1))
    ·rfl
    ·have:=eI hb;omega
   rw[hj,M']
   have:=ih (items:=r) (j:=j+1) (σ:=bif D j then apply ko.o ko.r σ else σ) (by simpa using hi) (by rw[show j+1+i=j+(i+1) by omega];exact hD)
    (fun m x hm bU mb=>h (m+1) x (by simpa using hm) (by omega) (by rw[show j+(m+1)=j+1+m by omega];exact mb))
   rw[show j+(i+1)=j+1+i by omega]
   exact this
theorem xw(m i:Nat):kK m i=m.testBit i:=by
 have h:kK m i=Nat.beq ((m>>>i)&&&1) 1:=rfl
 rw[h,Nat.and_one_is_mod,Nat.shiftRight_eq_div_pow,Nat.testBit_eq_decide_div_mod_eq]
 rw[B0,uC,decide_eq_true_eq]
theorem Ee{a b i:Nat}(h:kK (Nat.lor a b) i=true):kK a i=true\/kK b i=true:=by
 rw[xw] at h⊢
 rw[xw]
 have h:(a|||b).testBit i=true:=h
 rw[Nat.testBit_or,qi] at h
 exact h
theorem J0{k i:Nat}(h:kK (Nat.shiftLeft 1 k) i=true):i=k:=by
 rw[xw] at h
 have h:(1<<<k).testBit i=true:=h
 rw[Nat.shiftLeft_eq,uA,Nat.testBit_two_pow] at h
 exact(of_decide_eq_true h).symm
theorem Ak{i:Nat}:kK 0 i=false:=by rw[xw,Nat.zero_testBit]
theorem Ej{D:Nat->Prop}{acc:List Nat}:∀(es:List Edge)(m:Nat),(∀i,kK m i=true->D i)->(∀e∈es,Region.binds .any e=true->D e.on/\∀i,kK (acc.getD e.on 0) i=true->D i)->
  ∀i,kK (es.foldl (fun m e=>bif Region.binds .any e then Nat.lor m (Nat.lor (Nat.shiftLeft 1 e.on) (acc.getD e.on 0)) else m) m) i=true->D i
 |[],m,h,_,i,hi=>h i hi
 |e::es,m,h,he,i,hi=>by
  rw[List.foldl_cons] at hi
  refine Ej es _ (fun j hj=> ?_) (fun e' h'=>he e' (d_ _ h')) i hi
  rw[bV] at hj
  split at hj
  ·rename_i hb
   obtain⟨h1,h2⟩:=he e gp hb
   rcases Ee hj with hj|hj
   ·exact h j hj
   ·rcases Ee hj with hj|hj
    ·rw[J0 hj];exact h1
    ·exact h2 j hj
  ·exact h j hj
theorem Ei{D:Nat->Prop}:∀{ops:List Oper}{acc:List Nat}{n:Nat},acc.length=n->(∀j,j<n->D j->∀i,kK (acc.getD j 0) i=true->D i)->
  (∀(m:Nat)(o:Oper),ops[m]? =some o->D (n+m)->∀e∈o.after.toList,Region.binds .any e=true->D e.on)->
  ∀j,D j->∀i,kK ((ops.foldl (fun acc o=>acc++[o.after.toList.foldl (fun m e=>bif Region.binds .any e then Nat.lor m (Nat.lor (Nat.shiftLeft 1 e.on) (acc.getD e.on 0)) else m) 0]) acc).getD j 0) i=true->D i
 |[],acc,n,hl,ha,_,j,hj,i,hi=>by
  rcases fA j n with h|h
  ·exact ha j h hj i hi
  ·simp only[List.foldl_nil] at hi
   rw[cB,fb (by omega)] at hi
   simp[Ak] at hi
 |o::ops,acc,n,hl,ha,ho,j,hj,i,hi=>by
  simp only[List.foldl_cons] at hi
  refine Ei (ops:=ops) (n:=n+1) (by simp[hl]) (fun j' ir hD i' gu=> ?_) (fun m o' hm hD=>ho (m+1) o' (by simpa using hm) (by rw[show n+(m+1)=n+1+m by omega];exact hD)) j hj i hi
  have gd:∀m i,kK (acc.getD m 0) i=true->D m->D i:=by
   intro m i hi hD
   rcases fA m n with h|h
   ·exact ha m h hD i hi
   ·rw[cB,fb (by omega)] at hi
    simp[Ak] at hi
  rcases fA j' n with h|h
  ·rw[qD (by omega)] at gu
   exact ha j' h hD i' gu
  ·have:j'=n:=by omega
   subst this
   rw[tv (by omega),hl,Hh] at gu
   simp only[List.getD_cons_zero] at gu
   refine Ej (D:=D) (acc:=acc) o.after.toList 0 (fun i hi=>by rw[Ak] at hi;cases hi) (fun e he hb=> ?_) i' gu
   have Np:D e.on:=ho 0 o rfl (by simpa using hD) e he hb
   exact⟨Np,fun i hi=>gd e.on i hi Np⟩
theorem zV{x y:List Key}(h:meet x y=false):∀k∈x,k∉y:=by
 intro k hk hy
 have:meet x y=true:=jI.2 ⟨k,hk,gX.2 hy⟩
 rw[h] at this;cases this
structure oE(ops:List Oper)(x y:Item U):Prop where
 w:∀k∈x.r.writes (x.o.dst.getD 1000000),k∉y.ks/\k∉y.r.writes (y.o.dst.getD 1000000)
 r:∀k∈y.r.writes (y.o.dst.getD 1000000),k∉x.ks
 n:∀k∈x.r.news (x.o.dst.getD 1000000),k∉y.r.names
 d:∀d,x.o.dst=some d->d∉slotsOf ops y.o/\y.o.dst≠some d
 e:∀d,y.o.dst=some d->d∉slotsOf ops x.o
theorem oE.of{ops:List Oper}{x y:Item U}{i j:Nat}(h:pG ops x.o y.o (eY i x) (eY j y)=true):oE ops x y:=by
 unfold pG eY at h
 simp only[c9,l6] at h
 obtain⟨⟨⟨⟨h1,h2⟩,h5⟩,h3⟩,h4⟩:=h
 refine⟨fun k hk=> ?_,zV h2,zV h5,fun d hd=> ?_,fun d hd=> ?_⟩
 ·have:=zV h1 k hk
  simp only[cY,not_or] at this⊢
  exact this
 ·rw[hd] at h3
  simp only[c9,l6] at h3
  refine⟨fun hm=> ?_,fun he=> ?_⟩
  ·have:(slotsOf ops y.o).any (Nat.beq d)=true:=jI.2 ⟨d,hm,by simp⟩
   rw[h3.1] at this;cases this
  ·rw[he] at h3;simp at h3
 ·rw[hd] at h4
  simp only[l6] at h4
  intro hm
  have:(slotsOf ops x.o).any (Nat.beq d)=true:=jI.2 ⟨d,hm,by simp⟩
  rw[h4] at this;cases this
theorem yo.yJ{ops:List Oper}{items:List (Item U)}{σ:aa U}(h:yo E ops 0 items σ []){j:Nat}{it:Item U}(hj:items[j]? =some it):
  BW E ops it (T (fun k=>decide (k<j)) 0 items σ) (kB 0 (items.take j) []):=by
 have:=ww h hj
 rwa[uI (D:=fun k=>decide (k<j)) (j:=0) (fun k=>by simp)] at this
theorem HK{ops:List Oper}{o:Oper}(h:∀t∈lp ops o,σ.get t=τ.get t):b7 ops o σ=b7 ops o τ:=by
 unfold b7
 unfold lp at h
 split
 ·rfl
 ·rename_i g want hg
  rw[hg] at h
  simp only at h
  have:((ops[g]?).bind (·.dst)).bind σ.get=((ops[g]?).bind (·.dst)).bind τ.get:=by
   cases hq:ops[g]? with
   |none=>rfl
   |some q=>
    rw[hq] at h
    cases hd:q.dst with
    |none=>simp[hd]
    |some d=>simp only[Option.bind_some,hd];exact h d (by simp[hd])
  rw[this]
theorem Ab{bo:Array Bool}{k:Nat}(h:k<bo.size)(d d':Bool):bo.getD k d=bo.getD k d':=by
 simp[uG,h]
theorem JE(hE:E.Good){ops:Array Oper}{items:List (Item U)}{σ:aa U}(cx:yo E ops.toList 0 items σ [])(jR:items.map (·.o)=ops.toList)(vS:su ops.toList (kB 0 items [])=true)
  (hN:∀k,Names σ k->(k.1∈mc ops.toList\/k.1=1000000)->1024<=k.2) {Q:Exit->Act->World->Prop} (iu:∀F kv fp a w,aE E pm F kv fp (jW items σ) a w->Q .normal a w):
  ∀(v7:Nat)(bo:Array Bool)(F:Nat->Prop)(kv:Key->Value)(fp:Key->List Nat)(a:Act)(w:World),aE E pm F kv fp (T (fun k=>bo.getD k false) 0 items σ) a w->bo.size=ops.size->
   (∀j,bo.getD j false=true->∀o,ops[j]? =some o->∀e∈o.after,Region.binds .any e=true->bo.getD e.on false=true)->bo.toList.count false<=v7->
   wpAny E.P .any ops Q v7 bo a w:=by
 have hlen:items.length=ops.size:=by simpa using congrArg List.length jR
 have gy:∀(j:Nat)(it:Item U),items[j]? =some it->ops[j]? =some it.o:=by
  intro j it hj
  have:(items.map (·.o))[j]? =some it.o:=by rw[eW,hj];rfl
  rw[jR] at this
  simpa using this
 unfold su at vS
 simp only[c9] at vS
 obtain⟨A0,yY⟩:=vS
 have lW:∀(j:Nat)(o:Oper),ops[j]? =some o->∀e∈o.after,Region.binds .any e=true->e.on<j:=by
  intro j o hj e he hb
  unfold yI at A0
  rw[qc] at A0
  have hm:(o,j)∈ops.toList.zipIdx:=by
   rw[List.mem_zipIdx_iff_getElem?]
   simpa using hj
  have:=qc.1 (A0 _ hm) e (by simpa using he)
  rw[hb] at this
  exact Nat.blt_eq▸this
 have ky:∀{D:Nat->Prop},(∀j,D j->∀o,ops[j]? =some o->∀e∈o.after,Region.binds .any e=true->D e.on)->∀(i j:Nat)(x y:Item U),items[i]? =some x->items[j]? =some y->i<j->D j->¬D i->oE ops.toList x y:=by
  intro D hD i j x y hi hj vJ O_ Cn
  rw[qc] at yY
  have h1:=yY (eY j y) (uZ.2 (.inr ⟨j,y,hj,by simp⟩))
  rw[qc] at h1
  have h2:=h1 (eY i x) (uZ.2 (.inr ⟨i,x,hi,by simp⟩))
  simp only[qi,l6] at h2
  rcases h2 with(h2|h2)|h2
  ·have:Nat.blt i j=true:=by simpa using vJ
   simp only[eY] at h2
   rw[this] at h2;cases h2
  ·exfalso
   refine Cn (Ei (D:=D) (acc:=[]) (n:=0) rfl (fun j hj=>by omega) (fun m o hm mb e he hb=> ?_) j O_ i h2)
   exact hD m (by simpa using mb) o (by simpa using hm) e (by simpa using he) hb
  ·have e1:ops.toList[(eY i x).i]? =some x.o:=by simpa[eY] using gy i x hi
   have e2:ops.toList[(eY j y).i]? =some y.o:=by simpa[eY] using gy j y hj
   rw[e1,e2] at h2
   exact oE.of h2
 intro v7
 induction v7 with
 |zero=>
  intro bo F kv fp a w hs jf ck La
  have uf:∀k,k<items.length->bo.getD k false=true:=by
   intro k hk
   have aG:k<bo.size:=by omega
   rw[uG,CA aG]
   simp only[yz]
   cases hb:bo[k] with
   |true=>rfl
   |false=>
    exfalso
    have:false∈bo.toList:=by rw[<-hb];exact Array.mem_toList_iff.2 (Array.getElem_mem aG)
    have:=List.count_pos_iff.2 this
    omega
  refine⟨?_,iu F kv fp a w ?_⟩
  ·rw[Hn]
   intro i hi
   obtain⟨h0,o,ho,_⟩:=mem_ready.1 hi
   have bU:i<ops.size:=(Array.getElem?_eq_some_iff.1 ho).1
   rw[Ab (by omega) true false,uf i (by omega)] at h0
   cases h0
  ·rw[<-tc (D:=fun k=>bo.getD k false) (j:=0) (fun k hk=>by simpa using uf k hk)];exact hs
 |succ v7 ih=>
  intro bo F kv fp a w hs jf ck La
  refine⟨fun sb=> ?_,fun i hi=> ?_⟩
  ·have uf:∀k,k<items.length->bo.getD k false=true:=by
    intro k
    induction k using Nat.strongRecOn with
    |ind k N3=>
     intro hk
     cases hb:bo.getD k false with
     |true=>rfl
     |false=>
      exfalso
      have bU:k<ops.size:=by omega
      have hr:k∈Region.ready .any ops bo:=by
       refine mem_ready.2 ⟨by rw[Ab (by omega) true false];exact hb,ops[k],CA bU,fun e he OW=> ?_⟩
       have:=lW k ops[k] (CA bU) e he OW
       exact N3 e.on this (by omega)
      rw[sb] at hr;cases hr
   refine iu F kv fp a w ?_
   rw[<-tc (D:=fun k=>bo.getD k false) (j:=0) (fun k hk=>by simpa using uf k hk)];exact hs
  ·obtain⟨h0,o,ho,zb⟩:=mem_ready.1 hi
   have bU:i<ops.size:=(Array.getElem?_eq_some_iff.1 ho).1
   have Kp:bo.getD i false=false:=by rw[Ab (by omega) false true];exact h0
   obtain⟨it,rH⟩:∃it,items[i]? =some it:=⟨_,cF (by omega)⟩
   have B_:ops[i]? =some it.o:=gy i it rH
   have:o=it.o:=by rw[ho] at B_;exact zp B_
   subst this
   generalize G2:(fun k=>bo.getD k false)=D at hs
   have Cn:D i=false:=by rw[<-G2];exact Kp
   have xZ:∀j,D j=true->∀o,ops[j]? =some o->∀e∈o.after,Region.binds .any e=true->D e.on=true:=by rw[<-G2];exact ck
   have vF:∀(m:Nat)(y:Item U),items[m]? =some y->i<m->D m=true->oE ops.toList it y:=fun m y hm GW mb=>
    ky (D:=fun k=>D k=true) xZ i m it y rH hm GW mb (by simp[Cn])
   have Bq:∀(m:Nat)(x:Item U),items[m]? =some x->m<i->D m=false->oE ops.toList x it:=fun m x hm Oy mb=>
    ky (D:=fun k=>D k=true\/k=i) (by
     intro j hj o' vA e he hb
     rcases hj with hj|hj
     ·exact .inl (xZ j hj o' vA e he hb)
     ·subst hj
      rw[ho] at vA
      cases vA
      left
      rw[<-G2]
      exact zb e he hb) m i x it hm rH Oy (.inr rfl) (by simp[mb];omega)
   have vT:∀(m:Nat)(x:Item U),items[m]? =some x->D (0+m)≠decide (0+m<i)->(∀d,x.o.dst=some d->d∉slotsOf ops.toList it.o)/\∀k∈x.r.writes (x.o.dst.getD 1000000),k∉it.ks:=by
    intro m x hm aX
    simp only[kO] at aX
    rcases Nat.lt_trichotomy m i with se|fI|y_
    ·have mb:D m=false:=by
      cases hb:D m
      ·rfl
      ·exact absurd (by rw[hb];simp[se]) aX
     have:=Bq m x hm se mb
     exact⟨fun d hd=>(this.d d hd).1,fun k hk=>(this.w k hk).1⟩
    ·subst fI
     exact absurd (by rw[Cn];simp) aX
    ·have mb:D m=true:=by
      cases hb:D m
      ·exact absurd (by rw[hb];simp;omega) aX
      ·rfl
     have:=vF m x hm y_ mb
     exact⟨fun d hd=>this.e d hd,fun k hk=>this.r k hk⟩
   obtain⟨lm,vz⟩:=cx.yJ rH
   have yW:∀t∈slotsOf ops.toList it.o,(T (fun k=>decide (k<i)) 0 items σ).get t=(T D 0 items σ).get t:=fun t ht=>
    (zl (fun m x hm aX e=>((vT m x hm aX).1 t e) ht) rfl).symm
   have E4:∀k∈it.ks,(T (fun k=>decide (k<i)) 0 items σ).aw k=(T D 0 items σ).aw k:=fun k hk=>
    (zn (fun m x hm aX e=>(vT m x hm aX).2 k e hk) rfl).symm
   have E5:∀k∈it.ks,(T (fun k=>decide (k<i)) 0 items σ).ah.any (cj k)=(T D 0 items σ).ah.any (cj k):=fun k hk=>
    (En (fun m x hm aX e=>(vT m x hm aX).2 k e hk) rfl).symm
   have hw:b7 ops.toList it.o (T D 0 items σ)=b7 ops.toList it.o (T (fun k=>decide (k<i)) 0 items σ):=
    HK (fun t ht=>(yW t (fD _ ht)).symm)
   have nU:gh (T D 0 items σ) it.o=true:=by
    unfold gh at lm⊢
    rw[He] at lm⊢
    exact lm
   refine DQ hE hs B_ nU ?_ (fun F' kv' fp' a' w' cZ=>ih (bo.setIfInBounds i true) F' kv' fp' a' w' ?_ (by simp[jf]) ?_ ?_)
   ·rcases vz with⟨g1,g2,g3⟩|⟨g1,g2,g3,g4,g5⟩
    ·exact .inl ⟨by rw[hw];exact g1,g2⟩
    ·refine .inr ⟨by rw[hw];exact g1,g2.imp fun b g2=>HV g2 (by rw[He,He]) (fun t ht=>yW t (fV _ (fC.2 ⟨.tmp t,ht,by simp⟩))) E4 E5,g3,fun k hk gR=> ?_⟩
     ·
      have vI:∃j,k=(it.o.dst.getD 1000000,j)/\j<1024/\it.r.aM≠[]:=by
       simp only[aM,eV] at hk
       obtain⟨⟨j,e⟩,hj,rfl⟩:=hk
       unfold jY at g5
       have:=qc.1 g5 _ hj
       exact⟨j,rfl,Nat.blt_eq▸this,(fun e=>by rw[e] at hj;cases hj)⟩
      obtain⟨j,rfl,hj,aX⟩:=vI
      have OH:((it.o.dst.getD 1000000,j):Key)∈it.r.news (it.o.dst.getD 1000000):=hk
      rcases Ao gR with gR|⟨m,x,hm,mb,hx⟩
      ·have:=hN _ gR (by
        cases hd:it.o.dst with
        |none=>exact .inr rfl
        |some d=>
         refine .inl ?_
         simp only[yz,mc,fC]
         exact⟨it.o,by have:=B_;rw[<-rK] at this;exact n6 this,by simp[hd]⟩)
       simp only at this
       omega
      ·simp only[kO] at mb
       rcases Nat.lt_trichotomy m i with se|fI|y_
       ·
        unfold hO at g4
        have KV:it.r.aM.isEmpty=false:=by cases ha:it.r.aM with
         |nil=>exact absurd ha aX
         |cons _ _=>rfl
        rw[KV,sA,qc] at g4
        have jv:eY m x∈kB 0 (items.take i) []:=uZ.2 (.inr ⟨m,x,by rw[fg,if_pos se];exact hm,by simp⟩)
        have:=g4 _ jv
        simp only[l6,eY] at this
        rw[<-n7,jI] at this
        exact this ⟨_,fV _ (fD _ hx),by simp⟩
       ·subst fI
        rw[Cn] at mb;cases mb
       ·exact(vF m x hm y_ mb).n _ OH hx
   ·refine cZ.congr ?_
    have h1:=wv (D:=D) (i:=i) (it:=it) (items:=items) (j:=0) (σ:=σ) rH (by simpa using Cn) (fun m y hm GW mb=>by
     have:=vF m y hm GW (by simpa using mb)
     exact⟨fun d hd=>(this.d d hd).2,fun k hk=>(this.w k hk).2⟩)
    refine h1.trans ?_
    rw[xA (D':=fun k=>(bo.setIfInBounds i true).getD k false)]
    ·exact me.refl _
    ·intro k hk
     simp only[kO]
     rw[<-G2]
     simp only
     cases hb:Nat.beq k i
     ·rw[M',getD_set_ne]
      intro e
      subst e
      simp at hb
     ·have:=eI hb
      subst this
      rw[Bool.or_true,uG,Array.getElem?_setIfInBounds_self_of_lt (by omega)]
      rfl
   ·intro j hj o' vA e he hb
    by_cases GV:j=i
    ·subst GV
     rw[ho] at vA
     cases vA
     exact getD_set_true (zb e he hb)
    ·rw[getD_set_ne false (Ne.symm GV)] at hj
     exact getD_set_true (ck j hj o' vA e he hb)
   ·have GS:i<bo.size:=by omega
    have hb:bo[i]=false:=by
     rw[uG,CA GS] at Kp
     simpa using Kp
    rw[Array.toList_setIfInBounds,List.count_set (by simpa using GS)]
    have e1:(bo.toList[i]'(by simpa using GS)==false)=true:=by simp[hb]
    have e2:(true==false)=false:=rfl
    rw[e1,e2]
    have:false∈bo.toList:=by rw[<-hb];exact Array.mem_toList_iff.2 (Array.getElem_mem GS)
    have:=List.count_pos_iff.2 this
    simp only[if_true,mF,if_false]
    omega
end AM
