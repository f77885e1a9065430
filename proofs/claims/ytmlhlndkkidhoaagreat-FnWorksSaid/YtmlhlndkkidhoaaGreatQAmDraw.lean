/- THE ABSTRACT MACHINE: a region whose order is drawn. -/
import Derived.Test.YtmlhlndkkidhoaaGreatQAmRegion
namespace AM
set_option linter.unusedVariables false
open Go
variable{U:kZ}{E:Env U}{pm:Pm}
variable{F F':Nat->Prop}{kv:Key->Value}{fp:Key->List Nat}{σ τ:ah U}{a:Act}{w w':World}
def T(D:Nat->Bool):Nat->List (Item U)->ah U->ah U
 |_,[],σ=>σ
 |j,it::r,σ=>T D (j+1) r (bif D j then apply it.o it.r σ else σ)
theorem T_n{D:Nat->Bool}:∀{items:List (Item U)}{j:Nat}{σ:ah U},(T D j items σ).n=σ.n
 |[],_,_=>rfl
 |it::r,j,σ=>by
  simp only[T]
  rw[T_n]
  cases D j<;>rfl
theorem WT{D D':Nat->Bool}{s:Nat}:∀{items:List (Item U)}{j:Nat}{σ τ:ah U},(∀(k:Nat)(it:Item U),items[k]? =some it->D (j+k)≠D' (j+k)->it.o.dst≠some s)->σ.get s=τ.get s->
  (T D j items σ).get s=(T D' j items τ).get s
 |[],_,_,_,_,h=>h
 |it::r,j,σ,τ,hd,h=>by
  simp only[T]
  refine WT (fun k w5 hk eO=>hd (k+1) w5 (by simpa using hk) (by rw[show j+(k+1)=j+1+k by omega];exact eO)) ?_
  have h0:=hd 0 it rfl
  simp only[H0] at h0
  have xb:∀{ρ:ah U},it.o.dst≠some s->(apply it.o it.r ρ).get s=ρ.get s:=by
   intro ρ eO
   rw[Ga]
   cases kG:it.o.dst with
   |none=>rfl
   |some d=>simp only;rw[if_neg (fun e=>eO (by rw[kG,e]))]
  cases h1:D j<;>cases h2:D' j<;>simp only[cond_true,cond_false]
  ·exact h
  ·rw[xb (h0 (by rw[h1,h2];simp)),h]
  ·rw[xb (h0 (by rw[h1,h2];simp)),h]
  ·rw[Ga,Ga,h]
theorem WV{D D':Nat->Bool}{k:Key}:∀{items:List (Item U)}{j:Nat}{σ τ:ah U},(∀(m:Nat)(it:Item U),items[m]? =some it->D (j+m)≠D' (j+m)->k∉it.r.writes (it.o.dst.getD 1000000))->σ.bJ k=τ.bJ k->
  (T D j items σ).bJ k=(T D' j items τ).bJ k
 |[],_,_,_,_,h=>h
 |it::r,j,σ,τ,hd,h=>by
  simp only[T]
  refine WV (fun m w5 hm eO=>hd (m+1) w5 (by simpa using hm) (by rw[show j+(m+1)=j+1+m by omega];exact eO)) ?_
  have h0:=hd 0 it rfl
  simp only[H0] at h0
  have xb:∀{ρ:ah U},k∉it.r.writes (it.o.dst.getD 1000000)->(apply it.o it.r ρ).bJ k=ρ.bJ k:=by
   intro ρ eO
   rw[KG,if_neg (fun e=>eO (XR.1 e))]
  cases h1:D j<;>cases h2:D' j<;>simp only[cond_true,cond_false]
  ·exact h
  ·rw[xb (h0 (by rw[h1,h2];simp)),h]
  ·rw[xb (h0 (by rw[h1,h2];simp)),h]
  ·rw[KG,KG,h]
theorem alv{r:cd U}{d:Nat}{k:Key}(h:k∉r.writes d):(r.jE.map (·.1)).any (iJ k)=false:=by
 rw[<-yi,rE]
 exact fun e=>h (pS _ e)
theorem ac9{D D':Nat->Bool}{k:Key}:∀{items:List (Item U)}{j:Nat}{σ τ:ah U},(∀(m:Nat)(it:Item U),items[m]? =some it->D (j+m)≠D' (j+m)->k∉it.r.writes (it.o.dst.getD 1000000))->σ.aK.any (iJ k)=τ.aK.any (iJ k)->
  (T D j items σ).aK.any (iJ k)=(T D' j items τ).aK.any (iJ k)
 |[],_,_,_,_,h=>h
 |it::r,j,σ,τ,hd,h=>by
  simp only[T]
  refine ac9 (fun m w5 hm eO=>hd (m+1) w5 (by simpa using hm) (by rw[show j+(m+1)=j+1+m by omega];exact eO)) ?_
  have h0:=hd 0 it rfl
  simp only[H0] at h0
  have xb:∀{ρ:ah U},k∉it.r.writes (it.o.dst.getD 1000000)->(apply it.o it.r ρ).aK.any (iJ k)=ρ.aK.any (iJ k):=by
   intro ρ eO
   rw[MZ,alv eO];rfl
  cases h1:D j<;>cases h2:D' j<;>simp only[cond_true,cond_false]
  ·exact h
  ·rw[xb (h0 (by rw[h1,h2];simp)),h]
  ·rw[xb (h0 (by rw[h1,h2];simp)),h]
  ·rw[MZ,MZ,h]
theorem WU{D:Nat->Bool}:∀{items:List (Item U)}{j:Nat}{σ τ:ah U},Ap σ τ->Ap (T D j items σ) (T D j items τ)
 |[],_,_,_,h=>h
 |it::r,j,σ,τ,h=>by
  simp only[T]
  refine WU ?_
  cases D j
  ·exact h
  ·exact h.apply _ _
theorem amg{o:Oper}{r:cd U}{k:Key}(h:Names (apply o r σ) k):k∈r.names\/Names σ k:=by
 rcases h with⟨s,x,hs,hk⟩|⟨k',cs,he,x,hx,hk⟩
 ·rw[Ga] at hs
  cases hd:o.dst with
  |none=>rw[hd] at hs;exact .inr (.inl ⟨s,x,hs,hk⟩)
  |some d=>
   rw[hd] at hs
   simp only at hs
   split at hs
   ·left
    unfold cd.names
    rw[hs]
    exact qC _ (qC _ hk)
   ·exact .inr (.inl ⟨s,x,hs,hk⟩)
 ·rw[KG] at he
  split at he
  ·left
   have hm:=CB he
   have hn:k∈(iv.box cs:iv U).names:=nT.2 ⟨x,hx,hk⟩
   simp only[lays,pa,jr,lB,ox,gx] at hm
   unfold cd.names
   rcases hm with(⟨y,h1,h2,h3⟩|⟨y,h1,h2,h3⟩)|⟨y,h1,h2,h3⟩
   ·exact qC _ (pS _ (nT.2 ⟨y,h1,by obtain⟨y1,y2⟩:=y;simp only at h3;subst h3;exact hn⟩))
   ·exact pS _ (nT.2 ⟨y,h1,by obtain⟨y1,y2⟩:=y;simp only at h3;subst h3;exact hn⟩)
   ·cases h3
  ·exact .inr (.inr ⟨k',cs,he,x,hx,hk⟩)
theorem X7{D:Nat->Bool}{k:Key}:∀{items:List (Item U)}{j:Nat}{σ:ah U},Names (T D j items σ) k->Names σ k\/∃m it,items[m]? =some it/\D (j+m)=true/\k∈it.r.names
 |[],_,_,h=> .inl h
 |it::r,j,σ,h=>by
  simp only[T] at h
  rcases X7 h with h|⟨m,w5,h1,h2,h3⟩
  ·cases hd:D j<;>rw[hd] at h<;>simp only[cond_true,cond_false] at h
   ·exact .inl h
   ·rcases amg h with h|h
    ·exact .inr ⟨0,it,rfl,hd,h⟩
    ·exact .inl h
  ·exact .inr ⟨m+1,w5,by simpa using h1,by rw[show j+(m+1)=j+1+m by omega];exact h2,h3⟩
theorem MA{D:Nat->Bool}:∀{items:List (Item U)}{j:Nat}{σ:ah U},(∀k,k<items.length->D (j+k)=true)->T D j items σ=v5 items σ
 |[],_,_,_=>rfl
 |it::r,j,σ,h=>by
  simp only[T,v5]
  have h0:=h 0 (by simp)
  simp only[H0] at h0
  rw[h0]
  exact MA (fun k hk=>by rw[show j+1+k=j+(k+1) by omega];exact h (k+1) (by simpa using hk))
theorem HW{D:Nat->Bool}:∀{items:List (Item U)}{j:Nat}{σ:ah U},(∀k,k<items.length->D (j+k)=false)->T D j items σ=σ
 |[],_,_,_=>rfl
 |it::r,j,σ,h=>by
  simp only[T]
  have h0:=h 0 (by simp)
  simp only[H0] at h0
  rw[h0]
  exact HW (fun k hk=>by rw[show j+1+k=j+(k+1) by omega];exact h (k+1) (by simpa using hk))
theorem Um{D D':Nat->Bool}:∀{items:List (Item U)}{j:Nat}{σ:ah U},(∀k,k<items.length->D (j+k)=D' (j+k))->T D j items σ=T D' j items σ
 |[],_,_,_=>rfl
 |it::r,j,σ,h=>by
  simp only[T]
  have h0:=h 0 (by simp)
  simp only[H0] at h0
  rw[h0]
  exact Um (fun k hk=>by rw[show j+1+k=j+(k+1) by omega];exact h (k+1) (by simpa using hk))
theorem OA{D:Nat->Bool}:∀{items:List (Item U)}{i j:Nat}{σ:ah U},(∀k,D k=decide (k<j+i))->v5 (items.take i) σ=T D j items σ
 |[],i,j,σ,_=>by cases i<;>rfl
 |it::r,0,j,σ,h=>by
  rw[List.take_zero]
  exact(HW (fun k _=>by rw[h];simp)).symm
 |it::r,i+1,j,σ,h=>by
  simp only[List.take_succ_cons,v5,T]
  rw[show D j=true by rw[h];simp]
  exact OA (fun k=>by rw[h,show j+(i+1)=j+1+i by omega])
theorem SZ{ops:List Oper}:∀{items:List (Item U)}{i j:Nat}{σ:ah U}{rs:List Rec}{it:Item U},VD E ops i items σ rs->items[j]? =some it->abf E ops it (v5 (items.take j) σ) (xm i (items.take j) rs)
 |[],_,_,_,_,_,_,h=>by simp at h
 |w5::r,i,0,σ,rs,it,h,hj=>by
  simp only[t_,gx] at hj
  subst hj
  exact h.1
 |w5::r,i,j+1,σ,rs,it,h,hj=>by
  simp only[List.take_succ_cons,v5,xm]
  exact SZ h.2 (by simpa using hj)
theorem O4{x:Rec}:∀{items:List (Item U)}{i:Nat}{rs:List Rec},x∈xm i items rs↔x∈rs\/∃m it,items[m]? =some it/\x=nG (i+m) it
 |[],i,rs=>by simp[xm]
 |it::r,i,rs=>by
  simp only[xm]
  rw[O4]
  simp only[jQ]
  constructor
  ·rintro((h|h)|⟨m,w5,h1,h2⟩)
   ·exact .inr ⟨0,it,rfl,by simpa using h⟩
   ·exact .inl h
   ·exact .inr ⟨m+1,w5,by simpa using h1,by rw[h2,show i+(m+1)=i+1+m by omega]⟩
  ·rintro(h|⟨m,w5,h1,h2⟩)
   ·exact .inl (.inr h)
   ·cases m with
    |zero=>simp only[t_,gx] at h1;subst h1;exact .inl (.inl (by simpa using h2))
    |succ m=>exact .inr ⟨m,w5,by simpa using h1,by rw[h2,show i+(m+1)=i+1+m by omega]⟩
theorem SY{D:Nat->Bool}{i:Nat}{it:Item U}:∀{items:List (Item U)}{j:Nat}{σ:ah U},items[i]? =some it->D (j+i)=false->
  (∀(m:Nat)(w5:Item U),items[m]? =some w5->i<m->D (j+m)=true->(∀d,it.o.dst=some d->w5.o.dst≠some d)/\∀k∈it.r.writes (it.o.dst.getD 1000000),k∉w5.r.writes (w5.o.dst.getD 1000000))->
  Ap (apply it.o it.r (T D j items σ)) (T (fun k=>D k||Nat.beq k (j+i)) j items σ):=by
 have late:∀{items:List (Item U)}{j:Nat}{σ:ah U},(∀(m:Nat)(w5:Item U),items[m]? =some w5->D (j+m)=true->(∀d,it.o.dst=some d->w5.o.dst≠some d)/\∀k∈it.r.writes (it.o.dst.getD 1000000),k∉w5.r.writes (w5.o.dst.getD 1000000))->
   Ap (apply it.o it.r (T D j items σ)) (T D j items (apply it.o it.r σ)):=by
  intro items
  induction items with
  |nil=>intro j σ _;exact Ap.refl _
  |cons w5 r ih=>
   intro j σ h
   simp only[T]
   refine(ih (fun m x hm hD=>h (m+1) x (by simpa using hm) (by rw[show j+(m+1)=j+1+m by omega];exact hD))).trans (WU ?_)
   cases hd:D j<;>simp only[cond_true,cond_false]
   ·exact Ap.refl _
   ·obtain⟨h1,h2⟩:=h 0 w5 rfl (by simpa using hd)
    exact(anT h1 h2).symm
 induction i with
 |zero=>
  intro items j σ hi hD h
  cases items with
  |nil=>simp at hi
  |cons w5 r=>
   simp only[t_,gx] at hi
   subst hi
   simp only[T,H0] at hD⊢
   rw[hD]
   simp only[cond_false,FT]
   rw[show Nat.beq j j=true by simp]
   simp only[cond_true]
   refine(late (fun m x hm Al=>h (m+1) x (by simpa using hm) (by omega) (by rw[show j+(m+1)=j+1+m by omega];exact Al))).trans ?_
   rw[Um (D':=fun k=>D k||Nat.beq k j)]
   ·exact Ap.refl _
   ·intro k _
    have:Nat.beq (j+1+k) j=false:=by
     cases hb:Nat.beq (j+1+k) j
     ·rfl
     ·have:=mM hb;omega
    simp[this]
 |succ i ih=>
  intro items j σ hi hD h
  cases items with
  |nil=>simp at hi
  |cons w5 r=>
   simp only[T]
   have hj:Nat.beq j (j+(i+1))=false:=by
    cases hb:Nat.beq j (j+(i+1))
    ·rfl
    ·have:=mM hb;omega
   rw[hj,W2]
   have:=ih (items:=r) (j:=j+1) (σ:=bif D j then apply w5.o w5.r σ else σ) (by simpa using hi) (by rw[show j+1+i=j+(i+1) by omega];exact hD)
    (fun m x hm gF Al=>h (m+1) x (by simpa using hm) (by omega) (by rw[show j+(m+1)=j+1+m by omega];exact Al))
   rw[show j+(i+1)=j+1+i by omega]
   exact this
theorem Ui(m i:Nat):xF m i=m.testBit i:=by
 have h:xF m i=Nat.beq ((m>>>i)&&&1) 1:=rfl
 rw[h,Nat.and_one_is_mod,Nat.shiftRight_eq_div_pow,Nat.testBit_eq_decide_div_mod_eq]
 rw[H2,Lx,decide_eq_true_eq]
theorem ac0{a b i:Nat}(h:xF (Nat.lor a b) i=true):xF a i=true\/xF b i=true:=by
 rw[Ui] at h⊢
 rw[Ui]
 have h:(a|||b).testBit i=true:=h
 rw[Nat.testBit_or,Ee] at h
 exact h
theorem anJ{k i:Nat}(h:xF (Nat.shiftLeft 1 k) i=true):i=k:=by
 rw[Ui] at h
 have h:(1<<<k).testBit i=true:=h
 rw[Nat.shiftLeft_eq,Ol,Nat.testBit_two_pow] at h
 exact(of_decide_eq_true h).symm
theorem X3{i:Nat}:xF 0 i=false:=by rw[Ui,Nat.zero_testBit]
theorem ac5{D:Nat->Prop}{acc:List Nat}:∀(es:List Edge)(m:Nat),(∀i,xF m i=true->D i)->(∀e∈es,Region.binds .any e=true->D e.on/\∀i,xF (acc.getD e.on 0) i=true->D i)->
  ∀i,xF (es.foldl (fun m e=>bif Region.binds .any e then Nat.lor m (Nat.lor (Nat.shiftLeft 1 e.on) (acc.getD e.on 0)) else m) m) i=true->D i
 |[],m,h,_,i,hi=>h i hi
 |e::es,m,h,he,i,hi=>by
  rw[List.foldl_cons] at hi
  refine ac5 es _ (fun j hj=> ?_) (fun e' h'=>he e' (cA _ h')) i hi
  rw[h_] at hj
  split at hj
  ·rename_i hb
   obtain⟨h1,h2⟩:=he e gj hb
   rcases ac0 hj with hj|hj
   ·exact h j hj
   ·rcases ac0 hj with hj|hj
    ·rw[anJ hj];exact h1
    ·exact h2 j hj
  ·exact h j hj
theorem ac4{D:Nat->Prop}:∀{ops:List Oper}{acc:List Nat}{n:Nat},acc.length=n->(∀j,j<n->D j->∀i,xF (acc.getD j 0) i=true->D i)->
  (∀(m:Nat)(o:Oper),ops[m]? =some o->D (n+m)->∀e∈o.after.toList,Region.binds .any e=true->D e.on)->
  ∀j,D j->∀i,xF ((ops.foldl (fun acc o=>acc++[o.after.toList.foldl (fun m e=>bif Region.binds .any e then Nat.lor m (Nat.lor (Nat.shiftLeft 1 e.on) (acc.getD e.on 0)) else m) 0]) acc).getD j 0) i=true->D i
 |[],acc,n,hl,ha,_,j,hj,i,hi=>by
  rcases nV j n with h|h
  ·exact ha j h hj i hi
  ·simp only[List.foldl_nil] at hi
   rw[eY,nz (by omega)] at hi
   simp[X3] at hi
 |o::ops,acc,n,hl,ha,ho,j,hj,i,hi=>by
  simp only[List.foldl_cons] at hi
  refine ac4 (ops:=ops) (n:=n+1) (by simp[hl]) (fun j' s8 hD i' pN=> ?_) (fun m o' hm hD=>ho (m+1) o' (by simpa using hm) (by rw[show n+(m+1)=n+1+m by omega];exact hD)) j hj i hi
  have gd:∀m i,xF (acc.getD m 0) i=true->D m->D i:=by
   intro m i hi hD
   rcases nV m n with h|h
   ·exact ha m h hD i hi
   ·rw[eY,nz (by omega)] at hi
    simp[X3] at hi
  rcases nV j' n with h|h
  ·rw[IC (by omega)] at pN
   exact ha j' h hD i' pN
  ·have:j'=n:=by omega
   subst this
   rw[MX (by omega),hl,W0] at pN
   simp only[List.getD_cons_zero] at pN
   refine ac5 (D:=D) (acc:=acc) o.after.toList 0 (fun i hi=>by rw[X3] at hi;cases hi) (fun e he hb=> ?_) i' pN
   have hon:D e.on:=ho 0 o rfl (by simpa using hD) e he hb
   exact⟨hon,fun i hi=>gd e.on i hi hon⟩
theorem XM{x y:List Key}(h:meet x y=false):∀k∈x,k∉y:=by
 intro k hk hy
 have:meet x y=true:=tZ.2 ⟨k,hk,rE.2 hy⟩
 rw[h] at this;cases this
structure FR(ops:List Oper)(x y:Item U):Prop where
 w:∀k∈x.r.writes (x.o.dst.getD 1000000),k∉y.ks/\k∉y.r.writes (y.o.dst.getD 1000000)
 r:∀k∈y.r.writes (y.o.dst.getD 1000000),k∉x.ks
 n:∀k∈x.r.news (x.o.dst.getD 1000000),k∉y.r.names
 d:∀d,x.o.dst=some d->d∉slotsOf ops y.o/\y.o.dst≠some d
 e:∀d,y.o.dst=some d->d∉slotsOf ops x.o
theorem FR.of{ops:List Oper}{x y:Item U}{i j:Nat}(h:G5 ops x.o y.o (nG i x) (nG j y)=true):FR ops x y:=by
 unfold G5 nG at h
 simp only[cK,ql] at h
 obtain⟨⟨⟨⟨h1,h2⟩,h5⟩,h3⟩,h4⟩:=h
 refine⟨fun k hk=> ?_,XM h2,XM h5,fun d hd=> ?_,fun d hd=> ?_⟩
 ·have:=XM h1 k hk
  simp only[jr,not_or] at this⊢
  exact this
 ·rw[hd] at h3
  simp only[cK,ql] at h3
  refine⟨fun hm=> ?_,fun he=> ?_⟩
  ·have:(slotsOf ops y.o).any (Nat.beq d)=true:=tZ.2 ⟨d,hm,by simp⟩
   rw[h3.1] at this;cases this
  ·rw[he] at h3;simp at h3
 ·rw[hd] at h4
  simp only[ql] at h4
  intro hm
  have:(slotsOf ops x.o).any (Nat.beq d)=true:=tZ.2 ⟨d,hm,by simp⟩
  rw[h4] at this;cases this
theorem VD.VT{ops:List Oper}{items:List (Item U)}{σ:ah U}(h:VD E ops 0 items σ []){j:Nat}{it:Item U}(hj:items[j]? =some it):
  abf E ops it (T (fun k=>decide (k<j)) 0 items σ) (xm 0 (items.take j) []):=by
 have:=SZ h hj
 rwa[OA (D:=fun k=>decide (k<j)) (j:=0) (fun k=>by simp)] at this
theorem alu{ops:List Oper}{o:Oper}(h:∀t∈yY ops o,σ.get t=τ.get t):iw ops o σ=iw ops o τ:=by
 unfold iw
 unfold yY at h
 split
 ·rfl
 ·rename_i g want hg
  rw[hg] at h
  simp only at h
  have:((ops[g]?).bind (·.dst)).bind σ.get=((ops[g]?).bind (·.dst)).bind τ.get:=by
   cases hq:ops[g]? with
   |none=>rfl
   |some q=>
    rw[hq] at h
    cases hd:q.dst with
    |none=>simp[hd]
    |some d=>simp only[Option.bind_some,hd];exact h d (by simp[hd])
  rw[this]
theorem XU{fv:Array Bool}{k:Nat}(h:k<fv.size)(d d':Bool):fv.getD k d=fv.getD k d':=by
 simp[Ot,h]
theorem ank(hE:E.Good){ops:Array Oper}{items:List (Item U)}{σ:ah U}(je:VD E ops.toList 0 items σ [])(vU:items.map (·.o)=ops.toList)(P8:Lk ops.toList (xm 0 items [])=true)
  (hN:∀k,Names σ k->(k.1∈An ops.toList\/k.1=1000000)->1024<=k.2) {Q:Exit->Act->World->Prop} (qP:∀F kv fp a w,cE E pm F kv fp (v5 items σ) a w->Q .normal a w):
  ∀(Qi:Nat)(fv:Array Bool)(F:Nat->Prop)(kv:Key->Value)(fp:Key->List Nat)(a:Act)(w:World),cE E pm F kv fp (T (fun k=>fv.getD k false) 0 items σ) a w->fv.size=ops.size->
   (∀j,fv.getD j false=true->∀o,ops[j]? =some o->∀e∈o.after,Region.binds .any e=true->fv.getD e.on false=true)->fv.toList.count false<=Qi->
   wpAny E.P .any ops Q Qi fv a w:=by
 have hlen:items.length=ops.size:=by simpa using congrArg List.length vU
 have rf:∀(j:Nat)(it:Item U),items[j]? =some it->ops[j]? =some it.o:=by
  intro j it hj
  have:(items.map (·.o))[j]? =some it.o:=by rw[nk,hj];rfl
  rw[vU] at this
  simpa using this
 unfold Lk at P8
 simp only[cK] at P8
 obtain⟨YI,V6⟩:=P8
 have zV:∀(j:Nat)(o:Oper),ops[j]? =some o->∀e∈o.after,Region.binds .any e=true->e.on<j:=by
  intro j o hj e he hb
  unfold VR at YI
  rw[rh] at YI
  have hm:(o,j)∈ops.toList.zipIdx:=by
   rw[List.mem_zipIdx_iff_getElem?]
   simpa using hj
  have:=rh.1 (YI _ hm) e (by simpa using he)
  rw[hb] at this
  exact Nat.blt_eq▸this
 have xb:∀{D:Nat->Prop},(∀j,D j->∀o,ops[j]? =some o->∀e∈o.after,Region.binds .any e=true->D e.on)->∀(i j:Nat)(x y:Item U),items[i]? =some x->items[j]? =some y->i<j->D j->¬D i->FR ops.toList x y:=by
  intro D hD i j x y hi hj Ej hDj hDi
  rw[rh] at V6
  have h1:=V6 (nG j y) (O4.2 (.inr ⟨j,y,hj,by simp⟩))
  rw[rh] at h1
  have h2:=h1 (nG i x) (O4.2 (.inr ⟨i,x,hi,by simp⟩))
  simp only[Ee,ql] at h2
  rcases h2 with(h2|h2)|h2
  ·have:Nat.blt i j=true:=by simpa using Ej
   simp only[nG] at h2
   rw[this] at h2;cases h2
  ·exfalso
   refine hDi (ac4 (D:=D) (acc:=[]) (n:=0) rfl (fun j hj=>by omega) (fun m o hm Al e he hb=> ?_) j hDj i h2)
   exact hD m (by simpa using Al) o (by simpa using hm) e (by simpa using he) hb
  ·have e1:ops.toList[(nG i x).i]? =some x.o:=by simpa[nG] using rf i x hi
   have e2:ops.toList[(nG j y).i]? =some y.o:=by simpa[nG] using rf j y hj
   rw[e1,e2] at h2
   exact FR.of h2
 intro Qi
 induction Qi with
 |zero=>
  intro fv F kv fp a w hs wy iq aoq
  have EI:∀k,k<items.length->fv.getD k false=true:=by
   intro k hk
   have cO:k<fv.size:=by omega
   rw[Ot,zdk cO]
   simp only[FU]
   cases hb:fv[k] with
   |true=>rfl
   |false=>
    exfalso
    have:false∈fv.toList:=by rw[<-hb];exact Array.mem_toList_iff.2 (Array.getElem_mem cO)
    have:=List.count_pos_iff.2 this
    omega
  refine⟨?_,qP F kv fp a w ?_⟩
  ·rw[zdm]
   intro i hi
   obtain⟨h0,o,ho,_⟩:=mem_ready.1 hi
   have gF:i<ops.size:=(Array.getElem?_eq_some_iff.1 ho).1
   rw[XU (by omega) true false,EI i (by omega)] at h0
   cases h0
  ·rw[<-MA (D:=fun k=>fv.getD k false) (j:=0) (fun k hk=>by simpa using EI k hk)];exact hs
 |succ Qi ih=>
  intro fv F kv fp a w hs wy iq aoq
  refine⟨fun K0=> ?_,fun i hi=> ?_⟩
  ·have EI:∀k,k<items.length->fv.getD k false=true:=by
    intro k
    induction k using Nat.strongRecOn with
    |ind k ihk=>
     intro hk
     cases hb:fv.getD k false with
     |true=>rfl
     |false=>
      exfalso
      have gF:k<ops.size:=by omega
      have hr:k∈Region.ready .any ops fv:=by
       refine mem_ready.2 ⟨by rw[XU (by omega) true false];exact hb,ops[k],zdk gF,fun e he hbe=> ?_⟩
       have:=zV k ops[k] (zdk gF) e he hbe
       exact ihk e.on this (by omega)
      rw[K0] at hr;cases hr
   refine qP F kv fp a w ?_
   rw[<-MA (D:=fun k=>fv.getD k false) (j:=0) (fun k hk=>by simpa using EI k hk)];exact hs
  ·obtain⟨h0,o,ho,Wg⟩:=mem_ready.1 hi
   have gF:i<ops.size:=(Array.getElem?_eq_some_iff.1 ho).1
   have hui:fv.getD i false=false:=by rw[XU (by omega) false true];exact h0
   obtain⟨it,Kc⟩:∃it,items[i]? =some it:=⟨_,fo (by omega)⟩
   have hoi:ops[i]? =some it.o:=rf i it Kc
   have:o=it.o:=by rw[ho] at hoi;exact W3 hoi
   subst this
   generalize hDd:(fun k=>fv.getD k false)=D at hs
   have hDi:D i=false:=by rw[<-hDd];exact hui
   have UY:∀j,D j=true->∀o,ops[j]? =some o->∀e∈o.after,Region.binds .any e=true->D e.on=true:=by rw[<-hDd];exact iq
   have PS:∀(m:Nat)(y:Item U),items[m]? =some y->i<m->D m=true->FR ops.toList it y:=fun m y hm him Al=>
    xb (D:=fun k=>D k=true) UY i m it y Kc hm him Al (by simp[hDi])
   have Y8:∀(m:Nat)(x:Item U),items[m]? =some x->m<i->D m=false->FR ops.toList x it:=fun m x hm hmi Al=>
    xb (D:=fun k=>D k=true\/k=i) (by
     intro j hj o' PO e he hb
     rcases hj with hj|hj
     ·exact .inl (UY j hj o' PO e he hb)
     ·subst hj
      rw[ho] at PO
      cases PO
      left
      rw[<-hDd]
      exact Wg e he hb) m i x it hm Kc hmi (.inr rfl) (by simp[Al];omega)
   have P9:∀(m:Nat)(x:Item U),items[m]? =some x->D (0+m)≠decide (0+m<i)->(∀d,x.o.dst=some d->d∉slotsOf ops.toList it.o)/\∀k∈x.r.writes (x.o.dst.getD 1000000),k∉it.ks:=by
    intro m x hm eO
    simp only[tY] at eO
    rcases Nat.lt_trichotomy m i with C4|pe|hgt
    ·have Al:D m=false:=by
      cases hb:D m
      ·rfl
      ·exact absurd (by rw[hb];simp[C4]) eO
     have:=Y8 m x hm C4 Al
     exact⟨fun d hd=>(this.d d hd).1,fun k hk=>(this.w k hk).1⟩
    ·subst pe
     exact absurd (by rw[hDi];simp) eO
    ·have Al:D m=true:=by
      cases hb:D m
      ·exact absurd (by rw[hb];simp;omega) eO
      ·rfl
     have:=PS m x hm hgt Al
     exact⟨fun d hd=>this.e d hd,fun k hk=>this.r k hk⟩
   obtain⟨yW,hok⟩:=je.VT Kc
   have V4:∀t∈slotsOf ops.toList it.o,(T (fun k=>decide (k<i)) 0 items σ).get t=(T D 0 items σ).get t:=fun t ht=>
    (WT (fun m x hm eO e=>((P9 m x hm eO).1 t e) ht) rfl).symm
   have adC:∀k∈it.ks,(T (fun k=>decide (k<i)) 0 items σ).bJ k=(T D 0 items σ).bJ k:=fun k hk=>
    (WV (fun m x hm eO e=>(P9 m x hm eO).2 k e hk) rfl).symm
   have adD:∀k∈it.ks,(T (fun k=>decide (k<i)) 0 items σ).aK.any (iJ k)=(T D 0 items σ).aK.any (iJ k):=fun k hk=>
    (ac9 (fun m x hm eO e=>(P9 m x hm eO).2 k e hk) rfl).symm
   have hw:iw ops.toList it.o (T D 0 items σ)=iw ops.toList it.o (T (fun k=>decide (k<i)) 0 items σ):=
    alu (fun t ht=>(V4 t (pS _ ht)).symm)
   have AD:qb (T D 0 items σ) it.o=true:=by
    unfold qb at yW⊢
    rw[T_n] at yW⊢
    exact yW
   refine acy hE hs hoi AD ?_ (fun F' kv' fp' a' w' j0=>ih (fv.setIfInBounds i true) F' kv' fp' a' w' ?_ (by simp[wy]) ?_ ?_)
   ·rcases hok with⟨g1,g2,g3⟩|⟨g1,g2,g3,g4,g5⟩
    ·exact .inl ⟨by rw[hw];exact g1,g2⟩
    ·refine .inr ⟨by rw[hw];exact g1,g2.imp fun b g2=>alF g2 (by rw[T_n,T_n]) (fun t ht=>V4 t (qC _ (nT.2 ⟨.tmp t,ht,by simp⟩))) adC adD,g3,fun k hk uk=> ?_⟩
     ·
      have PV:∃j,k=(it.o.dst.getD 1000000,j)/\j<1024/\it.r.dG≠[]:=by
       simp only[dG,lB] at hk
       obtain⟨⟨j,e⟩,hj,rfl⟩:=hk
       unfold wa at g5
       have:=rh.1 g5 _ hj
       exact⟨j,rfl,Nat.blt_eq▸this,(fun e=>by rw[e] at hj;cases hj)⟩
      obtain⟨j,rfl,hj,eO⟩:=PV
      have hkw:((it.o.dst.getD 1000000,j):Key)∈it.r.news (it.o.dst.getD 1000000):=hk
      rcases X7 uk with uk|⟨m,x,hm,Al,hx⟩
      ·have:=hN _ uk (by
        cases hd:it.o.dst with
        |none=>exact .inr rfl
        |some d=>
         refine .inl ?_
         simp only[FU,An,nT]
         exact⟨it.o,by have:=hoi;rw[<-Kk] at this;exact EM this,by simp[hd]⟩)
       simp only at this
       omega
      ·simp only[tY] at Al
       rcases Nat.lt_trichotomy m i with C4|pe|hgt
       ·
        unfold rR at g4
        have hie:it.r.dG.isEmpty=false:=by cases ha:it.r.dG with
         |nil=>exact absurd ha eO
         |cons _ _=>rfl
        rw[hie,FT,rh] at g4
        have C3:nG m x∈xm 0 (items.take i) []:=O4.2 (.inr ⟨m,x,by rw[oJ,if_pos C4];exact hm,by simp⟩)
        have:=g4 _ C3
        simp only[ql,nG] at this
        rw[<-yi,tZ] at this
        exact this ⟨_,qC _ (pS _ hx),by simp⟩
       ·subst pe
        rw[hDi] at Al;cases Al
       ·exact(PS m x hm hgt Al).n _ hkw hx
   ·refine j0.congr ?_
    have h1:=SY (D:=D) (i:=i) (it:=it) (items:=items) (j:=0) (σ:=σ) Kc (by simpa using hDi) (fun m y hm him Al=>by
     have:=PS m y hm him (by simpa using Al)
     exact⟨fun d hd=>(this.d d hd).2,fun k hk=>(this.w k hk).2⟩)
    refine h1.trans ?_
    rw[Um (D':=fun k=>(fv.setIfInBounds i true).getD k false)]
    ·exact Ap.refl _
    ·intro k hk
     simp only[tY]
     rw[<-hDd]
     simp only
     cases hb:Nat.beq k i
     ·rw[W2,getD_set_ne]
      intro e
      subst e
      simp at hb
     ·have:=mM hb
      subst this
      rw[Bool.or_true,Ot,Array.getElem?_setIfInBounds_self_of_lt (by omega)]
      rfl
   ·intro j hj o' PO e he hb
    by_cases Wc:j=i
    ·subst Wc
     rw[ho] at PO
     cases PO
     exact getD_set_true (Wg e he hb)
    ·rw[getD_set_ne false (Ne.symm Wc)] at hj
     exact getD_set_true (iq j hj o' PO e he hb)
   ·have hli:i<fv.size:=by omega
    have hb:fv[i]=false:=by
     rw[Ot,zdk hli] at hui
     simpa using hui
    rw[Array.toList_setIfInBounds,List.count_set (by simpa using hli)]
    have e1:(fv.toList[i]'(by simpa using hli)==false)=true:=by simp[hb]
    have e2:(true==false)=false:=rfl
    rw[e1,e2]
    have:false∈fv.toList:=by rw[<-hb];exact Array.mem_toList_iff.2 (Array.getElem_mem hli)
    have:=List.count_pos_iff.2 this
    simp only[if_true,wx,if_false]
    omega
end AM
