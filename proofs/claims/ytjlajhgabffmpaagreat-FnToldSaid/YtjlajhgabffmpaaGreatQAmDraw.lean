/- THE ABSTRACT MACHINE: a region whose order is drawn. -/
import Derived.Test.YtjlajhgabffmpaaGreatQAmRegion
namespace AM
set_option linter.unusedVariables false
open Go
variable{U:lu}{E:Env U}{pm:Pm}
variable{F F':Nat->Prop}{kv:Key->Value}{fp:Key->List Nat}{σ τ:ai U}{a:Act}{w w':World}
def T(D:Nat->Bool):Nat->List (Item U)->ai U->ai U
 |_,[],σ=>σ
 |j,it::r,σ=>T D (j+1) r (bif D j then apply it.o it.r σ else σ)
theorem T_n{D:Nat->Bool}:∀{items:List (Item U)}{j:Nat}{σ:ai U},(T D j items σ).n=σ.n
 |[],_,_=>rfl
 |it::r,j,σ=>by
  simp only[T]
  rw[T_n]
  cases D j<;>rfl
theorem YO{D D':Nat->Bool}{s:Nat}:∀{items:List (Item U)}{j:Nat}{σ τ:ai U},(∀(k:Nat)(it:Item U),items[k]? =some it->D (j+k)≠D' (j+k)->it.o.dst≠some s)->σ.get s=τ.get s->
  (T D j items σ).get s=(T D' j items τ).get s
 |[],_,_,_,_,h=>h
 |it::r,j,σ,τ,hd,h=>by
  simp only[T]
  refine YO (fun k xW hk fg=>hd (k+1) xW (by simpa using hk) (by rw[show j+(k+1)=j+1+k by omega];exact fg)) ?_
  have h0:=hd 0 it rfl
  simp only[JV] at h0
  have yb:∀{ρ:ai U},it.o.dst≠some s->(apply it.o it.r ρ).get s=ρ.get s:=by
   intro ρ fg
   rw[HF]
   cases kY:it.o.dst with
   |none=>rfl
   |some d=>simp only;rw[if_neg (fun e=>fg (by rw[kY,e]))]
  cases h1:D j<;>cases h2:D' j<;>simp only[cond_true,cond_false]
  ·exact h
  ·rw[yb (h0 (by rw[h1,h2];simp)),h]
  ·rw[yb (h0 (by rw[h1,h2];simp)),h]
  ·rw[HF,HF,h]
theorem YQ{D D':Nat->Bool}{k:Key}:∀{items:List (Item U)}{j:Nat}{σ τ:ai U},(∀(m:Nat)(it:Item U),items[m]? =some it->D (j+m)≠D' (j+m)->k∉it.r.writes (it.o.dst.getD 1000000))->σ.bM k=τ.bM k->
  (T D j items σ).bM k=(T D' j items τ).bM k
 |[],_,_,_,_,h=>h
 |it::r,j,σ,τ,hd,h=>by
  simp only[T]
  refine YQ (fun m xW hm fg=>hd (m+1) xW (by simpa using hm) (by rw[show j+(m+1)=j+1+m by omega];exact fg)) ?_
  have h0:=hd 0 it rfl
  simp only[JV] at h0
  have yb:∀{ρ:ai U},k∉it.r.writes (it.o.dst.getD 1000000)->(apply it.o it.r ρ).bM k=ρ.bM k:=by
   intro ρ fg
   rw[MQ,if_neg (fun e=>fg (ZP.1 e))]
  cases h1:D j<;>cases h2:D' j<;>simp only[cond_true,cond_false]
  ·exact h
  ·rw[yb (h0 (by rw[h1,h2];simp)),h]
  ·rw[yb (h0 (by rw[h1,h2];simp)),h]
  ·rw[MQ,MQ,h]
theorem ajI{r:cm U}{d:Nat}{k:Key}(h:k∉r.writes d):(r.jY.map (·.1)).any (jb k)=false:=by
 rw[<-wl,sI]
 exact fun e=>h (rb _ e)
theorem ads{D D':Nat->Bool}{k:Key}:∀{items:List (Item U)}{j:Nat}{σ τ:ai U},(∀(m:Nat)(it:Item U),items[m]? =some it->D (j+m)≠D' (j+m)->k∉it.r.writes (it.o.dst.getD 1000000))->σ.aN.any (jb k)=τ.aN.any (jb k)->
  (T D j items σ).aN.any (jb k)=(T D' j items τ).aN.any (jb k)
 |[],_,_,_,_,h=>h
 |it::r,j,σ,τ,hd,h=>by
  simp only[T]
  refine ads (fun m xW hm fg=>hd (m+1) xW (by simpa using hm) (by rw[show j+(m+1)=j+1+m by omega];exact fg)) ?_
  have h0:=hd 0 it rfl
  simp only[JV] at h0
  have yb:∀{ρ:ai U},k∉it.r.writes (it.o.dst.getD 1000000)->(apply it.o it.r ρ).aN.any (jb k)=ρ.aN.any (jb k):=by
   intro ρ fg
   rw[Ps,ajI fg];rfl
  cases h1:D j<;>cases h2:D' j<;>simp only[cond_true,cond_false]
  ·exact h
  ·rw[yb (h0 (by rw[h1,h2];simp)),h]
  ·rw[yb (h0 (by rw[h1,h2];simp)),h]
  ·rw[Ps,Ps,h]
theorem YP{D:Nat->Bool}:∀{items:List (Item U)}{j:Nat}{σ τ:ai U},BD σ τ->BD (T D j items σ) (T D j items τ)
 |[],_,_,_,h=>h
 |it::r,j,σ,τ,h=>by
  simp only[T]
  refine YP ?_
  cases D j
  ·exact h
  ·exact h.apply _ _
theorem aku{o:Oper}{r:cm U}{k:Key}(h:Names (apply o r σ) k):k∈r.names\/Names σ k:=by
 rcases h with⟨s,x,hs,hk⟩|⟨k',cs,he,x,hx,hk⟩
 ·rw[HF] at hs
  cases hd:o.dst with
  |none=>rw[hd] at hs;exact .inr (.inl ⟨s,x,hs,hk⟩)
  |some d=>
   rw[hd] at hs
   simp only at hs
   split at hs
   ·left
    unfold cm.names
    rw[hs]
    exact sh _ (sh _ hk)
   ·exact .inr (.inl ⟨s,x,hs,hk⟩)
 ·rw[MQ] at he
  split at he
  ·left
   have hm:=FY he
   have hn:k∈(i_.box cs:i_ U).names:=ow.2 ⟨x,hx,hk⟩
   simp only[lays,pE,jO,l_,pb,gJ] at hm
   unfold cm.names
   rcases hm with(⟨y,h1,h2,h3⟩|⟨y,h1,h2,h3⟩)|⟨y,h1,h2,h3⟩
   ·exact sh _ (rb _ (ow.2 ⟨y,h1,by obtain⟨y1,y2⟩:=y;simp only at h3;subst h3;exact hn⟩))
   ·exact rb _ (ow.2 ⟨y,h1,by obtain⟨y1,y2⟩:=y;simp only at h3;subst h3;exact hn⟩)
   ·cases h3
  ·exact .inr (.inr ⟨k',cs,he,x,hx,hk⟩)
theorem Z5{D:Nat->Bool}{k:Key}:∀{items:List (Item U)}{j:Nat}{σ:ai U},Names (T D j items σ) k->Names σ k\/∃m it,items[m]? =some it/\D (j+m)=true/\k∈it.r.names
 |[],_,_,h=> .inl h
 |it::r,j,σ,h=>by
  simp only[T] at h
  rcases Z5 h with h|⟨m,xW,h1,h2,h3⟩
  ·cases hd:D j<;>rw[hd] at h<;>simp only[cond_true,cond_false] at h
   ·exact .inl h
   ·rcases aku h with h|h
    ·exact .inr ⟨0,it,rfl,hd,h⟩
    ·exact .inl h
  ·exact .inr ⟨m+1,xW,by simpa using h1,by rw[show j+(m+1)=j+1+m by omega];exact h2,h3⟩
theorem O2{D:Nat->Bool}:∀{items:List (Item U)}{j:Nat}{σ:ai U},(∀k,k<items.length->D (j+k)=true)->T D j items σ=xa items σ
 |[],_,_,_=>rfl
 |it::r,j,σ,h=>by
  simp only[T,xa]
  have h0:=h 0 (by simp)
  simp only[JV] at h0
  rw[h0]
  exact O2 (fun k hk=>by rw[show j+1+k=j+(k+1) by omega];exact h (k+1) (by simpa using hk))
theorem JQ{D:Nat->Bool}:∀{items:List (Item U)}{j:Nat}{σ:ai U},(∀k,k<items.length->D (j+k)=false)->T D j items σ=σ
 |[],_,_,_=>rfl
 |it::r,j,σ,h=>by
  simp only[T]
  have h0:=h 0 (by simp)
  simp only[JV] at h0
  rw[h0]
  exact JQ (fun k hk=>by rw[show j+1+k=j+(k+1) by omega];exact h (k+1) (by simpa using hk))
theorem Vl{D D':Nat->Bool}:∀{items:List (Item U)}{j:Nat}{σ:ai U},(∀k,k<items.length->D (j+k)=D' (j+k))->T D j items σ=T D' j items σ
 |[],_,_,_=>rfl
 |it::r,j,σ,h=>by
  simp only[T]
  have h0:=h 0 (by simp)
  simp only[JV] at h0
  rw[h0]
  exact Vl (fun k hk=>by rw[show j+1+k=j+(k+1) by omega];exact h (k+1) (by simpa using hk))
theorem Q6{D:Nat->Bool}:∀{items:List (Item U)}{i j:Nat}{σ:ai U},(∀k,D k=decide (k<j+i))->xa (items.take i) σ=T D j items σ
 |[],i,j,σ,_=>by cases i<;>rfl
 |it::r,0,j,σ,h=>by
  rw[List.take_zero]
  exact(JQ (fun k _=>by rw[h];simp)).symm
 |it::r,i+1,j,σ,h=>by
  simp only[List.take_succ_cons,xa,T]
  rw[show D j=true by rw[h];simp]
  exact Q6 (fun k=>by rw[h,show j+(i+1)=j+1+i by omega])
theorem Ub{ops:List Oper}:∀{items:List (Item U)}{i j:Nat}{σ:ai U}{rs:List Rec}{it:Item U},WB E ops i items σ rs->items[j]? =some it->aby E ops it (xa (items.take j) σ) (yo i (items.take j) rs)
 |[],_,_,_,_,_,_,h=>by simp at h
 |xW::r,i,0,σ,rs,it,h,hj=>by
  simp only[vh,gJ] at hj
  subst hj
  exact h.1
 |xW::r,i,j+1,σ,rs,it,h,hj=>by
  simp only[List.take_succ_cons,xa,yo]
  exact Ub h.2 (by simpa using hj)
theorem Rx{x:Rec}:∀{items:List (Item U)}{i:Nat}{rs:List Rec},x∈yo i items rs↔x∈rs\/∃m it,items[m]? =some it/\x=n_ (i+m) it
 |[],i,rs=>by simp[yo]
 |it::r,i,rs=>by
  simp only[yo]
  rw[Rx]
  simp only[kf]
  constructor
  ·rintro((h|h)|⟨m,xW,h1,h2⟩)
   ·exact .inr ⟨0,it,rfl,by simpa using h⟩
   ·exact .inl h
   ·exact .inr ⟨m+1,xW,by simpa using h1,by rw[h2,show i+(m+1)=i+1+m by omega]⟩
  ·rintro(h|⟨m,xW,h1,h2⟩)
   ·exact .inl (.inr h)
   ·cases m with
    |zero=>simp only[vh,gJ] at h1;subst h1;exact .inl (.inl (by simpa using h2))
    |succ m=>exact .inr ⟨m,xW,by simpa using h1,by rw[h2,show i+(m+1)=i+1+m by omega]⟩
theorem Ua{D:Nat->Bool}{i:Nat}{it:Item U}:∀{items:List (Item U)}{j:Nat}{σ:ai U},items[i]? =some it->D (j+i)=false->
  (∀(m:Nat)(xW:Item U),items[m]? =some xW->i<m->D (j+m)=true->(∀d,it.o.dst=some d->xW.o.dst≠some d)/\∀k∈it.r.writes (it.o.dst.getD 1000000),k∉xW.r.writes (xW.o.dst.getD 1000000))->
  BD (apply it.o it.r (T D j items σ)) (T (fun k=>D k||Nat.beq k (j+i)) j items σ):=by
 have late:∀{items:List (Item U)}{j:Nat}{σ:ai U},(∀(m:Nat)(xW:Item U),items[m]? =some xW->D (j+m)=true->(∀d,it.o.dst=some d->xW.o.dst≠some d)/\∀k∈it.r.writes (it.o.dst.getD 1000000),k∉xW.r.writes (xW.o.dst.getD 1000000))->
   BD (apply it.o it.r (T D j items σ)) (T D j items (apply it.o it.r σ)):=by
  intro items
  induction items with
  |nil=>intro j σ _;exact BD.refl _
  |cons xW r ih=>
   intro j σ h
   simp only[T]
   refine(ih (fun m x hm hD=>h (m+1) x (by simpa using hm) (by rw[show j+(m+1)=j+1+m by omega];exact hD))).trans (YP ?_)
   cases hd:D j<;>simp only[cond_true,cond_false]
   ·exact BD.refl _
   ·obtain⟨h1,h2⟩:=h 0 xW rfl (by simpa using hd)
    exact(al4 h1 h2).symm
 induction i with
 |zero=>
  intro items j σ hi hD h
  cases items with
  |nil=>simp at hi
  |cons xW r=>
   simp only[vh,gJ] at hi
   subst hi
   simp only[T,JV] at hD⊢
   rw[hD]
   simp only[cond_false,Gl]
   rw[show Nat.beq j j=true by simp]
   simp only[cond_true]
   refine(late (fun m x hm Bz=>h (m+1) x (by simpa using hm) (by omega) (by rw[show j+(m+1)=j+1+m by omega];exact Bz))).trans ?_
   rw[Vl (D':=fun k=>D k||Nat.beq k j)]
   ·exact BD.refl _
   ·intro k _
    have:Nat.beq (j+1+k) j=false:=by
     cases hb:Nat.beq (j+1+k) j
     ·rfl
     ·have:=nc hb;omega
    simp[this]
 |succ i ih=>
  intro items j σ hi hD h
  cases items with
  |nil=>simp at hi
  |cons xW r=>
   simp only[T]
   have hj:Nat.beq j (j+(i+1))=false:=by
    cases hb:Nat.beq j (j+(i+1))
    ·rfl
    ·have:=nc hb;omega
   rw[hj,QT]
   have:=ih (items:=r) (j:=j+1) (σ:=bif D j then apply xW.o xW.r σ else σ) (by simpa using hi) (by rw[show j+1+i=j+(i+1) by omega];exact hD)
    (fun m x hm gZ Bz=>h (m+1) x (by simpa using hm) (by omega) (by rw[show j+(m+1)=j+1+m by omega];exact Bz))
   rw[show j+(i+1)=j+1+i by omega]
   exact this
theorem Vh(m i:Nat):yM m i=m.testBit i:=by
 have h:yM m i=Nat.beq ((m>>>i)&&&1) 1:=rfl
 rw[h,Nat.and_one_is_mod,Nat.shiftRight_eq_div_pow,Nat.testBit_eq_decide_div_mod_eq]
 rw[FM,JU,decide_eq_true_eq]
theorem adj{a b i:Nat}(h:yM (Nat.lor a b) i=true):yM a i=true\/yM b i=true:=by
 rw[Vh] at h⊢
 rw[Vh]
 have h:(a|||b).testBit i=true:=h
 rw[Nat.testBit_or,FL] at h
 exact h
theorem alV{k i:Nat}(h:yM (Nat.shiftLeft 1 k) i=true):i=k:=by
 rw[Vh] at h
 have h:(1<<<k).testBit i=true:=h
 rw[Nat.shiftLeft_eq,QU,Nat.testBit_two_pow] at h
 exact(of_decide_eq_true h).symm
theorem Z1{i:Nat}:yM 0 i=false:=by rw[Vh,Nat.zero_testBit]
theorem ado{D:Nat->Prop}{acc:List Nat}:∀(es:List Edge)(m:Nat),(∀i,yM m i=true->D i)->(∀e∈es,Region.binds .any e=true->D e.on/\∀i,yM (acc.getD e.on 0) i=true->D i)->
  ∀i,yM (es.foldl (fun m e=>bif Region.binds .any e then Nat.lor m (Nat.lor (Nat.shiftLeft 1 e.on) (acc.getD e.on 0)) else m) m) i=true->D i
 |[],m,h,_,i,hi=>h i hi
 |e::es,m,h,he,i,hi=>by
  rw[List.foldl_cons] at hi
  refine ado es _ (fun j hj=> ?_) (fun e' h'=>he e' (cI _ h')) i hi
  rw[iu] at hj
  split at hj
  ·rename_i hb
   obtain⟨h1,h2⟩:=he e gB hb
   rcases adj hj with hj|hj
   ·exact h j hj
   ·rcases adj hj with hj|hj
    ·rw[alV hj];exact h1
    ·exact h2 j hj
  ·exact h j hj
theorem adn{D:Nat->Prop}:∀{ops:List Oper}{acc:List Nat}{n:Nat},acc.length=n->(∀j,j<n->D j->∀i,yM (acc.getD j 0) i=true->D i)->
  (∀(m:Nat)(o:Oper),ops[m]? =some o->D (n+m)->∀e∈o.after.toList,Region.binds .any e=true->D e.on)->
  ∀j,D j->∀i,yM ((ops.foldl (fun acc o=>acc++[o.after.toList.foldl (fun m e=>bif Region.binds .any e then Nat.lor m (Nat.lor (Nat.shiftLeft 1 e.on) (acc.getD e.on 0)) else m) 0]) acc).getD j 0) i=true->D i
 |[],acc,n,hl,ha,_,j,hj,i,hi=>by
  rcases pa j n with h|h
  ·exact ha j h hj i hi
  ·simp only[List.foldl_nil] at hi
   rw[eX,ox (by omega)] at hi
   simp[Z1] at hi
 |o::ops,acc,n,hl,ha,ho,j,hj,i,hi=>by
  simp only[List.foldl_cons] at hi
  refine adn (ops:=ops) (n:=n+1) (by simp[hl]) (fun j' ug hD i' qh=> ?_) (fun m o' hm hD=>ho (m+1) o' (by simpa using hm) (by rw[show n+(m+1)=n+1+m by omega];exact hD)) j hj i hi
  have gd:∀m i,yM (acc.getD m 0) i=true->D m->D i:=by
   intro m i hi hD
   rcases pa m n with h|h
   ·exact ha m h hD i hi
   ·rw[eX,ox (by omega)] at hi
    simp[Z1] at hi
  rcases pa j' n with h|h
  ·rw[Kw (by omega)] at qh
   exact ha j' h hD i' qh
  ·have:j'=n:=by omega
   subst this
   rw[Pq (by omega),hl,YV] at qh
   simp only[List.getD_cons_zero] at qh
   refine ado (D:=D) (acc:=acc) o.after.toList 0 (fun i hi=>by rw[Z1] at hi;cases hi) (fun e he hb=> ?_) i' qh
   have hon:D e.on:=ho 0 o rfl (by simpa using hD) e he hb
   exact⟨hon,fun i hi=>gd e.on i hi hon⟩
theorem ZK{x y:List Key}(h:meet x y=false):∀k∈x,k∉y:=by
 intro k hk hy
 have:meet x y=true:=vg.2 ⟨k,hk,sI.2 hy⟩
 rw[h] at this;cases this
structure Ht(ops:List Oper)(x y:Item U):Prop where
 w:∀k∈x.r.writes (x.o.dst.getD 1000000),k∉y.ks/\k∉y.r.writes (y.o.dst.getD 1000000)
 r:∀k∈y.r.writes (y.o.dst.getD 1000000),k∉x.ks
 n:∀k∈x.r.news (x.o.dst.getD 1000000),k∉y.r.names
 d:∀d,x.o.dst=some d->d∉slotsOf ops y.o/\y.o.dst≠some d
 e:∀d,y.o.dst=some d->d∉slotsOf ops x.o
theorem Ht.of{ops:List Oper}{x y:Item U}{i j:Nat}(h:IA ops x.o y.o (n_ i x) (n_ j y)=true):Ht ops x y:=by
 unfold IA n_ at h
 simp only[cO,ra] at h
 obtain⟨⟨⟨⟨h1,h2⟩,h5⟩,h3⟩,h4⟩:=h
 refine⟨fun k hk=> ?_,ZK h2,ZK h5,fun d hd=> ?_,fun d hd=> ?_⟩
 ·have:=ZK h1 k hk
  simp only[jO,not_or] at this⊢
  exact this
 ·rw[hd] at h3
  simp only[cO,ra] at h3
  refine⟨fun hm=> ?_,fun he=> ?_⟩
  ·have:(slotsOf ops y.o).any (Nat.beq d)=true:=vg.2 ⟨d,hm,by simp⟩
   rw[h3.1] at this;cases this
  ·rw[he] at h3;simp at h3
 ·rw[hd] at h4
  simp only[ra] at h4
  intro hm
  have:(slotsOf ops x.o).any (Nat.beq d)=true:=vg.2 ⟨d,hm,by simp⟩
  rw[h4] at this;cases this
theorem WB.WQ{ops:List Oper}{items:List (Item U)}{σ:ai U}(h:WB E ops 0 items σ []){j:Nat}{it:Item U}(hj:items[j]? =some it):
  aby E ops it (T (fun k=>decide (k<j)) 0 items σ) (yo 0 (items.take j) []):=by
 have:=Ub h hj
 rwa[Q6 (D:=fun k=>decide (k<j)) (j:=0) (fun k=>by simp)] at this
theorem ajH{ops:List Oper}{o:Oper}(h:∀t∈Aa ops o,σ.get t=τ.get t):iL ops o σ=iL ops o τ:=by
 unfold iL
 unfold Aa at h
 split
 ·rfl
 ·rename_i g want hg
  rw[hg] at h
  simp only at h
  have:((ops[g]?).bind (·.dst)).bind σ.get=((ops[g]?).bind (·.dst)).bind τ.get:=by
   cases hq:ops[g]? with
   |none=>rfl
   |some q=>
    rw[hq] at h
    cases hd:q.dst with
    |none=>simp[hd]
    |some d=>simp only[Option.bind_some,hd];exact h d (by simp[hd])
  rw[this]
theorem ZS{fK:Array Bool}{k:Nat}(h:k<fK.size)(d d':Bool):fK.getD k d=fK.getD k d':=by
 simp[QY,h]
theorem alz(hE:E.Good){ops:Array Oper}{items:List (Item U)}{σ:ai U}(jz:WB E ops.toList 0 items σ [])(w4:items.map (·.o)=ops.toList)(SE:Ny ops.toList (yo 0 items [])=true)
  (hN:∀k,Names σ k->(k.1∈BB ops.toList\/k.1=1000000)->1024<=k.2) {Q:Exit->Act->World->Prop} (rO:∀F kv fp a w,cQ E pm F kv fp (xa items σ) a w->Q .normal a w):
  ∀(SQ:Nat)(fK:Array Bool)(F:Nat->Prop)(kv:Key->Value)(fp:Key->List Nat)(a:Act)(w:World),cQ E pm F kv fp (T (fun k=>fK.getD k false) 0 items σ) a w->fK.size=ops.size->
   (∀j,fK.getD j false=true->∀o,ops[j]? =some o->∀e∈o.after,Region.binds .any e=true->fK.getD e.on false=true)->fK.toList.count false<=SQ->
   wpAny E.P .any ops Q SQ fK a w:=by
 have hlen:items.length=ops.size:=by simpa using congrArg List.length w4
 have sj:∀(j:Nat)(it:Item U),items[j]? =some it->ops[j]? =some it.o:=by
  intro j it hj
  have:(items.map (·.o))[j]? =some it.o:=by rw[nO,hj];rfl
  rw[w4] at this
  simpa using this
 unfold Ny at SE
 simp only[cO] at SE
 obtain⟨aaw,W4⟩:=SE
 have A9:∀(j:Nat)(o:Oper),ops[j]? =some o->∀e∈o.after,Region.binds .any e=true->e.on<j:=by
  intro j o hj e he hb
  unfold WO at aaw
  rw[sk] at aaw
  have hm:(o,j)∈ops.toList.zipIdx:=by
   rw[List.mem_zipIdx_iff_getElem?]
   simpa using hj
  have:=sk.1 (aaw _ hm) e (by simpa using he)
  rw[hb] at this
  exact Nat.blt_eq▸this
 have yb:∀{D:Nat->Prop},(∀j,D j->∀o,ops[j]? =some o->∀e∈o.after,Region.binds .any e=true->D e.on)->∀(i j:Nat)(x y:Item U),items[i]? =some x->items[j]? =some y->i<j->D j->¬D i->Ht ops.toList x y:=by
  intro D hD i j x y hi hj FQ hDj hDi
  rw[sk] at W4
  have h1:=W4 (n_ j y) (Rx.2 (.inr ⟨j,y,hj,by simp⟩))
  rw[sk] at h1
  have h2:=h1 (n_ i x) (Rx.2 (.inr ⟨i,x,hi,by simp⟩))
  simp only[FL,ra] at h2
  rcases h2 with(h2|h2)|h2
  ·have:Nat.blt i j=true:=by simpa using FQ
   simp only[n_] at h2
   rw[this] at h2;cases h2
  ·exfalso
   refine hDi (adn (D:=D) (acc:=[]) (n:=0) rfl (fun j hj=>by omega) (fun m o hm Bz e he hb=> ?_) j hDj i h2)
   exact hD m (by simpa using Bz) o (by simpa using hm) e (by simpa using he) hb
  ·have e1:ops.toList[(n_ i x).i]? =some x.o:=by simpa[n_] using sj i x hi
   have e2:ops.toList[(n_ j y).i]? =some y.o:=by simpa[n_] using sj j y hj
   rw[e1,e2] at h2
   exact Ht.of h2
 intro SQ
 induction SQ with
 |zero=>
  intro fK F kv fp a w hs xu iH amB
  have Gi:∀k,k<items.length->fK.getD k false=true:=by
   intro k hk
   have db:k<fK.size:=by omega
   rw[QY,zdk db]
   simp only[Gm]
   cases hb:fK[k] with
   |true=>rfl
   |false=>
    exfalso
    have:false∈fK.toList:=by rw[<-hb];exact Array.mem_toList_iff.2 (Array.getElem_mem db)
    have:=List.count_pos_iff.2 this
    omega
  refine⟨?_,rO F kv fp a w ?_⟩
  ·rw[zdm]
   intro i hi
   obtain⟨h0,o,ho,_⟩:=mem_ready.1 hi
   have gZ:i<ops.size:=(Array.getElem?_eq_some_iff.1 ho).1
   rw[ZS (by omega) true false,Gi i (by omega)] at h0
   cases h0
  ·rw[<-O2 (D:=fun k=>fK.getD k false) (j:=0) (fun k hk=>by simpa using Gi k hk)];exact hs
 |succ SQ ih=>
  intro fK F kv fp a w hs xu iH amB
  refine⟨fun Na=> ?_,fun i hi=> ?_⟩
  ·have Gi:∀k,k<items.length->fK.getD k false=true:=by
    intro k
    induction k using Nat.strongRecOn with
    |ind k ihk=>
     intro hk
     cases hb:fK.getD k false with
     |true=>rfl
     |false=>
      exfalso
      have gZ:k<ops.size:=by omega
      have hr:k∈Region.ready .any ops fK:=by
       refine mem_ready.2 ⟨by rw[ZS (by omega) true false];exact hb,ops[k],zdk gZ,fun e he hbe=> ?_⟩
       have:=A9 k ops[k] (zdk gZ) e he hbe
       exact ihk e.on this (by omega)
      rw[Na] at hr;cases hr
   refine rO F kv fp a w ?_
   rw[<-O2 (D:=fun k=>fK.getD k false) (j:=0) (fun k hk=>by simpa using Gi k hk)];exact hs
  ·obtain⟨h0,o,ho,Xd⟩:=mem_ready.1 hi
   have gZ:i<ops.size:=(Array.getElem?_eq_some_iff.1 ho).1
   have hui:fK.getD i false=false:=by rw[ZS (by omega) false true];exact h0
   obtain⟨it,Ml⟩:∃it,items[i]? =some it:=⟨_,fH (by omega)⟩
   have hoi:ops[i]? =some it.o:=sj i it Ml
   have:o=it.o:=by rw[ho] at hoi;exact YY hoi
   subst this
   generalize hDd:(fun k=>fK.getD k false)=D at hs
   have hDi:D i=false:=by rw[<-hDd];exact hui
   have V1:∀j,D j=true->∀o,ops[j]? =some o->∀e∈o.after,Region.binds .any e=true->D e.on=true:=by rw[<-hDd];exact iH
   have Ss:∀(m:Nat)(y:Item U),items[m]? =some y->i<m->D m=true->Ht ops.toList it y:=fun m y hm him Bz=>
    yb (D:=fun k=>D k=true) V1 i m it y Ml hm him Bz (by simp[hDi])
   have aaT:∀(m:Nat)(x:Item U),items[m]? =some x->m<i->D m=false->Ht ops.toList x it:=fun m x hm hmi Bz=>
    yb (D:=fun k=>D k=true\/k=i) (by
     intro j hj o' So e he hb
     rcases hj with hj|hj
     ·exact .inl (V1 j hj o' So e he hb)
     ·subst hj
      rw[ho] at So
      cases So
      left
      rw[<-hDd]
      exact Xd e he hb) m i x it hm Ml hmi (.inr rfl) (by simp[Bz];omega)
   have SF:∀(m:Nat)(x:Item U),items[m]? =some x->D (0+m)≠decide (0+m<i)->(∀d,x.o.dst=some d->d∉slotsOf ops.toList it.o)/\∀k∈x.r.writes (x.o.dst.getD 1000000),k∉it.ks:=by
    intro m x hm fg
    simp only[vf] at fg
    rcases Nat.lt_trichotomy m i with EB|pK|hgt
    ·have Bz:D m=false:=by
      cases hb:D m
      ·rfl
      ·exact absurd (by rw[hb];simp[EB]) fg
     have:=aaT m x hm EB Bz
     exact⟨fun d hd=>(this.d d hd).1,fun k hk=>(this.w k hk).1⟩
    ·subst pK
     exact absurd (by rw[hDi];simp) fg
    ·have Bz:D m=true:=by
      cases hb:D m
      ·exact absurd (by rw[hb];simp;omega) fg
      ·rfl
     have:=Ss m x hm hgt Bz
     exact⟨fun d hd=>this.e d hd,fun k hk=>this.r k hk⟩
   obtain⟨z9,hok⟩:=jz.WQ Ml
   have W2:∀t∈slotsOf ops.toList it.o,(T (fun k=>decide (k<i)) 0 items σ).get t=(T D 0 items σ).get t:=fun t ht=>
    (YO (fun m x hm fg e=>((SF m x hm fg).1 t e) ht) rfl).symm
   have adT:∀k∈it.ks,(T (fun k=>decide (k<i)) 0 items σ).bM k=(T D 0 items σ).bM k:=fun k hk=>
    (YQ (fun m x hm fg e=>(SF m x hm fg).2 k e hk) rfl).symm
   have adU:∀k∈it.ks,(T (fun k=>decide (k<i)) 0 items σ).aN.any (jb k)=(T D 0 items σ).aN.any (jb k):=fun k hk=>
    (ads (fun m x hm fg e=>(SF m x hm fg).2 k e hk) rfl).symm
   have hw:iL ops.toList it.o (T D 0 items σ)=iL ops.toList it.o (T (fun k=>decide (k<i)) 0 items σ):=
    ajH (fun t ht=>(W2 t (rb _ ht)).symm)
   have BT:qH (T D 0 items σ) it.o=true:=by
    unfold qH at z9⊢
    rw[T_n] at z9⊢
    exact z9
   refine acU hE hs hoi BT ?_ (fun F' kv' fp' a' w' ky=>ih (fK.setIfInBounds i true) F' kv' fp' a' w' ?_ (by simp[xu]) ?_ ?_)
   ·rcases hok with⟨g1,g2,g3⟩|⟨g1,g2,g3,g4,g5⟩
    ·exact .inl ⟨by rw[hw];exact g1,g2⟩
    ·refine .inr ⟨by rw[hw];exact g1,g2.imp fun b g2=>ajS g2 (by rw[T_n,T_n]) (fun t ht=>W2 t (sh _ (ow.2 ⟨.tmp t,ht,by simp⟩))) adT adU,g3,fun k hk vv=> ?_⟩
     ·
      have Su:∃j,k=(it.o.dst.getD 1000000,j)/\j<1024/\it.r.eo≠[]:=by
       simp only[eo,l_] at hk
       obtain⟨⟨j,e⟩,hj,rfl⟩:=hk
       unfold xe at g5
       have:=sk.1 g5 _ hj
       exact⟨j,rfl,Nat.blt_eq▸this,(fun e=>by rw[e] at hj;cases hj)⟩
      obtain⟨j,rfl,hj,fg⟩:=Su
      have hkw:((it.o.dst.getD 1000000,j):Key)∈it.r.news (it.o.dst.getD 1000000):=hk
      rcases Z5 vv with vv|⟨m,x,hm,Bz,hx⟩
      ·have:=hN _ vv (by
        cases hd:it.o.dst with
        |none=>exact .inr rfl
        |some d=>
         refine .inl ?_
         simp only[Gm,BB,ow]
         exact⟨it.o,by have:=hoi;rw[<-Mt] at this;exact Gn this,by simp[hd]⟩)
       simp only at this
       omega
      ·simp only[vf] at Bz
       rcases Nat.lt_trichotomy m i with EB|pK|hgt
       ·
        unfold sW at g4
        have hie:it.r.eo.isEmpty=false:=by cases ha:it.r.eo with
         |nil=>exact absurd ha fg
         |cons _ _=>rfl
        rw[hie,Gl,sk] at g4
        have EA:n_ m x∈yo 0 (items.take i) []:=Rx.2 (.inr ⟨m,x,by rw[qa,if_pos EB];exact hm,by simp⟩)
        have:=g4 _ EA
        simp only[ra,n_] at this
        rw[<-wl,vg] at this
        exact this ⟨_,sh _ (rb _ hx),by simp⟩
       ·subst pK
        rw[hDi] at Bz;cases Bz
       ·exact(Ss m x hm hgt Bz).n _ hkw hx
   ·refine ky.congr ?_
    have h1:=Ua (D:=D) (i:=i) (it:=it) (items:=items) (j:=0) (σ:=σ) Ml (by simpa using hDi) (fun m y hm him Bz=>by
     have:=Ss m y hm him (by simpa using Bz)
     exact⟨fun d hd=>(this.d d hd).2,fun k hk=>(this.w k hk).2⟩)
    refine h1.trans ?_
    rw[Vl (D':=fun k=>(fK.setIfInBounds i true).getD k false)]
    ·exact BD.refl _
    ·intro k hk
     simp only[vf]
     rw[<-hDd]
     simp only
     cases hb:Nat.beq k i
     ·rw[QT,getD_set_ne]
      intro e
      subst e
      simp at hb
     ·have:=nc hb
      subst this
      rw[Bool.or_true,QY,Array.getElem?_setIfInBounds_self_of_lt (by omega)]
      rfl
   ·intro j hj o' So e he hb
    by_cases Xa:j=i
    ·subst Xa
     rw[ho] at So
     cases So
     exact getD_set_true (Xd e he hb)
    ·rw[getD_set_ne false (Ne.symm Xa)] at hj
     exact getD_set_true (iH j hj o' So e he hb)
   ·have hli:i<fK.size:=by omega
    have hb:fK[i]=false:=by
     rw[QY,zdk hli] at hui
     simpa using hui
    rw[Array.toList_setIfInBounds,List.count_set (by simpa using hli)]
    have e1:(fK.toList[i]'(by simpa using hli)==false)=true:=by simp[hb]
    have e2:(true==false)=false:=rfl
    rw[e1,e2]
    have:false∈fK.toList:=by rw[<-hb];exact Array.mem_toList_iff.2 (Array.getElem_mem hli)
    have:=List.count_pos_iff.2 this
    simp only[if_true,xt,if_false]
    omega
end AM
