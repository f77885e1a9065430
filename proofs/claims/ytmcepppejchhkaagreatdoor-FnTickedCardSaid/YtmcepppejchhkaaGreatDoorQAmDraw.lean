import Derived.Test.YtmcepppejchhkaaGreatDoorQAmRegion
namespace AM
set_option linter.unusedVariables false
open Go
variable{U:lQ}{E:Env U}{pm:Pm}
variable{F F':Nat->Prop}{kv:Key->Value}{fp:Key->List Nat}{σ τ:ak U}{a:Act}{w w':World}
def T(D:Nat->Bool):Nat->List (Item U)->ak U->ak U
 |_,[],σ=>σ
 |j,it::r,σ=>T D (j+1) r (bif D j then apply it.o it.r σ else σ)
theorem T_n{D:Nat->Bool}:∀{items:List (Item U)}{j:Nat}{σ:ak U},(T D j items σ).n=σ.n
 |[],_,_=>rfl
 |it::r,j,σ=>by
  simp only[T]
  rw[T_n]
  cases D j<;>rfl
theorem Zr{D D':Nat->Bool}{s:Nat}:∀{items:List (Item U)}{j:Nat}{σ τ:ak U},(∀(k:Nat)(it:Item U),items[k]? =some it->D (j+k)≠D' (j+k)->it.o.dst≠some s)->σ.get s=τ.get s->
  (T D j items σ).get s=(T D' j items τ).get s
 |[],_,_,_,_,h=>h
 |it::r,j,σ,τ,hd,h=>by
  simp only[T]
  refine Zr (fun k yH hk fc=>hd (k+1) yH (by simpa using hk) (by rw[show j+(k+1)=j+1+k by omega];exact fc)) ?_
  have h0:=hd 0 it rfl
  simp only[Kj] at h0
  have yN:∀{ρ:ak U},it.o.dst≠some s->(apply it.o it.r ρ).get s=ρ.get s:=by
   intro ρ fc
   rw[H2]
   cases kM:it.o.dst with
   |none=>rfl
   |some d=>simp only;rw[if_neg (fun e=>fc (by rw[kM,e]))]
  cases h1:D j<;>cases h2:D' j<;>simp only[cond_true,cond_false]
  ·exact h
  ·rw[yN (h0 (by rw[h1,h2];simp)),h]
  ·rw[yN (h0 (by rw[h1,h2];simp)),h]
  ·rw[H2,H2,h]
theorem Zt{D D':Nat->Bool}{k:Key}:∀{items:List (Item U)}{j:Nat}{σ τ:ak U},(∀(m:Nat)(it:Item U),items[m]? =some it->D (j+m)≠D' (j+m)->k∉it.r.writes (it.o.dst.getD 1000000))->σ.bP k=τ.bP k->
  (T D j items σ).bP k=(T D' j items τ).bP k
 |[],_,_,_,_,h=>h
 |it::r,j,σ,τ,hd,h=>by
  simp only[T]
  refine Zt (fun m yH hm fc=>hd (m+1) yH (by simpa using hm) (by rw[show j+(m+1)=j+1+m by omega];exact fc)) ?_
  have h0:=hd 0 it rfl
  simp only[Kj] at h0
  have yN:∀{ρ:ak U},k∉it.r.writes (it.o.dst.getD 1000000)->(apply it.o it.r ρ).bP k=ρ.bP k:=by
   intro ρ fc
   rw[M6,if_neg (fun e=>fc (aar.1 e))]
  cases h1:D j<;>cases h2:D' j<;>simp only[cond_true,cond_false]
  ·exact h
  ·rw[yN (h0 (by rw[h1,h2];simp)),h]
  ·rw[yN (h0 (by rw[h1,h2];simp)),h]
  ·rw[M6,M6,h]
theorem akW{r:cq U}{d:Nat}{k:Key}(h:k∉r.writes d):(r.jW.map (·.1)).any (iZ k)=false:=by
 rw[<-wI,tf]
 exact fun e=>h (qM _ e)
theorem aeb{D D':Nat->Bool}{k:Key}:∀{items:List (Item U)}{j:Nat}{σ τ:ak U},(∀(m:Nat)(it:Item U),items[m]? =some it->D (j+m)≠D' (j+m)->k∉it.r.writes (it.o.dst.getD 1000000))->σ.aS.any (iZ k)=τ.aS.any (iZ k)->
  (T D j items σ).aS.any (iZ k)=(T D' j items τ).aS.any (iZ k)
 |[],_,_,_,_,h=>h
 |it::r,j,σ,τ,hd,h=>by
  simp only[T]
  refine aeb (fun m yH hm fc=>hd (m+1) yH (by simpa using hm) (by rw[show j+(m+1)=j+1+m by omega];exact fc)) ?_
  have h0:=hd 0 it rfl
  simp only[Kj] at h0
  have yN:∀{ρ:ak U},k∉it.r.writes (it.o.dst.getD 1000000)->(apply it.o it.r ρ).aS.any (iZ k)=ρ.aS.any (iZ k):=by
   intro ρ fc
   rw[Py,akW fc];rfl
  cases h1:D j<;>cases h2:D' j<;>simp only[cond_true,cond_false]
  ·exact h
  ·rw[yN (h0 (by rw[h1,h2];simp)),h]
  ·rw[yN (h0 (by rw[h1,h2];simp)),h]
  ·rw[Py,Py,h]
theorem Zs{D:Nat->Bool}:∀{items:List (Item U)}{j:Nat}{σ τ:ak U},B5 σ τ->B5 (T D j items σ) (T D j items τ)
 |[],_,_,_,h=>h
 |it::r,j,σ,τ,h=>by
  simp only[T]
  refine Zs ?_
  cases D j
  ·exact h
  ·exact h.apply _ _
theorem alK{o:Oper}{r:cq U}{k:Key}(h:Names (apply o r σ) k):k∈r.names\/Names σ k:=by
 rcases h with⟨s,x,hs,hk⟩|⟨k',cs,he,x,hx,hk⟩
 ·rw[H2] at hs
  cases hd:o.dst with
  |none=>rw[hd] at hs;exact .inr (.inl ⟨s,x,hs,hk⟩)
  |some d=>
   rw[hd] at hs
   simp only at hs
   split at hs
   ·left
    unfold cq.names
    rw[hs]
    exact rW _ (rW _ hk)
   ·exact .inr (.inl ⟨s,x,hs,hk⟩)
 ·rw[M6] at he
  split at he
  ·left
   have hm:=Gq he
   have hn:k∈(iX.box cs:iX U).names:=o8.2 ⟨x,hx,hk⟩
   simp only[lays,p8,jI,mz,pE,gI] at hm
   unfold cq.names
   rcases hm with(⟨y,h1,h2,h3⟩|⟨y,h1,h2,h3⟩)|⟨y,h1,h2,h3⟩
   ·exact rW _ (qM _ (o8.2 ⟨y,h1,by obtain⟨y1,y2⟩:=y;simp only at h3;subst h3;exact hn⟩))
   ·exact qM _ (o8.2 ⟨y,h1,by obtain⟨y1,y2⟩:=y;simp only at h3;subst h3;exact hn⟩)
   ·cases h3
  ·exact .inr (.inr ⟨k',cs,he,x,hx,hk⟩)
theorem aaH{D:Nat->Bool}{k:Key}:∀{items:List (Item U)}{j:Nat}{σ:ak U},Names (T D j items σ) k->Names σ k\/∃m it,items[m]? =some it/\D (j+m)=true/\k∈it.r.names
 |[],_,_,h=> .inl h
 |it::r,j,σ,h=>by
  simp only[T] at h
  rcases aaH h with h|⟨m,yH,h1,h2,h3⟩
  ·cases hd:D j<;>rw[hd] at h<;>simp only[cond_true,cond_false] at h
   ·exact .inl h
   ·rcases alK h with h|h
    ·exact .inr ⟨0,it,rfl,hd,h⟩
    ·exact .inl h
  ·exact .inr ⟨m+1,yH,by simpa using h1,by rw[show j+(m+1)=j+1+m by omega];exact h2,h3⟩
theorem O8{D:Nat->Bool}:∀{items:List (Item U)}{j:Nat}{σ:ak U},(∀k,k<items.length->D (j+k)=true)->T D j items σ=xx items σ
 |[],_,_,_=>rfl
 |it::r,j,σ,h=>by
  simp only[T,xx]
  have h0:=h 0 (by simp)
  simp only[Kj] at h0
  rw[h0]
  exact O8 (fun k hk=>by rw[show j+1+k=j+(k+1) by omega];exact h (k+1) (by simpa using hk))
theorem Kf{D:Nat->Bool}:∀{items:List (Item U)}{j:Nat}{σ:ak U},(∀k,k<items.length->D (j+k)=false)->T D j items σ=σ
 |[],_,_,_=>rfl
 |it::r,j,σ,h=>by
  simp only[T]
  have h0:=h 0 (by simp)
  simp only[Kj] at h0
  rw[h0]
  exact Kf (fun k hk=>by rw[show j+1+k=j+(k+1) by omega];exact h (k+1) (by simpa using hk))
theorem Vy{D D':Nat->Bool}:∀{items:List (Item U)}{j:Nat}{σ:ak U},(∀k,k<items.length->D (j+k)=D' (j+k))->T D j items σ=T D' j items σ
 |[],_,_,_=>rfl
 |it::r,j,σ,h=>by
  simp only[T]
  have h0:=h 0 (by simp)
  simp only[Kj] at h0
  rw[h0]
  exact Vy (fun k hk=>by rw[show j+1+k=j+(k+1) by omega];exact h (k+1) (by simpa using hk))
theorem Q8{D:Nat->Bool}:∀{items:List (Item U)}{i j:Nat}{σ:ak U},(∀k,D k=decide (k<j+i))->xx (items.take i) σ=T D j items σ
 |[],i,j,σ,_=>by cases i<;>rfl
 |it::r,0,j,σ,h=>by
  rw[List.take_zero]
  exact(Kf (fun k _=>by rw[h];simp)).symm
 |it::r,i+1,j,σ,h=>by
  simp only[List.take_succ_cons,xx,T]
  rw[show D j=true by rw[h];simp]
  exact Q8 (fun k=>by rw[h,show j+(i+1)=j+1+i by omega])
theorem Uk{ops:List Oper}:∀{items:List (Item U)}{i j:Nat}{σ:ak U}{rs:List Rec}{it:Item U},W6 E ops i items σ rs->items[j]? =some it->ace E ops it (xx (items.take j) σ) (yZ i (items.take j) rs)
 |[],_,_,_,_,_,_,h=>by simp at h
 |yH::r,i,0,σ,rs,it,h,hj=>by
  simp only[vF,gI] at hj
  subst hj
  exact h.1
 |yH::r,i,j+1,σ,rs,it,h,hj=>by
  simp only[List.take_succ_cons,xx,yZ]
  exact Uk h.2 (by simpa using hj)
theorem Rz{x:Rec}:∀{items:List (Item U)}{i:Nat}{rs:List Rec},x∈yZ i items rs↔x∈rs\/∃m it,items[m]? =some it/\x=oz (i+m) it
 |[],i,rs=>by simp[yZ]
 |it::r,i,rs=>by
  simp only[yZ]
  rw[Rz]
  simp only[kc]
  constructor
  ·rintro((h|h)|⟨m,yH,h1,h2⟩)
   ·exact .inr ⟨0,it,rfl,by simpa using h⟩
   ·exact .inl h
   ·exact .inr ⟨m+1,yH,by simpa using h1,by rw[h2,show i+(m+1)=i+1+m by omega]⟩
  ·rintro(h|⟨m,yH,h1,h2⟩)
   ·exact .inl (.inr h)
   ·cases m with
    |zero=>simp only[vF,gI] at h1;subst h1;exact .inl (.inl (by simpa using h2))
    |succ m=>exact .inr ⟨m,yH,by simpa using h1,by rw[h2,show i+(m+1)=i+1+m by omega]⟩
theorem Uj{D:Nat->Bool}{i:Nat}{it:Item U}:∀{items:List (Item U)}{j:Nat}{σ:ak U},items[i]? =some it->D (j+i)=false->
  (∀(m:Nat)(yH:Item U),items[m]? =some yH->i<m->D (j+m)=true->(∀d,it.o.dst=some d->yH.o.dst≠some d)/\∀k∈it.r.writes (it.o.dst.getD 1000000),k∉yH.r.writes (yH.o.dst.getD 1000000))->
  B5 (apply it.o it.r (T D j items σ)) (T (fun k=>D k||Nat.beq k (j+i)) j items σ):=by
 have late:∀{items:List (Item U)}{j:Nat}{σ:ak U},(∀(m:Nat)(yH:Item U),items[m]? =some yH->D (j+m)=true->(∀d,it.o.dst=some d->yH.o.dst≠some d)/\∀k∈it.r.writes (it.o.dst.getD 1000000),k∉yH.r.writes (yH.o.dst.getD 1000000))->
   B5 (apply it.o it.r (T D j items σ)) (T D j items (apply it.o it.r σ)):=by
  intro items
  induction items with
  |nil=>intro j σ _;exact B5.refl _
  |cons yH r ih=>
   intro j σ h
   simp only[T]
   refine(ih (fun m x hm hD=>h (m+1) x (by simpa using hm) (by rw[show j+(m+1)=j+1+m by omega];exact hD))).trans (Zs ?_)
   cases hd:D j<;>simp only[cond_true,cond_false]
   ·exact B5.refl _
   ·obtain⟨h1,h2⟩:=h 0 yH rfl (by simpa using hd)
    exact(anh h1 h2).symm
 induction i with
 |zero=>
  intro items j σ hi hD h
  cases items with
  |nil=>simp at hi
  |cons yH r=>
   simp only[vF,gI] at hi
   subst hi
   simp only[T,Kj] at hD⊢
   rw[hD]
   simp only[cond_false,GJ]
   rw[show Nat.beq j j=true by simp]
   simp only[cond_true]
   refine(late (fun m x hm B0=>h (m+1) x (by simpa using hm) (by omega) (by rw[show j+(m+1)=j+1+m by omega];exact B0))).trans ?_
   rw[Vy (D':=fun k=>D k||Nat.beq k j)]
   ·exact B5.refl _
   ·intro k _
    have:Nat.beq (j+1+k) j=false:=by
     cases hb:Nat.beq (j+1+k) j
     ·rfl
     ·have:=nF hb;omega
    simp[this]
 |succ i ih=>
  intro items j σ hi hD h
  cases items with
  |nil=>simp at hi
  |cons yH r=>
   simp only[T]
   have hj:Nat.beq j (j+(i+1))=false:=by
    cases hb:Nat.beq j (j+(i+1))
    ·rfl
    ·have:=nF hb;omega
   rw[hj,QJ]
   have:=ih (items:=r) (j:=j+1) (σ:=bif D j then apply yH.o yH.r σ else σ) (by simpa using hi) (by rw[show j+1+i=j+(i+1) by omega];exact hD)
    (fun m x hm gy B0=>h (m+1) x (by simpa using hm) (by omega) (by rw[show j+(m+1)=j+1+m by omega];exact B0))
   rw[show j+(i+1)=j+1+i by omega]
   exact this
theorem Vu(m i:Nat):zj m i=m.testBit i:=by
 have h:zj m i=Nat.beq ((m>>>i)&&&1) 1:=rfl
 rw[h,Nat.and_one_is_mod,Nat.shiftRight_eq_div_pow,Nat.testBit_eq_decide_div_mod_eq]
 rw[Gd,HQ,decide_eq_true_eq]
theorem ad3{a b i:Nat}(h:zj (Nat.lor a b) i=true):zj a i=true\/zj b i=true:=by
 rw[Vu] at h⊢
 rw[Vu]
 have h:(a|||b).testBit i=true:=h
 rw[Nat.testBit_or,Gc] at h
 exact h
theorem am9{k i:Nat}(h:zj (Nat.shiftLeft 1 k) i=true):i=k:=by
 rw[Vu] at h
 have h:(1<<<k).testBit i=true:=h
 rw[Nat.shiftLeft_eq,QU,Nat.testBit_two_pow] at h
 exact(of_decide_eq_true h).symm
theorem aaD{i:Nat}:zj 0 i=false:=by rw[Vu,Nat.zero_testBit]
theorem ad8{D:Nat->Prop}{acc:List Nat}:∀(es:List Edge)(m:Nat),(∀i,zj m i=true->D i)->(∀e∈es,Region.binds .any e=true->D e.on/\∀i,zj (acc.getD e.on 0) i=true->D i)->
  ∀i,zj (es.foldl (fun m e=>bif Region.binds .any e then Nat.lor m (Nat.lor (Nat.shiftLeft 1 e.on) (acc.getD e.on 0)) else m) m) i=true->D i
 |[],m,h,_,i,hi=>h i hi
 |e::es,m,h,he,i,hi=>by
  rw[List.foldl_cons] at hi
  refine ad8 es _ (fun j hj=> ?_) (fun e' h'=>he e' (fF _ h')) i hi
  rw[iw] at hj
  split at hj
  ·rename_i hb
   obtain⟨h1,h2⟩:=he e iH hb
   rcases ad3 hj with hj|hj
   ·exact h j hj
   ·rcases ad3 hj with hj|hj
    ·rw[am9 hj];exact h1
    ·exact h2 j hj
  ·exact h j hj
theorem ad7{D:Nat->Prop}:∀{ops:List Oper}{acc:List Nat}{n:Nat},acc.length=n->(∀j,j<n->D j->∀i,zj (acc.getD j 0) i=true->D i)->
  (∀(m:Nat)(o:Oper),ops[m]? =some o->D (n+m)->∀e∈o.after.toList,Region.binds .any e=true->D e.on)->
  ∀j,D j->∀i,zj ((ops.foldl (fun acc o=>acc++[o.after.toList.foldl (fun m e=>bif Region.binds .any e then Nat.lor m (Nat.lor (Nat.shiftLeft 1 e.on) (acc.getD e.on 0)) else m) 0]) acc).getD j 0) i=true->D i
 |[],acc,n,hl,ha,_,j,hj,i,hi=>by
  rcases pt j n with h|h
  ·exact ha j h hj i hi
  ·simp only[List.foldl_nil] at hi
   rw[eV,ot (by omega)] at hi
   simp[aaD] at hi
 |o::ops,acc,n,hl,ha,ho,j,hj,i,hi=>by
  simp only[List.foldl_cons] at hi
  refine ad7 (ops:=ops) (n:=n+1) (by simp[hl]) (fun j' uA hD i' qH=> ?_) (fun m o' hm hD=>ho (m+1) o' (by simpa using hm) (by rw[show n+(m+1)=n+1+m by omega];exact hD)) j hj i hi
  have gd:∀m i,zj (acc.getD m 0) i=true->D m->D i:=by
   intro m i hi hD
   rcases pt m n with h|h
   ·exact ha m h hD i hi
   ·rw[eV,ot (by omega)] at hi
    simp[aaD] at hi
  rcases pt j' n with h|h
  ·rw[K3 (by omega)] at qH
   exact ha j' h hD i' qH
  ·have:j'=n:=by omega
   subst this
   rw[Pw (by omega),hl,Zw] at qH
   simp only[List.getD_cons_zero] at qH
   refine ad8 (D:=D) (acc:=acc) o.after.toList 0 (fun i hi=>by rw[aaD] at hi;cases hi) (fun e he hb=> ?_) i' qH
   have hon:D e.on:=ho 0 o rfl (by simpa using hD) e he hb
   exact⟨hon,fun i hi=>gd e.on i hi hon⟩
theorem aam{x y:List Key}(h:meet x y=false):∀k∈x,k∉y:=by
 intro k hk hy
 have:meet x y=true:=vD.2 ⟨k,hk,tf.2 hy⟩
 rw[h] at this;cases this
structure HP(ops:List Oper)(x y:Item U):Prop where
 w:∀k∈x.r.writes (x.o.dst.getD 1000000),k∉y.ks/\k∉y.r.writes (y.o.dst.getD 1000000)
 r:∀k∈y.r.writes (y.o.dst.getD 1000000),k∉x.ks
 n:∀k∈x.r.news (x.o.dst.getD 1000000),k∉y.r.names
 d:∀d,x.o.dst=some d->d∉slotsOf ops y.o/\y.o.dst≠some d
 e:∀d,y.o.dst=some d->d∉slotsOf ops x.o
theorem HP.of{ops:List Oper}{x y:Item U}{i j:Nat}(h:IW ops x.o y.o (oz i x) (oz j y)=true):HP ops x y:=by
 unfold IW oz at h
 simp only[cN,qK] at h
 obtain⟨⟨⟨⟨h1,h2⟩,h5⟩,h3⟩,h4⟩:=h
 refine⟨fun k hk=> ?_,aam h2,aam h5,fun d hd=> ?_,fun d hd=> ?_⟩
 ·have:=aam h1 k hk
  simp only[jI,not_or] at this⊢
  exact this
 ·rw[hd] at h3
  simp only[cN,qK] at h3
  refine⟨fun hm=> ?_,fun he=> ?_⟩
  ·have:(slotsOf ops y.o).any (Nat.beq d)=true:=vD.2 ⟨d,hm,by simp⟩
   rw[h3.1] at this;cases this
  ·rw[he] at h3;simp at h3
 ·rw[hd] at h4
  simp only[qK] at h4
  intro hm
  have:(slotsOf ops x.o).any (Nat.beq d)=true:=vD.2 ⟨d,hm,by simp⟩
  rw[h4] at this;cases this
theorem W6.Xi{ops:List Oper}{items:List (Item U)}{σ:ak U}(h:W6 E ops 0 items σ []){j:Nat}{it:Item U}(hj:items[j]? =some it):
  ace E ops it (T (fun k=>decide (k<j)) 0 items σ) (yZ 0 (items.take j) []):=by
 have:=Uk h hj
 rwa[Q8 (D:=fun k=>decide (k<j)) (j:=0) (fun k=>by simp)] at this
theorem akV{ops:List Oper}{o:Oper}(h:∀t∈AG ops o,σ.get t=τ.get t):iJ ops o σ=iJ ops o τ:=by
 unfold iJ
 unfold AG at h
 split
 ·rfl
 ·rename_i g want hg
  rw[hg] at h
  simp only at h
  have:((ops[g]?).bind (·.dst)).bind σ.get=((ops[g]?).bind (·.dst)).bind τ.get:=by
   cases hq:ops[g]? with
   |none=>rfl
   |some q=>
    rw[hq] at h
    cases hd:q.dst with
    |none=>simp[hd]
    |some d=>simp only[Option.bind_some,hd];exact h d (by simp[hd])
  rw[this]
theorem aau{listed:Array Bool}{k:Nat}(h:k<listed.size)(d d':Bool):listed.getD k d=listed.getD k d':=by
 simp[QZ,h]
theorem amN(hE:E.Good){ops:Array Oper}{items:List (Item U)}{σ:ak U}(jz:W6 E ops.toList 0 items σ [])(xr:items.map (·.o)=ops.toList)(SJ:NF ops.toList (yZ 0 items [])=true)
  (hN:∀k,Names σ k->(k.1∈B3 ops.toList\/k.1=1000000)->1024<=k.2) {Q:Exit->Act->World->Prop} (sn:∀F kv fp a w,cR E pm F kv fp (xx items σ) a w->Q .normal a w):
  ∀(SY:Nat)(listed:Array Bool)(F:Nat->Prop)(kv:Key->Value)(fp:Key->List Nat)(a:Act)(w:World),cR E pm F kv fp (T (fun k=>listed.getD k false) 0 items σ) a w->listed.size=ops.size->
   (∀j,listed.getD j false=true->∀o,ops[j]? =some o->∀e∈o.after,Region.binds .any e=true->listed.getD e.on false=true)->listed.toList.count false<=SY->
   wpAny E.P .any ops Q SY listed a w:=by
 have hlen:items.length=ops.size:=by simpa using congrArg List.length xr
 have sR:∀(j:Nat)(it:Item U),items[j]? =some it->ops[j]? =some it.o:=by
  intro j it hj
  have:(items.map (·.o))[j]? =some it.o:=by rw[nS,hj];rfl
  rw[xr] at this
  simpa using this
 unfold NF at SJ
 simp only[cN] at SJ
 obtain⟨aa6,Xw⟩:=SJ
 have BB:∀(j:Nat)(o:Oper),ops[j]? =some o->∀e∈o.after,Region.binds .any e=true->e.on<j:=by
  intro j o hj e he hb
  unfold Xh at aa6
  rw[sP] at aa6
  have hm:(o,j)∈ops.toList.zipIdx:=by
   rw[List.mem_zipIdx_iff_getElem?]
   simpa using hj
  have:=sP.1 (aa6 _ hm) e (by simpa using he)
  rw[hb] at this
  exact Nat.blt_eq▸this
 have yN:∀{D:Nat->Prop},(∀j,D j->∀o,ops[j]? =some o->∀e∈o.after,Region.binds .any e=true->D e.on)->∀(i j:Nat)(x y:Item U),items[i]? =some x->items[j]? =some y->i<j->D j->¬D i->HP ops.toList x y:=by
  intro D hD i j x y hi hj Gh hDj hDi
  rw[sP] at Xw
  have h1:=Xw (oz j y) (Rz.2 (.inr ⟨j,y,hj,by simp⟩))
  rw[sP] at h1
  have h2:=h1 (oz i x) (Rz.2 (.inr ⟨i,x,hi,by simp⟩))
  simp only[Gc,qK] at h2
  rcases h2 with(h2|h2)|h2
  ·have:Nat.blt i j=true:=by simpa using Gh
   simp only[oz] at h2
   rw[this] at h2;cases h2
  ·exfalso
   refine hDi (ad7 (D:=D) (acc:=[]) (n:=0) rfl (fun j hj=>by omega) (fun m o hm B0 e he hb=> ?_) j hDj i h2)
   exact hD m (by simpa using B0) o (by simpa using hm) e (by simpa using he) hb
  ·have e1:ops.toList[(oz i x).i]? =some x.o:=by simpa[oz] using sR i x hi
   have e2:ops.toList[(oz j y).i]? =some y.o:=by simpa[oz] using sR j y hj
   rw[e1,e2] at h2
   exact HP.of h2
 intro SY
 induction SY with
 |zero=>
  intro listed F kv fp a w hs vQ ix anX
  have GG:∀k,k<items.length->listed.getD k false=true:=by
   intro k hk
   have cY:k<listed.size:=by omega
   rw[QZ,zdk cY]
   simp only[Gi]
   cases hb:listed[k] with
   |true=>rfl
   |false=>
    exfalso
    have:false∈listed.toList:=by rw[<-hb];exact Array.mem_toList_iff.2 (Array.getElem_mem cY)
    have:=List.count_pos_iff.2 this
    omega
  refine⟨?_,sn F kv fp a w ?_⟩
  ·rw[zdm]
   intro i hi
   obtain⟨h0,o,ho,_⟩:=mem_ready.1 hi
   have gy:i<ops.size:=(Array.getElem?_eq_some_iff.1 ho).1
   rw[aau (by omega) true false,GG i (by omega)] at h0
   cases h0
  ·rw[<-O8 (D:=fun k=>listed.getD k false) (j:=0) (fun k hk=>by simpa using GG k hk)];exact hs
 |succ SY ih=>
  intro listed F kv fp a w hs vQ ix anX
  refine⟨fun Np=> ?_,fun i hi=> ?_⟩
  ·have GG:∀k,k<items.length->listed.getD k false=true:=by
    intro k
    induction k using Nat.strongRecOn with
    |ind k ihk=>
     intro hk
     cases hb:listed.getD k false with
     |true=>rfl
     |false=>
      exfalso
      have gy:k<ops.size:=by omega
      have hr:k∈Region.ready .any ops listed:=by
       refine mem_ready.2 ⟨by rw[aau (by omega) true false];exact hb,ops[k],zdk gy,fun e he hbe=> ?_⟩
       have:=BB k ops[k] (zdk gy) e he hbe
       exact ihk e.on this (by omega)
      rw[Np] at hr;cases hr
   refine sn F kv fp a w ?_
   rw[<-O8 (D:=fun k=>listed.getD k false) (j:=0) (fun k hk=>by simpa using GG k hk)];exact hs
  ·obtain⟨h0,o,ho,XK⟩:=mem_ready.1 hi
   have gy:i<ops.size:=(Array.getElem?_eq_some_iff.1 ho).1
   have hui:listed.getD i false=false:=by rw[aau (by omega) false true];exact h0
   obtain⟨it,ME⟩:∃it,items[i]? =some it:=⟨_,fE (by omega)⟩
   have hoi:ops[i]? =some it.o:=sR i it ME
   have:o=it.o:=by rw[ho] at hoi;exact ZA hoi
   subst this
   generalize hDd:(fun k=>listed.getD k false)=D at hs
   have hDi:D i=false:=by rw[<-hDd];exact hui
   have Wh:∀j,D j=true->∀o,ops[j]? =some o->∀e∈o.after,Region.binds .any e=true->D e.on=true:=by rw[<-hDd];exact ix
   have Sw:∀(m:Nat)(y:Item U),items[m]? =some y->i<m->D m=true->HP ops.toList it y:=fun m y hm him B0=>
    yN (D:=fun k=>D k=true) Wh i m it y ME hm him B0 (by simp[hDi])
   have abA:∀(m:Nat)(x:Item U),items[m]? =some x->m<i->D m=false->HP ops.toList x it:=fun m x hm hmi B0=>
    yN (D:=fun k=>D k=true\/k=i) (by
     intro j hj o' Ss e he hb
     rcases hj with hj|hj
     ·exact .inl (Wh j hj o' Ss e he hb)
     ·subst hj
      rw[ho] at Ss
      cases Ss
      left
      rw[<-hDd]
      exact XK e he hb) m i x it hm ME hmi (.inr rfl) (by simp[B0];omega)
   have SK:∀(m:Nat)(x:Item U),items[m]? =some x->D (0+m)≠decide (0+m<i)->(∀d,x.o.dst=some d->d∉slotsOf ops.toList it.o)/\∀k∈x.r.writes (x.o.dst.getD 1000000),k∉it.ks:=by
    intro m x hm fc
    simp only[vB] at fc
    rcases Nat.lt_trichotomy m i with E8|qc|hgt
    ·have B0:D m=false:=by
      cases hb:D m
      ·rfl
      ·exact absurd (by rw[hb];simp[E8]) fc
     have:=abA m x hm E8 B0
     exact⟨fun d hd=>(this.d d hd).1,fun k hk=>(this.w k hk).1⟩
    ·subst qc
     exact absurd (by rw[hDi];simp) fc
    ·have B0:D m=true:=by
      cases hb:D m
      ·exact absurd (by rw[hb];simp;omega) fc
      ·rfl
     have:=Sw m x hm hgt B0
     exact⟨fun d hd=>this.e d hd,fun k hk=>this.r k hk⟩
   obtain⟨AD,Uz⟩:=jz.Xi ME
   have Xu:∀t∈slotsOf ops.toList it.o,(T (fun k=>decide (k<i)) 0 items σ).get t=(T D 0 items σ).get t:=fun t ht=>
    (Zr (fun m x hm fc e=>((SK m x hm fc).1 t e) ht) rfl).symm
   have aeG:∀k∈it.ks,(T (fun k=>decide (k<i)) 0 items σ).bP k=(T D 0 items σ).bP k:=fun k hk=>
    (Zt (fun m x hm fc e=>(SK m x hm fc).2 k e hk) rfl).symm
   have aeH:∀k∈it.ks,(T (fun k=>decide (k<i)) 0 items σ).aS.any (iZ k)=(T D 0 items σ).aS.any (iZ k):=fun k hk=>
    (aeb (fun m x hm fc e=>(SK m x hm fc).2 k e hk) rfl).symm
   have hw:iJ ops.toList it.o (T D 0 items σ)=iJ ops.toList it.o (T (fun k=>decide (k<i)) 0 items σ):=
    akV (fun t ht=>(Xu t (qM _ ht)).symm)
   have Ck:rl (T D 0 items σ) it.o=true:=by
    unfold rl at AD⊢
    rw[T_n] at AD⊢
    exact AD
   refine adF hE hs hoi Ck ?_ (fun F' kv' fp' a' w' kE=>ih (listed.setIfInBounds i true) F' kv' fp' a' w' ?_ (by simp[vQ]) ?_ ?_)
   ·rcases Uz with⟨g1,g2,g3⟩|⟨g1,g2,g3,g4,g5⟩
    ·exact .inl ⟨by rw[hw];exact g1,g2⟩
    ·refine .inr ⟨by rw[hw];exact g1,g2.imp fun b g2=>ak6 g2 (by rw[T_n,T_n]) (fun t ht=>Xu t (rW _ (o8.2 ⟨.tmp t,ht,by simp⟩))) aeG aeH,g3,fun k hk vS=> ?_⟩
     ·
      have Sy:∃j,k=(it.o.dst.getD 1000000,j)/\j<1024/\it.r.dZ≠[]:=by
       simp only[dZ,mz] at hk
       obtain⟨⟨j,e⟩,hj,rfl⟩:=hk
       unfold xD at g5
       have:=sP.1 g5 _ hj
       exact⟨j,rfl,Nat.blt_eq▸this,(fun e=>by rw[e] at hj;cases hj)⟩
      obtain⟨j,rfl,hj,fc⟩:=Sy
      have hkw:((it.o.dst.getD 1000000,j):Key)∈it.r.news (it.o.dst.getD 1000000):=hk
      rcases aaH vS with vS|⟨m,x,hm,B0,hx⟩
      ·have:=hN _ vS (by
        cases hd:it.o.dst with
        |none=>exact .inr rfl
        |some d=>
         refine .inl ?_
         simp only[Gi,B3,o8]
         exact⟨it.o,by have:=hoi;rw[<-MK] at this;exact GK this,by simp[hd]⟩)
       simp only at this
       omega
      ·simp only[vB] at B0
       rcases Nat.lt_trichotomy m i with E8|qc|hgt
       ·
        unfold tD at g4
        have hie:it.r.dZ.isEmpty=false:=by cases ha:it.r.dZ with
         |nil=>exact absurd ha fc
         |cons _ _=>rfl
        rw[hie,GJ,sP] at g4
        have E7:oz m x∈yZ 0 (items.take i) []:=Rz.2 (.inr ⟨m,x,by rw[qy,if_pos E8];exact hm,by simp⟩)
        have:=g4 _ E7
        simp only[qK,oz] at this
        rw[<-wI,vD] at this
        exact this ⟨_,rW _ (qM _ hx),by simp⟩
       ·subst qc
        rw[hDi] at B0;cases B0
       ·exact(Sw m x hm hgt B0).n _ hkw hx
   ·refine kE.congr ?_
    have h1:=Uj (D:=D) (i:=i) (it:=it) (items:=items) (j:=0) (σ:=σ) ME (by simpa using hDi) (fun m y hm him B0=>by
     have:=Sw m y hm him (by simpa using B0)
     exact⟨fun d hd=>(this.d d hd).2,fun k hk=>(this.w k hk).2⟩)
    refine h1.trans ?_
    rw[Vy (D':=fun k=>(listed.setIfInBounds i true).getD k false)]
    ·exact B5.refl _
    ·intro k hk
     simp only[vB]
     rw[<-hDd]
     simp only
     cases hb:Nat.beq k i
     ·rw[QJ,getD_set_ne]
      intro e
      subst e
      simp at hb
     ·have:=nF hb
      subst this
      rw[Bool.or_true,QZ,Array.getElem?_setIfInBounds_self_of_lt (by omega)]
      rfl
   ·intro j hj o' Ss e he hb
    by_cases XH:j=i
    ·subst XH
     rw[ho] at Ss
     cases Ss
     exact getD_set_true (XK e he hb)
    ·rw[getD_set_ne false (Ne.symm XH)] at hj
     exact getD_set_true (ix j hj o' Ss e he hb)
   ·have hli:i<listed.size:=by omega
    have hb:listed[i]=false:=by
     rw[QZ,zdk hli] at hui
     simpa using hui
    rw[Array.toList_setIfInBounds,List.count_set (by simpa using hli)]
    have e1:(listed.toList[i]'(by simpa using hli)==false)=true:=by simp[hb]
    have e2:(true==false)=false:=rfl
    rw[e1,e2]
    have:false∈listed.toList:=by rw[<-hb];exact Array.mem_toList_iff.2 (Array.getElem_mem hli)
    have:=List.count_pos_iff.2 this
    simp only[if_true,xS,if_false]
    omega
end AM
