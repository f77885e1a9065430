import Derived.Test.YtnndcpncmmcaaaaGreatQAmRegion
namespace AM
set_option linter.unusedVariables false
open Go
variable{U:jO}{E:Env U}{pm:Pm}
variable{F F':Nat->Prop}{kv:Key->Value}{fp:Key->List Nat}{σ τ:ah U}{a:Act}{w w':World}
def T(D:Nat->Bool):Nat->List (Item U)->ah U->ah U
 |_,[],σ=>σ
 |j,it::r,σ=>T D (j+1) r (bif D j then apply it.o it.r σ else σ)
theorem T_n{D:Nat->Bool}:∀{items:List (Item U)}{j:Nat}{σ:ah U},(T D j items σ).n=σ.n
 |[],_,_=>rfl
 |it::r,j,σ=>by
  simp only[T]
  rw[T_n]
  cases D j<;>rfl
theorem XX{D D':Nat->Bool}{s:Nat}:∀{items:List (Item U)}{j:Nat}{σ τ:ah U},(∀(k:Nat)(it:Item U),items[k]? =some it->D (j+k)≠D' (j+k)->it.o.dst≠some s)->σ.get s=τ.get s->
  (T D j items σ).get s=(T D' j items τ).get s
 |[],_,_,_,_,h=>h
 |it::r,j,σ,τ,hd,h=>by
  simp only[T]
  refine XX (fun k wI hk cO=>hd (k+1) wI (by simpa using hk) (by rw[show j+(k+1)=j+1+k by omega];exact cO)) ?_
  have h0:=hd 0 it rfl
  simp only[Aj] at h0
  have wV:∀{ρ:ah U},it.o.dst≠some s->(apply it.o it.r ρ).get s=ρ.get s:=by
   intro ρ cO
   rw[yX]
   cases jh:it.o.dst with
   |none=>rfl
   |some d=>simp only;rw[if_neg (fun e=>cO (by rw[jh,e]))]
  cases h1:D j<;>cases h2:D' j<;>simp only[cond_true,cond_false]
  ·exact h
  ·rw[wV (h0 (by rw[h1,h2];simp)),h]
  ·rw[wV (h0 (by rw[h1,h2];simp)),h]
  ·rw[yX,yX,h]
theorem XZ{D D':Nat->Bool}{k:Key}:∀{items:List (Item U)}{j:Nat}{σ τ:ah U},(∀(m:Nat)(it:Item U),items[m]? =some it->D (j+m)≠D' (j+m)->k∉it.r.writes (it.o.dst.getD 1000000))->σ.aU k=τ.aU k->
  (T D j items σ).aU k=(T D' j items τ).aU k
 |[],_,_,_,_,h=>h
 |it::r,j,σ,τ,hd,h=>by
  simp only[T]
  refine XZ (fun m wI hm cO=>hd (m+1) wI (by simpa using hm) (by rw[show j+(m+1)=j+1+m by omega];exact cO)) ?_
  have h0:=hd 0 it rfl
  simp only[Aj] at h0
  have wV:∀{ρ:ah U},k∉it.r.writes (it.o.dst.getD 1000000)->(apply it.o it.r ρ).aU k=ρ.aU k:=by
   intro ρ cO
   rw[yZ,if_neg (fun e=>cO (ZW.1 e))]
  cases h1:D j<;>cases h2:D' j<;>simp only[cond_true,cond_false]
  ·exact h
  ·rw[wV (h0 (by rw[h1,h2];simp)),h]
  ·rw[wV (h0 (by rw[h1,h2];simp)),h]
  ·rw[yZ,yZ,h]
theorem al8{r:bz U}{d:Nat}{k:Key}(h:k∉r.writes d):r.IZ.any (fU k)=false:=by
 rw[<-Al,nP]
 exact fun e=>h (pA _ (CD.1 e).1)
theorem aei{D D':Nat->Bool}{k:Key}:∀{items:List (Item U)}{j:Nat}{σ τ:ah U},(∀(m:Nat)(it:Item U),items[m]? =some it->D (j+m)≠D' (j+m)->k∉it.r.writes (it.o.dst.getD 1000000))->σ.ay.any (fU k)=τ.ay.any (fU k)->
  (T D j items σ).ay.any (fU k)=(T D' j items τ).ay.any (fU k)
 |[],_,_,_,_,h=>h
 |it::r,j,σ,τ,hd,h=>by
  simp only[T]
  refine aei (fun m wI hm cO=>hd (m+1) wI (by simpa using hm) (by rw[show j+(m+1)=j+1+m by omega];exact cO)) ?_
  have h0:=hd 0 it rfl
  simp only[Aj] at h0
  have wV:∀{ρ:ah U},k∉it.r.writes (it.o.dst.getD 1000000)->(apply it.o it.r ρ).ay.any (fU k)=ρ.ay.any (fU k):=by
   intro ρ cO
   rw[M0,al8 cO];rfl
  cases h1:D j<;>cases h2:D' j<;>simp only[cond_true,cond_false]
  ·exact h
  ·rw[wV (h0 (by rw[h1,h2];simp)),h]
  ·rw[wV (h0 (by rw[h1,h2];simp)),h]
  ·rw[M0,M0,h]
theorem XY{D:Nat->Bool}:∀{items:List (Item U)}{j:Nat}{σ τ:ah U},Au σ τ->Au (T D j items σ) (T D j items τ)
 |[],_,_,_,h=>h
 |it::r,j,σ,τ,h=>by
  simp only[T]
  refine XY ?_
  cases D j
  ·exact h
  ·exact h.apply _ _
theorem anc{o:Oper}{r:bz U}{k:Key}(h:Names (apply o r σ) k):k∈r.names\/Names σ k:=by
 rcases h with⟨s,x,hs,hk⟩|⟨k',cs,he,x,hx,hk⟩
 ·rw[yX] at hs
  cases hd:o.dst with
  |none=>rw[hd] at hs;exact .inr (.inl ⟨s,x,hs,hk⟩)
  |some d=>
   rw[hd] at hs
   simp only at hs
   split at hs
   ·left
    unfold bz.names
    rw[hs]
    exact oE _ (oE _ hk)
   ·exact .inr (.inl ⟨s,x,hs,hk⟩)
 ·have hex:∃e:eX U,(AM.apply o r σ).aU k'=some e/\k∈e.names/\(σ.aU k'=some e->Names σ k):=by
   rcases he with he|⟨a,i,y,he,lh⟩
   ·exact⟨_,he,ln.2 ⟨x,hx,hk⟩,fun g=> .inr ⟨k',cs,.inl g,x,hx,hk⟩⟩
   ·refine⟨_,he,?_,fun g=> .inr ⟨k',cs,.inr ⟨a,i,y,g,lh⟩,x,hx,hk⟩⟩
    subst lh
    rw[g_.1 hx] at hk
    exact hk
  obtain⟨e,he,hn,hold⟩:=hex
  rw[yZ] at he
  split at he
  ·left
   have hm:=yV he
   simp only[lays,kX,gA,jX,kG,eZ] at hm
   unfold bz.names
   rcases hm with(⟨y,h1,h2,h3⟩|⟨y,h1,h2,h3⟩)|⟨y,h1,h2,h3⟩
   ·exact oE _ (pA _ (ln.2 ⟨y,h1,by obtain⟨y1,y2⟩:=y;simp only at h3;subst h3;exact hn⟩))
   ·exact pA _ (ln.2 ⟨y,h1,by obtain⟨y1,y2⟩:=y;simp only at h3;subst h3;exact hn⟩)
   ·cases h3
  ·exact .inr (hold he)
theorem aac{D:Nat->Bool}{k:Key}:∀{items:List (Item U)}{j:Nat}{σ:ah U},Names (T D j items σ) k->Names σ k\/∃m it,items[m]? =some it/\D (j+m)=true/\k∈it.r.names
 |[],_,_,h=> .inl h
 |it::r,j,σ,h=>by
  simp only[T] at h
  rcases aac h with h|⟨m,wI,h1,h2,h3⟩
  ·cases hd:D j<;>rw[hd] at h<;>simp only[cond_true,cond_false] at h
   ·exact .inl h
   ·rcases anc h with h|h
    ·exact .inr ⟨0,it,rfl,hd,h⟩
    ·exact .inl h
  ·exact .inr ⟨m+1,wI,by simpa using h1,by rw[show j+(m+1)=j+1+m by omega];exact h2,h3⟩
theorem MF{D:Nat->Bool}:∀{items:List (Item U)}{j:Nat}{σ:ah U},(∀k,k<items.length->D (j+k)=true)->T D j items σ=vR items σ
 |[],_,_,_=>rfl
 |it::r,j,σ,h=>by
  simp only[T,vR]
  have h0:=h 0 (by simp)
  simp only[Aj] at h0
  rw[h0]
  exact MF (fun k hk=>by rw[show j+1+k=j+(k+1) by omega];exact h (k+1) (by simpa using hk))
theorem HO{D:Nat->Bool}:∀{items:List (Item U)}{j:Nat}{σ:ah U},(∀k,k<items.length->D (j+k)=false)->T D j items σ=σ
 |[],_,_,_=>rfl
 |it::r,j,σ,h=>by
  simp only[T]
  have h0:=h 0 (by simp)
  simp only[Aj] at h0
  rw[h0]
  exact HO (fun k hk=>by rw[show j+1+k=j+(k+1) by omega];exact h (k+1) (by simpa using hk))
theorem Sp{D D':Nat->Bool}:∀{items:List (Item U)}{j:Nat}{σ:ah U},(∀k,k<items.length->D (j+k)=D' (j+k))->T D j items σ=T D' j items σ
 |[],_,_,_=>rfl
 |it::r,j,σ,h=>by
  simp only[T]
  have h0:=h 0 (by simp)
  simp only[Aj] at h0
  rw[h0]
  exact Sp (fun k hk=>by rw[show j+1+k=j+(k+1) by omega];exact h (k+1) (by simpa using hk))
theorem OG{D:Nat->Bool}:∀{items:List (Item U)}{i j:Nat}{σ:ah U},(∀k,D k=decide (k<j+i))->vR (items.take i) σ=T D j items σ
 |[],i,j,σ,_=>by cases i<;>rfl
 |it::r,0,j,σ,h=>by
  rw[List.take_zero]
  exact(HO (fun k _=>by rw[h];simp)).symm
 |it::r,i+1,j,σ,h=>by
  simp only[List.take_succ_cons,vR,T]
  rw[show D j=true by rw[h];simp]
  exact OG (fun k=>by rw[h,show j+(i+1)=j+1+i by omega])
theorem Ri{ops:List Oper}:∀{items:List (Item U)}{i j:Nat}{σ:ah U}{rs:List Rec}{it:Item U},Vk E ops i items σ rs->items[j]? =some it->acm E ops it (vR (items.take j) σ) (wY i (items.take j) rs)
 |[],_,_,_,_,_,_,h=>by simp at h
 |wI::r,i,0,σ,rs,it,h,hj=>by
  simp only[sT,eZ] at hj
  subst hj
  exact h.1
 |wI::r,i,j+1,σ,rs,it,h,hj=>by
  simp only[List.take_succ_cons,vR,wY]
  exact Ri h.2 (by simpa using hj)
theorem OW{x:Rec}:∀{items:List (Item U)}{i:Nat}{rs:List Rec},x∈wY i items rs↔x∈rs\/∃m it,items[m]? =some it/\x=nO (i+m) it
 |[],i,rs=>by simp[wY]
 |it::r,i,rs=>by
  simp only[wY]
  rw[OW]
  simp only[h_]
  constructor
  ·rintro((h|h)|⟨m,wI,h1,h2⟩)
   ·exact .inr ⟨0,it,rfl,by simpa using h⟩
   ·exact .inl h
   ·exact .inr ⟨m+1,wI,by simpa using h1,by rw[h2,show i+(m+1)=i+1+m by omega]⟩
  ·rintro(h|⟨m,wI,h1,h2⟩)
   ·exact .inl (.inr h)
   ·cases m with
    |zero=>simp only[sT,eZ] at h1;subst h1;exact .inl (.inl (by simpa using h2))
    |succ m=>exact .inr ⟨m,wI,by simpa using h1,by rw[h2,show i+(m+1)=i+1+m by omega]⟩
theorem Rg{D:Nat->Bool}{i:Nat}{it:Item U}:∀{items:List (Item U)}{j:Nat}{σ:ah U},items[i]? =some it->D (j+i)=false->
  (∀(m:Nat)(wI:Item U),items[m]? =some wI->i<m->D (j+m)=true->(∀d,it.o.dst=some d->wI.o.dst≠some d)/\∀k∈it.r.writes (it.o.dst.getD 1000000),k∉wI.r.writes (wI.o.dst.getD 1000000))->
  Au (apply it.o it.r (T D j items σ)) (T (fun k=>D k||Nat.beq k (j+i)) j items σ):=by
 have late:∀{items:List (Item U)}{j:Nat}{σ:ah U},(∀(m:Nat)(wI:Item U),items[m]? =some wI->D (j+m)=true->(∀d,it.o.dst=some d->wI.o.dst≠some d)/\∀k∈it.r.writes (it.o.dst.getD 1000000),k∉wI.r.writes (wI.o.dst.getD 1000000))->
   Au (apply it.o it.r (T D j items σ)) (T D j items (apply it.o it.r σ)):=by
  intro items
  induction items with
  |nil=>intro j σ _;exact Au.refl _
  |cons wI r ih=>
   intro j σ h
   simp only[T]
   refine(ih (fun m x hm hD=>h (m+1) x (by simpa using hm) (by rw[show j+(m+1)=j+1+m by omega];exact hD))).trans (XY ?_)
   cases hd:D j<;>simp only[cond_true,cond_false]
   ·exact Au.refl _
   ·obtain⟨h1,h2⟩:=h 0 wI rfl (by simpa using hd)
    exact(aoZ h1 h2).symm
 induction i with
 |zero=>
  intro items j σ hi hD h
  cases items with
  |nil=>simp at hi
  |cons wI r=>
   simp only[sT,eZ] at hi
   subst hi
   simp only[T,Aj] at hD⊢
   rw[hD]
   simp only[cond_false,JY]
   rw[show Nat.beq j j=true by simp]
   simp only[cond_true]
   refine(late (fun m x hm Ar=>h (m+1) x (by simpa using hm) (by omega) (by rw[show j+(m+1)=j+1+m by omega];exact Ar))).trans ?_
   rw[Sp (D':=fun k=>D k||Nat.beq k j)]
   ·exact Au.refl _
   ·intro k _
    have:Nat.beq (j+1+k) j=false:=by
     cases hb:Nat.beq (j+1+k) j
     ·rfl
     ·have:=jp hb;omega
    simp[this]
 |succ i ih=>
  intro items j σ hi hD h
  cases items with
  |nil=>simp at hi
  |cons wI r=>
   simp only[T]
   have hj:Nat.beq j (j+(i+1))=false:=by
    cases hb:Nat.beq j (j+(i+1))
    ·rfl
    ·have:=jp hb;omega
   rw[hj,zeh]
   have:=ih (items:=r) (j:=j+1) (σ:=bif D j then apply wI.o wI.r σ else σ) (by simpa using hi) (by rw[show j+1+i=j+(i+1) by omega];exact hD)
    (fun m x hm fx Ar=>h (m+1) x (by simpa using hm) (by omega) (by rw[show j+(m+1)=j+1+m by omega];exact Ar))
   rw[show j+(i+1)=j+1+i by omega]
   exact this
theorem Sk(m i:Nat):xA m i=m.testBit i:=by
 have h:xA m i=Nat.beq ((m>>>i)&&&1) 1:=rfl
 rw[h,Nat.and_one_is_mod,Nat.shiftRight_eq_div_pow,Nat.testBit_eq_decide_div_mod_eq]
 rw[HT,Oq,decide_eq_true_eq]
theorem ad9{a b i:Nat}(h:xA (Nat.lor a b) i=true):xA a i=true\/xA b i=true:=by
 rw[Sk] at h⊢
 rw[Sk]
 have h:(a|||b).testBit i=true:=h
 rw[Nat.testBit_or,Ee] at h
 exact h
theorem aoP{k i:Nat}(h:xA (Nat.shiftLeft 1 k) i=true):i=k:=by
 rw[Sk] at h
 have h:(1<<<k).testBit i=true:=h
 rw[Nat.shiftLeft_eq,On,Nat.testBit_two_pow] at h
 exact(of_decide_eq_true h).symm
theorem Z'{i:Nat}:xA 0 i=false:=by rw[Sk,Nat.zero_testBit]
theorem aee{D:Nat->Prop}{acc:List Nat}:∀(es:List Edge)(m:Nat),(∀i,xA m i=true->D i)->(∀e∈es,Region.binds .any e=true->D e.on/\∀i,xA (acc.getD e.on 0) i=true->D i)->
  ∀i,xA (es.foldl (fun m e=>bif Region.binds .any e then Nat.lor m (Nat.lor (Nat.shiftLeft 1 e.on) (acc.getD e.on 0)) else m) m) i=true->D i
 |[],m,h,_,i,hi=>h i hi
 |e::es,m,h,he,i,hi=>by
  rw[List.foldl_cons] at hi
  refine aee es _ (fun j hj=> ?_) (fun e' h'=>he e' (aJ _ h')) i hi
  rw[fc] at hj
  split at hj
  ·rename_i hb
   obtain⟨h1,h2⟩:=he e cH hb
   rcases ad9 hj with hj|hj
   ·exact h j hj
   ·rcases ad9 hj with hj|hj
    ·rw[aoP hj];exact h1
    ·exact h2 j hj
  ·exact h j hj
theorem aed{D:Nat->Prop}:∀{ops:List Oper}{acc:List Nat}{n:Nat},acc.length=n->(∀j,j<n->D j->∀i,xA (acc.getD j 0) i=true->D i)->
  (∀(m:Nat)(o:Oper),ops[m]? =some o->D (n+m)->∀e∈o.after.toList,Region.binds .any e=true->D e.on)->
  ∀j,D j->∀i,xA ((ops.foldl (fun acc o=>acc++[o.after.toList.foldl (fun m e=>bif Region.binds .any e then Nat.lor m (Nat.lor (Nat.shiftLeft 1 e.on) (acc.getD e.on 0)) else m) 0]) acc).getD j 0) i=true->D i
 |[],acc,n,hl,ha,_,j,hj,i,hi=>by
  rcases lR j n with h|h
  ·exact ha j h hj i hi
  ·simp only[List.foldl_nil] at hi
   rw[gh,lU (by omega)] at hi
   simp[Z'] at hi
 |o::ops,acc,n,hl,ha,ho,j,hj,i,hi=>by
  simp only[List.foldl_cons] at hi
  refine aed (ops:=ops) (n:=n+1) (by simp[hl]) (fun j' pg hD i' od=> ?_) (fun m o' hm hD=>ho (m+1) o' (by simpa using hm) (by rw[show n+(m+1)=n+1+m by omega];exact hD)) j hj i hi
  have gd:∀m i,xA (acc.getD m 0) i=true->D m->D i:=by
   intro m i hi hD
   rcases lR m n with h|h
   ·exact ha m h hD i hi
   ·rw[gh,lU (by omega)] at hi
    simp[Z'] at hi
  rcases lR j' n with h|h
  ·rw[lD (by omega)] at od
   exact ha j' h hD i' od
  ·have:j'=n:=by omega
   subst this
   rw[nq (by omega),hl,Rr] at od
   simp only[List.getD_cons_zero] at od
   refine aee (D:=D) (acc:=acc) o.after.toList 0 (fun i hi=>by rw[Z'] at hi;cases hi) (fun e he hb=> ?_) i' od
   have hon:D e.on:=ho 0 o rfl (by simpa using hD) e he hb
   exact⟨hon,fun i hi=>gd e.on i hi hon⟩
theorem ZP{x y:List Key}(h:meet x y=false):∀k∈x,k∉y:=by
 intro k hk hy
 have:meet x y=true:=tW.2 ⟨k,hk,nP.2 hy⟩
 rw[h] at this;cases this
structure FP(ops:List Oper)(x y:Item U):Prop where
 w:∀k∈x.r.writes (x.o.dst.getD 1000000),k∉y.ks/\k∉y.r.writes (y.o.dst.getD 1000000)
 r:∀k∈y.r.writes (y.o.dst.getD 1000000),k∉x.ks
 n:∀k∈x.r.news (x.o.dst.getD 1000000),k∉y.r.names
 d:∀d,x.o.dst=some d->d∉slotsOf ops y.o/\y.o.dst≠some d
 e:∀d,y.o.dst=some d->d∉slotsOf ops x.o
theorem FP.of{ops:List Oper}{x y:Item U}{i j:Nat}(h:GZ ops x.o y.o (nO i x) (nO j y)=true):FP ops x y:=by
 unfold GZ nO at h
 simp only[fY,sS] at h
 obtain⟨⟨⟨⟨h1,h2⟩,h5⟩,h3⟩,h4⟩:=h
 refine⟨fun k hk=> ?_,ZP h2,ZP h5,fun d hd=> ?_,fun d hd=> ?_⟩
 ·have:=ZP h1 k hk
  simp only[gA,not_or] at this⊢
  exact this
 ·rw[hd] at h3
  simp only[fY,sS] at h3
  refine⟨fun hm=> ?_,fun he=> ?_⟩
  ·have:(slotsOf ops y.o).any (Nat.beq d)=true:=tW.2 ⟨d,hm,by simp⟩
   rw[h3.1] at this;cases this
  ·rw[he] at h3;simp at h3
 ·rw[hd] at h4
  simp only[sS] at h4
  intro hm
  have:(slotsOf ops x.o).any (Nat.beq d)=true:=tW.2 ⟨d,hm,by simp⟩
  rw[h4] at this;cases this
theorem Vk.Vx{ops:List Oper}{items:List (Item U)}{σ:ah U}(h:Vk E ops 0 items σ []){j:Nat}{it:Item U}(hj:items[j]? =some it):
  acm E ops it (T (fun k=>decide (k<j)) 0 items σ) (wY 0 (items.take j) []):=by
 have:=Ri h hj
 rwa[OG (D:=fun k=>decide (k<j)) (j:=0) (fun k=>by simp)] at this
theorem al7{ops:List Oper}{o:Oper}(h:∀t∈zl ops o,σ.get t=τ.get t):gT ops o σ=gT ops o τ:=by
 unfold gT
 unfold zl at h
 split
 ·rfl
 ·rename_i g want hg
  rw[hg] at h
  simp only at h
  have:((ops[g]?).bind (·.dst)).bind σ.get=((ops[g]?).bind (·.dst)).bind τ.get:=by
   cases hq:ops[g]? with
   |none=>rfl
   |some q=>
    rw[hq] at h
    cases hd:q.dst with
    |none=>simp[hd]
    |some d=>simp only[Option.bind_some,hd];exact h d (by simp[hd])
  rw[this]
theorem Z0{ff:Array Bool}{k:Nat}(h:k<ff.size)(d d':Bool):ff.getD k d=ff.getD k d':=by
 simp[Oy,h]
theorem aor(hE:E.Good){ops:Array Oper}{items:List (Item U)}{σ:ah U}(fw:Vk E ops.toList 0 items σ [])(vG:items.map (·.o)=ops.toList)(Qh:K8 ops.toList (wY 0 items [])=true)
  (hN:∀k,Names σ k->(k.1∈As ops.toList\/k.1=1000000)->1024<=k.2) {Q:Exit->Act->World->Prop} (sZ:∀F kv fp a w,cd E pm F kv fp (vR items σ) a w->Q .normal a w):
  ∀(Qu:Nat)(ff:Array Bool)(F:Nat->Prop)(kv:Key->Value)(fp:Key->List Nat)(a:Act)(w:World),cd E pm F kv fp (T (fun k=>ff.getD k false) 0 items σ) a w->ff.size=ops.size->
   (∀j,ff.getD j false=true->∀o,ops[j]? =some o->∀e∈o.after,Region.binds .any e=true->ff.getD e.on false=true)->ff.toList.count false<=Qu->
   wpAny E.P .any ops Q Qu ff a w:=by
 have hlen:items.length=ops.size:=by simpa using congrArg List.length vG
 have mI:∀(j:Nat)(it:Item U),items[j]? =some it->ops[j]? =some it.o:=by
  intro j it hj
  have:(items.map (·.o))[j]? =some it.o:=by rw[mE,hj];rfl
  rw[vG] at this
  simpa using this
 unfold K8 at Qh
 simp only[fY] at Qh
 obtain⟨aaF,VK⟩:=Qh
 have wU:∀(j:Nat)(o:Oper),ops[j]? =some o->∀e∈o.after,Region.binds .any e=true->e.on<j:=by
  intro j o hj e he hb
  unfold Vw at aaF
  rw[FU] at aaF
  have hm:(o,j)∈ops.toList.zipIdx:=by
   rw[List.mem_zipIdx_iff_getElem?]
   simpa using hj
  have:=FU.1 (aaF _ hm) e (by simpa using he)
  rw[hb] at this
  exact Nat.blt_eq▸this
 have wV:∀{D:Nat->Prop},(∀j,D j->∀o,ops[j]? =some o->∀e∈o.after,Region.binds .any e=true->D e.on)->∀(i j:Nat)(x y:Item U),items[i]? =some x->items[j]? =some y->i<j->D j->¬D i->FP ops.toList x y:=by
  intro D hD i j x y hi hj H2 hDj hDi
  rw[FU] at VK
  have h1:=VK (nO j y) (OW.2 (.inr ⟨j,y,hj,by simp⟩))
  rw[FU] at h1
  have h2:=h1 (nO i x) (OW.2 (.inr ⟨i,x,hi,by simp⟩))
  simp only[Ee,sS] at h2
  rcases h2 with(h2|h2)|h2
  ·have:Nat.blt i j=true:=by simpa using H2
   simp only[nO] at h2
   rw[this] at h2;cases h2
  ·exfalso
   refine hDi (aed (D:=D) (acc:=[]) (n:=0) rfl (fun j hj=>by omega) (fun m o hm Ar e he hb=> ?_) j hDj i h2)
   exact hD m (by simpa using Ar) o (by simpa using hm) e (by simpa using he) hb
  ·have e1:ops.toList[(nO i x).i]? =some x.o:=by simpa[nO] using mI i x hi
   have e2:ops.toList[(nO j y).i]? =some y.o:=by simpa[nO] using mI j y hj
   rw[e1,e2] at h2
   exact FP.of h2
 intro Qu
 induction Qu with
 |zero=>
  intro ff F kv fp a w hs mS fa apF
  have ox:∀k,k<items.length->ff.getD k false=true:=by
   intro k hk
   have bp:k<ff.size:=by omega
   rw[Oy,zdk bp]
   simp only[J0]
   cases hb:ff[k] with
   |true=>rfl
   |false=>
    exfalso
    have:false∈ff.toList:=by rw[<-hb];exact Array.mem_toList_iff.2 (Array.getElem_mem bp)
    have:=List.count_pos_iff.2 this
    omega
  refine⟨?_,sZ F kv fp a w ?_⟩
  ·rw[zdm]
   intro i hi
   obtain⟨h0,o,ho,_⟩:=mem_ready.1 hi
   have fx:i<ops.size:=(Array.getElem?_eq_some_iff.1 ho).1
   rw[Z0 (by omega) true false,ox i (by omega)] at h0
   cases h0
  ·rw[<-MF (D:=fun k=>ff.getD k false) (j:=0) (fun k hk=>by simpa using ox k hk)];exact hs
 |succ Qu ih=>
  intro ff F kv fp a w hs mS fa apF
  refine⟨fun KN=> ?_,fun i hi=> ?_⟩
  ·have ox:∀k,k<items.length->ff.getD k false=true:=by
    intro k
    induction k using Nat.strongRecOn with
    |ind k ihk=>
     intro hk
     cases hb:ff.getD k false with
     |true=>rfl
     |false=>
      exfalso
      have fx:k<ops.size:=by omega
      have hr:k∈Region.ready .any ops ff:=by
       refine mem_ready.2 ⟨by rw[Z0 (by omega) true false];exact hb,ops[k],zdk fx,fun e he hbe=> ?_⟩
       have:=wU k ops[k] (zdk fx) e he hbe
       exact ihk e.on this (by omega)
      rw[KN] at hr;cases hr
   refine sZ F kv fp a w ?_
   rw[<-MF (D:=fun k=>ff.getD k false) (j:=0) (fun k hk=>by simpa using ox k hk)];exact hs
  ·obtain⟨h0,o,ho,V4⟩:=mem_ready.1 hi
   have fx:i<ops.size:=(Array.getElem?_eq_some_iff.1 ho).1
   have hui:ff.getD i false=false:=by rw[Z0 (by omega) false true];exact h0
   obtain⟨it,J6⟩:∃it,items[i]? =some it:=⟨_,gr (by omega)⟩
   have hoi:ops[i]? =some it.o:=mI i it J6
   have:o=it.o:=by rw[ho] at hoi;exact X2 hoi
   subst this
   generalize hDd:(fun k=>ff.getD k false)=D at hs
   have hDi:D i=false:=by rw[<-hDd];exact hui
   have TX:∀j,D j=true->∀o,ops[j]? =some o->∀e∈o.after,Region.binds .any e=true->D e.on=true:=by rw[<-hDd];exact fa
   have PW:∀(m:Nat)(y:Item U),items[m]? =some y->i<m->D m=true->FP ops.toList it y:=fun m y hm him Ar=>
    wV (D:=fun k=>D k=true) TX i m it y J6 hm him Ar (by simp[hDi])
   have aa3:∀(m:Nat)(x:Item U),items[m]? =some x->m<i->D m=false->FP ops.toList x it:=fun m x hm VP Ar=>
    wV (D:=fun k=>D k=true\/k=i) (by
     intro j hj o' PP e he hb
     rcases hj with hj|hj
     ·exact .inl (TX j hj o' PP e he hb)
     ·subst hj
      rw[ho] at PP
      cases PP
      left
      rw[<-hDd]
      exact V4 e he hb) m i x it hm J6 VP (.inr rfl) (by simp[Ar];omega)
   have Qi:∀(m:Nat)(x:Item U),items[m]? =some x->D (0+m)≠decide (0+m<i)->(∀d,x.o.dst=some d->d∉slotsOf ops.toList it.o)/\∀k∈x.r.writes (x.o.dst.getD 1000000),k∉it.ks:=by
    intro m x hm cO
    simp only[oz] at cO
    rcases Nat.lt_trichotomy m i with Db|ph|hgt
    ·have Ar:D m=false:=by
      cases hb:D m
      ·rfl
      ·exact absurd (by rw[hb];simp[Db]) cO
     have:=aa3 m x hm Db Ar
     exact⟨fun d hd=>(this.d d hd).1,fun k hk=>(this.w k hk).1⟩
    ·subst ph
     exact absurd (by rw[hDi];simp) cO
    ·have Ar:D m=true:=by
      cases hb:D m
      ·exact absurd (by rw[hb];simp;omega) cO
      ·rfl
     have:=PW m x hm hgt Ar
     exact⟨fun d hd=>this.e d hd,fun k hk=>this.r k hk⟩
   obtain⟨zi,hok⟩:=fw.Vx J6
   have VJ:∀t∈slotsOf ops.toList it.o,(T (fun k=>decide (k<i)) 0 items σ).get t=(T D 0 items σ).get t:=fun t ht=>
    (XX (fun m x hm cO e=>((Qi m x hm cO).1 t e) ht) rfl).symm
   have aeM:∀k∈it.ks,(T (fun k=>decide (k<i)) 0 items σ).aU k=(T D 0 items σ).aU k:=fun k hk=>
    (XZ (fun m x hm cO e=>(Qi m x hm cO).2 k e hk) rfl).symm
   have aeN:∀k∈it.ks,(T (fun k=>decide (k<i)) 0 items σ).ay.any (fU k)=(T D 0 items σ).ay.any (fU k):=fun k hk=>
    (aei (fun m x hm cO e=>(Qi m x hm cO).2 k e hk) rfl).symm
   have hw:gT ops.toList it.o (T D 0 items σ)=gT ops.toList it.o (T (fun k=>decide (k<i)) 0 items σ):=
    al7 (fun t ht=>(VJ t (pA _ ht)).symm)
   have wo:pX (T D 0 items σ) it.o=true:=by
    unfold pX at zi⊢
    rw[T_n] at zi⊢
    exact zi
   refine adJ hE hs hoi wo ?_ (fun F' kv' fp' a' w' ky=>ih (ff.setIfInBounds i true) F' kv' fp' a' w' ?_ (by simp[mS]) ?_ ?_)
   ·rcases hok with⟨g1,g2,g3⟩|⟨g1,g2,g3,g4,g5⟩
    ·exact .inl ⟨by rw[hw];exact g1,g2⟩
    ·refine .inr ⟨by rw[hw];exact g1,g2.imp fun b g2=>aml g2 (by rw[T_n,T_n]) (fun t ht=>VJ t (oE _ (ln.2 ⟨.tmp t,ht,by simp⟩))) aeM aeN,g3,fun k hk ol=> ?_⟩
     ·
      have P8:∃j,k=(it.o.dst.getD 1000000,j)/\j<1024/\it.r.ct≠[]:=by
       simp only[ct,jX] at hk
       obtain⟨⟨j,e⟩,hj,rfl⟩:=hk
       unfold vY at g5
       have:=FU.1 g5 _ hj
       exact⟨j,rfl,Nat.blt_eq▸this,(fun e=>by rw[e] at hj;cases hj)⟩
      obtain⟨j,rfl,hj,cO⟩:=P8
      have hkw:((it.o.dst.getD 1000000,j):Key)∈it.r.news (it.o.dst.getD 1000000):=hk
      rcases aac ol with ol|⟨m,x,hm,Ar,hx⟩
      ·have:=hN _ ol (by
        cases hd:it.o.dst with
        |none=>exact .inr rfl
        |some d=>
         refine .inl ?_
         simp only[J0,As,ln]
         exact⟨it.o,by have:=hoi;rw[<-Eg] at this;exact Ep this,by simp[hd]⟩)
       simp only at this
       omega
      ·simp only[oz] at Ar
       rcases Nat.lt_trichotomy m i with Db|ph|hgt
       ·
        unfold rJ at g4
        have hie:it.r.ct.isEmpty=false:=by cases ha:it.r.ct with
         |nil=>exact absurd ha cO
         |cons _ _=>rfl
        rw[hie,JY,FU] at g4
        have pa:nO m x∈wY 0 (items.take i) []:=OW.2 (.inr ⟨m,x,by rw[mP,if_pos Db];exact hm,by simp⟩)
        have:=g4 _ pa
        simp only[sS,nO] at this
        rw[<-Al,tW] at this
        exact this ⟨_,oE _ (pA _ hx),by simp⟩
       ·subst ph
        rw[hDi] at Ar;cases Ar
       ·exact(PW m x hm hgt Ar).n _ hkw hx
   ·refine ky.congr ?_
    have h1:=Rg (D:=D) (i:=i) (it:=it) (items:=items) (j:=0) (σ:=σ) J6 (by simpa using hDi) (fun m y hm him Ar=>by
     have:=PW m y hm him (by simpa using Ar)
     exact⟨fun d hd=>(this.d d hd).2,fun k hk=>(this.w k hk).2⟩)
    refine h1.trans ?_
    rw[Sp (D':=fun k=>(ff.setIfInBounds i true).getD k false)]
    ·exact Au.refl _
    ·intro k hk
     simp only[oz]
     rw[<-hDd]
     simp only
     cases hb:Nat.beq k i
     ·rw[zeh,getD_set_ne]
      intro e
      subst e
      simp at hb
     ·have:=jp hb
      subst this
      rw[Bool.or_true,Oy,Array.getElem?_setIfInBounds_self_of_lt (by omega)]
      rfl
   ·intro j hj o' PP e he hb
    by_cases RN:j=i
    ·subst RN
     rw[ho] at PP
     cases PP
     exact getD_set_true (V4 e he hb)
    ·rw[getD_set_ne false (Ne.symm RN)] at hj
     exact getD_set_true (fa j hj o' PP e he hb)
   ·have hli:i<ff.size:=by omega
    have hb:ff[i]=false:=by
     rw[Oy,zdk hli] at hui
     simpa using hui
    rw[Array.toList_setIfInBounds,List.count_set (by simpa using hli)]
    have e1:(ff.toList[i]'(by simpa using hli)==false)=true:=by simp[hb]
    have e2:(true==false)=false:=rfl
    rw[e1,e2]
    have:false∈ff.toList:=by rw[<-hb];exact Array.mem_toList_iff.2 (Array.getElem_mem hli)
    have:=List.count_pos_iff.2 this
    simp only[if_true,yN,if_false]
    omega
end AM
