import Derived.Test.YthciaocifglggaaGreatDoorQAmRegion
namespace AM
set_option linter.unusedVariables false
open Go
variable{U:kz}{E:Env U}{pm:Pm}
variable{F F':Nat->Prop}{kv:Key->Value}{fp:Key->List Nat}{σ τ:af U}{a:Act}{w w':World}
def T(D:Nat->Bool):Nat->List (Item U)->af U->af U
 |_,[],σ=>σ
 |j,it::r,σ=>T D (j+1) r (bif D j then apply it.o it.r σ else σ)
theorem T_n{D:Nat->Bool}:∀{items:List (Item U)}{j:Nat}{σ:af U},(T D j items σ).n=σ.n
 |[],_,_=>rfl
 |it::r,j,σ=>by
  simp only[T]
  rw[T_n]
  cases D j<;>rfl
theorem UJ{D D':Nat->Bool}{s:Nat}:∀{items:List (Item U)}{j:Nat}{σ τ:af U},(∀(k:Nat)(it:Item U),items[k]? =some it->D (j+k)≠D' (j+k)->it.o.dst≠some s)->σ.get s=τ.get s->
  (T D j items σ).get s=(T D' j items τ).get s
 |[],_,_,_,_,h=>h
 |it::r,j,σ,τ,hd,h=>by
  simp only[T]
  refine UJ (fun k vj hk et=>hd (k+1) vj (by simpa using hk) (by rw[show j+(k+1)=j+1+k by omega];exact et)) ?_
  have h0:=hd 0 it rfl
  simp only[FD] at h0
  have vq:∀{ρ:af U},it.o.dst≠some s->(apply it.o it.r ρ).get s=ρ.get s:=by
   intro ρ et
   rw[DC]
   cases jU:it.o.dst with
   |none=>rfl
   |some d=>simp only;rw[if_neg (fun e=>et (by rw[jU,e]))]
  cases h1:D j<;>cases h2:D' j<;>simp only[cond_true,cond_false]
  ·exact h
  ·rw[vq (h0 (by rw[h1,h2];simp)),h]
  ·rw[vq (h0 (by rw[h1,h2];simp)),h]
  ·rw[DC,DC,h]
theorem UL{D D':Nat->Bool}{k:Key}:∀{items:List (Item U)}{j:Nat}{σ τ:af U},(∀(m:Nat)(it:Item U),items[m]? =some it->D (j+m)≠D' (j+m)->k∉it.r.writes (it.o.dst.getD 1000000))->σ.bH k=τ.bH k->
  (T D j items σ).bH k=(T D' j items τ).bH k
 |[],_,_,_,_,h=>h
 |it::r,j,σ,τ,hd,h=>by
  simp only[T]
  refine UL (fun m vj hm et=>hd (m+1) vj (by simpa using hm) (by rw[show j+(m+1)=j+1+m by omega];exact et)) ?_
  have h0:=hd 0 it rfl
  simp only[FD] at h0
  have vq:∀{ρ:af U},k∉it.r.writes (it.o.dst.getD 1000000)->(apply it.o it.r ρ).bH k=ρ.bH k:=by
   intro ρ et
   rw[HZ,if_neg (fun e=>et (Wp.1 e))]
  cases h1:D j<;>cases h2:D' j<;>simp only[cond_true,cond_false]
  ·exact h
  ·rw[vq (h0 (by rw[h1,h2];simp)),h]
  ·rw[vq (h0 (by rw[h1,h2];simp)),h]
  ·rw[HZ,HZ,h]
theorem ajz{r:ch U}{d:Nat}{k:Key}(h:k∉r.writes d):(r.jp.map (·.1)).any (iw k)=false:=by
 rw[<-uK,qe]
 exact fun e=>h (oq _ e)
theorem abt{D D':Nat->Bool}{k:Key}:∀{items:List (Item U)}{j:Nat}{σ τ:af U},(∀(m:Nat)(it:Item U),items[m]? =some it->D (j+m)≠D' (j+m)->k∉it.r.writes (it.o.dst.getD 1000000))->σ.aC.any (iw k)=τ.aC.any (iw k)->
  (T D j items σ).aC.any (iw k)=(T D' j items τ).aC.any (iw k)
 |[],_,_,_,_,h=>h
 |it::r,j,σ,τ,hd,h=>by
  simp only[T]
  refine abt (fun m vj hm et=>hd (m+1) vj (by simpa using hm) (by rw[show j+(m+1)=j+1+m by omega];exact et)) ?_
  have h0:=hd 0 it rfl
  simp only[FD] at h0
  have vq:∀{ρ:af U},k∉it.r.writes (it.o.dst.getD 1000000)->(apply it.o it.r ρ).aC.any (iw k)=ρ.aC.any (iw k):=by
   intro ρ et
   rw[Kd,ajz et];rfl
  cases h1:D j<;>cases h2:D' j<;>simp only[cond_true,cond_false]
  ·exact h
  ·rw[vq (h0 (by rw[h1,h2];simp)),h]
  ·rw[vq (h0 (by rw[h1,h2];simp)),h]
  ·rw[Kd,Kd,h]
theorem UK{D:Nat->Bool}:∀{items:List (Item U)}{j:Nat}{σ τ:af U},yo σ τ->yo (T D j items σ) (T D j items τ)
 |[],_,_,_,h=>h
 |it::r,j,σ,τ,h=>by
  simp only[T]
  refine UK ?_
  cases D j
  ·exact h
  ·exact h.apply _ _
theorem akl{o:Oper}{r:ch U}{k:Key}(h:Names (apply o r σ) k):k∈r.names\/Names σ k:=by
 rcases h with⟨s,x,hs,hk⟩|⟨k',cs,he,x,hx,hk⟩
 ·rw[DC] at hs
  cases hd:o.dst with
  |none=>rw[hd] at hs;exact .inr (.inl ⟨s,x,hs,hk⟩)
  |some d=>
   rw[hd] at hs
   simp only at hs
   split at hs
   ·left
    unfold ch.names
    rw[hs]
    exact pw _ (pw _ hk)
   ·exact .inr (.inl ⟨s,x,hs,hk⟩)
 ·rw[HZ] at he
  split at he
  ·left
   have hm:=B8 he
   have hn:k∈(ir.box cs:ir U).names:=nl.2 ⟨x,hx,hk⟩
   simp only[lays,nN,kA,lH,nE,fJ] at hm
   unfold ch.names
   rcases hm with(⟨y,h1,h2,h3⟩|⟨y,h1,h2,h3⟩)|⟨y,h1,h2,h3⟩
   ·exact pw _ (oq _ (nl.2 ⟨y,h1,by obtain⟨y1,y2⟩:=y;simp only at h3;subst h3;exact hn⟩))
   ·exact oq _ (nl.2 ⟨y,h1,by obtain⟨y1,y2⟩:=y;simp only at h3;subst h3;exact hn⟩)
   ·cases h3
  ·exact .inr (.inr ⟨k',cs,he,x,hx,hk⟩)
theorem WG{D:Nat->Bool}{k:Key}:∀{items:List (Item U)}{j:Nat}{σ:af U},Names (T D j items σ) k->Names σ k\/∃m it,items[m]? =some it/\D (j+m)=true/\k∈it.r.names
 |[],_,_,h=> .inl h
 |it::r,j,σ,h=>by
  simp only[T] at h
  rcases WG h with h|⟨m,vj,h1,h2,h3⟩
  ·cases hd:D j<;>rw[hd] at h<;>simp only[cond_true,cond_false] at h
   ·exact .inl h
   ·rcases akl h with h|h
    ·exact .inr ⟨0,it,rfl,hd,h⟩
    ·exact .inl h
  ·exact .inr ⟨m+1,vj,by simpa using h1,by rw[show j+(m+1)=j+1+m by omega];exact h2,h3⟩
theorem JW{D:Nat->Bool}:∀{items:List (Item U)}{j:Nat}{σ:af U},(∀k,k<items.length->D (j+k)=true)->T D j items σ=uw items σ
 |[],_,_,_=>rfl
 |it::r,j,σ,h=>by
  simp only[T,uw]
  have h0:=h 0 (by simp)
  simp only[FD] at h0
  rw[h0]
  exact JW (fun k hk=>by rw[show j+1+k=j+(k+1) by omega];exact h (k+1) (by simpa using hk))
theorem Fz{D:Nat->Bool}:∀{items:List (Item U)}{j:Nat}{σ:af U},(∀k,k<items.length->D (j+k)=false)->T D j items σ=σ
 |[],_,_,_=>rfl
 |it::r,j,σ,h=>by
  simp only[T]
  have h0:=h 0 (by simp)
  simp only[FD] at h0
  rw[h0]
  exact Fz (fun k hk=>by rw[show j+1+k=j+(k+1) by omega];exact h (k+1) (by simpa using hk))
theorem PP{D D':Nat->Bool}:∀{items:List (Item U)}{j:Nat}{σ:af U},(∀k,k<items.length->D (j+k)=D' (j+k))->T D j items σ=T D' j items σ
 |[],_,_,_=>rfl
 |it::r,j,σ,h=>by
  simp only[T]
  have h0:=h 0 (by simp)
  simp only[FD] at h0
  rw[h0]
  exact PP (fun k hk=>by rw[show j+1+k=j+(k+1) by omega];exact h (k+1) (by simpa using hk))
theorem LC{D:Nat->Bool}:∀{items:List (Item U)}{i j:Nat}{σ:af U},(∀k,D k=decide (k<j+i))->uw (items.take i) σ=T D j items σ
 |[],i,j,σ,_=>by cases i<;>rfl
 |it::r,0,j,σ,h=>by
  rw[List.take_zero]
  exact(Fz (fun k _=>by rw[h];simp)).symm
 |it::r,i+1,j,σ,h=>by
  simp only[List.take_succ_cons,uw,T]
  rw[show D j=true by rw[h];simp]
  exact LC (fun k=>by rw[h,show j+(i+1)=j+1+i by omega])
theorem OE{ops:List Oper}:∀{items:List (Item U)}{i j:Nat}{σ:af U}{rs:List Rec}{it:Item U},RO E ops i items σ rs->items[j]? =some it->Y5 E ops it (uw (items.take j) σ) (vv i (items.take j) rs)
 |[],_,_,_,_,_,_,h=>by simp at h
 |vj::r,i,0,σ,rs,it,h,hj=>by
  simp only[sB,fJ] at hj
  subst hj
  exact h.1
 |vj::r,i,j+1,σ,rs,it,h,hj=>by
  simp only[List.take_succ_cons,uw,vv]
  exact OE h.2 (by simpa using hj)
theorem LZ{x:Rec}:∀{items:List (Item U)}{i:Nat}{rs:List Rec},x∈vv i items rs↔x∈rs\/∃m it,items[m]? =some it/\x=mF (i+m) it
 |[],i,rs=>by simp[vv]
 |it::r,i,rs=>by
  simp only[vv]
  rw[LZ]
  simp only[jw]
  constructor
  ·rintro((h|h)|⟨m,vj,h1,h2⟩)
   ·exact .inr ⟨0,it,rfl,by simpa using h⟩
   ·exact .inl h
   ·exact .inr ⟨m+1,vj,by simpa using h1,by rw[h2,show i+(m+1)=i+1+m by omega]⟩
  ·rintro(h|⟨m,vj,h1,h2⟩)
   ·exact .inl (.inr h)
   ·cases m with
    |zero=>simp only[sB,fJ] at h1;subst h1;exact .inl (.inl (by simpa using h2))
    |succ m=>exact .inr ⟨m,vj,by simpa using h1,by rw[h2,show i+(m+1)=i+1+m by omega]⟩
theorem OD{D:Nat->Bool}{i:Nat}{it:Item U}:∀{items:List (Item U)}{j:Nat}{σ:af U},items[i]? =some it->D (j+i)=false->
  (∀(m:Nat)(vj:Item U),items[m]? =some vj->i<m->D (j+m)=true->(∀d,it.o.dst=some d->vj.o.dst≠some d)/\∀k∈it.r.writes (it.o.dst.getD 1000000),k∉vj.r.writes (vj.o.dst.getD 1000000))->
  yo (apply it.o it.r (T D j items σ)) (T (fun k=>D k||Nat.beq k (j+i)) j items σ):=by
 have late:∀{items:List (Item U)}{j:Nat}{σ:af U},(∀(m:Nat)(vj:Item U),items[m]? =some vj->D (j+m)=true->(∀d,it.o.dst=some d->vj.o.dst≠some d)/\∀k∈it.r.writes (it.o.dst.getD 1000000),k∉vj.r.writes (vj.o.dst.getD 1000000))->
   yo (apply it.o it.r (T D j items σ)) (T D j items (apply it.o it.r σ)):=by
  intro items
  induction items with
  |nil=>intro j σ _;exact yo.refl _
  |cons vj r ih=>
   intro j σ h
   simp only[T]
   refine(ih (fun m x hm hD=>h (m+1) x (by simpa using hm) (by rw[show j+(m+1)=j+1+m by omega];exact hD))).trans (UK ?_)
   cases hd:D j<;>simp only[cond_true,cond_false]
   ·exact yo.refl _
   ·obtain⟨h1,h2⟩:=h 0 vj rfl (by simpa using hd)
    exact(alV h1 h2).symm
 induction i with
 |zero=>
  intro items j σ hi hD h
  cases items with
  |nil=>simp at hi
  |cons vj r=>
   simp only[sB,fJ] at hi
   subst hi
   simp only[T,FD] at hD⊢
   rw[hD]
   simp only[cond_false,Hv]
   rw[show Nat.beq j j=true by simp]
   simp only[cond_true]
   refine(late (fun m x hm ym=>h (m+1) x (by simpa using hm) (by omega) (by rw[show j+(m+1)=j+1+m by omega];exact ym))).trans ?_
   rw[PP (D':=fun k=>D k||Nat.beq k j)]
   ·exact yo.refl _
   ·intro k _
    have:Nat.beq (j+1+k) j=false:=by
     cases hb:Nat.beq (j+1+k) j
     ·rfl
     ·have:=lN hb;omega
    simp[this]
 |succ i ih=>
  intro items j σ hi hD h
  cases items with
  |nil=>simp at hi
  |cons vj r=>
   simp only[T]
   have hj:Nat.beq j (j+(i+1))=false:=by
    cases hb:Nat.beq j (j+(i+1))
    ·rfl
    ·have:=lN hb;omega
   rw[hj,O0]
   have:=ih (items:=r) (j:=j+1) (σ:=bif D j then apply vj.o vj.r σ else σ) (by simpa using hi) (by rw[show j+1+i=j+(i+1) by omega];exact hD)
    (fun m x hm fX ym=>h (m+1) x (by simpa using hm) (by omega) (by rw[show j+(m+1)=j+1+m by omega];exact ym))
   rw[show j+(i+1)=j+1+i by omega]
   exact this
theorem PL(m i:Nat):vP m i=m.testBit i:=by
 have h:vP m i=Nat.beq ((m>>>i)&&&1) 1:=rfl
 rw[h,Nat.and_one_is_mod,Nat.shiftRight_eq_div_pow,Nat.testBit_eq_decide_div_mod_eq]
 rw[FG,FF,decide_eq_true_eq]
theorem abj{a b i:Nat}(h:vP (Nat.lor a b) i=true):vP a i=true\/vP b i=true:=by
 rw[PL] at h⊢
 rw[PL]
 have h:(a|||b).testBit i=true:=h
 rw[Nat.testBit_or,B3] at h
 exact h
theorem alM{k i:Nat}(h:vP (Nat.shiftLeft 1 k) i=true):i=k:=by
 rw[PL] at h
 have h:(1<<<k).testBit i=true:=h
 rw[Nat.shiftLeft_eq,Lk,Nat.testBit_two_pow] at h
 exact(of_decide_eq_true h).symm
theorem WB{i:Nat}:vP 0 i=false:=by rw[PL,Nat.zero_testBit]
theorem abo{D:Nat->Prop}{acc:List Nat}:∀(es:List Edge)(m:Nat),(∀i,vP m i=true->D i)->(∀e∈es,Region.binds .any e=true->D e.on/\∀i,vP (acc.getD e.on 0) i=true->D i)->
  ∀i,vP (es.foldl (fun m e=>bif Region.binds .any e then Nat.lor m (Nat.lor (Nat.shiftLeft 1 e.on) (acc.getD e.on 0)) else m) m) i=true->D i
 |[],m,h,_,i,hi=>h i hi
 |e::es,m,h,he,i,hi=>by
  rw[List.foldl_cons] at hi
  refine abo es _ (fun j hj=> ?_) (fun e' h'=>he e' (bi _ h')) i hi
  rw[gT] at hj
  split at hj
  ·rename_i hb
   obtain⟨h1,h2⟩:=he e dw hb
   rcases abj hj with hj|hj
   ·exact h j hj
   ·rcases abj hj with hj|hj
    ·rw[alM hj];exact h1
    ·exact h2 j hj
  ·exact h j hj
theorem abn{D:Nat->Prop}:∀{ops:List Oper}{acc:List Nat}{n:Nat},acc.length=n->(∀j,j<n->D j->∀i,vP (acc.getD j 0) i=true->D i)->
  (∀(m:Nat)(o:Oper),ops[m]? =some o->D (n+m)->∀e∈o.after.toList,Region.binds .any e=true->D e.on)->
  ∀j,D j->∀i,vP ((ops.foldl (fun acc o=>acc++[o.after.toList.foldl (fun m e=>bif Region.binds .any e then Nat.lor m (Nat.lor (Nat.shiftLeft 1 e.on) (acc.getD e.on 0)) else m) 0]) acc).getD j 0) i=true->D i
 |[],acc,n,hl,ha,_,j,hj,i,hi=>by
  rcases mX j n with h|h
  ·exact ha j h hj i hi
  ·simp only[List.foldl_nil] at hi
   rw[fY,mi (by omega)] at hi
   simp[WB] at hi
 |o::ops,acc,n,hl,ha,ho,j,hj,i,hi=>by
  simp only[List.foldl_cons] at hi
  refine abn (ops:=ops) (n:=n+1) (by simp[hl]) (fun j' tH hD i' pg=> ?_) (fun m o' hm hD=>ho (m+1) o' (by simpa using hm) (by rw[show n+(m+1)=n+1+m by omega];exact hD)) j hj i hi
  have gd:∀m i,vP (acc.getD m 0) i=true->D m->D i:=by
   intro m i hi hD
   rcases mX m n with h|h
   ·exact ha m h hD i hi
   ·rw[fY,mi (by omega)] at hi
    simp[WB] at hi
  rcases mX j' n with h|h
  ·rw[F9 (by omega)] at pg
   exact ha j' h hD i' pg
  ·have:j'=n:=by omega
   subst this
   rw[Kb (by omega),hl,Y7] at pg
   simp only[List.getD_cons_zero] at pg
   refine abo (D:=D) (acc:=acc) o.after.toList 0 (fun i hi=>by rw[WB] at hi;cases hi) (fun e he hb=> ?_) i' pg
   have hon:D e.on:=ho 0 o rfl (by simpa using hD) e he hb
   exact⟨hon,fun i hi=>gd e.on i hi hon⟩
theorem Wk{x y:List Key}(h:meet x y=false):∀k∈x,k∉y:=by
 intro k hk hy
 have:meet x y=true:=sA.2 ⟨k,hk,qe.2 hy⟩
 rw[h] at this;cases this
structure Dr(ops:List Oper)(x y:Item U):Prop where
 w:∀k∈x.r.writes (x.o.dst.getD 1000000),k∉y.ks/\k∉y.r.writes (y.o.dst.getD 1000000)
 r:∀k∈y.r.writes (y.o.dst.getD 1000000),k∉x.ks
 n:∀k∈x.r.news (x.o.dst.getD 1000000),k∉y.r.names
 d:∀d,x.o.dst=some d->d∉slotsOf ops y.o/\y.o.dst≠some d
 e:∀d,y.o.dst=some d->d∉slotsOf ops x.o
theorem Dr.of{ops:List Oper}{x y:Item U}{i j:Nat}(h:Em ops x.o y.o (mF i x) (mF j y)=true):Dr ops x y:=by
 unfold Em mF at h
 simp only[eE,rj] at h
 obtain⟨⟨⟨⟨h1,h2⟩,h5⟩,h3⟩,h4⟩:=h
 refine⟨fun k hk=> ?_,Wk h2,Wk h5,fun d hd=> ?_,fun d hd=> ?_⟩
 ·have:=Wk h1 k hk
  simp only[kA,not_or] at this⊢
  exact this
 ·rw[hd] at h3
  simp only[eE,rj] at h3
  refine⟨fun hm=> ?_,fun he=> ?_⟩
  ·have:(slotsOf ops y.o).any (Nat.beq d)=true:=sA.2 ⟨d,hm,by simp⟩
   rw[h3.1] at this;cases this
  ·rw[he] at h3;simp at h3
 ·rw[hd] at h4
  simp only[rj] at h4
  intro hm
  have:(slotsOf ops x.o).any (Nat.beq d)=true:=sA.2 ⟨d,hm,by simp⟩
  rw[h4] at this;cases this
theorem RO.R7{ops:List Oper}{items:List (Item U)}{σ:af U}(h:RO E ops 0 items σ []){j:Nat}{it:Item U}(hj:items[j]? =some it):
  Y5 E ops it (T (fun k=>decide (k<j)) 0 items σ) (vv 0 (items.take j) []):=by
 have:=OE h hj
 rwa[LC (D:=fun k=>decide (k<j)) (j:=0) (fun k=>by simp)] at this
theorem ajy{ops:List Oper}{o:Oper}(h:∀t∈w_ ops o,σ.get t=τ.get t):hZ ops o σ=hZ ops o τ:=by
 unfold hZ
 unfold w_ at h
 split
 ·rfl
 ·rename_i g want hg
  rw[hg] at h
  simp only at h
  have:((ops[g]?).bind (·.dst)).bind σ.get=((ops[g]?).bind (·.dst)).bind τ.get:=by
   cases hq:ops[g]? with
   |none=>rfl
   |some q=>
    rw[hq] at h
    cases hd:q.dst with
    |none=>simp[hd]
    |some d=>simp only[Option.bind_some,hd];exact h d (by simp[hd])
  rw[this]
theorem Ws{listed:Array Bool}{k:Nat}(h:k<listed.size)(d d':Bool):listed.getD k d=listed.getD k d':=by
 simp[Lr,h]
theorem alp(hE:E.Good){ops:Array Oper}{items:List (Item U)}{σ:af U}(iV:RO E ops.toList 0 items σ [])(uk:items.map (·.o)=ops.toList)(Nq:Ix ops.toList (vv 0 items [])=true)
  (hN:∀k,Names σ k->(k.1∈yn ops.toList\/k.1=1000000)->1024<=k.2) {Q:Exit->Act->World->Prop} (pN:∀F kv fp a w,cG E pm F kv fp (uw items σ) a w->Q .normal a w):
  ∀(NC:Nat)(listed:Array Bool)(F:Nat->Prop)(kv:Key->Value)(fp:Key->List Nat)(a:Act)(w:World),cG E pm F kv fp (T (fun k=>listed.getD k false) 0 items σ) a w->listed.size=ops.size->
   (∀j,listed.getD j false=true->∀o,ops[j]? =some o->∀e∈o.after,Region.binds .any e=true->listed.getD e.on false=true)->listed.toList.count false<=NC->
   wpAny E.P .any ops Q NC listed a w:=by
 have hlen:items.length=ops.size:=by simpa using congrArg List.length uk
 have p5:∀(j:Nat)(it:Item U),items[j]? =some it->ops[j]? =some it.o:=by
  intro j it hj
  have:(items.map (·.o))[j]? =some it.o:=by rw[lZ,hj];rfl
  rw[uk] at this
  simpa using this
 unfold Ix at Nq
 simp only[eE] at Nq
 obtain⟨Xi,Sj⟩:=Nq
 have xL:∀(j:Nat)(o:Oper),ops[j]? =some o->∀e∈o.after,Region.binds .any e=true->e.on<j:=by
  intro j o hj e he hb
  unfold R6 at Xi
  rw[As] at Xi
  have hm:(o,j)∈ops.toList.zipIdx:=by
   rw[List.mem_zipIdx_iff_getElem?]
   simpa using hj
  have:=As.1 (Xi _ hm) e (by simpa using he)
  rw[hb] at this
  exact Nat.blt_eq▸this
 have vq:∀{D:Nat->Prop},(∀j,D j->∀o,ops[j]? =some o->∀e∈o.after,Region.binds .any e=true->D e.on)->∀(i j:Nat)(x y:Item U),items[i]? =some x->items[j]? =some y->i<j->D j->¬D i->Dr ops.toList x y:=by
  intro D hD i j x y hi hj BZ hDj Zo
  rw[As] at Sj
  have h1:=Sj (mF j y) (LZ.2 (.inr ⟨j,y,hj,by simp⟩))
  rw[As] at h1
  have h2:=h1 (mF i x) (LZ.2 (.inr ⟨i,x,hi,by simp⟩))
  simp only[B3,rj] at h2
  rcases h2 with(h2|h2)|h2
  ·have:Nat.blt i j=true:=by simpa using BZ
   simp only[mF] at h2
   rw[this] at h2;cases h2
  ·exfalso
   refine Zo (abn (D:=D) (acc:=[]) (n:=0) rfl (fun j hj=>by omega) (fun m o hm ym e he hb=> ?_) j hDj i h2)
   exact hD m (by simpa using ym) o (by simpa using hm) e (by simpa using he) hb
  ·have e1:ops.toList[(mF i x).i]? =some x.o:=by simpa[mF] using p5 i x hi
   have e2:ops.toList[(mF j y).i]? =some y.o:=by simpa[mF] using p5 j y hj
   rw[e1,e2] at h2
   exact Dr.of h2
 intro NC
 induction NC with
 |zero=>
  intro listed F kv fp a w hs sL gU amr
  have Iq:∀k,k<items.length->listed.getD k false=true:=by
   intro k hk
   have cM:k<listed.size:=by omega
   rw[Lr,ZA cM]
   simp only[Ds]
   cases hb:listed[k] with
   |true=>rfl
   |false=>
    exfalso
    have:false∈listed.toList:=by rw[<-hb];exact Array.mem_toList_iff.2 (Array.getElem_mem cM)
    have:=List.count_pos_iff.2 this
    omega
  refine⟨?_,pN F kv fp a w ?_⟩
  ·rw[zdm]
   intro i hi
   obtain⟨h0,o,ho,_⟩:=mem_ready.1 hi
   have fX:i<ops.size:=(Array.getElem?_eq_some_iff.1 ho).1
   rw[Ws (by omega) true false,Iq i (by omega)] at h0
   cases h0
  ·rw[<-JW (D:=fun k=>listed.getD k false) (j:=0) (fun k hk=>by simpa using Iq k hk)];exact hs
 |succ NC ih=>
  intro listed F kv fp a w hs sL gU amr
  refine⟨fun Ii=> ?_,fun i hi=> ?_⟩
  ·have Iq:∀k,k<items.length->listed.getD k false=true:=by
    intro k
    induction k using Nat.strongRecOn with
    |ind k ihk=>
     intro hk
     cases hb:listed.getD k false with
     |true=>rfl
     |false=>
      exfalso
      have fX:k<ops.size:=by omega
      have hr:k∈Region.ready .any ops listed:=by
       refine mem_ready.2 ⟨by rw[Ws (by omega) true false];exact hb,ops[k],ZA fX,fun e he hbe=> ?_⟩
       have:=xL k ops[k] (ZA fX) e he hbe
       exact ihk e.on this (by omega)
      rw[Ii] at hr;cases hr
   refine pN F kv fp a w ?_
   rw[<-JW (D:=fun k=>listed.getD k false) (j:=0) (fun k hk=>by simpa using Iq k hk)];exact hs
  ·obtain⟨h0,o,ho,SA⟩:=mem_ready.1 hi
   have fX:i<ops.size:=(Array.getElem?_eq_some_iff.1 ho).1
   have hui:listed.getD i false=false:=by rw[Ws (by omega) false true];exact h0
   obtain⟨it,HD⟩:∃it,items[i]? =some it:=⟨_,gg (by omega)⟩
   have Zd:ops[i]? =some it.o:=p5 i it HD
   have:o=it.o:=by rw[ho] at Zd;exact UP Zd
   subst this
   generalize hDd:(fun k=>listed.getD k false)=D at hs
   have Zo:D i=false:=by rw[<-hDd];exact hui
   have QA:∀j,D j=true->∀o,ops[j]? =some o->∀e∈o.after,Region.binds .any e=true->D e.on=true:=by rw[<-hDd];exact gU
   have M_:∀(m:Nat)(y:Item U),items[m]? =some y->i<m->D m=true->Dr ops.toList it y:=fun m y hm him ym=>
    vq (D:=fun k=>D k=true) QA i m it y HD hm him ym (by simp[Zo])
   have XU:∀(m:Nat)(x:Item U),items[m]? =some x->m<i->D m=false->Dr ops.toList x it:=fun m x hm hmi ym=>
    vq (D:=fun k=>D k=true\/k=i) (by
     intro j hj o' M7 e he hb
     rcases hj with hj|hj
     ·exact .inl (QA j hj o' M7 e he hb)
     ·subst hj
      rw[ho] at M7
      cases M7
      left
      rw[<-hDd]
      exact SA e he hb) m i x it hm HD hmi (.inr rfl) (by simp[ym];omega)
   have Nr:∀(m:Nat)(x:Item U),items[m]? =some x->D (0+m)≠decide (0+m<i)->(∀d,x.o.dst=some d->d∉slotsOf ops.toList it.o)/\∀k∈x.r.writes (x.o.dst.getD 1000000),k∉it.ks:=by
    intro m x hm et
    simp only[tW] at et
    rcases Nat.lt_trichotomy m i with Bf|nV|hgt
    ·have ym:D m=false:=by
      cases hb:D m
      ·rfl
      ·exact absurd (by rw[hb];simp[Bf]) et
     have:=XU m x hm Bf ym
     exact⟨fun d hd=>(this.d d hd).1,fun k hk=>(this.w k hk).1⟩
    ·subst nV
     exact absurd (by rw[Zo];simp) et
    ·have ym:D m=true:=by
      cases hb:D m
      ·exact absurd (by rw[hb];simp;omega) et
      ·rfl
     have:=M_ m x hm hgt ym
     exact⟨fun d hd=>this.e d hd,fun k hk=>this.r k hk⟩
   obtain⟨w7,OQ⟩:=iV.R7 HD
   have Sh:∀t∈slotsOf ops.toList it.o,(T (fun k=>decide (k<i)) 0 items σ).get t=(T D 0 items σ).get t:=fun t ht=>
    (UJ (fun m x hm et e=>((Nr m x hm et).1 t e) ht) rfl).symm
   have abV:∀k∈it.ks,(T (fun k=>decide (k<i)) 0 items σ).bH k=(T D 0 items σ).bH k:=fun k hk=>
    (UL (fun m x hm et e=>(Nr m x hm et).2 k e hk) rfl).symm
   have abW:∀k∈it.ks,(T (fun k=>decide (k<i)) 0 items σ).aC.any (iw k)=(T D 0 items σ).aC.any (iw k):=fun k hk=>
    (abt (fun m x hm et e=>(Nr m x hm et).2 k e hk) rfl).symm
   have hw:hZ ops.toList it.o (T D 0 items σ)=hZ ops.toList it.o (T (fun k=>decide (k<i)) 0 items σ):=
    ajy (fun t ht=>(Sh t (oq _ ht)).symm)
   have Cm:oR (T D 0 items σ) it.o=true:=by
    unfold oR at w7⊢
    rw[T_n] at w7⊢
    exact w7
   refine aaX hE hs Zd Cm ?_ (fun F' kv' fp' a' w' jG=>ih (listed.setIfInBounds i true) F' kv' fp' a' w' ?_ (by simp[sL]) ?_ ?_)
   ·rcases OQ with⟨g1,g2,g3⟩|⟨g1,g2,g3,g4,g5⟩
    ·exact .inl ⟨by rw[hw];exact g1,g2⟩
    ·refine .inr ⟨by rw[hw];exact g1,g2.imp fun b g2=>ajJ g2 (by rw[T_n,T_n]) (fun t ht=>Sh t (pw _ (nl.2 ⟨.tmp t,ht,by simp⟩))) abV abW,g3,fun k hk sM=> ?_⟩
     ·
      have Nf:∃j,k=(it.o.dst.getD 1000000,j)/\j<1024/\it.r.du≠[]:=by
       simp only[du,lH] at hk
       obtain⟨⟨j,e⟩,hj,rfl⟩:=hk
       unfold uA at g5
       have:=As.1 g5 _ hj
       exact⟨j,rfl,Nat.blt_eq▸this,(fun e=>by rw[e] at hj;cases hj)⟩
      obtain⟨j,rfl,hj,et⟩:=Nf
      have hkw:((it.o.dst.getD 1000000,j):Key)∈it.r.news (it.o.dst.getD 1000000):=hk
      rcases WG sM with sM|⟨m,x,hm,ym,hx⟩
      ·have:=hN _ sM (by
        cases hd:it.o.dst with
        |none=>exact .inr rfl
        |some d=>
         refine .inl ?_
         simp only[Ds,yn,nl]
         exact⟨it.o,by have:=Zd;rw[<-HJ] at this;exact Cs this,by simp[hd]⟩)
       simp only at this
       omega
      ·simp only[tW] at ym
       rcases Nat.lt_trichotomy m i with Bf|nV|hgt
       ·
        unfold qu at g4
        have hie:it.r.du.isEmpty=false:=by cases ha:it.r.du with
         |nil=>exact absurd ha et
         |cons _ _=>rfl
        rw[hie,Hv,As] at g4
        have Bb:mF m x∈vv 0 (items.take i) []:=LZ.2 (.inr ⟨m,x,by rw[nF,if_pos Bf];exact hm,by simp⟩)
        have:=g4 _ Bb
        simp only[rj,mF] at this
        rw[<-uK,sA] at this
        exact this ⟨_,pw _ (oq _ hx),by simp⟩
       ·subst nV
        rw[Zo] at ym;cases ym
       ·exact(M_ m x hm hgt ym).n _ hkw hx
   ·refine jG.congr ?_
    have h1:=OD (D:=D) (i:=i) (it:=it) (items:=items) (j:=0) (σ:=σ) HD (by simpa using Zo) (fun m y hm him ym=>by
     have:=M_ m y hm him (by simpa using ym)
     exact⟨fun d hd=>(this.d d hd).2,fun k hk=>(this.w k hk).2⟩)
    refine h1.trans ?_
    rw[PP (D':=fun k=>(listed.setIfInBounds i true).getD k false)]
    ·exact yo.refl _
    ·intro k hk
     simp only[tW]
     rw[<-hDd]
     simp only
     cases hb:Nat.beq k i
     ·rw[O0,getD_set_ne]
      intro e
      subst e
      simp at hb
     ·have:=lN hb
      subst this
      rw[Bool.or_true,Lr,Array.getElem?_setIfInBounds_self_of_lt (by omega)]
      rfl
   ·intro j hj o' M7 e he hb
    by_cases Sx:j=i
    ·subst Sx
     rw[ho] at M7
     cases M7
     exact getD_set_true (SA e he hb)
    ·rw[getD_set_ne false (Ne.symm Sx)] at hj
     exact getD_set_true (gU j hj o' M7 e he hb)
   ·have hli:i<listed.size:=by omega
    have hb:listed[i]=false:=by
     rw[Lr,ZA hli] at hui
     simpa using hui
    rw[Array.toList_setIfInBounds,List.count_set (by simpa using hli)]
    have e1:(listed.toList[i]'(by simpa using hli)==false)=true:=by simp[hb]
    have e2:(true==false)=false:=rfl
    rw[e1,e2]
    have:false∈listed.toList:=by rw[<-hb];exact Array.mem_toList_iff.2 (Array.getElem_mem hli)
    have:=List.count_pos_iff.2 this
    simp only[if_true,wE,if_false]
    omega
end AM
