/- THE ABSTRACT MACHINE: a region whose order is drawn. -/
import Derived.Test.YtpkdgcookaobfaaGreatDoorQAmRegion
namespace AM
set_option linter.unusedVariables false
open Go
variable{U:lz}{E:Env U}{pm:Pm}
variable{F F':Nat->Prop}{kv:Key->Value}{fp:Key->List Nat}{σ τ:ak U}{a:Act}{w w':World}
def T(D:Nat->Bool):Nat->List (Item U)->ak U->ak U
 |_,[],σ=>σ
 |j,it::r,σ=>T D (j+1) r (bif D j then apply it.o it.r σ else σ)
theorem T_n{D:Nat->Bool}:∀{items:List (Item U)}{j:Nat}{σ:ak U},(T D j items σ).n=σ.n
 |[],_,_=>rfl
 |it::r,j,σ=>by
  simp only[T]
  rw[T_n]
  cases D j<;>rfl
theorem Y5{D D':Nat->Bool}{s:Nat}:∀{items:List (Item U)}{j:Nat}{σ τ:ak U},(∀(k:Nat)(it:Item U),items[k]? =some it->D (j+k)≠D' (j+k)->it.o.dst≠some s)->σ.get s=τ.get s->
  (T D j items σ).get s=(T D' j items τ).get s
 |[],_,_,_,_,h=>h
 |it::r,j,σ,τ,hd,h=>by
  simp only[T]
  refine Y5 (fun k yb hk eZ=>hd (k+1) yb (by simpa using hk) (by rw[show j+(k+1)=j+1+k by omega];exact eZ)) ?_
  have h0:=hd 0 it rfl
  simp only[J6] at h0
  have yh:∀{ρ:ak U},it.o.dst≠some s->(apply it.o it.r ρ).get s=ρ.get s:=by
   intro ρ eZ
   rw[HO]
   cases kY:it.o.dst with
   |none=>rfl
   |some d=>simp only;rw[if_neg (fun e=>eZ (by rw[kY,e]))]
  cases h1:D j<;>cases h2:D' j<;>simp only[cond_true,cond_false]
  ·exact h
  ·rw[yh (h0 (by rw[h1,h2];simp)),h]
  ·rw[yh (h0 (by rw[h1,h2];simp)),h]
  ·rw[HO,HO,h]
theorem Y7{D D':Nat->Bool}{k:Key}:∀{items:List (Item U)}{j:Nat}{σ τ:ak U},(∀(m:Nat)(it:Item U),items[m]? =some it->D (j+m)≠D' (j+m)->k∉it.r.writes (it.o.dst.getD 1000000))->σ.bO k=τ.bO k->
  (T D j items σ).bO k=(T D' j items τ).bO k
 |[],_,_,_,_,h=>h
 |it::r,j,σ,τ,hd,h=>by
  simp only[T]
  refine Y7 (fun m yb hm eZ=>hd (m+1) yb (by simpa using hm) (by rw[show j+(m+1)=j+1+m by omega];exact eZ)) ?_
  have h0:=hd 0 it rfl
  simp only[J6] at h0
  have yh:∀{ρ:ak U},k∉it.r.writes (it.o.dst.getD 1000000)->(apply it.o it.r ρ).bO k=ρ.bO k:=by
   intro ρ eZ
   rw[MQ,if_neg (fun e=>eZ (Z9.1 e))]
  cases h1:D j<;>cases h2:D' j<;>simp only[cond_true,cond_false]
  ·exact h
  ·rw[yh (h0 (by rw[h1,h2];simp)),h]
  ·rw[yh (h0 (by rw[h1,h2];simp)),h]
  ·rw[MQ,MQ,h]
theorem akv{r:cn U}{d:Nat}{k:Key}(h:k∉r.writes d):(r.jQ.map (·.1)).any (iR k)=false:=by
 rw[<-wu,sR]
 exact fun e=>h (rv _ e)
theorem adS{D D':Nat->Bool}{k:Key}:∀{items:List (Item U)}{j:Nat}{σ τ:ak U},(∀(m:Nat)(it:Item U),items[m]? =some it->D (j+m)≠D' (j+m)->k∉it.r.writes (it.o.dst.getD 1000000))->σ.aT.any (iR k)=τ.aT.any (iR k)->
  (T D j items σ).aT.any (iR k)=(T D' j items τ).aT.any (iR k)
 |[],_,_,_,_,h=>h
 |it::r,j,σ,τ,hd,h=>by
  simp only[T]
  refine adS (fun m yb hm eZ=>hd (m+1) yb (by simpa using hm) (by rw[show j+(m+1)=j+1+m by omega];exact eZ)) ?_
  have h0:=hd 0 it rfl
  simp only[J6] at h0
  have yh:∀{ρ:ak U},k∉it.r.writes (it.o.dst.getD 1000000)->(apply it.o it.r ρ).aT.any (iR k)=ρ.aT.any (iR k):=by
   intro ρ eZ
   rw[Po,akv eZ];rfl
  cases h1:D j<;>cases h2:D' j<;>simp only[cond_true,cond_false]
  ·exact h
  ·rw[yh (h0 (by rw[h1,h2];simp)),h]
  ·rw[yh (h0 (by rw[h1,h2];simp)),h]
  ·rw[Po,Po,h]
theorem Y6{D:Nat->Bool}:∀{items:List (Item U)}{j:Nat}{σ τ:ak U},BJ σ τ->BJ (T D j items σ) (T D j items τ)
 |[],_,_,_,h=>h
 |it::r,j,σ,τ,h=>by
  simp only[T]
  refine Y6 ?_
  cases D j
  ·exact h
  ·exact h.apply _ _
theorem alh{o:Oper}{r:cn U}{k:Key}(h:Names (apply o r σ) k):k∈r.names\/Names σ k:=by
 rcases h with⟨s,x,hs,hk⟩|⟨k',cs,he,x,hx,hk⟩
 ·rw[HO] at hs
  cases hd:o.dst with
  |none=>rw[hd] at hs;exact .inr (.inl ⟨s,x,hs,hk⟩)
  |some d=>
   rw[hd] at hs
   simp only at hs
   split at hs
   ·left
    unfold cn.names
    rw[hs]
    exact sD _ (sD _ hk)
   ·exact .inr (.inl ⟨s,x,hs,hk⟩)
 ·rw[MQ] at he
  split at he
  ·left
   have hm:=F4 he
   have hn:k∈(iN.box cs:iN U).names:=oQ.2 ⟨x,hx,hk⟩
   simp only[lays,pO,jC,mf,pq,gA] at hm
   unfold cn.names
   rcases hm with(⟨y,h1,h2,h3⟩|⟨y,h1,h2,h3⟩)|⟨y,h1,h2,h3⟩
   ·exact sD _ (rv _ (oQ.2 ⟨y,h1,by obtain⟨y1,y2⟩:=y;simp only at h3;subst h3;exact hn⟩))
   ·exact rv _ (oQ.2 ⟨y,h1,by obtain⟨y1,y2⟩:=y;simp only at h3;subst h3;exact hn⟩)
   ·cases h3
  ·exact .inr (.inr ⟨k',cs,he,x,hx,hk⟩)
theorem aan{D:Nat->Bool}{k:Key}:∀{items:List (Item U)}{j:Nat}{σ:ak U},Names (T D j items σ) k->Names σ k\/∃m it,items[m]? =some it/\D (j+m)=true/\k∈it.r.names
 |[],_,_,h=> .inl h
 |it::r,j,σ,h=>by
  simp only[T] at h
  rcases aan h with h|⟨m,yb,h1,h2,h3⟩
  ·cases hd:D j<;>rw[hd] at h<;>simp only[cond_true,cond_false] at h
   ·exact .inl h
   ·rcases alh h with h|h
    ·exact .inr ⟨0,it,rfl,hd,h⟩
    ·exact .inl h
  ·exact .inr ⟨m+1,yb,by simpa using h1,by rw[show j+(m+1)=j+1+m by omega];exact h2,h3⟩
theorem OW{D:Nat->Bool}:∀{items:List (Item U)}{j:Nat}{σ:ak U},(∀k,k<items.length->D (j+k)=true)->T D j items σ=xb items σ
 |[],_,_,_=>rfl
 |it::r,j,σ,h=>by
  simp only[T,xb]
  have h0:=h 0 (by simp)
  simp only[J6] at h0
  rw[h0]
  exact OW (fun k hk=>by rw[show j+1+k=j+(k+1) by omega];exact h (k+1) (by simpa using hk))
theorem J1{D:Nat->Bool}:∀{items:List (Item U)}{j:Nat}{σ:ak U},(∀k,k<items.length->D (j+k)=false)->T D j items σ=σ
 |[],_,_,_=>rfl
 |it::r,j,σ,h=>by
  simp only[T]
  have h0:=h 0 (by simp)
  simp only[J6] at h0
  rw[h0]
  exact J1 (fun k hk=>by rw[show j+1+k=j+(k+1) by omega];exact h (k+1) (by simpa using hk))
theorem Vo{D D':Nat->Bool}:∀{items:List (Item U)}{j:Nat}{σ:ak U},(∀k,k<items.length->D (j+k)=D' (j+k))->T D j items σ=T D' j items σ
 |[],_,_,_=>rfl
 |it::r,j,σ,h=>by
  simp only[T]
  have h0:=h 0 (by simp)
  simp only[J6] at h0
  rw[h0]
  exact Vo (fun k hk=>by rw[show j+1+k=j+(k+1) by omega];exact h (k+1) (by simpa using hk))
theorem QY{D:Nat->Bool}:∀{items:List (Item U)}{i j:Nat}{σ:ak U},(∀k,D k=decide (k<j+i))->xb (items.take i) σ=T D j items σ
 |[],i,j,σ,_=>by cases i<;>rfl
 |it::r,0,j,σ,h=>by
  rw[List.take_zero]
  exact(J1 (fun k _=>by rw[h];simp)).symm
 |it::r,i+1,j,σ,h=>by
  simp only[List.take_succ_cons,xb,T]
  rw[show D j=true by rw[h];simp]
  exact QY (fun k=>by rw[h,show j+(i+1)=j+1+i by omega])
theorem T'{ops:List Oper}:∀{items:List (Item U)}{i j:Nat}{σ:ak U}{rs:List Rec}{it:Item U},WK E ops i items σ rs->items[j]? =some it->abX E ops it (xb (items.take j) σ) (yw i (items.take j) rs)
 |[],_,_,_,_,_,_,h=>by simp at h
 |yb::r,i,0,σ,rs,it,h,hj=>by
  simp only[vn,gA] at hj
  subst hj
  exact h.1
 |yb::r,i,j+1,σ,rs,it,h,hj=>by
  simp only[List.take_succ_cons,xb,yw]
  exact T' h.2 (by simpa using hj)
theorem Rq{x:Rec}:∀{items:List (Item U)}{i:Nat}{rs:List Rec},x∈yw i items rs↔x∈rs\/∃m it,items[m]? =some it/\x=ol (i+m) it
 |[],i,rs=>by simp[yw]
 |it::r,i,rs=>by
  simp only[yw]
  rw[Rq]
  simp only[jZ]
  constructor
  ·rintro((h|h)|⟨m,yb,h1,h2⟩)
   ·exact .inr ⟨0,it,rfl,by simpa using h⟩
   ·exact .inl h
   ·exact .inr ⟨m+1,yb,by simpa using h1,by rw[h2,show i+(m+1)=i+1+m by omega]⟩
  ·rintro(h|⟨m,yb,h1,h2⟩)
   ·exact .inl (.inr h)
   ·cases m with
    |zero=>simp only[vn,gA] at h1;subst h1;exact .inl (.inl (by simpa using h2))
    |succ m=>exact .inr ⟨m,yb,by simpa using h1,by rw[h2,show i+(m+1)=i+1+m by omega]⟩
theorem TZ{D:Nat->Bool}{i:Nat}{it:Item U}:∀{items:List (Item U)}{j:Nat}{σ:ak U},items[i]? =some it->D (j+i)=false->
  (∀(m:Nat)(yb:Item U),items[m]? =some yb->i<m->D (j+m)=true->(∀d,it.o.dst=some d->yb.o.dst≠some d)/\∀k∈it.r.writes (it.o.dst.getD 1000000),k∉yb.r.writes (yb.o.dst.getD 1000000))->
  BJ (apply it.o it.r (T D j items σ)) (T (fun k=>D k||Nat.beq k (j+i)) j items σ):=by
 have late:∀{items:List (Item U)}{j:Nat}{σ:ak U},(∀(m:Nat)(yb:Item U),items[m]? =some yb->D (j+m)=true->(∀d,it.o.dst=some d->yb.o.dst≠some d)/\∀k∈it.r.writes (it.o.dst.getD 1000000),k∉yb.r.writes (yb.o.dst.getD 1000000))->
   BJ (apply it.o it.r (T D j items σ)) (T D j items (apply it.o it.r σ)):=by
  intro items
  induction items with
  |nil=>intro j σ _;exact BJ.refl _
  |cons yb r ih=>
   intro j σ h
   simp only[T]
   refine(ih (fun m x hm hD=>h (m+1) x (by simpa using hm) (by rw[show j+(m+1)=j+1+m by omega];exact hD))).trans (Y6 ?_)
   cases hd:D j<;>simp only[cond_true,cond_false]
   ·exact BJ.refl _
   ·obtain⟨h1,h2⟩:=h 0 yb rfl (by simpa using hd)
    exact(amR h1 h2).symm
 induction i with
 |zero=>
  intro items j σ hi hD h
  cases items with
  |nil=>simp at hi
  |cons yb r=>
   simp only[vn,gA] at hi
   subst hi
   simp only[T,J6] at hD⊢
   rw[hD]
   simp only[cond_false,Gk]
   rw[show Nat.beq j j=true by simp]
   simp only[cond_true]
   refine(late (fun m x hm BH=>h (m+1) x (by simpa using hm) (by omega) (by rw[show j+(m+1)=j+1+m by omega];exact BH))).trans ?_
   rw[Vo (D':=fun k=>D k||Nat.beq k j)]
   ·exact BJ.refl _
   ·intro k _
    have:Nat.beq (j+1+k) j=false:=by
     cases hb:Nat.beq (j+1+k) j
     ·rfl
     ·have:=nk hb;omega
    simp[this]
 |succ i ih=>
  intro items j σ hi hD h
  cases items with
  |nil=>simp at hi
  |cons yb r=>
   simp only[T]
   have hj:Nat.beq j (j+(i+1))=false:=by
    cases hb:Nat.beq j (j+(i+1))
    ·rfl
    ·have:=nk hb;omega
   rw[hj,QK]
   have:=ih (items:=r) (j:=j+1) (σ:=bif D j then apply yb.o yb.r σ else σ) (by simpa using hi) (by rw[show j+1+i=j+(i+1) by omega];exact hD)
    (fun m x hm gI BH=>h (m+1) x (by simpa using hm) (by omega) (by rw[show j+(m+1)=j+1+m by omega];exact BH))
   rw[show j+(i+1)=j+1+i by omega]
   exact this
theorem Vk(m i:Nat):yR m i=m.testBit i:=by
 have h:yR m i=Nat.beq ((m>>>i)&&&1) 1:=rfl
 rw[h,Nat.and_one_is_mod,Nat.shiftRight_eq_div_pow,Nat.testBit_eq_decide_div_mod_eq]
 rw[FJ,J5,decide_eq_true_eq]
theorem adJ{a b i:Nat}(h:yR (Nat.lor a b) i=true):yR a i=true\/yR b i=true:=by
 rw[Vk] at h⊢
 rw[Vk]
 have h:(a|||b).testBit i=true:=h
 rw[Nat.testBit_or,FI] at h
 exact h
theorem amI{k i:Nat}(h:yR (Nat.shiftLeft 1 k) i=true):i=k:=by
 rw[Vk] at h
 have h:(1<<<k).testBit i=true:=h
 rw[Nat.shiftLeft_eq,QL,Nat.testBit_two_pow] at h
 exact(of_decide_eq_true h).symm
theorem aaj{i:Nat}:yR 0 i=false:=by rw[Vk,Nat.zero_testBit]
theorem adO{D:Nat->Prop}{acc:List Nat}:∀(es:List Edge)(m:Nat),(∀i,yR m i=true->D i)->(∀e∈es,Region.binds .any e=true->D e.on/\∀i,yR (acc.getD e.on 0) i=true->D i)->
  ∀i,yR (es.foldl (fun m e=>bif Region.binds .any e then Nat.lor m (Nat.lor (Nat.shiftLeft 1 e.on) (acc.getD e.on 0)) else m) m) i=true->D i
 |[],m,h,_,i,hi=>h i hi
 |e::es,m,h,he,i,hi=>by
  rw[List.foldl_cons] at hi
  refine adO es _ (fun j hj=> ?_) (fun e' h'=>he e' (fA _ h')) i hi
  rw[im] at hj
  split at hj
  ·rename_i hb
   obtain⟨h1,h2⟩:=he e iy hb
   rcases adJ hj with hj|hj
   ·exact h j hj
   ·rcases adJ hj with hj|hj
    ·rw[amI hj];exact h1
    ·exact h2 j hj
  ·exact h j hj
theorem adN{D:Nat->Prop}:∀{ops:List Oper}{acc:List Nat}{n:Nat},acc.length=n->(∀j,j<n->D j->∀i,yR (acc.getD j 0) i=true->D i)->
  (∀(m:Nat)(o:Oper),ops[m]? =some o->D (n+m)->∀e∈o.after.toList,Region.binds .any e=true->D e.on)->
  ∀j,D j->∀i,yR ((ops.foldl (fun acc o=>acc++[o.after.toList.foldl (fun m e=>bif Region.binds .any e then Nat.lor m (Nat.lor (Nat.shiftLeft 1 e.on) (acc.getD e.on 0)) else m) 0]) acc).getD j 0) i=true->D i
 |[],acc,n,hl,ha,_,j,hj,i,hi=>by
  rcases pe j n with h|h
  ·exact ha j h hj i hi
  ·simp only[List.foldl_nil] at hi
   rw[ez,od (by omega)] at hi
   simp[aaj] at hi
 |o::ops,acc,n,hl,ha,ho,j,hj,i,hi=>by
  simp only[List.foldl_cons] at hi
  refine adN (ops:=ops) (n:=n+1) (by simp[hl]) (fun j' ue hD i' qw=> ?_) (fun m o' hm hD=>ho (m+1) o' (by simpa using hm) (by rw[show n+(m+1)=n+1+m by omega];exact hD)) j hj i hi
  have gd:∀m i,yR (acc.getD m 0) i=true->D m->D i:=by
   intro m i hi hD
   rcases pe m n with h|h
   ·exact ha m h hD i hi
   ·rw[ez,od (by omega)] at hi
    simp[aaj] at hi
  rcases pe j' n with h|h
  ·rw[KE (by omega)] at qw
   exact ha j' h hD i' qw
  ·have:j'=n:=by omega
   subst this
   rw[Pl (by omega),hl,Za] at qw
   simp only[List.getD_cons_zero] at qw
   refine adO (D:=D) (acc:=acc) o.after.toList 0 (fun i hi=>by rw[aaj] at hi;cases hi) (fun e he hb=> ?_) i' qw
   have hon:D e.on:=ho 0 o rfl (by simpa using hD) e he hb
   exact⟨hon,fun i hi=>gd e.on i hi hon⟩
theorem Z4{x y:List Key}(h:meet x y=false):∀k∈x,k∉y:=by
 intro k hk hy
 have:meet x y=true:=vm.2 ⟨k,hk,sR.2 hy⟩
 rw[h] at this;cases this
structure HA(ops:List Oper)(x y:Item U):Prop where
 w:∀k∈x.r.writes (x.o.dst.getD 1000000),k∉y.ks/\k∉y.r.writes (y.o.dst.getD 1000000)
 r:∀k∈y.r.writes (y.o.dst.getD 1000000),k∉x.ks
 n:∀k∈x.r.news (x.o.dst.getD 1000000),k∉y.r.names
 d:∀d,x.o.dst=some d->d∉slotsOf ops y.o/\y.o.dst≠some d
 e:∀d,y.o.dst=some d->d∉slotsOf ops x.o
theorem HA.of{ops:List Oper}{x y:Item U}{i j:Nat}(h:IK ops x.o y.o (ol i x) (ol j y)=true):HA ops x y:=by
 unfold IK ol at h
 simp only[cJ,ru] at h
 obtain⟨⟨⟨⟨h1,h2⟩,h5⟩,h3⟩,h4⟩:=h
 refine⟨fun k hk=> ?_,Z4 h2,Z4 h5,fun d hd=> ?_,fun d hd=> ?_⟩
 ·have:=Z4 h1 k hk
  simp only[jC,not_or] at this⊢
  exact this
 ·rw[hd] at h3
  simp only[cJ,ru] at h3
  refine⟨fun hm=> ?_,fun he=> ?_⟩
  ·have:(slotsOf ops y.o).any (Nat.beq d)=true:=vm.2 ⟨d,hm,by simp⟩
   rw[h3.1] at this;cases this
  ·rw[he] at h3;simp at h3
 ·rw[hd] at h4
  simp only[ru] at h4
  intro hm
  have:(slotsOf ops x.o).any (Nat.beq d)=true:=vm.2 ⟨d,hm,by simp⟩
  rw[h4] at this;cases this
theorem WK.WX{ops:List Oper}{items:List (Item U)}{σ:ak U}(h:WK E ops 0 items σ []){j:Nat}{it:Item U}(hj:items[j]? =some it):
  abX E ops it (T (fun k=>decide (k<j)) 0 items σ) (yw 0 (items.take j) []):=by
 have:=T' h hj
 rwa[QY (D:=fun k=>decide (k<j)) (j:=0) (fun k=>by simp)] at this
theorem aku{ops:List Oper}{o:Oper}(h:∀t∈Ae ops o,σ.get t=τ.get t):iz ops o σ=iz ops o τ:=by
 unfold iz
 unfold Ae at h
 split
 ·rfl
 ·rename_i g want hg
  rw[hg] at h
  simp only at h
  have:((ops[g]?).bind (·.dst)).bind σ.get=((ops[g]?).bind (·.dst)).bind τ.get:=by
   cases hq:ops[g]? with
   |none=>rfl
   |some q=>
    rw[hq] at h
    cases hd:q.dst with
    |none=>simp[hd]
    |some d=>simp only[Option.bind_some,hd];exact h d (by simp[hd])
  rw[this]
theorem aaa{listed:Array Bool}{k:Nat}(h:k<listed.size)(d d':Bool):listed.getD k d=listed.getD k d':=by
 simp[QR,h]
theorem amm(hE:E.Good){ops:Array Oper}{items:List (Item U)}{σ:ak U}(jn:WK E ops.toList 0 items σ [])(w7:items.map (·.o)=ops.toList)(SC:Np ops.toList (yw 0 items [])=true)
  (hN:∀k,Names σ k->(k.1∈BI ops.toList\/k.1=1000000)->1024<=k.2) {Q:Exit->Act->World->Prop} (rY:∀F kv fp a w,cM E pm F kv fp (xb items σ) a w->Q .normal a w):
  ∀(SO:Nat)(listed:Array Bool)(F:Nat->Prop)(kv:Key->Value)(fp:Key->List Nat)(a:Act)(w:World),cM E pm F kv fp (T (fun k=>listed.getD k false) 0 items σ) a w->listed.size=ops.size->
   (∀j,listed.getD j false=true->∀o,ops[j]? =some o->∀e∈o.after,Region.binds .any e=true->listed.getD e.on false=true)->listed.toList.count false<=SO->
   wpAny E.P .any ops Q SO listed a w:=by
 have hlen:items.length=ops.size:=by simpa using congrArg List.length w7
 have sF:∀(j:Nat)(it:Item U),items[j]? =some it->ops[j]? =some it.o:=by
  intro j it hj
  have:(items.map (·.o))[j]? =some it.o:=by rw[nT,hj];rfl
  rw[w7] at this
  simpa using this
 unfold Np at SC
 simp only[cJ] at SC
 obtain⟨aaN,W_⟩:=SC
 have Be:∀(j:Nat)(o:Oper),ops[j]? =some o->∀e∈o.after,Region.binds .any e=true->e.on<j:=by
  intro j o hj e he hb
  unfold WW at aaN
  rw[sC] at aaN
  have hm:(o,j)∈ops.toList.zipIdx:=by
   rw[List.mem_zipIdx_iff_getElem?]
   simpa using hj
  have:=sC.1 (aaN _ hm) e (by simpa using he)
  rw[hb] at this
  exact Nat.blt_eq▸this
 have yh:∀{D:Nat->Prop},(∀j,D j->∀o,ops[j]? =some o->∀e∈o.after,Region.binds .any e=true->D e.on)->∀(i j:Nat)(x y:Item U),items[i]? =some x->items[j]? =some y->i<j->D j->¬D i->HA ops.toList x y:=by
  intro D hD i j x y hi hj FQ hDj hDi
  rw[sC] at W_
  have h1:=W_ (ol j y) (Rq.2 (.inr ⟨j,y,hj,by simp⟩))
  rw[sC] at h1
  have h2:=h1 (ol i x) (Rq.2 (.inr ⟨i,x,hi,by simp⟩))
  simp only[FI,ru] at h2
  rcases h2 with(h2|h2)|h2
  ·have:Nat.blt i j=true:=by simpa using FQ
   simp only[ol] at h2
   rw[this] at h2;cases h2
  ·exfalso
   refine hDi (adN (D:=D) (acc:=[]) (n:=0) rfl (fun j hj=>by omega) (fun m o hm BH e he hb=> ?_) j hDj i h2)
   exact hD m (by simpa using BH) o (by simpa using hm) e (by simpa using he) hb
  ·have e1:ops.toList[(ol i x).i]? =some x.o:=by simpa[ol] using sF i x hi
   have e2:ops.toList[(ol j y).i]? =some y.o:=by simpa[ol] using sF j y hj
   rw[e1,e2] at h2
   exact HA.of h2
 intro SO
 induction SO with
 |zero=>
  intro listed F kv fp a w hs xx iv anr
  have Gi:∀k,k<items.length->listed.getD k false=true:=by
   intro k hk
   have cU:k<listed.size:=by omega
   rw[QR,zdk cU]
   simp only[FR]
   cases hb:listed[k] with
   |true=>rfl
   |false=>
    exfalso
    have:false∈listed.toList:=by rw[<-hb];exact Array.mem_toList_iff.2 (Array.getElem_mem cU)
    have:=List.count_pos_iff.2 this
    omega
  refine⟨?_,rY F kv fp a w ?_⟩
  ·rw[zdm]
   intro i hi
   obtain⟨h0,o,ho,_⟩:=mem_ready.1 hi
   have gI:i<ops.size:=(Array.getElem?_eq_some_iff.1 ho).1
   rw[aaa (by omega) true false,Gi i (by omega)] at h0
   cases h0
  ·rw[<-OW (D:=fun k=>listed.getD k false) (j:=0) (fun k hk=>by simpa using Gi k hk)];exact hs
 |succ SO ih=>
  intro listed F kv fp a w hs xx iv anr
  refine⟨fun M_=> ?_,fun i hi=> ?_⟩
  ·have Gi:∀k,k<items.length->listed.getD k false=true:=by
    intro k
    induction k using Nat.strongRecOn with
    |ind k ihk=>
     intro hk
     cases hb:listed.getD k false with
     |true=>rfl
     |false=>
      exfalso
      have gI:k<ops.size:=by omega
      have hr:k∈Region.ready .any ops listed:=by
       refine mem_ready.2 ⟨by rw[aaa (by omega) true false];exact hb,ops[k],zdk gI,fun e he hbe=> ?_⟩
       have:=Be k ops[k] (zdk gI) e he hbe
       exact ihk e.on this (by omega)
      rw[M_] at hr;cases hr
   refine rY F kv fp a w ?_
   rw[<-OW (D:=fun k=>listed.getD k false) (j:=0) (fun k hk=>by simpa using Gi k hk)];exact hs
  ·obtain⟨h0,o,ho,Xn⟩:=mem_ready.1 hi
   have gI:i<ops.size:=(Array.getElem?_eq_some_iff.1 ho).1
   have hui:listed.getD i false=false:=by rw[aaa (by omega) false true];exact h0
   obtain⟨it,Ml⟩:∃it,items[i]? =some it:=⟨_,fw (by omega)⟩
   have hoi:ops[i]? =some it.o:=sF i it Ml
   have:o=it.o:=by rw[ho] at hoi;exact Zd hoi
   subst this
   generalize hDd:(fun k=>listed.getD k false)=D at hs
   have hDi:D i=false:=by rw[<-hDd];exact hui
   have V6:∀j,D j=true->∀o,ops[j]? =some o->∀e∈o.after,Region.binds .any e=true->D e.on=true:=by rw[<-hDd];exact iv
   have So:∀(m:Nat)(y:Item U),items[m]? =some y->i<m->D m=true->HA ops.toList it y:=fun m y hm him BH=>
    yh (D:=fun k=>D k=true) V6 i m it y Ml hm him BH (by simp[hDi])
   have abg:∀(m:Nat)(x:Item U),items[m]? =some x->m<i->D m=false->HA ops.toList x it:=fun m x hm hmi BH=>
    yh (D:=fun k=>D k=true\/k=i) (by
     intro j hj o' Sk e he hb
     rcases hj with hj|hj
     ·exact .inl (V6 j hj o' Sk e he hb)
     ·subst hj
      rw[ho] at Sk
      cases Sk
      left
      rw[<-hDd]
      exact Xn e he hb) m i x it hm Ml hmi (.inr rfl) (by simp[BH];omega)
   have SD:∀(m:Nat)(x:Item U),items[m]? =some x->D (0+m)≠decide (0+m<i)->(∀d,x.o.dst=some d->d∉slotsOf ops.toList it.o)/\∀k∈x.r.writes (x.o.dst.getD 1000000),k∉it.ks:=by
    intro m x hm eZ
    simp only[vk] at eZ
    rcases Nat.lt_trichotomy m i with EL|pV|hgt
    ·have BH:D m=false:=by
      cases hb:D m
      ·rfl
      ·exact absurd (by rw[hb];simp[EL]) eZ
     have:=abg m x hm EL BH
     exact⟨fun d hd=>(this.d d hd).1,fun k hk=>(this.w k hk).1⟩
    ·subst pV
     exact absurd (by rw[hDi];simp) eZ
    ·have BH:D m=true:=by
      cases hb:D m
      ·exact absurd (by rw[hb];simp;omega) eZ
      ·rfl
     have:=So m x hm hgt BH
     exact⟨fun d hd=>this.e d hd,fun k hk=>this.r k hk⟩
   obtain⟨Ab,hok⟩:=jn.WX Ml
   have W8:∀t∈slotsOf ops.toList it.o,(T (fun k=>decide (k<i)) 0 items σ).get t=(T D 0 items σ).get t:=fun t ht=>
    (Y5 (fun m x hm eZ e=>((SD m x hm eZ).1 t e) ht) rfl).symm
   have aem:∀k∈it.ks,(T (fun k=>decide (k<i)) 0 items σ).bO k=(T D 0 items σ).bO k:=fun k hk=>
    (Y7 (fun m x hm eZ e=>(SD m x hm eZ).2 k e hk) rfl).symm
   have aen:∀k∈it.ks,(T (fun k=>decide (k<i)) 0 items σ).aT.any (iR k)=(T D 0 items σ).aT.any (iR k):=fun k hk=>
    (adS (fun m x hm eZ e=>(SD m x hm eZ).2 k e hk) rfl).symm
   have hw:iz ops.toList it.o (T D 0 items σ)=iz ops.toList it.o (T (fun k=>decide (k<i)) 0 items σ):=
    aku (fun t ht=>(W8 t (rv _ ht)).symm)
   have BZ:qW (T D 0 items σ) it.o=true:=by
    unfold qW at Ab⊢
    rw[T_n] at Ab⊢
    exact Ab
   refine adl hE hs hoi BZ ?_ (fun F' kv' fp' a' w' kl=>ih (listed.setIfInBounds i true) F' kv' fp' a' w' ?_ (by simp[xx]) ?_ ?_)
   ·rcases hok with⟨g1,g2,g3⟩|⟨g1,g2,g3,g4,g5⟩
    ·exact .inl ⟨by rw[hw];exact g1,g2⟩
    ·refine .inr ⟨by rw[hw];exact g1,g2.imp fun b g2=>akF g2 (by rw[T_n,T_n]) (fun t ht=>W8 t (sD _ (oQ.2 ⟨.tmp t,ht,by simp⟩))) aem aen,g3,fun k hk vy=> ?_⟩
     ·
      have Ss:∃j,k=(it.o.dst.getD 1000000,j)/\j<1024/\it.r.dR≠[]:=by
       simp only[dR,mf] at hk
       obtain⟨⟨j,e⟩,hj,rfl⟩:=hk
       unfold xg at g5
       have:=sC.1 g5 _ hj
       exact⟨j,rfl,Nat.blt_eq▸this,(fun e=>by rw[e] at hj;cases hj)⟩
      obtain⟨j,rfl,hj,eZ⟩:=Ss
      have hkw:((it.o.dst.getD 1000000,j):Key)∈it.r.news (it.o.dst.getD 1000000):=hk
      rcases aan vy with vy|⟨m,x,hm,BH,hx⟩
      ·have:=hN _ vy (by
        cases hd:it.o.dst with
        |none=>exact .inr rfl
        |some d=>
         refine .inl ?_
         simp only[FR,BI,oQ]
         exact⟨it.o,by have:=hoi;rw[<-Mt] at this;exact Gl this,by simp[hd]⟩)
       simp only at this
       omega
      ·simp only[vk] at BH
       rcases Nat.lt_trichotomy m i with EL|pV|hgt
       ·
        unfold tc at g4
        have hie:it.r.dR.isEmpty=false:=by cases ha:it.r.dR with
         |nil=>exact absurd ha eZ
         |cons _ _=>rfl
        rw[hie,Gk,sC] at g4
        have EK:ol m x∈yw 0 (items.take i) []:=Rq.2 (.inr ⟨m,x,by rw[qn,if_pos EL];exact hm,by simp⟩)
        have:=g4 _ EK
        simp only[ru,ol] at this
        rw[<-wu,vm] at this
        exact this ⟨_,sD _ (rv _ hx),by simp⟩
       ·subst pV
        rw[hDi] at BH;cases BH
       ·exact(So m x hm hgt BH).n _ hkw hx
   ·refine kl.congr ?_
    have h1:=TZ (D:=D) (i:=i) (it:=it) (items:=items) (j:=0) (σ:=σ) Ml (by simpa using hDi) (fun m y hm him BH=>by
     have:=So m y hm him (by simpa using BH)
     exact⟨fun d hd=>(this.d d hd).2,fun k hk=>(this.w k hk).2⟩)
    refine h1.trans ?_
    rw[Vo (D':=fun k=>(listed.setIfInBounds i true).getD k false)]
    ·exact BJ.refl _
    ·intro k hk
     simp only[vk]
     rw[<-hDd]
     simp only
     cases hb:Nat.beq k i
     ·rw[QK,getD_set_ne]
      intro e
      subst e
      simp at hb
     ·have:=nk hb
      subst this
      rw[Bool.or_true,QR,Array.getElem?_setIfInBounds_self_of_lt (by omega)]
      rfl
   ·intro j hj o' Sk e he hb
    by_cases Xk:j=i
    ·subst Xk
     rw[ho] at Sk
     cases Sk
     exact getD_set_true (Xn e he hb)
    ·rw[getD_set_ne false (Ne.symm Xk)] at hj
     exact getD_set_true (iv j hj o' Sk e he hb)
   ·have hli:i<listed.size:=by omega
    have hb:listed[i]=false:=by
     rw[QR,zdk hli] at hui
     simpa using hui
    rw[Array.toList_setIfInBounds,List.count_set (by simpa using hli)]
    have e1:(listed.toList[i]'(by simpa using hli)==false)=true:=by simp[hb]
    have e2:(true==false)=false:=rfl
    rw[e1,e2]
    have:false∈listed.toList:=by rw[<-hb];exact Array.mem_toList_iff.2 (Array.getElem_mem hli)
    have:=List.count_pos_iff.2 this
    simp only[if_true,xv,if_false]
    omega
end AM
