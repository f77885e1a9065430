import Derived.Test.YtknfcngfhlpaeaaGreatDoorQAmRegion
namespace AM
set_option linter.unusedVariables false
open Go
variable{U:kz}{E:Env U}{pm:Pm}
variable{F F':Nat->Prop}{kv:Key->Value}{fp:Key->List Nat}{σ τ:ak U}{a:Act}{w w':World}
def T(D:Nat->Bool):Nat->List (Item U)->ak U->ak U
 |_,[],σ=>σ
 |j,it::r,σ=>T D (j+1) r (bif D j then apply it.o it.r σ else σ)
theorem T_n{D:Nat->Bool}:∀{items:List (Item U)}{j:Nat}{σ:ak U},(T D j items σ).n=σ.n
 |[],_,_=>rfl
 |it::r,j,σ=>by
  simp only[T]
  rw[T_n]
  cases D j<;>rfl
theorem VM{D D':Nat->Bool}{s:Nat}:∀{items:List (Item U)}{j:Nat}{σ τ:ak U},(∀(k:Nat)(it:Item U),items[k]? =some it->D (j+k)≠D' (j+k)->it.o.dst≠some s)->σ.get s=τ.get s->
  (T D j items σ).get s=(T D' j items τ).get s
 |[],_,_,_,_,h=>h
 |it::r,j,σ,τ,hd,h=>by
  simp only[T]
  refine VM (fun k wV hk d_=>hd (k+1) wV (by simpa using hk) (by rw[show j+(k+1)=j+1+k by omega];exact d_)) ?_
  have h0:=hd 0 it rfl
  simp only[HD] at h0
  have w5:∀{ρ:ak U},it.o.dst≠some s->(apply it.o it.r ρ).get s=ρ.get s:=by
   intro ρ d_
   rw[FI]
   cases jR:it.o.dst with
   |none=>rfl
   |some d=>simp only;rw[if_neg (fun e=>d_ (by rw[jR,e]))]
  cases h1:D j<;>cases h2:D' j<;>simp only[cond_true,cond_false]
  ·exact h
  ·rw[w5 (h0 (by rw[h1,h2];simp)),h]
  ·rw[w5 (h0 (by rw[h1,h2];simp)),h]
  ·rw[FI,FI,h]
theorem VO{D D':Nat->Bool}{k:Key}:∀{items:List (Item U)}{j:Nat}{σ τ:ak U},(∀(m:Nat)(it:Item U),items[m]? =some it->D (j+m)≠D' (j+m)->k∉it.r.writes (it.o.dst.getD 1000000))->σ.bH k=τ.bH k->
  (T D j items σ).bH k=(T D' j items τ).bH k
 |[],_,_,_,_,h=>h
 |it::r,j,σ,τ,hd,h=>by
  simp only[T]
  refine VO (fun m wV hm d_=>hd (m+1) wV (by simpa using hm) (by rw[show j+(m+1)=j+1+m by omega];exact d_)) ?_
  have h0:=hd 0 it rfl
  simp only[HD] at h0
  have w5:∀{ρ:ak U},k∉it.r.writes (it.o.dst.getD 1000000)->(apply it.o it.r ρ).bH k=ρ.bH k:=by
   intro ρ d_
   rw[J3,if_neg (fun e=>d_ (WO.1 e))]
  cases h1:D j<;>cases h2:D' j<;>simp only[cond_true,cond_false]
  ·exact h
  ·rw[w5 (h0 (by rw[h1,h2];simp)),h]
  ·rw[w5 (h0 (by rw[h1,h2];simp)),h]
  ·rw[J3,J3,h]
theorem ahs{r:bX U}{d:Nat}{k:Key}(h:k∉r.writes d):(r.jh.map (·.1)).any (ik k)=false:=by
 rw[<-uO,q_]
 exact fun e=>h (pd _ e)
theorem abp{D D':Nat->Bool}{k:Key}:∀{items:List (Item U)}{j:Nat}{σ τ:ak U},(∀(m:Nat)(it:Item U),items[m]? =some it->D (j+m)≠D' (j+m)->k∉it.r.writes (it.o.dst.getD 1000000))->σ.aR.any (ik k)=τ.aR.any (ik k)->
  (T D j items σ).aR.any (ik k)=(T D' j items τ).aR.any (ik k)
 |[],_,_,_,_,h=>h
 |it::r,j,σ,τ,hd,h=>by
  simp only[T]
  refine abp (fun m wV hm d_=>hd (m+1) wV (by simpa using hm) (by rw[show j+(m+1)=j+1+m by omega];exact d_)) ?_
  have h0:=hd 0 it rfl
  simp only[HD] at h0
  have w5:∀{ρ:ak U},k∉it.r.writes (it.o.dst.getD 1000000)->(apply it.o it.r ρ).aR.any (ik k)=ρ.aR.any (ik k):=by
   intro ρ d_
   rw[Mh,ahs d_];rfl
  cases h1:D j<;>cases h2:D' j<;>simp only[cond_true,cond_false]
  ·exact h
  ·rw[w5 (h0 (by rw[h1,h2];simp)),h]
  ·rw[w5 (h0 (by rw[h1,h2];simp)),h]
  ·rw[Mh,Mh,h]
theorem VN{D:Nat->Bool}:∀{items:List (Item U)}{j:Nat}{σ τ:ak U},z_ σ τ->z_ (T D j items σ) (T D j items τ)
 |[],_,_,_,h=>h
 |it::r,j,σ,τ,h=>by
  simp only[T]
  refine VN ?_
  cases D j
  ·exact h
  ·exact h.apply _ _
theorem aie{o:Oper}{r:bX U}{k:Key}(h:Names (apply o r σ) k):k∈r.names\/Names σ k:=by
 rcases h with⟨s,x,hs,hk⟩|⟨k',cs,he,x,hx,hk⟩
 ·rw[FI] at hs
  cases hd:o.dst with
  |none=>rw[hd] at hs;exact .inr (.inl ⟨s,x,hs,hk⟩)
  |some d=>
   rw[hd] at hs
   simp only at hs
   split at hs
   ·left
    unfold bX.names
    rw[hs]
    exact pP _ (pP _ hk)
   ·exact .inr (.inl ⟨s,x,hs,hk⟩)
 ·rw[J3] at he
  split at he
  ·left
   have hm:=D6 he
   have hn:k∈(ie.box cs:ie U).names:=nF.2 ⟨x,hx,hk⟩
   simp only[lays,ol,jE,kW,nT,fM] at hm
   unfold bX.names
   rcases hm with(⟨y,h1,h2,h3⟩|⟨y,h1,h2,h3⟩)|⟨y,h1,h2,h3⟩
   ·exact pP _ (pd _ (nF.2 ⟨y,h1,by obtain⟨y1,y2⟩:=y;simp only at h3;subst h3;exact hn⟩))
   ·exact pd _ (nF.2 ⟨y,h1,by obtain⟨y1,y2⟩:=y;simp only at h3;subst h3;exact hn⟩)
   ·cases h3
  ·exact .inr (.inr ⟨k',cs,he,x,hx,hk⟩)
theorem W5{D:Nat->Bool}{k:Key}:∀{items:List (Item U)}{j:Nat}{σ:ak U},Names (T D j items σ) k->Names σ k\/∃m it,items[m]? =some it/\D (j+m)=true/\k∈it.r.names
 |[],_,_,h=> .inl h
 |it::r,j,σ,h=>by
  simp only[T] at h
  rcases W5 h with h|⟨m,wV,h1,h2,h3⟩
  ·cases hd:D j<;>rw[hd] at h<;>simp only[cond_true,cond_false] at h
   ·exact .inl h
   ·rcases aie h with h|h
    ·exact .inr ⟨0,it,rfl,hd,h⟩
    ·exact .inl h
  ·exact .inr ⟨m+1,wV,by simpa using h1,by rw[show j+(m+1)=j+1+m by omega];exact h2,h3⟩
theorem LS{D:Nat->Bool}:∀{items:List (Item U)}{j:Nat}{σ:ak U},(∀k,k<items.length->D (j+k)=true)->T D j items σ=vJ items σ
 |[],_,_,_=>rfl
 |it::r,j,σ,h=>by
  simp only[T,vJ]
  have h0:=h 0 (by simp)
  simp only[HD] at h0
  rw[h0]
  exact LS (fun k hk=>by rw[show j+1+k=j+(k+1) by omega];exact h (k+1) (by simpa using hk))
theorem Hz{D:Nat->Bool}:∀{items:List (Item U)}{j:Nat}{σ:ak U},(∀k,k<items.length->D (j+k)=false)->T D j items σ=σ
 |[],_,_,_=>rfl
 |it::r,j,σ,h=>by
  simp only[T]
  have h0:=h 0 (by simp)
  simp only[HD] at h0
  rw[h0]
  exact Hz (fun k hk=>by rw[show j+1+k=j+(k+1) by omega];exact h (k+1) (by simpa using hk))
theorem RT{D D':Nat->Bool}:∀{items:List (Item U)}{j:Nat}{σ:ak U},(∀k,k<items.length->D (j+k)=D' (j+k))->T D j items σ=T D' j items σ
 |[],_,_,_=>rfl
 |it::r,j,σ,h=>by
  simp only[T]
  have h0:=h 0 (by simp)
  simp only[HD] at h0
  rw[h0]
  exact RT (fun k hk=>by rw[show j+1+k=j+(k+1) by omega];exact h (k+1) (by simpa using hk))
theorem NK{D:Nat->Bool}:∀{items:List (Item U)}{i j:Nat}{σ:ak U},(∀k,D k=decide (k<j+i))->vJ (items.take i) σ=T D j items σ
 |[],i,j,σ,_=>by cases i<;>rfl
 |it::r,0,j,σ,h=>by
  rw[List.take_zero]
  exact(Hz (fun k _=>by rw[h];simp)).symm
 |it::r,i+1,j,σ,h=>by
  simp only[List.take_succ_cons,vJ,T]
  rw[show D j=true by rw[h];simp]
  exact NK (fun k=>by rw[h,show j+(i+1)=j+1+i by omega])
theorem QF{ops:List Oper}:∀{items:List (Item U)}{i j:Nat}{σ:ak U}{rs:List Rec}{it:Item U},Tl E ops i items σ rs->items[j]? =some it->Y2 E ops it (vJ (items.take j) σ) (xc i (items.take j) rs)
 |[],_,_,_,_,_,_,h=>by simp at h
 |wV::r,i,0,σ,rs,it,h,hj=>by
  simp only[tJ,fM] at hj
  subst hj
  exact h.1
 |wV::r,i,j+1,σ,rs,it,h,hj=>by
  simp only[List.take_succ_cons,vJ,xc]
  exact QF h.2 (by simpa using hj)
theorem N9{x:Rec}:∀{items:List (Item U)}{i:Nat}{rs:List Rec},x∈xc i items rs↔x∈rs\/∃m it,items[m]? =some it/\x=nk (i+m) it
 |[],i,rs=>by simp[xc]
 |it::r,i,rs=>by
  simp only[xc]
  rw[N9]
  simp only[jF]
  constructor
  ·rintro((h|h)|⟨m,wV,h1,h2⟩)
   ·exact .inr ⟨0,it,rfl,by simpa using h⟩
   ·exact .inl h
   ·exact .inr ⟨m+1,wV,by simpa using h1,by rw[h2,show i+(m+1)=i+1+m by omega]⟩
  ·rintro(h|⟨m,wV,h1,h2⟩)
   ·exact .inl (.inr h)
   ·cases m with
    |zero=>simp only[tJ,fM] at h1;subst h1;exact .inl (.inl (by simpa using h2))
    |succ m=>exact .inr ⟨m,wV,by simpa using h1,by rw[h2,show i+(m+1)=i+1+m by omega]⟩
theorem QE{D:Nat->Bool}{i:Nat}{it:Item U}:∀{items:List (Item U)}{j:Nat}{σ:ak U},items[i]? =some it->D (j+i)=false->
  (∀(m:Nat)(wV:Item U),items[m]? =some wV->i<m->D (j+m)=true->(∀d,it.o.dst=some d->wV.o.dst≠some d)/\∀k∈it.r.writes (it.o.dst.getD 1000000),k∉wV.r.writes (wV.o.dst.getD 1000000))->
  z_ (apply it.o it.r (T D j items σ)) (T (fun k=>D k||Nat.beq k (j+i)) j items σ):=by
 have late:∀{items:List (Item U)}{j:Nat}{σ:ak U},(∀(m:Nat)(wV:Item U),items[m]? =some wV->D (j+m)=true->(∀d,it.o.dst=some d->wV.o.dst≠some d)/\∀k∈it.r.writes (it.o.dst.getD 1000000),k∉wV.r.writes (wV.o.dst.getD 1000000))->
   z_ (apply it.o it.r (T D j items σ)) (T D j items (apply it.o it.r σ)):=by
  intro items
  induction items with
  |nil=>intro j σ _;exact z_.refl _
  |cons wV r ih=>
   intro j σ h
   simp only[T]
   refine(ih (fun m x hm hD=>h (m+1) x (by simpa using hm) (by rw[show j+(m+1)=j+1+m by omega];exact hD))).trans (VN ?_)
   cases hd:D j<;>simp only[cond_true,cond_false]
   ·exact z_.refl _
   ·obtain⟨h1,h2⟩:=h 0 wV rfl (by simpa using hd)
    exact(ajN h1 h2).symm
 induction i with
 |zero=>
  intro items j σ hi hD h
  cases items with
  |nil=>simp at hi
  |cons wV r=>
   simp only[tJ,fM] at hi
   subst hi
   simp only[T,HD] at hD⊢
   rw[hD]
   simp only[cond_false,Fw]
   rw[show Nat.beq j j=true by simp]
   simp only[cond_true]
   refine(late (fun m x hm zX=>h (m+1) x (by simpa using hm) (by omega) (by rw[show j+(m+1)=j+1+m by omega];exact zX))).trans ?_
   rw[RT (D':=fun k=>D k||Nat.beq k j)]
   ·exact z_.refl _
   ·intro k _
    have:Nat.beq (j+1+k) j=false:=by
     cases hb:Nat.beq (j+1+k) j
     ·rfl
     ·have:=mc hb;omega
    simp[this]
 |succ i ih=>
  intro items j σ hi hD h
  cases items with
  |nil=>simp at hi
  |cons wV r=>
   simp only[T]
   have hj:Nat.beq j (j+(i+1))=false:=by
    cases hb:Nat.beq j (j+(i+1))
    ·rfl
    ·have:=mc hb;omega
   rw[hj,Nk]
   have:=ih (items:=r) (j:=j+1) (σ:=bif D j then apply wV.o wV.r σ else σ) (by simpa using hi) (by rw[show j+1+i=j+(i+1) by omega];exact hD)
    (fun m x hm fU zX=>h (m+1) x (by simpa using hm) (by omega) (by rw[show j+(m+1)=j+1+m by omega];exact zX))
   rw[show j+(i+1)=j+1+i by omega]
   exact this
theorem RO(m i:Nat):xp m i=m.testBit i:=by
 have h:xp m i=Nat.beq ((m>>>i)&&&1) 1:=rfl
 rw[h,Nat.and_one_is_mod,Nat.shiftRight_eq_div_pow,Nat.testBit_eq_decide_div_mod_eq]
 rw[DX,Fv,decide_eq_true_eq]
theorem abg{a b i:Nat}(h:xp (Nat.lor a b) i=true):xp a i=true\/xp b i=true:=by
 rw[RO] at h⊢
 rw[RO]
 have h:(a|||b).testBit i=true:=h
 rw[Nat.testBit_or,DW] at h
 exact h
theorem ajE{k i:Nat}(h:xp (Nat.shiftLeft 1 k) i=true):i=k:=by
 rw[RO] at h
 have h:(1<<<k).testBit i=true:=h
 rw[Nat.shiftLeft_eq,Nv,Nat.testBit_two_pow] at h
 exact(of_decide_eq_true h).symm
theorem W1{i:Nat}:xp 0 i=false:=by rw[RO,Nat.zero_testBit]
theorem abl{D:Nat->Prop}{acc:List Nat}:∀(es:List Edge)(m:Nat),(∀i,xp m i=true->D i)->(∀e∈es,Region.binds .any e=true->D e.on/\∀i,xp (acc.getD e.on 0) i=true->D i)->
  ∀i,xp (es.foldl (fun m e=>bif Region.binds .any e then Nat.lor m (Nat.lor (Nat.shiftLeft 1 e.on) (acc.getD e.on 0)) else m) m) i=true->D i
 |[],m,h,_,i,hi=>h i hi
 |e::es,m,h,he,i,hi=>by
  rw[List.foldl_cons] at hi
  refine abl es _ (fun j hj=> ?_) (fun e' h'=>he e' (e8 _ h')) i hi
  rw[gI] at hj
  split at hj
  ·rename_i hb
   obtain⟨h1,h2⟩:=he e gS hb
   rcases abg hj with hj|hj
   ·exact h j hj
   ·rcases abg hj with hj|hj
    ·rw[ajE hj];exact h1
    ·exact h2 j hj
  ·exact h j hj
theorem abk{D:Nat->Prop}:∀{ops:List Oper}{acc:List Nat}{n:Nat},acc.length=n->(∀j,j<n->D j->∀i,xp (acc.getD j 0) i=true->D i)->
  (∀(m:Nat)(o:Oper),ops[m]? =some o->D (n+m)->∀e∈o.after.toList,Region.binds .any e=true->D e.on)->
  ∀j,D j->∀i,xp ((ops.foldl (fun acc o=>acc++[o.after.toList.foldl (fun m e=>bif Region.binds .any e then Nat.lor m (Nat.lor (Nat.shiftLeft 1 e.on) (acc.getD e.on 0)) else m) 0]) acc).getD j 0) i=true->D i
 |[],acc,n,hl,ha,_,j,hj,i,hi=>by
  rcases nL j n with h|h
  ·exact ha j h hj i hi
  ·simp only[List.foldl_nil] at hi
   rw[dB,nb (by omega)] at hi
   simp[W1] at hi
 |o::ops,acc,n,hl,ha,ho,j,hj,i,hi=>by
  simp only[List.foldl_cons] at hi
  refine abk (ops:=ops) (n:=n+1) (by simp[hl]) (fun j' sI hD i' pa=> ?_) (fun m o' hm hD=>ho (m+1) o' (by simpa using hm) (by rw[show n+(m+1)=n+1+m by omega];exact hD)) j hj i hi
  have gd:∀m i,xp (acc.getD m 0) i=true->D m->D i:=by
   intro m i hi hD
   rcases nL m n with h|h
   ·exact ha m h hD i hi
   ·rw[dB,nb (by omega)] at hi
    simp[W1] at hi
  rcases nL j' n with h|h
  ·rw[H8 (by omega)] at pa
   exact ha j' h hD i' pa
  ·have:j'=n:=by omega
   subst this
   rw[Mf (by omega),hl,To] at pa
   simp only[List.getD_cons_zero] at pa
   refine abl (D:=D) (acc:=acc) o.after.toList 0 (fun i hi=>by rw[W1] at hi;cases hi) (fun e he hb=> ?_) i' pa
   have hon:D e.on:=ho 0 o rfl (by simpa using hD) e he hb
   exact⟨hon,fun i hi=>gd e.on i hi hon⟩
theorem WJ{x y:List Key}(h:meet x y=false):∀k∈x,k∉y:=by
 intro k hk hy
 have:meet x y=true:=tI.2 ⟨k,hk,q_.2 hy⟩
 rw[h] at this;cases this
structure Fu(ops:List Oper)(x y:Item U):Prop where
 w:∀k∈x.r.writes (x.o.dst.getD 1000000),k∉y.ks/\k∉y.r.writes (y.o.dst.getD 1000000)
 r:∀k∈y.r.writes (y.o.dst.getD 1000000),k∉x.ks
 n:∀k∈x.r.news (x.o.dst.getD 1000000),k∉y.r.names
 d:∀d,x.o.dst=some d->d∉slotsOf ops y.o/\y.o.dst≠some d
 e:∀d,y.o.dst=some d->d∉slotsOf ops x.o
theorem Fu.of{ops:List Oper}{x y:Item U}{i j:Nat}(h:GF ops x.o y.o (nk i x) (nk j y)=true):Fu ops x y:=by
 unfold GF nk at h
 simp only[cH,pc] at h
 obtain⟨⟨⟨⟨h1,h2⟩,h5⟩,h3⟩,h4⟩:=h
 refine⟨fun k hk=> ?_,WJ h2,WJ h5,fun d hd=> ?_,fun d hd=> ?_⟩
 ·have:=WJ h1 k hk
  simp only[jE,not_or] at this⊢
  exact this
 ·rw[hd] at h3
  simp only[cH,pc] at h3
  refine⟨fun hm=> ?_,fun he=> ?_⟩
  ·have:(slotsOf ops y.o).any (Nat.beq d)=true:=tI.2 ⟨d,hm,by simp⟩
   rw[h3.1] at this;cases this
  ·rw[he] at h3;simp at h3
 ·rw[hd] at h4
  simp only[pc] at h4
  intro hm
  have:(slotsOf ops x.o).any (Nat.beq d)=true:=tI.2 ⟨d,hm,by simp⟩
  rw[h4] at this;cases this
theorem Tl.TD{ops:List Oper}{items:List (Item U)}{σ:ak U}(h:Tl E ops 0 items σ []){j:Nat}{it:Item U}(hj:items[j]? =some it):
  Y2 E ops it (T (fun k=>decide (k<j)) 0 items σ) (xc 0 (items.take j) []):=by
 have:=QF h hj
 rwa[NK (D:=fun k=>decide (k<j)) (j:=0) (fun k=>by simp)] at this
theorem ahr{ops:List Oper}{o:Oper}(h:∀t∈yL ops o,σ.get t=τ.get t):gT ops o σ=gT ops o τ:=by
 unfold gT
 unfold yL at h
 split
 ·rfl
 ·rename_i g want hg
  rw[hg] at h
  simp only at h
  have:((ops[g]?).bind (·.dst)).bind σ.get=((ops[g]?).bind (·.dst)).bind τ.get:=by
   cases hq:ops[g]? with
   |none=>rfl
   |some q=>
    rw[hq] at h
    cases hd:q.dst with
    |none=>simp[hd]
    |some d=>simp only[Option.bind_some,hd];exact h d (by simp[hd])
  rw[this]
theorem WS{listed:Array Bool}{k:Nat}(h:k<listed.size)(d d':Bool):listed.getD k d=listed.getD k d':=by
 simp[NB,h]
theorem aji(hE:E.Good){ops:Array Oper}{items:List (Item U)}{σ:ak U}(iM:Tl E ops.toList 0 items σ [])(vC:items.map (·.o)=ops.toList)(Pp:Kw ops.toList (xc 0 items [])=true)
  (hN:∀k,Names σ k->(k.1∈zY ops.toList\/k.1=1000000)->1024<=k.2) {Q:Exit->Act->World->Prop} (qk:∀F kv fp a w,cG E pm F kv fp (vJ items σ) a w->Q .normal a w):
  ∀(PB:Nat)(listed:Array Bool)(F:Nat->Prop)(kv:Key->Value)(fp:Key->List Nat)(a:Act)(w:World),cG E pm F kv fp (T (fun k=>listed.getD k false) 0 items σ) a w->listed.size=ops.size->
   (∀j,listed.getD j false=true->∀o,ops[j]? =some o->∀e∈o.after,Region.binds .any e=true->listed.getD e.on false=true)->listed.toList.count false<=PB->
   wpAny E.P .any ops Q PB listed a w:=by
 have hlen:items.length=ops.size:=by simpa using congrArg List.length vC
 have qB:∀(j:Nat)(it:Item U),items[j]? =some it->ops[j]? =some it.o:=by
  intro j it hj
  have:(items.map (·.o))[j]? =some it.o:=by rw[mw,hj];rfl
  rw[vC] at this
  simpa using this
 unfold Kw at Pp
 simp only[cH] at Pp
 obtain⟨XB,TQ⟩:=Pp
 have zw:∀(j:Nat)(o:Oper),ops[j]? =some o->∀e∈o.after,Region.binds .any e=true->e.on<j:=by
  intro j o hj e he hb
  unfold TB at XB
  rw[sh] at XB
  have hm:(o,j)∈ops.toList.zipIdx:=by
   rw[List.mem_zipIdx_iff_getElem?]
   simpa using hj
  have:=sh.1 (XB _ hm) e (by simpa using he)
  rw[hb] at this
  exact Nat.blt_eq▸this
 have w5:∀{D:Nat->Prop},(∀j,D j->∀o,ops[j]? =some o->∀e∈o.after,Region.binds .any e=true->D e.on)->∀(i j:Nat)(x y:Item U),items[i]? =some x->items[j]? =some y->i<j->D j->¬D i->Fu ops.toList x y:=by
  intro D hD i j x y hi hj D2 hDj Zx
  rw[sh] at TQ
  have h1:=TQ (nk j y) (N9.2 (.inr ⟨j,y,hj,by simp⟩))
  rw[sh] at h1
  have h2:=h1 (nk i x) (N9.2 (.inr ⟨i,x,hi,by simp⟩))
  simp only[DW,pc] at h2
  rcases h2 with(h2|h2)|h2
  ·have:Nat.blt i j=true:=by simpa using D2
   simp only[nk] at h2
   rw[this] at h2;cases h2
  ·exfalso
   refine Zx (abk (D:=D) (acc:=[]) (n:=0) rfl (fun j hj=>by omega) (fun m o hm zX e he hb=> ?_) j hDj i h2)
   exact hD m (by simpa using zX) o (by simpa using hm) e (by simpa using he) hb
  ·have e1:ops.toList[(nk i x).i]? =some x.o:=by simpa[nk] using qB i x hi
   have e2:ops.toList[(nk j y).i]? =some y.o:=by simpa[nk] using qB j y hj
   rw[e1,e2] at h2
   exact Fu.of h2
 intro PB
 induction PB with
 |zero=>
  intro listed F kv fp a w hs tU gB akm
  have Ej:∀k,k<items.length->listed.getD k false=true:=by
   intro k hk
   have cK:k<listed.size:=by omega
   rw[NB,ZG cK]
   simp only[DY]
   cases hb:listed[k] with
   |true=>rfl
   |false=>
    exfalso
    have:false∈listed.toList:=by rw[<-hb];exact Array.mem_toList_iff.2 (Array.getElem_mem cK)
    have:=List.count_pos_iff.2 this
    omega
  refine⟨?_,qk F kv fp a w ?_⟩
  ·rw[zdm]
   intro i hi
   obtain⟨h0,o,ho,_⟩:=mem_ready.1 hi
   have fU:i<ops.size:=(Array.getElem?_eq_some_iff.1 ho).1
   rw[WS (by omega) true false,Ej i (by omega)] at h0
   cases h0
  ·rw[<-LS (D:=fun k=>listed.getD k false) (j:=0) (fun k hk=>by simpa using Ej k hk)];exact hs
 |succ PB ih=>
  intro listed F kv fp a w hs tU gB akm
  refine⟨fun Ki=> ?_,fun i hi=> ?_⟩
  ·have Ej:∀k,k<items.length->listed.getD k false=true:=by
    intro k
    induction k using Nat.strongRecOn with
    |ind k ihk=>
     intro hk
     cases hb:listed.getD k false with
     |true=>rfl
     |false=>
      exfalso
      have fU:k<ops.size:=by omega
      have hr:k∈Region.ready .any ops listed:=by
       refine mem_ready.2 ⟨by rw[WS (by omega) true false];exact hb,ops[k],ZG fU,fun e he hbe=> ?_⟩
       have:=zw k ops[k] (ZG fU) e he hbe
       exact ihk e.on this (by omega)
      rw[Ki] at hr;cases hr
   refine qk F kv fp a w ?_
   rw[<-LS (D:=fun k=>listed.getD k false) (j:=0) (fun k hk=>by simpa using Ej k hk)];exact hs
  ·obtain⟨h0,o,ho,Ua⟩:=mem_ready.1 hi
   have fU:i<ops.size:=(Array.getElem?_eq_some_iff.1 ho).1
   have hui:listed.getD i false=false:=by rw[WS (by omega) false true];exact h0
   obtain⟨it,Jz⟩:∃it,items[i]? =some it:=⟨_,eW (by omega)⟩
   have Zh:ops[i]? =some it.o:=qB i it Jz
   have:o=it.o:=by rw[ho] at Zh;exact VU Zh
   subst this
   generalize hDd:(fun k=>listed.getD k false)=D at hs
   have Zx:D i=false:=by rw[<-hDd];exact hui
   have Sz:∀j,D j=true->∀o,ops[j]? =some o->∀e∈o.after,Region.binds .any e=true->D e.on=true:=by rw[<-hDd];exact gB
   have Pa:∀(m:Nat)(y:Item U),items[m]? =some y->i<m->D m=true->Fu ops.toList it y:=fun m y hm him zX=>
    w5 (D:=fun k=>D k=true) Sz i m it y Jz hm him zX (by simp[Zx])
   have Yk:∀(m:Nat)(x:Item U),items[m]? =some x->m<i->D m=false->Fu ops.toList x it:=fun m x hm hmi zX=>
    w5 (D:=fun k=>D k=true\/k=i) (by
     intro j hj o' O8 e he hb
     rcases hj with hj|hj
     ·exact .inl (Sz j hj o' O8 e he hb)
     ·subst hj
      rw[ho] at O8
      cases O8
      left
      rw[<-hDd]
      exact Ua e he hb) m i x it hm Jz hmi (.inr rfl) (by simp[zX];omega)
   have Pq:∀(m:Nat)(x:Item U),items[m]? =some x->D (0+m)≠decide (0+m<i)->(∀d,x.o.dst=some d->d∉slotsOf ops.toList it.o)/\∀k∈x.r.writes (x.o.dst.getD 1000000),k∉it.ks:=by
    intro m x hm d_
    simp only[tH] at d_
    rcases Nat.lt_trichotomy m i with Gc|oq|hgt
    ·have zX:D m=false:=by
      cases hb:D m
      ·rfl
      ·exact absurd (by rw[hb];simp[Gc]) d_
     have:=Yk m x hm Gc zX
     exact⟨fun d hd=>(this.d d hd).1,fun k hk=>(this.w k hk).1⟩
    ·subst oq
     exact absurd (by rw[Zx];simp) d_
    ·have zX:D m=true:=by
      cases hb:D m
      ·exact absurd (by rw[hb];simp;omega) d_
      ·rfl
     have:=Pa m x hm hgt zX
     exact⟨fun d hd=>this.e d hd,fun k hk=>this.r k hk⟩
   obtain⟨yI,QV⟩:=iM.TD Jz
   have TO:∀t∈slotsOf ops.toList it.o,(T (fun k=>decide (k<i)) 0 items σ).get t=(T D 0 items σ).get t:=fun t ht=>
    (VM (fun m x hm d_ e=>((Pq m x hm d_).1 t e) ht) rfl).symm
   have abW:∀k∈it.ks,(T (fun k=>decide (k<i)) 0 items σ).bH k=(T D 0 items σ).bH k:=fun k hk=>
    (VO (fun m x hm d_ e=>(Pq m x hm d_).2 k e hk) rfl).symm
   have abX:∀k∈it.ks,(T (fun k=>decide (k<i)) 0 items σ).aR.any (ik k)=(T D 0 items σ).aR.any (ik k):=fun k hk=>
    (abp (fun m x hm d_ e=>(Pq m x hm d_).2 k e hk) rfl).symm
   have hw:gT ops.toList it.o (T D 0 items σ)=gT ops.toList it.o (T (fun k=>decide (k<i)) 0 items σ):=
    ahr (fun t ht=>(TO t (pd _ ht)).symm)
   have Ao:pB (T D 0 items σ) it.o=true:=by
    unfold pB at yI⊢
    rw[T_n] at yI⊢
    exact yI
   refine aaU hE hs Zh Ao ?_ (fun F' kv' fp' a' w' jK=>ih (listed.setIfInBounds i true) F' kv' fp' a' w' ?_ (by simp[tU]) ?_ ?_)
   ·rcases QV with⟨g1,g2,g3⟩|⟨g1,g2,g3,g4,g5⟩
    ·exact .inl ⟨by rw[hw];exact g1,g2⟩
    ·refine .inr ⟨by rw[hw];exact g1,g2.imp fun b g2=>ahC g2 (by rw[T_n,T_n]) (fun t ht=>TO t (pP _ (nF.2 ⟨.tmp t,ht,by simp⟩))) abW abX,g3,fun k hk tW=> ?_⟩
     ·
      have Pc:∃j,k=(it.o.dst.getD 1000000,j)/\j<1024/\it.r.dk≠[]:=by
       simp only[dk,kW] at hk
       obtain⟨⟨j,e⟩,hj,rfl⟩:=hk
       unfold vQ at g5
       have:=sh.1 g5 _ hj
       exact⟨j,rfl,Nat.blt_eq▸this,(fun e=>by rw[e] at hj;cases hj)⟩
      obtain⟨j,rfl,hj,d_⟩:=Pc
      have hkw:((it.o.dst.getD 1000000,j):Key)∈it.r.news (it.o.dst.getD 1000000):=hk
      rcases W5 tW with tW|⟨m,x,hm,zX,hx⟩
      ·have:=hN _ tW (by
        cases hd:it.o.dst with
        |none=>exact .inr rfl
        |some d=>
         refine .inl ?_
         simp only[DY,zY,nF]
         exact⟨it.o,by have:=Zh;rw[<-JE] at this;exact Em this,by simp[hd]⟩)
       simp only at this
       omega
      ·simp only[tH] at zX
       rcases Nat.lt_trichotomy m i with Gc|oq|hgt
       ·
        unfold rz at g4
        have hie:it.r.dk.isEmpty=false:=by cases ha:it.r.dk with
         |nil=>exact absurd ha d_
         |cons _ _=>rfl
        rw[hie,Fw,sh] at g4
        have C6:nk m x∈xc 0 (items.take i) []:=N9.2 (.inr ⟨m,x,by rw[oT,if_pos Gc];exact hm,by simp⟩)
        have:=g4 _ C6
        simp only[pc,nk] at this
        rw[<-uO,tI] at this
        exact this ⟨_,pP _ (pd _ hx),by simp⟩
       ·subst oq
        rw[Zx] at zX;cases zX
       ·exact(Pa m x hm hgt zX).n _ hkw hx
   ·refine jK.congr ?_
    have h1:=QE (D:=D) (i:=i) (it:=it) (items:=items) (j:=0) (σ:=σ) Jz (by simpa using Zx) (fun m y hm him zX=>by
     have:=Pa m y hm him (by simpa using zX)
     exact⟨fun d hd=>(this.d d hd).2,fun k hk=>(this.w k hk).2⟩)
    refine h1.trans ?_
    rw[RT (D':=fun k=>(listed.setIfInBounds i true).getD k false)]
    ·exact z_.refl _
    ·intro k hk
     simp only[tH]
     rw[<-hDd]
     simp only
     cases hb:Nat.beq k i
     ·rw[Nk,getD_set_ne]
      intro e
      subst e
      simp at hb
     ·have:=mc hb
      subst this
      rw[Bool.or_true,NB,Array.getElem?_setIfInBounds_self_of_lt (by omega)]
      rfl
   ·intro j hj o' O8 e he hb
    by_cases T':j=i
    ·subst T'
     rw[ho] at O8
     cases O8
     exact getD_set_true (Ua e he hb)
    ·rw[getD_set_ne false (Ne.symm T')] at hj
     exact getD_set_true (gB j hj o' O8 e he hb)
   ·have hli:i<listed.size:=by omega
    have hb:listed[i]=false:=by
     rw[NB,ZG hli] at hui
     simpa using hui
    rw[Array.toList_setIfInBounds,List.count_set (by simpa using hli)]
    have e1:(listed.toList[i]'(by simpa using hli)==false)=true:=by simp[hb]
    have e2:(true==false)=false:=rfl
    rw[e1,e2]
    have:false∈listed.toList:=by rw[<-hb];exact Array.mem_toList_iff.2 (Array.getElem_mem hli)
    have:=List.count_pos_iff.2 this
    simp only[if_true,wb,if_false]
    omega
end AM
