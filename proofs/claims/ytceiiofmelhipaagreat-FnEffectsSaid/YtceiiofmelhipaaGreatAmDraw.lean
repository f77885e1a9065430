/- THE ABSTRACT MACHINE: a region whose order is drawn. -/
import Derived.Test.YtceiiofmelhipaaGreatAmRegion
namespace AM
set_option linter.unusedVariables false
open Go
variable{U:Uni}{E:Env U}{pm:Pm}
variable{F F':Nat→Prop}{kv:Key→Value}{fp:Key→List Nat}{σ τ:AState U}{a:Act}{w w':World}
def T(D:Nat→Bool):Nat→List (Item U)→AState U→AState U
 |_,[],σ=>σ
 |j,it::r,σ=>T D (j+1) r (bif D j then apply it.o it.r σ else σ)
theorem T_n{D:Nat→Bool}:∀{items:List (Item U)}{j:Nat}{σ:AState U},(T D j items σ).n=σ.n
 |[],_,_=>rfl
 |it::r,j,σ=>by
  simp only[T]
  rw[T_n]
  cases D j<;>rfl
theorem T_get{D D':Nat→Bool}{s:Nat}:∀{items:List (Item U)}{j:Nat}{σ τ:AState U},(∀(k:Nat)(it:Item U),items[k]? =some it→D (j+k)≠D' (j+k)→it.o.dst≠some s)→σ.get s=τ.get s→
  (T D j items σ).get s=(T D' j items τ).get s
 |[],_,_,_,_,h=>h
 |it::r,j,σ,τ,hd,h=>by
  simp only[T]
  refine T_get (fun k it' hk hne=>hd (k+1) it' (by simpa using hk) (by rw[show j+(k+1)=j+1+k by omega];exact hne)) ?_
  have h0:=hd 0 it rfl
  simp only[zcv] at h0
  have hap:∀{ρ:AState U},it.o.dst≠some s→(apply it.o it.r ρ).get s=ρ.get s:=by
   intro ρ hne
   rw[qafu]
   cases hdd:it.o.dst with
   |none=>rfl
   |some d=>simp only;rw[if_neg (fun e=>hne (by rw[hdd,e]))]
  cases h1:D j<;>cases h2:D' j<;>simp only[cond_true,cond_false]
  ·exact h
  ·rw[hap (h0 (by rw[h1,h2];simp)),h]
  ·rw[hap (h0 (by rw[h1,h2];simp)),h]
  ·rw[qafu,qafu,h]
theorem T_ent{D D':Nat→Bool}{k:Key}:∀{items:List (Item U)}{j:Nat}{σ τ:AState U},(∀(m:Nat)(it:Item U),items[m]? =some it→D (j+m)≠D' (j+m)→k∉it.r.writes (it.o.dst.getD 1000000))→σ.ent k=τ.ent k→
  (T D j items σ).ent k=(T D' j items τ).ent k
 |[],_,_,_,_,h=>h
 |it::r,j,σ,τ,hd,h=>by
  simp only[T]
  refine T_ent (fun m it' hm hne=>hd (m+1) it' (by simpa using hm) (by rw[show j+(m+1)=j+1+m by omega];exact hne)) ?_
  have h0:=hd 0 it rfl
  simp only[zcv] at h0
  have hap:∀{ρ:AState U},k∉it.r.writes (it.o.dst.getD 1000000)→(apply it.o it.r ρ).ent k=ρ.ent k:=by
   intro ρ hne
   rw[qadq,if_neg (fun e=>hne (qagl.1 e))]
  cases h1:D j<;>cases h2:D' j<;>simp only[cond_true,cond_false]
  ·exact h
  ·rw[hap (h0 (by rw[h1,h2];simp)),h]
  ·rw[hap (h0 (by rw[h1,h2];simp)),h]
  ·rw[qadq,qadq,h]
theorem qanm{r:Rslt U}{d:Nat}{k:Key}(h:k∉r.writes d):(r.upds.map (·.1)).any (keq k)=false:=by
 rw[←zbj,qaaw]
 exact fun e=>h (zas _ e)
theorem qaam{D D':Nat→Bool}{k:Key}:∀{items:List (Item U)}{j:Nat}{σ τ:AState U},(∀(m:Nat)(it:Item U),items[m]? =some it→D (j+m)≠D' (j+m)→k∉it.r.writes (it.o.dst.getD 1000000))→σ.dirty.any (keq k)=τ.dirty.any (keq k)→
  (T D j items σ).dirty.any (keq k)=(T D' j items τ).dirty.any (keq k)
 |[],_,_,_,_,h=>h
 |it::r,j,σ,τ,hd,h=>by
  simp only[T]
  refine qaam (fun m it' hm hne=>hd (m+1) it' (by simpa using hm) (by rw[show j+(m+1)=j+1+m by omega];exact hne)) ?_
  have h0:=hd 0 it rfl
  simp only[zcv] at h0
  have hap:∀{ρ:AState U},k∉it.r.writes (it.o.dst.getD 1000000)→(apply it.o it.r ρ).dirty.any (keq k)=ρ.dirty.any (keq k):=by
   intro ρ hne
   rw[qadb,qanm hne];rfl
  cases h1:D j<;>cases h2:D' j<;>simp only[cond_true,cond_false]
  ·exact h
  ·rw[hap (h0 (by rw[h1,h2];simp)),h]
  ·rw[hap (h0 (by rw[h1,h2];simp)),h]
  ·rw[qadb,qadb,h]
theorem T_eqv{D:Nat→Bool}:∀{items:List (Item U)}{j:Nat}{σ τ:AState U},Eqv σ τ→Eqv (T D j items σ) (T D j items τ)
 |[],_,_,_,h=>h
 |it::r,j,σ,τ,h=>by
  simp only[T]
  refine T_eqv ?_
  cases D j
  ·exact h
  ·exact h.apply _ _
theorem qait{o:Oper}{r:Rslt U}{k:Key}(h:Names (apply o r σ) k):k∈r.names∨Names σ k:=by
 rcases h with⟨s,x,hs,hk⟩|⟨k',cs,he,x,hx,hk⟩
 ·rw[qafu] at hs
  cases hd:o.dst with
  |none=>rw[hd] at hs;exact .inr (.inl ⟨s,x,hs,hk⟩)
  |some d=>
   rw[hd] at hs
   simp only at hs
   split at hs
   ·left
    unfold Rslt.names
    rw[hs]
    exact zar _ (zar _ hk)
   ·exact .inr (.inl ⟨s,x,hs,hk⟩)
 ·rw[qadq] at he
  split at he
  ·left
   have hm:=qaha he
   have hn:k∈(Ent.box cs:Ent U).names:=zat.2 ⟨x,hx,hk⟩
   simp only[lays,mkAdds,zao,zaz,zax,zae] at hm
   unfold Rslt.names
   rcases hm with(⟨y,h1,h2,h3⟩|⟨y,h1,h2,h3⟩)|⟨y,h1,h2,h3⟩
   ·exact zar _ (zas _ (zat.2 ⟨y,h1,by obtain⟨y1,y2⟩:=y;simp only at h3;subst h3;exact hn⟩))
   ·exact zas _ (zat.2 ⟨y,h1,by obtain⟨y1,y2⟩:=y;simp only at h3;subst h3;exact hn⟩)
   ·cases h3
  ·exact .inr (.inr ⟨k',cs,he,x,hx,hk⟩)
theorem qaan{D:Nat→Bool}{k:Key}:∀{items:List (Item U)}{j:Nat}{σ:AState U},Names (T D j items σ) k→Names σ k∨∃m it,items[m]? =some it∧D (j+m)=true∧k∈it.r.names
 |[],_,_,h=> .inl h
 |it::r,j,σ,h=>by
  simp only[T] at h
  rcases qaan h with h|⟨m,it',h1,h2,h3⟩
  ·cases hd:D j<;>rw[hd] at h<;>simp only[cond_true,cond_false] at h
   ·exact .inl h
   ·rcases qait h with h|h
    ·exact .inr ⟨0,it,rfl,hd,h⟩
    ·exact .inl h
  ·exact .inr ⟨m+1,it',by simpa using h1,by rw[show j+(m+1)=j+1+m by omega];exact h2,h3⟩
theorem T_all{D:Nat→Bool}:∀{items:List (Item U)}{j:Nat}{σ:AState U},(∀k,k<items.length→D (j+k)=true)→T D j items σ=endS items σ
 |[],_,_,_=>rfl
 |it::r,j,σ,h=>by
  simp only[T,endS]
  have h0:=h 0 (by simp)
  simp only[zcv] at h0
  rw[h0]
  exact T_all (fun k hk=>by rw[show j+1+k=j+(k+1) by omega];exact h (k+1) (by simpa using hk))
theorem T_none{D:Nat→Bool}:∀{items:List (Item U)}{j:Nat}{σ:AState U},(∀k,k<items.length→D (j+k)=false)→T D j items σ=σ
 |[],_,_,_=>rfl
 |it::r,j,σ,h=>by
  simp only[T]
  have h0:=h 0 (by simp)
  simp only[zcv] at h0
  rw[h0]
  exact T_none (fun k hk=>by rw[show j+1+k=j+(k+1) by omega];exact h (k+1) (by simpa using hk))
theorem qaal{D D':Nat→Bool}:∀{items:List (Item U)}{j:Nat}{σ:AState U},(∀k,k<items.length→D (j+k)=D' (j+k))→T D j items σ=T D' j items σ
 |[],_,_,_=>rfl
 |it::r,j,σ,h=>by
  simp only[T]
  have h0:=h 0 (by simp)
  simp only[zcv] at h0
  rw[h0]
  exact qaal (fun k hk=>by rw[show j+1+k=j+(k+1) by omega];exact h (k+1) (by simpa using hk))
theorem take_T{D:Nat→Bool}:∀{items:List (Item U)}{i j:Nat}{σ:AState U},(∀k,D k=decide (k<j+i))→endS (items.take i) σ=T D j items σ
 |[],i,j,σ,_=>by cases i<;>rfl
 |it::r,0,j,σ,h=>by
  rw[List.take_zero]
  exact(T_none (fun k _=>by rw[h];simp)).symm
 |it::r,i+1,j,σ,h=>by
  simp only[List.take_succ_cons,endS,T]
  rw[show D j=true by rw[h];simp]
  exact take_T (fun k=>by rw[h,show j+(i+1)=j+1+i by omega])
theorem Run_at{ops:List Oper}:∀{items:List (Item U)}{i j:Nat}{σ:AState U}{rs:List Rec}{it:Item U},Run E ops i items σ rs→items[j]? =some it→ItOk E ops it (endS (items.take j) σ) (endR i (items.take j) rs)
 |[],_,_,_,_,_,_,h=>by simp at h
 |it'::r,i,0,σ,rs,it,h,hj=>by
  simp only[zam,zae] at hj
  subst hj
  exact h.1
 |it'::r,i,j+1,σ,rs,it,h,hj=>by
  simp only[List.take_succ_cons,endS,endR]
  exact Run_at h.2 (by simpa using hj)
theorem qadl{x:Rec}:∀{items:List (Item U)}{i:Nat}{rs:List Rec},x∈endR i items rs↔x∈rs∨∃m it,items[m]? =some it∧x=recOf (i+m) it
 |[],i,rs=>by simp[endR]
 |it::r,i,rs=>by
  simp only[endR]
  rw[qadl]
  simp only[zak]
  constructor
  ·rintro((h|h)|⟨m,it',h1,h2⟩)
   ·exact .inr ⟨0,it,rfl,by simpa using h⟩
   ·exact .inl h
   ·exact .inr ⟨m+1,it',by simpa using h1,by rw[h2,show i+(m+1)=i+1+m by omega]⟩
  ·rintro(h|⟨m,it',h1,h2⟩)
   ·exact .inl (.inr h)
   ·cases m with
    |zero=>simp only[zam,zae] at h1;subst h1;exact .inl (.inl (by simpa using h2))
    |succ m=>exact .inr ⟨m,it',by simpa using h1,by rw[h2,show i+(m+1)=i+1+m by omega]⟩
theorem T_more{D:Nat→Bool}{i:Nat}{it:Item U}:∀{items:List (Item U)}{j:Nat}{σ:AState U},items[i]? =some it→D (j+i)=false→
  (∀(m:Nat)(it':Item U),items[m]? =some it'→i<m→D (j+m)=true→(∀d,it.o.dst=some d→it'.o.dst≠some d)∧∀k∈it.r.writes (it.o.dst.getD 1000000),k∉it'.r.writes (it'.o.dst.getD 1000000))→
  Eqv (apply it.o it.r (T D j items σ)) (T (fun k=>D k||Nat.beq k (j+i)) j items σ):=by
 have late:∀{items:List (Item U)}{j:Nat}{σ:AState U},(∀(m:Nat)(it':Item U),items[m]? =some it'→D (j+m)=true→(∀d,it.o.dst=some d→it'.o.dst≠some d)∧∀k∈it.r.writes (it.o.dst.getD 1000000),k∉it'.r.writes (it'.o.dst.getD 1000000))→
   Eqv (apply it.o it.r (T D j items σ)) (T D j items (apply it.o it.r σ)):=by
  intro items
  induction items with
  |nil=>intro j σ _;exact Eqv.refl _
  |cons it' r ih=>
   intro j σ h
   simp only[T]
   refine(ih (fun m x hm hD=>h (m+1) x (by simpa using hm) (by rw[show j+(m+1)=j+1+m by omega];exact hD))).trans (T_eqv ?_)
   cases hd:D j<;>simp only[cond_true,cond_false]
   ·exact Eqv.refl _
   ·obtain⟨h1,h2⟩:=h 0 it' rfl (by simpa using hd)
    exact(qabc h1 h2).symm
 induction i with
 |zero=>
  intro items j σ hi hD h
  cases items with
  |nil=>simp at hi
  |cons it' r=>
   simp only[zam,zae] at hi
   subst hi
   simp only[T,zcv] at hD⊢
   rw[hD]
   simp only[cond_false,zcw]
   rw[show Nat.beq j j=true by simp]
   simp only[cond_true]
   refine(late (fun m x hm hDm=>h (m+1) x (by simpa using hm) (by omega) (by rw[show j+(m+1)=j+1+m by omega];exact hDm))).trans ?_
   rw[qaal (D':=fun k=>D k||Nat.beq k j)]
   ·exact Eqv.refl _
   ·intro k _
    have:Nat.beq (j+1+k) j=false:=by
     cases hb:Nat.beq (j+1+k) j
     ·rfl
     ·have:=zai hb;omega
    simp[this]
 |succ i ih=>
  intro items j σ hi hD h
  cases items with
  |nil=>simp at hi
  |cons it' r=>
   simp only[T]
   have hj:Nat.beq j (j+(i+1))=false:=by
    cases hb:Nat.beq j (j+(i+1))
    ·rfl
    ·have:=zai hb;omega
   rw[hj,zeh]
   have:=ih (items:=r) (j:=j+1) (σ:=bif D j then apply it'.o it'.r σ else σ) (by simpa using hi) (by rw[show j+1+i=j+(i+1) by omega];exact hD)
    (fun m x hm hlt hDm=>h (m+1) x (by simpa using hm) (by omega) (by rw[show j+(m+1)=j+1+m by omega];exact hDm))
   rw[show j+(i+1)=j+1+i by omega]
   exact this
theorem qabu(m i:Nat):bitN m i=m.testBit i:=by
 have h:bitN m i=Nat.beq ((m>>>i)&&&1) 1:=rfl
 rw[h,Nat.and_one_is_mod,Nat.shiftRight_eq_div_pow,Nat.testBit_eq_decide_div_mod_eq]
 rw[zcm,zdn,decide_eq_true_eq]
theorem qabv{a b i:Nat}(h:bitN (Nat.lor a b) i=true):bitN a i=true∨bitN b i=true:=by
 rw[qabu] at h⊢
 rw[qabu]
 have h:(a|||b).testBit i=true:=h
 rw[Nat.testBit_or,zcn] at h
 exact h
theorem qabw{k i:Nat}(h:bitN (Nat.shiftLeft 1 k) i=true):i=k:=by
 rw[qabu] at h
 have h:(1<<<k).testBit i=true:=h
 rw[Nat.shiftLeft_eq,zdw,Nat.testBit_two_pow] at h
 exact(of_decide_eq_true h).symm
theorem qabx{i:Nat}:bitN 0 i=false:=by rw[qabu,Nat.zero_testBit]
theorem qaat{D:Nat→Prop}{acc:List Nat}:∀(es:List Edge)(m:Nat),(∀i,bitN m i=true→D i)→(∀e∈es,Region.binds .any e=true→D e.on∧∀i,bitN (acc.getD e.on 0) i=true→D i)→
  ∀i,bitN (es.foldl (fun m e=>bif Region.binds .any e then Nat.lor m (Nat.lor (Nat.shiftLeft 1 e.on) (acc.getD e.on 0)) else m) m) i=true→D i
 |[],m,h,_,i,hi=>h i hi
 |e::es,m,h,he,i,hi=>by
  rw[List.foldl_cons] at hi
  refine qaat es _ (fun j hj=> ?_) (fun e' h'=>he e' (zaa _ h')) i hi
  rw[zah] at hj
  split at hj
  ·rename_i hb
   obtain⟨h1,h2⟩:=he e zab hb
   rcases qabv hj with hj|hj
   ·exact h j hj
   ·rcases qabv hj with hj|hj
    ·rw[qabw hj];exact h1
    ·exact h2 j hj
  ·exact h j hj
theorem qaau{D:Nat→Prop}:∀{ops:List Oper}{acc:List Nat}{n:Nat},acc.length=n→(∀j,j<n→D j→∀i,bitN (acc.getD j 0) i=true→D i)→
  (∀(m:Nat)(o:Oper),ops[m]? =some o→D (n+m)→∀e∈o.after.toList,Region.binds .any e=true→D e.on)→
  ∀j,D j→∀i,bitN ((ops.foldl (fun acc o=>acc++[o.after.toList.foldl (fun m e=>bif Region.binds .any e then Nat.lor m (Nat.lor (Nat.shiftLeft 1 e.on) (acc.getD e.on 0)) else m) 0]) acc).getD j 0) i=true→D i
 |[],acc,n,hl,ha,_,j,hj,i,hi=>by
  rcases zba j n with h|h
  ·exact ha j h hj i hi
  ·simp only[List.foldl_nil] at hi
   rw[zac,zaj (by omega)] at hi
   simp[qabx] at hi
 |o::ops,acc,n,hl,ha,ho,j,hj,i,hi=>by
  simp only[List.foldl_cons] at hi
  refine qaau (ops:=ops) (n:=n+1) (by simp[hl]) (fun j' hj' hD i' hi'=> ?_) (fun m o' hm hD=>ho (m+1) o' (by simpa using hm) (by rw[show n+(m+1)=n+1+m by omega];exact hD)) j hj i hi
  have gd:∀m i,bitN (acc.getD m 0) i=true→D m→D i:=by
   intro m i hi hD
   rcases zba m n with h|h
   ·exact ha m h hD i hi
   ·rw[zac,zaj (by omega)] at hi
    simp[qabx] at hi
  rcases zba j' n with h|h
  ·rw[qafn (by omega)] at hi'
   exact ha j' h hD i' hi'
  ·have:j'=n:=by omega
   subst this
   rw[qaft (by omega),hl,zev] at hi'
   simp only[List.getD_cons_zero] at hi'
   refine qaat (D:=D) (acc:=acc) o.after.toList 0 (fun i hi=>by rw[qabx] at hi;cases hi) (fun e he hb=> ?_) i' hi'
   have hon:D e.on:=ho 0 o rfl (by simpa using hD) e he hb
   exact⟨hon,fun i hi=>gd e.on i hi hon⟩
theorem qaik{x y:List Key}(h:meet x y=false):∀k∈x,k∉y:=by
 intro k hk hy
 have:meet x y=true:=zbb.2 ⟨k,hk,qaaw.2 hy⟩
 rw[h] at this;cases this
structure Apart(ops:List Oper)(x y:Item U):Prop where
 w:∀k∈x.r.writes (x.o.dst.getD 1000000),k∉y.ks++y.r.names∧k∉y.r.writes (y.o.dst.getD 1000000)
 r:∀k∈y.r.writes (y.o.dst.getD 1000000),k∉x.ks++x.r.names
 d:∀d,x.o.dst=some d→d∉slotsOf ops y.o∧y.o.dst≠some d
 e:∀d,y.o.dst=some d→d∉slotsOf ops x.o
theorem Apart.of{ops:List Oper}{x y:Item U}{i j:Nat}(h:apartOk ops x.o y.o (recOf i x) (recOf j y)=true):Apart ops x y:=by
 unfold apartOk recOf at h
 simp only[zaf,zbd] at h
 obtain⟨⟨⟨h1,h2⟩,h3⟩,h4⟩:=h
 refine⟨fun k hk=> ?_,qaik h2,fun d hd=> ?_,fun d hd=> ?_⟩
 ·have:=qaik h1 k hk
  simp only[zao,not_or] at this⊢
  exact this
 ·rw[hd] at h3
  simp only[zaf,zbd] at h3
  refine⟨fun hm=> ?_,fun he=> ?_⟩
  ·have:(slotsOf ops y.o).any (Nat.beq d)=true:=zbb.2 ⟨d,hm,by simp⟩
   rw[h3.1] at this;cases this
  ·rw[he] at h3;simp at h3
 ·rw[hd] at h4
  simp only[zbd] at h4
  intro hm
  have:(slotsOf ops x.o).any (Nat.beq d)=true:=zbb.2 ⟨d,hm,by simp⟩
  rw[h4] at this;cases this
theorem Run.ok_at{ops:List Oper}{items:List (Item U)}{σ:AState U}(h:Run E ops 0 items σ []){j:Nat}{it:Item U}(hj:items[j]? =some it):
  ItOk E ops it (T (fun k=>decide (k<j)) 0 items σ) (endR 0 (items.take j) []):=by
 have:=Run_at h hj
 rwa[take_T (D:=fun k=>decide (k<j)) (j:=0) (fun k=>by simp)] at this
theorem qann{ops:List Oper}{o:Oper}(h:∀t∈guardSlot ops o,σ.get t=τ.get t):wantedA ops o σ=wantedA ops o τ:=by
 unfold wantedA
 unfold guardSlot at h
 split
 ·rfl
 ·rename_i g want hg
  rw[hg] at h
  simp only at h
  have:((ops[g]?).bind (·.dst)).bind σ.get=((ops[g]?).bind (·.dst)).bind τ.get:=by
   cases hq:ops[g]? with
   |none=>rfl
   |some q=>
    rw[hq] at h
    cases hd:q.dst with
    |none=>simp[hd]
    |some d=>simp only[Option.bind_some,hd];exact h d (by simp[hd])
  rw[this]
theorem qafo{listed:Array Bool}{k:Nat}(h:k<listed.size)(d d':Bool):listed.getD k d=listed.getD k d':=by
 simp[zby,h]
theorem qadf(hE:E.Good){ops:Array Oper}{items:List (Item U)}{σ:AState U}(hrun:Run E ops.toList 0 items σ [])(hmap:items.map (·.o)=ops.toList)(hdraw:drawOk ops.toList (endR 0 items [])=true)
  (hN:∀k,Names σ k→(k.1∈dsts ops.toList∨k.1=1000000)→1024≤k.2) {Q:Exit→Act→World→Prop} (hfin:∀F kv fp a w,Sim E pm F kv fp (endS items σ) a w→Q .normal a w):
  ∀(fuel:Nat)(listed:Array Bool)(F:Nat→Prop)(kv:Key→Value)(fp:Key→List Nat)(a:Act)(w:World),Sim E pm F kv fp (T (fun k=>listed.getD k false) 0 items σ) a w→listed.size=ops.size→
   (∀j,listed.getD j false=true→∀o,ops[j]? =some o→∀e∈o.after,Region.binds .any e=true→listed.getD e.on false=true)→listed.toList.count false≤fuel→
   wpAny E.P .any ops Q fuel listed a w:=by
 have hlen:items.length=ops.size:=by simpa using congrArg List.length hmap
 have hop:∀(j:Nat)(it:Item U),items[j]? =some it→ops[j]? =some it.o:=by
  intro j it hj
  have:(items.map (·.o))[j]? =some it.o:=by rw[zal,hj];rfl
  rw[hmap] at this
  simpa using this
 unfold drawOk at hdraw
 simp only[zaf] at hdraw
 obtain⟨hord,hpair⟩:=hdraw
 have hback:∀(j:Nat)(o:Oper),ops[j]? =some o→∀e∈o.after,Region.binds .any e=true→e.on<j:=by
  intro j o hj e he hb
  unfold ordOk at hord
  rw[zcb] at hord
  have hm:(o,j)∈ops.toList.zipIdx:=by
   rw[List.mem_zipIdx_iff_getElem?]
   simpa using hj
  have:=zcb.1 (hord _ hm) e (by simpa using he)
  rw[hb] at this
  exact Nat.blt_eq▸this
 have hap:∀{D:Nat→Prop},(∀j,D j→∀o,ops[j]? =some o→∀e∈o.after,Region.binds .any e=true→D e.on)→∀(i j:Nat)(x y:Item U),items[i]? =some x→items[j]? =some y→i<j→D j→¬D i→Apart ops.toList x y:=by
  intro D hD i j x y hi hj hij hDj hDi
  rw[zcb] at hpair
  have h1:=hpair (recOf j y) (qadl.2 (.inr ⟨j,y,hj,by simp⟩))
  rw[zcb] at h1
  have h2:=h1 (recOf i x) (qadl.2 (.inr ⟨i,x,hi,by simp⟩))
  simp only[zcn,zbd] at h2
  rcases h2 with(h2|h2)|h2
  ·have:Nat.blt i j=true:=by simpa using hij
   simp only[recOf] at h2
   rw[this] at h2;cases h2
  ·exfalso
   refine hDi (qaau (D:=D) (acc:=[]) (n:=0) rfl (fun j hj=>by omega) (fun m o hm hDm e he hb=> ?_) j hDj i h2)
   exact hD m (by simpa using hDm) o (by simpa using hm) e (by simpa using he) hb
  ·have e1:ops.toList[(recOf i x).i]? =some x.o:=by simpa[recOf] using hop i x hi
   have e2:ops.toList[(recOf j y).i]? =some y.o:=by simpa[recOf] using hop j y hj
   rw[e1,e2] at h2
   exact Apart.of h2
 intro fuel
 induction fuel with
 |zero=>
  intro listed F kv fp a w hs hsz hcl hcnt
  have hall:∀k,k<items.length→listed.getD k false=true:=by
   intro k hk
   have hk':k<listed.size:=by omega
   rw[zby,zdk hk']
   simp only[zcj]
   cases hb:listed[k] with
   |true=>rfl
   |false=>
    exfalso
    have:false∈listed.toList:=by rw[←hb];exact Array.mem_toList_iff.2 (Array.getElem_mem hk')
    have:=List.count_pos_iff.2 this
    omega
  refine⟨?_,hfin F kv fp a w ?_⟩
  ·rw[zdm]
   intro i hi
   obtain⟨h0,o,ho,_⟩:=mem_ready.1 hi
   have hlt:i<ops.size:=(Array.getElem?_eq_some_iff.1 ho).1
   rw[qafo (by omega) true false,hall i (by omega)] at h0
   cases h0
  ·rw[←T_all (D:=fun k=>listed.getD k false) (j:=0) (fun k hk=>by simpa using hall k hk)];exact hs
 |succ fuel ih=>
  intro listed F kv fp a w hs hsz hcl hcnt
  refine⟨fun hnil=> ?_,fun i hi=> ?_⟩
  ·have hall:∀k,k<items.length→listed.getD k false=true:=by
    intro k
    induction k using Nat.strongRecOn with
    |ind k ihk=>
     intro hk
     cases hb:listed.getD k false with
     |true=>rfl
     |false=>
      exfalso
      have hlt:k<ops.size:=by omega
      have hr:k∈Region.ready .any ops listed:=by
       refine mem_ready.2 ⟨by rw[qafo (by omega) true false];exact hb,ops[k],zdk hlt,fun e he hbe=> ?_⟩
       have:=hback k ops[k] (zdk hlt) e he hbe
       exact ihk e.on this (by omega)
      rw[hnil] at hr;cases hr
   refine hfin F kv fp a w ?_
   rw[←T_all (D:=fun k=>listed.getD k false) (j:=0) (fun k hk=>by simpa using hall k hk)];exact hs
  ·obtain⟨h0,o,ho,hedge⟩:=mem_ready.1 hi
   have hlt:i<ops.size:=(Array.getElem?_eq_some_iff.1 ho).1
   have hui:listed.getD i false=false:=by rw[qafo (by omega) false true];exact h0
   obtain⟨it,hit⟩:∃it,items[i]? =some it:=⟨_,zad (by omega)⟩
   have hoi:ops[i]? =some it.o:=hop i it hit
   have:o=it.o:=by rw[ho] at hoi;exact zdx hoi
   subst this
   generalize hDd:(fun k=>listed.getD k false)=D at hs
   have hDi:D i=false:=by rw[←hDd];exact hui
   have hcl':∀j,D j=true→∀o,ops[j]? =some o→∀e∈o.after,Region.binds .any e=true→D e.on=true:=by rw[←hDd];exact hcl
   have hlate:∀(m:Nat)(y:Item U),items[m]? =some y→i<m→D m=true→Apart ops.toList it y:=fun m y hm him hDm=>
    hap (D:=fun k=>D k=true) hcl' i m it y hit hm him hDm (by simp[hDi])
   have hearly:∀(m:Nat)(x:Item U),items[m]? =some x→m<i→D m=false→Apart ops.toList x it:=fun m x hm hmi hDm=>
    hap (D:=fun k=>D k=true∨k=i) (by
     intro j hj o' ho' e he hb
     rcases hj with hj|hj
     ·exact .inl (hcl' j hj o' ho' e he hb)
     ·subst hj
      rw[ho] at ho'
      cases ho'
      left
      rw[←hDd]
      exact hedge e he hb) m i x it hm hit hmi (.inr rfl) (by simp[hDm];omega)
   have hdiff:∀(m:Nat)(x:Item U),items[m]? =some x→D (0+m)≠decide (0+m<i)→(∀d,x.o.dst=some d→d∉slotsOf ops.toList it.o)∧∀k∈x.r.writes (x.o.dst.getD 1000000),k∉it.ks++it.r.names:=by
    intro m x hm hne
    simp only[zbw] at hne
    rcases Nat.lt_trichotomy m i with hlt'|heq|hgt
    ·have hDm:D m=false:=by
      cases hb:D m
      ·rfl
      ·exact absurd (by rw[hb];simp[hlt']) hne
     have:=hearly m x hm hlt' hDm
     exact⟨fun d hd=>(this.d d hd).1,fun k hk=>(this.w k hk).1⟩
    ·subst heq
     exact absurd (by rw[hDi];simp) hne
    ·have hDm:D m=true:=by
      cases hb:D m
      ·exact absurd (by rw[hb];simp;omega) hne
      ·rfl
     have:=hlate m x hm hgt hDm
     exact⟨fun d hd=>this.e d hd,fun k hk=>this.r k hk⟩
   obtain⟨hdst,hok⟩:=hrun.ok_at hit
   have hslot:∀t∈slotsOf ops.toList it.o,(T (fun k=>decide (k<i)) 0 items σ).get t=(T D 0 items σ).get t:=fun t ht=>
    (T_get (fun m x hm hne e=>((hdiff m x hm hne).1 t e) ht) rfl).symm
   have hkent:∀k∈it.ks,(T (fun k=>decide (k<i)) 0 items σ).ent k=(T D 0 items σ).ent k:=fun k hk=>
    (T_ent (fun m x hm hne e=>(hdiff m x hm hne).2 k e (zar _ hk)) rfl).symm
   have hkdir:∀k∈it.ks,(T (fun k=>decide (k<i)) 0 items σ).dirty.any (keq k)=(T D 0 items σ).dirty.any (keq k):=fun k hk=>
    (qaam (fun m x hm hne e=>(hdiff m x hm hne).2 k e (zar _ hk)) rfl).symm
   have hw:wantedA ops.toList it.o (T D 0 items σ)=wantedA ops.toList it.o (T (fun k=>decide (k<i)) 0 items σ):=
    qann (fun t ht=>(hslot t (zas _ ht)).symm)
   have hd':dstOk (T D 0 items σ) it.o=true:=by
    unfold dstOk at hdst⊢
    rw[T_n] at hdst⊢
    exact hdst
   refine qage hE hs hoi hd' ?_ (fun F' kv' fp' a' w' hs'=>ih (listed.setIfInBounds i true) F' kv' fp' a' w' ?_ (by simp[hsz]) ?_ ?_)
   ·rcases hok with⟨g1,g2,g3⟩|⟨g1,g2,g3,g4,g5⟩
    ·exact .inl ⟨by rw[hw];exact g1,g2⟩
    ·refine .inr ⟨by rw[hw];exact g1,qamq g2 (by rw[T_n,T_n]) (fun t ht=>hslot t ?_) hkent hkdir,g3,fun k hk hnm=> ?_⟩
     ·refine zar _ (zat.2 ⟨.tmp t,ht,by simp⟩)
     ·
      have hka:∃j,k=(it.o.dst.getD 1000000,j)∧j<1024∧it.r.adds≠[]:=by
       simp only[adds,zaz] at hk
       obtain⟨⟨j,e⟩,hj,rfl⟩:=hk
       unfold addsOk at g5
       have:=zcb.1 g5 _ hj
       exact⟨j,rfl,Nat.blt_eq▸this,(fun e=>by rw[e] at hj;cases hj)⟩
      obtain⟨j,rfl,hj,hne⟩:=hka
      have hkw:((it.o.dst.getD 1000000,j):Key)∈it.r.writes (it.o.dst.getD 1000000):=by
       simp only[adds] at hk
       exact zar _ (zar _ hk)
      rcases qaan hnm with hnm|⟨m,x,hm,hDm,hx⟩
      ·have:=hN _ hnm (by
        cases hd:it.o.dst with
        |none=>exact .inr rfl
        |some d=>
         refine .inl ?_
         simp only[zcj,dsts,zat]
         exact⟨it.o,by have:=hoi;rw[←zbx] at this;exact zbl this,by simp[hd]⟩)
       simp only at this
       omega
      ·simp only[zbw] at hDm
       rcases Nat.lt_trichotomy m i with hlt'|heq|hgt
       ·
        unfold freshOk at g4
        have hie:it.r.adds.isEmpty=false:=by cases ha:it.r.adds with
         |nil=>exact absurd ha hne
         |cons _ _=>rfl
        rw[hie,zcw,zcb] at g4
        have hmem:recOf m x∈endR 0 (items.take i) []:=qadl.2 (.inr ⟨m,x,by rw[zan,if_pos hlt'];exact hm,by simp⟩)
        have:=g4 _ hmem
        simp only[zbd,recOf] at this
        rw[←zbj,zbb] at this
        exact this ⟨_,zar _ (zas _ hx),by simp⟩
       ·subst heq
        rw[hDi] at hDm;cases hDm
       ·have:=((hlate m x hm hgt hDm).w _ hkw).1
        exact this (zas _ hx)
   ·refine hs'.congr ?_
    have h1:=T_more (D:=D) (i:=i) (it:=it) (items:=items) (j:=0) (σ:=σ) hit (by simpa using hDi) (fun m y hm him hDm=>by
     have:=hlate m y hm him (by simpa using hDm)
     exact⟨fun d hd=>(this.d d hd).2,fun k hk=>(this.w k hk).2⟩)
    refine h1.trans ?_
    rw[qaal (D':=fun k=>(listed.setIfInBounds i true).getD k false)]
    ·exact Eqv.refl _
    ·intro k hk
     simp only[zbw]
     rw[←hDd]
     simp only
     cases hb:Nat.beq k i
     ·rw[zeh,getD_set_ne]
      intro e
      subst e
      simp at hb
     ·have:=zai hb
      subst this
      rw[Bool.or_true,zby,Array.getElem?_setIfInBounds_self_of_lt (by omega)]
      rfl
   ·intro j hj o' ho' e he hb
    by_cases hji:j=i
    ·subst hji
     rw[ho] at ho'
     cases ho'
     exact getD_set_true (hedge e he hb)
    ·rw[getD_set_ne false (Ne.symm hji)] at hj
     exact getD_set_true (hcl j hj o' ho' e he hb)
   ·have hli:i<listed.size:=by omega
    have hb:listed[i]=false:=by
     rw[zby,zdk hli] at hui
     simpa using hui
    rw[Array.toList_setIfInBounds,List.count_set (by simpa using hli)]
    have e1:(listed.toList[i]'(by simpa using hli)==false)=true:=by simp[hb]
    have e2:(true==false)=false:=rfl
    rw[e1,e2]
    have:false∈listed.toList:=by rw[←hb];exact Array.mem_toList_iff.2 (Array.getElem_mem hli)
    have:=List.count_pos_iff.2 this
    simp only[if_true,zbg,if_false]
    omega
end AM
