/- THE ABSTRACT MACHINE: structs that are the same. -/
import Derived.Test.YtmlhlndkkidhoaaGreatQAmOps4
import Derived.Laws.StructEq
namespace AM
set_option linter.unusedVariables false
open Go
variable{U:kZ}{E:Env U}{pm:Pm}
variable{F:Nat->Prop}{kv:Key->Value}{fp:Key->List Nat}{σ:ah U}{a:Act}{w:World}{bad:Key->Bool}
def VV(g:Bool)(xs:List Value):Value:=if g then .agg xs.toArray else xs.headD undef
theorem alT{t:TypeId}{g:Bool}(hg:E.isAgg t=some g)(w:World):(Go.isAgg t).run E.P w=.ok g w:=by
 obtain⟨d,J_,hd⟩:=Ul hg
 unfold Go.isAgg;rw[Sem.run_bind,run_underlying J_ w];cases d<;>simp_all
theorem acg{t:TypeId}{g:Bool}{n off:Nat}{xs:List Value}(hg:E.isAgg t=some g)(hs:E.size t=some n)(hle:off+n<=xs.length)(hn:g=true\/n=1)(w:World):
  (part t xs.toArray off).run E.P w=.ok (VV g ((xs.drop off).take n)) w:=by
 unfold part
 rw[Sem.run_bind,alT hg]
 cases g with
 |true=>
  unfold Env.size at hs
  cases hi:E.P.info? t with
  |none=>rw[hi] at hs;cases hs
  |some i=>
   rw[hi] at hs
   simp only[Ek,gx] at hs
   simp[Go.sizeOf,typeInfo,hi,hs,VV]
 |false=>
  have hn:n=1:=by simpa using hn
  subst hn
  have hv:xs[off]? =some (xs[off]'(by omega)):=fo _
  simp only[wx,if_false,zed,hv,VV]
  rw[S9 (by omega)]
  rfl
theorem acO{d k:Nat}{w:World}(ih:∀{t:TypeId}{xs ys:List Value}{b:Bool},E.Lg d t xs ys=some b->∀{g:Bool},E.isAgg t=some g->(Op.equalIn (d+k) t (VV g xs) (VV g ys)).run E.P w=.ok b w){xs ys:List Value}:
  ∀{fs:List Field}{b:Bool},fs.foldr (fun f acc=>match E.size f.type,E.isAgg f.type,acc with
     |some n,some g,some r=>bif f.name != "_" &&Nat.ble (f.offset+n) xs.length&&Nat.ble (f.offset+n) ys.length&&(g||Nat.beq n 1) then
       (match Env.Lg E d f.type ((xs.drop f.offset).take n) ((ys.drop f.offset).take n) with
       |some b=>some (b&&r)
       |none=>none) else none
     |_,_,_=>none) (some true)=some b->(Op.eqFields (d+k) xs.toArray ys.toArray fs).run E.P w=.ok b w
 |[],b,h=>by cases h;rfl
 |f::fs,b,h=>by
  simp only[List.foldr_cons] at h
  split at h
  ·rename_i n g r hn hg hr
   rw[h_] at h
   split at h
   ·rename_i hc
    simp only[cK,bne_iff_ne,ne_eq] at hc
    obtain⟨⟨⟨h1,h2⟩,h3⟩,h4⟩:=hc
    have h2:=H5 h2
    have h3:=H5 h3
    have h4:g=true\/n=1:=by
     rcases Bool.or_eq_true_iff.1 h4 with h|h
     ·exact .inl h
     ·exact .inr (mM h)
    split at h
    ·rename_i b0 hb
     cases h
     have je:=acO ih hr
     simp only[Op.eqFields,ne_eq,h1,not_false_eq_true,if_true,Sem.run_bind,acg hg hn h2 h4,acg hg hn h3 h4,Result.andThen_ok,ih hb hg]
     cases b0
     ·simp
     ·simpa using je
    ·cases h
   ·cases h
  ·cases h
theorem ana:∀{d:Nat}{t:TypeId}{xs ys:List Value}{b:Bool},E.Lg d t xs ys=some b->∀{g:Bool},E.isAgg t=some g->∀(k:Nat)(w:World),
  (Op.equalIn (d+k) t (VV g xs) (VV g ys)).run E.P w=.ok b w:=by
 intro d
 induction d with
 |zero=>intro t xs ys b h;cases h
 |succ d ih=>
  intro t xs ys b h g hg k w
  have e:d+1+k=(d+k)+1:=by omega
  rw[e]
  unfold Env.Lg at h
  obtain⟨td,J_,htd⟩:=Ul hg
  have Kd:=hg
  unfold Env.isAgg at Kd
  rw[J_] at h Kd
  cases td with
  |struct fs=>
   cases Kd
   simp only at h
   cases p9:E.P.stoodInHeld t with
   |true=>rw[p9] at h;cases h
   |false=>
    rw[p9] at h
    simp only[cond_false] at h
    have hf:E.P.fieldsOf t=fs:=by simp only[Program.fieldsOf,J_]
    simp only[VV,if_true]
    rw[run_equalIn_struct w (d+k) t _ _ (by rw[hf];exact J_) p9,hf]
    exact acO (fun{t xs ys b} h {g} hg=>ih h hg k w) h
  |bool=>
   cases Kd
   simp only at h
   split at h
   ·cases h;exact run_equalIn_bool' w (d+k) t _ _ J_
   ·cases h
  |int k'=>
   cases Kd
   simp only at h
   split at h
   ·rename_i k1 a k2 b'
    by_cases hk:k1=k2
    ·simp only[hk,decide_true,cond_true] at h
     cases h
     subst hk
     exact run_equalIn_int w (d+k) t k1 k' _ _ J_
    ·simp[hk] at h
   ·cases h
  |string=>
   cases Kd
   simp only at h
   split at h
   ·cases h;exact run_equalIn_string w (d+k) t _ _ J_
   ·cases h
  |_=>cases h
theorem TX:∀{cs:List (AC U)}{us vs:List Value},qK cs=some us->ly E w F kv fp bad cs vs->vs=us
 |[],us,vs,h,hr=>by cases h;exact List.length_eq_zero_iff.1 hr.1.symm
 |x::cs,us,vs,h,hr=>by
  unfold qK at h
  split at h
  ·rename_i pe;cases pe
  ·rename_i v r pe
   cases pe
   split at h
   ·rename_i l hl
    cases h
    cases vs with
    |nil=>have:=hr.1;simp at this
    |cons u vs=>
     have h0:=hr.2 0 _ u rfl rfl
     have h1:ly E w F kv fp bad cs vs:=⟨by have:=hr.1;simpa using this,fun i x v hx hv=>hr.2 (i+1) x v (by simpa using hx) (by simpa using hv)⟩
     rw[TX hl h1]
     rcases h0.2 with hb|hb
     ·cases hb
     ·have:u=v:=by cases hb;rfl
      rw[this]
   ·cases h
  ·cases h
theorem amB{o:Oper}{op:BinOp}{t t':TypeId}{x y:Operand}{sx sy:SV U}{r:cd U}(ho:o.op=.binOp op t x y t')
  (hx:RS E w F kv fp bad sx (a.eval x)) (hy:RS E w F kv fp bad sy (a.eval y)) (hr:Qs E op t sx sy=some r):∃b,r=.lit (.bool b)/\cB E F kv fp bad a w o (u4 (.bool b)):=by
 unfold Qs at hr
 split at hr
 ·rename_i xs ys
  split at hr
  ·rename_i us vs vr Eh
   obtain⟨Od,h1,Ke⟩:=hx
   obtain⟨uZ,h2,Ma⟩:=hy
   have e1:=TX vr h1
   have e2:=TX Eh h2
   subst e1 e2
   simp only[if_true] at Ke Ma
   split at hr
   rotate_left
   ·cases hr
   rename_i hg
   cases Kd:E.P.eqGuardType E.P.depth t with
   |true=>rw[Kd] at hr;cases hr
   |false=>
    rw[Kd] at hr
    simp only[cond_false] at hr
    have key:∀b,E.Lg 8 t Od uZ=some b->(Op.equalIn 10000 t (.agg Od.toArray) (.agg uZ.toArray)).run E.P w=.ok b w:=by
     intro b hb
     exact ana hb hg 9992 w
    split at hr
    ·rename_i b hb
     cases hr
     refine⟨b,rfl,.bool b,?_,mH (v:=.bool b) ⟨rfl,trivial⟩⟩
     unfold execOp;simp only[ho,Ke,Ma]
     exact iA (by rw[Sem.run_bind,run_eqGuard_agg w _ t x y _ _ Kd,Result.andThen_ok,run_eql_struct,key b hb,Result.andThen_ok])
    ·rename_i b hb
     cases hr
     refine⟨!b,rfl,.bool (!b),?_,mH (v:=.bool (!b)) ⟨rfl,trivial⟩⟩
     unfold execOp;simp only[ho,Ke,Ma]
     exact iA (by rw[Sem.run_bind,run_eqGuard_agg w _ t x y _ _ Kd,Result.andThen_ok,run_neq_struct,key b hb,Result.andThen_ok])
    ·cases hr
  ·cases hr
 ·cases hr
end AM
