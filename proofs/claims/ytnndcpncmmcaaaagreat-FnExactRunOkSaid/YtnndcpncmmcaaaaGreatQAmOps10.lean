import Derived.Test.YtnndcpncmmcaaaaGreatQAmOps4
import Derived.Laws.StructEq
namespace AM
set_option linter.unusedVariables false
open Go
variable{U:jO}{E:Env U}{pm:Pm}
variable{F:Nat->Prop}{kv:Key->Value}{fp:Key->List Nat}{σ:ah U}{a:Act}{w:World}{bad:Key->Bool}
def VA(g:Bool)(xs:List Value):Value:=if g then .agg xs.toArray else xs.headD undef
theorem amE{t:TypeId}{g:Bool}(hg:E.isAgg t=some g)(w:World):(Go.isAgg t).run E.P w=.ok g w:=by
 obtain⟨d,J3,hd⟩:=Sn hg
 unfold Go.isAgg;rw[Sem.run_bind,run_underlying J3 w];cases d<;>simp_all
theorem adt{t:TypeId}{g:Bool}{n off:Nat}{xs:List Value}(hg:E.isAgg t=some g)(hs:E.size t=some n)(hle:off+n<=xs.length)(hn:g=true\/n=1)(w:World):
  (part t xs.toArray off).run E.P w=.ok (VA g ((xs.drop off).take n)) w:=by
 unfold part
 rw[Sem.run_bind,amE hg]
 cases g with
 |true=>
  unfold Env.size at hs
  cases hi:E.P.info? t with
  |none=>rw[hi] at hs;cases hs
  |some i=>
   rw[hi] at hs
   simp only[Ef,eZ] at hs
   simp[Go.sizeOf,typeInfo,hi,hs,VA]
 |false=>
  have hn:n=1:=by simpa using hn
  subst hn
  have hv:xs[off]? =some (xs[off]'(by omega)):=gr _
  simp only[yN,if_false,zed,hv,VA]
  rw[zel (by omega)]
  rfl
theorem adV{d k:Nat}{w:World}(ih:∀{t:TypeId}{xs ys:List Value}{b:Bool},E.K5 d t xs ys=some b->∀{g:Bool},E.isAgg t=some g->(Op.equalIn (d+k) t (VA g xs) (VA g ys)).run E.P w=.ok b w){xs ys:List Value}:
  ∀{fs:List Field}{b:Bool},fs.foldr (fun f acc=>match E.size f.type,E.isAgg f.type,acc with
     |some n,some g,some r=>bif f.name != "_" &&Nat.ble (f.offset+n) xs.length&&Nat.ble (f.offset+n) ys.length&&(g||Nat.beq n 1) then
       (match Env.K5 E d f.type ((xs.drop f.offset).take n) ((ys.drop f.offset).take n) with
       |some b=>some (b&&r)
       |none=>none) else none
     |_,_,_=>none) (some true)=some b->(Op.eqFields (d+k) xs.toArray ys.toArray fs).run E.P w=.ok b w
 |[],b,h=>by cases h;rfl
 |f::fs,b,h=>by
  simp only[List.foldr_cons] at h
  split at h
  ·rename_i n g r hn hg hr
   rw[fc] at h
   split at h
   ·rename_i hc
    simp only[fY,bne_iff_ne,ne_eq] at hc
    obtain⟨⟨⟨h1,h2⟩,h3⟩,h4⟩:=hc
    have h2:=H6 h2
    have h3:=H6 h3
    have h4:g=true\/n=1:=by
     rcases Bool.or_eq_true_iff.1 h4 with h|h
     ·exact .inl h
     ·exact .inr (jp h)
    split at h
    ·rename_i b0 hb
     cases h
     have fw:=adV ih hr
     simp only[Op.eqFields,ne_eq,h1,not_false_eq_true,if_true,Sem.run_bind,adt hg hn h2 h4,adt hg hn h3 h4,Result.andThen_ok,ih hb hg]
     cases b0
     ·simp
     ·simpa using fw
    ·cases h
   ·cases h
  ·cases h
theorem aoh:∀{d:Nat}{t:TypeId}{xs ys:List Value}{b:Bool},E.K5 d t xs ys=some b->∀{g:Bool},E.isAgg t=some g->∀(k:Nat)(w:World),
  (Op.equalIn (d+k) t (VA g xs) (VA g ys)).run E.P w=.ok b w:=by
 intro d
 induction d with
 |zero=>intro t xs ys b h;cases h
 |succ d ih=>
  intro t xs ys b h g hg k w
  have e:d+1+k=(d+k)+1:=by omega
  rw[e]
  unfold Env.K5 at h
  obtain⟨td,J3,htd⟩:=Sn hg
  have H3:=hg
  unfold Env.isAgg at H3
  rw[J3] at h H3
  cases td with
  |struct fs=>
   cases H3
   simp only at h
   cases nd:E.P.stoodInHeld t with
   |true=>rw[nd] at h;cases h
   |false=>
    rw[nd] at h
    simp only[cond_false] at h
    have hf:E.P.fieldsOf t=fs:=by simp only[Program.fieldsOf,J3]
    simp only[VA,if_true]
    rw[run_equalIn_struct w (d+k) t _ _ (by rw[hf];exact J3) nd,hf]
    exact adV (fun{t xs ys b} h {g} hg=>ih h hg k w) h
  |bool=>
   cases H3
   simp only at h
   split at h
   ·cases h;exact run_equalIn_bool' w (d+k) t _ _ J3
   ·cases h
  |int k'=>
   cases H3
   simp only at h
   split at h
   ·rename_i k1 a k2 b'
    by_cases hk:k1=k2
    ·simp only[hk,decide_true,cond_true] at h
     cases h
     subst hk
     exact run_equalIn_int w (d+k) t k1 k' _ _ J3
    ·simp[hk] at h
   ·cases h
  |string=>
   cases H3
   simp only at h
   split at h
   ·cases h;exact run_equalIn_string w (d+k) t _ _ J3
   ·cases h
  |_=>cases h
theorem Sc:∀{cs:List (AC U)}{us vs:List Value},qP cs=some us->kS E w F kv fp bad cs vs->vs=us
 |[],us,vs,h,hr=>by cases h;exact List.length_eq_zero_iff.1 hr.1.symm
 |x::cs,us,vs,h,hr=>by
  unfold qP at h
  split at h
  ·rename_i ph;cases ph
  ·rename_i v r ph
   cases ph
   split at h
   ·rename_i l hl
    cases h
    cases vs with
    |nil=>have:=hr.1;simp at this
    |cons u vs=>
     have h0:=hr.2 0 _ u rfl rfl
     have h1:kS E w F kv fp bad cs vs:=⟨by have:=hr.1;simpa using this,fun i x v hx hv=>hr.2 (i+1) x v (by simpa using hx) (by simpa using hv)⟩
     rw[Sc hl h1]
     rcases h0.2 with hb|hb
     ·cases hb
     ·have:u=v:=by cases hb;rfl
      rw[this]
   ·cases h
  ·cases h
theorem anA{o:Oper}{op:BinOp}{t t':TypeId}{x y:Operand}{sx sy:SV U}{r:bz U}(ho:o.op=.binOp op t x y t')
  (hx:RS E w F kv fp bad sx (a.eval x)) (hy:RS E w F kv fp bad sy (a.eval y)) (hr:QF E op t sx sy=some r):∃b,r=.lit (.bool b)/\cA E F kv fp bad a w o (uX (.bool b)):=by
 unfold QF at hr
 split at hr
 ·rename_i xs ys
  split at hr
  ·rename_i us vs sO HX
   obtain⟨N8,h1,H5⟩:=hx
   obtain⟨rm,h2,Uc⟩:=hy
   have e1:=Sc sO h1
   have e2:=Sc HX h2
   subst e1 e2
   simp only[if_true] at H5 Uc
   split at hr
   rotate_left
   ·cases hr
   rename_i hg
   cases H3:E.P.eqGuardType E.P.depth t with
   |true=>rw[H3] at hr;cases hr
   |false=>
    rw[H3] at hr
    simp only[cond_false] at hr
    have key:∀b,E.K5 8 t N8 rm=some b->(Op.equalIn 10000 t (.agg N8.toArray) (.agg rm.toArray)).run E.P w=.ok b w:=by
     intro b hb
     exact aoh hb hg 9992 w
    split at hr
    ·rename_i b hb
     cases hr
     refine⟨b,rfl,.bool b,?_,mB (v:=.bool b) ⟨rfl,trivial⟩⟩
     unfold execOp;simp only[ho,H5,Uc]
     exact gF (by rw[Sem.run_bind,run_eqGuard_agg w _ t x y _ _ H3,Result.andThen_ok,run_eql_struct,key b hb,Result.andThen_ok])
    ·rename_i b hb
     cases hr
     refine⟨!b,rfl,.bool (!b),?_,mB (v:=.bool (!b)) ⟨rfl,trivial⟩⟩
     unfold execOp;simp only[ho,H5,Uc]
     exact gF (by rw[Sem.run_bind,run_eqGuard_agg w _ t x y _ _ H3,Result.andThen_ok,run_neq_struct,key b hb,Result.andThen_ok])
    ·cases hr
  ·cases hr
 ·cases hr
end AM
