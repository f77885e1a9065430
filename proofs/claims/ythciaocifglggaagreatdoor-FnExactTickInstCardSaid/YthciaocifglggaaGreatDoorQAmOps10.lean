import Derived.Test.YthciaocifglggaaGreatDoorQAmOps4
import Derived.Laws.StructEq
namespace AM
set_option linter.unusedVariables false
open Go
variable{U:kz}{E:Env U}{pm:Pm}
variable{F:Nat->Prop}{kv:Key->Value}{fp:Key->List Nat}{σ:af U}{a:Act}{w:World}{bad:Key->Bool}
def R'(g:Bool)(xs:List Value):Value:=if g then .agg xs.toArray else xs.headD undef
theorem ajX{t:TypeId}{g:Bool}(hg:E.isAgg t=some g)(w:World):(Go.isAgg t).run E.P w=.ok g w:=by
 obtain⟨d,HB,hd⟩:=PO hg
 unfold Go.isAgg;rw[Sem.run_bind,run_underlying HB w];cases d<;>simp_all
theorem aaI{t:TypeId}{g:Bool}{n off:Nat}{xs:List Value}(hg:E.isAgg t=some g)(hs:E.size t=some n)(hle:off+n<=xs.length)(hn:g=true\/n=1)(w:World):
  (part t xs.toArray off).run E.P w=.ok (R' g ((xs.drop off).take n)) w:=by
 unfold part
 rw[Sem.run_bind,ajX hg]
 cases g with
 |true=>
  unfold Env.size at hs
  cases hi:E.P.info? t with
  |none=>rw[hi] at hs;cases hs
  |some i=>
   rw[hi] at hs
   simp only[B5,fJ] at hs
   simp[Go.sizeOf,typeInfo,hi,hs,R']
 |false=>
  have hn:n=1:=by simpa using hn
  subst hn
  have hv:xs[off]? =some (xs[off]'(by omega)):=gg _
  simp only[wE,if_false,zed,hv,R']
  rw[Zx (by omega)]
  rfl
theorem aa'{d k:Nat}{w:World}(ih:∀{t:TypeId}{xs ys:List Value}{b:Bool},E.Iu d t xs ys=some b->∀{g:Bool},E.isAgg t=some g->(Op.equalIn (d+k) t (R' g xs) (R' g ys)).run E.P w=.ok b w){xs ys:List Value}:
  ∀{fs:List Field}{b:Bool},fs.foldr (fun f acc=>match E.size f.type,E.isAgg f.type,acc with
     |some n,some g,some r=>bif f.name != "_" &&Nat.ble (f.offset+n) xs.length&&Nat.ble (f.offset+n) ys.length&&(g||Nat.beq n 1) then
       (match Env.Iu E d f.type ((xs.drop f.offset).take n) ((ys.drop f.offset).take n) with
       |some b=>some (b&&r)
       |none=>none) else none
     |_,_,_=>none) (some true)=some b->(Op.eqFields (d+k) xs.toArray ys.toArray fs).run E.P w=.ok b w
 |[],b,h=>by cases h;rfl
 |f::fs,b,h=>by
  simp only[List.foldr_cons] at h
  split at h
  ·rename_i n g r hn hg hr
   rw[gT] at h
   split at h
   ·rename_i hc
    simp only[eE,bne_iff_ne,ne_eq] at hc
    obtain⟨⟨⟨h1,h2⟩,h3⟩,h4⟩:=hc
    have h2:=FH h2
    have h3:=FH h3
    have h4:g=true\/n=1:=by
     rcases Bool.or_eq_true_iff.1 h4 with h|h
     ·exact .inl h
     ·exact .inr (lN h)
    split at h
    ·rename_i b0 hb
     cases h
     have iV:=aa' ih hr
     simp only[Op.eqFields,ne_eq,h1,not_false_eq_true,if_true,Sem.run_bind,aaI hg hn h2 h4,aaI hg hn h3 h4,Result.andThen_ok,ih hb hg]
     cases b0
     ·simp
     ·simpa using iV
    ·cases h
   ·cases h
  ·cases h
theorem alf:∀{d:Nat}{t:TypeId}{xs ys:List Value}{b:Bool},E.Iu d t xs ys=some b->∀{g:Bool},E.isAgg t=some g->∀(k:Nat)(w:World),
  (Op.equalIn (d+k) t (R' g xs) (R' g ys)).run E.P w=.ok b w:=by
 intro d
 induction d with
 |zero=>intro t xs ys b h;cases h
 |succ d ih=>
  intro t xs ys b h g hg k w
  have e:d+1+k=(d+k)+1:=by omega
  rw[e]
  unfold Env.Iu at h
  obtain⟨td,HB,htd⟩:=PO hg
  have HE:=hg
  unfold Env.isAgg at HE
  rw[HB] at h HE
  cases td with
  |struct fs=>
   cases HE
   simp only at h
   cases pZ:E.P.stoodInHeld t with
   |true=>rw[pZ] at h;cases h
   |false=>
    rw[pZ] at h
    simp only[cond_false] at h
    have hf:E.P.fieldsOf t=fs:=by simp only[Program.fieldsOf,HB]
    simp only[R',if_true]
    rw[run_equalIn_struct w (d+k) t _ _ (by rw[hf];exact HB) pZ,hf]
    exact aa' (fun{t xs ys b} h {g} hg=>ih h hg k w) h
  |bool=>
   cases HE
   simp only at h
   split at h
   ·cases h;exact run_equalIn_bool' w (d+k) t _ _ HB
   ·cases h
  |int k'=>
   cases HE
   simp only at h
   split at h
   ·rename_i k1 a k2 b'
    by_cases hk:k1=k2
    ·simp only[hk,decide_true,cond_true] at h
     cases h
     subst hk
     exact run_equalIn_int w (d+k) t k1 k' _ _ HB
    ·simp[hk] at h
   ·cases h
  |string=>
   cases HE
   simp only at h
   split at h
   ·cases h;exact run_equalIn_string w (d+k) t _ _ HB
   ·cases h
  |_=>cases h
theorem Py:∀{cs:List (AC U)}{us vs:List Value},pH cs=some us->kX E w F kv fp bad cs vs->vs=us
 |[],us,vs,h,hr=>by cases h;exact List.length_eq_zero_iff.1 hr.1.symm
 |x::cs,us,vs,h,hr=>by
  unfold pH at h
  split at h
  ·rename_i nV;cases nV
  ·rename_i v r nV
   cases nV
   split at h
   ·rename_i l hl
    cases h
    cases vs with
    |nil=>have:=hr.1;simp at this
    |cons u vs=>
     have h0:=hr.2 0 _ u rfl rfl
     have h1:kX E w F kv fp bad cs vs:=⟨by have:=hr.1;simpa using this,fun i x v hx hv=>hr.2 (i+1) x v (by simpa using hx) (by simpa using hv)⟩
     rw[Py hl h1]
     rcases h0.2 with hb|hb
     ·cases hb
     ·have:u=v:=by cases hb;rfl
      rw[this]
   ·cases h
  ·cases h
theorem akG{o:Oper}{op:BinOp}{t t':TypeId}{x y:Operand}{sx sy:SV U}{r:ch U}(ho:o.op=.binOp op t x y t')
  (hx:RS E w F kv fp bad sx (a.eval x)) (hy:RS E w F kv fp bad sy (a.eval y)) (hr:NO E op t sx sy=some r):∃b,r=.lit (.bool b)/\cv E F kv fp bad a w o (tD (.bool b)):=by
 unfold NO at hr
 split at hr
 ·rename_i xs ys
  split at hr
  ·rename_i us vs tS Ic
   obtain⟨Le,h1,HF⟩:=hx
   obtain⟨tY,h2,QH⟩:=hy
   have e1:=Py tS h1
   have e2:=Py Ic h2
   subst e1 e2
   simp only[if_true] at HF QH
   split at hr
   rotate_left
   ·cases hr
   rename_i hg
   cases HE:E.P.eqGuardType E.P.depth t with
   |true=>rw[HE] at hr;cases hr
   |false=>
    rw[HE] at hr
    simp only[cond_false] at hr
    have key:∀b,E.Iu 8 t Le tY=some b->(Op.equalIn 10000 t (.agg Le.toArray) (.agg tY.toArray)).run E.P w=.ok b w:=by
     intro b hb
     exact alf hb hg 9992 w
    split at hr
    ·rename_i b hb
     cases hr
     refine⟨b,rfl,.bool b,?_,lG (v:=.bool b) ⟨rfl,trivial⟩⟩
     unfold execOp;simp only[ho,HF,QH]
     exact ic (by rw[Sem.run_bind,run_eqGuard_agg w _ t x y _ _ HE,Result.andThen_ok,run_eql_struct,key b hb,Result.andThen_ok])
    ·rename_i b hb
     cases hr
     refine⟨!b,rfl,.bool (!b),?_,lG (v:=.bool (!b)) ⟨rfl,trivial⟩⟩
     unfold execOp;simp only[ho,HF,QH]
     exact ic (by rw[Sem.run_bind,run_eqGuard_agg w _ t x y _ _ HE,Result.andThen_ok,run_neq_struct,key b hb,Result.andThen_ok])
    ·cases hr
  ·cases hr
 ·cases hr
end AM
