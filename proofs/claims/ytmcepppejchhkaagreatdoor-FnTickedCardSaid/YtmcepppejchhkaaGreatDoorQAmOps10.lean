import Derived.Test.YtmcepppejchhkaaGreatDoorQAmOps4
import Derived.Laws.StructEq
namespace AM
set_option linter.unusedVariables false
open Go
variable{U:lQ}{E:Env U}{pm:Pm}
variable{F:Nat->Prop}{kv:Key->Value}{fp:Key->List Nat}{σ:ak U}{a:Act}{w:World}{bad:Key->Bool}
def Xl(g:Bool)(xs:List Value):Value:=if g then .agg xs.toArray else xs.headD undef
theorem ali{t:TypeId}{g:Bool}(hg:E.isAgg t=some g)(w:World):(Go.isAgg t).run E.P w=.ok g w:=by
 obtain⟨d,MC,hd⟩:=Vx hg
 unfold Go.isAgg;rw[Sem.run_bind,run_underlying MC w];cases d<;>simp_all
theorem adq{t:TypeId}{g:Bool}{n off:Nat}{xs:List Value}(hg:E.isAgg t=some g)(hs:E.size t=some n)(hle:off+n<=xs.length)(hn:g=true\/n=1)(w:World):
  (part t xs.toArray off).run E.P w=.ok (Xl g ((xs.drop off).take n)) w:=by
 unfold part
 rw[Sem.run_bind,ali hg]
 cases g with
 |true=>
  unfold Env.size at hs
  cases hi:E.P.info? t with
  |none=>rw[hi] at hs;cases hs
  |some i=>
   rw[hi] at hs
   simp only[Gj,gI] at hs
   simp[Go.sizeOf,typeInfo,hi,hs,Xl]
 |false=>
  have hn:n=1:=by simpa using hn
  subst hn
  have hv:xs[off]? =some (xs[off]'(by omega)):=fE _
  simp only[xS,if_false,zed,hv,Xl]
  rw[Us (by omega)]
  rfl
theorem adS{d k:Nat}{w:World}(ih:∀{t:TypeId}{xs ys:List Value}{b:Bool},E.NC d t xs ys=some b->∀{g:Bool},E.isAgg t=some g->(Op.equalIn (d+k) t (Xl g xs) (Xl g ys)).run E.P w=.ok b w){xs ys:List Value}:
  ∀{fs:List Field}{b:Bool},fs.foldr (fun f acc=>match E.size f.type,E.isAgg f.type,acc with
     |some n,some g,some r=>bif f.name != "_" &&Nat.ble (f.offset+n) xs.length&&Nat.ble (f.offset+n) ys.length&&(g||Nat.beq n 1) then
       (match Env.NC E d f.type ((xs.drop f.offset).take n) ((ys.drop f.offset).take n) with
       |some b=>some (b&&r)
       |none=>none) else none
     |_,_,_=>none) (some true)=some b->(Op.eqFields (d+k) xs.toArray ys.toArray fs).run E.P w=.ok b w
 |[],b,h=>by cases h;rfl
 |f::fs,b,h=>by
  simp only[List.foldr_cons] at h
  split at h
  ·rename_i n g r hn hg hr
   rw[iw] at h
   split at h
   ·rename_i hc
    simp only[cN,bne_iff_ne,ne_eq] at hc
    obtain⟨⟨⟨h1,h2⟩,h3⟩,h4⟩:=hc
    have h2:=Kp h2
    have h3:=Kp h3
    have h4:g=true\/n=1:=by
     rcases Bool.or_eq_true_iff.1 h4 with h|h
     ·exact .inl h
     ·exact .inr (nF h)
    split at h
    ·rename_i b0 hb
     cases h
     have jz:=adS ih hr
     simp only[Op.eqFields,ne_eq,h1,not_false_eq_true,if_true,Sem.run_bind,adq hg hn h2 h4,adq hg hn h3 h4,Result.andThen_ok,ih hb hg]
     cases b0
     ·simp
     ·simpa using jz
    ·cases h
   ·cases h
  ·cases h
theorem amE:∀{d:Nat}{t:TypeId}{xs ys:List Value}{b:Bool},E.NC d t xs ys=some b->∀{g:Bool},E.isAgg t=some g->∀(k:Nat)(w:World),
  (Op.equalIn (d+k) t (Xl g xs) (Xl g ys)).run E.P w=.ok b w:=by
 intro d
 induction d with
 |zero=>intro t xs ys b h;cases h
 |succ d ih=>
  intro t xs ys b h g hg k w
  have e:d+1+k=(d+k)+1:=by omega
  rw[e]
  unfold Env.NC at h
  obtain⟨td,MC,htd⟩:=Vx hg
  have MF:=hg
  unfold Env.isAgg at MF
  rw[MC] at h MF
  cases td with
  |struct fs=>
   cases MF
   simp only at h
   cases rh:E.P.stoodInHeld t with
   |true=>rw[rh] at h;cases h
   |false=>
    rw[rh] at h
    simp only[cond_false] at h
    have hf:E.P.fieldsOf t=fs:=by simp only[Program.fieldsOf,MC]
    simp only[Xl,if_true]
    rw[run_equalIn_struct w (d+k) t _ _ (by rw[hf];exact MC) rh,hf]
    exact adS (fun{t xs ys b} h {g} hg=>ih h hg k w) h
  |bool=>
   cases MF
   simp only at h
   split at h
   ·cases h;exact run_equalIn_bool' w (d+k) t _ _ MC
   ·cases h
  |int k'=>
   cases MF
   simp only at h
   split at h
   ·rename_i k1 a k2 b'
    by_cases hk:k1=k2
    ·simp only[hk,decide_true,cond_true] at h
     cases h
     subst hk
     exact run_equalIn_int w (d+k) t k1 k' _ _ MC
    ·simp[hk] at h
   ·cases h
  |string=>
   cases MF
   simp only at h
   split at h
   ·cases h;exact run_equalIn_string w (d+k) t _ _ MC
   ·cases h
  |_=>cases h
theorem Vh:∀{cs:List (AC U)}{us vs:List Value},sh cs=some us->mw E w F kv fp bad cs vs->vs=us
 |[],us,vs,h,hr=>by cases h;exact List.length_eq_zero_iff.1 hr.1.symm
 |x::cs,us,vs,h,hr=>by
  unfold sh at h
  split at h
  ·rename_i qc;cases qc
  ·rename_i v r qc
   cases qc
   split at h
   ·rename_i l hl
    cases h
    cases vs with
    |nil=>have:=hr.1;simp at this
    |cons u vs=>
     have h0:=hr.2 0 _ u rfl rfl
     have h1:mw E w F kv fp bad cs vs:=⟨by have:=hr.1;simpa using this,fun i x v hx hv=>hr.2 (i+1) x v (by simpa using hx) (by simpa using hv)⟩
     rw[Vh hl h1]
     rcases h0.2 with hb|hb
     ·cases hb
     ·have:u=v:=by cases hb;rfl
      rw[this]
   ·cases h
  ·cases h
theorem al5{o:Oper}{op:BinOp}{t t':TypeId}{x y:Operand}{sx sy:SV U}{r:cq U}(ho:o.op=.binOp op t x y t')
  (hx:RS E w F kv fp bad sx (a.eval x)) (hy:RS E w F kv fp bad sy (a.eval y)) (hr:Tc E op t sx sy=some r):∃b,r=.lit (.bool b)/\cI E F kv fp bad a w o (wL (.bool b)):=by
 unfold Tc at hr
 split at hr
 ·rename_i xs ys
  split at hr
  ·rename_i us vs w5 Gf
   obtain⟨QL,h1,MG⟩:=hx
   obtain⟨wJ,h2,Ow⟩:=hy
   have e1:=Vh w5 h1
   have e2:=Vh Gf h2
   subst e1 e2
   simp only[if_true] at MG Ow
   split at hr
   rotate_left
   ·cases hr
   rename_i hg
   cases MF:E.P.eqGuardType E.P.depth t with
   |true=>rw[MF] at hr;cases hr
   |false=>
    rw[MF] at hr
    simp only[cond_false] at hr
    have key:∀b,E.NC 8 t QL wJ=some b->(Op.equalIn 10000 t (.agg QL.toArray) (.agg wJ.toArray)).run E.P w=.ok b w:=by
     intro b hb
     exact amE hb hg 9992 w
    split at hr
    ·rename_i b hb
     cases hr
     refine⟨b,rfl,.bool b,?_,ny (v:=.bool b) ⟨rfl,trivial⟩⟩
     unfold execOp;simp only[ho,MG,Ow]
     exact iM (by rw[Sem.run_bind,run_eqGuard_agg w _ t x y _ _ MF,Result.andThen_ok,run_eql_struct,key b hb,Result.andThen_ok])
    ·rename_i b hb
     cases hr
     refine⟨!b,rfl,.bool (!b),?_,ny (v:=.bool (!b)) ⟨rfl,trivial⟩⟩
     unfold execOp;simp only[ho,MG,Ow]
     exact iM (by rw[Sem.run_bind,run_eqGuard_agg w _ t x y _ _ MF,Result.andThen_ok,run_neq_struct,key b hb,Result.andThen_ok])
    ·cases hr
  ·cases hr
 ·cases hr
end AM
