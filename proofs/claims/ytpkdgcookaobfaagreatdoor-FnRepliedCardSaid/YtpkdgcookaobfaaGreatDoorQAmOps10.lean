/- THE ABSTRACT MACHINE: structs that are the same. -/
import Derived.Test.YtpkdgcookaobfaaGreatDoorQAmOps4
import Derived.Laws.StructEq
namespace AM
set_option linter.unusedVariables false
open Go
variable{U:lz}{E:Env U}{pm:Pm}
variable{F:Nat->Prop}{kv:Key->Value}{fp:Key->List Nat}{σ:ak U}{a:Act}{w:World}{bad:Key->Bool}
def W0(g:Bool)(xs:List Value):Value:=if g then .agg xs.toArray else xs.headD undef
theorem akT{t:TypeId}{g:Bool}(hg:E.isAgg t=some g)(w:World):(Go.isAgg t).run E.P w=.ok g w:=by
 obtain⟨d,Mj,hd⟩:=Vn hg
 unfold Go.isAgg;rw[Sem.run_bind,run_underlying Mj w];cases d<;>simp_all
theorem ac6{t:TypeId}{g:Bool}{n off:Nat}{xs:List Value}(hg:E.isAgg t=some g)(hs:E.size t=some n)(hle:off+n<=xs.length)(hn:g=true\/n=1)(w:World):
  (part t xs.toArray off).run E.P w=.ok (W0 g ((xs.drop off).take n)) w:=by
 unfold part
 rw[Sem.run_bind,akT hg]
 cases g with
 |true=>
  unfold Env.size at hs
  cases hi:E.P.info? t with
  |none=>rw[hi] at hs;cases hs
  |some i=>
   rw[hi] at hs
   simp only[FT,gA] at hs
   simp[Go.sizeOf,typeInfo,hi,hs,W0]
 |false=>
  have hn:n=1:=by simpa using hn
  subst hn
  have hv:xs[off]? =some (xs[off]'(by omega)):=fw _
  simp only[xv,if_false,zed,hv,W0]
  rw[Ui (by omega)]
  rfl
theorem ady{d k:Nat}{w:World}(ih:∀{t:TypeId}{xs ys:List Value}{b:Bool},E.Nl d t xs ys=some b->∀{g:Bool},E.isAgg t=some g->(Op.equalIn (d+k) t (W0 g xs) (W0 g ys)).run E.P w=.ok b w){xs ys:List Value}:
  ∀{fs:List Field}{b:Bool},fs.foldr (fun f acc=>match E.size f.type,E.isAgg f.type,acc with
     |some n,some g,some r=>bif f.name != "_" &&Nat.ble (f.offset+n) xs.length&&Nat.ble (f.offset+n) ys.length&&(g||Nat.beq n 1) then
       (match Env.Nl E d f.type ((xs.drop f.offset).take n) ((ys.drop f.offset).take n) with
       |some b=>some (b&&r)
       |none=>none) else none
     |_,_,_=>none) (some true)=some b->(Op.eqFields (d+k) xs.toArray ys.toArray fs).run E.P w=.ok b w
 |[],b,h=>by cases h;rfl
 |f::fs,b,h=>by
  simp only[List.foldr_cons] at h
  split at h
  ·rename_i n g r hn hg hr
   rw[im] at h
   split at h
   ·rename_i hc
    simp only[cJ,bne_iff_ne,ne_eq] at hc
    obtain⟨⟨⟨h1,h2⟩,h3⟩,h4⟩:=hc
    have h2:=J' h2
    have h3:=J' h3
    have h4:g=true\/n=1:=by
     rcases Bool.or_eq_true_iff.1 h4 with h|h
     ·exact .inl h
     ·exact .inr (nk h)
    split at h
    ·rename_i b0 hb
     cases h
     have jn:=ady ih hr
     simp only[Op.eqFields,ne_eq,h1,not_false_eq_true,if_true,Sem.run_bind,ac6 hg hn h2 h4,ac6 hg hn h3 h4,Result.andThen_ok,ih hb hg]
     cases b0
     ·simp
     ·simpa using jn
    ·cases h
   ·cases h
  ·cases h
theorem amd:∀{d:Nat}{t:TypeId}{xs ys:List Value}{b:Bool},E.Nl d t xs ys=some b->∀{g:Bool},E.isAgg t=some g->∀(k:Nat)(w:World),
  (Op.equalIn (d+k) t (W0 g xs) (W0 g ys)).run E.P w=.ok b w:=by
 intro d
 induction d with
 |zero=>intro t xs ys b h;cases h
 |succ d ih=>
  intro t xs ys b h g hg k w
  have e:d+1+k=(d+k)+1:=by omega
  rw[e]
  unfold Env.Nl at h
  obtain⟨td,Mj,htd⟩:=Vn hg
  have Mm:=hg
  unfold Env.isAgg at Mm
  rw[Mj] at h Mm
  cases td with
  |struct fs=>
   cases Mm
   simp only at h
   cases qR:E.P.stoodInHeld t with
   |true=>rw[qR] at h;cases h
   |false=>
    rw[qR] at h
    simp only[cond_false] at h
    have hf:E.P.fieldsOf t=fs:=by simp only[Program.fieldsOf,Mj]
    simp only[W0,if_true]
    rw[run_equalIn_struct w (d+k) t _ _ (by rw[hf];exact Mj) qR,hf]
    exact ady (fun{t xs ys b} h {g} hg=>ih h hg k w) h
  |bool=>
   cases Mm
   simp only at h
   split at h
   ·cases h;exact run_equalIn_bool' w (d+k) t _ _ Mj
   ·cases h
  |int k'=>
   cases Mm
   simp only at h
   split at h
   ·rename_i k1 a k2 b'
    by_cases hk:k1=k2
    ·simp only[hk,decide_true,cond_true] at h
     cases h
     subst hk
     exact run_equalIn_int w (d+k) t k1 k' _ _ Mj
    ·simp[hk] at h
   ·cases h
  |string=>
   cases Mm
   simp only at h
   split at h
   ·cases h;exact run_equalIn_string w (d+k) t _ _ Mj
   ·cases h
  |_=>cases h
theorem U9:∀{cs:List (AC U)}{us vs:List Value},rU cs=some us->mc E w F kv fp bad cs vs->vs=us
 |[],us,vs,h,hr=>by cases h;exact List.length_eq_zero_iff.1 hr.1.symm
 |x::cs,us,vs,h,hr=>by
  unfold rU at h
  split at h
  ·rename_i pV;cases pV
  ·rename_i v r pV
   cases pV
   split at h
   ·rename_i l hl
    cases h
    cases vs with
    |nil=>have:=hr.1;simp at this
    |cons u vs=>
     have h0:=hr.2 0 _ u rfl rfl
     have h1:mc E w F kv fp bad cs vs:=⟨by have:=hr.1;simpa using this,fun i x v hx hv=>hr.2 (i+1) x v (by simpa using hx) (by simpa using hv)⟩
     rw[U9 hl h1]
     rcases h0.2 with hb|hb
     ·cases hb
     ·have:u=v:=by cases hb;rfl
      rw[this]
   ·cases h
  ·cases h
theorem alE{o:Oper}{op:BinOp}{t t':TypeId}{x y:Operand}{sx sy:SV U}{r:cn U}(ho:o.op=.binOp op t x y t')
  (hx:RS E w F kv fp bad sx (a.eval x)) (hy:RS E w F kv fp bad sy (a.eval y)) (hr:S5 E op t sx sy=some r):∃b,r=.lit (.bool b)/\cF E F kv fp bad a w o (wk (.bool b)):=by
 unfold S5 at hr
 split at hr
 ·rename_i xs ys
  split at hr
  ·rename_i us vs wF FO
   obtain⟨QB,h1,Mn⟩:=hx
   obtain⟨wj,h2,Oi⟩:=hy
   have e1:=U9 wF h1
   have e2:=U9 FO h2
   subst e1 e2
   simp only[if_true] at Mn Oi
   split at hr
   rotate_left
   ·cases hr
   rename_i hg
   cases Mm:E.P.eqGuardType E.P.depth t with
   |true=>rw[Mm] at hr;cases hr
   |false=>
    rw[Mm] at hr
    simp only[cond_false] at hr
    have key:∀b,E.Nl 8 t QB wj=some b->(Op.equalIn 10000 t (.agg QB.toArray) (.agg wj.toArray)).run E.P w=.ok b w:=by
     intro b hb
     exact amd hb hg 9992 w
    split at hr
    ·rename_i b hb
     cases hr
     refine⟨b,rfl,.bool b,?_,nc (v:=.bool b) ⟨rfl,trivial⟩⟩
     unfold execOp;simp only[ho,Mn,Oi]
     exact iD (by rw[Sem.run_bind,run_eqGuard_agg w _ t x y _ _ Mm,Result.andThen_ok,run_eql_struct,key b hb,Result.andThen_ok])
    ·rename_i b hb
     cases hr
     refine⟨!b,rfl,.bool (!b),?_,nc (v:=.bool (!b)) ⟨rfl,trivial⟩⟩
     unfold execOp;simp only[ho,Mn,Oi]
     exact iD (by rw[Sem.run_bind,run_eqGuard_agg w _ t x y _ _ Mm,Result.andThen_ok,run_neq_struct,key b hb,Result.andThen_ok])
    ·cases hr
  ·cases hr
 ·cases hr
end AM
