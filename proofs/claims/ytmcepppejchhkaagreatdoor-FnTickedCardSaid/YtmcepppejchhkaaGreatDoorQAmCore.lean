import Derived.Calls
import Derived.Orders
import Derived.Laws.AppendOwn
import Derived.Below
import Derived.Laws.BytesArg
namespace AM
theorem fF:type_of% @List.mem_cons_of_mem:=@List.mem_cons_of_mem
theorem iH:type_of% @List.mem_cons_self:=@List.mem_cons_self
theorem eV:type_of% @List.getD_eq_getElem?_getD:=@List.getD_eq_getElem?_getD
theorem fE:type_of% @List.getElem?_eq_getElem:=@List.getElem?_eq_getElem
theorem gI:type_of% @Option.some.injEq:=@Option.some.injEq
theorem cN:type_of% @Bool.and_eq_true:=@Bool.and_eq_true
theorem nA:type_of% @Option.isSome_iff_exists:=@Option.isSome_iff_exists
theorem iw:type_of% @Bool.cond_eq_ite:=@Bool.cond_eq_ite
theorem nF:type_of% @Nat.eq_of_beq_eq_true:=@Nat.eq_of_beq_eq_true
theorem ot:type_of% @List.getElem?_eq_none:=@List.getElem?_eq_none
theorem kc:type_of% @List.mem_cons:=@List.mem_cons
theorem nS:type_of% @List.getElem?_map:=@List.getElem?_map
theorem vF:type_of% @List.getElem?_cons_zero:=@List.getElem?_cons_zero
theorem qy:type_of% @List.getElem?_take:=@List.getElem?_take
theorem jI:type_of% @List.mem_append:=@List.mem_append
theorem z_:type_of% @List.getElem?_append_right:=@List.getElem?_append_right
theorem zY:type_of% @List.getElem?_append_left:=@List.getElem?_append_left
theorem rW:type_of% @List.mem_append_left:=@List.mem_append_left
theorem qM:type_of% @List.mem_append_right:=@List.mem_append_right
theorem o8:type_of% @List.mem_flatMap:=@List.mem_flatMap
theorem mW:type_of% @List.mem_singleton:=@List.mem_singleton
theorem rV:type_of% @List.nodup_append:=@List.nodup_append
theorem oq:type_of% @List.length_take:=@List.length_take
theorem pE:type_of% @Prod.mk.injEq:=@Prod.mk.injEq
theorem pR:type_of% @List.mem_range:=@List.mem_range
theorem mz:type_of% @List.mem_map:=@List.mem_map
theorem pt:type_of% @Nat.lt_or_ge:=@Nat.lt_or_ge
theorem vD:type_of% @List.any_eq_true:=@List.any_eq_true
theorem Be:type_of% @Nat.mul_le_mul_right:=@Nat.mul_le_mul_right
theorem qK:type_of% @Bool.not_eq_true':=@Bool.not_eq_true'
theorem ur:type_of% @List.nodup_cons:=@List.nodup_cons
theorem Kk:type_of% @List.length_modify:=@List.length_modify
theorem xS:type_of% @Bool.false_eq_true:=@Bool.false_eq_true
theorem Gl:type_of% @List.eq_nil_of_length_eq_zero:=@List.eq_nil_of_length_eq_zero
theorem qx:type_of% @Bool.false_and:=@Bool.false_and
theorem wI:type_of% @Bool.not_eq_true:=@Bool.not_eq_true
theorem sT:type_of% @List.getElem_of_mem:=@List.getElem_of_mem
theorem GK:type_of% @List.mem_of_getElem?:=@List.mem_of_getElem?
theorem zZ:type_of% @List.flatMap_cons:=@List.flatMap_cons
theorem Gk:type_of% @Array.length_toList:=@Array.length_toList
theorem fz:type_of% @List.length_nil:=@List.length_nil
theorem zbp:type_of% @Int.tmod_eq_emod_of_nonneg:=@Int.tmod_eq_emod_of_nonneg
theorem fP:type_of% @List.length_cons:=@List.length_cons
theorem xU:type_of% @List.append_assoc:=@List.append_assoc
theorem vC:type_of% @Bool.and_false:=@Bool.and_false
theorem wH:type_of% @List.map_cons:=@List.map_cons
theorem Kp:type_of% @Nat.le_of_ble_eq_true:=@Nat.le_of_ble_eq_true
theorem HR:type_of% @List.getElem?_drop:=@List.getElem?_drop
theorem vB:type_of% @Nat.zero_add:=@Nat.zero_add
theorem MK:type_of% @Array.getElem?_toList:=@Array.getElem?_toList
theorem QZ:type_of% @Array.getD_eq_getD_getElem?:=@Array.getD_eq_getD_getElem?
theorem MJ:type_of% @List.flatten_cons:=@List.flatten_cons
theorem uh:type_of% @Nat.le_refl:=@Nat.le_refl
theorem sP:type_of% @List.all_eq_true:=@List.all_eq_true
theorem Mz:type_of% @List.flatten_append:=@List.flatten_append
theorem Gj:type_of% @Option.map_some:=@Option.map_some
theorem kF:type_of% @List.length_append:=@List.length_append
theorem NV:type_of% @List.not_mem_nil:=@List.not_mem_nil
theorem xR:type_of% @List.mem_filter:=@List.mem_filter
theorem uJ:type_of% @List.append_nil:=@List.append_nil
theorem xT:type_of% @Nat.add_mul:=@Nat.add_mul
theorem Gi:type_of% @Option.getD_some:=@Option.getD_some
theorem wQ:type_of% @Bool.true_and:=@Bool.true_and
theorem NU:type_of% @List.getElem?_range:=@List.getElem?_range
theorem Gd:type_of% @Bool.eq_iff_iff:=@Bool.eq_iff_iff
theorem Gc:type_of% @Bool.or_eq_true:=@Bool.or_eq_true
theorem wP:type_of% @List.length_map:=@List.length_map
theorem QK:type_of% @Bool.or_eq_false_iff:=@Bool.or_eq_false_iff
theorem Uv:type_of% @List.take_append_drop:=@List.take_append_drop
theorem Pb:type_of% @List.map_congr_left:=@List.map_congr_left
theorem My:type_of% @List.length_drop:=@List.length_drop
theorem Pa:type_of% @List.flatMap_def:=@List.flatMap_def
theorem Mx:type_of% @List.length_set:=@List.length_set
theorem Kj:type_of% @Nat.add_zero:=@Nat.add_zero
theorem GJ:type_of% @Bool.false_or:=@Bool.false_or
theorem Uu:type_of% @List.ext_getElem?:=@List.ext_getElem?
theorem Ut:type_of% @List.take_of_length_le:=@List.take_of_length_le
theorem zcz:type_of% @List.take_succ_eq_append_getElem:=@List.take_succ_eq_append_getElem
theorem D5:type_of% @List.getElem_mem:=@List.getElem_mem
theorem B6:type_of% @Bool.and_true:=@Bool.and_true
theorem MI:type_of% @List.sum_cons:=@List.sum_cons
theorem zdd:type_of% @List.cons.injEq:=@List.cons.injEq
theorem uN:type_of% @Nat.le_trans:=@Nat.le_trans
theorem QY:type_of% @Option.getD_none:=@Option.getD_none
theorem zdg:type_of% @List.nodup_iff_pairwise_ne:=@List.nodup_iff_pairwise_ne
theorem Xa:type_of% @List.getElem?_set:=@List.getElem?_set
theorem W_:type_of% @List.Sublist.refl:=@List.Sublist.refl
theorem UN:type_of% @List.size_toArray:=@List.size_toArray
theorem zdk:type_of% @Array.getElem?_eq_getElem:=@Array.getElem?_eq_getElem
theorem QX:type_of% @Nat.add_assoc:=@Nat.add_assoc
theorem zdm:type_of% @List.eq_nil_iff_forall_not_mem:=@List.eq_nil_iff_forall_not_mem
theorem HQ:type_of% @Nat.beq_eq:=@Nat.beq_eq
theorem QW:type_of% @List.any_map:=@List.any_map
theorem zdp:type_of% @List.getElem?_set_self:=@List.getElem?_set_self
theorem ZC:type_of% @List.mem_flatten:=@List.mem_flatten
theorem QV:type_of% @List.all_cons:=@List.all_cons
theorem zds:type_of% @Nat.lt_of_lt_of_le:=@Nat.lt_of_lt_of_le
theorem Mw:type_of% @List.length_filter_le:=@List.length_filter_le
theorem ZB:type_of% @List.nodup_nil:=@List.nodup_nil
theorem UM:type_of% @List.pairwise_iff_getElem:=@List.pairwise_iff_getElem
theorem QU:type_of% @Nat.one_mul:=@Nat.one_mul
theorem ZA:type_of% @Option.some.inj:=@Option.some.inj
theorem zdy:type_of% @Option.bind_eq_some_iff:=@Option.bind_eq_some_iff
theorem zdz:type_of% @List.getElem?_replicate:=@List.getElem?_replicate
theorem W9:type_of% @Bool.not_false:=@Bool.not_false
theorem zeb:type_of% @List.find?_eq_none:=@List.find?_eq_none
theorem UL:type_of% @Nat.mul_comm:=@Nat.mul_comm
theorem zed:type_of% @List.getElem?_toArray:=@List.getElem?_toArray
theorem zee:type_of% @List.length_replicate:=@List.length_replicate
theorem Ko:type_of% @List.map_append:=@List.map_append
theorem UK:type_of% @List.any_cons:=@List.any_cons
theorem QJ:type_of% @Bool.or_false:=@Bool.or_false
theorem Zz:type_of% @List.getElem?_modify:=@List.getElem?_modify
theorem zej:type_of% @List.getElem?_zipIdx:=@List.getElem?_zipIdx
theorem zek:type_of% @List.getElem?_set_ne:=@List.getElem?_set_ne
theorem Us:type_of% @List.drop_eq_getElem_cons:=@List.drop_eq_getElem_cons
theorem zem:type_of% @List.sublist_append_right:=@List.sublist_append_right
theorem zen:type_of% @List.flatMap_nil:=@List.flatMap_nil
theorem zeo:type_of% @Array.toList_map:=@Array.toList_map
theorem Ur:type_of% @List.flatMap_append:=@List.flatMap_append
theorem QT:type_of% @Nat.ble_eq:=@Nat.ble_eq
theorem zer:type_of% @List.sublist_append_left:=@List.sublist_append_left
theorem QS:type_of% @List.all_nil:=@List.all_nil
theorem Zy:type_of% @List.sum_append:=@List.sum_append
theorem Zx:type_of% @Int.toNat_natCast:=@Int.toNat_natCast
theorem Zw:type_of% @Nat.sub_self:=@Nat.sub_self
theorem zew:type_of% @Nat.add_comm:=@Nat.add_comm
theorem zex:type_of% @List.cons_append:=@List.cons_append
theorem zey:type_of% @List.flatten_nil:=@List.flatten_nil
theorem zez:type_of% @Nat.div_eq_of_lt:=@Nat.div_eq_of_lt
theorem zfa:type_of% @Bool.not_true:=@Bool.not_true
set_option linter.unusedVariables false
noncomputable section
open Go
inductive Cell (Ty:Type) (T:Ty->Type) where
 |lit (v:Value)
 |sl (τ:Ty) (xs:List (T τ))
structure lQ where
 Ty:Type
 T:Ty->Type
 deq:DecidableEq Ty
 wd:Ty->Nat
 enc:(τ:Ty)->T τ->List (Cell Ty T)
 dec:(τ:Ty)->List (Cell Ty T)->Option (T τ)
 ff:(τ:Ty)->T τ
 flat:Ty->Bool
 lq:∀τ,0<wd τ
 dG:∀τ x,(enc τ x).length=wd τ
 ni:∀τ cs x,dec τ cs=some x->enc τ x=cs
 Ox:∀τ,flat τ=true->∀x c,c∈enc τ x->∃v,c=.lit v
 pB:Ty
 Xe:T pB->Int
 ofB:Int->T pB
 N0:∀n,Xe (ofB n)=n
 Hu:∀x,enc pB x=[.lit (.int .u8 (Xe x))]
abbrev lQ.C(U:lQ):=Cell U.Ty U.T
structure iE(U:lQ) where
 τ:U.Ty
 xs:List (U.T τ)
abbrev Key:=Nat×Nat
abbrev Path:=List (Nat×Nat×Nat)
inductive AC (U:lQ) where
 |c (x:U.C)
 |e0
 |ref (k:Key) (p:Path)
 |sub (k:Key) (wd lo hi:Nat)
 |l7 (k:Key) (p:Path) (i wd off:Nat)
 |kQ (k:Key) (off:Nat)
 |ia (cs:List U.C)
 |kn (b:Bool) (τ:U.Ty) (xs:List (U.T τ))
structure AV(U:lQ) where
 agg:Bool
 cs:List (AC U)
structure DA(U:lQ) where
 agg:Bool
 cs:List U.C
inductive SV (U:lQ) where
 |v (x:AV U)
 |wR (xs:List (AV U))
 |fn (p:List (DA U)->Option Value)
 |Hy (g:FuncId) (ql:List (AV U))
inductive iX (U:lQ) where
 |arr (a:iE U) (deep:Bool)
 |box (cs:List (AC U))
 |part (a:iE U) (dead:Nat->Bool)
structure ak(U:lQ) where
 n:Nat
 bG:List (Nat×Option (SV U))
 o9:List (Key×Option (iX U))
 aS:List Key
def look{β:Type}(l:List (Nat×Option β))(s:Nat):Option β:=
 match l with
 |[]=>none
 |(t,v)::r=>bif Nat.beq t s then v else look r s
def iZ(a b:Key):Bool:=Nat.beq a.1 b.1&&Nat.beq a.2 b.2
def eY{β:Type}(l:List (Key×Option β))(k:Key):Option β:=
 match l with
 |[]=>none
 |(t,v)::r=>bif iZ t k then v else eY r k
def ak.get{U:lQ}(σ:ak U)(s:Nat):Option (SV U):=look σ.bG s
def ak.bP{U:lQ}(σ:ak U)(k:Key):Option (iX U):=eY σ.o9 k
inductive DV (U:lQ) where
 |one (c:U.C)
 |agg (cs:List U.C)
 |box (cs:List U.C)
 |ptr (cs:List U.C)
 |fn (p:List (DA U)->Option Value)
inductive Mode where
 |ro|wr|mv
 |box (own:Bool)
 deriving DecidableEq
structure Res(U:lQ) where
 val:List (DV U)
 fresh:List Bool
 Ll:List (DV U)
structure ka(U:lQ) where
 α:Type
 md:List Mode
 of:List (DV U)->Option α
 ds:α->List (DV U)
 pre:α->List Prop
 oe:α->Res U
 law:∀l x,of l=some x->ds x=l
 KQ:Nat:=0
 cut:Nat:=0
def ka.want{U:lQ}(k:ka U)(ws:List (List (Option U.Ty))):List (List (Option U.Ty)):=match k.cut with
 |0=>ws
 |n+1=>ws.map (List.take (n+1))
structure Env(U:lQ) where
 P:Program
 tid:U.Ty->TypeId
 code:TypeId->Option U.Ty
 Qw:FuncId->Option (ka U)
 Qv:FuncId->Option (ka U):=fun _=>none
 UT:List (Nat×Array Value):=[]
 gv:TypeId->Nat->List Key->Bool:=fun _ _ _=>false
 shl:TypeId->Bool:=fun _=>false
section
variable{U:lQ}(E:Env U)
def Env.isAgg(t:TypeId):Option Bool:=match E.P.underlying t with|some (.struct _)=>some true|some (.array _ _)=>some true|some _=>some false|none=>none
def Env.size(t:TypeId):Option Nat:=(E.P.info? t).map (·.size)
def Env.elem(t:TypeId):Option TypeId:=match E.P.underlying t with|some (.slice e)=>some e|_=>none
def Env.Wp(t:TypeId)(f:Nat):Option (Nat×TypeId):=match E.P.underlying t with|some (.struct fs)=>(fs[f]?).map fun f=>(f.offset,f.type)|_=>none
def Env.shape:Nat->TypeId->List (Option U.Ty)
 |0,_=>[]
 |d+1,t=>match E.P.underlying t with
  |some (.struct fs)=>fs.toList.flatMap fun f=>Env.shape d f.type
  |some (.slice e)=>[E.code e]
  |_=>[none]
def Env.Ai(t:TypeId):List (Option U.Ty):=match E.P.underlying t with
 |some (.pointer e)=>E.shape 8 e
 |_=>E.shape 8 t
def walk:Path->iE U->Option (List Prop×iE U)
 |[],a=>some ([],a)
 |(i,wd,j)::p,a=>
  bif Nat.beq wd (U.wd a.τ) then
   match(U.enc a.τ (a.xs.getD i (U.ff a.τ)))[j]? with
   |some (.sl τ xs)=>match walk p ⟨τ,xs⟩ with
    |some (ps,b)=>some ((i<a.xs.length)::ps,b)
    |none=>none
   |_=>none
  else none
def Xk(τ:U.Ty)(g:List U.C->List U.C)(x:U.T τ):U.T τ:=match U.dec τ (g (U.enc τ x)) with|some y=>y|none=>x
def Ij(τ:U.Ty)(xs:List (U.T τ))(i:Nat)(g:List U.C->List U.C):List (U.T τ):=xs.modify i (Xk τ g)
theorem adz{τ:U.Ty}{xs:List (U.T τ)}{i:Nat}{g:List U.C->List U.C}{y:U.T τ}(h:U.dec τ (g (U.enc τ (xs.getD i (U.ff τ))))=some y):Ij τ xs i g=xs.set i y:=by
 unfold Ij
 refine Uu fun j=> ?_
 rw[Zz,Xa]
 by_cases hj:i=j
 ·subst hj
  rw[if_pos rfl]
  by_cases hi:i<xs.length
  ·rw[if_pos hi,fE hi]
   rw[eV,fE hi] at h
   simp only[Gi] at h
   simp[Xk,h]
  ·rw[if_neg hi,ot (by omega)];rfl
 ·rw[if_neg hj]
  simp[hj]
def chg:Path->iE U->(iE U->Option (iE U))->Option (iE U)
 |[],a,f=>f a
 |(i,_,j)::p,a,f=>
  let cs:=U.enc a.τ (a.xs.getD i (U.ff a.τ))
  match cs[j]? with
  |some (.sl τ xs)=>
   match chg p ⟨τ,xs⟩ f with
   |some b=>match U.dec a.τ (cs.set j (.sl b.τ b.xs)) with
    |some _=>some ⟨a.τ,Ij a.τ a.xs i (fun cs=>cs.set j (.sl b.τ b.xs))⟩
    |none=>none
   |none=>none
  |_=>none
def jo(τ:U.Ty)(a:iE U):Option (List (U.T τ)):=
 match U.deq a.τ τ with
 | .isTrue h=>some (h▸a.xs)
 | .isFalse _=>none
abbrev rF(U:lQ):=Key->Option (iX U)
structure cq(U:lQ) where
 val:Option (SV U)
 dZ:List (Nat×iX U)
 lZ:List Key
 jW:List (Key×iX U)
 pre:List Prop
def cq.cP(v:SV U)(pre:List Prop:=[]):cq U:=⟨some v,[],[],[],pre⟩
def one(x:AC U):SV U:=.v ⟨false,[x]⟩
def wL(v:Value):SV U:=one (.c (.lit v))
def cq.lit(v:Value)(pre:List Prop:=[]):cq U:=.cP (wL v) pre
def fU(tb:rF U)(aS:List Key)(k:Key)(p:Path):Bool:=p.isEmpty||((tb k).isSome&& !(aS.any (iZ k)))
def FB(tb:rF U)(aS:List Key):AC U->Bool
 | .ref k p=>fU tb aS k p
 | .l7 k p _ _ _=>fU tb aS k p
 |_=>true
def vo(tb:rF U)(aS:List Key)(cs:List (AC U)):Bool:=cs.all (FB tb aS)
def ru(tb:rF U)(aS:List Key):AC U->Option (List Prop×iE U)
 | .c (.sl τ xs)=>some ([],⟨τ,xs⟩)
 | .kn _ τ xs=>some ([],⟨τ,xs⟩)
 | .ref k p=>match tb k with
  |some (.arr a _)=>bif fU tb aS k p then walk p a else none
  |_=>none
 | .sub k wd lo hi=>match tb k with
  |some (.arr a _)=>bif Nat.beq wd (U.wd a.τ) then some ([hi<=a.xs.length],⟨a.τ,(a.xs.take hi).drop lo⟩) else none
  |_=>none
 |_=>none
def AY(tb:rF U)(aS:List Key):AC U->Option (List Prop×iE U)
 | .ref k ((i,wd,j)::p)=>match tb k with
  |some (.part a dead)=>bif fU tb aS k ((i,wd,j)::p) then(match walk ((i,wd,j)::p) a with|some (ps,b)=>some ((dead i=false)::ps,b)|none=>none) else none
  |_=>none
 |_=>none
def cellOf(tb:rF U)(aS:List Key)(want:Option U.Ty):AC U->Option (List Prop×U.C)
 | .c x=>some ([],x)
 | .e0=>match want with|some τ=>some ([],.sl τ [])|none=>none
 |x=>match ru tb aS x with
  |some (ps,a)=>some (ps,.sl a.τ a.xs)
  |none=>match AY tb aS x with
   |some (ps,a)=>some (ps,.sl a.τ a.xs)
   |none=>none
def cellsOf(tb:rF U)(aS:List Key):List (Option U.Ty)->List (AC U)->Option (List Prop×List U.C)
 |_,[]=>some ([],[])
 |ws,x::r=>
  match cellOf tb aS (ws.head?.bind id) x,cellsOf tb aS ws.tail r with
  |some (ps,c),some (qs,cs)=>some (ps++qs,c::cs)
  |_,_=>none
def uU(tb:rF U)(want:Option U.Ty):AC U->Option (List Prop×U.C×List Key×Bool)
 | .c (.lit v)=>some ([],.lit v,[],true)
 | .c (.sl τ xs)=>some ([],.sl τ xs,[],false)
 | .e0=>match want with|some τ=>some ([],.sl τ [],[],true)|none=>none
 | .ref k []=>match tb k with
  |some (.arr a d)=>some ([],.sl a.τ a.xs,[k],d)
  |some (.part a dead)=>some ([∀i,i<a.xs.length->dead i=false],.sl a.τ a.xs,[k],true)
  |_=>none
 | .sub k _ 0 hi=>match tb k with
  |some (.arr a d)=>some ([hi<=a.xs.length],.sl a.τ (a.xs.take hi),[k],d)
  |some (.part a dead)=>some ([hi<=a.xs.length,∀i,i<hi->dead i=false],.sl a.τ (a.xs.take hi),[k],true)
  |_=>none
 |_=>none
def fm(tb:rF U):List (Option U.Ty)->List (AC U)->Option (List Prop×List U.C×List Key×Bool)
 |_,[]=>some ([],[],[],true)
 |ws,x::r=>
  match uU tb (ws.head?.bind id) x,fm tb ws.tail r with
  |some (ps,c,ks,d),some (qs,cs,ks',d')=>some (ps++qs,c::cs,ks++ks',d&&d')
  |_,_=>none
def distinct:List Key->Bool
 |[]=>true
 |k::r=> !(r.any (iZ k))&&distinct r
def EZ(t:TypeId)(op:BinOp)(x y:Value):Option (List Prop×Value):=
 match x,y with
 | .int k a,.int k' b=>
  match op with
  | .shl=>some ([0<=b],.int k (k.wrap (a*2^(min b.toNat k.bits))))
  | .shr=>some ([0<=b],.int k (a.fdiv (2^(min b.toNat k.bits))))
  |op=>bif decide (k=k') then(match op with
   | .add=>some ([],.int k (k.wrap (a+b)))
   | .sub=>some ([],.int k (k.wrap (a-b)))
   | .mul=>some ([],.int k (k.wrap (a*b)))
   | .quo=>some ([b≠0],.int k (k.wrap (a.tdiv b)))
   | .rem=>some ([b≠0],.int k (a.tmod b))
   | .and=>some ([],.int k (k.wrap (BitVec.ofInt k.bits a&&&BitVec.ofInt k.bits b).toNat))
   | .or=>some ([],.int k (k.wrap (BitVec.ofInt k.bits a|||BitVec.ofInt k.bits b).toNat))
   | .xor=>some ([],.int k (k.wrap (BitVec.ofInt k.bits a^^^BitVec.ofInt k.bits b).toNat))
   | .eql=>some ([],.bool (a==b))
   | .neq=>some ([],.bool (a !=b))
   | .lss=>some ([],.bool (decide (a<b)))
   | .leq=>some ([],.bool (decide (a<=b)))
   | .gtr=>some ([],.bool (decide (a>b)))
   | .geq=>some ([],.bool (decide (a≥b)))
   |_=>none) else none
 | .string a,.string b=>
  match op with
  | .add=>some ([(a.size+b.size:Nat)<=(4611686018427387904:Nat)],.string (a++b))
  | .eql=>some ([],.bool (a.toList==b.toList))
  | .neq=>some ([],.bool (!(a.toList==b.toList)))
  | .lss=>some ([],.bool (Op.bytesLess a.toList b.toList))
  | .leq=>some ([],.bool (Op.bytesLess a.toList b.toList||a.toList==b.toList))
  | .gtr=>some ([],.bool (!(Op.bytesLess a.toList b.toList||a.toList==b.toList)))
  | .geq=>some ([],.bool (!(Op.bytesLess a.toList b.toList)))
  |_=>none
 | .bool a,.bool b=>
  match E.P.underlying t with
  |some .bool=>match op with
   | .eql=>some ([],.bool (a==b))
   | .neq=>some ([],.bool (!(a==b)))
   |_=>none
  |_=>none
 |_,_=>none
def Env.NC:Nat->TypeId->List Value->List Value->Option Bool
 |0,_,_,_=>none
 |d+1,t,xs,ys=>match E.P.underlying t with
  |some (.struct fs)=>bif E.P.stoodInHeld t then none else
    fs.toList.foldr (fun f acc=>match E.size f.type,E.isAgg f.type,acc with
     |some n,some g,some r=>bif f.name != "_" &&Nat.ble (f.offset+n) xs.length&&Nat.ble (f.offset+n) ys.length&&(g||Nat.beq n 1) then
       (match Env.NC d f.type ((xs.drop f.offset).take n) ((ys.drop f.offset).take n) with
       |some b=>some (b&&r)
       |none=>none) else none
     |_,_,_=>none) (some true)
  |some .bool=>match xs,ys with|[.bool a],[.bool b]=>some (a==b)|_,_=>none
  |some (.int _)=>match xs,ys with|[.int k a],[.int k' b]=>bif decide (k=k') then some (a==b) else none|_,_=>none
  |some .string=>match xs,ys with|[.string a],[.string b]=>some (a.toList==b.toList)|_,_=>none
  |_=>none
def sh:List (AC U)->Option (List Value)
 |[]=>some []
 | .c (.lit v)::r=>match sh r with|some l=>some (v::l)|none=>none
 |_=>none
def Tc(op:BinOp)(t:TypeId)(x y:SV U):Option (cq U):=match x,y with
 | .v ⟨true,xs⟩,.v ⟨true,ys⟩=>match sh xs,sh ys with
  |some us,some vs=>match E.isAgg t with
   |some true=>bif E.P.eqGuardType E.P.depth t then none else(match op,E.NC 8 t us vs with
    | .eql,some b=>some (cq.lit (.bool b))
    | .neq,some b=>some (cq.lit (.bool (!b)))
    |_,_=>none)
   |_=>none
  |_,_=>none
 |_,_=>none
def Lo(op:UnOp)(x:Value):Option Value:=
 match op,x with
 | .neg,.int k n=>some (.int k (k.wrap (0-n)))
 | .not,.bool b=>some (.bool (!b))
 |_,_=>none
def pQ:Value->Option (AC U)
 | .slice none 0 0=>some .e0
 | .pointer none=>some (.c (.lit (.pointer none)))
 | .int k n=>bif decide (k.min<=n)&&decide (n<=k.max) then some (.c (.lit (.int k n))) else none
 | .bool b=>some (.c (.lit (.bool b)))
 | .string s=>bif Nat.ble s.size 9223372036854775807 then some (.c (.lit (.string s))) else none
 |_=>none
def jT:List Value->Option (List (AC U))
 |[]=>some []
 |v::r=>match pQ v,jT r with
  |some x,some l=>some (x::l)
  |_,_=>none
def sz(cs:Array Value):Option (SV U):=match jT cs.toList with|some l=>some (.v ⟨true,l⟩)|none=>none
def IN:Value->Option (SV U)
 | .agg cs=>sz cs
 |v=>match pQ v with|some x=>some (one x)|none=>none
def M_(σ:ak U):Operand->Option (SV U)
 | .tmp t=>σ.get t
 | .const v=>IN v
 | .global _=>none
 | .func g=>some (.Hy g [])
def AC.keys:AC U->List Key
 | .c _| .e0| .ia _| .kn _ _ _=>[]
 | .ref k _| .sub k _ _ _| .l7 k _ _ _ _| .kQ k _=>[k]
def SV.Cu:SV U->List (AC U)
 | .v x=>x.cs
 | .wR xs=>xs.flatMap (·.cs)
 | .fn _=>[]
 | .Hy _ xs=>xs.flatMap (·.cs)
def SV.keys(x:SV U):List Key:=x.Cu.flatMap AC.keys
def ak.Ct(σ:ak U)(k:Key):List Key:=
 match σ.bP k with
 |some (.box cs)=>cs.flatMap AC.keys
 |_=>[]
def reach(σ:ak U)(xs:List (SV U)):List Key:=
 let ks:=xs.flatMap SV.keys
 ks++ks.flatMap σ.Ct
def Ob(o:Oper):Bool:=match o.op with
 | .nilCheck _=>true
 | .fieldAddr _ _ _=>true
 |_=>false
def NY(o:Oper):Bool:=match o.op with
 | .move _=>true
 | .assign _=>true
 |_=>false
def pW(σ:ak U)(o:Oper)(xs:List (SV U)):List Key:=bif NY o then[] else bif Ob o then xs.flatMap SV.keys else reach σ xs
def restrict(tb:rF U)(ks:List Key):rF U:=fun k=>bif ks.any (iZ k) then tb k else none
def ii(k:Key)(p:Path)(i wd:Nat):List U.C->Nat->List (AC U)
 |[],_=>[]
 | .lit v::r,j=> .c (.lit v)::ii k p i wd r (j+1)
 | .sl _ _::r,j=> .ref k (p++[(i,wd,j)])::ii k p i wd r (j+1)
def loadAt(tb:rF U)(aS:List Key)(agg:Bool)(n:Nat)(x:AC U):Option (cq U):=
 bif agg||Nat.beq n 1 then
  match x with
  | .ia cs=>bif Nat.ble n cs.length then some (.cP (.v ⟨agg,(cs.take n).map .c⟩)) else none
  | .kQ k off=>match tb k with
   |some (.box cs)=>bif Nat.ble (off+n) cs.length then some (.cP (.v ⟨agg,(cs.drop off).take n⟩)) else none
   |_=>none
  | .l7 k p i wd off=>match tb k with
   |some (.arr a _)=>bif fU tb aS k p then
     match walk p a with
     |some (ps,b)=>
      bif Nat.ble (off+n) (U.wd b.τ)&&Nat.beq wd (U.wd b.τ) then
       some (.cP (.v ⟨agg,ii k p i wd (((U.enc b.τ (b.xs.getD i (U.ff b.τ))).drop off).take n) off⟩) (ps++[i<b.xs.length]))
      else none
     |none=>none
    else none
   |_=>none
  |_=>none
 else none
def EW(tb:rF U)(agg:Bool)(n:Nat):AC U->Option (cq U)
 | .l7 k [] i wd off=>match tb k with
  |some (.arr a false)=>bif (agg||Nat.beq n 1)&&Nat.ble (off+n) (U.wd a.τ)&&Nat.beq wd (U.wd a.τ) then
    some (.cP (.v ⟨agg,(((U.enc a.τ (a.xs.getD i (U.ff a.τ))).drop off).take n).map .c⟩) [i<a.xs.length]) else none
  |_=>none
 |_=>none
def HS:List U.C->List (Option U.Ty)
 |[]=>[]
 | .sl τ _::r=>some τ::HS r
 | .lit _::r=>none::HS r
def HZ(off i:Nat)(ds:List U.C)(b:iE U):Option (iE U):=
 let cs:=U.enc b.τ (b.xs.getD i (U.ff b.τ))
 match U.dec b.τ (cs.take off++ds++cs.drop (off+ds.length)) with
 |some y=>some ⟨b.τ,bif Nat.beq ds.length (U.wd b.τ) then b.xs.set i y else Ij b.τ b.xs i (fun cs=>cs.take off++ds++cs.drop (off+ds.length))⟩
 |none=>none
theorem aai(off i:Nat)(ds:List U.C)(b:iE U):HZ off i ds b=match U.dec b.τ ((U.enc b.τ (b.xs.getD i (U.ff b.τ))).take off++ds++(U.enc b.τ (b.xs.getD i (U.ff b.τ))).drop (off+ds.length)) with|some y=>some ⟨b.τ,b.xs.set i y⟩|none=>none:=by
 unfold HZ
 simp only
 split
 ·rename_i y h
  cases Nat.beq ds.length (U.wd b.τ)
  ·simp only[cond_false];rw[adz h]
  ·rfl
 ·rfl
def storeAt(tb:rF U)(aS:List Key)(x:AV U):AC U->Option (cq U)
 | .kQ k off=>match tb k with
  |some (.box cs)=>bif Nat.ble (off+x.cs.length) cs.length then
    some ⟨none,[],[],[(k,.box (cs.take off++x.cs++cs.drop (off+x.cs.length)))],[]⟩ else none
  |_=>none
 | .l7 k p i wd off=>match tb k with
  |some (.arr a d)=>bif fU tb aS k p then
    match walk p a with
    |some (ps,b)=>match fm tb (HS ((U.enc b.τ (b.xs.getD i (U.ff b.τ))).drop off)) x.cs with
     |some (qs,ds,ks,d')=>match chg p a (HZ off i ds) with
      |some a'=>bif Nat.beq wd (U.wd b.τ)&&Nat.ble (off+ds.length) (U.wd b.τ)&&distinct (k::ks)&&((d&&d')||p.isEmpty) then
        some ⟨none,[],ks,[(k,.arr a' (d&&d'))],ps++qs++[i<b.xs.length]⟩ else none
      |none=>none
     |none=>none
    |none=>none
   else none
  |_=>none
 |_=>none
def plain:List (AC U)->Option (List U.C)
 |[]=>some []
 | .c x::r=>match plain r with|some l=>some (x::l)|none=>none
 |_=>none
def xk:List U.C->Bool
 |[]=>true
 | .lit _::r=>xk r
 |_=>false
def rowsOf(τ:U.Ty)(tb:rF U)(want:List (Option U.Ty)):List (SV U)->Option (List Prop×List (U.T τ)×List Key×Bool)
 |[]=>some ([],[],[],true)
 | .v x::r=>
  match fm tb want x.cs,rowsOf τ tb want r with
  |some (ps,cs,ks,d),some (qs,xs,ks',d')=>
   match U.dec τ cs with
   |some y=>some (ps++qs,y::xs,ks++ks',d&&d')
   |none=>none
  |_,_=>none
 |_=>none
def Env.places(t:TypeId):Option (List (Nat×Nat)):=match E.P.underlying t with
 |some (.struct fs)=>fs.toList.mapM (fun f=>(E.P.info? f.type).map fun i=>(f.offset,i.size))
 |_=>none
def il(pl:List (Nat×Nat))(cells:List (AC U)):List Nat->List (SV U)->Option (List (AC U))
 |[],[]=>some cells
 |f::fs,.v x::r=>match pl[f]? with
  |some (off,n)=>bif Nat.beq x.cs.length n&&Nat.ble (off+n) cells.length then il pl (cells.take off++x.cs++cells.drop (off+n)) fs r else none
  |none=>none
 |_,_=>none
def ji :SV U->Option Value
 | .v ⟨false,[.c (.lit v)]⟩=>some v
 |_=>none
def vx :SV U->Option (AC U)
 | .v ⟨false,[x]⟩=>some x
 |_=>none
def Eu{α:Type}:List (Option α)->Option (List α)
 |[]=>some []
 |some x::r=>match Eu r with|some l=>some (x::l)|none=>none
 |none::_=>none
def HG:Option Operand->List (SV U)->Option (Option Int×List (SV U))
 |none,bs=>some (none,bs)
 |some _,b::bs=>match ji b with
  |some (.int _ n)=>some (some n,bs)
  |_=>none
 |some _,[]=>none
def vI(tb:rF U)(aS:List Key)(t:TypeId)(x:SV U)(l h m:Option Int):Option (cq U):=
 match m with
 |some mm=>match h,vx x,(E.elem t).bind E.size with
  |some hh,some y,some _=>match ru tb aS y with
   |some (ps,_)=>some (.cP (one .e0) (ps++[mm=0,hh=0,l.getD 0=0]))
   |none=>match y with
    | .e0=>some (.cP (one .e0) [mm=0,hh=0,l.getD 0=0])
    |_=>none
  |_,_,_=>none
 |none=>match ji x with
  |some (.string s)=>match E.P.underlying t with
   |some .string=>some (.lit (.string (s.extract (l.getD 0).toNat (h.getD s.size).toNat)) [0<=l.getD 0,l.getD 0<=h.getD s.size,h.getD s.size<=s.size])
   |_=>none
  |some _=>none
  |none=>match vx x,(E.elem t).bind E.size with
   |some (.c (.sl τ ys)),some n=>bif Nat.beq n (U.wd τ) then
     some (.cP (one (.c (.sl τ ((ys.take (h.getD ys.length).toNat).drop (l.getD 0).toNat)))) [0<=l.getD 0,l.getD 0<=h.getD ys.length,h.getD ys.length<=ys.length]) else none
   |some (.ref k []),some n=>match tb k with
    |some (.arr r _)=>bif Nat.beq n (U.wd r.τ) then
      some (.cP (one (.sub k (U.wd r.τ) (l.getD 0).toNat (h.getD r.xs.length).toNat)) [0<=l.getD 0,l.getD 0<=h.getD r.xs.length,h.getD r.xs.length<=r.xs.length]) else none
    |some (.part r _)=>bif Nat.beq n (U.wd r.τ) then
      some (.cP (one (.sub k (U.wd r.τ) (l.getD 0).toNat (h.getD r.xs.length).toNat)) [0<=l.getD 0,l.getD 0<=h.getD r.xs.length,h.getD r.xs.length<=r.xs.length]) else none
    |_=>none
   |_,_=>none
def vt(tb:rF U)(aS:List Key)(want:List (Option U.Ty))(x:SV U):Option (List Prop×DV U):=
 match x with
 | .v ⟨false,[.ia cs]⟩=>some ([],.ptr cs)
 | .v ⟨false,[.kQ k off]⟩=>match tb k with
  |some (.box cs)=>match plain cs with|some l=>some ([],.ptr (l.drop off))|none=>none
  |_=>none
 | .v ⟨false,[y]⟩=>match cellOf tb aS (want.head?.bind id) y with|some (ps,c)=>some (ps,.one c)|none=>none
 | .v ⟨true,cs⟩=>match cellsOf tb aS want cs with|some (ps,l)=>some (ps,.agg l)|none=>none
 |_=>none
def DA.dv:DA U->DV U
 |⟨false,[c]⟩=> .one c
 |⟨_,cs⟩=> .agg cs
noncomputable def fo(k:ka U)(ql:List (DV U))(ds:List (DA U)):Option Value:=
 match k.of (ds.map DA.dv++ql) with
 |some x=>match(k.oe x).val,(k.oe x).Ll with
  |[.one (.lit v)],[]=>@ite _ (k.md.length=ds.length+ql.length/\∀p∈k.pre x,p) (Classical.propDecidable _) (some v) none
  |_,_=>none
 |none=>none
def vp(tb:rF U)(aS:List Key):List (AV U)->Option (List Prop×List (DV U))
 |[]=>some ([],[])
 |x::r=>match vt tb aS [] (.v x),vp tb aS r with
  |some (ps,d),some (qs,ds)=>some (ps++qs,d::ds)
  |_,_=>none
def rv:List Mode->Bool
 |[]=>true
 | .ro::r=>rv r
 |_=>false
def Md(tb:rF U)(aS:List Key)(want:List (Option U.Ty))(x:SV U):Option (List Prop×DV U):=
 match x with
 | .fn p=>some ([],.fn p)
 | .Hy g xs=>match E.Qw g,vp tb aS xs with
  |some k,some (ps,ds)=>bif rv k.md&&Nat.ble xs.length k.md.length then some (ps,.fn (fo k ds)) else none
  |_,_=>none
 |x=>vt tb aS want x
def NE(x:AV U)(cs:List U.C):Option (DV U):=
 bif x.agg then some (.agg cs) else match cs with|[c]=>some (.one c)|_=>none
def jJ(tb:rF U):List (AC U)->Option (List U.C×List Key)
 |[]=>some ([],[])
 | .c (.lit v)::r=>match jJ tb r with|some (cs,ks)=>some (.lit v::cs,ks)|none=>none
 | .ref k []::r=>match tb k,jJ tb r with
  |some (.arr a true),some (cs,ks)=>some (.sl a.τ a.xs::cs,k::ks)
  |_,_=>none
 |_=>none
def AC.still:AC U->Bool
 | .c _=>true
 | .e0=>true
 | .ref _ []=>true
 | .kQ _ _=>true
 |_=>false
def mG(tb:rF U)(aS:List Key)(want:List (Option U.Ty))(m:Mode)(x:SV U):Option (List Prop×DV U×List Key):=
 match m,x with
 | .wr,.v ⟨false,[.ref k p]⟩=>match tb k with
  |some (.arr a true)=>bif fU tb aS k p then match walk p a with|some (ps,b)=>some (ps,.one (.sl b.τ b.xs),[k])|none=>none else none
  |_=>none
 | .wr,.v ⟨true,cs⟩=>match jJ tb cs with
  |some (ds,ks)=>bif distinct ks then some ([],.agg ds,ks) else none
  |none=>none
 | .mv,.v y=>match fm tb want y.cs with
  |some (ps,cs,ks,true)=>match NE y cs with
   |some d=>bif distinct ks then some (ps,d,ks) else none
   |none=>none
  |_=>none
 | .box true,.v ⟨false,[.kQ k 0]⟩=>match tb k with
  |some (.box cs)=>bif Nat.ble want.length cs.length&&(cs.drop want.length).all AC.still then
    match fm tb want (cs.take want.length) with
    |some (ps,l,ks,true)=>bif distinct (k::ks) then some (ps,.box l,k::ks) else none
    |_=>none
   else none
  |_=>none
 | .box false,.v ⟨false,[.kQ k 0]⟩=>match tb k with
  |some (.box cs)=>bif Nat.ble want.length cs.length&&(cs.drop want.length).all AC.still then
    match plain (cs.take want.length) with
    |some l=>some ([],.box l,[k])
    |none=>none
   else none
  |_=>none
 |_,_=>none
def vu(tb:rF U)(aS:List Key)(want:List (Option U.Ty))(m:Mode)(x:SV U):Option (List Prop×DV U):=
 match m with
 | .ro=>Md E tb aS want x
 |m=>match mG tb aS want m x with|some (ps,d,_)=>some (ps,d)|none=>none
def n9(tb:rF U)(aS:List Key):List Mode->List (List (Option U.Ty))->List (SV U)->Option (List Prop×List (DV U))
 |[],_,[]=>some ([],[])
 |m::ms,ws,x::r=>
  match vu E tb aS (ws.headD []) m x,n9 tb aS ms ws.tail r with
  |some (ps,d),some (qs,ds)=>some (ps++qs,d::ds)
  |_,_=>none
 |_,_,_=>none
def putCells(dst:Nat)(fresh:Bool)(base:Nat):List U.C->List (AC U)×List (Nat×iX U)
 |[]=>([],[])
 | .lit v::r=>(.c (.lit v)::(putCells dst fresh (base+1) r).1,(putCells dst fresh (base+1) r).2)
 | .sl τ xs::r=>bif fresh then(.ref (dst,base) []::(putCells dst fresh (base+1) r).1,(base,.arr ⟨τ,xs⟩ true)::(putCells dst fresh (base+1) r).2)
   else(.c (.sl τ xs)::(putCells dst fresh (base+1) r).1,(putCells dst fresh (base+1) r).2)
def K4(dst:Nat)(fresh:Bool)(base:Nat):DV U->Option (AV U×List (Nat×iX U))
 | .one c=>some (⟨false,(putCells dst fresh base [c]).1⟩,(putCells dst fresh base [c]).2)
 | .agg cs=>some (⟨true,(putCells dst fresh base cs).1⟩,(putCells dst fresh base cs).2)
 | .box cs=>bif fresh then some (⟨false,[.kQ (dst,base) 0]⟩,[(base,.box (cs.map .c))]) else none
 | .ptr _=>none
 | .fn _=>none
def EH(dst:Nat)(fs:List Bool)(base:Nat):List (DV U)->Option (List (AV U)×List (Nat×iX U))
 |[]=>some ([],[])
 |d::r=>match K4 dst (fs.headD true) base d,EH dst fs.tail (base+32) r with
  |some (x,e),some (xs,es)=>some (x::xs,e++es)
  |_,_=>none
def DV.safe(fresh:Bool):DV U->Bool
 | .one c=>fresh||xk [c]
 | .agg cs=>fresh||xk cs
 | .box _=>false
 | .ptr _=>false
 | .fn _=>false
def vK:List Bool->List (DV U)->Bool
 |_,[]=>true
 |fs,d::r=>d.safe (fs.headD true)&&vK fs.tail r
def AF(ms:List Mode):Bool:=ms.any fun m=>match m with| .box false=>true|_=>false
def mM:List (AC U)->List U.C->Option (List (Key×iX U))
 |[],[]=>some []
 | .c (.lit _)::r,.lit _::cs=>mM r cs
 | .ref k []::r,.sl τ ys::cs=>match mM r cs with|some us=>some ((k,.arr ⟨τ,ys⟩ true)::us)|none=>none
 |_,_=>none
def iC(tb:rF U)(nV n:Nat)(m:Mode)(x:SV U)(dm:List (DV U)):Option (List (Key×iX U)×List (Nat×iX U)):=
 match m,x,dm with
 | .wr,.v ⟨false,[.ref k p]⟩,[.one (.sl τ ys)]=>match tb k with
  |some (.arr a true)=>match chg p a (fun b=>match jo b.τ ⟨τ,ys⟩ with|some zs=>some ⟨b.τ,zs⟩|none=>none) with
   |some a'=>some ([(k,.arr a' true)],[])
   |none=>none
  |_=>none
 | .wr,.v ⟨true,cs⟩,[.agg ds]=>match mM cs ds with|some us=>some (us,[])|none=>none
 | .mv,_,[]=>some ([],[])
 | .box true,.v ⟨false,[.kQ k 0]⟩,[.box ds]=>match tb k with
  |some (.box cs)=>bif Nat.beq ds.length n then some ([(k,.box ((putCells nV true 512 ds).1++cs.drop n))],(putCells nV true 512 ds).2) else none
  |_=>none
 | .box false,.v ⟨false,[.kQ k 0]⟩,[.box ds]=>match tb k with
  |some (.box cs)=>bif Nat.beq ds.length n then some ([(k,.box (ds.map .c++cs.drop n))],[]) else none
  |_=>none
 |_,_,_=>none
def B_:Mode->List (DV U)->List (DV U)
 | .mv,_=>[]
 |_,ds=>ds.take 1
def yz:Mode->List (DV U)->List (DV U)
 | .mv,ds=>ds
 |_,ds=>ds.drop 1
def mF(tb:rF U)(aS:List Key)(nV:Nat):List Mode->List (List (Option U.Ty))->List (SV U)->List (DV U)->Option (List (Key×iX U)×List (Nat×iX U)×List Key)
 |[],_,[],[]=>some ([],[],[])
 | .ro::ms,ws,_::r,ds=>mF tb aS nV ms ws.tail r ds
 |m::ms,ws,x::r,ds=>match mG tb aS (ws.headD []) m x,iC tb nV (ws.headD []).length m x (B_ m ds) with
  |some (_,_,ks),some (us,es)=>match mF tb aS nV ms ws.tail r (yz m ds) with
   |some (QL,es',ks')=>bif distinct (ks++ks') then some (us++QL,es++es',ks++ks') else none
   |none=>none
  |_,_=>none
 |_,_,_,_=>none
def gr:List Mode->List (SV U)->List Key
 | .ro::ms,x::r=>x.keys++gr ms r
 |_::ms,_::r=>gr ms r
 |_,_=>[]
def n7:List Nat->Bool
 |[]=>true
 |n::r=> !(r.any (Nat.beq n))&&n7 r
def ED(tb:rF U)(n:Nat):List Mode->List (List (Option U.Ty))->List (SV U)->Bool
 |m::ms,ws,x::r=>(match m,x with
  | .box _,.v ⟨false,[.kQ k _]⟩=>(match tb k with
   |some (.box cs)=>Nat.beq ((ws.headD []).length+n) cs.length
   |_=>false)
  | .box _,_=>false
  |_,_=>true)&&ED tb n ms ws.tail r
 |_,_,_=>true
def AT(tb:rF U)(aS:List Key)(dst:Nat)(k:ka U)(types:List TypeId)(xs:List (SV U)):Option (cq U):=
 match n9 E tb aS k.md (k.want (types.map E.Ai)) xs with
 |some (ps,ds)=>
  match k.of ds with
  |some x=>
   match mF tb aS dst k.md (k.want (types.map E.Ai)) xs (k.oe x).Ll,EH dst (k.oe x).fresh 0 (k.oe x).val with
   |some (us,eb,lk),some (vs,es)=>
    let lZ:=(bif vK (k.oe x).fresh (k.oe x).val&& !(AF k.md) then[] else gr k.md xs)++lk
    bif n7 ((es++eb).map (·.1))&& !(lk.any fun u=>(gr k.md xs).any (iZ u))&&ED tb k.KQ k.md (k.want (types.map E.Ai)) xs then
     some ⟨some (match vs with|[v]=> .v v|vs=> .wR vs),es++eb,lZ,us,ps++k.pre x⟩
    else none
   |_,_=>none
  |none=>none
 |none=>none
def Ih(τ:U.Ty)(tb:rF U):AC U->Option (List Prop×List (U.T τ)×List Key×Bool)
 | .e0=>some ([],[],[],true)
 | .ref k []=>match tb k with
  |some (.arr a d)=>match jo τ a with|some ys=>some ([],ys,[k],d)|none=>none
  |_=>none
 | .c (.sl GI ys)=>match jo τ ⟨GI,ys⟩ with|some ys=>some ([],ys,[],U.flat τ)|none=>none
 |_=>none
def acG:AC U->AC U
 | .kn _ τ xs=> .c (.sl τ xs)
 |x=>x
def Nc(τ:U.Ty)(tb:rF U)(x:AC U):Option (List Prop×List (U.T τ)×List Key×Bool):=Ih τ tb (acG x)
def B8(τ:U.Ty)(s:ByteArray):Option (List (U.T τ)):=jo τ ⟨U.pB,s.data.toList.map fun b=>U.ofB (b.toNat:Int)⟩
def vf(τ:U.Ty)(tb:rF U):AC U->Option (List Prop×List (U.T τ)×List Key×Bool)
 | .e0=>some ([],[],[],true)
 | .ref k []=>match tb k with
  |some (.arr a d)=>match jo τ a with|some ys=>some ([],ys,[k],d)|none=>none
  |some (.part a dead)=>match jo τ a with|some ys=>some ([∀i,i<ys.length->dead i=false],ys,[k],true)|none=>none
  |_=>none
 | .sub k _ 0 hi=>match tb k with
  |some (.arr a d)=>match jo τ a with|some ys=>some ([hi<=ys.length],ys.take hi,[k],d)|none=>none
  |_=>none
 |_=>none
def R1(E:Env U)(op:BinOp)(t:TypeId)(y:Operand)(x:SV U):Option (cq U):=
 match op,y,x with
 | .eql,.const (.slice none _ _),.v ⟨false,[.kn b _ _]⟩=>match E.P.underlying t with|some (.slice _)=>some (.lit (.bool b))|_=>none
 |_,_,_=>none
def bJ:Option Value->Bool
 |some (.bool b)=>b
 |_=>false
def intOf:Option Value->Int
 |some (.int _ n)=>n
 |_=>0
def BG(tb:rF U)(aS:List Key):List (List (Option U.Ty))->List (SV U)->Option (List Prop×List (DA U))
 |_,[]=>some ([],[])
 |ws,x::r=>match vt tb aS (ws.headD []) x,BG tb aS ws.tail r with
  |some (ps,.one c),some (qs,ds)=>some (ps++qs,⟨false,[c]⟩::ds)
  |some (ps,.agg cs),some (qs,ds)=>some (ps++qs,⟨true,cs⟩::ds)
  |_,_=>none
def partOf(tb:rF U):AC U->Option (iE U)
 | .ref k []=>match tb k with
  |some (.part a _)=>some a
  |_=>none
 |_=>none
def Nd(tb:rF U)(dst:Nat)(agg:Bool)(n:Nat):AC U->Option (cq U)
 | .l7 k [] i wd off=>match tb k with
  |some (.part a dead)=>bif (agg||Nat.beq n 1)&&Nat.ble (off+n) (U.wd a.τ)&&Nat.beq wd (U.wd a.τ) then
    let cs:=((U.enc a.τ (a.xs.getD i (U.ff a.τ))).drop off).take n
    bif xk cs then some (.cP (.v ⟨agg,cs.map .c⟩) [i<a.xs.length,dead i=false])
    else bif Nat.blt n (U.wd a.τ) then some (.cP (.v ⟨agg,ii k [] i wd cs off⟩) [i<a.xs.length,dead i=false])
    else bif n7 ((putCells dst true 0 cs).2.map (·.1)) then
     some ⟨some (.v ⟨agg,(putCells dst true 0 cs).1⟩),(putCells dst true 0 cs).2,[],[(k,.part a (fun j=>Nat.beq j i||dead j))],[i<a.xs.length,dead i=false]⟩
    else none
   else none
  |_=>none
 |_=>none
def E3(wd:Nat):List (SV U)->Bool
 |[]=>true
 | .v x::r=>Nat.beq x.cs.length wd&&E3 wd r
 |_=>false
def Ia(τ:U.Ty)(tb:rF U):AC U->Option (List (U.T τ)×List Key)
 | .ref k []=>match tb k with
  |some (.part a _)=>match jo τ a with|some ys=>some (ys,[k])|none=>none
  |_=>none
 |_=>none
def Ag(tb:rF U)(x:AV U):AC U->Option (cq U)
 | .l7 k [] i wd 0=>match tb k with
  |some (.part a dead)=>bif Nat.beq wd (U.wd a.τ)&&Nat.beq x.cs.length wd then
    match fm tb (HS (U.enc a.τ (a.xs.getD i (U.ff a.τ)))) x.cs with
    |some (qs,ds,ks,true)=>match U.dec a.τ ds with
     |some y=>bif distinct (k::ks) then some ⟨none,[],ks,[(k,.part ⟨a.τ,a.xs.set i y⟩ (fun j=> !(Nat.beq j i)&&dead j))],qs++[i<a.xs.length]⟩ else none
     |none=>none
    |_=>none
   else none
  |_=>none
 |_=>none
def Ah(tb:rF U)(x:AV U):AC U->Option (cq U)
 | .l7 k [] i wd off=>match tb k,sh x.cs with
  |some (.part a dead),some vs=>bif Nat.beq wd (U.wd a.τ)&&Nat.ble (off+x.cs.length) wd then
    match HZ off i (vs.map .lit) a with
    |some a'=>some ⟨none,[],[],[(k,.part a' dead)],[i<a.xs.length,dead i=false]⟩
    |none=>none
   else none
  |_,_=>none
 |_=>none
def BI:List (SV U)->Option (List (AV U))
 |[]=>some []
 | .v x::r=>match BI r with|some l=>some (x::l)|none=>none
 |_=>none
def Fj(E:Env U)(tb:rF U)(aS:List Key)(t:TypeId)(types:List TypeId)(p:List (DA U)->Option Value)(xs:List (SV U)):Option (cq U):=
 match BG tb aS (types.map E.Ai) xs with
 |some (ps,ds)=>match E.P.underlying t with
  |some .bool=>some (.lit (.bool (bJ (p ds))) (ps++[p ds=some (.bool (bJ (p ds)))]))
  |some (.int k)=>some (.lit (.int k (intOf (p ds))) (ps++[p ds=some (.int k (intOf (p ds)))]))
  |_=>none
 |none=>none
def Env.WG(b:Bool)(f:FuncId):Option (ka U):=bif b then E.Qv f else E.Qw f
def AO(b:Bool)(tb:rF U)(aS:List Key)(o:Oper)(xs:List (SV U)):Option (cq U):=
 let dst:=o.dst.getD 1000000
 match o.op,xs with
 | .move _,[x]=>some (.cP x)
 | .assign _,[x]=>some (.cP x)
 | .unOp op _ _,[x]=>match ji x with
  |some v=>(Lo op v).map (.lit ·)
  |none=>none
 | .binOp op t _ q _,[x,y]=>match ji x,ji y with
  |some a,some b=>(EZ E t op a b).map fun(ps,v)=> .lit v ps
  |_,_=>match Tc E op t x y with|some r=>some r|none=>R1 E op t q x
 | .extract _ i,[.wR l]=>(l[i]?).map fun v=> .cP (.v v)
 | .alloc t,[]=>
  match(E.P.info? t).bind (·.zero) with
  |some z=>match sz (U:=U) z.cells with
   |some (.v x)=>some ⟨some (one (.kQ (dst,0) 0)),[(0,.box x.cs)],[],[],[]⟩
   |_=>none
  |none=>none
 | .load t _,[x]=>match vx x,E.size t,E.isAgg t with
  |some a,some n,some g=>match(bif E.shl t then EW tb g n a else none) with
   |some r=>some r
   |none=>match loadAt tb aS g n a with
    |some r=>some r
    |none=>Nd tb dst g n a
  |_,_,_=>none
 | .store t _ _,[p,.v x]=>match vx p,E.size t with
  |some a,some n=>bif Nat.beq n x.cs.length then(match storeAt tb aS x a with
   |some r=>some r
   |none=>match Ag tb x a with
    |some r=>some r
    |none=>Ah tb x a) else none
  |_,_=>none
 | .fieldAddr t _ f,[x]=>match vx x,E.Wp t f with
  |some y,some (o,ft)=>match E.size ft with
   |some (_+1)=>match y with
    | .ia cs=>some (.cP (one (.ia (cs.drop o))))
    | .kQ k off=>some (.cP (one (.kQ k (off+o))))
    | .l7 k p i wd off=>bif fU tb aS k p then some (.cP (one (.l7 k p i wd (off+o)))) else none
    |_=>none
   |_=>none
  |_,_=>none
 | .field t _ f,[.v ⟨true,cs⟩]=>match E.Wp t f with
  |some (o,ft)=>match E.size ft,E.isAgg ft with
   |some n,some g=>bif Nat.ble (o+n) cs.length&&(g||Nat.beq n 1) then some (.cP (.v ⟨g,(cs.drop o).take n⟩)) else none
   |_,_=>none
  |none=>none
 | .build t parts,xs=>match E.places t,(E.P.info? t).bind (·.zero) with
  |some pl,some z=>match jT (U:=U) z.cells.toList with
   |some l=>match il pl l (parts.toList.map (·.1)) xs with
    |some cs=>some (.cP (.v ⟨true,cs⟩))
    |none=>none
   |none=>none
  |_,_=>none
 | .buildSlice t len parts,xs=>match E.elem t with
  |some e=>match E.code e with
   |some τ=>bif (parts.toList.map (·.1)).length.beq len&&((parts.toList.map (·.1)).zipIdx).all (fun(a,b)=>Nat.beq a b)&&Nat.ble (len*U.wd τ) 1000000 then
     bif E.gv t dst (xs.flatMap SV.keys) then
      bif E3 (U.wd τ) xs then some ⟨some (one (.ref (dst,0) [])),[(0,.part ⟨τ,List.replicate len (U.ff τ)⟩ (fun _=>true))],[],[],[]⟩ else none
     else match rowsOf τ tb (E.shape 8 e) xs with
     |some (ps,rows,ks,d)=>bif distinct ks then some ⟨some (one (.ref (dst,0) [])),[(0,.arr ⟨τ,rows⟩ d)],ks,[],ps⟩ else none
     |none=>none
    else none
   |none=>none
  |none=>none
 | .makeSlice t _ _,[l,c]=>match E.elem t,ji l,ji c with
  |some e,some (.int .i64 n),some (.int .i64 m)=>match E.code e with
   |some τ=>some ⟨some (one (.ref (dst,0) [])),[(0,.arr ⟨τ,List.replicate n.toNat (U.ff τ)⟩ true)],[],[],[0<=n,n=m,n<=4294967296]⟩
   |none=>none
  |_,_,_=>none
 | .indexAddr t _ _,[x,i]=>match ji i,vx x,(E.elem t).bind E.size with
  |some (.int _ n),some y,some m=>match y with
   | .c (.sl τ ys)=>bif Nat.beq m (U.wd τ) then some (.cP (one (.ia (U.enc τ (ys.getD n.toNat (U.ff τ))))) [0<=n,n.toNat<ys.length]) else none
   | .ref k p=>match ru tb aS (.ref k p) with
    |some (ps,a)=>bif Nat.beq m (U.wd a.τ) then some (.cP (one (.l7 k p n.toNat (U.wd a.τ) 0)) (ps++[0<=n,n.toNat<a.xs.length])) else none
    |none=>match p,partOf tb (.ref k []) with
     |[],some a=>bif Nat.beq m (U.wd a.τ) then some (.cP (one (.l7 k [] n.toNat (U.wd a.τ) 0)) [0<=n,n.toNat<a.xs.length]) else none
     |_,_=>none
   |_=>none
  |_,_,_=>none
 | .index t _ _,[x,i]=>match ji x,ji i,E.P.underlying t with
  |some (.string s),some (.int _ n),some .string=>some (.lit (.int .u8 ((s.data.toList.getD n.toNat 0).toNat:Int)) [0<=n,n.toNat<s.size])
  |_,_,_=>none
 | .slice t _ lo hi mx,x::bs=>match HG lo bs with
  |some (l,bs1)=>match HG hi bs1 with
   |some (h,bs2)=>match HG mx bs2 with
    |some (m,[])=>vI E tb aS t x l h m
    |_=>none
   |none=>none
  |none=>none
 | .call {callee:=.builtin .len,argTypes,..},[x]=>match argTypes.toList with
  |[t]=>match ji x with
   |some (.string s)=>match E.P.underlying t with
    |some .string=>some (.lit (.int .i64 s.size))
    |_=>none
   |some _=>none
   |none=>match vx x,E.elem t with
    |some .e0,some _=>some (.lit (.int .i64 0))
    |some a,some _=>match ru tb aS a with
     |some (ps,b)=>some (.lit (.int .i64 b.xs.length) ps)
     |none=>match partOf tb a with
      |some b=>some (.lit (.int .i64 b.xs.length))
      |none=>none
    |_,_=>none
  |_=>none
 | .call {callee:=.builtin .clear,argTypes,..},[x]=>match argTypes.toList with
  |[t]=>match E.elem t,vx x with
   |some e,some (.sub k wd lo hi)=>match E.code e,tb k with
    |some τ,some (.part a dead)=>bif Nat.beq wd (U.wd a.τ) then(match jo τ a with
     |some xs=>some ⟨some (.wR []),[],[],[(k,.part ⟨τ,xs⟩ (fun j=>dead j||Nat.ble lo j))],[lo<=hi,hi=xs.length]⟩
     |none=>none) else none
    |_,_=>none
   |_,_=>none
  |_=>none
 | .call {callee:=.builtin .min,..},[x,y]=>match ji x,ji y with
  |some (.int k a),some (.int k' b)=>bif decide (k=k') then some (.lit (.int k (if b<a then b else a))) else none
  |_,_=>none
 | .call {callee:=.builtin .max,..},[x,y]=>match ji x,ji y with
  |some (.int k a),some (.int k' b)=>bif decide (k=k') then some (.lit (.int k (if b>a then b else a))) else none
  |_,_=>none
 | .call {callee:=.builtin .append,argTypes,..},[s,x]=>
  match argTypes.toList with
  |[t,u]=>match E.elem t,E.elem u,vx s,vx x with
   |some e,some e',some s,some x=>bif Nat.beq t u&&Nat.beq e e' then
    match E.code e with
    |some τ=>
     match vf τ tb s,Nc τ tb x with
     |some (ps,xs,ks,d),some (qs,ys,ks',d')=>
      bif distinct (ks++ks') then
       some ⟨some (one (.ref (dst,0) [])),[(0,.arr ⟨τ,xs++ys⟩ (d&&d'))],ks++ks',[],ps++qs++[xs.length+ys.length<=4294967296]⟩
      else none
     |some (ps,xs,ks,true),none=>match Ia τ tb x with
      |some (ys,ks')=>bif distinct (ks++ks') then
        some ⟨some (one (.ref (dst,0) [])),[(0,.part ⟨τ,xs++ys⟩ (fun i=>Nat.ble xs.length i))],ks++ks',[],ps++[xs.length+ys.length<=4294967296]⟩
       else none
      |none=>none
     |_,_=>none
    |none=>none else none
   |some e,none,some s,some (.c (.lit (.string str)))=>match E.P.underlying u,E.code e with
    |some .string,some τ=>match vf τ tb s,B8 τ str with
     |some (ps,xs,ks,d),some ys=>bif distinct ks then
       some ⟨some (one (.ref (dst,0) [])),[(0,.arr ⟨τ,xs++ys⟩ d)],ks,[],ps++[xs.length+ys.length<=4294967296]⟩ else none
     |_,_=>none
    |_,_=>none
   |_,_,_,_=>none
  |_=>none
 | .makeFunc (.func g) first _,xs=>bif first.isEmpty then(match BI xs with|some l=>some (.cP (.Hy g l))|none=>none) else none
 | .call {callee:=.value (.tmp _),argTypes,..},.fn p::xs=>Fj E tb aS o.type argTypes.toList p xs
 | .call {callee:=.value (.func f),argTypes,..},xs=>match E.WG b f with
  |some k=>AT E tb aS dst k argTypes.toList xs
  |none=>none
 | .box _ _,[.v x]=>bif vo tb aS x.cs&&(x.agg||Nat.beq x.cs.length 1) then some ⟨some (one (.kQ (dst,0) 0)),[(0,.box x.cs)],[],[],[]⟩ else none
 | .nilCheck _,[x]=>match vx x with
  |some (.ia _)=>some (.cP x)
  |some (.kQ _ _)=>some (.cP x)
  |some (.l7 k p _ _ _)=>bif fU tb aS k p then some (.cP x) else none
  |_=>none
 | .convert s d _,[x]=>match E.P.underlying d with
  |some (.int k)=>match E.P.underlying s,ji x with
   |some (.int _),some (.int _ n)=>some (.lit (.int k (k.wrap n)))
   |_,_=>none
  |some .string=>match E.P.underlying s with
   |some (.slice e)=>match E.P.underlying e,vx x with
    |some (.int .u8),some .e0=>some (.lit (.string ByteArray.empty))
    |some (.int .u8),some y=>match ru tb aS y with
     |some (ps,b)=>match jo U.pB b with
      |some ys=>some (.lit (.string (strOfNums (ys.map U.Xe))) ps)
      |none=>none
     |none=>none
    |_,_=>none
   |_=>none
  |_=>none
 |_,_=>none
def Oper.looks(o:Oper):List Operand:=
 match o.op with
 | .build _ ps=>ps.toList.map (·.2)
 | .buildSlice _ _ ps=>ps.toList.map (·.2)
 | .call c=>(match c.callee with| .value (.func _)=>[]| .builtin _=>[]| .value f=>[f]| .invoke r _=>[r])++c.args.toList
 |op=>op.operands.toList
def rO(σ:ak U)(o:Oper):Option (List (SV U)):=Eu ((Oper.looks o).map (M_ σ))
def rl(σ:ak U)(o:Oper):Bool:=match o.dst with|some d=>Nat.blt d σ.n|none=>true
def GP(x:Option (SV U)):Option Value:=match x with|some y=>ji y|none=>none
def Ap(σ:ak U)(x:Operand):Option Value:=GP (M_ σ x)
def kindOk(o:Oper):Bool:=match o.op with
 | .store _ _ _=>o.dst.isNone
 | .alloc _| .box _ _| .buildSlice _ _ _| .makeSlice _ _ _=>o.dst.isSome
 | .call c=>(match c.callee with| .builtin .clear=>true| .builtin _=>o.dst.isSome|_=>true)
 |_=>true
def step(b:Bool)(σ:ak U)(o:Oper):Option (cq U×List Key):=
 bif rl σ o&&kindOk o then
  match o.op with
  | .pick c a b=>
   match Ap σ c with
   |some (.bool t)=>match(bif t then M_ σ a else M_ σ b) with
    |some x=>some (.cP x,[])
    |none=>none
   |_=>none
  |_=>match rO σ o with
   |some xs=>match AO E b (restrict σ.bP (pW σ o xs)) σ.aS o xs with
    |some r=>some (r,pW σ o xs)
    |none=>none
   |none=>none
 else none
def p8(dst:Nat)(l:List (Nat×iX U)):List (Key×Option (iX U)):=l.map fun(j,e)=>((dst,j),some e)
def apply(o:Oper)(r:cq U)(σ:ak U):ak U:=
 {σ with
  bG:=(match o.dst with|some d=>(d,r.val)::σ.bG|none=>σ.bG)
  o9:=p8 (o.dst.getD 1000000) r.dZ++r.jW.map (fun(k,e)=>(k,some e))++r.lZ.map (fun k=>(k,none))++σ.o9
  aS:=r.jW.map (·.1)++σ.aS}
def Ae:cq U:=⟨some (.wR []),[],[],[],[]⟩
structure Rec where
 i:Nat
 reads:List Key
 names:List Key
 writes:List Key
 news:List Key
def cq.news(dst:Nat)(r:cq U):List Key:=r.dZ.map fun(j,_)=>(dst,j)
def cq.writes(dst:Nat)(r:cq U):List Key:=r.dZ.map (fun(j,_)=>(dst,j))++r.lZ++r.jW.map (·.1)
def iX.names:iX U->List Key
 | .box cs=>cs.flatMap AC.keys
 | .arr _ _=>[]
 | .part _ _=>[]
def cq.names(r:cq U):List Key:=
 (match r.val with|some x=>x.keys|none=>[])++r.dZ.flatMap (fun(_,e)=>e.names)++r.jW.flatMap (fun(_,e)=>e.names)
def tD(dst:Nat)(r:cq U)(rs:List Rec):Bool:=r.dZ.isEmpty||rs.all fun x=> !((x.reads++x.names++x.writes).any fun k=>Nat.beq k.1 dst)
def xD(o:Oper)(r:cq U):Bool:=r.dZ.all fun(j,_)=>Nat.blt j 1024
def meet(a b:List Key):Bool:=a.any fun k=>b.any (iZ k)
def aod(ops:List Oper):List Nat:=
 ops.foldl (fun acc o=>acc++[o.after.toList.foldl (fun m e=>bif Region.binds .any e then Nat.lor m (Nat.lor (Nat.shiftLeft 1 e.on) (acc.getD e.on 0)) else m) 0]) []
def zj(m i:Nat):Bool:=Nat.beq (Nat.land (Nat.shiftRight m i) 1) 1
def AG(ops:List Oper)(o:Oper):List Nat:=
 match o.guard with
 |some (g,_)=>match ops[g]? with|some q=>q.dst.toList|none=>[]
 |none=>[]
def slotsOf(ops:List Oper)(o:Oper):List Nat:=
 (o.op.operands.toList.flatMap fun| .tmp t=>[t]|_=>[])++AG ops o
def IW(ops:List Oper)(x y:Oper)(rx ry:Rec):Bool:=
 !(meet rx.writes (ry.reads++ry.writes))&& !(meet ry.writes rx.reads)&& !(meet rx.news ry.names)&&
 (match x.dst with|some d=> !((slotsOf ops y).any (Nat.beq d))&& !(y.dst.any (Nat.beq d))|none=>true)&&
 (match y.dst with|some d=> !((slotsOf ops x).any (Nat.beq d))|none=>true)
def Xh(ops:List Oper):Bool:=ops.zipIdx.all fun(o,i)=>o.after.toList.all fun e=> !(Region.binds .any e)||Nat.blt e.on i
def NF(ops:List Oper)(acY:List Rec):Bool:=
 let an:=aod ops
 Xh ops&&acY.all fun ry=>acY.all fun rx=>
  !(Nat.blt rx.i ry.i)||zj (an.getD ry.i 0) rx.i||
  (match ops[rx.i]?,ops[ry.i]? with|some x,some y=>IW ops x y rx ry|_,_=>false)
def guards(ops:List Oper)(i:Nat):Bool:=ops.any fun o=>match o.guard with|some (g,_)=>Nat.beq g i|none=>false
def QB:List Prop->Prop->Prop
 |[],q=>q
 |p::ps,q=>p/\QB ps q
def Tv(a b:Bool):Bool:=match a,b with|true,true=>true|false,false=>true|_,_=>false
def Q2(i:Nat)(o:Oper)(σ:ak U)(rs:List Rec)(ks:List Key)(K:ak U->Rec->Prop)(r:cq U):Prop:=
 bif tD (o.dst.getD 1000000) r rs&&xD o r then K (apply o r σ) ⟨i,ks,r.names,r.writes (o.dst.getD 1000000),r.news (o.dst.getD 1000000)⟩ else False
def Z4(r:cq U)(b:Bool):cq U:={r with val:=some (wL (.bool b))}
def Kr(alt:Bool)(ops:List Oper)(i:Nat)(o:Oper)(σ:ak U)(rs:List Rec)(K:ak U->Rec->Prop):Prop:=
 match step E alt σ o with
 |some (r,ks)=>
  QB r.pre<|
  bif guards ops i then
   match GP r.val with
   |some (.bool b)=>bif b then Q2 i o σ rs ks K (Z4 r true) else Q2 i o σ rs ks K (Z4 r false)
   |_=>False
  else Q2 i o σ rs ks K r
 |none=>False
def ae5(o:Oper):Bool:=match o.op with
 | .call {callee:=.value (.func f),..}=>(E.Qv f).isSome
 |_=>false
def Kq(ops:List Oper)(i:Nat)(o:Oper)(σ:ak U)(rs:List Rec)(K:ak U->Rec->Prop):Prop:=
 bif ae5 E o then Kr E false ops i o σ rs K\/Kr E true ops i o σ rs K else Kr E false ops i o σ rs K
def wpOps(ops:List Oper):List Oper->Nat->ak U->List Rec->(ak U->List Rec->Prop)->Prop
 |[],_,σ,rs,K=>K σ rs
 |o::rest,i,σ,rs,K=>
  match o.guard with
  |none=>Kq E ops i o σ rs fun my r=>wpOps ops rest (i+1) my (r::rs) K
  |some (g,want)=>
   match((ops[g]?).bind (·.dst)).bind σ.get with
   |some (.v x)=>match ji (.v x) with
    |some (.bool b)=>bif Tv b want then Kq E ops i o σ rs fun my r=>wpOps ops rest (i+1) my (r::rs) K
     else bif rl σ o then wpOps ops rest (i+1) (apply o Ae σ) (⟨i,[],[],[],[]⟩::rs) K else False
    |_=>False
   |some (.wR [])=>bif rl σ o then wpOps ops rest (i+1) (apply o Ae σ) (⟨i,[],[],[],[]⟩::rs) K else False
   |_=>False
def SV.N4(bad:Key->Bool)(aS:List Key)(x:SV U):Bool:=
 x.Cu.any fun a=>a.keys.any bad||(match a with| .ref k p| .l7 k p _ _ _=> !p.isEmpty&&aS.any (iZ k)|_=>false)
def AC.u_(f:Key->Key):AC U->AC U
 | .ref k p=> .ref (f k) p
 | .sub k wd lo hi=> .sub (f k) wd lo hi
 | .l7 k p i wd off=> .l7 (f k) p i wd off
 | .kQ k off=> .kQ (f k) off
 |x=>x
def SV.u_(f:Key->Key):SV U->SV U
 | .v x=> .v ⟨x.agg,x.cs.map (AC.u_ f)⟩
 | .wR xs=> .wR (xs.map fun x=>⟨x.agg,x.cs.map (AC.u_ f)⟩)
 | .fn p=> .fn p
 | .Hy g xs=> .Hy g (xs.map fun x=>⟨x.agg,x.cs.map (AC.u_ f)⟩)
def iX.u_(f:Key->Key):iX U->iX U
 | .box cs=> .box (cs.map (AC.u_ f))
 |e=>e
def ya{β:Type}:List Nat->List (Nat×Option β)->List (Nat×Option β)
 |_,[]=>[]
 |seen,(s,v)::r=>bif seen.any (Nat.beq s) then ya seen r else match v with
  |some x=>(s,some x)::ya (s::seen) r
  |none=>ya (s::seen) r
def q_{β:Type}:List Key->List (Key×Option β)->List (Key×Option β)
 |_,[]=>[]
 |seen,(s,v)::r=>bif seen.any (iZ s) then q_ seen r else match v with
  |some x=>(s,some x)::q_ (s::seen) r
  |none=>q_ (s::seen) r
def uk(bad:Key->Bool)(σ:ak U):ak U:=
 let ok (x:SV U):Bool:= !(x.N4 (fun k=>bad k||(eY σ.o9 k).isNone) σ.aS)
 {σ with
  bG:=(ya [] σ.bG).filter fun(_,v)=>match v with|some (.wR [])=>false|some x=>ok x|none=>false
  o9:=(q_ [] σ.o9).filter fun(k,e)=> !(bad k)&&(match e with|some (.box cs)=>ok (.v ⟨true,cs⟩)|_=>true)
  aS:=[]}
def acW(d:Nat)(x:SV U):List (Key×Key):=
 (x.Cu.zipIdx).flatMap fun(a,j)=>match a with
  | .ref k []| .sub k _ _ _| .kQ k _=>[(k,(d,1024+j))]
  |_=>[]
def xj(l:List (Key×Key))(k:Key):Key:=
 match l with
 |[]=>k
 |(a,b)::r=>bif iZ a k then b else xj r k
def rename(l:List (Key×Key))(σ:ak U):ak U:=
 {σ with
  bG:=σ.bG.map fun(s,v)=>(s,v.map (SV.u_ (xj l)))
  o9:=σ.o9.map fun(k,e)=>(xj l k,e.map (iX.u_ (xj l)))}
def sd(l0:List (Key×Key))(σ:ak U):ak U:=
 let l:=l0.filter fun(a,b)=> !(iZ a b)&& !(Nat.ble 2000000 a.1&&Nat.blt a.2 1024)
 bif l.isEmpty|| !(distinct (l.map (·.1)))|| !(distinct (l.map (·.2)))|| !(l.all fun(_,b)=>Nat.ble 1024 b.2) then σ else
  let tgt:=l.map (·.2)
  rename l (uk (fun k=>tgt.any (iZ k)) σ)
def s7(d:Nat)(σ:ak U):ak U:=
 match σ.get d with
 |some x=>sd (acW d x) σ
 |none=>σ
def Z7(k:Key)(cs:List (AC U)):List (Key×Key):=
 cs.zipIdx.flatMap fun(a,j)=>match a with
  | .ref q []| .sub q _ _ _=>[(q,(k.1,4096*(k.2+1)+j))]
  |_=>[]
def yf(k:Key)(σ:ak U):ak U:=
 match σ.bP k with
 |some (.box cs)=>sd (Z7 k cs) σ
 |_=>σ
def boxes(σ:ak U):List Key:=σ.o9.flatMap fun(k,e)=>match e with|some (.box _)=>[k]|_=>[]
inductive qJ where
 |slot (s j:Nat)
 |box (k:Key) (j:Nat)
def qJ.key:qJ->Key
 | .slot s j=>(s,1024+j)
 | .box k j=>(k.1,4096*(k.2+1)+j)
def PT:Option (AC U)->Bool
 |some .e0=>true
 |_=>false
def unnamed(k:Key)(σ:ak U):Bool:=
 (σ.bG.all fun(_,v)=>match v with|some x=> !(x.keys.any (iZ k))|none=>true)&&
 (σ.o9.all fun(_,e)=>match e with|some (.box cs)=> !(cs.any fun a=>a.keys.any (iZ k))|_=>true)
def PL(p:qJ)(τ:U.Ty×Bool)(σ:ak U):ak U:=
 bif (eY σ.o9 p.key).isNone&&unnamed p.key σ&&Nat.ble 1024 p.key.2 then
  match p with
  | .slot s j=>match σ.get s with
   |some (.v x)=>bif PT x.cs[j]? then
     {σ with bG:=(s,some (.v ⟨x.agg,x.cs.set j (.ref p.key [])⟩))::σ.bG,o9:=(p.key,some (.arr ⟨τ.1,[]⟩ τ.2))::σ.o9} else σ
   |_=>σ
  | .box k j=>match σ.bP k with
   |some (.box cs)=>bif PT cs[j]? then
     {σ with o9:=(p.key,some (.arr ⟨τ.1,[]⟩ τ.2))::(k,some (.box (cs.set j (.ref p.key []))))::σ.o9} else σ
   |_=>σ
 else σ
def re(k0:Key)(σ:ak U):ak U:=
 match σ.bP k0 with
 |some (.arr a true)=>{σ with o9:=(k0,some (.part a fun _=>false))::σ.o9}
 |_=>σ
def parts(l:List Key)(σ:ak U):ak U:=l.foldl (fun σ k=>re k σ) σ
def Et(k0:Key)(σ:ak U):ak U:=
 match σ.bP k0 with
 |some (.arr a true)=>{σ with o9:=(k0,some (.arr a false))::σ.o9,aS:=k0::σ.aS}
 |_=>σ
def PK(p:qJ)(τ:U.Ty)(σ:ak U):ak U:=
 match p with
 | .slot s j=>match σ.get s with
  |some (.v x)=>bif PT x.cs[j]? then{σ with bG:=(s,some (.v ⟨x.agg,x.cs.set j (.c (.sl τ []))⟩))::σ.bG} else σ
  |_=>σ
 | .box k j=>match σ.bP k with
  |some (.box cs)=>bif PT cs[j]? then{σ with o9:=(k,some (.box (cs.set j (.c (.sl τ [])))))::σ.o9} else σ
  |_=>σ
def PJ:List (qJ×U.Ty×Option Bool)->ak U->ak U
 |[],σ=>σ
 |(p,τ,some d)::r,σ=>PJ r (PL p (τ,d) σ)
 |(p,τ,none)::r,σ=>PJ r (PK p τ σ)
def assigned(ops:List Oper):List Nat:=ops.flatMap fun o=>match o.op with| .assign _=>o.dst.toList|_=>[]
def jN(σ:ak U):ak U:=uk (fun _=>false) σ
def N5(l:List Key)(σ:ak U):ak U:=match l with
 |[]=>σ
 |k::l=>jN ((k::l).foldl (fun σ k=>Et k σ) σ)
def ye(l:List Key)(σ:ak U):ak U:=l.foldl (fun σ k=>yf k σ) σ
def settle(ops:List Oper)(σ:ak U):ak U:=
 let σ1:=(assigned ops).foldl (fun σ d=>s7 d σ) (jN σ)
 ye (boxes σ1) σ1
def B3(ops:List Oper):List Nat:=ops.flatMap fun o=>o.dst.toList
def enter(ops:List Oper)(σ:ak U):ak U:=let ds:=B3 ops;uk (fun k=>(ds.any (Nat.beq k.1)||Nat.beq k.1 1000000)&&Nat.blt k.2 1024) σ
def IF(k0:Key)(c:U.C):AC U->AC U
 | .ref k []=>bif iZ k k0 then .c c else .ref k []
 |x=>x
def Nx(k0:Key)(c:U.C):SV U->SV U
 | .v x=> .v ⟨x.agg,x.cs.map (IF k0 c)⟩
 |x=>x
def LD(k0:Key)(c:U.C):iX U->iX U
 | .box cs=> .box (cs.map (IF k0 c))
 |e=>e
def mi(k0:Key)(σ:ak U):ak U:=
 match σ.bP k0 with
 |some (.arr a _)=>{σ with
   bG:=σ.bG.map fun(s,v)=>(s,v.map (Nx k0 (.sl a.τ a.xs)))
   o9:=(k0,none)::σ.o9.map fun(k,e)=>(k,e.map (LD k0 (.sl a.τ a.xs)))}
 |_=>σ
def tF(s:Nat)(σ:ak U):ak U:=
 match σ.get s with
 |some (.v ⟨_,[.ref k []]⟩)=>mi k σ
 |_=>σ
def ri(l:List Nat)(σ:ak U):ak U:=l.foldl (fun σ s=>tF s σ) σ
def Og(E:Env U)(ops:List Oper):List Nat:=ops.flatMap fun o=>match o.op with
 | .call {callee:=.value (.func f),args,..}=>match E.Qw f with
  |some k=>bif AF k.md then(k.md.zip args.toList).flatMap fun(m,q)=>match m,q with
    | .ro,.tmp t=>ops.flatMap fun p=>match p.dst,p.op with
     |some d,.move (.tmp v)=>bif Nat.beq d t then[v] else[]
     |_,_=>[]
    |_,_=>[] else[]
  |none=>[]
 |_=>[]
def su(l:List Key)(σ:ak U):ak U:=l.foldl (fun σ k=>mi k σ) σ
def rootOf(ops:List Oper)(t:Nat):Nat:=match ops.find? (fun p=>p.dst.any (Nat.beq t)) with
 |some p=>match p.op with
  | .move (.tmp v)=>v
  |_=>t
 |none=>t
def OC(ops:List Oper)(σ:ak U):List Key:=ops.flatMap fun o=>match o.op with
 | .makeFunc _ _ ql=>ql.toList.flatMap fun q=>match q with
  | .tmp t=>match σ.get (rootOf ops t) with
   |some (.v ⟨_,[.kQ k _]⟩)=>match σ.bP k with
    |some (.box cs)=>cs.flatMap fun c=>match c with
     | .ref q []=>[q]
     |_=>[]
    |_=>[]
   |_=>[]
  |_=>[]
 |_=>[]
def Fq(E:Env U)(ops:List Oper)(σ:ak U):ak U:=su (OC ops (ri (Og E ops) (enter ops σ))) (ri (Og E ops) (enter ops σ))
def xV(ops:List Oper)(draw:Bool)(σ:ak U)(K:ak U->Prop):Prop:=
 wpOps E ops ops 0 (Fq E ops σ) [] fun my rs=>bif !draw||NF ops rs then K (settle ops my) else False
inductive Out (U:lQ) where
 |normal (σ:ak U)
 |exit (id:Nat) (σ:ak U)
 |ret (σ:ak U)
structure sS(U:lQ) where
 X:Type
 bG:X->List (Nat×SV U)
 dD:X->List (Key×iX U)
 un:ak U->(X->Prop)->Prop
 nil:List (qJ×U.Ty×Option Bool)
 XQ:List Nat
 XR:List Key
 Xf:List Key
 Xg:List Key
 I:X->X->Prop
 μ:X->Nat
 all:(X->Prop)->Prop
 TK:∀P,all P->∀y,P y
 names:List Nat
 inn:∀x,∀p∈bG x,p.1∈names
 nin:∀p∈nil,∀s j,p.1=qJ.slot s j->s∈names
 law:∀σ K,un σ K->∃x,K x/\(∀p∈bG x,σ.get p.1=some p.2)/\(∀p∈dD x,σ.bP p.1=some p.2)
def uZ(l:List Nat)(σ:ak U):ak U:=l.foldl (fun σ d=>s7 d σ) σ
def Rb(σ:ak U):ak U:=ye (boxes σ) σ
def Gs(A:sS U)(σ:ak U):ak U:=parts A.Xg<|PJ A.nil (su A.XR (ri A.XQ (N5 A.Xf (jN (Rb (uZ A.names (jN σ)))))))
def iN:Code->Option Nat
 | .region id _ _=>some id
 | .seq a b=>match iN a with|some i=>some i|none=>iN b
 | .cond _ a b=>match iN a with|some i=>some i|none=>iN b
 | .block _ b=>iN b
 | .loop b=>iN b
 |_=>none
def ab0(r:Nat)(c:Code):Bool:=match iN c with
 |some i=>Nat.beq i r
 |none=>false
def Qs(r:Nat):Code->Option (Code×Code)
 | .seq a b=>bif ab0 r b then some (a,b) else match Qs r b with
  |some p=>some (.seq a p.1,p.2)
  |none=>none
 |_=>none
def abY(r:Nat)(c:Code):Code:=match Qs r c with
 |some p=>p.1
 |none=> .skip
def abX(r:Nat)(c:Code):Code:=match Qs r c with
 |some p=>p.2
 |none=> .skip
def mJ(A:sS U)(wr:List Nat)(σ:ak U)(x:A.X):ak U:=
 ⟨σ.n,
  (A.bG x).map (fun(s,v)=>(s,some v))++
   ((ya [] σ.bG).filter fun(s,v)=> !(wr.any (Nat.beq s))&& !(A.names.any (Nat.beq s))&&(match v with|some (.v y)=>(SV.v y).keys.isEmpty|some (.fn _)=>true|_=>false)),
  (A.dD x).map fun(k,e)=>(k,some e),
  []⟩
variable(oV:Nat->Option (sS U))
def gP:Code->List Nat
 | .region _ ops _=>B3 ops.toList
 | .seq a b=>gP a++gP b
 | .cond _ a b=>gP a++gP b
 | .block _ b=>gP b
 | .loop b=>gP b++(match(iN b).bind oV with|some A=>A.names|none=>[])
 |_=>[]
def wp:Code->ak U->(Out U->Prop)->Prop
 | .skip,σ,Q=>Q (.normal σ)
 | .seq a b,σ,Q=>wp a σ fun
  | .normal my=>wp b my Q
  |o=>Q o
 | .cond c t e,σ,Q=>match Ap σ c with
  |some (.bool b)=>bif b then wp t σ Q else wp e σ Q
  |_=>False
 | .block id c,σ,Q=>wp c σ fun
  | .exit id' my=>bif Nat.beq id' id then Q (.normal my) else Q (.exit id' my)
  |o=>Q o
 | .loop c,σ,Q=>match(iN c).bind oV with
  |some A=>A.un (Gs A σ) fun x=>A.I x x/\
    A.all fun y=>A.I x y->wp c (mJ A (gP oV c) σ y) fun
     | .normal my=>A.un (Gs A my) fun z=>A.I x z/\A.μ z<A.μ y
     |o=>Q o
  |none=>False
 | .exit id,σ,Q=>Q (.exit id σ)
 | .ret,σ,Q=>Q (.ret σ)
 | .region _ ops draw,σ,Q=>xV E ops.toList draw σ fun my=>Q (.normal my)
 |_,_,_=>False
end
end
end AM
