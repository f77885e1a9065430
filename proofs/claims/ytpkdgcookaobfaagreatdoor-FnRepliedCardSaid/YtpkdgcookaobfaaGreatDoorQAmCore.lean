/- THE ABSTRACT MACHINE: a weakest precondition over the model's Code, on typed data. Definitions only. -/
import Derived.Calls
import Derived.Orders
import Derived.Laws.AppendOwn
import Derived.Below
import Derived.Laws.BytesArg
namespace AM
theorem fA:type_of% @List.mem_cons_of_mem:=@List.mem_cons_of_mem
theorem iy:type_of% @List.mem_cons_self:=@List.mem_cons_self
theorem ez:type_of% @List.getD_eq_getElem?_getD:=@List.getD_eq_getElem?_getD
theorem fw:type_of% @List.getElem?_eq_getElem:=@List.getElem?_eq_getElem
theorem gA:type_of% @Option.some.injEq:=@Option.some.injEq
theorem cJ:type_of% @Bool.and_eq_true:=@Bool.and_eq_true
theorem nf:type_of% @Option.isSome_iff_exists:=@Option.isSome_iff_exists
theorem im:type_of% @Bool.cond_eq_ite:=@Bool.cond_eq_ite
theorem nk:type_of% @Nat.eq_of_beq_eq_true:=@Nat.eq_of_beq_eq_true
theorem od:type_of% @List.getElem?_eq_none:=@List.getElem?_eq_none
theorem jZ:type_of% @List.mem_cons:=@List.mem_cons
theorem nT:type_of% @List.getElem?_map:=@List.getElem?_map
theorem vn:type_of% @List.getElem?_cons_zero:=@List.getElem?_cons_zero
theorem qn:type_of% @List.getElem?_take:=@List.getElem?_take
theorem jC:type_of% @List.mem_append:=@List.mem_append
theorem zC:type_of% @List.getElem?_append_right:=@List.getElem?_append_right
theorem xA:type_of% @List.getElem?_append_left:=@List.getElem?_append_left
theorem sD:type_of% @List.mem_append_left:=@List.mem_append_left
theorem rv:type_of% @List.mem_append_right:=@List.mem_append_right
theorem oQ:type_of% @List.mem_flatMap:=@List.mem_flatMap
theorem mI:type_of% @List.mem_singleton:=@List.mem_singleton
theorem rK:type_of% @List.nodup_append:=@List.nodup_append
theorem oc:type_of% @List.length_take:=@List.length_take
theorem pq:type_of% @Prod.mk.injEq:=@Prod.mk.injEq
theorem pD:type_of% @List.mem_range:=@List.mem_range
theorem mf:type_of% @List.mem_map:=@List.mem_map
theorem pe:type_of% @Nat.lt_or_ge:=@Nat.lt_or_ge
theorem vm:type_of% @List.any_eq_true:=@List.any_eq_true
theorem AL:type_of% @Nat.mul_le_mul_right:=@Nat.mul_le_mul_right
theorem ru:type_of% @Bool.not_eq_true':=@Bool.not_eq_true'
theorem tY:type_of% @List.nodup_cons:=@List.nodup_cons
theorem Gm:type_of% @List.length_modify:=@List.length_modify
theorem xv:type_of% @Bool.false_eq_true:=@Bool.false_eq_true
theorem FL:type_of% @List.eq_nil_of_length_eq_zero:=@List.eq_nil_of_length_eq_zero
theorem qm:type_of% @Bool.false_and:=@Bool.false_and
theorem wu:type_of% @Bool.not_eq_true:=@Bool.not_eq_true
theorem sG:type_of% @List.getElem_of_mem:=@List.getElem_of_mem
theorem Gl:type_of% @List.mem_of_getElem?:=@List.mem_of_getElem?
theorem zB:type_of% @List.flatMap_cons:=@List.flatMap_cons
theorem FU:type_of% @Array.length_toList:=@Array.length_toList
theorem fv:type_of% @List.length_nil:=@List.length_nil
theorem zbp:type_of% @Int.tmod_eq_emod_of_nonneg:=@Int.tmod_eq_emod_of_nonneg
theorem fK:type_of% @List.length_cons:=@List.length_cons
theorem xz:type_of% @List.append_assoc:=@List.append_assoc
theorem vl:type_of% @Bool.and_false:=@Bool.and_false
theorem wh:type_of% @List.map_cons:=@List.map_cons
theorem J':type_of% @Nat.le_of_ble_eq_true:=@Nat.le_of_ble_eq_true
theorem HB:type_of% @List.getElem?_drop:=@List.getElem?_drop
theorem vk:type_of% @Nat.zero_add:=@Nat.zero_add
theorem Mt:type_of% @Array.getElem?_toList:=@Array.getElem?_toList
theorem QR:type_of% @Array.getD_eq_getD_getElem?:=@Array.getD_eq_getD_getElem?
theorem Ms:type_of% @List.flatten_cons:=@List.flatten_cons
theorem tX:type_of% @Nat.le_refl:=@Nat.le_refl
theorem sC:type_of% @List.all_eq_true:=@List.all_eq_true
theorem Mg:type_of% @List.flatten_append:=@List.flatten_append
theorem FT:type_of% @Option.map_some:=@Option.map_some
theorem ko:type_of% @List.length_append:=@List.length_append
theorem NG:type_of% @List.not_mem_nil:=@List.not_mem_nil
theorem zA:type_of% @List.mem_filter:=@List.mem_filter
theorem xu:type_of% @List.append_nil:=@List.append_nil
theorem xy:type_of% @Nat.add_mul:=@Nat.add_mul
theorem FR:type_of% @Option.getD_some:=@Option.getD_some
theorem wq:type_of% @Bool.true_and:=@Bool.true_and
theorem NF:type_of% @List.getElem?_range:=@List.getElem?_range
theorem FJ:type_of% @Bool.eq_iff_iff:=@Bool.eq_iff_iff
theorem FI:type_of% @Bool.or_eq_true:=@Bool.or_eq_true
theorem xt:type_of% @List.length_map:=@List.length_map
theorem QA:type_of% @Bool.or_eq_false_iff:=@Bool.or_eq_false_iff
theorem Ul:type_of% @List.take_append_drop:=@List.take_append_drop
theorem O1:type_of% @List.map_congr_left:=@List.map_congr_left
theorem Mf:type_of% @List.length_drop:=@List.length_drop
theorem O0:type_of% @List.flatMap_def:=@List.flatMap_def
theorem Me:type_of% @List.length_set:=@List.length_set
theorem J6:type_of% @Nat.add_zero:=@Nat.add_zero
theorem Gk:type_of% @Bool.false_or:=@Bool.false_or
theorem Uk:type_of% @List.ext_getElem?:=@List.ext_getElem?
theorem Uj:type_of% @List.take_of_length_le:=@List.take_of_length_le
theorem zcz:type_of% @List.take_succ_eq_append_getElem:=@List.take_succ_eq_append_getElem
theorem FH:type_of% @List.getElem_mem:=@List.getElem_mem
theorem BL:type_of% @Bool.and_true:=@Bool.and_true
theorem Mr:type_of% @List.sum_cons:=@List.sum_cons
theorem zdd:type_of% @List.cons.injEq:=@List.cons.injEq
theorem xr:type_of% @Nat.le_trans:=@Nat.le_trans
theorem QP:type_of% @Option.getD_none:=@Option.getD_none
theorem zdg:type_of% @List.nodup_iff_pairwise_ne:=@List.nodup_iff_pairwise_ne
theorem WR:type_of% @List.getElem?_set:=@List.getElem?_set
theorem WQ:type_of% @List.Sublist.refl:=@List.Sublist.refl
theorem UD:type_of% @List.size_toArray:=@List.size_toArray
theorem zdk:type_of% @Array.getElem?_eq_getElem:=@Array.getElem?_eq_getElem
theorem QO:type_of% @Nat.add_assoc:=@Nat.add_assoc
theorem zdm:type_of% @List.eq_nil_iff_forall_not_mem:=@List.eq_nil_iff_forall_not_mem
theorem J5:type_of% @Nat.beq_eq:=@Nat.beq_eq
theorem QN:type_of% @List.any_map:=@List.any_map
theorem zdp:type_of% @List.getElem?_set_self:=@List.getElem?_set_self
theorem Zf:type_of% @List.mem_flatten:=@List.mem_flatten
theorem QM:type_of% @List.all_cons:=@List.all_cons
theorem zds:type_of% @Nat.lt_of_lt_of_le:=@Nat.lt_of_lt_of_le
theorem Mq:type_of% @List.length_filter_le:=@List.length_filter_le
theorem Ze:type_of% @List.nodup_nil:=@List.nodup_nil
theorem UC:type_of% @List.pairwise_iff_getElem:=@List.pairwise_iff_getElem
theorem QL:type_of% @Nat.one_mul:=@Nat.one_mul
theorem Zd:type_of% @Option.some.inj:=@Option.some.inj
theorem zdy:type_of% @Option.bind_eq_some_iff:=@Option.bind_eq_some_iff
theorem zdz:type_of% @List.getElem?_replicate:=@List.getElem?_replicate
theorem WO:type_of% @Bool.not_false:=@Bool.not_false
theorem zeb:type_of% @List.find?_eq_none:=@List.find?_eq_none
theorem UB:type_of% @Nat.mul_comm:=@Nat.mul_comm
theorem zed:type_of% @List.getElem?_toArray:=@List.getElem?_toArray
theorem zee:type_of% @List.length_replicate:=@List.length_replicate
theorem J9:type_of% @List.map_append:=@List.map_append
theorem UA:type_of% @List.any_cons:=@List.any_cons
theorem QK:type_of% @Bool.or_false:=@Bool.or_false
theorem Uz:type_of% @List.getElem?_modify:=@List.getElem?_modify
theorem zej:type_of% @List.getElem?_zipIdx:=@List.getElem?_zipIdx
theorem zek:type_of% @List.getElem?_set_ne:=@List.getElem?_set_ne
theorem Ui:type_of% @List.drop_eq_getElem_cons:=@List.drop_eq_getElem_cons
theorem zem:type_of% @List.sublist_append_right:=@List.sublist_append_right
theorem zen:type_of% @List.flatMap_nil:=@List.flatMap_nil
theorem zeo:type_of% @Array.toList_map:=@Array.toList_map
theorem Uh:type_of% @List.flatMap_append:=@List.flatMap_append
theorem QJ:type_of% @Nat.ble_eq:=@Nat.ble_eq
theorem zer:type_of% @List.sublist_append_left:=@List.sublist_append_left
theorem QI:type_of% @List.all_nil:=@List.all_nil
theorem Zc:type_of% @List.sum_append:=@List.sum_append
theorem Zb:type_of% @Int.toNat_natCast:=@Int.toNat_natCast
theorem Za:type_of% @Nat.sub_self:=@Nat.sub_self
theorem zew:type_of% @Nat.add_comm:=@Nat.add_comm
theorem zex:type_of% @List.cons_append:=@List.cons_append
theorem zey:type_of% @List.flatten_nil:=@List.flatten_nil
theorem zez:type_of% @Nat.div_eq_of_lt:=@Nat.div_eq_of_lt
theorem zfa:type_of% @Bool.not_true:=@Bool.not_true
set_option linter.unusedVariables false
noncomputable section
open Go
inductive Cell (Ty:Type) (T:Ty->Type) where
 |lit (v:Value)
 |sl (τ:Ty) (xs:List (T τ))
structure lz where
 Ty:Type
 T:Ty->Type
 deq:DecidableEq Ty
 wd:Ty->Nat
 enc:(τ:Ty)->T τ->List (Cell Ty T)
 dec:(τ:Ty)->List (Cell Ty T)->Option (T τ)
 e6:(τ:Ty)->T τ
 flat:Ty->Bool
 la:∀τ,0<wd τ
 dz:∀τ x,(enc τ x).length=wd τ
 mT:∀τ cs x,dec τ cs=some x->enc τ x=cs
 Oj:∀τ,flat τ=true->∀x c,c∈enc τ x->∃v,c=.lit v
 pk:Ty
 WV:T pk->Int
 ofB:Int->T pk
 NK:∀n,WV (ofB n)=n
 Hg:∀x,enc pk x=[.lit (.int .u8 (WV x))]
abbrev lz.C(U:lz):=Cell U.Ty U.T
structure fu(U:lz) where
 τ:U.Ty
 xs:List (U.T τ)
abbrev Key:=Nat×Nat
abbrev Path:=List (Nat×Nat×Nat)
inductive AC (U:lz) where
 |c (x:U.C)
 |e0
 |ref (k:Key) (p:Path)
 |sub (k:Key) (wd lo hi:Nat)
 |lN (k:Key) (p:Path) (i wd off:Nat)
 |ky (k:Key) (off:Nat)
 |ia (cs:List U.C)
 |kn (b:Bool) (τ:U.Ty) (xs:List (U.T τ))
structure AV(U:lz) where
 agg:Bool
 cs:List (AC U)
structure DA(U:lz) where
 agg:Bool
 cs:List U.C
inductive SV (U:lz) where
 |v (x:AV U)
 |wv (xs:List (AV U))
 |fn (p:List (DA U)->Option Value)
 |Hk (g:FuncId) (qa:List (AV U))
inductive iN (U:lz) where
 |arr (a:fu U) (deep:Bool)
 |box (cs:List (AC U))
 |part (a:fu U) (dead:Nat->Bool)
structure ak(U:lz) where
 n:Nat
 bM:List (Nat×Option (SV U))
 oR:List (Key×Option (iN U))
 aT:List Key
def look{β:Type}(l:List (Nat×Option β))(s:Nat):Option β:=
 match l with
 |[]=>none
 |(t,v)::r=>bif Nat.beq t s then v else look r s
def iR(a b:Key):Bool:=Nat.beq a.1 b.1&&Nat.beq a.2 b.2
def eJ{β:Type}(l:List (Key×Option β))(k:Key):Option β:=
 match l with
 |[]=>none
 |(t,v)::r=>bif iR t k then v else eJ r k
def ak.get{U:lz}(σ:ak U)(s:Nat):Option (SV U):=look σ.bM s
def ak.bO{U:lz}(σ:ak U)(k:Key):Option (iN U):=eJ σ.oR k
inductive DV (U:lz) where
 |one (c:U.C)
 |agg (cs:List U.C)
 |box (cs:List U.C)
 |ptr (cs:List U.C)
 |fn (p:List (DA U)->Option Value)
inductive Mode where
 |ro|wr|mv
 |box (own:Bool)
 deriving DecidableEq
structure Res(U:lz) where
 val:List (DV U)
 fresh:List Bool
 KW:List (DV U)
structure jY(U:lz) where
 α:Type
 md:List Mode
 of:List (DV U)->Option α
 ds:α->List (DV U)
 pre:α->List Prop
 nY:α->Res U
 law:∀l x,of l=some x->ds x=l
 Ku:Nat:=0
 cut:Nat:=0
def jY.want{U:lz}(k:jY U)(ws:List (List (Option U.Ty))):List (List (Option U.Ty)):=match k.cut with
 |0=>ws
 |n+1=>ws.map (List.take (n+1))
structure Env(U:lz) where
 P:Program
 tid:U.Ty->TypeId
 code:TypeId->Option U.Ty
 Ql:FuncId->Option (jY U)
 Qk:FuncId->Option (jY U):=fun _=>none
 UJ:List (Nat×Array Value):=[]
 gg:TypeId->Nat->List Key->Bool:=fun _ _ _=>false
 shl:TypeId->Bool:=fun _=>false
section
variable{U:lz}(E:Env U)
def Env.isAgg(t:TypeId):Option Bool:=match E.P.underlying t with|some (.struct _)=>some true|some (.array _ _)=>some true|some _=>some false|none=>none
def Env.size(t:TypeId):Option Nat:=(E.P.info? t).map (·.size)
def Env.elem(t:TypeId):Option TypeId:=match E.P.underlying t with|some (.slice e)=>some e|_=>none
def Env.Wc(t:TypeId)(f:Nat):Option (Nat×TypeId):=match E.P.underlying t with|some (.struct fs)=>(fs[f]?).map fun f=>(f.offset,f.type)|_=>none
def Env.shape:Nat->TypeId->List (Option U.Ty)
 |0,_=>[]
 |d+1,t=>match E.P.underlying t with
  |some (.struct fs)=>fs.toList.flatMap fun f=>Env.shape d f.type
  |some (.slice e)=>[E.code e]
  |_=>[none]
def Env.zJ(t:TypeId):List (Option U.Ty):=match E.P.underlying t with
 |some (.pointer e)=>E.shape 8 e
 |_=>E.shape 8 t
def walk:Path->fu U->Option (List Prop×fu U)
 |[],a=>some ([],a)
 |(i,wd,j)::p,a=>
  bif Nat.beq wd (U.wd a.τ) then
   match(U.enc a.τ (a.xs.getD i (U.e6 a.τ)))[j]? with
   |some (.sl τ xs)=>match walk p ⟨τ,xs⟩ with
    |some (ps,b)=>some ((i<a.xs.length)::ps,b)
    |none=>none
   |_=>none
  else none
def WZ(τ:U.Ty)(g:List U.C->List U.C)(x:U.T τ):U.T τ:=match U.dec τ (g (U.enc τ x)) with|some y=>y|none=>x
def H7(τ:U.Ty)(xs:List (U.T τ))(i:Nat)(g:List U.C->List U.C):List (U.T τ):=xs.modify i (WZ τ g)
theorem adf{τ:U.Ty}{xs:List (U.T τ)}{i:Nat}{g:List U.C->List U.C}{y:U.T τ}(h:U.dec τ (g (U.enc τ (xs.getD i (U.e6 τ))))=some y):H7 τ xs i g=xs.set i y:=by
 unfold H7
 refine Uk fun j=> ?_
 rw[Uz,WR]
 by_cases hj:i=j
 ·subst hj
  rw[if_pos rfl]
  by_cases hi:i<xs.length
  ·rw[if_pos hi,fw hi]
   rw[ez,fw hi] at h
   simp only[FR] at h
   simp[WZ,h]
  ·rw[if_neg hi,od (by omega)];rfl
 ·rw[if_neg hj]
  simp[hj]
def chg:Path->fu U->(fu U->Option (fu U))->Option (fu U)
 |[],a,f=>f a
 |(i,_,j)::p,a,f=>
  let cs:=U.enc a.τ (a.xs.getD i (U.e6 a.τ))
  match cs[j]? with
  |some (.sl τ xs)=>
   match chg p ⟨τ,xs⟩ f with
   |some b=>match U.dec a.τ (cs.set j (.sl b.τ b.xs)) with
    |some _=>some ⟨a.τ,H7 a.τ a.xs i (fun cs=>cs.set j (.sl b.τ b.xs))⟩
    |none=>none
   |none=>none
  |_=>none
def jd(τ:U.Ty)(a:fu U):Option (List (U.T τ)):=
 match U.deq a.τ τ with
 | .isTrue h=>some (h▸a.xs)
 | .isFalse _=>none
abbrev rl(U:lz):=Key->Option (iN U)
structure cn(U:lz) where
 val:Option (SV U)
 dR:List (Nat×iN U)
 lG:List Key
 jQ:List (Key×iN U)
 pre:List Prop
def cn.cL(v:SV U)(pre:List Prop:=[]):cn U:=⟨some v,[],[],[],pre⟩
def one(x:AC U):SV U:=.v ⟨false,[x]⟩
def wk(v:Value):SV U:=one (.c (.lit v))
def cn.lit(v:Value)(pre:List Prop:=[]):cn U:=.cL (wk v) pre
def fR(tb:rl U)(aT:List Key)(k:Key)(p:Path):Bool:=p.isEmpty||((tb k).isSome&& !(aT.any (iR k)))
def E9(tb:rl U)(aT:List Key):AC U->Bool
 | .ref k p=>fR tb aT k p
 | .lN k p _ _ _=>fR tb aT k p
 |_=>true
def u4(tb:rl U)(aT:List Key)(cs:List (AC U)):Bool:=cs.all (E9 tb aT)
def rb(tb:rl U)(aT:List Key):AC U->Option (List Prop×fu U)
 | .c (.sl τ xs)=>some ([],⟨τ,xs⟩)
 | .kn _ τ xs=>some ([],⟨τ,xs⟩)
 | .ref k p=>match tb k with
  |some (.arr a _)=>bif fR tb aT k p then walk p a else none
  |_=>none
 | .sub k wd lo hi=>match tb k with
  |some (.arr a _)=>bif Nat.beq wd (U.wd a.τ) then some ([hi<=a.xs.length],⟨a.τ,(a.xs.take hi).drop lo⟩) else none
  |_=>none
 |_=>none
def Aw(tb:rl U)(aT:List Key):AC U->Option (List Prop×fu U)
 | .ref k ((i,wd,j)::p)=>match tb k with
  |some (.part a dead)=>bif fR tb aT k ((i,wd,j)::p) then(match walk ((i,wd,j)::p) a with|some (ps,b)=>some ((dead i=false)::ps,b)|none=>none) else none
  |_=>none
 |_=>none
def cellOf(tb:rl U)(aT:List Key)(want:Option U.Ty):AC U->Option (List Prop×U.C)
 | .c x=>some ([],x)
 | .e0=>match want with|some τ=>some ([],.sl τ [])|none=>none
 |x=>match rb tb aT x with
  |some (ps,a)=>some (ps,.sl a.τ a.xs)
  |none=>match Aw tb aT x with
   |some (ps,a)=>some (ps,.sl a.τ a.xs)
   |none=>none
def cellsOf(tb:rl U)(aT:List Key):List (Option U.Ty)->List (AC U)->Option (List Prop×List U.C)
 |_,[]=>some ([],[])
 |ws,x::r=>
  match cellOf tb aT (ws.head?.bind id) x,cellsOf tb aT ws.tail r with
  |some (ps,c),some (qs,cs)=>some (ps++qs,c::cs)
  |_,_=>none
def uB(tb:rl U)(want:Option U.Ty):AC U->Option (List Prop×U.C×List Key×Bool)
 | .c (.lit v)=>some ([],.lit v,[],true)
 | .c (.sl τ xs)=>some ([],.sl τ xs,[],false)
 | .e0=>match want with|some τ=>some ([],.sl τ [],[],true)|none=>none
 | .ref k []=>match tb k with
  |some (.arr a d)=>some ([],.sl a.τ a.xs,[k],d)
  |some (.part a dead)=>some ([∀i,i<a.xs.length->dead i=false],.sl a.τ a.xs,[k],true)
  |_=>none
 | .sub k _ 0 hi=>match tb k with
  |some (.arr a d)=>some ([hi<=a.xs.length],.sl a.τ (a.xs.take hi),[k],d)
  |some (.part a dead)=>some ([hi<=a.xs.length,∀i,i<hi->dead i=false],.sl a.τ (a.xs.take hi),[k],true)
  |_=>none
 |_=>none
def fe(tb:rl U):List (Option U.Ty)->List (AC U)->Option (List Prop×List U.C×List Key×Bool)
 |_,[]=>some ([],[],[],true)
 |ws,x::r=>
  match uB tb (ws.head?.bind id) x,fe tb ws.tail r with
  |some (ps,c,ks,d),some (qs,cs,ks',d')=>some (ps++qs,c::cs,ks++ks',d&&d')
  |_,_=>none
def distinct:List Key->Bool
 |[]=>true
 |k::r=> !(r.any (iR k))&&distinct r
def EC(t:TypeId)(op:BinOp)(x y:Value):Option (List Prop×Value):=
 match x,y with
 | .int k a,.int k' b=>
  match op with
  | .shl=>some ([0<=b],.int k (k.wrap (a*2^(min b.toNat k.bits))))
  | .shr=>some ([0<=b],.int k (a.fdiv (2^(min b.toNat k.bits))))
  |op=>bif decide (k=k') then(match op with
   | .add=>some ([],.int k (k.wrap (a+b)))
   | .sub=>some ([],.int k (k.wrap (a-b)))
   | .mul=>some ([],.int k (k.wrap (a*b)))
   | .quo=>some ([b≠0],.int k (k.wrap (a.tdiv b)))
   | .rem=>some ([b≠0],.int k (a.tmod b))
   | .and=>some ([],.int k (k.wrap (BitVec.ofInt k.bits a&&&BitVec.ofInt k.bits b).toNat))
   | .or=>some ([],.int k (k.wrap (BitVec.ofInt k.bits a|||BitVec.ofInt k.bits b).toNat))
   | .xor=>some ([],.int k (k.wrap (BitVec.ofInt k.bits a^^^BitVec.ofInt k.bits b).toNat))
   | .eql=>some ([],.bool (a==b))
   | .neq=>some ([],.bool (a !=b))
   | .lss=>some ([],.bool (decide (a<b)))
   | .leq=>some ([],.bool (decide (a<=b)))
   | .gtr=>some ([],.bool (decide (a>b)))
   | .geq=>some ([],.bool (decide (a≥b)))
   |_=>none) else none
 | .string a,.string b=>
  match op with
  | .add=>some ([(a.size+b.size:Nat)<=(4611686018427387904:Nat)],.string (a++b))
  | .eql=>some ([],.bool (a.toList==b.toList))
  | .neq=>some ([],.bool (!(a.toList==b.toList)))
  | .lss=>some ([],.bool (Op.bytesLess a.toList b.toList))
  | .leq=>some ([],.bool (Op.bytesLess a.toList b.toList||a.toList==b.toList))
  | .gtr=>some ([],.bool (!(Op.bytesLess a.toList b.toList||a.toList==b.toList)))
  | .geq=>some ([],.bool (!(Op.bytesLess a.toList b.toList)))
  |_=>none
 | .bool a,.bool b=>
  match E.P.underlying t with
  |some .bool=>match op with
   | .eql=>some ([],.bool (a==b))
   | .neq=>some ([],.bool (!(a==b)))
   |_=>none
  |_=>none
 |_,_=>none
def Env.Nl:Nat->TypeId->List Value->List Value->Option Bool
 |0,_,_,_=>none
 |d+1,t,xs,ys=>match E.P.underlying t with
  |some (.struct fs)=>bif E.P.stoodInHeld t then none else
    fs.toList.foldr (fun f acc=>match E.size f.type,E.isAgg f.type,acc with
     |some n,some g,some r=>bif f.name != "_" &&Nat.ble (f.offset+n) xs.length&&Nat.ble (f.offset+n) ys.length&&(g||Nat.beq n 1) then
       (match Env.Nl d f.type ((xs.drop f.offset).take n) ((ys.drop f.offset).take n) with
       |some b=>some (b&&r)
       |none=>none) else none
     |_,_,_=>none) (some true)
  |some .bool=>match xs,ys with|[.bool a],[.bool b]=>some (a==b)|_,_=>none
  |some (.int _)=>match xs,ys with|[.int k a],[.int k' b]=>bif decide (k=k') then some (a==b) else none|_,_=>none
  |some .string=>match xs,ys with|[.string a],[.string b]=>some (a.toList==b.toList)|_,_=>none
  |_=>none
def rU:List (AC U)->Option (List Value)
 |[]=>some []
 | .c (.lit v)::r=>match rU r with|some l=>some (v::l)|none=>none
 |_=>none
def S5(op:BinOp)(t:TypeId)(x y:SV U):Option (cn U):=match x,y with
 | .v ⟨true,xs⟩,.v ⟨true,ys⟩=>match rU xs,rU ys with
  |some us,some vs=>match E.isAgg t with
   |some true=>bif E.P.eqGuardType E.P.depth t then none else(match op,E.Nl 8 t us vs with
    | .eql,some b=>some (cn.lit (.bool b))
    | .neq,some b=>some (cn.lit (.bool (!b)))
    |_,_=>none)
   |_=>none
  |_,_=>none
 |_,_=>none
def KZ(op:UnOp)(x:Value):Option Value:=
 match op,x with
 | .neg,.int k n=>some (.int k (k.wrap (0-n)))
 | .not,.bool b=>some (.bool (!b))
 |_,_=>none
def pC:Value->Option (AC U)
 | .slice none 0 0=>some .e0
 | .pointer none=>some (.c (.lit (.pointer none)))
 | .int k n=>bif decide (k.min<=n)&&decide (n<=k.max) then some (.c (.lit (.int k n))) else none
 | .bool b=>some (.c (.lit (.bool b)))
 | .string s=>bif Nat.ble s.size 9223372036854775807 then some (.c (.lit (.string s))) else none
 |_=>none
def jN:List Value->Option (List (AC U))
 |[]=>some []
 |v::r=>match pC v,jN r with
  |some x,some l=>some (x::l)
  |_,_=>none
def sd(cs:Array Value):Option (SV U):=match jN cs.toList with|some l=>some (.v ⟨true,l⟩)|none=>none
def IA:Value->Option (SV U)
 | .agg cs=>sd cs
 |v=>match pC v with|some x=>some (one x)|none=>none
def MV(σ:ak U):Operand->Option (SV U)
 | .tmp t=>σ.get t
 | .const v=>IA v
 | .global _=>none
 | .func g=>some (.Hk g [])
def AC.keys:AC U->List Key
 | .c _| .e0| .ia _| .kn _ _ _=>[]
 | .ref k _| .sub k _ _ _| .lN k _ _ _ _| .ky k _=>[k]
def SV.Ca:SV U->List (AC U)
 | .v x=>x.cs
 | .wv xs=>xs.flatMap (·.cs)
 | .fn _=>[]
 | .Hk _ xs=>xs.flatMap (·.cs)
def SV.keys(x:SV U):List Key:=x.Ca.flatMap AC.keys
def ak.B'(σ:ak U)(k:Key):List Key:=
 match σ.bO k with
 |some (.box cs)=>cs.flatMap AC.keys
 |_=>[]
def reach(σ:ak U)(xs:List (SV U)):List Key:=
 let ks:=xs.flatMap SV.keys
 ks++ks.flatMap σ.B'
def NX(o:Oper):Bool:=match o.op with
 | .nilCheck _=>true
 | .fieldAddr _ _ _=>true
 |_=>false
def NJ(o:Oper):Bool:=match o.op with
 | .move _=>true
 | .assign _=>true
 |_=>false
def pJ(σ:ak U)(o:Oper)(xs:List (SV U)):List Key:=bif NJ o then[] else bif NX o then xs.flatMap SV.keys else reach σ xs
def restrict(tb:rl U)(ks:List Key):rl U:=fun k=>bif ks.any (iR k) then tb k else none
def ic(k:Key)(p:Path)(i wd:Nat):List U.C->Nat->List (AC U)
 |[],_=>[]
 | .lit v::r,j=> .c (.lit v)::ic k p i wd r (j+1)
 | .sl _ _::r,j=> .ref k (p++[(i,wd,j)])::ic k p i wd r (j+1)
def loadAt(tb:rl U)(aT:List Key)(agg:Bool)(n:Nat)(x:AC U):Option (cn U):=
 bif agg||Nat.beq n 1 then
  match x with
  | .ia cs=>bif Nat.ble n cs.length then some (.cL (.v ⟨agg,(cs.take n).map .c⟩)) else none
  | .ky k off=>match tb k with
   |some (.box cs)=>bif Nat.ble (off+n) cs.length then some (.cL (.v ⟨agg,(cs.drop off).take n⟩)) else none
   |_=>none
  | .lN k p i wd off=>match tb k with
   |some (.arr a _)=>bif fR tb aT k p then
     match walk p a with
     |some (ps,b)=>
      bif Nat.ble (off+n) (U.wd b.τ)&&Nat.beq wd (U.wd b.τ) then
       some (.cL (.v ⟨agg,ic k p i wd (((U.enc b.τ (b.xs.getD i (U.e6 b.τ))).drop off).take n) off⟩) (ps++[i<b.xs.length]))
      else none
     |none=>none
    else none
   |_=>none
  |_=>none
 else none
def EA(tb:rl U)(agg:Bool)(n:Nat):AC U->Option (cn U)
 | .lN k [] i wd off=>match tb k with
  |some (.arr a false)=>bif (agg||Nat.beq n 1)&&Nat.ble (off+n) (U.wd a.τ)&&Nat.beq wd (U.wd a.τ) then
    some (.cL (.v ⟨agg,(((U.enc a.τ (a.xs.getD i (U.e6 a.τ))).drop off).take n).map .c⟩) [i<a.xs.length]) else none
  |_=>none
 |_=>none
def HC:List U.C->List (Option U.Ty)
 |[]=>[]
 | .sl τ _::r=>some τ::HC r
 | .lit _::r=>none::HC r
def HM(off i:Nat)(ds:List U.C)(b:fu U):Option (fu U):=
 let cs:=U.enc b.τ (b.xs.getD i (U.e6 b.τ))
 match U.dec b.τ (cs.take off++ds++cs.drop (off+ds.length)) with
 |some y=>some ⟨b.τ,bif Nat.beq ds.length (U.wd b.τ) then b.xs.set i y else H7 b.τ b.xs i (fun cs=>cs.take off++ds++cs.drop (off+ds.length))⟩
 |none=>none
theorem Z0(off i:Nat)(ds:List U.C)(b:fu U):HM off i ds b=match U.dec b.τ ((U.enc b.τ (b.xs.getD i (U.e6 b.τ))).take off++ds++(U.enc b.τ (b.xs.getD i (U.e6 b.τ))).drop (off+ds.length)) with|some y=>some ⟨b.τ,b.xs.set i y⟩|none=>none:=by
 unfold HM
 simp only
 split
 ·rename_i y h
  cases Nat.beq ds.length (U.wd b.τ)
  ·simp only[cond_false];rw[adf h]
  ·rfl
 ·rfl
def storeAt(tb:rl U)(aT:List Key)(x:AV U):AC U->Option (cn U)
 | .ky k off=>match tb k with
  |some (.box cs)=>bif Nat.ble (off+x.cs.length) cs.length then
    some ⟨none,[],[],[(k,.box (cs.take off++x.cs++cs.drop (off+x.cs.length)))],[]⟩ else none
  |_=>none
 | .lN k p i wd off=>match tb k with
  |some (.arr a d)=>bif fR tb aT k p then
    match walk p a with
    |some (ps,b)=>match fe tb (HC ((U.enc b.τ (b.xs.getD i (U.e6 b.τ))).drop off)) x.cs with
     |some (qs,ds,ks,d')=>match chg p a (HM off i ds) with
      |some a'=>bif Nat.beq wd (U.wd b.τ)&&Nat.ble (off+ds.length) (U.wd b.τ)&&distinct (k::ks)&&((d&&d')||p.isEmpty) then
        some ⟨none,[],ks,[(k,.arr a' (d&&d'))],ps++qs++[i<b.xs.length]⟩ else none
      |none=>none
     |none=>none
    |none=>none
   else none
  |_=>none
 |_=>none
def plain:List (AC U)->Option (List U.C)
 |[]=>some []
 | .c x::r=>match plain r with|some l=>some (x::l)|none=>none
 |_=>none
def wV:List U.C->Bool
 |[]=>true
 | .lit _::r=>wV r
 |_=>false
def rowsOf(τ:U.Ty)(tb:rl U)(want:List (Option U.Ty)):List (SV U)->Option (List Prop×List (U.T τ)×List Key×Bool)
 |[]=>some ([],[],[],true)
 | .v x::r=>
  match fe tb want x.cs,rowsOf τ tb want r with
  |some (ps,cs,ks,d),some (qs,xs,ks',d')=>
   match U.dec τ cs with
   |some y=>some (ps++qs,y::xs,ks++ks',d&&d')
   |none=>none
  |_,_=>none
 |_=>none
def Env.places(t:TypeId):Option (List (Nat×Nat)):=match E.P.underlying t with
 |some (.struct fs)=>fs.toList.mapM (fun f=>(E.P.info? f.type).map fun i=>(f.offset,i.size))
 |_=>none
def ii(pl:List (Nat×Nat))(cells:List (AC U)):List Nat->List (SV U)->Option (List (AC U))
 |[],[]=>some cells
 |f::fs,.v x::r=>match pl[f]? with
  |some (off,n)=>bif Nat.beq x.cs.length n&&Nat.ble (off+n) cells.length then ii pl (cells.take off++x.cs++cells.drop (off+n)) fs r else none
  |none=>none
 |_,_=>none
def iZ :SV U->Option Value
 | .v ⟨false,[.c (.lit v)]⟩=>some v
 |_=>none
def vd :SV U->Option (AC U)
 | .v ⟨false,[x]⟩=>some x
 |_=>none
def D7{α:Type}:List (Option α)->Option (List α)
 |[]=>some []
 |some x::r=>match D7 r with|some l=>some (x::l)|none=>none
 |none::_=>none
def Hr:Option Operand->List (SV U)->Option (Option Int×List (SV U))
 |none,bs=>some (none,bs)
 |some _,b::bs=>match iZ b with
  |some (.int _ n)=>some (some n,bs)
  |_=>none
 |some _,[]=>none
def vq(tb:rl U)(aT:List Key)(t:TypeId)(x:SV U)(l h m:Option Int):Option (cn U):=
 match m with
 |some mm=>match h,vd x,(E.elem t).bind E.size with
  |some hh,some y,some _=>match rb tb aT y with
   |some (ps,_)=>some (.cL (one .e0) (ps++[mm=0,hh=0,l.getD 0=0]))
   |none=>match y with
    | .e0=>some (.cL (one .e0) [mm=0,hh=0,l.getD 0=0])
    |_=>none
  |_,_,_=>none
 |none=>match iZ x with
  |some (.string s)=>match E.P.underlying t with
   |some .string=>some (.lit (.string (s.extract (l.getD 0).toNat (h.getD s.size).toNat)) [0<=l.getD 0,l.getD 0<=h.getD s.size,h.getD s.size<=s.size])
   |_=>none
  |some _=>none
  |none=>match vd x,(E.elem t).bind E.size with
   |some (.c (.sl τ ys)),some n=>bif Nat.beq n (U.wd τ) then
     some (.cL (one (.c (.sl τ ((ys.take (h.getD ys.length).toNat).drop (l.getD 0).toNat)))) [0<=l.getD 0,l.getD 0<=h.getD ys.length,h.getD ys.length<=ys.length]) else none
   |some (.ref k []),some n=>match tb k with
    |some (.arr r _)=>bif Nat.beq n (U.wd r.τ) then
      some (.cL (one (.sub k (U.wd r.τ) (l.getD 0).toNat (h.getD r.xs.length).toNat)) [0<=l.getD 0,l.getD 0<=h.getD r.xs.length,h.getD r.xs.length<=r.xs.length]) else none
    |some (.part r _)=>bif Nat.beq n (U.wd r.τ) then
      some (.cL (one (.sub k (U.wd r.τ) (l.getD 0).toNat (h.getD r.xs.length).toNat)) [0<=l.getD 0,l.getD 0<=h.getD r.xs.length,h.getD r.xs.length<=r.xs.length]) else none
    |_=>none
   |_,_=>none
def u9(tb:rl U)(aT:List Key)(want:List (Option U.Ty))(x:SV U):Option (List Prop×DV U):=
 match x with
 | .v ⟨false,[.ia cs]⟩=>some ([],.ptr cs)
 | .v ⟨false,[.ky k off]⟩=>match tb k with
  |some (.box cs)=>match plain cs with|some l=>some ([],.ptr (l.drop off))|none=>none
  |_=>none
 | .v ⟨false,[y]⟩=>match cellOf tb aT (want.head?.bind id) y with|some (ps,c)=>some (ps,.one c)|none=>none
 | .v ⟨true,cs⟩=>match cellsOf tb aT want cs with|some (ps,l)=>some (ps,.agg l)|none=>none
 |_=>none
def DA.dv:DA U->DV U
 |⟨false,[c]⟩=> .one c
 |⟨_,cs⟩=> .agg cs
noncomputable def ff(k:jY U)(qa:List (DV U))(ds:List (DA U)):Option Value:=
 match k.of (ds.map DA.dv++qa) with
 |some x=>match(k.nY x).val,(k.nY x).KW with
  |[.one (.lit v)],[]=>@ite _ (k.md.length=ds.length+qa.length/\∀p∈k.pre x,p) (Classical.propDecidable _) (some v) none
  |_,_=>none
 |none=>none
def u5(tb:rl U)(aT:List Key):List (AV U)->Option (List Prop×List (DV U))
 |[]=>some ([],[])
 |x::r=>match u9 tb aT [] (.v x),u5 tb aT r with
  |some (ps,d),some (qs,ds)=>some (ps++qs,d::ds)
  |_,_=>none
def rc:List Mode->Bool
 |[]=>true
 | .ro::r=>rc r
 |_=>false
def LS(tb:rl U)(aT:List Key)(want:List (Option U.Ty))(x:SV U):Option (List Prop×DV U):=
 match x with
 | .fn p=>some ([],.fn p)
 | .Hk g xs=>match E.Ql g,u5 tb aT xs with
  |some k,some (ps,ds)=>bif rc k.md&&Nat.ble xs.length k.md.length then some (ps,.fn (ff k ds)) else none
  |_,_=>none
 |x=>u9 tb aT want x
def No(x:AV U)(cs:List U.C):Option (DV U):=
 bif x.agg then some (.agg cs) else match cs with|[c]=>some (.one c)|_=>none
def jD(tb:rl U):List (AC U)->Option (List U.C×List Key)
 |[]=>some ([],[])
 | .c (.lit v)::r=>match jD tb r with|some (cs,ks)=>some (.lit v::cs,ks)|none=>none
 | .ref k []::r=>match tb k,jD tb r with
  |some (.arr a true),some (cs,ks)=>some (.sl a.τ a.xs::cs,k::ks)
  |_,_=>none
 |_=>none
def AC.still:AC U->Bool
 | .c _=>true
 | .e0=>true
 | .ref _ []=>true
 | .ky _ _=>true
 |_=>false
def mo(tb:rl U)(aT:List Key)(want:List (Option U.Ty))(m:Mode)(x:SV U):Option (List Prop×DV U×List Key):=
 match m,x with
 | .wr,.v ⟨false,[.ref k p]⟩=>match tb k with
  |some (.arr a true)=>bif fR tb aT k p then match walk p a with|some (ps,b)=>some (ps,.one (.sl b.τ b.xs),[k])|none=>none else none
  |_=>none
 | .wr,.v ⟨true,cs⟩=>match jD tb cs with
  |some (ds,ks)=>bif distinct ks then some ([],.agg ds,ks) else none
  |none=>none
 | .mv,.v y=>match fe tb want y.cs with
  |some (ps,cs,ks,true)=>match No y cs with
   |some d=>bif distinct ks then some (ps,d,ks) else none
   |none=>none
  |_=>none
 | .box true,.v ⟨false,[.ky k 0]⟩=>match tb k with
  |some (.box cs)=>bif Nat.ble want.length cs.length&&(cs.drop want.length).all AC.still then
    match fe tb want (cs.take want.length) with
    |some (ps,l,ks,true)=>bif distinct (k::ks) then some (ps,.box l,k::ks) else none
    |_=>none
   else none
  |_=>none
 | .box false,.v ⟨false,[.ky k 0]⟩=>match tb k with
  |some (.box cs)=>bif Nat.ble want.length cs.length&&(cs.drop want.length).all AC.still then
    match plain (cs.take want.length) with
    |some l=>some ([],.box l,[k])
    |none=>none
   else none
  |_=>none
 |_,_=>none
def u_(tb:rl U)(aT:List Key)(want:List (Option U.Ty))(m:Mode)(x:SV U):Option (List Prop×DV U):=
 match m with
 | .ro=>LS E tb aT want x
 |m=>match mo tb aT want m x with|some (ps,d,_)=>some (ps,d)|none=>none
def nQ(tb:rl U)(aT:List Key):List Mode->List (List (Option U.Ty))->List (SV U)->Option (List Prop×List (DV U))
 |[],_,[]=>some ([],[])
 |m::ms,ws,x::r=>
  match u_ E tb aT (ws.headD []) m x,nQ tb aT ms ws.tail r with
  |some (ps,d),some (qs,ds)=>some (ps++qs,d::ds)
  |_,_=>none
 |_,_,_=>none
def putCells(dst:Nat)(fresh:Bool)(base:Nat):List U.C->List (AC U)×List (Nat×iN U)
 |[]=>([],[])
 | .lit v::r=>(.c (.lit v)::(putCells dst fresh (base+1) r).1,(putCells dst fresh (base+1) r).2)
 | .sl τ xs::r=>bif fresh then(.ref (dst,base) []::(putCells dst fresh (base+1) r).1,(base,.arr ⟨τ,xs⟩ true)::(putCells dst fresh (base+1) r).2)
   else(.c (.sl τ xs)::(putCells dst fresh (base+1) r).1,(putCells dst fresh (base+1) r).2)
def KF(dst:Nat)(fresh:Bool)(base:Nat):DV U->Option (AV U×List (Nat×iN U))
 | .one c=>some (⟨false,(putCells dst fresh base [c]).1⟩,(putCells dst fresh base [c]).2)
 | .agg cs=>some (⟨true,(putCells dst fresh base cs).1⟩,(putCells dst fresh base cs).2)
 | .box cs=>bif fresh then some (⟨false,[.ky (dst,base) 0]⟩,[(base,.box (cs.map .c))]) else none
 | .ptr _=>none
 | .fn _=>none
def Ej(dst:Nat)(fs:List Bool)(base:Nat):List (DV U)->Option (List (AV U)×List (Nat×iN U))
 |[]=>some ([],[])
 |d::r=>match KF dst (fs.headD true) base d,Ej dst fs.tail (base+32) r with
  |some (x,e),some (xs,es)=>some (x::xs,e++es)
  |_,_=>none
def DV.safe(fresh:Bool):DV U->Bool
 | .one c=>fresh||wV [c]
 | .agg cs=>fresh||wV cs
 | .box _=>false
 | .ptr _=>false
 | .fn _=>false
def vt:List Bool->List (DV U)->Bool
 |_,[]=>true
 |fs,d::r=>d.safe (fs.headD true)&&vt fs.tail r
def Ad(ms:List Mode):Bool:=ms.any fun m=>match m with| .box false=>true|_=>false
def mz:List (AC U)->List U.C->Option (List (Key×iN U))
 |[],[]=>some []
 | .c (.lit _)::r,.lit _::cs=>mz r cs
 | .ref k []::r,.sl τ ys::cs=>match mz r cs with|some us=>some ((k,.arr ⟨τ,ys⟩ true)::us)|none=>none
 |_,_=>none
def ir(tb:rl U)(nI n:Nat)(m:Mode)(x:SV U)(dm:List (DV U)):Option (List (Key×iN U)×List (Nat×iN U)):=
 match m,x,dm with
 | .wr,.v ⟨false,[.ref k p]⟩,[.one (.sl τ ys)]=>match tb k with
  |some (.arr a true)=>match chg p a (fun b=>match jd b.τ ⟨τ,ys⟩ with|some zs=>some ⟨b.τ,zs⟩|none=>none) with
   |some a'=>some ([(k,.arr a' true)],[])
   |none=>none
  |_=>none
 | .wr,.v ⟨true,cs⟩,[.agg ds]=>match mz cs ds with|some us=>some (us,[])|none=>none
 | .mv,_,[]=>some ([],[])
 | .box true,.v ⟨false,[.ky k 0]⟩,[.box ds]=>match tb k with
  |some (.box cs)=>bif Nat.beq ds.length n then some ([(k,.box ((putCells nI true 512 ds).1++cs.drop n))],(putCells nI true 512 ds).2) else none
  |_=>none
 | .box false,.v ⟨false,[.ky k 0]⟩,[.box ds]=>match tb k with
  |some (.box cs)=>bif Nat.beq ds.length n then some ([(k,.box (ds.map .c++cs.drop n))],[]) else none
  |_=>none
 |_,_,_=>none
def BQ:Mode->List (DV U)->List (DV U)
 | .mv,_=>[]
 |_,ds=>ds.take 1
def xZ:Mode->List (DV U)->List (DV U)
 | .mv,ds=>ds
 |_,ds=>ds.drop 1
def mn(tb:rl U)(aT:List Key)(nI:Nat):List Mode->List (List (Option U.Ty))->List (SV U)->List (DV U)->Option (List (Key×iN U)×List (Nat×iN U)×List Key)
 |[],_,[],[]=>some ([],[],[])
 | .ro::ms,ws,_::r,ds=>mn tb aT nI ms ws.tail r ds
 |m::ms,ws,x::r,ds=>match mo tb aT (ws.headD []) m x,ir tb nI (ws.headD []).length m x (BQ m ds) with
  |some (_,_,ks),some (us,es)=>match mn tb aT nI ms ws.tail r (xZ m ds) with
   |some (QB,es',ks')=>bif distinct (ks++ks') then some (us++QB,es++es',ks++ks') else none
   |none=>none
  |_,_=>none
 |_,_,_,_=>none
def gb:List Mode->List (SV U)->List Key
 | .ro::ms,x::r=>x.keys++gb ms r
 |_::ms,_::r=>gb ms r
 |_,_=>[]
def nN:List Nat->Bool
 |[]=>true
 |n::r=> !(r.any (Nat.beq n))&&nN r
def Ef(tb:rl U)(n:Nat):List Mode->List (List (Option U.Ty))->List (SV U)->Bool
 |m::ms,ws,x::r=>(match m,x with
  | .box _,.v ⟨false,[.ky k _]⟩=>(match tb k with
   |some (.box cs)=>Nat.beq ((ws.headD []).length+n) cs.length
   |_=>false)
  | .box _,_=>false
  |_,_=>true)&&Ef tb n ms ws.tail r
 |_,_,_=>true
def As(tb:rl U)(aT:List Key)(dst:Nat)(k:jY U)(types:List TypeId)(xs:List (SV U)):Option (cn U):=
 match nQ E tb aT k.md (k.want (types.map E.zJ)) xs with
 |some (ps,ds)=>
  match k.of ds with
  |some x=>
   match mn tb aT dst k.md (k.want (types.map E.zJ)) xs (k.nY x).KW,Ej dst (k.nY x).fresh 0 (k.nY x).val with
   |some (us,eb,lk),some (vs,es)=>
    let lG:=(bif vt (k.nY x).fresh (k.nY x).val&& !(Ad k.md) then[] else gb k.md xs)++lk
    bif nN ((es++eb).map (·.1))&& !(lk.any fun u=>(gb k.md xs).any (iR u))&&Ef tb k.Ku k.md (k.want (types.map E.zJ)) xs then
     some ⟨some (match vs with|[v]=> .v v|vs=> .wv vs),es++eb,lG,us,ps++k.pre x⟩
    else none
   |_,_=>none
  |none=>none
 |none=>none
def H5(τ:U.Ty)(tb:rl U):AC U->Option (List Prop×List (U.T τ)×List Key×Bool)
 | .e0=>some ([],[],[],true)
 | .ref k []=>match tb k with
  |some (.arr a d)=>match jd τ a with|some ys=>some ([],ys,[k],d)|none=>none
  |_=>none
 | .c (.sl Gj ys)=>match jd τ ⟨Gj,ys⟩ with|some ys=>some ([],ys,[],U.flat τ)|none=>none
 |_=>none
def acj:AC U->AC U
 | .kn _ τ xs=> .c (.sl τ xs)
 |x=>x
def MY(τ:U.Ty)(tb:rl U)(x:AC U):Option (List Prop×List (U.T τ)×List Key×Bool):=H5 τ tb (acj x)
def BN(τ:U.Ty)(s:ByteArray):Option (List (U.T τ)):=jd τ ⟨U.pk,s.data.toList.map fun b=>U.ofB (b.toNat:Int)⟩
def uR(τ:U.Ty)(tb:rl U):AC U->Option (List Prop×List (U.T τ)×List Key×Bool)
 | .e0=>some ([],[],[],true)
 | .ref k []=>match tb k with
  |some (.arr a d)=>match jd τ a with|some ys=>some ([],ys,[k],d)|none=>none
  |some (.part a dead)=>match jd τ a with|some ys=>some ([∀i,i<ys.length->dead i=false],ys,[k],true)|none=>none
  |_=>none
 | .sub k _ 0 hi=>match tb k with
  |some (.arr a d)=>match jd τ a with|some ys=>some ([hi<=ys.length],ys.take hi,[k],d)|none=>none
  |_=>none
 |_=>none
def RQ(E:Env U)(op:BinOp)(t:TypeId)(y:Operand)(x:SV U):Option (cn U):=
 match op,y,x with
 | .eql,.const (.slice none _ _),.v ⟨false,[.kn b _ _]⟩=>match E.P.underlying t with|some (.slice _)=>some (.lit (.bool b))|_=>none
 |_,_,_=>none
def bL:Option Value->Bool
 |some (.bool b)=>b
 |_=>false
def intOf:Option Value->Int
 |some (.int _ n)=>n
 |_=>0
def Bn(tb:rl U)(aT:List Key):List (List (Option U.Ty))->List (SV U)->Option (List Prop×List (DA U))
 |_,[]=>some ([],[])
 |ws,x::r=>match u9 tb aT (ws.headD []) x,Bn tb aT ws.tail r with
  |some (ps,.one c),some (qs,ds)=>some (ps++qs,⟨false,[c]⟩::ds)
  |some (ps,.agg cs),some (qs,ds)=>some (ps++qs,⟨true,cs⟩::ds)
  |_,_=>none
def partOf(tb:rl U):AC U->Option (fu U)
 | .ref k []=>match tb k with
  |some (.part a _)=>some a
  |_=>none
 |_=>none
def MZ(tb:rl U)(dst:Nat)(agg:Bool)(n:Nat):AC U->Option (cn U)
 | .lN k [] i wd off=>match tb k with
  |some (.part a dead)=>bif (agg||Nat.beq n 1)&&Nat.ble (off+n) (U.wd a.τ)&&Nat.beq wd (U.wd a.τ) then
    let cs:=((U.enc a.τ (a.xs.getD i (U.e6 a.τ))).drop off).take n
    bif wV cs then some (.cL (.v ⟨agg,cs.map .c⟩) [i<a.xs.length,dead i=false])
    else bif Nat.blt n (U.wd a.τ) then some (.cL (.v ⟨agg,ic k [] i wd cs off⟩) [i<a.xs.length,dead i=false])
    else bif nN ((putCells dst true 0 cs).2.map (·.1)) then
     some ⟨some (.v ⟨agg,(putCells dst true 0 cs).1⟩),(putCells dst true 0 cs).2,[],[(k,.part a (fun j=>Nat.beq j i||dead j))],[i<a.xs.length,dead i=false]⟩
    else none
   else none
  |_=>none
 |_=>none
def EF(wd:Nat):List (SV U)->Bool
 |[]=>true
 | .v x::r=>Nat.beq x.cs.length wd&&EF wd r
 |_=>false
def HY(τ:U.Ty)(tb:rl U):AC U->Option (List (U.T τ)×List Key)
 | .ref k []=>match tb k with
  |some (.part a _)=>match jd τ a with|some ys=>some (ys,[k])|none=>none
  |_=>none
 |_=>none
def zH(tb:rl U)(x:AV U):AC U->Option (cn U)
 | .lN k [] i wd 0=>match tb k with
  |some (.part a dead)=>bif Nat.beq wd (U.wd a.τ)&&Nat.beq x.cs.length wd then
    match fe tb (HC (U.enc a.τ (a.xs.getD i (U.e6 a.τ)))) x.cs with
    |some (qs,ds,ks,true)=>match U.dec a.τ ds with
     |some y=>bif distinct (k::ks) then some ⟨none,[],ks,[(k,.part ⟨a.τ,a.xs.set i y⟩ (fun j=> !(Nat.beq j i)&&dead j))],qs++[i<a.xs.length]⟩ else none
     |none=>none
    |_=>none
   else none
  |_=>none
 |_=>none
def zI(tb:rl U)(x:AV U):AC U->Option (cn U)
 | .lN k [] i wd off=>match tb k,rU x.cs with
  |some (.part a dead),some vs=>bif Nat.beq wd (U.wd a.τ)&&Nat.ble (off+x.cs.length) wd then
    match HM off i (vs.map .lit) a with
    |some a'=>some ⟨none,[],[],[(k,.part a' dead)],[i<a.xs.length,dead i=false]⟩
    |none=>none
   else none
  |_,_=>none
 |_=>none
def Bp:List (SV U)->Option (List (AV U))
 |[]=>some []
 | .v x::r=>match Bp r with|some l=>some (x::l)|none=>none
 |_=>none
def EU(E:Env U)(tb:rl U)(aT:List Key)(t:TypeId)(types:List TypeId)(p:List (DA U)->Option Value)(xs:List (SV U)):Option (cn U):=
 match Bn tb aT (types.map E.zJ) xs with
 |some (ps,ds)=>match E.P.underlying t with
  |some .bool=>some (.lit (.bool (bL (p ds))) (ps++[p ds=some (.bool (bL (p ds)))]))
  |some (.int k)=>some (.lit (.int k (intOf (p ds))) (ps++[p ds=some (.int k (intOf (p ds)))]))
  |_=>none
 |none=>none
def Env.Wr(b:Bool)(f:FuncId):Option (jY U):=bif b then E.Qk f else E.Ql f
def Am(b:Bool)(tb:rl U)(aT:List Key)(o:Oper)(xs:List (SV U)):Option (cn U):=
 let dst:=o.dst.getD 1000000
 match o.op,xs with
 | .move _,[x]=>some (.cL x)
 | .assign _,[x]=>some (.cL x)
 | .unOp op _ _,[x]=>match iZ x with
  |some v=>(KZ op v).map (.lit ·)
  |none=>none
 | .binOp op t _ q _,[x,y]=>match iZ x,iZ y with
  |some a,some b=>(EC E t op a b).map fun(ps,v)=> .lit v ps
  |_,_=>match S5 E op t x y with|some r=>some r|none=>RQ E op t q x
 | .extract _ i,[.wv l]=>(l[i]?).map fun v=> .cL (.v v)
 | .alloc t,[]=>
  match(E.P.info? t).bind (·.zero) with
  |some z=>match sd (U:=U) z.cells with
   |some (.v x)=>some ⟨some (one (.ky (dst,0) 0)),[(0,.box x.cs)],[],[],[]⟩
   |_=>none
  |none=>none
 | .load t _,[x]=>match vd x,E.size t,E.isAgg t with
  |some a,some n,some g=>match(bif E.shl t then EA tb g n a else none) with
   |some r=>some r
   |none=>match loadAt tb aT g n a with
    |some r=>some r
    |none=>MZ tb dst g n a
  |_,_,_=>none
 | .store t _ _,[p,.v x]=>match vd p,E.size t with
  |some a,some n=>bif Nat.beq n x.cs.length then(match storeAt tb aT x a with
   |some r=>some r
   |none=>match zH tb x a with
    |some r=>some r
    |none=>zI tb x a) else none
  |_,_=>none
 | .fieldAddr t _ f,[x]=>match vd x,E.Wc t f with
  |some y,some (o,ft)=>match E.size ft with
   |some (_+1)=>match y with
    | .ia cs=>some (.cL (one (.ia (cs.drop o))))
    | .ky k off=>some (.cL (one (.ky k (off+o))))
    | .lN k p i wd off=>bif fR tb aT k p then some (.cL (one (.lN k p i wd (off+o)))) else none
    |_=>none
   |_=>none
  |_,_=>none
 | .field t _ f,[.v ⟨true,cs⟩]=>match E.Wc t f with
  |some (o,ft)=>match E.size ft,E.isAgg ft with
   |some n,some g=>bif Nat.ble (o+n) cs.length&&(g||Nat.beq n 1) then some (.cL (.v ⟨g,(cs.drop o).take n⟩)) else none
   |_,_=>none
  |none=>none
 | .build t parts,xs=>match E.places t,(E.P.info? t).bind (·.zero) with
  |some pl,some z=>match jN (U:=U) z.cells.toList with
   |some l=>match ii pl l (parts.toList.map (·.1)) xs with
    |some cs=>some (.cL (.v ⟨true,cs⟩))
    |none=>none
   |none=>none
  |_,_=>none
 | .buildSlice t len parts,xs=>match E.elem t with
  |some e=>match E.code e with
   |some τ=>bif (parts.toList.map (·.1)).length.beq len&&((parts.toList.map (·.1)).zipIdx).all (fun(a,b)=>Nat.beq a b)&&Nat.ble (len*U.wd τ) 1000000 then
     bif E.gg t dst (xs.flatMap SV.keys) then
      bif EF (U.wd τ) xs then some ⟨some (one (.ref (dst,0) [])),[(0,.part ⟨τ,List.replicate len (U.e6 τ)⟩ (fun _=>true))],[],[],[]⟩ else none
     else match rowsOf τ tb (E.shape 8 e) xs with
     |some (ps,rows,ks,d)=>bif distinct ks then some ⟨some (one (.ref (dst,0) [])),[(0,.arr ⟨τ,rows⟩ d)],ks,[],ps⟩ else none
     |none=>none
    else none
   |none=>none
  |none=>none
 | .makeSlice t _ _,[l,c]=>match E.elem t,iZ l,iZ c with
  |some e,some (.int .i64 n),some (.int .i64 m)=>match E.code e with
   |some τ=>some ⟨some (one (.ref (dst,0) [])),[(0,.arr ⟨τ,List.replicate n.toNat (U.e6 τ)⟩ true)],[],[],[0<=n,n=m,n<=4294967296]⟩
   |none=>none
  |_,_,_=>none
 | .indexAddr t _ _,[x,i]=>match iZ i,vd x,(E.elem t).bind E.size with
  |some (.int _ n),some y,some m=>match y with
   | .c (.sl τ ys)=>bif Nat.beq m (U.wd τ) then some (.cL (one (.ia (U.enc τ (ys.getD n.toNat (U.e6 τ))))) [0<=n,n.toNat<ys.length]) else none
   | .ref k p=>match rb tb aT (.ref k p) with
    |some (ps,a)=>bif Nat.beq m (U.wd a.τ) then some (.cL (one (.lN k p n.toNat (U.wd a.τ) 0)) (ps++[0<=n,n.toNat<a.xs.length])) else none
    |none=>match p,partOf tb (.ref k []) with
     |[],some a=>bif Nat.beq m (U.wd a.τ) then some (.cL (one (.lN k [] n.toNat (U.wd a.τ) 0)) [0<=n,n.toNat<a.xs.length]) else none
     |_,_=>none
   |_=>none
  |_,_,_=>none
 | .index t _ _,[x,i]=>match iZ x,iZ i,E.P.underlying t with
  |some (.string s),some (.int _ n),some .string=>some (.lit (.int .u8 ((s.data.toList.getD n.toNat 0).toNat:Int)) [0<=n,n.toNat<s.size])
  |_,_,_=>none
 | .slice t _ lo hi mx,x::bs=>match Hr lo bs with
  |some (l,bs1)=>match Hr hi bs1 with
   |some (h,bs2)=>match Hr mx bs2 with
    |some (m,[])=>vq E tb aT t x l h m
    |_=>none
   |none=>none
  |none=>none
 | .call {callee:=.builtin .len,argTypes,..},[x]=>match argTypes.toList with
  |[t]=>match iZ x with
   |some (.string s)=>match E.P.underlying t with
    |some .string=>some (.lit (.int .i64 s.size))
    |_=>none
   |some _=>none
   |none=>match vd x,E.elem t with
    |some .e0,some _=>some (.lit (.int .i64 0))
    |some a,some _=>match rb tb aT a with
     |some (ps,b)=>some (.lit (.int .i64 b.xs.length) ps)
     |none=>match partOf tb a with
      |some b=>some (.lit (.int .i64 b.xs.length))
      |none=>none
    |_,_=>none
  |_=>none
 | .call {callee:=.builtin .clear,argTypes,..},[x]=>match argTypes.toList with
  |[t]=>match E.elem t,vd x with
   |some e,some (.sub k wd lo hi)=>match E.code e,tb k with
    |some τ,some (.part a dead)=>bif Nat.beq wd (U.wd a.τ) then(match jd τ a with
     |some xs=>some ⟨some (.wv []),[],[],[(k,.part ⟨τ,xs⟩ (fun j=>dead j||Nat.ble lo j))],[lo<=hi,hi=xs.length]⟩
     |none=>none) else none
    |_,_=>none
   |_,_=>none
  |_=>none
 | .call {callee:=.builtin .min,..},[x,y]=>match iZ x,iZ y with
  |some (.int k a),some (.int k' b)=>bif decide (k=k') then some (.lit (.int k (if b<a then b else a))) else none
  |_,_=>none
 | .call {callee:=.builtin .max,..},[x,y]=>match iZ x,iZ y with
  |some (.int k a),some (.int k' b)=>bif decide (k=k') then some (.lit (.int k (if b>a then b else a))) else none
  |_,_=>none
 | .call {callee:=.builtin .append,argTypes,..},[s,x]=>
  match argTypes.toList with
  |[t,u]=>match E.elem t,E.elem u,vd s,vd x with
   |some e,some e',some s,some x=>bif Nat.beq t u&&Nat.beq e e' then
    match E.code e with
    |some τ=>
     match uR τ tb s,MY τ tb x with
     |some (ps,xs,ks,d),some (qs,ys,ks',d')=>
      bif distinct (ks++ks') then
       some ⟨some (one (.ref (dst,0) [])),[(0,.arr ⟨τ,xs++ys⟩ (d&&d'))],ks++ks',[],ps++qs++[xs.length+ys.length<=4294967296]⟩
      else none
     |some (ps,xs,ks,true),none=>match HY τ tb x with
      |some (ys,ks')=>bif distinct (ks++ks') then
        some ⟨some (one (.ref (dst,0) [])),[(0,.part ⟨τ,xs++ys⟩ (fun i=>Nat.ble xs.length i))],ks++ks',[],ps++[xs.length+ys.length<=4294967296]⟩
       else none
      |none=>none
     |_,_=>none
    |none=>none else none
   |some e,none,some s,some (.c (.lit (.string str)))=>match E.P.underlying u,E.code e with
    |some .string,some τ=>match uR τ tb s,BN τ str with
     |some (ps,xs,ks,d),some ys=>bif distinct ks then
       some ⟨some (one (.ref (dst,0) [])),[(0,.arr ⟨τ,xs++ys⟩ d)],ks,[],ps++[xs.length+ys.length<=4294967296]⟩ else none
     |_,_=>none
    |_,_=>none
   |_,_,_,_=>none
  |_=>none
 | .makeFunc (.func g) first _,xs=>bif first.isEmpty then(match Bp xs with|some l=>some (.cL (.Hk g l))|none=>none) else none
 | .call {callee:=.value (.tmp _),argTypes,..},.fn p::xs=>EU E tb aT o.type argTypes.toList p xs
 | .call {callee:=.value (.func f),argTypes,..},xs=>match E.Wr b f with
  |some k=>As E tb aT dst k argTypes.toList xs
  |none=>none
 | .box _ _,[.v x]=>bif u4 tb aT x.cs&&(x.agg||Nat.beq x.cs.length 1) then some ⟨some (one (.ky (dst,0) 0)),[(0,.box x.cs)],[],[],[]⟩ else none
 | .nilCheck _,[x]=>match vd x with
  |some (.ia _)=>some (.cL x)
  |some (.ky _ _)=>some (.cL x)
  |some (.lN k p _ _ _)=>bif fR tb aT k p then some (.cL x) else none
  |_=>none
 | .convert s d _,[x]=>match E.P.underlying d with
  |some (.int k)=>match E.P.underlying s,iZ x with
   |some (.int _),some (.int _ n)=>some (.lit (.int k (k.wrap n)))
   |_,_=>none
  |some .string=>match E.P.underlying s with
   |some (.slice e)=>match E.P.underlying e,vd x with
    |some (.int .u8),some .e0=>some (.lit (.string ByteArray.empty))
    |some (.int .u8),some y=>match rb tb aT y with
     |some (ps,b)=>match jd U.pk b with
      |some ys=>some (.lit (.string (strOfNums (ys.map U.WV))) ps)
      |none=>none
     |none=>none
    |_,_=>none
   |_=>none
  |_=>none
 |_,_=>none
def Oper.looks(o:Oper):List Operand:=
 match o.op with
 | .build _ ps=>ps.toList.map (·.2)
 | .buildSlice _ _ ps=>ps.toList.map (·.2)
 | .call c=>(match c.callee with| .value (.func _)=>[]| .builtin _=>[]| .value f=>[f]| .invoke r _=>[r])++c.args.toList
 |op=>op.operands.toList
def rD(σ:ak U)(o:Oper):Option (List (SV U)):=D7 ((Oper.looks o).map (MV σ))
def qW(σ:ak U)(o:Oper):Bool:=match o.dst with|some d=>Nat.blt d σ.n|none=>true
def Gu(x:Option (SV U)):Option Value:=match x with|some y=>iZ y|none=>none
def zP(σ:ak U)(x:Operand):Option Value:=Gu (MV σ x)
def kindOk(o:Oper):Bool:=match o.op with
 | .store _ _ _=>o.dst.isNone
 | .alloc _| .box _ _| .buildSlice _ _ _| .makeSlice _ _ _=>o.dst.isSome
 | .call c=>(match c.callee with| .builtin .clear=>true| .builtin _=>o.dst.isSome|_=>true)
 |_=>true
def step(b:Bool)(σ:ak U)(o:Oper):Option (cn U×List Key):=
 bif qW σ o&&kindOk o then
  match o.op with
  | .pick c a b=>
   match zP σ c with
   |some (.bool t)=>match(bif t then MV σ a else MV σ b) with
    |some x=>some (.cL x,[])
    |none=>none
   |_=>none
  |_=>match rD σ o with
   |some xs=>match Am E b (restrict σ.bO (pJ σ o xs)) σ.aT o xs with
    |some r=>some (r,pJ σ o xs)
    |none=>none
   |none=>none
 else none
def pO(dst:Nat)(l:List (Nat×iN U)):List (Key×Option (iN U)):=l.map fun(j,e)=>((dst,j),some e)
def apply(o:Oper)(r:cn U)(σ:ak U):ak U:=
 {σ with
  bM:=(match o.dst with|some d=>(d,r.val)::σ.bM|none=>σ.bM)
  oR:=pO (o.dst.getD 1000000) r.dR++r.jQ.map (fun(k,e)=>(k,some e))++r.lG.map (fun k=>(k,none))++σ.oR
  aT:=r.jQ.map (·.1)++σ.aT}
def zG:cn U:=⟨some (.wv []),[],[],[],[]⟩
structure Rec where
 i:Nat
 reads:List Key
 names:List Key
 writes:List Key
 news:List Key
def cn.news(dst:Nat)(r:cn U):List Key:=r.dR.map fun(j,_)=>(dst,j)
def cn.writes(dst:Nat)(r:cn U):List Key:=r.dR.map (fun(j,_)=>(dst,j))++r.lG++r.jQ.map (·.1)
def iN.names:iN U->List Key
 | .box cs=>cs.flatMap AC.keys
 | .arr _ _=>[]
 | .part _ _=>[]
def cn.names(r:cn U):List Key:=
 (match r.val with|some x=>x.keys|none=>[])++r.dR.flatMap (fun(_,e)=>e.names)++r.jQ.flatMap (fun(_,e)=>e.names)
def tc(dst:Nat)(r:cn U)(rs:List Rec):Bool:=r.dR.isEmpty||rs.all fun x=> !((x.reads++x.names++x.writes).any fun k=>Nat.beq k.1 dst)
def xg(o:Oper)(r:cn U):Bool:=r.dR.all fun(j,_)=>Nat.blt j 1024
def meet(a b:List Key):Bool:=a.any fun k=>b.any (iR k)
def anM(ops:List Oper):List Nat:=
 ops.foldl (fun acc o=>acc++[o.after.toList.foldl (fun m e=>bif Region.binds .any e then Nat.lor m (Nat.lor (Nat.shiftLeft 1 e.on) (acc.getD e.on 0)) else m) 0]) []
def yR(m i:Nat):Bool:=Nat.beq (Nat.land (Nat.shiftRight m i) 1) 1
def Ae(ops:List Oper)(o:Oper):List Nat:=
 match o.guard with
 |some (g,_)=>match ops[g]? with|some q=>q.dst.toList|none=>[]
 |none=>[]
def slotsOf(ops:List Oper)(o:Oper):List Nat:=
 (o.op.operands.toList.flatMap fun| .tmp t=>[t]|_=>[])++Ae ops o
def IK(ops:List Oper)(x y:Oper)(rx ry:Rec):Bool:=
 !(meet rx.writes (ry.reads++ry.writes))&& !(meet ry.writes rx.reads)&& !(meet rx.news ry.names)&&
 (match x.dst with|some d=> !((slotsOf ops y).any (Nat.beq d))&& !(y.dst.any (Nat.beq d))|none=>true)&&
 (match y.dst with|some d=> !((slotsOf ops x).any (Nat.beq d))|none=>true)
def WW(ops:List Oper):Bool:=ops.zipIdx.all fun(o,i)=>o.after.toList.all fun e=> !(Region.binds .any e)||Nat.blt e.on i
def Np(ops:List Oper)(acA:List Rec):Bool:=
 let an:=anM ops
 WW ops&&acA.all fun ry=>acA.all fun rx=>
  !(Nat.blt rx.i ry.i)||yR (an.getD ry.i 0) rx.i||
  (match ops[rx.i]?,ops[ry.i]? with|some x,some y=>IK ops x y rx ry|_,_=>false)
def guards(ops:List Oper)(i:Nat):Bool:=ops.any fun o=>match o.guard with|some (g,_)=>Nat.beq g i|none=>false
def Qt:List Prop->Prop->Prop
 |[],q=>q
 |p::ps,q=>p/\Qt ps q
def Tn(a b:Bool):Bool:=match a,b with|true,true=>true|false,false=>true|_,_=>false
def QT(i:Nat)(o:Oper)(σ:ak U)(rs:List Rec)(ks:List Key)(K:ak U->Rec->Prop)(r:cn U):Prop:=
 bif tc (o.dst.getD 1000000) r rs&&xg o r then K (apply o r σ) ⟨i,ks,r.names,r.writes (o.dst.getD 1000000),r.news (o.dst.getD 1000000)⟩ else False
def ZJ(r:cn U)(b:Bool):cn U:={r with val:=some (wk (.bool b))}
def Ka(alt:Bool)(ops:List Oper)(i:Nat)(o:Oper)(σ:ak U)(rs:List Rec)(K:ak U->Rec->Prop):Prop:=
 match step E alt σ o with
 |some (r,ks)=>
  Qt r.pre<|
  bif guards ops i then
   match Gu r.val with
   |some (.bool b)=>bif b then QT i o σ rs ks K (ZJ r true) else QT i o σ rs ks K (ZJ r false)
   |_=>False
  else QT i o σ rs ks K r
 |none=>False
def aeM(o:Oper):Bool:=match o.op with
 | .call {callee:=.value (.func f),..}=>(E.Qk f).isSome
 |_=>false
def J_(ops:List Oper)(i:Nat)(o:Oper)(σ:ak U)(rs:List Rec)(K:ak U->Rec->Prop):Prop:=
 bif aeM E o then Ka E false ops i o σ rs K\/Ka E true ops i o σ rs K else Ka E false ops i o σ rs K
def wpOps(ops:List Oper):List Oper->Nat->ak U->List Rec->(ak U->List Rec->Prop)->Prop
 |[],_,σ,rs,K=>K σ rs
 |o::rest,i,σ,rs,K=>
  match o.guard with
  |none=>J_ E ops i o σ rs fun me r=>wpOps ops rest (i+1) me (r::rs) K
  |some (g,want)=>
   match((ops[g]?).bind (·.dst)).bind σ.get with
   |some (.v x)=>match iZ (.v x) with
    |some (.bool b)=>bif Tn b want then J_ E ops i o σ rs fun me r=>wpOps ops rest (i+1) me (r::rs) K
     else bif qW σ o then wpOps ops rest (i+1) (apply o zG σ) (⟨i,[],[],[],[]⟩::rs) K else False
    |_=>False
   |some (.wv [])=>bif qW σ o then wpOps ops rest (i+1) (apply o zG σ) (⟨i,[],[],[],[]⟩::rs) K else False
   |_=>False
def SV.NN(bad:Key->Bool)(aT:List Key)(x:SV U):Bool:=
 x.Ca.any fun a=>a.keys.any bad||(match a with| .ref k p| .lN k p _ _ _=> !p.isEmpty&&aT.any (iR k)|_=>false)
def AC.uM(f:Key->Key):AC U->AC U
 | .ref k p=> .ref (f k) p
 | .sub k wd lo hi=> .sub (f k) wd lo hi
 | .lN k p i wd off=> .lN (f k) p i wd off
 | .ky k off=> .ky (f k) off
 |x=>x
def SV.uM(f:Key->Key):SV U->SV U
 | .v x=> .v ⟨x.agg,x.cs.map (AC.uM f)⟩
 | .wv xs=> .wv (xs.map fun x=>⟨x.agg,x.cs.map (AC.uM f)⟩)
 | .fn p=> .fn p
 | .Hk g xs=> .Hk g (xs.map fun x=>⟨x.agg,x.cs.map (AC.uM f)⟩)
def iN.uM(f:Key->Key):iN U->iN U
 | .box cs=> .box (cs.map (AC.uM f))
 |e=>e
def xF{β:Type}:List Nat->List (Nat×Option β)->List (Nat×Option β)
 |_,[]=>[]
 |seen,(s,v)::r=>bif seen.any (Nat.beq s) then xF seen r else match v with
  |some x=>(s,some x)::xF (s::seen) r
  |none=>xF (s::seen) r
def qJ{β:Type}:List Key->List (Key×Option β)->List (Key×Option β)
 |_,[]=>[]
 |seen,(s,v)::r=>bif seen.any (iR s) then qJ seen r else match v with
  |some x=>(s,some x)::qJ (s::seen) r
  |none=>qJ (s::seen) r
def tT(bad:Key->Bool)(σ:ak U):ak U:=
 let ok (x:SV U):Bool:= !(x.NN (fun k=>bad k||(eJ σ.oR k).isNone) σ.aT)
 {σ with
  bM:=(xF [] σ.bM).filter fun(_,v)=>match v with|some (.wv [])=>false|some x=>ok x|none=>false
  oR:=(qJ [] σ.oR).filter fun(k,e)=> !(bad k)&&(match e with|some (.box cs)=>ok (.v ⟨true,cs⟩)|_=>true)
  aT:=[]}
def acz(d:Nat)(x:SV U):List (Key×Key):=
 (x.Ca.zipIdx).flatMap fun(a,j)=>match a with
  | .ref k []| .sub k _ _ _| .ky k _=>[(k,(d,1024+j))]
  |_=>[]
def wU(l:List (Key×Key))(k:Key):Key:=
 match l with
 |[]=>k
 |(a,b)::r=>bif iR a k then b else wU r k
def rename(l:List (Key×Key))(σ:ak U):ak U:=
 {σ with
  bM:=σ.bM.map fun(s,v)=>(s,v.map (SV.uM (wU l)))
  oR:=σ.oR.map fun(k,e)=>(wU l k,e.map (iN.uM (wU l)))}
def rQ(l0:List (Key×Key))(σ:ak U):ak U:=
 let l:=l0.filter fun(a,b)=> !(iR a b)&& !(Nat.ble 2000000 a.1&&Nat.blt a.2 1024)
 bif l.isEmpty|| !(distinct (l.map (·.1)))|| !(distinct (l.map (·.2)))|| !(l.all fun(_,b)=>Nat.ble 1024 b.2) then σ else
  let tgt:=l.map (·.2)
  rename l (tT (fun k=>tgt.any (iR k)) σ)
def sM(d:Nat)(σ:ak U):ak U:=
 match σ.get d with
 |some x=>rQ (acz d x) σ
 |none=>σ
def ZN(k:Key)(cs:List (AC U)):List (Key×Key):=
 cs.zipIdx.flatMap fun(a,j)=>match a with
  | .ref q []| .sub q _ _ _=>[(q,(k.1,4096*(k.2+1)+j))]
  |_=>[]
def xJ(k:Key)(σ:ak U):ak U:=
 match σ.bO k with
 |some (.box cs)=>rQ (ZN k cs) σ
 |_=>σ
def boxes(σ:ak U):List Key:=σ.oR.flatMap fun(k,e)=>match e with|some (.box _)=>[k]|_=>[]
inductive qz where
 |slot (s j:Nat)
 |box (k:Key) (j:Nat)
def qz.key:qz->Key
 | .slot s j=>(s,1024+j)
 | .box k j=>(k.1,4096*(k.2+1)+j)
def PI:Option (AC U)->Bool
 |some .e0=>true
 |_=>false
def unnamed(k:Key)(σ:ak U):Bool:=
 (σ.bM.all fun(_,v)=>match v with|some x=> !(x.keys.any (iR k))|none=>true)&&
 (σ.oR.all fun(_,e)=>match e with|some (.box cs)=> !(cs.any fun a=>a.keys.any (iR k))|_=>true)
def PB(p:qz)(τ:U.Ty×Bool)(σ:ak U):ak U:=
 bif (eJ σ.oR p.key).isNone&&unnamed p.key σ&&Nat.ble 1024 p.key.2 then
  match p with
  | .slot s j=>match σ.get s with
   |some (.v x)=>bif PI x.cs[j]? then
     {σ with bM:=(s,some (.v ⟨x.agg,x.cs.set j (.ref p.key [])⟩))::σ.bM,oR:=(p.key,some (.arr ⟨τ.1,[]⟩ τ.2))::σ.oR} else σ
   |_=>σ
  | .box k j=>match σ.bO k with
   |some (.box cs)=>bif PI cs[j]? then
     {σ with oR:=(p.key,some (.arr ⟨τ.1,[]⟩ τ.2))::(k,some (.box (cs.set j (.ref p.key []))))::σ.oR} else σ
   |_=>σ
 else σ
def qP(k0:Key)(σ:ak U):ak U:=
 match σ.bO k0 with
 |some (.arr a true)=>{σ with oR:=(k0,some (.part a fun _=>false))::σ.oR}
 |_=>σ
def parts(l:List Key)(σ:ak U):ak U:=l.foldl (fun σ k=>qP k σ) σ
def D6(k0:Key)(σ:ak U):ak U:=
 match σ.bO k0 with
 |some (.arr a true)=>{σ with oR:=(k0,some (.arr a false))::σ.oR,aT:=k0::σ.aT}
 |_=>σ
def PA(p:qz)(τ:U.Ty)(σ:ak U):ak U:=
 match p with
 | .slot s j=>match σ.get s with
  |some (.v x)=>bif PI x.cs[j]? then{σ with bM:=(s,some (.v ⟨x.agg,x.cs.set j (.c (.sl τ []))⟩))::σ.bM} else σ
  |_=>σ
 | .box k j=>match σ.bO k with
  |some (.box cs)=>bif PI cs[j]? then{σ with oR:=(k,some (.box (cs.set j (.c (.sl τ [])))))::σ.oR} else σ
  |_=>σ
def Pz:List (qz×U.Ty×Option Bool)->ak U->ak U
 |[],σ=>σ
 |(p,τ,some d)::r,σ=>Pz r (PB p (τ,d) σ)
 |(p,τ,none)::r,σ=>Pz r (PA p τ σ)
def assigned(ops:List Oper):List Nat:=ops.flatMap fun o=>match o.op with| .assign _=>o.dst.toList|_=>[]
def jH(σ:ak U):ak U:=tT (fun _=>false) σ
def NO(l:List Key)(σ:ak U):ak U:=match l with
 |[]=>σ
 |k::l=>jH ((k::l).foldl (fun σ k=>D6 k σ) σ)
def xI(l:List Key)(σ:ak U):ak U:=l.foldl (fun σ k=>xJ k σ) σ
def settle(ops:List Oper)(σ:ak U):ak U:=
 let σ1:=(assigned ops).foldl (fun σ d=>sM d σ) (jH σ)
 xI (boxes σ1) σ1
def BI(ops:List Oper):List Nat:=ops.flatMap fun o=>o.dst.toList
def enter(ops:List Oper)(σ:ak U):ak U:=let ds:=BI ops;tT (fun k=>(ds.any (Nat.beq k.1)||Nat.beq k.1 1000000)&&Nat.blt k.2 1024) σ
def Ir(k0:Key)(c:U.C):AC U->AC U
 | .ref k []=>bif iR k k0 then .c c else .ref k []
 |x=>x
def Nf(k0:Key)(c:U.C):SV U->SV U
 | .v x=> .v ⟨x.agg,x.cs.map (Ir k0 c)⟩
 |x=>x
def Lh(k0:Key)(c:U.C):iN U->iN U
 | .box cs=> .box (cs.map (Ir k0 c))
 |e=>e
def l7(k0:Key)(σ:ak U):ak U:=
 match σ.bO k0 with
 |some (.arr a _)=>{σ with
   bM:=σ.bM.map fun(s,v)=>(s,v.map (Nf k0 (.sl a.τ a.xs)))
   oR:=(k0,none)::σ.oR.map fun(k,e)=>(k,e.map (Lh k0 (.sl a.τ a.xs)))}
 |_=>σ
def tf(s:Nat)(σ:ak U):ak U:=
 match σ.get s with
 |some (.v ⟨_,[.ref k []]⟩)=>l7 k σ
 |_=>σ
def qV(l:List Nat)(σ:ak U):ak U:=l.foldl (fun σ s=>tf s σ) σ
def N4(E:Env U)(ops:List Oper):List Nat:=ops.flatMap fun o=>match o.op with
 | .call {callee:=.value (.func f),args,..}=>match E.Ql f with
  |some k=>bif Ad k.md then(k.md.zip args.toList).flatMap fun(m,q)=>match m,q with
    | .ro,.tmp t=>ops.flatMap fun p=>match p.dst,p.op with
     |some d,.move (.tmp v)=>bif Nat.beq d t then[v] else[]
     |_,_=>[]
    |_,_=>[] else[]
  |none=>[]
 |_=>[]
def sa(l:List Key)(σ:ak U):ak U:=l.foldl (fun σ k=>l7 k σ) σ
def rootOf(ops:List Oper)(t:Nat):Nat:=match ops.find? (fun p=>p.dst.any (Nat.beq t)) with
 |some p=>match p.op with
  | .move (.tmp v)=>v
  |_=>t
 |none=>t
def Oq(ops:List Oper)(σ:ak U):List Key:=ops.flatMap fun o=>match o.op with
 | .makeFunc _ _ qa=>qa.toList.flatMap fun q=>match q with
  | .tmp t=>match σ.get (rootOf ops t) with
   |some (.v ⟨_,[.ky k _]⟩)=>match σ.bO k with
    |some (.box cs)=>cs.flatMap fun c=>match c with
     | .ref q []=>[q]
     |_=>[]
    |_=>[]
   |_=>[]
  |_=>[]
 |_=>[]
def E0(E:Env U)(ops:List Oper)(σ:ak U):ak U:=sa (Oq ops (qV (N4 E ops) (enter ops σ))) (qV (N4 E ops) (enter ops σ))
def xB(ops:List Oper)(draw:Bool)(σ:ak U)(K:ak U->Prop):Prop:=
 wpOps E ops ops 0 (E0 E ops σ) [] fun me rs=>bif !draw||Np ops rs then K (settle ops me) else False
inductive Out (U:lz) where
 |normal (σ:ak U)
 |exit (id:Nat) (σ:ak U)
 |ret (σ:ak U)
structure ul(U:lz) where
 X:Type
 bM:X->List (Nat×SV U)
 dH:X->List (Key×iN U)
 un:ak U->(X->Prop)->Prop
 nil:List (qz×U.Ty×Option Bool)
 frz:List Nat
 frk:List Key
 shk:List Key
 prt:List Key
 I:X->X->Prop
 μ:X->Nat
 all:(X->Prop)->Prop
 aeN:∀P,all P->∀y,P y
 names:List Nat
 inn:∀x,∀p∈bM x,p.1∈names
 nin:∀p∈nil,∀s j,p.1=qz.slot s j->s∈names
 law:∀σ K,un σ K->∃x,K x/\(∀p∈bM x,σ.get p.1=some p.2)/\(∀p∈dH x,σ.bO p.1=some p.2)
def uG(l:List Nat)(σ:ak U):ak U:=l.foldl (fun σ d=>sM d σ) σ
def Q3(σ:ak U):ak U:=xI (boxes σ) σ
def F6(A:ul U)(σ:ak U):ak U:=parts A.prt<|Pz A.nil (sa A.frk (qV A.frz (NO A.shk (jH (Q3 (uG A.names (jH σ)))))))
def iE:Code->Option Nat
 | .region id _ _=>some id
 | .seq a b=>match iE a with|some i=>some i|none=>iE b
 | .cond _ a b=>match iE a with|some i=>some i|none=>iE b
 | .block _ b=>iE b
 | .loop b=>iE b
 |_=>none
def abG(r:Nat)(c:Code):Bool:=match iE c with
 |some i=>Nat.beq i r
 |none=>false
def Qh(r:Nat):Code->Option (Code×Code)
 | .seq a b=>bif abG r b then some (a,b) else match Qh r b with
  |some p=>some (.seq a p.1,p.2)
  |none=>none
 |_=>none
def abE(r:Nat)(c:Code):Code:=match Qh r c with
 |some p=>p.1
 |none=> .skip
def abD(r:Nat)(c:Code):Code:=match Qh r c with
 |some p=>p.2
 |none=> .skip
def mr(A:ul U)(wr:List Nat)(σ:ak U)(x:A.X):ak U:=
 ⟨σ.n,
  (A.bM x).map (fun(s,v)=>(s,some v))++
   ((xF [] σ.bM).filter fun(s,v)=> !(wr.any (Nat.beq s))&& !(A.names.any (Nat.beq s))&&(match v with|some (.v y)=>(SV.v y).keys.isEmpty|some (.fn _)=>true|_=>false)),
  (A.dH x).map fun(k,e)=>(k,some e),
  []⟩
variable(oG:Nat->Option (ul U))
def gH:Code->List Nat
 | .region _ ops _=>BI ops.toList
 | .seq a b=>gH a++gH b
 | .cond _ a b=>gH a++gH b
 | .block _ b=>gH b
 | .loop b=>gH b++(match(iE b).bind oG with|some A=>A.names|none=>[])
 |_=>[]
def wp:Code->ak U->(Out U->Prop)->Prop
 | .skip,σ,Q=>Q (.normal σ)
 | .seq a b,σ,Q=>wp a σ fun
  | .normal me=>wp b me Q
  |o=>Q o
 | .cond c t e,σ,Q=>match zP σ c with
  |some (.bool b)=>bif b then wp t σ Q else wp e σ Q
  |_=>False
 | .block id c,σ,Q=>wp c σ fun
  | .exit id' me=>bif Nat.beq id' id then Q (.normal me) else Q (.exit id' me)
  |o=>Q o
 | .loop c,σ,Q=>match(iE c).bind oG with
  |some A=>A.un (F6 A σ) fun x=>A.I x x/\
    A.all fun y=>A.I x y->wp c (mr A (gH oG c) σ y) fun
     | .normal me=>A.un (F6 A me) fun z=>A.I x z/\A.μ z<A.μ y
     |o=>Q o
  |none=>False
 | .exit id,σ,Q=>Q (.exit id σ)
 | .ret,σ,Q=>Q (.ret σ)
 | .region _ ops draw,σ,Q=>xB E ops.toList draw σ fun me=>Q (.normal me)
 |_,_,_=>False
end
end
end AM
