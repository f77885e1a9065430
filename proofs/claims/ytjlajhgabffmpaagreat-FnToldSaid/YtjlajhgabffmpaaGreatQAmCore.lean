/- THE ABSTRACT MACHINE: a weakest precondition over the model's Code, on typed data. Definitions only. -/
import Derived.Calls
import Derived.Orders
import Derived.Laws.AppendOwn
import Derived.Below
import Derived.Laws.BytesArg
namespace AM
theorem cI:type_of% @List.mem_cons_of_mem:=@List.mem_cons_of_mem
theorem gB:type_of% @List.mem_cons_self:=@List.mem_cons_self
theorem eX:type_of% @List.getD_eq_getElem?_getD:=@List.getD_eq_getElem?_getD
theorem fH:type_of% @List.getElem?_eq_getElem:=@List.getElem?_eq_getElem
theorem gJ:type_of% @Option.some.injEq:=@Option.some.injEq
theorem cO:type_of% @Bool.and_eq_true:=@Bool.and_eq_true
theorem m8:type_of% @Option.isSome_iff_exists:=@Option.isSome_iff_exists
theorem iu:type_of% @Bool.cond_eq_ite:=@Bool.cond_eq_ite
theorem nc:type_of% @Nat.eq_of_beq_eq_true:=@Nat.eq_of_beq_eq_true
theorem ox:type_of% @List.getElem?_eq_none:=@List.getElem?_eq_none
theorem kf:type_of% @List.mem_cons:=@List.mem_cons
theorem nO:type_of% @List.getElem?_map:=@List.getElem?_map
theorem vh:type_of% @List.getElem?_cons_zero:=@List.getElem?_cons_zero
theorem qa:type_of% @List.getElem?_take:=@List.getElem?_take
theorem jO:type_of% @List.mem_append:=@List.mem_append
theorem zu:type_of% @List.getElem?_append_right:=@List.getElem?_append_right
theorem xx:type_of% @List.getElem?_append_left:=@List.getElem?_append_left
theorem sh:type_of% @List.mem_append_left:=@List.mem_append_left
theorem rb:type_of% @List.mem_append_right:=@List.mem_append_right
theorem ow:type_of% @List.mem_flatMap:=@List.mem_flatMap
theorem mF:type_of% @List.mem_singleton:=@List.mem_singleton
theorem rz:type_of% @List.nodup_append:=@List.nodup_append
theorem oz:type_of% @List.length_take:=@List.length_take
theorem pb:type_of% @Prod.mk.injEq:=@Prod.mk.injEq
theorem pq:type_of% @List.mem_range:=@List.mem_range
theorem l_:type_of% @List.mem_map:=@List.mem_map
theorem pa:type_of% @Nat.lt_or_ge:=@Nat.lt_or_ge
theorem vg:type_of% @List.any_eq_true:=@List.any_eq_true
theorem AI:type_of% @Nat.mul_le_mul_right:=@Nat.mul_le_mul_right
theorem ra:type_of% @Bool.not_eq_true':=@Bool.not_eq_true'
theorem tS:type_of% @List.nodup_cons:=@List.nodup_cons
theorem Mg:type_of% @List.length_modify:=@List.length_modify
theorem xt:type_of% @Bool.false_eq_true:=@Bool.false_eq_true
theorem FU:type_of% @List.eq_nil_of_length_eq_zero:=@List.eq_nil_of_length_eq_zero
theorem p_:type_of% @Bool.false_and:=@Bool.false_and
theorem wl:type_of% @Bool.not_eq_true:=@Bool.not_eq_true
theorem sn:type_of% @List.getElem_of_mem:=@List.getElem_of_mem
theorem Gn:type_of% @List.mem_of_getElem?:=@List.mem_of_getElem?
theorem zt:type_of% @List.flatMap_cons:=@List.flatMap_cons
theorem FT:type_of% @Array.length_toList:=@Array.length_toList
theorem fG:type_of% @List.length_nil:=@List.length_nil
theorem zbp:type_of% @Int.tmod_eq_emod_of_nonneg:=@Int.tmod_eq_emod_of_nonneg
theorem fY:type_of% @List.length_cons:=@List.length_cons
theorem xw:type_of% @List.append_assoc:=@List.append_assoc
theorem tI:type_of% @Bool.and_false:=@Bool.and_false
theorem wb:type_of% @List.map_cons:=@List.map_cons
theorem JZ:type_of% @Nat.le_of_ble_eq_true:=@Nat.le_of_ble_eq_true
theorem Hu:type_of% @List.getElem?_drop:=@List.getElem?_drop
theorem vf:type_of% @Nat.zero_add:=@Nat.zero_add
theorem Mt:type_of% @Array.getElem?_toList:=@Array.getElem?_toList
theorem QY:type_of% @Array.getD_eq_getD_getElem?:=@Array.getD_eq_getD_getElem?
theorem Ms:type_of% @List.flatten_cons:=@List.flatten_cons
theorem tR:type_of% @Nat.le_refl:=@Nat.le_refl
theorem sk:type_of% @List.all_eq_true:=@List.all_eq_true
theorem Mf:type_of% @List.flatten_append:=@List.flatten_append
theorem FR:type_of% @Option.map_some:=@Option.map_some
theorem kI:type_of% @List.length_append:=@List.length_append
theorem NO:type_of% @List.not_mem_nil:=@List.not_mem_nil
theorem zr:type_of% @List.mem_filter:=@List.mem_filter
theorem xr:type_of% @List.append_nil:=@List.append_nil
theorem xv:type_of% @Nat.add_mul:=@Nat.add_mul
theorem Gm:type_of% @Option.getD_some:=@Option.getD_some
theorem wk:type_of% @Bool.true_and:=@Bool.true_and
theorem NN:type_of% @List.getElem?_range:=@List.getElem?_range
theorem FM:type_of% @Bool.eq_iff_iff:=@Bool.eq_iff_iff
theorem FL:type_of% @Bool.or_eq_true:=@Bool.or_eq_true
theorem xp:type_of% @List.length_map:=@List.length_map
theorem QL:type_of% @Bool.or_eq_false_iff:=@Bool.or_eq_false_iff
theorem UB:type_of% @List.take_append_drop:=@List.take_append_drop
theorem QK:type_of% @List.map_congr_left:=@List.map_congr_left
theorem Me:type_of% @List.length_drop:=@List.length_drop
theorem O6:type_of% @List.flatMap_def:=@List.flatMap_def
theorem Md:type_of% @List.length_set:=@List.length_set
theorem JV:type_of% @Nat.add_zero:=@Nat.add_zero
theorem Gl:type_of% @Bool.false_or:=@Bool.false_or
theorem Um:type_of% @List.ext_getElem?:=@List.ext_getElem?
theorem Ul:type_of% @List.take_of_length_le:=@List.take_of_length_le
theorem zcz:type_of% @List.take_succ_eq_append_getElem:=@List.take_succ_eq_append_getElem
theorem FJ:type_of% @List.getElem_mem:=@List.getElem_mem
theorem BE:type_of% @Bool.and_true:=@Bool.and_true
theorem Mr:type_of% @List.sum_cons:=@List.sum_cons
theorem zdd:type_of% @List.cons.injEq:=@List.cons.injEq
theorem xo:type_of% @Nat.le_trans:=@Nat.le_trans
theorem Uk:type_of% @Option.getD_none:=@Option.getD_none
theorem zdg:type_of% @List.nodup_iff_pairwise_ne:=@List.nodup_iff_pairwise_ne
theorem WJ:type_of% @List.getElem?_set:=@List.getElem?_set
theorem WI:type_of% @List.Sublist.refl:=@List.Sublist.refl
theorem WH:type_of% @List.size_toArray:=@List.size_toArray
theorem zdk:type_of% @Array.getElem?_eq_getElem:=@Array.getElem?_eq_getElem
theorem QX:type_of% @Nat.add_assoc:=@Nat.add_assoc
theorem zdm:type_of% @List.eq_nil_iff_forall_not_mem:=@List.eq_nil_iff_forall_not_mem
theorem JU:type_of% @Nat.beq_eq:=@Nat.beq_eq
theorem QW:type_of% @List.any_map:=@List.any_map
theorem zdp:type_of% @List.getElem?_set_self:=@List.getElem?_set_self
theorem Y0:type_of% @List.mem_flatten:=@List.mem_flatten
theorem QV:type_of% @List.all_cons:=@List.all_cons
theorem zds:type_of% @Nat.lt_of_lt_of_le:=@Nat.lt_of_lt_of_le
theorem Mq:type_of% @List.length_filter_le:=@List.length_filter_le
theorem YZ:type_of% @List.nodup_nil:=@List.nodup_nil
theorem UA:type_of% @List.pairwise_iff_getElem:=@List.pairwise_iff_getElem
theorem QU:type_of% @Nat.one_mul:=@Nat.one_mul
theorem YY:type_of% @Option.some.inj:=@Option.some.inj
theorem zdy:type_of% @Option.bind_eq_some_iff:=@Option.bind_eq_some_iff
theorem zdz:type_of% @List.getElem?_replicate:=@List.getElem?_replicate
theorem Uz:type_of% @Bool.not_false:=@Bool.not_false
theorem zeb:type_of% @List.find?_eq_none:=@List.find?_eq_none
theorem Uy:type_of% @Nat.mul_comm:=@Nat.mul_comm
theorem zed:type_of% @List.getElem?_toArray:=@List.getElem?_toArray
theorem zee:type_of% @List.length_replicate:=@List.length_replicate
theorem Mp:type_of% @List.map_append:=@List.map_append
theorem Ux:type_of% @List.any_cons:=@List.any_cons
theorem QT:type_of% @Bool.or_false:=@Bool.or_false
theorem YX:type_of% @List.getElem?_modify:=@List.getElem?_modify
theorem zej:type_of% @List.getElem?_zipIdx:=@List.getElem?_zipIdx
theorem zek:type_of% @List.getElem?_set_ne:=@List.getElem?_set_ne
theorem Uj:type_of% @List.drop_eq_getElem_cons:=@List.drop_eq_getElem_cons
theorem zem:type_of% @List.sublist_append_right:=@List.sublist_append_right
theorem zen:type_of% @List.flatMap_nil:=@List.flatMap_nil
theorem zeo:type_of% @Array.toList_map:=@Array.toList_map
theorem Ui:type_of% @List.flatMap_append:=@List.flatMap_append
theorem QS:type_of% @Nat.ble_eq:=@Nat.ble_eq
theorem zer:type_of% @List.sublist_append_left:=@List.sublist_append_left
theorem QR:type_of% @List.all_nil:=@List.all_nil
theorem zet:type_of% @List.sum_append:=@List.sum_append
theorem YW:type_of% @Int.toNat_natCast:=@Int.toNat_natCast
theorem YV:type_of% @Nat.sub_self:=@Nat.sub_self
theorem zew:type_of% @Nat.add_comm:=@Nat.add_comm
theorem zex:type_of% @List.cons_append:=@List.cons_append
theorem zey:type_of% @List.flatten_nil:=@List.flatten_nil
theorem zez:type_of% @Nat.div_eq_of_lt:=@Nat.div_eq_of_lt
theorem WG:type_of% @Bool.not_true:=@Bool.not_true
set_option linter.unusedVariables false
noncomputable section
open Go
inductive Cell (Ty:Type) (T:Ty->Type) where
 |lit (v:Value)
 |sl (τ:Ty) (xs:List (T τ))
structure lu where
 Ty:Type
 T:Ty->Type
 deq:DecidableEq Ty
 wd:Ty->Nat
 enc:(τ:Ty)->T τ->List (Cell Ty T)
 dec:(τ:Ty)->List (Cell Ty T)->Option (T τ)
 fq:(τ:Ty)->T τ
 flat:Ty->Bool
 la:∀τ,0<wd τ
 dK:∀τ x,(enc τ x).length=wd τ
 mQ:∀τ cs x,dec τ cs=some x->enc τ x=cs
 Oq:∀τ,flat τ=true->∀x c,c∈enc τ x->∃v,c=.lit v
 o9:Ty
 WN:T o9->Int
 ofB:Int->T o9
 NT:∀n,WN (ofB n)=n
 Ha:∀x,enc o9 x=[.lit (.int .u8 (WN x))]
abbrev lu.C(U:lu):=Cell U.Ty U.T
structure jh(U:lu) where
 τ:U.Ty
 xs:List (U.T τ)
abbrev Key:=Nat×Nat
abbrev Path:=List (Nat×Nat×Nat)
inductive AC (U:lu) where
 |c (x:U.C)
 |e0
 |ref (k:Key) (p:Path)
 |sub (k:Key) (wd lo hi:Nat)
 |lK (k:Key) (p:Path) (i wd off:Nat)
 |kH (k:Key) (off:Nat)
 |ia (cs:List U.C)
 |kn (b:Bool) (τ:U.Ty) (xs:List (U.T τ))
structure AV(U:lu) where
 agg:Bool
 cs:List (AC U)
structure DA(U:lu) where
 agg:Bool
 cs:List U.C
inductive SV (U:lu) where
 |v (x:AV U)
 |wm (xs:List (AV U))
 |fn (p:List (DA U)->Option Value)
 |He (g:FuncId) (pT:List (AV U))
inductive i_ (U:lu) where
 |arr (a:jh U) (deep:Bool)
 |box (cs:List (AC U))
 |part (a:jh U) (dead:Nat->Bool)
structure ai(U:lu) where
 n:Nat
 bI:List (Nat×Option (SV U))
 oy:List (Key×Option (i_ U))
 aN:List Key
def look{β:Type}(l:List (Nat×Option β))(s:Nat):Option β:=
 match l with
 |[]=>none
 |(t,v)::r=>bif Nat.beq t s then v else look r s
def jb(a b:Key):Bool:=Nat.beq a.1 b.1&&Nat.beq a.2 b.2
def eZ{β:Type}(l:List (Key×Option β))(k:Key):Option β:=
 match l with
 |[]=>none
 |(t,v)::r=>bif jb t k then v else eZ r k
def ai.get{U:lu}(σ:ai U)(s:Nat):Option (SV U):=look σ.bI s
def ai.bM{U:lu}(σ:ai U)(k:Key):Option (i_ U):=eZ σ.oy k
inductive DV (U:lu) where
 |one (c:U.C)
 |agg (cs:List U.C)
 |box (cs:List U.C)
 |ptr (cs:List U.C)
 |fn (p:List (DA U)->Option Value)
inductive Mode where
 |ro|wr|mv
 |box (own:Bool)
 deriving DecidableEq
structure Res(U:lu) where
 val:List (DV U)
 fresh:List Bool
 M0:List (DV U)
structure kz(U:lu) where
 α:Type
 md:List Mode
 of:List (DV U)->Option α
 ds:α->List (DV U)
 pre:α->List Prop
 pj:α->Res U
 law:∀l x,of l=some x->ds x=l
 Kl:Nat:=0
 cut:Nat:=0
def kz.want{U:lu}(k:kz U)(ws:List (List (Option U.Ty))):List (List (Option U.Ty)):=match k.cut with
 |0=>ws
 |n+1=>ws.map (List.take (n+1))
structure Env(U:lu) where
 P:Program
 tid:U.Ty->TypeId
 code:TypeId->Option U.Ty
 Qu:FuncId->Option (kz U)
 Qt:FuncId->Option (kz U):=fun _=>none
 Zp:List (Nat×Array Value):=[]
 gx:TypeId->Nat->List Key->Bool:=fun _ _ _=>false
 shl:TypeId->Bool:=fun _=>false
section
variable{U:lu}(E:Env U)
def Env.isAgg(t:TypeId):Option Bool:=match E.P.underlying t with|some (.struct _)=>some true|some (.array _ _)=>some true|some _=>some false|none=>none
def Env.size(t:TypeId):Option Nat:=(E.P.info? t).map (·.size)
def Env.elem(t:TypeId):Option TypeId:=match E.P.underlying t with|some (.slice e)=>some e|_=>none
def Env.V'(t:TypeId)(f:Nat):Option (Nat×TypeId):=match E.P.underlying t with|some (.struct fs)=>(fs[f]?).map fun f=>(f.offset,f.type)|_=>none
def Env.shape:Nat->TypeId->List (Option U.Ty)
 |0,_=>[]
 |d+1,t=>match E.P.underlying t with
  |some (.struct fs)=>fs.toList.flatMap fun f=>Env.shape d f.type
  |some (.slice e)=>[E.code e]
  |_=>[none]
def Env.zD(t:TypeId):List (Option U.Ty):=match E.P.underlying t with
 |some (.pointer e)=>E.shape 8 e
 |_=>E.shape 8 t
def walk:Path->jh U->Option (List Prop×jh U)
 |[],a=>some ([],a)
 |(i,wd,j)::p,a=>
  bif Nat.beq wd (U.wd a.τ) then
   match(U.enc a.τ (a.xs.getD i (U.fq a.τ)))[j]? with
   |some (.sl τ xs)=>match walk p ⟨τ,xs⟩ with
    |some (ps,b)=>some ((i<a.xs.length)::ps,b)
    |none=>none
   |_=>none
  else none
def WS(τ:U.Ty)(g:List U.C->List U.C)(x:U.T τ):U.T τ:=match U.dec τ (g (U.enc τ x)) with|some y=>y|none=>x
def HY(τ:U.Ty)(xs:List (U.T τ))(i:Nat)(g:List U.C->List U.C):List (U.T τ):=xs.modify i (WS τ g)
theorem acO{τ:U.Ty}{xs:List (U.T τ)}{i:Nat}{g:List U.C->List U.C}{y:U.T τ}(h:U.dec τ (g (U.enc τ (xs.getD i (U.fq τ))))=some y):HY τ xs i g=xs.set i y:=by
 unfold HY
 refine Um fun j=> ?_
 rw[YX,WJ]
 by_cases hj:i=j
 ·subst hj
  rw[if_pos rfl]
  by_cases hi:i<xs.length
  ·rw[if_pos hi,fH hi]
   rw[eX,fH hi] at h
   simp only[Gm] at h
   simp[WS,h]
  ·rw[if_neg hi,ox (by omega)];rfl
 ·rw[if_neg hj]
  simp[hj]
def chg:Path->jh U->(jh U->Option (jh U))->Option (jh U)
 |[],a,f=>f a
 |(i,_,j)::p,a,f=>
  let cs:=U.enc a.τ (a.xs.getD i (U.fq a.τ))
  match cs[j]? with
  |some (.sl τ xs)=>
   match chg p ⟨τ,xs⟩ f with
   |some b=>match U.dec a.τ (cs.set j (.sl b.τ b.xs)) with
    |some _=>some ⟨a.τ,HY a.τ a.xs i (fun cs=>cs.set j (.sl b.τ b.xs))⟩
    |none=>none
   |none=>none
  |_=>none
def jo(τ:U.Ty)(a:jh U):Option (List (U.T τ)):=
 match U.deq a.τ τ with
 | .isTrue h=>some (h▸a.xs)
 | .isFalse _=>none
abbrev qW(U:lu):=Key->Option (i_ U)
structure cm(U:lu) where
 val:Option (SV U)
 eo:List (Nat×i_ U)
 lD:List Key
 jY:List (Key×i_ U)
 pre:List Prop
def cm.cP(v:SV U)(pre:List Prop:=[]):cm U:=⟨some v,[],[],[],pre⟩
def one(x:AC U):SV U:=.v ⟨false,[x]⟩
def we(v:Value):SV U:=one (.c (.lit v))
def cm.lit(v:Value)(pre:List Prop:=[]):cm U:=.cP (we v) pre
def fW(tb:qW U)(aN:List Key)(k:Key)(p:Path):Bool:=p.isEmpty||((tb k).isSome&& !(aN.any (jb k)))
def E8(tb:qW U)(aN:List Key):AC U->Bool
 | .ref k p=>fW tb aN k p
 | .lK k p _ _ _=>fW tb aN k p
 |_=>true
def uS(tb:qW U)(aN:List Key)(cs:List (AC U)):Bool:=cs.all (E8 tb aN)
def qN(tb:qW U)(aN:List Key):AC U->Option (List Prop×jh U)
 | .c (.sl τ xs)=>some ([],⟨τ,xs⟩)
 | .kn _ τ xs=>some ([],⟨τ,xs⟩)
 | .ref k p=>match tb k with
  |some (.arr a _)=>bif fW tb aN k p then walk p a else none
  |_=>none
 | .sub k wd lo hi=>match tb k with
  |some (.arr a _)=>bif Nat.beq wd (U.wd a.τ) then some ([hi<=a.xs.length],⟨a.τ,(a.xs.take hi).drop lo⟩) else none
  |_=>none
 |_=>none
def As(tb:qW U)(aN:List Key):AC U->Option (List Prop×jh U)
 | .ref k ((i,wd,j)::p)=>match tb k with
  |some (.part a dead)=>bif fW tb aN k ((i,wd,j)::p) then(match walk ((i,wd,j)::p) a with|some (ps,b)=>some ((dead i=false)::ps,b)|none=>none) else none
  |_=>none
 |_=>none
def cellOf(tb:qW U)(aN:List Key)(want:Option U.Ty):AC U->Option (List Prop×U.C)
 | .c x=>some ([],x)
 | .e0=>match want with|some τ=>some ([],.sl τ [])|none=>none
 |x=>match qN tb aN x with
  |some (ps,a)=>some (ps,.sl a.τ a.xs)
  |none=>match As tb aN x with
   |some (ps,a)=>some (ps,.sl a.τ a.xs)
   |none=>none
def cellsOf(tb:qW U)(aN:List Key):List (Option U.Ty)->List (AC U)->Option (List Prop×List U.C)
 |_,[]=>some ([],[])
 |ws,x::r=>
  match cellOf tb aN (ws.head?.bind id) x,cellsOf tb aN ws.tail r with
  |some (ps,c),some (qs,cs)=>some (ps++qs,c::cs)
  |_,_=>none
def um(tb:qW U)(want:Option U.Ty):AC U->Option (List Prop×U.C×List Key×Bool)
 | .c (.lit v)=>some ([],.lit v,[],true)
 | .c (.sl τ xs)=>some ([],.sl τ xs,[],false)
 | .e0=>match want with|some τ=>some ([],.sl τ [],[],true)|none=>none
 | .ref k []=>match tb k with
  |some (.arr a d)=>some ([],.sl a.τ a.xs,[k],d)
  |some (.part a dead)=>some ([∀i,i<a.xs.length->dead i=false],.sl a.τ a.xs,[k],true)
  |_=>none
 | .sub k _ 0 hi=>match tb k with
  |some (.arr a d)=>some ([hi<=a.xs.length],.sl a.τ (a.xs.take hi),[k],d)
  |some (.part a dead)=>some ([hi<=a.xs.length,∀i,i<hi->dead i=false],.sl a.τ (a.xs.take hi),[k],true)
  |_=>none
 |_=>none
def fu(tb:qW U):List (Option U.Ty)->List (AC U)->Option (List Prop×List U.C×List Key×Bool)
 |_,[]=>some ([],[],[],true)
 |ws,x::r=>
  match um tb (ws.head?.bind id) x,fu tb ws.tail r with
  |some (ps,c,ks,d),some (qs,cs,ks',d')=>some (ps++qs,c::cs,ks++ks',d&&d')
  |_,_=>none
def distinct:List Key->Bool
 |[]=>true
 |k::r=> !(r.any (jb k))&&distinct r
def Et(t:TypeId)(op:BinOp)(x y:Value):Option (List Prop×Value):=
 match x,y with
 | .int k a,.int k' b=>
  match op with
  | .shl=>some ([0<=b],.int k (k.wrap (a*2^(min b.toNat k.bits))))
  | .shr=>some ([0<=b],.int k (a.fdiv (2^(min b.toNat k.bits))))
  |op=>bif decide (k=k') then(match op with
   | .add=>some ([],.int k (k.wrap (a+b)))
   | .sub=>some ([],.int k (k.wrap (a-b)))
   | .mul=>some ([],.int k (k.wrap (a*b)))
   | .quo=>some ([b≠0],.int k (k.wrap (a.tdiv b)))
   | .rem=>some ([b≠0],.int k (a.tmod b))
   | .and=>some ([],.int k (k.wrap (BitVec.ofInt k.bits a&&&BitVec.ofInt k.bits b).toNat))
   | .or=>some ([],.int k (k.wrap (BitVec.ofInt k.bits a|||BitVec.ofInt k.bits b).toNat))
   | .xor=>some ([],.int k (k.wrap (BitVec.ofInt k.bits a^^^BitVec.ofInt k.bits b).toNat))
   | .eql=>some ([],.bool (a==b))
   | .neq=>some ([],.bool (a !=b))
   | .lss=>some ([],.bool (decide (a<b)))
   | .leq=>some ([],.bool (decide (a<=b)))
   | .gtr=>some ([],.bool (decide (a>b)))
   | .geq=>some ([],.bool (decide (a≥b)))
   |_=>none) else none
 | .string a,.string b=>
  match op with
  | .add=>some ([(a.size+b.size:Nat)<=(4611686018427387904:Nat)],.string (a++b))
  | .eql=>some ([],.bool (a.toList==b.toList))
  | .neq=>some ([],.bool (!(a.toList==b.toList)))
  | .lss=>some ([],.bool (Op.bytesLess a.toList b.toList))
  | .leq=>some ([],.bool (Op.bytesLess a.toList b.toList||a.toList==b.toList))
  | .gtr=>some ([],.bool (!(Op.bytesLess a.toList b.toList||a.toList==b.toList)))
  | .geq=>some ([],.bool (!(Op.bytesLess a.toList b.toList)))
  |_=>none
 | .bool a,.bool b=>
  match E.P.underlying t with
  |some .bool=>match op with
   | .eql=>some ([],.bool (a==b))
   | .neq=>some ([],.bool (!(a==b)))
   |_=>none
  |_=>none
 |_,_=>none
def Env.Nv:Nat->TypeId->List Value->List Value->Option Bool
 |0,_,_,_=>none
 |d+1,t,xs,ys=>match E.P.underlying t with
  |some (.struct fs)=>bif E.P.stoodInHeld t then none else
    fs.toList.foldr (fun f acc=>match E.size f.type,E.isAgg f.type,acc with
     |some n,some g,some r=>bif f.name != "_" &&Nat.ble (f.offset+n) xs.length&&Nat.ble (f.offset+n) ys.length&&(g||Nat.beq n 1) then
       (match Env.Nv d f.type ((xs.drop f.offset).take n) ((ys.drop f.offset).take n) with
       |some b=>some (b&&r)
       |none=>none) else none
     |_,_,_=>none) (some true)
  |some .bool=>match xs,ys with|[.bool a],[.bool b]=>some (a==b)|_,_=>none
  |some (.int _)=>match xs,ys with|[.int k a],[.int k' b]=>bif decide (k=k') then some (a==b) else none|_,_=>none
  |some .string=>match xs,ys with|[.string a],[.string b]=>some (a.toList==b.toList)|_,_=>none
  |_=>none
def rJ:List (AC U)->Option (List Value)
 |[]=>some []
 | .c (.lit v)::r=>match rJ r with|some l=>some (v::l)|none=>none
 |_=>none
def S7(op:BinOp)(t:TypeId)(x y:SV U):Option (cm U):=match x,y with
 | .v ⟨true,xs⟩,.v ⟨true,ys⟩=>match rJ xs,rJ ys with
  |some us,some vs=>match E.isAgg t with
   |some true=>bif E.P.eqGuardType E.P.depth t then none else(match op,E.Nv 8 t us vs with
    | .eql,some b=>some (cm.lit (.bool b))
    | .neq,some b=>some (cm.lit (.bool (!b)))
    |_,_=>none)
   |_=>none
  |_,_=>none
 |_,_=>none
def KQ(op:UnOp)(x:Value):Option Value:=
 match op,x with
 | .neg,.int k n=>some (.int k (k.wrap (0-n)))
 | .not,.bool b=>some (.bool (!b))
 |_,_=>none
def po:Value->Option (AC U)
 | .slice none 0 0=>some .e0
 | .pointer none=>some (.c (.lit (.pointer none)))
 | .int k n=>bif decide (k.min<=n)&&decide (n<=k.max) then some (.c (.lit (.int k n))) else none
 | .bool b=>some (.c (.lit (.bool b)))
 | .string s=>bif Nat.ble s.size 9223372036854775807 then some (.c (.lit (.string s))) else none
 |_=>none
def jW:List Value->Option (List (AC U))
 |[]=>some []
 |v::r=>match po v,jW r with
  |some x,some l=>some (x::l)
  |_,_=>none
def rT(cs:Array Value):Option (SV U):=match jW cs.toList with|some l=>some (.v ⟨true,l⟩)|none=>none
def Ir:Value->Option (SV U)
 | .agg cs=>rT cs
 |v=>match po v with|some x=>some (one x)|none=>none
def MW(σ:ai U):Operand->Option (SV U)
 | .tmp t=>σ.get t
 | .const v=>Ir v
 | .global _=>none
 | .func g=>some (.He g [])
def AC.keys:AC U->List Key
 | .c _| .e0| .ia _| .kn _ _ _=>[]
 | .ref k _| .sub k _ _ _| .lK k _ _ _ _| .kH k _=>[k]
def SV.B7:SV U->List (AC U)
 | .v x=>x.cs
 | .wm xs=>xs.flatMap (·.cs)
 | .fn _=>[]
 | .He _ xs=>xs.flatMap (·.cs)
def SV.keys(x:SV U):List Key:=x.B7.flatMap AC.keys
def ai.B4(σ:ai U)(k:Key):List Key:=
 match σ.bM k with
 |some (.box cs)=>cs.flatMap AC.keys
 |_=>[]
def reach(σ:ai U)(xs:List (SV U)):List Key:=
 let ks:=xs.flatMap SV.keys
 ks++ks.flatMap σ.B4
def N5(o:Oper):Bool:=match o.op with
 | .nilCheck _=>true
 | .fieldAddr _ _ _=>true
 |_=>false
def NR(o:Oper):Bool:=match o.op with
 | .move _=>true
 | .assign _=>true
 |_=>false
def pz(σ:ai U)(o:Oper)(xs:List (SV U)):List Key:=bif NR o then[] else bif N5 o then xs.flatMap SV.keys else reach σ xs
def restrict(tb:qW U)(ks:List Key):qW U:=fun k=>bif ks.any (jb k) then tb k else none
def ig(k:Key)(p:Path)(i wd:Nat):List U.C->Nat->List (AC U)
 |[],_=>[]
 | .lit v::r,j=> .c (.lit v)::ig k p i wd r (j+1)
 | .sl _ _::r,j=> .ref k (p++[(i,wd,j)])::ig k p i wd r (j+1)
def loadAt(tb:qW U)(aN:List Key)(agg:Bool)(n:Nat)(x:AC U):Option (cm U):=
 bif agg||Nat.beq n 1 then
  match x with
  | .ia cs=>bif Nat.ble n cs.length then some (.cP (.v ⟨agg,(cs.take n).map .c⟩)) else none
  | .kH k off=>match tb k with
   |some (.box cs)=>bif Nat.ble (off+n) cs.length then some (.cP (.v ⟨agg,(cs.drop off).take n⟩)) else none
   |_=>none
  | .lK k p i wd off=>match tb k with
   |some (.arr a _)=>bif fW tb aN k p then
     match walk p a with
     |some (ps,b)=>
      bif Nat.ble (off+n) (U.wd b.τ)&&Nat.beq wd (U.wd b.τ) then
       some (.cP (.v ⟨agg,ig k p i wd (((U.enc b.τ (b.xs.getD i (U.fq b.τ))).drop off).take n) off⟩) (ps++[i<b.xs.length]))
      else none
     |none=>none
    else none
   |_=>none
  |_=>none
 else none
def Ep(tb:qW U)(agg:Bool)(n:Nat):AC U->Option (cm U)
 | .lK k [] i wd off=>match tb k with
  |some (.arr a false)=>bif (agg||Nat.beq n 1)&&Nat.ble (off+n) (U.wd a.τ)&&Nat.beq wd (U.wd a.τ) then
    some (.cP (.v ⟨agg,(((U.enc a.τ (a.xs.getD i (U.fq a.τ))).drop off).take n).map .c⟩) [i<a.xs.length]) else none
  |_=>none
 |_=>none
def Hv:List U.C->List (Option U.Ty)
 |[]=>[]
 | .sl τ _::r=>some τ::Hv r
 | .lit _::r=>none::Hv r
def HD(off i:Nat)(ds:List U.C)(b:jh U):Option (jh U):=
 let cs:=U.enc b.τ (b.xs.getD i (U.fq b.τ))
 match U.dec b.τ (cs.take off++ds++cs.drop (off+ds.length)) with
 |some y=>some ⟨b.τ,bif Nat.beq ds.length (U.wd b.τ) then b.xs.set i y else HY b.τ b.xs i (fun cs=>cs.take off++ds++cs.drop (off+ds.length))⟩
 |none=>none
theorem ZG(off i:Nat)(ds:List U.C)(b:jh U):HD off i ds b=match U.dec b.τ ((U.enc b.τ (b.xs.getD i (U.fq b.τ))).take off++ds++(U.enc b.τ (b.xs.getD i (U.fq b.τ))).drop (off+ds.length)) with|some y=>some ⟨b.τ,b.xs.set i y⟩|none=>none:=by
 unfold HD
 simp only
 split
 ·rename_i y h
  cases Nat.beq ds.length (U.wd b.τ)
  ·simp only[cond_false];rw[acO h]
  ·rfl
 ·rfl
def storeAt(tb:qW U)(aN:List Key)(x:AV U):AC U->Option (cm U)
 | .kH k off=>match tb k with
  |some (.box cs)=>bif Nat.ble (off+x.cs.length) cs.length then
    some ⟨none,[],[],[(k,.box (cs.take off++x.cs++cs.drop (off+x.cs.length)))],[]⟩ else none
  |_=>none
 | .lK k p i wd off=>match tb k with
  |some (.arr a d)=>bif fW tb aN k p then
    match walk p a with
    |some (ps,b)=>match fu tb (Hv ((U.enc b.τ (b.xs.getD i (U.fq b.τ))).drop off)) x.cs with
     |some (qs,ds,ks,d')=>match chg p a (HD off i ds) with
      |some a'=>bif Nat.beq wd (U.wd b.τ)&&Nat.ble (off+ds.length) (U.wd b.τ)&&distinct (k::ks)&&((d&&d')||p.isEmpty) then
        some ⟨none,[],ks,[(k,.arr a' (d&&d'))],ps++qs++[i<b.xs.length]⟩ else none
      |none=>none
     |none=>none
    |none=>none
   else none
  |_=>none
 |_=>none
def plain:List (AC U)->Option (List U.C)
 |[]=>some []
 | .c x::r=>match plain r with|some l=>some (x::l)|none=>none
 |_=>none
def wT:List U.C->Bool
 |[]=>true
 | .lit _::r=>wT r
 |_=>false
def rowsOf(τ:U.Ty)(tb:qW U)(want:List (Option U.Ty)):List (SV U)->Option (List Prop×List (U.T τ)×List Key×Bool)
 |[]=>some ([],[],[],true)
 | .v x::r=>
  match fu tb want x.cs,rowsOf τ tb want r with
  |some (ps,cs,ks,d),some (qs,xs,ks',d')=>
   match U.dec τ cs with
   |some y=>some (ps++qs,y::xs,ks++ks',d&&d')
   |none=>none
  |_,_=>none
 |_=>none
def Env.MT(t:TypeId):Option (List (Nat×Nat)):=match E.P.underlying t with
 |some (.struct fs)=>fs.toList.mapM (fun f=>(E.P.info? f.type).map fun i=>(f.offset,i.size))
 |_=>none
def il(pl:List (Nat×Nat))(cells:List (AC U)):List Nat->List (SV U)->Option (List (AC U))
 |[],[]=>some cells
 |f::fs,.v x::r=>match pl[f]? with
  |some (off,n)=>bif Nat.beq x.cs.length n&&Nat.ble (off+n) cells.length then il pl (cells.take off++x.cs++cells.drop (off+n)) fs r else none
  |none=>none
 |_,_=>none
def jj :SV U->Option Value
 | .v ⟨false,[.c (.lit v)]⟩=>some v
 |_=>none
def u5 :SV U->Option (AC U)
 | .v ⟨false,[x]⟩=>some x
 |_=>none
def DY{α:Type}:List (Option α)->Option (List α)
 |[]=>some []
 |some x::r=>match DY r with|some l=>some (x::l)|none=>none
 |none::_=>none
def Hl:Option Operand->List (SV U)->Option (Option Int×List (SV U))
 |none,bs=>some (none,bs)
 |some _,b::bs=>match jj b with
  |some (.int _ n)=>some (some n,bs)
  |_=>none
 |some _,[]=>none
def vl(tb:qW U)(aN:List Key)(t:TypeId)(x:SV U)(l h m:Option Int):Option (cm U):=
 match m with
 |some mm=>match h,u5 x,(E.elem t).bind E.size with
  |some hh,some y,some _=>match qN tb aN y with
   |some (ps,_)=>some (.cP (one .e0) (ps++[mm=0,hh=0,l.getD 0=0]))
   |none=>match y with
    | .e0=>some (.cP (one .e0) [mm=0,hh=0,l.getD 0=0])
    |_=>none
  |_,_,_=>none
 |none=>match jj x with
  |some (.string s)=>match E.P.underlying t with
   |some .string=>some (.lit (.string (s.extract (l.getD 0).toNat (h.getD s.size).toNat)) [0<=l.getD 0,l.getD 0<=h.getD s.size,h.getD s.size<=s.size])
   |_=>none
  |some _=>none
  |none=>match u5 x,(E.elem t).bind E.size with
   |some (.c (.sl τ ys)),some n=>bif Nat.beq n (U.wd τ) then
     some (.cP (one (.c (.sl τ ((ys.take (h.getD ys.length).toNat).drop (l.getD 0).toNat)))) [0<=l.getD 0,l.getD 0<=h.getD ys.length,h.getD ys.length<=ys.length]) else none
   |some (.ref k []),some n=>match tb k with
    |some (.arr r _)=>bif Nat.beq n (U.wd r.τ) then
      some (.cP (one (.sub k (U.wd r.τ) (l.getD 0).toNat (h.getD r.xs.length).toNat)) [0<=l.getD 0,l.getD 0<=h.getD r.xs.length,h.getD r.xs.length<=r.xs.length]) else none
    |some (.part r _)=>bif Nat.beq n (U.wd r.τ) then
      some (.cP (one (.sub k (U.wd r.τ) (l.getD 0).toNat (h.getD r.xs.length).toNat)) [0<=l.getD 0,l.getD 0<=h.getD r.xs.length,h.getD r.xs.length<=r.xs.length]) else none
    |_=>none
   |_,_=>none
def uW(tb:qW U)(aN:List Key)(want:List (Option U.Ty))(x:SV U):Option (List Prop×DV U):=
 match x with
 | .v ⟨false,[.ia cs]⟩=>some ([],.ptr cs)
 | .v ⟨false,[.kH k off]⟩=>match tb k with
  |some (.box cs)=>match plain cs with|some l=>some ([],.ptr (l.drop off))|none=>none
  |_=>none
 | .v ⟨false,[y]⟩=>match cellOf tb aN (want.head?.bind id) y with|some (ps,c)=>some (ps,.one c)|none=>none
 | .v ⟨true,cs⟩=>match cellsOf tb aN want cs with|some (ps,l)=>some (ps,.agg l)|none=>none
 |_=>none
def DA.dv:DA U->DV U
 |⟨false,[c]⟩=> .one c
 |⟨_,cs⟩=> .agg cs
noncomputable def gL(k:kz U)(pT:List (DV U))(ds:List (DA U)):Option Value:=
 match k.of (ds.map DA.dv++pT) with
 |some x=>match(k.pj x).val,(k.pj x).M0 with
  |[.one (.lit v)],[]=>@ite _ (k.md.length=ds.length+pT.length/\∀p∈k.pre x,p) (Classical.propDecidable _) (some v) none
  |_,_=>none
 |none=>none
def uT(tb:qW U)(aN:List Key):List (AV U)->Option (List Prop×List (DV U))
 |[]=>some ([],[])
 |x::r=>match uW tb aN [] (.v x),uT tb aN r with
  |some (ps,d),some (qs,ds)=>some (ps++qs,d::ds)
  |_,_=>none
def qP:List Mode->Bool
 |[]=>true
 | .ro::r=>qP r
 |_=>false
def LU(tb:qW U)(aN:List Key)(want:List (Option U.Ty))(x:SV U):Option (List Prop×DV U):=
 match x with
 | .fn p=>some ([],.fn p)
 | .He g xs=>match E.Qu g,uT tb aN xs with
  |some k,some (ps,ds)=>bif qP k.md&&Nat.ble xs.length k.md.length then some (ps,.fn (gL k ds)) else none
  |_,_=>none
 |x=>uW tb aN want x
def Nx(x:AV U)(cs:List U.C):Option (DV U):=
 bif x.agg then some (.agg cs) else match cs with|[c]=>some (.one c)|_=>none
def jP(tb:qW U):List (AC U)->Option (List U.C×List Key)
 |[]=>some ([],[])
 | .c (.lit v)::r=>match jP tb r with|some (cs,ks)=>some (.lit v::cs,ks)|none=>none
 | .ref k []::r=>match tb k,jP tb r with
  |some (.arr a true),some (cs,ks)=>some (.sl a.τ a.xs::cs,k::ks)
  |_,_=>none
 |_=>none
def AC.still:AC U->Bool
 | .c _=>true
 | .e0=>true
 | .ref _ []=>true
 | .kH _ _=>true
 |_=>false
def mf(tb:qW U)(aN:List Key)(want:List (Option U.Ty))(m:Mode)(x:SV U):Option (List Prop×DV U×List Key):=
 match m,x with
 | .wr,.v ⟨false,[.ref k p]⟩=>match tb k with
  |some (.arr a true)=>bif fW tb aN k p then match walk p a with|some (ps,b)=>some (ps,.one (.sl b.τ b.xs),[k])|none=>none else none
  |_=>none
 | .wr,.v ⟨true,cs⟩=>match jP tb cs with
  |some (ds,ks)=>bif distinct ks then some ([],.agg ds,ks) else none
  |none=>none
 | .mv,.v y=>match fu tb want y.cs with
  |some (ps,cs,ks,true)=>match Nx y cs with
   |some d=>bif distinct ks then some (ps,d,ks) else none
   |none=>none
  |_=>none
 | .box true,.v ⟨false,[.kH k 0]⟩=>match tb k with
  |some (.box cs)=>bif Nat.ble want.length cs.length&&(cs.drop want.length).all AC.still then
    match fu tb want (cs.take want.length) with
    |some (ps,l,ks,true)=>bif distinct (k::ks) then some (ps,.box l,k::ks) else none
    |_=>none
   else none
  |_=>none
 | .box false,.v ⟨false,[.kH k 0]⟩=>match tb k with
  |some (.box cs)=>bif Nat.ble want.length cs.length&&(cs.drop want.length).all AC.still then
    match plain (cs.take want.length) with
    |some l=>some ([],.box l,[k])
    |none=>none
   else none
  |_=>none
 |_,_=>none
def uX(tb:qW U)(aN:List Key)(want:List (Option U.Ty))(m:Mode)(x:SV U):Option (List Prop×DV U):=
 match m with
 | .ro=>LU E tb aN want x
 |m=>match mf tb aN want m x with|some (ps,d,_)=>some (ps,d)|none=>none
def nK(tb:qW U)(aN:List Key):List Mode->List (List (Option U.Ty))->List (SV U)->Option (List Prop×List (DV U))
 |[],_,[]=>some ([],[])
 |m::ms,ws,x::r=>
  match uX E tb aN (ws.headD []) m x,nK tb aN ms ws.tail r with
  |some (ps,d),some (qs,ds)=>some (ps++qs,d::ds)
  |_,_=>none
 |_,_,_=>none
def putCells(dst:Nat)(fresh:Bool)(base:Nat):List U.C->List (AC U)×List (Nat×i_ U)
 |[]=>([],[])
 | .lit v::r=>(.c (.lit v)::(putCells dst fresh (base+1) r).1,(putCells dst fresh (base+1) r).2)
 | .sl τ xs::r=>bif fresh then(.ref (dst,base) []::(putCells dst fresh (base+1) r).1,(base,.arr ⟨τ,xs⟩ true)::(putCells dst fresh (base+1) r).2)
   else(.c (.sl τ xs)::(putCells dst fresh (base+1) r).1,(putCells dst fresh (base+1) r).2)
def Kx(dst:Nat)(fresh:Bool)(base:Nat):DV U->Option (AV U×List (Nat×i_ U))
 | .one c=>some (⟨false,(putCells dst fresh base [c]).1⟩,(putCells dst fresh base [c]).2)
 | .agg cs=>some (⟨true,(putCells dst fresh base cs).1⟩,(putCells dst fresh base cs).2)
 | .box cs=>bif fresh then some (⟨false,[.kH (dst,base) 0]⟩,[(base,.box (cs.map .c))]) else none
 | .ptr _=>none
 | .fn _=>none
def D_(dst:Nat)(fs:List Bool)(base:Nat):List (DV U)->Option (List (AV U)×List (Nat×i_ U))
 |[]=>some ([],[])
 |d::r=>match Kx dst (fs.headD true) base d,D_ dst fs.tail (base+32) r with
  |some (x,e),some (xs,es)=>some (x::xs,e++es)
  |_,_=>none
def DV.safe(fresh:Bool):DV U->Bool
 | .one c=>fresh||wT [c]
 | .agg cs=>fresh||wT cs
 | .box _=>false
 | .ptr _=>false
 | .fn _=>false
def vn:List Bool->List (DV U)->Bool
 |_,[]=>true
 |fs,d::r=>d.safe (fs.headD true)&&vn fs.tail r
def z_(ms:List Mode):Bool:=ms.any fun m=>match m with| .box false=>true|_=>false
def mr:List (AC U)->List U.C->Option (List (Key×i_ U))
 |[],[]=>some []
 | .c (.lit _)::r,.lit _::cs=>mr r cs
 | .ref k []::r,.sl τ ys::cs=>match mr r cs with|some us=>some ((k,.arr ⟨τ,ys⟩ true)::us)|none=>none
 |_,_=>none
def iB(tb:qW U)(nC n:Nat)(m:Mode)(x:SV U)(dm:List (DV U)):Option (List (Key×i_ U)×List (Nat×i_ U)):=
 match m,x,dm with
 | .wr,.v ⟨false,[.ref k p]⟩,[.one (.sl τ ys)]=>match tb k with
  |some (.arr a true)=>match chg p a (fun b=>match jo b.τ ⟨τ,ys⟩ with|some zs=>some ⟨b.τ,zs⟩|none=>none) with
   |some a'=>some ([(k,.arr a' true)],[])
   |none=>none
  |_=>none
 | .wr,.v ⟨true,cs⟩,[.agg ds]=>match mr cs ds with|some us=>some (us,[])|none=>none
 | .mv,_,[]=>some ([],[])
 | .box true,.v ⟨false,[.kH k 0]⟩,[.box ds]=>match tb k with
  |some (.box cs)=>bif Nat.beq ds.length n then some ([(k,.box ((putCells nC true 512 ds).1++cs.drop n))],(putCells nC true 512 ds).2) else none
  |_=>none
 | .box false,.v ⟨false,[.kH k 0]⟩,[.box ds]=>match tb k with
  |some (.box cs)=>bif Nat.beq ds.length n then some ([(k,.box (ds.map .c++cs.drop n))],[]) else none
  |_=>none
 |_,_,_=>none
def BJ:Mode->List (DV U)->List (DV U)
 | .mv,_=>[]
 |_,ds=>ds.take 1
def xU:Mode->List (DV U)->List (DV U)
 | .mv,ds=>ds
 |_,ds=>ds.drop 1
def me(tb:qW U)(aN:List Key)(nC:Nat):List Mode->List (List (Option U.Ty))->List (SV U)->List (DV U)->Option (List (Key×i_ U)×List (Nat×i_ U)×List Key)
 |[],_,[],[]=>some ([],[],[])
 | .ro::ms,ws,_::r,ds=>me tb aN nC ms ws.tail r ds
 |m::ms,ws,x::r,ds=>match mf tb aN (ws.headD []) m x,iB tb nC (ws.headD []).length m x (BJ m ds) with
  |some (_,_,ks),some (us,es)=>match me tb aN nC ms ws.tail r (xU m ds) with
   |some (QM,es',ks')=>bif distinct (ks++ks') then some (us++QM,es++es',ks++ks') else none
   |none=>none
  |_,_=>none
 |_,_,_,_=>none
def gv:List Mode->List (SV U)->List Key
 | .ro::ms,x::r=>x.keys++gv ms r
 |_::ms,_::r=>gv ms r
 |_,_=>[]
def nH:List Nat->Bool
 |[]=>true
 |n::r=> !(r.any (Nat.beq n))&&nH r
def D7(tb:qW U)(n:Nat):List Mode->List (List (Option U.Ty))->List (SV U)->Bool
 |m::ms,ws,x::r=>(match m,x with
  | .box _,.v ⟨false,[.kH k _]⟩=>(match tb k with
   |some (.box cs)=>Nat.beq ((ws.headD []).length+n) cs.length
   |_=>false)
  | .box _,_=>false
  |_,_=>true)&&D7 tb n ms ws.tail r
 |_,_,_=>true
def Ao(tb:qW U)(aN:List Key)(dst:Nat)(k:kz U)(types:List TypeId)(xs:List (SV U)):Option (cm U):=
 match nK E tb aN k.md (k.want (types.map E.zD)) xs with
 |some (ps,ds)=>
  match k.of ds with
  |some x=>
   match me tb aN dst k.md (k.want (types.map E.zD)) xs (k.pj x).M0,D_ dst (k.pj x).fresh 0 (k.pj x).val with
   |some (us,eb,lk),some (vs,es)=>
    let lD:=(bif vn (k.pj x).fresh (k.pj x).val&& !(z_ k.md) then[] else gv k.md xs)++lk
    bif nH ((es++eb).map (·.1))&& !(lk.any fun u=>(gv k.md xs).any (jb u))&&D7 tb k.Kl k.md (k.want (types.map E.zD)) xs then
     some ⟨some (match vs with|[v]=> .v v|vs=> .wm vs),es++eb,lD,us,ps++k.pre x⟩
    else none
   |_,_=>none
  |none=>none
 |none=>none
def HW(τ:U.Ty)(tb:qW U):AC U->Option (List Prop×List (U.T τ)×List Key×Bool)
 | .e0=>some ([],[],[],true)
 | .ref k []=>match tb k with
  |some (.arr a d)=>match jo τ a with|some ys=>some ([],ys,[k],d)|none=>none
  |_=>none
 | .c (.sl Gk ys)=>match jo τ ⟨Gk,ys⟩ with|some ys=>some ([],ys,[],U.flat τ)|none=>none
 |_=>none
def abU:AC U->AC U
 | .kn _ τ xs=> .c (.sl τ xs)
 |x=>x
def MZ(τ:U.Ty)(tb:qW U)(x:AC U):Option (List Prop×List (U.T τ)×List Key×Bool):=HW τ tb (abU x)
def BG(τ:U.Ty)(s:ByteArray):Option (List (U.T τ)):=jo τ ⟨U.o9,s.data.toList.map fun b=>U.ofB (b.toNat:Int)⟩
def uG(τ:U.Ty)(tb:qW U):AC U->Option (List Prop×List (U.T τ)×List Key×Bool)
 | .e0=>some ([],[],[],true)
 | .ref k []=>match tb k with
  |some (.arr a d)=>match jo τ a with|some ys=>some ([],ys,[k],d)|none=>none
  |some (.part a dead)=>match jo τ a with|some ys=>some ([∀i,i<ys.length->dead i=false],ys,[k],true)|none=>none
  |_=>none
 | .sub k _ 0 hi=>match tb k with
  |some (.arr a d)=>match jo τ a with|some ys=>some ([hi<=ys.length],ys.take hi,[k],d)|none=>none
  |_=>none
 |_=>none
def RY(E:Env U)(op:BinOp)(t:TypeId)(y:Operand)(x:SV U):Option (cm U):=
 match op,y,x with
 | .eql,.const (.slice none _ _),.v ⟨false,[.kn b _ _]⟩=>match E.P.underlying t with|some (.slice _)=>some (.lit (.bool b))|_=>none
 |_,_,_=>none
def bJ:Option Value->Bool
 |some (.bool b)=>b
 |_=>false
def intOf:Option Value->Int
 |some (.int _ n)=>n
 |_=>0
def Bf(tb:qW U)(aN:List Key):List (List (Option U.Ty))->List (SV U)->Option (List Prop×List (DA U))
 |_,[]=>some ([],[])
 |ws,x::r=>match uW tb aN (ws.headD []) x,Bf tb aN ws.tail r with
  |some (ps,.one c),some (qs,ds)=>some (ps++qs,⟨false,[c]⟩::ds)
  |some (ps,.agg cs),some (qs,ds)=>some (ps++qs,⟨true,cs⟩::ds)
  |_,_=>none
def partOf(tb:qW U):AC U->Option (jh U)
 | .ref k []=>match tb k with
  |some (.part a _)=>some a
  |_=>none
 |_=>none
def M1(tb:qW U)(dst:Nat)(agg:Bool)(n:Nat):AC U->Option (cm U)
 | .lK k [] i wd off=>match tb k with
  |some (.part a dead)=>bif (agg||Nat.beq n 1)&&Nat.ble (off+n) (U.wd a.τ)&&Nat.beq wd (U.wd a.τ) then
    let cs:=((U.enc a.τ (a.xs.getD i (U.fq a.τ))).drop off).take n
    bif wT cs then some (.cP (.v ⟨agg,cs.map .c⟩) [i<a.xs.length,dead i=false])
    else bif Nat.blt n (U.wd a.τ) then some (.cP (.v ⟨agg,ig k [] i wd cs off⟩) [i<a.xs.length,dead i=false])
    else bif nH ((putCells dst true 0 cs).2.map (·.1)) then
     some ⟨some (.v ⟨agg,(putCells dst true 0 cs).1⟩),(putCells dst true 0 cs).2,[],[(k,.part a (fun j=>Nat.beq j i||dead j))],[i<a.xs.length,dead i=false]⟩
    else none
   else none
  |_=>none
 |_=>none
def Ev(wd:Nat):List (SV U)->Bool
 |[]=>true
 | .v x::r=>Nat.beq x.cs.length wd&&Ev wd r
 |_=>false
def HQ(τ:U.Ty)(tb:qW U):AC U->Option (List (U.T τ)×List Key)
 | .ref k []=>match tb k with
  |some (.part a _)=>match jo τ a with|some ys=>some (ys,[k])|none=>none
  |_=>none
 |_=>none
def zB(tb:qW U)(x:AV U):AC U->Option (cm U)
 | .lK k [] i wd 0=>match tb k with
  |some (.part a dead)=>bif Nat.beq wd (U.wd a.τ)&&Nat.beq x.cs.length wd then
    match fu tb (Hv (U.enc a.τ (a.xs.getD i (U.fq a.τ)))) x.cs with
    |some (qs,ds,ks,true)=>match U.dec a.τ ds with
     |some y=>bif distinct (k::ks) then some ⟨none,[],ks,[(k,.part ⟨a.τ,a.xs.set i y⟩ (fun j=> !(Nat.beq j i)&&dead j))],qs++[i<a.xs.length]⟩ else none
     |none=>none
    |_=>none
   else none
  |_=>none
 |_=>none
def zC(tb:qW U)(x:AV U):AC U->Option (cm U)
 | .lK k [] i wd off=>match tb k,rJ x.cs with
  |some (.part a dead),some vs=>bif Nat.beq wd (U.wd a.τ)&&Nat.ble (off+x.cs.length) wd then
    match HD off i (vs.map .lit) a with
    |some a'=>some ⟨none,[],[],[(k,.part a' dead)],[i<a.xs.length,dead i=false]⟩
    |none=>none
   else none
  |_,_=>none
 |_=>none
def Bi:List (SV U)->Option (List (AV U))
 |[]=>some []
 | .v x::r=>match Bi r with|some l=>some (x::l)|none=>none
 |_=>none
def ET(E:Env U)(tb:qW U)(aN:List Key)(t:TypeId)(types:List TypeId)(p:List (DA U)->Option Value)(xs:List (SV U)):Option (cm U):=
 match Bf tb aN (types.map E.zD) xs with
 |some (ps,ds)=>match E.P.underlying t with
  |some .bool=>some (.lit (.bool (bJ (p ds))) (ps++[p ds=some (.bool (bJ (p ds)))]))
  |some (.int k)=>some (.lit (.int k (intOf (p ds))) (ps++[p ds=some (.int k (intOf (p ds)))]))
  |_=>none
 |none=>none
def Env.Wn(b:Bool)(f:FuncId):Option (kz U):=bif b then E.Qt f else E.Qu f
def Aj(b:Bool)(tb:qW U)(aN:List Key)(o:Oper)(xs:List (SV U)):Option (cm U):=
 let dst:=o.dst.getD 1000000
 match o.op,xs with
 | .move _,[x]=>some (.cP x)
 | .assign _,[x]=>some (.cP x)
 | .unOp op _ _,[x]=>match jj x with
  |some v=>(KQ op v).map (.lit ·)
  |none=>none
 | .binOp op t _ q _,[x,y]=>match jj x,jj y with
  |some a,some b=>(Et E t op a b).map fun(ps,v)=> .lit v ps
  |_,_=>match S7 E op t x y with|some r=>some r|none=>RY E op t q x
 | .extract _ i,[.wm l]=>(l[i]?).map fun v=> .cP (.v v)
 | .alloc t,[]=>
  match(E.P.info? t).bind (·.zero) with
  |some z=>match rT (U:=U) z.cells with
   |some (.v x)=>some ⟨some (one (.kH (dst,0) 0)),[(0,.box x.cs)],[],[],[]⟩
   |_=>none
  |none=>none
 | .load t _,[x]=>match u5 x,E.size t,E.isAgg t with
  |some a,some n,some g=>match(bif E.shl t then Ep tb g n a else none) with
   |some r=>some r
   |none=>match loadAt tb aN g n a with
    |some r=>some r
    |none=>M1 tb dst g n a
  |_,_,_=>none
 | .store t _ _,[p,.v x]=>match u5 p,E.size t with
  |some a,some n=>bif Nat.beq n x.cs.length then(match storeAt tb aN x a with
   |some r=>some r
   |none=>match zB tb x a with
    |some r=>some r
    |none=>zC tb x a) else none
  |_,_=>none
 | .fieldAddr t _ f,[x]=>match u5 x,E.V' t f with
  |some y,some (o,ft)=>match E.size ft with
   |some (_+1)=>match y with
    | .ia cs=>some (.cP (one (.ia (cs.drop o))))
    | .kH k off=>some (.cP (one (.kH k (off+o))))
    | .lK k p i wd off=>bif fW tb aN k p then some (.cP (one (.lK k p i wd (off+o)))) else none
    |_=>none
   |_=>none
  |_,_=>none
 | .field t _ f,[.v ⟨true,cs⟩]=>match E.V' t f with
  |some (o,ft)=>match E.size ft,E.isAgg ft with
   |some n,some g=>bif Nat.ble (o+n) cs.length&&(g||Nat.beq n 1) then some (.cP (.v ⟨g,(cs.drop o).take n⟩)) else none
   |_,_=>none
  |none=>none
 | .build t parts,xs=>match E.MT t,(E.P.info? t).bind (·.zero) with
  |some pl,some z=>match jW (U:=U) z.cells.toList with
   |some l=>match il pl l (parts.toList.map (·.1)) xs with
    |some cs=>some (.cP (.v ⟨true,cs⟩))
    |none=>none
   |none=>none
  |_,_=>none
 | .buildSlice t len parts,xs=>match E.elem t with
  |some e=>match E.code e with
   |some τ=>bif (parts.toList.map (·.1)).length.beq len&&((parts.toList.map (·.1)).zipIdx).all (fun(a,b)=>Nat.beq a b)&&Nat.ble (len*U.wd τ) 1000000 then
     bif E.gx t dst (xs.flatMap SV.keys) then
      bif Ev (U.wd τ) xs then some ⟨some (one (.ref (dst,0) [])),[(0,.part ⟨τ,List.replicate len (U.fq τ)⟩ (fun _=>true))],[],[],[]⟩ else none
     else match rowsOf τ tb (E.shape 8 e) xs with
     |some (ps,rows,ks,d)=>bif distinct ks then some ⟨some (one (.ref (dst,0) [])),[(0,.arr ⟨τ,rows⟩ d)],ks,[],ps⟩ else none
     |none=>none
    else none
   |none=>none
  |none=>none
 | .makeSlice t _ _,[l,c]=>match E.elem t,jj l,jj c with
  |some e,some (.int .i64 n),some (.int .i64 m)=>match E.code e with
   |some τ=>some ⟨some (one (.ref (dst,0) [])),[(0,.arr ⟨τ,List.replicate n.toNat (U.fq τ)⟩ true)],[],[],[0<=n,n=m,n<=4294967296]⟩
   |none=>none
  |_,_,_=>none
 | .indexAddr t _ _,[x,i]=>match jj i,u5 x,(E.elem t).bind E.size with
  |some (.int _ n),some y,some m=>match y with
   | .c (.sl τ ys)=>bif Nat.beq m (U.wd τ) then some (.cP (one (.ia (U.enc τ (ys.getD n.toNat (U.fq τ))))) [0<=n,n.toNat<ys.length]) else none
   | .ref k p=>match qN tb aN (.ref k p) with
    |some (ps,a)=>bif Nat.beq m (U.wd a.τ) then some (.cP (one (.lK k p n.toNat (U.wd a.τ) 0)) (ps++[0<=n,n.toNat<a.xs.length])) else none
    |none=>match p,partOf tb (.ref k []) with
     |[],some a=>bif Nat.beq m (U.wd a.τ) then some (.cP (one (.lK k [] n.toNat (U.wd a.τ) 0)) [0<=n,n.toNat<a.xs.length]) else none
     |_,_=>none
   |_=>none
  |_,_,_=>none
 | .index t _ _,[x,i]=>match jj x,jj i,E.P.underlying t with
  |some (.string s),some (.int _ n),some .string=>some (.lit (.int .u8 ((s.data.toList.getD n.toNat 0).toNat:Int)) [0<=n,n.toNat<s.size])
  |_,_,_=>none
 | .slice t _ lo hi mx,x::bs=>match Hl lo bs with
  |some (l,bs1)=>match Hl hi bs1 with
   |some (h,bs2)=>match Hl mx bs2 with
    |some (m,[])=>vl E tb aN t x l h m
    |_=>none
   |none=>none
  |none=>none
 | .call {callee:=.builtin .len,argTypes,..},[x]=>match argTypes.toList with
  |[t]=>match jj x with
   |some (.string s)=>match E.P.underlying t with
    |some .string=>some (.lit (.int .i64 s.size))
    |_=>none
   |some _=>none
   |none=>match u5 x,E.elem t with
    |some .e0,some _=>some (.lit (.int .i64 0))
    |some a,some _=>match qN tb aN a with
     |some (ps,b)=>some (.lit (.int .i64 b.xs.length) ps)
     |none=>match partOf tb a with
      |some b=>some (.lit (.int .i64 b.xs.length))
      |none=>none
    |_,_=>none
  |_=>none
 | .call {callee:=.builtin .clear,argTypes,..},[x]=>match argTypes.toList with
  |[t]=>match E.elem t,u5 x with
   |some e,some (.sub k wd lo hi)=>match E.code e,tb k with
    |some τ,some (.part a dead)=>bif Nat.beq wd (U.wd a.τ) then(match jo τ a with
     |some xs=>some ⟨some (.wm []),[],[],[(k,.part ⟨τ,xs⟩ (fun j=>dead j||Nat.ble lo j))],[lo<=hi,hi=xs.length]⟩
     |none=>none) else none
    |_,_=>none
   |_,_=>none
  |_=>none
 | .call {callee:=.builtin .min,..},[x,y]=>match jj x,jj y with
  |some (.int k a),some (.int k' b)=>bif decide (k=k') then some (.lit (.int k (if b<a then b else a))) else none
  |_,_=>none
 | .call {callee:=.builtin .max,..},[x,y]=>match jj x,jj y with
  |some (.int k a),some (.int k' b)=>bif decide (k=k') then some (.lit (.int k (if b>a then b else a))) else none
  |_,_=>none
 | .call {callee:=.builtin .append,argTypes,..},[s,x]=>
  match argTypes.toList with
  |[t,u]=>match E.elem t,E.elem u,u5 s,u5 x with
   |some e,some e',some s,some x=>bif Nat.beq t u&&Nat.beq e e' then
    match E.code e with
    |some τ=>
     match uG τ tb s,MZ τ tb x with
     |some (ps,xs,ks,d),some (qs,ys,ks',d')=>
      bif distinct (ks++ks') then
       some ⟨some (one (.ref (dst,0) [])),[(0,.arr ⟨τ,xs++ys⟩ (d&&d'))],ks++ks',[],ps++qs++[xs.length+ys.length<=4294967296]⟩
      else none
     |some (ps,xs,ks,true),none=>match HQ τ tb x with
      |some (ys,ks')=>bif distinct (ks++ks') then
        some ⟨some (one (.ref (dst,0) [])),[(0,.part ⟨τ,xs++ys⟩ (fun i=>Nat.ble xs.length i))],ks++ks',[],ps++[xs.length+ys.length<=4294967296]⟩
       else none
      |none=>none
     |_,_=>none
    |none=>none else none
   |some e,none,some s,some (.c (.lit (.string str)))=>match E.P.underlying u,E.code e with
    |some .string,some τ=>match uG τ tb s,BG τ str with
     |some (ps,xs,ks,d),some ys=>bif distinct ks then
       some ⟨some (one (.ref (dst,0) [])),[(0,.arr ⟨τ,xs++ys⟩ d)],ks,[],ps++[xs.length+ys.length<=4294967296]⟩ else none
     |_,_=>none
    |_,_=>none
   |_,_,_,_=>none
  |_=>none
 | .makeFunc (.func g) first _,xs=>bif first.isEmpty then(match Bi xs with|some l=>some (.cP (.He g l))|none=>none) else none
 | .call {callee:=.value (.tmp _),argTypes,..},.fn p::xs=>ET E tb aN o.type argTypes.toList p xs
 | .call {callee:=.value (.func f),argTypes,..},xs=>match E.Wn b f with
  |some k=>Ao E tb aN dst k argTypes.toList xs
  |none=>none
 | .box _ _,[.v x]=>bif uS tb aN x.cs&&(x.agg||Nat.beq x.cs.length 1) then some ⟨some (one (.kH (dst,0) 0)),[(0,.box x.cs)],[],[],[]⟩ else none
 | .nilCheck _,[x]=>match u5 x with
  |some (.ia _)=>some (.cP x)
  |some (.kH _ _)=>some (.cP x)
  |some (.lK k p _ _ _)=>bif fW tb aN k p then some (.cP x) else none
  |_=>none
 | .convert s d _,[x]=>match E.P.underlying d with
  |some (.int k)=>match E.P.underlying s,jj x with
   |some (.int _),some (.int _ n)=>some (.lit (.int k (k.wrap n)))
   |_,_=>none
  |some .string=>match E.P.underlying s with
   |some (.slice e)=>match E.P.underlying e,u5 x with
    |some (.int .u8),some .e0=>some (.lit (.string ByteArray.empty))
    |some (.int .u8),some y=>match qN tb aN y with
     |some (ps,b)=>match jo U.o9 b with
      |some ys=>some (.lit (.string (strOfNums (ys.map U.WN))) ps)
      |none=>none
     |none=>none
    |_,_=>none
   |_=>none
  |_=>none
 |_,_=>none
def Oper.looks(o:Oper):List Operand:=
 match o.op with
 | .build _ ps=>ps.toList.map (·.2)
 | .buildSlice _ _ ps=>ps.toList.map (·.2)
 | .call c=>(match c.callee with| .value (.func _)=>[]| .builtin _=>[]| .value f=>[f]| .invoke r _=>[r])++c.args.toList
 |op=>op.operands.toList
def rl(σ:ai U)(o:Oper):Option (List (SV U)):=DY ((Oper.looks o).map (MW σ))
def qH(σ:ai U)(o:Oper):Bool:=match o.dst with|some d=>Nat.blt d σ.n|none=>true
def Gv(x:Option (SV U)):Option Value:=match x with|some y=>jj y|none=>none
def zK(σ:ai U)(x:Operand):Option Value:=Gv (MW σ x)
def kindOk(o:Oper):Bool:=match o.op with
 | .store _ _ _=>o.dst.isNone
 | .alloc _| .box _ _| .buildSlice _ _ _| .makeSlice _ _ _=>o.dst.isSome
 | .call c=>(match c.callee with| .builtin .clear=>true| .builtin _=>o.dst.isSome|_=>true)
 |_=>true
def step(b:Bool)(σ:ai U)(o:Oper):Option (cm U×List Key):=
 bif qH σ o&&kindOk o then
  match o.op with
  | .pick c a b=>
   match zK σ c with
   |some (.bool t)=>match(bif t then MW σ a else MW σ b) with
    |some x=>some (.cP x,[])
    |none=>none
   |_=>none
  |_=>match rl σ o with
   |some xs=>match Aj E b (restrict σ.bM (pz σ o xs)) σ.aN o xs with
    |some r=>some (r,pz σ o xs)
    |none=>none
   |none=>none
 else none
def pE(dst:Nat)(l:List (Nat×i_ U)):List (Key×Option (i_ U)):=l.map fun(j,e)=>((dst,j),some e)
def apply(o:Oper)(r:cm U)(σ:ai U):ai U:=
 {σ with
  bI:=(match o.dst with|some d=>(d,r.val)::σ.bI|none=>σ.bI)
  oy:=pE (o.dst.getD 1000000) r.eo++r.jY.map (fun(k,e)=>(k,some e))++r.lD.map (fun k=>(k,none))++σ.oy
  aN:=r.jY.map (·.1)++σ.aN}
def zA:cm U:=⟨some (.wm []),[],[],[],[]⟩
structure Rec where
 i:Nat
 reads:List Key
 names:List Key
 writes:List Key
 news:List Key
def cm.news(dst:Nat)(r:cm U):List Key:=r.eo.map fun(j,_)=>(dst,j)
def cm.writes(dst:Nat)(r:cm U):List Key:=r.eo.map (fun(j,_)=>(dst,j))++r.lD++r.jY.map (·.1)
def i_.names:i_ U->List Key
 | .box cs=>cs.flatMap AC.keys
 | .arr _ _=>[]
 | .part _ _=>[]
def cm.names(r:cm U):List Key:=
 (match r.val with|some x=>x.keys|none=>[])++r.eo.flatMap (fun(_,e)=>e.names)++r.jY.flatMap (fun(_,e)=>e.names)
def sW(dst:Nat)(r:cm U)(rs:List Rec):Bool:=r.eo.isEmpty||rs.all fun x=> !((x.reads++x.names++x.writes).any fun k=>Nat.beq k.1 dst)
def xe(o:Oper)(r:cm U):Bool:=r.eo.all fun(j,_)=>Nat.blt j 1024
def meet(a b:List Key):Bool:=a.any fun k=>b.any (jb k)
def amU(ops:List Oper):List Nat:=
 ops.foldl (fun acc o=>acc++[o.after.toList.foldl (fun m e=>bif Region.binds .any e then Nat.lor m (Nat.lor (Nat.shiftLeft 1 e.on) (acc.getD e.on 0)) else m) 0]) []
def yM(m i:Nat):Bool:=Nat.beq (Nat.land (Nat.shiftRight m i) 1) 1
def Aa(ops:List Oper)(o:Oper):List Nat:=
 match o.guard with
 |some (g,_)=>match ops[g]? with|some q=>q.dst.toList|none=>[]
 |none=>[]
def slotsOf(ops:List Oper)(o:Oper):List Nat:=
 (o.op.operands.toList.flatMap fun| .tmp t=>[t]|_=>[])++Aa ops o
def IA(ops:List Oper)(x y:Oper)(rx ry:Rec):Bool:=
 !(meet rx.writes (ry.reads++ry.writes))&& !(meet ry.writes rx.reads)&& !(meet rx.news ry.names)&&
 (match x.dst with|some d=> !((slotsOf ops y).any (Nat.beq d))&& !(y.dst.any (Nat.beq d))|none=>true)&&
 (match y.dst with|some d=> !((slotsOf ops x).any (Nat.beq d))|none=>true)
def WO(ops:List Oper):Bool:=ops.zipIdx.all fun(o,i)=>o.after.toList.all fun e=> !(Region.binds .any e)||Nat.blt e.on i
def Ny(ops:List Oper)(ab8:List Rec):Bool:=
 let an:=amU ops
 WO ops&&ab8.all fun ry=>ab8.all fun rx=>
  !(Nat.blt rx.i ry.i)||yM (an.getD ry.i 0) rx.i||
  (match ops[rx.i]?,ops[ry.i]? with|some x,some y=>IA ops x y rx ry|_,_=>false)
def guards(ops:List Oper)(i:Nat):Bool:=ops.any fun o=>match o.guard with|some (g,_)=>Nat.beq g i|none=>false
def QB:List Prop->Prop->Prop
 |[],q=>q
 |p::ps,q=>p/\QB ps q
def Tp(a b:Bool):Bool:=match a,b with|true,true=>true|false,false=>true|_,_=>false
def Q0(i:Nat)(o:Oper)(σ:ai U)(rs:List Rec)(ks:List Key)(K:ai U->Rec->Prop)(r:cm U):Prop:=
 bif sW (o.dst.getD 1000000) r rs&&xe o r then K (apply o r σ) ⟨i,ks,r.names,r.writes (o.dst.getD 1000000),r.news (o.dst.getD 1000000)⟩ else False
def Zs(r:cm U)(b:Bool):cm U:={r with val:=some (we (.bool b))}
def J1(alt:Bool)(ops:List Oper)(i:Nat)(o:Oper)(σ:ai U)(rs:List Rec)(K:ai U->Rec->Prop):Prop:=
 match step E alt σ o with
 |some (r,ks)=>
  QB r.pre<|
  bif guards ops i then
   match Gv r.val with
   |some (.bool b)=>bif b then Q0 i o σ rs ks K (Zs r true) else Q0 i o σ rs ks K (Zs r false)
   |_=>False
  else Q0 i o σ rs ks K r
 |none=>False
def aei(o:Oper):Bool:=match o.op with
 | .call {callee:=.value (.func f),..}=>(E.Qt f).isSome
 |_=>false
def J0(ops:List Oper)(i:Nat)(o:Oper)(σ:ai U)(rs:List Rec)(K:ai U->Rec->Prop):Prop:=
 bif aei E o then J1 E false ops i o σ rs K\/J1 E true ops i o σ rs K else J1 E false ops i o σ rs K
def wpOps(ops:List Oper):List Oper->Nat->ai U->List Rec->(ai U->List Rec->Prop)->Prop
 |[],_,σ,rs,K=>K σ rs
 |o::rest,i,σ,rs,K=>
  match o.guard with
  |none=>J0 E ops i o σ rs fun l9 r=>wpOps ops rest (i+1) l9 (r::rs) K
  |some (g,want)=>
   match((ops[g]?).bind (·.dst)).bind σ.get with
   |some (.v x)=>match jj (.v x) with
    |some (.bool b)=>bif Tp b want then J0 E ops i o σ rs fun l9 r=>wpOps ops rest (i+1) l9 (r::rs) K
     else bif qH σ o then wpOps ops rest (i+1) (apply o zA σ) (⟨i,[],[],[],[]⟩::rs) K else False
    |_=>False
   |some (.wm [])=>bif qH σ o then wpOps ops rest (i+1) (apply o zA σ) (⟨i,[],[],[],[]⟩::rs) K else False
   |_=>False
def SV.NW(bad:Key->Bool)(aN:List Key)(x:SV U):Bool:=
 x.B7.any fun a=>a.keys.any bad||(match a with| .ref k p| .lK k p _ _ _=> !p.isEmpty&&aN.any (jb k)|_=>false)
def AC.uB(f:Key->Key):AC U->AC U
 | .ref k p=> .ref (f k) p
 | .sub k wd lo hi=> .sub (f k) wd lo hi
 | .lK k p i wd off=> .lK (f k) p i wd off
 | .kH k off=> .kH (f k) off
 |x=>x
def SV.uB(f:Key->Key):SV U->SV U
 | .v x=> .v ⟨x.agg,x.cs.map (AC.uB f)⟩
 | .wm xs=> .wm (xs.map fun x=>⟨x.agg,x.cs.map (AC.uB f)⟩)
 | .fn p=> .fn p
 | .He g xs=> .He g (xs.map fun x=>⟨x.agg,x.cs.map (AC.uB f)⟩)
def i_.uB(f:Key->Key):i_ U->i_ U
 | .box cs=> .box (cs.map (AC.uB f))
 |e=>e
def xB{β:Type}:List Nat->List (Nat×Option β)->List (Nat×Option β)
 |_,[]=>[]
 |seen,(s,v)::r=>bif seen.any (Nat.beq s) then xB seen r else match v with
  |some x=>(s,some x)::xB (s::seen) r
  |none=>xB (s::seen) r
def qt{β:Type}:List Key->List (Key×Option β)->List (Key×Option β)
 |_,[]=>[]
 |seen,(s,v)::r=>bif seen.any (jb s) then qt seen r else match v with
  |some x=>(s,some x)::qt (s::seen) r
  |none=>qt (s::seen) r
def tM(bad:Key->Bool)(σ:ai U):ai U:=
 let ok (x:SV U):Bool:= !(x.NW (fun k=>bad k||(eZ σ.oy k).isNone) σ.aN)
 {σ with
  bI:=(xB [] σ.bI).filter fun(_,v)=>match v with|some (.wm [])=>false|some x=>ok x|none=>false
  oy:=(qt [] σ.oy).filter fun(k,e)=> !(bad k)&&(match e with|some (.box cs)=>ok (.v ⟨true,cs⟩)|_=>true)
  aN:=[]}
def ab7(d:Nat)(x:SV U):List (Key×Key):=
 (x.B7.zipIdx).flatMap fun(a,j)=>match a with
  | .ref k []| .sub k _ _ _| .kH k _=>[(k,(d,1024+j))]
  |_=>[]
def wS(l:List (Key×Key))(k:Key):Key:=
 match l with
 |[]=>k
 |(a,b)::r=>bif jb a k then b else wS r k
def rename(l:List (Key×Key))(σ:ai U):ai U:=
 {σ with
  bI:=σ.bI.map fun(s,v)=>(s,v.map (SV.uB (wS l)))
  oy:=σ.oy.map fun(k,e)=>(wS l k,e.map (i_.uB (wS l)))}
def rF(l0:List (Key×Key))(σ:ai U):ai U:=
 let l:=l0.filter fun(a,b)=> !(jb a b)&& !(Nat.ble 2000000 a.1&&Nat.blt a.2 1024)
 bif l.isEmpty|| !(distinct (l.map (·.1)))|| !(distinct (l.map (·.2)))|| !(l.all fun(_,b)=>Nat.ble 1024 b.2) then σ else
  let tgt:=l.map (·.2)
  rename l (tM (fun k=>tgt.any (jb k)) σ)
def sB(d:Nat)(σ:ai U):ai U:=
 match σ.get d with
 |some x=>rF (ab7 d x) σ
 |none=>σ
def Zv(k:Key)(cs:List (AC U)):List (Key×Key):=
 cs.zipIdx.flatMap fun(a,j)=>match a with
  | .ref q []| .sub q _ _ _=>[(q,(k.1,4096*(k.2+1)+j))]
  |_=>[]
def xF(k:Key)(σ:ai U):ai U:=
 match σ.bM k with
 |some (.box cs)=>rF (Zv k cs) σ
 |_=>σ
def boxes(σ:ai U):List Key:=σ.oy.flatMap fun(k,e)=>match e with|some (.box _)=>[k]|_=>[]
inductive qk where
 |slot (s j:Nat)
 |box (k:Key) (j:Nat)
def qk.key:qk->Key
 | .slot s j=>(s,1024+j)
 | .box k j=>(k.1,4096*(k.2+1)+j)
def PN:Option (AC U)->Bool
 |some .e0=>true
 |_=>false
def unnamed(k:Key)(σ:ai U):Bool:=
 (σ.bI.all fun(_,v)=>match v with|some x=> !(x.keys.any (jb k))|none=>true)&&
 (σ.oy.all fun(_,e)=>match e with|some (.box cs)=> !(cs.any fun a=>a.keys.any (jb k))|_=>true)
def PF(p:qk)(τ:U.Ty×Bool)(σ:ai U):ai U:=
 bif (eZ σ.oy p.key).isNone&&unnamed p.key σ&&Nat.ble 1024 p.key.2 then
  match p with
  | .slot s j=>match σ.get s with
   |some (.v x)=>bif PN x.cs[j]? then
     {σ with bI:=(s,some (.v ⟨x.agg,x.cs.set j (.ref p.key [])⟩))::σ.bI,oy:=(p.key,some (.arr ⟨τ.1,[]⟩ τ.2))::σ.oy} else σ
   |_=>σ
  | .box k j=>match σ.bM k with
   |some (.box cs)=>bif PN cs[j]? then
     {σ with oy:=(p.key,some (.arr ⟨τ.1,[]⟩ τ.2))::(k,some (.box (cs.set j (.ref p.key []))))::σ.oy} else σ
   |_=>σ
 else σ
def qx(k0:Key)(σ:ai U):ai U:=
 match σ.bM k0 with
 |some (.arr a true)=>{σ with oy:=(k0,some (.part a fun _=>false))::σ.oy}
 |_=>σ
def parts(l:List Key)(σ:ai U):ai U:=l.foldl (fun σ k=>qx k σ) σ
def DX(k0:Key)(σ:ai U):ai U:=
 match σ.bM k0 with
 |some (.arr a true)=>{σ with oy:=(k0,some (.arr a false))::σ.oy,aN:=k0::σ.aN}
 |_=>σ
def PE(p:qk)(τ:U.Ty)(σ:ai U):ai U:=
 match p with
 | .slot s j=>match σ.get s with
  |some (.v x)=>bif PN x.cs[j]? then{σ with bI:=(s,some (.v ⟨x.agg,x.cs.set j (.c (.sl τ []))⟩))::σ.bI} else σ
  |_=>σ
 | .box k j=>match σ.bM k with
  |some (.box cs)=>bif PN cs[j]? then{σ with oy:=(k,some (.box (cs.set j (.c (.sl τ [])))))::σ.oy} else σ
  |_=>σ
def PD:List (qk×U.Ty×Option Bool)->ai U->ai U
 |[],σ=>σ
 |(p,τ,some d)::r,σ=>PD r (PF p (τ,d) σ)
 |(p,τ,none)::r,σ=>PD r (PE p τ σ)
def assigned(ops:List Oper):List Nat:=ops.flatMap fun o=>match o.op with| .assign _=>o.dst.toList|_=>[]
def jT(σ:ai U):ai U:=tM (fun _=>false) σ
def NX(l:List Key)(σ:ai U):ai U:=match l with
 |[]=>σ
 |k::l=>jT ((k::l).foldl (fun σ k=>DX k σ) σ)
def xE(l:List Key)(σ:ai U):ai U:=l.foldl (fun σ k=>xF k σ) σ
def settle(ops:List Oper)(σ:ai U):ai U:=
 let σ1:=(assigned ops).foldl (fun σ d=>sB d σ) (jT σ)
 xE (boxes σ1) σ1
def BB(ops:List Oper):List Nat:=ops.flatMap fun o=>o.dst.toList
def enter(ops:List Oper)(σ:ai U):ai U:=let ds:=BB ops;tM (fun k=>(ds.any (Nat.beq k.1)||Nat.beq k.1 1000000)&&Nat.blt k.2 1024) σ
def Ii(k0:Key)(c:U.C):AC U->AC U
 | .ref k []=>bif jb k k0 then .c c else .ref k []
 |x=>x
def Np(k0:Key)(c:U.C):SV U->SV U
 | .v x=> .v ⟨x.agg,x.cs.map (Ii k0 c)⟩
 |x=>x
def Lk(k0:Key)(c:U.C):i_ U->i_ U
 | .box cs=> .box (cs.map (Ii k0 c))
 |e=>e
def lW(k0:Key)(σ:ai U):ai U:=
 match σ.bM k0 with
 |some (.arr a _)=>{σ with
   bI:=σ.bI.map fun(s,v)=>(s,v.map (Np k0 (.sl a.τ a.xs)))
   oy:=(k0,none)::σ.oy.map fun(k,e)=>(k,e.map (Lk k0 (.sl a.τ a.xs)))}
 |_=>σ
def sY(s:Nat)(σ:ai U):ai U:=
 match σ.get s with
 |some (.v ⟨_,[.ref k []]⟩)=>lW k σ
 |_=>σ
def qG(l:List Nat)(σ:ai U):ai U:=l.foldl (fun σ s=>sY s σ) σ
def Oa(E:Env U)(ops:List Oper):List Nat:=ops.flatMap fun o=>match o.op with
 | .call {callee:=.value (.func f),args,..}=>match E.Qu f with
  |some k=>bif z_ k.md then(k.md.zip args.toList).flatMap fun(m,q)=>match m,q with
    | .ro,.tmp t=>ops.flatMap fun p=>match p.dst,p.op with
     |some d,.move (.tmp v)=>bif Nat.beq d t then[v] else[]
     |_,_=>[]
    |_,_=>[] else[]
  |none=>[]
 |_=>[]
def rR(l:List Key)(σ:ai U):ai U:=l.foldl (fun σ k=>lW k σ) σ
def rootOf(ops:List Oper)(t:Nat):Nat:=match ops.find? (fun p=>p.dst.any (Nat.beq t)) with
 |some p=>match p.op with
  | .move (.tmp v)=>v
  |_=>t
 |none=>t
def Ox(ops:List Oper)(σ:ai U):List Key:=ops.flatMap fun o=>match o.op with
 | .makeFunc _ _ pT=>pT.toList.flatMap fun q=>match q with
  | .tmp t=>match σ.get (rootOf ops t) with
   |some (.v ⟨_,[.kH k _]⟩)=>match σ.bM k with
    |some (.box cs)=>cs.flatMap fun c=>match c with
     | .ref q []=>[q]
     |_=>[]
    |_=>[]
   |_=>[]
  |_=>[]
 |_=>[]
def EZ(E:Env U)(ops:List Oper)(σ:ai U):ai U:=rR (Ox ops (qG (Oa E ops) (enter ops σ))) (qG (Oa E ops) (enter ops σ))
def xy(ops:List Oper)(draw:Bool)(σ:ai U)(K:ai U->Prop):Prop:=
 wpOps E ops ops 0 (EZ E ops σ) [] fun l9 rs=>bif !draw||Ny ops rs then K (settle ops l9) else False
inductive Out (U:lu) where
 |normal (σ:ai U)
 |exit (id:Nat) (σ:ai U)
 |ret (σ:ai U)
structure ud(U:lu) where
 X:Type
 bI:X->List (Nat×SV U)
 dV:X->List (Key×i_ U)
 un:ai U->(X->Prop)->Prop
 nil:List (qk×U.Ty×Option Bool)
 frz:List Nat
 frk:List Key
 shk:List Key
 prt:List Key
 I:X->X->Prop
 μ:X->Nat
 all:(X->Prop)->Prop
 aej:∀P,all P->∀y,P y
 names:List Nat
 inn:∀x,∀p∈bI x,p.1∈names
 nin:∀p∈nil,∀s j,p.1=qk.slot s j->s∈names
 law:∀σ K,un σ K->∃x,K x/\(∀p∈bI x,σ.get p.1=some p.2)/\(∀p∈dV x,σ.bM p.1=some p.2)
def uv(l:List Nat)(σ:ai U):ai U:=l.foldl (fun σ d=>sB d σ) σ
def Q_(σ:ai U):ai U:=xE (boxes σ) σ
def F5(A:ud U)(σ:ai U):ai U:=parts A.prt<|PD A.nil (rR A.frk (qG A.frz (NX A.shk (jT (Q_ (uv A.names (jT σ)))))))
def iT:Code->Option Nat
 | .region id _ _=>some id
 | .seq a b=>match iT a with|some i=>some i|none=>iT b
 | .cond _ a b=>match iT a with|some i=>some i|none=>iT b
 | .block _ b=>iT b
 | .loop b=>iT b
 |_=>none
def abf(r:Nat)(c:Code):Bool:=match iT c with
 |some i=>Nat.beq i r
 |none=>false
def Qq(r:Nat):Code->Option (Code×Code)
 | .seq a b=>bif abf r b then some (a,b) else match Qq r b with
  |some p=>some (.seq a p.1,p.2)
  |none=>none
 |_=>none
def abe(r:Nat)(c:Code):Code:=match Qq r c with
 |some p=>p.1
 |none=> .skip
def abd(r:Nat)(c:Code):Code:=match Qq r c with
 |some p=>p.2
 |none=> .skip
def mj(A:ud U)(wr:List Nat)(σ:ai U)(x:A.X):ai U:=
 ⟨σ.n,
  (A.bI x).map (fun(s,v)=>(s,some v))++
   ((xB [] σ.bI).filter fun(s,v)=> !(wr.any (Nat.beq s))&& !(A.names.any (Nat.beq s))&&(match v with|some (.v y)=>(SV.v y).keys.isEmpty|some (.fn _)=>true|_=>false)),
  (A.dV x).map fun(k,e)=>(k,some e),
  []⟩
variable(om:Nat->Option (ud U))
def gO:Code->List Nat
 | .region _ ops _=>BB ops.toList
 | .seq a b=>gO a++gO b
 | .cond _ a b=>gO a++gO b
 | .block _ b=>gO b
 | .loop b=>gO b++(match(iT b).bind om with|some A=>A.names|none=>[])
 |_=>[]
def wp:Code->ai U->(Out U->Prop)->Prop
 | .skip,σ,Q=>Q (.normal σ)
 | .seq a b,σ,Q=>wp a σ fun
  | .normal l9=>wp b l9 Q
  |o=>Q o
 | .cond c t e,σ,Q=>match zK σ c with
  |some (.bool b)=>bif b then wp t σ Q else wp e σ Q
  |_=>False
 | .block id c,σ,Q=>wp c σ fun
  | .exit id' l9=>bif Nat.beq id' id then Q (.normal l9) else Q (.exit id' l9)
  |o=>Q o
 | .loop c,σ,Q=>match(iT c).bind om with
  |some A=>A.un (F5 A σ) fun x=>A.I x x/\
    A.all fun y=>A.I x y->wp c (mj A (gO om c) σ y) fun
     | .normal l9=>A.un (F5 A l9) fun z=>A.I x z/\A.μ z<A.μ y
     |o=>Q o
  |none=>False
 | .exit id,σ,Q=>Q (.exit id σ)
 | .ret,σ,Q=>Q (.ret σ)
 | .region _ ops draw,σ,Q=>xy E ops.toList draw σ fun l9=>Q (.normal l9)
 |_,_,_=>False
end
end
end AM
