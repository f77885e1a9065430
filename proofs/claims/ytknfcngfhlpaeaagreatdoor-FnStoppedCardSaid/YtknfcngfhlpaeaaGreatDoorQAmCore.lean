import Derived.Calls
import Derived.Orders
import Derived.Laws.AppendOwn
import Derived.Below
import Derived.Laws.BytesArg
namespace AM
theorem e8:type_of% @List.mem_cons_of_mem:=@List.mem_cons_of_mem
theorem gS:type_of% @List.mem_cons_self:=@List.mem_cons_self
theorem dB:type_of% @List.getD_eq_getElem?_getD:=@List.getD_eq_getElem?_getD
theorem eW:type_of% @List.getElem?_eq_getElem:=@List.getElem?_eq_getElem
theorem fM:type_of% @Option.some.injEq:=@Option.some.injEq
theorem cH:type_of% @Bool.and_eq_true:=@Bool.and_eq_true
theorem l6:type_of% @Option.isSome_iff_exists:=@Option.isSome_iff_exists
theorem gI:type_of% @Bool.cond_eq_ite:=@Bool.cond_eq_ite
theorem mc:type_of% @Nat.eq_of_beq_eq_true:=@Nat.eq_of_beq_eq_true
theorem nb:type_of% @List.getElem?_eq_none:=@List.getElem?_eq_none
theorem jF:type_of% @List.mem_cons:=@List.mem_cons
theorem mw:type_of% @List.getElem?_map:=@List.getElem?_map
theorem tJ:type_of% @List.getElem?_cons_zero:=@List.getElem?_cons_zero
theorem oT:type_of% @List.getElem?_take:=@List.getElem?_take
theorem jE:type_of% @List.mem_append:=@List.mem_append
theorem ya:type_of% @List.getElem?_append_right:=@List.getElem?_append_right
theorem wg:type_of% @List.getElem?_append_left:=@List.getElem?_append_left
theorem pP:type_of% @List.mem_append_left:=@List.mem_append_left
theorem pd:type_of% @List.mem_append_right:=@List.mem_append_right
theorem nF:type_of% @List.mem_flatMap:=@List.mem_flatMap
theorem mb:type_of% @List.mem_singleton:=@List.mem_singleton
theorem p8:type_of% @List.nodup_append:=@List.nodup_append
theorem nE:type_of% @List.length_take:=@List.length_take
theorem nT:type_of% @Prod.mk.injEq:=@Prod.mk.injEq
theorem n9:type_of% @List.mem_range:=@List.mem_range
theorem kW:type_of% @List.mem_map:=@List.mem_map
theorem nL:type_of% @Nat.lt_or_ge:=@Nat.lt_or_ge
theorem tI:type_of% @List.any_eq_true:=@List.any_eq_true
theorem ze:type_of% @Nat.mul_le_mul_right:=@Nat.mul_le_mul_right
theorem pc:type_of% @Bool.not_eq_true':=@Bool.not_eq_true'
theorem sC:type_of% @List.nodup_cons:=@List.nodup_cons
theorem HI:type_of% @List.length_modify:=@List.length_modify
theorem wb:type_of% @Bool.false_eq_true:=@Bool.false_eq_true
theorem Fy:type_of% @List.eq_nil_of_length_eq_zero:=@List.eq_nil_of_length_eq_zero
theorem si:type_of% @Bool.false_and:=@Bool.false_and
theorem uO:type_of% @Bool.not_eq_true:=@Bool.not_eq_true
theorem qD:type_of% @List.getElem_of_mem:=@List.getElem_of_mem
theorem Em:type_of% @List.mem_of_getElem?:=@List.mem_of_getElem?
theorem yb:type_of% @List.flatMap_cons:=@List.flatMap_cons
theorem D4:type_of% @Array.length_toList:=@Array.length_toList
theorem ig:type_of% @List.length_nil:=@List.length_nil
theorem zbp:type_of% @Int.tmod_eq_emod_of_nonneg:=@Int.tmod_eq_emod_of_nonneg
theorem ir:type_of% @List.length_cons:=@List.length_cons
theorem we:type_of% @List.append_assoc:=@List.append_assoc
theorem wa:type_of% @Bool.and_false:=@Bool.and_false
theorem sS:type_of% @List.map_cons:=@List.map_cons
theorem HG:type_of% @Nat.le_of_ble_eq_true:=@Nat.le_of_ble_eq_true
theorem Fx:type_of% @List.getElem?_drop:=@List.getElem?_drop
theorem tH:type_of% @Nat.zero_add:=@Nat.zero_add
theorem JE:type_of% @Array.getElem?_toList:=@Array.getElem?_toList
theorem NB:type_of% @Array.getD_eq_getD_getElem?:=@Array.getD_eq_getD_getElem?
theorem JD:type_of% @List.flatten_cons:=@List.flatten_cons
theorem sB:type_of% @Nat.le_refl:=@Nat.le_refl
theorem sh:type_of% @List.all_eq_true:=@List.all_eq_true
theorem Ju:type_of% @List.flatten_append:=@List.flatten_append
theorem D3:type_of% @Option.map_some:=@Option.map_some
theorem na:type_of% @List.length_append:=@List.length_append
theorem LX:type_of% @List.not_mem_nil:=@List.not_mem_nil
theorem wc:type_of% @List.mem_filter:=@List.mem_filter
theorem sR:type_of% @List.append_nil:=@List.append_nil
theorem x_:type_of% @Nat.add_mul:=@Nat.add_mul
theorem DY:type_of% @Option.getD_some:=@Option.getD_some
theorem vh:type_of% @Bool.true_and:=@Bool.true_and
theorem KL:type_of% @List.getElem?_range:=@List.getElem?_range
theorem DX:type_of% @Bool.eq_iff_iff:=@Bool.eq_iff_iff
theorem DW:type_of% @Bool.or_eq_true:=@Bool.or_eq_true
theorem uW:type_of% @List.length_map:=@List.length_map
theorem Nl:type_of% @Bool.or_eq_false_iff:=@Bool.or_eq_false_iff
theorem QP:type_of% @List.take_append_drop:=@List.take_append_drop
theorem LW:type_of% @List.map_congr_left:=@List.map_congr_left
theorem Jt:type_of% @List.length_drop:=@List.length_drop
theorem LV:type_of% @List.flatMap_def:=@List.flatMap_def
theorem JC:type_of% @List.length_set:=@List.length_set
theorem HD:type_of% @Nat.add_zero:=@Nat.add_zero
theorem Fw:type_of% @Bool.false_or:=@Bool.false_or
theorem QO:type_of% @List.ext_getElem?:=@List.ext_getElem?
theorem QN:type_of% @List.take_of_length_le:=@List.take_of_length_le
theorem zcz:type_of% @List.take_succ_eq_append_getElem:=@List.take_succ_eq_append_getElem
theorem DU:type_of% @List.getElem_mem:=@List.getElem_mem
theorem Aa:type_of% @Bool.and_true:=@Bool.and_true
theorem NA:type_of% @List.sum_cons:=@List.sum_cons
theorem ZI:type_of% @List.cons.injEq:=@List.cons.injEq
theorem vg:type_of% @Nat.le_trans:=@Nat.le_trans
theorem Nz:type_of% @Option.getD_none:=@Option.getD_none
theorem ZH:type_of% @List.nodup_iff_pairwise_ne:=@List.nodup_iff_pairwise_ne
theorem Ts:type_of% @List.getElem?_set:=@List.getElem?_set
theorem Tr:type_of% @List.Sublist.refl:=@List.Sublist.refl
theorem Q8:type_of% @List.size_toArray:=@List.size_toArray
theorem ZG:type_of% @Array.getElem?_eq_getElem:=@Array.getElem?_eq_getElem
theorem Ny:type_of% @Nat.add_assoc:=@Nat.add_assoc
theorem zdm:type_of% @List.eq_nil_iff_forall_not_mem:=@List.eq_nil_iff_forall_not_mem
theorem Fv:type_of% @Nat.beq_eq:=@Nat.beq_eq
theorem Nx:type_of% @List.any_map:=@List.any_map
theorem ZF:type_of% @List.getElem?_set_self:=@List.getElem?_set_self
theorem VW:type_of% @List.mem_flatten:=@List.mem_flatten
theorem Nw:type_of% @List.all_cons:=@List.all_cons
theorem Y8:type_of% @Nat.lt_of_lt_of_le:=@Nat.lt_of_lt_of_le
theorem KK:type_of% @List.length_filter_le:=@List.length_filter_le
theorem VV:type_of% @List.nodup_nil:=@List.nodup_nil
theorem Q7:type_of% @List.pairwise_iff_getElem:=@List.pairwise_iff_getElem
theorem Nv:type_of% @Nat.one_mul:=@Nat.one_mul
theorem VU:type_of% @Option.some.inj:=@Option.some.inj
theorem zdy:type_of% @Option.bind_eq_some_iff:=@Option.bind_eq_some_iff
theorem zdz:type_of% @List.getElem?_replicate:=@List.getElem?_replicate
theorem Tq:type_of% @Bool.not_false:=@Bool.not_false
theorem ZE:type_of% @List.find?_eq_none:=@List.find?_eq_none
theorem Q6:type_of% @Nat.mul_comm:=@Nat.mul_comm
theorem zed:type_of% @List.getElem?_toArray:=@List.getElem?_toArray
theorem zee:type_of% @List.length_replicate:=@List.length_replicate
theorem HC:type_of% @List.map_append:=@List.map_append
theorem Q5:type_of% @List.any_cons:=@List.any_cons
theorem Nk:type_of% @Bool.or_false:=@Bool.or_false
theorem VT:type_of% @List.getElem?_modify:=@List.getElem?_modify
theorem zej:type_of% @List.getElem?_zipIdx:=@List.getElem?_zipIdx
theorem zek:type_of% @List.getElem?_set_ne:=@List.getElem?_set_ne
theorem Nu:type_of% @List.drop_eq_getElem_cons:=@List.drop_eq_getElem_cons
theorem zem:type_of% @List.sublist_append_right:=@List.sublist_append_right
theorem Y7:type_of% @List.flatMap_nil:=@List.flatMap_nil
theorem ZD:type_of% @Array.toList_map:=@Array.toList_map
theorem Nj:type_of% @List.flatMap_append:=@List.flatMap_append
theorem Nt:type_of% @Nat.ble_eq:=@Nat.ble_eq
theorem zer:type_of% @List.sublist_append_left:=@List.sublist_append_left
theorem QM:type_of% @List.all_nil:=@List.all_nil
theorem Y6:type_of% @List.sum_append:=@List.sum_append
theorem Tp:type_of% @Int.toNat_natCast:=@Int.toNat_natCast
theorem To:type_of% @Nat.sub_self:=@Nat.sub_self
theorem Y5:type_of% @Nat.add_comm:=@Nat.add_comm
theorem VR:type_of% @List.cons_append:=@List.cons_append
theorem zey:type_of% @List.flatten_nil:=@List.flatten_nil
theorem zez:type_of% @Nat.div_eq_of_lt:=@Nat.div_eq_of_lt
theorem Y4:type_of% @Bool.not_true:=@Bool.not_true
set_option linter.unusedVariables false
noncomputable section
open Go
inductive Cell (Ty:Type) (T:Ty->Type) where
 |lit (v:Value)
 |sl (τ:Ty) (xs:List (T τ))
structure kz where
 Ty:Type
 T:Ty->Type
 deq:DecidableEq Ty
 wd:Ty->Nat
 enc:(τ:Ty)->T τ->List (Cell Ty T)
 dec:(τ:Ty)->List (Cell Ty T)->Option (T τ)
 ee:(τ:Ty)->T τ
 flat:Ty->Bool
 kp:∀τ,0<wd τ
 cY:∀τ x,(enc τ x).length=wd τ
 lK:∀τ cs x,dec τ cs=some x->enc τ x=cs
 Lw:∀τ,flat τ=true->∀x c,c∈enc τ x->∃v,c=.lit v
 nR:Ty
 Tx:T nR->Int
 ofB:Int->T nR
 KV:∀n,Tx (ofB n)=n
 E_:∀x,enc nR x=[.lit (.int .u8 (Tx x))]
abbrev kz.C(U:kz):=Cell U.Ty U.T
structure cC(U:kz) where
 τ:U.Ty
 xs:List (U.T τ)
abbrev Key:=Nat×Nat
abbrev Path:=List (Nat×Nat×Nat)
inductive AC (U:kz) where
 |c (x:U.C)
 |e0
 |ref (k:Key) (p:Path)
 |sub (k:Key) (wd lo hi:Nat)
 |kI (k:Key) (p:Path) (i wd off:Nat)
 |jU (k:Key) (off:Nat)
 |ia (cs:List U.C)
 |kn (b:Bool) (τ:U.Ty) (xs:List (U.T τ))
structure AV(U:kz) where
 agg:Bool
 cs:List (AC U)
structure DA(U:kz) where
 agg:Bool
 cs:List U.C
inductive SV (U:kz) where
 |v (x:AV U)
 |uZ (xs:List (AV U))
 |fn (p:List (DA U)->Option Value)
 |Ff (g:FuncId) (oG:List (AV U))
inductive ie (U:kz) where
 |arr (a:cC U) (deep:Bool)
 |box (cs:List (AC U))
 |part (a:cC U) (dead:Nat->Bool)
structure ak(U:kz) where
 n:Nat
 bx:List (Nat×Option (SV U))
 nG:List (Key×Option (ie U))
 aR:List Key
def look{β:Type}(l:List (Nat×Option β))(s:Nat):Option β:=
 match l with
 |[]=>none
 |(t,v)::r=>bif Nat.beq t s then v else look r s
def ik(a b:Key):Bool:=Nat.beq a.1 b.1&&Nat.beq a.2 b.2
def dW{β:Type}(l:List (Key×Option β))(k:Key):Option β:=
 match l with
 |[]=>none
 |(t,v)::r=>bif ik t k then v else dW r k
def ak.get{U:kz}(σ:ak U)(s:Nat):Option (SV U):=look σ.bx s
def ak.bH{U:kz}(σ:ak U)(k:Key):Option (ie U):=dW σ.nG k
inductive DV (U:kz) where
 |one (c:U.C)
 |agg (cs:List U.C)
 |box (cs:List U.C)
 |ptr (cs:List U.C)
 |fn (p:List (DA U)->Option Value)
inductive Mode where
 |ro|wr|mv
 |box (own:Bool)
 deriving DecidableEq
structure Res(U:kz) where
 val:List (DV U)
 fresh:List Bool
 Ip:List (DV U)
structure jw(U:kz) where
 α:Type
 md:List Mode
 of:List (DV U)->Option α
 ds:α->List (DV U)
 pre:α->List Prop
 mS:α->Res U
 law:∀l x,of l=some x->ds x=l
 HX:Nat:=0
 cut:Nat:=0
def jw.want{U:kz}(k:jw U)(ws:List (List (Option U.Ty))):List (List (Option U.Ty)):=match k.cut with
 |0=>ws
 |n+1=>ws.map (List.take (n+1))
structure Env(U:kz) where
 P:Program
 tid:U.Ty->TypeId
 code:TypeId->Option U.Ty
 Na:FuncId->Option (jw U)
 M_:FuncId->Option (jw U):=fun _=>none
 Rd:List (Nat×Array Value):=[]
 fC:TypeId->Nat->List Key->Bool:=fun _ _ _=>false
 shl:TypeId->Bool:=fun _=>false
section
variable{U:kz}(E:Env U)
def Env.isAgg(t:TypeId):Option Bool:=match E.P.underlying t with|some (.struct _)=>some true|some (.array _ _)=>some true|some _=>some false|none=>none
def Env.size(t:TypeId):Option Nat:=(E.P.info? t).map (·.size)
def Env.elem(t:TypeId):Option TypeId:=match E.P.underlying t with|some (.slice e)=>some e|_=>none
def Env.SH(t:TypeId)(f:Nat):Option (Nat×TypeId):=match E.P.underlying t with|some (.struct fs)=>(fs[f]?).map fun f=>(f.offset,f.type)|_=>none
def Env.shape:Nat->TypeId->List (Option U.Ty)
 |0,_=>[]
 |d+1,t=>match E.P.underlying t with
  |some (.struct fs)=>fs.toList.flatMap fun f=>Env.shape d f.type
  |some (.slice e)=>[E.code e]
  |_=>[none]
def Env.yi(t:TypeId):List (Option U.Ty):=match E.P.underlying t with
 |some (.pointer e)=>E.shape 8 e
 |_=>E.shape 8 t
def walk:Path->cC U->Option (List Prop×cC U)
 |[],a=>some ([],a)
 |(i,wd,j)::p,a=>
  bif Nat.beq wd (U.wd a.τ) then
   match(U.enc a.τ (a.xs.getD i (U.ee a.τ)))[j]? with
   |some (.sl τ xs)=>match walk p ⟨τ,xs⟩ with
    |some (ps,b)=>some ((i<a.xs.length)::ps,b)
    |none=>none
   |_=>none
  else none
def TF(τ:U.Ty)(g:List U.C->List U.C)(x:U.T τ):U.T τ:=match U.dec τ (g (U.enc τ x)) with|some y=>y|none=>x
def F5(τ:U.Ty)(xs:List (U.T τ))(i:Nat)(g:List U.C->List U.C):List (U.T τ):=xs.modify i (TF τ g)
theorem aaO{τ:U.Ty}{xs:List (U.T τ)}{i:Nat}{g:List U.C->List U.C}{y:U.T τ}(h:U.dec τ (g (U.enc τ (xs.getD i (U.ee τ))))=some y):F5 τ xs i g=xs.set i y:=by
 unfold F5
 refine QO fun j=> ?_
 rw[VT,Ts]
 by_cases hj:i=j
 ·subst hj
  rw[if_pos rfl]
  by_cases hi:i<xs.length
  ·rw[if_pos hi,eW hi]
   rw[dB,eW hi] at h
   simp only[DY] at h
   simp[TF,h]
  ·rw[if_neg hi,nb (by omega)];rfl
 ·rw[if_neg hj]
  simp[hj]
def ZB:Path->cC U->(cC U->Option (cC U))->Option (cC U)
 |[],a,f=>f a
 |(i,_,j)::p,a,f=>
  let cs:=U.enc a.τ (a.xs.getD i (U.ee a.τ))
  match cs[j]? with
  |some (.sl τ xs)=>
   match ZB p ⟨τ,xs⟩ f with
   |some b=>match U.dec a.τ (cs.set j (.sl b.τ b.xs)) with
    |some _=>some ⟨a.τ,F5 a.τ a.xs i (fun cs=>cs.set j (.sl b.τ b.xs))⟩
    |none=>none
   |none=>none
  |_=>none
def iD(τ:U.Ty)(a:cC U):Option (List (U.T τ)):=
 match U.deq a.τ τ with
 | .isTrue h=>some (h▸a.xs)
 | .isFalse _=>none
abbrev pL(U:kz):=Key->Option (ie U)
structure bX(U:kz) where
 val:Option (SV U)
 dk:List (Nat×ie U)
 kE:List Key
 jh:List (Key×ie U)
 pre:List Prop
def bX.cE(v:SV U)(pre:List Prop:=[]):bX U:=⟨some v,[],[],[],pre⟩
def one(x:AC U):SV U:=.v ⟨false,[x]⟩
def uQ(v:Value):SV U:=one (.c (.lit v))
def bX.lit(v:Value)(pre:List Prop:=[]):bX U:=.cE (uQ v) pre
def fm(tb:pL U)(aR:List Key)(k:Key)(p:Path):Bool:=p.isEmpty||((tb k).isSome&& !(aR.any (ik k)))
def Dq(tb:pL U)(aR:List Key):AC U->Bool
 | .ref k p=>fm tb aR k p
 | .kI k p _ _ _=>fm tb aR k p
 |_=>true
def tx(tb:pL U)(aR:List Key)(cs:List (AC U)):Bool:=cs.all (Dq tb aR)
def pE(tb:pL U)(aR:List Key):AC U->Option (List Prop×cC U)
 | .c (.sl τ xs)=>some ([],⟨τ,xs⟩)
 | .kn _ τ xs=>some ([],⟨τ,xs⟩)
 | .ref k p=>match tb k with
  |some (.arr a _)=>bif fm tb aR k p then walk p a else none
  |_=>none
 | .sub k wd lo hi=>match tb k with
  |some (.arr a _)=>bif Nat.beq wd (U.wd a.τ) then some ([hi<=a.xs.length],⟨a.τ,(a.xs.take hi).drop lo⟩) else none
  |_=>none
 |_=>none
def y3(tb:pL U)(aR:List Key):AC U->Option (List Prop×cC U)
 | .ref k ((i,wd,j)::p)=>match tb k with
  |some (.part a dead)=>bif fm tb aR k ((i,wd,j)::p) then(match walk ((i,wd,j)::p) a with|some (ps,b)=>some ((dead i=false)::ps,b)|none=>none) else none
  |_=>none
 |_=>none
def cellOf(tb:pL U)(aR:List Key)(want:Option U.Ty):AC U->Option (List Prop×U.C)
 | .c x=>some ([],x)
 | .e0=>match want with|some τ=>some ([],.sl τ [])|none=>none
 |x=>match pE tb aR x with
  |some (ps,a)=>some (ps,.sl a.τ a.xs)
  |none=>match y3 tb aR x with
   |some (ps,a)=>some (ps,.sl a.τ a.xs)
   |none=>none
def cellsOf(tb:pL U)(aR:List Key):List (Option U.Ty)->List (AC U)->Option (List Prop×List U.C)
 |_,[]=>some ([],[])
 |ws,x::r=>
  match cellOf tb aR (ws.head?.bind id) x,cellsOf tb aR ws.tail r with
  |some (ps,c),some (qs,cs)=>some (ps++qs,c::cs)
  |_,_=>none
def s6(tb:pL U)(want:Option U.Ty):AC U->Option (List Prop×U.C×List Key×Bool)
 | .c (.lit v)=>some ([],.lit v,[],true)
 | .c (.sl τ xs)=>some ([],.sl τ xs,[],false)
 | .e0=>match want with|some τ=>some ([],.sl τ [],[],true)|none=>none
 | .ref k []=>match tb k with
  |some (.arr a d)=>some ([],.sl a.τ a.xs,[k],d)
  |some (.part a dead)=>some ([∀i,i<a.xs.length->dead i=false],.sl a.τ a.xs,[k],true)
  |_=>none
 | .sub k _ 0 hi=>match tb k with
  |some (.arr a d)=>some ([hi<=a.xs.length],.sl a.τ (a.xs.take hi),[k],d)
  |some (.part a dead)=>some ([hi<=a.xs.length,∀i,i<hi->dead i=false],.sl a.τ (a.xs.take hi),[k],true)
  |_=>none
 |_=>none
def eE(tb:pL U):List (Option U.Ty)->List (AC U)->Option (List Prop×List U.C×List Key×Bool)
 |_,[]=>some ([],[],[],true)
 |ws,x::r=>
  match s6 tb (ws.head?.bind id) x,eE tb ws.tail r with
  |some (ps,c,ks,d),some (qs,cs,ks',d')=>some (ps++qs,c::cs,ks++ks',d&&d')
  |_,_=>none
def distinct:List Key->Bool
 |[]=>true
 |k::r=> !(r.any (ik k))&&distinct r
def C0(t:TypeId)(op:BinOp)(x y:Value):Option (List Prop×Value):=
 match x,y with
 | .int k a,.int k' b=>
  match op with
  | .shl=>some ([0<=b],.int k (k.wrap (a*2^(min b.toNat k.bits))))
  | .shr=>some ([0<=b],.int k (a.fdiv (2^(min b.toNat k.bits))))
  |op=>bif decide (k=k') then(match op with
   | .add=>some ([],.int k (k.wrap (a+b)))
   | .sub=>some ([],.int k (k.wrap (a-b)))
   | .mul=>some ([],.int k (k.wrap (a*b)))
   | .quo=>some ([b≠0],.int k (k.wrap (a.tdiv b)))
   | .rem=>some ([b≠0],.int k (a.tmod b))
   | .and=>some ([],.int k (k.wrap (BitVec.ofInt k.bits a&&&BitVec.ofInt k.bits b).toNat))
   | .or=>some ([],.int k (k.wrap (BitVec.ofInt k.bits a|||BitVec.ofInt k.bits b).toNat))
   | .xor=>some ([],.int k (k.wrap (BitVec.ofInt k.bits a^^^BitVec.ofInt k.bits b).toNat))
   | .eql=>some ([],.bool (a==b))
   | .neq=>some ([],.bool (a !=b))
   | .lss=>some ([],.bool (decide (a<b)))
   | .leq=>some ([],.bool (decide (a<=b)))
   | .gtr=>some ([],.bool (decide (a>b)))
   | .geq=>some ([],.bool (decide (a≥b)))
   |_=>none) else none
 | .string a,.string b=>
  match op with
  | .add=>some ([(a.size+b.size:Nat)<=(4611686018427387904:Nat)],.string (a++b))
  | .eql=>some ([],.bool (a.toList==b.toList))
  | .neq=>some ([],.bool (!(a.toList==b.toList)))
  | .lss=>some ([],.bool (Op.bytesLess a.toList b.toList))
  | .leq=>some ([],.bool (Op.bytesLess a.toList b.toList||a.toList==b.toList))
  | .gtr=>some ([],.bool (!(Op.bytesLess a.toList b.toList||a.toList==b.toList)))
  | .geq=>some ([],.bool (!(Op.bytesLess a.toList b.toList)))
  |_=>none
 | .bool a,.bool b=>
  match E.P.underlying t with
  |some .bool=>match op with
   | .eql=>some ([],.bool (a==b))
   | .neq=>some ([],.bool (!(a==b)))
   |_=>none
  |_=>none
 |_,_=>none
def Env.Kt:Nat->TypeId->List Value->List Value->Option Bool
 |0,_,_,_=>none
 |d+1,t,xs,ys=>match E.P.underlying t with
  |some (.struct fs)=>bif E.P.stoodInHeld t then none else
    fs.toList.foldr (fun f acc=>match E.size f.type,E.isAgg f.type,acc with
     |some n,some g,some r=>bif f.name != "_" &&Nat.ble (f.offset+n) xs.length&&Nat.ble (f.offset+n) ys.length&&(g||Nat.beq n 1) then
       (match Env.Kt d f.type ((xs.drop f.offset).take n) ((ys.drop f.offset).take n) with
       |some b=>some (b&&r)
       |none=>none) else none
     |_,_,_=>none) (some true)
  |some .bool=>match xs,ys with|[.bool a],[.bool b]=>some (a==b)|_,_=>none
  |some (.int _)=>match xs,ys with|[.int k a],[.int k' b]=>bif decide (k=k') then some (a==b) else none|_,_=>none
  |some .string=>match xs,ys with|[.string a],[.string b]=>some (a.toList==b.toList)|_,_=>none
  |_=>none
def qh:List (AC U)->Option (List Value)
 |[]=>some []
 | .c (.lit v)::r=>match qh r with|some l=>some (v::l)|none=>none
 |_=>none
def PP(op:BinOp)(t:TypeId)(x y:SV U):Option (bX U):=match x,y with
 | .v ⟨true,xs⟩,.v ⟨true,ys⟩=>match qh xs,qh ys with
  |some us,some vs=>match E.isAgg t with
   |some true=>bif E.P.eqGuardType E.P.depth t then none else(match op,E.Kt 8 t us vs with
    | .eql,some b=>some (bX.lit (.bool b))
    | .neq,some b=>some (bX.lit (.bool (!b)))
    |_,_=>none)
   |_=>none
  |_,_=>none
 |_,_=>none
def Ir(op:UnOp)(x:Value):Option Value:=
 match op,x with
 | .neg,.int k n=>some (.int k (k.wrap (0-n)))
 | .not,.bool b=>some (.bool (!b))
 |_,_=>none
def n8:Value->Option (AC U)
 | .slice none 0 0=>some .e0
 | .pointer none=>some (.c (.lit (.pointer none)))
 | .int k n=>bif decide (k.min<=n)&&decide (n<=k.max) then some (.c (.lit (.int k n))) else none
 | .bool b=>some (.c (.lit (.bool b)))
 | .string s=>bif Nat.ble s.size 9223372036854775807 then some (.c (.lit (.string s))) else none
 |_=>none
def jf:List Value->Option (List (AC U))
 |[]=>some []
 |v::r=>match n8 v,jf r with
  |some x,some l=>some (x::l)
  |_,_=>none
def qp(cs:Array Value):Option (SV U):=match jf cs.toList with|some l=>some (.v ⟨true,l⟩)|none=>none
def Gy:Value->Option (SV U)
 | .agg cs=>qp cs
 |v=>match n8 v with|some x=>some (one x)|none=>none
def J8(σ:ak U):Operand->Option (SV U)
 | .tmp t=>σ.get t
 | .const v=>Gy v
 | .global _=>none
 | .func g=>some (.Ff g [])
def AC.keys:AC U->List Key
 | .c _| .e0| .ia _| .kn _ _ _=>[]
 | .ref k _| .sub k _ _ _| .kI k _ _ _ _| .jU k _=>[k]
def SV.Ax:SV U->List (AC U)
 | .v x=>x.cs
 | .uZ xs=>xs.flatMap (·.cs)
 | .fn _=>[]
 | .Ff _ xs=>xs.flatMap (·.cs)
def SV.keys(x:SV U):List Key:=x.Ax.flatMap AC.keys
def ak.Aw(σ:ak U)(k:Key):List Key:=
 match σ.bH k with
 |some (.box cs)=>cs.flatMap AC.keys
 |_=>[]
def reach(σ:ak U)(xs:List (SV U)):List Key:=
 let ks:=xs.flatMap SV.keys
 ks++ks.flatMap σ.Aw
def Lc(o:Oper):Bool:=match o.op with
 | .nilCheck _=>true
 | .fieldAddr _ _ _=>true
 |_=>false
def KT(o:Oper):Bool:=match o.op with
 | .move _=>true
 | .assign _=>true
 |_=>false
def oe(σ:ak U)(o:Oper)(xs:List (SV U)):List Key:=bif KT o then[] else bif Lc o then xs.flatMap SV.keys else reach σ xs
def restrict(tb:pL U)(ks:List Key):pL U:=fun k=>bif ks.any (ik k) then tb k else none
def gy(k:Key)(p:Path)(i wd:Nat):List U.C->Nat->List (AC U)
 |[],_=>[]
 | .lit v::r,j=> .c (.lit v)::gy k p i wd r (j+1)
 | .sl _ _::r,j=> .ref k (p++[(i,wd,j)])::gy k p i wd r (j+1)
def loadAt(tb:pL U)(aR:List Key)(agg:Bool)(n:Nat)(x:AC U):Option (bX U):=
 bif agg||Nat.beq n 1 then
  match x with
  | .ia cs=>bif Nat.ble n cs.length then some (.cE (.v ⟨agg,(cs.take n).map .c⟩)) else none
  | .jU k off=>match tb k with
   |some (.box cs)=>bif Nat.ble (off+n) cs.length then some (.cE (.v ⟨agg,(cs.drop off).take n⟩)) else none
   |_=>none
  | .kI k p i wd off=>match tb k with
   |some (.arr a _)=>bif fm tb aR k p then
     match walk p a with
     |some (ps,b)=>
      bif Nat.ble (off+n) (U.wd b.τ)&&Nat.beq wd (U.wd b.τ) then
       some (.cE (.v ⟨agg,gy k p i wd (((U.enc b.τ (b.xs.getD i (U.ee b.τ))).drop off).take n) off⟩) (ps++[i<b.xs.length]))
      else none
     |none=>none
    else none
   |_=>none
  |_=>none
 else none
def CY(tb:pL U)(agg:Bool)(n:Nat):AC U->Option (bX U)
 | .kI k [] i wd off=>match tb k with
  |some (.arr a false)=>bif (agg||Nat.beq n 1)&&Nat.ble (off+n) (U.wd a.τ)&&Nat.beq wd (U.wd a.τ) then
    some (.cE (.v ⟨agg,(((U.enc a.τ (a.xs.getD i (U.ee a.τ))).drop off).take n).map .c⟩) [i<a.xs.length]) else none
  |_=>none
 |_=>none
def Fz:List U.C->List (Option U.Ty)
 |[]=>[]
 | .sl τ _::r=>some τ::Fz r
 | .lit _::r=>none::Fz r
def FG(off i:Nat)(ds:List U.C)(b:cC U):Option (cC U):=
 let cs:=U.enc b.τ (b.xs.getD i (U.ee b.τ))
 match U.dec b.τ (cs.take off++ds++cs.drop (off+ds.length)) with
 |some y=>some ⟨b.τ,bif Nat.beq ds.length (U.wd b.τ) then b.xs.set i y else F5 b.τ b.xs i (fun cs=>cs.take off++ds++cs.drop (off+ds.length))⟩
 |none=>none
theorem WE(off i:Nat)(ds:List U.C)(b:cC U):FG off i ds b=match U.dec b.τ ((U.enc b.τ (b.xs.getD i (U.ee b.τ))).take off++ds++(U.enc b.τ (b.xs.getD i (U.ee b.τ))).drop (off+ds.length)) with|some y=>some ⟨b.τ,b.xs.set i y⟩|none=>none:=by
 unfold FG
 simp only
 split
 ·rename_i y h
  cases Nat.beq ds.length (U.wd b.τ)
  ·simp only[cond_false];rw[aaO h]
  ·rfl
 ·rfl
def storeAt(tb:pL U)(aR:List Key)(x:AV U):AC U->Option (bX U)
 | .jU k off=>match tb k with
  |some (.box cs)=>bif Nat.ble (off+x.cs.length) cs.length then
    some ⟨none,[],[],[(k,.box (cs.take off++x.cs++cs.drop (off+x.cs.length)))],[]⟩ else none
  |_=>none
 | .kI k p i wd off=>match tb k with
  |some (.arr a d)=>bif fm tb aR k p then
    match walk p a with
    |some (ps,b)=>match eE tb (Fz ((U.enc b.τ (b.xs.getD i (U.ee b.τ))).drop off)) x.cs with
     |some (qs,ds,ks,d')=>match ZB p a (FG off i ds) with
      |some a'=>bif Nat.beq wd (U.wd b.τ)&&Nat.ble (off+ds.length) (U.wd b.τ)&&distinct (k::ks)&&((d&&d')||p.isEmpty) then
        some ⟨none,[],ks,[(k,.arr a' (d&&d'))],ps++qs++[i<b.xs.length]⟩ else none
      |none=>none
     |none=>none
    |none=>none
   else none
  |_=>none
 |_=>none
def plain:List (AC U)->Option (List U.C)
 |[]=>some []
 | .c x::r=>match plain r with|some l=>some (x::l)|none=>none
 |_=>none
def vv:List U.C->Bool
 |[]=>true
 | .lit _::r=>vv r
 |_=>false
def rowsOf(τ:U.Ty)(tb:pL U)(want:List (Option U.Ty)):List (SV U)->Option (List Prop×List (U.T τ)×List Key×Bool)
 |[]=>some ([],[],[],true)
 | .v x::r=>
  match eE tb want x.cs,rowsOf τ tb want r with
  |some (ps,cs,ks,d),some (qs,xs,ks',d')=>
   match U.dec τ cs with
   |some y=>some (ps++qs,y::xs,ks++ks',d&&d')
   |none=>none
  |_,_=>none
 |_=>none
def Env.places(t:TypeId):Option (List (Nat×Nat)):=match E.P.underlying t with
 |some (.struct fs)=>fs.toList.mapM (fun f=>(E.P.info? f.type).map fun i=>(f.offset,i.size))
 |_=>none
def gD(pl:List (Nat×Nat))(cells:List (AC U)):List Nat->List (SV U)->Option (List (AC U))
 |[],[]=>some cells
 |f::fs,.v x::r=>match pl[f]? with
  |some (off,n)=>bif Nat.beq x.cs.length n&&Nat.ble (off+n) cells.length then gD pl (cells.take off++x.cs++cells.drop (off+n)) fs r else none
  |none=>none
 |_,_=>none
def ix :SV U->Option Value
 | .v ⟨false,[.c (.lit v)]⟩=>some v
 |_=>none
def tG :SV U->Option (AC U)
 | .v ⟨false,[x]⟩=>some x
 |_=>none
def Cy{α:Type}:List (Option α)->Option (List α)
 |[]=>some []
 |some x::r=>match Cy r with|some l=>some (x::l)|none=>none
 |none::_=>none
def Fj:Option Operand->List (SV U)->Option (Option Int×List (SV U))
 |none,bs=>some (none,bs)
 |some _,b::bs=>match ix b with
  |some (.int _ n)=>some (some n,bs)
  |_=>none
 |some _,[]=>none
def tM(tb:pL U)(aR:List Key)(t:TypeId)(x:SV U)(l h m:Option Int):Option (bX U):=
 match m with
 |some mm=>match h,tG x,(E.elem t).bind E.size with
  |some hh,some y,some _=>match pE tb aR y with
   |some (ps,_)=>some (.cE (one .e0) (ps++[mm=0,hh=0,l.getD 0=0]))
   |none=>match y with
    | .e0=>some (.cE (one .e0) [mm=0,hh=0,l.getD 0=0])
    |_=>none
  |_,_,_=>none
 |none=>match ix x with
  |some (.string s)=>match E.P.underlying t with
   |some .string=>some (.lit (.string (s.extract (l.getD 0).toNat (h.getD s.size).toNat)) [0<=l.getD 0,l.getD 0<=h.getD s.size,h.getD s.size<=s.size])
   |_=>none
  |some _=>none
  |none=>match tG x,(E.elem t).bind E.size with
   |some (.c (.sl τ ys)),some n=>bif Nat.beq n (U.wd τ) then
     some (.cE (one (.c (.sl τ ((ys.take (h.getD ys.length).toNat).drop (l.getD 0).toNat)))) [0<=l.getD 0,l.getD 0<=h.getD ys.length,h.getD ys.length<=ys.length]) else none
   |some (.ref k []),some n=>match tb k with
    |some (.arr r _)=>bif Nat.beq n (U.wd r.τ) then
      some (.cE (one (.sub k (U.wd r.τ) (l.getD 0).toNat (h.getD r.xs.length).toNat)) [0<=l.getD 0,l.getD 0<=h.getD r.xs.length,h.getD r.xs.length<=r.xs.length]) else none
    |some (.part r _)=>bif Nat.beq n (U.wd r.τ) then
      some (.cE (one (.sub k (U.wd r.τ) (l.getD 0).toNat (h.getD r.xs.length).toNat)) [0<=l.getD 0,l.getD 0<=h.getD r.xs.length,h.getD r.xs.length<=r.xs.length]) else none
    |_=>none
   |_,_=>none
def tC(tb:pL U)(aR:List Key)(want:List (Option U.Ty))(x:SV U):Option (List Prop×DV U):=
 match x with
 | .v ⟨false,[.ia cs]⟩=>some ([],.ptr cs)
 | .v ⟨false,[.jU k off]⟩=>match tb k with
  |some (.box cs)=>match plain cs with|some l=>some ([],.ptr (l.drop off))|none=>none
  |_=>none
 | .v ⟨false,[y]⟩=>match cellOf tb aR (want.head?.bind id) y with|some (ps,c)=>some (ps,.one c)|none=>none
 | .v ⟨true,cs⟩=>match cellsOf tb aR want cs with|some (ps,l)=>some (ps,.agg l)|none=>none
 |_=>none
def DA.dv:DA U->DV U
 |⟨false,[c]⟩=> .one c
 |⟨_,cs⟩=> .agg cs
noncomputable def eN(k:jw U)(oG:List (DV U))(ds:List (DA U)):Option Value:=
 match k.of (ds.map DA.dv++oG) with
 |some x=>match(k.mS x).val,(k.mS x).Ip with
  |[.one (.lit v)],[]=>@ite _ (k.md.length=ds.length+oG.length/\∀p∈k.pre x,p) (Classical.propDecidable _) (some v) none
  |_,_=>none
 |none=>none
def tz(tb:pL U)(aR:List Key):List (AV U)->Option (List Prop×List (DV U))
 |[]=>some ([],[])
 |x::r=>match tC tb aR [] (.v x),tz tb aR r with
  |some (ps,d),some (qs,ds)=>some (ps++qs,d::ds)
  |_,_=>none
def pF:List Mode->Bool
 |[]=>true
 | .ro::r=>pF r
 |_=>false
def Jd(tb:pL U)(aR:List Key)(want:List (Option U.Ty))(x:SV U):Option (List Prop×DV U):=
 match x with
 | .fn p=>some ([],.fn p)
 | .Ff g xs=>match E.Na g,tz tb aR xs with
  |some k,some (ps,ds)=>bif pF k.md&&Nat.ble xs.length k.md.length then some (ps,.fn (eN k ds)) else none
  |_,_=>none
 |x=>tC tb aR want x
def Kv(x:AV U)(cs:List U.C):Option (DV U):=
 bif x.agg then some (.agg cs) else match cs with|[c]=>some (.one c)|_=>none
def iT(tb:pL U):List (AC U)->Option (List U.C×List Key)
 |[]=>some ([],[])
 | .c (.lit v)::r=>match iT tb r with|some (cs,ks)=>some (.lit v::cs,ks)|none=>none
 | .ref k []::r=>match tb k,iT tb r with
  |some (.arr a true),some (cs,ks)=>some (.sl a.τ a.xs::cs,k::ks)
  |_,_=>none
 |_=>none
def AC.still:AC U->Bool
 | .c _=>true
 | .e0=>true
 | .ref _ []=>true
 | .jU _ _=>true
 |_=>false
def k8(tb:pL U)(aR:List Key)(want:List (Option U.Ty))(m:Mode)(x:SV U):Option (List Prop×DV U×List Key):=
 match m,x with
 | .wr,.v ⟨false,[.ref k p]⟩=>match tb k with
  |some (.arr a true)=>bif fm tb aR k p then match walk p a with|some (ps,b)=>some (ps,.one (.sl b.τ b.xs),[k])|none=>none else none
  |_=>none
 | .wr,.v ⟨true,cs⟩=>match iT tb cs with
  |some (ds,ks)=>bif distinct ks then some ([],.agg ds,ks) else none
  |none=>none
 | .mv,.v y=>match eE tb want y.cs with
  |some (ps,cs,ks,true)=>match Kv y cs with
   |some d=>bif distinct ks then some (ps,d,ks) else none
   |none=>none
  |_=>none
 | .box true,.v ⟨false,[.jU k 0]⟩=>match tb k with
  |some (.box cs)=>bif Nat.ble want.length cs.length&&(cs.drop want.length).all AC.still then
    match eE tb want (cs.take want.length) with
    |some (ps,l,ks,true)=>bif distinct (k::ks) then some (ps,.box l,k::ks) else none
    |_=>none
   else none
  |_=>none
 | .box false,.v ⟨false,[.jU k 0]⟩=>match tb k with
  |some (.box cs)=>bif Nat.ble want.length cs.length&&(cs.drop want.length).all AC.still then
    match plain (cs.take want.length) with
    |some l=>some ([],.box l,[k])
    |none=>none
   else none
  |_=>none
 |_,_=>none
def tD(tb:pL U)(aR:List Key)(want:List (Option U.Ty))(m:Mode)(x:SV U):Option (List Prop×DV U):=
 match m with
 | .ro=>Jd E tb aR want x
 |m=>match k8 tb aR want m x with|some (ps,d,_)=>some (ps,d)|none=>none
def mL(tb:pL U)(aR:List Key):List Mode->List (List (Option U.Ty))->List (SV U)->Option (List Prop×List (DV U))
 |[],_,[]=>some ([],[])
 |m::ms,ws,x::r=>
  match tD E tb aR (ws.headD []) m x,mL tb aR ms ws.tail r with
  |some (ps,d),some (qs,ds)=>some (ps++qs,d::ds)
  |_,_=>none
 |_,_,_=>none
def putCells(dst:Nat)(fresh:Bool)(base:Nat):List U.C->List (AC U)×List (Nat×ie U)
 |[]=>([],[])
 | .lit v::r=>(.c (.lit v)::(putCells dst fresh (base+1) r).1,(putCells dst fresh (base+1) r).2)
 | .sl τ xs::r=>bif fresh then(.ref (dst,base) []::(putCells dst fresh (base+1) r).1,(base,.arr ⟨τ,xs⟩ true)::(putCells dst fresh (base+1) r).2)
   else(.c (.sl τ xs)::(putCells dst fresh (base+1) r).1,(putCells dst fresh (base+1) r).2)
def H9(dst:Nat)(fresh:Bool)(base:Nat):DV U->Option (AV U×List (Nat×ie U))
 | .one c=>some (⟨false,(putCells dst fresh base [c]).1⟩,(putCells dst fresh base [c]).2)
 | .agg cs=>some (⟨true,(putCells dst fresh base cs).1⟩,(putCells dst fresh base cs).2)
 | .box cs=>bif fresh then some (⟨false,[.jU (dst,base) 0]⟩,[(base,.box (cs.map .c))]) else none
 | .ptr _=>none
 | .fn _=>none
def CJ(dst:Nat)(fs:List Bool)(base:Nat):List (DV U)->Option (List (AV U)×List (Nat×ie U))
 |[]=>some ([],[])
 |d::r=>match H9 dst (fs.headD true) base d,CJ dst fs.tail (base+32) r with
  |some (x,e),some (xs,es)=>some (x::xs,e++es)
  |_,_=>none
def DV.safe(fresh:Bool):DV U->Bool
 | .one c=>fresh||vv [c]
 | .agg cs=>fresh||vv cs
 | .box _=>false
 | .ptr _=>false
 | .fn _=>false
def tP:List Bool->List (DV U)->Bool
 |_,[]=>true
 |fs,d::r=>d.safe (fs.headD true)&&tP fs.tail r
def yK(ms:List Mode):Bool:=ms.any fun m=>match m with| .box false=>true|_=>false
def lh:List (AC U)->List U.C->Option (List (Key×ie U))
 |[],[]=>some []
 | .c (.lit _)::r,.lit _::cs=>lh r cs
 | .ref k []::r,.sl τ ys::cs=>match lh r cs with|some us=>some ((k,.arr ⟨τ,ys⟩ true)::us)|none=>none
 |_,_=>none
def gO(tb:pL U)(mB n:Nat)(m:Mode)(x:SV U)(dm:List (DV U)):Option (List (Key×ie U)×List (Nat×ie U)):=
 match m,x,dm with
 | .wr,.v ⟨false,[.ref k p]⟩,[.one (.sl τ ys)]=>match tb k with
  |some (.arr a true)=>match ZB p a (fun b=>match iD b.τ ⟨τ,ys⟩ with|some zs=>some ⟨b.τ,zs⟩|none=>none) with
   |some a'=>some ([(k,.arr a' true)],[])
   |none=>none
  |_=>none
 | .wr,.v ⟨true,cs⟩,[.agg ds]=>match lh cs ds with|some us=>some (us,[])|none=>none
 | .mv,_,[]=>some ([],[])
 | .box true,.v ⟨false,[.jU k 0]⟩,[.box ds]=>match tb k with
  |some (.box cs)=>bif Nat.beq ds.length n then some ([(k,.box ((putCells mB true 512 ds).1++cs.drop n))],(putCells mB true 512 ds).2) else none
  |_=>none
 | .box false,.v ⟨false,[.jU k 0]⟩,[.box ds]=>match tb k with
  |some (.box cs)=>bif Nat.beq ds.length n then some ([(k,.box (ds.map .c++cs.drop n))],[]) else none
  |_=>none
 |_,_,_=>none
def Af:Mode->List (DV U)->List (DV U)
 | .mv,_=>[]
 |_,ds=>ds.take 1
def wO:Mode->List (DV U)->List (DV U)
 | .mv,ds=>ds
 |_,ds=>ds.drop 1
def kZ(tb:pL U)(aR:List Key)(mB:Nat):List Mode->List (List (Option U.Ty))->List (SV U)->List (DV U)->Option (List (Key×ie U)×List (Nat×ie U)×List Key)
 |[],_,[],[]=>some ([],[],[])
 | .ro::ms,ws,_::r,ds=>kZ tb aR mB ms ws.tail r ds
 |m::ms,ws,x::r,ds=>match k8 tb aR (ws.headD []) m x,gO tb mB (ws.headD []).length m x (Af m ds) with
  |some (_,_,ks),some (us,es)=>match kZ tb aR mB ms ws.tail r (wO m ds) with
   |some (Nn,YE,ks')=>bif distinct (ks++ks') then some (us++Nn,es++YE,ks++ks') else none
   |none=>none
  |_,_=>none
 |_,_,_,_=>none
def fB:List Mode->List (SV U)->List Key
 | .ro::ms,x::r=>x.keys++fB ms r
 |_::ms,_::r=>fB ms r
 |_,_=>[]
def mI:List Nat->Bool
 |[]=>true
 |n::r=> !(r.any (Nat.beq n))&&mI r
def CD(tb:pL U)(n:Nat):List Mode->List (List (Option U.Ty))->List (SV U)->Bool
 |m::ms,ws,x::r=>(match m,x with
  | .box _,.v ⟨false,[.jU k _]⟩=>(match tb k with
   |some (.box cs)=>Nat.beq ((ws.headD []).length+n) cs.length
   |_=>false)
  | .box _,_=>false
  |_,_=>true)&&CD tb n ms ws.tail r
 |_,_,_=>true
def yY(tb:pL U)(aR:List Key)(dst:Nat)(k:jw U)(types:List TypeId)(xs:List (SV U)):Option (bX U):=
 match mL E tb aR k.md (k.want (types.map E.yi)) xs with
 |some (ps,ds)=>
  match k.of ds with
  |some x=>
   match kZ tb aR dst k.md (k.want (types.map E.yi)) xs (k.mS x).Ip,CJ dst (k.mS x).fresh 0 (k.mS x).val with
   |some (us,eb,lk),some (vs,es)=>
    let kE:=(bif tP (k.mS x).fresh (k.mS x).val&& !(yK k.md) then[] else fB k.md xs)++lk
    bif mI ((es++eb).map (·.1))&& !(lk.any fun u=>(fB k.md xs).any (ik u))&&CD tb k.HX k.md (k.want (types.map E.yi)) xs then
     some ⟨some (match vs with|[v]=> .v v|vs=> .uZ vs),es++eb,kE,us,ps++k.pre x⟩
    else none
   |_,_=>none
  |none=>none
 |none=>none
def FY(τ:U.Ty)(tb:pL U):AC U->Option (List Prop×List (U.T τ)×List Key×Bool)
 | .e0=>some ([],[],[],true)
 | .ref k []=>match tb k with
  |some (.arr a d)=>match iD τ a with|some ys=>some ([],ys,[k],d)|none=>none
  |_=>none
 | .c (.sl El ys)=>match iD τ ⟨El,ys⟩ with|some ys=>some ([],ys,[],U.flat τ)|none=>none
 |_=>none
def ZW:AC U->AC U
 | .kn _ τ xs=> .c (.sl τ xs)
 |x=>x
def J_(τ:U.Ty)(tb:pL U)(x:AC U):Option (List Prop×List (U.T τ)×List Key×Bool):=FY τ tb (ZW x)
def Ab(τ:U.Ty)(s:ByteArray):Option (List (U.T τ)):=iD τ ⟨U.nR,s.data.toList.map fun b=>U.ofB (b.toNat:Int)⟩
def tm(τ:U.Ty)(tb:pL U):AC U->Option (List Prop×List (U.T τ)×List Key×Bool)
 | .e0=>some ([],[],[],true)
 | .ref k []=>match tb k with
  |some (.arr a d)=>match iD τ a with|some ys=>some ([],ys,[k],d)|none=>none
  |some (.part a dead)=>match iD τ a with|some ys=>some ([∀i,i<ys.length->dead i=false],ys,[k],true)|none=>none
  |_=>none
 | .sub k _ 0 hi=>match tb k with
  |some (.arr a d)=>match iD τ a with|some ys=>some ([hi<=ys.length],ys.take hi,[k],d)|none=>none
  |_=>none
 |_=>none
def OC(E:Env U)(op:BinOp)(t:TypeId)(y:Operand)(x:SV U):Option (bX U):=
 match op,y,x with
 | .eql,.const (.slice none _ _),.v ⟨false,[.kn b _ _]⟩=>match E.P.underlying t with|some (.slice _)=>some (.lit (.bool b))|_=>none
 |_,_,_=>none
def bC:Option Value->Bool
 |some (.bool b)=>b
 |_=>false
def intOf:Option Value->Int
 |some (.int _ n)=>n
 |_=>0
def zC(tb:pL U)(aR:List Key):List (List (Option U.Ty))->List (SV U)->Option (List Prop×List (DA U))
 |_,[]=>some ([],[])
 |ws,x::r=>match tC tb aR (ws.headD []) x,zC tb aR ws.tail r with
  |some (ps,.one c),some (qs,ds)=>some (ps++qs,⟨false,[c]⟩::ds)
  |some (ps,.agg cs),some (qs,ds)=>some (ps++qs,⟨true,cs⟩::ds)
  |_,_=>none
def partOf(tb:pL U):AC U->Option (cC U)
 | .ref k []=>match tb k with
  |some (.part a _)=>some a
  |_=>none
 |_=>none
def Ka(tb:pL U)(dst:Nat)(agg:Bool)(n:Nat):AC U->Option (bX U)
 | .kI k [] i wd off=>match tb k with
  |some (.part a dead)=>bif (agg||Nat.beq n 1)&&Nat.ble (off+n) (U.wd a.τ)&&Nat.beq wd (U.wd a.τ) then
    let cs:=((U.enc a.τ (a.xs.getD i (U.ee a.τ))).drop off).take n
    bif vv cs then some (.cE (.v ⟨agg,cs.map .c⟩) [i<a.xs.length,dead i=false])
    else bif Nat.blt n (U.wd a.τ) then some (.cE (.v ⟨agg,gy k [] i wd cs off⟩) [i<a.xs.length,dead i=false])
    else bif mI ((putCells dst true 0 cs).2.map (·.1)) then
     some ⟨some (.v ⟨agg,(putCells dst true 0 cs).1⟩),(putCells dst true 0 cs).2,[],[(k,.part a (fun j=>Nat.beq j i||dead j))],[i<a.xs.length,dead i=false]⟩
    else none
   else none
  |_=>none
 |_=>none
def C2(wd:Nat):List (SV U)->Bool
 |[]=>true
 | .v x::r=>Nat.beq x.cs.length wd&&C2 wd r
 |_=>false
def FU(τ:U.Ty)(tb:pL U):AC U->Option (List (U.T τ)×List Key)
 | .ref k []=>match tb k with
  |some (.part a _)=>match iD τ a with|some ys=>some (ys,[k])|none=>none
  |_=>none
 |_=>none
def yg(tb:pL U)(x:AV U):AC U->Option (bX U)
 | .kI k [] i wd 0=>match tb k with
  |some (.part a dead)=>bif Nat.beq wd (U.wd a.τ)&&Nat.beq x.cs.length wd then
    match eE tb (Fz (U.enc a.τ (a.xs.getD i (U.ee a.τ)))) x.cs with
    |some (qs,ds,ks,true)=>match U.dec a.τ ds with
     |some y=>bif distinct (k::ks) then some ⟨none,[],ks,[(k,.part ⟨a.τ,a.xs.set i y⟩ (fun j=> !(Nat.beq j i)&&dead j))],qs++[i<a.xs.length]⟩ else none
     |none=>none
    |_=>none
   else none
  |_=>none
 |_=>none
def yh(tb:pL U)(x:AV U):AC U->Option (bX U)
 | .kI k [] i wd off=>match tb k,qh x.cs with
  |some (.part a dead),some vs=>bif Nat.beq wd (U.wd a.τ)&&Nat.ble (off+x.cs.length) wd then
    match FG off i (vs.map .lit) a with
    |some a'=>some ⟨none,[],[],[(k,.part a' dead)],[i<a.xs.length,dead i=false]⟩
    |none=>none
   else none
  |_,_=>none
 |_=>none
def zF:List (SV U)->Option (List (AV U))
 |[]=>some []
 | .v x::r=>match zF r with|some l=>some (x::l)|none=>none
 |_=>none
def Dd(E:Env U)(tb:pL U)(aR:List Key)(t:TypeId)(types:List TypeId)(p:List (DA U)->Option Value)(xs:List (SV U)):Option (bX U):=
 match zC tb aR (types.map E.yi) xs with
 |some (ps,ds)=>match E.P.underlying t with
  |some .bool=>some (.lit (.bool (bC (p ds))) (ps++[p ds=some (.bool (bC (p ds)))]))
  |some (.int k)=>some (.lit (.int k (intOf (p ds))) (ps++[p ds=some (.int k (intOf (p ds)))]))
  |_=>none
 |none=>none
def Env.SY(b:Bool)(f:FuncId):Option (jw U):=bif b then E.M_ f else E.Na f
def yU(b:Bool)(tb:pL U)(aR:List Key)(o:Oper)(xs:List (SV U)):Option (bX U):=
 let dst:=o.dst.getD 1000000
 match o.op,xs with
 | .move _,[x]=>some (.cE x)
 | .assign _,[x]=>some (.cE x)
 | .unOp op _ _,[x]=>match ix x with
  |some v=>(Ir op v).map (.lit ·)
  |none=>none
 | .binOp op t _ q _,[x,y]=>match ix x,ix y with
  |some a,some b=>(C0 E t op a b).map fun(ps,v)=> .lit v ps
  |_,_=>match PP E op t x y with|some r=>some r|none=>OC E op t q x
 | .extract _ i,[.uZ l]=>(l[i]?).map fun v=> .cE (.v v)
 | .alloc t,[]=>
  match(E.P.info? t).bind (·.zero) with
  |some z=>match qp (U:=U) z.cells with
   |some (.v x)=>some ⟨some (one (.jU (dst,0) 0)),[(0,.box x.cs)],[],[],[]⟩
   |_=>none
  |none=>none
 | .load t _,[x]=>match tG x,E.size t,E.isAgg t with
  |some a,some n,some g=>match(bif E.shl t then CY tb g n a else none) with
   |some r=>some r
   |none=>match loadAt tb aR g n a with
    |some r=>some r
    |none=>Ka tb dst g n a
  |_,_,_=>none
 | .store t _ _,[p,.v x]=>match tG p,E.size t with
  |some a,some n=>bif Nat.beq n x.cs.length then(match storeAt tb aR x a with
   |some r=>some r
   |none=>match yg tb x a with
    |some r=>some r
    |none=>yh tb x a) else none
  |_,_=>none
 | .fieldAddr t _ f,[x]=>match tG x,E.SH t f with
  |some y,some (o,ft)=>match E.size ft with
   |some (_+1)=>match y with
    | .ia cs=>some (.cE (one (.ia (cs.drop o))))
    | .jU k off=>some (.cE (one (.jU k (off+o))))
    | .kI k p i wd off=>bif fm tb aR k p then some (.cE (one (.kI k p i wd (off+o)))) else none
    |_=>none
   |_=>none
  |_,_=>none
 | .field t _ f,[.v ⟨true,cs⟩]=>match E.SH t f with
  |some (o,ft)=>match E.size ft,E.isAgg ft with
   |some n,some g=>bif Nat.ble (o+n) cs.length&&(g||Nat.beq n 1) then some (.cE (.v ⟨g,(cs.drop o).take n⟩)) else none
   |_,_=>none
  |none=>none
 | .build t parts,xs=>match E.places t,(E.P.info? t).bind (·.zero) with
  |some pl,some z=>match jf (U:=U) z.cells.toList with
   |some l=>match gD pl l (parts.toList.map (·.1)) xs with
    |some cs=>some (.cE (.v ⟨true,cs⟩))
    |none=>none
   |none=>none
  |_,_=>none
 | .buildSlice t len parts,xs=>match E.elem t with
  |some e=>match E.code e with
   |some τ=>bif (parts.toList.map (·.1)).length.beq len&&((parts.toList.map (·.1)).zipIdx).all (fun(a,b)=>Nat.beq a b)&&Nat.ble (len*U.wd τ) 1000000 then
     bif E.fC t dst (xs.flatMap SV.keys) then
      bif C2 (U.wd τ) xs then some ⟨some (one (.ref (dst,0) [])),[(0,.part ⟨τ,List.replicate len (U.ee τ)⟩ (fun _=>true))],[],[],[]⟩ else none
     else match rowsOf τ tb (E.shape 8 e) xs with
     |some (ps,rows,ks,d)=>bif distinct ks then some ⟨some (one (.ref (dst,0) [])),[(0,.arr ⟨τ,rows⟩ d)],ks,[],ps⟩ else none
     |none=>none
    else none
   |none=>none
  |none=>none
 | .makeSlice t _ _,[l,c]=>match E.elem t,ix l,ix c with
  |some e,some (.int .i64 n),some (.int .i64 m)=>match E.code e with
   |some τ=>some ⟨some (one (.ref (dst,0) [])),[(0,.arr ⟨τ,List.replicate n.toNat (U.ee τ)⟩ true)],[],[],[0<=n,n=m,n<=4294967296]⟩
   |none=>none
  |_,_,_=>none
 | .indexAddr t _ _,[x,i]=>match ix i,tG x,(E.elem t).bind E.size with
  |some (.int _ n),some y,some m=>match y with
   | .c (.sl τ ys)=>bif Nat.beq m (U.wd τ) then some (.cE (one (.ia (U.enc τ (ys.getD n.toNat (U.ee τ))))) [0<=n,n.toNat<ys.length]) else none
   | .ref k p=>match pE tb aR (.ref k p) with
    |some (ps,a)=>bif Nat.beq m (U.wd a.τ) then some (.cE (one (.kI k p n.toNat (U.wd a.τ) 0)) (ps++[0<=n,n.toNat<a.xs.length])) else none
    |none=>match p,partOf tb (.ref k []) with
     |[],some a=>bif Nat.beq m (U.wd a.τ) then some (.cE (one (.kI k [] n.toNat (U.wd a.τ) 0)) [0<=n,n.toNat<a.xs.length]) else none
     |_,_=>none
   |_=>none
  |_,_,_=>none
 | .index t _ _,[x,i]=>match ix x,ix i,E.P.underlying t with
  |some (.string s),some (.int _ n),some .string=>some (.lit (.int .u8 ((s.data.toList.getD n.toNat 0).toNat:Int)) [0<=n,n.toNat<s.size])
  |_,_,_=>none
 | .slice t _ lo hi mx,x::bs=>match Fj lo bs with
  |some (l,bs1)=>match Fj hi bs1 with
   |some (h,bs2)=>match Fj mx bs2 with
    |some (m,[])=>tM E tb aR t x l h m
    |_=>none
   |none=>none
  |none=>none
 | .call {callee:=.builtin .len,argTypes,..},[x]=>match argTypes.toList with
  |[t]=>match ix x with
   |some (.string s)=>match E.P.underlying t with
    |some .string=>some (.lit (.int .i64 s.size))
    |_=>none
   |some _=>none
   |none=>match tG x,E.elem t with
    |some .e0,some _=>some (.lit (.int .i64 0))
    |some a,some _=>match pE tb aR a with
     |some (ps,b)=>some (.lit (.int .i64 b.xs.length) ps)
     |none=>match partOf tb a with
      |some b=>some (.lit (.int .i64 b.xs.length))
      |none=>none
    |_,_=>none
  |_=>none
 | .call {callee:=.builtin .clear,argTypes,..},[x]=>match argTypes.toList with
  |[t]=>match E.elem t,tG x with
   |some e,some (.sub k wd lo hi)=>match E.code e,tb k with
    |some τ,some (.part a dead)=>bif Nat.beq wd (U.wd a.τ) then(match iD τ a with
     |some xs=>some ⟨some (.uZ []),[],[],[(k,.part ⟨τ,xs⟩ (fun j=>dead j||Nat.ble lo j))],[lo<=hi,hi=xs.length]⟩
     |none=>none) else none
    |_,_=>none
   |_,_=>none
  |_=>none
 | .call {callee:=.builtin .min,..},[x,y]=>match ix x,ix y with
  |some (.int k a),some (.int k' b)=>bif decide (k=k') then some (.lit (.int k (if b<a then b else a))) else none
  |_,_=>none
 | .call {callee:=.builtin .max,..},[x,y]=>match ix x,ix y with
  |some (.int k a),some (.int k' b)=>bif decide (k=k') then some (.lit (.int k (if b>a then b else a))) else none
  |_,_=>none
 | .call {callee:=.builtin .append,argTypes,..},[s,x]=>
  match argTypes.toList with
  |[t,u]=>match E.elem t,E.elem u,tG s,tG x with
   |some e,some e',some s,some x=>bif Nat.beq t u&&Nat.beq e e' then
    match E.code e with
    |some τ=>
     match tm τ tb s,J_ τ tb x with
     |some (ps,xs,ks,d),some (qs,ys,ks',d')=>
      bif distinct (ks++ks') then
       some ⟨some (one (.ref (dst,0) [])),[(0,.arr ⟨τ,xs++ys⟩ (d&&d'))],ks++ks',[],ps++qs++[xs.length+ys.length<=4294967296]⟩
      else none
     |some (ps,xs,ks,true),none=>match FU τ tb x with
      |some (ys,ks')=>bif distinct (ks++ks') then
        some ⟨some (one (.ref (dst,0) [])),[(0,.part ⟨τ,xs++ys⟩ (fun i=>Nat.ble xs.length i))],ks++ks',[],ps++[xs.length+ys.length<=4294967296]⟩
       else none
      |none=>none
     |_,_=>none
    |none=>none else none
   |some e,none,some s,some (.c (.lit (.string str)))=>match E.P.underlying u,E.code e with
    |some .string,some τ=>match tm τ tb s,Ab τ str with
     |some (ps,xs,ks,d),some ys=>bif distinct ks then
       some ⟨some (one (.ref (dst,0) [])),[(0,.arr ⟨τ,xs++ys⟩ d)],ks,[],ps++[xs.length+ys.length<=4294967296]⟩ else none
     |_,_=>none
    |_,_=>none
   |_,_,_,_=>none
  |_=>none
 | .makeFunc (.func g) first _,xs=>bif first.isEmpty then(match zF xs with|some l=>some (.cE (.Ff g l))|none=>none) else none
 | .call {callee:=.value (.tmp _),argTypes,..},.fn p::xs=>Dd E tb aR o.type argTypes.toList p xs
 | .call {callee:=.value (.func f),argTypes,..},xs=>match E.SY b f with
  |some k=>yY E tb aR dst k argTypes.toList xs
  |none=>none
 | .box _ _,[.v x]=>bif tx tb aR x.cs&&(x.agg||Nat.beq x.cs.length 1) then some ⟨some (one (.jU (dst,0) 0)),[(0,.box x.cs)],[],[],[]⟩ else none
 | .nilCheck _,[x]=>match tG x with
  |some (.ia _)=>some (.cE x)
  |some (.jU _ _)=>some (.cE x)
  |some (.kI k p _ _ _)=>bif fm tb aR k p then some (.cE x) else none
  |_=>none
 | .convert s d _,[x]=>match E.P.underlying d with
  |some (.int k)=>match E.P.underlying s,ix x with
   |some (.int _),some (.int _ n)=>some (.lit (.int k (k.wrap n)))
   |_,_=>none
  |some .string=>match E.P.underlying s with
   |some (.slice e)=>match E.P.underlying e,tG x with
    |some (.int .u8),some .e0=>some (.lit (.string ByteArray.empty))
    |some (.int .u8),some y=>match pE tb aR y with
     |some (ps,b)=>match iD U.nR b with
      |some ys=>some (.lit (.string (strOfNums (ys.map U.Tx))) ps)
      |none=>none
     |none=>none
    |_,_=>none
   |_=>none
  |_=>none
 |_,_=>none
def Oper.looks(o:Oper):List Operand:=
 match o.op with
 | .build _ ps=>ps.toList.map (·.2)
 | .buildSlice _ _ ps=>ps.toList.map (·.2)
 | .call c=>(match c.callee with| .value (.func _)=>[]| .builtin _=>[]| .value f=>[f]| .invoke r _=>[r])++c.args.toList
 |op=>op.operands.toList
def pX(σ:ak U)(o:Oper):Option (List (SV U)):=Cy ((Oper.looks o).map (J8 σ))
def pB(σ:ak U)(o:Oper):Bool:=match o.dst with|some d=>Nat.blt d σ.n|none=>true
def Er(x:Option (SV U)):Option Value:=match x with|some y=>ix y|none=>none
def yo(σ:ak U)(x:Operand):Option Value:=Er (J8 σ x)
def kindOk(o:Oper):Bool:=match o.op with
 | .store _ _ _=>o.dst.isNone
 | .alloc _| .box _ _| .buildSlice _ _ _| .makeSlice _ _ _=>o.dst.isSome
 | .call c=>(match c.callee with| .builtin .clear=>true| .builtin _=>o.dst.isSome|_=>true)
 |_=>true
def step(b:Bool)(σ:ak U)(o:Oper):Option (bX U×List Key):=
 bif pB σ o&&kindOk o then
  match o.op with
  | .pick c a b=>
   match yo σ c with
   |some (.bool t)=>match(bif t then J8 σ a else J8 σ b) with
    |some x=>some (.cE x,[])
    |none=>none
   |_=>none
  |_=>match pX σ o with
   |some xs=>match yU E b (restrict σ.bH (oe σ o xs)) σ.aR o xs with
    |some r=>some (r,oe σ o xs)
    |none=>none
   |none=>none
 else none
def ol(dst:Nat)(l:List (Nat×ie U)):List (Key×Option (ie U)):=l.map fun(j,e)=>((dst,j),some e)
def apply(o:Oper)(r:bX U)(σ:ak U):ak U:=
 {σ with
  bx:=(match o.dst with|some d=>(d,r.val)::σ.bx|none=>σ.bx)
  nG:=ol (o.dst.getD 1000000) r.dk++r.jh.map (fun(k,e)=>(k,some e))++r.kE.map (fun k=>(k,none))++σ.nG
  aR:=r.jh.map (·.1)++σ.aR}
def ye:bX U:=⟨some (.uZ []),[],[],[],[]⟩
structure Rec where
 i:Nat
 reads:List Key
 names:List Key
 writes:List Key
 news:List Key
def bX.news(dst:Nat)(r:bX U):List Key:=r.dk.map fun(j,_)=>(dst,j)
def bX.writes(dst:Nat)(r:bX U):List Key:=r.dk.map (fun(j,_)=>(dst,j))++r.kE++r.jh.map (·.1)
def ie.names:ie U->List Key
 | .box cs=>cs.flatMap AC.keys
 | .arr _ _=>[]
 | .part _ _=>[]
def bX.names(r:bX U):List Key:=
 (match r.val with|some x=>x.keys|none=>[])++r.dk.flatMap (fun(_,e)=>e.names)++r.jh.flatMap (fun(_,e)=>e.names)
def rz(dst:Nat)(r:bX U)(rs:List Rec):Bool:=r.dk.isEmpty||rs.all fun x=> !((x.reads++x.names++x.writes).any fun k=>Nat.beq k.1 dst)
def vQ(o:Oper)(r:bX U):Bool:=r.dk.all fun(j,_)=>Nat.blt j 1024
def meet(a b:List Key):Bool:=a.any fun k=>b.any (ik k)
def akA(ops:List Oper):List Nat:=
 ops.foldl (fun acc o=>acc++[o.after.toList.foldl (fun m e=>bif Region.binds .any e then Nat.lor m (Nat.lor (Nat.shiftLeft 1 e.on) (acc.getD e.on 0)) else m) 0]) []
def xp(m i:Nat):Bool:=Nat.beq (Nat.land (Nat.shiftRight m i) 1) 1
def yL(ops:List Oper)(o:Oper):List Nat:=
 match o.guard with
 |some (g,_)=>match ops[g]? with|some q=>q.dst.toList|none=>[]
 |none=>[]
def slotsOf(ops:List Oper)(o:Oper):List Nat:=
 (o.op.operands.toList.flatMap fun| .tmp t=>[t]|_=>[])++yL ops o
def GF(ops:List Oper)(x y:Oper)(rx ry:Rec):Bool:=
 !(meet rx.writes (ry.reads++ry.writes))&& !(meet ry.writes rx.reads)&& !(meet rx.news ry.names)&&
 (match x.dst with|some d=> !((slotsOf ops y).any (Nat.beq d))&& !(y.dst.any (Nat.beq d))|none=>true)&&
 (match y.dst with|some d=> !((slotsOf ops x).any (Nat.beq d))|none=>true)
def TB(ops:List Oper):Bool:=ops.zipIdx.all fun(o,i)=>o.after.toList.all fun e=> !(Region.binds .any e)||Nat.blt e.on i
def Kw(ops:List Oper)(aad:List Rec):Bool:=
 let an:=akA ops
 TB ops&&aad.all fun ry=>aad.all fun rx=>
  !(Nat.blt rx.i ry.i)||xp (an.getD ry.i 0) rx.i||
  (match ops[rx.i]?,ops[ry.i]? with|some x,some y=>GF ops x y rx ry|_,_=>false)
def guards(ops:List Oper)(i:Nat):Bool:=ops.any fun o=>match o.guard with|some (g,_)=>Nat.beq g i|none=>false
def Nf:List Prop->Prop->Prop
 |[],q=>q
 |p::ps,q=>p/\Nf ps q
def P7(a b:Bool):Bool:=match a,b with|true,true=>true|false,false=>true|_,_=>false
def ND(i:Nat)(o:Oper)(σ:ak U)(rs:List Rec)(ks:List Key)(K:ak U->Rec->Prop)(r:bX U):Prop:=
 bif rz (o.dst.getD 1000000) r rs&&vQ o r then K (apply o r σ) ⟨i,ks,r.names,r.writes (o.dst.getD 1000000),r.news (o.dst.getD 1000000)⟩ else False
def Wo(r:bX U)(b:Bool):bX U:={r with val:=some (uQ (.bool b))}
def HK(alt:Bool)(ops:List Oper)(i:Nat)(o:Oper)(σ:ak U)(rs:List Rec)(K:ak U->Rec->Prop):Prop:=
 match step E alt σ o with
 |some (r,ks)=>
  Nf r.pre<|
  bif guards ops i then
   match Er r.val with
   |some (.bool b)=>bif b then ND i o σ rs ks K (Wo r true) else ND i o σ rs ks K (Wo r false)
   |_=>False
  else ND i o σ rs ks K r
 |none=>False
def acm(o:Oper):Bool:=match o.op with
 | .call {callee:=.value (.func f),..}=>(E.M_ f).isSome
 |_=>false
def HJ(ops:List Oper)(i:Nat)(o:Oper)(σ:ak U)(rs:List Rec)(K:ak U->Rec->Prop):Prop:=
 bif acm E o then HK E false ops i o σ rs K\/HK E true ops i o σ rs K else HK E false ops i o σ rs K
def wpOps(ops:List Oper):List Oper->Nat->ak U->List Rec->(ak U->List Rec->Prop)->Prop
 |[],_,σ,rs,K=>K σ rs
 |o::rest,i,σ,rs,K=>
  match o.guard with
  |none=>HJ E ops i o σ rs fun kV r=>wpOps ops rest (i+1) kV (r::rs) K
  |some (g,want)=>
   match((ops[g]?).bind (·.dst)).bind σ.get with
   |some (.v x)=>match ix (.v x) with
    |some (.bool b)=>bif P7 b want then HJ E ops i o σ rs fun kV r=>wpOps ops rest (i+1) kV (r::rs) K
     else bif pB σ o then wpOps ops rest (i+1) (apply o ye σ) (⟨i,[],[],[],[]⟩::rs) K else False
    |_=>False
   |some (.uZ [])=>bif pB σ o then wpOps ops rest (i+1) (apply o ye σ) (⟨i,[],[],[],[]⟩::rs) K else False
   |_=>False
def SV.KZ(bad:Key->Bool)(aR:List Key)(x:SV U):Bool:=
 x.Ax.any fun a=>a.keys.any bad||(match a with| .ref k p| .kI k p _ _ _=> !p.isEmpty&&aR.any (ik k)|_=>false)
def AC.te(f:Key->Key):AC U->AC U
 | .ref k p=> .ref (f k) p
 | .sub k wd lo hi=> .sub (f k) wd lo hi
 | .kI k p i wd off=> .kI (f k) p i wd off
 | .jU k off=> .jU (f k) off
 |x=>x
def SV.te(f:Key->Key):SV U->SV U
 | .v x=> .v ⟨x.agg,x.cs.map (AC.te f)⟩
 | .uZ xs=> .uZ (xs.map fun x=>⟨x.agg,x.cs.map (AC.te f)⟩)
 | .fn p=> .fn p
 | .Ff g xs=> .Ff g (xs.map fun x=>⟨x.agg,x.cs.map (AC.te f)⟩)
def ie.te(f:Key->Key):ie U->ie U
 | .box cs=> .box (cs.map (AC.te f))
 |e=>e
def wo{β:Type}:List Nat->List (Nat×Option β)->List (Nat×Option β)
 |_,[]=>[]
 |seen,(s,v)::r=>bif seen.any (Nat.beq s) then wo seen r else match v with
  |some x=>(s,some x)::wo (s::seen) r
  |none=>wo (s::seen) r
def pj{β:Type}:List Key->List (Key×Option β)->List (Key×Option β)
 |_,[]=>[]
 |seen,(s,v)::r=>bif seen.any (ik s) then pj seen r else match v with
  |some x=>(s,some x)::pj (s::seen) r
  |none=>pj (s::seen) r
def sn(bad:Key->Bool)(σ:ak U):ak U:=
 let ok (x:SV U):Bool:= !(x.KZ (fun k=>bad k||(dW σ.nG k).isNone) σ.aR)
 {σ with
  bx:=(wo [] σ.bx).filter fun(_,v)=>match v with|some (.uZ [])=>false|some x=>ok x|none=>false
  nG:=(pj [] σ.nG).filter fun(k,e)=> !(bad k)&&(match e with|some (.box cs)=>ok (.v ⟨true,cs⟩)|_=>true)
  aR:=[]}
def aac(d:Nat)(x:SV U):List (Key×Key):=
 (x.Ax.zipIdx).flatMap fun(a,j)=>match a with
  | .ref k []| .sub k _ _ _| .jU k _=>[(k,(d,1024+j))]
  |_=>[]
def vu(l:List (Key×Key))(k:Key):Key:=
 match l with
 |[]=>k
 |(a,b)::r=>bif ik a k then b else vu r k
def rename(l:List (Key×Key))(σ:ak U):ak U:=
 {σ with
  bx:=σ.bx.map fun(s,v)=>(s,v.map (SV.te (vu l)))
  nG:=σ.nG.map fun(k,e)=>(vu l k,e.map (ie.te (vu l)))}
def qb(l0:List (Key×Key))(σ:ak U):ak U:=
 let l:=l0.filter fun(a,b)=> !(ik a b)&& !(Nat.ble 2000000 a.1&&Nat.blt a.2 1024)
 bif l.isEmpty|| !(distinct (l.map (·.1)))|| !(distinct (l.map (·.2)))|| !(l.all fun(_,b)=>Nat.ble 1024 b.2) then σ else
  let tgt:=l.map (·.2)
  rename l (sn (fun k=>tgt.any (ik k)) σ)
def qP(d:Nat)(σ:ak U):ak U:=
 match σ.get d with
 |some x=>qb (aac d x) σ
 |none=>σ
def Wr(k:Key)(cs:List (AC U)):List (Key×Key):=
 cs.zipIdx.flatMap fun(a,j)=>match a with
  | .ref q []| .sub q _ _ _=>[(q,(k.1,4096*(k.2+1)+j))]
  |_=>[]
def wB(k:Key)(σ:ak U):ak U:=
 match σ.bH k with
 |some (.box cs)=>qb (Wr k cs) σ
 |_=>σ
def boxes(σ:ak U):List Key:=σ.nG.flatMap fun(k,e)=>match e with|some (.box _)=>[k]|_=>[]
inductive pb where
 |slot (s j:Nat)
 |box (k:Key) (j:Nat)
def pb.key:pb->Key
 | .slot s j=>(s,1024+j)
 | .box k j=>(k.1,4096*(k.2+1)+j)
def MD:Option (AC U)->Bool
 |some .e0=>true
 |_=>false
def unnamed(k:Key)(σ:ak U):Bool:=
 (σ.bx.all fun(_,v)=>match v with|some x=> !(x.keys.any (ik k))|none=>true)&&
 (σ.nG.all fun(_,e)=>match e with|some (.box cs)=> !(cs.any fun a=>a.keys.any (ik k))|_=>true)
def Mx(p:pb)(τ:U.Ty×Bool)(σ:ak U):ak U:=
 bif (dW σ.nG p.key).isNone&&unnamed p.key σ&&Nat.ble 1024 p.key.2 then
  match p with
  | .slot s j=>match σ.get s with
   |some (.v x)=>bif MD x.cs[j]? then
     {σ with bx:=(s,some (.v ⟨x.agg,x.cs.set j (.ref p.key [])⟩))::σ.bx,nG:=(p.key,some (.arr ⟨τ.1,[]⟩ τ.2))::σ.nG} else σ
   |_=>σ
  | .box k j=>match σ.bH k with
   |some (.box cs)=>bif MD cs[j]? then
     {σ with nG:=(p.key,some (.arr ⟨τ.1,[]⟩ τ.2))::(k,some (.box (cs.set j (.ref p.key []))))::σ.nG} else σ
   |_=>σ
 else σ
def po(k0:Key)(σ:ak U):ak U:=
 match σ.bH k0 with
 |some (.arr a true)=>{σ with nG:=(k0,some (.part a fun _=>false))::σ.nG}
 |_=>σ
def parts(l:List Key)(σ:ak U):ak U:=l.foldl (fun σ k=>po k σ) σ
def Cx(k0:Key)(σ:ak U):ak U:=
 match σ.bH k0 with
 |some (.arr a true)=>{σ with nG:=(k0,some (.arr a false))::σ.nG,aR:=k0::σ.aR}
 |_=>σ
def Mw(p:pb)(τ:U.Ty)(σ:ak U):ak U:=
 match p with
 | .slot s j=>match σ.get s with
  |some (.v x)=>bif MD x.cs[j]? then{σ with bx:=(s,some (.v ⟨x.agg,x.cs.set j (.c (.sl τ []))⟩))::σ.bx} else σ
  |_=>σ
 | .box k j=>match σ.bH k with
  |some (.box cs)=>bif MD cs[j]? then{σ with nG:=(k,some (.box (cs.set j (.c (.sl τ [])))))::σ.nG} else σ
  |_=>σ
def Mv:List (pb×U.Ty×Option Bool)->ak U->ak U
 |[],σ=>σ
 |(p,τ,some d)::r,σ=>Mv r (Mx p (τ,d) σ)
 |(p,τ,none)::r,σ=>Mv r (Mw p τ σ)
def assigned(ops:List Oper):List Nat:=ops.flatMap fun o=>match o.op with| .assign _=>o.dst.toList|_=>[]
def iY(σ:ak U):ak U:=sn (fun _=>false) σ
def K3(l:List Key)(σ:ak U):ak U:=match l with
 |[]=>σ
 |k::l=>iY ((k::l).foldl (fun σ k=>Cx k σ) σ)
def wA(l:List Key)(σ:ak U):ak U:=l.foldl (fun σ k=>wB k σ) σ
def settle(ops:List Oper)(σ:ak U):ak U:=
 let σ1:=(assigned ops).foldl (fun σ d=>qP d σ) (iY σ)
 wA (boxes σ1) σ1
def zY(ops:List Oper):List Nat:=ops.flatMap fun o=>o.dst.toList
def enter(ops:List Oper)(σ:ak U):ak U:=let ds:=zY ops;sn (fun k=>(ds.any (Nat.beq k.1)||Nat.beq k.1 1000000)&&Nat.blt k.2 1024) σ
def Gp(k0:Key)(c:U.C):AC U->AC U
 | .ref k []=>bif ik k k0 then .c c else .ref k []
 |x=>x
def Kp(k0:Key)(c:U.C):SV U->SV U
 | .v x=> .v ⟨x.agg,x.cs.map (Gp k0 c)⟩
 |x=>x
def IJ(k0:Key)(c:U.C):ie U->ie U
 | .box cs=> .box (cs.map (Gp k0 c))
 |e=>e
def kP(k0:Key)(σ:ak U):ak U:=
 match σ.bH k0 with
 |some (.arr a _)=>{σ with
   bx:=σ.bx.map fun(s,v)=>(s,v.map (Kp k0 (.sl a.τ a.xs)))
   nG:=(k0,none)::σ.nG.map fun(k,e)=>(k,e.map (IJ k0 (.sl a.τ a.xs)))}
 |_=>σ
def rB(s:Nat)(σ:ak U):ak U:=
 match σ.get s with
 |some (.v ⟨_,[.ref k []]⟩)=>kP k σ
 |_=>σ
def px(l:List Nat)(σ:ak U):ak U:=l.foldl (fun σ s=>rB s σ) σ
def Ln(E:Env U)(ops:List Oper):List Nat:=ops.flatMap fun o=>match o.op with
 | .call {callee:=.value (.func f),args,..}=>match E.Na f with
  |some k=>bif yK k.md then(k.md.zip args.toList).flatMap fun(m,q)=>match m,q with
    | .ro,.tmp t=>ops.flatMap fun p=>match p.dst,p.op with
     |some d,.move (.tmp v)=>bif Nat.beq d t then[v] else[]
     |_,_=>[]
    |_,_=>[] else[]
  |none=>[]
 |_=>[]
def qm(l:List Key)(σ:ak U):ak U:=l.foldl (fun σ k=>kP k σ) σ
def rootOf(ops:List Oper)(t:Nat):Nat:=match ops.find? (fun p=>p.dst.any (Nat.beq t)) with
 |some p=>match p.op with
  | .move (.tmp v)=>v
  |_=>t
 |none=>t
def LB(ops:List Oper)(σ:ak U):List Key:=ops.flatMap fun o=>match o.op with
 | .makeFunc _ _ oG=>oG.toList.flatMap fun q=>match q with
  | .tmp t=>match σ.get (rootOf ops t) with
   |some (.v ⟨_,[.jU k _]⟩)=>match σ.bH k with
    |some (.box cs)=>cs.flatMap fun c=>match c with
     | .ref q []=>[q]
     |_=>[]
    |_=>[]
   |_=>[]
  |_=>[]
 |_=>[]
def Dh(E:Env U)(ops:List Oper)(σ:ak U):ak U:=qm (LB ops (px (Ln E ops) (enter ops σ))) (px (Ln E ops) (enter ops σ))
def wh(ops:List Oper)(draw:Bool)(σ:ak U)(K:ak U->Prop):Prop:=
 wpOps E ops ops 0 (Dh E ops σ) [] fun kV rs=>bif !draw||Kw ops rs then K (settle ops kV) else False
inductive Out (U:kz) where
 |normal (σ:ak U)
 |exit (id:Nat) (σ:ak U)
 |ret (σ:ak U)
structure sA(U:kz) where
 X:Type
 bx:X->List (Nat×SV U)
 cW:X->List (Key×ie U)
 un:ak U->(X->Prop)->Prop
 nil:List (pb×U.Ty×Option Bool)
 Uf:List Nat
 Ug:List Key
 Tz:List Key
 TA:List Key
 I:X->X->Prop
 μ:X->Nat
 all:(X->Prop)->Prop
 Qe:∀P,all P->∀y,P y
 names:List Nat
 Ze:∀x,∀p∈bx x,p.1∈names
 nin:∀p∈nil,∀s j,p.1=pb.slot s j->s∈names
 law:∀σ K,un σ K->∃x,K x/\(∀p∈bx x,σ.get p.1=some p.2)/\(∀p∈cW x,σ.bH p.1=some p.2)
def s8(l:List Nat)(σ:ak U):ak U:=l.foldl (fun σ d=>qP d σ) σ
def Xa(σ:ak U):List Key:=(boxes σ).filter (fun k=>Nat.blt k.2 1024)++(boxes σ).filter (fun k=>Nat.ble 1024 k.2)
def NO(σ:ak U):ak U:=wA (Xa σ) σ
def D8(A:sA U)(σ:ak U):ak U:=parts A.TA<|Mv A.nil (qm A.Ug (px A.Uf (K3 A.Tz (iY (NO (s8 A.names (iY σ)))))))
def gZ:Code->Option Nat
 | .region id _ _=>some id
 | .seq a b=>match gZ a with|some i=>some i|none=>gZ b
 | .cond _ a b=>match gZ a with|some i=>some i|none=>gZ b
 | .block _ b=>gZ b
 | .loop b=>gZ b
 |_=>none
def YO(r:Nat)(c:Code):Bool:=match gZ c with
 |some i=>Nat.beq i r
 |none=>false
def M8(r:Nat):Code->Option (Code×Code)
 | .seq a b=>bif YO r b then some (a,b) else match M8 r b with
  |some p=>some (.seq a p.1,p.2)
  |none=>none
 |_=>none
def YM(r:Nat)(c:Code):Code:=match M8 r c with
 |some p=>p.1
 |none=> .skip
def YL(r:Nat)(c:Code):Code:=match M8 r c with
 |some p=>p.2
 |none=> .skip
def la(A:sA U)(wr:List Nat)(σ:ak U)(x:A.X):ak U:=
 ⟨σ.n,
  (A.bx x).map (fun(s,v)=>(s,some v))++
   ((wo [] σ.bx).filter fun(s,v)=> !(wr.any (Nat.beq s))&& !(A.names.any (Nat.beq s))&&(match v with|some (.v y)=>(SV.v y).keys.isEmpty|some (.fn _)=>true|_=>false)),
  (A.cW x).map fun(k,e)=>(k,some e),
  []⟩
variable(nA:Nat->Option (sA U))
def fV:Code->List Nat
 | .region _ ops _=>zY ops.toList
 | .seq a b=>fV a++fV b
 | .cond _ a b=>fV a++fV b
 | .block _ b=>fV b
 | .loop b=>fV b++(match(gZ b).bind nA with|some A=>A.names|none=>[])
 |_=>[]
def wp:Code->ak U->(Out U->Prop)->Prop
 | .skip,σ,Q=>Q (.normal σ)
 | .seq a b,σ,Q=>wp a σ fun
  | .normal kV=>wp b kV Q
  |o=>Q o
 | .cond c t e,σ,Q=>match yo σ c with
  |some (.bool b)=>bif b then wp t σ Q else wp e σ Q
  |_=>False
 | .block id c,σ,Q=>wp c σ fun
  | .exit id' kV=>bif Nat.beq id' id then Q (.normal kV) else Q (.exit id' kV)
  |o=>Q o
 | .loop c,σ,Q=>match(gZ c).bind nA with
  |some A=>A.un (D8 A σ) fun x=>A.I x x/\
    A.all fun y=>A.I x y->wp c (la A (fV nA c) σ y) fun
     | .normal kV=>A.un (D8 A kV) fun z=>A.I x z/\A.μ z<A.μ y
     |o=>Q o
  |none=>False
 | .exit id,σ,Q=>Q (.exit id σ)
 | .ret,σ,Q=>Q (.ret σ)
 | .region _ ops draw,σ,Q=>wh E ops.toList draw σ fun kV=>Q (.normal kV)
 |_,_,_=>False
end
end
end AM
