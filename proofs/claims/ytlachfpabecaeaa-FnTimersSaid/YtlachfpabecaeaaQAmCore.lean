/- THE ABSTRACT MACHINE: a weakest precondition over the model's Code, on typed data. Definitions only. -/
import Derived.Calls
import Derived.Orders
import Derived.Laws.AppendOwn
import Derived.Below
import Derived.Laws.BytesArg
namespace AM
theorem d_:type_of% @List.mem_cons_of_mem:=@List.mem_cons_of_mem
theorem gp:type_of% @List.mem_cons_self:=@List.mem_cons_self
theorem cB:type_of% @List.getD_eq_getElem?_getD:=@List.getD_eq_getElem?_getD
theorem cF:type_of% @List.getElem?_eq_getElem:=@List.getElem?_eq_getElem
theorem bH:type_of% @Option.some.injEq:=@Option.some.injEq
theorem c9:type_of% @Bool.and_eq_true:=@Bool.and_eq_true
theorem eD:type_of% @Option.isSome_iff_exists:=@Option.isSome_iff_exists
theorem bV:type_of% @Bool.cond_eq_ite:=@Bool.cond_eq_ite
theorem eI:type_of% @Nat.eq_of_beq_eq_true:=@Nat.eq_of_beq_eq_true
theorem fb:type_of% @List.getElem?_eq_none:=@List.getElem?_eq_none
theorem dJ:type_of% @List.mem_cons:=@List.mem_cons
theorem eW:type_of% @List.getElem?_map:=@List.getElem?_map
theorem ja:type_of% @List.getElem?_cons_zero:=@List.getElem?_cons_zero
theorem fg:type_of% @List.getElem?_take:=@List.getElem?_take
theorem cY:type_of% @List.mem_append:=@List.mem_append
theorem kT:type_of% @List.getElem?_append_right:=@List.getElem?_append_right
theorem j7:type_of% @List.getElem?_append_left:=@List.getElem?_append_left
theorem fV:type_of% @List.mem_append_left:=@List.mem_append_left
theorem fD:type_of% @List.mem_append_right:=@List.mem_append_right
theorem fC:type_of% @List.mem_flatMap:=@List.mem_flatMap
theorem gn:type_of% @List.mem_singleton:=@List.mem_singleton
theorem gz:type_of% @List.nodup_append:=@List.nodup_append
theorem jw:type_of% @List.length_take:=@List.length_take
theorem fB:type_of% @Prod.mk.injEq:=@Prod.mk.injEq
theorem iD:type_of% @List.mem_range:=@List.mem_range
theorem eV:type_of% @List.mem_map:=@List.mem_map
theorem fA:type_of% @Nat.lt_or_ge:=@Nat.lt_or_ge
theorem jI:type_of% @List.any_eq_true:=@List.any_eq_true
theorem kS:type_of% @Nat.mul_le_mul_right:=@Nat.mul_le_mul_right
theorem l6:type_of% @Bool.not_eq_true':=@Bool.not_eq_true'
theorem gx:type_of% @List.nodup_cons:=@List.nodup_cons
theorem PH:type_of% @List.length_modify:=@List.length_modify
theorem mF:type_of% @Bool.false_eq_true:=@Bool.false_eq_true
theorem qk:type_of% @List.eq_nil_of_length_eq_zero:=@List.eq_nil_of_length_eq_zero
theorem NT:type_of% @Bool.false_and:=@Bool.false_and
theorem n7:type_of% @Bool.not_eq_true:=@Bool.not_eq_true
theorem nJ:type_of% @List.getElem_of_mem:=@List.getElem_of_mem
theorem n6:type_of% @List.mem_of_getElem?:=@List.mem_of_getElem?
theorem mf:type_of% @List.flatMap_cons:=@List.flatMap_cons
theorem nI:type_of% @Array.length_toList:=@Array.length_toList
theorem j9:type_of% @List.length_nil:=@List.length_nil
theorem Nb:type_of% @Int.tmod_eq_emod_of_nonneg:=@Int.tmod_eq_emod_of_nonneg
theorem kQ:type_of% @List.length_cons:=@List.length_cons
theorem kP:type_of% @List.append_assoc:=@List.append_assoc
theorem PG:type_of% @Bool.and_false:=@Bool.and_false
theorem qd:type_of% @List.map_cons:=@List.map_cons
theorem qj:type_of% @Nat.le_of_ble_eq_true:=@Nat.le_of_ble_eq_true
theorem nH:type_of% @List.getElem?_drop:=@List.getElem?_drop
theorem kO:type_of% @Nat.zero_add:=@Nat.zero_add
theorem rK:type_of% @Array.getElem?_toList:=@Array.getElem?_toList
theorem uG:type_of% @Array.getD_eq_getD_getElem?:=@Array.getD_eq_getD_getElem?
theorem rJ:type_of% @List.flatten_cons:=@List.flatten_cons
theorem nC:type_of% @Nat.le_refl:=@Nat.le_refl
theorem qc:type_of% @List.all_eq_true:=@List.all_eq_true
theorem qb:type_of% @List.flatten_append:=@List.flatten_append
theorem nG:type_of% @Option.map_some:=@Option.map_some
theorem kR:type_of% @List.length_append:=@List.length_append
theorem wE:type_of% @List.not_mem_nil:=@List.not_mem_nil
theorem qa:type_of% @List.mem_filter:=@List.mem_filter
theorem oG:type_of% @List.append_nil:=@List.append_nil
theorem j8:type_of% @Nat.add_mul:=@Nat.add_mul
theorem yz:type_of% @Option.getD_some:=@Option.getD_some
theorem CD:type_of% @Bool.true_and:=@Bool.true_and
theorem sB:type_of% @List.getElem?_range:=@List.getElem?_range
theorem B0:type_of% @Bool.eq_iff_iff:=@Bool.eq_iff_iff
theorem qi:type_of% @Bool.or_eq_true:=@Bool.or_eq_true
theorem uF:type_of% @List.length_map:=@List.length_map
theorem wD:type_of% @Bool.or_eq_false_iff:=@Bool.or_eq_false_iff
theorem zu:type_of% @List.take_append_drop:=@List.take_append_drop
theorem uE:type_of% @List.map_congr_left:=@List.map_congr_left
theorem n0:type_of% @List.length_drop:=@List.length_drop
theorem tj:type_of% @List.flatMap_def:=@List.flatMap_def
theorem th:type_of% @List.length_set:=@List.length_set
theorem qh:type_of% @Nat.add_zero:=@Nat.add_zero
theorem sA:type_of% @Bool.false_or:=@Bool.false_or
theorem wR:type_of% @List.ext_getElem?:=@List.ext_getElem?
theorem zt:type_of% @List.take_of_length_le:=@List.take_of_length_le
theorem Na:type_of% @List.take_succ_eq_append_getElem:=@List.take_succ_eq_append_getElem
theorem wQ:type_of% @List.getElem_mem:=@List.getElem_mem
theorem Hq:type_of% @Bool.and_true:=@Bool.and_true
theorem Hp:type_of% @List.sum_cons:=@List.sum_cons
theorem M_:type_of% @List.cons.injEq:=@List.cons.injEq
theorem tg:type_of% @Nat.le_trans:=@Nat.le_trans
theorem Ho:type_of% @Option.getD_none:=@Option.getD_none
theorem CB:type_of% @List.nodup_iff_pairwise_ne:=@List.nodup_iff_pairwise_ne
theorem yw:type_of% @List.getElem?_set:=@List.getElem?_set
theorem yu:type_of% @List.Sublist.refl:=@List.Sublist.refl
theorem yt:type_of% @List.size_toArray:=@List.size_toArray
theorem CA:type_of% @Array.getElem?_eq_getElem:=@Array.getElem?_eq_getElem
theorem uD:type_of% @Nat.add_assoc:=@Nat.add_assoc
theorem Hn:type_of% @List.eq_nil_iff_forall_not_mem:=@List.eq_nil_iff_forall_not_mem
theorem uC:type_of% @Nat.beq_eq:=@Nat.beq_eq
theorem uB:type_of% @List.any_map:=@List.any_map
theorem GC:type_of% @List.getElem?_set_self:=@List.getElem?_set_self
theorem zr:type_of% @List.mem_flatten:=@List.mem_flatten
theorem Cz:type_of% @List.all_cons:=@List.all_cons
theorem BZ:type_of% @Nat.lt_of_lt_of_le:=@Nat.lt_of_lt_of_le
theorem PF:type_of% @List.length_filter_le:=@List.length_filter_le
theorem zq:type_of% @List.nodup_nil:=@List.nodup_nil
theorem Cy:type_of% @List.pairwise_iff_getElem:=@List.pairwise_iff_getElem
theorem uA:type_of% @Nat.one_mul:=@Nat.one_mul
theorem zp:type_of% @Option.some.inj:=@Option.some.inj
theorem GB:type_of% @Option.bind_eq_some_iff:=@Option.bind_eq_some_iff
theorem GA:type_of% @List.getElem?_replicate:=@List.getElem?_replicate
theorem Cx:type_of% @Bool.not_false:=@Bool.not_false
theorem Hm:type_of% @List.find?_eq_none:=@List.find?_eq_none
theorem yr:type_of% @Nat.mul_comm:=@Nat.mul_comm
theorem Gz:type_of% @List.getElem?_toArray:=@List.getElem?_toArray
theorem Gy:type_of% @List.length_replicate:=@List.length_replicate
theorem Hl:type_of% @List.map_append:=@List.map_append
theorem zo:type_of% @List.any_cons:=@List.any_cons
theorem M':type_of% @Bool.or_false:=@Bool.or_false
theorem NS:type_of% @List.getElem?_modify:=@List.getElem?_modify
theorem Gx:type_of% @List.getElem?_zipIdx:=@List.getElem?_zipIdx
theorem Hk:type_of% @List.getElem?_set_ne:=@List.getElem?_set_ne
theorem Gw:type_of% @List.drop_eq_getElem_cons:=@List.drop_eq_getElem_cons
theorem Hj:type_of% @List.sublist_append_right:=@List.sublist_append_right
theorem Cw:type_of% @List.flatMap_nil:=@List.flatMap_nil
theorem Cv:type_of% @Array.toList_map:=@Array.toList_map
theorem BY:type_of% @List.flatMap_append:=@List.flatMap_append
theorem wC:type_of% @Nat.ble_eq:=@Nat.ble_eq
theorem Hi:type_of% @List.sublist_append_left:=@List.sublist_append_left
theorem NR:type_of% @List.all_nil:=@List.all_nil
theorem NQ:type_of% @List.sum_append:=@List.sum_append
theorem NP:type_of% @Int.toNat_natCast:=@Int.toNat_natCast
theorem Hh:type_of% @Nat.sub_self:=@Nat.sub_self
theorem BX:type_of% @Nat.add_comm:=@Nat.add_comm
theorem Hg:type_of% @List.cons_append:=@List.cons_append
theorem Cu:type_of% @List.flatten_nil:=@List.flatten_nil
theorem Gv:type_of% @Nat.div_eq_of_lt:=@Nat.div_eq_of_lt
theorem Gu:type_of% @Bool.not_true:=@Bool.not_true
set_option linter.unusedVariables false
noncomputable section
open Go
inductive Cell (Ty:Type) (T:Ty->Type) where
 |lit (v:Value)
 |sl (τ:Ty) (xs:List (T τ))
structure dw where
 Ty:Type
 T:Ty->Type
 LH:DecidableEq Ty
 wd:Ty->Nat
 enc:(τ:Ty)->T τ->List (Cell Ty T)
 dec:(τ:Ty)->List (Cell Ty T)->Option (T τ)
 bj:(τ:Ty)->T τ
 flat:Ty->Bool
 dq:∀τ,0<wd τ
 aK:∀τ x,(enc τ x).length=wd τ
 dN:∀τ cs x,dec τ cs=some x->enc τ x=cs
 sY:∀τ,flat τ=true->∀x c,c∈enc τ x->∃v,c=.lit v
 fo:Ty
 yE:T fo->Int
 GI:Int->T fo
 sD:∀n,yE (GI n)=n
 ov:∀x,enc fo x=[.lit (.int .u8 (yE x))]
abbrev dw.C(U:dw):=Cell U.Ty U.T
structure fx(U:dw) where
 τ:U.Ty
 xs:List (U.T τ)
abbrev Key:=Nat×Nat
abbrev Path:=List (Nat×Nat×Nat)
inductive AC (U:dw) where
 |c (x:U.C)
 |e0
 |ref (k:Key) (p:Path)
 |sub (k:Key) (wd lo hi:Nat)
 |dG (k:Key) (p:Path) (i wd off:Nat)
 |dh (k:Key) (off:Nat)
 |ia (cs:List U.C)
 |kn (b:Bool) (τ:U.Ty) (xs:List (U.T τ))
structure AV(U:dw) where
 agg:Bool
 cs:List (AC U)
structure DA(U:dw) where
 agg:Bool
 cs:List U.C
inductive SV (U:dw) where
 |v (x:AV U)
 |jx (xs:List (AV U))
 |fn (p:List (DA U)->Option Value)
 |ox (g:FuncId) (h_:List (AV U))
inductive bZ (U:dw) where
 |arr (a:fx U) (deep:Bool)
 |box (cs:List (AC U))
 |part (a:fx U) (dead:Nat->Bool)
structure aa(U:dw) where
 n:Nat
 au:List (Nat×Option (SV U))
 tab:List (Key×Option (bZ U))
 ah:List Key
def look{β:Type}(l:List (Nat×Option β))(s:Nat):Option β:=
 match l with
 |[]=>none
 |(t,v)::r=>bif Nat.beq t s then v else look r s
def cj(a b:Key):Bool:=Nat.beq a.1 b.1&&Nat.beq a.2 b.2
def aW{β:Type}(l:List (Key×Option β))(k:Key):Option β:=
 match l with
 |[]=>none
 |(t,v)::r=>bif cj t k then v else aW r k
def aa.get{U:dw}(σ:aa U)(s:Nat):Option (SV U):=look σ.au s
def aa.aw{U:dw}(σ:aa U)(k:Key):Option (bZ U):=aW σ.tab k
inductive DV (U:dw) where
 |one (c:U.C)
 |agg (cs:List U.C)
 |box (cs:List U.C)
 |ptr (cs:List U.C)
 |fn (p:List (DA U)->Option Value)
inductive Mode where
 |ro|wr|mv
 |box (own:Bool)
 deriving DecidableEq
structure Gq(U:dw) where
 val:List (DV U)
 fresh:List Bool
 rX:List (DV U)
structure eg(U:dw) where
 α:Type
 md:List Mode
 of:List (DV U)->Option α
 ds:α->List (DV U)
 pre:α->List Prop
 fZ:α->Gq U
 law:∀l x,of l=some x->ds x=l
 qu:Nat:=0
 cut:Nat:=0
def eg.want{U:dw}(k:eg U)(ws:List (List (Option U.Ty))):List (List (Option U.Ty)):=match k.cut with
 |0=>ws
 |n+1=>ws.map (List.take (n+1))
structure Env(U:dw) where
 P:Program
 tid:U.Ty->TypeId
 code:TypeId->Option U.Ty
 ul:FuncId->Option (eg U)
 uk:FuncId->Option (eg U):=fun _=>none
 zC:List (Nat×Array Value):=[]
 bu:TypeId->Nat->List Key->Bool:=fun _ _ _=>false
 shl:TypeId->Bool:=fun _=>false
section
variable{U:dw}(E:Env U)
def Env.PM(t:TypeId):Option TypeDesc:=E.P.underlying t
def Env.isAgg(t:TypeId):Option Bool:=match E.P.underlying t with|some (.struct _)=>some true|some (.array _ _)=>some true|some _=>some false|none=>none
def Env.size(t:TypeId):Option Nat:=(E.P.info? t).map (·.size)
def Env.elem(t:TypeId):Option TypeId:=match E.P.underlying t with|some (.slice e)=>some e|_=>none
def Env.ye(t:TypeId)(f:Nat):Option (Nat×TypeId):=match E.P.underlying t with|some (.struct fs)=>(fs[f]?).map fun f=>(f.offset,f.type)|_=>none
def Env.shape:Nat->TypeId->List (Option U.Ty)
 |0,_=>[]
 |d+1,t=>match E.P.underlying t with
  |some (.struct fs)=>fs.toList.flatMap fun f=>Env.shape d f.type
  |some (.slice e)=>[E.code e]
  |_=>[none]
def Env.k8(t:TypeId):List (Option U.Ty):=match E.P.underlying t with
 |some (.pointer e)=>E.shape 8 e
 |_=>E.shape 8 t
def walk:Path->fx U->Option (List Prop×fx U)
 |[],a=>some ([],a)
 |(i,wd,j)::p,a=>
  bif Nat.beq wd (U.wd a.τ) then
   match(U.enc a.τ (a.xs.getD i (U.bj a.τ)))[j]? with
   |some (.sl τ xs)=>match walk p ⟨τ,xs⟩ with
    |some (ps,b)=>some ((i<a.xs.length)::ps,b)
    |none=>none
   |_=>none
  else none
def yK(τ:U.Ty)(g:List U.C->List U.C)(x:U.T τ):U.T τ:=match U.dec τ (g (U.enc τ x)) with|some y=>y|none=>x
def pa(τ:U.Ty)(xs:List (U.T τ))(i:Nat)(g:List U.C->List U.C):List (U.T τ):=xs.modify i (yK τ g)
theorem DK{τ:U.Ty}{xs:List (U.T τ)}{i:Nat}{g:List U.C->List U.C}{y:U.T τ}(h:U.dec τ (g (U.enc τ (xs.getD i (U.bj τ))))=some y):pa τ xs i g=xs.set i y:=by
 unfold pa
 refine wR fun j=> ?_
 rw[NS,yw]
 by_cases hj:i=j
 ·subst hj
  rw[if_pos rfl]
  by_cases hi:i<xs.length
  ·rw[if_pos hi,cF hi]
   rw[cB,cF hi] at h
   simp only[yz] at h
   simp[yK,h]
  ·rw[if_neg hi,fb (by omega)];rfl
 ·rw[if_neg hj]
  simp[hj]
def Cr:Path->fx U->(fx U->Option (fx U))->Option (fx U)
 |[],a,f=>f a
 |(i,_,j)::p,a,f=>
  let cs:=U.enc a.τ (a.xs.getD i (U.bj a.τ))
  match cs[j]? with
  |some (.sl τ xs)=>
   match Cr p ⟨τ,xs⟩ f with
   |some b=>match U.dec a.τ (cs.set j (.sl b.τ b.xs)) with
    |some _=>some ⟨a.τ,pa a.τ a.xs i (fun cs=>cs.set j (.sl b.τ b.xs))⟩
    |none=>none
   |none=>none
  |_=>none
def cv(τ:U.Ty)(a:fx U):Option (List (U.T τ)):=
 match U.LH a.τ τ with
 | .isTrue h=>some (h▸a.xs)
 | .isFalse _=>none
abbrev fT(U:dw):=Key->Option (bZ U)
structure az(U:dw) where
 val:Option (SV U)
 aM:List (Nat×bZ U)
 dB:List Key
 cK:List (Key×bZ U)
 pre:List Prop
def az.aF(v:SV U)(pre:List Prop:=[]):az U:=⟨some v,[],[],[],pre⟩
def one(x:AC U):SV U:=.v ⟨false,[x]⟩
def js(v:Value):SV U:=one (.c (.lit v))
def az.lit(v:Value)(pre:List Prop:=[]):az U:=.aF (js v) pre
def bw(tb:fT U)(ah:List Key)(k:Key)(p:Path):Bool:=p.isEmpty||((tb k).isSome&& !(ah.any (cj k)))
def ns(tb:fT U)(ah:List Key):AC U->Bool
 | .ref k p=>bw tb ah k p
 | .dG k p _ _ _=>bw tb ah k p
 |_=>true
def iU(tb:fT U)(ah:List Key)(cs:List (AC U)):Bool:=cs.all (ns tb ah)
def fq(tb:fT U)(ah:List Key):AC U->Option (List Prop×fx U)
 | .c (.sl τ xs)=>some ([],⟨τ,xs⟩)
 | .kn _ τ xs=>some ([],⟨τ,xs⟩)
 | .ref k p=>match tb k with
  |some (.arr a _)=>bif bw tb ah k p then walk p a else none
  |_=>none
 | .sub k wd lo hi=>match tb k with
  |some (.arr a _)=>bif Nat.beq wd (U.wd a.τ) then some ([hi<=a.xs.length],⟨a.τ,(a.xs.take hi).drop lo⟩) else none
  |_=>none
 |_=>none
def lz(tb:fT U)(ah:List Key):AC U->Option (List Prop×fx U)
 | .ref k ((i,wd,j)::p)=>match tb k with
  |some (.part a dead)=>bif bw tb ah k ((i,wd,j)::p) then(match walk ((i,wd,j)::p) a with|some (ps,b)=>some ((dead i=false)::ps,b)|none=>none) else none
  |_=>none
 |_=>none
def cellOf(tb:fT U)(ah:List Key)(want:Option U.Ty):AC U->Option (List Prop×U.C)
 | .c x=>some ([],x)
 | .e0=>match want with|some τ=>some ([],.sl τ [])|none=>none
 |x=>match fq tb ah x with
  |some (ps,a)=>some (ps,.sl a.τ a.xs)
  |none=>match lz tb ah x with
   |some (ps,a)=>some (ps,.sl a.τ a.xs)
   |none=>none
def cellsOf(tb:fT U)(ah:List Key):List (Option U.Ty)->List (AC U)->Option (List Prop×List U.C)
 |_,[]=>some ([],[])
 |ws,x::r=>
  match cellOf tb ah (ws.head?.bind id) x,cellsOf tb ah ws.tail r with
  |some (ps,c),some (qs,cs)=>some (ps++qs,c::cs)
  |_,_=>none
def iE(tb:fT U)(want:Option U.Ty):AC U->Option (List Prop×U.C×List Key×Bool)
 | .c (.lit v)=>some ([],.lit v,[],true)
 | .c (.sl τ xs)=>some ([],.sl τ xs,[],false)
 | .e0=>match want with|some τ=>some ([],.sl τ [],[],true)|none=>none
 | .ref k []=>match tb k with
  |some (.arr a d)=>some ([],.sl a.τ a.xs,[k],d)
  |some (.part a dead)=>some ([∀i,i<a.xs.length->dead i=false],.sl a.τ a.xs,[k],true)
  |_=>none
 | .sub k _ 0 hi=>match tb k with
  |some (.arr a d)=>some ([hi<=a.xs.length],.sl a.τ (a.xs.take hi),[k],d)
  |some (.part a dead)=>some ([hi<=a.xs.length,∀i,i<hi->dead i=false],.sl a.τ (a.xs.take hi),[k],true)
  |_=>none
 |_=>none
def bc(tb:fT U):List (Option U.Ty)->List (AC U)->Option (List Prop×List U.C×List Key×Bool)
 |_,[]=>some ([],[],[],true)
 |ws,x::r=>
  match iE tb (ws.head?.bind id) x,bc tb ws.tail r with
  |some (ps,c,ks,d),some (qs,cs,ks',d')=>some (ps++qs,c::cs,ks++ks',d&&d')
  |_,_=>none
def distinct:List Key->Bool
 |[]=>true
 |k::r=> !(r.any (cj k))&&distinct r
def mV(t:TypeId)(op:BinOp)(x y:Value):Option (List Prop×Value):=
 match x,y with
 | .int k a,.int k' b=>
  match op with
  | .shl=>some ([0<=b],.int k (k.wrap (a*2^(min b.toNat k.bits))))
  | .shr=>some ([0<=b],.int k (a.fdiv (2^(min b.toNat k.bits))))
  |op=>bif decide (k=k') then(match op with
   | .add=>some ([],.int k (k.wrap (a+b)))
   | .sub=>some ([],.int k (k.wrap (a-b)))
   | .mul=>some ([],.int k (k.wrap (a*b)))
   | .quo=>some ([b≠0],.int k (k.wrap (a.tdiv b)))
   | .rem=>some ([b≠0],.int k (a.tmod b))
   | .and=>some ([],.int k (k.wrap (BitVec.ofInt k.bits a&&&BitVec.ofInt k.bits b).toNat))
   | .or=>some ([],.int k (k.wrap (BitVec.ofInt k.bits a|||BitVec.ofInt k.bits b).toNat))
   | .xor=>some ([],.int k (k.wrap (BitVec.ofInt k.bits a^^^BitVec.ofInt k.bits b).toNat))
   | .eql=>some ([],.bool (a==b))
   | .neq=>some ([],.bool (a !=b))
   | .lss=>some ([],.bool (decide (a<b)))
   | .leq=>some ([],.bool (decide (a<=b)))
   | .gtr=>some ([],.bool (decide (a>b)))
   | .geq=>some ([],.bool (decide (a≥b)))
   |_=>none) else none
 | .string a,.string b=>
  match op with
  | .add=>some ([(a.size+b.size:Nat)<=(4611686018427387904:Nat)],.string (a++b))
  | .eql=>some ([],.bool (a.toList==b.toList))
  | .neq=>some ([],.bool (!(a.toList==b.toList)))
  | .lss=>some ([],.bool (Op.bytesLess a.toList b.toList))
  | .leq=>some ([],.bool (Op.bytesLess a.toList b.toList||a.toList==b.toList))
  | .gtr=>some ([],.bool (!(Op.bytesLess a.toList b.toList||a.toList==b.toList)))
  | .geq=>some ([],.bool (!(Op.bytesLess a.toList b.toList)))
  |_=>none
 | .bool a,.bool b=>
  match E.P.underlying t with
  |some .bool=>match op with
   | .eql=>some ([],.bool (a==b))
   | .neq=>some ([],.bool (!(a==b)))
   |_=>none
  |_=>none
 |_,_=>none
def Env.sn:Nat->TypeId->List Value->List Value->Option Bool
 |0,_,_,_=>none
 |d+1,t,xs,ys=>match E.P.underlying t with
  |some (.struct fs)=>bif E.P.stoodInHeld t then none else
    fs.toList.foldr (fun f acc=>match E.size f.type,E.isAgg f.type,acc with
     |some n,some g,some r=>bif f.name != "_" &&Nat.ble (f.offset+n) xs.length&&Nat.ble (f.offset+n) ys.length&&(g||Nat.beq n 1) then
       (match Env.sn d f.type ((xs.drop f.offset).take n) ((ys.drop f.offset).take n) with
       |some b=>some (b&&r)
       |none=>none) else none
     |_,_,_=>none) (some true)
  |some .bool=>match xs,ys with|[.bool a],[.bool b]=>some (a==b)|_,_=>none
  |some (.int _)=>match xs,ys with|[.int k a],[.int k' b]=>bif decide (k=k') then some (a==b) else none|_,_=>none
  |some .string=>match xs,ys with|[.string a],[.string b]=>some (a.toList==b.toList)|_,_=>none
  |_=>none
def gF:List (AC U)->Option (List Value)
 |[]=>some []
 | .c (.lit v)::r=>match gF r with|some l=>some (v::l)|none=>none
 |_=>none
def wb(op:BinOp)(t:TypeId)(x y:SV U):Option (az U):=match x,y with
 | .v ⟨true,xs⟩,.v ⟨true,ys⟩=>match gF xs,gF ys with
  |some us,some vs=>match E.isAgg t with
   |some true=>bif E.P.eqGuardType E.P.depth t then none else(match op,E.sn 8 t us vs with
    | .eql,some b=>some (az.lit (.bool b))
    | .neq,some b=>some (az.lit (.bool (!b)))
    |_,_=>none)
   |_=>none
  |_,_=>none
 |_,_=>none
def qN(op:UnOp)(x:Value):Option Value:=
 match op,x with
 | .neg,.int k n=>some (.int k (k.wrap (0-n)))
 | .not,.bool b=>some (.bool (!b))
 |_,_=>none
def fz:Value->Option (AC U)
 | .slice none 0 0=>some .e0
 | .pointer none=>some (.c (.lit (.pointer none)))
 | .int k n=>bif decide (k.min<=n)&&decide (n<=k.max) then some (.c (.lit (.int k n))) else none
 | .bool b=>some (.c (.lit (.bool b)))
 | .string s=>bif Nat.ble s.size 9223372036854775807 then some (.c (.lit (.string s))) else none
 |_=>none
def cJ:List Value->Option (List (AC U))
 |[]=>some []
 |v::r=>match fz v,cJ r with
  |some x,some l=>some (x::l)
  |_,_=>none
def gI(cs:Array Value):Option (SV U):=match cJ cs.toList with|some l=>some (.v ⟨true,l⟩)|none=>none
def pA:Value->Option (SV U)
 | .agg cs=>gI cs
 |v=>match fz v with|some x=>some (one x)|none=>none
def rV(σ:aa U):Operand->Option (SV U)
 | .tmp t=>σ.get t
 | .const v=>pA v
 | .global _=>none
 | .func g=>some (.ox g [])
def AC.keys:AC U->List Key
 | .c _| .e0| .ia _| .kn _ _ _=>[]
 | .ref k _| .sub k _ _ _| .dG k _ _ _ _| .dh k _=>[k]
def SV.mE:SV U->List (AC U)
 | .v x=>x.cs
 | .jx xs=>xs.flatMap (·.cs)
 | .fn _=>[]
 | .ox _ xs=>xs.flatMap (·.cs)
def SV.keys(x:SV U):List Key:=x.mE.flatMap AC.keys
def aa.mD(σ:aa U)(k:Key):List Key:=
 match σ.aw k with
 |some (.box cs)=>cs.flatMap AC.keys
 |_=>[]
def reach(σ:aa U)(xs:List (SV U)):List Key:=
 let ks:=xs.flatMap SV.keys
 ks++ks.flatMap σ.mD
def sK(o:Oper):Bool:=match o.op with
 | .nilCheck _=>true
 | .fieldAddr _ _ _=>true
 |_=>false
def sC(o:Oper):Bool:=match o.op with
 | .move _=>true
 | .assign _=>true
 |_=>false
def fE(σ:aa U)(o:Oper)(xs:List (SV U)):List Key:=bif sC o then[] else bif sK o then xs.flatMap SV.keys else reach σ xs
def restrict(tb:fT U)(ks:List Key):fT U:=fun k=>bif ks.any (cj k) then tb k else none
def bN(k:Key)(p:Path)(i wd:Nat):List U.C->Nat->List (AC U)
 |[],_=>[]
 | .lit v::r,j=> .c (.lit v)::bN k p i wd r (j+1)
 | .sl _ _::r,j=> .ref k (p++[(i,wd,j)])::bN k p i wd r (j+1)
def loadAt(tb:fT U)(ah:List Key)(agg:Bool)(n:Nat)(x:AC U):Option (az U):=
 bif agg||Nat.beq n 1 then
  match x with
  | .ia cs=>bif Nat.ble n cs.length then some (.aF (.v ⟨agg,(cs.take n).map .c⟩)) else none
  | .dh k off=>match tb k with
   |some (.box cs)=>bif Nat.ble (off+n) cs.length then some (.aF (.v ⟨agg,(cs.drop off).take n⟩)) else none
   |_=>none
  | .dG k p i wd off=>match tb k with
   |some (.arr a _)=>bif bw tb ah k p then
     match walk p a with
     |some (ps,b)=>
      bif Nat.ble (off+n) (U.wd b.τ)&&Nat.beq wd (U.wd b.τ) then
       some (.aF (.v ⟨agg,bN k p i wd (((U.enc b.τ (b.xs.getD i (U.bj b.τ))).drop off).take n) off⟩) (ps++[i<b.xs.length]))
      else none
     |none=>none
    else none
   |_=>none
  |_=>none
 else none
def mT(tb:fT U)(agg:Bool)(n:Nat):AC U->Option (az U)
 | .dG k [] i wd off=>match tb k with
  |some (.arr a false)=>bif (agg||Nat.beq n 1)&&Nat.ble (off+n) (U.wd a.τ)&&Nat.beq wd (U.wd a.τ) then
    some (.aF (.v ⟨agg,(((U.enc a.τ (a.xs.getD i (U.bj a.τ))).drop off).take n).map .c⟩) [i<a.xs.length]) else none
  |_=>none
 |_=>none
def oH:List U.C->List (Option U.Ty)
 |[]=>[]
 | .sl τ _::r=>some τ::oH r
 | .lit _::r=>none::oH r
def oM(off i:Nat)(ds:List U.C)(b:fx U):Option (fx U):=
 let cs:=U.enc b.τ (b.xs.getD i (U.bj b.τ))
 match U.dec b.τ (cs.take off++ds++cs.drop (off+ds.length)) with
 |some y=>some ⟨b.τ,bif Nat.beq ds.length (U.wd b.τ) then b.xs.set i y else pa b.τ b.xs i (fun cs=>cs.take off++ds++cs.drop (off+ds.length))⟩
 |none=>none
theorem zR(off i:Nat)(ds:List U.C)(b:fx U):oM off i ds b=match U.dec b.τ ((U.enc b.τ (b.xs.getD i (U.bj b.τ))).take off++ds++(U.enc b.τ (b.xs.getD i (U.bj b.τ))).drop (off+ds.length)) with|some y=>some ⟨b.τ,b.xs.set i y⟩|none=>none:=by
 unfold oM
 simp only
 split
 ·rename_i y h
  cases Nat.beq ds.length (U.wd b.τ)
  ·simp only[cond_false];rw[DK h]
  ·rfl
 ·rfl
def storeAt(tb:fT U)(ah:List Key)(x:AV U):AC U->Option (az U)
 | .dh k off=>match tb k with
  |some (.box cs)=>bif Nat.ble (off+x.cs.length) cs.length then
    some ⟨none,[],[],[(k,.box (cs.take off++x.cs++cs.drop (off+x.cs.length)))],[]⟩ else none
  |_=>none
 | .dG k p i wd off=>match tb k with
  |some (.arr a d)=>bif bw tb ah k p then
    match walk p a with
    |some (ps,b)=>match bc tb (oH ((U.enc b.τ (b.xs.getD i (U.bj b.τ))).drop off)) x.cs with
     |some (qs,ds,ks,d')=>match Cr p a (oM off i ds) with
      |some a'=>bif Nat.beq wd (U.wd b.τ)&&Nat.ble (off+ds.length) (U.wd b.τ)&&distinct (k::ks)&&((d&&d')||p.isEmpty) then
        some ⟨none,[],ks,[(k,.arr a' (d&&d'))],ps++qs++[i<b.xs.length]⟩ else none
      |none=>none
     |none=>none
    |none=>none
   else none
  |_=>none
 |_=>none
def plain:List (AC U)->Option (List U.C)
 |[]=>some []
 | .c x::r=>match plain r with|some l=>some (x::l)|none=>none
 |_=>none
def jO:List U.C->Bool
 |[]=>true
 | .lit _::r=>jO r
 |_=>false
def rowsOf(τ:U.Ty)(tb:fT U)(want:List (Option U.Ty)):List (SV U)->Option (List Prop×List (U.T τ)×List Key×Bool)
 |[]=>some ([],[],[],true)
 | .v x::r=>
  match bc tb want x.cs,rowsOf τ tb want r with
  |some (ps,cs,ks,d),some (qs,xs,ks',d')=>
   match U.dec τ cs with
   |some y=>some (ps++qs,y::xs,ks++ks',d&&d')
   |none=>none
  |_,_=>none
 |_=>none
def Env.rU(t:TypeId):Option (List (Nat×Nat)):=match E.P.underlying t with
 |some (.struct fs)=>fs.toList.mapM (fun f=>(E.P.info? f.type).map fun i=>(f.offset,i.size))
 |_=>none
def bS(pl:List (Nat×Nat))(cells:List (AC U)):List Nat->List (SV U)->Option (List (AC U))
 |[],[]=>some cells
 |f::fs,.v x::r=>match pl[f]? with
  |some (off,n)=>bif Nat.beq x.cs.length n&&Nat.ble (off+n) cells.length then bS pl (cells.take off++x.cs++cells.drop (off+n)) fs r else none
  |none=>none
 |_,_=>none
def N1 (v:Value):Option Int:=match v with| .int _ n=>some n|_=>none
def cq :SV U->Option Value
 | .v ⟨false,[.c (.lit v)]⟩=>some v
 |_=>none
def i_ :SV U->Option (AC U)
 | .v ⟨false,[x]⟩=>some x
 |_=>none
def mJ{α:Type}:List (Option α)->Option (List α)
 |[]=>some []
 |some x::r=>match mJ r with|some l=>some (x::l)|none=>none
 |none::_=>none
def oz:Option Operand->List (SV U)->Option (Option Int×List (SV U))
 |none,bs=>some (none,bs)
 |some _,b::bs=>match cq b with
  |some (.int _ n)=>some (some n,bs)
  |_=>none
 |some _,[]=>none
def jc(tb:fT U)(ah:List Key)(t:TypeId)(x:SV U)(l h m:Option Int):Option (az U):=
 match m with
 |some mm=>match h,i_ x,(E.elem t).bind E.size with
  |some hh,some y,some _=>match fq tb ah y with
   |some (ps,_)=>some (.aF (one .e0) (ps++[mm=0,hh=0,l.getD 0=0]))
   |none=>match y with
    | .e0=>some (.aF (one .e0) [mm=0,hh=0,l.getD 0=0])
    |_=>none
  |_,_,_=>none
 |none=>match cq x with
  |some (.string s)=>match E.P.underlying t with
   |some .string=>some (.lit (.string (s.extract (l.getD 0).toNat (h.getD s.size).toNat)) [0<=l.getD 0,l.getD 0<=h.getD s.size,h.getD s.size<=s.size])
   |_=>none
  |some _=>none
  |none=>match i_ x,(E.elem t).bind E.size with
   |some (.c (.sl τ ys)),some n=>bif Nat.beq n (U.wd τ) then
     some (.aF (one (.c (.sl τ ((ys.take (h.getD ys.length).toNat).drop (l.getD 0).toNat)))) [0<=l.getD 0,l.getD 0<=h.getD ys.length,h.getD ys.length<=ys.length]) else none
   |some (.ref k []),some n=>match tb k with
    |some (.arr r _)=>bif Nat.beq n (U.wd r.τ) then
      some (.aF (one (.sub k (U.wd r.τ) (l.getD 0).toNat (h.getD r.xs.length).toNat)) [0<=l.getD 0,l.getD 0<=h.getD r.xs.length,h.getD r.xs.length<=r.xs.length]) else none
    |some (.part r _)=>bif Nat.beq n (U.wd r.τ) then
      some (.aF (one (.sub k (U.wd r.τ) (l.getD 0).toNat (h.getD r.xs.length).toNat)) [0<=l.getD 0,l.getD 0<=h.getD r.xs.length,h.getD r.xs.length<=r.xs.length]) else none
    |_=>none
   |_,_=>none
def iX(tb:fT U)(ah:List Key)(want:List (Option U.Ty))(x:SV U):Option (List Prop×DV U):=
 match x with
 | .v ⟨false,[.ia cs]⟩=>some ([],.ptr cs)
 | .v ⟨false,[.dh k off]⟩=>match tb k with
  |some (.box cs)=>match plain cs with|some l=>some ([],.ptr (l.drop off))|none=>none
  |_=>none
 | .v ⟨false,[y]⟩=>match cellOf tb ah (want.head?.bind id) y with|some (ps,c)=>some (ps,.one c)|none=>none
 | .v ⟨true,cs⟩=>match cellsOf tb ah want cs with|some (ps,l)=>some (ps,.agg l)|none=>none
 |_=>none
def DA.dv:DA U->DV U
 |⟨false,[c]⟩=> .one c
 |⟨_,cs⟩=> .agg cs
noncomputable def we(k:eg U)(h_:List (DV U))(ds:List (DA U)):Option Value:=
 match k.of (ds.map DA.dv++h_) with
 |some x=>match(k.fZ x).val,(k.fZ x).rX with
  |[.one (.lit v)],[]=>@ite _ (k.md.length=ds.length+h_.length/\∀p∈k.pre x,p) (Classical.propDecidable _) (some v) none
  |_,_=>none
 |none=>none
def iV(tb:fT U)(ah:List Key):List (AV U)->Option (List Prop×List (DV U))
 |[]=>some ([],[])
 |x::r=>match iX tb ah [] (.v x),iV tb ah r with
  |some (ps,d),some (qs,ds)=>some (ps++qs,d::ds)
  |_,_=>none
def gi:List Mode->Bool
 |[]=>true
 | .ro::r=>gi r
 |_=>false
def ru(tb:fT U)(ah:List Key)(want:List (Option U.Ty))(x:SV U):Option (List Prop×DV U):=
 match x with
 | .fn p=>some ([],.fn p)
 | .ox g xs=>match E.ul g,iV tb ah xs with
  |some k,some (ps,ds)=>bif gi k.md&&Nat.ble xs.length k.md.length then some (ps,.fn (we k ds)) else none
  |_,_=>none
 |x=>iX tb ah want x
def sr(x:AV U)(cs:List U.C):Option (DV U):=
 bif x.agg then some (.agg cs) else match cs with|[c]=>some (.one c)|_=>none
def cG(tb:fT U):List (AC U)->Option (List U.C×List Key)
 |[]=>some ([],[])
 | .c (.lit v)::r=>match cG tb r with|some (cs,ks)=>some (.lit v::cs,ks)|none=>none
 | .ref k []::r=>match tb k,cG tb r with
  |some (.arr a true),some (cs,ks)=>some (.sl a.τ a.xs::cs,k::ks)
  |_,_=>none
 |_=>none
def AC.still:AC U->Bool
 | .c _=>true
 | .e0=>true
 | .ref _ []=>true
 | .dh _ _=>true
 |_=>false
def dW(tb:fT U)(ah:List Key)(want:List (Option U.Ty))(m:Mode)(x:SV U):Option (List Prop×DV U×List Key):=
 match m,x with
 | .wr,.v ⟨false,[.ref k p]⟩=>match tb k with
  |some (.arr a true)=>bif bw tb ah k p then match walk p a with|some (ps,b)=>some (ps,.one (.sl b.τ b.xs),[k])|none=>none else none
  |_=>none
 | .wr,.v ⟨true,cs⟩=>match cG tb cs with
  |some (ds,ks)=>bif distinct ks then some ([],.agg ds,ks) else none
  |none=>none
 | .mv,.v y=>match bc tb want y.cs with
  |some (ps,cs,ks,true)=>match sr y cs with
   |some d=>bif distinct ks then some (ps,d,ks) else none
   |none=>none
  |_=>none
 | .box true,.v ⟨false,[.dh k 0]⟩=>match tb k with
  |some (.box cs)=>bif Nat.ble want.length cs.length&&(cs.drop want.length).all AC.still then
    match bc tb want (cs.take want.length) with
    |some (ps,l,ks,true)=>bif distinct (k::ks) then some (ps,.box l,k::ks) else none
    |_=>none
   else none
  |_=>none
 | .box false,.v ⟨false,[.dh k 0]⟩=>match tb k with
  |some (.box cs)=>bif Nat.ble want.length cs.length&&(cs.drop want.length).all AC.still then
    match plain (cs.take want.length) with
    |some l=>some ([],.box l,[k])
    |none=>none
   else none
  |_=>none
 |_,_=>none
def iY(tb:fT U)(ah:List Key)(want:List (Option U.Ty))(m:Mode)(x:SV U):Option (List Prop×DV U):=
 match m with
 | .ro=>ru E tb ah want x
 |m=>match dW tb ah want m x with|some (ps,d,_)=>some (ps,d)|none=>none
def eS(tb:fT U)(ah:List Key):List Mode->List (List (Option U.Ty))->List (SV U)->Option (List Prop×List (DV U))
 |[],_,[]=>some ([],[])
 |m::ms,ws,x::r=>
  match iY E tb ah (ws.headD []) m x,eS tb ah ms ws.tail r with
  |some (ps,d),some (qs,ds)=>some (ps++qs,d::ds)
  |_,_=>none
 |_,_,_=>none
def ak(dst:Nat)(fresh:Bool)(base:Nat):List U.C->List (AC U)×List (Nat×bZ U)
 |[]=>([],[])
 | .lit v::r=>(.c (.lit v)::(ak dst fresh (base+1) r).1,(ak dst fresh (base+1) r).2)
 | .sl τ xs::r=>bif fresh then(.ref (dst,base) []::(ak dst fresh (base+1) r).1,(base,.arr ⟨τ,xs⟩ true)::(ak dst fresh (base+1) r).2)
   else(.c (.sl τ xs)::(ak dst fresh (base+1) r).1,(ak dst fresh (base+1) r).2)
def qE(dst:Nat)(fresh:Bool)(base:Nat):DV U->Option (AV U×List (Nat×bZ U))
 | .one c=>some (⟨false,(ak dst fresh base [c]).1⟩,(ak dst fresh base [c]).2)
 | .agg cs=>some (⟨true,(ak dst fresh base cs).1⟩,(ak dst fresh base cs).2)
 | .box cs=>bif fresh then some (⟨false,[.dh (dst,base) 0]⟩,[(base,.box (cs.map .c))]) else none
 | .ptr _=>none
 | .fn _=>none
def mP(dst:Nat)(fs:List Bool)(base:Nat):List (DV U)->Option (List (AV U)×List (Nat×bZ U))
 |[]=>some ([],[])
 |d::r=>match qE dst (fs.headD true) base d,mP dst fs.tail (base+32) r with
  |some (x,e),some (xs,es)=>some (x::xs,e++es)
  |_,_=>none
def DV.safe(fresh:Bool):DV U->Bool
 | .one c=>fresh||jO [c]
 | .agg cs=>fresh||jO cs
 | .box _=>false
 | .ptr _=>false
 | .fn _=>false
def jd:List Bool->List (DV U)->Bool
 |_,[]=>true
 |fs,d::r=>d.safe (fs.headD true)&&jd fs.tail r
def ln(ms:List Mode):Bool:=ms.any fun m=>match m with| .box false=>true|_=>false
def ea:List (AC U)->List U.C->Option (List (Key×bZ U))
 |[],[]=>some []
 | .c (.lit _)::r,.lit _::cs=>ea r cs
 | .ref k []::r,.sl τ ys::cs=>match ea r cs with|some us=>some ((k,.arr ⟨τ,ys⟩ true)::us)|none=>none
 |_,_=>none
def bX(tb:fT U)(eN n:Nat)(m:Mode)(x:SV U)(dm:List (DV U)):Option (List (Key×bZ U)×List (Nat×bZ U)):=
 match m,x,dm with
 | .wr,.v ⟨false,[.ref k p]⟩,[.one (.sl τ ys)]=>match tb k with
  |some (.arr a true)=>match Cr p a (fun b=>match cv b.τ ⟨τ,ys⟩ with|some zs=>some ⟨b.τ,zs⟩|none=>none) with
   |some a'=>some ([(k,.arr a' true)],[])
   |none=>none
  |_=>none
 | .wr,.v ⟨true,cs⟩,[.agg ds]=>match ea cs ds with|some us=>some (us,[])|none=>none
 | .mv,_,[]=>some ([],[])
 | .box true,.v ⟨false,[.dh k 0]⟩,[.box ds]=>match tb k with
  |some (.box cs)=>bif Nat.beq ds.length n then some ([(k,.box ((ak eN true 512 ds).1++cs.drop n))],(ak eN true 512 ds).2) else none
  |_=>none
 | .box false,.v ⟨false,[.dh k 0]⟩,[.box ds]=>match tb k with
  |some (.box cs)=>bif Nat.beq ds.length n then some ([(k,.box (ds.map .c++cs.drop n))],[]) else none
  |_=>none
 |_,_,_=>none
def mj:Mode->List (DV U)->List (DV U)
 | .mv,_=>[]
 |_,ds=>ds.take 1
def kk:Mode->List (DV U)->List (DV U)
 | .mv,ds=>ds
 |_,ds=>ds.drop 1
def dV(tb:fT U)(ah:List Key)(eN:Nat):List Mode->List (List (Option U.Ty))->List (SV U)->List (DV U)->Option (List (Key×bZ U)×List (Nat×bZ U)×List Key)
 |[],_,[],[]=>some ([],[],[])
 | .ro::ms,ws,_::r,ds=>dV tb ah eN ms ws.tail r ds
 |m::ms,ws,x::r,ds=>match dW tb ah (ws.headD []) m x,bX tb eN (ws.headD []).length m x (mj m ds) with
  |some (_,_,ks),some (us,es)=>match dV tb ah eN ms ws.tail r (kk m ds) with
   |some (uu,BM,ks')=>bif distinct (ks++ks') then some (us++uu,es++BM,ks++ks') else none
   |none=>none
  |_,_=>none
 |_,_,_,_=>none
def bg:List Mode->List (SV U)->List Key
 | .ro::ms,x::r=>x.keys++bg ms r
 |_::ms,_::r=>bg ms r
 |_,_=>[]
def eP:List Nat->Bool
 |[]=>true
 |n::r=> !(r.any (Nat.beq n))&&eP r
def mL(tb:fT U)(n:Nat):List Mode->List (List (Option U.Ty))->List (SV U)->Bool
 |m::ms,ws,x::r=>(match m,x with
  | .box _,.v ⟨false,[.dh k _]⟩=>(match tb k with
   |some (.box cs)=>Nat.beq ((ws.headD []).length+n) cs.length
   |_=>false)
  | .box _,_=>false
  |_,_=>true)&&mL tb n ms ws.tail r
 |_,_,_=>true
def ly(tb:fT U)(ah:List Key)(dst:Nat)(k:eg U)(types:List TypeId)(xs:List (SV U)):Option (az U):=
 match eS E tb ah k.md (k.want (types.map E.k8)) xs with
 |some (ps,ds)=>
  match k.of ds with
  |some x=>
   match dV tb ah dst k.md (k.want (types.map E.k8)) xs (k.fZ x).rX,mP dst (k.fZ x).fresh 0 (k.fZ x).val with
   |some (us,eb,lk),some (vs,es)=>
    let dB:=(bif jd (k.fZ x).fresh (k.fZ x).val&& !(ln k.md) then[] else bg k.md xs)++lk
    bif eP ((es++eb).map (·.1))&& !(lk.any fun u=>(bg k.md xs).any (cj u))&&mL tb k.qu k.md (k.want (types.map E.k8)) xs then
     some ⟨some (match vs with|[v]=> .v v|vs=> .jx vs),es++eb,dB,us,ps++k.pre x⟩
    else none
   |_,_=>none
  |none=>none
 |none=>none
def o_(τ:U.Ty)(tb:fT U):AC U->Option (List Prop×List (U.T τ)×List Key×Bool)
 | .e0=>some ([],[],[],true)
 | .ref k []=>match tb k with
  |some (.arr a d)=>match cv τ a with|some ys=>some ([],ys,[k],d)|none=>none
  |_=>none
 | .c (.sl nZ ys)=>match cv τ ⟨nZ,ys⟩ with|some ys=>some ([],ys,[],U.flat τ)|none=>none
 |_=>none
def CP:AC U->AC U
 | .kn _ τ xs=> .c (.sl τ xs)
 |x=>x
def rW(τ:U.Ty)(tb:fT U)(x:AC U):Option (List Prop×List (U.T τ)×List Key×Bool):=o_ τ tb (CP x)
def mg(τ:U.Ty)(s:ByteArray):Option (List (U.T τ)):=cv τ ⟨U.fo,s.data.toList.map fun b=>U.GI (b.toNat:Int)⟩
def iM(τ:U.Ty)(tb:fT U):AC U->Option (List Prop×List (U.T τ)×List Key×Bool)
 | .e0=>some ([],[],[],true)
 | .ref k []=>match tb k with
  |some (.arr a d)=>match cv τ a with|some ys=>some ([],ys,[k],d)|none=>none
  |some (.part a dead)=>match cv τ a with|some ys=>some ([∀i,i<ys.length->dead i=false],ys,[k],true)|none=>none
  |_=>none
 | .sub k _ 0 hi=>match tb k with
  |some (.arr a d)=>match cv τ a with|some ys=>some ([hi<=ys.length],ys.take hi,[k],d)|none=>none
  |_=>none
 |_=>none
def vd(E:Env U)(op:BinOp)(t:TypeId)(y:Operand)(x:SV U):Option (az U):=
 match op,y,x with
 | .eql,.const (.slice none _ _),.v ⟨false,[.kn b _ _]⟩=>match E.P.underlying t with|some (.slice _)=>some (.lit (.bool b))|_=>none
 |_,_,_=>none
def wi:Option Value->Bool
 |some (.bool b)=>b
 |_=>false
def intOf:Option Value->Int
 |some (.int _ n)=>n
 |_=>0
def l4(tb:fT U)(ah:List Key):List (List (Option U.Ty))->List (SV U)->Option (List Prop×List (DA U))
 |_,[]=>some ([],[])
 |ws,x::r=>match iX tb ah (ws.headD []) x,l4 tb ah ws.tail r with
  |some (ps,.one c),some (qs,ds)=>some (ps++qs,⟨false,[c]⟩::ds)
  |some (ps,.agg cs),some (qs,ds)=>some (ps++qs,⟨true,cs⟩::ds)
  |_,_=>none
def partOf(tb:fT U):AC U->Option (fx U)
 | .ref k []=>match tb k with
  |some (.part a _)=>some a
  |_=>none
 |_=>none
def rY(tb:fT U)(dst:Nat)(agg:Bool)(n:Nat):AC U->Option (az U)
 | .dG k [] i wd off=>match tb k with
  |some (.part a dead)=>bif (agg||Nat.beq n 1)&&Nat.ble (off+n) (U.wd a.τ)&&Nat.beq wd (U.wd a.τ) then
    let cs:=((U.enc a.τ (a.xs.getD i (U.bj a.τ))).drop off).take n
    bif jO cs then some (.aF (.v ⟨agg,cs.map .c⟩) [i<a.xs.length,dead i=false])
    else bif Nat.blt n (U.wd a.τ) then some (.aF (.v ⟨agg,bN k [] i wd cs off⟩) [i<a.xs.length,dead i=false])
    else bif eP ((ak dst true 0 cs).2.map (·.1)) then
     some ⟨some (.v ⟨agg,(ak dst true 0 cs).1⟩),(ak dst true 0 cs).2,[],[(k,.part a (fun j=>Nat.beq j i||dead j))],[i<a.xs.length,dead i=false]⟩
    else none
   else none
  |_=>none
 |_=>none
def mW(wd:Nat):List (SV U)->Bool
 |[]=>true
 | .v x::r=>Nat.beq x.cs.length wd&&mW wd r
 |_=>false
def o7(τ:U.Ty)(tb:fT U):AC U->Option (List (U.T τ)×List Key)
 | .ref k []=>match tb k with
  |some (.part a _)=>match cv τ a with|some ys=>some (ys,[k])|none=>none
  |_=>none
 |_=>none
def kY(tb:fT U)(x:AV U):AC U->Option (az U)
 | .dG k [] i wd 0=>match tb k with
  |some (.part a dead)=>bif Nat.beq wd (U.wd a.τ)&&Nat.beq x.cs.length wd then
    match bc tb (oH (U.enc a.τ (a.xs.getD i (U.bj a.τ)))) x.cs with
    |some (qs,ds,ks,true)=>match U.dec a.τ ds with
     |some y=>bif distinct (k::ks) then some ⟨none,[],ks,[(k,.part ⟨a.τ,a.xs.set i y⟩ (fun j=> !(Nat.beq j i)&&dead j))],qs++[i<a.xs.length]⟩ else none
     |none=>none
    |_=>none
   else none
  |_=>none
 |_=>none
def kZ(tb:fT U)(x:AV U):AC U->Option (az U)
 | .dG k [] i wd off=>match tb k,gF x.cs with
  |some (.part a dead),some vs=>bif Nat.beq wd (U.wd a.τ)&&Nat.ble (off+x.cs.length) wd then
    match oM off i (vs.map .lit) a with
    |some a'=>some ⟨none,[],[],[(k,.part a' dead)],[i<a.xs.length,dead i=false]⟩
    |none=>none
   else none
  |_,_=>none
 |_=>none
def l5:List (SV U)->Option (List (AV U))
 |[]=>some []
 | .v x::r=>match l5 r with|some l=>some (x::l)|none=>none
 |_=>none
def nd(E:Env U)(tb:fT U)(ah:List Key)(t:TypeId)(types:List TypeId)(p:List (DA U)->Option Value)(xs:List (SV U)):Option (az U):=
 match l4 tb ah (types.map E.k8) xs with
 |some (ps,ds)=>match E.P.underlying t with
  |some .bool=>some (.lit (.bool (wi (p ds))) (ps++[p ds=some (.bool (wi (p ds)))]))
  |some (.int k)=>some (.lit (.int k (intOf (p ds))) (ps++[p ds=some (.int k (intOf (p ds)))]))
  |_=>none
 |none=>none
def Env.yk(b:Bool)(f:FuncId):Option (eg U):=bif b then E.uk f else E.ul f
def lu(b:Bool)(tb:fT U)(ah:List Key)(o:Oper)(xs:List (SV U)):Option (az U):=
 let dst:=o.dst.getD 1000000
 match o.op,xs with
 | .move _,[x]=>some (.aF x)
 | .assign _,[x]=>some (.aF x)
 | .unOp op _ _,[x]=>match cq x with
  |some v=>(qN op v).map (.lit ·)
  |none=>none
 | .binOp op t _ q _,[x,y]=>match cq x,cq y with
  |some a,some b=>(mV E t op a b).map fun(ps,v)=> .lit v ps
  |_,_=>match wb E op t x y with|some r=>some r|none=>vd E op t q x
 | .extract _ i,[.jx l]=>(l[i]?).map fun v=> .aF (.v v)
 | .alloc t,[]=>
  match(E.P.info? t).bind (·.zero) with
  |some z=>match gI (U:=U) z.cells with
   |some (.v x)=>some ⟨some (one (.dh (dst,0) 0)),[(0,.box x.cs)],[],[],[]⟩
   |_=>none
  |none=>none
 | .load t _,[x]=>match i_ x,E.size t,E.isAgg t with
  |some a,some n,some g=>match(bif E.shl t then mT tb g n a else none) with
   |some r=>some r
   |none=>match loadAt tb ah g n a with
    |some r=>some r
    |none=>rY tb dst g n a
  |_,_,_=>none
 | .store t _ _,[p,.v x]=>match i_ p,E.size t with
  |some a,some n=>bif Nat.beq n x.cs.length then(match storeAt tb ah x a with
   |some r=>some r
   |none=>match kY tb x a with
    |some r=>some r
    |none=>kZ tb x a) else none
  |_,_=>none
 | .fieldAddr t _ f,[x]=>match i_ x,E.ye t f with
  |some y,some (o,ft)=>match E.size ft with
   |some (_+1)=>match y with
    | .ia cs=>some (.aF (one (.ia (cs.drop o))))
    | .dh k off=>some (.aF (one (.dh k (off+o))))
    | .dG k p i wd off=>bif bw tb ah k p then some (.aF (one (.dG k p i wd (off+o)))) else none
    |_=>none
   |_=>none
  |_,_=>none
 | .field t _ f,[.v ⟨true,cs⟩]=>match E.ye t f with
  |some (o,ft)=>match E.size ft,E.isAgg ft with
   |some n,some g=>bif Nat.ble (o+n) cs.length&&(g||Nat.beq n 1) then some (.aF (.v ⟨g,(cs.drop o).take n⟩)) else none
   |_,_=>none
  |none=>none
 | .build t parts,xs=>match E.rU t,(E.P.info? t).bind (·.zero) with
  |some pl,some z=>match cJ (U:=U) z.cells.toList with
   |some l=>match bS pl l (parts.toList.map (·.1)) xs with
    |some cs=>some (.aF (.v ⟨true,cs⟩))
    |none=>none
   |none=>none
  |_,_=>none
 | .buildSlice t len parts,xs=>match E.elem t with
  |some e=>match E.code e with
   |some τ=>bif (parts.toList.map (·.1)).length.beq len&&((parts.toList.map (·.1)).zipIdx).all (fun(a,b)=>Nat.beq a b)&&Nat.ble (len*U.wd τ) 1000000 then
     bif E.bu t dst (xs.flatMap SV.keys) then
      bif mW (U.wd τ) xs then some ⟨some (one (.ref (dst,0) [])),[(0,.part ⟨τ,List.replicate len (U.bj τ)⟩ (fun _=>true))],[],[],[]⟩ else none
     else match rowsOf τ tb (E.shape 8 e) xs with
     |some (ps,rows,ks,d)=>bif distinct ks then some ⟨some (one (.ref (dst,0) [])),[(0,.arr ⟨τ,rows⟩ d)],ks,[],ps⟩ else none
     |none=>none
    else none
   |none=>none
  |none=>none
 | .makeSlice t _ _,[l,c]=>match E.elem t,cq l,cq c with
  |some e,some (.int .i64 n),some (.int .i64 m)=>match E.code e with
   |some τ=>some ⟨some (one (.ref (dst,0) [])),[(0,.arr ⟨τ,List.replicate n.toNat (U.bj τ)⟩ true)],[],[],[0<=n,n=m,n<=4294967296]⟩
   |none=>none
  |_,_,_=>none
 | .indexAddr t _ _,[x,i]=>match cq i,i_ x,(E.elem t).bind E.size with
  |some (.int _ n),some y,some m=>match y with
   | .c (.sl τ ys)=>bif Nat.beq m (U.wd τ) then some (.aF (one (.ia (U.enc τ (ys.getD n.toNat (U.bj τ))))) [0<=n,n.toNat<ys.length]) else none
   | .ref k p=>match fq tb ah (.ref k p) with
    |some (ps,a)=>bif Nat.beq m (U.wd a.τ) then some (.aF (one (.dG k p n.toNat (U.wd a.τ) 0)) (ps++[0<=n,n.toNat<a.xs.length])) else none
    |none=>match p,partOf tb (.ref k []) with
     |[],some a=>bif Nat.beq m (U.wd a.τ) then some (.aF (one (.dG k [] n.toNat (U.wd a.τ) 0)) [0<=n,n.toNat<a.xs.length]) else none
     |_,_=>none
   |_=>none
  |_,_,_=>none
 | .index t _ _,[x,i]=>match cq x,cq i,E.P.underlying t with
  |some (.string s),some (.int _ n),some .string=>some (.lit (.int .u8 ((s.data.toList.getD n.toNat 0).toNat:Int)) [0<=n,n.toNat<s.size])
  |_,_,_=>none
 | .slice t _ lo hi mx,x::bs=>match oz lo bs with
  |some (l,NK)=>match oz hi NK with
   |some (h,NJ)=>match oz mx NJ with
    |some (m,[])=>jc E tb ah t x l h m
    |_=>none
   |none=>none
  |none=>none
 | .call {callee:=.builtin .len,argTypes,..},[x]=>match argTypes.toList with
  |[t]=>match cq x with
   |some (.string s)=>match E.P.underlying t with
    |some .string=>some (.lit (.int .i64 s.size))
    |_=>none
   |some _=>none
   |none=>match i_ x,E.elem t with
    |some .e0,some _=>some (.lit (.int .i64 0))
    |some a,some _=>match fq tb ah a with
     |some (ps,b)=>some (.lit (.int .i64 b.xs.length) ps)
     |none=>match partOf tb a with
      |some b=>some (.lit (.int .i64 b.xs.length))
      |none=>none
    |_,_=>none
  |_=>none
 | .call {callee:=.builtin .clear,argTypes,..},[x]=>match argTypes.toList with
  |[t]=>match E.elem t,i_ x with
   |some e,some (.sub k wd lo hi)=>match E.code e,tb k with
    |some τ,some (.part a dead)=>bif Nat.beq wd (U.wd a.τ) then(match cv τ a with
     |some xs=>some ⟨some (.jx []),[],[],[(k,.part ⟨τ,xs⟩ (fun j=>dead j||Nat.ble lo j))],[lo<=hi,hi=xs.length]⟩
     |none=>none) else none
    |_,_=>none
   |_,_=>none
  |_=>none
 | .call {callee:=.builtin .min,..},[x,y]=>match cq x,cq y with
  |some (.int k a),some (.int k' b)=>bif decide (k=k') then some (.lit (.int k (if b<a then b else a))) else none
  |_,_=>none
 | .call {callee:=.builtin .max,..},[x,y]=>match cq x,cq y with
  |some (.int k a),some (.int k' b)=>bif decide (k=k') then some (.lit (.int k (if b>a then b else a))) else none
  |_,_=>none
 | .call {callee:=.builtin .append,argTypes,..},[s,x]=>
  match argTypes.toList with
  |[t,u]=>match E.elem t,E.elem u,i_ s,i_ x with
   |some e,some e',some s,some x=>bif Nat.beq t u&&Nat.beq e e' then
    match E.code e with
    |some τ=>
     match iM τ tb s,rW τ tb x with
     |some (ps,xs,ks,d),some (qs,ys,ks',d')=>
      bif distinct (ks++ks') then
       some ⟨some (one (.ref (dst,0) [])),[(0,.arr ⟨τ,xs++ys⟩ (d&&d'))],ks++ks',[],ps++qs++[xs.length+ys.length<=4294967296]⟩
      else none
     |some (ps,xs,ks,true),none=>match o7 τ tb x with
      |some (ys,ks')=>bif distinct (ks++ks') then
        some ⟨some (one (.ref (dst,0) [])),[(0,.part ⟨τ,xs++ys⟩ (fun i=>Nat.ble xs.length i))],ks++ks',[],ps++[xs.length+ys.length<=4294967296]⟩
       else none
      |none=>none
     |_,_=>none
    |none=>none else none
   |some e,none,some s,some (.c (.lit (.string str)))=>match E.P.underlying u,E.code e with
    |some .string,some τ=>match iM τ tb s,mg τ str with
     |some (ps,xs,ks,d),some ys=>bif distinct ks then
       some ⟨some (one (.ref (dst,0) [])),[(0,.arr ⟨τ,xs++ys⟩ d)],ks,[],ps++[xs.length+ys.length<=4294967296]⟩ else none
     |_,_=>none
    |_,_=>none
   |_,_,_,_=>none
  |_=>none
 | .makeFunc (.func g) first _,xs=>bif first.isEmpty then(match l5 xs with|some l=>some (.aF (.ox g l))|none=>none) else none
 | .call {callee:=.value (.tmp _),argTypes,..},.fn p::xs=>nd E tb ah o.type argTypes.toList p xs
 | .call {callee:=.value (.func f),argTypes,..},xs=>match E.yk b f with
  |some k=>ly E tb ah dst k argTypes.toList xs
  |none=>none
 | .box _ _,[.v x]=>bif iU tb ah x.cs&&(x.agg||Nat.beq x.cs.length 1) then some ⟨some (one (.dh (dst,0) 0)),[(0,.box x.cs)],[],[],[]⟩ else none
 | .nilCheck _,[x]=>match i_ x with
  |some (.ia _)=>some (.aF x)
  |some (.dh _ _)=>some (.aF x)
  |some (.dG k p _ _ _)=>bif bw tb ah k p then some (.aF x) else none
  |_=>none
 | .convert s d _,[x]=>match E.P.underlying d with
  |some (.int k)=>match E.P.underlying s,cq x with
   |some (.int _),some (.int _ n)=>some (.lit (.int k (k.wrap n)))
   |_,_=>none
  |some .string=>match E.P.underlying s with
   |some (.slice e)=>match E.P.underlying e,i_ x with
    |some (.int .u8),some .e0=>some (.lit (.string ByteArray.empty))
    |some (.int .u8),some y=>match fq tb ah y with
     |some (ps,b)=>match cv U.fo b with
      |some ys=>some (.lit (.string (strOfNums (ys.map U.yE))) ps)
      |none=>none
     |none=>none
    |_,_=>none
   |_=>none
  |_=>none
 |_,_=>none
def Oper.looks(o:Oper):List Operand:=
 match o.op with
 | .build _ ps=>ps.toList.map (·.2)
 | .buildSlice _ _ ps=>ps.toList.map (·.2)
 | .call c=>(match c.callee with| .value (.func _)=>[]| .builtin _=>[]| .value f=>[f]| .invoke r _=>[r])++c.args.toList
 |op=>op.operands.toList
def gv(σ:aa U)(o:Oper):Option (List (SV U)):=mJ ((Oper.looks o).map (rV σ))
def gh(σ:aa U)(o:Oper):Bool:=match o.dst with|some d=>Nat.blt d σ.n|none=>true
def n9(x:Option (SV U)):Option Value:=match x with|some y=>cq y|none=>none
def lc(σ:aa U)(x:Operand):Option Value:=n9 (rV σ x)
def kindOk(o:Oper):Bool:=match o.op with
 | .store _ _ _=>o.dst.isNone
 | .alloc _| .box _ _| .buildSlice _ _ _| .makeSlice _ _ _=>o.dst.isSome
 | .call c=>(match c.callee with| .builtin .clear=>true| .builtin _=>o.dst.isSome|_=>true)
 |_=>true
def step(b:Bool)(σ:aa U)(o:Oper):Option (az U×List Key):=
 bif gh σ o&&kindOk o then
  match o.op with
  | .pick c a b=>
   match lc σ c with
   |some (.bool t)=>match(bif t then rV σ a else rV σ b) with
    |some x=>some (.aF x,[])
    |none=>none
   |_=>none
  |_=>match gv σ o with
   |some xs=>match lu E b (restrict σ.aw (fE σ o xs)) σ.ah o xs with
    |some r=>some (r,fE σ o xs)
    |none=>none
   |none=>none
 else none
def fH(dst:Nat)(l:List (Nat×bZ U)):List (Key×Option (bZ U)):=l.map fun(j,e)=>((dst,j),some e)
def apply(o:Oper)(r:az U)(σ:aa U):aa U:=
 {σ with
  au:=(match o.dst with|some d=>(d,r.val)::σ.au|none=>σ.au)
  tab:=fH (o.dst.getD 1000000) r.aM++r.cK.map (fun(k,e)=>(k,some e))++r.dB.map (fun k=>(k,none))++σ.tab
  ah:=r.cK.map (·.1)++σ.ah}
def kW:az U:=⟨some (.jx []),[],[],[],[]⟩
structure Rec where
 i:Nat
 reads:List Key
 names:List Key
 writes:List Key
 news:List Key
def az.news(dst:Nat)(r:az U):List Key:=r.aM.map fun(j,_)=>(dst,j)
def az.writes(dst:Nat)(r:az U):List Key:=r.aM.map (fun(j,_)=>(dst,j))++r.dB++r.cK.map (·.1)
def bZ.names:bZ U->List Key
 | .box cs=>cs.flatMap AC.keys
 | .arr _ _=>[]
 | .part _ _=>[]
def az.names(r:az U):List Key:=
 (match r.val with|some x=>x.keys|none=>[])++r.aM.flatMap (fun(_,e)=>e.names)++r.cK.flatMap (fun(_,e)=>e.names)
def hO(dst:Nat)(r:az U)(rs:List Rec):Bool:=r.aM.isEmpty||rs.all fun x=> !((x.reads++x.names++x.writes).any fun k=>Nat.beq k.1 dst)
def jY(o:Oper)(r:az U):Bool:=r.aM.all fun(j,_)=>Nat.blt j 1024
def meet(a b:List Key):Bool:=a.any fun k=>b.any (cj k)
def LP(ops:List Oper):List Nat:=
 ops.foldl (fun acc o=>acc++[o.after.toList.foldl (fun m e=>bif Region.binds .any e then Nat.lor m (Nat.lor (Nat.shiftLeft 1 e.on) (acc.getD e.on 0)) else m) 0]) []
def kK(m i:Nat):Bool:=Nat.beq (Nat.land (Nat.shiftRight m i) 1) 1
def lp(ops:List Oper)(o:Oper):List Nat:=
 match o.guard with
 |some (g,_)=>match ops[g]? with|some q=>q.dst.toList|none=>[]
 |none=>[]
def slotsOf(ops:List Oper)(o:Oper):List Nat:=
 (o.op.operands.toList.flatMap fun| .tmp t=>[t]|_=>[])++lp ops o
def pG(ops:List Oper)(x y:Oper)(rx ry:Rec):Bool:=
 !(meet rx.writes (ry.reads++ry.writes))&& !(meet ry.writes rx.reads)&& !(meet rx.news ry.names)&&
 (match x.dst with|some d=> !((slotsOf ops y).any (Nat.beq d))&& !(y.dst.any (Nat.beq d))|none=>true)&&
 (match y.dst with|some d=> !((slotsOf ops x).any (Nat.beq d))|none=>true)
def yI(ops:List Oper):Bool:=ops.zipIdx.all fun(o,i)=>o.after.toList.all fun e=> !(Region.binds .any e)||Nat.blt e.on i
def su(ops:List Oper)(C7:List Rec):Bool:=
 let an:=LP ops
 yI ops&&C7.all fun ry=>C7.all fun rx=>
  !(Nat.blt rx.i ry.i)||kK (an.getD ry.i 0) rx.i||
  (match ops[rx.i]?,ops[ry.i]? with|some x,some y=>pG ops x y rx ry|_,_=>false)
def guards(ops:List Oper)(i:Nat):Bool:=ops.any fun o=>match o.guard with|some (g,_)=>Nat.beq g i|none=>false
def uq:List Prop->Prop->Prop
 |[],q=>q
 |p::ps,q=>p/\uq ps q
def wj(a b:Bool):Bool:=match a,b with|true,true=>true|false,false=>true|_,_=>false
def uH(i:Nat)(o:Oper)(σ:aa U)(rs:List Rec)(ks:List Key)(K:aa U->Rec->Prop)(r:az U):Prop:=
 bif hO (o.dst.getD 1000000) r rs&&jY o r then K (apply o r σ) ⟨i,ks,r.names,r.writes (o.dst.getD 1000000),r.news (o.dst.getD 1000000)⟩ else False
def zD(r:az U)(b:Bool):az U:={r with val:=some (js (.bool b))}
def qm(Px:Bool)(ops:List Oper)(i:Nat)(o:Oper)(σ:aa U)(rs:List Rec)(K:aa U->Rec->Prop):Prop:=
 match step E Px σ o with
 |some (r,ks)=>
  uq r.pre<|
  bif guards ops i then
   match n9 r.val with
   |some (.bool b)=>bif b then uH i o σ rs ks K (zD r true) else uH i o σ rs ks K (zD r false)
   |_=>False
  else uH i o σ rs ks K r
 |none=>False
def FR(o:Oper):Bool:=match o.op with
 | .call {callee:=.value (.func f),..}=>(E.uk f).isSome
 |_=>false
def ql(ops:List Oper)(i:Nat)(o:Oper)(σ:aa U)(rs:List Rec)(K:aa U->Rec->Prop):Prop:=
 bif FR E o then qm E false ops i o σ rs K\/qm E true ops i o σ rs K else qm E false ops i o σ rs K
def wpOps(ops:List Oper):List Oper->Nat->aa U->List Rec->(aa U->List Rec->Prop)->Prop
 |[],_,σ,rs,K=>K σ rs
 |o::rest,i,σ,rs,K=>
  match o.guard with
  |none=>ql E ops i o σ rs fun dR r=>wpOps ops rest (i+1) dR (r::rs) K
  |some (g,want)=>
   match((ops[g]?).bind (·.dst)).bind σ.get with
   |some (.v x)=>match cq (.v x) with
    |some (.bool b)=>bif wj b want then ql E ops i o σ rs fun dR r=>wpOps ops rest (i+1) dR (r::rs) K
     else bif gh σ o then wpOps ops rest (i+1) (apply o kW σ) (⟨i,[],[],[],[]⟩::rs) K else False
    |_=>False
   |some (.jx [])=>bif gh σ o then wpOps ops rest (i+1) (apply o kW σ) (⟨i,[],[],[],[]⟩::rs) K else False
   |_=>False
def SV.sF(bad:Key->Bool)(ah:List Key)(x:SV U):Bool:=
 x.mE.any fun a=>a.keys.any bad||(match a with| .ref k p| .dG k p _ _ _=> !p.isEmpty&&ah.any (cj k)|_=>false)
def AC.iK(f:Key->Key):AC U->AC U
 | .ref k p=> .ref (f k) p
 | .sub k wd lo hi=> .sub (f k) wd lo hi
 | .dG k p i wd off=> .dG (f k) p i wd off
 | .dh k off=> .dh (f k) off
 |x=>x
def SV.iK(f:Key->Key):SV U->SV U
 | .v x=> .v ⟨x.agg,x.cs.map (AC.iK f)⟩
 | .jx xs=> .jx (xs.map fun x=>⟨x.agg,x.cs.map (AC.iK f)⟩)
 | .fn p=> .fn p
 | .ox g xs=> .ox g (xs.map fun x=>⟨x.agg,x.cs.map (AC.iK f)⟩)
def bZ.iK(f:Key->Key):bZ U->bZ U
 | .box cs=> .box (cs.map (AC.iK f))
 |e=>e
def kc{β:Type}:List Nat->List (Nat×Option β)->List (Nat×Option β)
 |_,[]=>[]
 |seen,(s,v)::r=>bif seen.any (Nat.beq s) then kc seen r else match v with
  |some x=>(s,some x)::kc (s::seen) r
  |none=>kc (s::seen) r
def fX{β:Type}:List Key->List (Key×Option β)->List (Key×Option β)
 |_,[]=>[]
 |seen,(s,v)::r=>bif seen.any (cj s) then fX seen r else match v with
  |some x=>(s,some x)::fX (s::seen) r
  |none=>fX (s::seen) r
def gB(bad:Key->Bool)(σ:aa U):aa U:=
 let ok (x:SV U):Bool:= !(x.sF (fun k=>bad k||(aW σ.tab k).isNone) σ.ah)
 {σ with
  au:=(kc [] σ.au).filter fun(_,v)=>match v with|some (.jx [])=>false|some x=>ok x|none=>false
  tab:=(fX [] σ.tab).filter fun(k,e)=> !(bad k)&&(match e with|some (.box cs)=>ok (.v ⟨true,cs⟩)|_=>true)
  ah:=[]}
def C6(d:Nat)(x:SV U):List (Key×Key):=
 (x.mE.zipIdx).flatMap fun(a,j)=>match a with
  | .ref k []| .sub k _ _ _| .dh k _=>[(k,(d,1024+j))]
  |_=>[]
def jM(l:List (Key×Key))(k:Key):Key:=
 match l with
 |[]=>k
 |(a,b)::r=>bif cj a k then b else jM r k
def rename(l:List (Key×Key))(σ:aa U):aa U:=
 {σ with
  au:=σ.au.map fun(s,v)=>(s,v.map (SV.iK (jM l)))
  tab:=σ.tab.map fun(k,e)=>(jM l k,e.map (bZ.iK (jM l)))}
def gA(l0:List (Key×Key))(σ:aa U):aa U:=
 let l:=l0.filter fun(a,b)=> !(cj a b)&& !(Nat.ble 2000000 a.1&&Nat.blt a.2 1024)
 bif l.isEmpty|| !(distinct (l.map (·.1)))|| !(distinct (l.map (·.2)))|| !(l.all fun(_,b)=>Nat.ble 1024 b.2) then σ else
  let NU:=l.map (·.2)
  rename l (gB (fun k=>NU.any (cj k)) σ)
def gU(d:Nat)(σ:aa U):aa U:=
 match σ.get d with
 |some x=>gA (C6 d x) σ
 |none=>σ
def zF(k:Key)(cs:List (AC U)):List (Key×Key):=
 cs.zipIdx.flatMap fun(a,j)=>match a with
  | .ref q []| .sub q _ _ _=>[(q,(k.1,4096*(k.2+1)+j))]
  |_=>[]
def kf(k:Key)(σ:aa U):aa U:=
 match σ.aw k with
 |some (.box cs)=>gA (zF k cs) σ
 |_=>σ
def boxes(σ:aa U):List Key:=σ.tab.flatMap fun(k,e)=>match e with|some (.box _)=>[k]|_=>[]
inductive fU where
 |slot (s j:Nat)
 |box (k:Key) (j:Nat)
def fU.key:fU->Key
 | .slot s j=>(s,1024+j)
 | .box k j=>(k.1,4096*(k.2+1)+j)
def tI:Option (AC U)->Bool
 |some .e0=>true
 |_=>false
def unnamed(k:Key)(σ:aa U):Bool:=
 (σ.au.all fun(_,v)=>match v with|some x=> !(x.keys.any (cj k))|none=>true)&&
 (σ.tab.all fun(_,e)=>match e with|some (.box cs)=> !(cs.any fun a=>a.keys.any (cj k))|_=>true)
def tE(p:fU)(τ:U.Ty×Bool)(σ:aa U):aa U:=
 bif (aW σ.tab p.key).isNone&&unnamed p.key σ&&Nat.ble 1024 p.key.2 then
  match p with
  | .slot s j=>match σ.get s with
   |some (.v x)=>bif tI x.cs[j]? then
     {σ with au:=(s,some (.v ⟨x.agg,x.cs.set j (.ref p.key [])⟩))::σ.au,tab:=(p.key,some (.arr ⟨τ.1,[]⟩ τ.2))::σ.tab} else σ
   |_=>σ
  | .box k j=>match σ.aw k with
   |some (.box cs)=>bif tI cs[j]? then
     {σ with tab:=(p.key,some (.arr ⟨τ.1,[]⟩ τ.2))::(k,some (.box (cs.set j (.ref p.key []))))::σ.tab} else σ
   |_=>σ
 else σ
def f_(k0:Key)(σ:aa U):aa U:=
 match σ.aw k0 with
 |some (.arr a true)=>{σ with tab:=(k0,some (.part a fun _=>false))::σ.tab}
 |_=>σ
def parts(l:List Key)(σ:aa U):aa U:=l.foldl (fun σ k=>f_ k σ) σ
def mI(k0:Key)(σ:aa U):aa U:=
 match σ.aw k0 with
 |some (.arr a true)=>{σ with tab:=(k0,some (.arr a false))::σ.tab,ah:=k0::σ.ah}
 |_=>σ
def tD(p:fU)(τ:U.Ty)(σ:aa U):aa U:=
 match p with
 | .slot s j=>match σ.get s with
  |some (.v x)=>bif tI x.cs[j]? then{σ with au:=(s,some (.v ⟨x.agg,x.cs.set j (.c (.sl τ []))⟩))::σ.au} else σ
  |_=>σ
 | .box k j=>match σ.aw k with
  |some (.box cs)=>bif tI cs[j]? then{σ with tab:=(k,some (.box (cs.set j (.c (.sl τ [])))))::σ.tab} else σ
  |_=>σ
def tC:List (fU×U.Ty×Option Bool)->aa U->aa U
 |[],σ=>σ
 |(p,τ,some d)::r,σ=>tC r (tE p (τ,d) σ)
 |(p,τ,none)::r,σ=>tC r (tD p τ σ)
def assigned(ops:List Oper):List Nat:=ops.flatMap fun o=>match o.op with| .assign _=>o.dst.toList|_=>[]
def cI(σ:aa U):aa U:=gB (fun _=>false) σ
def sH(l:List Key)(σ:aa U):aa U:=match l with
 |[]=>σ
 |k::l=>cI ((k::l).foldl (fun σ k=>mI k σ) σ)
def ke(l:List Key)(σ:aa U):aa U:=l.foldl (fun σ k=>kf k σ) σ
def settle(ops:List Oper)(σ:aa U):aa U:=
 let M9:=(assigned ops).foldl (fun σ d=>gU d σ) (cI σ)
 ke (boxes M9) M9
def mc(ops:List Oper):List Nat:=ops.flatMap fun o=>o.dst.toList
def enter(ops:List Oper)(σ:aa U):aa U:=let ds:=mc ops;gB (fun k=>(ds.any (Nat.beq k.1)||Nat.beq k.1 1000000)&&Nat.blt k.2 1024) σ
def pu(k0:Key)(c:U.C):AC U->AC U
 | .ref k []=>bif cj k k0 then .c c else .ref k []
 |x=>x
def sk(k0:Key)(c:U.C):SV U->SV U
 | .v x=> .v ⟨x.agg,x.cs.map (pu k0 c)⟩
 |x=>x
def rf(k0:Key)(c:U.C):bZ U->bZ U
 | .box cs=> .box (cs.map (pu k0 c))
 |e=>e
def dM(k0:Key)(σ:aa U):aa U:=
 match σ.aw k0 with
 |some (.arr a _)=>{σ with
   au:=σ.au.map fun(s,v)=>(s,v.map (sk k0 (.sl a.τ a.xs)))
   tab:=(k0,none)::σ.tab.map fun(k,e)=>(k,e.map (rf k0 (.sl a.τ a.xs)))}
 |_=>σ
def hU(s:Nat)(σ:aa U):aa U:=
 match σ.get s with
 |some (.v ⟨_,[.ref k []]⟩)=>dM k σ
 |_=>σ
def gg(l:List Nat)(σ:aa U):aa U:=l.foldl (fun σ s=>hU s σ) σ
def sN(E:Env U)(ops:List Oper):List Nat:=ops.flatMap fun o=>match o.op with
 | .call {callee:=.value (.func f),args,..}=>match E.ul f with
  |some k=>bif ln k.md then(k.md.zip args.toList).flatMap fun(m,q)=>match m,q with
    | .ro,.tmp t=>ops.flatMap fun p=>match p.dst,p.op with
     |some d,.move (.tmp v)=>bif Nat.beq d t then[v] else[]
     |_,_=>[]
    |_,_=>[] else[]
  |none=>[]
 |_=>[]
def gH(l:List Key)(σ:aa U):aa U:=l.foldl (fun σ k=>dM k σ) σ
def rootOf(ops:List Oper)(t:Nat):Nat:=match ops.find? (fun p=>p.dst.any (Nat.beq t)) with
 |some p=>match p.op with
  | .move (.tmp v)=>v
  |_=>t
 |none=>t
def s3(ops:List Oper)(σ:aa U):List Key:=ops.flatMap fun o=>match o.op with
 | .makeFunc _ _ h_=>h_.toList.flatMap fun q=>match q with
  | .tmp t=>match σ.get (rootOf ops t) with
   |some (.v ⟨_,[.dh k _]⟩)=>match σ.aw k with
    |some (.box cs)=>cs.flatMap fun c=>match c with
     | .ref q []=>[q]
     |_=>[]
    |_=>[]
   |_=>[]
  |_=>[]
 |_=>[]
def nk(E:Env U)(ops:List Oper)(σ:aa U):aa U:=gH (s3 ops (gg (sN E ops) (enter ops σ))) (gg (sN E ops) (enter ops σ))
def j_(ops:List Oper)(draw:Bool)(σ:aa U)(K:aa U->Prop):Prop:=
 wpOps E ops ops 0 (nk E ops σ) [] fun dR rs=>bif !draw||su ops rs then K (settle ops dR) else False
inductive Out (U:dw) where
 |normal (σ:aa U)
 |exit (id:Nat) (σ:aa U)
 |ret (σ:aa U)
structure iC(U:dw) where
 X:Type
 au:X->List (Nat×SV U)
 aJ:X->List (Key×bZ U)
 un:aa U->(X->Prop)->Prop
 nil:List (fU×U.Ty×Option Bool)
 zf:List Nat
 zg:List Key
 yG:List Key
 yH:List Key
 I:X->X->Prop
 μ:X->Nat
 all:(X->Prop)->Prop
 wo:∀P,all P->∀y,P y
 names:List Nat
 B5:∀x,∀p∈au x,p.1∈names
 Er:∀p∈nil,∀s j,p.1=fU.slot s j->s∈names
 law:∀σ K,un σ K->∃x,K x/\(∀p∈au x,σ.get p.1=some p.2)/\(∀p∈aJ x,σ.aw p.1=some p.2)
def iG(l:List Nat)(σ:aa U):aa U:=l.foldl (fun σ d=>gU d σ) σ
def uL(σ:aa U):aa U:=ke (boxes σ) σ
def nM(A:iC U)(σ:aa U):aa U:=parts A.yH<|tC A.nil (gH A.zg (gg A.zf (sH A.yG (cI (uL (iG A.names (cI σ)))))))
def b_:Code->Option Nat
 | .region id _ _=>some id
 | .seq a b=>match b_ a with|some i=>some i|none=>b_ b
 | .cond _ a b=>match b_ a with|some i=>some i|none=>b_ b
 | .block _ b=>b_ b
 | .loop b=>b_ b
 |_=>none
def BR(r:Nat)(c:Code):Bool:=match b_ c with
 |some i=>Nat.beq i r
 |none=>false
def uj(r:Nat):Code->Option (Code×Code)
 | .seq a b=>bif BR r b then some (a,b) else match uj r b with
  |some p=>some (.seq a p.1,p.2)
  |none=>none
 |_=>none
def BP(r:Nat)(c:Code):Code:=match uj r c with
 |some p=>p.1
 |none=> .skip
def BO(r:Nat)(c:Code):Code:=match uj r c with
 |some p=>p.2
 |none=> .skip
def dZ(A:iC U)(wr:List Nat)(σ:aa U)(x:A.X):aa U:=
 ⟨σ.n,
  (A.au x).map (fun(s,v)=>(s,some v))++
   ((kc [] σ.au).filter fun(s,v)=> !(wr.any (Nat.beq s))&& !(A.names.any (Nat.beq s))&&(match v with|some (.v y)=>(SV.v y).keys.isEmpty|some (.fn _)=>true|_=>false)),
  (A.aJ x).map fun(k,e)=>(k,some e),
  []⟩
variable(fa:Nat->Option (iC U))
def bI:Code->List Nat
 | .region _ ops _=>mc ops.toList
 | .seq a b=>bI a++bI b
 | .cond _ a b=>bI a++bI b
 | .block _ b=>bI b
 | .loop b=>bI b++(match(b_ b).bind fa with|some A=>A.names|none=>[])
 |_=>[]
def wp:Code->aa U->(Out U->Prop)->Prop
 | .skip,σ,Q=>Q (.normal σ)
 | .seq a b,σ,Q=>wp a σ fun
  | .normal dR=>wp b dR Q
  |o=>Q o
 | .cond c t e,σ,Q=>match lc σ c with
  |some (.bool b)=>bif b then wp t σ Q else wp e σ Q
  |_=>False
 | .block id c,σ,Q=>wp c σ fun
  | .exit Ey dR=>bif Nat.beq Ey id then Q (.normal dR) else Q (.exit Ey dR)
  |o=>Q o
 | .loop c,σ,Q=>match(b_ c).bind fa with
  |some A=>A.un (nM A σ) fun x=>A.I x x/\
    A.all fun y=>A.I x y->wp c (dZ A (bI fa c) σ y) fun
     | .normal dR=>A.un (nM A dR) fun z=>A.I x z/\A.μ z<A.μ y
     |o=>Q o
  |none=>False
 | .exit id,σ,Q=>Q (.exit id σ)
 | .ret,σ,Q=>Q (.ret σ)
 | .region _ ops draw,σ,Q=>j_ E ops.toList draw σ fun dR=>Q (.normal dR)
 |_,_,_=>False
end
end
end AM
