/- THE ABSTRACT MACHINE: a weakest precondition over the model's Code, on typed data. Definitions only. -/
import Derived.Calls
import Derived.Orders
import Derived.Laws.AppendOwn
import Derived.Below
import Derived.Laws.BytesArg
namespace AM
theorem zaa:type_of% @List.mem_cons_of_mem:=@List.mem_cons_of_mem
theorem zab:type_of% @List.mem_cons_self:=@List.mem_cons_self
theorem zac:type_of% @List.getD_eq_getElem?_getD:=@List.getD_eq_getElem?_getD
theorem zad:type_of% @List.getElem?_eq_getElem:=@List.getElem?_eq_getElem
theorem zae:type_of% @Option.some.injEq:=@Option.some.injEq
theorem zaf:type_of% @Bool.and_eq_true:=@Bool.and_eq_true
theorem zag:type_of% @Option.isSome_iff_exists:=@Option.isSome_iff_exists
theorem zah:type_of% @Bool.cond_eq_ite:=@Bool.cond_eq_ite
theorem zai:type_of% @Nat.eq_of_beq_eq_true:=@Nat.eq_of_beq_eq_true
theorem zaj:type_of% @List.getElem?_eq_none:=@List.getElem?_eq_none
theorem zak:type_of% @List.mem_cons:=@List.mem_cons
theorem zal:type_of% @List.getElem?_map:=@List.getElem?_map
theorem zam:type_of% @List.getElem?_cons_zero:=@List.getElem?_cons_zero
theorem zan:type_of% @List.getElem?_take:=@List.getElem?_take
theorem zao:type_of% @List.mem_append:=@List.mem_append
theorem zap:type_of% @List.getElem?_append_right:=@List.getElem?_append_right
theorem zaq:type_of% @List.getElem?_append_left:=@List.getElem?_append_left
theorem zar:type_of% @List.mem_append_left:=@List.mem_append_left
theorem zas:type_of% @List.mem_append_right:=@List.mem_append_right
theorem zat:type_of% @List.mem_flatMap:=@List.mem_flatMap
theorem zau:type_of% @List.mem_singleton:=@List.mem_singleton
theorem zav:type_of% @List.nodup_append:=@List.nodup_append
theorem zaw:type_of% @List.length_take:=@List.length_take
theorem zax:type_of% @Prod.mk.injEq:=@Prod.mk.injEq
theorem zay:type_of% @List.mem_range:=@List.mem_range
theorem zaz:type_of% @List.mem_map:=@List.mem_map
theorem zba:type_of% @Nat.lt_or_ge:=@Nat.lt_or_ge
theorem zbb:type_of% @List.any_eq_true:=@List.any_eq_true
theorem zbc:type_of% @Nat.mul_le_mul_right:=@Nat.mul_le_mul_right
theorem zbd:type_of% @Bool.not_eq_true':=@Bool.not_eq_true'
theorem zbe:type_of% @List.nodup_cons:=@List.nodup_cons
theorem zbf:type_of% @List.length_modify:=@List.length_modify
theorem zbg:type_of% @Bool.false_eq_true:=@Bool.false_eq_true
theorem zbh:type_of% @List.eq_nil_of_length_eq_zero:=@List.eq_nil_of_length_eq_zero
theorem zbi:type_of% @Bool.false_and:=@Bool.false_and
theorem zbj:type_of% @Bool.not_eq_true:=@Bool.not_eq_true
theorem zbk:type_of% @List.getElem_of_mem:=@List.getElem_of_mem
theorem zbl:type_of% @List.mem_of_getElem?:=@List.mem_of_getElem?
theorem zbm:type_of% @List.flatMap_cons:=@List.flatMap_cons
theorem zbn:type_of% @Array.length_toList:=@Array.length_toList
theorem zbo:type_of% @List.length_nil:=@List.length_nil
theorem zbp:type_of% @Int.tmod_eq_emod_of_nonneg:=@Int.tmod_eq_emod_of_nonneg
theorem zbq:type_of% @List.length_cons:=@List.length_cons
theorem zbr:type_of% @List.append_assoc:=@List.append_assoc
theorem zbs:type_of% @Bool.and_false:=@Bool.and_false
theorem zbt:type_of% @List.map_cons:=@List.map_cons
theorem zbu:type_of% @Nat.le_of_ble_eq_true:=@Nat.le_of_ble_eq_true
theorem zbv:type_of% @List.getElem?_drop:=@List.getElem?_drop
theorem zbw:type_of% @Nat.zero_add:=@Nat.zero_add
theorem zbx:type_of% @Array.getElem?_toList:=@Array.getElem?_toList
theorem zby:type_of% @Array.getD_eq_getD_getElem?:=@Array.getD_eq_getD_getElem?
theorem zbz:type_of% @List.flatten_cons:=@List.flatten_cons
theorem zca:type_of% @Nat.le_refl:=@Nat.le_refl
theorem zcb:type_of% @List.all_eq_true:=@List.all_eq_true
theorem zcc:type_of% @List.flatten_append:=@List.flatten_append
theorem zcd:type_of% @Option.map_some:=@Option.map_some
theorem zce:type_of% @List.length_append:=@List.length_append
theorem zcf:type_of% @List.not_mem_nil:=@List.not_mem_nil
theorem zcg:type_of% @List.mem_filter:=@List.mem_filter
theorem zch:type_of% @List.append_nil:=@List.append_nil
theorem zci:type_of% @Nat.add_mul:=@Nat.add_mul
theorem zcj:type_of% @Option.getD_some:=@Option.getD_some
theorem zck:type_of% @Bool.true_and:=@Bool.true_and
theorem zcl:type_of% @List.getElem?_range:=@List.getElem?_range
theorem zcm:type_of% @Bool.eq_iff_iff:=@Bool.eq_iff_iff
theorem zcn:type_of% @Bool.or_eq_true:=@Bool.or_eq_true
theorem zco:type_of% @List.length_map:=@List.length_map
theorem zcp:type_of% @Bool.or_eq_false_iff:=@Bool.or_eq_false_iff
theorem zcq:type_of% @List.take_append_drop:=@List.take_append_drop
theorem zcr:type_of% @List.map_congr_left:=@List.map_congr_left
theorem zcs:type_of% @List.length_drop:=@List.length_drop
theorem zct:type_of% @List.flatMap_def:=@List.flatMap_def
theorem zcu:type_of% @List.length_set:=@List.length_set
theorem zcv:type_of% @Nat.add_zero:=@Nat.add_zero
theorem zcw:type_of% @Bool.false_or:=@Bool.false_or
theorem zcx:type_of% @List.ext_getElem?:=@List.ext_getElem?
theorem zcy:type_of% @List.take_of_length_le:=@List.take_of_length_le
theorem zcz:type_of% @List.take_succ_eq_append_getElem:=@List.take_succ_eq_append_getElem
theorem zda:type_of% @List.getElem_mem:=@List.getElem_mem
theorem zdb:type_of% @Bool.and_true:=@Bool.and_true
theorem zdc:type_of% @List.sum_cons:=@List.sum_cons
theorem zdd:type_of% @List.cons.injEq:=@List.cons.injEq
theorem zde:type_of% @Nat.le_trans:=@Nat.le_trans
theorem zdf:type_of% @Option.getD_none:=@Option.getD_none
theorem zdg:type_of% @List.nodup_iff_pairwise_ne:=@List.nodup_iff_pairwise_ne
theorem zdh:type_of% @List.getElem?_set:=@List.getElem?_set
theorem zdi:type_of% @List.Sublist.refl:=@List.Sublist.refl
theorem zdj:type_of% @List.size_toArray:=@List.size_toArray
theorem zdk:type_of% @Array.getElem?_eq_getElem:=@Array.getElem?_eq_getElem
theorem zdl:type_of% @Nat.add_assoc:=@Nat.add_assoc
theorem zdm:type_of% @List.eq_nil_iff_forall_not_mem:=@List.eq_nil_iff_forall_not_mem
theorem zdn:type_of% @Nat.beq_eq:=@Nat.beq_eq
theorem zdo:type_of% @List.any_map:=@List.any_map
theorem zdp:type_of% @List.getElem?_set_self:=@List.getElem?_set_self
theorem zdq:type_of% @List.mem_flatten:=@List.mem_flatten
theorem zdr:type_of% @List.all_cons:=@List.all_cons
theorem zds:type_of% @Nat.lt_of_lt_of_le:=@Nat.lt_of_lt_of_le
theorem zdt:type_of% @List.length_filter_le:=@List.length_filter_le
theorem zdu:type_of% @List.nodup_nil:=@List.nodup_nil
theorem zdv:type_of% @List.pairwise_iff_getElem:=@List.pairwise_iff_getElem
theorem zdw:type_of% @Nat.one_mul:=@Nat.one_mul
theorem zdx:type_of% @Option.some.inj:=@Option.some.inj
theorem zdy:type_of% @Option.bind_eq_some_iff:=@Option.bind_eq_some_iff
theorem zdz:type_of% @List.getElem?_replicate:=@List.getElem?_replicate
theorem zea:type_of% @Bool.not_false:=@Bool.not_false
theorem zeb:type_of% @List.find?_eq_none:=@List.find?_eq_none
theorem zec:type_of% @Nat.mul_comm:=@Nat.mul_comm
theorem zed:type_of% @List.getElem?_toArray:=@List.getElem?_toArray
theorem zee:type_of% @List.length_replicate:=@List.length_replicate
theorem zef:type_of% @List.map_append:=@List.map_append
theorem zeg:type_of% @List.any_cons:=@List.any_cons
theorem zeh:type_of% @Bool.or_false:=@Bool.or_false
theorem zei:type_of% @List.getElem?_modify:=@List.getElem?_modify
theorem zej:type_of% @List.getElem?_zipIdx:=@List.getElem?_zipIdx
theorem zek:type_of% @List.getElem?_set_ne:=@List.getElem?_set_ne
theorem zel:type_of% @List.drop_eq_getElem_cons:=@List.drop_eq_getElem_cons
theorem zem:type_of% @List.sublist_append_right:=@List.sublist_append_right
theorem zen:type_of% @List.flatMap_nil:=@List.flatMap_nil
theorem zeo:type_of% @Array.toList_map:=@Array.toList_map
theorem zep:type_of% @List.flatMap_append:=@List.flatMap_append
theorem zeq:type_of% @Nat.ble_eq:=@Nat.ble_eq
theorem zer:type_of% @List.sublist_append_left:=@List.sublist_append_left
theorem zes:type_of% @List.all_nil:=@List.all_nil
theorem zet:type_of% @List.sum_append:=@List.sum_append
theorem zeu:type_of% @Int.toNat_natCast:=@Int.toNat_natCast
theorem zev:type_of% @Nat.sub_self:=@Nat.sub_self
theorem zew:type_of% @Nat.add_comm:=@Nat.add_comm
theorem zex:type_of% @List.cons_append:=@List.cons_append
theorem zey:type_of% @List.flatten_nil:=@List.flatten_nil
theorem zez:type_of% @Nat.div_eq_of_lt:=@Nat.div_eq_of_lt
theorem zfa:type_of% @Bool.not_true:=@Bool.not_true
set_option linter.unusedVariables false
noncomputable section
open Go
inductive Cell (Ty:Type) (T:Ty→Type) where
 |lit (v:Value)
 |sl (τ:Ty) (xs:List (T τ))
structure Uni where
 Ty:Type
 T:Ty→Type
 deq:DecidableEq Ty
 wd:Ty→Nat
 enc:(τ:Ty)→T τ→List (Cell Ty T)
 dec:(τ:Ty)→List (Cell Ty T)→Option (T τ)
 dflt:(τ:Ty)→T τ
 flat:Ty→Bool
 wd_pos:∀τ,0<wd τ
 enc_len:∀τ x,(enc τ x).length=wd τ
 enc_dec:∀τ cs x,dec τ cs=some x→enc τ x=cs
 flat_ok:∀τ,flat τ=true→∀x c,c∈enc τ x→∃v,c=.lit v
 bcode:Ty
 toB:T bcode→Int
 ofB:Int→T bcode
 toB_ofB:∀n,toB (ofB n)=n
 enc_b:∀x,enc bcode x=[.lit (.int .u8 (toB x))]
abbrev Uni.C(U:Uni):=Cell U.Ty U.T
structure Arr(U:Uni) where
 τ:U.Ty
 xs:List (U.T τ)
abbrev Key:=Nat×Nat
abbrev Path:=List (Nat×Nat×Nat)
inductive AC (U:Uni) where
 |c (x:U.C)
 |e0
 |ref (k:Key) (p:Path)
 |sub (k:Key) (wd lo hi:Nat)
 |eptr (k:Key) (p:Path) (i wd off:Nat)
 |bptr (k:Key) (off:Nat)
 |ia (cs:List U.C)
 |kn (b:Bool) (τ:U.Ty) (xs:List (U.T τ))
structure AV(U:Uni) where
 agg:Bool
 cs:List (AC U)
structure DA(U:Uni) where
 agg:Bool
 cs:List U.C
inductive SV (U:Uni) where
 |v (x:AV U)
 |tup (xs:List (AV U))
 |fn (p:List (DA U)→Option Value)
 |clo (g:FuncId) (caps:List (AV U))
inductive Ent (U:Uni) where
 |arr (a:Arr U) (deep:Bool)
 |box (cs:List (AC U))
 |part (a:Arr U) (dead:Nat→Bool)
structure AState(U:Uni) where
 n:Nat
 slots:List (Nat×Option (SV U))
 tab:List (Key×Option (Ent U))
 dirty:List Key
def look{β:Type}(l:List (Nat×Option β))(s:Nat):Option β:=
 match l with
 |[]=>none
 |(t,v)::r=>bif Nat.beq t s then v else look r s
def keq(a b:Key):Bool:=Nat.beq a.1 b.1&&Nat.beq a.2 b.2
def lookK{β:Type}(l:List (Key×Option β))(k:Key):Option β:=
 match l with
 |[]=>none
 |(t,v)::r=>bif keq t k then v else lookK r k
def AState.get{U:Uni}(σ:AState U)(s:Nat):Option (SV U):=look σ.slots s
def AState.ent{U:Uni}(σ:AState U)(k:Key):Option (Ent U):=lookK σ.tab k
inductive DV (U:Uni) where
 |one (c:U.C)
 |agg (cs:List U.C)
 |box (cs:List U.C)
 |ptr (cs:List U.C)
 |fn (p:List (DA U)→Option Value)
inductive Mode where
 |ro|wr|mv
 |box (own:Bool)
 deriving DecidableEq
structure Res(U:Uni) where
 val:List (DV U)
 fresh:Bool
 muts:List (DV U)
structure Con(U:Uni) where
 α:Type
 md:List Mode
 of:List (DV U)→Option α
 ds:α→List (DV U)
 pre:α→List Prop
 res:α→Res U
 law:∀l x,of l=some x→ds x=l
 rst:Nat:=0
structure Env(U:Uni) where
 P:Program
 tid:U.Ty→TypeId
 code:TypeId→Option U.Ty
 con:FuncId→Option (Con U)
 tabs:List (Nat×Array Value):=[]
 keep:TypeId→Nat→List Key→Bool:=fun _ _ _=>false
section
variable{U:Uni}(E:Env U)
def Env.und(t:TypeId):Option TypeDesc:=E.P.underlying t
def Env.isAgg(t:TypeId):Option Bool:=match E.P.underlying t with|some (.struct _)=>some true|some (.array _ _)=>some true|some _=>some false|none=>none
def Env.size(t:TypeId):Option Nat:=(E.P.info? t).map (·.size)
def Env.elem(t:TypeId):Option TypeId:=match E.P.underlying t with|some (.slice e)=>some e|_=>none
def Env.fld(t:TypeId)(f:Nat):Option (Nat×TypeId):=match E.P.underlying t with|some (.struct fs)=>(fs[f]?).map fun f=>(f.offset,f.type)|_=>none
def Env.shape:Nat→TypeId→List (Option U.Ty)
 |0,_=>[]
 |d+1,t=>match E.P.underlying t with
  |some (.struct fs)=>fs.toList.flatMap fun f=>Env.shape d f.type
  |some (.slice e)=>[E.code e]
  |_=>[none]
def Env.shapeA(t:TypeId):List (Option U.Ty):=match E.P.underlying t with
 |some (.pointer e)=>E.shape 8 e
 |_=>E.shape 8 t
def walk:Path→Arr U→Option (List Prop×Arr U)
 |[],a=>some ([],a)
 |(i,wd,j)::p,a=>
  bif Nat.beq wd (U.wd a.τ) then
   match(U.enc a.τ (a.xs.getD i (U.dflt a.τ)))[j]? with
   |some (.sl τ xs)=>match walk p ⟨τ,xs⟩ with
    |some (ps,b)=>some ((i<a.xs.length)::ps,b)
    |none=>none
   |_=>none
  else none
def modFn(τ:U.Ty)(g:List U.C→List U.C)(x:U.T τ):U.T τ:=match U.dec τ (g (U.enc τ x)) with|some y=>y|none=>x
def modRow(τ:U.Ty)(xs:List (U.T τ))(i:Nat)(g:List U.C→List U.C):List (U.T τ):=xs.modify i (modFn τ g)
theorem qaip{τ:U.Ty}{xs:List (U.T τ)}{i:Nat}{g:List U.C→List U.C}{y:U.T τ}(h:U.dec τ (g (U.enc τ (xs.getD i (U.dflt τ))))=some y):modRow τ xs i g=xs.set i y:=by
 unfold modRow
 refine zcx fun j=> ?_
 rw[zei,zdh]
 by_cases hj:i=j
 ·subst hj
  rw[if_pos rfl]
  by_cases hi:i<xs.length
  ·rw[if_pos hi,zad hi]
   rw[zac,zad hi] at h
   simp only[zcj] at h
   simp[modFn,h]
  ·rw[if_neg hi,zaj (by omega)];rfl
 ·rw[if_neg hj]
  simp[hj]
def chg:Path→Arr U→(Arr U→Option (Arr U))→Option (Arr U)
 |[],a,f=>f a
 |(i,_,j)::p,a,f=>
  let cs:=U.enc a.τ (a.xs.getD i (U.dflt a.τ))
  match cs[j]? with
  |some (.sl τ xs)=>
   match chg p ⟨τ,xs⟩ f with
   |some b=>match U.dec a.τ (cs.set j (.sl b.τ b.xs)) with
    |some _=>some ⟨a.τ,modRow a.τ a.xs i (fun cs=>cs.set j (.sl b.τ b.xs))⟩
    |none=>none
   |none=>none
  |_=>none
def castArr(τ:U.Ty)(a:Arr U):Option (List (U.T τ)):=
 match U.deq a.τ τ with
 | .isTrue h=>some (h▸a.xs)
 | .isFalse _=>none
abbrev Tab(U:Uni):=Key→Option (Ent U)
structure Rslt(U:Uni) where
 val:Option (SV U)
 adds:List (Nat×Ent U)
 kills:List Key
 upds:List (Key×Ent U)
 pre:List Prop
def Rslt.ofVal(v:SV U)(pre:List Prop:=[]):Rslt U:=⟨some v,[],[],[],pre⟩
def one(x:AC U):SV U:=.v ⟨false,[x]⟩
def litV(v:Value):SV U:=one (.c (.lit v))
def Rslt.lit(v:Value)(pre:List Prop:=[]):Rslt U:=.ofVal (litV v) pre
def clearP(tb:Tab U)(dirty:List Key)(k:Key)(p:Path):Bool:=p.isEmpty||((tb k).isSome&& !(dirty.any (keq k)))
def clearC(tb:Tab U)(dirty:List Key):AC U→Bool
 | .ref k p=>clearP tb dirty k p
 | .eptr k p _ _ _=>clearP tb dirty k p
 |_=>true
def clearAll(tb:Tab U)(dirty:List Key)(cs:List (AC U)):Bool:=cs.all (clearC tb dirty)
def arrOf(tb:Tab U)(dirty:List Key):AC U→Option (List Prop×Arr U)
 | .c (.sl τ xs)=>some ([],⟨τ,xs⟩)
 | .kn _ τ xs=>some ([],⟨τ,xs⟩)
 | .ref k p=>match tb k with
  |some (.arr a _)=>bif clearP tb dirty k p then walk p a else none
  |_=>none
 | .sub k wd lo hi=>match tb k with
  |some (.arr a _)=>bif Nat.beq wd (U.wd a.τ) then some ([hi≤a.xs.length],⟨a.τ,(a.xs.take hi).drop lo⟩) else none
  |_=>none
 |_=>none
def arrOfP(tb:Tab U)(dirty:List Key):AC U→Option (List Prop×Arr U)
 | .ref k ((i,wd,j)::p)=>match tb k with
  |some (.part a dead)=>bif clearP tb dirty k ((i,wd,j)::p) then(match walk ((i,wd,j)::p) a with|some (ps,b)=>some ((dead i=false)::ps,b)|none=>none) else none
  |_=>none
 |_=>none
def cellOf(tb:Tab U)(dirty:List Key)(want:Option U.Ty):AC U→Option (List Prop×U.C)
 | .c x=>some ([],x)
 | .e0=>match want with|some τ=>some ([],.sl τ [])|none=>none
 |x=>match arrOf tb dirty x with
  |some (ps,a)=>some (ps,.sl a.τ a.xs)
  |none=>match arrOfP tb dirty x with
   |some (ps,a)=>some (ps,.sl a.τ a.xs)
   |none=>none
def cellsOf(tb:Tab U)(dirty:List Key):List (Option U.Ty)→List (AC U)→Option (List Prop×List U.C)
 |_,[]=>some ([],[])
 |ws,x::r=>
  match cellOf tb dirty (ws.head?.bind id) x,cellsOf tb dirty ws.tail r with
  |some (ps,c),some (qs,cs)=>some (ps++qs,c::cs)
  |_,_=>none
def takeCell(tb:Tab U)(want:Option U.Ty):AC U→Option (List Prop×U.C×List Key×Bool)
 | .c (.lit v)=>some ([],.lit v,[],true)
 | .c (.sl τ xs)=>some ([],.sl τ xs,[],false)
 | .e0=>match want with|some τ=>some ([],.sl τ [],[],true)|none=>none
 | .ref k []=>match tb k with
  |some (.arr a d)=>some ([],.sl a.τ a.xs,[k],d)
  |some (.part a dead)=>some ([∀i,i<a.xs.length→dead i=false],.sl a.τ a.xs,[k],true)
  |_=>none
 | .sub k _ 0 hi=>match tb k with
  |some (.arr a d)=>some ([hi≤a.xs.length],.sl a.τ (a.xs.take hi),[k],d)
  |some (.part a dead)=>some ([hi≤a.xs.length,∀i,i<hi→dead i=false],.sl a.τ (a.xs.take hi),[k],true)
  |_=>none
 |_=>none
def takeCells(tb:Tab U):List (Option U.Ty)→List (AC U)→Option (List Prop×List U.C×List Key×Bool)
 |_,[]=>some ([],[],[],true)
 |ws,x::r=>
  match takeCell tb (ws.head?.bind id) x,takeCells tb ws.tail r with
  |some (ps,c,ks,d),some (qs,cs,ks',d')=>some (ps++qs,c::cs,ks++ks',d&&d')
  |_,_=>none
def distinct:List Key→Bool
 |[]=>true
 |k::r=> !(r.any (keq k))&&distinct r
def litBin(t:TypeId)(op:BinOp)(x y:Value):Option (List Prop×Value):=
 match x,y with
 | .int k a,.int k' b=>
  match op with
  | .shl=>some ([0≤b],.int k (k.wrap (a*2^(min b.toNat k.bits))))
  | .shr=>some ([0≤b],.int k (a.fdiv (2^(min b.toNat k.bits))))
  |op=>bif decide (k=k') then(match op with
   | .add=>some ([],.int k (k.wrap (a+b)))
   | .sub=>some ([],.int k (k.wrap (a-b)))
   | .mul=>some ([],.int k (k.wrap (a*b)))
   | .quo=>some ([b≠0],.int k (k.wrap (a.tdiv b)))
   | .rem=>some ([b≠0],.int k (a.tmod b))
   | .and=>some ([],.int k (k.wrap (BitVec.ofInt k.bits a&&&BitVec.ofInt k.bits b).toNat))
   | .or=>some ([],.int k (k.wrap (BitVec.ofInt k.bits a|||BitVec.ofInt k.bits b).toNat))
   | .xor=>some ([],.int k (k.wrap (BitVec.ofInt k.bits a^^^BitVec.ofInt k.bits b).toNat))
   | .eql=>some ([],.bool (a==b))
   | .neq=>some ([],.bool (a !=b))
   | .lss=>some ([],.bool (decide (a<b)))
   | .leq=>some ([],.bool (decide (a≤b)))
   | .gtr=>some ([],.bool (decide (a>b)))
   | .geq=>some ([],.bool (decide (a≥b)))
   |_=>none) else none
 | .string a,.string b=>
  match op with
  | .add=>some ([(a.size+b.size:Nat)≤(4611686018427387904:Nat)],.string (a++b))
  | .eql=>some ([],.bool (a.toList==b.toList))
  | .neq=>some ([],.bool (!(a.toList==b.toList)))
  | .lss=>some ([],.bool (Op.bytesLess a.toList b.toList))
  | .leq=>some ([],.bool (Op.bytesLess a.toList b.toList||a.toList==b.toList))
  | .gtr=>some ([],.bool (!(Op.bytesLess a.toList b.toList||a.toList==b.toList)))
  | .geq=>some ([],.bool (!(Op.bytesLess a.toList b.toList)))
  |_=>none
 | .bool a,.bool b=>
  match E.P.underlying t with
  |some .bool=>match op with
   | .eql=>some ([],.bool (a==b))
   | .neq=>some ([],.bool (!(a==b)))
   |_=>none
  |_=>none
 |_,_=>none
def Env.eqTy:Nat→TypeId→List Value→List Value→Option Bool
 |0,_,_,_=>none
 |d+1,t,xs,ys=>match E.P.underlying t with
  |some (.struct fs)=>bif E.P.stoodInHeld t then none else
    fs.toList.foldr (fun f acc=>match E.size f.type,E.isAgg f.type,acc with
     |some n,some g,some r=>bif f.name != "_" &&Nat.ble (f.offset+n) xs.length&&Nat.ble (f.offset+n) ys.length&&(g||Nat.beq n 1) then
       (match Env.eqTy d f.type ((xs.drop f.offset).take n) ((ys.drop f.offset).take n) with
       |some b=>some (b&&r)
       |none=>none) else none
     |_,_,_=>none) (some true)
  |some .bool=>match xs,ys with|[.bool a],[.bool b]=>some (a==b)|_,_=>none
  |some (.int _)=>match xs,ys with|[.int k a],[.int k' b]=>bif decide (k=k') then some (a==b) else none|_,_=>none
  |some .string=>match xs,ys with|[.string a],[.string b]=>some (a.toList==b.toList)|_,_=>none
  |_=>none
def litCells:List (AC U)→Option (List Value)
 |[]=>some []
 | .c (.lit v)::r=>match litCells r with|some l=>some (v::l)|none=>none
 |_=>none
def eqAgg(op:BinOp)(t:TypeId)(x y:SV U):Option (Rslt U):=match x,y with
 | .v ⟨true,xs⟩,.v ⟨true,ys⟩=>match litCells xs,litCells ys with
  |some us,some vs=>match E.isAgg t with
   |some true=>bif E.P.eqGuardType E.P.depth t then none else(match op,E.eqTy 8 t us vs with
    | .eql,some b=>some (Rslt.lit (.bool b))
    | .neq,some b=>some (Rslt.lit (.bool (!b)))
    |_,_=>none)
   |_=>none
  |_,_=>none
 |_,_=>none
def litUn(op:UnOp)(x:Value):Option Value:=
 match op,x with
 | .neg,.int k n=>some (.int k (k.wrap (0-n)))
 | .not,.bool b=>some (.bool (!b))
 |_,_=>none
def constCell:Value→Option (AC U)
 | .slice none 0 0=>some .e0
 | .pointer none=>some (.c (.lit (.pointer none)))
 | .int k n=>bif decide (k.min≤n)&&decide (n≤k.max) then some (.c (.lit (.int k n))) else none
 | .bool b=>some (.c (.lit (.bool b)))
 | .string s=>bif Nat.ble s.size 9223372036854775807 then some (.c (.lit (.string s))) else none
 |_=>none
def constCells:List Value→Option (List (AC U))
 |[]=>some []
 |v::r=>match constCell v,constCells r with
  |some x,some l=>some (x::l)
  |_,_=>none
def constAgg(cs:Array Value):Option (SV U):=match constCells cs.toList with|some l=>some (.v ⟨true,l⟩)|none=>none
def constV:Value→Option (SV U)
 | .agg cs=>constAgg cs
 |v=>match constCell v with|some x=>some (one x)|none=>none
def opd(σ:AState U):Operand→Option (SV U)
 | .tmp t=>σ.get t
 | .const v=>constV v
 | .global _=>none
 | .func g=>some (.clo g [])
def AC.keys:AC U→List Key
 | .c _| .e0| .ia _| .kn _ _ _=>[]
 | .ref k _| .sub k _ _ _| .eptr k _ _ _ _| .bptr k _=>[k]
def SV.acs:SV U→List (AC U)
 | .v x=>x.cs
 | .tup xs=>xs.flatMap (·.cs)
 | .fn _=>[]
 | .clo _ xs=>xs.flatMap (·.cs)
def SV.keys(x:SV U):List Key:=x.acs.flatMap AC.keys
def AState.boxKeys(σ:AState U)(k:Key):List Key:=
 match σ.ent k with
 |some (.box cs)=>cs.flatMap AC.keys
 |_=>[]
def reach(σ:AState U)(xs:List (SV U)):List Key:=
 let ks:=xs.flatMap SV.keys
 ks++ks.flatMap σ.boxKeys
def ptrOnly(o:Oper):Bool:=match o.op with
 | .nilCheck _=>true
 | .fieldAddr _ _ _=>true
 | .move _=>true
 | .assign _=>true
 |_=>false
def reachO(σ:AState U)(o:Oper)(xs:List (SV U)):List Key:=bif ptrOnly o then xs.flatMap SV.keys else reach σ xs
def restrict(tb:Tab U)(ks:List Key):Tab U:=fun k=>bif ks.any (keq k) then tb k else none
def elemCells(k:Key)(p:Path)(i wd:Nat):List U.C→Nat→List (AC U)
 |[],_=>[]
 | .lit v::r,j=> .c (.lit v)::elemCells k p i wd r (j+1)
 | .sl _ _::r,j=> .ref k (p++[(i,wd,j)])::elemCells k p i wd r (j+1)
def loadAt(tb:Tab U)(dirty:List Key)(agg:Bool)(n:Nat)(x:AC U):Option (Rslt U):=
 bif agg||Nat.beq n 1 then
  match x with
  | .ia cs=>bif Nat.ble n cs.length then some (.ofVal (.v ⟨agg,(cs.take n).map .c⟩)) else none
  | .bptr k off=>match tb k with
   |some (.box cs)=>bif Nat.ble (off+n) cs.length then some (.ofVal (.v ⟨agg,(cs.drop off).take n⟩)) else none
   |_=>none
  | .eptr k p i wd off=>match tb k with
   |some (.arr a _)=>bif clearP tb dirty k p then
     match walk p a with
     |some (ps,b)=>
      bif Nat.ble (off+n) (U.wd b.τ)&&Nat.beq wd (U.wd b.τ) then
       some (.ofVal (.v ⟨agg,elemCells k p i wd (((U.enc b.τ (b.xs.getD i (U.dflt b.τ))).drop off).take n) off⟩) (ps++[i<b.xs.length]))
      else none
     |none=>none
    else none
   |_=>none
  |_=>none
 else none
def wantOf:List U.C→List (Option U.Ty)
 |[]=>[]
 | .sl τ _::r=>some τ::wantOf r
 | .lit _::r=>none::wantOf r
def rowSet(off i:Nat)(ds:List U.C)(b:Arr U):Option (Arr U):=
 let cs:=U.enc b.τ (b.xs.getD i (U.dflt b.τ))
 match U.dec b.τ (cs.take off++ds++cs.drop (off+ds.length)) with
 |some y=>some ⟨b.τ,bif Nat.beq ds.length (U.wd b.τ) then b.xs.set i y else modRow b.τ b.xs i (fun cs=>cs.take off++ds++cs.drop (off+ds.length))⟩
 |none=>none
theorem qalg(off i:Nat)(ds:List U.C)(b:Arr U):rowSet off i ds b=match U.dec b.τ ((U.enc b.τ (b.xs.getD i (U.dflt b.τ))).take off++ds++(U.enc b.τ (b.xs.getD i (U.dflt b.τ))).drop (off+ds.length)) with|some y=>some ⟨b.τ,b.xs.set i y⟩|none=>none:=by
 unfold rowSet
 simp only
 split
 ·rename_i y h
  cases Nat.beq ds.length (U.wd b.τ)
  ·simp only[cond_false];rw[qaip h]
  ·rfl
 ·rfl
def storeAt(tb:Tab U)(dirty:List Key)(x:AV U):AC U→Option (Rslt U)
 | .bptr k off=>match tb k with
  |some (.box cs)=>bif Nat.ble (off+x.cs.length) cs.length then
    some ⟨none,[],[],[(k,.box (cs.take off++x.cs++cs.drop (off+x.cs.length)))],[]⟩ else none
  |_=>none
 | .eptr k p i wd off=>match tb k with
  |some (.arr a d)=>bif clearP tb dirty k p then
    match walk p a with
    |some (ps,b)=>match takeCells tb (wantOf ((U.enc b.τ (b.xs.getD i (U.dflt b.τ))).drop off)) x.cs with
     |some (qs,ds,ks,d')=>match chg p a (rowSet off i ds) with
      |some a'=>bif Nat.beq wd (U.wd b.τ)&&Nat.ble (off+ds.length) (U.wd b.τ)&&distinct (k::ks)&&((d&&d')||p.isEmpty) then
        some ⟨none,[],ks,[(k,.arr a' (d&&d'))],ps++qs++[i<b.xs.length]⟩ else none
      |none=>none
     |none=>none
    |none=>none
   else none
  |_=>none
 |_=>none
def plain:List (AC U)→Option (List U.C)
 |[]=>some []
 | .c x::r=>match plain r with|some l=>some (x::l)|none=>none
 |_=>none
def plainC:List U.C→Bool
 |[]=>true
 | .lit _::r=>plainC r
 |_=>false
def rowsOf(τ:U.Ty)(tb:Tab U)(want:List (Option U.Ty)):List (SV U)→Option (List Prop×List (U.T τ)×List Key×Bool)
 |[]=>some ([],[],[],true)
 | .v x::r=>
  match takeCells tb want x.cs,rowsOf τ tb want r with
  |some (ps,cs,ks,d),some (qs,xs,ks',d')=>
   match U.dec τ cs with
   |some y=>some (ps++qs,y::xs,ks++ks',d&&d')
   |none=>none
  |_,_=>none
 |_=>none
def Env.places(t:TypeId):Option (List (Nat×Nat)):=match E.P.underlying t with
 |some (.struct fs)=>fs.toList.mapM (fun f=>(E.P.info? f.type).map fun i=>(f.offset,i.size))
 |_=>none
def buildCells(pl:List (Nat×Nat))(cells:List (AC U)):List Nat→List (SV U)→Option (List (AC U))
 |[],[]=>some cells
 |f::fs,.v x::r=>match pl[f]? with
  |some (off,n)=>bif Nat.beq x.cs.length n&&Nat.ble (off+n) cells.length then buildCells pl (cells.take off++x.cs++cells.drop (off+n)) fs r else none
  |none=>none
 |_,_=>none
def nat? (v:Value):Option Int:=match v with| .int _ n=>some n|_=>none
def lit? :SV U→Option Value
 | .v ⟨false,[.c (.lit v)]⟩=>some v
 |_=>none
def ac? :SV U→Option (AC U)
 | .v ⟨false,[x]⟩=>some x
 |_=>none
def seqO{α:Type}:List (Option α)→Option (List α)
 |[]=>some []
 |some x::r=>match seqO r with|some l=>some (x::l)|none=>none
 |none::_=>none
def bound:Option Operand→List (SV U)→Option (Option Int×List (SV U))
 |none,bs=>some (none,bs)
 |some _,b::bs=>match lit? b with
  |some (.int _ n)=>some (some n,bs)
  |_=>none
 |some _,[]=>none
def sliceBy(tb:Tab U)(dirty:List Key)(t:TypeId)(x:SV U)(l h m:Option Int):Option (Rslt U):=
 match m with
 |some mm=>match h,ac? x,(E.elem t).bind E.size with
  |some hh,some y,some _=>match arrOf tb dirty y with
   |some (ps,_)=>some (.ofVal (one .e0) (ps++[mm=0,hh=0,l.getD 0=0]))
   |none=>match y with
    | .e0=>some (.ofVal (one .e0) [mm=0,hh=0,l.getD 0=0])
    |_=>none
  |_,_,_=>none
 |none=>match lit? x with
  |some (.string s)=>match E.P.underlying t with
   |some .string=>some (.lit (.string (s.extract (l.getD 0).toNat (h.getD s.size).toNat)) [0≤l.getD 0,l.getD 0≤h.getD s.size,h.getD s.size≤s.size])
   |_=>none
  |some _=>none
  |none=>match ac? x,(E.elem t).bind E.size with
   |some (.c (.sl τ ys)),some n=>bif Nat.beq n (U.wd τ) then
     some (.ofVal (one (.c (.sl τ ((ys.take (h.getD ys.length).toNat).drop (l.getD 0).toNat)))) [0≤l.getD 0,l.getD 0≤h.getD ys.length,h.getD ys.length≤ys.length]) else none
   |some (.ref k []),some n=>match tb k with
    |some (.arr r _)=>bif Nat.beq n (U.wd r.τ) then
      some (.ofVal (one (.sub k (U.wd r.τ) (l.getD 0).toNat (h.getD r.xs.length).toNat)) [0≤l.getD 0,l.getD 0≤h.getD r.xs.length,h.getD r.xs.length≤r.xs.length]) else none
    |some (.part r _)=>bif Nat.beq n (U.wd r.τ) then
      some (.ofVal (one (.sub k (U.wd r.τ) (l.getD 0).toNat (h.getD r.xs.length).toNat)) [0≤l.getD 0,l.getD 0≤h.getD r.xs.length,h.getD r.xs.length≤r.xs.length]) else none
    |_=>none
   |_,_=>none
def argRo0(tb:Tab U)(dirty:List Key)(want:List (Option U.Ty))(x:SV U):Option (List Prop×DV U):=
 match x with
 | .v ⟨false,[.ia cs]⟩=>some ([],.ptr cs)
 | .v ⟨false,[.bptr k off]⟩=>match tb k with
  |some (.box cs)=>match plain cs with|some l=>some ([],.ptr (l.drop off))|none=>none
  |_=>none
 | .v ⟨false,[y]⟩=>match cellOf tb dirty (want.head?.bind id) y with|some (ps,c)=>some (ps,.one c)|none=>none
 | .v ⟨true,cs⟩=>match cellsOf tb dirty want cs with|some (ps,l)=>some (ps,.agg l)|none=>none
 |_=>none
def DA.dv:DA U→DV U
 |⟨false,[c]⟩=> .one c
 |⟨_,cs⟩=> .agg cs
noncomputable def closP(k:Con U)(caps:List (DV U))(ds:List (DA U)):Option Value:=
 match k.of (ds.map DA.dv++caps) with
 |some x=>match(k.res x).val,(k.res x).muts with
  |[.one (.lit v)],[]=>@ite _ (k.md.length=ds.length+caps.length∧∀p∈k.pre x,p) (Classical.propDecidable _) (some v) none
  |_,_=>none
 |none=>none
def capsOf(tb:Tab U)(dirty:List Key):List (AV U)→Option (List Prop×List (DV U))
 |[]=>some ([],[])
 |x::r=>match argRo0 tb dirty [] (.v x),capsOf tb dirty r with
  |some (ps,d),some (qs,ds)=>some (ps++qs,d::ds)
  |_,_=>none
def allRo:List Mode→Bool
 |[]=>true
 | .ro::r=>allRo r
 |_=>false
def argRo(tb:Tab U)(dirty:List Key)(want:List (Option U.Ty))(x:SV U):Option (List Prop×DV U):=
 match x with
 | .fn p=>some ([],.fn p)
 | .clo g xs=>match E.con g,capsOf tb dirty xs with
  |some k,some (ps,ds)=>bif allRo k.md&&Nat.ble xs.length k.md.length then some (ps,.fn (closP k ds)) else none
  |_,_=>none
 |x=>argRo0 tb dirty want x
def dvOf(x:AV U)(cs:List U.C):Option (DV U):=
 bif x.agg then some (.agg cs) else match cs with|[c]=>some (.one c)|_=>none
def wrCells(tb:Tab U):List (AC U)→Option (List U.C×List Key)
 |[]=>some ([],[])
 | .c (.lit v)::r=>match wrCells tb r with|some (cs,ks)=>some (.lit v::cs,ks)|none=>none
 | .ref k []::r=>match tb k,wrCells tb r with
  |some (.arr a true),some (cs,ks)=>some (.sl a.τ a.xs::cs,k::ks)
  |_,_=>none
 |_=>none
def AC.still:AC U→Bool
 | .c _=>true
 | .e0=>true
 | .ref _ []=>true
 | .bptr _ _=>true
 |_=>false
def lentOf(tb:Tab U)(dirty:List Key)(want:List (Option U.Ty))(m:Mode)(x:SV U):Option (List Prop×DV U×List Key):=
 match m,x with
 | .wr,.v ⟨false,[.ref k p]⟩=>match tb k with
  |some (.arr a true)=>bif clearP tb dirty k p then match walk p a with|some (ps,b)=>some (ps,.one (.sl b.τ b.xs),[k])|none=>none else none
  |_=>none
 | .wr,.v ⟨true,cs⟩=>match wrCells tb cs with
  |some (ds,ks)=>bif distinct ks then some ([],.agg ds,ks) else none
  |none=>none
 | .mv,.v y=>match takeCells tb want y.cs with
  |some (ps,cs,ks,true)=>match dvOf y cs with
   |some d=>bif distinct ks then some (ps,d,ks) else none
   |none=>none
  |_=>none
 | .box true,.v ⟨false,[.bptr k 0]⟩=>match tb k with
  |some (.box cs)=>bif Nat.ble want.length cs.length&&(cs.drop want.length).all AC.still then
    match takeCells tb want (cs.take want.length) with
    |some (ps,l,ks,true)=>bif distinct (k::ks) then some (ps,.box l,k::ks) else none
    |_=>none
   else none
  |_=>none
 | .box false,.v ⟨false,[.bptr k 0]⟩=>match tb k with
  |some (.box cs)=>bif Nat.ble want.length cs.length&&(cs.drop want.length).all AC.still then
    match plain (cs.take want.length) with
    |some l=>some ([],.box l,[k])
    |none=>none
   else none
  |_=>none
 |_,_=>none
def argOf(tb:Tab U)(dirty:List Key)(want:List (Option U.Ty))(m:Mode)(x:SV U):Option (List Prop×DV U):=
 match m with
 | .ro=>argRo E tb dirty want x
 |m=>match lentOf tb dirty want m x with|some (ps,d,_)=>some (ps,d)|none=>none
def argsOf(tb:Tab U)(dirty:List Key):List Mode→List (List (Option U.Ty))→List (SV U)→Option (List Prop×List (DV U))
 |[],_,[]=>some ([],[])
 |m::ms,ws,x::r=>
  match argOf E tb dirty (ws.headD []) m x,argsOf tb dirty ms ws.tail r with
  |some (ps,d),some (qs,ds)=>some (ps++qs,d::ds)
  |_,_=>none
 |_,_,_=>none
def putCells(dst:Nat)(fresh:Bool)(base:Nat):List U.C→List (AC U)×List (Nat×Ent U)
 |[]=>([],[])
 | .lit v::r=>(.c (.lit v)::(putCells dst fresh (base+1) r).1,(putCells dst fresh (base+1) r).2)
 | .sl τ xs::r=>bif fresh then(.ref (dst,base) []::(putCells dst fresh (base+1) r).1,(base,.arr ⟨τ,xs⟩ true)::(putCells dst fresh (base+1) r).2)
   else(.c (.sl τ xs)::(putCells dst fresh (base+1) r).1,(putCells dst fresh (base+1) r).2)
def putDV(dst:Nat)(fresh:Bool)(base:Nat):DV U→Option (AV U×List (Nat×Ent U))
 | .one c=>some (⟨false,(putCells dst fresh base [c]).1⟩,(putCells dst fresh base [c]).2)
 | .agg cs=>some (⟨true,(putCells dst fresh base cs).1⟩,(putCells dst fresh base cs).2)
 | .box cs=>bif fresh then some (⟨false,[.bptr (dst,base) 0]⟩,[(base,.box (cs.map .c))]) else none
 | .ptr _=>none
 | .fn _=>none
def putDVs(dst:Nat)(fresh:Bool)(base:Nat):List (DV U)→Option (List (AV U)×List (Nat×Ent U))
 |[]=>some ([],[])
 |d::r=>match putDV dst fresh base d,putDVs dst fresh (base+32) r with
  |some (x,e),some (xs,es)=>some (x::xs,e++es)
  |_,_=>none
def DV.safe(fresh:Bool):DV U→Bool
 | .one c=>fresh||plainC [c]
 | .agg cs=>fresh||plainC cs
 | .box _=>false
 | .ptr _=>false
 | .fn _=>false
def hasBox(ms:List Mode):Bool:=ms.any fun m=>match m with| .box false=>true|_=>false
def wrUpd:List (AC U)→List U.C→Option (List (Key×Ent U))
 |[],[]=>some []
 | .c (.lit _)::r,.lit _::cs=>wrUpd r cs
 | .ref k []::r,.sl τ ys::cs=>match wrUpd r cs with|some us=>some ((k,.arr ⟨τ,ys⟩ true)::us)|none=>none
 |_,_=>none
def backOf(tb:Tab U)(okey n:Nat)(m:Mode)(x:SV U)(dm:List (DV U)):Option (List (Key×Ent U)×List (Nat×Ent U)):=
 match m,x,dm with
 | .wr,.v ⟨false,[.ref k p]⟩,[.one (.sl τ ys)]=>match tb k with
  |some (.arr a true)=>match chg p a (fun b=>match castArr b.τ ⟨τ,ys⟩ with|some zs=>some ⟨b.τ,zs⟩|none=>none) with
   |some a'=>some ([(k,.arr a' true)],[])
   |none=>none
  |_=>none
 | .wr,.v ⟨true,cs⟩,[.agg ds]=>match wrUpd cs ds with|some us=>some (us,[])|none=>none
 | .mv,_,[]=>some ([],[])
 | .box true,.v ⟨false,[.bptr k 0]⟩,[.box ds]=>match tb k with
  |some (.box cs)=>bif Nat.beq ds.length n then some ([(k,.box ((putCells okey true 512 ds).1++cs.drop n))],(putCells okey true 512 ds).2) else none
  |_=>none
 | .box false,.v ⟨false,[.bptr k 0]⟩,[.box ds]=>match tb k with
  |some (.box cs)=>bif Nat.beq ds.length n then some ([(k,.box (ds.map .c++cs.drop n))],[]) else none
  |_=>none
 |_,_,_=>none
def mvKeys(tb:Tab U)(dirty:List Key):List Mode→List (List (Option U.Ty))→List (SV U)→Option (List Key)
 |[],_,[]=>some []
 | .ro::ms,ws,_::xs=>mvKeys tb dirty ms ws.tail xs
 | .mv::ms,ws,x::xs=>match lentOf tb dirty (ws.headD []) .mv x,mvKeys tb dirty ms ws.tail xs with
  |some (_,_,ks),some ks'=>bif distinct (ks++ks') then some (ks++ks') else none
  |_,_=>none
 |_,_,_=>none
def mutsOf(tb:Tab U)(dirty:List Key)(okey:Nat):List Mode→List (List (Option U.Ty))→List (SV U)→List (DV U)→Option (List (Key×Ent U)×List (Nat×Ent U)×List Key)
 |[],_,[],[]=>some ([],[],[])
 | .ro::ms,ws,_::r,ds=>mutsOf tb dirty okey ms ws.tail r ds
 |m::ms,ws,x::r,ds=>match lentOf tb dirty (ws.headD []) m x,backOf tb okey (ws.headD []).length m x ds with
  |some (_,_,ks),some (us,es)=>match mvKeys tb dirty ms ws.tail r with
   |some ks'=>bif distinct (ks++ks') then some (us,es,ks++ks') else none
   |none=>none
  |_,_=>none
 |_,_,_,_=>none
def ownedKeys:List Mode→List (SV U)→List Key
 | .ro::ms,x::r=>x.keys++ownedKeys ms r
 |_::ms,_::r=>ownedKeys ms r
 |_,_=>[]
def distinctN:List Nat→Bool
 |[]=>true
 |n::r=> !(r.any (Nat.beq n))&&distinctN r
def restOk(tb:Tab U)(n:Nat):List Mode→List (List (Option U.Ty))→List (SV U)→Bool
 |m::ms,ws,x::r=>(match m,x with
  | .box _,.v ⟨false,[.bptr k _]⟩=>(match tb k with
   |some (.box cs)=>Nat.beq ((ws.headD []).length+n) cs.length
   |_=>false)
  | .box _,_=>false
  |_,_=>true)&&restOk tb n ms ws.tail r
 |_,_,_=>true
def callBy(tb:Tab U)(dirty:List Key)(dst:Nat)(k:Con U)(types:List TypeId)(xs:List (SV U)):Option (Rslt U):=
 match argsOf E tb dirty k.md (types.map E.shapeA) xs with
 |some (ps,ds)=>
  match k.of ds with
  |some x=>
   match mutsOf tb dirty dst k.md (types.map E.shapeA) xs (k.res x).muts,putDVs dst (k.res x).fresh 0 (k.res x).val with
   |some (us,eb,lk),some (vs,es)=>
    let kills:=(bif (k.res x).val.all (DV.safe (k.res x).fresh)&& !(hasBox k.md) then[] else ownedKeys k.md xs)++lk
    bif distinctN ((es++eb).map (·.1))&& !(lk.any fun u=>(ownedKeys k.md xs).any (keq u))&&restOk tb k.rst k.md (types.map E.shapeA) xs then
     some ⟨some (match vs with|[v]=> .v v|vs=> .tup vs),es++eb,kills,us,ps++k.pre x⟩
    else none
   |_,_=>none
  |none=>none
 |none=>none
def newsOf0(τ:U.Ty)(tb:Tab U):AC U→Option (List Prop×List (U.T τ)×List Key×Bool)
 | .e0=>some ([],[],[],true)
 | .ref k []=>match tb k with
  |some (.arr a d)=>match castArr τ a with|some ys=>some ([],ys,[k],d)|none=>none
  |_=>none
 | .c (.sl τ' ys)=>match castArr τ ⟨τ',ys⟩ with|some ys=>some ([],ys,[],U.flat τ)|none=>none
 |_=>none
def unkn:AC U→AC U
 | .kn _ τ xs=> .c (.sl τ xs)
 |x=>x
def newsOf(τ:U.Ty)(tb:Tab U)(x:AC U):Option (List Prop×List (U.T τ)×List Key×Bool):=newsOf0 τ tb (unkn x)
def strRows(τ:U.Ty)(s:ByteArray):Option (List (U.T τ)):=castArr τ ⟨U.bcode,s.data.toList.map fun b=>U.ofB (b.toNat:Int)⟩
def oldsOf(τ:U.Ty)(tb:Tab U):AC U→Option (List Prop×List (U.T τ)×List Key×Bool)
 | .e0=>some ([],[],[],true)
 | .ref k []=>match tb k with
  |some (.arr a d)=>match castArr τ a with|some ys=>some ([],ys,[k],d)|none=>none
  |_=>none
 | .sub k _ 0 hi=>match tb k with
  |some (.arr a d)=>match castArr τ a with|some ys=>some ([hi≤ys.length],ys.take hi,[k],d)|none=>none
  |_=>none
 |_=>none
def nilCmp(E:Env U)(op:BinOp)(t:TypeId)(y:Operand)(x:SV U):Option (Rslt U):=
 match op,y,x with
 | .eql,.const (.slice none _ _),.v ⟨false,[.kn b _ _]⟩=>match E.P.underlying t with|some (.slice _)=>some (.lit (.bool b))|_=>none
 |_,_,_=>none
def boolOf:Option Value→Bool
 |some (.bool b)=>b
 |_=>false
def intOf:Option Value→Int
 |some (.int _ n)=>n
 |_=>0
def dasOf(tb:Tab U)(dirty:List Key):List (List (Option U.Ty))→List (SV U)→Option (List Prop×List (DA U))
 |_,[]=>some ([],[])
 |ws,x::r=>match argRo0 tb dirty (ws.headD []) x,dasOf tb dirty ws.tail r with
  |some (ps,.one c),some (qs,ds)=>some (ps++qs,⟨false,[c]⟩::ds)
  |some (ps,.agg cs),some (qs,ds)=>some (ps++qs,⟨true,cs⟩::ds)
  |_,_=>none
def partOf(tb:Tab U):AC U→Option (Arr U)
 | .ref k []=>match tb k with
  |some (.part a _)=>some a
  |_=>none
 |_=>none
def moveAt(tb:Tab U)(dst:Nat)(agg:Bool)(n:Nat):AC U→Option (Rslt U)
 | .eptr k [] i wd off=>match tb k with
  |some (.part a dead)=>bif (agg||Nat.beq n 1)&&Nat.ble (off+n) (U.wd a.τ)&&Nat.beq wd (U.wd a.τ) then
    let cs:=((U.enc a.τ (a.xs.getD i (U.dflt a.τ))).drop off).take n
    bif plainC cs then some (.ofVal (.v ⟨agg,cs.map .c⟩) [i<a.xs.length,dead i=false])
    else bif Nat.blt n (U.wd a.τ) then some (.ofVal (.v ⟨agg,elemCells k [] i wd cs off⟩) [i<a.xs.length,dead i=false])
    else bif distinctN ((putCells dst true 0 cs).2.map (·.1)) then
     some ⟨some (.v ⟨agg,(putCells dst true 0 cs).1⟩),(putCells dst true 0 cs).2,[],[(k,.part a (fun j=>Nat.beq j i||dead j))],[i<a.xs.length,dead i=false]⟩
    else none
   else none
  |_=>none
 |_=>none
def keptOk(wd:Nat):List (SV U)→Bool
 |[]=>true
 | .v x::r=>Nat.beq x.cs.length wd&&keptOk wd r
 |_=>false
def partNew(τ:U.Ty)(tb:Tab U):AC U→Option (List (U.T τ)×List Key)
 | .ref k []=>match tb k with
  |some (.part a _)=>match castArr τ a with|some ys=>some (ys,[k])|none=>none
  |_=>none
 |_=>none
def storePart(tb:Tab U)(x:AV U):AC U→Option (Rslt U)
 | .eptr k [] i wd 0=>match tb k with
  |some (.part a dead)=>bif Nat.beq wd (U.wd a.τ)&&Nat.beq x.cs.length wd then
    match takeCells tb (wantOf (U.enc a.τ (a.xs.getD i (U.dflt a.τ)))) x.cs with
    |some (qs,ds,ks,true)=>match U.dec a.τ ds with
     |some y=>bif distinct (k::ks) then some ⟨none,[],ks,[(k,.part ⟨a.τ,a.xs.set i y⟩ (fun j=> !(Nat.beq j i)&&dead j))],qs++[i<a.xs.length]⟩ else none
     |none=>none
    |_=>none
   else none
  |_=>none
 |_=>none
def storeLits(tb:Tab U)(x:AV U):AC U→Option (Rslt U)
 | .eptr k [] i wd off=>match tb k,litCells x.cs with
  |some (.part a dead),some vs=>bif Nat.beq wd (U.wd a.τ)&&Nat.ble (off+x.cs.length) wd then
    match rowSet off i (vs.map .lit) a with
    |some a'=>some ⟨none,[],[],[(k,.part a' dead)],[i<a.xs.length,dead i=false]⟩
    |none=>none
   else none
  |_,_=>none
 |_=>none
def avsOf:List (SV U)→Option (List (AV U))
 |[]=>some []
 | .v x::r=>match avsOf r with|some l=>some (x::l)|none=>none
 |_=>none
def fnCall(E:Env U)(tb:Tab U)(dirty:List Key)(t:TypeId)(types:List TypeId)(p:List (DA U)→Option Value)(xs:List (SV U)):Option (Rslt U):=
 match dasOf tb dirty (types.map E.shapeA) xs with
 |some (ps,ds)=>match E.P.underlying t with
  |some .bool=>some (.lit (.bool (boolOf (p ds))) (ps++[p ds=some (.bool (boolOf (p ds)))]))
  |some (.int k)=>some (.lit (.int k (intOf (p ds))) (ps++[p ds=some (.int k (intOf (p ds)))]))
  |_=>none
 |none=>none
def evalOp(tb:Tab U)(dirty:List Key)(o:Oper)(xs:List (SV U)):Option (Rslt U):=
 let dst:=o.dst.getD 1000000
 match o.op,xs with
 | .move _,[x]=>some (.ofVal x)
 | .assign _,[x]=>some (.ofVal x)
 | .unOp op _ _,[x]=>match lit? x with
  |some v=>(litUn op v).map (.lit ·)
  |none=>none
 | .binOp op t _ q _,[x,y]=>match lit? x,lit? y with
  |some a,some b=>(litBin E t op a b).map fun(ps,v)=> .lit v ps
  |_,_=>match eqAgg E op t x y with|some r=>some r|none=>nilCmp E op t q x
 | .extract _ i,[.tup l]=>(l[i]?).map fun v=> .ofVal (.v v)
 | .alloc t,[]=>
  match(E.P.info? t).bind (·.zero) with
  |some z=>match constAgg (U:=U) z.cells with
   |some (.v x)=>some ⟨some (one (.bptr (dst,0) 0)),[(0,.box x.cs)],[],[],[]⟩
   |_=>none
  |none=>none
 | .load t _,[x]=>match ac? x,E.size t,E.isAgg t with
  |some a,some n,some g=>match loadAt tb dirty g n a with
   |some r=>some r
   |none=>moveAt tb dst g n a
  |_,_,_=>none
 | .store t _ _,[p,.v x]=>match ac? p,E.size t with
  |some a,some n=>bif Nat.beq n x.cs.length then(match storeAt tb dirty x a with
   |some r=>some r
   |none=>match storePart tb x a with
    |some r=>some r
    |none=>storeLits tb x a) else none
  |_,_=>none
 | .fieldAddr t _ f,[x]=>match ac? x,E.fld t f with
  |some y,some (o,ft)=>match E.size ft with
   |some (_+1)=>match y with
    | .ia cs=>some (.ofVal (one (.ia (cs.drop o))))
    | .bptr k off=>some (.ofVal (one (.bptr k (off+o))))
    | .eptr k p i wd off=>bif clearP tb dirty k p then some (.ofVal (one (.eptr k p i wd (off+o)))) else none
    |_=>none
   |_=>none
  |_,_=>none
 | .field t _ f,[.v ⟨true,cs⟩]=>match E.fld t f with
  |some (o,ft)=>match E.size ft,E.isAgg ft with
   |some n,some g=>bif Nat.ble (o+n) cs.length&&(g||Nat.beq n 1) then some (.ofVal (.v ⟨g,(cs.drop o).take n⟩)) else none
   |_,_=>none
  |none=>none
 | .build t parts,xs=>match E.places t,(E.P.info? t).bind (·.zero) with
  |some pl,some z=>match constCells (U:=U) z.cells.toList with
   |some l=>match buildCells pl l (parts.toList.map (·.1)) xs with
    |some cs=>some (.ofVal (.v ⟨true,cs⟩))
    |none=>none
   |none=>none
  |_,_=>none
 | .buildSlice t len parts,xs=>match E.elem t with
  |some e=>match E.code e with
   |some τ=>bif (parts.toList.map (·.1)).length.beq len&&((parts.toList.map (·.1)).zipIdx).all (fun(a,b)=>Nat.beq a b)&&Nat.ble (len*U.wd τ) 1000000 then
     bif E.keep t dst (xs.flatMap SV.keys) then
      bif keptOk (U.wd τ) xs then some ⟨some (one (.ref (dst,0) [])),[(0,.part ⟨τ,List.replicate len (U.dflt τ)⟩ (fun _=>true))],[],[],[]⟩ else none
     else match rowsOf τ tb (E.shape 8 e) xs with
     |some (ps,rows,ks,d)=>bif distinct ks then some ⟨some (one (.ref (dst,0) [])),[(0,.arr ⟨τ,rows⟩ d)],ks,[],ps⟩ else none
     |none=>none
    else none
   |none=>none
  |none=>none
 | .makeSlice t _ _,[l,c]=>match E.elem t,lit? l,lit? c with
  |some e,some (.int .i64 n),some (.int .i64 m)=>match E.code e with
   |some τ=>some ⟨some (one (.ref (dst,0) [])),[(0,.arr ⟨τ,List.replicate n.toNat (U.dflt τ)⟩ true)],[],[],[0≤n,n=m,n≤4294967296]⟩
   |none=>none
  |_,_,_=>none
 | .indexAddr t _ _,[x,i]=>match lit? i,ac? x,(E.elem t).bind E.size with
  |some (.int _ n),some y,some m=>match y with
   | .c (.sl τ ys)=>bif Nat.beq m (U.wd τ) then some (.ofVal (one (.ia (U.enc τ (ys.getD n.toNat (U.dflt τ))))) [0≤n,n.toNat<ys.length]) else none
   | .ref k p=>match arrOf tb dirty (.ref k p) with
    |some (ps,a)=>bif Nat.beq m (U.wd a.τ) then some (.ofVal (one (.eptr k p n.toNat (U.wd a.τ) 0)) (ps++[0≤n,n.toNat<a.xs.length])) else none
    |none=>match p,partOf tb (.ref k []) with
     |[],some a=>bif Nat.beq m (U.wd a.τ) then some (.ofVal (one (.eptr k [] n.toNat (U.wd a.τ) 0)) [0≤n,n.toNat<a.xs.length]) else none
     |_,_=>none
   |_=>none
  |_,_,_=>none
 | .index t _ _,[x,i]=>match lit? x,lit? i,E.P.underlying t with
  |some (.string s),some (.int _ n),some .string=>some (.lit (.int .u8 ((s.data.toList.getD n.toNat 0).toNat:Int)) [0≤n,n.toNat<s.size])
  |_,_,_=>none
 | .slice t _ lo hi mx,x::bs=>match bound lo bs with
  |some (l,bs1)=>match bound hi bs1 with
   |some (h,bs2)=>match bound mx bs2 with
    |some (m,[])=>sliceBy E tb dirty t x l h m
    |_=>none
   |none=>none
  |none=>none
 | .call {callee:=.builtin .len,argTypes,..},[x]=>match argTypes.toList with
  |[t]=>match lit? x with
   |some (.string s)=>match E.P.underlying t with
    |some .string=>some (.lit (.int .i64 s.size))
    |_=>none
   |some _=>none
   |none=>match ac? x,E.elem t with
    |some .e0,some _=>some (.lit (.int .i64 0))
    |some a,some _=>match arrOf tb dirty a with
     |some (ps,b)=>some (.lit (.int .i64 b.xs.length) ps)
     |none=>match partOf tb a with
      |some b=>some (.lit (.int .i64 b.xs.length))
      |none=>none
    |_,_=>none
  |_=>none
 | .call {callee:=.builtin .clear,argTypes,..},[x]=>match argTypes.toList with
  |[t]=>match E.elem t,ac? x with
   |some e,some (.sub k wd lo hi)=>match E.code e,tb k with
    |some τ,some (.part a dead)=>bif Nat.beq wd (U.wd a.τ) then(match castArr τ a with
     |some xs=>some ⟨some (.tup []),[],[],[(k,.part ⟨τ,xs⟩ (fun j=>dead j||Nat.ble lo j))],[lo≤hi,hi=xs.length]⟩
     |none=>none) else none
    |_,_=>none
   |_,_=>none
  |_=>none
 | .call {callee:=.builtin .min,..},[x,y]=>match lit? x,lit? y with
  |some (.int k a),some (.int k' b)=>bif decide (k=k') then some (.lit (.int k (if b<a then b else a))) else none
  |_,_=>none
 | .call {callee:=.builtin .max,..},[x,y]=>match lit? x,lit? y with
  |some (.int k a),some (.int k' b)=>bif decide (k=k') then some (.lit (.int k (if b>a then b else a))) else none
  |_,_=>none
 | .call {callee:=.builtin .append,argTypes,..},[s,x]=>
  match argTypes.toList with
  |[t,u]=>match E.elem t,E.elem u,ac? s,ac? x with
   |some e,some e',some s,some x=>bif Nat.beq t u&&Nat.beq e e' then
    match E.code e with
    |some τ=>
     match oldsOf τ tb s,newsOf τ tb x with
     |some (ps,xs,ks,d),some (qs,ys,ks',d')=>
      bif distinct (ks++ks') then
       some ⟨some (one (.ref (dst,0) [])),[(0,.arr ⟨τ,xs++ys⟩ (d&&d'))],ks++ks',[],ps++qs++[xs.length+ys.length≤4294967296]⟩
      else none
     |some (ps,xs,ks,true),none=>match partNew τ tb x with
      |some (ys,ks')=>bif distinct (ks++ks') then
        some ⟨some (one (.ref (dst,0) [])),[(0,.part ⟨τ,xs++ys⟩ (fun i=>Nat.ble xs.length i))],ks++ks',[],ps++[xs.length+ys.length≤4294967296]⟩
       else none
      |none=>none
     |_,_=>none
    |none=>none else none
   |some e,none,some s,some (.c (.lit (.string str)))=>match E.P.underlying u,E.code e with
    |some .string,some τ=>match oldsOf τ tb s,strRows τ str with
     |some (ps,xs,ks,d),some ys=>bif distinct ks then
       some ⟨some (one (.ref (dst,0) [])),[(0,.arr ⟨τ,xs++ys⟩ d)],ks,[],ps++[xs.length+ys.length≤4294967296]⟩ else none
     |_,_=>none
    |_,_=>none
   |_,_,_,_=>none
  |_=>none
 | .makeFunc (.func g) first _,xs=>bif first.isEmpty then(match avsOf xs with|some l=>some (.ofVal (.clo g l))|none=>none) else none
 | .call {callee:=.value (.tmp _),argTypes,..},.fn p::xs=>fnCall E tb dirty o.type argTypes.toList p xs
 | .call {callee:=.value (.func f),argTypes,..},xs=>match E.con f with
  |some k=>callBy E tb dirty dst k argTypes.toList xs
  |none=>none
 | .box _ _,[.v x]=>bif clearAll tb dirty x.cs&&(x.agg||Nat.beq x.cs.length 1) then some ⟨some (one (.bptr (dst,0) 0)),[(0,.box x.cs)],[],[],[]⟩ else none
 | .nilCheck _,[x]=>match ac? x with
  |some (.ia _)=>some (.ofVal x)
  |some (.bptr _ _)=>some (.ofVal x)
  |some (.eptr k p _ _ _)=>bif clearP tb dirty k p then some (.ofVal x) else none
  |_=>none
 | .convert s d _,[x]=>match E.P.underlying d with
  |some (.int k)=>match E.P.underlying s,lit? x with
   |some (.int _),some (.int _ n)=>some (.lit (.int k (k.wrap n)))
   |_,_=>none
  |some .string=>match E.P.underlying s with
   |some (.slice e)=>match E.P.underlying e,ac? x with
    |some (.int .u8),some .e0=>some (.lit (.string ByteArray.empty))
    |some (.int .u8),some y=>match arrOf tb dirty y with
     |some (ps,b)=>match castArr U.bcode b with
      |some ys=>some (.lit (.string (strOfNums (ys.map U.toB))) ps)
      |none=>none
     |none=>none
    |_,_=>none
   |_=>none
  |_=>none
 |_,_=>none
def Oper.looks(o:Oper):List Operand:=
 match o.op with
 | .build _ ps=>ps.toList.map (·.2)
 | .buildSlice _ _ ps=>ps.toList.map (·.2)
 | .call c=>(match c.callee with| .value (.func _)=>[]| .builtin _=>[]| .value f=>[f]| .invoke r _=>[r])++c.args.toList
 |op=>op.operands.toList
def gather(σ:AState U)(o:Oper):Option (List (SV U)):=seqO ((Oper.looks o).map (opd σ))
def dstOk(σ:AState U)(o:Oper):Bool:=match o.dst with|some d=>Nat.blt d σ.n|none=>true
def svLit(x:Option (SV U)):Option Value:=match x with|some y=>lit? y|none=>none
def opdLit(σ:AState U)(x:Operand):Option Value:=svLit (opd σ x)
def kindOk(o:Oper):Bool:=match o.op with
 | .store _ _ _=>o.dst.isNone
 | .alloc _| .box _ _| .buildSlice _ _ _| .makeSlice _ _ _=>o.dst.isSome
 | .call c=>(match c.callee with| .builtin .clear=>true| .builtin _=>o.dst.isSome|_=>true)
 |_=>true
def step(σ:AState U)(o:Oper):Option (Rslt U×List Key):=
 bif dstOk σ o&&kindOk o then
  match o.op with
  | .pick c a b=>
   match opdLit σ c with
   |some (.bool t)=>match(bif t then opd σ a else opd σ b) with
    |some x=>some (.ofVal x,[])
    |none=>none
   |_=>none
  |_=>match gather σ o with
   |some xs=>match evalOp E (restrict σ.ent (reachO σ o xs)) σ.dirty o xs with
    |some r=>some (r,reachO σ o xs)
    |none=>none
   |none=>none
 else none
def mkAdds(dst:Nat)(l:List (Nat×Ent U)):List (Key×Option (Ent U)):=l.map fun(j,e)=>((dst,j),some e)
def apply(o:Oper)(r:Rslt U)(σ:AState U):AState U:=
 {σ with
  slots:=(match o.dst with|some d=>(d,r.val)::σ.slots|none=>σ.slots)
  tab:=mkAdds (o.dst.getD 1000000) r.adds++r.upds.map (fun(k,e)=>(k,some e))++r.kills.map (fun k=>(k,none))++σ.tab
  dirty:=r.upds.map (·.1)++σ.dirty}
def undefR:Rslt U:=⟨some (.tup []),[],[],[],[]⟩
structure Rec where
 i:Nat
 reads:List Key
 writes:List Key
def Rslt.writes(dst:Nat)(r:Rslt U):List Key:=r.adds.map (fun(j,_)=>(dst,j))++r.kills++r.upds.map (·.1)
def Ent.names:Ent U→List Key
 | .box cs=>cs.flatMap AC.keys
 | .arr _ _=>[]
 | .part _ _=>[]
def Rslt.names(r:Rslt U):List Key:=
 (match r.val with|some x=>x.keys|none=>[])++r.adds.flatMap (fun(_,e)=>e.names)++r.upds.flatMap (fun(_,e)=>e.names)
def freshOk(dst:Nat)(r:Rslt U)(rs:List Rec):Bool:=r.adds.isEmpty||rs.all fun x=> !((x.reads++x.writes).any fun k=>Nat.beq k.1 dst)
def addsOk(o:Oper)(r:Rslt U):Bool:=r.adds.all fun(j,_)=>Nat.blt j 1024
def meet(a b:List Key):Bool:=a.any fun k=>b.any (keq k)
def ancs(ops:List Oper):List Nat:=
 ops.foldl (fun acc o=>acc++[o.after.toList.foldl (fun m e=>bif Region.binds .any e then Nat.lor m (Nat.lor (Nat.shiftLeft 1 e.on) (acc.getD e.on 0)) else m) 0]) []
def bitN(m i:Nat):Bool:=Nat.beq (Nat.land (Nat.shiftRight m i) 1) 1
def guardSlot(ops:List Oper)(o:Oper):List Nat:=
 match o.guard with
 |some (g,_)=>match ops[g]? with|some q=>q.dst.toList|none=>[]
 |none=>[]
def slotsOf(ops:List Oper)(o:Oper):List Nat:=
 (o.op.operands.toList.flatMap fun| .tmp t=>[t]|_=>[])++guardSlot ops o
def apartOk(ops:List Oper)(x y:Oper)(rx ry:Rec):Bool:=
 !(meet rx.writes (ry.reads++ry.writes))&& !(meet ry.writes rx.reads)&&
 (match x.dst with|some d=> !((slotsOf ops y).any (Nat.beq d))&& !(y.dst.any (Nat.beq d))|none=>true)&&
 (match y.dst with|some d=> !((slotsOf ops x).any (Nat.beq d))|none=>true)
def ordOk(ops:List Oper):Bool:=ops.zipIdx.all fun(o,i)=>o.after.toList.all fun e=> !(Region.binds .any e)||Nat.blt e.on i
def drawOk(ops:List Oper)(recs:List Rec):Bool:=
 let an:=ancs ops
 ordOk ops&&recs.all fun ry=>recs.all fun rx=>
  !(Nat.blt rx.i ry.i)||bitN (an.getD ry.i 0) rx.i||
  (match ops[rx.i]?,ops[ry.i]? with|some x,some y=>apartOk ops x y rx ry|_,_=>false)
def guards(ops:List Oper)(i:Nat):Bool:=ops.any fun o=>match o.guard with|some (g,_)=>Nat.beq g i|none=>false
def andP:List Prop→Prop→Prop
 |[],q=>q
 |p::ps,q=>p∧andP ps q
def beqB(a b:Bool):Bool:=match a,b with|true,true=>true|false,false=>true|_,_=>false
def wpGo(i:Nat)(o:Oper)(σ:AState U)(rs:List Rec)(ks:List Key)(K:AState U→Rec→Prop)(r:Rslt U):Prop:=
 bif freshOk (o.dst.getD 1000000) r rs&&addsOk o r then K (apply o r σ) ⟨i,ks++r.names,r.writes (o.dst.getD 1000000)⟩ else False
def setB(r:Rslt U)(b:Bool):Rslt U:={r with val:=some (litV (.bool b))}
def wpOp1(ops:List Oper)(i:Nat)(o:Oper)(σ:AState U)(rs:List Rec)(K:AState U→Rec→Prop):Prop:=
 match step E σ o with
 |some (r,ks)=>
  andP r.pre<|
  bif guards ops i then
   match svLit r.val with
   |some (.bool b)=>bif b then wpGo i o σ rs ks K (setB r true) else wpGo i o σ rs ks K (setB r false)
   |_=>False
  else wpGo i o σ rs ks K r
 |none=>False
def wpOps(ops:List Oper):List Oper→Nat→AState U→List Rec→(AState U→List Rec→Prop)→Prop
 |[],_,σ,rs,K=>K σ rs
 |o::rest,i,σ,rs,K=>
  match o.guard with
  |none=>wpOp1 E ops i o σ rs fun σ' r=>wpOps ops rest (i+1) σ' (r::rs) K
  |some (g,want)=>
   match((ops[g]?).bind (·.dst)).bind σ.get with
   |some (.v x)=>match lit? (.v x) with
    |some (.bool b)=>bif beqB b want then wpOp1 E ops i o σ rs fun σ' r=>wpOps ops rest (i+1) σ' (r::rs) K
     else bif dstOk σ o then wpOps ops rest (i+1) (apply o undefR σ) (⟨i,[],[]⟩::rs) K else False
    |_=>False
   |some (.tup [])=>bif dstOk σ o then wpOps ops rest (i+1) (apply o undefR σ) (⟨i,[],[]⟩::rs) K else False
   |_=>False
def SV.stale(bad:Key→Bool)(dirty:List Key)(x:SV U):Bool:=
 x.acs.any fun a=>a.keys.any bad||(match a with| .ref k p| .eptr k p _ _ _=> !p.isEmpty&&dirty.any (keq k)|_=>false)
def AC.ren(f:Key→Key):AC U→AC U
 | .ref k p=> .ref (f k) p
 | .sub k wd lo hi=> .sub (f k) wd lo hi
 | .eptr k p i wd off=> .eptr (f k) p i wd off
 | .bptr k off=> .bptr (f k) off
 |x=>x
def SV.ren(f:Key→Key):SV U→SV U
 | .v x=> .v ⟨x.agg,x.cs.map (AC.ren f)⟩
 | .tup xs=> .tup (xs.map fun x=>⟨x.agg,x.cs.map (AC.ren f)⟩)
 | .fn p=> .fn p
 | .clo g xs=> .clo g (xs.map fun x=>⟨x.agg,x.cs.map (AC.ren f)⟩)
def Ent.ren(f:Key→Key):Ent U→Ent U
 | .box cs=> .box (cs.map (AC.ren f))
 |e=>e
def tidy{β:Type}:List Nat→List (Nat×Option β)→List (Nat×Option β)
 |_,[]=>[]
 |seen,(s,v)::r=>bif seen.any (Nat.beq s) then tidy seen r else match v with
  |some x=>(s,some x)::tidy (s::seen) r
  |none=>tidy (s::seen) r
def tidyK{β:Type}:List Key→List (Key×Option β)→List (Key×Option β)
 |_,[]=>[]
 |seen,(s,v)::r=>bif seen.any (keq s) then tidyK seen r else match v with
  |some x=>(s,some x)::tidyK (s::seen) r
  |none=>tidyK (s::seen) r
def purge(bad:Key→Bool)(σ:AState U):AState U:=
 let ok (x:SV U):Bool:= !(x.stale (fun k=>bad k||(lookK σ.tab k).isNone) σ.dirty)
 {σ with
  slots:=(tidy [] σ.slots).filter fun(_,v)=>match v with|some (.tup [])=>false|some x=>ok x|none=>false
  tab:=(tidyK [] σ.tab).filter fun(k,e)=> !(bad k)&&(match e with|some (.box cs)=>ok (.v ⟨true,cs⟩)|_=>true)
  dirty:=[]}
def renOf(d:Nat)(x:SV U):List (Key×Key):=
 (x.acs.zipIdx).flatMap fun(a,j)=>match a with
  | .ref k []| .sub k _ _ _| .bptr k _=>[(k,(d,1024+j))]
  |_=>[]
def renF(l:List (Key×Key))(k:Key):Key:=
 match l with
 |[]=>k
 |(a,b)::r=>bif keq a k then b else renF r k
def rename(l:List (Key×Key))(σ:AState U):AState U:=
 {σ with
  slots:=σ.slots.map fun(s,v)=>(s,v.map (SV.ren (renF l)))
  tab:=σ.tab.map fun(k,e)=>(renF l k,e.map (Ent.ren (renF l)))}
def settleBy(l0:List (Key×Key))(σ:AState U):AState U:=
 let l:=l0.filter fun(a,b)=> !(keq a b)&& !(Nat.ble 2000000 a.1&&Nat.blt a.2 1024)
 bif l.isEmpty|| !(distinct (l.map (·.1)))|| !(distinct (l.map (·.2)))|| !(l.all fun(_,b)=>Nat.ble 1024 b.2) then σ else
  let tgt:=l.map (·.2)
  rename l (purge (fun k=>tgt.any (keq k)) σ)
def settle1(d:Nat)(σ:AState U):AState U:=
 match σ.get d with
 |some x=>settleBy (renOf d x) σ
 |none=>σ
def renBox(k:Key)(cs:List (AC U)):List (Key×Key):=
 cs.zipIdx.flatMap fun(a,j)=>match a with
  | .ref q []| .sub q _ _ _=>[(q,(k.1,4096*(k.2+1)+j))]
  |_=>[]
def settleB(k:Key)(σ:AState U):AState U:=
 match σ.ent k with
 |some (.box cs)=>settleBy (renBox k cs) σ
 |_=>σ
def boxes(σ:AState U):List Key:=σ.tab.flatMap fun(k,e)=>match e with|some (.box _)=>[k]|_=>[]
inductive Spot where
 |slot (s j:Nat)
 |box (k:Key) (j:Nat)
def Spot.key:Spot→Key
 | .slot s j=>(s,1024+j)
 | .box k j=>(k.1,4096*(k.2+1)+j)
def isE0:Option (AC U)→Bool
 |some .e0=>true
 |_=>false
def unnamed(k:Key)(σ:AState U):Bool:=
 (σ.slots.all fun(_,v)=>match v with|some x=> !(x.keys.any (keq k))|none=>true)&&
 (σ.tab.all fun(_,e)=>match e with|some (.box cs)=> !(cs.any fun a=>a.keys.any (keq k))|_=>true)
def nil1(p:Spot)(τ:U.Ty×Bool)(σ:AState U):AState U:=
 bif (lookK σ.tab p.key).isNone&&unnamed p.key σ&&Nat.ble 1024 p.key.2 then
  match p with
  | .slot s j=>match σ.get s with
   |some (.v x)=>bif isE0 x.cs[j]? then
     {σ with slots:=(s,some (.v ⟨x.agg,x.cs.set j (.ref p.key [])⟩))::σ.slots,tab:=(p.key,some (.arr ⟨τ.1,[]⟩ τ.2))::σ.tab} else σ
   |_=>σ
  | .box k j=>match σ.ent k with
   |some (.box cs)=>bif isE0 cs[j]? then
     {σ with tab:=(p.key,some (.arr ⟨τ.1,[]⟩ τ.2))::(k,some (.box (cs.set j (.ref p.key []))))::σ.tab} else σ
   |_=>σ
 else σ
def partK(k0:Key)(σ:AState U):AState U:=
 match σ.ent k0 with
 |some (.arr a true)=>{σ with tab:=(k0,some (.part a fun _=>false))::σ.tab}
 |_=>σ
def parts(l:List Key)(σ:AState U):AState U:=l.foldl (fun σ k=>partK k σ) σ
def nilS(p:Spot)(τ:U.Ty)(σ:AState U):AState U:=
 match p with
 | .slot s j=>match σ.get s with
  |some (.v x)=>bif isE0 x.cs[j]? then{σ with slots:=(s,some (.v ⟨x.agg,x.cs.set j (.c (.sl τ []))⟩))::σ.slots} else σ
  |_=>σ
 | .box k j=>match σ.ent k with
  |some (.box cs)=>bif isE0 cs[j]? then{σ with tab:=(k,some (.box (cs.set j (.c (.sl τ [])))))::σ.tab} else σ
  |_=>σ
def nils:List (Spot×U.Ty×Option Bool)→AState U→AState U
 |[],σ=>σ
 |(p,τ,some d)::r,σ=>nils r (nil1 p (τ,d) σ)
 |(p,τ,none)::r,σ=>nils r (nilS p τ σ)
def assigned(ops:List Oper):List Nat:=ops.flatMap fun o=>match o.op with| .assign _=>o.dst.toList|_=>[]
def purge0(σ:AState U):AState U:=purge (fun _=>false) σ
def settleBs(l:List Key)(σ:AState U):AState U:=l.foldl (fun σ k=>settleB k σ) σ
def settle(ops:List Oper)(σ:AState U):AState U:=
 let σ1:=(assigned ops).foldl (fun σ d=>settle1 d σ) (purge0 σ)
 settleBs (boxes σ1) σ1
def dsts(ops:List Oper):List Nat:=ops.flatMap fun o=>o.dst.toList
def enter(ops:List Oper)(σ:AState U):AState U:=let ds:=dsts ops;purge (fun k=>(ds.any (Nat.beq k.1)||Nat.beq k.1 1000000)&&Nat.blt k.2 1024) σ
def frAC(k0:Key)(c:U.C):AC U→AC U
 | .ref k []=>bif keq k k0 then .c c else .ref k []
 |x=>x
def frSV(k0:Key)(c:U.C):SV U→SV U
 | .v x=> .v ⟨x.agg,x.cs.map (frAC k0 c)⟩
 |x=>x
def frEnt(k0:Key)(c:U.C):Ent U→Ent U
 | .box cs=> .box (cs.map (frAC k0 c))
 |e=>e
def freezeK(k0:Key)(σ:AState U):AState U:=
 match σ.ent k0 with
 |some (.arr a _)=>{σ with
   slots:=σ.slots.map fun(s,v)=>(s,v.map (frSV k0 (.sl a.τ a.xs)))
   tab:=(k0,none)::σ.tab.map fun(k,e)=>(k,e.map (frEnt k0 (.sl a.τ a.xs)))}
 |_=>σ
def freeze1(s:Nat)(σ:AState U):AState U:=
 match σ.get s with
 |some (.v ⟨_,[.ref k []]⟩)=>freezeK k σ
 |_=>σ
def freezes(l:List Nat)(σ:AState U):AState U:=l.foldl (fun σ s=>freeze1 s σ) σ
def lends(E:Env U)(ops:List Oper):List Nat:=ops.flatMap fun o=>match o.op with
 | .call {callee:=.value (.func f),args,..}=>match E.con f with
  |some k=>bif hasBox k.md then(k.md.zip args.toList).flatMap fun(m,q)=>match m,q with
    | .ro,.tmp t=>ops.flatMap fun p=>match p.dst,p.op with
     |some d,.move (.tmp v)=>bif Nat.beq d t then[v] else[]
     |_,_=>[]
    |_,_=>[] else[]
  |none=>[]
 |_=>[]
def freezeKs(l:List Key)(σ:AState U):AState U:=l.foldl (fun σ k=>freezeK k σ) σ
def rootOf(ops:List Oper)(t:Nat):Nat:=match ops.find? (fun p=>p.dst.any (Nat.beq t)) with
 |some p=>match p.op with
  | .move (.tmp v)=>v
  |_=>t
 |none=>t
def capKeys(ops:List Oper)(σ:AState U):List Key:=ops.flatMap fun o=>match o.op with
 | .makeFunc _ _ caps=>caps.toList.flatMap fun q=>match q with
  | .tmp t=>match σ.get (rootOf ops t) with
   |some (.v ⟨_,[.bptr k _]⟩)=>match σ.ent k with
    |some (.box cs)=>cs.flatMap fun c=>match c with
     | .ref q []=>[q]
     |_=>[]
    |_=>[]
   |_=>[]
  |_=>[]
 |_=>[]
def enterF(E:Env U)(ops:List Oper)(σ:AState U):AState U:=freezeKs (capKeys ops (freezes (lends E ops) (enter ops σ))) (freezes (lends E ops) (enter ops σ))
def wpRegion(ops:List Oper)(draw:Bool)(σ:AState U)(K:AState U→Prop):Prop:=
 wpOps E ops ops 0 (enterF E ops σ) [] fun σ' rs=>bif !draw||drawOk ops rs then K (settle ops σ') else False
inductive Out (U:Uni) where
 |normal (σ:AState U)
 |exit (id:Nat) (σ:AState U)
 |ret (σ:AState U)
structure Ann(U:Uni) where
 X:Type
 slots:X→List (Nat×SV U)
 ents:X→List (Key×Ent U)
 un:AState U→(X→Prop)→Prop
 nil:List (Spot×U.Ty×Option Bool)
 frz:List Nat
 prt:List Key
 I:X→X→Prop
 μ:X→Nat
 names:List Nat
 inn:∀x,∀p∈slots x,p.1∈names
 nin:∀p∈nil,∀s j,p.1=Spot.slot s j→s∈names
 law:∀σ K,un σ K→∃x,K x∧(∀p∈slots x,σ.get p.1=some p.2)∧(∀p∈ents x,σ.ent p.1=some p.2)
def settleNs(l:List Nat)(σ:AState U):AState U:=l.foldl (fun σ d=>settle1 d σ) σ
def settleBx(σ:AState U):AState U:=settleBs (boxes σ) σ
def prep(A:Ann U)(σ:AState U):AState U:=parts A.prt<|nils A.nil (freezes A.frz (purge0 (settleBx (settleNs A.names (purge0 σ)))))
def firstRegion:Code→Option Nat
 | .region id _ _=>some id
 | .seq a b=>match firstRegion a with|some i=>some i|none=>firstRegion b
 | .cond _ a b=>match firstRegion a with|some i=>some i|none=>firstRegion b
 | .block _ b=>firstRegion b
 | .loop b=>firstRegion b
 |_=>none
def begins(r:Nat)(c:Code):Bool:=match firstRegion c with
 |some i=>Nat.beq i r
 |none=>false
def cutC(r:Nat):Code→Option (Code×Code)
 | .seq a b=>bif begins r b then some (a,b) else match cutC r b with
  |some p=>some (.seq a p.1,p.2)
  |none=>none
 |_=>none
def cutA(r:Nat)(c:Code):Code:=match cutC r c with
 |some p=>p.1
 |none=> .skip
def cutB(r:Nat)(c:Code):Code:=match cutC r c with
 |some p=>p.2
 |none=> .skip
def headAt(A:Ann U)(wr:List Nat)(σ:AState U)(x:A.X):AState U:=
 ⟨σ.n,
  (A.slots x).map (fun(s,v)=>(s,some v))++
   ((tidy [] σ.slots).filter fun(s,v)=> !(wr.any (Nat.beq s))&& !(A.names.any (Nat.beq s))&&(match v with|some (.v y)=>(SV.v y).keys.isEmpty|some (.fn _)=>true|_=>false)),
  (A.ents x).map fun(k,e)=>(k,some e),
  []⟩
variable(ann:Nat→Option (Ann U))
def touched:Code→List Nat
 | .region _ ops _=>dsts ops.toList
 | .seq a b=>touched a++touched b
 | .cond _ a b=>touched a++touched b
 | .block _ b=>touched b
 | .loop b=>touched b++(match(firstRegion b).bind ann with|some A=>A.names|none=>[])
 |_=>[]
def wp:Code→AState U→(Out U→Prop)→Prop
 | .skip,σ,Q=>Q (.normal σ)
 | .seq a b,σ,Q=>wp a σ fun
  | .normal σ'=>wp b σ' Q
  |o=>Q o
 | .cond c t e,σ,Q=>match opdLit σ c with
  |some (.bool b)=>bif b then wp t σ Q else wp e σ Q
  |_=>False
 | .block id c,σ,Q=>wp c σ fun
  | .exit id' σ'=>bif Nat.beq id' id then Q (.normal σ') else Q (.exit id' σ')
  |o=>Q o
 | .loop c,σ,Q=>match(firstRegion c).bind ann with
  |some A=>A.un (prep A σ) fun x=>A.I x x∧
    ∀y:A.X,A.I x y→wp c (headAt A (touched ann c) σ y) fun
     | .normal σ'=>A.un (prep A σ') fun z=>A.I x z∧A.μ z<A.μ y
     |o=>Q o
  |none=>False
 | .exit id,σ,Q=>Q (.exit id σ)
 | .ret,σ,Q=>Q (.ret σ)
 | .region _ ops draw,σ,Q=>wpRegion E ops.toList draw σ fun σ'=>Q (.normal σ')
 |_,_,_=>False
end
end
end AM
