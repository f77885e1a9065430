import Derived.Calls
import Derived.Orders
import Derived.Laws.AppendOwn
import Derived.Below
import Derived.Laws.BytesArg
namespace AM
theorem bi:type_of% @List.mem_cons_of_mem:=@List.mem_cons_of_mem
theorem dw:type_of% @List.mem_cons_self:=@List.mem_cons_self
theorem fY:type_of% @List.getD_eq_getElem?_getD:=@List.getD_eq_getElem?_getD
theorem gg:type_of% @List.getElem?_eq_getElem:=@List.getElem?_eq_getElem
theorem fJ:type_of% @Option.some.injEq:=@Option.some.injEq
theorem eE:type_of% @Bool.and_eq_true:=@Bool.and_eq_true
theorem lJ:type_of% @Option.isSome_iff_exists:=@Option.isSome_iff_exists
theorem gT:type_of% @Bool.cond_eq_ite:=@Bool.cond_eq_ite
theorem lN:type_of% @Nat.eq_of_beq_eq_true:=@Nat.eq_of_beq_eq_true
theorem mi:type_of% @List.getElem?_eq_none:=@List.getElem?_eq_none
theorem jw:type_of% @List.mem_cons:=@List.mem_cons
theorem lZ:type_of% @List.getElem?_map:=@List.getElem?_map
theorem sB:type_of% @List.getElem?_cons_zero:=@List.getElem?_cons_zero
theorem nF:type_of% @List.getElem?_take:=@List.getElem?_take
theorem kA:type_of% @List.mem_append:=@List.mem_append
theorem wI:type_of% @List.getElem?_append_right:=@List.getElem?_append_right
theorem wF:type_of% @List.getElem?_append_left:=@List.getElem?_append_left
theorem pw:type_of% @List.mem_append_left:=@List.mem_append_left
theorem oq:type_of% @List.mem_append_right:=@List.mem_append_right
theorem nl:type_of% @List.mem_flatMap:=@List.mem_flatMap
theorem oa:type_of% @List.mem_singleton:=@List.mem_singleton
theorem pu:type_of% @List.nodup_append:=@List.nodup_append
theorem od:type_of% @List.length_take:=@List.length_take
theorem nE:type_of% @Prod.mk.injEq:=@Prod.mk.injEq
theorem oc:type_of% @List.mem_range:=@List.mem_range
theorem lH:type_of% @List.mem_map:=@List.mem_map
theorem mX:type_of% @Nat.lt_or_ge:=@Nat.lt_or_ge
theorem sA:type_of% @List.any_eq_true:=@List.any_eq_true
theorem wH:type_of% @Nat.mul_le_mul_right:=@Nat.mul_le_mul_right
theorem rj:type_of% @Bool.not_eq_true':=@Bool.not_eq_true'
theorem rv:type_of% @List.nodup_cons:=@List.nodup_cons
theorem sz:type_of% @List.length_modify:=@List.length_modify
theorem wE:type_of% @Bool.false_eq_true:=@Bool.false_eq_true
theorem Du:type_of% @List.eq_nil_of_length_eq_zero:=@List.eq_nil_of_length_eq_zero
theorem rL:type_of% @Bool.false_and:=@Bool.false_and
theorem uK:type_of% @Bool.not_eq_true:=@Bool.not_eq_true
theorem tX:type_of% @List.getElem_of_mem:=@List.getElem_of_mem
theorem Cs:type_of% @List.mem_of_getElem?:=@List.mem_of_getElem?
theorem xv:type_of% @List.flatMap_cons:=@List.flatMap_cons
theorem B6:type_of% @Array.length_toList:=@Array.length_toList
theorem om:type_of% @List.length_nil:=@List.length_nil
theorem Hx:type_of% @Int.tmod_eq_emod_of_nonneg:=@Int.tmod_eq_emod_of_nonneg
theorem n_:type_of% @List.length_cons:=@List.length_cons
theorem xu:type_of% @List.append_assoc:=@List.append_assoc
theorem xt:type_of% @Bool.and_false:=@Bool.and_false
theorem tI:type_of% @List.map_cons:=@List.map_cons
theorem FH:type_of% @Nat.le_of_ble_eq_true:=@Nat.le_of_ble_eq_true
theorem Dt:type_of% @List.getElem?_drop:=@List.getElem?_drop
theorem tW:type_of% @Nat.zero_add:=@Nat.zero_add
theorem HJ:type_of% @Array.getElem?_toList:=@Array.getElem?_toList
theorem Lr:type_of% @Array.getD_eq_getD_getElem?:=@Array.getD_eq_getD_getElem?
theorem HI:type_of% @List.flatten_cons:=@List.flatten_cons
theorem tB:type_of% @Nat.le_refl:=@Nat.le_refl
theorem As:type_of% @List.all_eq_true:=@List.all_eq_true
theorem Hw:type_of% @List.flatten_append:=@List.flatten_append
theorem B5:type_of% @Option.map_some:=@Option.map_some
theorem wG:type_of% @List.length_append:=@List.length_append
theorem FE:type_of% @List.not_mem_nil:=@List.not_mem_nil
theorem BW:type_of% @List.mem_filter:=@List.mem_filter
theorem tV:type_of% @List.append_nil:=@List.append_nil
theorem wD:type_of% @Nat.add_mul:=@Nat.add_mul
theorem Ds:type_of% @Option.getD_some:=@Option.getD_some
theorem B4:type_of% @Bool.true_and:=@Bool.true_and
theorem IX:type_of% @List.getElem?_range:=@List.getElem?_range
theorem FG:type_of% @Bool.eq_iff_iff:=@Bool.eq_iff_iff
theorem B3:type_of% @Bool.or_eq_true:=@Bool.or_eq_true
theorem BV:type_of% @List.length_map:=@List.length_map
theorem Ld:type_of% @Bool.or_eq_false_iff:=@Bool.or_eq_false_iff
theorem Lq:type_of% @List.take_append_drop:=@List.take_append_drop
theorem J1:type_of% @List.map_congr_left:=@List.map_congr_left
theorem J0:type_of% @List.length_drop:=@List.length_drop
theorem JZ:type_of% @List.flatMap_def:=@List.flatMap_def
theorem IW:type_of% @List.length_set:=@List.length_set
theorem FD:type_of% @Nat.add_zero:=@Nat.add_zero
theorem Hv:type_of% @Bool.false_or:=@Bool.false_or
theorem Lp:type_of% @List.ext_getElem?:=@List.ext_getElem?
theorem O5:type_of% @List.take_of_length_le:=@List.take_of_length_le
theorem ZC:type_of% @List.take_succ_eq_append_getElem:=@List.take_succ_eq_append_getElem
theorem Hu:type_of% @List.getElem_mem:=@List.getElem_mem
theorem Lc:type_of% @Bool.and_true:=@Bool.and_true
theorem JY:type_of% @List.sum_cons:=@List.sum_cons
theorem Lo:type_of% @List.cons.injEq:=@List.cons.injEq
theorem BU:type_of% @Nat.le_trans:=@Nat.le_trans
theorem Ln:type_of% @Option.getD_none:=@Option.getD_none
theorem ZB:type_of% @List.nodup_iff_pairwise_ne:=@List.nodup_iff_pairwise_ne
theorem O4:type_of% @List.getElem?_set:=@List.getElem?_set
theorem RU:type_of% @List.Sublist.refl:=@List.Sublist.refl
theorem O3:type_of% @List.size_toArray:=@List.size_toArray
theorem ZA:type_of% @Array.getElem?_eq_getElem:=@Array.getElem?_eq_getElem
theorem Lm:type_of% @Nat.add_assoc:=@Nat.add_assoc
theorem zdm:type_of% @List.eq_nil_iff_forall_not_mem:=@List.eq_nil_iff_forall_not_mem
theorem FF:type_of% @Nat.beq_eq:=@Nat.beq_eq
theorem Ll:type_of% @List.any_map:=@List.any_map
theorem Zz:type_of% @List.getElem?_set_self:=@List.getElem?_set_self
theorem UR:type_of% @List.mem_flatten:=@List.mem_flatten
theorem O2:type_of% @List.all_cons:=@List.all_cons
theorem Y':type_of% @Nat.lt_of_lt_of_le:=@Nat.lt_of_lt_of_le
theorem O1:type_of% @List.length_filter_le:=@List.length_filter_le
theorem UQ:type_of% @List.nodup_nil:=@List.nodup_nil
theorem RT:type_of% @List.pairwise_iff_getElem:=@List.pairwise_iff_getElem
theorem Lk:type_of% @Nat.one_mul:=@Nat.one_mul
theorem UP:type_of% @Option.some.inj:=@Option.some.inj
theorem zdy:type_of% @Option.bind_eq_some_iff:=@Option.bind_eq_some_iff
theorem zdz:type_of% @List.getElem?_replicate:=@List.getElem?_replicate
theorem Y9:type_of% @Bool.not_false:=@Bool.not_false
theorem Zy:type_of% @List.find?_eq_none:=@List.find?_eq_none
theorem RR:type_of% @Nat.mul_comm:=@Nat.mul_comm
theorem zed:type_of% @List.getElem?_toArray:=@List.getElem?_toArray
theorem zee:type_of% @List.length_replicate:=@List.length_replicate
theorem La:type_of% @List.map_append:=@List.map_append
theorem UO:type_of% @List.any_cons:=@List.any_cons
theorem O0:type_of% @Bool.or_false:=@Bool.or_false
theorem zei:type_of% @List.getElem?_modify:=@List.getElem?_modify
theorem zej:type_of% @List.getElem?_zipIdx:=@List.getElem?_zipIdx
theorem zek:type_of% @List.getElem?_set_ne:=@List.getElem?_set_ne
theorem Zx:type_of% @List.drop_eq_getElem_cons:=@List.drop_eq_getElem_cons
theorem zem:type_of% @List.sublist_append_right:=@List.sublist_append_right
theorem Zw:type_of% @List.flatMap_nil:=@List.flatMap_nil
theorem Zv:type_of% @Array.toList_map:=@Array.toList_map
theorem UN:type_of% @List.flatMap_append:=@List.flatMap_append
theorem OL:type_of% @Nat.ble_eq:=@Nat.ble_eq
theorem zer:type_of% @List.sublist_append_left:=@List.sublist_append_left
theorem RQ:type_of% @List.all_nil:=@List.all_nil
theorem Y8:type_of% @List.sum_append:=@List.sum_append
theorem UM:type_of% @Int.toNat_natCast:=@Int.toNat_natCast
theorem Y7:type_of% @Nat.sub_self:=@Nat.sub_self
theorem Y6:type_of% @Nat.add_comm:=@Nat.add_comm
theorem Zu:type_of% @List.cons_append:=@List.cons_append
theorem zey:type_of% @List.flatten_nil:=@List.flatten_nil
theorem zez:type_of% @Nat.div_eq_of_lt:=@Nat.div_eq_of_lt
theorem Zt:type_of% @Bool.not_true:=@Bool.not_true
set_option linter.unusedVariables false
noncomputable section
open Go
inductive Cell (Ty:Type) (T:Ty->Type) where
 |lit (v:Value)
 |sl (τ:Ty) (xs:List (T τ))
structure kz where
 Ty:Type
 T:Ty->Type
 deq:DecidableEq Ty
 wd:Ty->Nat
 enc:(τ:Ty)->T τ->List (Cell Ty T)
 dec:(τ:Ty)->List (Cell Ty T)->Option (T τ)
 eP:(τ:Ty)->T τ
 flat:Ty->Bool
 kq:∀τ,0<wd τ
 cZ:∀τ x,(enc τ x).length=wd τ
 kV:∀τ cs x,dec τ cs=some x->enc τ x=cs
 Jv:∀τ,flat τ=true->∀x c,c∈enc τ x->∃v,c=.lit v
 nk:Ty
 R1:T nk->Int
 ofB:Int->T nk
 I6:∀n,R1 (ofB n)=n
 C_:∀x,enc nk x=[.lit (.int .u8 (R1 x))]
abbrev kz.C(U:kz):=Cell U.Ty U.T
structure eK(U:kz) where
 τ:U.Ty
 xs:List (U.T τ)
abbrev Key:=Nat×Nat
abbrev Path:=List (Nat×Nat×Nat)
inductive AC (U:kz) where
 |c (x:U.C)
 |e0
 |ref (k:Key) (p:Path)
 |sub (k:Key) (wd lo hi:Nat)
 |kM (k:Key) (p:Path) (i wd off:Nat)
 |j0 (k:Key) (off:Nat)
 |ia (cs:List U.C)
 |kn (b:Bool) (τ:U.Ty) (xs:List (U.T τ))
structure AV(U:kz) where
 agg:Bool
 cs:List (AC U)
structure DA(U:kz) where
 agg:Bool
 cs:List U.C
inductive SV (U:kz) where
 |v (x:AV U)
 |tJ (xs:List (AV U))
 |fn (p:List (DA U)->Option Value)
 |Db (g:FuncId) (n0:List (AV U))
inductive ir (U:kz) where
 |arr (a:eK U) (deep:Bool)
 |box (cs:List (AC U))
 |part (a:eK U) (dead:Nat->Bool)
structure af(U:kz) where
 n:Nat
 bp:List (Nat×Option (SV U))
 mW:List (Key×Option (ir U))
 aC:List Key
def look{β:Type}(l:List (Nat×Option β))(s:Nat):Option β:=
 match l with
 |[]=>none
 |(t,v)::r=>bif Nat.beq t s then v else look r s
def iw(a b:Key):Bool:=Nat.beq a.1 b.1&&Nat.beq a.2 b.2
def eo{β:Type}(l:List (Key×Option β))(k:Key):Option β:=
 match l with
 |[]=>none
 |(t,v)::r=>bif iw t k then v else eo r k
def af.get{U:kz}(σ:af U)(s:Nat):Option (SV U):=look σ.bp s
def af.bH{U:kz}(σ:af U)(k:Key):Option (ir U):=eo σ.mW k
inductive DV (U:kz) where
 |one (c:U.C)
 |agg (cs:List U.C)
 |box (cs:List U.C)
 |ptr (cs:List U.C)
 |fn (p:List (DA U)->Option Value)
inductive Mode where
 |ro|wr|mv
 |box (own:Bool)
 deriving DecidableEq
structure Res(U:kz) where
 val:List (DV U)
 fresh:List Bool
 Gg:List (DV U)
structure jH(U:kz) where
 α:Type
 md:List Mode
 of:List (DV U)->Option α
 ds:α->List (DV U)
 pre:α->List Prop
 mE:α->Res U
 law:∀l x,of l=some x->ds x=l
 FW:Nat:=0
 cut:Nat:=0
def jH.want{U:kz}(k:jH U)(ws:List (List (Option U.Ty))):List (List (Option U.Ty)):=match k.cut with
 |0=>ws
 |n+1=>ws.map (List.take (n+1))
structure Env(U:kz) where
 P:Program
 tid:U.Ty->TypeId
 code:TypeId->Option U.Ty
 K3:FuncId->Option (jH U)
 K0:FuncId->Option (jH U):=fun _=>none
 O':List (Nat×Array Value):=[]
 fE:TypeId->Nat->List Key->Bool:=fun _ _ _=>false
 shl:TypeId->Bool:=fun _=>false
section
variable{U:kz}(E:Env U)
def Env.isAgg(t:TypeId):Option Bool:=match E.P.underlying t with|some (.struct _)=>some true|some (.array _ _)=>some true|some _=>some false|none=>none
def Env.size(t:TypeId):Option Nat:=(E.P.info? t).map (·.size)
def Env.elem(t:TypeId):Option TypeId:=match E.P.underlying t with|some (.slice e)=>some e|_=>none
def Env.QJ(t:TypeId)(f:Nat):Option (Nat×TypeId):=match E.P.underlying t with|some (.struct fs)=>(fs[f]?).map fun f=>(f.offset,f.type)|_=>none
def Env.shape:Nat->TypeId->List (Option U.Ty)
 |0,_=>[]
 |d+1,t=>match E.P.underlying t with
  |some (.struct fs)=>fs.toList.flatMap fun f=>Env.shape d f.type
  |some (.slice e)=>[E.code e]
  |_=>[none]
def Env.wP(t:TypeId):List (Option U.Ty):=match E.P.underlying t with
 |some (.pointer e)=>E.shape 8 e
 |_=>E.shape 8 t
def walk:Path->eK U->Option (List Prop×eK U)
 |[],a=>some ([],a)
 |(i,wd,j)::p,a=>
  bif Nat.beq wd (U.wd a.τ) then
   match(U.enc a.τ (a.xs.getD i (U.eP a.τ)))[j]? with
   |some (.sl τ xs)=>match walk p ⟨τ,xs⟩ with
    |some (ps,b)=>some ((i<a.xs.length)::ps,b)
    |none=>none
   |_=>none
  else none
def R9(τ:U.Ty)(g:List U.C->List U.C)(x:U.T τ):U.T τ:=match U.dec τ (g (U.enc τ x)) with|some y=>y|none=>x
def DQ(τ:U.Ty)(xs:List (U.T τ))(i:Nat)(g:List U.C->List U.C):List (U.T τ):=xs.modify i (R9 τ g)
theorem aaR{τ:U.Ty}{xs:List (U.T τ)}{i:Nat}{g:List U.C->List U.C}{y:U.T τ}(h:U.dec τ (g (U.enc τ (xs.getD i (U.eP τ))))=some y):DQ τ xs i g=xs.set i y:=by
 unfold DQ
 refine Lp fun j=> ?_
 rw[zei,O4]
 by_cases hj:i=j
 ·subst hj
  rw[if_pos rfl]
  by_cases hi:i<xs.length
  ·rw[if_pos hi,gg hi]
   rw[fY,gg hi] at h
   simp only[Ds] at h
   simp[R9,h]
  ·rw[if_neg hi,mi (by omega)];rfl
 ·rw[if_neg hj]
  simp[hj]
def Zr:Path->eK U->(eK U->Option (eK U))->Option (eK U)
 |[],a,f=>f a
 |(i,_,j)::p,a,f=>
  let cs:=U.enc a.τ (a.xs.getD i (U.eP a.τ))
  match cs[j]? with
  |some (.sl τ xs)=>
   match Zr p ⟨τ,xs⟩ f with
   |some b=>match U.dec a.τ (cs.set j (.sl b.τ b.xs)) with
    |some _=>some ⟨a.τ,DQ a.τ a.xs i (fun cs=>cs.set j (.sl b.τ b.xs))⟩
    |none=>none
   |none=>none
  |_=>none
def iJ(τ:U.Ty)(a:eK U):Option (List (U.T τ)):=
 match U.deq a.τ τ with
 | .isTrue h=>some (h▸a.xs)
 | .isFalse _=>none
abbrev o7(U:kz):=Key->Option (ir U)
structure ch(U:kz) where
 val:Option (SV U)
 du:List (Nat×ir U)
 kH:List Key
 jp:List (Key×ir U)
 pre:List Prop
def ch.cE(v:SV U)(pre:List Prop:=[]):ch U:=⟨some v,[],[],[],pre⟩
def one(x:AC U):SV U:=.v ⟨false,[x]⟩
def tD(v:Value):SV U:=one (.c (.lit v))
def ch.lit(v:Value)(pre:List Prop:=[]):ch U:=.cE (tD v) pre
def fg(tb:o7 U)(aC:List Key)(k:Key)(p:Path):Bool:=p.isEmpty||((tb k).isSome&& !(aC.any (iw k)))
def BF(tb:o7 U)(aC:List Key):AC U->Bool
 | .ref k p=>fg tb aC k p
 | .kM k p _ _ _=>fg tb aC k p
 |_=>true
def sh(tb:o7 U)(aC:List Key)(cs:List (AC U)):Bool:=cs.all (BF tb aC)
def oW(tb:o7 U)(aC:List Key):AC U->Option (List Prop×eK U)
 | .c (.sl τ xs)=>some ([],⟨τ,xs⟩)
 | .kn _ τ xs=>some ([],⟨τ,xs⟩)
 | .ref k p=>match tb k with
  |some (.arr a _)=>bif fg tb aC k p then walk p a else none
  |_=>none
 | .sub k wd lo hi=>match tb k with
  |some (.arr a _)=>bif Nat.beq wd (U.wd a.τ) then some ([hi<=a.xs.length],⟨a.τ,(a.xs.take hi).drop lo⟩) else none
  |_=>none
 |_=>none
def xg(tb:o7 U)(aC:List Key):AC U->Option (List Prop×eK U)
 | .ref k ((i,wd,j)::p)=>match tb k with
  |some (.part a dead)=>bif fg tb aC k ((i,wd,j)::p) then(match walk ((i,wd,j)::p) a with|some (ps,b)=>some ((dead i=false)::ps,b)|none=>none) else none
  |_=>none
 |_=>none
def cellOf(tb:o7 U)(aC:List Key)(want:Option U.Ty):AC U->Option (List Prop×U.C)
 | .c x=>some ([],x)
 | .e0=>match want with|some τ=>some ([],.sl τ [])|none=>none
 |x=>match oW tb aC x with
  |some (ps,a)=>some (ps,.sl a.τ a.xs)
  |none=>match xg tb aC x with
   |some (ps,a)=>some (ps,.sl a.τ a.xs)
   |none=>none
def cellsOf(tb:o7 U)(aC:List Key):List (Option U.Ty)->List (AC U)->Option (List Prop×List U.C)
 |_,[]=>some ([],[])
 |ws,x::r=>
  match cellOf tb aC (ws.head?.bind id) x,cellsOf tb aC ws.tail r with
  |some (ps,c),some (qs,cs)=>some (ps++qs,c::cs)
  |_,_=>none
def rO(tb:o7 U)(want:Option U.Ty):AC U->Option (List Prop×U.C×List Key×Bool)
 | .c (.lit v)=>some ([],.lit v,[],true)
 | .c (.sl τ xs)=>some ([],.sl τ xs,[],false)
 | .e0=>match want with|some τ=>some ([],.sl τ [],[],true)|none=>none
 | .ref k []=>match tb k with
  |some (.arr a d)=>some ([],.sl a.τ a.xs,[k],d)
  |some (.part a dead)=>some ([∀i,i<a.xs.length->dead i=false],.sl a.τ a.xs,[k],true)
  |_=>none
 | .sub k _ 0 hi=>match tb k with
  |some (.arr a d)=>some ([hi<=a.xs.length],.sl a.τ (a.xs.take hi),[k],d)
  |some (.part a dead)=>some ([hi<=a.xs.length,∀i,i<hi->dead i=false],.sl a.τ (a.xs.take hi),[k],true)
  |_=>none
 |_=>none
def eL(tb:o7 U):List (Option U.Ty)->List (AC U)->Option (List Prop×List U.C×List Key×Bool)
 |_,[]=>some ([],[],[],true)
 |ws,x::r=>
  match rO tb (ws.head?.bind id) x,eL tb ws.tail r with
  |some (ps,c,ks,d),some (qs,cs,ks',d')=>some (ps++qs,c::cs,ks++ks',d&&d')
  |_,_=>none
def distinct:List Key->Bool
 |[]=>true
 |k::r=> !(r.any (iw k))&&distinct r
def A8(t:TypeId)(op:BinOp)(x y:Value):Option (List Prop×Value):=
 match x,y with
 | .int k a,.int k' b=>
  match op with
  | .shl=>some ([0<=b],.int k (k.wrap (a*2^(min b.toNat k.bits))))
  | .shr=>some ([0<=b],.int k (a.fdiv (2^(min b.toNat k.bits))))
  |op=>bif decide (k=k') then(match op with
   | .add=>some ([],.int k (k.wrap (a+b)))
   | .sub=>some ([],.int k (k.wrap (a-b)))
   | .mul=>some ([],.int k (k.wrap (a*b)))
   | .quo=>some ([b≠0],.int k (k.wrap (a.tdiv b)))
   | .rem=>some ([b≠0],.int k (a.tmod b))
   | .and=>some ([],.int k (k.wrap (BitVec.ofInt k.bits a&&&BitVec.ofInt k.bits b).toNat))
   | .or=>some ([],.int k (k.wrap (BitVec.ofInt k.bits a|||BitVec.ofInt k.bits b).toNat))
   | .xor=>some ([],.int k (k.wrap (BitVec.ofInt k.bits a^^^BitVec.ofInt k.bits b).toNat))
   | .eql=>some ([],.bool (a==b))
   | .neq=>some ([],.bool (a !=b))
   | .lss=>some ([],.bool (decide (a<b)))
   | .leq=>some ([],.bool (decide (a<=b)))
   | .gtr=>some ([],.bool (decide (a>b)))
   | .geq=>some ([],.bool (decide (a≥b)))
   |_=>none) else none
 | .string a,.string b=>
  match op with
  | .add=>some ([(a.size+b.size:Nat)<=(4611686018427387904:Nat)],.string (a++b))
  | .eql=>some ([],.bool (a.toList==b.toList))
  | .neq=>some ([],.bool (!(a.toList==b.toList)))
  | .lss=>some ([],.bool (Op.bytesLess a.toList b.toList))
  | .leq=>some ([],.bool (Op.bytesLess a.toList b.toList||a.toList==b.toList))
  | .gtr=>some ([],.bool (!(Op.bytesLess a.toList b.toList||a.toList==b.toList)))
  | .geq=>some ([],.bool (!(Op.bytesLess a.toList b.toList)))
  |_=>none
 | .bool a,.bool b=>
  match E.P.underlying t with
  |some .bool=>match op with
   | .eql=>some ([],.bool (a==b))
   | .neq=>some ([],.bool (!(a==b)))
   |_=>none
  |_=>none
 |_,_=>none
def Env.Iu:Nat->TypeId->List Value->List Value->Option Bool
 |0,_,_,_=>none
 |d+1,t,xs,ys=>match E.P.underlying t with
  |some (.struct fs)=>bif E.P.stoodInHeld t then none else
    fs.toList.foldr (fun f acc=>match E.size f.type,E.isAgg f.type,acc with
     |some n,some g,some r=>bif f.name != "_" &&Nat.ble (f.offset+n) xs.length&&Nat.ble (f.offset+n) ys.length&&(g||Nat.beq n 1) then
       (match Env.Iu d f.type ((xs.drop f.offset).take n) ((ys.drop f.offset).take n) with
       |some b=>some (b&&r)
       |none=>none) else none
     |_,_,_=>none) (some true)
  |some .bool=>match xs,ys with|[.bool a],[.bool b]=>some (a==b)|_,_=>none
  |some (.int _)=>match xs,ys with|[.int k a],[.int k' b]=>bif decide (k=k') then some (a==b) else none|_,_=>none
  |some .string=>match xs,ys with|[.string a],[.string b]=>some (a.toList==b.toList)|_,_=>none
  |_=>none
def pH:List (AC U)->Option (List Value)
 |[]=>some []
 | .c (.lit v)::r=>match pH r with|some l=>some (v::l)|none=>none
 |_=>none
def NO(op:BinOp)(t:TypeId)(x y:SV U):Option (ch U):=match x,y with
 | .v ⟨true,xs⟩,.v ⟨true,ys⟩=>match pH xs,pH ys with
  |some us,some vs=>match E.isAgg t with
   |some true=>bif E.P.eqGuardType E.P.depth t then none else(match op,E.Iu 8 t us vs with
    | .eql,some b=>some (ch.lit (.bool b))
    | .neq,some b=>some (ch.lit (.bool (!b)))
    |_,_=>none)
   |_=>none
  |_,_=>none
 |_,_=>none
def Gl(op:UnOp)(x:Value):Option Value:=
 match op,x with
 | .neg,.int k n=>some (.int k (k.wrap (0-n)))
 | .not,.bool b=>some (.bool (!b))
 |_,_=>none
def nC:Value->Option (AC U)
 | .slice none 0 0=>some .e0
 | .pointer none=>some (.c (.lit (.pointer none)))
 | .int k n=>bif decide (k.min<=n)&&decide (n<=k.max) then some (.c (.lit (.int k n))) else none
 | .bool b=>some (.c (.lit (.bool b)))
 | .string s=>bif Nat.ble s.size 9223372036854775807 then some (.c (.lit (.string s))) else none
 |_=>none
def jn:List Value->Option (List (AC U))
 |[]=>some []
 |v::r=>match nC v,jn r with
  |some x,some l=>some (x::l)
  |_,_=>none
def pS(cs:Array Value):Option (SV U):=match jn cs.toList with|some l=>some (.v ⟨true,l⟩)|none=>none
def Ef:Value->Option (SV U)
 | .agg cs=>pS cs
 |v=>match nC v with|some x=>some (one x)|none=>none
def H4(σ:af U):Operand->Option (SV U)
 | .tmp t=>σ.get t
 | .const v=>Ef v
 | .global _=>none
 | .func g=>some (.Db g [])
def AC.keys:AC U->List Key
 | .c _| .e0| .ia _| .kn _ _ _=>[]
 | .ref k _| .sub k _ _ _| .kM k _ _ _ _| .j0 k _=>[k]
def SV.yL:SV U->List (AC U)
 | .v x=>x.cs
 | .tJ xs=>xs.flatMap (·.cs)
 | .fn _=>[]
 | .Db _ xs=>xs.flatMap (·.cs)
def SV.keys(x:SV U):List Key:=x.yL.flatMap AC.keys
def af.yJ(σ:af U)(k:Key):List Key:=
 match σ.bH k with
 |some (.box cs)=>cs.flatMap AC.keys
 |_=>[]
def reach(σ:af U)(xs:List (SV U)):List Key:=
 let ks:=xs.flatMap SV.keys
 ks++ks.flatMap σ.yJ
def Jg(o:Oper):Bool:=match o.op with
 | .nilCheck _=>true
 | .fieldAddr _ _ _=>true
 |_=>false
def I3(o:Oper):Bool:=match o.op with
 | .move _=>true
 | .assign _=>true
 |_=>false
def nJ(σ:af U)(o:Oper)(xs:List (SV U)):List Key:=bif I3 o then[] else bif Jg o then xs.flatMap SV.keys else reach σ xs
def restrict(tb:o7 U)(ks:List Key):o7 U:=fun k=>bif ks.any (iw k) then tb k else none
def gE(k:Key)(p:Path)(i wd:Nat):List U.C->Nat->List (AC U)
 |[],_=>[]
 | .lit v::r,j=> .c (.lit v)::gE k p i wd r (j+1)
 | .sl _ _::r,j=> .ref k (p++[(i,wd,j)])::gE k p i wd r (j+1)
def loadAt(tb:o7 U)(aC:List Key)(agg:Bool)(n:Nat)(x:AC U):Option (ch U):=
 bif agg||Nat.beq n 1 then
  match x with
  | .ia cs=>bif Nat.ble n cs.length then some (.cE (.v ⟨agg,(cs.take n).map .c⟩)) else none
  | .j0 k off=>match tb k with
   |some (.box cs)=>bif Nat.ble (off+n) cs.length then some (.cE (.v ⟨agg,(cs.drop off).take n⟩)) else none
   |_=>none
  | .kM k p i wd off=>match tb k with
   |some (.arr a _)=>bif fg tb aC k p then
     match walk p a with
     |some (ps,b)=>
      bif Nat.ble (off+n) (U.wd b.τ)&&Nat.beq wd (U.wd b.τ) then
       some (.cE (.v ⟨agg,gE k p i wd (((U.enc b.τ (b.xs.getD i (U.eP b.τ))).drop off).take n) off⟩) (ps++[i<b.xs.length]))
      else none
     |none=>none
    else none
   |_=>none
  |_=>none
 else none
def A6(tb:o7 U)(agg:Bool)(n:Nat):AC U->Option (ch U)
 | .kM k [] i wd off=>match tb k with
  |some (.arr a false)=>bif (agg||Nat.beq n 1)&&Nat.ble (off+n) (U.wd a.τ)&&Nat.beq wd (U.wd a.τ) then
    some (.cE (.v ⟨agg,(((U.enc a.τ (a.xs.getD i (U.eP a.τ))).drop off).take n).map .c⟩) [i<a.xs.length]) else none
  |_=>none
 |_=>none
def Dv:List U.C->List (Option U.Ty)
 |[]=>[]
 | .sl τ _::r=>some τ::Dv r
 | .lit _::r=>none::Dv r
def Dz(off i:Nat)(ds:List U.C)(b:eK U):Option (eK U):=
 let cs:=U.enc b.τ (b.xs.getD i (U.eP b.τ))
 match U.dec b.τ (cs.take off++ds++cs.drop (off+ds.length)) with
 |some y=>some ⟨b.τ,bif Nat.beq ds.length (U.wd b.τ) then b.xs.set i y else DQ b.τ b.xs i (fun cs=>cs.take off++ds++cs.drop (off+ds.length))⟩
 |none=>none
theorem Wg(off i:Nat)(ds:List U.C)(b:eK U):Dz off i ds b=match U.dec b.τ ((U.enc b.τ (b.xs.getD i (U.eP b.τ))).take off++ds++(U.enc b.τ (b.xs.getD i (U.eP b.τ))).drop (off+ds.length)) with|some y=>some ⟨b.τ,b.xs.set i y⟩|none=>none:=by
 unfold Dz
 simp only
 split
 ·rename_i y h
  cases Nat.beq ds.length (U.wd b.τ)
  ·simp only[cond_false];rw[aaR h]
  ·rfl
 ·rfl
def storeAt(tb:o7 U)(aC:List Key)(x:AV U):AC U->Option (ch U)
 | .j0 k off=>match tb k with
  |some (.box cs)=>bif Nat.ble (off+x.cs.length) cs.length then
    some ⟨none,[],[],[(k,.box (cs.take off++x.cs++cs.drop (off+x.cs.length)))],[]⟩ else none
  |_=>none
 | .kM k p i wd off=>match tb k with
  |some (.arr a d)=>bif fg tb aC k p then
    match walk p a with
    |some (ps,b)=>match eL tb (Dv ((U.enc b.τ (b.xs.getD i (U.eP b.τ))).drop off)) x.cs with
     |some (qs,ds,ks,d')=>match Zr p a (Dz off i ds) with
      |some a'=>bif Nat.beq wd (U.wd b.τ)&&Nat.ble (off+ds.length) (U.wd b.τ)&&distinct (k::ks)&&((d&&d')||p.isEmpty) then
        some ⟨none,[],ks,[(k,.arr a' (d&&d'))],ps++qs++[i<b.xs.length]⟩ else none
      |none=>none
     |none=>none
    |none=>none
   else none
  |_=>none
 |_=>none
def plain:List (AC U)->Option (List U.C)
 |[]=>some []
 | .c x::r=>match plain r with|some l=>some (x::l)|none=>none
 |_=>none
def ud:List U.C->Bool
 |[]=>true
 | .lit _::r=>ud r
 |_=>false
def rowsOf(τ:U.Ty)(tb:o7 U)(want:List (Option U.Ty)):List (SV U)->Option (List Prop×List (U.T τ)×List Key×Bool)
 |[]=>some ([],[],[],true)
 | .v x::r=>
  match eL tb want x.cs,rowsOf τ tb want r with
  |some (ps,cs,ks,d),some (qs,xs,ks',d')=>
   match U.dec τ cs with
   |some y=>some (ps++qs,y::xs,ks++ks',d&&d')
   |none=>none
  |_,_=>none
 |_=>none
def Env.places(t:TypeId):Option (List (Nat×Nat)):=match E.P.underlying t with
 |some (.struct fs)=>fs.toList.mapM (fun f=>(E.P.info? f.type).map fun i=>(f.offset,i.size))
 |_=>none
def gP(pl:List (Nat×Nat))(cells:List (AC U)):List Nat->List (SV U)->Option (List (AC U))
 |[],[]=>some cells
 |f::fs,.v x::r=>match pl[f]? with
  |some (off,n)=>bif Nat.beq x.cs.length n&&Nat.ble (off+n) cells.length then gP pl (cells.take off++x.cs++cells.drop (off+n)) fs r else none
  |none=>none
 |_,_=>none
def iC :SV U->Option Value
 | .v ⟨false,[.c (.lit v)]⟩=>some v
 |_=>none
def sr :SV U->Option (AC U)
 | .v ⟨false,[x]⟩=>some x
 |_=>none
def AG{α:Type}:List (Option α)->Option (List α)
 |[]=>some []
 |some x::r=>match AG r with|some l=>some (x::l)|none=>none
 |none::_=>none
def De:Option Operand->List (SV U)->Option (Option Int×List (SV U))
 |none,bs=>some (none,bs)
 |some _,b::bs=>match iC b with
  |some (.int _ n)=>some (some n,bs)
  |_=>none
 |some _,[]=>none
def sD(tb:o7 U)(aC:List Key)(t:TypeId)(x:SV U)(l h m:Option Int):Option (ch U):=
 match m with
 |some mm=>match h,sr x,(E.elem t).bind E.size with
  |some hh,some y,some _=>match oW tb aC y with
   |some (ps,_)=>some (.cE (one .e0) (ps++[mm=0,hh=0,l.getD 0=0]))
   |none=>match y with
    | .e0=>some (.cE (one .e0) [mm=0,hh=0,l.getD 0=0])
    |_=>none
  |_,_,_=>none
 |none=>match iC x with
  |some (.string s)=>match E.P.underlying t with
   |some .string=>some (.lit (.string (s.extract (l.getD 0).toNat (h.getD s.size).toNat)) [0<=l.getD 0,l.getD 0<=h.getD s.size,h.getD s.size<=s.size])
   |_=>none
  |some _=>none
  |none=>match sr x,(E.elem t).bind E.size with
   |some (.c (.sl τ ys)),some n=>bif Nat.beq n (U.wd τ) then
     some (.cE (one (.c (.sl τ ((ys.take (h.getD ys.length).toNat).drop (l.getD 0).toNat)))) [0<=l.getD 0,l.getD 0<=h.getD ys.length,h.getD ys.length<=ys.length]) else none
   |some (.ref k []),some n=>match tb k with
    |some (.arr r _)=>bif Nat.beq n (U.wd r.τ) then
      some (.cE (one (.sub k (U.wd r.τ) (l.getD 0).toNat (h.getD r.xs.length).toNat)) [0<=l.getD 0,l.getD 0<=h.getD r.xs.length,h.getD r.xs.length<=r.xs.length]) else none
    |some (.part r _)=>bif Nat.beq n (U.wd r.τ) then
      some (.cE (one (.sub k (U.wd r.τ) (l.getD 0).toNat (h.getD r.xs.length).toNat)) [0<=l.getD 0,l.getD 0<=h.getD r.xs.length,h.getD r.xs.length<=r.xs.length]) else none
    |_=>none
   |_,_=>none
def sk(tb:o7 U)(aC:List Key)(want:List (Option U.Ty))(x:SV U):Option (List Prop×DV U):=
 match x with
 | .v ⟨false,[.ia cs]⟩=>some ([],.ptr cs)
 | .v ⟨false,[.j0 k off]⟩=>match tb k with
  |some (.box cs)=>match plain cs with|some l=>some ([],.ptr (l.drop off))|none=>none
  |_=>none
 | .v ⟨false,[y]⟩=>match cellOf tb aC (want.head?.bind id) y with|some (ps,c)=>some (ps,.one c)|none=>none
 | .v ⟨true,cs⟩=>match cellsOf tb aC want cs with|some (ps,l)=>some (ps,.agg l)|none=>none
 |_=>none
def DA.dv:DA U->DV U
 |⟨false,[c]⟩=> .one c
 |⟨_,cs⟩=> .agg cs
noncomputable def eQ(k:jH U)(n0:List (DV U))(ds:List (DA U)):Option Value:=
 match k.of (ds.map DA.dv++n0) with
 |some x=>match(k.mE x).val,(k.mE x).Gg with
  |[.one (.lit v)],[]=>@ite _ (k.md.length=ds.length+n0.length/\∀p∈k.pre x,p) (Classical.propDecidable _) (some v) none
  |_,_=>none
 |none=>none
def si(tb:o7 U)(aC:List Key):List (AV U)->Option (List Prop×List (DV U))
 |[]=>some ([],[])
 |x::r=>match sk tb aC [] (.v x),si tb aC r with
  |some (ps,d),some (qs,ds)=>some (ps++qs,d::ds)
  |_,_=>none
def oZ:List Mode->Bool
 |[]=>true
 | .ro::r=>oZ r
 |_=>false
def Hi(tb:o7 U)(aC:List Key)(want:List (Option U.Ty))(x:SV U):Option (List Prop×DV U):=
 match x with
 | .fn p=>some ([],.fn p)
 | .Db g xs=>match E.K3 g,si tb aC xs with
  |some k,some (ps,ds)=>bif oZ k.md&&Nat.ble xs.length k.md.length then some (ps,.fn (eQ k ds)) else none
  |_,_=>none
 |x=>sk tb aC want x
def Iw(x:AV U)(cs:List U.C):Option (DV U):=
 bif x.agg then some (.agg cs) else match cs with|[c]=>some (.one c)|_=>none
def i_(tb:o7 U):List (AC U)->Option (List U.C×List Key)
 |[]=>some ([],[])
 | .c (.lit v)::r=>match i_ tb r with|some (cs,ks)=>some (.lit v::cs,ks)|none=>none
 | .ref k []::r=>match tb k,i_ tb r with
  |some (.arr a true),some (cs,ks)=>some (.sl a.τ a.xs::cs,k::ks)
  |_,_=>none
 |_=>none
def AC.still:AC U->Bool
 | .c _=>true
 | .e0=>true
 | .ref _ []=>true
 | .j0 _ _=>true
 |_=>false
def k9(tb:o7 U)(aC:List Key)(want:List (Option U.Ty))(m:Mode)(x:SV U):Option (List Prop×DV U×List Key):=
 match m,x with
 | .wr,.v ⟨false,[.ref k p]⟩=>match tb k with
  |some (.arr a true)=>bif fg tb aC k p then match walk p a with|some (ps,b)=>some (ps,.one (.sl b.τ b.xs),[k])|none=>none else none
  |_=>none
 | .wr,.v ⟨true,cs⟩=>match i_ tb cs with
  |some (ds,ks)=>bif distinct ks then some ([],.agg ds,ks) else none
  |none=>none
 | .mv,.v y=>match eL tb want y.cs with
  |some (ps,cs,ks,true)=>match Iw y cs with
   |some d=>bif distinct ks then some (ps,d,ks) else none
   |none=>none
  |_=>none
 | .box true,.v ⟨false,[.j0 k 0]⟩=>match tb k with
  |some (.box cs)=>bif Nat.ble want.length cs.length&&(cs.drop want.length).all AC.still then
    match eL tb want (cs.take want.length) with
    |some (ps,l,ks,true)=>bif distinct (k::ks) then some (ps,.box l,k::ks) else none
    |_=>none
   else none
  |_=>none
 | .box false,.v ⟨false,[.j0 k 0]⟩=>match tb k with
  |some (.box cs)=>bif Nat.ble want.length cs.length&&(cs.drop want.length).all AC.still then
    match plain (cs.take want.length) with
    |some l=>some ([],.box l,[k])
    |none=>none
   else none
  |_=>none
 |_,_=>none
def sn(tb:o7 U)(aC:List Key)(want:List (Option U.Ty))(m:Mode)(x:SV U):Option (List Prop×DV U):=
 match m with
 | .ro=>Hi E tb aC want x
 |m=>match k9 tb aC want m x with|some (ps,d,_)=>some (ps,d)|none=>none
def mf(tb:o7 U)(aC:List Key):List Mode->List (List (Option U.Ty))->List (SV U)->Option (List Prop×List (DV U))
 |[],_,[]=>some ([],[])
 |m::ms,ws,x::r=>
  match sn E tb aC (ws.headD []) m x,mf tb aC ms ws.tail r with
  |some (ps,d),some (qs,ds)=>some (ps++qs,d::ds)
  |_,_=>none
 |_,_,_=>none
def putCells(dst:Nat)(fresh:Bool)(base:Nat):List U.C->List (AC U)×List (Nat×ir U)
 |[]=>([],[])
 | .lit v::r=>(.c (.lit v)::(putCells dst fresh (base+1) r).1,(putCells dst fresh (base+1) r).2)
 | .sl τ xs::r=>bif fresh then(.ref (dst,base) []::(putCells dst fresh (base+1) r).1,(base,.arr ⟨τ,xs⟩ true)::(putCells dst fresh (base+1) r).2)
   else(.c (.sl τ xs)::(putCells dst fresh (base+1) r).1,(putCells dst fresh (base+1) r).2)
def F_(dst:Nat)(fresh:Bool)(base:Nat):DV U->Option (AV U×List (Nat×ir U))
 | .one c=>some (⟨false,(putCells dst fresh base [c]).1⟩,(putCells dst fresh base [c]).2)
 | .agg cs=>some (⟨true,(putCells dst fresh base cs).1⟩,(putCells dst fresh base cs).2)
 | .box cs=>bif fresh then some (⟨false,[.j0 (dst,base) 0]⟩,[(base,.box (cs.map .c))]) else none
 | .ptr _=>none
 | .fn _=>none
def AN(dst:Nat)(fs:List Bool)(base:Nat):List (DV U)->Option (List (AV U)×List (Nat×ir U))
 |[]=>some ([],[])
 |d::r=>match F_ dst (fs.headD true) base d,AN dst fs.tail (base+32) r with
  |some (x,e),some (xs,es)=>some (x::xs,e++es)
  |_,_=>none
def DV.safe(fresh:Bool):DV U->Bool
 | .one c=>fresh||ud [c]
 | .agg cs=>fresh||ud cs
 | .box _=>false
 | .ptr _=>false
 | .fn _=>false
def sE:List Bool->List (DV U)->Bool
 |_,[]=>true
 |fs,d::r=>d.safe (fs.headD true)&&sE fs.tail r
def w9(ms:List Mode):Bool:=ms.any fun m=>match m with| .box false=>true|_=>false
def lj:List (AC U)->List U.C->Option (List (Key×ir U))
 |[],[]=>some []
 | .c (.lit _)::r,.lit _::cs=>lj r cs
 | .ref k []::r,.sl τ ys::cs=>match lj r cs with|some us=>some ((k,.arr ⟨τ,ys⟩ true)::us)|none=>none
 |_,_=>none
def gY(tb:o7 U)(l8 n:Nat)(m:Mode)(x:SV U)(dm:List (DV U)):Option (List (Key×ir U)×List (Nat×ir U)):=
 match m,x,dm with
 | .wr,.v ⟨false,[.ref k p]⟩,[.one (.sl τ ys)]=>match tb k with
  |some (.arr a true)=>match Zr p a (fun b=>match iJ b.τ ⟨τ,ys⟩ with|some zs=>some ⟨b.τ,zs⟩|none=>none) with
   |some a'=>some ([(k,.arr a' true)],[])
   |none=>none
  |_=>none
 | .wr,.v ⟨true,cs⟩,[.agg ds]=>match lj cs ds with|some us=>some (us,[])|none=>none
 | .mv,_,[]=>some ([],[])
 | .box true,.v ⟨false,[.j0 k 0]⟩,[.box ds]=>match tb k with
  |some (.box cs)=>bif Nat.beq ds.length n then some ([(k,.box ((putCells l8 true 512 ds).1++cs.drop n))],(putCells l8 true 512 ds).2) else none
  |_=>none
 | .box false,.v ⟨false,[.j0 k 0]⟩,[.box ds]=>match tb k with
  |some (.box cs)=>bif Nat.beq ds.length n then some ([(k,.box (ds.map .c++cs.drop n))],[]) else none
  |_=>none
 |_,_,_=>none
def yt:Mode->List (DV U)->List (DV U)
 | .mv,_=>[]
 |_,ds=>ds.take 1
def u4:Mode->List (DV U)->List (DV U)
 | .mv,ds=>ds
 |_,ds=>ds.drop 1
def k8(tb:o7 U)(aC:List Key)(l8:Nat):List Mode->List (List (Option U.Ty))->List (SV U)->List (DV U)->Option (List (Key×ir U)×List (Nat×ir U)×List Key)
 |[],_,[],[]=>some ([],[],[])
 | .ro::ms,ws,_::r,ds=>k8 tb aC l8 ms ws.tail r ds
 |m::ms,ws,x::r,ds=>match k9 tb aC (ws.headD []) m x,gY tb l8 (ws.headD []).length m x (yt m ds) with
  |some (_,_,ks),some (us,es)=>match k8 tb aC l8 ms ws.tail r (u4 m ds) with
   |some (Le,Yb,ks')=>bif distinct (ks++ks') then some (us++Le,es++Yb,ks++ks') else none
   |none=>none
  |_,_=>none
 |_,_,_,_=>none
def fu:List Mode->List (SV U)->List Key
 | .ro::ms,x::r=>x.keys++fu ms r
 |_::ms,_::r=>fu ms r
 |_,_=>[]
def mc:List Nat->Bool
 |[]=>true
 |n::r=> !(r.any (Nat.beq n))&&mc r
def AI(tb:o7 U)(n:Nat):List Mode->List (List (Option U.Ty))->List (SV U)->Bool
 |m::ms,ws,x::r=>(match m,x with
  | .box _,.v ⟨false,[.j0 k _]⟩=>(match tb k with
   |some (.box cs)=>Nat.beq ((ws.headD []).length+n) cs.length
   |_=>false)
  | .box _,_=>false
  |_,_=>true)&&AI tb n ms ws.tail r
 |_,_,_=>true
def xf(tb:o7 U)(aC:List Key)(dst:Nat)(k:jH U)(types:List TypeId)(xs:List (SV U)):Option (ch U):=
 match mf E tb aC k.md (k.want (types.map E.wP)) xs with
 |some (ps,ds)=>
  match k.of ds with
  |some x=>
   match k8 tb aC dst k.md (k.want (types.map E.wP)) xs (k.mE x).Gg,AN dst (k.mE x).fresh 0 (k.mE x).val with
   |some (us,eb,lk),some (vs,es)=>
    let kH:=(bif sE (k.mE x).fresh (k.mE x).val&& !(w9 k.md) then[] else fu k.md xs)++lk
    bif mc ((es++eb).map (·.1))&& !(lk.any fun u=>(fu k.md xs).any (iw u))&&AI tb k.FW k.md (k.want (types.map E.wP)) xs then
     some ⟨some (match vs with|[v]=> .v v|vs=> .tJ vs),es++eb,kH,us,ps++k.pre x⟩
    else none
   |_,_=>none
  |none=>none
 |none=>none
def DP(τ:U.Ty)(tb:o7 U):AC U->Option (List Prop×List (U.T τ)×List Key×Bool)
 | .e0=>some ([],[],[],true)
 | .ref k []=>match tb k with
  |some (.arr a d)=>match iJ τ a with|some ys=>some ([],ys,[k],d)|none=>none
  |_=>none
 | .c (.sl Cr ys)=>match iJ τ ⟨Cr,ys⟩ with|some ys=>some ([],ys,[],U.flat τ)|none=>none
 |_=>none
def ZT:AC U->AC U
 | .kn _ τ xs=> .c (.sl τ xs)
 |x=>x
def H7(τ:U.Ty)(tb:o7 U)(x:AC U):Option (List Prop×List (U.T τ)×List Key×Bool):=DP τ tb (ZT x)
def yp(τ:U.Ty)(s:ByteArray):Option (List (U.T τ)):=iJ τ ⟨U.nk,s.data.toList.map fun b=>U.ofB (b.toNat:Int)⟩
def rY(τ:U.Ty)(tb:o7 U):AC U->Option (List Prop×List (U.T τ)×List Key×Bool)
 | .e0=>some ([],[],[],true)
 | .ref k []=>match tb k with
  |some (.arr a d)=>match iJ τ a with|some ys=>some ([],ys,[k],d)|none=>none
  |some (.part a dead)=>match iJ τ a with|some ys=>some ([∀i,i<ys.length->dead i=false],ys,[k],true)|none=>none
  |_=>none
 | .sub k _ 0 hi=>match tb k with
  |some (.arr a d)=>match iJ τ a with|some ys=>some ([hi<=ys.length],ys.take hi,[k],d)|none=>none
  |_=>none
 |_=>none
def Ms(E:Env U)(op:BinOp)(t:TypeId)(y:Operand)(x:SV U):Option (ch U):=
 match op,y,x with
 | .eql,.const (.slice none _ _),.v ⟨false,[.kn b _ _]⟩=>match E.P.underlying t with|some (.slice _)=>some (.lit (.bool b))|_=>none
 |_,_,_=>none
def bw:Option Value->Bool
 |some (.bool b)=>b
 |_=>false
def intOf:Option Value->Int
 |some (.int _ n)=>n
 |_=>0
def xS(tb:o7 U)(aC:List Key):List (List (Option U.Ty))->List (SV U)->Option (List Prop×List (DA U))
 |_,[]=>some ([],[])
 |ws,x::r=>match sk tb aC (ws.headD []) x,xS tb aC ws.tail r with
  |some (ps,.one c),some (qs,ds)=>some (ps++qs,⟨false,[c]⟩::ds)
  |some (ps,.agg cs),some (qs,ds)=>some (ps++qs,⟨true,cs⟩::ds)
  |_,_=>none
def partOf(tb:o7 U):AC U->Option (eK U)
 | .ref k []=>match tb k with
  |some (.part a _)=>some a
  |_=>none
 |_=>none
def H8(tb:o7 U)(dst:Nat)(agg:Bool)(n:Nat):AC U->Option (ch U)
 | .kM k [] i wd off=>match tb k with
  |some (.part a dead)=>bif (agg||Nat.beq n 1)&&Nat.ble (off+n) (U.wd a.τ)&&Nat.beq wd (U.wd a.τ) then
    let cs:=((U.enc a.τ (a.xs.getD i (U.eP a.τ))).drop off).take n
    bif ud cs then some (.cE (.v ⟨agg,cs.map .c⟩) [i<a.xs.length,dead i=false])
    else bif Nat.blt n (U.wd a.τ) then some (.cE (.v ⟨agg,gE k [] i wd cs off⟩) [i<a.xs.length,dead i=false])
    else bif mc ((putCells dst true 0 cs).2.map (·.1)) then
     some ⟨some (.v ⟨agg,(putCells dst true 0 cs).1⟩),(putCells dst true 0 cs).2,[],[(k,.part a (fun j=>Nat.beq j i||dead j))],[i<a.xs.length,dead i=false]⟩
    else none
   else none
  |_=>none
 |_=>none
def A9(wd:Nat):List (SV U)->Bool
 |[]=>true
 | .v x::r=>Nat.beq x.cs.length wd&&A9 wd r
 |_=>false
def DM(τ:U.Ty)(tb:o7 U):AC U->Option (List (U.T τ)×List Key)
 | .ref k []=>match tb k with
  |some (.part a _)=>match iJ τ a with|some ys=>some (ys,[k])|none=>none
  |_=>none
 |_=>none
def wN(tb:o7 U)(x:AV U):AC U->Option (ch U)
 | .kM k [] i wd 0=>match tb k with
  |some (.part a dead)=>bif Nat.beq wd (U.wd a.τ)&&Nat.beq x.cs.length wd then
    match eL tb (Dv (U.enc a.τ (a.xs.getD i (U.eP a.τ)))) x.cs with
    |some (qs,ds,ks,true)=>match U.dec a.τ ds with
     |some y=>bif distinct (k::ks) then some ⟨none,[],ks,[(k,.part ⟨a.τ,a.xs.set i y⟩ (fun j=> !(Nat.beq j i)&&dead j))],qs++[i<a.xs.length]⟩ else none
     |none=>none
    |_=>none
   else none
  |_=>none
 |_=>none
def wO(tb:o7 U)(x:AV U):AC U->Option (ch U)
 | .kM k [] i wd off=>match tb k,pH x.cs with
  |some (.part a dead),some vs=>bif Nat.beq wd (U.wd a.τ)&&Nat.ble (off+x.cs.length) wd then
    match Dz off i (vs.map .lit) a with
    |some a'=>some ⟨none,[],[],[(k,.part a' dead)],[i<a.xs.length,dead i=false]⟩
    |none=>none
   else none
  |_,_=>none
 |_=>none
def xT:List (SV U)->Option (List (AV U))
 |[]=>some []
 | .v x::r=>match xT r with|some l=>some (x::l)|none=>none
 |_=>none
def Bq(E:Env U)(tb:o7 U)(aC:List Key)(t:TypeId)(types:List TypeId)(p:List (DA U)->Option Value)(xs:List (SV U)):Option (ch U):=
 match xS tb aC (types.map E.wP) xs with
 |some (ps,ds)=>match E.P.underlying t with
  |some .bool=>some (.lit (.bool (bw (p ds))) (ps++[p ds=some (.bool (bw (p ds)))]))
  |some (.int k)=>some (.lit (.int k (intOf (p ds))) (ps++[p ds=some (.int k (intOf (p ds)))]))
  |_=>none
 |none=>none
def Env.QV(b:Bool)(f:FuncId):Option (jH U):=bif b then E.K0 f else E.K3 f
def xd(b:Bool)(tb:o7 U)(aC:List Key)(o:Oper)(xs:List (SV U)):Option (ch U):=
 let dst:=o.dst.getD 1000000
 match o.op,xs with
 | .move _,[x]=>some (.cE x)
 | .assign _,[x]=>some (.cE x)
 | .unOp op _ _,[x]=>match iC x with
  |some v=>(Gl op v).map (.lit ·)
  |none=>none
 | .binOp op t _ q _,[x,y]=>match iC x,iC y with
  |some a,some b=>(A8 E t op a b).map fun(ps,v)=> .lit v ps
  |_,_=>match NO E op t x y with|some r=>some r|none=>Ms E op t q x
 | .extract _ i,[.tJ l]=>(l[i]?).map fun v=> .cE (.v v)
 | .alloc t,[]=>
  match(E.P.info? t).bind (·.zero) with
  |some z=>match pS (U:=U) z.cells with
   |some (.v x)=>some ⟨some (one (.j0 (dst,0) 0)),[(0,.box x.cs)],[],[],[]⟩
   |_=>none
  |none=>none
 | .load t _,[x]=>match sr x,E.size t,E.isAgg t with
  |some a,some n,some g=>match(bif E.shl t then A6 tb g n a else none) with
   |some r=>some r
   |none=>match loadAt tb aC g n a with
    |some r=>some r
    |none=>H8 tb dst g n a
  |_,_,_=>none
 | .store t _ _,[p,.v x]=>match sr p,E.size t with
  |some a,some n=>bif Nat.beq n x.cs.length then(match storeAt tb aC x a with
   |some r=>some r
   |none=>match wN tb x a with
    |some r=>some r
    |none=>wO tb x a) else none
  |_,_=>none
 | .fieldAddr t _ f,[x]=>match sr x,E.QJ t f with
  |some y,some (o,ft)=>match E.size ft with
   |some (_+1)=>match y with
    | .ia cs=>some (.cE (one (.ia (cs.drop o))))
    | .j0 k off=>some (.cE (one (.j0 k (off+o))))
    | .kM k p i wd off=>bif fg tb aC k p then some (.cE (one (.kM k p i wd (off+o)))) else none
    |_=>none
   |_=>none
  |_,_=>none
 | .field t _ f,[.v ⟨true,cs⟩]=>match E.QJ t f with
  |some (o,ft)=>match E.size ft,E.isAgg ft with
   |some n,some g=>bif Nat.ble (o+n) cs.length&&(g||Nat.beq n 1) then some (.cE (.v ⟨g,(cs.drop o).take n⟩)) else none
   |_,_=>none
  |none=>none
 | .build t parts,xs=>match E.places t,(E.P.info? t).bind (·.zero) with
  |some pl,some z=>match jn (U:=U) z.cells.toList with
   |some l=>match gP pl l (parts.toList.map (·.1)) xs with
    |some cs=>some (.cE (.v ⟨true,cs⟩))
    |none=>none
   |none=>none
  |_,_=>none
 | .buildSlice t len parts,xs=>match E.elem t with
  |some e=>match E.code e with
   |some τ=>bif (parts.toList.map (·.1)).length.beq len&&((parts.toList.map (·.1)).zipIdx).all (fun(a,b)=>Nat.beq a b)&&Nat.ble (len*U.wd τ) 1000000 then
     bif E.fE t dst (xs.flatMap SV.keys) then
      bif A9 (U.wd τ) xs then some ⟨some (one (.ref (dst,0) [])),[(0,.part ⟨τ,List.replicate len (U.eP τ)⟩ (fun _=>true))],[],[],[]⟩ else none
     else match rowsOf τ tb (E.shape 8 e) xs with
     |some (ps,rows,ks,d)=>bif distinct ks then some ⟨some (one (.ref (dst,0) [])),[(0,.arr ⟨τ,rows⟩ d)],ks,[],ps⟩ else none
     |none=>none
    else none
   |none=>none
  |none=>none
 | .makeSlice t _ _,[l,c]=>match E.elem t,iC l,iC c with
  |some e,some (.int .i64 n),some (.int .i64 m)=>match E.code e with
   |some τ=>some ⟨some (one (.ref (dst,0) [])),[(0,.arr ⟨τ,List.replicate n.toNat (U.eP τ)⟩ true)],[],[],[0<=n,n=m,n<=4294967296]⟩
   |none=>none
  |_,_,_=>none
 | .indexAddr t _ _,[x,i]=>match iC i,sr x,(E.elem t).bind E.size with
  |some (.int _ n),some y,some m=>match y with
   | .c (.sl τ ys)=>bif Nat.beq m (U.wd τ) then some (.cE (one (.ia (U.enc τ (ys.getD n.toNat (U.eP τ))))) [0<=n,n.toNat<ys.length]) else none
   | .ref k p=>match oW tb aC (.ref k p) with
    |some (ps,a)=>bif Nat.beq m (U.wd a.τ) then some (.cE (one (.kM k p n.toNat (U.wd a.τ) 0)) (ps++[0<=n,n.toNat<a.xs.length])) else none
    |none=>match p,partOf tb (.ref k []) with
     |[],some a=>bif Nat.beq m (U.wd a.τ) then some (.cE (one (.kM k [] n.toNat (U.wd a.τ) 0)) [0<=n,n.toNat<a.xs.length]) else none
     |_,_=>none
   |_=>none
  |_,_,_=>none
 | .index t _ _,[x,i]=>match iC x,iC i,E.P.underlying t with
  |some (.string s),some (.int _ n),some .string=>some (.lit (.int .u8 ((s.data.toList.getD n.toNat 0).toNat:Int)) [0<=n,n.toNat<s.size])
  |_,_,_=>none
 | .slice t _ lo hi mx,x::bs=>match De lo bs with
  |some (l,bs1)=>match De hi bs1 with
   |some (h,bs2)=>match De mx bs2 with
    |some (m,[])=>sD E tb aC t x l h m
    |_=>none
   |none=>none
  |none=>none
 | .call {callee:=.builtin .len,argTypes,..},[x]=>match argTypes.toList with
  |[t]=>match iC x with
   |some (.string s)=>match E.P.underlying t with
    |some .string=>some (.lit (.int .i64 s.size))
    |_=>none
   |some _=>none
   |none=>match sr x,E.elem t with
    |some .e0,some _=>some (.lit (.int .i64 0))
    |some a,some _=>match oW tb aC a with
     |some (ps,b)=>some (.lit (.int .i64 b.xs.length) ps)
     |none=>match partOf tb a with
      |some b=>some (.lit (.int .i64 b.xs.length))
      |none=>none
    |_,_=>none
  |_=>none
 | .call {callee:=.builtin .clear,argTypes,..},[x]=>match argTypes.toList with
  |[t]=>match E.elem t,sr x with
   |some e,some (.sub k wd lo hi)=>match E.code e,tb k with
    |some τ,some (.part a dead)=>bif Nat.beq wd (U.wd a.τ) then(match iJ τ a with
     |some xs=>some ⟨some (.tJ []),[],[],[(k,.part ⟨τ,xs⟩ (fun j=>dead j||Nat.ble lo j))],[lo<=hi,hi=xs.length]⟩
     |none=>none) else none
    |_,_=>none
   |_,_=>none
  |_=>none
 | .call {callee:=.builtin .min,..},[x,y]=>match iC x,iC y with
  |some (.int k a),some (.int k' b)=>bif decide (k=k') then some (.lit (.int k (if b<a then b else a))) else none
  |_,_=>none
 | .call {callee:=.builtin .max,..},[x,y]=>match iC x,iC y with
  |some (.int k a),some (.int k' b)=>bif decide (k=k') then some (.lit (.int k (if b>a then b else a))) else none
  |_,_=>none
 | .call {callee:=.builtin .append,argTypes,..},[s,x]=>
  match argTypes.toList with
  |[t,u]=>match E.elem t,E.elem u,sr s,sr x with
   |some e,some e',some s,some x=>bif Nat.beq t u&&Nat.beq e e' then
    match E.code e with
    |some τ=>
     match rY τ tb s,H7 τ tb x with
     |some (ps,xs,ks,d),some (qs,ys,ks',d')=>
      bif distinct (ks++ks') then
       some ⟨some (one (.ref (dst,0) [])),[(0,.arr ⟨τ,xs++ys⟩ (d&&d'))],ks++ks',[],ps++qs++[xs.length+ys.length<=4294967296]⟩
      else none
     |some (ps,xs,ks,true),none=>match DM τ tb x with
      |some (ys,ks')=>bif distinct (ks++ks') then
        some ⟨some (one (.ref (dst,0) [])),[(0,.part ⟨τ,xs++ys⟩ (fun i=>Nat.ble xs.length i))],ks++ks',[],ps++[xs.length+ys.length<=4294967296]⟩
       else none
      |none=>none
     |_,_=>none
    |none=>none else none
   |some e,none,some s,some (.c (.lit (.string str)))=>match E.P.underlying u,E.code e with
    |some .string,some τ=>match rY τ tb s,yp τ str with
     |some (ps,xs,ks,d),some ys=>bif distinct ks then
       some ⟨some (one (.ref (dst,0) [])),[(0,.arr ⟨τ,xs++ys⟩ d)],ks,[],ps++[xs.length+ys.length<=4294967296]⟩ else none
     |_,_=>none
    |_,_=>none
   |_,_,_,_=>none
  |_=>none
 | .makeFunc (.func g) first _,xs=>bif first.isEmpty then(match xT xs with|some l=>some (.cE (.Db g l))|none=>none) else none
 | .call {callee:=.value (.tmp _),argTypes,..},.fn p::xs=>Bq E tb aC o.type argTypes.toList p xs
 | .call {callee:=.value (.func f),argTypes,..},xs=>match E.QV b f with
  |some k=>xf E tb aC dst k argTypes.toList xs
  |none=>none
 | .box _ _,[.v x]=>bif sh tb aC x.cs&&(x.agg||Nat.beq x.cs.length 1) then some ⟨some (one (.j0 (dst,0) 0)),[(0,.box x.cs)],[],[],[]⟩ else none
 | .nilCheck _,[x]=>match sr x with
  |some (.ia _)=>some (.cE x)
  |some (.j0 _ _)=>some (.cE x)
  |some (.kM k p _ _ _)=>bif fg tb aC k p then some (.cE x) else none
  |_=>none
 | .convert s d _,[x]=>match E.P.underlying d with
  |some (.int k)=>match E.P.underlying s,iC x with
   |some (.int _),some (.int _ n)=>some (.lit (.int k (k.wrap n)))
   |_,_=>none
  |some .string=>match E.P.underlying s with
   |some (.slice e)=>match E.P.underlying e,sr x with
    |some (.int .u8),some .e0=>some (.lit (.string ByteArray.empty))
    |some (.int .u8),some y=>match oW tb aC y with
     |some (ps,b)=>match iJ U.nk b with
      |some ys=>some (.lit (.string (strOfNums (ys.map U.R1))) ps)
      |none=>none
     |none=>none
    |_,_=>none
   |_=>none
  |_=>none
 |_,_=>none
def Oper.looks(o:Oper):List Operand:=
 match o.op with
 | .build _ ps=>ps.toList.map (·.2)
 | .buildSlice _ _ ps=>ps.toList.map (·.2)
 | .call c=>(match c.callee with| .value (.func _)=>[]| .builtin _=>[]| .value f=>[f]| .invoke r _=>[r])++c.args.toList
 |op=>op.operands.toList
def pi(σ:af U)(o:Oper):Option (List (SV U)):=AG ((Oper.looks o).map (H4 σ))
def oR(σ:af U)(o:Oper):Bool:=match o.dst with|some d=>Nat.blt d σ.n|none=>true
def Cx(x:Option (SV U)):Option Value:=match x with|some y=>iC y|none=>none
def wU(σ:af U)(x:Operand):Option Value:=Cx (H4 σ x)
def kindOk(o:Oper):Bool:=match o.op with
 | .store _ _ _=>o.dst.isNone
 | .alloc _| .box _ _| .buildSlice _ _ _| .makeSlice _ _ _=>o.dst.isSome
 | .call c=>(match c.callee with| .builtin .clear=>true| .builtin _=>o.dst.isSome|_=>true)
 |_=>true
def step(b:Bool)(σ:af U)(o:Oper):Option (ch U×List Key):=
 bif oR σ o&&kindOk o then
  match o.op with
  | .pick c a b=>
   match wU σ c with
   |some (.bool t)=>match(bif t then H4 σ a else H4 σ b) with
    |some x=>some (.cE x,[])
    |none=>none
   |_=>none
  |_=>match pi σ o with
   |some xs=>match xd E b (restrict σ.bH (nJ σ o xs)) σ.aC o xs with
    |some r=>some (r,nJ σ o xs)
    |none=>none
   |none=>none
 else none
def nN(dst:Nat)(l:List (Nat×ir U)):List (Key×Option (ir U)):=l.map fun(j,e)=>((dst,j),some e)
def apply(o:Oper)(r:ch U)(σ:af U):af U:=
 {σ with
  bp:=(match o.dst with|some d=>(d,r.val)::σ.bp|none=>σ.bp)
  mW:=nN (o.dst.getD 1000000) r.du++r.jp.map (fun(k,e)=>(k,some e))++r.kH.map (fun k=>(k,none))++σ.mW
  aC:=r.jp.map (·.1)++σ.aC}
def wM:ch U:=⟨some (.tJ []),[],[],[],[]⟩
structure Rec where
 i:Nat
 reads:List Key
 names:List Key
 writes:List Key
 news:List Key
def ch.news(dst:Nat)(r:ch U):List Key:=r.du.map fun(j,_)=>(dst,j)
def ch.writes(dst:Nat)(r:ch U):List Key:=r.du.map (fun(j,_)=>(dst,j))++r.kH++r.jp.map (·.1)
def ir.names:ir U->List Key
 | .box cs=>cs.flatMap AC.keys
 | .arr _ _=>[]
 | .part _ _=>[]
def ch.names(r:ch U):List Key:=
 (match r.val with|some x=>x.keys|none=>[])++r.du.flatMap (fun(_,e)=>e.names)++r.jp.flatMap (fun(_,e)=>e.names)
def qu(dst:Nat)(r:ch U)(rs:List Rec):Bool:=r.du.isEmpty||rs.all fun x=> !((x.reads++x.names++x.writes).any fun k=>Nat.beq k.1 dst)
def uA(o:Oper)(r:ch U):Bool:=r.du.all fun(j,_)=>Nat.blt j 1024
def meet(a b:List Key):Bool:=a.any fun k=>b.any (iw k)
def amR(ops:List Oper):List Nat:=
 ops.foldl (fun acc o=>acc++[o.after.toList.foldl (fun m e=>bif Region.binds .any e then Nat.lor m (Nat.lor (Nat.shiftLeft 1 e.on) (acc.getD e.on 0)) else m) 0]) []
def vP(m i:Nat):Bool:=Nat.beq (Nat.land (Nat.shiftRight m i) 1) 1
def w_(ops:List Oper)(o:Oper):List Nat:=
 match o.guard with
 |some (g,_)=>match ops[g]? with|some q=>q.dst.toList|none=>[]
 |none=>[]
def slotsOf(ops:List Oper)(o:Oper):List Nat:=
 (o.op.operands.toList.flatMap fun| .tmp t=>[t]|_=>[])++w_ ops o
def Em(ops:List Oper)(x y:Oper)(rx ry:Rec):Bool:=
 !(meet rx.writes (ry.reads++ry.writes))&& !(meet ry.writes rx.reads)&& !(meet rx.news ry.names)&&
 (match x.dst with|some d=> !((slotsOf ops y).any (Nat.beq d))&& !(y.dst.any (Nat.beq d))|none=>true)&&
 (match y.dst with|some d=> !((slotsOf ops x).any (Nat.beq d))|none=>true)
def R6(ops:List Oper):Bool:=ops.zipIdx.all fun(o,i)=>o.after.toList.all fun e=> !(Region.binds .any e)||Nat.blt e.on i
def Ix(ops:List Oper)(aag:List Rec):Bool:=
 let an:=amR ops
 R6 ops&&aag.all fun ry=>aag.all fun rx=>
  !(Nat.blt rx.i ry.i)||vP (an.getD ry.i 0) rx.i||
  (match ops[rx.i]?,ops[ry.i]? with|some x,some y=>Em ops x y rx ry|_,_=>false)
def guards(ops:List Oper)(i:Nat):Bool:=ops.any fun o=>match o.guard with|some (g,_)=>Nat.beq g i|none=>false
def K9:List Prop->Prop->Prop
 |[],q=>q
 |p::ps,q=>p/\K9 ps q
def N1(a b:Bool):Bool:=match a,b with|true,true=>true|false,false=>true|_,_=>false
def Lx(i:Nat)(o:Oper)(σ:af U)(rs:List Rec)(ks:List Key)(K:af U->Rec->Prop)(r:ch U):Prop:=
 bif qu (o.dst.getD 1000000) r rs&&uA o r then K (apply o r σ) ⟨i,ks,r.names,r.writes (o.dst.getD 1000000),r.news (o.dst.getD 1000000)⟩ else False
def VU(r:ch U)(b:Bool):ch U:={r with val:=some (tD (.bool b))}
def FO(alt:Bool)(ops:List Oper)(i:Nat)(o:Oper)(σ:af U)(rs:List Rec)(K:af U->Rec->Prop):Prop:=
 match step E alt σ o with
 |some (r,ks)=>
  K9 r.pre<|
  bif guards ops i then
   match Cx r.val with
   |some (.bool b)=>bif b then Lx i o σ rs ks K (VU r true) else Lx i o σ rs ks K (VU r false)
   |_=>False
  else Lx i o σ rs ks K r
 |none=>False
def acn(o:Oper):Bool:=match o.op with
 | .call {callee:=.value (.func f),..}=>(E.K0 f).isSome
 |_=>false
def FN(ops:List Oper)(i:Nat)(o:Oper)(σ:af U)(rs:List Rec)(K:af U->Rec->Prop):Prop:=
 bif acn E o then FO E false ops i o σ rs K\/FO E true ops i o σ rs K else FO E false ops i o σ rs K
def wpOps(ops:List Oper):List Oper->Nat->af U->List Rec->(af U->List Rec->Prop)->Prop
 |[],_,σ,rs,K=>K σ rs
 |o::rest,i,σ,rs,K=>
  match o.guard with
  |none=>FN E ops i o σ rs fun kY r=>wpOps ops rest (i+1) kY (r::rs) K
  |some (g,want)=>
   match((ops[g]?).bind (·.dst)).bind σ.get with
   |some (.v x)=>match iC (.v x) with
    |some (.bool b)=>bif N1 b want then FN E ops i o σ rs fun kY r=>wpOps ops rest (i+1) kY (r::rs) K
     else bif oR σ o then wpOps ops rest (i+1) (apply o wM σ) (⟨i,[],[],[],[]⟩::rs) K else False
    |_=>False
   |some (.tJ [])=>bif oR σ o then wpOps ops rest (i+1) (apply o wM σ) (⟨i,[],[],[],[]⟩::rs) K else False
   |_=>False
def SV.I9(bad:Key->Bool)(aC:List Key)(x:SV U):Bool:=
 x.yL.any fun a=>a.keys.any bad||(match a with| .ref k p| .kM k p _ _ _=> !p.isEmpty&&aC.any (iw k)|_=>false)
def AC.rV(f:Key->Key):AC U->AC U
 | .ref k p=> .ref (f k) p
 | .sub k wd lo hi=> .sub (f k) wd lo hi
 | .kM k p i wd off=> .kM (f k) p i wd off
 | .j0 k off=> .j0 (f k) off
 |x=>x
def SV.rV(f:Key->Key):SV U->SV U
 | .v x=> .v ⟨x.agg,x.cs.map (AC.rV f)⟩
 | .tJ xs=> .tJ (xs.map fun x=>⟨x.agg,x.cs.map (AC.rV f)⟩)
 | .fn p=> .fn p
 | .Db g xs=> .Db g (xs.map fun x=>⟨x.agg,x.cs.map (AC.rV f)⟩)
def ir.rV(f:Key->Key):ir U->ir U
 | .box cs=> .box (cs.map (AC.rV f))
 |e=>e
def uS{β:Type}:List Nat->List (Nat×Option β)->List (Nat×Option β)
 |_,[]=>[]
 |seen,(s,v)::r=>bif seen.any (Nat.beq s) then uS seen r else match v with
  |some x=>(s,some x)::uS (s::seen) r
  |none=>uS (s::seen) r
def ox{β:Type}:List Key->List (Key×Option β)->List (Key×Option β)
 |_,[]=>[]
 |seen,(s,v)::r=>bif seen.any (iw s) then ox seen r else match v with
  |some x=>(s,some x)::ox (s::seen) r
  |none=>ox (s::seen) r
def rm(bad:Key->Bool)(σ:af U):af U:=
 let ok (x:SV U):Bool:= !(x.I9 (fun k=>bad k||(eo σ.mW k).isNone) σ.aC)
 {σ with
  bp:=(uS [] σ.bp).filter fun(_,v)=>match v with|some (.tJ [])=>false|some x=>ok x|none=>false
  mW:=(ox [] σ.mW).filter fun(k,e)=> !(bad k)&&(match e with|some (.box cs)=>ok (.v ⟨true,cs⟩)|_=>true)
  aC:=[]}
def aaf(d:Nat)(x:SV U):List (Key×Key):=
 (x.yL.zipIdx).flatMap fun(a,j)=>match a with
  | .ref k []| .sub k _ _ _| .j0 k _=>[(k,(d,1024+j))]
  |_=>[]
def uc(l:List (Key×Key))(k:Key):Key:=
 match l with
 |[]=>k
 |(a,b)::r=>bif iw a k then b else uc r k
def rename(l:List (Key×Key))(σ:af U):af U:=
 {σ with
  bp:=σ.bp.map fun(s,v)=>(s,v.map (SV.rV (uc l)))
  mW:=σ.mW.map fun(k,e)=>(uc l k,e.map (ir.rV (uc l)))}
def pD(l0:List (Key×Key))(σ:af U):af U:=
 let l:=l0.filter fun(a,b)=> !(iw a b)&& !(Nat.ble 2000000 a.1&&Nat.blt a.2 1024)
 bif l.isEmpty|| !(distinct (l.map (·.1)))|| !(distinct (l.map (·.2)))|| !(l.all fun(_,b)=>Nat.ble 1024 b.2) then σ else
  let tgt:=l.map (·.2)
  rename l (rm (fun k=>tgt.any (iw k)) σ)
def p_(d:Nat)(σ:af U):af U:=
 match σ.get d with
 |some x=>pD (aaf d x) σ
 |none=>σ
def V4(k:Key)(cs:List (AC U)):List (Key×Key):=
 cs.zipIdx.flatMap fun(a,j)=>match a with
  | .ref q []| .sub q _ _ _=>[(q,(k.1,4096*(k.2+1)+j))]
  |_=>[]
def uX(k:Key)(σ:af U):af U:=
 match σ.bH k with
 |some (.box cs)=>pD (V4 k cs) σ
 |_=>σ
def boxes(σ:af U):List Key:=σ.mW.flatMap fun(k,e)=>match e with|some (.box _)=>[k]|_=>[]
inductive oj where
 |slot (s j:Nat)
 |box (k:Key) (j:Nat)
def oj.key:oj->Key
 | .slot s j=>(s,1024+j)
 | .box k j=>(k.1,4096*(k.2+1)+j)
def Kx:Option (AC U)->Bool
 |some .e0=>true
 |_=>false
def unnamed(k:Key)(σ:af U):Bool:=
 (σ.bp.all fun(_,v)=>match v with|some x=> !(x.keys.any (iw k))|none=>true)&&
 (σ.mW.all fun(_,e)=>match e with|some (.box cs)=> !(cs.any fun a=>a.keys.any (iw k))|_=>true)
def Kn(p:oj)(τ:U.Ty×Bool)(σ:af U):af U:=
 bif (eo σ.mW p.key).isNone&&unnamed p.key σ&&Nat.ble 1024 p.key.2 then
  match p with
  | .slot s j=>match σ.get s with
   |some (.v x)=>bif Kx x.cs[j]? then
     {σ with bp:=(s,some (.v ⟨x.agg,x.cs.set j (.ref p.key [])⟩))::σ.bp,mW:=(p.key,some (.arr ⟨τ.1,[]⟩ τ.2))::σ.mW} else σ
   |_=>σ
  | .box k j=>match σ.bH k with
   |some (.box cs)=>bif Kx cs[j]? then
     {σ with mW:=(p.key,some (.arr ⟨τ.1,[]⟩ τ.2))::(k,some (.box (cs.set j (.ref p.key []))))::σ.mW} else σ
   |_=>σ
 else σ
def oB(k0:Key)(σ:af U):af U:=
 match σ.bH k0 with
 |some (.arr a true)=>{σ with mW:=(k0,some (.part a fun _=>false))::σ.mW}
 |_=>σ
def parts(l:List Key)(σ:af U):af U:=l.foldl (fun σ k=>oB k σ) σ
def AF(k0:Key)(σ:af U):af U:=
 match σ.bH k0 with
 |some (.arr a true)=>{σ with mW:=(k0,some (.arr a false))::σ.mW,aC:=k0::σ.aC}
 |_=>σ
def Km(p:oj)(τ:U.Ty)(σ:af U):af U:=
 match p with
 | .slot s j=>match σ.get s with
  |some (.v x)=>bif Kx x.cs[j]? then{σ with bp:=(s,some (.v ⟨x.agg,x.cs.set j (.c (.sl τ []))⟩))::σ.bp} else σ
  |_=>σ
 | .box k j=>match σ.bH k with
  |some (.box cs)=>bif Kx cs[j]? then{σ with mW:=(k,some (.box (cs.set j (.c (.sl τ [])))))::σ.mW} else σ
  |_=>σ
def Kl:List (oj×U.Ty×Option Bool)->af U->af U
 |[],σ=>σ
 |(p,τ,some d)::r,σ=>Kl r (Kn p (τ,d) σ)
 |(p,τ,none)::r,σ=>Kl r (Km p τ σ)
def assigned(ops:List Oper):List Nat:=ops.flatMap fun o=>match o.op with| .assign _=>o.dst.toList|_=>[]
def je(σ:af U):af U:=rm (fun _=>false) σ
def Ja(l:List Key)(σ:af U):af U:=match l with
 |[]=>σ
 |k::l=>je ((k::l).foldl (fun σ k=>AF k σ) σ)
def uW(l:List Key)(σ:af U):af U:=l.foldl (fun σ k=>uX k σ) σ
def settle(ops:List Oper)(σ:af U):af U:=
 let σ1:=(assigned ops).foldl (fun σ d=>p_ d σ) (je σ)
 uW (boxes σ1) σ1
def yn(ops:List Oper):List Nat:=ops.flatMap fun o=>o.dst.toList
def enter(ops:List Oper)(σ:af U):af U:=let ds:=yn ops;rm (fun k=>(ds.any (Nat.beq k.1)||Nat.beq k.1 1000000)&&Nat.blt k.2 1024) σ
def Eb(k0:Key)(c:U.C):AC U->AC U
 | .ref k []=>bif iw k k0 then .c c else .ref k []
 |x=>x
def Ir(k0:Key)(c:U.C):SV U->SV U
 | .v x=> .v ⟨x.agg,x.cs.map (Eb k0 c)⟩
 |x=>x
def GB(k0:Key)(c:U.C):ir U->ir U
 | .box cs=> .box (cs.map (Eb k0 c))
 |e=>e
def kU(k0:Key)(σ:af U):af U:=
 match σ.bH k0 with
 |some (.arr a _)=>{σ with
   bp:=σ.bp.map fun(s,v)=>(s,v.map (Ir k0 (.sl a.τ a.xs)))
   mW:=(k0,none)::σ.mW.map fun(k,e)=>(k,e.map (GB k0 (.sl a.τ a.xs)))}
 |_=>σ
def qv(s:Nat)(σ:af U):af U:=
 match σ.get s with
 |some (.v ⟨_,[.ref k []]⟩)=>kU k σ
 |_=>σ
def oN(l:List Nat)(σ:af U):af U:=l.foldl (fun σ s=>qv s σ) σ
def Jj(E:Env U)(ops:List Oper):List Nat:=ops.flatMap fun o=>match o.op with
 | .call {callee:=.value (.func f),args,..}=>match E.K3 f with
  |some k=>bif w9 k.md then(k.md.zip args.toList).flatMap fun(m,q)=>match m,q with
    | .ro,.tmp t=>ops.flatMap fun p=>match p.dst,p.op with
     |some d,.move (.tmp v)=>bif Nat.beq d t then[v] else[]
     |_,_=>[]
    |_,_=>[] else[]
  |none=>[]
 |_=>[]
def pR(l:List Key)(σ:af U):af U:=l.foldl (fun σ k=>kU k σ) σ
def rootOf(ops:List Oper)(t:Nat):Nat:=match ops.find? (fun p=>p.dst.any (Nat.beq t)) with
 |some p=>match p.op with
  | .move (.tmp v)=>v
  |_=>t
 |none=>t
def Jy(ops:List Oper)(σ:af U):List Key:=ops.flatMap fun o=>match o.op with
 | .makeFunc _ _ n0=>n0.toList.flatMap fun q=>match q with
  | .tmp t=>match σ.get (rootOf ops t) with
   |some (.v ⟨_,[.j0 k _]⟩)=>match σ.bH k with
    |some (.box cs)=>cs.flatMap fun c=>match c with
     | .ref q []=>[q]
     |_=>[]
    |_=>[]
   |_=>[]
  |_=>[]
 |_=>[]
def Bt(E:Env U)(ops:List Oper)(σ:af U):af U:=pR (Jy ops (oN (Jj E ops) (enter ops σ))) (oN (Jj E ops) (enter ops σ))
def uM(ops:List Oper)(draw:Bool)(σ:af U)(K:af U->Prop):Prop:=
 wpOps E ops ops 0 (Bt E ops σ) [] fun kY rs=>bif !draw||Ix ops rs then K (settle ops kY) else False
inductive Out (U:kz) where
 |normal (σ:af U)
 |exit (id:Nat) (σ:af U)
 |ret (σ:af U)
structure rJ(U:kz) where
 X:Type
 bp:X->List (Nat×SV U)
 cV:X->List (Key×ir U)
 un:af U->(X->Prop)->Prop
 nil:List (oj×U.Ty×Option Bool)
 SF:List Nat
 SG:List Key
 R2:List Key
 R5:List Key
 I:X->X->Prop
 μ:X->Nat
 all:(X->Prop)->Prop
 Ob:∀P,all P->∀y,P y
 names:List Nat
 Za:∀x,∀p∈bp x,p.1∈names
 nin:∀p∈nil,∀s j,p.1=oj.slot s j->s∈names
 law:∀σ K,un σ K->∃x,K x/\(∀p∈bp x,σ.get p.1=some p.2)/\(∀p∈cV x,σ.bH p.1=some p.2)
def rS(l:List Nat)(σ:af U):af U:=l.foldl (fun σ d=>p_ d σ) σ
def WL(σ:af U):List Key:=(boxes σ).filter (fun k=>Nat.blt k.2 1024)++(boxes σ).filter (fun k=>Nat.ble 1024 k.2)
def LF(σ:af U):af U:=uW (WL σ) σ
def B'(A:rJ U)(σ:af U):af U:=parts A.R5<|Kl A.nil (pR A.SG (oN A.SF (Ja A.R2 (je (LF (rS A.names (je σ)))))))
def ig:Code->Option Nat
 | .region id _ _=>some id
 | .seq a b=>match ig a with|some i=>some i|none=>ig b
 | .cond _ a b=>match ig a with|some i=>some i|none=>ig b
 | .block _ b=>ig b
 | .loop b=>ig b
 |_=>none
def Ym(r:Nat)(c:Code):Bool:=match ig c with
 |some i=>Nat.beq i r
 |none=>false
def KY(r:Nat):Code->Option (Code×Code)
 | .seq a b=>bif Ym r b then some (a,b) else match KY r b with
  |some p=>some (.seq a p.1,p.2)
  |none=>none
 |_=>none
def Yh(r:Nat)(c:Code):Code:=match KY r c with
 |some p=>p.1
 |none=> .skip
def Yg(r:Nat)(c:Code):Code:=match KY r c with
 |some p=>p.2
 |none=> .skip
def lg(A:rJ U)(wr:List Nat)(σ:af U)(x:A.X):af U:=
 ⟨σ.n,
  (A.bp x).map (fun(s,v)=>(s,some v))++
   ((uS [] σ.bp).filter fun(s,v)=> !(wr.any (Nat.beq s))&& !(A.names.any (Nat.beq s))&&(match v with|some (.v y)=>(SV.v y).keys.isEmpty|some (.fn _)=>true|_=>false)),
  (A.cV x).map fun(k,e)=>(k,some e),
  []⟩
variable(mU:Nat->Option (rJ U))
def fZ:Code->List Nat
 | .region _ ops _=>yn ops.toList
 | .seq a b=>fZ a++fZ b
 | .cond _ a b=>fZ a++fZ b
 | .block _ b=>fZ b
 | .loop b=>fZ b++(match(ig b).bind mU with|some A=>A.names|none=>[])
 |_=>[]
def wp:Code->af U->(Out U->Prop)->Prop
 | .skip,σ,Q=>Q (.normal σ)
 | .seq a b,σ,Q=>wp a σ fun
  | .normal kY=>wp b kY Q
  |o=>Q o
 | .cond c t e,σ,Q=>match wU σ c with
  |some (.bool b)=>bif b then wp t σ Q else wp e σ Q
  |_=>False
 | .block id c,σ,Q=>wp c σ fun
  | .exit id' kY=>bif Nat.beq id' id then Q (.normal kY) else Q (.exit id' kY)
  |o=>Q o
 | .loop c,σ,Q=>match(ig c).bind mU with
  |some A=>A.un (B' A σ) fun x=>A.I x x/\
    A.all fun y=>A.I x y->wp c (lg A (fZ mU c) σ y) fun
     | .normal kY=>A.un (B' A kY) fun z=>A.I x z/\A.μ z<A.μ y
     |o=>Q o
  |none=>False
 | .exit id,σ,Q=>Q (.exit id σ)
 | .ret,σ,Q=>Q (.ret σ)
 | .region _ ops draw,σ,Q=>uM E ops.toList draw σ fun kY=>Q (.normal kY)
 |_,_,_=>False
end
end
end AM
