import Derived.Calls
import Derived.Orders
import Derived.Laws.AppendOwn
import Derived.Below
import Derived.Laws.BytesArg
namespace AM
theorem aJ:type_of% @List.mem_cons_of_mem:=@List.mem_cons_of_mem
theorem cH:type_of% @List.mem_cons_self:=@List.mem_cons_self
theorem gh:type_of% @List.getD_eq_getElem?_getD:=@List.getD_eq_getElem?_getD
theorem gr:type_of% @List.getElem?_eq_getElem:=@List.getElem?_eq_getElem
theorem eZ:type_of% @Option.some.injEq:=@Option.some.injEq
theorem fY:type_of% @Bool.and_eq_true:=@Bool.and_eq_true
theorem kH:type_of% @Option.isSome_iff_exists:=@Option.isSome_iff_exists
theorem fc:type_of% @Bool.cond_eq_ite:=@Bool.cond_eq_ite
theorem jp:type_of% @Nat.eq_of_beq_eq_true:=@Nat.eq_of_beq_eq_true
theorem lU:type_of% @List.getElem?_eq_none:=@List.getElem?_eq_none
theorem h_:type_of% @List.mem_cons:=@List.mem_cons
theorem mE:type_of% @List.getElem?_map:=@List.getElem?_map
theorem sT:type_of% @List.getElem?_cons_zero:=@List.getElem?_cons_zero
theorem mP:type_of% @List.getElem?_take:=@List.getElem?_take
theorem gA:type_of% @List.mem_append:=@List.mem_append
theorem va:type_of% @List.getElem?_append_right:=@List.getElem?_append_right
theorem u_:type_of% @List.getElem?_append_left:=@List.getElem?_append_left
theorem oE:type_of% @List.mem_append_left:=@List.mem_append_left
theorem pA:type_of% @List.mem_append_right:=@List.mem_append_right
theorem ln:type_of% @List.mem_flatMap:=@List.mem_flatMap
theorem g_:type_of% @List.mem_singleton:=@List.mem_singleton
theorem nH:type_of% @List.nodup_append:=@List.nodup_append
theorem mO:type_of% @List.length_take:=@List.length_take
theorem kG:type_of% @Prod.mk.injEq:=@Prod.mk.injEq
theorem oh:type_of% @List.mem_range:=@List.mem_range
theorem jX:type_of% @List.mem_map:=@List.mem_map
theorem lR:type_of% @Nat.lt_or_ge:=@Nat.lt_or_ge
theorem tW:type_of% @List.any_eq_true:=@List.any_eq_true
theorem u9:type_of% @Nat.mul_le_mul_right:=@Nat.mul_le_mul_right
theorem sS:type_of% @Bool.not_eq_true':=@Bool.not_eq_true'
theorem pH:type_of% @List.nodup_cons:=@List.nodup_cons
theorem yN:type_of% @Bool.false_eq_true:=@Bool.false_eq_true
theorem yG:type_of% @List.eq_nil_of_length_eq_zero:=@List.eq_nil_of_length_eq_zero
theorem mD:type_of% @Bool.false_and:=@Bool.false_and
theorem Al:type_of% @Bool.not_eq_true:=@Bool.not_eq_true
theorem zG:type_of% @List.getElem_of_mem:=@List.getElem_of_mem
theorem Ep:type_of% @List.mem_of_getElem?:=@List.mem_of_getElem?
theorem tV:type_of% @List.flatMap_cons:=@List.flatMap_cons
theorem yM:type_of% @Array.length_toList:=@Array.length_toList
theorem ii:type_of% @List.length_nil:=@List.length_nil
theorem iD:type_of% @List.length_cons:=@List.length_cons
theorem qc:type_of% @List.append_assoc:=@List.append_assoc
theorem qq:type_of% @Bool.and_false:=@Bool.and_false
theorem rl:type_of% @List.map_cons:=@List.map_cons
theorem H6:type_of% @Nat.le_of_ble_eq_true:=@Nat.le_of_ble_eq_true
theorem Eo:type_of% @List.getElem?_drop:=@List.getElem?_drop
theorem oz:type_of% @Nat.zero_add:=@Nat.zero_add
theorem Eg:type_of% @Array.getElem?_toList:=@Array.getElem?_toList
theorem Oy:type_of% @Array.getD_eq_getD_getElem?:=@Array.getD_eq_getD_getElem?
theorem Lq:type_of% @List.flatten_cons:=@List.flatten_cons
theorem og:type_of% @Nat.le_refl:=@Nat.le_refl
theorem FU:type_of% @List.all_eq_true:=@List.all_eq_true
theorem Ak:type_of% @List.flatten_append:=@List.flatten_append
theorem Ef:type_of% @Option.map_some:=@Option.map_some
theorem kF:type_of% @List.length_append:=@List.length_append
theorem rh:type_of% @List.not_mem_nil:=@List.not_mem_nil
theorem CD:type_of% @List.mem_filter:=@List.mem_filter
theorem sI:type_of% @List.append_nil:=@List.append_nil
theorem ta:type_of% @Nat.add_mul:=@Nat.add_mul
theorem J0:type_of% @Option.getD_some:=@Option.getD_some
theorem Av:type_of% @Bool.true_and:=@Bool.true_and
theorem JZ:type_of% @List.getElem?_range:=@List.getElem?_range
theorem HT:type_of% @Bool.eq_iff_iff:=@Bool.eq_iff_iff
theorem Ee:type_of% @Bool.or_eq_true:=@Bool.or_eq_true
theorem wj:type_of% @List.length_map:=@List.length_map
theorem Ox:type_of% @Bool.or_eq_false_iff:=@Bool.or_eq_false_iff
theorem HS:type_of% @List.take_append_drop:=@List.take_append_drop
theorem Lp:type_of% @List.map_congr_left:=@List.map_congr_left
theorem FT:type_of% @List.length_drop:=@List.length_drop
theorem J':type_of% @List.flatMap_def:=@List.flatMap_def
theorem zF:type_of% @List.length_set:=@List.length_set
theorem Aj:type_of% @Nat.add_zero:=@Nat.add_zero
theorem JY:type_of% @Bool.false_or:=@Bool.false_or
theorem Ow:type_of% @List.ext_getElem?:=@List.ext_getElem?
theorem EM:type_of% @List.take_of_length_le:=@List.take_of_length_le
theorem zcz:type_of% @List.take_succ_eq_append_getElem:=@List.take_succ_eq_append_getElem
theorem N6:type_of% @List.getElem_mem:=@List.getElem_mem
theorem N5:type_of% @Bool.and_true:=@Bool.and_true
theorem N4:type_of% @List.sum_cons:=@List.sum_cons
theorem zdd:type_of% @List.cons.injEq:=@List.cons.injEq
theorem En:type_of% @Nat.le_trans:=@Nat.le_trans
theorem Vp:type_of% @Option.getD_none:=@Option.getD_none
theorem zdg:type_of% @List.nodup_iff_pairwise_ne:=@List.nodup_iff_pairwise_ne
theorem Ov:type_of% @List.getElem?_set:=@List.getElem?_set
theorem Ou:type_of% @List.Sublist.refl:=@List.Sublist.refl
theorem Rt:type_of% @List.size_toArray:=@List.size_toArray
theorem zdk:type_of% @Array.getElem?_eq_getElem:=@Array.getElem?_eq_getElem
theorem Ot:type_of% @Nat.add_assoc:=@Nat.add_assoc
theorem zdm:type_of% @List.eq_nil_iff_forall_not_mem:=@List.eq_nil_iff_forall_not_mem
theorem Oq:type_of% @Nat.beq_eq:=@Nat.beq_eq
theorem Oo:type_of% @List.any_map:=@List.any_map
theorem zdp:type_of% @List.getElem?_set_self:=@List.getElem?_set_self
theorem X3:type_of% @List.mem_flatten:=@List.mem_flatten
theorem zdr:type_of% @List.all_cons:=@List.all_cons
theorem MI:type_of% @Nat.lt_of_lt_of_le:=@Nat.lt_of_lt_of_le
theorem Lo:type_of% @List.length_filter_le:=@List.length_filter_le
theorem MH:type_of% @List.nodup_nil:=@List.nodup_nil
theorem zdv:type_of% @List.pairwise_iff_getElem:=@List.pairwise_iff_getElem
theorem On:type_of% @Nat.one_mul:=@Nat.one_mul
theorem X2:type_of% @Option.some.inj:=@Option.some.inj
theorem zdy:type_of% @Option.bind_eq_some_iff:=@Option.bind_eq_some_iff
theorem zdz:type_of% @List.getElem?_replicate:=@List.getElem?_replicate
theorem zea:type_of% @Bool.not_false:=@Bool.not_false
theorem zeb:type_of% @List.find?_eq_none:=@List.find?_eq_none
theorem RR:type_of% @Nat.mul_comm:=@Nat.mul_comm
theorem zed:type_of% @List.getElem?_toArray:=@List.getElem?_toArray
theorem X1:type_of% @List.length_replicate:=@List.length_replicate
theorem Em:type_of% @List.map_append:=@List.map_append
theorem Rs:type_of% @List.any_cons:=@List.any_cons
theorem zeh:type_of% @Bool.or_false:=@Bool.or_false
theorem zei:type_of% @List.getElem?_modify:=@List.getElem?_modify
theorem zej:type_of% @List.getElem?_zipIdx:=@List.getElem?_zipIdx
theorem zek:type_of% @List.getElem?_set_ne:=@List.getElem?_set_ne
theorem zel:type_of% @List.drop_eq_getElem_cons:=@List.drop_eq_getElem_cons
theorem zem:type_of% @List.sublist_append_right:=@List.sublist_append_right
theorem Vo:type_of% @List.flatMap_nil:=@List.flatMap_nil
theorem zeo:type_of% @Array.toList_map:=@Array.toList_map
theorem N3:type_of% @List.flatMap_append:=@List.flatMap_append
theorem Vn:type_of% @Nat.ble_eq:=@Nat.ble_eq
theorem zer:type_of% @List.sublist_append_left:=@List.sublist_append_left
theorem X0:type_of% @List.all_nil:=@List.all_nil
theorem zet:type_of% @List.sum_append:=@List.sum_append
theorem zeu:type_of% @Int.toNat_natCast:=@Int.toNat_natCast
theorem Rr:type_of% @Nat.sub_self:=@Nat.sub_self
theorem zew:type_of% @Nat.add_comm:=@Nat.add_comm
theorem zex:type_of% @List.cons_append:=@List.cons_append
theorem zey:type_of% @List.flatten_nil:=@List.flatten_nil
theorem zez:type_of% @Nat.div_eq_of_lt:=@Nat.div_eq_of_lt
theorem zfa:type_of% @Bool.not_true:=@Bool.not_true
set_option linter.unusedVariables false
noncomputable section
open Go
inductive Cell (Ty:Type) (T:Ty->Type) where
 |lit (v:Value)
 |sl (τ:Ty) (xs:List (T τ))
structure jO where
 Ty:Type
 T:Ty->Type
 deq:DecidableEq Ty
 wd:Ty->Nat
 enc:(τ:Ty)->T τ->List (Cell Ty T)
 dec:(τ:Ty)->List (Cell Ty T)->Option (T τ)
 dt:(τ:Ty)->T τ
 flat:Ty->Bool
 ka:∀τ,0<wd τ
 cP:∀τ x,(enc τ x).length=wd τ
 jn:∀τ cs x,dec τ cs=some x->enc τ x=cs
 L_:∀τ,flat τ=true->∀x c,c∈enc τ x->∃v,c=.lit v
 om:Ty
 Vs:T om->Int
 ofB:Int->T om
 Ls:∀n,Vs (ofB n)=n
 Fz:∀x,enc om x=[.lit (.int .u8 (Vs x))]
abbrev jO.C(U:jO):=Cell U.Ty U.T
structure fK(U:jO) where
 τ:U.Ty
 xs:List (U.T τ)
abbrev Key:=Nat×Nat
abbrev Path:=List (Nat×Nat×Nat)
inductive AC (U:jO) where
 |c (x:U.C)
 |e0
 |ref (k:Key) (p:Path)
 |sub (k:Key) (wd lo hi:Nat)
 |iC (k:Key) (p:Path) (i wd off:Nat)
 |ji (k:Key) (off:Nat)
 |ia (cs:List U.C)
 |kn (b:Bool) (τ:U.Ty) (xs:List (U.T τ))
structure AV(U:jO) where
 agg:Bool
 cs:List (AC U)
structure DA(U:jO) where
 agg:Bool
 cs:List U.C
inductive SV (U:jO) where
 |v (x:AV U)
 |tX (xs:List (AV U))
 |fn (p:List (DA U)->Option Value)
 |El (g:FuncId) (oe:List (AV U))
inductive eX (U:jO) where
 |arr (a:fK U) (deep:Bool)
 |box (cs:List (AC U))
 |part (a:fK U) (dead:Nat->Bool)
 |nA (a:fK U) (i:Nat) (x:AC U)
 |li (a:fK U)
 |Dw (a:fK U) (i:Nat)
 |fz (a:fK U)
def eX.wk{U:jO}:eX U->Bool
 | .li _=>true
 | .Dw _ _=>true
 | .fz _=>true
 |_=>false
structure ah(U:jO) where
 n:Nat
 bw:List (Nat×Option (SV U))
 iZ:List (Key×Option (eX U))
 ay:List Key
def look{β:Type}(l:List (Nat×Option β))(s:Nat):Option β:=
 match l with
 |[]=>none
 |(t,v)::r=>bif Nat.beq t s then v else look r s
def fU(a b:Key):Bool:=Nat.beq a.1 b.1&&Nat.beq a.2 b.2
def cm{β:Type}(l:List (Key×Option β))(k:Key):Option β:=
 match l with
 |[]=>none
 |(t,v)::r=>bif fU t k then v else cm r k
def ah.get{U:jO}(σ:ah U)(s:Nat):Option (SV U):=look σ.bw s
def ah.aU{U:jO}(σ:ah U)(k:Key):Option (eX U):=cm σ.iZ k
inductive DV (U:jO) where
 |one (c:U.C)
 |agg (cs:List U.C)
 |box (cs:List U.C)
 |ptr (cs:List U.C)
 |fn (p:List (DA U)->Option Value)
inductive Mode where
 |ro|wr|mv
 |box (own:Bool)
 deriving DecidableEq
structure Res(U:jO) where
 val:List (DV U)
 fresh:List Bool
 Kz:List (DV U)
structure kq(U:jO) where
 α:Type
 md:List Mode
 of:List (DV U)->Option α
 ds:α->List (DV U)
 pre:α->List Prop
 ot:α->Res U
 law:∀l x,of l=some x->ds x=l
 LA:Nat:=0
 cut:Nat:=0
def kq.want{U:jO}(k:kq U)(ws:List (List (Option U.Ty))):List (List (Option U.Ty)):=match k.cut with
 |0=>ws
 |n+1=>ws.map (List.take (n+1))
structure Rh(U:jO) where
 τ:U.Ty
 g:FuncId
 S:List (U.T τ)->List (U.T τ)
structure Env(U:jO) where
 P:Program
 tid:U.Ty->TypeId
 code:TypeId->Option U.Ty
 NU:FuncId->Option (kq U)
 NT:FuncId->Option (kq U):=fun _=>none
 CE:List (Nat×Array Value):=[]
 cI:TypeId->Nat->List Key->Bool:=fun _ _ _=>false
 shl:TypeId->Bool:=fun _=>false
 opn:TypeId->Nat->Bool:=fun _ _=>false
 Wa:FuncId->Option U.Ty:=fun _=>none
 raw:FuncId->List (SV U)->Option (List Prop×List (AC U)):=fun _ _=>none
 Vt:FuncId->Option (Rh U):=fun _=>none
section
variable{U:jO}(E:Env U)
def Env.isAgg(t:TypeId):Option Bool:=match E.P.underlying t with|some (.struct _)=>some true|some (.array _ _)=>some true|some _=>some false|none=>none
def Env.size(t:TypeId):Option Nat:=(E.P.info? t).map (·.size)
def Env.elem(t:TypeId):Option TypeId:=match E.P.underlying t with|some (.slice e)=>some e|_=>none
def Env.Ug(t:TypeId)(f:Nat):Option (Nat×TypeId):=match E.P.underlying t with|some (.struct fs)=>(fs[f]?).map fun f=>(f.offset,f.type)|_=>none
def Env.shape:Nat->TypeId->List (Option U.Ty)
 |0,_=>[]
 |d+1,t=>match E.P.underlying t with
  |some (.struct fs)=>fs.toList.flatMap fun f=>Env.shape d f.type
  |some (.slice e)=>[E.code e]
  |_=>[none]
def Env.yU(t:TypeId):List (Option U.Ty):=match E.P.underlying t with
 |some (.pointer e)=>E.shape 8 e
 |_=>E.shape 8 t
def walk:Path->fK U->Option (List Prop×fK U)
 |[],a=>some ([],a)
 |(i,wd,j)::p,a=>
  bif Nat.beq wd (U.wd a.τ) then
   match(U.enc a.τ (a.xs.getD i (U.dt a.τ)))[j]? with
   |some (.sl τ xs)=>match walk p ⟨τ,xs⟩ with
    |some (ps,b)=>some ((i<a.xs.length)::ps,b)
    |none=>none
   |_=>none
  else none
def Vz(τ:U.Ty)(g:List U.C->List U.C)(x:U.T τ):U.T τ:=match U.dec τ (g (U.enc τ x)) with|some y=>y|none=>x
def Gi(τ:U.Ty)(xs:List (U.T τ))(i:Nat)(g:List U.C->List U.C):List (U.T τ):=xs.modify i (Vz τ g)
theorem adC{τ:U.Ty}{xs:List (U.T τ)}{i:Nat}{g:List U.C->List U.C}{y:U.T τ}(h:U.dec τ (g (U.enc τ (xs.getD i (U.dt τ))))=some y):Gi τ xs i g=xs.set i y:=by
 unfold Gi
 refine Ow fun j=> ?_
 rw[zei,Ov]
 by_cases hj:i=j
 ·subst hj
  rw[if_pos rfl]
  by_cases hi:i<xs.length
  ·rw[if_pos hi,gr hi]
   rw[gh,gr hi] at h
   simp only[J0] at h
   simp[Vz,h]
  ·rw[if_neg hi,lU (by omega)];rfl
 ·rw[if_neg hj]
  simp[hj]
def chg:Path->fK U->(fK U->Option (fK U))->Option (fK U)
 |[],a,f=>f a
 |(i,_,j)::p,a,f=>
  let cs:=U.enc a.τ (a.xs.getD i (U.dt a.τ))
  match cs[j]? with
  |some (.sl τ xs)=>
   match chg p ⟨τ,xs⟩ f with
   |some b=>match U.dec a.τ (cs.set j (.sl b.τ b.xs)) with
    |some _=>some ⟨a.τ,Gi a.τ a.xs i (fun cs=>cs.set j (.sl b.τ b.xs))⟩
    |none=>none
   |none=>none
  |_=>none
def dC(τ:U.Ty)(a:fK U):Option (List (U.T τ)):=
 match U.deq a.τ τ with
 | .isTrue h=>some (h▸a.xs)
 | .isFalse _=>none
abbrev mG(U:jO):=Key->Option (eX U)
structure bz(U:jO) where
 val:Option (SV U)
 ct:List (Nat×eX U)
 gH:List Key
 fM:List (Key×eX U)
 pre:List Prop
 soft:List Key
def bz.cv(v:SV U)(pre:List Prop:=[]):bz U:=⟨some v,[],[],[],pre,[]⟩
def one(x:AC U):SV U:=.v ⟨false,[x]⟩
def uX(v:Value):SV U:=one (.c (.lit v))
def bz.lit(v:Value)(pre:List Prop:=[]):bz U:=.cv (uX v) pre
def eg(tb:mG U)(ay:List Key)(k:Key)(p:Path):Bool:=p.isEmpty||((tb k).isSome&& !(ay.any (fU k)))
def DT(tb:mG U)(ay:List Key):AC U->Bool
 | .ref k p=>eg tb ay k p
 | .iC k p _ _ _=>eg tb ay k p
 |_=>true
def tK(tb:mG U)(ay:List Key)(cs:List (AC U)):Bool:=cs.all (DT tb ay)
def p7(tb:mG U)(ay:List Key):AC U->Option (List Prop×fK U)
 | .c (.sl τ xs)=>some ([],⟨τ,xs⟩)
 | .kn _ τ xs=>some ([],⟨τ,xs⟩)
 | .ref k p=>match tb k with
  |some (.arr a _)=>bif eg tb ay k p then walk p a else none
  |some (.li a)=>bif eg tb ay k p then walk p a else none
  |_=>none
 | .sub k wd lo hi=>match tb k with
  |some (.arr a _)=>bif Nat.beq wd (U.wd a.τ) then some ([hi<=a.xs.length],⟨a.τ,(a.xs.take hi).drop lo⟩) else none
  |_=>none
 |_=>none
def zv(tb:mG U)(ay:List Key):AC U->Option (List Prop×fK U)
 | .ref k ((i,wd,j)::p)=>match tb k with
  |some (.part a dead)=>bif eg tb ay k ((i,wd,j)::p) then(match walk ((i,wd,j)::p) a with|some (ps,b)=>some ((dead i=false)::ps,b)|none=>none) else none
  |_=>none
 |_=>none
def cellOf(tb:mG U)(ay:List Key)(want:Option U.Ty):AC U->Option (List Prop×U.C)
 | .c x=>some ([],x)
 | .e0=>match want with|some τ=>some ([],.sl τ [])|none=>none
 |x=>match p7 tb ay x with
  |some (ps,a)=>some (ps,.sl a.τ a.xs)
  |none=>match zv tb ay x with
   |some (ps,a)=>some (ps,.sl a.τ a.xs)
   |none=>none
def cellsOf(tb:mG U)(ay:List Key):List (Option U.Ty)->List (AC U)->Option (List Prop×List U.C)
 |_,[]=>some ([],[])
 |ws,x::r=>
  match cellOf tb ay (ws.head?.bind id) x,cellsOf tb ay ws.tail r with
  |some (ps,c),some (qs,cs)=>some (ps++qs,c::cs)
  |_,_=>none
def nM(tb:mG U)(want:Option U.Ty):AC U->Option (List Prop×U.C×List Key×Bool)
 | .c (.lit v)=>some ([],.lit v,[],true)
 | .c (.sl τ xs)=>some ([],.sl τ xs,[],false)
 | .e0=>match want with|some τ=>some ([],.sl τ [],[],true)|none=>none
 | .ref k []=>match tb k with
  |some (.arr a d)=>some ([],.sl a.τ a.xs,[k],d)
  |some (.part a dead)=>some ([∀i,i<a.xs.length->dead i=false],.sl a.τ a.xs,[k],true)
  |_=>none
 | .sub k _ 0 hi=>match tb k with
  |some (.arr a d)=>some ([hi<=a.xs.length],.sl a.τ (a.xs.take hi),[k],d)
  |some (.part a dead)=>some ([hi<=a.xs.length,∀i,i<hi->dead i=false],.sl a.τ (a.xs.take hi),[k],true)
  |_=>none
 |_=>none
def dy(tb:mG U):List (Option U.Ty)->List (AC U)->Option (List Prop×List U.C×List Key×Bool)
 |_,[]=>some ([],[],[],true)
 |ws,x::r=>
  match nM tb (ws.head?.bind id) x,dy tb ws.tail r with
  |some (ps,c,ks,d),some (qs,cs,ks',d')=>some (ps++qs,c::cs,ks++ks',d&&d')
  |_,_=>none
def distinct:List Key->Bool
 |[]=>true
 |k::r=> !(r.any (fU k))&&distinct r
def C8(t:TypeId)(op:BinOp)(x y:Value):Option (List Prop×Value):=
 match x,y with
 | .int k a,.int k' b=>
  match op with
  | .shl=>some ([0<=b],.int k (k.wrap (a*2^(min b.toNat k.bits))))
  | .shr=>some ([0<=b],.int k (a.fdiv (2^(min b.toNat k.bits))))
  |op=>bif decide (k=k') then(match op with
   | .add=>some ([],.int k (k.wrap (a+b)))
   | .sub=>some ([],.int k (k.wrap (a-b)))
   | .mul=>some ([],.int k (k.wrap (a*b)))
   | .quo=>some ([b≠0],.int k (k.wrap (a.tdiv b)))
   | .rem=>some ([b≠0],.int k (a.tmod b))
   | .and=>some ([],.int k (k.wrap (BitVec.ofInt k.bits a&&&BitVec.ofInt k.bits b).toNat))
   | .or=>some ([],.int k (k.wrap (BitVec.ofInt k.bits a|||BitVec.ofInt k.bits b).toNat))
   | .xor=>some ([],.int k (k.wrap (BitVec.ofInt k.bits a^^^BitVec.ofInt k.bits b).toNat))
   | .eql=>some ([],.bool (a==b))
   | .neq=>some ([],.bool (a !=b))
   | .lss=>some ([],.bool (decide (a<b)))
   | .leq=>some ([],.bool (decide (a<=b)))
   | .gtr=>some ([],.bool (decide (a>b)))
   | .geq=>some ([],.bool (decide (a≥b)))
   |_=>none) else none
 | .string a,.string b=>
  match op with
  | .add=>some ([(a.size+b.size:Nat)<=(4611686018427387904:Nat)],.string (a++b))
  | .eql=>some ([],.bool (a.toList==b.toList))
  | .neq=>some ([],.bool (!(a.toList==b.toList)))
  | .lss=>some ([],.bool (Op.bytesLess a.toList b.toList))
  | .leq=>some ([],.bool (Op.bytesLess a.toList b.toList||a.toList==b.toList))
  | .gtr=>some ([],.bool (!(Op.bytesLess a.toList b.toList||a.toList==b.toList)))
  | .geq=>some ([],.bool (!(Op.bytesLess a.toList b.toList)))
  |_=>none
 | .bool a,.bool b=>
  match E.P.underlying t with
  |some .bool=>match op with
   | .eql=>some ([],.bool (a==b))
   | .neq=>some ([],.bool (!(a==b)))
   |_=>none
  |_=>none
 |_,_=>none
def Env.K5:Nat->TypeId->List Value->List Value->Option Bool
 |0,_,_,_=>none
 |d+1,t,xs,ys=>match E.P.underlying t with
  |some (.struct fs)=>bif E.P.stoodInHeld t then none else
    fs.toList.foldr (fun f acc=>match E.size f.type,E.isAgg f.type,acc with
     |some n,some g,some r=>bif f.name != "_" &&Nat.ble (f.offset+n) xs.length&&Nat.ble (f.offset+n) ys.length&&(g||Nat.beq n 1) then
       (match Env.K5 d f.type ((xs.drop f.offset).take n) ((ys.drop f.offset).take n) with
       |some b=>some (b&&r)
       |none=>none) else none
     |_,_,_=>none) (some true)
  |some .bool=>match xs,ys with|[.bool a],[.bool b]=>some (a==b)|_,_=>none
  |some (.int _)=>match xs,ys with|[.int k a],[.int k' b]=>bif decide (k=k') then some (a==b) else none|_,_=>none
  |some .string=>match xs,ys with|[.string a],[.string b]=>some (a.toList==b.toList)|_,_=>none
  |_=>none
def qP:List (AC U)->Option (List Value)
 |[]=>some []
 | .c (.lit v)::r=>match qP r with|some l=>some (v::l)|none=>none
 |_=>none
def QF(op:BinOp)(t:TypeId)(x y:SV U):Option (bz U):=match x,y with
 | .v ⟨true,xs⟩,.v ⟨true,ys⟩=>match qP xs,qP ys with
  |some us,some vs=>match E.isAgg t with
   |some true=>bif E.P.eqGuardType E.P.depth t then none else(match op,E.K5 8 t us vs with
    | .eql,some b=>some (bz.lit (.bool b))
    | .neq,some b=>some (bz.lit (.bool (!b)))
    |_,_=>none)
   |_=>none
  |_,_=>none
 |_,_=>none
def IC(op:UnOp)(x:Value):Option Value:=
 match op,x with
 | .neg,.int k n=>some (.int k (k.wrap (0-n)))
 | .not,.bool b=>some (.bool (!b))
 |_,_=>none
def oD:Value->Option (AC U)
 | .slice none 0 0=>some .e0
 | .pointer none=>some (.c (.lit (.pointer none)))
 | .int k n=>bif decide (k.min<=n)&&decide (n<=k.max) then some (.c (.lit (.int k n))) else none
 | .bool b=>some (.c (.lit (.bool b)))
 | .string s=>bif Nat.ble s.size 9223372036854775807 then some (.c (.lit (.string s))) else none
 |_=>none
def iW:List Value->Option (List (AC U))
 |[]=>some []
 |v::r=>match oD v,iW r with
  |some x,some l=>some (x::l)
  |_,_=>none
def rb(cs:Array Value):Option (SV U):=match iW cs.toList with|some l=>some (.v ⟨true,l⟩)|none=>none
def GR:Value->Option (SV U)
 | .agg cs=>rb cs
 |v=>match oD v with|some x=>some (one x)|none=>none
def Ku(σ:ah U):Operand->Option (SV U)
 | .tmp t=>σ.get t
 | .const v=>GR v
 | .global _=>none
 | .func g=>some (.El g [])
def AC.keys:AC U->List Key
 | .c _| .e0| .ia _| .kn _ _ _=>[]
 | .ref k _| .sub k _ _ _| .iC k _ _ _ _| .ji k _=>[k]
def SV.xE:SV U->List (AC U)
 | .v x=>x.cs
 | .tX xs=>xs.flatMap (·.cs)
 | .fn _=>[]
 | .El _ xs=>xs.flatMap (·.cs)
def SV.keys(x:SV U):List Key:=x.xE.flatMap AC.keys
def ah.AL(σ:ah U)(k:Key):List Key:=
 match σ.aU k with
 |some (.box cs)=>cs.flatMap AC.keys
 |_=>[]
def reach(σ:ah U)(xs:List (SV U)):List Key:=
 let ks:=xs.flatMap SV.keys
 ks++ks.flatMap σ.AL
def LF(o:Oper):Bool:=match o.op with
 | .nilCheck _=>true
 | .fieldAddr _ _ _=>true
 | .load _ _=>true
 |_=>false
def Lr(o:Oper):Bool:=match o.op with
 | .move _=>true
 | .assign _=>true
 |_=>false
def oM(σ:ah U)(o:Oper)(xs:List (SV U)):List Key:=bif Lr o then[] else bif LF o then xs.flatMap SV.keys else reach σ xs
def restrict(tb:mG U)(ks:List Key):mG U:=fun k=>bif ks.any (fU k) then tb k else none
def gz(k:Key)(p:Path)(i wd:Nat):List U.C->Nat->List (AC U)
 |[],_=>[]
 | .lit v::r,j=> .c (.lit v)::gz k p i wd r (j+1)
 | .sl _ _::r,j=> .ref k (p++[(i,wd,j)])::gz k p i wd r (j+1)
def ID(tb:mG U)(ay:List Key)(agg:Bool)(n:Nat)(k:Key)(p:Path)(i wd off:Nat)(a:fK U):Option (bz U):=
 bif eg tb ay k p then
  match walk p a with
  |some (ps,b)=>
   bif Nat.ble (off+n) (U.wd b.τ)&&Nat.beq wd (U.wd b.τ) then
    some (.cv (.v ⟨agg,gz k p i wd (((U.enc b.τ (b.xs.getD i (U.dt b.τ))).drop off).take n) off⟩) (ps++[i<b.xs.length]))
   else none
  |none=>none
 else none
def loadAt(tb:mG U)(ay:List Key)(agg:Bool)(n:Nat)(x:AC U):Option (bz U):=
 bif agg||Nat.beq n 1 then
  match x with
  | .ia cs=>bif Nat.ble n cs.length then some (.cv (.v ⟨agg,(cs.take n).map .c⟩)) else none
  | .ji k off=>match tb k with
   |some (.box cs)=>bif Nat.ble (off+n) cs.length then some (.cv (.v ⟨agg,(cs.drop off).take n⟩)) else none
   |_=>none
  | .iC k p i wd off=>match tb k with
   |some (.arr a _)=>ID tb ay agg n k p i wd off a
   |some (.li a)=>ID tb ay agg n k p i wd off a
   |_=>none
  |_=>none
 else none
def C6(tb:mG U)(agg:Bool)(n:Nat):AC U->Option (bz U)
 | .iC k [] i wd off=>match tb k with
  |some (.arr a false)=>bif (agg||Nat.beq n 1)&&Nat.ble (off+n) (U.wd a.τ)&&Nat.beq wd (U.wd a.τ) then
    some (.cv (.v ⟨agg,(((U.enc a.τ (a.xs.getD i (U.dt a.τ))).drop off).take n).map .c⟩) [i<a.xs.length]) else none
  |_=>none
 |_=>none
def yO:List U.C->List (Option U.Ty)
 |[]=>[]
 | .sl τ _::r=>some τ::yO r
 | .lit _::r=>none::yO r
def F5(off i:Nat)(ds:List U.C)(b:fK U):Option (fK U):=
 let cs:=U.enc b.τ (b.xs.getD i (U.dt b.τ))
 match U.dec b.τ (cs.take off++ds++cs.drop (off+ds.length)) with
 |some y=>some ⟨b.τ,bif Nat.beq ds.length (U.wd b.τ) then b.xs.set i y else Gi b.τ b.xs i (fun cs=>cs.take off++ds++cs.drop (off+ds.length))⟩
 |none=>none
theorem ZI(off i:Nat)(ds:List U.C)(b:fK U):F5 off i ds b=match U.dec b.τ ((U.enc b.τ (b.xs.getD i (U.dt b.τ))).take off++ds++(U.enc b.τ (b.xs.getD i (U.dt b.τ))).drop (off+ds.length)) with|some y=>some ⟨b.τ,b.xs.set i y⟩|none=>none:=by
 unfold F5
 simp only
 split
 ·rename_i y h
  cases Nat.beq ds.length (U.wd b.τ)
  ·simp only[cond_false];rw[adC h]
  ·rfl
 ·rfl
def mX:List U.C->Bool
 |[]=>true
 | .lit (.int _ _)::r=>mX r
 | .lit (.bool _)::r=>mX r
 | .lit (.string _)::r=>mX r
 |_=>false
def storeAt(tb:mG U)(ay:List Key)(x:AV U):AC U->Option (bz U)
 | .ji k off=>match tb k with
  |some (.box cs)=>bif Nat.ble (off+x.cs.length) cs.length then
    some ⟨none,[],[],[(k,.box (cs.take off++x.cs++cs.drop (off+x.cs.length)))],[],[]⟩ else none
  |_=>none
 | .iC k p i wd off=>match tb k with
  |some (.arr a d)=>bif eg tb ay k p then
    match walk p a with
    |some (ps,b)=>match dy tb (yO ((U.enc b.τ (b.xs.getD i (U.dt b.τ))).drop off)) x.cs with
     |some (qs,ds,ks,d')=>match chg p a (F5 off i ds) with
      |some a'=>bif Nat.beq wd (U.wd b.τ)&&Nat.ble (off+ds.length) (U.wd b.τ)&&distinct (k::ks)&&((d&&d')||p.isEmpty) then
        some ⟨none,[],ks,[(k,.arr a' (d&&d'))],ps++qs++[i<b.xs.length],bif ks.isEmpty&&d&&d'&&mX (((U.enc b.τ (b.xs.getD i (U.dt b.τ))).drop off).take ds.length) then[k] else[]⟩ else none
      |none=>none
     |none=>none
    |none=>none
   else none
  |_=>none
 |_=>none
def plain:List (AC U)->Option (List U.C)
 |[]=>some []
 | .c x::r=>match plain r with|some l=>some (x::l)|none=>none
 |_=>none
def vz:List U.C->Bool
 |[]=>true
 | .lit _::r=>vz r
 |_=>false
def rowsOf(τ:U.Ty)(tb:mG U)(want:List (Option U.Ty)):List (SV U)->Option (List Prop×List (U.T τ)×List Key×Bool)
 |[]=>some ([],[],[],true)
 | .v x::r=>
  match dy tb want x.cs,rowsOf τ tb want r with
  |some (ps,cs,ks,d),some (qs,xs,ks',d')=>
   match U.dec τ cs with
   |some y=>some (ps++qs,y::xs,ks++ks',d&&d')
   |none=>none
  |_,_=>none
 |_=>none
def Env.Ks(t:TypeId):Option (List (Nat×Nat)):=match E.P.underlying t with
 |some (.struct fs)=>fs.toList.mapM (fun f=>(E.P.info? f.type).map fun i=>(f.offset,i.size))
 |_=>none
def gK(pl:List (Nat×Nat))(cells:List (AC U)):List Nat->List (SV U)->Option (List (AC U))
 |[],[]=>some cells
 |f::fs,.v x::r=>match pl[f]? with
  |some (off,n)=>bif Nat.beq x.cs.length n&&Nat.ble (off+n) cells.length then gK pl (cells.take off++x.cs++cells.drop (off+n)) fs r else none
  |none=>none
 |_,_=>none
def ie :SV U->Option Value
 | .v ⟨false,[.c (.lit v)]⟩=>some v
 |_=>none
def sd :SV U->Option (AC U)
 | .v ⟨false,[x]⟩=>some x
 |_=>none
def CK{α:Type}:List (Option α)->Option (List α)
 |[]=>some []
 |some x::r=>match CK r with|some l=>some (x::l)|none=>none
 |none::_=>none
def bound:Option Operand->List (SV U)->Option (Option Int×List (SV U))
 |none,bs=>some (none,bs)
 |some _,b::bs=>match ie b with
  |some (.int _ n)=>some (some n,bs)
  |_=>none
 |some _,[]=>none
def tY(tb:mG U)(ay:List Key)(t:TypeId)(x:SV U)(l h m:Option Int):Option (bz U):=
 match m with
 |some mm=>match h,sd x,(E.elem t).bind E.size with
  |some hh,some y,some _=>match p7 tb ay y with
   |some (ps,_)=>some (.cv (one .e0) (ps++[mm=0,hh=0,l.getD 0=0]))
   |none=>match y with
    | .e0=>some (.cv (one .e0) [mm=0,hh=0,l.getD 0=0])
    |_=>none
  |_,_,_=>none
 |none=>match ie x with
  |some (.string s)=>match E.P.underlying t with
   |some .string=>some (.lit (.string (s.extract (l.getD 0).toNat (h.getD s.size).toNat)) [0<=l.getD 0,l.getD 0<=h.getD s.size,h.getD s.size<=s.size])
   |_=>none
  |some _=>none
  |none=>match sd x,(E.elem t).bind E.size with
   |some (.c (.sl τ ys)),some n=>bif Nat.beq n (U.wd τ) then
     some (.cv (one (.c (.sl τ ((ys.take (h.getD ys.length).toNat).drop (l.getD 0).toNat)))) [0<=l.getD 0,l.getD 0<=h.getD ys.length,h.getD ys.length<=ys.length]) else none
   |some (.ref k []),some n=>match tb k with
    |some (.arr r _)=>bif Nat.beq n (U.wd r.τ) then
      some (.cv (one (.sub k (U.wd r.τ) (l.getD 0).toNat (h.getD r.xs.length).toNat)) [0<=l.getD 0,l.getD 0<=h.getD r.xs.length,h.getD r.xs.length<=r.xs.length]) else none
    |some (.part r _)=>bif Nat.beq n (U.wd r.τ) then
      some (.cv (one (.sub k (U.wd r.τ) (l.getD 0).toNat (h.getD r.xs.length).toNat)) [0<=l.getD 0,l.getD 0<=h.getD r.xs.length,h.getD r.xs.length<=r.xs.length]) else none
    |_=>none
   |_,_=>none
def tM(tb:mG U)(ay:List Key)(want:List (Option U.Ty))(x:SV U):Option (List Prop×DV U):=
 match x with
 | .v ⟨false,[.ia cs]⟩=>some ([],.ptr cs)
 | .v ⟨false,[.ji k off]⟩=>match tb k with
  |some (.box cs)=>match plain cs with|some l=>some ([],.ptr (l.drop off))|none=>none
  |_=>none
 | .v ⟨false,[y]⟩=>match cellOf tb ay (want.head?.bind id) y with|some (ps,c)=>some (ps,.one c)|none=>none
 | .v ⟨true,cs⟩=>match cellsOf tb ay want cs with|some (ps,l)=>some (ps,.agg l)|none=>none
 |_=>none
def DA.dv:DA U->DV U
 |⟨false,[c]⟩=> .one c
 |⟨_,cs⟩=> .agg cs
noncomputable def dK(k:kq U)(oe:List (DV U))(ds:List (DA U)):Option Value:=
 match k.of (ds.map DA.dv++oe) with
 |some x=>match(k.ot x).val,(k.ot x).Kz with
  |[.one (.lit v)],[]=>@ite _ (k.md.length=ds.length+oe.length/\∀p∈k.pre x,p) (Classical.propDecidable _) (some v) none
  |_,_=>none
 |none=>none
def tL(tb:mG U)(ay:List Key):List (AV U)->Option (List Prop×List (DV U))
 |[]=>some ([],[])
 |x::r=>match tM tb ay [] (.v x),tL tb ay r with
  |some (ps,d),some (qs,ds)=>some (ps++qs,d::ds)
  |_,_=>none
def p8:List Mode->Bool
 |[]=>true
 | .ro::r=>p8 r
 |_=>false
def JJ(tb:mG U)(ay:List Key)(want:List (Option U.Ty))(x:SV U):Option (List Prop×DV U):=
 match x with
 | .fn p=>some ([],.fn p)
 | .El g xs=>match E.NU g,tL tb ay xs with
  |some k,some (ps,ds)=>bif p8 k.md&&Nat.ble xs.length k.md.length then some (ps,.fn (dK k ds)) else none
  |_,_=>none
 |x=>tM tb ay want x
def K7(x:AV U)(cs:List U.C):Option (DV U):=
 bif x.agg then some (.agg cs) else match cs with|[c]=>some (.one c)|_=>none
def iP(tb:mG U):List (AC U)->Option (List U.C×List Key)
 |[]=>some ([],[])
 | .c (.lit v)::r=>match iP tb r with|some (cs,ks)=>some (.lit v::cs,ks)|none=>none
 | .ref k []::r=>match tb k,iP tb r with
  |some (.arr a true),some (cs,ks)=>some (.sl a.τ a.xs::cs,k::ks)
  |_,_=>none
 |_=>none
def AC.still:AC U->Bool
 | .c _=>true
 | .e0=>true
 | .ref _ []=>true
 | .ji _ _=>true
 |_=>false
def kY(tb:mG U)(ay:List Key)(want:List (Option U.Ty))(m:Mode)(x:SV U):Option (List Prop×DV U×List Key):=
 match m,x with
 | .wr,.v ⟨false,[.ref k p]⟩=>match tb k with
  |some (.arr a true)=>bif eg tb ay k p then match walk p a with|some (ps,b)=>some (ps,.one (.sl b.τ b.xs),[k])|none=>none else none
  |_=>none
 | .wr,.v ⟨true,cs⟩=>match iP tb cs with
  |some (ds,ks)=>bif distinct ks then some ([],.agg ds,ks) else none
  |none=>none
 | .mv,.v y=>match dy tb want y.cs with
  |some (ps,cs,ks,true)=>match K7 y cs with
   |some d=>bif distinct ks then some (ps,d,ks) else none
   |none=>none
  |_=>none
 | .box true,.v ⟨false,[.ji k 0]⟩=>match tb k with
  |some (.box cs)=>bif Nat.ble want.length cs.length&&(cs.drop want.length).all AC.still then
    match dy tb want (cs.take want.length) with
    |some (ps,l,ks,true)=>bif distinct (k::ks) then some (ps,.box l,k::ks) else none
    |_=>none
   else none
  |_=>none
 | .box false,.v ⟨false,[.ji k 0]⟩=>match tb k with
  |some (.box cs)=>bif Nat.ble want.length cs.length&&(cs.drop want.length).all AC.still then
    match plain (cs.take want.length) with
    |some l=>some ([],.box l,[k])
    |none=>none
   else none
  |_=>none
 |_,_=>none
def tN(tb:mG U)(ay:List Key)(want:List (Option U.Ty))(m:Mode)(x:SV U):Option (List Prop×DV U):=
 match m with
 | .ro=>JJ E tb ay want x
 |m=>match kY tb ay want m x with|some (ps,d,_)=>some (ps,d)|none=>none
def nw(tb:mG U)(ay:List Key):List Mode->List (List (Option U.Ty))->List (SV U)->Option (List Prop×List (DV U))
 |[],_,[]=>some ([],[])
 |m::ms,ws,x::r=>
  match tN E tb ay (ws.headD []) m x,nw tb ay ms ws.tail r with
  |some (ps,d),some (qs,ds)=>some (ps++qs,d::ds)
  |_,_=>none
 |_,_,_=>none
def putCells(dst:Nat)(fresh:Bool)(base:Nat):List U.C->List (AC U)×List (Nat×eX U)
 |[]=>([],[])
 | .lit v::r=>(.c (.lit v)::(putCells dst fresh (base+1) r).1,(putCells dst fresh (base+1) r).2)
 | .sl τ xs::r=>bif fresh then(.ref (dst,base) []::(putCells dst fresh (base+1) r).1,(base,.arr ⟨τ,xs⟩ true)::(putCells dst fresh (base+1) r).2)
   else(.c (.sl τ xs)::(putCells dst fresh (base+1) r).1,(putCells dst fresh (base+1) r).2)
def sL(dst:Nat)(fresh:Bool)(base:Nat):DV U->Option (AV U×List (Nat×eX U))
 | .one c=>some (⟨false,(putCells dst fresh base [c]).1⟩,(putCells dst fresh base [c]).2)
 | .agg cs=>some (⟨true,(putCells dst fresh base cs).1⟩,(putCells dst fresh base cs).2)
 | .box cs=>bif fresh then some (⟨false,[.ji (dst,base) 0]⟩,[(base,.box (cs.map .c))]) else none
 | .ptr _=>none
 | .fn _=>none
def tg(dst:Nat)(fs:List Bool)(base:Nat):List (DV U)->Option (List (AV U)×List (Nat×eX U))
 |[]=>some ([],[])
 |d::r=>match sL dst (fs.headD true) base d,tg dst fs.tail (base+32) r with
  |some (x,e),some (xs,es)=>some (x::xs,e++es)
  |_,_=>none
def DV.safe(fresh:Bool):DV U->Bool
 | .one c=>fresh||vz [c]
 | .agg cs=>fresh||vz cs
 | .box _=>false
 | .ptr _=>false
 | .fn _=>false
def tZ:List Bool->List (DV U)->Bool
 |_,[]=>true
 |fs,d::r=>d.safe (fs.headD true)&&tZ fs.tail r
def zk(ms:List Mode):Bool:=ms.any fun m=>match m with| .box false=>true|_=>false
def jY:List (AC U)->List U.C->Option (List (Key×eX U))
 |[],[]=>some []
 | .c (.lit _)::r,.lit _::cs=>jY r cs
 | .ref k []::r,.sl τ ys::cs=>match jY r cs with|some us=>some ((k,.arr ⟨τ,ys⟩ true)::us)|none=>none
 |_,_=>none
def gn(tb:mG U)(ku n:Nat)(m:Mode)(x:SV U)(dm:List (DV U)):Option (List (Key×eX U)×List (Nat×eX U)):=
 match m,x,dm with
 | .wr,.v ⟨false,[.ref k p]⟩,[.one (.sl τ ys)]=>match tb k with
  |some (.arr a true)=>match chg p a (fun b=>match dC b.τ ⟨τ,ys⟩ with|some zs=>some ⟨b.τ,zs⟩|none=>none) with
   |some a'=>some ([(k,.arr a' true)],[])
   |none=>none
  |_=>none
 | .wr,.v ⟨true,cs⟩,[.agg ds]=>match jY cs ds with|some us=>some (us,[])|none=>none
 | .mv,_,[]=>some ([],[])
 | .box true,.v ⟨false,[.ji k 0]⟩,[.box ds]=>match tb k with
  |some (.box cs)=>bif Nat.beq ds.length n then some ([(k,.box ((putCells ku true 512 ds).1++cs.drop n))],(putCells ku true 512 ds).2) else none
  |_=>none
 | .box false,.v ⟨false,[.ji k 0]⟩,[.box ds]=>match tb k with
  |some (.box cs)=>bif Nat.beq ds.length n then some ([(k,.box (ds.map .c++cs.drop n))],[]) else none
  |_=>none
 |_,_,_=>none
def Az:Mode->List (DV U)->List (DV U)
 | .mv,_=>[]
 |_,ds=>ds.take 1
def wG:Mode->List (DV U)->List (DV U)
 | .mv,ds=>ds
 |_,ds=>ds.drop 1
def jE(tb:mG U)(ay:List Key)(ku:Nat):List Mode->List (List (Option U.Ty))->List (SV U)->List (DV U)->Option (List (Key×eX U)×List (Nat×eX U)×List Key)
 |[],_,[],[]=>some ([],[],[])
 | .ro::ms,ws,_::r,ds=>jE tb ay ku ms ws.tail r ds
 |m::ms,ws,x::r,ds=>match kY tb ay (ws.headD []) m x,gn tb ku (ws.headD []).length m x (Az m ds) with
  |some (_,_,ks),some (us,es)=>match jE tb ay ku ms ws.tail r (wG m ds) with
   |some (N8,V9,ks')=>bif distinct (ks++ks') then some (us++N8,es++V9,ks++ks') else none
   |none=>none
  |_,_=>none
 |_,_,_,_=>none
def fD:List Mode->List (SV U)->List Key
 | .ro::ms,x::r=>x.keys++fD ms r
 |_::ms,_::r=>fD ms r
 |_,_=>[]
def nu:List Nat->Bool
 |[]=>true
 |n::r=> !(r.any (Nat.beq n))&&nu r
def CQ(tb:mG U)(n:Nat):List Mode->List (List (Option U.Ty))->List (SV U)->Bool
 |m::ms,ws,x::r=>(match m,x with
  | .box _,.v ⟨false,[.ji k _]⟩=>(match tb k with
   |some (.box cs)=>Nat.beq ((ws.headD []).length+n) cs.length
   |_=>false)
  | .box _,_=>false
  |_,_=>true)&&CQ tb n ms ws.tail r
 |_,_,_=>true
def zr(tb:mG U)(ay:List Key)(dst:Nat)(k:kq U)(types:List TypeId)(xs:List (SV U)):Option (bz U):=
 match nw E tb ay k.md (k.want (types.map E.yU)) xs with
 |some (ps,ds)=>
  match k.of ds with
  |some x=>
   match jE tb ay dst k.md (k.want (types.map E.yU)) xs (k.ot x).Kz,tg dst (k.ot x).fresh 0 (k.ot x).val with
   |some (us,eb,lk),some (vs,es)=>
    let gH:=(bif tZ (k.ot x).fresh (k.ot x).val&& !(zk k.md) then[] else fD k.md xs)++lk
    bif nu ((es++eb).map (·.1))&& !(lk.any fun u=>(fD k.md xs).any (fU u))&&CQ tb k.LA k.md (k.want (types.map E.yU)) xs then
     some ⟨some (match vs with|[v]=> .v v|vs=> .tX vs),es++eb,gH,us,ps++k.pre x,[]⟩
    else none
   |_,_=>none
  |none=>none
 |none=>none
def Gg(τ:U.Ty)(tb:mG U):AC U->Option (List Prop×List (U.T τ)×List Key×Bool)
 | .e0=>some ([],[],[],true)
 | .ref k []=>match tb k with
  |some (.arr a d)=>match dC τ a with|some ys=>some ([],ys,[k],d)|none=>none
  |_=>none
 | .c (.sl s8 ys)=>match dC τ ⟨s8,ys⟩ with|some ys=>some ([],ys,[],U.flat τ)|none=>none
 |_=>none
def acJ:AC U->AC U
 | .kn _ τ xs=> .c (.sl τ xs)
 |x=>x
def Ky(τ:U.Ty)(tb:mG U)(x:AC U):Option (List Prop×List (U.T τ)×List Key×Bool):=Gg τ tb (acJ x)
def Aw(τ:U.Ty)(s:ByteArray):Option (List (U.T τ)):=dC τ ⟨U.om,s.data.toList.map fun b=>U.ofB (b.toNat:Int)⟩
def tm(τ:U.Ty)(tb:mG U):AC U->Option (List Prop×List (U.T τ)×List Key×Bool)
 | .e0=>some ([],[],[],true)
 | .ref k []=>match tb k with
  |some (.arr a d)=>match dC τ a with|some ys=>some ([],ys,[k],d)|none=>none
  |some (.part a dead)=>match dC τ a with|some ys=>some ([∀i,i<ys.length->dead i=false],ys,[k],true)|none=>none
  |_=>none
 | .sub k _ 0 hi=>match tb k with
  |some (.arr a d)=>match dC τ a with|some ys=>some ([hi<=ys.length],ys.take hi,[k],d)|none=>none
  |_=>none
 |_=>none
def OM(tb:mG U)(m:Key):Option (List Prop×fK U):=match tb m with
 |some (.arr b true)=>some ([],b)
 |some (.part b dead)=>some ([∀i,i<b.xs.length->dead i=false],b)
 |_=>none
def QR(τ:U.Ty)(tb:mG U)(dst:Nat):AC U->AC U->Option (bz U)
 | .ref t [],.ref m []=>match tb t,OM tb m with
  |some (.fz a),some (ps,b)=>match dC τ a,dC τ b with
   |some xs,some ys=>bif distinct [t,m] then some ⟨some (one (.ref (dst,0) [])),[(0,.fz ⟨τ,xs++ys⟩)],[t],[(m,.arr ⟨τ,ys⟩ false)],ps++[xs.length+ys.length<=4294967296],[]⟩ else none
   |_,_=>none
  |_,_=>none
 |_,_=>none
def FB(τ:U.Ty)(tb:mG U)(ay:List Key):AC U->Option (List Prop×List (U.T τ))
 | .e0=>some ([],[])
 | .c (.sl s8 ys)=>(dC τ ⟨s8,ys⟩).map fun ys=>([],ys)
 | .ref k []=>match tb k with
  |some (.arr a false)=>(dC τ a).map fun ys=>([],ys)
  |_=>none
 | .ref k [s]=>match tb k with
  |some (.li a)=>bif eg tb ay k [s] then(match walk [s] a with
   |some (ps,b)=>(dC τ b).map fun ys=>(ps,ys)
   |none=>none) else none
  |_=>none
 |_=>none
def uL(tb:mG U)(ay:List Key)(dst:Nat)(ok:Bool)(τ:U.Ty):List (SV U)->Option (bz U)
 |[x]=>match sd x with
  |some y=>match FB τ tb ay y with
   |some (ps,ys)=>bif ok then some ⟨some (one (.ref (dst,0) [])),[(0,.arr ⟨τ,ys⟩ false)],[],[],ps++[ys.length<=4294967296],[]⟩ else none
   |none=>none
  |none=>none
 |_=>none
def Kd(tb:mG U)(q:Rh U):List (SV U)->Option (bz U)
 |[.v ⟨false,[.ref k []]⟩,.El g []]=>match tb k with
  |some (.arr a false)=>match dC q.τ a with
   |some ys=>bif Nat.beq g q.g then some ⟨some (.tX []),[],[],[(k,.arr ⟨q.τ,q.S ys⟩ false)],[ys.length<=4294967296],[]⟩ else none
   |none=>none
  |_=>none
 |_=>none
def Ph(E:Env U)(op:BinOp)(t:TypeId)(y:Operand)(x:SV U):Option (bz U):=
 match op,y,x with
 | .eql,.const (.slice none _ _),.v ⟨false,[.kn b _ _]⟩=>match E.P.underlying t with|some (.slice _)=>some (.lit (.bool b))|_=>none
 |_,_,_=>none
def aH:Option Value->Bool
 |some (.bool b)=>b
 |_=>false
def intOf:Option Value->Int
 |some (.int _ n)=>n
 |_=>0
def zY(tb:mG U)(ay:List Key):List (List (Option U.Ty))->List (SV U)->Option (List Prop×List (DA U))
 |_,[]=>some ([],[])
 |ws,x::r=>match tM tb ay (ws.headD []) x,zY tb ay ws.tail r with
  |some (ps,.one c),some (qs,ds)=>some (ps++qs,⟨false,[c]⟩::ds)
  |some (ps,.agg cs),some (qs,ds)=>some (ps++qs,⟨true,cs⟩::ds)
  |_,_=>none
def partOf(tb:mG U):AC U->Option (fK U)
 | .ref k []=>match tb k with
  |some (.part a _)=>some a
  |some (.nA a _ _)=>some a
  |some (.li a)=>some a
  |some (.Dw a _)=>some a
  |_=>none
 |_=>none
def FC(a:fK U)(i:Nat):Option (fK U):=match U.enc a.τ (a.xs.getD i (U.dt a.τ)) with
 |[.sl τ ys]=>some ⟨τ,ys⟩
 |_=>none
def Kb(tb:mG U)(dst:Nat)(g:Bool):AC U->Option (bz U)
 | .iC k [] i wd 0=>match tb k with
  |some (.arr a true)=>bif Nat.beq wd (U.wd a.τ)&&Nat.beq wd 1 then(match FC a i with
   |some b=>some ⟨some (.v ⟨g,[.ref (dst,0) []]⟩),[(0,.arr b true)],[],[(k,.nA a i (.ref (dst,0) []))],[i<a.xs.length],[]⟩
   |none=>none) else none
  |some (.li a)=>bif Nat.beq wd (U.wd a.τ)&&Nat.beq wd 1&& !g then(match FC a i with
   |some b=>some ⟨some (one (.ref (dst,0) [])),[(0,.fz b)],[],[(k,.Dw a i)],[i<a.xs.length],[]⟩
   |none=>none) else none
  |_=>none
 |_=>none
def putAt(tb:mG U)(x:AV U):AC U->Option (bz U)
 | .iC k [] i wd 0=>match tb k with
  |some (.nA a j _)=>bif Nat.beq wd (U.wd a.τ)&&Nat.beq x.cs.length 1 then
    match dy tb (yO (U.enc a.τ (a.xs.getD i (U.dt a.τ)))) x.cs with
    |some (qs,ds,ks,true)=>match U.dec a.τ ds with
     |some y=>bif distinct (k::ks) then some ⟨none,[],ks,[(k,.arr ⟨a.τ,a.xs.set i y⟩ true)],qs++[i=j],[]⟩ else none
     |none=>none
    |_=>none
   else none
  |some (.Dw a j)=>match x.cs with
   |[.ref t []]=>match tb t with
    |some (.fz b)=>bif Nat.beq wd (U.wd a.τ) then
     match U.dec a.τ [.sl b.τ b.xs] with
     |some y=>bif distinct [k,t] then some ⟨none,[],[t],[(k,.li ⟨a.τ,a.xs.set i y⟩)],[i=j],[]⟩ else none
     |none=>none
     else none
    |_=>none
   |_=>none
  |_=>none
 |_=>none
def KA(tb:mG U)(dst:Nat)(agg:Bool)(n:Nat):AC U->Option (bz U)
 | .iC k [] i wd off=>match tb k with
  |some (.part a dead)=>bif (agg||Nat.beq n 1)&&Nat.ble (off+n) (U.wd a.τ)&&Nat.beq wd (U.wd a.τ) then
    let cs:=((U.enc a.τ (a.xs.getD i (U.dt a.τ))).drop off).take n
    bif vz cs then some (.cv (.v ⟨agg,cs.map .c⟩) [i<a.xs.length,dead i=false])
    else bif Nat.blt n (U.wd a.τ) then some (.cv (.v ⟨agg,gz k [] i wd cs off⟩) [i<a.xs.length,dead i=false])
    else bif nu ((putCells dst true 0 cs).2.map (·.1)) then
     some ⟨some (.v ⟨agg,(putCells dst true 0 cs).1⟩),(putCells dst true 0 cs).2,[],[(k,.part a (fun j=>Nat.beq j i||dead j))],[i<a.xs.length,dead i=false],[]⟩
    else none
   else none
  |_=>none
 |_=>none
def C9(wd:Nat):List (SV U)->Bool
 |[]=>true
 | .v x::r=>Nat.beq x.cs.length wd&&C9 wd r
 |_=>false
def Ge(τ:U.Ty)(tb:mG U):AC U->Option (List (U.T τ)×List Key)
 | .ref k []=>match tb k with
  |some (.part a _)=>match dC τ a with|some ys=>some (ys,[k])|none=>none
  |_=>none
 |_=>none
def qB(tb:mG U)(x:AV U):AC U->Option (bz U)
 | .iC k [] i wd 0=>match tb k with
  |some (.part a dead)=>bif Nat.beq wd (U.wd a.τ)&&Nat.beq x.cs.length wd then
    match dy tb (yO (U.enc a.τ (a.xs.getD i (U.dt a.τ)))) x.cs with
    |some (qs,ds,ks,true)=>match U.dec a.τ ds with
     |some y=>bif distinct (k::ks) then some ⟨none,[],ks,[(k,.part ⟨a.τ,a.xs.set i y⟩ (fun j=> !(Nat.beq j i)&&dead j))],qs++[i<a.xs.length],[]⟩ else none
     |none=>none
    |_=>none
   else none
  |_=>none
 |_=>none
def yS(tb:mG U)(x:AV U):AC U->Option (bz U)
 | .iC k [] i wd off=>match tb k,qP x.cs with
  |some (.part a dead),some vs=>bif Nat.beq wd (U.wd a.τ)&&Nat.ble (off+x.cs.length) wd then
    match F5 off i (vs.map .lit) a with
    |some a'=>some ⟨none,[],[],[(k,.part a' dead)],[i<a.xs.length,dead i=false],[]⟩
    |none=>none
   else none
  |_,_=>none
 |_=>none
def Ab:List (SV U)->Option (List (AV U))
 |[]=>some []
 | .v x::r=>match Ab r with|some l=>some (x::l)|none=>none
 |_=>none
def Dx(E:Env U)(tb:mG U)(ay:List Key)(t:TypeId)(types:List TypeId)(p:List (DA U)->Option Value)(xs:List (SV U)):Option (bz U):=
 match zY tb ay (types.map E.yU) xs with
 |some (ps,ds)=>match E.P.underlying t with
  |some .bool=>some (.lit (.bool (aH (p ds))) (ps++[p ds=some (.bool (aH (p ds)))]))
  |some (.int k)=>some (.lit (.int k (intOf (p ds))) (ps++[p ds=some (.int k (intOf (p ds)))]))
  |_=>none
 |none=>none
def Env.Uq(b:Bool)(f:FuncId):Option (kq U):=bif b then E.NT f else E.NU f
def zn(b:Bool)(tb:mG U)(ay:List Key)(o:Oper)(xs:List (SV U)):Option (bz U):=
 let dst:=o.dst.getD 1000000
 match o.op,xs with
 | .move _,[x]=>some (.cv x)
 | .assign _,[x]=>some (.cv x)
 | .unOp op _ _,[x]=>match ie x with
  |some v=>(IC op v).map (.lit ·)
  |none=>none
 | .binOp op t _ q _,[x,y]=>match ie x,ie y with
  |some a,some b=>(C8 E t op a b).map fun(ps,v)=> .lit v ps
  |_,_=>match QF E op t x y with|some r=>some r|none=>Ph E op t q x
 | .extract _ i,[.tX l]=>(l[i]?).map fun v=> .cv (.v v)
 | .alloc t,[]=>
  match(E.P.info? t).bind (·.zero) with
  |some z=>match rb (U:=U) z.cells with
   |some (.v x)=>some ⟨some (one (.ji (dst,0) 0)),[(0,.box x.cs)],[],[],[],[]⟩
   |_=>none
  |none=>none
 | .load t _,[x]=>match sd x,E.size t,E.isAgg t with
  |some a,some n,some g=>match(bif E.shl t then C6 tb g n a else bif E.opn t dst&&Nat.beq n 1 then Kb tb dst g a else none) with
   |some r=>some r
   |none=>match loadAt tb ay g n a with
    |some r=>some r
    |none=>KA tb dst g n a
  |_,_,_=>none
 | .store t _ _,[p,.v x]=>match sd p,E.size t with
  |some a,some n=>bif Nat.beq n x.cs.length then(match storeAt tb ay x a with
   |some r=>some r
   |none=>match qB tb x a with
    |some r=>some r
    |none=>match yS tb x a with
     |some r=>some r
     |none=>bif Nat.beq n 1 then putAt tb x a else none) else none
  |_,_=>none
 | .fieldAddr t _ f,[x]=>match sd x,E.Ug t f with
  |some y,some (o,ft)=>match E.size ft with
   |some (_+1)=>match y with
    | .ia cs=>some (.cv (one (.ia (cs.drop o))))
    | .ji k off=>some (.cv (one (.ji k (off+o))))
    | .iC k p i wd off=>bif eg tb ay k p then some (.cv (one (.iC k p i wd (off+o)))) else none
    |_=>none
   |_=>none
  |_,_=>none
 | .field t _ f,[.v ⟨true,cs⟩]=>match E.Ug t f with
  |some (o,ft)=>match E.size ft,E.isAgg ft with
   |some n,some g=>bif Nat.ble (o+n) cs.length&&(g||Nat.beq n 1) then some (.cv (.v ⟨g,(cs.drop o).take n⟩)) else none
   |_,_=>none
  |none=>none
 | .build t parts,xs=>match E.Ks t,(E.P.info? t).bind (·.zero) with
  |some pl,some z=>match iW (U:=U) z.cells.toList with
   |some l=>match gK pl l (parts.toList.map (·.1)) xs with
    |some cs=>some (.cv (.v ⟨true,cs⟩))
    |none=>none
   |none=>none
  |_,_=>none
 | .buildSlice t len parts,xs=>match E.elem t with
  |some e=>match E.code e with
   |some τ=>bif (parts.toList.map (·.1)).length.beq len&&((parts.toList.map (·.1)).zipIdx).all (fun(a,b)=>Nat.beq a b)&&Nat.ble (len*U.wd τ) 1000000 then
     bif E.cI t dst (xs.flatMap SV.keys) then
      bif C9 (U.wd τ) xs then some ⟨some (one (.ref (dst,0) [])),[(0,.part ⟨τ,List.replicate len (U.dt τ)⟩ (fun _=>true))],[],[],[],[]⟩ else none
     else match rowsOf τ tb (E.shape 8 e) xs with
     |some (ps,rows,ks,d)=>bif distinct ks then some ⟨some (one (.ref (dst,0) [])),[(0,.arr ⟨τ,rows⟩ d)],ks,[],ps,[]⟩ else none
     |none=>none
    else none
   |none=>none
  |none=>none
 | .makeSlice t _ _,[l,c]=>match E.elem t,ie l,ie c with
  |some e,some (.int .i64 n),some (.int .i64 m)=>match E.code e with
   |some τ=>some ⟨some (one (.ref (dst,0) [])),[(0,.arr ⟨τ,List.replicate n.toNat (U.dt τ)⟩ true)],[],[],[0<=n,n=m,n<=4294967296],[]⟩
   |none=>none
  |_,_,_=>none
 | .indexAddr t _ _,[x,i]=>match ie i,sd x,(E.elem t).bind E.size with
  |some (.int _ n),some y,some m=>match y with
   | .c (.sl τ ys)=>bif Nat.beq m (U.wd τ) then some (.cv (one (.ia (U.enc τ (ys.getD n.toNat (U.dt τ))))) [0<=n,n.toNat<ys.length]) else none
   | .ref k p=>match p7 tb ay (.ref k p) with
    |some (ps,a)=>bif Nat.beq m (U.wd a.τ) then some (.cv (one (.iC k p n.toNat (U.wd a.τ) 0)) (ps++[0<=n,n.toNat<a.xs.length])) else none
    |none=>match p,partOf tb (.ref k []) with
     |[],some a=>bif Nat.beq m (U.wd a.τ) then some (.cv (one (.iC k [] n.toNat (U.wd a.τ) 0)) [0<=n,n.toNat<a.xs.length]) else none
     |_,_=>none
   |_=>none
  |_,_,_=>none
 | .index t _ _,[x,i]=>match ie x,ie i,E.P.underlying t with
  |some (.string s),some (.int _ n),some .string=>some (.lit (.int .u8 ((s.data.toList.getD n.toNat 0).toNat:Int)) [0<=n,n.toNat<s.size])
  |_,_,_=>none
 | .slice t _ lo hi mx,x::bs=>match bound lo bs with
  |some (l,bs1)=>match bound hi bs1 with
   |some (h,bs2)=>match bound mx bs2 with
    |some (m,[])=>tY E tb ay t x l h m
    |_=>none
   |none=>none
  |none=>none
 | .call {callee:=.builtin .len,argTypes,..},[x]=>match argTypes.toList with
  |[t]=>match ie x with
   |some (.string s)=>match E.P.underlying t with
    |some .string=>some (.lit (.int .i64 s.size))
    |_=>none
   |some _=>none
   |none=>match sd x,E.elem t with
    |some .e0,some _=>some (.lit (.int .i64 0))
    |some a,some _=>match p7 tb ay a with
     |some (ps,b)=>some (.lit (.int .i64 b.xs.length) ps)
     |none=>match partOf tb a with
      |some b=>some (.lit (.int .i64 b.xs.length))
      |none=>none
    |_,_=>none
  |_=>none
 | .call {callee:=.builtin .clear,argTypes,..},[x]=>match argTypes.toList with
  |[t]=>match E.elem t,sd x with
   |some e,some (.sub k wd lo hi)=>match E.code e,tb k with
    |some τ,some (.part a dead)=>bif Nat.beq wd (U.wd a.τ) then(match dC τ a with
     |some xs=>some ⟨some (.tX []),[],[],[(k,.part ⟨τ,xs⟩ (fun j=>dead j||Nat.ble lo j))],[lo<=hi,hi=xs.length],[]⟩
     |none=>none) else none
    |_,_=>none
   |_,_=>none
  |_=>none
 | .call {callee:=.builtin .min,..},[x,y]=>match ie x,ie y with
  |some (.int k a),some (.int k' b)=>bif decide (k=k') then some (.lit (.int k (if b<a then b else a))) else none
  |_,_=>none
 | .call {callee:=.builtin .max,..},[x,y]=>match ie x,ie y with
  |some (.int k a),some (.int k' b)=>bif decide (k=k') then some (.lit (.int k (if b>a then b else a))) else none
  |_,_=>none
 | .call {callee:=.builtin .append,argTypes,..},[s,x]=>
  match argTypes.toList with
  |[t,u]=>match E.elem t,E.elem u,sd s,sd x with
   |some e,some e',some s,some x=>bif Nat.beq t u&&Nat.beq e e' then
    match E.code e with
    |some τ=>
     match tm τ tb s,Ky τ tb x with
     |some (ps,xs,ks,d),some (qs,ys,ks',d')=>
      bif distinct (ks++ks') then
       some ⟨some (one (.ref (dst,0) [])),[(0,.arr ⟨τ,xs++ys⟩ (d&&d'))],ks++ks',[],ps++qs++[xs.length+ys.length<=4294967296],[]⟩
      else none
     |some (ps,xs,ks,true),none=>match Ge τ tb x with
      |some (ys,ks')=>bif distinct (ks++ks') then
        some ⟨some (one (.ref (dst,0) [])),[(0,.part ⟨τ,xs++ys⟩ (fun i=>Nat.ble xs.length i))],ks++ks',[],ps++[xs.length+ys.length<=4294967296],[]⟩
       else none
      |none=>none
     |_,_=>QR τ tb dst s x
    |none=>none else none
   |some e,none,some s,some (.c (.lit (.string str)))=>match E.P.underlying u,E.code e with
    |some .string,some τ=>match tm τ tb s,Aw τ str with
     |some (ps,xs,ks,d),some ys=>bif distinct ks then
       some ⟨some (one (.ref (dst,0) [])),[(0,.arr ⟨τ,xs++ys⟩ d)],ks,[],ps++[xs.length+ys.length<=4294967296],[]⟩ else none
     |_,_=>none
    |_,_=>none
   |_,_,_,_=>none
  |_=>none
 | .makeFunc (.func g) first _,xs=>bif first.isEmpty then(match Ab xs with|some l=>some (.cv (.El g l))|none=>none) else none
 | .call {callee:=.value (.tmp _),argTypes,..},.fn p::xs=>Dx E tb ay o.type argTypes.toList p xs
 | .call {callee:=.value (.func f),argTypes,..},xs=>match E.Wa f with
  |some τ=>uL tb ay dst o.dst.isSome τ xs
  |none=>match E.raw f xs with
   |some (ps,cs)=>some (.cv (.v ⟨true,cs⟩) ps)
   |none=>match E.Vt f with
    |some q=>Kd tb q xs
    |none=>match E.Uq b f with
     |some k=>zr E tb ay dst k argTypes.toList xs
     |none=>none
 | .box _ _,[.v x]=>bif tK tb ay x.cs&&(x.agg||Nat.beq x.cs.length 1) then some ⟨some (one (.ji (dst,0) 0)),[(0,.box x.cs)],[],[],[],[]⟩ else none
 | .nilCheck _,[x]=>match sd x with
  |some (.ia _)=>some (.cv x)
  |some (.ji _ _)=>some (.cv x)
  |some (.iC k p _ _ _)=>bif eg tb ay k p then some (.cv x) else none
  |_=>none
 | .convert s d _,[x]=>match E.P.underlying d with
  |some (.int k)=>match E.P.underlying s,ie x with
   |some (.int _),some (.int _ n)=>some (.lit (.int k (k.wrap n)))
   |_,_=>none
  |some .string=>match E.P.underlying s with
   |some (.slice e)=>match E.P.underlying e,sd x with
    |some (.int .u8),some .e0=>some (.lit (.string ByteArray.empty))
    |some (.int .u8),some y=>match p7 tb ay y with
     |some (ps,b)=>match dC U.om b with
      |some ys=>some (.lit (.string (strOfNums (ys.map U.Vs))) ps)
      |none=>none
     |none=>none
    |_,_=>none
   |_=>none
  |_=>none
 |_,_=>none
def Oper.looks(o:Oper):List Operand:=
 match o.op with
 | .build _ ps=>ps.toList.map (·.2)
 | .buildSlice _ _ ps=>ps.toList.map (·.2)
 | .call c=>(match c.callee with| .value (.func _)=>[]| .builtin _=>[]| .value f=>[f]| .invoke r _=>[r])++c.args.toList
 |op=>op.operands.toList
def qm(σ:ah U)(o:Oper):Option (List (SV U)):=CK ((Oper.looks o).map (Ku σ))
def pX(σ:ah U)(o:Oper):Bool:=match o.dst with|some d=>Nat.blt d σ.n|none=>true
def ES(x:Option (SV U)):Option Value:=match x with|some y=>ie y|none=>none
def y6(σ:ah U)(x:Operand):Option Value:=ES (Ku σ x)
def kindOk(o:Oper):Bool:=match o.op with
 | .store _ _ _=>o.dst.isNone
 | .alloc _| .box _ _| .buildSlice _ _ _| .makeSlice _ _ _=>o.dst.isSome
 | .call c=>(match c.callee with| .builtin .clear=>true| .builtin _=>o.dst.isSome|_=>true)
 |_=>true
def step(b:Bool)(σ:ah U)(o:Oper):Option (bz U×List Key):=
 bif pX σ o&&kindOk o then
  match o.op with
  | .pick c a b=>
   match y6 σ c with
   |some (.bool t)=>match(bif t then Ku σ a else Ku σ b) with
    |some x=>some (.cv x,[])
    |none=>none
   |_=>none
  |_=>match qm σ o with
   |some xs=>match zn E b (restrict σ.aU (oM σ o xs)) σ.ay o xs with
    |some r=>some (r,oM σ o xs)
    |none=>none
   |none=>none
 else none
def bz.IZ(r:bz U):List Key:=(r.fM.map (·.1)).filter (fun k=> !(r.soft.any (fU k)))
def kX(dst:Nat)(l:List (Nat×eX U)):List (Key×Option (eX U)):=l.map fun(j,e)=>((dst,j),some e)
def apply(o:Oper)(r:bz U)(σ:ah U):ah U:=
 {σ with
  bw:=(match o.dst with|some d=>(d,r.val)::σ.bw|none=>σ.bw)
  iZ:=kX (o.dst.getD 1000000) r.ct++r.fM.map (fun(k,e)=>(k,some e))++r.gH.map (fun k=>(k,none))++σ.iZ
  ay:=r.IZ++σ.ay}
def yR:bz U:=⟨some (.tX []),[],[],[],[],[]⟩
structure Rec where
 i:Nat
 reads:List Key
 names:List Key
 writes:List Key
 news:List Key
def bz.news(dst:Nat)(r:bz U):List Key:=r.ct.map fun(j,_)=>(dst,j)
def bz.writes(dst:Nat)(r:bz U):List Key:=r.ct.map (fun(j,_)=>(dst,j))++r.gH++r.fM.map (·.1)
def eX.names:eX U->List Key
 | .box cs=>cs.flatMap AC.keys
 | .nA _ _ x=>x.keys
 |_=>[]
def bz.names(r:bz U):List Key:=
 (match r.val with|some x=>x.keys|none=>[])++r.ct.flatMap (fun(_,e)=>e.names)++r.fM.flatMap (fun(_,e)=>e.names)
def rJ(dst:Nat)(r:bz U)(rs:List Rec):Bool:=r.ct.isEmpty||rs.all fun x=> !((x.reads++x.names++x.writes).any fun k=>Nat.beq k.1 dst)
def vY(o:Oper)(r:bz U):Bool:=r.ct.all fun(j,_)=>Nat.blt j 1024
def meet(a b:List Key):Bool:=a.any fun k=>b.any (fU k)
def apY(ops:List Oper):List Nat:=
 ops.foldl (fun acc o=>acc++[o.after.toList.foldl (fun m e=>bif Region.binds .any e then Nat.lor m (Nat.lor (Nat.shiftLeft 1 e.on) (acc.getD e.on 0)) else m) 0]) []
def xA(m i:Nat):Bool:=Nat.beq (Nat.land (Nat.shiftRight m i) 1) 1
def zl(ops:List Oper)(o:Oper):List Nat:=
 match o.guard with
 |some (g,_)=>match ops[g]? with|some q=>q.dst.toList|none=>[]
 |none=>[]
def slotsOf(ops:List Oper)(o:Oper):List Nat:=
 (o.op.operands.toList.flatMap fun| .tmp t=>[t]|_=>[])++zl ops o
def GZ(ops:List Oper)(x y:Oper)(rx ry:Rec):Bool:=
 !(meet rx.writes (ry.reads++ry.writes))&& !(meet ry.writes rx.reads)&& !(meet rx.news ry.names)&&
 (match x.dst with|some d=> !((slotsOf ops y).any (Nat.beq d))&& !(y.dst.any (Nat.beq d))|none=>true)&&
 (match y.dst with|some d=> !((slotsOf ops x).any (Nat.beq d))|none=>true)
def Vw(ops:List Oper):Bool:=ops.zipIdx.all fun(o,i)=>o.after.toList.all fun e=> !(Region.binds .any e)||Nat.blt e.on i
def K8(ops:List Oper)(acX:List Rec):Bool:=
 let an:=apY ops
 Vw ops&&acX.all fun ry=>acX.all fun rx=>
  !(Nat.blt rx.i ry.i)||xA (an.getD ry.i 0) rx.i||
  (match ops[rx.i]?,ops[ry.i]? with|some x,some y=>GZ ops x y rx ry|_,_=>false)
def guards(ops:List Oper)(i:Nat):Bool:=ops.any fun o=>match o.guard with|some (g,_)=>Nat.beq g i|none=>false
def N0:List Prop->Prop->Prop
 |[],q=>q
 |p::ps,q=>p/\N0 ps q
def QM(a b:Bool):Bool:=match a,b with|true,true=>true|false,false=>true|_,_=>false
def OB(i:Nat)(o:Oper)(σ:ah U)(rs:List Rec)(ks:List Key)(K:ah U->Rec->Prop)(r:bz U):Prop:=
 bif rJ (o.dst.getD 1000000) r rs&&vY o r then K (apply o r σ) ⟨i,ks,r.names,r.writes (o.dst.getD 1000000),r.news (o.dst.getD 1000000)⟩ else False
def Zo(r:bz U)(b:Bool):bz U:={r with val:=some (uX (.bool b))}
def H9(alt:Bool)(ops:List Oper)(i:Nat)(o:Oper)(σ:ah U)(rs:List Rec)(K:ah U->Rec->Prop):Prop:=
 match step E alt σ o with
 |some (r,ks)=>
  N0 r.pre<|
  bif guards ops i then
   match ES r.val with
   |some (.bool b)=>bif b then OB i o σ rs ks K (Zo r true) else OB i o σ rs ks K (Zo r false)
   |_=>False
  else OB i o σ rs ks K r
 |none=>False
def afa(o:Oper):Bool:=match o.op with
 | .call {callee:=.value (.func f),..}=>(E.NT f).isSome
 |_=>false
def H8(ops:List Oper)(i:Nat)(o:Oper)(σ:ah U)(rs:List Rec)(K:ah U->Rec->Prop):Prop:=
 bif afa E o then H9 E false ops i o σ rs K\/H9 E true ops i o σ rs K else H9 E false ops i o σ rs K
def wpOps(ops:List Oper):List Oper->Nat->ah U->List Rec->(ah U->List Rec->Prop)->Prop
 |[],_,σ,rs,K=>K σ rs
 |o::rest,i,σ,rs,K=>
  match o.guard with
  |none=>H8 E ops i o σ rs fun lK r=>wpOps ops rest (i+1) lK (r::rs) K
  |some (g,want)=>
   match((ops[g]?).bind (·.dst)).bind σ.get with
   |some (.v x)=>match ie (.v x) with
    |some (.bool b)=>bif QM b want then H8 E ops i o σ rs fun lK r=>wpOps ops rest (i+1) lK (r::rs) K
     else bif pX σ o then wpOps ops rest (i+1) (apply o yR σ) (⟨i,[],[],[],[]⟩::rs) K else False
    |_=>False
   |some (.tX [])=>bif pX σ o then wpOps ops rest (i+1) (apply o yR σ) (⟨i,[],[],[],[]⟩::rs) K else False
   |_=>False
def SV.Lx(bad:Key->Bool)(ay:List Key)(x:SV U):Bool:=
 x.xE.any fun a=>a.keys.any bad||(match a with| .ref k p| .iC k p _ _ _=> !p.isEmpty&&ay.any (fU k)|_=>false)
def AC.rB(f:Key->Key):AC U->AC U
 | .ref k p=> .ref (f k) p
 | .sub k wd lo hi=> .sub (f k) wd lo hi
 | .iC k p i wd off=> .iC (f k) p i wd off
 | .ji k off=> .ji (f k) off
 |x=>x
def SV.rB(f:Key->Key):SV U->SV U
 | .v x=> .v ⟨x.agg,x.cs.map (AC.rB f)⟩
 | .tX xs=> .tX (xs.map fun x=>⟨x.agg,x.cs.map (AC.rB f)⟩)
 | .fn p=> .fn p
 | .El g xs=> .El g (xs.map fun x=>⟨x.agg,x.cs.map (AC.rB f)⟩)
def eX.rB(f:Key->Key):eX U->eX U
 | .box cs=> .box (cs.map (AC.rB f))
 | .nA a i x=> .nA a i (x.rB f)
 |e=>e
def wu{β:Type}:List Nat->List (Nat×Option β)->List (Nat×Option β)
 |_,[]=>[]
 |seen,(s,v)::r=>bif seen.any (Nat.beq s) then wu seen r else match v with
  |some x=>(s,some x)::wu (s::seen) r
  |none=>wu (s::seen) r
def nK{β:Type}:List Key->List (Key×Option β)->List (Key×Option β)
 |_,[]=>[]
 |seen,(s,v)::r=>bif seen.any (fU s) then nK seen r else match v with
  |some x=>(s,some x)::nK (s::seen) r
  |none=>nK (s::seen) r
def sM(bad:Key->Bool)(σ:ah U):ah U:=
 let ok (x:SV U):Bool:= !(x.Lx (fun k=>bad k||(cm σ.iZ k).isNone) σ.ay)
 {σ with
  bw:=(wu [] σ.bw).filter fun(_,v)=>match v with|some (.tX [])=>false|some x=>ok x|none=>false
  iZ:=(nK [] σ.iZ).filter fun(k,e)=> !(bad k)&&(match e with|some (.box cs)=>ok (.v ⟨true,cs⟩)|some (.nA _ _ x)=>ok (.v ⟨true,[x]⟩)|_=>true)
  ay:=[]}
def acW(d:Nat)(x:SV U):List (Key×Key):=
 (x.xE.zipIdx).flatMap fun(a,j)=>match a with
  | .ref k []| .sub k _ _ _| .ji k _=>[(k,(d,1024+j))]
  |_=>[]
def vw(l:List (Key×Key))(k:Key):Key:=
 match l with
 |[]=>k
 |(a,b)::r=>bif fU a k then b else vw r k
def rename(l:List (Key×Key))(σ:ah U):ah U:=
 {σ with
  bw:=σ.bw.map fun(s,v)=>(s,v.map (SV.rB (vw l)))
  iZ:=σ.iZ.map fun(k,e)=>(vw l k,e.map (eX.rB (vw l)))}
def qD(l0:List (Key×Key))(σ:ah U):ah U:=
 let l:=l0.filter fun(a,b)=> !(fU a b)&& !(Nat.ble 2000000 a.1&&Nat.blt a.2 1024)
 bif l.isEmpty|| !(distinct (l.map (·.1)))|| !(distinct (l.map (·.2)))|| !(l.all fun(_,b)=>Nat.ble 1024 b.2) then σ else
  let tgt:=l.map (·.2)
  rename l (sM (fun k=>tgt.any (fU k)) σ)
def rr(d:Nat)(σ:ah U):ah U:=
 match σ.get d with
 |some x=>qD (acW d x) σ
 |none=>σ
def Zr(k:Key)(cs:List (AC U)):List (Key×Key):=
 cs.zipIdx.flatMap fun(a,j)=>match a with
  | .ref q []| .sub q _ _ _=>[(q,(k.1,4096*(k.2+1)+j))]
  |_=>[]
def wx(k:Key)(σ:ah U):ah U:=
 match σ.aU k with
 |some (.box cs)=>qD (Zr k cs) σ
 |_=>σ
def boxes(σ:ah U):List Key:=σ.iZ.flatMap fun(k,e)=>match e with|some (.box _)=>[k]|_=>[]
inductive pF where
 |slot (s j:Nat)
 |box (k:Key) (j:Nat)
def pF.key:pF->Key
 | .slot s j=>(s,1024+j)
 | .box k j=>(k.1,4096*(k.2+1)+j)
def Nx:Option (AC U)->Bool
 |some .e0=>true
 |_=>false
def unnamed(k:Key)(σ:ah U):Bool:=
 (σ.bw.all fun(_,v)=>match v with|some x=> !(x.keys.any (fU k))|none=>true)&&
 (σ.iZ.all fun(_,e)=>match e with|some (.box cs)=> !(cs.any fun a=>a.keys.any (fU k))|some (.nA _ _ x)=> !(x.keys.any (fU k))|_=>true)
def Ng(p:pF)(τ:U.Ty×Bool)(σ:ah U):ah U:=
 bif (cm σ.iZ p.key).isNone&&unnamed p.key σ&&Nat.ble 1024 p.key.2 then
  match p with
  | .slot s j=>match σ.get s with
   |some (.v x)=>bif Nx x.cs[j]? then
     {σ with bw:=(s,some (.v ⟨x.agg,x.cs.set j (.ref p.key [])⟩))::σ.bw,iZ:=(p.key,some (.arr ⟨τ.1,[]⟩ τ.2))::σ.iZ} else σ
   |_=>σ
  | .box k j=>match σ.aU k with
   |some (.box cs)=>bif Nx cs[j]? then
     {σ with iZ:=(p.key,some (.arr ⟨τ.1,[]⟩ τ.2))::(k,some (.box (cs.set j (.ref p.key []))))::σ.iZ} else σ
   |_=>σ
 else σ
def pP(k0:Key)(σ:ah U):ah U:=
 match σ.aU k0 with
 |some (.arr a true)=>{σ with iZ:=(k0,some (.part a fun _=>false))::σ.iZ}
 |_=>σ
def parts(l:List Key)(σ:ah U):ah U:=l.foldl (fun σ k=>pP k σ) σ
def CJ(k0:Key)(σ:ah U):ah U:=
 match σ.aU k0 with
 |some (.arr a true)=>{σ with iZ:=(k0,some (.arr a false))::σ.iZ,ay:=k0::σ.ay}
 |_=>σ
def Nf(p:pF)(τ:U.Ty)(σ:ah U):ah U:=
 match p with
 | .slot s j=>match σ.get s with
  |some (.v x)=>bif Nx x.cs[j]? then{σ with bw:=(s,some (.v ⟨x.agg,x.cs.set j (.c (.sl τ []))⟩))::σ.bw} else σ
  |_=>σ
 | .box k j=>match σ.aU k with
  |some (.box cs)=>bif Nx cs[j]? then{σ with iZ:=(k,some (.box (cs.set j (.c (.sl τ [])))))::σ.iZ} else σ
  |_=>σ
def Nd:List (pF×U.Ty×Option Bool)->ah U->ah U
 |[],σ=>σ
 |(p,τ,some d)::r,σ=>Nd r (Ng p (τ,d) σ)
 |(p,τ,none)::r,σ=>Nd r (Nf p τ σ)
def assigned(ops:List Oper):List Nat:=ops.flatMap fun o=>match o.op with| .assign _=>o.dst.toList|_=>[]
def me(σ:ah U):ah U:=sM (fun _=>false) σ
def Ly(l:List Key)(σ:ah U):ah U:=match l with
 |[]=>σ
 |k::l=>me ((k::l).foldl (fun σ k=>CJ k σ) σ)
def C5(k0:Key)(σ:ah U):ah U:=
 match σ.aU k0 with
 |some (.arr a true)=>{σ with iZ:=(k0,some (.li a))::σ.iZ,ay:=k0::σ.ay}
 |_=>σ
def LO(l:List Key)(σ:ah U):ah U:=match l with
 |[]=>σ
 |k::l=>me ((k::l).foldl (fun σ k=>C5 k σ) σ)
def Ih(k:Key)(σ:ah U):ah U:=
 match σ.aU k with
 |some (.nA a i (.ref t []))=>match σ.aU t with
  |some (.arr b true)=>match U.dec a.τ [.sl b.τ b.xs] with
   |some y=>bif fU k t then σ else{σ with iZ:=(k,some (.arr ⟨a.τ,a.xs.set i y⟩ true))::(t,none)::σ.iZ,ay:=k::σ.ay}
   |none=>σ
  |_=>σ
 |_=>σ
def LP(σ:ah U):List Key:=(nK [] σ.iZ).flatMap fun(k,e)=>match e with
 |some (.nA _ _ _)=>[k]
 |_=>[]
def F6(σ:ah U):ah U:=match LP σ with
 |[]=>σ
 |l=>me (l.foldl (fun σ k=>Ih k σ) σ)
def LD(l:List Key)(σ:ah U):ah U:=match l with
 |[]=>σ
 |k::l=>me ((k::l).foldl (fun σ k=>Ih k σ) σ)
def Ax:AC U->Bool
 | .c (.lit _)=>true
 | .ref _ []=>true
 | .e0=>true
 | .ji _ _=>true
 |_=>false
def OE:eX U->Option (eX U)
 | .li a=>some (.arr a true)
 | .arr a true=>some (.arr a true)
 | .part a d=>some (.part a d)
 | .nA a i x=>bif Ax x then some (.nA a i x) else none
 | .box cs=>bif cs.all Ax then some (.box cs) else none
 |_=>none
def KZ(σ:ah U):Bool:=(nK [] σ.iZ).any fun(_,e)=>match e with|some (.li _)=>true|_=>false
def unlock(σ:ah U):ah U:=bif KZ σ then{σ with bw:=[],iZ:=(nK [] σ.iZ).map (fun(k,e)=>(k,e.bind OE)),ay:=[]} else σ
def I2(rs:List ResultVar)(σ:ah U):ah U:=match rs with
 |[]=>F6 (unlock (me σ))
 |_=>me σ
def ww(l:List Key)(σ:ah U):ah U:=l.foldl (fun σ k=>wx k σ) σ
def settle(ops:List Oper)(σ:ah U):ah U:=
 let FQ:=(assigned ops).foldl (fun σ d=>rr d σ) (me σ)
 ww (boxes FQ) FQ
def As(ops:List Oper):List Nat:=ops.flatMap fun o=>o.dst.toList
def enter(ops:List Oper)(σ:ah U):ah U:=let ds:=As ops;sM (fun k=>(ds.any (Nat.beq k.1)||Nat.beq k.1 1000000)&&Nat.blt k.2 1024) σ
def EG(k0:Key)(c:U.C):AC U->AC U
 | .ref k []=>bif fU k k0 then .c c else .ref k []
 |x=>x
def K3(k0:Key)(c:U.C):SV U->SV U
 | .v x=> .v ⟨x.agg,x.cs.map (EG k0 c)⟩
 |x=>x
def vm(k0:Key)(c:U.C):eX U->eX U
 | .box cs=> .box (cs.map (EG k0 c))
 | .nA a i x=> .nA a i (EG k0 c x)
 |e=>e
def kO(k0:Key)(σ:ah U):ah U:=
 match σ.aU k0 with
 |some (.arr a _)=>{σ with
   bw:=σ.bw.map fun(s,v)=>(s,v.map (K3 k0 (.sl a.τ a.xs)))
   iZ:=(k0,none)::σ.iZ.map fun(k,e)=>(k,e.map (vm k0 (.sl a.τ a.xs)))}
 |_=>σ
def rK(s:Nat)(σ:ah U):ah U:=
 match σ.get s with
 |some (.v ⟨_,[.ref k []]⟩)=>kO k σ
 |_=>σ
def pW(l:List Nat)(σ:ah U):ah U:=l.foldl (fun σ s=>rK s σ) σ
def LQ(E:Env U)(ops:List Oper):List Nat:=ops.flatMap fun o=>match o.op with
 | .call {callee:=.value (.func f),args,..}=>match E.NU f with
  |some k=>bif zk k.md then(k.md.zip args.toList).flatMap fun(m,q)=>match m,q with
    | .ro,.tmp t=>ops.flatMap fun p=>match p.dst,p.op with
     |some d,.move (.tmp v)=>bif Nat.beq d t then[v] else[]
     |_,_=>[]
    |_,_=>[] else[]
  |none=>[]
 |_=>[]
def qW(l:List Key)(σ:ah U):ah U:=l.foldl (fun σ k=>kO k σ) σ
def rootOf(ops:List Oper)(t:Nat):Nat:=match ops.find? (fun p=>p.dst.any (Nat.beq t)) with
 |some p=>match p.op with
  | .move (.tmp v)=>v
  |_=>t
 |none=>t
def Mc(ops:List Oper)(σ:ah U):List Key:=ops.flatMap fun o=>match o.op with
 | .makeFunc _ _ oe=>oe.toList.flatMap fun q=>match q with
  | .tmp t=>match σ.get (rootOf ops t) with
   |some (.v ⟨_,[.ji k _]⟩)=>match σ.aU k with
    |some (.box cs)=>cs.flatMap fun c=>match c with
     | .ref q []=>[q]
     |_=>[]
    |_=>[]
   |_=>[]
  |_=>[]
 |_=>[]
def DC(E:Env U)(ops:List Oper)(σ:ah U):ah U:=qW (Mc ops (pW (LQ E ops) (enter ops σ))) (pW (LQ E ops) (enter ops σ))
def wq(ops:List Oper)(draw:Bool)(σ:ah U)(K:ah U->Prop):Prop:=
 wpOps E ops ops 0 (DC E ops σ) [] fun lK rs=>bif !draw||K8 ops rs then K (settle ops lK) else False
inductive Out (U:jO) where
 |normal (σ:ah U)
 |exit (id:Nat) (σ:ah U)
 |ret (σ:ah U)
structure Ai(U:jO) where
 X:Type
 bw:X->List (Nat×SV U)
 cT:X->List (Key×eX U)
 un:ah U->(X->Prop)->Prop
 nil:List (pF×U.Ty×Option Bool)
 frz:List Nat
 frk:List Key
 shk:List Key
 prt:List Key
 I:X->X->Prop
 μ:X->Nat
 all:(X->Prop)->Prop
 abr:∀P,all P->∀y,P y
 names:List Nat
 inn:∀x,∀p∈bw x,p.1∈names
 nin:∀p∈nil,∀s j,p.1=pF.slot s j->s∈names
 law:∀σ K,un σ K->∃x,K x/\(∀p∈bw x,σ.get p.1=some p.2)/\(∀p∈cT x,σ.aU p.1=some p.2)
 lck:List Key:=[]
 rlk:List Key:=[]
def wv(l:List Nat)(σ:ah U):ah U:=l.foldl (fun σ d=>rr d σ) σ
def aek(σ:ah U):List Key:=(boxes σ).filter (fun k=>Nat.blt k.2 1024)++(boxes σ).filter (fun k=>Nat.ble 1024 k.2)
def OK(σ:ah U):ah U:=ww (aek σ) σ
def Kq(A:Ai U)(σ:ah U):ah U:=parts A.prt<|Nd A.nil (qW A.frk (pW A.frz (LO A.lck (Ly A.shk (LD A.rlk (me (OK (wv A.names (me σ)))))))))
def gY:Code->Option Nat
 | .region id _ _=>some id
 | .seq a b=>match gY a with|some i=>some i|none=>gY b
 | .cond _ a b=>match gY a with|some i=>some i|none=>gY b
 | .block _ b=>gY b
 | .loop b=>gY b
 |_=>none
def np(A:Ai U)(wr:List Nat)(σ:ah U)(x:A.X):ah U:=
 ⟨σ.n,
  (A.bw x).map (fun(s,v)=>(s,some v))++
   ((wu [] σ.bw).filter fun(s,v)=> !(wr.any (Nat.beq s))&& !(A.names.any (Nat.beq s))&&(match v with|some (.v y)=>(SV.v y).keys.isEmpty|some (.fn _)=>true|_=>false)),
  (A.cT x).map fun(k,e)=>(k,some e),
  []⟩
variable(n9:Nat->Option (Ai U))
def cutAt(c:Code):Option (Ai U):=match gY c with
 |some r=>n9 (1000000+r)
 |none=>none
def eA:Code->List Nat
 | .region _ ops _=>As ops.toList
 | .seq a b=>eA a++eA b++(match cutAt n9 b with|some A=>A.names|none=>[])
 | .cond _ a b=>eA a++eA b
 | .block _ b=>eA b
 | .loop b=>eA b++(match(gY b).bind n9 with|some A=>A.names|none=>[])
 |_=>[]
def wp:Code->ah U->(Out U->Prop)->Prop
 | .skip,σ,Q=>Q (.normal σ)
 | .seq a b,σ,Q=>match cutAt n9 b with
  |none=>wp a σ fun
   | .normal lK=>wp b lK Q
   |o=>Q o
  |some A=>A.un (Kq A σ) fun x=>(wp a σ fun
   | .normal lK=>A.un (Kq A lK) fun z=>A.I x z
   |o=>Q o)/\A.all fun y=>A.I x y->wp b (np A (eA n9 a) σ y) Q
 | .cond c t e,σ,Q=>match y6 σ c with
  |some (.bool b)=>bif b then wp t σ Q else wp e σ Q
  |_=>False
 | .block id c,σ,Q=>wp c σ fun
  | .exit id' lK=>bif Nat.beq id' id then Q (.normal lK) else Q (.exit id' lK)
  |o=>Q o
 | .loop c,σ,Q=>match(gY c).bind n9 with
  |some A=>A.un (Kq A σ) fun x=>A.I x x/\
    A.all fun y=>A.I x y->wp c (np A (eA n9 c) σ y) fun
     | .normal lK=>A.un (Kq A lK) fun z=>A.I x z/\A.μ z<A.μ y
     |o=>Q o
  |none=>False
 | .exit id,σ,Q=>Q (.exit id σ)
 | .ret,σ,Q=>Q (.ret σ)
 | .region _ ops draw,σ,Q=>wq E ops.toList draw σ fun lK=>Q (.normal lK)
 |_,_,_=>False
end
end
end AM
