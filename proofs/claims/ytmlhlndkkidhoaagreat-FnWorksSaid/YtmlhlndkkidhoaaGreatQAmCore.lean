/- THE ABSTRACT MACHINE: a weakest precondition over the model's Code, on typed data. Definitions only. -/
import Derived.Calls
import Derived.Orders
import Derived.Laws.AppendOwn
import Derived.Below
import Derived.Laws.BytesArg
namespace AM
theorem cA:type_of% @List.mem_cons_of_mem:=@List.mem_cons_of_mem
theorem gj:type_of% @List.mem_cons_self:=@List.mem_cons_self
theorem eY:type_of% @List.getD_eq_getElem?_getD:=@List.getD_eq_getElem?_getD
theorem fo:type_of% @List.getElem?_eq_getElem:=@List.getElem?_eq_getElem
theorem gx:type_of% @Option.some.injEq:=@Option.some.injEq
theorem cK:type_of% @Bool.and_eq_true:=@Bool.and_eq_true
theorem mI:type_of% @Option.isSome_iff_exists:=@Option.isSome_iff_exists
theorem h_:type_of% @Bool.cond_eq_ite:=@Bool.cond_eq_ite
theorem mM:type_of% @Nat.eq_of_beq_eq_true:=@Nat.eq_of_beq_eq_true
theorem nz:type_of% @List.getElem?_eq_none:=@List.getElem?_eq_none
theorem jQ:type_of% @List.mem_cons:=@List.mem_cons
theorem nk:type_of% @List.getElem?_map:=@List.getElem?_map
theorem t_:type_of% @List.getElem?_cons_zero:=@List.getElem?_cons_zero
theorem oJ:type_of% @List.getElem?_take:=@List.getElem?_take
theorem jr:type_of% @List.mem_append:=@List.mem_append
theorem wC:type_of% @List.getElem?_append_right:=@List.getElem?_append_right
theorem vC:type_of% @List.getElem?_append_left:=@List.getElem?_append_left
theorem qC:type_of% @List.mem_append_left:=@List.mem_append_left
theorem pS:type_of% @List.mem_append_right:=@List.mem_append_right
theorem nT:type_of% @List.mem_flatMap:=@List.mem_flatMap
theorem ma:type_of% @List.mem_singleton:=@List.mem_singleton
theorem qB:type_of% @List.nodup_append:=@List.nodup_append
theorem oH:type_of% @List.length_take:=@List.length_take
theorem ox:type_of% @Prod.mk.injEq:=@Prod.mk.injEq
theorem oN:type_of% @List.mem_range:=@List.mem_range
theorem lB:type_of% @List.mem_map:=@List.mem_map
theorem nV:type_of% @Nat.lt_or_ge:=@Nat.lt_or_ge
theorem tZ:type_of% @List.any_eq_true:=@List.any_eq_true
theorem zy:type_of% @Nat.mul_le_mul_right:=@Nat.mul_le_mul_right
theorem ql:type_of% @Bool.not_eq_true':=@Bool.not_eq_true'
theorem sN:type_of% @List.nodup_cons:=@List.nodup_cons
theorem J8:type_of% @List.length_modify:=@List.length_modify
theorem wx:type_of% @Bool.false_eq_true:=@Bool.false_eq_true
theorem Em:type_of% @List.eq_nil_of_length_eq_zero:=@List.eq_nil_of_length_eq_zero
theorem pF:type_of% @Bool.false_and:=@Bool.false_and
theorem yi:type_of% @Bool.not_eq_true:=@Bool.not_eq_true
theorem ri:type_of% @List.getElem_of_mem:=@List.getElem_of_mem
theorem EM:type_of% @List.mem_of_getElem?:=@List.mem_of_getElem?
theorem yh:type_of% @List.flatMap_cons:=@List.flatMap_cons
theorem El:type_of% @Array.length_toList:=@Array.length_toList
theorem fO:type_of% @List.length_nil:=@List.length_nil
theorem zbp:type_of% @Int.tmod_eq_emod_of_nonneg:=@Int.tmod_eq_emod_of_nonneg
theorem gv:type_of% @List.length_cons:=@List.length_cons
theorem wB:type_of% @List.append_assoc:=@List.append_assoc
theorem va:type_of% @Bool.and_false:=@Bool.and_false
theorem uY:type_of% @List.map_cons:=@List.map_cons
theorem H5:type_of% @Nat.le_of_ble_eq_true:=@Nat.le_of_ble_eq_true
theorem FV:type_of% @List.getElem?_drop:=@List.getElem?_drop
theorem tY:type_of% @Nat.zero_add:=@Nat.zero_add
theorem Kk:type_of% @Array.getElem?_toList:=@Array.getElem?_toList
theorem Ot:type_of% @Array.getD_eq_getD_getElem?:=@Array.getD_eq_getD_getElem?
theorem Kj:type_of% @List.flatten_cons:=@List.flatten_cons
theorem s_:type_of% @Nat.le_refl:=@Nat.le_refl
theorem rh:type_of% @List.all_eq_true:=@List.all_eq_true
theorem J7:type_of% @List.flatten_append:=@List.flatten_append
theorem Ek:type_of% @Option.map_some:=@Option.map_some
theorem kg:type_of% @List.length_append:=@List.length_append
theorem LA:type_of% @List.not_mem_nil:=@List.not_mem_nil
theorem wA:type_of% @List.mem_filter:=@List.mem_filter
theorem ww:type_of% @List.append_nil:=@List.append_nil
theorem wz:type_of% @Nat.add_mul:=@Nat.add_mul
theorem FU:type_of% @Option.getD_some:=@Option.getD_some
theorem u_:type_of% @Bool.true_and:=@Bool.true_and
theorem Lz:type_of% @List.getElem?_range:=@List.getElem?_range
theorem H2:type_of% @Bool.eq_iff_iff:=@Bool.eq_iff_iff
theorem Ee:type_of% @Bool.or_eq_true:=@Bool.or_eq_true
theorem wv:type_of% @List.length_map:=@List.length_map
theorem Oc:type_of% @Bool.or_eq_false_iff:=@Bool.or_eq_false_iff
theorem Tr:type_of% @List.take_append_drop:=@List.take_append_drop
theorem Ob:type_of% @List.map_congr_left:=@List.map_congr_left
theorem J6:type_of% @List.length_drop:=@List.length_drop
theorem MD:type_of% @List.flatMap_def:=@List.flatMap_def
theorem Ly:type_of% @List.length_set:=@List.length_set
theorem H0:type_of% @Nat.add_zero:=@Nat.add_zero
theorem FT:type_of% @Bool.false_or:=@Bool.false_or
theorem Oq:type_of% @List.ext_getElem?:=@List.ext_getElem?
theorem Tq:type_of% @List.take_of_length_le:=@List.take_of_length_le
theorem zcz:type_of% @List.take_succ_eq_append_getElem:=@List.take_succ_eq_append_getElem
theorem Ed:type_of% @List.getElem_mem:=@List.getElem_mem
theorem EL:type_of% @Bool.and_true:=@Bool.and_true
theorem Ki:type_of% @List.sum_cons:=@List.sum_cons
theorem zdd:type_of% @List.cons.injEq:=@List.cons.injEq
theorem wu:type_of% @Nat.le_trans:=@Nat.le_trans
theorem Tp:type_of% @Option.getD_none:=@Option.getD_none
theorem zdg:type_of% @List.nodup_iff_pairwise_ne:=@List.nodup_iff_pairwise_ne
theorem To:type_of% @List.getElem?_set:=@List.getElem?_set
theorem VJ:type_of% @List.Sublist.refl:=@List.Sublist.refl
theorem VH:type_of% @List.size_toArray:=@List.size_toArray
theorem zdk:type_of% @Array.getElem?_eq_getElem:=@Array.getElem?_eq_getElem
theorem Oo:type_of% @Nat.add_assoc:=@Nat.add_assoc
theorem zdm:type_of% @List.eq_nil_iff_forall_not_mem:=@List.eq_nil_iff_forall_not_mem
theorem Lx:type_of% @Nat.beq_eq:=@Nat.beq_eq
theorem On:type_of% @List.any_map:=@List.any_map
theorem zdp:type_of% @List.getElem?_set_self:=@List.getElem?_set_self
theorem W5:type_of% @List.mem_flatten:=@List.mem_flatten
theorem Om:type_of% @List.all_cons:=@List.all_cons
theorem zds:type_of% @Nat.lt_of_lt_of_le:=@Nat.lt_of_lt_of_le
theorem Kh:type_of% @List.length_filter_le:=@List.length_filter_le
theorem W4:type_of% @List.nodup_nil:=@List.nodup_nil
theorem Tn:type_of% @List.pairwise_iff_getElem:=@List.pairwise_iff_getElem
theorem Ol:type_of% @Nat.one_mul:=@Nat.one_mul
theorem W3:type_of% @Option.some.inj:=@Option.some.inj
theorem zdy:type_of% @Option.bind_eq_some_iff:=@Option.bind_eq_some_iff
theorem zdz:type_of% @List.getElem?_replicate:=@List.getElem?_replicate
theorem Tm:type_of% @Bool.not_false:=@Bool.not_false
theorem zeb:type_of% @List.find?_eq_none:=@List.find?_eq_none
theorem Tl:type_of% @Nat.mul_comm:=@Nat.mul_comm
theorem zed:type_of% @List.getElem?_toArray:=@List.getElem?_toArray
theorem zee:type_of% @List.length_replicate:=@List.length_replicate
theorem Kg:type_of% @List.map_append:=@List.map_append
theorem Tk:type_of% @List.any_cons:=@List.any_cons
theorem W2:type_of% @Bool.or_false:=@Bool.or_false
theorem W1:type_of% @List.getElem?_modify:=@List.getElem?_modify
theorem zej:type_of% @List.getElem?_zipIdx:=@List.getElem?_zipIdx
theorem zek:type_of% @List.getElem?_set_ne:=@List.getElem?_set_ne
theorem S9:type_of% @List.drop_eq_getElem_cons:=@List.drop_eq_getElem_cons
theorem zem:type_of% @List.sublist_append_right:=@List.sublist_append_right
theorem zen:type_of% @List.flatMap_nil:=@List.flatMap_nil
theorem zeo:type_of% @Array.toList_map:=@Array.toList_map
theorem S8:type_of% @List.flatMap_append:=@List.flatMap_append
theorem S7:type_of% @Nat.ble_eq:=@Nat.ble_eq
theorem zer:type_of% @List.sublist_append_left:=@List.sublist_append_left
theorem Oj:type_of% @List.all_nil:=@List.all_nil
theorem zet:type_of% @List.sum_append:=@List.sum_append
theorem zeu:type_of% @Int.toNat_natCast:=@Int.toNat_natCast
theorem W0:type_of% @Nat.sub_self:=@Nat.sub_self
theorem zew:type_of% @Nat.add_comm:=@Nat.add_comm
theorem zex:type_of% @List.cons_append:=@List.cons_append
theorem zey:type_of% @List.flatten_nil:=@List.flatten_nil
theorem zez:type_of% @Nat.div_eq_of_lt:=@Nat.div_eq_of_lt
theorem zfa:type_of% @Bool.not_true:=@Bool.not_true
set_option linter.unusedVariables false
noncomputable section
open Go
inductive Cell (Ty:Type) (T:Ty->Type) where
 |lit (v:Value)
 |sl (τ:Ty) (xs:List (T τ))
structure kZ where
 Ty:Type
 T:Ty->Type
 deq:DecidableEq Ty
 wd:Ty->Nat
 enc:(τ:Ty)->T τ->List (Cell Ty T)
 dec:(τ:Ty)->List (Cell Ty T)->Option (T τ)
 e_:(τ:Ty)->T τ
 flat:Ty->Bool
 kJ:∀τ,0<wd τ
 dj:∀τ x,(enc τ x).length=wd τ
 lp:∀τ cs x,dec τ cs=some x->enc τ x=cs
 Mc:∀τ,flat τ=true->∀x c,c∈enc τ x->∃v,c=.lit v
 ot:Ty
 VO:T ot->Int
 ofB:Int->T ot
 LF:∀n,VO (ofB n)=n
 Fz:∀x,enc ot x=[.lit (.int .u8 (VO x))]
abbrev kZ.C(U:kZ):=Cell U.Ty U.T
structure iX(U:kZ) where
 τ:U.Ty
 xs:List (U.T τ)
abbrev Key:=Nat×Nat
abbrev Path:=List (Nat×Nat×Nat)
inductive AC (U:kZ) where
 |c (x:U.C)
 |e0
 |ref (k:Key) (p:Path)
 |sub (k:Key) (wd lo hi:Nat)
 |lg (k:Key) (p:Path) (i wd off:Nat)
 |kc (k:Key) (off:Nat)
 |ia (cs:List U.C)
 |kn (b:Bool) (τ:U.Ty) (xs:List (U.T τ))
structure AV(U:kZ) where
 agg:Bool
 cs:List (AC U)
structure DA(U:kZ) where
 agg:Bool
 cs:List U.C
inductive SV (U:kZ) where
 |v (x:AV U)
 |vf (xs:List (AV U))
 |fn (p:List (DA U)->Option Value)
 |FE (g:FuncId) (pq:List (AV U))
inductive iv (U:kZ) where
 |arr (a:iX U) (deep:Bool)
 |box (cs:List (AC U))
 |part (a:iX U) (dead:Nat->Bool)
structure ah(U:kZ) where
 n:Nat
 bz:List (Nat×Option (SV U))
 nU:List (Key×Option (iv U))
 aK:List Key
def look{β:Type}(l:List (Nat×Option β))(s:Nat):Option β:=
 match l with
 |[]=>none
 |(t,v)::r=>bif Nat.beq t s then v else look r s
def iJ(a b:Key):Bool:=Nat.beq a.1 b.1&&Nat.beq a.2 b.2
def eD{β:Type}(l:List (Key×Option β))(k:Key):Option β:=
 match l with
 |[]=>none
 |(t,v)::r=>bif iJ t k then v else eD r k
def ah.get{U:kZ}(σ:ah U)(s:Nat):Option (SV U):=look σ.bz s
def ah.bJ{U:kZ}(σ:ah U)(k:Key):Option (iv U):=eD σ.nU k
inductive DV (U:kZ) where
 |one (c:U.C)
 |agg (cs:List U.C)
 |box (cs:List U.C)
 |ptr (cs:List U.C)
 |fn (p:List (DA U)->Option Value)
inductive Mode where
 |ro|wr|mv
 |box (own:Bool)
 deriving DecidableEq
structure Res(U:kZ) where
 val:List (DV U)
 fresh:List Bool
 IV:List (DV U)
structure bp(U:kZ) where
 α:Type
 md:List Mode
 of:List (DV U)->Option α
 ds:α->List (DV U)
 pre:α->List Prop
 bT:α->Res U
 law:∀l x,of l=some x->ds x=l
 Iq:Nat:=0
 cut:Nat:=0
def bp.want{U:kZ}(k:bp U)(ws:List (List (Option U.Ty))):List (List (Option U.Ty)):=match k.cut with
 |0=>ws
 |n+1=>ws.map (List.take (n+1))
structure Env(U:kZ) where
 P:Program
 tid:U.Ty->TypeId
 code:TypeId->Option U.Ty
 NY:FuncId->Option (bp U)
 NX:FuncId->Option (bp U):=fun _=>none
 Xr:List (Nat×Array Value):=[]
 f_:TypeId->Nat->List Key->Bool:=fun _ _ _=>false
 shl:TypeId->Bool:=fun _=>false
section
variable{U:kZ}(E:Env U)
def Env.und(t:TypeId):Option TypeDesc:=E.P.underlying t
def Env.isAgg(t:TypeId):Option Bool:=match E.P.underlying t with|some (.struct _)=>some true|some (.array _ _)=>some true|some _=>some false|none=>none
def Env.size(t:TypeId):Option Nat:=(E.P.info? t).map (·.size)
def Env.elem(t:TypeId):Option TypeId:=match E.P.underlying t with|some (.slice e)=>some e|_=>none
def Env.U7(t:TypeId)(f:Nat):Option (Nat×TypeId):=match E.P.underlying t with|some (.struct fs)=>(fs[f]?).map fun f=>(f.offset,f.type)|_=>none
def Env.shape:Nat->TypeId->List (Option U.Ty)
 |0,_=>[]
 |d+1,t=>match E.P.underlying t with
  |some (.struct fs)=>fs.toList.flatMap fun f=>Env.shape d f.type
  |some (.slice e)=>[E.code e]
  |_=>[none]
def Env.yu(t:TypeId):List (Option U.Ty):=match E.P.underlying t with
 |some (.pointer e)=>E.shape 8 e
 |_=>E.shape 8 t
def walk:Path->iX U->Option (List Prop×iX U)
 |[],a=>some ([],a)
 |(i,wd,j)::p,a=>
  bif Nat.beq wd (U.wd a.τ) then
   match(U.enc a.τ (a.xs.getD i (U.e_ a.τ)))[j]? with
   |some (.sl τ xs)=>match walk p ⟨τ,xs⟩ with
    |some (ps,b)=>some ((i<a.xs.length)::ps,b)
    |none=>none
   |_=>none
  else none
def VU(τ:U.Ty)(g:List U.C->List U.C)(x:U.T τ):U.T τ:=match U.dec τ (g (U.enc τ x)) with|some y=>y|none=>x
def Gt(τ:U.Ty)(xs:List (U.T τ))(i:Nat)(g:List U.C->List U.C):List (U.T τ):=xs.modify i (VU τ g)
theorem acq{τ:U.Ty}{xs:List (U.T τ)}{i:Nat}{g:List U.C->List U.C}{y:U.T τ}(h:U.dec τ (g (U.enc τ (xs.getD i (U.e_ τ))))=some y):Gt τ xs i g=xs.set i y:=by
 unfold Gt
 refine Oq fun j=> ?_
 rw[W1,To]
 by_cases hj:i=j
 ·subst hj
  rw[if_pos rfl]
  by_cases hi:i<xs.length
  ·rw[if_pos hi,fo hi]
   rw[eY,fo hi] at h
   simp only[FU] at h
   simp[VU,h]
  ·rw[if_neg hi,nz (by omega)];rfl
 ·rw[if_neg hj]
  simp[hj]
def chg:Path->iX U->(iX U->Option (iX U))->Option (iX U)
 |[],a,f=>f a
 |(i,_,j)::p,a,f=>
  let cs:=U.enc a.τ (a.xs.getD i (U.e_ a.τ))
  match cs[j]? with
  |some (.sl τ xs)=>
   match chg p ⟨τ,xs⟩ f with
   |some b=>match U.dec a.τ (cs.set j (.sl b.τ b.xs)) with
    |some _=>some ⟨a.τ,Gt a.τ a.xs i (fun cs=>cs.set j (.sl b.τ b.xs))⟩
    |none=>none
   |none=>none
  |_=>none
def iV(τ:U.Ty)(a:iX U):Option (List (U.T τ)):=
 match U.deq a.τ τ with
 | .isTrue h=>some (h▸a.xs)
 | .isFalse _=>none
abbrev pQ(U:kZ):=Key->Option (iv U)
structure cd(U:kZ) where
 val:Option (SV U)
 dG:List (Nat×iv U)
 k_:List Key
 jE:List (Key×iv U)
 pre:List Prop
def cd.cG(v:SV U)(pre:List Prop:=[]):cd U:=⟨some v,[],[],[],pre⟩
def one(x:AC U):SV U:=.v ⟨false,[x]⟩
def u4(v:Value):SV U:=one (.c (.lit v))
def cd.lit(v:Value)(pre:List Prop:=[]):cd U:=.cG (u4 v) pre
def fL(tb:pQ U)(aK:List Key)(k:Key)(p:Path):Bool:=p.isEmpty||((tb k).isSome&& !(aK.any (iJ k)))
def Dy(tb:pQ U)(aK:List Key):AC U->Bool
 | .ref k p=>fL tb aK k p
 | .lg k p _ _ _=>fL tb aK k p
 |_=>true
def tK(tb:pQ U)(aK:List Key)(cs:List (AC U)):Bool:=cs.all (Dy tb aK)
def ou(tb:pQ U)(aK:List Key):AC U->Option (List Prop×iX U)
 | .c (.sl τ xs)=>some ([],⟨τ,xs⟩)
 | .kn _ τ xs=>some ([],⟨τ,xs⟩)
 | .ref k p=>match tb k with
  |some (.arr a _)=>bif fL tb aK k p then walk p a else none
  |_=>none
 | .sub k wd lo hi=>match tb k with
  |some (.arr a _)=>bif Nat.beq wd (U.wd a.τ) then some ([hi<=a.xs.length],⟨a.τ,(a.xs.take hi).drop lo⟩) else none
  |_=>none
 |_=>none
def zi(tb:pQ U)(aK:List Key):AC U->Option (List Prop×iX U)
 | .ref k ((i,wd,j)::p)=>match tb k with
  |some (.part a dead)=>bif fL tb aK k ((i,wd,j)::p) then(match walk ((i,wd,j)::p) a with|some (ps,b)=>some ((dead i=false)::ps,b)|none=>none) else none
  |_=>none
 |_=>none
def cellOf(tb:pQ U)(aK:List Key)(want:Option U.Ty):AC U->Option (List Prop×U.C)
 | .c x=>some ([],x)
 | .e0=>match want with|some τ=>some ([],.sl τ [])|none=>none
 |x=>match ou tb aK x with
  |some (ps,a)=>some (ps,.sl a.τ a.xs)
  |none=>match zi tb aK x with
   |some (ps,a)=>some (ps,.sl a.τ a.xs)
   |none=>none
def cellsOf(tb:pQ U)(aK:List Key):List (Option U.Ty)->List (AC U)->Option (List Prop×List U.C)
 |_,[]=>some ([],[])
 |ws,x::r=>
  match cellOf tb aK (ws.head?.bind id) x,cellsOf tb aK ws.tail r with
  |some (ps,c),some (qs,cs)=>some (ps++qs,c::cs)
  |_,_=>none
def tf(tb:pQ U)(want:Option U.Ty):AC U->Option (List Prop×U.C×List Key×Bool)
 | .c (.lit v)=>some ([],.lit v,[],true)
 | .c (.sl τ xs)=>some ([],.sl τ xs,[],false)
 | .e0=>match want with|some τ=>some ([],.sl τ [],[],true)|none=>none
 | .ref k []=>match tb k with
  |some (.arr a d)=>some ([],.sl a.τ a.xs,[k],d)
  |some (.part a dead)=>some ([∀i,i<a.xs.length->dead i=false],.sl a.τ a.xs,[k],true)
  |_=>none
 | .sub k _ 0 hi=>match tb k with
  |some (.arr a d)=>some ([hi<=a.xs.length],.sl a.τ (a.xs.take hi),[k],d)
  |some (.part a dead)=>some ([hi<=a.xs.length,∀i,i<hi->dead i=false],.sl a.τ (a.xs.take hi),[k],true)
  |_=>none
 |_=>none
def fa(tb:pQ U):List (Option U.Ty)->List (AC U)->Option (List Prop×List U.C×List Key×Bool)
 |_,[]=>some ([],[],[],true)
 |ws,x::r=>
  match tf tb (ws.head?.bind id) x,fa tb ws.tail r with
  |some (ps,c,ks,d),some (qs,cs,ks',d')=>some (ps++qs,c::cs,ks++ks',d&&d')
  |_,_=>none
def distinct:List Key->Bool
 |[]=>true
 |k::r=> !(r.any (iJ k))&&distinct r
def CX(t:TypeId)(op:BinOp)(x y:Value):Option (List Prop×Value):=
 match x,y with
 | .int k a,.int k' b=>
  match op with
  | .shl=>some ([0<=b],.int k (k.wrap (a*2^(min b.toNat k.bits))))
  | .shr=>some ([0<=b],.int k (a.fdiv (2^(min b.toNat k.bits))))
  |op=>bif decide (k=k') then(match op with
   | .add=>some ([],.int k (k.wrap (a+b)))
   | .sub=>some ([],.int k (k.wrap (a-b)))
   | .mul=>some ([],.int k (k.wrap (a*b)))
   | .quo=>some ([b≠0],.int k (k.wrap (a.tdiv b)))
   | .rem=>some ([b≠0],.int k (a.tmod b))
   | .and=>some ([],.int k (k.wrap (BitVec.ofInt k.bits a&&&BitVec.ofInt k.bits b).toNat))
   | .or=>some ([],.int k (k.wrap (BitVec.ofInt k.bits a|||BitVec.ofInt k.bits b).toNat))
   | .xor=>some ([],.int k (k.wrap (BitVec.ofInt k.bits a^^^BitVec.ofInt k.bits b).toNat))
   | .eql=>some ([],.bool (a==b))
   | .neq=>some ([],.bool (a !=b))
   | .lss=>some ([],.bool (decide (a<b)))
   | .leq=>some ([],.bool (decide (a<=b)))
   | .gtr=>some ([],.bool (decide (a>b)))
   | .geq=>some ([],.bool (decide (a≥b)))
   |_=>none) else none
 | .string a,.string b=>
  match op with
  | .add=>some ([(a.size+b.size:Nat)<=(4611686018427387904:Nat)],.string (a++b))
  | .eql=>some ([],.bool (a.toList==b.toList))
  | .neq=>some ([],.bool (!(a.toList==b.toList)))
  | .lss=>some ([],.bool (Op.bytesLess a.toList b.toList))
  | .leq=>some ([],.bool (Op.bytesLess a.toList b.toList||a.toList==b.toList))
  | .gtr=>some ([],.bool (!(Op.bytesLess a.toList b.toList||a.toList==b.toList)))
  | .geq=>some ([],.bool (!(Op.bytesLess a.toList b.toList)))
  |_=>none
 | .bool a,.bool b=>
  match E.P.underlying t with
  |some .bool=>match op with
   | .eql=>some ([],.bool (a==b))
   | .neq=>some ([],.bool (!(a==b)))
   |_=>none
  |_=>none
 |_,_=>none
def Env.Lg:Nat->TypeId->List Value->List Value->Option Bool
 |0,_,_,_=>none
 |d+1,t,xs,ys=>match E.P.underlying t with
  |some (.struct fs)=>bif E.P.stoodInHeld t then none else
    fs.toList.foldr (fun f acc=>match E.size f.type,E.isAgg f.type,acc with
     |some n,some g,some r=>bif f.name != "_" &&Nat.ble (f.offset+n) xs.length&&Nat.ble (f.offset+n) ys.length&&(g||Nat.beq n 1) then
       (match Env.Lg d f.type ((xs.drop f.offset).take n) ((ys.drop f.offset).take n) with
       |some b=>some (b&&r)
       |none=>none) else none
     |_,_,_=>none) (some true)
  |some .bool=>match xs,ys with|[.bool a],[.bool b]=>some (a==b)|_,_=>none
  |some (.int _)=>match xs,ys with|[.int k a],[.int k' b]=>bif decide (k=k') then some (a==b) else none|_,_=>none
  |some .string=>match xs,ys with|[.string a],[.string b]=>some (a.toList==b.toList)|_,_=>none
  |_=>none
def qK:List (AC U)->Option (List Value)
 |[]=>some []
 | .c (.lit v)::r=>match qK r with|some l=>some (v::l)|none=>none
 |_=>none
def Qs(op:BinOp)(t:TypeId)(x y:SV U):Option (cd U):=match x,y with
 | .v ⟨true,xs⟩,.v ⟨true,ys⟩=>match qK xs,qK ys with
  |some us,some vs=>match E.isAgg t with
   |some true=>bif E.P.eqGuardType E.P.depth t then none else(match op,E.Lg 8 t us vs with
    | .eql,some b=>some (cd.lit (.bool b))
    | .neq,some b=>some (cd.lit (.bool (!b)))
    |_,_=>none)
   |_=>none
  |_,_=>none
 |_,_=>none
def I0(op:UnOp)(x:Value):Option Value:=
 match op,x with
 | .neg,.int k n=>some (.int k (k.wrap (0-n)))
 | .not,.bool b=>some (.bool (!b))
 |_,_=>none
def oM:Value->Option (AC U)
 | .slice none 0 0=>some .e0
 | .pointer none=>some (.c (.lit (.pointer none)))
 | .int k n=>bif decide (k.min<=n)&&decide (n<=k.max) then some (.c (.lit (.int k n))) else none
 | .bool b=>some (.c (.lit (.bool b)))
 | .string s=>bif Nat.ble s.size 9223372036854775807 then some (.c (.lit (.string s))) else none
 |_=>none
def jC:List Value->Option (List (AC U))
 |[]=>some []
 |v::r=>match oM v,jC r with
  |some x,some l=>some (x::l)
  |_,_=>none
def qU(cs:Array Value):Option (SV U):=match jC cs.toList with|some l=>some (.v ⟨true,l⟩)|none=>none
def GZ:Value->Option (SV U)
 | .agg cs=>qU cs
 |v=>match oM v with|some x=>some (one x)|none=>none
def KL(σ:ah U):Operand->Option (SV U)
 | .tmp t=>σ.get t
 | .const v=>GZ v
 | .global _=>none
 | .func g=>some (.FE g [])
def AC.keys:AC U->List Key
 | .c _| .e0| .ia _| .kn _ _ _=>[]
 | .ref k _| .sub k _ _ _| .lg k _ _ _ _| .kc k _=>[k]
def SV.AQ:SV U->List (AC U)
 | .v x=>x.cs
 | .vf xs=>xs.flatMap (·.cs)
 | .fn _=>[]
 | .FE _ xs=>xs.flatMap (·.cs)
def SV.keys(x:SV U):List Key:=x.AQ.flatMap AC.keys
def ah.AN(σ:ah U)(k:Key):List Key:=
 match σ.bJ k with
 |some (.box cs)=>cs.flatMap AC.keys
 |_=>[]
def reach(σ:ah U)(xs:List (SV U)):List Key:=
 let ks:=xs.flatMap SV.keys
 ks++ks.flatMap σ.AN
def LR(o:Oper):Bool:=match o.op with
 | .nilCheck _=>true
 | .fieldAddr _ _ _=>true
 |_=>false
def LC(o:Oper):Bool:=match o.op with
 | .move _=>true
 | .assign _=>true
 |_=>false
def oZ(σ:ah U)(o:Oper)(xs:List (SV U)):List Key:=bif LC o then[] else bif LR o then xs.flatMap SV.keys else reach σ xs
def restrict(tb:pQ U)(ks:List Key):pQ U:=fun k=>bif ks.any (iJ k) then tb k else none
def gY(k:Key)(p:Path)(i wd:Nat):List U.C->Nat->List (AC U)
 |[],_=>[]
 | .lit v::r,j=> .c (.lit v)::gY k p i wd r (j+1)
 | .sl _ _::r,j=> .ref k (p++[(i,wd,j)])::gY k p i wd r (j+1)
def loadAt(tb:pQ U)(aK:List Key)(agg:Bool)(n:Nat)(x:AC U):Option (cd U):=
 bif agg||Nat.beq n 1 then
  match x with
  | .ia cs=>bif Nat.ble n cs.length then some (.cG (.v ⟨agg,(cs.take n).map .c⟩)) else none
  | .kc k off=>match tb k with
   |some (.box cs)=>bif Nat.ble (off+n) cs.length then some (.cG (.v ⟨agg,(cs.drop off).take n⟩)) else none
   |_=>none
  | .lg k p i wd off=>match tb k with
   |some (.arr a _)=>bif fL tb aK k p then
     match walk p a with
     |some (ps,b)=>
      bif Nat.ble (off+n) (U.wd b.τ)&&Nat.beq wd (U.wd b.τ) then
       some (.cG (.v ⟨agg,gY k p i wd (((U.enc b.τ (b.xs.getD i (U.e_ b.τ))).drop off).take n) off⟩) (ps++[i<b.xs.length]))
      else none
     |none=>none
    else none
   |_=>none
  |_=>none
 else none
def CU(tb:pQ U)(agg:Bool)(n:Nat):AC U->Option (cd U)
 | .lg k [] i wd off=>match tb k with
  |some (.arr a false)=>bif (agg||Nat.beq n 1)&&Nat.ble (off+n) (U.wd a.τ)&&Nat.beq wd (U.wd a.τ) then
    some (.cG (.v ⟨agg,(((U.enc a.τ (a.xs.getD i (U.e_ a.τ))).drop off).take n).map .c⟩) [i<a.xs.length]) else none
  |_=>none
 |_=>none
def FW:List U.C->List (Option U.Ty)
 |[]=>[]
 | .sl τ _::r=>some τ::FW r
 | .lit _::r=>none::FW r
def F9(off i:Nat)(ds:List U.C)(b:iX U):Option (iX U):=
 let cs:=U.enc b.τ (b.xs.getD i (U.e_ b.τ))
 match U.dec b.τ (cs.take off++ds++cs.drop (off+ds.length)) with
 |some y=>some ⟨b.τ,bif Nat.beq ds.length (U.wd b.τ) then b.xs.set i y else Gt b.τ b.xs i (fun cs=>cs.take off++ds++cs.drop (off+ds.length))⟩
 |none=>none
theorem XI(off i:Nat)(ds:List U.C)(b:iX U):F9 off i ds b=match U.dec b.τ ((U.enc b.τ (b.xs.getD i (U.e_ b.τ))).take off++ds++(U.enc b.τ (b.xs.getD i (U.e_ b.τ))).drop (off+ds.length)) with|some y=>some ⟨b.τ,b.xs.set i y⟩|none=>none:=by
 unfold F9
 simp only
 split
 ·rename_i y h
  cases Nat.beq ds.length (U.wd b.τ)
  ·simp only[cond_false];rw[acq h]
  ·rfl
 ·rfl
def storeAt(tb:pQ U)(aK:List Key)(x:AV U):AC U->Option (cd U)
 | .kc k off=>match tb k with
  |some (.box cs)=>bif Nat.ble (off+x.cs.length) cs.length then
    some ⟨none,[],[],[(k,.box (cs.take off++x.cs++cs.drop (off+x.cs.length)))],[]⟩ else none
  |_=>none
 | .lg k p i wd off=>match tb k with
  |some (.arr a d)=>bif fL tb aK k p then
    match walk p a with
    |some (ps,b)=>match fa tb (FW ((U.enc b.τ (b.xs.getD i (U.e_ b.τ))).drop off)) x.cs with
     |some (qs,ds,ks,d')=>match chg p a (F9 off i ds) with
      |some a'=>bif Nat.beq wd (U.wd b.τ)&&Nat.ble (off+ds.length) (U.wd b.τ)&&distinct (k::ks)&&((d&&d')||p.isEmpty) then
        some ⟨none,[],ks,[(k,.arr a' (d&&d'))],ps++qs++[i<b.xs.length]⟩ else none
      |none=>none
     |none=>none
    |none=>none
   else none
  |_=>none
 |_=>none
def plain:List (AC U)->Option (List U.C)
 |[]=>some []
 | .c x::r=>match plain r with|some l=>some (x::l)|none=>none
 |_=>none
def vN:List U.C->Bool
 |[]=>true
 | .lit _::r=>vN r
 |_=>false
def rowsOf(τ:U.Ty)(tb:pQ U)(want:List (Option U.Ty)):List (SV U)->Option (List Prop×List (U.T τ)×List Key×Bool)
 |[]=>some ([],[],[],true)
 | .v x::r=>
  match fa tb want x.cs,rowsOf τ tb want r with
  |some (ps,cs,ks,d),some (qs,xs,ks',d')=>
   match U.dec τ cs with
   |some y=>some (ps++qs,y::xs,ks++ks',d&&d')
   |none=>none
  |_,_=>none
 |_=>none
def Env.KJ(t:TypeId):Option (List (Nat×Nat)):=match E.P.underlying t with
 |some (.struct fs)=>fs.toList.mapM (fun f=>(E.P.info? f.type).map fun i=>(f.offset,i.size))
 |_=>none
def hH(pl:List (Nat×Nat))(cells:List (AC U)):List Nat->List (SV U)->Option (List (AC U))
 |[],[]=>some cells
 |f::fs,.v x::r=>match pl[f]? with
  |some (off,n)=>bif Nat.beq x.cs.length n&&Nat.ble (off+n) cells.length then hH pl (cells.take off++x.cs++cells.drop (off+n)) fs r else none
  |none=>none
 |_,_=>none
def at8 (v:Value):Option Int:=match v with| .int _ n=>some n|_=>none
def iR :SV U->Option Value
 | .v ⟨false,[.c (.lit v)]⟩=>some v
 |_=>none
def tT :SV U->Option (AC U)
 | .v ⟨false,[x]⟩=>some x
 |_=>none
def Cr{α:Type}:List (Option α)->Option (List α)
 |[]=>some []
 |some x::r=>match Cr r with|some l=>some (x::l)|none=>none
 |none::_=>none
def FL:Option Operand->List (SV U)->Option (Option Int×List (SV U))
 |none,bs=>some (none,bs)
 |some _,b::bs=>match iR b with
  |some (.int _ n)=>some (some n,bs)
  |_=>none
 |some _,[]=>none
def ub(tb:pQ U)(aK:List Key)(t:TypeId)(x:SV U)(l h m:Option Int):Option (cd U):=
 match m with
 |some mm=>match h,tT x,(E.elem t).bind E.size with
  |some hh,some y,some _=>match ou tb aK y with
   |some (ps,_)=>some (.cG (one .e0) (ps++[mm=0,hh=0,l.getD 0=0]))
   |none=>match y with
    | .e0=>some (.cG (one .e0) [mm=0,hh=0,l.getD 0=0])
    |_=>none
  |_,_,_=>none
 |none=>match iR x with
  |some (.string s)=>match E.P.underlying t with
   |some .string=>some (.lit (.string (s.extract (l.getD 0).toNat (h.getD s.size).toNat)) [0<=l.getD 0,l.getD 0<=h.getD s.size,h.getD s.size<=s.size])
   |_=>none
  |some _=>none
  |none=>match tT x,(E.elem t).bind E.size with
   |some (.c (.sl τ ys)),some n=>bif Nat.beq n (U.wd τ) then
     some (.cG (one (.c (.sl τ ((ys.take (h.getD ys.length).toNat).drop (l.getD 0).toNat)))) [0<=l.getD 0,l.getD 0<=h.getD ys.length,h.getD ys.length<=ys.length]) else none
   |some (.ref k []),some n=>match tb k with
    |some (.arr r _)=>bif Nat.beq n (U.wd r.τ) then
      some (.cG (one (.sub k (U.wd r.τ) (l.getD 0).toNat (h.getD r.xs.length).toNat)) [0<=l.getD 0,l.getD 0<=h.getD r.xs.length,h.getD r.xs.length<=r.xs.length]) else none
    |some (.part r _)=>bif Nat.beq n (U.wd r.τ) then
      some (.cG (one (.sub k (U.wd r.τ) (l.getD 0).toNat (h.getD r.xs.length).toNat)) [0<=l.getD 0,l.getD 0<=h.getD r.xs.length,h.getD r.xs.length<=r.xs.length]) else none
    |_=>none
   |_,_=>none
def tP(tb:pQ U)(aK:List Key)(want:List (Option U.Ty))(x:SV U):Option (List Prop×DV U):=
 match x with
 | .v ⟨false,[.ia cs]⟩=>some ([],.ptr cs)
 | .v ⟨false,[.kc k off]⟩=>match tb k with
  |some (.box cs)=>match plain cs with|some l=>some ([],.ptr (l.drop off))|none=>none
  |_=>none
 | .v ⟨false,[y]⟩=>match cellOf tb aK (want.head?.bind id) y with|some (ps,c)=>some (ps,.one c)|none=>none
 | .v ⟨true,cs⟩=>match cellsOf tb aK want cs with|some (ps,l)=>some (ps,.agg l)|none=>none
 |_=>none
def DA.dv:DA U->DV U
 |⟨false,[c]⟩=> .one c
 |⟨_,cs⟩=> .agg cs
noncomputable def ic(k:bp U)(pq:List (DV U))(ds:List (DA U)):Option Value:=
 match k.of (ds.map DA.dv++pq) with
 |some x=>match(k.bT x).val,(k.bT x).IV with
  |[.one (.lit v)],[]=>@ite _ (k.md.length=ds.length+pq.length/\∀p∈k.pre x,p) (Classical.propDecidable _) (some v) none
  |_,_=>none
 |none=>none
def tL(tb:pQ U)(aK:List Key):List (AV U)->Option (List Prop×List (DV U))
 |[]=>some ([],[])
 |x::r=>match tP tb aK [] (.v x),tL tb aK r with
  |some (ps,d),some (qs,ds)=>some (ps++qs,d::ds)
  |_,_=>none
def qe:List Mode->Bool
 |[]=>true
 | .ro::r=>qe r
 |_=>false
def JT(tb:pQ U)(aK:List Key)(want:List (Option U.Ty))(x:SV U):Option (List Prop×DV U):=
 match x with
 | .fn p=>some ([],.fn p)
 | .FE g xs=>match E.NY g,tL tb aK xs with
  |some k,some (ps,ds)=>bif qe k.md&&Nat.ble xs.length k.md.length then some (ps,.fn (ic k ds)) else none
  |_,_=>none
 |x=>tP tb aK want x
def Lj(x:AV U)(cs:List U.C):Option (DV U):=
 bif x.agg then some (.agg cs) else match cs with|[c]=>some (.one c)|_=>none
def js(tb:pQ U):List (AC U)->Option (List U.C×List Key)
 |[]=>some ([],[])
 | .c (.lit v)::r=>match js tb r with|some (cs,ks)=>some (.lit v::cs,ks)|none=>none
 | .ref k []::r=>match tb k,js tb r with
  |some (.arr a true),some (cs,ks)=>some (.sl a.τ a.xs::cs,k::ks)
  |_,_=>none
 |_=>none
def AC.still:AC U->Bool
 | .c _=>true
 | .e0=>true
 | .ref _ []=>true
 | .kc _ _=>true
 |_=>false
def lJ(tb:pQ U)(aK:List Key)(want:List (Option U.Ty))(m:Mode)(x:SV U):Option (List Prop×DV U×List Key):=
 match m,x with
 | .wr,.v ⟨false,[.ref k p]⟩=>match tb k with
  |some (.arr a true)=>bif fL tb aK k p then match walk p a with|some (ps,b)=>some (ps,.one (.sl b.τ b.xs),[k])|none=>none else none
  |_=>none
 | .wr,.v ⟨true,cs⟩=>match js tb cs with
  |some (ds,ks)=>bif distinct ks then some ([],.agg ds,ks) else none
  |none=>none
 | .mv,.v y=>match fa tb want y.cs with
  |some (ps,cs,ks,true)=>match Lj y cs with
   |some d=>bif distinct ks then some (ps,d,ks) else none
   |none=>none
  |_=>none
 | .box true,.v ⟨false,[.kc k 0]⟩=>match tb k with
  |some (.box cs)=>bif Nat.ble want.length cs.length&&(cs.drop want.length).all AC.still then
    match fa tb want (cs.take want.length) with
    |some (ps,l,ks,true)=>bif distinct (k::ks) then some (ps,.box l,k::ks) else none
    |_=>none
   else none
  |_=>none
 | .box false,.v ⟨false,[.kc k 0]⟩=>match tb k with
  |some (.box cs)=>bif Nat.ble want.length cs.length&&(cs.drop want.length).all AC.still then
    match plain (cs.take want.length) with
    |some l=>some ([],.box l,[k])
    |none=>none
   else none
  |_=>none
 |_,_=>none
def tQ(tb:pQ U)(aK:List Key)(want:List (Option U.Ty))(m:Mode)(x:SV U):Option (List Prop×DV U):=
 match m with
 | .ro=>JT E tb aK want x
 |m=>match lJ tb aK want m x with|some (ps,d,_)=>some (ps,d)|none=>none
def nf(tb:pQ U)(aK:List Key):List Mode->List (List (Option U.Ty))->List (SV U)->Option (List Prop×List (DV U))
 |[],_,[]=>some ([],[])
 |m::ms,ws,x::r=>
  match tQ E tb aK (ws.headD []) m x,nf tb aK ms ws.tail r with
  |some (ps,d),some (qs,ds)=>some (ps++qs,d::ds)
  |_,_=>none
 |_,_,_=>none
def putCells(dst:Nat)(fresh:Bool)(base:Nat):List U.C->List (AC U)×List (Nat×iv U)
 |[]=>([],[])
 | .lit v::r=>(.c (.lit v)::(putCells dst fresh (base+1) r).1,(putCells dst fresh (base+1) r).2)
 | .sl τ xs::r=>bif fresh then(.ref (dst,base) []::(putCells dst fresh (base+1) r).1,(base,.arr ⟨τ,xs⟩ true)::(putCells dst fresh (base+1) r).2)
   else(.c (.sl τ xs)::(putCells dst fresh (base+1) r).1,(putCells dst fresh (base+1) r).2)
def ID(dst:Nat)(fresh:Bool)(base:Nat):DV U->Option (AV U×List (Nat×iv U))
 | .one c=>some (⟨false,(putCells dst fresh base [c]).1⟩,(putCells dst fresh base [c]).2)
 | .agg cs=>some (⟨true,(putCells dst fresh base cs).1⟩,(putCells dst fresh base cs).2)
 | .box cs=>bif fresh then some (⟨false,[.kc (dst,base) 0]⟩,[(base,.box (cs.map .c))]) else none
 | .ptr _=>none
 | .fn _=>none
def CE(dst:Nat)(fs:List Bool)(base:Nat):List (DV U)->Option (List (AV U)×List (Nat×iv U))
 |[]=>some ([],[])
 |d::r=>match ID dst (fs.headD true) base d,CE dst fs.tail (base+32) r with
  |some (x,e),some (xs,es)=>some (x::xs,e++es)
  |_,_=>none
def DV.safe(fresh:Bool):DV U->Bool
 | .one c=>fresh||vN [c]
 | .agg cs=>fresh||vN cs
 | .box _=>false
 | .ptr _=>false
 | .fn _=>false
def ud:List Bool->List (DV U)->Bool
 |_,[]=>true
 |fs,d::r=>d.safe (fs.headD true)&&ud fs.tail r
def yX(ms:List Mode):Bool:=ms.any fun m=>match m with| .box false=>true|_=>false
def lN:List (AC U)->List U.C->Option (List (Key×iv U))
 |[],[]=>some []
 | .c (.lit _)::r,.lit _::cs=>lN r cs
 | .ref k []::r,.sl τ ys::cs=>match lN r cs with|some us=>some ((k,.arr ⟨τ,ys⟩ true)::us)|none=>none
 |_,_=>none
def ij(tb:pQ U)(m8 n:Nat)(m:Mode)(x:SV U)(dm:List (DV U)):Option (List (Key×iv U)×List (Nat×iv U)):=
 match m,x,dm with
 | .wr,.v ⟨false,[.ref k p]⟩,[.one (.sl τ ys)]=>match tb k with
  |some (.arr a true)=>match chg p a (fun b=>match iV b.τ ⟨τ,ys⟩ with|some zs=>some ⟨b.τ,zs⟩|none=>none) with
   |some a'=>some ([(k,.arr a' true)],[])
   |none=>none
  |_=>none
 | .wr,.v ⟨true,cs⟩,[.agg ds]=>match lN cs ds with|some us=>some (us,[])|none=>none
 | .mv,_,[]=>some ([],[])
 | .box true,.v ⟨false,[.kc k 0]⟩,[.box ds]=>match tb k with
  |some (.box cs)=>bif Nat.beq ds.length n then some ([(k,.box ((putCells m8 true 512 ds).1++cs.drop n))],(putCells m8 true 512 ds).2) else none
  |_=>none
 | .box false,.v ⟨false,[.kc k 0]⟩,[.box ds]=>match tb k with
  |some (.box cs)=>bif Nat.beq ds.length n then some ([(k,.box (ds.map .c++cs.drop n))],[]) else none
  |_=>none
 |_,_,_=>none
def Aw:Mode->List (DV U)->List (DV U)
 | .mv,_=>[]
 |_,ds=>ds.take 1
def wZ:Mode->List (DV U)->List (DV U)
 | .mv,ds=>ds
 |_,ds=>ds.drop 1
def lH(tb:pQ U)(aK:List Key)(m8:Nat):List Mode->List (List (Option U.Ty))->List (SV U)->List (DV U)->Option (List (Key×iv U)×List (Nat×iv U)×List Key)
 |[],_,[],[]=>some ([],[],[])
 | .ro::ms,ws,_::r,ds=>lH tb aK m8 ms ws.tail r ds
 |m::ms,ws,x::r,ds=>match lJ tb aK (ws.headD []) m x,ij tb m8 (ws.headD []).length m x (Aw m ds) with
  |some (_,_,ks),some (us,es)=>match lH tb aK m8 ms ws.tail r (wZ m ds) with
   |some (Od,Zs,ks')=>bif distinct (ks++ks') then some (us++Od,es++Zs,ks++ks') else none
   |none=>none
  |_,_=>none
 |_,_,_,_=>none
def fc:List Mode->List (SV U)->List Key
 | .ro::ms,x::r=>x.keys++fc ms r
 |_::ms,_::r=>fc ms r
 |_,_=>[]
def nc:List Nat->Bool
 |[]=>true
 |n::r=> !(r.any (Nat.beq n))&&nc r
def Cz(tb:pQ U)(n:Nat):List Mode->List (List (Option U.Ty))->List (SV U)->Bool
 |m::ms,ws,x::r=>(match m,x with
  | .box _,.v ⟨false,[.kc k _]⟩=>(match tb k with
   |some (.box cs)=>Nat.beq ((ws.headD []).length+n) cs.length
   |_=>false)
  | .box _,_=>false
  |_,_=>true)&&Cz tb n ms ws.tail r
 |_,_,_=>true
def ze(tb:pQ U)(aK:List Key)(dst:Nat)(k:bp U)(types:List TypeId)(xs:List (SV U)):Option (cd U):=
 match nf E tb aK k.md (k.want (types.map E.yu)) xs with
 |some (ps,ds)=>
  match k.of ds with
  |some x=>
   match lH tb aK dst k.md (k.want (types.map E.yu)) xs (k.bT x).IV,CE dst (k.bT x).fresh 0 (k.bT x).val with
   |some (us,eb,lk),some (vs,es)=>
    let k_:=(bif ud (k.bT x).fresh (k.bT x).val&& !(yX k.md) then[] else fc k.md xs)++lk
    bif nc ((es++eb).map (·.1))&& !(lk.any fun u=>(fc k.md xs).any (iJ u))&&Cz tb k.Iq k.md (k.want (types.map E.yu)) xs then
     some ⟨some (match vs with|[v]=> .v v|vs=> .vf vs),es++eb,k_,us,ps++k.pre x⟩
    else none
   |_,_=>none
  |none=>none
 |none=>none
def Gr(τ:U.Ty)(tb:pQ U):AC U->Option (List Prop×List (U.T τ)×List Key×Bool)
 | .e0=>some ([],[],[],true)
 | .ref k []=>match tb k with
  |some (.arr a d)=>match iV τ a with|some ys=>some ([],ys,[k],d)|none=>none
  |_=>none
 | .c (.sl EK ys)=>match iV τ ⟨EK,ys⟩ with|some ys=>some ([],ys,[],U.flat τ)|none=>none
 |_=>none
def abx:AC U->AC U
 | .kn _ τ xs=> .c (.sl τ xs)
 |x=>x
def KP(τ:U.Ty)(tb:pQ U)(x:AC U):Option (List Prop×List (U.T τ)×List Key×Bool):=Gr τ tb (abx x)
def As(τ:U.Ty)(s:ByteArray):Option (List (U.T τ)):=iV τ ⟨U.ot,s.data.toList.map fun b=>U.ofB (b.toNat:Int)⟩
def tz(τ:U.Ty)(tb:pQ U):AC U->Option (List Prop×List (U.T τ)×List Key×Bool)
 | .e0=>some ([],[],[],true)
 | .ref k []=>match tb k with
  |some (.arr a d)=>match iV τ a with|some ys=>some ([],ys,[k],d)|none=>none
  |some (.part a dead)=>match iV τ a with|some ys=>some ([∀i,i<ys.length->dead i=false],ys,[k],true)|none=>none
  |_=>none
 | .sub k _ 0 hi=>match tb k with
  |some (.arr a d)=>match iV τ a with|some ys=>some ([hi<=ys.length],ys.take hi,[k],d)|none=>none
  |_=>none
 |_=>none
def Po(E:Env U)(op:BinOp)(t:TypeId)(y:Operand)(x:SV U):Option (cd U):=
 match op,y,x with
 | .eql,.const (.slice none _ _),.v ⟨false,[.kn b _ _]⟩=>match E.P.underlying t with|some (.slice _)=>some (.lit (.bool b))|_=>none
 |_,_,_=>none
def cy:Option Value->Bool
 |some (.bool b)=>b
 |_=>false
def intOf:Option Value->Int
 |some (.int _ n)=>n
 |_=>0
def z9(tb:pQ U)(aK:List Key):List (List (Option U.Ty))->List (SV U)->Option (List Prop×List (DA U))
 |_,[]=>some ([],[])
 |ws,x::r=>match tP tb aK (ws.headD []) x,z9 tb aK ws.tail r with
  |some (ps,.one c),some (qs,ds)=>some (ps++qs,⟨false,[c]⟩::ds)
  |some (ps,.agg cs),some (qs,ds)=>some (ps++qs,⟨true,cs⟩::ds)
  |_,_=>none
def partOf(tb:pQ U):AC U->Option (iX U)
 | .ref k []=>match tb k with
  |some (.part a _)=>some a
  |_=>none
 |_=>none
def KQ(tb:pQ U)(dst:Nat)(agg:Bool)(n:Nat):AC U->Option (cd U)
 | .lg k [] i wd off=>match tb k with
  |some (.part a dead)=>bif (agg||Nat.beq n 1)&&Nat.ble (off+n) (U.wd a.τ)&&Nat.beq wd (U.wd a.τ) then
    let cs:=((U.enc a.τ (a.xs.getD i (U.e_ a.τ))).drop off).take n
    bif vN cs then some (.cG (.v ⟨agg,cs.map .c⟩) [i<a.xs.length,dead i=false])
    else bif Nat.blt n (U.wd a.τ) then some (.cG (.v ⟨agg,gY k [] i wd cs off⟩) [i<a.xs.length,dead i=false])
    else bif nc ((putCells dst true 0 cs).2.map (·.1)) then
     some ⟨some (.v ⟨agg,(putCells dst true 0 cs).1⟩),(putCells dst true 0 cs).2,[],[(k,.part a (fun j=>Nat.beq j i||dead j))],[i<a.xs.length,dead i=false]⟩
    else none
   else none
  |_=>none
 |_=>none
def CZ(wd:Nat):List (SV U)->Bool
 |[]=>true
 | .v x::r=>Nat.beq x.cs.length wd&&CZ wd r
 |_=>false
def Gk(τ:U.Ty)(tb:pQ U):AC U->Option (List (U.T τ)×List Key)
 | .ref k []=>match tb k with
  |some (.part a _)=>match iV τ a with|some ys=>some (ys,[k])|none=>none
  |_=>none
 |_=>none
def yp(tb:pQ U)(x:AV U):AC U->Option (cd U)
 | .lg k [] i wd 0=>match tb k with
  |some (.part a dead)=>bif Nat.beq wd (U.wd a.τ)&&Nat.beq x.cs.length wd then
    match fa tb (FW (U.enc a.τ (a.xs.getD i (U.e_ a.τ)))) x.cs with
    |some (qs,ds,ks,true)=>match U.dec a.τ ds with
     |some y=>bif distinct (k::ks) then some ⟨none,[],ks,[(k,.part ⟨a.τ,a.xs.set i y⟩ (fun j=> !(Nat.beq j i)&&dead j))],qs++[i<a.xs.length]⟩ else none
     |none=>none
    |_=>none
   else none
  |_=>none
 |_=>none
def yr(tb:pQ U)(x:AV U):AC U->Option (cd U)
 | .lg k [] i wd off=>match tb k,qK x.cs with
  |some (.part a dead),some vs=>bif Nat.beq wd (U.wd a.τ)&&Nat.ble (off+x.cs.length) wd then
    match F9 off i (vs.map .lit) a with
    |some a'=>some ⟨none,[],[],[(k,.part a' dead)],[i<a.xs.length,dead i=false]⟩
    |none=>none
   else none
  |_,_=>none
 |_=>none
def Aa:List (SV U)->Option (List (AV U))
 |[]=>some []
 | .v x::r=>match Aa r with|some l=>some (x::l)|none=>none
 |_=>none
def Dj(E:Env U)(tb:pQ U)(aK:List Key)(t:TypeId)(types:List TypeId)(p:List (DA U)->Option Value)(xs:List (SV U)):Option (cd U):=
 match z9 tb aK (types.map E.yu) xs with
 |some (ps,ds)=>match E.P.underlying t with
  |some .bool=>some (.lit (.bool (cy (p ds))) (ps++[p ds=some (.bool (cy (p ds)))]))
  |some (.int k)=>some (.lit (.int k (intOf (p ds))) (ps++[p ds=some (.int k (intOf (p ds)))]))
  |_=>none
 |none=>none
def Env.Ve(b:Bool)(f:FuncId):Option (bp U):=bif b then E.NX f else E.NY f
def y_(b:Bool)(tb:pQ U)(aK:List Key)(o:Oper)(xs:List (SV U)):Option (cd U):=
 let dst:=o.dst.getD 1000000
 match o.op,xs with
 | .move _,[x]=>some (.cG x)
 | .assign _,[x]=>some (.cG x)
 | .unOp op _ _,[x]=>match iR x with
  |some v=>(I0 op v).map (.lit ·)
  |none=>none
 | .binOp op t _ q _,[x,y]=>match iR x,iR y with
  |some a,some b=>(CX E t op a b).map fun(ps,v)=> .lit v ps
  |_,_=>match Qs E op t x y with|some r=>some r|none=>Po E op t q x
 | .extract _ i,[.vf l]=>(l[i]?).map fun v=> .cG (.v v)
 | .alloc t,[]=>
  match(E.P.info? t).bind (·.zero) with
  |some z=>match qU (U:=U) z.cells with
   |some (.v x)=>some ⟨some (one (.kc (dst,0) 0)),[(0,.box x.cs)],[],[],[]⟩
   |_=>none
  |none=>none
 | .load t _,[x]=>match tT x,E.size t,E.isAgg t with
  |some a,some n,some g=>match(bif E.shl t then CU tb g n a else none) with
   |some r=>some r
   |none=>match loadAt tb aK g n a with
    |some r=>some r
    |none=>KQ tb dst g n a
  |_,_,_=>none
 | .store t _ _,[p,.v x]=>match tT p,E.size t with
  |some a,some n=>bif Nat.beq n x.cs.length then(match storeAt tb aK x a with
   |some r=>some r
   |none=>match yp tb x a with
    |some r=>some r
    |none=>yr tb x a) else none
  |_,_=>none
 | .fieldAddr t _ f,[x]=>match tT x,E.U7 t f with
  |some y,some (o,ft)=>match E.size ft with
   |some (_+1)=>match y with
    | .ia cs=>some (.cG (one (.ia (cs.drop o))))
    | .kc k off=>some (.cG (one (.kc k (off+o))))
    | .lg k p i wd off=>bif fL tb aK k p then some (.cG (one (.lg k p i wd (off+o)))) else none
    |_=>none
   |_=>none
  |_,_=>none
 | .field t _ f,[.v ⟨true,cs⟩]=>match E.U7 t f with
  |some (o,ft)=>match E.size ft,E.isAgg ft with
   |some n,some g=>bif Nat.ble (o+n) cs.length&&(g||Nat.beq n 1) then some (.cG (.v ⟨g,(cs.drop o).take n⟩)) else none
   |_,_=>none
  |none=>none
 | .build t parts,xs=>match E.KJ t,(E.P.info? t).bind (·.zero) with
  |some pl,some z=>match jC (U:=U) z.cells.toList with
   |some l=>match hH pl l (parts.toList.map (·.1)) xs with
    |some cs=>some (.cG (.v ⟨true,cs⟩))
    |none=>none
   |none=>none
  |_,_=>none
 | .buildSlice t len parts,xs=>match E.elem t with
  |some e=>match E.code e with
   |some τ=>bif (parts.toList.map (·.1)).length.beq len&&((parts.toList.map (·.1)).zipIdx).all (fun(a,b)=>Nat.beq a b)&&Nat.ble (len*U.wd τ) 1000000 then
     bif E.f_ t dst (xs.flatMap SV.keys) then
      bif CZ (U.wd τ) xs then some ⟨some (one (.ref (dst,0) [])),[(0,.part ⟨τ,List.replicate len (U.e_ τ)⟩ (fun _=>true))],[],[],[]⟩ else none
     else match rowsOf τ tb (E.shape 8 e) xs with
     |some (ps,rows,ks,d)=>bif distinct ks then some ⟨some (one (.ref (dst,0) [])),[(0,.arr ⟨τ,rows⟩ d)],ks,[],ps⟩ else none
     |none=>none
    else none
   |none=>none
  |none=>none
 | .makeSlice t _ _,[l,c]=>match E.elem t,iR l,iR c with
  |some e,some (.int .i64 n),some (.int .i64 m)=>match E.code e with
   |some τ=>some ⟨some (one (.ref (dst,0) [])),[(0,.arr ⟨τ,List.replicate n.toNat (U.e_ τ)⟩ true)],[],[],[0<=n,n=m,n<=4294967296]⟩
   |none=>none
  |_,_,_=>none
 | .indexAddr t _ _,[x,i]=>match iR i,tT x,(E.elem t).bind E.size with
  |some (.int _ n),some y,some m=>match y with
   | .c (.sl τ ys)=>bif Nat.beq m (U.wd τ) then some (.cG (one (.ia (U.enc τ (ys.getD n.toNat (U.e_ τ))))) [0<=n,n.toNat<ys.length]) else none
   | .ref k p=>match ou tb aK (.ref k p) with
    |some (ps,a)=>bif Nat.beq m (U.wd a.τ) then some (.cG (one (.lg k p n.toNat (U.wd a.τ) 0)) (ps++[0<=n,n.toNat<a.xs.length])) else none
    |none=>match p,partOf tb (.ref k []) with
     |[],some a=>bif Nat.beq m (U.wd a.τ) then some (.cG (one (.lg k [] n.toNat (U.wd a.τ) 0)) [0<=n,n.toNat<a.xs.length]) else none
     |_,_=>none
   |_=>none
  |_,_,_=>none
 | .index t _ _,[x,i]=>match iR x,iR i,E.P.underlying t with
  |some (.string s),some (.int _ n),some .string=>some (.lit (.int .u8 ((s.data.toList.getD n.toNat 0).toNat:Int)) [0<=n,n.toNat<s.size])
  |_,_,_=>none
 | .slice t _ lo hi mx,x::bs=>match FL lo bs with
  |some (l,bs1)=>match FL hi bs1 with
   |some (h,bs2)=>match FL mx bs2 with
    |some (m,[])=>ub E tb aK t x l h m
    |_=>none
   |none=>none
  |none=>none
 | .call {callee:=.builtin .len,argTypes,..},[x]=>match argTypes.toList with
  |[t]=>match iR x with
   |some (.string s)=>match E.P.underlying t with
    |some .string=>some (.lit (.int .i64 s.size))
    |_=>none
   |some _=>none
   |none=>match tT x,E.elem t with
    |some .e0,some _=>some (.lit (.int .i64 0))
    |some a,some _=>match ou tb aK a with
     |some (ps,b)=>some (.lit (.int .i64 b.xs.length) ps)
     |none=>match partOf tb a with
      |some b=>some (.lit (.int .i64 b.xs.length))
      |none=>none
    |_,_=>none
  |_=>none
 | .call {callee:=.builtin .clear,argTypes,..},[x]=>match argTypes.toList with
  |[t]=>match E.elem t,tT x with
   |some e,some (.sub k wd lo hi)=>match E.code e,tb k with
    |some τ,some (.part a dead)=>bif Nat.beq wd (U.wd a.τ) then(match iV τ a with
     |some xs=>some ⟨some (.vf []),[],[],[(k,.part ⟨τ,xs⟩ (fun j=>dead j||Nat.ble lo j))],[lo<=hi,hi=xs.length]⟩
     |none=>none) else none
    |_,_=>none
   |_,_=>none
  |_=>none
 | .call {callee:=.builtin .min,..},[x,y]=>match iR x,iR y with
  |some (.int k a),some (.int k' b)=>bif decide (k=k') then some (.lit (.int k (if b<a then b else a))) else none
  |_,_=>none
 | .call {callee:=.builtin .max,..},[x,y]=>match iR x,iR y with
  |some (.int k a),some (.int k' b)=>bif decide (k=k') then some (.lit (.int k (if b>a then b else a))) else none
  |_,_=>none
 | .call {callee:=.builtin .append,argTypes,..},[s,x]=>
  match argTypes.toList with
  |[t,u]=>match E.elem t,E.elem u,tT s,tT x with
   |some e,some e',some s,some x=>bif Nat.beq t u&&Nat.beq e e' then
    match E.code e with
    |some τ=>
     match tz τ tb s,KP τ tb x with
     |some (ps,xs,ks,d),some (qs,ys,ks',d')=>
      bif distinct (ks++ks') then
       some ⟨some (one (.ref (dst,0) [])),[(0,.arr ⟨τ,xs++ys⟩ (d&&d'))],ks++ks',[],ps++qs++[xs.length+ys.length<=4294967296]⟩
      else none
     |some (ps,xs,ks,true),none=>match Gk τ tb x with
      |some (ys,ks')=>bif distinct (ks++ks') then
        some ⟨some (one (.ref (dst,0) [])),[(0,.part ⟨τ,xs++ys⟩ (fun i=>Nat.ble xs.length i))],ks++ks',[],ps++[xs.length+ys.length<=4294967296]⟩
       else none
      |none=>none
     |_,_=>none
    |none=>none else none
   |some e,none,some s,some (.c (.lit (.string str)))=>match E.P.underlying u,E.code e with
    |some .string,some τ=>match tz τ tb s,As τ str with
     |some (ps,xs,ks,d),some ys=>bif distinct ks then
       some ⟨some (one (.ref (dst,0) [])),[(0,.arr ⟨τ,xs++ys⟩ d)],ks,[],ps++[xs.length+ys.length<=4294967296]⟩ else none
     |_,_=>none
    |_,_=>none
   |_,_,_,_=>none
  |_=>none
 | .makeFunc (.func g) first _,xs=>bif first.isEmpty then(match Aa xs with|some l=>some (.cG (.FE g l))|none=>none) else none
 | .call {callee:=.value (.tmp _),argTypes,..},.fn p::xs=>Dj E tb aK o.type argTypes.toList p xs
 | .call {callee:=.value (.func f),argTypes,..},xs=>match E.Ve b f with
  |some k=>ze E tb aK dst k argTypes.toList xs
  |none=>none
 | .box _ _,[.v x]=>bif tK tb aK x.cs&&(x.agg||Nat.beq x.cs.length 1) then some ⟨some (one (.kc (dst,0) 0)),[(0,.box x.cs)],[],[],[]⟩ else none
 | .nilCheck _,[x]=>match tT x with
  |some (.ia _)=>some (.cG x)
  |some (.kc _ _)=>some (.cG x)
  |some (.lg k p _ _ _)=>bif fL tb aK k p then some (.cG x) else none
  |_=>none
 | .convert s d _,[x]=>match E.P.underlying d with
  |some (.int k)=>match E.P.underlying s,iR x with
   |some (.int _),some (.int _ n)=>some (.lit (.int k (k.wrap n)))
   |_,_=>none
  |some .string=>match E.P.underlying s with
   |some (.slice e)=>match E.P.underlying e,tT x with
    |some (.int .u8),some .e0=>some (.lit (.string ByteArray.empty))
    |some (.int .u8),some y=>match ou tb aK y with
     |some (ps,b)=>match iV U.ot b with
      |some ys=>some (.lit (.string (strOfNums (ys.map U.VO))) ps)
      |none=>none
     |none=>none
    |_,_=>none
   |_=>none
  |_=>none
 |_,_=>none
def Oper.looks(o:Oper):List Operand:=
 match o.op with
 | .build _ ps=>ps.toList.map (·.2)
 | .buildSlice _ _ ps=>ps.toList.map (·.2)
 | .call c=>(match c.callee with| .value (.func _)=>[]| .builtin _=>[]| .value f=>[f]| .invoke r _=>[r])++c.args.toList
 |op=>op.operands.toList
def qw(σ:ah U)(o:Oper):Option (List (SV U)):=Cr ((Oper.looks o).map (KL σ))
def qb(σ:ah U)(o:Oper):Bool:=match o.dst with|some d=>Nat.blt d σ.n|none=>true
def EU(x:Option (SV U)):Option Value:=match x with|some y=>iR y|none=>none
def yE(σ:ah U)(x:Operand):Option Value:=EU (KL σ x)
def kindOk(o:Oper):Bool:=match o.op with
 | .store _ _ _=>o.dst.isNone
 | .alloc _| .box _ _| .buildSlice _ _ _| .makeSlice _ _ _=>o.dst.isSome
 | .call c=>(match c.callee with| .builtin .clear=>true| .builtin _=>o.dst.isSome|_=>true)
 |_=>true
def step(b:Bool)(σ:ah U)(o:Oper):Option (cd U×List Key):=
 bif qb σ o&&kindOk o then
  match o.op with
  | .pick c a b=>
   match yE σ c with
   |some (.bool t)=>match(bif t then KL σ a else KL σ b) with
    |some x=>some (.cG x,[])
    |none=>none
   |_=>none
  |_=>match qw σ o with
   |some xs=>match y_ E b (restrict σ.bJ (oZ σ o xs)) σ.aK o xs with
    |some r=>some (r,oZ σ o xs)
    |none=>none
   |none=>none
 else none
def pa(dst:Nat)(l:List (Nat×iv U)):List (Key×Option (iv U)):=l.map fun(j,e)=>((dst,j),some e)
def apply(o:Oper)(r:cd U)(σ:ah U):ah U:=
 {σ with
  bz:=(match o.dst with|some d=>(d,r.val)::σ.bz|none=>σ.bz)
  nU:=pa (o.dst.getD 1000000) r.dG++r.jE.map (fun(k,e)=>(k,some e))++r.k_.map (fun k=>(k,none))++σ.nU
  aK:=r.jE.map (·.1)++σ.aK}
def yo:cd U:=⟨some (.vf []),[],[],[],[]⟩
structure Rec where
 i:Nat
 reads:List Key
 names:List Key
 writes:List Key
 news:List Key
def cd.news(dst:Nat)(r:cd U):List Key:=r.dG.map fun(j,_)=>(dst,j)
def cd.writes(dst:Nat)(r:cd U):List Key:=r.dG.map (fun(j,_)=>(dst,j))++r.k_++r.jE.map (·.1)
def iv.names:iv U->List Key
 | .box cs=>cs.flatMap AC.keys
 | .arr _ _=>[]
 | .part _ _=>[]
def cd.names(r:cd U):List Key:=
 (match r.val with|some x=>x.keys|none=>[])++r.dG.flatMap (fun(_,e)=>e.names)++r.jE.flatMap (fun(_,e)=>e.names)
def rR(dst:Nat)(r:cd U)(rs:List Rec):Bool:=r.dG.isEmpty||rs.all fun x=> !((x.reads++x.names++x.writes).any fun k=>Nat.beq k.1 dst)
def wa(o:Oper)(r:cd U):Bool:=r.dG.all fun(j,_)=>Nat.blt j 1024
def meet(a b:List Key):Bool:=a.any fun k=>b.any (iJ k)
def aoN(ops:List Oper):List Nat:=
 ops.foldl (fun acc o=>acc++[o.after.toList.foldl (fun m e=>bif Region.binds .any e then Nat.lor m (Nat.lor (Nat.shiftLeft 1 e.on) (acc.getD e.on 0)) else m) 0]) []
def xF(m i:Nat):Bool:=Nat.beq (Nat.land (Nat.shiftRight m i) 1) 1
def yY(ops:List Oper)(o:Oper):List Nat:=
 match o.guard with
 |some (g,_)=>match ops[g]? with|some q=>q.dst.toList|none=>[]
 |none=>[]
def slotsOf(ops:List Oper)(o:Oper):List Nat:=
 (o.op.operands.toList.flatMap fun| .tmp t=>[t]|_=>[])++yY ops o
def G5(ops:List Oper)(x y:Oper)(rx ry:Rec):Bool:=
 !(meet rx.writes (ry.reads++ry.writes))&& !(meet ry.writes rx.reads)&& !(meet rx.news ry.names)&&
 (match x.dst with|some d=> !((slotsOf ops y).any (Nat.beq d))&& !(y.dst.any (Nat.beq d))|none=>true)&&
 (match y.dst with|some d=> !((slotsOf ops x).any (Nat.beq d))|none=>true)
def VR(ops:List Oper):Bool:=ops.zipIdx.all fun(o,i)=>o.after.toList.all fun e=> !(Region.binds .any e)||Nat.blt e.on i
def Lk(ops:List Oper)(abN:List Rec):Bool:=
 let an:=aoN ops
 VR ops&&abN.all fun ry=>abN.all fun rx=>
  !(Nat.blt rx.i ry.i)||xF (an.getD ry.i 0) rx.i||
  (match ops[rx.i]?,ops[ry.i]? with|some x,some y=>G5 ops x y rx ry|_,_=>false)
def guards(ops:List Oper)(i:Nat):Bool:=ops.any fun o=>match o.guard with|some (g,_)=>Nat.beq g i|none=>false
def N4:List Prop->Prop->Prop
 |[],q=>q
 |p::ps,q=>p/\N4 ps q
def QD(a b:Bool):Bool:=match a,b with|true,true=>true|false,false=>true|_,_=>false
def Ov(i:Nat)(o:Oper)(σ:ah U)(rs:List Rec)(ks:List Key)(K:ah U->Rec->Prop)(r:cd U):Prop:=
 bif rR (o.dst.getD 1000000) r rs&&wa o r then K (apply o r σ) ⟨i,ks,r.names,r.writes (o.dst.getD 1000000),r.news (o.dst.getD 1000000)⟩ else False
def Xu(r:cd U)(b:Bool):cd U:={r with val:=some (u4 (.bool b))}
def H7(alt:Bool)(ops:List Oper)(i:Nat)(o:Oper)(σ:ah U)(rs:List Rec)(K:ah U->Rec->Prop):Prop:=
 match step E alt σ o with
 |some (r,ks)=>
  N4 r.pre<|
  bif guards ops i then
   match EU r.val with
   |some (.bool b)=>bif b then Ov i o σ rs ks K (Xu r true) else Ov i o σ rs ks K (Xu r false)
   |_=>False
  else Ov i o σ rs ks K r
 |none=>False
def ad5(o:Oper):Bool:=match o.op with
 | .call {callee:=.value (.func f),..}=>(E.NX f).isSome
 |_=>false
def H6(ops:List Oper)(i:Nat)(o:Oper)(σ:ah U)(rs:List Rec)(K:ah U->Rec->Prop):Prop:=
 bif ad5 E o then H7 E false ops i o σ rs K\/H7 E true ops i o σ rs K else H7 E false ops i o σ rs K
def wpOps(ops:List Oper):List Oper->Nat->ah U->List Rec->(ah U->List Rec->Prop)->Prop
 |[],_,σ,rs,K=>K σ rs
 |o::rest,i,σ,rs,K=>
  match o.guard with
  |none=>H6 E ops i o σ rs fun lz r=>wpOps ops rest (i+1) lz (r::rs) K
  |some (g,want)=>
   match((ops[g]?).bind (·.dst)).bind σ.get with
   |some (.v x)=>match iR (.v x) with
    |some (.bool b)=>bif QD b want then H6 E ops i o σ rs fun lz r=>wpOps ops rest (i+1) lz (r::rs) K
     else bif qb σ o then wpOps ops rest (i+1) (apply o yo σ) (⟨i,[],[],[],[]⟩::rs) K else False
    |_=>False
   |some (.vf [])=>bif qb σ o then wpOps ops rest (i+1) (apply o yo σ) (⟨i,[],[],[],[]⟩::rs) K else False
   |_=>False
def SV.LI(bad:Key->Bool)(aK:List Key)(x:SV U):Bool:=
 x.AQ.any fun a=>a.keys.any bad||(match a with| .ref k p| .lg k p _ _ _=> !p.isEmpty&&aK.any (iJ k)|_=>false)
def AC.tt(f:Key->Key):AC U->AC U
 | .ref k p=> .ref (f k) p
 | .sub k wd lo hi=> .sub (f k) wd lo hi
 | .lg k p i wd off=> .lg (f k) p i wd off
 | .kc k off=> .kc (f k) off
 |x=>x
def SV.tt(f:Key->Key):SV U->SV U
 | .v x=> .v ⟨x.agg,x.cs.map (AC.tt f)⟩
 | .vf xs=> .vf (xs.map fun x=>⟨x.agg,x.cs.map (AC.tt f)⟩)
 | .fn p=> .fn p
 | .FE g xs=> .FE g (xs.map fun x=>⟨x.agg,x.cs.map (AC.tt f)⟩)
def iv.tt(f:Key->Key):iv U->iv U
 | .box cs=> .box (cs.map (AC.tt f))
 |e=>e
def wF{β:Type}:List Nat->List (Nat×Option β)->List (Nat×Option β)
 |_,[]=>[]
 |seen,(s,v)::r=>bif seen.any (Nat.beq s) then wF seen r else match v with
  |some x=>(s,some x)::wF (s::seen) r
  |none=>wF (s::seen) r
def pY{β:Type}:List Key->List (Key×Option β)->List (Key×Option β)
 |_,[]=>[]
 |seen,(s,v)::r=>bif seen.any (iJ s) then pY seen r else match v with
  |some x=>(s,some x)::pY (s::seen) r
  |none=>pY (s::seen) r
def qG(bad:Key->Bool)(σ:ah U):ah U:=
 let ok (x:SV U):Bool:= !(x.LI (fun k=>bad k||(eD σ.nU k).isNone) σ.aK)
 {σ with
  bz:=(wF [] σ.bz).filter fun(_,v)=>match v with|some (.vf [])=>false|some x=>ok x|none=>false
  nU:=(pY [] σ.nU).filter fun(k,e)=> !(bad k)&&(match e with|some (.box cs)=>ok (.v ⟨true,cs⟩)|_=>true)
  aK:=[]}
def abM(d:Nat)(x:SV U):List (Key×Key):=
 (x.AQ.zipIdx).flatMap fun(a,j)=>match a with
  | .ref k []| .sub k _ _ _| .kc k _=>[(k,(d,1024+j))]
  |_=>[]
def vM(l:List (Key×Key))(k:Key):Key:=
 match l with
 |[]=>k
 |(a,b)::r=>bif iJ a k then b else vM r k
def rename(l:List (Key×Key))(σ:ah U):ah U:=
 {σ with
  bz:=σ.bz.map fun(s,v)=>(s,v.map (SV.tt (vM l)))
  nU:=σ.nU.map fun(k,e)=>(vM l k,e.map (iv.tt (vM l)))}
def qF(l0:List (Key×Key))(σ:ah U):ah U:=
 let l:=l0.filter fun(a,b)=> !(iJ a b)&& !(Nat.ble 2000000 a.1&&Nat.blt a.2 1024)
 bif l.isEmpty|| !(distinct (l.map (·.1)))|| !(distinct (l.map (·.2)))|| !(l.all fun(_,b)=>Nat.ble 1024 b.2) then σ else
  let tgt:=l.map (·.2)
  rename l (qG (fun k=>tgt.any (iJ k)) σ)
def ru(d:Nat)(σ:ah U):ah U:=
 match σ.get d with
 |some x=>qF (abM d x) σ
 |none=>σ
def Xx(k:Key)(cs:List (AC U)):List (Key×Key):=
 cs.zipIdx.flatMap fun(a,j)=>match a with
  | .ref q []| .sub q _ _ _=>[(q,(k.1,4096*(k.2+1)+j))]
  |_=>[]
def wJ(k:Key)(σ:ah U):ah U:=
 match σ.bJ k with
 |some (.box cs)=>qF (Xx k cs) σ
 |_=>σ
def boxes(σ:ah U):List Key:=σ.nU.flatMap fun(k,e)=>match e with|some (.box _)=>[k]|_=>[]
inductive pR where
 |slot (s j:Nat)
 |box (k:Key) (j:Nat)
def pR.key:pR->Key
 | .slot s j=>(s,1024+j)
 | .box k j=>(k.1,4096*(k.2+1)+j)
def Ni:Option (AC U)->Bool
 |some .e0=>true
 |_=>false
def unnamed(k:Key)(σ:ah U):Bool:=
 (σ.bz.all fun(_,v)=>match v with|some x=> !(x.keys.any (iJ k))|none=>true)&&
 (σ.nU.all fun(_,e)=>match e with|some (.box cs)=> !(cs.any fun a=>a.keys.any (iJ k))|_=>true)
def Na(p:pR)(τ:U.Ty×Bool)(σ:ah U):ah U:=
 bif (eD σ.nU p.key).isNone&&unnamed p.key σ&&Nat.ble 1024 p.key.2 then
  match p with
  | .slot s j=>match σ.get s with
   |some (.v x)=>bif Ni x.cs[j]? then
     {σ with bz:=(s,some (.v ⟨x.agg,x.cs.set j (.ref p.key [])⟩))::σ.bz,nU:=(p.key,some (.arr ⟨τ.1,[]⟩ τ.2))::σ.nU} else σ
   |_=>σ
  | .box k j=>match σ.bJ k with
   |some (.box cs)=>bif Ni cs[j]? then
     {σ with nU:=(p.key,some (.arr ⟨τ.1,[]⟩ τ.2))::(k,some (.box (cs.set j (.ref p.key []))))::σ.nU} else σ
   |_=>σ
 else σ
def p7(k0:Key)(σ:ah U):ah U:=
 match σ.bJ k0 with
 |some (.arr a true)=>{σ with nU:=(k0,some (.part a fun _=>false))::σ.nU}
 |_=>σ
def parts(l:List Key)(σ:ah U):ah U:=l.foldl (fun σ k=>p7 k σ) σ
def Cq(k0:Key)(σ:ah U):ah U:=
 match σ.bJ k0 with
 |some (.arr a true)=>{σ with nU:=(k0,some (.arr a false))::σ.nU,aK:=k0::σ.aK}
 |_=>σ
def M_(p:pR)(τ:U.Ty)(σ:ah U):ah U:=
 match p with
 | .slot s j=>match σ.get s with
  |some (.v x)=>bif Ni x.cs[j]? then{σ with bz:=(s,some (.v ⟨x.agg,x.cs.set j (.c (.sl τ []))⟩))::σ.bz} else σ
  |_=>σ
 | .box k j=>match σ.bJ k with
  |some (.box cs)=>bif Ni cs[j]? then{σ with nU:=(k,some (.box (cs.set j (.c (.sl τ [])))))::σ.nU} else σ
  |_=>σ
def M':List (pR×U.Ty×Option Bool)->ah U->ah U
 |[],σ=>σ
 |(p,τ,some d)::r,σ=>M' r (Na p (τ,d) σ)
 |(p,τ,none)::r,σ=>M' r (M_ p τ σ)
def assigned(ops:List Oper):List Nat:=ops.flatMap fun o=>match o.op with| .assign _=>o.dst.toList|_=>[]
def jz(σ:ah U):ah U:=qG (fun _=>false) σ
def LJ(l:List Key)(σ:ah U):ah U:=match l with
 |[]=>σ
 |k::l=>jz ((k::l).foldl (fun σ k=>Cq k σ) σ)
def wI(l:List Key)(σ:ah U):ah U:=l.foldl (fun σ k=>wJ k σ) σ
def settle(ops:List Oper)(σ:ah U):ah U:=
 let σ1:=(assigned ops).foldl (fun σ d=>ru d σ) (jz σ)
 wI (boxes σ1) σ1
def An(ops:List Oper):List Nat:=ops.flatMap fun o=>o.dst.toList
def enter(ops:List Oper)(σ:ah U):ah U:=let ds:=An ops;qG (fun k=>(ds.any (Nat.beq k.1)||Nat.beq k.1 1000000)&&Nat.blt k.2 1024) σ
def GQ(k0:Key)(c:U.C):AC U->AC U
 | .ref k []=>bif iJ k k0 then .c c else .ref k []
 |x=>x
def K9(k0:Key)(c:U.C):SV U->SV U
 | .v x=> .v ⟨x.agg,x.cs.map (GQ k0 c)⟩
 |x=>x
def Jo(k0:Key)(c:U.C):iv U->iv U
 | .box cs=> .box (cs.map (GQ k0 c))
 |e=>e
def ln(k0:Key)(σ:ah U):ah U:=
 match σ.bJ k0 with
 |some (.arr a _)=>{σ with
   bz:=σ.bz.map fun(s,v)=>(s,v.map (K9 k0 (.sl a.τ a.xs)))
   nU:=(k0,none)::σ.nU.map fun(k,e)=>(k,e.map (Jo k0 (.sl a.τ a.xs)))}
 |_=>σ
def rT(s:Nat)(σ:ah U):ah U:=
 match σ.get s with
 |some (.v ⟨_,[.ref k []]⟩)=>ln k σ
 |_=>σ
def qa(l:List Nat)(σ:ah U):ah U:=l.foldl (fun σ s=>rT s σ) σ
def LZ(E:Env U)(ops:List Oper):List Nat:=ops.flatMap fun o=>match o.op with
 | .call {callee:=.value (.func f),args,..}=>match E.NY f with
  |some k=>bif yX k.md then(k.md.zip args.toList).flatMap fun(m,q)=>match m,q with
    | .ro,.tmp t=>ops.flatMap fun p=>match p.dst,p.op with
     |some d,.move (.tmp v)=>bif Nat.beq d t then[v] else[]
     |_,_=>[]
    |_,_=>[] else[]
  |none=>[]
 |_=>[]
def qR(l:List Key)(σ:ah U):ah U:=l.foldl (fun σ k=>ln k σ) σ
def rootOf(ops:List Oper)(t:Nat):Nat:=match ops.find? (fun p=>p.dst.any (Nat.beq t)) with
 |some p=>match p.op with
  | .move (.tmp v)=>v
  |_=>t
 |none=>t
def Mg(ops:List Oper)(σ:ah U):List Key:=ops.flatMap fun o=>match o.op with
 | .makeFunc _ _ pq=>pq.toList.flatMap fun q=>match q with
  | .tmp t=>match σ.get (rootOf ops t) with
   |some (.v ⟨_,[.kc k _]⟩)=>match σ.bJ k with
    |some (.box cs)=>cs.flatMap fun c=>match c with
     | .ref q []=>[q]
     |_=>[]
    |_=>[]
   |_=>[]
  |_=>[]
 |_=>[]
def Dq(E:Env U)(ops:List Oper)(σ:ah U):ah U:=qR (Mg ops (qa (LZ E ops) (enter ops σ))) (qa (LZ E ops) (enter ops σ))
def wD(ops:List Oper)(draw:Bool)(σ:ah U)(K:ah U->Prop):Prop:=
 wpOps E ops ops 0 (Dq E ops σ) [] fun lz rs=>bif !draw||Lk ops rs then K (settle ops lz) else False
inductive Out (U:kZ) where
 |normal (σ:ah U)
 |exit (id:Nat) (σ:ah U)
 |ret (σ:ah U)
structure bY(U:kZ) where
 X:Type
 bz:X->List (Nat×SV U)
 di:X->List (Key×iv U)
 un:ah U->(X->Prop)->Prop
 nil:List (pR×U.Ty×Option Bool)
 Wm:List Nat
 Wn:List Key
 VP:List Key
 VQ:List Key
 I:X->X->Prop
 μ:X->Nat
 all:(X->Prop)->Prop
 QP:∀P,all P->∀y,P y
 names:List Nat
 inn:∀x,∀p∈bz x,p.1∈names
 nin:∀p∈nil,∀s j,p.1=pR.slot s j->s∈names
 law:∀σ K,un σ K->∃x,K x/\(∀p∈bz x,σ.get p.1=some p.2)/\(∀p∈di x,σ.bJ p.1=some p.2)
def tm(l:List Nat)(σ:ah U):ah U:=l.foldl (fun σ d=>ru d σ) σ
def OE(σ:ah U):ah U:=wI (boxes σ) σ
def Es(A:bY U)(σ:ah U):ah U:=parts A.VQ<|M' A.nil (qR A.Wn (qa A.Wm (LJ A.VP (jz (OE (tm A.names (jz σ)))))))
def iB:Code->Option Nat
 | .region id _ _=>some id
 | .seq a b=>match iB a with|some i=>some i|none=>iB b
 | .cond _ a b=>match iB a with|some i=>some i|none=>iB b
 | .block _ b=>iB b
 | .loop b=>iB b
 |_=>none
def ZB(r:Nat)(c:Code):Bool:=match iB c with
 |some i=>Nat.beq i r
 |none=>false
def NU(r:Nat):Code->Option (Code×Code)
 | .seq a b=>bif ZB r b then some (a,b) else match NU r b with
  |some p=>some (.seq a p.1,p.2)
  |none=>none
 |_=>none
def Zy(r:Nat)(c:Code):Code:=match NU r c with
 |some p=>p.1
 |none=> .skip
def Zx(r:Nat)(c:Code):Code:=match NU r c with
 |some p=>p.2
 |none=> .skip
def lM(A:bY U)(wr:List Nat)(σ:ah U)(x:A.X):ah U:=
 ⟨σ.n,
  (A.bz x).map (fun(s,v)=>(s,some v))++
   ((wF [] σ.bz).filter fun(s,v)=> !(wr.any (Nat.beq s))&& !(A.names.any (Nat.beq s))&&(match v with|some (.v y)=>(SV.v y).keys.isEmpty|some (.fn _)=>true|_=>false)),
  (A.di x).map fun(k,e)=>(k,some e),
  []⟩
variable(ov:Nat->Option (bY U))
def gD:Code->List Nat
 | .region _ ops _=>An ops.toList
 | .seq a b=>gD a++gD b
 | .cond _ a b=>gD a++gD b
 | .block _ b=>gD b
 | .loop b=>gD b++(match(iB b).bind ov with|some A=>A.names|none=>[])
 |_=>[]
def wp:Code->ah U->(Out U->Prop)->Prop
 | .skip,σ,Q=>Q (.normal σ)
 | .seq a b,σ,Q=>wp a σ fun
  | .normal lz=>wp b lz Q
  |o=>Q o
 | .cond c t e,σ,Q=>match yE σ c with
  |some (.bool b)=>bif b then wp t σ Q else wp e σ Q
  |_=>False
 | .block id c,σ,Q=>wp c σ fun
  | .exit id' lz=>bif Nat.beq id' id then Q (.normal lz) else Q (.exit id' lz)
  |o=>Q o
 | .loop c,σ,Q=>match(iB c).bind ov with
  |some A=>A.un (Es A σ) fun x=>A.I x x/\
    A.all fun y=>A.I x y->wp c (lM A (gD ov c) σ y) fun
     | .normal lz=>A.un (Es A lz) fun z=>A.I x z/\A.μ z<A.μ y
     |o=>Q o
  |none=>False
 | .exit id,σ,Q=>Q (.exit id σ)
 | .ret,σ,Q=>Q (.ret σ)
 | .region _ ops draw,σ,Q=>wD E ops.toList draw σ fun lz=>Q (.normal lz)
 |_,_,_=>False
end
end
end AM
