/- THE ABSTRACT MACHINE: a weakest precondition over the model's Code, on typed data. Definitions only. -/
import Derived.Calls
import Derived.Orders
import Derived.Laws.AppendOwn
import Derived.Below
import Derived.Laws.BytesArg
namespace AM
theorem c9:type_of% @List.mem_cons_of_mem:=@List.mem_cons_of_mem
theorem e_:type_of% @List.mem_cons_self:=@List.mem_cons_self
theorem cI:type_of% @List.getD_eq_getElem?_getD:=@List.getD_eq_getElem?_getD
theorem cE:type_of% @List.getElem?_eq_getElem:=@List.getElem?_eq_getElem
theorem bM:type_of% @Option.some.injEq:=@Option.some.injEq
theorem dR:type_of% @Bool.and_eq_true:=@Bool.and_eq_true
theorem ef:type_of% @Option.isSome_iff_exists:=@Option.isSome_iff_exists
theorem bY:type_of% @Bool.cond_eq_ite:=@Bool.cond_eq_ite
theorem en:type_of% @Nat.eq_of_beq_eq_true:=@Nat.eq_of_beq_eq_true
theorem eD:type_of% @List.getElem?_eq_none:=@List.getElem?_eq_none
theorem dQ:type_of% @List.mem_cons:=@List.mem_cons
theorem eC:type_of% @List.getElem?_map:=@List.getElem?_map
theorem iB:type_of% @List.getElem?_cons_zero:=@List.getElem?_cons_zero
theorem eP:type_of% @List.getElem?_take:=@List.getElem?_take
theorem cZ:type_of% @List.mem_append:=@List.mem_append
theorem kj:type_of% @List.getElem?_append_right:=@List.getElem?_append_right
theorem jA:type_of% @List.getElem?_append_left:=@List.getElem?_append_left
theorem fy:type_of% @List.mem_append_left:=@List.mem_append_left
theorem eZ:type_of% @List.mem_append_right:=@List.mem_append_right
theorem eY:type_of% @List.mem_flatMap:=@List.mem_flatMap
theorem gj:type_of% @List.mem_singleton:=@List.mem_singleton
theorem fW:type_of% @List.nodup_append:=@List.nodup_append
theorem kg:type_of% @List.length_take:=@List.length_take
theorem eX:type_of% @Prod.mk.injEq:=@Prod.mk.injEq
theorem hU:type_of% @List.mem_range:=@List.mem_range
theorem ez:type_of% @List.mem_map:=@List.mem_map
theorem eW:type_of% @Nat.lt_or_ge:=@Nat.lt_or_ge
theorem jg:type_of% @List.any_eq_true:=@List.any_eq_true
theorem kf:type_of% @Nat.mul_le_mul_right:=@Nat.mul_le_mul_right
theorem k_:type_of% @Bool.not_eq_true':=@Bool.not_eq_true'
theorem fU:type_of% @List.nodup_cons:=@List.nodup_cons
theorem Gb:type_of% @List.length_modify:=@List.length_modify
theorem lN:type_of% @Bool.false_eq_true:=@Bool.false_eq_true
theorem pB:type_of% @List.eq_nil_of_length_eq_zero:=@List.eq_nil_of_length_eq_zero
theorem O8:type_of% @Bool.false_and:=@Bool.false_and
theorem nq:type_of% @Bool.not_eq_true:=@Bool.not_eq_true
theorem pA:type_of% @List.getElem_of_mem:=@List.getElem_of_mem
theorem np:type_of% @List.mem_of_getElem?:=@List.mem_of_getElem?
theorem ln:type_of% @List.flatMap_cons:=@List.flatMap_cons
theorem mS:type_of% @Array.length_toList:=@Array.length_toList
theorem vu:type_of% @List.length_nil:=@List.length_nil
theorem G2:type_of% @Int.tmod_eq_emod_of_nonneg:=@Int.tmod_eq_emod_of_nonneg
theorem xl:type_of% @List.length_cons:=@List.length_cons
theorem jz:type_of% @List.append_assoc:=@List.append_assoc
theorem Q3:type_of% @Bool.and_false:=@Bool.and_false
theorem mR:type_of% @List.map_cons:=@List.map_cons
theorem pz:type_of% @Nat.le_of_ble_eq_true:=@Nat.le_of_ble_eq_true
theorem mQ:type_of% @List.getElem?_drop:=@List.getElem?_drop
theorem ke:type_of% @Nat.zero_add:=@Nat.zero_add
theorem qt:type_of% @Array.getElem?_toList:=@Array.getElem?_toList
theorem tm:type_of% @Array.getD_eq_getD_getElem?:=@Array.getD_eq_getD_getElem?
theorem qq:type_of% @List.flatten_cons:=@List.flatten_cons
theorem nl:type_of% @Nat.le_refl:=@Nat.le_refl
theorem qp:type_of% @List.all_eq_true:=@List.all_eq_true
theorem pq:type_of% @List.flatten_append:=@List.flatten_append
theorem mP:type_of% @Option.map_some:=@Option.map_some
theorem rj:type_of% @List.length_append:=@List.length_append
theorem vt:type_of% @List.not_mem_nil:=@List.not_mem_nil
theorem po:type_of% @List.mem_filter:=@List.mem_filter
theorem nk:type_of% @List.append_nil:=@List.append_nil
theorem kc:type_of% @Nat.add_mul:=@Nat.add_mul
theorem xk:type_of% @Option.getD_some:=@Option.getD_some
theorem Ga:type_of% @Bool.true_and:=@Bool.true_and
theorem ri:type_of% @List.getElem?_range:=@List.getElem?_range
theorem Cl:type_of% @Bool.eq_iff_iff:=@Bool.eq_iff_iff
theorem qo:type_of% @Bool.or_eq_true:=@Bool.or_eq_true
theorem tj:type_of% @List.length_map:=@List.length_map
theorem vr:type_of% @Bool.or_eq_false_iff:=@Bool.or_eq_false_iff
theorem vq:type_of% @List.take_append_drop:=@List.take_append_drop
theorem th:type_of% @List.map_congr_left:=@List.map_congr_left
theorem px:type_of% @List.length_drop:=@List.length_drop
theorem r_:type_of% @List.flatMap_def:=@List.flatMap_def
theorem r9:type_of% @List.length_set:=@List.length_set
theorem pn:type_of% @Nat.add_zero:=@Nat.add_zero
theorem rh:type_of% @Bool.false_or:=@Bool.false_or
theorem vp:type_of% @List.ext_getElem?:=@List.ext_getElem?
theorem yj:type_of% @List.take_of_length_le:=@List.take_of_length_le
theorem F_:type_of% @List.take_succ_eq_append_getElem:=@List.take_succ_eq_append_getElem
theorem yi:type_of% @List.getElem_mem:=@List.getElem_mem
theorem Q2:type_of% @Bool.and_true:=@Bool.and_true
theorem Ck:type_of% @List.sum_cons:=@List.sum_cons
theorem F9:type_of% @List.cons.injEq:=@List.cons.injEq
theorem tg:type_of% @Nat.le_trans:=@Nat.le_trans
theorem G1:type_of% @Option.getD_none:=@Option.getD_none
theorem Cj:type_of% @List.nodup_iff_pairwise_ne:=@List.nodup_iff_pairwise_ne
theorem vI:type_of% @List.getElem?_set:=@List.getElem?_set
theorem xj:type_of% @List.Sublist.refl:=@List.Sublist.refl
theorem xi:type_of% @List.size_toArray:=@List.size_toArray
theorem Ci:type_of% @Array.getElem?_eq_getElem:=@Array.getElem?_eq_getElem
theorem tf:type_of% @Nat.add_assoc:=@Nat.add_assoc
theorem G0:type_of% @List.eq_nil_iff_forall_not_mem:=@List.eq_nil_iff_forall_not_mem
theorem te:type_of% @Nat.beq_eq:=@Nat.beq_eq
theorem tc:type_of% @List.any_map:=@List.any_map
theorem F8:type_of% @List.getElem?_set_self:=@List.getElem?_set_self
theorem yh:type_of% @List.mem_flatten:=@List.mem_flatten
theorem F7:type_of% @List.all_cons:=@List.all_cons
theorem BI:type_of% @Nat.lt_of_lt_of_le:=@Nat.lt_of_lt_of_le
theorem Q1:type_of% @List.length_filter_le:=@List.length_filter_le
theorem yg:type_of% @List.nodup_nil:=@List.nodup_nil
theorem Oi:type_of% @List.pairwise_iff_getElem:=@List.pairwise_iff_getElem
theorem ta:type_of% @Nat.one_mul:=@Nat.one_mul
theorem yf:type_of% @Option.some.inj:=@Option.some.inj
theorem F6:type_of% @Option.bind_eq_some_iff:=@Option.bind_eq_some_iff
theorem F5:type_of% @List.getElem?_replicate:=@List.getElem?_replicate
theorem GZ:type_of% @Bool.not_false:=@Bool.not_false
theorem GY:type_of% @List.find?_eq_none:=@List.find?_eq_none
theorem xh:type_of% @Nat.mul_comm:=@Nat.mul_comm
theorem F4:type_of% @List.getElem?_toArray:=@List.getElem?_toArray
theorem FY:type_of% @List.length_replicate:=@List.length_replicate
theorem GX:type_of% @List.map_append:=@List.map_append
theorem ye:type_of% @List.any_cons:=@List.any_cons
theorem Oh:type_of% @Bool.or_false:=@Bool.or_false
theorem GW:type_of% @List.getElem?_modify:=@List.getElem?_modify
theorem FX:type_of% @List.getElem?_zipIdx:=@List.getElem?_zipIdx
theorem GV:type_of% @List.getElem?_set_ne:=@List.getElem?_set_ne
theorem FW:type_of% @List.drop_eq_getElem_cons:=@List.drop_eq_getElem_cons
theorem GU:type_of% @List.sublist_append_right:=@List.sublist_append_right
theorem Ch:type_of% @List.flatMap_nil:=@List.flatMap_nil
theorem Cg:type_of% @Array.toList_map:=@Array.toList_map
theorem BH:type_of% @List.flatMap_append:=@List.flatMap_append
theorem vo:type_of% @Nat.ble_eq:=@Nat.ble_eq
theorem GS:type_of% @List.sublist_append_left:=@List.sublist_append_left
theorem O7:type_of% @List.all_nil:=@List.all_nil
theorem O6:type_of% @List.sum_append:=@List.sum_append
theorem Q0:type_of% @Int.toNat_natCast:=@Int.toNat_natCast
theorem Cf:type_of% @Nat.sub_self:=@Nat.sub_self
theorem BG:type_of% @Nat.add_comm:=@Nat.add_comm
theorem FV:type_of% @List.cons_append:=@List.cons_append
theorem Ce:type_of% @List.flatten_nil:=@List.flatten_nil
theorem FU:type_of% @Nat.div_eq_of_lt:=@Nat.div_eq_of_lt
theorem Og:type_of% @Bool.not_true:=@Bool.not_true
set_option linter.unusedVariables false
noncomputable section
open Go
inductive Cell (Ty:Type) (T:Ty->Type) where
 |lit (v:Value)
 |sl (τ:Ty) (xs:List (T τ))
structure dh where
 Ty:Type
 T:Ty->Type
 Lj:DecidableEq Ty
 wd:Ty->Nat
 enc:(τ:Ty)->T τ->List (Cell Ty T)
 dec:(τ:Ty)->List (Cell Ty T)->Option (T τ)
 bn:(τ:Ty)->T τ
 flat:Ty->Bool
 c_:∀τ,0<wd τ
 aM:∀τ x,(enc τ x).length=wd τ
 dB:∀τ cs x,dec τ cs=some x->enc τ x=cs
 rO:∀τ,flat τ=true->∀x c,c∈enc τ x->∃v,c=.lit v
 eM:Ty
 xp:T eM->Int
 Gf:Int->T eM
 rl:∀n,xp (Gf n)=n
 nG:∀x,enc eM x=[.lit (.int .u8 (xp x))]
abbrev dh.C(U:dh):=Cell U.Ty U.T
structure eT(U:dh) where
 τ:U.Ty
 xs:List (U.T τ)
abbrev Key:=Nat×Nat
abbrev Path:=List (Nat×Nat×Nat)
inductive AC (U:dh) where
 |c (x:U.C)
 |e0
 |ref (k:Key) (p:Path)
 |sub (k:Key) (wd lo hi:Nat)
 |dt (k:Key) (p:Path) (i wd off:Nat)
 |cR (k:Key) (off:Nat)
 |ia (cs:List U.C)
 |kn (b:Bool) (τ:U.Ty) (xs:List (U.T τ))
structure AV(U:dh) where
 agg:Bool
 cs:List (AC U)
structure DA(U:dh) where
 agg:Bool
 cs:List U.C
inductive SV (U:dh) where
 |v (x:AV U)
 |iV (xs:List (AV U))
 |fn (p:List (DA U)->Option Value)
 |nH (g:FuncId) (gL:List (AV U))
inductive b9 (U:dh) where
 |arr (a:eT U) (deep:Bool)
 |box (cs:List (AC U))
 |part (a:eT U) (dead:Nat->Bool)
structure aa(U:dh) where
 n:Nat
 ap:List (Nat×Option (SV U))
 tab:List (Key×Option (b9 U))
 ag:List Key
def look{β:Type}(l:List (Nat×Option β))(s:Nat):Option β:=
 match l with
 |[]=>none
 |(t,v)::r=>bif Nat.beq t s then v else look r s
def cn(a b:Key):Bool:=Nat.beq a.1 b.1&&Nat.beq a.2 b.2
def a9{β:Type}(l:List (Key×Option β))(k:Key):Option β:=
 match l with
 |[]=>none
 |(t,v)::r=>bif cn t k then v else a9 r k
def aa.get{U:dh}(σ:aa U)(s:Nat):Option (SV U):=look σ.ap s
def aa.aq{U:dh}(σ:aa U)(k:Key):Option (b9 U):=a9 σ.tab k
inductive DV (U:dh) where
 |one (c:U.C)
 |agg (cs:List U.C)
 |box (cs:List U.C)
 |ptr (cs:List U.C)
 |fn (p:List (DA U)->Option Value)
inductive Mode where
 |ro|wr|mv
 |box (own:Bool)
 deriving DecidableEq
structure Od(U:dh) where
 val:List (DV U)
 fresh:List Bool
 qH:List (DV U)
structure bB(U:dh) where
 α:Type
 md:List Mode
 of:List (DV U)->Option α
 ds:α->List (DV U)
 pre:α->List Prop
 cf:α->Od U
 law:∀l x,of l=some x->ds x=l
 qv:Nat:=0
 cut:Nat:=0
def bB.want{U:dh}(k:bB U)(ws:List (List (Option U.Ty))):List (List (Option U.Ty)):=match k.cut with
 |0=>ws
 |n+1=>ws.map (List.take (n+1))
structure Env(U:dh) where
 P:Program
 tid:U.Ty->TypeId
 code:TypeId->Option U.Ty
 s3:FuncId->Option (bB U)
 s0:FuncId->Option (bB U):=fun _=>none
 yo:List (Nat×Array Value):=[]
 bD:TypeId->Nat->List Key->Bool:=fun _ _ _=>false
 shl:TypeId->Bool:=fun _=>false
section
variable{U:dh}(E:Env U)
def Env.Q9(t:TypeId):Option TypeDesc:=E.P.underlying t
def Env.isAgg(t:TypeId):Option Bool:=match E.P.underlying t with|some (.struct _)=>some true|some (.array _ _)=>some true|some _=>some false|none=>none
def Env.size(t:TypeId):Option Nat:=(E.P.info? t).map (·.size)
def Env.elem(t:TypeId):Option TypeId:=match E.P.underlying t with|some (.slice e)=>some e|_=>none
def Env.w6(t:TypeId)(f:Nat):Option (Nat×TypeId):=match E.P.underlying t with|some (.struct fs)=>(fs[f]?).map fun f=>(f.offset,f.type)|_=>none
def Env.shape:Nat->TypeId->List (Option U.Ty)
 |0,_=>[]
 |d+1,t=>match E.P.underlying t with
  |some (.struct fs)=>fs.toList.flatMap fun f=>Env.shape d f.type
  |some (.slice e)=>[E.code e]
  |_=>[none]
def Env.kq(t:TypeId):List (Option U.Ty):=match E.P.underlying t with
 |some (.pointer e)=>E.shape 8 e
 |_=>E.shape 8 t
def walk:Path->eT U->Option (List Prop×eT U)
 |[],a=>some ([],a)
 |(i,wd,j)::p,a=>
  bif Nat.beq wd (U.wd a.τ) then
   match(U.enc a.τ (a.xs.getD i (U.bn a.τ)))[j]? with
   |some (.sl τ xs)=>match walk p ⟨τ,xs⟩ with
    |some (ps,b)=>some ((i<a.xs.length)::ps,b)
    |none=>none
   |_=>none
  else none
def xw(τ:U.Ty)(g:List U.C->List U.C)(x:U.T τ):U.T τ:=match U.dec τ (g (U.enc τ x)) with|some y=>y|none=>x
def n8(τ:U.Ty)(xs:List (U.T τ))(i:Nat)(g:List U.C->List U.C):List (U.T τ):=xs.modify i (xw τ g)
theorem Dt{τ:U.Ty}{xs:List (U.T τ)}{i:Nat}{g:List U.C->List U.C}{y:U.T τ}(h:U.dec τ (g (U.enc τ (xs.getD i (U.bn τ))))=some y):n8 τ xs i g=xs.set i y:=by
 unfold n8
 refine vp fun j=> ?_
 rw[GW,vI]
 by_cases hj:i=j
 ·subst hj
  rw[if_pos rfl]
  by_cases hi:i<xs.length
  ·rw[if_pos hi,cE hi]
   rw[cI,cE hi] at h
   simp only[xk] at h
   simp[xw,h]
  ·rw[if_neg hi,eD (by omega)];rfl
 ·rw[if_neg hj]
  simp[hj]
def Ca:Path->eT U->(eT U->Option (eT U))->Option (eT U)
 |[],a,f=>f a
 |(i,_,j)::p,a,f=>
  let cs:=U.enc a.τ (a.xs.getD i (U.bn a.τ))
  match cs[j]? with
  |some (.sl τ xs)=>
   match Ca p ⟨τ,xs⟩ f with
   |some b=>match U.dec a.τ (cs.set j (.sl b.τ b.xs)) with
    |some _=>some ⟨a.τ,n8 a.τ a.xs i (fun cs=>cs.set j (.sl b.τ b.xs))⟩
    |none=>none
   |none=>none
  |_=>none
def ct(τ:U.Ty)(a:eT U):Option (List (U.T τ)):=
 match U.Lj a.τ τ with
 | .isTrue h=>some (h▸a.xs)
 | .isFalse _=>none
abbrev fw(U:dh):=Key->Option (b9 U)
structure aw(U:dh) where
 val:Option (SV U)
 aQ:List (Nat×b9 U)
 dn:List Key
 cF:List (Key×b9 U)
 pre:List Prop
def aw.aD(v:SV U)(pre:List Prop:=[]):aw U:=⟨some v,[],[],[],pre⟩
def one(x:AC U):SV U:=.v ⟨false,[x]⟩
def iR(v:Value):SV U:=one (.c (.lit v))
def aw.lit(v:Value)(pre:List Prop:=[]):aw U:=.aD (iR v) pre
def bE(tb:fw U)(ag:List Key)(k:Key)(p:Path):Bool:=p.isEmpty||((tb k).isSome&& !(ag.any (cn k)))
def mE(tb:fw U)(ag:List Key):AC U->Bool
 | .ref k p=>bE tb ag k p
 | .dt k p _ _ _=>bE tb ag k p
 |_=>true
def ir(tb:fw U)(ag:List Key)(cs:List (AC U)):Bool:=cs.all (mE tb ag)
def eN(tb:fw U)(ag:List Key):AC U->Option (List Prop×eT U)
 | .c (.sl τ xs)=>some ([],⟨τ,xs⟩)
 | .kn _ τ xs=>some ([],⟨τ,xs⟩)
 | .ref k p=>match tb k with
  |some (.arr a _)=>bif bE tb ag k p then walk p a else none
  |_=>none
 | .sub k wd lo hi=>match tb k with
  |some (.arr a _)=>bif Nat.beq wd (U.wd a.τ) then some ([hi<=a.xs.length],⟨a.τ,(a.xs.take hi).drop lo⟩) else none
  |_=>none
 |_=>none
def kP(tb:fw U)(ag:List Key):AC U->Option (List Prop×eT U)
 | .ref k ((i,wd,j)::p)=>match tb k with
  |some (.part a dead)=>bif bE tb ag k ((i,wd,j)::p) then(match walk ((i,wd,j)::p) a with|some (ps,b)=>some ((dead i=false)::ps,b)|none=>none) else none
  |_=>none
 |_=>none
def cellOf(tb:fw U)(ag:List Key)(want:Option U.Ty):AC U->Option (List Prop×U.C)
 | .c x=>some ([],x)
 | .e0=>match want with|some τ=>some ([],.sl τ [])|none=>none
 |x=>match eN tb ag x with
  |some (ps,a)=>some (ps,.sl a.τ a.xs)
  |none=>match kP tb ag x with
   |some (ps,a)=>some (ps,.sl a.τ a.xs)
   |none=>none
def cellsOf(tb:fw U)(ag:List Key):List (Option U.Ty)->List (AC U)->Option (List Prop×List U.C)
 |_,[]=>some ([],[])
 |ws,x::r=>
  match cellOf tb ag (ws.head?.bind id) x,cellsOf tb ag ws.tail r with
  |some (ps,c),some (qs,cs)=>some (ps++qs,c::cs)
  |_,_=>none
def hX(tb:fw U)(want:Option U.Ty):AC U->Option (List Prop×U.C×List Key×Bool)
 | .c (.lit v)=>some ([],.lit v,[],true)
 | .c (.sl τ xs)=>some ([],.sl τ xs,[],false)
 | .e0=>match want with|some τ=>some ([],.sl τ [],[],true)|none=>none
 | .ref k []=>match tb k with
  |some (.arr a d)=>some ([],.sl a.τ a.xs,[k],d)
  |some (.part a dead)=>some ([∀i,i<a.xs.length->dead i=false],.sl a.τ a.xs,[k],true)
  |_=>none
 | .sub k _ 0 hi=>match tb k with
  |some (.arr a d)=>some ([hi<=a.xs.length],.sl a.τ (a.xs.take hi),[k],d)
  |some (.part a dead)=>some ([hi<=a.xs.length,∀i,i<hi->dead i=false],.sl a.τ (a.xs.take hi),[k],true)
  |_=>none
 |_=>none
def bh(tb:fw U):List (Option U.Ty)->List (AC U)->Option (List Prop×List U.C×List Key×Bool)
 |_,[]=>some ([],[],[],true)
 |ws,x::r=>
  match hX tb (ws.head?.bind id) x,bh tb ws.tail r with
  |some (ps,c,ks,d),some (qs,cs,ks',d')=>some (ps++qs,c::cs,ks++ks',d&&d')
  |_,_=>none
def distinct:List Key->Bool
 |[]=>true
 |k::r=> !(r.any (cn k))&&distinct r
def me(t:TypeId)(op:BinOp)(x y:Value):Option (List Prop×Value):=
 match x,y with
 | .int k a,.int k' b=>
  match op with
  | .shl=>some ([0<=b],.int k (k.wrap (a*2^(min b.toNat k.bits))))
  | .shr=>some ([0<=b],.int k (a.fdiv (2^(min b.toNat k.bits))))
  |op=>bif decide (k=k') then(match op with
   | .add=>some ([],.int k (k.wrap (a+b)))
   | .sub=>some ([],.int k (k.wrap (a-b)))
   | .mul=>some ([],.int k (k.wrap (a*b)))
   | .quo=>some ([b≠0],.int k (k.wrap (a.tdiv b)))
   | .rem=>some ([b≠0],.int k (a.tmod b))
   | .and=>some ([],.int k (k.wrap (BitVec.ofInt k.bits a&&&BitVec.ofInt k.bits b).toNat))
   | .or=>some ([],.int k (k.wrap (BitVec.ofInt k.bits a|||BitVec.ofInt k.bits b).toNat))
   | .xor=>some ([],.int k (k.wrap (BitVec.ofInt k.bits a^^^BitVec.ofInt k.bits b).toNat))
   | .eql=>some ([],.bool (a==b))
   | .neq=>some ([],.bool (a !=b))
   | .lss=>some ([],.bool (decide (a<b)))
   | .leq=>some ([],.bool (decide (a<=b)))
   | .gtr=>some ([],.bool (decide (a>b)))
   | .geq=>some ([],.bool (decide (a≥b)))
   |_=>none) else none
 | .string a,.string b=>
  match op with
  | .add=>some ([(a.size+b.size:Nat)<=(4611686018427387904:Nat)],.string (a++b))
  | .eql=>some ([],.bool (a.toList==b.toList))
  | .neq=>some ([],.bool (!(a.toList==b.toList)))
  | .lss=>some ([],.bool (Op.bytesLess a.toList b.toList))
  | .leq=>some ([],.bool (Op.bytesLess a.toList b.toList||a.toList==b.toList))
  | .gtr=>some ([],.bool (!(Op.bytesLess a.toList b.toList||a.toList==b.toList)))
  | .geq=>some ([],.bool (!(Op.bytesLess a.toList b.toList)))
  |_=>none
 | .bool a,.bool b=>
  match E.P.underlying t with
  |some .bool=>match op with
   | .eql=>some ([],.bool (a==b))
   | .neq=>some ([],.bool (!(a==b)))
   |_=>none
  |_=>none
 |_,_=>none
def Env.qZ:Nat->TypeId->List Value->List Value->Option Bool
 |0,_,_,_=>none
 |d+1,t,xs,ys=>match E.P.underlying t with
  |some (.struct fs)=>bif E.P.stoodInHeld t then none else
    fs.toList.foldr (fun f acc=>match E.size f.type,E.isAgg f.type,acc with
     |some n,some g,some r=>bif f.name != "_" &&Nat.ble (f.offset+n) xs.length&&Nat.ble (f.offset+n) ys.length&&(g||Nat.beq n 1) then
       (match Env.qZ d f.type ((xs.drop f.offset).take n) ((ys.drop f.offset).take n) with
       |some b=>some (b&&r)
       |none=>none) else none
     |_,_,_=>none) (some true)
  |some .bool=>match xs,ys with|[.bool a],[.bool b]=>some (a==b)|_,_=>none
  |some (.int _)=>match xs,ys with|[.int k a],[.int k' b]=>bif decide (k=k') then some (a==b) else none|_,_=>none
  |some .string=>match xs,ys with|[.string a],[.string b]=>some (a.toList==b.toList)|_,_=>none
  |_=>none
def f_:List (AC U)->Option (List Value)
 |[]=>some []
 | .c (.lit v)::r=>match f_ r with|some l=>some (v::l)|none=>none
 |_=>none
def u1(op:BinOp)(t:TypeId)(x y:SV U):Option (aw U):=match x,y with
 | .v ⟨true,xs⟩,.v ⟨true,ys⟩=>match f_ xs,f_ ys with
  |some us,some vs=>match E.isAgg t with
   |some true=>bif E.P.eqGuardType E.P.depth t then none else(match op,E.qZ 8 t us vs with
    | .eql,some b=>some (aw.lit (.bool b))
    | .neq,some b=>some (aw.lit (.bool (!b)))
    |_,_=>none)
   |_=>none
  |_,_=>none
 |_,_=>none
def pS(op:UnOp)(x:Value):Option Value:=
 match op,x with
 | .neg,.int k n=>some (.int k (k.wrap (0-n)))
 | .not,.bool b=>some (.bool (!b))
 |_,_=>none
def eV:Value->Option (AC U)
 | .slice none 0 0=>some .e0
 | .pointer none=>some (.c (.lit (.pointer none)))
 | .int k n=>bif decide (k.min<=n)&&decide (n<=k.max) then some (.c (.lit (.int k n))) else none
 | .bool b=>some (.c (.lit (.bool b)))
 | .string s=>bif Nat.ble s.size 9223372036854775807 then some (.c (.lit (.string s))) else none
 |_=>none
def cD:List Value->Option (List (AC U))
 |[]=>some []
 |v::r=>match eV v,cD r with
  |some x,some l=>some (x::l)
  |_,_=>none
def gf(cs:Array Value):Option (SV U):=match cD cs.toList with|some l=>some (.v ⟨true,l⟩)|none=>none
def oz:Value->Option (SV U)
 | .agg cs=>gf cs
 |v=>match eV v with|some x=>some (one x)|none=>none
def qF(σ:aa U):Operand->Option (SV U)
 | .tmp t=>σ.get t
 | .const v=>oz v
 | .global _=>none
 | .func g=>some (.nH g [])
def AC.keys:AC U->List Key
 | .c _| .e0| .ia _| .kn _ _ _=>[]
 | .ref k _| .sub k _ _ _| .dt k _ _ _ _| .cR k _=>[k]
def SV.lM:SV U->List (AC U)
 | .v x=>x.cs
 | .iV xs=>xs.flatMap (·.cs)
 | .fn _=>[]
 | .nH _ xs=>xs.flatMap (·.cs)
def SV.keys(x:SV U):List Key:=x.lM.flatMap AC.keys
def aa.lJ(σ:aa U)(k:Key):List Key:=
 match σ.aq k with
 |some (.box cs)=>cs.flatMap AC.keys
 |_=>[]
def reach(σ:aa U)(xs:List (SV U)):List Key:=
 let ks:=xs.flatMap SV.keys
 ks++ks.flatMap σ.lJ
def rz(o:Oper):Bool:=match o.op with
 | .nilCheck _=>true
 | .fieldAddr _ _ _=>true
 |_=>false
def rk(o:Oper):Bool:=match o.op with
 | .move _=>true
 | .assign _=>true
 |_=>false
def fa(σ:aa U)(o:Oper)(xs:List (SV U)):List Key:=bif rk o then[] else bif rz o then xs.flatMap SV.keys else reach σ xs
def restrict(tb:fw U)(ks:List Key):fw U:=fun k=>bif ks.any (cn k) then tb k else none
def bU(k:Key)(p:Path)(i wd:Nat):List U.C->Nat->List (AC U)
 |[],_=>[]
 | .lit v::r,j=> .c (.lit v)::bU k p i wd r (j+1)
 | .sl _ _::r,j=> .ref k (p++[(i,wd,j)])::bU k p i wd r (j+1)
def loadAt(tb:fw U)(ag:List Key)(agg:Bool)(n:Nat)(x:AC U):Option (aw U):=
 bif agg||Nat.beq n 1 then
  match x with
  | .ia cs=>bif Nat.ble n cs.length then some (.aD (.v ⟨agg,(cs.take n).map .c⟩)) else none
  | .cR k off=>match tb k with
   |some (.box cs)=>bif Nat.ble (off+n) cs.length then some (.aD (.v ⟨agg,(cs.drop off).take n⟩)) else none
   |_=>none
  | .dt k p i wd off=>match tb k with
   |some (.arr a _)=>bif bE tb ag k p then
     match walk p a with
     |some (ps,b)=>
      bif Nat.ble (off+n) (U.wd b.τ)&&Nat.beq wd (U.wd b.τ) then
       some (.aD (.v ⟨agg,bU k p i wd (((U.enc b.τ (b.xs.getD i (U.bn b.τ))).drop off).take n) off⟩) (ps++[i<b.xs.length]))
      else none
     |none=>none
    else none
   |_=>none
  |_=>none
 else none
def mb(tb:fw U)(agg:Bool)(n:Nat):AC U->Option (aw U)
 | .dt k [] i wd off=>match tb k with
  |some (.arr a false)=>bif (agg||Nat.beq n 1)&&Nat.ble (off+n) (U.wd a.τ)&&Nat.beq wd (U.wd a.τ) then
    some (.aD (.v ⟨agg,(((U.enc a.τ (a.xs.getD i (U.bn a.τ))).drop off).take n).map .c⟩) [i<a.xs.length]) else none
  |_=>none
 |_=>none
def nN:List U.C->List (Option U.Ty)
 |[]=>[]
 | .sl τ _::r=>some τ::nN r
 | .lit _::r=>none::nN r
def nP(off i:Nat)(ds:List U.C)(b:eT U):Option (eT U):=
 let cs:=U.enc b.τ (b.xs.getD i (U.bn b.τ))
 match U.dec b.τ (cs.take off++ds++cs.drop (off+ds.length)) with
 |some y=>some ⟨b.τ,bif Nat.beq ds.length (U.wd b.τ) then b.xs.set i y else n8 b.τ b.xs i (fun cs=>cs.take off++ds++cs.drop (off+ds.length))⟩
 |none=>none
theorem yJ(off i:Nat)(ds:List U.C)(b:eT U):nP off i ds b=match U.dec b.τ ((U.enc b.τ (b.xs.getD i (U.bn b.τ))).take off++ds++(U.enc b.τ (b.xs.getD i (U.bn b.τ))).drop (off+ds.length)) with|some y=>some ⟨b.τ,b.xs.set i y⟩|none=>none:=by
 unfold nP
 simp only
 split
 ·rename_i y h
  cases Nat.beq ds.length (U.wd b.τ)
  ·simp only[cond_false];rw[Dt h]
  ·rfl
 ·rfl
def storeAt(tb:fw U)(ag:List Key)(x:AV U):AC U->Option (aw U)
 | .cR k off=>match tb k with
  |some (.box cs)=>bif Nat.ble (off+x.cs.length) cs.length then
    some ⟨none,[],[],[(k,.box (cs.take off++x.cs++cs.drop (off+x.cs.length)))],[]⟩ else none
  |_=>none
 | .dt k p i wd off=>match tb k with
  |some (.arr a d)=>bif bE tb ag k p then
    match walk p a with
    |some (ps,b)=>match bh tb (nN ((U.enc b.τ (b.xs.getD i (U.bn b.τ))).drop off)) x.cs with
     |some (qs,ds,ks,d')=>match Ca p a (nP off i ds) with
      |some a'=>bif Nat.beq wd (U.wd b.τ)&&Nat.ble (off+ds.length) (U.wd b.τ)&&distinct (k::ks)&&((d&&d')||p.isEmpty) then
        some ⟨none,[],ks,[(k,.arr a' (d&&d'))],ps++qs++[i<b.xs.length]⟩ else none
      |none=>none
     |none=>none
    |none=>none
   else none
  |_=>none
 |_=>none
def plain:List (AC U)->Option (List U.C)
 |[]=>some []
 | .c x::r=>match plain r with|some l=>some (x::l)|none=>none
 |_=>none
def jl:List U.C->Bool
 |[]=>true
 | .lit _::r=>jl r
 |_=>false
def rowsOf(τ:U.Ty)(tb:fw U)(want:List (Option U.Ty)):List (SV U)->Option (List Prop×List (U.T τ)×List Key×Bool)
 |[]=>some ([],[],[],true)
 | .v x::r=>
  match bh tb want x.cs,rowsOf τ tb want r with
  |some (ps,cs,ks,d),some (qs,xs,ks',d')=>
   match U.dec τ cs with
   |some y=>some (ps++qs,y::xs,ks++ks',d&&d')
   |none=>none
  |_,_=>none
 |_=>none
def Env.qE(t:TypeId):Option (List (Nat×Nat)):=match E.P.underlying t with
 |some (.struct fs)=>fs.toList.mapM (fun f=>(E.P.info? f.type).map fun i=>(f.offset,i.size))
 |_=>none
def bX(pl:List (Nat×Nat))(cells:List (AC U)):List Nat->List (SV U)->Option (List (AC U))
 |[],[]=>some cells
 |f::fs,.v x::r=>match pl[f]? with
  |some (off,n)=>bif Nat.beq x.cs.length n&&Nat.ble (off+n) cells.length then bX pl (cells.take off++x.cs++cells.drop (off+n)) fs r else none
  |none=>none
 |_,_=>none
def Pf (v:Value):Option Int:=match v with| .int _ n=>some n|_=>none
def cr :SV U->Option Value
 | .v ⟨false,[.c (.lit v)]⟩=>some v
 |_=>none
def iA :SV U->Option (AC U)
 | .v ⟨false,[x]⟩=>some x
 |_=>none
def lV{α:Type}:List (Option α)->Option (List α)
 |[]=>some []
 |some x::r=>match lV r with|some l=>some (x::l)|none=>none
 |none::_=>none
def nI:Option Operand->List (SV U)->Option (Option Int×List (SV U))
 |none,bs=>some (none,bs)
 |some _,b::bs=>match cr b with
  |some (.int _ n)=>some (some n,bs)
  |_=>none
 |some _,[]=>none
def iD(tb:fw U)(ag:List Key)(t:TypeId)(x:SV U)(l h m:Option Int):Option (aw U):=
 match m with
 |some mm=>match h,iA x,(E.elem t).bind E.size with
  |some hh,some y,some _=>match eN tb ag y with
   |some (ps,_)=>some (.aD (one .e0) (ps++[mm=0,hh=0,l.getD 0=0]))
   |none=>match y with
    | .e0=>some (.aD (one .e0) [mm=0,hh=0,l.getD 0=0])
    |_=>none
  |_,_,_=>none
 |none=>match cr x with
  |some (.string s)=>match E.P.underlying t with
   |some .string=>some (.lit (.string (s.extract (l.getD 0).toNat (h.getD s.size).toNat)) [0<=l.getD 0,l.getD 0<=h.getD s.size,h.getD s.size<=s.size])
   |_=>none
  |some _=>none
  |none=>match iA x,(E.elem t).bind E.size with
   |some (.c (.sl τ ys)),some n=>bif Nat.beq n (U.wd τ) then
     some (.aD (one (.c (.sl τ ((ys.take (h.getD ys.length).toNat).drop (l.getD 0).toNat)))) [0<=l.getD 0,l.getD 0<=h.getD ys.length,h.getD ys.length<=ys.length]) else none
   |some (.ref k []),some n=>match tb k with
    |some (.arr r _)=>bif Nat.beq n (U.wd r.τ) then
      some (.aD (one (.sub k (U.wd r.τ) (l.getD 0).toNat (h.getD r.xs.length).toNat)) [0<=l.getD 0,l.getD 0<=h.getD r.xs.length,h.getD r.xs.length<=r.xs.length]) else none
    |some (.part r _)=>bif Nat.beq n (U.wd r.τ) then
      some (.aD (one (.sub k (U.wd r.τ) (l.getD 0).toNat (h.getD r.xs.length).toNat)) [0<=l.getD 0,l.getD 0<=h.getD r.xs.length,h.getD r.xs.length<=r.xs.length]) else none
    |_=>none
   |_,_=>none
def ix(tb:fw U)(ag:List Key)(want:List (Option U.Ty))(x:SV U):Option (List Prop×DV U):=
 match x with
 | .v ⟨false,[.ia cs]⟩=>some ([],.ptr cs)
 | .v ⟨false,[.cR k off]⟩=>match tb k with
  |some (.box cs)=>match plain cs with|some l=>some ([],.ptr (l.drop off))|none=>none
  |_=>none
 | .v ⟨false,[y]⟩=>match cellOf tb ag (want.head?.bind id) y with|some (ps,c)=>some (ps,.one c)|none=>none
 | .v ⟨true,cs⟩=>match cellsOf tb ag want cs with|some (ps,l)=>some (ps,.agg l)|none=>none
 |_=>none
def DA.dv:DA U->DV U
 |⟨false,[c]⟩=> .one c
 |⟨_,cs⟩=> .agg cs
noncomputable def u5(k:bB U)(gL:List (DV U))(ds:List (DA U)):Option Value:=
 match k.of (ds.map DA.dv++gL) with
 |some x=>match(k.cf x).val,(k.cf x).qH with
  |[.one (.lit v)],[]=>@ite _ (k.md.length=ds.length+gL.length/\∀p∈k.pre x,p) (Classical.propDecidable _) (some v) none
  |_,_=>none
 |none=>none
def iu(tb:fw U)(ag:List Key):List (AV U)->Option (List Prop×List (DV U))
 |[]=>some ([],[])
 |x::r=>match ix tb ag [] (.v x),iu tb ag r with
  |some (ps,d),some (qs,ds)=>some (ps++qs,d::ds)
  |_,_=>none
def fI:List Mode->Bool
 |[]=>true
 | .ro::r=>fI r
 |_=>false
def qe(tb:fw U)(ag:List Key)(want:List (Option U.Ty))(x:SV U):Option (List Prop×DV U):=
 match x with
 | .fn p=>some ([],.fn p)
 | .nH g xs=>match E.s3 g,iu tb ag xs with
  |some k,some (ps,ds)=>bif fI k.md&&Nat.ble xs.length k.md.length then some (ps,.fn (u5 k ds)) else none
  |_,_=>none
 |x=>ix tb ag want x
def ra(x:AV U)(cs:List U.C):Option (DV U):=
 bif x.agg then some (.agg cs) else match cs with|[c]=>some (.one c)|_=>none
def cy(tb:fw U):List (AC U)->Option (List U.C×List Key)
 |[]=>some ([],[])
 | .c (.lit v)::r=>match cy tb r with|some (cs,ks)=>some (.lit v::cs,ks)|none=>none
 | .ref k []::r=>match tb k,cy tb r with
  |some (.arr a true),some (cs,ks)=>some (.sl a.τ a.xs::cs,k::ks)
  |_,_=>none
 |_=>none
def AC.still:AC U->Bool
 | .c _=>true
 | .e0=>true
 | .ref _ []=>true
 | .cR _ _=>true
 |_=>false
def dG(tb:fw U)(ag:List Key)(want:List (Option U.Ty))(m:Mode)(x:SV U):Option (List Prop×DV U×List Key):=
 match m,x with
 | .wr,.v ⟨false,[.ref k p]⟩=>match tb k with
  |some (.arr a true)=>bif bE tb ag k p then match walk p a with|some (ps,b)=>some (ps,.one (.sl b.τ b.xs),[k])|none=>none else none
  |_=>none
 | .wr,.v ⟨true,cs⟩=>match cy tb cs with
  |some (ds,ks)=>bif distinct ks then some ([],.agg ds,ks) else none
  |none=>none
 | .mv,.v y=>match bh tb want y.cs with
  |some (ps,cs,ks,true)=>match ra y cs with
   |some d=>bif distinct ks then some (ps,d,ks) else none
   |none=>none
  |_=>none
 | .box true,.v ⟨false,[.cR k 0]⟩=>match tb k with
  |some (.box cs)=>bif Nat.ble want.length cs.length&&(cs.drop want.length).all AC.still then
    match bh tb want (cs.take want.length) with
    |some (ps,l,ks,true)=>bif distinct (k::ks) then some (ps,.box l,k::ks) else none
    |_=>none
   else none
  |_=>none
 | .box false,.v ⟨false,[.cR k 0]⟩=>match tb k with
  |some (.box cs)=>bif Nat.ble want.length cs.length&&(cs.drop want.length).all AC.still then
    match plain (cs.take want.length) with
    |some l=>some ([],.box l,[k])
    |none=>none
   else none
  |_=>none
 |_,_=>none
def iy(tb:fw U)(ag:List Key)(want:List (Option U.Ty))(m:Mode)(x:SV U):Option (List Prop×DV U):=
 match m with
 | .ro=>qe E tb ag want x
 |m=>match dG tb ag want m x with|some (ps,d,_)=>some (ps,d)|none=>none
def ew(tb:fw U)(ag:List Key):List Mode->List (List (Option U.Ty))->List (SV U)->Option (List Prop×List (DV U))
 |[],_,[]=>some ([],[])
 |m::ms,ws,x::r=>
  match iy E tb ag (ws.headD []) m x,ew tb ag ms ws.tail r with
  |some (ps,d),some (qs,ds)=>some (ps++qs,d::ds)
  |_,_=>none
 |_,_,_=>none
def ai(dst:Nat)(fresh:Bool)(base:Nat):List U.C->List (AC U)×List (Nat×b9 U)
 |[]=>([],[])
 | .lit v::r=>(.c (.lit v)::(ai dst fresh (base+1) r).1,(ai dst fresh (base+1) r).2)
 | .sl τ xs::r=>bif fresh then(.ref (dst,base) []::(ai dst fresh (base+1) r).1,(base,.arr ⟨τ,xs⟩ true)::(ai dst fresh (base+1) r).2)
   else(.c (.sl τ xs)::(ai dst fresh (base+1) r).1,(ai dst fresh (base+1) r).2)
def pO(dst:Nat)(fresh:Bool)(base:Nat):DV U->Option (AV U×List (Nat×b9 U))
 | .one c=>some (⟨false,(ai dst fresh base [c]).1⟩,(ai dst fresh base [c]).2)
 | .agg cs=>some (⟨true,(ai dst fresh base cs).1⟩,(ai dst fresh base cs).2)
 | .box cs=>bif fresh then some (⟨false,[.cR (dst,base) 0]⟩,[(base,.box (cs.map .c))]) else none
 | .ptr _=>none
 | .fn _=>none
def l6(dst:Nat)(fs:List Bool)(base:Nat):List (DV U)->Option (List (AV U)×List (Nat×b9 U))
 |[]=>some ([],[])
 |d::r=>match pO dst (fs.headD true) base d,l6 dst fs.tail (base+32) r with
  |some (x,e),some (xs,es)=>some (x::xs,e++es)
  |_,_=>none
def DV.safe(fresh:Bool):DV U->Bool
 | .one c=>fresh||jl [c]
 | .agg cs=>fresh||jl cs
 | .box _=>false
 | .ptr _=>false
 | .fn _=>false
def iE:List Bool->List (DV U)->Bool
 |_,[]=>true
 |fs,d::r=>d.safe (fs.headD true)&&iE fs.tail r
def kH(ms:List Mode):Bool:=ms.any fun m=>match m with| .box false=>true|_=>false
def dJ:List (AC U)->List U.C->Option (List (Key×b9 U))
 |[],[]=>some []
 | .c (.lit _)::r,.lit _::cs=>dJ r cs
 | .ref k []::r,.sl τ ys::cs=>match dJ r cs with|some us=>some ((k,.arr ⟨τ,ys⟩ true)::us)|none=>none
 |_,_=>none
def b7(tb:fw U)(er n:Nat)(m:Mode)(x:SV U)(dm:List (DV U)):Option (List (Key×b9 U)×List (Nat×b9 U)):=
 match m,x,dm with
 | .wr,.v ⟨false,[.ref k p]⟩,[.one (.sl τ ys)]=>match tb k with
  |some (.arr a true)=>match Ca p a (fun b=>match ct b.τ ⟨τ,ys⟩ with|some zs=>some ⟨b.τ,zs⟩|none=>none) with
   |some a'=>some ([(k,.arr a' true)],[])
   |none=>none
  |_=>none
 | .wr,.v ⟨true,cs⟩,[.agg ds]=>match dJ cs ds with|some us=>some (us,[])|none=>none
 | .mv,_,[]=>some ([],[])
 | .box true,.v ⟨false,[.cR k 0]⟩,[.box ds]=>match tb k with
  |some (.box cs)=>bif Nat.beq ds.length n then some ([(k,.box ((ai er true 512 ds).1++cs.drop n))],(ai er true 512 ds).2) else none
  |_=>none
 | .box false,.v ⟨false,[.cR k 0]⟩,[.box ds]=>match tb k with
  |some (.box cs)=>bif Nat.beq ds.length n then some ([(k,.box (ds.map .c++cs.drop n))],[]) else none
  |_=>none
 |_,_,_=>none
def lu:Mode->List (DV U)->List (DV U)
 | .mv,_=>[]
 |_,ds=>ds.take 1
def jH:Mode->List (DV U)->List (DV U)
 | .mv,ds=>ds
 |_,ds=>ds.drop 1
def dE(tb:fw U)(ag:List Key)(er:Nat):List Mode->List (List (Option U.Ty))->List (SV U)->List (DV U)->Option (List (Key×b9 U)×List (Nat×b9 U)×List Key)
 |[],_,[],[]=>some ([],[],[])
 | .ro::ms,ws,_::r,ds=>dE tb ag er ms ws.tail r ds
 |m::ms,ws,x::r,ds=>match dG tb ag (ws.headD []) m x,b7 tb er (ws.headD []).length m x (lu m ds) with
  |some (_,_,ks),some (us,es)=>match dE tb ag er ms ws.tail r (jH m ds) with
   |some (s7,AE,ks')=>bif distinct (ks++ks') then some (us++s7,es++AE,ks++ks') else none
   |none=>none
  |_,_=>none
 |_,_,_,_=>none
def bi:List Mode->List (SV U)->List Key
 | .ro::ms,x::r=>x.keys++bi ms r
 |_::ms,_::r=>bi ms r
 |_,_=>[]
def et:List Nat->Bool
 |[]=>true
 |n::r=> !(r.any (Nat.beq n))&&et r
def lW(tb:fw U)(n:Nat):List Mode->List (List (Option U.Ty))->List (SV U)->Bool
 |m::ms,ws,x::r=>(match m,x with
  | .box _,.v ⟨false,[.cR k _]⟩=>(match tb k with
   |some (.box cs)=>Nat.beq ((ws.headD []).length+n) cs.length
   |_=>false)
  | .box _,_=>false
  |_,_=>true)&&lW tb n ms ws.tail r
 |_,_,_=>true
def kN(tb:fw U)(ag:List Key)(dst:Nat)(k:bB U)(types:List TypeId)(xs:List (SV U)):Option (aw U):=
 match ew E tb ag k.md (k.want (types.map E.kq)) xs with
 |some (ps,ds)=>
  match k.of ds with
  |some x=>
   match dE tb ag dst k.md (k.want (types.map E.kq)) xs (k.cf x).qH,l6 dst (k.cf x).fresh 0 (k.cf x).val with
   |some (us,eb,lk),some (vs,es)=>
    let dn:=(bif iE (k.cf x).fresh (k.cf x).val&& !(kH k.md) then[] else bi k.md xs)++lk
    bif et ((es++eb).map (·.1))&& !(lk.any fun u=>(bi k.md xs).any (cn u))&&lW tb k.qv k.md (k.want (types.map E.kq)) xs then
     some ⟨some (match vs with|[v]=> .v v|vs=> .iV vs),es++eb,dn,us,ps++k.pre x⟩
    else none
   |_,_=>none
  |none=>none
 |none=>none
def n7(τ:U.Ty)(tb:fw U):AC U->Option (List Prop×List (U.T τ)×List Key×Bool)
 | .e0=>some ([],[],[],true)
 | .ref k []=>match tb k with
  |some (.arr a d)=>match ct τ a with|some ys=>some ([],ys,[k],d)|none=>none
  |_=>none
 | .c (.sl nj ys)=>match ct τ ⟨nj,ys⟩ with|some ys=>some ([],ys,[],U.flat τ)|none=>none
 |_=>none
def Cv:AC U->AC U
 | .kn _ τ xs=> .c (.sl τ xs)
 |x=>x
def qG(τ:U.Ty)(tb:fw U)(x:AC U):Option (List Prop×List (U.T τ)×List Key×Bool):=n7 τ tb (Cv x)
def lq(τ:U.Ty)(s:ByteArray):Option (List (U.T τ)):=ct τ ⟨U.eM,s.data.toList.map fun b=>U.Gf (b.toNat:Int)⟩
def ie(τ:U.Ty)(tb:fw U):AC U->Option (List Prop×List (U.T τ)×List Key×Bool)
 | .e0=>some ([],[],[],true)
 | .ref k []=>match tb k with
  |some (.arr a d)=>match ct τ a with|some ys=>some ([],ys,[k],d)|none=>none
  |some (.part a dead)=>match ct τ a with|some ys=>some ([∀i,i<ys.length->dead i=false],ys,[k],true)|none=>none
  |_=>none
 | .sub k _ 0 hi=>match tb k with
  |some (.arr a d)=>match ct τ a with|some ys=>some ([hi<=ys.length],ys.take hi,[k],d)|none=>none
  |_=>none
 |_=>none
def tU(E:Env U)(op:BinOp)(t:TypeId)(y:Operand)(x:SV U):Option (aw U):=
 match op,y,x with
 | .eql,.const (.slice none _ _),.v ⟨false,[.kn b _ _]⟩=>match E.P.underlying t with|some (.slice _)=>some (.lit (.bool b))|_=>none
 |_,_,_=>none
def u9:Option Value->Bool
 |some (.bool b)=>b
 |_=>false
def intOf:Option Value->Int
 |some (.int _ n)=>n
 |_=>0
def kZ(tb:fw U)(ag:List Key):List (List (Option U.Ty))->List (SV U)->Option (List Prop×List (DA U))
 |_,[]=>some ([],[])
 |ws,x::r=>match ix tb ag (ws.headD []) x,kZ tb ag ws.tail r with
  |some (ps,.one c),some (qs,ds)=>some (ps++qs,⟨false,[c]⟩::ds)
  |some (ps,.agg cs),some (qs,ds)=>some (ps++qs,⟨true,cs⟩::ds)
  |_,_=>none
def partOf(tb:fw U):AC U->Option (eT U)
 | .ref k []=>match tb k with
  |some (.part a _)=>some a
  |_=>none
 |_=>none
def qI(tb:fw U)(dst:Nat)(agg:Bool)(n:Nat):AC U->Option (aw U)
 | .dt k [] i wd off=>match tb k with
  |some (.part a dead)=>bif (agg||Nat.beq n 1)&&Nat.ble (off+n) (U.wd a.τ)&&Nat.beq wd (U.wd a.τ) then
    let cs:=((U.enc a.τ (a.xs.getD i (U.bn a.τ))).drop off).take n
    bif jl cs then some (.aD (.v ⟨agg,cs.map .c⟩) [i<a.xs.length,dead i=false])
    else bif Nat.blt n (U.wd a.τ) then some (.aD (.v ⟨agg,bU k [] i wd cs off⟩) [i<a.xs.length,dead i=false])
    else bif et ((ai dst true 0 cs).2.map (·.1)) then
     some ⟨some (.v ⟨agg,(ai dst true 0 cs).1⟩),(ai dst true 0 cs).2,[],[(k,.part a (fun j=>Nat.beq j i||dead j))],[i<a.xs.length,dead i=false]⟩
    else none
   else none
  |_=>none
 |_=>none
def mf(wd:Nat):List (SV U)->Bool
 |[]=>true
 | .v x::r=>Nat.beq x.cs.length wd&&mf wd r
 |_=>false
def nZ(τ:U.Ty)(tb:fw U):AC U->Option (List (U.T τ)×List Key)
 | .ref k []=>match tb k with
  |some (.part a _)=>match ct τ a with|some ys=>some (ys,[k])|none=>none
  |_=>none
 |_=>none
def ko(tb:fw U)(x:AV U):AC U->Option (aw U)
 | .dt k [] i wd 0=>match tb k with
  |some (.part a dead)=>bif Nat.beq wd (U.wd a.τ)&&Nat.beq x.cs.length wd then
    match bh tb (nN (U.enc a.τ (a.xs.getD i (U.bn a.τ)))) x.cs with
    |some (qs,ds,ks,true)=>match U.dec a.τ ds with
     |some y=>bif distinct (k::ks) then some ⟨none,[],ks,[(k,.part ⟨a.τ,a.xs.set i y⟩ (fun j=> !(Nat.beq j i)&&dead j))],qs++[i<a.xs.length]⟩ else none
     |none=>none
    |_=>none
   else none
  |_=>none
 |_=>none
def kp(tb:fw U)(x:AV U):AC U->Option (aw U)
 | .dt k [] i wd off=>match tb k,f_ x.cs with
  |some (.part a dead),some vs=>bif Nat.beq wd (U.wd a.τ)&&Nat.ble (off+x.cs.length) wd then
    match nP off i (vs.map .lit) a with
    |some a'=>some ⟨none,[],[],[(k,.part a' dead)],[i<a.xs.length,dead i=false]⟩
    |none=>none
   else none
  |_,_=>none
 |_=>none
def k9:List (SV U)->Option (List (AV U))
 |[]=>some []
 | .v x::r=>match k9 r with|some l=>some (x::l)|none=>none
 |_=>none
def mr(E:Env U)(tb:fw U)(ag:List Key)(t:TypeId)(types:List TypeId)(p:List (DA U)->Option Value)(xs:List (SV U)):Option (aw U):=
 match kZ tb ag (types.map E.kq) xs with
 |some (ps,ds)=>match E.P.underlying t with
  |some .bool=>some (.lit (.bool (u9 (p ds))) (ps++[p ds=some (.bool (u9 (p ds)))]))
  |some (.int k)=>some (.lit (.int k (intOf (p ds))) (ps++[p ds=some (.int k (intOf (p ds)))]))
  |_=>none
 |none=>none
def Env.xb(b:Bool)(f:FuncId):Option (bB U):=bif b then E.s0 f else E.s3 f
def kL(b:Bool)(tb:fw U)(ag:List Key)(o:Oper)(xs:List (SV U)):Option (aw U):=
 let dst:=o.dst.getD 1000000
 match o.op,xs with
 | .move _,[x]=>some (.aD x)
 | .assign _,[x]=>some (.aD x)
 | .unOp op _ _,[x]=>match cr x with
  |some v=>(pS op v).map (.lit ·)
  |none=>none
 | .binOp op t _ q _,[x,y]=>match cr x,cr y with
  |some a,some b=>(me E t op a b).map fun(ps,v)=> .lit v ps
  |_,_=>match u1 E op t x y with|some r=>some r|none=>tU E op t q x
 | .extract _ i,[.iV l]=>(l[i]?).map fun v=> .aD (.v v)
 | .alloc t,[]=>
  match(E.P.info? t).bind (·.zero) with
  |some z=>match gf (U:=U) z.cells with
   |some (.v x)=>some ⟨some (one (.cR (dst,0) 0)),[(0,.box x.cs)],[],[],[]⟩
   |_=>none
  |none=>none
 | .load t _,[x]=>match iA x,E.size t,E.isAgg t with
  |some a,some n,some g=>match(bif E.shl t then mb tb g n a else none) with
   |some r=>some r
   |none=>match loadAt tb ag g n a with
    |some r=>some r
    |none=>qI tb dst g n a
  |_,_,_=>none
 | .store t _ _,[p,.v x]=>match iA p,E.size t with
  |some a,some n=>bif Nat.beq n x.cs.length then(match storeAt tb ag x a with
   |some r=>some r
   |none=>match ko tb x a with
    |some r=>some r
    |none=>kp tb x a) else none
  |_,_=>none
 | .fieldAddr t _ f,[x]=>match iA x,E.w6 t f with
  |some y,some (o,ft)=>match E.size ft with
   |some (_+1)=>match y with
    | .ia cs=>some (.aD (one (.ia (cs.drop o))))
    | .cR k off=>some (.aD (one (.cR k (off+o))))
    | .dt k p i wd off=>bif bE tb ag k p then some (.aD (one (.dt k p i wd (off+o)))) else none
    |_=>none
   |_=>none
  |_,_=>none
 | .field t _ f,[.v ⟨true,cs⟩]=>match E.w6 t f with
  |some (o,ft)=>match E.size ft,E.isAgg ft with
   |some n,some g=>bif Nat.ble (o+n) cs.length&&(g||Nat.beq n 1) then some (.aD (.v ⟨g,(cs.drop o).take n⟩)) else none
   |_,_=>none
  |none=>none
 | .build t parts,xs=>match E.qE t,(E.P.info? t).bind (·.zero) with
  |some pl,some z=>match cD (U:=U) z.cells.toList with
   |some l=>match bX pl l (parts.toList.map (·.1)) xs with
    |some cs=>some (.aD (.v ⟨true,cs⟩))
    |none=>none
   |none=>none
  |_,_=>none
 | .buildSlice t len parts,xs=>match E.elem t with
  |some e=>match E.code e with
   |some τ=>bif (parts.toList.map (·.1)).length.beq len&&((parts.toList.map (·.1)).zipIdx).all (fun(a,b)=>Nat.beq a b)&&Nat.ble (len*U.wd τ) 1000000 then
     bif E.bD t dst (xs.flatMap SV.keys) then
      bif mf (U.wd τ) xs then some ⟨some (one (.ref (dst,0) [])),[(0,.part ⟨τ,List.replicate len (U.bn τ)⟩ (fun _=>true))],[],[],[]⟩ else none
     else match rowsOf τ tb (E.shape 8 e) xs with
     |some (ps,rows,ks,d)=>bif distinct ks then some ⟨some (one (.ref (dst,0) [])),[(0,.arr ⟨τ,rows⟩ d)],ks,[],ps⟩ else none
     |none=>none
    else none
   |none=>none
  |none=>none
 | .makeSlice t _ _,[l,c]=>match E.elem t,cr l,cr c with
  |some e,some (.int .i64 n),some (.int .i64 m)=>match E.code e with
   |some τ=>some ⟨some (one (.ref (dst,0) [])),[(0,.arr ⟨τ,List.replicate n.toNat (U.bn τ)⟩ true)],[],[],[0<=n,n=m,n<=4294967296]⟩
   |none=>none
  |_,_,_=>none
 | .indexAddr t _ _,[x,i]=>match cr i,iA x,(E.elem t).bind E.size with
  |some (.int _ n),some y,some m=>match y with
   | .c (.sl τ ys)=>bif Nat.beq m (U.wd τ) then some (.aD (one (.ia (U.enc τ (ys.getD n.toNat (U.bn τ))))) [0<=n,n.toNat<ys.length]) else none
   | .ref k p=>match eN tb ag (.ref k p) with
    |some (ps,a)=>bif Nat.beq m (U.wd a.τ) then some (.aD (one (.dt k p n.toNat (U.wd a.τ) 0)) (ps++[0<=n,n.toNat<a.xs.length])) else none
    |none=>match p,partOf tb (.ref k []) with
     |[],some a=>bif Nat.beq m (U.wd a.τ) then some (.aD (one (.dt k [] n.toNat (U.wd a.τ) 0)) [0<=n,n.toNat<a.xs.length]) else none
     |_,_=>none
   |_=>none
  |_,_,_=>none
 | .index t _ _,[x,i]=>match cr x,cr i,E.P.underlying t with
  |some (.string s),some (.int _ n),some .string=>some (.lit (.int .u8 ((s.data.toList.getD n.toNat 0).toNat:Int)) [0<=n,n.toNat<s.size])
  |_,_,_=>none
 | .slice t _ lo hi mx,x::bs=>match nI lo bs with
  |some (l,OZ)=>match nI hi OZ with
   |some (h,OY)=>match nI mx OY with
    |some (m,[])=>iD E tb ag t x l h m
    |_=>none
   |none=>none
  |none=>none
 | .call {callee:=.builtin .len,argTypes,..},[x]=>match argTypes.toList with
  |[t]=>match cr x with
   |some (.string s)=>match E.P.underlying t with
    |some .string=>some (.lit (.int .i64 s.size))
    |_=>none
   |some _=>none
   |none=>match iA x,E.elem t with
    |some .e0,some _=>some (.lit (.int .i64 0))
    |some a,some _=>match eN tb ag a with
     |some (ps,b)=>some (.lit (.int .i64 b.xs.length) ps)
     |none=>match partOf tb a with
      |some b=>some (.lit (.int .i64 b.xs.length))
      |none=>none
    |_,_=>none
  |_=>none
 | .call {callee:=.builtin .clear,argTypes,..},[x]=>match argTypes.toList with
  |[t]=>match E.elem t,iA x with
   |some e,some (.sub k wd lo hi)=>match E.code e,tb k with
    |some τ,some (.part a dead)=>bif Nat.beq wd (U.wd a.τ) then(match ct τ a with
     |some xs=>some ⟨some (.iV []),[],[],[(k,.part ⟨τ,xs⟩ (fun j=>dead j||Nat.ble lo j))],[lo<=hi,hi=xs.length]⟩
     |none=>none) else none
    |_,_=>none
   |_,_=>none
  |_=>none
 | .call {callee:=.builtin .min,..},[x,y]=>match cr x,cr y with
  |some (.int k a),some (.int k' b)=>bif decide (k=k') then some (.lit (.int k (if b<a then b else a))) else none
  |_,_=>none
 | .call {callee:=.builtin .max,..},[x,y]=>match cr x,cr y with
  |some (.int k a),some (.int k' b)=>bif decide (k=k') then some (.lit (.int k (if b>a then b else a))) else none
  |_,_=>none
 | .call {callee:=.builtin .append,argTypes,..},[s,x]=>
  match argTypes.toList with
  |[t,u]=>match E.elem t,E.elem u,iA s,iA x with
   |some e,some e',some s,some x=>bif Nat.beq t u&&Nat.beq e e' then
    match E.code e with
    |some τ=>
     match ie τ tb s,qG τ tb x with
     |some (ps,xs,ks,d),some (qs,ys,ks',d')=>
      bif distinct (ks++ks') then
       some ⟨some (one (.ref (dst,0) [])),[(0,.arr ⟨τ,xs++ys⟩ (d&&d'))],ks++ks',[],ps++qs++[xs.length+ys.length<=4294967296]⟩
      else none
     |some (ps,xs,ks,true),none=>match nZ τ tb x with
      |some (ys,ks')=>bif distinct (ks++ks') then
        some ⟨some (one (.ref (dst,0) [])),[(0,.part ⟨τ,xs++ys⟩ (fun i=>Nat.ble xs.length i))],ks++ks',[],ps++[xs.length+ys.length<=4294967296]⟩
       else none
      |none=>none
     |_,_=>none
    |none=>none else none
   |some e,none,some s,some (.c (.lit (.string str)))=>match E.P.underlying u,E.code e with
    |some .string,some τ=>match ie τ tb s,lq τ str with
     |some (ps,xs,ks,d),some ys=>bif distinct ks then
       some ⟨some (one (.ref (dst,0) [])),[(0,.arr ⟨τ,xs++ys⟩ d)],ks,[],ps++[xs.length+ys.length<=4294967296]⟩ else none
     |_,_=>none
    |_,_=>none
   |_,_,_,_=>none
  |_=>none
 | .makeFunc (.func g) first _,xs=>bif first.isEmpty then(match k9 xs with|some l=>some (.aD (.nH g l))|none=>none) else none
 | .call {callee:=.value (.tmp _),argTypes,..},.fn p::xs=>mr E tb ag o.type argTypes.toList p xs
 | .call {callee:=.value (.func f),argTypes,..},xs=>match E.xb b f with
  |some k=>kN E tb ag dst k argTypes.toList xs
  |none=>none
 | .box _ _,[.v x]=>bif ir tb ag x.cs&&(x.agg||Nat.beq x.cs.length 1) then some ⟨some (one (.cR (dst,0) 0)),[(0,.box x.cs)],[],[],[]⟩ else none
 | .nilCheck _,[x]=>match iA x with
  |some (.ia _)=>some (.aD x)
  |some (.cR _ _)=>some (.aD x)
  |some (.dt k p _ _ _)=>bif bE tb ag k p then some (.aD x) else none
  |_=>none
 | .convert s d _,[x]=>match E.P.underlying d with
  |some (.int k)=>match E.P.underlying s,cr x with
   |some (.int _),some (.int _ n)=>some (.lit (.int k (k.wrap n)))
   |_,_=>none
  |some .string=>match E.P.underlying s with
   |some (.slice e)=>match E.P.underlying e,iA x with
    |some (.int .u8),some .e0=>some (.lit (.string ByteArray.empty))
    |some (.int .u8),some y=>match eN tb ag y with
     |some (ps,b)=>match ct U.eM b with
      |some ys=>some (.lit (.string (strOfNums (ys.map U.xp))) ps)
      |none=>none
     |none=>none
    |_,_=>none
   |_=>none
  |_=>none
 |_,_=>none
def Oper.looks(o:Oper):List Operand:=
 match o.op with
 | .build _ ps=>ps.toList.map (·.2)
 | .buildSlice _ _ ps=>ps.toList.map (·.2)
 | .call c=>(match c.callee with| .value (.func _)=>[]| .builtin _=>[]| .value f=>[f]| .invoke r _=>[r])++c.args.toList
 |op=>op.operands.toList
def fQ(σ:aa U)(o:Oper):Option (List (SV U)):=lV ((Oper.looks o).map (qF σ))
def fF(σ:aa U)(o:Oper):Bool:=match o.dst with|some d=>Nat.blt d σ.n|none=>true
def ns(x:Option (SV U)):Option Value:=match x with|some y=>cr y|none=>none
def kw(σ:aa U)(x:Operand):Option Value:=ns (qF σ x)
def kindOk(o:Oper):Bool:=match o.op with
 | .store _ _ _=>o.dst.isNone
 | .alloc _| .box _ _| .buildSlice _ _ _| .makeSlice _ _ _=>o.dst.isSome
 | .call c=>(match c.callee with| .builtin .clear=>true| .builtin _=>o.dst.isSome|_=>true)
 |_=>true
def step(b:Bool)(σ:aa U)(o:Oper):Option (aw U×List Key):=
 bif fF σ o&&kindOk o then
  match o.op with
  | .pick c a b=>
   match kw σ c with
   |some (.bool t)=>match(bif t then qF σ a else qF σ b) with
    |some x=>some (.aD x,[])
    |none=>none
   |_=>none
  |_=>match fQ σ o with
   |some xs=>match kL E b (restrict σ.aq (fa σ o xs)) σ.ag o xs with
    |some r=>some (r,fa σ o xs)
    |none=>none
   |none=>none
 else none
def fe(dst:Nat)(l:List (Nat×b9 U)):List (Key×Option (b9 U)):=l.map fun(j,e)=>((dst,j),some e)
def apply(o:Oper)(r:aw U)(σ:aa U):aa U:=
 {σ with
  ap:=(match o.dst with|some d=>(d,r.val)::σ.ap|none=>σ.ap)
  tab:=fe (o.dst.getD 1000000) r.aQ++r.cF.map (fun(k,e)=>(k,some e))++r.dn.map (fun k=>(k,none))++σ.tab
  ag:=r.cF.map (·.1)++σ.ag}
def kl:aw U:=⟨some (.iV []),[],[],[],[]⟩
structure Rec where
 i:Nat
 reads:List Key
 names:List Key
 writes:List Key
 news:List Key
def aw.news(dst:Nat)(r:aw U):List Key:=r.aQ.map fun(j,_)=>(dst,j)
def aw.writes(dst:Nat)(r:aw U):List Key:=r.aQ.map (fun(j,_)=>(dst,j))++r.dn++r.cF.map (·.1)
def b9.names:b9 U->List Key
 | .box cs=>cs.flatMap AC.keys
 | .arr _ _=>[]
 | .part _ _=>[]
def aw.names(r:aw U):List Key:=
 (match r.val with|some x=>x.keys|none=>[])++r.aQ.flatMap (fun(_,e)=>e.names)++r.cF.flatMap (fun(_,e)=>e.names)
def gF(dst:Nat)(r:aw U)(rs:List Rec):Bool:=r.aQ.isEmpty||rs.all fun x=> !((x.reads++x.names++x.writes).any fun k=>Nat.beq k.1 dst)
def jv(o:Oper)(r:aw U):Bool:=r.aQ.all fun(j,_)=>Nat.blt j 1024
def meet(a b:List Key):Bool:=a.any fun k=>b.any (cn k)
def Lp(ops:List Oper):List Nat:=
 ops.foldl (fun acc o=>acc++[o.after.toList.foldl (fun m e=>bif Region.binds .any e then Nat.lor m (Nat.lor (Nat.shiftLeft 1 e.on) (acc.getD e.on 0)) else m) 0]) []
def j8(m i:Nat):Bool:=Nat.beq (Nat.land (Nat.shiftRight m i) 1) 1
def kI(ops:List Oper)(o:Oper):List Nat:=
 match o.guard with
 |some (g,_)=>match ops[g]? with|some q=>q.dst.toList|none=>[]
 |none=>[]
def slotsOf(ops:List Oper)(o:Oper):List Nat:=
 (o.op.operands.toList.flatMap fun| .tmp t=>[t]|_=>[])++kI ops o
def oH(ops:List Oper)(x y:Oper)(rx ry:Rec):Bool:=
 !(meet rx.writes (ry.reads++ry.writes))&& !(meet ry.writes rx.reads)&& !(meet rx.news ry.names)&&
 (match x.dst with|some d=> !((slotsOf ops y).any (Nat.beq d))&& !(y.dst.any (Nat.beq d))|none=>true)&&
 (match y.dst with|some d=> !((slotsOf ops x).any (Nat.beq d))|none=>true)
def xu(ops:List Oper):Bool:=ops.zipIdx.all fun(o,i)=>o.after.toList.all fun e=> !(Region.binds .any e)||Nat.blt e.on i
def rb(ops:List Oper)(CK:List Rec):Bool:=
 let an:=Lp ops
 xu ops&&CK.all fun ry=>CK.all fun rx=>
  !(Nat.blt rx.i ry.i)||j8 (an.getD ry.i 0) rx.i||
  (match ops[rx.i]?,ops[ry.i]? with|some x,some y=>oH ops x y rx ry|_,_=>false)
def guards(ops:List Oper)(i:Nat):Bool:=ops.any fun o=>match o.guard with|some (g,_)=>Nat.beq g i|none=>false
def s5:List Prop->Prop->Prop
 |[],q=>q
 |p::ps,q=>p/\s5 ps q
def u_(a b:Bool):Bool:=match a,b with|true,true=>true|false,false=>true|_,_=>false
def tn(i:Nat)(o:Oper)(σ:aa U)(rs:List Rec)(ks:List Key)(K:aa U->Rec->Prop)(r:aw U):Prop:=
 bif gF (o.dst.getD 1000000) r rs&&jv o r then K (apply o r σ) ⟨i,ks,r.names,r.writes (o.dst.getD 1000000),r.news (o.dst.getD 1000000)⟩ else False
def yp(r:aw U)(b:Bool):aw U:={r with val:=some (iR (.bool b))}
def pE(QD:Bool)(ops:List Oper)(i:Nat)(o:Oper)(σ:aa U)(rs:List Rec)(K:aa U->Rec->Prop):Prop:=
 match step E QD σ o with
 |some (r,ks)=>
  s5 r.pre<|
  bif guards ops i then
   match ns r.val with
   |some (.bool b)=>bif b then tn i o σ rs ks K (yp r true) else tn i o σ rs ks K (yp r false)
   |_=>False
  else tn i o σ rs ks K r
 |none=>False
def Fy(o:Oper):Bool:=match o.op with
 | .call {callee:=.value (.func f),..}=>(E.s0 f).isSome
 |_=>false
def pD(ops:List Oper)(i:Nat)(o:Oper)(σ:aa U)(rs:List Rec)(K:aa U->Rec->Prop):Prop:=
 bif Fy E o then pE E false ops i o σ rs K\/pE E true ops i o σ rs K else pE E false ops i o σ rs K
def wpOps(ops:List Oper):List Oper->Nat->aa U->List Rec->(aa U->List Rec->Prop)->Prop
 |[],_,σ,rs,K=>K σ rs
 |o::rest,i,σ,rs,K=>
  match o.guard with
  |none=>pD E ops i o σ rs fun dD r=>wpOps ops rest (i+1) dD (r::rs) K
  |some (g,want)=>
   match((ops[g]?).bind (·.dst)).bind σ.get with
   |some (.v x)=>match cr (.v x) with
    |some (.bool b)=>bif u_ b want then pD E ops i o σ rs fun dD r=>wpOps ops rest (i+1) dD (r::rs) K
     else bif fF σ o then wpOps ops rest (i+1) (apply o kl σ) (⟨i,[],[],[],[]⟩::rs) K else False
    |_=>False
   |some (.iV [])=>bif fF σ o then wpOps ops rest (i+1) (apply o kl σ) (⟨i,[],[],[],[]⟩::rs) K else False
   |_=>False
def SV.rq(bad:Key->Bool)(ag:List Key)(x:SV U):Bool:=
 x.lM.any fun a=>a.keys.any bad||(match a with| .ref k p| .dt k p _ _ _=> !p.isEmpty&&ag.any (cn k)|_=>false)
def AC.ib(f:Key->Key):AC U->AC U
 | .ref k p=> .ref (f k) p
 | .sub k wd lo hi=> .sub (f k) wd lo hi
 | .dt k p i wd off=> .dt (f k) p i wd off
 | .cR k off=> .cR (f k) off
 |x=>x
def SV.ib(f:Key->Key):SV U->SV U
 | .v x=> .v ⟨x.agg,x.cs.map (AC.ib f)⟩
 | .iV xs=> .iV (xs.map fun x=>⟨x.agg,x.cs.map (AC.ib f)⟩)
 | .fn p=> .fn p
 | .nH g xs=> .nH g (xs.map fun x=>⟨x.agg,x.cs.map (AC.ib f)⟩)
def b9.ib(f:Key->Key):b9 U->b9 U
 | .box cs=> .box (cs.map (AC.ib f))
 |e=>e
def jC{β:Type}:List Nat->List (Nat×Option β)->List (Nat×Option β)
 |_,[]=>[]
 |seen,(s,v)::r=>bif seen.any (Nat.beq s) then jC seen r else match v with
  |some x=>(s,some x)::jC (s::seen) r
  |none=>jC (s::seen) r
def fz{β:Type}:List Key->List (Key×Option β)->List (Key×Option β)
 |_,[]=>[]
 |seen,(s,v)::r=>bif seen.any (cn s) then fz seen r else match v with
  |some x=>(s,some x)::fz (s::seen) r
  |none=>fz (s::seen) r
def fZ(bad:Key->Bool)(σ:aa U):aa U:=
 let ok (x:SV U):Bool:= !(x.rq (fun k=>bad k||(a9 σ.tab k).isNone) σ.ag)
 {σ with
  ap:=(jC [] σ.ap).filter fun(_,v)=>match v with|some (.iV [])=>false|some x=>ok x|none=>false
  tab:=(fz [] σ.tab).filter fun(k,e)=> !(bad k)&&(match e with|some (.box cs)=>ok (.v ⟨true,cs⟩)|_=>true)
  ag:=[]}
def CJ(d:Nat)(x:SV U):List (Key×Key):=
 (x.lM.zipIdx).flatMap fun(a,j)=>match a with
  | .ref k []| .sub k _ _ _| .cR k _=>[(k,(d,1024+j))]
  |_=>[]
def jk(l:List (Key×Key))(k:Key):Key:=
 match l with
 |[]=>k
 |(a,b)::r=>bif cn a k then b else jk r k
def rename(l:List (Key×Key))(σ:aa U):aa U:=
 {σ with
  ap:=σ.ap.map fun(s,v)=>(s,v.map (SV.ib (jk l)))
  tab:=σ.tab.map fun(k,e)=>(jk l k,e.map (b9.ib (jk l)))}
def fY(l0:List (Key×Key))(σ:aa U):aa U:=
 let l:=l0.filter fun(a,b)=> !(cn a b)&& !(Nat.ble 2000000 a.1&&Nat.blt a.2 1024)
 bif l.isEmpty|| !(distinct (l.map (·.1)))|| !(distinct (l.map (·.2)))|| !(l.all fun(_,b)=>Nat.ble 1024 b.2) then σ else
  let O9:=l.map (·.2)
  rename l (fZ (fun k=>O9.any (cn k)) σ)
def gn(d:Nat)(σ:aa U):aa U:=
 match σ.get d with
 |some x=>fY (CJ d x) σ
 |none=>σ
def yt(k:Key)(cs:List (AC U)):List (Key×Key):=
 cs.zipIdx.flatMap fun(a,j)=>match a with
  | .ref q []| .sub q _ _ _=>[(q,(k.1,4096*(k.2+1)+j))]
  |_=>[]
def jF(k:Key)(σ:aa U):aa U:=
 match σ.aq k with
 |some (.box cs)=>fY (yt k cs) σ
 |_=>σ
def boxes(σ:aa U):List Key:=σ.tab.flatMap fun(k,e)=>match e with|some (.box _)=>[k]|_=>[]
inductive fx where
 |slot (s j:Nat)
 |box (k:Key) (j:Nat)
def fx.key:fx->Key
 | .slot s j=>(s,1024+j)
 | .box k j=>(k.1,4096*(k.2+1)+j)
def sB:Option (AC U)->Bool
 |some .e0=>true
 |_=>false
def unnamed(k:Key)(σ:aa U):Bool:=
 (σ.ap.all fun(_,v)=>match v with|some x=> !(x.keys.any (cn k))|none=>true)&&
 (σ.tab.all fun(_,e)=>match e with|some (.box cs)=> !(cs.any fun a=>a.keys.any (cn k))|_=>true)
def su(p:fx)(τ:U.Ty×Bool)(σ:aa U):aa U:=
 bif (a9 σ.tab p.key).isNone&&unnamed p.key σ&&Nat.ble 1024 p.key.2 then
  match p with
  | .slot s j=>match σ.get s with
   |some (.v x)=>bif sB x.cs[j]? then
     {σ with ap:=(s,some (.v ⟨x.agg,x.cs.set j (.ref p.key [])⟩))::σ.ap,tab:=(p.key,some (.arr ⟨τ.1,[]⟩ τ.2))::σ.tab} else σ
   |_=>σ
  | .box k j=>match σ.aq k with
   |some (.box cs)=>bif sB cs[j]? then
     {σ with tab:=(p.key,some (.arr ⟨τ.1,[]⟩ τ.2))::(k,some (.box (cs.set j (.ref p.key []))))::σ.tab} else σ
   |_=>σ
 else σ
def fB(k0:Key)(σ:aa U):aa U:=
 match σ.aq k0 with
 |some (.arr a true)=>{σ with tab:=(k0,some (.part a fun _=>false))::σ.tab}
 |_=>σ
def parts(l:List Key)(σ:aa U):aa U:=l.foldl (fun σ k=>fB k σ) σ
def lU(k0:Key)(σ:aa U):aa U:=
 match σ.aq k0 with
 |some (.arr a true)=>{σ with tab:=(k0,some (.arr a false))::σ.tab,ag:=k0::σ.ag}
 |_=>σ
def sr(p:fx)(τ:U.Ty)(σ:aa U):aa U:=
 match p with
 | .slot s j=>match σ.get s with
  |some (.v x)=>bif sB x.cs[j]? then{σ with ap:=(s,some (.v ⟨x.agg,x.cs.set j (.c (.sl τ []))⟩))::σ.ap} else σ
  |_=>σ
 | .box k j=>match σ.aq k with
  |some (.box cs)=>bif sB cs[j]? then{σ with tab:=(k,some (.box (cs.set j (.c (.sl τ [])))))::σ.tab} else σ
  |_=>σ
def sq:List (fx×U.Ty×Option Bool)->aa U->aa U
 |[],σ=>σ
 |(p,τ,some d)::r,σ=>sq r (su p (τ,d) σ)
 |(p,τ,none)::r,σ=>sq r (sr p τ σ)
def assigned(ops:List Oper):List Nat:=ops.flatMap fun o=>match o.op with| .assign _=>o.dst.toList|_=>[]
def cB(σ:aa U):aa U:=fZ (fun _=>false) σ
def rr(l:List Key)(σ:aa U):aa U:=match l with
 |[]=>σ
 |k::l=>cB ((k::l).foldl (fun σ k=>lU k σ) σ)
def jE(l:List Key)(σ:aa U):aa U:=l.foldl (fun σ k=>jF k σ) σ
def settle(ops:List Oper)(σ:aa U):aa U:=
 let Of:=(assigned ops).foldl (fun σ d=>gn d σ) (cB σ)
 jE (boxes Of) Of
def ll(ops:List Oper):List Nat:=ops.flatMap fun o=>o.dst.toList
def enter(ops:List Oper)(σ:aa U):aa U:=let ds:=ll ops;fZ (fun k=>(ds.any (Nat.beq k.1)||Nat.beq k.1 1000000)&&Nat.blt k.2 1024) σ
def ov(k0:Key)(c:U.C):AC U->AC U
 | .ref k []=>bif cn k k0 then .c c else .ref k []
 |x=>x
def qY(k0:Key)(c:U.C):SV U->SV U
 | .v x=> .v ⟨x.agg,x.cs.map (ov k0 c)⟩
 |x=>x
def p9(k0:Key)(c:U.C):b9 U->b9 U
 | .box cs=> .box (cs.map (ov k0 c))
 |e=>e
def dz(k0:Key)(σ:aa U):aa U:=
 match σ.aq k0 with
 |some (.arr a _)=>{σ with
   ap:=σ.ap.map fun(s,v)=>(s,v.map (qY k0 (.sl a.τ a.xs)))
   tab:=(k0,none)::σ.tab.map fun(k,e)=>(k,e.map (p9 k0 (.sl a.τ a.xs)))}
 |_=>σ
def gG(s:Nat)(σ:aa U):aa U:=
 match σ.get s with
 |some (.v ⟨_,[.ref k []]⟩)=>dz k σ
 |_=>σ
def fE(l:List Nat)(σ:aa U):aa U:=l.foldl (fun σ s=>gG s σ) σ
def rE(E:Env U)(ops:List Oper):List Nat:=ops.flatMap fun o=>match o.op with
 | .call {callee:=.value (.func f),args,..}=>match E.s3 f with
  |some k=>bif kH k.md then(k.md.zip args.toList).flatMap fun(m,q)=>match m,q with
    | .ro,.tmp t=>ops.flatMap fun p=>match p.dst,p.op with
     |some d,.move (.tmp v)=>bif Nat.beq d t then[v] else[]
     |_,_=>[]
    |_,_=>[] else[]
  |none=>[]
 |_=>[]
def gb(l:List Key)(σ:aa U):aa U:=l.foldl (fun σ k=>dz k σ) σ
def rootOf(ops:List Oper)(t:Nat):Nat:=match ops.find? (fun p=>p.dst.any (Nat.beq t)) with
 |some p=>match p.op with
  | .move (.tmp v)=>v
  |_=>t
 |none=>t
def rR(ops:List Oper)(σ:aa U):List Key:=ops.flatMap fun o=>match o.op with
 | .makeFunc _ _ gL=>gL.toList.flatMap fun q=>match q with
  | .tmp t=>match σ.get (rootOf ops t) with
   |some (.v ⟨_,[.cR k _]⟩)=>match σ.aq k with
    |some (.box cs)=>cs.flatMap fun c=>match c with
     | .ref q []=>[q]
     |_=>[]
    |_=>[]
   |_=>[]
  |_=>[]
 |_=>[]
def mz(E:Env U)(ops:List Oper)(σ:aa U):aa U:=gb (rR ops (fE (rE E ops) (enter ops σ))) (fE (rE E ops) (enter ops σ))
def jB(ops:List Oper)(draw:Bool)(σ:aa U)(K:aa U->Prop):Prop:=
 wpOps E ops ops 0 (mz E ops σ) [] fun dD rs=>bif !draw||rb ops rs then K (settle ops dD) else False
inductive Out (U:dh) where
 |normal (σ:aa U)
 |exit (id:Nat) (σ:aa U)
 |ret (σ:aa U)
structure cw(U:dh) where
 X:Type
 ap:X->List (Nat×SV U)
 aJ:X->List (Key×b9 U)
 un:aa U->(X->Prop)->Prop
 nil:List (fx×U.Ty×Option Bool)
 xW:List Nat
 xX:List Key
 xr:List Key
 xt:List Key
 I:X->X->Prop
 μ:X->Nat
 all:(X->Prop)->Prop
 va:∀P,all P->∀y,P y
 names:List Nat
 BM:∀x,∀p∈ap x,p.1∈names
 Ea:∀p∈nil,∀s j,p.1=fx.slot s j->s∈names
 law:∀σ K,un σ K->∃x,K x/\(∀p∈ap x,σ.get p.1=some p.2)/\(∀p∈aJ x,σ.aq p.1=some p.2)
def hZ(l:List Nat)(σ:aa U):aa U:=l.foldl (fun σ d=>gn d σ) σ
def tu(σ:aa U):aa U:=jE (boxes σ) σ
def mU(A:cw U)(σ:aa U):aa U:=parts A.xt<|sq A.nil (gb A.xX (fE A.xW (rr A.xr (cB (tu (hZ A.names (cB σ)))))))
def cj:Code->Option Nat
 | .region id _ _=>some id
 | .seq a b=>match cj a with|some i=>some i|none=>cj b
 | .cond _ a b=>match cj a with|some i=>some i|none=>cj b
 | .block _ b=>cj b
 | .loop b=>cj b
 |_=>none
def AJ(r:Nat)(c:Code):Bool:=match cj c with
 |some i=>Nat.beq i r
 |none=>false
def sZ(r:Nat):Code->Option (Code×Code)
 | .seq a b=>bif AJ r b then some (a,b) else match sZ r b with
  |some p=>some (.seq a p.1,p.2)
  |none=>none
 |_=>none
def AH(r:Nat)(c:Code):Code:=match sZ r c with
 |some p=>p.1
 |none=> .skip
def AG(r:Nat)(c:Code):Code:=match sZ r c with
 |some p=>p.2
 |none=> .skip
def dH(A:cw U)(wr:List Nat)(σ:aa U)(x:A.X):aa U:=
 ⟨σ.n,
  (A.ap x).map (fun(s,v)=>(s,some v))++
   ((jC [] σ.ap).filter fun(s,v)=> !(wr.any (Nat.beq s))&& !(A.names.any (Nat.beq s))&&(match v with|some (.v y)=>(SV.v y).keys.isEmpty|some (.fn _)=>true|_=>false)),
  (A.aJ x).map fun(k,e)=>(k,some e),
  []⟩
variable(eO:Nat->Option (cw U))
def bO:Code->List Nat
 | .region _ ops _=>ll ops.toList
 | .seq a b=>bO a++bO b
 | .cond _ a b=>bO a++bO b
 | .block _ b=>bO b
 | .loop b=>bO b++(match(cj b).bind eO with|some A=>A.names|none=>[])
 |_=>[]
def wp:Code->aa U->(Out U->Prop)->Prop
 | .skip,σ,Q=>Q (.normal σ)
 | .seq a b,σ,Q=>wp a σ fun
  | .normal dD=>wp b dD Q
  |o=>Q o
 | .cond c t e,σ,Q=>match kw σ c with
  |some (.bool b)=>bif b then wp t σ Q else wp e σ Q
  |_=>False
 | .block id c,σ,Q=>wp c σ fun
  | .exit Eg dD=>bif Nat.beq Eg id then Q (.normal dD) else Q (.exit Eg dD)
  |o=>Q o
 | .loop c,σ,Q=>match(cj c).bind eO with
  |some A=>A.un (mU A σ) fun x=>A.I x x/\
    A.all fun y=>A.I x y->wp c (dH A (bO eO c) σ y) fun
     | .normal dD=>A.un (mU A dD) fun z=>A.I x z/\A.μ z<A.μ y
     |o=>Q o
  |none=>False
 | .exit id,σ,Q=>Q (.exit id σ)
 | .ret,σ,Q=>Q (.ret σ)
 | .region _ ops draw,σ,Q=>jB E ops.toList draw σ fun dD=>Q (.normal dD)
 |_,_,_=>False
end
end
end AM
