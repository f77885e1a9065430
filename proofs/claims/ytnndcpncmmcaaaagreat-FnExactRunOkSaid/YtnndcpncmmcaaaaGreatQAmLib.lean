import Derived.Test.YtnndcpncmmcaaaaGreatQAmProg
import Derived.Test.YtnndcpncmmcaaaaGreatQAmHand
import Derived.KernelRfl
import Derived.IntWalk
namespace AM
open Go
theorem wrap_i64{n:Int}(h: -9223372036854775808<=n)(h':n<=9223372036854775807):IntKind.wrap .i64 n=n:=IntWalk.i64_in n ⟨h,h'⟩
theorem ae{b:Bool}{P Q:Prop}(h1:b=true->P)(h2:b=false->Q):bif b then P else Q:=by cases b<;>simp_all
@[simp] theorem V_ {P Q:Prop}:(bif true then P else Q)=P:=rfl
@[simp] theorem Up {P Q:Prop}:(bif false then P else Q)=Q:=rfl
theorem ae8{p:Prop}[Decidable p]{P Q:Prop}(h:p):(bif decide p then P else Q)=P:=by simp[h]
@[simp] theorem ae5 {α:Type} (p:List α) (a:α) (r:List α) (z:α):List.getD (p++a::r) p.length z=a:=by simp
@[simp] theorem acq {α:Type} (p:List α) (a:α) (r:List α) (z:α):List.getD (p++a::r) (Int.toNat (p.length:Int)) z=a:=by simp
theorem Bd.len{U:jO}{τ:U.Ty}{xs:List (U.T τ)}(h:Bd (U:=U) (.sl τ xs)):xs.length<=9223372036854775807:=by cases h;assumption
theorem Bd.row{U:jO}{τ:U.Ty}{xs:List (U.T τ)}(h:Bd (U:=U) (.sl τ xs)){x:U.T τ}(hx:x∈xs){c:U.C}(hc:c∈U.enc τ x):Bd c:=by
 cases h with
 |sl _ _ _ h=>
  obtain⟨i,hi,rfl⟩:=zG hx
  obtain⟨j,hj,rfl⟩:=zG hc
  exact h i _ j _ (gr hi) (gr hj)
theorem Bd.i64{U:jO}{n:Int}(h:Bd (U:=U) (.lit (.int .i64 n))): -9223372036854775808<=n/\n<=9223372036854775807:=by
 cases h with
 |lit _ h=>exact h.2
theorem Bd.str{U:jO}{s:ByteArray}(h:Bd (U:=U) (.lit (.string s))):s.size<=9223372036854775807:=by
 cases h with
 |lit _ h=>exact h.2
theorem cx{x y:Bool}(h:x=y):Lf [.one (.lit (.bool x))] [.one (.lit (.bool y))]:=by rw[h];exact⟨rfl,rfl⟩
theorem lQ{p:Prop}[Decidable p](h:p):Lf [.one (.lit (.bool true))] [.one (.lit (.bool (decide p)))]:=cx (by simp[h])
theorem ju{p:Prop}[Decidable p](h:¬p):Lf [.one (.lit (.bool false))] [.one (.lit (.bool (decide p)))]:=cx (by simp[h])
theorem cG{x y:Int}(h:x=y):Lf [.one (.lit (.int .i64 x))] [.one (.lit (.int .i64 y))]:=by rw[h];exact⟨rfl,rfl⟩
theorem aO(a:List (DV UU)):Lf a a:=⟨rfl,rfl⟩
@[simp] theorem bZ (a b:ByteArray):(ByteArray.toList a==ByteArray.toList b)=decide (a=b):=by
 rw[HT,beq_iff_eq,decide_eq_true_eq,ByteArray.toList_eq,ByteArray.toList_eq]
 constructor
 ·intro h
  obtain⟨⟨a⟩⟩:=a
  obtain⟨⟨b⟩⟩:=b
  simpa using h
 ·rintro rfl;rfl
theorem cj{α:Type}(l:List α)(z:α){i:Int}(h0:0<=i)(h:i<l.length):l.drop i.toNat=List.getD l i.toNat z::l.drop (i+1).toNat:=by
 have hn:i.toNat<l.length:=by omega
 rw[zel hn]
 have:(i+1).toNat=i.toNat+1:=by omega
 rw[this,gh,gr hn]
 rfl
theorem bU{α:Type}(l:List α){i:Int}(h:l.length<=i):l.drop i.toNat=[]:=List.drop_eq_nil_of_le (by omega)
theorem Ic{α:Type}(l:List α)(z:α){i:Int}(h0:0<=i)(h:i<l.length):
  (l.take i.toNat++List.replicate (l.length-i.toNat) z).set i.toNat (List.getD l i.toNat z)=l.take (i+1).toNat++List.replicate (l.length-(i+1).toNat) z:=by
 have hn:i.toNat<l.length:=by omega
 have e:(i+1).toNat=i.toNat+1:=by omega
 rw[e]
 refine Ow fun j=> ?_
 rw[Ov]
 have hl:(l.take i.toNat++List.replicate (l.length-i.toNat) z).length=l.length:=by simp;omega
 by_cases hj:i.toNat=j
 ·subst hj
  rw[if_pos rfl,if_pos (by rw[hl];exact hn),u_ (by simp;omega),mP,if_pos (by omega),gh,gr hn]
  rfl
 ·rw[if_neg hj]
  rcases lR j i.toNat with g|g
  ·rw[u_ (by simp;omega),u_ (by simp;omega),mP,mP,if_pos g,if_pos (by omega)]
  ·rw[va (by simp;omega),va (by simp;omega)]
   simp only[mO,zdz]
   have h1:min i.toNat l.length=i.toNat:=by omega
   have h2:min (i.toNat+1) l.length=i.toNat+1:=by omega
   rw[h1,h2]
   by_cases V1:j<l.length
   ·rw[if_pos (by omega),if_pos (by omega)]
   ·rw[if_neg (by omega),if_neg (by omega)]
def dh(left:Int)(n:Nat):Int:=if(n:Int)<=left then left-n else-1
theorem Lu{left:Int}{a b:Nat}(_h:0<=left-a):dh (left-a) b=dh left (a+b):=by
 simp only[dh];split<;>split<;>omega
theorem RW{left:Int}{a b:Nat}(h:0<=dh left a):dh (dh left a) b=dh left (a+b):=by
 have h1:dh left a=left-a:=by
  simp only[dh] at*;split at h
  ·rw[if_pos (by assumption)]
  ·omega
 rw[h1] at h⊢
 exact Lu h
theorem RX{left:Int}{a b:Nat}(h:dh left a<0):dh left (a+b)= -1:=by
 simp only[dh] at*;split at h
 ·omega
 ·rw[if_neg (by omega)]
noncomputable section
def dI(n:Int):DV UU:=.one (.lit (.int .i64 n))
def oI:DV UU->Option Int:=fun| .one (.lit (.int .i64 n))=>some n|_=>none
theorem lI(d:DV UU)(x:Int)(h:oI d=some x):dI x=d:=by unfold oI at h;split at h<;>cases h;rfl
def dY(n:Int):DV UU:=.one (.lit (.int .u8 n))
def oY:DV UU->Option Int:=fun| .one (.lit (.int .u8 n))=>some n|_=>none
theorem lY(d:DV UU)(x:Int)(h:oY d=some x):dY x=d:=by unfold oY at h;split at h<;>cases h;rfl
def dO(n:Bool):DV UU:=.one (.lit (.bool n))
def oO:DV UU->Option Bool:=fun| .one (.lit (.bool n))=>some n|_=>none
theorem lO(d:DV UU)(x:Bool)(h:oO d=some x):dO x=d:=by unfold oO at h;split at h<;>cases h;rfl
def dS(n:ByteArray):DV UU:=.one (.lit (.string n))
def oS:DV UU->Option ByteArray:=fun| .one (.lit (.string n))=>some n|_=>none
theorem lS(d:DV UU)(x:ByteArray)(h:oS d=some x):dS x=d:=by unfold oS at h;split at h<;>cases h;rfl
def dF(n:List (DA UU)->Option Value):DV UU:=.fn n
def oF:DV UU->Option (List (DA UU)->Option Value):=fun| .fn n=>some n|_=>none
theorem lF(d:DV UU)(x:List (DA UU)->Option Value)(h:oF d=some x):dF x=d:=by unfold oF at h;split at h<;>cases h;rfl
def dL(τ:UU.Ty)(xs:List (UU.T τ)):DV UU:=.one (.sl τ xs)
def oL(τ:UU.Ty):DV UU->Option (List (UU.T τ)):=fun| .one (.sl s8 xs)=>dC τ ⟨s8,xs⟩|_=>none
theorem lL(τ:UU.Ty)(d:DV UU)(x:List (UU.T τ))(h:oL τ d=some x):dL τ x=d:=by
 unfold oL at h
 split at h
 ·have:=bJ h
  cases this
  rfl
 ·cases h
def dA(τ:UU.Ty)(x:UU.T τ):DV UU:=.agg (UU.enc τ x)
def oA(τ:UU.Ty):DV UU->Option (UU.T τ):=fun| .agg cs=>UU.dec τ cs|_=>none
theorem lA(τ:UU.Ty)(d:DV UU)(x:UU.T τ)(h:oA τ d=some x):dA τ x=d:=by
 unfold oA at h
 split at h
 ·unfold dA;rw[UU.jn _ _ _ h]
 ·cases h
def dP(τ:UU.Ty)(x:UU.T τ):DV UU:=.ptr (UU.enc τ x)
def oP(τ:UU.Ty):DV UU->Option (UU.T τ):=fun| .ptr cs=>UU.dec τ cs|_=>none
theorem lP(τ:UU.Ty)(d:DV UU)(x:UU.T τ)(h:oP τ d=some x):dP τ x=d:=by
 unfold oP at h
 split at h
 ·unfold dP;rw[UU.jn _ _ _ h]
 ·cases h
def dX(τ:UU.Ty)(x:UU.T τ):DV UU:=.box (UU.enc τ x)
def oX(τ:UU.Ty):DV UU->Option (UU.T τ):=fun| .box cs=>UU.dec τ cs|_=>none
theorem lX(τ:UU.Ty)(d:DV UU)(x:UU.T τ)(h:oX τ d=some x):dX τ x=d:=by
 unfold oX at h
 split at h
 ·unfold dX;rw[UU.jn _ _ _ h]
 ·cases h
variable{A B:Type}
def o1(f:DV UU->Option A):List (DV UU)->Option A:=fun|[d]=>f d|_=>none
theorem l1{f:DV UU->Option A}{F:A->DV UU}(h:∀d x,f d=some x->F x=d):∀l x,o1 f l=some x->[F x]=l:=by
 intro l x hx
 unfold o1 at hx
 split at hx
 ·rw[h _ _ hx]
 ·cases hx
def oC(f:DV UU->Option A)(g:List (DV UU)->Option B):List (DV UU)->Option (A×B):=fun
 |d::l=>match f d,g l with
  |some x,some y=>some (x,y)
  |_,_=>none
 |[]=>none
theorem lC{f:DV UU->Option A}{F:A->DV UU}{g:List (DV UU)->Option B}{G:B->List (DV UU)}(h:∀d x,f d=some x->F x=d)(h':∀l x,g l=some x->G x=l):∀l x,oC f g l=some x->F x.1::G x.2=l:=by
 intro l x hx
 unfold oC at hx
 split at hx
 ·split at hx
  ·rename_i h1 h2
   cases hx
   rw[h _ _ h1,h' _ _ h2]
  ·cases hx
 ·cases hx
end
abbrev HH:={p:FuncId×kq UU//Holds EE p}
noncomputable def us(l:List HH):List (FuncId×kq UU):=l.map Subtype.val
theorem Vr(l:List HH):∀p∈us l,Holds EE p:=by
 intro p hp
 obtain⟨q,_,rfl⟩:=jX.1 hp
 exact q.2
abbrev Lb(x y:Bool):Prop:=Lf [.one (.lit (.bool x))] [.one (.lit (.bool y))]
abbrev Li(x y:Int):Prop:=Lf [.one (.lit (.int .i64 x))] [.one (.lit (.int .i64 y))]
section
variable{α:Type}{a b c d e f g h:α}{l:List α}
theorem m0:a∈a::l:=cH
theorem m1:b∈a::b::l:=aJ _ m0
theorem m2:c∈a::b::c::l:=aJ _ m1
theorem m3:d∈a::b::c::d::l:=aJ _ m2
theorem m4:e∈a::b::c::d::e::l:=aJ _ m3
theorem m5:f∈a::b::c::d::e::f::l:=aJ _ m4
theorem m6:g∈a::b::c::d::e::f::g::l:=aJ _ m5
theorem m7:h∈a::b::c::d::e::f::g::h::l:=aJ _ m6
end
theorem eD{τ:UU.Ty}{xs:List (UU.T τ)}(h:dT (dL τ xs)):xs.length<=9223372036854775807:=Bd.len h
theorem mL{n:Int}(h:dT (dI n)): -9223372036854775808<=n/\n<=9223372036854775807:=Bd.i64 h
theorem RQ{s:ByteArray}(h:dT (dS s)):s.size<=9223372036854775807:=Bd.str h
end AM
