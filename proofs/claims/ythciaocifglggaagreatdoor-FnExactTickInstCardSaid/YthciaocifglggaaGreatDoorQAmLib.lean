import Derived.Test.YthciaocifglggaaGreatDoorQAmProg
import Derived.Test.YthciaocifglggaaGreatDoorQAmHand
import Derived.KernelRfl
import Derived.IntWalk
namespace AM
open Go
theorem wrap_i64{n:Int}(h: -9223372036854775808<=n)(h':n<=9223372036854775807):IntKind.wrap .i64 n=n:=IntWalk.i64_in n ⟨h,h'⟩
theorem aa{b:Bool}{P Q:Prop}(h1:b=true->P)(h2:b=false->Q):bif b then P else Q:=by cases b<;>simp_all
@[simp] theorem SN {P Q:Prop}:(bif true then P else Q)=P:=rfl
@[simp] theorem QU {P Q:Prop}:(bif false then P else Q)=Q:=rfl
theorem iW{p:Prop}[Decidable p]{P Q:Prop}(h:p):(bif decide p then P else Q)=P:=by simp[h]
@[simp] theorem ab_ {α:Type} (p:List α) (a:α) (r:List α) (z:α):List.getD (p++a::r) p.length z=a:=by simp
@[simp] theorem Zp {α:Type} (p:List α) (a:α) (r:List α) (z:α):List.getD (p++a::r) (Int.toNat (p.length:Int)) z=a:=by simp
theorem Bd.len{U:kz}{τ:U.Ty}{xs:List (U.T τ)}(h:Bd (U:=U) (.sl τ xs)):xs.length<=9223372036854775807:=by cases h;assumption
theorem Bd.row{U:kz}{τ:U.Ty}{xs:List (U.T τ)}(h:Bd (U:=U) (.sl τ xs)){x:U.T τ}(hx:x∈xs){c:U.C}(hc:c∈U.enc τ x):Bd c:=by
 cases h with
 |sl _ _ _ h=>
  obtain⟨i,hi,rfl⟩:=tX hx
  obtain⟨j,hj,rfl⟩:=tX hc
  exact h i _ j _ (gg hi) (gg hj)
theorem Bd.i64{U:kz}{n:Int}(h:Bd (U:=U) (.lit (.int .i64 n))): -9223372036854775808<=n/\n<=9223372036854775807:=by
 cases h with
 |lit _ h=>exact h.2
theorem Bd.str{U:kz}{s:ByteArray}(h:Bd (U:=U) (.lit (.string s))):s.size<=9223372036854775807:=by
 cases h with
 |lit _ h=>exact h.2
theorem cK{x y:Bool}(h:x=y):Lf [.one (.lit (.bool x))] [.one (.lit (.bool y))]:=by rw[h];exact⟨rfl,rfl⟩
theorem ol{p:Prop}[Decidable p](h:p):Lf [.one (.lit (.bool true))] [.one (.lit (.bool (decide p)))]:=cK (by simp[h])
theorem mV{p:Prop}[Decidable p](h:¬p):Lf [.one (.lit (.bool false))] [.one (.lit (.bool (decide p)))]:=cK (by simp[h])
theorem cR{x y:Int}(h:x=y):Lf [.one (.lit (.int .i64 x))] [.one (.lit (.int .i64 y))]:=by rw[h];exact⟨rfl,rfl⟩
theorem uJ{x y:ByteArray}(h:x=y):Lf [.one (.lit (.string x))] [.one (.lit (.string y))]:=by rw[h];exact⟨rfl,rfl⟩
theorem aH(a:List (DV UU)):Lf a a:=⟨rfl,rfl⟩
@[simp] theorem bt (a b:ByteArray):(ByteArray.toList a==ByteArray.toList b)=decide (a=b):=by
 rw[FG,beq_iff_eq,decide_eq_true_eq,ByteArray.toList_eq,ByteArray.toList_eq]
 constructor
 ·intro h
  obtain⟨⟨a⟩⟩:=a
  obtain⟨⟨b⟩⟩:=b
  simpa using h
 ·rintro rfl;rfl
theorem cW{α:Type}(l:List α)(z:α){i:Int}(h0:0<=i)(h:i<l.length):l.drop i.toNat=List.getD l i.toNat z::l.drop (i+1).toNat:=by
 have hn:i.toNat<l.length:=by omega
 rw[Zx hn]
 have:(i+1).toNat=i.toNat+1:=by omega
 rw[this,fY,gg hn]
 rfl
theorem bZ{α:Type}(l:List α){i:Int}(h:l.length<=i):l.drop i.toNat=[]:=List.drop_eq_nil_of_le (by omega)
theorem FV{α:Type}(l:List α)(z:α){i:Int}(h0:0<=i)(h:i<l.length):
  (l.take i.toNat++List.replicate (l.length-i.toNat) z).set i.toNat (List.getD l i.toNat z)=l.take (i+1).toNat++List.replicate (l.length-(i+1).toNat) z:=by
 have hn:i.toNat<l.length:=by omega
 have e:(i+1).toNat=i.toNat+1:=by omega
 rw[e]
 refine Lp fun j=> ?_
 rw[O4]
 have hl:(l.take i.toNat++List.replicate (l.length-i.toNat) z).length=l.length:=by simp;omega
 by_cases hj:i.toNat=j
 ·subst hj
  rw[if_pos rfl,if_pos (by rw[hl];exact hn),wF (by simp;omega),nF,if_pos (by omega),fY,gg hn]
  rfl
 ·rw[if_neg hj]
  rcases mX j i.toNat with g|g
  ·rw[wF (by simp;omega),wF (by simp;omega),nF,nF,if_pos g,if_pos (by omega)]
  ·rw[wI (by simp;omega),wI (by simp;omega)]
   simp only[od,zdz]
   have h1:min i.toNat l.length=i.toNat:=by omega
   have h2:min (i.toNat+1) l.length=i.toNat+1:=by omega
   rw[h1,h2]
   by_cases hjl:j<l.length
   ·rw[if_pos (by omega),if_pos (by omega)]
   ·rw[if_neg (by omega),if_neg (by omega)]
def dR(left:Int)(n:Nat):Int:=if(n:Int)<=left then left-n else-1
theorem I8{left:Int}{a b:Nat}(_h:0<=left-a):dR (left-a) b=dR left (a+b):=by
 simp only[dR];split<;>split<;>omega
theorem O_{left:Int}{a b:Nat}(h:0<=dR left a):dR (dR left a) b=dR left (a+b):=by
 have h1:dR left a=left-a:=by
  simp only[dR] at*;split at h
  ·rw[if_pos (by assumption)]
  ·omega
 rw[h1] at h⊢
 exact I8 h
theorem Pa{left:Int}{a b:Nat}(h:dR left a<0):dR left (a+b)= -1:=by
 simp only[dR] at*;split at h
 ·omega
 ·rw[if_neg (by omega)]
noncomputable section
def dI(n:Int):DV UU:=.one (.lit (.int .i64 n))
def oI:DV UU->Option Int:=fun| .one (.lit (.int .i64 n))=>some n|_=>none
theorem lI(d:DV UU)(x:Int)(h:oI d=some x):dI x=d:=by unfold oI at h;split at h<;>cases h;rfl
def dY(n:Int):DV UU:=.one (.lit (.int .u8 n))
def oY:DV UU->Option Int:=fun| .one (.lit (.int .u8 n))=>some n|_=>none
theorem lY(d:DV UU)(x:Int)(h:oY d=some x):dY x=d:=by unfold oY at h;split at h<;>cases h;rfl
def dO(n:Bool):DV UU:=.one (.lit (.bool n))
def dS(n:ByteArray):DV UU:=.one (.lit (.string n))
def oS:DV UU->Option ByteArray:=fun| .one (.lit (.string n))=>some n|_=>none
theorem lS(d:DV UU)(x:ByteArray)(h:oS d=some x):dS x=d:=by unfold oS at h;split at h<;>cases h;rfl
def dF(n:List (DA UU)->Option Value):DV UU:=.fn n
def oF:DV UU->Option (List (DA UU)->Option Value):=fun| .fn n=>some n|_=>none
theorem lF(d:DV UU)(x:List (DA UU)->Option Value)(h:oF d=some x):dF x=d:=by unfold oF at h;split at h<;>cases h;rfl
def dL(τ:UU.Ty)(xs:List (UU.T τ)):DV UU:=.one (.sl τ xs)
def oL(τ:UU.Ty):DV UU->Option (List (UU.T τ)):=fun| .one (.sl Cr xs)=>iJ τ ⟨Cr,xs⟩|_=>none
theorem lL(τ:UU.Ty)(d:DV UU)(x:List (UU.T τ))(h:oL τ d=some x):dL τ x=d:=by
 unfold oL at h
 split at h
 ·have:=dC h
  cases this
  rfl
 ·cases h
def dA(τ:UU.Ty)(x:UU.T τ):DV UU:=.agg (UU.enc τ x)
def oA(τ:UU.Ty):DV UU->Option (UU.T τ):=fun| .agg cs=>UU.dec τ cs|_=>none
theorem lA(τ:UU.Ty)(d:DV UU)(x:UU.T τ)(h:oA τ d=some x):dA τ x=d:=by
 unfold oA at h
 split at h
 ·unfold dA;rw[UU.kV _ _ _ h]
 ·cases h
def dP(τ:UU.Ty)(x:UU.T τ):DV UU:=.ptr (UU.enc τ x)
def oP(τ:UU.Ty):DV UU->Option (UU.T τ):=fun| .ptr cs=>UU.dec τ cs|_=>none
theorem lP(τ:UU.Ty)(d:DV UU)(x:UU.T τ)(h:oP τ d=some x):dP τ x=d:=by
 unfold oP at h
 split at h
 ·unfold dP;rw[UU.kV _ _ _ h]
 ·cases h
def dX(τ:UU.Ty)(x:UU.T τ):DV UU:=.box (UU.enc τ x)
def oX(τ:UU.Ty):DV UU->Option (UU.T τ):=fun| .box cs=>UU.dec τ cs|_=>none
theorem lX(τ:UU.Ty)(d:DV UU)(x:UU.T τ)(h:oX τ d=some x):dX τ x=d:=by
 unfold oX at h
 split at h
 ·unfold dX;rw[UU.kV _ _ _ h]
 ·cases h
variable{A B:Type}
def o1(f:DV UU->Option A):List (DV UU)->Option A:=fun|[d]=>f d|_=>none
theorem l1{f:DV UU->Option A}{F:A->DV UU}(h:∀d x,f d=some x->F x=d):∀l x,o1 f l=some x->[F x]=l:=by
 intro l x hx
 unfold o1 at hx
 split at hx
 ·rw[h _ _ hx]
 ·cases hx
def oC(f:DV UU->Option A)(g:List (DV UU)->Option B):List (DV UU)->Option (A×B):=fun
 |d::l=>match f d,g l with
  |some x,some y=>some (x,y)
  |_,_=>none
 |[]=>none
theorem lC{f:DV UU->Option A}{F:A->DV UU}{g:List (DV UU)->Option B}{G:B->List (DV UU)}(h:∀d x,f d=some x->F x=d)(h':∀l x,g l=some x->G x=l):∀l x,oC f g l=some x->F x.1::G x.2=l:=by
 intro l x hx
 unfold oC at hx
 split at hx
 ·split at hx
  ·rename_i h1 h2
   cases hx
   rw[h _ _ h1,h' _ _ h2]
  ·cases hx
 ·cases hx
end
abbrev HH:={p:FuncId×jH UU//Holds EE p}
noncomputable def us(l:List HH):List (FuncId×jH UU):=l.map Subtype.val
theorem Av(l:List HH):∀p∈us l,Holds EE p:=by
 intro p hp
 obtain⟨q,_,rfl⟩:=lH.1 hp
 exact q.2
abbrev Lb(x y:Bool):Prop:=Lf [.one (.lit (.bool x))] [.one (.lit (.bool y))]
abbrev Li(x y:Int):Prop:=Lf [.one (.lit (.int .i64 x))] [.one (.lit (.int .i64 y))]
section
variable{α:Type}{a b c d e f g h:α}{l:List α}
theorem m0:a∈a::l:=dw
theorem m1:b∈a::b::l:=bi _ m0
theorem m2:c∈a::b::c::l:=bi _ m1
theorem m3:d∈a::b::c::d::l:=bi _ m2
theorem m4:e∈a::b::c::d::e::l:=bi _ m3
end
theorem eY{τ:UU.Ty}{xs:List (UU.T τ)}(h:eJ (dL τ xs)):xs.length<=9223372036854775807:=Bd.len h
theorem iK{n:Int}(h:eJ (dI n)): -9223372036854775808<=n/\n<=9223372036854775807:=Bd.i64 h
theorem N3{s:ByteArray}(h:eJ (dS s)):s.size<=9223372036854775807:=Bd.str h
end AM
