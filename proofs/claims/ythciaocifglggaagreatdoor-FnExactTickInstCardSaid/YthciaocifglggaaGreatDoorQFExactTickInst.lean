import Derived.Test.YthciaocifglggaaGreatDoorQAmLib
import Derived.Lib.ItoaLen
import Derived.Lib.Join
import Derived.Test.YthciaocifglggaaGreatDoorQShelf
namespace AM
open Go Go.Proofs.Tryz Go.IntKind
set_option linter.unusedVariables false
set_option linter.unusedSimpArgs false
set_option maxRecDepth 100000
noncomputable section
abbrev VB (b : Bool) : DV UU := .one (.lit (.bool b))
abbrev VI (n : Int) : DV UU := .one (.lit (.int .i64 n))
abbrev VS (s : ByteArray) : DV UU := .one (.lit (.string s))
abbrev CI (n : Int) : CC := .lit (.int .i64 n)
abbrev CS (s : ByteArray) : CC := .lit (.string s)
abbrev CO (b : Bool) : CC := .lit (.bool b)
abbrev CL (τ : Cd) (xs : List τ.T) : CC := .sl τ xs
abbrev VL (τ : Cd) (xs : List τ.T) : DV UU := .one (.sl τ xs)
structure Q1(α:Type) where
 d:α→DV UU
 o:DV UU→Option α
 l:∀ v x,o v=some x→d x=v
structure QQ(α:Type) where
 d:α→List (DV UU)
 o:List (DV UU)→Option α
 l:∀ l x,o l=some x→d x=l
def q1{α:Type}(c:Q1 α):QQ α:=⟨fun x=>[c.d x],o1 c.o,l1 c.l⟩
def qC{α β:Type}(c:Q1 α)(r:QQ β):QQ (α×β):=⟨fun x=>c.d x.1::r.d x.2,oC c.o r.o,lC c.l r.l⟩
def qI:Q1 Int:=⟨dI,oI,lI⟩
def qY:Q1 Int:=⟨dY,oY,lY⟩
def qS:Q1 ByteArray:=⟨dS,oS,lS⟩
def qF:Q1 (List (DA UU)→Option Value):=⟨dF,oF,lF⟩
def qL(τ:Cd):Q1 (List τ.T):=⟨dL τ,oL τ,lL τ⟩
def qA(τ:Cd):Q1 τ.T:=⟨dA τ,oA τ,lA τ⟩
def qX(τ:Cd):Q1 τ.T:=⟨dX τ,oX τ,lX τ⟩
def bB{α:Type}(c:QQ α)(md:List Mode)(pre:α→List Prop)(mE:α→Res UU):jH UU:={α,md,of:=c.o,ds:=c.d,pre,mE,law:=c.l}
def WQ{α:Type}(r t:Nat)(c:QQ α)(md:List Mode)(pre:α→List Prop)(mE:α→Res UU):jH UU:={α,md,of:=c.o,ds:=c.d,pre,mE,FW:=r,cut:=t,law:=c.l}
def hF{f:FuncId}{fn:Func}(k:jH UU)(hf:EE.P.funcs[f]? =some fn)(l:List HH)(mU:k.α→Nat→Option (rJ UU))(hw:∀x,(∀p∈k.pre x,p)→(∀d∈k.ds x,eJ d)→ab8 EE (us l) fn k mU x)(hc:AQ EE.P f fn k.md=true:=by kernel_rfl)(h0:k.FW=0:=by rfl):HH:=⟨(f,k),holds_of sw hf k hc (us l) (Av _) mU hw h0⟩
def a0{α:Type}(_:α)(_:Nat):Option (rJ UU):=none
abbrev LM(a b c d:List (DV UU)):Prop:=(0:Nat)=(0:Nat)∧fz a=fz b∧fz c=fz d
theorem wi{n:Int}(h:-9223372036854775808≤n:=by omega)(k:n≤9223372036854775807:=by omega):IntKind.wrap .i64 n=n:=wrap_i64 h k
abbrev L4(n:Nat):Prop:=n≤4294967296
abbrev L9(n:Nat):Prop:=n≤9223372036854775807
theorem vE{p:Prop}(q:Prop)(h:p=q:=by kernel_rfl)(x:q):p:=by rw[h];exact x
abbrev AX(k:jH UU):=k.α→Nat→Option (rJ UU)
abbrev iO(s:Nat)(τ:Cd):It UU:=.slot s (s,1024) (.own τ true)
abbrev iI(s:Nat):It UU:=.slot s (s,1024) (.lit (.int .i64))
abbrev T0:=List bf×Int×List aE×List ag×List ap×List aQ×Int×Int×Unit
abbrev T1:=ByteArray×Int×List b8×List bo×List cC×Unit
abbrev T2:=List bf×Int×Unit
abbrev T3:=ByteArray×List aM×Unit
abbrev T4:=ByteArray×List aZ×Unit
abbrev T5:=List bf×Int×List aE×List ag×List ap×List aQ×Int×Int×PUnit
abbrev T6:=ByteArray×List aM×PUnit
abbrev T7:=ByteArray×List aZ×PUnit
abbrev T8:=ByteArray×Int×List b8×List bo×List cC×PUnit
abbrev T9:=ByteArray×List bU×Bool×Unit
abbrev T10:=Int×ByteArray×List aZ×Unit
abbrev T11:=Int×List Int×List bM×Unit
abbrev T12:=List bf×Int×PUnit
abbrev T13:=ByteArray×List bU×Bool×PUnit
theorem yT {p:Prop} [Decidable p] (h:decide p=true):p:=of_decide_eq_true h
theorem yF {p:Prop} [Decidable p] (h:decide p=false):¬p:=of_decide_eq_false h
abbrev BA:=ByteArray
instance:DecidableEq aZ:=fun _ _=>Classical.propDecidable _
instance:DecidableEq aA:=fun _ _=>Classical.propDecidable _
instance:DecidableEq bf:=fun _ _=>Classical.propDecidable _
instance:DecidableEq az:=fun _ _=>Classical.propDecidable _
instance:DecidableEq bU:=fun _ _=>Classical.propDecidable _
instance:DecidableEq b8:=fun _ _=>Classical.propDecidable _
instance:DecidableEq bM:=fun _ _=>Classical.propDecidable _
instance:DecidableEq bo:=fun _ _=>Classical.propDecidable _
instance:DecidableEq bC:=fun _ _=>Classical.propDecidable _
instance:DecidableEq cC:=fun _ _=>Classical.propDecidable _
instance:DecidableEq aM:=fun _ _=>Classical.propDecidable _
instance:DecidableEq cr:=fun _ _=>Classical.propDecidable _
instance:DecidableEq aE:=fun _ _=>Classical.propDecidable _
instance:DecidableEq mA:=fun _ _=>Classical.propDecidable _
instance:DecidableEq ap:=fun _ _=>Classical.propDecidable _
instance:DecidableEq ag:=fun _ _=>Classical.propDecidable _
instance:DecidableEq ci:=fun _ _=>Classical.propDecidable _
instance:DecidableEq aQ:=fun _ _=>Classical.propDecidable _
instance:DecidableEq aj:=fun _ _=>Classical.propDecidable _
def WO:Nat->Nat->List UInt8->List UInt8
 |0,_,acc=>acc
 |d+1,k,acc=>if k=0 then acc else WO d (k/10) ((UInt8.ofNat (48+k%10))::acc)
def au(k:Int):ByteArray:=if k<=0 then⟨#[109,48]⟩ else⟨(109::WO k.toNat k.toNat []).toArray⟩
def gI(k:Int):Bool:=decide (k%3=0)
def gx{α:Type}(f:α->Int->α)(c:α->Nat):List α->Int->List α
 |[],_=>[]
 |x::r,k=>f x k::gx f c r (k+c x)
def eI{α:Type}(c:α->Nat)(l:List α):Nat:=(l.map c).sum
theorem qf{α:Type}(f:α->Int->α)(c:α->Nat):∀(l:List α)(k:Int),(gx f c l k).length=l.length
 |[],_=>rfl
 |x::r,k=>by simp[gx,qf f c r]
theorem pc{α:Type}{f:α->Int->α}{c:α->Nat}(h:∀x k,c (f x k)=c x):∀(l:List α)(k:Int),eI c (gx f c l k)=eI c l
 |[],_=>rfl
 |x::r,k=>by have:=pc h r (k+c x);simp only[eI,gx,tI,JY,h] at*;omega
theorem kE{α:Type}{f:α->Int->α}{c:α->Nat}(h:∀x k,c (f x k)=c x)(h':∀x k,f (f x k) k=f x k):∀(l:List α)(k:Int),gx f c (gx f c l k) k=gx f c l k
 |[],_=>rfl
 |x::r,k=>by simp only[gx,h,h',kE h h' r]
theorem GM{α:Type}(c:α->Nat)(x:α)(l:List α):eI c (x::l)=c x+eI c l:=by simp[eI]
theorem BE{α:Type}(c:α->Nat)(l m:List α):eI c (l++m)=eI c l+eI c m:=by simp[eI]
theorem lh{α:Type}{c s:α->Nat}(h:∀x,c x<=20*s x+20):∀l:List α,eI c l<=20*(l.length+(l.map s).sum)
 |[]=>tB _
 |x::r=>by have:=lh h r;have:=h x;simp only[eI,tI,JY,n_] at*;omega
theorem dB{α:Type}(c:α->Nat)(l:List α)(z:α){i:Int}(h0:0<=i)(h:i<l.length):eI c (l.take (i+1).toNat)=eI c (l.take i.toNat)+c (List.getD l i.toNat z):=by
 have hn:i.toNat<l.length:=by omega
 have e:(i+1).toNat=i.toNat+1:=by omega
 rw[e,ZC hn,BE,fY,gg hn]
 simp[eI]
theorem cm{α:Type}(c:α->Nat)(l:List α)(n:Nat):eI c (l.take n)<=eI c l:=by
 have h:=BE c (l.take n) (l.drop n)
 rw[Lq] at h
 omega
theorem AU{α:Type}(f:α->Int->α)(c:α->Nat):∀(l m:List α)(k:Int),gx f c (l++m) k=gx f c l k++gx f c m (k+eI c l)
 |[],m,k=>by simp[gx,eI]
 |x::r,m,k=>by simp only[Zu,gx,AU f c r m,GM];congr 3;omega
theorem Gh{α:Type}(f:α->Int->α)(c:α->Nat)(l:List α)(z:α)(k:Int){i:Int}(h0:0<=i)(h:i<l.length):
  ((gx f c l k).take i.toNat++l.drop i.toNat).set i.toNat (f (List.getD l i.toNat z) (k+eI c (l.take i.toNat)))=(gx f c l k).take (i+1).toNat++l.drop (i+1).toNat:=by
 have hn:i.toNat<l.length:=by omega
 have e:(i+1).toNat=i.toNat+1:=by omega
 have hl:((gx f c l k).take i.toNat).length=i.toNat:=by rw[od,qf];omega
 have hm:(gx f c l k)[i.toNat]? =some (f (List.getD l i.toNat z) (k+eI c (l.take i.toNat))):=by
  have h1:l=l.take i.toNat++List.getD l i.toNat z::l.drop (i+1).toNat:=by rw[<-cW l z h0 h,Lq]
  have h2:=congrArg (fun q=>(gx f c q k)[i.toNat]?) h1
  simp only[AU,gx] at h2
  rw[h2,wI (by rw[qf,od];omega),qf]
  have:i.toNat-(l.take i.toNat).length=0:=by simp;omega
  rw[this];rfl
 have ul:i.toNat<(gx f c l k).length:=by rw[qf];exact hn
 rw[gg ul,fJ] at hm
 rw[cW l z h0 h,List.set_append_right _ _ (by rw[hl];exact tB _),hl,Y7,List.set_cons_zero,e,ZC ul,hm,xu]
 rfl
theorem fC{α:Type}(p:List α)(l:List α)(z:α){i:Int}(hp:p.length=i.toNat)(h0:0<=i)(h:i<l.length):List.getD (p++l.drop i.toNat) i.toNat z=List.getD l i.toNat z:=by
 rw[fY,fY,wI (by omega),hp,Y7,Dt,FD]
theorem dJ{α:Type}(f:α->Nat)(l:List α)(z:α){i:Int}(h0:0<=i)(h:i<l.length):f (List.getD l i.toNat z)<=(l.map f).sum:=by
 have h1:l=l.take i.toNat++List.getD l i.toNat z::l.drop (i+1).toNat:=by rw[<-cW l z h0 h,Lq]
 have h2:=congrArg (fun q=>(q.map f).sum) h1
 simp only[La,tI,Y8,JY] at h2
 omega
theorem getD_modify{α:Type}(l:List α)(z:α)(f:α->α)(i:Nat)(h:i<l.length):List.getD (l.modify i f) i z=f (List.getD l i z):=by
 rw[fY,fY,zei,gg h];simp
theorem cw{α:Type}(l:List α)(f g:α->α)(i:Nat):(l.modify i f).modify i g=l.modify i (fun x=>g (f x)):=List.modify_modify_eq f g i l
theorem AS{α:Type}(l:List α)(z:α)(f:α->α)(i:Nat):l.modify i f=l.set i (f (List.getD l i z)):=by
 refine Lp fun j=> ?_
 rw[zei,O4]
 by_cases hj:i=j
 ·subst hj
  rw[if_pos rfl]
  by_cases hi:i<l.length
  ·rw[if_pos hi,gg hi,fY,gg hi];simp
  ·rw[if_neg hi,mi (by omega)];rfl
 ·rw[if_neg hj];simp[hj]
theorem mH{α:Type}(f:α->Int->α)(c:α->Nat)(l:List α)(k:Int){i:Int}(h0:0<=i)(h:i<=l.length):((gx f c l k).take i.toNat).length=i.toNat:=by rw[od,qf];omega
theorem nM{α:Type}(f:α->Int->α)(c:α->Nat)(l:List α)(k:Int){i:Int}(h0:0<=i)(h:i<=l.length):((gx f c l k).take i.toNat++l.drop i.toNat).length=l.length:=by rw[wG,mH f c l k h0 h,J0];omega
theorem jB{α:Type}(f:α->Int->α)(c:α->Nat)(l:List α)(z:α)(k:Int){i:Int}(F:α->α)(h0:0<=i)(h:i<l.length)(hF:F (List.getD l i.toNat z)=f (List.getD l i.toNat z) (k+eI c (l.take i.toNat))):
  ((gx f c l k).take i.toNat++l.drop i.toNat).modify i.toNat F=(gx f c l k).take (i+1).toNat++l.drop (i+1).toNat:=by
 rw[AS _ z,fC _ l z (mH f c l k h0 (by omega)) h0 h,hF]
 exact Gh f c l z k h0 h
theorem jf{α:Type}(f:α->Int->α)(c:α->Nat)(l:List α)(k:Int){i:Int}(h:l.length<=i):(gx f c l k).take i.toNat++l.drop i.toNat=gx f c l k:=by
 rw[List.drop_eq_nil_of_le (by omega),tV,O5 (by rw[qf];omega)]
theorem eW{α:Type}(c:α->Nat)(l:List α){i:Int}(h:l.length<=i):eI c (l.take i.toNat)=eI c l:=by rw[O5 (by omega)]
theorem e_{p:Prop}[Decidable p]{n:Int}(h:¬p):Lf [.one (.lit (.int .i64 (-1)))] [.one (.lit (.int .i64 (if p then n else-1)))]:=by rw[if_neg h];exact aH _
theorem n9{p:Prop}[Decidable p]{m n:Int}(h:p)(e:m=n):Lf [.one (.lit (.int .i64 m))] [.one (.lit (.int .i64 (if p then n else-1)))]:=by rw[if_pos h,e];exact aH _
theorem nv{a b:Int}:(a !=b)= !decide (a=b):=by by_cases h:a=b<;>simp[h,bne]
theorem Mw(d:Nat)(acc:List UInt8):WO d 0 acc=acc:=by cases d<;>simp[WO]
theorem ed{α:Type}(p:α->Bool)(l:List α)(z:α){i:Int}(h0:0<=i)(h:i<l.length):(l.drop i.toNat).all p=(p (List.getD l i.toNat z)&&(l.drop (i+1).toNat).all p):=by
 rw[cW l z h0 h,O2]
def bs(s:ByteArray):List UInt8:=s.data.toList
theorem nd(s:ByteArray):(bs s).length=s.size:=B6
theorem Dd(s:ByteArray):Array.toList (ByteArray.data s)=bs s:=rfl
def jE(p:Int->Bool)(b:UInt8):Bool:=p b.toNat
theorem Vk(b:UInt8):IntKind.wrap .i64 (b.toNat:Int)=b.toNat:=wrap_i64 (by omega) (by have:=b.toNat_lt;omega)
theorem pX{y:Bool}(h:y=true):Lf [.one (.lit (.bool true))] [.one (.lit (.bool y))]:=cK h.symm
theorem bG{y:Bool}(h:y=false):Lf [.one (.lit (.bool false))] [.one (.lit (.bool y))]:=cK h.symm
theorem dW{α:Type}(l:List α)(z:α){i:Int}(h0:0<=i)(h:i<l.length):l.take i.toNat++[List.getD l i.toNat z]=l.take (i+1).toNat:=by
 have hn:i.toNat<l.length:=by omega
 have e:(i+1).toNat=i.toNat+1:=by omega
 rw[e,ZC hn,fY,gg hn]
 rfl
theorem cT{α:Type}(l:List α){i:Int}(h:l.length<=i):l.take i.toNat=l:=O5 (by omega)
theorem NB{α:Type}(l:List α)(z:α){i:Int}(h0:0<=i)(h:i<l.length):List.getD l i.toNat z∈l:=by
 have hn:i.toNat<l.length:=by omega
 rw[fY,gg hn]
 exact Hu hn
theorem eh{a:Int}{n:Nat}(h:decide (dR a n<0)=true):a<n:=by
 have h:=of_decide_eq_true h
 unfold dR at h;split at h<;>omega
theorem dH{a:Int}{n:Nat}(h:decide (dR a n<0)=false):dR a n=a-n/\(n:Int)<=a:=by
 have h:=of_decide_eq_false h
 unfold dR at h⊢;split at h
 ·rename_i g;rw[if_pos g];exact⟨rfl,g⟩
 ·omega
theorem b_{a:Int}{n:Nat}(h:a<n): -1=dR a n:=by simp only[dR];rw[if_neg (by omega)]
theorem gQ{a:Int}{n:Nat}(h:(n:Int)<=a):a-n=dR a n:=by simp only[dR];rw[if_pos h]
def eM(l:List Int):Nat:=l.length
def iN:List Int->Int->List Int:=gx (fun _ k=>k) (fun _=>1)
def fI(l:List Int):Nat:=eI (fun _=>1) l
theorem xD(l:List Int)(k:Int):fI (iN l k)=fI l:=pc (c:=fun _=>1) (fun _ _=>rfl) l k
theorem Cc(l:List Int)(k:Int):iN (iN l k) k=iN l k:=kE (f:=fun _ k=>k) (c:=fun _=>1) (fun _ _=>rfl) (fun _ _=>rfl) l k
theorem Jx{α:Type}:∀l:List α,eI (fun _=>1) l=l.length
 |[]=>rfl
 |x::r=>by rw[GM,Jx r,n_];omega
theorem IG(l:List Int):fI l<=20*eM l:=by simp only[fI,eM,Jx];omega
def cS(a:aZ):Nat:=a.S.size
def cU(l:List aZ):Nat:=l.length+(l.map cS).sum
def ie(a:aZ)(k:Int):aZ:=⟨k,(k+1),au (k+1+1)⟩
def e6(a:aZ):Nat:=1+1+1
def cx:List aZ->Int->List aZ:=gx ie e6
def bI(l:List aZ):Nat:=eI e6 l
theorem AW(a:aZ)(k:Int):e6 (ie a k)=e6 a:=by simp only[e6,ie]
theorem DS(a:aZ)(k:Int):ie (ie a k) k=ie a k:=by simp only[ie]
theorem K4(a:aZ):e6 a<=20*cS a+20:=by simp only[e6,cS];omega
theorem gz(l:List aZ)(k:Int):bI (cx l k)=bI l:=pc AW l k
theorem kF(l:List aZ)(k:Int):cx (cx l k) k=cx l k:=kE AW DS l k
theorem nZ(l:List aZ):bI l<=20*cU l:=lh K4 l
def bu(a:aA):Nat:=a.Kind.size+cU a.ae
def dh(a:bf):Nat:=bu a.F
def bq(l:List bf):Nat:=l.length+(l.map dh).sum
def fP(a:bf)(k:Int):bf:=⟨k,⟨au (k+1),cx a.F.ae (k+1+1)⟩⟩
def dl(a:bf):Nat:=1+1+bI a.F.ae
def gD:List bf->Int->List bf:=gx fP dl
def fj(l:List bf):Nat:=eI dl l
theorem xC(a:bf)(k:Int):dl (fP a k)=dl a:=by simp only[dl,fP,gz]
theorem Cb(a:bf)(k:Int):fP (fP a k) k=fP a k:=by simp only[fP,gz,kF]
theorem IF(a:bf):dl a<=20*dh a+20:=by have:=nZ a.F.ae;simp only[dl,bu,dh];omega
theorem va(l:List bf)(k:Int):fj (gD l k)=fj l:=pc xC l k
theorem A2(l:List bf)(k:Int):gD (gD l k) k=gD l k:=kE xC Cb l k
theorem GW(l:List bf):fj l<=20*bq l:=lh IF l
def dr(a:az):Nat:=bq a.ab
def iG(a:az)(k:Int):az:=⟨gD a.ab k,a.Next⟩
def dz(a:az):Nat:=fj a.ab
theorem AT(a:az)(k:Int):dz (iG a k)=dz a:=by simp only[dz,iG,va]
theorem DR(a:az)(k:Int):iG (iG a k) k=iG a k:=by simp only[iG,va,A2]
theorem Iz(a:az):dz a<=20*dr a:=by have:=GW a.ab;simp only[dz,dr];omega
def cY(a:bU):Nat:=a.S.size+cS a.V
def jJ(l:List bU):Nat:=l.length+(l.map cY).sum
def oE(a:bU)(k:Int):bU:=⟨k,au (k+1),⟨(k+1+1),(k+1+1+1),au (k+1+1+1+1)⟩⟩
def jY(a:bU):Nat:=1+1+1+1+1
def vd:List bU->Int->List bU:=gx oE jY
def nu(l:List bU):Nat:=eI jY l
theorem K6(a:bU):jY a<=20*cY a+20:=by simp only[jY,cY,cS];omega
theorem IL(l:List bU):nu l<=20*jJ l:=lh K6 l
def h_(a:b8):Nat:=a.Kind.size+jJ a.aU
def iM(l:List b8):Nat:=l.length+(l.map h_).sum
def oD(a:b8)(k:Int):b8:=⟨au k,vd a.aU (k+1),gI (k+1+nu a.aU)⟩
def jX(a:b8):Nat:=1+nu a.aU+1
def u9:List b8->Int->List b8:=gx oD jX
def my(l:List b8):Nat:=eI jX l
theorem K5(a:b8):jX a<=20*h_ a+20:=by have:=IL a.aU;simp only[jX,h_];omega
theorem IE(l:List b8):my l<=20*iM l:=lh K5 l
def gH(a:bM):Nat:=a.Name.size+cS a.V
def g_(l:List bM):Nat:=l.length+(l.map gH).sum
def fR(a:bM)(k:Int):bM:=⟨au k,⟨(k+1),(k+1+1),au (k+1+1+1)⟩⟩
def dq(a:bM):Nat:=1+1+1+1
def ga:List bM->Int->List bM:=gx fR dq
def fk(l:List bM):Nat:=eI dq l
theorem xF(a:bM)(k:Int):dq (fR a k)=dq a:=by simp only[dq,fR]
theorem Cf(a:bM)(k:Int):fR (fR a k) k=fR a k:=by simp only[fR]
theorem IK(a:bM):dq a<=20*gH a+20:=by simp only[dq,gH,cS];omega
theorem vc(l:List bM)(k:Int):fk (ga l k)=fk l:=pc xF l k
theorem A4(l:List bM)(k:Int):ga (ga l k) k=ga l k:=kE xF Cf l k
theorem G0(l:List bM):fk l<=20*g_ l:=lh IK l
def gG(a:bo):Nat:=cY a.L+cY a.R
def j7(l:List bo):Nat:=l.length+(l.map gG).sum
def mK(a:bo)(k:Int):bo:=⟨k,⟨(k+1),au (k+1+1),⟨(k+1+1+1),(k+1+1+1+1),au (k+1+1+1+1+1)⟩⟩,⟨(k+1+1+1+1+1+1),au (k+1+1+1+1+1+1+1),⟨(k+1+1+1+1+1+1+1+1),(k+1+1+1+1+1+1+1+1+1),au (k+1+1+1+1+1+1+1+1+1+1)⟩⟩⟩
def im(a:bo):Nat:=1+1+1+1+1+1+1+1+1+1+1
def sJ:List bo->Int->List bo:=gx mK im
def lz(l:List bo):Nat:=eI im l
theorem II(a:bo):im a<=20*gG a+20:=by simp only[im,cY,gG,cS];omega
theorem GY(l:List bo):lz l<=20*j7 l:=lh II l
def fL(a:bC):Nat:=a.Op.size+cY a.L+cY a.R
def jr(l:List bC):Nat:=l.length+(l.map fL).sum
def mJ(a:bC)(k:Int):bC:=⟨au k,⟨(k+1),au (k+1+1),⟨(k+1+1+1),(k+1+1+1+1),au (k+1+1+1+1+1)⟩⟩,⟨(k+1+1+1+1+1+1),au (k+1+1+1+1+1+1+1),⟨(k+1+1+1+1+1+1+1+1),(k+1+1+1+1+1+1+1+1+1),au (k+1+1+1+1+1+1+1+1+1+1)⟩⟩⟩
def il(a:bC):Nat:=1+1+1+1+1+1+1+1+1+1+1
def sI:List bC->Int->List bC:=gx mJ il
def kP(l:List bC):Nat:=eI il l
theorem IH(a:bC):il a<=20*fL a+20:=by simp only[il,cY,fL,cS];omega
theorem GX(l:List bC):kP l<=20*jr l:=lh IH l
def ib(a:cC):Nat:=a.Name.size+jr a.aU+a.cq.size
def kC(l:List cC):Nat:=l.length+(l.map ib).sum
def oG(a:cC)(k:Int):cC:=⟨k,au (k+1),sI a.aU (k+1+1),(k+1+1+kP a.aU),au (k+1+1+kP a.aU+1)⟩
def jZ(a:cC):Nat:=1+1+kP a.aU+1+1
def r_:List cC->Int->List cC:=gx oG jZ
def oV(l:List cC):Nat:=eI jZ l
theorem K7(a:cC):jZ a<=20*ib a+20:=by have:=GX a.aU;simp only[jZ,ib];omega
theorem IM(l:List cC):oV l<=20*kC l:=lh K7 l
def dy(a:aM):Nat:=a.Name.size+iM a.aG+j7 a.bO+kC a.cA
def gB(l:List aM):Nat:=l.length+(l.map dy).sum
def mI(a:aM)(k:Int):aM:=⟨au k,(k+1),u9 a.aG (k+1+1),sJ a.bO (k+1+1+my a.aG),r_ a.cA (k+1+1+my a.aG+lz a.bO)⟩
def ik(a:aM):Nat:=1+1+my a.aG+lz a.bO+oV a.cA
def sH:List aM->Int->List aM:=gx mI ik
def ly(l:List aM):Nat:=eI ik l
theorem ID(a:aM):ik a<=20*dy a+20:=by have:=IE a.aG;have:=GY a.bO;have:=IM a.cA;simp only[ik,dy];omega
theorem GU(l:List aM):ly l<=20*gB l:=lh ID l
def ct(a:cr):Nat:=a.Name.size+gB a.aT
def Mx(a:cr)(k:Int):cr:=⟨a.Name,sH a.aT k⟩
def vN(a:cr):Nat:=ly a.aT
theorem NV(a:cr):vN a<=20*ct a:=by have:=GU a.aT;simp only[vN,ct];omega
def dt(a:aE):Nat:=eM a.li+g_ a.dV
def cQ(l:List aE):Nat:=l.length+(l.map dt).sum
def eO(a:aE)(k:Int):aE:=⟨k,iN a.li (k+1),ga a.dV (k+1+fI a.li)⟩
def cJ(a:aE):Nat:=1+fI a.li+fk a.dV
def fw:List aE->Int->List aE:=gx eO cJ
def cX(l:List aE):Nat:=eI cJ l
theorem u_(a:aE)(k:Int):cJ (eO a k)=cJ a:=by simp only[cJ,eO,vc,xD]
theorem A1(a:aE)(k:Int):eO (eO a k) k=eO a k:=by simp only[eO,vc,A4,xD,Cc]
theorem GV(a:aE):cJ a<=20*dt a+20:=by have:=IG a.li;have:=G0 a.dV;simp only[cJ,dt];omega
theorem tP(l:List aE)(k:Int):cX (fw l k)=cX l:=pc u_ l k
theorem yh(l:List aE)(k:Int):fw (fw l k) k=fw l k:=kE u_ A1 l k
theorem Ei(l:List aE):cX l<=20*cQ l:=lh GV l
def dD(a:ap):Nat:=bu a.F
def ca(l:List ap):Nat:=l.length+(l.map dD).sum
def eN(a:ap)(k:Int):ap:=⟨k,⟨au (k+1),cx a.F.ae (k+1+1)⟩⟩
def cI(a:ap):Nat:=1+1+bI a.F.ae
def fv:List ap->Int->List ap:=gx eN cI
def d_(l:List ap):Nat:=eI cI l
theorem u6(a:ap)(k:Int):cI (eN a k)=cI a:=by simp only[cI,eN,gz]
theorem AZ(a:ap)(k:Int):eN (eN a k) k=eN a k:=by simp only[eN,gz,kF]
theorem GR(a:ap):cI a<=20*dD a+20:=by have:=nZ a.F.ae;simp only[cI,bu,dD];omega
theorem tO(l:List ap)(k:Int):d_ (fv l k)=d_ l:=pc u6 l k
theorem yg(l:List ap)(k:Int):fv (fv l k) k=fv l k:=kE u6 AZ l k
theorem Eh(l:List ap):d_ l<=20*ca l:=lh GR l
def dK(a:ag):Nat:=bu a.F+a.cq.size+cS a.V
def bz(l:List ag):Nat:=l.length+(l.map dK).sum
def fO(a:ag)(k:Int):ag:=⟨⟨au k,cx a.F.ae (k+1)⟩,au (k+1+bI a.F.ae),(k+1+bI a.F.ae+1),(k+1+bI a.F.ae+1+1),(k+1+bI a.F.ae+1+1+1),⟨(k+1+bI a.F.ae+1+1+1+1),(k+1+bI a.F.ae+1+1+1+1+1),au (k+1+bI a.F.ae+1+1+1+1+1+1)⟩⟩
def dk(a:ag):Nat:=1+bI a.F.ae+1+1+1+1+1+1+1
def f_:List ag->Int->List ag:=gx fO dk
def ec(l:List ag):Nat:=eI dk l
theorem xB(a:ag)(k:Int):dk (fO a k)=dk a:=by simp only[dk,fO,gz]
theorem Ca(a:ag)(k:Int):fO (fO a k) k=fO a k:=by simp only[fO,gz,kF]
theorem IC(a:ag):dk a<=20*dK a+20:=by have:=nZ a.F.ae;simp only[dk,bu,dK,cS];omega
theorem u7(l:List ag)(k:Int):ec (f_ l k)=ec l:=pc xB l k
theorem A0(l:List ag)(k:Int):f_ (f_ l k) k=f_ l k:=kE xB Ca l k
theorem GS(l:List ag):ec l<=20*bz l:=lh IC l
def rR(a:ci):Nat:=a.Key.size+bu a.F
def pC(l:List ci):Nat:=l.length+(l.map rR).sum
def fQ(a:ci)(k:Int):ci:=⟨au k,⟨au (k+1),cx a.F.ae (k+1+1)⟩,(k+1+1+bI a.F.ae)⟩
def dn(a:ci):Nat:=1+1+bI a.F.ae+1
def iP:List ci->Int->List ci:=gx fQ dn
def fW(l:List ci):Nat:=eI dn l
theorem xE(a:ci)(k:Int):dn (fQ a k)=dn a:=by simp only[dn,fQ,gz]
theorem Ce(a:ci)(k:Int):fQ (fQ a k) k=fQ a k:=by simp only[fQ,gz,kF]
theorem IJ(a:ci):dn a<=20*rR a+20:=by have:=nZ a.F.ae;simp only[dn,rR,bu];omega
theorem DT(l:List ci)(k:Int):fW (iP l k)=fW l:=pc xE l k
theorem A3(l:List ci)(k:Int):iP (iP l k) k=iP l k:=kE xE Ce l k
theorem GZ(l:List ci):fW l<=20*pC l:=lh IJ l
def dc(a:aQ):Nat:=a.Key.size+bu a.F
def bx(l:List aQ):Nat:=l.length+(l.map dc).sum
def fN(a:aQ)(k:Int):aQ:=⟨au k,⟨au (k+1),cx a.F.ae (k+1+1)⟩⟩
def dj(a:aQ):Nat:=1+1+bI a.F.ae
def gC:List aQ->Int->List aQ:=gx fN dj
def fi(l:List aQ):Nat:=eI dj l
theorem xA(a:aQ)(k:Int):dj (fN a k)=dj a:=by simp only[dj,fN,gz]
theorem B_(a:aQ)(k:Int):fN (fN a k) k=fN a k:=by simp only[fN,gz,kF]
theorem IB(a:aQ):dj a<=20*dc a+20:=by have:=nZ a.F.ae;simp only[dj,bu,dc];omega
theorem u5(l:List aQ)(k:Int):fi (gC l k)=fi l:=pc xA l k
theorem AY(l:List aQ)(k:Int):gC (gC l k) k=gC l k:=kE xA B_ l k
theorem GQ(l:List aQ):fi l<=20*bx l:=lh IB l
def bQ(a:aj):Nat:=dr a.S+cQ a.av+bz a.ai+ca a.ah+bx a.ao
def jg(a:aj)(k:Int):aj:=⟨iG a.S k,fw a.av (k+dz a.S),f_ a.ai (k+dz a.S+cX a.av),fv a.ah (k+dz a.S+cX a.av+ec a.ai),gC a.ao (k+dz a.S+cX a.av+ec a.ai+d_ a.ah),a.State,a.ez⟩
def gW(a:aj):Nat:=dz a.S+cX a.av+ec a.ai+d_ a.ah+fi a.ao
theorem Ko(a:aj)(k:Int):gW (jg a k)=gW a:=by simp only[gW,jg,tP,u7,tO,u5,AT]
theorem Gi(a:aj)(k:Int):jg (jg a k) k=jg a k:=by simp only[jg,tP,yh,u7,A0,tO,yg,u5,AY,AT,DR]
theorem Da(a:aj):gW a<=20*bQ a:=by have:=Iz a.S;have:=Ei a.av;have:=GS a.ai;have:=Eh a.ah;have:=GQ a.ao;simp only[gW,bQ];omega
theorem JE{x:aZ}(h:eJ (dA .bm x)):x.S.size<=9223372036854775807:=Bd.str (U:=UU) (h _ (bi _ (bi _ (dw))))
theorem JA{x:aZ}(h:eJ (dA .gJ x)):x.S.size<=9223372036854775807:=Bd.str (U:=UU) (h _ (bi _ (bi _ (dw))))
theorem mS{x:aA}(h:eJ (dA .cP x)):x.Kind.size<=9223372036854775807/\x.ae.length<=9223372036854775807:=⟨Bd.str (U:=UU) (h _ (dw)),Bd.len (U:=UU) (h _ (bi _ (dw)))⟩
theorem G7{x:aA}(h:eJ (dA .mL x)):x.Kind.size<=9223372036854775807/\x.ae.length<=9223372036854775807:=⟨Bd.str (U:=UU) (h _ (dw)),Bd.len (U:=UU) (h _ (bi _ (dw)))⟩
theorem Hb{x:bf}(h:eJ (dA .aP x)):x.F.Kind.size<=9223372036854775807/\x.F.ae.length<=9223372036854775807:=⟨Bd.str (U:=UU) (h _ (bi _ (dw))),Bd.len (U:=UU) (h _ (bi _ (bi _ (dw))))⟩
theorem G6{x:bf}(h:eJ (dA .iQ x)):x.F.Kind.size<=9223372036854775807/\x.F.ae.length<=9223372036854775807:=⟨Bd.str (U:=UU) (h _ (bi _ (dw))),Bd.len (U:=UU) (h _ (bi _ (bi _ (dw))))⟩
theorem jt{x:az}(h:eJ (dA .di x)):x.ab.length<=9223372036854775807:=Bd.len (U:=UU) (h _ (dw))
theorem IN{x:az}(h:eJ (dX .di x)):x.ab.length<=9223372036854775807:=Bd.len (U:=UU) (h _ (dw))
theorem Dg{x:az}(h:eJ (dA .jO x)):x.ab.length<=9223372036854775807:=Bd.len (U:=UU) (h _ (dw))
theorem JF{x:bU}(h:eJ (dA .iy x)):x.S.size<=9223372036854775807/\x.V.S.size<=9223372036854775807:=⟨Bd.str (U:=UU) (h _ (bi _ (dw))),Bd.str (U:=UU) (h _ (bi _ (bi _ (bi _ (bi _ (dw))))))⟩
theorem JC{x:bU}(h:eJ (dA .nQ x)):x.S.size<=9223372036854775807/\x.V.S.size<=9223372036854775807:=⟨Bd.str (U:=UU) (h _ (bi _ (dw))),Bd.str (U:=UU) (h _ (bi _ (bi _ (bi _ (bi _ (dw))))))⟩
theorem yK{x:b8}(h:eJ (dA .fU x)):x.Kind.size<=9223372036854775807/\x.aU.length<=9223372036854775807:=⟨Bd.str (U:=UU) (h _ (dw)),Bd.len (U:=UU) (h _ (bi _ (dw)))⟩
theorem JB{x:b8}(h:eJ (dA .nP x)):x.Kind.size<=9223372036854775807/\x.aU.length<=9223372036854775807:=⟨Bd.str (U:=UU) (h _ (dw)),Bd.len (U:=UU) (h _ (bi _ (dw)))⟩
theorem Hf{x:bM}(h:eJ (dA .dG x)):x.Name.size<=9223372036854775807/\x.V.S.size<=9223372036854775807:=⟨Bd.str (U:=UU) (h _ (dw)),Bd.str (U:=UU) (h _ (bi _ (bi _ (bi _ (dw)))))⟩
theorem G'{x:bM}(h:eJ (dA .jS x)):x.Name.size<=9223372036854775807/\x.V.S.size<=9223372036854775807:=⟨Bd.str (U:=UU) (h _ (dw)),Bd.str (U:=UU) (h _ (bi _ (bi _ (bi _ (dw)))))⟩
theorem Hd{x:bo}(h:eJ (dA .de x)):x.L.S.size<=9223372036854775807/\x.L.V.S.size<=9223372036854775807/\x.R.S.size<=9223372036854775807/\x.R.V.S.size<=9223372036854775807:=⟨Bd.str (U:=UU) (h _ (bi _ (bi _ (dw)))),Bd.str (U:=UU) (h _ (bi _ (bi _ (bi _ (bi _ (bi _ (dw))))))),Bd.str (U:=UU) (h _ (bi _ (bi _ (bi _ (bi _ (bi _ (bi _ (bi _ (dw))))))))),Bd.str (U:=UU) (h _ (bi _ (bi _ (bi _ (bi _ (bi _ (bi _ (bi _ (bi _ (bi _ (bi _ (dw))))))))))))⟩
theorem G9{x:bo}(h:eJ (dA .jR x)):x.L.S.size<=9223372036854775807/\x.L.V.S.size<=9223372036854775807/\x.R.S.size<=9223372036854775807/\x.R.V.S.size<=9223372036854775807:=⟨Bd.str (U:=UU) (h _ (bi _ (bi _ (dw)))),Bd.str (U:=UU) (h _ (bi _ (bi _ (bi _ (bi _ (bi _ (dw))))))),Bd.str (U:=UU) (h _ (bi _ (bi _ (bi _ (bi _ (bi _ (bi _ (bi _ (dw))))))))),Bd.str (U:=UU) (h _ (bi _ (bi _ (bi _ (bi _ (bi _ (bi _ (bi _ (bi _ (bi _ (bi _ (dw))))))))))))⟩
theorem Hc{x:bC}(h:eJ (dA .fc x)):x.Op.size<=9223372036854775807/\x.L.S.size<=9223372036854775807/\x.L.V.S.size<=9223372036854775807/\x.R.S.size<=9223372036854775807/\x.R.V.S.size<=9223372036854775807:=⟨Bd.str (U:=UU) (h _ (dw)),Bd.str (U:=UU) (h _ (bi _ (bi _ (dw)))),Bd.str (U:=UU) (h _ (bi _ (bi _ (bi _ (bi _ (bi _ (dw))))))),Bd.str (U:=UU) (h _ (bi _ (bi _ (bi _ (bi _ (bi _ (bi _ (bi _ (dw))))))))),Bd.str (U:=UU) (h _ (bi _ (bi _ (bi _ (bi _ (bi _ (bi _ (bi _ (bi _ (bi _ (bi _ (dw))))))))))))⟩
theorem G8{x:bC}(h:eJ (dA .jQ x)):x.Op.size<=9223372036854775807/\x.L.S.size<=9223372036854775807/\x.L.V.S.size<=9223372036854775807/\x.R.S.size<=9223372036854775807/\x.R.V.S.size<=9223372036854775807:=⟨Bd.str (U:=UU) (h _ (dw)),Bd.str (U:=UU) (h _ (bi _ (bi _ (dw)))),Bd.str (U:=UU) (h _ (bi _ (bi _ (bi _ (bi _ (bi _ (dw))))))),Bd.str (U:=UU) (h _ (bi _ (bi _ (bi _ (bi _ (bi _ (bi _ (bi _ (dw))))))))),Bd.str (U:=UU) (h _ (bi _ (bi _ (bi _ (bi _ (bi _ (bi _ (bi _ (bi _ (bi _ (bi _ (dw))))))))))))⟩
theorem JG{x:cC}(h:eJ (dA .fV x)):x.Name.size<=9223372036854775807/\x.aU.length<=9223372036854775807/\x.cq.size<=9223372036854775807:=⟨Bd.str (U:=UU) (h _ (bi _ (dw))),Bd.len (U:=UU) (h _ (bi _ (bi _ (dw)))),Bd.str (U:=UU) (h _ (bi _ (bi _ (bi _ (bi _ (dw))))))⟩
theorem JD{x:cC}(h:eJ (dA .nR x)):x.Name.size<=9223372036854775807/\x.aU.length<=9223372036854775807/\x.cq.size<=9223372036854775807:=⟨Bd.str (U:=UU) (h _ (bi _ (dw))),Bd.len (U:=UU) (h _ (bi _ (bi _ (dw)))),Bd.str (U:=UU) (h _ (bi _ (bi _ (bi _ (bi _ (dw))))))⟩
theorem mR{x:aM}(h:eJ (dA .cy x)):x.Name.size<=9223372036854775807/\x.aG.length<=9223372036854775807/\x.bO.length<=9223372036854775807/\x.cA.length<=9223372036854775807:=⟨Bd.str (U:=UU) (h _ (dw)),Bd.len (U:=UU) (h _ (bi _ (bi _ (dw)))),Bd.len (U:=UU) (h _ (bi _ (bi _ (bi _ (dw))))),Bd.len (U:=UU) (h _ (bi _ (bi _ (bi _ (bi _ (dw))))))⟩
theorem G5{x:aM}(h:eJ (dA .jP x)):x.Name.size<=9223372036854775807/\x.aG.length<=9223372036854775807/\x.bO.length<=9223372036854775807/\x.cA.length<=9223372036854775807:=⟨Bd.str (U:=UU) (h _ (dw)),Bd.len (U:=UU) (h _ (bi _ (bi _ (dw)))),Bd.len (U:=UU) (h _ (bi _ (bi _ (bi _ (dw))))),Bd.len (U:=UU) (h _ (bi _ (bi _ (bi _ (bi _ (dw))))))⟩
theorem lB{x:cr}(h:eJ (dA .kN x)):x.Name.size<=9223372036854775807/\x.aT.length<=9223372036854775807:=⟨Bd.str (U:=UU) (h _ (dw)),Bd.len (U:=UU) (h _ (bi _ (dw)))⟩
theorem Ek{x:cr}(h:eJ (dA .pd x)):x.Name.size<=9223372036854775807/\x.aT.length<=9223372036854775807:=⟨Bd.str (U:=UU) (h _ (dw)),Bd.len (U:=UU) (h _ (bi _ (dw)))⟩
theorem Dj{x:aE}(h:eJ (dA .aI x)):x.li.length<=9223372036854775807/\x.dV.length<=9223372036854775807:=⟨Bd.len (U:=UU) (h _ (bi _ (dw))),Bd.len (U:=UU) (h _ (bi _ (bi _ (dw))))⟩
theorem Dh{x:aE}(h:eJ (dA .gL x)):x.li.length<=9223372036854775807/\x.dV.length<=9223372036854775807:=⟨Bd.len (U:=UU) (h _ (bi _ (dw))),Bd.len (U:=UU) (h _ (bi _ (bi _ (dw))))⟩
theorem Di{x:ap}(h:eJ (dA .ax x)):x.F.Kind.size<=9223372036854775807/\x.F.ae.length<=9223372036854775807:=⟨Bd.str (U:=UU) (h _ (bi _ (dw))),Bd.len (U:=UU) (h _ (bi _ (bi _ (dw))))⟩
theorem Df{x:ap}(h:eJ (dA .gK x)):x.F.Kind.size<=9223372036854775807/\x.F.ae.length<=9223372036854775807:=⟨Bd.str (U:=UU) (h _ (bi _ (dw))),Bd.len (U:=UU) (h _ (bi _ (bi _ (dw))))⟩
theorem Ha{x:ag}(h:eJ (dA .aw x)):x.F.Kind.size<=9223372036854775807/\x.F.ae.length<=9223372036854775807/\x.cq.size<=9223372036854775807/\x.V.S.size<=9223372036854775807:=⟨Bd.str (U:=UU) (h _ (dw)),Bd.len (U:=UU) (h _ (bi _ (dw))),Bd.str (U:=UU) (h _ (bi _ (bi _ (dw)))),Bd.str (U:=UU) (h _ (bi _ (bi _ (bi _ (bi _ (bi _ (bi _ (bi _ (bi _ (dw))))))))))⟩
theorem G4{x:ag}(h:eJ (dA .jN x)):x.F.Kind.size<=9223372036854775807/\x.F.ae.length<=9223372036854775807/\x.cq.size<=9223372036854775807/\x.V.S.size<=9223372036854775807:=⟨Bd.str (U:=UU) (h _ (dw)),Bd.len (U:=UU) (h _ (bi _ (dw))),Bd.str (U:=UU) (h _ (bi _ (bi _ (dw)))),Bd.str (U:=UU) (h _ (bi _ (bi _ (bi _ (bi _ (bi _ (bi _ (bi _ (bi _ (dw))))))))))⟩
theorem He{x:ci}(h:eJ (dA .cu x)):x.Key.size<=9223372036854775807/\x.F.Kind.size<=9223372036854775807/\x.F.ae.length<=9223372036854775807:=⟨Bd.str (U:=UU) (h _ (dw)),Bd.str (U:=UU) (h _ (bi _ (dw))),Bd.len (U:=UU) (h _ (bi _ (bi _ (dw))))⟩
theorem G_{x:aQ}(h:eJ (dA .aW x)):x.Key.size<=9223372036854775807/\x.F.Kind.size<=9223372036854775807/\x.F.ae.length<=9223372036854775807:=⟨Bd.str (U:=UU) (h _ (dw)),Bd.str (U:=UU) (h _ (bi _ (dw))),Bd.len (U:=UU) (h _ (bi _ (bi _ (dw))))⟩
theorem G3{x:aQ}(h:eJ (dA .jM x)):x.Key.size<=9223372036854775807/\x.F.Kind.size<=9223372036854775807/\x.F.ae.length<=9223372036854775807:=⟨Bd.str (U:=UU) (h _ (dw)),Bd.str (U:=UU) (h _ (bi _ (dw))),Bd.len (U:=UU) (h _ (bi _ (bi _ (dw))))⟩
theorem kQ{x:aj}(h:eJ (dA .cz x)):x.S.ab.length<=9223372036854775807/\x.av.length<=9223372036854775807/\x.ai.length<=9223372036854775807/\x.ah.length<=9223372036854775807/\x.ao.length<=9223372036854775807:=⟨Bd.len (U:=UU) (h _ (dw)),Bd.len (U:=UU) (h _ (bi _ (bi _ (dw)))),Bd.len (U:=UU) (h _ (bi _ (bi _ (bi _ (dw))))),Bd.len (U:=UU) (h _ (bi _ (bi _ (bi _ (bi _ (dw)))))),Bd.len (U:=UU) (h _ (bi _ (bi _ (bi _ (bi _ (bi _ (dw)))))))⟩
theorem nD{x:aj}(h:eJ (dX .cz x)):x.S.ab.length<=9223372036854775807/\x.av.length<=9223372036854775807/\x.ai.length<=9223372036854775807/\x.ah.length<=9223372036854775807/\x.ao.length<=9223372036854775807:=⟨Bd.len (U:=UU) (h _ (dw)),Bd.len (U:=UU) (h _ (bi _ (bi _ (dw)))),Bd.len (U:=UU) (h _ (bi _ (bi _ (bi _ (dw))))),Bd.len (U:=UU) (h _ (bi _ (bi _ (bi _ (bi _ (dw)))))),Bd.len (U:=UU) (h _ (bi _ (bi _ (bi _ (bi _ (bi _ (dw)))))))⟩
theorem BH{x:aj}(h:eJ (dA .kG x)):x.S.ab.length<=9223372036854775807/\x.av.length<=9223372036854775807/\x.ai.length<=9223372036854775807/\x.ah.length<=9223372036854775807/\x.ao.length<=9223372036854775807:=⟨Bd.len (U:=UU) (h _ (dw)),Bd.len (U:=UU) (h _ (bi _ (bi _ (dw)))),Bd.len (U:=UU) (h _ (bi _ (bi _ (bi _ (dw))))),Bd.len (U:=UU) (h _ (bi _ (bi _ (bi _ (bi _ (dw)))))),Bd.len (U:=UU) (h _ (bi _ (bi _ (bi _ (bi _ (bi _ (dw)))))))⟩
def FX{α:Type}(a:List α):Int×Unit->Nat:=fun y=>a.length-y.1.toNat
def tK{α β:Type}(a:List α):β×Int×Unit->Nat:=fun y=>a.length-y.2.1.toNat
def Hz{α:Type}(f:α->Nat)(a:List α)(S:Nat)(left:Int):Int×Int×Unit->Prop:=fun y=>0<=y.1/\0<=y.2.1/\y.2.1<=a.length/\dR y.1 ((a.drop y.2.1.toNat).map f).sum=dR left S
def HL{α:Type}(f:α->Nat)(z:α)(a:List α)(S:Nat)(left:Int):Prop:=
 bif decide (IntKind.wrap .i64 (left-(a.length:Int))<0) then Li (-1) (dR left S)
 else Hz f a S left (IntKind.wrap .i64 (left-(a.length:Int)),0,())/\∀y:Int×Int×PUnit,Hz f a S left y->
  bif decide (y.2.1<(a.length:Int)) then 0<=y.2.1/\y.2.1.toNat<a.length/\0<=y.1/\
   bif decide (dR y.1 (f (a.getD y.2.1.toNat z))<0) then Li (-1) (dR left S)
   else Hz f a S left (dR y.1 (f (a.getD y.2.1.toNat z)),IntKind.wrap .i64 (y.2.1+1),())/\tK a (dR y.1 (f (a.getD y.2.1.toNat z)),IntKind.wrap .i64 (y.2.1+1),())<tK a y
  else Li y.1 (dR left S)
theorem l6{α:Type}{f:α->Nat}{z:α}{a:List α}{S:Nat}{left:Int}(hS:S=a.length+(a.map f).sum)(bD:0<=left)(hl: -9223372036854775808<=left/\left<=9223372036854775807)(hla:a.length<=9223372036854775807):HL f z a S left:=by
 subst hS
 unfold HL
 rw[wrap_i64 (by omega) (by omega)]
 refine aa (fun h=>cR ?_) (fun h=>⟨?_,?_⟩)
 ·simp[dR] at*;omega
 ·simp at h
  have h':0<=left-a.length:=by omega
  exact⟨h',by show(0:Int)<=0;omega,by show(0:Int)<=a.length;omega,I8 h'⟩
 rintro⟨lf,i,⟨⟩⟩ ⟨h0,h1,h2,hR⟩
 refine aa (fun hc=> ?_) (fun hc=> ?_)
 ·have hc:i<a.length:=by simpa using hc
  simp only at h0 h1 h2 hR⊢
  rw[cW a z h1 hc,tI,JY] at hR
  rw[wrap_i64 (by omega) (by omega)]
  generalize List.getD a i.toNat z=x at*
  refine⟨by omega,by omega,by omega,aa (fun h=>cR ?_) (fun h=>⟨⟨?_,by show(0:Int)<=i+1;omega,by show i+1<=a.length;omega,?_⟩,?_⟩)⟩
  ·rw[<-hR];exact(Pa (of_decide_eq_true h)).symm
  ·simp at h;exact h
  ·show dR (dR lf (f x)) _=_
   rw[<-hR];simp at h;exact O_ h
  ·simp only[tK];omega
 ·have hc:a.length<=i:=by simpa using hc
  simp only at h0 h1 h2 hR⊢
  rw[bZ a hc] at hR
  apply cR;rw[<-hR];simp[dR,h0]
def Hy{α:Type}(z:α)(a:List α):List α×Int×Unit->Prop:=fun y=>0<=y.2.1/\y.2.1<=a.length/\y.1=a.take y.2.1.toNat++List.replicate (a.length-y.2.1.toNat) z
def I5{α:Type}(f:α->Nat)(z:α)(a:List α)(L:List α->Prop):Prop:=
 0<=(a.length:Int)/\(a.length:Int)=(a.length:Int)/\(a.length:Int)<=4294967296/\Hy z a (List.replicate (a.length:Int).toNat z,0,())/\
  ∀y:List α×Int×PUnit,Hy z a y->bif decide (y.2.1<(a.length:Int)) then 0<=y.2.1/\y.2.1.toNat<a.length/\f (a.getD y.2.1.toNat z)<=4294967296/\0<=y.2.1/\y.2.1.toNat<y.1.length/\y.2.1.toNat<y.1.length/\
   Hy z a (y.1.set y.2.1.toNat (a.getD y.2.1.toNat z),IntKind.wrap .i64 (y.2.1+1),())/\tK a (y.1.set y.2.1.toNat (a.getD y.2.1.toNat z),IntKind.wrap .i64 (y.2.1+1),())<tK a y
  else L y.1
theorem l5{α:Type}{f:α->Nat}{z:α}{a:List α}{L:List α->Prop}(bD:a.length+(a.map f).sum<=4294967296)(hL:L a):I5 f z a L:=by
 refine⟨by omega,rfl,by omega,⟨by show(0:Int)<=0;omega,by show(0:Int)<=a.length;omega,by simp⟩,?_⟩
 rintro⟨out,i,⟨⟩⟩ ⟨h1,h2,h3⟩
 simp only at h1 h2 h3
 subst h3
 refine aa (fun hc=> ?_) (fun hc=> ?_)
 ·have hc:i<a.length:=by simpa using hc
  simp only
  rw[wrap_i64 (by omega) (by omega),FV a z h1 hc]
  exact⟨h1,by omega,BU (dJ f a z h1 hc) (by omega),h1,by simp;omega,by simp;omega,⟨by show(0:Int)<=i+1;omega,by show i+1<=a.length;omega,rfl⟩,by simp only[tK];omega⟩
 ·have hc:a.length<=i:=by simpa using hc
  have e:i.toNat=a.length:=by omega
  simp only
  rw[e];simpa using hL
def GF{α:Type}(a b:List α):Int×Unit->Prop:=fun y=>0<=y.1/\y.1<=a.length/\a.length=b.length/\(a.drop y.1.toNat=b.drop y.1.toNat↔a=b)
noncomputable def HG{α:Type}[DecidableEq α](z:α)(a b:List α):Prop:=
 bif (a.length:Int) !=(b.length:Int) then Lb false (decide (a=b))
 else GF a b (0,())/\∀y:Int×PUnit,GF a b y->bif decide (y.1<(a.length:Int)) then 0<=y.1/\y.1.toNat<a.length/\0<=y.1/\y.1.toNat<b.length/\
   bif !decide (a.getD y.1.toNat z=b.getD y.1.toNat z) then Lb false (decide (a=b))
   else GF a b (IntKind.wrap .i64 (y.1+1),())/\FX a (IntKind.wrap .i64 (y.1+1),())<FX a y
  else Lb true (decide (a=b))
theorem lx{α:Type}[DecidableEq α]{z:α}{a b:List α}(hl:a.length<=9223372036854775807):HG z a b:=by
 unfold HG
 refine aa (fun h=>mV ?_) (fun h=>⟨?_,?_⟩)
 ·rintro rfl;simp at h
 ·have h:(a.length:Int)=b.length:=by simpa using h
  exact⟨by show(0:Int)<=0;omega,by show(0:Int)<=a.length;omega,by omega,by simp⟩
 rintro⟨i,⟨⟩⟩ ⟨h1,h2,h3,hR⟩
 simp only at h1 h2 h3 hR
 refine aa (fun hc=> ?_) (fun hc=> ?_)
 ·have hc:i<a.length:=by simpa using hc
  rw[cW a z h1 hc,cW b z h1 (by omega)] at hR
  simp only
  rw[wrap_i64 (by omega) (by omega)]
  refine⟨by omega,by omega,by omega,by omega,aa (fun h=>mV ?_) (fun h=>⟨⟨by show(0:Int)<=i+1;omega,by show i+1<=a.length;omega,h3,?_⟩,?_⟩)⟩
  ·rw[<-hR];simp at h;simp[h]
  ·show a.drop (i+1).toNat=b.drop (i+1).toNat↔a=b
   rw[<-hR];simp at h;simp[h]
  ·simp only[FX];omega
 ·have hc:a.length<=i:=by simpa using hc
  rw[bZ a hc,bZ b (by omega)] at hR
  exact ol (hR.1 rfl)
def kr(b:Int):Bool:=decide (97<=b/\b<=122)
def kf(b:Int):Bool:=kr b||decide (48<=b/\b<=57)||decide (b=95)
def pA(s:BA):Bool:=(bs s).all (jE kf)
def b7(s:BA):Bool:=decide (1<=s.size/\s.size<=12)&&kr ((bs s).getD 0 0).toNat&&pA s
def df(v:aZ):Bool:=bif decide (v.K=1) then decide (-1000000000<=v.N/\v.N<=1000000000)&&decide (v.S=ak) else bif decide (v.K=2) then decide (v.N=0)&&decide (v.S.size<=20)&&pA v.S else false
def cg(f:aA):Bool:=b7 f.Kind&&decide (f.ae.length<=5)&&f.ae.all df
def anr:=bB (α:=Int×Int×Int) (qC qI (qC qI (q1 qI))) [.ro,.ro,.ro] (fun _=>[]) (fun(n,least,cf)=>⟨[dO (decide (least<=n/\n<=cf))],[],[]⟩)
def xo:HH:=hF anr func37 [] a0 fun x hp hb=>by
 obtain⟨n,least,cf⟩:=x
 clear hp hb
 apply vE (let q0:=decide (least<=n/\n<=cf);bif decide (n≥least) then Lb (decide (n<=cf)) q0 else Lb false q0)
 dsimp only
 refine aa (fun h=>cK ?_) (fun h=>cK ?_)<;>grind
def anv:=bB (α:=Int×Int×Int) (qC qI (qC qI (q1 qI))) [.ro,.ro,.ro] (fun _=>[]) (fun(x,least,cf)=>⟨[dO (decide (least<=x/\x<=cf))],[],[]⟩)
def rG:HH:=hF anv func27 [] a0 fun x hp hb=>by
 obtain⟨x,least,cf⟩:=x
 clear hp hb
 apply vE (let q0:=decide (least<=x/\x<=cf);bif decide (x≥least) then Lb (decide (x<=cf)) q0 else Lb false q0)
 dsimp only
 refine aa (fun h=>cK ?_) (fun h=>cK ?_)<;>grind
def aed:=bB (α:=Int) (q1 qY) [.ro] (fun _=>[]) (fun b=>⟨[dO (kr b)],[],[]⟩)
def Uy:HH:=hF aed func221 [] a0 fun(b:Int) hp hb=>by
 skip
 clear hp hb
 apply vE (bif decide (b≥97) then Lb (decide (b<=122)) (kr b) else Lb false (kr b))
 refine aa (fun h=>cK ?_) (fun h=>cK ?_)<;>grind [kr]
def adI:=bB (α:=Int) (q1 qY) [.ro] (fun _=>[]) (fun b=>⟨[dO (decide (48<=b/\b<=57))],[],[]⟩)
def afz:HH:=hF adI func284 [] a0 fun(b:Int) hp hb=>by
 skip
 clear hp hb
 apply vE (let q0:=decide (48<=b/\b<=57);bif decide (b≥48) then Lb (decide (b<=57)) q0 else Lb false q0)
 dsimp only
 refine aa (fun h=>cK ?_) (fun h=>cK ?_)<;>grind
def adR:=bB (α:=Int) (q1 qY) [.ro] (fun _=>[]) (fun b=>⟨[dO (kf b)],[],[]⟩)
def Ut:HH:=hF adR func266 [Uy,afz] a0 fun(b:Int) hp hb=>by
 skip
 clear hp hb
 apply vE (bif kr b then Lb true (kf b) else bif decide (48<=b/\b<=57) then Lb true (kf b) else Lb (b==95) (kf b))
 refine aa (fun h=>cK ?_) (fun h=> ?_)
 ·grind [kf]
 refine aa (fun h=>cK ?_) (fun h=>cK ?_)<;>grind [kf]
def aeo:=bB (α:=Int) (q1 qY) [.ro] (fun c=>[0<=c/\c<=255]) (fun c=>⟨[dO (kf c)],[],[]⟩)
def Ox:HH:=hF aeo func204 [rG] a0 fun(c:Int) hp hb=>by
 have bD:0<=c/\c<=255:=hp _ m0
 clear hp hb
 apply vE (bif decide (97<=wrap i64 c/\wrap i64 c<=122) then Lb true (kf c) else bif decide (48<=wrap i64 c/\wrap i64 c<=57) then Lb true (kf c) else Lb (c==95) (kf c))
 rw[wi]
 refine aa (fun h=>cK ?_) (fun h=> ?_)
 ·grind [kf,kr]
 refine aa (fun h=>cK ?_) (fun h=>cK ?_)<;>grind [kf,kr]
def Tn:=bB (α:=BA×Int) (qC qS (q1 qI)) [.ro,.ro] (fun _=>[]) (fun(s,cf)=>⟨[dO (decide (s.size<=cf)&&pA s)],[],[]⟩)
def zQ(s:BA)(cf:Int):Int×Unit->Prop:=fun(i,_)=>0<=i/\i<=s.size/\s.size<=cf/\((bs s).drop i.toNat).all (jE kf)=pA s
def y6(s:BA)(cf:Int):Int×Unit->Nat:=fun(i,_)=>s.size-i.toNat
def aih:AX Tn:=fun(s,cf)=>bh [(4,aB [iI 5] (fun _=>zQ s cf) (y6 s cf))]
def Ux:HH:=hF Tn func222 [Ut] aih fun x hp hb=>by
 obtain⟨s,cf⟩:=x
 have Na:=N3 (s:=s) (hb _ m0)
 have Jo:=iK (n:=cf) (hb _ m1)
 clear hp hb
 apply vE (let q0:=decide ((↑(s.size):Int)<=cf)&&pA s;bif decide ((↑(s.size):Int)>cf) then Lb false q0 else zQ s cf (0,())/\∀(y:Int×PUnit),let q1:=(wrap i64 (y.1+1),());zQ s cf y->bif decide (y.1<(↑(s.size):Int)) then 0<=y.1/\y.1.toNat<s.size/\bif !kf (↑(UInt8.toNat (s.data.toList.getD y.1.toNat (0:UInt8))):Int) then Lb false q0 else zQ s cf q1/\y6 s cf q1<y6 s cf y else Lb true q0)
 dsimp only
 refine aa (fun h=>bG ?_) (fun h=> ?_)
 ·have h:=yT h;rw[decide_eq_false (by omega)];rfl
 have h0:=yF h
 refine⟨⟨by omega,by omega,by omega,rfl⟩,?_⟩
 rintro⟨i,⟨⟩⟩ ⟨h1,h2,h3,hR⟩
 have hl:=nd s
 simp only[Dd]
 refine aa ?_ ?_<;>intro hc
 ·have hc:=yT hc
  rw[ed _ _ 0 h1 (by omega)] at hR
  rw[wi]
  refine⟨by omega,by omega,aa (fun h=>bG ?_) (fun h=>⟨⟨by omega,by omega,by omega,?_⟩,?_⟩)⟩
  ·rw[<-hR];simp only[jE];simp at h;simp[h]
  ·rw[<-hR];simp only[jE];simp at h;simp[h]
  ·simp only[y6];omega
 ·have hc:=yF hc
  rw[bZ _ (by omega)] at hR
  exact pX (by rw[<-hR,decide_eq_true h3];rfl)
def aeK:=bB (α:=BA) (q1 qS) [.ro] (fun _=>[]) (fun s=>⟨[dO (b7 s)],[],[]⟩)
def Dp:HH:=hF aeK func164 [Uy,Ux] a0 fun(s:BA) hp hb=>by
 clear hp hb
 apply vE (bif decide ((↑(s.size):Int)>0) then(0:Int)<=(0:Int)/\Int.toNat 0<s.size/\bif kr (↑(UInt8.toNat (s.data.toList.getD (Int.toNat 0) (0:UInt8))):Int) then Lb (decide ((↑(s.size):Int)<=12)&&pA s) (b7 s) else Lb false (b7 s) else Lb false (b7 s))
 have hl:=nd s
 simp only[Dd]
 refine aa (fun h=> ?_) (fun h=>bG ?_)
 ·have h:=yT h
  refine⟨by omega,by omega,aa (fun h'=>cK ?_) (fun h'=>bG ?_)⟩
  ·have h':kr (((bs s).getD 0 0).toNat:Int)=true:=h'
   simp only[b7,h']
   have e:decide (1<=s.size/\s.size<=12)=decide ((s.size:Int)<=12):=by rw[decide_eq_decide];omega
   rw[e];simp
  ·have h':kr (((bs s).getD 0 0).toNat:Int)=false:=h'
   simp only[b7,h'];grind
 ·have h:=yF h
  simp only[b7];rw[decide_eq_false (by omega)];rfl
def TX:=bB (α:=BA) (q1 qS) [.ro] (fun _=>[]) (fun s=>⟨[dO (b7 s)],[],[]⟩)
def Ad(s:BA):Int×Unit->Prop:=fun(i,_)=>0<=i/\i<=s.size/\((bs s).drop i.toNat).all (jE kf)=pA s/\(0<i->kr ((bs s).getD 0 0).toNat=true)
def vZ(s:BA):Int×Unit->Nat:=fun(i,_)=>s.size-i.toNat
def aiR:AX TX:=fun s=>bh [(2,aB [iI 3] (fun _=>Ad s) (vZ s))]
def Dq:HH:=hF TX func138 [Ox,rG] aiR fun(s:BA) hp hb=>by
 have Na:=N3 (s:=s) (hb _ m0)
 clear hp hb
 apply vE (let q0:=(↑(s.size):Int);Ad s (0,())/\∀(y:Int×PUnit),let x0:=(↑(UInt8.toNat (s.data.toList.getD y.1.toNat (0:UInt8))):Int);let q1:=(wrap i64 (y.1+1),());let q2:=Ad s q1/\vZ s q1<vZ s y;Ad s y->bif decide (y.1<q0) then 0<=y.1/\y.1.toNat<s.size/\(0<=x0/\x0<=255)/\bif !kf x0 then Lb false (b7 s) else bif y.1==0 then 0<=y.1/\y.1.toNat<s.size/\bif !decide (97<=wrap i64 x0/\wrap i64 x0<=122) then Lb false (b7 s) else q2 else q2 else Lb (decide (1<=q0/\q0<=12)) (b7 s))
 dsimp only
 refine⟨⟨by omega,by omega,rfl,by omega⟩,?_⟩
 rintro⟨i,⟨⟩⟩ ⟨h1,h2,hR,hS⟩
 have hl:=nd s
 simp only[Dd,Vk]
 refine aa ?_ ?_<;>intro hc
 ·have hc:=yT hc
  have hb:=((bs s).getD i.toNat 0).toNat_lt
  rw[ed _ _ 0 h1 (by omega)] at hR
  rw[wi]
  have hN:pA s=false->b7 s=false:=fun h=>by simp[b7,h]
  refine⟨by omega,by omega,⟨by omega,by omega⟩,aa (fun h=>bG (hN ?_)) (fun h=>aa (fun h'=>⟨by omega,by omega,aa (fun xN=>bG ?_) (fun xN=>⟨⟨by omega,by omega,?_,fun _=> ?_⟩,?_⟩)⟩) (fun h'=>⟨⟨by omega,by omega,?_,fun _=>hS ?_⟩,?_⟩))⟩
  ·rw[<-hR];simp only[jE];simp at h;simp[h]
  ·have h':i=0:=by simpa using h'
   subst h'
   have xN:kr (((bs s).getD 0 0).toNat:Int)=false:=by simp only[kr];grind
   simp only[b7,xN];grind
  ·rw[<-hR];simp only[jE];simp at h;simp[h]
  ·have h':i=0:=by simpa using h'
   subst h'
   simpa[kr] using xN
  ·simp only[vZ];omega
  ·rw[<-hR];simp only[jE];simp at h;simp[h]
  ·have h':¬i=0:=by simpa using h'
   omega
  ·simp only[vZ];omega
 ·have hc:=yF hc
  rw[bZ _ (by omega)] at hR
  refine cK ?_
  simp only[b7,<-hR]
  by_cases hz:0<i
  ·rw[hS hz];simp only[RQ];grind
  ·rw[decide_eq_false (by omega),decide_eq_false (by omega)];rfl
def S_:=bB (α:=BA) (q1 qS) [.ro] (fun _=>[]) (fun s=>⟨[dO (decide (s.size<=20)&&pA s)],[],[]⟩)
def zH(s:BA):Int×Unit->Prop:=fun(i,_)=>0<=i/\i<=s.size/\((bs s).drop i.toNat).all (jE kf)=pA s
def yS(s:BA):Int×Unit->Nat:=fun(i,_)=>s.size-i.toNat
def ah4:AX S_:=fun s=>bh [(2,aB [iI 3] (fun _=>zH s) (yS s))]
def afU:HH:=hF S_ func258 [Ox] ah4 fun(s:BA) hp hb=>by
 have Na:=N3 (s:=s) (hb _ m0)
 clear hp hb
 apply vE (let q0:=decide (s.size<=20)&&pA s;zH s (0,())/\∀(y:Int×PUnit),let x0:=(↑(UInt8.toNat (s.data.toList.getD y.1.toNat (0:UInt8))):Int);let q1:=(wrap i64 (y.1+1),());zH s y->bif decide (y.1<(↑(s.size):Int)) then 0<=y.1/\y.1.toNat<s.size/\(0<=x0/\x0<=255)/\bif !kf x0 then Lb false q0 else zH s q1/\yS s q1<yS s y else Lb (decide ((↑(s.size):Int)<=20)) q0)
 dsimp only
 refine⟨⟨by omega,by omega,rfl⟩,?_⟩
 rintro⟨i,⟨⟩⟩ ⟨h1,h2,hR⟩
 have hl:=nd s
 simp only[Dd]
 refine aa ?_ ?_<;>intro hc
 ·have hc:=yT hc
  have hb:=((bs s).getD i.toNat 0).toNat_lt
  rw[ed _ _ 0 h1 (by omega)] at hR
  rw[wi]
  refine⟨by omega,by omega,⟨by omega,by omega⟩,aa (fun h=>bG ?_) (fun h=>⟨⟨by omega,by omega,?_⟩,?_⟩)⟩
  ·rw[<-hR];simp only[jE];simp at h;simp[h]
  ·rw[<-hR];simp only[jE];simp at h;simp[h]
  ·simp only[yS];omega
 ·have hc:=yF hc
  rw[bZ _ (by omega)] at hR
  refine cK ?_
  rw[<-hR];simp;omega
def ad9:=bB (α:=aZ) (q1 (qA .bm)) [.ro] (fun _=>[]) (fun v=>⟨[dO (df v)],[],[]⟩)
def JM:HH:=hF ad9 func231 [xo,Ux] a0 fun(v:aZ) hp hb=>by
 clear hp hb
 apply vE (let q0:=Lb false (df v);bif v.K==1 then bif decide ((-1000000000)<=v.N/\v.N<=1000000000) then Lb (v.S.toList==ByteArray.toList {data:= #[]:BA}) (df v) else q0 else bif v.K==2 then bif v.N==0 then Lb (decide ((↑(v.S.size):Int)<=20)&&pA v.S) (df v) else q0 else q0)
 dsimp only
 have e:((aZ.S v).toList==ByteArray.toList {data:= #[]})=decide (v.S=ak):=bt _ _
 simp only[e,df]
 repeat' (refine aa (fun h=> ?_) (fun h=> ?_))
 all_goals (refine cK ?_;grind)
def aem:=bB (α:=aZ) (q1 (qA .bm)) [.ro] (fun _=>[]) (fun v=>⟨[dO (df v)],[],[]⟩)
def Ow:HH:=hF aem func207 [rG,afU] a0 fun(v:aZ) hp hb=>by
 clear hp hb
 apply vE (let q0:=Lb false (df v);bif v.K==1 then bif decide ((-1000000000)<=v.N/\v.N<=1000000000) then Lb (v.S.toList==ByteArray.toList {data:= #[]:BA}) (df v) else q0 else bif v.K==2 then bif decide (v.S.size<=20)&&pA v.S then Lb (v.N==0) (df v) else q0 else q0)
 dsimp only
 have e:((aZ.S v).toList==ByteArray.toList {data:= #[]})=decide (v.S=ak):=bt _ _
 simp only[e,df]
 repeat' (refine aa (fun h=> ?_) (fun h=> ?_))
 all_goals (refine cK ?_;grind)
def Ts:=bB (α:=List aZ) (q1 (qL .bm)) [.ro] (fun _=>[]) (fun l=>⟨[dO (decide (l.length<=5)&&l.all df)],[],[]⟩)
def zR(l:List aZ):Int×Unit->Prop:=fun(i,_)=>0<=i/\i<=l.length/\(l.drop i.toNat).all df=l.all df
def y8(l:List aZ):Int×Unit->Nat:=fun(i,_)=>l.length-i.toNat
def aim:AX Ts:=fun l=>bh [(2,aB [iI 3] (fun _=>zR l) (y8 l))]
def agy:HH:=hF Ts func205 [Ow] aim fun(l:List aZ) hp hb=>by
 have la:L9 l.length:=eY (hb _ m0)
 clear hp hb
 apply vE (let x0:=(l.length:Int);let q0:=decide (l.length<=5)&&l.all df;zR l (0,())/\∀(y:Int×PUnit),let q1:=(wrap i64 (y.1+1),());zR l y->bif decide (y.1<x0) then 0<=y.1/\y.1.toNat<l.length/\bif !df (l.getD y.1.toNat gh) then Lb false q0 else zR l q1/\y8 l q1<y8 l y else Lb (decide (x0<=5)) q0)
 dsimp only
 refine⟨⟨by omega,by omega,rfl⟩,?_⟩
 rintro⟨i,⟨⟩⟩ ⟨h1,h2,hR⟩
 simp only
 refine aa ?_ ?_<;>intro hc
 ·have hc:=yT hc
  rw[ed _ _ gh h1 (by omega)] at hR
  rw[wi]
  refine⟨by omega,by omega,aa (fun h=>bG ?_) (fun h=>⟨⟨by omega,by omega,?_⟩,?_⟩)⟩
  ·rw[<-hR];simp at h;simp[h]
  ·rw[<-hR];simp at h;simp[h]
  ·simp only[y8];omega
 ·have hc:=yF hc
  rw[bZ _ (by omega)] at hR
  refine cK ?_
  rw[<-hR];simp;omega
def ae0:=bB (α:=aA) (q1 (qA .cP)) [.ro] (fun _=>[]) (fun f=>⟨[dO (cg f)],[],[]⟩)
def Hs:HH:=hF ae0 func139 [Dq,agy] a0 fun(f:aA) hp hb=>by
 clear hp hb
 apply vE (bif b7 f.Kind then Lb (decide (f.ae.length<=5)&&f.ae.all df) (cg f) else Lb false (cg f))
 simp only[cg]
 refine aa (fun h=>cK ?_) (fun h=>cK ?_)<;>grind
def TM:=bB (α:=aA) (q1 (qA .cP)) [.ro] (fun _=>[]) (fun f=>⟨[dO (cg f)],[],[]⟩)
def zZ(f:aA):Int×Unit->Prop:=fun(i,_)=>0<=i/\i<=f.ae.length/\f.ae.length<=5/\b7 f.Kind=true/\(f.ae.drop i.toNat).all df=f.ae.all df
def zf(f:aA):Int×Unit->Nat:=fun(i,_)=>f.ae.length-i.toNat
def aiF:AX TM:=fun f=>bh [(4,aB [iI 18] (fun _=>zZ f) (zf f))]
def Dn:HH:=hF TM func167 [Dp,JM] aiF fun(f:aA) hp hb=>by
 clear hp hb
 apply vE (let x0:=(f.ae.length:Int);let q0:=Lb false (cg f);bif !b7 f.Kind then q0 else bif decide (x0>5) then q0 else zZ f (0,())/\∀(y:Int×PUnit),let q1:=(wrap i64 (y.1+1),());zZ f y->bif decide (y.1<x0) then 0<=y.1/\y.1.toNat<f.ae.length/\bif !df (f.ae.getD y.1.toNat gh) then q0 else zZ f q1/\zf f q1<zf f y else Lb true (cg f))
 dsimp only
 refine aa (fun h=>cK ?_) (fun h=>aa (fun h'=>cK ?_) (fun h'=>⟨⟨by omega,by omega,by simp at h';omega,by simpa using h,rfl⟩,?_⟩))
 ·simp only[cg];grind
 ·simp only[cg];grind
 rintro⟨i,⟨⟩⟩ ⟨h1,h2,h3,h4,hR⟩
 simp only
 refine aa ?_ ?_<;>intro hc
 ·have hc:=yT hc
  rw[ed _ _ gh h1 (by omega)] at hR
  rw[wi]
  refine⟨by omega,by omega,aa (fun h=>bG ?_) (fun h=>⟨⟨by omega,by omega,by omega,h4,?_⟩,?_⟩)⟩
  ·simp only[cg];rw[<-hR];simp at h;simp[h]
  ·rw[<-hR];simp at h;simp[h]
  ·simp only[zf];omega
 ·have hc:=yF hc
  rw[bZ _ (by omega)] at hR
  refine cK ?_
  simp only[cg,<-hR,h4];simp;omega
def adj:=bB (α:=Int) (q1 qI) [.ro] (fun k=>[k<=4611686018427387903]) (fun k=>⟨[dS (au k)],[],[]⟩)
def Fq(k:Int):Int×BA×Unit->Prop:=fun(j,out,_)=>0<=j/\j<=k/\(∃l d,out=⟨l.toArray⟩/\j.toNat<=d/\WO d j.toNat l=WO k.toNat k.toNat []/\l.length<=k-j)
def EO(k:Int):Int×BA×Unit->Nat:=fun(j,out,_)=>j.toNat
def apk:AX adj:=fun k=>bh [(4,aB [iI 0,.slot 3 (3,1024) (.lit .str)] (fun _=>Fq k) (EO k))]
def pV:HH:=hF adj func53 [] apk fun(k:Int) hp hb=>by
 have lc:=iK (n:=k) (hb _ m0)
 have bD:k<=4611686018427387903:=hp _ m0
 clear hp hb
 apply vE (bif decide (k<=0) then Lf [VS ({data:= #[109,48]:BA})] [VS (au k)] else Fq k (k,{data:= #[]:BA},())/\∀(y:Int×BA×PUnit),let x0:=y.2.1.size;let x1:=strOfNums (List.map (fun(x:Cd.T Cd.byte)=>x) [IntKind.wrap IntKind.u8 (wrap i64 (48+Int.tmod y.1 10))]);let q0:=(wrap i64 (Int.tdiv y.1 10),x1++y.2.1,());Fq k y->bif decide (y.1>0) then(10:Int)≠(0:Int)/\x1.size+x0<=4611686018427387904/\(10:Int)≠(0:Int)/\Fq k q0/\EO k q0<EO k y else ByteArray.size {data:= #[109]:BA}+x0<=4611686018427387904/\Lf [VS ({data:= #[109]:BA}++y.2.1)] [VS (au k)])
 dsimp only
 refine aa (fun h=>uJ ?_) (fun h=> ?_)
 ·have h:=yT h;simp only[au];rw[if_pos h]
 have h0:=yF h
 refine⟨⟨by omega,by omega,[],k.toNat,rfl,tB _,rfl,by simp⟩,?_⟩
 rintro⟨j,out,⟨⟩⟩ ⟨h1,h2,l,d,rfl,hd,hm,hl⟩
 simp only
 have hz:∀l:List UInt8,(ByteArray.mk l.toArray).size=l.length:=fun l=>by simp[ByteArray.size]
 refine aa ?_ ?_<;>intro h
 ·have h:=yT h
  have ht:Int.tmod j 10=j%10:=Hx h1
  have hq:Int.tdiv j 10=j/10:=Int.tdiv_eq_ediv_of_nonneg h1
  have hu:IntKind.wrap .u8 (48+j%10)=48+j%10:=by simp only[IntKind.wrap];simp[IntKind.bits,IntKind.signed];omega
  rw[ht,hq,wi,wi,hu]
  have hs:∀l:List UInt8,strOfNums (List.map (fun(x:Int)=>x) [48+j%10])++(⟨l.toArray⟩:BA)=⟨((UInt8.ofNat (48+j.toNat%10))::l).toArray⟩:=fun l=>by
   have e:(48+j%10).toNat=48+j.toNat%10:=by omega
   simp only[strOfNums,tI,List.map_nil,e]
   apply ByteArray.ext
   simp
  have W7:(strOfNums (List.map (fun(x:Int)=>x) [48+j%10])).size=1:=rfl
  refine⟨by omega,by erw[W7];rw[hz];omega,by omega,⟨by omega,by omega,_,d-1,hs l,by omega,?_,by simp only[n_];omega⟩,by simp only[EO];omega⟩
  rw[<-hm]
  obtain⟨d,rfl⟩:∃e,d=e+1:=⟨d-1,by omega⟩
  have e:(j/10).toNat=j.toNat/10:=by omega
  rw[e]
  simp only[Nat.add_sub_cancel,WO]
  rw[if_neg (by omega)]
 ·have h:=yF h
  have hj:j.toNat=0:=by omega
  rw[hj,Mw] at hm
  refine⟨by rw[hz];simp[ByteArray.size];omega,uJ ?_⟩
  simp only[au]
  rw[if_neg h0,<-hm]
  apply ByteArray.ext
  simp
def ae4:=bB (α:=(List Int)×Int) (qC (qL .int) (q1 qI)) [.ro,.ro] (fun(a,left)=>[0<=left]) (fun(a,left)=>⟨[dI (dR left (eM a))],[],[]⟩)
def ahk:HH:=hF ae4 func132 [] a0 fun x hp hb=>by
 obtain⟨a,left⟩:=x
 have cF:L9 a.length:=eY (hb _ m0)
 have cp:=iK (n:=left) (hb _ m1)
 have bD:0<=left:=hp _ m0
 clear hp hb
 apply vE (let x0:=wrap i64 (left-(a.length:Int));bif decide (x0<0) then Li (-1) (dR left (eM a)) else Li x0 (dR left (eM a)))
 dsimp only
 rw[wi]
 refine aa (fun h=>cR (b_ ?_)) (fun h=> ?_)
 ·have h:=yT h;simp only[eM];omega
 have h:=yF h
 exact cR (by rw[<-gQ (by simp only[eM];omega)];simp only[eM])
def TP:=bB (α:=List Int) (q1 (qL .int)) [.ro] (fun a=>[L4 (eM a)]) (fun a=>⟨[dL .int a],[],[]⟩)
def wx(a:List Int):List Int×Int×Unit->Prop:=fun(out,i,_)=>0<=i/\i<=a.length/\out=a.take i.toNat++List.replicate (a.length-i.toNat) (0:Int)
def zh(a:List Int):List Int×Int×Unit->Nat:=fun(out,i,_)=>a.length-i.toNat
def aiI:AX TP:=fun a=>bh [(3,aB [iO 3 .int,iI 4] (fun _=>wx a) (zh a))]
def ag4:HH:=hF TP func158 [] aiI fun(a:List Int) hp hb=>by
 have cF:L9 a.length:=eY (hb _ m0)
 have bD:eM a<=4294967296:=hp _ m0
 clear hp hb
 apply vE (let x0:=(a.length:Int);0<=x0/\x0=x0/\x0<=4294967296/\wx a (List.replicate x0.toNat 0,0,())/\∀(y:List Int×Int×PUnit),let x1:=y.2.1.toNat;let q0:=(y.1.set x1 (a.getD x1 0),wrap i64 (y.2.1+1),());wx a y->bif decide (y.2.1<x0) then 0<=y.2.1/\x1<a.length/\0<=y.2.1/\x1<y.1.length/\x1<y.1.length/\wx a q0/\zh a q0<zh a y else Lf [VL .int y.1] [VL .int a])
 dsimp only
 have hlen:a.length<=4294967296:=by simp only[eM] at bD;omega
 refine⟨by omega,rfl,by omega,?_,?_⟩
 ·simp[wx]
 rintro⟨out,i,⟨⟩⟩ ⟨h1,h2,rfl⟩
 simp only at*
 refine aa ?_ ?_<;>intro hc
 ·have hc:i<a.length:=by simpa using hc
  rw[wi,FV a (0:Int) h1 hc]
  exact⟨h1,by omega,h1,by simp;omega,by simp;omega,⟨by omega,by omega,rfl⟩,by simp only[zh];omega⟩
 ·have hc:a.length<=i:=by simpa using hc
  have e:i.toNat=a.length:=by omega
  rw[e];simp;exact aH _
def TG:=bB (α:=(List Int)×(List Int)) (qC (qL .int) (q1 (qL .int))) [.ro,.ro] (fun _=>[]) (fun(a,b)=>⟨[dO (decide (a=b))],[],[]⟩)
def wq(a:List Int)(b:List Int):Int×Unit->Prop:=fun(i,_)=>0<=i/\i<=a.length/\a.length=b.length/\(a.drop i.toNat=b.drop i.toNat↔a=b)
def zb(a:List Int)(b:List Int):Int×Unit->Nat:=fun(i,_)=>a.length-i.toNat
def aiz:AX TG:=fun(a,b)=>bh [(4,aB [iI 5] (fun _=>wq a b) (zb a b))]
def agP:HH:=hF TG func186 [] aiz fun x hp hb=>by
 obtain⟨a,b⟩:=x
 have cF:L9 a.length:=eY (hb _ m0)
 have tG:L9 b.length:=eY (hb _ m1)
 clear hp hb
 apply vE (bif (a.length:Int) !=(b.length:Int) then Lb false (decide (a=b)) else wq a b (0,())/\∀(y:Int×PUnit),let q0:=(wrap i64 (y.1+1),());wq a b y->bif decide (y.1<(a.length:Int)) then 0<=y.1/\y.1.toNat<a.length/\0<=y.1/\y.1.toNat<b.length/\bif a.getD y.1.toNat 0 !=b.getD y.1.toNat 0 then Lb false (decide (a=b)) else wq a b q0/\zb a b q0<zb a b y else Lb true (decide (a=b)))
 dsimp only
 refine aa (fun h=>mV ?_) (fun h=>⟨?_,?_⟩)
 ·rintro rfl;simp at h
 ·simp[wq] at*;omega
 rintro⟨i,⟨⟩⟩ ⟨h1,h2,h3,hR⟩
 simp only at*
 refine aa ?_ ?_<;>intro hc
 ·have hc:i<a.length:=by simpa using hc
  rw[cW a (0:Int) h1 hc,cW b (0:Int) h1 (by omega)] at hR
  rw[wi]
  refine⟨by omega,by omega,by omega,by omega,aa (fun h=>mV ?_) (fun h=>⟨⟨by omega,by omega,h3,?_⟩,?_⟩)⟩
  ·rw[<-hR];simp at h;simp[h]
  ·rw[<-hR];simp at h;simp[h]
  ·simp only[zb];omega
 ·have hc:a.length<=i:=by simpa using hc
  rw[bZ a hc,bZ b (by omega)] at hR
  exact ol (hR.1 rfl)
def Uf:=bB (α:=(List Int)×Int) (qC (qL .int) (q1 qI)) [.wr,.ro] (fun(a,k)=>[0<=k,k+fI a<=4611686018427387904]) (fun(a,k)=>⟨[dI (k+fI a)],[],[dL .int (iN a k)]⟩)
def Aj(a:List Int)(k:Int):List Int×Int×Int×Unit->Prop:=fun(row,kk,i,_)=>0<=i/\i<=a.length/\row=(gx (fun _ k=>k) (fun _=>1) a k).take i.toNat++a.drop i.toNat/\kk=k+eI (fun _=>1) (a.take i.toNat)
def zq(a:List Int)(k:Int):List Int×Int×Int×Unit->Nat:=fun(row,kk,i,_)=>a.length-i.toNat
def ai1:AX Uf:=fun(a,k)=>bh [(2,aB [.slot 0 (2000000,0) (.own .int true),iI 1,iI 5] (fun _=>Aj a k) (zq a k))]
def aht:HH:=hF Uf func123 [] ai1 fun x hp hb=>by
 obtain⟨a,k⟩:=x
 have cF:L9 a.length:=eY (hb _ m0)
 have lc:=iK (n:=k) (hb _ m1)
 have bD:0<=k:=hp _ m0
 have gb:k+fI a<=4611686018427387904:=hp _ m1
 clear hp hb
 apply vE (Aj a k (a,k,0,())/\∀(y:List Int×Int×Int×PUnit),let x0:=y.2.2.1.toNat;let q0:=(y.1.set x0 y.2.1,wrap i64 (y.2.1+1),wrap i64 (y.2.2.1+1),());Aj a k y->bif decide (y.2.2.1<(y.1.length:Int)) then 0<=y.2.2.1/\x0<y.1.length/\x0<y.1.length/\Aj a k q0/\zq a k q0<zq a k y else fz [VI y.2.1]=fz [VI (k+(↑(fI a):Int))]/\fz [VL .int y.1]=fz [VL .int (iN a k)])
 dsimp only
 refine⟨⟨by omega,by omega,by simp,by simp[eI]⟩,?_⟩
 rintro⟨row,kk,i,⟨⟩⟩ ⟨h1,h2,rfl,rfl⟩
 simp only
 have hl:=nM (fun _ k=>k) (fun _=>1) a k h1 h2
 refine aa ?_ ?_<;>intro hc
 ·have hc:i<a.length:=by have hc:=yT hc;omega
  have ky:=dB (fun _=>1) a (0:Int) h1 hc
  have hle:=cm (fun _=>1) a (i+1).toNat
  have hg:=fC _ a (0:Int) (mH (fun _ k=>k) (fun _=>1) a k h1 h2) h1 hc
  have hM:=Gh (fun _ k=>k) (fun _=>1) a (0:Int) k h1 hc
  have hq:(fI a:Int)=eI (fun _=>1) a:=rfl
  generalize List.getD a i.toNat (0:Int)=x at*
  generalize lT:k+(eI (fun _=>1) (a.take i.toNat):Int)=kk at*
  generalize List.take i.toNat (gx (fun _ k=>k) (fun _=>1) a k)++a.drop i.toNat=R at*
  simp(disch:=first|omega|(simp only[sz];omega)) only[sz,wrap_i64,getD_modify,cw,hg,hl]
  repeat' (first|refine And.intro (by omega) ?_|fail)
  exact⟨⟨by omega,by omega,hM,by omega⟩,by simp only[zq];omega⟩
 ·have hc:a.length<=i:=by have hc:=yF hc;omega
  rw[jf (fun _ k=>k) (fun _=>1) a k hc,eW (fun _=>1) a hc]
  exact⟨rfl,rfl⟩
def Uc:=bB (α:=(List Int)×Int) (qC (qL .int) (q1 qI)) [.ro,.ro] (fun(a,k)=>[0<=k,k+fI a<=4611686018427387904]) (fun(a,k)=>⟨[dI (if iN a k=a then k+fI a else-1)],[],[]⟩)
def Ag(a:List Int)(k:Int):Int×Int×Unit->Prop:=fun(kk,i,_)=>0<=i/\i<=a.length/\kk=k+eI (fun _=>1) (a.take i.toNat)/\(gx (fun _ k=>k) (fun _=>1) (a.drop i.toNat) kk=a.drop i.toNat↔gx (fun _ k=>k) (fun _=>1) a k=a)
def zn(a:List Int)(k:Int):Int×Int×Unit->Nat:=fun(kk,i,_)=>a.length-i.toNat
def aiY:AX Uc:=fun(a,k)=>bh [(2,aB [iI 1,iI 5] (fun _=>Ag a k) (zn a k))]
def ahq:HH:=hF Uc func126 [] aiY fun x hp hb=>by
 obtain⟨a,k⟩:=x
 have cF:L9 a.length:=eY (hb _ m0)
 have lc:=iK (n:=k) (hb _ m1)
 have bD:0<=k:=hp _ m0
 have gb:k+fI a<=4611686018427387904:=hp _ m1
 clear hp hb
 apply vE (let q0:=if iN a k=a then k+(↑(fI a):Int) else(-1);Ag a k (k,0,())/\∀(y:Int×Int×PUnit),let x0:=y.2.1.toNat;let q1:=(wrap i64 (y.1+1),wrap i64 (y.2.1+1),());Ag a k y->bif decide (y.2.1<(a.length:Int)) then 0<=y.2.1/\x0<a.length/\bif a.getD x0 0 !=y.1 then Li (-1) q0 else Ag a k q1/\zn a k q1<zn a k y else Li y.1 q0)
 dsimp only
 refine⟨⟨by omega,by omega,by simp[eI],by simp⟩,?_⟩
 rintro⟨kk,i,⟨⟩⟩ ⟨h1,h2,lT,hR⟩
 simp only
 simp only[iN]
 refine aa ?_ ?_<;>intro hc
 ·have hc:i<a.length:=by have hc:=yT hc;omega
  have ky:=dB (fun _=>1) a (0:Int) h1 hc
  have hle:=cm (fun _=>1) a (i+1).toNat
  have hq:(fI a:Int)=eI (fun _=>1) a:=rfl
  rw[cW a (0:Int) h1 hc] at hR
  generalize List.getD a i.toNat (0:Int)=x at*
  simp only[gx,Lo] at hR
  have e:kk+(((1:Nat):Int):Int)=kk+1:=by first|(simp only[CU];done)|(rfl)
  rw[e] at hR
  skip
  simp(disch:=omega) only[wrap_i64,nv,bt]
  repeat' (first|refine And.intro (by omega) ?_|fail)
  refine aa (fun h=>e_ (fun hh=> ?_)) (fun h=> ?_)
  ·have hh:=hR.2 hh;simp_all
  have h:x=kk:=by simpa using h
  subst x
  exact⟨⟨by omega,by omega,by omega,by simpa using hR⟩,by simp only[zn];omega⟩
 ·have hc:a.length<=i:=by have hc:=yF hc;omega
  rw[bZ a hc] at hR
  exact n9 (hR.1 rfl) (by rw[lT,eW _ _ hc];rfl)
def ae2:=bB (α:=aZ×Int) (qC (qA .gJ) (q1 qI)) [.ro,.ro] (fun(a,left)=>[0<=left]) (fun(a,left)=>⟨[dI (dR left (cS a))],[],[]⟩)
def JT:HH:=hF ae2 func135 [] a0 fun x hp hb=>by
 obtain⟨a,left⟩:=x
 have Bg:=JA (x:=a) (hb _ m0)
 have cp:=iK (n:=left) (hb _ m1)
 have bD:0<=left:=hp _ m0
 clear hp hb
 apply vE (let x0:=wrap i64 (left-(↑(a.S.size):Int));bif decide (x0<0) then Li (-1) (dR left (cS a)) else Li x0 (dR left (cS a)))
 dsimp only
 rw[wi]
 refine aa (fun h=>cR (b_ ?_)) (fun h=> ?_)
 ·have h:=yT h;simp only[cS];omega
 have h0:=yF h
 exact cR (by rw[<-gQ (by simp only[cS];omega)];simp only[cS];try omega)
def aeN:=bB (α:=aZ) (q1 (qA .gJ)) [.ro] (fun a=>[L4 (cS a)]) (fun a=>⟨[dA .bm a],[],[]⟩)
def JQ:HH:=hF aeN func161 [] a0 fun(a:aZ) hp hb=>by
 have Bg:=JA (x:=a) (hb _ m0)
 have bD:cS a<=4294967296:=hp _ m0
 clear hp hb
 apply vE (Lf [DV.agg [CI a.K,CI a.N,CS a.S]] [DV.agg [CI a.K,CI a.N,CS a.S]])
 simp only[cS] at bD
 repeat' (first|exact aH _|(refine And.intro (by omega) ?_))
def aeu:=bB (α:=aZ×aZ) (qC (qA .bm) (q1 (qA .bm))) [.ro,.ro] (fun _=>[]) (fun(a,b)=>⟨[dO (decide (a=b))],[],[]⟩)
def JN:HH:=hF aeu func188 [] a0 fun x hp hb=>by
 obtain⟨a,b⟩:=x
 have Bg:=JE (x:=a) (hb _ m0)
 have Xx:=JE (x:=b) (hb _ m1)
 clear hp hb
 apply vE (let q0:=Lb false (decide (a=b));bif a.K !=b.K then q0 else bif a.N !=b.N then q0 else bif !a.S.toList==b.S.toList then q0 else Lb true (decide (a=b)))
 dsimp only
 obtain⟨aK,aN,aS⟩:=a
 obtain⟨bK,bN,bS⟩:=b
 repeat' (apply aa<;>intro _)
 all_goals (first|apply ol|apply mV)<;>simp_all
def Tx:=bB (α:=(List aZ)×Int) (qC (qL .gJ) (q1 qI)) [.ro,.ro] (fun(a,left)=>[0<=left]) (fun(a,left)=>⟨[dI (dR left (cU a))],[],[]⟩)
def Ru(a:List aZ)(left:Int):Int×Int×Unit->Prop:=Hz cS a (cU a) left
def Q8(a:List aZ)(left:Int):Int×Int×Unit->Nat:=tK a
def air:AX Tx:=fun(a,left)=>bh [(5,aB [iI 1,iI 5] (fun _=>Ru a left) (Q8 a left))]
def agD:HH:=hF Tx func199 [JT] air fun x hp hb=>by
 obtain⟨a,left⟩:=x
 have cF:L9 a.length:=eY (hb _ m0)
 have cp:=iK (n:=left) (hb _ m1)
 have bD:0<=left:=hp _ m0
 clear hp hb
 apply vE (HL cS gh a (cU a) left)
 exact l6 rfl bD cp cF
def To:=bB (α:=List aZ) (q1 (qL .gJ)) [.ro] (fun a=>[L4 (cU a)]) (fun a=>⟨[dL .bm a],[],[]⟩)
def Rt(a:List aZ):List aZ×Int×Unit->Prop:=Hy gh a
def Q7(a:List aZ):List aZ×Int×Unit->Nat:=tK a
def aii:AX To:=fun a=>bh [(3,aB [iO 3 .bm,iI 4] (fun _=>Rt a) (Q7 a))]
def agp:HH:=hF To func217 [JQ] aii fun(a:List aZ) hp hb=>by
 have cF:L9 a.length:=eY (hb _ m0)
 have bD:cU a<=4294967296:=hp _ m0
 clear hp hb
 apply vE (I5 cS gh a fun y=>Lf [.one (.sl .bm y)] [.one (.sl .bm a)])
 exact l5 bD (aH _)
def TE:=bB (α:=(List aZ)×(List aZ)) (qC (qL .bm) (q1 (qL .bm))) [.ro,.ro] (fun _=>[]) (fun(a,b)=>⟨[dO (decide (a=b))],[],[]⟩)
def Ry(a:List aZ)(b:List aZ):Int×Unit->Prop:=GF a b
def Rb(a:List aZ)(b:List aZ):Int×Unit->Nat:=FX a
def aix:AX TE:=fun(a,b)=>bh [(4,aB [iI 5] (fun _=>Ry a b) (Rb a b))]
def agN:HH:=hF TE func189 [JN] aix fun x hp hb=>by
 obtain⟨a,b⟩:=x
 have cF:L9 a.length:=eY (hb _ m0)
 have tG:L9 b.length:=eY (hb _ m1)
 clear hp hb
 apply vE (HG gh a b)
 exact lx cF
def adi:=bB (α:=(List aZ)×Int) (qC (qL .bm) (q1 qI)) [.wr,.ro] (fun(a,k)=>[0<=k,k+bI a<=4611686018427387904]) (fun(a,k)=>⟨[dI (k+bI a)],[],[dL .bm (cx a k)]⟩)
def Fp(a:List aZ)(k:Int):List aZ×Int×Int×Unit->Prop:=fun(row,kk,i,_)=>0<=i/\i<=a.length/\row=(gx ie e6 a k).take i.toNat++a.drop i.toNat/\kk=k+eI e6 (a.take i.toNat)
def EN(a:List aZ)(k:Int):List aZ×Int×Int×Unit->Nat:=fun(row,kk,i,_)=>a.length-i.toNat
def apj:AX adi:=fun(a,k)=>bh [(2,aB [.slot 0 (2000000,0) (.own .bm true),iI 1,iI 5] (fun _=>Fp a k) (EN a k))]
def Om:HH:=hF adi func54 [pV] apj fun x hp hb=>by
 obtain⟨a,k⟩:=x
 have cF:L9 a.length:=eY (hb _ m0)
 have lc:=iK (n:=k) (hb _ m1)
 have bD:0<=k:=hp _ m0
 have gb:k+bI a<=4611686018427387904:=hp _ m1
 clear hp hb
 apply vE (Fp a k (a,k,0,())/\∀(y:List aZ×Int×Int×PUnit),let x0:=y.2.2.1.toNat;let x3:=wrap i64 (y.2.1+1);let x4:=y.1.modify x0 fun(x:aZ)=>{K:=y.2.1,N:=x.N,S:=x.S:aZ};let x1:=wrap i64 (x3+1);let x2:=x4.modify x0 fun(x:aZ)=>{K:=x.K,N:=x3,S:=x.S:aZ};Fp a k y->bif decide (y.2.2.1<(y.1.length:Int)) then 0<=y.2.2.1/\x0<y.1.length/\x0<y.1.length/\0<=y.2.2.1/\x0<x4.length/\x0<x4.length/\x1<=4611686018427387903/\0<=y.2.2.1/\x0<x2.length/\x0<x2.length/\Fp a k (x2.modify x0 fun(x:aZ)=>{K:=x.K,N:=x.N,S:=au x1:aZ},wrap i64 (x1+1),wrap i64 (y.2.2.1+1),())/\EN a k (x2.modify x0 fun(x:aZ)=>{K:=x.K,N:=x.N,S:=au x1:aZ},wrap i64 (x1+1),wrap i64 (y.2.2.1+1),())<EN a k y else fz [VI y.2.1]=fz [VI (k+(↑(bI a):Int))]/\fz [VL .bm y.1]=fz [VL .bm (cx a k)])
 dsimp only
 refine⟨⟨by omega,by omega,by simp,by simp[eI]⟩,?_⟩
 rintro⟨row,kk,i,⟨⟩⟩ ⟨h1,h2,rfl,rfl⟩
 simp only
 have hl:=nM ie e6 a k h1 h2
 refine aa ?_ ?_<;>intro hc
 ·have hc:i<a.length:=by have hc:=yT hc;omega
  have ky:=dB e6 a gh h1 hc
  have hle:=cm e6 a (i+1).toNat
  have hg:=fC _ a gh (mH ie e6 a k h1 h2) h1 hc
  have hM:=fun F hF=>jB ie e6 a gh k (i:=i) F h1 hc hF
  have hq:(bI a:Int)=eI e6 a:=rfl
  generalize List.getD a i.toNat gh=x at*
  generalize lT:k+(eI e6 (a.take i.toNat):Int)=kk at*
  generalize List.take i.toNat (gx ie e6 a k)++a.drop i.toNat=R at*
  simp only[e6] at ky
  simp(disch:=first|omega|(simp only[sz];omega)) only[sz,wrap_i64,getD_modify,cw,hg,hl]
  repeat' (first|refine And.intro (by omega) ?_|fail)
  exact⟨⟨by omega,by omega,hM _ (by first|rfl|(simp only[ie,gI];rw[Hx (by omega)];rfl)),by omega⟩,by simp only[EN];omega⟩
 ·have hc:a.length<=i:=by have hc:=yF hc;omega
  rw[jf ie e6 a k hc,eW e6 a hc]
  exact⟨rfl,rfl⟩
def adb:=bB (α:=(List aZ)×Int) (qC (qL .bm) (q1 qI)) [.ro,.ro] (fun(a,k)=>[0<=k,k+bI a<=4611686018427387904]) (fun(a,k)=>⟨[dI (if cx a k=a then k+bI a else-1)],[],[]⟩)
def Fj(a:List aZ)(k:Int):Int×Int×Unit->Prop:=fun(kk,i,_)=>0<=i/\i<=a.length/\kk=k+eI e6 (a.take i.toNat)/\(gx ie e6 (a.drop i.toNat) kk=a.drop i.toNat↔gx ie e6 a k=a)
def EI(a:List aZ)(k:Int):Int×Int×Unit->Nat:=fun(kk,i,_)=>a.length-i.toNat
def ape:AX adb:=fun(a,k)=>bh [(2,aB [iI 1,iI 5] (fun _=>Fj a k) (EI a k))]
def Ol:HH:=hF adb func60 [pV] ape fun x hp hb=>by
 obtain⟨a,k⟩:=x
 have cF:L9 a.length:=eY (hb _ m0)
 have lc:=iK (n:=k) (hb _ m1)
 have bD:0<=k:=hp _ m0
 have gb:k+bI a<=4611686018427387904:=hp _ m1
 clear hp hb
 apply vE (let q0:=if cx a k=a then k+(↑(bI a):Int) else(-1);Fj a k (k,0,())/\∀(y:Int×Int×PUnit),let x1:=y.2.1.toNat;let x2:=wrap i64 (wrap i64 (y.1+1)+1);let x0:=a.getD x1 gh;let q1:=(wrap i64 (x2+1),wrap i64 (y.2.1+1),());Fj a k y->bif decide (y.2.1<(a.length:Int)) then 0<=y.2.1/\x1<a.length/\bif x0.K !=y.1 then Li (-1) q0 else 0<=y.2.1/\x1<a.length/\bif x0.N !=wrap i64 (y.1+1) then Li (-1) q0 else 0<=y.2.1/\x1<a.length/\x2<=4611686018427387903/\bif !x0.S.toList==(au x2).toList then Li (-1) q0 else Fj a k q1/\EI a k q1<EI a k y else Li y.1 q0)
 dsimp only
 refine⟨⟨by omega,by omega,by simp[eI],by simp⟩,?_⟩
 rintro⟨kk,i,⟨⟩⟩ ⟨h1,h2,lT,hR⟩
 simp only
 simp only[cx]
 refine aa ?_ ?_<;>intro hc
 ·have hc:i<a.length:=by have hc:=yT hc;omega
  have ky:=dB e6 a gh h1 hc
  have hle:=cm e6 a (i+1).toNat
  have hq:(bI a:Int)=eI e6 a:=rfl
  rw[cW a gh h1 hc] at hR
  generalize List.getD a i.toNat gh=x at*
  simp only[gx,Lo] at hR
  have e:kk+(e6 x:Int)=kk+1+1+1:=by first|(simp only[e6];done)|(simp only[e6];omega)
  rw[e] at hR
  simp only[ie,e6] at hR ky
  simp(disch:=omega) only[wrap_i64,nv,bt]
  obtain⟨x_K,x_N,x_S⟩:=x
  simp only[aZ.mk.injEq] at*
  repeat' (first|refine And.intro (by omega) ?_|fail)
  refine aa (fun h=>e_ (fun hh=> ?_)) (fun h=> ?_)
  ·have hh:=hR.2 hh;simp_all
  have h:x_K=kk:=by simpa using h
  subst x_K
  repeat' (first|refine And.intro (by omega) ?_|fail)
  refine aa (fun h=>e_ (fun hh=> ?_)) (fun h=> ?_)
  ·have hh:=hR.2 hh;simp_all
  have h:x_N=kk+1:=by simpa using h
  subst x_N
  repeat' (first|refine And.intro (by omega) ?_|fail)
  refine aa (fun h=>e_ (fun hh=> ?_)) (fun h=> ?_)
  ·have hh:=hR.2 hh;simp_all
  have h:x_S=au (kk+1+1):=by simpa using h
  subst x_S
  exact⟨⟨by omega,by omega,by omega,by simpa using hR⟩,by simp only[EI];omega⟩
 ·have hc:a.length<=i:=by have hc:=yF hc;omega
  rw[bZ a hc] at hR
  exact n9 (hR.1 rfl) (by rw[lT,eW _ _ hc];rfl)
def ae3:=bB (α:=aA×Int) (qC (qA .mL) (q1 qI)) [.ro,.ro] (fun(a,left)=>[0<=left]) (fun(a,left)=>⟨[dI (dR left (bu a))],[],[]⟩)
def JU:HH:=hF ae3 func134 [agD] a0 fun x hp hb=>by
 obtain⟨a,left⟩:=x
 have bj:=G7 (x:=a) (hb _ m0)
 have pL:=bj.1
 have xJ:=bj.2
 have cp:=iK (n:=left) (hb _ m1)
 have bD:0<=left:=hp _ m0
 clear hp hb
 apply vE (let x0:=wrap i64 (left-(↑(a.Kind.size):Int));let q0:=dR left (bu a);bif decide (x0<0) then Li (-1) q0 else 0<=x0/\bif decide (dR x0 (cU a.ae)<0) then Li (-1) q0 else Li (dR x0 (cU a.ae)) q0)
 dsimp only
 rw[wi]
 refine aa (fun h=>cR (b_ ?_)) (fun h=> ?_)
 ·have h:=yT h;simp only[bu];omega
 have h0:=yF h
 refine⟨by omega,aa (fun h=>cR (b_ ?_)) (fun h=> ?_)⟩
 ·have h:=eh h;simp only[bu];omega
 obtain⟨e1,h1⟩:=dH h
 rw[e1]
 exact cR (by rw[<-gQ (by simp only[bu];omega)];simp only[bu];try omega)
def aeO:=bB (α:=aA) (q1 (qA .mL)) [.ro] (fun a=>[L4 (bu a)]) (fun a=>⟨[dA .cP a],[],[]⟩)
def JR:HH:=hF aeO func160 [agp] a0 fun(a:aA) hp hb=>by
 have bj:=G7 (x:=a) (hb _ m0)
 have pL:=bj.1
 have xJ:=bj.2
 have bD:bu a<=4294967296:=hp _ m0
 clear hp hb
 apply vE (cU a.ae<=4294967296/\Lf [DV.agg [CS a.Kind,CL .bm a.ae]] [DV.agg [CS a.Kind,CL .bm a.ae]])
 simp only[bu] at bD
 repeat' (first|exact aH _|(refine And.intro (by omega) ?_))
def ae7:=bB (α:=aA×aA) (qC (qA .cP) (q1 (qA .cP))) [.ro,.ro] (fun _=>[]) (fun(a,b)=>⟨[dO (decide (a=b))],[],[]⟩)
def Ht:HH:=hF ae7 func117 [agN] a0 fun x hp hb=>by
 obtain⟨a,b⟩:=x
 have bj:=mS (x:=a) (hb _ m0)
 have pL:=bj.1
 have xJ:=bj.2
 have er:=mS (x:=b) (hb _ m1)
 have KI:=er.1
 have Ss:=er.2
 clear hp hb
 apply vE (bif !a.Kind.toList==b.Kind.toList then Lb false (decide (a=b)) else bif !decide (a.ae=b.ae) then Lb false (decide (a=b)) else Lb true (decide (a=b)))
 obtain⟨SR,ajj⟩:=a
 obtain⟨SO,ajh⟩:=b
 repeat' (apply aa<;>intro _)
 all_goals (first|apply ol|apply mV)<;>simp_all
def anh:=bB (α:=ap×Int) (qC (qA .gK) (q1 qI)) [.ro,.ro] (fun(a,left)=>[0<=left]) (fun(a,left)=>⟨[dI (dR left (dD a))],[],[]⟩)
def an5:HH:=hF anh func65 [JU] a0 fun x hp hb=>by
 obtain⟨a,left⟩:=x
 have bj:=Df (x:=a) (hb _ m0)
 have fa:=bj.1
 have dQ:=bj.2
 have cp:=iK (n:=left) (hb _ m1)
 have bD:0<=left:=hp _ m0
 clear hp hb
 apply vE (0<=left/\bif decide (dR left (bu a.F)<0) then Li (-1) (dR left (dD a)) else Li (dR left (bu a.F)) (dR left (dD a)))
 refine⟨by omega,aa (fun h=>cR (b_ ?_)) (fun h=> ?_)⟩
 ·have h:=eh h;simp only[dD];omega
 obtain⟨e0,h0⟩:=dH h
 rw[e0]
 exact cR (by rw[<-gQ (by simp only[dD];omega)];simp only[dD];try omega)
def am':=bB (α:=ap) (q1 (qA .gK)) [.ro] (fun a=>[L4 (dD a)]) (fun a=>⟨[dA .ax a],[],[]⟩)
def anL:HH:=hF am' func90 [JR] a0 fun(a:ap) hp hb=>by
 have bj:=Df (x:=a) (hb _ m0)
 have fa:=bj.1
 have dQ:=bj.2
 have bD:dD a<=4294967296:=hp _ m0
 clear hp hb
 apply vE (bu a.F<=4294967296/\Lf [DV.agg [CI a.At,CS a.F.Kind,CL .bm a.F.ae]] [DV.agg [CI a.At,CS a.F.Kind,CL .bm a.F.ae]])
 simp only[dD] at bD
 repeat' (first|exact aH _|(refine And.intro (by omega) ?_))
def ae9:=bB (α:=ap×ap) (qC (qA .ax) (q1 (qA .ax))) [.ro,.ro] (fun _=>[]) (fun(a,b)=>⟨[dO (decide (a=b))],[],[]⟩)
def ahA:HH:=hF ae9 func115 [Ht] a0 fun x hp hb=>by
 obtain⟨a,b⟩:=x
 have bj:=Di (x:=a) (hb _ m0)
 have fa:=bj.1
 have dQ:=bj.2
 have er:=Di (x:=b) (hb _ m1)
 have oJ:=er.1
 have mq:=er.2
 clear hp hb
 apply vE (bif a.At !=b.At then Lb false (decide (a=b)) else bif !decide (a.F=b.F) then Lb false (decide (a=b)) else Lb true (decide (a=b)))
 obtain⟨aAt,aF⟩:=a
 obtain⟨bAt,bF⟩:=b
 repeat' (apply aa<;>intro _)
 all_goals (first|apply ol|apply mV)<;>simp_all
def aee:=bB (α:=(List ap)×Int) (qC (qL .gK) (q1 qI)) [.ro,.ro] (fun(a,left)=>[0<=left]) (fun(a,left)=>⟨[dI (dR left (ca a))],[],[]⟩)
def YX(a:List ap)(left:Int):Int×Int×Unit->Prop:=Hz dD a (ca a) left
def YF(a:List ap)(left:Int):Int×Int×Unit->Nat:=tK a
def apB:AX aee:=fun(a,left)=>bh [(5,aB [iI 1,iI 5] (fun _=>YX a left) (YF a left))]
def aoD:HH:=hF aee func22 [an5] apB fun x hp hb=>by
 obtain⟨a,left⟩:=x
 have cF:L9 a.length:=eY (hb _ m0)
 have cp:=iK (n:=left) (hb _ m1)
 have bD:0<=left:=hp _ m0
 clear hp hb
 apply vE (HL dD cD a (ca a) left)
 exact l6 rfl bD cp cF
def adv:=bB (α:=List ap) (q1 (qL .gK)) [.ro] (fun a=>[L4 (ca a)]) (fun a=>⟨[dL .ax a],[],[]⟩)
def YS(a:List ap):List ap×Int×Unit->Prop:=Hy cD a
def YA(a:List ap):List ap×Int×Unit->Nat:=tK a
def apw:AX adv:=fun a=>bh [(3,aB [iO 3 .ax,iI 4] (fun _=>YS a) (YA a))]
def aou:HH:=hF adv func33 [anL] apw fun(a:List ap) hp hb=>by
 have cF:L9 a.length:=eY (hb _ m0)
 have bD:ca a<=4294967296:=hp _ m0
 clear hp hb
 apply vE (I5 dD cD a fun y=>Lf [.one (.sl .ax y)] [.one (.sl .ax a)])
 exact l5 bD (aH _)
def adr:=bB (α:=(List ap)×(List ap)) (qC (qL .ax) (q1 (qL .ax))) [.ro,.ro] (fun _=>[]) (fun(a,b)=>⟨[dO (decide (a=b))],[],[]⟩)
def YO(a:List ap)(b:List ap):Int×Unit->Prop:=GF a b
def Yw(a:List ap)(b:List ap):Int×Unit->Nat:=FX a
def aps:AX adr:=fun(a,b)=>bh [(4,aB [iI 5] (fun _=>YO a b) (Yw a b))]
def aom:HH:=hF adr func43 [ahA] aps fun x hp hb=>by
 obtain⟨a,b⟩:=x
 have cF:L9 a.length:=eY (hb _ m0)
 have tG:L9 b.length:=eY (hb _ m1)
 clear hp hb
 apply vE (HG cD a b)
 exact lx cF
def adl:=bB (α:=(List ap)×Int) (qC (qL .ax) (q1 qI)) [.wr,.ro] (fun(a,k)=>[0<=k,k+d_ a<=4611686018427387904]) (fun(a,k)=>⟨[dI (k+d_ a)],[],[dL .ax (fv a k)]⟩)
def Ft(a:List ap)(k:Int):List ap×Int×Int×Unit->Prop:=fun(row,kk,i,_)=>0<=i/\i<=a.length/\row=(gx eN cI a k).take i.toNat++a.drop i.toNat/\kk=k+eI cI (a.take i.toNat)
def EQ(a:List ap)(k:Int):List ap×Int×Int×Unit->Nat:=fun(row,kk,i,_)=>a.length-i.toNat
def apm:AX adl:=fun(a,k)=>bh [(2,aB [.slot 0 (2000000,0) (.own .ax true),iI 1,iI 5] (fun _=>Ft a k) (EQ a k))]
def aoe:HH:=hF adl func51 [pV,Om] apm fun x hp hb=>by
 obtain⟨a,k⟩:=x
 have cF:L9 a.length:=eY (hb _ m0)
 have lc:=iK (n:=k) (hb _ m1)
 have bD:0<=k:=hp _ m0
 have gb:k+d_ a<=4611686018427387904:=hp _ m1
 clear hp hb
 apply vE (Ft a k (a,k,0,())/\∀(y:List ap×Int×Int×PUnit),let x1:=y.2.2.1.toNat;let x3:=wrap i64 (y.2.1+1);let x4:=y.1.modify x1 fun(x:ap)=>{At:=y.2.1,F:=x.F:ap};let x0:=x4.modify x1 fun(x:ap)=>{At:=x.At,F:={Kind:=au x3,ae:=x.F.ae:aA}:ap};let x2:=wrap i64 (x3+1);let x5:=x2+(↑(bI (x0.getD x1 cD).F.ae):Int);Ft a k y->bif decide (y.2.2.1<(y.1.length:Int)) then 0<=y.2.2.1/\x1<y.1.length/\x1<y.1.length/\x3<=4611686018427387903/\0<=y.2.2.1/\x1<x4.length/\x1<x4.length/\0<=y.2.2.1/\x1<x0.length/\x1<x0.length/\x1<x0.length/\0<=x2/\x5<=4611686018427387904/\Ft a k (x0.modify x1 fun(x:ap)=>{At:=x.At,F:={Kind:=x.F.Kind,ae:=cx (x0.getD x1 cD).F.ae x2:aA}:ap},x5,wrap i64 (y.2.2.1+1),())/\EQ a k (x0.modify x1 fun(x:ap)=>{At:=x.At,F:={Kind:=x.F.Kind,ae:=cx (x0.getD x1 cD).F.ae x2:aA}:ap},x5,wrap i64 (y.2.2.1+1),())<EQ a k y else fz [VI y.2.1]=fz [VI (k+(↑(d_ a):Int))]/\fz [VL .ax y.1]=fz [VL .ax (fv a k)])
 dsimp only
 refine⟨⟨by omega,by omega,by simp,by simp[eI]⟩,?_⟩
 rintro⟨row,kk,i,⟨⟩⟩ ⟨h1,h2,rfl,rfl⟩
 simp only
 have hl:=nM eN cI a k h1 h2
 refine aa ?_ ?_<;>intro hc
 ·have hc:i<a.length:=by have hc:=yT hc;omega
  have ky:=dB cI a cD h1 hc
  have hle:=cm cI a (i+1).toNat
  have hg:=fC _ a cD (mH eN cI a k h1 h2) h1 hc
  have hM:=fun F hF=>jB eN cI a cD k (i:=i) F h1 hc hF
  have hq:(d_ a:Int)=eI cI a:=rfl
  generalize List.getD a i.toNat cD=x at*
  generalize lT:k+(eI cI (a.take i.toNat):Int)=kk at*
  generalize List.take i.toNat (gx eN cI a k)++a.drop i.toNat=R at*
  simp only[cI] at ky
  simp(disch:=first|omega|(simp only[sz];omega)) only[sz,wrap_i64,getD_modify,cw,hg,hl]
  repeat' (first|refine And.intro (by omega) ?_|fail)
  exact⟨⟨by omega,by omega,hM _ (by first|rfl|(simp only[eN,gI];rw[Hx (by omega)];rfl)),by omega⟩,by simp only[EQ];omega⟩
 ·have hc:a.length<=i:=by have hc:=yF hc;omega
  rw[jf eN cI a k hc,eW cI a hc]
  exact⟨rfl,rfl⟩
def adf:=bB (α:=(List ap)×Int) (qC (qL .ax) (q1 qI)) [.ro,.ro] (fun(a,k)=>[0<=k,k+d_ a<=4611686018427387904]) (fun(a,k)=>⟨[dI (if fv a k=a then k+d_ a else-1)],[],[]⟩)
def Fl(a:List ap)(k:Int):Int×Int×Unit->Prop:=fun(kk,i,_)=>0<=i/\i<=a.length/\kk=k+eI cI (a.take i.toNat)/\(gx eN cI (a.drop i.toNat) kk=a.drop i.toNat↔gx eN cI a k=a)
def EK(a:List ap)(k:Int):Int×Int×Unit->Nat:=fun(kk,i,_)=>a.length-i.toNat
def apg:AX adf:=fun(a,k)=>bh [(2,aB [iI 1,iI 5] (fun _=>Fl a k) (EK a k))]
def an_:HH:=hF adf func58 [pV,Ol] apg fun x hp hb=>by
 obtain⟨a,k⟩:=x
 have cF:L9 a.length:=eY (hb _ m0)
 have lc:=iK (n:=k) (hb _ m1)
 have bD:0<=k:=hp _ m0
 have gb:k+d_ a<=4611686018427387904:=hp _ m1
 clear hp hb
 apply vE (let q0:=if fv a k=a then k+(↑(d_ a):Int) else(-1);Fl a k (k,0,())/\∀(y:Int×Int×PUnit),let x4:=y.2.1.toNat;let x6:=wrap i64 (y.1+1);let x3:=a.getD x4 cD;let x5:=wrap i64 (x6+1);let x2:=x3.F;let x1:=x2.ae;let x0:=if cx x1 x5=x1 then x5+(↑(bI x1):Int) else(-1);Fl a k y->bif decide (y.2.1<(a.length:Int)) then 0<=y.2.1/\x4<a.length/\bif x3.At !=y.1 then Li (-1) q0 else 0<=y.2.1/\x4<a.length/\x6<=4611686018427387903/\bif !x2.Kind.toList==(au x6).toList then Li (-1) q0 else 0<=y.2.1/\x4<a.length/\0<=x5/\x5+(↑(bI x1):Int)<=4611686018427387904/\bif decide (x0<0) then Li (-1) q0 else Fl a k (x0,wrap i64 (y.2.1+1),())/\EK a k (x0,wrap i64 (y.2.1+1),())<EK a k y else Li y.1 q0)
 dsimp only
 refine⟨⟨by omega,by omega,by simp[eI],by simp⟩,?_⟩
 rintro⟨kk,i,⟨⟩⟩ ⟨h1,h2,lT,hR⟩
 simp only
 simp only[fv]
 refine aa ?_ ?_<;>intro hc
 ·have hc:i<a.length:=by have hc:=yT hc;omega
  have ky:=dB cI a cD h1 hc
  have hle:=cm cI a (i+1).toNat
  have hq:(d_ a:Int)=eI cI a:=rfl
  rw[cW a cD h1 hc] at hR
  generalize List.getD a i.toNat cD=x at*
  simp only[gx,Lo] at hR
  have e:kk+(cI x:Int)=kk+1+1+(bI x.F.ae:Int):=by first|(simp only[cI];done)|(simp only[cI];omega)
  rw[e] at hR
  simp only[eN,cI] at hR ky
  simp(disch:=omega) only[wrap_i64,nv,bt]
  obtain⟨ZF,⟨hU,cL⟩⟩:=x
  simp only[aA.mk.injEq,ap.mk.injEq] at*
  repeat' (first|refine And.intro (by omega) ?_|fail)
  refine aa (fun h=>e_ (fun hh=> ?_)) (fun h=> ?_)
  ·have hh:=hR.2 hh;simp_all
  have h:ZF=kk:=by simpa using h
  subst ZF
  repeat' (first|refine And.intro (by omega) ?_|fail)
  refine aa (fun h=>e_ (fun hh=> ?_)) (fun h=> ?_)
  ·have hh:=hR.2 hh;simp_all
  have h:hU=au (kk+1):=by simpa using h
  subst hU
  repeat' (first|refine And.intro (by omega) ?_|fail)
  by_cases hm:cx cL (kk+1+1)=cL
  rotate_left
  ·simp only[if_neg hm];rw[iW (by decide)]
   exact e_ (fun hh=>hm (by have hh:=hR.2 hh;simp_all))
  simp only[if_pos hm]
  refine aa (fun h=>absurd (yT h) (by omega)) (fun h=> ?_)
  simp only[hm] at hR
  clear hm
  exact⟨⟨by omega,by omega,by omega,by simpa using hR⟩,by simp only[EK];omega⟩
 ·have hc:a.length<=i:=by have hc:=yF hc;omega
  rw[bZ a hc] at hR
  exact n9 (hR.1 rfl) (by rw[lT,eW _ _ hc];rfl)
def ani:=bB (α:=ag×Int) (qC (qA .jN) (q1 qI)) [.ro,.ro] (fun(a,left)=>[0<=left]) (fun(a,left)=>⟨[dI (dR left (dK a))],[],[]⟩)
def an6:HH:=hF ani func64 [JU,JT] a0 fun x hp hb=>by
 obtain⟨a,left⟩:=x
 have bj:=G4 (x:=a) (hb _ m0)
 have fa:=bj.1
 have dQ:=bj.2.1
 have pK:=bj.2.2.1
 have mP:=bj.2.2.2
 have cp:=iK (n:=left) (hb _ m1)
 have bD:0<=left:=hp _ m0
 clear hp hb
 apply vE (let x0:=wrap i64 (dR left (bu a.F)-(↑(a.cq.size):Int));let q0:=Li (-1) (dR left (dK a));0<=left/\bif decide (dR left (bu a.F)<0) then q0 else bif decide (x0<0) then q0 else 0<=x0/\bif decide (dR x0 (cS a.V)<0) then q0 else Li (dR x0 (cS a.V)) (dR left (dK a)))
 dsimp only
 refine⟨by omega,aa (fun h=>cR (b_ ?_)) (fun h=> ?_)⟩
 ·have h:=eh h;simp only[dK];omega
 obtain⟨e0,h0⟩:=dH h
 rw[e0]
 rw[wi]
 refine aa (fun h=>cR (b_ ?_)) (fun h=> ?_)
 ·have h:=yT h;simp only[dK];omega
 have h1:=yF h
 refine⟨by omega,aa (fun h=>cR (b_ ?_)) (fun h=> ?_)⟩
 ·have h:=eh h;simp only[dK];omega
 obtain⟨e2,h2⟩:=dH h
 rw[e2]
 exact cR (by rw[<-gQ (by simp only[dK];omega)];simp only[dK];try omega)
def am_:=bB (α:=ag) (q1 (qA .jN)) [.ro] (fun a=>[L4 (dK a)]) (fun a=>⟨[dA .aw a],[],[]⟩)
def anM:HH:=hF am_ func89 [JR,JQ] a0 fun(a:ag) hp hb=>by
 have bj:=G4 (x:=a) (hb _ m0)
 have fa:=bj.1
 have dQ:=bj.2.1
 have pK:=bj.2.2.1
 have mP:=bj.2.2.2
 have bD:dK a<=4294967296:=hp _ m0
 clear hp hb
 apply vE (bu a.F<=4294967296/\L4 (cS a.V)/\Lf [DV.agg [CS a.F.Kind,CL .bm a.F.ae,CS a.cq,CI a.State,CI a.bg,CI a.jv,CI a.V.K,CI a.V.N,CS a.V.S]] [DV.agg [CS a.F.Kind,CL .bm a.F.ae,CS a.cq,CI a.State,CI a.bg,CI a.jv,CI a.V.K,CI a.V.N,CS a.V.S]])
 simp only[dK] at bD
 repeat' (first|exact aH _|(refine And.intro (by omega) ?_))
def ae':=bB (α:=ag×ag) (qC (qA .aw) (q1 (qA .aw))) [.ro,.ro] (fun _=>[]) (fun(a,b)=>⟨[dO (decide (a=b))],[],[]⟩)
def ahB:HH:=hF ae' func114 [Ht,JN] a0 fun x hp hb=>by
 obtain⟨a,b⟩:=x
 have bj:=Ha (x:=a) (hb _ m0)
 have fa:=bj.1
 have dQ:=bj.2.1
 have pK:=bj.2.2.1
 have mP:=bj.2.2.2
 have er:=Ha (x:=b) (hb _ m1)
 have oJ:=er.1
 have mq:=er.2.1
 have KH:=er.2.2.1
 have Gv:=er.2.2.2
 clear hp hb
 apply vE (let q0:=Lb false (decide (a=b));bif !decide (a.F=b.F) then q0 else bif !a.cq.toList==b.cq.toList then q0 else bif a.State !=b.State then q0 else bif a.bg !=b.bg then q0 else bif a.jv !=b.jv then q0 else bif !decide (a.V=b.V) then q0 else Lb true (decide (a=b)))
 dsimp only
 obtain⟨aF,acu,Yp,amX,aqd,aV⟩:=a
 obtain⟨bF,ack,Yn,amH,ap',bV⟩:=b
 repeat' (apply aa<;>intro _)
 all_goals (first|apply ol|apply mV)<;>simp_all
def ael:=bB (α:=(List ag)×Int) (qC (qL .jN) (q1 qI)) [.ro,.ro] (fun(a,left)=>[0<=left]) (fun(a,left)=>⟨[dI (dR left (bz a))],[],[]⟩)
def YY(a:List ag)(left:Int):Int×Int×Unit->Prop:=Hz dK a (bz a) left
def YG(a:List ag)(left:Int):Int×Int×Unit->Nat:=tK a
def apC:AX ael:=fun(a,left)=>bh [(5,aB [iI 1,iI 5] (fun _=>YY a left) (YG a left))]
def aoE:HH:=hF ael func21 [an6] apC fun x hp hb=>by
 obtain⟨a,left⟩:=x
 have cF:L9 a.length:=eY (hb _ m0)
 have cp:=iK (n:=left) (hb _ m1)
 have bD:0<=left:=hp _ m0
 clear hp hb
 apply vE (HL dK aq a (bz a) left)
 exact l6 rfl bD cp cF
def adw:=bB (α:=List ag) (q1 (qL .jN)) [.ro] (fun a=>[L4 (bz a)]) (fun a=>⟨[dL .aw a],[],[]⟩)
def YT(a:List ag):List ag×Int×Unit->Prop:=Hy aq a
def YB(a:List ag):List ag×Int×Unit->Nat:=tK a
def apx:AX adw:=fun a=>bh [(3,aB [iO 3 .aw,iI 4] (fun _=>YT a) (YB a))]
def aov:HH:=hF adw func32 [anM] apx fun(a:List ag) hp hb=>by
 have cF:L9 a.length:=eY (hb _ m0)
 have bD:bz a<=4294967296:=hp _ m0
 clear hp hb
 apply vE (I5 dK aq a fun y=>Lf [.one (.sl .aw y)] [.one (.sl .aw a)])
 exact l5 bD (aH _)
def ads:=bB (α:=(List ag)×(List ag)) (qC (qL .aw) (q1 (qL .aw))) [.ro,.ro] (fun _=>[]) (fun(a,b)=>⟨[dO (decide (a=b))],[],[]⟩)
def YP(a:List ag)(b:List ag):Int×Unit->Prop:=GF a b
def Yx(a:List ag)(b:List ag):Int×Unit->Nat:=FX a
def apt:AX ads:=fun(a,b)=>bh [(4,aB [iI 5] (fun _=>YP a b) (Yx a b))]
def aon:HH:=hF ads func42 [ahB] apt fun x hp hb=>by
 obtain⟨a,b⟩:=x
 have cF:L9 a.length:=eY (hb _ m0)
 have tG:L9 b.length:=eY (hb _ m1)
 clear hp hb
 apply vE (HG aq a b)
 exact lx cF
def adm:=bB (α:=(List ag)×Int) (qC (qL .aw) (q1 qI)) [.wr,.ro] (fun(a,k)=>[0<=k,k+ec a<=4611686018427387904]) (fun(a,k)=>⟨[dI (k+ec a)],[],[dL .aw (f_ a k)]⟩)
def Fu(a:List ag)(k:Int):List ag×Int×Int×Unit->Prop:=fun(row,kk,i,_)=>0<=i/\i<=a.length/\row=(gx fO dk a k).take i.toNat++a.drop i.toNat/\kk=k+eI dk (a.take i.toNat)
def ER(a:List ag)(k:Int):List ag×Int×Int×Unit->Nat:=fun(row,kk,i,_)=>a.length-i.toNat
def apn:AX adm:=fun(a,k)=>bh [(2,aB [.slot 0 (2000000,0) (.own .aw true),iI 1,iI 5] (fun _=>Fu a k) (ER a k))]
def aof:HH:=hF adm func50 [pV,Om] apn fun x hp hb=>by
 obtain⟨a,k⟩:=x
 have cF:L9 a.length:=eY (hb _ m0)
 have lc:=iK (n:=k) (hb _ m1)
 have bD:0<=k:=hp _ m0
 have gb:k+ec a<=4611686018427387904:=hp _ m1
 clear hp hb
 apply vE (Fu a k (a,k,0,())/\∀(y:List ag×Int×Int×PUnit),let x4:=y.2.2.1.toNat;let x9:=y.1.modify x4 fun(x:ag)=>{F:={Kind:=au y.2.1,ae:=x.F.ae:aA},cq:=x.cq,State:=x.State,bg:=x.bg,jv:=x.jv,V:=x.V:ag};let rz:=wrap i64 (y.2.1+1);let x6:=rz+(↑(bI (x9.getD x4 aq).F.ae):Int);let x8:=x9.modify x4 fun(x:ag)=>{F:={Kind:=x.F.Kind,ae:=cx (x9.getD x4 aq).F.ae rz:aA},cq:=x.cq,State:=x.State,bg:=x.bg,jv:=x.jv,V:=x.V:ag};let O6:=wrap i64 (wrap i64 (x6+1)+1);let x7:=x8.modify x4 fun(x:ag)=>{F:=x.F,cq:=au x6,State:=x.State,bg:=x.bg,jv:=x.jv,V:=x.V:ag};let O7:=wrap i64 (O6+1);let x5:=x7.modify x4 fun(x:ag)=>{F:=x.F,cq:=x.cq,State:=wrap i64 (x6+1),bg:=x.bg,jv:=x.jv,V:=x.V:ag};let OM:=wrap i64 (O7+1);let x3:=x5.modify x4 fun(x:ag)=>{F:=x.F,cq:=x.cq,State:=x.State,bg:=O6,jv:=x.jv,V:=x.V:ag};let BX:=wrap i64 (OM+1);let x2:=x3.modify x4 fun(x:ag)=>{F:=x.F,cq:=x.cq,State:=x.State,bg:=x.bg,jv:=O7,V:=x.V:ag};let ya:=wrap i64 (BX+1);let x1:=x2.modify x4 fun(x:ag)=>{F:=x.F,cq:=x.cq,State:=x.State,bg:=x.bg,jv:=x.jv,V:={K:=OM,N:=x.V.N,S:=x.V.S:aZ}:ag};let x0:=x1.modify x4 fun(x:ag)=>{F:=x.F,cq:=x.cq,State:=x.State,bg:=x.bg,jv:=x.jv,V:={K:=x.V.K,N:=BX,S:=x.V.S:aZ}:ag};Fu a k y->bif decide (y.2.2.1<(y.1.length:Int)) then y.2.1<=4611686018427387903/\0<=y.2.2.1/\x4<y.1.length/\x4<y.1.length/\0<=y.2.2.1/\x4<x9.length/\x4<x9.length/\x4<x9.length/\0<=rz/\x6<=4611686018427387904/\x6<=4611686018427387903/\0<=y.2.2.1/\x4<x8.length/\x4<x8.length/\0<=y.2.2.1/\x4<x7.length/\x4<x7.length/\0<=y.2.2.1/\x4<x5.length/\x4<x5.length/\0<=y.2.2.1/\x4<x3.length/\x4<x3.length/\0<=y.2.2.1/\x4<x2.length/\x4<x2.length/\0<=y.2.2.1/\x4<x1.length/\x4<x1.length/\ya<=4611686018427387903/\0<=y.2.2.1/\x4<x0.length/\x4<x0.length/\Fu a k (x0.modify x4 fun(x:ag)=>{F:=x.F,cq:=x.cq,State:=x.State,bg:=x.bg,jv:=x.jv,V:={K:=x.V.K,N:=x.V.N,S:=au ya:aZ}:ag},wrap i64 (ya+1),wrap i64 (y.2.2.1+1),())/\ER a k (x0.modify x4 fun(x:ag)=>{F:=x.F,cq:=x.cq,State:=x.State,bg:=x.bg,jv:=x.jv,V:={K:=x.V.K,N:=x.V.N,S:=au ya:aZ}:ag},wrap i64 (ya+1),wrap i64 (y.2.2.1+1),())<ER a k y else fz [VI y.2.1]=fz [VI (k+(↑(ec a):Int))]/\fz [VL .aw y.1]=fz [VL .aw (f_ a k)])
 dsimp only
 refine⟨⟨by omega,by omega,by simp,by simp[eI]⟩,?_⟩
 rintro⟨row,kk,i,⟨⟩⟩ ⟨h1,h2,rfl,rfl⟩
 simp only
 have hl:=nM fO dk a k h1 h2
 refine aa ?_ ?_<;>intro hc
 ·have hc:i<a.length:=by have hc:=yT hc;omega
  have ky:=dB dk a aq h1 hc
  have hle:=cm dk a (i+1).toNat
  have hg:=fC _ a aq (mH fO dk a k h1 h2) h1 hc
  have hM:=fun F hF=>jB fO dk a aq k (i:=i) F h1 hc hF
  have hq:(ec a:Int)=eI dk a:=rfl
  generalize List.getD a i.toNat aq=x at*
  generalize lT:k+(eI dk (a.take i.toNat):Int)=kk at*
  generalize List.take i.toNat (gx fO dk a k)++a.drop i.toNat=R at*
  simp only[dk] at ky
  simp(disch:=first|omega|(simp only[sz];omega)) only[sz,wrap_i64,getD_modify,cw,hg,hl]
  repeat' (first|refine And.intro (by omega) ?_|fail)
  exact⟨⟨by omega,by omega,hM _ (by first|rfl|(simp only[fO,gI];rw[Hx (by omega)];rfl)),by omega⟩,by simp only[ER];omega⟩
 ·have hc:a.length<=i:=by have hc:=yF hc;omega
  rw[jf fO dk a k hc,eW dk a hc]
  exact⟨rfl,rfl⟩
def adg:=bB (α:=(List ag)×Int) (qC (qL .aw) (q1 qI)) [.ro,.ro] (fun(a,k)=>[0<=k,k+ec a<=4611686018427387904]) (fun(a,k)=>⟨[dI (if f_ a k=a then k+ec a else-1)],[],[]⟩)
def Fm(a:List ag)(k:Int):Int×Int×Unit->Prop:=fun(kk,i,_)=>0<=i/\i<=a.length/\kk=k+eI dk (a.take i.toNat)/\(gx fO dk (a.drop i.toNat) kk=a.drop i.toNat↔gx fO dk a k=a)
def EL(a:List ag)(k:Int):Int×Int×Unit->Nat:=fun(kk,i,_)=>a.length-i.toNat
def aph:AX adg:=fun(a,k)=>bh [(2,aB [iI 1,iI 5] (fun _=>Fm a k) (EL a k))]
def aoa:HH:=hF adg func57 [pV,Ol] aph fun x hp hb=>by
 obtain⟨a,k⟩:=x
 have cF:L9 a.length:=eY (hb _ m0)
 have lc:=iK (n:=k) (hb _ m1)
 have bD:0<=k:=hp _ m0
 have gb:k+ec a<=4611686018427387904:=hp _ m1
 clear hp hb
 apply vE (let q0:=Li (-1) (if f_ a k=a then k+(↑(ec a):Int) else(-1));Fm a k (k,0,())/\∀(y:Int×Int×PUnit),let x3:=y.2.1.toNat;let x8:=wrap i64 (y.1+1);let x1:=a.getD x3 aq;let x7:=x8+(↑(bI x1.F.ae):Int);let x0:=if cx x1.F.ae x8=x1.F.ae then x7 else(-1);let x9:=wrap i64 (wrap i64 (x0+1)+1);let x6:=wrap i64 (x9+1);let x5:=wrap i64 (x6+1);let x4:=wrap i64 (x5+1);let x2:=wrap i64 (x4+1);Fm a k y->bif decide (y.2.1<(a.length:Int)) then 0<=y.2.1/\x3<a.length/\y.1<=4611686018427387903/\bif !x1.F.Kind.toList==(au y.1).toList then q0 else 0<=y.2.1/\x3<a.length/\0<=x8/\x7<=4611686018427387904/\bif decide (x0<0) then q0 else 0<=y.2.1/\x3<a.length/\x0<=4611686018427387903/\bif !x1.cq.toList==(au x0).toList then q0 else 0<=y.2.1/\x3<a.length/\bif x1.State !=wrap i64 (x0+1) then q0 else 0<=y.2.1/\x3<a.length/\bif x1.bg !=x9 then q0 else 0<=y.2.1/\x3<a.length/\bif x1.jv !=x6 then q0 else 0<=y.2.1/\x3<a.length/\bif x1.V.K !=x5 then q0 else 0<=y.2.1/\x3<a.length/\bif x1.V.N !=x4 then q0 else 0<=y.2.1/\x3<a.length/\x2<=4611686018427387903/\bif !x1.V.S.toList==(au x2).toList then q0 else Fm a k (wrap i64 (x2+1),wrap i64 (y.2.1+1),())/\EL a k (wrap i64 (x2+1),wrap i64 (y.2.1+1),())<EL a k y else Li y.1 (if f_ a k=a then k+(↑(ec a):Int) else(-1)))
 dsimp only
 refine⟨⟨by omega,by omega,by simp[eI],by simp⟩,?_⟩
 rintro⟨kk,i,⟨⟩⟩ ⟨h1,h2,lT,hR⟩
 simp only
 simp only[f_]
 refine aa ?_ ?_<;>intro hc
 ·have hc:i<a.length:=by have hc:=yT hc;omega
  have ky:=dB dk a aq h1 hc
  have hle:=cm dk a (i+1).toNat
  have hq:(ec a:Int)=eI dk a:=rfl
  rw[cW a aq h1 hc] at hR
  generalize List.getD a i.toNat aq=x at*
  simp only[gx,Lo] at hR
  have e:kk+(dk x:Int)=kk+1+(bI x.F.ae:Int)+1+1+1+1+1+1+1:=by first|(simp only[dk];done)|(simp only[dk];omega)
  rw[e] at hR
  simp only[fO,dk] at hR ky
  simp(disch:=omega) only[wrap_i64,nv,bt]
  obtain⟨⟨hU,cL⟩,Lt,I0,IZ,RY,⟨FL,FJ,FI⟩⟩:=x
  simp only[aA.mk.injEq,ag.mk.injEq,aZ.mk.injEq] at*
  repeat' (first|refine And.intro (by omega) ?_|fail)
  refine aa (fun h=>e_ (fun hh=> ?_)) (fun h=> ?_)
  ·have hh:=hR.2 hh;simp_all
  have h:hU=au (kk):=by simpa using h
  subst hU
  repeat' (first|refine And.intro (by omega) ?_|fail)
  by_cases hm:cx cL (kk+1)=cL
  rotate_left
  ·simp only[if_neg hm];rw[iW (by decide)]
   exact e_ (fun hh=>hm (by have hh:=hR.2 hh;simp_all))
  simp only[if_pos hm]
  refine aa (fun h=>absurd (yT h) (by omega)) (fun h=> ?_)
  simp only[hm] at hR
  clear hm
  repeat' (first|refine And.intro (by omega) ?_|fail)
  refine aa (fun h=>e_ (fun hh=> ?_)) (fun h=> ?_)
  ·have hh:=hR.2 hh;simp_all
  have h:Lt=au (kk+1+bI cL):=by simpa using h
  subst Lt
  repeat' (first|refine And.intro (by omega) ?_|fail)
  refine aa (fun h=>e_ (fun hh=> ?_)) (fun h=> ?_)
  ·have hh:=hR.2 hh;simp_all
  have h:I0=kk+1+bI cL+1:=by simpa using h
  subst I0
  repeat' (first|refine And.intro (by omega) ?_|fail)
  refine aa (fun h=>e_ (fun hh=> ?_)) (fun h=> ?_)
  ·have hh:=hR.2 hh;simp_all
  have h:IZ=kk+1+bI cL+1+1:=by simpa using h
  subst IZ
  repeat' (first|refine And.intro (by omega) ?_|fail)
  refine aa (fun h=>e_ (fun hh=> ?_)) (fun h=> ?_)
  ·have hh:=hR.2 hh;simp_all
  have h:RY=kk+1+bI cL+1+1+1:=by simpa using h
  subst RY
  repeat' (first|refine And.intro (by omega) ?_|fail)
  refine aa (fun h=>e_ (fun hh=> ?_)) (fun h=> ?_)
  ·have hh:=hR.2 hh;simp_all
  have h:FL=kk+1+bI cL+1+1+1+1:=by simpa using h
  subst FL
  repeat' (first|refine And.intro (by omega) ?_|fail)
  refine aa (fun h=>e_ (fun hh=> ?_)) (fun h=> ?_)
  ·have hh:=hR.2 hh;simp_all
  have h:FJ=kk+1+bI cL+1+1+1+1+1:=by simpa using h
  subst FJ
  repeat' (first|refine And.intro (by omega) ?_|fail)
  refine aa (fun h=>e_ (fun hh=> ?_)) (fun h=> ?_)
  ·have hh:=hR.2 hh;simp_all
  have h:FI=au (kk+1+bI cL+1+1+1+1+1+1):=by simpa using h
  subst FI
  exact⟨⟨by omega,by omega,by omega,by simpa using hR⟩,by simp only[EL];omega⟩
 ·have hc:a.length<=i:=by have hc:=yF hc;omega
  rw[bZ a hc] at hR
  exact n9 (hR.1 rfl) (by rw[lT,eW _ _ hc];rfl)
def ang:=bB (α:=aQ×Int) (qC (qA .jM) (q1 qI)) [.ro,.ro] (fun(a,left)=>[0<=left]) (fun(a,left)=>⟨[dI (dR left (dc a))],[],[]⟩)
def an4:HH:=hF ang func66 [JU] a0 fun x hp hb=>by
 obtain⟨a,left⟩:=x
 have bj:=G3 (x:=a) (hb _ m0)
 have Bh:=bj.1
 have fa:=bj.2.1
 have dQ:=bj.2.2
 have cp:=iK (n:=left) (hb _ m1)
 have bD:0<=left:=hp _ m0
 clear hp hb
 apply vE (let x0:=wrap i64 (left-(↑(a.Key.size):Int));let q0:=dR left (dc a);bif decide (x0<0) then Li (-1) q0 else 0<=x0/\bif decide (dR x0 (bu a.F)<0) then Li (-1) q0 else Li (dR x0 (bu a.F)) q0)
 dsimp only
 rw[wi]
 refine aa (fun h=>cR (b_ ?_)) (fun h=> ?_)
 ·have h:=yT h;simp only[dc];omega
 have h0:=yF h
 refine⟨by omega,aa (fun h=>cR (b_ ?_)) (fun h=> ?_)⟩
 ·have h:=eh h;simp only[dc];omega
 obtain⟨e1,h1⟩:=dH h
 rw[e1]
 exact cR (by rw[<-gQ (by simp only[dc];omega)];simp only[dc];try omega)
def am9:=bB (α:=aQ) (q1 (qA .jM)) [.ro] (fun a=>[L4 (dc a)]) (fun a=>⟨[dA .aW a],[],[]⟩)
def anK:HH:=hF am9 func91 [JR] a0 fun(a:aQ) hp hb=>by
 have bj:=G3 (x:=a) (hb _ m0)
 have Bh:=bj.1
 have fa:=bj.2.1
 have dQ:=bj.2.2
 have bD:dc a<=4294967296:=hp _ m0
 clear hp hb
 apply vE (bu a.F<=4294967296/\Lf [DV.agg [CS a.Key,CS a.F.Kind,CL .bm a.F.ae]] [DV.agg [CS a.Key,CS a.F.Kind,CL .bm a.F.ae]])
 simp only[dc] at bD
 repeat' (first|exact aH _|(refine And.intro (by omega) ?_))
def ae8:=bB (α:=aQ×aQ) (qC (qA .aW) (q1 (qA .aW))) [.ro,.ro] (fun _=>[]) (fun(a,b)=>⟨[dO (decide (a=b))],[],[]⟩)
def ahz:HH:=hF ae8 func116 [Ht] a0 fun x hp hb=>by
 obtain⟨a,b⟩:=x
 have bj:=G_ (x:=a) (hb _ m0)
 have Bh:=bj.1
 have fa:=bj.2.1
 have dQ:=bj.2.2
 have er:=G_ (x:=b) (hb _ m1)
 have Nd:=er.1
 have oJ:=er.2.1
 have mq:=er.2.2
 clear hp hb
 apply vE (bif !a.Key.toList==b.Key.toList then Lb false (decide (a=b)) else bif !decide (a.F=b.F) then Lb false (decide (a=b)) else Lb true (decide (a=b)))
 obtain⟨am0,aF⟩:=a
 obtain⟨amK,bF⟩:=b
 repeat' (apply aa<;>intro _)
 all_goals (first|apply ol|apply mV)<;>simp_all
def ad_:=bB (α:=(List aQ)×Int) (qC (qL .jM) (q1 qI)) [.ro,.ro] (fun(a,left)=>[0<=left]) (fun(a,left)=>⟨[dI (dR left (bx a))],[],[]⟩)
def YW(a:List aQ)(left:Int):Int×Int×Unit->Prop:=Hz dc a (bx a) left
def YE(a:List aQ)(left:Int):Int×Int×Unit->Nat:=tK a
def apA:AX ad_:=fun(a,left)=>bh [(5,aB [iI 1,iI 5] (fun _=>YW a left) (YE a left))]
def aoC:HH:=hF ad_ func23 [an4] apA fun x hp hb=>by
 obtain⟨a,left⟩:=x
 have cF:L9 a.length:=eY (hb _ m0)
 have cp:=iK (n:=left) (hb _ m1)
 have bD:0<=left:=hp _ m0
 clear hp hb
 apply vE (HL dc bX a (bx a) left)
 exact l6 rfl bD cp cF
def adu:=bB (α:=List aQ) (q1 (qL .jM)) [.ro] (fun a=>[L4 (bx a)]) (fun a=>⟨[dL .aW a],[],[]⟩)
def YR(a:List aQ):List aQ×Int×Unit->Prop:=Hy bX a
def Yz(a:List aQ):List aQ×Int×Unit->Nat:=tK a
def apv:AX adu:=fun a=>bh [(3,aB [iO 3 .aW,iI 4] (fun _=>YR a) (Yz a))]
def aot:HH:=hF adu func34 [anK] apv fun(a:List aQ) hp hb=>by
 have cF:L9 a.length:=eY (hb _ m0)
 have bD:bx a<=4294967296:=hp _ m0
 clear hp hb
 apply vE (I5 dc bX a fun y=>Lf [.one (.sl .aW y)] [.one (.sl .aW a)])
 exact l5 bD (aH _)
def adq:=bB (α:=(List aQ)×(List aQ)) (qC (qL .aW) (q1 (qL .aW))) [.ro,.ro] (fun _=>[]) (fun(a,b)=>⟨[dO (decide (a=b))],[],[]⟩)
def YN(a:List aQ)(b:List aQ):Int×Unit->Prop:=GF a b
def Yv(a:List aQ)(b:List aQ):Int×Unit->Nat:=FX a
def apr:AX adq:=fun(a,b)=>bh [(4,aB [iI 5] (fun _=>YN a b) (Yv a b))]
def aol:HH:=hF adq func44 [ahz] apr fun x hp hb=>by
 obtain⟨a,b⟩:=x
 have cF:L9 a.length:=eY (hb _ m0)
 have tG:L9 b.length:=eY (hb _ m1)
 clear hp hb
 apply vE (HG bX a b)
 exact lx cF
def adk:=bB (α:=(List aQ)×Int) (qC (qL .aW) (q1 qI)) [.wr,.ro] (fun(a,k)=>[0<=k,k+fi a<=4611686018427387904]) (fun(a,k)=>⟨[dI (k+fi a)],[],[dL .aW (gC a k)]⟩)
def Fs(a:List aQ)(k:Int):List aQ×Int×Int×Unit->Prop:=fun(row,kk,i,_)=>0<=i/\i<=a.length/\row=(gx fN dj a k).take i.toNat++a.drop i.toNat/\kk=k+eI dj (a.take i.toNat)
def EP(a:List aQ)(k:Int):List aQ×Int×Int×Unit->Nat:=fun(row,kk,i,_)=>a.length-i.toNat
def apl:AX adk:=fun(a,k)=>bh [(2,aB [.slot 0 (2000000,0) (.own .aW true),iI 1,iI 5] (fun _=>Fs a k) (EP a k))]
def aod:HH:=hF adk func52 [pV,Om] apl fun x hp hb=>by
 obtain⟨a,k⟩:=x
 have cF:L9 a.length:=eY (hb _ m0)
 have lc:=iK (n:=k) (hb _ m1)
 have bD:0<=k:=hp _ m0
 have gb:k+fi a<=4611686018427387904:=hp _ m1
 clear hp hb
 apply vE (Fs a k (a,k,0,())/\∀(y:List aQ×Int×Int×PUnit),let x1:=y.2.2.1.toNat;let x3:=wrap i64 (y.2.1+1);let x4:=y.1.modify x1 fun(x:aQ)=>{Key:=au y.2.1,F:=x.F:aQ};let x0:=x4.modify x1 fun(x:aQ)=>{Key:=x.Key,F:={Kind:=au x3,ae:=x.F.ae:aA}:aQ};let x2:=wrap i64 (x3+1);let x5:=x2+(↑(bI (x0.getD x1 bX).F.ae):Int);Fs a k y->bif decide (y.2.2.1<(y.1.length:Int)) then y.2.1<=4611686018427387903/\0<=y.2.2.1/\x1<y.1.length/\x1<y.1.length/\x3<=4611686018427387903/\0<=y.2.2.1/\x1<x4.length/\x1<x4.length/\0<=y.2.2.1/\x1<x0.length/\x1<x0.length/\x1<x0.length/\0<=x2/\x5<=4611686018427387904/\Fs a k (x0.modify x1 fun(x:aQ)=>{Key:=x.Key,F:={Kind:=x.F.Kind,ae:=cx (x0.getD x1 bX).F.ae x2:aA}:aQ},x5,wrap i64 (y.2.2.1+1),())/\EP a k (x0.modify x1 fun(x:aQ)=>{Key:=x.Key,F:={Kind:=x.F.Kind,ae:=cx (x0.getD x1 bX).F.ae x2:aA}:aQ},x5,wrap i64 (y.2.2.1+1),())<EP a k y else fz [VI y.2.1]=fz [VI (k+(↑(fi a):Int))]/\fz [VL .aW y.1]=fz [VL .aW (gC a k)])
 dsimp only
 refine⟨⟨by omega,by omega,by simp,by simp[eI]⟩,?_⟩
 rintro⟨row,kk,i,⟨⟩⟩ ⟨h1,h2,rfl,rfl⟩
 simp only
 have hl:=nM fN dj a k h1 h2
 refine aa ?_ ?_<;>intro hc
 ·have hc:i<a.length:=by have hc:=yT hc;omega
  have ky:=dB dj a bX h1 hc
  have hle:=cm dj a (i+1).toNat
  have hg:=fC _ a bX (mH fN dj a k h1 h2) h1 hc
  have hM:=fun F hF=>jB fN dj a bX k (i:=i) F h1 hc hF
  have hq:(fi a:Int)=eI dj a:=rfl
  generalize List.getD a i.toNat bX=x at*
  generalize lT:k+(eI dj (a.take i.toNat):Int)=kk at*
  generalize List.take i.toNat (gx fN dj a k)++a.drop i.toNat=R at*
  simp only[dj] at ky
  simp(disch:=first|omega|(simp only[sz];omega)) only[sz,wrap_i64,getD_modify,cw,hg,hl]
  repeat' (first|refine And.intro (by omega) ?_|fail)
  exact⟨⟨by omega,by omega,hM _ (by first|rfl|(simp only[fN,gI];rw[Hx (by omega)];rfl)),by omega⟩,by simp only[EP];omega⟩
 ·have hc:a.length<=i:=by have hc:=yF hc;omega
  rw[jf fN dj a k hc,eW dj a hc]
  exact⟨rfl,rfl⟩
def ade:=bB (α:=(List aQ)×Int) (qC (qL .aW) (q1 qI)) [.ro,.ro] (fun(a,k)=>[0<=k,k+fi a<=4611686018427387904]) (fun(a,k)=>⟨[dI (if gC a k=a then k+fi a else-1)],[],[]⟩)
def Fk(a:List aQ)(k:Int):Int×Int×Unit->Prop:=fun(kk,i,_)=>0<=i/\i<=a.length/\kk=k+eI dj (a.take i.toNat)/\(gx fN dj (a.drop i.toNat) kk=a.drop i.toNat↔gx fN dj a k=a)
def EJ(a:List aQ)(k:Int):Int×Int×Unit->Nat:=fun(kk,i,_)=>a.length-i.toNat
def apf:AX ade:=fun(a,k)=>bh [(2,aB [iI 1,iI 5] (fun _=>Fk a k) (EJ a k))]
def an':HH:=hF ade func59 [pV,Ol] apf fun x hp hb=>by
 obtain⟨a,k⟩:=x
 have cF:L9 a.length:=eY (hb _ m0)
 have lc:=iK (n:=k) (hb _ m1)
 have bD:0<=k:=hp _ m0
 have gb:k+fi a<=4611686018427387904:=hp _ m1
 clear hp hb
 apply vE (let q0:=if gC a k=a then k+(↑(fi a):Int) else(-1);Fk a k (k,0,())/\∀(y:Int×Int×PUnit),let x4:=y.2.1.toNat;let x6:=wrap i64 (y.1+1);let x3:=a.getD x4 bX;let x5:=wrap i64 (x6+1);let x2:=x3.F;let x1:=x2.ae;let x0:=if cx x1 x5=x1 then x5+(↑(bI x1):Int) else(-1);Fk a k y->bif decide (y.2.1<(a.length:Int)) then 0<=y.2.1/\x4<a.length/\y.1<=4611686018427387903/\bif !x3.Key.toList==(au y.1).toList then Li (-1) q0 else 0<=y.2.1/\x4<a.length/\x6<=4611686018427387903/\bif !x2.Kind.toList==(au x6).toList then Li (-1) q0 else 0<=y.2.1/\x4<a.length/\0<=x5/\x5+(↑(bI x1):Int)<=4611686018427387904/\bif decide (x0<0) then Li (-1) q0 else Fk a k (x0,wrap i64 (y.2.1+1),())/\EJ a k (x0,wrap i64 (y.2.1+1),())<EJ a k y else Li y.1 q0)
 dsimp only
 refine⟨⟨by omega,by omega,by simp[eI],by simp⟩,?_⟩
 rintro⟨kk,i,⟨⟩⟩ ⟨h1,h2,lT,hR⟩
 simp only
 simp only[gC]
 refine aa ?_ ?_<;>intro hc
 ·have hc:i<a.length:=by have hc:=yT hc;omega
  have ky:=dB dj a bX h1 hc
  have hle:=cm dj a (i+1).toNat
  have hq:(fi a:Int)=eI dj a:=rfl
  rw[cW a bX h1 hc] at hR
  generalize List.getD a i.toNat bX=x at*
  simp only[gx,Lo] at hR
  have e:kk+(dj x:Int)=kk+1+1+(bI x.F.ae:Int):=by first|(simp only[dj];done)|(simp only[dj];omega)
  rw[e] at hR
  simp only[fN,dj] at hR ky
  simp(disch:=omega) only[wrap_i64,nv,bt]
  obtain⟨FM,⟨hU,cL⟩⟩:=x
  simp only[aA.mk.injEq,aQ.mk.injEq] at*
  repeat' (first|refine And.intro (by omega) ?_|fail)
  refine aa (fun h=>e_ (fun hh=> ?_)) (fun h=> ?_)
  ·have hh:=hR.2 hh;simp_all
  have h:FM=au (kk):=by simpa using h
  subst FM
  repeat' (first|refine And.intro (by omega) ?_|fail)
  refine aa (fun h=>e_ (fun hh=> ?_)) (fun h=> ?_)
  ·have hh:=hR.2 hh;simp_all
  have h:hU=au (kk+1):=by simpa using h
  subst hU
  repeat' (first|refine And.intro (by omega) ?_|fail)
  by_cases hm:cx cL (kk+1+1)=cL
  rotate_left
  ·simp only[if_neg hm];rw[iW (by decide)]
   exact e_ (fun hh=>hm (by have hh:=hR.2 hh;simp_all))
  simp only[if_pos hm]
  refine aa (fun h=>absurd (yT h) (by omega)) (fun h=> ?_)
  simp only[hm] at hR
  clear hm
  exact⟨⟨by omega,by omega,by omega,by simpa using hR⟩,by simp only[EJ];omega⟩
 ·have hc:a.length<=i:=by have hc:=yF hc;omega
  rw[bZ a hc] at hR
  exact n9 (hR.1 rfl) (by rw[lT,eW _ _ hc];rfl)
def allI(n:Nat)(p:Nat->Bool):Bool:=(List.range n).all p
theorem hJ{n:Nat}{p:Nat->Bool}(h:∀j,j<n->p j=true):allI n p=true:=by simpa[allI] using h
theorem gv{n:Nat}{p:Nat->Bool}{j:Nat}(h:j<n)(hj:p j=false):allI n p=false:=by
 simp only[allI,List.all_eq_false,oc]
 exact⟨j,h,by simp[hj]⟩
theorem fo{i:Int}{p:Nat->Bool}(h0:0<=i)(h:∀j:Nat,(j:Int)<i->p j=true)(hi:p i.toNat=true):∀j:Nat,(j:Int)<i+1->p j=true:=by
 intro j hj
 by_cases Sx:(j:Int)<i
 ·exact h j Sx
 ·have:j=i.toNat:=by omega
  subst this;exact hi
def iD(x:ap):Bool:=decide (0<=x.At/\x.At<=1000000000)&&cg x.F
def jb(l:List ap)(i:Nat):Bool:=iD (l.getD i cD)&&(decide (i=0)||decide ((l.getD (i-1) cD).At<=(l.getD i cD).At))
def dx(l:List ap):Bool:=decide (l.length<=30)&&allI l.length (jb l)
def afg:=bB (α:=Int) (q1 qI) [.ro] (fun _=>[]) (fun n=>⟨[dO (decide (0<=n/\n<=1000000000))],[],[]⟩)
def JV:HH:=hF afg func102 [xo] a0 fun(n:Int) hp hb=>by
 clear hp hb
 apply vE (let q0:=decide (0<=n/\n<=1000000000);Lb q0 q0)
 dsimp only
 exact aH _
def aeE:=bB (α:=ap) (q1 (qA .ax)) [.ro] (fun _=>[]) (fun x=>⟨[dO (iD x)],[],[]⟩)
def agY:HH:=hF aeE func171 [JV,Dn] a0 fun(x:ap) hp hb=>by
 clear hp hb
 apply vE (bif decide (0<=x.At/\x.At<=1000000000) then Lb (cg x.F) (iD x) else Lb false (iD x))
 simp only[iD]
 refine aa (fun h=>cK ?_) (fun h=>cK ?_)<;>grind
def aeX:=bB (α:=ap) (q1 (qA .ax)) [.ro] (fun _=>[]) (fun x=>⟨[dO (iD x)],[],[]⟩)
def ahf:HH:=hF aeX func143 [rG,Hs] a0 fun(x:ap) hp hb=>by
 clear hp hb
 apply vE (bif decide (0<=x.At/\x.At<=1000000000) then Lb (cg x.F) (iD x) else Lb false (iD x))
 simp only[iD]
 refine aa (fun h=>cK ?_) (fun h=>cK ?_)<;>grind
def Up:=bB (α:=List ap) (q1 (qL .ax)) [.ro] (fun _=>[]) (fun l=>⟨[dO (dx l)],[],[]⟩)
def Ar(l:List ap):Int×Unit->Prop:=fun(i,_)=>0<=i/\i<=l.length/\l.length<=30/\∀j:Nat,(j:Int)<i->jb l j=true
def zy(l:List ap):Int×Unit->Nat:=fun(i,_)=>l.length-i.toNat
def ai_:AX Up:=fun l=>bh [(4,aB [iI 10] (fun _=>Ar l) (zy l))]
def ahN:HH:=hF Up func100 [agY] ai_ fun(l:List ap) hp hb=>by
 clear hp hb
 apply vE (let x0:=(l.length:Int);let q0:=Lb false (dx l);bif decide (x0>30) then q0 else Ar l (0,())/\∀(y:Int×PUnit),let x2:=Int.toNat (wrap i64 (y.1-1));let x1:=(l.getD x2 cD).At;let q1:=(wrap i64 (y.1+1),());let q2:=Ar l q1/\zy l q1<zy l y;Ar l y->bif decide (y.1<x0) then 0<=y.1/\y.1.toNat<l.length/\bif !iD (l.getD y.1.toNat cD) then q0 else bif decide (y.1>0) then 0<=wrap i64 (y.1-1)/\x2<l.length/\bif decide (x1>(l.getD y.1.toNat cD).At) then q0 else q2 else q2 else Lb true (dx l))
 dsimp only
 refine aa (fun h=>bG ?_) (fun h=>⟨⟨by omega,by omega,by have h:=yF h;omega,by intro j hj;omega⟩,?_⟩)
 ·have h:=yT h;simp only[dx];rw[decide_eq_false (by omega)];rfl
 rintro⟨i,⟨⟩⟩ ⟨h1,h2,h3,hR⟩
 simp only
 refine aa ?_ ?_<;>intro hc
 ·have hc:=yT hc
  have hN:jb l i.toNat=false->dx l=false:=fun h=>by
   have hf:allI l.length (jb l)=false:=gv (j:=i.toNat) (by omega) h
   simp only[dx,hf];simp
  simp(disch:=omega) only[wrap_i64]
  have e1:(i-1).toNat=i.toNat-1:=by omega
  simp only[e1]
  refine⟨by omega,by omega,aa (fun h=>bG (hN ?_)) (fun h=>aa (fun h'=>⟨by have:=yT h';omega,by have:=yT h';omega,aa (fun xN=>bG (hN ?_)) (fun xN=>⟨⟨by omega,by omega,h3,fo h1 hR ?_⟩,?_⟩)⟩) (fun h'=>⟨⟨by omega,by omega,h3,fo h1 hR ?_⟩,?_⟩))⟩
  all_goals (first|(simp only[zy];omega)|(simp only[jb];grind))
 ·have hc:=yF hc
  have hA:allI l.length (jb l)=true:=hJ fun j hj=>hR j (by omega)
  refine cK ?_
  simp only[dx,hA];grind
def ac3:=bB (α:=List ap) (q1 (qL .ax)) [.ro] (fun _=>[]) (fun l=>⟨[dO (dx l)],[],[]⟩)
def E9(l:List ap):Int×Unit->Prop:=fun(i,_)=>0<=i/\i<=l.length/\∀j:Nat,(j:Int)<i->jb l j=true
def Ez(l:List ap):Int×Unit->Nat:=fun(i,_)=>l.length-i.toNat
def ao6:AX ac3:=fun l=>bh [(2,aB [iI 3] (fun _=>E9 l) (Ez l))]
def anY:HH:=hF ac3 func75 [ahf] ao6 fun(l:List ap) hp hb=>by
 have la:L9 l.length:=eY (hb _ m0)
 clear hp hb
 apply vE (let x0:=(l.length:Int);E9 l (0,())/\∀(y:Int×PUnit),let x2:=Int.toNat (wrap i64 (y.1-1));let x1:=(l.getD x2 cD).At;let q0:=(wrap i64 (y.1+1),());let q1:=E9 l q0/\Ez l q0<Ez l y;E9 l y->bif decide (y.1<x0) then 0<=y.1/\y.1.toNat<l.length/\bif !iD (l.getD y.1.toNat cD) then Lb false (dx l) else bif decide (y.1>0) then 0<=wrap i64 (y.1-1)/\x2<l.length/\0<=y.1/\y.1.toNat<l.length/\bif decide (x1>(l.getD y.1.toNat cD).At) then Lb false (dx l) else q1 else q1 else Lb (decide (x0<=30)) (dx l))
 dsimp only
 refine⟨⟨by omega,by omega,by intro j hj;omega⟩,?_⟩
 rintro⟨i,⟨⟩⟩ ⟨h1,h2,hR⟩
 simp only
 refine aa ?_ ?_<;>intro hc
 ·have hc:=yT hc
  have hN:jb l i.toNat=false->dx l=false:=fun h=>by
   have hf:allI l.length (jb l)=false:=gv (j:=i.toNat) (by omega) h
   simp only[dx,hf];simp
  simp(disch:=omega) only[wrap_i64]
  have e1:(i-1).toNat=i.toNat-1:=by omega
  simp only[e1]
  refine⟨by omega,by omega,aa (fun h=>bG (hN ?_)) (fun h=>aa (fun h'=>⟨by have:=yT h';omega,by have:=yT h';omega,by omega,by omega,aa (fun xN=>bG (hN ?_)) (fun xN=>⟨⟨by omega,by omega,fo h1 hR ?_⟩,?_⟩)⟩) (fun h'=>⟨⟨by omega,by omega,fo h1 hR ?_⟩,?_⟩))⟩
  all_goals (first|(simp only[Ez];omega)|(simp only[jb];grind))
 ·have hc:=yF hc
  have hA:allI l.length (jb l)=true:=hJ fun j hj=>hR j (by omega)
  refine cK ?_
  simp only[dx,hA];grind
def ji(n:Nat)(p:Nat->Bool):Int:=match(List.range n).find? p with|some i=>i|none=> -1
def anyI(n:Nat)(p:Nat->Bool):Bool:=(List.range n).any p
theorem gp{n i:Nat}{p:Nat->Bool}(h:i<n)(hp:p i=true)(hj:∀j,j<i->p j=false):ji n p=i:=by
 have:(List.range n).find? p=some i:=by
  rw[List.find?_range_eq_some]
  exact⟨hp,oc.2 h,fun j tH=>by simp[hj j tH]⟩
 simp[ji,this]
theorem iT{n:Nat}{p:Nat->Bool}(hj:∀j,j<n->p j=false):ji n p= -1:=by
 have:(List.range n).find? p=none:=by
  rw[Zy]
  intro j tH
  simp[hj j (oc.1 tH)]
 simp[ji,this]
theorem jh(n:Nat)(p:Nat->Bool):(ji n p= -1/\∀j,j<n->p j=false)\/∃i,i<n/\ji n p=(i:Int)/\p i=true/\∀j,j<i->p j=false:=by
 cases h:(List.range n).find? p with
 |none=>
  refine .inl ⟨by simp[ji,h],fun j hj=> ?_⟩
  have:=Zy.1 h j (oc.2 hj)
  simpa using this
 |some i=>
  rw[List.find?_range_eq_some] at h
  obtain⟨h1,h2,h3⟩:=h
  exact .inr ⟨i,oc.1 h2,gp (oc.1 h2) h1 (fun j hj=>by simpa using h3 j hj),h1,fun j hj=>by simpa using h3 j hj⟩
theorem uh{n:Nat}{p q:Nat->Bool}(h:∀j,j<n->p j=q j):ji n p=ji n q:=by
 rcases jh n q with⟨h1,h2⟩|⟨i,h1,h2,h3,h4⟩
 ·rw[h1,iT (fun j hj=>by rw[h j hj,h2 j hj])]
 ·rw[h2,gp h1 (by rw[h i h1,h3]) (fun j hj=>by rw[h j (by omega),h4 j hj])]
theorem ju{n j:Nat}{p:Nat->Bool}(h:j<n)(hp:p j=true):anyI n p=true:=by
 simp only[anyI,sA,oc]
 exact⟨j,h,hp⟩
theorem gr{n:Nat}{p:Nat->Bool}(h:∀j,j<n->p j=false):anyI n p=false:=by
 simp only[anyI,List.any_eq_false,oc]
 exact fun j hj=>by simp[h j hj]
theorem vR{n:Nat}{p:Nat->Bool}:anyI n p=true↔∃j,j<n/\p j=true:=by
 simp only[anyI,sA,oc]
theorem mT{n:Nat}{p:Nat->Bool}:anyI n p=false↔∀j,j<n->p j=false:=by
 simp only[anyI,List.any_eq_false,oc,uK]
theorem Hl{n:Nat}{p:Nat->Bool}:allI n p=true↔∀j,j<n->p j=true:=by
 simp only[allI,As,oc]
theorem qJ{n:Nat}{p q:Nat->Bool}(h:∀j,j<n->p j=q j):anyI n p=anyI n q:=by
 rw[FG,vR,vR]
 exact⟨fun⟨j,h1,h2⟩=>⟨j,h1,by rw[<-h j h1];exact h2⟩,fun⟨j,h1,h2⟩=>⟨j,h1,by rw[h j h1];exact h2⟩⟩
theorem yw{n:Nat}{p:Nat->Bool}:decide (0<=ji n p)=anyI n p:=by
 rcases jh n p with⟨h1,h2⟩|⟨i,h1,h2,h3,h4⟩
 ·rw[h1,gr h2];rfl
 ·rw[h2,ju h1 h3];simp
theorem getD_take{α:Type}(l:List α)(z:α){i j:Nat}(h:j<i):(l.take i).getD j z=l.getD j z:=by
 rw[fY,fY,nF,if_pos h]
theorem pT{k:jH UU}{n0:List (DV UU)}{ds:List (DA UU)}{x:k.α}{v:Value}(h:k.of (ds.map DA.dv++n0)=some x)(hv:(k.mE x).val=[.one (.lit v)])(hm:(k.mE x).Gg=[])
  (hl:k.md.length=ds.length+n0.length) (hp:∀p∈k.pre x,p):eQ k n0 ds=some v:=by
 unfold eQ
 simp only[h,hv,hm]
 rw[if_pos ⟨hl,hp⟩]
theorem sC(a b:aZ):(a.K==b.K&&(a.N==b.N&&(a.S.toList==b.S.toList&&true)))=decide (a=b):=by
 obtain⟨K,N,S⟩:=a
 obtain⟨K',N',S'⟩:=b
 simp only[bt,Lc]
 rw[FG]
 simp only[eE,beq_iff_eq,decide_eq_true_eq,aZ.mk.injEq]
theorem ja{i:Int}{p:Nat->Bool}(h0:0<=i)(h:∀j:Nat,(j:Int)<i->p j=false)(hi:p i.toNat=false):∀j:Nat,(j:Int)<i+1->p j=false:=by
 intro j hj
 by_cases Sx:(j:Int)<i
 ·exact h j Sx
 ·have:j=i.toNat:=by omega
  subst this;exact hi
def gq(x:aQ):DA UU:=⟨true,[.lit (.string x.Key),.lit (.string x.F.Kind),.sl .bm x.F.ae]⟩
def jI(l:List aQ)(i:Nat):Bool:=decide (1<=(l.getD i bX).Key.size/\(l.getD i bX).Key.size<=200)&&cg (l.getD i bX).F&& !(anyI i fun k=>decide ((l.getD k bX).Key=(l.getD i bX).Key))
def eV(l:List aQ):Bool:=decide (l.length<=30)&&allI l.length (jI l)
def D_(l:List aQ)(key:BA):Bool:=anyI l.length fun k=>decide ((l.getD k bX).Key=key)
def S0:=bB (α:=(List aQ)×(List (DA UU)->Option Value)) (qC (qL .aW) (q1 qF)) [.ro,.ro] (fun(l,p)=>[∀j:Nat,j<l.length->p [gq (l.getD j bX)]=some (.bool (bw (p [gq (l.getD j bX)])))]) (fun(l,p)=>⟨[dI (ji l.length (fun j=>bw (p [gq (l.getD j bX)])))],[],[]⟩)
def zC(l:List aQ)(p:(List (DA UU)->Option Value)):Int×Unit->Prop:=fun(i,_)=>0<=i/\i<=l.length/\∀j:Nat,(j:Int)<i->bw (p [gq (l.getD j bX)])=false
def yN(l:List aQ)(p:(List (DA UU)->Option Value)):Int×Unit->Nat:=fun(i,_)=>l.length-i.toNat
def ahV:AX S0:=fun(l,p)=>bh [(2,aB [iI 8] (fun _=>zC l p) (yN l p))]
def afJ:HH:=hF S0 func272 [] ahV fun x hp hb=>by
 obtain⟨l,p⟩:=x
 have la:L9 l.length:=eY (hb _ m0)
 have bD:∀j:Nat,j<l.length->p [gq (l.getD j bX)]=some (.bool (bw (p [gq (l.getD j bX)]))):=hp _ m0
 clear hp hb
 apply vE (zC l p (0,())/\∀(y:Int×PUnit),let x0:=bw (p [{agg:=true,cs:=[CS ((l.getD y.1.toNat bX).Key),CS ((l.getD y.1.toNat bX).F.Kind),CL .bm (l.getD y.1.toNat bX).F.ae]:DA UU}]);let q0:=l.getD y.1.toNat bX;let q1:=(wrap i64 (y.1+1),());zC l p y->bif decide (y.1<(l.length:Int)) then 0<=y.1/\y.1.toNat<l.length/\p [{agg:=true,cs:=[CS (q0.Key),CS (q0.F.Kind),CL .bm q0.F.ae]:DA UU}]=some (Value.bool x0)/\bif x0 then Li y.1 (ji (l.length) fun(j:Nat)=>bw (p [gq (l.getD j bX)])) else zC l p q1/\yN l p q1<yN l p y else Li (-1) (ji (l.length) fun(j:Nat)=>bw (p [gq (l.getD j bX)])))
 dsimp only
 refine⟨⟨by omega,by omega,by intro j hj;omega⟩,?_⟩
 rintro⟨i,⟨⟩⟩ ⟨h1,h2,hR⟩
 simp only[gq] at*
 refine aa ?_ ?_<;>intro hc
 ·have hc:=yT hc
  rw[wi]
  refine⟨by omega,by omega,bD i.toNat (by omega),aa (fun h=>cR ?_) (fun h=>⟨⟨by omega,by omega,ja (p:=fun j=>bw (p [gq (l.getD j bX)])) h1 hR h⟩,by simp only[yN];omega⟩)⟩
  rw[gp (i:=i.toNat) (by omega) h (fun j hj=>hR j (by omega))]
  omega
 ·have hc:=yF hc
  exact cR (iT (fun j hj=>hR j (by omega))).symm
def ad7:=bB (α:=(List aQ)×(List (DA UU)->Option Value)) (qC (qL .aW) (q1 qF)) [.ro,.ro] (fun(l,p)=>[∀j:Nat,j<l.length->p [gq (l.getD j bX)]=some (.bool (bw (p [gq (l.getD j bX)])))]) (fun(l,p)=>⟨[dO (anyI l.length (fun j=>bw (p [gq (l.getD j bX)])))],[],[]⟩)
def agb:HH:=hF ad7 func235 [afJ] a0 fun x hp hb=>by
 obtain⟨l,p⟩:=x
 have bD:∀j:Nat,j<l.length->p [gq (l.getD j bX)]=some (.bool (bw (p [gq (l.getD j bX)]))):=hp _ m0
 clear hp hb
 apply vE (let x0:=ji (l.length) fun(j:Nat)=>bw (p [gq (l.getD j bX)]);(∀(j:Nat),j<l.length->p [gq (l.getD j bX)]=some (Value.bool (bw (p [gq (l.getD j bX)]))))/\Lb (decide (x0≥0)) (anyI (l.length) fun(j:Nat)=>bw (p [gq (l.getD j bX)])))
 dsimp only
 exact⟨bD,cK (by rw[<-yw])⟩
def aeD:=bB (α:=BA) (q1 qS) [.ro] (fun _=>[]) (fun s=>⟨[dO (decide (1<=s.size/\s.size<=200))],[],[]⟩)
def agX:HH:=hF aeD func172 [xo] a0 fun(s:BA) hp hb=>by
 clear hp hb
 apply vE (Lb (decide (1<=(↑(s.size):Int)/\(↑(s.size):Int)<=200)) (decide (1<=s.size/\s.size<=200)))
 refine cK ?_
 rw[decide_eq_decide];omega
def xX:jH UU where
 α:=aQ×BA
 md:=[.ro,.ro]
 of:=fun|[.agg [.lit (.string a0),.lit (.string a1),.sl .bm a2],.ptr [.lit (.string a3)]]=>some (⟨a0,⟨a1,a2⟩⟩,a3)|_=>none
 ds:=fun(x,c)=>[.agg [.lit (.string x.Key),.lit (.string x.F.Kind),.sl .bm x.F.ae],.ptr [.lit (.string c)]]
 pre:=fun(x,c)=>[]
 mE:=fun(x,c)=>⟨[.one (.lit (.bool (decide (x.Key=c))))],[],[]⟩
 law:=by intro l x h;(try simp only at h);split at h<;>cases h;rfl
def aga:HH:=hF xX func236 [] a0 fun x hp hb=>by
 obtain⟨x,c⟩:=x
 have Nv:eJ (U:=UU) (.agg [.lit (.string x.Key),.lit (.string x.F.Kind),.sl .bm x.F.ae]):=hb _ (dw)
 have abP:L9 x.Key.size:=Bd.str (Nv _ (by simp))
 have Sp:L9 x.F.Kind.size:=Bd.str (Nv _ (by simp))
 have OS:L9 x.F.ae.length:=Bd.len (U:=UU) (τ:=.bm) (xs:=x.F.ae) (Nv _ (by simp))
 have ap1:eJ (U:=UU) (.ptr [.lit (.string c)]):=hb _ (bi _ (dw))
 clear hp hb
 apply vE (Lb (x.Key.toList==c.toList) (decide (x.Key=c)))
 rw[bt]
 exact aH _
def aeC:=bB (α:=(List aQ)×BA) (qC (qL .aW) (q1 qS)) [.ro,.ro] (fun _=>[]) (fun(l,key)=>⟨[dO (D_ l key)],[],[]⟩)
def agW:HH:=hF aeC func173 [agb,aga] a0 fun x hp hb=>by
 obtain⟨l,key⟩:=x
 clear hp hb
 apply vE ((∀(j:Nat),j<l.length->eQ xX [DV.ptr [CS key]] [gq (l.getD j bX)]=some (Value.bool (bw (eQ xX [DV.ptr [CS key]] [gq (l.getD j bX)]))))/\Lb (anyI (l.length) fun(j:Nat)=>bw (eQ xX [DV.ptr [CS key]] [gq (l.getD j bX)])) (D_ l key))
 have hc:∀x:aQ,eQ xX [.ptr [.lit (.string key)]] [gq x]=some (.bool (decide (x.Key=key))):=fun x=>pT (x:=(x,key)) rfl rfl rfl rfl (by simp[xX])
 refine⟨fun j hj=> ?_,cK ?_⟩
 ·show eQ xX [.ptr [.lit (.string key)]] [gq (l.getD j bX)]=_
  rw[hc];rfl
 ·exact qJ fun j hj=>by
   show bw (eQ xX [.ptr [.lit (.string key)]] [gq (l.getD j bX)])=_
   rw[hc];rfl
def Uo:=bB (α:=List aQ) (q1 (qL .aW)) [.ro] (fun _=>[]) (fun l=>⟨[dO (eV l)],[],[]⟩)
def Aq(l:List aQ):Int×Unit->Prop:=fun(i,_)=>0<=i/\i<=l.length/\l.length<=30/\∀j:Nat,(j:Int)<i->jI l j=true
def tx(l:List aQ):Int×Unit->Nat:=fun(i,_)=>l.length-i.toNat
def ai':AX Uo:=fun l=>bh [(4,aB [iI 10] (fun _=>Aq l) (tx l))]
def ahM:HH:=hF Uo func101 [agX,Dn,agW] ai' fun(l:List aQ) hp hb=>by
 clear hp hb
 apply vE (let x0:=(l.length:Int);let x1:=Option.getD none (0:Int);let q0:=Lb false (eV l);bif decide (x0>30) then q0 else Aq l (0,())/\∀(y:Int×PUnit),let x2:=Option.getD (some y.1) x0;let q1:=l.getD y.1.toNat bX;let q2:=(wrap i64 (y.1+1),());Aq l y->bif decide (y.1<x0) then 0<=y.1/\y.1.toNat<l.length/\bif !decide (1<=q1.Key.size/\q1.Key.size<=200) then q0 else bif !cg q1.F then q0 else 0<=x1/\x1<=x2/\x2<=x0/\bif D_ ((l.take x2.toNat).drop x1.toNat) q1.Key then q0 else Aq l q2/\tx l q2<tx l y else Lb true (eV l))
 dsimp only
 refine aa (fun h=>bG ?_) (fun h=>⟨⟨by omega,by omega,by have h:=yF h;omega,by intro j hj;omega⟩,?_⟩)
 ·have h:=yT h;simp only[eV];rw[decide_eq_false (by omega)];rfl
 rintro⟨i,⟨⟩⟩ ⟨h1,h2,h3,hR⟩
 simp only
 refine aa ?_ ?_<;>intro hc
 ·have hc:=yT hc
  have hN:jI l i.toNat=false->eV l=false:=fun h=>by
   have hf:allI l.length (jI l)=false:=gv (j:=i.toNat) (by omega) h
   simp only[eV,hf];simp
  have hk:D_ ((l.take i.toNat).drop (Int.toNat 0)) (l.getD i.toNat bX).Key=anyI i.toNat fun k=>decide ((l.getD k bX).Key=(l.getD i.toNat bX).Key):=by
   show anyI _ _=_
   have e:(l.take i.toNat).length=i.toNat:=by rw[od];omega
   rw[show Int.toNat 0=0 from rfl,List.drop_zero,e]
   exact qJ fun j hj=>by rw[getD_take l bX hj]
  simp only[Ln,Ds,hk]
  simp(disch:=omega) only[wrap_i64]
  have hm:tx l (i+1,PUnit.unit)<tx l (i,()):=by simp only[tx];omega
  refine⟨by omega,by omega,aa (fun h=>bG (hN ?_)) (fun h=>aa (fun h'=>bG (hN ?_)) (fun h'=>⟨by omega,by omega,by omega,aa (fun xN=>bG (hN ?_)) (fun xN=>⟨⟨by omega,by omega,h3,fo h1 hR ?_⟩,hm⟩)⟩))⟩
  all_goals (simp only[jI];grind)
 ·have hc:=yF hc
  have hA:allI l.length (jI l)=true:=hJ fun j hj=>hR j (by omega)
  refine cK ?_
  simp only[eV,hA];grind
def ac2:=bB (α:=List aQ) (q1 (qL .aW)) [.ro] (fun _=>[]) (fun l=>⟨[dO (eV l)],[],[]⟩)
def E8(l:List aQ):Int×Unit->Prop:=fun(i,_)=>0<=i/\i<=l.length/\∀j:Nat,(j:Int)<i->jI l j=true
def xj(l:List aQ):Int×Unit->Nat:=fun(i,_)=>l.length-i.toNat
def E7(l:List aQ):Int×Int×Unit->Int×Int×Unit->Prop:=fun(i0,k0,_) (i,k,_)=>i=i0/\0<=k/\k<=i/\∀j:Nat,(j:Int)<k->decide ((l.getD j bX).Key=(l.getD i.toNat bX).Key)=false
def Ey(l:List aQ):Int×Int×Unit->Nat:=fun(i,k,_)=>i.toNat-k.toNat
def ao5:AX ac2:=fun l=>bh [(2,aB [iI 3] (fun _=>E8 l) (xj l)),(7,aB [iI 3,iI 4] (E7 l) (Ey l))]
def anX:HH:=hF ac2 func76 [rG,Hs] ao5 fun(l:List aQ) hp hb=>by
 have la:L9 l.length:=eY (hb _ m0)
 clear hp hb
 apply vE (let x0:=(l.length:Int);let q0:=Lb false (eV l);E8 l (0,())/\∀(y:Int×PUnit),let q1:=l.getD y.1.toNat bX;let q2:=(y.1,0,());E8 l y->bif decide (y.1<x0) then 0<=y.1/\y.1.toNat<l.length/\bif !decide (1<=(↑(q1.Key.size):Int)/\(↑(q1.Key.size):Int)<=200) then q0 else 0<=y.1/\y.1.toNat<l.length/\bif !cg q1.F then q0 else E7 l q2 q2/\∀(aJ:Int×Int×PUnit),let x1:=aJ.2.1.toNat;let q3:=(aJ.1,wrap i64 (aJ.2.1+1),());let q4:=(wrap i64 (aJ.1+1),());E7 l q2 aJ->bif decide (aJ.2.1<aJ.1) then 0<=aJ.1/\aJ.1.toNat<l.length/\0<=aJ.2.1/\x1<l.length/\bif (l.getD aJ.1.toNat bX).Key.toList==(l.getD x1 bX).Key.toList then q0 else E7 l q2 q3/\Ey l q3<Ey l aJ else E8 l q4/\xj l q4<xj l y else Lb (decide (x0<=30)) (eV l))
 dsimp only
 refine⟨⟨by omega,by omega,by intro j hj;omega⟩,?_⟩
 rintro⟨i,⟨⟩⟩ ⟨h1,h2,hR⟩
 simp only
 refine aa ?_ ?_<;>intro hc
 ·have hc:=yT hc
  have hN:jI l i.toNat=false->eV l=false:=fun h=>by
   have hf:allI l.length (jI l)=false:=gv (j:=i.toNat) (by omega) h
   simp only[eV,hf];simp
  have hm:xj l (i+1,PUnit.unit)<xj l (i,()):=by simp only[xj];omega
  refine⟨by omega,by omega,aa (fun h=>bG (hN ?_)) (fun h=>⟨by omega,by omega,aa (fun h'=>bG (hN ?_)) (fun h'=>⟨⟨rfl,by omega,by omega,by intro j hj;omega⟩,?_⟩)⟩)⟩
  ·simp only[jI];grind
  ·simp only[jI];grind
  rintro⟨i,k,⟨⟩⟩ ⟨rfl,g1,g2,gR⟩
  simp only
  refine aa ?_ ?_<;>intro hk
  ·have hk:=yT hk
   simp(disch:=omega) only[wrap_i64,bt]
   refine⟨by omega,by omega,by omega,by omega,aa (fun xN=>bG (hN ?_)) (fun xN=>⟨⟨rfl,by omega,by omega,ja g1 gR ?_⟩,by simp only[Ey];omega⟩)⟩
   ·have ha:(anyI i.toNat fun k=>decide ((l.getD k bX).Key=(l.getD i.toNat bX).Key))=true:=ju (j:=k.toNat) (by omega) (by grind)
    simp only[jI,ha];simp
   ·grind
  ·have hk:=yF hk
   simp(disch:=omega) only[wrap_i64]
   refine⟨⟨by omega,by omega,fo h1 hR ?_⟩,hm⟩
   have ha:(anyI i.toNat fun k=>decide ((l.getD k bX).Key=(l.getD i.toNat bX).Key))=false:=gr fun j hj=>gR j (by omega)
   simp only[jI,ha];grind
 ·have hc:=yF hc
  have hA:allI l.length (jI l)=true:=hJ fun j hj=>hR j (by omega)
  refine cK ?_
  simp only[eV,hA];grind
def bc(l:List aQ):aA:=if l=[] then uL else(l.getD (l.length-1) bX).F
theorem FU{α:Type}(f:α->Nat)(l:List α)(n:Nat):((l.take n).map f).sum<=(l.map f).sum:=by
 have h:=congrArg (fun q=>(q.map f).sum) (Lq n l)
 simp only[La,Y8] at h
 omega
theorem AE(l:List aQ)(n:Nat):bx (l.take n)<=bx l:=by
 have:=FU dc l n
 simp only[bx,od]
 omega
def Hr:=bB (α:=List aZ) (q1 (qL .bm)) [.ro] (fun l=>[L4 l.length]) (fun l=>⟨[dL .bm l],[],[]⟩)
def OC:AX Hr:=fun l=>bh []
def Oh:List (FuncId×jH UU):=[]
theorem acB:xO EE Oh f218 Hr OC [] .bm [] true=(Lf [VL .bm []] [VL .bm []]):=by kernel_rfl
theorem acy:xO EE Oh f218 Hr OC [] .bm [] true:=by
 rw[acB]
 exact aH _
theorem acK:Holds EE (218,Hr):=by
 refine w3 sw func218 Hr (by kernel_rfl) rfl .bm (fun x=>x) (fun _=>rfl) Oh all_nil OC (fun(l:List aZ) hp hb=> ?_)
 have la:L9 l.length:=eY (hb _ m0)
 have bD:l.length<=4294967296:=hp _ m0
 clear hp hb
 refine⟨?_,fun h0=> ?_⟩
 rotate_left
 ·subst h0;exact acy
 apply vE (0+l.length<=4294967296/\Lf [VL .bm ([]++l)] [VL .bm l])
 exact⟨by simp;omega,aH _⟩
def ago:HH:=⟨_,acK⟩
def anc:=bB (α:=aA) (q1 (qA .cP)) [.ro] (fun f=>[L4 f.ae.length]) (fun f=>⟨[dA .cP f],[],[]⟩)
def Cq:HH:=hF anc func83 [] a0 fun(f:aA) hp hb=>by
 have bj:=mS (x:=f) (hb _ m0)
 have pJ:=bj.1
 have mO:=bj.2
 have bD:f.ae.length<=4294967296:=hp _ m0
 clear hp hb
 apply vE (0+f.ae.length<=4294967296/\Lf [DV.agg [CS f.Kind,CL .bm ([]++f.ae)]] [DV.agg [CS f.Kind,CL .bm f.ae]])
 exact⟨by simp;omega,aH _⟩
def aeM:=bB (α:=aA) (q1 (qA .cP)) [.ro] (fun f=>[L4 f.ae.length]) (fun f=>⟨[dA .cP f],[],[]⟩)
def wA:HH:=hF aeM func162 [ago] a0 fun(f:aA) hp hb=>by
 have bD:f.ae.length<=4294967296:=hp _ m0
 clear hp hb
 apply vE (f.ae.length<=4294967296/\Lf [DV.agg [CS f.Kind,CL .bm f.ae]] [DV.agg [CS f.Kind,CL .bm f.ae]])
 exact⟨bD,aH _⟩
def ac8:=bB (α:=List ap) (q1 (qL .ax)) [.ro] (fun l=>[L4 (ca l)]) (fun l=>⟨[dL .ax l],[],[]⟩)
def Ff(l:List ap):List ap×Int×Unit->Prop:=fun(out,i,_)=>0<=i/\i<=l.length/\out=l.take i.toNat
def ED(l:List ap):List ap×Int×Unit->Nat:=fun(out,i,_)=>l.length-i.toNat
def ao_:AX ac8:=fun l=>bh [(3,aB [iO 3 .ax,iI 4] (fun _=>Ff l) (ED l))]
def afl:HH:=hF ac8 func70 [Cq] ao_ fun(l:List ap) hp hb=>by
 have bD:ca l<=4294967296:=hp _ m0
 clear hp hb
 apply vE (Ff l ([],0,())/\∀(y:List ap×Int×PUnit),let x2:=y.2.1.toNat;let x1:=l.getD x2 cD;let x0:=[x1];let q0:=(y.1++x0,wrap i64 (y.2.1+1),());Ff l y->bif decide (y.2.1<(l.length:Int)) then 0<=y.2.1/\x2<l.length/\0<=y.2.1/\x2<l.length/\L4 x1.F.ae.length/\L4 (y.1.length+x0.length)/\Ff l q0/\ED l q0<ED l y else Lf [VL .ax y.1] [VL .ax l])
 dsimp only
 refine⟨⟨by omega,by omega,by simp⟩,?_⟩
 rintro⟨out,i,⟨⟩⟩ ⟨h1,h2,rfl⟩
 simp only
 refine aa ?_ ?_<;>intro hc
 ·have hc:=yT hc
  have hs:=dJ dD l cD h1 hc
  simp only[ca] at bD
  have hx:=hs
  simp only[dD,bu,cU] at hx
  rw[dW l cD h1 hc,wi]
  repeat' (first|refine And.intro (by omega) ?_|fail)
  refine⟨by simp;omega,⟨by omega,by omega,rfl⟩,by simp only[ED];omega⟩
 ·have hc:=yF hc
  rw[cT l (by omega)]
  exact aH _
def acR:=bB (α:=List ap) (q1 (qL .ax)) [.ro] (fun l=>[L4 (ca l)]) (fun l=>⟨[dL .ax l],[],[]⟩)
def EZ(l:List ap):List ap×Int×Unit->Prop:=fun(out,i,_)=>0<=i/\i<=l.length/\out=l.take i.toNat
def Ep(l:List ap):List ap×Int×Unit->Nat:=fun(out,i,_)=>l.length-i.toNat
def aoU:AX acR:=fun l=>bh [(3,aB [iO 3 .ax,iI 8] (fun _=>EZ l) (Ep l))]
def afi:HH:=hF acR func95 [wA] aoU fun(l:List ap) hp hb=>by
 have bD:ca l<=4294967296:=hp _ m0
 clear hp hb
 apply vE (EZ l ([],0,())/\∀(y:List ap×Int×PUnit),let x2:=y.2.1.toNat;let x1:=l.getD x2 cD;let x0:=[x1];let q0:=(y.1++x0,wrap i64 (y.2.1+1),());EZ l y->bif decide (y.2.1<(l.length:Int)) then 0<=y.2.1/\x2<l.length/\L4 x1.F.ae.length/\L4 (y.1.length+x0.length)/\EZ l q0/\Ep l q0<Ep l y else Lf [VL .ax y.1] [VL .ax l])
 dsimp only
 refine⟨⟨by omega,by omega,by simp⟩,?_⟩
 rintro⟨out,i,⟨⟩⟩ ⟨h1,h2,rfl⟩
 simp only
 refine aa ?_ ?_<;>intro hc
 ·have hc:=yT hc
  have hs:=dJ dD l cD h1 hc
  simp only[ca] at bD
  have hx:=hs
  simp only[dD,bu,cU] at hx
  rw[dW l cD h1 hc,wi]
  repeat' (first|refine And.intro (by omega) ?_|fail)
  refine⟨by simp;omega,⟨by omega,by omega,rfl⟩,by simp only[Ep];omega⟩
 ·have hc:=yF hc
  rw[cT l (by omega)]
  exact aH _
def ac7:=bB (α:=List aQ) (q1 (qL .aW)) [.ro] (fun l=>[L4 (bx l)]) (fun l=>⟨[dL .aW l],[],[]⟩)
def Fe(l:List aQ):List aQ×Int×Unit->Prop:=fun(out,i,_)=>0<=i/\i<=l.length/\out=l.take i.toNat
def EC(l:List aQ):List aQ×Int×Unit->Nat:=fun(out,i,_)=>l.length-i.toNat
def ao':AX ac7:=fun l=>bh [(3,aB [iO 3 .aW,iI 4] (fun _=>Fe l) (EC l))]
def afk:HH:=hF ac7 func71 [Cq] ao' fun(l:List aQ) hp hb=>by
 have bD:bx l<=4294967296:=hp _ m0
 clear hp hb
 apply vE (Fe l ([],0,())/\∀(y:List aQ×Int×PUnit),let x2:=y.2.1.toNat;let x1:=l.getD x2 bX;let x0:=[x1];let q0:=(y.1++x0,wrap i64 (y.2.1+1),());Fe l y->bif decide (y.2.1<(l.length:Int)) then 0<=y.2.1/\x2<l.length/\0<=y.2.1/\x2<l.length/\L4 x1.F.ae.length/\L4 (y.1.length+x0.length)/\Fe l q0/\EC l q0<EC l y else Lf [VL .aW y.1] [VL .aW l])
 dsimp only
 refine⟨⟨by omega,by omega,by simp⟩,?_⟩
 rintro⟨out,i,⟨⟩⟩ ⟨h1,h2,rfl⟩
 simp only
 refine aa ?_ ?_<;>intro hc
 ·have hc:=yT hc
  have hs:=dJ dc l bX h1 hc
  simp only[bx] at bD
  have hx:=hs
  simp only[dc,bu,cU] at hx
  rw[dW l bX h1 hc,wi]
  repeat' (first|refine And.intro (by omega) ?_|fail)
  refine⟨by simp;omega,⟨by omega,by omega,rfl⟩,by simp only[EC];omega⟩
 ·have hc:=yF hc
  rw[cT l (by omega)]
  exact aH _
def acQ:=bB (α:=List aQ) (q1 (qL .aW)) [.ro] (fun l=>[L4 (bx l)]) (fun l=>⟨[dL .aW l],[],[]⟩)
def EY(l:List aQ):List aQ×Int×Unit->Prop:=fun(out,i,_)=>0<=i/\i<=l.length/\out=l.take i.toNat
def Eo(l:List aQ):List aQ×Int×Unit->Nat:=fun(out,i,_)=>l.length-i.toNat
def aoT:AX acQ:=fun l=>bh [(3,aB [iO 3 .aW,iI 8] (fun _=>EY l) (Eo l))]
def afh:HH:=hF acQ func96 [wA] aoT fun(l:List aQ) hp hb=>by
 have bD:bx l<=4294967296:=hp _ m0
 clear hp hb
 apply vE (EY l ([],0,())/\∀(y:List aQ×Int×PUnit),let x2:=y.2.1.toNat;let x1:=l.getD x2 bX;let x0:=[x1];let q0:=(y.1++x0,wrap i64 (y.2.1+1),());EY l y->bif decide (y.2.1<(l.length:Int)) then 0<=y.2.1/\x2<l.length/\L4 x1.F.ae.length/\L4 (y.1.length+x0.length)/\EY l q0/\Eo l q0<Eo l y else Lf [VL .aW y.1] [VL .aW l])
 dsimp only
 refine⟨⟨by omega,by omega,by simp⟩,?_⟩
 rintro⟨out,i,⟨⟩⟩ ⟨h1,h2,rfl⟩
 simp only
 refine aa ?_ ?_<;>intro hc
 ·have hc:=yT hc
  have hs:=dJ dc l bX h1 hc
  simp only[bx] at bD
  have hx:=hs
  simp only[dc,bu,cU] at hx
  rw[dW l bX h1 hc,wi]
  repeat' (first|refine And.intro (by omega) ?_|fail)
  refine⟨by simp;omega,⟨by omega,by omega,rfl⟩,by simp only[Eo];omega⟩
 ·have hc:=yF hc
  rw[cT l (by omega)]
  exact aH _
def adU:=bB (α:=List aQ) (q1 (qL .aW)) [.ro] (fun l=>[L4 (bx l)]) (fun l=>⟨[dA .cP (bc l),dO (decide (¬l=[]))],[],[]⟩)
def afT:HH:=hF adU func259 [Cq] a0 fun(l:List aQ) hp hb=>by
 have bD:bx l<=4294967296:=hp _ m0
 clear hp hb
 apply vE (let x3:=wrap i64 ((l.length:Int)-1);let x2:=x3.toNat;let x1:=(l.getD x2 bX).F;let x0:=x1.ae;bif (l.length:Int)==0 then Lf [DV.agg [CS ({data:= #[]:BA}),CL .bm []],VB false] [DV.agg [CS ((bc l).Kind),CL .bm (bc l).ae],VB (decide ¬l=[])] else 0<=x3/\x2<l.length/\L4 x0.length/\Lf [DV.agg [CS x1.Kind,CL .bm x0],VB true] [DV.agg [CS ((bc l).Kind),CL .bm (bc l).ae],VB (decide ¬l=[])])
 dsimp only
 by_cases hl:l=[]
 ·subst hl;exact aH _
 ·have h0:0<l.length:=List.length_pos_iff.2 hl
  have h1:(l.length-1:Int).toNat=l.length-1:=by omega
  have hs:=dJ dc l bX (i:=l.length-1) (by omega) (by omega)
  simp only[bx] at bD
  rw[h1] at hs
  have hx:=hs
  simp only[dc,bu,cU] at hx
  rw[wi,h1]
  refine aa (fun h=>absurd h (by simp;omega)) (fun h=> ?_)
  repeat' (first|refine And.intro (by omega) ?_|fail)
  simp only[bc,if_neg hl,decide_not,hl]
  exact aH _
def ad5:=bB (α:=List aQ) (q1 (qL .aW)) [.ro] (fun l=>[L4 (bx l)]) (fun l=>⟨[dA .cP (bc l),dO (decide (¬l=[]))],[],[]⟩)
def af8:HH:=hF ad5 func240 [wA] a0 fun(l:List aQ) hp hb=>by
 have bD:bx l<=4294967296:=hp _ m0
 clear hp hb
 apply vE (let x3:=wrap i64 ((l.length:Int)-1);let x2:=x3.toNat;let x1:=(l.getD x2 bX).F;let x0:=x1.ae;bif (l.length:Int)==0 then Lf [DV.agg [CS ({data:= #[]:BA}),CL .bm []],VB false] [DV.agg [CS ((bc l).Kind),CL .bm (bc l).ae],VB (decide ¬l=[])] else 0<=x3/\x2<l.length/\L4 x0.length/\Lf [DV.agg [CS x1.Kind,CL .bm x0],VB true] [DV.agg [CS ((bc l).Kind),CL .bm (bc l).ae],VB (decide ¬l=[])])
 dsimp only
 by_cases hl:l=[]
 ·subst hl;exact aH _
 ·have h0:0<l.length:=List.length_pos_iff.2 hl
  have h1:(l.length-1:Int).toNat=l.length-1:=by omega
  have hs:=dJ dc l bX (i:=l.length-1) (by omega) (by omega)
  simp only[bx] at bD
  rw[h1] at hs
  have hx:=hs
  simp only[dc,bu,cU] at hx
  rw[wi,h1]
  refine aa (fun h=>absurd h (by simp;omega)) (fun h=> ?_)
  repeat' (first|refine And.intro (by omega) ?_|fail)
  simp only[bc,if_neg hl,decide_not,hl]
  exact aH _
def aej:=bB (α:=List aQ) (q1 (qL .aW)) [.ro] (fun l=>[L4 (bx l)]) (fun l=>⟨[dL .aW (l.take (l.length-1))],[],[]⟩)
def agu:HH:=hF aej func212 [afk] a0 fun(l:List aQ) hp hb=>by
 have la:L9 l.length:=eY (hb _ m0)
 have bD:bx l<=4294967296:=hp _ m0
 clear hp hb
 apply vE (let x1:=(l.length:Int);let x0:=Option.getD (some (wrap i64 (x1-1))) x1;L4 (bx l)/\bif decide (x1>0) then 0<=Option.getD none (0:Int)/\Option.getD none (0:Int)<=x0/\x0<=x1/\Nat.le x0.toNat (l.length)/\Lf [VL .aW (l.take x0.toNat)] [VL .aW (l.take (l.length-1))] else Lf [VL .aW l] [VL .aW (l.take (l.length-1))])
 dsimp only
 refine⟨bD,aa (fun h=> ?_) (fun h=> ?_)⟩
 ·have h:=yT h
  simp only[Ln,Ds]
  rw[wi]
  have h1:(l.length-1:Int).toNat=l.length-1:=by omega
  rw[h1]
  refine⟨by omega,by omega,by omega,Nat.sub_le _ _,aH _⟩
 ·have h:=yF h
  have h0:l=[]:=List.length_eq_zero_iff.1 (by omega)
  subst h0
  exact aH _
def aex:=bB (α:=List aQ) (q1 (qL .aW)) [.ro] (fun l=>[L4 (bx l)]) (fun l=>⟨[dL .aW (l.take (l.length-1))],[],[]⟩)
def agR:HH:=hF aex func183 [afh] a0 fun(l:List aQ) hp hb=>by
 have la:L9 l.length:=eY (hb _ m0)
 have bD:bx l<=4294967296:=hp _ m0
 clear hp hb
 apply vE (let x1:=wrap i64 ((l.length:Int)-1);let x3:=Option.getD none (0:Int);let x0:=Option.getD (some (if 0>x1 then 0 else x1)) (l.length:Int);let x2:=(l.take x0.toNat).drop x3.toNat;0<=x3/\x3<=x0/\x0<=(l.length:Int)/\L4 (bx x2)/\Lf [VL .aW x2] [VL .aW (l.take (l.length-1))])
 dsimp only
 simp only[Ln,Ds]
 rw[wi]
 have h1:(if(0:Int)>(l.length:Int)-1 then(0:Int) else(l.length:Int)-1).toNat=l.length-1:=by split<;>omega
 rw[h1]
 have h2:=AE l (l.length-1)
 refine⟨by omega,by split<;>omega,by split<;>omega,?_,aH _⟩
 show bx (l.take (l.length-1))<=4294967296
 omega
def iu(s:BA):Bool:=decide (s=ak)||b7 s
def gj(t:ag):Bool:=cg t.F&&iu t.cq&&decide (1<=t.State/\t.State<=4)&&decide (0<=t.bg/\t.bg<=4)&&decide (0<=t.jv/\t.jv<=1000001000)&&(decide (t.V=gh)||df t.V)&&decide ((t.State=1->t.bg=0)/\(t.State=2->t.bg≠0))
def jd(l:List ag)(i:Nat):Bool:=gj (l.getD i aq)&& !(anyI i fun k=>decide ((l.getD k aq).F=(l.getD i aq).F))
def aO(l:List ag):Bool:=decide (l.length<=30)&&allI l.length (jd l)
def placeOf(l:List ag)(f:aA):Int:=ji l.length fun k=>decide ((l.getD k aq).F=f)
def iR(t:ag):Bool:=decide (t.State=1\/t.State=2)
def fF(t:ag):ag:=if t.State=1\/t.State=2 then⟨t.F,t.cq,4,t.bg,t.jv,t.V⟩ else t
def giveUp(l:List ag):List ag:=l.map fF
def cb(x:ag):DA UU:=⟨true,[.lit (.string x.F.Kind),.sl .bm x.F.ae,.lit (.string x.cq),.lit (.int .i64 x.State),.lit (.int .i64 x.bg),.lit (.int .i64 x.jv),.lit (.int .i64 x.V.K),.lit (.int .i64 x.V.N),.lit (.string x.V.S)]⟩
theorem GD{a b:aA}:a=b↔a.Kind=b.Kind/\a.ae=b.ae:=by
 obtain⟨k,f⟩:=a;obtain⟨k',f'⟩:=b;simp
theorem vf{α:Type}(f:α->α)(l:List α)(z:α){i:Int}(F:α->α)(h0:0<=i)(h:i<l.length)(hF:F (l.getD i.toNat z)=f (l.getD i.toNat z)):
  ((l.map f).take i.toNat++l.drop i.toNat).modify i.toNat F=(l.map f).take (i+1).toNat++l.drop (i+1).toNat:=by
 have hn:i.toNat<l.length:=by omega
 have e:(i+1).toNat=i.toNat+1:=by omega
 have ht:((l.map f).take i.toNat).length=i.toNat:=by rw[od,BV];omega
 rw[AS _ z,fC _ l z ht h0 h,hF,cW l z h0 h,List.set_append_right _ _ (by rw[ht];exact tB _),ht,Y7,List.set_cons_zero,e,ZC (by simpa using hn),xu,List.getElem_map]
 rw[fY,gg hn]
 rfl
theorem ve{α:Type}(f:α->α)(l:List α)(z:α){i:Int}(h0:0<=i)(h:i<l.length)(hF:l.getD i.toNat z=f (l.getD i.toNat z)):
  (l.map f).take i.toNat++l.drop i.toNat=(l.map f).take (i+1).toNat++l.drop (i+1).toNat:=by
 rw[<-vf f l z (fun x=>x) h0 h hF]
 have:∀(m:List α)(n:Nat),m.modify n (fun x=>x)=m:=by
  intro m n
  refine Lp fun j=> ?_
  rw[zei]
  cases m[j]? <;>simp
 rw[this]
theorem yu{α:Type}(f:α->α)(l:List α){i:Int}(h0:0<=i)(h:i<=l.length):((l.map f).take i.toNat++l.drop i.toNat).length=l.length:=by
 rw[wG,od,BV,J0];omega
theorem DU{α:Type}(f:α->α)(l:List α){i:Int}(h0:0<=i)(h:i<=l.length):((l.map f).take i.toNat).length=i.toNat:=by
 rw[od,BV];omega
theorem vg{α:Type}(f:α->α)(l:List α){i:Int}(h:l.length<=i):(l.map f).take i.toNat++l.drop i.toNat=l.map f:=by
 rw[List.drop_eq_nil_of_le (by omega),tV,O5 (by rw[BV];omega)]
def Tr:=bB (α:=(List aZ)×(List aZ)) (qC (qL .bm) (q1 (qL .bm))) [.ro,.ro] (fun _=>[]) (fun(a,b)=>⟨[dO (decide (a=b))],[],[]⟩)
def wl(a:List aZ)(b:List aZ):Int×Unit->Prop:=fun(i,_)=>0<=i/\i<=a.length/\a.length=b.length/\(a.drop i.toNat=b.drop i.toNat↔a=b)
def y7(a:List aZ)(b:List aZ):Int×Unit->Nat:=fun(i,_)=>a.length-i.toNat
def ail:AX Tr:=fun(a,b)=>bh [(4,aB [iI 5] (fun _=>wl a b) (y7 a b))]
def agw:HH:=hF Tr func208 [] ail fun x hp hb=>by
 obtain⟨a,b⟩:=x
 have cF:L9 a.length:=eY (hb _ m0)
 have tG:L9 b.length:=eY (hb _ m1)
 clear hp hb
 apply vE (bif (a.length:Int) !=(b.length:Int) then Lb false (decide (a=b)) else wl a b (0,())/\∀(y:Int×PUnit),let x0:=a.getD y.1.toNat gh;let x1:=b.getD y.1.toNat gh;let q0:=(wrap i64 (y.1+1),());wl a b y->bif decide (y.1<(a.length:Int)) then 0<=y.1/\y.1.toNat<a.length/\0<=y.1/\y.1.toNat<b.length/\bif !(x0.K==x1.K&&(x0.N==x1.N&&(x0.S.toList==x1.S.toList&&true))) then Lb false (decide (a=b)) else wl a b q0/\y7 a b q0<y7 a b y else Lb true (decide (a=b)))
 dsimp only
 refine aa (fun h=>mV ?_) (fun h=>⟨?_,?_⟩)
 ·rintro rfl;simp at h
 ·simp[wl] at*;omega
 rintro⟨i,⟨⟩⟩ ⟨h1,h2,h3,hR⟩
 simp only at*
 refine aa ?_ ?_<;>intro hc
 ·have hc:i<a.length:=by simpa using hc
  rw[cW a gh h1 hc,cW b gh h1 (by omega)] at hR
  rw[wi]
  simp only[sC]
  refine⟨by omega,by omega,by omega,by omega,aa (fun h=>mV ?_) (fun h=>⟨⟨by omega,by omega,h3,?_⟩,?_⟩)⟩
  ·rw[<-hR];simp at h;simp[h]
  ·rw[<-hR];simp at h;simp[h]
  ·simp only[y7];omega
 ·have hc:a.length<=i:=by simpa using hc
  rw[bZ a hc,bZ b (by omega)] at hR
  exact ol (hR.1 rfl)
def Ti:=bB (α:=(List aZ)×(List aZ)) (qC (qL .bm) (q1 (qL .bm))) [.ro,.ro] (fun _=>[]) (fun(a,b)=>⟨[dO (decide (a=b))],[],[]⟩)
def wg(a:List aZ)(b:List aZ):Int×Unit->Prop:=fun(i,_)=>0<=i/\i<=a.length/\a.length=b.length/\(a.drop i.toNat=b.drop i.toNat↔a=b)
def yY(a:List aZ)(b:List aZ):Int×Unit->Nat:=fun(i,_)=>a.length-i.toNat
def aib:AX Ti:=fun(a,b)=>bh [(4,aB [iI 13] (fun _=>wg a b) (yY a b))]
def agd:HH:=hF Ti func232 [] aib fun x hp hb=>by
 obtain⟨a,b⟩:=x
 have cF:L9 a.length:=eY (hb _ m0)
 have tG:L9 b.length:=eY (hb _ m1)
 clear hp hb
 apply vE (bif (a.length:Int) !=(b.length:Int) then Lb false (decide (a=b)) else wg a b (0,())/\∀(y:Int×PUnit),let x0:=b.getD y.1.toNat gh;let x1:=a.getD y.1.toNat gh;let q0:=(wrap i64 (y.1+1),());wg a b y->bif decide (y.1<(a.length:Int)) then 0<=y.1/\y.1.toNat<a.length/\0<=y.1/\y.1.toNat<b.length/\bif !(x1.K==x0.K&&(x1.N==x0.N&&(x1.S.toList==x0.S.toList&&true))) then Lb false (decide (a=b)) else wg a b q0/\yY a b q0<yY a b y else Lb true (decide (a=b)))
 dsimp only
 refine aa (fun h=>mV ?_) (fun h=>⟨?_,?_⟩)
 ·rintro rfl;simp at h
 ·simp[wg] at*;omega
 rintro⟨i,⟨⟩⟩ ⟨h1,h2,h3,hR⟩
 simp only at*
 refine aa ?_ ?_<;>intro hc
 ·have hc:i<a.length:=by simpa using hc
  rw[cW a gh h1 hc,cW b gh h1 (by omega)] at hR
  rw[wi]
  simp only[sC]
  refine⟨by omega,by omega,by omega,by omega,aa (fun h=>mV ?_) (fun h=>⟨⟨by omega,by omega,h3,?_⟩,?_⟩)⟩
  ·rw[<-hR];simp at h;simp[h]
  ·rw[<-hR];simp at h;simp[h]
  ·simp only[yY];omega
 ·have hc:a.length<=i:=by simpa using hc
  rw[bZ a hc,bZ b (by omega)] at hR
  exact ol (hR.1 rfl)
def aeY:=bB (α:=aA×aA) (qC (qA .cP) (q1 (qA .cP))) [.ro,.ro] (fun _=>[]) (fun(a,b)=>⟨[dO (decide (a=b))],[],[]⟩)
def JS:HH:=hF aeY func142 [agw] a0 fun x hp hb=>by
 obtain⟨a,b⟩:=x
 clear hp hb
 apply vE (bif a.Kind.toList==b.Kind.toList then Lb (decide (a.ae=b.ae)) (decide (a=b)) else Lb false (decide (a=b)))
 simp only[bt]
 refine aa (fun h=>cK ?_) (fun h=>cK ?_)<;>(simp only[GD];grind)
def aeI:=bB (α:=aA×aA) (qC (qA .cP) (q1 (qA .cP))) [.ro,.ro] (fun _=>[]) (fun(a,b)=>⟨[dO (decide (a=b))],[],[]⟩)
def JP:HH:=hF aeI func168 [agd] a0 fun x hp hb=>by
 obtain⟨a,b⟩:=x
 clear hp hb
 apply vE (bif a.Kind.toList==b.Kind.toList then Lb (decide (a.ae=b.ae)) (decide (a=b)) else Lb false (decide (a=b)))
 simp only[bt]
 refine aa (fun h=>cK ?_) (fun h=>cK ?_)<;>(simp only[GD];grind)
def aen:=bB (α:=BA) (q1 qS) [.ro] (fun _=>[]) (fun s=>⟨[dO (iu s)],[],[]⟩)
def agx:HH:=hF aen func206 [Dq] a0 fun(s:BA) hp hb=>by
 clear hp hb
 apply vE (bif s.toList==ByteArray.toList {data:= #[]:BA} then Lb true (iu s) else Lb (b7 s) (iu s))
 have e:(s.toList==ByteArray.toList {data:= #[]})=decide (s=ak):=bt _ _
 simp only[e,iu]
 refine aa (fun h=>cK ?_) (fun h=>cK ?_)<;>grind
def ad8:=bB (α:=BA) (q1 qS) [.ro] (fun _=>[]) (fun s=>⟨[dO (iu s)],[],[]⟩)
def Ov:HH:=hF ad8 func233 [Dp] a0 fun(s:BA) hp hb=>by
 clear hp hb
 apply vE (bif s.toList==ByteArray.toList {data:= #[]:BA} then Lb true (iu s) else Lb (b7 s) (iu s))
 have e:(s.toList==ByteArray.toList {data:= #[]})=decide (s=ak):=bt _ _
 simp only[e,iu]
 refine aa (fun h=>cK ?_) (fun h=>cK ?_)<;>grind
def aeZ:=bB (α:=ag) (q1 (qA .aw)) [.ro] (fun _=>[]) (fun t=>⟨[dO (gj t)],[],[]⟩)
def ahg:HH:=hF aeZ func141 [Hs,agx,rG,Ow] a0 fun(t:ag) hp hb=>by
 clear hp hb
 apply vE (let q0:=bif t.State !=1 then bif t.State !=2 then Lb true (gj t) else Lb ((t.State==1)==(t.bg==0)) (gj t) else Lb ((t.State==1)==(t.bg==0)) (gj t);let q1:=Lb false (gj t);bif !cg t.F then q1 else bif !iu t.cq then q1 else bif !decide (1<=t.State/\t.State<=4) then q1 else bif !decide (0<=t.bg/\t.bg<=4) then q1 else bif !decide (0<=t.jv/\t.jv<=1000001000) then q1 else bif !(t.V.K==0&&(t.V.N==0&&(t.V.S.toList==ByteArray.toList {data:= #[]:BA}&&true))) then bif !df t.V then q1 else q0 else q0)
 dsimp only
 have e:∀v:aZ,(v.K==0&&(v.N==0&&(v.S.toList==ByteArray.toList {data:= #[]}&&true)))=decide (v=gh):=fun v=>sC v gh
 simp only[e]
 simp only[gj]
 repeat' (refine aa (fun h=> ?_) (fun h=> ?_))
 all_goals (refine cK ?_;grind)
def aeH:=bB (α:=ag) (q1 (qA .aw)) [.ro] (fun _=>[]) (fun t=>⟨[dO (gj t)],[],[]⟩)
def agZ:HH:=hF aeH func169 [Dn,Ov,xo,JM] a0 fun(t:ag) hp hb=>by
 clear hp hb
 apply vE (let q0:=bif decide (0<=t.jv/\t.jv<=1000001000) then bif t.V.K==0&&(t.V.N==0&&(t.V.S.toList==ByteArray.toList {data:= #[]:BA}&&true)) then Lb true (gj t) else Lb (df t.V) (gj t) else Lb false (gj t);let q1:=Lb false (gj t);let q2:=bif t.State==2 then bif t.bg==0 then q1 else q0 else q0;bif !cg t.F then q1 else bif !iu t.cq then q1 else bif !decide (1<=t.State/\t.State<=4) then q1 else bif !decide (0<=t.bg/\t.bg<=4) then q1 else bif t.State==1 then bif t.bg !=0 then q1 else q2 else q2)
 dsimp only
 have e:∀v:aZ,(v.K==0&&(v.N==0&&(v.S.toList==ByteArray.toList {data:= #[]}&&true)))=decide (v=gh):=fun v=>sC v gh
 simp only[e]
 simp only[gj]
 repeat' (refine aa (fun h=> ?_) (fun h=> ?_))
 all_goals (refine cK ?_;grind)
def TJ:=bB (α:=(List ag)×(List (DA UU)->Option Value)) (qC (qL .aw) (q1 qF)) [.ro,.ro] (fun(l,p)=>[∀j:Nat,j<l.length->p [cb (l.getD j aq)]=some (.bool (bw (p [cb (l.getD j aq)])))]) (fun(l,p)=>⟨[dI (ji l.length (fun j=>bw (p [cb (l.getD j aq)])))],[],[]⟩)
def zX(l:List ag)(p:(List (DA UU)->Option Value)):Int×Unit->Prop:=fun(i,_)=>0<=i/\i<=l.length/\∀j:Nat,(j:Int)<i->bw (p [cb (l.getD j aq)])=false
def zd(l:List ag)(p:(List (DA UU)->Option Value)):Int×Unit->Nat:=fun(i,_)=>l.length-i.toNat
def aiC:AX TJ:=fun(l,p)=>bh [(2,aB [iI 8] (fun _=>zX l p) (zd l p))]
def JO:HH:=hF TJ func177 [] aiC fun x hp hb=>by
 obtain⟨l,p⟩:=x
 have la:L9 l.length:=eY (hb _ m0)
 have bD:∀j:Nat,j<l.length->p [cb (l.getD j aq)]=some (.bool (bw (p [cb (l.getD j aq)]))):=hp _ m0
 clear hp hb
 apply vE (zX l p (0,())/\∀(y:Int×PUnit),let x1:=l.getD y.1.toNat aq;let x0:=bw (p [{agg:=true,cs:=[CS x1.F.Kind,CL .bm x1.F.ae,CS x1.cq,CI x1.State,CI x1.bg,CI x1.jv,CI x1.V.K,CI x1.V.N,CS x1.V.S]:DA UU}]);let q0:=(wrap i64 (y.1+1),());zX l p y->bif decide (y.1<(l.length:Int)) then 0<=y.1/\y.1.toNat<l.length/\p [{agg:=true,cs:=[CS x1.F.Kind,CL .bm x1.F.ae,CS x1.cq,CI x1.State,CI x1.bg,CI x1.jv,CI x1.V.K,CI x1.V.N,CS x1.V.S]:DA UU}]=some (Value.bool x0)/\bif x0 then Li y.1 (ji (l.length) fun(j:Nat)=>bw (p [cb (l.getD j aq)])) else zX l p q0/\zd l p q0<zd l p y else Li (-1) (ji (l.length) fun(j:Nat)=>bw (p [cb (l.getD j aq)])))
 dsimp only
 refine⟨⟨by omega,by omega,by intro j hj;omega⟩,?_⟩
 rintro⟨i,⟨⟩⟩ ⟨h1,h2,hR⟩
 simp only[cb] at*
 refine aa ?_ ?_<;>intro hc
 ·have hc:=yT hc
  rw[wi]
  refine⟨by omega,by omega,bD i.toNat (by omega),aa (fun h=>cR ?_) (fun h=>⟨⟨by omega,by omega,ja (p:=fun j=>bw (p [cb (l.getD j aq)])) h1 hR h⟩,by simp only[zd];omega⟩)⟩
  rw[gp (i:=i.toNat) (by omega) h (fun j hj=>hR j (by omega))]
  omega
 ·have hc:=yF hc
  exact cR (iT (fun j hj=>hR j (by omega))).symm
def xY:jH UU where
 α:=ag×aA
 md:=[.ro,.ro]
 of:=oC (oA .aw) (o1 (oP .cP))
 ds:=fun x=>[dA .aw x.1,dP .cP x.2]
 pre:=fun _=>[]
 mE:=fun(t,f)=>⟨[dO (decide (t.F=f))],[],[]⟩
 law:=lC (lA .aw) (l1 (lP .cP))
def agc:HH:=hF xY func234 [JP] a0 fun x hp hb=>by
 obtain⟨t,f⟩:=x
 clear hp hb
 apply vE (Lb (decide (t.F=f)) (decide (t.F=f)))
 exact aH _
def aeF:=bB (α:=(List ag)×aA) (qC (qL .aw) (q1 (qA .cP))) [.ro,.ro] (fun _=>[]) (fun(l,f)=>⟨[dI (placeOf l f)],[],[]⟩)
def UF:HH:=hF aeF func170 [JO,agc] a0 fun x hp hb=>by
 obtain⟨l,f⟩:=x
 clear hp hb
 apply vE ((∀(j:Nat),j<l.length->eQ xY [DV.ptr [CS f.Kind,CL .bm f.ae]] [cb (l.getD j aq)]=some (Value.bool (bw (eQ xY [DV.ptr [CS f.Kind,CL .bm f.ae]] [cb (l.getD j aq)]))))/\Li (ji (l.length) fun(j:Nat)=>bw (eQ xY [DV.ptr [CS f.Kind,CL .bm f.ae]] [cb (l.getD j aq)])) (placeOf l f))
 have hc:∀x:ag,eQ xY [.ptr [.lit (.string f.Kind),.sl .bm f.ae]] [cb x]=some (.bool (decide (x.F=f))):=fun x=>pT (x:=(x,f)) rfl rfl rfl rfl (by simp[xY])
 refine⟨fun j hj=> ?_,cR ?_⟩
 ·show eQ xY [.ptr [.lit (.string f.Kind),.sl .bm f.ae]] [cb (l.getD j aq)]=_
  rw[hc];rfl
 ·exact uh fun j hj=>by
   show bw (eQ xY [.ptr [.lit (.string f.Kind),.sl .bm f.ae]] [cb (l.getD j aq)])=_
   rw[hc];rfl
def acN:=bB (α:=List ag) (q1 (qL .aw)) [.ro] (fun _=>[]) (fun l=>⟨[dO (aO l)],[],[]⟩)
def EW(l:List ag):Int×Unit->Prop:=fun(i,_)=>0<=i/\i<=l.length/\l.length<=30/\∀j:Nat,(j:Int)<i->jd l j=true
def xi(l:List ag):Int×Unit->Nat:=fun(i,_)=>l.length-i.toNat
def aoQ:AX acN:=fun l=>bh [(4,aB [iI 10] (fun _=>EW l) (xi l))]
def Y2:HH:=hF acN func99 [agZ,UF] aoQ fun(l:List ag) hp hb=>by
 clear hp hb
 apply vE (let x0:=(l.length:Int);let q0:=Lb false (aO l);bif decide (x0>30) then q0 else EW l (0,())/\∀(y:Int×PUnit),let q1:=(wrap i64 (y.1+1),());EW l y->bif decide (y.1<x0) then 0<=y.1/\y.1.toNat<l.length/\bif !gj (l.getD y.1.toNat aq) then q0 else bif placeOf l (l.getD y.1.toNat aq).F !=y.1 then q0 else EW l q1/\xi l q1<xi l y else Lb true (aO l))
 dsimp only
 refine aa (fun h=>bG ?_) (fun h=>⟨⟨by omega,by omega,by have h:=yF h;omega,by intro j hj;omega⟩,?_⟩)
 ·have h:=yT h;simp only[aO];rw[decide_eq_false (by omega)];rfl
 rintro⟨i,⟨⟩⟩ ⟨h1,h2,h3,hR⟩
 simp only
 refine aa ?_ ?_<;>intro hc
 ·have hc:=yT hc
  have hN:jd l i.toNat=false->aO l=false:=fun h=>by
   have hf:allI l.length (jd l)=false:=gv (j:=i.toNat) (by omega) h
   simp only[aO,hf];simp
  have yB:(placeOf l (l.getD i.toNat aq).F=i)↔(anyI i.toNat fun k=>decide ((l.getD k aq).F=(l.getD i.toNat aq).F))=false:=by
   rw[mT]
   unfold placeOf
   rcases jh l.length (fun k=>decide ((l.getD k aq).F=(l.getD i.toNat aq).F)) with⟨g1,g2⟩|⟨m,g1,g2,g3,g4⟩
   ·have:=g2 i.toNat (by omega);simp at this
   ·rw[g2]
    constructor
    ·intro e j hj;exact g4 j (by omega)
    ·intro e
     by_cases hm:m<i.toNat
     ·have:=e m hm;rw[g3] at this;cases this
     ·by_cases ul:i.toNat<m
      ·have:=g4 i.toNat ul;simp at this
      ·omega
  simp(disch:=omega) only[wrap_i64]
  have hm:xi l (i+1,PUnit.unit)<xi l (i,()):=by simp only[xi];omega
  refine⟨by omega,by omega,aa (fun h=>bG (hN ?_)) (fun h=>aa (fun h'=>bG (hN ?_)) (fun h'=>⟨⟨by omega,by omega,h3,fo h1 hR ?_⟩,hm⟩))⟩
  ·simp only[jd];grind
  ·have:¬(placeOf l (l.getD i.toNat aq).F=i):=by simpa using h'
   rw[yB] at this
   simp only[jd];grind
  ·have:placeOf l (l.getD i.toNat aq).F=i:=by simpa using h'
   rw[yB] at this
   simp only[jd,this];grind
 ·have hc:=yF hc
  have hA:allI l.length (jd l)=true:=hJ fun j hj=>hR j (by omega)
  refine cK ?_
  simp only[aO,hA];grind
def ac4:=bB (α:=List ag) (q1 (qL .aw)) [.ro] (fun _=>[]) (fun l=>⟨[dO (aO l)],[],[]⟩)
def Fa(l:List ag):Int×Unit->Prop:=fun(i,_)=>0<=i/\i<=l.length/\∀j:Nat,(j:Int)<i->jd l j=true
def xk(l:List ag):Int×Unit->Nat:=fun(i,_)=>l.length-i.toNat
def E_(l:List ag):Int×Int×Unit->Int×Int×Unit->Prop:=fun(i0,k0,_) (i,k,_)=>i=i0/\0<=k/\k<=i/\∀j:Nat,(j:Int)<k->decide ((l.getD j aq).F=(l.getD i.toNat aq).F)=false
def EA(l:List ag):Int×Int×Unit->Nat:=fun(i,k,_)=>i.toNat-k.toNat
def ao7:AX ac4:=fun l=>bh [(2,aB [iI 3] (fun _=>Fa l) (xk l)),(7,aB [iI 3,iI 4] (E_ l) (EA l))]
def anZ:HH:=hF ac4 func74 [ahg,JS] ao7 fun(l:List ag) hp hb=>by
 have la:L9 l.length:=eY (hb _ m0)
 clear hp hb
 apply vE (let x0:=(l.length:Int);Fa l (0,())/\∀(y:Int×PUnit),let q0:=(y.1,0,());Fa l y->bif decide (y.1<x0) then 0<=y.1/\y.1.toNat<l.length/\bif !gj (l.getD y.1.toNat aq) then Lb false (aO l) else E_ l q0 q0/\∀(aJ:Int×Int×PUnit),let x1:=aJ.2.1.toNat;let q1:=(aJ.1,wrap i64 (aJ.2.1+1),());let q2:=(wrap i64 (aJ.1+1),());E_ l q0 aJ->bif decide (aJ.2.1<aJ.1) then 0<=aJ.1/\aJ.1.toNat<l.length/\0<=aJ.2.1/\x1<l.length/\bif decide ((l.getD aJ.1.toNat aq).F=(l.getD x1 aq).F) then Lb false (aO l) else E_ l q0 q1/\EA l q1<EA l aJ else Fa l q2/\xk l q2<xk l y else Lb (decide (x0<=30)) (aO l))
 dsimp only
 refine⟨⟨by omega,by omega,by intro j hj;omega⟩,?_⟩
 rintro⟨i,⟨⟩⟩ ⟨h1,h2,hR⟩
 simp only
 refine aa ?_ ?_<;>intro hc
 ·have hc:=yT hc
  have hN:jd l i.toNat=false->aO l=false:=fun h=>by
   have hf:allI l.length (jd l)=false:=gv (j:=i.toNat) (by omega) h
   simp only[aO,hf];simp
  have hm:xk l (i+1,PUnit.unit)<xk l (i,()):=by simp only[xk];omega
  refine⟨by omega,by omega,aa (fun h=>bG (hN ?_)) (fun h=>⟨⟨rfl,by omega,by omega,by intro j hj;omega⟩,?_⟩)⟩
  ·simp only[jd];grind
  rintro⟨i,k,⟨⟩⟩ ⟨rfl,g1,g2,gR⟩
  simp only
  refine aa ?_ ?_<;>intro hk
  ·have hk:=yT hk
   simp(disch:=omega) only[wrap_i64]
   refine⟨by omega,by omega,by omega,by omega,aa (fun xN=>bG (hN ?_)) (fun xN=>⟨⟨rfl,by omega,by omega,ja g1 gR ?_⟩,by simp only[EA];omega⟩)⟩
   ·have ha:(anyI i.toNat fun k=>decide ((l.getD k aq).F=(l.getD i.toNat aq).F))=true:=ju (j:=k.toNat) (by omega) (by grind)
    simp only[jd,ha];simp
   ·grind
  ·have hk:=yF hk
   simp(disch:=omega) only[wrap_i64]
   refine⟨⟨by omega,by omega,fo h1 hR ?_⟩,hm⟩
   have ha:(anyI i.toNat fun k=>decide ((l.getD k aq).F=(l.getD i.toNat aq).F))=false:=gr fun j hj=>gR j (by omega)
   simp only[jd,ha];grind
 ·have hc:=yF hc
  have hA:allI l.length (jd l)=true:=hJ fun j hj=>hR j (by omega)
  refine cK ?_
  simp only[aO,hA];grind
def k_(b:Int):Bool:=decide (65<=b/\b<=90)
def wJ(b:Int):Bool:=kf b||k_ b
def ll(s:BA):Bool:=decide (1<=s.size/\s.size<=12)&&k_ ((bs s).getD 0 0).toNat&&(bs s).all (jE wJ)
def kp(a:bU):Bool:=bif decide (a.K=1) then ll a.S&&decide (a.V=gh) else bif decide (a.K=2) then df a.V&&decide (a.S=ak) else bif decide (a.K=3) then decide (a.S=ak)&&decide (a.V=gh) else false
def gV(a:bU):Bool:=kp a&& !decide (a.K=3)
def kg(p:b8):Bool:=b7 p.Kind&&decide (p.aU.length<=5)&&p.aU.all kp
def jT(c:bo):Bool:=decide (1<=c.Op/\c.Op<=3)&&gV c.L&&gV c.R
def N5:BA:=⟨#[43]⟩
def IQ:BA:=⟨#[45]⟩
def jk(e:bC):Bool:=bif decide (e.Op=ak) then gV e.L&&decide (e.R=np) else bif decide (e.Op=N5)||decide (e.Op=IQ) then gV e.L&&gV e.R else false
def fG(l:List bC):Bool:=decide (l.length<=5)&&l.all jk
def Hh(a:cC):Bool:=decide (a.Name=ak)&&decide (a.aU.length=0)&&decide (a.cq=ak)
def dN(a:cC):Bool:=
 bif decide (a.Kind=1) then b7 a.Name&&fG a.aU&&decide (a.N=0)&&decide (a.cq=ak)
 else bif decide (a.Kind=2) then Hh a&&decide (0<=a.N/\a.N<=7)
 else bif decide (a.Kind=3) then b7 a.Name&&fG a.aU&&decide (a.N=0)&&iu a.cq
 else bif decide (a.Kind=4) then b7 a.Name&&fG a.aU&&decide (0<=a.N/\a.N<=100000)&&decide (a.cq=ak)
 else bif decide (a.Kind=5)||decide (a.Kind=6) then Hh a&&decide (a.N=0) else false
theorem Hj(a b:bU):(a.K==b.K&&(a.S.toList==b.S.toList&&(a.V.K==b.V.K&&(a.V.N==b.V.N&&(a.V.S.toList==b.V.S.toList&&true))&&true)))=decide (a=b):=by
 obtain⟨K,S,K2,N2,S2⟩:=a
 obtain⟨K',S',K2',N2',S2'⟩:=b
 simp only[bt,Lc]
 rw[FG]
 simp only[eE,beq_iff_eq,decide_eq_true_eq,bU.mk.injEq,aZ.mk.injEq]
def ady:=bB (α:=Int) (q1 qY) [.ro] (fun _=>[]) (fun b=>⟨[dO (k_ b)],[],[]⟩)
def afo:HH:=hF ady func302 [] a0 fun(b:Int) hp hb=>by
 skip
 clear hp hb
 apply vE (bif decide (b≥65) then Lb (decide (b<=90)) (k_ b) else Lb false (k_ b))
 refine aa (fun h=>cK ?_) (fun h=>cK ?_)<;>grind [k_]
def adA:=bB (α:=Int) (q1 qY) [.ro] (fun c=>[0<=c/\c<=255]) (fun c=>⟨[dO (k_ c)],[],[]⟩)
def afq:HH:=hF adA func300 [rG] a0 fun(c:Int) hp hb=>by
 have bD:0<=c/\c<=255:=hp _ m0
 clear hp hb
 apply vE (Lb (decide (65<=wrap i64 c/\wrap i64 c<=90)) (k_ c))
 rw[wi]
 exact cK rfl
def SU:=bB (α:=BA) (q1 qS) [.ro] (fun _=>[]) (fun s=>⟨[dO (ll s)],[],[]⟩)
def zA(s:BA):Int×Unit->Prop:=fun(i,_)=>0<=i/\i<=s.size/\((bs s).drop i.toNat).all (jE wJ)=(bs s).all (jE wJ)/\(0<i->k_ ((bs s).getD 0 0).toNat=true)
def tw(s:BA):Int×Unit->Nat:=fun(i,_)=>s.size-i.toNat
def ahQ:AX SU:=fun s=>bh [(2,aB [iI 3] (fun _=>zA s) (tw s))]
def afu:HH:=hF SU func293 [afq,Ox,rG] ahQ fun(s:BA) hp hb=>by
 have Na:=N3 (s:=s) (hb _ m0)
 clear hp hb
 apply vE (let q0:=(↑(s.size):Int);zA s (0,())/\∀(y:Int×PUnit),let x0:=(↑(UInt8.toNat (s.data.toList.getD y.1.toNat (0:UInt8))):Int);let q1:=(wrap i64 (y.1+1),());let q2:=zA s q1/\tw s q1<tw s y;let q3:=(0:Int)<=x0/\x0<=255;zA s y->bif decide (y.1<q0) then 0<=y.1/\y.1.toNat<s.size/\q3/\bif !k_ x0 then bif y.1==0 then Lb false (ll s) else 0<=y.1/\y.1.toNat<s.size/\q3/\bif !kf x0 then Lb false (ll s) else q2 else q2 else Lb (decide (1<=q0/\q0<=12)) (ll s))
 dsimp only
 refine⟨⟨by omega,by omega,rfl,by omega⟩,?_⟩
 rintro⟨i,⟨⟩⟩ ⟨h1,h2,hR,hS⟩
 have hl:=nd s
 simp only[Dd]
 refine aa ?_ ?_<;>intro hc
 ·have hc:=yT hc
  have hb:=((bs s).getD i.toNat 0).toNat_lt
  rw[ed _ _ 0 h1 (by omega)] at hR
  rw[wi]
  have hN:(bs s).all (jE wJ)=false->ll s=false:=fun h=>by simp[ll,h]
  have hm:tw s (i+1,PUnit.unit)<tw s (i,()):=by simp only[tw];omega
  refine⟨by omega,by omega,⟨by omega,by omega⟩,aa (fun h=>aa (fun h'=>bG ?_) (fun h'=>⟨by omega,by omega,⟨by omega,by omega⟩,aa (fun xN=>bG (hN ?_)) (fun xN=>⟨⟨by omega,by omega,?_,fun _=>hS ?_⟩,hm⟩)⟩)) (fun h=>⟨⟨by omega,by omega,?_,fun _=> ?_⟩,hm⟩)⟩
  ·have h':i=0:=by simpa using h'
   subst h'
   have h:k_ (((bs s).getD 0 0).toNat:Int)=false:=by simpa using h
   simp only[ll,h];simp
  ·rw[<-hR];simp only[jE,wJ];simp at h xN;simp[h,xN]
  ·rw[<-hR];simp only[jE,wJ];simp at h xN;simp[h,xN]
  ·have h':¬i=0:=by simpa using h'
   omega
  ·rw[<-hR];simp only[jE,wJ];simp at h;simp[h]
  ·by_cases hz:i=0
   ·subst hz;simpa using h
   ·exact hS (by omega)
 ·have hc:=yF hc
  rw[bZ _ (by omega)] at hR
  refine cK ?_
  simp only[ll,<-hR]
  by_cases hz:0<i
  ·rw[hS hz];simp only[RQ];grind
  ·rw[decide_eq_false (by omega),decide_eq_false (by omega)];rfl
def SS:=bB (α:=BA) (q1 qS) [.ro] (fun _=>[]) (fun s=>⟨[dO (ll s)],[],[]⟩)
def zz(s:BA):Int×Unit->Prop:=fun(i,_)=>0<=i/\i<=s.size/\1<=s.size/\s.size<=12/\k_ ((bs s).getD 0 0).toNat=true/\((bs s).drop i.toNat).all (jE wJ)=(bs s).all (jE wJ)
def tv(s:BA):Int×Unit->Nat:=fun(i,_)=>s.size-i.toNat
def ahO:AX SS:=fun s=>bh [(4,aB [iI 3] (fun _=>zz s) (tv s))]
def afr:HH:=hF SS func296 [afo,Ut] ahO fun(s:BA) hp hb=>by
 clear hp hb
 apply vE (let q0:=Lb false (ll s);let q1:=(↑(s.size):Int);bif decide (q1<1) then q0 else bif decide (q1>12) then q0 else(0:Int)<=(0:Int)/\Int.toNat 0<s.size/\bif !k_ (↑(UInt8.toNat (s.data.toList.getD (Int.toNat 0) (0:UInt8))):Int) then q0 else zz s (0,())/\∀(y:Int×PUnit),let x0:=(↑(UInt8.toNat (s.data.toList.getD y.1.toNat (0:UInt8))):Int);let q2:=(wrap i64 (y.1+1),());let q3:=zz s q2/\tv s q2<tv s y;zz s y->bif decide (y.1<q1) then 0<=y.1/\y.1.toNat<s.size/\bif !kf x0 then 0<=y.1/\y.1.toNat<s.size/\bif !k_ x0 then q0 else q3 else q3 else Lb true (ll s))
 dsimp only
 have hl:=nd s
 simp only[Dd]
 refine aa (fun h=>bG ?_) (fun h=>aa (fun h'=>bG ?_) (fun h'=> ?_))
 ·have h:=yT h;simp only[ll];rw[decide_eq_false (by omega)];rfl
 ·have h':=yT h';simp only[ll];rw[decide_eq_false (by omega)];rfl
 have h:=yF h
 have h':=yF h'
 refine⟨by omega,by omega,aa (fun g=>bG ?_) (fun g=>⟨⟨by omega,by omega,by omega,by omega,by simpa using g,rfl⟩,?_⟩)⟩
 ·have g:k_ (((bs s).getD 0 0).toNat:Int)=false:=by simpa using g
  simp only[ll,g];simp
 rintro⟨i,⟨⟩⟩ ⟨h1,h2,h3,h4,hS,hR⟩
 simp only
 refine aa ?_ ?_<;>intro hc
 ·have hc:=yT hc
  rw[ed _ _ 0 h1 (by omega)] at hR
  rw[wi]
  have hN:(bs s).all (jE wJ)=false->ll s=false:=fun h=>by simp[ll,h]
  have hm:tv s (i+1,PUnit.unit)<tv s (i,()):=by simp only[tv];omega
  refine⟨by omega,by omega,aa (fun h=>⟨by omega,by omega,aa (fun xN=>bG (hN ?_)) (fun xN=>⟨⟨by omega,by omega,h3,h4,hS,?_⟩,hm⟩)⟩) (fun h=>⟨⟨by omega,by omega,h3,h4,hS,?_⟩,hm⟩)⟩
  ·rw[<-hR];simp only[jE,wJ];simp at h xN;simp[h,xN]
  ·rw[<-hR];simp only[jE,wJ];simp at h xN;simp[h,xN]
  ·rw[<-hR];simp only[jE,wJ];simp at h;simp[h]
 ·have hc:=yF hc
  rw[bZ _ (by omega)] at hR
  refine pX ?_
  simp only[ll,<-hR,hS,decide_eq_true (show 1<=s.size/\s.size<=12 from⟨h3,h4⟩)];rfl
def adL:=bB (α:=bU) (q1 (qA .iy)) [.ro] (fun _=>[]) (fun a=>⟨[dO (kp a)],[],[]⟩)
def On:HH:=hF adL func280 [afu,Ow] a0 fun(a:bU) hp hb=>by
 clear hp hb
 apply vE (let x0:=a.S.toList==ByteArray.toList {data:= #[]:BA};let q0:=Lb (a.V.K==0&&(a.V.N==0&&(a.V.S.toList==ByteArray.toList {data:= #[]:BA}&&true))) (kp a);let q1:=Lb false (kp a);bif a.K==1 then bif ll a.S then q0 else q1 else bif a.K==2 then bif df a.V then Lb x0 (kp a) else q1 else bif a.K==3 then bif x0 then q0 else q1 else q1)
 dsimp only
 have ev:∀v:aZ,(v.K==0&&(v.N==0&&(v.S.toList==ByteArray.toList {data:= #[]}&&true)))=decide (v=gh):=fun v=>sC v gh
 have e:∀s:BA,(s.toList==ByteArray.toList {data:= #[]})=decide (s=ak):=fun s=>bt _ _
 simp only[ev,e,kp]
 repeat' (refine aa (fun h=> ?_) (fun h=> ?_))
 all_goals (refine cK ?_;grind)
def adH:=bB (α:=bU) (q1 (qA .iy)) [.ro] (fun _=>[]) (fun a=>⟨[dO (kp a)],[],[]⟩)
def Uq:HH:=hF adH func285 [afr,JM] a0 fun(a:bU) hp hb=>by
 clear hp hb
 apply vE (let x0:=a.S.toList==ByteArray.toList {data:= #[]:BA};let q0:=Lb (a.V.K==0&&(a.V.N==0&&(a.V.S.toList==ByteArray.toList {data:= #[]:BA}&&true))) (kp a);let q1:=Lb false (kp a);bif a.K==1 then bif ll a.S then q0 else q1 else bif a.K==2 then bif x0 then Lb (df a.V) (kp a) else q1 else bif a.K==3 then bif x0 then q0 else q1 else q1)
 dsimp only
 have ev:∀v:aZ,(v.K==0&&(v.N==0&&(v.S.toList==ByteArray.toList {data:= #[]}&&true)))=decide (v=gh):=fun v=>sC v gh
 have e:∀s:BA,(s.toList==ByteArray.toList {data:= #[]})=decide (s=ak):=fun s=>bt _ _
 simp only[ev,e,kp]
 repeat' (refine aa (fun h=> ?_) (fun h=> ?_))
 all_goals (refine cK ?_;grind)
def Ta:=bB (α:=b8) (q1 (qA .fU)) [.ro] (fun _=>[]) (fun p=>⟨[dO (kg p)],[],[]⟩)
def zI(p:b8):Int×T9×Unit->Prop:=fun(i,b,_)=>b=(p.Kind,p.aU,p.Not,())/\0<=i/\i<=p.aU.length/\(p.aU.drop i.toNat).all kp=p.aU.all kp
def yU(p:b8):Int×T9×Unit->Nat:=fun(i,b,_)=>p.aU.length-i.toNat
def ah5:AX Ta:=fun p=>bh [(2,aB [iI 3,.box 1 (1,1024) [.lit .str,.shr .iy,.lit .bool]] (fun _=>zI p) (yU p))]
def afX:HH:=hF Ta func254 [On,Dq] ah5 fun(p:b8) hp hb=>by
 have bj:=yK (x:=p) (hb _ m0)
 have KF:=bj.1
 have KG:=bj.2
 clear hp hb
 apply vE (zI p (0,(p.Kind,p.aU,p.Not,()),())/\∀(y:Int×T13×PUnit),let x1:=y.2.1.2.1.length;let x0:=(↑x1:Int);let q0:=(wrap i64 (y.1+1),(y.2.1.1,y.2.1.2.1,y.2.1.2.2.1,()),());zI p y->bif decide (y.1<x0) then 0<=y.1/\y.1.toNat<x1/\bif !kp (y.2.1.2.1.getD y.1.toNat np) then Lb false (kg p) else zI p q0/\yU p q0<yU p y else bif b7 y.2.1.1 then Lb (decide (x0<=5)) (kg p) else Lb false (kg p))
 dsimp only
 refine⟨⟨rfl,by omega,by omega,rfl⟩,?_⟩
 rintro⟨i,⟨bk,ba,bn,⟨⟩⟩,⟨⟩⟩ ⟨pO,h1,h2,hR⟩
 cases pO
 simp only
 refine aa ?_ ?_<;>intro hc
 ·have hc:=yT hc
  rw[ed _ _ np h1 (by omega)] at hR
  rw[wi]
  refine⟨by omega,by omega,aa (fun h=>bG ?_) (fun h=>⟨⟨rfl,by omega,by omega,?_⟩,?_⟩)⟩
  ·simp only[kg,<-hR];simp at h;simp[h]
  ·rw[<-hR];simp at h;simp[h]
  ·simp only[yU];omega
 ·have hc:=yF hc
  rw[bZ _ (by omega)] at hR
  simp only[kg,<-hR,RQ]
  repeat' (refine aa (fun h=> ?_) (fun h=> ?_))
  all_goals (refine cK ?_;grind)
def S5:=bB (α:=b8) (q1 (qA .fU)) [.ro] (fun _=>[]) (fun p=>⟨[dO (kg p)],[],[]⟩)
def zF(p:b8):Int×Unit->Prop:=fun(i,_)=>0<=i/\i<=p.aU.length/\p.aU.length<=5/\b7 p.Kind=true/\(p.aU.drop i.toNat).all kp=p.aU.all kp
def yQ(p:b8):Int×Unit->Nat:=fun(i,_)=>p.aU.length-i.toNat
def ahZ:AX S5:=fun p=>bh [(4,aB [iI 18] (fun _=>zF p) (yQ p))]
def afM:HH:=hF S5 func267 [Uq,Dp] ahZ fun(p:b8) hp hb=>by
 clear hp hb
 apply vE (let x0:=(p.aU.length:Int);let q0:=Lb false (kg p);bif !b7 p.Kind then q0 else bif decide (x0>5) then q0 else zF p (0,())/\∀(y:Int×PUnit),let q1:=(wrap i64 (y.1+1),());zF p y->bif decide (y.1<x0) then 0<=y.1/\y.1.toNat<p.aU.length/\bif !kp (p.aU.getD y.1.toNat np) then q0 else zF p q1/\yQ p q1<yQ p y else Lb true (kg p))
 dsimp only
 refine aa (fun h=>bG ?_) (fun h=>aa (fun h'=>bG ?_) (fun h'=> ?_))
 ·simp only[kg];simp at h;simp[h]
 ·have h':=yT h';simp only[kg];rw[decide_eq_false (show¬p.aU.length<=5 by omega)];simp
 have h':=yF h'
 refine⟨⟨by omega,by omega,by omega,by simpa using h,rfl⟩,?_⟩
 rintro⟨i,⟨⟩⟩ ⟨h1,h2,h3,h4,hR⟩
 simp only
 refine aa ?_ ?_<;>intro hc
 ·have hc:=yT hc
  rw[ed _ _ np h1 (by omega)] at hR
  rw[wi]
  refine⟨by omega,by omega,aa (fun h=>bG ?_) (fun h=>⟨⟨by omega,by omega,h3,h4,?_⟩,?_⟩)⟩
  ·simp only[kg,<-hR];simp at h;simp[h]
  ·rw[<-hR];simp at h;simp[h]
  ·simp only[yQ];omega
 ·have hc:=yF hc
  rw[bZ _ (by omega)] at hR
  refine pX ?_
  simp only[kg,<-hR,h4,decide_eq_true h3];rfl
def adQ:=bB (α:=bU) (q1 (qA .iy)) [.ro] (fun _=>[]) (fun a=>⟨[dO (gV a)],[],[]⟩)
def Us:HH:=hF adQ func268 [Uq] a0 fun(a:bU) hp hb=>by
 clear hp hb
 apply vE (bif a.K !=3 then Lb (kp a) (gV a) else Lb false (gV a))
 simp only[gV]
 repeat' (refine aa (fun h=> ?_) (fun h=> ?_))
 all_goals (refine cK ?_;grind)
def adz:=bB (α:=bU) (q1 (qA .iy)) [.ro] (fun _=>[]) (fun a=>⟨[dO (gV a)],[],[]⟩)
def afp:HH:=hF adz func301 [On] a0 fun(a:bU) hp hb=>by
 clear hp hb
 apply vE (bif kp a then Lb (a.K !=3) (gV a) else Lb false (gV a))
 simp only[gV]
 repeat' (refine aa (fun h=> ?_) (fun h=> ?_))
 all_goals (refine cK ?_;grind)
def adX:=bB (α:=bo) (q1 (qA .de)) [.ro] (fun _=>[]) (fun c=>⟨[dO (jT c)],[],[]⟩)
def afW:HH:=hF adX func255 [rG,On] a0 fun(c:bo) hp hb=>by
 clear hp hb
 apply vE (let q0:=Lb false (jT c);bif decide (1<=c.Op/\c.Op<=3) then bif kp c.L then bif kp c.R then bif c.L.K !=3 then Lb (c.R.K !=3) (jT c) else q0 else q0 else q0 else q0)
 dsimp only
 simp only[jT,gV]
 repeat' (refine aa (fun h=> ?_) (fun h=> ?_))
 all_goals (refine cK ?_;grind)
def aec:=bB (α:=bo) (q1 (qA .de)) [.ro] (fun _=>[]) (fun c=>⟨[dO (jT c)],[],[]⟩)
def agk:HH:=hF aec func224 [xo,Us] a0 fun(c:bo) hp hb=>by
 clear hp hb
 apply vE (bif decide (1<=c.Op/\c.Op<=3) then bif gV c.L then Lb (gV c.R) (jT c) else Lb false (jT c) else Lb false (jT c))
 simp only[jT]
 repeat' (refine aa (fun h=> ?_) (fun h=> ?_))
 all_goals (refine cK ?_;grind)
def adB:=bB (α:=bC) (q1 (qA .fc)) [.ro] (fun _=>[]) (fun e=>⟨[dO (jk e)],[],[]⟩)
def aft:HH:=hF adB func294 [afp] a0 fun(e:bC) hp hb=>by
 clear hp hb
 apply vE (let x0:=e.Op.toList==ByteArray.toList {data:= #[43]:BA};let q0:=bif gV e.L then Lb (gV e.R) (jk e) else Lb false (jk e);let q1:=Lb false (jk e);bif e.Op.toList==ByteArray.toList {data:= #[]:BA} then bif gV e.L then Lb (e.R.K==0&&(e.R.S.toList==ByteArray.toList {data:= #[]:BA}&&(e.R.V.K==0&&(e.R.V.N==0&&(e.R.V.S.toList==ByteArray.toList {data:= #[]:BA}&&true))&&true))) (jk e) else q1 else bif x0 then bif x0 then q0 else q1 else bif e.Op.toList==ByteArray.toList {data:= #[45]:BA} then q0 else q1)
 dsimp only
 have e:∀s:BA,(s.toList==ByteArray.toList {data:= #[]})=decide (s=ak):=fun s=>bt _ _
 have ea:∀a:bU,(a.K==0&&(a.S.toList==ByteArray.toList {data:= #[]}&&(a.V.K==0&&(a.V.N==0&&(a.V.S.toList==ByteArray.toList {data:= #[]}&&true))&&true)))=decide (a=np):=fun a=>Hj a np
 have e1:∀s:BA,(s.toList==ByteArray.toList {data:= #[43]})=decide (s=N5):=fun s=>bt _ _
 have e2:∀s:BA,(s.toList==ByteArray.toList {data:= #[45]})=decide (s=IQ):=fun s=>bt _ _
 simp only[ea]
 simp only[e,e1,e2,jk]
 repeat' (refine aa (fun h=> ?_) (fun h=> ?_))
 all_goals (refine cK ?_;grind)
def adG:=bB (α:=bC) (q1 (qA .fc)) [.ro] (fun _=>[]) (fun e=>⟨[dO (jk e)],[],[]⟩)
def afy:HH:=hF adG func286 [Us] a0 fun(e:bC) hp hb=>by
 clear hp hb
 apply vE (let x0:=e.Op.toList==ByteArray.toList {data:= #[43]:BA};let q0:=bif gV e.L then Lb (gV e.R) (jk e) else Lb false (jk e);let q1:=Lb false (jk e);bif e.Op.toList==ByteArray.toList {data:= #[]:BA} then bif gV e.L then Lb (e.R.K==0&&(e.R.S.toList==ByteArray.toList {data:= #[]:BA}&&(e.R.V.K==0&&(e.R.V.N==0&&(e.R.V.S.toList==ByteArray.toList {data:= #[]:BA}&&true))&&true))) (jk e) else q1 else bif x0 then bif x0 then q0 else q1 else bif e.Op.toList==ByteArray.toList {data:= #[45]:BA} then q0 else q1)
 dsimp only
 have e:∀s:BA,(s.toList==ByteArray.toList {data:= #[]})=decide (s=ak):=fun s=>bt _ _
 have ea:∀a:bU,(a.K==0&&(a.S.toList==ByteArray.toList {data:= #[]}&&(a.V.K==0&&(a.V.N==0&&(a.V.S.toList==ByteArray.toList {data:= #[]}&&true))&&true)))=decide (a=np):=fun a=>Hj a np
 have e1:∀s:BA,(s.toList==ByteArray.toList {data:= #[43]})=decide (s=N5):=fun s=>bt _ _
 have e2:∀s:BA,(s.toList==ByteArray.toList {data:= #[45]})=decide (s=IQ):=fun s=>bt _ _
 simp only[ea]
 simp only[e,e1,e2,jk]
 repeat' (refine aa (fun h=> ?_) (fun h=> ?_))
 all_goals (refine cK ?_;grind)
def SW:=bB (α:=List bC) (q1 (qL .fc)) [.ro] (fun _=>[]) (fun es=>⟨[dO (fG es)],[],[]⟩)
def zB(es:List bC):Int×Unit->Prop:=fun(i,_)=>0<=i/\i<=es.length/\(es.drop i.toNat).all jk=es.all jk
def yM(es:List bC):Int×Unit->Nat:=fun(i,_)=>es.length-i.toNat
def ahR:AX SW:=fun es=>bh [(2,aB [iI 3] (fun _=>zB es) (yM es))]
def afC:HH:=hF SW func281 [aft] ahR fun(es:List bC) hp hb=>by
 have apJ:L9 es.length:=eY (hb _ m0)
 clear hp hb
 apply vE (let x0:=(es.length:Int);zB es (0,())/\∀(y:Int×PUnit),let q0:=(wrap i64 (y.1+1),());zB es y->bif decide (y.1<x0) then 0<=y.1/\y.1.toNat<es.length/\bif !jk (es.getD y.1.toNat ke) then Lb false (fG es) else zB es q0/\yM es q0<yM es y else Lb (decide (x0<=5)) (fG es))
 dsimp only
 refine⟨⟨by omega,by omega,rfl⟩,?_⟩
 rintro⟨i,⟨⟩⟩ ⟨h1,h2,hR⟩
 simp only
 refine aa ?_ ?_<;>intro hc
 ·have hc:=yT hc
  rw[ed _ _ ke h1 (by omega)] at hR
  rw[wi]
  refine⟨by omega,by omega,aa (fun h=>bG ?_) (fun h=>⟨⟨by omega,by omega,?_⟩,?_⟩)⟩
  ·simp only[fG,<-hR];simp at h;simp[h]
  ·rw[<-hR];simp at h;simp[h]
  ·simp only[yM];omega
 ·have hc:=yF hc
  rw[bZ _ (by omega)] at hR
  refine cK ?_
  simp only[fG,<-hR];simp;omega
def S4:=bB (α:=cC) (q1 (qA .fV)) [.ro] (fun _=>[]) (fun a=>⟨[dO (b7 a.Name&&fG a.aU)],[],[]⟩)
def zE(a:cC):Int×Unit->Prop:=fun(i,_)=>0<=i/\i<=a.aU.length/\a.aU.length<=5/\b7 a.Name=true/\(a.aU.drop i.toNat).all jk=a.aU.all jk
def yP(a:cC):Int×Unit->Nat:=fun(i,_)=>a.aU.length-i.toNat
def ahY:AX S4:=fun a=>bh [(4,aB [iI 18] (fun _=>zE a) (yP a))]
def afL:HH:=hF S4 func269 [afy,Dp] ahY fun(a:cC) hp hb=>by
 clear hp hb
 apply vE (let x0:=(a.aU.length:Int);let q0:=b7 a.Name&&fG a.aU;bif !b7 a.Name then Lb false q0 else bif decide (x0>5) then Lb false q0 else zE a (0,())/\∀(y:Int×PUnit),let q1:=(wrap i64 (y.1+1),());zE a y->bif decide (y.1<x0) then 0<=y.1/\y.1.toNat<a.aU.length/\bif !jk (a.aU.getD y.1.toNat ke) then Lb false q0 else zE a q1/\yP a q1<yP a y else Lb true q0)
 dsimp only
 refine aa (fun h=>bG ?_) (fun h=>aa (fun h'=>bG ?_) (fun h'=> ?_))
 ·simp at h;simp[h]
 ·have h':=yT h';simp only[fG];rw[decide_eq_false (show¬a.aU.length<=5 by omega)];simp
 have h':=yF h'
 refine⟨⟨by omega,by omega,by omega,by simpa using h,rfl⟩,?_⟩
 rintro⟨i,⟨⟩⟩ ⟨h1,h2,h3,h4,hR⟩
 simp only
 refine aa ?_ ?_<;>intro hc
 ·have hc:=yT hc
  rw[ed _ _ ke h1 (by omega)] at hR
  rw[wi]
  refine⟨by omega,by omega,aa (fun h=>bG ?_) (fun h=>⟨⟨by omega,by omega,h3,h4,?_⟩,?_⟩)⟩
  ·simp only[fG,<-hR];simp at h;simp[h]
  ·rw[<-hR];simp at h;simp[h]
  ·simp only[yP];omega
 ·have hc:=yF hc
  rw[bZ _ (by omega)] at hR
  refine pX ?_
  simp only[fG,<-hR,h4,decide_eq_true h3];rfl
def adV:=bB (α:=cC) (q1 (qA .fV)) [.ro] (fun _=>[]) (fun a=>⟨[dO (dN a)],[],[]⟩)
def afV:HH:=hF adV func257 [rG,Dq,afC] a0 fun(a:cC) hp hb=>by
 clear hp hb
 apply vE (let x0:=a.cq.toList==ByteArray.toList {data:= #[]:BA};let x1:=a.Kind==5;let x2:=a.N==0;let q0:=bif a.Kind==1 then bif b7 a.Name then bif fG a.aU then bif x2 then Lb x0 (dN a) else Lb false (dN a) else Lb false (dN a) else Lb false (dN a) else bif a.Kind==3 then bif b7 a.Name then bif fG a.aU then bif x2 then bif x0 then Lb true (dN a) else Lb (b7 a.cq) (dN a) else Lb false (dN a) else Lb false (dN a) else Lb false (dN a) else bif a.Kind==4 then bif b7 a.Name then bif fG a.aU then bif decide (0<=a.N/\a.N<=100000) then Lb x0 (dN a) else Lb false (dN a) else Lb false (dN a) else Lb false (dN a) else bif a.Kind==2 then Lb false (dN a) else bif x1 then bif x1 then Lb false (dN a) else Lb false (dN a) else bif a.Kind==6 then Lb false (dN a) else Lb false (dN a);let q1:=Lb false (dN a);let q2:=bif x0 then Lb x2 (dN a) else q1;bif a.Name.toList==ByteArray.toList {data:= #[]:BA} then bif (a.aU.length:Int)==0 then bif a.Kind==1 then bif b7 a.Name then bif fG a.aU then bif x2 then Lb x0 (dN a) else q1 else q1 else q1 else bif a.Kind==3 then bif b7 a.Name then bif fG a.aU then bif x2 then bif x0 then Lb true (dN a) else Lb (b7 a.cq) (dN a) else q1 else q1 else q1 else bif a.Kind==4 then bif b7 a.Name then bif fG a.aU then bif decide (0<=a.N/\a.N<=100000) then Lb x0 (dN a) else q1 else q1 else q1 else bif a.Kind==2 then bif x0 then Lb (decide (0<=a.N/\a.N<=7)) (dN a) else q1 else bif x1 then bif x1 then q2 else q1 else bif a.Kind==6 then q2 else q1 else q0 else q0)
 dsimp only
 have e:∀s:BA,(s.toList==ByteArray.toList {data:= #[]})=decide (s=ak):=fun s=>bt _ _
 simp only[e,dN,Hh,iu]
 repeat' (refine aa (fun h=> ?_) (fun h=> ?_))
 all_goals (refine cK ?_;grind)
def aeb:=bB (α:=cC) (q1 (qA .fV)) [.ro] (fun _=>[]) (fun a=>⟨[dO (dN a)],[],[]⟩)
def agj:HH:=hF aeb func225 [xo,afL,Ov] a0 fun(a:cC) hp hb=>by
 clear hp hb
 apply vE (let x0:=a.Kind==5;let x1:=b7 a.Name&&fG a.aU;let q0:=Lb (a.cq.toList==ByteArray.toList {data:= #[]:BA}) (dN a);let q1:=Lb false (dN a);let q2:=bif a.N==0 then q0 else q1;let q3:=bif x1 then bif decide (0<=a.N/\a.N<=100000) then q0 else q1 else q1;let q4:=bif x1 then bif a.N==0 then Lb (iu a.cq) (dN a) else q1 else q1;let q5:=bif (a.aU.length:Int)==0 then q2 else q1;bif a.Name.toList==ByteArray.toList {data:= #[]:BA} then bif a.Kind==1 then bif x1 then q2 else q1 else bif a.Kind==2 then bif (a.aU.length:Int)==0 then bif decide (0<=a.N/\a.N<=7) then q0 else q1 else q1 else bif a.Kind==3 then q4 else bif a.Kind==4 then q3 else bif x0 then bif x0 then q5 else q1 else bif a.Kind==6 then q5 else q1 else bif a.Kind==1 then bif x1 then q2 else q1 else bif a.Kind==2 then q1 else bif a.Kind==3 then q4 else bif a.Kind==4 then q3 else bif x0 then bif x0 then q1 else q1 else bif a.Kind==6 then q1 else q1)
 dsimp only
 have e:∀s:BA,(s.toList==ByteArray.toList {data:= #[]})=decide (s=ak):=fun s=>bt _ _
 simp only[e,dN,Hh,iu]
 repeat' (refine aa (fun h=> ?_) (fun h=> ?_))
 all_goals (refine cK ?_;grind)
def lM(l:List BA)(s:BA):Bool:=l.any fun t=>decide (t=s)
theorem pP{l:List BA}{s:BA}:lM l s=true↔s∈l:=by
 simp only[lM,sA,decide_eq_true_eq]
 exact⟨fun⟨t,h1,h2⟩=>h2▸h1,fun h=>⟨s,h,rfl⟩⟩
def ew(l:List BA)(s:BA):List BA:=if lM l s then l else l++[s]
def lE(l:List BA)(a:bU):List BA:=if a.K=1 then ew l a.S else l
def c_(l:List BA)(xs:List bU):List BA:=xs.foldl lE l
theorem xV{l:List BA}{s t:BA}:t∈ew l s↔t∈l\/t=s:=by
 unfold ew;split
 ·rename_i h
  exact⟨.inl,fun h'=>h'.elim id (fun e=>e▸pP.1 h)⟩
 ·simp
theorem xW(l:List BA)(s:BA):(ew l s).length<=l.length+1:=by
 unfold ew;split
 ·omega
 ·simp
theorem IR{l:List BA}{a:bU}{t:BA}:t∈lE l a↔t∈l\/(a.K=1/\t=a.S):=by
 unfold lE;split
 ·rename_i h;rw[xV];simp[h]
 ·rename_i h;simp[h]
theorem IS(l:List BA)(a:bU):(lE l a).length<=l.length+1:=by
 unfold lE;split
 ·exact xW _ _
 ·omega
theorem o0{t:BA}:∀{xs:List bU}{l:List BA},t∈c_ l xs↔t∈l\/∃a∈xs,a.K=1/\t=a.S
 |[],l=>by simp[c_]
 |a::xs,l=>by
  show t∈c_ (lE l a) xs↔_
  rw[o0,IR]
  simp only[jw,exists_eq_or_imp,or_assoc]
theorem iZ:∀(xs:List bU)(l:List BA),(c_ l xs).length<=l.length+xs.length
 |[],l=>tB _
 |a::xs,l=>by
  have h1:=iZ xs (lE l a)
  have h2:=IS l a
  show(c_ (lE l a) xs).length<=_
  simp only[n_];omega
theorem vT(l:List BA)(xs:List bU){i:Int}(h0:0<=i)(h:i<xs.length):c_ l (xs.take (i+1).toNat)=lE (c_ l (xs.take i.toNat)) (xs.getD i.toNat np):=by
 rw[<-dW xs np h0 h]
 simp only[c_,List.foldl_append,List.foldl_cons,List.foldl_nil]
def ku(l:List BA)(p:b8):List BA:=if p.Not then l else c_ l p.aU
def iE(ps:List b8):List BA:=ps.foldl ku []
theorem mb{α β:Type}(f:β->α->β)(b:β)(l:List α)(z:α){i:Int}(h0:0<=i)(h:i<l.length):(l.take (i+1).toNat).foldl f b=f ((l.take i.toNat).foldl f b) (l.getD i.toNat z):=by
 rw[<-dW l z h0 h]
 simp only[List.foldl_append,List.foldl_cons,List.foldl_nil]
def en(ps:List b8):Nat:=(ps.map fun p=>p.aU.length).sum
def oH(ps:List b8)(t:BA):Prop:=∃p∈ps,p.Not=false/\∃a∈p.aU,a.K=1/\t=a.S
theorem H2{l:List BA}{p:b8}{t:BA}:t∈ku l p↔t∈l\/(p.Not=false/\∃a∈p.aU,a.K=1/\t=a.S):=by
 unfold ku
 cases h:p.Not
 ·simp only[wE,if_false];rw[o0];simp
 ·simp
theorem u0{t:BA}:∀{ps:List b8}{l:List BA},t∈ps.foldl ku l↔t∈l\/oH ps t
 |[],l=>by simp[oH]
 |p::ps,l=>by
  show t∈ps.foldl ku (ku l p)↔_
  rw[u0,H2]
  simp only[oH,jw,exists_eq_or_imp,or_assoc]
theorem Gb{ps:List b8}{t:BA}:t∈iE ps↔oH ps t:=by
 unfold iE;rw[u0];simp
theorem u1:∀(ps:List b8)(l:List BA),(ps.foldl ku l).length<=l.length+en ps
 |[],l=>tB _
 |p::ps,l=>by
  have h1:=u1 ps (ku l p)
  have h2:(ku l p).length<=l.length+p.aU.length:=by
   unfold ku;split
   ·omega
   ·exact iZ _ _
  show(ps.foldl ku (ku l p)).length<=_
  simp only[en,tI,JY] at h1⊢;omega
def iF(l:List BA)(p:b8):List BA:=if p.Not then l else(c_ [] p.aU).foldl ew l
def dM(ps:List b8):List BA:=ps.foldl iF []
theorem vu{t:BA}:∀{xs l:List BA},t∈xs.foldl ew l↔t∈l\/t∈xs
 |[],l=>by simp
 |a::xs,l=>by
  show t∈xs.foldl ew (ew l a)↔_
  rw[vu,xV,jw,or_assoc]
theorem qw:∀(xs l:List BA),(xs.foldl ew l).length<=l.length+xs.length
 |[],l=>tB _
 |a::xs,l=>by
  have h1:=qw xs (ew l a)
  have h2:=xW l a
  show(xs.foldl ew (ew l a)).length<=_
  simp only[n_];omega
theorem Gc{l:List BA}{p:b8}{t:BA}:t∈iF l p↔t∈l\/(p.Not=false/\∃a∈p.aU,a.K=1/\t=a.S):=by
 unfold iF
 cases h:p.Not
 ·simp only[wE,if_false];rw[vu,o0];simp
 ·simp
theorem tL{t:BA}:∀{ps:List b8}{l:List BA},t∈ps.foldl iF l↔t∈l\/oH ps t
 |[],l=>by simp[oH]
 |p::ps,l=>by
  show t∈ps.foldl iF (iF l p)↔_
  rw[tL,Gc]
  simp only[oH,jw,exists_eq_or_imp,or_assoc]
theorem DJ{ps:List b8}{t:BA}:t∈dM ps↔oH ps t:=by
 unfold dM;rw[tL];simp
theorem tM:∀(ps:List b8)(l:List BA),(ps.foldl iF l).length<=l.length+en ps
 |[],l=>tB _
 |p::ps,l=>by
  have h1:=tM ps (iF l p)
  have h2:(iF l p).length<=l.length+p.aU.length:=by
   unfold iF;split
   ·omega
   ·have g1:=qw (c_ [] p.aU) l
    have g2:=iZ p.aU []
    simp only[om] at g2;omega
  show(ps.foldl iF (iF l p)).length<=_
  simp only[en,tI,JY] at h1⊢;omega
theorem DK(ps:List b8)(n:Nat):en (ps.take n)<=en ps:=by
 have h:=congrArg (fun q=>(q.map fun p:b8=>p.aU.length).sum) (Lq n ps)
 simp only[La,Y8] at h
 simp only[en];omega
theorem AP(ps:List b8){i:Int}(h0:0<=i)(h:i<ps.length):en (ps.take i.toNat)+(ps.getD i.toNat e8).aU.length<=en ps:=by
 have h1:=DK ps (i+1).toNat
 rw[<-dW ps e8 h0 h] at h1
 simp only[en,La,Y8,tI,List.map_nil,JY,List.sum_nil] at h1⊢
 omega
def eg(ps:List b8):Nat:=(ps.filter fun p=> !p.Not).length
theorem CR{l:List BA}{s:BA}{i:Int}(h0:0<=i)(hl:i<l.length)(h:∀j:Nat,(j:Int)<i->¬l.getD j ak=s)(hi:¬l.getD i.toNat ak=s):∀j:Nat,(j:Int)<i+1->¬l.getD j ak=s:=by
 intro j hj
 by_cases Sx:(j:Int)<i
 ·exact h j Sx
 ·have:j=i.toNat:=by omega
  subst this;exact hi
theorem QD{l:List BA}{s:BA}(h:∀j:Nat,j<l.length->¬l.getD j ak=s):lM l s=false:=by
 rw[<-uK,pP]
 intro hm
 obtain⟨j,hj,rfl⟩:=tX hm
 exact h j hj (by rw[fY,gg hj];rfl)
theorem GA{l:List BA}{s:BA}{j:Nat}(hj:j<l.length)(h:l.getD j ak=s):lM l s=true:=by
 rw[pP,<-h,fY,gg hj]
 exact Hu hj
theorem CA(ps:List b8){i:Int}(h0:0<=i)(h:i<ps.length):eg (ps.take (i+1).toNat)=eg (ps.take i.toNat)+(if(!(ps.getD i.toNat e8).Not)=true then 1 else 0):=by
 rw[<-dW ps e8 h0 h]
 simp only[eg,List.filter_append,wG,List.filter_cons,List.filter_nil]
 split<;>simp
theorem Jh(ps:List b8)(n:Nat):eg (ps.take n)<=n:=BU (O1 _ _) (by simp;omega)
def Tb:=bB (α:=(List BA)×BA) (qC (qL .str) (q1 qS)) [.ro,.ro] (fun _=>[]) (fun(l,s)=>⟨[dO (lM l s)],[],[]⟩)
def zJ(l:List BA)(s:BA):Int×Unit->Prop:=fun(i,_)=>0<=i/\i<=l.length/\∀j:Nat,(j:Int)<i->¬l.getD j ak=s
def yV(l:List BA)(s:BA):Int×Unit->Nat:=fun(i,_)=>l.length-i.toNat
def ah6:AX Tb:=fun(l,s)=>bh [(2,aB [iI 5] (fun _=>zJ l s) (yV l s))]
def Ot:HH:=hF Tb func253 [] ah6 fun x hp hb=>by
 obtain⟨l,s⟩:=x
 have la:L9 l.length:=eY (hb _ m0)
 have Na:=N3 (s:=s) (hb _ m1)
 clear hp hb
 apply vE (zJ l s (0,())/\∀(y:Int×PUnit),let q0:=(wrap i64 (y.1+1),());zJ l s y->bif decide (y.1<(l.length:Int)) then 0<=y.1/\y.1.toNat<l.length/\bif (l.getD y.1.toNat ak).toList==s.toList then Lb true (lM l s) else zJ l s q0/\yV l s q0<yV l s y else Lb false (lM l s))
 dsimp only
 refine⟨⟨by omega,by omega,by intro j hj;omega⟩,?_⟩
 rintro⟨i,⟨⟩⟩ ⟨h1,h2,hR⟩
 simp only[bt]
 refine aa ?_ ?_<;>intro hc
 ·have hc:=yT hc
  rw[wi]
  refine⟨by omega,by omega,aa (fun h=>pX (GA (j:=i.toNat) (by omega) (yT h))) (fun h=>⟨⟨by omega,by omega,CR h1 hc hR (yF h)⟩,by simp only[yV];omega⟩)⟩
 ·have hc:=yF hc
  exact bG (QD fun j hj=>hR j (by omega))
def S1:=bB (α:=(List BA)×BA) (qC (qL .str) (q1 qS)) [.ro,.ro] (fun _=>[]) (fun(l,s)=>⟨[dI (ji l.length (fun j=>decide (l.getD j ak=s)))],[],[]⟩)
def zD(l:List BA)(s:BA):Int×Unit->Prop:=fun(i,_)=>0<=i/\i<=l.length/\∀j:Nat,(j:Int)<i->¬l.getD j ak=s
def yO(l:List BA)(s:BA):Int×Unit->Nat:=fun(i,_)=>l.length-i.toNat
def ahW:AX S1:=fun(l,s)=>bh [(2,aB [iI 8] (fun _=>zD l s) (yO l s))]
def afK:HH:=hF S1 func271 [] ahW fun x hp hb=>by
 obtain⟨l,s⟩:=x
 have la:L9 l.length:=eY (hb _ m0)
 have Na:=N3 (s:=s) (hb _ m1)
 clear hp hb
 apply vE (zD l s (0,())/\∀(y:Int×PUnit),let q0:=(wrap i64 (y.1+1),());zD l s y->bif decide (y.1<(l.length:Int)) then 0<=y.1/\y.1.toNat<l.length/\bif s.toList==(l.getD y.1.toNat ak).toList then Li y.1 (ji (l.length) fun(j:Nat)=>decide (l.getD j ak=s)) else zD l s q0/\yO l s q0<yO l s y else Li (-1) (ji (l.length) fun(j:Nat)=>decide (l.getD j ak=s)))
 dsimp only
 refine⟨⟨by omega,by omega,by intro j hj;omega⟩,?_⟩
 rintro⟨i,⟨⟩⟩ ⟨h1,h2,hR⟩
 simp only[bt]
 refine aa ?_ ?_<;>intro hc
 ·have hc:=yT hc
  rw[wi]
  refine⟨by omega,by omega,aa (fun h=>cR ?_) (fun h=>⟨⟨by omega,by omega,CR h1 hc hR (fun e=>yF h e.symm)⟩,by simp only[yO];omega⟩)⟩
  rw[gp (i:=i.toNat) (by omega) (decide_eq_true (yT h).symm) (fun j hj=>decide_eq_false (hR j (by omega)))]
  omega
 ·have hc:=yF hc
  exact cR (iT (fun j hj=>decide_eq_false (hR j (by omega)))).symm
def aea:=bB (α:=(List BA)×BA) (qC (qL .str) (q1 qS)) [.ro,.ro] (fun _=>[]) (fun(l,s)=>⟨[dO (lM l s)],[],[]⟩)
def Uw:HH:=hF aea func228 [afK] a0 fun x hp hb=>by
 obtain⟨l,s⟩:=x
 clear hp hb
 apply vE (let x0:=ji (l.length) fun(j:Nat)=>decide (l.getD j ak=s);Lb (decide (x0≥0)) (lM l s))
 dsimp only
 refine cK ?_
 show decide (0<=ji l.length (fun j=>decide (l.getD j ak=s)))=_
 rw[yw]
 by_cases h:lM l s=true
 ·rw[h]
  obtain⟨j,hj,hs⟩:=tX (pP.1 h)
  exact ju hj (decide_eq_true (by rw[fY,gg hj];exact hs))
 ·rw[uK] at h
  rw[h]
  exact gr fun j hj=>decide_eq_false fun e=>absurd (GA hj e) (by rw[h];decide)
def TV:=bB (α:=aM) (q1 (qA .cy)) [.ro] (fun _=>[]) (fun r=>⟨[dI (eg r.aG:Int)],[],[]⟩)
def wy(r:aM):Int×Int×T1×Unit->Prop:=fun(n,i,b,_)=>b=(r.Name,r.pt,r.aG,r.bO,r.cA,())/\0<=i/\i<=r.aG.length/\n=eg (r.aG.take i.toNat)
def ra(r:aM):Int×Int×T1×Unit->Nat:=fun(n,i,b,_)=>r.aG.length-i.toNat
def aiP:AX TV:=fun r=>bh [(3,aB [iI 3,iI 4,.box 1 (1,1024) [.lit .str,.lit (.int .i64),.shr .fU,.shr .de,.shr .fV]] (fun _=>wy r) (ra r))]
def UH:HH:=hF TV func145 [] aiP fun(r:aM) hp hb=>by
 have bj:=mR (x:=r) (hb _ m0)
 have nA:=bj.1
 have nz:=bj.2.1
 have l_:=bj.2.2.1
 have nB:=bj.2.2.2
 clear hp hb
 apply vE (wy r (0,0,(r.Name,r.pt,r.aG,r.bO,r.cA,()),())/\∀(y:Int×Int×T8×PUnit),let x1:=y.2.2.1.2.2.1.length;let x2:=y.2.1.toNat;let x0:=(↑x1:Int);let q0:=(y.2.2.1.1,y.2.2.1.2.1,y.2.2.1.2.2.1,y.2.2.1.2.2.2.1,y.2.2.1.2.2.2.2.1,());let q1:=(wrap i64 (y.1+1),wrap i64 (y.2.1+1),q0,());let q2:=(y.1,wrap i64 (y.2.1+1),q0,());wy r y->bif decide (y.2.1<x0) then 0<=y.2.1/\x2<x1/\bif !(y.2.2.1.2.2.1.getD x2 e8).Not then wy r q1/\ra r q1<ra r y else wy r q2/\ra r q2<ra r y else Li y.1 (↑(eg r.aG):Int))
 dsimp only
 refine⟨⟨rfl,by omega,by omega,rfl⟩,?_⟩
 rintro⟨n,i,⟨b1,b2,b3,b4,b5,⟨⟩⟩,⟨⟩⟩ ⟨pO,h1,h2,rfl⟩
 cases pO
 simp only
 refine aa ?_ ?_<;>intro hc
 ·have hc:=yT hc
  have hs:=CA r.aG h1 hc
  have hle:eg (r.aG.take i.toNat)<=i.toNat:=Jh _ _
  rw[wi (n:=i+1),wrap_i64 (n:=(eg (r.aG.take i.toNat):Int)+1) (by omega) (by omega)]
  have hm:i.toNat<r.aG.length:=by omega
  refine⟨by omega,by omega,aa (fun h=>⟨⟨rfl,by omega,by omega,?_⟩,by simp only[ra];omega⟩) (fun h=>⟨⟨rfl,by omega,by omega,?_⟩,by simp only[ra];omega⟩)⟩
  ·rw[hs,if_pos h];omega
  ·rw[hs,if_neg (by rw[h];decide)];omega
 ·have hc:=yF hc
  rw[cT r.aG (by omega)]
  exact aH _
def TL:=bB (α:=aM) (q1 (qA .cy)) [.ro] (fun _=>[]) (fun r=>⟨[dI (eg r.aG:Int)],[],[]⟩)
def wu(r:aM):Int×Int×Unit->Prop:=fun(n,i,_)=>0<=i/\i<=r.aG.length/\n=eg (r.aG.take i.toNat)
def q_(r:aM):Int×Int×Unit->Nat:=fun(n,i,_)=>r.aG.length-i.toNat
def aiE:AX TL:=fun r=>bh [(3,aB [iI 3,iI 9] (fun _=>wu r) (q_ r))]
def Oy:HH:=hF TL func175 [] aiE fun(r:aM) hp hb=>by
 have bj:=mR (x:=r) (hb _ m0)
 have nA:=bj.1
 have nz:=bj.2.1
 have l_:=bj.2.2.1
 have nB:=bj.2.2.2
 clear hp hb
 apply vE (wu r (0,0,())/\∀(y:Int×Int×PUnit),let x0:=y.2.1.toNat;let q0:=(wrap i64 (y.1+1),wrap i64 (y.2.1+1),());let q1:=(y.1,wrap i64 (y.2.1+1),());wu r y->bif decide (y.2.1<(r.aG.length:Int)) then 0<=y.2.1/\x0<r.aG.length/\bif !(r.aG.getD x0 e8).Not then wu r q0/\q_ r q0<q_ r y else wu r q1/\q_ r q1<q_ r y else Li y.1 (↑(eg r.aG):Int))
 dsimp only
 refine⟨⟨by omega,by omega,rfl⟩,?_⟩
 rintro⟨n,i,⟨⟩⟩ ⟨h1,h2,rfl⟩
 simp only
 refine aa ?_ ?_<;>intro hc
 ·have hc:=yT hc
  have hs:=CA r.aG h1 hc
  have hle:eg (r.aG.take i.toNat)<=i.toNat:=Jh _ _
  rw[wi (n:=i+1),wrap_i64 (n:=(eg (r.aG.take i.toNat):Int)+1) (by omega) (by omega)]
  have hm:i.toNat<r.aG.length:=by omega
  refine⟨by omega,by omega,aa (fun h=>⟨⟨by omega,by omega,?_⟩,by simp only[q_];omega⟩) (fun h=>⟨⟨by omega,by omega,?_⟩,by simp only[q_];omega⟩)⟩
  ·rw[hs,if_pos h];omega
  ·rw[hs,if_neg (by rw[h];decide)];omega
 ·have hc:=yF hc
  rw[cT r.aG (by omega)]
  exact aH _
def Tc:=bB (α:=b8) (q1 (qA .fU)) [.ro] (fun p=>[L4 p.aU.length]) (fun p=>⟨[dL .str (c_ [] p.aU)],[],[]⟩)
def wc(p:b8):List BA×Int×T9×Unit->Prop:=fun(l,i,b,_)=>b=(p.Kind,p.aU,p.Not,())/\0<=i/\i<=p.aU.length/\l=c_ [] (p.aU.take i.toNat)
def o6(p:b8):List BA×Int×T9×Unit->Nat:=fun(l,i,b,_)=>p.aU.length-i.toNat
def ah7:AX Tc:=fun p=>bh [(3,aB [iO 3 .str,iI 4,.box 1 (1,1024) [.lit .str,.shr .iy,.lit .bool]] (fun _=>wc p) (o6 p))]
def afY:HH:=hF Tc func252 [Ot] ah7 fun(p:b8) hp hb=>by
 have bj:=yK (x:=p) (hb _ m0)
 have KF:=bj.1
 have KG:=bj.2
 have bD:p.aU.length<=4294967296:=hp _ m0
 clear hp hb
 apply vE (wc p ([],0,(p.Kind,p.aU,p.Not,()),())/\∀(y:List BA×Int×T13×PUnit),let x4:=y.2.2.1.2.1.length;let x5:=y.2.1.toNat;let x2:=y.2.2.1.2.1.getD x5 np;let x3:=(↑x4:Int);let x1:=x2.S;let x0:=[x1];let q0:=(y.1,wrap i64 (y.2.1+1),(y.2.2.1.1,y.2.2.1.2.1,y.2.2.1.2.2.1,()),());let q1:=(y.1++x0,wrap i64 (y.2.1+1),(y.2.2.1.1,y.2.2.1.2.1,y.2.2.1.2.2.1,()),());let q2:=wc p q0/\o6 p q0<o6 p y;wc p y->bif decide (y.2.1<x3) then 0<=y.2.1/\x5<x4/\bif x2.K==1 then 0<=y.2.1/\x5<x4/\bif !lM y.1 x1 then 0<=y.2.1/\x5<x4/\L4 (y.1.length+x0.length)/\wc p q1/\o6 p q1<o6 p y else q2 else q2 else Lf [VL .str y.1] [VL .str (c_ [] p.aU)])
 dsimp only
 refine⟨⟨rfl,by omega,by omega,rfl⟩,?_⟩
 rintro⟨l,i,⟨b1,b2,b3,⟨⟩⟩,⟨⟩⟩ ⟨pO,h1,h2,rfl⟩
 cases pO
 simp only
 refine aa ?_ ?_<;>intro hc
 ·have hc:=yT hc
  have hs:=vT [] p.aU h1 hc
  have hl:=iZ (p.aU.take i.toNat) []
  have yk:(p.aU.take i.toNat).length<=i.toNat:=by rw[od];omega
  simp only[om] at hl
  rw[wi]
  have hm:∀x:List BA,o6 p (x,i+1,(p.Kind,p.aU,p.Not,PUnit.unit),PUnit.unit)<o6 p (c_ [] (p.aU.take i.toNat),i,(p.Kind,p.aU,p.Not,PUnit.unit),PUnit.unit):=fun x=>by simp only[o6];omega
  refine⟨by omega,by omega,aa (fun h=>⟨by omega,by omega,aa (fun g=>⟨by omega,by omega,by simp;omega,⟨rfl,by omega,by omega,?_⟩,hm _⟩) (fun g=>⟨⟨rfl,by omega,by omega,?_⟩,hm _⟩)⟩) (fun h=>⟨⟨rfl,by omega,by omega,?_⟩,hm _⟩)⟩
  ·rw[hs,lE,if_pos (eq_of_beq h),ew,if_neg (by simpa using g)]
  ·rw[hs,lE,if_pos (eq_of_beq h),ew,if_pos (by simpa using g)]
  ·rw[hs,lE,if_neg (fun e=>by rw[e] at h;simp at h)]
 ·have hc:=yF hc
  rw[cT p.aU (by omega)]
  exact aH _
def Tw:=bB (α:=aM) (q1 (qA .cy)) [.ro] (fun r=>[L4 (en r.aG)]) (fun r=>⟨[dL .str (dM r.aG)],[],[]⟩)
def zT(r:aM):List BA×Int×T1×Unit->Prop:=fun(l,i,b,_)=>b=(r.Name,r.pt,r.aG,r.bO,r.cA,())/\0<=i/\i<=r.aG.length/\l=dM (r.aG.take i.toNat)
def vX(r:aM):List BA×Int×T1×Unit->Nat:=fun(l,i,b,_)=>r.aG.length-i.toNat
def wo(r:aM):List BA×Int×List BA×Int×T1×Unit->List BA×Int×List BA×Int×T1×Unit->Prop:=fun(l0,i0,v0,k0,b0,_) (l,i,v,k,b,_)=>b=(r.Name,r.pt,r.aG,r.bO,r.cA,())/\i=i0/\v=v0/\0<=k/\k<=v.length/\l=(v.take k.toNat).foldl ew l0/\(k=0\/(r.aG.getD i.toNat e8).Not=false)
def qZ(r:aM):List BA×Int×List BA×Int×T1×Unit->Nat:=fun(l,i,v,k,b,_)=>v.length-k.toNat
def aiq:AX Tw:=fun r=>bh [(3,aB [iO 3 .str,iI 4,.box 1 (1,1024) [.lit .str,.lit (.int .i64),.shr .fU,.shr .de,.shr .fV]] (fun _=>zT r) (vX r)),(7,aB [iO 3 .str,iI 4,iO 5 .str,iI 6,.box 1 (1,1024) [.lit .str,.lit (.int .i64),.shr .fU,.shr .de,.shr .fV]] (wo r) (qZ r))]
def agC:HH:=hF Tw func200 [afY,Ot] aiq fun(r:aM) hp hb=>by
 have bj:=mR (x:=r) (hb _ m0)
 have nA:=bj.1
 have nz:=bj.2.1
 have l_:=bj.2.2.1
 have nB:=bj.2.2.2
 have bD:en r.aG<=4294967296:=hp _ m0
 clear hp hb
 apply vE (let q0:=BA×Int×List b8×List bo×List cC×PUnit;zT r ([],0,(r.Name,r.pt,r.aG,r.bO,r.cA,()),())/\∀(y:List BA×Int×q0×PUnit),let x2:=y.2.2.1.2.2.1.length;let x3:=y.2.1.toNat;let x0:=(y.2.2.1.2.2.1.getD x3 e8).aU;let x1:=(↑x2:Int);let q1:=(y.1,y.2.1,c_ [] x0,0,(y.2.2.1.1,y.2.2.1.2.1,y.2.2.1.2.2.1,y.2.2.1.2.2.2.1,y.2.2.1.2.2.2.2.1,()),());zT r y->bif decide (y.2.1<x1) then 0<=y.2.1/\x3<x2/\L4 x0.length/\wo r q1 q1/\∀(aJ:List BA×Int×List BA×Int×q0×PUnit),let x6:=aJ.2.2.2.1.toNat;let x8:=aJ.2.2.1.length;let x9:=aJ.2.1.toNat;let x5:=aJ.2.2.1.getD x6 ak;let x7:=(↑x8:Int);let x4:=[x5];let q2:=(aJ.2.2.2.2.1.1,aJ.2.2.2.2.1.2.1,aJ.2.2.2.2.1.2.2.1,aJ.2.2.2.2.1.2.2.2.1,aJ.2.2.2.2.1.2.2.2.2.1,());let q3:=(aJ.1,wrap i64 (aJ.2.1+1),q2,());let q4:=(aJ.1++x4,aJ.2.1,aJ.2.2.1,wrap i64 (aJ.2.2.2.1+1),q2,());let q5:=(aJ.1,aJ.2.1,aJ.2.2.1,wrap i64 (aJ.2.2.2.1+1),q2,());let q6:=zT r q3/\vX r q3<vX r y;wo r q1 aJ->bif decide (aJ.2.2.2.1<x7) then 0<=aJ.2.1/\x9<aJ.2.2.2.2.1.2.2.1.length/\bif !(aJ.2.2.2.2.1.2.2.1.getD x9 e8).Not then 0<=aJ.2.2.2.1/\x6<x8/\x6<x8/\bif !lM aJ.1 x5 then 0<=aJ.2.2.2.1/\x6<x8/\x6<x8/\L4 (aJ.1.length+x4.length)/\wo r q1 q4/\qZ r q4<qZ r aJ else wo r q1 q5/\qZ r q5<qZ r aJ else q6 else q6 else Lf [VL .str y.1] [VL .str (dM r.aG)])
 dsimp only
 refine⟨⟨rfl,by omega,by omega,rfl⟩,?_⟩
 rintro⟨l,i,⟨b1,b2,b3,b4,b5,⟨⟩⟩,⟨⟩⟩ ⟨pO,h1,h2,rfl⟩
 cases pO
 simp only
 refine aa ?_ ?_<;>intro hc
 ·have hc:=yT hc
  have hs:dM (r.aG.take (i+1).toNat)=iF (dM (r.aG.take i.toNat)) (r.aG.getD i.toNat e8):=mb iF [] r.aG e8 h1 hc
  have ha:=AP r.aG h1 hc
  have hl:=tM (r.aG.take i.toNat) []
  simp only[om,tW] at hl
  have hv:=iZ (r.aG.getD i.toNat e8).aU []
  simp only[om,tW] at hv
  refine⟨by omega,by omega,by omega,⟨rfl,rfl,rfl,by omega,by omega,rfl,.inl rfl⟩,?_⟩
  rintro⟨l',i',v,k,⟨b1,b2,b3,b4,b5,⟨⟩⟩,⟨⟩⟩ ⟨pO,rfl,rfl,g1,g2,rfl,g3⟩
  cases pO
  simp only
  have yD:=qw ((c_ [] (r.aG.getD i'.toNat e8).aU).take k.toNat) (dM (r.aG.take i'.toNat))
  have aml:((c_ [] (r.aG.getD i'.toNat e8).aU).take k.toNat).length<=k.toNat:=by rw[od];omega
  have D3:(dM (r.aG.take i'.toNat)).length<=en (r.aG.take i'.toNat):=hl
  have px:(c_ [] (r.aG.getD i'.toNat e8).aU).length<=(r.aG.getD i'.toNat e8).aU.length:=hv
  refine aa ?_ ?_<;>intro hk
  ·have hk:=yT hk
   have hf:=mb ew (dM (r.aG.take i'.toNat)) (c_ [] (r.aG.getD i'.toNat e8).aU) ak g1 hk
   rw[wi (n:=k+1),wi (n:=i'+1)]
   refine⟨by omega,by omega,aa (fun hn=> ?_) (fun hn=> ?_)⟩
   ·have hn:(r.aG.getD i'.toNat e8).Not=false:=by simpa using hn
    have XH:k.toNat<(c_ [] (r.aG.getD i'.toNat e8).aU).length:=by omega
    refine⟨g1,XH,XH,aa (fun g=>⟨g1,XH,XH,by simp only[n_,om];omega,⟨rfl,rfl,rfl,by omega,by omega,?_,.inr hn⟩,by simp only[qZ];omega⟩) (fun g=>⟨⟨rfl,rfl,rfl,by omega,by omega,?_,.inr hn⟩,by simp only[qZ];omega⟩)⟩
    ·rw[hf,ew,if_neg (by simpa using g)]
    ·rw[hf,ew,if_pos (by simpa using g)]
   ·have hn:(r.aG.getD i'.toNat e8).Not=true:=by simpa using hn
    have yC:k=0:=g3.resolve_right (by rw[hn];decide)
    subst yC
    refine⟨⟨rfl,by omega,by omega,?_⟩,by simp only[vX];omega⟩
    rw[hs,iF,if_pos hn]
    rfl
  ·have hk:=yF hk
   rw[wi (n:=i'+1)]
   refine⟨⟨rfl,by omega,by omega,?_⟩,by simp only[vX];omega⟩
   rw[hs,iF]
   by_cases hn:(r.aG.getD i'.toNat e8).Not=true
   ·have yC:k=0:=g3.resolve_right (by rw[hn];decide)
    subst yC
    rw[if_pos hn];rfl
   ·rw[if_neg hn,cT (c_ [] (r.aG.getD i'.toNat e8).aU) (by omega)]
 ·have hc:=yF hc
  rw[cT r.aG (by omega)]
  exact aH _
def adF:=bB (α:=(List BA)×BA) (qC (qL .str) (q1 qS)) [.mv,.ro] (fun(l,name)=>[l.length<=4294967295]) (fun(l,name)=>⟨[dL .str (ew l name)],[],[]⟩)
def afx:HH:=hF adF func287 [Uw] a0 fun x hp hb=>by
 obtain⟨l,name⟩:=x
 have la:L9 l.length:=eY (hb _ m0)
 have Qs:=N3 (s:=name) (hb _ m1)
 have bD:l.length<=4294967295:=hp _ m0
 clear hp hb
 apply vE (bif lM l name then Lf [VL .str l] [VL .str (ew l name)] else l.length+List.length [name]<=4294967296/\Lf [VL .str (l++[name])] [VL .str (ew l name)])
 refine aa (fun h=> ?_) (fun h=>⟨by simp;omega,?_⟩)
 ·rw[ew,if_pos h];exact aH _
 ·rw[ew,if_neg (by rw[h];decide)];exact aH _
def S3:=bB (α:=(List BA)×(List bU)) (qC (qL .str) (q1 (qL .iy))) [.mv,.ro] (fun(l,args)=>[l.length+args.length<=4294967295]) (fun(l,args)=>⟨[dL .str (c_ l args)],[],[]⟩)
def wa(l:List BA)(args:List bU):List BA×Int×Unit->Prop:=fun(v,i,_)=>0<=i/\i<=args.length/\v=c_ l (args.take i.toNat)
def qP(l:List BA)(args:List bU):List BA×Int×Unit->Nat:=fun(v,i,_)=>args.length-i.toNat
def ahX:AX S3:=fun(l,args)=>bh [(2,aB [iO 0 .str,iI 9] (fun _=>wa l args) (qP l args))]
def Ur:HH:=hF S3 func270 [afx] ahX fun x hp hb=>by
 obtain⟨l,args⟩:=x
 have la:L9 l.length:=eY (hb _ m0)
 have ajd:L9 args.length:=eY (hb _ m1)
 have bD:l.length+args.length<=4294967295:=hp _ m0
 clear hp hb
 apply vE (wa l args (l,0,())/\∀(y:List BA×Int×PUnit),let x1:=y.2.1.toNat;let x0:=args.getD x1 np;let q0:=(ew y.1 x0.S,wrap i64 (y.2.1+1),());let q1:=(y.1,wrap i64 (y.2.1+1),());wa l args y->bif decide (y.2.1<(args.length:Int)) then 0<=y.2.1/\x1<args.length/\bif x0.K==1 then y.1.length<=4294967295/\wa l args q0/\qP l args q0<qP l args y else wa l args q1/\qP l args q1<qP l args y else Lf [VL .str y.1] [VL .str (c_ l args)])
 dsimp only
 refine⟨⟨by omega,by omega,rfl⟩,?_⟩
 rintro⟨v,i,⟨⟩⟩ ⟨h1,h2,rfl⟩
 simp only
 refine aa ?_ ?_<;>intro hc
 ·have hc:=yT hc
  have hs:=vT l args h1 hc
  have hl:=iZ (args.take i.toNat) l
  have yk:(args.take i.toNat).length<=i.toNat:=by rw[od];omega
  rw[wi]
  refine⟨by omega,by omega,aa (fun h=>⟨by omega,⟨by omega,by omega,?_⟩,by simp only[qP];omega⟩) (fun h=>⟨⟨by omega,by omega,?_⟩,by simp only[qP];omega⟩)⟩
  ·rw[hs,lE,if_pos (eq_of_beq h)]
  ·rw[hs,lE,if_neg (fun e=>by rw[e] at h;simp at h)]
 ·have hc:=yF hc
  rw[cT args (by omega)]
  exact aH _
def Tl:=bB (α:=aM) (q1 (qA .cy)) [.ro] (fun r=>[en r.aG<=4294967295]) (fun r=>⟨[dL .str (iE r.aG)],[],[]⟩)
def wj(r:aM):List BA×Int×Unit->Prop:=fun(v,i,_)=>0<=i/\i<=r.aG.length/\v=iE (r.aG.take i.toNat)
def qT(r:aM):List BA×Int×Unit->Nat:=fun(v,i,_)=>r.aG.length-i.toNat
def aie:AX Tl:=fun r=>bh [(3,aB [iO 3 .str,iI 9] (fun _=>wj r) (qT r))]
def agi:HH:=hF Tl func226 [Ur] aie fun(r:aM) hp hb=>by
 have bj:=mR (x:=r) (hb _ m0)
 have nA:=bj.1
 have nz:=bj.2.1
 have l_:=bj.2.2.1
 have nB:=bj.2.2.2
 have bD:en r.aG<=4294967295:=hp _ m0
 clear hp hb
 apply vE (wj r ([],0,())/\∀(y:List BA×Int×PUnit),let x2:=y.2.1.toNat;let x1:=r.aG.getD x2 e8;let x0:=x1.aU;let q0:=(c_ y.1 x0,wrap i64 (y.2.1+1),());let q1:=(y.1,wrap i64 (y.2.1+1),());wj r y->bif decide (y.2.1<(r.aG.length:Int)) then 0<=y.2.1/\x2<r.aG.length/\bif !x1.Not then y.1.length+x0.length<=4294967295/\wj r q0/\qT r q0<qT r y else wj r q1/\qT r q1<qT r y else Lf [VL .str y.1] [VL .str (iE r.aG)])
 dsimp only
 refine⟨⟨by omega,by omega,rfl⟩,?_⟩
 rintro⟨v,i,⟨⟩⟩ ⟨h1,h2,rfl⟩
 simp only
 refine aa ?_ ?_<;>intro hc
 ·have hc:=yT hc
  have hs:iE (r.aG.take (i+1).toNat)=ku (iE (r.aG.take i.toNat)) (r.aG.getD i.toNat e8):=mb ku [] r.aG e8 h1 hc
  have ha:=AP r.aG h1 hc
  have hl:=u1 (r.aG.take i.toNat) []
  simp only[om,tW] at hl
  have D3:(iE (r.aG.take i.toNat)).length<=en (r.aG.take i.toNat):=hl
  rw[wi]
  refine⟨by omega,by omega,aa (fun h=>⟨by omega,⟨by omega,by omega,?_⟩,by simp only[qT];omega⟩) (fun h=>⟨⟨by omega,by omega,?_⟩,by simp only[qT];omega⟩)⟩
  ·rw[hs,ku,if_neg (by simpa using h)]
  ·rw[hs,ku,if_pos (by simpa using h)]
 ·have hc:=yF hc
  rw[cT r.aG (by omega)]
  exact aH _
def jA(ps:List b8)(i:Nat):Bool:=(ps.getD i e8).Not
def rX(ps:List b8)(i:Nat):Bool:=kg (ps.getD i e8)&& !(decide (2<i)&& !jA ps i)&& !(decide (i=0)&&jA ps i)&& !(decide (0<i)&&jA ps (i-1)&& !jA ps i)
def l7(ps:List b8):Bool:=decide (1<=ps.length/\ps.length<=6)&&allI ps.length (rX ps)
def m_(ps:List b8)(i:Nat):Bool:=kg (ps.getD i e8)&&(jA ps i==decide (eg ps<=i))
def j8(ps:List b8):Bool:=decide (1<=ps.length/\ps.length<=6)&&decide (1<=eg ps/\eg ps<=3)&&allI ps.length (m_ ps)
theorem j6{n:Nat}{p:Nat->Bool}:allI n p=true↔∀j,j<n->p j=true:=by simp[allI]
theorem pE(p:b8)(ps:List b8):eg (p::ps)=(if p.Not then 0 else 1)+eg ps:=by
 simp only[eg,List.filter_cons]
 cases p.Not<;>simp<;>omega
theorem Gf:∀{ps:List b8},(∀i,i+1<ps.length->jA ps i=true->jA ps (i+1)=true)->∀i,i<ps.length->jA ps i=decide (eg ps<=i)
 |[],_,i,hi=>by simp at hi
 |p::ps,h,i,hi=>by
  have ih:=Gf (ps:=ps) (fun j hj hn=>h (j+1) (by simpa using hj) hn)
  rw[pE]
  cases hp:p.Not with
  |false=>
   cases i with
   |zero=>show p.Not=_;rw[hp];simp
   |succ i=>
    show jA ps i=_
    rw[ih i (by simpa using hi)]
    simp only[wE,if_false,decide_eq_decide];omega
  |true=>
   have Iq:∀j,j<(p::ps).length->jA (p::ps) j=true:=by
    intro j
    induction j with
    |zero=>intro _;exact hp
    |succ j ihj=>intro hj;exact h j hj (ihj (by omega))
   have h0:eg ps=0:=by
    cases ps with
    |nil=>rfl
    |cons q qs=>
     have h1:=ih 0 (by simp)
     have h2:jA (q::qs) 0=true:=Iq 1 (by simp)
     rw[h2] at h1
     have:=yT h1.symm
     omega
   rw[Iq i hi,h0];simp
theorem ue(ps:List b8):j8 ps=l7 ps:=by
 rw[FG]
 simp only[j8,l7,eE,decide_eq_true_eq,j6]
 constructor
 ·rintro⟨⟨h1,h2⟩,h3⟩
  have hN:∀j,j<ps.length->jA ps j=decide (eg ps<=j):=fun j hj=>by
   have:=h3 j hj
   simp only[m_,eE,beq_iff_eq] at this
   exact this.2
  refine⟨h1,fun j hj=> ?_⟩
  have hk:=h3 j hj
  simp only[m_,eE] at hk
  simp only[rX,hk.1,hN j hj,B4,eE,rj,Bool.and_eq_false_iff,decide_eq_false_iff_not,Bool.not_eq_false',decide_eq_true_eq]
  refine⟨⟨by omega,by omega⟩,?_⟩
  by_cases h0:0<j
  ·rw[hN (j-1) (by omega)];simp only[decide_eq_false_iff_not];omega
  ·exact .inl (.inl h0)
 ·rintro⟨h1,h2⟩
  have hA:∀j,j<ps.length->kg (ps.getD j e8)=true/\(2<j->jA ps j=true)/\(j=0->jA ps j=false)/\(0<j->jA ps (j-1)=true->jA ps j=true):=fun j hj=>by
   have:=h2 j hj
   simp only[rX,eE,rj,Bool.and_eq_false_iff,decide_eq_false_iff_not,Bool.not_eq_false'] at this
   obtain⟨⟨⟨a1,a2⟩,a3⟩,a4⟩:=this
   refine⟨a1,fun h=>a2.resolve_left (fun e=>e h),fun h=>a3.resolve_left (fun e=>e h),fun h hn=>a4.resolve_left (fun e=> ?_)⟩
   rcases e with e|e
   ·exact e h
   ·rw[hn] at e;cases e
  have hN:=Gf (ps:=ps) (fun i hi hn=>(hA (i+1) hi).2.2.2 (by omega) (by simpa using hn))
  have hz:=(hA 0 (by omega)).2.2.1 rfl
  rw[hN 0 (by omega)] at hz
  have hz:=yF hz
  have hle:eg ps<=ps.length:=O1 _ _
  refine⟨⟨h1,by omega,?_⟩,fun j hj=> ?_⟩
  ·by_cases h4:3<ps.length
   ·have:=(hA 3 h4).2.1 (by omega)
    rw[hN 3 h4] at this
    exact yT this
   ·omega
  ·simp only[m_,(hA j hj).1,hN j hj];simp
def fD(vars:List BA)(a:bU):Bool:= !decide (a.K=1)||lM vars a.S
def pe(vars:List BA)(c:bo):Bool:=jT c&&fD vars c.L&&fD vars c.R
def nr(l:List bo)(vars:List BA):Bool:=decide (l.length<=6)&&l.all (pe vars)
def lu(vars:List BA)(e:bC):Bool:=fD vars e.L&&fD vars e.R
def jl(pos:Int)(a:cC):Bool:= !(decide (a.Kind=2)&&decide (pos<=a.N))
def sq(vars:List BA)(pos:Int)(a:cC):Bool:=dN a&&jl pos a&&a.aU.all (lu vars)
def n7(l:List cC)(vars:List BA)(pos:Int):Bool:=decide (1<=l.length/\l.length<=6)&&l.all (sq vars pos)
def jK(r:aM):Bool:=b7 r.Name&&decide (-100<=r.pt/\r.pt<=100)&&l7 r.aG&&nr r.bO (dM r.aG)&&n7 r.cA (dM r.aG) (eg r.aG)
theorem DL(ps:List b8):en ps<=iM ps:=by
 simp only[en,iM]
 have:∀l:List b8,(l.map fun p=>p.aU.length).sum<=(l.map h_).sum:=by
  intro l
  induction l with
  |nil=>exact tB _
  |cons p l ih=>simp only[tI,JY,h_,jJ] at ih⊢;omega
 have:=this ps;omega
theorem Nw(ps:List b8)(t:BA):lM (iE ps) t=lM (dM ps) t:=by
 rw[FG,pP,pP,Gb,DJ]
def lO(l:List BA)(c:bo):List BA:=c_ l [c.L,c.R]
def rk(l:List BA)(e:bC):List BA:=c_ l [e.L,e.R]
def ov(l:List BA)(a:cC):List BA:=a.aU.foldl rk l
def mC(r:aM):List BA:=r.cA.foldl ov (r.bO.foldl lO [])
def ou(l:List cC):Nat:=(l.map fun a=>2*a.aU.length).sum
theorem J2(l:List BA)(c:bo):(lO l c).length<=l.length+2:=iZ _ _
theorem wK:∀(es:List bC)(l:List BA),(es.foldl rk l).length<=l.length+2*es.length
 |[],l=>tB _
 |e::es,l=>by
  have h1:=wK es (rk l e)
  have h2:(rk l e).length<=l.length+2:=iZ _ _
  show(es.foldl rk (rk l e)).length<=_
  simp only[n_];omega
theorem p7:∀(cs:List bo)(l:List BA),(cs.foldl lO l).length<=l.length+2*cs.length
 |[],l=>tB _
 |c::cs,l=>by
  have h1:=p7 cs (lO l c)
  have h2:=J2 l c
  show(cs.foldl lO (lO l c)).length<=_
  simp only[n_];omega
theorem tZ:∀(xs:List cC)(l:List BA),(xs.foldl ov l).length<=l.length+ou xs
 |[],l=>tB _
 |a::xs,l=>by
  have h1:=tZ xs (ov l a)
  have h2:(ov l a).length<=l.length+2*a.aU.length:=wK _ _
  show(xs.foldl ov (ov l a)).length<=_
  simp only[ou,tI,JY] at h1⊢;omega
theorem Lz(l:List cC){i:Int}(h0:0<=i)(h:i<l.length):ou (l.take i.toNat)+2*(l.getD i.toNat fK).aU.length<=ou l:=by
 have h1:ou (l.take (i+1).toNat)<=ou l:=by
  have h:=congrArg (fun q=>(q.map fun a:cC=>2*a.aU.length).sum) (Lq (i+1).toNat l)
  simp only[La,Y8] at h
  simp only[ou];omega
 rw[<-dW l fK h0 h] at h1
 simp only[ou,La,Y8,tI,List.map_nil,JY,List.sum_nil] at h1⊢
 omega
def names(t:BA)(a:bU):Prop:=a.K=1/\t=a.S
theorem Cv{l:List BA}{a b:bU}{t:BA}:t∈c_ l [a,b]↔t∈l\/names t a\/names t b:=by
 rw[o0];simp[names]
theorem Cu{t:BA}:∀{es:List bC}{l:List BA},t∈es.foldl rk l↔t∈l\/∃e∈es,names t e.L\/names t e.R
 |[],l=>by simp
 |e::es,l=>by
  show t∈es.foldl rk (rk l e)↔_
  rw[Cu,rk,Cv]
  simp only[jw,exists_eq_or_imp,or_assoc]
theorem p6{t:BA}:∀{cs:List bo}{l:List BA},t∈cs.foldl lO l↔t∈l\/∃c∈cs,names t c.L\/names t c.R
 |[],l=>by simp
 |c::cs,l=>by
  show t∈cs.foldl lO (lO l c)↔_
  rw[p6,lO,Cv]
  simp only[jw,exists_eq_or_imp,or_assoc]
theorem l4{t:BA}:∀{xs:List cC}{l:List BA},t∈xs.foldl ov l↔t∈l\/∃a∈xs,∃e∈a.aU,names t e.L\/names t e.R
 |[],l=>by simp
 |a::xs,l=>by
  show t∈xs.foldl ov (ov l a)↔_
  rw[l4,ov,Cu]
  simp only[jw,exists_eq_or_imp,or_assoc]
theorem Gn{vars:List BA}{a:bU}:fD vars a=true↔∀t,names t a->lM vars t=true:=by
 simp only[fD,B3,rj,decide_eq_false_iff_not,names]
 constructor
 ·rintro(h|h) t ⟨h1,rfl⟩
  ·exact absurd h1 h
  ·exact h
 ·intro h
  by_cases h1:a.K=1
  ·exact .inr (h a.S ⟨h1,rfl⟩)
  ·exact .inl h1
theorem Ly(r:aM)(vars:List BA):(mC r).all (lM vars)=(r.bO.all (fun c=>fD vars c.L&&fD vars c.R)&&r.cA.all fun a=>a.aU.all (lu vars)):=by
 rw[FG]
 simp only[eE,As,lu,Gn,mC]
 constructor
 ·intro h
  refine⟨fun c hc=>⟨fun t ht=>h t ?_,fun t ht=>h t ?_⟩,fun a ha e he=>⟨fun t ht=>h t ?_,fun t ht=>h t ?_⟩⟩
  ·rw[l4,p6];exact .inl (.inr ⟨c,hc,.inl ht⟩)
  ·rw[l4,p6];exact .inl (.inr ⟨c,hc,.inr ht⟩)
  ·rw[l4];exact .inr ⟨a,ha,e,he,.inl ht⟩
  ·rw[l4];exact .inr ⟨a,ha,e,he,.inr ht⟩
 ·rintro⟨h1,h2⟩ t ht
  rw[l4,p6] at ht
  rcases ht with(ht|⟨c,hc,ht|ht⟩)|⟨a,ha,e,he,ht|ht⟩
  ·cases ht
  ·exact(h1 c hc).1 t ht
  ·exact(h1 c hc).2 t ht
  ·exact(h2 a ha e he).1 t ht
  ·exact(h2 a ha e he).2 t ht
def kT(r:aM):Bool:=b7 r.Name&&decide (-100<=r.pt/\r.pt<=100)&&l7 r.aG&&decide (r.bO.length<=6)&&decide (1<=r.cA.length/\r.cA.length<=6)&&r.bO.all jT&&r.cA.all (fun a=>dN a&&jl (eg r.aG) a)&&(mC r).all (lM (iE r.aG))
theorem JK{α:Type}(p q:α->Bool)(l:List α):l.all (fun x=>p x&&q x)=(l.all p&&l.all q):=by
 induction l with
 |nil=>rfl
 |cons x l ih=>simp only[O2,ih];cases p x<;>cases q x<;>simp
theorem AH(r:aM):kT r=jK r:=by
 have e1:(mC r).all (lM (iE r.aG))=(mC r).all (lM (dM r.aG)):=by
  have:lM (iE r.aG)=lM (dM r.aG):=funext fun t=>Nw _ _
  rw[this]
 have e2:r.bO.all (pe (dM r.aG))=(r.bO.all jT&&r.bO.all (fun c=>fD (dM r.aG) c.L&&fD (dM r.aG) c.R)):=by
  rw[<-JK]
  congr 1;funext c;simp only[pe,Bool.and_assoc]
 have e3:r.cA.all (sq (dM r.aG) (eg r.aG))=(r.cA.all (fun a=>dN a&&jl (eg r.aG) a)&&r.cA.all (fun a=>a.aU.all (lu (dM r.aG)))):=by
  rw[<-JK];rfl
 simp only[kT,jK,nr,n7,e1,e2,e3,Ly]
 rw[FG]
 simp only[eE]
 constructor
 ·rintro⟨⟨⟨⟨⟨⟨⟨a1,a2⟩,a3⟩,a4⟩,a5⟩,a6⟩,a7⟩,a8,a9⟩
  exact⟨⟨⟨⟨a1,a2⟩,a3⟩,a4,a6,a8⟩,a5,a7,a9⟩
 ·rintro⟨⟨⟨⟨a1,a2⟩,a3⟩,a4,a6,a8⟩,a5,a7,a9⟩
  exact⟨⟨⟨⟨⟨⟨⟨a1,a2⟩,a3⟩,a4⟩,a5⟩,a6⟩,a7⟩,a8,a9⟩
theorem bT{p:Prop}[Decidable p]{P Q:Prop}(h1:p->P)(h2:¬p->Q):bif decide p then P else Q:=aa (fun h=>h1 (yT h)) (fun h=>h2 (yF h))
theorem cB{b:Bool}{P Q:Prop}(h1:b=false->P)(h2:b=true->Q):bif !b then P else Q:=aa (fun h=>h1 (by simpa using h)) (fun h=>h2 (by simpa using h))
theorem ix{a b:Int}{P Q:Prop}(h1:a=b->P)(h2:¬a=b->Q):bif a==b then P else Q:=aa (fun h=>h1 (eq_of_beq h)) (fun h=>h2 (fun e=>by rw[e] at h;simp at h))
theorem Pb{α:Type}(f:α->Nat)(B:Nat):∀(l:List α),(∀x∈l,f x<=B)->(l.map f).sum<=l.length*B
 |[],_=>by simp
 |x::l,h=>by
  have h1:=Pb f B l (fun y hy=>h y (bi _ hy))
  have h2:=h x dw
  simp only[tI,JY,n_,wD];omega
theorem Gd{ps:List b8}(h:l7 ps=true):en ps<=30:=by
 simp only[l7,eE,decide_eq_true_eq,j6] at h
 have:=Pb (fun p:b8=>p.aU.length) 5 ps (fun p hp=>by
  obtain⟨i,hi,rfl⟩:=tX hp
  have hk:=h.2 i hi
  simp only[rX,eE,fY,gg hi,Ds] at hk
  have hk:=hk.1.1.1
  simp only[kg,eE,decide_eq_true_eq] at hk
  exact hk.1.2)
 simp only[en];omega
theorem uB{a:cC}(h:dN a=true):a.aU.length<=5:=by
 simp only[dN,Hh,fG] at h
 grind
theorem Hm{l:List cC}(hl:l.length<=6)(h:∀a∈l,dN a=true):ou l<=60:=by
 have:=Pb (fun a:cC=>2*a.aU.length) 10 l (fun a ha=>by have:=uB (h a ha);omega)
 simp only[ou];omega
def adW:=bB (α:=bU×(List BA)) (qC (qA .iy) (q1 (qL .str))) [.ro,.ro] (fun _=>[]) (fun(a,vars)=>⟨[dO (fD vars a)],[],[]⟩)
def Uu:HH:=hF adW func256 [Ot] a0 fun x hp hb=>by
 obtain⟨a,vars⟩:=x
 clear hp hb
 apply vE (bif a.K !=1 then Lb true (fD vars a) else Lb (lM vars a.S) (fD vars a))
 simp only[fD]
 refine aa (fun h=>cK ?_) (fun h=>cK ?_)<;>grind
end
end AM
