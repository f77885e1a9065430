/- Functions of the program with their contracts: put together by gen/link.py for FnExactAddTimer. -/
import Derived.Test.YtlachfpabecaeaaQAmLib
import Derived.Test.YtlachfpabecaeaaQAmHand
import Derived.Test.YtlachfpabecaeaaQIns
namespace AM
open Go Go.Proofs.Try
set_option linter.unusedVariables false
set_option linter.unusedSimpArgs false
set_option maxRecDepth 100000
noncomputable section
theorem ve {p q : Prop} (h : p = q) (x : q) : p := by rw [h]; exact x
abbrev VB (b : Bool) : DV UU := .one (.lit (.bool b))
abbrev VI (n : Int) : DV UU := .one (.lit (.int .i64 n))
abbrev VS (s : ByteArray) : DV UU := .one (.lit (.string s))
abbrev CI (n : Int) : CC := .lit (.int .i64 n)
abbrev CS (s : ByteArray) : CC := .lit (.string s)
abbrev CO (b : Bool) : CC := .lit (.bool b)
abbrev CL (τ : Cd) (xs : List τ.T) : CC := .sl τ xs
abbrev VL (τ : Cd) (xs : List τ.T) : DV UU := .one (.sl τ xs)
abbrev T0:=Int×ByteArray×List aI×Unit
abbrev T1:=Int×ByteArray×List aI×PUnit
theorem yT {p:Prop} [Decidable p] (h:decide p=true):p:=of_decide_eq_true h
theorem yF {p:Prop} [Decidable p] (h:decide p=false):¬p:=of_decide_eq_false h
abbrev BA:=ByteArray
instance:DecidableEq aI:=fun _ _=>Classical.propDecidable _
instance:DecidableEq bc:=fun _ _=>Classical.propDecidable _
instance:DecidableEq ae:=fun _ _=>Classical.propDecidable _
instance:DecidableEq jf:=fun _ _=>Classical.propDecidable _
instance:DecidableEq je:=fun _ _=>Classical.propDecidable _
def zi:Nat->Nat->List UInt8->List UInt8
 |0,_,acc=>acc
 |d+1,k,acc=>if k=0 then acc else zi d (k/10) ((UInt8.ofNat (48+k%10))::acc)
def ch(k:Int):ByteArray:=if k<=0 then⟨#[109,48]⟩ else⟨(109::zi k.toNat k.toNat []).toArray⟩
def pR(k:Int):Bool:=decide (k%3=0)
def gw{α:Type}(f:α->Int->α)(c:α->Nat):List α->Int->List α
 |[],_=>[]
 |x::r,k=>f x k::gw f c r (k+c x)
def fH{α:Type}(c:α->Nat)(l:List α):Nat:=(l.map c).sum
theorem gv{α:Type}(f:α->Int->α)(c:α->Nat):∀(l:List α)(k:Int),(gw f c l k).length=l.length
 |[],_=>rfl
 |x::r,k=>by simp[gw,gv f c r]
theorem qK{α:Type}{f:α->Int->α}{c:α->Nat}(h:∀x k,c (f x k)=c x):∀(l:List α)(k:Int),fH c (gw f c l k)=fH c l
 |[],_=>rfl
 |x::r,k=>by have:=qK h r (k+c x);simp only[fH,gw,mR,Ck,h] at*;omega
theorem l7{α:Type}{f:α->Int->α}{c:α->Nat}(h:∀x k,c (f x k)=c x)(h':∀x k,f (f x k) k=f x k):∀(l:List α)(k:Int),gw f c (gw f c l k) k=gw f c l k
 |[],_=>rfl
 |x::r,k=>by simp only[gw,h,h',l7 h h' r]
theorem u3{α:Type}(c:α->Nat)(x:α)(l:List α):fH c (x::l)=c x+fH c l:=by simp[fH]
theorem gK{α:Type}(c:α->Nat)(l m:List α):fH c (l++m)=fH c l+fH c m:=by simp[fH]
theorem rc{α:Type}{c s:α->Nat}(h:∀x,c x<=20*s x+20):∀l:List α,fH c l<=20*(l.length+(l.map s).sum)
 |[]=>nl _
 |x::r=>by have:=rc h r;have:=h x;simp only[fH,mR,Ck,xl] at*;omega
theorem j6{α:Type}(c:α->Nat)(l:List α)(z:α){i:Int}(h0:0<=i)(h:i<l.length):fH c (l.take (i+1).toNat)=fH c (l.take i.toNat)+c (List.getD l i.toNat z):=by
 have hn:i.toNat<l.length:=by omega
 have e:(i+1).toNat=i.toNat+1:=by omega
 rw[e,F_ hn,gK,cI,cE hn]
 simp[fH]
theorem fG{α:Type}(c:α->Nat)(l:List α)(n:Nat):fH c (l.take n)<=fH c l:=by
 have h:=gK c (l.take n) (l.drop n)
 rw[vq] at h
 omega
theorem l8{α:Type}(f:α->Int->α)(c:α->Nat):∀(l m:List α)(k:Int),gw f c (l++m) k=gw f c l k++gw f c m (k+fH c l)
 |[],m,k=>by simp[gw,fH]
 |x::r,m,k=>by simp only[FV,gw,l8 f c r m,u3];congr 3;omega
theorem tX{α:Type}(f:α->Int->α)(c:α->Nat)(l:List α)(z:α)(k:Int){i:Int}(h0:0<=i)(h:i<l.length):
  ((gw f c l k).take i.toNat++l.drop i.toNat).set i.toNat (f (List.getD l i.toNat z) (k+fH c (l.take i.toNat)))=(gw f c l k).take (i+1).toNat++l.drop (i+1).toNat:=by
 have hn:i.toNat<l.length:=by omega
 have e:(i+1).toNat=i.toNat+1:=by omega
 have hl:((gw f c l k).take i.toNat).length=i.toNat:=by rw[kg,gv];omega
 have hm:(gw f c l k)[i.toNat]? =some (f (List.getD l i.toNat z) (k+fH c (l.take i.toNat))):=by
  have h1:l=l.take i.toNat++List.getD l i.toNat z::l.drop (i+1).toNat:=by rw[<-cU l z h0 h,vq]
  have h2:=congrArg (fun q=>(gw f c q k)[i.toNat]?) h1
  simp only[l8,gw] at h2
  rw[h2,kj (by rw[gv,kg];omega),gv]
  have:i.toNat-(l.take i.toNat).length=0:=by simp;omega
  rw[this];rfl
 have jQ:i.toNat<(gw f c l k).length:=by rw[gv];exact hn
 rw[cE jQ,bM] at hm
 rw[cU l z h0 h,List.set_append_right _ _ (by rw[hl];exact nl _),hl,Cf,List.set_cons_zero,e,F_ jQ,hm,jz]
 rfl
theorem n9{α:Type}(p:List α)(l:List α)(z:α){i:Int}(hp:p.length=i.toNat)(h0:0<=i)(h:i<l.length):List.getD (p++l.drop i.toNat) i.toNat z=List.getD l i.toNat z:=by
 rw[cI,cI,kj (by omega),hp,Cf,mQ,pn]
theorem hY{α:Type}(f:α->Nat)(l:List α)(z:α){i:Int}(h0:0<=i)(h:i<l.length):f (List.getD l i.toNat z)<=(l.map f).sum:=by
 have h1:l=l.take i.toNat++List.getD l i.toNat z::l.drop (i+1).toNat:=by rw[<-cU l z h0 h,vq]
 have h2:=congrArg (fun q=>(q.map f).sum) h1
 simp only[GX,mR,O6,Ck] at h2
 omega
theorem getD_modify{α:Type}(l:List α)(z:α)(f:α->α)(i:Nat)(h:i<l.length):List.getD (l.modify i f) i z=f (List.getD l i z):=by
 rw[cI,cI,GW,cE h];simp
theorem iW{α:Type}(l:List α)(f g:α->α)(i:Nat):(l.modify i f).modify i g=l.modify i (fun x=>g (f x)):=List.modify_modify_eq f g i l
theorem qJ{α:Type}(l:List α)(z:α)(f:α->α)(i:Nat):l.modify i f=l.set i (f (List.getD l i z)):=by
 refine vp fun j=> ?_
 rw[GW,vI]
 by_cases hj:i=j
 ·subst hj
  rw[if_pos rfl]
  by_cases hi:i<l.length
  ·rw[if_pos hi,cE hi,cI,cE hi];simp
  ·rw[if_neg hi,eD (by omega)];rfl
 ·rw[if_neg hj];simp[hj]
theorem rB{α:Type}(f:α->Int->α)(c:α->Nat)(l:List α)(k:Int){i:Int}(h0:0<=i)(h:i<=l.length):((gw f c l k).take i.toNat).length=i.toNat:=by rw[kg,gv];omega
theorem xx{α:Type}(f:α->Int->α)(c:α->Nat)(l:List α)(k:Int){i:Int}(h0:0<=i)(h:i<=l.length):((gw f c l k).take i.toNat++l.drop i.toNat).length=l.length:=by rw[rj,rB f c l k h0 h,px];omega
theorem rD{α:Type}(f:α->Int->α)(c:α->Nat)(l:List α)(z:α)(k:Int){i:Int}(F:α->α)(h0:0<=i)(h:i<l.length)(hF:F (List.getD l i.toNat z)=f (List.getD l i.toNat z) (k+fH c (l.take i.toNat))):
  ((gw f c l k).take i.toNat++l.drop i.toNat).modify i.toNat F=(gw f c l k).take (i+1).toNat++l.drop (i+1).toNat:=by
 rw[qJ _ z,n9 _ l z (rB f c l k h0 (by omega)) h0 h,hF]
 exact tX f c l z k h0 h
theorem rC{α:Type}(f:α->Int->α)(c:α->Nat)(l:List α)(k:Int){i:Int}(h:l.length<=i):(gw f c l k).take i.toNat++l.drop i.toNat=gw f c l k:=by
 rw[List.drop_eq_nil_of_le (by omega),nk,yj (by rw[gv];omega)]
theorem lH{α:Type}(c:α->Nat)(l:List α){i:Int}(h:l.length<=i):fH c (l.take i.toNat)=fH c l:=by rw[yj (by omega)]
theorem nL{p:Prop}[Decidable p]{n:Int}(h:¬p):Lf [.one (.lit (.int .i64 (-1)))] [.one (.lit (.int .i64 (if p then n else-1)))]:=by rw[if_neg h];exact cM _
theorem vk{p:Prop}[Decidable p]{m n:Int}(h:p)(e:m=n):Lf [.one (.lit (.int .i64 m))] [.one (.lit (.int .i64 (if p then n else-1)))]:=by rw[if_pos h,e];exact cM _
theorem rT{a b:Int}:(a !=b)= !decide (a=b):=by by_cases h:a=b<;>simp[h,bne]
theorem tW(d:Nat)(acc:List UInt8):zi d 0 acc=acc:=by cases d<;>simp[zi]
theorem iz{α:Type}(p:α->Bool)(l:List α)(z:α){i:Int}(h0:0<=i)(h:i<l.length):(l.drop i.toNat).all p=(p (List.getD l i.toNat z)&&(l.drop (i+1).toNat).all p):=by
 rw[cU l z h0 h,F7]
def bs(s:ByteArray):List UInt8:=s.data.toList
theorem oE(s:ByteArray):(bs s).length=s.size:=mS
theorem rS(s:ByteArray):Array.toList (ByteArray.data s)=bs s:=rfl
def iw(p:Int->Bool)(b:UInt8):Bool:=p b.toNat
theorem yl(b:UInt8):IntKind.wrap .i64 (b.toNat:Int)=b.toNat:=wrap_i64 (by omega) (by have:=b.toNat_lt;omega)
theorem FR{y:Bool}(h:y=true):Lf [.one (.lit (.bool true))] [.one (.lit (.bool y))]:=cS h.symm
theorem fJ{y:Bool}(h:y=false):Lf [.one (.lit (.bool false))] [.one (.lit (.bool y))]:=cS h.symm
theorem nr{α:Type}(l:List α)(z:α){i:Int}(h0:0<=i)(h:i<l.length):l.take i.toNat++[List.getD l i.toNat z]=l.take (i+1).toNat:=by
 have hn:i.toNat<l.length:=by omega
 have e:(i+1).toNat=i.toNat+1:=by omega
 rw[e,F_ hn,cI,cE hn]
 rfl
theorem pG{α:Type}(l:List α){i:Int}(h:l.length<=i):l.take i.toNat=l:=yj (by omega)
theorem rn{a:Int}{n:Nat}(h:decide (eQ a n<0)=true):a<n:=by
 have h:=of_decide_eq_true h
 unfold eQ at h;split at h<;>omega
theorem lp{a:Int}{n:Nat}(h:decide (eQ a n<0)=false):eQ a n=a-n/\(n:Int)<=a:=by
 have h:=of_decide_eq_false h
 unfold eQ at h⊢;split at h
 ·rename_i g;rw[if_pos g];exact⟨rfl,g⟩
 ·omega
theorem jD{a:Int}{n:Nat}(h:a<n): -1=eQ a n:=by simp only[eQ];rw[if_neg (by omega)]
theorem nO{a:Int}{n:Nat}(h:(n:Int)<=a):a-n=eQ a n:=by simp only[eQ];rw[if_pos h]
def cA(a:aI):Nat:=a.S.size
def ca(l:List aI):Nat:=l.length+(l.map cA).sum
def cg(a:aI)(k:Int):aI:=⟨k,(k+1),ch (k+1+1)⟩
def bo(a:aI):Nat:=1+1+1
def bR:List aI->Int->List aI:=gw cg bo
def bL(l:List aI):Nat:=fH bo l
theorem l_(a:aI)(k:Int):bo (cg a k)=bo a:=by simp only[bo,cg]
theorem n_(a:aI)(k:Int):cg (cg a k) k=cg a k:=by simp only[cg]
theorem s4(a:aI):bo a<=20*cA a+20:=by simp only[bo,cA];omega
theorem kV(l:List aI)(k:Int):bL (bR l k)=bL l:=qK l_ l k
theorem mW(l:List aI)(k:Int):bR (bR l k) k=bR l k:=l7 l_ n_ l k
theorem mD(l:List aI):bL l<=20*ca l:=rc s4 l
def bu(a:bc):Nat:=a.Kind.size+ca a.ak
def l9(a:bc)(k:Int):bc:=⟨a.Kind,bR a.ak k⟩
def fR(a:bc):Nat:=bL a.ak
def au(a:ae):Nat:=bu a.F
def ay(l:List ae):Nat:=l.length+(l.map au).sum
def bj(a:ae)(k:Int):ae:=⟨k,⟨ch (k+1),bR a.F.ak (k+1+1)⟩⟩
def az(a:ae):Nat:=1+1+bL a.F.ak
def bV:List ae->Int->List ae:=gw bj az
def aY(l:List ae):Nat:=fH az l
theorem gx(a:ae)(k:Int):az (bj a k)=az a:=by simp only[az,bj,kV]
theorem ii(a:ae)(k:Int):bj (bj a k) k=bj a k:=by simp only[bj,kV,mW]
theorem k8(a:ae):az a<=20*au a+20:=by have:=mD a.F.ak;simp only[az,bu,au];omega
theorem mX(l:List ae)(k:Int):aY (bV l k)=aY l:=qK gx l k
theorem ld(l:List ae)(k:Int):bV (bV l k) k=bV l k:=l7 gx ii l k
theorem oD(l:List ae):aY l<=20*ay l:=rc k8 l
def lx(a:ae)(k:Int):ae:=⟨a.At,l9 a.F k⟩
def eS(a:ae):Nat:=fR a.F
theorem lK{x:aI}(h:gP (dA .aE x)):x.S.size<=9223372036854775807:=Bd.str (U:=UU) (h _ (c9 _ (c9 _ (e_))))
theorem rU{x:aI}(h:gP (dA .cm x)):x.S.size<=9223372036854775807:=Bd.str (U:=UU) (h _ (c9 _ (c9 _ (e_))))
theorem fk{x:bc}(h:gP (dA .br x)):x.Kind.size<=9223372036854775807/\x.ak.length<=9223372036854775807:=⟨Bd.str (U:=UU) (h _ (e_)),Bd.len (U:=UU) (h _ (c9 _ (e_)))⟩
theorem qd{x:bc}(h:gP (dA .dl x)):x.Kind.size<=9223372036854775807/\x.ak.length<=9223372036854775807:=⟨Bd.str (U:=UU) (h _ (e_)),Bd.len (U:=UU) (h _ (c9 _ (e_)))⟩
theorem ev{x:ae}(h:gP (dA .af x)):x.F.Kind.size<=9223372036854775807/\x.F.ak.length<=9223372036854775807:=⟨Bd.str (U:=UU) (h _ (c9 _ (e_))),Bd.len (U:=UU) (h _ (c9 _ (c9 _ (e_))))⟩
theorem kO{x:ae}(h:gP (dA .aU x)):x.F.Kind.size<=9223372036854775807/\x.F.ak.length<=9223372036854775807:=⟨Bd.str (U:=UU) (h _ (c9 _ (e_))),Bd.len (U:=UU) (h _ (c9 _ (c9 _ (e_))))⟩
def CM{α:Type}(a:List α):Int×Unit->Nat:=fun y=>a.length-y.1.toNat
def vw{α β:Type}(a:List α):β×Int×Unit->Nat:=fun y=>a.length-y.2.1.toNat
def CH{α:Type}(f:α->Nat)(a:List α)(S:Nat)(left:Int):Int×Int×Unit->Prop:=fun y=>0<=y.1/\0<=y.2.1/\y.2.1<=a.length/\eQ y.1 ((a.drop y.2.1.toNat).map f).sum=eQ left S
def Gd{α:Type}(f:α->Nat)(z:α)(a:List α)(S:Nat)(left:Int):Prop:=
 bif decide (IntKind.wrap .i64 (left-(a.length:Int))<0) then Li (-1) (eQ left S)
 else CH f a S left (IntKind.wrap .i64 (left-(a.length:Int)),0,())/\∀y:Int×Int×PUnit,CH f a S left y->
  bif decide (y.2.1<(a.length:Int)) then 0<=y.2.1/\y.2.1.toNat<a.length/\0<=y.1/\
   bif decide (eQ y.1 (f (a.getD y.2.1.toNat z))<0) then Li (-1) (eQ left S)
   else CH f a S left (eQ y.1 (f (a.getD y.2.1.toNat z)),IntKind.wrap .i64 (y.2.1+1),())/\vw a (eQ y.1 (f (a.getD y.2.1.toNat z)),IntKind.wrap .i64 (y.2.1+1),())<vw a y
  else Li y.1 (eQ left S)
theorem tr{α:Type}{f:α->Nat}{z:α}{a:List α}{S:Nat}{left:Int}(hS:S=a.length+(a.map f).sum)(gz:0<=left)(hl: -9223372036854775808<=left/\left<=9223372036854775807)(Rg:a.length<=9223372036854775807):Gd f z a S left:=by
 subst hS
 unfold Gd
 rw[wrap_i64 (by omega) (by omega)]
 refine ah (fun h=>ni ?_) (fun h=>⟨?_,?_⟩)
 ·simp[eQ] at*;omega
 ·simp at h
  have h':0<=left-a.length:=by omega
  exact⟨h',by show(0:Int)<=0;omega,by show(0:Int)<=a.length;omega,rm h'⟩
 rintro⟨lf,i,⟨⟩⟩ ⟨h0,h1,h2,hR⟩
 refine ah (fun hc=> ?_) (fun hc=> ?_)
 ·have hc:i<a.length:=by simpa using hc
  simp only at h0 h1 h2 hR⊢
  rw[cU a z h1 hc,mR,Ck] at hR
  rw[wrap_i64 (by omega) (by omega)]
  generalize List.getD a i.toNat z=x at*
  refine⟨by omega,by omega,by omega,ah (fun h=>ni ?_) (fun h=>⟨⟨?_,by show(0:Int)<=i+1;omega,by show i+1<=a.length;omega,?_⟩,?_⟩)⟩
  ·rw[<-hR];exact(vP (of_decide_eq_true h)).symm
  ·simp at h;exact h
  ·show eQ (eQ lf (f x)) _=_
   rw[<-hR];simp at h;exact vO h
  ·simp only[vw];omega
 ·have hc:a.length<=i:=by simpa using hc
  simp only at h0 h1 h2 hR⊢
  rw[du a hc] at hR
  apply ni;rw[<-hR];simp[eQ,h0]
def Cx{α:Type}(z:α)(a:List α):List α×Int×Unit->Prop:=fun y=>0<=y.2.1/\y.2.1<=a.length/\y.1=a.take y.2.1.toNat++List.replicate (a.length-y.2.1.toNat) z
def G9{α:Type}(f:α->Nat)(z:α)(a:List α)(L:List α->Prop):Prop:=
 0<=(a.length:Int)/\(a.length:Int)=(a.length:Int)/\(a.length:Int)<=4294967296/\Cx z a (List.replicate (a.length:Int).toNat z,0,())/\
  ∀y:List α×Int×PUnit,Cx z a y->bif decide (y.2.1<(a.length:Int)) then 0<=y.2.1/\y.2.1.toNat<a.length/\f (a.getD y.2.1.toNat z)<=4294967296/\0<=y.2.1/\y.2.1.toNat<y.1.length/\y.2.1.toNat<y.1.length/\
   Cx z a (y.1.set y.2.1.toNat (a.getD y.2.1.toNat z),IntKind.wrap .i64 (y.2.1+1),())/\vw a (y.1.set y.2.1.toNat (a.getD y.2.1.toNat z),IntKind.wrap .i64 (y.2.1+1),())<vw a y
  else L y.1
theorem tp{α:Type}{f:α->Nat}{z:α}{a:List α}{L:List α->Prop}(gz:a.length+(a.map f).sum<=4294967296)(hL:L a):G9 f z a L:=by
 refine⟨by omega,rfl,by omega,⟨by show(0:Int)<=0;omega,by show(0:Int)<=a.length;omega,by simp⟩,?_⟩
 rintro⟨out,i,⟨⟩⟩ ⟨h1,h2,h3⟩
 simp only at h1 h2 h3
 subst h3
 refine ah (fun hc=> ?_) (fun hc=> ?_)
 ·have hc:i<a.length:=by simpa using hc
  simp only
  rw[wrap_i64 (by omega) (by omega),tv a z h1 hc]
  exact⟨h1,by omega,tg (hY f a z h1 hc) (by omega),h1,by simp;omega,by simp;omega,⟨by show(0:Int)<=i+1;omega,by show i+1<=a.length;omega,rfl⟩,by simp only[vw];omega⟩
 ·have hc:a.length<=i:=by simpa using hc
  have e:i.toNat=a.length:=by omega
  simp only
  rw[e];simpa using hL
def Fm{α:Type}(a b:List α):Int×Unit->Prop:=fun y=>0<=y.1/\y.1<=a.length/\a.length=b.length/\(a.drop y.1.toNat=b.drop y.1.toNat↔a=b)
noncomputable def GH{α:Type}[DecidableEq α](z:α)(a b:List α):Prop:=
 bif (a.length:Int) !=(b.length:Int) then Lb false (decide (a=b))
 else Fm a b (0,())/\∀y:Int×PUnit,Fm a b y->bif decide (y.1<(a.length:Int)) then 0<=y.1/\y.1.toNat<a.length/\0<=y.1/\y.1.toNat<b.length/\
   bif !decide (a.getD y.1.toNat z=b.getD y.1.toNat z) then Lb false (decide (a=b))
   else Fm a b (IntKind.wrap .i64 (y.1+1),())/\CM a (IntKind.wrap .i64 (y.1+1),())<CM a y
  else Lb true (decide (a=b))
theorem u0{α:Type}[DecidableEq α]{z:α}{a b:List α}(hl:a.length<=9223372036854775807):GH z a b:=by
 unfold GH
 refine ah (fun h=>vl ?_) (fun h=>⟨?_,?_⟩)
 ·rintro rfl;simp at h
 ·have h:(a.length:Int)=b.length:=by simpa using h
  exact⟨by show(0:Int)<=0;omega,by show(0:Int)<=a.length;omega,by omega,by simp⟩
 rintro⟨i,⟨⟩⟩ ⟨h1,h2,h3,hR⟩
 simp only at h1 h2 h3 hR
 refine ah (fun hc=> ?_) (fun hc=> ?_)
 ·have hc:i<a.length:=by simpa using hc
  rw[cU a z h1 hc,cU b z h1 (by omega)] at hR
  simp only
  rw[wrap_i64 (by omega) (by omega)]
  refine⟨by omega,by omega,by omega,by omega,ah (fun h=>vl ?_) (fun h=>⟨⟨by show(0:Int)<=i+1;omega,by show i+1<=a.length;omega,h3,?_⟩,?_⟩)⟩
  ·rw[<-hR];simp at h;simp[h]
  ·show a.drop (i+1).toNat=b.drop (i+1).toNat↔a=b
   rw[<-hR];simp at h;simp[h]
  ·simp only[CM];omega
 ·have hc:a.length<=i:=by simpa using hc
  rw[du a hc,du b (by omega)] at hR
  exact xf (hR.1 rfl)
def db(b:Int):Bool:=decide (97<=b/\b<=122)
def dW(b:Int):Bool:=db b||decide (48<=b/\b<=57)||decide (b=95)
def fX(s:BA):Bool:=(bs s).all (iw dW)
def cC(s:BA):Bool:=decide (1<=s.size/\s.size<=12)&&db (List.getD (bs s) 0 0).toNat&&fX s
def cN(v:aI):Bool:=bif decide (v.K=1) then decide (-1000000000<=v.N/\v.N<=1000000000)&&decide (v.S=dx) else bif decide (v.K=2) then decide (v.N=0)&&decide (v.S.size<=20)&&fX v.S else false
def df(f:bc):Bool:=cC f.Kind&&decide (f.ak.length<=5)&&f.ak.all cN
def A3:bB UU where
 α:=Int×Int×Int
 md:=[.ro,.ro,.ro]
 of:=oC oI (oC oI (o1 oI))
 ds:=fun x=>[dI x.1,dI x.2.1,dI x.2.2]
 pre:=fun _=>[]
 cf:=fun(n,least,dk)=>⟨[dO (decide (least<=n/\n<=dk))],[],[]⟩
 law:=lC lI (lC lI (l1 lI))
def NH:A3.α->Nat->Option (cw UU):=fun(n,least,dk)=>bP []
def LD:List (FuncId×bB UU):=[]
theorem Mm:aA EE (59,A3):=by
 refine holds_of aP func59 A3 (by kernel_rfl) LD all_nil NH (fun x hp hb=> ?_)
 obtain⟨n,least,dk⟩:=x
 have Kp:=nJ (n:=n) (hb _ m0)
 have uy:=nJ (n:=least) (hb _ m1)
 have rH:=nJ (n:=dk) (hb _ m2)
 clear hp hb
 apply @ve _ (bif decide (n≥least) then Lb (decide (n<=dk)) (decide (least<=n/\n<=dk)) else Lb false (decide (least<=n/\n<=dk))) (by kernel_rfl)
 refine ah (fun h=>cS ?_) (fun h=>cS ?_)<;>grind
def FH:HH:=⟨_,Mm⟩
def Bb:bB UU where
 α:=Int×Int×Int
 md:=[.ro,.ro,.ro]
 of:=oC oI (oC oI (o1 oI))
 ds:=fun x=>[dI x.1,dI x.2.1,dI x.2.2]
 pre:=fun _=>[]
 cf:=fun(x,least,dk)=>⟨[dO (decide (least<=x/\x<=dk))],[],[]⟩
 law:=lC lI (lC lI (l1 lI))
def NR:Bb.α->Nat->Option (cw UU):=fun(x,least,dk)=>bP []
def LP:List (FuncId×bB UU):=[]
theorem Mx:aA EE (40,Bb):=by
 refine holds_of aP func40 Bb (by kernel_rfl) LP all_nil NR (fun x hp hb=> ?_)
 obtain⟨x,least,dk⟩:=x
 have PP:=nJ (n:=x) (hb _ m0)
 have uy:=nJ (n:=least) (hb _ m1)
 have rH:=nJ (n:=dk) (hb _ m2)
 clear hp hb
 apply @ve _ (bif decide (x≥least) then Lb (decide (x<=dk)) (decide (least<=x/\x<=dk)) else Lb false (decide (least<=x/\x<=dk))) (by kernel_rfl)
 refine ah (fun h=>cS ?_) (fun h=>cS ?_)<;>grind
def xc:HH:=⟨_,Mx⟩
def AX:bB UU where
 α:=Int
 md:=[.ro]
 of:=o1 oY
 ds:=fun x=>[dY x]
 pre:=fun _=>[]
 cf:=fun b=>⟨[dO (db b)],[],[]⟩
 law:=l1 lY
def NB:AX.α->Nat->Option (cw UU):=fun b=>bP []
def Lw:List (FuncId×bB UU):=[]
theorem Mg:aA EE (71,AX):=by
 refine holds_of aP func71 AX (by kernel_rfl) Lw all_nil NB (fun(b:Int) hp hb=> ?_)
 skip
 clear hp hb
 apply @ve _ (bif decide (b≥97) then Lb (decide (b<=122)) (db b) else Lb false (db b)) (by kernel_rfl)
 refine ah (fun h=>cS ?_) (fun h=>cS ?_)<;>grind [db]
def FF:HH:=⟨_,Mg⟩
def AS:bB UU where
 α:=Int
 md:=[.ro]
 of:=o1 oY
 ds:=fun x=>[dY x]
 pre:=fun _=>[]
 cf:=fun b=>⟨[dO (decide (48<=b/\b<=57))],[],[]⟩
 law:=l1 lY
def Nx:AS.α->Nat->Option (cw UU):=fun b=>bP []
def Ls:List (FuncId×bB UU):=[]
theorem Mc:aA EE (77,AS):=by
 refine holds_of aP func77 AS (by kernel_rfl) Ls all_nil Nx (fun(b:Int) hp hb=> ?_)
 skip
 clear hp hb
 apply @ve _ (let q0:=decide (48<=b/\b<=57);bif decide (b≥48) then Lb (decide (b<=57)) q0 else Lb false q0) (by kernel_rfl)
 dsimp only
 refine ah (fun h=>cS ?_) (fun h=>cS ?_)<;>grind
def M1:HH:=⟨_,Mc⟩
def AT:bB UU where
 α:=Int
 md:=[.ro]
 of:=o1 oY
 ds:=fun x=>[dY x]
 pre:=fun _=>[]
 cf:=fun b=>⟨[dO (dW b)],[],[]⟩
 law:=l1 lY
def Ny:AT.α->Nat->Option (cw UU):=fun b=>bP []
def Lt:=us [FF,M1]
theorem Md:aA EE (76,AT):=by
 refine holds_of aP func76 AT (by kernel_rfl) Lt (bq _) Ny (fun(b:Int) hp hb=> ?_)
 skip
 clear hp hb
 apply @ve _ (bif db b then Lb true (dW b) else bif decide (48<=b/\b<=57) then Lb true (dW b) else Lb (b==95) (dW b)) (by kernel_rfl)
 refine ah (fun h=>cS ?_) (fun h=> ?_)
 ·grind [dW]
 refine ah (fun h=>cS ?_) (fun h=>cS ?_)<;>grind [dW]
def M2:HH:=⟨_,Md⟩
def AZ:bB UU where
 α:=Int
 md:=[.ro]
 of:=o1 oY
 ds:=fun x=>[dY x]
 pre:=fun c=>[0<=c/\c<=255]
 cf:=fun c=>⟨[dO (dW c)],[],[]⟩
 law:=l1 lY
def ND:AZ.α->Nat->Option (cw UU):=fun c=>bP []
def Ly:=us [xc]
theorem Mi:aA EE (69,AZ):=by
 refine holds_of aP func69 AZ (by kernel_rfl) Ly (bq _) ND (fun(c:Int) hp hb=> ?_)
 have gz:0<=c/\c<=255:=hp _ m0
 clear hp hb
 apply @ve _ (bif decide (97<=IntKind.wrap IntKind.i64 c/\IntKind.wrap IntKind.i64 c<=122) then Lb true (dW c) else bif decide (48<=IntKind.wrap IntKind.i64 c/\IntKind.wrap IntKind.i64 c<=57) then Lb true (dW c) else Lb (c==95) (dW c)) (by kernel_rfl)
 rw[wrap_i64 (by omega) (by omega)]
 refine ah (fun h=>cS ?_) (fun h=> ?_)
 ·grind [dW,db]
 refine ah (fun h=>cS ?_) (fun h=>cS ?_)<;>grind [dW,db]
def FG:HH:=⟨_,Mi⟩
def AW:bB UU where
 α:=BA×Int
 md:=[.ro,.ro]
 of:=oC oS (o1 oI)
 ds:=fun x=>[dS x.1,dI x.2]
 pre:=fun _=>[]
 cf:=fun(s,dk)=>⟨[dO (decide (s.size<=dk)&&fX s)],[],[]⟩
 law:=lC lS (l1 lI)
def o7(s:BA)(dk:Int):Int×Unit->Prop:=fun(i,_)=>0<=i/\i<=s.size/\s.size<=dk/\((bs s).drop i.toNat).all (iw dW)=fX s
def oK(s:BA)(dk:Int):Int×Unit->Nat:=fun(i,_)=>s.size-i.toNat
def NA:AW.α->Nat->Option (cw UU):=fun(s,dk)=>bP [(4,cY [.slot 5 (5,1024) (.lit (.int .i64))] (fun _=>o7 s dk) (oK s dk))]
def Lv:=us [M2]
theorem Mf:aA EE (72,AW):=by
 refine holds_of aP func72 AW (by kernel_rfl) Lv (bq _) NA (fun x hp hb=> ?_)
 obtain⟨s,dk⟩:=x
 have zY:=GL (s:=s) (hb _ m0)
 have rH:=nJ (n:=dk) (hb _ m1)
 clear hp hb
 apply @ve _ (let q0:=decide ((↑(ByteArray.size s):Int)<=dk)&&fX s;bif decide ((↑(ByteArray.size s):Int)>dk) then Lb false q0 else o7 s dk (0,())/\∀(y:Int×PUnit),let q1:=(IntKind.wrap IntKind.i64 (y.1+1),());o7 s dk y->bif decide (y.1<(↑(ByteArray.size s):Int)) then 0<=y.1/\y.1.toNat<ByteArray.size s/\bif !dW (↑(UInt8.toNat (List.getD s.data.toList y.1.toNat (0:UInt8))):Int) then Lb false q0 else o7 s dk q1/\oK s dk q1<oK s dk y else Lb true q0) (by kernel_rfl)
 dsimp only
 refine ah (fun h=>fJ ?_) (fun h=> ?_)
 ·have h:=yT h;rw[decide_eq_false (by omega)];rfl
 have h0:=yF h
 refine⟨⟨by omega,by omega,by omega,rfl⟩,?_⟩
 rintro⟨i,⟨⟩⟩ ⟨h1,h2,h3,hR⟩
 have hl:=oE s
 simp only[rS]
 refine ah (fun hc=> ?_) (fun hc=> ?_)
 ·have hc:=yT hc
  rw[iz _ _ 0 h1 (by omega)] at hR
  rw[wrap_i64 (by omega) (by omega)]
  refine⟨by omega,by omega,ah (fun h=>fJ ?_) (fun h=>⟨⟨by omega,by omega,by omega,?_⟩,?_⟩)⟩
  ·rw[<-hR];simp only[iw];simp at h;simp[h]
  ·rw[<-hR];simp only[iw];simp at h;simp[h]
  ·simp only[oK];omega
 ·have hc:=yF hc
  rw[du _ (by omega)] at hR
  exact FR (by rw[<-hR,decide_eq_true h3];rfl)
def FE:HH:=⟨_,Mf⟩
def A2:bB UU where
 α:=BA
 md:=[.ro]
 of:=o1 oS
 ds:=fun x=>[dS x]
 pre:=fun _=>[]
 cf:=fun s=>⟨[dO (cC s)],[],[]⟩
 law:=l1 lS
def NG:A2.α->Nat->Option (cw UU):=fun s=>bP []
def LC:=us [FF,FE]
theorem Ml:aA EE (60,A2):=by
 refine holds_of aP func60 A2 (by kernel_rfl) LC (bq _) NG (fun(s:BA) hp hb=> ?_)
 have zY:=GL (s:=s) (hb _ m0)
 clear hp hb
 apply @ve _ (bif decide ((↑(ByteArray.size s):Int)>0) then(0:Int)<=(0:Int)/\Int.toNat 0<ByteArray.size s/\bif db (↑(UInt8.toNat (List.getD s.data.toList (Int.toNat 0) (0:UInt8))):Int) then Lb (decide ((↑(ByteArray.size s):Int)<=12)&&fX s) (cC s) else Lb false (cC s) else Lb false (cC s)) (by kernel_rfl)
 have hl:=oE s
 simp only[rS]
 refine ah (fun h=> ?_) (fun h=>fJ ?_)
 ·have h:=yT h
  refine⟨by omega,by omega,ah (fun h'=>cS ?_) (fun h'=>fJ ?_)⟩
  ·have h':db ((List.getD (bs s) 0 0).toNat:Int)=true:=h'
   simp only[cC,h']
   have e:decide (1<=s.size/\s.size<=12)=decide ((s.size:Int)<=12):=by rw[decide_eq_decide];omega
   rw[e];simp
  ·have h':db ((List.getD (bs s) 0 0).toNat:Int)=false:=h'
   simp only[cC,h'];grind
 ·have h:=yF h
  simp only[cC];rw[decide_eq_false (by omega)];rfl
def M7:HH:=⟨_,Ml⟩
def A6:bB UU where
 α:=BA
 md:=[.ro]
 of:=o1 oS
 ds:=fun x=>[dS x]
 pre:=fun _=>[]
 cf:=fun s=>⟨[dO (cC s)],[],[]⟩
 law:=l1 lS
def mH(s:BA):Int×Unit->Prop:=fun(i,_)=>0<=i/\i<=s.size/\((bs s).drop i.toNat).all (iw dW)=fX s/\(0<i->db (List.getD (bs s) 0 0).toNat=true)
def jw(s:BA):Int×Unit->Nat:=fun(i,_)=>s.size-i.toNat
def NK:A6.α->Nat->Option (cw UU):=fun s=>bP [(2,cY [.slot 3 (3,1024) (.lit (.int .i64))] (fun _=>mH s) (jw s))]
def LH:=us [FG,xc]
theorem Mp:aA EE (56,A6):=by
 refine holds_of aP func56 A6 (by kernel_rfl) LH (bq _) NK (fun(s:BA) hp hb=> ?_)
 have zY:=GL (s:=s) (hb _ m0)
 clear hp hb
 apply @ve _ (let q0:=(↑(ByteArray.size s):Int);mH s (0,())/\∀(y:Int×PUnit),let x0:Int:=(↑(UInt8.toNat (List.getD s.data.toList y.1.toNat (0:UInt8))):Int);let q1:=(IntKind.wrap IntKind.i64 (y.1+1),());mH s y->bif decide (y.1<q0) then 0<=y.1/\y.1.toNat<ByteArray.size s/\(0<=x0/\x0<=255)/\bif !dW x0 then Lb false (cC s) else bif y.1==0 then 0<=y.1/\y.1.toNat<ByteArray.size s/\bif !decide (97<=IntKind.wrap IntKind.i64 x0/\IntKind.wrap IntKind.i64 x0<=122) then Lb false (cC s) else mH s q1/\jw s q1<jw s y else mH s q1/\jw s q1<jw s y else Lb (decide (1<=q0/\q0<=12)) (cC s)) (by kernel_rfl)
 dsimp only
 refine⟨⟨by omega,by omega,rfl,by omega⟩,?_⟩
 rintro⟨i,⟨⟩⟩ ⟨h1,h2,hR,hS⟩
 have hl:=oE s
 simp only[rS,yl]
 refine ah (fun hc=> ?_) (fun hc=> ?_)
 ·have hc:=yT hc
  have hb:=(List.getD (bs s) i.toNat 0).toNat_lt
  rw[iz _ _ 0 h1 (by omega)] at hR
  rw[wrap_i64 (by omega) (by omega)]
  have hN:fX s=false->cC s=false:=fun h=>by simp[cC,h]
  refine⟨by omega,by omega,⟨by omega,by omega⟩,ah (fun h=>fJ (hN ?_)) (fun h=>ah (fun h'=>⟨by omega,by omega,ah (fun p8=>fJ ?_) (fun p8=>⟨⟨by omega,by omega,?_,fun _=> ?_⟩,?_⟩)⟩) (fun h'=>⟨⟨by omega,by omega,?_,fun _=>hS ?_⟩,?_⟩))⟩
  ·rw[<-hR];simp only[iw];simp at h;simp[h]
  ·have h':i=0:=by simpa using h'
   subst h'
   have p8:db ((List.getD (bs s) 0 0).toNat:Int)=false:=by simp only[db];grind
   simp only[cC,p8];grind
  ·rw[<-hR];simp only[iw];simp at h;simp[h]
  ·have h':i=0:=by simpa using h'
   subst h'
   simpa[db] using p8
  ·simp only[jw];omega
  ·rw[<-hR];simp only[iw];simp at h;simp[h]
  ·have h':¬i=0:=by simpa using h'
   omega
  ·simp only[jw];omega
 ·have hc:=yF hc
  rw[du _ (by omega)] at hR
  refine cS ?_
  simp only[cC,<-hR]
  by_cases hz:0<i
  ·rw[hS hz];simp only[O7];grind
  ·rw[decide_eq_false (by omega),decide_eq_false (by omega)];rfl
def M':HH:=⟨_,Mp⟩
def AU:bB UU where
 α:=BA
 md:=[.ro]
 of:=o1 oS
 ds:=fun x=>[dS x]
 pre:=fun _=>[]
 cf:=fun s=>⟨[dO (decide (s.size<=20)&&fX s)],[],[]⟩
 law:=l1 lS
def o6(s:BA):Int×Unit->Prop:=fun(i,_)=>0<=i/\i<=s.size/\((bs s).drop i.toNat).all (iw dW)=fX s
def oJ(s:BA):Int×Unit->Nat:=fun(i,_)=>s.size-i.toNat
def Nz:AU.α->Nat->Option (cw UU):=fun s=>bP [(2,cY [.slot 3 (3,1024) (.lit (.int .i64))] (fun _=>o6 s) (oJ s))]
def Lu:=us [FG]
theorem Me:aA EE (75,AU):=by
 refine holds_of aP func75 AU (by kernel_rfl) Lu (bq _) Nz (fun(s:BA) hp hb=> ?_)
 have zY:=GL (s:=s) (hb _ m0)
 clear hp hb
 apply @ve _ (let q0:=decide (ByteArray.size s<=20)&&fX s;o6 s (0,())/\∀(y:Int×PUnit),let x0:Int:=(↑(UInt8.toNat (List.getD s.data.toList y.1.toNat (0:UInt8))):Int);let q1:=(IntKind.wrap IntKind.i64 (y.1+1),());o6 s y->bif decide (y.1<(↑(ByteArray.size s):Int)) then 0<=y.1/\y.1.toNat<ByteArray.size s/\(0<=x0/\x0<=255)/\bif !dW x0 then Lb false q0 else o6 s q1/\oJ s q1<oJ s y else Lb (decide ((↑(ByteArray.size s):Int)<=20)) q0) (by kernel_rfl)
 dsimp only
 refine⟨⟨by omega,by omega,rfl⟩,?_⟩
 rintro⟨i,⟨⟩⟩ ⟨h1,h2,hR⟩
 have hl:=oE s
 simp only[rS]
 refine ah (fun hc=> ?_) (fun hc=> ?_)
 ·have hc:=yT hc
  have hb:=(List.getD (bs s) i.toNat 0).toNat_lt
  rw[iz _ _ 0 h1 (by omega)] at hR
  rw[wrap_i64 (by omega) (by omega)]
  refine⟨by omega,by omega,⟨by omega,by omega⟩,ah (fun h=>fJ ?_) (fun h=>⟨⟨by omega,by omega,?_⟩,?_⟩)⟩
  ·rw[<-hR];simp only[iw];simp at h;simp[h]
  ·rw[<-hR];simp only[iw];simp at h;simp[h]
  ·simp only[oJ];omega
 ·have hc:=yF hc
  rw[du _ (by omega)] at hR
  refine cS ?_
  rw[<-hR];simp;omega
def M3:HH:=⟨_,Me⟩
def A1:bB UU where
 α:=aI
 md:=[.ro]
 of:=o1 (oA .aE)
 ds:=fun x=>[dA .aE x]
 pre:=fun _=>[]
 cf:=fun v=>⟨[dO (cN v)],[],[]⟩
 law:=l1 (lA .aE)
def NF:A1.α->Nat->Option (cw UU):=fun v=>bP []
def LB:=us [FH,FE]
theorem Mk:aA EE (61,A1):=by
 refine holds_of aP func61 A1 (by kernel_rfl) LB (bq _) NF (fun(v:aI) hp hb=> ?_)
 have zX:=lK (x:=v) (hb _ m0)
 clear hp hb
 apply @ve _ (bif v.K==1 then bif decide ((-1000000000)<=v.N/\v.N<=1000000000) then Lb (ByteArray.toList v.S==ByteArray.toList {data:= #[]:BA}) (cN v) else Lb false (cN v) else bif v.K==2 then bif v.N==0 then Lb (decide ((↑(ByteArray.size v.S):Int)<=20)&&fX v.S) (cN v) else Lb false (cN v) else Lb false (cN v)) (by kernel_rfl)
 have e:(ByteArray.toList (aI.S v)==ByteArray.toList {data:= #[]})=decide (v.S=dx):=gm _ _
 simp only[e,cN]
 repeat' (refine ah (fun h=> ?_) (fun h=> ?_))
 all_goals (refine cS ?_;grind)
def M6:HH:=⟨_,Mk⟩
def AY:bB UU where
 α:=aI
 md:=[.ro]
 of:=o1 (oA .aE)
 ds:=fun x=>[dA .aE x]
 pre:=fun _=>[]
 cf:=fun v=>⟨[dO (cN v)],[],[]⟩
 law:=l1 (lA .aE)
def NC:AY.α->Nat->Option (cw UU):=fun v=>bP []
def Lx:=us [xc,M3]
theorem Mh:aA EE (70,AY):=by
 refine holds_of aP func70 AY (by kernel_rfl) Lx (bq _) NC (fun(v:aI) hp hb=> ?_)
 have zX:=lK (x:=v) (hb _ m0)
 clear hp hb
 apply @ve _ (bif v.K==1 then bif decide ((-1000000000)<=v.N/\v.N<=1000000000) then Lb (ByteArray.toList v.S==ByteArray.toList {data:= #[]:BA}) (cN v) else Lb false (cN v) else bif v.K==2 then bif decide (ByteArray.size v.S<=20)&&fX v.S then Lb (v.N==0) (cN v) else Lb false (cN v) else Lb false (cN v)) (by kernel_rfl)
 have e:(ByteArray.toList (aI.S v)==ByteArray.toList {data:= #[]})=decide (v.S=dx):=gm _ _
 simp only[e,cN]
 repeat' (refine ah (fun h=> ?_) (fun h=> ?_))
 all_goals (refine cS ?_;grind)
def M4:HH:=⟨_,Mh⟩
def A5:bB UU where
 α:=(List aI)
 md:=[.ro]
 of:=o1 (oL .aE)
 ds:=fun x=>[dL .aE x]
 pre:=fun _=>[]
 cf:=fun l=>⟨[dO (decide (l.length<=5)&&l.all cN)],[],[]⟩
 law:=l1 (lL .aE)
def o8(l:(List aI)):Int×Unit->Prop:=fun(i,_)=>0<=i/\i<=l.length/\(l.drop i.toNat).all cN=l.all cN
def oM(l:(List aI)):Int×Unit->Nat:=fun(i,_)=>l.length-i.toNat
def NJ:A5.α->Nat->Option (cw UU):=fun l=>bP [(2,cY [.slot 3 (3,1024) (.lit (.int .i64))] (fun _=>o8 l) (oM l))]
def LG:=us [M4]
theorem Mo:aA EE (57,A5):=by
 refine holds_of aP func57 A5 (by kernel_rfl) LG (bq _) NJ (fun(l:(List aI)) hp hb=> ?_)
 have qT:l.length<=9223372036854775807:=ng (hb _ m0)
 clear hp hb
 apply @ve _ (let x0:Int:=(l.length:Int);let q0:=decide (l.length<=5)&&List.all l cN;o8 l (0,())/\∀(y:Int×PUnit),let q1:=(IntKind.wrap IntKind.i64 (y.1+1),());o8 l y->bif decide (y.1<x0) then 0<=y.1/\y.1.toNat<l.length/\bif !cN (List.getD l y.1.toNat gU) then Lb false q0 else o8 l q1/\oM l q1<oM l y else Lb (decide (x0<=5)) q0) (by kernel_rfl)
 dsimp only
 refine⟨⟨by omega,by omega,rfl⟩,?_⟩
 rintro⟨i,⟨⟩⟩ ⟨h1,h2,hR⟩
 simp only
 refine ah (fun hc=> ?_) (fun hc=> ?_)
 ·have hc:=yT hc
  rw[iz _ _ gU h1 (by omega)] at hR
  rw[wrap_i64 (by omega) (by omega)]
  refine⟨by omega,by omega,ah (fun h=>fJ ?_) (fun h=>⟨⟨by omega,by omega,?_⟩,?_⟩)⟩
  ·rw[<-hR];simp at h;simp[h]
  ·rw[<-hR];simp at h;simp[h]
  ·simp only[oM];omega
 ·have hc:=yF hc
  rw[du _ (by omega)] at hR
  refine cS ?_
  rw[<-hR];simp;omega
def M9:HH:=⟨_,Mo⟩
def Ba:bB UU where
 α:=bc
 md:=[.ro]
 of:=o1 (oA .br)
 ds:=fun x=>[dA .br x]
 pre:=fun _=>[]
 cf:=fun f=>⟨[dO (df f)],[],[]⟩
 law:=l1 (lA .br)
def NQ:Ba.α->Nat->Option (cw UU):=fun f=>bP []
def LO:=us [M',M9]
theorem Mw:aA EE (41,Ba):=by
 refine holds_of aP func41 Ba (by kernel_rfl) LO (bq _) NQ (fun(f:bc) hp hb=> ?_)
 have fu:=fk (x:=f) (hb _ m0)
 have kB:=fu.1
 have il:=fu.2
 clear hp hb
 apply @ve _ (bif cC f.Kind then Lb (decide (f.ak.length<=5)&&List.all f.ak cN) (df f) else Lb false (df f)) (by kernel_rfl)
 simp only[df]
 refine ah (fun h=>cS ?_) (fun h=>cS ?_)<;>grind
def Ng:HH:=⟨_,Mw⟩
def A9:bB UU where
 α:=bc
 md:=[.ro]
 of:=o1 (oA .br)
 ds:=fun x=>[dA .br x]
 pre:=fun _=>[]
 cf:=fun f=>⟨[dO (df f)],[],[]⟩
 law:=l1 (lA .br)
def o9(f:bc):Int×Unit->Prop:=fun(i,_)=>0<=i/\i<=f.ak.length/\f.ak.length<=5/\cC f.Kind=true/\(f.ak.drop i.toNat).all cN=f.ak.all cN
def oN(f:bc):Int×Unit->Nat:=fun(i,_)=>f.ak.length-i.toNat
def NN:A9.α->Nat->Option (cw UU):=fun f=>bP [(4,cY [.slot 18 (18,1024) (.lit (.int .i64))] (fun _=>o9 f) (oN f))]
def LL:=us [M7,M6]
theorem Mt:aA EE (44,A9):=by
 refine holds_of aP func44 A9 (by kernel_rfl) LL (bq _) NN (fun(f:bc) hp hb=> ?_)
 have fu:=fk (x:=f) (hb _ m0)
 have kB:=fu.1
 have il:=fu.2
 clear hp hb
 apply @ve _ (let x0:Int:=(f.ak.length:Int);bif !cC f.Kind then Lb false (df f) else bif decide (x0>5) then Lb false (df f) else o9 f (0,())/\∀(y:Int×PUnit),let q0:=(IntKind.wrap IntKind.i64 (y.1+1),());o9 f y->bif decide (y.1<x0) then 0<=y.1/\y.1.toNat<f.ak.length/\bif !cN (List.getD f.ak y.1.toNat gU) then Lb false (df f) else o9 f q0/\oN f q0<oN f y else Lb true (df f)) (by kernel_rfl)
 dsimp only
 refine ah (fun h=>cS ?_) (fun h=>ah (fun h'=>cS ?_) (fun h'=>⟨⟨by omega,by omega,by simp at h';omega,by simpa using h,rfl⟩,?_⟩))
 ·simp only[df];grind
 ·simp only[df];grind
 rintro⟨i,⟨⟩⟩ ⟨h1,h2,h3,h4,hR⟩
 simp only
 refine ah (fun hc=> ?_) (fun hc=> ?_)
 ·have hc:=yT hc
  rw[iz _ _ gU h1 (by omega)] at hR
  rw[wrap_i64 (by omega) (by omega)]
  refine⟨by omega,by omega,ah (fun h=>fJ ?_) (fun h=>⟨⟨by omega,by omega,by omega,h4,?_⟩,?_⟩)⟩
  ·simp only[df];rw[<-hR];simp at h;simp[h]
  ·rw[<-hR];simp at h;simp[h]
  ·simp only[oN];omega
 ·have hc:=yF hc
  rw[du _ (by omega)] at hR
  refine cS ?_
  simp only[df,<-hR,h4];simp;omega
def Nc:HH:=⟨_,Mt⟩
def Bh:bB UU where
 α:=Int
 md:=[.ro]
 of:=o1 oI
 ds:=fun x=>[dI x]
 pre:=fun k=>[k<=4611686018427387903]
 cf:=fun k=>⟨[dS (ch k)],[],[]⟩
 law:=l1 lI
def pb(k:Int):Int×BA×Unit->Prop:=fun(j,out,_)=>0<=j/\j<=k/\(∃l d,out=⟨l.toArray⟩/\j.toNat<=d/\zi d j.toNat l=zi k.toNat k.toNat []/\l.length<=k-j)
def oT(k:Int):Int×BA×Unit->Nat:=fun(j,out,_)=>j.toNat
def NW:Bh.α->Nat->Option (cw UU):=fun k=>bP [(4,cY [.slot 0 (0,1024) (.lit (.int .i64)),.slot 3 (3,1024) (.lit .str)] (fun _=>pb k) (oT k))]
def LV:List (FuncId×bB UU):=[]
theorem MC:aA EE (31,Bh):=by
 refine holds_of aP func31 Bh (by kernel_rfl) LV all_nil NW (fun(k:Int) hp hb=> ?_)
 have sN:=nJ (n:=k) (hb _ m0)
 have gz:k<=4611686018427387903:=hp _ m0
 clear hp hb
 apply @ve _ (bif decide (k<=0) then Lf [VS ({data:= #[(109:UInt8),(48:UInt8)]:BA})] [VS (ch k)] else pb k (k,{data:= #[]:BA},())/\∀(y:Int×BA×PUnit),let x0:Nat:=ByteArray.size y.2.1;let x1:BA:=strOfNums (List.map (fun(x:Cd.T Cd.byte)=>x) [IntKind.wrap IntKind.u8 (IntKind.wrap IntKind.i64 (48+Int.tmod y.1 10))]);let q0:=(IntKind.wrap IntKind.i64 (Int.tdiv y.1 10),x1++y.2.1,());pb k y->bif decide (y.1>0) then(10:Int)≠(0:Int)/\ByteArray.size x1+x0<=4611686018427387904/\(10:Int)≠(0:Int)/\pb k q0/\oT k q0<oT k y else ByteArray.size {data:= #[(109:UInt8)]:BA}+x0<=4611686018427387904/\Lf [VS ({data:= #[(109:UInt8)]:BA}++y.2.1)] [VS (ch k)]) (by kernel_rfl)
 dsimp only
 refine ah (fun h=>FT ?_) (fun h=> ?_)
 ·have h:=yT h;simp only[ch];rw[if_pos h]
 have h0:=yF h
 refine⟨⟨by omega,by omega,[],k.toNat,rfl,nl _,rfl,by simp⟩,?_⟩
 rintro⟨j,out,⟨⟩⟩ ⟨h1,h2,l,d,rfl,hd,hm,hl⟩
 simp only
 have hz:∀l:List UInt8,(ByteArray.mk l.toArray).size=l.length:=fun l=>by simp[ByteArray.size]
 refine ah (fun h=> ?_) (fun h=> ?_)
 ·have h:=yT h
  have ht:Int.tmod j 10=j%10:=G2 h1
  have hq:Int.tdiv j 10=j/10:=Int.tdiv_eq_ediv_of_nonneg h1
  have hu:IntKind.wrap .u8 (48+j%10)=48+j%10:=by simp only[IntKind.wrap];simp[IntKind.bits,IntKind.signed];omega
  rw[ht,hq,wrap_i64 (by omega) (by omega),wrap_i64 (by omega) (by omega),hu]
  have hs:∀l:List UInt8,strOfNums (List.map (fun(x:Int)=>x) [48+j%10])++(⟨l.toArray⟩:BA)=⟨((UInt8.ofNat (48+j.toNat%10))::l).toArray⟩:=fun l=>by
   have e:(48+j%10).toNat=48+j.toNat%10:=by omega
   simp only[strOfNums,mR,List.map_nil,e]
   apply ByteArray.ext
   simp
  have zD:(strOfNums (List.map (fun(x:Int)=>x) [48+j%10])).size=1:=rfl
  refine⟨by omega,by erw[zD];rw[hz];omega,by omega,⟨by omega,by omega,_,d-1,hs l,by omega,?_,by simp only[xl];omega⟩,by simp only[oT];omega⟩
  rw[<-hm]
  obtain⟨d,rfl⟩:∃e,d=e+1:=⟨d-1,by omega⟩
  have e:(j/10).toNat=j.toNat/10:=by omega
  rw[e]
  simp only[Nat.add_sub_cancel,zi]
  rw[if_neg (by omega)]
 ·have h:=yF h
  have hj:j.toNat=0:=by omega
  rw[hj,tW] at hm
  refine⟨by rw[hz];simp[ByteArray.size];omega,FT ?_⟩
  simp only[ch]
  rw[if_neg h0,<-hm]
  apply ByteArray.ext
  simp
def xd:HH:=⟨_,MC⟩
def A7:bB UU where
 α:=aI×Int
 md:=[.ro,.ro]
 of:=oC (oA .cm) (o1 oI)
 ds:=fun x=>[dA .cm x.1,dI x.2]
 pre:=fun(a,left)=>[0<=left]
 cf:=fun(a,left)=>⟨[dI (eQ left (cA a))],[],[]⟩
 law:=lC (lA .cm) (l1 lI)
def NL:A7.α->Nat->Option (cw UU):=fun(a,left)=>bP []
def LI:List (FuncId×bB UU):=[]
theorem Mq:aA EE (55,A7):=by
 refine holds_of aP func55 A7 (by kernel_rfl) LI all_nil NL (fun x hp hb=> ?_)
 obtain⟨a,left⟩:=x
 have uz:=rU (x:=a) (hb _ m0)
 have iH:=nJ (n:=left) (hb _ m1)
 have gz:0<=left:=hp _ m0
 clear hp hb
 apply @ve _ (let x0:Int:=IntKind.wrap IntKind.i64 (left-(↑(ByteArray.size a.S):Int));bif decide (x0<0) then Li (-1) (eQ left (cA a)) else Li x0 (eQ left (cA a))) (by kernel_rfl)
 dsimp only
 rw[wrap_i64 (by omega) (by omega)]
 refine ah (fun h=>ni (jD ?_)) (fun h=> ?_)
 ·have h:=yT h;simp only[cA];omega
 have h0:=yF h
 exact ni (by rw[<-nO (by simp only[cA];omega)];simp only[cA];try omega)
def M_:HH:=⟨_,Mq⟩
def A4:bB UU where
 α:=aI
 md:=[.ro]
 of:=o1 (oA .cm)
 ds:=fun x=>[dA .cm x]
 pre:=fun a=>[cA a<=4294967296]
 cf:=fun a=>⟨[dA .aE a],[],[]⟩
 law:=l1 (lA .cm)
def NI:A4.α->Nat->Option (cw UU):=fun a=>bP []
def LF:List (FuncId×bB UU):=[]
theorem Mn:aA EE (58,A4):=by
 refine holds_of aP func58 A4 (by kernel_rfl) LF all_nil NI (fun(a:aI) hp hb=> ?_)
 have uz:=rU (x:=a) (hb _ m0)
 have gz:cA a<=4294967296:=hp _ m0
 clear hp hb
 apply @ve _ (Lf [DV.agg [CI a.K,CI a.N,CS a.S]] [DV.agg [CI a.K,CI a.N,CS a.S]]) (by kernel_rfl)
 simp only[cA] at gz
 repeat' (first|exact cM _|(refine And.intro (by omega) ?_))
def M8:HH:=⟨_,Mn⟩
def A0:bB UU where
 α:=aI×aI
 md:=[.ro,.ro]
 of:=oC (oA .aE) (o1 (oA .aE))
 ds:=fun x=>[dA .aE x.1,dA .aE x.2]
 pre:=fun _=>[]
 cf:=fun(a,b)=>⟨[dO (decide (a=b))],[],[]⟩
 law:=lC (lA .aE) (l1 (lA .aE))
def NE:A0.α->Nat->Option (cw UU):=fun(a,b)=>bP []
def LA:List (FuncId×bB UU):=[]
theorem Mj:aA EE (63,A0):=by
 refine holds_of aP func63 A0 (by kernel_rfl) LA all_nil NE (fun x hp hb=> ?_)
 obtain⟨a,b⟩:=x
 have uz:=lK (x:=a) (hb _ m0)
 have Kq:=lK (x:=b) (hb _ m1)
 clear hp hb
 apply @ve _ (let q0:=Lb false (decide (a=b));bif a.K !=b.K then q0 else bif a.N !=b.N then q0 else bif !ByteArray.toList a.S==ByteArray.toList b.S then q0 else Lb true (decide (a=b))) (by kernel_rfl)
 dsimp only
 obtain⟨aK,aN,aS⟩:=a
 obtain⟨bK,bN,bS⟩:=b
 repeat' (apply ah<;>intro _)
 all_goals (first|apply xf|apply vl)<;>simp_all
def M5:HH:=⟨_,Mj⟩
def Bc:bB UU where
 α:=(List aI)×Int
 md:=[.ro,.ro]
 of:=oC (oL .cm) (o1 oI)
 ds:=fun x=>[dL .cm x.1,dI x.2]
 pre:=fun(a,left)=>[0<=left]
 cf:=fun(a,left)=>⟨[dI (eQ left (ca a))],[],[]⟩
 law:=lC (lL .cm) (l1 lI)
def BC(a:(List aI))(left:Int):Int×Int×Unit->Prop:=CH cA a (ca a) left
def AQ(a:(List aI))(left:Int):Int×Int×Unit->Nat:=vw a
def NS:Bc.α->Nat->Option (cw UU):=fun(a,left)=>bP [(5,cY [.slot 1 (1,1024) (.lit (.int .i64)),.slot 5 (5,1024) (.lit (.int .i64))] (fun _=>BC a left) (AQ a left))]
def LQ:=us [M_]
theorem My:aA EE (39,Bc):=by
 refine holds_of aP func39 Bc (by kernel_rfl) LQ (bq _) NS (fun x hp hb=> ?_)
 obtain⟨a,left⟩:=x
 have kD:a.length<=9223372036854775807:=ng (hb _ m0)
 have iH:=nJ (n:=left) (hb _ m1)
 have gz:0<=left:=hp _ m0
 clear hp hb
 apply @ve _ (Gd cA gU a (ca a) left) (by kernel_rfl)
 exact tr rfl gz iH kD
def Nh:HH:=⟨_,My⟩
def A_:bB UU where
 α:=(List aI)
 md:=[.ro]
 of:=o1 (oL .cm)
 ds:=fun x=>[dL .cm x]
 pre:=fun a=>[ca a<=4294967296]
 cf:=fun a=>⟨[dL .aE a],[],[]⟩
 law:=l1 (lL .cm)
def BB(a:(List aI)):List aI×Int×Unit->Prop:=Cx gU a
def AP(a:(List aI)):List aI×Int×Unit->Nat:=vw a
def NP:A_.α->Nat->Option (cw UU):=fun a=>bP [(3,cY [.slot 3 (3,1024) (.own .aE true),.slot 4 (4,1024) (.lit (.int .i64))] (fun _=>BB a) (AP a))]
def LN:=us [M8]
theorem Mv:aA EE (42,A_):=by
 refine holds_of aP func42 A_ (by kernel_rfl) LN (bq _) NP (fun(a:(List aI)) hp hb=> ?_)
 have kD:a.length<=9223372036854775807:=ng (hb _ m0)
 have gz:ca a<=4294967296:=hp _ m0
 clear hp hb
 apply @ve _ (G9 cA gU a fun y=>Lf [.one (.sl .aE y)] [.one (.sl .aE a)]) (by kernel_rfl)
 exact tp gz (cM _)
def Nf:HH:=⟨_,Mv⟩
def A8:bB UU where
 α:=(List aI)×(List aI)
 md:=[.ro,.ro]
 of:=oC (oL .aE) (o1 (oL .aE))
 ds:=fun x=>[dL .aE x.1,dL .aE x.2]
 pre:=fun _=>[]
 cf:=fun(a,b)=>⟨[dO (decide (a=b))],[],[]⟩
 law:=lC (lL .aE) (l1 (lL .aE))
def Bz(a:(List aI))(b:(List aI)):Int×Unit->Prop:=Fm a b
def AO(a:(List aI))(b:(List aI)):Int×Unit->Nat:=CM a
def NM:A8.α->Nat->Option (cw UU):=fun(a,b)=>bP [(4,cY [.slot 5 (5,1024) (.lit (.int .i64))] (fun _=>Bz a b) (AO a b))]
def LJ:=us [M5]
theorem Mr:aA EE (48,A8):=by
 refine holds_of aP func48 A8 (by kernel_rfl) LJ (bq _) NM (fun x hp hb=> ?_)
 obtain⟨a,b⟩:=x
 have kD:a.length<=9223372036854775807:=ng (hb _ m0)
 have Kr:b.length<=9223372036854775807:=ng (hb _ m1)
 clear hp hb
 apply @ve _ (GH gU a b) (by kernel_rfl)
 exact u0 kD
def Na:HH:=⟨_,Mr⟩
def Bg:bB UU where
 α:=(List aI)×Int
 md:=[.wr,.ro]
 of:=oC (oL .aE) (o1 oI)
 ds:=fun x=>[dL .aE x.1,dI x.2]
 pre:=fun(a,k)=>[0<=k,k+bL a<=4611686018427387904]
 cf:=fun(a,k)=>⟨[dI (k+bL a)],[],[dL .aE (bR a k)]⟩
 law:=lC (lL .aE) (l1 lI)
def pa(a:(List aI))(k:Int):List aI×Int×Int×Unit->Prop:=fun(row,kk,i,_)=>0<=i/\i<=a.length/\row=(gw cg bo a k).take i.toNat++a.drop i.toNat/\kk=k+fH bo (a.take i.toNat)
def oR(a:(List aI))(k:Int):List aI×Int×Int×Unit->Nat:=fun(row,kk,i,_)=>a.length-i.toNat
def NV:Bg.α->Nat->Option (cw UU):=fun(a,k)=>bP [(2,cY [.slot 0 (2000000,0) (.own .aE true),.slot 1 (1,1024) (.lit (.int .i64)),.slot 5 (5,1024) (.lit (.int .i64))] (fun _=>pa a k) (oR a k))]
def LU:=us [xd]
theorem MB:aA EE (32,Bg):=by
 refine holds_of aP func32 Bg (by kernel_rfl) LU (bq _) NV (fun x hp hb=> ?_)
 obtain⟨a,k⟩:=x
 have kD:a.length<=9223372036854775807:=ng (hb _ m0)
 have sN:=nJ (n:=k) (hb _ m1)
 have gz:0<=k:=hp _ m0
 have mK:k+bL a<=4611686018427387904:=hp _ m1
 clear hp hb
 apply @ve _ (pa a k (a,k,0,())/\∀(y:List aI×Int×Int×PUnit),let x0:Nat:=y.2.2.1.toNat;let x3:Int:=IntKind.wrap IntKind.i64 (y.2.1+1);let x4:List aI:=List.modify y.1 x0 fun(x:aI)=>{K:=y.2.1,N:=x.N,S:=x.S:aI};let x1:Int:=IntKind.wrap IntKind.i64 (x3+1);let x2:List aI:=List.modify x4 x0 fun(x:aI)=>{K:=x.K,N:=x3,S:=x.S:aI};pa a k y->bif decide (y.2.2.1<(y.1.length:Int)) then 0<=y.2.2.1/\x0<y.1.length/\x0<y.1.length/\0<=y.2.2.1/\x0<x4.length/\x0<x4.length/\x1<=4611686018427387903/\0<=y.2.2.1/\x0<x2.length/\x0<x2.length/\pa a k (List.modify x2 x0 fun(x:aI)=>{K:=x.K,N:=x.N,S:=ch x1:aI},IntKind.wrap IntKind.i64 (x1+1),IntKind.wrap IntKind.i64 (y.2.2.1+1),())/\oR a k (List.modify x2 x0 fun(x:aI)=>{K:=x.K,N:=x.N,S:=ch x1:aI},IntKind.wrap IntKind.i64 (x1+1),IntKind.wrap IntKind.i64 (y.2.2.1+1),())<oR a k y else pw [VI y.2.1]=pw [VI (k+(↑(bL a):Int))]/\pw [VL .aE y.1]=pw [VL .aE (bR a k)]) (by kernel_rfl)
 dsimp only
 refine⟨⟨by omega,by omega,by simp,by simp[fH]⟩,?_⟩
 rintro⟨row,kk,i,⟨⟩⟩ ⟨h1,h2,rfl,rfl⟩
 simp only
 have hl:=xx cg bo a k h1 h2
 refine ah (fun hc=> ?_) (fun hc=> ?_)
 ·have hc:i<a.length:=by have hc:=yT hc;omega
  have wU:=j6 bo a gU h1 hc
  have hle:=fG bo a (i+1).toNat
  have hg:=n9 _ a gU (rB cg bo a k h1 h2) h1 hc
  have hM:=fun F hF=>rD cg bo a gU k (i:=i) F h1 hc hF
  have hq:(bL a:Int)=fH bo a:=rfl
  generalize List.getD a i.toNat gU=x at*
  generalize i_:k+(fH bo (a.take i.toNat):Int)=kk at*
  generalize List.take i.toNat (gw cg bo a k)++List.drop i.toNat a=R at*
  simp only[bo] at wU
  simp(disch:=first|omega|(simp only[Gb];omega)) only[Gb,wrap_i64,getD_modify,iW,hg,hl]
  repeat' (first|refine And.intro (by omega) ?_|fail)
  exact⟨⟨by omega,by omega,hM _ (by first|rfl|(simp only[cg,pR];rw[G2 (by omega)];rfl)),by omega⟩,by simp only[oR];omega⟩
 ·have hc:a.length<=i:=by have hc:=yF hc;omega
  rw[rC cg bo a k hc,lH bo a hc]
  exact⟨rfl,rfl⟩
def FI:HH:=⟨_,MB⟩
def Be:bB UU where
 α:=(List aI)×Int
 md:=[.ro,.ro]
 of:=oC (oL .aE) (o1 oI)
 ds:=fun x=>[dL .aE x.1,dI x.2]
 pre:=fun(a,k)=>[0<=k,k+bL a<=4611686018427387904]
 cf:=fun(a,k)=>⟨[dI (if bR a k=a then k+bL a else-1)],[],[]⟩
 law:=lC (lL .aE) (l1 lI)
def o_(a:(List aI))(k:Int):Int×Int×Unit->Prop:=fun(kk,i,_)=>0<=i/\i<=a.length/\kk=k+fH bo (a.take i.toNat)/\(gw cg bo (a.drop i.toNat) kk=a.drop i.toNat↔gw cg bo a k=a)
def oQ(a:(List aI))(k:Int):Int×Int×Unit->Nat:=fun(kk,i,_)=>a.length-i.toNat
def NT:Be.α->Nat->Option (cw UU):=fun(a,k)=>bP [(2,cY [.slot 1 (1,1024) (.lit (.int .i64)),.slot 5 (5,1024) (.lit (.int .i64))] (fun _=>o_ a k) (oQ a k))]
def LR:=us [xd]
theorem Mz:aA EE (34,Be):=by
 refine holds_of aP func34 Be (by kernel_rfl) LR (bq _) NT (fun x hp hb=> ?_)
 obtain⟨a,k⟩:=x
 have kD:a.length<=9223372036854775807:=ng (hb _ m0)
 have sN:=nJ (n:=k) (hb _ m1)
 have gz:0<=k:=hp _ m0
 have mK:k+bL a<=4611686018427387904:=hp _ m1
 clear hp hb
 apply @ve _ (let q0:=if bR a k=a then k+(↑(bL a):Int) else(-1);o_ a k (k,0,())/\∀(y:Int×Int×PUnit),let x1:Nat:=y.2.1.toNat;let x2:Int:=IntKind.wrap IntKind.i64 (IntKind.wrap IntKind.i64 (y.1+1)+1);let x0:aI:=List.getD a x1 gU;let q1:=(IntKind.wrap IntKind.i64 (x2+1),IntKind.wrap IntKind.i64 (y.2.1+1),());o_ a k y->bif decide (y.2.1<(a.length:Int)) then 0<=y.2.1/\x1<a.length/\bif x0.K !=y.1 then Li (-1) q0 else 0<=y.2.1/\x1<a.length/\bif x0.N !=IntKind.wrap IntKind.i64 (y.1+1) then Li (-1) q0 else 0<=y.2.1/\x1<a.length/\x2<=4611686018427387903/\bif !ByteArray.toList x0.S==ByteArray.toList (ch x2) then Li (-1) q0 else o_ a k q1/\oQ a k q1<oQ a k y else Li y.1 q0) (by kernel_rfl)
 dsimp only
 refine⟨⟨by omega,by omega,by simp[fH],by simp⟩,?_⟩
 rintro⟨kk,i,⟨⟩⟩ ⟨h1,h2,i_,hR⟩
 simp only
 simp only[bR]
 refine ah (fun hc=> ?_) (fun hc=> ?_)
 ·have hc:i<a.length:=by have hc:=yT hc;omega
  have wU:=j6 bo a gU h1 hc
  have hle:=fG bo a (i+1).toNat
  have hq:(bL a:Int)=fH bo a:=rfl
  rw[cU a gU h1 hc] at hR
  generalize List.getD a i.toNat gU=x at*
  simp only[gw,F9] at hR
  have e:kk+(bo x:Int)=kk+1+1+1:=by first|(simp only[bo];done)|(simp only[bo];omega)
  rw[e] at hR
  simp only[cg,bo] at hR wU
  simp(disch:=omega) only[wrap_i64,rT,gm]
  obtain⟨Om,Ol,Oj⟩:=x
  simp only[aI.mk.injEq] at*
  repeat' (first|refine And.intro (by omega) ?_|fail)
  refine ah (fun h=>nL (fun hh=> ?_)) (fun h=> ?_)
  ·have hh:=hR.2 hh;simp_all
  have h:Om=kk:=by simpa using h
  subst Om
  repeat' (first|refine And.intro (by omega) ?_|fail)
  refine ah (fun h=>nL (fun hh=> ?_)) (fun h=> ?_)
  ·have hh:=hR.2 hh;simp_all
  have h:Ol=kk+1:=by simpa using h
  subst Ol
  repeat' (first|refine And.intro (by omega) ?_|fail)
  refine ah (fun h=>nL (fun hh=> ?_)) (fun h=> ?_)
  ·have hh:=hR.2 hh;simp_all
  have h:Oj=ch (kk+1+1):=by simpa using h
  subst Oj
  exact⟨⟨by omega,by omega,by omega,by simpa using hR⟩,by simp only[oQ];omega⟩
 ·have hc:a.length<=i:=by have hc:=yF hc;omega
  rw[du a hc] at hR
  exact vk (hR.1 rfl) (by rw[i_,lH _ _ hc];rfl)
def Ni:HH:=⟨_,Mz⟩
def Br:bB UU where
 α:=bc×Int
 md:=[.ro,.ro]
 of:=oC (oA .dl) (o1 oI)
 ds:=fun x=>[dA .dl x.1,dI x.2]
 pre:=fun(a,left)=>[0<=left]
 cf:=fun(a,left)=>⟨[dI (eQ left (bu a))],[],[]⟩
 law:=lC (lA .dl) (l1 lI)
def N6:Br.α->Nat->Option (cw UU):=fun(a,left)=>bP []
def L5:=us [Nh]
theorem MN:aA EE (20,Br):=by
 refine holds_of aP func20 Br (by kernel_rfl) L5 (bq _) N6 (fun x hp hb=> ?_)
 obtain⟨a,left⟩:=x
 have fu:=qd (x:=a) (hb _ m0)
 have kC:=fu.1
 have im:=fu.2
 have iH:=nJ (n:=left) (hb _ m1)
 have gz:0<=left:=hp _ m0
 clear hp hb
 apply @ve _ (let x0:Int:=IntKind.wrap IntKind.i64 (left-(↑(ByteArray.size a.Kind):Int));let q0:=eQ left (bu a);bif decide (x0<0) then Li (-1) q0 else 0<=x0/\bif decide (eQ x0 (ca a.ak)<0) then Li (-1) q0 else Li (eQ x0 (ca a.ak)) q0) (by kernel_rfl)
 dsimp only
 rw[wrap_i64 (by omega) (by omega)]
 refine ah (fun h=>ni (jD ?_)) (fun h=> ?_)
 ·have h:=yT h;simp only[bu];omega
 have h0:=yF h
 refine⟨by omega,ah (fun h=>ni (jD ?_)) (fun h=> ?_)⟩
 ·have h:=rn h;simp only[bu];omega
 obtain⟨e1,h1⟩:=lp h
 rw[e1]
 exact ni (by rw[<-nO (by simp only[bu];omega)];simp only[bu];try omega)
def Nq:HH:=⟨_,MN⟩
def Bm:bB UU where
 α:=bc
 md:=[.ro]
 of:=o1 (oA .dl)
 ds:=fun x=>[dA .dl x]
 pre:=fun a=>[bu a<=4294967296]
 cf:=fun a=>⟨[dA .br a],[],[]⟩
 law:=l1 (lA .dl)
def N1:Bm.α->Nat->Option (cw UU):=fun a=>bP []
def L0:=us [Nf]
theorem MI:aA EE (25,Bm):=by
 refine holds_of aP func25 Bm (by kernel_rfl) L0 (bq _) N1 (fun(a:bc) hp hb=> ?_)
 have fu:=qd (x:=a) (hb _ m0)
 have kC:=fu.1
 have im:=fu.2
 have gz:bu a<=4294967296:=hp _ m0
 clear hp hb
 apply @ve _ (ca a.ak<=4294967296/\Lf [DV.agg [CS a.Kind,CL .aE a.ak]] [DV.agg [CS a.Kind,CL .aE a.ak]]) (by kernel_rfl)
 simp only[bu] at gz
 repeat' (first|exact cM _|(refine And.intro (by omega) ?_))
def Nn:HH:=⟨_,MI⟩
def Bi:bB UU where
 α:=bc×bc
 md:=[.ro,.ro]
 of:=oC (oA .br) (o1 (oA .br))
 ds:=fun x=>[dA .br x.1,dA .br x.2]
 pre:=fun _=>[]
 cf:=fun(a,b)=>⟨[dO (decide (a=b))],[],[]⟩
 law:=lC (lA .br) (l1 (lA .br))
def NX:Bi.α->Nat->Option (cw UU):=fun(a,b)=>bP []
def LW:=us [Na]
theorem MD:aA EE (30,Bi):=by
 refine holds_of aP func30 Bi (by kernel_rfl) LW (bq _) NX (fun x hp hb=> ?_)
 obtain⟨a,b⟩:=x
 have fu:=fk (x:=a) (hb _ m0)
 have kC:=fu.1
 have im:=fu.2
 have jy:=fk (x:=b) (hb _ m1)
 have BY:=jy.1
 have xP:=jy.2
 clear hp hb
 apply @ve _ (bif !ByteArray.toList a.Kind==ByteArray.toList b.Kind then Lb false (decide (a=b)) else bif !decide (a.ak=b.ak) then Lb false (decide (a=b)) else Lb true (decide (a=b))) (by kernel_rfl)
 obtain⟨O1,GP⟩:=a
 obtain⟨O0,GM⟩:=b
 repeat' (apply ah<;>intro _)
 all_goals (first|apply xf|apply vl)<;>simp_all
def Nk:HH:=⟨_,MD⟩
def Bf:bB UU where
 α:=bc×Int
 md:=[.wr,.ro]
 of:=oC (oA .br) (o1 oI)
 ds:=fun x=>[dA .br x.1,dI x.2]
 pre:=fun(a,k)=>[0<=k,k+fR a<=4611686018427387904]
 cf:=fun(a,k)=>⟨[dI (k+fR a)],[],[dA .br (l9 a k)]⟩
 law:=lC (lA .br) (l1 lI)
def NU:Bf.α->Nat->Option (cw UU):=fun(a,k)=>bP []
def LS:=us [FI]
theorem MA:aA EE (33,Bf):=by
 refine holds_of aP func33 Bf (by kernel_rfl) LS (bq _) NU (fun x hp hb=> ?_)
 obtain⟨a,k⟩:=x
 have fu:=fk (x:=a) (hb _ m0)
 have kC:=fu.1
 have im:=fu.2
 have sN:=nJ (n:=k) (hb _ m1)
 have gz:0<=k:=hp _ m0
 have mK:k+fR a<=4611686018427387904:=hp _ m1
 clear hp hb
 apply @ve _ (0<=k/\k+(↑(bL a.ak):Int)<=4611686018427387904/\pw [VI (k+(↑(bL a.ak):Int))]=pw [VI (k+(↑(fR a):Int))]/\pw [DV.agg [CS a.Kind,CL .aE (bR a.ak k)]]=pw [DV.agg [CS ((l9 a k).Kind),CL .aE (l9 a k).ak]]) (by kernel_rfl)
 simp only[fR] at mK
 repeat' (first|refine And.intro (by omega) ?_|fail)
 exact⟨by simp only[fR,Int.natCast_add,Int.add_assoc],rfl⟩
def Nj:HH:=⟨_,MA⟩
def MY:bB UU where
 α:=ae×Int
 md:=[.ro,.ro]
 of:=oC (oA .aU) (o1 oI)
 ds:=fun x=>[dA .aU x.1,dI x.2]
 pre:=fun(a,left)=>[0<=left]
 cf:=fun(a,left)=>⟨[dI (eQ left (au a))],[],[]⟩
 law:=lC (lA .aU) (l1 lI)
def QU:MY.α->Nat->Option (cw UU):=fun(a,left)=>bP []
def QH:=us [Nq]
theorem QM:aA EE (6,MY):=by
 refine holds_of aP func6 MY (by kernel_rfl) QH (bq _) QU (fun x hp hb=> ?_)
 obtain⟨a,left⟩:=x
 have fu:=kO (x:=a) (hb _ m0)
 have io:=fu.1
 have fO:=fu.2
 have iH:=nJ (n:=left) (hb _ m1)
 have gz:0<=left:=hp _ m0
 clear hp hb
 apply @ve _ (0<=left/\bif decide (eQ left (bu a.F)<0) then Li (-1) (eQ left (au a)) else Li (eQ left (bu a.F)) (eQ left (au a))) (by kernel_rfl)
 refine⟨by omega,ah (fun h=>ni (jD ?_)) (fun h=> ?_)⟩
 ·have h:=rn h;simp only[au];omega
 obtain⟨e0,h0⟩:=lp h
 rw[e0]
 exact ni (by rw[<-nO (by simp only[au];omega)];simp only[au];try omega)
def O3:HH:=⟨_,QM⟩
def MV:bB UU where
 α:=ae
 md:=[.ro]
 of:=o1 (oA .aU)
 ds:=fun x=>[dA .aU x]
 pre:=fun a=>[au a<=4294967296]
 cf:=fun a=>⟨[dA .af a],[],[]⟩
 law:=l1 (lA .aU)
def QR:MV.α->Nat->Option (cw UU):=fun a=>bP []
def QE:=us [Nn]
theorem QJ:aA EE (9,MV):=by
 refine holds_of aP func9 MV (by kernel_rfl) QE (bq _) QR (fun(a:ae) hp hb=> ?_)
 have fu:=kO (x:=a) (hb _ m0)
 have io:=fu.1
 have fO:=fu.2
 have gz:au a<=4294967296:=hp _ m0
 clear hp hb
 apply @ve _ (bu a.F<=4294967296/\Lf [DV.agg [CI a.At,CS a.F.Kind,CL .aE a.F.ak]] [DV.agg [CI a.At,CS a.F.Kind,CL .aE a.F.ak]]) (by kernel_rfl)
 simp only[au] at gz
 repeat' (first|exact cM _|(refine And.intro (by omega) ?_))
def O2:HH:=⟨_,QJ⟩
def Bw:bB UU where
 α:=ae×ae
 md:=[.ro,.ro]
 of:=oC (oA .af) (o1 (oA .af))
 ds:=fun x=>[dA .af x.1,dA .af x.2]
 pre:=fun _=>[]
 cf:=fun(a,b)=>⟨[dO (decide (a=b))],[],[]⟩
 law:=lC (lA .af) (l1 (lA .af))
def N_:Bw.α->Nat->Option (cw UU):=fun(a,b)=>bP []
def L_:=us [Nk]
theorem MS:aA EE (12,Bw):=by
 refine holds_of aP func12 Bw (by kernel_rfl) L_ (bq _) N_ (fun x hp hb=> ?_)
 obtain⟨a,b⟩:=x
 have fu:=ev (x:=a) (hb _ m0)
 have io:=fu.1
 have fO:=fu.2
 have jy:=ev (x:=b) (hb _ m1)
 have xQ:=jy.1
 have vA:=jy.2
 clear hp hb
 apply @ve _ (bif a.At !=b.At then Lb false (decide (a=b)) else bif !decide (a.F=b.F) then Lb false (decide (a=b)) else Lb true (decide (a=b))) (by kernel_rfl)
 obtain⟨Rv,aF⟩:=a
 obtain⟨Rs,bF⟩:=b
 repeat' (apply ah<;>intro _)
 all_goals (first|apply xf|apply vl)<;>simp_all
def FO:HH:=⟨_,MS⟩
def MZ:bB UU where
 α:=(List ae)×Int
 md:=[.ro,.ro]
 of:=oC (oL .aU) (o1 oI)
 ds:=fun x=>[dL .aU x.1,dI x.2]
 pre:=fun(a,left)=>[0<=left]
 cf:=fun(a,left)=>⟨[dI (eQ left (ay a))],[],[]⟩
 law:=lC (lL .aU) (l1 lI)
def FD(a:(List ae))(left:Int):Int×Int×Unit->Prop:=CH au a (ay a) left
def FB(a:(List ae))(left:Int):Int×Int×Unit->Nat:=vw a
def QV:MZ.α->Nat->Option (cw UU):=fun(a,left)=>bP [(5,cY [.slot 1 (1,1024) (.lit (.int .i64)),.slot 5 (5,1024) (.lit (.int .i64))] (fun _=>FD a left) (FB a left))]
def QI:=us [O3]
theorem QN:aA EE (5,MZ):=by
 refine holds_of aP func5 MZ (by kernel_rfl) QI (bq _) QV (fun x hp hb=> ?_)
 obtain⟨a,left⟩:=x
 have kD:a.length<=9223372036854775807:=ng (hb _ m0)
 have iH:=nJ (n:=left) (hb _ m1)
 have gz:0<=left:=hp _ m0
 clear hp hb
 apply @ve _ (Gd au aH a (ay a) left) (by kernel_rfl)
 exact tr rfl gz iH kD
def QQ:HH:=⟨_,QN⟩
def MW:bB UU where
 α:=(List ae)
 md:=[.ro]
 of:=o1 (oL .aU)
 ds:=fun x=>[dL .aU x]
 pre:=fun a=>[ay a<=4294967296]
 cf:=fun a=>⟨[dL .af a],[],[]⟩
 law:=l1 (lL .aU)
def FC(a:(List ae)):List ae×Int×Unit->Prop:=Cx aH a
def Fz(a:(List ae)):List ae×Int×Unit->Nat:=vw a
def QS:MW.α->Nat->Option (cw UU):=fun a=>bP [(3,cY [.slot 3 (3,1024) (.own .af true),.slot 4 (4,1024) (.lit (.int .i64))] (fun _=>FC a) (Fz a))]
def QF:=us [O2]
theorem QK:aA EE (8,MW):=by
 refine holds_of aP func8 MW (by kernel_rfl) QF (bq _) QS (fun(a:(List ae)) hp hb=> ?_)
 have kD:a.length<=9223372036854775807:=ng (hb _ m0)
 have gz:ay a<=4294967296:=hp _ m0
 clear hp hb
 apply @ve _ (G9 au aH a fun y=>Lf [.one (.sl .af y)] [.one (.sl .af a)]) (by kernel_rfl)
 exact tp gz (cM _)
def QO:HH:=⟨_,QK⟩
def Bx:bB UU where
 α:=(List ae)×(List ae)
 md:=[.ro,.ro]
 of:=oC (oL .af) (o1 (oL .af))
 ds:=fun x=>[dL .af x.1,dL .af x.2]
 pre:=fun _=>[]
 cf:=fun(a,b)=>⟨[dO (decide (a=b))],[],[]⟩
 law:=lC (lL .af) (l1 (lL .af))
def BD(a:(List ae))(b:(List ae)):Int×Unit->Prop:=Fm a b
def AR(a:(List ae))(b:(List ae)):Int×Unit->Nat:=CM a
def Oa:Bx.α->Nat->Option (cw UU):=fun(a,b)=>bP [(4,cY [.slot 5 (5,1024) (.lit (.int .i64))] (fun _=>BD a b) (AR a b))]
def Ma:=us [FO]
theorem MT:aA EE (11,Bx):=by
 refine holds_of aP func11 Bx (by kernel_rfl) Ma (bq _) Oa (fun x hp hb=> ?_)
 obtain⟨a,b⟩:=x
 have kD:a.length<=9223372036854775807:=ng (hb _ m0)
 have Kr:b.length<=9223372036854775807:=ng (hb _ m1)
 clear hp hb
 apply @ve _ (GH aH a b) (by kernel_rfl)
 exact u0 kD
def Nv:HH:=⟨_,MT⟩
def Bv:bB UU where
 α:=(List ae)×Int
 md:=[.wr,.ro]
 of:=oC (oL .af) (o1 oI)
 ds:=fun x=>[dL .af x.1,dI x.2]
 pre:=fun(a,k)=>[0<=k,k+aY a<=4611686018427387904]
 cf:=fun(a,k)=>⟨[dI (k+aY a)],[],[dL .af (bV a k)]⟩
 law:=lC (lL .af) (l1 lI)
def pf(a:(List ae))(k:Int):List ae×Int×Int×Unit->Prop:=fun(row,kk,i,_)=>0<=i/\i<=a.length/\row=(gw bj az a k).take i.toNat++a.drop i.toNat/\kk=k+fH az (a.take i.toNat)
def oZ(a:(List ae))(k:Int):List ae×Int×Int×Unit->Nat:=fun(row,kk,i,_)=>a.length-i.toNat
def N':Bv.α->Nat->Option (cw UU):=fun(a,k)=>bP [(2,cY [.slot 0 (2000000,0) (.own .af true),.slot 1 (1,1024) (.lit (.int .i64)),.slot 5 (5,1024) (.lit (.int .i64))] (fun _=>pf a k) (oZ a k))]
def L9:=us [xd,FI]
theorem MR:aA EE (13,Bv):=by
 refine holds_of aP func13 Bv (by kernel_rfl) L9 (bq _) N' (fun x hp hb=> ?_)
 obtain⟨a,k⟩:=x
 have kD:a.length<=9223372036854775807:=ng (hb _ m0)
 have sN:=nJ (n:=k) (hb _ m1)
 have gz:0<=k:=hp _ m0
 have mK:k+aY a<=4611686018427387904:=hp _ m1
 clear hp hb
 apply @ve _ (pf a k (a,k,0,())/\∀(y:List ae×Int×Int×PUnit),let x1:Nat:=y.2.2.1.toNat;let x3:Int:=IntKind.wrap IntKind.i64 (y.2.1+1);let x4:List ae:=List.modify y.1 x1 fun(x:ae)=>{At:=y.2.1,F:=x.F:ae};let x0:List ae:=List.modify x4 x1 fun(x:ae)=>{At:=x.At,F:={Kind:=ch x3,ak:=x.F.ak:bc}:ae};let x2:Int:=IntKind.wrap IntKind.i64 (x3+1);let x5:Int:=x2+(↑(bL (List.getD x0 x1 aH).F.ak):Int);pf a k y->bif decide (y.2.2.1<(y.1.length:Int)) then 0<=y.2.2.1/\x1<y.1.length/\x1<y.1.length/\x3<=4611686018427387903/\0<=y.2.2.1/\x1<x4.length/\x1<x4.length/\0<=y.2.2.1/\x1<x0.length/\x1<x0.length/\x1<x0.length/\0<=x2/\x5<=4611686018427387904/\pf a k (List.modify x0 x1 fun(x:ae)=>{At:=x.At,F:={Kind:=x.F.Kind,ak:=bR (List.getD x0 x1 aH).F.ak x2:bc}:ae},x5,IntKind.wrap IntKind.i64 (y.2.2.1+1),())/\oZ a k (List.modify x0 x1 fun(x:ae)=>{At:=x.At,F:={Kind:=x.F.Kind,ak:=bR (List.getD x0 x1 aH).F.ak x2:bc}:ae},x5,IntKind.wrap IntKind.i64 (y.2.2.1+1),())<oZ a k y else pw [VI y.2.1]=pw [VI (k+(↑(aY a):Int))]/\pw [VL .af y.1]=pw [VL .af (bV a k)]) (by kernel_rfl)
 dsimp only
 refine⟨⟨by omega,by omega,by simp,by simp[fH]⟩,?_⟩
 rintro⟨row,kk,i,⟨⟩⟩ ⟨h1,h2,rfl,rfl⟩
 simp only
 have hl:=xx bj az a k h1 h2
 refine ah (fun hc=> ?_) (fun hc=> ?_)
 ·have hc:i<a.length:=by have hc:=yT hc;omega
  have wU:=j6 az a aH h1 hc
  have hle:=fG az a (i+1).toNat
  have hg:=n9 _ a aH (rB bj az a k h1 h2) h1 hc
  have hM:=fun F hF=>rD bj az a aH k (i:=i) F h1 hc hF
  have hq:(aY a:Int)=fH az a:=rfl
  generalize List.getD a i.toNat aH=x at*
  generalize i_:k+(fH az (a.take i.toNat):Int)=kk at*
  generalize List.take i.toNat (gw bj az a k)++List.drop i.toNat a=R at*
  simp only[az] at wU
  simp(disch:=first|omega|(simp only[Gb];omega)) only[Gb,wrap_i64,getD_modify,iW,hg,hl]
  repeat' (first|refine And.intro (by omega) ?_|fail)
  exact⟨⟨by omega,by omega,hM _ (by first|rfl|(simp only[bj,pR];rw[G2 (by omega)];rfl)),by omega⟩,by simp only[oZ];omega⟩
 ·have hc:a.length<=i:=by have hc:=yF hc;omega
  rw[rC bj az a k hc,lH az a hc]
  exact⟨rfl,rfl⟩
def Nu:HH:=⟨_,MR⟩
def Bt:bB UU where
 α:=(List ae)×Int
 md:=[.ro,.ro]
 of:=oC (oL .af) (o1 oI)
 ds:=fun x=>[dL .af x.1,dI x.2]
 pre:=fun(a,k)=>[0<=k,k+aY a<=4611686018427387904]
 cf:=fun(a,k)=>⟨[dI (if bV a k=a then k+aY a else-1)],[],[]⟩
 law:=lC (lL .af) (l1 lI)
def pe(a:(List ae))(k:Int):Int×Int×Unit->Prop:=fun(kk,i,_)=>0<=i/\i<=a.length/\kk=k+fH az (a.take i.toNat)/\(gw bj az (a.drop i.toNat) kk=a.drop i.toNat↔gw bj az a k=a)
def oW(a:(List ae))(k:Int):Int×Int×Unit->Nat:=fun(kk,i,_)=>a.length-i.toNat
def N8:Bt.α->Nat->Option (cw UU):=fun(a,k)=>bP [(2,cY [.slot 1 (1,1024) (.lit (.int .i64)),.slot 5 (5,1024) (.lit (.int .i64))] (fun _=>pe a k) (oW a k))]
def L7:=us [xd,Ni]
theorem MP:aA EE (15,Bt):=by
 refine holds_of aP func15 Bt (by kernel_rfl) L7 (bq _) N8 (fun x hp hb=> ?_)
 obtain⟨a,k⟩:=x
 have kD:a.length<=9223372036854775807:=ng (hb _ m0)
 have sN:=nJ (n:=k) (hb _ m1)
 have gz:0<=k:=hp _ m0
 have mK:k+aY a<=4611686018427387904:=hp _ m1
 clear hp hb
 apply @ve _ (let q0:=if bV a k=a then k+(↑(aY a):Int) else(-1);pe a k (k,0,())/\∀(y:Int×Int×PUnit),let x4:Nat:=y.2.1.toNat;let x6:Int:=IntKind.wrap IntKind.i64 (y.1+1);let x3:ae:=List.getD a x4 aH;let x5:Int:=IntKind.wrap IntKind.i64 (x6+1);let x2:bc:=x3.F;let x1:List aI:=x2.ak;let x0:Int:=if bR x1 x5=x1 then x5+(↑(bL x1):Int) else(-1);pe a k y->bif decide (y.2.1<(a.length:Int)) then 0<=y.2.1/\x4<a.length/\bif x3.At !=y.1 then Li (-1) q0 else 0<=y.2.1/\x4<a.length/\x6<=4611686018427387903/\bif !ByteArray.toList x2.Kind==ByteArray.toList (ch x6) then Li (-1) q0 else 0<=y.2.1/\x4<a.length/\0<=x5/\x5+(↑(bL x1):Int)<=4611686018427387904/\bif decide (x0<0) then Li (-1) q0 else pe a k (x0,IntKind.wrap IntKind.i64 (y.2.1+1),())/\oW a k (x0,IntKind.wrap IntKind.i64 (y.2.1+1),())<oW a k y else Li y.1 q0) (by kernel_rfl)
 dsimp only
 refine⟨⟨by omega,by omega,by simp[fH],by simp⟩,?_⟩
 rintro⟨kk,i,⟨⟩⟩ ⟨h1,h2,i_,hR⟩
 simp only
 simp only[bV]
 refine ah (fun hc=> ?_) (fun hc=> ?_)
 ·have hc:i<a.length:=by have hc:=yT hc;omega
  have wU:=j6 az a aH h1 hc
  have hle:=fG az a (i+1).toNat
  have hq:(aY a:Int)=fH az a:=rfl
  rw[cU a aH h1 hc] at hR
  generalize List.getD a i.toNat aH=x at*
  simp only[gw,F9] at hR
  have e:kk+(az x:Int)=kk+1+1+(bL x.F.ak:Int):=by first|(simp only[az];done)|(simp only[az];omega)
  rw[e] at hR
  simp only[bj,az] at hR wU
  simp(disch:=omega) only[wrap_i64,rT,gm]
  obtain⟨Cm,⟨pC,lQ⟩⟩:=x
  simp only[bc.mk.injEq,ae.mk.injEq] at*
  repeat' (first|refine And.intro (by omega) ?_|fail)
  refine ah (fun h=>nL (fun hh=> ?_)) (fun h=> ?_)
  ·have hh:=hR.2 hh;simp_all
  have h:Cm=kk:=by simpa using h
  subst Cm
  repeat' (first|refine And.intro (by omega) ?_|fail)
  refine ah (fun h=>nL (fun hh=> ?_)) (fun h=> ?_)
  ·have hh:=hR.2 hh;simp_all
  have h:pC=ch (kk+1):=by simpa using h
  subst pC
  repeat' (first|refine And.intro (by omega) ?_|fail)
  by_cases hm:bR lQ (kk+1+1)=lQ
  rotate_left
  ·simp only[if_neg hm];rw[u4 (by decide)]
   exact nL (fun hh=>hm (by have hh:=hR.2 hh;simp_all))
  simp only[if_pos hm]
  refine ah (fun h=>absurd (yT h) (by omega)) (fun h=> ?_)
  simp only[hm] at hR
  clear hm
  exact⟨⟨by omega,by omega,by omega,by simpa using hR⟩,by simp only[oW];omega⟩
 ·have hc:a.length<=i:=by have hc:=yF hc;omega
  rw[du a hc] at hR
  exact vk (hR.1 rfl) (by rw[i_,lH _ _ hc];rfl)
def Ns:HH:=⟨_,MP⟩
def Bu:bB UU where
 α:=ae×Int
 md:=[.wr,.ro]
 of:=oC (oA .af) (o1 oI)
 ds:=fun x=>[dA .af x.1,dI x.2]
 pre:=fun(a,k)=>[0<=k,k+eS a<=4611686018427387904]
 cf:=fun(a,k)=>⟨[dI (k+eS a)],[],[dA .af (lx a k)]⟩
 law:=lC (lA .af) (l1 lI)
def N9:Bu.α->Nat->Option (cw UU):=fun(a,k)=>bP []
def L8:=us [Nj]
theorem MQ:aA EE (14,Bu):=by
 refine holds_of aP func14 Bu (by kernel_rfl) L8 (bq _) N9 (fun x hp hb=> ?_)
 obtain⟨a,k⟩:=x
 have fu:=ev (x:=a) (hb _ m0)
 have io:=fu.1
 have fO:=fu.2
 have sN:=nJ (n:=k) (hb _ m1)
 have gz:0<=k:=hp _ m0
 have mK:k+eS a<=4611686018427387904:=hp _ m1
 clear hp hb
 apply @ve _ (0<=k/\k+(↑(fR a.F):Int)<=4611686018427387904/\pw [VI (k+(↑(fR a.F):Int))]=pw [VI (k+(↑(eS a):Int))]/\pw [DV.agg [CI a.At,CS a.F.Kind,CL .aE (l9 a.F k).ak]]=pw [DV.agg [CI ((lx a k).At),CS ((lx a k).F.Kind),CL .aE (lx a k).F.ak]]) (by kernel_rfl)
 simp only[eS] at mK
 repeat' (first|refine And.intro (by omega) ?_|fail)
 exact⟨by simp only[eS,Int.natCast_add,Int.add_assoc],rfl⟩
def Nt:HH:=⟨_,MQ⟩
def allI(n:Nat)(p:Nat->Bool):Bool:=(List.range n).all p
theorem nK{n:Nat}{p:Nat->Bool}(h:∀j,j<n->p j=true):allI n p=true:=by simpa[allI] using h
theorem mF{n:Nat}{p:Nat->Bool}{j:Nat}(h:j<n)(hj:p j=false):allI n p=false:=by
 simp only[allI,List.all_eq_false,hU]
 exact⟨j,h,by simp[hj]⟩
theorem iC{i:Int}{p:Nat->Bool}(h0:0<=i)(h:∀j:Nat,(j:Int)<i->p j=true)(hi:p i.toNat=true):∀j:Nat,(j:Int)<i+1->p j=true:=by
 intro j hj
 by_cases Gr:(j:Int)<i
 ·exact h j Gr
 ·have:j=i.toNat:=by omega
  subst this;exact hi
def cz(x:ae):Bool:=decide (0<=x.At/\x.At<=1000000000)&&df x.F
def dZ(l:List ae)(i:Nat):Bool:=cz (List.getD l i aH)&&(decide (i=0)||decide ((List.getD l (i-1) aH).At<=(List.getD l i aH).At))
def bt(l:List ae):Bool:=decide (l.length<=30)&&allI l.length (dZ l)
def A':bB UU where
 α:=Int
 md:=[.ro]
 of:=o1 oI
 ds:=fun x=>[dI x]
 pre:=fun _=>[]
 cf:=fun n=>⟨[dO (decide (0<=n/\n<=1000000000))],[],[]⟩
 law:=l1 lI
def NO:A'.α->Nat->Option (cw UU):=fun n=>bP []
def LM:=us [FH]
theorem Mu:aA EE (43,A'):=by
 refine holds_of aP func43 A' (by kernel_rfl) LM (bq _) NO (fun(n:Int) hp hb=> ?_)
 have Kp:=nJ (n:=n) (hb _ m0)
 clear hp hb
 apply @ve _ (let q0:=decide (0<=n/\n<=1000000000);Lb q0 q0) (by kernel_rfl)
 dsimp only
 exact cM _
def Nd:HH:=⟨_,Mu⟩
def Bk:bB UU where
 α:=ae
 md:=[.ro]
 of:=o1 (oA .af)
 ds:=fun x=>[dA .af x]
 pre:=fun _=>[]
 cf:=fun x=>⟨[dO (cz x)],[],[]⟩
 law:=l1 (lA .af)
def NZ:Bk.α->Nat->Option (cw UU):=fun x=>bP []
def LY:=us [Nd,Nc]
theorem MG:aA EE (27,Bk):=by
 refine holds_of aP func27 Bk (by kernel_rfl) LY (bq _) NZ (fun(x:ae) hp hb=> ?_)
 have fu:=ev (x:=x) (hb _ m0)
 have ik:=fu.1
 have fN:=fu.2
 clear hp hb
 apply @ve _ (bif decide (0<=x.At/\x.At<=1000000000) then Lb (df x.F) (cz x) else Lb false (cz x)) (by kernel_rfl)
 simp only[cz]
 refine ah (fun h=>cS ?_) (fun h=>cS ?_)<;>grind
def FL:HH:=⟨_,MG⟩
def Bo:bB UU where
 α:=ae
 md:=[.ro]
 of:=o1 (oA .af)
 ds:=fun x=>[dA .af x]
 pre:=fun _=>[]
 cf:=fun x=>⟨[dO (cz x)],[],[]⟩
 law:=l1 (lA .af)
def N3:Bo.α->Nat->Option (cw UU):=fun x=>bP []
def L2:=us [xc,Ng]
theorem MK:aA EE (23,Bo):=by
 refine holds_of aP func23 Bo (by kernel_rfl) L2 (bq _) N3 (fun(x:ae) hp hb=> ?_)
 have fu:=ev (x:=x) (hb _ m0)
 have ik:=fu.1
 have fN:=fu.2
 clear hp hb
 apply @ve _ (bif decide (0<=x.At/\x.At<=1000000000) then Lb (df x.F) (cz x) else Lb false (cz x)) (by kernel_rfl)
 simp only[cz]
 refine ah (fun h=>cS ?_) (fun h=>cS ?_)<;>grind
def FN:HH:=⟨_,MK⟩
def Bs:bB UU where
 α:=(List ae)
 md:=[.ro]
 of:=o1 (oL .af)
 ds:=fun x=>[dL .af x]
 pre:=fun _=>[]
 cf:=fun l=>⟨[dO (bt l)],[],[]⟩
 law:=l1 (lL .af)
def mJ(l:(List ae)):Int×Unit->Prop:=fun(i,_)=>0<=i/\i<=l.length/\l.length<=30/\∀j:Nat,(j:Int)<i->dZ l j=true
def kR(l:(List ae)):Int×Unit->Nat:=fun(i,_)=>l.length-i.toNat
def N7:Bs.α->Nat->Option (cw UU):=fun l=>bP [(4,cY [.slot 10 (10,1024) (.lit (.int .i64))] (fun _=>mJ l) (kR l))]
def L6:=us [FL]
theorem MO:aA EE (19,Bs):=by
 refine holds_of aP func19 Bs (by kernel_rfl) L6 (bq _) N7 (fun(l:(List ae)) hp hb=> ?_)
 have qT:l.length<=9223372036854775807:=ng (hb _ m0)
 clear hp hb
 apply @ve _ (let x0:Int:=(l.length:Int);let q0:=Lb false (bt l);bif decide (x0>30) then q0 else mJ l (0,())/\∀(y:Int×PUnit),let x2:Nat:=Int.toNat (IntKind.wrap IntKind.i64 (y.1-1));let x1:Int:=(List.getD l x2 aH).At;let q1:=(IntKind.wrap IntKind.i64 (y.1+1),());mJ l y->bif decide (y.1<x0) then 0<=y.1/\y.1.toNat<l.length/\bif !cz (List.getD l y.1.toNat aH) then q0 else bif decide (y.1>0) then 0<=IntKind.wrap IntKind.i64 (y.1-1)/\x2<l.length/\bif decide (x1>(List.getD l y.1.toNat aH).At) then q0 else mJ l q1/\kR l q1<kR l y else mJ l q1/\kR l q1<kR l y else Lb true (bt l)) (by kernel_rfl)
 dsimp only
 refine ah (fun h=>fJ ?_) (fun h=>⟨⟨by omega,by omega,by have h:=yF h;omega,by intro j hj;omega⟩,?_⟩)
 ·have h:=yT h;simp only[bt];rw[decide_eq_false (by omega)];rfl
 rintro⟨i,⟨⟩⟩ ⟨h1,h2,h3,hR⟩
 simp only
 refine ah (fun hc=> ?_) (fun hc=> ?_)
 ·have hc:=yT hc
  have hN:dZ l i.toNat=false->bt l=false:=fun h=>by
   have hf:allI l.length (dZ l)=false:=mF (j:=i.toNat) (by omega) h
   simp only[bt,hf];simp
  simp(disch:=omega) only[wrap_i64]
  have e1:(i-1).toNat=i.toNat-1:=by omega
  simp only[e1]
  refine⟨by omega,by omega,ah (fun h=>fJ (hN ?_)) (fun h=>ah (fun h'=>⟨by have:=yT h';omega,by have:=yT h';omega,ah (fun p8=>fJ (hN ?_)) (fun p8=>⟨⟨by omega,by omega,h3,iC h1 hR ?_⟩,?_⟩)⟩) (fun h'=>⟨⟨by omega,by omega,h3,iC h1 hR ?_⟩,?_⟩))⟩
  all_goals (first|(simp only[kR];omega)|(simp only[dZ];grind))
 ·have hc:=yF hc
  have hA:allI l.length (dZ l)=true:=nK fun j hj=>hR j (by omega)
  refine cS ?_
  simp only[bt,hA];grind
def Nr:HH:=⟨_,MO⟩
def Bp:bB UU where
 α:=(List ae)
 md:=[.ro]
 of:=o1 (oL .af)
 ds:=fun x=>[dL .af x]
 pre:=fun _=>[]
 cf:=fun l=>⟨[dO (bt l)],[],[]⟩
 law:=l1 (lL .af)
def mI(l:(List ae)):Int×Unit->Prop:=fun(i,_)=>0<=i/\i<=l.length/\∀j:Nat,(j:Int)<i->dZ l j=true
def kQ(l:(List ae)):Int×Unit->Nat:=fun(i,_)=>l.length-i.toNat
def N4:Bp.α->Nat->Option (cw UU):=fun l=>bP [(2,cY [.slot 3 (3,1024) (.lit (.int .i64))] (fun _=>mI l) (kQ l))]
def L3:=us [FN]
theorem ML:aA EE (22,Bp):=by
 refine holds_of aP func22 Bp (by kernel_rfl) L3 (bq _) N4 (fun(l:(List ae)) hp hb=> ?_)
 have qT:l.length<=9223372036854775807:=ng (hb _ m0)
 clear hp hb
 apply @ve _ (let x0:Int:=(l.length:Int);mI l (0,())/\∀(y:Int×PUnit),let x2:Nat:=Int.toNat (IntKind.wrap IntKind.i64 (y.1-1));let x1:Int:=(List.getD l x2 aH).At;let q0:=(IntKind.wrap IntKind.i64 (y.1+1),());mI l y->bif decide (y.1<x0) then 0<=y.1/\y.1.toNat<l.length/\bif !cz (List.getD l y.1.toNat aH) then Lb false (bt l) else bif decide (y.1>0) then 0<=IntKind.wrap IntKind.i64 (y.1-1)/\x2<l.length/\0<=y.1/\y.1.toNat<l.length/\bif decide (x1>(List.getD l y.1.toNat aH).At) then Lb false (bt l) else mI l q0/\kQ l q0<kQ l y else mI l q0/\kQ l q0<kQ l y else Lb (decide (x0<=30)) (bt l)) (by kernel_rfl)
 dsimp only
 refine⟨⟨by omega,by omega,by intro j hj;omega⟩,?_⟩
 rintro⟨i,⟨⟩⟩ ⟨h1,h2,hR⟩
 simp only
 refine ah (fun hc=> ?_) (fun hc=> ?_)
 ·have hc:=yT hc
  have hN:dZ l i.toNat=false->bt l=false:=fun h=>by
   have hf:allI l.length (dZ l)=false:=mF (j:=i.toNat) (by omega) h
   simp only[bt,hf];simp
  simp(disch:=omega) only[wrap_i64]
  have e1:(i-1).toNat=i.toNat-1:=by omega
  simp only[e1]
  refine⟨by omega,by omega,ah (fun h=>fJ (hN ?_)) (fun h=>ah (fun h'=>⟨by have:=yT h';omega,by have:=yT h';omega,by omega,by omega,ah (fun p8=>fJ (hN ?_)) (fun p8=>⟨⟨by omega,by omega,iC h1 hR ?_⟩,?_⟩)⟩) (fun h'=>⟨⟨by omega,by omega,iC h1 hR ?_⟩,?_⟩))⟩
  all_goals (first|(simp only[kQ];omega)|(simp only[dZ];grind))
 ·have hc:=yF hc
  have hA:allI l.length (dZ l)=true:=nK fun j hj=>hR j (by omega)
  refine cS ?_
  simp only[bt,hA];grind
def No:HH:=⟨_,ML⟩
def vd:bB UU where
 α:=(List aI)
 md:=[.ro]
 of:=o1 (oL .aE)
 ds:=fun x=>[dL .aE x]
 pre:=fun l=>[l.length<=4294967296]
 cf:=fun l=>⟨[dL .aE l],[],[]⟩
 law:=l1 (lL .aE)
def BE:vd.α->Nat->Option (cw UU):=fun l=>bP []
def AN:List (FuncId×bB UU):=[]
theorem Lr:rM EE AN f47 vd BE [] .aE [] true=(Lf [VL .aE []] [VL .aE []]):=by kernel_rfl
theorem Lq:rM EE AN f47 vd BE [] .aE [] true:=by
 rw[Lr]
 exact cM _
theorem Ms:aA EE (47,vd):=by
 refine sJ aP func47 vd (by kernel_rfl) rfl .aE (fun x=>x) (fun _=>rfl) AN all_nil BE (fun(l:(List aI)) hp hb=> ?_)
 have qT:l.length<=9223372036854775807:=ng (hb _ m0)
 have gz:l.length<=4294967296:=hp _ m0
 clear hp hb
 refine⟨?_,fun h0=> ?_⟩
 rotate_left
 ·subst h0;exact Lq
 apply @ve _ (0+l.length<=4294967296/\Lf [VL .aE ([]++l)] [VL .aE l]) (by kernel_rfl)
 exact⟨by simp;omega,cM _⟩
def Nb:HH:=⟨_,Ms⟩
def Bn:bB UU where
 α:=bc
 md:=[.ro]
 of:=o1 (oA .br)
 ds:=fun x=>[dA .br x]
 pre:=fun f=>[f.ak.length<=4294967296]
 cf:=fun f=>⟨[dA .br f],[],[]⟩
 law:=l1 (lA .br)
def N2:Bn.α->Nat->Option (cw UU):=fun f=>bP []
def L1:List (FuncId×bB UU):=[]
theorem MJ:aA EE (24,Bn):=by
 refine holds_of aP func24 Bn (by kernel_rfl) L1 all_nil N2 (fun(f:bc) hp hb=> ?_)
 have fu:=fk (x:=f) (hb _ m0)
 have kB:=fu.1
 have il:=fu.2
 have gz:f.ak.length<=4294967296:=hp _ m0
 clear hp hb
 apply @ve _ (0+f.ak.length<=4294967296/\Lf [DV.agg [CS f.Kind,CL .aE ([]++f.ak)]] [DV.agg [CS f.Kind,CL .aE f.ak]]) (by kernel_rfl)
 exact⟨by simp;omega,cM _⟩
def FM:HH:=⟨_,MJ⟩
def Bj:bB UU where
 α:=bc
 md:=[.ro]
 of:=o1 (oA .br)
 ds:=fun x=>[dA .br x]
 pre:=fun f=>[f.ak.length<=4294967296]
 cf:=fun f=>⟨[dA .br f],[],[]⟩
 law:=l1 (lA .br)
def NY:Bj.α->Nat->Option (cw UU):=fun f=>bP []
def LX:=us [Nb]
theorem ME:aA EE (29,Bj):=by
 refine holds_of aP func29 Bj (by kernel_rfl) LX (bq _) NY (fun(f:bc) hp hb=> ?_)
 have fu:=fk (x:=f) (hb _ m0)
 have kB:=fu.1
 have il:=fu.2
 have gz:f.ak.length<=4294967296:=hp _ m0
 clear hp hb
 apply @ve _ (f.ak.length<=4294967296/\Lf [DV.agg [CS f.Kind,CL .aE f.ak]] [DV.agg [CS f.Kind,CL .aE f.ak]]) (by kernel_rfl)
 exact⟨gz,cM _⟩
def FJ:HH:=⟨_,ME⟩
def Bq:bB UU where
 α:=(List ae)
 md:=[.ro]
 of:=o1 (oL .af)
 ds:=fun x=>[dL .af x]
 pre:=fun l=>[ay l<=4294967296]
 cf:=fun l=>⟨[dL .af l],[],[]⟩
 law:=l1 (lL .af)
def pd(l:(List ae)):List ae×Int×Unit->Prop:=fun(out,i,_)=>0<=i/\i<=l.length/\out=l.take i.toNat
def oV(l:(List ae)):List ae×Int×Unit->Nat:=fun(out,i,_)=>l.length-i.toNat
def N5:Bq.α->Nat->Option (cw UU):=fun l=>bP [(3,cY [.slot 3 (3,1024) (.own .af true),.slot 4 (4,1024) (.lit (.int .i64))] (fun _=>pd l) (oV l))]
def L4:=us [FM]
theorem MM:aA EE (21,Bq):=by
 refine holds_of aP func21 Bq (by kernel_rfl) L4 (bq _) N5 (fun(l:(List ae)) hp hb=> ?_)
 have qT:l.length<=9223372036854775807:=ng (hb _ m0)
 have gz:ay l<=4294967296:=hp _ m0
 clear hp hb
 apply @ve _ (pd l ([],0,())/\∀(y:List ae×Int×PUnit),let x2:Nat:=y.2.1.toNat;let x1:ae:=List.getD l x2 aH;let x0:List ae:=[x1];let q0:=(y.1++x0,IntKind.wrap IntKind.i64 (y.2.1+1),());pd l y->bif decide (y.2.1<(l.length:Int)) then 0<=y.2.1/\x2<l.length/\0<=y.2.1/\x2<l.length/\x1.F.ak.length<=4294967296/\y.1.length+x0.length<=4294967296/\pd l q0/\oV l q0<oV l y else Lf [VL .af y.1] [VL .af l]) (by kernel_rfl)
 dsimp only
 refine⟨⟨by omega,by omega,by simp⟩,?_⟩
 rintro⟨out,i,⟨⟩⟩ ⟨h1,h2,rfl⟩
 simp only
 refine ah (fun hc=> ?_) (fun hc=> ?_)
 ·have hc:=yT hc
  have hs:=hY au l aH h1 hc
  simp only[ay] at gz
  have hx:=hs
  simp only[au,bu,ca] at hx
  rw[nr l aH h1 hc,wrap_i64 (by omega) (by omega)]
  repeat' (first|refine And.intro (by omega) ?_|fail)
  refine⟨by simp;omega,⟨by omega,by omega,rfl⟩,by simp only[oV];omega⟩
 ·have hc:=yF hc
  rw[pG l (by omega)]
  exact cM _
def Np:HH:=⟨_,MM⟩
def Bl:bB UU where
 α:=(List ae)
 md:=[.ro]
 of:=o1 (oL .af)
 ds:=fun x=>[dL .af x]
 pre:=fun l=>[ay l<=4294967296]
 cf:=fun l=>⟨[dL .af l],[],[]⟩
 law:=l1 (lL .af)
def pc(l:(List ae)):List ae×Int×Unit->Prop:=fun(out,i,_)=>0<=i/\i<=l.length/\out=l.take i.toNat
def oU(l:(List ae)):List ae×Int×Unit->Nat:=fun(out,i,_)=>l.length-i.toNat
def N0:Bl.α->Nat->Option (cw UU):=fun l=>bP [(3,cY [.slot 3 (3,1024) (.own .af true),.slot 8 (8,1024) (.lit (.int .i64))] (fun _=>pc l) (oU l))]
def LZ:=us [FJ]
theorem MH:aA EE (26,Bl):=by
 refine holds_of aP func26 Bl (by kernel_rfl) LZ (bq _) N0 (fun(l:(List ae)) hp hb=> ?_)
 have qT:l.length<=9223372036854775807:=ng (hb _ m0)
 have gz:ay l<=4294967296:=hp _ m0
 clear hp hb
 apply @ve _ (pc l ([],0,())/\∀(y:List ae×Int×PUnit),let x2:Nat:=y.2.1.toNat;let x1:ae:=List.getD l x2 aH;let x0:List ae:=[x1];let q0:=(y.1++x0,IntKind.wrap IntKind.i64 (y.2.1+1),());pc l y->bif decide (y.2.1<(l.length:Int)) then 0<=y.2.1/\x2<l.length/\x1.F.ak.length<=4294967296/\y.1.length+x0.length<=4294967296/\pc l q0/\oU l q0<oU l y else Lf [VL .af y.1] [VL .af l]) (by kernel_rfl)
 dsimp only
 refine⟨⟨by omega,by omega,by simp⟩,?_⟩
 rintro⟨out,i,⟨⟩⟩ ⟨h1,h2,rfl⟩
 simp only
 refine ah (fun hc=> ?_) (fun hc=> ?_)
 ·have hc:=yT hc
  have hs:=hY au l aH h1 hc
  simp only[ay] at gz
  have hx:=hs
  simp only[au,bu,ca] at hx
  rw[nr l aH h1 hc,wrap_i64 (by omega) (by omega)]
  repeat' (first|refine And.intro (by omega) ?_|fail)
  refine⟨by simp;omega,⟨by omega,by omega,rfl⟩,by simp only[oU];omega⟩
 ·have hc:=yF hc
  rw[pG l (by omega)]
  exact cM _
def Nm:HH:=⟨_,MH⟩
def gu(l:List ae)(a:Int):Nat->Nat
 |0=>0
 |n+1=>if(List.getD l n aH).At>a then gu l a n else n+1
def cx(l:List ae)(x:ae):Bool:=bt l&&cz x&&decide (l.length<30)
def fm(l:List ae)(x:ae):List ae:=if cx l x then l.take (gu l x.At l.length)++x::l.drop (gu l x.At l.length) else l
def ec(l:List ae)(k:Nat)(d:ae):List ae:=l.take k++d::l.drop k
theorem sI(l:List ae){k:Nat}(h:k<=l.length)(d:ae):(ec l k d).length=l.length+1:=by
 simp[ec];omega
theorem uo(l:List ae){k j:Nat}(h:k<=l.length)(hj:j<k)(d:ae):List.getD (ec l k d) j aH=List.getD l j aH:=by
 simp only[ec,cI]
 rw[jA (by simp;omega),eP,if_pos hj]
theorem nx(l:List ae){k:Nat}(h:k<=l.length)(d x:ae):(ec l k d).set k x=ec l k x:=by
 unfold ec
 rw[List.set_append_right _ _ (by simp;omega)]
 have:k-(l.take k).length=0:=by simp;omega
 rw[this];rfl
theorem pU(l:List ae){k:Nat}(h0:0<k)(h:k<=l.length):ec l k (List.getD l (k-1) aH)=ec l (k-1) (List.getD l (k-1) aH):=by
 unfold ec
 obtain⟨n,rfl⟩:∃n,k=n+1:=⟨k-1,by omega⟩
 have hn:n<l.length:=by omega
 simp only[Nat.add_sub_cancel]
 have e:List.getD l n aH=l[n]:=by rw[cI,cE hn];rfl
 rw[e,F_ hn,jz,<-FW hn]
 rfl
theorem Cc{a a':List ae}{b b':Bool}(h1:a=a')(h2:b=b'):Lf [.one (.sl .af a),.one (.lit (.bool b))] [.one (.sl .af a'),.one (.lit (.bool b'))]:=by
 subst h1 h2;exact cM _
def MX:bB UU where
 α:=(List ae)×ae
 md:=[.ro,.ro]
 of:=oC (oL .af) (o1 (oA .af))
 ds:=fun x=>[dL .af x.1,dA .af x.2]
 pre:=fun(l,x)=>[ay l<=4294967296,au x<=4294967296]
 cf:=fun(l,x)=>⟨[dL .af (fm l x),dO (cx l x)],[],[]⟩
 law:=lC (lL .af) (l1 (lA .af))
def rX(l:(List ae))(x:ae):(List ae×(Nat->Bool))×Int×T0×Unit->Prop:=fun((xs,dd),k,b,_)=>0<=k/\k<=l.length/\(∃d,xs=ec l k.toNat d)/\(∀j,j<l.length+1->j≠k.toNat->dd j=false)/\gu l x.At k.toNat=gu l x.At l.length/\b=(x.At,x.F.Kind,x.F.ak,())
def rW(l:(List ae))(x:ae):(List ae×(Nat->Bool))×Int×T0×Unit->Nat:=fun((xs,dd),k,b,_)=>k.toNat
def QT:MX.α->Nat->Option (cw UU):=fun(l,x)=>bP [(7,cY [.slot 6 (6,1024) (.part .af),.slot 7 (7,1024) (.lit (.int .i64)),.box 3 (3,1024) [.lit (.int .i64),.lit .str,.own .aE true]] (fun _=>rX l x) (rW l x))]
def QG:=us [Np,No,FN,FM]
theorem QL:aA EE (7,MX):=by
 refine holds_of aP func7 MX (by kernel_rfl) QG (bq _) QT (fun x hp hb=> ?_)
 obtain⟨l,x⟩:=x
 have qT:l.length<=9223372036854775807:=ng (hb _ m0)
 have jy:=ev (x:=x) (hb _ m1)
 have ik:=jy.1
 have fN:=jy.2
 have gz:ay l<=4294967296:=hp _ m0
 have mK:au x<=4294967296:=hp _ m1
 clear hp hb
 apply @ve _ (let q0:=Lf [VL .af l,VB false] [VL .af (fm l x),VB (cx l x)];ay l<=4294967296/\bif !bt l then q0 else bif !cz x then q0 else bif decide ((l.length:Int)≥30) then q0 else x.F.ak.length<=4294967296/\l.length+List.length (List.replicate 1 aH)<=4294967296/\rX l x ((l++List.replicate 1 aH,fun(i:Nat)=>Nat.ble (l.length) i),(l.length:Int),(x.At,x.F.Kind,x.F.ak,()),())/\∀(y:(List ae×(Nat->Bool))×Int×T1×PUnit),let x1:Nat:=y.2.1.toNat;let x3:Int:=IntKind.wrap IntKind.i64 (y.2.1-1);let x6:Nat:=y.fst.1.length;let x0:List ae:=List.set y.fst.1 x1 {At:=y.2.2.1.1,F:={Kind:=y.2.2.1.2.1,ak:=y.2.2.1.2.2.1:bc}:ae};let x2:Nat:=x3.toNat;let x5:ae:=List.getD y.fst.1 x2 aH;let x4:Int:=x5.At;let q1:=Lf [VL .af x0,VB true] [VL .af (fm l x),VB (cx l x)];let q2:=(y.2.2.1.1,y.2.2.1.2.1,y.2.2.1.2.2.1,());rX l x y->bif decide (y.2.1>0) then 0<=x3/\x2<x6/\x2<x6/\y.fst.2 x2=false/\bif decide (x4>y.2.2.1.1) then 0<=x3/\x2<x6/\x2<x6/\y.fst.2 x2=false/\0<=y.2.1/\x1<x6/\x1<x6/\rX l x ((List.set y.fst.1 x1 x5,fun(j:Nat)=> !Nat.beq j x1&&(Nat.beq j x2||y.fst.2 j)),x3,q2,())/\rW l x ((List.set y.fst.1 x1 x5,fun(j:Nat)=> !Nat.beq j x1&&(Nat.beq j x2||y.fst.2 j)),x3,q2,())<rW l x y else 0<=y.2.1/\x1<x6/\x1<x6/\(∀(i:Nat),i<x0.length->(!Nat.beq i x1&&y.fst.2 i)=false)/\q1 else 0<=y.2.1/\x1<x6/\x1<x6/\(∀(i:Nat),i<x0.length->(!Nat.beq i x1&&y.fst.2 i)=false)/\q1) (by kernel_rfl)
 dsimp only
 refine⟨gz,ah (fun h=> ?_) (fun h=>ah (fun h'=> ?_) (fun h'=>ah (fun p8=> ?_) (fun p8=> ?_)))⟩
 ·have hf:cx l x=false:=by simp only[cx];simp at h;simp[h]
  exact Cc (by rw[fm,hf];rfl) hf.symm
 ·have hf:cx l x=false:=by simp only[cx];simp at h';simp[h']
  exact Cc (by rw[fm,hf];rfl) hf.symm
 ·have hf:cx l x=false:=by simp only[cx];have p8:=yT p8;rw[decide_eq_false (by omega)];simp
  exact Cc (by rw[fm,hf];rfl) hf.symm
 have h3:=yF p8
 have ho:cx l x=true:=by simp only[cx];simp at h h';rw[h,h',decide_eq_true (by omega)];rfl
 have hT:fm l x=ec l (gu l x.At l.length) x:=by rw[fm,if_pos ho];rfl
 refine⟨?_,by simp;omega,⟨by omega,by omega,⟨aH,by simp[ec]⟩,fun j hj gY=> ?_,rfl,rfl⟩,?_⟩
 ·simp only[au,bu,ca] at mK;omega
 ·show Nat.ble l.length j=false
  rw[<-nq,vo];omega
 rintro⟨⟨xs,dd⟩,k,⟨bA,bK,bF,⟨⟩⟩,⟨⟩⟩ ⟨h1,h2,⟨d,rfl⟩,hd,od,hb⟩
 cases hb
 simp only
 have hlen:=sI l (k:=k.toNat) (by omega) d
 have fin:gu l x.At k.toNat=k.toNat->0<=k/\k.toNat<(ec l k.toNat d).length/\k.toNat<(ec l k.toNat d).length/\
   (∀i,i<((ec l k.toNat d).set k.toNat x).length->(!Nat.beq i k.toNat&&dd i)=false)/\
   Lf [.one (.sl .af ((ec l k.toNat d).set k.toNat x)),.one (.lit (.bool true))] [.one (.sl .af (fm l x)),.one (.lit (.bool (cx l x)))]:=by
  intro hk
  refine⟨h1,by rw[hlen];omega,by rw[hlen];omega,fun i hi=> ?_,Cc ?_ ho.symm⟩
  ·rw[r9,hlen] at hi
   by_cases B0:i=k.toNat
   ·subst B0;simp
   ·rw[hd i hi B0];simp
  ·rw[nx l (by omega),hT,<-od,hk]
 refine ah (fun hc=> ?_) (fun hc=> ?_)
 ·have hc:=yT hc
  have hw:IntKind.i64.wrap (k-1)=k-1:=wrap_i64 (by omega) (by omega)
  have ek:(k-1).toNat=k.toNat-1:=by omega
  obtain⟨n,hn⟩:∃n,k.toNat=n+1:=⟨k.toNat-1,by omega⟩
  have Kn:=uo l (k:=k.toNat) (j:=k.toNat-1) (by omega) (by omega) d
  have OL:=hd (k.toNat-1) (by omega) (by omega)
  rw[hw,ek,Kn]
  refine⟨by omega,by rw[hlen];omega,by rw[hlen];omega,OL,ah (fun hg=> ?_) (fun hg=> ?_)⟩
  ·have hg:=yT hg
   refine⟨by omega,by rw[hlen];omega,by rw[hlen];omega,OL,by omega,by rw[hlen];omega,by rw[hlen];omega,⟨by omega,by omega,⟨List.getD l (k.toNat-1) aH,?_⟩,fun j hj gY=> ?_,?_,rfl⟩,by simp only[rW];omega⟩
   ·rw[nx l (by omega),ek]
    exact pU l (by omega) (by omega)
   ·show(!Nat.beq j k.toNat&&(Nat.beq j (k.toNat-1)||dd j))=false
    rw[ek] at gY
    have e1:Nat.beq j (k.toNat-1)=false:=by rw[<-nq,te];exact gY
    by_cases OG:j=k.toNat
    ·subst OG;simp
    ·rw[e1,hd j hj OG];simp
   ·rw[<-od,ek,hn]
    rw[hn] at hg
    simp only[Nat.add_sub_cancel] at hg⊢
    rw[gu,if_pos hg]
  ·have hg:=yF hg
   refine fin ?_
   rw[hn] at hg⊢
   simp only[Nat.add_sub_cancel] at hg
   rw[gu,if_neg hg]
 ·have hc:=yF hc
  refine fin ?_
  have:k.toNat=0:=by omega
  rw[this,gu]
def QP:HH:=⟨_,QL⟩
theorem rN{α:Type}{l:List α}{z:α}{i j:Nat}(h:j<i):List.getD (l.take i) j z=List.getD l j z:=by
 rw[cI,cI,eP,if_pos h]
theorem aR.takeN{F:Nat->Prop}{w:World}{deep:Bool}{τ:UU.Ty}{xs:List (UU.T τ)}{vs:List Value}{fl:List (List Nat)}(h:aR EE w F deep τ xs vs fl){n:Nat}(hn:n<=xs.length):aR EE w F deep τ (xs.take n) (vs.take (n*UU.wd τ)) (fl.take (n*UU.wd τ)):=by
 obtain⟨h1,h2,h3⟩:=h
 have hm:n*UU.wd τ<=xs.length*UU.wd τ:=kf _ hn
 have e:(xs.take n).length=n:=by rw[kg];omega
 refine⟨by rw[e,kg];omega,by rw[e,kg];omega,fun i x j c hx hj=> ?_⟩
 have hl:=bw hx hj
 rw[e] at hl
 rw[eP] at hx
 split at hx
 ·rw[rN hl,rN hl];exact h3 i x j c hx hj
 ·cases hx
theorem aR.Fo{F:Nat->Prop}{w:World}{deep:Bool}{τ:UU.Ty}{xs:List (UU.T τ)}{vs:List Value}{fl:List (List Nat)}(h:aR EE w F deep τ xs vs fl){n:Nat}(hn:n<=xs.length):aR EE w F deep τ (xs.drop n) (vs.drop (n*UU.wd τ)) (fl.drop (n*UU.wd τ)):=by
 obtain⟨h1,h2,h3⟩:=h
 have hm:xs.length*UU.wd τ=(xs.length-n)*UU.wd τ+n*UU.wd τ:=by rw[<-kc];congr 1;omega
 refine⟨by rw[px,px];omega,by rw[px,px];omega,fun i x j c hx hj=> ?_⟩
 rw[mQ] at hx
 have h:=h3 (n+i) x j c hx hj
 have e:(n+i)*UU.wd τ+j=n*UU.wd τ+(i*UU.wd τ+j):=by rw[kc];omega
 rw[e] at h
 simpa only[cI,mQ] using h
theorem mw{fl:List (List Nat)}(n:Nat):fl.flatten=(fl.take n).flatten++(fl.drop n).flatten:=by rw[<-pq,vq]
theorem sD{g vb:Nat}{fl gl:List (List Nat)}(n:Nat)(h:(g::fl.flatten++(vb::gl.flatten)).Nodup):(g::(fl.take n++gl++fl.drop n).flatten).Nodup/\∀b∈g::(fl.take n++gl++fl.drop n).flatten,b∈g::fl.flatten++(vb::gl.flatten):=by
 have e:(fl.take n++gl++fl.drop n).flatten=(fl.take n).flatten++gl.flatten++(fl.drop n).flatten:=by simp
 have e0:=mw (fl:=fl) n
 rw[e,e0]
 rw[e0] at h
 have hp:List.Perm (g::((fl.take n).flatten++gl.flatten++(fl.drop n).flatten)) (g::((fl.take n).flatten++(fl.drop n).flatten)++gl.flatten):=by
  refine List.Perm.cons _ ?_
  show((fl.take n).flatten++gl.flatten++(fl.drop n).flatten).Perm ((fl.take n).flatten++(fl.drop n).flatten++gl.flatten)
  rw[jz,jz]
  exact List.Perm.append_left _ List.perm_append_comm
 have hs:List.Sublist (g::((fl.take n).flatten++(fl.drop n).flatten)++gl.flatten) (g::((fl.take n).flatten++(fl.drop n).flatten)++(vb::gl.flatten)):=List.Sublist.append_left (List.sublist_cons_self _ _) _
 exact⟨hp.nodup_iff.2 (hs.nodup h),fun b hb=>hs.subset (hp.subset hb)⟩
theorem ob{F:Nat->Prop}{w w':World}{s v:List ae}{k:Nat}(hk:k<=s.length){xs us:List Value}{fl gl:List (List Nat)}{l1 l3:List Nat}(hF:∀b,F b->b<w.heap.size)(hx:aR EE w F true .af s xs fl)(hu:aR EE w F true .af v us gl)
  {b cap:Nat} {cur:Array Value} (hb:w'.heap[b]? =some (.cells cur 38 (0,0))) (hc:s.length+v.length<=cap) (hm:cap<=maxLen) (hs:cur.size=cap*3) (gy:cur.toList.take ((s.length+v.length)*3)=xs.take (k*3)++us++xs.drop (k*3))
  (eJ:bH (·∈[l1,[],l3].flatten) w w') (bW:∀c,c<w.heap.size->c≠b->w'.heap[c]? =w.heap[c]?) (iG:b<w'.heap.size)
  (uP:b∈l1\/w.heap.size<=b) (a_:∀c∈fl.flatten++gl.flatten,c≠b) (eU:∀c∈fl.flatten++gl.flatten,c∈[l1,[],l3].flatten)
  (eH:(b::(fl.take (k*3)++gl++fl.drop (k*3)).flatten).Nodup) (eg:∀c∈(fl.take (k*3)++gl++fl.drop (k*3)).flatten,c∈fl.flatten++gl.flatten) (uw:∀c∈[l1,[],l3].flatten,c<w.heap.size/\¬F c) (hw:w.heap.size<=w'.heap.size):
  ∃(rs:List Value)(dj bQ:List (List Nat)),Ending.returned (.slice (some ⟨b,0,none⟩) (s.length+v.length) cap)=.returned (nQ rs)/\bH (·∈[l1,[],l3].flatten) w w'/\
   dw EE w' (fg F w w' (dj.flatten++bQ.flatten) [l1,[],l3].flatten) [] [.one (.sl .af (s.take k++v++s.drop k))] rs dj/\bQ=[]/\
   (dj.flatten++bQ.flatten).Nodup/\(∀c∈dj.flatten,(c∈[l1,[],l3].flatten\/w.heap.size<=c)/\c<w'.heap.size):=by
 have OE:∀c,F c->w'.heap[c]? =w.heap[c]? :=fun c hc=>bW c (hF c hc) (fun e=>by
  rcases uP with h|h
  ·exact(uw b (by simp[h])).2 (e▸hc)
  ·have:=hF c hc;omega)
 have xR:∀c∈fl.flatten++gl.flatten,w'.heap[c]? =w.heap[c]? :=fun c hc=>bW c (uw c (eU c hc)).1 (a_ c hc)
 have sF:=hx.bD (w':=w') (F':=fg F w w' ([b::(fl.take (k*3)++gl++fl.drop (k*3)).flatten].flatten++([]:List (List Nat)).flatten) [l1,[],l3].flatten) (fun c hc=>⟨.inl hc,OE c hc⟩) (fun c hc=>xR c (fy _ hc))
 have ga:=hu.bD (w':=w') (F':=fg F w w' ([b::(fl.take (k*3)++gl++fl.drop (k*3)).flatten].flatten++([]:List (List Nat)).flatten) [l1,[],l3].flatten) (fun c hc=>⟨.inl hc,OE c hc⟩) (fun c hc=>xR c (eZ _ hc))
 have hr:=((sF.takeN hk).append ga).append (sF.Fo hk)
 have hlen:(s.take k++v++s.drop k).length=s.length+v.length:=by simp only[rj,kg,px];omega
 have ei:=ba.d_ (E:=EE) (τ:=(.af:Cd)) (xs:=s.take k++v++s.drop k) hb (tg (Nat.le_of_eq hlen) hc) hm hs ((congrArg (fun n=>cur.toList.take (n*3)) hlen).trans gy) hr
 have e2:Value.slice (some ⟨b,0,none⟩) (s.take k++v++s.drop k).length cap=.slice (some ⟨b,0,none⟩) (s.length+v.length) cap:=by rw[hlen]
 refine⟨[.slice (some ⟨b,0,none⟩) (s.length+v.length) cap],[b::(fl.take (k*3)++gl++fl.drop (k*3)).flatten],[],rfl,eJ,⟨?_,trivial⟩,rfl,by simpa using eH,fun c hc=> ?_⟩
 ·exact Eq.mp (congrArg (fun z=>Rp EE w' (fg F w w' ([b::(fl.take (k*3)++gl++fl.drop (k*3)).flatten].flatten++([]:List (List Nat)).flatten) [l1,[],l3].flatten) true (.sl (.af:Cd) (s.take k++v++s.drop k)) z (b::(fl.take (k*3)++gl++fl.drop (k*3)).flatten)) e2) ei.sa
 ·simp only[qq,Ce,nk] at hc
  rcases dQ.1 hc with rfl|hc
  ·exact⟨uP.imp (fun h=>by simp[h]) id,iG⟩
  ·have h:=eU c (eg c hc)
   exact⟨.inl h,by have:=(uw c h).1;omega⟩
def M0:bB UU where
 α:=(List ae)×Int×(List ae)
 md:=[.mv,.ro,.mv]
 of:=oC (oL .af) (oC oI (o1 (oL .af)))
 ds:=fun x=>[dL .af x.1,dI x.2.1,dL .af x.2.2]
 pre:=fun(s,i,v)=>[0<=i/\i<=s.length,0<v.length,s.length+v.length<=4294967296]
 cf:=fun(s,i,v)=>⟨[dL .af (s.take i.toNat++v++s.drop i.toNat)],[],[]⟩
 law:=lC (lL .af) (lC lI (l1 (lL .af)))
theorem MF:aA EE (28,M0):=by
 refine⟨⟨_,func28,by kernel_rfl,by kernel_rfl⟩,?_⟩
 rintro⟨s,i,v⟩ hp w F vs ls hF na eh _ eH uw
 have gz:0<=i/\i<=s.length:=hp _ m0
 have mK:0<v.length:=hp _ m1
 have Kc:s.length+v.length<=4294967296:=hp _ m2
 obtain⟨jM,i0,z0,hi,hz,ci,kz,pu,_⟩:=aP.code 38 .af rfl
 have lh:i0.size=3:=ci
 have kz:z0.cells.size=3:=kz
 obtain⟨_,g2,g3⟩:=eh.len
 match vs,g2,eh with
 |[sv,iv,vv],_,eh=>
 match ls,g3,eh,eH,uw with
 |[l1,l2,l3],_,eh,eH,uw=>
 obtain⟨h1,⟨h2,rfl⟩,h3,_⟩:=eh
 have h1:=Rp.jK h1
 have h3:=Rp.jK h3
 obtain⟨_,rfl,_⟩:=h2.dy
 obtain⟨k,rfl⟩:∃k:Nat,i=(k:Int):=⟨i.toNat,by omega⟩
 have hk:k<=s.length:=by omega
 show Calls prog 28 _ _ _
 have ek:((k:Int)).toNat=k:=rfl
 rcases h3.rows with⟨he,_,_⟩|⟨vb,vK,vJ,us,gl,rfl,s9,Rd,Rc,qj,Pp,Ep,rfl⟩
 ·rw[show v=[] from he] at mK;simp at mK
 have kA:us.length=v.length*3:=Ep.1
 have fv:∀j u,us[j]? =some u->w.cell? ⟨vb,j,none⟩=some u:=fun j u hj=>by
  have gY:=hj
  rw[<-Pp,eP] at gY
  split at gY
  ·simp only[World.cell?,s9];simpa using gY
  ·cases gY
 have Az:=Ep.bx
 rcases h1.rows with⟨he,⟨ad,rfl⟩,rfl⟩|⟨g,cap,cur,xs,fl,rfl,hg,sS,OH,ER,xS,zo,rfl⟩
 ·have hs:s=[]:=he
  subst hs
  have mM:k=0:=by simpa using hk
  subst mM
  have zp:∀c∈vb::gl.flatten,c<w.heap.size/\¬F c:=fun c hc=>uw c (by simpa using hc)
  refine(sE i0 z0 hi hz lh kz pu w ad vb v.length vK us mK kA fv Az (by simpa using Kc)).mono ?_
  rintro e w' ⟨G,rfl,q1,q2,⟨C,q3,q4,q5⟩,q6,q7,q8,q9,Oo⟩
  have iG:w.heap.size<w'.heap.size:=by omega
  have qV:(vb::gl.flatten).Nodup:=by simpa using eH
  obtain⟨rs,dj,bQ,r1,r2,r3,rfl,r5,r6⟩:=ob (F:=F) (w:=w) (w':=w') (s:=[]) (v:=v) (k:=0) (xs:=[]) (us:=us) (fl:=[]) (gl:=gl) (l1:=[]) (l3:=vb::gl.flatten) (nl _) hF aR.nil Ep q5 (by simpa using q1) q2 (by simpa using q3) (by simpa using q4)
   ⟨q6,q7,q8,by omega,fun c hc _=>Oo c hc⟩ (fun c hc _=>Oo c hc) iG (.inr (nl _)) (fun c hc=>by have:=(zp c (by simp at hc⊢;exact .inr hc)).1;omega) (fun c hc=>by simp at hc⊢;exact .inr hc)
   (by
    simp only[List.take_nil,List.drop_nil,List.nil_append,nk]
    exact fU.2 ⟨fun hc=>by have:=(zp _ (c9 _ hc)).1;omega,(fU.1 qV).2⟩) (fun c hc=>by simpa using hc) (fun c hc=>zp c (by simpa using hc)) (by omega)
  refine⟨rs,dj,[],?_,r2,r3,?_,r5,r6,fun c hc=>by simp at hc⟩
  ·rw[<-r1];simp
  ·trivial
 ·have qi:xs.length=s.length*3:=zo.1
  have OT:=zo.bx
  have Af:cap<=9223372036854775807:=by unfold maxLen at OH;omega
  have sM:∀c∈g::fl.flatten++(vb::gl.flatten),c<w.heap.size/\¬F c:=fun c hc=>uw c (by simpa using hc)
  have pX:(g::fl.flatten++(vb::gl.flatten)).Nodup:=by simpa using eH
  obtain⟨n1,n2⟩:=sD (k*3) pX
  have Gt:g<w.heap.size:=(sM g (by simp)).1
  have zp:vb<w.heap.size:=(sM vb (by simp)).1
  have Pr:vb≠g:=fun e=>by subst e;simp at pX
  have iU:∀c∈fl.flatten++gl.flatten,c∈g::fl.flatten++(vb::gl.flatten):=fun c hc=>by
   rcases cZ.1 hc with h|h
   ·exact fy _ (c9 _ h)
   ·exact eZ _ (c9 _ h)
  have PE:∀c∈fl.flatten++gl.flatten,c≠g:=fun c hc e=>by
   subst e
   have:=(fU.1 pX).1
   apply this
   rcases cZ.1 hc with h|h
   ·exact fy _ h
   ·exact eZ _ (c9 _ h)
  have eg:∀c∈(fl.take (k*3)++gl++fl.drop (k*3)).flatten,c∈fl.flatten++gl.flatten:=fun c hc=>by
   simp only[pq,cZ] at hc⊢
   rw[mw (fl:=fl) (k*3),cZ]
   rcases hc with(hc|hc)|hc
   ·exact .inl (.inl hc)
   ·exact .inr hc
   ·exact .inl (.inr hc)
  have fC:∀(w':World)(cur':Array Value),cur'.size=cap*3->cur'.toList.take ((s.length+v.length)*3)=xs.take (k*3)++us++xs.drop (k*3)->s.length+v.length<=cap->w'.heap[g]? =some (.cells cur' 38 (0,0))->w'.os=w.os->w'.tape=w.tape->w'.output=w.output->w.heap.size<=w'.heap.size->(∀c,c<w.heap.size->c≠g->w'.heap[c]? =w.heap[c]?)->
    ∃(rs:List Value)(dj bQ:List (List Nat)),Ending.returned (.slice (some ⟨g,0,none⟩) (s.length+v.length) cap)=.returned (nQ rs)/\bH (·∈[g::fl.flatten,[],vb::gl.flatten].flatten) w w'/\
     dw EE w' (fg F w w' (dj.flatten++bQ.flatten) [g::fl.flatten,[],vb::gl.flatten].flatten) [] [.one (.sl .af (s.take k++v++s.drop k))] rs dj/\bQ=[]/\(dj.flatten++bQ.flatten).Nodup/\(∀c∈dj.flatten,(c∈[g::fl.flatten,[],vb::gl.flatten].flatten\/w.heap.size<=c)/\c<w'.heap.size):=
   fun w' cur' e1 e2 e3 e4 e5 e6 e7 e8 e9=>ob (F:=F) (w:=w) (w':=w') (l1:=g::fl.flatten) (l3:=vb::gl.flatten) hk hF zo Ep e4 e3 OH e1 e2 ⟨e5,e6,e7,e8,fun c hc hn=>e9 c hc (fun h=>hn (by simp[h]))⟩ e9 (by omega) (.inl (by simp)) PE (fun c hc=>by have:=iU c hc;simpa using this) n1 eg (fun c hc=>sM c (by simpa using hc)) e8
  have Fx:∀(w':World)(G:Nat)(C:List Value),C.length=G*3->C.take ((s.length+v.length)*3)=xs.take (k*3)++us++xs.drop (k*3)->s.length+v.length<=G->G<=maxLen->w'.heap[w.heap.size]? =some (.cells C.toArray 38 (0,0))->w'.os=w.os->w'.tape=w.tape->w'.output=w.output->w.heap.size<w'.heap.size->(∀c,c<w.heap.size->c≠g->w'.heap[c]? =w.heap[c]?)->
    (∀c,c<w.heap.size->w'.heap[c]? =w.heap[c]?)->∃(rs:List Value)(dj bQ:List (List Nat)),Ending.returned (.slice (some ⟨w.heap.size,0,none⟩) (s.length+v.length) G)=.returned (nQ rs)/\bH (·∈[g::fl.flatten,[],vb::gl.flatten].flatten) w w'/\
     dw EE w' (fg F w w' (dj.flatten++bQ.flatten) [g::fl.flatten,[],vb::gl.flatten].flatten) [] [.one (.sl .af (s.take k++v++s.drop k))] rs dj/\bQ=[]/\(dj.flatten++bQ.flatten).Nodup/\(∀c∈dj.flatten,(c∈[g::fl.flatten,[],vb::gl.flatten].flatten\/w.heap.size<=c)/\c<w'.heap.size):=by
   intro w' G C e1 e2 e3 e4 e5 e6 e7 e8 e9 xY Qx
   have eJ:bH (·∈[g::fl.flatten,[],vb::gl.flatten].flatten) w w':=⟨e6,e7,e8,by omega,fun c hc hn=>xY c hc (fun h=>hn (by simp[h]))⟩
   by_cases OI:w'.heap[g]? =w.heap[g]?
   ·exact ob (F:=F) (w:=w) (w':=w') (l1:=g::fl.flatten) (l3:=vb::gl.flatten) hk hF zo Ep e5 e3 e4 (by simpa using e1) (by simpa using e2) eJ (fun c hc _=>by
     by_cases h:c=g
     ·rw[h];exact OI
     ·exact xY c hc h) e9 (.inr (nl _)) (fun c hc=>by have:=(sM c (iU c hc)).1;omega) (fun c hc=>by have:=iU c hc;simpa using this)
     (fU.2 ⟨fun hc=>by have:=(sM _ (iU _ (eg _ hc))).1;omega,(fU.1 n1).2⟩) eg (fun c hc=>sM c (by simpa using hc)) (by omega)
   ·exact absurd (Qx g Gt) OI
  by_cases BZ:k=s.length
  ·subst BZ
   have e0:xs.take (s.length*3)++us++xs.drop (s.length*3)=xs++us:=by rw[yj (by omega),List.drop_eq_nil_of_le (by omega),nk]
   refine(ue i0 z0 hi hz lh kz pu w g cap s.length cur xs hg Af sS ER xS vb v.length vK us mK kA fv Az Kc).mono ?_
   rintro e w' (⟨cur',rfl,e3,e1,e2,rfl⟩|⟨G,rfl,e3,e4,⟨C,e1,e2,e5⟩,e6,e7,e8,e9,xY⟩)
   ·obtain⟨rs,dj,bQ,r1,r2,r3,rfl,r5,r6⟩:=fC (w.setRow g cur') cur' (e1.trans ER) (e2.trans e0.symm) e3 (setRow_heap w g cur cur' _ _ hg) rfl rfl rfl (by simp) (fun c hc hn=>setRow_other w g c cur' hn)
    exact⟨rs,dj,[],r1,r2,r3,trivial,r5,r6,fun c hc=>by simp at hc⟩
   ·obtain⟨rs,dj,bQ,r1,r2,r3,rfl,r5,r6⟩:=Fx w' G C e1 (e2.trans e0.symm) e3 e4 e5 e6 e7 e8 (by omega) (fun c hc _=>xY c hc) xY
    exact⟨rs,dj,[],r1,r2,r3,trivial,r5,r6,fun c hc=>by simp at hc⟩
  ·have xR:k<s.length:=by omega
   by_cases ea:s.length+v.length<=cap
   ·refine(sC i0 hi lh w g cap s.length k cur xs hg Af ER xS vb v.length vK vJ us s9 Pr mK kA fv Az OT xR ea).mono ?_
    rintro e w' ⟨rfl,cur',e1,e2,rfl⟩
    obtain⟨rs,dj,bQ,r1,r2,r3,rfl,r5,r6⟩:=fC (w.drew.setRow g cur') cur' (e1.trans ER) e2 ea (setRow_heap w.drew g cur cur' _ _ hg) rfl rfl rfl (by simp) (fun c hc hn=>setRow_other w.drew g c cur' hn)
    exact⟨rs,dj,[],r1,r2,r3,trivial,r5,r6,fun c hc=>by simp at hc⟩
   ·refine(uf i0 z0 hi hz lh kz pu w g cap s.length k cur xs hg Af sS ER xS vb v.length vK us zp mK kA fv Az OT xR (by omega) Kc).mono ?_
    rintro e w' ⟨G,rfl,e3,e4,⟨C,e1,e2,e5⟩,e6,e7,e8,e9,xY⟩
    obtain⟨rs,dj,bQ,r1,r2,r3,rfl,r5,r6⟩:=Fx w' G C e1 e2 e3 e4 e5 e6 e7 e8 (by omega) (fun c hc _=>xY c hc) xY
    exact⟨rs,dj,[],r1,r2,r3,trivial,r5,r6,fun c hc=>by simp at hc⟩
def Nl:HH:=⟨_,MF⟩
def By:bB UU where
 α:=(List ae)×ae
 md:=[.ro,.ro]
 of:=oC (oL .af) (o1 (oA .af))
 ds:=fun x=>[dL .af x.1,dA .af x.2]
 pre:=fun(l,x)=>[ay l<=4294967296,au x<=4294967296]
 cf:=fun(l,x)=>⟨[dL .af (fm l x),dO (cx l x)],[],[]⟩
 law:=lC (lL .af) (l1 (lA .af))
def pg(l:(List ae))(x:ae):List ae×Int×T0×Unit->Prop:=fun(o,k,b,_)=>o=l/\0<=k/\k<=l.length/\gu l x.At k.toNat=gu l x.At l.length/\b=(x.At,x.F.Kind,x.F.ak,())
def o0(l:(List ae))(x:ae):List ae×Int×T0×Unit->Nat:=fun(o,k,b,_)=>k.toNat
def Ob:By.α->Nat->Option (cw UU):=fun(l,x)=>bP [(5,cY [.slot 6 (6,1024) (.own .af true),.slot 7 (7,1024) (.lit (.int .i64)),.box 3 (3,1024) [.lit (.int .i64),.lit .str,.shr .aE]] (fun _=>pg l x) (o0 l x))]
def Mb:=us [Nm,Nr,FL,FJ,Nl]
theorem MU:aA EE (10,By):=by
 refine holds_of aP func10 By (by kernel_rfl) Mb (bq _) Ob (fun x hp hb=> ?_)
 obtain⟨l,x⟩:=x
 have qT:l.length<=9223372036854775807:=ng (hb _ m0)
 have jy:=ev (x:=x) (hb _ m1)
 have ik:=jy.1
 have fN:=jy.2
 have gz:ay l<=4294967296:=hp _ m0
 have mK:au x<=4294967296:=hp _ m1
 clear hp hb
 apply @ve _ (let q0:=Lf [VL .af l,VB false] [VL .af (fm l x),VB (cx l x)];ay l<=4294967296/\bif !bt l then q0 else bif !cz x then q0 else bif (l.length:Int)==30 then q0 else pg l x (l,(l.length:Int),(x.At,x.F.Kind,x.F.ak,()),())/\∀(y:List ae×Int×T1×PUnit),let x1:List ae:=[{At:=y.2.2.1.1,F:={Kind:=y.2.2.1.2.1,ak:=y.2.2.1.2.2.1:bc}:ae}];let x2:Int:=IntKind.wrap IntKind.i64 (y.2.1-1);let x3:Nat:=y.2.1.toNat;let x0:Nat:=x1.length;let q1:=y.2.2.1.2.2.1.length<=4294967296/\(0<=y.2.1/\y.2.1<=(y.1.length:Int))/\0<x0/\y.1.length+x0<=4294967296/\Lf [VL .af (List.take x3 y.1++x1++List.drop x3 y.1),VB true] [VL .af (fm l x),VB (cx l x)];let q2:=(y.1,x2,(y.2.2.1.1,y.2.2.1.2.1,y.2.2.1.2.2.1,()),());pg l x y->bif decide (y.2.1>0) then 0<=x2/\x2.toNat<y.1.length/\x2.toNat<y.1.length/\bif decide ((List.getD y.1 x2.toNat aH).At>y.2.2.1.1) then pg l x q2/\o0 l x q2<o0 l x y else q1 else q1) (by kernel_rfl)
 dsimp only
 have off:cx l x=false->Lf [.one (.sl .af l),.one (.lit (.bool false))] [.one (.sl .af (fm l x)),.one (.lit (.bool (cx l x)))]:=fun hf=>Cc (by rw[fm,hf];rfl) hf.symm
 refine⟨gz,ah (fun h=>off ?_) (fun h=>ah (fun h'=>off ?_) (fun h'=>ah (fun p8=>off ?_) (fun p8=> ?_)))⟩
 ·simp only[cx];simp at h;simp[h]
 ·simp only[cx];simp at h';simp[h']
 ·simp only[cx];simp at p8;rw[decide_eq_false (by omega)];simp
 have h:bt l=true:=by simpa using h
 have h':cz x=true:=by simpa using h'
 have h3:¬(l.length:Int)=30:=by simpa using p8
 have Rn:l.length<=30:=by simp only[bt,dR,decide_eq_true_eq] at h;exact h.1
 have ho:cx l x=true:=by simp only[cx];rw[h,h',decide_eq_true (by omega)];rfl
 have hT:fm l x=ec l (gu l x.At l.length) x:=by rw[fm,if_pos ho];rfl
 have hF:x.F.ak.length<=4294967296:=by simp only[au,bu,ca] at mK;omega
 refine⟨⟨rfl,by omega,by omega,rfl,rfl⟩,?_⟩
 rintro⟨o,k,⟨bA,bK,bF,⟨⟩⟩,⟨⟩⟩
 dsimp only
 rintro⟨rfl,h1,h2,od,hb⟩
 cases hb
 have fin:gu o x.At k.toNat=k.toNat->x.F.ak.length<=4294967296/\(0<=k/\k<=(o.length:Int))/\(0:Nat)<[(⟨x.At,x.F⟩:ae)].length/\o.length+[(⟨x.At,x.F⟩:ae)].length<=4294967296/\Lf [.one (.sl .af (List.take k.toNat o++[(⟨x.At,x.F⟩:ae)]++List.drop k.toNat o)),.one (.lit (.bool true))] [.one (.sl .af (fm o x)),.one (.lit (.bool (cx o x)))]:=by
  intro hk
  refine⟨hF,⟨h1,h2⟩,by simp,by simp only[xl,vu];omega,Cc ?_ ho.symm⟩
  rw[hT,<-od,hk,ec,jz];rfl
 refine ah (fun hc=> ?_) (fun hc=> ?_)
 ·have hc:=yT hc
  have hw:IntKind.i64.wrap (k-1)=k-1:=wrap_i64 (by omega) (by omega)
  have ek:(k-1).toNat=k.toNat-1:=by omega
  obtain⟨n,hn⟩:∃n,k.toNat=n+1:=⟨k.toNat-1,by omega⟩
  rw[hw,ek]
  refine⟨by omega,by omega,by omega,ah (fun hg=> ?_) (fun hg=> ?_)⟩
  ·have hg:=yT hg
   refine⟨⟨rfl,by omega,by omega,?_,rfl⟩,by simp only[o0];omega⟩
   rw[<-od,ek,hn]
   rw[hn] at hg
   simp only[Nat.add_sub_cancel] at hg⊢
   rw[gu,if_pos hg]
  ·have hg:=yF hg
   refine fin ?_
   rw[hn] at hg⊢
   simp only[Nat.add_sub_cancel] at hg
   rw[gu,if_neg hg]
 ·have hc:=yF hc
  refine fin ?_
  have:k.toNat=0:=by omega
  rw[this,gu]
def Nw:HH:=⟨_,MU⟩
def bJ:bB UU where
 α:=(List ae)×ae
 md:=[.ro,.ro]
 of:=oC (oL .aU) (o1 (oA .aU))
 ds:=fun x=>[dL .aU x.1,dA .aU x.2]
 pre:=fun _=>[]
 cf:=fun(aL,aX)=>⟨[dO true],[],[]⟩
 law:=lC (lL .aU) (l1 (lA .aU))
def fT:bJ.α->Nat->Option (cw UU):=fun(aL,aX)=>bP []
def fL:=us [QQ,O3,QP,QO,O2,Nw,Nv,FO,Nu,Nt,Ns]
theorem dK:aA EE (3,bJ):=by
 refine holds_of aP func3 bJ (by kernel_rfl) fL (bq _) fT (fun x hp hb=> ?_)
 obtain⟨aL,aX⟩:=x
 have OD:aL.length<=9223372036854775807:=ng (hb _ m0)
 have jy:=kO (x:=aX) (hb _ m1)
 have wO:=jy.1
 have uA:=jy.2
 clear hp hb
 apply @ve _ (let x2:Int:=(1:Int)+(↑(aY aL):Int);let x3:Bool:= !decide (fm aL aX=fm aL aX);let x5:Int:=eQ 1048576 (ay aL);let x7:Bool:= !cx aL aX==cx aL aX;let x8:Int:=(1:Int)+(↑(aY (fm aL aX)):Int);let x9:List ae:=bV (fm aL aX) 1;let x4:Int:=(1:Int)+(↑(aY x9):Int);let x1:Int:=if bV x9 1=x9 then x4 else(-1);let x6:Bool:=x1 !=x8;let x0:Bool:=decide (x1<0);let q0:=Lb false true;(0:Int)<=(1048576:Int)/\bif decide (x5<0) then Lb true true else 0<=x5/\bif decide (eQ x5 (au aX)<0) then Lb true true else ay aL<=4294967296/\au aX<=4294967296/\ay aL<=4294967296/\au aX<=4294967296/\ay aL<=4294967296/\au aX<=4294967296/\ay aL<=4294967296/\au aX<=4294967296/\bif x3 then q0 else bif x7 then q0 else ay aL<=4294967296/\bif !decide (aL=aL) then q0 else au aX<=4294967296/\bif !decide (aX=aX) then q0 else(0:Int)<=(1:Int)/\x2<=4611686018427387904/\0<=x2/\x2+(↑(eS aX):Int)<=4611686018427387904/\bif x3 then q0 else bif x7 then q0 else(0:Int)<=(1:Int)/\x8<=4611686018427387904/\(0:Int)<=(1:Int)/\x4<=4611686018427387904/\bif x0 then q0 else bif x6 then q0 else ay aL<=4294967296/\au aX<=4294967296/\ay aL<=4294967296/\au aX<=4294967296/\bif x3 then q0 else bif x7 then q0 else(0:Int)<=(1:Int)/\x4<=4611686018427387904/\bif x0 then q0 else bif x6 then q0 else Lb true true) (by kernel_rfl)
 dsimp only
 refine⟨by omega,ah (fun h=>cM _) (fun h=> ?_)⟩
 obtain⟨e0,h0⟩:=lp h
 refine⟨by omega,ah (fun h=>cM _) (fun h=> ?_)⟩
 obtain⟨e1,h1⟩:=lp h
 have hc:=oD aL
 have rK:=k8 aX
 have mO:aY (fm aL aX)<=aY aL+az aX:=by
  unfold fm;split
  ·have e:aY aL=fH az (aL.take (gu aL aX.At aL.length))+fH az (aL.drop (gu aL aX.At aL.length)):=by rw[<-gK,vq];rfl
   rw[e]
   show fH az _<=_
   rw[gK]
   show _+(List.map az (aX::_)).sum<=_
   rw[mR,Ck]
   simp only[fH];omega
  ·omega
 have E4:eS aX<=20*au aX+20:=by have:=mD aX.F.ak;simp only[eS,fR,bu,au];omega
 simp only[ld,ii,mX,gx,if_true]
 repeat' (first|exact cM _|refine And.intro (by omega) ?_|refine ah (fun h=>absurd h (by first|(simp;done)|(simp;omega))) (fun h=> ?_)|fail)
def ou:HH:=⟨_,dK⟩
end
end AM
