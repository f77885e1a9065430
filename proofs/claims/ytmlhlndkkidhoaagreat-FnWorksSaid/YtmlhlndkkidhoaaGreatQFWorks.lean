/- Functions of the program with their contracts: put together by gen/link.py for FnWorks. -/
import Derived.Test.YtmlhlndkkidhoaaGreatQAmLib
import Derived.Lib.ItoaLen
import Derived.Lib.Join
namespace AM
open Go Go.Proofs.Tryz
set_option linter.unusedVariables false
set_option linter.unusedSimpArgs false
set_option maxRecDepth 100000
noncomputable section
theorem ve {p q : Prop} (h : p = q) (x : q) : p := by rw [h]; exact x
abbrev VB (b : Bool) : DV UU := .one (.lit (.bool b))
abbrev VI (n : Int) : DV UU := .one (.lit (.int .i64 n))
abbrev VS (s : ByteArray) : DV UU := .one (.lit (.string s))
abbrev CI (n : Int) : CC := .lit (.int .i64 n)
abbrev CS (s : ByteArray) : CC := .lit (.string s)
abbrev CO (b : Bool) : CC := .lit (.bool b)
abbrev CL (τ : Cd) (xs : List τ.T) : CC := .sl τ xs
abbrev VL (τ : Cd) (xs : List τ.T) : DV UU := .one (.sl τ xs)
abbrev T0:=ByteArray×Int×List cn×List c_×List eX×Unit
abbrev T1:=List bH×Int×List av×List ak×List aI×List bu×Int×Int×Unit
abbrev T2:=ByteArray×List aV×Unit
abbrev T3:=List Int×Int×Int×Unit
abbrev T4:=List bH×Int×Unit
abbrev T5:=Int×Int×ByteArray×Int×Int×ByteArray×Int×ByteArray×Int×Int×ByteArray×Unit
abbrev T6:=ByteArray×List aQ×Unit
abbrev T7:=Int×List Int×List b9×Unit
abbrev T8:=ByteArray×List cp×Bool×Unit
abbrev T9:=ByteArray×List aV×PUnit
abbrev WY:=ByteArray×Int×List cn×List c_×List eX×PUnit
abbrev MB:=List Int×Int×Int×PUnit
abbrev T12:=Int×ByteArray×List b7×Int×ByteArray×Unit
abbrev T13:=List bH×Int×List av×List ak×List aI×List bu×Int×Int×PUnit
abbrev Oi:=List bH×Int×PUnit
abbrev WX:=Int×List Int×List b9×PUnit
abbrev WW:=ByteArray×List aQ×PUnit
abbrev T17:=ByteArray×List cp×Bool×PUnit
abbrev T18:=Int×ByteArray×List aQ×Unit
abbrev T19:=ByteArray×List aQ×ByteArray×Int×Int×Int×Int×Int×ByteArray×Unit
abbrev T20:=Int×ByteArray×List aQ×PUnit
abbrev T21:=Int×Int×ByteArray×Unit
theorem yT {p:Prop} [Decidable p] (h:decide p=true):p:=of_decide_eq_true h
theorem yF {p:Prop} [Decidable p] (h:decide p=false):¬p:=of_decide_eq_false h
abbrev BA:=ByteArray
instance:DecidableEq aQ:=fun _ _=>Classical.propDecidable _
instance:DecidableEq aJ:=fun _ _=>Classical.propDecidable _
instance:DecidableEq bH:=fun _ _=>Classical.propDecidable _
instance:DecidableEq aG:=fun _ _=>Classical.propDecidable _
instance:DecidableEq cp:=fun _ _=>Classical.propDecidable _
instance:DecidableEq cn:=fun _ _=>Classical.propDecidable _
instance:DecidableEq b9:=fun _ _=>Classical.propDecidable _
instance:DecidableEq c_:=fun _ _=>Classical.propDecidable _
instance:DecidableEq b7:=fun _ _=>Classical.propDecidable _
instance:DecidableEq eX:=fun _ _=>Classical.propDecidable _
instance:DecidableEq aV:=fun _ _=>Classical.propDecidable _
instance:DecidableEq bB:=fun _ _=>Classical.propDecidable _
instance:DecidableEq av:=fun _ _=>Classical.propDecidable _
instance:DecidableEq cD:=fun _ _=>Classical.propDecidable _
instance:DecidableEq aI:=fun _ _=>Classical.propDecidable _
instance:DecidableEq ak:=fun _ _=>Classical.propDecidable _
instance:DecidableEq ow:=fun _ _=>Classical.propDecidable _
instance:DecidableEq bu:=fun _ _=>Classical.propDecidable _
instance:DecidableEq ao:=fun _ _=>Classical.propDecidable _
theorem Gu{α:Type}(p:List α)(l:List α)(z:α){i:Int}(hp:p.length=i.toNat)(h0:0<=i)(h:i<l.length):List.getD (p++l.drop i.toNat) i.toNat z=List.getD l i.toNat z:=by
 rw[eY,eY,wC (by omega),hp,W0,FV,H0]
theorem gU{α:Type}(f:α->Nat)(l:List α)(z:α){i:Int}(h0:0<=i)(h:i<l.length):f (List.getD l i.toNat z)<=(l.map f).sum:=by
 have h1:l=l.take i.toNat++List.getD l i.toNat z::l.drop (i+1).toNat:=by rw[<-eK l z h0 h,Tr]
 have h2:=congrArg (fun q=>(q.map f).sum) h1
 simp only[Kg,uY,zet,Ki] at h2
 omega
theorem getD_modify{α:Type}(l:List α)(z:α)(f:α->α)(i:Nat)(h:i<l.length):List.getD (l.modify i f) i z=f (List.getD l i z):=by
 rw[eY,eY,W1,fo h];simp
theorem nt{α:Type}(l:List α)(f g:α->α)(i:Nat):(l.modify i f).modify i g=l.modify i (fun x=>g (f x)):=List.modify_modify_eq f g i l
theorem KR{α:Type}(l:List α)(z:α)(f:α->α)(i:Nat):l.modify i f=l.set i (f (List.getD l i z)):=by
 refine Oq fun j=> ?_
 rw[W1,To]
 by_cases hj:i=j
 ·subst hj
  rw[if_pos rfl]
  by_cases hi:i<l.length
  ·rw[if_pos hi,fo hi,eY,fo hi];simp
  ·rw[if_neg hi,nz (by omega)];rfl
 ·rw[if_neg hj];simp[hj]
theorem dE{α:Type}(p:α->Bool)(l:List α)(z:α){i:Int}(h0:0<=i)(h:i<l.length):(l.drop i.toNat).all p=(p (List.getD l i.toNat z)&&(l.drop (i+1).toNat).all p):=by
 rw[eK l z h0 h,Om]
theorem xI{α:Type}(p:α->Bool)(l:List α)(z:α){i:Int}(h0:0<=i)(h:i<l.length):(l.drop i.toNat).any p=(p (List.getD l i.toNat z)||(l.drop (i+1).toNat).any p):=by
 rw[eK l z h0 h,Tk]
def bs(s:ByteArray):List UInt8:=s.data.toList
theorem sb(s:ByteArray):(bs s).length=s.size:=El
theorem FJ(s:ByteArray):Array.toList (ByteArray.data s)=bs s:=rfl
def jY(p:Int->Bool)(b:UInt8):Bool:=p b.toNat
theorem Xg(b:UInt8):IntKind.wrap .i64 (b.toNat:Int)=b.toNat:=wrap_i64 (by omega) (by have:=b.toNat_lt;omega)
theorem mV{y:Bool}(h:y=true):Lf [.one (.lit (.bool true))] [.one (.lit (.bool y))]:=cj h.symm
theorem bw{y:Bool}(h:y=false):Lf [.one (.lit (.bool false))] [.one (.lit (.bool y))]:=cj h.symm
theorem fD{α:Type}(l:List α)(z:α){i:Int}(h0:0<=i)(h:i<l.length):l.take i.toNat++[List.getD l i.toNat z]=l.take (i+1).toNat:=by
 have hn:i.toNat<l.length:=by omega
 have e:(i+1).toNat=i.toNat+1:=by omega
 rw[e,zcz hn,eY,fo hn]
 rfl
theorem dB{α:Type}(l:List α){i:Int}(h:l.length<=i):l.take i.toNat=l:=Tq (by omega)
theorem Di{α:Type}(l:List α)(z:α){i:Int}(h0:0<=i)(h:i<l.length):List.getD l i.toNat z∈l:=by
 have hn:i.toNat<l.length:=by omega
 rw[eY,fo hn]
 exact Ed hn
def wH(l:List Int):Nat:=l.length
def nq(a:aQ):Nat:=a.S.size
def gy(l:List aQ):Nat:=l.length+(l.map nq).sum
def eg(a:aJ):Nat:=a.Kind.size+gy a.aj
def mf(a:bH):Nat:=eg a.F
def cQ(l:List bH):Nat:=l.length+(l.map mf).sum
def mY(a:aG):Nat:=cQ a.ab
def ff(a:cp):Nat:=a.S.size+nq a.V
def tj(l:List cp):Nat:=l.length+(l.map ff).sum
def jW(a:cn):Nat:=a.Kind.size+tj a.ay
def j6(l:List cn):Nat:=l.length+(l.map jW).sum
def OD(a:b9):Nat:=a.Name.size+nq a.V
def yt(l:List b9):Nat:=l.length+(l.map OD).sum
def nF(a:c_):Nat:=ff a.L+ff a.R
def uc(l:List c_):Nat:=l.length+(l.map nF).sum
def iz(a:b7):Nat:=a.Op.size+ff a.L+ff a.R
def kj(l:List b7):Nat:=l.length+(l.map iz).sum
def gO(a:eX):Nat:=a.Name.size+kj a.ay+a.aW.size
def qE(l:List eX):Nat:=l.length+(l.map gO).sum
def dD(a:aV):Nat:=a.Name.size+j6 a.aB+uc a.aY+qE a.bG
def jJ(l:List aV):Nat:=l.length+(l.map dD).sum
def cT(a:bB):Nat:=a.Name.size+jJ a.aw
def lT(a:av):Nat:=wH a.eJ+yt a.cr
def oT(l:List av):Nat:=l.length+(l.map lT).sum
def iY(a:aI):Nat:=eg a.F
def ee(l:List aI):Nat:=l.length+(l.map iY).sum
def nE(a:ak):Nat:=eg a.F+a.aW.size+nq a.V
def gW(l:List ak):Nat:=l.length+(l.map nE).sum
def ed(a:bu):Nat:=a.Key.size+eg a.F
def dt(l:List bu):Nat:=l.length+(l.map ed).sum
def jF(a:ao):Nat:=mY a.S+oT a.aD+gW a.au+ee a.aC+dt a.aL
theorem iW{x:aQ}(h:gB (dA .aM x)):x.S.size<=9223372036854775807:=Bd.str (U:=UU) (h _ (cA _ (cA _ (gj))))
theorem fB{x:aJ}(h:gB (dA .bP x)):x.Kind.size<=9223372036854775807/\x.aj.length<=9223372036854775807:=⟨Bd.str (U:=UU) (h _ (gj)),Bd.len (U:=UU) (h _ (cA _ (gj)))⟩
theorem N0{x:aJ}(h:gB (dP .bP x)):x.Kind.size<=9223372036854775807/\x.aj.length<=9223372036854775807:=⟨Bd.str (U:=UU) (h _ (gj)),Bd.len (U:=UU) (h _ (cA _ (gj)))⟩
theorem l6{x:aG}(h:gB (dA .bV x)):x.ab.length<=9223372036854775807:=Bd.len (U:=UU) (h _ (gj))
theorem pz{x:aG}(h:gB (dX .bV x)):x.ab.length<=9223372036854775807:=Bd.len (U:=UU) (h _ (gj))
theorem sd{x:cp}(h:gB (dA .er x)):x.S.size<=9223372036854775807/\x.V.S.size<=9223372036854775807:=⟨Bd.str (U:=UU) (h _ (cA _ (gj))),Bd.str (U:=UU) (h _ (cA _ (cA _ (cA _ (cA _ (gj))))))⟩
theorem AO{x:cn}(h:gB (dA .cU x)):x.Kind.size<=9223372036854775807/\x.ay.length<=9223372036854775807:=⟨Bd.str (U:=UU) (h _ (gj)),Bd.len (U:=UU) (h _ (cA _ (gj)))⟩
theorem DI{x:c_}(h:gB (dA .bL x)):x.L.S.size<=9223372036854775807/\x.L.V.S.size<=9223372036854775807/\x.R.S.size<=9223372036854775807/\x.R.V.S.size<=9223372036854775807:=⟨Bd.str (U:=UU) (h _ (cA _ (cA _ (gj)))),Bd.str (U:=UU) (h _ (cA _ (cA _ (cA _ (cA _ (cA _ (gj))))))),Bd.str (U:=UU) (h _ (cA _ (cA _ (cA _ (cA _ (cA _ (cA _ (cA _ (gj))))))))),Bd.str (U:=UU) (h _ (cA _ (cA _ (cA _ (cA _ (cA _ (cA _ (cA _ (cA _ (cA _ (cA _ (gj))))))))))))⟩
theorem DG{x:b7}(h:gB (dA .bq x)):x.Op.size<=9223372036854775807/\x.L.S.size<=9223372036854775807/\x.L.V.S.size<=9223372036854775807/\x.R.S.size<=9223372036854775807/\x.R.V.S.size<=9223372036854775807:=⟨Bd.str (U:=UU) (h _ (gj)),Bd.str (U:=UU) (h _ (cA _ (cA _ (gj)))),Bd.str (U:=UU) (h _ (cA _ (cA _ (cA _ (cA _ (cA _ (gj))))))),Bd.str (U:=UU) (h _ (cA _ (cA _ (cA _ (cA _ (cA _ (cA _ (cA _ (gj))))))))),Bd.str (U:=UU) (h _ (cA _ (cA _ (cA _ (cA _ (cA _ (cA _ (cA _ (cA _ (cA _ (cA _ (gj))))))))))))⟩
theorem AP{x:eX}(h:gB (dA .cV x)):x.Name.size<=9223372036854775807/\x.ay.length<=9223372036854775807/\x.aW.size<=9223372036854775807:=⟨Bd.str (U:=UU) (h _ (cA _ (gj))),Bd.len (U:=UU) (h _ (cA _ (cA _ (gj)))),Bd.str (U:=UU) (h _ (cA _ (cA _ (cA _ (cA _ (gj))))))⟩
theorem ke{x:aV}(h:gB (dA .a_ x)):x.Name.size<=9223372036854775807/\x.aB.length<=9223372036854775807/\x.aY.length<=9223372036854775807/\x.bG.length<=9223372036854775807:=⟨Bd.str (U:=UU) (h _ (gj)),Bd.len (U:=UU) (h _ (cA _ (cA _ (gj)))),Bd.len (U:=UU) (h _ (cA _ (cA _ (cA _ (gj))))),Bd.len (U:=UU) (h _ (cA _ (cA _ (cA _ (cA _ (gj))))))⟩
theorem iF{x:bB}(h:gB (dA .dZ x)):x.Name.size<=9223372036854775807/\x.aw.length<=9223372036854775807:=⟨Bd.str (U:=UU) (h _ (gj)),Bd.len (U:=UU) (h _ (cA _ (gj)))⟩
theorem gZ{x:av}(h:gB (dA .az x)):x.eJ.length<=9223372036854775807/\x.cr.length<=9223372036854775807:=⟨Bd.len (U:=UU) (h _ (cA _ (gj))),Bd.len (U:=UU) (h _ (cA _ (cA _ (gj))))⟩
theorem DH{x:cD}(h:gB (dA .dc x)):x.F.Kind.size<=9223372036854775807/\x.F.aj.length<=9223372036854775807/\x.aW.size<=9223372036854775807:=⟨Bd.str (U:=UU) (h _ (cA _ (gj))),Bd.len (U:=UU) (h _ (cA _ (cA _ (gj)))),Bd.str (U:=UU) (h _ (cA _ (cA _ (cA _ (cA _ (cA _ (gj)))))))⟩
theorem zh{x:aI}(h:gB (dA .aH x)):x.F.Kind.size<=9223372036854775807/\x.F.aj.length<=9223372036854775807:=⟨Bd.str (U:=UU) (h _ (cA _ (gj))),Bd.len (U:=UU) (h _ (cA _ (cA _ (gj))))⟩
theorem qX{x:ak}(h:gB (dA .aA x)):x.F.Kind.size<=9223372036854775807/\x.F.aj.length<=9223372036854775807/\x.aW.size<=9223372036854775807/\x.V.S.size<=9223372036854775807:=⟨Bd.str (U:=UU) (h _ (gj)),Bd.len (U:=UU) (h _ (cA _ (gj))),Bd.str (U:=UU) (h _ (cA _ (cA _ (gj)))),Bd.str (U:=UU) (h _ (cA _ (cA _ (cA _ (cA _ (cA _ (cA _ (cA _ (cA _ (gj))))))))))⟩
theorem nQ{x:ao}(h:gB (dA .bD x)):x.S.ab.length<=9223372036854775807/\x.aD.length<=9223372036854775807/\x.au.length<=9223372036854775807/\x.aC.length<=9223372036854775807/\x.aL.length<=9223372036854775807:=⟨Bd.len (U:=UU) (h _ (gj)),Bd.len (U:=UU) (h _ (cA _ (cA _ (gj)))),Bd.len (U:=UU) (h _ (cA _ (cA _ (cA _ (gj))))),Bd.len (U:=UU) (h _ (cA _ (cA _ (cA _ (cA _ (gj)))))),Bd.len (U:=UU) (h _ (cA _ (cA _ (cA _ (cA _ (cA _ (gj)))))))⟩
theorem g_{x:ao}(h:gB (dX .bD x)):x.S.ab.length<=9223372036854775807/\x.aD.length<=9223372036854775807/\x.au.length<=9223372036854775807/\x.aC.length<=9223372036854775807/\x.aL.length<=9223372036854775807:=⟨Bd.len (U:=UU) (h _ (gj)),Bd.len (U:=UU) (h _ (cA _ (cA _ (gj)))),Bd.len (U:=UU) (h _ (cA _ (cA _ (cA _ (gj))))),Bd.len (U:=UU) (h _ (cA _ (cA _ (cA _ (cA _ (gj)))))),Bd.len (U:=UU) (h _ (cA _ (cA _ (cA _ (cA _ (cA _ (gj)))))))⟩
def kN(b:Int):Bool:=decide (97<=b/\b<=122)
def kB(b:Int):Bool:=kN b||decide (48<=b/\b<=57)||decide (b=95)
def pU(s:BA):Bool:=(bs s).all (jY kB)
def bm(s:BA):Bool:=decide (1<=s.size/\s.size<=12)&&kN (List.getD (bs s) 0 0).toNat&&pU s
def bR(v:aQ):Bool:=bif decide (v.K=1) then decide (-1000000000<=v.N/\v.N<=1000000000)&&decide (v.S=ai) else bif decide (v.K=2) then decide (v.N=0)&&decide (v.S.size<=20)&&pU v.S else false
def bI(f:aJ):Bool:=bm f.Kind&&decide (f.aj.length<=5)&&f.aj.all bR
def aaS:bp UU where
 α:=Int×Int×Int
 md:=[.ro,.ro,.ro]
 of:=oC oI (oC oI (o1 oI))
 ds:=fun x=>[dI x.1,dI x.2.1,dI x.2.2]
 pre:=fun _=>[]
 bT:=fun(n,least,aF)=>⟨[dO (decide (least<=n/\n<=aF))],[],[]⟩
 law:=lC lI (lC lI (l1 lI))
def atE:aaS.α->Nat->Option (bY UU):=fun(n,least,aF)=>aN []
def ap1:List (FuncId×bp UU):=[]
theorem ars:Holds EE (23,aaS):=by
 refine holds_of ax func23 aaS (by kernel_rfl) ap1 all_nil atE (fun x hp hb=> ?_)
 obtain⟨n,least,aF⟩:=x
 have Nt:=sL (n:=n) (hb _ m0)
 have PU:=sL (n:=least) (hb _ m1)
 have uo:=sL (n:=aF) (hb _ m2)
 clear hp hb
 apply @ve _ (bif decide (n≥least) then Lb (decide (n<=aF)) (decide (least<=n/\n<=aF)) else Lb false (decide (least<=n/\n<=aF))) (by kernel_rfl)
 refine af (fun h=>cj ?_) (fun h=>cj ?_)<;>grind
def Ec:HH:=⟨_,ars⟩
def aaK:bp UU where
 α:=Int×Int×Int
 md:=[.ro,.ro,.ro]
 of:=oC oI (oC oI (o1 oI))
 ds:=fun x=>[dI x.1,dI x.2.1,dI x.2.2]
 pre:=fun _=>[]
 bT:=fun(x,least,aF)=>⟨[dO (decide (least<=x/\x<=aF))],[],[]⟩
 law:=lC lI (lC lI (l1 lI))
def atv:aaK.α->Nat->Option (bY UU):=fun(x,least,aF)=>aN []
def apS:List (FuncId×bp UU):=[]
theorem ari:Holds EE (32,aaK):=by
 refine holds_of ax func32 aaK (by kernel_rfl) apS all_nil atv (fun x hp hb=> ?_)
 obtain⟨x,least,aF⟩:=x
 have auc:=sL (n:=x) (hb _ m0)
 have PU:=sL (n:=least) (hb _ m1)
 have uo:=sL (n:=aF) (hb _ m2)
 clear hp hb
 apply @ve _ (bif decide (x≥least) then Lb (decide (x<=aF)) (decide (least<=x/\x<=aF)) else Lb false (decide (least<=x/\x<=aF))) (by kernel_rfl)
 refine af (fun h=>cj ?_) (fun h=>cj ?_)<;>grind
def sC:HH:=⟨_,ari⟩
def ZP:bp UU where
 α:=Int
 md:=[.ro]
 of:=o1 oY
 ds:=fun x=>[dY x]
 pre:=fun _=>[]
 bT:=fun b=>⟨[dO (kN b)],[],[]⟩
 law:=l1 lY
def asx:ZP.α->Nat->Option (bY UU):=fun b=>aN []
def aoW:List (FuncId×bp UU):=[]
theorem aqi:Holds EE (94,ZP):=by
 refine holds_of ax func94 ZP (by kernel_rfl) aoW all_nil asx (fun(b:Int) hp hb=> ?_)
 skip
 clear hp hb
 apply @ve _ (bif decide (b≥97) then Lb (decide (b<=122)) (kN b) else Lb false (kN b)) (by kernel_rfl)
 refine af (fun h=>cj ?_) (fun h=>cj ?_)<;>grind [kN]
def ahI:HH:=⟨_,aqi⟩
def Ro:bp UU where
 α:=Int
 md:=[.ro]
 of:=o1 oY
 ds:=fun x=>[dY x]
 pre:=fun _=>[]
 bT:=fun b=>⟨[dO (decide (48<=b/\b<=57))],[],[]⟩
 law:=l1 lY
def ajJ:Ro.α->Nat->Option (bY UU):=fun b=>aN []
def aeF:List (FuncId×bp UU):=[]
theorem agq:Holds EE (180,Ro):=by
 refine holds_of ax func180 Ro (by kernel_rfl) aeF all_nil ajJ (fun(b:Int) hp hb=> ?_)
 skip
 clear hp hb
 apply @ve _ (let q0:=decide (48<=b/\b<=57);bif decide (b≥48) then Lb (decide (b<=57)) q0 else Lb false q0) (by kernel_rfl)
 dsimp only
 refine af (fun h=>cj ?_) (fun h=>cj ?_)<;>grind
def ail:HH:=⟨_,agq⟩
def R0:bp UU where
 α:=Int
 md:=[.ro]
 of:=o1 oY
 ds:=fun x=>[dY x]
 pre:=fun _=>[]
 bT:=fun b=>⟨[dO (kB b)],[],[]⟩
 law:=l1 lY
def ake:R0.α->Nat->Option (bY UU):=fun b=>aN []
def afa:=us [ahI,ail]
theorem agY:Holds EE (146,R0):=by
 refine holds_of ax func146 R0 (by kernel_rfl) afa (aE _) ake (fun(b:Int) hp hb=> ?_)
 skip
 clear hp hb
 apply @ve _ (bif kN b then Lb true (kB b) else bif decide (48<=b/\b<=57) then Lb true (kB b) else Lb (b==95) (kB b)) (by kernel_rfl)
 refine af (fun h=>cj ?_) (fun h=> ?_)
 ·grind [kB]
 refine af (fun h=>cj ?_) (fun h=>cj ?_)<;>grind [kB]
def WH:HH:=⟨_,agY⟩
def Ss:bp UU where
 α:=Int
 md:=[.ro]
 of:=o1 oY
 ds:=fun x=>[dY x]
 pre:=fun c=>[0<=c/\c<=255]
 bT:=fun c=>⟨[dO (kB c)],[],[]⟩
 law:=l1 lY
def akI:Ss.α->Nat->Option (bY UU):=fun c=>aN []
def afE:=us [sC]
theorem ahr:Holds EE (115,Ss):=by
 refine holds_of ax func115 Ss (by kernel_rfl) afE (aE _) akI (fun(c:Int) hp hb=> ?_)
 have bC:0<=c/\c<=255:=hp _ m0
 clear hp hb
 apply @ve _ (bif decide (97<=IntKind.wrap IntKind.i64 c/\IntKind.wrap IntKind.i64 c<=122) then Lb true (kB c) else bif decide (48<=IntKind.wrap IntKind.i64 c/\IntKind.wrap IntKind.i64 c<=57) then Lb true (kB c) else Lb (c==95) (kB c)) (by kernel_rfl)
 rw[wrap_i64 (by omega) (by omega)]
 refine af (fun h=>cj ?_) (fun h=> ?_)
 ·grind [kB,kN]
 refine af (fun h=>cj ?_) (fun h=>cj ?_)<;>grind [kB,kN]
def SU:HH:=⟨_,ahr⟩
def ZO:bp UU where
 α:=BA×Int
 md:=[.ro,.ro]
 of:=oC oS (o1 oI)
 ds:=fun x=>[dS x.1,dI x.2]
 pre:=fun _=>[]
 bT:=fun(s,aF)=>⟨[dO (decide (s.size<=aF)&&pU s)],[],[]⟩
 law:=lC lS (l1 lI)
def Hu(s:BA)(aF:Int):Int×Unit->Prop:=fun(i,_)=>0<=i/\i<=s.size/\s.size<=aF/\((bs s).drop i.toNat).all (jY kB)=pU s
def G7(s:BA)(aF:Int):Int×Unit->Nat:=fun(i,_)=>s.size-i.toNat
def asw:ZO.α->Nat->Option (bY UU):=fun(s,aF)=>aN [(4,bh [.slot 5 (5,1024) (.lit (.int .i64))] (fun _=>Hu s aF) (G7 s aF))]
def aoV:=us [WH]
theorem aqh:Holds EE (95,ZO):=by
 refine holds_of ax func95 ZO (by kernel_rfl) aoV (aE _) asw (fun x hp hb=> ?_)
 obtain⟨s,aF⟩:=x
 have Aj:=Ao (s:=s) (hb _ m0)
 have uo:=sL (n:=aF) (hb _ m1)
 clear hp hb
 apply @ve _ (let q0:=decide ((↑(ByteArray.size s):Int)<=aF)&&pU s;bif decide ((↑(ByteArray.size s):Int)>aF) then Lb false q0 else Hu s aF (0,())/\∀(y:Int×PUnit),let q1:=(IntKind.wrap IntKind.i64 (y.1+1),());Hu s aF y->bif decide (y.1<(↑(ByteArray.size s):Int)) then 0<=y.1/\y.1.toNat<ByteArray.size s/\bif !kB (↑(UInt8.toNat (List.getD s.data.toList y.1.toNat (0:UInt8))):Int) then Lb false q0 else Hu s aF q1/\G7 s aF q1<G7 s aF y else Lb true q0) (by kernel_rfl)
 dsimp only
 refine af (fun h=>bw ?_) (fun h=> ?_)
 ·have h:=yT h;rw[decide_eq_false (by omega)];rfl
 have h0:=yF h
 refine⟨⟨by omega,by omega,by omega,rfl⟩,?_⟩
 rintro⟨i,⟨⟩⟩ ⟨h1,h2,h3,hR⟩
 have hl:=sb s
 simp only[FJ]
 refine af (fun hc=> ?_) (fun hc=> ?_)
 ·have hc:=yT hc
  rw[dE _ _ 0 h1 (by omega)] at hR
  rw[wrap_i64 (by omega) (by omega)]
  refine⟨by omega,by omega,af (fun h=>bw ?_) (fun h=>⟨⟨by omega,by omega,by omega,?_⟩,?_⟩)⟩
  ·rw[<-hR];simp only[jY];simp at h;simp[h]
  ·rw[<-hR];simp only[jY];simp at h;simp[h]
  ·simp only[G7];omega
 ·have hc:=yF hc
  rw[cg _ (by omega)] at hR
  exact mV (by rw[<-hR,decide_eq_true h3];rfl)
def ahH:HH:=⟨_,aqh⟩
def aav:bp UU where
 α:=BA
 md:=[.ro]
 of:=o1 oS
 ds:=fun x=>[dS x]
 pre:=fun _=>[]
 bT:=fun s=>⟨[dO (bm s)],[],[]⟩
 law:=l1 lS
def atg:aav.α->Nat->Option (bY UU):=fun s=>aN []
def apD:=us [ahI,ahH]
theorem aq2:Holds EE (48,aav):=by
 refine holds_of ax func48 aav (by kernel_rfl) apD (aE _) atg (fun(s:BA) hp hb=> ?_)
 have Aj:=Ao (s:=s) (hb _ m0)
 clear hp hb
 apply @ve _ (bif decide ((↑(ByteArray.size s):Int)>0) then(0:Int)<=(0:Int)/\Int.toNat 0<ByteArray.size s/\bif kN (↑(UInt8.toNat (List.getD s.data.toList (Int.toNat 0) (0:UInt8))):Int) then Lb (decide ((↑(ByteArray.size s):Int)<=12)&&pU s) (bm s) else Lb false (bm s) else Lb false (bm s)) (by kernel_rfl)
 have hl:=sb s
 simp only[FJ]
 refine af (fun h=> ?_) (fun h=>bw ?_)
 ·have h:=yT h
  refine⟨by omega,by omega,af (fun h'=>cj ?_) (fun h'=>bw ?_)⟩
  ·have h':kN ((List.getD (bs s) 0 0).toNat:Int)=true:=h'
   simp only[bm,h']
   have e:decide (1<=s.size/\s.size<=12)=decide ((s.size:Int)<=12):=by rw[decide_eq_decide];omega
   rw[e];simp
  ·have h':kN ((List.getD (bs s) 0 0).toNat:Int)=false:=h'
   simp only[bm,h'];grind
 ·have h:=yF h
  simp only[bm];rw[decide_eq_false (by omega)];rfl
def N_:HH:=⟨_,aq2⟩
def aaf:bp UU where
 α:=BA
 md:=[.ro]
 of:=o1 oS
 ds:=fun x=>[dS x]
 pre:=fun _=>[]
 bT:=fun s=>⟨[dO (bm s)],[],[]⟩
 law:=l1 lS
def D5(s:BA):Int×Unit->Prop:=fun(i,_)=>0<=i/\i<=s.size/\((bs s).drop i.toNat).all (jY kB)=pU s/\(0<i->kN (List.getD (bs s) 0 0).toNat=true)
def wj(s:BA):Int×Unit->Nat:=fun(i,_)=>s.size-i.toNat
def as2:aaf.α->Nat->Option (bY UU):=fun s=>aN [(2,bh [.slot 3 (3,1024) (.lit (.int .i64))] (fun _=>D5 s) (wj s))]
def apm:=us [SU,sC]
theorem aqM:Holds EE (64,aaf):=by
 refine holds_of ax func64 aaf (by kernel_rfl) apm (aE _) as2 (fun(s:BA) hp hb=> ?_)
 have Aj:=Ao (s:=s) (hb _ m0)
 clear hp hb
 apply @ve _ (let q0:=(↑(ByteArray.size s):Int);D5 s (0,())/\∀(y:Int×PUnit),let x0:Int:=(↑(UInt8.toNat (List.getD s.data.toList y.1.toNat (0:UInt8))):Int);let q1:=(IntKind.wrap IntKind.i64 (y.1+1),());D5 s y->bif decide (y.1<q0) then 0<=y.1/\y.1.toNat<ByteArray.size s/\(0<=x0/\x0<=255)/\bif !kB x0 then Lb false (bm s) else bif y.1==0 then 0<=y.1/\y.1.toNat<ByteArray.size s/\bif !decide (97<=IntKind.wrap IntKind.i64 x0/\IntKind.wrap IntKind.i64 x0<=122) then Lb false (bm s) else D5 s q1/\wj s q1<wj s y else D5 s q1/\wj s q1<wj s y else Lb (decide (1<=q0/\q0<=12)) (bm s)) (by kernel_rfl)
 dsimp only
 refine⟨⟨by omega,by omega,rfl,by omega⟩,?_⟩
 rintro⟨i,⟨⟩⟩ ⟨h1,h2,hR,hS⟩
 have hl:=sb s
 simp only[FJ,Xg]
 refine af (fun hc=> ?_) (fun hc=> ?_)
 ·have hc:=yT hc
  have hb:=(List.getD (bs s) i.toNat 0).toNat_lt
  rw[dE _ _ 0 h1 (by omega)] at hR
  rw[wrap_i64 (by omega) (by omega)]
  have hN:pU s=false->bm s=false:=fun h=>by simp[bm,h]
  refine⟨by omega,by omega,⟨by omega,by omega⟩,af (fun h=>bw (hN ?_)) (fun h=>af (fun h'=>⟨by omega,by omega,af (fun n9=>bw ?_) (fun n9=>⟨⟨by omega,by omega,?_,fun _=> ?_⟩,?_⟩)⟩) (fun h'=>⟨⟨by omega,by omega,?_,fun _=>hS ?_⟩,?_⟩))⟩
  ·rw[<-hR];simp only[jY];simp at h;simp[h]
  ·have h':i=0:=by simpa using h'
   subst h'
   have n9:kN ((List.getD (bs s) 0 0).toNat:Int)=false:=by simp only[kN];grind
   simp only[bm,n9];grind
  ·rw[<-hR];simp only[jY];simp at h;simp[h]
  ·have h':i=0:=by simpa using h'
   subst h'
   simpa[kN] using n9
  ·simp only[wj];omega
  ·rw[<-hR];simp only[jY];simp at h;simp[h]
  ·have h':¬i=0:=by simpa using h'
   omega
  ·simp only[wj];omega
 ·have hc:=yF hc
  rw[cg _ (by omega)] at hR
  refine cj ?_
  simp only[bm,<-hR]
  by_cases hz:0<i
  ·rw[hS hz];simp only[Oj];grind
  ·rw[decide_eq_false (by omega),decide_eq_false (by omega)];rfl
def J4:HH:=⟨_,aqM⟩
def RL:bp UU where
 α:=BA
 md:=[.ro]
 of:=o1 oS
 ds:=fun x=>[dS x]
 pre:=fun _=>[]
 bT:=fun s=>⟨[dO (decide (s.size<=20)&&pU s)],[],[]⟩
 law:=l1 lS
def BI(s:BA):Int×Unit->Prop:=fun(i,_)=>0<=i/\i<=s.size/\((bs s).drop i.toNat).all (jY kB)=pU s
def A6(s:BA):Int×Unit->Nat:=fun(i,_)=>s.size-i.toNat
def aj3:RL.α->Nat->Option (bY UU):=fun s=>aN [(2,bh [.slot 3 (3,1024) (.lit (.int .i64))] (fun _=>BI s) (A6 s))]
def aeZ:=us [SU]
theorem agK:Holds EE (160,RL):=by
 refine holds_of ax func160 RL (by kernel_rfl) aeZ (aE _) aj3 (fun(s:BA) hp hb=> ?_)
 have Aj:=Ao (s:=s) (hb _ m0)
 clear hp hb
 apply @ve _ (let q0:=decide (ByteArray.size s<=20)&&pU s;BI s (0,())/\∀(y:Int×PUnit),let x0:Int:=(↑(UInt8.toNat (List.getD s.data.toList y.1.toNat (0:UInt8))):Int);let q1:=(IntKind.wrap IntKind.i64 (y.1+1),());BI s y->bif decide (y.1<(↑(ByteArray.size s):Int)) then 0<=y.1/\y.1.toNat<ByteArray.size s/\(0<=x0/\x0<=255)/\bif !kB x0 then Lb false q0 else BI s q1/\A6 s q1<A6 s y else Lb (decide ((↑(ByteArray.size s):Int)<=20)) q0) (by kernel_rfl)
 dsimp only
 refine⟨⟨by omega,by omega,rfl⟩,?_⟩
 rintro⟨i,⟨⟩⟩ ⟨h1,h2,hR⟩
 have hl:=sb s
 simp only[FJ]
 refine af (fun hc=> ?_) (fun hc=> ?_)
 ·have hc:=yT hc
  have hb:=(List.getD (bs s) i.toNat 0).toNat_lt
  rw[dE _ _ 0 h1 (by omega)] at hR
  rw[wrap_i64 (by omega) (by omega)]
  refine⟨by omega,by omega,⟨by omega,by omega⟩,af (fun h=>bw ?_) (fun h=>⟨⟨by omega,by omega,?_⟩,?_⟩)⟩
  ·rw[<-hR];simp only[jY];simp at h;simp[h]
  ·rw[<-hR];simp only[jY];simp at h;simp[h]
  ·simp only[A6];omega
 ·have hc:=yF hc
  rw[cg _ (by omega)] at hR
  refine cj ?_
  rw[<-hR];simp;omega
def aiw:HH:=⟨_,agK⟩
def SB:bp UU where
 α:=aQ
 md:=[.ro]
 of:=o1 (oA .aM)
 ds:=fun x=>[dA .aM x]
 pre:=fun _=>[]
 bT:=fun v=>⟨[dO (bR v)],[],[]⟩
 law:=l1 (lA .aM)
def akT:SB.α->Nat->Option (bY UU):=fun v=>aN []
def afP:=us [Ec,ahH]
theorem ahC:Holds EE (104,SB):=by
 refine holds_of ax func104 SB (by kernel_rfl) afP (aE _) akT (fun(v:aQ) hp hb=> ?_)
 have vV:=iW (x:=v) (hb _ m0)
 clear hp hb
 apply @ve _ (bif v.K==1 then bif decide ((-1000000000)<=v.N/\v.N<=1000000000) then Lb (ByteArray.toList v.S==ByteArray.toList {data:= #[]:BA}) (bR v) else Lb false (bR v) else bif v.K==2 then bif v.N==0 then Lb (decide ((↑(ByteArray.size v.S):Int)<=20)&&pU v.S) (bR v) else Lb false (bR v) else Lb false (bR v)) (by kernel_rfl)
 have e:(ByteArray.toList (aQ.S v)==ByteArray.toList {data:= #[]})=decide (v.S=ai):=bx _ _
 simp only[e,bR]
 repeat' (refine af (fun h=> ?_) (fun h=> ?_))
 all_goals (refine cj ?_;grind)
def SW:HH:=⟨_,ahC⟩
def Sp:bp UU where
 α:=aQ
 md:=[.ro]
 of:=o1 (oA .aM)
 ds:=fun x=>[dA .aM x]
 pre:=fun _=>[]
 bT:=fun v=>⟨[dO (bR v)],[],[]⟩
 law:=l1 (lA .aM)
def akF:Sp.α->Nat->Option (bY UU):=fun v=>aN []
def afB:=us [sC,aiw]
theorem aho:Holds EE (118,Sp):=by
 refine holds_of ax func118 Sp (by kernel_rfl) afB (aE _) akF (fun(v:aQ) hp hb=> ?_)
 have vV:=iW (x:=v) (hb _ m0)
 clear hp hb
 apply @ve _ (bif v.K==1 then bif decide ((-1000000000)<=v.N/\v.N<=1000000000) then Lb (ByteArray.toList v.S==ByteArray.toList {data:= #[]:BA}) (bR v) else Lb false (bR v) else bif v.K==2 then bif decide (ByteArray.size v.S<=20)&&pU v.S then Lb (v.N==0) (bR v) else Lb false (bR v) else Lb false (bR v)) (by kernel_rfl)
 have e:(ByteArray.toList (aQ.S v)==ByteArray.toList {data:= #[]})=decide (v.S=ai):=bx _ _
 simp only[e,bR]
 repeat' (refine af (fun h=> ?_) (fun h=> ?_))
 all_goals (refine cj ?_;grind)
def My:HH:=⟨_,aho⟩
def Sr:bp UU where
 α:=(List aQ)
 md:=[.ro]
 of:=o1 (oL .aM)
 ds:=fun x=>[dL .aM x]
 pre:=fun _=>[]
 bT:=fun l=>⟨[dO (decide (l.length<=5)&&l.all bR)],[],[]⟩
 law:=l1 (lL .aM)
def BY(l:(List aQ)):Int×Unit->Prop:=fun(i,_)=>0<=i/\i<=l.length/\(l.drop i.toNat).all bR=l.all bR
def Bk(l:(List aQ)):Int×Unit->Nat:=fun(i,_)=>l.length-i.toNat
def akH:Sr.α->Nat->Option (bY UU):=fun l=>aN [(2,bh [.slot 3 (3,1024) (.lit (.int .i64))] (fun _=>BY l) (Bk l))]
def afD:=us [My]
theorem ahq:Holds EE (116,Sr):=by
 refine holds_of ax func116 Sr (by kernel_rfl) afD (aE _) akH (fun(l:(List aQ)) hp hb=> ?_)
 have gP:l.length<=9223372036854775807:=jO (hb _ m0)
 clear hp hb
 apply @ve _ (let x0:Int:=(l.length:Int);let q0:=decide (l.length<=5)&&List.all l bR;BY l (0,())/\∀(y:Int×PUnit),let q1:=(IntKind.wrap IntKind.i64 (y.1+1),());BY l y->bif decide (y.1<x0) then 0<=y.1/\y.1.toNat<l.length/\bif !bR (List.getD l y.1.toNat dx) then Lb false q0 else BY l q1/\Bk l q1<Bk l y else Lb (decide (x0<=5)) q0) (by kernel_rfl)
 dsimp only
 refine⟨⟨by omega,by omega,rfl⟩,?_⟩
 rintro⟨i,⟨⟩⟩ ⟨h1,h2,hR⟩
 simp only
 refine af (fun hc=> ?_) (fun hc=> ?_)
 ·have hc:=yT hc
  rw[dE _ _ dx h1 (by omega)] at hR
  rw[wrap_i64 (by omega) (by omega)]
  refine⟨by omega,by omega,af (fun h=>bw ?_) (fun h=>⟨⟨by omega,by omega,?_⟩,?_⟩)⟩
  ·rw[<-hR];simp at h;simp[h]
  ·rw[<-hR];simp at h;simp[h]
  ·simp only[Bk];omega
 ·have hc:=yF hc
  rw[cg _ (by omega)] at hR
  refine cj ?_
  rw[<-hR];simp;omega
def ai1:HH:=⟨_,ahq⟩
def aae:bp UU where
 α:=aJ
 md:=[.ro]
 of:=o1 (oA .bP)
 ds:=fun x=>[dA .bP x]
 pre:=fun _=>[]
 bT:=fun f=>⟨[dO (bI f)],[],[]⟩
 law:=l1 (lA .bP)
def as1:aae.α->Nat->Option (bY UU):=fun f=>aN []
def apl:=us [J4,ai1]
theorem aqL:Holds EE (65,aae):=by
 refine holds_of ax func65 aae (by kernel_rfl) apl (aE _) as1 (fun(f:aJ) hp hb=> ?_)
 have bi:=fB (x:=f) (hb _ m0)
 have gb:=bi.1
 have eh:=bi.2
 clear hp hb
 apply @ve _ (bif bm f.Kind then Lb (decide (f.aj.length<=5)&&List.all f.aj bR) (bI f) else Lb false (bI f)) (by kernel_rfl)
 simp only[bI]
 refine af (fun h=>cj ?_) (fun h=>cj ?_)<;>grind
def Lu:HH:=⟨_,aqL⟩
def aas:bp UU where
 α:=aJ
 md:=[.ro]
 of:=o1 (oA .bP)
 ds:=fun x=>[dA .bP x]
 pre:=fun _=>[]
 bT:=fun f=>⟨[dO (bI f)],[],[]⟩
 law:=l1 (lA .bP)
def HC(f:aJ):Int×Unit->Prop:=fun(i,_)=>0<=i/\i<=f.aj.length/\f.aj.length<=5/\bm f.Kind=true/\(f.aj.drop i.toNat).all bR=f.aj.all bR
def He(f:aJ):Int×Unit->Nat:=fun(i,_)=>f.aj.length-i.toNat
def atd:aas.α->Nat->Option (bY UU):=fun f=>aN [(4,bh [.slot 18 (18,1024) (.lit (.int .i64))] (fun _=>HC f) (He f))]
def apA:=us [N_,SW]
theorem aqZ:Holds EE (51,aas):=by
 refine holds_of ax func51 aas (by kernel_rfl) apA (aE _) atd (fun(f:aJ) hp hb=> ?_)
 have bi:=fB (x:=f) (hb _ m0)
 have gb:=bi.1
 have eh:=bi.2
 clear hp hb
 apply @ve _ (let x0:Int:=(f.aj.length:Int);bif !bm f.Kind then Lb false (bI f) else bif decide (x0>5) then Lb false (bI f) else HC f (0,())/\∀(y:Int×PUnit),let q0:=(IntKind.wrap IntKind.i64 (y.1+1),());HC f y->bif decide (y.1<x0) then 0<=y.1/\y.1.toNat<f.aj.length/\bif !bR (List.getD f.aj y.1.toNat dx) then Lb false (bI f) else HC f q0/\He f q0<He f y else Lb true (bI f)) (by kernel_rfl)
 dsimp only
 refine af (fun h=>cj ?_) (fun h=>af (fun h'=>cj ?_) (fun h'=>⟨⟨by omega,by omega,by simp at h';omega,by simpa using h,rfl⟩,?_⟩))
 ·simp only[bI];grind
 ·simp only[bI];grind
 rintro⟨i,⟨⟩⟩ ⟨h1,h2,h3,h4,hR⟩
 simp only
 refine af (fun hc=> ?_) (fun hc=> ?_)
 ·have hc:=yT hc
  rw[dE _ _ dx h1 (by omega)] at hR
  rw[wrap_i64 (by omega) (by omega)]
  refine⟨by omega,by omega,af (fun h=>bw ?_) (fun h=>⟨⟨by omega,by omega,by omega,h4,?_⟩,?_⟩)⟩
  ·simp only[bI];rw[<-hR];simp at h;simp[h]
  ·rw[<-hR];simp at h;simp[h]
  ·simp only[He];omega
 ·have hc:=yF hc
  rw[cg _ (by omega)] at hR
  refine cj ?_
  simp only[bI,<-hR,h4];simp;omega
def Vy:HH:=⟨_,aqZ⟩
def allI(n:Nat)(p:Nat->Bool):Bool:=(List.range n).all p
theorem iu{n:Nat}{p:Nat->Bool}(h:∀j,j<n->p j=true):allI n p=true:=by simpa[allI] using h
theorem gK{n:Nat}{p:Nat->Bool}{j:Nat}(h:j<n)(hj:p j=false):allI n p=false:=by
 simp only[allI,List.all_eq_false,oN]
 exact⟨j,h,by simp[hj]⟩
theorem fW{i:Int}{p:Nat->Bool}(h0:0<=i)(h:∀j:Nat,(j:Int)<i->p j=true)(hi:p i.toNat=true):∀j:Nat,(j:Int)<i+1->p j=true:=by
 intro j hj
 by_cases Wc:(j:Int)<i
 ·exact h j Wc
 ·have:j=i.toNat:=by omega
  subst this;exact hi
def iy(x:aI):Bool:=decide (0<=x.At/\x.At<=1000000000)&&bI x.F
def jw(l:List aI)(i:Nat):Bool:=iy (List.getD l i dH)&&(decide (i=0)||decide ((List.getD l (i-1) dH).At<=(List.getD l i dH).At))
def cY(l:List aI):Bool:=decide (l.length<=30)&&allI l.length (jw l)
def aaY:bp UU where
 α:=Int
 md:=[.ro]
 of:=o1 oI
 ds:=fun x=>[dI x]
 pre:=fun _=>[]
 bT:=fun n=>⟨[dO (decide (0<=n/\n<=1000000000))],[],[]⟩
 law:=l1 lI
def atK:aaY.α->Nat->Option (bY UU):=fun n=>aN []
def ap7:=us [Ec]
theorem ary:Holds EE (17,aaY):=by
 refine holds_of ax func17 aaY (by kernel_rfl) ap7 (aE _) atK (fun(n:Int) hp hb=> ?_)
 have Nt:=sL (n:=n) (hb _ m0)
 clear hp hb
 apply @ve _ (let q0:=decide (0<=n/\n<=1000000000);Lb q0 q0) (by kernel_rfl)
 dsimp only
 exact bN _
def aa9:HH:=⟨_,ary⟩
def aao:bp UU where
 α:=aI
 md:=[.ro]
 of:=o1 (oA .aH)
 ds:=fun x=>[dA .aH x]
 pre:=fun _=>[]
 bT:=fun x=>⟨[dO (iy x)],[],[]⟩
 law:=l1 (lA .aH)
def as_:aao.α->Nat->Option (bY UU):=fun x=>aN []
def apw:=us [aa9,Vy]
theorem aqV:Holds EE (55,aao):=by
 refine holds_of ax func55 aao (by kernel_rfl) apw (aE _) as_ (fun(x:aI) hp hb=> ?_)
 have bi:=zh (x:=x) (hb _ m0)
 have tD:=bi.1
 have qt:=bi.2
 clear hp hb
 apply @ve _ (bif decide (0<=x.At/\x.At<=1000000000) then Lb (bI x.F) (iy x) else Lb false (iy x)) (by kernel_rfl)
 simp only[iy]
 refine af (fun h=>cj ?_) (fun h=>cj ?_)<;>grind
def ar2:HH:=⟨_,aqV⟩
def aaa:bp UU where
 α:=aI
 md:=[.ro]
 of:=o1 (oA .aH)
 ds:=fun x=>[dA .aH x]
 pre:=fun _=>[]
 bT:=fun x=>⟨[dO (iy x)],[],[]⟩
 law:=l1 (lA .aH)
def asX:aaa.α->Nat->Option (bY UU):=fun x=>aN []
def aph:=us [sC,Lu]
theorem aqH:Holds EE (69,aaa):=by
 refine holds_of ax func69 aaa (by kernel_rfl) aph (aE _) asX (fun(x:aI) hp hb=> ?_)
 have bi:=zh (x:=x) (hb _ m0)
 have tD:=bi.1
 have qt:=bi.2
 clear hp hb
 apply @ve _ (bif decide (0<=x.At/\x.At<=1000000000) then Lb (bI x.F) (iy x) else Lb false (iy x)) (by kernel_rfl)
 simp only[iy]
 refine af (fun h=>cj ?_) (fun h=>cj ?_)<;>grind
def ahP:HH:=⟨_,aqH⟩
def aaU:bp UU where
 α:=(List aI)
 md:=[.ro]
 of:=o1 (oL .aH)
 ds:=fun x=>[dL .aH x]
 pre:=fun _=>[]
 bT:=fun l=>⟨[dO (cY l)],[],[]⟩
 law:=l1 (lL .aH)
def D9(l:(List aI)):Int×Unit->Prop:=fun(i,_)=>0<=i/\i<=l.length/\l.length<=30/\∀j:Nat,(j:Int)<i->jw l j=true
def zr(l:(List aI)):Int×Unit->Nat:=fun(i,_)=>l.length-i.toNat
def atG:aaU.α->Nat->Option (bY UU):=fun l=>aN [(4,bh [.slot 10 (10,1024) (.lit (.int .i64))] (fun _=>D9 l) (zr l))]
def ap3:=us [ar2]
theorem aru:Holds EE (21,aaU):=by
 refine holds_of ax func21 aaU (by kernel_rfl) ap3 (aE _) atG (fun(l:(List aI)) hp hb=> ?_)
 have gP:l.length<=9223372036854775807:=jO (hb _ m0)
 clear hp hb
 apply @ve _ (let x0:Int:=(l.length:Int);let q0:=Lb false (cY l);bif decide (x0>30) then q0 else D9 l (0,())/\∀(y:Int×PUnit),let x2:Nat:=Int.toNat (IntKind.wrap IntKind.i64 (y.1-1));let x1:Int:=(List.getD l x2 dH).At;let q1:=(IntKind.wrap IntKind.i64 (y.1+1),());D9 l y->bif decide (y.1<x0) then 0<=y.1/\y.1.toNat<l.length/\bif !iy (List.getD l y.1.toNat dH) then q0 else bif decide (y.1>0) then 0<=IntKind.wrap IntKind.i64 (y.1-1)/\x2<l.length/\bif decide (x1>(List.getD l y.1.toNat dH).At) then q0 else D9 l q1/\zr l q1<zr l y else D9 l q1/\zr l q1<zr l y else Lb true (cY l)) (by kernel_rfl)
 dsimp only
 refine af (fun h=>bw ?_) (fun h=>⟨⟨by omega,by omega,by have h:=yF h;omega,by intro j hj;omega⟩,?_⟩)
 ·have h:=yT h;simp only[cY];rw[decide_eq_false (by omega)];rfl
 rintro⟨i,⟨⟩⟩ ⟨h1,h2,h3,hR⟩
 simp only
 refine af (fun hc=> ?_) (fun hc=> ?_)
 ·have hc:=yT hc
  have hN:jw l i.toNat=false->cY l=false:=fun h=>by
   have hf:allI l.length (jw l)=false:=gK (j:=i.toNat) (by omega) h
   simp only[cY,hf];simp
  simp(disch:=omega) only[wrap_i64]
  have e1:(i-1).toNat=i.toNat-1:=by omega
  simp only[e1]
  refine⟨by omega,by omega,af (fun h=>bw (hN ?_)) (fun h=>af (fun h'=>⟨by have:=yT h';omega,by have:=yT h';omega,af (fun n9=>bw (hN ?_)) (fun n9=>⟨⟨by omega,by omega,h3,fW h1 hR ?_⟩,?_⟩)⟩) (fun h'=>⟨⟨by omega,by omega,h3,fW h1 hR ?_⟩,?_⟩))⟩
  all_goals (first|(simp only[zr];omega)|(simp only[jw];grind))
 ·have hc:=yF hc
  have hA:allI l.length (jw l)=true:=iu fun j hj=>hR j (by omega)
  refine cj ?_
  simp only[cY,hA];grind
def asm:HH:=⟨_,aru⟩
def aaM:bp UU where
 α:=(List aI)
 md:=[.ro]
 of:=o1 (oL .aH)
 ds:=fun x=>[dL .aH x]
 pre:=fun _=>[]
 bT:=fun l=>⟨[dO (cY l)],[],[]⟩
 law:=l1 (lL .aH)
def D7(l:(List aI)):Int×Unit->Prop:=fun(i,_)=>0<=i/\i<=l.length/\∀j:Nat,(j:Int)<i->jw l j=true
def zn(l:(List aI)):Int×Unit->Nat:=fun(i,_)=>l.length-i.toNat
def atx:aaM.α->Nat->Option (bY UU):=fun l=>aN [(2,bh [.slot 3 (3,1024) (.lit (.int .i64))] (fun _=>D7 l) (zn l))]
def apU:=us [ahP]
theorem ark:Holds EE (30,aaM):=by
 refine holds_of ax func30 aaM (by kernel_rfl) apU (aE _) atx (fun(l:(List aI)) hp hb=> ?_)
 have gP:l.length<=9223372036854775807:=jO (hb _ m0)
 clear hp hb
 apply @ve _ (let x0:Int:=(l.length:Int);D7 l (0,())/\∀(y:Int×PUnit),let x2:Nat:=Int.toNat (IntKind.wrap IntKind.i64 (y.1-1));let x1:Int:=(List.getD l x2 dH).At;let q0:=(IntKind.wrap IntKind.i64 (y.1+1),());D7 l y->bif decide (y.1<x0) then 0<=y.1/\y.1.toNat<l.length/\bif !iy (List.getD l y.1.toNat dH) then Lb false (cY l) else bif decide (y.1>0) then 0<=IntKind.wrap IntKind.i64 (y.1-1)/\x2<l.length/\0<=y.1/\y.1.toNat<l.length/\bif decide (x1>(List.getD l y.1.toNat dH).At) then Lb false (cY l) else D7 l q0/\zn l q0<zn l y else D7 l q0/\zn l q0<zn l y else Lb (decide (x0<=30)) (cY l)) (by kernel_rfl)
 dsimp only
 refine⟨⟨by omega,by omega,by intro j hj;omega⟩,?_⟩
 rintro⟨i,⟨⟩⟩ ⟨h1,h2,hR⟩
 simp only
 refine af (fun hc=> ?_) (fun hc=> ?_)
 ·have hc:=yT hc
  have hN:jw l i.toNat=false->cY l=false:=fun h=>by
   have hf:allI l.length (jw l)=false:=gK (j:=i.toNat) (by omega) h
   simp only[cY,hf];simp
  simp(disch:=omega) only[wrap_i64]
  have e1:(i-1).toNat=i.toNat-1:=by omega
  simp only[e1]
  refine⟨by omega,by omega,af (fun h=>bw (hN ?_)) (fun h=>af (fun h'=>⟨by have:=yT h';omega,by have:=yT h';omega,by omega,by omega,af (fun n9=>bw (hN ?_)) (fun n9=>⟨⟨by omega,by omega,fW h1 hR ?_⟩,?_⟩)⟩) (fun h'=>⟨⟨by omega,by omega,fW h1 hR ?_⟩,?_⟩))⟩
  all_goals (first|(simp only[zn];omega)|(simp only[jw];grind))
 ·have hc:=yF hc
  have hA:allI l.length (jw l)=true:=iu fun j hj=>hR j (by omega)
  refine cj ?_
  simp only[cY,hA];grind
def ahU:HH:=⟨_,ark⟩
def kT(n:Nat)(p:Nat->Bool):Int:=match(List.range n).find? p with|some i=>i|none=> -1
def anyI(n:Nat)(p:Nat->Bool):Bool:=(List.range n).any p
theorem gH{n i:Nat}{p:Nat->Bool}(h:i<n)(hp:p i=true)(hj:∀j,j<i->p j=false):kT n p=i:=by
 have:(List.range n).find? p=some i:=by
  rw[List.find?_range_eq_some]
  exact⟨hp,oN.2 h,fun j s8=>by simp[hj j s8]⟩
 simp[kT,this]
theorem jM{n:Nat}{p:Nat->Bool}(hj:∀j,j<n->p j=false):kT n p= -1:=by
 have:(List.range n).find? p=none:=by
  rw[zeb]
  intro j s8
  simp[hj j (oN.1 s8)]
 simp[kT,this]
theorem jA(n:Nat)(p:Nat->Bool):(kT n p= -1/\∀j,j<n->p j=false)\/∃i,i<n/\kT n p=(i:Int)/\p i=true/\∀j,j<i->p j=false:=by
 cases h:(List.range n).find? p with
 |none=>
  refine .inl ⟨by simp[kT,h],fun j hj=> ?_⟩
  have:=zeb.1 h j (oN.2 hj)
  simpa using this
 |some i=>
  rw[List.find?_range_eq_some] at h
  obtain⟨h1,h2,h3⟩:=h
  exact .inr ⟨i,oN.1 h2,gH (oN.1 h2) h1 (fun j hj=>by simpa using h3 j hj),h1,fun j hj=>by simpa using h3 j hj⟩
theorem vQ{n:Nat}{p q:Nat->Bool}(h:∀j,j<n->p j=q j):kT n p=kT n q:=by
 rcases jA n q with⟨h1,h2⟩|⟨i,h1,h2,h3,h4⟩
 ·rw[h1,jM (fun j hj=>by rw[h j hj,h2 j hj])]
 ·rw[h2,gH h1 (by rw[h i h1,h3]) (fun j hj=>by rw[h j (by omega),h4 j hj])]
theorem ir{n j:Nat}{p:Nat->Bool}(h:j<n)(hp:p j=true):anyI n p=true:=by
 simp only[anyI,tZ,oN]
 exact⟨j,h,hp⟩
theorem gg{n:Nat}{p:Nat->Bool}(h:∀j,j<n->p j=false):anyI n p=false:=by
 simp only[anyI,List.any_eq_false,oN]
 exact fun j hj=>by simp[h j hj]
theorem xJ{n:Nat}{p:Nat->Bool}:anyI n p=true↔∃j,j<n/\p j=true:=by
 simp only[anyI,tZ,oN]
theorem nR{n:Nat}{p:Nat->Bool}:anyI n p=false↔∀j,j<n->p j=false:=by
 simp only[anyI,List.any_eq_false,oN,yi]
theorem xL{n:Nat}{p:Nat->Bool}:allI n p=true↔∀j,j<n->p j=true:=by
 simp only[allI,rh,oN]
theorem ng{n:Nat}{p q:Nat->Bool}(h:∀j,j<n->p j=q j):anyI n p=anyI n q:=by
 rw[H2,xJ,xJ]
 exact⟨fun⟨j,h1,h2⟩=>⟨j,h1,by rw[<-h j h1];exact h2⟩,fun⟨j,h1,h2⟩=>⟨j,h1,by rw[h j h1];exact h2⟩⟩
theorem Gy{n:Nat}{p:Nat->Bool}:decide (0<=kT n p)=anyI n p:=by
 rcases jA n p with⟨h1,h2⟩|⟨i,h1,h2,h3,h4⟩
 ·rw[h1,gg h2];rfl
 ·rw[h2,ir h1 h3];simp
theorem yZ{α:Type}(l:List α)(z:α){i j:Nat}(h:j<i):List.getD (l.take i) j z=List.getD l j z:=by
 rw[eY,eY,oJ,if_pos h]
theorem xA{k:bp UU}{pq:List (DV UU)}{ds:List (DA UU)}{x:k.α}{v:Value}(h:k.of (ds.map DA.dv++pq)=some x)(hv:(k.bT x).val=[.one (.lit v)])(hm:(k.bT x).IV=[])
  (hl:k.md.length=ds.length+pq.length) (hp:∀p∈k.pre x,p):ic k pq ds=some v:=by
 unfold ic
 simp only[h,hv,hm]
 rw[if_pos ⟨hl,hp⟩]
theorem oy(a b:aQ):(a.K==b.K&&(a.N==b.N&&(ByteArray.toList a.S==ByteArray.toList b.S&&true)))=decide (a=b):=by
 obtain⟨K,N,S⟩:=a
 obtain⟨K',N',S'⟩:=b
 simp only[bx,EL]
 rw[H2]
 simp only[cK,beq_iff_eq,decide_eq_true_eq,aQ.mk.injEq]
theorem ju{i:Int}{p:Nat->Bool}(h0:0<=i)(h:∀j:Nat,(j:Int)<i->p j=false)(hi:p i.toNat=false):∀j:Nat,(j:Int)<i+1->p j=false:=by
 intro j hj
 by_cases Wc:(j:Int)<i
 ·exact h j Wc
 ·have:j=i.toNat:=by omega
  subst this;exact hi
def gJ(x:bu):DA UU:=⟨true,[.lit (.string x.Key),.lit (.string x.F.Kind),.sl .aM x.F.aj]⟩
def jv(l:List bu)(i:Nat):Bool:=decide (1<=(List.getD l i ck).Key.size/\(List.getD l i ck).Key.size<=200)&&bI (List.getD l i ck).F&& !(anyI i fun k=>decide ((List.getD l k ck).Key=(List.getD l i ck).Key))
def db(l:List bu):Bool:=decide (l.length<=30)&&allI l.length (jv l)
def tG(l:List bu)(key:BA):Bool:=anyI l.length fun k=>decide ((List.getD l k ck).Key=key)
def RT:bp UU where
 α:=(List bu)×(List (DA UU)->Option Value)
 md:=[.ro,.ro]
 of:=oC (oL .aT) (o1 oF)
 ds:=fun x=>[dL .aT x.1,dF x.2]
 pre:=fun(l,p)=>[∀j:Nat,j<l.length->p [gJ (List.getD l j ck)]=some (.bool (cy (p [gJ (List.getD l j ck)])))]
 bT:=fun(l,p)=>⟨[dI (kT l.length (fun j=>cy (p [gJ (List.getD l j ck)])))],[],[]⟩
 law:=lC (lL .aT) (l1 lF)
def BM(l:(List bu))(p:(List (DA UU)->Option Value)):Int×Unit->Prop:=fun(i,_)=>0<=i/\i<=l.length/\∀j:Nat,(j:Int)<i->cy (p [gJ (List.getD l j ck)])=false
def A9(l:(List bu))(p:(List (DA UU)->Option Value)):Int×Unit->Nat:=fun(i,_)=>l.length-i.toNat
def aj':RT.α->Nat->Option (bY UU):=fun(l,p)=>aN [(2,bh [.slot 8 (8,1024) (.lit (.int .i64))] (fun _=>BM l p) (A9 l p))]
def ae6:List (FuncId×bp UU):=[]
theorem agS:Holds EE (152,RT):=by
 refine holds_of ax func152 RT (by kernel_rfl) ae6 all_nil aj' (fun x hp hb=> ?_)
 obtain⟨l,p⟩:=x
 have gP:l.length<=9223372036854775807:=jO (hb _ m0)
 have bC:∀j:Nat,j<l.length->p [gJ (List.getD l j ck)]=some (.bool (cy (p [gJ (List.getD l j ck)]))):=hp _ m0
 clear hp hb
 apply @ve _ (BM l p (0,())/\∀(y:Int×PUnit),let x0:Bool:=cy (p [{agg:=true,cs:=[CS ((List.getD l y.1.toNat ck).Key),CS ((List.getD l y.1.toNat ck).F.Kind),CL .aM (List.getD l y.1.toNat ck).F.aj]:DA UU}]);let q0:=List.getD l y.1.toNat ck;let q1:=(IntKind.wrap IntKind.i64 (y.1+1),());BM l p y->bif decide (y.1<(l.length:Int)) then 0<=y.1/\y.1.toNat<l.length/\p [{agg:=true,cs:=[CS (q0.Key),CS (q0.F.Kind),CL .aM q0.F.aj]:DA UU}]=some (Value.bool x0)/\bif x0 then Li y.1 (kT (l.length) fun(j:Nat)=>cy (p [gJ (List.getD l j ck)])) else BM l p q1/\A9 l p q1<A9 l p y else Li (-1) (kT (l.length) fun(j:Nat)=>cy (p [gJ (List.getD l j ck)]))) (by kernel_rfl)
 dsimp only
 refine⟨⟨by omega,by omega,by intro j hj;omega⟩,?_⟩
 rintro⟨i,⟨⟩⟩ ⟨h1,h2,hR⟩
 simp only[gJ] at*
 refine af (fun hc=> ?_) (fun hc=> ?_)
 ·have hc:=yT hc
  rw[wrap_i64 (by omega) (by omega)]
  refine⟨by omega,by omega,bC i.toNat (by omega),af (fun h=>oe ?_) (fun h=>⟨⟨by omega,by omega,ju (p:=fun j=>cy (p [gJ (List.getD l j ck)])) h1 hR h⟩,by simp only[A9];omega⟩)⟩
  rw[gH (i:=i.toNat) (by omega) h (fun j hj=>hR j (by omega))]
  omega
 ·have hc:=yF hc
  exact oe (jM (fun j hj=>hR j (by omega))).symm
def aiC:HH:=⟨_,agS⟩
def Sy:bp UU where
 α:=(List bu)×(List (DA UU)->Option Value)
 md:=[.ro,.ro]
 of:=oC (oL .aT) (o1 oF)
 ds:=fun x=>[dL .aT x.1,dF x.2]
 pre:=fun(l,p)=>[∀j:Nat,j<l.length->p [gJ (List.getD l j ck)]=some (.bool (cy (p [gJ (List.getD l j ck)])))]
 bT:=fun(l,p)=>⟨[dO (anyI l.length (fun j=>cy (p [gJ (List.getD l j ck)])))],[],[]⟩
 law:=lC (lL .aT) (l1 lF)
def akP:Sy.α->Nat->Option (bY UU):=fun(l,p)=>aN []
def afL:=us [aiC]
theorem ahy:Holds EE (108,Sy):=by
 refine holds_of ax func108 Sy (by kernel_rfl) afL (aE _) akP (fun x hp hb=> ?_)
 obtain⟨l,p⟩:=x
 have gP:l.length<=9223372036854775807:=jO (hb _ m0)
 have bC:∀j:Nat,j<l.length->p [gJ (List.getD l j ck)]=some (.bool (cy (p [gJ (List.getD l j ck)]))):=hp _ m0
 clear hp hb
 apply @ve _ (let x0:Int:=kT (l.length) fun(j:Nat)=>cy (p [gJ (List.getD l j ck)]);(∀(j:Nat),j<l.length->p [gJ (List.getD l j ck)]=some (Value.bool (cy (p [gJ (List.getD l j ck)]))))/\Lb (decide (x0≥0)) (anyI (l.length) fun(j:Nat)=>cy (p [gJ (List.getD l j ck)]))) (by kernel_rfl)
 dsimp only
 exact⟨bC,cj (by rw[<-Gy])⟩
def ai8:HH:=⟨_,ahy⟩
def aan:bp UU where
 α:=BA
 md:=[.ro]
 of:=o1 oS
 ds:=fun x=>[dS x]
 pre:=fun _=>[]
 bT:=fun s=>⟨[dO (decide (1<=s.size/\s.size<=200))],[],[]⟩
 law:=l1 lS
def as':aan.α->Nat->Option (bY UU):=fun s=>aN []
def apv:=us [Ec]
theorem aqU:Holds EE (56,aan):=by
 refine holds_of ax func56 aan (by kernel_rfl) apv (aE _) as' (fun(s:BA) hp hb=> ?_)
 have Aj:=Ao (s:=s) (hb _ m0)
 clear hp hb
 apply @ve _ (Lb (decide (1<=(↑(ByteArray.size s):Int)/\(↑(ByteArray.size s):Int)<=200)) (decide (1<=ByteArray.size s/\ByteArray.size s<=200))) (by kernel_rfl)
 refine cj ?_
 rw[decide_eq_decide];omega
def ar1:HH:=⟨_,aqU⟩
def vy:bp UU where
 α:=bu×BA
 md:=[.ro,.ro]
 of:=fun|[.agg [.lit (.string a0),.lit (.string a1),.sl .aM a2],.ptr [.lit (.string a3)]]=>some (⟨a0,⟨a1,a2⟩⟩,a3)|_=>none
 ds:=fun(x,c)=>[.agg [.lit (.string x.Key),.lit (.string x.F.Kind),.sl .aM x.F.aj],.ptr [.lit (.string c)]]
 pre:=fun(x,c)=>[]
 bT:=fun(x,c)=>⟨[.one (.lit (.bool (decide (x.Key=c))))],[],[]⟩
 law:=by intro l x h;(try simp only at h);split at h<;>cases h;rfl
def akO:vy.α->Nat->Option (bY UU):=fun(x,c)=>aN []
def afK:List (FuncId×bp UU):=[]
theorem ahx:Holds EE (109,vy):=by
 refine holds_of ax func109 vy (by kernel_rfl) afK all_nil akO (fun x hp hb=> ?_)
 obtain⟨x,c⟩:=x
 have Qb:gB (U:=UU) (.agg [.lit (.string x.Key),.lit (.string x.F.Kind),.sl .aM x.F.aj]):=hb _ (gj)
 have adv:x.Key.size<=9223372036854775807:=Bd.str (Qb _ (by simp))
 have tD:x.F.Kind.size<=9223372036854775807:=Bd.str (Qb _ (by simp))
 have qt:x.F.aj.length<=9223372036854775807:=Bd.len (U:=UU) (τ:=.aM) (xs:=x.F.aj) (Qb _ (by simp))
 have aoy:gB (U:=UU) (.ptr [.lit (.string c)]):=hb _ (cA _ (gj))
 have aue:c.size<=9223372036854775807:=Bd.str (aoy _ (by simp))
 clear hp hb
 apply @ve _ (Lb (ByteArray.toList x.Key==ByteArray.toList c) (decide (x.Key=c))) (by kernel_rfl)
 rw[bx]
 exact bN _
def ai7:HH:=⟨_,ahx⟩
def aam:bp UU where
 α:=(List bu)×BA
 md:=[.ro,.ro]
 of:=oC (oL .aT) (o1 oS)
 ds:=fun x=>[dL .aT x.1,dS x.2]
 pre:=fun _=>[]
 bT:=fun(l,key)=>⟨[dO (tG l key)],[],[]⟩
 law:=lC (lL .aT) (l1 lS)
def as9:aam.α->Nat->Option (bY UU):=fun(l,key)=>aN []
def apu:=us [ai8,ai7]
theorem aqT:Holds EE (57,aam):=by
 refine holds_of ax func57 aam (by kernel_rfl) apu (aE _) as9 (fun x hp hb=> ?_)
 obtain⟨l,key⟩:=x
 have gP:l.length<=9223372036854775807:=jO (hb _ m0)
 have K4:=Ao (s:=key) (hb _ m1)
 clear hp hb
 apply @ve _ ((∀(j:Nat),j<l.length->ic vy [DV.ptr [CS key]] [gJ (List.getD l j ck)]=some (Value.bool (cy (ic vy [DV.ptr [CS key]] [gJ (List.getD l j ck)]))))/\Lb (anyI (l.length) fun(j:Nat)=>cy (ic vy [DV.ptr [CS key]] [gJ (List.getD l j ck)])) (tG l key)) (by kernel_rfl)
 have hc:∀x:bu,ic vy [.ptr [.lit (.string key)]] [gJ x]=some (.bool (decide (x.Key=key))):=fun x=>xA (x:=(x,key)) rfl rfl rfl rfl (by simp[vy])
 refine⟨fun j hj=> ?_,cj ?_⟩
 ·show ic vy [.ptr [.lit (.string key)]] [gJ (List.getD l j ck)]=_
  rw[hc];rfl
 ·exact ng fun j hj=>by
   show cy (ic vy [.ptr [.lit (.string key)]] [gJ (List.getD l j ck)])=_
   rw[hc];rfl
def ar0:HH:=⟨_,aqT⟩
def aaT:bp UU where
 α:=(List bu)
 md:=[.ro]
 of:=o1 (oL .aT)
 ds:=fun x=>[dL .aT x]
 pre:=fun _=>[]
 bT:=fun l=>⟨[dO (db l)],[],[]⟩
 law:=l1 (lL .aT)
def HS(l:(List bu)):Int×Unit->Prop:=fun(i,_)=>0<=i/\i<=l.length/\l.length<=30/\∀j:Nat,(j:Int)<i->jv l j=true
def zq(l:(List bu)):Int×Unit->Nat:=fun(i,_)=>l.length-i.toNat
def atF:aaT.α->Nat->Option (bY UU):=fun l=>aN [(4,bh [.slot 10 (10,1024) (.lit (.int .i64))] (fun _=>HS l) (zq l))]
def ap2:=us [ar1,Vy,ar0]
theorem art:Holds EE (22,aaT):=by
 refine holds_of ax func22 aaT (by kernel_rfl) ap2 (aE _) atF (fun(l:(List bu)) hp hb=> ?_)
 have gP:l.length<=9223372036854775807:=jO (hb _ m0)
 clear hp hb
 apply @ve _ (let x0:Int:=(l.length:Int);let x1:Int:=Option.getD none (0:Int);let q0:=Lb false (db l);bif decide (x0>30) then q0 else HS l (0,())/\∀(y:Int×PUnit),let x2:Int:=Option.getD (some y.1) x0;let q1:=List.getD l y.1.toNat ck;let q2:=(IntKind.wrap IntKind.i64 (y.1+1),());HS l y->bif decide (y.1<x0) then 0<=y.1/\y.1.toNat<l.length/\bif !decide (1<=ByteArray.size q1.Key/\ByteArray.size q1.Key<=200) then q0 else bif !bI q1.F then q0 else 0<=x1/\x1<=x2/\x2<=x0/\bif tG (List.drop x1.toNat (List.take x2.toNat l)) q1.Key then q0 else HS l q2/\zq l q2<zq l y else Lb true (db l)) (by kernel_rfl)
 dsimp only
 refine af (fun h=>bw ?_) (fun h=>⟨⟨by omega,by omega,by have h:=yF h;omega,by intro j hj;omega⟩,?_⟩)
 ·have h:=yT h;simp only[db];rw[decide_eq_false (by omega)];rfl
 rintro⟨i,⟨⟩⟩ ⟨h1,h2,h3,hR⟩
 simp only
 refine af (fun hc=> ?_) (fun hc=> ?_)
 ·have hc:=yT hc
  have hN:jv l i.toNat=false->db l=false:=fun h=>by
   have hf:allI l.length (jv l)=false:=gK (j:=i.toNat) (by omega) h
   simp only[db,hf];simp
  have hk:tG (List.drop (Int.toNat 0) (List.take i.toNat l)) (List.getD l i.toNat ck).Key=anyI i.toNat fun k=>decide ((List.getD l k ck).Key=(List.getD l i.toNat ck).Key):=by
   show anyI _ _=_
   have e:(List.take i.toNat l).length=i.toNat:=by rw[oH];omega
   rw[show Int.toNat 0=0 from rfl,List.drop_zero,e]
   exact ng fun j hj=>by rw[yZ l ck hj]
  simp only[Tp,FU,hk]
  simp(disch:=omega) only[wrap_i64]
  have hm:zq l (i+1,PUnit.unit)<zq l (i,()):=by simp only[zq];omega
  refine⟨by omega,by omega,af (fun h=>bw (hN ?_)) (fun h=>af (fun h'=>bw (hN ?_)) (fun h'=>⟨by omega,by omega,by omega,af (fun n9=>bw (hN ?_)) (fun n9=>⟨⟨by omega,by omega,h3,fW h1 hR ?_⟩,hm⟩)⟩))⟩
  all_goals (simp only[jv];grind)
 ·have hc:=yF hc
  have hA:allI l.length (jv l)=true:=iu fun j hj=>hR j (by omega)
  refine cj ?_
  simp only[db,hA];grind
def asl:HH:=⟨_,art⟩
def aaL:bp UU where
 α:=(List bu)
 md:=[.ro]
 of:=o1 (oL .aT)
 ds:=fun x=>[dL .aT x]
 pre:=fun _=>[]
 bT:=fun l=>⟨[dO (db l)],[],[]⟩
 law:=l1 (lL .aT)
def HM(l:(List bu)):Int×Unit->Prop:=fun(i,_)=>0<=i/\i<=l.length/\∀j:Nat,(j:Int)<i->jv l j=true
def zm(l:(List bu)):Int×Unit->Nat:=fun(i,_)=>l.length-i.toNat
def HL(l:(List bu)):Int×Int×Unit->Int×Int×Unit->Prop:=fun(i0,k0,_) (i,k,_)=>i=i0/\0<=k/\k<=i/\∀j:Nat,(j:Int)<k->decide ((List.getD l j ck).Key=(List.getD l i.toNat ck).Key)=false
def Hl(l:(List bu)):Int×Int×Unit->Nat:=fun(i,k,_)=>i.toNat-k.toNat
def atw:aaL.α->Nat->Option (bY UU):=fun l=>aN [(2,bh [.slot 3 (3,1024) (.lit (.int .i64))] (fun _=>HM l) (zm l)),(7,bh [.slot 3 (3,1024) (.lit (.int .i64)),.slot 4 (4,1024) (.lit (.int .i64))] (HL l) (Hl l))]
def apT:=us [sC,Lu]
theorem arj:Holds EE (31,aaL):=by
 refine holds_of ax func31 aaL (by kernel_rfl) apT (aE _) atw (fun(l:(List bu)) hp hb=> ?_)
 have gP:l.length<=9223372036854775807:=jO (hb _ m0)
 clear hp hb
 apply @ve _ (let x0:Int:=(l.length:Int);let q0:=Lb false (db l);HM l (0,())/\∀(y:Int×PUnit),let q1:=(↑(ByteArray.size (List.getD l y.1.toNat ck).Key):Int);let q2:=(y.1,0,());HM l y->bif decide (y.1<x0) then 0<=y.1/\y.1.toNat<l.length/\bif !decide (1<=q1/\q1<=200) then q0 else 0<=y.1/\y.1.toNat<l.length/\bif !bI (List.getD l y.1.toNat ck).F then q0 else HL l q2 q2/\∀(aS:Int×Int×PUnit),let x1:Nat:=aS.2.1.toNat;let q3:=(aS.1,IntKind.wrap IntKind.i64 (aS.2.1+1),());let q4:=(IntKind.wrap IntKind.i64 (aS.1+1),());HL l q2 aS->bif decide (aS.2.1<aS.1) then 0<=aS.1/\aS.1.toNat<l.length/\0<=aS.2.1/\x1<l.length/\bif ByteArray.toList (List.getD l aS.1.toNat ck).Key==ByteArray.toList (List.getD l x1 ck).Key then q0 else HL l q2 q3/\Hl l q3<Hl l aS else HM l q4/\zm l q4<zm l y else Lb (decide (x0<=30)) (db l)) (by kernel_rfl)
 dsimp only
 refine⟨⟨by omega,by omega,by intro j hj;omega⟩,?_⟩
 rintro⟨i,⟨⟩⟩ ⟨h1,h2,hR⟩
 simp only
 refine af (fun hc=> ?_) (fun hc=> ?_)
 ·have hc:=yT hc
  have hN:jv l i.toNat=false->db l=false:=fun h=>by
   have hf:allI l.length (jv l)=false:=gK (j:=i.toNat) (by omega) h
   simp only[db,hf];simp
  have hm:zm l (i+1,PUnit.unit)<zm l (i,()):=by simp only[zm];omega
  refine⟨by omega,by omega,af (fun h=>bw (hN ?_)) (fun h=>⟨by omega,by omega,af (fun h'=>bw (hN ?_)) (fun h'=>⟨⟨rfl,by omega,by omega,by intro j hj;omega⟩,?_⟩)⟩)⟩
  ·simp only[jv];grind
  ·simp only[jv];grind
  rintro⟨i,k,⟨⟩⟩ ⟨rfl,g1,g2,gR⟩
  simp only
  refine af (fun hk=> ?_) (fun hk=> ?_)
  ·have hk:=yT hk
   simp(disch:=omega) only[wrap_i64,bx]
   refine⟨by omega,by omega,by omega,by omega,af (fun n9=>bw (hN ?_)) (fun n9=>⟨⟨rfl,by omega,by omega,ju g1 gR ?_⟩,by simp only[Hl];omega⟩)⟩
   ·have ha:(anyI i.toNat fun k=>decide ((List.getD l k ck).Key=(List.getD l i.toNat ck).Key))=true:=ir (j:=k.toNat) (by omega) (by grind)
    simp only[jv,ha];simp
   ·grind
  ·have hk:=yF hk
   simp(disch:=omega) only[wrap_i64]
   refine⟨⟨by omega,by omega,fW h1 hR ?_⟩,hm⟩
   have ha:(anyI i.toNat fun k=>decide ((List.getD l k ck).Key=(List.getD l i.toNat ck).Key))=false:=gg fun j hj=>gR j (by omega)
   simp only[jv,ha];grind
 ·have hc:=yF hc
  have hA:allI l.length (jv l)=true:=iu fun j hj=>hR j (by omega)
  refine cj ?_
  simp only[db,hA];grind
def ahT:HH:=⟨_,arj⟩
def dz(l:List bu):aJ:=if l=[] then ta else(List.getD l (l.length-1) ck).F
def J3:bp UU where
 α:=(List aQ)
 md:=[.ro]
 of:=o1 (oL .aM)
 ds:=fun x=>[dL .aM x]
 pre:=fun l=>[l.length<=4294967296]
 bT:=fun l=>⟨[dL .aM l],[],[]⟩
 law:=l1 (lL .aM)
def SX:J3.α->Nat->Option (bY UU):=fun l=>aN []
def QT:List (FuncId×bp UU):=[]
theorem ad7:Mb EE QT f153 J3 SX [] .aM [] true=(Lf [VL .aM []] [VL .aM []]):=by kernel_rfl
theorem ad6:Mb EE QT f153 J3 SX [] .aM [] true:=by
 rw[ad7]
 exact bN _
theorem agR:Holds EE (153,J3):=by
 refine Nq ax func153 J3 (by kernel_rfl) rfl .aM (fun x=>x) (fun _=>rfl) QT all_nil SX (fun(l:(List aQ)) hp hb=> ?_)
 have gP:l.length<=9223372036854775807:=jO (hb _ m0)
 have bC:l.length<=4294967296:=hp _ m0
 clear hp hb
 refine⟨?_,fun h0=> ?_⟩
 rotate_left
 ·subst h0;exact ad6
 apply @ve _ (0+l.length<=4294967296/\Lf [VL .aM ([]++l)] [VL .aM l]) (by kernel_rfl)
 exact⟨by simp;omega,bN _⟩
def aiB:HH:=⟨_,agR⟩
def Sn:bp UU where
 α:=aJ
 md:=[.ro]
 of:=o1 (oA .bP)
 ds:=fun x=>[dA .bP x]
 pre:=fun f=>[f.aj.length<=4294967296]
 bT:=fun f=>⟨[dA .bP f],[],[]⟩
 law:=l1 (lA .bP)
def akD:Sn.α->Nat->Option (bY UU):=fun f=>aN []
def afz:List (FuncId×bp UU):=[]
theorem ahm:Holds EE (120,Sn):=by
 refine holds_of ax func120 Sn (by kernel_rfl) afz all_nil akD (fun(f:aJ) hp hb=> ?_)
 have bi:=fB (x:=f) (hb _ m0)
 have gb:=bi.1
 have eh:=bi.2
 have bC:f.aj.length<=4294967296:=hp _ m0
 clear hp hb
 apply @ve _ (0+f.aj.length<=4294967296/\Lf [DV.agg [CS f.Kind,CL .aM ([]++f.aj)]] [DV.agg [CS f.Kind,CL .aM f.aj]]) (by kernel_rfl)
 exact⟨by simp;omega,bN _⟩
def sM:HH:=⟨_,ahm⟩
def Sx:bp UU where
 α:=aJ
 md:=[.ro]
 of:=o1 (oA .bP)
 ds:=fun x=>[dA .bP x]
 pre:=fun f=>[f.aj.length<=4294967296]
 bT:=fun f=>⟨[dA .bP f],[],[]⟩
 law:=l1 (lA .bP)
def akN:Sx.α->Nat->Option (bY UU):=fun f=>aN []
def afJ:=us [aiB]
theorem ahw:Holds EE (110,Sx):=by
 refine holds_of ax func110 Sx (by kernel_rfl) afJ (aE _) akN (fun(f:aJ) hp hb=> ?_)
 have bi:=fB (x:=f) (hb _ m0)
 have gb:=bi.1
 have eh:=bi.2
 have bC:f.aj.length<=4294967296:=hp _ m0
 clear hp hb
 apply @ve _ (f.aj.length<=4294967296/\Lf [DV.agg [CS f.Kind,CL .aM f.aj]] [DV.agg [CS f.Kind,CL .aM f.aj]]) (by kernel_rfl)
 exact⟨bC,bN _⟩
def ai5:HH:=⟨_,ahw⟩
def Rw:bp UU where
 α:=(List aI)
 md:=[.ro]
 of:=o1 (oL .aH)
 ds:=fun x=>[dL .aH x]
 pre:=fun l=>[ee l<=4294967296]
 bT:=fun l=>⟨[dL .aH l],[],[]⟩
 law:=l1 (lL .aH)
def BF(l:(List aI)):List aI×Int×Unit->Prop:=fun(out,i,_)=>0<=i/\i<=l.length/\out=l.take i.toNat
def A3(l:(List aI)):List aI×Int×Unit->Nat:=fun(out,i,_)=>l.length-i.toNat
def ajQ:Rw.α->Nat->Option (bY UU):=fun l=>aN [(3,bh [.slot 3 (3,1024) (.own .aH true),.slot 4 (4,1024) (.lit (.int .i64))] (fun _=>BF l) (A3 l))]
def aeM:=us [sM]
theorem agx:Holds EE (173,Rw):=by
 refine holds_of ax func173 Rw (by kernel_rfl) aeM (aE _) ajQ (fun(l:(List aI)) hp hb=> ?_)
 have gP:l.length<=9223372036854775807:=jO (hb _ m0)
 have bC:ee l<=4294967296:=hp _ m0
 clear hp hb
 apply @ve _ (BF l ([],0,())/\∀(y:List aI×Int×PUnit),let x2:Nat:=y.2.1.toNat;let x1:aI:=List.getD l x2 dH;let x0:List aI:=[x1];let q0:=(y.1++x0,IntKind.wrap IntKind.i64 (y.2.1+1),());BF l y->bif decide (y.2.1<(l.length:Int)) then 0<=y.2.1/\x2<l.length/\0<=y.2.1/\x2<l.length/\x1.F.aj.length<=4294967296/\y.1.length+x0.length<=4294967296/\BF l q0/\A3 l q0<A3 l y else Lf [VL .aH y.1] [VL .aH l]) (by kernel_rfl)
 dsimp only
 refine⟨⟨by omega,by omega,by simp⟩,?_⟩
 rintro⟨out,i,⟨⟩⟩ ⟨h1,h2,rfl⟩
 simp only
 refine af (fun hc=> ?_) (fun hc=> ?_)
 ·have hc:=yT hc
  have hs:=gU iY l dH h1 hc
  simp only[ee] at bC
  have hx:=hs
  simp only[iY,eg,gy] at hx
  rw[fD l dH h1 hc,wrap_i64 (by omega) (by omega)]
  repeat' (first|refine And.intro (by omega) ?_|fail)
  refine⟨by simp;omega,⟨by omega,by omega,rfl⟩,by simp only[A3];omega⟩
 ·have hc:=yF hc
  rw[dB l (by omega)]
  exact bN _
def WC:HH:=⟨_,agx⟩
def Rq:bp UU where
 α:=(List bu)
 md:=[.ro]
 of:=o1 (oL .aT)
 ds:=fun x=>[dL .aT x]
 pre:=fun l=>[dt l<=4294967296]
 bT:=fun l=>⟨[dL .aT l],[],[]⟩
 law:=l1 (lL .aT)
def BD(l:(List bu)):List bu×Int×Unit->Prop:=fun(out,i,_)=>0<=i/\i<=l.length/\out=l.take i.toNat
def A1(l:(List bu)):List bu×Int×Unit->Nat:=fun(out,i,_)=>l.length-i.toNat
def ajK:Rq.α->Nat->Option (bY UU):=fun l=>aN [(3,bh [.slot 3 (3,1024) (.own .aT true),.slot 4 (4,1024) (.lit (.int .i64))] (fun _=>BD l) (A1 l))]
def aeG:=us [sM]
theorem agr:Holds EE (179,Rq):=by
 refine holds_of ax func179 Rq (by kernel_rfl) aeG (aE _) ajK (fun(l:(List bu)) hp hb=> ?_)
 have gP:l.length<=9223372036854775807:=jO (hb _ m0)
 have bC:dt l<=4294967296:=hp _ m0
 clear hp hb
 apply @ve _ (BD l ([],0,())/\∀(y:List bu×Int×PUnit),let x2:Nat:=y.2.1.toNat;let x1:bu:=List.getD l x2 ck;let x0:List bu:=[x1];let q0:=(y.1++x0,IntKind.wrap IntKind.i64 (y.2.1+1),());BD l y->bif decide (y.2.1<(l.length:Int)) then 0<=y.2.1/\x2<l.length/\0<=y.2.1/\x2<l.length/\x1.F.aj.length<=4294967296/\y.1.length+x0.length<=4294967296/\BD l q0/\A1 l q0<A1 l y else Lf [VL .aT y.1] [VL .aT l]) (by kernel_rfl)
 dsimp only
 refine⟨⟨by omega,by omega,by simp⟩,?_⟩
 rintro⟨out,i,⟨⟩⟩ ⟨h1,h2,rfl⟩
 simp only
 refine af (fun hc=> ?_) (fun hc=> ?_)
 ·have hc:=yT hc
  have hs:=gU ed l ck h1 hc
  simp only[dt] at bC
  have hx:=hs
  simp only[ed,eg,gy] at hx
  rw[fD l ck h1 hc,wrap_i64 (by omega) (by omega)]
  repeat' (first|refine And.intro (by omega) ?_|fail)
  refine⟨by simp;omega,⟨by omega,by omega,rfl⟩,by simp only[A1];omega⟩
 ·have hc:=yF hc
  rw[dB l (by omega)]
  exact bN _
def Wz:HH:=⟨_,agr⟩
def R8:bp UU where
 α:=(List bu)
 md:=[.ro]
 of:=o1 (oL .aT)
 ds:=fun x=>[dL .aT x]
 pre:=fun l=>[dt l<=4294967296]
 bT:=fun l=>⟨[dA .bP (dz l),dO (decide (¬l=[]))],[],[]⟩
 law:=l1 (lL .aT)
def akm:R8.α->Nat->Option (bY UU):=fun l=>aN []
def afi:=us [sM]
theorem ag7:Holds EE (137,R8):=by
 refine holds_of ax func137 R8 (by kernel_rfl) afi (aE _) akm (fun(l:(List bu)) hp hb=> ?_)
 have gP:l.length<=9223372036854775807:=jO (hb _ m0)
 have bC:dt l<=4294967296:=hp _ m0
 clear hp hb
 apply @ve _ (let x3:Int:=IntKind.wrap IntKind.i64 ((l.length:Int)-1);let x2:Nat:=x3.toNat;let x1:aJ:=(List.getD l x2 ck).F;let x0:List aQ:=x1.aj;bif (l.length:Int)==0 then Lf [DV.agg [CS ({data:= #[]:BA}),CL .aM []],VB false] [DV.agg [CS ((dz l).Kind),CL .aM (dz l).aj],VB (decide ¬l=[])] else 0<=x3/\x2<l.length/\x0.length<=4294967296/\Lf [DV.agg [CS x1.Kind,CL .aM x0],VB true] [DV.agg [CS ((dz l).Kind),CL .aM (dz l).aj],VB (decide ¬l=[])]) (by kernel_rfl)
 dsimp only
 by_cases hl:l=[]
 ·subst hl;exact bN _
 ·have h0:0<l.length:=List.length_pos_iff.2 hl
  have h1:(l.length-1:Int).toNat=l.length-1:=by omega
  have hs:=gU ed l ck (i:=l.length-1) (by omega) (by omega)
  simp only[dt] at bC
  rw[h1] at hs
  have hx:=hs
  simp only[ed,eg,gy] at hx
  rw[wrap_i64 (by omega) (by omega),h1]
  refine af (fun h=>absurd h (by simp;omega)) (fun h=> ?_)
  repeat' (first|refine And.intro (by omega) ?_|fail)
  simp only[dz,if_neg hl,decide_not,hl]
  exact bN _
def aiM:HH:=⟨_,ag7⟩
def Rd:bp UU where
 α:=(List bu)
 md:=[.ro]
 of:=o1 (oL .aT)
 ds:=fun x=>[dL .aT x]
 pre:=fun l=>[dt l<=4294967296]
 bT:=fun l=>⟨[dL .aT (l.take (l.length-1))],[],[]⟩
 law:=l1 (lL .aT)
def ajx:Rd.α->Nat->Option (bY UU):=fun l=>aN []
def aet:=us [Wz]
theorem agd:Holds EE (192,Rd):=by
 refine holds_of ax func192 Rd (by kernel_rfl) aet (aE _) ajx (fun(l:(List bu)) hp hb=> ?_)
 have gP:l.length<=9223372036854775807:=jO (hb _ m0)
 have bC:dt l<=4294967296:=hp _ m0
 clear hp hb
 apply @ve _ (let x1:Int:=(l.length:Int);let x0:Int:=Option.getD (some (IntKind.wrap IntKind.i64 (x1-1))) x1;dt l<=4294967296/\bif decide (x1>0) then 0<=Option.getD none (0:Int)/\Option.getD none (0:Int)<=x0/\x0<=x1/\Nat.le x0.toNat (l.length)/\Lf [VL .aT (List.take x0.toNat l)] [VL .aT (List.take (l.length-1) l)] else Lf [VL .aT l] [VL .aT (List.take (l.length-1) l)]) (by kernel_rfl)
 dsimp only
 refine⟨bC,af (fun h=> ?_) (fun h=> ?_)⟩
 ·have h:=yT h
  simp only[Tp,FU]
  rw[wrap_i64 (by omega) (by omega)]
  have h1:(l.length-1:Int).toNat=l.length-1:=by omega
  rw[h1]
  refine⟨by omega,by omega,by omega,Nat.sub_le _ _,bN _⟩
 ·have h:=yF h
  have h0:l=[]:=List.length_eq_zero_iff.1 (by omega)
  subst h0
  exact bN _
def aia:HH:=⟨_,agd⟩
def fH(s:BA):Bool:=decide (s=ai)||bm s
def fY(t:ak):Bool:=bI t.F&&fH t.aW&&decide (1<=t.State/\t.State<=4)&&decide (0<=t.bE/\t.bE<=4)&&decide (0<=t.kf/\t.kf<=1000001000)&&(decide (t.V=dx)||bR t.V)&&decide ((t.State=1->t.bE=0)/\(t.State=2->t.bE≠0))
def jx(l:List ak)(i:Nat):Bool:=fY (List.getD l i aR)&& !(anyI i fun k=>decide ((List.getD l k aR).F=(List.getD l i aR).F))
def bc(l:List ak):Bool:=decide (l.length<=30)&&allI l.length (jx l)
def placeOf(l:List ak)(f:aJ):Int:=kT l.length fun k=>decide ((List.getD l k aR).F=f)
def j8(t:ak):Bool:=decide (t.State=1\/t.State=2)
def kr(t:ak):ak:=if t.State=1\/t.State=2 then⟨t.F,t.aW,4,t.bE,t.kf,t.V⟩ else t
def giveUp(l:List ak):List ak:=l.map kr
def eV(x:ak):DA UU:=⟨true,[.lit (.string x.F.Kind),.sl .aM x.F.aj,.lit (.string x.aW),.lit (.int .i64 x.State),.lit (.int .i64 x.bE),.lit (.int .i64 x.kf),.lit (.int .i64 x.V.K),.lit (.int .i64 x.V.N),.lit (.string x.V.S)]⟩
theorem Jv{a b:aJ}:a=b↔a.Kind=b.Kind/\a.aj=b.aj:=by
 obtain⟨k,f⟩:=a;obtain⟨k',f'⟩:=b;simp
theorem Gv{α:Type}(f:α->α)(l:List α)(z:α){i:Int}(F:α->α)(h0:0<=i)(h:i<l.length)(hF:F (List.getD l i.toNat z)=f (List.getD l i.toNat z)):
  ((l.map f).take i.toNat++l.drop i.toNat).modify i.toNat F=(l.map f).take (i+1).toNat++l.drop (i+1).toNat:=by
 have hn:i.toNat<l.length:=by omega
 have e:(i+1).toNat=i.toNat+1:=by omega
 have ht:((l.map f).take i.toNat).length=i.toNat:=by rw[oH,wv];omega
 rw[KR _ z,Gu _ l z ht h0 h,hF,eK l z h0 h,List.set_append_right _ _ (by rw[ht];exact s_ _),ht,W0,List.set_cons_zero,e,zcz (by simpa using hn),wB,List.getElem_map]
 rw[eY,fo hn]
 rfl
theorem IX{α:Type}(f:α->α)(l:List α)(z:α){i:Int}(h0:0<=i)(h:i<l.length)(hF:List.getD l i.toNat z=f (List.getD l i.toNat z)):
  (l.map f).take i.toNat++l.drop i.toNat=(l.map f).take (i+1).toNat++l.drop (i+1).toNat:=by
 rw[<-Gv f l z (fun x=>x) h0 h hF]
 have:∀(m:List α)(n:Nat),m.modify n (fun x=>x)=m:=by
  intro m n
  refine Oq fun j=> ?_
  rw[W1]
  cases m[j]? <;>simp
 rw[this]
theorem LY{α:Type}(f:α->α)(l:List α){i:Int}(h0:0<=i)(h:i<=l.length):((l.map f).take i.toNat++l.drop i.toNat).length=l.length:=by
 rw[kg,oH,wv,J6];omega
theorem Pr{α:Type}(f:α->α)(l:List α){i:Int}(h0:0<=i)(h:i<=l.length):((l.map f).take i.toNat).length=i.toNat:=by
 rw[oH,wv];omega
theorem IY{α:Type}(f:α->α)(l:List α){i:Int}(h:l.length<=i):(l.map f).take i.toNat++l.drop i.toNat=l.map f:=by
 rw[List.drop_eq_nil_of_le (by omega),ww,Tq (by rw[wv];omega)]
def So:bp UU where
 α:=(List aQ)×(List aQ)
 md:=[.ro,.ro]
 of:=oC (oL .aM) (o1 (oL .aM))
 ds:=fun x=>[dL .aM x.1,dL .aM x.2]
 pre:=fun _=>[]
 bT:=fun(a,b)=>⟨[dO (decide (a=b))],[],[]⟩
 law:=lC (lL .aM) (l1 (lL .aM))
def ya(a:(List aQ))(b:(List aQ)):Int×Unit->Prop:=fun(i,_)=>0<=i/\i<=a.length/\a.length=b.length/\(a.drop i.toNat=b.drop i.toNat↔a=b)
def Bj(a:(List aQ))(b:(List aQ)):Int×Unit->Nat:=fun(i,_)=>a.length-i.toNat
def akE:So.α->Nat->Option (bY UU):=fun(a,b)=>aN [(4,bh [.slot 5 (5,1024) (.lit (.int .i64))] (fun _=>ya a b) (Bj a b))]
def afA:List (FuncId×bp UU):=[]
theorem ahn:Holds EE (119,So):=by
 refine holds_of ax func119 So (by kernel_rfl) afA all_nil akE (fun x hp hb=> ?_)
 obtain⟨a,b⟩:=x
 have adA:a.length<=9223372036854775807:=jO (hb _ m0)
 have adz:b.length<=9223372036854775807:=jO (hb _ m1)
 clear hp hb
 apply @ve _ (bif (a.length:Int) !=(b.length:Int) then Lb false (decide (a=b)) else ya a b (0,())/\∀(y:Int×PUnit),let x0:aQ:=List.getD a y.1.toNat dx;let x1:aQ:=List.getD b y.1.toNat dx;let q0:=(IntKind.wrap IntKind.i64 (y.1+1),());ya a b y->bif decide (y.1<(a.length:Int)) then 0<=y.1/\y.1.toNat<a.length/\0<=y.1/\y.1.toNat<b.length/\bif !(x0.K==x1.K&&(x0.N==x1.N&&(ByteArray.toList x0.S==ByteArray.toList x1.S&&true))) then Lb false (decide (a=b)) else ya a b q0/\Bj a b q0<Bj a b y else Lb true (decide (a=b))) (by kernel_rfl)
 dsimp only
 refine af (fun h=>Oa ?_) (fun h=>⟨?_,?_⟩)
 ·rintro rfl;simp at h
 ·simp[ya] at*;omega
 rintro⟨i,⟨⟩⟩ ⟨h1,h2,h3,hR⟩
 simp only at*
 refine af (fun hc=> ?_) (fun hc=> ?_)
 ·have hc:i<a.length:=by simpa using hc
  rw[eK a dx h1 hc,eK b dx h1 (by omega)] at hR
  rw[wrap_i64 (by omega) (by omega)]
  simp only[oy]
  refine⟨by omega,by omega,by omega,by omega,af (fun h=>Oa ?_) (fun h=>⟨⟨by omega,by omega,h3,?_⟩,?_⟩)⟩
  ·rw[<-hR];simp at h;simp[h]
  ·rw[<-hR];simp at h;simp[h]
  ·simp only[Bj];omega
 ·have hc:a.length<=i:=by simpa using hc
  rw[cg a hc,cg b (by omega)] at hR
  exact abe (hR.1 rfl)
def aiZ:HH:=⟨_,ahn⟩
def SA:bp UU where
 α:=(List aQ)×(List aQ)
 md:=[.ro,.ro]
 of:=oC (oL .aM) (o1 (oL .aM))
 ds:=fun x=>[dL .aM x.1,dL .aM x.2]
 pre:=fun _=>[]
 bT:=fun(a,b)=>⟨[dO (decide (a=b))],[],[]⟩
 law:=lC (lL .aM) (l1 (lL .aM))
def yd(a:(List aQ))(b:(List aQ)):Int×Unit->Prop:=fun(i,_)=>0<=i/\i<=a.length/\a.length=b.length/\(a.drop i.toNat=b.drop i.toNat↔a=b)
def Bm(a:(List aQ))(b:(List aQ)):Int×Unit->Nat:=fun(i,_)=>a.length-i.toNat
def akS:SA.α->Nat->Option (bY UU):=fun(a,b)=>aN [(4,bh [.slot 13 (13,1024) (.lit (.int .i64))] (fun _=>yd a b) (Bm a b))]
def afO:List (FuncId×bp UU):=[]
theorem ahB:Holds EE (105,SA):=by
 refine holds_of ax func105 SA (by kernel_rfl) afO all_nil akS (fun x hp hb=> ?_)
 obtain⟨a,b⟩:=x
 have adA:a.length<=9223372036854775807:=jO (hb _ m0)
 have adz:b.length<=9223372036854775807:=jO (hb _ m1)
 clear hp hb
 apply @ve _ (bif (a.length:Int) !=(b.length:Int) then Lb false (decide (a=b)) else yd a b (0,())/\∀(y:Int×PUnit),let x0:aQ:=List.getD b y.1.toNat dx;let x1:aQ:=List.getD a y.1.toNat dx;let q0:=(IntKind.wrap IntKind.i64 (y.1+1),());yd a b y->bif decide (y.1<(a.length:Int)) then 0<=y.1/\y.1.toNat<a.length/\0<=y.1/\y.1.toNat<b.length/\bif !(x1.K==x0.K&&(x1.N==x0.N&&(ByteArray.toList x1.S==ByteArray.toList x0.S&&true))) then Lb false (decide (a=b)) else yd a b q0/\Bm a b q0<Bm a b y else Lb true (decide (a=b))) (by kernel_rfl)
 dsimp only
 refine af (fun h=>Oa ?_) (fun h=>⟨?_,?_⟩)
 ·rintro rfl;simp at h
 ·simp[yd] at*;omega
 rintro⟨i,⟨⟩⟩ ⟨h1,h2,h3,hR⟩
 simp only at*
 refine af (fun hc=> ?_) (fun hc=> ?_)
 ·have hc:i<a.length:=by simpa using hc
  rw[eK a dx h1 hc,eK b dx h1 (by omega)] at hR
  rw[wrap_i64 (by omega) (by omega)]
  simp only[oy]
  refine⟨by omega,by omega,by omega,by omega,af (fun h=>Oa ?_) (fun h=>⟨⟨by omega,by omega,h3,?_⟩,?_⟩)⟩
  ·rw[<-hR];simp at h;simp[h]
  ·rw[<-hR];simp at h;simp[h]
  ·simp only[Bm];omega
 ·have hc:a.length<=i:=by simpa using hc
  rw[cg a hc,cg b (by omega)] at hR
  exact abe (hR.1 rfl)
def ai':HH:=⟨_,ahB⟩
def aab:bp UU where
 α:=aJ×aJ
 md:=[.ro,.ro]
 of:=oC (oA .bP) (o1 (oA .bP))
 ds:=fun x=>[dA .bP x.1,dA .bP x.2]
 pre:=fun _=>[]
 bT:=fun(a,b)=>⟨[dO (decide (a=b))],[],[]⟩
 law:=lC (lA .bP) (l1 (lA .bP))
def asY:aab.α->Nat->Option (bY UU):=fun(a,b)=>aN []
def api:=us [aiZ]
theorem aqI:Holds EE (68,aab):=by
 refine holds_of ax func68 aab (by kernel_rfl) api (aE _) asY (fun x hp hb=> ?_)
 obtain⟨a,b⟩:=x
 have bi:=fB (x:=a) (hb _ m0)
 have Nw:=bi.1
 have Jh:=bi.2
 have fg:=fB (x:=b) (hb _ m1)
 have Nv:=fg.1
 have Jf:=fg.2
 clear hp hb
 apply @ve _ (bif ByteArray.toList a.Kind==ByteArray.toList b.Kind then Lb (decide (a.aj=b.aj)) (decide (a=b)) else Lb false (decide (a=b))) (by kernel_rfl)
 simp only[bx]
 refine af (fun h=>cj ?_) (fun h=>cj ?_)<;>(simp only[Jv];grind)
def Vw:HH:=⟨_,aqI⟩
def aar:bp UU where
 α:=aJ×aJ
 md:=[.ro,.ro]
 of:=oC (oA .bP) (o1 (oA .bP))
 ds:=fun x=>[dA .bP x.1,dA .bP x.2]
 pre:=fun _=>[]
 bT:=fun(a,b)=>⟨[dO (decide (a=b))],[],[]⟩
 law:=lC (lA .bP) (l1 (lA .bP))
def atc:aar.α->Nat->Option (bY UU):=fun(a,b)=>aN []
def apz:=us [ai']
theorem aqY:Holds EE (52,aar):=by
 refine holds_of ax func52 aar (by kernel_rfl) apz (aE _) atc (fun x hp hb=> ?_)
 obtain⟨a,b⟩:=x
 have bi:=fB (x:=a) (hb _ m0)
 have Nw:=bi.1
 have Jh:=bi.2
 have fg:=fB (x:=b) (hb _ m1)
 have Nv:=fg.1
 have Jf:=fg.2
 clear hp hb
 apply @ve _ (bif ByteArray.toList a.Kind==ByteArray.toList b.Kind then Lb (decide (a.aj=b.aj)) (decide (a=b)) else Lb false (decide (a=b))) (by kernel_rfl)
 simp only[bx]
 refine af (fun h=>cj ?_) (fun h=>cj ?_)<;>(simp only[Jv];grind)
def ahR:HH:=⟨_,aqY⟩
def Sq:bp UU where
 α:=BA
 md:=[.ro]
 of:=o1 oS
 ds:=fun x=>[dS x]
 pre:=fun _=>[]
 bT:=fun s=>⟨[dO (fH s)],[],[]⟩
 law:=l1 lS
def akG:Sq.α->Nat->Option (bY UU):=fun s=>aN []
def afC:=us [J4]
theorem ahp:Holds EE (117,Sq):=by
 refine holds_of ax func117 Sq (by kernel_rfl) afC (aE _) akG (fun(s:BA) hp hb=> ?_)
 have Aj:=Ao (s:=s) (hb _ m0)
 clear hp hb
 apply @ve _ (bif ByteArray.toList s==ByteArray.toList {data:= #[]:BA} then Lb true (fH s) else Lb (bm s) (fH s)) (by kernel_rfl)
 have e:(ByteArray.toList s==ByteArray.toList {data:= #[]})=decide (s=ai):=bx _ _
 simp only[e,fH]
 refine af (fun h=>cj ?_) (fun h=>cj ?_)<;>grind
def ai0:HH:=⟨_,ahp⟩
def Sz:bp UU where
 α:=BA
 md:=[.ro]
 of:=o1 oS
 ds:=fun x=>[dS x]
 pre:=fun _=>[]
 bT:=fun s=>⟨[dO (fH s)],[],[]⟩
 law:=l1 lS
def akR:Sz.α->Nat->Option (bY UU):=fun s=>aN []
def afN:=us [N_]
theorem ahA:Holds EE (106,Sz):=by
 refine holds_of ax func106 Sz (by kernel_rfl) afN (aE _) akR (fun(s:BA) hp hb=> ?_)
 have Aj:=Ao (s:=s) (hb _ m0)
 clear hp hb
 apply @ve _ (bif ByteArray.toList s==ByteArray.toList {data:= #[]:BA} then Lb true (fH s) else Lb (bm s) (fH s)) (by kernel_rfl)
 have e:(ByteArray.toList s==ByteArray.toList {data:= #[]})=decide (s=ai):=bx _ _
 simp only[e,fH]
 refine af (fun h=>cj ?_) (fun h=>cj ?_)<;>grind
def WR:HH:=⟨_,ahA⟩
def aac:bp UU where
 α:=ak
 md:=[.ro]
 of:=o1 (oA .aA)
 ds:=fun x=>[dA .aA x]
 pre:=fun _=>[]
 bT:=fun t=>⟨[dO (fY t)],[],[]⟩
 law:=l1 (lA .aA)
def asZ:aac.α->Nat->Option (bY UU):=fun t=>aN []
def apj:=us [Lu,ai0,sC,My]
theorem aqJ:Holds EE (67,aac):=by
 refine holds_of ax func67 aac (by kernel_rfl) apj (aE _) asZ (fun(t:ak) hp hb=> ?_)
 have bi:=qX (x:=t) (hb _ m0)
 have nL:=bi.1
 have lc:=bi.2.1
 have qM:=bi.2.2.1
 have tE:=bi.2.2.2
 clear hp hb
 apply @ve _ (let q0:=bif t.State !=1 then bif t.State !=2 then Lb true (fY t) else Lb ((t.State==1)==(t.bE==0)) (fY t) else Lb ((t.State==1)==(t.bE==0)) (fY t);let q1:=Lb false (fY t);bif !bI t.F then q1 else bif !fH t.aW then q1 else bif !decide (1<=t.State/\t.State<=4) then q1 else bif !decide (0<=t.bE/\t.bE<=4) then q1 else bif !decide (0<=t.kf/\t.kf<=1000001000) then q1 else bif !(t.V.K==0&&(t.V.N==0&&(ByteArray.toList t.V.S==ByteArray.toList {data:= #[]:BA}&&true))) then bif !bR t.V then q1 else q0 else q0) (by kernel_rfl)
 dsimp only
 have e:∀v:aQ,(v.K==0&&(v.N==0&&(ByteArray.toList v.S==ByteArray.toList {data:= #[]}&&true)))=decide (v=dx):=fun v=>oy v dx
 simp only[e]
 simp only[fY]
 repeat' (refine af (fun h=> ?_) (fun h=> ?_))
 all_goals (refine cj ?_;grind)
def arV:HH:=⟨_,aqJ⟩
def aaq:bp UU where
 α:=ak
 md:=[.ro]
 of:=o1 (oA .aA)
 ds:=fun x=>[dA .aA x]
 pre:=fun _=>[]
 bT:=fun t=>⟨[dO (fY t)],[],[]⟩
 law:=l1 (lA .aA)
def atb:aaq.α->Nat->Option (bY UU):=fun t=>aN []
def apy:=us [Vy,WR,Ec,SW]
theorem aqX:Holds EE (53,aaq):=by
 refine holds_of ax func53 aaq (by kernel_rfl) apy (aE _) atb (fun(t:ak) hp hb=> ?_)
 have bi:=qX (x:=t) (hb _ m0)
 have nL:=bi.1
 have lc:=bi.2.1
 have qM:=bi.2.2.1
 have tE:=bi.2.2.2
 clear hp hb
 apply @ve _ (let q0:=bif decide (0<=t.kf/\t.kf<=1000001000) then bif t.V.K==0&&(t.V.N==0&&(ByteArray.toList t.V.S==ByteArray.toList {data:= #[]:BA}&&true)) then Lb true (fY t) else Lb (bR t.V) (fY t) else Lb false (fY t);let q1:=Lb false (fY t);let q2:=bif t.State==2 then bif t.bE==0 then q1 else q0 else q0;bif !bI t.F then q1 else bif !fH t.aW then q1 else bif !decide (1<=t.State/\t.State<=4) then q1 else bif !decide (0<=t.bE/\t.bE<=4) then q1 else bif t.State==1 then bif t.bE !=0 then q1 else q2 else q2) (by kernel_rfl)
 dsimp only
 have e:∀v:aQ,(v.K==0&&(v.N==0&&(ByteArray.toList v.S==ByteArray.toList {data:= #[]}&&true)))=decide (v=dx):=fun v=>oy v dx
 simp only[e]
 simp only[fY]
 repeat' (refine af (fun h=> ?_) (fun h=> ?_))
 all_goals (refine cj ?_;grind)
def ar4:HH:=⟨_,aqX⟩
def aai:bp UU where
 α:=(List ak)×(List (DA UU)->Option Value)
 md:=[.ro,.ro]
 of:=oC (oL .aA) (o1 oF)
 ds:=fun x=>[dL .aA x.1,dF x.2]
 pre:=fun(l,p)=>[∀j:Nat,j<l.length->p [eV (List.getD l j aR)]=some (.bool (cy (p [eV (List.getD l j aR)])))]
 bT:=fun(l,p)=>⟨[dI (kT l.length (fun j=>cy (p [eV (List.getD l j aR)])))],[],[]⟩
 law:=lC (lL .aA) (l1 lF)
def HA(l:(List ak))(p:(List (DA UU)->Option Value)):Int×Unit->Prop:=fun(i,_)=>0<=i/\i<=l.length/\∀j:Nat,(j:Int)<i->cy (p [eV (List.getD l j aR)])=false
def Hc(l:(List ak))(p:(List (DA UU)->Option Value)):Int×Unit->Nat:=fun(i,_)=>l.length-i.toNat
def as5:aai.α->Nat->Option (bY UU):=fun(l,p)=>aN [(2,bh [.slot 8 (8,1024) (.lit (.int .i64))] (fun _=>HA l p) (Hc l p))]
def apq:List (FuncId×bp UU):=[]
theorem aqP:Holds EE (61,aai):=by
 refine holds_of ax func61 aai (by kernel_rfl) apq all_nil as5 (fun x hp hb=> ?_)
 obtain⟨l,p⟩:=x
 have gP:l.length<=9223372036854775807:=jO (hb _ m0)
 have bC:∀j:Nat,j<l.length->p [eV (List.getD l j aR)]=some (.bool (cy (p [eV (List.getD l j aR)]))):=hp _ m0
 clear hp hb
 apply @ve _ (HA l p (0,())/\∀(y:Int×PUnit),let x1:ak:=List.getD l y.1.toNat aR;let x0:Bool:=cy (p [{agg:=true,cs:=[CS x1.F.Kind,CL .aM x1.F.aj,CS x1.aW,CI x1.State,CI x1.bE,CI x1.kf,CI x1.V.K,CI x1.V.N,CS x1.V.S]:DA UU}]);let q0:=(IntKind.wrap IntKind.i64 (y.1+1),());HA l p y->bif decide (y.1<(l.length:Int)) then 0<=y.1/\y.1.toNat<l.length/\p [{agg:=true,cs:=[CS x1.F.Kind,CL .aM x1.F.aj,CS x1.aW,CI x1.State,CI x1.bE,CI x1.kf,CI x1.V.K,CI x1.V.N,CS x1.V.S]:DA UU}]=some (Value.bool x0)/\bif x0 then Li y.1 (kT (l.length) fun(j:Nat)=>cy (p [eV (List.getD l j aR)])) else HA l p q0/\Hc l p q0<Hc l p y else Li (-1) (kT (l.length) fun(j:Nat)=>cy (p [eV (List.getD l j aR)]))) (by kernel_rfl)
 dsimp only
 refine⟨⟨by omega,by omega,by intro j hj;omega⟩,?_⟩
 rintro⟨i,⟨⟩⟩ ⟨h1,h2,hR⟩
 simp only[eV] at*
 refine af (fun hc=> ?_) (fun hc=> ?_)
 ·have hc:=yT hc
  rw[wrap_i64 (by omega) (by omega)]
  refine⟨by omega,by omega,bC i.toNat (by omega),af (fun h=>oe ?_) (fun h=>⟨⟨by omega,by omega,ju (p:=fun j=>cy (p [eV (List.getD l j aR)])) h1 hR h⟩,by simp only[Hc];omega⟩)⟩
  rw[gH (i:=i.toNat) (by omega) h (fun j hj=>hR j (by omega))]
  omega
 ·have hc:=yF hc
  exact oe (jM (fun j hj=>hR j (by omega))).symm
def ahQ:HH:=⟨_,aqP⟩
def vz:bp UU where
 α:=ak×aJ
 md:=[.ro,.ro]
 of:=oC (oA .aA) (o1 (oP .bP))
 ds:=fun x=>[dA .aA x.1,dP .bP x.2]
 pre:=fun _=>[]
 bT:=fun(t,f)=>⟨[dO (decide (t.F=f))],[],[]⟩
 law:=lC (lA .aA) (l1 (lP .bP))
def akQ:vz.α->Nat->Option (bY UU):=fun(t,f)=>aN []
def afM:=us [ahR]
theorem ahz:Holds EE (107,vz):=by
 refine holds_of ax func107 vz (by kernel_rfl) afM (aE _) akQ (fun x hp hb=> ?_)
 obtain⟨t,f⟩:=x
 have bi:=qX (x:=t) (hb _ m0)
 have nL:=bi.1
 have lc:=bi.2.1
 have qM:=bi.2.2.1
 have tE:=bi.2.2.2
 have fg:=N0 (x:=f) (hb _ m1)
 have gb:=fg.1
 have eh:=fg.2
 clear hp hb
 apply @ve _ (Lb (decide (t.F=f)) (decide (t.F=f))) (by kernel_rfl)
 exact bN _
def ai9:HH:=⟨_,ahz⟩
def aap:bp UU where
 α:=(List ak)×aJ
 md:=[.ro,.ro]
 of:=oC (oL .aA) (o1 (oA .bP))
 ds:=fun x=>[dL .aA x.1,dA .bP x.2]
 pre:=fun _=>[]
 bT:=fun(l,f)=>⟨[dI (placeOf l f)],[],[]⟩
 law:=lC (lL .aA) (l1 (lA .bP))
def ata:aap.α->Nat->Option (bY UU):=fun(l,f)=>aN []
def apx:=us [ahQ,ai9]
theorem aqW:Holds EE (54,aap):=by
 refine holds_of ax func54 aap (by kernel_rfl) apx (aE _) ata (fun x hp hb=> ?_)
 obtain⟨l,f⟩:=x
 have gP:l.length<=9223372036854775807:=jO (hb _ m0)
 have fg:=fB (x:=f) (hb _ m1)
 have gb:=fg.1
 have eh:=fg.2
 clear hp hb
 apply @ve _ ((∀(j:Nat),j<l.length->ic vz [DV.ptr [CS f.Kind,CL .aM f.aj]] [eV (List.getD l j aR)]=some (Value.bool (cy (ic vz [DV.ptr [CS f.Kind,CL .aM f.aj]] [eV (List.getD l j aR)]))))/\Li (kT (l.length) fun(j:Nat)=>cy (ic vz [DV.ptr [CS f.Kind,CL .aM f.aj]] [eV (List.getD l j aR)])) (placeOf l f)) (by kernel_rfl)
 have hc:∀x:ak,ic vz [.ptr [.lit (.string f.Kind),.sl .aM f.aj]] [eV x]=some (.bool (decide (x.F=f))):=fun x=>xA (x:=(x,f)) rfl rfl rfl rfl (by simp[vz])
 refine⟨fun j hj=> ?_,oe ?_⟩
 ·show ic vz [.ptr [.lit (.string f.Kind),.sl .aM f.aj]] [eV (List.getD l j aR)]=_
  rw[hc];rfl
 ·exact vQ fun j hj=>by
   show cy (ic vz [.ptr [.lit (.string f.Kind),.sl .aM f.aj]] [eV (List.getD l j aR)])=_
   rw[hc];rfl
def ar3:HH:=⟨_,aqW⟩
def aaV:bp UU where
 α:=(List ak)
 md:=[.ro]
 of:=o1 (oL .aA)
 ds:=fun x=>[dL .aA x]
 pre:=fun _=>[]
 bT:=fun l=>⟨[dO (bc l)],[],[]⟩
 law:=l1 (lL .aA)
def HT(l:(List ak)):Int×Unit->Prop:=fun(i,_)=>0<=i/\i<=l.length/\l.length<=30/\∀j:Nat,(j:Int)<i->jx l j=true
def zt(l:(List ak)):Int×Unit->Nat:=fun(i,_)=>l.length-i.toNat
def atH:aaV.α->Nat->Option (bY UU):=fun l=>aN [(4,bh [.slot 10 (10,1024) (.lit (.int .i64))] (fun _=>HT l) (zt l))]
def ap4:=us [ar4,ar3]
theorem arv:Holds EE (20,aaV):=by
 refine holds_of ax func20 aaV (by kernel_rfl) ap4 (aE _) atH (fun(l:(List ak)) hp hb=> ?_)
 have gP:l.length<=9223372036854775807:=jO (hb _ m0)
 clear hp hb
 apply @ve _ (let x0:Int:=(l.length:Int);let q0:=Lb false (bc l);bif decide (x0>30) then q0 else HT l (0,())/\∀(y:Int×PUnit),let q1:=(IntKind.wrap IntKind.i64 (y.1+1),());HT l y->bif decide (y.1<x0) then 0<=y.1/\y.1.toNat<l.length/\bif !fY (List.getD l y.1.toNat aR) then q0 else bif placeOf l (List.getD l y.1.toNat aR).F !=y.1 then q0 else HT l q1/\zt l q1<zt l y else Lb true (bc l)) (by kernel_rfl)
 dsimp only
 refine af (fun h=>bw ?_) (fun h=>⟨⟨by omega,by omega,by have h:=yF h;omega,by intro j hj;omega⟩,?_⟩)
 ·have h:=yT h;simp only[bc];rw[decide_eq_false (by omega)];rfl
 rintro⟨i,⟨⟩⟩ ⟨h1,h2,h3,hR⟩
 simp only
 refine af (fun hc=> ?_) (fun hc=> ?_)
 ·have hc:=yT hc
  have hN:jx l i.toNat=false->bc l=false:=fun h=>by
   have hf:allI l.length (jx l)=false:=gK (j:=i.toNat) (by omega) h
   simp only[bc,hf];simp
  have AA:(placeOf l (List.getD l i.toNat aR).F=i)↔(anyI i.toNat fun k=>decide ((List.getD l k aR).F=(List.getD l i.toNat aR).F))=false:=by
   rw[nR]
   unfold placeOf
   rcases jA l.length (fun k=>decide ((List.getD l k aR).F=(List.getD l i.toNat aR).F)) with⟨g1,g2⟩|⟨m,g1,g2,g3,g4⟩
   ·have:=g2 i.toNat (by omega);simp at this
   ·rw[g2]
    constructor
    ·intro e j hj;exact g4 j (by omega)
    ·intro e
     by_cases hm:m<i.toNat
     ·have:=e m hm;rw[g3] at this;cases this
     ·by_cases ul:i.toNat<m
      ·have:=g4 i.toNat ul;simp at this
      ·omega
  simp(disch:=omega) only[wrap_i64]
  have hm:zt l (i+1,PUnit.unit)<zt l (i,()):=by simp only[zt];omega
  refine⟨by omega,by omega,af (fun h=>bw (hN ?_)) (fun h=>af (fun h'=>bw (hN ?_)) (fun h'=>⟨⟨by omega,by omega,h3,fW h1 hR ?_⟩,hm⟩))⟩
  ·simp only[jx];grind
  ·have:¬(placeOf l (List.getD l i.toNat aR).F=i):=by simpa using h'
   rw[AA] at this
   simp only[jx];grind
  ·have:placeOf l (List.getD l i.toNat aR).F=i:=by simpa using h'
   rw[AA] at this
   simp only[jx,this];grind
 ·have hc:=yF hc
  have hA:allI l.length (jx l)=true:=iu fun j hj=>hR j (by omega)
  refine cj ?_
  simp only[bc,hA];grind
def asn:HH:=⟨_,arv⟩
def aaN:bp UU where
 α:=(List ak)
 md:=[.ro]
 of:=o1 (oL .aA)
 ds:=fun x=>[dL .aA x]
 pre:=fun _=>[]
 bT:=fun l=>⟨[dO (bc l)],[],[]⟩
 law:=l1 (lL .aA)
def HO(l:(List ak)):Int×Unit->Prop:=fun(i,_)=>0<=i/\i<=l.length/\∀j:Nat,(j:Int)<i->jx l j=true
def zo(l:(List ak)):Int×Unit->Nat:=fun(i,_)=>l.length-i.toNat
def HN(l:(List ak)):Int×Int×Unit->Int×Int×Unit->Prop:=fun(i0,k0,_) (i,k,_)=>i=i0/\0<=k/\k<=i/\∀j:Nat,(j:Int)<k->decide ((List.getD l j aR).F=(List.getD l i.toNat aR).F)=false
def Hm(l:(List ak)):Int×Int×Unit->Nat:=fun(i,k,_)=>i.toNat-k.toNat
def aty:aaN.α->Nat->Option (bY UU):=fun l=>aN [(2,bh [.slot 3 (3,1024) (.lit (.int .i64))] (fun _=>HO l) (zo l)),(7,bh [.slot 3 (3,1024) (.lit (.int .i64)),.slot 4 (4,1024) (.lit (.int .i64))] (HN l) (Hm l))]
def apV:=us [arV,Vw]
theorem arl:Holds EE (29,aaN):=by
 refine holds_of ax func29 aaN (by kernel_rfl) apV (aE _) aty (fun(l:(List ak)) hp hb=> ?_)
 have gP:l.length<=9223372036854775807:=jO (hb _ m0)
 clear hp hb
 apply @ve _ (let x0:Int:=(l.length:Int);HO l (0,())/\∀(y:Int×PUnit),let q0:=(y.1,0,());HO l y->bif decide (y.1<x0) then 0<=y.1/\y.1.toNat<l.length/\bif !fY (List.getD l y.1.toNat aR) then Lb false (bc l) else HN l q0 q0/\∀(aS:Int×Int×PUnit),let x1:Nat:=aS.2.1.toNat;let q1:=(aS.1,IntKind.wrap IntKind.i64 (aS.2.1+1),());let q2:=(IntKind.wrap IntKind.i64 (aS.1+1),());HN l q0 aS->bif decide (aS.2.1<aS.1) then 0<=aS.1/\aS.1.toNat<l.length/\0<=aS.2.1/\x1<l.length/\bif decide ((List.getD l aS.1.toNat aR).F=(List.getD l x1 aR).F) then Lb false (bc l) else HN l q0 q1/\Hm l q1<Hm l aS else HO l q2/\zo l q2<zo l y else Lb (decide (x0<=30)) (bc l)) (by kernel_rfl)
 dsimp only
 refine⟨⟨by omega,by omega,by intro j hj;omega⟩,?_⟩
 rintro⟨i,⟨⟩⟩ ⟨h1,h2,hR⟩
 simp only
 refine af (fun hc=> ?_) (fun hc=> ?_)
 ·have hc:=yT hc
  have hN:jx l i.toNat=false->bc l=false:=fun h=>by
   have hf:allI l.length (jx l)=false:=gK (j:=i.toNat) (by omega) h
   simp only[bc,hf];simp
  have hm:zo l (i+1,PUnit.unit)<zo l (i,()):=by simp only[zo];omega
  refine⟨by omega,by omega,af (fun h=>bw (hN ?_)) (fun h=>⟨⟨rfl,by omega,by omega,by intro j hj;omega⟩,?_⟩)⟩
  ·simp only[jx];grind
  rintro⟨i,k,⟨⟩⟩ ⟨rfl,g1,g2,gR⟩
  simp only
  refine af (fun hk=> ?_) (fun hk=> ?_)
  ·have hk:=yT hk
   simp(disch:=omega) only[wrap_i64]
   refine⟨by omega,by omega,by omega,by omega,af (fun n9=>bw (hN ?_)) (fun n9=>⟨⟨rfl,by omega,by omega,ju g1 gR ?_⟩,by simp only[Hm];omega⟩)⟩
   ·have ha:(anyI i.toNat fun k=>decide ((List.getD l k aR).F=(List.getD l i.toNat aR).F))=true:=ir (j:=k.toNat) (by omega) (by grind)
    simp only[jx,ha];simp
   ·grind
  ·have hk:=yF hk
   simp(disch:=omega) only[wrap_i64]
   refine⟨⟨by omega,by omega,fW h1 hR ?_⟩,hm⟩
   have ha:(anyI i.toNat fun k=>decide ((List.getD l k aR).F=(List.getD l i.toNat aR).F))=false:=gg fun j hj=>gR j (by omega)
   simp only[jx,ha];grind
 ·have hc:=yF hc
  have hA:allI l.length (jx l)=true:=iu fun j hj=>hR j (by omega)
  refine cj ?_
  simp only[bc,hA];grind
def asf:HH:=⟨_,arl⟩
def lK(b:Int):Bool:=decide (65<=b/\b<=90)
def yk(b:Int):Bool:=kB b||lK b
def ix(s:BA):Bool:=decide (1<=s.size/\s.size<=12)&&lK (List.getD (bs s) 0 0).toNat&&(bs s).all (jY yk)
def fU(a:cp):Bool:=bif decide (a.K=1) then ix a.S&&decide (a.V=dx) else bif decide (a.K=2) then bR a.V&&decide (a.S=ai) else bif decide (a.K=3) then decide (a.S=ai)&&decide (a.V=dx) else false
def fj(a:cp):Bool:=fU a&& !decide (a.K=3)
def fF(p:cn):Bool:=bm p.Kind&&decide (p.ay.length<=5)&&p.ay.all fU
def jc(c:c_):Bool:=decide (1<=c.Op/\c.Op<=3)&&fj c.L&&fj c.R
def DK:BA:=⟨#[43]⟩
def v_:BA:=⟨#[45]⟩
def fx(e:b7):Bool:=bif decide (e.Op=ai) then fj e.L&&decide (e.R=nW) else bif decide (e.Op=DK)||decide (e.Op=v_) then fj e.L&&fj e.R else false
def eG(l:List b7):Bool:=decide (l.length<=5)&&l.all fx
def z_(a:eX):Bool:=decide (a.Name=ai)&&decide (a.ay.length=0)&&decide (a.aW=ai)
def cW(a:eX):Bool:=
 bif decide (a.Kind=1) then bm a.Name&&eG a.ay&&decide (a.N=0)&&decide (a.aW=ai)
 else bif decide (a.Kind=2) then z_ a&&decide (0<=a.N/\a.N<=7)
 else bif decide (a.Kind=3) then bm a.Name&&eG a.ay&&decide (a.N=0)&&fH a.aW
 else bif decide (a.Kind=4) then bm a.Name&&eG a.ay&&decide (0<=a.N/\a.N<=100000)&&decide (a.aW=ai)
 else bif decide (a.Kind=5)||decide (a.Kind=6) then z_ a&&decide (a.N=0) else false
theorem JU(a b:cp):(a.K==b.K&&(ByteArray.toList a.S==ByteArray.toList b.S&&(a.V.K==b.V.K&&(a.V.N==b.V.N&&(ByteArray.toList a.V.S==ByteArray.toList b.V.S&&true))&&true)))=decide (a=b):=by
 obtain⟨K,S,K2,N2,S2⟩:=a
 obtain⟨K',S',K2',N2',S2'⟩:=b
 simp only[bx,EL]
 rw[H2]
 simp only[cK,beq_iff_eq,decide_eq_true_eq,cp.mk.injEq,aQ.mk.injEq]
def Q4:bp UU where
 α:=Int
 md:=[.ro]
 of:=o1 oY
 ds:=fun x=>[dY x]
 pre:=fun _=>[]
 bT:=fun b=>⟨[dO (lK b)],[],[]⟩
 law:=l1 lY
def ajm:Q4.α->Nat->Option (bY UU):=fun b=>aN []
def aei:List (FuncId×bp UU):=[]
theorem af4:Holds EE (203,Q4):=by
 refine holds_of ax func203 Q4 (by kernel_rfl) aei all_nil ajm (fun(b:Int) hp hb=> ?_)
 skip
 clear hp hb
 apply @ve _ (bif decide (b≥65) then Lb (decide (b<=90)) (lK b) else Lb false (lK b)) (by kernel_rfl)
 refine af (fun h=>cj ?_) (fun h=>cj ?_)<;>grind [lK]
def ah2:HH:=⟨_,af4⟩
def Q3:bp UU where
 α:=Int
 md:=[.ro]
 of:=o1 oY
 ds:=fun x=>[dY x]
 pre:=fun c=>[0<=c/\c<=255]
 bT:=fun c=>⟨[dO (lK c)],[],[]⟩
 law:=l1 lY
def ajl:Q3.α->Nat->Option (bY UU):=fun c=>aN []
def aeh:=us [sC]
theorem af3:Holds EE (204,Q3):=by
 refine holds_of ax func204 Q3 (by kernel_rfl) aeh (aE _) ajl (fun(c:Int) hp hb=> ?_)
 have bC:0<=c/\c<=255:=hp _ m0
 clear hp hb
 apply @ve _ (Lb (decide (65<=IntKind.wrap IntKind.i64 c/\IntKind.wrap IntKind.i64 c<=90)) (lK c)) (by kernel_rfl)
 rw[wrap_i64 (by omega) (by omega)]
 exact cj rfl
def ah1:HH:=⟨_,af3⟩
def Ra:bp UU where
 α:=BA
 md:=[.ro]
 of:=o1 oS
 ds:=fun x=>[dS x]
 pre:=fun _=>[]
 bT:=fun s=>⟨[dO (ix s)],[],[]⟩
 law:=l1 lS
def Bw(s:BA):Int×Unit->Prop:=fun(i,_)=>0<=i/\i<=s.size/\((bs s).drop i.toNat).all (jY yk)=(bs s).all (jY yk)/\(0<i->lK (List.getD (bs s) 0 0).toNat=true)
def uQ(s:BA):Int×Unit->Nat:=fun(i,_)=>s.size-i.toNat
def aju:Ra.α->Nat->Option (bY UU):=fun s=>aN [(2,bh [.slot 3 (3,1024) (.lit (.int .i64))] (fun _=>Bw s) (uQ s))]
def aeq:=us [ah1,SU,sC]
theorem aga:Holds EE (195,Ra):=by
 refine holds_of ax func195 Ra (by kernel_rfl) aeq (aE _) aju (fun(s:BA) hp hb=> ?_)
 have Aj:=Ao (s:=s) (hb _ m0)
 clear hp hb
 apply @ve _ (let q0:=(↑(ByteArray.size s):Int);Bw s (0,())/\∀(y:Int×PUnit),let x0:Int:=(↑(UInt8.toNat (List.getD s.data.toList y.1.toNat (0:UInt8))):Int);let q1:=(IntKind.wrap IntKind.i64 (y.1+1),());let q2:=Bw s q1/\uQ s q1<uQ s y;Bw s y->bif decide (y.1<q0) then 0<=y.1/\y.1.toNat<ByteArray.size s/\(0<=x0/\x0<=255)/\bif !lK x0 then bif y.1==0 then Lb false (ix s) else 0<=y.1/\y.1.toNat<ByteArray.size s/\(0<=x0/\x0<=255)/\bif !kB x0 then Lb false (ix s) else q2 else q2 else Lb (decide (1<=q0/\q0<=12)) (ix s)) (by kernel_rfl)
 dsimp only
 refine⟨⟨by omega,by omega,rfl,by omega⟩,?_⟩
 rintro⟨i,⟨⟩⟩ ⟨h1,h2,hR,hS⟩
 have hl:=sb s
 simp only[FJ]
 refine af (fun hc=> ?_) (fun hc=> ?_)
 ·have hc:=yT hc
  have hb:=(List.getD (bs s) i.toNat 0).toNat_lt
  rw[dE _ _ 0 h1 (by omega)] at hR
  rw[wrap_i64 (by omega) (by omega)]
  have hN:(bs s).all (jY yk)=false->ix s=false:=fun h=>by simp[ix,h]
  have hm:uQ s (i+1,PUnit.unit)<uQ s (i,()):=by simp only[uQ];omega
  refine⟨by omega,by omega,⟨by omega,by omega⟩,af (fun h=>af (fun h'=>bw ?_) (fun h'=>⟨by omega,by omega,⟨by omega,by omega⟩,af (fun n9=>bw (hN ?_)) (fun n9=>⟨⟨by omega,by omega,?_,fun _=>hS ?_⟩,hm⟩)⟩)) (fun h=>⟨⟨by omega,by omega,?_,fun _=> ?_⟩,hm⟩)⟩
  ·have h':i=0:=by simpa using h'
   subst h'
   have h:lK ((List.getD (bs s) 0 0).toNat:Int)=false:=by simpa using h
   simp only[ix,h];simp
  ·rw[<-hR];simp only[jY,yk];simp at h n9;simp[h,n9]
  ·rw[<-hR];simp only[jY,yk];simp at h n9;simp[h,n9]
  ·have h':¬i=0:=by simpa using h'
   omega
  ·rw[<-hR];simp only[jY,yk];simp at h;simp[h]
  ·by_cases hz:i=0
   ·subst hz;simpa using h
   ·exact hS (by omega)
 ·have hc:=yF hc
  rw[cg _ (by omega)] at hR
  refine cj ?_
  simp only[ix,<-hR]
  by_cases hz:0<i
  ·rw[hS hz];simp only[Oj];grind
  ·rw[decide_eq_false (by omega),decide_eq_false (by omega)];rfl
def ah9:HH:=⟨_,aga⟩
def Rb:bp UU where
 α:=BA
 md:=[.ro]
 of:=o1 oS
 ds:=fun x=>[dS x]
 pre:=fun _=>[]
 bT:=fun s=>⟨[dO (ix s)],[],[]⟩
 law:=l1 lS
def Bx(s:BA):Int×Unit->Prop:=fun(i,_)=>0<=i/\i<=s.size/\1<=s.size/\s.size<=12/\lK (List.getD (bs s) 0 0).toNat=true/\((bs s).drop i.toNat).all (jY yk)=(bs s).all (jY yk)
def uR(s:BA):Int×Unit->Nat:=fun(i,_)=>s.size-i.toNat
def ajv:Rb.α->Nat->Option (bY UU):=fun s=>aN [(4,bh [.slot 3 (3,1024) (.lit (.int .i64))] (fun _=>Bx s) (uR s))]
def aer:=us [ah2,WH]
theorem agb:Holds EE (194,Rb):=by
 refine holds_of ax func194 Rb (by kernel_rfl) aer (aE _) ajv (fun(s:BA) hp hb=> ?_)
 have Aj:=Ao (s:=s) (hb _ m0)
 clear hp hb
 apply @ve _ (let q0:=(↑(ByteArray.size s):Int);let q1:=Lb false (ix s);bif decide (q0<1) then q1 else bif decide (q0>12) then q1 else(0:Int)<=(0:Int)/\Int.toNat 0<ByteArray.size s/\bif !lK (↑(UInt8.toNat (List.getD s.data.toList (Int.toNat 0) (0:UInt8))):Int) then q1 else Bx s (0,())/\∀(y:Int×PUnit),let x0:Int:=(↑(UInt8.toNat (List.getD s.data.toList y.1.toNat (0:UInt8))):Int);let q2:=(IntKind.wrap IntKind.i64 (y.1+1),());let q3:=Bx s q2/\uR s q2<uR s y;Bx s y->bif decide (y.1<q0) then 0<=y.1/\y.1.toNat<ByteArray.size s/\bif !kB x0 then 0<=y.1/\y.1.toNat<ByteArray.size s/\bif !lK x0 then q1 else q3 else q3 else Lb true (ix s)) (by kernel_rfl)
 dsimp only
 have hl:=sb s
 simp only[FJ]
 refine af (fun h=>bw ?_) (fun h=>af (fun h'=>bw ?_) (fun h'=> ?_))
 ·have h:=yT h;simp only[ix];rw[decide_eq_false (by omega)];rfl
 ·have h':=yT h';simp only[ix];rw[decide_eq_false (by omega)];rfl
 have h:=yF h
 have h':=yF h'
 refine⟨by omega,by omega,af (fun g=>bw ?_) (fun g=>⟨⟨by omega,by omega,by omega,by omega,by simpa using g,rfl⟩,?_⟩)⟩
 ·have g:lK ((List.getD (bs s) 0 0).toNat:Int)=false:=by simpa using g
  simp only[ix,g];simp
 rintro⟨i,⟨⟩⟩ ⟨h1,h2,h3,h4,hS,hR⟩
 simp only
 refine af (fun hc=> ?_) (fun hc=> ?_)
 ·have hc:=yT hc
  rw[dE _ _ 0 h1 (by omega)] at hR
  rw[wrap_i64 (by omega) (by omega)]
  have hN:(bs s).all (jY yk)=false->ix s=false:=fun h=>by simp[ix,h]
  have hm:uR s (i+1,PUnit.unit)<uR s (i,()):=by simp only[uR];omega
  refine⟨by omega,by omega,af (fun h=>⟨by omega,by omega,af (fun n9=>bw (hN ?_)) (fun n9=>⟨⟨by omega,by omega,h3,h4,hS,?_⟩,hm⟩)⟩) (fun h=>⟨⟨by omega,by omega,h3,h4,hS,?_⟩,hm⟩)⟩
  ·rw[<-hR];simp only[jY,yk];simp at h n9;simp[h,n9]
  ·rw[<-hR];simp only[jY,yk];simp at h n9;simp[h,n9]
  ·rw[<-hR];simp only[jY,yk];simp at h;simp[h]
 ·have hc:=yF hc
  rw[cg _ (by omega)] at hR
  refine mV ?_
  simp only[ix,<-hR,hS,decide_eq_true (show 1<=s.size/\s.size<=12 from⟨h3,h4⟩)];rfl
def ah':HH:=⟨_,agb⟩
def Rk:bp UU where
 α:=cp
 md:=[.ro]
 of:=o1 (oA .er)
 ds:=fun x=>[dA .er x]
 pre:=fun _=>[]
 bT:=fun a=>⟨[dO (fU a)],[],[]⟩
 law:=l1 (lA .er)
def ajF:Rk.α->Nat->Option (bY UU):=fun a=>aN []
def aeB:=us [ah9,My]
theorem agm:Holds EE (184,Rk):=by
 refine holds_of ax func184 Rk (by kernel_rfl) aeB (aE _) ajF (fun(a:cp) hp hb=> ?_)
 have bi:=sd (x:=a) (hb _ m0)
 have qu:=bi.1
 have qO:=bi.2
 clear hp hb
 apply @ve _ (let x0:Bool:=ByteArray.toList a.S==ByteArray.toList {data:= #[]:BA};let q0:=Lb (a.V.K==0&&(a.V.N==0&&(ByteArray.toList a.V.S==ByteArray.toList {data:= #[]:BA}&&true))) (fU a);let q1:=Lb false (fU a);bif a.K==1 then bif ix a.S then q0 else q1 else bif a.K==2 then bif bR a.V then Lb x0 (fU a) else q1 else bif a.K==3 then bif x0 then q0 else q1 else q1) (by kernel_rfl)
 dsimp only
 have ev:∀v:aQ,(v.K==0&&(v.N==0&&(ByteArray.toList v.S==ByteArray.toList {data:= #[]}&&true)))=decide (v=dx):=fun v=>oy v dx
 have e:∀s:BA,(ByteArray.toList s==ByteArray.toList {data:= #[]})=decide (s=ai):=fun s=>bx _ _
 simp only[ev,e,fU]
 repeat' (refine af (fun h=> ?_) (fun h=> ?_))
 all_goals (refine cj ?_;grind)
def SL:HH:=⟨_,agm⟩
def Rn:bp UU where
 α:=cp
 md:=[.ro]
 of:=o1 (oA .er)
 ds:=fun x=>[dA .er x]
 pre:=fun _=>[]
 bT:=fun a=>⟨[dO (fU a)],[],[]⟩
 law:=l1 (lA .er)
def ajI:Rn.α->Nat->Option (bY UU):=fun a=>aN []
def aeE:=us [ah',SW]
theorem agp:Holds EE (181,Rn):=by
 refine holds_of ax func181 Rn (by kernel_rfl) aeE (aE _) ajI (fun(a:cp) hp hb=> ?_)
 have bi:=sd (x:=a) (hb _ m0)
 have qu:=bi.1
 have qO:=bi.2
 clear hp hb
 apply @ve _ (let x0:Bool:=ByteArray.toList a.S==ByteArray.toList {data:= #[]:BA};let q0:=Lb (a.V.K==0&&(a.V.N==0&&(ByteArray.toList a.V.S==ByteArray.toList {data:= #[]:BA}&&true))) (fU a);let q1:=Lb false (fU a);bif a.K==1 then bif ix a.S then q0 else q1 else bif a.K==2 then bif x0 then Lb (bR a.V) (fU a) else q1 else bif a.K==3 then bif x0 then q0 else q1 else q1) (by kernel_rfl)
 dsimp only
 have ev:∀v:aQ,(v.K==0&&(v.N==0&&(ByteArray.toList v.S==ByteArray.toList {data:= #[]}&&true)))=decide (v=dx):=fun v=>oy v dx
 have e:∀s:BA,(ByteArray.toList s==ByteArray.toList {data:= #[]})=decide (s=ai):=fun s=>bx _ _
 simp only[ev,e,fU]
 repeat' (refine af (fun h=> ?_) (fun h=> ?_))
 all_goals (refine cj ?_;grind)
def Wy:HH:=⟨_,agp⟩
def RP:bp UU where
 α:=cn
 md:=[.ro]
 of:=o1 (oA .cU)
 ds:=fun x=>[dA .cU x]
 pre:=fun _=>[]
 bT:=fun p=>⟨[dO (fF p)],[],[]⟩
 law:=l1 (lA .cU)
def BJ(p:cn):Int×T8×Unit->Prop:=fun(i,b,_)=>b=(p.Kind,p.ay,p.Not,())/\0<=i/\i<=p.ay.length/\(p.ay.drop i.toNat).all fU=p.ay.all fU
def A7(p:cn):Int×T8×Unit->Nat:=fun(i,b,_)=>p.ay.length-i.toNat
def aj7:RP.α->Nat->Option (bY UU):=fun p=>aN [(2,bh [.slot 3 (3,1024) (.lit (.int .i64)),.box 1 (1,1024) [.lit .str,.shr .er,.lit .bool]] (fun _=>BJ p) (A7 p))]
def ae3:=us [SL,J4]
theorem agO:Holds EE (156,RP):=by
 refine holds_of ax func156 RP (by kernel_rfl) ae3 (aE _) aj7 (fun(p:cn) hp hb=> ?_)
 have bi:=AO (x:=p) (hb _ m0)
 have yO:=bi.1
 have yP:=bi.2
 clear hp hb
 apply @ve _ (BJ p (0,(p.Kind,p.ay,p.Not,()),())/\∀(y:Int×T17×PUnit),let x1:Nat:=y.2.1.2.1.length;let x0:Int:=(↑x1:Int);let q0:=(IntKind.wrap IntKind.i64 (y.1+1),(y.2.1.1,y.2.1.2.1,y.2.1.2.2.1,()),());BJ p y->bif decide (y.1<x0) then 0<=y.1/\y.1.toNat<x1/\bif !fU (List.getD y.2.1.2.1 y.1.toNat nW) then Lb false (fF p) else BJ p q0/\A7 p q0<A7 p y else bif bm y.2.1.1 then Lb (decide (x0<=5)) (fF p) else Lb false (fF p)) (by kernel_rfl)
 dsimp only
 refine⟨⟨rfl,by omega,by omega,rfl⟩,?_⟩
 rintro⟨i,⟨bk,ba,bn,⟨⟩⟩,⟨⟩⟩ ⟨rP,h1,h2,hR⟩
 cases rP
 simp only
 refine af (fun hc=> ?_) (fun hc=> ?_)
 ·have hc:=yT hc
  rw[dE _ _ nW h1 (by omega)] at hR
  rw[wrap_i64 (by omega) (by omega)]
  refine⟨by omega,by omega,af (fun h=>bw ?_) (fun h=>⟨⟨rfl,by omega,by omega,?_⟩,?_⟩)⟩
  ·simp only[fF,<-hR];simp at h;simp[h]
  ·rw[<-hR];simp at h;simp[h]
  ·simp only[A7];omega
 ·have hc:=yF hc
  rw[cg _ (by omega)] at hR
  simp only[fF,<-hR,Oj]
  repeat' (refine af (fun h=> ?_) (fun h=> ?_))
  all_goals (refine cj ?_;grind)
def aiz:HH:=⟨_,agO⟩
def RZ:bp UU where
 α:=cn
 md:=[.ro]
 of:=o1 (oA .cU)
 ds:=fun x=>[dA .cU x]
 pre:=fun _=>[]
 bT:=fun p=>⟨[dO (fF p)],[],[]⟩
 law:=l1 (lA .cU)
def BP(p:cn):Int×Unit->Prop:=fun(i,_)=>0<=i/\i<=p.ay.length/\p.ay.length<=5/\bm p.Kind=true/\(p.ay.drop i.toNat).all fU=p.ay.all fU
def Ba(p:cn):Int×Unit->Nat:=fun(i,_)=>p.ay.length-i.toNat
def akd:RZ.α->Nat->Option (bY UU):=fun p=>aN [(4,bh [.slot 18 (18,1024) (.lit (.int .i64))] (fun _=>BP p) (Ba p))]
def ae_:=us [Wy,N_]
theorem agX:Holds EE (147,RZ):=by
 refine holds_of ax func147 RZ (by kernel_rfl) ae_ (aE _) akd (fun(p:cn) hp hb=> ?_)
 have bi:=AO (x:=p) (hb _ m0)
 have yO:=bi.1
 have yP:=bi.2
 clear hp hb
 apply @ve _ (let x0:Int:=(p.ay.length:Int);bif !bm p.Kind then Lb false (fF p) else bif decide (x0>5) then Lb false (fF p) else BP p (0,())/\∀(y:Int×PUnit),let q0:=(IntKind.wrap IntKind.i64 (y.1+1),());BP p y->bif decide (y.1<x0) then 0<=y.1/\y.1.toNat<p.ay.length/\bif !fU (List.getD p.ay y.1.toNat nW) then Lb false (fF p) else BP p q0/\Ba p q0<Ba p y else Lb true (fF p)) (by kernel_rfl)
 dsimp only
 refine af (fun h=>bw ?_) (fun h=>af (fun h'=>bw ?_) (fun h'=> ?_))
 ·simp only[fF];simp at h;simp[h]
 ·have h':=yT h';simp only[fF];rw[decide_eq_false (show¬p.ay.length<=5 by omega)];simp
 have h':=yF h'
 refine⟨⟨by omega,by omega,by omega,by simpa using h,rfl⟩,?_⟩
 rintro⟨i,⟨⟩⟩ ⟨h1,h2,h3,h4,hR⟩
 simp only
 refine af (fun hc=> ?_) (fun hc=> ?_)
 ·have hc:=yT hc
  rw[dE _ _ nW h1 (by omega)] at hR
  rw[wrap_i64 (by omega) (by omega)]
  refine⟨by omega,by omega,af (fun h=>bw ?_) (fun h=>⟨⟨by omega,by omega,h3,h4,?_⟩,?_⟩)⟩
  ·simp only[fF,<-hR];simp at h;simp[h]
  ·rw[<-hR];simp at h;simp[h]
  ·simp only[Ba];omega
 ·have hc:=yF hc
  rw[cg _ (by omega)] at hR
  refine mV ?_
  simp only[fF,<-hR,h4,decide_eq_true h3];rfl
def aiG:HH:=⟨_,agX⟩
def RY:bp UU where
 α:=cp
 md:=[.ro]
 of:=o1 (oA .er)
 ds:=fun x=>[dA .er x]
 pre:=fun _=>[]
 bT:=fun a=>⟨[dO (fj a)],[],[]⟩
 law:=l1 (lA .er)
def akc:RY.α->Nat->Option (bY UU):=fun a=>aN []
def ae':=us [Wy]
theorem agW:Holds EE (148,RY):=by
 refine holds_of ax func148 RY (by kernel_rfl) ae' (aE _) akc (fun(a:cp) hp hb=> ?_)
 have bi:=sd (x:=a) (hb _ m0)
 have qu:=bi.1
 have qO:=bi.2
 clear hp hb
 apply @ve _ (bif a.K !=3 then Lb (fU a) (fj a) else Lb false (fj a)) (by kernel_rfl)
 simp only[fj]
 repeat' (refine af (fun h=> ?_) (fun h=> ?_))
 all_goals (refine cj ?_;grind)
def WG:HH:=⟨_,agW⟩
def Q2:bp UU where
 α:=cp
 md:=[.ro]
 of:=o1 (oA .er)
 ds:=fun x=>[dA .er x]
 pre:=fun _=>[]
 bT:=fun a=>⟨[dO (fj a)],[],[]⟩
 law:=l1 (lA .er)
def ajk:Q2.α->Nat->Option (bY UU):=fun a=>aN []
def aeg:=us [SL]
theorem af2:Holds EE (205,Q2):=by
 refine holds_of ax func205 Q2 (by kernel_rfl) aeg (aE _) ajk (fun(a:cp) hp hb=> ?_)
 have bi:=sd (x:=a) (hb _ m0)
 have qu:=bi.1
 have qO:=bi.2
 clear hp hb
 apply @ve _ (bif fU a then Lb (a.K !=3) (fj a) else Lb false (fj a)) (by kernel_rfl)
 simp only[fj]
 repeat' (refine af (fun h=> ?_) (fun h=> ?_))
 all_goals (refine cj ?_;grind)
def ah0:HH:=⟨_,af2⟩
def RO:bp UU where
 α:=c_
 md:=[.ro]
 of:=o1 (oA .bL)
 ds:=fun x=>[dA .bL x]
 pre:=fun _=>[]
 bT:=fun c=>⟨[dO (jc c)],[],[]⟩
 law:=l1 (lA .bL)
def aj6:RO.α->Nat->Option (bY UU):=fun c=>aN []
def ae2:=us [sC,SL]
theorem agN:Holds EE (157,RO):=by
 refine holds_of ax func157 RO (by kernel_rfl) ae2 (aE _) aj6 (fun(c:c_) hp hb=> ?_)
 have bi:=DI (x:=c) (hb _ m0)
 have Jd:=bi.1
 have C8:=bi.2.1
 have Jc:=bi.2.2.1
 have C7:=bi.2.2.2
 clear hp hb
 apply @ve _ (let q0:=Lb false (jc c);bif decide (1<=c.Op/\c.Op<=3) then bif fU c.L then bif fU c.R then bif c.L.K !=3 then Lb (c.R.K !=3) (jc c) else q0 else q0 else q0 else q0) (by kernel_rfl)
 dsimp only
 simp only[jc,fj]
 repeat' (refine af (fun h=> ?_) (fun h=> ?_))
 all_goals (refine cj ?_;grind)
def aiy:HH:=⟨_,agN⟩
def ZM:bp UU where
 α:=c_
 md:=[.ro]
 of:=o1 (oA .bL)
 ds:=fun x=>[dA .bL x]
 pre:=fun _=>[]
 bT:=fun c=>⟨[dO (jc c)],[],[]⟩
 law:=l1 (lA .bL)
def asu:ZM.α->Nat->Option (bY UU):=fun c=>aN []
def aoT:=us [Ec,WG]
theorem aqf:Holds EE (97,ZM):=by
 refine holds_of ax func97 ZM (by kernel_rfl) aoT (aE _) asu (fun(c:c_) hp hb=> ?_)
 have bi:=DI (x:=c) (hb _ m0)
 have Jd:=bi.1
 have C8:=bi.2.1
 have Jc:=bi.2.2.1
 have C7:=bi.2.2.2
 clear hp hb
 apply @ve _ (bif decide (1<=c.Op/\c.Op<=3) then bif fj c.L then Lb (fj c.R) (jc c) else Lb false (jc c) else Lb false (jc c)) (by kernel_rfl)
 simp only[jc]
 repeat' (refine af (fun h=> ?_) (fun h=> ?_))
 all_goals (refine cj ?_;grind)
def arI:HH:=⟨_,aqf⟩
def Q_:bp UU where
 α:=b7
 md:=[.ro]
 of:=o1 (oA .bq)
 ds:=fun x=>[dA .bq x]
 pre:=fun _=>[]
 bT:=fun e=>⟨[dO (fx e)],[],[]⟩
 law:=l1 (lA .bq)
def ajt:Q_.α->Nat->Option (bY UU):=fun e=>aN []
def aep:=us [ah0]
theorem af_:Holds EE (196,Q_):=by
 refine holds_of ax func196 Q_ (by kernel_rfl) aep (aE _) ajt (fun(e:b7) hp hb=> ?_)
 have bi:=DG (x:=e) (hb _ m0)
 have L7:=bi.1
 have Ja:=bi.2.1
 have C6:=bi.2.2.1
 have I_:=bi.2.2.2.1
 have C5:=bi.2.2.2.2
 clear hp hb
 apply @ve _ (let x0:Bool:=ByteArray.toList e.Op==ByteArray.toList {data:= #[(43:UInt8)]:BA};let q0:=bif fj e.L then Lb (fj e.R) (fx e) else Lb false (fx e);bif ByteArray.toList e.Op==ByteArray.toList {data:= #[]:BA} then bif fj e.L then Lb (e.R.K==0&&(ByteArray.toList e.R.S==ByteArray.toList {data:= #[]:BA}&&(e.R.V.K==0&&(e.R.V.N==0&&(ByteArray.toList e.R.V.S==ByteArray.toList {data:= #[]:BA}&&true))&&true))) (fx e) else Lb false (fx e) else bif x0 then bif x0 then q0 else Lb false (fx e) else bif ByteArray.toList e.Op==ByteArray.toList {data:= #[(45:UInt8)]:BA} then q0 else Lb false (fx e)) (by kernel_rfl)
 dsimp only
 have e:∀s:BA,(ByteArray.toList s==ByteArray.toList {data:= #[]})=decide (s=ai):=fun s=>bx _ _
 have ea:∀a:cp,(a.K==0&&(ByteArray.toList a.S==ByteArray.toList {data:= #[]}&&(a.V.K==0&&(a.V.N==0&&(ByteArray.toList a.V.S==ByteArray.toList {data:= #[]}&&true))&&true)))=decide (a=nW):=fun a=>JU a nW
 have e1:∀s:BA,(ByteArray.toList s==ByteArray.toList {data:= #[43]})=decide (s=DK):=fun s=>bx _ _
 have e2:∀s:BA,(ByteArray.toList s==ByteArray.toList {data:= #[45]})=decide (s=v_):=fun s=>bx _ _
 simp only[ea]
 simp only[e,e1,e2,fx]
 repeat' (refine af (fun h=> ?_) (fun h=> ?_))
 all_goals (refine cj ?_;grind)
def ah8:HH:=⟨_,af_⟩
def Rm:bp UU where
 α:=b7
 md:=[.ro]
 of:=o1 (oA .bq)
 ds:=fun x=>[dA .bq x]
 pre:=fun _=>[]
 bT:=fun e=>⟨[dO (fx e)],[],[]⟩
 law:=l1 (lA .bq)
def ajH:Rm.α->Nat->Option (bY UU):=fun e=>aN []
def aeD:=us [WG]
theorem ago:Holds EE (182,Rm):=by
 refine holds_of ax func182 Rm (by kernel_rfl) aeD (aE _) ajH (fun(e:b7) hp hb=> ?_)
 have bi:=DG (x:=e) (hb _ m0)
 have L7:=bi.1
 have Ja:=bi.2.1
 have C6:=bi.2.2.1
 have I_:=bi.2.2.2.1
 have C5:=bi.2.2.2.2
 clear hp hb
 apply @ve _ (let x0:Bool:=ByteArray.toList e.Op==ByteArray.toList {data:= #[(43:UInt8)]:BA};let q0:=bif fj e.L then Lb (fj e.R) (fx e) else Lb false (fx e);bif ByteArray.toList e.Op==ByteArray.toList {data:= #[]:BA} then bif fj e.L then Lb (e.R.K==0&&(ByteArray.toList e.R.S==ByteArray.toList {data:= #[]:BA}&&(e.R.V.K==0&&(e.R.V.N==0&&(ByteArray.toList e.R.V.S==ByteArray.toList {data:= #[]:BA}&&true))&&true))) (fx e) else Lb false (fx e) else bif x0 then bif x0 then q0 else Lb false (fx e) else bif ByteArray.toList e.Op==ByteArray.toList {data:= #[(45:UInt8)]:BA} then q0 else Lb false (fx e)) (by kernel_rfl)
 dsimp only
 have e:∀s:BA,(ByteArray.toList s==ByteArray.toList {data:= #[]})=decide (s=ai):=fun s=>bx _ _
 have ea:∀a:cp,(a.K==0&&(ByteArray.toList a.S==ByteArray.toList {data:= #[]}&&(a.V.K==0&&(a.V.N==0&&(ByteArray.toList a.V.S==ByteArray.toList {data:= #[]}&&true))&&true)))=decide (a=nW):=fun a=>JU a nW
 have e1:∀s:BA,(ByteArray.toList s==ByteArray.toList {data:= #[43]})=decide (s=DK):=fun s=>bx _ _
 have e2:∀s:BA,(ByteArray.toList s==ByteArray.toList {data:= #[45]})=decide (s=v_):=fun s=>bx _ _
 simp only[ea]
 simp only[e,e1,e2,fx]
 repeat' (refine af (fun h=> ?_) (fun h=> ?_))
 all_goals (refine cj ?_;grind)
def aik:HH:=⟨_,ago⟩
def Rj:bp UU where
 α:=(List b7)
 md:=[.ro]
 of:=o1 (oL .bq)
 ds:=fun x=>[dL .bq x]
 pre:=fun _=>[]
 bT:=fun es=>⟨[dO (eG es)],[],[]⟩
 law:=l1 (lL .bq)
def BC(es:(List b7)):Int×Unit->Prop:=fun(i,_)=>0<=i/\i<=es.length/\(es.drop i.toNat).all fx=es.all fx
def A0(es:(List b7)):Int×Unit->Nat:=fun(i,_)=>es.length-i.toNat
def ajE:Rj.α->Nat->Option (bY UU):=fun es=>aN [(2,bh [.slot 3 (3,1024) (.lit (.int .i64))] (fun _=>BC es) (A0 es))]
def aeA:=us [ah8]
theorem agl:Holds EE (185,Rj):=by
 refine holds_of ax func185 Rj (by kernel_rfl) aeA (aE _) ajE (fun(es:(List b7)) hp hb=> ?_)
 have ady:es.length<=9223372036854775807:=jO (hb _ m0)
 clear hp hb
 apply @ve _ (let x0:Int:=(es.length:Int);BC es (0,())/\∀(y:Int×PUnit),let q0:=(IntKind.wrap IntKind.i64 (y.1+1),());BC es y->bif decide (y.1<x0) then 0<=y.1/\y.1.toNat<es.length/\bif !fx (List.getD es y.1.toNat fq) then Lb false (eG es) else BC es q0/\A0 es q0<A0 es y else Lb (decide (x0<=5)) (eG es)) (by kernel_rfl)
 dsimp only
 refine⟨⟨by omega,by omega,rfl⟩,?_⟩
 rintro⟨i,⟨⟩⟩ ⟨h1,h2,hR⟩
 simp only
 refine af (fun hc=> ?_) (fun hc=> ?_)
 ·have hc:=yT hc
  rw[dE _ _ fq h1 (by omega)] at hR
  rw[wrap_i64 (by omega) (by omega)]
  refine⟨by omega,by omega,af (fun h=>bw ?_) (fun h=>⟨⟨by omega,by omega,?_⟩,?_⟩)⟩
  ·simp only[eG,<-hR];simp at h;simp[h]
  ·rw[<-hR];simp at h;simp[h]
  ·simp only[A0];omega
 ·have hc:=yF hc
  rw[cg _ (by omega)] at hR
  refine cj ?_
  simp only[eG,<-hR];simp;omega
def aii:HH:=⟨_,agl⟩
def RX:bp UU where
 α:=eX
 md:=[.ro]
 of:=o1 (oA .cV)
 ds:=fun x=>[dA .cV x]
 pre:=fun _=>[]
 bT:=fun a=>⟨[dO (bm a.Name&&eG a.ay)],[],[]⟩
 law:=l1 (lA .cV)
def BO(a:eX):Int×Unit->Prop:=fun(i,_)=>0<=i/\i<=a.ay.length/\a.ay.length<=5/\bm a.Name=true/\(a.ay.drop i.toNat).all fx=a.ay.all fx
def A_(a:eX):Int×Unit->Nat:=fun(i,_)=>a.ay.length-i.toNat
def akb:RX.α->Nat->Option (bY UU):=fun a=>aN [(4,bh [.slot 18 (18,1024) (.lit (.int .i64))] (fun _=>BO a) (A_ a))]
def ae9:=us [aik,N_]
theorem agV:Holds EE (149,RX):=by
 refine holds_of ax func149 RX (by kernel_rfl) ae9 (aE _) akb (fun(a:eX) hp hb=> ?_)
 have bi:=AP (x:=a) (hb _ m0)
 have yR:=bi.1
 have yS:=bi.2.1
 have yQ:=bi.2.2
 clear hp hb
 apply @ve _ (let x0:Int:=(a.ay.length:Int);let q0:=bm a.Name&&eG a.ay;bif !bm a.Name then Lb false q0 else bif decide (x0>5) then Lb false q0 else BO a (0,())/\∀(y:Int×PUnit),let q1:=(IntKind.wrap IntKind.i64 (y.1+1),());BO a y->bif decide (y.1<x0) then 0<=y.1/\y.1.toNat<a.ay.length/\bif !fx (List.getD a.ay y.1.toNat fq) then Lb false q0 else BO a q1/\A_ a q1<A_ a y else Lb true q0) (by kernel_rfl)
 dsimp only
 refine af (fun h=>bw ?_) (fun h=>af (fun h'=>bw ?_) (fun h'=> ?_))
 ·simp at h;simp[h]
 ·have h':=yT h';simp only[eG];rw[decide_eq_false (show¬a.ay.length<=5 by omega)];simp
 have h':=yF h'
 refine⟨⟨by omega,by omega,by omega,by simpa using h,rfl⟩,?_⟩
 rintro⟨i,⟨⟩⟩ ⟨h1,h2,h3,h4,hR⟩
 simp only
 refine af (fun hc=> ?_) (fun hc=> ?_)
 ·have hc:=yT hc
  rw[dE _ _ fq h1 (by omega)] at hR
  rw[wrap_i64 (by omega) (by omega)]
  refine⟨by omega,by omega,af (fun h=>bw ?_) (fun h=>⟨⟨by omega,by omega,h3,h4,?_⟩,?_⟩)⟩
  ·simp only[eG,<-hR];simp at h;simp[h]
  ·rw[<-hR];simp at h;simp[h]
  ·simp only[A_];omega
 ·have hc:=yF hc
  rw[cg _ (by omega)] at hR
  refine mV ?_
  simp only[eG,<-hR,h4,decide_eq_true h3];rfl
def aiF:HH:=⟨_,agV⟩
def RM:bp UU where
 α:=eX
 md:=[.ro]
 of:=o1 (oA .cV)
 ds:=fun x=>[dA .cV x]
 pre:=fun _=>[]
 bT:=fun a=>⟨[dO (cW a)],[],[]⟩
 law:=l1 (lA .cV)
def aj4:RM.α->Nat->Option (bY UU):=fun a=>aN []
def ae0:=us [sC,J4,aii]
theorem agL:Holds EE (159,RM):=by
 refine holds_of ax func159 RM (by kernel_rfl) ae0 (aE _) aj4 (fun(a:eX) hp hb=> ?_)
 have bi:=AP (x:=a) (hb _ m0)
 have yR:=bi.1
 have yS:=bi.2.1
 have yQ:=bi.2.2
 clear hp hb
 apply @ve _ (let x0:Bool:=ByteArray.toList a.aW==ByteArray.toList {data:= #[]:BA};let x1:Bool:=a.Kind==5;let x2:Bool:=a.N==0;let q0:=bif a.Kind==1 then bif bm a.Name then bif eG a.ay then bif x2 then Lb x0 (cW a) else Lb false (cW a) else Lb false (cW a) else Lb false (cW a) else bif a.Kind==3 then bif bm a.Name then bif eG a.ay then bif x2 then bif x0 then Lb true (cW a) else Lb (bm a.aW) (cW a) else Lb false (cW a) else Lb false (cW a) else Lb false (cW a) else bif a.Kind==4 then bif bm a.Name then bif eG a.ay then bif decide (0<=a.N/\a.N<=100000) then Lb x0 (cW a) else Lb false (cW a) else Lb false (cW a) else Lb false (cW a) else bif a.Kind==2 then Lb false (cW a) else bif x1 then bif x1 then Lb false (cW a) else Lb false (cW a) else bif a.Kind==6 then Lb false (cW a) else Lb false (cW a);let q1:=Lb false (cW a);bif ByteArray.toList a.Name==ByteArray.toList {data:= #[]:BA} then bif (a.ay.length:Int)==0 then bif a.Kind==1 then bif bm a.Name then bif eG a.ay then bif x2 then Lb x0 (cW a) else q1 else q1 else q1 else bif a.Kind==3 then bif bm a.Name then bif eG a.ay then bif x2 then bif x0 then Lb true (cW a) else Lb (bm a.aW) (cW a) else q1 else q1 else q1 else bif a.Kind==4 then bif bm a.Name then bif eG a.ay then bif decide (0<=a.N/\a.N<=100000) then Lb x0 (cW a) else q1 else q1 else q1 else bif a.Kind==2 then bif x0 then Lb (decide (0<=a.N/\a.N<=7)) (cW a) else q1 else bif x1 then bif x1 then bif x0 then Lb x2 (cW a) else q1 else q1 else bif a.Kind==6 then bif x0 then Lb x2 (cW a) else q1 else q1 else q0 else q0) (by kernel_rfl)
 dsimp only
 have e:∀s:BA,(ByteArray.toList s==ByteArray.toList {data:= #[]})=decide (s=ai):=fun s=>bx _ _
 simp only[e,cW,z_,fH]
 repeat' (refine af (fun h=> ?_) (fun h=> ?_))
 all_goals (refine cj ?_;grind)
def aix:HH:=⟨_,agL⟩
def ZL:bp UU where
 α:=eX
 md:=[.ro]
 of:=o1 (oA .cV)
 ds:=fun x=>[dA .cV x]
 pre:=fun _=>[]
 bT:=fun a=>⟨[dO (cW a)],[],[]⟩
 law:=l1 (lA .cV)
def ast:ZL.α->Nat->Option (bY UU):=fun a=>aN []
def aoS:=us [Ec,aiF,WR]
theorem aqe:Holds EE (98,ZL):=by
 refine holds_of ax func98 ZL (by kernel_rfl) aoS (aE _) ast (fun(a:eX) hp hb=> ?_)
 have bi:=AP (x:=a) (hb _ m0)
 have yR:=bi.1
 have yS:=bi.2.1
 have yQ:=bi.2.2
 clear hp hb
 apply @ve _ (let x0:Bool:=a.Kind==5;let x1:Bool:=bm a.Name&&eG a.ay;let q0:=Lb (ByteArray.toList a.aW==ByteArray.toList {data:= #[]:BA}) (cW a);let q1:=Lb false (cW a);let q2:=bif a.N==0 then q0 else q1;let q3:=bif x1 then bif decide (0<=a.N/\a.N<=100000) then q0 else q1 else q1;let q4:=bif x1 then bif a.N==0 then Lb (fH a.aW) (cW a) else q1 else q1;let q5:=bif (a.ay.length:Int)==0 then q2 else q1;bif ByteArray.toList a.Name==ByteArray.toList {data:= #[]:BA} then bif a.Kind==1 then bif x1 then q2 else q1 else bif a.Kind==2 then bif (a.ay.length:Int)==0 then bif decide (0<=a.N/\a.N<=7) then q0 else q1 else q1 else bif a.Kind==3 then q4 else bif a.Kind==4 then q3 else bif x0 then bif x0 then q5 else q1 else bif a.Kind==6 then q5 else q1 else bif a.Kind==1 then bif x1 then q2 else q1 else bif a.Kind==2 then q1 else bif a.Kind==3 then q4 else bif a.Kind==4 then q3 else bif x0 then bif x0 then q1 else q1 else bif a.Kind==6 then q1 else q1) (by kernel_rfl)
 dsimp only
 have e:∀s:BA,(ByteArray.toList s==ByteArray.toList {data:= #[]})=decide (s=ai):=fun s=>bx _ _
 simp only[e,cW,z_,fH]
 repeat' (refine af (fun h=> ?_) (fun h=> ?_))
 all_goals (refine cj ?_;grind)
def arH:HH:=⟨_,aqe⟩
def mq(l:List BA)(s:BA):Bool:=l.any fun t=>decide (t=s)
theorem pf{l:List BA}{s:BA}:mq l s=true↔s∈l:=by
 simp only[mq,tZ,decide_eq_true_eq]
 exact⟨fun⟨t,h1,h2⟩=>h2▸h1,fun h=>⟨s,h,rfl⟩⟩
def e6(l:List BA)(s:BA):List BA:=if mq l s then l else l++[s]
def mD(l:List BA)(a:cp):List BA:=if a.K=1 then e6 l a.S else l
def dk(l:List BA)(xs:List cp):List BA:=xs.foldl mD l
theorem Ab{l:List BA}{s t:BA}:t∈e6 l s↔t∈l\/t=s:=by
 unfold e6;split
 ·rename_i h
  exact⟨.inl,fun h'=>h'.elim id (fun e=>e▸pf.1 h)⟩
 ·simp
theorem Ac(l:List BA)(s:BA):(e6 l s).length<=l.length+1:=by
 unfold e6;split
 ·omega
 ·simp
theorem Lo{l:List BA}{a:cp}{t:BA}:t∈mD l a↔t∈l\/(a.K=1/\t=a.S):=by
 unfold mD;split
 ·rename_i h;rw[Ab];simp[h]
 ·rename_i h;simp[h]
theorem Lp(l:List BA)(a:cp):(mD l a).length<=l.length+1:=by
 unfold mD;split
 ·exact Ac _ _
 ·omega
theorem qf{t:BA}:∀{xs:List cp}{l:List BA},t∈dk l xs↔t∈l\/∃a∈xs,a.K=1/\t=a.S
 |[],l=>by simp[dk]
 |a::xs,l=>by
  show t∈dk (mD l a) xs↔_
  rw[qf,Lo]
  simp only[jQ,exists_eq_or_imp,or_assoc]
theorem jq:∀(xs:List cp)(l:List BA),(dk l xs).length<=l.length+xs.length
 |[],l=>s_ _
 |a::xs,l=>by
  have h1:=jq xs (mD l a)
  have h2:=Lp l a
  show(dk (mD l a) xs).length<=_
  simp only[gv];omega
theorem xM(l:List BA)(xs:List cp){i:Int}(h0:0<=i)(h:i<xs.length):dk l (xs.take (i+1).toNat)=mD (dk l (xs.take i.toNat)) (List.getD xs i.toNat nW):=by
 rw[<-fD xs nW h0 h]
 simp only[dk,List.foldl_append,List.foldl_cons,List.foldl_nil]
def kQ(l:List BA)(p:cn):List BA:=if p.Not then l else dk l p.ay
def iS(ps:List cn):List BA:=ps.foldl kQ []
theorem na{α β:Type}(f:β->α->β)(b:β)(l:List α)(z:α){i:Int}(h0:0<=i)(h:i<l.length):(l.take (i+1).toNat).foldl f b=f ((l.take i.toNat).foldl f b) (List.getD l i.toNat z):=by
 rw[<-fD l z h0 h]
 simp only[List.foldl_append,List.foldl_cons,List.foldl_nil]
def du(ps:List cn):Nat:=(ps.map fun p=>p.ay.length).sum
def p8(ps:List cn)(t:BA):Prop:=∃p∈ps,p.Not=false/\∃a∈p.ay,a.K=1/\t=a.S
theorem KI{l:List BA}{p:cn}{t:BA}:t∈kQ l p↔t∈l\/(p.Not=false/\∃a∈p.ay,a.K=1/\t=a.S):=by
 unfold kQ
 cases h:p.Not
 ·simp only[wx,if_false];rw[qf];simp
 ·simp
theorem wQ{t:BA}:∀{ps:List cn}{l:List BA},t∈ps.foldl kQ l↔t∈l\/p8 ps t
 |[],l=>by simp[p8]
 |p::ps,l=>by
  show t∈ps.foldl kQ (kQ l p)↔_
  rw[wQ,KI]
  simp only[p8,jQ,exists_eq_or_imp,or_assoc]
theorem IG{ps:List cn}{t:BA}:t∈iS ps↔p8 ps t:=by
 unfold iS;rw[wQ];simp
theorem wR:∀(ps:List cn)(l:List BA),(ps.foldl kQ l).length<=l.length+du ps
 |[],l=>s_ _
 |p::ps,l=>by
  have h1:=wR ps (kQ l p)
  have h2:(kQ l p).length<=l.length+p.ay.length:=by
   unfold kQ;split
   ·omega
   ·exact jq _ _
  show(ps.foldl kQ (kQ l p)).length<=_
  simp only[du,uY,Ki] at h1⊢;omega
def iT(l:List BA)(p:cn):List BA:=if p.Not then l else(dk [] p.ay).foldl e6 l
def cL(ps:List cn):List BA:=ps.foldl iT []
theorem xg{t:BA}:∀{xs l:List BA},t∈xs.foldl e6 l↔t∈l\/t∈xs
 |[],l=>by simp
 |a::xs,l=>by
  show t∈xs.foldl e6 (e6 l a)↔_
  rw[xg,Ab,jQ,or_assoc]
theorem rU:∀(xs l:List BA),(xs.foldl e6 l).length<=l.length+xs.length
 |[],l=>s_ _
 |a::xs,l=>by
  have h1:=rU xs (e6 l a)
  have h2:=Ac l a
  show(xs.foldl e6 (e6 l a)).length<=_
  simp only[gv];omega
theorem IH{l:List BA}{p:cn}{t:BA}:t∈iT l p↔t∈l\/(p.Not=false/\∃a∈p.ay,a.K=1/\t=a.S):=by
 unfold iT
 cases h:p.Not
 ·simp only[wx,if_false];rw[xg,qf];simp
 ·simp
theorem vj{t:BA}:∀{ps:List cn}{l:List BA},t∈ps.foldl iT l↔t∈l\/p8 ps t
 |[],l=>by simp[p8]
 |p::ps,l=>by
  show t∈ps.foldl iT (iT l p)↔_
  rw[vj,IH]
  simp only[p8,jQ,exists_eq_or_imp,or_assoc]
theorem wS{ps:List cn}{t:BA}:t∈cL ps↔p8 ps t:=by
 unfold cL;rw[vj];simp
theorem vk:∀(ps:List cn)(l:List BA),(ps.foldl iT l).length<=l.length+du ps
 |[],l=>s_ _
 |p::ps,l=>by
  have h1:=vk ps (iT l p)
  have h2:(iT l p).length<=l.length+p.ay.length:=by
   unfold iT;split
   ·omega
   ·have g1:=rU (dk [] p.ay) l
    have g2:=jq p.ay []
    simp only[fO] at g2;omega
  show(ps.foldl iT (iT l p)).length<=_
  simp only[du,uY,Ki] at h1⊢;omega
theorem Gi(ps:List cn)(n:Nat):du (ps.take n)<=du ps:=by
 have h:=congrArg (fun q=>(q.map fun p:cn=>p.ay.length).sum) (Tr n ps)
 simp only[Kg,zet] at h
 simp only[du];omega
theorem CG(ps:List cn){i:Int}(h0:0<=i)(h:i<ps.length):du (ps.take i.toNat)+(List.getD ps i.toNat dy).ay.length<=du ps:=by
 have h1:=Gi ps (i+1).toNat
 rw[<-fD ps dy h0 h] at h1
 simp only[du,Kg,zet,uY,List.map_nil,Ki,List.sum_nil] at h1⊢
 omega
def cH(ps:List cn):Nat:=(ps.filter fun p=> !p.Not).length
theorem Fj{l:List BA}{s:BA}{i:Int}(h0:0<=i)(hl:i<l.length)(h:∀j:Nat,(j:Int)<i->¬List.getD l j ai=s)(hi:¬List.getD l i.toNat ai=s):∀j:Nat,(j:Int)<i+1->¬List.getD l j ai=s:=by
 intro j hj
 by_cases Wc:(j:Int)<i
 ·exact h j Wc
 ·have:j=i.toNat:=by omega
  subst this;exact hi
theorem U0{l:List BA}{s:BA}(h:∀j:Nat,j<l.length->¬List.getD l j ai=s):mq l s=false:=by
 rw[<-yi,pf]
 intro hm
 obtain⟨j,hj,rfl⟩:=ri hm
 exact h j hj (by rw[eY,fo hj];rfl)
theorem Jl{l:List BA}{s:BA}{j:Nat}(hj:j<l.length)(h:List.getD l j ai=s):mq l s=true:=by
 rw[pf,<-h,eY,fo hj]
 exact Ed hj
theorem E3(ps:List cn){i:Int}(h0:0<=i)(h:i<ps.length):cH (ps.take (i+1).toNat)=cH (ps.take i.toNat)+(if(!(List.getD ps i.toNat dy).Not)=true then 1 else 0):=by
 rw[<-fD ps dy h0 h]
 simp only[cH,List.filter_append,kg,List.filter_cons,List.filter_nil]
 split<;>simp
theorem LU(ps:List cn)(n:Nat):cH (ps.take n)<=n:=wu (Kh _ _) (by simp;omega)
def RQ:bp UU where
 α:=(List BA)×BA
 md:=[.ro,.ro]
 of:=oC (oL .str) (o1 oS)
 ds:=fun x=>[dL .str x.1,dS x.2]
 pre:=fun _=>[]
 bT:=fun(l,s)=>⟨[dO (mq l s)],[],[]⟩
 law:=lC (lL .str) (l1 lS)
def BL(l:(List BA))(s:BA):Int×Unit->Prop:=fun(i,_)=>0<=i/\i<=l.length/\∀j:Nat,(j:Int)<i->¬List.getD l j ai=s
def A8(l:(List BA))(s:BA):Int×Unit->Nat:=fun(i,_)=>l.length-i.toNat
def aj8:RQ.α->Nat->Option (bY UU):=fun(l,s)=>aN [(2,bh [.slot 5 (5,1024) (.lit (.int .i64))] (fun _=>BL l s) (A8 l s))]
def ae4:List (FuncId×bp UU):=[]
theorem agP:Holds EE (155,RQ):=by
 refine holds_of ax func155 RQ (by kernel_rfl) ae4 all_nil aj8 (fun x hp hb=> ?_)
 obtain⟨l,s⟩:=x
 have gP:l.length<=9223372036854775807:=jO (hb _ m0)
 have Aj:=Ao (s:=s) (hb _ m1)
 clear hp hb
 apply @ve _ (BL l s (0,())/\∀(y:Int×PUnit),let q0:=(IntKind.wrap IntKind.i64 (y.1+1),());BL l s y->bif decide (y.1<(l.length:Int)) then 0<=y.1/\y.1.toNat<l.length/\bif ByteArray.toList (List.getD l y.1.toNat ai)==ByteArray.toList s then Lb true (mq l s) else BL l s q0/\A8 l s q0<A8 l s y else Lb false (mq l s)) (by kernel_rfl)
 dsimp only
 refine⟨⟨by omega,by omega,by intro j hj;omega⟩,?_⟩
 rintro⟨i,⟨⟩⟩ ⟨h1,h2,hR⟩
 simp only[bx]
 refine af (fun hc=> ?_) (fun hc=> ?_)
 ·have hc:=yT hc
  rw[wrap_i64 (by omega) (by omega)]
  refine⟨by omega,by omega,af (fun h=>mV (Jl (j:=i.toNat) (by omega) (yT h))) (fun h=>⟨⟨by omega,by omega,Fj h1 hc hR (yF h)⟩,by simp only[A8];omega⟩)⟩
 ·have hc:=yF hc
  exact bw (U0 fun j hj=>hR j (by omega))
def SQ:HH:=⟨_,agP⟩
def RU:bp UU where
 α:=(List BA)×BA
 md:=[.ro,.ro]
 of:=oC (oL .str) (o1 oS)
 ds:=fun x=>[dL .str x.1,dS x.2]
 pre:=fun _=>[]
 bT:=fun(l,s)=>⟨[dI (kT l.length (fun j=>decide (List.getD l j ai=s)))],[],[]⟩
 law:=lC (lL .str) (l1 lS)
def BN(l:(List BA))(s:BA):Int×Unit->Prop:=fun(i,_)=>0<=i/\i<=l.length/\∀j:Nat,(j:Int)<i->¬List.getD l j ai=s
def A'(l:(List BA))(s:BA):Int×Unit->Nat:=fun(i,_)=>l.length-i.toNat
def aj_:RU.α->Nat->Option (bY UU):=fun(l,s)=>aN [(2,bh [.slot 8 (8,1024) (.lit (.int .i64))] (fun _=>BN l s) (A' l s))]
def ae7:List (FuncId×bp UU):=[]
theorem agT:Holds EE (151,RU):=by
 refine holds_of ax func151 RU (by kernel_rfl) ae7 all_nil aj_ (fun x hp hb=> ?_)
 obtain⟨l,s⟩:=x
 have gP:l.length<=9223372036854775807:=jO (hb _ m0)
 have Aj:=Ao (s:=s) (hb _ m1)
 clear hp hb
 apply @ve _ (BN l s (0,())/\∀(y:Int×PUnit),let q0:=(IntKind.wrap IntKind.i64 (y.1+1),());BN l s y->bif decide (y.1<(l.length:Int)) then 0<=y.1/\y.1.toNat<l.length/\bif ByteArray.toList s==ByteArray.toList (List.getD l y.1.toNat ai) then Li y.1 (kT (l.length) fun(j:Nat)=>decide (List.getD l j ai=s)) else BN l s q0/\A' l s q0<A' l s y else Li (-1) (kT (l.length) fun(j:Nat)=>decide (List.getD l j ai=s))) (by kernel_rfl)
 dsimp only
 refine⟨⟨by omega,by omega,by intro j hj;omega⟩,?_⟩
 rintro⟨i,⟨⟩⟩ ⟨h1,h2,hR⟩
 simp only[bx]
 refine af (fun hc=> ?_) (fun hc=> ?_)
 ·have hc:=yT hc
  rw[wrap_i64 (by omega) (by omega)]
  refine⟨by omega,by omega,af (fun h=>oe ?_) (fun h=>⟨⟨by omega,by omega,Fj h1 hc hR (fun e=>yF h e.symm)⟩,by simp only[A'];omega⟩)⟩
  rw[gH (i:=i.toNat) (by omega) (decide_eq_true (yT h).symm) (fun j hj=>decide_eq_false (hR j (by omega)))]
  omega
 ·have hc:=yF hc
  exact oe (jM (fun j hj=>decide_eq_false (hR j (by omega)))).symm
def aiD:HH:=⟨_,agT⟩
def SD:bp UU where
 α:=(List BA)×BA
 md:=[.ro,.ro]
 of:=oC (oL .str) (o1 oS)
 ds:=fun x=>[dL .str x.1,dS x.2]
 pre:=fun _=>[]
 bT:=fun(l,s)=>⟨[dO (mq l s)],[],[]⟩
 law:=lC (lL .str) (l1 lS)
def akW:SD.α->Nat->Option (bY UU):=fun(l,s)=>aN []
def afS:=us [aiD]
theorem ahF:Holds EE (101,SD):=by
 refine holds_of ax func101 SD (by kernel_rfl) afS (aE _) akW (fun x hp hb=> ?_)
 obtain⟨l,s⟩:=x
 have gP:l.length<=9223372036854775807:=jO (hb _ m0)
 have Aj:=Ao (s:=s) (hb _ m1)
 clear hp hb
 apply @ve _ (let x0:Int:=kT (l.length) fun(j:Nat)=>decide (List.getD l j ai=s);Lb (decide (x0≥0)) (mq l s)) (by kernel_rfl)
 dsimp only
 refine cj ?_
 show decide (0<=kT l.length (fun j=>decide (List.getD l j ai=s)))=_
 rw[Gy]
 by_cases h:mq l s=true
 ·rw[h]
  obtain⟨j,hj,hs⟩:=ri (pf.1 h)
  exact ir hj (decide_eq_true (by rw[eY,fo hj];exact hs))
 ·rw[yi] at h
  rw[h]
  exact gg fun j hj=>decide_eq_false fun e=>absurd (Jl hj e) (by rw[h];decide)
def WS:HH:=⟨_,ahF⟩
def Z':bp UU where
 α:=aV
 md:=[.ro]
 of:=o1 (oA .a_)
 ds:=fun x=>[dA .a_ x]
 pre:=fun _=>[]
 bT:=fun r=>⟨[dI (cH r.aB:Int)],[],[]⟩
 law:=l1 (lA .a_)
def D4(r:aV):Int×Int×T0×Unit->Prop:=fun(n,i,b,_)=>b=(r.Name,r.jP,r.aB,r.aY,r.bG,())/\0<=i/\i<=r.aB.length/\n=cH (r.aB.take i.toNat)
def wi(r:aV):Int×Int×T0×Unit->Nat:=fun(n,i,b,_)=>r.aB.length-i.toNat
def asU:Z'.α->Nat->Option (bY UU):=fun r=>aN [(3,bh [.slot 3 (3,1024) (.lit (.int .i64)),.slot 4 (4,1024) (.lit (.int .i64)),.box 1 (1,1024) [.lit .str,.lit (.int .i64),.shr .cU,.shr .bL,.shr .cV]] (fun _=>D4 r) (wi r))]
def apf:List (FuncId×bp UU):=[]
theorem aqF:Holds EE (71,Z'):=by
 refine holds_of ax func71 Z' (by kernel_rfl) apf all_nil asU (fun(r:aV) hp hb=> ?_)
 have bi:=ke (x:=r) (hb _ m0)
 have im:=bi.1
 have il:=bi.2.1
 have gI:=bi.2.2.1
 have io:=bi.2.2.2
 clear hp hb
 apply @ve _ (D4 r (0,0,(r.Name,r.jP,r.aB,r.aY,r.bG,()),())/\∀(y:Int×Int×WY×PUnit),let x1:Nat:=y.2.2.1.2.2.1.length;let x2:Nat:=y.2.1.toNat;let x0:Int:=(↑x1:Int);let q0:=(y.2.2.1.1,y.2.2.1.2.1,y.2.2.1.2.2.1,y.2.2.1.2.2.2.1,y.2.2.1.2.2.2.2.1,());let q1:=(IntKind.wrap IntKind.i64 (y.1+1),IntKind.wrap IntKind.i64 (y.2.1+1),q0,());let q2:=(y.1,IntKind.wrap IntKind.i64 (y.2.1+1),q0,());D4 r y->bif decide (y.2.1<x0) then 0<=y.2.1/\x2<x1/\bif !(List.getD y.2.2.1.2.2.1 x2 dy).Not then D4 r q1/\wi r q1<wi r y else D4 r q2/\wi r q2<wi r y else Li y.1 (↑(cH r.aB):Int)) (by kernel_rfl)
 dsimp only
 refine⟨⟨rfl,by omega,by omega,rfl⟩,?_⟩
 rintro⟨n,i,⟨b1,b2,b3,b4,b5,⟨⟩⟩,⟨⟩⟩ ⟨rP,h1,h2,rfl⟩
 cases rP
 simp only
 refine af (fun hc=> ?_) (fun hc=> ?_)
 ·have hc:=yT hc
  have hs:=E3 r.aB h1 hc
  have hle:cH (r.aB.take i.toNat)<=i.toNat:=LU _ _
  rw[wrap_i64 (n:=i+1) (by omega) (by omega),wrap_i64 (n:=(cH (r.aB.take i.toNat):Int)+1) (by omega) (by omega)]
  have hm:i.toNat<r.aB.length:=by omega
  refine⟨by omega,by omega,af (fun h=>⟨⟨rfl,by omega,by omega,?_⟩,by simp only[wi];omega⟩) (fun h=>⟨⟨rfl,by omega,by omega,?_⟩,by simp only[wi];omega⟩)⟩
  ·rw[hs,if_pos h];omega
  ·rw[hs,if_neg (by rw[h];decide)];omega
 ·have hc:=yF hc
  rw[dB r.aB (by omega)]
  exact bN _
def SJ:HH:=⟨_,aqF⟩
def aak:bp UU where
 α:=aV
 md:=[.ro]
 of:=o1 (oA .a_)
 ds:=fun x=>[dA .a_ x]
 pre:=fun _=>[]
 bT:=fun r=>⟨[dI (cH r.aB:Int)],[],[]⟩
 law:=l1 (lA .a_)
def D6(r:aV):Int×Int×Unit->Prop:=fun(n,i,_)=>0<=i/\i<=r.aB.length/\n=cH (r.aB.take i.toNat)
def wk(r:aV):Int×Int×Unit->Nat:=fun(n,i,_)=>r.aB.length-i.toNat
def as7:aak.α->Nat->Option (bY UU):=fun r=>aN [(3,bh [.slot 3 (3,1024) (.lit (.int .i64)),.slot 9 (9,1024) (.lit (.int .i64))] (fun _=>D6 r) (wk r))]
def aps:List (FuncId×bp UU):=[]
theorem aqR:Holds EE (59,aak):=by
 refine holds_of ax func59 aak (by kernel_rfl) aps all_nil as7 (fun(r:aV) hp hb=> ?_)
 have bi:=ke (x:=r) (hb _ m0)
 have im:=bi.1
 have il:=bi.2.1
 have gI:=bi.2.2.1
 have io:=bi.2.2.2
 clear hp hb
 apply @ve _ (D6 r (0,0,())/\∀(y:Int×Int×PUnit),let x0:Nat:=y.2.1.toNat;let q0:=(IntKind.wrap IntKind.i64 (y.1+1),IntKind.wrap IntKind.i64 (y.2.1+1),());let q1:=(y.1,IntKind.wrap IntKind.i64 (y.2.1+1),());D6 r y->bif decide (y.2.1<(r.aB.length:Int)) then 0<=y.2.1/\x0<r.aB.length/\bif !(List.getD r.aB x0 dy).Not then D6 r q0/\wk r q0<wk r y else D6 r q1/\wk r q1<wk r y else Li y.1 (↑(cH r.aB):Int)) (by kernel_rfl)
 dsimp only
 refine⟨⟨by omega,by omega,rfl⟩,?_⟩
 rintro⟨n,i,⟨⟩⟩ ⟨h1,h2,rfl⟩
 simp only
 refine af (fun hc=> ?_) (fun hc=> ?_)
 ·have hc:=yT hc
  have hs:=E3 r.aB h1 hc
  have hle:cH (r.aB.take i.toNat)<=i.toNat:=LU _ _
  rw[wrap_i64 (n:=i+1) (by omega) (by omega),wrap_i64 (n:=(cH (r.aB.take i.toNat):Int)+1) (by omega) (by omega)]
  have hm:i.toNat<r.aB.length:=by omega
  refine⟨by omega,by omega,af (fun h=>⟨⟨by omega,by omega,?_⟩,by simp only[wk];omega⟩) (fun h=>⟨⟨by omega,by omega,?_⟩,by simp only[wk];omega⟩)⟩
  ·rw[hs,if_pos h];omega
  ·rw[hs,if_neg (by rw[h];decide)];omega
 ·have hc:=yF hc
  rw[dB r.aB (by omega)]
  exact bN _
def aa8:HH:=⟨_,aqR⟩
def RR:bp UU where
 α:=cn
 md:=[.ro]
 of:=o1 (oA .cU)
 ds:=fun x=>[dA .cU x]
 pre:=fun p=>[p.ay.length<=4294967296]
 bT:=fun p=>⟨[dL .str (dk [] p.ay)],[],[]⟩
 law:=l1 (lA .cU)
def xX(p:cn):List BA×Int×T8×Unit->Prop:=fun(l,i,b,_)=>b=(p.Kind,p.ay,p.Not,())/\0<=i/\i<=p.ay.length/\l=dk [] (p.ay.take i.toNat)
def qh(p:cn):List BA×Int×T8×Unit->Nat:=fun(l,i,b,_)=>p.ay.length-i.toNat
def aj9:RR.α->Nat->Option (bY UU):=fun p=>aN [(3,bh [.slot 3 (3,1024) (.own .str true),.slot 4 (4,1024) (.lit (.int .i64)),.box 1 (1,1024) [.lit .str,.shr .er,.lit .bool]] (fun _=>xX p) (qh p))]
def ae5:=us [SQ]
theorem agQ:Holds EE (154,RR):=by
 refine holds_of ax func154 RR (by kernel_rfl) ae5 (aE _) aj9 (fun(p:cn) hp hb=> ?_)
 have bi:=AO (x:=p) (hb _ m0)
 have yO:=bi.1
 have yP:=bi.2
 have bC:p.ay.length<=4294967296:=hp _ m0
 clear hp hb
 apply @ve _ (xX p ([],0,(p.Kind,p.ay,p.Not,()),())/\∀(y:List BA×Int×T17×PUnit),let x4:Nat:=y.2.2.1.2.1.length;let x5:Nat:=y.2.1.toNat;let x2:cp:=List.getD y.2.2.1.2.1 x5 nW;let x3:Int:=(↑x4:Int);let x1:BA:=x2.S;let x0:List BA:=[x1];let q0:=(y.1,IntKind.wrap IntKind.i64 (y.2.1+1),(y.2.2.1.1,y.2.2.1.2.1,y.2.2.1.2.2.1,()),());let q1:=(y.1++x0,IntKind.wrap IntKind.i64 (y.2.1+1),(y.2.2.1.1,y.2.2.1.2.1,y.2.2.1.2.2.1,()),());let q2:=xX p q0/\qh p q0<qh p y;xX p y->bif decide (y.2.1<x3) then 0<=y.2.1/\x5<x4/\bif x2.K==1 then 0<=y.2.1/\x5<x4/\bif !mq y.1 x1 then 0<=y.2.1/\x5<x4/\y.1.length+x0.length<=4294967296/\xX p q1/\qh p q1<qh p y else q2 else q2 else Lf [VL .str y.1] [VL .str (dk [] p.ay)]) (by kernel_rfl)
 dsimp only
 refine⟨⟨rfl,by omega,by omega,rfl⟩,?_⟩
 rintro⟨l,i,⟨b1,b2,b3,⟨⟩⟩,⟨⟩⟩ ⟨rP,h1,h2,rfl⟩
 cases rP
 simp only
 refine af (fun hc=> ?_) (fun hc=> ?_)
 ·have hc:=yT hc
  have hs:=xM [] p.ay h1 hc
  have hl:=jq (p.ay.take i.toNat) []
  have zU:(p.ay.take i.toNat).length<=i.toNat:=by rw[oH];omega
  simp only[fO] at hl
  rw[wrap_i64 (by omega) (by omega)]
  have hm:∀x:List BA,qh p (x,i+1,(p.Kind,p.ay,p.Not,PUnit.unit),PUnit.unit)<qh p (dk [] (p.ay.take i.toNat),i,(p.Kind,p.ay,p.Not,PUnit.unit),PUnit.unit):=fun x=>by simp only[qh];omega
  refine⟨by omega,by omega,af (fun h=>⟨by omega,by omega,af (fun g=>⟨by omega,by omega,by simp;omega,⟨rfl,by omega,by omega,?_⟩,hm _⟩) (fun g=>⟨⟨rfl,by omega,by omega,?_⟩,hm _⟩)⟩) (fun h=>⟨⟨rfl,by omega,by omega,?_⟩,hm _⟩)⟩
  ·rw[hs,mD,if_pos (eq_of_beq h),e6,if_neg (by simpa using g)]
  ·rw[hs,mD,if_pos (eq_of_beq h),e6,if_pos (by simpa using g)]
  ·rw[hs,mD,if_neg (fun e=>by rw[e] at h;simp at h)]
 ·have hc:=yF hc
  rw[dB p.ay (by omega)]
  exact bN _
def aiA:HH:=⟨_,agQ⟩
def Sw:bp UU where
 α:=aV
 md:=[.ro]
 of:=o1 (oA .a_)
 ds:=fun x=>[dA .a_ x]
 pre:=fun r=>[du r.aB<=4294967296]
 bT:=fun r=>⟨[dL .str (cL r.aB)],[],[]⟩
 law:=l1 (lA .a_)
def B0(r:aV):List BA×Int×T0×Unit->Prop:=fun(l,i,b,_)=>b=(r.Name,r.jP,r.aB,r.aY,r.bG,())/\0<=i/\i<=r.aB.length/\l=cL (r.aB.take i.toNat)
def xR(r:aV):List BA×Int×T0×Unit->Nat:=fun(l,i,b,_)=>r.aB.length-i.toNat
def yc(r:aV):List BA×Int×List BA×Int×T0×Unit->List BA×Int×List BA×Int×T0×Unit->Prop:=fun(l0,i0,v0,k0,b0,_) (l,i,v,k,b,_)=>b=(r.Name,r.jP,r.aB,r.aY,r.bG,())/\i=i0/\v=v0/\0<=k/\k<=v.length/\l=(v.take k.toNat).foldl e6 l0/\(k=0\/(List.getD r.aB i.toNat dy).Not=false)
def su(r:aV):List BA×Int×List BA×Int×T0×Unit->Nat:=fun(l,i,v,k,b,_)=>v.length-k.toNat
def akM:Sw.α->Nat->Option (bY UU):=fun r=>aN [(3,bh [.slot 3 (3,1024) (.own .str true),.slot 4 (4,1024) (.lit (.int .i64)),.box 1 (1,1024) [.lit .str,.lit (.int .i64),.shr .cU,.shr .bL,.shr .cV]] (fun _=>B0 r) (xR r)),(7,bh [.slot 3 (3,1024) (.own .str true),.slot 4 (4,1024) (.lit (.int .i64)),.slot 5 (5,1024) (.own .str true),.slot 6 (6,1024) (.lit (.int .i64)),.box 1 (1,1024) [.lit .str,.lit (.int .i64),.shr .cU,.shr .bL,.shr .cV]] (yc r) (su r))]
def afI:=us [aiA,SQ]
theorem ahv:Holds EE (111,Sw):=by
 refine holds_of ax func111 Sw (by kernel_rfl) afI (aE _) akM (fun(r:aV) hp hb=> ?_)
 have bi:=ke (x:=r) (hb _ m0)
 have im:=bi.1
 have il:=bi.2.1
 have gI:=bi.2.2.1
 have io:=bi.2.2.2
 have bC:du r.aB<=4294967296:=hp _ m0
 clear hp hb
 apply @ve _ (let q0:=BA×Int×List cn×List c_×List eX×PUnit;B0 r ([],0,(r.Name,r.jP,r.aB,r.aY,r.bG,()),())/\∀(y:List BA×Int×q0×PUnit),let x2:Nat:=y.2.2.1.2.2.1.length;let x3:Nat:=y.2.1.toNat;let x0:List cp:=(List.getD y.2.2.1.2.2.1 x3 dy).ay;let x1:Int:=(↑x2:Int);let q1:=(y.1,y.2.1,dk [] x0,0,(y.2.2.1.1,y.2.2.1.2.1,y.2.2.1.2.2.1,y.2.2.1.2.2.2.1,y.2.2.1.2.2.2.2.1,()),());B0 r y->bif decide (y.2.1<x1) then 0<=y.2.1/\x3<x2/\x0.length<=4294967296/\yc r q1 q1/\∀(aS:List BA×Int×List BA×Int×q0×PUnit),let x6:Nat:=aS.2.2.2.1.toNat;let x8:Nat:=aS.2.2.1.length;let x9:Nat:=aS.2.1.toNat;let x5:BA:=List.getD aS.2.2.1 x6 ai;let x7:Int:=(↑x8:Int);let x4:List BA:=[x5];let q2:=(aS.2.2.2.2.1.1,aS.2.2.2.2.1.2.1,aS.2.2.2.2.1.2.2.1,aS.2.2.2.2.1.2.2.2.1,aS.2.2.2.2.1.2.2.2.2.1,());let q3:=(aS.1,IntKind.wrap IntKind.i64 (aS.2.1+1),q2,());let q4:=(aS.1++x4,aS.2.1,aS.2.2.1,IntKind.wrap IntKind.i64 (aS.2.2.2.1+1),q2,());let q5:=(aS.1,aS.2.1,aS.2.2.1,IntKind.wrap IntKind.i64 (aS.2.2.2.1+1),q2,());let q6:=B0 r q3/\xR r q3<xR r y;yc r q1 aS->bif decide (aS.2.2.2.1<x7) then 0<=aS.2.1/\x9<aS.2.2.2.2.1.2.2.1.length/\bif !(List.getD aS.2.2.2.2.1.2.2.1 x9 dy).Not then 0<=aS.2.2.2.1/\x6<x8/\x6<x8/\bif !mq aS.1 x5 then 0<=aS.2.2.2.1/\x6<x8/\x6<x8/\aS.1.length+x4.length<=4294967296/\yc r q1 q4/\su r q4<su r aS else yc r q1 q5/\su r q5<su r aS else q6 else q6 else Lf [VL .str y.1] [VL .str (cL r.aB)]) (by kernel_rfl)
 dsimp only
 refine⟨⟨rfl,by omega,by omega,rfl⟩,?_⟩
 rintro⟨l,i,⟨b1,b2,b3,b4,b5,⟨⟩⟩,⟨⟩⟩ ⟨rP,h1,h2,rfl⟩
 cases rP
 simp only
 refine af (fun hc=> ?_) (fun hc=> ?_)
 ·have hc:=yT hc
  have hs:cL (r.aB.take (i+1).toNat)=iT (cL (r.aB.take i.toNat)) (List.getD r.aB i.toNat dy):=na iT [] r.aB dy h1 hc
  have ha:=CG r.aB h1 hc
  have hl:=vk (r.aB.take i.toNat) []
  simp only[fO,tY] at hl
  have hv:=jq (List.getD r.aB i.toNat dy).ay []
  simp only[fO,tY] at hv
  refine⟨by omega,by omega,by omega,⟨rfl,rfl,rfl,by omega,by omega,rfl,.inl rfl⟩,?_⟩
  rintro⟨l',i',v,k,⟨b1,b2,b3,b4,b5,⟨⟩⟩,⟨⟩⟩ ⟨rP,rfl,rfl,g1,g2,rfl,g3⟩
  cases rP
  simp only
  have EC:=rU ((dk [] (List.getD r.aB i'.toNat dy).ay).take k.toNat) (cL (r.aB.take i'.toNat))
  have aok:((dk [] (List.getD r.aB i'.toNat dy).ay).take k.toNat).length<=k.toNat:=by rw[oH];omega
  have GH:(cL (r.aB.take i'.toNat)).length<=du (r.aB.take i'.toNat):=hl
  have pM:(dk [] (List.getD r.aB i'.toNat dy).ay).length<=(List.getD r.aB i'.toNat dy).ay.length:=hv
  refine af (fun hk=> ?_) (fun hk=> ?_)
  ·have hk:=yT hk
   have hf:=na e6 (cL (r.aB.take i'.toNat)) (dk [] (List.getD r.aB i'.toNat dy).ay) ai g1 hk
   rw[wrap_i64 (n:=k+1) (by omega) (by omega),wrap_i64 (n:=i'+1) (by omega) (by omega)]
   refine⟨by omega,by omega,af (fun hn=> ?_) (fun hn=> ?_)⟩
   ·have hn:(List.getD r.aB i'.toNat dy).Not=false:=by simpa using hn
    have Wa:k.toNat<(dk [] (List.getD r.aB i'.toNat dy).ay).length:=by omega
    refine⟨g1,Wa,Wa,af (fun g=>⟨g1,Wa,Wa,by simp only[gv,fO];omega,⟨rfl,rfl,rfl,by omega,by omega,?_,.inr hn⟩,by simp only[su];omega⟩) (fun g=>⟨⟨rfl,rfl,rfl,by omega,by omega,?_,.inr hn⟩,by simp only[su];omega⟩)⟩
    ·rw[hf,e6,if_neg (by simpa using g)]
    ·rw[hf,e6,if_pos (by simpa using g)]
   ·have hn:(List.getD r.aB i'.toNat dy).Not=true:=by simpa using hn
    have AB:k=0:=g3.resolve_right (by rw[hn];decide)
    subst AB
    refine⟨⟨rfl,by omega,by omega,?_⟩,by simp only[xR];omega⟩
    rw[hs,iT,if_pos hn]
    rfl
  ·have hk:=yF hk
   rw[wrap_i64 (n:=i'+1) (by omega) (by omega)]
   refine⟨⟨rfl,by omega,by omega,?_⟩,by simp only[xR];omega⟩
   rw[hs,iT]
   by_cases hn:(List.getD r.aB i'.toNat dy).Not=true
   ·have AB:k=0:=g3.resolve_right (by rw[hn];decide)
    subst AB
    rw[if_pos hn];rfl
   ·rw[if_neg hn,dB (dk [] (List.getD r.aB i'.toNat dy).ay) (by omega)]
 ·have hc:=yF hc
  rw[dB r.aB (by omega)]
  exact bN _
def WQ:HH:=⟨_,ahv⟩
def Rl:bp UU where
 α:=(List BA)×BA
 md:=[.mv,.ro]
 of:=oC (oL .str) (o1 oS)
 ds:=fun x=>[dL .str x.1,dS x.2]
 pre:=fun(l,name)=>[l.length<=4294967295]
 bT:=fun(l,name)=>⟨[dL .str (e6 l name)],[],[]⟩
 law:=lC (lL .str) (l1 lS)
def ajG:Rl.α->Nat->Option (bY UU):=fun(l,name)=>aN []
def aeC:=us [WS]
theorem agn:Holds EE (183,Rl):=by
 refine holds_of ax func183 Rl (by kernel_rfl) aeC (aE _) ajG (fun x hp hb=> ?_)
 obtain⟨l,name⟩:=x
 have gP:l.length<=9223372036854775807:=jO (hb _ m0)
 have um:=Ao (s:=name) (hb _ m1)
 have bC:l.length<=4294967295:=hp _ m0
 clear hp hb
 apply @ve _ (bif mq l name then Lf [VL .str l] [VL .str (e6 l name)] else l.length+List.length [name]<=4294967296/\Lf [VL .str (l++[name])] [VL .str (e6 l name)]) (by kernel_rfl)
 refine af (fun h=> ?_) (fun h=>⟨by simp;omega,?_⟩)
 ·rw[e6,if_pos h];exact bN _
 ·rw[e6,if_neg (by rw[h];decide)];exact bN _
def aij:HH:=⟨_,agn⟩
def RW:bp UU where
 α:=(List BA)×(List cp)
 md:=[.mv,.ro]
 of:=oC (oL .str) (o1 (oL .er))
 ds:=fun x=>[dL .str x.1,dL .er x.2]
 pre:=fun(l,args)=>[l.length+args.length<=4294967295]
 bT:=fun(l,args)=>⟨[dL .str (dk l args)],[],[]⟩
 law:=lC (lL .str) (l1 (lL .er))
def xY(l:(List BA))(args:(List cp)):List BA×Int×Unit->Prop:=fun(v,i,_)=>0<=i/\i<=args.length/\v=dk l (args.take i.toNat)
def si(l:(List BA))(args:(List cp)):List BA×Int×Unit->Nat:=fun(v,i,_)=>args.length-i.toNat
def aka:RW.α->Nat->Option (bY UU):=fun(l,args)=>aN [(2,bh [.slot 0 (0,1024) (.own .str true),.slot 9 (9,1024) (.lit (.int .i64))] (fun _=>xY l args) (si l args))]
def ae8:=us [aij]
theorem agU:Holds EE (150,RW):=by
 refine holds_of ax func150 RW (by kernel_rfl) ae8 (aE _) aka (fun x hp hb=> ?_)
 obtain⟨l,args⟩:=x
 have gP:l.length<=9223372036854775807:=jO (hb _ m0)
 have ak9:args.length<=9223372036854775807:=jO (hb _ m1)
 have bC:l.length+args.length<=4294967295:=hp _ m0
 clear hp hb
 apply @ve _ (xY l args (l,0,())/\∀(y:List BA×Int×PUnit),let x1:Nat:=y.2.1.toNat;let x0:cp:=List.getD args x1 nW;let q0:=(e6 y.1 x0.S,IntKind.wrap IntKind.i64 (y.2.1+1),());let q1:=(y.1,IntKind.wrap IntKind.i64 (y.2.1+1),());xY l args y->bif decide (y.2.1<(args.length:Int)) then 0<=y.2.1/\x1<args.length/\bif x0.K==1 then y.1.length<=4294967295/\xY l args q0/\si l args q0<si l args y else xY l args q1/\si l args q1<si l args y else Lf [VL .str y.1] [VL .str (dk l args)]) (by kernel_rfl)
 dsimp only
 refine⟨⟨by omega,by omega,rfl⟩,?_⟩
 rintro⟨v,i,⟨⟩⟩ ⟨h1,h2,rfl⟩
 simp only
 refine af (fun hc=> ?_) (fun hc=> ?_)
 ·have hc:=yT hc
  have hs:=xM l args h1 hc
  have hl:=jq (args.take i.toNat) l
  have zU:(args.take i.toNat).length<=i.toNat:=by rw[oH];omega
  rw[wrap_i64 (by omega) (by omega)]
  refine⟨by omega,by omega,af (fun h=>⟨by omega,⟨by omega,by omega,?_⟩,by simp only[si];omega⟩) (fun h=>⟨⟨by omega,by omega,?_⟩,by simp only[si];omega⟩)⟩
  ·rw[hs,mD,if_pos (eq_of_beq h)]
  ·rw[hs,mD,if_neg (fun e=>by rw[e] at h;simp at h)]
 ·have hc:=yF hc
  rw[dB args (by omega)]
  exact bN _
def WE:HH:=⟨_,agU⟩
def ZK:bp UU where
 α:=aV
 md:=[.ro]
 of:=o1 (oA .a_)
 ds:=fun x=>[dA .a_ x]
 pre:=fun r=>[du r.aB<=4294967295]
 bT:=fun r=>⟨[dL .str (iS r.aB)],[],[]⟩
 law:=l1 (lA .a_)
def DY(r:aV):List BA×Int×Unit->Prop:=fun(v,i,_)=>0<=i/\i<=r.aB.length/\v=iS (r.aB.take i.toNat)
def wg(r:aV):List BA×Int×Unit->Nat:=fun(v,i,_)=>r.aB.length-i.toNat
def ass:ZK.α->Nat->Option (bY UU):=fun r=>aN [(3,bh [.slot 3 (3,1024) (.own .str true),.slot 9 (9,1024) (.lit (.int .i64))] (fun _=>DY r) (wg r))]
def aoR:=us [WE]
theorem aqd:Holds EE (99,ZK):=by
 refine holds_of ax func99 ZK (by kernel_rfl) aoR (aE _) ass (fun(r:aV) hp hb=> ?_)
 have bi:=ke (x:=r) (hb _ m0)
 have im:=bi.1
 have il:=bi.2.1
 have gI:=bi.2.2.1
 have io:=bi.2.2.2
 have bC:du r.aB<=4294967295:=hp _ m0
 clear hp hb
 apply @ve _ (DY r ([],0,())/\∀(y:List BA×Int×PUnit),let x2:Nat:=y.2.1.toNat;let x1:cn:=List.getD r.aB x2 dy;let x0:List cp:=x1.ay;let q0:=(dk y.1 x0,IntKind.wrap IntKind.i64 (y.2.1+1),());let q1:=(y.1,IntKind.wrap IntKind.i64 (y.2.1+1),());DY r y->bif decide (y.2.1<(r.aB.length:Int)) then 0<=y.2.1/\x2<r.aB.length/\bif !x1.Not then y.1.length+x0.length<=4294967295/\DY r q0/\wg r q0<wg r y else DY r q1/\wg r q1<wg r y else Lf [VL .str y.1] [VL .str (iS r.aB)]) (by kernel_rfl)
 dsimp only
 refine⟨⟨by omega,by omega,rfl⟩,?_⟩
 rintro⟨v,i,⟨⟩⟩ ⟨h1,h2,rfl⟩
 simp only
 refine af (fun hc=> ?_) (fun hc=> ?_)
 ·have hc:=yT hc
  have hs:iS (r.aB.take (i+1).toNat)=kQ (iS (r.aB.take i.toNat)) (List.getD r.aB i.toNat dy):=na kQ [] r.aB dy h1 hc
  have ha:=CG r.aB h1 hc
  have hl:=wR (r.aB.take i.toNat) []
  simp only[fO,tY] at hl
  have GH:(iS (r.aB.take i.toNat)).length<=du (r.aB.take i.toNat):=hl
  rw[wrap_i64 (by omega) (by omega)]
  refine⟨by omega,by omega,af (fun h=>⟨by omega,⟨by omega,by omega,?_⟩,by simp only[wg];omega⟩) (fun h=>⟨⟨by omega,by omega,?_⟩,by simp only[wg];omega⟩)⟩
  ·rw[hs,kQ,if_neg (by simpa using h)]
  ·rw[hs,kQ,if_pos (by simpa using h)]
 ·have hc:=yF hc
  rw[dB r.aB (by omega)]
  exact bN _
def arG:HH:=⟨_,aqd⟩
def i_(ps:List cn)(i:Nat):Bool:=(List.getD ps i dy).Not
def tw(ps:List cn)(i:Nat):Bool:=fF (List.getD ps i dy)&& !(decide (2<i)&& !i_ ps i)&& !(decide (i=0)&&i_ ps i)&& !(decide (0<i)&&i_ ps (i-1)&& !i_ ps i)
def lE(ps:List cn):Bool:=decide (1<=ps.length/\ps.length<=6)&&allI ps.length (tw ps)
def lG(ps:List cn)(i:Nat):Bool:=fF (List.getD ps i dy)&&(i_ ps i==decide (cH ps<=i))
def hU(ps:List cn):Bool:=decide (1<=ps.length/\ps.length<=6)&&decide (1<=cH ps/\cH ps<=3)&&allI ps.length (lG ps)
theorem fV{n:Nat}{p:Nat->Bool}:allI n p=true↔∀j,j<n->p j=true:=by simp[allI]
theorem qH(p:cn)(ps:List cn):cH (p::ps)=(if p.Not then 0 else 1)+cH ps:=by
 simp only[cH,List.filter_cons]
 cases p.Not<;>simp<;>omega
theorem IQ:∀{ps:List cn},(∀i,i+1<ps.length->i_ ps i=true->i_ ps (i+1)=true)->∀i,i<ps.length->i_ ps i=decide (cH ps<=i)
 |[],_,i,hi=>by simp at hi
 |p::ps,h,i,hi=>by
  have ih:=IQ (ps:=ps) (fun j hj hn=>h (j+1) (by simpa using hj) hn)
  rw[qH]
  cases hp:p.Not with
  |false=>
   cases i with
   |zero=>show p.Not=_;rw[hp];simp
   |succ i=>
    show i_ ps i=_
    rw[ih i (by simpa using hi)]
    simp only[wx,if_false,decide_eq_decide];omega
  |true=>
   have EI:∀j,j<(p::ps).length->i_ (p::ps) j=true:=by
    intro j
    induction j with
    |zero=>intro _;exact hp
    |succ j ihj=>intro hj;exact h j hj (ihj (by omega))
   have h0:cH ps=0:=by
    cases ps with
    |nil=>rfl
    |cons q qs=>
     have h1:=ih 0 (by simp)
     have h2:i_ (q::qs) 0=true:=EI 1 (by simp)
     rw[h2] at h1
     have:=yT h1.symm
     omega
   rw[EI i hi,h0];simp
theorem o7(ps:List cn):hU ps=lE ps:=by
 rw[H2]
 simp only[hU,lE,cK,decide_eq_true_eq,fV]
 constructor
 ·rintro⟨⟨h1,h2⟩,h3⟩
  have hN:∀j,j<ps.length->i_ ps j=decide (cH ps<=j):=fun j hj=>by
   have:=h3 j hj
   simp only[lG,cK,beq_iff_eq] at this
   exact this.2
  refine⟨h1,fun j hj=> ?_⟩
  have hk:=h3 j hj
  simp only[lG,cK] at hk
  simp only[tw,hk.1,hN j hj,u_,cK,ql,Bool.and_eq_false_iff,decide_eq_false_iff_not,Bool.not_eq_false',decide_eq_true_eq]
  refine⟨⟨by omega,by omega⟩,?_⟩
  by_cases h0:0<j
  ·rw[hN (j-1) (by omega)];simp only[decide_eq_false_iff_not];omega
  ·exact .inl (.inl h0)
 ·rintro⟨h1,h2⟩
  have hA:∀j,j<ps.length->fF (List.getD ps j dy)=true/\(2<j->i_ ps j=true)/\(j=0->i_ ps j=false)/\(0<j->i_ ps (j-1)=true->i_ ps j=true):=fun j hj=>by
   have:=h2 j hj
   simp only[tw,cK,ql,Bool.and_eq_false_iff,decide_eq_false_iff_not,Bool.not_eq_false'] at this
   obtain⟨⟨⟨a1,a2⟩,a3⟩,a4⟩:=this
   refine⟨a1,fun h=>a2.resolve_left (fun e=>e h),fun h=>a3.resolve_left (fun e=>e h),fun h hn=>a4.resolve_left (fun e=> ?_)⟩
   rcases e with e|e
   ·exact e h
   ·rw[hn] at e;cases e
  have hN:=IQ (ps:=ps) (fun i hi hn=>(hA (i+1) hi).2.2.2 (by omega) (by simpa using hn))
  have hz:=(hA 0 (by omega)).2.2.1 rfl
  rw[hN 0 (by omega)] at hz
  have hz:=yF hz
  have hle:cH ps<=ps.length:=Kh _ _
  refine⟨⟨h1,by omega,?_⟩,fun j hj=> ?_⟩
  ·by_cases h4:3<ps.length
   ·have:=(hA 3 h4).2.1 (by omega)
    rw[hN 3 h4] at this
    exact yT this
   ·omega
  ·simp only[lG,(hA j hj).1,hN j hj];simp
def eE(vars:List BA)(a:cp):Bool:= !decide (a.K=1)||mq vars a.S
def mi(vars:List BA)(c:c_):Bool:=jc c&&eE vars c.L&&eE vars c.R
def kp(l:List c_)(vars:List BA):Bool:=decide (l.length<=6)&&l.all (mi vars)
def jB(vars:List BA)(e:b7):Bool:=eE vars e.L&&eE vars e.R
def gT(pos:Int)(a:eX):Bool:= !(decide (a.Kind=2)&&decide (pos<=a.N))
def mT(vars:List BA)(pos:Int)(a:eX):Bool:=cW a&&gT pos a&&a.ay.all (jB vars)
def kY(l:List eX)(vars:List BA)(pos:Int):Bool:=decide (1<=l.length/\l.length<=6)&&l.all (mT vars pos)
def fI(r:aV):Bool:=bm r.Name&&decide (-100<=r.jP/\r.jP<=100)&&lE r.aB&&kp r.aY (cL r.aB)&&kY r.bG (cL r.aB) (cH r.aB)
theorem Gj(ps:List cn):du ps<=j6 ps:=by
 simp only[du,j6]
 have:∀l:List cn,(l.map fun p=>p.ay.length).sum<=(l.map jW).sum:=by
  intro l
  induction l with
  |nil=>exact s_ _
  |cons p l ih=>simp only[uY,Ki,jW,tj] at ih⊢;omega
 have:=this ps;omega
theorem Qc(ps:List cn)(t:BA):mq (iS ps) t=mq (cL ps) t:=by
 rw[H2,pf,pf,IG,wS]
def mN(l:List BA)(c:c_):List BA:=dk l [c.L,c.R]
def sF(l:List BA)(e:b7):List BA:=dk l [e.L,e.R]
def pX(l:List BA)(a:eX):List BA:=a.ay.foldl sF l
def nA(r:aV):List BA:=r.bG.foldl pX (r.aY.foldl mN [])
def pW(l:List eX):Nat:=(l.map fun a=>2*a.ay.length).sum
theorem ME(l:List BA)(c:c_):(mN l c).length<=l.length+2:=jq _ _
theorem ym:∀(es:List b7)(l:List BA),(es.foldl sF l).length<=l.length+2*es.length
 |[],l=>s_ _
 |e::es,l=>by
  have h1:=ym es (sF l e)
  have h2:(sF l e).length<=l.length+2:=jq _ _
  show(es.foldl sF (sF l e)).length<=_
  simp only[gv];omega
theorem rl:∀(cs:List c_)(l:List BA),(cs.foldl mN l).length<=l.length+2*cs.length
 |[],l=>s_ _
 |c::cs,l=>by
  have h1:=rl cs (mN l c)
  have h2:=ME l c
  show(cs.foldl mN (mN l c)).length<=_
  simp only[gv];omega
theorem vD:∀(xs:List eX)(l:List BA),(xs.foldl pX l).length<=l.length+pW xs
 |[],l=>s_ _
 |a::xs,l=>by
  have h1:=vD xs (pX l a)
  have h2:(pX l a).length<=l.length+2*a.ay.length:=ym _ _
  show(xs.foldl pX (pX l a)).length<=_
  simp only[pW,uY,Ki] at h1⊢;omega
theorem Ox(l:List eX){i:Int}(h0:0<=i)(h:i<l.length):pW (l.take i.toNat)+2*(List.getD l i.toNat fP).ay.length<=pW l:=by
 have h1:pW (l.take (i+1).toNat)<=pW l:=by
  have h:=congrArg (fun q=>(q.map fun a:eX=>2*a.ay.length).sum) (Tr (i+1).toNat l)
  simp only[Kg,zet] at h
  simp only[pW];omega
 rw[<-fD l fP h0 h] at h1
 simp only[pW,Kg,zet,uY,List.map_nil,Ki,List.sum_nil] at h1⊢
 omega
def names(t:BA)(a:cp):Prop:=a.K=1/\t=a.S
theorem ER{l:List BA}{a b:cp}{t:BA}:t∈dk l [a,b]↔t∈l\/names t a\/names t b:=by
 rw[qf];simp[names]
theorem EQ{t:BA}:∀{es:List b7}{l:List BA},t∈es.foldl sF l↔t∈l\/∃e∈es,names t e.L\/names t e.R
 |[],l=>by simp
 |e::es,l=>by
  show t∈es.foldl sF (sF l e)↔_
  rw[EQ,sF,ER]
  simp only[jQ,exists_eq_or_imp,or_assoc]
theorem rk{t:BA}:∀{cs:List c_}{l:List BA},t∈cs.foldl mN l↔t∈l\/∃c∈cs,names t c.L\/names t c.R
 |[],l=>by simp
 |c::cs,l=>by
  show t∈cs.foldl mN (mN l c)↔_
  rw[rk,mN,ER]
  simp only[jQ,exists_eq_or_imp,or_assoc]
theorem mW{t:BA}:∀{xs:List eX}{l:List BA},t∈xs.foldl pX l↔t∈l\/∃a∈xs,∃e∈a.ay,names t e.L\/names t e.R
 |[],l=>by simp
 |a::xs,l=>by
  show t∈xs.foldl pX (pX l a)↔_
  rw[mW,pX,EQ]
  simp only[jQ,exists_eq_or_imp,or_assoc]
theorem I3{vars:List BA}{a:cp}:eE vars a=true↔∀t,names t a->mq vars t=true:=by
 simp only[eE,Ee,ql,decide_eq_false_iff_not,names]
 constructor
 ·rintro(h|h) t ⟨h1,rfl⟩
  ·exact absurd h1 h
  ·exact h
 ·intro h
  by_cases h1:a.K=1
  ·exact .inr (h a.S ⟨h1,rfl⟩)
  ·exact .inl h1
theorem Ow(r:aV)(vars:List BA):(nA r).all (mq vars)=(r.aY.all (fun c=>eE vars c.L&&eE vars c.R)&&r.bG.all fun a=>a.ay.all (jB vars)):=by
 rw[H2]
 simp only[cK,rh,jB,I3,nA]
 constructor
 ·intro h
  refine⟨fun c hc=>⟨fun t ht=>h t ?_,fun t ht=>h t ?_⟩,fun a ha e he=>⟨fun t ht=>h t ?_,fun t ht=>h t ?_⟩⟩
  ·rw[mW,rk];exact .inl (.inr ⟨c,hc,.inl ht⟩)
  ·rw[mW,rk];exact .inl (.inr ⟨c,hc,.inr ht⟩)
  ·rw[mW];exact .inr ⟨a,ha,e,he,.inl ht⟩
  ·rw[mW];exact .inr ⟨a,ha,e,he,.inr ht⟩
 ·rintro⟨h1,h2⟩ t ht
  rw[mW,rk] at ht
  rcases ht with(ht|⟨c,hc,ht|ht⟩)|⟨a,ha,e,he,ht|ht⟩
  ·cases ht
  ·exact(h1 c hc).1 t ht
  ·exact(h1 c hc).2 t ht
  ·exact(h2 a ha e he).1 t ht
  ·exact(h2 a ha e he).2 t ht
def lm(r:aV):Bool:=bm r.Name&&decide (-100<=r.jP/\r.jP<=100)&&lE r.aB&&decide (r.aY.length<=6)&&decide (1<=r.bG.length/\r.bG.length<=6)&&r.aY.all jc&&r.bG.all (fun a=>cW a&&gT (cH r.aB) a)&&(nA r).all (mq (iS r.aB))
theorem Mt{α:Type}(p q:α->Bool)(l:List α):l.all (fun x=>p x&&q x)=(l.all p&&l.all q):=by
 induction l with
 |nil=>rfl
 |cons x l ih=>simp only[Om,ih];cases p x<;>cases q x<;>simp
theorem Cv(r:aV):lm r=fI r:=by
 have e1:(nA r).all (mq (iS r.aB))=(nA r).all (mq (cL r.aB)):=by
  have:mq (iS r.aB)=mq (cL r.aB):=funext fun t=>Qc _ _
  rw[this]
 have e2:r.aY.all (mi (cL r.aB))=(r.aY.all jc&&r.aY.all (fun c=>eE (cL r.aB) c.L&&eE (cL r.aB) c.R)):=by
  rw[<-Mt]
  congr 1;funext c;simp only[mi,Bool.and_assoc]
 have e3:r.bG.all (mT (cL r.aB) (cH r.aB))=(r.bG.all (fun a=>cW a&&gT (cH r.aB) a)&&r.bG.all (fun a=>a.ay.all (jB (cL r.aB)))):=by
  rw[<-Mt];rfl
 simp only[lm,fI,kp,kY,e1,e2,e3,Ow]
 rw[H2]
 simp only[cK]
 constructor
 ·rintro⟨⟨⟨⟨⟨⟨⟨a1,a2⟩,a3⟩,a4⟩,a5⟩,a6⟩,a7⟩,a8,a9⟩
  exact⟨⟨⟨⟨a1,a2⟩,a3⟩,a4,a6,a8⟩,a5,a7,a9⟩
 ·rintro⟨⟨⟨⟨a1,a2⟩,a3⟩,a4,a6,a8⟩,a5,a7,a9⟩
  exact⟨⟨⟨⟨⟨⟨⟨a1,a2⟩,a3⟩,a4⟩,a5⟩,a6⟩,a7⟩,a8,a9⟩
theorem aU{p:Prop}[Decidable p]{P Q:Prop}(h1:p->P)(h2:¬p->Q):bif decide p then P else Q:=af (fun h=>h1 (yT h)) (fun h=>h2 (yF h))
theorem bO{b:Bool}{P Q:Prop}(h1:b=false->P)(h2:b=true->Q):bif !b then P else Q:=af (fun h=>h1 (by simpa using h)) (fun h=>h2 (by simpa using h))
theorem bo{a b:Int}{P Q:Prop}(h1:a=b->P)(h2:¬a=b->Q):bif a==b then P else Q:=af (fun h=>h1 (eq_of_beq h)) (fun h=>h2 (fun e=>by rw[e] at h;simp at h))
theorem Xs{α:Type}(f:α->Nat)(B:Nat):∀(l:List α),(∀x∈l,f x<=B)->(l.map f).sum<=l.length*B
 |[],_=>by simp
 |x::l,h=>by
  have h1:=Xs f B l (fun y hy=>h y (cA _ hy))
  have h2:=h x gj
  simp only[uY,Ki,gv,wz];omega
theorem IL{ps:List cn}(h:lE ps=true):du ps<=30:=by
 simp only[lE,cK,decide_eq_true_eq,fV] at h
 have:=Xs (fun p:cn=>p.ay.length) 5 ps (fun p hp=>by
  obtain⟨i,hi,rfl⟩:=ri hp
  have hk:=h.2 i hi
  simp only[tw,cK,eY,fo hi,FU] at hk
  have hk:=hk.1.1.1
  simp only[fF,cK,decide_eq_true_eq] at hk
  exact hk.1.2)
 simp only[du];omega
theorem wb{a:eX}(h:cW a=true):a.ay.length<=5:=by
 simp only[cW,z_,eG] at h
 grind
theorem JY{l:List eX}(hl:l.length<=6)(h:∀a∈l,cW a=true):pW l<=60:=by
 have:=Xs (fun a:eX=>2*a.ay.length) 10 l (fun a ha=>by have:=wb (h a ha);omega)
 simp only[pW];omega
def RN:bp UU where
 α:=cp×(List BA)
 md:=[.ro,.ro]
 of:=oC (oA .er) (o1 (oL .str))
 ds:=fun x=>[dA .er x.1,dL .str x.2]
 pre:=fun _=>[]
 bT:=fun(a,vars)=>⟨[dO (eE vars a)],[],[]⟩
 law:=lC (lA .er) (l1 (lL .str))
def aj5:RN.α->Nat->Option (bY UU):=fun(a,vars)=>aN []
def ae1:=us [SQ]
theorem agM:Holds EE (158,RN):=by
 refine holds_of ax func158 RN (by kernel_rfl) ae1 (aE _) aj5 (fun x hp hb=> ?_)
 obtain⟨a,vars⟩:=x
 have bi:=sd (x:=a) (hb _ m0)
 have qu:=bi.1
 have qO:=bi.2
 have GG:vars.length<=9223372036854775807:=jO (hb _ m1)
 clear hp hb
 apply @ve _ (bif a.K !=1 then Lb true (eE vars a) else Lb (mq vars a.S) (eE vars a)) (by kernel_rfl)
 simp only[eE]
 refine af (fun h=>cj ?_) (fun h=>cj ?_)<;>grind
def SP:HH:=⟨_,agM⟩
def Su:bp UU where
 α:=(List c_)×(List BA)
 md:=[.ro,.ro]
 of:=oC (oL .bL) (o1 (oL .str))
 ds:=fun x=>[dL .bL x.1,dL .str x.2]
 pre:=fun _=>[]
 bT:=fun(l,vars)=>⟨[dO (kp l vars)],[],[]⟩
 law:=lC (lL .bL) (l1 (lL .str))
def BZ(l:(List c_))(vars:(List BA)):Int×Unit->Prop:=fun(i,_)=>0<=i/\i<=l.length/\(l.drop i.toNat).all (mi vars)=l.all (mi vars)
def Bl(l:(List c_))(vars:(List BA)):Int×Unit->Nat:=fun(i,_)=>l.length-i.toNat
def akK:Su.α->Nat->Option (bY UU):=fun(l,vars)=>aN [(2,bh [.slot 5 (5,1024) (.lit (.int .i64))] (fun _=>BZ l vars) (Bl l vars))]
def afG:=us [aiy,SP]
theorem aht:Holds EE (113,Su):=by
 refine holds_of ax func113 Su (by kernel_rfl) afG (aE _) akK (fun x hp hb=> ?_)
 obtain⟨l,vars⟩:=x
 have gP:l.length<=9223372036854775807:=jO (hb _ m0)
 have GG:vars.length<=9223372036854775807:=jO (hb _ m1)
 clear hp hb
 apply @ve _ (let x0:Int:=(l.length:Int);let q0:=Lb false (kp l vars);BZ l vars (0,())/\∀(y:Int×PUnit),let x1:c_:=List.getD l y.1.toNat vc;let q1:=(IntKind.wrap IntKind.i64 (y.1+1),());BZ l vars y->bif decide (y.1<x0) then 0<=y.1/\y.1.toNat<l.length/\bif !jc x1 then q0 else 0<=y.1/\y.1.toNat<l.length/\bif !eE vars x1.L then q0 else 0<=y.1/\y.1.toNat<l.length/\bif !eE vars x1.R then q0 else BZ l vars q1/\Bl l vars q1<Bl l vars y else Lb (decide (x0<=6)) (kp l vars)) (by kernel_rfl)
 dsimp only
 refine⟨⟨by omega,by omega,rfl⟩,?_⟩
 rintro⟨i,⟨⟩⟩ ⟨h1,h2,hR⟩
 simp only
 refine aU (fun hc=> ?_) (fun hc=> ?_)
 ·rw[dE _ _ vc h1 (by omega)] at hR
  rw[wrap_i64 (by omega) (by omega)]
  have hN:mi vars (List.getD l i.toNat vc)=false->kp l vars=false:=fun h=>by simp only[kp,<-hR,h];simp
  refine⟨by omega,by omega,bO (fun h=>bw (hN ?_)) (fun h=>⟨by omega,by omega,bO (fun g=>bw (hN ?_)) (fun g=>⟨by omega,by omega,bO (fun k=>bw (hN ?_)) (fun k=>⟨⟨by omega,by omega,?_⟩,by simp only[Bl];omega⟩)⟩)⟩)⟩
  ·simp only[mi,h,pF]
  ·simp only[mi,g,va,pF]
  ·simp only[mi,k,va]
  ·rw[<-hR];simp only[mi,h,g,k,u_]
 ·rw[cg _ (by omega)] at hR
  refine cj ?_
  simp only[kp,<-hR];simp;omega
def ai3:HH:=⟨_,aht⟩
def St:bp UU where
 α:=(List eX)×(List BA)×Int
 md:=[.ro,.ro,.ro]
 of:=oC (oL .cV) (oC (oL .str) (o1 oI))
 ds:=fun x=>[dL .cV x.1,dL .str x.2.1,dI x.2.2]
 pre:=fun _=>[]
 bT:=fun(l,vars,pos)=>⟨[dO (kY l vars pos)],[],[]⟩
 law:=lC (lL .cV) (lC (lL .str) (l1 lI))
def yb(l:(List eX))(vars:(List BA))(pos:Int):Int×Unit->Prop:=fun(i,_)=>0<=i/\i<=l.length/\(l.drop i.toNat).all (mT vars pos)=l.all (mT vars pos)
def sr(l:(List eX))(vars:(List BA))(pos:Int):Int×Unit->Nat:=fun(i,_)=>l.length-i.toNat
def sA(l:(List eX))(vars:(List BA))(pos:Int):Int×Int×Unit->Int×Int×Unit->Prop:=fun(i0,k0,_) (i,k,_)=>i=i0/\0<=k/\k<=(List.getD l i.toNat fP).ay.length/\((List.getD l i.toNat fP).ay.drop k.toNat).all (jB vars)=(List.getD l i.toNat fP).ay.all (jB vars)
def sq(l:(List eX))(vars:(List BA))(pos:Int):Int×Int×Unit->Nat:=fun(i,k,_)=>(List.getD l i.toNat fP).ay.length-k.toNat
def akJ:St.α->Nat->Option (bY UU):=fun(l,vars,pos)=>aN [(2,bh [.slot 7 (7,1024) (.lit (.int .i64))] (fun _=>yb l vars pos) (sr l vars pos)),(7,bh [.slot 7 (7,1024) (.lit (.int .i64)),.slot 8 (8,1024) (.lit (.int .i64))] (sA l vars pos) (sq l vars pos))]
def afF:=us [aix,SP,sC]
theorem ahs:Holds EE (114,St):=by
 refine holds_of ax func114 St (by kernel_rfl) afF (aE _) akJ (fun x hp hb=> ?_)
 obtain⟨l,vars,pos⟩:=x
 have gP:l.length<=9223372036854775807:=jO (hb _ m0)
 have GG:vars.length<=9223372036854775807:=jO (hb _ m1)
 have aod:=sL (n:=pos) (hb _ m2)
 clear hp hb
 apply @ve _ (let x0:Int:=(l.length:Int);let q0:=Lb false (kY l vars pos);yb l vars pos (0,())/\∀(y:Int×PUnit),let x1:eX:=List.getD l y.1.toNat fP;let q1:=(y.1,0,());yb l vars pos y->bif decide (y.1<x0) then 0<=y.1/\y.1.toNat<l.length/\bif !cW x1 then q0 else 0<=y.1/\y.1.toNat<l.length/\bif x1.Kind==2 then 0<=y.1/\y.1.toNat<l.length/\bif decide (x1.N≥pos) then q0 else sA l vars pos q1 q1/\∀(aS:Int×Int×PUnit),let x3:Nat:=aS.2.1.toNat;let x4:Int:=(↑(List.length (List.getD l aS.1.toNat fP).ay):Int);let x2:b7:=List.getD (List.getD l aS.1.toNat fP).ay x3 fq;let q2:=(aS.1,IntKind.wrap IntKind.i64 (aS.2.1+1),());let q3:=(IntKind.wrap IntKind.i64 (aS.1+1),());sA l vars pos q1 aS->0<=aS.1/\aS.1.toNat<l.length/\bif decide (aS.2.1<x4) then 0<=aS.1/\aS.1.toNat<l.length/\0<=aS.2.1/\x3<List.length (List.getD l aS.1.toNat fP).ay/\bif !eE vars x2.L then q0 else 0<=aS.1/\aS.1.toNat<l.length/\0<=aS.2.1/\x3<List.length (List.getD l aS.1.toNat fP).ay/\bif !eE vars x2.R then q0 else sA l vars pos q1 q2/\sq l vars pos q2<sq l vars pos aS else yb l vars pos q3/\sr l vars pos q3<sr l vars pos y else sA l vars pos q1 q1/\∀(aS:Int×Int×PUnit),let x3:Nat:=aS.2.1.toNat;let x4:Int:=(↑(List.length (List.getD l aS.1.toNat fP).ay):Int);let x2:b7:=List.getD (List.getD l aS.1.toNat fP).ay x3 fq;let q4:=(aS.1,IntKind.wrap IntKind.i64 (aS.2.1+1),());let q5:=(IntKind.wrap IntKind.i64 (aS.1+1),());sA l vars pos q1 aS->0<=aS.1/\aS.1.toNat<l.length/\bif decide (aS.2.1<x4) then 0<=aS.1/\aS.1.toNat<l.length/\0<=aS.2.1/\x3<List.length (List.getD l aS.1.toNat fP).ay/\bif !eE vars x2.L then q0 else 0<=aS.1/\aS.1.toNat<l.length/\0<=aS.2.1/\x3<List.length (List.getD l aS.1.toNat fP).ay/\bif !eE vars x2.R then q0 else sA l vars pos q1 q4/\sq l vars pos q4<sq l vars pos aS else yb l vars pos q5/\sr l vars pos q5<sr l vars pos y else Lb (decide (1<=x0/\x0<=6)) (kY l vars pos)) (by kernel_rfl)
 dsimp only
 refine⟨⟨by omega,by omega,rfl⟩,?_⟩
 rintro⟨i,⟨⟩⟩ ⟨h1,h2,hR⟩
 simp only
 refine aU (fun hc=> ?_) (fun hc=> ?_)
 ·rw[dE _ _ fP h1 (by omega)] at hR
  have hN:mT vars pos (List.getD l i.toNat fP)=false->kY l vars pos=false:=fun h=>by simp only[kY,<-hR,h];simp
  refine⟨by omega,by omega,bO (fun ha=>bw (hN (by simp only[mT,ha,pF]))) (fun ha=>⟨by omega,by omega,bo (fun kU=>⟨by omega,by omega,aU (fun hp=>bw (hN ?_)) (fun hp=> ?_)⟩) (fun kU=> ?_)⟩)⟩
  ·have:gT pos (List.getD l i.toNat fP)=false:=by simp only[gT,kU,decide_eq_true (show pos<=(List.getD l i.toNat fP).N from hp)];simp
   simp only[mT,this,va,pF]
  ·have hd:gT pos (List.getD l i.toNat fP)=true:=by simp only[gT,decide_eq_false (show¬pos<=(List.getD l i.toNat fP).N from hp)];simp
   have h5:=wb ha
   refine⟨⟨rfl,by omega,by omega,rfl⟩,?_⟩
   rintro⟨i',k,⟨⟩⟩ ⟨rfl,g1,g2,gR⟩
   simp only
   refine⟨by omega,by omega,aU (fun hk=> ?_) (fun hk=> ?_)⟩
   ·rw[dE _ _ fq g1 (by omega)] at gR
    rw[wrap_i64 (n:=k+1) (by omega) (by omega)]
    have hM:jB vars (List.getD (List.getD l i'.toNat fP).ay k.toNat fq)=false->kY l vars pos=false:=fun h=>hN (by simp only[mT,<-gR,h];simp)
    refine⟨by omega,by omega,g1,by omega,bO (fun e=>bw (hM ?_)) (fun e=>⟨by omega,by omega,g1,by omega,bO (fun f=>bw (hM ?_)) (fun f=>⟨⟨rfl,by omega,by omega,?_⟩,by simp only[sq];omega⟩)⟩)⟩
    ·simp only[jB,e,pF]
    ·simp only[jB,f,va]
    ·rw[<-gR];simp only[jB,e,f,u_]
   ·rw[cg _ (by omega)] at gR
    rw[wrap_i64 (n:=i'+1) (by omega) (by omega)]
    refine⟨⟨by omega,by omega,?_⟩,by simp only[sr];omega⟩
    rw[<-hR];simp only[mT,<-gR,hd,ha,Oj,u_]
  ·have hd:gT pos (List.getD l i.toNat fP)=true:=by simp only[gT,decide_eq_false kU];simp
   have h5:=wb ha
   refine⟨⟨rfl,by omega,by omega,rfl⟩,?_⟩
   rintro⟨i',k,⟨⟩⟩ ⟨rfl,g1,g2,gR⟩
   simp only
   refine⟨by omega,by omega,aU (fun hk=> ?_) (fun hk=> ?_)⟩
   ·rw[dE _ _ fq g1 (by omega)] at gR
    rw[wrap_i64 (n:=k+1) (by omega) (by omega)]
    have hM:jB vars (List.getD (List.getD l i'.toNat fP).ay k.toNat fq)=false->kY l vars pos=false:=fun h=>hN (by simp only[mT,<-gR,h];simp)
    refine⟨by omega,by omega,g1,by omega,bO (fun e=>bw (hM ?_)) (fun e=>⟨by omega,by omega,g1,by omega,bO (fun f=>bw (hM ?_)) (fun f=>⟨⟨rfl,by omega,by omega,?_⟩,by simp only[sq];omega⟩)⟩)⟩
    ·simp only[jB,e,pF]
    ·simp only[jB,f,va]
    ·rw[<-gR];simp only[jB,e,f,u_]
   ·rw[cg _ (by omega)] at gR
    rw[wrap_i64 (n:=i'+1) (by omega) (by omega)]
    refine⟨⟨by omega,by omega,?_⟩,by simp only[sr];omega⟩
    rw[<-hR];simp only[mT,<-gR,hd,ha,Oj,u_]
 ·rw[cg _ (by omega)] at hR
  refine cj ?_
  simp only[kY,<-hR,Oj,EL];exact decide_eq_decide.2 (by omega)
def ai2:HH:=⟨_,ahs⟩
def Sv:bp UU where
 α:=(List cn)
 md:=[.ro]
 of:=o1 (oL .cU)
 ds:=fun x=>[dL .cU x]
 pre:=fun _=>[]
 bT:=fun l=>⟨[dO (lE l)],[],[]⟩
 law:=l1 (lL .cU)
def sB(l:(List cn)):Int×Unit->Prop:=fun(i,_)=>0<=i/\i<=l.length/\∀j:Nat,(j:Int)<i->tw l j=true
def lx(l:(List cn)):Int×Unit->Nat:=fun(i,_)=>l.length-i.toNat
def akL:Sv.α->Nat->Option (bY UU):=fun l=>aN [(2,bh [.slot 3 (3,1024) (.lit (.int .i64))] (fun _=>sB l) (lx l))]
def afH:=us [aiz,sC]
theorem ahu:Holds EE (112,Sv):=by
 refine holds_of ax func112 Sv (by kernel_rfl) afH (aE _) akL (fun(l:(List cn)) hp hb=> ?_)
 have gP:l.length<=9223372036854775807:=jO (hb _ m0)
 clear hp hb
 apply @ve _ (let x0:Int:=(l.length:Int);let q0:=Lb false (lE l);sB l (0,())/\∀(y:Int×PUnit),let x1:Nat:=Int.toNat (IntKind.wrap IntKind.i64 (y.1-1));let q1:=bif decide (y.1>0) then 0<=IntKind.wrap IntKind.i64 (y.1-1)/\x1<l.length/\bif (List.getD l x1 dy).Not then 0<=y.1/\y.1.toNat<l.length/\bif !(List.getD l y.1.toNat dy).Not then q0 else sB l (IntKind.wrap IntKind.i64 (y.1+1),())/\lx l (IntKind.wrap IntKind.i64 (y.1+1),())<lx l y else sB l (IntKind.wrap IntKind.i64 (y.1+1),())/\lx l (IntKind.wrap IntKind.i64 (y.1+1),())<lx l y else sB l (IntKind.wrap IntKind.i64 (y.1+1),())/\lx l (IntKind.wrap IntKind.i64 (y.1+1),())<lx l y;let q2:=(0:Int)<=y.1/\y.1.toNat<l.length/\bif !fF (List.getD l y.1.toNat dy) then q0 else bif y.1==0 then 0<=y.1/\y.1.toNat<l.length/\bif (List.getD l y.1.toNat dy).Not then q0 else q1 else q1;sB l y->bif decide (y.1<x0) then bif decide (y.1>2) then 0<=y.1/\y.1.toNat<l.length/\bif !(List.getD l y.1.toNat dy).Not then q0 else q2 else q2 else Lb (decide (1<=x0/\x0<=6)) (lE l)) (by kernel_rfl)
 dsimp only
 refine⟨⟨by omega,by omega,by intro j hj;omega⟩,?_⟩
 rintro⟨i,⟨⟩⟩ ⟨h1,h2,hR⟩
 simp only
 refine aU (fun hc=> ?_) (fun hc=> ?_)
 ·have hN:tw l i.toNat=false->lE l=false:=fun h=>by
   have hf:allI l.length (tw l)=false:=gK (j:=i.toNat) (by omega) h
   simp only[lE,hf];simp
  have hm:lx l (i+1,PUnit.unit)<lx l (i,()):=by simp only[lx];omega
  have e1:(i-1).toNat=i.toNat-1:=by omega
  simp(disch:=omega) only[wrap_i64]
  simp only[e1]
  have c1:decide (2<i.toNat)=decide (i>2):=decide_eq_decide.2 (by omega)
  have c2:decide (i.toNat=0)=decide (i=0):=decide_eq_decide.2 (by omega)
  have c3:decide (0<i.toNat)=decide (i>0):=decide_eq_decide.2 (by omega)
  have hA:tw l i.toNat=(fF (List.getD l i.toNat dy)&& !(decide (i>2)&& !(List.getD l i.toNat dy).Not)&& !(decide (i=0)&&(List.getD l i.toNat dy).Not)&& !(decide (i>0)&&(List.getD l (i.toNat-1) dy).Not&& !(List.getD l i.toNat dy).Not)):=by
   simp only[tw,i_,c1,c2,c3]
  have We:tw l i.toNat=true->sB l (i+1,PUnit.unit)/\lx l (i+1,PUnit.unit)<lx l (i,()):=fun h=>⟨⟨by omega,by omega,fW h1 hR h⟩,hm⟩
  rw[hA] at hN We
  generalize (List.getD l (i.toNat-1) dy).Not=q at*
  generalize (List.getD l i.toNat dy).Not=r at*
  generalize fF (List.getD l i.toNat dy)=s at*
  clear hA c1 c2 c3 hR
  have gF:i.toNat<l.length:=by omega
  have C4:i.toNat-1<l.length:=by omega
  have hi1:i>0->0<=i-1:=fun h=>by omega
  repeat' (first|refine bw (hN ?_)|refine We ?_|refine aU (fun h=> ?_) (fun h=> ?_)|refine bo (fun h=> ?_) (fun h=> ?_)|refine af (fun h=> ?_) (fun h=> ?_)|refine And.intro h1 ?_|refine And.intro gF ?_|refine And.intro C4 ?_|refine And.intro (hi1 (by assumption)) ?_)
  all_goals (cases q<;>cases r<;>cases s<;>simp at* <;>omega)
 ·have hA:allI l.length (tw l)=true:=iu fun j hj=>hR j (by omega)
  refine cj ?_
  simp only[lE,hA,EL];exact decide_eq_decide.2 (by omega)
def ai4:HH:=⟨_,ahu⟩
def aah:bp UU where
 α:=aV
 md:=[.ro]
 of:=o1 (oA .a_)
 ds:=fun x=>[dA .a_ x]
 pre:=fun r=>[du r.aB<=4294967295]
 bT:=fun r=>⟨[dO (fI r)],[],[]⟩
 law:=l1 (lA .a_)
def as4:aah.α->Nat->Option (bY UU):=fun r=>aN []
def apo:=us [WQ,J4,sC,ai4,ai3,ai2,SJ]
theorem aqO:Holds EE (62,aah):=by
 refine holds_of ax func62 aah (by kernel_rfl) apo (aE _) as4 (fun(r:aV) hp hb=> ?_)
 have bi:=ke (x:=r) (hb _ m0)
 have im:=bi.1
 have il:=bi.2.1
 have gI:=bi.2.2.1
 have io:=bi.2.2.2
 have bC:du r.aB<=4294967295:=hp _ m0
 clear hp hb
 apply @ve _ (let q0:=Lb false (fI r);du r.aB<=4294967296/\bif bm r.Name then bif decide ((-100)<=r.jP/\r.jP<=100) then bif lE r.aB then bif kp r.aY (cL r.aB) then Lb (kY r.bG (cL r.aB) (↑(cH r.aB):Int)) (fI r) else q0 else q0 else q0 else q0) (by kernel_rfl)
 dsimp only
 refine⟨by omega,?_⟩
 simp only[fI]
 repeat' (refine af (fun h=> ?_) (fun h=> ?_))
 all_goals (refine cj ?_;grind)
def arX:HH:=⟨_,aqO⟩
def ZN:bp UU where
 α:=aV
 md:=[.ro]
 of:=o1 (oA .a_)
 ds:=fun x=>[dA .a_ x]
 pre:=fun _=>[]
 bT:=fun r=>⟨[dO (hU r.aB)],[],[]⟩
 law:=l1 (lA .a_)
def Ht(r:aV):Int×T0×Unit->Prop:=fun(i,b,_)=>b=(r.Name,r.jP,r.aB,r.aY,r.bG,())/\0<=i/\i<=r.aB.length/\(1<=r.aB.length/\r.aB.length<=6)/\(1<=cH r.aB/\cH r.aB<=3)/\∀j:Nat,(j:Int)<i->lG r.aB j=true
def G6(r:aV):Int×T0×Unit->Nat:=fun(i,b,_)=>r.aB.length-i.toNat
def asv:ZN.α->Nat->Option (bY UU):=fun r=>aN [(4,bh [.slot 19 (19,1024) (.lit (.int .i64)),.box 1 (1,1024) [.lit .str,.lit (.int .i64),.shr .cU,.shr .bL,.shr .cV]] (fun _=>Ht r) (G6 r))]
def aoU:=us [Ec,aa8,aiG]
theorem aqg:Holds EE (96,ZN):=by
 refine holds_of ax func96 ZN (by kernel_rfl) aoU (aE _) asv (fun(r:aV) hp hb=> ?_)
 have bi:=ke (x:=r) (hb _ m0)
 have im:=bi.1
 have il:=bi.2.1
 have gI:=bi.2.2.1
 have io:=bi.2.2.2
 clear hp hb
 apply @ve _ (let x0:Int:=(r.aB.length:Int);let q0:=Lb false (hU r.aB);bif !decide (1<=x0/\x0<=6) then q0 else bif !decide (1<=(↑(cH r.aB):Int)/\(↑(cH r.aB):Int)<=3) then q0 else Ht r (0,(r.Name,r.jP,r.aB,r.aY,r.bG,()),())/\∀(y:Int×WY×PUnit),let x1:Int:=(↑(cH y.2.1.2.2.1):Int);let q1:=(IntKind.wrap IntKind.i64 (y.1+1),(y.2.1.1,y.2.1.2.1,y.2.1.2.2.1,y.2.1.2.2.2.1,y.2.1.2.2.2.2.1,()),());Ht r y->bif decide (y.1<x0) then 0<=y.1/\y.1.toNat<r.aB.length/\bif !fF (List.getD r.aB y.1.toNat dy) then q0 else bif !(List.getD r.aB y.1.toNat dy).Not==decide (y.1≥x1) then q0 else Ht r q1/\G6 r q1<G6 r y else Lb true (hU r.aB)) (by kernel_rfl)
 dsimp only
 refine bO (fun h=>bw ?_) (fun h=>bO (fun h'=>bw ?_) (fun h'=> ?_))
 ·have h:=yF h
  simp only[hU];rw[decide_eq_false (by omega)];rfl
 ·have h':=yF h'
  simp only[hU];rw[decide_eq_false (p:=1<=cH r.aB/\cH r.aB<=3) (by omega)];simp
 have h:=yT h
 have h':=yT h'
 refine⟨⟨rfl,by omega,by omega,by omega,by omega,by intro j hj;omega⟩,?_⟩
 rintro⟨i,⟨b1,b2,b3,b4,b5,⟨⟩⟩,⟨⟩⟩ ⟨rP,h1,h2,h3,h4,hR⟩
 cases rP
 simp only
 refine aU (fun hc=> ?_) (fun hc=> ?_)
 ·have hN:lG r.aB i.toNat=false->hU r.aB=false:=fun h=>by
   have hf:allI r.aB.length (lG r.aB)=false:=gK (j:=i.toNat) (by omega) h
   simp only[hU,hf];simp
  rw[wrap_i64 (by omega) (by omega)]
  have c1:decide (cH r.aB<=i.toNat)=decide (i≥(cH r.aB:Int)):=decide_eq_decide.2 (by omega)
  refine⟨by omega,by omega,bO (fun g=>bw (hN (by simp only[lG,g,pF]))) (fun g=>bO (fun k=>bw (hN ?_)) (fun k=>⟨⟨rfl,by omega,by omega,h3,h4,fW h1 hR ?_⟩,by simp only[G6];omega⟩))⟩
  ·simp only[lG,i_,c1,k];simp
  ·simp only[lG,i_,c1,k,g];rfl
 ·have hA:allI r.aB.length (lG r.aB)=true:=iu fun j hj=>hR j (by omega)
  refine mV ?_
  simp only[hU,hA,decide_eq_true h3,decide_eq_true h4];rfl
def arJ:HH:=⟨_,aqg⟩
def SE:bp UU where
 α:=aV
 md:=[.ro]
 of:=o1 (oA .a_)
 ds:=fun x=>[dA .a_ x]
 pre:=fun r=>[2*r.aY.length+pW r.bG<=4294967295]
 bT:=fun r=>⟨[dL .str (nA r)],[],[]⟩
 law:=l1 (lA .a_)
def B5(r:aV):List BA×Int×T0×Unit->Prop:=fun(v,i,b,_)=>b=(r.Name,r.jP,r.aB,r.aY,r.bG,())/\0<=i/\i<=r.aY.length/\v=(r.aY.take i.toNat).foldl mN []
def Bp(r:aV):List BA×Int×T0×Unit->Nat:=fun(v,i,b,_)=>r.aY.length-i.toNat
def B4(r:aV):List BA×Int×Unit->Prop:=fun(v,i,_)=>0<=i/\i<=r.bG.length/\v=(r.bG.take i.toNat).foldl pX (r.aY.foldl mN [])
def Bo(r:aV):List BA×Int×Unit->Nat:=fun(v,i,_)=>r.bG.length-i.toNat
def ye(r:aV):List BA×Int×Int×Unit->List BA×Int×Int×Unit->Prop:=fun(v0,i0,k0,_) (v,i,k,_)=>i=i0/\0<=k/\k<=(List.getD r.bG i.toNat fP).ay.length/\v=((List.getD r.bG i.toNat fP).ay.take k.toNat).foldl sF v0
def xS(r:aV):List BA×Int×Int×Unit->Nat:=fun(v,i,k,_)=>(List.getD r.bG i.toNat fP).ay.length-k.toNat
def akX:SE.α->Nat->Option (bY UU):=fun r=>aN [(3,bh [.slot 3 (3,1024) (.own .str true),.slot 13 (13,1024) (.lit (.int .i64)),.box 1 (1,1024) [.lit .str,.lit (.int .i64),.shr .cU,.shr .bL,.shr .cV]] (fun _=>B5 r) (Bp r)),(8,bh [.slot 3 (3,1024) (.own .str true),.slot 28 (28,1024) (.lit (.int .i64))] (fun _=>B4 r) (Bo r)),(11,bh [.slot 3 (3,1024) (.own .str true),.slot 28 (28,1024) (.lit (.int .i64)),.slot 35 (35,1024) (.lit (.int .i64))] (ye r) (xS r))]
def afT:=us [WE]
theorem ahG:Holds EE (100,SE):=by
 refine holds_of ax func100 SE (by kernel_rfl) afT (aE _) akX (fun(r:aV) hp hb=> ?_)
 have bi:=ke (x:=r) (hb _ m0)
 have im:=bi.1
 have il:=bi.2.1
 have gI:=bi.2.2.1
 have io:=bi.2.2.2
 have bC:2*r.aY.length+pW r.bG<=4294967295:=hp _ m0
 clear hp hb
 apply @ve _ (B5 r ([],0,(r.Name,r.jP,r.aB,r.aY,r.bG,()),())/\∀(y:List BA×Int×WY×PUnit),let x2:Nat:=y.2.2.1.2.2.2.2.1.length;let x4:Nat:=y.2.1.toNat;let x1:Int:=(↑x2:Int);let x3:c_:=List.getD r.aY x4 vc;let x0:List cp:=[x3.L,x3.R];B5 r y->bif decide (y.2.1<(r.aY.length:Int)) then 0<=y.2.1/\x4<r.aY.length/\y.1.length+x0.length<=4294967295/\B5 r (dk y.1 x0,IntKind.wrap IntKind.i64 (y.2.1+1),(y.2.2.1.1,y.2.2.1.2.1,y.2.2.1.2.2.1,y.2.2.1.2.2.2.1,y.2.2.1.2.2.2.2.1,()),())/\Bp r (dk y.1 x0,IntKind.wrap IntKind.i64 (y.2.1+1),(y.2.2.1.1,y.2.2.1.2.1,y.2.2.1.2.2.1,y.2.2.1.2.2.2.1,y.2.2.1.2.2.2.2.1,()),())<Bp r y else B4 r (y.1,0,())/\∀(aS:List BA×Int×PUnit),let x8:Nat:=aS.2.1.toNat;let x7:List b7:=(List.getD y.2.2.1.2.2.2.2.1 x8 fP).ay;let x6:Nat:=x7.length;let x5:Int:=(↑x6:Int);let q0:=(aS.1,aS.2.1,0,());B4 r aS->bif decide (aS.2.1<x1) then 0<=aS.2.1/\x8<x2/\ye r q0 q0/\∀(y:List BA×Int×Int×PUnit),let rc:Nat:=y.2.2.1.toNat;let pT:b7:=List.getD x7 rc fq;let x9:List cp:=[pT.L,pT.R];let q1:=(dk y.1 x9,y.2.1,IntKind.wrap IntKind.i64 (y.2.2.1+1),());let q2:=(y.1,IntKind.wrap IntKind.i64 (y.2.1+1),());ye r q0 y->bif decide (y.2.2.1<x5) then 0<=y.2.2.1/\rc<x6/\y.1.length+x9.length<=4294967295/\ye r q0 q1/\xS r q1<xS r y else B4 r q2/\Bo r q2<Bo r aS else Lf [VL .str aS.1] [VL .str (nA r)]) (by kernel_rfl)
 dsimp only
 refine⟨⟨rfl,by omega,by omega,rfl⟩,?_⟩
 rintro⟨v,i,⟨b1,b2,b3,b4,b5,⟨⟩⟩,⟨⟩⟩ ⟨rP,h1,h2,rfl⟩
 cases rP
 simp only
 refine aU (fun hc=> ?_) (fun hc=> ?_)
 ·have hs:=na mN [] r.aY vc h1 hc
  have hl:=rl (r.aY.take i.toNat) []
  have zU:(r.aY.take i.toNat).length<=i.toNat:=by rw[oH];omega
  simp only[fO] at hl
  rw[wrap_i64 (by omega) (by omega)]
  refine⟨by omega,by omega,by simp only[gv,fO];omega,⟨rfl,by omega,by omega,hs.symm⟩,by simp only[Bp];omega⟩
 rw[dB r.aY (by omega)]
 have YU:=rl r.aY []
 simp only[fO] at YU
 refine⟨⟨by omega,by omega,rfl⟩,?_⟩
 rintro⟨v,i,⟨⟩⟩ ⟨g1,g2,rfl⟩
 simp only
 refine aU (fun hc=> ?_) (fun hc=> ?_)
 ·have hs:=na pX (r.aY.foldl mN []) r.bG fP g1 hc
  have ha:=Ox r.bG g1 hc
  have hl:=vD (r.bG.take i.toNat) (r.aY.foldl mN [])
  refine⟨by omega,by omega,⟨rfl,by omega,by omega,rfl⟩,?_⟩
  rintro⟨v,i',k,⟨⟩⟩ ⟨rfl,k1,k2,rfl⟩
  simp only
  have hle:=ym ((List.getD r.bG i'.toNat fP).ay.take k.toNat) ((r.bG.take i'.toNat).foldl pX (r.aY.foldl mN []))
  have zU:((List.getD r.bG i'.toNat fP).ay.take k.toNat).length<=k.toNat:=by rw[oH];omega
  refine aU (fun hk=> ?_) (fun hk=> ?_)
  ·have hf:=na sF ((r.bG.take i'.toNat).foldl pX (r.aY.foldl mN [])) (List.getD r.bG i'.toNat fP).ay fq k1 hk
   rw[wrap_i64 (by omega) (by omega)]
   exact⟨by omega,by omega,by simp only[gv,fO];omega,⟨rfl,by omega,by omega,hf.symm⟩,by simp only[xS];omega⟩
  ·rw[wrap_i64 (by omega) (by omega)]
   refine⟨⟨by omega,by omega,?_⟩,by simp only[Bo];omega⟩
   rw[hs,dB (List.getD r.bG i'.toNat fP).ay (by omega)];rfl
 ·rw[dB r.bG (by omega)]
  exact bN _
def ajb:HH:=⟨_,ahG⟩
def aau:bp UU where
 α:=aV
 md:=[.ro]
 of:=o1 (oA .a_)
 ds:=fun x=>[dA .a_ x]
 pre:=fun _=>[]
 bT:=fun r=>⟨[dO (fI r)],[],[]⟩
 law:=l1 (lA .a_)
def HD(r:aV):Int×T0×Unit->Prop:=fun(i,b,_)=>b=(r.Name,r.jP,r.aB,r.aY,r.bG,())/\0<=i/\i<=r.aY.length/\(r.aY.drop i.toNat).all jc=r.aY.all jc
def Hf(r:aV):Int×T0×Unit->Nat:=fun(i,b,_)=>r.aY.length-i.toNat
def Br(r:aV):Int×T0×Unit->Prop:=fun(i,b,_)=>b=(r.Name,r.jP,r.aB,r.aY,r.bG,())/\0<=i/\i<=r.bG.length/\(r.bG.drop i.toNat).all (fun a=>cW a&&gT (cH r.aB) a)=r.bG.all (fun a=>cW a&&gT (cH r.aB) a)
def xP(r:aV):Int×T0×Unit->Nat:=fun(i,b,_)=>r.bG.length-i.toNat
def Bq(r:aV):Int×List BA×List BA×Unit->Prop:=fun(i,v,u,_)=>v=iS r.aB/\u=nA r/\0<=i/\i<=(nA r).length/\((nA r).drop i.toNat).all (mq (iS r.aB))=(nA r).all (mq (iS r.aB))
def AR(r:aV):Int×List BA×List BA×Unit->Nat:=fun(i,v,u,_)=>(nA r).length-i.toNat
def atf:aau.α->Nat->Option (bY UU):=fun r=>aN [(6,bh [.slot 39 (39,1024) (.lit (.int .i64)),.box 1 (1,1024) [.lit .str,.lit (.int .i64),.shr .cU,.shr .bL,.shr .cV]] (fun _=>HD r) (Hf r)),(12,bh [.slot 50 (50,1024) (.lit (.int .i64)),.box 1 (1,1024) [.lit .str,.lit (.int .i64),.shr .cU,.shr .bL,.shr .cV]] (fun _=>Br r) (xP r)),(19,bh [.slot 75 (75,1024) (.lit (.int .i64)),.slot 7 (7,1024) (.own .str true),.slot 73 (73,1024) (.own .str true)] (fun _=>Bq r) (AR r))]
def apC:=us [N_,Ec,arJ,arI,arH,aa8,arG,ajb,WS]
theorem aq1:Holds EE (49,aau):=by
 refine holds_of ax func49 aau (by kernel_rfl) apC (aE _) atf (fun(r:aV) hp hb=> ?_)
 have bi:=ke (x:=r) (hb _ m0)
 have im:=bi.1
 have il:=bi.2.1
 have gI:=bi.2.2.1
 have io:=bi.2.2.2
 clear hp hb
 apply @ve _ (let x0:Int:=(r.aY.length:Int);let q0:=Lb false (fI r);let q1:=BA×Int×List cn×List c_×List eX×PUnit;bif !bm r.Name then q0 else bif !decide ((-100)<=r.jP/\r.jP<=100) then q0 else bif !hU r.aB then q0 else bif decide (x0>6) then q0 else bif !decide (1<=(r.bG.length:Int)/\(r.bG.length:Int)<=6) then q0 else HD r (0,(r.Name,r.jP,r.aB,r.aY,r.bG,()),())/\∀(y:Int×q1×PUnit),let x2:Nat:=y.2.1.2.2.2.2.1.length;let x1:Int:=(↑x2:Int);HD r y->bif decide (y.1<x0) then 0<=y.1/\y.1.toNat<r.aY.length/\bif !jc (List.getD r.aY y.1.toNat vc) then q0 else HD r (IntKind.wrap IntKind.i64 (y.1+1),(y.2.1.1,y.2.1.2.1,y.2.1.2.2.1,y.2.1.2.2.2.1,y.2.1.2.2.2.2.1,()),())/\Hf r (IntKind.wrap IntKind.i64 (y.1+1),(y.2.1.1,y.2.1.2.1,y.2.1.2.2.1,y.2.1.2.2.2.1,y.2.1.2.2.2.2.1,()),())<Hf r y else Br r (0,(y.2.1.1,y.2.1.2.1,y.2.1.2.2.1,y.2.1.2.2.2.1,y.2.1.2.2.2.2.1,()),())/\∀(aS:Int×q1×PUnit),let x4:List BA:=nA {Name:=aS.2.1.1,jP:=aS.2.1.2.1,aB:=aS.2.1.2.2.1,aY:=aS.2.1.2.2.2.1,bG:=aS.2.1.2.2.2.2.1:aV};let x5:eX:=List.getD y.2.1.2.2.2.2.1 aS.1.toNat fP;let x6:Int:=(↑(cH aS.2.1.2.2.1):Int);let x3:Int:=(x4.length:Int);let q2:=(IntKind.wrap IntKind.i64 (aS.1+1),(aS.2.1.1,aS.2.1.2.1,aS.2.1.2.2.1,aS.2.1.2.2.2.1,aS.2.1.2.2.2.2.1,()),());let q3:=Br r q2/\xP r q2<xP r aS;Br r aS->bif decide (aS.1<x1) then 0<=aS.1/\aS.1.toNat<x2/\bif !cW x5 then q0 else bif x5.Kind==2 then bif decide (x5.N≥x6) then q0 else q3 else q3 else du aS.2.1.2.2.1<=4294967295/\2*aS.2.1.2.2.2.1.length+pW aS.2.1.2.2.2.2.1<=4294967295/\Bq r (0,iS aS.2.1.2.2.1,x4,())/\∀(y:Int×List BA×List BA×PUnit),let q4:=(IntKind.wrap IntKind.i64 (y.1+1),y.2.1,y.2.2.1,());Bq r y->bif decide (y.1<x3) then 0<=y.1/\y.1.toNat<y.2.2.1.length/\y.1.toNat<y.2.2.1.length/\bif !mq y.2.1 (List.getD y.2.2.1 y.1.toNat ai) then q0 else Bq r q4/\AR r q4<AR r y else Lb true (fI r)) (by kernel_rfl)
 dsimp only
 have hF:lm r=false->fI r=false:=fun h=>by rw[<-Cv];exact h
 refine bO (fun a1=>bw (hF (by simp[lm,a1]))) (fun a1=>bO (fun a2=>bw (hF (by simp only[lm,a2];simp))) (fun a2=>bO (fun a3=>bw (hF ?_)) (fun a3=>aU (fun a4=>bw (hF ?_)) (fun a4=>bO (fun a5=>bw (hF ?_)) (fun a5=> ?_)))))
 ·rw[o7] at a3;simp[lm,a3]
 ·simp only[lm];rw[decide_eq_false (p:=r.aY.length<=6) (by omega)];simp
 ·have a5:=yF a5
  simp only[lm];rw[decide_eq_false (p:=1<=r.bG.length/\r.bG.length<=6) (by omega)];simp
 rw[o7] at a3
 have a5:=yT a5
 refine⟨⟨rfl,by omega,by omega,rfl⟩,?_⟩
 rintro⟨i,⟨b1,b2,b3,b4,b5,⟨⟩⟩,⟨⟩⟩ ⟨rP,h1,h2,hR⟩
 cases rP
 simp only
 refine aU (fun hc=> ?_) (fun hc=> ?_)
 ·rw[dE _ _ vc h1 (by omega)] at hR
  rw[wrap_i64 (by omega) (by omega)]
  refine⟨by omega,by omega,bO (fun g=>bw (hF ?_)) (fun g=>⟨⟨rfl,by omega,by omega,?_⟩,by simp only[Hf];omega⟩)⟩
  ·simp only[lm,<-hR,g];simp
  ·rw[<-hR,g];rfl
 rw[cg _ (by omega)] at hR
 have a6:r.aY.all jc=true:=hR.symm
 refine⟨⟨rfl,by omega,by omega,rfl⟩,?_⟩
 rintro⟨i,⟨b1,b2,b3,b4,b5,⟨⟩⟩,⟨⟩⟩ ⟨rP,g1,g2,gR⟩
 cases rP
 simp only
 refine aU (fun hc=> ?_) (fun hc=> ?_)
 ·rw[dE _ _ fP g1 (by omega)] at gR
  rw[wrap_i64 (by omega) (by omega)]
  have hN:(cW (List.getD r.bG i.toNat fP)&&gT (cH r.aB) (List.getD r.bG i.toNat fP))=false->fI r=false:=fun h=>hF (by simp only[lm,<-gR,h];simp)
  have We:cW (List.getD r.bG i.toNat fP)=true->gT (cH r.aB) (List.getD r.bG i.toNat fP)=true->(r.bG.drop (i+1).toNat).all (fun a=>cW a&&gT (cH r.aB) a)=r.bG.all (fun a=>cW a&&gT (cH r.aB) a):=fun e1 e2=>by rw[<-gR,e1,e2];rfl
  refine⟨by omega,by omega,bO (fun ha=>bw (hN (by rw[ha];rfl))) (fun ha=>bo (fun kU=>aU (fun hp=>bw (hN ?_)) (fun hp=>⟨⟨rfl,by omega,by omega,We ha ?_⟩,by simp only[xP];omega⟩)) (fun kU=>⟨⟨rfl,by omega,by omega,We ha ?_⟩,by simp only[xP];omega⟩))⟩
  ·simp only[gT,kU,decide_eq_true (show(cH r.aB:Int)<=(List.getD r.bG i.toNat fP).N from hp)];simp
  ·simp only[gT,decide_eq_false (show¬(cH r.aB:Int)<=(List.getD r.bG i.toNat fP).N from hp)];simp
  ·simp only[gT,decide_eq_false kU];simp
 rw[cg _ (by omega)] at gR
 have a7:r.bG.all (fun a=>cW a&&gT (cH r.aB) a)=true:=gR.symm
 have hpa:=IL a3
 have vr:=JY (l:=r.bG) (by omega) (fun a ha=>by
  have:=rh.1 a7 a ha
  simp only[cK] at this
  exact this.1)
 have hul:(nA r).length<=2*r.aY.length+pW r.bG:=by
  have q1:=vD r.bG (r.aY.foldl mN [])
  have q2:=rl r.aY []
  simp only[fO] at q2
  simp only[nA];omega
 refine⟨by omega,by omega,⟨rfl,rfl,by omega,by omega,rfl⟩,?_⟩
 rintro⟨i,v,u,⟨⟩⟩ ⟨rfl,rfl,k1,k2,kR⟩
 simp only
 refine aU (fun hk=> ?_) (fun hk=> ?_)
 ·rw[dE _ _ ai k1 hk] at kR
  rw[wrap_i64 (by omega) (by omega)]
  have cO:i<(nA r).length:=hk
  refine⟨by omega,by omega,by omega,bO (fun g=>bw (hF ?_)) (fun g=>⟨⟨rfl,rfl,by omega,by omega,?_⟩,by simp only[AR];omega⟩)⟩
  ·simp only[lm,<-kR,g];simp
  ·rw[<-kR,g];rfl
 ·have cO:¬i<(nA r).length:=hk
  rw[cg _ (by omega)] at kR
  refine mV ?_
  rw[<-Cv]
  simp only[lm,a1,a2,a3,a6,a7,<-kR,decide_eq_true (show r.aY.length<=6 by omega),decide_eq_true (show 1<=r.bG.length/\r.bG.length<=6 by omega)];rfl
def ar6:HH:=⟨_,aq1⟩
def instNew(now:Int):ao:=if 0<=now/\now<=1000000000 then⟨⟨[],1⟩,[],[],[],[],1,now⟩ else VK
def R9:bp UU where
 α:=(List ak)
 md:=[.ro]
 of:=o1 (oL .aA)
 ds:=fun x=>[dL .aA x]
 pre:=fun l=>[gW l<=4294967296]
 bT:=fun l=>⟨[dL .aA l],[],[]⟩
 law:=l1 (lL .aA)
def BT(l:(List ak)):List ak×Int×Unit->Prop:=fun(out,i,_)=>0<=i/\i<=l.length/\out=l.take i.toNat
def Be(l:(List ak)):List ak×Int×Unit->Nat:=fun(out,i,_)=>l.length-i.toNat
def akn:R9.α->Nat->Option (bY UU):=fun l=>aN [(3,bh [.slot 3 (3,1024) (.own .aA true),.slot 4 (4,1024) (.lit (.int .i64))] (fun _=>BT l) (Be l))]
def afj:=us [sM]
theorem ag8:Holds EE (136,R9):=by
 refine holds_of ax func136 R9 (by kernel_rfl) afj (aE _) akn (fun(l:(List ak)) hp hb=> ?_)
 have gP:l.length<=9223372036854775807:=jO (hb _ m0)
 have bC:gW l<=4294967296:=hp _ m0
 clear hp hb
 apply @ve _ (BT l ([],0,())/\∀(y:List ak×Int×PUnit),let x2:Nat:=y.2.1.toNat;let x1:ak:=List.getD l x2 aR;let x0:List ak:=[x1];let q0:=(y.1++x0,IntKind.wrap IntKind.i64 (y.2.1+1),());BT l y->bif decide (y.2.1<(l.length:Int)) then 0<=y.2.1/\x2<l.length/\x1.F.aj.length<=4294967296/\y.1.length+x0.length<=4294967296/\BT l q0/\Be l q0<Be l y else Lf [VL .aA y.1] [VL .aA l]) (by kernel_rfl)
 dsimp only
 refine⟨⟨by omega,by omega,by simp⟩,?_⟩
 rintro⟨out,i,⟨⟩⟩ ⟨h1,h2,rfl⟩
 simp only
 refine af (fun hc=> ?_) (fun hc=> ?_)
 ·have hc:=yT hc
  have hs:=gU nE l aR h1 hc
  simp only[gW] at bC
  have hx:=hs
  simp only[nE,eg,gy] at hx
  rw[fD l aR h1 hc,wrap_i64 (by omega) (by omega)]
  repeat' (first|refine And.intro (by omega) ?_|fail)
  refine⟨by simp;omega,⟨by omega,by omega,rfl⟩,by simp only[Be];omega⟩
 ·have hc:=yF hc
  rw[dB l (by omega)]
  exact bN _
def aiN:HH:=⟨_,ag8⟩
def DX:bp UU where
 α:=ak
 md:=[.ro]
 of:=o1 (oA .aA)
 ds:=fun x=>[dA .aA x]
 pre:=fun _=>[]
 bT:=fun t=>⟨[dO (j8 t)],[],[]⟩
 law:=l1 (lA .aA)
def atB:DX.α->Nat->Option (bY UU):=fun t=>aN []
def apY:List (FuncId×bp UU):=[]
theorem aro:Holds EE (26,DX):=by
 refine holds_of ax func26 DX (by kernel_rfl) apY all_nil atB (fun(t:ak) hp hb=> ?_)
 have bi:=qX (x:=t) (hb _ m0)
 have nL:=bi.1
 have lc:=bi.2.1
 have qM:=bi.2.2.1
 have tE:=bi.2.2.2
 clear hp hb
 apply @ve _ (bif t.State==1 then Lb true (j8 t) else Lb (t.State==2) (j8 t)) (by kernel_rfl)
 simp only[j8]
 refine af (fun h=>cj ?_) (fun h=>cj ?_)<;>grind
def ash:HH:=⟨_,aro⟩
def ZZ:bp UU where
 α:=(List ak)
 md:=[.ro]
 of:=o1 (oL .aA)
 ds:=fun x=>[dL .aA x]
 pre:=fun l=>[gW l<=4294967296]
 bT:=fun l=>⟨[dL .aA (giveUp l)],[],[]⟩
 law:=l1 (lL .aA)
def zu(l:(List ak)):List ak×Int×Unit->Prop:=fun(out,i,_)=>0<=i/\i<=l.length/\out=(l.map kr).take i.toNat++l.drop i.toNat
def sf(l:(List ak)):List ak×Int×Unit->Nat:=fun(out,i,_)=>l.length-i.toNat
def asJ:ZZ.α->Nat->Option (bY UU):=fun l=>aN [(3,bh [.slot 3 (3,1024) (.own .aA true),.slot 4 (4,1024) (.lit (.int .i64))] (fun _=>zu l) (sf l))]
def ao6:=us [aiN]
theorem aqs:Holds EE (84,ZZ):=by
 refine holds_of ax func84 ZZ (by kernel_rfl) ao6 (aE _) asJ (fun(l:(List ak)) hp hb=> ?_)
 have gP:l.length<=9223372036854775807:=jO (hb _ m0)
 have bC:gW l<=4294967296:=hp _ m0
 clear hp hb
 apply @ve _ (gW l<=4294967296/\zu l (l,0,())/\∀(y:List ak×Int×PUnit),let x0:Nat:=y.2.1.toNat;let q0:=y.2.1+1;zu l y->bif decide (y.2.1<(y.1.length:Int)) then 0<=y.2.1/\x0<y.1.length/\x0<y.1.length/\bif (List.getD y.1 x0 aR).State==1 then 0<=y.2.1/\x0<y.1.length/\x0<y.1.length/\zu l (List.modify y.1 x0 fun(x:ak)=>{F:=x.F,aW:=x.aW,State:=(4:Int),bE:=x.bE,kf:=x.kf,V:=x.V:ak},IntKind.wrap IntKind.i64 q0,())/\sf l (List.modify y.1 x0 fun(x:ak)=>{F:=x.F,aW:=x.aW,State:=(4:Int),bE:=x.bE,kf:=x.kf,V:=x.V:ak},IntKind.wrap IntKind.i64 q0,())<sf l y else 0<=y.2.1/\x0<y.1.length/\x0<y.1.length/\bif (List.getD y.1 x0 aR).State==2 then 0<=y.2.1/\x0<y.1.length/\x0<y.1.length/\zu l (List.modify y.1 x0 fun(x:ak)=>{F:=x.F,aW:=x.aW,State:=(4:Int),bE:=x.bE,kf:=x.kf,V:=x.V:ak},IntKind.wrap IntKind.i64 q0,())/\sf l (List.modify y.1 x0 fun(x:ak)=>{F:=x.F,aW:=x.aW,State:=(4:Int),bE:=x.bE,kf:=x.kf,V:=x.V:ak},IntKind.wrap IntKind.i64 q0,())<sf l y else zu l (y.1,IntKind.wrap IntKind.i64 q0,())/\sf l (y.1,IntKind.wrap IntKind.i64 q0,())<sf l y else Lf [VL .aA y.1] [VL .aA (giveUp l)]) (by kernel_rfl)
 dsimp only
 refine⟨bC,⟨by omega,by omega,by simp⟩,?_⟩
 rintro⟨out,i,⟨⟩⟩ ⟨h1,h2,rfl⟩
 have hl:=LY kr l h1 h2
 simp only
 refine af (fun hc=> ?_) (fun hc=> ?_)
 ·have hc:=yT hc
  have hc:i<l.length:=by omega
  have hg:=Gu _ l aR (Pr kr l h1 h2) h1 hc
  rw[hg,wrap_i64 (by omega) (by omega),hl]
  repeat' (first|refine And.intro (by omega) ?_|refine af (fun h=> ?_) (fun h=> ?_)|fail)
  all_goals first
   |(rw[Gv kr l aR _ h1 hc (by simp only[kr];grind)];exact⟨⟨by omega,by omega,rfl⟩,by simp only[sf];omega⟩)
   |(have hs:=IX kr l aR h1 hc (by simp only[kr];grind);exact⟨⟨by omega,by omega,hs⟩,by simp only[sf];omega⟩)
 ·have hc:=yF hc
  rw[IY kr l (by omega)]
  exact bN _
def ahN:HH:=⟨_,aqs⟩
def aa3:bp UU where
 α:=ao
 md:=[.ro]
 of:=o1 (oA .bD)
 ds:=fun x=>[dA .bD x]
 pre:=fun _=>[]
 bT:=fun x=>⟨[dO (decide (x.State=2\/x.State=4\/x.State=6))],[],[]⟩
 law:=l1 (lA .bD)
def atP:aa3.α->Nat->Option (bY UU):=fun x=>aN []
def aqa:List (FuncId×bp UU):=[]
theorem arD:Holds EE (12,aa3):=by
 refine holds_of ax func12 aa3 (by kernel_rfl) aqa all_nil atP (fun(x:ao) hp hb=> ?_)
 have bi:=nQ (x:=x) (hb _ m0)
 have cw:=bi.1
 have dh:=bi.2.1
 have df:=bi.2.2.1
 have cI:=bi.2.2.2.1
 have de:=bi.2.2.2.2
 clear hp hb
 apply @ve _ (let q0:=decide (x.State=2\/x.State=4\/x.State=6);bif x.State==2 then Lb true q0 else bif x.State==4 then Lb true q0 else Lb (x.State==6) q0) (by kernel_rfl)
 dsimp only
 repeat' (refine af (fun h=> ?_) (fun h=> ?_))
 all_goals (refine cj ?_;grind)
def aba:HH:=⟨_,arD⟩
def aa4:bp UU where
 α:=ao
 md:=[.ro]
 of:=o1 (oA .bD)
 ds:=fun x=>[dA .bD x]
 pre:=fun _=>[]
 bT:=fun x=>⟨[dO (decide (x.State=2\/x.State=4\/x.State=6))],[],[]⟩
 law:=l1 (lA .bD)
def atQ:aa4.α->Nat->Option (bY UU):=fun x=>aN []
def aqb:List (FuncId×bp UU):=[]
theorem arE:Holds EE (11,aa4):=by
 refine holds_of ax func11 aa4 (by kernel_rfl) aqb all_nil atQ (fun(x:ao) hp hb=> ?_)
 have bi:=nQ (x:=x) (hb _ m0)
 have cw:=bi.1
 have dh:=bi.2.1
 have df:=bi.2.2.1
 have cI:=bi.2.2.2.1
 have de:=bi.2.2.2.2
 clear hp hb
 apply @ve _ (let q0:=decide (x.State=2\/x.State=4\/x.State=6);bif x.State==2 then Lb true q0 else bif x.State==4 then Lb true q0 else Lb (x.State==6) q0) (by kernel_rfl)
 dsimp only
 repeat' (refine af (fun h=> ?_) (fun h=> ?_))
 all_goals (refine cj ?_;grind)
def ai6:HH:=⟨_,arE⟩
def aaF:bp UU where
 α:=Int
 md:=[.ro]
 of:=o1 oI
 ds:=fun x=>[dI x]
 pre:=fun _=>[]
 bT:=fun now=>⟨[dA .bD (instNew now)],[],[]⟩
 law:=l1 lI
def atq:aaF.α->Nat->Option (bY UU):=fun now=>aN []
def apN:=us [sC]
theorem arb:Holds EE (37,aaF):=by
 refine holds_of ax func37 aaF (by kernel_rfl) apN (aE _) atq (fun(now:Int) hp hb=> ?_)
 have vW:=sL (n:=now) (hb _ m0)
 clear hp hb
 apply @ve _ (bif !decide (0<=now/\now<=1000000000) then Lf [DV.agg [CL .aX [],CI 0,CL .az [],CL .aA [],CL .aH [],CL .aT [],CI 0,CI 0]] [DV.agg (aO (instNew now))] else Lf [DV.agg [CL .aX [],CI 1,CL .az [],CL .aA [],CL .aH [],CL .aT [],CI 1,CI now]] [DV.agg (aO (instNew now))]) (by kernel_rfl)
 unfold instNew
 refine af (fun h=>VE ?_) (fun h=>VE ?_)
 ·rw[if_neg (by grind)];rfl
 ·rw[if_pos (by grind)];rfl
def asb:HH:=⟨_,arb⟩
def Zk7:bp UU where
 α:=Int
 md:=[.ro]
 of:=o1 oI
 ds:=fun x=>[dI x]
 pre:=fun _=>[]
 bT:=fun now=>⟨[dA .bD (instNew now)],[],[]⟩
 law:=l1 lI
def Za7:Zk7.α->Nat->Option (bY UU):=fun now=>aN []
def Zu7:=us [aa9]
theorem Zo7:Holds EE (7,Zk7):=by
 refine holds_of ax func7 Zk7 (by kernel_rfl) Zu7 (aE _) Za7 (fun(now:Int) hp hb=> ?_)
 have vW:=sL (n:=now) (hb _ m0)
 clear hp hb
 apply @ve _ (bif !decide (0<=now/\now<=1000000000) then Lf [DV.agg [CL .aX [],CI 0,CL .az [],CL .aA [],CL .aH [],CL .aT [],CI 0,CI 0]] [DV.agg (aO (instNew now))] else Lf [DV.agg [CL .aX [],CI 1,CL .az [],CL .aA [],CL .aH [],CL .aT [],CI 1,CI now]] [DV.agg (aO (instNew now))]) (by kernel_rfl)
 unfold instNew
 refine af (fun h=>VE ?_) (fun h=>VE ?_)
 ·rw[if_neg (by grind)];rfl
 ·rw[if_pos (by grind)];rfl
def Zh7:HH:=⟨_,Zo7⟩
def kV(x:aV):DA UU:=⟨true,[.lit (.string x.Name),.lit (.int .i64 x.jP),.sl .cU x.aB,.sl .bL x.aY,.sl .cV x.bG]⟩
def rz(l:List aV)(name:BA):Int:=kT l.length fun k=>decide ((List.getD l k ct).Name=name)
def jh(l:List aV)(i:Nat):Bool:=fI (List.getD l i ct)&&decide (rz l (List.getD l i ct).Name=i)
def fz(d:bB):Bool:=bm d.Name&&decide (1<=d.aw.length/\d.aw.length<=12)&&allI d.aw.length (jh d.aw)
theorem MN{l:List aV}{i:Int}(h0:0<=i)(h:i<l.length):du (List.getD l i.toNat ct).aB<=jJ l:=by
 have hs:=gU dD l ct h0 h
 have hp:=Gj (List.getD l i.toNat ct).aB
 simp only[dD] at hs
 simp only[jJ,dD];omega
def I5(l:List bH)(f:aJ):Int:=kT l.length fun k=>decide ((List.getD l k bg).F=f)
def mn(l:List bH)(f:aJ):Int:=if I5 l f= -1 then 0 else(List.getD l (I5 l f).toNat bg).Id
def ug(l:List bH)(id:Int):Int:=kT l.length fun k=>decide ((List.getD l k bg).Id=id)
def n_(l:List bH)(id:Int):aJ:=if ug l id= -1 then ta else(List.getD l (ug l id).toNat bg).F
def jX(l:List bH)(id:Int):Bool:=anyI l.length fun k=>decide ((List.getD l k bg).Id=id)
def jD(s:aG)(i:Nat):Bool:=bI (List.getD s.ab i bg).F&&decide (1<=(List.getD s.ab i bg).Id)&&decide ((List.getD s.ab i bg).Id<s.Next)&& !(decide (0<i)&&decide ((List.getD s.ab i bg).Id<=(List.getD s.ab (i-1) bg).Id))
def nZ(s:aG)(i:Nat):Bool:=jD s i&&decide (mn s.ab (List.getD s.ab i bg).F=(List.getD s.ab i bg).Id)
def iU(s:aG)(i:Nat):Bool:=jD s i&& !(anyI i fun k=>decide ((List.getD s.ab i bg).F=(List.getD s.ab k bg).F))
def bQ(s:aG):Bool:=decide (1<=s.Next/\s.Next<=1000000)&&decide (s.ab.length<=40)&&allI s.ab.length (nZ s)
theorem JQ{s:aG}(h:∀i,i<s.ab.length->jD s i=true):∀j i,j<i->i<s.ab.length->(List.getD s.ab j bg).Id<(List.getD s.ab i bg).Id:=by
 intro j i Ej hi
 have step:∀m,m+1<s.ab.length->(List.getD s.ab m bg).Id<(List.getD s.ab (m+1) bg).Id:=fun m hm=>by
  have:=h (m+1) hm
  simp only[jD,cK,ql,Bool.and_eq_false_iff,decide_eq_false_iff_not,decide_eq_true_eq,Nat.add_sub_cancel] at this
  have:=this.2
  omega
 obtain⟨k,rfl⟩:∃k,i=j+1+k:=⟨i-j-1,by omega⟩
 clear Ej
 induction k with
 |zero=>exact step j hi
 |succ k ih=>exact Int.lt_trans (ih (by omega)) (step (j+1+k) hi)
theorem Cm(s:aG):allI s.ab.length (iU s)=allI s.ab.length (nZ s):=by
 rw[H2,fV,fV]
 have adF:∀i,i<s.ab.length->∃m,m<=i/\I5 s.ab (List.getD s.ab i bg).F=(m:Int)/\(List.getD s.ab m bg).F=(List.getD s.ab i bg).F/\∀j,j<m->¬(List.getD s.ab j bg).F=(List.getD s.ab i bg).F:=by
  intro i hi
  rcases jA s.ab.length (fun k=>decide ((List.getD s.ab k bg).F=(List.getD s.ab i bg).F)) with⟨_,h2⟩|⟨m,g1,g2,g3,g4⟩
  ·have:=h2 i hi;simp at this
  ·refine⟨m,?_,g2,yT g3,fun j hj=>yF (g4 j hj)⟩
   rcases nV i m with g|g
   ·have:=g4 i g;simp at this
   ·exact g
 have hid:∀i m:Nat,I5 s.ab (List.getD s.ab i bg).F=(m:Int)->mn s.ab (List.getD s.ab i bg).F=(List.getD s.ab m bg).Id:=fun i m h=>by
  rw[mn,h,if_neg (by omega)];simp
 constructor
 ·intro h i hi
  have NB:=h i hi
  simp only[iU,cK,ql] at NB
  obtain⟨m,m1,m2,m3,m4⟩:=adF i hi
  have:m=i:=by
   rcases nV m i with g|g
   ·have:=nR.1 NB.2 m g
    exact absurd m3.symm (yF this)
   ·omega
  subst this
  simp only[nZ,NB.1,hid m m m2,decide_true,EL]
 ·intro h i hi
  have hb:∀i,i<s.ab.length->jD s i=true:=fun i hi=>by
   have:=h i hi
   simp only[nZ,cK] at this
   exact this.1
  have NB:=h i hi
  simp only[nZ,cK,decide_eq_true_eq] at NB
  have L4:(anyI i fun k=>decide ((List.getD s.ab i bg).F=(List.getD s.ab k bg).F))=false:=gg fun k hk=>decide_eq_false fun e=>by
   obtain⟨m,m1,m2,m3,m4⟩:=adF i hi
   have YO:m<=k:=by
    rcases nV k m with g|g
    ·exact absurd e.symm (m4 k g)
    ·exact g
   have:=JQ hb m i (by omega) hi
   rw[hid i m m2] at NB
   omega
  simp only[iU,NB.1,L4];rfl
def jV(d:bB)(m:av):Bool:=decide (0<=m.cN)&&decide (m.cN<(d.aw.length:Int))
def iK(d:bB)(s:List bH)(m:av):Bool:=jV d m&&decide (m.cr.length=0)&&decide (m.eJ.length=cH (List.getD d.aw m.cN.toNat ct).aB)&&m.eJ.all (jX s)
def iC(d:bB)(x:ao):Bool:=decide (x.aD.length<=1000)&&x.aD.all (iK d x.S.ab)
def oj(l:List ak):Bool:=anyI l.length fun k=>j8 (List.getD l k aR)
def mw(x:ao):Bool:=decide (x.State=2\/x.State=4\/x.State=6)
def mb(x:ao):Bool:=decide (x.State=3)||decide (x.State=5)
def instOk(d:bB)(x:ao):Bool:=fz d&&bQ x.S&&bc x.au&&cY x.aC&&db x.aL&&decide (1<=x.State/\x.State<=6)&&decide (0<=x.dw/\x.dw<=1000000000)&&iC d x&& !(mw x&&(oj x.au||decide (0<x.aC.length)))&&(!mb x||decide (0<x.aL.length))
def SC:bp UU where
 α:=(List aV)×(List (DA UU)->Option Value)
 md:=[.ro,.ro]
 of:=oC (oL .a_) (o1 oF)
 ds:=fun x=>[dL .a_ x.1,dF x.2]
 pre:=fun(l,p)=>[∀j:Nat,j<l.length->p [kV (List.getD l j ct)]=some (.bool (cy (p [kV (List.getD l j ct)])))]
 bT:=fun(l,p)=>⟨[dI (kT l.length (fun j=>cy (p [kV (List.getD l j ct)])))],[],[]⟩
 law:=lC (lL .a_) (l1 lF)
def B3(l:(List aV))(p:(List (DA UU)->Option Value)):Int×Unit->Prop:=fun(i,_)=>0<=i/\i<=l.length/\∀j:Nat,(j:Int)<i->cy (p [kV (List.getD l j ct)])=false
def Bn(l:(List aV))(p:(List (DA UU)->Option Value)):Int×Unit->Nat:=fun(i,_)=>l.length-i.toNat
def akV:SC.α->Nat->Option (bY UU):=fun(l,p)=>aN [(2,bh [.slot 8 (8,1024) (.lit (.int .i64))] (fun _=>B3 l p) (Bn l p))]
def afR:List (FuncId×bp UU):=[]
theorem ahE:Holds EE (102,SC):=by
 refine holds_of ax func102 SC (by kernel_rfl) afR all_nil akV (fun x hp hb=> ?_)
 obtain⟨l,p⟩:=x
 have gP:l.length<=9223372036854775807:=jO (hb _ m0)
 have bC:∀j:Nat,j<l.length->p [kV (List.getD l j ct)]=some (.bool (cy (p [kV (List.getD l j ct)]))):=hp _ m0
 clear hp hb
 apply @ve _ (B3 l p (0,())/\∀(y:Int×PUnit),let x1:aV:=List.getD l y.1.toNat ct;let x0:Bool:=cy (p [{agg:=true,cs:=[CS x1.Name,CI x1.jP,CL .cU x1.aB,CL .bL x1.aY,CL .cV x1.bG]:DA UU}]);let q0:=(IntKind.wrap IntKind.i64 (y.1+1),());B3 l p y->bif decide (y.1<(l.length:Int)) then 0<=y.1/\y.1.toNat<l.length/\p [{agg:=true,cs:=[CS x1.Name,CI x1.jP,CL .cU x1.aB,CL .bL x1.aY,CL .cV x1.bG]:DA UU}]=some (Value.bool x0)/\bif x0 then Li y.1 (kT (l.length) fun(j:Nat)=>cy (p [kV (List.getD l j ct)])) else B3 l p q0/\Bn l p q0<Bn l p y else Li (-1) (kT (l.length) fun(j:Nat)=>cy (p [kV (List.getD l j ct)]))) (by kernel_rfl)
 dsimp only
 refine⟨⟨by omega,by omega,by intro j hj;omega⟩,?_⟩
 rintro⟨i,⟨⟩⟩ ⟨h1,h2,hR⟩
 simp only[kV] at*
 refine af (fun hc=> ?_) (fun hc=> ?_)
 ·have hc:=yT hc
  rw[wrap_i64 (by omega) (by omega)]
  refine⟨by omega,by omega,bC i.toNat (by omega),af (fun h=>oe ?_) (fun h=>⟨⟨by omega,by omega,ju (p:=fun j=>cy (p [kV (List.getD l j ct)])) h1 hR h⟩,by simp only[Bn];omega⟩)⟩
  rw[gH (i:=i.toNat) (by omega) h (fun j hj=>hR j (by omega))]
  omega
 ·have hc:=yF hc
  exact oe (jM (fun j hj=>hR j (by omega))).symm
def aja:HH:=⟨_,ahE⟩
def vA:bp UU where
 α:=aV×BA
 md:=[.ro,.ro]
 of:=fun|[.agg [.lit (.string a0),.lit (.int .i64 a1),.sl .cU a2,.sl .bL a3,.sl .cV a4],.ptr [.lit (.string a5)]]=>some (⟨a0,a1,a2,a3,a4⟩,a5)|_=>none
 ds:=fun(r,name)=>[.agg [.lit (.string r.Name),.lit (.int .i64 r.jP),.sl .cU r.aB,.sl .bL r.aY,.sl .cV r.bG],.ptr [.lit (.string name)]]
 pre:=fun(r,name)=>[]
 bT:=fun(r,name)=>⟨[.one (.lit (.bool (decide (r.Name=name))))],[],[]⟩
 law:=by intro l x h;(try simp only at h);split at h<;>cases h;rfl
def akU:vA.α->Nat->Option (bY UU):=fun(r,name)=>aN []
def afQ:List (FuncId×bp UU):=[]
theorem ahD:Holds EE (103,vA):=by
 refine holds_of ax func103 vA (by kernel_rfl) afQ all_nil akU (fun x hp hb=> ?_)
 obtain⟨r,name⟩:=x
 have GN:gB (U:=UU) (.agg [.lit (.string r.Name),.lit (.int .i64 r.jP),.sl .cU r.aB,.sl .bL r.aY,.sl .cV r.bG]):=hb _ (gj)
 have im:r.Name.size<=9223372036854775807:=Bd.str (GN _ (by simp))
 have il:r.aB.length<=9223372036854775807:=Bd.len (U:=UU) (τ:=.cU) (xs:=r.aB) (GN _ (by simp))
 have gI:r.aY.length<=9223372036854775807:=Bd.len (U:=UU) (τ:=.bL) (xs:=r.aY) (GN _ (by simp))
 have io:r.bG.length<=9223372036854775807:=Bd.len (U:=UU) (τ:=.cV) (xs:=r.bG) (GN _ (by simp))
 have UZ:gB (U:=UU) (.ptr [.lit (.string name)]):=hb _ (cA _ (gj))
 have um:name.size<=9223372036854775807:=Bd.str (UZ _ (by simp))
 clear hp hb
 apply @ve _ (Lb (ByteArray.toList r.Name==ByteArray.toList name) (decide (r.Name=name))) (by kernel_rfl)
 rw[bx]
 exact bN _
def ai_:HH:=⟨_,ahD⟩
def aat:bp UU where
 α:=bB×BA
 md:=[.ro,.ro]
 of:=oC (oA .dZ) (o1 oS)
 ds:=fun x=>[dA .dZ x.1,dS x.2]
 pre:=fun _=>[]
 bT:=fun(d,name)=>⟨[dI (rz d.aw name)],[],[]⟩
 law:=lC (lA .dZ) (l1 lS)
def ate:aat.α->Nat->Option (bY UU):=fun(d,name)=>aN []
def apB:=us [aja,ai_]
theorem aq0:Holds EE (50,aat):=by
 refine holds_of ax func50 aat (by kernel_rfl) apB (aE _) ate (fun x hp hb=> ?_)
 obtain⟨d,name⟩:=x
 have bi:=iF (x:=d) (hb _ m0)
 have fE:=bi.1
 have ey:=bi.2
 have um:=Ao (s:=name) (hb _ m1)
 clear hp hb
 apply @ve _ ((∀(j:Nat),j<d.aw.length->ic vA [DV.ptr [CS name]] [kV (List.getD d.aw j ct)]=some (Value.bool (cy (ic vA [DV.ptr [CS name]] [kV (List.getD d.aw j ct)]))))/\Li (kT (d.aw.length) fun(j:Nat)=>cy (ic vA [DV.ptr [CS name]] [kV (List.getD d.aw j ct)])) (rz d.aw name)) (by kernel_rfl)
 have hc:∀x:aV,ic vA [.ptr [.lit (.string name)]] [kV x]=some (.bool (decide (x.Name=name))):=fun x=>xA (x:=(x,name)) rfl rfl rfl rfl (by simp[vA])
 refine⟨fun j hj=> ?_,oe ?_⟩
 ·show ic vA [.ptr [.lit (.string name)]] [kV (List.getD d.aw j ct)]=_
  rw[hc];rfl
 ·exact vQ fun j hj=>by
   show cy (ic vA [.ptr [.lit (.string name)]] [kV (List.getD d.aw j ct)])=_
   rw[hc];rfl
def ar5:HH:=⟨_,aq0⟩
def aag:bp UU where
 α:=bB×BA
 md:=[.ro,.ro]
 of:=oC (oA .dZ) (o1 oS)
 ds:=fun x=>[dA .dZ x.1,dS x.2]
 pre:=fun _=>[]
 bT:=fun(d,name)=>⟨[dI (rz d.aw name)],[],[]⟩
 law:=lC (lA .dZ) (l1 lS)
def Hz(d:bB)(name:BA):Int×T2×Unit->Prop:=fun(i,fb,_)=>fb=(d.Name,d.aw,())/\0<=i/\i<=d.aw.length/\∀j:Nat,(j:Int)<i->decide ((List.getD d.aw j ct).Name=name)=false
def Hb(d:bB)(name:BA):Int×T2×Unit->Nat:=fun(i,fb,_)=>d.aw.length-i.toNat
def as3:aag.α->Nat->Option (bY UU):=fun(d,name)=>aN [(2,bh [.slot 5 (5,1024) (.lit (.int .i64)),.box 2 (2,1024) [.lit .str,.shr .a_]] (fun _=>Hz d name) (Hb d name))]
def apn:List (FuncId×bp UU):=[]
theorem aqN:Holds EE (63,aag):=by
 refine holds_of ax func63 aag (by kernel_rfl) apn all_nil as3 (fun x hp hb=> ?_)
 obtain⟨d,name⟩:=x
 have bi:=iF (x:=d) (hb _ m0)
 have fE:=bi.1
 have ey:=bi.2
 have um:=Ao (s:=name) (hb _ m1)
 clear hp hb
 apply @ve _ (Hz d name (0,(d.Name,d.aw,()),())/\∀(y:Int×T9×PUnit),let x1:Nat:=y.2.1.2.1.length;let x0:Int:=(↑x1:Int);let q0:=(IntKind.wrap IntKind.i64 (y.1+1),(y.2.1.1,y.2.1.2.1,()),());Hz d name y->bif decide (y.1<x0) then 0<=y.1/\y.1.toNat<x1/\bif ByteArray.toList (List.getD y.2.1.2.1 y.1.toNat ct).Name==ByteArray.toList name then Li y.1 (rz d.aw name) else Hz d name q0/\Hb d name q0<Hb d name y else Li (-1) (rz d.aw name)) (by kernel_rfl)
 dsimp only
 refine⟨⟨rfl,by omega,by omega,by intro j hj;omega⟩,?_⟩
 rintro⟨i,fb,⟨⟩⟩ ⟨rfl,h1,h2,hR⟩
 simp only
 refine af (fun hc=> ?_) (fun hc=> ?_)
 ·have hc:i<d.aw.length:=yT hc
  simp(disch:=omega) only[wrap_i64,bx]
  refine⟨by omega,by omega,af (fun h=>oe ?_) (fun h=>⟨⟨rfl,by omega,by omega,ju (p:=fun j=>decide ((List.getD d.aw j ct).Name=name)) h1 hR h⟩,by simp only[Hb];omega⟩)⟩
  rw[rz,gH (i:=i.toNat) (by omega) h (fun j hj=>hR j (by omega))]
  omega
 ·have hc:¬i<d.aw.length:=yF hc
  exact oe (jM (fun j hj=>hR j (by omega))).symm
def arW:HH:=⟨_,aqN⟩
def aaP:bp UU where
 α:=bB
 md:=[.ro]
 of:=o1 (oA .dZ)
 ds:=fun x=>[dA .dZ x]
 pre:=fun d=>[cT d<=4294967295]
 bT:=fun d=>⟨[dO (fz d)],[],[]⟩
 law:=l1 (lA .dZ)
def HP(d:bB):Int×T2×Unit->Prop:=fun(i,b,_)=>b=(d.Name,d.aw,())/\0<=i/\i<=d.aw.length/\∀j:Nat,(j:Int)<i->jh d.aw j=true
def Hn(d:bB):Int×T2×Unit->Nat:=fun(i,b,_)=>d.aw.length-i.toNat
def atA:aaP.α->Nat->Option (bY UU):=fun d=>aN [(2,bh [.slot 3 (3,1024) (.lit (.int .i64)),.box 1 (1,1024) [.lit .str,.shr .a_]] (fun _=>HP d) (Hn d))]
def apX:=us [arX,arW,J4,sC]
theorem arn:Holds EE (27,aaP):=by
 refine holds_of ax func27 aaP (by kernel_rfl) apX (aE _) atA (fun(d:bB) hp hb=> ?_)
 have bi:=iF (x:=d) (hb _ m0)
 have fE:=bi.1
 have ey:=bi.2
 have bC:cT d<=4294967295:=hp _ m0
 clear hp hb
 apply @ve _ (HP d (0,(d.Name,d.aw,()),())/\∀(y:Int×T9×PUnit),let x1:aV:=List.getD y.2.1.2.1 y.1.toNat ct;let x2:Nat:=y.2.1.2.1.length;let x0:Int:=(↑x2:Int);let q0:=(IntKind.wrap IntKind.i64 (y.1+1),(y.2.1.1,y.2.1.2.1,()),());HP d y->bif decide (y.1<x0) then 0<=y.1/\y.1.toNat<x2/\du x1.aB<=4294967295/\bif !fI x1 then Lb false (fz d) else 0<=y.1/\y.1.toNat<x2/\bif rz y.2.1.2.1 x1.Name !=y.1 then Lb false (fz d) else HP d q0/\Hn d q0<Hn d y else bif bm y.2.1.1 then Lb (decide (1<=x0/\x0<=12)) (fz d) else Lb false (fz d)) (by kernel_rfl)
 dsimp only
 refine⟨⟨rfl,by omega,by omega,by intro j hj;omega⟩,?_⟩
 rintro⟨i,⟨b1,b2,⟨⟩⟩,⟨⟩⟩ ⟨rP,h1,h2,hR⟩
 cases rP
 simp only
 refine aU (fun hc=> ?_) (fun hc=> ?_)
 ·have hN:jh d.aw i.toNat=false->fz d=false:=fun h=>by
   have hf:allI d.aw.length (jh d.aw)=false:=gK (j:=i.toNat) (by omega) h
   simp only[fz,hf,va]
  have hs:=MN h1 hc
  simp only[cT] at bC
  have ei:((i.toNat:Nat):Int)=i:=by omega
  rw[wrap_i64 (by omega) (by omega)]
  refine⟨by omega,by omega,by omega,bO (fun g=>bw (hN (by simp only[jh,g,pF]))) (fun g=>⟨by omega,by omega,bO (fun k=>bw (hN ?_)) (fun k=>⟨⟨rfl,by omega,by omega,fW h1 hR ?_⟩,by simp only[Hn];omega⟩)⟩)⟩
  ·simp only[jh,ei,g,u_];exact decide_eq_false (by simpa using k)
  ·simp only[jh,ei,g,u_];exact decide_eq_true (eq_of_beq k)
 ·have hA:allI d.aw.length (jh d.aw)=true:=iu fun j hj=>hR j (by omega)
  simp only[fz,hA,EL]
  refine af (fun h=>cj ?_) (fun h=>cj ?_)
  ·rw[h,u_];exact decide_eq_decide.2 (by omega)
  ·rw[h,pF]
def ahV:HH:=⟨_,arn⟩
def aaX:bp UU where
 α:=bB
 md:=[.ro]
 of:=o1 (oA .dZ)
 ds:=fun x=>[dA .dZ x]
 pre:=fun _=>[]
 bT:=fun d=>⟨[dO (fz d)],[],[]⟩
 law:=l1 (lA .dZ)
def HU(d:bB):Int×T2×Unit->Prop:=fun(i,b,_)=>b=(d.Name,d.aw,())/\bm d.Name=true/\(1<=d.aw.length/\d.aw.length<=12)/\0<=i/\i<=d.aw.length/\∀j:Nat,(j:Int)<i->jh d.aw j=true
def Hq(d:bB):Int×T2×Unit->Nat:=fun(i,b,_)=>d.aw.length-i.toNat
def atJ:aaX.α->Nat->Option (bY UU):=fun d=>aN [(4,bh [.slot 19 (19,1024) (.lit (.int .i64)),.box 1 (1,1024) [.lit .str,.shr .a_]] (fun _=>HU d) (Hq d))]
def ap6:=us [ar6,ar5,N_,Ec]
theorem arx:Holds EE (18,aaX):=by
 refine holds_of ax func18 aaX (by kernel_rfl) ap6 (aE _) atJ (fun(d:bB) hp hb=> ?_)
 have bi:=iF (x:=d) (hb _ m0)
 have fE:=bi.1
 have ey:=bi.2
 clear hp hb
 apply @ve _ (let x0:Int:=(d.aw.length:Int);let q0:=Lb false (fz d);bif !bm d.Name then q0 else bif !decide (1<=x0/\x0<=12) then q0 else HU d (0,(d.Name,d.aw,()),())/\∀(y:Int×T9×PUnit),let q1:=(IntKind.wrap IntKind.i64 (y.1+1),(y.2.1.1,y.2.1.2.1,()),());HU d y->bif decide (y.1<x0) then 0<=y.1/\y.1.toNat<d.aw.length/\bif !fI (List.getD d.aw y.1.toNat ct) then q0 else bif rz y.2.1.2.1 (List.getD d.aw y.1.toNat ct).Name !=y.1 then q0 else HU d q1/\Hq d q1<Hq d y else Lb true (fz d)) (by kernel_rfl)
 dsimp only
 refine bO (fun a1=>bw (by simp only[fz,a1,pF])) (fun a1=>bO (fun a2=>bw ?_) (fun a2=> ?_))
 ·have a2:=yF a2
  simp only[fz];rw[decide_eq_false (p:=1<=d.aw.length/\d.aw.length<=12) (by omega),va,pF]
 have a2:=yT a2
 refine⟨⟨rfl,a1,by omega,by omega,by omega,by intro j hj;omega⟩,?_⟩
 rintro⟨i,⟨b1,b2,⟨⟩⟩,⟨⟩⟩ ⟨rP,a3,a4,h1,h2,hR⟩
 cases rP
 simp only
 refine aU (fun hc=> ?_) (fun hc=> ?_)
 ·have hN:jh d.aw i.toNat=false->fz d=false:=fun h=>by
   have hf:allI d.aw.length (jh d.aw)=false:=gK (j:=i.toNat) (by omega) h
   simp only[fz,hf,va]
  have ei:((i.toNat:Nat):Int)=i:=by omega
  rw[wrap_i64 (by omega) (by omega)]
  refine⟨by omega,by omega,bO (fun g=>bw (hN (by simp only[jh,g,pF]))) (fun g=>bO (fun k=>bw (hN ?_)) (fun k=>⟨⟨rfl,a3,a4,by omega,by omega,fW h1 hR ?_⟩,by simp only[Hq];omega⟩))⟩
  ·simp only[jh,ei,g,u_];exact decide_eq_false (by simpa using k)
  ·simp only[jh,ei,g,u_];exact decide_eq_true (eq_of_beq k)
 ·have hA:allI d.aw.length (jh d.aw)=true:=iu fun j hj=>hR j (by omega)
  refine mV ?_
  simp only[fz,hA,a3,decide_eq_true a4];rfl
def asp:HH:=⟨_,arx⟩
def aad:bp UU where
 α:=aG×aJ
 md:=[.ro,.ro]
 of:=oC (oA .bV) (o1 (oA .bP))
 ds:=fun x=>[dA .bV x.1,dA .bP x.2]
 pre:=fun _=>[]
 bT:=fun(s,f)=>⟨[dI (mn s.ab f)],[],[]⟩
 law:=lC (lA .bV) (l1 (lA .bP))
def Hy(s:aG)(f:aJ):Int×T4×T6×Unit->Prop:=fun(i,b,g,_)=>b=(s.ab,s.Next,())/\g=(f.Kind,f.aj,())/\0<=i/\i<=s.ab.length/\∀j:Nat,(j:Int)<i->decide ((List.getD s.ab j bg).F=f)=false
def Ha(s:aG)(f:aJ):Int×T4×T6×Unit->Nat:=fun(i,b,g,_)=>s.ab.length-i.toNat
def as0:aad.α->Nat->Option (bY UU):=fun(s,f)=>aN [(2,bh [.slot 5 (5,1024) (.lit (.int .i64)),.box 2 (2,1024) [.shr .aX,.lit (.int .i64)],.box 3 (3,1024) [.lit .str,.shr .aM]] (fun _=>Hy s f) (Ha s f))]
def apk:=us [Vw]
theorem aqK:Holds EE (66,aad):=by
 refine holds_of ax func66 aad (by kernel_rfl) apk (aE _) as0 (fun x hp hb=> ?_)
 obtain⟨s,f⟩:=x
 have ga:=l6 (x:=s) (hb _ m0)
 have fg:=fB (x:=f) (hb _ m1)
 have gb:=fg.1
 have eh:=fg.2
 clear hp hb
 apply @ve _ (Hy s f (0,(s.ab,s.Next,()),(f.Kind,f.aj,()),())/\∀(y:Int×Oi×WW×PUnit),let x0:bH:=List.getD y.2.1.1 y.1.toNat bg;let x2:Nat:=y.2.1.1.length;let x1:Int:=(↑x2:Int);let q0:=(IntKind.wrap IntKind.i64 (y.1+1),(y.2.1.1,y.2.1.2.1,()),(y.2.2.1.1,y.2.2.1.2.1,()),());Hy s f y->bif decide (y.1<x1) then 0<=y.1/\y.1.toNat<x2/\bif decide (x0.F={Kind:=y.2.2.1.1,aj:=y.2.2.1.2.1:aJ}) then 0<=y.1/\y.1.toNat<x2/\Li x0.Id (mn s.ab f) else Hy s f q0/\Ha s f q0<Ha s f y else Li 0 (mn s.ab f)) (by kernel_rfl)
 dsimp only
 refine⟨⟨rfl,rfl,by omega,by omega,by intro j hj;omega⟩,?_⟩
 rintro⟨i,⟨b1,b2,⟨⟩⟩,⟨g1,g2,⟨⟩⟩,⟨⟩⟩ ⟨rP,hg,h1,h2,hR⟩
 cases rP
 cases hg
 simp only
 refine aU (fun hc=> ?_) (fun hc=> ?_)
 ·rw[wrap_i64 (by omega) (by omega)]
  refine⟨by omega,by omega,aU (fun h=>⟨by omega,by omega,oe ?_⟩) (fun h=>⟨⟨rfl,rfl,by omega,by omega,ju (p:=fun j=>decide ((List.getD s.ab j bg).F=f)) h1 hR (decide_eq_false h)⟩,by simp only[Ha];omega⟩)⟩
  have e:I5 s.ab f=(i.toNat:Int):=gH (i:=i.toNat) (by omega) (decide_eq_true h) (fun j hj=>hR j (by omega))
  rw[mn,e,if_neg (by omega),zeu]
 ·refine oe ?_
  have e:I5 s.ab f= -1:=jM (fun j hj=>hR j (by omega))
  rw[mn,if_pos e]
def Vx:HH:=⟨_,aqK⟩
def Z9:bp UU where
 α:=aG×Int
 md:=[.ro,.ro]
 of:=oC (oA .bV) (o1 oI)
 ds:=fun x=>[dA .bV x.1,dI x.2]
 pre:=fun(s,id)=>[cQ s.ab<=4294967296]
 bT:=fun(s,id)=>⟨[dA .bP (n_ s.ab id),dO (jX s.ab id)],[],[]⟩
 law:=lC (lA .bV) (l1 lI)
def Hx(s:aG)(id:Int):Int×T4×T6×Unit->Prop:=fun(i,b,g,_)=>b=(s.ab,s.Next,())/\0<=i/\i<=s.ab.length/\∀j:Nat,(j:Int)<i->decide ((List.getD s.ab j bg).Id=id)=false
def G_(s:aG)(id:Int):Int×T4×T6×Unit->Nat:=fun(i,b,g,_)=>s.ab.length-i.toNat
def asT:Z9.α->Nat->Option (bY UU):=fun(s,id)=>aN [(2,bh [.slot 6 (6,1024) (.lit (.int .i64)),.box 2 (2,1024) [.shr .aX,.lit (.int .i64)],.box 4 (4,1024) [.lit .str,.own .aM true]] (fun _=>Hx s id) (G_ s id))]
def ape:=us [sM]
theorem aqE:Holds EE (72,Z9):=by
 refine holds_of ax func72 Z9 (by kernel_rfl) ape (aE _) asT (fun x hp hb=> ?_)
 obtain⟨s,id⟩:=x
 have ga:=l6 (x:=s) (hb _ m0)
 have L6:=sL (n:=id) (hb _ m1)
 have bC:cQ s.ab<=4294967296:=hp _ m0
 clear hp hb
 apply @ve _ (let q0:=n_ s.ab id;Hx s id (0,(s.ab,s.Next,()),({data:= #[]:BA},[],()),())/\∀(y:Int×Oi×WW×PUnit),let x2:bH:=List.getD y.2.1.1 y.1.toNat bg;let x4:Nat:=y.2.1.1.length;let x1:aJ:=x2.F;let x3:Int:=(↑x4:Int);let x0:List aQ:=x1.aj;let q1:=(IntKind.wrap IntKind.i64 (y.1+1),(y.2.1.1,y.2.1.2.1,()),(y.2.2.1.1,y.2.2.1.2.1,()),());Hx s id y->bif decide (y.1<x3) then 0<=y.1/\y.1.toNat<x4/\bif x2.Id==id then 0<=y.1/\y.1.toNat<x4/\x0.length<=4294967296/\Lf [DV.agg [CS x1.Kind,CL .aM x0],VB true] [DV.agg [CS (q0.Kind),CL .aM q0.aj],VB (jX s.ab id)] else Hx s id q1/\G_ s id q1<G_ s id y else Lf [DV.agg [CS ({data:= #[]:BA}),CL .aM []],VB false] [DV.agg [CS (q0.Kind),CL .aM q0.aj],VB (jX s.ab id)]) (by kernel_rfl)
 dsimp only
 refine⟨⟨rfl,by omega,by omega,by intro j hj;omega⟩,?_⟩
 rintro⟨i,⟨b1,b2,⟨⟩⟩,⟨g1,g2,⟨⟩⟩,⟨⟩⟩ ⟨rP,h1,h2,hR⟩
 cases rP
 simp only
 refine aU (fun hc=> ?_) (fun hc=> ?_)
 ·rw[wrap_i64 (by omega) (by omega)]
  have hs:=gU mf s.ab bg h1 hc
  simp only[mf,eg,gy] at hs
  simp only[cQ,mf,eg,gy] at bC
  refine⟨by omega,by omega,bo (fun h=>⟨by omega,by omega,by omega,?_⟩) (fun h=>⟨⟨rfl,by omega,by omega,ju (p:=fun j=>decide ((List.getD s.ab j bg).Id=id)) h1 hR (decide_eq_false h)⟩,by simp only[G_];omega⟩)⟩
  have e:ug s.ab id=(i.toNat:Int):=gH (i:=i.toNat) (by omega) (decide_eq_true h) (fun j hj=>hR j (by omega))
  have e1:n_ s.ab id=(List.getD s.ab i.toNat bg).F:=by rw[n_,e,if_neg (by omega),zeu]
  have e2:jX s.ab id=true:=ir (j:=i.toNat) (by omega) (decide_eq_true h)
  rw[e1,e2];exact bN _
 ·have e:ug s.ab id= -1:=jM (fun j hj=>hR j (by omega))
  have e1:n_ s.ab id=ta:=by rw[n_,if_pos e]
  have e2:jX s.ab id=false:=gg fun j hj=>hR j (by omega)
  rw[e1,e2];exact bN _
def arU:HH:=⟨_,aqE⟩
end
end AM
