import Derived.Test.YtmcepppejchhkaaGreatDoorQAmLib
import Derived.Lib.ItoaLen
import Derived.Lib.Join
import Derived.Test.YtmcepppejchhkaaGreatDoorQShelf
namespace AM
open Go Go.Proofs.Tryz Go.IntKind
set_option linter.unusedVariables false
set_option linter.unusedSimpArgs false
set_option maxRecDepth 100000
noncomputable section
abbrev VB (b : Bool) : DV UU := .one (.lit (.bool b))
abbrev VI (n : Int) : DV UU := .one (.lit (.int .i64 n))
abbrev VS (s : ByteArray) : DV UU := .one (.lit (.string s))
abbrev CI (n : Int) : CC := .lit (.int .i64 n)
abbrev CS (s : ByteArray) : CC := .lit (.string s)
abbrev CO (b : Bool) : CC := .lit (.bool b)
abbrev CL (τ : Cd) (xs : List τ.T) : CC := .sl τ xs
abbrev VL (τ : Cd) (xs : List τ.T) : DV UU := .one (.sl τ xs)
structure Q1(α:Type) where
 d:α→DV UU
 o:DV UU→Option α
 l:∀ v x,o v=some x→d x=v
structure QQ(α:Type) where
 d:α→List (DV UU)
 o:List (DV UU)→Option α
 l:∀ l x,o l=some x→d x=l
def q1{α:Type}(c:Q1 α):QQ α:=⟨fun x=>[c.d x],o1 c.o,l1 c.l⟩
def qC{α β:Type}(c:Q1 α)(r:QQ β):QQ (α×β):=⟨fun x=>c.d x.1::r.d x.2,oC c.o r.o,lC c.l r.l⟩
def qI:Q1 Int:=⟨dI,oI,lI⟩
def qY:Q1 Int:=⟨dY,oY,lY⟩
def qO:Q1 Bool:=⟨dO,oO,lO⟩
def qS:Q1 ByteArray:=⟨dS,oS,lS⟩
def qF:Q1 (List (DA UU)→Option Value):=⟨dF,oF,lF⟩
def qL(τ:Cd):Q1 (List τ.T):=⟨dL τ,oL τ,lL τ⟩
def qA(τ:Cd):Q1 τ.T:=⟨dA τ,oA τ,lA τ⟩
def qX(τ:Cd):Q1 τ.T:=⟨dX τ,oX τ,lX τ⟩
def bW{α:Type}(c:QQ α)(md:List Mode)(pre:α→List Prop)(oe:α→Res UU):ka UU:={α,md,of:=c.o,ds:=c.d,pre,oe,law:=c.l}
def VP{α:Type}(r t:Nat)(c:QQ α)(md:List Mode)(pre:α→List Prop)(oe:α→Res UU):ka UU:={α,md,of:=c.o,ds:=c.d,pre,oe,KQ:=r,cut:=t,law:=c.l}
def hF{f:FuncId}{fn:Func}(k:ka UU)(hf:EE.P.funcs[f]? =some fn)(l:List HH)(oV:k.α→Nat→Option (sS UU))(hw:∀x,(∀p∈k.pre x,p)→(∀d∈k.ds x,gN d)→aeU EE (us l) fn k oV x)(hc:EN EE.P f fn k.md=true:=by kernel_rfl)(h0:k.KQ=0:=by rfl):HH:=⟨(f,k),holds_of pD hf k hc (us l) (uQ _) oV hw h0⟩
def a0{α:Type}(_:α)(_:Nat):Option (sS UU):=none
abbrev LM(a b c d:List (DV UU)):Prop:=(0:Nat)=(0:Nat)∧fG a=fG b∧fG c=fG d
theorem wi{n:Int}(h:-9223372036854775808≤n:=by omega)(k:n≤9223372036854775807:=by omega):IntKind.wrap .i64 n=n:=wrap_i64 h k
abbrev L4(n:Nat):Prop:=n≤4294967296
abbrev L9(n:Nat):Prop:=n≤9223372036854775807
theorem vE{p:Prop}(q:Prop)(h:p=q:=by kernel_rfl)(x:q):p:=by rw[h];exact x
abbrev AX(k:ka UU):=k.α→Nat→Option (sS UU)
abbrev iO(s:Nat)(τ:Cd):It UU:=.slot s (s,1024) (.own τ true)
abbrev iI(s:Nat):It UU:=.slot s (s,1024) (.lit (.int .i64))
abbrev T0:=List bO×Int×List av×List ao×List aI×List bp×Int×Int×Unit
abbrev T1:=ByteArray×Int×List cr×List dy×List ez×Unit
abbrev T2:=ByteArray×List bc×Unit
abbrev T3:=List bO×Int×Unit
abbrev T4:=List Int×Int×Int×Unit
abbrev T5:=ByteArray×List a_×Unit
abbrev T6:=Int×Int×ByteArray×Int×Int×ByteArray×Int×ByteArray×Int×Int×ByteArray×Unit
abbrev T7:=Int×ByteArray×List cv×Int×ByteArray×Unit
abbrev T8:=Int×List Int×List bT×Unit
abbrev T9:=ByteArray×List bc×PUnit
abbrev T10:=List bO×Int×List av×List ao×List aI×List bp×Int×Int×PUnit
abbrev O':=ByteArray×List cM×Bool×Unit
abbrev O9:=List Int×Int×Int×PUnit
abbrev NR:=List bO×Int×PUnit
abbrev Zu:=List br×List sO×Int×Int×Unit
abbrev UJ:=ByteArray×List a_×PUnit
abbrev T16:=ByteArray×Int×List cr×List dy×List ez×PUnit
abbrev T17:=Int×ByteArray×List a_×Unit
abbrev T18:=ByteArray×List a_×ByteArray×Int×Int×Int×Int×Int×ByteArray×Unit
abbrev T19:=Int×List Int×List bT×PUnit
abbrev T20:=ByteArray×List cM×Bool×PUnit
abbrev T21:=Int×Int×ByteArray×Unit
theorem yT {p:Prop} [Decidable p] (h:decide p=true):p:=of_decide_eq_true h
theorem yF {p:Prop} [Decidable p] (h:decide p=false):¬p:=of_decide_eq_false h
abbrev BA:=ByteArray
instance:DecidableEq a_:=fun _ _=>Classical.propDecidable _
instance:DecidableEq aL:=fun _ _=>Classical.propDecidable _
instance:DecidableEq bO:=fun _ _=>Classical.propDecidable _
instance:DecidableEq aD:=fun _ _=>Classical.propDecidable _
instance:DecidableEq cM:=fun _ _=>Classical.propDecidable _
instance:DecidableEq cr:=fun _ _=>Classical.propDecidable _
instance:DecidableEq bT:=fun _ _=>Classical.propDecidable _
instance:DecidableEq dy:=fun _ _=>Classical.propDecidable _
instance:DecidableEq cv:=fun _ _=>Classical.propDecidable _
instance:DecidableEq ez:=fun _ _=>Classical.propDecidable _
instance:DecidableEq bc:=fun _ _=>Classical.propDecidable _
instance:DecidableEq br:=fun _ _=>Classical.propDecidable _
instance:DecidableEq av:=fun _ _=>Classical.propDecidable _
instance:DecidableEq di:=fun _ _=>Classical.propDecidable _
instance:DecidableEq aI:=fun _ _=>Classical.propDecidable _
instance:DecidableEq ao:=fun _ _=>Classical.propDecidable _
instance:DecidableEq gg:=fun _ _=>Classical.propDecidable _
instance:DecidableEq bp:=fun _ _=>Classical.propDecidable _
instance:DecidableEq aq:=fun _ _=>Classical.propDecidable _
instance:DecidableEq sO:=fun _ _=>Classical.propDecidable _
instance:DecidableEq lp:=fun _ _=>Classical.propDecidable _
theorem yA{α:Type}(p:List α)(l:List α)(z:α){i:Int}(hp:p.length=i.toNat)(h0:0<=i)(h:i<l.length):List.getD (p++l.drop i.toNat) i.toNat z=List.getD l i.toNat z:=by
 rw[eV,eV,z_ (by omega),hp,Zw,HR,Kj]
theorem d_{α:Type}(f:α->Nat)(l:List α)(z:α){i:Int}(h0:0<=i)(h:i<l.length):f (List.getD l i.toNat z)<=(l.map f).sum:=by
 have h1:l=l.take i.toNat++List.getD l i.toNat z::l.drop (i+1).toNat:=by rw[<-e_ l z h0 h,Uv]
 have h2:=congrArg (fun q=>(q.map f).sum) h1
 simp only[Ko,wH,Zy,MI] at h2
 omega
theorem getD_modify{α:Type}(l:List α)(z:α)(f:α->α)(i:Nat)(h:i<l.length):List.getD (l.modify i f) i z=f (List.getD l i z):=by
 rw[eV,eV,Zz,fE h];simp
theorem lW{α:Type}(l:List α)(f g:α->α)(i:Nat):(l.modify i f).modify i g=l.modify i (fun x=>g (f x)):=List.modify_modify_eq f g i l
theorem Nf{α:Type}(l:List α)(z:α)(f:α->α)(i:Nat):l.modify i f=l.set i (f (List.getD l i z)):=by
 refine Uu fun j=> ?_
 rw[Zz,Xa]
 by_cases hj:i=j
 ·subst hj
  rw[if_pos rfl]
  by_cases hi:i<l.length
  ·rw[if_pos hi,fE hi,eV,fE hi];simp
  ·rw[if_neg hi,ot (by omega)];rfl
 ·rw[if_neg hj];simp[hj]
theorem dW{α:Type}(p:α->Bool)(l:List α)(z:α){i:Int}(h0:0<=i)(h:i<l.length):(l.drop i.toNat).all p=(p (List.getD l i.toNat z)&&(l.drop (i+1).toNat).all p):=by
 rw[e_ l z h0 h,QV]
theorem zn{α:Type}(p:α->Bool)(l:List α)(z:α){i:Int}(h0:0<=i)(h:i<l.length):(l.drop i.toNat).any p=(p (List.getD l i.toNat z)||(l.drop (i+1).toNat).any p):=by
 rw[e_ l z h0 h,UK]
def bs(s:ByteArray):List UInt8:=s.data.toList
theorem pj(s:ByteArray):(bs s).length=s.size:=Gk
theorem HF(s:ByteArray):Array.toList (ByteArray.data s)=bs s:=rfl
def ky(p:Int->Bool)(b:UInt8):Bool:=p b.toNat
theorem ZQ(b:UInt8):IntKind.wrap .i64 (b.toNat:Int)=b.toNat:=wrap_i64 (by omega) (by have:=b.toNat_lt;omega)
theorem nR{y:Bool}(h:y=true):Lf [.one (.lit (.bool true))] [.one (.lit (.bool y))]:=cg h.symm
theorem bD{y:Bool}(h:y=false):Lf [.one (.lit (.bool false))] [.one (.lit (.bool y))]:=cg h.symm
theorem dl{α:Type}(l:List α)(z:α){i:Int}(h0:0<=i)(h:i<l.length):l.take i.toNat++[List.getD l i.toNat z]=l.take (i+1).toNat:=by
 have hn:i.toNat<l.length:=by omega
 have e:(i+1).toNat=i.toNat+1:=by omega
 rw[e,zcz hn,eV,fE hn]
 rfl
theorem cA{α:Type}(l:List α){i:Int}(h:l.length<=i):l.take i.toNat=l:=Ut (by omega)
theorem yP{α:Type}(l:List α)(z:α){i:Int}(h0:0<=i)(h:i<l.length):List.getD l i.toNat z∈l:=by
 have hn:i.toNat<l.length:=by omega
 rw[eV,fE hn]
 exact D5 hn
def r_(l:List Int):Nat:=l.length
def od(a:a_):Nat:=a.S.size
def eG(l:List a_):Nat:=l.length+(l.map od).sum
def dh(a:aL):Nat:=a.Kind.size+eG a.ag
def jX(a:bO):Nat:=dh a.F
def bV(l:List bO):Nat:=l.length+(l.map jX).sum
def jr(a:aD):Nat:=bV a.ab
def fv(a:cM):Nat:=a.S.size+od a.V
def uY(l:List cM):Nat:=l.length+(l.map fv).sum
def kq(a:cr):Nat:=a.Kind.size+uY a.ay
def kJ(l:List cr):Nat:=l.length+(l.map kq).sum
def Ra(a:bT):Nat:=a.Name.size+od a.V
def sa(l:List bT):Nat:=l.length+(l.map Ra).sum
def oy(a:dy):Nat:=fv a.L+fv a.R
def vJ(l:List dy):Nat:=l.length+(l.map oy).sum
def iL(a:cv):Nat:=a.Op.size+fv a.L+fv a.R
def kS(l:List cv):Nat:=l.length+(l.map iL).sum
def hJ(a:ez):Nat:=a.Name.size+kS a.ay+a.aW.size
def sb(l:List ez):Nat:=l.length+(l.map hJ).sum
def dV(a:bc):Nat:=a.Name.size+kJ a.aH+vJ a.aV+sb a.bH
def j7(l:List bc):Nat:=l.length+(l.map dV).sum
def cE(a:br):Nat:=a.Name.size+j7 a.aw
def js(a:av):Nat:=r_ a.eo+sa a.bw
def fh(l:List av):Nat:=l.length+(l.map js).sum
def ig(a:aI):Nat:=dh a.F
def cy(l:List aI):Nat:=l.length+(l.map ig).sum
def lR(a:ao):Nat:=dh a.F+a.aW.size+od a.V
def cf(l:List ao):Nat:=l.length+(l.map lR).sum
def du(a:bp):Nat:=a.Key.size+dh a.F
def bN(l:List bp):Nat:=l.length+(l.map du).sum
def cU(a:aq):Nat:=jr a.S+fh a.aA+cf a.aj+cy a.ap+bN a.ax
theorem WI{x:a_}(h:gN (dA .bf x)):x.S.size<=9223372036854775807:=Bd.str (U:=UU) (h _ (fF _ (fF _ (iH))))
theorem qq{x:aL}(h:gN (dA .db x)):x.Kind.size<=9223372036854775807/\x.ag.length<=9223372036854775807:=⟨Bd.str (U:=UU) (h _ (iH)),Bd.len (U:=UU) (h _ (fF _ (iH)))⟩
theorem la{x:aD}(h:gN (dA .cQ x)):x.ab.length<=9223372036854775807:=Bd.len (U:=UU) (h _ (iH))
theorem xA{x:aD}(h:gN (dX .cQ x)):x.ab.length<=9223372036854775807:=Bd.len (U:=UU) (h _ (iH))
theorem IT{x:cr}(h:gN (dA .dB x)):x.Kind.size<=9223372036854775807/\x.ay.length<=9223372036854775807:=⟨Bd.str (U:=UU) (h _ (iH)),Bd.len (U:=UU) (h _ (fF _ (iH)))⟩
theorem ma{x:bc}(h:gN (dA .bB x)):x.Name.size<=9223372036854775807/\x.aH.length<=9223372036854775807/\x.aV.length<=9223372036854775807/\x.bH.length<=9223372036854775807:=⟨Bd.str (U:=UU) (h _ (iH)),Bd.len (U:=UU) (h _ (fF _ (fF _ (iH)))),Bd.len (U:=UU) (h _ (fF _ (fF _ (fF _ (iH))))),Bd.len (U:=UU) (h _ (fF _ (fF _ (fF _ (fF _ (iH))))))⟩
theorem lc{x:br}(h:gN (dA .h_ x)):x.Name.size<=9223372036854775807/\x.aw.length<=9223372036854775807:=⟨Bd.str (U:=UU) (h _ (iH)),Bd.len (U:=UU) (h _ (fF _ (iH)))⟩
theorem sE{x:av}(h:gN (dA .aB x)):x.eo.length<=9223372036854775807/\x.bw.length<=9223372036854775807:=⟨Bd.len (U:=UU) (h _ (fF _ (iH))),Bd.len (U:=UU) (h _ (fF _ (fF _ (iH))))⟩
theorem oR{x:aq}(h:gN (dA .cp x)):x.S.ab.length<=9223372036854775807/\x.aA.length<=9223372036854775807/\x.aj.length<=9223372036854775807/\x.ap.length<=9223372036854775807/\x.ax.length<=9223372036854775807:=⟨Bd.len (U:=UU) (h _ (iH)),Bd.len (U:=UU) (h _ (fF _ (fF _ (iH)))),Bd.len (U:=UU) (h _ (fF _ (fF _ (fF _ (iH))))),Bd.len (U:=UU) (h _ (fF _ (fF _ (fF _ (fF _ (iH)))))),Bd.len (U:=UU) (h _ (fF _ (fF _ (fF _ (fF _ (fF _ (iH)))))))⟩
theorem ld{x:aq}(h:gN (dX .cp x)):x.S.ab.length<=9223372036854775807/\x.aA.length<=9223372036854775807/\x.aj.length<=9223372036854775807/\x.ap.length<=9223372036854775807/\x.ax.length<=9223372036854775807:=⟨Bd.len (U:=UU) (h _ (iH)),Bd.len (U:=UU) (h _ (fF _ (fF _ (iH)))),Bd.len (U:=UU) (h _ (fF _ (fF _ (fF _ (iH))))),Bd.len (U:=UU) (h _ (fF _ (fF _ (fF _ (fF _ (iH)))))),Bd.len (U:=UU) (h _ (fF _ (fF _ (fF _ (fF _ (fF _ (iH)))))))⟩
theorem Ma{x:lp}(h:gN (dA .oN x)):x.o7.length<=9223372036854775807/\x.jH.length<=9223372036854775807:=⟨Bd.len (U:=UU) (h _ (iH)),Bd.len (U:=UU) (h _ (fF _ (iH)))⟩
def lz(b:Int):Bool:=decide (97<=b/\b<=122)
def li(b:Int):Bool:=lz b||decide (48<=b/\b<=57)||decide (b=95)
def qQ(s:BA):Bool:=(bs s).all (ky li)
def bu(s:BA):Bool:=decide (1<=s.size/\s.size<=12)&&lz ((bs s).getD 0 0).toNat&&qQ s
def bR(v:a_):Bool:=bif decide (v.K=1) then decide (-1000000000<=v.N/\v.N<=1000000000)&&decide (v.S=ai) else bif decide (v.K=2) then decide (v.N=0)&&decide (v.S.size<=20)&&qQ v.S else false
def bE(f:aL):Bool:=bu f.Kind&&decide (f.ag.length<=5)&&f.ag.all bR
def aoN:=bW (α:=Int×Int×Int) (qC qI (qC qI (q1 qI))) [.ro,.ro,.ro] (fun _=>[]) (fun(n,least,aK)=>⟨[dO (decide (least<=n/\n<=aK))],[],[]⟩)
def A':HH:=hF aoN func19 [] a0 fun x hp hb=>by
 obtain⟨n,least,aK⟩:=x
 clear hp hb
 apply vE (let q0:=decide (least<=n/\n<=aK);bif decide (n≥least) then Lb (decide (n<=aK)) q0 else Lb false q0)
 dsimp only
 refine ae (fun h=>cg ?_) (fun h=>cg ?_)<;>grind
def aoL:=bW (α:=Int×Int×Int) (qC qI (qC qI (q1 qI))) [.ro,.ro,.ro] (fun _=>[]) (fun(x,least,aK)=>⟨[dO (decide (least<=x/\x<=aK))],[],[]⟩)
def sK:HH:=hF aoL func22 [] a0 fun x hp hb=>by
 obtain⟨x,least,aK⟩:=x
 clear hp hb
 apply vE (let q0:=decide (least<=x/\x<=aK);bif decide (x≥least) then Lb (decide (x<=aK)) q0 else Lb false q0)
 dsimp only
 refine ae (fun h=>cg ?_) (fun h=>cg ?_)<;>grind
def ag_:=bW (α:=Int) (q1 qY) [.ro] (fun _=>[]) (fun b=>⟨[dO (lz b)],[],[]⟩)
def Zh:HH:=hF ag_ func141 [] a0 fun(b:Int) hp hb=>by
 skip
 clear hp hb
 apply vE (bif decide (b≥97) then Lb (decide (b<=122)) (lz b) else Lb false (lz b))
 refine ae (fun h=>cg ?_) (fun h=>cg ?_)<;>grind [lz]
def agC:=bW (α:=Int) (q1 qY) [.ro] (fun _=>[]) (fun b=>⟨[dO (decide (48<=b/\b<=57))],[],[]⟩)
def aic:HH:=hF agC func221 [] a0 fun(b:Int) hp hb=>by
 skip
 clear hp hb
 apply vE (let q0:=decide (48<=b/\b<=57);bif decide (b≥48) then Lb (decide (b<=57)) q0 else Lb false q0)
 dsimp only
 refine ae (fun h=>cg ?_) (fun h=>cg ?_)<;>grind
def agO:=bW (α:=Int) (q1 qY) [.ro] (fun _=>[]) (fun b=>⟨[dO (li b)],[],[]⟩)
def Y8:HH:=hF agO func195 [Zh,aic] a0 fun(b:Int) hp hb=>by
 skip
 clear hp hb
 apply vE (bif lz b then Lb true (li b) else bif decide (48<=b/\b<=57) then Lb true (li b) else Lb (b==95) (li b))
 refine ae (fun h=>cg ?_) (fun h=> ?_)
 ·grind [li]
 refine ae (fun h=>cg ?_) (fun h=>cg ?_)<;>grind [li]
def ahc:=bW (α:=Int) (q1 qY) [.ro] (fun c=>[0<=c/\c<=255]) (fun c=>⟨[dO (li c)],[],[]⟩)
def Ue:HH:=hF ahc func136 [sK] a0 fun(c:Int) hp hb=>by
 have bo:0<=c/\c<=255:=hp _ m0
 clear hp hb
 apply vE (bif decide (97<=wrap i64 c/\wrap i64 c<=122) then Lb true (li c) else bif decide (48<=wrap i64 c/\wrap i64 c<=57) then Lb true (li c) else Lb (c==95) (li c))
 rw[wi]
 refine ae (fun h=>cg ?_) (fun h=> ?_)
 ·grind [li,lz]
 refine ae (fun h=>cg ?_) (fun h=>cg ?_)<;>grind [li,lz]
def YG:=bW (α:=BA×Int) (qC qS (q1 qI)) [.ro,.ro] (fun _=>[]) (fun(s,aK)=>⟨[dO (decide (s.size<=aK)&&qQ s)],[],[]⟩)
def DR(s:BA)(aK:Int):Int×Unit->Prop:=fun(i,_)=>0<=i/\i<=s.size/\s.size<=aK/\((bs s).drop i.toNat).all (ky li)=qQ s
def C5(s:BA)(aK:Int):Int×Unit->Nat:=fun(i,_)=>s.size-i.toNat
def akh:AX YG:=fun(s,aK)=>bS [(4,aT [iI 5] (fun _=>DR s aK) (C5 s aK))]
def Zg:HH:=hF YG func142 [Y8] akh fun x hp hb=>by
 obtain⟨s,aK⟩:=x
 have Sx:=ON (s:=s) (hb _ m0)
 have Ch:=zk (n:=aK) (hb _ m1)
 clear hp hb
 apply vE (let q0:=decide ((↑(s.size):Int)<=aK)&&qQ s;bif decide ((↑(s.size):Int)>aK) then Lb false q0 else DR s aK (0,())/\∀(y:Int×PUnit),let q1:=(wrap i64 (y.1+1),());DR s aK y->bif decide (y.1<(↑(s.size):Int)) then 0<=y.1/\y.1.toNat<s.size/\bif !li (↑(UInt8.toNat (s.data.toList.getD y.1.toNat (0:UInt8))):Int) then Lb false q0 else DR s aK q1/\C5 s aK q1<C5 s aK y else Lb true q0)
 dsimp only
 refine ae (fun h=>bD ?_) (fun h=> ?_)
 ·have h:=yT h;rw[decide_eq_false (by omega)];rfl
 have h0:=yF h
 refine⟨⟨by omega,by omega,by omega,rfl⟩,?_⟩
 rintro⟨i,⟨⟩⟩ ⟨h1,h2,h3,hR⟩
 have hl:=pj s
 simp only[HF]
 refine ae ?_ ?_<;>intro hc
 ·have hc:=yT hc
  rw[dW _ _ 0 h1 (by omega)] at hR
  rw[wi]
  refine⟨by omega,by omega,ae (fun h=>bD ?_) (fun h=>⟨⟨by omega,by omega,by omega,?_⟩,?_⟩)⟩
  ·rw[<-hR];simp only[ky];simp at h;simp[h]
  ·rw[<-hR];simp only[ky];simp at h;simp[h]
  ·simp only[C5];omega
 ·have hc:=yF hc
  rw[cz _ (by omega)] at hR
  exact nR (by rw[<-hR,decide_eq_true h3];rfl)
def aor:=bW (α:=BA) (q1 qS) [.ro] (fun _=>[]) (fun s=>⟨[dO (bu s)],[],[]⟩)
def QI:HH:=hF aor func86 [Zh,Zg] a0 fun(s:BA) hp hb=>by
 clear hp hb
 apply vE (bif decide ((↑(s.size):Int)>0) then(0:Int)<=(0:Int)/\Int.toNat 0<s.size/\bif lz (↑(UInt8.toNat (s.data.toList.getD (Int.toNat 0) (0:UInt8))):Int) then Lb (decide ((↑(s.size):Int)<=12)&&qQ s) (bu s) else Lb false (bu s) else Lb false (bu s))
 have hl:=pj s
 simp only[HF]
 refine ae (fun h=> ?_) (fun h=>bD ?_)
 ·have h:=yT h
  refine⟨by omega,by omega,ae (fun h'=>cg ?_) (fun h'=>bD ?_)⟩
  ·have h':lz (((bs s).getD 0 0).toNat:Int)=true:=h'
   simp only[bu,h']
   have e:decide (1<=s.size/\s.size<=12)=decide ((s.size:Int)<=12):=by rw[decide_eq_decide];omega
   rw[e];simp
  ·have h':lz (((bs s).getD 0 0).toNat:Int)=false:=h'
   simp only[bu,h'];grind
 ·have h:=yF h
  simp only[bu];rw[decide_eq_false (by omega)];rfl
def afC:=bW (α:=BA) (q1 qS) [.ro] (fun _=>[]) (fun s=>⟨[dO (bu s)],[],[]⟩)
def JH(s:BA):Int×Unit->Prop:=fun(i,_)=>0<=i/\i<=s.size/\((bs s).drop i.toNat).all (ky li)=qQ s/\(0<i->lz ((bs s).getD 0 0).toNat=true)
def FR(s:BA):Int×Unit->Nat:=fun(i,_)=>s.size-i.toNat
def apS:AX afC:=fun s=>bS [(2,aT [iI 3] (fun _=>JH s) (FR s))]
def Mq:HH:=hF afC func77 [Ue,sK] apS fun(s:BA) hp hb=>by
 have Sx:=ON (s:=s) (hb _ m0)
 clear hp hb
 apply vE (let q0:=(↑(s.size):Int);JH s (0,())/\∀(y:Int×PUnit),let x0:=(↑(UInt8.toNat (s.data.toList.getD y.1.toNat (0:UInt8))):Int);let q1:=(wrap i64 (y.1+1),());let q2:=JH s q1/\FR s q1<FR s y;JH s y->bif decide (y.1<q0) then 0<=y.1/\y.1.toNat<s.size/\(0<=x0/\x0<=255)/\bif !li x0 then Lb false (bu s) else bif y.1==0 then 0<=y.1/\y.1.toNat<s.size/\bif !decide (97<=wrap i64 x0/\wrap i64 x0<=122) then Lb false (bu s) else q2 else q2 else Lb (decide (1<=q0/\q0<=12)) (bu s))
 dsimp only
 refine⟨⟨by omega,by omega,rfl,by omega⟩,?_⟩
 rintro⟨i,⟨⟩⟩ ⟨h1,h2,hR,hS⟩
 have hl:=pj s
 simp only[HF,ZQ]
 refine ae ?_ ?_<;>intro hc
 ·have hc:=yT hc
  have hb:=((bs s).getD i.toNat 0).toNat_lt
  rw[dW _ _ 0 h1 (by omega)] at hR
  rw[wi]
  have hN:qQ s=false->bu s=false:=fun h=>by simp[bu,h]
  refine⟨by omega,by omega,⟨by omega,by omega⟩,ae (fun h=>bD (hN ?_)) (fun h=>ae (fun h'=>⟨by omega,by omega,ae (fun pg=>bD ?_) (fun pg=>⟨⟨by omega,by omega,?_,fun _=> ?_⟩,?_⟩)⟩) (fun h'=>⟨⟨by omega,by omega,?_,fun _=>hS ?_⟩,?_⟩))⟩
  ·rw[<-hR];simp only[ky];simp at h;simp[h]
  ·have h':i=0:=by simpa using h'
   subst h'
   have pg:lz (((bs s).getD 0 0).toNat:Int)=false:=by simp only[lz];grind
   simp only[bu,pg];grind
  ·rw[<-hR];simp only[ky];simp at h;simp[h]
  ·have h':i=0:=by simpa using h'
   subst h'
   simpa[lz] using pg
  ·simp only[FR];omega
  ·rw[<-hR];simp only[ky];simp at h;simp[h]
  ·have h':¬i=0:=by simpa using h'
   omega
  ·simp only[FR];omega
 ·have hc:=yF hc
  rw[cz _ (by omega)] at hR
  refine cg ?_
  simp only[bu,<-hR]
  by_cases hz:0<i
  ·rw[hS hz];simp only[QS];grind
  ·rw[decide_eq_false (by omega),decide_eq_false (by omega)];rfl
def Ym:=bW (α:=BA) (q1 qS) [.ro] (fun _=>[]) (fun s=>⟨[dO (decide (s.size<=20)&&qQ s)],[],[]⟩)
def DC(s:BA):Int×Unit->Prop:=fun(i,_)=>0<=i/\i<=s.size/\((bs s).drop i.toNat).all (ky li)=qQ s
def CR(s:BA):Int×Unit->Nat:=fun(i,_)=>s.size-i.toNat
def ajY:AX Ym:=fun s=>bS [(2,aT [iI 3] (fun _=>DC s) (CR s))]
def aiw:HH:=hF Ym func194 [Ue] ajY fun(s:BA) hp hb=>by
 have Sx:=ON (s:=s) (hb _ m0)
 clear hp hb
 apply vE (let q0:=decide (s.size<=20)&&qQ s;DC s (0,())/\∀(y:Int×PUnit),let x0:=(↑(UInt8.toNat (s.data.toList.getD y.1.toNat (0:UInt8))):Int);let q1:=(wrap i64 (y.1+1),());DC s y->bif decide (y.1<(↑(s.size):Int)) then 0<=y.1/\y.1.toNat<s.size/\(0<=x0/\x0<=255)/\bif !li x0 then Lb false q0 else DC s q1/\CR s q1<CR s y else Lb (decide ((↑(s.size):Int)<=20)) q0)
 dsimp only
 refine⟨⟨by omega,by omega,rfl⟩,?_⟩
 rintro⟨i,⟨⟩⟩ ⟨h1,h2,hR⟩
 have hl:=pj s
 simp only[HF]
 refine ae ?_ ?_<;>intro hc
 ·have hc:=yT hc
  have hb:=((bs s).getD i.toNat 0).toNat_lt
  rw[dW _ _ 0 h1 (by omega)] at hR
  rw[wi]
  refine⟨by omega,by omega,⟨by omega,by omega⟩,ae (fun h=>bD ?_) (fun h=>⟨⟨by omega,by omega,?_⟩,?_⟩)⟩
  ·rw[<-hR];simp only[ky];simp at h;simp[h]
  ·rw[<-hR];simp only[ky];simp at h;simp[h]
  ·simp only[CR];omega
 ·have hc:=yF hc
  rw[cz _ (by omega)] at hR
  refine cg ?_
  rw[<-hR];simp;omega
def ag7:=bW (α:=a_) (q1 (qA .bf)) [.ro] (fun _=>[]) (fun v=>⟨[dO (bR v)],[],[]⟩)
def O4:HH:=hF ag7 func151 [A',Zg] a0 fun(v:a_) hp hb=>by
 clear hp hb
 apply vE (let q0:=Lb false (bR v);bif v.K==1 then bif decide ((-1000000000)<=v.N/\v.N<=1000000000) then Lb (v.S.toList==ByteArray.toList {data:= #[]:BA}) (bR v) else q0 else bif v.K==2 then bif v.N==0 then Lb (decide ((↑(v.S.size):Int)<=20)&&qQ v.S) (bR v) else q0 else q0)
 dsimp only
 have e:((a_.S v).toList==ByteArray.toList {data:= #[]})=decide (v.S=ai):=aO _ _
 simp only[e,bR]
 repeat' (refine ae (fun h=> ?_) (fun h=> ?_))
 all_goals (refine cg ?_;grind)
def aha:=bW (α:=a_) (q1 (qA .bf)) [.ro] (fun _=>[]) (fun v=>⟨[dO (bR v)],[],[]⟩)
def O5:HH:=hF aha func139 [sK,aiw] a0 fun(v:a_) hp hb=>by
 clear hp hb
 apply vE (let q0:=Lb false (bR v);bif v.K==1 then bif decide ((-1000000000)<=v.N/\v.N<=1000000000) then Lb (v.S.toList==ByteArray.toList {data:= #[]:BA}) (bR v) else q0 else bif v.K==2 then bif decide (v.S.size<=20)&&qQ v.S then Lb (v.N==0) (bR v) else q0 else q0)
 dsimp only
 have e:((a_.S v).toList==ByteArray.toList {data:= #[]})=decide (v.S=ai):=aO _ _
 simp only[e,bR]
 repeat' (refine ae (fun h=> ?_) (fun h=> ?_))
 all_goals (refine cg ?_;grind)
def YI:=bW (α:=List a_) (q1 (qL .bf)) [.ro] (fun _=>[]) (fun l=>⟨[dO (decide (l.length<=5)&&l.all bR)],[],[]⟩)
def DS(l:List a_):Int×Unit->Prop:=fun(i,_)=>0<=i/\i<=l.length/\(l.drop i.toNat).all bR=l.all bR
def C7(l:List a_):Int×Unit->Nat:=fun(i,_)=>l.length-i.toNat
def akj:AX YI:=fun l=>bS [(2,aT [iI 3] (fun _=>DS l) (C7 l))]
def ai9:HH:=hF YI func137 [O5] akj fun(l:List a_) hp hb=>by
 have jQ:L9 l.length:=kG (hb _ m0)
 clear hp hb
 apply vE (let x0:=(l.length:Int);let q0:=decide (l.length<=5)&&l.all bR;DS l (0,())/\∀(y:Int×PUnit),let q1:=(wrap i64 (y.1+1),());DS l y->bif decide (y.1<x0) then 0<=y.1/\y.1.toNat<l.length/\bif !bR (l.getD y.1.toNat dK) then Lb false q0 else DS l q1/\C7 l q1<C7 l y else Lb (decide (x0<=5)) q0)
 dsimp only
 refine⟨⟨by omega,by omega,rfl⟩,?_⟩
 rintro⟨i,⟨⟩⟩ ⟨h1,h2,hR⟩
 simp only
 refine ae ?_ ?_<;>intro hc
 ·have hc:=yT hc
  rw[dW _ _ dK h1 (by omega)] at hR
  rw[wi]
  refine⟨by omega,by omega,ae (fun h=>bD ?_) (fun h=>⟨⟨by omega,by omega,?_⟩,?_⟩)⟩
  ·rw[<-hR];simp at h;simp[h]
  ·rw[<-hR];simp at h;simp[h]
  ·simp only[C7];omega
 ·have hc:=yF hc
  rw[cz _ (by omega)] at hR
  refine cg ?_
  rw[<-hR];simp;omega
def aow:=bW (α:=aL) (q1 (qA .db)) [.ro] (fun _=>[]) (fun f=>⟨[dO (bE f)],[],[]⟩)
def NQ:HH:=hF aow func78 [Mq,ai9] a0 fun(f:aL) hp hb=>by
 clear hp hb
 apply vE (bif bu f.Kind then Lb (decide (f.ag.length<=5)&&f.ag.all bR) (bE f) else Lb false (bE f))
 simp only[bE]
 refine ae (fun h=>cg ?_) (fun h=>cg ?_)<;>grind
def afx:=bW (α:=aL) (q1 (qA .db)) [.ro] (fun _=>[]) (fun f=>⟨[dO (bE f)],[],[]⟩)
def JD(f:aL):Int×Unit->Prop:=fun(i,_)=>0<=i/\i<=f.ag.length/\f.ag.length<=5/\bu f.Kind=true/\(f.ag.drop i.toNat).all bR=f.ag.all bR
def I0(f:aL):Int×Unit->Nat:=fun(i,_)=>f.ag.length-i.toNat
def apN:AX afx:=fun f=>bS [(4,aT [iI 18] (fun _=>JD f) (I0 f))]
def QH:HH:=hF afx func89 [QI,O4] apN fun(f:aL) hp hb=>by
 clear hp hb
 apply vE (let x0:=(f.ag.length:Int);let q0:=Lb false (bE f);bif !bu f.Kind then q0 else bif decide (x0>5) then q0 else JD f (0,())/\∀(y:Int×PUnit),let q1:=(wrap i64 (y.1+1),());JD f y->bif decide (y.1<x0) then 0<=y.1/\y.1.toNat<f.ag.length/\bif !bR (f.ag.getD y.1.toNat dK) then q0 else JD f q1/\I0 f q1<I0 f y else Lb true (bE f))
 dsimp only
 refine ae (fun h=>cg ?_) (fun h=>ae (fun h'=>cg ?_) (fun h'=>⟨⟨by omega,by omega,by simp at h';omega,by simpa using h,rfl⟩,?_⟩))
 ·simp only[bE];grind
 ·simp only[bE];grind
 rintro⟨i,⟨⟩⟩ ⟨h1,h2,h3,h4,hR⟩
 simp only
 refine ae ?_ ?_<;>intro hc
 ·have hc:=yT hc
  rw[dW _ _ dK h1 (by omega)] at hR
  rw[wi]
  refine⟨by omega,by omega,ae (fun h=>bD ?_) (fun h=>⟨⟨by omega,by omega,by omega,h4,?_⟩,?_⟩)⟩
  ·simp only[bE];rw[<-hR];simp at h;simp[h]
  ·rw[<-hR];simp at h;simp[h]
  ·simp only[I0];omega
 ·have hc:=yF hc
  rw[cz _ (by omega)] at hR
  refine cg ?_
  simp only[bE,<-hR,h4];simp;omega
def allI(n:Nat)(p:Nat->Bool):Bool:=(List.range n).all p
theorem iG{n:Nat}{p:Nat->Bool}(h:∀j,j<n->p j=true):allI n p=true:=by simpa[allI] using h
theorem g_{n:Nat}{p:Nat->Bool}{j:Nat}(h:j<n)(hj:p j=false):allI n p=false:=by
 simp only[allI,List.all_eq_false,pR]
 exact⟨j,h,by simp[hj]⟩
theorem gh{i:Int}{p:Nat->Bool}(h0:0<=i)(h:∀j:Nat,(j:Int)<i->p j=true)(hi:p i.toNat=true):∀j:Nat,(j:Int)<i+1->p j=true:=by
 intro j hj
 by_cases XH:(j:Int)<i
 ·exact h j XH
 ·have:j=i.toNat:=by omega
  subst this;exact hi
def iq(x:aI):Bool:=decide (0<=x.At/\x.At<=1000000000)&&bE x.F
def jL(l:List aI)(i:Nat):Bool:=iq (l.getD i cC)&&(decide (i=0)||decide ((l.getD (i-1) cC).At<=(l.getD i cC).At))
def dt(l:List aI):Bool:=decide (l.length<=30)&&allI l.length (jL l)
def aoI:=bW (α:=Int) (q1 qI) [.ro] (fun _=>[]) (fun n=>⟨[dO (decide (0<=n/\n<=1000000000))],[],[]⟩)
def WZ:HH:=hF aoI func39 [A'] a0 fun(n:Int) hp hb=>by
 clear hp hb
 apply vE (let q0:=decide (0<=n/\n<=1000000000);Lb q0 q0)
 dsimp only
 exact aY _
def aon:=bW (α:=aI) (q1 (qA .aE)) [.ro] (fun _=>[]) (fun x=>⟨[dO (iq x)],[],[]⟩)
def ao0:HH:=hF aon func92 [WZ,QH] a0 fun(x:aI) hp hb=>by
 clear hp hb
 apply vE (bif decide (0<=x.At/\x.At<=1000000000) then Lb (bE x.F) (iq x) else Lb false (iq x))
 simp only[iq]
 refine ae (fun h=>cg ?_) (fun h=>cg ?_)<;>grind
def aot:=bW (α:=aI) (q1 (qA .aE)) [.ro] (fun _=>[]) (fun x=>⟨[dO (iq x)],[],[]⟩)
def ahA:HH:=hF aot func82 [sK,NQ] a0 fun(x:aI) hp hb=>by
 clear hp hb
 apply vE (bif decide (0<=x.At/\x.At<=1000000000) then Lb (bE x.F) (iq x) else Lb false (iq x))
 simp only[iq]
 refine ae (fun h=>cg ?_) (fun h=>cg ?_)<;>grind
def af2:=bW (α:=List aI) (q1 (qL .aE)) [.ro] (fun _=>[]) (fun l=>⟨[dO (dt l)],[],[]⟩)
def J2(l:List aI):Int×Unit->Prop:=fun(i,_)=>0<=i/\i<=l.length/\l.length<=30/\∀j:Nat,(j:Int)<i->jL l j=true
def Jl(l:List aI):Int×Unit->Nat:=fun(i,_)=>l.length-i.toNat
def aqg:AX af2:=fun l=>bS [(4,aT [iI 10] (fun _=>J2 l) (Jl l))]
def apu:HH:=hF af2 func37 [ao0] aqg fun(l:List aI) hp hb=>by
 clear hp hb
 apply vE (let x0:=(l.length:Int);let q0:=Lb false (dt l);bif decide (x0>30) then q0 else J2 l (0,())/\∀(y:Int×PUnit),let x2:=Int.toNat (wrap i64 (y.1-1));let x1:=(l.getD x2 cC).At;let q1:=(wrap i64 (y.1+1),());let q2:=J2 l q1/\Jl l q1<Jl l y;J2 l y->bif decide (y.1<x0) then 0<=y.1/\y.1.toNat<l.length/\bif !iq (l.getD y.1.toNat cC) then q0 else bif decide (y.1>0) then 0<=wrap i64 (y.1-1)/\x2<l.length/\bif decide (x1>(l.getD y.1.toNat cC).At) then q0 else q2 else q2 else Lb true (dt l))
 dsimp only
 refine ae (fun h=>bD ?_) (fun h=>⟨⟨by omega,by omega,by have h:=yF h;omega,by intro j hj;omega⟩,?_⟩)
 ·have h:=yT h;simp only[dt];rw[decide_eq_false (by omega)];rfl
 rintro⟨i,⟨⟩⟩ ⟨h1,h2,h3,hR⟩
 simp only
 refine ae ?_ ?_<;>intro hc
 ·have hc:=yT hc
  have hN:jL l i.toNat=false->dt l=false:=fun h=>by
   have hf:allI l.length (jL l)=false:=g_ (j:=i.toNat) (by omega) h
   simp only[dt,hf];simp
  simp(disch:=omega) only[wrap_i64]
  have e1:(i-1).toNat=i.toNat-1:=by omega
  simp only[e1]
  refine⟨by omega,by omega,ae (fun h=>bD (hN ?_)) (fun h=>ae (fun h'=>⟨by have:=yT h';omega,by have:=yT h';omega,ae (fun pg=>bD (hN ?_)) (fun pg=>⟨⟨by omega,by omega,h3,gh h1 hR ?_⟩,?_⟩)⟩) (fun h'=>⟨⟨by omega,by omega,h3,gh h1 hR ?_⟩,?_⟩))⟩
  all_goals (first|(simp only[Jl];omega)|(simp only[jL];grind))
 ·have hc:=yF hc
  have hA:allI l.length (jL l)=true:=iG fun j hj=>hR j (by omega)
  refine cg ?_
  simp only[dt,hA];grind
def af9:=bW (α:=List aI) (q1 (qL .aE)) [.ro] (fun _=>[]) (fun l=>⟨[dO (dt l)],[],[]⟩)
def J'(l:List aI):Int×Unit->Prop:=fun(i,_)=>0<=i/\i<=l.length/\∀j:Nat,(j:Int)<i->jL l j=true
def Jr(l:List aI):Int×Unit->Nat:=fun(i,_)=>l.length-i.toNat
def aqn:AX af9:=fun l=>bS [(2,aT [iI 3] (fun _=>J' l) (Jr l))]
def ahH:HH:=hF af9 func29 [ahA] aqn fun(l:List aI) hp hb=>by
 have jQ:L9 l.length:=kG (hb _ m0)
 clear hp hb
 apply vE (let x0:=(l.length:Int);J' l (0,())/\∀(y:Int×PUnit),let x2:=Int.toNat (wrap i64 (y.1-1));let x1:=(l.getD x2 cC).At;let q0:=(wrap i64 (y.1+1),());let q1:=J' l q0/\Jr l q0<Jr l y;J' l y->bif decide (y.1<x0) then 0<=y.1/\y.1.toNat<l.length/\bif !iq (l.getD y.1.toNat cC) then Lb false (dt l) else bif decide (y.1>0) then 0<=wrap i64 (y.1-1)/\x2<l.length/\0<=y.1/\y.1.toNat<l.length/\bif decide (x1>(l.getD y.1.toNat cC).At) then Lb false (dt l) else q1 else q1 else Lb (decide (x0<=30)) (dt l))
 dsimp only
 refine⟨⟨by omega,by omega,by intro j hj;omega⟩,?_⟩
 rintro⟨i,⟨⟩⟩ ⟨h1,h2,hR⟩
 simp only
 refine ae ?_ ?_<;>intro hc
 ·have hc:=yT hc
  have hN:jL l i.toNat=false->dt l=false:=fun h=>by
   have hf:allI l.length (jL l)=false:=g_ (j:=i.toNat) (by omega) h
   simp only[dt,hf];simp
  simp(disch:=omega) only[wrap_i64]
  have e1:(i-1).toNat=i.toNat-1:=by omega
  simp only[e1]
  refine⟨by omega,by omega,ae (fun h=>bD (hN ?_)) (fun h=>ae (fun h'=>⟨by have:=yT h';omega,by have:=yT h';omega,by omega,by omega,ae (fun pg=>bD (hN ?_)) (fun pg=>⟨⟨by omega,by omega,gh h1 hR ?_⟩,?_⟩)⟩) (fun h'=>⟨⟨by omega,by omega,gh h1 hR ?_⟩,?_⟩))⟩
  all_goals (first|(simp only[Jr];omega)|(simp only[jL];grind))
 ·have hc:=yF hc
  have hA:allI l.length (jL l)=true:=iG fun j hj=>hR j (by omega)
  refine cg ?_
  simp only[dt,hA];grind
def jO(n:Nat)(p:Nat->Bool):Int:=match(List.range n).find? p with|some i=>i|none=> -1
def anyI(n:Nat)(p:Nat->Bool):Bool:=(List.range n).any p
theorem gx{n i:Nat}{p:Nat->Bool}(h:i<n)(hp:p i=true)(hj:∀j,j<i->p j=false):jO n p=i:=by
 have:(List.range n).find? p=some i:=by
  rw[List.find?_range_eq_some]
  exact⟨hp,pR.2 h,fun j uA=>by simp[hj j uA]⟩
 simp[jO,this]
theorem jx{n:Nat}{p:Nat->Bool}(hj:∀j,j<n->p j=false):jO n p= -1:=by
 have:(List.range n).find? p=none:=by
  rw[zeb]
  intro j uA
  simp[hj j (pR.1 uA)]
 simp[jO,this]
theorem ik(n:Nat)(p:Nat->Bool):(jO n p= -1/\∀j,j<n->p j=false)\/∃i,i<n/\jO n p=(i:Int)/\p i=true/\∀j,j<i->p j=false:=by
 cases h:(List.range n).find? p with
 |none=>
  refine .inl ⟨by simp[jO,h],fun j hj=> ?_⟩
  have:=zeb.1 h j (pR.2 hj)
  simpa using this
 |some i=>
  rw[List.find?_range_eq_some] at h
  obtain⟨h1,h2,h3⟩:=h
  exact .inr ⟨i,pR.1 h2,gx (pR.1 h2) h1 (fun j hj=>by simpa using h3 j hj),h1,fun j hj=>by simpa using h3 j hj⟩
theorem tp{n:Nat}{p q:Nat->Bool}(h:∀j,j<n->p j=q j):jO n p=jO n q:=by
 rcases ik n q with⟨h1,h2⟩|⟨i,h1,h2,h3,h4⟩
 ·rw[h1,jx (fun j hj=>by rw[h j hj,h2 j hj])]
 ·rw[h2,gx h1 (by rw[h i h1,h3]) (fun j hj=>by rw[h j (by omega),h4 j hj])]
theorem iF{n j:Nat}{p:Nat->Bool}(h:j<n)(hp:p j=true):anyI n p=true:=by
 simp only[anyI,vD,pR]
 exact⟨j,h,hp⟩
theorem gz{n:Nat}{p:Nat->Bool}(h:∀j,j<n->p j=false):anyI n p=false:=by
 simp only[anyI,List.any_eq_false,pR]
 exact fun j hj=>by simp[h j hj]
theorem zo{n:Nat}{p:Nat->Bool}:anyI n p=true↔∃j,j<n/\p j=true:=by
 simp only[anyI,vD,pR]
theorem oT{n:Nat}{p:Nat->Bool}:anyI n p=false↔∀j,j<n->p j=false:=by
 simp only[anyI,List.any_eq_false,pR,wI]
theorem zr{n:Nat}{p:Nat->Bool}:allI n p=true↔∀j,j<n->p j=true:=by
 simp only[allI,sP,pR]
theorem n_{n:Nat}{p q:Nat->Bool}(h:∀j,j<n->p j=q j):anyI n p=anyI n q:=by
 rw[Gd,zo,zo]
 exact⟨fun⟨j,h1,h2⟩=>⟨j,h1,by rw[<-h j h1];exact h2⟩,fun⟨j,h1,h2⟩=>⟨j,h1,by rw[h j h1];exact h2⟩⟩
theorem Cb{n:Nat}{p:Nat->Bool}:decide (0<=jO n p)=anyI n p:=by
 rcases ik n p with⟨h1,h2⟩|⟨i,h1,h2,h3,h4⟩
 ·rw[h1,gz h2];rfl
 ·rw[h2,iF h1 h3];simp
theorem getD_take{α:Type}(l:List α)(z:α){i j:Nat}(h:j<i):(l.take i).getD j z=l.getD j z:=by
 rw[eV,eV,qy,if_pos h]
theorem sA{k:ka UU}{ql:List (DV UU)}{ds:List (DA UU)}{x:k.α}{v:Value}(h:k.of (ds.map DA.dv++ql)=some x)(hv:(k.oe x).val=[.one (.lit v)])(hm:(k.oe x).Ll=[])
  (hl:k.md.length=ds.length+ql.length) (hp:∀p∈k.pre x,p):fo k ql ds=some v:=by
 unfold fo
 simp only[h,hv,hm]
 rw[if_pos ⟨hl,hp⟩]
theorem gO(a b:a_):(a.K==b.K&&(a.N==b.N&&(a.S.toList==b.S.toList&&true)))=decide (a=b):=by
 obtain⟨K,N,S⟩:=a
 obtain⟨K',N',S'⟩:=b
 simp only[aO,B6]
 rw[Gd]
 simp only[cN,beq_iff_eq,decide_eq_true_eq,a_.mk.injEq]
theorem jk{i:Int}{p:Nat->Bool}(h0:0<=i)(h:∀j:Nat,(j:Int)<i->p j=false)(hi:p i.toNat=false):∀j:Nat,(j:Int)<i+1->p j=false:=by
 intro j hj
 by_cases XH:(j:Int)<i
 ·exact h j XH
 ·have:j=i.toNat:=by omega
  subst this;exact hi
def gW(x:bp):DA UU:=⟨true,[.lit (.string x.Key),.lit (.string x.F.Kind),.sl .bf x.F.ag]⟩
def jK(l:List bp)(i:Nat):Bool:=decide (1<=(l.getD i bZ).Key.size/\(l.getD i bZ).Key.size<=200)&&bE (l.getD i bZ).F&& !(anyI i fun k=>decide ((l.getD k bZ).Key=(l.getD i bZ).Key))
def dz(l:List bp):Bool:=decide (l.length<=30)&&allI l.length (jK l)
def vk(l:List bp)(key:BA):Bool:=anyI l.length fun k=>decide ((l.getD k bZ).Key=key)
def Yh:=bW (α:=(List bp)×(List (DA UU)->Option Value)) (qC (qL .aQ) (q1 qF)) [.ro,.ro] (fun(l,p)=>[∀j:Nat,j<l.length->p [gW (l.getD j bZ)]=some (.bool (bJ (p [gW (l.getD j bZ)])))]) (fun(l,p)=>⟨[dI (jO l.length (fun j=>bJ (p [gW (l.getD j bZ)])))],[],[]⟩)
def Dx(l:List bp)(p:(List (DA UU)->Option Value)):Int×Unit->Prop:=fun(i,_)=>0<=i/\i<=l.length/\∀j:Nat,(j:Int)<i->bJ (p [gW (l.getD j bZ)])=false
def CM(l:List bp)(p:(List (DA UU)->Option Value)):Int×Unit->Nat:=fun(i,_)=>l.length-i.toNat
def ajT:AX Yh:=fun(l,p)=>bS [(2,aT [iI 8] (fun _=>Dx l p) (CM l p))]
def ais:HH:=hF Yh func201 [] ajT fun x hp hb=>by
 obtain⟨l,p⟩:=x
 have jQ:L9 l.length:=kG (hb _ m0)
 have bo:∀j:Nat,j<l.length->p [gW (l.getD j bZ)]=some (.bool (bJ (p [gW (l.getD j bZ)]))):=hp _ m0
 clear hp hb
 apply vE (Dx l p (0,())/\∀(y:Int×PUnit),let x0:=bJ (p [{agg:=true,cs:=[CS ((l.getD y.1.toNat bZ).Key),CS ((l.getD y.1.toNat bZ).F.Kind),CL .bf (l.getD y.1.toNat bZ).F.ag]:DA UU}]);let q0:=l.getD y.1.toNat bZ;let q1:=(wrap i64 (y.1+1),());Dx l p y->bif decide (y.1<(l.length:Int)) then 0<=y.1/\y.1.toNat<l.length/\p [{agg:=true,cs:=[CS (q0.Key),CS (q0.F.Kind),CL .bf q0.F.ag]:DA UU}]=some (Value.bool x0)/\bif x0 then Li y.1 (jO (l.length) fun(j:Nat)=>bJ (p [gW (l.getD j bZ)])) else Dx l p q1/\CM l p q1<CM l p y else Li (-1) (jO (l.length) fun(j:Nat)=>bJ (p [gW (l.getD j bZ)])))
 dsimp only
 refine⟨⟨by omega,by omega,by intro j hj;omega⟩,?_⟩
 rintro⟨i,⟨⟩⟩ ⟨h1,h2,hR⟩
 simp only[gW] at*
 refine ae ?_ ?_<;>intro hc
 ·have hc:=yT hc
  rw[wi]
  refine⟨by omega,by omega,bo i.toNat (by omega),ae (fun h=>nz ?_) (fun h=>⟨⟨by omega,by omega,jk (p:=fun j=>bJ (p [gW (l.getD j bZ)])) h1 hR h⟩,by simp only[CM];omega⟩)⟩
  rw[gx (i:=i.toNat) (by omega) h (fun j hj=>hR j (by omega))]
  omega
 ·have hc:=yF hc
  exact nz (jx (fun j hj=>hR j (by omega))).symm
def ag5:=bW (α:=(List bp)×(List (DA UU)->Option Value)) (qC (qL .aQ) (q1 qF)) [.ro,.ro] (fun(l,p)=>[∀j:Nat,j<l.length->p [gW (l.getD j bZ)]=some (.bool (bJ (p [gW (l.getD j bZ)])))]) (fun(l,p)=>⟨[dO (anyI l.length (fun j=>bJ (p [gW (l.getD j bZ)])))],[],[]⟩)
def aiY:HH:=hF ag5 func154 [ais] a0 fun x hp hb=>by
 obtain⟨l,p⟩:=x
 have bo:∀j:Nat,j<l.length->p [gW (l.getD j bZ)]=some (.bool (bJ (p [gW (l.getD j bZ)]))):=hp _ m0
 clear hp hb
 apply vE (let x0:=jO (l.length) fun(j:Nat)=>bJ (p [gW (l.getD j bZ)]);(∀(j:Nat),j<l.length->p [gW (l.getD j bZ)]=some (Value.bool (bJ (p [gW (l.getD j bZ)]))))/\Lb (decide (x0≥0)) (anyI (l.length) fun(j:Nat)=>bJ (p [gW (l.getD j bZ)])))
 dsimp only
 exact⟨bo,cg (by rw[<-Cb])⟩
def aom:=bW (α:=BA) (q1 qS) [.ro] (fun _=>[]) (fun s=>⟨[dO (decide (1<=s.size/\s.size<=200))],[],[]⟩)
def aoZ:HH:=hF aom func93 [A'] a0 fun(s:BA) hp hb=>by
 clear hp hb
 apply vE (Lb (decide (1<=(↑(s.size):Int)/\(↑(s.size):Int)<=200)) (decide (1<=s.size/\s.size<=200)))
 refine cg ?_
 rw[decide_eq_decide];omega
def BN:ka UU where
 α:=bp×BA
 md:=[.ro,.ro]
 of:=fun|[.agg [.lit (.string a0),.lit (.string a1),.sl .bf a2],.ptr [.lit (.string a3)]]=>some (⟨a0,⟨a1,a2⟩⟩,a3)|_=>none
 ds:=fun(x,c)=>[.agg [.lit (.string x.Key),.lit (.string x.F.Kind),.sl .bf x.F.ag],.ptr [.lit (.string c)]]
 pre:=fun(x,c)=>[]
 oe:=fun(x,c)=>⟨[.one (.lit (.bool (decide (x.Key=c))))],[],[]⟩
 law:=by intro l x h;(try simp only at h);split at h<;>cases h;rfl
def aiX:HH:=hF BN func155 [] a0 fun x hp hb=>by
 obtain⟨x,c⟩:=x
 have SO:gN (U:=UU) (.agg [.lit (.string x.Key),.lit (.string x.F.Kind),.sl .bf x.F.ag]):=hb _ (iH)
 have aex:L9 x.Key.size:=Bd.str (SO _ (by simp))
 have XC:L9 x.F.Kind.size:=Bd.str (SO _ (by simp))
 have UB:L9 x.F.ag.length:=Bd.len (U:=UU) (τ:=.bf) (xs:=x.F.ag) (SO _ (by simp))
 have aqH:gN (U:=UU) (.ptr [.lit (.string c)]):=hb _ (fF _ (iH))
 clear hp hb
 apply vE (Lb (x.Key.toList==c.toList) (decide (x.Key=c)))
 rw[aO]
 exact aY _
def aol:=bW (α:=(List bp)×BA) (qC (qL .aQ) (q1 qS)) [.ro,.ro] (fun _=>[]) (fun(l,key)=>⟨[dO (vk l key)],[],[]⟩)
def aoY:HH:=hF aol func94 [aiY,aiX] a0 fun x hp hb=>by
 obtain⟨l,key⟩:=x
 clear hp hb
 apply vE ((∀(j:Nat),j<l.length->fo BN [DV.ptr [CS key]] [gW (l.getD j bZ)]=some (Value.bool (bJ (fo BN [DV.ptr [CS key]] [gW (l.getD j bZ)]))))/\Lb (anyI (l.length) fun(j:Nat)=>bJ (fo BN [DV.ptr [CS key]] [gW (l.getD j bZ)])) (vk l key))
 have hc:∀x:bp,fo BN [.ptr [.lit (.string key)]] [gW x]=some (.bool (decide (x.Key=key))):=fun x=>sA (x:=(x,key)) rfl rfl rfl rfl (by simp[BN])
 refine⟨fun j hj=> ?_,cg ?_⟩
 ·show fo BN [.ptr [.lit (.string key)]] [gW (l.getD j bZ)]=_
  rw[hc];rfl
 ·exact n_ fun j hj=>by
   show bJ (fo BN [.ptr [.lit (.string key)]] [gW (l.getD j bZ)])=_
   rw[hc];rfl
def af1:=bW (α:=List bp) (q1 (qL .aQ)) [.ro] (fun _=>[]) (fun l=>⟨[dO (dz l)],[],[]⟩)
def J1(l:List bp):Int×Unit->Prop:=fun(i,_)=>0<=i/\i<=l.length/\l.length<=30/\∀j:Nat,(j:Int)<i->jK l j=true
def A1(l:List bp):Int×Unit->Nat:=fun(i,_)=>l.length-i.toNat
def aqf:AX af1:=fun l=>bS [(4,aT [iI 10] (fun _=>J1 l) (A1 l))]
def apt:HH:=hF af1 func38 [aoZ,QH,aoY] aqf fun(l:List bp) hp hb=>by
 clear hp hb
 apply vE (let x0:=(l.length:Int);let x1:=Option.getD none (0:Int);let q0:=Lb false (dz l);bif decide (x0>30) then q0 else J1 l (0,())/\∀(y:Int×PUnit),let x2:=Option.getD (some y.1) x0;let q1:=l.getD y.1.toNat bZ;let q2:=(wrap i64 (y.1+1),());J1 l y->bif decide (y.1<x0) then 0<=y.1/\y.1.toNat<l.length/\bif !decide (1<=q1.Key.size/\q1.Key.size<=200) then q0 else bif !bE q1.F then q0 else 0<=x1/\x1<=x2/\x2<=x0/\bif vk ((l.take x2.toNat).drop x1.toNat) q1.Key then q0 else J1 l q2/\A1 l q2<A1 l y else Lb true (dz l))
 dsimp only
 refine ae (fun h=>bD ?_) (fun h=>⟨⟨by omega,by omega,by have h:=yF h;omega,by intro j hj;omega⟩,?_⟩)
 ·have h:=yT h;simp only[dz];rw[decide_eq_false (by omega)];rfl
 rintro⟨i,⟨⟩⟩ ⟨h1,h2,h3,hR⟩
 simp only
 refine ae ?_ ?_<;>intro hc
 ·have hc:=yT hc
  have hN:jK l i.toNat=false->dz l=false:=fun h=>by
   have hf:allI l.length (jK l)=false:=g_ (j:=i.toNat) (by omega) h
   simp only[dz,hf];simp
  have hk:vk ((l.take i.toNat).drop (Int.toNat 0)) (l.getD i.toNat bZ).Key=anyI i.toNat fun k=>decide ((l.getD k bZ).Key=(l.getD i.toNat bZ).Key):=by
   show anyI _ _=_
   have e:(l.take i.toNat).length=i.toNat:=by rw[oq];omega
   rw[show Int.toNat 0=0 from rfl,List.drop_zero,e]
   exact n_ fun j hj=>by rw[getD_take l bZ hj]
  simp only[QY,Gi,hk]
  simp(disch:=omega) only[wrap_i64]
  have hm:A1 l (i+1,PUnit.unit)<A1 l (i,()):=by simp only[A1];omega
  refine⟨by omega,by omega,ae (fun h=>bD (hN ?_)) (fun h=>ae (fun h'=>bD (hN ?_)) (fun h'=>⟨by omega,by omega,by omega,ae (fun pg=>bD (hN ?_)) (fun pg=>⟨⟨by omega,by omega,h3,gh h1 hR ?_⟩,hm⟩)⟩))⟩
  all_goals (simp only[jK];grind)
 ·have hc:=yF hc
  have hA:allI l.length (jK l)=true:=iG fun j hj=>hR j (by omega)
  refine cg ?_
  simp only[dz,hA];grind
def af8:=bW (α:=List bp) (q1 (qL .aQ)) [.ro] (fun _=>[]) (fun l=>⟨[dO (dz l)],[],[]⟩)
def J9(l:List bp):Int×Unit->Prop:=fun(i,_)=>0<=i/\i<=l.length/\∀j:Nat,(j:Int)<i->jK l j=true
def A3(l:List bp):Int×Unit->Nat:=fun(i,_)=>l.length-i.toNat
def J8(l:List bp):Int×Int×Unit->Int×Int×Unit->Prop:=fun(i0,k0,_) (i,k,_)=>i=i0/\0<=k/\k<=i/\∀j:Nat,(j:Int)<k->decide ((l.getD j bZ).Key=(l.getD i.toNat bZ).Key)=false
def Jq(l:List bp):Int×Int×Unit->Nat:=fun(i,k,_)=>i.toNat-k.toNat
def aqm:AX af8:=fun l=>bS [(2,aT [iI 3] (fun _=>J9 l) (A3 l)),(7,aT [iI 3,iI 4] (J8 l) (Jq l))]
def ahG:HH:=hF af8 func30 [sK,NQ] aqm fun(l:List bp) hp hb=>by
 have jQ:L9 l.length:=kG (hb _ m0)
 clear hp hb
 apply vE (let x0:=(l.length:Int);let q0:=Lb false (dz l);J9 l (0,())/\∀(y:Int×PUnit),let q1:=l.getD y.1.toNat bZ;let q2:=(y.1,0,());J9 l y->bif decide (y.1<x0) then 0<=y.1/\y.1.toNat<l.length/\bif !decide (1<=(↑(q1.Key.size):Int)/\(↑(q1.Key.size):Int)<=200) then q0 else 0<=y.1/\y.1.toNat<l.length/\bif !bE q1.F then q0 else J8 l q2 q2/\∀(aF:Int×Int×PUnit),let x1:=aF.2.1.toNat;let q3:=(aF.1,wrap i64 (aF.2.1+1),());let q4:=(wrap i64 (aF.1+1),());J8 l q2 aF->bif decide (aF.2.1<aF.1) then 0<=aF.1/\aF.1.toNat<l.length/\0<=aF.2.1/\x1<l.length/\bif (l.getD aF.1.toNat bZ).Key.toList==(l.getD x1 bZ).Key.toList then q0 else J8 l q2 q3/\Jq l q3<Jq l aF else J9 l q4/\A3 l q4<A3 l y else Lb (decide (x0<=30)) (dz l))
 dsimp only
 refine⟨⟨by omega,by omega,by intro j hj;omega⟩,?_⟩
 rintro⟨i,⟨⟩⟩ ⟨h1,h2,hR⟩
 simp only
 refine ae ?_ ?_<;>intro hc
 ·have hc:=yT hc
  have hN:jK l i.toNat=false->dz l=false:=fun h=>by
   have hf:allI l.length (jK l)=false:=g_ (j:=i.toNat) (by omega) h
   simp only[dz,hf];simp
  have hm:A3 l (i+1,PUnit.unit)<A3 l (i,()):=by simp only[A3];omega
  refine⟨by omega,by omega,ae (fun h=>bD (hN ?_)) (fun h=>⟨by omega,by omega,ae (fun h'=>bD (hN ?_)) (fun h'=>⟨⟨rfl,by omega,by omega,by intro j hj;omega⟩,?_⟩)⟩)⟩
  ·simp only[jK];grind
  ·simp only[jK];grind
  rintro⟨i,k,⟨⟩⟩ ⟨rfl,g1,g2,gR⟩
  simp only
  refine ae ?_ ?_<;>intro hk
  ·have hk:=yT hk
   simp(disch:=omega) only[wrap_i64,aO]
   refine⟨by omega,by omega,by omega,by omega,ae (fun pg=>bD (hN ?_)) (fun pg=>⟨⟨rfl,by omega,by omega,jk g1 gR ?_⟩,by simp only[Jq];omega⟩)⟩
   ·have ha:(anyI i.toNat fun k=>decide ((l.getD k bZ).Key=(l.getD i.toNat bZ).Key))=true:=iF (j:=k.toNat) (by omega) (by grind)
    simp only[jK,ha];simp
   ·grind
  ·have hk:=yF hk
   simp(disch:=omega) only[wrap_i64]
   refine⟨⟨by omega,by omega,gh h1 hR ?_⟩,hm⟩
   have ha:(anyI i.toNat fun k=>decide ((l.getD k bZ).Key=(l.getD i.toNat bZ).Key))=false:=gz fun j hj=>gR j (by omega)
   simp only[jK,ha];grind
 ·have hc:=yF hc
  have hA:allI l.length (jK l)=true:=iG fun j hj=>hR j (by omega)
  refine cg ?_
  simp only[dz,hA];grind
def bt(l:List bp):aL:=if l=[] then uO else(l.getD (l.length-1) bZ).F
theorem KC{α:Type}(f:α->Nat)(l:List α)(n:Nat):((l.take n).map f).sum<=(l.map f).sum:=by
 have h:=congrArg (fun q=>(q.map f).sum) (Uv n l)
 simp only[Ko,Zy] at h
 omega
theorem Es(l:List bp)(n:Nat):bN (l.take n)<=bN l:=by
 have:=KC du l n
 simp only[bN,oq]
 omega
def Mp:=bW (α:=List a_) (q1 (qL .bf)) [.ro] (fun l=>[L4 l.length]) (fun l=>⟨[dL .bf l],[],[]⟩)
def Ui:AX Mp:=fun l=>bS []
def TQ:List (FuncId×ka UU):=[]
theorem ae_:BD EE TQ f172 Mp Ui [] .bf [] true=(Lf [VL .bf []] [VL .bf []]):=by kernel_rfl
theorem ae8:BD EE TQ f172 Mp Ui [] .bf [] true:=by
 rw[ae_]
 exact aY _
theorem afo:Holds EE (172,Mp):=by
 refine Ay pD func172 Mp (by kernel_rfl) rfl .bf (fun x=>x) (fun _=>rfl) TQ all_nil Ui (fun(l:List a_) hp hb=> ?_)
 have jQ:L9 l.length:=kG (hb _ m0)
 have bo:l.length<=4294967296:=hp _ m0
 clear hp hb
 refine⟨?_,fun h0=> ?_⟩
 rotate_left
 ·subst h0;exact ae8
 apply vE (0+l.length<=4294967296/\Lf [VL .bf ([]++l)] [VL .bf l])
 exact⟨by simp;omega,aY _⟩
def aiP:HH:=⟨_,afo⟩
def aoy:=bW (α:=aL) (q1 (qA .db)) [.ro] (fun f=>[L4 f.ag.length]) (fun f=>⟨[dA .db f],[],[]⟩)
def A9:HH:=hF aoy func69 [] a0 fun(f:aL) hp hb=>by
 have ey:=qq (x:=f) (hb _ m0)
 have pP:=ey.1
 have mQ:=ey.2
 have bo:f.ag.length<=4294967296:=hp _ m0
 clear hp hb
 apply vE (0+f.ag.length<=4294967296/\Lf [DV.agg [CS f.Kind,CL .bf ([]++f.ag)]] [DV.agg [CS f.Kind,CL .bf f.ag]])
 exact⟨by simp;omega,aY _⟩
def ahn:=bW (α:=aL) (q1 (qA .db)) [.ro] (fun f=>[L4 f.ag.length]) (fun f=>⟨[dA .db f],[],[]⟩)
def zV:HH:=hF ahn func114 [aiP] a0 fun(f:aL) hp hb=>by
 have bo:f.ag.length<=4294967296:=hp _ m0
 clear hp hb
 apply vE (f.ag.length<=4294967296/\Lf [DV.agg [CS f.Kind,CL .bf f.ag]] [DV.agg [CS f.Kind,CL .bf f.ag]])
 exact⟨bo,aY _⟩
def afM:=bW (α:=List aI) (q1 (qL .aE)) [.ro] (fun l=>[L4 (cy l)]) (fun l=>⟨[dL .aE l],[],[]⟩)
def JO(l:List aI):List aI×Int×Unit->Prop:=fun(out,i,_)=>0<=i/\i<=l.length/\out=l.take i.toNat
def I_(l:List aI):List aI×Int×Unit->Nat:=fun(out,i,_)=>l.length-i.toNat
def ap2:AX afM:=fun l=>bS [(3,aT [iO 3 .aE,iI 4] (fun _=>JO l) (I_ l))]
def ab8:HH:=hF afM func64 [A9] ap2 fun(l:List aI) hp hb=>by
 have bo:cy l<=4294967296:=hp _ m0
 clear hp hb
 apply vE (JO l ([],0,())/\∀(y:List aI×Int×PUnit),let x2:=y.2.1.toNat;let x1:=l.getD x2 cC;let x0:=[x1];let q0:=(y.1++x0,wrap i64 (y.2.1+1),());JO l y->bif decide (y.2.1<(l.length:Int)) then 0<=y.2.1/\x2<l.length/\0<=y.2.1/\x2<l.length/\L4 x1.F.ag.length/\L4 (y.1.length+x0.length)/\JO l q0/\I_ l q0<I_ l y else Lf [VL .aE y.1] [VL .aE l])
 dsimp only
 refine⟨⟨by omega,by omega,by simp⟩,?_⟩
 rintro⟨out,i,⟨⟩⟩ ⟨h1,h2,rfl⟩
 simp only
 refine ae ?_ ?_<;>intro hc
 ·have hc:=yT hc
  have hs:=d_ ig l cC h1 hc
  simp only[cy] at bo
  have hx:=hs
  simp only[ig,dh,eG] at hx
  rw[dl l cC h1 hc,wi]
  repeat' (first|refine And.intro (by omega) ?_|fail)
  refine⟨by simp;omega,⟨by omega,by omega,rfl⟩,by simp only[I_];omega⟩
 ·have hc:=yF hc
  rw[cA l (by omega)]
  exact aY _
def afT:=bW (α:=List aI) (q1 (qL .aE)) [.ro] (fun l=>[L4 (cy l)]) (fun l=>⟨[dL .aE l],[],[]⟩)
def JT(l:List aI):List aI×Int×Unit->Prop:=fun(out,i,_)=>0<=i/\i<=l.length/\out=l.take i.toNat
def Je(l:List aI):List aI×Int×Unit->Nat:=fun(out,i,_)=>l.length-i.toNat
def ap9:AX afT:=fun l=>bS [(3,aT [iO 3 .aE,iI 8] (fun _=>JT l) (Je l))]
def ahF:HH:=hF afT func53 [zV] ap9 fun(l:List aI) hp hb=>by
 have bo:cy l<=4294967296:=hp _ m0
 clear hp hb
 apply vE (JT l ([],0,())/\∀(y:List aI×Int×PUnit),let x2:=y.2.1.toNat;let x1:=l.getD x2 cC;let x0:=[x1];let q0:=(y.1++x0,wrap i64 (y.2.1+1),());JT l y->bif decide (y.2.1<(l.length:Int)) then 0<=y.2.1/\x2<l.length/\L4 x1.F.ag.length/\L4 (y.1.length+x0.length)/\JT l q0/\Je l q0<Je l y else Lf [VL .aE y.1] [VL .aE l])
 dsimp only
 refine⟨⟨by omega,by omega,by simp⟩,?_⟩
 rintro⟨out,i,⟨⟩⟩ ⟨h1,h2,rfl⟩
 simp only
 refine ae ?_ ?_<;>intro hc
 ·have hc:=yT hc
  have hs:=d_ ig l cC h1 hc
  simp only[cy] at bo
  have hx:=hs
  simp only[ig,dh,eG] at hx
  rw[dl l cC h1 hc,wi]
  repeat' (first|refine And.intro (by omega) ?_|fail)
  refine⟨by simp;omega,⟨by omega,by omega,rfl⟩,by simp only[Je];omega⟩
 ·have hc:=yF hc
  rw[cA l (by omega)]
  exact aY _
def afL:=bW (α:=List bp) (q1 (qL .aQ)) [.ro] (fun l=>[L4 (bN l)]) (fun l=>⟨[dL .aQ l],[],[]⟩)
def JN(l:List bp):List bp×Int×Unit->Prop:=fun(out,i,_)=>0<=i/\i<=l.length/\out=l.take i.toNat
def I'(l:List bp):List bp×Int×Unit->Nat:=fun(out,i,_)=>l.length-i.toNat
def ap1:AX afL:=fun l=>bS [(3,aT [iO 3 .aQ,iI 4] (fun _=>JN l) (I' l))]
def ab7:HH:=hF afL func65 [A9] ap1 fun(l:List bp) hp hb=>by
 have bo:bN l<=4294967296:=hp _ m0
 clear hp hb
 apply vE (JN l ([],0,())/\∀(y:List bp×Int×PUnit),let x2:=y.2.1.toNat;let x1:=l.getD x2 bZ;let x0:=[x1];let q0:=(y.1++x0,wrap i64 (y.2.1+1),());JN l y->bif decide (y.2.1<(l.length:Int)) then 0<=y.2.1/\x2<l.length/\0<=y.2.1/\x2<l.length/\L4 x1.F.ag.length/\L4 (y.1.length+x0.length)/\JN l q0/\I' l q0<I' l y else Lf [VL .aQ y.1] [VL .aQ l])
 dsimp only
 refine⟨⟨by omega,by omega,by simp⟩,?_⟩
 rintro⟨out,i,⟨⟩⟩ ⟨h1,h2,rfl⟩
 simp only
 refine ae ?_ ?_<;>intro hc
 ·have hc:=yT hc
  have hs:=d_ du l bZ h1 hc
  simp only[bN] at bo
  have hx:=hs
  simp only[du,dh,eG] at hx
  rw[dl l bZ h1 hc,wi]
  repeat' (first|refine And.intro (by omega) ?_|fail)
  refine⟨by simp;omega,⟨by omega,by omega,rfl⟩,by simp only[I'];omega⟩
 ·have hc:=yF hc
  rw[cA l (by omega)]
  exact aY _
def afS:=bW (α:=List bp) (q1 (qL .aQ)) [.ro] (fun l=>[L4 (bN l)]) (fun l=>⟨[dL .aQ l],[],[]⟩)
def JS(l:List bp):List bp×Int×Unit->Prop:=fun(out,i,_)=>0<=i/\i<=l.length/\out=l.take i.toNat
def Jd(l:List bp):List bp×Int×Unit->Nat:=fun(out,i,_)=>l.length-i.toNat
def ap8:AX afS:=fun l=>bS [(3,aT [iO 3 .aQ,iI 8] (fun _=>JS l) (Jd l))]
def ahE:HH:=hF afS func54 [zV] ap8 fun(l:List bp) hp hb=>by
 have bo:bN l<=4294967296:=hp _ m0
 clear hp hb
 apply vE (JS l ([],0,())/\∀(y:List bp×Int×PUnit),let x2:=y.2.1.toNat;let x1:=l.getD x2 bZ;let x0:=[x1];let q0:=(y.1++x0,wrap i64 (y.2.1+1),());JS l y->bif decide (y.2.1<(l.length:Int)) then 0<=y.2.1/\x2<l.length/\L4 x1.F.ag.length/\L4 (y.1.length+x0.length)/\JS l q0/\Jd l q0<Jd l y else Lf [VL .aQ y.1] [VL .aQ l])
 dsimp only
 refine⟨⟨by omega,by omega,by simp⟩,?_⟩
 rintro⟨out,i,⟨⟩⟩ ⟨h1,h2,rfl⟩
 simp only
 refine ae ?_ ?_<;>intro hc
 ·have hc:=yT hc
  have hs:=d_ du l bZ h1 hc
  simp only[bN] at bo
  have hx:=hs
  simp only[du,dh,eG] at hx
  rw[dl l bZ h1 hc,wi]
  repeat' (first|refine And.intro (by omega) ?_|fail)
  refine⟨by simp;omega,⟨by omega,by omega,rfl⟩,by simp only[Jd];omega⟩
 ·have hc:=yF hc
  rw[cA l (by omega)]
  exact aY _
def agI:=bW (α:=List bp) (q1 (qL .aQ)) [.ro] (fun l=>[L4 (bN l)]) (fun l=>⟨[dA .db (bt l),dO (decide (¬l=[]))],[],[]⟩)
def aik:HH:=hF agI func211 [A9] a0 fun(l:List bp) hp hb=>by
 have bo:bN l<=4294967296:=hp _ m0
 clear hp hb
 apply vE (let x3:=wrap i64 ((l.length:Int)-1);let x2:=x3.toNat;let x1:=(l.getD x2 bZ).F;let x0:=x1.ag;bif (l.length:Int)==0 then Lf [DV.agg [CS ({data:= #[]:BA}),CL .bf []],VB false] [DV.agg [CS ((bt l).Kind),CL .bf (bt l).ag],VB (decide ¬l=[])] else 0<=x3/\x2<l.length/\L4 x0.length/\Lf [DV.agg [CS x1.Kind,CL .bf x0],VB true] [DV.agg [CS ((bt l).Kind),CL .bf (bt l).ag],VB (decide ¬l=[])])
 dsimp only
 by_cases hl:l=[]
 ·subst hl;exact aY _
 ·have h0:0<l.length:=List.length_pos_iff.2 hl
  have h1:(l.length-1:Int).toNat=l.length-1:=by omega
  have hs:=d_ du l bZ (i:=l.length-1) (by omega) (by omega)
  simp only[bN] at bo
  rw[h1] at hs
  have hx:=hs
  simp only[du,dh,eG] at hx
  rw[wi,h1]
  refine ae (fun h=>absurd h (by simp;omega)) (fun h=> ?_)
  repeat' (first|refine And.intro (by omega) ?_|fail)
  simp only[bt,if_neg hl,decide_not,hl]
  exact aY _
def agX:=bW (α:=List bp) (q1 (qL .aQ)) [.ro] (fun l=>[L4 (bN l)]) (fun l=>⟨[dA .db (bt l),dO (decide (¬l=[]))],[],[]⟩)
def aiJ:HH:=hF agX func178 [zV] a0 fun(l:List bp) hp hb=>by
 have bo:bN l<=4294967296:=hp _ m0
 clear hp hb
 apply vE (let x3:=wrap i64 ((l.length:Int)-1);let x2:=x3.toNat;let x1:=(l.getD x2 bZ).F;let x0:=x1.ag;bif (l.length:Int)==0 then Lf [DV.agg [CS ({data:= #[]:BA}),CL .bf []],VB false] [DV.agg [CS ((bt l).Kind),CL .bf (bt l).ag],VB (decide ¬l=[])] else 0<=x3/\x2<l.length/\L4 x0.length/\Lf [DV.agg [CS x1.Kind,CL .bf x0],VB true] [DV.agg [CS ((bt l).Kind),CL .bf (bt l).ag],VB (decide ¬l=[])])
 dsimp only
 by_cases hl:l=[]
 ·subst hl;exact aY _
 ·have h0:0<l.length:=List.length_pos_iff.2 hl
  have h1:(l.length-1:Int).toNat=l.length-1:=by omega
  have hs:=d_ du l bZ (i:=l.length-1) (by omega) (by omega)
  simp only[bN] at bo
  rw[h1] at hs
  have hx:=hs
  simp only[du,dh,eG] at hx
  rw[wi,h1]
  refine ae (fun h=>absurd h (by simp;omega)) (fun h=> ?_)
  repeat' (first|refine And.intro (by omega) ?_|fail)
  simp only[bt,if_neg hl,decide_not,hl]
  exact aY _
def agT:=bW (α:=List bp) (q1 (qL .aQ)) [.ro] (fun l=>[L4 (bN l)]) (fun l=>⟨[dL .aQ (l.take (l.length-1))],[],[]⟩)
def aiD:HH:=hF agT func184 [ab7] a0 fun(l:List bp) hp hb=>by
 have jQ:L9 l.length:=kG (hb _ m0)
 have bo:bN l<=4294967296:=hp _ m0
 clear hp hb
 apply vE (let x1:=(l.length:Int);let x0:=Option.getD (some (wrap i64 (x1-1))) x1;L4 (bN l)/\bif decide (x1>0) then 0<=Option.getD none (0:Int)/\Option.getD none (0:Int)<=x0/\x0<=x1/\Nat.le x0.toNat (l.length)/\Lf [VL .aQ (l.take x0.toNat)] [VL .aQ (l.take (l.length-1))] else Lf [VL .aQ l] [VL .aQ (l.take (l.length-1))])
 dsimp only
 refine⟨bo,ae (fun h=> ?_) (fun h=> ?_)⟩
 ·have h:=yT h
  simp only[QY,Gi]
  rw[wi]
  have h1:(l.length-1:Int).toNat=l.length-1:=by omega
  rw[h1]
  refine⟨by omega,by omega,by omega,Nat.sub_le _ _,aY _⟩
 ·have h:=yF h
  have h0:l=[]:=List.length_eq_zero_iff.1 (by omega)
  subst h0
  exact aY _
def ahj:=bW (α:=List bp) (q1 (qL .aQ)) [.ro] (fun l=>[L4 (bN l)]) (fun l=>⟨[dL .aQ (l.take (l.length-1))],[],[]⟩)
def ajh:HH:=hF ahj func121 [ahE] a0 fun(l:List bp) hp hb=>by
 have jQ:L9 l.length:=kG (hb _ m0)
 have bo:bN l<=4294967296:=hp _ m0
 clear hp hb
 apply vE (let x1:=wrap i64 ((l.length:Int)-1);let x3:=Option.getD none (0:Int);let x0:=Option.getD (some (if 0>x1 then 0 else x1)) (l.length:Int);let x2:=(l.take x0.toNat).drop x3.toNat;0<=x3/\x3<=x0/\x0<=(l.length:Int)/\L4 (bN x2)/\Lf [VL .aQ x2] [VL .aQ (l.take (l.length-1))])
 dsimp only
 simp only[QY,Gi]
 rw[wi]
 have h1:(if(0:Int)>(l.length:Int)-1 then(0:Int) else(l.length:Int)-1).toNat=l.length-1:=by split<;>omega
 rw[h1]
 have h2:=Es l (l.length-1)
 refine⟨by omega,by split<;>omega,by split<;>omega,?_,aY _⟩
 show bN (l.take (l.length-1))<=4294967296
 omega
def fA(s:BA):Bool:=decide (s=ai)||bu s
def gp(t:ao):Bool:=bE t.F&&fA t.aW&&decide (1<=t.State/\t.State<=4)&&decide (0<=t.bh/\t.bh<=4)&&decide (0<=t.iz/\t.iz<=1000001000)&&(decide (t.V=dK)||bR t.V)&&decide ((t.State=1->t.bh=0)/\(t.State=2->t.bh≠0))
def jM(l:List ao)(i:Nat):Bool:=gp (l.getD i aC)&& !(anyI i fun k=>decide ((l.getD k aC).F=(l.getD i aC).F))
def aN(l:List ao):Bool:=decide (l.length<=30)&&allI l.length (jM l)
def placeOf(l:List ao)(f:aL):Int:=jO l.length fun k=>decide ((l.getD k aC).F=f)
def jw(t:ao):Bool:=decide (t.State=1\/t.State=2)
def gG(t:ao):ao:=if t.State=1\/t.State=2 then⟨t.F,t.aW,4,t.bh,t.iz,t.V⟩ else t
def giveUp(l:List ao):List ao:=l.map gG
def cn(x:ao):DA UU:=⟨true,[.lit (.string x.F.Kind),.sl .bf x.F.ag,.lit (.string x.aW),.lit (.int .i64 x.State),.lit (.int .i64 x.bh),.lit (.int .i64 x.iz),.lit (.int .i64 x.V.K),.lit (.int .i64 x.V.N),.lit (.string x.V.S)]⟩
theorem LN{a b:aL}:a=b↔a.Kind=b.Kind/\a.ag=b.ag:=by
 obtain⟨k,f⟩:=a;obtain⟨k',f'⟩:=b;simp
theorem yC{α:Type}(f:α->α)(l:List α)(z:α){i:Int}(F:α->α)(h0:0<=i)(h:i<l.length)(hF:F (l.getD i.toNat z)=f (l.getD i.toNat z)):
  ((l.map f).take i.toNat++l.drop i.toNat).modify i.toNat F=(l.map f).take (i+1).toNat++l.drop (i+1).toNat:=by
 have hn:i.toNat<l.length:=by omega
 have e:(i+1).toNat=i.toNat+1:=by omega
 have ht:((l.map f).take i.toNat).length=i.toNat:=by rw[oq,wP];omega
 rw[Nf _ z,yA _ l z ht h0 h,hF,e_ l z h0 h,List.set_append_right _ _ (by rw[ht];exact uh _),ht,Zw,List.set_cons_zero,e,zcz (by simpa using hn),xU,List.getElem_map]
 rw[eV,fE hn]
 rfl
theorem yB{α:Type}(f:α->α)(l:List α)(z:α){i:Int}(h0:0<=i)(h:i<l.length)(hF:l.getD i.toNat z=f (l.getD i.toNat z)):
  (l.map f).take i.toNat++l.drop i.toNat=(l.map f).take (i+1).toNat++l.drop (i+1).toNat:=by
 rw[<-yC f l z (fun x=>x) h0 h hF]
 have:∀(m:List α)(n:Nat),m.modify n (fun x=>x)=m:=by
  intro m n
  refine Uu fun j=> ?_
  rw[Zz]
  cases m[j]? <;>simp
 rw[this]
theorem Ca{α:Type}(f:α->α)(l:List α){i:Int}(h0:0<=i)(h:i<=l.length):((l.map f).take i.toNat++l.drop i.toNat).length=l.length:=by
 rw[kF,oq,wP,My];omega
theorem Ik{α:Type}(f:α->α)(l:List α){i:Int}(h0:0<=i)(h:i<=l.length):((l.map f).take i.toNat).length=i.toNat:=by
 rw[oq,wP];omega
theorem yD{α:Type}(f:α->α)(l:List α){i:Int}(h:l.length<=i):(l.map f).take i.toNat++l.drop i.toNat=l.map f:=by
 rw[List.drop_eq_nil_of_le (by omega),uJ,Ut (by rw[wP];omega)]
def YH:=bW (α:=(List a_)×(List a_)) (qC (qL .bf) (q1 (qL .bf))) [.ro,.ro] (fun _=>[]) (fun(a,b)=>⟨[dO (decide (a=b))],[],[]⟩)
def zR(a:List a_)(b:List a_):Int×Unit->Prop:=fun(i,_)=>0<=i/\i<=a.length/\a.length=b.length/\(a.drop i.toNat=b.drop i.toNat↔a=b)
def C6(a:List a_)(b:List a_):Int×Unit->Nat:=fun(i,_)=>a.length-i.toNat
def aki:AX YH:=fun(a,b)=>bS [(4,aT [iI 5] (fun _=>zR a b) (C6 a b))]
def ai7:HH:=hF YH func140 [] aki fun x hp hb=>by
 obtain⟨a,b⟩:=x
 have Ns:L9 a.length:=kG (hb _ m0)
 have Nr:L9 b.length:=kG (hb _ m1)
 clear hp hb
 apply vE (bif (a.length:Int) !=(b.length:Int) then Lb false (decide (a=b)) else zR a b (0,())/\∀(y:Int×PUnit),let x0:=a.getD y.1.toNat dK;let x1:=b.getD y.1.toNat dK;let q0:=(wrap i64 (y.1+1),());zR a b y->bif decide (y.1<(a.length:Int)) then 0<=y.1/\y.1.toNat<a.length/\0<=y.1/\y.1.toNat<b.length/\bif !(x0.K==x1.K&&(x0.N==x1.N&&(x0.S.toList==x1.S.toList&&true))) then Lb false (decide (a=b)) else zR a b q0/\C6 a b q0<C6 a b y else Lb true (decide (a=b)))
 dsimp only
 refine ae (fun h=>mL ?_) (fun h=>⟨?_,?_⟩)
 ·rintro rfl;simp at h
 ·simp[zR] at*;omega
 rintro⟨i,⟨⟩⟩ ⟨h1,h2,h3,hR⟩
 simp only at*
 refine ae ?_ ?_<;>intro hc
 ·have hc:i<a.length:=by simpa using hc
  rw[e_ a dK h1 hc,e_ b dK h1 (by omega)] at hR
  rw[wi]
  simp only[gO]
  refine⟨by omega,by omega,by omega,by omega,ae (fun h=>mL ?_) (fun h=>⟨⟨by omega,by omega,h3,?_⟩,?_⟩)⟩
  ·rw[<-hR];simp at h;simp[h]
  ·rw[<-hR];simp at h;simp[h]
  ·simp only[C6];omega
 ·have hc:a.length<=i:=by simpa using hc
  rw[cz a hc,cz b (by omega)] at hR
  exact Mv (hR.1 rfl)
def afE:=bW (α:=(List a_)×(List a_)) (qC (qL .bf) (q1 (qL .bf))) [.ro,.ro] (fun _=>[]) (fun(a,b)=>⟨[dO (decide (a=b))],[],[]⟩)
def F6(a:List a_)(b:List a_):Int×Unit->Prop:=fun(i,_)=>0<=i/\i<=a.length/\a.length=b.length/\(a.drop i.toNat=b.drop i.toNat↔a=b)
def I5(a:List a_)(b:List a_):Int×Unit->Nat:=fun(i,_)=>a.length-i.toNat
def apU:AX afE:=fun(a,b)=>bS [(4,aT [iI 13] (fun _=>F6 a b) (I5 a b))]
def ao8:HH:=hF afE func74 [] apU fun x hp hb=>by
 obtain⟨a,b⟩:=x
 have Ns:L9 a.length:=kG (hb _ m0)
 have Nr:L9 b.length:=kG (hb _ m1)
 clear hp hb
 apply vE (bif (a.length:Int) !=(b.length:Int) then Lb false (decide (a=b)) else F6 a b (0,())/\∀(y:Int×PUnit),let x0:=b.getD y.1.toNat dK;let x1:=a.getD y.1.toNat dK;let q0:=(wrap i64 (y.1+1),());F6 a b y->bif decide (y.1<(a.length:Int)) then 0<=y.1/\y.1.toNat<a.length/\0<=y.1/\y.1.toNat<b.length/\bif !(x1.K==x0.K&&(x1.N==x0.N&&(x1.S.toList==x0.S.toList&&true))) then Lb false (decide (a=b)) else F6 a b q0/\I5 a b q0<I5 a b y else Lb true (decide (a=b)))
 dsimp only
 refine ae (fun h=>mL ?_) (fun h=>⟨?_,?_⟩)
 ·rintro rfl;simp at h
 ·simp[F6] at*;omega
 rintro⟨i,⟨⟩⟩ ⟨h1,h2,h3,hR⟩
 simp only at*
 refine ae ?_ ?_<;>intro hc
 ·have hc:i<a.length:=by simpa using hc
  rw[e_ a dK h1 hc,e_ b dK h1 (by omega)] at hR
  rw[wi]
  simp only[gO]
  refine⟨by omega,by omega,by omega,by omega,ae (fun h=>mL ?_) (fun h=>⟨⟨by omega,by omega,h3,?_⟩,?_⟩)⟩
  ·rw[<-hR];simp at h;simp[h]
  ·rw[<-hR];simp at h;simp[h]
  ·simp only[I5];omega
 ·have hc:a.length<=i:=by simpa using hc
  rw[cz a hc,cz b (by omega)] at hR
  exact Mv (hR.1 rfl)
def aou:=bW (α:=aL×aL) (qC (qA .db) (q1 (qA .db))) [.ro,.ro] (fun _=>[]) (fun(a,b)=>⟨[dO (decide (a=b))],[],[]⟩)
def NP:HH:=hF aou func81 [ai7] a0 fun x hp hb=>by
 obtain⟨a,b⟩:=x
 clear hp hb
 apply vE (bif a.Kind.toList==b.Kind.toList then Lb (decide (a.ag=b.ag)) (decide (a=b)) else Lb false (decide (a=b)))
 simp only[aO]
 refine ae (fun h=>cg ?_) (fun h=>cg ?_)<;>(simp only[LN];grind)
def aoK:=bW (α:=aL×aL) (qC (qA .db) (q1 (qA .db))) [.ro,.ro] (fun _=>[]) (fun(a,b)=>⟨[dO (decide (a=b))],[],[]⟩)
def TX:HH:=hF aoK func25 [ao8] a0 fun x hp hb=>by
 obtain⟨a,b⟩:=x
 clear hp hb
 apply vE (bif a.Kind.toList==b.Kind.toList then Lb (decide (a.ag=b.ag)) (decide (a=b)) else Lb false (decide (a=b)))
 simp only[aO]
 refine ae (fun h=>cg ?_) (fun h=>cg ?_)<;>(simp only[LN];grind)
def ahb:=bW (α:=BA) (q1 qS) [.ro] (fun _=>[]) (fun s=>⟨[dO (fA s)],[],[]⟩)
def ai8:HH:=hF ahb func138 [Mq] a0 fun(s:BA) hp hb=>by
 clear hp hb
 apply vE (bif s.toList==ByteArray.toList {data:= #[]:BA} then Lb true (fA s) else Lb (bu s) (fA s))
 have e:(s.toList==ByteArray.toList {data:= #[]})=decide (s=ai):=aO _ _
 simp only[e,fA]
 refine ae (fun h=>cg ?_) (fun h=>cg ?_)<;>grind
def ag6:=bW (α:=BA) (q1 qS) [.ro] (fun _=>[]) (fun s=>⟨[dO (fA s)],[],[]⟩)
def Ud:HH:=hF ag6 func152 [QI] a0 fun(s:BA) hp hb=>by
 clear hp hb
 apply vE (bif s.toList==ByteArray.toList {data:= #[]:BA} then Lb true (fA s) else Lb (bu s) (fA s))
 have e:(s.toList==ByteArray.toList {data:= #[]})=decide (s=ai):=aO _ _
 simp only[e,fA]
 refine ae (fun h=>cg ?_) (fun h=>cg ?_)<;>grind
def aov:=bW (α:=ao) (q1 (qA .az)) [.ro] (fun _=>[]) (fun t=>⟨[dO (gp t)],[],[]⟩)
def ao5:HH:=hF aov func80 [NQ,ai8,sK,O5] a0 fun(t:ao) hp hb=>by
 clear hp hb
 apply vE (let q0:=bif t.State !=1 then bif t.State !=2 then Lb true (gp t) else Lb ((t.State==1)==(t.bh==0)) (gp t) else Lb ((t.State==1)==(t.bh==0)) (gp t);let q1:=Lb false (gp t);bif !bE t.F then q1 else bif !fA t.aW then q1 else bif !decide (1<=t.State/\t.State<=4) then q1 else bif !decide (0<=t.bh/\t.bh<=4) then q1 else bif !decide (0<=t.iz/\t.iz<=1000001000) then q1 else bif !(t.V.K==0&&(t.V.N==0&&(t.V.S.toList==ByteArray.toList {data:= #[]:BA}&&true))) then bif !bR t.V then q1 else q0 else q0)
 dsimp only
 have e:∀v:a_,(v.K==0&&(v.N==0&&(v.S.toList==ByteArray.toList {data:= #[]}&&true)))=decide (v=dK):=fun v=>gO v dK
 simp only[e]
 simp only[gp]
 repeat' (refine ae (fun h=> ?_) (fun h=> ?_))
 all_goals (refine cg ?_;grind)
def aop:=bW (α:=ao) (q1 (qA .az)) [.ro] (fun _=>[]) (fun t=>⟨[dO (gp t)],[],[]⟩)
def ao1:HH:=hF aop func90 [QH,Ud,A',O4] a0 fun(t:ao) hp hb=>by
 clear hp hb
 apply vE (let q0:=bif decide (0<=t.iz/\t.iz<=1000001000) then bif t.V.K==0&&(t.V.N==0&&(t.V.S.toList==ByteArray.toList {data:= #[]:BA}&&true)) then Lb true (gp t) else Lb (bR t.V) (gp t) else Lb false (gp t);let q1:=Lb false (gp t);let q2:=bif t.State==2 then bif t.bh==0 then q1 else q0 else q0;bif !bE t.F then q1 else bif !fA t.aW then q1 else bif !decide (1<=t.State/\t.State<=4) then q1 else bif !decide (0<=t.bh/\t.bh<=4) then q1 else bif t.State==1 then bif t.bh !=0 then q1 else q2 else q2)
 dsimp only
 have e:∀v:a_,(v.K==0&&(v.N==0&&(v.S.toList==ByteArray.toList {data:= #[]}&&true)))=decide (v=dK):=fun v=>gO v dK
 simp only[e]
 simp only[gp]
 repeat' (refine ae (fun h=> ?_) (fun h=> ?_))
 all_goals (refine cg ?_;grind)
def afu:=bW (α:=(List ao)×(List (DA UU)->Option Value)) (qC (qL .az) (q1 qF)) [.ro,.ro] (fun(l,p)=>[∀j:Nat,j<l.length->p [cn (l.getD j aC)]=some (.bool (bJ (p [cn (l.getD j aC)])))]) (fun(l,p)=>⟨[dI (jO l.length (fun j=>bJ (p [cn (l.getD j aC)])))],[],[]⟩)
def JB(l:List ao)(p:(List (DA UU)->Option Value)):Int×Unit->Prop:=fun(i,_)=>0<=i/\i<=l.length/\∀j:Nat,(j:Int)<i->bJ (p [cn (l.getD j aC)])=false
def IY(l:List ao)(p:(List (DA UU)->Option Value)):Int×Unit->Nat:=fun(i,_)=>l.length-i.toNat
def apK:AX afu:=fun(l,p)=>bS [(2,aT [iI 8] (fun _=>JB l p) (IY l p))]
def WV:HH:=hF afu func98 [] apK fun x hp hb=>by
 obtain⟨l,p⟩:=x
 have jQ:L9 l.length:=kG (hb _ m0)
 have bo:∀j:Nat,j<l.length->p [cn (l.getD j aC)]=some (.bool (bJ (p [cn (l.getD j aC)]))):=hp _ m0
 clear hp hb
 apply vE (JB l p (0,())/\∀(y:Int×PUnit),let x1:=l.getD y.1.toNat aC;let x0:=bJ (p [{agg:=true,cs:=[CS x1.F.Kind,CL .bf x1.F.ag,CS x1.aW,CI x1.State,CI x1.bh,CI x1.iz,CI x1.V.K,CI x1.V.N,CS x1.V.S]:DA UU}]);let q0:=(wrap i64 (y.1+1),());JB l p y->bif decide (y.1<(l.length:Int)) then 0<=y.1/\y.1.toNat<l.length/\p [{agg:=true,cs:=[CS x1.F.Kind,CL .bf x1.F.ag,CS x1.aW,CI x1.State,CI x1.bh,CI x1.iz,CI x1.V.K,CI x1.V.N,CS x1.V.S]:DA UU}]=some (Value.bool x0)/\bif x0 then Li y.1 (jO (l.length) fun(j:Nat)=>bJ (p [cn (l.getD j aC)])) else JB l p q0/\IY l p q0<IY l p y else Li (-1) (jO (l.length) fun(j:Nat)=>bJ (p [cn (l.getD j aC)])))
 dsimp only
 refine⟨⟨by omega,by omega,by intro j hj;omega⟩,?_⟩
 rintro⟨i,⟨⟩⟩ ⟨h1,h2,hR⟩
 simp only[cn] at*
 refine ae ?_ ?_<;>intro hc
 ·have hc:=yT hc
  rw[wi]
  refine⟨by omega,by omega,bo i.toNat (by omega),ae (fun h=>nz ?_) (fun h=>⟨⟨by omega,by omega,jk (p:=fun j=>bJ (p [cn (l.getD j aC)])) h1 hR h⟩,by simp only[IY];omega⟩)⟩
  rw[gx (i:=i.toNat) (by omega) h (fun j hj=>hR j (by omega))]
  omega
 ·have hc:=yF hc
  exact nz (jx (fun j hj=>hR j (by omega))).symm
def BO:ka UU where
 α:=ao×aL
 md:=[.ro,.ro]
 of:=oC (oA .az) (o1 (oP .db))
 ds:=fun x=>[dA .az x.1,dP .db x.2]
 pre:=fun _=>[]
 oe:=fun(t,f)=>⟨[dO (decide (t.F=f))],[],[]⟩
 law:=lC (lA .az) (l1 (lP .db))
def aiZ:HH:=hF BO func153 [TX] a0 fun x hp hb=>by
 obtain⟨t,f⟩:=x
 clear hp hb
 apply vE (Lb (decide (t.F=f)) (decide (t.F=f)))
 exact aY _
def aoo:=bW (α:=(List ao)×aL) (qC (qL .az) (q1 (qA .db))) [.ro,.ro] (fun _=>[]) (fun(l,f)=>⟨[dI (placeOf l f)],[],[]⟩)
def ahz:HH:=hF aoo func91 [WV,aiZ] a0 fun x hp hb=>by
 obtain⟨l,f⟩:=x
 clear hp hb
 apply vE ((∀(j:Nat),j<l.length->fo BO [DV.ptr [CS f.Kind,CL .bf f.ag]] [cn (l.getD j aC)]=some (Value.bool (bJ (fo BO [DV.ptr [CS f.Kind,CL .bf f.ag]] [cn (l.getD j aC)]))))/\Li (jO (l.length) fun(j:Nat)=>bJ (fo BO [DV.ptr [CS f.Kind,CL .bf f.ag]] [cn (l.getD j aC)])) (placeOf l f))
 have hc:∀x:ao,fo BO [.ptr [.lit (.string f.Kind),.sl .bf f.ag]] [cn x]=some (.bool (decide (x.F=f))):=fun x=>sA (x:=(x,f)) rfl rfl rfl rfl (by simp[BO])
 refine⟨fun j hj=> ?_,nz ?_⟩
 ·show fo BO [.ptr [.lit (.string f.Kind),.sl .bf f.ag]] [cn (l.getD j aC)]=_
  rw[hc];rfl
 ·exact tp fun j hj=>by
   show bJ (fo BO [.ptr [.lit (.string f.Kind),.sl .bf f.ag]] [cn (l.getD j aC)])=_
   rw[hc];rfl
def af3:=bW (α:=List ao) (q1 (qL .az)) [.ro] (fun _=>[]) (fun l=>⟨[dO (aN l)],[],[]⟩)
def J3(l:List ao):Int×Unit->Prop:=fun(i,_)=>0<=i/\i<=l.length/\l.length<=30/\∀j:Nat,(j:Int)<i->jM l j=true
def A2(l:List ao):Int×Unit->Nat:=fun(i,_)=>l.length-i.toNat
def aqh:AX af3:=fun l=>bS [(4,aT [iI 10] (fun _=>J3 l) (A2 l))]
def ab':HH:=hF af3 func36 [ao1,ahz] aqh fun(l:List ao) hp hb=>by
 clear hp hb
 apply vE (let x0:=(l.length:Int);let q0:=Lb false (aN l);bif decide (x0>30) then q0 else J3 l (0,())/\∀(y:Int×PUnit),let q1:=(wrap i64 (y.1+1),());J3 l y->bif decide (y.1<x0) then 0<=y.1/\y.1.toNat<l.length/\bif !gp (l.getD y.1.toNat aC) then q0 else bif placeOf l (l.getD y.1.toNat aC).F !=y.1 then q0 else J3 l q1/\A2 l q1<A2 l y else Lb true (aN l))
 dsimp only
 refine ae (fun h=>bD ?_) (fun h=>⟨⟨by omega,by omega,by have h:=yF h;omega,by intro j hj;omega⟩,?_⟩)
 ·have h:=yT h;simp only[aN];rw[decide_eq_false (by omega)];rfl
 rintro⟨i,⟨⟩⟩ ⟨h1,h2,h3,hR⟩
 simp only
 refine ae ?_ ?_<;>intro hc
 ·have hc:=yT hc
  have hN:jM l i.toNat=false->aN l=false:=fun h=>by
   have hf:allI l.length (jM l)=false:=g_ (j:=i.toNat) (by omega) h
   simp only[aN,hf];simp
  have By:(placeOf l (l.getD i.toNat aC).F=i)↔(anyI i.toNat fun k=>decide ((l.getD k aC).F=(l.getD i.toNat aC).F))=false:=by
   rw[oT]
   unfold placeOf
   rcases ik l.length (fun k=>decide ((l.getD k aC).F=(l.getD i.toNat aC).F)) with⟨g1,g2⟩|⟨m,g1,g2,g3,g4⟩
   ·have:=g2 i.toNat (by omega);simp at this
   ·rw[g2]
    constructor
    ·intro e j hj;exact g4 j (by omega)
    ·intro e
     by_cases hm:m<i.toNat
     ·have:=e m hm;rw[g3] at this;cases this
     ·by_cases vT:i.toNat<m
      ·have:=g4 i.toNat vT;simp at this
      ·omega
  simp(disch:=omega) only[wrap_i64]
  have hm:A2 l (i+1,PUnit.unit)<A2 l (i,()):=by simp only[A2];omega
  refine⟨by omega,by omega,ae (fun h=>bD (hN ?_)) (fun h=>ae (fun h'=>bD (hN ?_)) (fun h'=>⟨⟨by omega,by omega,h3,gh h1 hR ?_⟩,hm⟩))⟩
  ·simp only[jM];grind
  ·have:¬(placeOf l (l.getD i.toNat aC).F=i):=by simpa using h'
   rw[By] at this
   simp only[jM];grind
  ·have:placeOf l (l.getD i.toNat aC).F=i:=by simpa using h'
   rw[By] at this
   simp only[jM,this];grind
 ·have hc:=yF hc
  have hA:allI l.length (jM l)=true:=iG fun j hj=>hR j (by omega)
  refine cg ?_
  simp only[aN,hA];grind
def af':=bW (α:=List ao) (q1 (qL .az)) [.ro] (fun _=>[]) (fun l=>⟨[dO (aN l)],[],[]⟩)
def Ka(l:List ao):Int×Unit->Prop:=fun(i,_)=>0<=i/\i<=l.length/\∀j:Nat,(j:Int)<i->jM l j=true
def A4(l:List ao):Int×Unit->Nat:=fun(i,_)=>l.length-i.toNat
def J_(l:List ao):Int×Int×Unit->Int×Int×Unit->Prop:=fun(i0,k0,_) (i,k,_)=>i=i0/\0<=k/\k<=i/\∀j:Nat,(j:Int)<k->decide ((l.getD j aC).F=(l.getD i.toNat aC).F)=false
def Js(l:List ao):Int×Int×Unit->Nat:=fun(i,k,_)=>i.toNat-k.toNat
def aqo:AX af':=fun l=>bS [(2,aT [iI 3] (fun _=>Ka l) (A4 l)),(7,aT [iI 3,iI 4] (J_ l) (Js l))]
def apA:HH:=hF af' func28 [ao5,NP] aqo fun(l:List ao) hp hb=>by
 have jQ:L9 l.length:=kG (hb _ m0)
 clear hp hb
 apply vE (let x0:=(l.length:Int);Ka l (0,())/\∀(y:Int×PUnit),let q0:=(y.1,0,());Ka l y->bif decide (y.1<x0) then 0<=y.1/\y.1.toNat<l.length/\bif !gp (l.getD y.1.toNat aC) then Lb false (aN l) else J_ l q0 q0/\∀(aF:Int×Int×PUnit),let x1:=aF.2.1.toNat;let q1:=(aF.1,wrap i64 (aF.2.1+1),());let q2:=(wrap i64 (aF.1+1),());J_ l q0 aF->bif decide (aF.2.1<aF.1) then 0<=aF.1/\aF.1.toNat<l.length/\0<=aF.2.1/\x1<l.length/\bif decide ((l.getD aF.1.toNat aC).F=(l.getD x1 aC).F) then Lb false (aN l) else J_ l q0 q1/\Js l q1<Js l aF else Ka l q2/\A4 l q2<A4 l y else Lb (decide (x0<=30)) (aN l))
 dsimp only
 refine⟨⟨by omega,by omega,by intro j hj;omega⟩,?_⟩
 rintro⟨i,⟨⟩⟩ ⟨h1,h2,hR⟩
 simp only
 refine ae ?_ ?_<;>intro hc
 ·have hc:=yT hc
  have hN:jM l i.toNat=false->aN l=false:=fun h=>by
   have hf:allI l.length (jM l)=false:=g_ (j:=i.toNat) (by omega) h
   simp only[aN,hf];simp
  have hm:A4 l (i+1,PUnit.unit)<A4 l (i,()):=by simp only[A4];omega
  refine⟨by omega,by omega,ae (fun h=>bD (hN ?_)) (fun h=>⟨⟨rfl,by omega,by omega,by intro j hj;omega⟩,?_⟩)⟩
  ·simp only[jM];grind
  rintro⟨i,k,⟨⟩⟩ ⟨rfl,g1,g2,gR⟩
  simp only
  refine ae ?_ ?_<;>intro hk
  ·have hk:=yT hk
   simp(disch:=omega) only[wrap_i64]
   refine⟨by omega,by omega,by omega,by omega,ae (fun pg=>bD (hN ?_)) (fun pg=>⟨⟨rfl,by omega,by omega,jk g1 gR ?_⟩,by simp only[Js];omega⟩)⟩
   ·have ha:(anyI i.toNat fun k=>decide ((l.getD k aC).F=(l.getD i.toNat aC).F))=true:=iF (j:=k.toNat) (by omega) (by grind)
    simp only[jM,ha];simp
   ·grind
  ·have hk:=yF hk
   simp(disch:=omega) only[wrap_i64]
   refine⟨⟨by omega,by omega,gh h1 hR ?_⟩,hm⟩
   have ha:(anyI i.toNat fun k=>decide ((l.getD k aC).F=(l.getD i.toNat aC).F))=false:=gz fun j hj=>gR j (by omega)
   simp only[jM,ha];grind
 ·have hc:=yF hc
  have hA:allI l.length (jM l)=true:=iG fun j hj=>hR j (by omega)
  refine cg ?_
  simp only[aN,hA];grind
def mH(b:Int):Bool:=decide (65<=b/\b<=90)
def Ab(b:Int):Bool:=li b||mH b
def iK(s:BA):Bool:=decide (1<=s.size/\s.size<=12)&&mH ((bs s).getD 0 0).toNat&&(bs s).all (ky Ab)
def ga(a:cM):Bool:=bif decide (a.K=1) then iK a.S&&decide (a.V=dK) else bif decide (a.K=2) then bR a.V&&decide (a.S=ai) else bif decide (a.K=3) then decide (a.S=ai)&&decide (a.V=dK) else false
def fB(a:cM):Bool:=ga a&& !decide (a.K=3)
def gB(p:cr):Bool:=bu p.Kind&&decide (p.ay.length<=5)&&p.ay.all ga
def jv(c:dy):Bool:=decide (1<=c.Op/\c.Op<=3)&&fB c.L&&fB c.R
def FL:BA:=⟨#[43]⟩
def xC:BA:=⟨#[45]⟩
def gT(e:cv):Bool:=bif decide (e.Op=ai) then fB e.L&&decide (e.R=mX) else bif decide (e.Op=FL)||decide (e.Op=xC) then fB e.L&&fB e.R else false
def e7(l:List cv):Bool:=decide (l.length<=5)&&l.all gT
def BH(a:ez):Bool:=decide (a.Name=ai)&&decide (a.ay.length=0)&&decide (a.aW=ai)
def dx(a:ez):Bool:=
 bif decide (a.Kind=1) then bu a.Name&&e7 a.ay&&decide (a.N=0)&&decide (a.aW=ai)
 else bif decide (a.Kind=2) then BH a&&decide (0<=a.N/\a.N<=7)
 else bif decide (a.Kind=3) then bu a.Name&&e7 a.ay&&decide (a.N=0)&&fA a.aW
 else bif decide (a.Kind=4) then bu a.Name&&e7 a.ay&&decide (0<=a.N/\a.N<=100000)&&decide (a.aW=ai)
 else bif decide (a.Kind=5)||decide (a.Kind=6) then BH a&&decide (a.N=0) else false
theorem Me(a b:cM):(a.K==b.K&&(a.S.toList==b.S.toList&&(a.V.K==b.V.K&&(a.V.N==b.V.N&&(a.V.S.toList==b.V.S.toList&&true))&&true)))=decide (a=b):=by
 obtain⟨K,S,K2,N2,S2⟩:=a
 obtain⟨K',S',K2',N2',S2'⟩:=b
 simp only[aO,B6]
 rw[Gd]
 simp only[cN,beq_iff_eq,decide_eq_true_eq,cM.mk.injEq,a_.mk.injEq]
def agj:=bW (α:=Int) (q1 qY) [.ro] (fun _=>[]) (fun b=>⟨[dO (mH b)],[],[]⟩)
def ahQ:HH:=hF agj func255 [] a0 fun(b:Int) hp hb=>by
 skip
 clear hp hb
 apply vE (bif decide (b≥65) then Lb (decide (b<=90)) (mH b) else Lb false (mH b))
 refine ae (fun h=>cg ?_) (fun h=>cg ?_)<;>grind [mH]
def agl:=bW (α:=Int) (q1 qY) [.ro] (fun c=>[0<=c/\c<=255]) (fun c=>⟨[dO (mH c)],[],[]⟩)
def ahS:HH:=hF agl func253 [sK] a0 fun(c:Int) hp hb=>by
 have bo:0<=c/\c<=255:=hp _ m0
 clear hp hb
 apply vE (Lb (decide (65<=wrap i64 c/\wrap i64 c<=90)) (mH c))
 rw[wi]
 exact cg rfl
def X6:=bW (α:=BA) (q1 qS) [.ro] (fun _=>[]) (fun s=>⟨[dO (iK s)],[],[]⟩)
def Dp(s:BA):Int×Unit->Prop:=fun(i,_)=>0<=i/\i<=s.size/\((bs s).drop i.toNat).all (ky Ab)=(bs s).all (ky Ab)/\(0<i->mH ((bs s).getD 0 0).toNat=true)
def wA(s:BA):Int×Unit->Nat:=fun(i,_)=>s.size-i.toNat
def ajG:AX X6:=fun s=>bS [(2,aT [iI 3] (fun _=>Dp s) (wA s))]
def ah1:HH:=hF X6 func241 [ahS,Ue,sK] ajG fun(s:BA) hp hb=>by
 have Sx:=ON (s:=s) (hb _ m0)
 clear hp hb
 apply vE (let q0:=(↑(s.size):Int);Dp s (0,())/\∀(y:Int×PUnit),let x0:=(↑(UInt8.toNat (s.data.toList.getD y.1.toNat (0:UInt8))):Int);let q1:=(wrap i64 (y.1+1),());let q2:=Dp s q1/\wA s q1<wA s y;let q3:=(0:Int)<=x0/\x0<=255;Dp s y->bif decide (y.1<q0) then 0<=y.1/\y.1.toNat<s.size/\q3/\bif !mH x0 then bif y.1==0 then Lb false (iK s) else 0<=y.1/\y.1.toNat<s.size/\q3/\bif !li x0 then Lb false (iK s) else q2 else q2 else Lb (decide (1<=q0/\q0<=12)) (iK s))
 dsimp only
 refine⟨⟨by omega,by omega,rfl,by omega⟩,?_⟩
 rintro⟨i,⟨⟩⟩ ⟨h1,h2,hR,hS⟩
 have hl:=pj s
 simp only[HF]
 refine ae ?_ ?_<;>intro hc
 ·have hc:=yT hc
  have hb:=((bs s).getD i.toNat 0).toNat_lt
  rw[dW _ _ 0 h1 (by omega)] at hR
  rw[wi]
  have hN:(bs s).all (ky Ab)=false->iK s=false:=fun h=>by simp[iK,h]
  have hm:wA s (i+1,PUnit.unit)<wA s (i,()):=by simp only[wA];omega
  refine⟨by omega,by omega,⟨by omega,by omega⟩,ae (fun h=>ae (fun h'=>bD ?_) (fun h'=>⟨by omega,by omega,⟨by omega,by omega⟩,ae (fun pg=>bD (hN ?_)) (fun pg=>⟨⟨by omega,by omega,?_,fun _=>hS ?_⟩,hm⟩)⟩)) (fun h=>⟨⟨by omega,by omega,?_,fun _=> ?_⟩,hm⟩)⟩
  ·have h':i=0:=by simpa using h'
   subst h'
   have h:mH (((bs s).getD 0 0).toNat:Int)=false:=by simpa using h
   simp only[iK,h];simp
  ·rw[<-hR];simp only[ky,Ab];simp at h pg;simp[h,pg]
  ·rw[<-hR];simp only[ky,Ab];simp at h pg;simp[h,pg]
  ·have h':¬i=0:=by simpa using h'
   omega
  ·rw[<-hR];simp only[ky,Ab];simp at h;simp[h]
  ·by_cases hz:i=0
   ·subst hz;simpa using h
   ·exact hS (by omega)
 ·have hc:=yF hc
  rw[cz _ (by omega)] at hR
  refine cg ?_
  simp only[iK,<-hR]
  by_cases hz:0<i
  ·rw[hS hz];simp only[QS];grind
  ·rw[decide_eq_false (by omega),decide_eq_false (by omega)];rfl
def X5:=bW (α:=BA) (q1 qS) [.ro] (fun _=>[]) (fun s=>⟨[dO (iK s)],[],[]⟩)
def Dn(s:BA):Int×Unit->Prop:=fun(i,_)=>0<=i/\i<=s.size/\1<=s.size/\s.size<=12/\mH ((bs s).getD 0 0).toNat=true/\((bs s).drop i.toNat).all (ky Ab)=(bs s).all (ky Ab)
def wz(s:BA):Int×Unit->Nat:=fun(i,_)=>s.size-i.toNat
def ajF:AX X5:=fun s=>bS [(4,aT [iI 3] (fun _=>Dn s) (wz s))]
def ahZ:HH:=hF X5 func243 [ahQ,Y8] ajF fun(s:BA) hp hb=>by
 clear hp hb
 apply vE (let q0:=Lb false (iK s);let q1:=(↑(s.size):Int);bif decide (q1<1) then q0 else bif decide (q1>12) then q0 else(0:Int)<=(0:Int)/\Int.toNat 0<s.size/\bif !mH (↑(UInt8.toNat (s.data.toList.getD (Int.toNat 0) (0:UInt8))):Int) then q0 else Dn s (0,())/\∀(y:Int×PUnit),let x0:=(↑(UInt8.toNat (s.data.toList.getD y.1.toNat (0:UInt8))):Int);let q2:=(wrap i64 (y.1+1),());let q3:=Dn s q2/\wz s q2<wz s y;Dn s y->bif decide (y.1<q1) then 0<=y.1/\y.1.toNat<s.size/\bif !li x0 then 0<=y.1/\y.1.toNat<s.size/\bif !mH x0 then q0 else q3 else q3 else Lb true (iK s))
 dsimp only
 have hl:=pj s
 simp only[HF]
 refine ae (fun h=>bD ?_) (fun h=>ae (fun h'=>bD ?_) (fun h'=> ?_))
 ·have h:=yT h;simp only[iK];rw[decide_eq_false (by omega)];rfl
 ·have h':=yT h';simp only[iK];rw[decide_eq_false (by omega)];rfl
 have h:=yF h
 have h':=yF h'
 refine⟨by omega,by omega,ae (fun g=>bD ?_) (fun g=>⟨⟨by omega,by omega,by omega,by omega,by simpa using g,rfl⟩,?_⟩)⟩
 ·have g:mH (((bs s).getD 0 0).toNat:Int)=false:=by simpa using g
  simp only[iK,g];simp
 rintro⟨i,⟨⟩⟩ ⟨h1,h2,h3,h4,hS,hR⟩
 simp only
 refine ae ?_ ?_<;>intro hc
 ·have hc:=yT hc
  rw[dW _ _ 0 h1 (by omega)] at hR
  rw[wi]
  have hN:(bs s).all (ky Ab)=false->iK s=false:=fun h=>by simp[iK,h]
  have hm:wz s (i+1,PUnit.unit)<wz s (i,()):=by simp only[wz];omega
  refine⟨by omega,by omega,ae (fun h=>⟨by omega,by omega,ae (fun pg=>bD (hN ?_)) (fun pg=>⟨⟨by omega,by omega,h3,h4,hS,?_⟩,hm⟩)⟩) (fun h=>⟨⟨by omega,by omega,h3,h4,hS,?_⟩,hm⟩)⟩
  ·rw[<-hR];simp only[ky,Ab];simp at h pg;simp[h,pg]
  ·rw[<-hR];simp only[ky,Ab];simp at h pg;simp[h,pg]
  ·rw[<-hR];simp only[ky,Ab];simp at h;simp[h]
 ·have hc:=yF hc
  rw[cz _ (by omega)] at hR
  refine nR ?_
  simp only[iK,<-hR,hS,decide_eq_true (show 1<=s.size/\s.size<=12 from⟨h3,h4⟩)];rfl
def agD:=bW (α:=cM) (q1 (qA .gM)) [.ro] (fun _=>[]) (fun a=>⟨[dO (ga a)],[],[]⟩)
def T_:HH:=hF agD func219 [ah1,O5] a0 fun(a:cM) hp hb=>by
 clear hp hb
 apply vE (let x0:=a.S.toList==ByteArray.toList {data:= #[]:BA};let q0:=Lb (a.V.K==0&&(a.V.N==0&&(a.V.S.toList==ByteArray.toList {data:= #[]:BA}&&true))) (ga a);let q1:=Lb false (ga a);bif a.K==1 then bif iK a.S then q0 else q1 else bif a.K==2 then bif bR a.V then Lb x0 (ga a) else q1 else bif a.K==3 then bif x0 then q0 else q1 else q1)
 dsimp only
 have ev:∀v:a_,(v.K==0&&(v.N==0&&(v.S.toList==ByteArray.toList {data:= #[]}&&true)))=decide (v=dK):=fun v=>gO v dK
 have e:∀s:BA,(s.toList==ByteArray.toList {data:= #[]})=decide (s=ai):=fun s=>aO _ _
 simp only[ev,e,ga]
 repeat' (refine ae (fun h=> ?_) (fun h=> ?_))
 all_goals (refine cg ?_;grind)
def agB:=bW (α:=cM) (q1 (qA .gM)) [.ro] (fun _=>[]) (fun a=>⟨[dO (ga a)],[],[]⟩)
def Y2:HH:=hF agB func222 [ahZ,O4] a0 fun(a:cM) hp hb=>by
 clear hp hb
 apply vE (let x0:=a.S.toList==ByteArray.toList {data:= #[]:BA};let q0:=Lb (a.V.K==0&&(a.V.N==0&&(a.V.S.toList==ByteArray.toList {data:= #[]:BA}&&true))) (ga a);let q1:=Lb false (ga a);bif a.K==1 then bif iK a.S then q0 else q1 else bif a.K==2 then bif x0 then Lb (bR a.V) (ga a) else q1 else bif a.K==3 then bif x0 then q0 else q1 else q1)
 dsimp only
 have ev:∀v:a_,(v.K==0&&(v.N==0&&(v.S.toList==ByteArray.toList {data:= #[]}&&true)))=decide (v=dK):=fun v=>gO v dK
 have e:∀s:BA,(s.toList==ByteArray.toList {data:= #[]})=decide (s=ai):=fun s=>aO _ _
 simp only[ev,e,ga]
 repeat' (refine ae (fun h=> ?_) (fun h=> ?_))
 all_goals (refine cg ?_;grind)
def Yn:=bW (α:=cr) (q1 (qA .dB)) [.ro] (fun _=>[]) (fun p=>⟨[dO (gB p)],[],[]⟩)
def DD(p:cr):Int×O'×Unit->Prop:=fun(i,b,_)=>b=(p.Kind,p.ay,p.Not,())/\0<=i/\i<=p.ay.length/\(p.ay.drop i.toNat).all ga=p.ay.all ga
def CT(p:cr):Int×O'×Unit->Nat:=fun(i,b,_)=>p.ay.length-i.toNat
def ajZ:AX Yn:=fun p=>bS [(2,aT [iI 3,.box 1 (1,1024) [.lit .str,.shr .gM,.lit .bool]] (fun _=>DD p) (CT p))]
def aiz:HH:=hF Yn func190 [T_,Mq] ajZ fun(p:cr) hp hb=>by
 have ey:=IT (x:=p) (hb _ m0)
 have Hc:=ey.1
 have Hd:=ey.2
 clear hp hb
 apply vE (DD p (0,(p.Kind,p.ay,p.Not,()),())/\∀(y:Int×T20×PUnit),let x1:=y.2.1.2.1.length;let x0:=(↑x1:Int);let q0:=(wrap i64 (y.1+1),(y.2.1.1,y.2.1.2.1,y.2.1.2.2.1,()),());DD p y->bif decide (y.1<x0) then 0<=y.1/\y.1.toNat<x1/\bif !ga (y.2.1.2.1.getD y.1.toNat mX) then Lb false (gB p) else DD p q0/\CT p q0<CT p y else bif bu y.2.1.1 then Lb (decide (x0<=5)) (gB p) else Lb false (gB p))
 dsimp only
 refine⟨⟨rfl,by omega,by omega,rfl⟩,?_⟩
 rintro⟨i,⟨bk,ba,bn,⟨⟩⟩,⟨⟩⟩ ⟨sq,h1,h2,hR⟩
 cases sq
 simp only
 refine ae ?_ ?_<;>intro hc
 ·have hc:=yT hc
  rw[dW _ _ mX h1 (by omega)] at hR
  rw[wi]
  refine⟨by omega,by omega,ae (fun h=>bD ?_) (fun h=>⟨⟨rfl,by omega,by omega,?_⟩,?_⟩)⟩
  ·simp only[gB,<-hR];simp at h;simp[h]
  ·rw[<-hR];simp at h;simp[h]
  ·simp only[CT];omega
 ·have hc:=yF hc
  rw[cz _ (by omega)] at hR
  simp only[gB,<-hR,QS]
  repeat' (refine ae (fun h=> ?_) (fun h=> ?_))
  all_goals (refine cg ?_;grind)
def Yl:=bW (α:=cr) (q1 (qA .dB)) [.ro] (fun _=>[]) (fun p=>⟨[dO (gB p)],[],[]⟩)
def DB(p:cr):Int×Unit->Prop:=fun(i,_)=>0<=i/\i<=p.ay.length/\p.ay.length<=5/\bu p.Kind=true/\(p.ay.drop i.toNat).all ga=p.ay.all ga
def CQ(p:cr):Int×Unit->Nat:=fun(i,_)=>p.ay.length-i.toNat
def ajX:AX Yl:=fun p=>bS [(4,aT [iI 18] (fun _=>DB p) (CQ p))]
def aiv:HH:=hF Yl func196 [Y2,QI] ajX fun(p:cr) hp hb=>by
 clear hp hb
 apply vE (let x0:=(p.ay.length:Int);let q0:=Lb false (gB p);bif !bu p.Kind then q0 else bif decide (x0>5) then q0 else DB p (0,())/\∀(y:Int×PUnit),let q1:=(wrap i64 (y.1+1),());DB p y->bif decide (y.1<x0) then 0<=y.1/\y.1.toNat<p.ay.length/\bif !ga (p.ay.getD y.1.toNat mX) then q0 else DB p q1/\CQ p q1<CQ p y else Lb true (gB p))
 dsimp only
 refine ae (fun h=>bD ?_) (fun h=>ae (fun h'=>bD ?_) (fun h'=> ?_))
 ·simp only[gB];simp at h;simp[h]
 ·have h':=yT h';simp only[gB];rw[decide_eq_false (show¬p.ay.length<=5 by omega)];simp
 have h':=yF h'
 refine⟨⟨by omega,by omega,by omega,by simpa using h,rfl⟩,?_⟩
 rintro⟨i,⟨⟩⟩ ⟨h1,h2,h3,h4,hR⟩
 simp only
 refine ae ?_ ?_<;>intro hc
 ·have hc:=yT hc
  rw[dW _ _ mX h1 (by omega)] at hR
  rw[wi]
  refine⟨by omega,by omega,ae (fun h=>bD ?_) (fun h=>⟨⟨by omega,by omega,h3,h4,?_⟩,?_⟩)⟩
  ·simp only[gB,<-hR];simp at h;simp[h]
  ·rw[<-hR];simp at h;simp[h]
  ·simp only[CQ];omega
 ·have hc:=yF hc
  rw[cz _ (by omega)] at hR
  refine nR ?_
  simp only[gB,<-hR,h4,decide_eq_true h3];rfl
def agN:=bW (α:=cM) (q1 (qA .gM)) [.ro] (fun _=>[]) (fun a=>⟨[dO (fB a)],[],[]⟩)
def Y7:HH:=hF agN func197 [Y2] a0 fun(a:cM) hp hb=>by
 clear hp hb
 apply vE (bif a.K !=3 then Lb (ga a) (fB a) else Lb false (fB a))
 simp only[fB]
 repeat' (refine ae (fun h=> ?_) (fun h=> ?_))
 all_goals (refine cg ?_;grind)
def agk:=bW (α:=cM) (q1 (qA .gM)) [.ro] (fun _=>[]) (fun a=>⟨[dO (fB a)],[],[]⟩)
def ahR:HH:=hF agk func254 [T_] a0 fun(a:cM) hp hb=>by
 clear hp hb
 apply vE (bif ga a then Lb (a.K !=3) (fB a) else Lb false (fB a))
 simp only[fB]
 repeat' (refine ae (fun h=> ?_) (fun h=> ?_))
 all_goals (refine cg ?_;grind)
def agR:=bW (α:=dy) (q1 (qA .ca)) [.ro] (fun _=>[]) (fun c=>⟨[dO (jv c)],[],[]⟩)
def aiy:HH:=hF agR func191 [sK,T_] a0 fun(c:dy) hp hb=>by
 clear hp hb
 apply vE (let q0:=Lb false (jv c);bif decide (1<=c.Op/\c.Op<=3) then bif ga c.L then bif ga c.R then bif c.L.K !=3 then Lb (c.R.K !=3) (jv c) else q0 else q0 else q0 else q0)
 dsimp only
 simp only[jv,fB]
 repeat' (refine ae (fun h=> ?_) (fun h=> ?_))
 all_goals (refine cg ?_;grind)
def ag':=bW (α:=dy) (q1 (qA .ca)) [.ro] (fun _=>[]) (fun c=>⟨[dO (jv c)],[],[]⟩)
def ai5:HH:=hF ag' func144 [A',Y7] a0 fun(c:dy) hp hb=>by
 clear hp hb
 apply vE (bif decide (1<=c.Op/\c.Op<=3) then bif fB c.L then Lb (fB c.R) (jv c) else Lb false (jv c) else Lb false (jv c))
 simp only[jv]
 repeat' (refine ae (fun h=> ?_) (fun h=> ?_))
 all_goals (refine cg ?_;grind)
def agn:=bW (α:=cv) (q1 (qA .bI)) [.ro] (fun _=>[]) (fun e=>⟨[dO (gT e)],[],[]⟩)
def ah0:HH:=hF agn func242 [ahR] a0 fun(e:cv) hp hb=>by
 clear hp hb
 apply vE (let x0:=e.Op.toList==ByteArray.toList {data:= #[43]:BA};let q0:=bif fB e.L then Lb (fB e.R) (gT e) else Lb false (gT e);let q1:=Lb false (gT e);bif e.Op.toList==ByteArray.toList {data:= #[]:BA} then bif fB e.L then Lb (e.R.K==0&&(e.R.S.toList==ByteArray.toList {data:= #[]:BA}&&(e.R.V.K==0&&(e.R.V.N==0&&(e.R.V.S.toList==ByteArray.toList {data:= #[]:BA}&&true))&&true))) (gT e) else q1 else bif x0 then bif x0 then q0 else q1 else bif e.Op.toList==ByteArray.toList {data:= #[45]:BA} then q0 else q1)
 dsimp only
 have e:∀s:BA,(s.toList==ByteArray.toList {data:= #[]})=decide (s=ai):=fun s=>aO _ _
 have ea:∀a:cM,(a.K==0&&(a.S.toList==ByteArray.toList {data:= #[]}&&(a.V.K==0&&(a.V.N==0&&(a.V.S.toList==ByteArray.toList {data:= #[]}&&true))&&true)))=decide (a=mX):=fun a=>Me a mX
 have e1:∀s:BA,(s.toList==ByteArray.toList {data:= #[43]})=decide (s=FL):=fun s=>aO _ _
 have e2:∀s:BA,(s.toList==ByteArray.toList {data:= #[45]})=decide (s=xC):=fun s=>aO _ _
 simp only[ea]
 simp only[e,e1,e2,gT]
 repeat' (refine ae (fun h=> ?_) (fun h=> ?_))
 all_goals (refine cg ?_;grind)
def agA:=bW (α:=cv) (q1 (qA .bI)) [.ro] (fun _=>[]) (fun e=>⟨[dO (gT e)],[],[]⟩)
def aib:HH:=hF agA func223 [Y7] a0 fun(e:cv) hp hb=>by
 clear hp hb
 apply vE (let x0:=e.Op.toList==ByteArray.toList {data:= #[43]:BA};let q0:=bif fB e.L then Lb (fB e.R) (gT e) else Lb false (gT e);let q1:=Lb false (gT e);bif e.Op.toList==ByteArray.toList {data:= #[]:BA} then bif fB e.L then Lb (e.R.K==0&&(e.R.S.toList==ByteArray.toList {data:= #[]:BA}&&(e.R.V.K==0&&(e.R.V.N==0&&(e.R.V.S.toList==ByteArray.toList {data:= #[]:BA}&&true))&&true))) (gT e) else q1 else bif x0 then bif x0 then q0 else q1 else bif e.Op.toList==ByteArray.toList {data:= #[45]:BA} then q0 else q1)
 dsimp only
 have e:∀s:BA,(s.toList==ByteArray.toList {data:= #[]})=decide (s=ai):=fun s=>aO _ _
 have ea:∀a:cM,(a.K==0&&(a.S.toList==ByteArray.toList {data:= #[]}&&(a.V.K==0&&(a.V.N==0&&(a.V.S.toList==ByteArray.toList {data:= #[]}&&true))&&true)))=decide (a=mX):=fun a=>Me a mX
 have e1:∀s:BA,(s.toList==ByteArray.toList {data:= #[43]})=decide (s=FL):=fun s=>aO _ _
 have e2:∀s:BA,(s.toList==ByteArray.toList {data:= #[45]})=decide (s=xC):=fun s=>aO _ _
 simp only[ea]
 simp only[e,e1,e2,gT]
 repeat' (refine ae (fun h=> ?_) (fun h=> ?_))
 all_goals (refine cg ?_;grind)
def X':=bW (α:=List cv) (q1 (qL .bI)) [.ro] (fun _=>[]) (fun es=>⟨[dO (e7 es)],[],[]⟩)
def Ds(es:List cv):Int×Unit->Prop:=fun(i,_)=>0<=i/\i<=es.length/\(es.drop i.toNat).all gT=es.all gT
def CF(es:List cv):Int×Unit->Nat:=fun(i,_)=>es.length-i.toNat
def ajK:AX X':=fun es=>bS [(2,aT [iI 3] (fun _=>Ds es) (CF es))]
def aid:HH:=hF X' func220 [ah0] ajK fun(es:List cv) hp hb=>by
 have aeC:L9 es.length:=kG (hb _ m0)
 clear hp hb
 apply vE (let x0:=(es.length:Int);Ds es (0,())/\∀(y:Int×PUnit),let q0:=(wrap i64 (y.1+1),());Ds es y->bif decide (y.1<x0) then 0<=y.1/\y.1.toNat<es.length/\bif !gT (es.getD y.1.toNat fj) then Lb false (e7 es) else Ds es q0/\CF es q0<CF es y else Lb (decide (x0<=5)) (e7 es))
 dsimp only
 refine⟨⟨by omega,by omega,rfl⟩,?_⟩
 rintro⟨i,⟨⟩⟩ ⟨h1,h2,hR⟩
 simp only
 refine ae ?_ ?_<;>intro hc
 ·have hc:=yT hc
  rw[dW _ _ fj h1 (by omega)] at hR
  rw[wi]
  refine⟨by omega,by omega,ae (fun h=>bD ?_) (fun h=>⟨⟨by omega,by omega,?_⟩,?_⟩)⟩
  ·simp only[e7,<-hR];simp at h;simp[h]
  ·rw[<-hR];simp at h;simp[h]
  ·simp only[CF];omega
 ·have hc:=yF hc
  rw[cz _ (by omega)] at hR
  refine cg ?_
  simp only[e7,<-hR];simp;omega
def Yk:=bW (α:=ez) (q1 (qA .dE)) [.ro] (fun _=>[]) (fun a=>⟨[dO (bu a.Name&&e7 a.ay)],[],[]⟩)
def Dz(a:ez):Int×Unit->Prop:=fun(i,_)=>0<=i/\i<=a.ay.length/\a.ay.length<=5/\bu a.Name=true/\(a.ay.drop i.toNat).all gT=a.ay.all gT
def CP(a:ez):Int×Unit->Nat:=fun(i,_)=>a.ay.length-i.toNat
def ajW:AX Yk:=fun a=>bS [(4,aT [iI 18] (fun _=>Dz a) (CP a))]
def aiu:HH:=hF Yk func198 [aib,QI] ajW fun(a:ez) hp hb=>by
 clear hp hb
 apply vE (let x0:=(a.ay.length:Int);let q0:=bu a.Name&&e7 a.ay;bif !bu a.Name then Lb false q0 else bif decide (x0>5) then Lb false q0 else Dz a (0,())/\∀(y:Int×PUnit),let q1:=(wrap i64 (y.1+1),());Dz a y->bif decide (y.1<x0) then 0<=y.1/\y.1.toNat<a.ay.length/\bif !gT (a.ay.getD y.1.toNat fj) then Lb false q0 else Dz a q1/\CP a q1<CP a y else Lb true q0)
 dsimp only
 refine ae (fun h=>bD ?_) (fun h=>ae (fun h'=>bD ?_) (fun h'=> ?_))
 ·simp at h;simp[h]
 ·have h':=yT h';simp only[e7];rw[decide_eq_false (show¬a.ay.length<=5 by omega)];simp
 have h':=yF h'
 refine⟨⟨by omega,by omega,by omega,by simpa using h,rfl⟩,?_⟩
 rintro⟨i,⟨⟩⟩ ⟨h1,h2,h3,h4,hR⟩
 simp only
 refine ae ?_ ?_<;>intro hc
 ·have hc:=yT hc
  rw[dW _ _ fj h1 (by omega)] at hR
  rw[wi]
  refine⟨by omega,by omega,ae (fun h=>bD ?_) (fun h=>⟨⟨by omega,by omega,h3,h4,?_⟩,?_⟩)⟩
  ·simp only[e7,<-hR];simp at h;simp[h]
  ·rw[<-hR];simp at h;simp[h]
  ·simp only[CP];omega
 ·have hc:=yF hc
  rw[cz _ (by omega)] at hR
  refine nR ?_
  simp only[e7,<-hR,h4,decide_eq_true h3];rfl
def agP:=bW (α:=ez) (q1 (qA .dE)) [.ro] (fun _=>[]) (fun a=>⟨[dO (dx a)],[],[]⟩)
def aix:HH:=hF agP func193 [sK,Mq,aid] a0 fun(a:ez) hp hb=>by
 clear hp hb
 apply vE (let x0:=a.aW.toList==ByteArray.toList {data:= #[]:BA};let x1:=a.Kind==5;let x2:=a.N==0;let q0:=bif a.Kind==1 then bif bu a.Name then bif e7 a.ay then bif x2 then Lb x0 (dx a) else Lb false (dx a) else Lb false (dx a) else Lb false (dx a) else bif a.Kind==3 then bif bu a.Name then bif e7 a.ay then bif x2 then bif x0 then Lb true (dx a) else Lb (bu a.aW) (dx a) else Lb false (dx a) else Lb false (dx a) else Lb false (dx a) else bif a.Kind==4 then bif bu a.Name then bif e7 a.ay then bif decide (0<=a.N/\a.N<=100000) then Lb x0 (dx a) else Lb false (dx a) else Lb false (dx a) else Lb false (dx a) else bif a.Kind==2 then Lb false (dx a) else bif x1 then bif x1 then Lb false (dx a) else Lb false (dx a) else bif a.Kind==6 then Lb false (dx a) else Lb false (dx a);let q1:=Lb false (dx a);let q2:=bif x0 then Lb x2 (dx a) else q1;bif a.Name.toList==ByteArray.toList {data:= #[]:BA} then bif (a.ay.length:Int)==0 then bif a.Kind==1 then bif bu a.Name then bif e7 a.ay then bif x2 then Lb x0 (dx a) else q1 else q1 else q1 else bif a.Kind==3 then bif bu a.Name then bif e7 a.ay then bif x2 then bif x0 then Lb true (dx a) else Lb (bu a.aW) (dx a) else q1 else q1 else q1 else bif a.Kind==4 then bif bu a.Name then bif e7 a.ay then bif decide (0<=a.N/\a.N<=100000) then Lb x0 (dx a) else q1 else q1 else q1 else bif a.Kind==2 then bif x0 then Lb (decide (0<=a.N/\a.N<=7)) (dx a) else q1 else bif x1 then bif x1 then q2 else q1 else bif a.Kind==6 then q2 else q1 else q0 else q0)
 dsimp only
 have e:∀s:BA,(s.toList==ByteArray.toList {data:= #[]})=decide (s=ai):=fun s=>aO _ _
 simp only[e,dx,BH,fA]
 repeat' (refine ae (fun h=> ?_) (fun h=> ?_))
 all_goals (refine cg ?_;grind)
def ag9:=bW (α:=ez) (q1 (qA .dE)) [.ro] (fun _=>[]) (fun a=>⟨[dO (dx a)],[],[]⟩)
def ai4:HH:=hF ag9 func145 [A',aiu,Ud] a0 fun(a:ez) hp hb=>by
 clear hp hb
 apply vE (let x0:=a.Kind==5;let x1:=bu a.Name&&e7 a.ay;let q0:=Lb (a.aW.toList==ByteArray.toList {data:= #[]:BA}) (dx a);let q1:=Lb false (dx a);let q2:=bif a.N==0 then q0 else q1;let q3:=bif x1 then bif decide (0<=a.N/\a.N<=100000) then q0 else q1 else q1;let q4:=bif x1 then bif a.N==0 then Lb (fA a.aW) (dx a) else q1 else q1;let q5:=bif (a.ay.length:Int)==0 then q2 else q1;bif a.Name.toList==ByteArray.toList {data:= #[]:BA} then bif a.Kind==1 then bif x1 then q2 else q1 else bif a.Kind==2 then bif (a.ay.length:Int)==0 then bif decide (0<=a.N/\a.N<=7) then q0 else q1 else q1 else bif a.Kind==3 then q4 else bif a.Kind==4 then q3 else bif x0 then bif x0 then q5 else q1 else bif a.Kind==6 then q5 else q1 else bif a.Kind==1 then bif x1 then q2 else q1 else bif a.Kind==2 then q1 else bif a.Kind==3 then q4 else bif a.Kind==4 then q3 else bif x0 then bif x0 then q1 else q1 else bif a.Kind==6 then q1 else q1)
 dsimp only
 have e:∀s:BA,(s.toList==ByteArray.toList {data:= #[]})=decide (s=ai):=fun s=>aO _ _
 simp only[e,dx,BH,fA]
 repeat' (refine ae (fun h=> ?_) (fun h=> ?_))
 all_goals (refine cg ?_;grind)
def nf(l:List BA)(s:BA):Bool:=l.any fun t=>decide (t=s)
theorem qd{l:List BA}{s:BA}:nf l s=true↔s∈l:=by
 simp only[nf,vD,decide_eq_true_eq]
 exact⟨fun⟨t,h1,h2⟩=>h2▸h1,fun h=>⟨s,h,rfl⟩⟩
def fg(l:List BA)(s:BA):List BA:=if nf l s then l else l++[s]
def nt(l:List BA)(a:cM):List BA:=if a.K=1 then fg l a.S else l
def dH(l:List BA)(xs:List cM):List BA:=xs.foldl nt l
theorem BL{l:List BA}{s t:BA}:t∈fg l s↔t∈l\/t=s:=by
 unfold fg;split
 ·rename_i h
  exact⟨.inl,fun h'=>h'.elim id (fun e=>e▸qd.1 h)⟩
 ·simp
theorem BM(l:List BA)(s:BA):(fg l s).length<=l.length+1:=by
 unfold fg;split
 ·omega
 ·simp
theorem NM{l:List BA}{a:cM}{t:BA}:t∈nt l a↔t∈l\/(a.K=1/\t=a.S):=by
 unfold nt;split
 ·rename_i h;rw[BL];simp[h]
 ·rename_i h;simp[h]
theorem NN(l:List BA)(a:cM):(nt l a).length<=l.length+1:=by
 unfold nt;split
 ·exact BM _ _
 ·omega
theorem rz{t:BA}:∀{xs:List cM}{l:List BA},t∈dH l xs↔t∈l\/∃a∈xs,a.K=1/\t=a.S
 |[],l=>by simp[dH]
 |a::xs,l=>by
  show t∈dH (nt l a) xs↔_
  rw[rz,NM]
  simp only[kc,exists_eq_or_imp,or_assoc]
theorem jG:∀(xs:List cM)(l:List BA),(dH l xs).length<=l.length+xs.length
 |[],l=>uh _
 |a::xs,l=>by
  have h1:=jG xs (nt l a)
  have h2:=NN l a
  show(dH (nt l a) xs).length<=_
  simp only[fP];omega
theorem zt(l:List BA)(xs:List cM){i:Int}(h0:0<=i)(h:i<xs.length):dH l (xs.take (i+1).toNat)=nt (dH l (xs.take i.toNat)) (xs.getD i.toNat mX):=by
 rw[<-dl xs mX h0 h]
 simp only[dH,List.foldl_append,List.foldl_cons,List.foldl_nil]
def lE(l:List BA)(p:cr):List BA:=if p.Not then l else dH l p.ay
def jl(ps:List cr):List BA:=ps.foldl lE []
theorem nY{α β:Type}(f:β->α->β)(b:β)(l:List α)(z:α){i:Int}(h0:0<=i)(h:i<l.length):(l.take (i+1).toNat).foldl f b=f ((l.take i.toNat).foldl f b) (l.getD i.toNat z):=by
 rw[<-dl l z h0 h]
 simp only[List.foldl_append,List.foldl_cons,List.foldl_nil]
def dM(ps:List cr):Nat:=(ps.map fun p=>p.ay.length).sum
def rf(ps:List cr)(t:BA):Prop:=∃p∈ps,p.Not=false/\∃a∈p.ay,a.K=1/\t=a.S
theorem M8{l:List BA}{p:cr}{t:BA}:t∈lE l p↔t∈l\/(p.Not=false/\∃a∈p.ay,a.K=1/\t=a.S):=by
 unfold lE
 cases h:p.Not
 ·simp only[xS,if_false];rw[rz];simp
 ·simp
theorem ym{t:BA}:∀{ps:List cr}{l:List BA},t∈ps.foldl lE l↔t∈l\/rf ps t
 |[],l=>by simp[rf]
 |p::ps,l=>by
  show t∈ps.foldl lE (lE l p)↔_
  rw[ym,M8]
  simp only[rf,kc,exists_eq_or_imp,or_assoc]
theorem K7{ps:List cr}{t:BA}:t∈jl ps↔rf ps t:=by
 unfold jl;rw[ym];simp
theorem yn:∀(ps:List cr)(l:List BA),(ps.foldl lE l).length<=l.length+dM ps
 |[],l=>uh _
 |p::ps,l=>by
  have h1:=yn ps (lE l p)
  have h2:(lE l p).length<=l.length+p.ay.length:=by
   unfold lE;split
   ·omega
   ·exact jG _ _
  show(ps.foldl lE (lE l p)).length<=_
  simp only[dM,wH,MI] at h1⊢;omega
def jm(l:List BA)(p:cr):List BA:=if p.Not then l else(dH [] p.ay).foldl fg l
def cW(ps:List cr):List BA:=ps.foldl jm []
theorem yU{t:BA}:∀{xs l:List BA},t∈xs.foldl fg l↔t∈l\/t∈xs
 |[],l=>by simp
 |a::xs,l=>by
  show t∈xs.foldl fg (fg l a)↔_
  rw[yU,BL,kc,or_assoc]
theorem tG:∀(xs l:List BA),(xs.foldl fg l).length<=l.length+xs.length
 |[],l=>uh _
 |a::xs,l=>by
  have h1:=tG xs (fg l a)
  have h2:=BM l a
  show(xs.foldl fg (fg l a)).length<=_
  simp only[fP];omega
theorem K8{l:List BA}{p:cr}{t:BA}:t∈jm l p↔t∈l\/(p.Not=false/\∃a∈p.ay,a.K=1/\t=a.S):=by
 unfold jm
 cases h:p.Not
 ·simp only[xS,if_false];rw[yU,rz];simp
 ·simp
theorem wU{t:BA}:∀{ps:List cr}{l:List BA},t∈ps.foldl jm l↔t∈l\/rf ps t
 |[],l=>by simp[rf]
 |p::ps,l=>by
  show t∈ps.foldl jm (jm l p)↔_
  rw[wU,K8]
  simp only[rf,kc,exists_eq_or_imp,or_assoc]
theorem yo{ps:List cr}{t:BA}:t∈cW ps↔rf ps t:=by
 unfold cW;rw[wU];simp
theorem wV:∀(ps:List cr)(l:List BA),(ps.foldl jm l).length<=l.length+dM ps
 |[],l=>uh _
 |p::ps,l=>by
  have h1:=wV ps (jm l p)
  have h2:(jm l p).length<=l.length+p.ay.length:=by
   unfold jm;split
   ·omega
   ·have g1:=tG (dH [] p.ay) l
    have g2:=jG p.ay []
    simp only[fz] at g2;omega
  show(ps.foldl jm (jm l p)).length<=_
  simp only[dM,wH,MI] at h1⊢;omega
theorem H'(ps:List cr)(n:Nat):dM (ps.take n)<=dM ps:=by
 have h:=congrArg (fun q=>(q.map fun p:cr=>p.ay.length).sum) (Uv n ps)
 simp only[Ko,Zy] at h
 simp only[dM];omega
theorem EK(ps:List cr){i:Int}(h0:0<=i)(h:i<ps.length):dM (ps.take i.toNat)+(ps.getD i.toNat cF).ay.length<=dM ps:=by
 have h1:=H' ps (i+1).toNat
 rw[<-dl ps cF h0 h] at h1
 simp only[dM,Ko,Zy,wH,List.map_nil,MI,List.sum_nil] at h1⊢
 omega
def cS(ps:List cr):Nat:=(ps.filter fun p=> !p.Not).length
theorem He{l:List BA}{s:BA}{i:Int}(h0:0<=i)(hl:i<l.length)(h:∀j:Nat,(j:Int)<i->¬l.getD j ai=s)(hi:¬l.getD i.toNat ai=s):∀j:Nat,(j:Int)<i+1->¬l.getD j ai=s:=by
 intro j hj
 by_cases XH:(j:Int)<i
 ·exact h j XH
 ·have:j=i.toNat:=by omega
  subst this;exact hi
theorem Wj{l:List BA}{s:BA}(h:∀j:Nat,j<l.length->¬l.getD j ai=s):nf l s=false:=by
 rw[<-wI,qd]
 intro hm
 obtain⟨j,hj,rfl⟩:=sT hm
 exact h j hj (by rw[eV,fE hj];rfl)
theorem LB{l:List BA}{s:BA}{j:Nat}(hj:j<l.length)(h:l.getD j ai=s):nf l s=true:=by
 rw[qd,<-h,eV,fE hj]
 exact D5 hj
theorem GZ(ps:List cr){i:Int}(h0:0<=i)(h:i<ps.length):cS (ps.take (i+1).toNat)=cS (ps.take i.toNat)+(if(!(ps.getD i.toNat cF).Not)=true then 1 else 0):=by
 rw[<-dl ps cF h0 h]
 simp only[cS,List.filter_append,kF,List.filter_cons,List.filter_nil]
 split<;>simp
theorem Od(ps:List cr)(n:Nat):cS (ps.take n)<=n:=uN (Mw _ _) (by simp;omega)
def Yo:=bW (α:=(List BA)×BA) (qC (qL .str) (q1 qS)) [.ro,.ro] (fun _=>[]) (fun(l,s)=>⟨[dO (nf l s)],[],[]⟩)
def DE(l:List BA)(s:BA):Int×Unit->Prop:=fun(i,_)=>0<=i/\i<=l.length/\∀j:Nat,(j:Int)<i->¬l.getD j ai=s
def CU(l:List BA)(s:BA):Int×Unit->Nat:=fun(i,_)=>l.length-i.toNat
def aj0:AX Yo:=fun(l,s)=>bS [(2,aT [iI 5] (fun _=>DE l s) (CU l s))]
def Ub:HH:=hF Yo func189 [] aj0 fun x hp hb=>by
 obtain⟨l,s⟩:=x
 have jQ:L9 l.length:=kG (hb _ m0)
 have Sx:=ON (s:=s) (hb _ m1)
 clear hp hb
 apply vE (DE l s (0,())/\∀(y:Int×PUnit),let q0:=(wrap i64 (y.1+1),());DE l s y->bif decide (y.1<(l.length:Int)) then 0<=y.1/\y.1.toNat<l.length/\bif (l.getD y.1.toNat ai).toList==s.toList then Lb true (nf l s) else DE l s q0/\CU l s q0<CU l s y else Lb false (nf l s))
 dsimp only
 refine⟨⟨by omega,by omega,by intro j hj;omega⟩,?_⟩
 rintro⟨i,⟨⟩⟩ ⟨h1,h2,hR⟩
 simp only[aO]
 refine ae ?_ ?_<;>intro hc
 ·have hc:=yT hc
  rw[wi]
  refine⟨by omega,by omega,ae (fun h=>nR (LB (j:=i.toNat) (by omega) (yT h))) (fun h=>⟨⟨by omega,by omega,He h1 hc hR (yF h)⟩,by simp only[CU];omega⟩)⟩
 ·have hc:=yF hc
  exact bD (Wj fun j hj=>hR j (by omega))
def Yi:=bW (α:=(List BA)×BA) (qC (qL .str) (q1 qS)) [.ro,.ro] (fun _=>[]) (fun(l,s)=>⟨[dI (jO l.length (fun j=>decide (l.getD j ai=s)))],[],[]⟩)
def Dy(l:List BA)(s:BA):Int×Unit->Prop:=fun(i,_)=>0<=i/\i<=l.length/\∀j:Nat,(j:Int)<i->¬l.getD j ai=s
def CN(l:List BA)(s:BA):Int×Unit->Nat:=fun(i,_)=>l.length-i.toNat
def ajU:AX Yi:=fun(l,s)=>bS [(2,aT [iI 8] (fun _=>Dy l s) (CN l s))]
def ait:HH:=hF Yi func200 [] ajU fun x hp hb=>by
 obtain⟨l,s⟩:=x
 have jQ:L9 l.length:=kG (hb _ m0)
 have Sx:=ON (s:=s) (hb _ m1)
 clear hp hb
 apply vE (Dy l s (0,())/\∀(y:Int×PUnit),let q0:=(wrap i64 (y.1+1),());Dy l s y->bif decide (y.1<(l.length:Int)) then 0<=y.1/\y.1.toNat<l.length/\bif s.toList==(l.getD y.1.toNat ai).toList then Li y.1 (jO (l.length) fun(j:Nat)=>decide (l.getD j ai=s)) else Dy l s q0/\CN l s q0<CN l s y else Li (-1) (jO (l.length) fun(j:Nat)=>decide (l.getD j ai=s)))
 dsimp only
 refine⟨⟨by omega,by omega,by intro j hj;omega⟩,?_⟩
 rintro⟨i,⟨⟩⟩ ⟨h1,h2,hR⟩
 simp only[aO]
 refine ae ?_ ?_<;>intro hc
 ·have hc:=yT hc
  rw[wi]
  refine⟨by omega,by omega,ae (fun h=>nz ?_) (fun h=>⟨⟨by omega,by omega,He h1 hc hR (fun e=>yF h e.symm)⟩,by simp only[CN];omega⟩)⟩
  rw[gx (i:=i.toNat) (by omega) (decide_eq_true (yT h).symm) (fun j hj=>decide_eq_false (hR j (by omega)))]
  omega
 ·have hc:=yF hc
  exact nz (jx (fun j hj=>decide_eq_false (hR j (by omega)))).symm
def ag8:=bW (α:=(List BA)×BA) (qC (qL .str) (q1 qS)) [.ro,.ro] (fun _=>[]) (fun(l,s)=>⟨[dO (nf l s)],[],[]⟩)
def Zf:HH:=hF ag8 func148 [ait] a0 fun x hp hb=>by
 obtain⟨l,s⟩:=x
 clear hp hb
 apply vE (let x0:=jO (l.length) fun(j:Nat)=>decide (l.getD j ai=s);Lb (decide (x0≥0)) (nf l s))
 dsimp only
 refine cg ?_
 show decide (0<=jO l.length (fun j=>decide (l.getD j ai=s)))=_
 rw[Cb]
 by_cases h:nf l s=true
 ·rw[h]
  obtain⟨j,hj,hs⟩:=sT (qd.1 h)
  exact iF hj (decide_eq_true (by rw[eV,fE hj];exact hs))
 ·rw[wI] at h
  rw[h]
  exact gz fun j hj=>decide_eq_false fun e=>absurd (LB hj e) (by rw[h];decide)
def afA:=bW (α:=bc) (q1 (qA .bB)) [.ro] (fun _=>[]) (fun r=>⟨[dI (cS r.aH:Int)],[],[]⟩)
def F5(r:bc):Int×Int×T1×Unit->Prop:=fun(n,i,b,_)=>b=(r.Name,r.jp,r.aH,r.aV,r.bH,())/\0<=i/\i<=r.aH.length/\n=cS (r.aH.take i.toNat)
def xI(r:bc):Int×Int×T1×Unit->Nat:=fun(n,i,b,_)=>r.aH.length-i.toNat
def apQ:AX afA:=fun r=>bS [(3,aT [iI 3,iI 4,.box 1 (1,1024) [.lit .str,.lit (.int .i64),.shr .dB,.shr .ca,.shr .dE]] (fun _=>F5 r) (xI r))]
def TV:HH:=hF afA func84 [] apQ fun(r:bc) hp hb=>by
 have ey:=ma (x:=r) (hb _ m0)
 have kY:=ey.1
 have kX:=ey.2.1
 have jP:=ey.2.2.1
 have kZ:=ey.2.2.2
 clear hp hb
 apply vE (F5 r (0,0,(r.Name,r.jp,r.aH,r.aV,r.bH,()),())/\∀(y:Int×Int×T16×PUnit),let x1:=y.2.2.1.2.2.1.length;let x2:=y.2.1.toNat;let x0:=(↑x1:Int);let q0:=(y.2.2.1.1,y.2.2.1.2.1,y.2.2.1.2.2.1,y.2.2.1.2.2.2.1,y.2.2.1.2.2.2.2.1,());let q1:=(wrap i64 (y.1+1),wrap i64 (y.2.1+1),q0,());let q2:=(y.1,wrap i64 (y.2.1+1),q0,());F5 r y->bif decide (y.2.1<x0) then 0<=y.2.1/\x2<x1/\bif !(y.2.2.1.2.2.1.getD x2 cF).Not then F5 r q1/\xI r q1<xI r y else F5 r q2/\xI r q2<xI r y else Li y.1 (↑(cS r.aH):Int))
 dsimp only
 refine⟨⟨rfl,by omega,by omega,rfl⟩,?_⟩
 rintro⟨n,i,⟨b1,b2,b3,b4,b5,⟨⟩⟩,⟨⟩⟩ ⟨sq,h1,h2,rfl⟩
 cases sq
 simp only
 refine ae ?_ ?_<;>intro hc
 ·have hc:=yT hc
  have hs:=GZ r.aH h1 hc
  have hle:cS (r.aH.take i.toNat)<=i.toNat:=Od _ _
  rw[wi (n:=i+1),wrap_i64 (n:=(cS (r.aH.take i.toNat):Int)+1) (by omega) (by omega)]
  have hm:i.toNat<r.aH.length:=by omega
  refine⟨by omega,by omega,ae (fun h=>⟨⟨rfl,by omega,by omega,?_⟩,by simp only[xI];omega⟩) (fun h=>⟨⟨rfl,by omega,by omega,?_⟩,by simp only[xI];omega⟩)⟩
  ·rw[hs,if_pos h];omega
  ·rw[hs,if_neg (by rw[h];decide)];omega
 ·have hc:=yF hc
  rw[cA r.aH (by omega)]
  exact aY _
def afw:=bW (α:=bc) (q1 (qA .bB)) [.ro] (fun _=>[]) (fun r=>⟨[dI (cS r.aH:Int)],[],[]⟩)
def F4(r:bc):Int×Int×Unit->Prop:=fun(n,i,_)=>0<=i/\i<=r.aH.length/\n=cS (r.aH.take i.toNat)
def xH(r:bc):Int×Int×Unit->Nat:=fun(n,i,_)=>r.aH.length-i.toNat
def apM:AX afw:=fun r=>bS [(3,aT [iI 3,iI 9] (fun _=>F4 r) (xH r))]
def ab5:HH:=hF afw func96 [] apM fun(r:bc) hp hb=>by
 have ey:=ma (x:=r) (hb _ m0)
 have kY:=ey.1
 have kX:=ey.2.1
 have jP:=ey.2.2.1
 have kZ:=ey.2.2.2
 clear hp hb
 apply vE (F4 r (0,0,())/\∀(y:Int×Int×PUnit),let x0:=y.2.1.toNat;let q0:=(wrap i64 (y.1+1),wrap i64 (y.2.1+1),());let q1:=(y.1,wrap i64 (y.2.1+1),());F4 r y->bif decide (y.2.1<(r.aH.length:Int)) then 0<=y.2.1/\x0<r.aH.length/\bif !(r.aH.getD x0 cF).Not then F4 r q0/\xH r q0<xH r y else F4 r q1/\xH r q1<xH r y else Li y.1 (↑(cS r.aH):Int))
 dsimp only
 refine⟨⟨by omega,by omega,rfl⟩,?_⟩
 rintro⟨n,i,⟨⟩⟩ ⟨h1,h2,rfl⟩
 simp only
 refine ae ?_ ?_<;>intro hc
 ·have hc:=yT hc
  have hs:=GZ r.aH h1 hc
  have hle:cS (r.aH.take i.toNat)<=i.toNat:=Od _ _
  rw[wi (n:=i+1),wrap_i64 (n:=(cS (r.aH.take i.toNat):Int)+1) (by omega) (by omega)]
  have hm:i.toNat<r.aH.length:=by omega
  refine⟨by omega,by omega,ae (fun h=>⟨⟨by omega,by omega,?_⟩,by simp only[xH];omega⟩) (fun h=>⟨⟨by omega,by omega,?_⟩,by simp only[xH];omega⟩)⟩
  ·rw[hs,if_pos h];omega
  ·rw[hs,if_neg (by rw[h];decide)];omega
 ·have hc:=yF hc
  rw[cA r.aH (by omega)]
  exact aY _
def Yp:=bW (α:=cr) (q1 (qA .dB)) [.ro] (fun p=>[L4 p.ay.length]) (fun p=>⟨[dL .str (dH [] p.ay)],[],[]⟩)
def zI(p:cr):List BA×Int×O'×Unit->Prop:=fun(l,i,b,_)=>b=(p.Kind,p.ay,p.Not,())/\0<=i/\i<=p.ay.length/\l=dH [] (p.ay.take i.toNat)
def rB(p:cr):List BA×Int×O'×Unit->Nat:=fun(l,i,b,_)=>p.ay.length-i.toNat
def aj1:AX Yp:=fun p=>bS [(3,aT [iO 3 .str,iI 4,.box 1 (1,1024) [.lit .str,.shr .gM,.lit .bool]] (fun _=>zI p) (rB p))]
def aiA:HH:=hF Yp func188 [Ub] aj1 fun(p:cr) hp hb=>by
 have ey:=IT (x:=p) (hb _ m0)
 have Hc:=ey.1
 have Hd:=ey.2
 have bo:p.ay.length<=4294967296:=hp _ m0
 clear hp hb
 apply vE (zI p ([],0,(p.Kind,p.ay,p.Not,()),())/\∀(y:List BA×Int×T20×PUnit),let x4:=y.2.2.1.2.1.length;let x5:=y.2.1.toNat;let x2:=y.2.2.1.2.1.getD x5 mX;let x3:=(↑x4:Int);let x1:=x2.S;let x0:=[x1];let q0:=(y.1,wrap i64 (y.2.1+1),(y.2.2.1.1,y.2.2.1.2.1,y.2.2.1.2.2.1,()),());let q1:=(y.1++x0,wrap i64 (y.2.1+1),(y.2.2.1.1,y.2.2.1.2.1,y.2.2.1.2.2.1,()),());let q2:=zI p q0/\rB p q0<rB p y;zI p y->bif decide (y.2.1<x3) then 0<=y.2.1/\x5<x4/\bif x2.K==1 then 0<=y.2.1/\x5<x4/\bif !nf y.1 x1 then 0<=y.2.1/\x5<x4/\L4 (y.1.length+x0.length)/\zI p q1/\rB p q1<rB p y else q2 else q2 else Lf [VL .str y.1] [VL .str (dH [] p.ay)])
 dsimp only
 refine⟨⟨rfl,by omega,by omega,rfl⟩,?_⟩
 rintro⟨l,i,⟨b1,b2,b3,⟨⟩⟩,⟨⟩⟩ ⟨sq,h1,h2,rfl⟩
 cases sq
 simp only
 refine ae ?_ ?_<;>intro hc
 ·have hc:=yT hc
  have hs:=zt [] p.ay h1 hc
  have hl:=jG (p.ay.take i.toNat) []
  have Bz:(p.ay.take i.toNat).length<=i.toNat:=by rw[oq];omega
  simp only[fz] at hl
  rw[wi]
  have hm:∀x:List BA,rB p (x,i+1,(p.Kind,p.ay,p.Not,PUnit.unit),PUnit.unit)<rB p (dH [] (p.ay.take i.toNat),i,(p.Kind,p.ay,p.Not,PUnit.unit),PUnit.unit):=fun x=>by simp only[rB];omega
  refine⟨by omega,by omega,ae (fun h=>⟨by omega,by omega,ae (fun g=>⟨by omega,by omega,by simp;omega,⟨rfl,by omega,by omega,?_⟩,hm _⟩) (fun g=>⟨⟨rfl,by omega,by omega,?_⟩,hm _⟩)⟩) (fun h=>⟨⟨rfl,by omega,by omega,?_⟩,hm _⟩)⟩
  ·rw[hs,nt,if_pos (eq_of_beq h),fg,if_neg (by simpa using g)]
  ·rw[hs,nt,if_pos (eq_of_beq h),fg,if_pos (by simpa using g)]
  ·rw[hs,nt,if_neg (fun e=>by rw[e] at h;simp at h)]
 ·have hc:=yF hc
  rw[cA p.ay (by omega)]
  exact aY _
def YM:=bW (α:=bc) (q1 (qA .bB)) [.ro] (fun r=>[L4 (dM r.aH)]) (fun r=>⟨[dL .str (cW r.aH)],[],[]⟩)
def DU(r:bc):List BA×Int×T1×Unit->Prop:=fun(l,i,b,_)=>b=(r.Name,r.jp,r.aH,r.aV,r.bH,())/\0<=i/\i<=r.aH.length/\l=cW (r.aH.take i.toNat)
def zB(r:bc):List BA×Int×T1×Unit->Nat:=fun(l,i,b,_)=>r.aH.length-i.toNat
def zT(r:bc):List BA×Int×List BA×Int×T1×Unit->List BA×Int×List BA×Int×T1×Unit->Prop:=fun(l0,i0,v0,k0,b0,_) (l,i,v,k,b,_)=>b=(r.Name,r.jp,r.aH,r.aV,r.bH,())/\i=i0/\v=v0/\0<=k/\k<=v.length/\l=(v.take k.toNat).foldl fg l0/\(k=0\/(r.aH.getD i.toNat cF).Not=false)
def t_(r:bc):List BA×Int×List BA×Int×T1×Unit->Nat:=fun(l,i,v,k,b,_)=>v.length-k.toNat
def akn:AX YM:=fun r=>bS [(3,aT [iO 3 .str,iI 4,.box 1 (1,1024) [.lit .str,.lit (.int .i64),.shr .dB,.shr .ca,.shr .dE]] (fun _=>DU r) (zB r)),(7,aT [iO 3 .str,iI 4,iO 5 .str,iI 6,.box 1 (1,1024) [.lit .str,.lit (.int .i64),.shr .dB,.shr .ca,.shr .dE]] (zT r) (t_ r))]
def Zi:HH:=hF YM func132 [aiA,Ub] akn fun(r:bc) hp hb=>by
 have ey:=ma (x:=r) (hb _ m0)
 have kY:=ey.1
 have kX:=ey.2.1
 have jP:=ey.2.2.1
 have kZ:=ey.2.2.2
 have bo:dM r.aH<=4294967296:=hp _ m0
 clear hp hb
 apply vE (let q0:=BA×Int×List cr×List dy×List ez×PUnit;DU r ([],0,(r.Name,r.jp,r.aH,r.aV,r.bH,()),())/\∀(y:List BA×Int×q0×PUnit),let x2:=y.2.2.1.2.2.1.length;let x3:=y.2.1.toNat;let x0:=(y.2.2.1.2.2.1.getD x3 cF).ay;let x1:=(↑x2:Int);let q1:=(y.1,y.2.1,dH [] x0,0,(y.2.2.1.1,y.2.2.1.2.1,y.2.2.1.2.2.1,y.2.2.1.2.2.2.1,y.2.2.1.2.2.2.2.1,()),());DU r y->bif decide (y.2.1<x1) then 0<=y.2.1/\x3<x2/\L4 x0.length/\zT r q1 q1/\∀(aF:List BA×Int×List BA×Int×q0×PUnit),let x6:=aF.2.2.2.1.toNat;let x8:=aF.2.2.1.length;let x9:=aF.2.1.toNat;let x5:=aF.2.2.1.getD x6 ai;let x7:=(↑x8:Int);let x4:=[x5];let q2:=(aF.2.2.2.2.1.1,aF.2.2.2.2.1.2.1,aF.2.2.2.2.1.2.2.1,aF.2.2.2.2.1.2.2.2.1,aF.2.2.2.2.1.2.2.2.2.1,());let q3:=(aF.1,wrap i64 (aF.2.1+1),q2,());let q4:=(aF.1++x4,aF.2.1,aF.2.2.1,wrap i64 (aF.2.2.2.1+1),q2,());let q5:=(aF.1,aF.2.1,aF.2.2.1,wrap i64 (aF.2.2.2.1+1),q2,());let q6:=DU r q3/\zB r q3<zB r y;zT r q1 aF->bif decide (aF.2.2.2.1<x7) then 0<=aF.2.1/\x9<aF.2.2.2.2.1.2.2.1.length/\bif !(aF.2.2.2.2.1.2.2.1.getD x9 cF).Not then 0<=aF.2.2.2.1/\x6<x8/\x6<x8/\bif !nf aF.1 x5 then 0<=aF.2.2.2.1/\x6<x8/\x6<x8/\L4 (aF.1.length+x4.length)/\zT r q1 q4/\t_ r q4<t_ r aF else zT r q1 q5/\t_ r q5<t_ r aF else q6 else q6 else Lf [VL .str y.1] [VL .str (cW r.aH)])
 dsimp only
 refine⟨⟨rfl,by omega,by omega,rfl⟩,?_⟩
 rintro⟨l,i,⟨b1,b2,b3,b4,b5,⟨⟩⟩,⟨⟩⟩ ⟨sq,h1,h2,rfl⟩
 cases sq
 simp only
 refine ae ?_ ?_<;>intro hc
 ·have hc:=yT hc
  have hs:cW (r.aH.take (i+1).toNat)=jm (cW (r.aH.take i.toNat)) (r.aH.getD i.toNat cF):=nY jm [] r.aH cF h1 hc
  have ha:=EK r.aH h1 hc
  have hl:=wV (r.aH.take i.toNat) []
  simp only[fz,vB] at hl
  have hv:=jG (r.aH.getD i.toNat cF).ay []
  simp only[fz,vB] at hv
  refine⟨by omega,by omega,by omega,⟨rfl,rfl,rfl,by omega,by omega,rfl,.inl rfl⟩,?_⟩
  rintro⟨l',i',v,k,⟨b1,b2,b3,b4,b5,⟨⟩⟩,⟨⟩⟩ ⟨sq,rfl,rfl,g1,g2,rfl,g3⟩
  cases sq
  simp only
  have Cj:=tG ((dH [] (r.aH.getD i'.toNat cF).ay).take k.toNat) (cW (r.aH.take i'.toNat))
  have anR:((dH [] (r.aH.getD i'.toNat cF).ay).take k.toNat).length<=k.toNat:=by rw[oq];omega
  have Iw:(cW (r.aH.take i'.toNat)).length<=dM (r.aH.take i'.toNat):=hl
  have qG:(dH [] (r.aH.getD i'.toNat cF).ay).length<=(r.aH.getD i'.toNat cF).ay.length:=hv
  refine ae ?_ ?_<;>intro hk
  ·have hk:=yT hk
   have hf:=nY fg (cW (r.aH.take i'.toNat)) (dH [] (r.aH.getD i'.toNat cF).ay) ai g1 hk
   rw[wi (n:=k+1),wi (n:=i'+1)]
   refine⟨by omega,by omega,ae (fun hn=> ?_) (fun hn=> ?_)⟩
   ·have hn:(r.aH.getD i'.toNat cF).Not=false:=by simpa using hn
    have XG:k.toNat<(dH [] (r.aH.getD i'.toNat cF).ay).length:=by omega
    refine⟨g1,XG,XG,ae (fun g=>⟨g1,XG,XG,by simp only[fP,fz];omega,⟨rfl,rfl,rfl,by omega,by omega,?_,.inr hn⟩,by simp only[t_];omega⟩) (fun g=>⟨⟨rfl,rfl,rfl,by omega,by omega,?_,.inr hn⟩,by simp only[t_];omega⟩)⟩
    ·rw[hf,fg,if_neg (by simpa using g)]
    ·rw[hf,fg,if_pos (by simpa using g)]
   ·have hn:(r.aH.getD i'.toNat cF).Not=true:=by simpa using hn
    have Ci:k=0:=g3.resolve_right (by rw[hn];decide)
    subst Ci
    refine⟨⟨rfl,by omega,by omega,?_⟩,by simp only[zB];omega⟩
    rw[hs,jm,if_pos hn]
    rfl
  ·have hk:=yF hk
   rw[wi (n:=i'+1)]
   refine⟨⟨rfl,by omega,by omega,?_⟩,by simp only[zB];omega⟩
   rw[hs,jm]
   by_cases hn:(r.aH.getD i'.toNat cF).Not=true
   ·have Ci:k=0:=g3.resolve_right (by rw[hn];decide)
    subst Ci
    rw[if_pos hn];rfl
   ·rw[if_neg hn,cA (dH [] (r.aH.getD i'.toNat cF).ay) (by omega)]
 ·have hc:=yF hc
  rw[cA r.aH (by omega)]
  exact aY _
def agz:=bW (α:=(List BA)×BA) (qC (qL .str) (q1 qS)) [.mv,.ro] (fun(l,name)=>[l.length<=4294967295]) (fun(l,name)=>⟨[dL .str (fg l name)],[],[]⟩)
def aia:HH:=hF agz func224 [Zf] a0 fun x hp hb=>by
 obtain⟨l,name⟩:=x
 have jQ:L9 l.length:=kG (hb _ m0)
 have Cg:=ON (s:=name) (hb _ m1)
 have bo:l.length<=4294967295:=hp _ m0
 clear hp hb
 apply vE (bif nf l name then Lf [VL .str l] [VL .str (fg l name)] else l.length+List.length [name]<=4294967296/\Lf [VL .str (l++[name])] [VL .str (fg l name)])
 refine ae (fun h=> ?_) (fun h=>⟨by simp;omega,?_⟩)
 ·rw[fg,if_pos h];exact aY _
 ·rw[fg,if_neg (by rw[h];decide)];exact aY _
def Yj:=bW (α:=(List BA)×(List cM)) (qC (qL .str) (q1 (qL .gM))) [.mv,.ro] (fun(l,args)=>[l.length+args.length<=4294967295]) (fun(l,args)=>⟨[dL .str (dH l args)],[],[]⟩)
def zH(l:List BA)(args:List cM):List BA×Int×Unit->Prop:=fun(v,i,_)=>0<=i/\i<=args.length/\v=dH l (args.take i.toNat)
def tT(l:List BA)(args:List cM):List BA×Int×Unit->Nat:=fun(v,i,_)=>args.length-i.toNat
def ajV:AX Yj:=fun(l,args)=>bS [(2,aT [iO 0 .str,iI 9] (fun _=>zH l args) (tT l args))]
def Y6:HH:=hF Yj func199 [aia] ajV fun x hp hb=>by
 obtain⟨l,args⟩:=x
 have jQ:L9 l.length:=kG (hb _ m0)
 have akF:L9 args.length:=kG (hb _ m1)
 have bo:l.length+args.length<=4294967295:=hp _ m0
 clear hp hb
 apply vE (zH l args (l,0,())/\∀(y:List BA×Int×PUnit),let x1:=y.2.1.toNat;let x0:=args.getD x1 mX;let q0:=(fg y.1 x0.S,wrap i64 (y.2.1+1),());let q1:=(y.1,wrap i64 (y.2.1+1),());zH l args y->bif decide (y.2.1<(args.length:Int)) then 0<=y.2.1/\x1<args.length/\bif x0.K==1 then y.1.length<=4294967295/\zH l args q0/\tT l args q0<tT l args y else zH l args q1/\tT l args q1<tT l args y else Lf [VL .str y.1] [VL .str (dH l args)])
 dsimp only
 refine⟨⟨by omega,by omega,rfl⟩,?_⟩
 rintro⟨v,i,⟨⟩⟩ ⟨h1,h2,rfl⟩
 simp only
 refine ae ?_ ?_<;>intro hc
 ·have hc:=yT hc
  have hs:=zt l args h1 hc
  have hl:=jG (args.take i.toNat) l
  have Bz:(args.take i.toNat).length<=i.toNat:=by rw[oq];omega
  rw[wi]
  refine⟨by omega,by omega,ae (fun h=>⟨by omega,⟨by omega,by omega,?_⟩,by simp only[tT];omega⟩) (fun h=>⟨⟨by omega,by omega,?_⟩,by simp only[tT];omega⟩)⟩
  ·rw[hs,nt,if_pos (eq_of_beq h)]
  ·rw[hs,nt,if_neg (fun e=>by rw[e] at h;simp at h)]
 ·have hc:=yF hc
  rw[cA args (by omega)]
  exact aY _
def YE:=bW (α:=bc) (q1 (qA .bB)) [.ro] (fun r=>[dM r.aH<=4294967295]) (fun r=>⟨[dL .str (jl r.aH)],[],[]⟩)
def zQ(r:bc):List BA×Int×Unit->Prop:=fun(v,i,_)=>0<=i/\i<=r.aH.length/\v=jl (r.aH.take i.toNat)
def tX(r:bc):List BA×Int×Unit->Nat:=fun(v,i,_)=>r.aH.length-i.toNat
def akf:AX YE:=fun r=>bS [(3,aT [iO 3 .str,iI 9] (fun _=>zQ r) (tX r))]
def ai3:HH:=hF YE func146 [Y6] akf fun(r:bc) hp hb=>by
 have ey:=ma (x:=r) (hb _ m0)
 have kY:=ey.1
 have kX:=ey.2.1
 have jP:=ey.2.2.1
 have kZ:=ey.2.2.2
 have bo:dM r.aH<=4294967295:=hp _ m0
 clear hp hb
 apply vE (zQ r ([],0,())/\∀(y:List BA×Int×PUnit),let x2:=y.2.1.toNat;let x1:=r.aH.getD x2 cF;let x0:=x1.ay;let q0:=(dH y.1 x0,wrap i64 (y.2.1+1),());let q1:=(y.1,wrap i64 (y.2.1+1),());zQ r y->bif decide (y.2.1<(r.aH.length:Int)) then 0<=y.2.1/\x2<r.aH.length/\bif !x1.Not then y.1.length+x0.length<=4294967295/\zQ r q0/\tX r q0<tX r y else zQ r q1/\tX r q1<tX r y else Lf [VL .str y.1] [VL .str (jl r.aH)])
 dsimp only
 refine⟨⟨by omega,by omega,rfl⟩,?_⟩
 rintro⟨v,i,⟨⟩⟩ ⟨h1,h2,rfl⟩
 simp only
 refine ae ?_ ?_<;>intro hc
 ·have hc:=yT hc
  have hs:jl (r.aH.take (i+1).toNat)=lE (jl (r.aH.take i.toNat)) (r.aH.getD i.toNat cF):=nY lE [] r.aH cF h1 hc
  have ha:=EK r.aH h1 hc
  have hl:=yn (r.aH.take i.toNat) []
  simp only[fz,vB] at hl
  have Iw:(jl (r.aH.take i.toNat)).length<=dM (r.aH.take i.toNat):=hl
  rw[wi]
  refine⟨by omega,by omega,ae (fun h=>⟨by omega,⟨by omega,by omega,?_⟩,by simp only[tX];omega⟩) (fun h=>⟨⟨by omega,by omega,?_⟩,by simp only[tX];omega⟩)⟩
  ·rw[hs,lE,if_neg (by simpa using h)]
  ·rw[hs,lE,if_pos (by simpa using h)]
 ·have hc:=yF hc
  rw[cA r.aH (by omega)]
  exact aY _
def jt(ps:List cr)(i:Nat):Bool:=(ps.getD i cF).Not
def vd(ps:List cr)(i:Nat):Bool:=gB (ps.getD i cF)&& !(decide (2<i)&& !jt ps i)&& !(decide (i=0)&&jt ps i)&& !(decide (0<i)&&jt ps (i-1)&& !jt ps i)
def mC(ps:List cr):Bool:=decide (1<=ps.length/\ps.length<=6)&&allI ps.length (vd ps)
def mD(ps:List cr)(i:Nat):Bool:=gB (ps.getD i cF)&&(jt ps i==decide (cS ps<=i))
def ir(ps:List cr):Bool:=decide (1<=ps.length/\ps.length<=6)&&decide (1<=cS ps/\cS ps<=3)&&allI ps.length (mD ps)
theorem gb{n:Nat}{p:Nat->Bool}:allI n p=true↔∀j,j<n->p j=true:=by simp[allI]
theorem se(p:cr)(ps:List cr):cS (p::ps)=(if p.Not then 0 else 1)+cS ps:=by
 simp only[cS,List.filter_cons]
 cases p.Not<;>simp<;>omega
theorem Lg:∀{ps:List cr},(∀i,i+1<ps.length->jt ps i=true->jt ps (i+1)=true)->∀i,i<ps.length->jt ps i=decide (cS ps<=i)
 |[],_,i,hi=>by simp at hi
 |p::ps,h,i,hi=>by
  have ih:=Lg (ps:=ps) (fun j hj hn=>h (j+1) (by simpa using hj) hn)
  rw[se]
  cases hp:p.Not with
  |false=>
   cases i with
   |zero=>show p.Not=_;rw[hp];simp
   |succ i=>
    show jt ps i=_
    rw[ih i (by simpa using hi)]
    simp only[xS,if_false,decide_eq_decide];omega
  |true=>
   have GG:∀j,j<(p::ps).length->jt (p::ps) j=true:=by
    intro j
    induction j with
    |zero=>intro _;exact hp
    |succ j ihj=>intro hj;exact h j hj (ihj (by omega))
   have h0:cS ps=0:=by
    cases ps with
    |nil=>rfl
    |cons q qs=>
     have h1:=ih 0 (by simp)
     have h2:jt (q::qs) 0=true:=GG 1 (by simp)
     rw[h2] at h1
     have:=yT h1.symm
     omega
   rw[GG i hi,h0];simp
theorem pY(ps:List cr):ir ps=mC ps:=by
 rw[Gd]
 simp only[ir,mC,cN,decide_eq_true_eq,gb]
 constructor
 ·rintro⟨⟨h1,h2⟩,h3⟩
  have hN:∀j,j<ps.length->jt ps j=decide (cS ps<=j):=fun j hj=>by
   have:=h3 j hj
   simp only[mD,cN,beq_iff_eq] at this
   exact this.2
  refine⟨h1,fun j hj=> ?_⟩
  have hk:=h3 j hj
  simp only[mD,cN] at hk
  simp only[vd,hk.1,hN j hj,wQ,cN,qK,Bool.and_eq_false_iff,decide_eq_false_iff_not,Bool.not_eq_false',decide_eq_true_eq]
  refine⟨⟨by omega,by omega⟩,?_⟩
  by_cases h0:0<j
  ·rw[hN (j-1) (by omega)];simp only[decide_eq_false_iff_not];omega
  ·exact .inl (.inl h0)
 ·rintro⟨h1,h2⟩
  have hA:∀j,j<ps.length->gB (ps.getD j cF)=true/\(2<j->jt ps j=true)/\(j=0->jt ps j=false)/\(0<j->jt ps (j-1)=true->jt ps j=true):=fun j hj=>by
   have:=h2 j hj
   simp only[vd,cN,qK,Bool.and_eq_false_iff,decide_eq_false_iff_not,Bool.not_eq_false'] at this
   obtain⟨⟨⟨a1,a2⟩,a3⟩,a4⟩:=this
   refine⟨a1,fun h=>a2.resolve_left (fun e=>e h),fun h=>a3.resolve_left (fun e=>e h),fun h hn=>a4.resolve_left (fun e=> ?_)⟩
   rcases e with e|e
   ·exact e h
   ·rw[hn] at e;cases e
  have hN:=Lg (ps:=ps) (fun i hi hn=>(hA (i+1) hi).2.2.2 (by omega) (by simpa using hn))
  have hz:=(hA 0 (by omega)).2.2.1 rfl
  rw[hN 0 (by omega)] at hz
  have hz:=yF hz
  have hle:cS ps<=ps.length:=Mw _ _
  refine⟨⟨h1,by omega,?_⟩,fun j hj=> ?_⟩
  ·by_cases h4:3<ps.length
   ·have:=(hA 3 h4).2.1 (by omega)
    rw[hN 3 h4] at this
    exact yT this
   ·omega
  ·simp only[mD,(hA j hj).1,hN j hj];simp
def eZ(vars:List BA)(a:cM):Bool:= !decide (a.K=1)||nf vars a.S
def na(vars:List BA)(c:dy):Bool:=jv c&&eZ vars c.L&&eZ vars c.R
def kV(l:List dy)(vars:List BA):Bool:=decide (l.length<=6)&&l.all (na vars)
def jR(vars:List BA)(e:cv):Bool:=eZ vars e.L&&eZ vars e.R
def ib(pos:Int)(a:ez):Bool:= !(decide (a.Kind=2)&&decide (pos<=a.N))
def nO(vars:List BA)(pos:Int)(a:ez):Bool:=dx a&&ib pos a&&a.ay.all (jR vars)
def lN(l:List ez)(vars:List BA)(pos:Int):Bool:=decide (1<=l.length/\l.length<=6)&&l.all (nO vars pos)
def fR(r:bc):Bool:=bu r.Name&&decide (-100<=r.jp/\r.jp<=100)&&mC r.aH&&kV r.aV (cW r.aH)&&lN r.bH (cW r.aH) (cS r.aH)
theorem H_(ps:List cr):dM ps<=kJ ps:=by
 simp only[dM,kJ]
 have:∀l:List cr,(l.map fun p=>p.ay.length).sum<=(l.map kq).sum:=by
  intro l
  induction l with
  |nil=>exact uh _
  |cons p l ih=>simp only[wH,MI,kq,uY] at ih⊢;omega
 have:=this ps;omega
theorem SQ(ps:List cr)(t:BA):nf (jl ps) t=nf (cW ps) t:=by
 rw[Gd,qd,qd,K7,yo]
def nG(l:List BA)(c:dy):List BA:=dH l [c.L,c.R]
def uj(l:List BA)(e:cv):List BA:=dH l [e.L,e.R]
def qW(l:List BA)(a:ez):List BA:=a.ay.foldl uj l
def ou(r:bc):List BA:=r.bH.foldl qW (r.aV.foldl nG [])
def qV(l:List ez):Nat:=(l.map fun a=>2*a.ay.length).sum
theorem Pc(l:List BA)(c:dy):(nG l c).length<=l.length+2:=jG _ _
theorem Ad:∀(es:List cv)(l:List BA),(es.foldl uj l).length<=l.length+2*es.length
 |[],l=>uh _
 |e::es,l=>by
  have h1:=Ad es (uj l e)
  have h2:(uj l e).length<=l.length+2:=jG _ _
  show(es.foldl uj (uj l e)).length<=_
  simp only[fP];omega
theorem sV:∀(cs:List dy)(l:List BA),(cs.foldl nG l).length<=l.length+2*cs.length
 |[],l=>uh _
 |c::cs,l=>by
  have h1:=sV cs (nG l c)
  have h2:=Pc l c
  show(cs.foldl nG (nG l c)).length<=_
  simp only[fP];omega
theorem xa:∀(xs:List ez)(l:List BA),(xs.foldl qW l).length<=l.length+qV xs
 |[],l=>uh _
 |a::xs,l=>by
  have h1:=xa xs (qW l a)
  have h2:(qW l a).length<=l.length+2*a.ay.length:=Ad _ _
  show(xs.foldl qW (qW l a)).length<=_
  simp only[qV,wH,MI] at h1⊢;omega
theorem Q4(l:List ez){i:Int}(h0:0<=i)(h:i<l.length):qV (l.take i.toNat)+2*(l.getD i.toNat dj).ay.length<=qV l:=by
 have h1:qV (l.take (i+1).toNat)<=qV l:=by
  have h:=congrArg (fun q=>(q.map fun a:ez=>2*a.ay.length).sum) (Uv (i+1).toNat l)
  simp only[Ko,Zy] at h
  simp only[qV];omega
 rw[<-dl l dj h0 h] at h1
 simp only[qV,Ko,Zy,wH,List.map_nil,MI,List.sum_nil] at h1⊢
 omega
def names(t:BA)(a:cM):Prop:=a.K=1/\t=a.S
theorem GN{l:List BA}{a b:cM}{t:BA}:t∈dH l [a,b]↔t∈l\/names t a\/names t b:=by
 rw[rz];simp[names]
theorem GM{t:BA}:∀{es:List cv}{l:List BA},t∈es.foldl uj l↔t∈l\/∃e∈es,names t e.L\/names t e.R
 |[],l=>by simp
 |e::es,l=>by
  show t∈es.foldl uj (uj l e)↔_
  rw[GM,uj,GN]
  simp only[kc,exists_eq_or_imp,or_assoc]
theorem sU{t:BA}:∀{cs:List dy}{l:List BA},t∈cs.foldl nG l↔t∈l\/∃c∈cs,names t c.L\/names t c.R
 |[],l=>by simp
 |c::cs,l=>by
  show t∈cs.foldl nG (nG l c)↔_
  rw[sU,nG,GN]
  simp only[kc,exists_eq_or_imp,or_assoc]
theorem nT{t:BA}:∀{xs:List ez}{l:List BA},t∈xs.foldl qW l↔t∈l\/∃a∈xs,∃e∈a.ay,names t e.L\/names t e.R
 |[],l=>by simp
 |a::xs,l=>by
  show t∈xs.foldl qW (qW l a)↔_
  rw[nT,qW,GM]
  simp only[kc,exists_eq_or_imp,or_assoc]
theorem Lq{vars:List BA}{a:cM}:eZ vars a=true↔∀t,names t a->nf vars t=true:=by
 simp only[eZ,Gc,qK,decide_eq_false_iff_not,names]
 constructor
 ·rintro(h|h) t ⟨h1,rfl⟩
  ·exact absurd h1 h
  ·exact h
 ·intro h
  by_cases h1:a.K=1
  ·exact .inr (h a.S ⟨h1,rfl⟩)
  ·exact .inl h1
theorem Q3(r:bc)(vars:List BA):(ou r).all (nf vars)=(r.aV.all (fun c=>eZ vars c.L&&eZ vars c.R)&&r.bH.all fun a=>a.ay.all (jR vars)):=by
 rw[Gd]
 simp only[cN,sP,jR,Lq,ou]
 constructor
 ·intro h
  refine⟨fun c hc=>⟨fun t ht=>h t ?_,fun t ht=>h t ?_⟩,fun a ha e he=>⟨fun t ht=>h t ?_,fun t ht=>h t ?_⟩⟩
  ·rw[nT,sU];exact .inl (.inr ⟨c,hc,.inl ht⟩)
  ·rw[nT,sU];exact .inl (.inr ⟨c,hc,.inr ht⟩)
  ·rw[nT];exact .inr ⟨a,ha,e,he,.inl ht⟩
  ·rw[nT];exact .inr ⟨a,ha,e,he,.inr ht⟩
 ·rintro⟨h1,h2⟩ t ht
  rw[nT,sU] at ht
  rcases ht with(ht|⟨c,hc,ht|ht⟩)|⟨a,ha,e,he,ht|ht⟩
  ·cases ht
  ·exact(h1 c hc).1 t ht
  ·exact(h1 c hc).2 t ht
  ·exact(h2 a ha e he).1 t ht
  ·exact(h2 a ha e he).2 t ht
def mh(r:bc):Bool:=bu r.Name&&decide (-100<=r.jp/\r.jp<=100)&&mC r.aH&&decide (r.aV.length<=6)&&decide (1<=r.bH.length/\r.bH.length<=6)&&r.aV.all jv&&r.bH.all (fun a=>dx a&&ib (cS r.aH) a)&&(ou r).all (nf (jl r.aH))
theorem OW{α:Type}(p q:α->Bool)(l:List α):l.all (fun x=>p x&&q x)=(l.all p&&l.all q):=by
 induction l with
 |nil=>rfl
 |cons x l ih=>simp only[QV,ih];cases p x<;>cases q x<;>simp
theorem Ey(r:bc):mh r=fR r:=by
 have e1:(ou r).all (nf (jl r.aH))=(ou r).all (nf (cW r.aH)):=by
  have:nf (jl r.aH)=nf (cW r.aH):=funext fun t=>SQ _ _
  rw[this]
 have e2:r.aV.all (na (cW r.aH))=(r.aV.all jv&&r.aV.all (fun c=>eZ (cW r.aH) c.L&&eZ (cW r.aH) c.R)):=by
  rw[<-OW]
  congr 1;funext c;simp only[na,Bool.and_assoc]
 have e3:r.bH.all (nO (cW r.aH) (cS r.aH))=(r.bH.all (fun a=>dx a&&ib (cS r.aH) a)&&r.bH.all (fun a=>a.ay.all (jR (cW r.aH)))):=by
  rw[<-OW];rfl
 simp only[mh,fR,kV,lN,e1,e2,e3,Q3]
 rw[Gd]
 simp only[cN]
 constructor
 ·rintro⟨⟨⟨⟨⟨⟨⟨a1,a2⟩,a3⟩,a4⟩,a5⟩,a6⟩,a7⟩,a8,a9⟩
  exact⟨⟨⟨⟨a1,a2⟩,a3⟩,a4,a6,a8⟩,a5,a7,a9⟩
 ·rintro⟨⟨⟨⟨a1,a2⟩,a3⟩,a4,a6,a8⟩,a5,a7,a9⟩
  exact⟨⟨⟨⟨⟨⟨⟨a1,a2⟩,a3⟩,a4⟩,a5⟩,a6⟩,a7⟩,a8,a9⟩
theorem aR{p:Prop}[Decidable p]{P Q:Prop}(h1:p->P)(h2:¬p->Q):bif decide p then P else Q:=ae (fun h=>h1 (yT h)) (fun h=>h2 (yF h))
theorem bx{b:Bool}{P Q:Prop}(h1:b=false->P)(h2:b=true->Q):bif !b then P else Q:=ae (fun h=>h1 (by simpa using h)) (fun h=>h2 (by simpa using h))
theorem bg{a b:Int}{P Q:Prop}(h1:a=b->P)(h2:¬a=b->Q):bif a==b then P else Q:=ae (fun h=>h1 (eq_of_beq h)) (fun h=>h2 (fun e=>by rw[e] at h;simp at h))
theorem Z2{α:Type}(f:α->Nat)(B:Nat):∀(l:List α),(∀x∈l,f x<=B)->(l.map f).sum<=l.length*B
 |[],_=>by simp
 |x::l,h=>by
  have h1:=Z2 f B l (fun y hy=>h y (fF _ hy))
  have h2:=h x iH
  simp only[wH,MI,fP,xT];omega
theorem Lc{ps:List cr}(h:mC ps=true):dM ps<=30:=by
 simp only[mC,cN,decide_eq_true_eq,gb] at h
 have:=Z2 (fun p:cr=>p.ay.length) 5 ps (fun p hp=>by
  obtain⟨i,hi,rfl⟩:=sT hp
  have hk:=h.2 i hi
  simp only[vd,cN,eV,fE hi,Gi] at hk
  have hk:=hk.1.1.1
  simp only[gB,cN,decide_eq_true_eq] at hk
  exact hk.1.2)
 simp only[dM];omega
theorem xE{a:ez}(h:dx a=true):a.ay.length<=5:=by
 simp only[dx,BH,e7] at h
 grind
theorem Mi{l:List ez}(hl:l.length<=6)(h:∀a∈l,dx a=true):qV l<=60:=by
 have:=Z2 (fun a:ez=>2*a.ay.length) 10 l (fun a ha=>by have:=xE (h a ha);omega)
 simp only[qV];omega
def agQ:=bW (α:=cM×(List BA)) (qC (qA .gM) (q1 (qL .str))) [.ro,.ro] (fun _=>[]) (fun(a,vars)=>⟨[dO (eZ vars a)],[],[]⟩)
def Ua:HH:=hF agQ func192 [Ub] a0 fun x hp hb=>by
 obtain⟨a,vars⟩:=x
 clear hp hb
 apply vE (bif a.K !=1 then Lb true (eZ vars a) else Lb (nf vars a.S) (eZ vars a))
 simp only[eZ]
 refine ae (fun h=>cg ?_) (fun h=>cg ?_)<;>grind
def YK:=bW (α:=(List dy)×(List BA)) (qC (qL .ca) (q1 (qL .str))) [.ro,.ro] (fun _=>[]) (fun(l,vars)=>⟨[dO (kV l vars)],[],[]⟩)
def DT(l:List dy)(vars:List BA):Int×Unit->Prop:=fun(i,_)=>0<=i/\i<=l.length/\(l.drop i.toNat).all (na vars)=l.all (na vars)
def C8(l:List dy)(vars:List BA):Int×Unit->Nat:=fun(i,_)=>l.length-i.toNat
def akl:AX YK:=fun(l,vars)=>bS [(2,aT [iI 5] (fun _=>DT l vars) (C8 l vars))]
def ai_:HH:=hF YK func134 [aiy,Ua] akl fun x hp hb=>by
 obtain⟨l,vars⟩:=x
 have jQ:L9 l.length:=kG (hb _ m0)
 have V8:L9 vars.length:=kG (hb _ m1)
 clear hp hb
 apply vE (let x0:=(l.length:Int);let q0:=Lb false (kV l vars);DT l vars (0,())/\∀(y:Int×PUnit),let x1:=l.getD y.1.toNat qN;let q1:=(wrap i64 (y.1+1),());DT l vars y->bif decide (y.1<x0) then 0<=y.1/\y.1.toNat<l.length/\bif !jv x1 then q0 else 0<=y.1/\y.1.toNat<l.length/\bif !eZ vars x1.L then q0 else 0<=y.1/\y.1.toNat<l.length/\bif !eZ vars x1.R then q0 else DT l vars q1/\C8 l vars q1<C8 l vars y else Lb (decide (x0<=6)) (kV l vars))
 dsimp only
 refine⟨⟨by omega,by omega,rfl⟩,?_⟩
 rintro⟨i,⟨⟩⟩ ⟨h1,h2,hR⟩
 simp only
 refine aR ?_ ?_<;>intro hc
 ·rw[dW _ _ qN h1 (by omega)] at hR
  rw[wi]
  have hN:na vars (l.getD i.toNat qN)=false->kV l vars=false:=fun h=>by simp only[kV,<-hR,h];simp
  refine⟨by omega,by omega,bx (fun h=>bD (hN ?_)) (fun h=>⟨by omega,by omega,bx (fun g=>bD (hN ?_)) (fun g=>⟨by omega,by omega,bx (fun k=>bD (hN ?_)) (fun k=>⟨⟨by omega,by omega,?_⟩,by simp only[C8];omega⟩)⟩)⟩)⟩
  ·simp only[na,h,qx]
  ·simp only[na,g,vC,qx]
  ·simp only[na,k,vC]
  ·rw[<-hR];simp only[na,h,g,k,wQ]
 ·rw[cz _ (by omega)] at hR
  refine cg ?_
  simp only[kV,<-hR];simp;omega
def YJ:=bW (α:=(List ez)×(List BA)×Int) (qC (qL .dE) (qC (qL .str) (q1 qI))) [.ro,.ro,.ro] (fun _=>[]) (fun(l,vars,pos)=>⟨[dO (lN l vars pos)],[],[]⟩)
def zS(l:List ez)(vars:List BA)(pos:Int):Int×Unit->Prop:=fun(i,_)=>0<=i/\i<=l.length/\(l.drop i.toNat).all (nO vars pos)=l.all (nO vars pos)
def tZ(l:List ez)(vars:List BA)(pos:Int):Int×Unit->Nat:=fun(i,_)=>l.length-i.toNat
def ud(l:List ez)(vars:List BA)(pos:Int):Int×Int×Unit->Int×Int×Unit->Prop:=fun(i0,k0,_) (i,k,_)=>i=i0/\0<=k/\k<=(l.getD i.toNat dj).ay.length/\((l.getD i.toNat dj).ay.drop k.toNat).all (jR vars)=(l.getD i.toNat dj).ay.all (jR vars)
def tY(l:List ez)(vars:List BA)(pos:Int):Int×Int×Unit->Nat:=fun(i,k,_)=>(l.getD i.toNat dj).ay.length-k.toNat
def akk:AX YJ:=fun(l,vars,pos)=>bS [(2,aT [iI 7] (fun _=>zS l vars pos) (tZ l vars pos)),(7,aT [iI 7,iI 8] (ud l vars pos) (tY l vars pos))]
def ai':HH:=hF YJ func135 [aix,Ua,sK] akk fun x hp hb=>by
 obtain⟨l,vars,pos⟩:=x
 have jQ:L9 l.length:=kG (hb _ m0)
 have V8:L9 vars.length:=kG (hb _ m1)
 have anI:=zk (n:=pos) (hb _ m2)
 clear hp hb
 apply vE (let x0:=(l.length:Int);let q0:=Lb false (lN l vars pos);zS l vars pos (0,())/\∀(y:Int×PUnit),let x1:=l.getD y.1.toNat dj;let q1:=(y.1,0,());zS l vars pos y->bif decide (y.1<x0) then 0<=y.1/\y.1.toNat<l.length/\bif !dx x1 then q0 else 0<=y.1/\y.1.toNat<l.length/\bif x1.Kind==2 then 0<=y.1/\y.1.toNat<l.length/\bif decide (x1.N≥pos) then q0 else ud l vars pos q1 q1/\∀(aF:Int×Int×PUnit),let x3:=aF.2.1.toNat;let x4:=(↑((l.getD aF.1.toNat dj).ay.length):Int);let x2:=(l.getD aF.1.toNat dj).ay.getD x3 fj;let q2:=(aF.1,wrap i64 (aF.2.1+1),());let q3:=(wrap i64 (aF.1+1),());ud l vars pos q1 aF->0<=aF.1/\aF.1.toNat<l.length/\bif decide (aF.2.1<x4) then 0<=aF.1/\aF.1.toNat<l.length/\0<=aF.2.1/\x3<(l.getD aF.1.toNat dj).ay.length/\bif !eZ vars x2.L then q0 else 0<=aF.1/\aF.1.toNat<l.length/\0<=aF.2.1/\x3<(l.getD aF.1.toNat dj).ay.length/\bif !eZ vars x2.R then q0 else ud l vars pos q1 q2/\tY l vars pos q2<tY l vars pos aF else zS l vars pos q3/\tZ l vars pos q3<tZ l vars pos y else ud l vars pos q1 q1/\∀(aF:Int×Int×PUnit),let x3:=aF.2.1.toNat;let x4:=(↑((l.getD aF.1.toNat dj).ay.length):Int);let x2:=(l.getD aF.1.toNat dj).ay.getD x3 fj;let q4:=(aF.1,wrap i64 (aF.2.1+1),());let q5:=(wrap i64 (aF.1+1),());ud l vars pos q1 aF->0<=aF.1/\aF.1.toNat<l.length/\bif decide (aF.2.1<x4) then 0<=aF.1/\aF.1.toNat<l.length/\0<=aF.2.1/\x3<(l.getD aF.1.toNat dj).ay.length/\bif !eZ vars x2.L then q0 else 0<=aF.1/\aF.1.toNat<l.length/\0<=aF.2.1/\x3<(l.getD aF.1.toNat dj).ay.length/\bif !eZ vars x2.R then q0 else ud l vars pos q1 q4/\tY l vars pos q4<tY l vars pos aF else zS l vars pos q5/\tZ l vars pos q5<tZ l vars pos y else Lb (decide (1<=x0/\x0<=6)) (lN l vars pos))
 dsimp only
 refine⟨⟨by omega,by omega,rfl⟩,?_⟩
 rintro⟨i,⟨⟩⟩ ⟨h1,h2,hR⟩
 simp only
 refine aR ?_ ?_<;>intro hc
 ·rw[dW _ _ dj h1 (by omega)] at hR
  have hN:nO vars pos (l.getD i.toNat dj)=false->lN l vars pos=false:=fun h=>by simp only[lN,<-hR,h];simp
  refine⟨by omega,by omega,bx (fun ha=>bD (hN (by simp only[nO,ha,qx]))) (fun ha=>⟨by omega,by omega,bg (fun lH=>⟨by omega,by omega,aR (fun hp=>bD (hN ?_)) (fun hp=> ?_)⟩) (fun lH=> ?_)⟩)⟩
  ·have:ib pos (l.getD i.toNat dj)=false:=by simp only[ib,lH,decide_eq_true (show pos<=(l.getD i.toNat dj).N from hp)];simp
   simp only[nO,this,vC,qx]
  ·have hd:ib pos (l.getD i.toNat dj)=true:=by simp only[ib,decide_eq_false (show¬pos<=(l.getD i.toNat dj).N from hp)];simp
   have h5:=xE ha
   refine⟨⟨rfl,by omega,by omega,rfl⟩,?_⟩
   rintro⟨i',k,⟨⟩⟩ ⟨rfl,g1,g2,gR⟩
   simp only
   refine⟨by omega,by omega,aR (fun hk=> ?_) (fun hk=> ?_)⟩
   ·rw[dW _ _ fj g1 (by omega)] at gR
    rw[wi (n:=k+1)]
    have hM:jR vars ((l.getD i'.toNat dj).ay.getD k.toNat fj)=false->lN l vars pos=false:=fun h=>hN (by simp only[nO,<-gR,h];simp)
    refine⟨by omega,by omega,g1,by omega,bx (fun e=>bD (hM ?_)) (fun e=>⟨by omega,by omega,g1,by omega,bx (fun f=>bD (hM ?_)) (fun f=>⟨⟨rfl,by omega,by omega,?_⟩,by simp only[tY];omega⟩)⟩)⟩
    ·simp only[jR,e,qx]
    ·simp only[jR,f,vC]
    ·rw[<-gR];simp only[jR,e,f,wQ]
   ·rw[cz _ (by omega)] at gR
    rw[wi (n:=i'+1)]
    refine⟨⟨by omega,by omega,?_⟩,by simp only[tZ];omega⟩
    rw[<-hR];simp only[nO,<-gR,hd,ha,QS,wQ]
  ·have hd:ib pos (l.getD i.toNat dj)=true:=by simp only[ib,decide_eq_false lH];simp
   have h5:=xE ha
   refine⟨⟨rfl,by omega,by omega,rfl⟩,?_⟩
   rintro⟨i',k,⟨⟩⟩ ⟨rfl,g1,g2,gR⟩
   simp only
   refine⟨by omega,by omega,aR (fun hk=> ?_) (fun hk=> ?_)⟩
   ·rw[dW _ _ fj g1 (by omega)] at gR
    rw[wi (n:=k+1)]
    have hM:jR vars ((l.getD i'.toNat dj).ay.getD k.toNat fj)=false->lN l vars pos=false:=fun h=>hN (by simp only[nO,<-gR,h];simp)
    refine⟨by omega,by omega,g1,by omega,bx (fun e=>bD (hM ?_)) (fun e=>⟨by omega,by omega,g1,by omega,bx (fun f=>bD (hM ?_)) (fun f=>⟨⟨rfl,by omega,by omega,?_⟩,by simp only[tY];omega⟩)⟩)⟩
    ·simp only[jR,e,qx]
    ·simp only[jR,f,vC]
    ·rw[<-gR];simp only[jR,e,f,wQ]
   ·rw[cz _ (by omega)] at gR
    rw[wi (n:=i'+1)]
    refine⟨⟨by omega,by omega,?_⟩,by simp only[tZ];omega⟩
    rw[<-hR];simp only[nO,<-gR,hd,ha,QS,wQ]
 ·rw[cz _ (by omega)] at hR
  refine cg ?_
  simp only[lN,<-hR,QS,B6];exact decide_eq_decide.2 (by omega)
def YL:=bW (α:=List cr) (q1 (qL .dB)) [.ro] (fun _=>[]) (fun l=>⟨[dO (mC l)],[],[]⟩)
def ue(l:List cr):Int×Unit->Prop:=fun(i,_)=>0<=i/\i<=l.length/\∀j:Nat,(j:Int)<i->vd l j=true
def mq(l:List cr):Int×Unit->Nat:=fun(i,_)=>l.length-i.toNat
def akm:AX YL:=fun l=>bS [(2,aT [iI 3] (fun _=>ue l) (mq l))]
def aja:HH:=hF YL func133 [aiz,sK] akm fun(l:List cr) hp hb=>by
 have jQ:L9 l.length:=kG (hb _ m0)
 clear hp hb
 apply vE (let x0:=(l.length:Int);let q0:=Lb false (mC l);ue l (0,())/\∀(y:Int×PUnit),let x1:=Int.toNat (wrap i64 (y.1-1));let q1:=bif decide (y.1>0) then 0<=wrap i64 (y.1-1)/\x1<l.length/\bif (l.getD x1 cF).Not then 0<=y.1/\y.1.toNat<l.length/\bif !(l.getD y.1.toNat cF).Not then q0 else ue l (wrap i64 (y.1+1),())/\mq l (wrap i64 (y.1+1),())<mq l y else ue l (wrap i64 (y.1+1),())/\mq l (wrap i64 (y.1+1),())<mq l y else ue l (wrap i64 (y.1+1),())/\mq l (wrap i64 (y.1+1),())<mq l y;let q2:=(0:Int)<=y.1/\y.1.toNat<l.length/\bif !gB (l.getD y.1.toNat cF) then q0 else bif y.1==0 then 0<=y.1/\y.1.toNat<l.length/\bif (l.getD y.1.toNat cF).Not then q0 else q1 else q1;ue l y->bif decide (y.1<x0) then bif decide (y.1>2) then 0<=y.1/\y.1.toNat<l.length/\bif !(l.getD y.1.toNat cF).Not then q0 else q2 else q2 else Lb (decide (1<=x0/\x0<=6)) (mC l))
 dsimp only
 refine⟨⟨by omega,by omega,by intro j hj;omega⟩,?_⟩
 rintro⟨i,⟨⟩⟩ ⟨h1,h2,hR⟩
 simp only
 refine aR ?_ ?_<;>intro hc
 ·have hN:vd l i.toNat=false->mC l=false:=fun h=>by
   have hf:allI l.length (vd l)=false:=g_ (j:=i.toNat) (by omega) h
   simp only[mC,hf];simp
  have hm:mq l (i+1,PUnit.unit)<mq l (i,()):=by simp only[mq];omega
  have e1:(i-1).toNat=i.toNat-1:=by omega
  simp(disch:=omega) only[wrap_i64]
  simp only[e1]
  have c1:decide (2<i.toNat)=decide (i>2):=decide_eq_decide.2 (by omega)
  have c2:decide (i.toNat=0)=decide (i=0):=decide_eq_decide.2 (by omega)
  have c3:decide (0<i.toNat)=decide (i>0):=decide_eq_decide.2 (by omega)
  have hA:vd l i.toNat=(gB (l.getD i.toNat cF)&& !(decide (i>2)&& !(l.getD i.toNat cF).Not)&& !(decide (i=0)&&(l.getD i.toNat cF).Not)&& !(decide (i>0)&&(l.getD (i.toNat-1) cF).Not&& !(l.getD i.toNat cF).Not)):=by
   simp only[vd,jt,c1,c2,c3]
  have XI:vd l i.toNat=true->ue l (i+1,PUnit.unit)/\mq l (i+1,PUnit.unit)<mq l (i,()):=fun h=>⟨⟨by omega,by omega,gh h1 hR h⟩,hm⟩
  rw[hA] at hN XI
  generalize (l.getD (i.toNat-1) cF).Not=q at*
  generalize (l.getD i.toNat cF).Not=r at*
  generalize gB (l.getD i.toNat cF)=s at*
  clear hA c1 c2 c3 hR
  have gy:i.toNat<l.length:=by omega
  have E8:i.toNat-1<l.length:=by omega
  have hi1:i>0->0<=i-1:=fun h=>by omega
  repeat' (first|refine bD (hN ?_)|refine XI ?_|refine aR (fun h=> ?_) (fun h=> ?_)|refine bg (fun h=> ?_) (fun h=> ?_)|refine ae (fun h=> ?_) (fun h=> ?_)|refine And.intro h1 ?_|refine And.intro gy ?_|refine And.intro E8 ?_|refine And.intro (hi1 (by assumption)) ?_)
  all_goals (cases q<;>cases r<;>cases s<;>simp at* <;>omega)
 ·have hA:allI l.length (vd l)=true:=iG fun j hj=>hR j (by omega)
  refine cg ?_
  simp only[mC,hA,B6];exact decide_eq_decide.2 (by omega)
def aox:=bW (α:=bc) (q1 (qA .bB)) [.ro] (fun r=>[dM r.aH<=4294967295]) (fun r=>⟨[dO (fR r)],[],[]⟩)
def ao7:HH:=hF aox func75 [Zi,Mq,sK,aja,ai_,ai',TV] a0 fun(r:bc) hp hb=>by
 have ey:=ma (x:=r) (hb _ m0)
 have kY:=ey.1
 have kX:=ey.2.1
 have jP:=ey.2.2.1
 have kZ:=ey.2.2.2
 have bo:dM r.aH<=4294967295:=hp _ m0
 clear hp hb
 apply vE (let q0:=Lb false (fR r);L4 (dM r.aH)/\bif bu r.Name then bif decide ((-100)<=r.jp/\r.jp<=100) then bif mC r.aH then bif kV r.aV (cW r.aH) then Lb (lN r.bH (cW r.aH) (↑(cS r.aH):Int)) (fR r) else q0 else q0 else q0 else q0)
 dsimp only
 refine⟨by omega,?_⟩
 simp only[fR]
 repeat' (refine ae (fun h=> ?_) (fun h=> ?_))
 all_goals (refine cg ?_;grind)
def YF:=bW (α:=bc) (q1 (qA .bB)) [.ro] (fun _=>[]) (fun r=>⟨[dO (ir r.aH)],[],[]⟩)
def DQ(r:bc):Int×T1×Unit->Prop:=fun(i,b,_)=>b=(r.Name,r.jp,r.aH,r.aV,r.bH,())/\0<=i/\i<=r.aH.length/\(1<=r.aH.length/\r.aH.length<=6)/\(1<=cS r.aH/\cS r.aH<=3)/\∀j:Nat,(j:Int)<i->mD r.aH j=true
def C4(r:bc):Int×T1×Unit->Nat:=fun(i,b,_)=>r.aH.length-i.toNat
def akg:AX YF:=fun r=>bS [(4,aT [iI 19,.box 1 (1,1024) [.lit .str,.lit (.int .i64),.shr .dB,.shr .ca,.shr .dE]] (fun _=>DQ r) (C4 r))]
def ai6:HH:=hF YF func143 [A',ab5,aiv] akg fun(r:bc) hp hb=>by
 clear hp hb
 apply vE (let x0:=(r.aH.length:Int);let q0:=Lb false (ir r.aH);bif !decide (1<=x0/\x0<=6) then q0 else bif !decide (1<=(↑(cS r.aH):Int)/\(↑(cS r.aH):Int)<=3) then q0 else DQ r (0,(r.Name,r.jp,r.aH,r.aV,r.bH,()),())/\∀(y:Int×T16×PUnit),let x1:=(↑(cS y.2.1.2.2.1):Int);let q1:=(wrap i64 (y.1+1),(y.2.1.1,y.2.1.2.1,y.2.1.2.2.1,y.2.1.2.2.2.1,y.2.1.2.2.2.2.1,()),());DQ r y->bif decide (y.1<x0) then 0<=y.1/\y.1.toNat<r.aH.length/\bif !gB (r.aH.getD y.1.toNat cF) then q0 else bif !(r.aH.getD y.1.toNat cF).Not==decide (y.1≥x1) then q0 else DQ r q1/\C4 r q1<C4 r y else Lb true (ir r.aH))
 dsimp only
 refine bx (fun h=>bD ?_) (fun h=>bx (fun h'=>bD ?_) (fun h'=> ?_))
 ·have h:=yF h
  simp only[ir];rw[decide_eq_false (by omega)];rfl
 ·have h':=yF h'
  simp only[ir];rw[decide_eq_false (p:=1<=cS r.aH/\cS r.aH<=3) (by omega)];simp
 have h:=yT h
 have h':=yT h'
 refine⟨⟨rfl,by omega,by omega,by omega,by omega,by intro j hj;omega⟩,?_⟩
 rintro⟨i,⟨b1,b2,b3,b4,b5,⟨⟩⟩,⟨⟩⟩ ⟨sq,h1,h2,h3,h4,hR⟩
 cases sq
 simp only
 refine aR ?_ ?_<;>intro hc
 ·have hN:mD r.aH i.toNat=false->ir r.aH=false:=fun h=>by
   have hf:allI r.aH.length (mD r.aH)=false:=g_ (j:=i.toNat) (by omega) h
   simp only[ir,hf];simp
  rw[wi]
  have c1:decide (cS r.aH<=i.toNat)=decide (i≥(cS r.aH:Int)):=decide_eq_decide.2 (by omega)
  refine⟨by omega,by omega,bx (fun g=>bD (hN (by simp only[mD,g,qx]))) (fun g=>bx (fun k=>bD (hN ?_)) (fun k=>⟨⟨rfl,by omega,by omega,h3,h4,gh h1 hR ?_⟩,by simp only[C4];omega⟩))⟩
  ·simp only[mD,jt,c1,k];simp
  ·simp only[mD,jt,c1,k,g];rfl
 ·have hA:allI r.aH.length (mD r.aH)=true:=iG fun j hj=>hR j (by omega)
  refine nR ?_
  simp only[ir,hA,decide_eq_true h3,decide_eq_true h4];rfl
def YD:=bW (α:=bc) (q1 (qA .bB)) [.ro] (fun r=>[2*r.aV.length+qV r.bH<=4294967295]) (fun r=>⟨[dL .str (ou r)],[],[]⟩)
def DP(r:bc):List BA×Int×T1×Unit->Prop:=fun(v,i,b,_)=>b=(r.Name,r.jp,r.aH,r.aV,r.bH,())/\0<=i/\i<=r.aV.length/\v=(r.aV.take i.toNat).foldl nG []
def C3(r:bc):List BA×Int×T1×Unit->Nat:=fun(v,i,b,_)=>r.aV.length-i.toNat
def DO(r:bc):List BA×Int×Unit->Prop:=fun(v,i,_)=>0<=i/\i<=r.bH.length/\v=(r.bH.take i.toNat).foldl qW (r.aV.foldl nG [])
def C2(r:bc):List BA×Int×Unit->Nat:=fun(v,i,_)=>r.bH.length-i.toNat
def zP(r:bc):List BA×Int×Int×Unit->List BA×Int×Int×Unit->Prop:=fun(v0,i0,k0,_) (v,i,k,_)=>i=i0/\0<=k/\k<=(r.bH.getD i.toNat dj).ay.length/\v=((r.bH.getD i.toNat dj).ay.take k.toNat).foldl uj v0
def zA(r:bc):List BA×Int×Int×Unit->Nat:=fun(v,i,k,_)=>(r.bH.getD i.toNat dj).ay.length-k.toNat
def ake:AX YD:=fun r=>bS [(3,aT [iO 3 .str,iI 13,.box 1 (1,1024) [.lit .str,.lit (.int .i64),.shr .dB,.shr .ca,.shr .dE]] (fun _=>DP r) (C3 r)),(8,aT [iO 3 .str,iI 28] (fun _=>DO r) (C2 r)),(11,aT [iO 3 .str,iI 28,iI 35] (zP r) (zA r))]
def ai2:HH:=hF YD func147 [Y6] ake fun(r:bc) hp hb=>by
 have ey:=ma (x:=r) (hb _ m0)
 have kY:=ey.1
 have kX:=ey.2.1
 have jP:=ey.2.2.1
 have kZ:=ey.2.2.2
 have bo:2*r.aV.length+qV r.bH<=4294967295:=hp _ m0
 clear hp hb
 apply vE (DP r ([],0,(r.Name,r.jp,r.aH,r.aV,r.bH,()),())/\∀(y:List BA×Int×T16×PUnit),let x2:=y.2.2.1.2.2.2.2.1.length;let x4:=y.2.1.toNat;let x1:=(↑x2:Int);let x3:=r.aV.getD x4 qN;let x0:=[x3.L,x3.R];DP r y->bif decide (y.2.1<(r.aV.length:Int)) then 0<=y.2.1/\x4<r.aV.length/\y.1.length+x0.length<=4294967295/\DP r (dH y.1 x0,wrap i64 (y.2.1+1),(y.2.2.1.1,y.2.2.1.2.1,y.2.2.1.2.2.1,y.2.2.1.2.2.2.1,y.2.2.1.2.2.2.2.1,()),())/\C3 r (dH y.1 x0,wrap i64 (y.2.1+1),(y.2.2.1.1,y.2.2.1.2.1,y.2.2.1.2.2.1,y.2.2.1.2.2.2.1,y.2.2.1.2.2.2.2.1,()),())<C3 r y else DO r (y.1,0,())/\∀(aF:List BA×Int×PUnit),let x8:=aF.2.1.toNat;let x7:=(y.2.2.1.2.2.2.2.1.getD x8 dj).ay;let x6:=x7.length;let x5:=(↑x6:Int);let q0:=(aF.1,aF.2.1,0,());DO r aF->bif decide (aF.2.1<x1) then 0<=aF.2.1/\x8<x2/\zP r q0 q0/\∀(y:List BA×Int×Int×PUnit),let qP:=y.2.2.1.toNat;let mf:=x7.getD qP fj;let x9:=[mf.L,mf.R];let q1:=(dH y.1 x9,y.2.1,wrap i64 (y.2.2.1+1),());let q2:=(y.1,wrap i64 (y.2.1+1),());zP r q0 y->bif decide (y.2.2.1<x5) then 0<=y.2.2.1/\qP<x6/\y.1.length+x9.length<=4294967295/\zP r q0 q1/\zA r q1<zA r y else DO r q2/\C2 r q2<C2 r aF else Lf [VL .str aF.1] [VL .str (ou r)])
 dsimp only
 refine⟨⟨rfl,by omega,by omega,rfl⟩,?_⟩
 rintro⟨v,i,⟨b1,b2,b3,b4,b5,⟨⟩⟩,⟨⟩⟩ ⟨sq,h1,h2,rfl⟩
 cases sq
 simp only
 refine aR ?_ ?_<;>intro hc
 ·have hs:=nY nG [] r.aV qN h1 hc
  have hl:=sV (r.aV.take i.toNat) []
  have Bz:(r.aV.take i.toNat).length<=i.toNat:=by rw[oq];omega
  simp only[fz] at hl
  rw[wi]
  refine⟨by omega,by omega,by simp only[fP,fz];omega,⟨rfl,by omega,by omega,hs.symm⟩,by simp only[C3];omega⟩
 rw[cA r.aV (by omega)]
 have hl0:=sV r.aV []
 simp only[fz] at hl0
 refine⟨⟨by omega,by omega,rfl⟩,?_⟩
 rintro⟨v,i,⟨⟩⟩ ⟨g1,g2,rfl⟩
 simp only
 refine aR ?_ ?_<;>intro hc
 ·have hs:=nY qW (r.aV.foldl nG []) r.bH dj g1 hc
  have ha:=Q4 r.bH g1 hc
  have hl:=xa (r.bH.take i.toNat) (r.aV.foldl nG [])
  refine⟨by omega,by omega,⟨rfl,by omega,by omega,rfl⟩,?_⟩
  rintro⟨v,i',k,⟨⟩⟩ ⟨rfl,k1,k2,rfl⟩
  simp only
  have hle:=Ad ((r.bH.getD i'.toNat dj).ay.take k.toNat) ((r.bH.take i'.toNat).foldl qW (r.aV.foldl nG []))
  have Bz:((r.bH.getD i'.toNat dj).ay.take k.toNat).length<=k.toNat:=by rw[oq];omega
  refine aR ?_ ?_<;>intro hk
  ·have hf:=nY uj ((r.bH.take i'.toNat).foldl qW (r.aV.foldl nG [])) (r.bH.getD i'.toNat dj).ay fj k1 hk
   rw[wi]
   exact⟨by omega,by omega,by simp only[fP,fz];omega,⟨rfl,by omega,by omega,hf.symm⟩,by simp only[zA];omega⟩
  ·rw[wi]
   refine⟨⟨by omega,by omega,?_⟩,by simp only[C2];omega⟩
   rw[hs,cA (r.bH.getD i'.toNat dj).ay (by omega)];rfl
 ·rw[cA r.bH (by omega)]
  exact aY _
def afy:=bW (α:=bc) (q1 (qA .bB)) [.ro] (fun _=>[]) (fun r=>⟨[dO (fR r)],[],[]⟩)
def JE(r:bc):Int×T1×Unit->Prop:=fun(i,b,_)=>b=(r.Name,r.jp,r.aH,r.aV,r.bH,())/\0<=i/\i<=r.aV.length/\(r.aV.drop i.toNat).all jv=r.aV.all jv
def I1(r:bc):Int×T1×Unit->Nat:=fun(i,b,_)=>r.aV.length-i.toNat
def Dg(r:bc):Int×T1×Unit->Prop:=fun(i,b,_)=>b=(r.Name,r.jp,r.aH,r.aV,r.bH,())/\0<=i/\i<=r.bH.length/\(r.bH.drop i.toNat).all (fun a=>dx a&&ib (cS r.aH) a)=r.bH.all (fun a=>dx a&&ib (cS r.aH) a)
def zv(r:bc):Int×T1×Unit->Nat:=fun(i,b,_)=>r.bH.length-i.toNat
def Df(r:bc):Int×List BA×List BA×Unit->Prop:=fun(i,v,u,_)=>v=jl r.aH/\u=ou r/\0<=i/\i<=(ou r).length/\((ou r).drop i.toNat).all (nf (jl r.aH))=(ou r).all (nf (jl r.aH))
def Cv(r:bc):Int×List BA×List BA×Unit->Nat:=fun(i,v,u,_)=>(ou r).length-i.toNat
def apO:AX afy:=fun r=>bS [(6,aT [iI 39,.box 1 (1,1024) [.lit .str,.lit (.int .i64),.shr .dB,.shr .ca,.shr .dE]] (fun _=>JE r) (I1 r)),(12,aT [iI 50,.box 1 (1,1024) [.lit .str,.lit (.int .i64),.shr .dB,.shr .ca,.shr .dE]] (fun _=>Dg r) (zv r)),(19,aT [iI 75,iO 7 .str,iO 73 .str] (fun _=>Df r) (Cv r))]
def ao3:HH:=hF afy func87 [QI,A',ai6,ai5,ai4,ab5,ai3,ai2,Zf] apO fun(r:bc) hp hb=>by
 clear hp hb
 apply vE (let x0:=(r.aV.length:Int);let q0:=Lb false (fR r);let q1:=BA×Int×List cr×List dy×List ez×PUnit;bif !bu r.Name then q0 else bif !decide ((-100)<=r.jp/\r.jp<=100) then q0 else bif !ir r.aH then q0 else bif decide (x0>6) then q0 else bif !decide (1<=(r.bH.length:Int)/\(r.bH.length:Int)<=6) then q0 else JE r (0,(r.Name,r.jp,r.aH,r.aV,r.bH,()),())/\∀(y:Int×q1×PUnit),let x2:=y.2.1.2.2.2.2.1.length;let x1:=(↑x2:Int);JE r y->bif decide (y.1<x0) then 0<=y.1/\y.1.toNat<r.aV.length/\bif !jv (r.aV.getD y.1.toNat qN) then q0 else JE r (wrap i64 (y.1+1),(y.2.1.1,y.2.1.2.1,y.2.1.2.2.1,y.2.1.2.2.2.1,y.2.1.2.2.2.2.1,()),())/\I1 r (wrap i64 (y.1+1),(y.2.1.1,y.2.1.2.1,y.2.1.2.2.1,y.2.1.2.2.2.1,y.2.1.2.2.2.2.1,()),())<I1 r y else Dg r (0,(y.2.1.1,y.2.1.2.1,y.2.1.2.2.1,y.2.1.2.2.2.1,y.2.1.2.2.2.2.1,()),())/\∀(aF:Int×q1×PUnit),let x4:=ou {Name:=aF.2.1.1,jp:=aF.2.1.2.1,aH:=aF.2.1.2.2.1,aV:=aF.2.1.2.2.2.1,bH:=aF.2.1.2.2.2.2.1:bc};let x5:=y.2.1.2.2.2.2.1.getD aF.1.toNat dj;let x6:=(↑(cS aF.2.1.2.2.1):Int);let x3:=(x4.length:Int);let q2:=(wrap i64 (aF.1+1),(aF.2.1.1,aF.2.1.2.1,aF.2.1.2.2.1,aF.2.1.2.2.2.1,aF.2.1.2.2.2.2.1,()),());let q3:=Dg r q2/\zv r q2<zv r aF;Dg r aF->bif decide (aF.1<x1) then 0<=aF.1/\aF.1.toNat<x2/\bif !dx x5 then q0 else bif x5.Kind==2 then bif decide (x5.N≥x6) then q0 else q3 else q3 else dM aF.2.1.2.2.1<=4294967295/\2*aF.2.1.2.2.2.1.length+qV aF.2.1.2.2.2.2.1<=4294967295/\Df r (0,jl aF.2.1.2.2.1,x4,())/\∀(y:Int×List BA×List BA×PUnit),let q4:=(wrap i64 (y.1+1),y.2.1,y.2.2.1,());Df r y->bif decide (y.1<x3) then 0<=y.1/\y.1.toNat<y.2.2.1.length/\y.1.toNat<y.2.2.1.length/\bif !nf y.2.1 (y.2.2.1.getD y.1.toNat ai) then q0 else Df r q4/\Cv r q4<Cv r y else Lb true (fR r))
 dsimp only
 have hF:mh r=false->fR r=false:=fun h=>by rw[<-Ey];exact h
 refine bx (fun a1=>bD (hF (by simp[mh,a1]))) (fun a1=>bx (fun a2=>bD (hF (by simp only[mh,a2];simp))) (fun a2=>bx (fun a3=>bD (hF ?_)) (fun a3=>aR (fun a4=>bD (hF ?_)) (fun a4=>bx (fun a5=>bD (hF ?_)) (fun a5=> ?_)))))
 ·rw[pY] at a3;simp[mh,a3]
 ·simp only[mh];rw[decide_eq_false (p:=r.aV.length<=6) (by omega)];simp
 ·have a5:=yF a5
  simp only[mh];rw[decide_eq_false (p:=1<=r.bH.length/\r.bH.length<=6) (by omega)];simp
 rw[pY] at a3
 have a5:=yT a5
 refine⟨⟨rfl,by omega,by omega,rfl⟩,?_⟩
 rintro⟨i,⟨b1,b2,b3,b4,b5,⟨⟩⟩,⟨⟩⟩ ⟨sq,h1,h2,hR⟩
 cases sq
 simp only
 refine aR ?_ ?_<;>intro hc
 ·rw[dW _ _ qN h1 (by omega)] at hR
  rw[wi]
  refine⟨by omega,by omega,bx (fun g=>bD (hF ?_)) (fun g=>⟨⟨rfl,by omega,by omega,?_⟩,by simp only[I1];omega⟩)⟩
  ·simp only[mh,<-hR,g];simp
  ·rw[<-hR,g];rfl
 rw[cz _ (by omega)] at hR
 have a6:r.aV.all jv=true:=hR.symm
 refine⟨⟨rfl,by omega,by omega,rfl⟩,?_⟩
 rintro⟨i,⟨b1,b2,b3,b4,b5,⟨⟩⟩,⟨⟩⟩ ⟨sq,g1,g2,gR⟩
 cases sq
 simp only
 refine aR ?_ ?_<;>intro hc
 ·rw[dW _ _ dj g1 (by omega)] at gR
  rw[wi]
  have hN:(dx (r.bH.getD i.toNat dj)&&ib (cS r.aH) (r.bH.getD i.toNat dj))=false->fR r=false:=fun h=>hF (by simp only[mh,<-gR,h];simp)
  have XI:dx (r.bH.getD i.toNat dj)=true->ib (cS r.aH) (r.bH.getD i.toNat dj)=true->(r.bH.drop (i+1).toNat).all (fun a=>dx a&&ib (cS r.aH) a)=r.bH.all (fun a=>dx a&&ib (cS r.aH) a):=fun e1 e2=>by rw[<-gR,e1,e2];rfl
  refine⟨by omega,by omega,bx (fun ha=>bD (hN (by rw[ha];rfl))) (fun ha=>bg (fun lH=>aR (fun hp=>bD (hN ?_)) (fun hp=>⟨⟨rfl,by omega,by omega,XI ha ?_⟩,by simp only[zv];omega⟩)) (fun lH=>⟨⟨rfl,by omega,by omega,XI ha ?_⟩,by simp only[zv];omega⟩))⟩
  ·simp only[ib,lH,decide_eq_true (show(cS r.aH:Int)<=(r.bH.getD i.toNat dj).N from hp)];simp
  ·simp only[ib,decide_eq_false (show¬(cS r.aH:Int)<=(r.bH.getD i.toNat dj).N from hp)];simp
  ·simp only[ib,decide_eq_false lH];simp
 rw[cz _ (by omega)] at gR
 have a7:r.bH.all (fun a=>dx a&&ib (cS r.aH) a)=true:=gR.symm
 have hpa:=Lc a3
 have w5:=Mi (l:=r.bH) (by omega) (fun a ha=>by
  have:=sP.1 a7 a ha
  simp only[cN] at this
  exact this.1)
 have hul:(ou r).length<=2*r.aV.length+qV r.bH:=by
  have q1:=xa r.bH (r.aV.foldl nG [])
  have q2:=sV r.aV []
  simp only[fz] at q2
  simp only[ou];omega
 refine⟨by omega,by omega,⟨rfl,rfl,by omega,by omega,rfl⟩,?_⟩
 rintro⟨i,v,u,⟨⟩⟩ ⟨rfl,rfl,k1,k2,kR⟩
 simp only
 refine aR ?_ ?_<;>intro hk
 ·rw[dW _ _ ai k1 hk] at kR
  rw[wi]
  have cY:i<(ou r).length:=hk
  refine⟨by omega,by omega,by omega,bx (fun g=>bD (hF ?_)) (fun g=>⟨⟨rfl,rfl,by omega,by omega,?_⟩,by simp only[Cv];omega⟩)⟩
  ·simp only[mh,<-kR,g];simp
  ·rw[<-kR,g];rfl
 ·have cY:¬i<(ou r).length:=hk
  rw[cz _ (by omega)] at kR
  refine nR ?_
  rw[<-Ey]
  simp only[mh,a1,a2,a3,a6,a7,<-kR,decide_eq_true (show r.aV.length<=6 by omega),decide_eq_true (show 1<=r.bH.length/\r.bH.length<=6 by omega)];rfl
def instNew(now:Int):aq:=if 0<=now/\now<=1000000000 then⟨⟨[],1⟩,[],[],[],[],1,now⟩ else Xb
def afN:=bW (α:=List ao) (q1 (qL .az)) [.ro] (fun l=>[L4 (cf l)]) (fun l=>⟨[dL .az l],[],[]⟩)
def JP(l:List ao):List ao×Int×Unit->Prop:=fun(out,i,_)=>0<=i/\i<=l.length/\out=l.take i.toNat
def Ja(l:List ao):List ao×Int×Unit->Nat:=fun(out,i,_)=>l.length-i.toNat
def ap3:AX afN:=fun l=>bS [(3,aT [iO 3 .az,iI 4] (fun _=>JP l) (Ja l))]
def ahC:HH:=hF afN func63 [A9] ap3 fun(l:List ao) hp hb=>by
 have bo:cf l<=4294967296:=hp _ m0
 clear hp hb
 apply vE (JP l ([],0,())/\∀(y:List ao×Int×PUnit),let x2:=y.2.1.toNat;let x1:=l.getD x2 aC;let x0:=[x1];let q0:=(y.1++x0,wrap i64 (y.2.1+1),());JP l y->bif decide (y.2.1<(l.length:Int)) then 0<=y.2.1/\x2<l.length/\L4 x1.F.ag.length/\L4 (y.1.length+x0.length)/\JP l q0/\Ja l q0<Ja l y else Lf [VL .az y.1] [VL .az l])
 dsimp only
 refine⟨⟨by omega,by omega,by simp⟩,?_⟩
 rintro⟨out,i,⟨⟩⟩ ⟨h1,h2,rfl⟩
 simp only
 refine ae ?_ ?_<;>intro hc
 ·have hc:=yT hc
  have hs:=d_ lR l aC h1 hc
  simp only[cf] at bo
  have hx:=hs
  simp only[lR,dh,eG] at hx
  rw[dl l aC h1 hc,wi]
  repeat' (first|refine And.intro (by omega) ?_|fail)
  refine⟨by simp;omega,⟨by omega,by omega,rfl⟩,by simp only[Ja];omega⟩
 ·have hc:=yF hc
  rw[cA l (by omega)]
  exact aY _
def afU:=bW (α:=List ao) (q1 (qL .az)) [.ro] (fun l=>[L4 (cf l)]) (fun l=>⟨[dL .az l],[],[]⟩)
def JU(l:List ao):List ao×Int×Unit->Prop:=fun(out,i,_)=>0<=i/\i<=l.length/\out=l.take i.toNat
def Jf(l:List ao):List ao×Int×Unit->Nat:=fun(out,i,_)=>l.length-i.toNat
def ap':AX afU:=fun l=>bS [(3,aT [iO 3 .az,iI 8] (fun _=>JU l) (Jf l))]
def WY:HH:=hF afU func52 [zV] ap' fun(l:List ao) hp hb=>by
 have bo:cf l<=4294967296:=hp _ m0
 clear hp hb
 apply vE (JU l ([],0,())/\∀(y:List ao×Int×PUnit),let x2:=y.2.1.toNat;let x1:=l.getD x2 aC;let x0:=[x1];let q0:=(y.1++x0,wrap i64 (y.2.1+1),());JU l y->bif decide (y.2.1<(l.length:Int)) then 0<=y.2.1/\x2<l.length/\L4 x1.F.ag.length/\L4 (y.1.length+x0.length)/\JU l q0/\Jf l q0<Jf l y else Lf [VL .az y.1] [VL .az l])
 dsimp only
 refine⟨⟨by omega,by omega,by simp⟩,?_⟩
 rintro⟨out,i,⟨⟩⟩ ⟨h1,h2,rfl⟩
 simp only
 refine ae ?_ ?_<;>intro hc
 ·have hc:=yT hc
  have hs:=d_ lR l aC h1 hc
  simp only[cf] at bo
  have hx:=hs
  simp only[lR,dh,eG] at hx
  rw[dl l aC h1 hc,wi]
  repeat' (first|refine And.intro (by omega) ?_|fail)
  refine⟨by simp;omega,⟨by omega,by omega,rfl⟩,by simp only[Jf];omega⟩
 ·have hc:=yF hc
  rw[cA l (by omega)]
  exact aY _
def Jy:ka UU where
 α:=ao
 md:=[.ro]
 of:=o1 (oA .az)
 ds:=fun x=>[dA .az x]
 pre:=fun _=>[]
 oe:=fun t=>⟨[dO (jw t)],[],[]⟩
 law:=l1 (lA .az)
def ab9:HH:=hF Jy func42 [] a0 fun(t:ao) hp hb=>by
 clear hp hb
 apply vE (bif t.State==1 then Lb true (jw t) else Lb (t.State==2) (jw t))
 simp only[jw]
 refine ae (fun h=>cg ?_) (fun h=>cg ?_)<;>grind
def Yz:=bW (α:=List ao) (q1 (qL .az)) [.ro] (fun l=>[L4 (cf l)]) (fun l=>⟨[dL .az (giveUp l)],[],[]⟩)
def wG(l:List ao):List ao×Int×Unit->Prop:=fun(out,i,_)=>0<=i/\i<=l.length/\out=(l.map gG).take i.toNat++l.drop i.toNat
def pM(l:List ao):List ao×Int×Unit->Nat:=fun(out,i,_)=>l.length-i.toNat
def aka:AX Yz:=fun l=>bS [(3,aT [iO 3 .az,iI 4] (fun _=>wG l) (pM l))]
def Zd:HH:=hF Yz func162 [ahC] aka fun(l:List ao) hp hb=>by
 have jQ:L9 l.length:=kG (hb _ m0)
 have bo:cf l<=4294967296:=hp _ m0
 clear hp hb
 apply vE (cf l<=4294967296/\wG l (l,0,())/\∀(y:List ao×Int×PUnit),let x0:=y.2.1.toNat;let q0:=y.2.1+1;let q1:=(y.1,wrap i64 q0,());wG l y->bif decide (y.2.1<(y.1.length:Int)) then 0<=y.2.1/\x0<y.1.length/\x0<y.1.length/\bif (y.1.getD x0 aC).State==1 then 0<=y.2.1/\x0<y.1.length/\x0<y.1.length/\wG l (y.1.modify x0 fun(x:ao)=>{F:=x.F,aW:=x.aW,State:=(4:Int),bh:=x.bh,iz:=x.iz,V:=x.V:ao},wrap i64 q0,())/\pM l (y.1.modify x0 fun(x:ao)=>{F:=x.F,aW:=x.aW,State:=(4:Int),bh:=x.bh,iz:=x.iz,V:=x.V:ao},wrap i64 q0,())<pM l y else 0<=y.2.1/\x0<y.1.length/\x0<y.1.length/\bif (y.1.getD x0 aC).State==2 then 0<=y.2.1/\x0<y.1.length/\x0<y.1.length/\wG l (y.1.modify x0 fun(x:ao)=>{F:=x.F,aW:=x.aW,State:=(4:Int),bh:=x.bh,iz:=x.iz,V:=x.V:ao},wrap i64 q0,())/\pM l (y.1.modify x0 fun(x:ao)=>{F:=x.F,aW:=x.aW,State:=(4:Int),bh:=x.bh,iz:=x.iz,V:=x.V:ao},wrap i64 q0,())<pM l y else wG l q1/\pM l q1<pM l y else Lf [VL .az y.1] [VL .az (giveUp l)])
 dsimp only
 refine⟨bo,⟨by omega,by omega,by simp⟩,?_⟩
 rintro⟨out,i,⟨⟩⟩ ⟨h1,h2,rfl⟩
 have hl:=Ca gG l h1 h2
 simp only
 refine ae ?_ ?_<;>intro hc
 ·have hc:=yT hc
  have hc:i<l.length:=by omega
  have hg:=yA _ l aC (Ik gG l h1 h2) h1 hc
  rw[hg,wi,hl]
  repeat' (first|refine And.intro (by omega) ?_|refine ae (fun h=> ?_) (fun h=> ?_)|fail)
  all_goals first
   |(rw[yC gG l aC _ h1 hc (by simp only[gG];grind)];exact⟨⟨by omega,by omega,rfl⟩,by simp only[pM];omega⟩)
   |(have hs:=yB gG l aC h1 hc (by simp only[gG];grind);exact⟨⟨by omega,by omega,hs⟩,by simp only[pM];omega⟩)
 ·have hc:=yF hc
  rw[yD gG l (by omega)]
  exact aY _
def Yb:=bW (α:=List ao) (q1 (qL .az)) [.ro] (fun l=>[L4 (cf l)]) (fun l=>⟨[dL .az (giveUp l)],[],[]⟩)
def zG(l:List ao):List ao×Int×Unit->Prop:=fun(out,i,_)=>0<=i/\i<=l.length/\out=(l.map gG).take i.toNat++l.drop i.toNat
def tR(l:List ao):List ao×Int×Unit->Nat:=fun(out,i,_)=>l.length-i.toNat
def ajN:AX Yb:=fun l=>bS [(3,aT [iO 3 .az,iI 9] (fun _=>zG l) (tR l))]
def aih:HH:=hF Yb func216 [WY,ab9] ajN fun(l:List ao) hp hb=>by
 have jQ:L9 l.length:=kG (hb _ m0)
 have bo:cf l<=4294967296:=hp _ m0
 clear hp hb
 apply vE (cf l<=4294967296/\zG l (l,0,())/\∀(y:List ao×Int×PUnit),let x0:=y.2.1.toNat;let q0:=(y.1,wrap i64 (y.2.1+1),());zG l y->bif decide (y.2.1<(l.length:Int)) then 0<=y.2.1/\x0<y.1.length/\x0<y.1.length/\x0<y.1.length/\bif jw (y.1.getD x0 aC) then 0<=y.2.1/\x0<y.1.length/\x0<y.1.length/\zG l (y.1.modify x0 fun(x:ao)=>{F:=x.F,aW:=x.aW,State:=(4:Int),bh:=x.bh,iz:=x.iz,V:=x.V:ao},wrap i64 (y.2.1+1),())/\tR l (y.1.modify x0 fun(x:ao)=>{F:=x.F,aW:=x.aW,State:=(4:Int),bh:=x.bh,iz:=x.iz,V:=x.V:ao},wrap i64 (y.2.1+1),())<tR l y else zG l q0/\tR l q0<tR l y else Lf [VL .az y.1] [VL .az (giveUp l)])
 dsimp only
 refine⟨bo,⟨by omega,by omega,by simp⟩,?_⟩
 rintro⟨out,i,⟨⟩⟩ ⟨h1,h2,rfl⟩
 have hl:=Ca gG l h1 h2
 simp only
 refine ae ?_ ?_<;>intro hc
 ·have hc:=yT hc
  have hc:i<l.length:=by omega
  have hg:=yA _ l aC (Ik gG l h1 h2) h1 hc
  rw[hg,wi,hl]
  have hio:jw (l.getD i.toNat aC)=decide ((l.getD i.toNat aC).State=1\/(l.getD i.toNat aC).State=2):=rfl
  rw[hio]
  repeat' (first|refine And.intro (by omega) ?_|refine ae (fun h=> ?_) (fun h=> ?_)|fail)
  all_goals first
   |(rw[yC gG l aC _ h1 hc (by simp only[gG];grind)];exact⟨⟨by omega,by omega,rfl⟩,by simp only[tR];omega⟩)
   |(have hs:=yB gG l aC h1 hc (by simp only[gG];grind);exact⟨⟨by omega,by omega,hs⟩,by simp only[tR];omega⟩)
 ·have hc:=yF hc
  rw[yD gG l (by omega)]
  exact aY _
def aoU:=bW (α:=aq) (q1 (qA .cp)) [.ro] (fun _=>[]) (fun x=>⟨[dO (decide (x.State=2\/x.State=4\/x.State=6))],[],[]⟩)
def W0:HH:=hF aoU func11 [] a0 fun(x:aq) hp hb=>by
 clear hp hb
 apply vE (let q0:=decide (x.State=2\/x.State=4\/x.State=6);bif x.State==2 then Lb true q0 else bif x.State==4 then Lb true q0 else Lb (x.State==6) q0)
 dsimp only
 repeat' (refine ae (fun h=> ?_) (fun h=> ?_))
 all_goals (refine cg ?_;grind)
def aoO:=bW (α:=aq) (q1 (qA .cp)) [.ro] (fun _=>[]) (fun x=>⟨[dO (decide (x.State=2\/x.State=4\/x.State=6))],[],[]⟩)
def aiI:HH:=hF aoO func18 [] a0 fun(x:aq) hp hb=>by
 clear hp hb
 apply vE (let q0:=decide (x.State=2\/x.State=4\/x.State=6);bif x.State==2 then Lb true q0 else bif x.State==4 then Lb true q0 else Lb (x.State==6) q0)
 dsimp only
 repeat' (refine ae (fun h=> ?_) (fun h=> ?_))
 all_goals (refine cg ?_;grind)
def ahx:=bW (α:=Int) (q1 qI) [.ro] (fun _=>[]) (fun now=>⟨[dA .cp (instNew now)],[],[]⟩)
def ajt:HH:=hF ahx func100 [sK] a0 fun(now:Int) hp hb=>by
 clear hp hb
 apply vE (bif !decide (0<=now/\now<=1000000000) then Lf [DV.agg [CL .aJ [],CI 0,CL .aB [],CL .az [],CL .aE [],CL .aQ [],CI 0,CI 0]] [DV.agg (aG (instNew now))] else Lf [DV.agg [CL .aJ [],CI 1,CL .aB [],CL .az [],CL .aE [],CL .aQ [],CI 1,CI now]] [DV.agg (aG (instNew now))])
 unfold instNew
 refine ae (fun h=>akB ?_) (fun h=>akB ?_)
 ·rw[if_neg (by grind)];rfl
 ·rw[if_pos (by grind)];rfl
def lK(x:bc):DA UU:=⟨true,[.lit (.string x.Name),.lit (.int .i64 x.jp),.sl .dB x.aH,.sl .ca x.aV,.sl .dE x.bH]⟩
def s9(l:List bc)(name:BA):Int:=jO l.length fun k=>decide ((l.getD k ct).Name=name)
def jC(l:List bc)(i:Nat):Bool:=fR (l.getD i ct)&&decide (s9 l (l.getD i ct).Name=i)
def f_(d:br):Bool:=bu d.Name&&decide (1<=d.aw.length/\d.aw.length<=12)&&allI d.aw.length (jC d.aw)
theorem Po{l:List bc}{i:Int}(h0:0<=i)(h:i<l.length):dM (l.getD i.toNat ct).aH<=j7 l:=by
 have hs:=d_ dV l ct h0 h
 have hp:=H_ (l.getD i.toNat ct).aH
 simp only[dV] at hs
 simp only[j7,dV];omega
def Gv(l:List bO)(f:aL):Int:=jO l.length fun k=>decide ((l.getD k aZ).F=f)
def kg(l:List bO)(f:aL):Int:=if Gv l f= -1 then 0 else(l.getD (Gv l f).toNat aZ).Id
def vM(l:List bO)(id:Int):Int:=jO l.length fun k=>decide ((l.getD k aZ).Id=id)
def pi(l:List bO)(id:Int):aL:=if vM l id= -1 then uO else(l.getD (vM l id).toNat aZ).F
def kw(l:List bO)(id:Int):Bool:=anyI l.length fun k=>decide ((l.getD k aZ).Id=id)
def jU(s:aD)(i:Nat):Bool:=bE (s.ab.getD i aZ).F&&decide (1<=(s.ab.getD i aZ).Id)&&decide ((s.ab.getD i aZ).Id<s.Next)&& !(decide (0<i)&&decide ((s.ab.getD i aZ).Id<=(s.ab.getD (i-1) aZ).Id))
def pe(s:aD)(i:Nat):Bool:=jU s i&&decide (kg s.ab (s.ab.getD i aZ).F=(s.ab.getD i aZ).Id)
def jn(s:aD)(i:Nat):Bool:=jU s i&& !(anyI i fun k=>decide ((s.ab.getD i aZ).F=(s.ab.getD k aZ).F))
def bq(s:aD):Bool:=decide (1<=s.Next/\s.Next<=1000000)&&decide (s.ab.length<=40)&&allI s.ab.length (pe s)
theorem Mb{s:aD}(h:∀i,i<s.ab.length->jU s i=true):∀j i,j<i->i<s.ab.length->(s.ab.getD j aZ).Id<(s.ab.getD i aZ).Id:=by
 intro j i Gh hi
 have step:∀m,m+1<s.ab.length->(s.ab.getD m aZ).Id<(s.ab.getD (m+1) aZ).Id:=fun m hm=>by
  have:=h (m+1) hm
  simp only[jU,cN,qK,Bool.and_eq_false_iff,decide_eq_false_iff_not,decide_eq_true_eq,Nat.add_sub_cancel] at this
  have:=this.2
  omega
 obtain⟨k,rfl⟩:∃k,i=j+1+k:=⟨i-j-1,by omega⟩
 clear Gh
 induction k with
 |zero=>exact step j hi
 |succ k ih=>exact Int.lt_trans (ih (by omega)) (step (j+1+k) hi)
theorem Em(s:aD):allI s.ab.length (jn s)=allI s.ab.length (pe s):=by
 rw[Gd,gb,gb]
 have aeJ:∀i,i<s.ab.length->∃m,m<=i/\Gv s.ab (s.ab.getD i aZ).F=(m:Int)/\(s.ab.getD m aZ).F=(s.ab.getD i aZ).F/\∀j,j<m->¬(s.ab.getD j aZ).F=(s.ab.getD i aZ).F:=by
  intro i hi
  rcases ik s.ab.length (fun k=>decide ((s.ab.getD k aZ).F=(s.ab.getD i aZ).F)) with⟨_,h2⟩|⟨m,g1,g2,g3,g4⟩
  ·have:=h2 i hi;simp at this
  ·refine⟨m,?_,g2,yT g3,fun j hj=>yF (g4 j hj)⟩
   rcases pt i m with g|g
   ·have:=g4 i g;simp at this
   ·exact g
 have hid:∀i m:Nat,Gv s.ab (s.ab.getD i aZ).F=(m:Int)->kg s.ab (s.ab.getD i aZ).F=(s.ab.getD m aZ).Id:=fun i m h=>by
  rw[kg,h,if_neg (by omega)];simp
 constructor
 ·intro h i hi
  have Qa:=h i hi
  simp only[jn,cN,qK] at Qa
  obtain⟨m,m1,m2,m3,m4⟩:=aeJ i hi
  have:m=i:=by
   rcases pt m i with g|g
   ·have:=oT.1 Qa.2 m g
    exact absurd m3.symm (yF this)
   ·omega
  subst this
  simp only[pe,Qa.1,hid m m m2,decide_true,B6]
 ·intro h i hi
  have hb:∀i,i<s.ab.length->jU s i=true:=fun i hi=>by
   have:=h i hi
   simp only[pe,cN] at this
   exact this.1
  have Qa:=h i hi
  simp only[pe,cN,decide_eq_true_eq] at Qa
  have On:(anyI i fun k=>decide ((s.ab.getD i aZ).F=(s.ab.getD k aZ).F))=false:=gz fun k hk=>decide_eq_false fun e=>by
   obtain⟨m,m1,m2,m3,m4⟩:=aeJ i hi
   have hmk:m<=k:=by
    rcases pt k m with g|g
    ·exact absurd e.symm (m4 k g)
    ·exact g
   have:=Mb hb m i (by omega) hi
   rw[hid i m m2] at Qa
   omega
  simp only[jn,Qa.1,On];rfl
def kl(d:br)(m:av):Bool:=decide (0<=m.cL)&&decide (m.cL<(d.aw.length:Int))
def jb(d:br)(s:List bO)(m:av):Bool:=kl d m&&decide (m.bw.length=0)&&decide (m.eo.length=cS (d.aw.getD m.cL.toNat ct).aH)&&m.eo.all (kw s)
def iP(d:br)(x:aq):Bool:=decide (x.aA.length<=1000)&&x.aA.all (jb d x.S.ab)
def pw(l:List ao):Bool:=anyI l.length fun k=>jw (l.getD k aC)
def ng(x:aq):Bool:=decide (x.State=2\/x.State=4\/x.State=6)
def mY(x:aq):Bool:=decide (x.State=3)||decide (x.State=5)
def instOk(d:br)(x:aq):Bool:=f_ d&&bq x.S&&aN x.aj&&dt x.ap&&dz x.ax&&decide (1<=x.State/\x.State<=6)&&decide (0<=x.cd/\x.cd<=1000000000)&&iP d x&& !(ng x&&(pw x.aj||decide (0<x.ap.length)))&&(!mY x||decide (0<x.ax.length))
def YC:=bW (α:=(List bc)×(List (DA UU)->Option Value)) (qC (qL .bB) (q1 qF)) [.ro,.ro] (fun(l,p)=>[∀j:Nat,j<l.length->p [lK (l.getD j ct)]=some (.bool (bJ (p [lK (l.getD j ct)])))]) (fun(l,p)=>⟨[dI (jO l.length (fun j=>bJ (p [lK (l.getD j ct)])))],[],[]⟩)
def DN(l:List bc)(p:(List (DA UU)->Option Value)):Int×Unit->Prop:=fun(i,_)=>0<=i/\i<=l.length/\∀j:Nat,(j:Int)<i->bJ (p [lK (l.getD j ct)])=false
def C1(l:List bc)(p:(List (DA UU)->Option Value)):Int×Unit->Nat:=fun(i,_)=>l.length-i.toNat
def akd:AX YC:=fun(l,p)=>bS [(2,aT [iI 8] (fun _=>DN l p) (C1 l p))]
def ai1:HH:=hF YC func149 [] akd fun x hp hb=>by
 obtain⟨l,p⟩:=x
 have jQ:L9 l.length:=kG (hb _ m0)
 have bo:∀j:Nat,j<l.length->p [lK (l.getD j ct)]=some (.bool (bJ (p [lK (l.getD j ct)]))):=hp _ m0
 clear hp hb
 apply vE (DN l p (0,())/\∀(y:Int×PUnit),let x1:=l.getD y.1.toNat ct;let x0:=bJ (p [{agg:=true,cs:=[CS x1.Name,CI x1.jp,CL .dB x1.aH,CL .ca x1.aV,CL .dE x1.bH]:DA UU}]);let q0:=(wrap i64 (y.1+1),());DN l p y->bif decide (y.1<(l.length:Int)) then 0<=y.1/\y.1.toNat<l.length/\p [{agg:=true,cs:=[CS x1.Name,CI x1.jp,CL .dB x1.aH,CL .ca x1.aV,CL .dE x1.bH]:DA UU}]=some (Value.bool x0)/\bif x0 then Li y.1 (jO (l.length) fun(j:Nat)=>bJ (p [lK (l.getD j ct)])) else DN l p q0/\C1 l p q0<C1 l p y else Li (-1) (jO (l.length) fun(j:Nat)=>bJ (p [lK (l.getD j ct)])))
 dsimp only
 refine⟨⟨by omega,by omega,by intro j hj;omega⟩,?_⟩
 rintro⟨i,⟨⟩⟩ ⟨h1,h2,hR⟩
 simp only[lK] at*
 refine ae ?_ ?_<;>intro hc
 ·have hc:=yT hc
  rw[wi]
  refine⟨by omega,by omega,bo i.toNat (by omega),ae (fun h=>nz ?_) (fun h=>⟨⟨by omega,by omega,jk (p:=fun j=>bJ (p [lK (l.getD j ct)])) h1 hR h⟩,by simp only[C1];omega⟩)⟩
  rw[gx (i:=i.toNat) (by omega) h (fun j hj=>hR j (by omega))]
  omega
 ·have hc:=yF hc
  exact nz (jx (fun j hj=>hR j (by omega))).symm
def BP:ka UU where
 α:=bc×BA
 md:=[.ro,.ro]
 of:=fun|[.agg [.lit (.string a0),.lit (.int .i64 a1),.sl .dB a2,.sl .ca a3,.sl .dE a4],.ptr [.lit (.string a5)]]=>some (⟨a0,a1,a2,a3,a4⟩,a5)|_=>none
 ds:=fun(r,name)=>[.agg [.lit (.string r.Name),.lit (.int .i64 r.jp),.sl .dB r.aH,.sl .ca r.aV,.sl .dE r.bH],.ptr [.lit (.string name)]]
 pre:=fun(r,name)=>[]
 oe:=fun(r,name)=>⟨[.one (.lit (.bool (decide (r.Name=name))))],[],[]⟩
 law:=by intro l x h;(try simp only at h);split at h<;>cases h;rfl
def ai0:HH:=hF BP func150 [] a0 fun x hp hb=>by
 obtain⟨r,name⟩:=x
 have ID:gN (U:=UU) (.agg [.lit (.string r.Name),.lit (.int .i64 r.jp),.sl .dB r.aH,.sl .ca r.aV,.sl .dE r.bH]):=hb _ (iH)
 have kY:L9 r.Name.size:=Bd.str (ID _ (by simp))
 have kX:L9 r.aH.length:=Bd.len (U:=UU) (τ:=.dB) (xs:=r.aH) (ID _ (by simp))
 have jP:L9 r.aV.length:=Bd.len (U:=UU) (τ:=.ca) (xs:=r.aV) (ID _ (by simp))
 have kZ:L9 r.bH.length:=Bd.len (U:=UU) (τ:=.dE) (xs:=r.bH) (ID _ (by simp))
 have akG:gN (U:=UU) (.ptr [.lit (.string name)]):=hb _ (fF _ (iH))
 clear hp hb
 apply vE (Lb (r.Name.toList==name.toList) (decide (r.Name=name)))
 rw[aO]
 exact aY _
def aoq:=bW (α:=br×BA) (qC (qA .h_) (q1 qS)) [.ro,.ro] (fun _=>[]) (fun(d,name)=>⟨[dI (s9 d.aw name)],[],[]⟩)
def ao2:HH:=hF aoq func88 [ai1,ai0] a0 fun x hp hb=>by
 obtain⟨d,name⟩:=x
 clear hp hb
 apply vE ((∀(j:Nat),j<d.aw.length->fo BP [DV.ptr [CS name]] [lK (d.aw.getD j ct)]=some (Value.bool (bJ (fo BP [DV.ptr [CS name]] [lK (d.aw.getD j ct)]))))/\Li (jO (d.aw.length) fun(j:Nat)=>bJ (fo BP [DV.ptr [CS name]] [lK (d.aw.getD j ct)])) (s9 d.aw name))
 have hc:∀x:bc,fo BP [.ptr [.lit (.string name)]] [lK x]=some (.bool (decide (x.Name=name))):=fun x=>sA (x:=(x,name)) rfl rfl rfl rfl (by simp[BP])
 refine⟨fun j hj=> ?_,nz ?_⟩
 ·show fo BP [.ptr [.lit (.string name)]] [lK (d.aw.getD j ct)]=_
  rw[hc];rfl
 ·exact tp fun j hj=>by
   show bJ (fo BP [.ptr [.lit (.string name)]] [lK (d.aw.getD j ct)])=_
   rw[hc];rfl
def afD:=bW (α:=br×BA) (qC (qA .h_) (q1 qS)) [.ro,.ro] (fun _=>[]) (fun(d,name)=>⟨[dI (s9 d.aw name)],[],[]⟩)
def JI(d:br)(name:BA):Int×T2×Unit->Prop:=fun(i,fb,_)=>fb=(d.Name,d.aw,())/\0<=i/\i<=d.aw.length/\∀j:Nat,(j:Int)<i->decide ((d.aw.getD j ct).Name=name)=false
def I4(d:br)(name:BA):Int×T2×Unit->Nat:=fun(i,fb,_)=>d.aw.length-i.toNat
def apT:AX afD:=fun(d,name)=>bS [(2,aT [iI 5,.box 2 (2,1024) [.lit .str,.shr .bB]] (fun _=>JI d name) (I4 d name))]
def ao6:HH:=hF afD func76 [] apT fun x hp hb=>by
 obtain⟨d,name⟩:=x
 have ey:=lc (x:=d) (hb _ m0)
 have j_:=ey.1
 have ja:=ey.2
 have Cg:=ON (s:=name) (hb _ m1)
 clear hp hb
 apply vE (JI d name (0,(d.Name,d.aw,()),())/\∀(y:Int×T9×PUnit),let x1:=y.2.1.2.1.length;let x0:=(↑x1:Int);let q0:=(wrap i64 (y.1+1),(y.2.1.1,y.2.1.2.1,()),());JI d name y->bif decide (y.1<x0) then 0<=y.1/\y.1.toNat<x1/\bif (y.2.1.2.1.getD y.1.toNat ct).Name.toList==name.toList then Li y.1 (s9 d.aw name) else JI d name q0/\I4 d name q0<I4 d name y else Li (-1) (s9 d.aw name))
 dsimp only
 refine⟨⟨rfl,by omega,by omega,by intro j hj;omega⟩,?_⟩
 rintro⟨i,fb,⟨⟩⟩ ⟨rfl,h1,h2,hR⟩
 simp only
 refine ae ?_ ?_<;>intro hc
 ·have hc:i<d.aw.length:=yT hc
  simp(disch:=omega) only[wrap_i64,aO]
  refine⟨by omega,by omega,ae (fun h=>nz ?_) (fun h=>⟨⟨rfl,by omega,by omega,jk (p:=fun j=>decide ((d.aw.getD j ct).Name=name)) h1 hR h⟩,by simp only[I4];omega⟩)⟩
  rw[s9,gx (i:=i.toNat) (by omega) h (fun j hj=>hR j (by omega))]
  omega
 ·have hc:¬i<d.aw.length:=yF hc
  exact nz (jx (fun j hj=>hR j (by omega))).symm
def agh:=bW (α:=br) (q1 (qA .h_)) [.ro] (fun d=>[cE d<=4294967295]) (fun d=>⟨[dO (f_ d)],[],[]⟩)
def Kb(d:br):Int×T2×Unit->Prop:=fun(i,b,_)=>b=(d.Name,d.aw,())/\0<=i/\i<=d.aw.length/\∀j:Nat,(j:Int)<i->jC d.aw j=true
def Jt(d:br):Int×T2×Unit->Nat:=fun(i,b,_)=>d.aw.length-i.toNat
def aqq:AX agh:=fun d=>bS [(2,aT [iI 3,.box 1 (1,1024) [.lit .str,.shr .bB]] (fun _=>Kb d) (Jt d))]
def ahM:HH:=hF agh func26 [ao7,ao6,Mq,sK] aqq fun(d:br) hp hb=>by
 have ey:=lc (x:=d) (hb _ m0)
 have j_:=ey.1
 have ja:=ey.2
 have bo:cE d<=4294967295:=hp _ m0
 clear hp hb
 apply vE (let q0:=Lb false (f_ d);Kb d (0,(d.Name,d.aw,()),())/\∀(y:Int×T9×PUnit),let x1:=y.2.1.2.1.getD y.1.toNat ct;let x2:=y.2.1.2.1.length;let x0:=(↑x2:Int);let q1:=(wrap i64 (y.1+1),(y.2.1.1,y.2.1.2.1,()),());Kb d y->bif decide (y.1<x0) then 0<=y.1/\y.1.toNat<x2/\dM x1.aH<=4294967295/\bif !fR x1 then q0 else 0<=y.1/\y.1.toNat<x2/\bif s9 y.2.1.2.1 x1.Name !=y.1 then q0 else Kb d q1/\Jt d q1<Jt d y else bif bu y.2.1.1 then Lb (decide (1<=x0/\x0<=12)) (f_ d) else q0)
 dsimp only
 refine⟨⟨rfl,by omega,by omega,by intro j hj;omega⟩,?_⟩
 rintro⟨i,⟨b1,b2,⟨⟩⟩,⟨⟩⟩ ⟨sq,h1,h2,hR⟩
 cases sq
 simp only
 refine aR ?_ ?_<;>intro hc
 ·have hN:jC d.aw i.toNat=false->f_ d=false:=fun h=>by
   have hf:allI d.aw.length (jC d.aw)=false:=g_ (j:=i.toNat) (by omega) h
   simp only[f_,hf,vC]
  have hs:=Po h1 hc
  simp only[cE] at bo
  have ei:((i.toNat:Nat):Int)=i:=by omega
  rw[wi]
  refine⟨by omega,by omega,by omega,bx (fun g=>bD (hN (by simp only[jC,g,qx]))) (fun g=>⟨by omega,by omega,bx (fun k=>bD (hN ?_)) (fun k=>⟨⟨rfl,by omega,by omega,gh h1 hR ?_⟩,by simp only[Jt];omega⟩)⟩)⟩
  ·simp only[jC,ei,g,wQ];exact decide_eq_false (by simpa using k)
  ·simp only[jC,ei,g,wQ];exact decide_eq_true (eq_of_beq k)
 ·have hA:allI d.aw.length (jC d.aw)=true:=iG fun j hj=>hR j (by omega)
  simp only[f_,hA,B6]
  refine ae (fun h=>cg ?_) (fun h=>cg ?_)
  ·rw[h,wQ];exact decide_eq_decide.2 (by omega)
  ·rw[h,qx]
def af5:=bW (α:=br) (q1 (qA .h_)) [.ro] (fun _=>[]) (fun d=>⟨[dO (f_ d)],[],[]⟩)
def J4(d:br):Int×T2×Unit->Prop:=fun(i,b,_)=>b=(d.Name,d.aw,())/\bu d.Name=true/\(1<=d.aw.length/\d.aw.length<=12)/\0<=i/\i<=d.aw.length/\∀j:Nat,(j:Int)<i->jC d.aw j=true
def Jm(d:br):Int×T2×Unit->Nat:=fun(i,b,_)=>d.aw.length-i.toNat
def aqj:AX af5:=fun d=>bS [(4,aT [iI 19,.box 1 (1,1024) [.lit .str,.shr .bB]] (fun _=>J4 d) (Jm d))]
def apw:HH:=hF af5 func34 [ao3,ao2,QI,A'] aqj fun(d:br) hp hb=>by
 clear hp hb
 apply vE (let x0:=(d.aw.length:Int);let q0:=Lb false (f_ d);bif !bu d.Name then q0 else bif !decide (1<=x0/\x0<=12) then q0 else J4 d (0,(d.Name,d.aw,()),())/\∀(y:Int×T9×PUnit),let q1:=(wrap i64 (y.1+1),(y.2.1.1,y.2.1.2.1,()),());J4 d y->bif decide (y.1<x0) then 0<=y.1/\y.1.toNat<d.aw.length/\bif !fR (d.aw.getD y.1.toNat ct) then q0 else bif s9 y.2.1.2.1 (d.aw.getD y.1.toNat ct).Name !=y.1 then q0 else J4 d q1/\Jm d q1<Jm d y else Lb true (f_ d))
 dsimp only
 refine bx (fun a1=>bD (by simp only[f_,a1,qx])) (fun a1=>bx (fun a2=>bD ?_) (fun a2=> ?_))
 ·have a2:=yF a2
  simp only[f_];rw[decide_eq_false (p:=1<=d.aw.length/\d.aw.length<=12) (by omega),vC,qx]
 have a2:=yT a2
 refine⟨⟨rfl,a1,by omega,by omega,by omega,by intro j hj;omega⟩,?_⟩
 rintro⟨i,⟨b1,b2,⟨⟩⟩,⟨⟩⟩ ⟨sq,a3,a4,h1,h2,hR⟩
 cases sq
 simp only
 refine aR ?_ ?_<;>intro hc
 ·have hN:jC d.aw i.toNat=false->f_ d=false:=fun h=>by
   have hf:allI d.aw.length (jC d.aw)=false:=g_ (j:=i.toNat) (by omega) h
   simp only[f_,hf,vC]
  have ei:((i.toNat:Nat):Int)=i:=by omega
  rw[wi]
  refine⟨by omega,by omega,bx (fun g=>bD (hN (by simp only[jC,g,qx]))) (fun g=>bx (fun k=>bD (hN ?_)) (fun k=>⟨⟨rfl,a3,a4,by omega,by omega,gh h1 hR ?_⟩,by simp only[Jm];omega⟩))⟩
  ·simp only[jC,ei,g,wQ];exact decide_eq_false (by simpa using k)
  ·simp only[jC,ei,g,wQ];exact decide_eq_true (eq_of_beq k)
 ·have hA:allI d.aw.length (jC d.aw)=true:=iG fun j hj=>hR j (by omega)
  refine nR ?_
  simp only[f_,hA,a3,decide_eq_true a4];rfl
def afB:=bW (α:=aD×aL) (qC (qA .cQ) (q1 (qA .db))) [.ro,.ro] (fun _=>[]) (fun(s,f)=>⟨[dI (kg s.ab f)],[],[]⟩)
def JG(s:aD)(f:aL):Int×T3×T5×Unit->Prop:=fun(i,b,g,_)=>b=(s.ab,s.Next,())/\g=(f.Kind,f.ag,())/\0<=i/\i<=s.ab.length/\∀j:Nat,(j:Int)<i->decide ((s.ab.getD j aZ).F=f)=false
def I3(s:aD)(f:aL):Int×T3×T5×Unit->Nat:=fun(i,b,g,_)=>s.ab.length-i.toNat
def apR:AX afB:=fun(s,f)=>bS [(2,aT [iI 5,.box 2 (2,1024) [.shr .aJ,.lit (.int .i64)],.box 3 (3,1024) [.lit .str,.shr .bf]] (fun _=>JG s f) (I3 s f))]
def WX:HH:=hF afB func79 [NP] apR fun x hp hb=>by
 obtain⟨s,f⟩:=x
 have i_:=la (x:=s) (hb _ m0)
 have hH:=qq (x:=f) (hb _ m1)
 have pP:=hH.1
 have mQ:=hH.2
 clear hp hb
 apply vE (JG s f (0,(s.ab,s.Next,()),(f.Kind,f.ag,()),())/\∀(y:Int×NR×UJ×PUnit),let x0:=y.2.1.1.getD y.1.toNat aZ;let x2:=y.2.1.1.length;let x1:=(↑x2:Int);let q0:=(wrap i64 (y.1+1),(y.2.1.1,y.2.1.2.1,()),(y.2.2.1.1,y.2.2.1.2.1,()),());JG s f y->bif decide (y.1<x1) then 0<=y.1/\y.1.toNat<x2/\bif decide (x0.F={Kind:=y.2.2.1.1,ag:=y.2.2.1.2.1:aL}) then 0<=y.1/\y.1.toNat<x2/\Li x0.Id (kg s.ab f) else JG s f q0/\I3 s f q0<I3 s f y else Li 0 (kg s.ab f))
 dsimp only
 refine⟨⟨rfl,rfl,by omega,by omega,by intro j hj;omega⟩,?_⟩
 rintro⟨i,⟨b1,b2,⟨⟩⟩,⟨g1,g2,⟨⟩⟩,⟨⟩⟩ ⟨sq,hg,h1,h2,hR⟩
 cases sq
 cases hg
 simp only
 refine aR ?_ ?_<;>intro hc
 ·rw[wi]
  refine⟨by omega,by omega,aR (fun h=>⟨by omega,by omega,nz ?_⟩) (fun h=>⟨⟨rfl,rfl,by omega,by omega,jk (p:=fun j=>decide ((s.ab.getD j aZ).F=f)) h1 hR (decide_eq_false h)⟩,by simp only[I3];omega⟩)⟩
  have e:Gv s.ab f=(i.toNat:Int):=gx (i:=i.toNat) (by omega) (decide_eq_true h) (fun j hj=>hR j (by omega))
  rw[kg,e,if_neg (by omega),Zx]
 ·refine nz ?_
  have e:Gv s.ab f= -1:=jx (fun j hj=>hR j (by omega))
  rw[kg,if_pos e]
def afz:=bW (α:=aD×Int) (qC (qA .cQ) (q1 qI)) [.ro,.ro] (fun(s,id)=>[L4 (bV s.ab)]) (fun(s,id)=>⟨[dA .db (pi s.ab id),dO (kw s.ab id)],[],[]⟩)
def JF(s:aD)(id:Int):Int×T3×T5×Unit->Prop:=fun(i,b,g,_)=>b=(s.ab,s.Next,())/\0<=i/\i<=s.ab.length/\∀j:Nat,(j:Int)<i->decide ((s.ab.getD j aZ).Id=id)=false
def I2(s:aD)(id:Int):Int×T3×T5×Unit->Nat:=fun(i,b,g,_)=>s.ab.length-i.toNat
def apP:AX afz:=fun(s,id)=>bS [(2,aT [iI 6,.box 2 (2,1024) [.shr .aJ,.lit (.int .i64)],.box 4 (4,1024) [.lit .str,.own .bf true]] (fun _=>JF s id) (I2 s id))]
def ao4:HH:=hF afz func85 [A9] apP fun x hp hb=>by
 obtain⟨s,id⟩:=x
 have i_:=la (x:=s) (hb _ m0)
 have Oq:=zk (n:=id) (hb _ m1)
 have bo:bV s.ab<=4294967296:=hp _ m0
 clear hp hb
 apply vE (let q0:=pi s.ab id;JF s id (0,(s.ab,s.Next,()),({data:= #[]:BA},[],()),())/\∀(y:Int×NR×UJ×PUnit),let x2:=y.2.1.1.getD y.1.toNat aZ;let x4:=y.2.1.1.length;let x1:=x2.F;let x3:=(↑x4:Int);let x0:=x1.ag;let q1:=(wrap i64 (y.1+1),(y.2.1.1,y.2.1.2.1,()),(y.2.2.1.1,y.2.2.1.2.1,()),());JF s id y->bif decide (y.1<x3) then 0<=y.1/\y.1.toNat<x4/\bif x2.Id==id then 0<=y.1/\y.1.toNat<x4/\L4 x0.length/\Lf [DV.agg [CS x1.Kind,CL .bf x0],VB true] [DV.agg [CS (q0.Kind),CL .bf q0.ag],VB (kw s.ab id)] else JF s id q1/\I2 s id q1<I2 s id y else Lf [DV.agg [CS ({data:= #[]:BA}),CL .bf []],VB false] [DV.agg [CS (q0.Kind),CL .bf q0.ag],VB (kw s.ab id)])
 dsimp only
 refine⟨⟨rfl,by omega,by omega,by intro j hj;omega⟩,?_⟩
 rintro⟨i,⟨b1,b2,⟨⟩⟩,⟨g1,g2,⟨⟩⟩,⟨⟩⟩ ⟨sq,h1,h2,hR⟩
 cases sq
 simp only
 refine aR ?_ ?_<;>intro hc
 ·rw[wi]
  have hs:=d_ jX s.ab aZ h1 hc
  simp only[jX,dh,eG] at hs
  simp only[bV,jX,dh,eG] at bo
  refine⟨by omega,by omega,bg (fun h=>⟨by omega,by omega,by omega,?_⟩) (fun h=>⟨⟨rfl,by omega,by omega,jk (p:=fun j=>decide ((s.ab.getD j aZ).Id=id)) h1 hR (decide_eq_false h)⟩,by simp only[I2];omega⟩)⟩
  have e:vM s.ab id=(i.toNat:Int):=gx (i:=i.toNat) (by omega) (decide_eq_true h) (fun j hj=>hR j (by omega))
  have e1:pi s.ab id=(s.ab.getD i.toNat aZ).F:=by rw[pi,e,if_neg (by omega),Zx]
  have e2:kw s.ab id=true:=iF (j:=i.toNat) (by omega) (decide_eq_true h)
  rw[e1,e2];exact aY _
 ·have e:vM s.ab id= -1:=jx (fun j hj=>hR j (by omega))
  have e1:pi s.ab id=uO:=by rw[pi,if_pos e]
  have e2:kw s.ab id=false:=gz fun j hj=>hR j (by omega)
  rw[e1,e2];exact aY _
def afv:=bW (α:=aD×Int) (qC (qA .cQ) (q1 qI)) [.ro,.ro] (fun(s,id)=>[L4 (bV s.ab)]) (fun(s,id)=>⟨[dA .db (pi s.ab id),dO (kw s.ab id)],[],[]⟩)
def JC(s:aD)(id:Int):Int×T5×Unit->Prop:=fun(i,g,_)=>0<=i/\i<=s.ab.length/\∀j:Nat,(j:Int)<i->decide ((s.ab.getD j aZ).Id=id)=false
def IZ(s:aD)(id:Int):Int×T5×Unit->Nat:=fun(i,g,_)=>s.ab.length-i.toNat
def apL:AX afv:=fun(s,id)=>bS [(2,aT [iI 11,.box 4 (4,1024) [.lit .str,.own .bf true]] (fun _=>JC s id) (IZ s id))]
def aoW:HH:=hF afv func97 [zV] apL fun x hp hb=>by
 obtain⟨s,id⟩:=x
 have i_:=la (x:=s) (hb _ m0)
 have Oq:=zk (n:=id) (hb _ m1)
 have bo:bV s.ab<=4294967296:=hp _ m0
 clear hp hb
 apply vE (let q0:=pi s.ab id;JC s id (0,({data:= #[]:BA},[],()),())/\∀(y:Int×UJ×PUnit),let q1:=s.ab.getD y.1.toNat aZ;let q2:=(wrap i64 (y.1+1),(y.2.1.1,y.2.1.2.1,()),());JC s id y->bif decide (y.1<(s.ab.length:Int)) then 0<=y.1/\y.1.toNat<s.ab.length/\bif q1.Id==id then L4 q1.F.ag.length/\Lf [DV.agg [CS (q1.F.Kind),CL .bf q1.F.ag],VB true] [DV.agg [CS (q0.Kind),CL .bf q0.ag],VB (kw s.ab id)] else JC s id q2/\IZ s id q2<IZ s id y else Lf [DV.agg [CS ({data:= #[]:BA}),CL .bf []],VB false] [DV.agg [CS (q0.Kind),CL .bf q0.ag],VB (kw s.ab id)])
 dsimp only
 refine⟨⟨by omega,by omega,by intro j hj;omega⟩,?_⟩
 rintro⟨i,⟨g1,g2,⟨⟩⟩,⟨⟩⟩ ⟨h1,h2,hR⟩
 simp only
 refine aR ?_ ?_<;>intro hc
 ·rw[wi]
  have hs:=d_ jX s.ab aZ h1 hc
  simp only[jX,dh,eG] at hs
  simp only[bV,jX,dh,eG] at bo
  refine⟨by omega,by omega,bg (fun h=>⟨by omega,?_⟩) (fun h=>⟨⟨by omega,by omega,jk (p:=fun j=>decide ((s.ab.getD j aZ).Id=id)) h1 hR (decide_eq_false h)⟩,by simp only[IZ];omega⟩)⟩
  have e:vM s.ab id=(i.toNat:Int):=gx (i:=i.toNat) (by omega) (decide_eq_true h) (fun j hj=>hR j (by omega))
  have e1:pi s.ab id=(s.ab.getD i.toNat aZ).F:=by rw[pi,e,if_neg (by omega),Zx]
  have e2:kw s.ab id=true:=iF (j:=i.toNat) (by omega) (decide_eq_true h)
  rw[e1,e2];exact aY _
 ·have e:vM s.ab id= -1:=jx (fun j hj=>hR j (by omega))
  have e1:pi s.ab id=uO:=by rw[pi,if_pos e]
  have e2:kw s.ab id=false:=gz fun j hj=>hR j (by omega)
  rw[e1,e2];exact aY _
def agb:=bW (α:=aD) (q1 (qA .cQ)) [.ro] (fun _=>[]) (fun s=>⟨[dO (bq s)],[],[]⟩)
def Ga(s:aD):Int×T3×Unit->Prop:=fun(i,b,_)=>b=(s.ab,s.Next,())/\0<=i/\i<=s.ab.length/\∀j:Nat,(j:Int)<i->pe s j=true
def A5(s:aD):Int×T3×Unit->Nat:=fun(i,b,_)=>s.ab.length-i.toNat
def aqp:AX agb:=fun s=>bS [(4,aT [iI 3,.box 1 (1,1024) [.shr .aJ,.lit (.int .i64)]] (fun _=>Ga s) (A5 s))]
def apB:HH:=hF agb func27 [sK,NQ,WX] aqp fun(s:aD) hp hb=>by
 clear hp hb
 apply vE (let q0:=Lb false (bq s);bif !decide (1<=s.Next/\s.Next<=1000000) then q0 else bif decide ((s.ab.length:Int)>40) then q0 else Ga s (0,(s.ab,s.Next,()),())/\∀(y:Int×NR×PUnit),let x1:=y.2.1.1.length;let x4:=y.2.1.1.getD y.1.toNat aZ;let x5:=Int.toNat (wrap i64 (y.1-1));let x0:=x4.Id;let x2:=(y.2.1.1.getD x5 aZ).Id;let x3:=x4.F;let q1:=bif kg y.2.1.1 x3 !=x0 then q0 else Ga s (wrap i64 (y.1+1),(y.2.1.1,y.2.1.2.1,()),())/\A5 s (wrap i64 (y.1+1),(y.2.1.1,y.2.1.2.1,()),())<A5 s y;Ga s y->bif decide (y.1<(↑x1:Int)) then 0<=y.1/\y.1.toNat<x1/\bif !bE x3 then q0 else bif decide (x0<1) then q0 else bif decide (x0≥y.2.1.2.1) then q0 else bif decide (y.1>0) then 0<=wrap i64 (y.1-1)/\x5<x1/\bif decide (x2≥x0) then q0 else q1 else q1 else Lb true (bq s))
 dsimp only
 refine bx (fun a1=>bD (by simp only[bq,a1,qx])) (fun a1=>aR (fun a2=>bD ?_) (fun a2=> ?_))
 ·simp only[bq];rw[decide_eq_false (p:=s.ab.length<=40) (by omega),vC,qx]
 refine⟨⟨rfl,by omega,by omega,by intro j hj;omega⟩,?_⟩
 rintro⟨i,⟨b1,b2,⟨⟩⟩,⟨⟩⟩ ⟨sq,h1,h2,hR⟩
 cases sq
 simp only
 refine aR ?_ ?_<;>intro hc
 ·have hN:pe s i.toNat=false->bq s=false:=fun h=>by
   have hf:allI s.ab.length (pe s)=false:=g_ (j:=i.toNat) (by omega) h
   simp only[bq,hf,vC]
  have e1:(i-1).toNat=i.toNat-1:=by omega
  simp(disch:=omega) only[wrap_i64]
  simp only[e1]
  have hi1:i>0->0<=i-1:=fun h=>by omega
  have gy:i.toNat<s.ab.length:=by omega
  have E8:i.toNat-1<s.ab.length:=by omega
  have XI:pe s i.toNat=true->Ga s (i+1,(s.ab,s.Next,PUnit.unit),PUnit.unit)/\A5 s (i+1,(s.ab,s.Next,PUnit.unit),PUnit.unit)<A5 s (i,(s.ab,s.Next,PUnit.unit),PUnit.unit):=fun h=>⟨⟨rfl,by omega,by omega,gh h1 hR h⟩,by simp only[A5];omega⟩
  have c3:decide (0<i.toNat)=decide (i>0):=decide_eq_decide.2 (by omega)
  simp only[pe,jU,c3] at hN XI
  generalize hA:s.ab.getD i.toNat aZ=a at*
  generalize hB:s.ab.getD (i.toNat-1) aZ=b at*
  generalize hQ:kg s.ab a.F=q at*
  generalize hO:bE a.F=o at*
  refine And.intro h1 (And.intro gy ?_)
  repeat' (first|refine bD (hN ?_)|refine XI ?_|refine aR (fun h=> ?_) (fun h=> ?_)|refine bx (fun h=> ?_) (fun h=> ?_)|refine And.intro E8 ?_|refine And.intro (hi1 (by assumption)) ?_)
  all_goals (cases o<;>simp at* <;>omega)
 ·have hA:allI s.ab.length (pe s)=true:=iG fun j hj=>hR j (by omega)
  refine nR ?_
  simp only[bq,hA,a1,decide_eq_true (show s.ab.length<=40 by omega)];rfl
def af4:=bW (α:=aD) (q1 (qA .cQ)) [.ro] (fun _=>[]) (fun s=>⟨[dO (bq s)],[],[]⟩)
def F_(s:aD):Int×T3×Unit->Prop:=fun(i,b,_)=>b=(s.ab,s.Next,())/\0<=i/\i<=s.ab.length/\∀j:Nat,(j:Int)<i->jn s j=true
def xN(s:aD):Int×T3×Unit->Nat:=fun(i,b,_)=>s.ab.length-i.toNat
def xO(s:aD):Int×Int×T17×T3×Unit->Int×Int×T17×T3×Unit->Prop:=fun(i0,k0,x0,b0,_) (i,k,x,b,_)=>i=i0/\x=x0/\b=b0/\0<=k/\k<=i/\∀j:Nat,(j:Int)<k->decide ((s.ab.getD i.toNat aZ).F=(s.ab.getD j aZ).F)=false
def xM(s:aD):Int×Int×T17×T3×Unit->Nat:=fun(i,k,x,b,_)=>i.toNat-k.toNat
def aqi:AX af4:=fun s=>bS [(4,aT [iI 20,.box 1 (1,1024) [.shr .aJ,.lit (.int .i64)]] (fun _=>F_ s) (xN s)),(9,aT [iI 20,iI 59,.box 4 (4,1024) [.lit (.int .i64),.lit .str,.shr .bf],.box 1 (1,1024) [.shr .aJ,.lit (.int .i64)]] (xO s) (xM s))]
def apv:HH:=hF af4 func35 [A',QH,TX] aqi fun(s:aD) hp hb=>by
 clear hp hb
 apply vE (let x0:=(s.ab.length:Int);let x1:=Option.getD none (0:Int);let q0:=Lb false (bq s);let q1:=List bO×Int×PUnit;let q2:=Int×BA×List a_×PUnit;bif decide (x0>40) then q0 else bif !decide (1<=s.Next/\s.Next<=1000000) then q0 else F_ s (0,(s.ab,s.Next,()),())/\∀(y:Int×q1×PUnit),let x8:=y.2.1.1.length;let x9:=(s.ab.getD y.1.toNat aZ).Id;let mf:=(s.ab.getD y.1.toNat aZ).F;let qP:=Int.toNat (wrap i64 (y.1-1));let x4:=(y.2.1.1.getD qP aZ).Id;let x7:=(↑x8:Int);let x3:=Option.getD (some y.1) x7;let x6:=(y.2.1.1.take x3.toNat).drop x1.toNat;let x5:=x6.length;let x2:=(↑x5:Int);let q3:=(y.1,0,(x9,mf.Kind,mf.ag,()),(y.2.1.1,y.2.1.2.1,()),());F_ s y->bif decide (y.1<x0) then 0<=y.1/\y.1.toNat<s.ab.length/\bif !bE mf then q0 else bif !decide (1<=x9/\x9<=wrap i64 (y.2.1.2.1-1)) then q0 else bif decide (y.1>0) then 0<=wrap i64 (y.1-1)/\qP<x8/\bif decide (x9<=x4) then q0 else 0<=x1/\x1<=x3/\x3<=x7/\xO s q3 q3/\∀(aF:Int×Int×q2×q1×PUnit),let w_:=aF.2.1.toNat;let q4:=(aF.1,wrap i64 (aF.2.1+1),(aF.2.2.1.1,aF.2.2.1.2.1,aF.2.2.1.2.2.1,()),(aF.2.2.2.1.1,aF.2.2.2.1.2.1,()),());let q5:=(wrap i64 (aF.1+1),(aF.2.2.2.1.1,aF.2.2.2.1.2.1,()),());xO s q3 aF->bif decide (aF.2.1<x2) then 0<=aF.2.1/\w_<x5/\bif decide ({Kind:=aF.2.2.1.2.1,ag:=aF.2.2.1.2.2.1:aL}=(x6.getD w_ aZ).F) then q0 else xO s q3 q4/\xM s q4<xM s aF else F_ s q5/\xN s q5<xN s y else 0<=x1/\x1<=x3/\x3<=x7/\xO s q3 q3/\∀(aF:Int×Int×q2×q1×PUnit),let w_:=aF.2.1.toNat;let q6:=(aF.1,wrap i64 (aF.2.1+1),(aF.2.2.1.1,aF.2.2.1.2.1,aF.2.2.1.2.2.1,()),(aF.2.2.2.1.1,aF.2.2.2.1.2.1,()),());let q7:=(wrap i64 (aF.1+1),(aF.2.2.2.1.1,aF.2.2.2.1.2.1,()),());xO s q3 aF->bif decide (aF.2.1<x2) then 0<=aF.2.1/\w_<x5/\bif decide ({Kind:=aF.2.2.1.2.1,ag:=aF.2.2.1.2.2.1:aL}=(x6.getD w_ aZ).F) then q0 else xO s q3 q6/\xM s q6<xM s aF else F_ s q7/\xN s q7<xN s y else Lb true (bq s))
 dsimp only
 have hF:(decide (1<=s.Next/\s.Next<=1000000)&&decide (s.ab.length<=40)&&allI s.ab.length (jn s))=bq s:=by rw[Em];rfl
 refine aR (fun a2=>bD ?_) (fun a2=>bx (fun a1=>bD (by simp only[bq,a1,qx])) (fun a1=> ?_))
 ·simp only[bq];rw[decide_eq_false (p:=s.ab.length<=40) (by omega),vC,qx]
 have a3:=yT a1
 refine⟨⟨rfl,by omega,by omega,by intro j hj;omega⟩,?_⟩
 rintro⟨i,⟨b1,b2,⟨⟩⟩,⟨⟩⟩ ⟨sq,h1,h2,hR⟩
 cases sq
 simp only
 refine aR ?_ ?_<;>intro hc
 ·have hN:jn s i.toNat=false->bq s=false:=fun h=>by
   have hf:allI s.ab.length (jn s)=false:=g_ (j:=i.toNat) (by omega) h
   rw[<-hF,hf,vC]
  have e1:(i-1).toNat=i.toNat-1:=by omega
  have c3:decide (0<i.toNat)=decide (i>0):=decide_eq_decide.2 (by omega)
  rw[wi (n:=s.Next-1),wi (n:=i-1),e1]
  have QO:jU s i.toNat=false->bq s=false:=fun h=>hN (by simp only[jn,h,qx])
  refine⟨by omega,by omega,bx (fun a=>bD (QO (by simp only[jU,a,qx]))) (fun a=>bx (fun a'=>bD (QO ?_)) (fun a'=>aR (fun p=>⟨by omega,by omega,aR (fun q=>bD (QO ?_)) (fun q=> ?_)⟩) (fun p=> ?_)))⟩
  ·have a':=yF a'
   by_cases g:1<=(s.ab.getD i.toNat aZ).Id
   ·simp only[jU,decide_eq_false (show¬(s.ab.getD i.toNat aZ).Id<s.Next by omega),vC,qx]
   ·simp only[jU,decide_eq_false g,vC,qx]
  ·simp only[jU,c3,decide_eq_true p,decide_eq_true q,B6,zfa,vC]
  ·have a':=yT a'
   have Lz:jU s i.toNat=true:=by
    simp only[jU,a,decide_eq_true a'.1,decide_eq_true (show(s.ab.getD i.toNat aZ).Id<s.Next by omega),decide_eq_false q,vC,W9,B6]
   refine⟨Int.le_refl 0,by simp only[QY,Gi];omega,by simp only[Gi];omega,⟨rfl,rfl,rfl,by omega,by omega,by intro j hj;omega⟩,?_⟩
   rintro⟨i',k,⟨x1,x2,x3,⟨⟩⟩,⟨y1,y2,⟨⟩⟩,⟨⟩⟩ ⟨rfl,hx,hy,k1,k2,kR⟩
   cases hx
   cases hy
   simp only[QY,Gi,show Int.toNat 0=0 from rfl,List.drop_zero]
   have etl:(s.ab.take i'.toNat).length=i'.toNat:=by rw[oq];omega
   refine aR ?_ ?_<;>intro hk
   ·rw[etl] at hk
    rw[getD_take s.ab aZ (show k.toNat<i'.toNat by omega),etl,wi (n:=k+1)]
    refine⟨k1,by omega,aR (fun e=>bD (hN ?_)) (fun e=>⟨⟨rfl,rfl,rfl,by omega,by omega,jk (p:=fun j=>decide ((s.ab.getD i'.toNat aZ).F=(s.ab.getD j aZ).F)) k1 kR (decide_eq_false e)⟩,by simp only[xM];omega⟩)⟩
    have ha:(anyI i'.toNat fun k=>decide ((s.ab.getD i'.toNat aZ).F=(s.ab.getD k aZ).F))=true:=iF (j:=k.toNat) (by omega) (decide_eq_true e)
    simp only[jn,ha,zfa,vC]
   ·rw[etl] at hk
    rw[wi (n:=i'+1)]
    refine⟨⟨rfl,by omega,by omega,gh h1 hR ?_⟩,by simp only[xN];omega⟩
    have ha:(anyI i'.toNat fun k=>decide ((s.ab.getD i'.toNat aZ).F=(s.ab.getD k aZ).F))=false:=gz fun j hj=>kR j (by omega)
    simp only[jn,ha,Lz,W9,B6]
  ·have a':=yT a'
   have Lz:jU s i.toNat=true:=by
    simp only[jU,c3,a,decide_eq_true a'.1,decide_eq_true (show(s.ab.getD i.toNat aZ).Id<s.Next by omega),decide_eq_false p,qx,W9,B6]
   refine⟨Int.le_refl 0,by simp only[QY,Gi];omega,by simp only[Gi];omega,⟨rfl,rfl,rfl,by omega,by omega,by intro j hj;omega⟩,?_⟩
   rintro⟨i',k,⟨x1,x2,x3,⟨⟩⟩,⟨y1,y2,⟨⟩⟩,⟨⟩⟩ ⟨rfl,hx,hy,k1,k2,kR⟩
   cases hx
   cases hy
   simp only[QY,Gi,show Int.toNat 0=0 from rfl,List.drop_zero]
   have etl:(s.ab.take i'.toNat).length=i'.toNat:=by rw[oq];omega
   refine aR ?_ ?_<;>intro hk
   ·rw[etl] at hk
    rw[getD_take s.ab aZ (show k.toNat<i'.toNat by omega),etl,wi (n:=k+1)]
    refine⟨k1,by omega,aR (fun e=>bD (hN ?_)) (fun e=>⟨⟨rfl,rfl,rfl,by omega,by omega,jk (p:=fun j=>decide ((s.ab.getD i'.toNat aZ).F=(s.ab.getD j aZ).F)) k1 kR (decide_eq_false e)⟩,by simp only[xM];omega⟩)⟩
    have ha:(anyI i'.toNat fun k=>decide ((s.ab.getD i'.toNat aZ).F=(s.ab.getD k aZ).F))=true:=iF (j:=k.toNat) (by omega) (decide_eq_true e)
    simp only[jn,ha,zfa,vC]
   ·rw[etl] at hk
    rw[wi (n:=i'+1)]
    refine⟨⟨rfl,by omega,by omega,gh h1 hR ?_⟩,by simp only[xN];omega⟩
    have ha:(anyI i'.toNat fun k=>decide ((s.ab.getD i'.toNat aZ).F=(s.ab.getD k aZ).F))=false:=gz fun j hj=>kR j (by omega)
    simp only[jn,ha,Lz,W9,B6]
 ·have hA:allI s.ab.length (jn s)=true:=iG fun j hj=>hR j (by omega)
  refine nR ?_
  rw[<-hF,hA,a1,decide_eq_true (show s.ab.length<=40 by omega)];rfl
theorem Fm{d:br}{s:List bO}{m:av}(h1:kl d m=true)(h2:m.bw.length=0)(h3:m.eo.length=cS (d.aw.getD m.cL.toNat ct).aH):jb d s m=m.eo.all (kw s):=by
 simp only[jb,h1,decide_eq_true h2,decide_eq_true h3,wQ]
theorem zd(x:aq):bV x.S.ab<=cU x:=by
 simp only[cU,jr];omega
theorem oH{d:br}{m:av}(h:kl d m=true):0<=m.cL/\m.cL<(d.aw.length:Int):=by
 simpa[kl] using h
theorem G0{d:br}{m:av}(h:kl d m=true):cS (d.aw.getD m.cL.toNat ct).aH<=cE d:=by
 obtain⟨h1,h2⟩:=oH h
 have hs:=d_ dV d.aw ct h1 h2
 have hle:cS (d.aw.getD m.cL.toNat ct).aH<=(d.aw.getD m.cL.toNat ct).aH.length:=Mw _ _
 simp only[dV,kJ] at hs
 simp only[cE,j7,dV,kJ];omega
def aos:=bW (α:=br×av) (qC (qA .h_) (q1 (qA .aB))) [.ro,.ro] (fun _=>[]) (fun(d,m)=>⟨[dO (kl d m)],[],[]⟩)
def WW:HH:=hF aos func83 [] a0 fun x hp hb=>by
 obtain⟨d,m⟩:=x
 clear hp hb
 apply vE (bif decide (m.cL≥0) then Lb (decide (m.cL<(d.aw.length:Int))) (kl d m) else Lb false (kl d m))
 simp only[kl]
 refine aR (fun h=>cg ?_) (fun h=>cg ?_)
 ·rw[decide_eq_true (show 0<=m.cL from h),wQ]
 ·rw[decide_eq_false (show¬0<=m.cL from h),qx]
def aok:=bW (α:=br×av) (qC (qA .h_) (q1 (qA .aB))) [.ro,.ro] (fun _=>[]) (fun(d,m)=>⟨[dO (kl d m)],[],[]⟩)
def aoX:HH:=hF aok func95 [] a0 fun x hp hb=>by
 obtain⟨d,m⟩:=x
 clear hp hb
 apply vE (bif decide (m.cL≥0) then Lb (decide (m.cL<(d.aw.length:Int))) (kl d m) else Lb false (kl d m))
 simp only[kl]
 refine aR (fun h=>cg ?_) (fun h=>cg ?_)
 ·rw[decide_eq_true (show 0<=m.cL from h),wQ]
 ·rw[decide_eq_false (show¬0<=m.cL from h),qx]
def af7:=bW (α:=br×aq) (qC (qA .h_) (q1 (qA .cp))) [.ro,.ro] (fun(d,x)=>[cE d<=4294967295,L4 (bV x.S.ab)]) (fun(d,x)=>⟨[dO (iP d x)],[],[]⟩)
def J7(d:br)(x:aq):Int×T2×T0×Unit->Prop:=fun(i,b,g,_)=>b=(d.Name,d.aw,())/\g=(x.S.ab,x.S.Next,x.aA,x.aj,x.ap,x.ax,x.State,x.cd,())/\0<=i/\i<=x.aA.length/\(x.aA.drop i.toNat).all (jb d x.S.ab)=x.aA.all (jb d x.S.ab)
def Jp(d:br)(x:aq):Int×T2×T0×Unit->Nat:=fun(i,b,g,_)=>x.aA.length-i.toNat
def J6(d:br)(x:aq):Int×Int×T2×T0×T8×Unit->Int×Int×T2×T0×T8×Unit->Prop:=fun(i0,k0,b0,g0,m0,_) (i,k,b,g,m,_)=>i=i0/\b=b0/\g=g0/\m=m0/\0<=k/\k<=(x.aA.getD i.toNat aX).eo.length/\((x.aA.getD i.toNat aX).eo.drop k.toNat).all (kw x.S.ab)=(x.aA.getD i.toNat aX).eo.all (kw x.S.ab)
def Jo(d:br)(x:aq):Int×Int×T2×T0×T8×Unit->Nat:=fun(i,k,b,g,m,_)=>(x.aA.getD i.toNat aX).eo.length-k.toNat
def aql:AX af7:=fun(d,x)=>bS [(2,aT [iI 5,.box 2 (2,1024) [.lit .str,.shr .bB],.box 3 (3,1024) [.shr .aJ,.lit (.int .i64),.shr .aB,.shr .az,.shr .aE,.shr .aQ,.lit (.int .i64),.lit (.int .i64)]] (fun _=>J7 d x) (Jp d x)),(8,aT [iI 5,iI 7,.box 2 (2,1024) [.lit .str,.shr .bB],.box 3 (3,1024) [.shr .aJ,.lit (.int .i64),.shr .aB,.shr .az,.shr .aE,.shr .aQ,.lit (.int .i64),.lit (.int .i64)],.box 6 (6,1024) [.lit (.int .i64),.shr .int,.shr .cw]] (J6 d x) (Jo d x))]
def apz:HH:=hF af7 func31 [WW,TV,ao4] aql fun x hp hb=>by
 obtain⟨d,x⟩:=x
 have ey:=lc (x:=d) (hb _ m0)
 have j_:=ey.1
 have ja:=ey.2
 have hH:=oR (x:=x) (hb _ m1)
 have ee:=hH.1
 have fL:=hH.2.1
 have fK:=hH.2.2.1
 have e6:=hH.2.2.2.1
 have fJ:=hH.2.2.2.2
 have bo:cE d<=4294967295:=hp _ m0
 have eJ:bV x.S.ab<=4294967296:=hp _ m1
 clear hp hb
 apply vE (let q0:=List bO×Int×List av×List ao×List aI×List bp×Int×Int×PUnit;let q1:=Lb false (iP d x);J7 d x (0,(d.Name,d.aw,()),(x.S.ab,x.S.Next,x.aA,x.aj,x.ap,x.ax,x.State,x.cd,()),())/\∀(y:Int×T9×q0×PUnit),let x0:=y.2.2.1.2.2.1.getD y.1.toNat aX;let x2:=y.2.2.1.2.2.1.length;let x1:=(↑x2:Int);let q2:=(y.1,0,(y.2.1.1,y.2.1.2.1,()),(y.2.2.1.1,y.2.2.1.2.1,y.2.2.1.2.2.1,y.2.2.1.2.2.2.1,y.2.2.1.2.2.2.2.1,y.2.2.1.2.2.2.2.2.1,y.2.2.1.2.2.2.2.2.2.1,y.2.2.1.2.2.2.2.2.2.2.1,()),(x0.cL,x0.eo,x0.bw,()),());J7 d x y->bif decide (y.1<x1) then 0<=y.1/\y.1.toNat<x2/\bif !kl {Name:=y.2.1.1,aw:=y.2.1.2.1:br} x0 then q1 else bif (x0.bw.length:Int) !=0 then q1 else 0<=x0.cL/\x0.cL.toNat<y.2.1.2.1.length/\bif (x0.eo.length:Int) !=(↑(cS (y.2.1.2.1.getD x0.cL.toNat ct).aH):Int) then q1 else J6 d x q2 q2/\∀(aF:Int×Int×T9×q0×T19×PUnit),let x4:=aF.2.2.2.2.1.2.1.length;let x5:=aF.2.1.toNat;let x3:=(↑x4:Int);let q3:=(aF.2.2.2.1.1,aF.2.2.2.1.2.1,aF.2.2.2.1.2.2.1,aF.2.2.2.1.2.2.2.1,aF.2.2.2.1.2.2.2.2.1,aF.2.2.2.1.2.2.2.2.2.1,aF.2.2.2.1.2.2.2.2.2.2.1,aF.2.2.2.1.2.2.2.2.2.2.2.1,());let q4:=(aF.1,wrap i64 (aF.2.1+1),(aF.2.2.1.1,aF.2.2.1.2.1,()),q3,(aF.2.2.2.2.1.1,aF.2.2.2.2.1.2.1,aF.2.2.2.2.1.2.2.1,()),());let q5:=(wrap i64 (aF.1+1),(aF.2.2.1.1,aF.2.2.1.2.1,()),q3,());J6 d x q2 aF->bif decide (aF.2.1<x3) then 0<=aF.2.1/\x5<x4/\L4 (bV aF.2.2.2.1.1)/\bif !kw aF.2.2.2.1.1 (aF.2.2.2.2.1.2.1.getD x5 0) then q1 else J6 d x q2 q4/\Jo d x q4<Jo d x aF else J7 d x q5/\Jp d x q5<Jp d x y else Lb (decide (x1<=1000)) (iP d x))
 dsimp only
 refine⟨⟨rfl,rfl,by omega,by omega,rfl⟩,?_⟩
 rintro⟨i,⟨b1,b2,⟨⟩⟩,⟨g1,g2,g3,g4,g5,g6,g7,g8,⟨⟩⟩,⟨⟩⟩ ⟨hb,hg,h1,h2,hR⟩
 cases hb
 cases hg
 simp only
 refine aR ?_ ?_<;>intro hc
 ·rw[dW _ _ aX h1 hc] at hR
  have hN:jb d x.S.ab (x.aA.getD i.toNat aX)=false->iP d x=false:=fun h=>by simp only[iP,<-hR,h,qx,vC]
  refine⟨by omega,by omega,bx (fun a=>bD (hN ?_)) (fun a=>bx (fun b=>bD (hN ?_)) (fun b=> ?_))⟩
  ·have a:kl d (x.aA.getD i.toNat aX)=false:=a
   simp only[jb,a,qx]
  ·have b:¬(x.aA.getD i.toNat aX).bw.length=0:=by simpa using b
   simp only[jb,decide_eq_false b,qx,vC]
  have a:kl d (x.aA.getD i.toNat aX)=true:=a
  have b:(x.aA.getD i.toNat aX).bw.length=0:=by simpa using b
  obtain⟨r1,r2⟩:=oH a
  have hz:=G0 a
  refine⟨r1,by omega,bx (fun c=>bD (hN ?_)) (fun c=>⟨⟨rfl,rfl,rfl,rfl,by omega,by omega,rfl⟩,?_⟩)⟩
  ·have c:¬(x.aA.getD i.toNat aX).eo.length=cS (d.aw.getD (x.aA.getD i.toNat aX).cL.toNat ct).aH:=fun e=>by rw[e] at c;simp at c
   simp only[jb,decide_eq_false c,qx,vC]
  have c:(x.aA.getD i.toNat aX).eo.length=cS (d.aw.getD (x.aA.getD i.toNat aX).cL.toNat ct).aH:=by
   have c:=eq_of_beq c
   omega
  have hM:=Fm (s:=x.S.ab) a b c
  rintro⟨i',k,⟨b1,b2,⟨⟩⟩,⟨g1,g2,g3,g4,g5,g6,g7,g8,⟨⟩⟩,⟨m1,m2,m3,⟨⟩⟩,⟨⟩⟩ ⟨rfl,hb,hg,hm,k1,k2,kR⟩
  cases hb
  cases hg
  cases hm
  simp only
  refine aR ?_ ?_<;>intro hk
  ·rw[dW _ _ 0 k1 hk] at kR
   rw[wi (n:=k+1)]
   exact⟨by omega,by omega,eJ,bx (fun e=>bD (hN (by rw[hM,<-kR,e,qx]))) (fun e=>⟨⟨rfl,rfl,rfl,rfl,by omega,by omega,by rw[<-kR,e,wQ]⟩,by simp only[Jo];omega⟩)⟩
  ·rw[cz _ (by omega)] at kR
   rw[wi (n:=i'+1)]
   exact⟨⟨rfl,rfl,by omega,by omega,by rw[<-hR,hM,<-kR];rfl⟩,by simp only[Jp];omega⟩
 ·rw[cz _ (by omega)] at hR
  refine cg ?_
  simp only[iP,<-hR,QS,B6];exact decide_eq_decide.2 (by omega)
def af0:=bW (α:=br×aq) (qC (qA .h_) (q1 (qA .cp))) [.ro,.ro] (fun(d,x)=>[cE d<=4294967295,L4 (bV x.S.ab)]) (fun(d,x)=>⟨[dO (iP d x)],[],[]⟩)
def J0(d:br)(x:aq):Int×T2×T0×Unit->Prop:=fun(i,b,g,_)=>b=(d.Name,d.aw,())/\g=(x.S.ab,x.S.Next,x.aA,x.aj,x.ap,x.ax,x.State,x.cd,())/\x.aA.length<=1000/\0<=i/\i<=x.aA.length/\(x.aA.drop i.toNat).all (jb d x.S.ab)=x.aA.all (jb d x.S.ab)
def Jk(d:br)(x:aq):Int×T2×T0×Unit->Nat:=fun(i,b,g,_)=>x.aA.length-i.toNat
def JZ(d:br)(x:aq):Int×Int×T2×T0×Unit->Int×Int×T2×T0×Unit->Prop:=fun(i0,k0,b0,g0,_) (i,k,b,g,_)=>i=i0/\b=b0/\g=g0/\0<=k/\k<=(x.aA.getD i.toNat aX).eo.length/\((x.aA.getD i.toNat aX).eo.drop k.toNat).all (kw x.S.ab)=(x.aA.getD i.toNat aX).eo.all (kw x.S.ab)
def Jj(d:br)(x:aq):Int×Int×T2×T0×Unit->Nat:=fun(i,k,b,g,_)=>(x.aA.getD i.toNat aX).eo.length-k.toNat
def aqe:AX af0:=fun(d,x)=>bS [(4,aT [iI 18,.box 2 (2,1024) [.lit .str,.shr .bB],.box 3 (3,1024) [.shr .aJ,.lit (.int .i64),.shr .aB,.shr .az,.shr .aE,.shr .aQ,.lit (.int .i64),.lit (.int .i64)]] (fun _=>J0 d x) (Jk d x)),(9,aT [iI 18,iI 48,.box 2 (2,1024) [.lit .str,.shr .bB],.box 3 (3,1024) [.shr .aJ,.lit (.int .i64),.shr .aB,.shr .az,.shr .aE,.shr .aQ,.lit (.int .i64),.lit (.int .i64)]] (JZ d x) (Jj d x))]
def aps:HH:=hF af0 func40 [aoX,ab5,aoW] aqe fun x hp hb=>by
 obtain⟨d,x⟩:=x
 have ey:=lc (x:=d) (hb _ m0)
 have j_:=ey.1
 have ja:=ey.2
 have hH:=oR (x:=x) (hb _ m1)
 have ee:=hH.1
 have fL:=hH.2.1
 have fK:=hH.2.2.1
 have e6:=hH.2.2.2.1
 have fJ:=hH.2.2.2.2
 have bo:cE d<=4294967295:=hp _ m0
 have eJ:bV x.S.ab<=4294967296:=hp _ m1
 clear hp hb
 apply vE (let x0:=(x.aA.length:Int);let q0:=List bO×Int×List av×List ao×List aI×List bp×Int×Int×PUnit;let q1:=Lb false (iP d x);bif decide (x0>1000) then q1 else J0 d x (0,(d.Name,d.aw,()),(x.S.ab,x.S.Next,x.aA,x.aj,x.ap,x.ax,x.State,x.cd,()),())/\∀(y:Int×T9×q0×PUnit),let x2:=x.aA.getD y.1.toNat aX;let x1:=(x2.eo.length:Int);let q2:=(y.1,0,(y.2.1.1,y.2.1.2.1,()),(y.2.2.1.1,y.2.2.1.2.1,y.2.2.1.2.2.1,y.2.2.1.2.2.2.1,y.2.2.1.2.2.2.2.1,y.2.2.1.2.2.2.2.2.1,y.2.2.1.2.2.2.2.2.2.1,y.2.2.1.2.2.2.2.2.2.2.1,()),());J0 d x y->bif decide (y.1<x0) then 0<=y.1/\y.1.toNat<x.aA.length/\bif !kl {Name:=y.2.1.1,aw:=y.2.1.2.1:br} x2 then q1 else bif (x2.bw.length:Int) !=0 then q1 else 0<=x2.cL/\x2.cL.toNat<y.2.1.2.1.length/\bif x1 !=(↑(cS (y.2.1.2.1.getD x2.cL.toNat ct).aH):Int) then q1 else JZ d x q2 q2/\∀(aF:Int×Int×T9×q0×PUnit),let x3:=aF.2.1.toNat;let q3:=(aF.2.2.2.1.1,aF.2.2.2.1.2.1,aF.2.2.2.1.2.2.1,aF.2.2.2.1.2.2.2.1,aF.2.2.2.1.2.2.2.2.1,aF.2.2.2.1.2.2.2.2.2.1,aF.2.2.2.1.2.2.2.2.2.2.1,aF.2.2.2.1.2.2.2.2.2.2.2.1,());let q4:=(aF.1,wrap i64 (aF.2.1+1),(aF.2.2.1.1,aF.2.2.1.2.1,()),q3,());let q5:=(wrap i64 (aF.1+1),(aF.2.2.1.1,aF.2.2.1.2.1,()),q3,());JZ d x q2 aF->bif decide (aF.2.1<x1) then 0<=aF.2.1/\x3<x2.eo.length/\L4 (bV aF.2.2.2.1.1)/\bif !kw aF.2.2.2.1.1 (x2.eo.getD x3 0) then q1 else JZ d x q2 q4/\Jj d x q4<Jj d x aF else J0 d x q5/\Jk d x q5<Jk d x y else Lb true (iP d x))
 dsimp only
 refine aR (fun a=>bD ?_) (fun a=>⟨⟨rfl,rfl,by omega,by omega,by omega,rfl⟩,?_⟩)
 ·simp only[iP];rw[decide_eq_false (p:=x.aA.length<=1000) (by omega),qx]
 rintro⟨i,⟨b1,b2,⟨⟩⟩,⟨g1,g2,g3,g4,g5,g6,g7,g8,⟨⟩⟩,⟨⟩⟩ ⟨hb,hg,a0,h1,h2,hR⟩
 cases hb
 cases hg
 simp only
 refine aR ?_ ?_<;>intro hc
 ·rw[dW _ _ aX h1 hc] at hR
  have hN:jb d x.S.ab (x.aA.getD i.toNat aX)=false->iP d x=false:=fun h=>by simp only[iP,<-hR,h,qx,vC]
  refine⟨by omega,by omega,bx (fun a=>bD (hN ?_)) (fun a=>bx (fun b=>bD (hN ?_)) (fun b=> ?_))⟩
  ·have a:kl d (x.aA.getD i.toNat aX)=false:=a
   simp only[jb,a,qx]
  ·have b:¬(x.aA.getD i.toNat aX).bw.length=0:=by simpa using b
   simp only[jb,decide_eq_false b,qx,vC]
  have a:kl d (x.aA.getD i.toNat aX)=true:=a
  have b:(x.aA.getD i.toNat aX).bw.length=0:=by simpa using b
  obtain⟨r1,r2⟩:=oH a
  have hz:=G0 a
  refine⟨r1,by omega,bx (fun c=>bD (hN ?_)) (fun c=>⟨⟨rfl,rfl,rfl,by omega,by omega,rfl⟩,?_⟩)⟩
  ·have c:¬(x.aA.getD i.toNat aX).eo.length=cS (d.aw.getD (x.aA.getD i.toNat aX).cL.toNat ct).aH:=fun e=>by rw[e] at c;simp at c
   simp only[jb,decide_eq_false c,qx,vC]
  have c:(x.aA.getD i.toNat aX).eo.length=cS (d.aw.getD (x.aA.getD i.toNat aX).cL.toNat ct).aH:=by
   have c:=eq_of_beq c
   omega
  have hM:=Fm (s:=x.S.ab) a b c
  rintro⟨i',k,⟨b1,b2,⟨⟩⟩,⟨g1,g2,g3,g4,g5,g6,g7,g8,⟨⟩⟩,⟨⟩⟩ ⟨rfl,hb,hg,k1,k2,kR⟩
  cases hb
  cases hg
  simp only
  refine aR ?_ ?_<;>intro hk
  ·rw[dW _ _ 0 k1 hk] at kR
   rw[wi (n:=k+1)]
   exact⟨by omega,by omega,eJ,bx (fun e=>bD (hN (by rw[hM,<-kR,e,qx]))) (fun e=>⟨⟨rfl,rfl,rfl,by omega,by omega,by rw[<-kR,e,wQ]⟩,by simp only[Jj];omega⟩)⟩
  ·rw[cz _ (by omega)] at kR
   rw[wi (n:=i'+1)]
   exact⟨⟨rfl,rfl,a0,by omega,by omega,by rw[<-hR,hM,<-kR];rfl⟩,by simp only[Jk];omega⟩
 ·rw[cz _ (by omega)] at hR
  refine nR ?_
  simp only[iP,<-hR,decide_eq_true a0];rfl
def aoH:=bW (α:=(List ao)×(List (DA UU)->Option Value)) (qC (qL .az) (q1 qF)) [.ro,.ro] (fun(l,p)=>[∀j:Nat,j<l.length->p [cn (l.getD j aC)]=some (.bool (bJ (p [cn (l.getD j aC)])))]) (fun(l,p)=>⟨[dO (anyI l.length (fun j=>bJ (p [cn (l.getD j aC)])))],[],[]⟩)
def apr:HH:=hF aoH func41 [WV] a0 fun x hp hb=>by
 obtain⟨l,p⟩:=x
 have bo:∀j:Nat,j<l.length->p [cn (l.getD j aC)]=some (.bool (bJ (p [cn (l.getD j aC)]))):=hp _ m0
 clear hp hb
 apply vE (let x0:=jO (l.length) fun(j:Nat)=>bJ (p [cn (l.getD j aC)]);(∀(j:Nat),j<l.length->p [cn (l.getD j aC)]=some (Value.bool (bJ (p [cn (l.getD j aC)]))))/\Lb (decide (x0≥0)) (anyI (l.length) fun(j:Nat)=>bJ (p [cn (l.getD j aC)])))
 dsimp only
 exact⟨bo,cg (by rw[<-Cb])⟩
def af6:=bW (α:=List ao) (q1 (qL .az)) [.ro] (fun _=>[]) (fun l=>⟨[dO (pw l)],[],[]⟩)
def J5(l:List ao):Int×Unit->Prop:=fun(i,_)=>0<=i/\i<=l.length/\∀j:Nat,(j:Int)<i->jw (l.getD j aC)=false
def Jn(l:List ao):Int×Unit->Nat:=fun(i,_)=>l.length-i.toNat
def aqk:AX af6:=fun l=>bS [(2,aT [iI 3] (fun _=>J5 l) (Jn l))]
def apy:HH:=hF af6 func32 [] aqk fun(l:List ao) hp hb=>by
 have jQ:L9 l.length:=kG (hb _ m0)
 clear hp hb
 apply vE (J5 l (0,())/\∀(y:Int×PUnit),let q0:=(wrap i64 (y.1+1),());J5 l y->bif decide (y.1<(l.length:Int)) then 0<=y.1/\y.1.toNat<l.length/\bif (l.getD y.1.toNat aC).State==1 then Lb true (pw l) else 0<=y.1/\y.1.toNat<l.length/\bif (l.getD y.1.toNat aC).State==2 then Lb true (pw l) else J5 l q0/\Jn l q0<Jn l y else Lb false (pw l))
 dsimp only
 refine⟨⟨by omega,by omega,by intro j hj;omega⟩,?_⟩
 rintro⟨i,⟨⟩⟩ ⟨h1,h2,hR⟩
 simp only
 refine aR ?_ ?_<;>intro hc
 ·rw[wi]
  have hY:jw (l.getD i.toNat aC)=true->pw l=true:=fun h=>iF (j:=i.toNat) (by omega) h
  refine⟨by omega,by omega,bg (fun h=>nR (hY (by simp only[jw];grind))) (fun h=>⟨by omega,by omega,bg (fun g=>nR (hY (by simp only[jw];grind))) (fun g=>⟨⟨by omega,by omega,jk (p:=fun j=>jw (l.getD j aC)) h1 hR (by simp only[jw];grind)⟩,by simp only[Jn];omega⟩)⟩)⟩
 ·exact bD (gz fun j hj=>hR j (by omega))
def aoJ:=bW (α:=aq) (q1 (qA .cp)) [.ro] (fun _=>[]) (fun x=>⟨[dO (mY x)],[],[]⟩)
def apx:HH:=hF aoJ func33 [] a0 fun(x:aq) hp hb=>by
 clear hp hb
 apply vE (bif x.State==3 then Lb true (mY x) else Lb (x.State==5) (mY x))
 simp only[mY]
 refine bg (fun h=>cg ?_) (fun h=>cg ?_)
 ·rw[decide_eq_true h,Bool.true_or]
 ·rw[decide_eq_false h,GJ]
  rw[Gd];simp
def aoV:=bW (α:=br×aq) (qC (qA .h_) (q1 (qA .cp))) [.ro,.ro] (fun(d,x)=>[cE d<=4294967295,L4 (bV x.S.ab)]) (fun(d,x)=>⟨[dO (instOk d x)],[],[]⟩)
def aju:HH:=hF aoV func10 [ahM,apB,apA,ahH,ahG,sK,apz,W0,apy,apx] a0 fun x hp hb=>by
 obtain⟨d,x⟩:=x
 have ey:=lc (x:=d) (hb _ m0)
 have j_:=ey.1
 have ja:=ey.2
 have hH:=oR (x:=x) (hb _ m1)
 have ee:=hH.1
 have fL:=hH.2.1
 have fK:=hH.2.2.1
 have e6:=hH.2.2.2.1
 have fJ:=hH.2.2.2.2
 have bo:cE d<=4294967295:=hp _ m0
 have eJ:bV x.S.ab<=4294967296:=hp _ m1
 clear hp hb
 apply vE (let q0:=Lb false (instOk d x);let q1:=bif !mY x then Lb true (instOk d x) else Lb (decide ((x.ax.length:Int)>0)) (instOk d x);cE d<=4294967295/\bif !f_ d then q0 else bif !bq x.S then q0 else bif !aN x.aj then q0 else bif !dt x.ap then q0 else bif !dz x.ax then q0 else bif !decide (1<=x.State/\x.State<=6) then q0 else bif !decide (0<=x.cd/\x.cd<=1000000000) then q0 else cE d<=4294967295/\L4 (bV x.S.ab)/\bif !iP d x then q0 else bif decide (x.State=2\/x.State=4\/x.State=6) then bif pw x.aj then q0 else bif decide ((x.ap.length:Int)>0) then q0 else q1 else q1)
 dsimp only
 refine⟨bo,?_⟩
 have ht:decide ((x.ap.length:Int)>0)=decide (0<x.ap.length):=decide_eq_decide.2 (by omega)
 have hu:decide ((x.ax.length:Int)>0)=decide (0<x.ax.length):=decide_eq_decide.2 (by omega)
 simp only[instOk,ng,ht,hu]
 repeat' (first|refine And.intro eJ ?_|refine And.intro bo (And.intro eJ ?_)|refine ae (fun h=> ?_) (fun h=> ?_))
 all_goals (refine cg ?_;grind)
def aoT:=bW (α:=br×aq) (qC (qA .h_) (q1 (qA .cp))) [.ro,.ro] (fun(d,x)=>[cE d<=4294967295,L4 (bV x.S.ab)]) (fun(d,x)=>⟨[dO (instOk d x)],[],[]⟩)
def ajj:HH:=hF aoT func12 [apw,apv,ab',apu,apt,A',WZ,aps,aiI,apr,ab9] a0 fun x hp hb=>by
 obtain⟨d,x⟩:=x
 have an3:gN (U:=UU) (.agg [.lit (.string d.Name),.sl .bB d.aw]):=hb _ m0
 have ey:=lc (x:=d) (hb _ m0)
 have j_:=ey.1
 have ja:=ey.2
 have SO:gN (U:=UU) (.agg [.sl .aJ x.S.ab,.lit (.int .i64 x.S.Next),.sl .aB x.aA,.sl .az x.aj,.sl .aE x.ap,.sl .aQ x.ax,.lit (.int .i64 x.State),.lit (.int .i64 x.cd)]):=hb _ m1
 have hH:=oR (x:=x) (hb _ m1)
 have ee:=hH.1
 have fL:=hH.2.1
 have fK:=hH.2.2.1
 have e6:=hH.2.2.2.1
 have fJ:=hH.2.2.2.2
 have bo:cE d<=4294967295:=hp _ m0
 have eJ:bV x.S.ab<=4294967296:=hp _ m1
 clear hp hb
 apply vE (let q0:=Lb false (instOk d x);let q1:=Lb (decide ((x.ax.length:Int)>0)) (instOk d x);bif !f_ d then q0 else bif !bq x.S then q0 else bif !aN x.aj then q0 else bif !dt x.ap then q0 else bif !dz x.ax then q0 else bif !decide (1<=x.State/\x.State<=6) then q0 else bif !decide (0<=x.cd/\x.cd<=1000000000) then q0 else cE d<=4294967295/\L4 (bV x.S.ab)/\bif !iP d x then q0 else bif x.State==3 then q1 else bif x.State==5 then q1 else bif !decide (x.State=2\/x.State=4\/x.State=6) then Lb true (instOk d x) else bif (x.ap.length:Int)==0 then(∀(j:Nat),j<x.aj.length->fo Jy [] [cn (x.aj.getD j aC)]=some (Value.bool (bJ (fo Jy [] [cn (x.aj.getD j aC)]))))/\Lb (!anyI (x.aj.length) fun(j:Nat)=>bJ (fo Jy [] [cn (x.aj.getD j aC)])) (instOk d x) else q0)
 dsimp only
 have hc:∀t:ao,fo Jy [] [cn t]=some (.bool (jw t)):=fun t=>sA (x:=t) rfl rfl rfl rfl (by simp[Jy])
 have hl:(anyI x.aj.length fun j=>bJ (fo Jy [] [cn (x.aj.getD j aC)]))=pw x.aj:=n_ fun j hj=>by rw[hc];rfl
 have ix:∀j:Nat,j<x.aj.length->fo Jy [] [cn (x.aj.getD j aC)]=some (.bool (bJ (fo Jy [] [cn (x.aj.getD j aC)]))):=fun j hj=>by rw[hc];rfl
 have ht:((x.ap.length:Int)==0)= !decide (0<x.ap.length):=by rw[Gd];simp
 have hu:decide ((x.ax.length:Int)>0)=decide (0<x.ax.length):=decide_eq_decide.2 (by omega)
 have h3:(x.State==3)=decide (x.State=3):=by rw[Gd];simp
 have h5:(x.State==5)=decide (x.State=5):=by rw[Gd];simp
 simp only[instOk,ng,mY,ht,hu,h3,h5,hl]
 repeat' (first|refine And.intro ix ?_|refine And.intro bo (And.intro eJ ?_)|refine And.intro eJ ?_|refine ae (fun h=> ?_) (fun h=> ?_))
 all_goals (refine cg ?_;clear ix hc hl ht hu h3 h5 an3 SO;grind)
theorem ZO{v:a_}(h:bR v=true):v.S.size<=21:=by
 simp only[bR] at h
 by_cases h1:v.K=1
 ·simp[h1] at h;rw[h.2];simp[ai]
 ·by_cases h2:v.K=2
  ·simp[h2] at h;omega
  ·simp[h1,h2] at h
theorem Xc:∀{l:List a_},l.all bR=true->eG l<=22*l.length
 |[],_=>by simp[eG]
 |x::l,h=>by
  simp only[QV,cN] at h
  have h1:=Xc h.2
  have h2:=ZO h.1
  simp only[eG,fP,wH,MI,od] at h1⊢
  omega
theorem qi{f:aL}(h:bE f=true):f.ag.length<=5/\dh f<=145:=by
 simp only[bE,bu,cN,decide_eq_true_eq] at h
 obtain⟨⟨⟨⟨⟨_,h1⟩,_⟩,_⟩,h2⟩,h3⟩:=h
 have:=Xc h3
 simp only[dh];omega
theorem xc{α:Type}(f:α->Nat)(B:Nat):∀(l:List α),(∀x∈l,f x<=B)->(l.map f).sum<=l.length*B
 |[],_=>by simp
 |x::l,h=>by
  have h1:=xc f B l (fun y hy=>h y (fF _ hy))
  have h2:=h x iH
  simp only[wH,MI,fP,xT];omega
theorem zq{α:Type}{l:List α}{z:α}{p:Nat->Bool}{q:α->Prop}(h:allI l.length p=true)(hq:∀i,p i=true->q (l.getD i z)):∀x∈l,q x:=fun x hx=>by
 obtain⟨i,hi,rfl⟩:=sT hx
 have:=hq i (gb.1 h i hi)
 rwa[eV,fE hi] at this
theorem Xd{u:BA}(h:fA u=true):u.size<=12:=by
 simp only[fA,bu,Gc,cN,decide_eq_true_eq] at h
 rcases h with rfl|h
 ·simp[ai]
 ·exact h.1.1.2
theorem mI{a b:Int}{P Q:Prop}(h1:¬a=b->P)(h2:a=b->Q):bif a !=b then P else Q:=ae (fun h=>h1 (by simpa using h)) (fun h=>h2 (by simpa using h))
def yw(f:aL)(jq:BA)(now:Int):ao:=⟨f,jq,1,0,now,dK⟩
end
end AM
