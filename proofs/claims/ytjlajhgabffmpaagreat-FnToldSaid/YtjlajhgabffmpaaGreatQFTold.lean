/- Functions of the program with their contracts: put together by gen/link.py for FnTold. -/
import Derived.Test.YtjlajhgabffmpaaGreatQAmLib
import Derived.Lib.ItoaLen
import Derived.Lib.Join
namespace AM
open Go Go.Proofs.Tryz Go.IntKind
set_option linter.unusedVariables false
set_option linter.unusedSimpArgs false
set_option maxRecDepth 100000
noncomputable section
abbrev VB (b : Bool) : DV UU := .one (.lit (.bool b))
abbrev VI (n : Int) : DV UU := .one (.lit (.int .i64 n))
abbrev VS (s : ByteArray) : DV UU := .one (.lit (.string s))
abbrev CI (n : Int) : CC := .lit (.int .i64 n)
abbrev CS (s : ByteArray) : CC := .lit (.string s)
abbrev CO (b : Bool) : CC := .lit (.bool b)
abbrev CL (τ : Cd) (xs : List τ.T) : CC := .sl τ xs
abbrev VL (τ : Cd) (xs : List τ.T) : DV UU := .one (.sl τ xs)
structure Q1(α:Type) where
 d:α→DV UU
 o:DV UU→Option α
 l:∀ v x,o v=some x→d x=v
structure QQ(α:Type) where
 d:α→List (DV UU)
 o:List (DV UU)→Option α
 l:∀ l x,o l=some x→d x=l
def q1{α:Type}(c:Q1 α):QQ α:=⟨fun x=>[c.d x],o1 c.o,l1 c.l⟩
def qC{α β:Type}(c:Q1 α)(r:QQ β):QQ (α×β):=⟨fun x=>c.d x.1::r.d x.2,oC c.o r.o,lC c.l r.l⟩
def qI:Q1 Int:=⟨dI,oI,lI⟩
def qY:Q1 Int:=⟨dY,oY,lY⟩
def qO:Q1 Bool:=⟨dO,oO,lO⟩
def qS:Q1 ByteArray:=⟨dS,oS,lS⟩
def qF:Q1 (List (DA UU)→Option Value):=⟨dF,oF,lF⟩
def qL(τ:Cd):Q1 (List τ.T):=⟨dL τ,oL τ,lL τ⟩
def qA(τ:Cd):Q1 τ.T:=⟨dA τ,oA τ,lA τ⟩
def qX(τ:Cd):Q1 τ.T:=⟨dX τ,oX τ,lX τ⟩
def cj{α:Type}(c:QQ α)(md:List Mode)(pre:α→List Prop)(pj:α→Res UU):kz UU:={α,md,of:=c.o,ds:=c.d,pre,pj,law:=c.l}
def aad{α:Type}(r t:Nat)(c:QQ α)(md:List Mode)(pre:α→List Prop)(pj:α→Res UU):kz UU:={α,md,of:=c.o,ds:=c.d,pre,pj,Kl:=r,cut:=t,law:=c.l}
def hF{f:FuncId}{fn:Func}(k:kz UU)(hf:EE.P.funcs[f]? =some fn)(l:List HH)(om:k.α→Nat→Option (ud UU))(hw:∀x,(∀p∈k.pre x,p)→(∀d∈k.ds x,gh d)→ad7 EE (us l) fn k om x)(hc:Ef EE.P f fn k.md=true:=by kernel_rfl)(h0:k.Kl=0:=by rfl):HH:=⟨(f,k),holds_of qZ hf k hc (us l) (xz _) om hw h0⟩
def a0{α:Type}(_:α)(_:Nat):Option (ud UU):=none
abbrev LM(a b c d:List (DV UU)):Prop:=(0:Nat)=(0:Nat)∧dZ a=dZ b∧dZ c=dZ d
theorem wi{n:Int}(h:-9223372036854775808≤n:=by omega)(k:n≤9223372036854775807:=by omega):IntKind.wrap .i64 n=n:=wrap_i64 h k
abbrev L4(n:Nat):Prop:=n≤4294967296
abbrev L9(n:Nat):Prop:=n≤9223372036854775807
theorem vE{p:Prop}(q:Prop)(h:p=q:=by kernel_rfl)(x:q):p:=by rw[h];exact x
abbrev AX(k:kz UU):=k.α→Nat→Option (ud UU)
abbrev iO(s:Nat)(τ:Cd):It UU:=.slot s (s,1024) (.own τ true)
abbrev iI(s:Nat):It UU:=.slot s (s,1024) (.lit (.int .i64))
abbrev T0:=List bL×Int×List au×List ak×List aK×List bj×Int×Int×Unit
abbrev T1:=ByteArray×Int×List cr×List dB×List eK×Unit
abbrev T2:=ByteArray×List aY×Unit
abbrev T3:=List bL×Int×Unit
abbrev T4:=List Int×Int×Int×Unit
abbrev T5:=Int×Int×ByteArray×Int×Int×ByteArray×Int×ByteArray×Int×Int×ByteArray×Unit
abbrev T6:=Int×ByteArray×List cn×Int×ByteArray×Unit
abbrev T7:=ByteArray×List a_×Unit
abbrev T8:=Int×List Int×List bV×Unit
abbrev T9:=ByteArray×List aY×PUnit
abbrev O4:=ByteArray×List cN×Bool×Unit
abbrev YT:=ByteArray×Int×List cr×List dB×List eK×PUnit
abbrev O3:=List Int×Int×Int×PUnit
abbrev NJ:=List bL×Int×PUnit
abbrev T14:=List bL×Int×List au×List ak×List aK×List bj×Int×Int×PUnit
abbrev YS:=List bp×List sg×Int×Int×Unit
abbrev YR:=Int×List Int×List bV×PUnit
abbrev WA:=ByteArray×List a_×PUnit
abbrev T18:=ByteArray×List cN×Bool×PUnit
abbrev T19:=Int×ByteArray×List a_×Unit
abbrev T20:=ByteArray×List a_×ByteArray×Int×Int×Int×Int×Int×ByteArray×Unit
abbrev T21:=Int×ByteArray×List a_×PUnit
abbrev T22:=Int×Int×ByteArray×Unit
theorem yT {p:Prop} [Decidable p] (h:decide p=true):p:=of_decide_eq_true h
theorem yF {p:Prop} [Decidable p] (h:decide p=false):¬p:=of_decide_eq_false h
abbrev BA:=ByteArray
instance:DecidableEq a_:=fun _ _=>Classical.propDecidable _
instance:DecidableEq aJ:=fun _ _=>Classical.propDecidable _
instance:DecidableEq bL:=fun _ _=>Classical.propDecidable _
instance:DecidableEq aF:=fun _ _=>Classical.propDecidable _
instance:DecidableEq cN:=fun _ _=>Classical.propDecidable _
instance:DecidableEq cr:=fun _ _=>Classical.propDecidable _
instance:DecidableEq bV:=fun _ _=>Classical.propDecidable _
instance:DecidableEq dB:=fun _ _=>Classical.propDecidable _
instance:DecidableEq cn:=fun _ _=>Classical.propDecidable _
instance:DecidableEq eK:=fun _ _=>Classical.propDecidable _
instance:DecidableEq aY:=fun _ _=>Classical.propDecidable _
instance:DecidableEq bp:=fun _ _=>Classical.propDecidable _
instance:DecidableEq au:=fun _ _=>Classical.propDecidable _
instance:DecidableEq cX:=fun _ _=>Classical.propDecidable _
instance:DecidableEq aK:=fun _ _=>Classical.propDecidable _
instance:DecidableEq ak:=fun _ _=>Classical.propDecidable _
instance:DecidableEq p9:=fun _ _=>Classical.propDecidable _
instance:DecidableEq bj:=fun _ _=>Classical.propDecidable _
instance:DecidableEq aq:=fun _ _=>Classical.propDecidable _
instance:DecidableEq sg:=fun _ _=>Classical.propDecidable _
instance:DecidableEq k_:=fun _ _=>Classical.propDecidable _
theorem BL{α:Type}(p:List α)(l:List α)(z:α){i:Int}(hp:p.length=i.toNat)(h0:0<=i)(h:i<l.length):List.getD (p++l.drop i.toNat) i.toNat z=List.getD l i.toNat z:=by
 rw[eX,eX,zu (by omega),hp,YV,Hu,JV]
theorem er{α:Type}(f:α->Nat)(l:List α)(z:α){i:Int}(h0:0<=i)(h:i<l.length):f (List.getD l i.toNat z)<=(l.map f).sum:=by
 have h1:l=l.take i.toNat++List.getD l i.toNat z::l.drop (i+1).toNat:=by rw[<-fc l z h0 h,UB]
 have h2:=congrArg (fun q=>(q.map f).sum) h1
 simp only[Mp,wb,zet,Mr] at h2
 omega
theorem getD_modify{α:Type}(l:List α)(z:α)(f:α->α)(i:Nat)(h:i<l.length):List.getD (l.modify i f) i z=f (List.getD l i z):=by
 rw[eX,eX,YX,fH h];simp
theorem nT{α:Type}(l:List α)(f g:α->α)(i:Nat):(l.modify i f).modify i g=l.modify i (fun x=>g (f x)):=List.modify_modify_eq f g i l
theorem M2{α:Type}(l:List α)(z:α)(f:α->α)(i:Nat):l.modify i f=l.set i (f (List.getD l i z)):=by
 refine Um fun j=> ?_
 rw[YX,WJ]
 by_cases hj:i=j
 ·subst hj
  rw[if_pos rfl]
  by_cases hi:i<l.length
  ·rw[if_pos hi,fH hi,eX,fH hi];simp
  ·rw[if_neg hi,ox (by omega)];rfl
 ·rw[if_neg hj];simp[hj]
theorem en{α:Type}(p:α->Bool)(l:List α)(z:α){i:Int}(h0:0<=i)(h:i<l.length):(l.drop i.toNat).all p=(p (List.getD l i.toNat z)&&(l.drop (i+1).toNat).all p):=by
 rw[fc l z h0 h,QV]
theorem yP{α:Type}(p:α->Bool)(l:List α)(z:α){i:Int}(h0:0<=i)(h:i<l.length):(l.drop i.toNat).any p=(p (List.getD l i.toNat z)||(l.drop (i+1).toNat).any p):=by
 rw[fc l z h0 h,Ux]
def bs(s:ByteArray):List UInt8:=s.data.toList
theorem te(s:ByteArray):(bs s).length=s.size:=FT
theorem Hk(s:ByteArray):Array.toList (ByteArray.data s)=bs s:=rfl
def kt(p:Int->Bool)(b:UInt8):Bool:=p b.toNat
theorem Zd(b:UInt8):IntKind.wrap .i64 (b.toNat:Int)=b.toNat:=wrap_i64 (by omega) (by have:=b.toNat_lt;omega)
theorem nv{y:Bool}(h:y=true):Lf [.one (.lit (.bool true))] [.one (.lit (.bool y))]:=ck h.symm
theorem bD{y:Bool}(h:y=false):Lf [.one (.lit (.bool false))] [.one (.lit (.bool y))]:=ck h.symm
theorem dH{α:Type}(l:List α)(z:α){i:Int}(h0:0<=i)(h:i<l.length):l.take i.toNat++[List.getD l i.toNat z]=l.take (i+1).toNat:=by
 have hn:i.toNat<l.length:=by omega
 have e:(i+1).toNat=i.toNat+1:=by omega
 rw[e,zcz hn,eX,fH hn]
 rfl
theorem cM{α:Type}(l:List α){i:Int}(h:l.length<=i):l.take i.toNat=l:=Ul (by omega)
theorem ye{α:Type}(l:List α)(z:α){i:Int}(h0:0<=i)(h:i<l.length):List.getD l i.toNat z∈l:=by
 have hn:i.toNat<l.length:=by omega
 rw[eX,fH hn]
 exact FJ hn
def rC(l:List Int):Nat:=l.length
def nR(a:a_):Nat:=a.S.size
def eO(l:List a_):Nat:=l.length+(l.map nR).sum
def dj(a:aJ):Nat:=a.Kind.size+eO a.ah
def j0(a:bL):Nat:=dj a.F
def bY(l:List bL):Nat:=l.length+(l.map j0).sum
def j9(a:aF):Nat:=bY a.ab
def fz(a:cN):Nat:=a.S.size+nR a.V
def uu(l:List cN):Nat:=l.length+(l.map fz).sum
def kq(a:cr):Nat:=a.Kind.size+uu a.av
def kB(l:List cr):Nat:=l.length+(l.map kq).sum
def Q9(a:bV):Nat:=a.Name.size+nR a.V
def rD(l:List bV):Nat:=l.length+(l.map Q9).sum
def n9(a:dB):Nat:=fz a.L+fz a.R
def vm(l:List dB):Nat:=l.length+(l.map n9).sum
def iP(a:cn):Nat:=a.Op.size+fz a.L+fz a.R
def kK(l:List cn):Nat:=l.length+(l.map iP).sum
def hU(a:eK):Nat:=a.Name.size+kK a.av+a.aR.size
def rE(l:List eK):Nat:=l.length+(l.map hU).sum
def eg(a:aY):Nat:=a.Name.size+kB a.aD+vm a.aO+rE a.bH
def j_(l:List aY):Nat:=l.length+(l.map eg).sum
def cG(a:bp):Nat:=a.Name.size+j_ a.aw
def js(a:au):Nat:=rC a.eH+rD a.bu
def fm(l:List au):Nat:=l.length+(l.map js).sum
def ie(a:aK):Nat:=dj a.F
def cY(l:List aK):Nat:=l.length+(l.map ie).sum
def ly(a:ak):Nat:=dj a.F+a.aR.size+nR a.V
def cC(l:List ak):Nat:=l.length+(l.map ly).sum
def dJ(a:bj):Nat:=a.Key.size+dj a.F
def cx(l:List bj):Nat:=l.length+(l.map dJ).sum
def dy(a:aq):Nat:=j9 a.S+fm a.aC+cC a.ap+cY a.ax+cx a.ay
theorem jp{x:a_}(h:gh (dA .bc x)):x.S.size<=9223372036854775807:=Bd.str (U:=UU) (h _ (cI _ (cI _ (gB))))
theorem eh{x:aJ}(h:gh (dA .dk x)):x.Kind.size<=9223372036854775807/\x.ah.length<=9223372036854775807:=⟨Bd.str (U:=UU) (h _ (gB)),Bd.len (U:=UU) (h _ (cI _ (gB)))⟩
theorem Hm{x:aJ}(h:gh (dP .dk x)):x.Kind.size<=9223372036854775807/\x.ah.length<=9223372036854775807:=⟨Bd.str (U:=UU) (h _ (gB)),Bd.len (U:=UU) (h _ (cI _ (gB)))⟩
theorem ii{x:aF}(h:gh (dA .c_ x)):x.ab.length<=9223372036854775807:=Bd.len (U:=UU) (h _ (gB))
theorem nJ{x:aF}(h:gh (dX .c_ x)):x.ab.length<=9223372036854775807:=Bd.len (U:=UU) (h _ (gB))
theorem tf{x:cN}(h:gh (dA .gH x)):x.S.size<=9223372036854775807/\x.V.S.size<=9223372036854775807:=⟨Bd.str (U:=UU) (h _ (cI _ (gB))),Bd.str (U:=UU) (h _ (cI _ (cI _ (cI _ (cI _ (gB))))))⟩
theorem B5{x:cr}(h:gh (dA .dE x)):x.Kind.size<=9223372036854775807/\x.av.length<=9223372036854775807:=⟨Bd.str (U:=UU) (h _ (gB)),Bd.len (U:=UU) (h _ (cI _ (gB)))⟩
theorem Fj{x:dB}(h:gh (dA .bT x)):x.L.S.size<=9223372036854775807/\x.L.V.S.size<=9223372036854775807/\x.R.S.size<=9223372036854775807/\x.R.V.S.size<=9223372036854775807:=⟨Bd.str (U:=UU) (h _ (cI _ (cI _ (gB)))),Bd.str (U:=UU) (h _ (cI _ (cI _ (cI _ (cI _ (cI _ (gB))))))),Bd.str (U:=UU) (h _ (cI _ (cI _ (cI _ (cI _ (cI _ (cI _ (cI _ (gB))))))))),Bd.str (U:=UU) (h _ (cI _ (cI _ (cI _ (cI _ (cI _ (cI _ (cI _ (cI _ (cI _ (cI _ (gB))))))))))))⟩
theorem Fh{x:cn}(h:gh (dA .bG x)):x.Op.size<=9223372036854775807/\x.L.S.size<=9223372036854775807/\x.L.V.S.size<=9223372036854775807/\x.R.S.size<=9223372036854775807/\x.R.V.S.size<=9223372036854775807:=⟨Bd.str (U:=UU) (h _ (gB)),Bd.str (U:=UU) (h _ (cI _ (cI _ (gB)))),Bd.str (U:=UU) (h _ (cI _ (cI _ (cI _ (cI _ (cI _ (gB))))))),Bd.str (U:=UU) (h _ (cI _ (cI _ (cI _ (cI _ (cI _ (cI _ (cI _ (gB))))))))),Bd.str (U:=UU) (h _ (cI _ (cI _ (cI _ (cI _ (cI _ (cI _ (cI _ (cI _ (cI _ (cI _ (gB))))))))))))⟩
theorem B6{x:eK}(h:gh (dA .dG x)):x.Name.size<=9223372036854775807/\x.av.length<=9223372036854775807/\x.aR.size<=9223372036854775807:=⟨Bd.str (U:=UU) (h _ (cI _ (gB))),Bd.len (U:=UU) (h _ (cI _ (cI _ (gB)))),Bd.str (U:=UU) (h _ (cI _ (cI _ (cI _ (cI _ (gB))))))⟩
theorem jE{x:aY}(h:gh (dA .bz x)):x.Name.size<=9223372036854775807/\x.aD.length<=9223372036854775807/\x.aO.length<=9223372036854775807/\x.bH.length<=9223372036854775807:=⟨Bd.str (U:=UU) (h _ (gB)),Bd.len (U:=UU) (h _ (cI _ (cI _ (gB)))),Bd.len (U:=UU) (h _ (cI _ (cI _ (cI _ (gB))))),Bd.len (U:=UU) (h _ (cI _ (cI _ (cI _ (cI _ (gB))))))⟩
theorem gI{x:bp}(h:gh (dA .h_ x)):x.Name.size<=9223372036854775807/\x.aw.length<=9223372036854775807:=⟨Bd.str (U:=UU) (h _ (gB)),Bd.len (U:=UU) (h _ (cI _ (gB)))⟩
theorem gQ{x:au}(h:gh (dA .aB x)):x.eH.length<=9223372036854775807/\x.bu.length<=9223372036854775807:=⟨Bd.len (U:=UU) (h _ (cI _ (gB))),Bd.len (U:=UU) (h _ (cI _ (cI _ (gB))))⟩
theorem Fi{x:cX}(h:gh (dA .eD x)):x.F.Kind.size<=9223372036854775807/\x.F.ah.length<=9223372036854775807/\x.aR.size<=9223372036854775807:=⟨Bd.str (U:=UU) (h _ (cI _ (gB))),Bd.len (U:=UU) (h _ (cI _ (cI _ (gB)))),Bd.str (U:=UU) (h _ (cI _ (cI _ (cI _ (cI _ (cI _ (gB)))))))⟩
theorem Ar{x:aK}(h:gh (dA .aI x)):x.F.Kind.size<=9223372036854775807/\x.F.ah.length<=9223372036854775807:=⟨Bd.str (U:=UU) (h _ (cI _ (gB))),Bd.len (U:=UU) (h _ (cI _ (cI _ (gB))))⟩
theorem pY{x:ak}(h:gh (dA .az x)):x.F.Kind.size<=9223372036854775807/\x.F.ah.length<=9223372036854775807/\x.aR.size<=9223372036854775807/\x.V.S.size<=9223372036854775807:=⟨Bd.str (U:=UU) (h _ (gB)),Bd.len (U:=UU) (h _ (cI _ (gB))),Bd.str (U:=UU) (h _ (cI _ (cI _ (gB)))),Bd.str (U:=UU) (h _ (cI _ (cI _ (cI _ (cI _ (cI _ (cI _ (cI _ (cI _ (gB))))))))))⟩
theorem hH{x:aq}(h:gh (dA .ct x)):x.S.ab.length<=9223372036854775807/\x.aC.length<=9223372036854775807/\x.ap.length<=9223372036854775807/\x.ax.length<=9223372036854775807/\x.ay.length<=9223372036854775807:=⟨Bd.len (U:=UU) (h _ (gB)),Bd.len (U:=UU) (h _ (cI _ (cI _ (gB)))),Bd.len (U:=UU) (h _ (cI _ (cI _ (cI _ (gB))))),Bd.len (U:=UU) (h _ (cI _ (cI _ (cI _ (cI _ (gB)))))),Bd.len (U:=UU) (h _ (cI _ (cI _ (cI _ (cI _ (cI _ (gB)))))))⟩
theorem fe{x:aq}(h:gh (dX .ct x)):x.S.ab.length<=9223372036854775807/\x.aC.length<=9223372036854775807/\x.ap.length<=9223372036854775807/\x.ax.length<=9223372036854775807/\x.ay.length<=9223372036854775807:=⟨Bd.len (U:=UU) (h _ (gB)),Bd.len (U:=UU) (h _ (cI _ (cI _ (gB)))),Bd.len (U:=UU) (h _ (cI _ (cI _ (cI _ (gB))))),Bd.len (U:=UU) (h _ (cI _ (cI _ (cI _ (cI _ (gB)))))),Bd.len (U:=UU) (h _ (cI _ (cI _ (cI _ (cI _ (cI _ (gB)))))))⟩
theorem LQ{x:k_}(h:gh (dA .oi x)):x.ov.length<=9223372036854775807/\x.jN.length<=9223372036854775807:=⟨Bd.len (U:=UU) (h _ (gB)),Bd.len (U:=UU) (h _ (cI _ (gB)))⟩
def lg(b:Int):Bool:=decide (97<=b/\b<=122)
def kV(b:Int):Bool:=lg b||decide (48<=b/\b<=57)||decide (b=95)
def qm(s:BA):Bool:=(bs s).all (kt kV)
def bq(s:BA):Bool:=decide (1<=s.size/\s.size<=12)&&lg ((bs s).getD 0 0).toNat&&qm s
def bO(v:a_):Bool:=bif decide (v.K=1) then decide (-1000000000<=v.N/\v.N<=1000000000)&&decide (v.S=aj) else bif decide (v.K=2) then decide (v.N=0)&&decide (v.S.size<=20)&&qm v.S else false
def bw(f:aJ):Bool:=bq f.Kind&&decide (f.ah.length<=5)&&f.ah.all bO
def anw:=cj (α:=Int×Int×Int) (qC qI (qC qI (q1 qI))) [.ro,.ro,.ro] (fun _=>[]) (fun(n,least,aG)=>⟨[dO (decide (least<=n/\n<=aG))],[],[]⟩)
def FH:HH:=hF anw func28 [] a0 fun x hp hb=>by
 obtain⟨n,least,aG⟩:=x
 have PW:=tg (n:=n) (hb _ m0)
 have St:=tg (n:=least) (hb _ m1)
 have vy:=tg (n:=aG) (hb _ m2)
 clear hp hb
 apply vE (bif decide (n≥least) then Lb (decide (n<=aG)) (decide (least<=n/\n<=aG)) else Lb false (decide (least<=n/\n<=aG)))
 refine ae (fun h=>ck ?_) (fun h=>ck ?_)<;>grind
def ang:=cj (α:=Int×Int×Int) (qC qI (qC qI (q1 qI))) [.ro,.ro,.ro] (fun _=>[]) (fun(x,least,aG)=>⟨[dO (decide (least<=x/\x<=aG))],[],[]⟩)
def tF:HH:=hF ang func66 [] a0 fun x hp hb=>by
 obtain⟨x,least,aG⟩:=x
 have aps:=tg (n:=x) (hb _ m0)
 have St:=tg (n:=least) (hb _ m1)
 have vy:=tg (n:=aG) (hb _ m2)
 clear hp hb
 apply vE (bif decide (x≥least) then Lb (decide (x<=aG)) (decide (least<=x/\x<=aG)) else Lb false (decide (least<=x/\x<=aG)))
 refine ae (fun h=>ck ?_) (fun h=>ck ?_)<;>grind
def agr:=cj (α:=Int) (q1 qY) [.ro] (fun _=>[]) (fun b=>⟨[dO (lg b)],[],[]⟩)
def YN:HH:=hF agr func102 [] a0 fun(b:Int) hp hb=>by
 skip
 clear hp hb
 apply vE (bif decide (b≥97) then Lb (decide (b<=122)) (lg b) else Lb false (lg b))
 refine ae (fun h=>ck ?_) (fun h=>ck ?_)<;>grind [lg]
def afQ:=cj (α:=Int) (q1 qY) [.ro] (fun _=>[]) (fun b=>⟨[dO (decide (48<=b/\b<=57))],[],[]⟩)
def ahm:HH:=hF afQ func189 [] a0 fun(b:Int) hp hb=>by
 skip
 clear hp hb
 apply vE (let q0:=decide (48<=b/\b<=57);bif decide (b≥48) then Lb (decide (b<=57)) q0 else Lb false q0)
 dsimp only
 refine ae (fun h=>ck ?_) (fun h=>ck ?_)<;>grind
def af6:=cj (α:=Int) (q1 qY) [.ro] (fun _=>[]) (fun b=>⟨[dO (kV b)],[],[]⟩)
def YD:HH:=hF af6 func152 [YN,ahm] a0 fun(b:Int) hp hb=>by
 skip
 clear hp hb
 apply vE (bif lg b then Lb true (kV b) else bif decide (48<=b/\b<=57) then Lb true (kV b) else Lb (b==95) (kV b))
 refine ae (fun h=>ck ?_) (fun h=> ?_)
 ·grind [kV]
 refine ae (fun h=>ck ?_) (fun h=>ck ?_)<;>grind [kV]
def agi:=cj (α:=Int) (q1 qY) [.ro] (fun c=>[0<=c/\c<=255]) (fun c=>⟨[dO (kV c)],[],[]⟩)
def TY:HH:=hF agi func115 [tF] a0 fun(c:Int) hp hb=>by
 have bo:0<=c/\c<=255:=hp _ m0
 clear hp hb
 apply vE (bif decide (97<=wrap i64 c/\wrap i64 c<=122) then Lb true (kV c) else bif decide (48<=wrap i64 c/\wrap i64 c<=57) then Lb true (kV c) else Lb (c==95) (kV c))
 rw[wi]
 refine ae (fun h=>ck ?_) (fun h=> ?_)
 ·grind [kV,lg]
 refine ae (fun h=>ck ?_) (fun h=>ck ?_)<;>grind [kV,lg]
def Ym:=cj (α:=BA×Int) (qC qS (q1 qI)) [.ro,.ro] (fun _=>[]) (fun(s,aG)=>⟨[dO (decide (s.size<=aG)&&qm s)],[],[]⟩)
def DB(s:BA)(aG:Int):Int×Unit->Prop:=fun(i,_)=>0<=i/\i<=s.size/\s.size<=aG/\((bs s).drop i.toNat).all (kt kV)=qm s
def CP(s:BA)(aG:Int):Int×Unit->Nat:=fun(i,_)=>s.size-i.toNat
def aji:AX Ym:=fun(s,aG)=>bW [(4,aU [iI 5] (fun _=>DB s aG) (CP s aG))]
def YM:HH:=hF Ym func103 [YD] aji fun x hp hb=>by
 obtain⟨s,aG⟩:=x
 have Bx:=Bg (s:=s) (hb _ m0)
 have vy:=tg (n:=aG) (hb _ m1)
 clear hp hb
 apply vE (let q0:=decide ((↑(ByteArray.size s):Int)<=aG)&&qm s;bif decide ((↑(ByteArray.size s):Int)>aG) then Lb false q0 else DB s aG (0,())/\∀(y:Int×PUnit),let q1:=(wrap i64 (y.1+1),());DB s aG y->bif decide (y.1<(↑(ByteArray.size s):Int)) then 0<=y.1/\y.1.toNat<ByteArray.size s/\bif !kV (↑(UInt8.toNat (s.data.toList.getD y.1.toNat (0:UInt8))):Int) then Lb false q0 else DB s aG q1/\CP s aG q1<CP s aG y else Lb true q0)
 dsimp only
 refine ae (fun h=>bD ?_) (fun h=> ?_)
 ·have h:=yT h;rw[decide_eq_false (by omega)];rfl
 have h0:=yF h
 refine⟨⟨by omega,by omega,by omega,rfl⟩,?_⟩
 rintro⟨i,⟨⟩⟩ ⟨h1,h2,h3,hR⟩
 have hl:=te s
 simp only[Hk]
 refine ae ?_ ?_<;>intro hc
 ·have hc:=yT hc
  rw[en _ _ 0 h1 (by omega)] at hR
  rw[wi]
  refine⟨by omega,by omega,ae (fun h=>bD ?_) (fun h=>⟨⟨by omega,by omega,by omega,?_⟩,?_⟩)⟩
  ·rw[<-hR];simp only[kt];simp at h;simp[h]
  ·rw[<-hR];simp only[kt];simp at h;simp[h]
  ·simp only[CP];omega
 ·have hc:=yF hc
  rw[cy _ (by omega)] at hR
  exact nv (by rw[<-hR,decide_eq_true h3];rfl)
def anj:=cj (α:=BA) (q1 qS) [.ro] (fun _=>[]) (fun s=>⟨[dO (bq s)],[],[]⟩)
def QH:HH:=hF anj func52 [YN,YM] a0 fun(s:BA) hp hb=>by
 have Bx:=Bg (s:=s) (hb _ m0)
 clear hp hb
 apply vE (bif decide ((↑(ByteArray.size s):Int)>0) then(0:Int)<=(0:Int)/\Int.toNat 0<ByteArray.size s/\bif lg (↑(UInt8.toNat (s.data.toList.getD (Int.toNat 0) (0:UInt8))):Int) then Lb (decide ((↑(ByteArray.size s):Int)<=12)&&qm s) (bq s) else Lb false (bq s) else Lb false (bq s))
 have hl:=te s
 simp only[Hk]
 refine ae (fun h=> ?_) (fun h=>bD ?_)
 ·have h:=yT h
  refine⟨by omega,by omega,ae (fun h'=>ck ?_) (fun h'=>bD ?_)⟩
  ·have h':lg (((bs s).getD 0 0).toNat:Int)=true:=h'
   simp only[bq,h']
   have e:decide (1<=s.size/\s.size<=12)=decide ((s.size:Int)<=12):=by rw[decide_eq_decide];omega
   rw[e];simp
  ·have h':lg (((bs s).getD 0 0).toNat:Int)=false:=h'
   simp only[bq,h'];grind
 ·have h:=yF h
  simp only[bq];rw[decide_eq_false (by omega)];rfl
def aeS:=cj (α:=BA) (q1 qS) [.ro] (fun _=>[]) (fun s=>⟨[dO (bq s)],[],[]⟩)
def Fz(s:BA):Int×Unit->Prop:=fun(i,_)=>0<=i/\i<=s.size/\((bs s).drop i.toNat).all (kt kV)=qm s/\(0<i->lg ((bs s).getD 0 0).toNat=true)
def xj(s:BA):Int×Unit->Nat:=fun(i,_)=>s.size-i.toNat
def aoK:AX aeS:=fun s=>bW [(2,aU [iI 3] (fun _=>Fz s) (xj s))]
def L8:HH:=hF aeS func71 [TY,tF] aoK fun(s:BA) hp hb=>by
 have Bx:=Bg (s:=s) (hb _ m0)
 clear hp hb
 apply vE (let q0:=(↑(ByteArray.size s):Int);Fz s (0,())/\∀(y:Int×PUnit),let x0:=(↑(UInt8.toNat (s.data.toList.getD y.1.toNat (0:UInt8))):Int);let q1:=(wrap i64 (y.1+1),());Fz s y->bif decide (y.1<q0) then 0<=y.1/\y.1.toNat<ByteArray.size s/\(0<=x0/\x0<=255)/\bif !kV x0 then Lb false (bq s) else bif y.1==0 then 0<=y.1/\y.1.toNat<ByteArray.size s/\bif !decide (97<=wrap i64 x0/\wrap i64 x0<=122) then Lb false (bq s) else Fz s q1/\xj s q1<xj s y else Fz s q1/\xj s q1<xj s y else Lb (decide (1<=q0/\q0<=12)) (bq s))
 dsimp only
 refine⟨⟨by omega,by omega,rfl,by omega⟩,?_⟩
 rintro⟨i,⟨⟩⟩ ⟨h1,h2,hR,hS⟩
 have hl:=te s
 simp only[Hk,Zd]
 refine ae ?_ ?_<;>intro hc
 ·have hc:=yT hc
  have hb:=((bs s).getD i.toNat 0).toNat_lt
  rw[en _ _ 0 h1 (by omega)] at hR
  rw[wi]
  have hN:qm s=false->bq s=false:=fun h=>by simp[bq,h]
  refine⟨by omega,by omega,⟨by omega,by omega⟩,ae (fun h=>bD (hN ?_)) (fun h=>ae (fun h'=>⟨by omega,by omega,ae (fun oK=>bD ?_) (fun oK=>⟨⟨by omega,by omega,?_,fun _=> ?_⟩,?_⟩)⟩) (fun h'=>⟨⟨by omega,by omega,?_,fun _=>hS ?_⟩,?_⟩))⟩
  ·rw[<-hR];simp only[kt];simp at h;simp[h]
  ·have h':i=0:=by simpa using h'
   subst h'
   have oK:lg (((bs s).getD 0 0).toNat:Int)=false:=by simp only[lg];grind
   simp only[bq,oK];grind
  ·rw[<-hR];simp only[kt];simp at h;simp[h]
  ·have h':i=0:=by simpa using h'
   subst h'
   simpa[lg] using oK
  ·simp only[xj];omega
  ·rw[<-hR];simp only[kt];simp at h;simp[h]
  ·have h':¬i=0:=by simpa using h'
   omega
  ·simp only[xj];omega
 ·have hc:=yF hc
  rw[cy _ (by omega)] at hR
  refine ck ?_
  simp only[bq,<-hR]
  by_cases hz:0<i
  ·rw[hS hz];simp only[QR];grind
  ·rw[decide_eq_false (by omega),decide_eq_false (by omega)];rfl
def XZ:=cj (α:=BA) (q1 qS) [.ro] (fun _=>[]) (fun s=>⟨[dO (decide (s.size<=20)&&qm s)],[],[]⟩)
def Dh(s:BA):Int×Unit->Prop:=fun(i,_)=>0<=i/\i<=s.size/\((bs s).drop i.toNat).all (kt kV)=qm s
def Cu(s:BA):Int×Unit->Nat:=fun(i,_)=>s.size-i.toNat
def aiU:AX XZ:=fun s=>bW [(2,aU [iI 3] (fun _=>Dh s) (Cu s))]
def ahG:HH:=hF XZ func161 [TY] aiU fun(s:BA) hp hb=>by
 have Bx:=Bg (s:=s) (hb _ m0)
 clear hp hb
 apply vE (let q0:=decide (ByteArray.size s<=20)&&qm s;Dh s (0,())/\∀(y:Int×PUnit),let x0:=(↑(UInt8.toNat (s.data.toList.getD y.1.toNat (0:UInt8))):Int);let q1:=(wrap i64 (y.1+1),());Dh s y->bif decide (y.1<(↑(ByteArray.size s):Int)) then 0<=y.1/\y.1.toNat<ByteArray.size s/\(0<=x0/\x0<=255)/\bif !kV x0 then Lb false q0 else Dh s q1/\Cu s q1<Cu s y else Lb (decide ((↑(ByteArray.size s):Int)<=20)) q0)
 dsimp only
 refine⟨⟨by omega,by omega,rfl⟩,?_⟩
 rintro⟨i,⟨⟩⟩ ⟨h1,h2,hR⟩
 have hl:=te s
 simp only[Hk]
 refine ae ?_ ?_<;>intro hc
 ·have hc:=yT hc
  have hb:=((bs s).getD i.toNat 0).toNat_lt
  rw[en _ _ 0 h1 (by omega)] at hR
  rw[wi]
  refine⟨by omega,by omega,⟨by omega,by omega⟩,ae (fun h=>bD ?_) (fun h=>⟨⟨by omega,by omega,?_⟩,?_⟩)⟩
  ·rw[<-hR];simp only[kt];simp at h;simp[h]
  ·rw[<-hR];simp only[kt];simp at h;simp[h]
  ·simp only[Cu];omega
 ·have hc:=yF hc
  rw[cy _ (by omega)] at hR
  refine ck ?_
  rw[<-hR];simp;omega
def ani:=cj (α:=a_) (q1 (qA .bc)) [.ro] (fun _=>[]) (fun v=>⟨[dO (bO v)],[],[]⟩)
def abq:HH:=hF ani func53 [FH,YM] a0 fun(v:a_) hp hb=>by
 have w5:=jp (x:=v) (hb _ m0)
 clear hp hb
 apply vE (bif v.K==1 then bif decide ((-1000000000)<=v.N/\v.N<=1000000000) then Lb (ByteArray.toList v.S==ByteArray.toList {data:= #[]:BA}) (bO v) else Lb false (bO v) else bif v.K==2 then bif v.N==0 then Lb (decide ((↑(ByteArray.size v.S):Int)<=20)&&qm v.S) (bO v) else Lb false (bO v) else Lb false (bO v))
 have e:(ByteArray.toList (a_.S v)==ByteArray.toList {data:= #[]})=decide (v.S=aj):=aM _ _
 simp only[e,bO]
 repeat' (refine ae (fun h=> ?_) (fun h=> ?_))
 all_goals (refine ck ?_;grind)
def agh:=cj (α:=a_) (q1 (qA .bc)) [.ro] (fun _=>[]) (fun v=>⟨[dO (bO v)],[],[]⟩)
def OW:HH:=hF agh func116 [tF,ahG] a0 fun(v:a_) hp hb=>by
 have w5:=jp (x:=v) (hb _ m0)
 clear hp hb
 apply vE (bif v.K==1 then bif decide ((-1000000000)<=v.N/\v.N<=1000000000) then Lb (ByteArray.toList v.S==ByteArray.toList {data:= #[]:BA}) (bO v) else Lb false (bO v) else bif v.K==2 then bif decide (ByteArray.size v.S<=20)&&qm v.S then Lb (v.N==0) (bO v) else Lb false (bO v) else Lb false (bO v))
 have e:(ByteArray.toList (a_.S v)==ByteArray.toList {data:= #[]})=decide (v.S=aj):=aM _ _
 simp only[e,bO]
 repeat' (refine ae (fun h=> ?_) (fun h=> ?_))
 all_goals (refine ck ?_;grind)
def aeR:=cj (α:=List a_) (q1 (qL .bc)) [.ro] (fun _=>[]) (fun l=>⟨[dO (decide (l.length<=5)&&l.all bO)],[],[]⟩)
def Jk(l:List a_):Int×Unit->Prop:=fun(i,_)=>0<=i/\i<=l.length/\(l.drop i.toNat).all bO=l.all bO
def IK(l:List a_):Int×Unit->Nat:=fun(i,_)=>l.length-i.toNat
def aoJ:AX aeR:=fun l=>bW [(2,aU [iI 3] (fun _=>Jk l) (IK l))]
def an1:HH:=hF aeR func72 [OW] aoJ fun(l:List a_) hp hb=>by
 have fF:L9 l.length:=iv (hb _ m0)
 clear hp hb
 apply vE (let x0:=(l.length:Int);let q0:=decide (l.length<=5)&&l.all bO;Jk l (0,())/\∀(y:Int×PUnit),let q1:=(wrap i64 (y.1+1),());Jk l y->bif decide (y.1<x0) then 0<=y.1/\y.1.toNat<l.length/\bif !bO (l.getD y.1.toNat ee) then Lb false q0 else Jk l q1/\IK l q1<IK l y else Lb (decide (x0<=5)) q0)
 dsimp only
 refine⟨⟨by omega,by omega,rfl⟩,?_⟩
 rintro⟨i,⟨⟩⟩ ⟨h1,h2,hR⟩
 simp only
 refine ae ?_ ?_<;>intro hc
 ·have hc:=yT hc
  rw[en _ _ ee h1 (by omega)] at hR
  rw[wi]
  refine⟨by omega,by omega,ae (fun h=>bD ?_) (fun h=>⟨⟨by omega,by omega,?_⟩,?_⟩)⟩
  ·rw[<-hR];simp at h;simp[h]
  ·rw[<-hR];simp at h;simp[h]
  ·simp only[IK];omega
 ·have hc:=yF hc
  rw[cy _ (by omega)] at hR
  refine ck ?_
  rw[<-hR];simp;omega
def anz:=cj (α:=aJ) (q1 (qA .dk)) [.ro] (fun _=>[]) (fun f=>⟨[dO (bw f)],[],[]⟩)
def L_:HH:=hF anz func20 [L8,an1] a0 fun(f:aJ) hp hb=>by
 have aS:=eh (x:=f) (hb _ m0)
 have dW:=aS.1
 have cF:=aS.2
 clear hp hb
 apply vE (bif bq f.Kind then Lb (decide (f.ah.length<=5)&&f.ah.all bO) (bw f) else Lb false (bw f))
 simp only[bw]
 refine ae (fun h=>ck ?_) (fun h=>ck ?_)<;>grind
def af2:=cj (α:=aJ) (q1 (qA .dk)) [.ro] (fun _=>[]) (fun f=>⟨[dO (bw f)],[],[]⟩)
def JM(f:aJ):Int×Unit->Prop:=fun(i,_)=>0<=i/\i<=f.ah.length/\f.ah.length<=5/\bq f.Kind=true/\(f.ah.drop i.toNat).all bO=f.ah.all bO
def I8(f:aJ):Int×Unit->Nat:=fun(i,_)=>f.ah.length-i.toNat
def apc:AX af2:=fun f=>bW [(4,aU [iI 18] (fun _=>JM f) (I8 f))]
def QJ:HH:=hF af2 func16 [QH,abq] apc fun(f:aJ) hp hb=>by
 have aS:=eh (x:=f) (hb _ m0)
 have dW:=aS.1
 have cF:=aS.2
 clear hp hb
 apply vE (let x0:=(f.ah.length:Int);bif !bq f.Kind then Lb false (bw f) else bif decide (x0>5) then Lb false (bw f) else JM f (0,())/\∀(y:Int×PUnit),let q0:=(wrap i64 (y.1+1),());JM f y->bif decide (y.1<x0) then 0<=y.1/\y.1.toNat<f.ah.length/\bif !bO (f.ah.getD y.1.toNat ee) then Lb false (bw f) else JM f q0/\I8 f q0<I8 f y else Lb true (bw f))
 dsimp only
 refine ae (fun h=>ck ?_) (fun h=>ae (fun h'=>ck ?_) (fun h'=>⟨⟨by omega,by omega,by simp at h';omega,by simpa using h,rfl⟩,?_⟩))
 ·simp only[bw];grind
 ·simp only[bw];grind
 rintro⟨i,⟨⟩⟩ ⟨h1,h2,h3,h4,hR⟩
 simp only
 refine ae ?_ ?_<;>intro hc
 ·have hc:=yT hc
  rw[en _ _ ee h1 (by omega)] at hR
  rw[wi]
  refine⟨by omega,by omega,ae (fun h=>bD ?_) (fun h=>⟨⟨by omega,by omega,by omega,h4,?_⟩,?_⟩)⟩
  ·simp only[bw];rw[<-hR];simp at h;simp[h]
  ·rw[<-hR];simp at h;simp[h]
  ·simp only[I8];omega
 ·have hc:=yF hc
  rw[cy _ (by omega)] at hR
  refine ck ?_
  simp only[bw,<-hR,h4];simp;omega
def allI(n:Nat)(p:Nat->Bool):Bool:=(List.range n).all p
theorem iK{n:Nat}{p:Nat->Bool}(h:∀j,j<n->p j=true):allI n p=true:=by simpa[allI] using h
theorem gY{n:Nat}{p:Nat->Bool}{j:Nat}(h:j<n)(hj:p j=false):allI n p=false:=by
 simp only[allI,List.all_eq_false,pq]
 exact⟨j,h,by simp[hj]⟩
theorem gj{i:Int}{p:Nat->Bool}(h0:0<=i)(h:∀j:Nat,(j:Int)<i->p j=true)(hi:p i.toNat=true):∀j:Nat,(j:Int)<i+1->p j=true:=by
 intro j hj
 by_cases Xa:(j:Int)<i
 ·exact h j Xa
 ·have:j=i.toNat:=by omega
  subst this;exact hi
def iN(x:aK):Bool:=decide (0<=x.At/\x.At<=1000000000)&&bw x.F
def jR(l:List aK)(i:Nat):Bool:=iN (l.getD i cS)&&(decide (i=0)||decide ((l.getD (i-1) cS).At<=(l.getD i cS).At))
def dx(l:List aK):Bool:=decide (l.length<=30)&&allI l.length (jR l)
def anv:=cj (α:=Int) (q1 qI) [.ro] (fun _=>[]) (fun n=>⟨[dO (decide (0<=n/\n<=1000000000))],[],[]⟩)
def abt:HH:=hF anv func29 [FH] a0 fun(n:Int) hp hb=>by
 have PW:=tg (n:=n) (hb _ m0)
 clear hp hb
 apply vE (let q0:=decide (0<=n/\n<=1000000000);Lb q0 q0)
 dsimp only
 exact bf _
def am9:=cj (α:=aK) (q1 (qA .aI)) [.ro] (fun _=>[]) (fun x=>⟨[dO (iN x)],[],[]⟩)
def anU:HH:=hF am9 func81 [abt,QJ] a0 fun(x:aK) hp hb=>by
 have aS:=Ar (x:=x) (hb _ m0)
 have uL:=aS.1
 have ri:=aS.2
 clear hp hb
 apply vE (bif decide (0<=x.At/\x.At<=1000000000) then Lb (bw x.F) (iN x) else Lb false (iN x))
 simp only[iN]
 refine ae (fun h=>ck ?_) (fun h=>ck ?_)<;>grind
def agk:=cj (α:=aK) (q1 (qA .aI)) [.ro] (fun _=>[]) (fun x=>⟨[dO (iN x)],[],[]⟩)
def YL:HH:=hF agk func111 [tF,L_] a0 fun(x:aK) hp hb=>by
 have aS:=Ar (x:=x) (hb _ m0)
 have uL:=aS.1
 have ri:=aS.2
 clear hp hb
 apply vE (bif decide (0<=x.At/\x.At<=1000000000) then Lb (bw x.F) (iN x) else Lb false (iN x))
 simp only[iN]
 refine ae (fun h=>ck ?_) (fun h=>ck ?_)<;>grind
def afe:=cj (α:=List aK) (q1 (qL .aI)) [.ro] (fun _=>[]) (fun l=>⟨[dO (dx l)],[],[]⟩)
def FE(l:List aK):Int×Unit->Prop:=fun(i,_)=>0<=i/\i<=l.length/\l.length<=30/\∀j:Nat,(j:Int)<i->jR l j=true
def AB(l:List aK):Int×Unit->Nat:=fun(i,_)=>l.length-i.toNat
def ao9:AX afe:=fun l=>bW [(4,aU [iI 10] (fun _=>FE l) (AB l))]
def aon:HH:=hF afe func26 [anU] ao9 fun(l:List aK) hp hb=>by
 have fF:L9 l.length:=iv (hb _ m0)
 clear hp hb
 apply vE (let x0:=(l.length:Int);let q0:=Lb false (dx l);bif decide (x0>30) then q0 else FE l (0,())/\∀(y:Int×PUnit),let x2:=Int.toNat (wrap i64 (y.1-1));let x1:=(l.getD x2 cS).At;let q1:=(wrap i64 (y.1+1),());FE l y->bif decide (y.1<x0) then 0<=y.1/\y.1.toNat<l.length/\bif !iN (l.getD y.1.toNat cS) then q0 else bif decide (y.1>0) then 0<=wrap i64 (y.1-1)/\x2<l.length/\bif decide (x1>(l.getD y.1.toNat cS).At) then q0 else FE l q1/\AB l q1<AB l y else FE l q1/\AB l q1<AB l y else Lb true (dx l))
 dsimp only
 refine ae (fun h=>bD ?_) (fun h=>⟨⟨by omega,by omega,by have h:=yF h;omega,by intro j hj;omega⟩,?_⟩)
 ·have h:=yT h;simp only[dx];rw[decide_eq_false (by omega)];rfl
 rintro⟨i,⟨⟩⟩ ⟨h1,h2,h3,hR⟩
 simp only
 refine ae ?_ ?_<;>intro hc
 ·have hc:=yT hc
  have hN:jR l i.toNat=false->dx l=false:=fun h=>by
   have hf:allI l.length (jR l)=false:=gY (j:=i.toNat) (by omega) h
   simp only[dx,hf];simp
  simp(disch:=omega) only[wrap_i64]
  have e1:(i-1).toNat=i.toNat-1:=by omega
  simp only[e1]
  refine⟨by omega,by omega,ae (fun h=>bD (hN ?_)) (fun h=>ae (fun h'=>⟨by have:=yT h';omega,by have:=yT h';omega,ae (fun oK=>bD (hN ?_)) (fun oK=>⟨⟨by omega,by omega,h3,gj h1 hR ?_⟩,?_⟩)⟩) (fun h'=>⟨⟨by omega,by omega,h3,gj h1 hR ?_⟩,?_⟩))⟩
  all_goals (first|(simp only[AB];omega)|(simp only[jR];grind))
 ·have hc:=yF hc
  have hA:allI l.length (jR l)=true:=iK fun j hj=>hR j (by omega)
  refine ck ?_
  simp only[dx,hA];grind
def aeW:=cj (α:=List aK) (q1 (qL .aI)) [.ro] (fun _=>[]) (fun l=>⟨[dO (dx l)],[],[]⟩)
def FB(l:List aK):Int×Unit->Prop:=fun(i,_)=>0<=i/\i<=l.length/\∀j:Nat,(j:Int)<i->jR l j=true
def Ax(l:List aK):Int×Unit->Nat:=fun(i,_)=>l.length-i.toNat
def aoO:AX aeW:=fun l=>bW [(2,aU [iI 3] (fun _=>FB l) (Ax l))]
def agB:HH:=hF aeW func64 [YL] aoO fun(l:List aK) hp hb=>by
 have fF:L9 l.length:=iv (hb _ m0)
 clear hp hb
 apply vE (let x0:=(l.length:Int);FB l (0,())/\∀(y:Int×PUnit),let x2:=Int.toNat (wrap i64 (y.1-1));let x1:=(l.getD x2 cS).At;let q0:=(wrap i64 (y.1+1),());FB l y->bif decide (y.1<x0) then 0<=y.1/\y.1.toNat<l.length/\bif !iN (l.getD y.1.toNat cS) then Lb false (dx l) else bif decide (y.1>0) then 0<=wrap i64 (y.1-1)/\x2<l.length/\0<=y.1/\y.1.toNat<l.length/\bif decide (x1>(l.getD y.1.toNat cS).At) then Lb false (dx l) else FB l q0/\Ax l q0<Ax l y else FB l q0/\Ax l q0<Ax l y else Lb (decide (x0<=30)) (dx l))
 dsimp only
 refine⟨⟨by omega,by omega,by intro j hj;omega⟩,?_⟩
 rintro⟨i,⟨⟩⟩ ⟨h1,h2,hR⟩
 simp only
 refine ae ?_ ?_<;>intro hc
 ·have hc:=yT hc
  have hN:jR l i.toNat=false->dx l=false:=fun h=>by
   have hf:allI l.length (jR l)=false:=gY (j:=i.toNat) (by omega) h
   simp only[dx,hf];simp
  simp(disch:=omega) only[wrap_i64]
  have e1:(i-1).toNat=i.toNat-1:=by omega
  simp only[e1]
  refine⟨by omega,by omega,ae (fun h=>bD (hN ?_)) (fun h=>ae (fun h'=>⟨by have:=yT h';omega,by have:=yT h';omega,by omega,by omega,ae (fun oK=>bD (hN ?_)) (fun oK=>⟨⟨by omega,by omega,gj h1 hR ?_⟩,?_⟩)⟩) (fun h'=>⟨⟨by omega,by omega,gj h1 hR ?_⟩,?_⟩))⟩
  all_goals (first|(simp only[Ax];omega)|(simp only[jR];grind))
 ·have hc:=yF hc
  have hA:allI l.length (jR l)=true:=iK fun j hj=>hR j (by omega)
  refine ck ?_
  simp only[dx,hA];grind
def j7(n:Nat)(p:Nat->Bool):Int:=match(List.range n).find? p with|some i=>i|none=> -1
def anyI(n:Nat)(p:Nat->Bool):Bool:=(List.range n).any p
theorem fL{n i:Nat}{p:Nat->Bool}(h:i<n)(hp:p i=true)(hj:∀j,j<i->p j=false):j7 n p=i:=by
 have:(List.range n).find? p=some i:=by
  rw[List.find?_range_eq_some]
  exact⟨hp,pq.2 h,fun j ug=>by simp[hj j ug]⟩
 simp[j7,this]
theorem jx{n:Nat}{p:Nat->Bool}(hj:∀j,j<n->p j=false):j7 n p= -1:=by
 have:(List.range n).find? p=none:=by
  rw[zeb]
  intro j ug
  simp[hj j (pq.1 ug)]
 simp[j7,this]
theorem ik(n:Nat)(p:Nat->Bool):(j7 n p= -1/\∀j,j<n->p j=false)\/∃i,i<n/\j7 n p=(i:Int)/\p i=true/\∀j,j<i->p j=false:=by
 cases h:(List.range n).find? p with
 |none=>
  refine .inl ⟨by simp[j7,h],fun j hj=> ?_⟩
  have:=zeb.1 h j (pq.2 hj)
  simpa using this
 |some i=>
  rw[List.find?_range_eq_some] at h
  obtain⟨h1,h2,h3⟩:=h
  exact .inr ⟨i,pq.1 h2,fL (pq.1 h2) h1 (fun j hj=>by simpa using h3 j hj),h1,fun j hj=>by simpa using h3 j hj⟩
theorem wW{n:Nat}{p q:Nat->Bool}(h:∀j,j<n->p j=q j):j7 n p=j7 n q:=by
 rcases ik n q with⟨h1,h2⟩|⟨i,h1,h2,h3,h4⟩
 ·rw[h1,jx (fun j hj=>by rw[h j hj,h2 j hj])]
 ·rw[h2,fL h1 (by rw[h i h1,h3]) (fun j hj=>by rw[h j (by omega),h4 j hj])]
theorem iJ{n j:Nat}{p:Nat->Bool}(h:j<n)(hp:p j=true):anyI n p=true:=by
 simp only[anyI,vg,pq]
 exact⟨j,h,hp⟩
theorem gz{n:Nat}{p:Nat->Bool}(h:∀j,j<n->p j=false):anyI n p=false:=by
 simp only[anyI,List.any_eq_false,pq]
 exact fun j hj=>by simp[h j hj]
theorem yQ{n:Nat}{p:Nat->Bool}:anyI n p=true↔∃j,j<n/\p j=true:=by
 simp only[anyI,vg,pq]
theorem ol{n:Nat}{p:Nat->Bool}:anyI n p=false↔∀j,j<n->p j=false:=by
 simp only[anyI,List.any_eq_false,pq,wl]
theorem yS{n:Nat}{p:Nat->Bool}:allI n p=true↔∀j,j<n->p j=true:=by
 simp only[allI,sk,pq]
theorem nL{n:Nat}{p q:Nat->Bool}(h:∀j,j<n->p j=q j):anyI n p=anyI n q:=by
 rw[FM,yQ,yQ]
 exact⟨fun⟨j,h1,h2⟩=>⟨j,h1,by rw[<-h j h1];exact h2⟩,fun⟨j,h1,h2⟩=>⟨j,h1,by rw[h j h1];exact h2⟩⟩
theorem BN{n:Nat}{p:Nat->Bool}:decide (0<=j7 n p)=anyI n p:=by
 rcases ik n p with⟨h1,h2⟩|⟨i,h1,h2,h3,h4⟩
 ·rw[h1,gz h2];rfl
 ·rw[h2,iJ h1 h3];simp
theorem Ab{α:Type}(l:List α)(z:α){i j:Nat}(h:j<i):(l.take i).getD j z=l.getD j z:=by
 rw[eX,eX,qa,if_pos h]
theorem uR{k:kz UU}{pT:List (DV UU)}{ds:List (DA UU)}{x:k.α}{v:Value}(h:k.of (ds.map DA.dv++pT)=some x)(hv:(k.pj x).val=[.one (.lit v)])(hm:(k.pj x).M0=[])
  (hl:k.md.length=ds.length+pT.length) (hp:∀p∈k.pre x,p):gL k pT ds=some v:=by
 unfold gL
 simp only[h,hv,hm]
 rw[if_pos ⟨hl,hp⟩]
theorem gN(a b:a_):(a.K==b.K&&(a.N==b.N&&(ByteArray.toList a.S==ByteArray.toList b.S&&true)))=decide (a=b):=by
 obtain⟨K,N,S⟩:=a
 obtain⟨K',N',S'⟩:=b
 simp only[aM,BE]
 rw[FM]
 simp only[cO,beq_iff_eq,decide_eq_true_eq,a_.mk.injEq]
theorem jk{i:Int}{p:Nat->Bool}(h0:0<=i)(h:∀j:Nat,(j:Int)<i->p j=false)(hi:p i.toNat=false):∀j:Nat,(j:Int)<i+1->p j=false:=by
 intro j hj
 by_cases Xa:(j:Int)<i
 ·exact h j Xa
 ·have:j=i.toNat:=by omega
  subst this;exact hi
def gW(x:bj):DA UU:=⟨true,[.lit (.string x.Key),.lit (.string x.F.Kind),.sl .bc x.F.ah]⟩
def jQ(l:List bj)(i:Nat):Bool:=decide (1<=(l.getD i bP).Key.size/\(l.getD i bP).Key.size<=200)&&bw (l.getD i bP).F&& !(anyI i fun k=>decide ((l.getD k bP).Key=(l.getD i bP).Key))
def dD(l:List bj):Bool:=decide (l.length<=30)&&allI l.length (jQ l)
def uN(l:List bj)(key:BA):Bool:=anyI l.length fun k=>decide ((l.getD k bP).Key=key)
def XS:=cj (α:=(List bj)×(List (DA UU)->Option Value)) (qC (qL .aW) (q1 qF)) [.ro,.ro] (fun(l,p)=>[∀j:Nat,j<l.length->p [gW (l.getD j bP)]=some (.bool (bJ (p [gW (l.getD j bP)])))]) (fun(l,p)=>⟨[dI (j7 l.length (fun j=>bJ (p [gW (l.getD j bP)])))],[],[]⟩)
def Da(l:List bj)(p:(List (DA UU)->Option Value)):Int×Unit->Prop:=fun(i,_)=>0<=i/\i<=l.length/\∀j:Nat,(j:Int)<i->bJ (p [gW (l.getD j bP)])=false
def Cp(l:List bj)(p:(List (DA UU)->Option Value)):Int×Unit->Nat:=fun(i,_)=>l.length-i.toNat
def aiN:AX XS:=fun(l,p)=>bW [(2,aU [iI 8] (fun _=>Da l p) (Cp l p))]
def ahz:HH:=hF XS func172 [] aiN fun x hp hb=>by
 obtain⟨l,p⟩:=x
 have fF:L9 l.length:=iv (hb _ m0)
 have bo:∀j:Nat,j<l.length->p [gW (l.getD j bP)]=some (.bool (bJ (p [gW (l.getD j bP)]))):=hp _ m0
 clear hp hb
 apply vE (Da l p (0,())/\∀(y:Int×PUnit),let x0:=bJ (p [{agg:=true,cs:=[CS ((l.getD y.1.toNat bP).Key),CS ((l.getD y.1.toNat bP).F.Kind),CL .bc (l.getD y.1.toNat bP).F.ah]:DA UU}]);let q0:=l.getD y.1.toNat bP;let q1:=(wrap i64 (y.1+1),());Da l p y->bif decide (y.1<(l.length:Int)) then 0<=y.1/\y.1.toNat<l.length/\p [{agg:=true,cs:=[CS (q0.Key),CS (q0.F.Kind),CL .bc q0.F.ah]:DA UU}]=some (Value.bool x0)/\bif x0 then Li y.1 (j7 (l.length) fun(j:Nat)=>bJ (p [gW (l.getD j bP)])) else Da l p q1/\Cp l p q1<Cp l p y else Li (-1) (j7 (l.length) fun(j:Nat)=>bJ (p [gW (l.getD j bP)])))
 dsimp only
 refine⟨⟨by omega,by omega,by intro j hj;omega⟩,?_⟩
 rintro⟨i,⟨⟩⟩ ⟨h1,h2,hR⟩
 simp only[gW] at*
 refine ae ?_ ?_<;>intro hc
 ·have hc:=yT hc
  rw[wi]
  refine⟨by omega,by omega,bo i.toNat (by omega),ae (fun h=>oT ?_) (fun h=>⟨⟨by omega,by omega,jk (p:=fun j=>bJ (p [gW (l.getD j bP)])) h1 hR h⟩,by simp only[Cp];omega⟩)⟩
  rw[fL (i:=i.toNat) (by omega) h (fun j hj=>hR j (by omega))]
  omega
 ·have hc:=yF hc
  exact oT (jx (fun j hj=>hR j (by omega))).symm
def agb:=cj (α:=(List bj)×(List (DA UU)->Option Value)) (qC (qL .aW) (q1 qF)) [.ro,.ro] (fun(l,p)=>[∀j:Nat,j<l.length->p [gW (l.getD j bP)]=some (.bool (bJ (p [gW (l.getD j bP)])))]) (fun(l,p)=>⟨[dO (anyI l.length (fun j=>bJ (p [gW (l.getD j bP)])))],[],[]⟩)
def ahZ:HH:=hF agb func133 [ahz] a0 fun x hp hb=>by
 obtain⟨l,p⟩:=x
 have fF:L9 l.length:=iv (hb _ m0)
 have bo:∀j:Nat,j<l.length->p [gW (l.getD j bP)]=some (.bool (bJ (p [gW (l.getD j bP)]))):=hp _ m0
 clear hp hb
 apply vE (let x0:=j7 (l.length) fun(j:Nat)=>bJ (p [gW (l.getD j bP)]);(∀(j:Nat),j<l.length->p [gW (l.getD j bP)]=some (Value.bool (bJ (p [gW (l.getD j bP)]))))/\Lb (decide (x0≥0)) (anyI (l.length) fun(j:Nat)=>bJ (p [gW (l.getD j bP)])))
 dsimp only
 exact⟨bo,ck (by rw[<-BN])⟩
def am8:=cj (α:=BA) (q1 qS) [.ro] (fun _=>[]) (fun s=>⟨[dO (decide (1<=s.size/\s.size<=200))],[],[]⟩)
def anT:HH:=hF am8 func82 [FH] a0 fun(s:BA) hp hb=>by
 have Bx:=Bg (s:=s) (hb _ m0)
 clear hp hb
 apply vE (Lb (decide (1<=(↑(ByteArray.size s):Int)/\(↑(ByteArray.size s):Int)<=200)) (decide (1<=ByteArray.size s/\ByteArray.size s<=200)))
 refine ck ?_
 rw[decide_eq_decide];omega
def Bm:kz UU where
 α:=bj×BA
 md:=[.ro,.ro]
 of:=fun|[.agg [.lit (.string a0),.lit (.string a1),.sl .bc a2],.ptr [.lit (.string a3)]]=>some (⟨a0,⟨a1,a2⟩⟩,a3)|_=>none
 ds:=fun(x,c)=>[.agg [.lit (.string x.Key),.lit (.string x.F.Kind),.sl .bc x.F.ah],.ptr [.lit (.string c)]]
 pre:=fun(x,c)=>[]
 pj:=fun(x,c)=>⟨[.one (.lit (.bool (decide (x.Key=c))))],[],[]⟩
 law:=by intro l x h;(try simp only at h);split at h<;>cases h;rfl
def ahY:HH:=hF Bm func134 [] a0 fun x hp hb=>by
 obtain⟨x,c⟩:=x
 have SJ:gh (U:=UU) (.agg [.lit (.string x.Key),.lit (.string x.F.Kind),.sl .bc x.F.ah]):=hb _ (gB)
 have adO:L9 x.Key.size:=Bd.str (SJ _ (by simp))
 have uL:L9 x.F.Kind.size:=Bd.str (SJ _ (by simp))
 have ri:L9 x.F.ah.length:=Bd.len (U:=UU) (τ:=.bc) (xs:=x.F.ah) (SJ _ (by simp))
 have amI:gh (U:=UU) (.ptr [.lit (.string c)]):=hb _ (cI _ (gB))
 have apt:L9 c.size:=Bd.str (amI _ (by simp))
 clear hp hb
 apply vE (Lb (ByteArray.toList x.Key==ByteArray.toList c) (decide (x.Key=c)))
 rw[aM]
 exact bf _
def am7:=cj (α:=(List bj)×BA) (qC (qL .aW) (q1 qS)) [.ro,.ro] (fun _=>[]) (fun(l,key)=>⟨[dO (uN l key)],[],[]⟩)
def anS:HH:=hF am7 func83 [ahZ,ahY] a0 fun x hp hb=>by
 obtain⟨l,key⟩:=x
 have fF:L9 l.length:=iv (hb _ m0)
 have Nd:=Bg (s:=key) (hb _ m1)
 clear hp hb
 apply vE ((∀(j:Nat),j<l.length->gL Bm [DV.ptr [CS key]] [gW (l.getD j bP)]=some (Value.bool (bJ (gL Bm [DV.ptr [CS key]] [gW (l.getD j bP)]))))/\Lb (anyI (l.length) fun(j:Nat)=>bJ (gL Bm [DV.ptr [CS key]] [gW (l.getD j bP)])) (uN l key))
 have hc:∀x:bj,gL Bm [.ptr [.lit (.string key)]] [gW x]=some (.bool (decide (x.Key=key))):=fun x=>uR (x:=(x,key)) rfl rfl rfl rfl (by simp[Bm])
 refine⟨fun j hj=> ?_,ck ?_⟩
 ·show gL Bm [.ptr [.lit (.string key)]] [gW (l.getD j bP)]=_
  rw[hc];rfl
 ·exact nL fun j hj=>by
   show bJ (gL Bm [.ptr [.lit (.string key)]] [gW (l.getD j bP)])=_
   rw[hc];rfl
def afd:=cj (α:=List bj) (q1 (qL .aW)) [.ro] (fun _=>[]) (fun l=>⟨[dO (dD l)],[],[]⟩)
def JH(l:List bj):Int×Unit->Prop:=fun(i,_)=>0<=i/\i<=l.length/\l.length<=30/\∀j:Nat,(j:Int)<i->jQ l j=true
def AA(l:List bj):Int×Unit->Nat:=fun(i,_)=>l.length-i.toNat
def ao8:AX afd:=fun l=>bW [(4,aU [iI 10] (fun _=>JH l) (AA l))]
def aom:HH:=hF afd func27 [anT,QJ,anS] ao8 fun(l:List bj) hp hb=>by
 have fF:L9 l.length:=iv (hb _ m0)
 clear hp hb
 apply vE (let x0:=(l.length:Int);let x1:=Option.getD none (0:Int);let q0:=Lb false (dD l);bif decide (x0>30) then q0 else JH l (0,())/\∀(y:Int×PUnit),let x2:=Option.getD (some y.1) x0;let q1:=l.getD y.1.toNat bP;let q2:=(wrap i64 (y.1+1),());JH l y->bif decide (y.1<x0) then 0<=y.1/\y.1.toNat<l.length/\bif !decide (1<=ByteArray.size q1.Key/\ByteArray.size q1.Key<=200) then q0 else bif !bw q1.F then q0 else 0<=x1/\x1<=x2/\x2<=x0/\bif uN ((l.take x2.toNat).drop x1.toNat) q1.Key then q0 else JH l q2/\AA l q2<AA l y else Lb true (dD l))
 dsimp only
 refine ae (fun h=>bD ?_) (fun h=>⟨⟨by omega,by omega,by have h:=yF h;omega,by intro j hj;omega⟩,?_⟩)
 ·have h:=yT h;simp only[dD];rw[decide_eq_false (by omega)];rfl
 rintro⟨i,⟨⟩⟩ ⟨h1,h2,h3,hR⟩
 simp only
 refine ae ?_ ?_<;>intro hc
 ·have hc:=yT hc
  have hN:jQ l i.toNat=false->dD l=false:=fun h=>by
   have hf:allI l.length (jQ l)=false:=gY (j:=i.toNat) (by omega) h
   simp only[dD,hf];simp
  have hk:uN ((l.take i.toNat).drop (Int.toNat 0)) (l.getD i.toNat bP).Key=anyI i.toNat fun k=>decide ((l.getD k bP).Key=(l.getD i.toNat bP).Key):=by
   show anyI _ _=_
   have e:(l.take i.toNat).length=i.toNat:=by rw[oz];omega
   rw[show Int.toNat 0=0 from rfl,List.drop_zero,e]
   exact nL fun j hj=>by rw[Ab l bP hj]
  simp only[Uk,Gm,hk]
  simp(disch:=omega) only[wrap_i64]
  have hm:AA l (i+1,PUnit.unit)<AA l (i,()):=by simp only[AA];omega
  refine⟨by omega,by omega,ae (fun h=>bD (hN ?_)) (fun h=>ae (fun h'=>bD (hN ?_)) (fun h'=>⟨by omega,by omega,by omega,ae (fun oK=>bD (hN ?_)) (fun oK=>⟨⟨by omega,by omega,h3,gj h1 hR ?_⟩,hm⟩)⟩))⟩
  all_goals (simp only[jQ];grind)
 ·have hc:=yF hc
  have hA:allI l.length (jQ l)=true:=iK fun j hj=>hR j (by omega)
  refine ck ?_
  simp only[dD,hA];grind
def aeV:=cj (α:=List bj) (q1 (qL .aW)) [.ro] (fun _=>[]) (fun l=>⟨[dO (dD l)],[],[]⟩)
def Jp(l:List bj):Int×Unit->Prop:=fun(i,_)=>0<=i/\i<=l.length/\∀j:Nat,(j:Int)<i->jQ l j=true
def Aw(l:List bj):Int×Unit->Nat:=fun(i,_)=>l.length-i.toNat
def Jo(l:List bj):Int×Int×Unit->Int×Int×Unit->Prop:=fun(i0,k0,_) (i,k,_)=>i=i0/\0<=k/\k<=i/\∀j:Nat,(j:Int)<k->decide ((l.getD j bP).Key=(l.getD i.toNat bP).Key)=false
def IP(l:List bj):Int×Int×Unit->Nat:=fun(i,k,_)=>i.toNat-k.toNat
def aoN:AX aeV:=fun l=>bW [(2,aU [iI 3] (fun _=>Jp l) (Aw l)),(7,aU [iI 3,iI 4] (Jo l) (IP l))]
def agA:HH:=hF aeV func65 [tF,L_] aoN fun(l:List bj) hp hb=>by
 have fF:L9 l.length:=iv (hb _ m0)
 clear hp hb
 apply vE (let x0:=(l.length:Int);let q0:=Lb false (dD l);Jp l (0,())/\∀(y:Int×PUnit),let q1:=(↑(ByteArray.size (l.getD y.1.toNat bP).Key):Int);let q2:=(y.1,0,());Jp l y->bif decide (y.1<x0) then 0<=y.1/\y.1.toNat<l.length/\bif !decide (1<=q1/\q1<=200) then q0 else 0<=y.1/\y.1.toNat<l.length/\bif !bw (l.getD y.1.toNat bP).F then q0 else Jo l q2 q2/\∀(aL:Int×Int×PUnit),let x1:=aL.2.1.toNat;let q3:=(aL.1,wrap i64 (aL.2.1+1),());let q4:=(wrap i64 (aL.1+1),());Jo l q2 aL->bif decide (aL.2.1<aL.1) then 0<=aL.1/\aL.1.toNat<l.length/\0<=aL.2.1/\x1<l.length/\bif ByteArray.toList (l.getD aL.1.toNat bP).Key==ByteArray.toList (l.getD x1 bP).Key then q0 else Jo l q2 q3/\IP l q3<IP l aL else Jp l q4/\Aw l q4<Aw l y else Lb (decide (x0<=30)) (dD l))
 dsimp only
 refine⟨⟨by omega,by omega,by intro j hj;omega⟩,?_⟩
 rintro⟨i,⟨⟩⟩ ⟨h1,h2,hR⟩
 simp only
 refine ae ?_ ?_<;>intro hc
 ·have hc:=yT hc
  have hN:jQ l i.toNat=false->dD l=false:=fun h=>by
   have hf:allI l.length (jQ l)=false:=gY (j:=i.toNat) (by omega) h
   simp only[dD,hf];simp
  have hm:Aw l (i+1,PUnit.unit)<Aw l (i,()):=by simp only[Aw];omega
  refine⟨by omega,by omega,ae (fun h=>bD (hN ?_)) (fun h=>⟨by omega,by omega,ae (fun h'=>bD (hN ?_)) (fun h'=>⟨⟨rfl,by omega,by omega,by intro j hj;omega⟩,?_⟩)⟩)⟩
  ·simp only[jQ];grind
  ·simp only[jQ];grind
  rintro⟨i,k,⟨⟩⟩ ⟨rfl,g1,g2,gR⟩
  simp only
  refine ae ?_ ?_<;>intro hk
  ·have hk:=yT hk
   simp(disch:=omega) only[wrap_i64,aM]
   refine⟨by omega,by omega,by omega,by omega,ae (fun oK=>bD (hN ?_)) (fun oK=>⟨⟨rfl,by omega,by omega,jk g1 gR ?_⟩,by simp only[IP];omega⟩)⟩
   ·have ha:(anyI i.toNat fun k=>decide ((l.getD k bP).Key=(l.getD i.toNat bP).Key))=true:=iJ (j:=k.toNat) (by omega) (by grind)
    simp only[jQ,ha];simp
   ·grind
  ·have hk:=yF hk
   simp(disch:=omega) only[wrap_i64]
   refine⟨⟨by omega,by omega,gj h1 hR ?_⟩,hm⟩
   have ha:(anyI i.toNat fun k=>decide ((l.getD k bP).Key=(l.getD i.toNat bP).Key))=false:=gz fun j hj=>gR j (by omega)
   simp only[jQ,ha];grind
 ·have hc:=yF hc
  have hA:allI l.length (jQ l)=true:=iK fun j hj=>hR j (by omega)
  refine ck ?_
  simp only[dD,hA];grind
def bm(l:List bj):aJ:=if l=[] then ui else(l.getD (l.length-1) bP).F
def L7:=cj (α:=List a_) (q1 (qL .bc)) [.ro] (fun l=>[L4 l.length]) (fun l=>⟨[dL .bc l],[],[]⟩)
def T_:AX L7:=fun l=>bW []
def TJ:List (FuncId×kz UU):=[]
theorem aep:A_ EE TJ f149 L7 T_ [] .bc [] true=(Lf [VL .bc []] [VL .bc []]):=by kernel_rfl
theorem aem:A_ EE TJ f149 L7 T_ [] .bc [] true:=by
 rw[aep]
 exact bf _
theorem aeA:Holds EE (149,L7):=by
 refine zT qZ func149 L7 (by kernel_rfl) rfl .bc (fun x=>x) (fun _=>rfl) TJ all_nil T_ (fun(l:List a_) hp hb=> ?_)
 have fF:L9 l.length:=iv (hb _ m0)
 have bo:l.length<=4294967296:=hp _ m0
 clear hp hb
 refine⟨?_,fun h0=> ?_⟩
 rotate_left
 ·subst h0;exact aem
 apply vE (0+l.length<=4294967296/\Lf [VL .bc ([]++l)] [VL .bc l])
 exact⟨by simp;omega,bf _⟩
def ahP:HH:=⟨_,aeA⟩
def agp:=cj (α:=aJ) (q1 (qA .dk)) [.ro] (fun f=>[L4 f.ah.length]) (fun f=>⟨[dA .dk f],[],[]⟩)
def sd:HH:=hF agp func105 [] a0 fun(f:aJ) hp hb=>by
 have aS:=eh (x:=f) (hb _ m0)
 have dW:=aS.1
 have cF:=aS.2
 have bo:f.ah.length<=4294967296:=hp _ m0
 clear hp hb
 apply vE (0+f.ah.length<=4294967296/\Lf [DV.agg [CS f.Kind,CL .bc ([]++f.ah)]] [DV.agg [CS f.Kind,CL .bc f.ah]])
 exact⟨by simp;omega,bf _⟩
def agt:=cj (α:=aJ) (q1 (qA .dk)) [.ro] (fun f=>[L4 f.ah.length]) (fun f=>⟨[dA .dk f],[],[]⟩)
def Bp:HH:=hF agt func100 [ahP] a0 fun(f:aJ) hp hb=>by
 have aS:=eh (x:=f) (hb _ m0)
 have dW:=aS.1
 have cF:=aS.2
 have bo:f.ah.length<=4294967296:=hp _ m0
 clear hp hb
 apply vE (f.ah.length<=4294967296/\Lf [DV.agg [CS f.Kind,CL .bc f.ah]] [DV.agg [CS f.Kind,CL .bc f.ah]])
 exact⟨bo,bf _⟩
def ae1:=cj (α:=List aK) (q1 (qL .aI)) [.ro] (fun l=>[L4 (cY l)]) (fun l=>⟨[dL .aI l],[],[]⟩)
def Ju(l:List aK):List aK×Int×Unit->Prop:=fun(out,i,_)=>0<=i/\i<=l.length/\out=l.take i.toNat
def IT(l:List aK):List aK×Int×Unit->Nat:=fun(out,i,_)=>l.length-i.toNat
def aoT:AX ae1:=fun l=>bW [(3,aU [iO 3 .aI,iI 4] (fun _=>Ju l) (IT l))]
def abp:HH:=hF ae1 func59 [sd] aoT fun(l:List aK) hp hb=>by
 have fF:L9 l.length:=iv (hb _ m0)
 have bo:cY l<=4294967296:=hp _ m0
 clear hp hb
 apply vE (Ju l ([],0,())/\∀(y:List aK×Int×PUnit),let x2:=y.2.1.toNat;let x1:=l.getD x2 cS;let x0:=[x1];let q0:=(y.1++x0,wrap i64 (y.2.1+1),());Ju l y->bif decide (y.2.1<(l.length:Int)) then 0<=y.2.1/\x2<l.length/\0<=y.2.1/\x2<l.length/\L4 x1.F.ah.length/\L4 (y.1.length+x0.length)/\Ju l q0/\IT l q0<IT l y else Lf [VL .aI y.1] [VL .aI l])
 dsimp only
 refine⟨⟨by omega,by omega,by simp⟩,?_⟩
 rintro⟨out,i,⟨⟩⟩ ⟨h1,h2,rfl⟩
 simp only
 refine ae ?_ ?_<;>intro hc
 ·have hc:=yT hc
  have hs:=er ie l cS h1 hc
  simp only[cY] at bo
  have hx:=hs
  simp only[ie,dj,eO] at hx
  rw[dH l cS h1 hc,wi]
  repeat' (first|refine And.intro (by omega) ?_|fail)
  refine⟨by simp;omega,⟨by omega,by omega,rfl⟩,by simp only[IT];omega⟩
 ·have hc:=yF hc
  rw[cM l (by omega)]
  exact bf _
def ae6:=cj (α:=List aK) (q1 (qL .aI)) [.ro] (fun l=>[L4 (cY l)]) (fun l=>⟨[dL .aI l],[],[]⟩)
def Jz(l:List aK):List aK×Int×Unit->Prop:=fun(out,i,_)=>0<=i/\i<=l.length/\out=l.take i.toNat
def IY(l:List aK):List aK×Int×Unit->Nat:=fun(out,i,_)=>l.length-i.toNat
def aoZ:AX ae6:=fun l=>bW [(3,aU [iO 3 .aI,iI 8] (fun _=>Jz l) (IY l))]
def aoa:HH:=hF ae6 func50 [Bp] aoZ fun(l:List aK) hp hb=>by
 have fF:L9 l.length:=iv (hb _ m0)
 have bo:cY l<=4294967296:=hp _ m0
 clear hp hb
 apply vE (Jz l ([],0,())/\∀(y:List aK×Int×PUnit),let x2:=y.2.1.toNat;let x1:=l.getD x2 cS;let x0:=[x1];let q0:=(y.1++x0,wrap i64 (y.2.1+1),());Jz l y->bif decide (y.2.1<(l.length:Int)) then 0<=y.2.1/\x2<l.length/\L4 x1.F.ah.length/\L4 (y.1.length+x0.length)/\Jz l q0/\IY l q0<IY l y else Lf [VL .aI y.1] [VL .aI l])
 dsimp only
 refine⟨⟨by omega,by omega,by simp⟩,?_⟩
 rintro⟨out,i,⟨⟩⟩ ⟨h1,h2,rfl⟩
 simp only
 refine ae ?_ ?_<;>intro hc
 ·have hc:=yT hc
  have hs:=er ie l cS h1 hc
  simp only[cY] at bo
  have hx:=hs
  simp only[ie,dj,eO] at hx
  rw[dH l cS h1 hc,wi]
  repeat' (first|refine And.intro (by omega) ?_|fail)
  refine⟨by simp;omega,⟨by omega,by omega,rfl⟩,by simp only[IY];omega⟩
 ·have hc:=yF hc
  rw[cM l (by omega)]
  exact bf _
def ae0:=cj (α:=List bj) (q1 (qL .aW)) [.ro] (fun l=>[L4 (cx l)]) (fun l=>⟨[dL .aW l],[],[]⟩)
def Jt(l:List bj):List bj×Int×Unit->Prop:=fun(out,i,_)=>0<=i/\i<=l.length/\out=l.take i.toNat
def IS(l:List bj):List bj×Int×Unit->Nat:=fun(out,i,_)=>l.length-i.toNat
def aoS:AX ae0:=fun l=>bW [(3,aU [iO 3 .aW,iI 4] (fun _=>Jt l) (IS l))]
def abo:HH:=hF ae0 func60 [sd] aoS fun(l:List bj) hp hb=>by
 have fF:L9 l.length:=iv (hb _ m0)
 have bo:cx l<=4294967296:=hp _ m0
 clear hp hb
 apply vE (Jt l ([],0,())/\∀(y:List bj×Int×PUnit),let x2:=y.2.1.toNat;let x1:=l.getD x2 bP;let x0:=[x1];let q0:=(y.1++x0,wrap i64 (y.2.1+1),());Jt l y->bif decide (y.2.1<(l.length:Int)) then 0<=y.2.1/\x2<l.length/\0<=y.2.1/\x2<l.length/\L4 x1.F.ah.length/\L4 (y.1.length+x0.length)/\Jt l q0/\IS l q0<IS l y else Lf [VL .aW y.1] [VL .aW l])
 dsimp only
 refine⟨⟨by omega,by omega,by simp⟩,?_⟩
 rintro⟨out,i,⟨⟩⟩ ⟨h1,h2,rfl⟩
 simp only
 refine ae ?_ ?_<;>intro hc
 ·have hc:=yT hc
  have hs:=er dJ l bP h1 hc
  simp only[cx] at bo
  have hx:=hs
  simp only[dJ,dj,eO] at hx
  rw[dH l bP h1 hc,wi]
  repeat' (first|refine And.intro (by omega) ?_|fail)
  refine⟨by simp;omega,⟨by omega,by omega,rfl⟩,by simp only[IS];omega⟩
 ·have hc:=yF hc
  rw[cM l (by omega)]
  exact bf _
def ae5:=cj (α:=List bj) (q1 (qL .aW)) [.ro] (fun l=>[L4 (cx l)]) (fun l=>⟨[dL .aW l],[],[]⟩)
def Jy(l:List bj):List bj×Int×Unit->Prop:=fun(out,i,_)=>0<=i/\i<=l.length/\out=l.take i.toNat
def IX(l:List bj):List bj×Int×Unit->Nat:=fun(out,i,_)=>l.length-i.toNat
def aoY:AX ae5:=fun l=>bW [(3,aU [iO 3 .aW,iI 8] (fun _=>Jy l) (IX l))]
def an_:HH:=hF ae5 func51 [Bp] aoY fun(l:List bj) hp hb=>by
 have fF:L9 l.length:=iv (hb _ m0)
 have bo:cx l<=4294967296:=hp _ m0
 clear hp hb
 apply vE (Jy l ([],0,())/\∀(y:List bj×Int×PUnit),let x2:=y.2.1.toNat;let x1:=l.getD x2 bP;let x0:=[x1];let q0:=(y.1++x0,wrap i64 (y.2.1+1),());Jy l y->bif decide (y.2.1<(l.length:Int)) then 0<=y.2.1/\x2<l.length/\L4 x1.F.ah.length/\L4 (y.1.length+x0.length)/\Jy l q0/\IX l q0<IX l y else Lf [VL .aW y.1] [VL .aW l])
 dsimp only
 refine⟨⟨by omega,by omega,by simp⟩,?_⟩
 rintro⟨out,i,⟨⟩⟩ ⟨h1,h2,rfl⟩
 simp only
 refine ae ?_ ?_<;>intro hc
 ·have hc:=yT hc
  have hs:=er dJ l bP h1 hc
  simp only[cx] at bo
  have hx:=hs
  simp only[dJ,dj,eO] at hx
  rw[dH l bP h1 hc,wi]
  repeat' (first|refine And.intro (by omega) ?_|fail)
  refine⟨by simp;omega,⟨by omega,by omega,rfl⟩,by simp only[IX];omega⟩
 ·have hc:=yF hc
  rw[cM l (by omega)]
  exact bf _
def af1:=cj (α:=List bj) (q1 (qL .aW)) [.ro] (fun l=>[L4 (cx l)]) (fun l=>⟨[dA .dk (bm l),dO (decide (¬l=[]))],[],[]⟩)
def ahF:HH:=hF af1 func162 [sd] a0 fun(l:List bj) hp hb=>by
 have fF:L9 l.length:=iv (hb _ m0)
 have bo:cx l<=4294967296:=hp _ m0
 clear hp hb
 apply vE (let x3:=wrap i64 ((l.length:Int)-1);let x2:=x3.toNat;let x1:=(l.getD x2 bP).F;let x0:=x1.ah;bif (l.length:Int)==0 then Lf [DV.agg [CS ({data:= #[]:BA}),CL .bc []],VB false] [DV.agg [CS ((bm l).Kind),CL .bc (bm l).ah],VB (decide ¬l=[])] else 0<=x3/\x2<l.length/\L4 x0.length/\Lf [DV.agg [CS x1.Kind,CL .bc x0],VB true] [DV.agg [CS ((bm l).Kind),CL .bc (bm l).ah],VB (decide ¬l=[])])
 dsimp only
 by_cases hl:l=[]
 ·subst hl;exact bf _
 ·have h0:0<l.length:=List.length_pos_iff.2 hl
  have h1:(l.length-1:Int).toNat=l.length-1:=by omega
  have hs:=er dJ l bP (i:=l.length-1) (by omega) (by omega)
  simp only[cx] at bo
  rw[h1] at hs
  have hx:=hs
  simp only[dJ,dj,eO] at hx
  rw[wi,h1]
  refine ae (fun h=>absurd h (by simp;omega)) (fun h=> ?_)
  repeat' (first|refine And.intro (by omega) ?_|fail)
  simp only[bm,if_neg hl,decide_not,hl]
  exact bf _
def afP:=cj (α:=List bj) (q1 (qL .aW)) [.ro] (fun l=>[L4 (cx l)]) (fun l=>⟨[dA .dk (bm l),dO (decide (¬l=[]))],[],[]⟩)
def ahk:HH:=hF afP func191 [Bp] a0 fun(l:List bj) hp hb=>by
 have fF:L9 l.length:=iv (hb _ m0)
 have bo:cx l<=4294967296:=hp _ m0
 clear hp hb
 apply vE (let x3:=wrap i64 ((l.length:Int)-1);let x2:=x3.toNat;let x1:=(l.getD x2 bP).F;let x0:=x1.ah;bif (l.length:Int)==0 then Lf [DV.agg [CS ({data:= #[]:BA}),CL .bc []],VB false] [DV.agg [CS ((bm l).Kind),CL .bc (bm l).ah],VB (decide ¬l=[])] else 0<=x3/\x2<l.length/\L4 x0.length/\Lf [DV.agg [CS x1.Kind,CL .bc x0],VB true] [DV.agg [CS ((bm l).Kind),CL .bc (bm l).ah],VB (decide ¬l=[])])
 dsimp only
 by_cases hl:l=[]
 ·subst hl;exact bf _
 ·have h0:0<l.length:=List.length_pos_iff.2 hl
  have h1:(l.length-1:Int).toNat=l.length-1:=by omega
  have hs:=er dJ l bP (i:=l.length-1) (by omega) (by omega)
  simp only[cx] at bo
  rw[h1] at hs
  have hx:=hs
  simp only[dJ,dj,eO] at hx
  rw[wi,h1]
  refine ae (fun h=>absurd h (by simp;omega)) (fun h=> ?_)
  repeat' (first|refine And.intro (by omega) ?_|fail)
  simp only[bm,if_neg hl,decide_not,hl]
  exact bf _
def afu:=cj (α:=List bj) (q1 (qL .aW)) [.ro] (fun l=>[L4 (cx l)]) (fun l=>⟨[dL .aW (l.take (l.length-1))],[],[]⟩)
def agW:HH:=hF afu func227 [abo] a0 fun(l:List bj) hp hb=>by
 have fF:L9 l.length:=iv (hb _ m0)
 have bo:cx l<=4294967296:=hp _ m0
 clear hp hb
 apply vE (let x1:=(l.length:Int);let x0:=Option.getD (some (wrap i64 (x1-1))) x1;L4 (cx l)/\bif decide (x1>0) then 0<=Option.getD none (0:Int)/\Option.getD none (0:Int)<=x0/\x0<=x1/\Nat.le x0.toNat (l.length)/\Lf [VL .aW (l.take x0.toNat)] [VL .aW (l.take (l.length-1))] else Lf [VL .aW l] [VL .aW (l.take (l.length-1))])
 dsimp only
 refine⟨bo,ae (fun h=> ?_) (fun h=> ?_)⟩
 ·have h:=yT h
  simp only[Uk,Gm]
  rw[wi]
  have h1:(l.length-1:Int).toNat=l.length-1:=by omega
  rw[h1]
  refine⟨by omega,by omega,by omega,Nat.sub_le _ _,bf _⟩
 ·have h:=yF h
  have h0:l=[]:=List.length_eq_zero_iff.1 (by omega)
  subst h0
  exact bf _
def fB(s:BA):Bool:=decide (s=aj)||bq s
def gq(t:ak):Bool:=bw t.F&&fB t.aR&&decide (1<=t.State/\t.State<=4)&&decide (0<=t.bt/\t.bt<=4)&&decide (0<=t.jF/\t.jF<=1000001000)&&(decide (t.V=ee)||bO t.V)&&decide ((t.State=1->t.bt=0)/\(t.State=2->t.bt≠0))
def jS(l:List ak)(i:Nat):Bool:=gq (l.getD i aE)&& !(anyI i fun k=>decide ((l.getD k aE).F=(l.getD i aE).F))
def aT(l:List ak):Bool:=decide (l.length<=30)&&allI l.length (jS l)
def placeOf(l:List ak)(f:aJ):Int:=j7 l.length fun k=>decide ((l.getD k aE).F=f)
def jU(t:ak):Bool:=decide (t.State=1\/t.State=2)
def gF(t:ak):ak:=if t.State=1\/t.State=2 then⟨t.F,t.aR,4,t.bt,t.jF,t.V⟩ else t
def giveUp(l:List ak):List ak:=l.map gF
def cz(x:ak):DA UU:=⟨true,[.lit (.string x.F.Kind),.sl .bc x.F.ah,.lit (.string x.aR),.lit (.int .i64 x.State),.lit (.int .i64 x.bt),.lit (.int .i64 x.jF),.lit (.int .i64 x.V.K),.lit (.int .i64 x.V.N),.lit (.string x.V.S)]⟩
theorem Ls{a b:aJ}:a=b↔a.Kind=b.Kind/\a.ah=b.ah:=by
 obtain⟨k,f⟩:=a;obtain⟨k',f'⟩:=b;simp
theorem BM{α:Type}(f:α->α)(l:List α)(z:α){i:Int}(F:α->α)(h0:0<=i)(h:i<l.length)(hF:F (l.getD i.toNat z)=f (l.getD i.toNat z)):
  ((l.map f).take i.toNat++l.drop i.toNat).modify i.toNat F=(l.map f).take (i+1).toNat++l.drop (i+1).toNat:=by
 have hn:i.toNat<l.length:=by omega
 have e:(i+1).toNat=i.toNat+1:=by omega
 have ht:((l.map f).take i.toNat).length=i.toNat:=by rw[oz,xp];omega
 rw[M2 _ z,BL _ l z ht h0 h,hF,fc l z h0 h,List.set_append_right _ _ (by rw[ht];exact tR _),ht,YV,List.set_cons_zero,e,zcz (by simpa using hn),xw,List.getElem_map]
 rw[eX,fH hn]
 rfl
theorem Em{α:Type}(f:α->α)(l:List α)(z:α){i:Int}(h0:0<=i)(h:i<l.length)(hF:l.getD i.toNat z=f (l.getD i.toNat z)):
  (l.map f).take i.toNat++l.drop i.toNat=(l.map f).take (i+1).toNat++l.drop (i+1).toNat:=by
 rw[<-BM f l z (fun x=>x) h0 h hF]
 have:∀(m:List α)(n:Nat),m.modify n (fun x=>x)=m:=by
  intro m n
  refine Um fun j=> ?_
  rw[YX]
  cases m[j]? <;>simp
 rw[this]
theorem HZ{α:Type}(f:α->α)(l:List α){i:Int}(h0:0<=i)(h:i<=l.length):((l.map f).take i.toNat++l.drop i.toNat).length=l.length:=by
 rw[kI,oz,xp,Me];omega
theorem M4{α:Type}(f:α->α)(l:List α){i:Int}(h0:0<=i)(h:i<=l.length):((l.map f).take i.toNat).length=i.toNat:=by
 rw[oz,xp];omega
theorem En{α:Type}(f:α->α)(l:List α){i:Int}(h:l.length<=i):(l.map f).take i.toNat++l.drop i.toNat=l.map f:=by
 rw[List.drop_eq_nil_of_le (by omega),xr,Ul (by rw[xp];omega)]
def X0:=cj (α:=(List a_)×(List a_)) (qC (qL .bc) (q1 (qL .bc))) [.ro,.ro] (fun _=>[]) (fun(a,b)=>⟨[dO (decide (a=b))],[],[]⟩)
def ze(a:List a_)(b:List a_):Int×Unit->Prop:=fun(i,_)=>0<=i/\i<=a.length/\a.length=b.length/\(a.drop i.toNat=b.drop i.toNat↔a=b)
def Cv(a:List a_)(b:List a_):Int×Unit->Nat:=fun(i,_)=>a.length-i.toNat
def aiV:AX X0:=fun(a,b)=>bW [(4,aU [iI 5] (fun _=>ze a b) (Cv a b))]
def ahH:HH:=hF X0 func160 [] aiV fun x hp hb=>by
 obtain⟨a,b⟩:=x
 have P5:L9 a.length:=iv (hb _ m0)
 have P0:L9 b.length:=iv (hb _ m1)
 clear hp hb
 apply vE (bif (a.length:Int) !=(b.length:Int) then Lb false (decide (a=b)) else ze a b (0,())/\∀(y:Int×PUnit),let x0:=a.getD y.1.toNat ee;let x1:=b.getD y.1.toNat ee;let q0:=(wrap i64 (y.1+1),());ze a b y->bif decide (y.1<(a.length:Int)) then 0<=y.1/\y.1.toNat<a.length/\0<=y.1/\y.1.toNat<b.length/\bif !(x0.K==x1.K&&(x0.N==x1.N&&(ByteArray.toList x0.S==ByteArray.toList x1.S&&true))) then Lb false (decide (a=b)) else ze a b q0/\Cv a b q0<Cv a b y else Lb true (decide (a=b)))
 dsimp only
 refine ae (fun h=>m7 ?_) (fun h=>⟨?_,?_⟩)
 ·rintro rfl;simp at h
 ·simp[ze] at*;omega
 rintro⟨i,⟨⟩⟩ ⟨h1,h2,h3,hR⟩
 simp only at*
 refine ae ?_ ?_<;>intro hc
 ·have hc:i<a.length:=by simpa using hc
  rw[fc a ee h1 hc,fc b ee h1 (by omega)] at hR
  rw[wi]
  simp only[gN]
  refine⟨by omega,by omega,by omega,by omega,ae (fun h=>m7 ?_) (fun h=>⟨⟨by omega,by omega,h3,?_⟩,?_⟩)⟩
  ·rw[<-hR];simp at h;simp[h]
  ·rw[<-hR];simp at h;simp[h]
  ·simp only[Cv];omega
 ·have hc:a.length<=i:=by simpa using hc
  rw[cy a hc,cy b (by omega)] at hR
  exact NK (hR.1 rfl)
def aeJ:=cj (α:=(List a_)×(List a_)) (qC (qL .bc) (q1 (qL .bc))) [.ro,.ro] (fun _=>[]) (fun(a,b)=>⟨[dO (decide (a=b))],[],[]⟩)
def Fx(a:List a_)(b:List a_):Int×Unit->Prop:=fun(i,_)=>0<=i/\i<=a.length/\a.length=b.length/\(a.drop i.toNat=b.drop i.toNat↔a=b)
def ID(a:List a_)(b:List a_):Int×Unit->Nat:=fun(i,_)=>a.length-i.toNat
def aoC:AX aeJ:=fun(a,b)=>bW [(4,aU [iI 13] (fun _=>Fx a b) (ID a b))]
def anP:HH:=hF aeJ func88 [] aoC fun x hp hb=>by
 obtain⟨a,b⟩:=x
 have P5:L9 a.length:=iv (hb _ m0)
 have P0:L9 b.length:=iv (hb _ m1)
 clear hp hb
 apply vE (bif (a.length:Int) !=(b.length:Int) then Lb false (decide (a=b)) else Fx a b (0,())/\∀(y:Int×PUnit),let x0:=b.getD y.1.toNat ee;let x1:=a.getD y.1.toNat ee;let q0:=(wrap i64 (y.1+1),());Fx a b y->bif decide (y.1<(a.length:Int)) then 0<=y.1/\y.1.toNat<a.length/\0<=y.1/\y.1.toNat<b.length/\bif !(x1.K==x0.K&&(x1.N==x0.N&&(ByteArray.toList x1.S==ByteArray.toList x0.S&&true))) then Lb false (decide (a=b)) else Fx a b q0/\ID a b q0<ID a b y else Lb true (decide (a=b)))
 dsimp only
 refine ae (fun h=>m7 ?_) (fun h=>⟨?_,?_⟩)
 ·rintro rfl;simp at h
 ·simp[Fx] at*;omega
 rintro⟨i,⟨⟩⟩ ⟨h1,h2,h3,hR⟩
 simp only at*
 refine ae ?_ ?_<;>intro hc
 ·have hc:i<a.length:=by simpa using hc
  rw[fc a ee h1 hc,fc b ee h1 (by omega)] at hR
  rw[wi]
  simp only[gN]
  refine⟨by omega,by omega,by omega,by omega,ae (fun h=>m7 ?_) (fun h=>⟨⟨by omega,by omega,h3,?_⟩,?_⟩)⟩
  ·rw[<-hR];simp at h;simp[h]
  ·rw[<-hR];simp at h;simp[h]
  ·simp only[ID];omega
 ·have hc:a.length<=i:=by simpa using hc
  rw[cy a hc,cy b (by omega)] at hR
  exact NK (hR.1 rfl)
def agl:=cj (α:=aJ×aJ) (qC (qA .dk) (q1 (qA .dk))) [.ro,.ro] (fun _=>[]) (fun(a,b)=>⟨[dO (decide (a=b))],[],[]⟩)
def FI:HH:=hF agl func110 [ahH] a0 fun x hp hb=>by
 obtain⟨a,b⟩:=x
 have aS:=eh (x:=a) (hb _ m0)
 have P4:=aS.1
 have Lc:=aS.2
 have dw:=eh (x:=b) (hb _ m1)
 have PZ:=dw.1
 have K9:=dw.2
 clear hp hb
 apply vE (bif ByteArray.toList a.Kind==ByteArray.toList b.Kind then Lb (decide (a.ah=b.ah)) (decide (a=b)) else Lb false (decide (a=b)))
 simp only[aM]
 refine ae (fun h=>ck ?_) (fun h=>ck ?_)<;>(simp only[Ls];grind)
def ans:=cj (α:=aJ×aJ) (qC (qA .dk) (q1 (qA .dk))) [.ro,.ro] (fun _=>[]) (fun(a,b)=>⟨[dO (decide (a=b))],[],[]⟩)
def Wx:HH:=hF ans func34 [anP] a0 fun x hp hb=>by
 obtain⟨a,b⟩:=x
 have aS:=eh (x:=a) (hb _ m0)
 have P4:=aS.1
 have Lc:=aS.2
 have dw:=eh (x:=b) (hb _ m1)
 have PZ:=dw.1
 have K9:=dw.2
 clear hp hb
 apply vE (bif ByteArray.toList a.Kind==ByteArray.toList b.Kind then Lb (decide (a.ah=b.ah)) (decide (a=b)) else Lb false (decide (a=b)))
 simp only[aM]
 refine ae (fun h=>ck ?_) (fun h=>ck ?_)<;>(simp only[Ls];grind)
def af3:=cj (α:=BA) (q1 qS) [.ro] (fun _=>[]) (fun s=>⟨[dO (fB s)],[],[]⟩)
def ahI:HH:=hF af3 func159 [L8] a0 fun(s:BA) hp hb=>by
 have Bx:=Bg (s:=s) (hb _ m0)
 clear hp hb
 apply vE (bif ByteArray.toList s==ByteArray.toList {data:= #[]:BA} then Lb true (fB s) else Lb (bq s) (fB s))
 have e:(ByteArray.toList s==ByteArray.toList {data:= #[]})=decide (s=aj):=aM _ _
 simp only[e,fB]
 refine ae (fun h=>ck ?_) (fun h=>ck ?_)<;>grind
def agc:=cj (α:=BA) (q1 qS) [.ro] (fun _=>[]) (fun s=>⟨[dO (fB s)],[],[]⟩)
def TX:HH:=hF agc func131 [QH] a0 fun(s:BA) hp hb=>by
 have Bx:=Bg (s:=s) (hb _ m0)
 clear hp hb
 apply vE (bif ByteArray.toList s==ByteArray.toList {data:= #[]:BA} then Lb true (fB s) else Lb (bq s) (fB s))
 have e:(ByteArray.toList s==ByteArray.toList {data:= #[]})=decide (s=aj):=aM _ _
 simp only[e,fB]
 refine ae (fun h=>ck ?_) (fun h=>ck ?_)<;>grind
def agn:=cj (α:=ak) (q1 (qA .az)) [.ro] (fun _=>[]) (fun t=>⟨[dO (gq t)],[],[]⟩)
def aib:HH:=hF agn func109 [L_,ahI,tF,OW] a0 fun(t:ak) hp hb=>by
 have aS:=pY (x:=t) (hb _ m0)
 have mB:=aS.1
 have kc:=aS.2.1
 have pk:=aS.2.2.1
 have rL:=aS.2.2.2
 clear hp hb
 apply vE (let q0:=bif t.State !=1 then bif t.State !=2 then Lb true (gq t) else Lb ((t.State==1)==(t.bt==0)) (gq t) else Lb ((t.State==1)==(t.bt==0)) (gq t);let q1:=Lb false (gq t);bif !bw t.F then q1 else bif !fB t.aR then q1 else bif !decide (1<=t.State/\t.State<=4) then q1 else bif !decide (0<=t.bt/\t.bt<=4) then q1 else bif !decide (0<=t.jF/\t.jF<=1000001000) then q1 else bif !(t.V.K==0&&(t.V.N==0&&(ByteArray.toList t.V.S==ByteArray.toList {data:= #[]:BA}&&true))) then bif !bO t.V then q1 else q0 else q0)
 dsimp only
 have e:∀v:a_,(v.K==0&&(v.N==0&&(ByteArray.toList v.S==ByteArray.toList {data:= #[]}&&true)))=decide (v=ee):=fun v=>gN v ee
 simp only[e]
 simp only[gq]
 repeat' (refine ae (fun h=> ?_) (fun h=> ?_))
 all_goals (refine ck ?_;grind)
def am_:=cj (α:=ak) (q1 (qA .az)) [.ro] (fun _=>[]) (fun t=>⟨[dO (gq t)],[],[]⟩)
def anV:HH:=hF am_ func79 [QJ,TX,FH,abq] a0 fun(t:ak) hp hb=>by
 have aS:=pY (x:=t) (hb _ m0)
 have mB:=aS.1
 have kc:=aS.2.1
 have pk:=aS.2.2.1
 have rL:=aS.2.2.2
 clear hp hb
 apply vE (let q0:=bif decide (0<=t.jF/\t.jF<=1000001000) then bif t.V.K==0&&(t.V.N==0&&(ByteArray.toList t.V.S==ByteArray.toList {data:= #[]:BA}&&true)) then Lb true (gq t) else Lb (bO t.V) (gq t) else Lb false (gq t);let q1:=Lb false (gq t);let q2:=bif t.State==2 then bif t.bt==0 then q1 else q0 else q0;bif !bw t.F then q1 else bif !fB t.aR then q1 else bif !decide (1<=t.State/\t.State<=4) then q1 else bif !decide (0<=t.bt/\t.bt<=4) then q1 else bif t.State==1 then bif t.bt !=0 then q1 else q2 else q2)
 dsimp only
 have e:∀v:a_,(v.K==0&&(v.N==0&&(ByteArray.toList v.S==ByteArray.toList {data:= #[]}&&true)))=decide (v=ee):=fun v=>gN v ee
 simp only[e]
 simp only[gq]
 repeat' (refine ae (fun h=> ?_) (fun h=> ?_))
 all_goals (refine ck ?_;grind)
def aeK:=cj (α:=(List ak)×(List (DA UU)->Option Value)) (qC (qL .az) (q1 qF)) [.ro,.ro] (fun(l,p)=>[∀j:Nat,j<l.length->p [cz (l.getD j aE)]=some (.bool (bJ (p [cz (l.getD j aE)])))]) (fun(l,p)=>⟨[dI (j7 l.length (fun j=>bJ (p [cz (l.getD j aE)])))],[],[]⟩)
def Je(l:List ak)(p:(List (DA UU)->Option Value)):Int×Unit->Prop:=fun(i,_)=>0<=i/\i<=l.length/\∀j:Nat,(j:Int)<i->bJ (p [cz (l.getD j aE)])=false
def IE(l:List ak)(p:(List (DA UU)->Option Value)):Int×Unit->Nat:=fun(i,_)=>l.length-i.toNat
def aoD:AX aeK:=fun(l,p)=>bW [(2,aU [iI 8] (fun _=>Je l p) (IE l p))]
def abl:HH:=hF aeK func87 [] aoD fun x hp hb=>by
 obtain⟨l,p⟩:=x
 have fF:L9 l.length:=iv (hb _ m0)
 have bo:∀j:Nat,j<l.length->p [cz (l.getD j aE)]=some (.bool (bJ (p [cz (l.getD j aE)]))):=hp _ m0
 clear hp hb
 apply vE (Je l p (0,())/\∀(y:Int×PUnit),let x1:=l.getD y.1.toNat aE;let x0:=bJ (p [{agg:=true,cs:=[CS x1.F.Kind,CL .bc x1.F.ah,CS x1.aR,CI x1.State,CI x1.bt,CI x1.jF,CI x1.V.K,CI x1.V.N,CS x1.V.S]:DA UU}]);let q0:=(wrap i64 (y.1+1),());Je l p y->bif decide (y.1<(l.length:Int)) then 0<=y.1/\y.1.toNat<l.length/\p [{agg:=true,cs:=[CS x1.F.Kind,CL .bc x1.F.ah,CS x1.aR,CI x1.State,CI x1.bt,CI x1.jF,CI x1.V.K,CI x1.V.N,CS x1.V.S]:DA UU}]=some (Value.bool x0)/\bif x0 then Li y.1 (j7 (l.length) fun(j:Nat)=>bJ (p [cz (l.getD j aE)])) else Je l p q0/\IE l p q0<IE l p y else Li (-1) (j7 (l.length) fun(j:Nat)=>bJ (p [cz (l.getD j aE)])))
 dsimp only
 refine⟨⟨by omega,by omega,by intro j hj;omega⟩,?_⟩
 rintro⟨i,⟨⟩⟩ ⟨h1,h2,hR⟩
 simp only[cz] at*
 refine ae ?_ ?_<;>intro hc
 ·have hc:=yT hc
  rw[wi]
  refine⟨by omega,by omega,bo i.toNat (by omega),ae (fun h=>oT ?_) (fun h=>⟨⟨by omega,by omega,jk (p:=fun j=>bJ (p [cz (l.getD j aE)])) h1 hR h⟩,by simp only[IE];omega⟩)⟩
  rw[fL (i:=i.toNat) (by omega) h (fun j hj=>hR j (by omega))]
  omega
 ·have hc:=yF hc
  exact oT (jx (fun j hj=>hR j (by omega))).symm
def Bn:kz UU where
 α:=ak×aJ
 md:=[.ro,.ro]
 of:=oC (oA .az) (o1 (oP .dk))
 ds:=fun x=>[dA .az x.1,dP .dk x.2]
 pre:=fun _=>[]
 pj:=fun(t,f)=>⟨[dO (decide (t.F=f))],[],[]⟩
 law:=lC (lA .az) (l1 (lP .dk))
def ah0:HH:=hF Bn func132 [Wx] a0 fun x hp hb=>by
 obtain⟨t,f⟩:=x
 have aS:=pY (x:=t) (hb _ m0)
 have mB:=aS.1
 have kc:=aS.2.1
 have pk:=aS.2.2.1
 have rL:=aS.2.2.2
 have dw:=Hm (x:=f) (hb _ m1)
 have dW:=dw.1
 have cF:=dw.2
 clear hp hb
 apply vE (Lb (decide (t.F=f)) (decide (t.F=f)))
 exact bf _
def am':=cj (α:=(List ak)×aJ) (qC (qL .az) (q1 (qA .dk))) [.ro,.ro] (fun _=>[]) (fun(l,f)=>⟨[dI (placeOf l f)],[],[]⟩)
def agx:HH:=hF am' func80 [abl,ah0] a0 fun x hp hb=>by
 obtain⟨l,f⟩:=x
 have fF:L9 l.length:=iv (hb _ m0)
 have dw:=eh (x:=f) (hb _ m1)
 have dW:=dw.1
 have cF:=dw.2
 clear hp hb
 apply vE ((∀(j:Nat),j<l.length->gL Bn [DV.ptr [CS f.Kind,CL .bc f.ah]] [cz (l.getD j aE)]=some (Value.bool (bJ (gL Bn [DV.ptr [CS f.Kind,CL .bc f.ah]] [cz (l.getD j aE)]))))/\Li (j7 (l.length) fun(j:Nat)=>bJ (gL Bn [DV.ptr [CS f.Kind,CL .bc f.ah]] [cz (l.getD j aE)])) (placeOf l f))
 have hc:∀x:ak,gL Bn [.ptr [.lit (.string f.Kind),.sl .bc f.ah]] [cz x]=some (.bool (decide (x.F=f))):=fun x=>uR (x:=(x,f)) rfl rfl rfl rfl (by simp[Bn])
 refine⟨fun j hj=> ?_,oT ?_⟩
 ·show gL Bn [.ptr [.lit (.string f.Kind),.sl .bc f.ah]] [cz (l.getD j aE)]=_
  rw[hc];rfl
 ·exact wW fun j hj=>by
   show bJ (gL Bn [.ptr [.lit (.string f.Kind),.sl .bc f.ah]] [cz (l.getD j aE)])=_
   rw[hc];rfl
def aff:=cj (α:=List ak) (q1 (qL .az)) [.ro] (fun _=>[]) (fun l=>⟨[dO (aT l)],[],[]⟩)
def JI(l:List ak):Int×Unit->Prop:=fun(i,_)=>0<=i/\i<=l.length/\l.length<=30/\∀j:Nat,(j:Int)<i->jS l j=true
def AD(l:List ak):Int×Unit->Nat:=fun(i,_)=>l.length-i.toNat
def ao':AX aff:=fun l=>bW [(4,aU [iI 10] (fun _=>JI l) (AD l))]
def agH:HH:=hF aff func25 [anV,agx] ao' fun(l:List ak) hp hb=>by
 have fF:L9 l.length:=iv (hb _ m0)
 clear hp hb
 apply vE (let x0:=(l.length:Int);let q0:=Lb false (aT l);bif decide (x0>30) then q0 else JI l (0,())/\∀(y:Int×PUnit),let q1:=(wrap i64 (y.1+1),());JI l y->bif decide (y.1<x0) then 0<=y.1/\y.1.toNat<l.length/\bif !gq (l.getD y.1.toNat aE) then q0 else bif placeOf l (l.getD y.1.toNat aE).F !=y.1 then q0 else JI l q1/\AD l q1<AD l y else Lb true (aT l))
 dsimp only
 refine ae (fun h=>bD ?_) (fun h=>⟨⟨by omega,by omega,by have h:=yF h;omega,by intro j hj;omega⟩,?_⟩)
 ·have h:=yT h;simp only[aT];rw[decide_eq_false (by omega)];rfl
 rintro⟨i,⟨⟩⟩ ⟨h1,h2,h3,hR⟩
 simp only
 refine ae ?_ ?_<;>intro hc
 ·have hc:=yT hc
  have hN:jS l i.toNat=false->aT l=false:=fun h=>by
   have hf:allI l.length (jS l)=false:=gY (j:=i.toNat) (by omega) h
   simp only[aT,hf];simp
  have A7:(placeOf l (l.getD i.toNat aE).F=i)↔(anyI i.toNat fun k=>decide ((l.getD k aE).F=(l.getD i.toNat aE).F))=false:=by
   rw[ol]
   unfold placeOf
   rcases ik l.length (fun k=>decide ((l.getD k aE).F=(l.getD i.toNat aE).F)) with⟨g1,g2⟩|⟨m,g1,g2,g3,g4⟩
   ·have:=g2 i.toNat (by omega);simp at this
   ·rw[g2]
    constructor
    ·intro e j hj;exact g4 j (by omega)
    ·intro e
     by_cases hm:m<i.toNat
     ·have:=e m hm;rw[g3] at this;cases this
     ·by_cases vw:i.toNat<m
      ·have:=g4 i.toNat vw;simp at this
      ·omega
  simp(disch:=omega) only[wrap_i64]
  have hm:AD l (i+1,PUnit.unit)<AD l (i,()):=by simp only[AD];omega
  refine⟨by omega,by omega,ae (fun h=>bD (hN ?_)) (fun h=>ae (fun h'=>bD (hN ?_)) (fun h'=>⟨⟨by omega,by omega,h3,gj h1 hR ?_⟩,hm⟩))⟩
  ·simp only[jS];grind
  ·have:¬(placeOf l (l.getD i.toNat aE).F=i):=by simpa using h'
   rw[A7] at this
   simp only[jS];grind
  ·have:placeOf l (l.getD i.toNat aE).F=i:=by simpa using h'
   rw[A7] at this
   simp only[jS,this];grind
 ·have hc:=yF hc
  have hA:allI l.length (jS l)=true:=iK fun j hj=>hR j (by omega)
  refine ck ?_
  simp only[aT,hA];grind
def aeX:=cj (α:=List ak) (q1 (qL .az)) [.ro] (fun _=>[]) (fun l=>⟨[dO (aT l)],[],[]⟩)
def Jr(l:List ak):Int×Unit->Prop:=fun(i,_)=>0<=i/\i<=l.length/\∀j:Nat,(j:Int)<i->jS l j=true
def Ay(l:List ak):Int×Unit->Nat:=fun(i,_)=>l.length-i.toNat
def Jq(l:List ak):Int×Int×Unit->Int×Int×Unit->Prop:=fun(i0,k0,_) (i,k,_)=>i=i0/\0<=k/\k<=i/\∀j:Nat,(j:Int)<k->decide ((l.getD j aE).F=(l.getD i.toNat aE).F)=false
def IQ(l:List ak):Int×Int×Unit->Nat:=fun(i,k,_)=>i.toNat-k.toNat
def aoP:AX aeX:=fun l=>bW [(2,aU [iI 3] (fun _=>Jr l) (Ay l)),(7,aU [iI 3,iI 4] (Jq l) (IQ l))]
def an5:HH:=hF aeX func63 [aib,FI] aoP fun(l:List ak) hp hb=>by
 have fF:L9 l.length:=iv (hb _ m0)
 clear hp hb
 apply vE (let x0:=(l.length:Int);Jr l (0,())/\∀(y:Int×PUnit),let q0:=(y.1,0,());Jr l y->bif decide (y.1<x0) then 0<=y.1/\y.1.toNat<l.length/\bif !gq (l.getD y.1.toNat aE) then Lb false (aT l) else Jq l q0 q0/\∀(aL:Int×Int×PUnit),let x1:=aL.2.1.toNat;let q1:=(aL.1,wrap i64 (aL.2.1+1),());let q2:=(wrap i64 (aL.1+1),());Jq l q0 aL->bif decide (aL.2.1<aL.1) then 0<=aL.1/\aL.1.toNat<l.length/\0<=aL.2.1/\x1<l.length/\bif decide ((l.getD aL.1.toNat aE).F=(l.getD x1 aE).F) then Lb false (aT l) else Jq l q0 q1/\IQ l q1<IQ l aL else Jr l q2/\Ay l q2<Ay l y else Lb (decide (x0<=30)) (aT l))
 dsimp only
 refine⟨⟨by omega,by omega,by intro j hj;omega⟩,?_⟩
 rintro⟨i,⟨⟩⟩ ⟨h1,h2,hR⟩
 simp only
 refine ae ?_ ?_<;>intro hc
 ·have hc:=yT hc
  have hN:jS l i.toNat=false->aT l=false:=fun h=>by
   have hf:allI l.length (jS l)=false:=gY (j:=i.toNat) (by omega) h
   simp only[aT,hf];simp
  have hm:Ay l (i+1,PUnit.unit)<Ay l (i,()):=by simp only[Ay];omega
  refine⟨by omega,by omega,ae (fun h=>bD (hN ?_)) (fun h=>⟨⟨rfl,by omega,by omega,by intro j hj;omega⟩,?_⟩)⟩
  ·simp only[jS];grind
  rintro⟨i,k,⟨⟩⟩ ⟨rfl,g1,g2,gR⟩
  simp only
  refine ae ?_ ?_<;>intro hk
  ·have hk:=yT hk
   simp(disch:=omega) only[wrap_i64]
   refine⟨by omega,by omega,by omega,by omega,ae (fun oK=>bD (hN ?_)) (fun oK=>⟨⟨rfl,by omega,by omega,jk g1 gR ?_⟩,by simp only[IQ];omega⟩)⟩
   ·have ha:(anyI i.toNat fun k=>decide ((l.getD k aE).F=(l.getD i.toNat aE).F))=true:=iJ (j:=k.toNat) (by omega) (by grind)
    simp only[jS,ha];simp
   ·grind
  ·have hk:=yF hk
   simp(disch:=omega) only[wrap_i64]
   refine⟨⟨by omega,by omega,gj h1 hR ?_⟩,hm⟩
   have ha:(anyI i.toNat fun k=>decide ((l.getD k aE).F=(l.getD i.toNat aE).F))=false:=gz fun j hj=>gR j (by omega)
   simp only[jS,ha];grind
 ·have hc:=yF hc
  have hA:allI l.length (jS l)=true:=iK fun j hj=>hR j (by omega)
  refine ck ?_
  simp only[aT,hA];grind
def mg(b:Int):Bool:=decide (65<=b/\b<=90)
def zw(b:Int):Bool:=kV b||mg b
def iM(s:BA):Bool:=decide (1<=s.size/\s.size<=12)&&mg ((bs s).getD 0 0).toNat&&(bs s).all (kt zw)
def gb(a:cN):Bool:=bif decide (a.K=1) then iM a.S&&decide (a.V=ee) else bif decide (a.K=2) then bO a.V&&decide (a.S=aj) else bif decide (a.K=3) then decide (a.S=aj)&&decide (a.V=ee) else false
def fC(a:cN):Bool:=gb a&& !decide (a.K=3)
def fR(p:cr):Bool:=bq p.Kind&&decide (p.av.length<=5)&&p.av.all gb
def jw(c:dB):Bool:=decide (1<=c.Op/\c.Op<=3)&&fC c.L&&fC c.R
def Fl:BA:=⟨#[43]⟩
def xd:BA:=⟨#[45]⟩
def fO(e:cn):Bool:=bif decide (e.Op=aj) then fC e.L&&decide (e.R=mG) else bif decide (e.Op=Fl)||decide (e.Op=xd) then fC e.L&&fC e.R else false
def e7(l:List cn):Bool:=decide (l.length<=5)&&l.all fO
def Bh(a:eK):Bool:=decide (a.Name=aj)&&decide (a.av.length=0)&&decide (a.aR=aj)
def dl(a:eK):Bool:=
 bif decide (a.Kind=1) then bq a.Name&&e7 a.av&&decide (a.N=0)&&decide (a.aR=aj)
 else bif decide (a.Kind=2) then Bh a&&decide (0<=a.N/\a.N<=7)
 else bif decide (a.Kind=3) then bq a.Name&&e7 a.av&&decide (a.N=0)&&fB a.aR
 else bif decide (a.Kind=4) then bq a.Name&&e7 a.av&&decide (0<=a.N/\a.N<=100000)&&decide (a.aR=aj)
 else bif decide (a.Kind=5)||decide (a.Kind=6) then Bh a&&decide (a.N=0) else false
theorem LV(a b:cN):(a.K==b.K&&(ByteArray.toList a.S==ByteArray.toList b.S&&(a.V.K==b.V.K&&(a.V.N==b.V.N&&(ByteArray.toList a.V.S==ByteArray.toList b.V.S&&true))&&true)))=decide (a=b):=by
 obtain⟨K,S,K2,N2,S2⟩:=a
 obtain⟨K',S',K2',N2',S2'⟩:=b
 simp only[aM,BE]
 rw[FM]
 simp only[cO,beq_iff_eq,decide_eq_true_eq,cN.mk.injEq,a_.mk.injEq]
def afq:=cj (α:=Int) (q1 qY) [.ro] (fun _=>[]) (fun b=>⟨[dO (mg b)],[],[]⟩)
def agS:HH:=hF afq func231 [] a0 fun(b:Int) hp hb=>by
 skip
 clear hp hb
 apply vE (bif decide (b≥65) then Lb (decide (b<=90)) (mg b) else Lb false (mg b))
 refine ae (fun h=>ck ?_) (fun h=>ck ?_)<;>grind [mg]
def afo:=cj (α:=Int) (q1 qY) [.ro] (fun c=>[0<=c/\c<=255]) (fun c=>⟨[dO (mg c)],[],[]⟩)
def agN:HH:=hF afo func237 [tF] a0 fun(c:Int) hp hb=>by
 have bo:0<=c/\c<=255:=hp _ m0
 clear hp hb
 apply vE (Lb (decide (65<=wrap i64 c/\wrap i64 c<=90)) (mg c))
 rw[wi]
 exact ck rfl
def Xt:=cj (α:=BA) (q1 qS) [.ro] (fun _=>[]) (fun s=>⟨[dO (iM s)],[],[]⟩)
def CW(s:BA):Int×Unit->Prop:=fun(i,_)=>0<=i/\i<=s.size/\((bs s).drop i.toNat).all (kt zw)=(bs s).all (kt zw)/\(0<i->mg ((bs s).getD 0 0).toNat=true)
def vX(s:BA):Int×Unit->Nat:=fun(i,_)=>s.size-i.toNat
def ain:AX Xt:=fun s=>bW [(2,aU [iI 3] (fun _=>CW s) (vX s))]
def agU:HH:=hF Xt func229 [agN,TY,tF] ain fun(s:BA) hp hb=>by
 have Bx:=Bg (s:=s) (hb _ m0)
 clear hp hb
 apply vE (let q0:=(↑(ByteArray.size s):Int);CW s (0,())/\∀(y:Int×PUnit),let x0:=(↑(UInt8.toNat (s.data.toList.getD y.1.toNat (0:UInt8))):Int);let q1:=(wrap i64 (y.1+1),());let q2:=CW s q1/\vX s q1<vX s y;CW s y->bif decide (y.1<q0) then 0<=y.1/\y.1.toNat<ByteArray.size s/\(0<=x0/\x0<=255)/\bif !mg x0 then bif y.1==0 then Lb false (iM s) else 0<=y.1/\y.1.toNat<ByteArray.size s/\(0<=x0/\x0<=255)/\bif !kV x0 then Lb false (iM s) else q2 else q2 else Lb (decide (1<=q0/\q0<=12)) (iM s))
 dsimp only
 refine⟨⟨by omega,by omega,rfl,by omega⟩,?_⟩
 rintro⟨i,⟨⟩⟩ ⟨h1,h2,hR,hS⟩
 have hl:=te s
 simp only[Hk]
 refine ae ?_ ?_<;>intro hc
 ·have hc:=yT hc
  have hb:=((bs s).getD i.toNat 0).toNat_lt
  rw[en _ _ 0 h1 (by omega)] at hR
  rw[wi]
  have hN:(bs s).all (kt zw)=false->iM s=false:=fun h=>by simp[iM,h]
  have hm:vX s (i+1,PUnit.unit)<vX s (i,()):=by simp only[vX];omega
  refine⟨by omega,by omega,⟨by omega,by omega⟩,ae (fun h=>ae (fun h'=>bD ?_) (fun h'=>⟨by omega,by omega,⟨by omega,by omega⟩,ae (fun oK=>bD (hN ?_)) (fun oK=>⟨⟨by omega,by omega,?_,fun _=>hS ?_⟩,hm⟩)⟩)) (fun h=>⟨⟨by omega,by omega,?_,fun _=> ?_⟩,hm⟩)⟩
  ·have h':i=0:=by simpa using h'
   subst h'
   have h:mg (((bs s).getD 0 0).toNat:Int)=false:=by simpa using h
   simp only[iM,h];simp
  ·rw[<-hR];simp only[kt,zw];simp at h oK;simp[h,oK]
  ·rw[<-hR];simp only[kt,zw];simp at h oK;simp[h,oK]
  ·have h':¬i=0:=by simpa using h'
   omega
  ·rw[<-hR];simp only[kt,zw];simp at h;simp[h]
  ·by_cases hz:i=0
   ·subst hz;simpa using h
   ·exact hS (by omega)
 ·have hc:=yF hc
  rw[cy _ (by omega)] at hR
  refine ck ?_
  simp only[iM,<-hR]
  by_cases hz:0<i
  ·rw[hS hz];simp only[QR];grind
  ·rw[decide_eq_false (by omega),decide_eq_false (by omega)];rfl
def Xx:=cj (α:=BA) (q1 qS) [.ro] (fun _=>[]) (fun s=>⟨[dO (iM s)],[],[]⟩)
def C0(s:BA):Int×Unit->Prop:=fun(i,_)=>0<=i/\i<=s.size/\1<=s.size/\s.size<=12/\mg ((bs s).getD 0 0).toNat=true/\((bs s).drop i.toNat).all (kt zw)=(bs s).all (kt zw)
def vY(s:BA):Int×Unit->Nat:=fun(i,_)=>s.size-i.toNat
def ais:AX Xx:=fun s=>bW [(4,aU [iI 3] (fun _=>C0 s) (vY s))]
def ag2:HH:=hF Xx func221 [agS,YD] ais fun(s:BA) hp hb=>by
 have Bx:=Bg (s:=s) (hb _ m0)
 clear hp hb
 apply vE (let q0:=(↑(ByteArray.size s):Int);let q1:=Lb false (iM s);bif decide (q0<1) then q1 else bif decide (q0>12) then q1 else(0:Int)<=(0:Int)/\Int.toNat 0<ByteArray.size s/\bif !mg (↑(UInt8.toNat (s.data.toList.getD (Int.toNat 0) (0:UInt8))):Int) then q1 else C0 s (0,())/\∀(y:Int×PUnit),let x0:=(↑(UInt8.toNat (s.data.toList.getD y.1.toNat (0:UInt8))):Int);let q2:=(wrap i64 (y.1+1),());let q3:=C0 s q2/\vY s q2<vY s y;C0 s y->bif decide (y.1<q0) then 0<=y.1/\y.1.toNat<ByteArray.size s/\bif !kV x0 then 0<=y.1/\y.1.toNat<ByteArray.size s/\bif !mg x0 then q1 else q3 else q3 else Lb true (iM s))
 dsimp only
 have hl:=te s
 simp only[Hk]
 refine ae (fun h=>bD ?_) (fun h=>ae (fun h'=>bD ?_) (fun h'=> ?_))
 ·have h:=yT h;simp only[iM];rw[decide_eq_false (by omega)];rfl
 ·have h':=yT h';simp only[iM];rw[decide_eq_false (by omega)];rfl
 have h:=yF h
 have h':=yF h'
 refine⟨by omega,by omega,ae (fun g=>bD ?_) (fun g=>⟨⟨by omega,by omega,by omega,by omega,by simpa using g,rfl⟩,?_⟩)⟩
 ·have g:mg (((bs s).getD 0 0).toNat:Int)=false:=by simpa using g
  simp only[iM,g];simp
 rintro⟨i,⟨⟩⟩ ⟨h1,h2,h3,h4,hS,hR⟩
 simp only
 refine ae ?_ ?_<;>intro hc
 ·have hc:=yT hc
  rw[en _ _ 0 h1 (by omega)] at hR
  rw[wi]
  have hN:(bs s).all (kt zw)=false->iM s=false:=fun h=>by simp[iM,h]
  have hm:vY s (i+1,PUnit.unit)<vY s (i,()):=by simp only[vY];omega
  refine⟨by omega,by omega,ae (fun h=>⟨by omega,by omega,ae (fun oK=>bD (hN ?_)) (fun oK=>⟨⟨by omega,by omega,h3,h4,hS,?_⟩,hm⟩)⟩) (fun h=>⟨⟨by omega,by omega,h3,h4,hS,?_⟩,hm⟩)⟩
  ·rw[<-hR];simp only[kt,zw];simp at h oK;simp[h,oK]
  ·rw[<-hR];simp only[kt,zw];simp at h oK;simp[h,oK]
  ·rw[<-hR];simp only[kt,zw];simp at h;simp[h]
 ·have hc:=yF hc
  rw[cy _ (by omega)] at hR
  refine nv ?_
  simp only[iM,<-hR,hS,decide_eq_true (show 1<=s.size/\s.size<=12 from⟨h3,h4⟩)];rfl
def afx:=cj (α:=cN) (q1 (qA .gH)) [.ro] (fun _=>[]) (fun a=>⟨[dO (gb a)],[],[]⟩)
def TP:HH:=hF afx func219 [agU,OW] a0 fun(a:cN) hp hb=>by
 have aS:=tf (x:=a) (hb _ m0)
 have rj:=aS.1
 have rM:=aS.2
 clear hp hb
 apply vE (let x0:=ByteArray.toList a.S==ByteArray.toList {data:= #[]:BA};let q0:=Lb (a.V.K==0&&(a.V.N==0&&(ByteArray.toList a.V.S==ByteArray.toList {data:= #[]:BA}&&true))) (gb a);let q1:=Lb false (gb a);bif a.K==1 then bif iM a.S then q0 else q1 else bif a.K==2 then bif bO a.V then Lb x0 (gb a) else q1 else bif a.K==3 then bif x0 then q0 else q1 else q1)
 dsimp only
 have ev:∀v:a_,(v.K==0&&(v.N==0&&(ByteArray.toList v.S==ByteArray.toList {data:= #[]}&&true)))=decide (v=ee):=fun v=>gN v ee
 have e:∀s:BA,(ByteArray.toList s==ByteArray.toList {data:= #[]})=decide (s=aj):=fun s=>aM _ _
 simp only[ev,e,gb]
 repeat' (refine ae (fun h=> ?_) (fun h=> ?_))
 all_goals (refine ck ?_;grind)
def afK:=cj (α:=cN) (q1 (qA .gH)) [.ro] (fun _=>[]) (fun a=>⟨[dO (gb a)],[],[]⟩)
def Yu:HH:=hF afK func202 [ag2,abq] a0 fun(a:cN) hp hb=>by
 have aS:=tf (x:=a) (hb _ m0)
 have rj:=aS.1
 have rM:=aS.2
 clear hp hb
 apply vE (let x0:=ByteArray.toList a.S==ByteArray.toList {data:= #[]:BA};let q0:=Lb (a.V.K==0&&(a.V.N==0&&(ByteArray.toList a.V.S==ByteArray.toList {data:= #[]:BA}&&true))) (gb a);let q1:=Lb false (gb a);bif a.K==1 then bif iM a.S then q0 else q1 else bif a.K==2 then bif x0 then Lb (bO a.V) (gb a) else q1 else bif a.K==3 then bif x0 then q0 else q1 else q1)
 dsimp only
 have ev:∀v:a_,(v.K==0&&(v.N==0&&(ByteArray.toList v.S==ByteArray.toList {data:= #[]}&&true)))=decide (v=ee):=fun v=>gN v ee
 have e:∀s:BA,(ByteArray.toList s==ByteArray.toList {data:= #[]})=decide (s=aj):=fun s=>aM _ _
 simp only[ev,e,gb]
 repeat' (refine ae (fun h=> ?_) (fun h=> ?_))
 all_goals (refine ck ?_;grind)
def XE:=cj (α:=cr) (q1 (qA .dE)) [.ro] (fun _=>[]) (fun p=>⟨[dO (fR p)],[],[]⟩)
def C5(p:cr):Int×O4×Unit->Prop:=fun(i,b,_)=>b=(p.Kind,p.av,p.Not,())/\0<=i/\i<=p.av.length/\(p.av.drop i.toNat).all gb=p.av.all gb
def Ci(p:cr):Int×O4×Unit->Nat:=fun(i,b,_)=>p.av.length-i.toNat
def aiz:AX XE:=fun p=>bW [(2,aU [iI 3,.box 1 (1,1024) [.lit .str,.shr .gH,.lit .bool]] (fun _=>C5 p) (Ci p))]
def ahf:HH:=hF XE func197 [TP,L8] aiz fun(p:cr) hp hb=>by
 have aS:=B5 (x:=p) (hb _ m0)
 have zV:=aS.1
 have zW:=aS.2
 clear hp hb
 apply vE (C5 p (0,(p.Kind,p.av,p.Not,()),())/\∀(y:Int×T18×PUnit),let x1:=y.2.1.2.1.length;let x0:=(↑x1:Int);let q0:=(wrap i64 (y.1+1),(y.2.1.1,y.2.1.2.1,y.2.1.2.2.1,()),());C5 p y->bif decide (y.1<x0) then 0<=y.1/\y.1.toNat<x1/\bif !gb (y.2.1.2.1.getD y.1.toNat mG) then Lb false (fR p) else C5 p q0/\Ci p q0<Ci p y else bif bq y.2.1.1 then Lb (decide (x0<=5)) (fR p) else Lb false (fR p))
 dsimp only
 refine⟨⟨rfl,by omega,by omega,rfl⟩,?_⟩
 rintro⟨i,⟨bk,ba,bn,⟨⟩⟩,⟨⟩⟩ ⟨rP,h1,h2,hR⟩
 cases rP
 simp only
 refine ae ?_ ?_<;>intro hc
 ·have hc:=yT hc
  rw[en _ _ mG h1 (by omega)] at hR
  rw[wi]
  refine⟨by omega,by omega,ae (fun h=>bD ?_) (fun h=>⟨⟨rfl,by omega,by omega,?_⟩,?_⟩)⟩
  ·simp only[fR,<-hR];simp at h;simp[h]
  ·rw[<-hR];simp at h;simp[h]
  ·simp only[Ci];omega
 ·have hc:=yF hc
  rw[cy _ (by omega)] at hR
  simp only[fR,<-hR,QR]
  repeat' (refine ae (fun h=> ?_) (fun h=> ?_))
  all_goals (refine ck ?_;grind)
def XW:=cj (α:=cr) (q1 (qA .dE)) [.ro] (fun _=>[]) (fun p=>⟨[dO (fR p)],[],[]⟩)
def Dd(p:cr):Int×Unit->Prop:=fun(i,_)=>0<=i/\i<=p.av.length/\p.av.length<=5/\bq p.Kind=true/\(p.av.drop i.toNat).all gb=p.av.all gb
def Cs(p:cr):Int×Unit->Nat:=fun(i,_)=>p.av.length-i.toNat
def aiR:AX XW:=fun p=>bW [(4,aU [iI 18] (fun _=>Dd p) (Cs p))]
def ahC:HH:=hF XW func167 [Yu,QH] aiR fun(p:cr) hp hb=>by
 have aS:=B5 (x:=p) (hb _ m0)
 have zV:=aS.1
 have zW:=aS.2
 clear hp hb
 apply vE (let x0:=(p.av.length:Int);bif !bq p.Kind then Lb false (fR p) else bif decide (x0>5) then Lb false (fR p) else Dd p (0,())/\∀(y:Int×PUnit),let q0:=(wrap i64 (y.1+1),());Dd p y->bif decide (y.1<x0) then 0<=y.1/\y.1.toNat<p.av.length/\bif !gb (p.av.getD y.1.toNat mG) then Lb false (fR p) else Dd p q0/\Cs p q0<Cs p y else Lb true (fR p))
 dsimp only
 refine ae (fun h=>bD ?_) (fun h=>ae (fun h'=>bD ?_) (fun h'=> ?_))
 ·simp only[fR];simp at h;simp[h]
 ·have h':=yT h';simp only[fR];rw[decide_eq_false (show¬p.av.length<=5 by omega)];simp
 have h':=yF h'
 refine⟨⟨by omega,by omega,by omega,by simpa using h,rfl⟩,?_⟩
 rintro⟨i,⟨⟩⟩ ⟨h1,h2,h3,h4,hR⟩
 simp only
 refine ae ?_ ?_<;>intro hc
 ·have hc:=yT hc
  rw[en _ _ mG h1 (by omega)] at hR
  rw[wi]
  refine⟨by omega,by omega,ae (fun h=>bD ?_) (fun h=>⟨⟨by omega,by omega,h3,h4,?_⟩,?_⟩)⟩
  ·simp only[fR,<-hR];simp at h;simp[h]
  ·rw[<-hR];simp at h;simp[h]
  ·simp only[Cs];omega
 ·have hc:=yF hc
  rw[cy _ (by omega)] at hR
  refine nv ?_
  simp only[fR,<-hR,h4,decide_eq_true h3];rfl
def afY:=cj (α:=cN) (q1 (qA .gH)) [.ro] (fun _=>[]) (fun a=>⟨[dO (fC a)],[],[]⟩)
def Yy:HH:=hF afY func168 [Yu] a0 fun(a:cN) hp hb=>by
 have aS:=tf (x:=a) (hb _ m0)
 have rj:=aS.1
 have rM:=aS.2
 clear hp hb
 apply vE (bif a.K !=3 then Lb (gb a) (fC a) else Lb false (fC a))
 simp only[fC]
 repeat' (refine ae (fun h=> ?_) (fun h=> ?_))
 all_goals (refine ck ?_;grind)
def afn:=cj (α:=cN) (q1 (qA .gH)) [.ro] (fun _=>[]) (fun a=>⟨[dO (fC a)],[],[]⟩)
def agM:HH:=hF afn func238 [TP] a0 fun(a:cN) hp hb=>by
 have aS:=tf (x:=a) (hb _ m0)
 have rj:=aS.1
 have rM:=aS.2
 clear hp hb
 apply vE (bif gb a then Lb (a.K !=3) (fC a) else Lb false (fC a))
 simp only[fC]
 repeat' (refine ae (fun h=> ?_) (fun h=> ?_))
 all_goals (refine ck ?_;grind)
def afN:=cj (α:=dB) (q1 (qA .bT)) [.ro] (fun _=>[]) (fun c=>⟨[dO (jw c)],[],[]⟩)
def ahe:HH:=hF afN func198 [tF,TP] a0 fun(c:dB) hp hb=>by
 have aS:=Fj (x:=c) (hb _ m0)
 have K6:=aS.1
 have EH:=aS.2.1
 have K5:=aS.2.2.1
 have EG:=aS.2.2.2
 clear hp hb
 apply vE (let q0:=Lb false (jw c);bif decide (1<=c.Op/\c.Op<=3) then bif gb c.L then bif gb c.R then bif c.L.K !=3 then Lb (c.R.K !=3) (jw c) else q0 else q0 else q0 else q0)
 dsimp only
 simp only[jw,fC]
 repeat' (refine ae (fun h=> ?_) (fun h=> ?_))
 all_goals (refine ck ?_;grind)
def agf:=cj (α:=dB) (q1 (qA .bT)) [.ro] (fun _=>[]) (fun c=>⟨[dO (jw c)],[],[]⟩)
def ah6:HH:=hF agf func124 [FH,Yy] a0 fun(c:dB) hp hb=>by
 have aS:=Fj (x:=c) (hb _ m0)
 have K6:=aS.1
 have EH:=aS.2.1
 have K5:=aS.2.2.1
 have EG:=aS.2.2.2
 clear hp hb
 apply vE (bif decide (1<=c.Op/\c.Op<=3) then bif fC c.L then Lb (fC c.R) (jw c) else Lb false (jw c) else Lb false (jw c))
 simp only[jw]
 repeat' (refine ae (fun h=> ?_) (fun h=> ?_))
 all_goals (refine ck ?_;grind)
def afr:=cj (α:=cn) (q1 (qA .bG)) [.ro] (fun _=>[]) (fun e=>⟨[dO (fO e)],[],[]⟩)
def agT:HH:=hF afr func230 [agM] a0 fun(e:cn) hp hb=>by
 have aS:=Fh (x:=e) (hb _ m0)
 have Oj:=aS.1
 have K3:=aS.2.1
 have EF:=aS.2.2.1
 have K0:=aS.2.2.2.1
 have ED:=aS.2.2.2.2
 clear hp hb
 apply vE (let x0:=ByteArray.toList e.Op==ByteArray.toList {data:= #[(43:UInt8)]:BA};let q0:=bif fC e.L then Lb (fC e.R) (fO e) else Lb false (fO e);bif ByteArray.toList e.Op==ByteArray.toList {data:= #[]:BA} then bif fC e.L then Lb (e.R.K==0&&(ByteArray.toList e.R.S==ByteArray.toList {data:= #[]:BA}&&(e.R.V.K==0&&(e.R.V.N==0&&(ByteArray.toList e.R.V.S==ByteArray.toList {data:= #[]:BA}&&true))&&true))) (fO e) else Lb false (fO e) else bif x0 then bif x0 then q0 else Lb false (fO e) else bif ByteArray.toList e.Op==ByteArray.toList {data:= #[(45:UInt8)]:BA} then q0 else Lb false (fO e))
 dsimp only
 have e:∀s:BA,(ByteArray.toList s==ByteArray.toList {data:= #[]})=decide (s=aj):=fun s=>aM _ _
 have ea:∀a:cN,(a.K==0&&(ByteArray.toList a.S==ByteArray.toList {data:= #[]}&&(a.V.K==0&&(a.V.N==0&&(ByteArray.toList a.V.S==ByteArray.toList {data:= #[]}&&true))&&true)))=decide (a=mG):=fun a=>LV a mG
 have e1:∀s:BA,(ByteArray.toList s==ByteArray.toList {data:= #[43]})=decide (s=Fl):=fun s=>aM _ _
 have e2:∀s:BA,(ByteArray.toList s==ByteArray.toList {data:= #[45]})=decide (s=xd):=fun s=>aM _ _
 simp only[ea]
 simp only[e,e1,e2,fO]
 repeat' (refine ae (fun h=> ?_) (fun h=> ?_))
 all_goals (refine ck ?_;grind)
def afJ:=cj (α:=cn) (q1 (qA .bG)) [.ro] (fun _=>[]) (fun e=>⟨[dO (fO e)],[],[]⟩)
def ahb:HH:=hF afJ func203 [Yy] a0 fun(e:cn) hp hb=>by
 have aS:=Fh (x:=e) (hb _ m0)
 have Oj:=aS.1
 have K3:=aS.2.1
 have EF:=aS.2.2.1
 have K0:=aS.2.2.2.1
 have ED:=aS.2.2.2.2
 clear hp hb
 apply vE (let x0:=ByteArray.toList e.Op==ByteArray.toList {data:= #[(43:UInt8)]:BA};let q0:=bif fC e.L then Lb (fC e.R) (fO e) else Lb false (fO e);bif ByteArray.toList e.Op==ByteArray.toList {data:= #[]:BA} then bif fC e.L then Lb (e.R.K==0&&(ByteArray.toList e.R.S==ByteArray.toList {data:= #[]:BA}&&(e.R.V.K==0&&(e.R.V.N==0&&(ByteArray.toList e.R.V.S==ByteArray.toList {data:= #[]:BA}&&true))&&true))) (fO e) else Lb false (fO e) else bif x0 then bif x0 then q0 else Lb false (fO e) else bif ByteArray.toList e.Op==ByteArray.toList {data:= #[(45:UInt8)]:BA} then q0 else Lb false (fO e))
 dsimp only
 have e:∀s:BA,(ByteArray.toList s==ByteArray.toList {data:= #[]})=decide (s=aj):=fun s=>aM _ _
 have ea:∀a:cN,(a.K==0&&(ByteArray.toList a.S==ByteArray.toList {data:= #[]}&&(a.V.K==0&&(a.V.N==0&&(ByteArray.toList a.V.S==ByteArray.toList {data:= #[]}&&true))&&true)))=decide (a=mG):=fun a=>LV a mG
 have e1:∀s:BA,(ByteArray.toList s==ByteArray.toList {data:= #[43]})=decide (s=Fl):=fun s=>aM _ _
 have e2:∀s:BA,(ByteArray.toList s==ByteArray.toList {data:= #[45]})=decide (s=xd):=fun s=>aM _ _
 simp only[ea]
 simp only[e,e1,e2,fO]
 repeat' (refine ae (fun h=> ?_) (fun h=> ?_))
 all_goals (refine ck ?_;grind)
def Xy:=cj (α:=List cn) (q1 (qL .bG)) [.ro] (fun _=>[]) (fun es=>⟨[dO (e7 es)],[],[]⟩)
def C1(es:List cn):Int×Unit->Prop:=fun(i,_)=>0<=i/\i<=es.length/\(es.drop i.toNat).all fO=es.all fO
def Ce(es:List cn):Int×Unit->Nat:=fun(i,_)=>es.length-i.toNat
def ait:AX Xy:=fun es=>bW [(2,aU [iI 3] (fun _=>C1 es) (Ce es))]
def ag3:HH:=hF Xy func220 [agT] ait fun(es:List cn) hp hb=>by
 have adR:L9 es.length:=iv (hb _ m0)
 clear hp hb
 apply vE (let x0:=(es.length:Int);C1 es (0,())/\∀(y:Int×PUnit),let q0:=(wrap i64 (y.1+1),());C1 es y->bif decide (y.1<x0) then 0<=y.1/\y.1.toNat<es.length/\bif !fO (es.getD y.1.toNat ff) then Lb false (e7 es) else C1 es q0/\Ce es q0<Ce es y else Lb (decide (x0<=5)) (e7 es))
 dsimp only
 refine⟨⟨by omega,by omega,rfl⟩,?_⟩
 rintro⟨i,⟨⟩⟩ ⟨h1,h2,hR⟩
 simp only
 refine ae ?_ ?_<;>intro hc
 ·have hc:=yT hc
  rw[en _ _ ff h1 (by omega)] at hR
  rw[wi]
  refine⟨by omega,by omega,ae (fun h=>bD ?_) (fun h=>⟨⟨by omega,by omega,?_⟩,?_⟩)⟩
  ·simp only[e7,<-hR];simp at h;simp[h]
  ·rw[<-hR];simp at h;simp[h]
  ·simp only[Ce];omega
 ·have hc:=yF hc
  rw[cy _ (by omega)] at hR
  refine ck ?_
  simp only[e7,<-hR];simp;omega
def XV:=cj (α:=eK) (q1 (qA .dG)) [.ro] (fun _=>[]) (fun a=>⟨[dO (bq a.Name&&e7 a.av)],[],[]⟩)
def Dc(a:eK):Int×Unit->Prop:=fun(i,_)=>0<=i/\i<=a.av.length/\a.av.length<=5/\bq a.Name=true/\(a.av.drop i.toNat).all fO=a.av.all fO
def Cr(a:eK):Int×Unit->Nat:=fun(i,_)=>a.av.length-i.toNat
def aiQ:AX XV:=fun a=>bW [(4,aU [iI 18] (fun _=>Dc a) (Cr a))]
def ahB:HH:=hF XV func169 [ahb,QH] aiQ fun(a:eK) hp hb=>by
 have aS:=B6 (x:=a) (hb _ m0)
 have rN:=aS.1
 have zY:=aS.2.1
 have zX:=aS.2.2
 clear hp hb
 apply vE (let x0:=(a.av.length:Int);let q0:=bq a.Name&&e7 a.av;bif !bq a.Name then Lb false q0 else bif decide (x0>5) then Lb false q0 else Dc a (0,())/\∀(y:Int×PUnit),let q1:=(wrap i64 (y.1+1),());Dc a y->bif decide (y.1<x0) then 0<=y.1/\y.1.toNat<a.av.length/\bif !fO (a.av.getD y.1.toNat ff) then Lb false q0 else Dc a q1/\Cr a q1<Cr a y else Lb true q0)
 dsimp only
 refine ae (fun h=>bD ?_) (fun h=>ae (fun h'=>bD ?_) (fun h'=> ?_))
 ·simp at h;simp[h]
 ·have h':=yT h';simp only[e7];rw[decide_eq_false (show¬a.av.length<=5 by omega)];simp
 have h':=yF h'
 refine⟨⟨by omega,by omega,by omega,by simpa using h,rfl⟩,?_⟩
 rintro⟨i,⟨⟩⟩ ⟨h1,h2,h3,h4,hR⟩
 simp only
 refine ae ?_ ?_<;>intro hc
 ·have hc:=yT hc
  rw[en _ _ ff h1 (by omega)] at hR
  rw[wi]
  refine⟨by omega,by omega,ae (fun h=>bD ?_) (fun h=>⟨⟨by omega,by omega,h3,h4,?_⟩,?_⟩)⟩
  ·simp only[e7,<-hR];simp at h;simp[h]
  ·rw[<-hR];simp at h;simp[h]
  ·simp only[Cr];omega
 ·have hc:=yF hc
  rw[cy _ (by omega)] at hR
  refine nv ?_
  simp only[e7,<-hR,h4,decide_eq_true h3];rfl
def afL:=cj (α:=eK) (q1 (qA .dG)) [.ro] (fun _=>[]) (fun a=>⟨[dO (dl a)],[],[]⟩)
def ahd:HH:=hF afL func200 [tF,L8,ag3] a0 fun(a:eK) hp hb=>by
 have aS:=B6 (x:=a) (hb _ m0)
 have rN:=aS.1
 have zY:=aS.2.1
 have zX:=aS.2.2
 clear hp hb
 apply vE (let x0:=ByteArray.toList a.aR==ByteArray.toList {data:= #[]:BA};let x1:=a.Kind==5;let x2:=a.N==0;let q0:=bif a.Kind==1 then bif bq a.Name then bif e7 a.av then bif x2 then Lb x0 (dl a) else Lb false (dl a) else Lb false (dl a) else Lb false (dl a) else bif a.Kind==3 then bif bq a.Name then bif e7 a.av then bif x2 then bif x0 then Lb true (dl a) else Lb (bq a.aR) (dl a) else Lb false (dl a) else Lb false (dl a) else Lb false (dl a) else bif a.Kind==4 then bif bq a.Name then bif e7 a.av then bif decide (0<=a.N/\a.N<=100000) then Lb x0 (dl a) else Lb false (dl a) else Lb false (dl a) else Lb false (dl a) else bif a.Kind==2 then Lb false (dl a) else bif x1 then bif x1 then Lb false (dl a) else Lb false (dl a) else bif a.Kind==6 then Lb false (dl a) else Lb false (dl a);let q1:=Lb false (dl a);bif ByteArray.toList a.Name==ByteArray.toList {data:= #[]:BA} then bif (a.av.length:Int)==0 then bif a.Kind==1 then bif bq a.Name then bif e7 a.av then bif x2 then Lb x0 (dl a) else q1 else q1 else q1 else bif a.Kind==3 then bif bq a.Name then bif e7 a.av then bif x2 then bif x0 then Lb true (dl a) else Lb (bq a.aR) (dl a) else q1 else q1 else q1 else bif a.Kind==4 then bif bq a.Name then bif e7 a.av then bif decide (0<=a.N/\a.N<=100000) then Lb x0 (dl a) else q1 else q1 else q1 else bif a.Kind==2 then bif x0 then Lb (decide (0<=a.N/\a.N<=7)) (dl a) else q1 else bif x1 then bif x1 then bif x0 then Lb x2 (dl a) else q1 else q1 else bif a.Kind==6 then bif x0 then Lb x2 (dl a) else q1 else q1 else q0 else q0)
 dsimp only
 have e:∀s:BA,(ByteArray.toList s==ByteArray.toList {data:= #[]})=decide (s=aj):=fun s=>aM _ _
 simp only[e,dl,Bh,fB]
 repeat' (refine ae (fun h=> ?_) (fun h=> ?_))
 all_goals (refine ck ?_;grind)
def age:=cj (α:=eK) (q1 (qA .dG)) [.ro] (fun _=>[]) (fun a=>⟨[dO (dl a)],[],[]⟩)
def ah5:HH:=hF age func125 [FH,ahB,TX] a0 fun(a:eK) hp hb=>by
 have aS:=B6 (x:=a) (hb _ m0)
 have rN:=aS.1
 have zY:=aS.2.1
 have zX:=aS.2.2
 clear hp hb
 apply vE (let x0:=a.Kind==5;let x1:=bq a.Name&&e7 a.av;let q0:=Lb (ByteArray.toList a.aR==ByteArray.toList {data:= #[]:BA}) (dl a);let q1:=Lb false (dl a);let q2:=bif a.N==0 then q0 else q1;let q3:=bif x1 then bif decide (0<=a.N/\a.N<=100000) then q0 else q1 else q1;let q4:=bif x1 then bif a.N==0 then Lb (fB a.aR) (dl a) else q1 else q1;let q5:=bif (a.av.length:Int)==0 then q2 else q1;bif ByteArray.toList a.Name==ByteArray.toList {data:= #[]:BA} then bif a.Kind==1 then bif x1 then q2 else q1 else bif a.Kind==2 then bif (a.av.length:Int)==0 then bif decide (0<=a.N/\a.N<=7) then q0 else q1 else q1 else bif a.Kind==3 then q4 else bif a.Kind==4 then q3 else bif x0 then bif x0 then q5 else q1 else bif a.Kind==6 then q5 else q1 else bif a.Kind==1 then bif x1 then q2 else q1 else bif a.Kind==2 then q1 else bif a.Kind==3 then q4 else bif a.Kind==4 then q3 else bif x0 then bif x0 then q1 else q1 else bif a.Kind==6 then q1 else q1)
 dsimp only
 have e:∀s:BA,(ByteArray.toList s==ByteArray.toList {data:= #[]})=decide (s=aj):=fun s=>aM _ _
 simp only[e,dl,Bh,fB]
 repeat' (refine ae (fun h=> ?_) (fun h=> ?_))
 all_goals (refine ck ?_;grind)
def mN(l:List BA)(s:BA):Bool:=l.any fun t=>decide (t=s)
theorem pL{l:List BA}{s:BA}:mN l s=true↔s∈l:=by
 simp only[mN,vg,decide_eq_true_eq]
 exact⟨fun⟨t,h1,h2⟩=>h2▸h1,fun h=>⟨s,h,rfl⟩⟩
def fj(l:List BA)(s:BA):List BA:=if mN l s then l else l++[s]
def mW(l:List BA)(a:cN):List BA:=if a.K=1 then fj l a.S else l
def dM(l:List BA)(xs:List cN):List BA:=xs.foldl mW l
theorem Bk{l:List BA}{s t:BA}:t∈fj l s↔t∈l\/t=s:=by
 unfold fj;split
 ·rename_i h
  exact⟨.inl,fun h'=>h'.elim id (fun e=>e▸pL.1 h)⟩
 ·simp
theorem Bl(l:List BA)(s:BA):(fj l s).length<=l.length+1:=by
 unfold fj;split
 ·omega
 ·simp
theorem NF{l:List BA}{a:cN}{t:BA}:t∈mW l a↔t∈l\/(a.K=1/\t=a.S):=by
 unfold mW;split
 ·rename_i h;rw[Bk];simp[h]
 ·rename_i h;simp[h]
theorem NG(l:List BA)(a:cN):(mW l a).length<=l.length+1:=by
 unfold mW;split
 ·exact Bl _ _
 ·omega
theorem qQ{t:BA}:∀{xs:List cN}{l:List BA},t∈dM l xs↔t∈l\/∃a∈xs,a.K=1/\t=a.S
 |[],l=>by simp[dM]
 |a::xs,l=>by
  show t∈dM (mW l a) xs↔_
  rw[qQ,NF]
  simp only[kf,exists_eq_or_imp,or_assoc]
theorem jM:∀(xs:List cN)(l:List BA),(dM l xs).length<=l.length+xs.length
 |[],l=>tR _
 |a::xs,l=>by
  have h1:=jM xs (mW l a)
  have h2:=NG l a
  show(dM (mW l a) xs).length<=_
  simp only[fY];omega
theorem yU(l:List BA)(xs:List cN){i:Int}(h0:0<=i)(h:i<xs.length):dM l (xs.take (i+1).toNat)=mW (dM l (xs.take i.toNat)) (xs.getD i.toNat mG):=by
 rw[<-dH xs mG h0 h]
 simp only[dM,List.foldl_append,List.foldl_cons,List.foldl_nil]
def lj(l:List BA)(p:cr):List BA:=if p.Not then l else dM l p.av
def jl(ps:List cr):List BA:=ps.foldl lj []
theorem nF{α β:Type}(f:β->α->β)(b:β)(l:List α)(z:α){i:Int}(h0:0<=i)(h:i<l.length):(l.take (i+1).toNat).foldl f b=f ((l.take i.toNat).foldl f b) (l.getD i.toNat z):=by
 rw[<-dH l z h0 h]
 simp only[List.foldl_append,List.foldl_cons,List.foldl_nil]
def d_(ps:List cr):Nat:=(ps.map fun p=>p.av.length).sum
def qy(ps:List cr)(t:BA):Prop:=∃p∈ps,p.Not=false/\∃a∈p.av,a.K=1/\t=a.S
theorem MS{l:List BA}{p:cr}{t:BA}:t∈lj l p↔t∈l\/(p.Not=false/\∃a∈p.av,a.K=1/\t=a.S):=by
 unfold lj
 cases h:p.Not
 ·simp only[xt,if_false];rw[qQ];simp
 ·simp
theorem xM{t:BA}:∀{ps:List cr}{l:List BA},t∈ps.foldl lj l↔t∈l\/qy ps t
 |[],l=>by simp[qy]
 |p::ps,l=>by
  show t∈ps.foldl lj (lj l p)↔_
  rw[xM,MS]
  simp only[qy,kf,exists_eq_or_imp,or_assoc]
theorem KA{ps:List cr}{t:BA}:t∈jl ps↔qy ps t:=by
 unfold jl;rw[xM];simp
theorem xN:∀(ps:List cr)(l:List BA),(ps.foldl lj l).length<=l.length+d_ ps
 |[],l=>tR _
 |p::ps,l=>by
  have h1:=xN ps (lj l p)
  have h2:(lj l p).length<=l.length+p.av.length:=by
   unfold lj;split
   ·omega
   ·exact jM _ _
  show(ps.foldl lj (lj l p)).length<=_
  simp only[d_,wb,Mr] at h1⊢;omega
def jm(l:List BA)(p:cr):List BA:=if p.Not then l else(dM [] p.av).foldl fj l
def cV(ps:List cr):List BA:=ps.foldl jm []
theorem yi{t:BA}:∀{xs l:List BA},t∈xs.foldl fj l↔t∈l\/t∈xs
 |[],l=>by simp
 |a::xs,l=>by
  show t∈xs.foldl fj (fj l a)↔_
  rw[yi,Bk,kf,or_assoc]
theorem sZ:∀(xs l:List BA),(xs.foldl fj l).length<=l.length+xs.length
 |[],l=>tR _
 |a::xs,l=>by
  have h1:=sZ xs (fj l a)
  have h2:=Bl l a
  show(xs.foldl fj (fj l a)).length<=_
  simp only[fY];omega
theorem KB{l:List BA}{p:cr}{t:BA}:t∈jm l p↔t∈l\/(p.Not=false/\∃a∈p.av,a.K=1/\t=a.S):=by
 unfold jm
 cases h:p.Not
 ·simp only[xt,if_false];rw[yi,qQ];simp
 ·simp
theorem wv{t:BA}:∀{ps:List cr}{l:List BA},t∈ps.foldl jm l↔t∈l\/qy ps t
 |[],l=>by simp[qy]
 |p::ps,l=>by
  show t∈ps.foldl jm (jm l p)↔_
  rw[wv,KB]
  simp only[qy,kf,exists_eq_or_imp,or_assoc]
theorem xO{ps:List cr}{t:BA}:t∈cV ps↔qy ps t:=by
 unfold cV;rw[wv];simp
theorem ww:∀(ps:List cr)(l:List BA),(ps.foldl jm l).length<=l.length+d_ ps
 |[],l=>tR _
 |p::ps,l=>by
  have h1:=ww ps (jm l p)
  have h2:(jm l p).length<=l.length+p.av.length:=by
   unfold jm;split
   ·omega
   ·have g1:=sZ (dM [] p.av) l
    have g2:=jM p.av []
    simp only[fG] at g2;omega
  show(ps.foldl jm (jm l p)).length<=_
  simp only[d_,wb,Mr] at h1⊢;omega
theorem HO(ps:List cr)(n:Nat):d_ (ps.take n)<=d_ ps:=by
 have h:=congrArg (fun q=>(q.map fun p:cr=>p.av.length).sum) (UB n ps)
 simp only[Mp,zet] at h
 simp only[d_];omega
theorem Eb(ps:List cr){i:Int}(h0:0<=i)(h:i<ps.length):d_ (ps.take i.toNat)+(ps.getD i.toNat cD).av.length<=d_ ps:=by
 have h1:=HO ps (i+1).toNat
 rw[<-dH ps cD h0 h] at h1
 simp only[d_,Mp,zet,wb,List.map_nil,Mr,List.sum_nil] at h1⊢
 omega
def cR(ps:List cr):Nat:=(ps.filter fun p=> !p.Not).length
theorem GU{l:List BA}{s:BA}{i:Int}(h0:0<=i)(hl:i<l.length)(h:∀j:Nat,(j:Int)<i->¬l.getD j aj=s)(hi:¬l.getD i.toNat aj=s):∀j:Nat,(j:Int)<i+1->¬l.getD j aj=s:=by
 intro j hj
 by_cases Xa:(j:Int)<i
 ·exact h j Xa
 ·have:j=i.toNat:=by omega
  subst this;exact hi
theorem V3{l:List BA}{s:BA}(h:∀j:Nat,j<l.length->¬l.getD j aj=s):mN l s=false:=by
 rw[<-wl,pL]
 intro hm
 obtain⟨j,hj,rfl⟩:=sn hm
 exact h j hj (by rw[eX,fH hj];rfl)
theorem Lh{l:List BA}{s:BA}{j:Nat}(hj:j<l.length)(h:l.getD j aj=s):mN l s=true:=by
 rw[pL,<-h,eX,fH hj]
 exact FJ hj
theorem GD(ps:List cr){i:Int}(h0:0<=i)(h:i<ps.length):cR (ps.take (i+1).toNat)=cR (ps.take i.toNat)+(if(!(ps.getD i.toNat cD).Not)=true then 1 else 0):=by
 rw[<-dH ps cD h0 h]
 simp only[cR,List.filter_append,kI,List.filter_cons,List.filter_nil]
 split<;>simp
theorem N7(ps:List cr)(n:Nat):cR (ps.take n)<=n:=xo (Mq _ _) (by simp;omega)
def XF:=cj (α:=(List BA)×BA) (qC (qL .str) (q1 qS)) [.ro,.ro] (fun _=>[]) (fun(l,s)=>⟨[dO (mN l s)],[],[]⟩)
def C6(l:List BA)(s:BA):Int×Unit->Prop:=fun(i,_)=>0<=i/\i<=l.length/\∀j:Nat,(j:Int)<i->¬l.getD j aj=s
def Cj(l:List BA)(s:BA):Int×Unit->Nat:=fun(i,_)=>l.length-i.toNat
def aiA:AX XF:=fun(l,s)=>bW [(2,aU [iI 5] (fun _=>C6 l s) (Cj l s))]
def TU:HH:=hF XF func196 [] aiA fun x hp hb=>by
 obtain⟨l,s⟩:=x
 have fF:L9 l.length:=iv (hb _ m0)
 have Bx:=Bg (s:=s) (hb _ m1)
 clear hp hb
 apply vE (C6 l s (0,())/\∀(y:Int×PUnit),let q0:=(wrap i64 (y.1+1),());C6 l s y->bif decide (y.1<(l.length:Int)) then 0<=y.1/\y.1.toNat<l.length/\bif ByteArray.toList (l.getD y.1.toNat aj)==ByteArray.toList s then Lb true (mN l s) else C6 l s q0/\Cj l s q0<Cj l s y else Lb false (mN l s))
 dsimp only
 refine⟨⟨by omega,by omega,by intro j hj;omega⟩,?_⟩
 rintro⟨i,⟨⟩⟩ ⟨h1,h2,hR⟩
 simp only[aM]
 refine ae ?_ ?_<;>intro hc
 ·have hc:=yT hc
  rw[wi]
  refine⟨by omega,by omega,ae (fun h=>nv (Lh (j:=i.toNat) (by omega) (yT h))) (fun h=>⟨⟨by omega,by omega,GU h1 hc hR (yF h)⟩,by simp only[Cj];omega⟩)⟩
 ·have hc:=yF hc
  exact bD (V3 fun j hj=>hR j (by omega))
def XT:=cj (α:=(List BA)×BA) (qC (qL .str) (q1 qS)) [.ro,.ro] (fun _=>[]) (fun(l,s)=>⟨[dI (j7 l.length (fun j=>decide (l.getD j aj=s)))],[],[]⟩)
def Db(l:List BA)(s:BA):Int×Unit->Prop:=fun(i,_)=>0<=i/\i<=l.length/\∀j:Nat,(j:Int)<i->¬l.getD j aj=s
def Cq(l:List BA)(s:BA):Int×Unit->Nat:=fun(i,_)=>l.length-i.toNat
def aiO:AX XT:=fun(l,s)=>bW [(2,aU [iI 8] (fun _=>Db l s) (Cq l s))]
def ahA:HH:=hF XT func171 [] aiO fun x hp hb=>by
 obtain⟨l,s⟩:=x
 have fF:L9 l.length:=iv (hb _ m0)
 have Bx:=Bg (s:=s) (hb _ m1)
 clear hp hb
 apply vE (Db l s (0,())/\∀(y:Int×PUnit),let q0:=(wrap i64 (y.1+1),());Db l s y->bif decide (y.1<(l.length:Int)) then 0<=y.1/\y.1.toNat<l.length/\bif ByteArray.toList s==ByteArray.toList (l.getD y.1.toNat aj) then Li y.1 (j7 (l.length) fun(j:Nat)=>decide (l.getD j aj=s)) else Db l s q0/\Cq l s q0<Cq l s y else Li (-1) (j7 (l.length) fun(j:Nat)=>decide (l.getD j aj=s)))
 dsimp only
 refine⟨⟨by omega,by omega,by intro j hj;omega⟩,?_⟩
 rintro⟨i,⟨⟩⟩ ⟨h1,h2,hR⟩
 simp only[aM]
 refine ae ?_ ?_<;>intro hc
 ·have hc:=yT hc
  rw[wi]
  refine⟨by omega,by omega,ae (fun h=>oT ?_) (fun h=>⟨⟨by omega,by omega,GU h1 hc hR (fun e=>yF h e.symm)⟩,by simp only[Cq];omega⟩)⟩
  rw[fL (i:=i.toNat) (by omega) (decide_eq_true (yT h).symm) (fun j hj=>decide_eq_false (hR j (by omega)))]
  omega
 ·have hc:=yF hc
  exact oT (jx (fun j hj=>decide_eq_false (hR j (by omega)))).symm
def agd:=cj (α:=(List BA)×BA) (qC (qL .str) (q1 qS)) [.ro,.ro] (fun _=>[]) (fun(l,s)=>⟨[dO (mN l s)],[],[]⟩)
def YI:HH:=hF agd func128 [ahA] a0 fun x hp hb=>by
 obtain⟨l,s⟩:=x
 have fF:L9 l.length:=iv (hb _ m0)
 have Bx:=Bg (s:=s) (hb _ m1)
 clear hp hb
 apply vE (let x0:=j7 (l.length) fun(j:Nat)=>decide (l.getD j aj=s);Lb (decide (x0≥0)) (mN l s))
 dsimp only
 refine ck ?_
 show decide (0<=j7 l.length (fun j=>decide (l.getD j aj=s)))=_
 rw[BN]
 by_cases h:mN l s=true
 ·rw[h]
  obtain⟨j,hj,hs⟩:=sn (pL.1 h)
  exact iJ hj (decide_eq_true (by rw[eX,fH hj];exact hs))
 ·rw[wl] at h
  rw[h]
  exact gz fun j hj=>decide_eq_false fun e=>absurd (Lh hj e) (by rw[h];decide)
def Yj:=cj (α:=aY) (q1 (qA .bz)) [.ro] (fun _=>[]) (fun r=>⟨[dI (cR r.aD:Int)],[],[]⟩)
def zo(r:aY):Int×Int×T1×Unit->Prop:=fun(n,i,b,_)=>b=(r.Name,r.jq,r.aD,r.aO,r.bH,())/\0<=i/\i<=r.aD.length/\n=cR (r.aD.take i.toNat)
def tA(r:aY):Int×Int×T1×Unit->Nat:=fun(n,i,b,_)=>r.aD.length-i.toNat
def ajf:AX Yj:=fun r=>bW [(3,aU [iI 3,iI 4,.box 1 (1,1024) [.lit .str,.lit (.int .i64),.shr .dE,.shr .bT,.shr .dG]] (fun _=>zo r) (tA r))]
def Mb:HH:=hF Yj func113 [] ajf fun(r:aY) hp hb=>by
 have aS:=jE (x:=r) (hb _ m0)
 have iF:=aS.1
 have iE:=aS.2.1
 have gT:=aS.2.2.1
 have iG:=aS.2.2.2
 clear hp hb
 apply vE (zo r (0,0,(r.Name,r.jq,r.aD,r.aO,r.bH,()),())/\∀(y:Int×Int×YT×PUnit),let x1:=y.2.2.1.2.2.1.length;let x2:=y.2.1.toNat;let x0:=(↑x1:Int);let q0:=(y.2.2.1.1,y.2.2.1.2.1,y.2.2.1.2.2.1,y.2.2.1.2.2.2.1,y.2.2.1.2.2.2.2.1,());let q1:=(wrap i64 (y.1+1),wrap i64 (y.2.1+1),q0,());let q2:=(y.1,wrap i64 (y.2.1+1),q0,());zo r y->bif decide (y.2.1<x0) then 0<=y.2.1/\x2<x1/\bif !(y.2.2.1.2.2.1.getD x2 cD).Not then zo r q1/\tA r q1<tA r y else zo r q2/\tA r q2<tA r y else Li y.1 (↑(cR r.aD):Int))
 dsimp only
 refine⟨⟨rfl,by omega,by omega,rfl⟩,?_⟩
 rintro⟨n,i,⟨b1,b2,b3,b4,b5,⟨⟩⟩,⟨⟩⟩ ⟨rP,h1,h2,rfl⟩
 cases rP
 simp only
 refine ae ?_ ?_<;>intro hc
 ·have hc:=yT hc
  have hs:=GD r.aD h1 hc
  have hle:cR (r.aD.take i.toNat)<=i.toNat:=N7 _ _
  rw[wi (n:=i+1),wrap_i64 (n:=(cR (r.aD.take i.toNat):Int)+1) (by omega) (by omega)]
  have hm:i.toNat<r.aD.length:=by omega
  refine⟨by omega,by omega,ae (fun h=>⟨⟨rfl,by omega,by omega,?_⟩,by simp only[tA];omega⟩) (fun h=>⟨⟨rfl,by omega,by omega,?_⟩,by simp only[tA];omega⟩)⟩
  ·rw[hs,if_pos h];omega
  ·rw[hs,if_neg (by rw[h];decide)];omega
 ·have hc:=yF hc
  rw[cM r.aD (by omega)]
  exact bf _
def aeM:=cj (α:=aY) (q1 (qA .bz)) [.ro] (fun _=>[]) (fun r=>⟨[dI (cR r.aD:Int)],[],[]⟩)
def Fy(r:aY):Int×Int×Unit->Prop:=fun(n,i,_)=>0<=i/\i<=r.aD.length/\n=cR (r.aD.take i.toNat)
def xi(r:aY):Int×Int×Unit->Nat:=fun(n,i,_)=>r.aD.length-i.toNat
def aoF:AX aeM:=fun r=>bW [(3,aU [iI 3,iI 9] (fun _=>Fy r) (xi r))]
def abm:HH:=hF aeM func85 [] aoF fun(r:aY) hp hb=>by
 have aS:=jE (x:=r) (hb _ m0)
 have iF:=aS.1
 have iE:=aS.2.1
 have gT:=aS.2.2.1
 have iG:=aS.2.2.2
 clear hp hb
 apply vE (Fy r (0,0,())/\∀(y:Int×Int×PUnit),let x0:=y.2.1.toNat;let q0:=(wrap i64 (y.1+1),wrap i64 (y.2.1+1),());let q1:=(y.1,wrap i64 (y.2.1+1),());Fy r y->bif decide (y.2.1<(r.aD.length:Int)) then 0<=y.2.1/\x0<r.aD.length/\bif !(r.aD.getD x0 cD).Not then Fy r q0/\xi r q0<xi r y else Fy r q1/\xi r q1<xi r y else Li y.1 (↑(cR r.aD):Int))
 dsimp only
 refine⟨⟨by omega,by omega,rfl⟩,?_⟩
 rintro⟨n,i,⟨⟩⟩ ⟨h1,h2,rfl⟩
 simp only
 refine ae ?_ ?_<;>intro hc
 ·have hc:=yT hc
  have hs:=GD r.aD h1 hc
  have hle:cR (r.aD.take i.toNat)<=i.toNat:=N7 _ _
  rw[wi (n:=i+1),wrap_i64 (n:=(cR (r.aD.take i.toNat):Int)+1) (by omega) (by omega)]
  have hm:i.toNat<r.aD.length:=by omega
  refine⟨by omega,by omega,ae (fun h=>⟨⟨by omega,by omega,?_⟩,by simp only[xi];omega⟩) (fun h=>⟨⟨by omega,by omega,?_⟩,by simp only[xi];omega⟩)⟩
  ·rw[hs,if_pos h];omega
  ·rw[hs,if_neg (by rw[h];decide)];omega
 ·have hc:=yF hc
  rw[cM r.aD (by omega)]
  exact bf _
def XG:=cj (α:=cr) (q1 (qA .dE)) [.ro] (fun p=>[L4 p.av.length]) (fun p=>⟨[dL .str (dM [] p.av)],[],[]⟩)
def y9(p:cr):List BA×Int×O4×Unit->Prop:=fun(l,i,b,_)=>b=(p.Kind,p.av,p.Not,())/\0<=i/\i<=p.av.length/\l=dM [] (p.av.take i.toNat)
def qR(p:cr):List BA×Int×O4×Unit->Nat:=fun(l,i,b,_)=>p.av.length-i.toNat
def aiB:AX XG:=fun p=>bW [(3,aU [iO 3 .str,iI 4,.box 1 (1,1024) [.lit .str,.shr .gH,.lit .bool]] (fun _=>y9 p) (qR p))]
def ahg:HH:=hF XG func195 [TU] aiB fun(p:cr) hp hb=>by
 have aS:=B5 (x:=p) (hb _ m0)
 have zV:=aS.1
 have zW:=aS.2
 have bo:p.av.length<=4294967296:=hp _ m0
 clear hp hb
 apply vE (y9 p ([],0,(p.Kind,p.av,p.Not,()),())/\∀(y:List BA×Int×T18×PUnit),let x4:=y.2.2.1.2.1.length;let x5:=y.2.1.toNat;let x2:=y.2.2.1.2.1.getD x5 mG;let x3:=(↑x4:Int);let x1:=x2.S;let x0:=[x1];let q0:=(y.1,wrap i64 (y.2.1+1),(y.2.2.1.1,y.2.2.1.2.1,y.2.2.1.2.2.1,()),());let q1:=(y.1++x0,wrap i64 (y.2.1+1),(y.2.2.1.1,y.2.2.1.2.1,y.2.2.1.2.2.1,()),());let q2:=y9 p q0/\qR p q0<qR p y;y9 p y->bif decide (y.2.1<x3) then 0<=y.2.1/\x5<x4/\bif x2.K==1 then 0<=y.2.1/\x5<x4/\bif !mN y.1 x1 then 0<=y.2.1/\x5<x4/\L4 (y.1.length+x0.length)/\y9 p q1/\qR p q1<qR p y else q2 else q2 else Lf [VL .str y.1] [VL .str (dM [] p.av)])
 dsimp only
 refine⟨⟨rfl,by omega,by omega,rfl⟩,?_⟩
 rintro⟨l,i,⟨b1,b2,b3,⟨⟩⟩,⟨⟩⟩ ⟨rP,h1,h2,rfl⟩
 cases rP
 simp only
 refine ae ?_ ?_<;>intro hc
 ·have hc:=yT hc
  have hs:=yU [] p.av h1 hc
  have hl:=jM (p.av.take i.toNat) []
  have A8:(p.av.take i.toNat).length<=i.toNat:=by rw[oz];omega
  simp only[fG] at hl
  rw[wi]
  have hm:∀x:List BA,qR p (x,i+1,(p.Kind,p.av,p.Not,PUnit.unit),PUnit.unit)<qR p (dM [] (p.av.take i.toNat),i,(p.Kind,p.av,p.Not,PUnit.unit),PUnit.unit):=fun x=>by simp only[qR];omega
  refine⟨by omega,by omega,ae (fun h=>⟨by omega,by omega,ae (fun g=>⟨by omega,by omega,by simp;omega,⟨rfl,by omega,by omega,?_⟩,hm _⟩) (fun g=>⟨⟨rfl,by omega,by omega,?_⟩,hm _⟩)⟩) (fun h=>⟨⟨rfl,by omega,by omega,?_⟩,hm _⟩)⟩
  ·rw[hs,mW,if_pos (eq_of_beq h),fj,if_neg (by simpa using g)]
  ·rw[hs,mW,if_pos (eq_of_beq h),fj,if_pos (by simpa using g)]
  ·rw[hs,mW,if_neg (fun e=>by rw[e] at h;simp at h)]
 ·have hc:=yF hc
  rw[cM p.av (by omega)]
  exact bf _
def X4:=cj (α:=aY) (q1 (qA .bz)) [.ro] (fun r=>[L4 (d_ r.aD)]) (fun r=>⟨[dL .str (cV r.aD)],[],[]⟩)
def Dj(r:aY):List BA×Int×T1×Unit->Prop:=fun(l,i,b,_)=>b=(r.Name,r.jq,r.aD,r.aO,r.bH,())/\0<=i/\i<=r.aD.length/\l=cV (r.aD.take i.toNat)
def yZ(r:aY):List BA×Int×T1×Unit->Nat:=fun(l,i,b,_)=>r.aD.length-i.toNat
def zg(r:aY):List BA×Int×List BA×Int×T1×Unit->List BA×Int×List BA×Int×T1×Unit->Prop:=fun(l0,i0,v0,k0,b0,_) (l,i,v,k,b,_)=>b=(r.Name,r.jq,r.aD,r.aO,r.bH,())/\i=i0/\v=v0/\0<=k/\k<=v.length/\l=(v.take k.toNat).foldl fj l0/\(k=0\/(r.aD.getD i.toNat cD).Not=false)
def tv(r:aY):List BA×Int×List BA×Int×T1×Unit->Nat:=fun(l,i,v,k,b,_)=>v.length-k.toNat
def aiZ:AX X4:=fun r=>bW [(3,aU [iO 3 .str,iI 4,.box 1 (1,1024) [.lit .str,.lit (.int .i64),.shr .dE,.shr .bT,.shr .dG]] (fun _=>Dj r) (yZ r)),(7,aU [iO 3 .str,iI 4,iO 5 .str,iI 6,.box 1 (1,1024) [.lit .str,.lit (.int .i64),.shr .dE,.shr .bT,.shr .dG]] (zg r) (tv r))]
def YB:HH:=hF X4 func155 [ahg,TU] aiZ fun(r:aY) hp hb=>by
 have aS:=jE (x:=r) (hb _ m0)
 have iF:=aS.1
 have iE:=aS.2.1
 have gT:=aS.2.2.1
 have iG:=aS.2.2.2
 have bo:d_ r.aD<=4294967296:=hp _ m0
 clear hp hb
 apply vE (let q0:=BA×Int×List cr×List dB×List eK×PUnit;Dj r ([],0,(r.Name,r.jq,r.aD,r.aO,r.bH,()),())/\∀(y:List BA×Int×q0×PUnit),let x2:=y.2.2.1.2.2.1.length;let x3:=y.2.1.toNat;let x0:=(y.2.2.1.2.2.1.getD x3 cD).av;let x1:=(↑x2:Int);let q1:=(y.1,y.2.1,dM [] x0,0,(y.2.2.1.1,y.2.2.1.2.1,y.2.2.1.2.2.1,y.2.2.1.2.2.2.1,y.2.2.1.2.2.2.2.1,()),());Dj r y->bif decide (y.2.1<x1) then 0<=y.2.1/\x3<x2/\L4 x0.length/\zg r q1 q1/\∀(aL:List BA×Int×List BA×Int×q0×PUnit),let x6:=aL.2.2.2.1.toNat;let x8:=aL.2.2.1.length;let x9:=aL.2.1.toNat;let x5:=aL.2.2.1.getD x6 aj;let x7:=(↑x8:Int);let x4:=[x5];let q2:=(aL.2.2.2.2.1.1,aL.2.2.2.2.1.2.1,aL.2.2.2.2.1.2.2.1,aL.2.2.2.2.1.2.2.2.1,aL.2.2.2.2.1.2.2.2.2.1,());let q3:=(aL.1,wrap i64 (aL.2.1+1),q2,());let q4:=(aL.1++x4,aL.2.1,aL.2.2.1,wrap i64 (aL.2.2.2.1+1),q2,());let q5:=(aL.1,aL.2.1,aL.2.2.1,wrap i64 (aL.2.2.2.1+1),q2,());let q6:=Dj r q3/\yZ r q3<yZ r y;zg r q1 aL->bif decide (aL.2.2.2.1<x7) then 0<=aL.2.1/\x9<aL.2.2.2.2.1.2.2.1.length/\bif !(aL.2.2.2.2.1.2.2.1.getD x9 cD).Not then 0<=aL.2.2.2.1/\x6<x8/\x6<x8/\bif !mN aL.1 x5 then 0<=aL.2.2.2.1/\x6<x8/\x6<x8/\L4 (aL.1.length+x4.length)/\zg r q1 q4/\tv r q4<tv r aL else zg r q1 q5/\tv r q5<tv r aL else q6 else q6 else Lf [VL .str y.1] [VL .str (cV r.aD)])
 dsimp only
 refine⟨⟨rfl,by omega,by omega,rfl⟩,?_⟩
 rintro⟨l,i,⟨b1,b2,b3,b4,b5,⟨⟩⟩,⟨⟩⟩ ⟨rP,h1,h2,rfl⟩
 cases rP
 simp only
 refine ae ?_ ?_<;>intro hc
 ·have hc:=yT hc
  have hs:cV (r.aD.take (i+1).toNat)=jm (cV (r.aD.take i.toNat)) (r.aD.getD i.toNat cD):=nF jm [] r.aD cD h1 hc
  have ha:=Eb r.aD h1 hc
  have hl:=ww (r.aD.take i.toNat) []
  simp only[fG,vf] at hl
  have hv:=jM (r.aD.getD i.toNat cD).av []
  simp only[fG,vf] at hv
  refine⟨by omega,by omega,by omega,⟨rfl,rfl,rfl,by omega,by omega,rfl,.inl rfl⟩,?_⟩
  rintro⟨l',i',v,k,⟨b1,b2,b3,b4,b5,⟨⟩⟩,⟨⟩⟩ ⟨rP,rfl,rfl,g1,g2,rfl,g3⟩
  cases rP
  simp only
  have Gd:=sZ ((dM [] (r.aD.getD i'.toNat cD).av).take k.toNat) (cV (r.aD.take i'.toNat))
  have amv:((dM [] (r.aD.getD i'.toNat cD).av).take k.toNat).length<=k.toNat:=by rw[oz];omega
  have H_:(cV (r.aD.take i'.toNat)).length<=d_ (r.aD.take i'.toNat):=hl
  have qg:(dM [] (r.aD.getD i'.toNat cD).av).length<=(r.aD.getD i'.toNat cD).av.length:=hv
  refine ae ?_ ?_<;>intro hk
  ·have hk:=yT hk
   have hf:=nF fj (cV (r.aD.take i'.toNat)) (dM [] (r.aD.getD i'.toNat cD).av) aj g1 hk
   rw[wi (n:=k+1),wi (n:=i'+1)]
   refine⟨by omega,by omega,ae (fun hn=> ?_) (fun hn=> ?_)⟩
   ·have hn:(r.aD.getD i'.toNat cD).Not=false:=by simpa using hn
    have W_:k.toNat<(dM [] (r.aD.getD i'.toNat cD).av).length:=by omega
    refine⟨g1,W_,W_,ae (fun g=>⟨g1,W_,W_,by simp only[fY,fG];omega,⟨rfl,rfl,rfl,by omega,by omega,?_,.inr hn⟩,by simp only[tv];omega⟩) (fun g=>⟨⟨rfl,rfl,rfl,by omega,by omega,?_,.inr hn⟩,by simp only[tv];omega⟩)⟩
    ·rw[hf,fj,if_neg (by simpa using g)]
    ·rw[hf,fj,if_pos (by simpa using g)]
   ·have hn:(r.aD.getD i'.toNat cD).Not=true:=by simpa using hn
    have BS:k=0:=g3.resolve_right (by rw[hn];decide)
    subst BS
    refine⟨⟨rfl,by omega,by omega,?_⟩,by simp only[yZ];omega⟩
    rw[hs,jm,if_pos hn]
    rfl
  ·have hk:=yF hk
   rw[wi (n:=i'+1)]
   refine⟨⟨rfl,by omega,by omega,?_⟩,by simp only[yZ];omega⟩
   rw[hs,jm]
   by_cases hn:(r.aD.getD i'.toNat cD).Not=true
   ·have BS:k=0:=g3.resolve_right (by rw[hn];decide)
    subst BS
    rw[if_pos hn];rfl
   ·rw[if_neg hn,cM (dM [] (r.aD.getD i'.toNat cD).av) (by omega)]
 ·have hc:=yF hc
  rw[cM r.aD (by omega)]
  exact bf _
def afI:=cj (α:=(List BA)×BA) (qC (qL .str) (q1 qS)) [.mv,.ro] (fun(l,name)=>[l.length<=4294967295]) (fun(l,name)=>⟨[dL .str (fj l name)],[],[]⟩)
def aha:HH:=hF afI func204 [YI] a0 fun x hp hb=>by
 obtain⟨l,name⟩:=x
 have fF:L9 l.length:=iv (hb _ m0)
 have vx:=Bg (s:=name) (hb _ m1)
 have bo:l.length<=4294967295:=hp _ m0
 clear hp hb
 apply vE (bif mN l name then Lf [VL .str l] [VL .str (fj l name)] else l.length+List.length [name]<=4294967296/\Lf [VL .str (l++[name])] [VL .str (fj l name)])
 refine ae (fun h=> ?_) (fun h=>⟨by simp;omega,?_⟩)
 ·rw[fj,if_pos h];exact bf _
 ·rw[fj,if_neg (by rw[h];decide)];exact bf _
def XU:=cj (α:=(List BA)×(List cN)) (qC (qL .str) (q1 (qL .gH))) [.mv,.ro] (fun(l,args)=>[l.length+args.length<=4294967295]) (fun(l,args)=>⟨[dL .str (dM l args)],[],[]⟩)
def zc(l:List BA)(args:List cN):List BA×Int×Unit->Prop:=fun(v,i,_)=>0<=i/\i<=args.length/\v=dM l (args.take i.toNat)
def tr(l:List BA)(args:List cN):List BA×Int×Unit->Nat:=fun(v,i,_)=>args.length-i.toNat
def aiP:AX XU:=fun(l,args)=>bW [(2,aU [iO 0 .str,iI 9] (fun _=>zc l args) (tr l args))]
def Yx:HH:=hF XU func170 [aha] aiP fun x hp hb=>by
 obtain⟨l,args⟩:=x
 have fF:L9 l.length:=iv (hb _ m0)
 have ajs:L9 args.length:=iv (hb _ m1)
 have bo:l.length+args.length<=4294967295:=hp _ m0
 clear hp hb
 apply vE (zc l args (l,0,())/\∀(y:List BA×Int×PUnit),let x1:=y.2.1.toNat;let x0:=args.getD x1 mG;let q0:=(fj y.1 x0.S,wrap i64 (y.2.1+1),());let q1:=(y.1,wrap i64 (y.2.1+1),());zc l args y->bif decide (y.2.1<(args.length:Int)) then 0<=y.2.1/\x1<args.length/\bif x0.K==1 then y.1.length<=4294967295/\zc l args q0/\tr l args q0<tr l args y else zc l args q1/\tr l args q1<tr l args y else Lf [VL .str y.1] [VL .str (dM l args)])
 dsimp only
 refine⟨⟨by omega,by omega,rfl⟩,?_⟩
 rintro⟨v,i,⟨⟩⟩ ⟨h1,h2,rfl⟩
 simp only
 refine ae ?_ ?_<;>intro hc
 ·have hc:=yT hc
  have hs:=yU l args h1 hc
  have hl:=jM (args.take i.toNat) l
  have A8:(args.take i.toNat).length<=i.toNat:=by rw[oz];omega
  rw[wi]
  refine⟨by omega,by omega,ae (fun h=>⟨by omega,⟨by omega,by omega,?_⟩,by simp only[tr];omega⟩) (fun h=>⟨⟨by omega,by omega,?_⟩,by simp only[tr];omega⟩)⟩
  ·rw[hs,mW,if_pos (eq_of_beq h)]
  ·rw[hs,mW,if_neg (fun e=>by rw[e] at h;simp at h)]
 ·have hc:=yF hc
  rw[cM args (by omega)]
  exact bf _
def Ya:=cj (α:=aY) (q1 (qA .bz)) [.ro] (fun r=>[d_ r.aD<=4294967295]) (fun r=>⟨[dL .str (jl r.aD)],[],[]⟩)
def zm(r:aY):List BA×Int×Unit->Prop:=fun(v,i,_)=>0<=i/\i<=r.aD.length/\v=jl (r.aD.take i.toNat)
def tx(r:aY):List BA×Int×Unit->Nat:=fun(v,i,_)=>r.aD.length-i.toNat
def ai8:AX Ya:=fun r=>bW [(3,aU [iO 3 .str,iI 9] (fun _=>zm r) (tx r))]
def ah4:HH:=hF Ya func126 [Yx] ai8 fun(r:aY) hp hb=>by
 have aS:=jE (x:=r) (hb _ m0)
 have iF:=aS.1
 have iE:=aS.2.1
 have gT:=aS.2.2.1
 have iG:=aS.2.2.2
 have bo:d_ r.aD<=4294967295:=hp _ m0
 clear hp hb
 apply vE (zm r ([],0,())/\∀(y:List BA×Int×PUnit),let x2:=y.2.1.toNat;let x1:=r.aD.getD x2 cD;let x0:=x1.av;let q0:=(dM y.1 x0,wrap i64 (y.2.1+1),());let q1:=(y.1,wrap i64 (y.2.1+1),());zm r y->bif decide (y.2.1<(r.aD.length:Int)) then 0<=y.2.1/\x2<r.aD.length/\bif !x1.Not then y.1.length+x0.length<=4294967295/\zm r q0/\tx r q0<tx r y else zm r q1/\tx r q1<tx r y else Lf [VL .str y.1] [VL .str (jl r.aD)])
 dsimp only
 refine⟨⟨by omega,by omega,rfl⟩,?_⟩
 rintro⟨v,i,⟨⟩⟩ ⟨h1,h2,rfl⟩
 simp only
 refine ae ?_ ?_<;>intro hc
 ·have hc:=yT hc
  have hs:jl (r.aD.take (i+1).toNat)=lj (jl (r.aD.take i.toNat)) (r.aD.getD i.toNat cD):=nF lj [] r.aD cD h1 hc
  have ha:=Eb r.aD h1 hc
  have hl:=xN (r.aD.take i.toNat) []
  simp only[fG,vf] at hl
  have H_:(jl (r.aD.take i.toNat)).length<=d_ (r.aD.take i.toNat):=hl
  rw[wi]
  refine⟨by omega,by omega,ae (fun h=>⟨by omega,⟨by omega,by omega,?_⟩,by simp only[tx];omega⟩) (fun h=>⟨⟨by omega,by omega,?_⟩,by simp only[tx];omega⟩)⟩
  ·rw[hs,lj,if_neg (by simpa using h)]
  ·rw[hs,lj,if_pos (by simpa using h)]
 ·have hc:=yF hc
  rw[cM r.aD (by omega)]
  exact bf _
def jt(ps:List cr)(i:Nat):Bool:=(ps.getD i cD).Not
def uE(ps:List cr)(i:Nat):Bool:=fR (ps.getD i cD)&& !(decide (2<i)&& !jt ps i)&& !(decide (i=0)&&jt ps i)&& !(decide (0<i)&&jt ps (i-1)&& !jt ps i)
def mb(ps:List cr):Bool:=decide (1<=ps.length/\ps.length<=6)&&allI ps.length (uE ps)
def mc(ps:List cr)(i:Nat):Bool:=fR (ps.getD i cD)&&(jt ps i==decide (cR ps<=i))
def iq(ps:List cr):Bool:=decide (1<=ps.length/\ps.length<=6)&&decide (1<=cR ps/\cR ps<=3)&&allI ps.length (mc ps)
theorem gg{n:Nat}{p:Nat->Bool}:allI n p=true↔∀j,j<n->p j=true:=by simp[allI]
theorem rG(p:cr)(ps:List cr):cR (p::ps)=(if p.Not then 0 else 1)+cR ps:=by
 simp only[cR,List.filter_cons]
 cases p.Not<;>simp<;>omega
theorem KI:∀{ps:List cr},(∀i,i+1<ps.length->jt ps i=true->jt ps (i+1)=true)->∀i,i<ps.length->jt ps i=decide (cR ps<=i)
 |[],_,i,hi=>by simp at hi
 |p::ps,h,i,hi=>by
  have ih:=KI (ps:=ps) (fun j hj hn=>h (j+1) (by simpa using hj) hn)
  rw[rG]
  cases hp:p.Not with
  |false=>
   cases i with
   |zero=>show p.Not=_;rw[hp];simp
   |succ i=>
    show jt ps i=_
    rw[ih i (by simpa using hi)]
    simp only[xt,if_false,decide_eq_decide];omega
  |true=>
   have Gi:∀j,j<(p::ps).length->jt (p::ps) j=true:=by
    intro j
    induction j with
    |zero=>intro _;exact hp
    |succ j ihj=>intro hj;exact h j hj (ihj (by omega))
   have h0:cR ps=0:=by
    cases ps with
    |nil=>rfl
    |cons q qs=>
     have h1:=ih 0 (by simp)
     have h2:jt (q::qs) 0=true:=Gi 1 (by simp)
     rw[h2] at h1
     have:=yT h1.symm
     omega
   rw[Gi i hi,h0];simp
theorem pB(ps:List cr):iq ps=mb ps:=by
 rw[FM]
 simp only[iq,mb,cO,decide_eq_true_eq,gg]
 constructor
 ·rintro⟨⟨h1,h2⟩,h3⟩
  have hN:∀j,j<ps.length->jt ps j=decide (cR ps<=j):=fun j hj=>by
   have:=h3 j hj
   simp only[mc,cO,beq_iff_eq] at this
   exact this.2
  refine⟨h1,fun j hj=> ?_⟩
  have hk:=h3 j hj
  simp only[mc,cO] at hk
  simp only[uE,hk.1,hN j hj,wk,cO,ra,Bool.and_eq_false_iff,decide_eq_false_iff_not,Bool.not_eq_false',decide_eq_true_eq]
  refine⟨⟨by omega,by omega⟩,?_⟩
  by_cases h0:0<j
  ·rw[hN (j-1) (by omega)];simp only[decide_eq_false_iff_not];omega
  ·exact .inl (.inl h0)
 ·rintro⟨h1,h2⟩
  have hA:∀j,j<ps.length->fR (ps.getD j cD)=true/\(2<j->jt ps j=true)/\(j=0->jt ps j=false)/\(0<j->jt ps (j-1)=true->jt ps j=true):=fun j hj=>by
   have:=h2 j hj
   simp only[uE,cO,ra,Bool.and_eq_false_iff,decide_eq_false_iff_not,Bool.not_eq_false'] at this
   obtain⟨⟨⟨a1,a2⟩,a3⟩,a4⟩:=this
   refine⟨a1,fun h=>a2.resolve_left (fun e=>e h),fun h=>a3.resolve_left (fun e=>e h),fun h hn=>a4.resolve_left (fun e=> ?_)⟩
   rcases e with e|e
   ·exact e h
   ·rw[hn] at e;cases e
  have hN:=KI (ps:=ps) (fun i hi hn=>(hA (i+1) hi).2.2.2 (by omega) (by simpa using hn))
  have hz:=(hA 0 (by omega)).2.2.1 rfl
  rw[hN 0 (by omega)] at hz
  have hz:=yF hz
  have hle:cR ps<=ps.length:=Mq _ _
  refine⟨⟨h1,by omega,?_⟩,fun j hj=> ?_⟩
  ·by_cases h4:3<ps.length
   ·have:=(hA 3 h4).2.1 (by omega)
    rw[hN 3 h4] at this
    exact yT this
   ·omega
  ·simp only[mc,(hA j hj).1,hN j hj];simp
def e6(vars:List BA)(a:cN):Bool:= !decide (a.K=1)||mN vars a.S
def mK(vars:List BA)(c:dB):Bool:=jw c&&e6 vars c.L&&e6 vars c.R
def kO(l:List dB)(vars:List BA):Bool:=decide (l.length<=6)&&l.all (mK vars)
def jV(vars:List BA)(e:cn):Bool:=e6 vars e.L&&e6 vars e.R
def ib(pos:Int)(a:eK):Bool:= !(decide (a.Kind=2)&&decide (pos<=a.N))
def nr(vars:List BA)(pos:Int)(a:eK):Bool:=dl a&&ib pos a&&a.av.all (jV vars)
def lq(l:List eK)(vars:List BA)(pos:Int):Bool:=decide (1<=l.length/\l.length<=6)&&l.all (nr vars pos)
def fT(r:aY):Bool:=bq r.Name&&decide (-100<=r.jq/\r.jq<=100)&&mb r.aD&&kO r.aO (cV r.aD)&&lq r.bH (cV r.aD) (cR r.aD)
theorem HP(ps:List cr):d_ ps<=kB ps:=by
 simp only[d_,kB]
 have:∀l:List cr,(l.map fun p=>p.av.length).sum<=(l.map kq).sum:=by
  intro l
  induction l with
  |nil=>exact tR _
  |cons p l ih=>simp only[wb,Mr,kq,uu] at ih⊢;omega
 have:=this ps;omega
theorem SL(ps:List cr)(t:BA):mN (jl ps) t=mN (cV ps) t:=by
 rw[FM,pL,pL,KA,xO]
def nd(l:List BA)(c:dB):List BA:=dM l [c.L,c.R]
def tL(l:List BA)(e:cn):List BA:=dM l [e.L,e.R]
def qp(l:List BA)(a:eK):List BA:=a.av.foldl tL l
def nY(r:aY):List BA:=r.bH.foldl qp (r.aO.foldl nd [])
def qo(l:List eK):Nat:=(l.map fun a=>2*a.av.length).sum
theorem O7(l:List BA)(c:dB):(nd l c).length<=l.length+2:=jM _ _
theorem zy:∀(es:List cn)(l:List BA),(es.foldl tL l).length<=l.length+2*es.length
 |[],l=>tR _
 |e::es,l=>by
  have h1:=zy es (tL l e)
  have h2:(tL l e).length<=l.length+2:=jM _ _
  show(es.foldl tL (tL l e)).length<=_
  simp only[fY];omega
theorem su:∀(cs:List dB)(l:List BA),(cs.foldl nd l).length<=l.length+2*cs.length
 |[],l=>tR _
 |c::cs,l=>by
  have h1:=su cs (nd l c)
  have h2:=O7 l c
  show(cs.foldl nd (nd l c)).length<=_
  simp only[fY];omega
theorem wJ:∀(xs:List eK)(l:List BA),(xs.foldl qp l).length<=l.length+qo xs
 |[],l=>tR _
 |a::xs,l=>by
  have h1:=wJ xs (qp l a)
  have h2:(qp l a).length<=l.length+2*a.av.length:=zy _ _
  show(xs.foldl qp (qp l a)).length<=_
  simp only[qo,wb,Mr] at h1⊢;omega
theorem Q3(l:List eK){i:Int}(h0:0<=i)(h:i<l.length):qo (l.take i.toNat)+2*(l.getD i.toNat dq).av.length<=qo l:=by
 have h1:qo (l.take (i+1).toNat)<=qo l:=by
  have h:=congrArg (fun q=>(q.map fun a:eK=>2*a.av.length).sum) (UB (i+1).toNat l)
  simp only[Mp,zet] at h
  simp only[qo];omega
 rw[<-dH l dq h0 h] at h1
 simp only[qo,Mp,zet,wb,List.map_nil,Mr,List.sum_nil] at h1⊢
 omega
def names(t:BA)(a:cN):Prop:=a.K=1/\t=a.S
theorem Gs{l:List BA}{a b:cN}{t:BA}:t∈dM l [a,b]↔t∈l\/names t a\/names t b:=by
 rw[qQ];simp[names]
theorem Gr{t:BA}:∀{es:List cn}{l:List BA},t∈es.foldl tL l↔t∈l\/∃e∈es,names t e.L\/names t e.R
 |[],l=>by simp
 |e::es,l=>by
  show t∈es.foldl tL (tL l e)↔_
  rw[Gr,tL,Gs]
  simp only[kf,exists_eq_or_imp,or_assoc]
theorem sr{t:BA}:∀{cs:List dB}{l:List BA},t∈cs.foldl nd l↔t∈l\/∃c∈cs,names t c.L\/names t c.R
 |[],l=>by simp
 |c::cs,l=>by
  show t∈cs.foldl nd (nd l c)↔_
  rw[sr,nd,Gs]
  simp only[kf,exists_eq_or_imp,or_assoc]
theorem ny{t:BA}:∀{xs:List eK}{l:List BA},t∈xs.foldl qp l↔t∈l\/∃a∈xs,∃e∈a.av,names t e.L\/names t e.R
 |[],l=>by simp
 |a::xs,l=>by
  show t∈xs.foldl qp (qp l a)↔_
  rw[ny,qp,Gr]
  simp only[kf,exists_eq_or_imp,or_assoc]
theorem KT{vars:List BA}{a:cN}:e6 vars a=true↔∀t,names t a->mN vars t=true:=by
 simp only[e6,FL,ra,decide_eq_false_iff_not,names]
 constructor
 ·rintro(h|h) t ⟨h1,rfl⟩
  ·exact absurd h1 h
  ·exact h
 ·intro h
  by_cases h1:a.K=1
  ·exact .inr (h a.S ⟨h1,rfl⟩)
  ·exact .inl h1
theorem Q2(r:aY)(vars:List BA):(nY r).all (mN vars)=(r.aO.all (fun c=>e6 vars c.L&&e6 vars c.R)&&r.bH.all fun a=>a.av.all (jV vars)):=by
 rw[FM]
 simp only[cO,sk,jV,KT,nY]
 constructor
 ·intro h
  refine⟨fun c hc=>⟨fun t ht=>h t ?_,fun t ht=>h t ?_⟩,fun a ha e he=>⟨fun t ht=>h t ?_,fun t ht=>h t ?_⟩⟩
  ·rw[ny,sr];exact .inl (.inr ⟨c,hc,.inl ht⟩)
  ·rw[ny,sr];exact .inl (.inr ⟨c,hc,.inr ht⟩)
  ·rw[ny];exact .inr ⟨a,ha,e,he,.inl ht⟩
  ·rw[ny];exact .inr ⟨a,ha,e,he,.inr ht⟩
 ·rintro⟨h1,h2⟩ t ht
  rw[ny,sr] at ht
  rcases ht with(ht|⟨c,hc,ht|ht⟩)|⟨a,ha,e,he,ht|ht⟩
  ·cases ht
  ·exact(h1 c hc).1 t ht
  ·exact(h1 c hc).2 t ht
  ·exact(h2 a ha e he).1 t ht
  ·exact(h2 a ha e he).2 t ht
def lV(r:aY):Bool:=bq r.Name&&decide (-100<=r.jq/\r.jq<=100)&&mb r.aD&&decide (r.aO.length<=6)&&decide (1<=r.bH.length/\r.bH.length<=6)&&r.aO.all jw&&r.bH.all (fun a=>dl a&&ib (cR r.aD) a)&&(nY r).all (mN (jl r.aD))
theorem OP{α:Type}(p q:α->Bool)(l:List α):l.all (fun x=>p x&&q x)=(l.all p&&l.all q):=by
 induction l with
 |nil=>rfl
 |cons x l ih=>simp only[QV,ih];cases p x<;>cases q x<;>simp
theorem D2(r:aY):lV r=fT r:=by
 have e1:(nY r).all (mN (jl r.aD))=(nY r).all (mN (cV r.aD)):=by
  have:mN (jl r.aD)=mN (cV r.aD):=funext fun t=>SL _ _
  rw[this]
 have e2:r.aO.all (mK (cV r.aD))=(r.aO.all jw&&r.aO.all (fun c=>e6 (cV r.aD) c.L&&e6 (cV r.aD) c.R)):=by
  rw[<-OP]
  congr 1;funext c;simp only[mK,Bool.and_assoc]
 have e3:r.bH.all (nr (cV r.aD) (cR r.aD))=(r.bH.all (fun a=>dl a&&ib (cR r.aD) a)&&r.bH.all (fun a=>a.av.all (jV (cV r.aD)))):=by
  rw[<-OP];rfl
 simp only[lV,fT,kO,lq,e1,e2,e3,Q2]
 rw[FM]
 simp only[cO]
 constructor
 ·rintro⟨⟨⟨⟨⟨⟨⟨a1,a2⟩,a3⟩,a4⟩,a5⟩,a6⟩,a7⟩,a8,a9⟩
  exact⟨⟨⟨⟨a1,a2⟩,a3⟩,a4,a6,a8⟩,a5,a7,a9⟩
 ·rintro⟨⟨⟨⟨a1,a2⟩,a3⟩,a4,a6,a8⟩,a5,a7,a9⟩
  exact⟨⟨⟨⟨⟨⟨⟨a1,a2⟩,a3⟩,a4⟩,a5⟩,a6⟩,a7⟩,a8,a9⟩
theorem aQ{p:Prop}[Decidable p]{P Q:Prop}(h1:p->P)(h2:¬p->Q):bif decide p then P else Q:=ae (fun h=>h1 (yT h)) (fun h=>h2 (yF h))
theorem bE{b:Bool}{P Q:Prop}(h1:b=false->P)(h2:b=true->Q):bif !b then P else Q:=ae (fun h=>h1 (by simpa using h)) (fun h=>h2 (by simpa using h))
theorem bi{a b:Int}{P Q:Prop}(h1:a=b->P)(h2:¬a=b->Q):bif a==b then P else Q:=ae (fun h=>h1 (eq_of_beq h)) (fun h=>h2 (fun e=>by rw[e] at h;simp at h))
theorem Zq{α:Type}(f:α->Nat)(B:Nat):∀(l:List α),(∀x∈l,f x<=B)->(l.map f).sum<=l.length*B
 |[],_=>by simp
 |x::l,h=>by
  have h1:=Zq f B l (fun y hy=>h y (cI _ hy))
  have h2:=h x gB
  simp only[wb,Mr,fY,xv];omega
theorem KF{ps:List cr}(h:mb ps=true):d_ ps<=30:=by
 simp only[mb,cO,decide_eq_true_eq,gg] at h
 have:=Zq (fun p:cr=>p.av.length) 5 ps (fun p hp=>by
  obtain⟨i,hi,rfl⟩:=sn hp
  have hk:=h.2 i hi
  simp only[uE,cO,eX,fH hi,Gm] at hk
  have hk:=hk.1.1.1
  simp only[fR,cO,decide_eq_true_eq] at hk
  exact hk.1.2)
 simp only[d_];omega
theorem xf{a:eK}(h:dl a=true):a.av.length<=5:=by
 simp only[dl,Bh,e7] at h
 grind
theorem LZ{l:List eK}(hl:l.length<=6)(h:∀a∈l,dl a=true):qo l<=60:=by
 have:=Zq (fun a:eK=>2*a.av.length) 10 l (fun a ha=>by have:=xf (h a ha);omega)
 simp only[qo];omega
def afM:=cj (α:=cN×(List BA)) (qC (qA .gH) (q1 (qL .str))) [.ro,.ro] (fun _=>[]) (fun(a,vars)=>⟨[dO (e6 vars a)],[],[]⟩)
def TT:HH:=hF afM func199 [TU] a0 fun x hp hb=>by
 obtain⟨a,vars⟩:=x
 have aS:=tf (x:=a) (hb _ m0)
 have rj:=aS.1
 have rM:=aS.2
 have H8:L9 vars.length:=iv (hb _ m1)
 clear hp hb
 apply vE (bif a.K !=1 then Lb true (e6 vars a) else Lb (mN vars a.S) (e6 vars a))
 simp only[e6]
 refine ae (fun h=>ck ?_) (fun h=>ck ?_)<;>grind
def X2:=cj (α:=(List dB)×(List BA)) (qC (qL .bT) (q1 (qL .str))) [.ro,.ro] (fun _=>[]) (fun(l,vars)=>⟨[dO (kO l vars)],[],[]⟩)
def Di(l:List dB)(vars:List BA):Int×Unit->Prop:=fun(i,_)=>0<=i/\i<=l.length/\(l.drop i.toNat).all (mK vars)=l.all (mK vars)
def Cw(l:List dB)(vars:List BA):Int×Unit->Nat:=fun(i,_)=>l.length-i.toNat
def aiX:AX X2:=fun(l,vars)=>bW [(2,aU [iI 5] (fun _=>Di l vars) (Cw l vars))]
def ahK:HH:=hF X2 func157 [ahe,TT] aiX fun x hp hb=>by
 obtain⟨l,vars⟩:=x
 have fF:L9 l.length:=iv (hb _ m0)
 have H8:L9 vars.length:=iv (hb _ m1)
 clear hp hb
 apply vE (let x0:=(l.length:Int);let q0:=Lb false (kO l vars);Di l vars (0,())/\∀(y:Int×PUnit),let x1:=l.getD y.1.toNat ql;let q1:=(wrap i64 (y.1+1),());Di l vars y->bif decide (y.1<x0) then 0<=y.1/\y.1.toNat<l.length/\bif !jw x1 then q0 else 0<=y.1/\y.1.toNat<l.length/\bif !e6 vars x1.L then q0 else 0<=y.1/\y.1.toNat<l.length/\bif !e6 vars x1.R then q0 else Di l vars q1/\Cw l vars q1<Cw l vars y else Lb (decide (x0<=6)) (kO l vars))
 dsimp only
 refine⟨⟨by omega,by omega,rfl⟩,?_⟩
 rintro⟨i,⟨⟩⟩ ⟨h1,h2,hR⟩
 simp only
 refine aQ ?_ ?_<;>intro hc
 ·rw[en _ _ ql h1 (by omega)] at hR
  rw[wi]
  have hN:mK vars (l.getD i.toNat ql)=false->kO l vars=false:=fun h=>by simp only[kO,<-hR,h];simp
  refine⟨by omega,by omega,bE (fun h=>bD (hN ?_)) (fun h=>⟨by omega,by omega,bE (fun g=>bD (hN ?_)) (fun g=>⟨by omega,by omega,bE (fun k=>bD (hN ?_)) (fun k=>⟨⟨by omega,by omega,?_⟩,by simp only[Cw];omega⟩)⟩)⟩)⟩
  ·simp only[mK,h,p_]
  ·simp only[mK,g,tI,p_]
  ·simp only[mK,k,tI]
  ·rw[<-hR];simp only[mK,h,g,k,wk]
 ·rw[cy _ (by omega)] at hR
  refine ck ?_
  simp only[kO,<-hR];simp;omega
def X1:=cj (α:=(List eK)×(List BA)×Int) (qC (qL .dG) (qC (qL .str) (q1 qI))) [.ro,.ro,.ro] (fun _=>[]) (fun(l,vars,pos)=>⟨[dO (lq l vars pos)],[],[]⟩)
def zf(l:List eK)(vars:List BA)(pos:Int):Int×Unit->Prop:=fun(i,_)=>0<=i/\i<=l.length/\(l.drop i.toNat).all (nr vars pos)=l.all (nr vars pos)
def tu(l:List eK)(vars:List BA)(pos:Int):Int×Unit->Nat:=fun(i,_)=>l.length-i.toNat
def tD(l:List eK)(vars:List BA)(pos:Int):Int×Int×Unit->Int×Int×Unit->Prop:=fun(i0,k0,_) (i,k,_)=>i=i0/\0<=k/\k<=(l.getD i.toNat dq).av.length/\((l.getD i.toNat dq).av.drop k.toNat).all (jV vars)=(l.getD i.toNat dq).av.all (jV vars)
def tt(l:List eK)(vars:List BA)(pos:Int):Int×Int×Unit->Nat:=fun(i,k,_)=>(l.getD i.toNat dq).av.length-k.toNat
def aiW:AX X1:=fun(l,vars,pos)=>bW [(2,aU [iI 7] (fun _=>zf l vars pos) (tu l vars pos)),(7,aU [iI 7,iI 8] (tD l vars pos) (tt l vars pos))]
def ahJ:HH:=hF X1 func158 [ahd,TT,tF] aiW fun x hp hb=>by
 obtain⟨l,vars,pos⟩:=x
 have fF:L9 l.length:=iv (hb _ m0)
 have H8:L9 vars.length:=iv (hb _ m1)
 have amo:=tg (n:=pos) (hb _ m2)
 clear hp hb
 apply vE (let x0:=(l.length:Int);let q0:=Lb false (lq l vars pos);zf l vars pos (0,())/\∀(y:Int×PUnit),let x1:=l.getD y.1.toNat dq;let q1:=(y.1,0,());zf l vars pos y->bif decide (y.1<x0) then 0<=y.1/\y.1.toNat<l.length/\bif !dl x1 then q0 else 0<=y.1/\y.1.toNat<l.length/\bif x1.Kind==2 then 0<=y.1/\y.1.toNat<l.length/\bif decide (x1.N≥pos) then q0 else tD l vars pos q1 q1/\∀(aL:Int×Int×PUnit),let x3:=aL.2.1.toNat;let x4:=(↑((l.getD aL.1.toNat dq).av.length):Int);let x2:=(l.getD aL.1.toNat dq).av.getD x3 ff;let q2:=(aL.1,wrap i64 (aL.2.1+1),());let q3:=(wrap i64 (aL.1+1),());tD l vars pos q1 aL->0<=aL.1/\aL.1.toNat<l.length/\bif decide (aL.2.1<x4) then 0<=aL.1/\aL.1.toNat<l.length/\0<=aL.2.1/\x3<(l.getD aL.1.toNat dq).av.length/\bif !e6 vars x2.L then q0 else 0<=aL.1/\aL.1.toNat<l.length/\0<=aL.2.1/\x3<(l.getD aL.1.toNat dq).av.length/\bif !e6 vars x2.R then q0 else tD l vars pos q1 q2/\tt l vars pos q2<tt l vars pos aL else zf l vars pos q3/\tu l vars pos q3<tu l vars pos y else tD l vars pos q1 q1/\∀(aL:Int×Int×PUnit),let x3:=aL.2.1.toNat;let x4:=(↑((l.getD aL.1.toNat dq).av.length):Int);let x2:=(l.getD aL.1.toNat dq).av.getD x3 ff;let q4:=(aL.1,wrap i64 (aL.2.1+1),());let q5:=(wrap i64 (aL.1+1),());tD l vars pos q1 aL->0<=aL.1/\aL.1.toNat<l.length/\bif decide (aL.2.1<x4) then 0<=aL.1/\aL.1.toNat<l.length/\0<=aL.2.1/\x3<(l.getD aL.1.toNat dq).av.length/\bif !e6 vars x2.L then q0 else 0<=aL.1/\aL.1.toNat<l.length/\0<=aL.2.1/\x3<(l.getD aL.1.toNat dq).av.length/\bif !e6 vars x2.R then q0 else tD l vars pos q1 q4/\tt l vars pos q4<tt l vars pos aL else zf l vars pos q5/\tu l vars pos q5<tu l vars pos y else Lb (decide (1<=x0/\x0<=6)) (lq l vars pos))
 dsimp only
 refine⟨⟨by omega,by omega,rfl⟩,?_⟩
 rintro⟨i,⟨⟩⟩ ⟨h1,h2,hR⟩
 simp only
 refine aQ ?_ ?_<;>intro hc
 ·rw[en _ _ dq h1 (by omega)] at hR
  have hN:nr vars pos (l.getD i.toNat dq)=false->lq l vars pos=false:=fun h=>by simp only[lq,<-hR,h];simp
  refine⟨by omega,by omega,bE (fun ha=>bD (hN (by simp only[nr,ha,p_]))) (fun ha=>⟨by omega,by omega,bi (fun lm=>⟨by omega,by omega,aQ (fun hp=>bD (hN ?_)) (fun hp=> ?_)⟩) (fun lm=> ?_)⟩)⟩
  ·have:ib pos (l.getD i.toNat dq)=false:=by simp only[ib,lm,decide_eq_true (show pos<=(l.getD i.toNat dq).N from hp)];simp
   simp only[nr,this,tI,p_]
  ·have hd:ib pos (l.getD i.toNat dq)=true:=by simp only[ib,decide_eq_false (show¬pos<=(l.getD i.toNat dq).N from hp)];simp
   have h5:=xf ha
   refine⟨⟨rfl,by omega,by omega,rfl⟩,?_⟩
   rintro⟨i',k,⟨⟩⟩ ⟨rfl,g1,g2,gR⟩
   simp only
   refine⟨by omega,by omega,aQ (fun hk=> ?_) (fun hk=> ?_)⟩
   ·rw[en _ _ ff g1 (by omega)] at gR
    rw[wi (n:=k+1)]
    have hM:jV vars ((l.getD i'.toNat dq).av.getD k.toNat ff)=false->lq l vars pos=false:=fun h=>hN (by simp only[nr,<-gR,h];simp)
    refine⟨by omega,by omega,g1,by omega,bE (fun e=>bD (hM ?_)) (fun e=>⟨by omega,by omega,g1,by omega,bE (fun f=>bD (hM ?_)) (fun f=>⟨⟨rfl,by omega,by omega,?_⟩,by simp only[tt];omega⟩)⟩)⟩
    ·simp only[jV,e,p_]
    ·simp only[jV,f,tI]
    ·rw[<-gR];simp only[jV,e,f,wk]
   ·rw[cy _ (by omega)] at gR
    rw[wi (n:=i'+1)]
    refine⟨⟨by omega,by omega,?_⟩,by simp only[tu];omega⟩
    rw[<-hR];simp only[nr,<-gR,hd,ha,QR,wk]
  ·have hd:ib pos (l.getD i.toNat dq)=true:=by simp only[ib,decide_eq_false lm];simp
   have h5:=xf ha
   refine⟨⟨rfl,by omega,by omega,rfl⟩,?_⟩
   rintro⟨i',k,⟨⟩⟩ ⟨rfl,g1,g2,gR⟩
   simp only
   refine⟨by omega,by omega,aQ (fun hk=> ?_) (fun hk=> ?_)⟩
   ·rw[en _ _ ff g1 (by omega)] at gR
    rw[wi (n:=k+1)]
    have hM:jV vars ((l.getD i'.toNat dq).av.getD k.toNat ff)=false->lq l vars pos=false:=fun h=>hN (by simp only[nr,<-gR,h];simp)
    refine⟨by omega,by omega,g1,by omega,bE (fun e=>bD (hM ?_)) (fun e=>⟨by omega,by omega,g1,by omega,bE (fun f=>bD (hM ?_)) (fun f=>⟨⟨rfl,by omega,by omega,?_⟩,by simp only[tt];omega⟩)⟩)⟩
    ·simp only[jV,e,p_]
    ·simp only[jV,f,tI]
    ·rw[<-gR];simp only[jV,e,f,wk]
   ·rw[cy _ (by omega)] at gR
    rw[wi (n:=i'+1)]
    refine⟨⟨by omega,by omega,?_⟩,by simp only[tu];omega⟩
    rw[<-hR];simp only[nr,<-gR,hd,ha,QR,wk]
 ·rw[cy _ (by omega)] at hR
  refine ck ?_
  simp only[lq,<-hR,QR,BE];exact decide_eq_decide.2 (by omega)
def X3:=cj (α:=List cr) (q1 (qL .dE)) [.ro] (fun _=>[]) (fun l=>⟨[dO (mb l)],[],[]⟩)
def tE(l:List cr):Int×Unit->Prop:=fun(i,_)=>0<=i/\i<=l.length/\∀j:Nat,(j:Int)<i->uE l j=true
def l7(l:List cr):Int×Unit->Nat:=fun(i,_)=>l.length-i.toNat
def aiY:AX X3:=fun l=>bW [(2,aU [iI 3] (fun _=>tE l) (l7 l))]
def ahL:HH:=hF X3 func156 [ahf,tF] aiY fun(l:List cr) hp hb=>by
 have fF:L9 l.length:=iv (hb _ m0)
 clear hp hb
 apply vE (let x0:=(l.length:Int);let q0:=Lb false (mb l);tE l (0,())/\∀(y:Int×PUnit),let x1:=Int.toNat (wrap i64 (y.1-1));let q1:=bif decide (y.1>0) then 0<=wrap i64 (y.1-1)/\x1<l.length/\bif (l.getD x1 cD).Not then 0<=y.1/\y.1.toNat<l.length/\bif !(l.getD y.1.toNat cD).Not then q0 else tE l (wrap i64 (y.1+1),())/\l7 l (wrap i64 (y.1+1),())<l7 l y else tE l (wrap i64 (y.1+1),())/\l7 l (wrap i64 (y.1+1),())<l7 l y else tE l (wrap i64 (y.1+1),())/\l7 l (wrap i64 (y.1+1),())<l7 l y;let q2:=(0:Int)<=y.1/\y.1.toNat<l.length/\bif !fR (l.getD y.1.toNat cD) then q0 else bif y.1==0 then 0<=y.1/\y.1.toNat<l.length/\bif (l.getD y.1.toNat cD).Not then q0 else q1 else q1;tE l y->bif decide (y.1<x0) then bif decide (y.1>2) then 0<=y.1/\y.1.toNat<l.length/\bif !(l.getD y.1.toNat cD).Not then q0 else q2 else q2 else Lb (decide (1<=x0/\x0<=6)) (mb l))
 dsimp only
 refine⟨⟨by omega,by omega,by intro j hj;omega⟩,?_⟩
 rintro⟨i,⟨⟩⟩ ⟨h1,h2,hR⟩
 simp only
 refine aQ ?_ ?_<;>intro hc
 ·have hN:uE l i.toNat=false->mb l=false:=fun h=>by
   have hf:allI l.length (uE l)=false:=gY (j:=i.toNat) (by omega) h
   simp only[mb,hf];simp
  have hm:l7 l (i+1,PUnit.unit)<l7 l (i,()):=by simp only[l7];omega
  have e1:(i-1).toNat=i.toNat-1:=by omega
  simp(disch:=omega) only[wrap_i64]
  simp only[e1]
  have c1:decide (2<i.toNat)=decide (i>2):=decide_eq_decide.2 (by omega)
  have c2:decide (i.toNat=0)=decide (i=0):=decide_eq_decide.2 (by omega)
  have c3:decide (0<i.toNat)=decide (i>0):=decide_eq_decide.2 (by omega)
  have hA:uE l i.toNat=(fR (l.getD i.toNat cD)&& !(decide (i>2)&& !(l.getD i.toNat cD).Not)&& !(decide (i=0)&&(l.getD i.toNat cD).Not)&& !(decide (i>0)&&(l.getD (i.toNat-1) cD).Not&& !(l.getD i.toNat cD).Not)):=by
   simp only[uE,jt,c1,c2,c3]
  have Xb:uE l i.toNat=true->tE l (i+1,PUnit.unit)/\l7 l (i+1,PUnit.unit)<l7 l (i,()):=fun h=>⟨⟨by omega,by omega,gj h1 hR h⟩,hm⟩
  rw[hA] at hN Xb
  generalize (l.getD (i.toNat-1) cD).Not=q at*
  generalize (l.getD i.toNat cD).Not=r at*
  generalize fR (l.getD i.toNat cD)=s at*
  clear hA c1 c2 c3 hR
  have gZ:i.toNat<l.length:=by omega
  have EB:i.toNat-1<l.length:=by omega
  have hi1:i>0->0<=i-1:=fun h=>by omega
  repeat' (first|refine bD (hN ?_)|refine Xb ?_|refine aQ (fun h=> ?_) (fun h=> ?_)|refine bi (fun h=> ?_) (fun h=> ?_)|refine ae (fun h=> ?_) (fun h=> ?_)|refine And.intro h1 ?_|refine And.intro gZ ?_|refine And.intro EB ?_|refine And.intro (hi1 (by assumption)) ?_)
  all_goals (cases q<;>cases r<;>cases s<;>simp at* <;>omega)
 ·have hA:allI l.length (uE l)=true:=iK fun j hj=>hR j (by omega)
  refine ck ?_
  simp only[mb,hA,BE];exact decide_eq_decide.2 (by omega)
def ago:=cj (α:=aY) (q1 (qA .bz)) [.ro] (fun r=>[d_ r.aD<=4294967295]) (fun r=>⟨[dO (fT r)],[],[]⟩)
def aid:HH:=hF ago func106 [YB,L8,tF,ahL,ahK,ahJ,Mb] a0 fun(r:aY) hp hb=>by
 have aS:=jE (x:=r) (hb _ m0)
 have iF:=aS.1
 have iE:=aS.2.1
 have gT:=aS.2.2.1
 have iG:=aS.2.2.2
 have bo:d_ r.aD<=4294967295:=hp _ m0
 clear hp hb
 apply vE (let q0:=Lb false (fT r);L4 (d_ r.aD)/\bif bq r.Name then bif decide ((-100)<=r.jq/\r.jq<=100) then bif mb r.aD then bif kO r.aO (cV r.aD) then Lb (lq r.bH (cV r.aD) (↑(cR r.aD):Int)) (fT r) else q0 else q0 else q0 else q0)
 dsimp only
 refine⟨by omega,?_⟩
 simp only[fT]
 repeat' (refine ae (fun h=> ?_) (fun h=> ?_))
 all_goals (refine ck ?_;grind)
def Yb:=cj (α:=aY) (q1 (qA .bz)) [.ro] (fun _=>[]) (fun r=>⟨[dO (iq r.aD)],[],[]⟩)
def Dr(r:aY):Int×T1×Unit->Prop:=fun(i,b,_)=>b=(r.Name,r.jq,r.aD,r.aO,r.bH,())/\0<=i/\i<=r.aD.length/\(1<=r.aD.length/\r.aD.length<=6)/\(1<=cR r.aD/\cR r.aD<=3)/\∀j:Nat,(j:Int)<i->mc r.aD j=true
def CE(r:aY):Int×T1×Unit->Nat:=fun(i,b,_)=>r.aD.length-i.toNat
def ai9:AX Yb:=fun r=>bW [(4,aU [iI 19,.box 1 (1,1024) [.lit .str,.lit (.int .i64),.shr .dE,.shr .bT,.shr .dG]] (fun _=>Dr r) (CE r))]
def ah7:HH:=hF Yb func123 [FH,abm,ahC] ai9 fun(r:aY) hp hb=>by
 have aS:=jE (x:=r) (hb _ m0)
 have iF:=aS.1
 have iE:=aS.2.1
 have gT:=aS.2.2.1
 have iG:=aS.2.2.2
 clear hp hb
 apply vE (let x0:=(r.aD.length:Int);let q0:=Lb false (iq r.aD);bif !decide (1<=x0/\x0<=6) then q0 else bif !decide (1<=(↑(cR r.aD):Int)/\(↑(cR r.aD):Int)<=3) then q0 else Dr r (0,(r.Name,r.jq,r.aD,r.aO,r.bH,()),())/\∀(y:Int×YT×PUnit),let x1:=(↑(cR y.2.1.2.2.1):Int);let q1:=(wrap i64 (y.1+1),(y.2.1.1,y.2.1.2.1,y.2.1.2.2.1,y.2.1.2.2.2.1,y.2.1.2.2.2.2.1,()),());Dr r y->bif decide (y.1<x0) then 0<=y.1/\y.1.toNat<r.aD.length/\bif !fR (r.aD.getD y.1.toNat cD) then q0 else bif !(r.aD.getD y.1.toNat cD).Not==decide (y.1≥x1) then q0 else Dr r q1/\CE r q1<CE r y else Lb true (iq r.aD))
 dsimp only
 refine bE (fun h=>bD ?_) (fun h=>bE (fun h'=>bD ?_) (fun h'=> ?_))
 ·have h:=yF h
  simp only[iq];rw[decide_eq_false (by omega)];rfl
 ·have h':=yF h'
  simp only[iq];rw[decide_eq_false (p:=1<=cR r.aD/\cR r.aD<=3) (by omega)];simp
 have h:=yT h
 have h':=yT h'
 refine⟨⟨rfl,by omega,by omega,by omega,by omega,by intro j hj;omega⟩,?_⟩
 rintro⟨i,⟨b1,b2,b3,b4,b5,⟨⟩⟩,⟨⟩⟩ ⟨rP,h1,h2,h3,h4,hR⟩
 cases rP
 simp only
 refine aQ ?_ ?_<;>intro hc
 ·have hN:mc r.aD i.toNat=false->iq r.aD=false:=fun h=>by
   have hf:allI r.aD.length (mc r.aD)=false:=gY (j:=i.toNat) (by omega) h
   simp only[iq,hf];simp
  rw[wi]
  have c1:decide (cR r.aD<=i.toNat)=decide (i≥(cR r.aD:Int)):=decide_eq_decide.2 (by omega)
  refine⟨by omega,by omega,bE (fun g=>bD (hN (by simp only[mc,g,p_]))) (fun g=>bE (fun k=>bD (hN ?_)) (fun k=>⟨⟨rfl,by omega,by omega,h3,h4,gj h1 hR ?_⟩,by simp only[CE];omega⟩))⟩
  ·simp only[mc,jt,c1,k];simp
  ·simp only[mc,jt,c1,k,g];rfl
 ·have hA:allI r.aD.length (mc r.aD)=true:=iK fun j hj=>hR j (by omega)
  refine nv ?_
  simp only[iq,hA,decide_eq_true h3,decide_eq_true h4];rfl
def X_:=cj (α:=aY) (q1 (qA .bz)) [.ro] (fun r=>[2*r.aO.length+qo r.bH<=4294967295]) (fun r=>⟨[dL .str (nY r)],[],[]⟩)
def Dq(r:aY):List BA×Int×T1×Unit->Prop:=fun(v,i,b,_)=>b=(r.Name,r.jq,r.aD,r.aO,r.bH,())/\0<=i/\i<=r.aO.length/\v=(r.aO.take i.toNat).foldl nd []
def CD(r:aY):List BA×Int×T1×Unit->Nat:=fun(v,i,b,_)=>r.aO.length-i.toNat
def Dp(r:aY):List BA×Int×Unit->Prop:=fun(v,i,_)=>0<=i/\i<=r.bH.length/\v=(r.bH.take i.toNat).foldl qp (r.aO.foldl nd [])
def CB(r:aY):List BA×Int×Unit->Nat:=fun(v,i,_)=>r.bH.length-i.toNat
def zl(r:aY):List BA×Int×Int×Unit->List BA×Int×Int×Unit->Prop:=fun(v0,i0,k0,_) (v,i,k,_)=>i=i0/\0<=k/\k<=(r.bH.getD i.toNat dq).av.length/\v=((r.bH.getD i.toNat dq).av.take k.toNat).foldl tL v0
def y5(r:aY):List BA×Int×Int×Unit->Nat:=fun(v,i,k,_)=>(r.bH.getD i.toNat dq).av.length-k.toNat
def ai7:AX X_:=fun r=>bW [(3,aU [iO 3 .str,iI 13,.box 1 (1,1024) [.lit .str,.lit (.int .i64),.shr .dE,.shr .bT,.shr .dG]] (fun _=>Dq r) (CD r)),(8,aU [iO 3 .str,iI 28] (fun _=>Dp r) (CB r)),(11,aU [iO 3 .str,iI 28,iI 35] (zl r) (y5 r))]
def ah3:HH:=hF X_ func127 [Yx] ai7 fun(r:aY) hp hb=>by
 have aS:=jE (x:=r) (hb _ m0)
 have iF:=aS.1
 have iE:=aS.2.1
 have gT:=aS.2.2.1
 have iG:=aS.2.2.2
 have bo:2*r.aO.length+qo r.bH<=4294967295:=hp _ m0
 clear hp hb
 apply vE (Dq r ([],0,(r.Name,r.jq,r.aD,r.aO,r.bH,()),())/\∀(y:List BA×Int×YT×PUnit),let x2:=y.2.2.1.2.2.2.2.1.length;let x4:=y.2.1.toNat;let x1:=(↑x2:Int);let x3:=r.aO.getD x4 ql;let x0:=[x3.L,x3.R];Dq r y->bif decide (y.2.1<(r.aO.length:Int)) then 0<=y.2.1/\x4<r.aO.length/\y.1.length+x0.length<=4294967295/\Dq r (dM y.1 x0,wrap i64 (y.2.1+1),(y.2.2.1.1,y.2.2.1.2.1,y.2.2.1.2.2.1,y.2.2.1.2.2.2.1,y.2.2.1.2.2.2.2.1,()),())/\CD r (dM y.1 x0,wrap i64 (y.2.1+1),(y.2.2.1.1,y.2.2.1.2.1,y.2.2.1.2.2.1,y.2.2.1.2.2.2.1,y.2.2.1.2.2.2.2.1,()),())<CD r y else Dp r (y.1,0,())/\∀(aL:List BA×Int×PUnit),let x8:=aL.2.1.toNat;let x7:=(y.2.2.1.2.2.2.2.1.getD x8 dq).av;let x6:=x7.length;let x5:=(↑x6:Int);let q0:=(aL.1,aL.2.1,0,());Dp r aL->bif decide (aL.2.1<x1) then 0<=aL.2.1/\x8<x2/\zl r q0 q0/\∀(y:List BA×Int×Int×PUnit),let qb:=y.2.2.1.toNat;let oV:=x7.getD qb ff;let x9:=[oV.L,oV.R];let q1:=(dM y.1 x9,y.2.1,wrap i64 (y.2.2.1+1),());let q2:=(y.1,wrap i64 (y.2.1+1),());zl r q0 y->bif decide (y.2.2.1<x5) then 0<=y.2.2.1/\qb<x6/\y.1.length+x9.length<=4294967295/\zl r q0 q1/\y5 r q1<y5 r y else Dp r q2/\CB r q2<CB r aL else Lf [VL .str aL.1] [VL .str (nY r)])
 dsimp only
 refine⟨⟨rfl,by omega,by omega,rfl⟩,?_⟩
 rintro⟨v,i,⟨b1,b2,b3,b4,b5,⟨⟩⟩,⟨⟩⟩ ⟨rP,h1,h2,rfl⟩
 cases rP
 simp only
 refine aQ ?_ ?_<;>intro hc
 ·have hs:=nF nd [] r.aO ql h1 hc
  have hl:=su (r.aO.take i.toNat) []
  have A8:(r.aO.take i.toNat).length<=i.toNat:=by rw[oz];omega
  simp only[fG] at hl
  rw[wi]
  refine⟨by omega,by omega,by simp only[fY,fG];omega,⟨rfl,by omega,by omega,hs.symm⟩,by simp only[CD];omega⟩
 rw[cM r.aO (by omega)]
 have hl0:=su r.aO []
 simp only[fG] at hl0
 refine⟨⟨by omega,by omega,rfl⟩,?_⟩
 rintro⟨v,i,⟨⟩⟩ ⟨g1,g2,rfl⟩
 simp only
 refine aQ ?_ ?_<;>intro hc
 ·have hs:=nF qp (r.aO.foldl nd []) r.bH dq g1 hc
  have ha:=Q3 r.bH g1 hc
  have hl:=wJ (r.bH.take i.toNat) (r.aO.foldl nd [])
  refine⟨by omega,by omega,⟨rfl,by omega,by omega,rfl⟩,?_⟩
  rintro⟨v,i',k,⟨⟩⟩ ⟨rfl,k1,k2,rfl⟩
  simp only
  have hle:=zy ((r.bH.getD i'.toNat dq).av.take k.toNat) ((r.bH.take i'.toNat).foldl qp (r.aO.foldl nd []))
  have A8:((r.bH.getD i'.toNat dq).av.take k.toNat).length<=k.toNat:=by rw[oz];omega
  refine aQ ?_ ?_<;>intro hk
  ·have hf:=nF tL ((r.bH.take i'.toNat).foldl qp (r.aO.foldl nd [])) (r.bH.getD i'.toNat dq).av ff k1 hk
   rw[wi]
   exact⟨by omega,by omega,by simp only[fY,fG];omega,⟨rfl,by omega,by omega,hf.symm⟩,by simp only[y5];omega⟩
  ·rw[wi]
   refine⟨⟨by omega,by omega,?_⟩,by simp only[CB];omega⟩
   rw[hs,cM (r.bH.getD i'.toNat dq).av (by omega)];rfl
 ·rw[cM r.bH (by omega)]
  exact bf _
def aeN:=cj (α:=aY) (q1 (qA .bz)) [.ro] (fun _=>[]) (fun r=>⟨[dO (fT r)],[],[]⟩)
def Jg(r:aY):Int×T1×Unit->Prop:=fun(i,b,_)=>b=(r.Name,r.jq,r.aD,r.aO,r.bH,())/\0<=i/\i<=r.aO.length/\(r.aO.drop i.toNat).all jw=r.aO.all jw
def IG(r:aY):Int×T1×Unit->Nat:=fun(i,b,_)=>r.aO.length-i.toNat
def CR(r:aY):Int×T1×Unit->Prop:=fun(i,b,_)=>b=(r.Name,r.jq,r.aD,r.aO,r.bH,())/\0<=i/\i<=r.bH.length/\(r.bH.drop i.toNat).all (fun a=>dl a&&ib (cR r.aD) a)=r.bH.all (fun a=>dl a&&ib (cR r.aD) a)
def yW(r:aY):Int×T1×Unit->Nat:=fun(i,b,_)=>r.bH.length-i.toNat
def CQ(r:aY):Int×List BA×List BA×Unit->Prop:=fun(i,v,u,_)=>v=jl r.aD/\u=nY r/\0<=i/\i<=(nY r).length/\((nY r).drop i.toNat).all (mN (jl r.aD))=(nY r).all (mN (jl r.aD))
def B8(r:aY):Int×List BA×List BA×Unit->Nat:=fun(i,v,u,_)=>(nY r).length-i.toNat
def aoG:AX aeN:=fun r=>bW [(6,aU [iI 39,.box 1 (1,1024) [.lit .str,.lit (.int .i64),.shr .dE,.shr .bT,.shr .dG]] (fun _=>Jg r) (IG r)),(12,aU [iI 50,.box 1 (1,1024) [.lit .str,.lit (.int .i64),.shr .dE,.shr .bT,.shr .dG]] (fun _=>CR r) (yW r)),(19,aU [iI 75,iO 7 .str,iO 73 .str] (fun _=>CQ r) (B8 r))]
def anX:HH:=hF aeN func77 [QH,FH,ah7,ah6,ah5,abm,ah4,ah3,YI] aoG fun(r:aY) hp hb=>by
 have aS:=jE (x:=r) (hb _ m0)
 have iF:=aS.1
 have iE:=aS.2.1
 have gT:=aS.2.2.1
 have iG:=aS.2.2.2
 clear hp hb
 apply vE (let x0:=(r.aO.length:Int);let q0:=Lb false (fT r);let q1:=BA×Int×List cr×List dB×List eK×PUnit;bif !bq r.Name then q0 else bif !decide ((-100)<=r.jq/\r.jq<=100) then q0 else bif !iq r.aD then q0 else bif decide (x0>6) then q0 else bif !decide (1<=(r.bH.length:Int)/\(r.bH.length:Int)<=6) then q0 else Jg r (0,(r.Name,r.jq,r.aD,r.aO,r.bH,()),())/\∀(y:Int×q1×PUnit),let x2:=y.2.1.2.2.2.2.1.length;let x1:=(↑x2:Int);Jg r y->bif decide (y.1<x0) then 0<=y.1/\y.1.toNat<r.aO.length/\bif !jw (r.aO.getD y.1.toNat ql) then q0 else Jg r (wrap i64 (y.1+1),(y.2.1.1,y.2.1.2.1,y.2.1.2.2.1,y.2.1.2.2.2.1,y.2.1.2.2.2.2.1,()),())/\IG r (wrap i64 (y.1+1),(y.2.1.1,y.2.1.2.1,y.2.1.2.2.1,y.2.1.2.2.2.1,y.2.1.2.2.2.2.1,()),())<IG r y else CR r (0,(y.2.1.1,y.2.1.2.1,y.2.1.2.2.1,y.2.1.2.2.2.1,y.2.1.2.2.2.2.1,()),())/\∀(aL:Int×q1×PUnit),let x4:=nY {Name:=aL.2.1.1,jq:=aL.2.1.2.1,aD:=aL.2.1.2.2.1,aO:=aL.2.1.2.2.2.1,bH:=aL.2.1.2.2.2.2.1:aY};let x5:=y.2.1.2.2.2.2.1.getD aL.1.toNat dq;let x6:=(↑(cR aL.2.1.2.2.1):Int);let x3:=(x4.length:Int);let q2:=(wrap i64 (aL.1+1),(aL.2.1.1,aL.2.1.2.1,aL.2.1.2.2.1,aL.2.1.2.2.2.1,aL.2.1.2.2.2.2.1,()),());let q3:=CR r q2/\yW r q2<yW r aL;CR r aL->bif decide (aL.1<x1) then 0<=aL.1/\aL.1.toNat<x2/\bif !dl x5 then q0 else bif x5.Kind==2 then bif decide (x5.N≥x6) then q0 else q3 else q3 else d_ aL.2.1.2.2.1<=4294967295/\2*aL.2.1.2.2.2.1.length+qo aL.2.1.2.2.2.2.1<=4294967295/\CQ r (0,jl aL.2.1.2.2.1,x4,())/\∀(y:Int×List BA×List BA×PUnit),let q4:=(wrap i64 (y.1+1),y.2.1,y.2.2.1,());CQ r y->bif decide (y.1<x3) then 0<=y.1/\y.1.toNat<y.2.2.1.length/\y.1.toNat<y.2.2.1.length/\bif !mN y.2.1 (y.2.2.1.getD y.1.toNat aj) then q0 else CQ r q4/\B8 r q4<B8 r y else Lb true (fT r))
 dsimp only
 have hF:lV r=false->fT r=false:=fun h=>by rw[<-D2];exact h
 refine bE (fun a1=>bD (hF (by simp[lV,a1]))) (fun a1=>bE (fun a2=>bD (hF (by simp only[lV,a2];simp))) (fun a2=>bE (fun a3=>bD (hF ?_)) (fun a3=>aQ (fun a4=>bD (hF ?_)) (fun a4=>bE (fun a5=>bD (hF ?_)) (fun a5=> ?_)))))
 ·rw[pB] at a3;simp[lV,a3]
 ·simp only[lV];rw[decide_eq_false (p:=r.aO.length<=6) (by omega)];simp
 ·have a5:=yF a5
  simp only[lV];rw[decide_eq_false (p:=1<=r.bH.length/\r.bH.length<=6) (by omega)];simp
 rw[pB] at a3
 have a5:=yT a5
 refine⟨⟨rfl,by omega,by omega,rfl⟩,?_⟩
 rintro⟨i,⟨b1,b2,b3,b4,b5,⟨⟩⟩,⟨⟩⟩ ⟨rP,h1,h2,hR⟩
 cases rP
 simp only
 refine aQ ?_ ?_<;>intro hc
 ·rw[en _ _ ql h1 (by omega)] at hR
  rw[wi]
  refine⟨by omega,by omega,bE (fun g=>bD (hF ?_)) (fun g=>⟨⟨rfl,by omega,by omega,?_⟩,by simp only[IG];omega⟩)⟩
  ·simp only[lV,<-hR,g];simp
  ·rw[<-hR,g];rfl
 rw[cy _ (by omega)] at hR
 have a6:r.aO.all jw=true:=hR.symm
 refine⟨⟨rfl,by omega,by omega,rfl⟩,?_⟩
 rintro⟨i,⟨b1,b2,b3,b4,b5,⟨⟩⟩,⟨⟩⟩ ⟨rP,g1,g2,gR⟩
 cases rP
 simp only
 refine aQ ?_ ?_<;>intro hc
 ·rw[en _ _ dq g1 (by omega)] at gR
  rw[wi]
  have hN:(dl (r.bH.getD i.toNat dq)&&ib (cR r.aD) (r.bH.getD i.toNat dq))=false->fT r=false:=fun h=>hF (by simp only[lV,<-gR,h];simp)
  have Xb:dl (r.bH.getD i.toNat dq)=true->ib (cR r.aD) (r.bH.getD i.toNat dq)=true->(r.bH.drop (i+1).toNat).all (fun a=>dl a&&ib (cR r.aD) a)=r.bH.all (fun a=>dl a&&ib (cR r.aD) a):=fun e1 e2=>by rw[<-gR,e1,e2];rfl
  refine⟨by omega,by omega,bE (fun ha=>bD (hN (by rw[ha];rfl))) (fun ha=>bi (fun lm=>aQ (fun hp=>bD (hN ?_)) (fun hp=>⟨⟨rfl,by omega,by omega,Xb ha ?_⟩,by simp only[yW];omega⟩)) (fun lm=>⟨⟨rfl,by omega,by omega,Xb ha ?_⟩,by simp only[yW];omega⟩))⟩
  ·simp only[ib,lm,decide_eq_true (show(cR r.aD:Int)<=(r.bH.getD i.toNat dq).N from hp)];simp
  ·simp only[ib,decide_eq_false (show¬(cR r.aD:Int)<=(r.bH.getD i.toNat dq).N from hp)];simp
  ·simp only[ib,decide_eq_false lm];simp
 rw[cy _ (by omega)] at gR
 have a7:r.bH.all (fun a=>dl a&&ib (cR r.aD) a)=true:=gR.symm
 have hpa:=KF a3
 have wC:=LZ (l:=r.bH) (by omega) (fun a ha=>by
  have:=sk.1 a7 a ha
  simp only[cO] at this
  exact this.1)
 have hul:(nY r).length<=2*r.aO.length+qo r.bH:=by
  have q1:=wJ r.bH (r.aO.foldl nd [])
  have q2:=su r.aO []
  simp only[fG] at q2
  simp only[nY];omega
 refine⟨by omega,by omega,⟨rfl,rfl,by omega,by omega,rfl⟩,?_⟩
 rintro⟨i,v,u,⟨⟩⟩ ⟨rfl,rfl,k1,k2,kR⟩
 simp only
 refine aQ ?_ ?_<;>intro hk
 ·rw[en _ _ aj k1 hk] at kR
  rw[wi]
  have db:i<(nY r).length:=hk
  refine⟨by omega,by omega,by omega,bE (fun g=>bD (hF ?_)) (fun g=>⟨⟨rfl,rfl,by omega,by omega,?_⟩,by simp only[B8];omega⟩)⟩
  ·simp only[lV,<-kR,g];simp
  ·rw[<-kR,g];rfl
 ·have db:¬i<(nY r).length:=hk
  rw[cy _ (by omega)] at kR
  refine nv ?_
  rw[<-D2]
  simp only[lV,a1,a2,a3,a6,a7,<-kR,decide_eq_true (show r.aO.length<=6 by omega),decide_eq_true (show 1<=r.bH.length/\r.bH.length<=6 by omega)];rfl
def instNew(now:Int):aq:=if 0<=now/\now<=1000000000 then⟨⟨[],1⟩,[],[],[],[],1,now⟩ else WK
def ae2:=cj (α:=List ak) (q1 (qL .az)) [.ro] (fun l=>[L4 (cC l)]) (fun l=>⟨[dL .az l],[],[]⟩)
def Jv(l:List ak):List ak×Int×Unit->Prop:=fun(out,i,_)=>0<=i/\i<=l.length/\out=l.take i.toNat
def IU(l:List ak):List ak×Int×Unit->Nat:=fun(out,i,_)=>l.length-i.toNat
def aoU:AX ae2:=fun l=>bW [(3,aU [iO 3 .az,iI 4] (fun _=>Jv l) (IU l))]
def agD:HH:=hF ae2 func58 [sd] aoU fun(l:List ak) hp hb=>by
 have fF:L9 l.length:=iv (hb _ m0)
 have bo:cC l<=4294967296:=hp _ m0
 clear hp hb
 apply vE (Jv l ([],0,())/\∀(y:List ak×Int×PUnit),let x2:=y.2.1.toNat;let x1:=l.getD x2 aE;let x0:=[x1];let q0:=(y.1++x0,wrap i64 (y.2.1+1),());Jv l y->bif decide (y.2.1<(l.length:Int)) then 0<=y.2.1/\x2<l.length/\L4 x1.F.ah.length/\L4 (y.1.length+x0.length)/\Jv l q0/\IU l q0<IU l y else Lf [VL .az y.1] [VL .az l])
 dsimp only
 refine⟨⟨by omega,by omega,by simp⟩,?_⟩
 rintro⟨out,i,⟨⟩⟩ ⟨h1,h2,rfl⟩
 simp only
 refine ae ?_ ?_<;>intro hc
 ·have hc:=yT hc
  have hs:=er ly l aE h1 hc
  simp only[cC] at bo
  have hx:=hs
  simp only[ly,dj,eO] at hx
  rw[dH l aE h1 hc,wi]
  repeat' (first|refine And.intro (by omega) ?_|fail)
  refine⟨by simp;omega,⟨by omega,by omega,rfl⟩,by simp only[IU];omega⟩
 ·have hc:=yF hc
  rw[cM l (by omega)]
  exact bf _
def ae7:=cj (α:=List ak) (q1 (qL .az)) [.ro] (fun l=>[L4 (cC l)]) (fun l=>⟨[dL .az l],[],[]⟩)
def JA(l:List ak):List ak×Int×Unit->Prop:=fun(out,i,_)=>0<=i/\i<=l.length/\out=l.take i.toNat
def IZ(l:List ak):List ak×Int×Unit->Nat:=fun(out,i,_)=>l.length-i.toNat
def ao0:AX ae7:=fun l=>bW [(3,aU [iO 3 .az,iI 8] (fun _=>JA l) (IZ l))]
def abr:HH:=hF ae7 func49 [Bp] ao0 fun(l:List ak) hp hb=>by
 have fF:L9 l.length:=iv (hb _ m0)
 have bo:cC l<=4294967296:=hp _ m0
 clear hp hb
 apply vE (JA l ([],0,())/\∀(y:List ak×Int×PUnit),let x2:=y.2.1.toNat;let x1:=l.getD x2 aE;let x0:=[x1];let q0:=(y.1++x0,wrap i64 (y.2.1+1),());JA l y->bif decide (y.2.1<(l.length:Int)) then 0<=y.2.1/\x2<l.length/\L4 x1.F.ah.length/\L4 (y.1.length+x0.length)/\JA l q0/\IZ l q0<IZ l y else Lf [VL .az y.1] [VL .az l])
 dsimp only
 refine⟨⟨by omega,by omega,by simp⟩,?_⟩
 rintro⟨out,i,⟨⟩⟩ ⟨h1,h2,rfl⟩
 simp only
 refine ae ?_ ?_<;>intro hc
 ·have hc:=yT hc
  have hs:=er ly l aE h1 hc
  simp only[cC] at bo
  have hx:=hs
  simp only[ly,dj,eO] at hx
  rw[dH l aE h1 hc,wi]
  repeat' (first|refine And.intro (by omega) ?_|fail)
  refine⟨by simp;omega,⟨by omega,by omega,rfl⟩,by simp only[IZ];omega⟩
 ·have hc:=yF hc
  rw[cM l (by omega)]
  exact bf _
def Jb:kz UU where
 α:=ak
 md:=[.ro]
 of:=o1 (oA .az)
 ds:=fun x=>[dA .az x]
 pre:=fun _=>[]
 pj:=fun t=>⟨[dO (jU t)],[],[]⟩
 law:=l1 (lA .az)
def agG:HH:=hF Jb func33 [] a0 fun(t:ak) hp hb=>by
 have aS:=pY (x:=t) (hb _ m0)
 have mB:=aS.1
 have kc:=aS.2.1
 have pk:=aS.2.2.1
 have rL:=aS.2.2.2
 clear hp hb
 apply vE (bif t.State==1 then Lb true (jU t) else Lb (t.State==2) (jU t))
 simp only[jU]
 refine ae (fun h=>ck ?_) (fun h=>ck ?_)<;>grind
def Yh:=cj (α:=List ak) (q1 (qL .az)) [.ro] (fun l=>[L4 (cC l)]) (fun l=>⟨[dL .az (giveUp l)],[],[]⟩)
def wa(l:List ak):List ak×Int×Unit->Prop:=fun(out,i,_)=>0<=i/\i<=l.length/\out=(l.map gF).take i.toNat++l.drop i.toNat
def ph(l:List ak):List ak×Int×Unit->Nat:=fun(out,i,_)=>l.length-i.toNat
def ajd:AX Yh:=fun l=>bW [(3,aU [iO 3 .az,iI 4] (fun _=>wa l) (ph l))]
def YK:HH:=hF Yh func117 [agD] ajd fun(l:List ak) hp hb=>by
 have fF:L9 l.length:=iv (hb _ m0)
 have bo:cC l<=4294967296:=hp _ m0
 clear hp hb
 apply vE (cC l<=4294967296/\wa l (l,0,())/\∀(y:List ak×Int×PUnit),let x0:=y.2.1.toNat;let q0:=y.2.1+1;wa l y->bif decide (y.2.1<(y.1.length:Int)) then 0<=y.2.1/\x0<y.1.length/\x0<y.1.length/\bif (y.1.getD x0 aE).State==1 then 0<=y.2.1/\x0<y.1.length/\x0<y.1.length/\wa l (y.1.modify x0 fun(x:ak)=>{F:=x.F,aR:=x.aR,State:=(4:Int),bt:=x.bt,jF:=x.jF,V:=x.V:ak},wrap i64 q0,())/\ph l (y.1.modify x0 fun(x:ak)=>{F:=x.F,aR:=x.aR,State:=(4:Int),bt:=x.bt,jF:=x.jF,V:=x.V:ak},wrap i64 q0,())<ph l y else 0<=y.2.1/\x0<y.1.length/\x0<y.1.length/\bif (y.1.getD x0 aE).State==2 then 0<=y.2.1/\x0<y.1.length/\x0<y.1.length/\wa l (y.1.modify x0 fun(x:ak)=>{F:=x.F,aR:=x.aR,State:=(4:Int),bt:=x.bt,jF:=x.jF,V:=x.V:ak},wrap i64 q0,())/\ph l (y.1.modify x0 fun(x:ak)=>{F:=x.F,aR:=x.aR,State:=(4:Int),bt:=x.bt,jF:=x.jF,V:=x.V:ak},wrap i64 q0,())<ph l y else wa l (y.1,wrap i64 q0,())/\ph l (y.1,wrap i64 q0,())<ph l y else Lf [VL .az y.1] [VL .az (giveUp l)])
 dsimp only
 refine⟨bo,⟨by omega,by omega,by simp⟩,?_⟩
 rintro⟨out,i,⟨⟩⟩ ⟨h1,h2,rfl⟩
 have hl:=HZ gF l h1 h2
 simp only
 refine ae ?_ ?_<;>intro hc
 ·have hc:=yT hc
  have hc:i<l.length:=by omega
  have hg:=BL _ l aE (M4 gF l h1 h2) h1 hc
  rw[hg,wi,hl]
  repeat' (first|refine And.intro (by omega) ?_|refine ae (fun h=> ?_) (fun h=> ?_)|fail)
  all_goals first
   |(rw[BM gF l aE _ h1 hc (by simp only[gF];grind)];exact⟨⟨by omega,by omega,rfl⟩,by simp only[ph];omega⟩)
   |(have hs:=Em gF l aE h1 hc (by simp only[gF];grind);exact⟨⟨by omega,by omega,hs⟩,by simp only[ph];omega⟩)
 ·have hc:=yF hc
  rw[En gF l (by omega)]
  exact bf _
def XI:=cj (α:=List ak) (q1 (qL .az)) [.ro] (fun l=>[L4 (cC l)]) (fun l=>⟨[dL .az (giveUp l)],[],[]⟩)
def za(l:List ak):List ak×Int×Unit->Prop:=fun(out,i,_)=>0<=i/\i<=l.length/\out=(l.map gF).take i.toNat++l.drop i.toNat
def tn(l:List ak):List ak×Int×Unit->Nat:=fun(out,i,_)=>l.length-i.toNat
def aiD:AX XI:=fun l=>bW [(3,aU [iO 3 .az,iI 9] (fun _=>za l) (tn l))]
def ahl:HH:=hF XI func190 [abr,agG] aiD fun(l:List ak) hp hb=>by
 have fF:L9 l.length:=iv (hb _ m0)
 have bo:cC l<=4294967296:=hp _ m0
 clear hp hb
 apply vE (cC l<=4294967296/\za l (l,0,())/\∀(y:List ak×Int×PUnit),let x0:=y.2.1.toNat;let q0:=(y.1,wrap i64 (y.2.1+1),());za l y->bif decide (y.2.1<(l.length:Int)) then 0<=y.2.1/\x0<y.1.length/\x0<y.1.length/\x0<y.1.length/\bif jU (y.1.getD x0 aE) then 0<=y.2.1/\x0<y.1.length/\x0<y.1.length/\za l (y.1.modify x0 fun(x:ak)=>{F:=x.F,aR:=x.aR,State:=(4:Int),bt:=x.bt,jF:=x.jF,V:=x.V:ak},wrap i64 (y.2.1+1),())/\tn l (y.1.modify x0 fun(x:ak)=>{F:=x.F,aR:=x.aR,State:=(4:Int),bt:=x.bt,jF:=x.jF,V:=x.V:ak},wrap i64 (y.2.1+1),())<tn l y else za l q0/\tn l q0<tn l y else Lf [VL .az y.1] [VL .az (giveUp l)])
 dsimp only
 refine⟨bo,⟨by omega,by omega,by simp⟩,?_⟩
 rintro⟨out,i,⟨⟩⟩ ⟨h1,h2,rfl⟩
 have hl:=HZ gF l h1 h2
 simp only
 refine ae ?_ ?_<;>intro hc
 ·have hc:=yT hc
  have hc:i<l.length:=by omega
  have hg:=BL _ l aE (M4 gF l h1 h2) h1 hc
  rw[hg,wi,hl]
  have hio:jU (l.getD i.toNat aE)=decide ((l.getD i.toNat aE).State=1\/(l.getD i.toNat aE).State=2):=rfl
  rw[hio]
  repeat' (first|refine And.intro (by omega) ?_|refine ae (fun h=> ?_) (fun h=> ?_)|fail)
  all_goals first
   |(rw[BM gF l aE _ h1 hc (by simp only[gF];grind)];exact⟨⟨by omega,by omega,rfl⟩,by simp only[tn];omega⟩)
   |(have hs:=Em gF l aE h1 hc (by simp only[gF];grind);exact⟨⟨by omega,by omega,hs⟩,by simp only[tn];omega⟩)
 ·have hc:=yF hc
  rw[En gF l (by omega)]
  exact bf _
def anf:=cj (α:=aq) (q1 (qA .ct)) [.ro] (fun _=>[]) (fun x=>⟨[dO (decide (x.State=2\/x.State=4\/x.State=6))],[],[]⟩)
def agz:HH:=hF anf func68 [] a0 fun(x:aq) hp hb=>by
 have aS:=hH (x:=x) (hb _ m0)
 have bC:=aS.1
 have cg:=aS.2.1
 have cf:=aS.2.2.1
 have bN:=aS.2.2.2.1
 have cd:=aS.2.2.2.2
 clear hp hb
 apply vE (let q0:=decide (x.State=2\/x.State=4\/x.State=6);bif x.State==2 then Lb true q0 else bif x.State==4 then Lb true q0 else Lb (x.State==6) q0)
 dsimp only
 repeat' (refine ae (fun h=> ?_) (fun h=> ?_))
 all_goals (refine ck ?_;grind)
def anu:=cj (α:=aq) (q1 (qA .ct)) [.ro] (fun _=>[]) (fun x=>⟨[dO (decide (x.State=2\/x.State=4\/x.State=6))],[],[]⟩)
def aok:HH:=hF anu func31 [] a0 fun(x:aq) hp hb=>by
 have aS:=hH (x:=x) (hb _ m0)
 have bC:=aS.1
 have cg:=aS.2.1
 have cf:=aS.2.2.1
 have bN:=aS.2.2.2.1
 have cd:=aS.2.2.2.2
 clear hp hb
 apply vE (let q0:=decide (x.State=2\/x.State=4\/x.State=6);bif x.State==2 then Lb true q0 else bif x.State==4 then Lb true q0 else Lb (x.State==6) q0)
 dsimp only
 repeat' (refine ae (fun h=> ?_) (fun h=> ?_))
 all_goals (refine ck ?_;grind)
def am5:=cj (α:=Int) (q1 qI) [.ro] (fun _=>[]) (fun now=>⟨[dA .ct (instNew now)],[],[]⟩)
def anO:HH:=hF am5 func90 [tF] a0 fun(now:Int) hp hb=>by
 have w6:=tg (n:=now) (hb _ m0)
 clear hp hb
 apply vE (bif !decide (0<=now/\now<=1000000000) then Lf [DV.agg [CL .aH [],CI 0,CL .aB [],CL .az [],CL .aI [],CL .aW [],CI 0,CI 0]] [DV.agg (aA (instNew now))] else Lf [DV.agg [CL .aH [],CI 1,CL .aB [],CL .az [],CL .aI [],CL .aW [],CI 1,CI now]] [DV.agg (aA (instNew now))])
 unfold instNew
 refine ae (fun h=>ajl ?_) (fun h=>ajl ?_)
 ·rw[if_neg (by grind)];rfl
 ·rw[if_pos (by grind)];rfl
def ln(x:aY):DA UU:=⟨true,[.lit (.string x.Name),.lit (.int .i64 x.jq),.sl .dE x.aD,.sl .bT x.aO,.sl .dG x.bH]⟩
def sD(l:List aY)(name:BA):Int:=j7 l.length fun k=>decide ((l.getD k cq).Name=name)
def jD(l:List aY)(i:Nat):Bool:=fT (l.getD i cq)&&decide (sD l (l.getD i cq).Name=i)
def fQ(d:bp):Bool:=bq d.Name&&decide (1<=d.aw.length/\d.aw.length<=12)&&allI d.aw.length (jD d.aw)
theorem Pf{l:List aY}{i:Int}(h0:0<=i)(h:i<l.length):d_ (l.getD i.toNat cq).aD<=j_ l:=by
 have hs:=er eg l cq h0 h
 have hp:=HP (l.getD i.toNat cq).aD
 simp only[eg] at hs
 simp only[j_,eg];omega
def Ex(l:List bL)(f:aJ):Int:=j7 l.length fun k=>decide ((l.getD k aX).F=f)
def iS(l:List bL)(f:aJ):Int:=if Ex l f= -1 then 0 else(l.getD (Ex l f).toNat aX).Id
def vq(l:List bL)(id:Int):Int:=j7 l.length fun k=>decide ((l.getD k aX).Id=id)
def oM(l:List bL)(id:Int):aJ:=if vq l id= -1 then ui else(l.getD (vq l id).toNat aX).F
def kr(l:List bL)(id:Int):Bool:=anyI l.length fun k=>decide ((l.getD k aX).Id=id)
def jX(s:aF)(i:Nat):Bool:=bw (s.ab.getD i aX).F&&decide (1<=(s.ab.getD i aX).Id)&&decide ((s.ab.getD i aX).Id<s.Next)&& !(decide (0<i)&&decide ((s.ab.getD i aX).Id<=(s.ab.getD (i-1) aX).Id))
def oH(s:aF)(i:Nat):Bool:=jX s i&&decide (iS s.ab (s.ab.getD i aX).F=(s.ab.getD i aX).Id)
def jn(s:aF)(i:Nat):Bool:=jX s i&& !(anyI i fun k=>decide ((s.ab.getD i aX).F=(s.ab.getD k aX).F))
def br(s:aF):Bool:=decide (1<=s.Next/\s.Next<=1000000)&&decide (s.ab.length<=40)&&allI s.ab.length (oH s)
theorem LR{s:aF}(h:∀i,i<s.ab.length->jX s i=true):∀j i,j<i->i<s.ab.length->(s.ab.getD j aX).Id<(s.ab.getD i aX).Id:=by
 intro j i FQ hi
 have step:∀m,m+1<s.ab.length->(s.ab.getD m aX).Id<(s.ab.getD (m+1) aX).Id:=fun m hm=>by
  have:=h (m+1) hm
  simp only[jX,cO,ra,Bool.and_eq_false_iff,decide_eq_false_iff_not,decide_eq_true_eq,Nat.add_sub_cancel] at this
  have:=this.2
  omega
 obtain⟨k,rfl⟩:∃k,i=j+1+k:=⟨i-j-1,by omega⟩
 clear FQ
 induction k with
 |zero=>exact step j hi
 |succ k ih=>exact Int.lt_trans (ih (by omega)) (step (j+1+k) hi)
theorem DQ(s:aF):allI s.ab.length (jn s)=allI s.ab.length (oH s):=by
 rw[FM,gg,gg]
 have adW:∀i,i<s.ab.length->∃m,m<=i/\Ex s.ab (s.ab.getD i aX).F=(m:Int)/\(s.ab.getD m aX).F=(s.ab.getD i aX).F/\∀j,j<m->¬(s.ab.getD j aX).F=(s.ab.getD i aX).F:=by
  intro i hi
  rcases ik s.ab.length (fun k=>decide ((s.ab.getD k aX).F=(s.ab.getD i aX).F)) with⟨_,h2⟩|⟨m,g1,g2,g3,g4⟩
  ·have:=h2 i hi;simp at this
  ·refine⟨m,?_,g2,yT g3,fun j hj=>yF (g4 j hj)⟩
   rcases pa i m with g|g
   ·have:=g4 i g;simp at this
   ·exact g
 have hid:∀i m:Nat,Ex s.ab (s.ab.getD i aX).F=(m:Int)->iS s.ab (s.ab.getD i aX).F=(s.ab.getD m aX).Id:=fun i m h=>by
  rw[iS,h,if_neg (by omega)];simp
 constructor
 ·intro h i hi
  have P':=h i hi
  simp only[jn,cO,ra] at P'
  obtain⟨m,m1,m2,m3,m4⟩:=adW i hi
  have:m=i:=by
   rcases pa m i with g|g
   ·have:=ol.1 P'.2 m g
    exact absurd m3.symm (yF this)
   ·omega
  subst this
  simp only[oH,P'.1,hid m m m2,decide_true,BE]
 ·intro h i hi
  have hb:∀i,i<s.ab.length->jX s i=true:=fun i hi=>by
   have:=h i hi
   simp only[oH,cO] at this
   exact this.1
  have P':=h i hi
  simp only[oH,cO,decide_eq_true_eq] at P'
  have Og:(anyI i fun k=>decide ((s.ab.getD i aX).F=(s.ab.getD k aX).F))=false:=gz fun k hk=>decide_eq_false fun e=>by
   obtain⟨m,m1,m2,m3,m4⟩:=adW i hi
   have hmk:m<=k:=by
    rcases pa k m with g|g
    ·exact absurd e.symm (m4 k g)
    ·exact g
   have:=LR hb m i (by omega) hi
   rw[hid i m m2] at P'
   omega
  simp only[jn,P'.1,Og];rfl
def ko(d:bp)(m:au):Bool:=decide (0<=m.cL)&&decide (m.cL<(d.aw.length:Int))
def jc(d:bp)(s:List bL)(m:au):Bool:=ko d m&&decide (m.bu.length=0)&&decide (m.eH.length=cR (d.aw.getD m.cL.toNat cq).aD)&&m.eH.all (kr s)
def iU(d:bp)(x:aq):Bool:=decide (x.aC.length<=1000)&&x.aC.all (jc d x.S.ab)
def o6(l:List ak):Bool:=anyI l.length fun k=>jU (l.getD k aE)
def mP(x:aq):Bool:=decide (x.State=2\/x.State=4\/x.State=6)
def mH(x:aq):Bool:=decide (x.State=3)||decide (x.State=5)
def instOk(d:bp)(x:aq):Bool:=fQ d&&br x.S&&aT x.ap&&dx x.ax&&dD x.ay&&decide (1<=x.State/\x.State<=6)&&decide (0<=x.cJ/\x.cJ<=1000000000)&&iU d x&& !(mP x&&(o6 x.ap||decide (0<x.ax.length)))&&(!mH x||decide (0<x.ay.length))
def X':=cj (α:=(List aY)×(List (DA UU)->Option Value)) (qC (qL .bz) (q1 qF)) [.ro,.ro] (fun(l,p)=>[∀j:Nat,j<l.length->p [ln (l.getD j cq)]=some (.bool (bJ (p [ln (l.getD j cq)])))]) (fun(l,p)=>⟨[dI (j7 l.length (fun j=>bJ (p [ln (l.getD j cq)])))],[],[]⟩)
def Dn(l:List aY)(p:(List (DA UU)->Option Value)):Int×Unit->Prop:=fun(i,_)=>0<=i/\i<=l.length/\∀j:Nat,(j:Int)<i->bJ (p [ln (l.getD j cq)])=false
def CA(l:List aY)(p:(List (DA UU)->Option Value)):Int×Unit->Nat:=fun(i,_)=>l.length-i.toNat
def ai6:AX X':=fun(l,p)=>bW [(2,aU [iI 8] (fun _=>Dn l p) (CA l p))]
def ah2:HH:=hF X' func129 [] ai6 fun x hp hb=>by
 obtain⟨l,p⟩:=x
 have fF:L9 l.length:=iv (hb _ m0)
 have bo:∀j:Nat,j<l.length->p [ln (l.getD j cq)]=some (.bool (bJ (p [ln (l.getD j cq)]))):=hp _ m0
 clear hp hb
 apply vE (Dn l p (0,())/\∀(y:Int×PUnit),let x1:=l.getD y.1.toNat cq;let x0:=bJ (p [{agg:=true,cs:=[CS x1.Name,CI x1.jq,CL .dE x1.aD,CL .bT x1.aO,CL .dG x1.bH]:DA UU}]);let q0:=(wrap i64 (y.1+1),());Dn l p y->bif decide (y.1<(l.length:Int)) then 0<=y.1/\y.1.toNat<l.length/\p [{agg:=true,cs:=[CS x1.Name,CI x1.jq,CL .dE x1.aD,CL .bT x1.aO,CL .dG x1.bH]:DA UU}]=some (Value.bool x0)/\bif x0 then Li y.1 (j7 (l.length) fun(j:Nat)=>bJ (p [ln (l.getD j cq)])) else Dn l p q0/\CA l p q0<CA l p y else Li (-1) (j7 (l.length) fun(j:Nat)=>bJ (p [ln (l.getD j cq)])))
 dsimp only
 refine⟨⟨by omega,by omega,by intro j hj;omega⟩,?_⟩
 rintro⟨i,⟨⟩⟩ ⟨h1,h2,hR⟩
 simp only[ln] at*
 refine ae ?_ ?_<;>intro hc
 ·have hc:=yT hc
  rw[wi]
  refine⟨by omega,by omega,bo i.toNat (by omega),ae (fun h=>oT ?_) (fun h=>⟨⟨by omega,by omega,jk (p:=fun j=>bJ (p [ln (l.getD j cq)])) h1 hR h⟩,by simp only[CA];omega⟩)⟩
  rw[fL (i:=i.toNat) (by omega) h (fun j hj=>hR j (by omega))]
  omega
 ·have hc:=yF hc
  exact oT (jx (fun j hj=>hR j (by omega))).symm
def Bo:kz UU where
 α:=aY×BA
 md:=[.ro,.ro]
 of:=fun|[.agg [.lit (.string a0),.lit (.int .i64 a1),.sl .dE a2,.sl .bT a3,.sl .dG a4],.ptr [.lit (.string a5)]]=>some (⟨a0,a1,a2,a3,a4⟩,a5)|_=>none
 ds:=fun(r,name)=>[.agg [.lit (.string r.Name),.lit (.int .i64 r.jq),.sl .dE r.aD,.sl .bT r.aO,.sl .dG r.bH],.ptr [.lit (.string name)]]
 pre:=fun(r,name)=>[]
 pj:=fun(r,name)=>⟨[.one (.lit (.bool (decide (r.Name=name))))],[],[]⟩
 law:=by intro l x h;(try simp only at h);split at h<;>cases h;rfl
def ah1:HH:=hF Bo func130 [] a0 fun x hp hb=>by
 obtain⟨r,name⟩:=x
 have Ig:gh (U:=UU) (.agg [.lit (.string r.Name),.lit (.int .i64 r.jq),.sl .dE r.aD,.sl .bT r.aO,.sl .dG r.bH]):=hb _ (gB)
 have iF:L9 r.Name.size:=Bd.str (Ig _ (by simp))
 have iE:L9 r.aD.length:=Bd.len (U:=UU) (τ:=.dE) (xs:=r.aD) (Ig _ (by simp))
 have gT:L9 r.aO.length:=Bd.len (U:=UU) (τ:=.bT) (xs:=r.aO) (Ig _ (by simp))
 have iG:L9 r.bH.length:=Bd.len (U:=UU) (τ:=.dG) (xs:=r.bH) (Ig _ (by simp))
 have V2:gh (U:=UU) (.ptr [.lit (.string name)]):=hb _ (cI _ (gB))
 have vx:L9 name.size:=Bd.str (V2 _ (by simp))
 clear hp hb
 apply vE (Lb (ByteArray.toList r.Name==ByteArray.toList name) (decide (r.Name=name)))
 rw[aM]
 exact bf _
def ana:=cj (α:=bp×BA) (qC (qA .h_) (q1 qS)) [.ro,.ro] (fun _=>[]) (fun(d,name)=>⟨[dI (sD d.aw name)],[],[]⟩)
def anW:HH:=hF ana func78 [ah2,ah1] a0 fun x hp hb=>by
 obtain⟨d,name⟩:=x
 have aS:=gI (x:=d) (hb _ m0)
 have e_:=aS.1
 have ew:=aS.2
 have vx:=Bg (s:=name) (hb _ m1)
 clear hp hb
 apply vE ((∀(j:Nat),j<d.aw.length->gL Bo [DV.ptr [CS name]] [ln (d.aw.getD j cq)]=some (Value.bool (bJ (gL Bo [DV.ptr [CS name]] [ln (d.aw.getD j cq)]))))/\Li (j7 (d.aw.length) fun(j:Nat)=>bJ (gL Bo [DV.ptr [CS name]] [ln (d.aw.getD j cq)])) (sD d.aw name))
 have hc:∀x:aY,gL Bo [.ptr [.lit (.string name)]] [ln x]=some (.bool (decide (x.Name=name))):=fun x=>uR (x:=(x,name)) rfl rfl rfl rfl (by simp[Bo])
 refine⟨fun j hj=> ?_,oT ?_⟩
 ·show gL Bo [.ptr [.lit (.string name)]] [ln (d.aw.getD j cq)]=_
  rw[hc];rfl
 ·exact wW fun j hj=>by
   show bJ (gL Bo [.ptr [.lit (.string name)]] [ln (d.aw.getD j cq)])=_
   rw[hc];rfl
def Yl:=cj (α:=bp×BA) (qC (qA .h_) (q1 qS)) [.ro,.ro] (fun _=>[]) (fun(d,name)=>⟨[dI (sD d.aw name)],[],[]⟩)
def Dz(d:bp)(name:BA):Int×T2×Unit->Prop:=fun(i,fb,_)=>fb=(d.Name,d.aw,())/\0<=i/\i<=d.aw.length/\∀j:Nat,(j:Int)<i->decide ((d.aw.getD j cq).Name=name)=false
def CN(d:bp)(name:BA):Int×T2×Unit->Nat:=fun(i,fb,_)=>d.aw.length-i.toNat
def ajh:AX Yl:=fun(d,name)=>bW [(2,aU [iI 5,.box 2 (2,1024) [.lit .str,.shr .bz]] (fun _=>Dz d name) (CN d name))]
def aic:HH:=hF Yl func107 [] ajh fun x hp hb=>by
 obtain⟨d,name⟩:=x
 have aS:=gI (x:=d) (hb _ m0)
 have e_:=aS.1
 have ew:=aS.2
 have vx:=Bg (s:=name) (hb _ m1)
 clear hp hb
 apply vE (Dz d name (0,(d.Name,d.aw,()),())/\∀(y:Int×T9×PUnit),let x1:=y.2.1.2.1.length;let x0:=(↑x1:Int);let q0:=(wrap i64 (y.1+1),(y.2.1.1,y.2.1.2.1,()),());Dz d name y->bif decide (y.1<x0) then 0<=y.1/\y.1.toNat<x1/\bif ByteArray.toList (y.2.1.2.1.getD y.1.toNat cq).Name==ByteArray.toList name then Li y.1 (sD d.aw name) else Dz d name q0/\CN d name q0<CN d name y else Li (-1) (sD d.aw name))
 dsimp only
 refine⟨⟨rfl,by omega,by omega,by intro j hj;omega⟩,?_⟩
 rintro⟨i,fb,⟨⟩⟩ ⟨rfl,h1,h2,hR⟩
 simp only
 refine ae ?_ ?_<;>intro hc
 ·have hc:i<d.aw.length:=yT hc
  simp(disch:=omega) only[wrap_i64,aM]
  refine⟨by omega,by omega,ae (fun h=>oT ?_) (fun h=>⟨⟨rfl,by omega,by omega,jk (p:=fun j=>decide ((d.aw.getD j cq).Name=name)) h1 hR h⟩,by simp only[CN];omega⟩)⟩
  rw[sD,fL (i:=i.toNat) (by omega) h (fun j hj=>hR j (by omega))]
  omega
 ·have hc:¬i<d.aw.length:=yF hc
  exact oT (jx (fun j hj=>hR j (by omega))).symm
def aeZ:=cj (α:=bp) (q1 (qA .h_)) [.ro] (fun d=>[cG d<=4294967295]) (fun d=>⟨[dO (fQ d)],[],[]⟩)
def Js(d:bp):Int×T2×Unit->Prop:=fun(i,b,_)=>b=(d.Name,d.aw,())/\0<=i/\i<=d.aw.length/\∀j:Nat,(j:Int)<i->jD d.aw j=true
def IR(d:bp):Int×T2×Unit->Nat:=fun(i,b,_)=>d.aw.length-i.toNat
def aoR:AX aeZ:=fun d=>bW [(2,aU [iI 3,.box 1 (1,1024) [.lit .str,.shr .bz]] (fun _=>Js d) (IR d))]
def agC:HH:=hF aeZ func61 [aid,aic,L8,tF] aoR fun(d:bp) hp hb=>by
 have aS:=gI (x:=d) (hb _ m0)
 have e_:=aS.1
 have ew:=aS.2
 have bo:cG d<=4294967295:=hp _ m0
 clear hp hb
 apply vE (Js d (0,(d.Name,d.aw,()),())/\∀(y:Int×T9×PUnit),let x1:=y.2.1.2.1.getD y.1.toNat cq;let x2:=y.2.1.2.1.length;let x0:=(↑x2:Int);let q0:=(wrap i64 (y.1+1),(y.2.1.1,y.2.1.2.1,()),());Js d y->bif decide (y.1<x0) then 0<=y.1/\y.1.toNat<x2/\d_ x1.aD<=4294967295/\bif !fT x1 then Lb false (fQ d) else 0<=y.1/\y.1.toNat<x2/\bif sD y.2.1.2.1 x1.Name !=y.1 then Lb false (fQ d) else Js d q0/\IR d q0<IR d y else bif bq y.2.1.1 then Lb (decide (1<=x0/\x0<=12)) (fQ d) else Lb false (fQ d))
 dsimp only
 refine⟨⟨rfl,by omega,by omega,by intro j hj;omega⟩,?_⟩
 rintro⟨i,⟨b1,b2,⟨⟩⟩,⟨⟩⟩ ⟨rP,h1,h2,hR⟩
 cases rP
 simp only
 refine aQ ?_ ?_<;>intro hc
 ·have hN:jD d.aw i.toNat=false->fQ d=false:=fun h=>by
   have hf:allI d.aw.length (jD d.aw)=false:=gY (j:=i.toNat) (by omega) h
   simp only[fQ,hf,tI]
  have hs:=Pf h1 hc
  simp only[cG] at bo
  have ei:((i.toNat:Nat):Int)=i:=by omega
  rw[wi]
  refine⟨by omega,by omega,by omega,bE (fun g=>bD (hN (by simp only[jD,g,p_]))) (fun g=>⟨by omega,by omega,bE (fun k=>bD (hN ?_)) (fun k=>⟨⟨rfl,by omega,by omega,gj h1 hR ?_⟩,by simp only[IR];omega⟩)⟩)⟩
  ·simp only[jD,ei,g,wk];exact decide_eq_false (by simpa using k)
  ·simp only[jD,ei,g,wk];exact decide_eq_true (eq_of_beq k)
 ·have hA:allI d.aw.length (jD d.aw)=true:=iK fun j hj=>hR j (by omega)
  simp only[fQ,hA,BE]
  refine ae (fun h=>ck ?_) (fun h=>ck ?_)
  ·rw[h,wk];exact decide_eq_decide.2 (by omega)
  ·rw[h,p_]
def afs:=cj (α:=bp) (q1 (qA .h_)) [.ro] (fun _=>[]) (fun d=>⟨[dO (fQ d)],[],[]⟩)
def JJ(d:bp):Int×T2×Unit->Prop:=fun(i,b,_)=>b=(d.Name,d.aw,())/\bq d.Name=true/\(1<=d.aw.length/\d.aw.length<=12)/\0<=i/\i<=d.aw.length/\∀j:Nat,(j:Int)<i->jD d.aw j=true
def I5(d:bp):Int×T2×Unit->Nat:=fun(i,b,_)=>d.aw.length-i.toNat
def apa:AX afs:=fun d=>bW [(4,aU [iI 19,.box 1 (1,1024) [.lit .str,.shr .bz]] (fun _=>JJ d) (I5 d))]
def aop:HH:=hF afs func23 [anX,anW,QH,FH] apa fun(d:bp) hp hb=>by
 have aS:=gI (x:=d) (hb _ m0)
 have e_:=aS.1
 have ew:=aS.2
 clear hp hb
 apply vE (let x0:=(d.aw.length:Int);let q0:=Lb false (fQ d);bif !bq d.Name then q0 else bif !decide (1<=x0/\x0<=12) then q0 else JJ d (0,(d.Name,d.aw,()),())/\∀(y:Int×T9×PUnit),let q1:=(wrap i64 (y.1+1),(y.2.1.1,y.2.1.2.1,()),());JJ d y->bif decide (y.1<x0) then 0<=y.1/\y.1.toNat<d.aw.length/\bif !fT (d.aw.getD y.1.toNat cq) then q0 else bif sD y.2.1.2.1 (d.aw.getD y.1.toNat cq).Name !=y.1 then q0 else JJ d q1/\I5 d q1<I5 d y else Lb true (fQ d))
 dsimp only
 refine bE (fun a1=>bD (by simp only[fQ,a1,p_])) (fun a1=>bE (fun a2=>bD ?_) (fun a2=> ?_))
 ·have a2:=yF a2
  simp only[fQ];rw[decide_eq_false (p:=1<=d.aw.length/\d.aw.length<=12) (by omega),tI,p_]
 have a2:=yT a2
 refine⟨⟨rfl,a1,by omega,by omega,by omega,by intro j hj;omega⟩,?_⟩
 rintro⟨i,⟨b1,b2,⟨⟩⟩,⟨⟩⟩ ⟨rP,a3,a4,h1,h2,hR⟩
 cases rP
 simp only
 refine aQ ?_ ?_<;>intro hc
 ·have hN:jD d.aw i.toNat=false->fQ d=false:=fun h=>by
   have hf:allI d.aw.length (jD d.aw)=false:=gY (j:=i.toNat) (by omega) h
   simp only[fQ,hf,tI]
  have ei:((i.toNat:Nat):Int)=i:=by omega
  rw[wi]
  refine⟨by omega,by omega,bE (fun g=>bD (hN (by simp only[jD,g,p_]))) (fun g=>bE (fun k=>bD (hN ?_)) (fun k=>⟨⟨rfl,a3,a4,by omega,by omega,gj h1 hR ?_⟩,by simp only[I5];omega⟩))⟩
  ·simp only[jD,ei,g,wk];exact decide_eq_false (by simpa using k)
  ·simp only[jD,ei,g,wk];exact decide_eq_true (eq_of_beq k)
 ·have hA:allI d.aw.length (jD d.aw)=true:=iK fun j hj=>hR j (by omega)
  refine nv ?_
  simp only[fQ,hA,a3,decide_eq_true a4];rfl
def Yk:=cj (α:=aF×aJ) (qC (qA .c_) (q1 (qA .dk))) [.ro,.ro] (fun _=>[]) (fun(s,f)=>⟨[dI (iS s.ab f)],[],[]⟩)
def Dy(s:aF)(f:aJ):Int×T3×T7×Unit->Prop:=fun(i,b,g,_)=>b=(s.ab,s.Next,())/\g=(f.Kind,f.ah,())/\0<=i/\i<=s.ab.length/\∀j:Nat,(j:Int)<i->decide ((s.ab.getD j aX).F=f)=false
def CM(s:aF)(f:aJ):Int×T3×T7×Unit->Nat:=fun(i,b,g,_)=>s.ab.length-i.toNat
def ajg:AX Yk:=fun(s,f)=>bW [(2,aU [iI 5,.box 2 (2,1024) [.shr .aH,.lit (.int .i64)],.box 3 (3,1024) [.lit .str,.shr .bc]] (fun _=>Dy s f) (CM s f))]
def OY:HH:=hF Yk func108 [FI] ajg fun x hp hb=>by
 obtain⟨s,f⟩:=x
 have eQ:=ii (x:=s) (hb _ m0)
 have dw:=eh (x:=f) (hb _ m1)
 have dW:=dw.1
 have cF:=dw.2
 clear hp hb
 apply vE (Dy s f (0,(s.ab,s.Next,()),(f.Kind,f.ah,()),())/\∀(y:Int×NJ×WA×PUnit),let x0:=y.2.1.1.getD y.1.toNat aX;let x2:=y.2.1.1.length;let x1:=(↑x2:Int);let q0:=(wrap i64 (y.1+1),(y.2.1.1,y.2.1.2.1,()),(y.2.2.1.1,y.2.2.1.2.1,()),());Dy s f y->bif decide (y.1<x1) then 0<=y.1/\y.1.toNat<x2/\bif decide (x0.F={Kind:=y.2.2.1.1,ah:=y.2.2.1.2.1:aJ}) then 0<=y.1/\y.1.toNat<x2/\Li x0.Id (iS s.ab f) else Dy s f q0/\CM s f q0<CM s f y else Li 0 (iS s.ab f))
 dsimp only
 refine⟨⟨rfl,rfl,by omega,by omega,by intro j hj;omega⟩,?_⟩
 rintro⟨i,⟨b1,b2,⟨⟩⟩,⟨g1,g2,⟨⟩⟩,⟨⟩⟩ ⟨rP,hg,h1,h2,hR⟩
 cases rP
 cases hg
 simp only
 refine aQ ?_ ?_<;>intro hc
 ·rw[wi]
  refine⟨by omega,by omega,aQ (fun h=>⟨by omega,by omega,oT ?_⟩) (fun h=>⟨⟨rfl,rfl,by omega,by omega,jk (p:=fun j=>decide ((s.ab.getD j aX).F=f)) h1 hR (decide_eq_false h)⟩,by simp only[CM];omega⟩)⟩
  have e:Ex s.ab f=(i.toNat:Int):=fL (i:=i.toNat) (by omega) (decide_eq_true h) (fun j hj=>hR j (by omega))
  rw[iS,e,if_neg (by omega),YW]
 ·refine oT ?_
  have e:Ex s.ab f= -1:=jx (fun j hj=>hR j (by omega))
  rw[iS,if_pos e]
def Yi:=cj (α:=aF×Int) (qC (qA .c_) (q1 qI)) [.ro,.ro] (fun(s,id)=>[L4 (bY s.ab)]) (fun(s,id)=>⟨[dA .dk (oM s.ab id),dO (kr s.ab id)],[],[]⟩)
def Dx(s:aF)(id:Int):Int×T3×T7×Unit->Prop:=fun(i,b,g,_)=>b=(s.ab,s.Next,())/\0<=i/\i<=s.ab.length/\∀j:Nat,(j:Int)<i->decide ((s.ab.getD j aX).Id=id)=false
def CK(s:aF)(id:Int):Int×T3×T7×Unit->Nat:=fun(i,b,g,_)=>s.ab.length-i.toNat
def aje:AX Yi:=fun(s,id)=>bW [(2,aU [iI 6,.box 2 (2,1024) [.shr .aH,.lit (.int .i64)],.box 4 (4,1024) [.lit .str,.own .bc true]] (fun _=>Dx s id) (CK s id))]
def aia:HH:=hF Yi func114 [sd] aje fun x hp hb=>by
 obtain⟨s,id⟩:=x
 have eQ:=ii (x:=s) (hb _ m0)
 have Oi:=tg (n:=id) (hb _ m1)
 have bo:bY s.ab<=4294967296:=hp _ m0
 clear hp hb
 apply vE (let q0:=oM s.ab id;Dx s id (0,(s.ab,s.Next,()),({data:= #[]:BA},[],()),())/\∀(y:Int×NJ×WA×PUnit),let x2:=y.2.1.1.getD y.1.toNat aX;let x4:=y.2.1.1.length;let x1:=x2.F;let x3:=(↑x4:Int);let x0:=x1.ah;let q1:=(wrap i64 (y.1+1),(y.2.1.1,y.2.1.2.1,()),(y.2.2.1.1,y.2.2.1.2.1,()),());Dx s id y->bif decide (y.1<x3) then 0<=y.1/\y.1.toNat<x4/\bif x2.Id==id then 0<=y.1/\y.1.toNat<x4/\L4 x0.length/\Lf [DV.agg [CS x1.Kind,CL .bc x0],VB true] [DV.agg [CS (q0.Kind),CL .bc q0.ah],VB (kr s.ab id)] else Dx s id q1/\CK s id q1<CK s id y else Lf [DV.agg [CS ({data:= #[]:BA}),CL .bc []],VB false] [DV.agg [CS (q0.Kind),CL .bc q0.ah],VB (kr s.ab id)])
 dsimp only
 refine⟨⟨rfl,by omega,by omega,by intro j hj;omega⟩,?_⟩
 rintro⟨i,⟨b1,b2,⟨⟩⟩,⟨g1,g2,⟨⟩⟩,⟨⟩⟩ ⟨rP,h1,h2,hR⟩
 cases rP
 simp only
 refine aQ ?_ ?_<;>intro hc
 ·rw[wi]
  have hs:=er j0 s.ab aX h1 hc
  simp only[j0,dj,eO] at hs
  simp only[bY,j0,dj,eO] at bo
  refine⟨by omega,by omega,bi (fun h=>⟨by omega,by omega,by omega,?_⟩) (fun h=>⟨⟨rfl,by omega,by omega,jk (p:=fun j=>decide ((s.ab.getD j aX).Id=id)) h1 hR (decide_eq_false h)⟩,by simp only[CK];omega⟩)⟩
  have e:vq s.ab id=(i.toNat:Int):=fL (i:=i.toNat) (by omega) (decide_eq_true h) (fun j hj=>hR j (by omega))
  have e1:oM s.ab id=(s.ab.getD i.toNat aX).F:=by rw[oM,e,if_neg (by omega),YW]
  have e2:kr s.ab id=true:=iJ (j:=i.toNat) (by omega) (decide_eq_true h)
  rw[e1,e2];exact bf _
 ·have e:vq s.ab id= -1:=jx (fun j hj=>hR j (by omega))
  have e1:oM s.ab id=ui:=by rw[oM,if_pos e]
  have e2:kr s.ab id=false:=gz fun j hj=>hR j (by omega)
  rw[e1,e2];exact bf _
def aeL:=cj (α:=aF×Int) (qC (qA .c_) (q1 qI)) [.ro,.ro] (fun(s,id)=>[L4 (bY s.ab)]) (fun(s,id)=>⟨[dA .dk (oM s.ab id),dO (kr s.ab id)],[],[]⟩)
def Jf(s:aF)(id:Int):Int×T7×Unit->Prop:=fun(i,g,_)=>0<=i/\i<=s.ab.length/\∀j:Nat,(j:Int)<i->decide ((s.ab.getD j aX).Id=id)=false
def IF(s:aF)(id:Int):Int×T7×Unit->Nat:=fun(i,g,_)=>s.ab.length-i.toNat
def aoE:AX aeL:=fun(s,id)=>bW [(2,aU [iI 11,.box 4 (4,1024) [.lit .str,.own .bc true]] (fun _=>Jf s id) (IF s id))]
def anQ:HH:=hF aeL func86 [Bp] aoE fun x hp hb=>by
 obtain⟨s,id⟩:=x
 have eQ:=ii (x:=s) (hb _ m0)
 have Oi:=tg (n:=id) (hb _ m1)
 have bo:bY s.ab<=4294967296:=hp _ m0
 clear hp hb
 apply vE (let q0:=oM s.ab id;Jf s id (0,({data:= #[]:BA},[],()),())/\∀(y:Int×WA×PUnit),let q1:=s.ab.getD y.1.toNat aX;let q2:=(wrap i64 (y.1+1),(y.2.1.1,y.2.1.2.1,()),());Jf s id y->bif decide (y.1<(s.ab.length:Int)) then 0<=y.1/\y.1.toNat<s.ab.length/\bif q1.Id==id then L4 q1.F.ah.length/\Lf [DV.agg [CS (q1.F.Kind),CL .bc q1.F.ah],VB true] [DV.agg [CS (q0.Kind),CL .bc q0.ah],VB (kr s.ab id)] else Jf s id q2/\IF s id q2<IF s id y else Lf [DV.agg [CS ({data:= #[]:BA}),CL .bc []],VB false] [DV.agg [CS (q0.Kind),CL .bc q0.ah],VB (kr s.ab id)])
 dsimp only
 refine⟨⟨by omega,by omega,by intro j hj;omega⟩,?_⟩
 rintro⟨i,⟨g1,g2,⟨⟩⟩,⟨⟩⟩ ⟨h1,h2,hR⟩
 simp only
 refine aQ ?_ ?_<;>intro hc
 ·rw[wi]
  have hs:=er j0 s.ab aX h1 hc
  simp only[j0,dj,eO] at hs
  simp only[bY,j0,dj,eO] at bo
  refine⟨by omega,by omega,bi (fun h=>⟨by omega,?_⟩) (fun h=>⟨⟨by omega,by omega,jk (p:=fun j=>decide ((s.ab.getD j aX).Id=id)) h1 hR (decide_eq_false h)⟩,by simp only[IF];omega⟩)⟩
  have e:vq s.ab id=(i.toNat:Int):=fL (i:=i.toNat) (by omega) (decide_eq_true h) (fun j hj=>hR j (by omega))
  have e1:oM s.ab id=(s.ab.getD i.toNat aX).F:=by rw[oM,e,if_neg (by omega),YW]
  have e2:kr s.ab id=true:=iJ (j:=i.toNat) (by omega) (decide_eq_true h)
  rw[e1,e2];exact bf _
 ·have e:vq s.ab id= -1:=jx (fun j hj=>hR j (by omega))
  have e1:oM s.ab id=ui:=by rw[oM,if_pos e]
  have e2:kr s.ab id=false:=gz fun j hj=>hR j (by omega)
  rw[e1,e2];exact bf _
def aeY:=cj (α:=aF) (q1 (qA .c_)) [.ro] (fun _=>[]) (fun s=>⟨[dO (br s)],[],[]⟩)
def FC(s:aF):Int×T3×Unit->Prop:=fun(i,b,_)=>b=(s.ab,s.Next,())/\0<=i/\i<=s.ab.length/\∀j:Nat,(j:Int)<i->oH s j=true
def Az(s:aF):Int×T3×Unit->Nat:=fun(i,b,_)=>s.ab.length-i.toNat
def aoQ:AX aeY:=fun s=>bW [(4,aU [iI 3,.box 1 (1,1024) [.shr .aH,.lit (.int .i64)]] (fun _=>FC s) (Az s))]
def an6:HH:=hF aeY func62 [tF,L_,OY] aoQ fun(s:aF) hp hb=>by
 have eQ:=ii (x:=s) (hb _ m0)
 clear hp hb
 apply vE (let q0:=Lb false (br s);bif !decide (1<=s.Next/\s.Next<=1000000) then q0 else bif decide ((s.ab.length:Int)>40) then q0 else FC s (0,(s.ab,s.Next,()),())/\∀(y:Int×NJ×PUnit),let x1:=y.2.1.1.length;let x4:=y.2.1.1.getD y.1.toNat aX;let x5:=Int.toNat (wrap i64 (y.1-1));let x0:=x4.Id;let x2:=(y.2.1.1.getD x5 aX).Id;let x3:=x4.F;let q1:=bif iS y.2.1.1 x3 !=x0 then q0 else FC s (wrap i64 (y.1+1),(y.2.1.1,y.2.1.2.1,()),())/\Az s (wrap i64 (y.1+1),(y.2.1.1,y.2.1.2.1,()),())<Az s y;FC s y->bif decide (y.1<(↑x1:Int)) then 0<=y.1/\y.1.toNat<x1/\bif !bw x3 then q0 else bif decide (x0<1) then q0 else bif decide (x0≥y.2.1.2.1) then q0 else bif decide (y.1>0) then 0<=wrap i64 (y.1-1)/\x5<x1/\bif decide (x2≥x0) then q0 else q1 else q1 else Lb true (br s))
 dsimp only
 refine bE (fun a1=>bD (by simp only[br,a1,p_])) (fun a1=>aQ (fun a2=>bD ?_) (fun a2=> ?_))
 ·simp only[br];rw[decide_eq_false (p:=s.ab.length<=40) (by omega),tI,p_]
 refine⟨⟨rfl,by omega,by omega,by intro j hj;omega⟩,?_⟩
 rintro⟨i,⟨b1,b2,⟨⟩⟩,⟨⟩⟩ ⟨rP,h1,h2,hR⟩
 cases rP
 simp only
 refine aQ ?_ ?_<;>intro hc
 ·have hN:oH s i.toNat=false->br s=false:=fun h=>by
   have hf:allI s.ab.length (oH s)=false:=gY (j:=i.toNat) (by omega) h
   simp only[br,hf,tI]
  have e1:(i-1).toNat=i.toNat-1:=by omega
  simp(disch:=omega) only[wrap_i64]
  simp only[e1]
  have hi1:i>0->0<=i-1:=fun h=>by omega
  have gZ:i.toNat<s.ab.length:=by omega
  have EB:i.toNat-1<s.ab.length:=by omega
  have Xb:oH s i.toNat=true->FC s (i+1,(s.ab,s.Next,PUnit.unit),PUnit.unit)/\Az s (i+1,(s.ab,s.Next,PUnit.unit),PUnit.unit)<Az s (i,(s.ab,s.Next,PUnit.unit),PUnit.unit):=fun h=>⟨⟨rfl,by omega,by omega,gj h1 hR h⟩,by simp only[Az];omega⟩
  have c3:decide (0<i.toNat)=decide (i>0):=decide_eq_decide.2 (by omega)
  simp only[oH,jX,c3] at hN Xb
  generalize hA:s.ab.getD i.toNat aX=a at*
  generalize hB:s.ab.getD (i.toNat-1) aX=b at*
  generalize hQ:iS s.ab a.F=q at*
  generalize hO:bw a.F=o at*
  refine And.intro h1 (And.intro gZ ?_)
  repeat' (first|refine bD (hN ?_)|refine Xb ?_|refine aQ (fun h=> ?_) (fun h=> ?_)|refine bE (fun h=> ?_) (fun h=> ?_)|refine And.intro EB ?_|refine And.intro (hi1 (by assumption)) ?_)
  all_goals (cases o<;>simp at* <;>omega)
 ·have hA:allI s.ab.length (oH s)=true:=iK fun j hj=>hR j (by omega)
  refine nv ?_
  simp only[br,hA,a1,decide_eq_true (show s.ab.length<=40 by omega)];rfl
def afl:=cj (α:=aF) (q1 (qA .c_)) [.ro] (fun _=>[]) (fun s=>⟨[dO (br s)],[],[]⟩)
def FF(s:aF):Int×T3×Unit->Prop:=fun(i,b,_)=>b=(s.ab,s.Next,())/\0<=i/\i<=s.ab.length/\∀j:Nat,(j:Int)<i->jn s j=true
def xl(s:aF):Int×T3×Unit->Nat:=fun(i,b,_)=>s.ab.length-i.toNat
def xm(s:aF):Int×Int×T19×T3×Unit->Int×Int×T19×T3×Unit->Prop:=fun(i0,k0,x0,b0,_) (i,k,x,b,_)=>i=i0/\x=x0/\b=b0/\0<=k/\k<=i/\∀j:Nat,(j:Int)<k->decide ((s.ab.getD i.toNat aX).F=(s.ab.getD j aX).F)=false
def xk(s:aF):Int×Int×T19×T3×Unit->Nat:=fun(i,k,x,b,_)=>i.toNat-k.toNat
def ao_:AX afl:=fun s=>bW [(4,aU [iI 20,.box 1 (1,1024) [.shr .aH,.lit (.int .i64)]] (fun _=>FF s) (xl s)),(9,aU [iI 20,iI 59,.box 4 (4,1024) [.lit (.int .i64),.lit .str,.shr .bc],.box 1 (1,1024) [.shr .aH,.lit (.int .i64)]] (xm s) (xk s))]
def aoo:HH:=hF afl func24 [FH,QJ,Wx] ao_ fun(s:aF) hp hb=>by
 have eQ:=ii (x:=s) (hb _ m0)
 clear hp hb
 apply vE (let x0:=(s.ab.length:Int);let x1:=Option.getD none (0:Int);let q0:=Lb false (br s);let q1:=List bL×Int×PUnit;bif decide (x0>40) then q0 else bif !decide (1<=s.Next/\s.Next<=1000000) then q0 else FF s (0,(s.ab,s.Next,()),())/\∀(y:Int×q1×PUnit),let x8:=y.2.1.1.length;let x9:=(s.ab.getD y.1.toNat aX).Id;let oV:=(s.ab.getD y.1.toNat aX).F;let qb:=Int.toNat (wrap i64 (y.1-1));let x4:=(y.2.1.1.getD qb aX).Id;let x7:=(↑x8:Int);let x3:=Option.getD (some y.1) x7;let x6:=(y.2.1.1.take x3.toNat).drop x1.toNat;let x5:=x6.length;let x2:=(↑x5:Int);let q2:=(y.1,0,(x9,oV.Kind,oV.ah,()),(y.2.1.1,y.2.1.2.1,()),());FF s y->bif decide (y.1<x0) then 0<=y.1/\y.1.toNat<s.ab.length/\bif !bw oV then q0 else bif !decide (1<=x9/\x9<=wrap i64 (y.2.1.2.1-1)) then q0 else bif decide (y.1>0) then 0<=wrap i64 (y.1-1)/\qb<x8/\bif decide (x9<=x4) then q0 else 0<=x1/\x1<=x3/\x3<=x7/\xm s q2 q2/\∀(aL:Int×Int×T21×q1×PUnit),let wI:=aL.2.1.toNat;let q3:=(aL.1,wrap i64 (aL.2.1+1),(aL.2.2.1.1,aL.2.2.1.2.1,aL.2.2.1.2.2.1,()),(aL.2.2.2.1.1,aL.2.2.2.1.2.1,()),());let q4:=(wrap i64 (aL.1+1),(aL.2.2.2.1.1,aL.2.2.2.1.2.1,()),());xm s q2 aL->bif decide (aL.2.1<x2) then 0<=aL.2.1/\wI<x5/\bif decide ({Kind:=aL.2.2.1.2.1,ah:=aL.2.2.1.2.2.1:aJ}=(x6.getD wI aX).F) then q0 else xm s q2 q3/\xk s q3<xk s aL else FF s q4/\xl s q4<xl s y else 0<=x1/\x1<=x3/\x3<=x7/\xm s q2 q2/\∀(aL:Int×Int×T21×q1×PUnit),let wI:=aL.2.1.toNat;let q5:=(aL.1,wrap i64 (aL.2.1+1),(aL.2.2.1.1,aL.2.2.1.2.1,aL.2.2.1.2.2.1,()),(aL.2.2.2.1.1,aL.2.2.2.1.2.1,()),());let q6:=(wrap i64 (aL.1+1),(aL.2.2.2.1.1,aL.2.2.2.1.2.1,()),());xm s q2 aL->bif decide (aL.2.1<x2) then 0<=aL.2.1/\wI<x5/\bif decide ({Kind:=aL.2.2.1.2.1,ah:=aL.2.2.1.2.2.1:aJ}=(x6.getD wI aX).F) then q0 else xm s q2 q5/\xk s q5<xk s aL else FF s q6/\xl s q6<xl s y else Lb true (br s))
 dsimp only
 have hF:(decide (1<=s.Next/\s.Next<=1000000)&&decide (s.ab.length<=40)&&allI s.ab.length (jn s))=br s:=by rw[DQ];rfl
 refine aQ (fun a2=>bD ?_) (fun a2=>bE (fun a1=>bD (by simp only[br,a1,p_])) (fun a1=> ?_))
 ·simp only[br];rw[decide_eq_false (p:=s.ab.length<=40) (by omega),tI,p_]
 have a3:=yT a1
 refine⟨⟨rfl,by omega,by omega,by intro j hj;omega⟩,?_⟩
 rintro⟨i,⟨b1,b2,⟨⟩⟩,⟨⟩⟩ ⟨rP,h1,h2,hR⟩
 cases rP
 simp only
 refine aQ ?_ ?_<;>intro hc
 ·have hN:jn s i.toNat=false->br s=false:=fun h=>by
   have hf:allI s.ab.length (jn s)=false:=gY (j:=i.toNat) (by omega) h
   rw[<-hF,hf,tI]
  have e1:(i-1).toNat=i.toNat-1:=by omega
  have c3:decide (0<i.toNat)=decide (i>0):=decide_eq_decide.2 (by omega)
  rw[wi (n:=s.Next-1),wi (n:=i-1),e1]
  have QP:jX s i.toNat=false->br s=false:=fun h=>hN (by simp only[jn,h,p_])
  refine⟨by omega,by omega,bE (fun a=>bD (QP (by simp only[jX,a,p_]))) (fun a=>bE (fun a'=>bD (QP ?_)) (fun a'=>aQ (fun p=>⟨by omega,by omega,aQ (fun q=>bD (QP ?_)) (fun q=> ?_)⟩) (fun p=> ?_)))⟩
  ·have a':=yF a'
   by_cases g:1<=(s.ab.getD i.toNat aX).Id
   ·simp only[jX,decide_eq_false (show¬(s.ab.getD i.toNat aX).Id<s.Next by omega),tI,p_]
   ·simp only[jX,decide_eq_false g,tI,p_]
  ·simp only[jX,c3,decide_eq_true p,decide_eq_true q,BE,WG,tI]
  ·have a':=yT a'
   have Le:jX s i.toNat=true:=by
    simp only[jX,a,decide_eq_true a'.1,decide_eq_true (show(s.ab.getD i.toNat aX).Id<s.Next by omega),decide_eq_false q,tI,Uz,BE]
   refine⟨Int.le_refl 0,by simp only[Uk,Gm];omega,by simp only[Gm];omega,⟨rfl,rfl,rfl,by omega,by omega,by intro j hj;omega⟩,?_⟩
   rintro⟨i',k,⟨x1,x2,x3,⟨⟩⟩,⟨y1,y2,⟨⟩⟩,⟨⟩⟩ ⟨rfl,hx,hy,k1,k2,kR⟩
   cases hx
   cases hy
   simp only[Uk,Gm,show Int.toNat 0=0 from rfl,List.drop_zero]
   have etl:(s.ab.take i'.toNat).length=i'.toNat:=by rw[oz];omega
   refine aQ ?_ ?_<;>intro hk
   ·rw[etl] at hk
    rw[Ab s.ab aX (show k.toNat<i'.toNat by omega),etl,wi (n:=k+1)]
    refine⟨k1,by omega,aQ (fun e=>bD (hN ?_)) (fun e=>⟨⟨rfl,rfl,rfl,by omega,by omega,jk (p:=fun j=>decide ((s.ab.getD i'.toNat aX).F=(s.ab.getD j aX).F)) k1 kR (decide_eq_false e)⟩,by simp only[xk];omega⟩)⟩
    have ha:(anyI i'.toNat fun k=>decide ((s.ab.getD i'.toNat aX).F=(s.ab.getD k aX).F))=true:=iJ (j:=k.toNat) (by omega) (decide_eq_true e)
    simp only[jn,ha,WG,tI]
   ·rw[etl] at hk
    rw[wi (n:=i'+1)]
    refine⟨⟨rfl,by omega,by omega,gj h1 hR ?_⟩,by simp only[xl];omega⟩
    have ha:(anyI i'.toNat fun k=>decide ((s.ab.getD i'.toNat aX).F=(s.ab.getD k aX).F))=false:=gz fun j hj=>kR j (by omega)
    simp only[jn,ha,Le,Uz,BE]
  ·have a':=yT a'
   have Le:jX s i.toNat=true:=by
    simp only[jX,c3,a,decide_eq_true a'.1,decide_eq_true (show(s.ab.getD i.toNat aX).Id<s.Next by omega),decide_eq_false p,p_,Uz,BE]
   refine⟨Int.le_refl 0,by simp only[Uk,Gm];omega,by simp only[Gm];omega,⟨rfl,rfl,rfl,by omega,by omega,by intro j hj;omega⟩,?_⟩
   rintro⟨i',k,⟨x1,x2,x3,⟨⟩⟩,⟨y1,y2,⟨⟩⟩,⟨⟩⟩ ⟨rfl,hx,hy,k1,k2,kR⟩
   cases hx
   cases hy
   simp only[Uk,Gm,show Int.toNat 0=0 from rfl,List.drop_zero]
   have etl:(s.ab.take i'.toNat).length=i'.toNat:=by rw[oz];omega
   refine aQ ?_ ?_<;>intro hk
   ·rw[etl] at hk
    rw[Ab s.ab aX (show k.toNat<i'.toNat by omega),etl,wi (n:=k+1)]
    refine⟨k1,by omega,aQ (fun e=>bD (hN ?_)) (fun e=>⟨⟨rfl,rfl,rfl,by omega,by omega,jk (p:=fun j=>decide ((s.ab.getD i'.toNat aX).F=(s.ab.getD j aX).F)) k1 kR (decide_eq_false e)⟩,by simp only[xk];omega⟩)⟩
    have ha:(anyI i'.toNat fun k=>decide ((s.ab.getD i'.toNat aX).F=(s.ab.getD k aX).F))=true:=iJ (j:=k.toNat) (by omega) (decide_eq_true e)
    simp only[jn,ha,WG,tI]
   ·rw[etl] at hk
    rw[wi (n:=i'+1)]
    refine⟨⟨rfl,by omega,by omega,gj h1 hR ?_⟩,by simp only[xl];omega⟩
    have ha:(anyI i'.toNat fun k=>decide ((s.ab.getD i'.toNat aX).F=(s.ab.getD k aX).F))=false:=gz fun j hj=>kR j (by omega)
    simp only[jn,ha,Le,Uz,BE]
 ·have hA:allI s.ab.length (jn s)=true:=iK fun j hj=>hR j (by omega)
  refine nv ?_
  rw[<-hF,hA,a1,decide_eq_true (show s.ab.length<=40 by omega)];rfl
theorem EW{d:bp}{s:List bL}{m:au}(h1:ko d m=true)(h2:m.bu.length=0)(h3:m.eH.length=cR (d.aw.getD m.cL.toNat cq).aD):jc d s m=m.eH.all (kr s):=by
 simp only[jc,h1,decide_eq_true h2,decide_eq_true h3,wk]
theorem yG(x:aq):bY x.S.ab<=dy x:=by
 simp only[dy,j9];omega
theorem oe{d:bp}{m:au}(h:ko d m=true):0<=m.cL/\m.cL<(d.aw.length:Int):=by
 simpa[ko] using h
theorem GF{d:bp}{m:au}(h:ko d m=true):cR (d.aw.getD m.cL.toNat cq).aD<=cG d:=by
 obtain⟨h1,h2⟩:=oe h
 have hs:=er eg d.aw cq h1 h2
 have hle:cR (d.aw.getD m.cL.toNat cq).aD<=(d.aw.getD m.cL.toNat cq).aD.length:=Mq _ _
 simp only[eg,kB] at hs
 simp only[cG,j_,eg,kB];omega
def agj:=cj (α:=bp×au) (qC (qA .h_) (q1 (qA .aB))) [.ro,.ro] (fun _=>[]) (fun(d,m)=>⟨[dO (ko d m)],[],[]⟩)
def OX:HH:=hF agj func112 [] a0 fun x hp hb=>by
 obtain⟨d,m⟩:=x
 have aS:=gI (x:=d) (hb _ m0)
 have e_:=aS.1
 have ew:=aS.2
 have dw:=gQ (x:=m) (hb _ m1)
 have pJ:=dw.1
 have mi:=dw.2
 clear hp hb
 apply vE (bif decide (m.cL≥0) then Lb (decide (m.cL<(d.aw.length:Int))) (ko d m) else Lb false (ko d m))
 simp only[ko]
 refine aQ (fun h=>ck ?_) (fun h=>ck ?_)
 ·rw[decide_eq_true (show 0<=m.cL from h),wk]
 ·rw[decide_eq_false (show¬0<=m.cL from h),p_]
def am6:=cj (α:=bp×au) (qC (qA .h_) (q1 (qA .aB))) [.ro,.ro] (fun _=>[]) (fun(d,m)=>⟨[dO (ko d m)],[],[]⟩)
def anR:HH:=hF am6 func84 [] a0 fun x hp hb=>by
 obtain⟨d,m⟩:=x
 have aS:=gI (x:=d) (hb _ m0)
 have e_:=aS.1
 have ew:=aS.2
 have dw:=gQ (x:=m) (hb _ m1)
 have pJ:=dw.1
 have mi:=dw.2
 clear hp hb
 apply vE (bif decide (m.cL≥0) then Lb (decide (m.cL<(d.aw.length:Int))) (ko d m) else Lb false (ko d m))
 simp only[ko]
 refine aQ (fun h=>ck ?_) (fun h=>ck ?_)
 ·rw[decide_eq_true (show 0<=m.cL from h),wk]
 ·rw[decide_eq_false (show¬0<=m.cL from h),p_]
def aeU:=cj (α:=bp×aq) (qC (qA .h_) (q1 (qA .ct))) [.ro,.ro] (fun(d,x)=>[cG d<=4294967295,L4 (bY x.S.ab)]) (fun(d,x)=>⟨[dO (iU d x)],[],[]⟩)
def Jn(d:bp)(x:aq):Int×T2×T0×Unit->Prop:=fun(i,b,g,_)=>b=(d.Name,d.aw,())/\g=(x.S.ab,x.S.Next,x.aC,x.ap,x.ax,x.ay,x.State,x.cJ,())/\0<=i/\i<=x.aC.length/\(x.aC.drop i.toNat).all (jc d x.S.ab)=x.aC.all (jc d x.S.ab)
def IN(d:bp)(x:aq):Int×T2×T0×Unit->Nat:=fun(i,b,g,_)=>x.aC.length-i.toNat
def Jm(d:bp)(x:aq):Int×Int×T2×T0×T8×Unit->Int×Int×T2×T0×T8×Unit->Prop:=fun(i0,k0,b0,g0,m0,_) (i,k,b,g,m,_)=>i=i0/\b=b0/\g=g0/\m=m0/\0<=k/\k<=(x.aC.getD i.toNat aV).eH.length/\((x.aC.getD i.toNat aV).eH.drop k.toNat).all (kr x.S.ab)=(x.aC.getD i.toNat aV).eH.all (kr x.S.ab)
def IM(d:bp)(x:aq):Int×Int×T2×T0×T8×Unit->Nat:=fun(i,k,b,g,m,_)=>(x.aC.getD i.toNat aV).eH.length-k.toNat
def aoM:AX aeU:=fun(d,x)=>bW [(2,aU [iI 5,.box 2 (2,1024) [.lit .str,.shr .bz],.box 3 (3,1024) [.shr .aH,.lit (.int .i64),.shr .aB,.shr .az,.shr .aI,.shr .aW,.lit (.int .i64),.lit (.int .i64)]] (fun _=>Jn d x) (IN d x)),(8,aU [iI 5,iI 7,.box 2 (2,1024) [.lit .str,.shr .bz],.box 3 (3,1024) [.shr .aH,.lit (.int .i64),.shr .aB,.shr .az,.shr .aI,.shr .aW,.lit (.int .i64),.lit (.int .i64)],.box 6 (6,1024) [.lit (.int .i64),.shr .int,.shr .cv]] (Jm d x) (IM d x))]
def an4:HH:=hF aeU func67 [OX,Mb,aia] aoM fun x hp hb=>by
 obtain⟨d,x⟩:=x
 have aS:=gI (x:=d) (hb _ m0)
 have e_:=aS.1
 have ew:=aS.2
 have dw:=hH (x:=x) (hb _ m1)
 have bC:=dw.1
 have cg:=dw.2.1
 have cf:=dw.2.2.1
 have bN:=dw.2.2.2.1
 have cd:=dw.2.2.2.2
 have bo:cG d<=4294967295:=hp _ m0
 have fw:bY x.S.ab<=4294967296:=hp _ m1
 clear hp hb
 apply vE (let q0:=List bL×Int×List au×List ak×List aK×List bj×Int×Int×PUnit;let q1:=Lb false (iU d x);Jn d x (0,(d.Name,d.aw,()),(x.S.ab,x.S.Next,x.aC,x.ap,x.ax,x.ay,x.State,x.cJ,()),())/\∀(y:Int×T9×q0×PUnit),let x0:=y.2.2.1.2.2.1.getD y.1.toNat aV;let x2:=y.2.2.1.2.2.1.length;let x1:=(↑x2:Int);let q2:=(y.1,0,(y.2.1.1,y.2.1.2.1,()),(y.2.2.1.1,y.2.2.1.2.1,y.2.2.1.2.2.1,y.2.2.1.2.2.2.1,y.2.2.1.2.2.2.2.1,y.2.2.1.2.2.2.2.2.1,y.2.2.1.2.2.2.2.2.2.1,y.2.2.1.2.2.2.2.2.2.2.1,()),(x0.cL,x0.eH,x0.bu,()),());Jn d x y->bif decide (y.1<x1) then 0<=y.1/\y.1.toNat<x2/\bif !ko {Name:=y.2.1.1,aw:=y.2.1.2.1:bp} x0 then q1 else bif (x0.bu.length:Int) !=0 then q1 else 0<=x0.cL/\x0.cL.toNat<y.2.1.2.1.length/\bif (x0.eH.length:Int) !=(↑(cR (y.2.1.2.1.getD x0.cL.toNat cq).aD):Int) then q1 else Jm d x q2 q2/\∀(aL:Int×Int×T9×q0×YR×PUnit),let x4:=aL.2.2.2.2.1.2.1.length;let x5:=aL.2.1.toNat;let x3:=(↑x4:Int);let q3:=(aL.2.2.2.1.1,aL.2.2.2.1.2.1,aL.2.2.2.1.2.2.1,aL.2.2.2.1.2.2.2.1,aL.2.2.2.1.2.2.2.2.1,aL.2.2.2.1.2.2.2.2.2.1,aL.2.2.2.1.2.2.2.2.2.2.1,aL.2.2.2.1.2.2.2.2.2.2.2.1,());let q4:=(aL.1,wrap i64 (aL.2.1+1),(aL.2.2.1.1,aL.2.2.1.2.1,()),q3,(aL.2.2.2.2.1.1,aL.2.2.2.2.1.2.1,aL.2.2.2.2.1.2.2.1,()),());let q5:=(wrap i64 (aL.1+1),(aL.2.2.1.1,aL.2.2.1.2.1,()),q3,());Jm d x q2 aL->bif decide (aL.2.1<x3) then 0<=aL.2.1/\x5<x4/\L4 (bY aL.2.2.2.1.1)/\bif !kr aL.2.2.2.1.1 (aL.2.2.2.2.1.2.1.getD x5 0) then q1 else Jm d x q2 q4/\IM d x q4<IM d x aL else Jn d x q5/\IN d x q5<IN d x y else Lb (decide (x1<=1000)) (iU d x))
 dsimp only
 refine⟨⟨rfl,rfl,by omega,by omega,rfl⟩,?_⟩
 rintro⟨i,⟨b1,b2,⟨⟩⟩,⟨g1,g2,g3,g4,g5,g6,g7,g8,⟨⟩⟩,⟨⟩⟩ ⟨hb,hg,h1,h2,hR⟩
 cases hb
 cases hg
 simp only
 refine aQ ?_ ?_<;>intro hc
 ·rw[en _ _ aV h1 hc] at hR
  have hN:jc d x.S.ab (x.aC.getD i.toNat aV)=false->iU d x=false:=fun h=>by simp only[iU,<-hR,h,p_,tI]
  refine⟨by omega,by omega,bE (fun a=>bD (hN ?_)) (fun a=>bE (fun b=>bD (hN ?_)) (fun b=> ?_))⟩
  ·have a:ko d (x.aC.getD i.toNat aV)=false:=a
   simp only[jc,a,p_]
  ·have b:¬(x.aC.getD i.toNat aV).bu.length=0:=by simpa using b
   simp only[jc,decide_eq_false b,p_,tI]
  have a:ko d (x.aC.getD i.toNat aV)=true:=a
  have b:(x.aC.getD i.toNat aV).bu.length=0:=by simpa using b
  obtain⟨r1,r2⟩:=oe a
  have hz:=GF a
  refine⟨r1,by omega,bE (fun c=>bD (hN ?_)) (fun c=>⟨⟨rfl,rfl,rfl,rfl,by omega,by omega,rfl⟩,?_⟩)⟩
  ·have c:¬(x.aC.getD i.toNat aV).eH.length=cR (d.aw.getD (x.aC.getD i.toNat aV).cL.toNat cq).aD:=fun e=>by rw[e] at c;simp at c
   simp only[jc,decide_eq_false c,p_,tI]
  have c:(x.aC.getD i.toNat aV).eH.length=cR (d.aw.getD (x.aC.getD i.toNat aV).cL.toNat cq).aD:=by
   have c:=eq_of_beq c
   omega
  have hM:=EW (s:=x.S.ab) a b c
  rintro⟨i',k,⟨b1,b2,⟨⟩⟩,⟨g1,g2,g3,g4,g5,g6,g7,g8,⟨⟩⟩,⟨m1,m2,m3,⟨⟩⟩,⟨⟩⟩ ⟨rfl,hb,hg,hm,k1,k2,kR⟩
  cases hb
  cases hg
  cases hm
  simp only
  refine aQ ?_ ?_<;>intro hk
  ·rw[en _ _ 0 k1 hk] at kR
   rw[wi (n:=k+1)]
   exact⟨by omega,by omega,fw,bE (fun e=>bD (hN (by rw[hM,<-kR,e,p_]))) (fun e=>⟨⟨rfl,rfl,rfl,rfl,by omega,by omega,by rw[<-kR,e,wk]⟩,by simp only[IM];omega⟩)⟩
  ·rw[cy _ (by omega)] at kR
   rw[wi (n:=i'+1)]
   exact⟨⟨rfl,rfl,by omega,by omega,by rw[<-hR,hM,<-kR];rfl⟩,by simp only[IN];omega⟩
 ·rw[cy _ (by omega)] at hR
  refine ck ?_
  simp only[iU,<-hR,QR,BE];exact decide_eq_decide.2 (by omega)
def afc:=cj (α:=bp×aq) (qC (qA .h_) (q1 (qA .ct))) [.ro,.ro] (fun(d,x)=>[cG d<=4294967295,L4 (bY x.S.ab)]) (fun(d,x)=>⟨[dO (iU d x)],[],[]⟩)
def JG(d:bp)(x:aq):Int×T2×T0×Unit->Prop:=fun(i,b,g,_)=>b=(d.Name,d.aw,())/\g=(x.S.ab,x.S.Next,x.aC,x.ap,x.ax,x.ay,x.State,x.cJ,())/\x.aC.length<=1000/\0<=i/\i<=x.aC.length/\(x.aC.drop i.toNat).all (jc d x.S.ab)=x.aC.all (jc d x.S.ab)
def I4(d:bp)(x:aq):Int×T2×T0×Unit->Nat:=fun(i,b,g,_)=>x.aC.length-i.toNat
def JF(d:bp)(x:aq):Int×Int×T2×T0×Unit->Int×Int×T2×T0×Unit->Prop:=fun(i0,k0,b0,g0,_) (i,k,b,g,_)=>i=i0/\b=b0/\g=g0/\0<=k/\k<=(x.aC.getD i.toNat aV).eH.length/\((x.aC.getD i.toNat aV).eH.drop k.toNat).all (kr x.S.ab)=(x.aC.getD i.toNat aV).eH.all (kr x.S.ab)
def I3(d:bp)(x:aq):Int×Int×T2×T0×Unit->Nat:=fun(i,k,b,g,_)=>(x.aC.getD i.toNat aV).eH.length-k.toNat
def ao7:AX afc:=fun(d,x)=>bW [(4,aU [iI 18,.box 2 (2,1024) [.lit .str,.shr .bz],.box 3 (3,1024) [.shr .aH,.lit (.int .i64),.shr .aB,.shr .az,.shr .aI,.shr .aW,.lit (.int .i64),.lit (.int .i64)]] (fun _=>JG d x) (I4 d x)),(9,aU [iI 18,iI 48,.box 2 (2,1024) [.lit .str,.shr .bz],.box 3 (3,1024) [.shr .aH,.lit (.int .i64),.shr .aB,.shr .az,.shr .aI,.shr .aW,.lit (.int .i64),.lit (.int .i64)]] (JF d x) (I3 d x))]
def aol:HH:=hF afc func30 [anR,abm,anQ] ao7 fun x hp hb=>by
 obtain⟨d,x⟩:=x
 have aS:=gI (x:=d) (hb _ m0)
 have e_:=aS.1
 have ew:=aS.2
 have dw:=hH (x:=x) (hb _ m1)
 have bC:=dw.1
 have cg:=dw.2.1
 have cf:=dw.2.2.1
 have bN:=dw.2.2.2.1
 have cd:=dw.2.2.2.2
 have bo:cG d<=4294967295:=hp _ m0
 have fw:bY x.S.ab<=4294967296:=hp _ m1
 clear hp hb
 apply vE (let x0:=(x.aC.length:Int);let q0:=List bL×Int×List au×List ak×List aK×List bj×Int×Int×PUnit;let q1:=Lb false (iU d x);bif decide (x0>1000) then q1 else JG d x (0,(d.Name,d.aw,()),(x.S.ab,x.S.Next,x.aC,x.ap,x.ax,x.ay,x.State,x.cJ,()),())/\∀(y:Int×T9×q0×PUnit),let x2:=x.aC.getD y.1.toNat aV;let x1:=(x2.eH.length:Int);let q2:=(y.1,0,(y.2.1.1,y.2.1.2.1,()),(y.2.2.1.1,y.2.2.1.2.1,y.2.2.1.2.2.1,y.2.2.1.2.2.2.1,y.2.2.1.2.2.2.2.1,y.2.2.1.2.2.2.2.2.1,y.2.2.1.2.2.2.2.2.2.1,y.2.2.1.2.2.2.2.2.2.2.1,()),());JG d x y->bif decide (y.1<x0) then 0<=y.1/\y.1.toNat<x.aC.length/\bif !ko {Name:=y.2.1.1,aw:=y.2.1.2.1:bp} x2 then q1 else bif (x2.bu.length:Int) !=0 then q1 else 0<=x2.cL/\x2.cL.toNat<y.2.1.2.1.length/\bif x1 !=(↑(cR (y.2.1.2.1.getD x2.cL.toNat cq).aD):Int) then q1 else JF d x q2 q2/\∀(aL:Int×Int×T9×q0×PUnit),let x3:=aL.2.1.toNat;let q3:=(aL.2.2.2.1.1,aL.2.2.2.1.2.1,aL.2.2.2.1.2.2.1,aL.2.2.2.1.2.2.2.1,aL.2.2.2.1.2.2.2.2.1,aL.2.2.2.1.2.2.2.2.2.1,aL.2.2.2.1.2.2.2.2.2.2.1,aL.2.2.2.1.2.2.2.2.2.2.2.1,());let q4:=(aL.1,wrap i64 (aL.2.1+1),(aL.2.2.1.1,aL.2.2.1.2.1,()),q3,());let q5:=(wrap i64 (aL.1+1),(aL.2.2.1.1,aL.2.2.1.2.1,()),q3,());JF d x q2 aL->bif decide (aL.2.1<x1) then 0<=aL.2.1/\x3<x2.eH.length/\L4 (bY aL.2.2.2.1.1)/\bif !kr aL.2.2.2.1.1 (x2.eH.getD x3 0) then q1 else JF d x q2 q4/\I3 d x q4<I3 d x aL else JG d x q5/\I4 d x q5<I4 d x y else Lb true (iU d x))
 dsimp only
 refine aQ (fun a=>bD ?_) (fun a=>⟨⟨rfl,rfl,by omega,by omega,by omega,rfl⟩,?_⟩)
 ·simp only[iU];rw[decide_eq_false (p:=x.aC.length<=1000) (by omega),p_]
 rintro⟨i,⟨b1,b2,⟨⟩⟩,⟨g1,g2,g3,g4,g5,g6,g7,g8,⟨⟩⟩,⟨⟩⟩ ⟨hb,hg,a0,h1,h2,hR⟩
 cases hb
 cases hg
 simp only
 refine aQ ?_ ?_<;>intro hc
 ·rw[en _ _ aV h1 hc] at hR
  have hN:jc d x.S.ab (x.aC.getD i.toNat aV)=false->iU d x=false:=fun h=>by simp only[iU,<-hR,h,p_,tI]
  refine⟨by omega,by omega,bE (fun a=>bD (hN ?_)) (fun a=>bE (fun b=>bD (hN ?_)) (fun b=> ?_))⟩
  ·have a:ko d (x.aC.getD i.toNat aV)=false:=a
   simp only[jc,a,p_]
  ·have b:¬(x.aC.getD i.toNat aV).bu.length=0:=by simpa using b
   simp only[jc,decide_eq_false b,p_,tI]
  have a:ko d (x.aC.getD i.toNat aV)=true:=a
  have b:(x.aC.getD i.toNat aV).bu.length=0:=by simpa using b
  obtain⟨r1,r2⟩:=oe a
  have hz:=GF a
  refine⟨r1,by omega,bE (fun c=>bD (hN ?_)) (fun c=>⟨⟨rfl,rfl,rfl,by omega,by omega,rfl⟩,?_⟩)⟩
  ·have c:¬(x.aC.getD i.toNat aV).eH.length=cR (d.aw.getD (x.aC.getD i.toNat aV).cL.toNat cq).aD:=fun e=>by rw[e] at c;simp at c
   simp only[jc,decide_eq_false c,p_,tI]
  have c:(x.aC.getD i.toNat aV).eH.length=cR (d.aw.getD (x.aC.getD i.toNat aV).cL.toNat cq).aD:=by
   have c:=eq_of_beq c
   omega
  have hM:=EW (s:=x.S.ab) a b c
  rintro⟨i',k,⟨b1,b2,⟨⟩⟩,⟨g1,g2,g3,g4,g5,g6,g7,g8,⟨⟩⟩,⟨⟩⟩ ⟨rfl,hb,hg,k1,k2,kR⟩
  cases hb
  cases hg
  simp only
  refine aQ ?_ ?_<;>intro hk
  ·rw[en _ _ 0 k1 hk] at kR
   rw[wi (n:=k+1)]
   exact⟨by omega,by omega,fw,bE (fun e=>bD (hN (by rw[hM,<-kR,e,p_]))) (fun e=>⟨⟨rfl,rfl,rfl,by omega,by omega,by rw[<-kR,e,wk]⟩,by simp only[I3];omega⟩)⟩
  ·rw[cy _ (by omega)] at kR
   rw[wi (n:=i'+1)]
   exact⟨⟨rfl,rfl,a0,by omega,by omega,by rw[<-hR,hM,<-kR];rfl⟩,by simp only[I4];omega⟩
 ·rw[cy _ (by omega)] at hR
  refine nv ?_
  simp only[iU,<-hR,decide_eq_true a0];rfl
end
end AM
