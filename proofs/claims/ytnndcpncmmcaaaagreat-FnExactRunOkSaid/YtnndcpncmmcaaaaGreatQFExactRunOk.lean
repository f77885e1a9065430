import Derived.Test.YtnndcpncmmcaaaaGreatQAmLib
import Derived.Deep.LoopGhost
import Derived.Lib.SliceRun
import Derived.Lib.Walk
import Derived.Shelf.RegionOpenPlain
import Derived.WalkKit
import Derived.Test.YtnndcpncmmcaaaaGreatQSort
namespace AM
open Go Go.Proofs.Tryz Go.IntKind
set_option linter.unusedVariables false
set_option linter.unusedSimpArgs false
set_option maxRecDepth 100000
noncomputable section
abbrev VB (b : Bool) : DV UU := .one (.lit (.bool b))
abbrev VI (n : Int) : DV UU := .one (.lit (.int .i64 n))
abbrev CI (n : Int) : CC := .lit (.int .i64 n)
abbrev CS (s : ByteArray) : CC := .lit (.string s)
abbrev CO (b : Bool) : CC := .lit (.bool b)
abbrev CL (τ : Cd) (xs : List τ.T) : CC := .sl τ xs
abbrev VL (τ : Cd) (xs : List τ.T) : DV UU := .one (.sl τ xs)
structure Q1(α:Type) where
 d:α→DV UU
 o:DV UU→Option α
 l:∀ v x,o v=some x→d x=v
structure QQ(α:Type) where
 d:α→List (DV UU)
 o:List (DV UU)→Option α
 l:∀ l x,o l=some x→d x=l
def q1{α:Type}(c:Q1 α):QQ α:=⟨fun x=>[c.d x],o1 c.o,l1 c.l⟩
def qC{α β:Type}(c:Q1 α)(r:QQ β):QQ (α×β):=⟨fun x=>c.d x.1::r.d x.2,oC c.o r.o,lC c.l r.l⟩
def qI:Q1 Int:=⟨dI,oI,lI⟩
def qY:Q1 Int:=⟨dY,oY,lY⟩
def qO:Q1 Bool:=⟨dO,oO,lO⟩
def qS:Q1 ByteArray:=⟨dS,oS,lS⟩
def qF:Q1 (List (DA UU)→Option Value):=⟨dF,oF,lF⟩
def qL(τ:Cd):Q1 (List τ.T):=⟨dL τ,oL τ,lL τ⟩
def qA(τ:Cd):Q1 τ.T:=⟨dA τ,oA τ,lA τ⟩
def qX(τ:Cd):Q1 τ.T:=⟨dX τ,oX τ,lX τ⟩
def bE{α:Type}(c:QQ α)(md:List Mode)(pre:α→List Prop)(ot:α→Res UU):kq UU:={α,md,of:=c.o,ds:=c.d,pre,ot,law:=c.l}
def a0{α:Type}(_:α)(_:Nat):Option (Ai UU):=none
abbrev LM(a b c d:List (DV UU)):Prop:=(0:Nat)=(0:Nat)∧AQ a=AQ b∧AQ c=AQ d
theorem wi{n:Int}(h:-9223372036854775808≤n:=by omega)(k:n≤9223372036854775807:=by omega):IntKind.wrap .i64 n=n:=wrap_i64 h k
abbrev L4(n:Nat):Prop:=n≤4294967296
abbrev L9(n:Nat):Prop:=n≤9223372036854775807
theorem vE{p:Prop}(q:Prop)(h:p=q:=by kernel_rfl)(x:q):p:=by rw[h];exact x
abbrev AX(k:kq UU):=k.α→Nat→Option (Ai UU)
abbrev iO(s:Nat)(τ:Cd):It UU:=.slot s (s,1024) (.own τ true)
abbrev iS(s:Nat)(τ:Cd):It UU:=.slot s (s,1024) (.own τ false)
abbrev iH(s:Nat)(τ:Cd):It UU:=.slot s (s,1024) (.shr τ)
abbrev iI(s:Nat):It UU:=.slot s (s,1024) (.lit (.int .i64))
abbrev iB(s:Nat):It UU:=.slot s (s,1024) (.lit .bool)
abbrev T0:=ByteArray×Int×List bc×List dj×List en×Unit
abbrev T1:=List bj×List bm×Unit
abbrev T2:=ByteArray×List cV×Unit
abbrev T3:=List b7×List dR×Unit
abbrev T4:=List bc×List bc×List Int×List Int×List b7×List bW×Int×Int×Unit
abbrev T5:=List bW×Int×Unit
abbrev T6:=List Int×List Int×Unit
abbrev T7:=ByteArray×List aw×Unit
abbrev T8:=List bW×Int×List cW×List ck×List cn×List de×Int×Int×Unit
abbrev T9:=ByteArray×Int×List cV×List Int×Unit
abbrev JT:=ByteArray×List aw×PUnit
abbrev we:=List dR×Nat
abbrev J8:=ByteArray×List cV×PUnit
abbrev Oj:=ByteArray×List dn×Bool×Unit
abbrev Lh:=List bW×Int×PUnit
abbrev Oi:=List b7×List dR×PUnit
abbrev T16:=ByteArray×Int×List bc×List dj×List en×PUnit
abbrev T17:=ByteArray×List dn×Bool×PUnit
abbrev T18:=ByteArray×Int×List cV×List Int×PUnit
abbrev T19:=List bj×List bm×PUnit
abbrev T20:=List Int×List Int×PUnit
abbrev T21:=Int×Int×ByteArray×Unit
abbrev T22:=Int×ByteArray×List cV×Unit
abbrev T23:=Int×List Int×List aW×Unit
abbrev T24:=List aq×Unit
abbrev T25:=Int×Int×ByteArray×PUnit
abbrev T26:=Nat×Nat×Unit
theorem yT {p:Prop} [Decidable p] (h:decide p=true):p:=of_decide_eq_true h
theorem yF {p:Prop} [Decidable p] (h:decide p=false):¬p:=of_decide_eq_false h
abbrev BA:=ByteArray
instance:DecidableEq cV:=fun _ _=>Classical.propDecidable _
instance:DecidableEq bf:=fun _ _=>Classical.propDecidable _
instance:DecidableEq bW:=fun _ _=>Classical.propDecidable _
instance:DecidableEq ap:=fun _ _=>Classical.propDecidable _
instance:DecidableEq dn:=fun _ _=>Classical.propDecidable _
instance:DecidableEq bc:=fun _ _=>Classical.propDecidable _
instance:DecidableEq aW:=fun _ _=>Classical.propDecidable _
instance:DecidableEq dj:=fun _ _=>Classical.propDecidable _
instance:DecidableEq dM:=fun _ _=>Classical.propDecidable _
instance:DecidableEq en:=fun _ _=>Classical.propDecidable _
instance:DecidableEq aw:=fun _ _=>Classical.propDecidable _
instance:DecidableEq bY:=fun _ _=>Classical.propDecidable _
instance:DecidableEq cW:=fun _ _=>Classical.propDecidable _
instance:DecidableEq bj:=fun _ _=>Classical.propDecidable _
instance:DecidableEq bm:=fun _ _=>Classical.propDecidable _
instance:DecidableEq dE:=fun _ _=>Classical.propDecidable _
instance:DecidableEq b7:=fun _ _=>Classical.propDecidable _
instance:DecidableEq au:=fun _ _=>Classical.propDecidable _
instance:DecidableEq aq:=fun _ _=>Classical.propDecidable _
instance:DecidableEq dR:=fun _ _=>Classical.propDecidable _
instance:DecidableEq df:=fun _ _=>Classical.propDecidable _
instance:DecidableEq cn:=fun _ _=>Classical.propDecidable _
instance:DecidableEq ck:=fun _ _=>Classical.propDecidable _
instance:DecidableEq de:=fun _ _=>Classical.propDecidable _
instance:DecidableEq eQ:=fun _ _=>Classical.propDecidable _
instance:DecidableEq pG:=fun _ _=>Classical.propDecidable _
instance:DecidableEq bh:=fun _ _=>Classical.propDecidable _
theorem iF{α:Type}(f:α->Nat)(l:List α)(z:α){i:Int}(h0:0<=i)(h:i<l.length):f (List.getD l i.toNat z)<=(l.map f).sum:=by
 have h1:l=l.take i.toNat++List.getD l i.toNat z::l.drop (i+1).toNat:=by rw[<-cj l z h0 h,HS]
 have h2:=congrArg (fun q=>(q.map f).sum) h1
 simp only[Em,rl,zet,N4] at h2
 omega
theorem eu{α:Type}(p:α->Bool)(l:List α)(z:α){i:Int}(h0:0<=i)(h:i<l.length):(l.drop i.toNat).all p=(p (List.getD l i.toNat z)&&(l.drop (i+1).toNat).all p):=by
 rw[cj l z h0 h,zdr]
def bs(s:ByteArray):List UInt8:=s.data.toList
theorem zt(s:ByteArray):(bs s).length=s.size:=yM
theorem FD(s:ByteArray):Array.toList (ByteArray.data s)=bs s:=rfl
def jo(p:Int->Bool)(b:UInt8):Bool:=p b.toNat
theorem YI(b:UInt8):IntKind.wrap .i64 (b.toNat:Int)=b.toNat:=wrap_i64 (by omega) (by have:=b.toNat_lt;omega)
theorem jN{y:Bool}(h:y=true):Lf [.one (.lit (.bool true))] [.one (.lit (.bool y))]:=cx h.symm
theorem aQ{y:Bool}(h:y=false):Lf [.one (.lit (.bool false))] [.one (.lit (.bool y))]:=cx h.symm
theorem lq{α:Type}(l:List α)(z:α){i:Int}(h0:0<=i)(h:i<l.length):l.take i.toNat++[List.getD l i.toNat z]=l.take (i+1).toNat:=by
 have hn:i.toNat<l.length:=by omega
 have e:(i+1).toNat=i.toNat+1:=by omega
 rw[e,zcz hn,gh,gr hn]
 rfl
theorem iq{α:Type}(l:List α){i:Int}(h:l.length<=i):l.take i.toNat=l:=EM (by omega)
theorem I0{α:Type}(l:List α)(z:α){i:Int}(h0:0<=i)(h:i<l.length):List.getD l i.toNat z∈l:=by
 have hn:i.toNat<l.length:=by omega
 rw[gh,gr hn]
 exact N6 hn
theorem cY{a:Int}{n:Nat}(h:decide (dh a n<0)=true):a<n:=by
 have h:=of_decide_eq_true h
 unfold dh at h;split at h<;>omega
theorem cN{a:Int}{n:Nat}(h:decide (dh a n<0)=false):dh a n=a-n/\(n:Int)<=a:=by
 have h:=of_decide_eq_false h
 unfold dh at h⊢;split at h
 ·rename_i g;rw[if_pos g];exact⟨rfl,g⟩
 ·omega
theorem bu{a:Int}{n:Nat}(h:a<n): -1=dh a n:=by simp only[dh];rw[if_neg (by omega)]
theorem eY{a:Int}{n:Nat}(h:(n:Int)<=a):a-n=dh a n:=by simp only[dh];rw[if_pos h]
def dx(l:List Int):Nat:=l.length
def eM(a:cV):Nat:=a.S.size
def ir(l:List cV):Nat:=l.length+(l.map eM).sum
def cZ(a:bf):Nat:=a.Kind.size+ir a.ak
def ep(a:bW):Nat:=cZ a.F
def aj(l:List bW):Nat:=l.length+(l.map ep).sum
def fC(a:ap):Nat:=aj a.aa
def d_(a:dn):Nat:=a.S.size+eM a.V
def jC(l:List dn):Nat:=l.length+(l.map d_).sum
def gV(a:bc):Nat:=a.Kind.size+jC a.aA
def gD(l:List bc):Nat:=l.length+(l.map gV).sum
def iw(a:aW):Nat:=a.Name.size+eM a.V
def lx(l:List aW):Nat:=l.length+(l.map iw).sum
def iv(a:dj):Nat:=d_ a.L+d_ a.R
def lu(l:List dj):Nat:=l.length+(l.map iv).sum
def gE(a:dM):Nat:=a.Op.size+d_ a.L+d_ a.R
def jS(l:List dM):Nat:=l.length+(l.map gE).sum
def iT(a:en):Nat:=a.Name.size+jS a.aA+a.jt.size
def l_(l:List en):Nat:=l.length+(l.map iT).sum
def dG(a:aw):Nat:=a.Name.size+gD a.ai+lu a.bA+l_ a.cp
def ee(l:List aw):Nat:=l.length+(l.map dG).sum
def bo(a:bY):Nat:=a.Name.size+ee a.af
def gv(a:cW):Nat:=dx a.b9+lx a.lJ
def jA(l:List cW):Nat:=l.length+(l.map gv).sum
def jR(a:b7):Nat:=dx a.L
def jB(l:List b7):Nat:=l.length+(l.map jR).sum
def jk(a:au):Nat:=dx a.b9+dx a.db
def l9(l:List au):Nat:=l.length+(l.map jk).sum
def fh(a:aq):Nat:=l9 a.bi
def iR(l:List aq):Nat:=l.length+(l.map fh).sum
def ik(a:dR):Nat:=iR a.ao
def nN(l:List dR):Nat:=l.length+(l.map ik).sum
def iQ(a:df):Nat:=jB a.ab+nN a.af
def gu(a:cn):Nat:=cZ a.F
def jz(l:List cn):Nat:=l.length+(l.map gu).sum
def gC(a:ck):Nat:=cZ a.F+a.jt.size+eM a.V
def lr(l:List ck):Nat:=l.length+(l.map gC).sum
def iu(a:de):Nat:=a.Key.size+cZ a.F
def jQ(l:List de):Nat:=l.length+(l.map iu).sum
def eH(a:eQ):Nat:=fC a.S+jA a.dc+lr a.fW+jz a.fy+jQ a.gZ
def jl(a:pG):Nat:=eH a.X+iQ a.M
theorem Ml{x:cV}(h:dT (dA .bC x)):x.S.size<=9223372036854775807:=Bd.str (U:=UU) (h _ (aJ _ (aJ _ (cH))))
theorem Md{x:cV}(h:dT (dA .hU x)):x.S.size<=9223372036854775807:=Bd.str (U:=UU) (h _ (aJ _ (aJ _ (cH))))
theorem jM{x:bf}(h:dT (dA .eP x)):x.Kind.size<=9223372036854775807/\x.ak.length<=9223372036854775807:=⟨Bd.str (U:=UU) (h _ (cH)),Bd.len (U:=UU) (h _ (aJ _ (cH)))⟩
theorem Ju{x:bf}(h:dT (dA .nS x)):x.Kind.size<=9223372036854775807/\x.ak.length<=9223372036854775807:=⟨Bd.str (U:=UU) (h _ (cH)),Bd.len (U:=UU) (h _ (aJ _ (cH)))⟩
theorem JA{x:bW}(h:dT (dA .cg x)):x.F.Kind.size<=9223372036854775807/\x.F.ak.length<=9223372036854775807:=⟨Bd.str (U:=UU) (h _ (aJ _ (cH))),Bd.len (U:=UU) (h _ (aJ _ (aJ _ (cH))))⟩
theorem Js{x:bW}(h:dT (dA .fO x)):x.F.Kind.size<=9223372036854775807/\x.F.ak.length<=9223372036854775807:=⟨Bd.str (U:=UU) (h _ (aJ _ (cH))),Bd.len (U:=UU) (h _ (aJ _ (aJ _ (cH))))⟩
theorem eG{x:ap}(h:dT (dA .dW x)):x.aa.length<=9223372036854775807:=Bd.len (U:=UU) (h _ (cH))
theorem FF{x:ap}(h:dT (dA .jF x)):x.aa.length<=9223372036854775807:=Bd.len (U:=UU) (h _ (cH))
theorem Mm{x:dn}(h:dT (dA .ig x)):x.S.size<=9223372036854775807/\x.V.S.size<=9223372036854775807:=⟨Bd.str (U:=UU) (h _ (aJ _ (cH))),Bd.str (U:=UU) (h _ (aJ _ (aJ _ (aJ _ (aJ _ (cH))))))⟩
theorem Mj{x:dn}(h:dT (dA .oT x)):x.S.size<=9223372036854775807/\x.V.S.size<=9223372036854775807:=⟨Bd.str (U:=UU) (h _ (aJ _ (cH))),Bd.str (U:=UU) (h _ (aJ _ (aJ _ (aJ _ (aJ _ (cH))))))⟩
theorem nC{x:bc}(h:dT (dA .cq x)):x.Kind.size<=9223372036854775807/\x.aA.length<=9223372036854775807:=⟨Bd.str (U:=UU) (h _ (cH)),Bd.len (U:=UU) (h _ (aJ _ (cH)))⟩
theorem Mg{x:bc}(h:dT (dA .k8 x)):x.Kind.size<=9223372036854775807/\x.aA.length<=9223372036854775807:=⟨Bd.str (U:=UU) (h _ (cH)),Bd.len (U:=UU) (h _ (aJ _ (cH)))⟩
theorem JD{x:aW}(h:dT (dA .b8 x)):x.Name.size<=9223372036854775807/\x.V.S.size<=9223372036854775807:=⟨Bd.str (U:=UU) (h _ (cH)),Bd.str (U:=UU) (h _ (aJ _ (aJ _ (aJ _ (cH)))))⟩
theorem Jx{x:aW}(h:dT (dA .jJ x)):x.Name.size<=9223372036854775807/\x.V.S.size<=9223372036854775807:=⟨Bd.str (U:=UU) (h _ (cH)),Bd.str (U:=UU) (h _ (aJ _ (aJ _ (aJ _ (cH)))))⟩
theorem JC{x:dj}(h:dT (dA .cQ x)):x.L.S.size<=9223372036854775807/\x.L.V.S.size<=9223372036854775807/\x.R.S.size<=9223372036854775807/\x.R.V.S.size<=9223372036854775807:=⟨Bd.str (U:=UU) (h _ (aJ _ (aJ _ (cH)))),Bd.str (U:=UU) (h _ (aJ _ (aJ _ (aJ _ (aJ _ (aJ _ (cH))))))),Bd.str (U:=UU) (h _ (aJ _ (aJ _ (aJ _ (aJ _ (aJ _ (aJ _ (aJ _ (cH))))))))),Bd.str (U:=UU) (h _ (aJ _ (aJ _ (aJ _ (aJ _ (aJ _ (aJ _ (aJ _ (aJ _ (aJ _ (aJ _ (cH))))))))))))⟩
theorem Jw{x:dj}(h:dT (dA .jI x)):x.L.S.size<=9223372036854775807/\x.L.V.S.size<=9223372036854775807/\x.R.S.size<=9223372036854775807/\x.R.V.S.size<=9223372036854775807:=⟨Bd.str (U:=UU) (h _ (aJ _ (aJ _ (cH)))),Bd.str (U:=UU) (h _ (aJ _ (aJ _ (aJ _ (aJ _ (aJ _ (cH))))))),Bd.str (U:=UU) (h _ (aJ _ (aJ _ (aJ _ (aJ _ (aJ _ (aJ _ (aJ _ (cH))))))))),Bd.str (U:=UU) (h _ (aJ _ (aJ _ (aJ _ (aJ _ (aJ _ (aJ _ (aJ _ (aJ _ (aJ _ (aJ _ (cH))))))))))))⟩
theorem JB{x:dM}(h:dT (dA .ga x)):x.Op.size<=9223372036854775807/\x.L.S.size<=9223372036854775807/\x.L.V.S.size<=9223372036854775807/\x.R.S.size<=9223372036854775807/\x.R.V.S.size<=9223372036854775807:=⟨Bd.str (U:=UU) (h _ (cH)),Bd.str (U:=UU) (h _ (aJ _ (aJ _ (cH)))),Bd.str (U:=UU) (h _ (aJ _ (aJ _ (aJ _ (aJ _ (aJ _ (cH))))))),Bd.str (U:=UU) (h _ (aJ _ (aJ _ (aJ _ (aJ _ (aJ _ (aJ _ (aJ _ (cH))))))))),Bd.str (U:=UU) (h _ (aJ _ (aJ _ (aJ _ (aJ _ (aJ _ (aJ _ (aJ _ (aJ _ (aJ _ (aJ _ (cH))))))))))))⟩
theorem Jv{x:dM}(h:dT (dA .jH x)):x.Op.size<=9223372036854775807/\x.L.S.size<=9223372036854775807/\x.L.V.S.size<=9223372036854775807/\x.R.S.size<=9223372036854775807/\x.R.V.S.size<=9223372036854775807:=⟨Bd.str (U:=UU) (h _ (cH)),Bd.str (U:=UU) (h _ (aJ _ (aJ _ (cH)))),Bd.str (U:=UU) (h _ (aJ _ (aJ _ (aJ _ (aJ _ (aJ _ (cH))))))),Bd.str (U:=UU) (h _ (aJ _ (aJ _ (aJ _ (aJ _ (aJ _ (aJ _ (aJ _ (cH))))))))),Bd.str (U:=UU) (h _ (aJ _ (aJ _ (aJ _ (aJ _ (aJ _ (aJ _ (aJ _ (aJ _ (aJ _ (aJ _ (cH))))))))))))⟩
theorem Mn{x:en}(h:dT (dA .eT x)):x.Name.size<=9223372036854775807/\x.aA.length<=9223372036854775807/\x.jt.size<=9223372036854775807:=⟨Bd.str (U:=UU) (h _ (aJ _ (cH))),Bd.len (U:=UU) (h _ (aJ _ (aJ _ (cH)))),Bd.str (U:=UU) (h _ (aJ _ (aJ _ (aJ _ (aJ _ (cH))))))⟩
theorem Mk{x:en}(h:dT (dA .oU x)):x.Name.size<=9223372036854775807/\x.aA.length<=9223372036854775807/\x.jt.size<=9223372036854775807:=⟨Bd.str (U:=UU) (h _ (aJ _ (cH))),Bd.len (U:=UU) (h _ (aJ _ (aJ _ (cH)))),Bd.str (U:=UU) (h _ (aJ _ (aJ _ (aJ _ (aJ _ (cH))))))⟩
theorem gL{x:aw}(h:dT (dA .cw x)):x.Name.size<=9223372036854775807/\x.ai.length<=9223372036854775807/\x.bA.length<=9223372036854775807/\x.cp.length<=9223372036854775807:=⟨Bd.str (U:=UU) (h _ (cH)),Bd.len (U:=UU) (h _ (aJ _ (aJ _ (cH)))),Bd.len (U:=UU) (h _ (aJ _ (aJ _ (aJ _ (cH))))),Bd.len (U:=UU) (h _ (aJ _ (aJ _ (aJ _ (aJ _ (cH))))))⟩
theorem Jr{x:aw}(h:dT (dA .jG x)):x.Name.size<=9223372036854775807/\x.ai.length<=9223372036854775807/\x.bA.length<=9223372036854775807/\x.cp.length<=9223372036854775807:=⟨Bd.str (U:=UU) (h _ (cH)),Bd.len (U:=UU) (h _ (aJ _ (aJ _ (cH)))),Bd.len (U:=UU) (h _ (aJ _ (aJ _ (aJ _ (cH))))),Bd.len (U:=UU) (h _ (aJ _ (aJ _ (aJ _ (aJ _ (cH))))))⟩
theorem gO{x:bY}(h:dT (dA .jc x)):x.Name.size<=9223372036854775807/\x.af.length<=9223372036854775807:=⟨Bd.str (U:=UU) (h _ (cH)),Bd.len (U:=UU) (h _ (aJ _ (cH)))⟩
theorem GW{x:bY}(h:dT (dA .qg x)):x.Name.size<=9223372036854775807/\x.af.length<=9223372036854775807:=⟨Bd.str (U:=UU) (h _ (cH)),Bd.len (U:=UU) (h _ (aJ _ (cH)))⟩
theorem FJ{x:cW}(h:dT (dA .dB x)):x.b9.length<=9223372036854775807/\x.lJ.length<=9223372036854775807:=⟨Bd.len (U:=UU) (h _ (aJ _ (cH))),Bd.len (U:=UU) (h _ (aJ _ (aJ _ (cH))))⟩
theorem FG{x:cW}(h:dT (dA .fG x)):x.b9.length<=9223372036854775807/\x.lJ.length<=9223372036854775807:=⟨Bd.len (U:=UU) (h _ (aJ _ (cH))),Bd.len (U:=UU) (h _ (aJ _ (aJ _ (cH))))⟩
theorem nv{x:bj}(h:dT (dA .bI x)):x.Kind.size<=9223372036854775807/\x.fg.length<=9223372036854775807/\x.At.length<=9223372036854775807:=⟨Bd.str (U:=UU) (h _ (cH)),Bd.len (U:=UU) (h _ (aJ _ (aJ _ (cH)))),Bd.len (U:=UU) (h _ (aJ _ (aJ _ (aJ _ (cH)))))⟩
theorem NZ{x:bm}(h:dT (dA .ci x)):x.Pos.length<=9223372036854775807/\x.Neg.length<=9223372036854775807:=⟨Bd.len (U:=UU) (h _ (cH)),Bd.len (U:=UU) (h _ (aJ _ (cH)))⟩
theorem uN{x:dE}(h:dT (dA .mK x)):x.ab.length<=9223372036854775807/\x.aC.length<=9223372036854775807:=⟨Bd.len (U:=UU) (h _ (cH)),Bd.len (U:=UU) (h _ (aJ _ (cH)))⟩
theorem JE{x:dE}(h:dT (dX .mK x)):x.ab.length<=9223372036854775807/\x.aC.length<=9223372036854775807:=⟨Bd.len (U:=UU) (h _ (cH)),Bd.len (U:=UU) (h _ (aJ _ (cH)))⟩
theorem AP{x:b7}(h:dT (dA .cD x)):x.L.length<=9223372036854775807:=Bd.len (U:=UU) (h _ (cH))
theorem Mi{x:b7}(h:dT (dA .k9 x)):x.L.length<=9223372036854775807:=Bd.len (U:=UU) (h _ (cH))
theorem p5{x:au}(h:dT (dA .bO x)):x.b9.length<=9223372036854775807/\x.db.length<=9223372036854775807:=⟨Bd.len (U:=UU) (h _ (cH)),Bd.len (U:=UU) (h _ (aJ _ (cH)))⟩
theorem Me{x:au}(h:dT (dA .oR x)):x.b9.length<=9223372036854775807/\x.db.length<=9223372036854775807:=⟨Bd.len (U:=UU) (h _ (cH)),Bd.len (U:=UU) (h _ (aJ _ (cH)))⟩
theorem uO{x:aq}(h:dT (dA .cf x)):x.bi.length<=9223372036854775807:=Bd.len (U:=UU) (h _ (cH))
theorem FH{x:aq}(h:dT (dA .gG x)):x.bi.length<=9223372036854775807:=Bd.len (U:=UU) (h _ (cH))
theorem AO{x:dR}(h:dT (dA .di x)):x.ao.length<=9223372036854775807:=Bd.len (U:=UU) (h _ (cH))
theorem Mf{x:dR}(h:dT (dA .nb x)):x.ao.length<=9223372036854775807:=Bd.len (U:=UU) (h _ (cH))
theorem p6{x:df}(h:dT (dA .jU x)):x.ab.length<=9223372036854775807/\x.af.length<=9223372036854775807:=⟨Bd.len (U:=UU) (h _ (cH)),Bd.len (U:=UU) (h _ (aJ _ (cH)))⟩
theorem JF{x:df}(h:dT (dX .jU x)):x.ab.length<=9223372036854775807/\x.af.length<=9223372036854775807:=⟨Bd.len (U:=UU) (h _ (cH)),Bd.len (U:=UU) (h _ (aJ _ (cH)))⟩
theorem Mh{x:df}(h:dT (dA .tu x)):x.ab.length<=9223372036854775807/\x.af.length<=9223372036854775807:=⟨Bd.len (U:=UU) (h _ (cH)),Bd.len (U:=UU) (h _ (aJ _ (cH)))⟩
theorem FI{x:cn}(h:dT (dA .dq x)):x.F.Kind.size<=9223372036854775807/\x.F.ak.length<=9223372036854775807:=⟨Bd.str (U:=UU) (h _ (aJ _ (cH))),Bd.len (U:=UU) (h _ (aJ _ (aJ _ (cH))))⟩
theorem FE{x:cn}(h:dT (dA .fF x)):x.F.Kind.size<=9223372036854775807/\x.F.ak.length<=9223372036854775807:=⟨Bd.str (U:=UU) (h _ (aJ _ (cH))),Bd.len (U:=UU) (h _ (aJ _ (aJ _ (cH))))⟩
theorem Jz{x:ck}(h:dT (dA .dJ x)):x.F.Kind.size<=9223372036854775807/\x.F.ak.length<=9223372036854775807/\x.jt.size<=9223372036854775807/\x.V.S.size<=9223372036854775807:=⟨Bd.str (U:=UU) (h _ (cH)),Bd.len (U:=UU) (h _ (aJ _ (cH))),Bd.str (U:=UU) (h _ (aJ _ (aJ _ (cH)))),Bd.str (U:=UU) (h _ (aJ _ (aJ _ (aJ _ (aJ _ (aJ _ (aJ _ (aJ _ (aJ _ (cH))))))))))⟩
theorem Jq{x:ck}(h:dT (dA .iy x)):x.F.Kind.size<=9223372036854775807/\x.F.ak.length<=9223372036854775807/\x.jt.size<=9223372036854775807/\x.V.S.size<=9223372036854775807:=⟨Bd.str (U:=UU) (h _ (cH)),Bd.len (U:=UU) (h _ (aJ _ (cH))),Bd.str (U:=UU) (h _ (aJ _ (aJ _ (cH)))),Bd.str (U:=UU) (h _ (aJ _ (aJ _ (aJ _ (aJ _ (aJ _ (aJ _ (aJ _ (aJ _ (cH))))))))))⟩
theorem Jy{x:de}(h:dT (dA .eO x)):x.Key.size<=9223372036854775807/\x.F.Kind.size<=9223372036854775807/\x.F.ak.length<=9223372036854775807:=⟨Bd.str (U:=UU) (h _ (cH)),Bd.str (U:=UU) (h _ (aJ _ (cH))),Bd.len (U:=UU) (h _ (aJ _ (aJ _ (cH))))⟩
theorem Jp{x:de}(h:dT (dA .ix x)):x.Key.size<=9223372036854775807/\x.F.Kind.size<=9223372036854775807/\x.F.ak.length<=9223372036854775807:=⟨Bd.str (U:=UU) (h _ (cH)),Bd.str (U:=UU) (h _ (aJ _ (cH))),Bd.len (U:=UU) (h _ (aJ _ (aJ _ (cH))))⟩
theorem re{x:eQ}(h:dT (dA .jb x)):x.S.aa.length<=9223372036854775807/\x.dc.length<=9223372036854775807/\x.fW.length<=9223372036854775807/\x.fy.length<=9223372036854775807/\x.gZ.length<=9223372036854775807:=⟨Bd.len (U:=UU) (h _ (cH)),Bd.len (U:=UU) (h _ (aJ _ (aJ _ (cH)))),Bd.len (U:=UU) (h _ (aJ _ (aJ _ (aJ _ (cH))))),Bd.len (U:=UU) (h _ (aJ _ (aJ _ (aJ _ (aJ _ (cH)))))),Bd.len (U:=UU) (h _ (aJ _ (aJ _ (aJ _ (aJ _ (aJ _ (cH)))))))⟩
theorem Jt{x:eQ}(h:dT (dA .nR x)):x.S.aa.length<=9223372036854775807/\x.dc.length<=9223372036854775807/\x.fW.length<=9223372036854775807/\x.fy.length<=9223372036854775807/\x.gZ.length<=9223372036854775807:=⟨Bd.len (U:=UU) (h _ (cH)),Bd.len (U:=UU) (h _ (aJ _ (aJ _ (cH)))),Bd.len (U:=UU) (h _ (aJ _ (aJ _ (aJ _ (cH))))),Bd.len (U:=UU) (h _ (aJ _ (aJ _ (aJ _ (aJ _ (cH)))))),Bd.len (U:=UU) (h _ (aJ _ (aJ _ (aJ _ (aJ _ (aJ _ (cH)))))))⟩
theorem AN{x:pG}(h:dT (dA .ra x)):x.X.S.aa.length<=9223372036854775807/\x.X.dc.length<=9223372036854775807/\x.X.fW.length<=9223372036854775807/\x.X.fy.length<=9223372036854775807/\x.X.gZ.length<=9223372036854775807/\x.M.ab.length<=9223372036854775807/\x.M.af.length<=9223372036854775807:=⟨Bd.len (U:=UU) (h _ (cH)),Bd.len (U:=UU) (h _ (aJ _ (aJ _ (cH)))),Bd.len (U:=UU) (h _ (aJ _ (aJ _ (aJ _ (cH))))),Bd.len (U:=UU) (h _ (aJ _ (aJ _ (aJ _ (aJ _ (cH)))))),Bd.len (U:=UU) (h _ (aJ _ (aJ _ (aJ _ (aJ _ (aJ _ (cH))))))),Bd.len (U:=UU) (h _ (aJ _ (aJ _ (aJ _ (aJ _ (aJ _ (aJ _ (aJ _ (aJ _ (cH)))))))))),Bd.len (U:=UU) (h _ (aJ _ (aJ _ (aJ _ (aJ _ (aJ _ (aJ _ (aJ _ (aJ _ (aJ _ (cH)))))))))))⟩
theorem GV{x:pG}(h:dT (dA .qf x)):x.X.S.aa.length<=9223372036854775807/\x.X.dc.length<=9223372036854775807/\x.X.fW.length<=9223372036854775807/\x.X.fy.length<=9223372036854775807/\x.X.gZ.length<=9223372036854775807/\x.M.ab.length<=9223372036854775807/\x.M.af.length<=9223372036854775807:=⟨Bd.len (U:=UU) (h _ (cH)),Bd.len (U:=UU) (h _ (aJ _ (aJ _ (cH)))),Bd.len (U:=UU) (h _ (aJ _ (aJ _ (aJ _ (cH))))),Bd.len (U:=UU) (h _ (aJ _ (aJ _ (aJ _ (aJ _ (cH)))))),Bd.len (U:=UU) (h _ (aJ _ (aJ _ (aJ _ (aJ _ (aJ _ (cH))))))),Bd.len (U:=UU) (h _ (aJ _ (aJ _ (aJ _ (aJ _ (aJ _ (aJ _ (aJ _ (aJ _ (cH)))))))))),Bd.len (U:=UU) (h _ (aJ _ (aJ _ (aJ _ (aJ _ (aJ _ (aJ _ (aJ _ (aJ _ (aJ _ (cH)))))))))))⟩
theorem vV{x:bh}(h:dT (dA .gM x)):x.bH.length<=9223372036854775807/\x.ey.length<=9223372036854775807/\x.chain.Pos.length<=9223372036854775807/\x.chain.Neg.length<=9223372036854775807/\x.mem.length<=9223372036854775807/\x.s.aa.length<=9223372036854775807:=⟨Bd.len (U:=UU) (h _ (cH)),Bd.len (U:=UU) (h _ (aJ _ (cH))),Bd.len (U:=UU) (h _ (aJ _ (aJ _ (cH)))),Bd.len (U:=UU) (h _ (aJ _ (aJ _ (aJ _ (cH))))),Bd.len (U:=UU) (h _ (aJ _ (aJ _ (aJ _ (aJ _ (cH)))))),Bd.len (U:=UU) (h _ (aJ _ (aJ _ (aJ _ (aJ _ (aJ _ (cH)))))))⟩
def EV{α:Type}(a:List α):Int×Unit->Nat:=fun y=>a.length-y.1.toNat
def ri{α β:Type}(a:List α):β×Int×Unit->Nat:=fun y=>a.length-y.2.1.toNat
def ER{α:Type}(f:α->Nat)(a:List α)(S:Nat)(left:Int):Int×Int×Unit->Prop:=fun y=>0<=y.1/\0<=y.2.1/\y.2.1<=a.length/\dh y.1 ((a.drop y.2.1.toNat).map f).sum=dh left S
def FW{α:Type}(f:α->Nat)(z:α)(a:List α)(S:Nat)(left:Int):Prop:=
 bif decide (IntKind.wrap .i64 (left-(a.length:Int))<0) then Li (-1) (dh left S)
 else ER f a S left (IntKind.wrap .i64 (left-(a.length:Int)),0,())/\∀y:Int×Int×PUnit,ER f a S left y->
  bif decide (y.2.1<(a.length:Int)) then 0<=y.2.1/\y.2.1.toNat<a.length/\0<=y.1/\
   bif decide (dh y.1 (f (a.getD y.2.1.toNat z))<0) then Li (-1) (dh left S)
   else ER f a S left (dh y.1 (f (a.getD y.2.1.toNat z)),IntKind.wrap .i64 (y.2.1+1),())/\ri a (dh y.1 (f (a.getD y.2.1.toNat z)),IntKind.wrap .i64 (y.2.1+1),())<ri a y
  else Li y.1 (dh left S)
theorem jx{α:Type}{f:α->Nat}{z:α}{a:List α}{S:Nat}{left:Int}(hS:S=a.length+(a.map f).sum)(bP:0<=left)(hl: -9223372036854775808<=left/\left<=9223372036854775807)(hla:a.length<=9223372036854775807):FW f z a S left:=by
 subst hS
 unfold FW
 rw[wrap_i64 (by omega) (by omega)]
 refine ae (fun h=>cG ?_) (fun h=>⟨?_,?_⟩)
 ·simp[dh] at*;omega
 ·simp at h
  have h':0<=left-a.length:=by omega
  exact⟨h',by show(0:Int)<=0;omega,by show(0:Int)<=a.length;omega,Lu h'⟩
 rintro⟨lf,i,⟨⟩⟩ ⟨h0,h1,h2,hR⟩
 refine ae (fun hc=> ?_) (fun hc=> ?_)
 ·have hc:i<a.length:=by simpa using hc
  simp only at h0 h1 h2 hR⊢
  rw[cj a z h1 hc,rl,N4] at hR
  rw[wrap_i64 (by omega) (by omega)]
  generalize List.getD a i.toNat z=x at*
  refine⟨by omega,by omega,by omega,ae (fun h=>cG ?_) (fun h=>⟨⟨?_,by show(0:Int)<=i+1;omega,by show i+1<=a.length;omega,?_⟩,?_⟩)⟩
  ·rw[<-hR];exact(RX (of_decide_eq_true h)).symm
  ·simp at h;exact h
  ·show dh (dh lf (f x)) _=_
   rw[<-hR];simp at h;exact RW h
  ·simp only[ri];omega
 ·have hc:a.length<=i:=by simpa using hc
  simp only at h0 h1 h2 hR⊢
  rw[bU a hc] at hR
  apply cG;rw[<-hR];simp[dh,h0]
def EQ{α:Type}(z:α)(a:List α):List α×Int×Unit->Prop:=fun y=>0<=y.2.1/\y.2.1<=a.length/\y.1=a.take y.2.1.toNat++List.replicate (a.length-y.2.1.toNat) z
def HU{α:Type}(f:α->Nat)(z:α)(a:List α)(L:List α->Prop):Prop:=
 0<=(a.length:Int)/\(a.length:Int)=(a.length:Int)/\(a.length:Int)<=4294967296/\EQ z a (List.replicate (a.length:Int).toNat z,0,())/\
  ∀y:List α×Int×PUnit,EQ z a y->bif decide (y.2.1<(a.length:Int)) then 0<=y.2.1/\y.2.1.toNat<a.length/\f (a.getD y.2.1.toNat z)<=4294967296/\0<=y.2.1/\y.2.1.toNat<y.1.length/\y.2.1.toNat<y.1.length/\
   EQ z a (y.1.set y.2.1.toNat (a.getD y.2.1.toNat z),IntKind.wrap .i64 (y.2.1+1),())/\ri a (y.1.set y.2.1.toNat (a.getD y.2.1.toNat z),IntKind.wrap .i64 (y.2.1+1),())<ri a y
  else L y.1
theorem jw{α:Type}{f:α->Nat}{z:α}{a:List α}{L:List α->Prop}(bP:a.length+(a.map f).sum<=4294967296)(hL:L a):HU f z a L:=by
 refine⟨by omega,rfl,by omega,⟨by show(0:Int)<=0;omega,by show(0:Int)<=a.length;omega,by simp⟩,?_⟩
 rintro⟨out,i,⟨⟩⟩ ⟨h1,h2,h3⟩
 simp only at h1 h2 h3
 subst h3
 refine ae (fun hc=> ?_) (fun hc=> ?_)
 ·have hc:i<a.length:=by simpa using hc
  simp only
  rw[wrap_i64 (by omega) (by omega),Ic a z h1 hc]
  exact⟨h1,by omega,En (iF f a z h1 hc) (by omega),h1,by simp;omega,by simp;omega,⟨by show(0:Int)<=i+1;omega,by show i+1<=a.length;omega,rfl⟩,by simp only[ri];omega⟩
 ·have hc:a.length<=i:=by simpa using hc
  have e:i.toNat=a.length:=by omega
  simp only
  rw[e];simpa using hL
def Fl{α:Type}(a b:List α):Int×Unit->Prop:=fun y=>0<=y.1/\y.1<=a.length/\a.length=b.length/\(a.drop y.1.toNat=b.drop y.1.toNat↔a=b)
noncomputable def GO{α:Type}[DecidableEq α](z:α)(a b:List α):Prop:=
 bif (a.length:Int) !=(b.length:Int) then Lb false (decide (a=b))
 else Fl a b (0,())/\∀y:Int×PUnit,Fl a b y->bif decide (y.1<(a.length:Int)) then 0<=y.1/\y.1.toNat<a.length/\0<=y.1/\y.1.toNat<b.length/\
   bif !decide (a.getD y.1.toNat z=b.getD y.1.toNat z) then Lb false (decide (a=b))
   else Fl a b (IntKind.wrap .i64 (y.1+1),())/\EV a (IntKind.wrap .i64 (y.1+1),())<EV a y
  else Lb true (decide (a=b))
theorem jL{α:Type}[DecidableEq α]{z:α}{a b:List α}(hl:a.length<=9223372036854775807):GO z a b:=by
 unfold GO
 refine ae (fun h=>ju ?_) (fun h=>⟨?_,?_⟩)
 ·rintro rfl;simp at h
 ·have h:(a.length:Int)=b.length:=by simpa using h
  exact⟨by show(0:Int)<=0;omega,by show(0:Int)<=a.length;omega,by omega,by simp⟩
 rintro⟨i,⟨⟩⟩ ⟨h1,h2,h3,hR⟩
 simp only at h1 h2 h3 hR
 refine ae (fun hc=> ?_) (fun hc=> ?_)
 ·have hc:i<a.length:=by simpa using hc
  rw[cj a z h1 hc,cj b z h1 (by omega)] at hR
  simp only
  rw[wrap_i64 (by omega) (by omega)]
  refine⟨by omega,by omega,by omega,by omega,ae (fun h=>ju ?_) (fun h=>⟨⟨by show(0:Int)<=i+1;omega,by show i+1<=a.length;omega,h3,?_⟩,?_⟩)⟩
  ·rw[<-hR];simp at h;simp[h]
  ·show a.drop (i+1).toNat=b.drop (i+1).toNat↔a=b
   rw[<-hR];simp at h;simp[h]
  ·simp only[EV];omega
 ·have hc:a.length<=i:=by simpa using hc
  rw[bU a hc,bU b (by omega)] at hR
  exact lQ (hR.1 rfl)
def cB(r:aw)(not:Bool):List bc:=r.ai.filter fun p=>p.Not==not
structure Ro where
 a:Value
 b:Value
structure yD where
 bH:List bc
 ey:List bc
 chain:bm
 a:Value
 s:Ro
 id:Int
theorem Mb{α:Type}(q:α->Bool){l:List α}{i:Nat}(z:α)(h:i<l.length):(l.take (i+1)).filter q=(l.take i).filter q++(if q (l.getD i z)=true then[l.getD i z] else[]):=by
 have e:l.getD i z=l[i]:=by simp[List.getD,h]
 rw[zcz h,List.filter_append,e]
 congr 1
 generalize l[i]=x
 by_cases hq:q x=true<;>simp[hq]
def Mu:=bE (α:=aw×Bool) (qC (qA .cw) (q1 qO)) [.ro,.ro] (fun(r,not)=>[r.ai.length<=4294967295]) (fun(r,not)=>⟨[dL .cq (cB r not)],[false],[]⟩)
def xW(r:aw)(not:Bool):List bc×Int×Unit->Prop:=fun(o,i,_)=>0<=i/\i<=r.ai.length/\o=(r.ai.take i.toNat).filter (fun p=>p.Not==not)
def sg(r:aw)(not:Bool):List bc×Int×Unit->Nat:=fun(o,i,_)=>r.ai.length-i.toNat
def akp:AX Mu:=fun(r,not)=>bq [(3,az [iS 5 .cq,iI 11] (fun _=>xW r not) (sg r not))]
def afl:List (FuncId×kq UU):=[]
theorem vf:Holds CA (251,Mu):=by
 refine holds_of nz func251 Mu (by kernel_rfl) afl all_nil akp (fun x hp hb=> ?_)
 obtain⟨r,not⟩:=x
 have aG:=gL (x:=r) (hb _ m0)
 have gx:=aG.1
 have gw:=aG.2.1
 have fH:=aG.2.2.1
 have gy:=aG.2.2.2
 have bP:r.ai.length<=4294967295:=hp _ m0
 clear hp hb
 apply vE (xW r not ([],0,())/\∀(y:List bc×Int×PUnit),let x2:=y.2.1.toNat;let x1:=r.ai.getD x2 dl;let x0:=[x1];let q0:=(y.1++x0,wrap i64 (y.2.1+1),());let q1:=(y.1,wrap i64 (y.2.1+1),());xW r not y->bif decide (y.2.1<(r.ai.length:Int)) then 0<=y.2.1/\x2<r.ai.length/\bif x1.Not==not then L4 (y.1.length+x0.length)/\xW r not q0/\sg r not q0<sg r not y else xW r not q1/\sg r not q1<sg r not y else Lf [VL .cq y.1] [VL .cq (cB r not)])
 dsimp only
 refine⟨⟨by omega,by omega,by simp⟩,?_⟩
 rintro⟨o,i,⟨⟩⟩ ⟨h1,h2,rfl⟩
 simp only
 refine ae (fun hc=> ?_) (fun hc=> ?_)<;>simp only[decide_eq_true_eq,decide_eq_false_iff_not] at hc
 ·have hs:=Mb (fun p:bc=>p.Not==not) (l:=r.ai) (i:=i.toNat) dl (by omega)
  have hle:((r.ai.take i.toNat).filter fun p:bc=>p.Not==not).length<=(r.ai.take i.toNat).length:=Lo _ _
  rw[mO] at hle
  have e:(i+1).toNat=i.toNat+1:=by omega
  rw[wi]
  refine⟨by omega,by omega,ae (fun g=>⟨by simp only[iD,ii];omega,⟨by omega,by omega,?_⟩,by simp only[sg];omega⟩) (fun g=>⟨⟨by omega,by omega,?_⟩,by simp only[sg];omega⟩)⟩
  ·rw[e,hs,if_pos g]
  ·rw[e,hs,if_neg (by rw[g];decide),sI]
 ·have e:i.toNat=r.ai.length:=by omega
  rw[e,List.take_length]
  exact aO _
theorem afu:Holds EE (251,Mu):=vf.env rfl rfl rfl
def aii:HH:=⟨_,afu⟩
def xT:kq UU where
 α:=bY×dE×Ro×Ro×Int×Int
 md:=[.ro,.ro,.ro,.ro,.ro,.ro]
 of:=fun|[.agg [.lit (.string a0),.sl .cw a1],.agg [.sl .bI a2,.sl .ci a3],.agg [.lit a4,.lit a5],.agg [.lit a6,.lit a7],.one (.lit (.int .i64 a8)),.one (.lit (.int .i64 a9))]=>some (⟨a0,a1⟩,⟨a2,a3⟩,⟨a4,a5⟩,⟨a6,a7⟩,a8,a9)|_=>none
 ds:=fun(d,n,m,s,id,i)=>[.agg [.lit (.string d.Name),.sl .cw d.af],.agg [.sl .bI n.ab,.sl .ci n.aC],.agg [.lit m.a,.lit m.b],.agg [.lit s.a,.lit s.b],.one (.lit (.int .i64 id)),.one (.lit (.int .i64 i))]
 pre:=fun(d,n,m,s,id,i)=>[0<=i,i<d.af.length,i<n.aC.length,(d.af.getD i.toNat aP).ai.length<=4294967295]
 ot:=fun(d,n,m,s,id,i)=>⟨[.agg [.sl .cq ((⟨cB (d.af.getD i.toNat aP) false,cB (d.af.getD i.toNat aP) true,n.aC.getD i.toNat b_,m.a,s,id⟩:yD)).bH,.sl .cq ((⟨cB (d.af.getD i.toNat aP) false,cB (d.af.getD i.toNat aP) true,n.aC.getD i.toNat b_,m.a,s,id⟩:yD)).ey,.sl .int (((⟨cB (d.af.getD i.toNat aP) false,cB (d.af.getD i.toNat aP) true,n.aC.getD i.toNat b_,m.a,s,id⟩:yD)).chain).Pos,.sl .int (((⟨cB (d.af.getD i.toNat aP) false,cB (d.af.getD i.toNat aP) true,n.aC.getD i.toNat b_,m.a,s,id⟩:yD)).chain).Neg,.lit (((⟨cB (d.af.getD i.toNat aP) false,cB (d.af.getD i.toNat aP) true,n.aC.getD i.toNat b_,m.a,s,id⟩:yD)).a),.lit ((((⟨cB (d.af.getD i.toNat aP) false,cB (d.af.getD i.toNat aP) true,n.aC.getD i.toNat b_,m.a,s,id⟩:yD)).s).a),.lit ((((⟨cB (d.af.getD i.toNat aP) false,cB (d.af.getD i.toNat aP) true,n.aC.getD i.toNat b_,m.a,s,id⟩:yD)).s).b),.lit (.int .i64 ((⟨cB (d.af.getD i.toNat aP) false,cB (d.af.getD i.toNat aP) true,n.aC.getD i.toNat b_,m.a,s,id⟩:yD)).id)]],[false],[]⟩
 law:=by intro l x h;(try simp only at h);split at h<;>cases h;rfl
def akP:AX xT:=fun(d,n,m,s,id,i)=>bq []
def afo:=us [aii]
theorem wE:Holds CA (203,xT):=by
 refine holds_of nz func203 xT (by kernel_rfl) afo (all_cons vf all_nil) akP (fun x hp hb=> ?_)
 obtain⟨d,n,m,s,id,i⟩:=x
 have TZ:dT (U:=UU) (.agg [.lit (.string d.Name),.sl .cw d.af]):=hb _ (cH)
 have fj:L9 d.Name.size:=Bd.str (TZ _ (by simp))
 have ez:L9 d.af.length:=Bd.len (U:=UU) (τ:=.cw) (xs:=d.af) (TZ _ (by simp))
 have aeW:dT (U:=UU) (.agg [.sl .bI n.ab,.sl .ci n.aC]):=hb _ (aJ _ (cH))
 have iK:L9 n.ab.length:=Bd.len (U:=UU) (τ:=.bI) (xs:=n.ab) (aeW _ (by simp))
 have iJ:L9 n.aC.length:=Bd.len (U:=UU) (τ:=.ci) (xs:=n.aC) (aeW _ (by simp))
 have ate:dT (U:=UU) (.agg [.lit m.a,.lit m.b]):=hb _ (aJ _ (aJ _ (cH)))
 have atd:dT (U:=UU) (.agg [.lit s.a,.lit s.b]):=hb _ (aJ _ (aJ _ (aJ _ (cH))))
 have aeX:dT (U:=UU) (.one (.lit (.int .i64 id))):=hb _ (aJ _ (aJ _ (aJ _ (aJ _ (cH)))))
 have E8:=Bd.i64 aeX
 have apM:dT (U:=UU) (.one (.lit (.int .i64 i))):=hb _ (aJ _ (aJ _ (aJ _ (aJ _ (aJ _ (cH))))))
 have as':=Bd.i64 apM
 have bP:0<=i:=hp _ (cH)
 have jv:i<d.af.length:=hp _ (aJ _ (cH))
 have uZ:i<n.aC.length:=hp _ (aJ _ (aJ _ (cH)))
 have AD:(d.af.getD i.toNat aP).ai.length<=4294967295:=hp _ (aJ _ (aJ _ (aJ _ (cH))))
 clear hp hb
 apply vE (let x1:=n.aC.getD i.toNat b_;let x2:=d.af.getD i.toNat aP;let x0:={bH:=cB x2 false,ey:=cB x2 true,chain:=x1,a:=m.a,s:=s,id:=id:yD}.s;0<=i/\i.toNat<d.af.length/\x2.ai.length<=4294967295/\x2.ai.length<=4294967295/\0<=i/\i.toNat<n.aC.length/\Lf [DV.agg [CL .cq (cB x2 false),CL .cq (cB x2 true),CL .int x1.Pos,CL .int x1.Neg,Cell.lit m.1,Cell.lit s.1,Cell.lit s.2,CI id]] [DV.agg [CL .cq (cB x2 false),CL .cq (cB x2 true),CL .int x1.Pos,CL .int x1.Neg,Cell.lit m.1,Cell.lit x0.1,Cell.lit x0.2,CI id]])
 dsimp only
 exact⟨bP,by omega,AD,AD,bP,by omega,aO _⟩
theorem We:Holds EE (203,xT):=wE.env rfl rfl rfl
theorem NX(a b:Int):pu b a= -pu a b:=by
 unfold pu;split<;>split<;>(try split)<;>omega
theorem zp{a b:Int}:pu a b=0↔a=b:=by
 unfold pu;split<;>(try split)<;>omega
theorem Us{a b c:Int}(h1:pu a b<0)(h2:pu b c<0):pu a c<0:=by
 unfold pu at*;split at h1<;>(try split at h1)<;>split at h2<;>(try split at h2)<;>split<;>(try split)<;>omega
theorem vT:∀a b:List Int,gb b a= -gb a b
 |[],[]=>rfl
 |[],_::_=>rfl
 |_::_,[]=>rfl
 |x::a,y::b=>by
  simp only[gb,NX x y]
  by_cases h:pu x y=0
  ·rw[if_pos h,if_pos (by omega)];exact vT a b
  ·rw[if_neg h,if_neg (by omega)]
theorem pt:∀{a b:List Int},gb a b=0->a=b
 |[],[],_=>rfl
 |[],_::_,h=>by cases h
 |_::_,[],h=>by cases h
 |x::a,y::b,h=>by
  simp only[gb] at h
  by_cases g:pu x y=0
  ·rw[if_pos g] at h;rw[zp.1 g,pt h]
  ·rw[if_neg g] at h;exact absurd h g
theorem DS:∀{a b c:List Int},gb a b<0->gb b c<0->gb a c<0
 |[],[],_,h,_=>by simp[gb] at h
 |[],_::_,[],_,h=>by simp[gb] at h
 |[],_::_,_::_,_,_=>by simp[gb]
 |_::_,[],_,h,_=>by simp[gb] at h
 |_::_,_::_,[],_,h=>by simp[gb] at h
 |x::a,y::b,z::c,h1,h2=>by
  simp only[gb] at*
  by_cases g1:pu x y=0
  ·have:=zp.1 g1
   subst this
   rw[if_pos g1] at h1
   by_cases g2:pu x z=0
   ·rw[if_pos g2] at h2⊢;exact DS h1 h2
   ·rw[if_neg g2] at h2⊢;exact h2
  ·rw[if_neg g1] at h1
   by_cases g2:pu y z=0
   ·have:=zp.1 g2
    subst this
    rw[if_neg g1];exact h1
   ·rw[if_neg g2] at h2
    have:=Us h1 h2
    rw[if_neg (by omega)];exact this
theorem fS(a b:au):eU b a= -eU a b:=by
 unfold eU
 rw[vT a.b9 b.b9,vT a.db b.db]
 by_cases h:gb a.b9 b.b9=0
 ·rw[if_pos h,if_pos (by omega)]
 ·rw[if_neg h,if_neg (by omega)]
theorem lE{a b:au}(h:eU a b=0):a=b:=by
 unfold eU at h
 by_cases g:gb a.b9 b.b9=0
 ·rw[if_pos g] at h
  have h1:=pt g
  have h2:=pt h
  cases a;cases b
  simp only at h1 h2
  rw[h1,h2]
 ·rw[if_neg g] at h;exact absurd h g
theorem uK{a b c:au}(h1:eU a b<0)(h2:eU b c<0):eU a c<0:=by
 unfold eU at*
 by_cases g1:gb a.b9 b.b9=0
 ·rw[if_pos g1] at h1
  rw[pt g1]
  by_cases g2:gb b.b9 c.b9=0
  ·rw[if_pos g2] at h2⊢;exact DS h1 h2
  ·rw[if_neg g2] at h2⊢;exact h2
 ·rw[if_neg g1] at h1
  by_cases g2:gb b.b9 c.b9=0
  ·rw[<-pt g2,if_neg g1];exact h1
  ·rw[if_neg g2] at h2
   have:=DS h1 h2
   rw[if_neg (by omega)];exact this
def St:List Int->Int
 |[]=>0
 |x::l=>if x=0 then St l else x
def Ms:=bE (α:=Int) (q1 qI) [.ro] (fun _=>[]) (fun x=>⟨[dO false],[],[]⟩)
def aj8:AX Ms:=fun x=>bq []
def afj:List (FuncId×kq UU):=[]
theorem Iu:Holds CA (301,Ms):=by
 refine holds_of nz func301 Ms (by kernel_rfl) afj all_nil aj8 (fun(x:Int) hp hb=> ?_)
 have apq:=mL (n:=x) (hb _ m0)
 clear hp hb
 apply vE (Lb (x !=x) false)
 exact cx (by simp)
theorem afq:Holds EE (301,Ms):=Iu.env rfl rfl rfl
def ahS:HH:=⟨_,afq⟩
def Mt:=bE (α:=Int×Int) (qC qI (q1 qI)) [.ro,.ro] (fun _=>[]) (fun(x,y)=>⟨[dI (pu x y)],[],[]⟩)
def akd:AX Mt:=fun(x,y)=>bq []
def afk:=us [ahS]
theorem Iv:Holds CA (283,Mt):=by
 refine holds_of nz func283 Mt (by kernel_rfl) afk (all_cons Iu all_nil) akd (fun x hp hb=> ?_)
 obtain⟨x,y⟩:=x
 have apq:=mL (n:=x) (hb _ m0)
 have as8:=mL (n:=y) (hb _ m1)
 clear hp hb
 apply vE (bif decide (x<y) then Li (-1) (pu x y) else bif decide (x>y) then Li 1 (pu x y) else Li 0 (pu x y))
 refine ae (fun h=>cG ?_) (fun h=>ae (fun g=>cG ?_) (fun g=>cG ?_))<;>simp only[decide_eq_true_eq,decide_eq_false_iff_not] at h<;>try simp only[decide_eq_true_eq,decide_eq_false_iff_not] at g
 ·exact(if_pos h).symm
 ·exact((if_neg h).trans (if_pos g)).symm
 ·exact((if_neg h).trans (if_neg g)).symm
theorem aft:Holds EE (283,Mt):=Iv.env rfl rfl rfl
def ah4:HH:=⟨_,aft⟩
def Mw:=bE (α:=List Int) (q1 (qL .int)) [.ro] (fun _=>[]) (fun l=>⟨[dI (St l)],[],[]⟩)
def BT(l:List Int):Int×Int×Unit->Prop:=fun(i,z,_)=>z=0/\0<=i/\i<=l.length/\St (l.drop i.toNat)=St l
def A2(l:List Int):Int×Int×Unit->Nat:=fun(i,z,_)=>l.length-i.toNat
def aks:AX Mw:=fun l=>bq [(3,az [iI 8,iI 3] (fun _=>BT l) (A2 l))]
def afn:List (FuncId×kq UU):=[]
theorem LI:Holds CA (247,Mw):=by
 refine holds_of nz func247 Mw (by kernel_rfl) afn all_nil aks (fun(l:List Int) hp hb=> ?_)
 have nV:L9 l.length:=eD (hb _ m0)
 clear hp hb
 apply vE (BT l (0,0,())/\∀(y:Int×Int×PUnit),let q0:=(wrap i64 (y.1+1),y.2.1,());BT l y->bif decide (y.1<(l.length:Int)) then 0<=y.1/\y.1.toNat<l.length/\bif l.getD y.1.toNat 0 !=y.2.1 then Li (l.getD y.1.toNat 0) (St l) else BT l q0/\A2 l q0<A2 l y else Li y.2.1 (St l))
 dsimp only
 refine⟨⟨rfl,by omega,by omega,rfl⟩,?_⟩
 rintro⟨i,z,⟨⟩⟩ ⟨rfl,h1,h2,hR⟩
 simp only
 refine ae (fun hc=> ?_) (fun hc=> ?_)<;>simp only[decide_eq_true_eq,decide_eq_false_iff_not] at hc
 ·rw[cj l (0:Int) h1 hc] at hR
  simp only[St] at hR
  rw[wi]
  refine⟨by omega,by omega,ae (fun g=> ?_) (fun g=> ?_)⟩
  ·have g:¬l.getD i.toNat 0=0:=by simpa using g
   rw[if_neg g] at hR;exact cG hR
  ·have g:l.getD i.toNat 0=0:=by simpa using g
   rw[if_pos g] at hR;exact⟨⟨rfl,by omega,by omega,hR⟩,by simp only[A2];omega⟩
 ·rw[bU l (by omega)] at hR
  exact cG hR
theorem afw:Holds EE (247,Mw):=LI.env rfl rfl rfl
def aim:HH:=⟨_,afw⟩
def Mv:=bE (α:=(List Int)×(List Int)) (qC (qL .int) (q1 (qL .int))) [.ro,.ro] (fun _=>[]) (fun(a,b)=>⟨[dI (gb a b)],[],[]⟩)
def BS(a:List Int)(b:List Int):Int×Unit->Prop:=fun(i,_)=>0<=i/\i<=a.length/\(i<=b.length/\gb (a.drop i.toNat) (b.drop i.toNat)=gb a b)
def AZ(a:List Int)(b:List Int):Int×Unit->Nat:=fun(i,_)=>a.length-i.toNat
def akr:AX Mv:=fun(a,b)=>bq [(2,az [iI 11] (fun _=>BS a b) (AZ a b))]
def afm:=us [ah4]
theorem E1:Holds CA (248,Mv):=by
 refine holds_of nz func248 Mv (by kernel_rfl) afm (all_cons Iv all_nil) akr (fun x hp hb=> ?_)
 obtain⟨a,b⟩:=x
 have cJ:L9 a.length:=eD (hb _ m0)
 have nj:L9 b.length:=eD (hb _ m1)
 clear hp hb
 apply vE (let x0:=(a.length:Int);let x1:=(b.length:Int);BS a b (0,())/\∀(y:Int×PUnit),let x2:=pu (a.getD y.1.toNat 0) (b.getD y.1.toNat 0);let q0:=(wrap i64 (y.1+1),());BS a b y->bif decide (y.1<x0) then 0<=y.1/\y.1.toNat<a.length/\bif decide (y.1≥x1) then Li 1 (gb a b) else 0<=y.1/\y.1.toNat<b.length/\bif x2 !=0 then Li x2 (gb a b) else BS a b q0/\AZ a b q0<AZ a b y else bif decide (x0<x1) then Li (-1) (gb a b) else Li 0 (gb a b))
 dsimp only
 refine⟨⟨by omega,by omega,by omega,rfl⟩,?_⟩
 rintro⟨i,⟨⟩⟩ ⟨h1,h2,h3,hR⟩
 simp only
 refine ae (fun hc=> ?_) (fun hc=> ?_)<;>simp only[decide_eq_true_eq,decide_eq_false_iff_not] at hc
 ·rw[wi]
  rw[cj a (0:Int) h1 hc] at hR
  refine⟨by omega,by omega,ae (fun g=> ?_) (fun g=> ?_)⟩
  ·have g:=yT g
   rw[bU b (by omega)] at hR;exact cG hR
  ·have g:=yF g
   refine⟨by omega,by omega,?_⟩
   rw[cj b (0:Int) h1 (by omega)] at hR
   simp only[gb] at hR
   refine ae ?_ ?_<;>intro e
   ·have e:¬pu (a.getD i.toNat 0) (b.getD i.toNat 0)=0:=by simpa using e
    rw[if_neg e] at hR;exact cG hR
   ·have e:pu (a.getD i.toNat 0) (b.getD i.toNat 0)=0:=by simpa using e
    rw[if_pos e] at hR;exact⟨⟨by omega,by omega,by omega,hR⟩,by simp only[AZ];omega⟩
 ·rw[bU a (by omega)] at hR
  refine ae ?_ ?_<;>intro g
  ·have g:=yT g
   rw[cj b (0:Int) h1 (by omega)] at hR;exact cG hR
  ·have g:=yF g
   rw[bU b (by omega)] at hR;exact cG hR
theorem afv:Holds EE (248,Mv):=E1.env rfl rfl rfl
def ail:HH:=⟨_,afv⟩
def FL:=bE (α:=au×au) (qC (qA .bO) (q1 (qA .bO))) [.ro,.ro] (fun _=>[]) (fun(a,b)=>⟨[dI (eU a b)],[],[]⟩)
def akT:AX FL:=fun(a,b)=>bq []
def afp:=us [aim,ail]
theorem Nc:Holds CA (198,FL):=by
 refine holds_of nz func198 FL (by kernel_rfl) afp (all_cons LI (all_cons E1 all_nil)) akT (fun x hp hb=> ?_)
 obtain⟨a,b⟩:=x
 have aG:=p5 (x:=a) (hb _ m0)
 have pe:=aG.1
 have ue:=aG.2
 have cr:=p5 (x:=b) (hb _ m1)
 have De:=cr.1
 have Fa:=cr.2
 clear hp hb
 apply vE (Li (St [gb a.b9 b.b9,gb a.db b.db]) (eU a b))
 refine cG ?_
 unfold eU
 simp only[St]
 split
 ·split
  ·rename_i h;exact h.symm
  ·rfl
 ·rfl
theorem Wf:Holds EE (198,FL):=Nc.env rfl rfl rfl
def aiW:HH:=⟨_,Wf⟩
theorem Ki:Ed EE (203:FuncId):=by
 intro xs ps cs hx
 replace hx:abe xs=some (ps,cs):=hx
 unfold abe at hx
 split at hx
 rotate_left
 ·cases hx
 rename_i nm τr rs τa al τc ch x y s0 s1 id i
 split at hx
 rotate_left
 ·cases hx
 rename_i Vv al' ch' h1 h2 h3
 cases bJ h1
 cases bJ h2
 cases bJ h3
 cases hx
 refine⟨We.1,fun hp w F kv fp bad vs hF tw hlen LW=> ?_⟩
 match vs,hlen with
 |[v0,v1,v2,v3,v4,v5],_=>
 have R0:=LW 0 _ v0 rfl rfl
 have R1:=LW 1 _ v1 rfl rfl
 have R2:=LW 2 _ v2 rfl rfl
 have R3:=LW 3 _ v3 rfl rfl
 have R4:=LW 4 _ v4 rfl rfl
 have R5:=LW 5 _ v5 rfl rfl
 have jv:0<=i:=hp _ (.head _)
 have uZ:i<Vv.length:=hp _ (.tail _ (.head _))
 have AD:i<ch'.length:=hp _ (.tail _ (.tail _ (.head _)))
 have Oc:(List.getD (α:=aw) Vv i.toNat aP).ai.length<=4294967295:=hp _ (.tail _ (.tail _ (.tail _ (.head _))))
 have two:∀{a b:AC UU}{v:Value},RS EE w F kv fp bad (.v ⟨true,[a,b]⟩) v->∃u1 u2,v=.agg #[u1,u2]/\RD EE w F kv fp bad a u1/\RD EE w F kv fp bad b u2:=by
  rintro a b v ⟨us,⟨q1,q2⟩,q3⟩
  match us,q1 with
  |[u1,u2],_=>exact⟨u1,u2,q3,q2 0 a u1 rfl rfl,q2 1 b u2 rfl rfl⟩
 have ael:∀{a:AC UU}{v:Value},RS EE w F kv fp bad (.v ⟨false,[a]⟩) v->RD EE w F kv fp bad a v:=by
  rintro a v ⟨us,⟨q1,q2⟩,q3⟩
  cases q3
  exact q2 0 a v rfl rfl
 have cc:∀{c:CC}{v:Value},RD EE w F kv fp bad (.c c) v->Rp EE w F false c v []:=fun h=>bG h rfl
 obtain⟨a0,a1,rfl,A0,A1⟩:=two R0
 obtain⟨b0,b1,rfl,B0,B1⟩:=two R1
 obtain⟨c0,c1,rfl,C0,C1⟩:=two R2
 obtain⟨d0,d1,rfl,D0,D1⟩:=two R3
 have E4:=cc (ael R4)
 have E5:=cc (ael R5)
 have ag:∀{p q:CC}{u1 u2:Value},Rp EE w F false p u1 []->Rp EE w F false q u2 []->mN EE w F .ro (.agg [p,q]) (.agg #[u1,u2]) []:=fun{p q u1 u2} h1 h2=>⟨[u1,u2],rfl,rfl,fun k c hc=>by
  match k,hc with
  |0,hc=>cases hc;exact h1
  |1,hc=>cases hc;exact h2,rfl⟩
 have ha:iN EE w F xT.md (xT.ds (⟨nm,Vv⟩,⟨al',ch'⟩,⟨c0,c1⟩,⟨d0,d1⟩,id,i)) [.agg #[a0,a1],.agg #[b0,b1],.agg #[c0,c1],.agg #[d0,d1],v4,v5] [[],[],[],[],[],[]]:=
  ⟨ag (cc A0) (cc A1),ag (cc B0) (cc B1),ag (.lit _ _ C0.1) (.lit _ _ C1.1),ag (.lit _ _ D0.1) (.lit _ _ D1.1),⟨E4,rfl⟩,⟨E5,rfl⟩,trivial⟩
 have hc:=We.2 (⟨nm,Vv⟩,⟨al',ch'⟩,⟨c0,c1⟩,⟨d0,d1⟩,id,i) (fun p jf=>by
  simp only[xT,h_,rh,or_false] at jf
  rcases jf with rfl|rfl|rfl|rfl
  ·exact jv
  ·exact uZ
  ·exact AD
  ·exact Oc) w F _ _ hF tw ha (oK rfl) (by simp) (fun b hb=>by simp at hb)
 refine hc.mono ?_
 rintro e w' ⟨us,oi,gS,g1,g2,g3,_⟩
 replace g3:lG EE w' (rI F w w' (oi.flatten++gS.flatten) [[],[],[],[],[],[]].flatten) [false] [.agg [.sl Cd.cq ((List.getD (α:=aw) Vv i.toNat aP).ai.filter (fun p:bc=>p.Not==false)),.sl Cd.cq ((List.getD (α:=aw) Vv i.toNat aP).ai.filter (fun p:bc=>p.Not==true)),.sl Cd.int (List.getD (α:=bm) ch' i.toNat b_).Pos,.sl Cd.int (List.getD (α:=bm) ch' i.toNat b_).Neg,.lit c0,.lit d0,.lit d1,.lit (.int .i64 id)]] us oi:=g3
 obtain⟨u,l,rfl,rfl⟩:∃u l,us=[u]/\oi=[l]:=by
  match us,oi,g3 with
  |[u],[l],_=>exact⟨u,l,rfl,rfl⟩
  |[],_,h=>exact False.elim h
  |_::_,[],h=>exact False.elim h
  |[_],_::_::_,h=>exact False.elim h.2
  |_::_::_,_::_,h=>exact False.elim h.2
 obtain⟨rm,r1,r2,r3,r4⟩:=g3.1
 refine⟨rm,by rw[g1,r1];rfl,g2.mono (fun b hb=>by simp at hb),r2,fun j y u hy hu=> ?_⟩
 have kM:rm.getD j undef=u:=by simp[List.getD,hu]
 have base:∀(c:CC),(xT.ot (⟨nm,Vv⟩,⟨al',ch'⟩,⟨c0,c1⟩,⟨d0,d1⟩,id,i)).val=[.agg ((match(xT.ot (⟨nm,Vv⟩,⟨al',ch'⟩,⟨c0,c1⟩,⟨d0,d1⟩,id,i)).val with|[.agg l]=>l|_=>[]))]:=fun _=>rfl
 have go:∀(c:CC),Rp EE w' (rI F w w' ([l].flatten++gS.flatten) [[],[],[],[],[],[]].flatten) false c u []->Rp EE w' (fun b=>F b\/(w.heap.size<=b/\b<w'.heap.size)) false c u []:=fun c h=>h.cI (fun b hb=>⟨by
  rcases hb with hb|hb
  ·exact .inl hb
  ·rcases hb with⟨h1|h1,h2,_⟩
   ·exact .inr ⟨h1,h2⟩
   ·simp at h1,rfl⟩) (fun _ _=>rfl)
 have lit:∀{v:Value}{F':Nat->Prop},Rp EE w' F' false (.lit v) u []->u=v:=fun h=>by cases h;rfl
 match j,hy with
 |0,hy=>cases hy;exact .inr ⟨_,rfl,go _ (kM▸r3 0 _ rfl)⟩
 |1,hy=>cases hy;exact .inr ⟨_,rfl,go _ (kM▸r3 1 _ rfl)⟩
 |2,hy=>cases hy;exact .inr ⟨_,rfl,go _ (kM▸r3 2 _ rfl)⟩
 |3,hy=>cases hy;exact .inr ⟨_,rfl,go _ (kM▸r3 3 _ rfl)⟩
 |4,hy=>cases hy;exact .inl (by rw[lit (kM▸r3 4 _ rfl)];exact C0)
 |5,hy=>cases hy;exact .inl (by rw[lit (kM▸r3 5 _ rfl)];exact D0)
 |6,hy=>cases hy;exact .inl (by rw[lit (kM▸r3 6 _ rfl)];exact D1)
 |7,hy=>cases hy;exact .inr ⟨_,rfl,go _ (kM▸r3 7 _ rfl)⟩
def Wb(w w':World)(v':Value)(m:Nat)(news:List Value):Prop:=(m=0/\∃ad,v'=.slice ad 0 0)\/∃b' qo cur',v'=.slice (some ⟨b',0,none⟩) m qo/\w'.heap[b']? =some (.cells cur' 210 (0,0))/\m<=qo/\qo<=maxLen/\cur'.size=qo*2/\cur'.toList.take (m*2)=news/\w.heap.size<=b'/\b'<w'.heap.size
theorem H'{ops:Array Oper}{rest:List Oper}{o:Oper}{a:Act}{w:World}{Q:Exit->Act->World->Prop}(H3:o.guard=none)(s x:Operand)
  (ho:o.op=.call {callee:=.builtin .append,args:= #[s,x],argTypes:= #[112,112]}) (ad0:Option Addr) (hs:a.eval s=.slice ad0 0 0) (ad:Option Addr) (m c:Nat) (news:List Value) (hx:a.eval x=.slice ad m c) (hl:news.length=m*2)
  (kk:0<m->∃b off,ad=some ⟨b,off,none⟩/\∀i u,news[i]? =some u->w.cell? ⟨b,off+i,none⟩=some u) (h1:∀u∈news,u.oneCell'=true) (hle:m<=4294967296)
  (h:∀v' w',fm (fun _=>False) w w'->Wb w w' v' m news->wpList CA.P ops Q rest (a.put o.dst v') w'):wpList CA.P ops Q (o::rest) a w:=by
 refine wpList_plain H3 fun next hK=> ?_
 obtain⟨v',w',fw,hos,htp,rE,NQ,mS,sX⟩:=DZ (E:=CA) (w:=w) (a:=a) (o:=o) (B:=fun _=>False) nz ho rfl rfl rfl (τ:=Cd.bO) (e:=210) (t:=112) (by kernel_rfl) (by rfl) (n:=0) (m:=m) (vs:=[]) (us:=news) (.inl ⟨rfl,⟨ad0,hs⟩,rfl⟩) (by simp) hl h1
  (by rw[hx];exact Src.slice (e:=210) (by kernel_rfl) hl kk) (by omega)
 show o.upon CA.P a next Q ((execOp a.eval o).run CA.P w)
 rw[fw]
 show next (a.put o.dst v') w'
 refine hK _ _ (h v' w' ?_ ?_)
 ·rcases sX with⟨_,_,hw0,_⟩|⟨b',_,_,_,_,_,_,_,_,_,h8,h9⟩
  ·rw[hw0];exact fm.refl _ _
  ·refine⟨hos,htp,rE,mS,fun k hk _=>h8 k (fun e=> ?_) hk,NQ⟩
   rcases h9 with g|g
   ·exact g
   ·omega
 ·rcases sX with⟨h0,H5,_,_⟩|⟨b',qo,cur',q1,q2,q3,q4,q5,q6,q7,_,h9⟩
  ·exact .inl ⟨by omega,H5⟩
  ·rw[oz] at q1 q3 q6
   rcases h9 with g|g
   ·exact g.elim
   ·exact .inr ⟨b',qo,cur',q1,q2,q3,q4,q5,q6,by omega,q7⟩
set_option maxHeartbeats 2000000 in
set_option maxRecDepth 100000 in
open Go.Proofs Go.RowKit Go.Lib in
theorem K9(ad:Addr)(n c:Nat)(news:List Value)(w:World)(hl:news.length=n*2)(hn:n<=4294967296)
  (hc:0<n->∃b off,some ad=some ⟨b,off,none⟩/\∀i u,news[i]? =some u->w.cell? ⟨b,off+i,none⟩=some u) (h1:∀u∈news,u.oneCell'=true):
  Calls CA.P 196 #[.slice (some ad) n c] w fun e w'=>∃v',e=.returned v'/\fm (fun _=>False) w w'/\Wb w w' v' n news:=by
 have t22:CA.P.underlying 112=some (.slice 210):=by kernel_rfl
 have q22:∀(w:World)(a:Option Addr)(n c n' c':Nat),(binOp .eql 112 (.slice a n c) (.slice none n' c')).run CA.P w=.ok (.bool a.isNone) w:=fun w a n c n' c'=>Lib.run_eql_slice_nil w _ _ a n c n' c' t22
 have u22:∀w,Sem.run CA.P (underlying 112) w=.ok (TypeDesc.slice 210) w:=run_underlying t22
 have mixed:CA.P.follows .mixedOrders=true:=nz.mixed
 obtain⟨_,i0,z,hi,aG,cr,J2,Qm,_⟩:=nz.code 210 Cd.bO rfl
 have z23:∀w,(Go.sizeOf 210).run CA.P w=.ok 2 w:=fun w=>by
  have cr:i0.size=2:=cr
  simp[Go.sizeOf,typeInfo,hi,cr]
 have A:Aside (0<n->∃b off,some ad=some ⟨b,off,none⟩/\∀i u,news[i]? =some u->w.cell? ⟨b,off+i,none⟩=some u):=hc
 clear hc
 go_enter func196,ntmps196
 go_wp2_with (at_builtin;refine H' rfl _ _ rfl _ rfl (some ad) n c news rfl hl ?qc1 h1 hn ?_)
 case qc1=>
  intro h0
  obtain⟨b,off,g1,g2⟩:=A.out h0
  exact⟨b,off,by injection g1,fun i u hu=>Lib.cell?_alloc_some _ (g2 i u hu)⟩
 intro v' w1 kx sX
 go_wp2
 go_ret
 have ha:=fm.alloc (fun _=>False) w (.cells #[] 210)
 refine⟨v',rfl,ha.trans (kx.mono (fun _ h=>h.elim)),?_⟩
 rcases sX with g|⟨b',qo,cur',q1,q2,q3,q4,q5,q6,q7,q8⟩
 ·exact .inl g
 ·exact .inr ⟨b',qo,cur',q1,q2,q3,q4,q5,q6,En ha.size q7,q8⟩
set_option maxHeartbeats 1000000 in
set_option maxRecDepth 100000 in
open Go.Proofs Go.RowKit Go.Lib in
theorem K_(n c:Nat)(w:World):
  Calls CA.P 196 #[.slice none n c] w fun e w'=>e=.returned (.slice none 0 0)/\w'=w:=by
 have t22:CA.P.underlying 112=some (.slice 210):=by kernel_rfl
 have q22:∀(w:World)(a:Option Addr)(n c n' c':Nat),(binOp .eql 112 (.slice a n c) (.slice none n' c')).run CA.P w=.ok (.bool a.isNone) w:=fun w a n c n' c'=>Lib.run_eql_slice_nil w _ _ a n c n' c' t22
 have mixed:CA.P.follows .mixedOrders=true:=nz.mixed
 go_enter func196,ntmps196
 go_wp2
 go_ret
 exact⟨rfl,rfl⟩
theorem NY:HR EE (196:FuncId) Cd.bO:=by
 refine⟨⟨_,func196,by kernel_rfl,by kernel_rfl⟩,fun w ad n c us hl hc h1 hn=> ?_⟩
 cases ad with
 |none=>
  have NF:n=0:=by
   rcases Nat.eq_zero_or_pos n with h|h
   ·exact h
   ·obtain⟨_,_,h',_⟩:=hc h;cases h'
  refine(K_ n c w).mono ?_
  rintro e w' ⟨rfl,rfl⟩
  exact⟨_,rfl,fm.refl _ _,.inl ⟨NF,none,rfl⟩⟩
 |some ad=>
  refine(K9 ad n c us w hl hn hc h1).mono ?_
  rintro e w' ⟨v',rfl,kx,sX⟩
  exact⟨v',rfl,kx,sX⟩
theorem abm(f:FuncId)(τ:Cd)(h:EE.Wa f=some τ):HR EE f τ:=by
 have h:abn f=some τ:=h
 unfold abn at h
 rw[fc] at h
 split at h
 ·rename_i hf
  cases h
  rw[jp hf]
  exact NY
 ·cases h
theorem Zs(f:FuncId):Ed EE f:=by
 intro xs ps cs h
 have h':Zt f xs=some (ps,cs):=h
 unfold Zt at h'
 rw[fc] at h'
 split at h'
 ·rename_i hf
  have:=jp hf
  subst this
  exact Ki xs ps cs h
 ·cases h'
def RTk(w:World)(F:Nat->Prop)(p:au×Value×Value):Prop:=Rp EE w F false (.sl Cd.int p.1.b9) p.2.1 []/\Rp EE w F false (.sl Cd.int p.1.db) p.2.2 []
abbrev J9(w:World)(F:Nat->Prop):={p:au×Value×Value//RTk w F p}
def kC{w:World}{F:Nat->Prop}(p:J9 w F):List Value:=[p.1.2.1,p.1.2.2]
def ic{w:World}{F:Nat->Prop}(p:J9 w F):au:=p.1.1
theorem ET{w:World}{F:Nat->Prop}:∀(xs:List au)(vs:List Value)(fl:List (List Nat)),dD EE w F false Cd.bO xs vs fl->∃d:List (J9 w F),d.map ic=xs/\d.flatMap kC=vs
 |[],vs,fl,h=>⟨[],rfl,by
  have:vs=[]:=yG (show vs.length=0 from h.1)
  rw[this];rfl⟩
 |x::xs,vs,fl,h=>by
  obtain⟨h1,h2,h3⟩:=h
  replace h1:vs.length=(xs.length+1)*2:=h1
  replace h2:fl.length=(xs.length+1)*2:=h2
  have two:∀{α:Type}{l:List α},l.length=(xs.length+1)*2->∃a b t,l=a::b::t:=fun{α l} h=>by
   match l,h with
   |a::b::t,_=>exact⟨a,b,t,rfl⟩
   |[_],h=>simp at h;omega
   |[],h=>simp at h
  obtain⟨v0,v1,vs,rfl⟩:=two h1
  obtain⟨f0,f1,fl,rfl⟩:=two h2
  ·have a0:Rp EE w F false (.sl Cd.int x.b9) v0 f0:=h3 0 x 0 _ rfl rfl
   have a1:Rp EE w F false (.sl Cd.int x.db) v1 f1:=h3 0 x 1 _ rfl rfl
   have e0:=a0.Dz
   have e1:=a1.Dz
   subst e0 e1
   obtain⟨d,d1,d2⟩:=ET xs vs fl ⟨by show vs.length=xs.length*2;simp at h1;omega,by show fl.length=xs.length*2;simp at h2;omega,fun i y j c hy hc=>by
    have:=h3 (i+1) y j c hy hc
    have e:(i+1)*UU.wd Cd.bO+j=(i*UU.wd Cd.bO+j)+2:=by show(i+1)*2+j=(i*2+j)+2;omega
    rw[e] at this
    exact this⟩
   exact⟨⟨(x,v0,v1),a0,a1⟩::d,by rw[rl,d1];rfl,by rw[tV,d2];rfl⟩
theorem IF{w w':World}{F:Nat->Prop}(hk:∀b,F b->w'.heap[b]? =w.heap[b]?):∀(d:List (J9 w F)),dD EE w' F false Cd.bO (d.map ic) (d.flatMap kC) (List.replicate (d.length*2) [])
 |[]=>⟨rfl,rfl,fun i x j c hx _=>by cases hx⟩
 |p::d=>by
  have ih:=IF hk d
  have k0:Rp EE w' F false (.sl Cd.int p.1.1.b9) p.1.2.1 []:=p.2.1.cI (fun b hb=>⟨hb,hk b hb⟩) (by simp)
  have k1:Rp EE w' F false (.sl Cd.int p.1.1.db) p.1.2.2 []:=p.2.2.cI (fun b hb=>⟨hb,hk b hb⟩) (by simp)
  have h0:dD EE w' F false Cd.bO [ic p] (kC p) [[],[]]:=⟨rfl,rfl,fun i y j c hy hc=>by
   match i,hy with
   |0,hy=>
    cases hy
    match j,hc with
    |0,hc=>cases hc;exact k0
    |1,hc=>cases hc;exact k1⟩
  have:=h0.append ih
  have e:List.replicate ((p::d).length*2) ([]:List Nat)=[[],[]]++List.replicate (d.length*2) []:=by
   rw[show(p::d).length*2=2+d.length*2 by rw[iD];omega,<-List.replicate_append_replicate];rfl
  rw[e]
  exact this
theorem Ud{W w':World}(h:fm (fun _=>False) W w'):∃q os,w'=Go.Sort.grow (W.drewN q) os:=by
 refine⟨w'.drawn-W.drawn,w'.heap.extract W.heap.size w'.heap.size,?_⟩
 obtain⟨h1,h2,h3,h4,h5,h6⟩:=h
 have hh:w'.heap=W.heap++w'.heap.extract W.heap.size w'.heap.size:=by
  refine Array.ext_getElem? fun k=> ?_
  rw[Array.getElem?_append]
  split
  ·rename_i hk;exact h5 k hk (fun h=>h)
  ·rw[Array.getElem?_extract]
   split
   ·congr 1;omega
   ·rw[Array.getElem?_eq_none (by omega)]
 cases w' with
 |mk heap tape drawn os output=>
  simp only at h1 h2 h3 h4 h6 hh
  unfold Go.Sort.grow World.drewN
  simp only[World.mk.injEq]
  exact⟨hh,h2,by omega,h1,h3⟩
theorem NW{w:World}{F:Nat->Prop}{W:World}(hF:∀b,F b->b<w.heap.size)(mS:w.heap.size<=W.heap.size)(hk:∀b,F b->W.heap[b]? =w.heap[b]?)(tw:Lj EE w F)(x y:J9 w F):
  Calls EE.P 198 #[.agg (kC x).toArray,.agg (kC y).toArray] W fun e w'=>e=.returned (.int .i64 (eU (ic x) (ic y)))/\∃q os',w'=Go.Sort.grow (W.drewN q) os':=by
 have ag:∀p:J9 w F,mN EE W F .ro (.agg [.sl Cd.int (ic p).b9,.sl Cd.int (ic p).db]) (.agg (kC p).toArray) []:=fun p=>⟨kC p,rfl,rfl,fun k c hc=>by
  match k,hc with
  |0,hc=>cases hc;exact p.2.1.cI (fun b hb=>⟨hb,hk b hb⟩) (by simp)
  |1,hc=>cases hc;exact p.2.2.cI (fun b hb=>⟨hb,hk b hb⟩) (by simp),rfl⟩
 have ha:iN EE W F FL.md (FL.ds (ic x,ic y)) [.agg (kC x).toArray,.agg (kC y).toArray] [[],[]]:=⟨ag x,ag y,trivial⟩
 have hc:=Wf.2 (ic x,ic y) (fun p hp=>by cases hp) W F _ _ (fun b hb=>MI (hF b hb) mS) (tw.cI fun b hb=>⟨hb,hk b hb⟩) ha (oK rfl) (by simp) (fun b hb=>by simp at hb)
 refine hc.mono ?_
 rintro e w' ⟨us,oi,gS,g1,g2,g3,_⟩
 replace g3:lG EE w' (rI F W w' (oi.flatten++gS.flatten) [[],[]].flatten) [] [.one (.lit (.int .i64 (eU (ic x) (ic y))))] us oi:=g3
 obtain⟨u,l,rfl,rfl⟩:∃u l,us=[u]/\oi=[l]:=by
  match us,oi,g3 with
  |[u],[l],_=>exact⟨u,l,rfl,rfl⟩
  |[],_,h=>exact False.elim h
  |_::_,[],h=>exact False.elim h
  |[_],_::_::_,h=>exact False.elim h.2
  |_::_::_,_::_,h=>exact False.elim h.2
 have hu:u=.int .i64 (eU (ic x) (ic y)):=by
  exact(show Rp EE w' (rI F W w' ([l].flatten++gS.flatten) [[],[]].flatten) true (.lit (.int .i64 (eU (ic x) (ic y)))) u l from g3.1).kL.2.1
 exact⟨by rw[g1,hu];rfl,Ud (g2.mono fun b hb=>by simp at hb)⟩
theorem RY{w:World}{F:Nat->Prop}:Go.Sort.SWO (Go.Proofs.ltOf fun x y:J9 w F=>eU (ic x) (ic y)) where
 irrefl x:=by
  have:=fS (ic x) (ic x)
  simp only[Go.Proofs.ltOf,decide_eq_false_iff_not];omega
 trans x y z h1 h2:=by
  simp only[Go.Proofs.ltOf,decide_eq_true_eq] at*
  exact uK h1 h2
 ntrans x y z h1 h2:=by
  simp only[Go.Proofs.ltOf,decide_eq_false_iff_not] at*
  intro h3
  have a1:=fS (ic x) (ic y)
  have a2:=fS (ic y) (ic z)
  by_cases e1:eU (ic x) (ic y)=0
  ·rw[lE e1] at h3;exact h2 h3
  ·have:=uK h3 (show eU (ic z) (ic y)<0 by
    by_cases e2:eU (ic y) (ic z)=0
    ·exfalso;rw[<-lE e2] at h3;exact h1 h3
    ·omega)
   exact h1 this
theorem l8(l:List au):(cC l).Perm l:=List.mergeSort_perm _ _
theorem tc{a b:List au}(h:a.Perm b)(hs:a.Pairwise fun x y=>¬eU y x<0):a=cC b:=by
 refine List.Perm.eq_of_pairwise (le:=fun x y=>(!decide (eU y x<0))=true) ?_ ?_ ?_ (h.trans (l8 b).symm)
 ·intro x y _ _ h1 h2
  have a1:=fS x y
  simp only[sS,decide_eq_false_iff_not] at h1 h2
  exact lE (by omega)
 ·exact hs.imp fun{x y} h=>by simpa using h
 ·refine List.pairwise_mergeSort (fun x y z h1 h2=> ?_) (fun x y=> ?_) b
  ·simp only[sS,decide_eq_false_iff_not] at*
   intro h3
   have a1:=fS x y
   have a2:=fS y z
   by_cases e1:eU x y=0
   ·rw[lE e1] at h3;exact h2 h3
   ·exact h2 (uK h3 (by omega))
  ·have a1:=fS x y
   simp only[Ee,sS,decide_eq_false_iff_not]
   omega
theorem flat_get{w:World}{F:Nat->Prop}:∀(d:List (J9 w F))(t:Nat)(q:J9 w F),d[t/2]? =some q->(d.flatMap kC)[t]? =some ((kC q)[t%2]!)
 |[],t,q,h=>by simp at h
 |p::d,0,q,h=>by
  have h:some p=some q:=h
  cases h;rfl
 |p::d,1,q,h=>by
  have h:some p=some q:=h
  cases h;rfl
 |p::d,t+2,q,h=>by
  rw[show(t+2)/2=t/2+1 by omega,List.getElem?_cons_succ] at h
  have:=flat_get d t q h
  rw[show(t+2)%2=t%2 by omega]
  exact this
theorem Fj{w:World}{F:Nat->Prop}:∀(d:List (J9 w F)),(d.flatMap kC).length=d.length*2
 |[]=>rfl
 |p::d=>by
  rw[tV,kF,Fj d,iD]
  show 2+_=_
  omega
theorem I1{w:World}{F:Nat->Prop}[Inhabited (J9 w F)](D:Array (J9 w F)){t:Nat}(ht:t<D.size*2):(D.toList.flatMap kC)[t]? =some ((Go.Sort.flatK kC 2 D)[t]!):=by
 have hq:t/2<D.size:=by omega
 rw[flat_get D.toList t D[t/2] (by rw[Eg,zdk hq])]
 rw[Go.Sort.get_flatK kC 2 D t ht,getElem!_pos D (t/2) hq]
section
variable{w:World}{F:Nat->Prop}[Inhabited (J9 w F)](b m:Nat)(dk:Array (J9 w F))(os:Array Obj)
theorem Lv:w.heap.size<=(Go.Proofs.sortWorldK kC 2 w b 0 m dk os).heap.size:=by
 show w.heap.size<=(w.heap.modify b _++os).size
 rw[Array.size_append,Array.size_modify];omega
theorem Lw{k:Nat}(hk:k<w.heap.size)(cO:k≠b):(Go.Proofs.sortWorldK kC 2 w b 0 m dk os).heap[k]? =w.heap[k]? :=by
 show(w.heap.modify b _++os)[k]? =_
 rw[Array.getElem?_append_left (by rw[Array.size_modify];exact hk),Array.getElem?_modify,if_neg (Ne.symm cO)]
theorem acV{cur:Array Value}{e:TypeId}{r:Nat×Nat}(h:w.heap[b]? =some (.cells cur e r)):(Go.Proofs.sortWorldK kC 2 w b 0 m dk os).heap[b]? =some (.cells (Go.Sort.putCells id 0 (Go.Sort.flatK kC 2 dk) cur) e r):=by
 have hb:b<w.heap.size:=by
  rcases lR b w.heap.size with g|g
  ·exact g
  ·rw[Array.getElem?_eq_none g] at h;cases h
 show(w.heap.modify b _++os)[b]? =_
 rw[Array.getElem?_append_left (by rw[Array.size_modify];exact hb),Array.getElem?_modify,if_pos rfl,h];rfl
end
theorem OI(w:World)(F:Nat->Prop)(v:Value)(l:List Nat)(xs:List au)(hF:∀b,F b->b<w.heap.size)(tw:Lj EE w F)(ho:cF EE w F false ⟨Cd.bO,xs⟩ v l)(hl:∀b∈l,b<w.heap.size/\¬F b)(hn:xs.length<=4294967296):
  Calls EE.P 197 #[v,.func (.func 198) #[] #[]] w fun e w'=>e=.returned (.tuple #[])/\fm (·∈l) w w'/\cF EE w' F false ⟨Cd.bO,cC xs⟩ v l:=by
 have none:∀(ad:Option Addr)(c:Nat),xs=[]->v=.slice ad 0 c->Calls EE.P 197 #[v,.func (.func 198) #[] #[]] w fun e w'=>e=.returned (.tuple #[])/\fm (·∈l) w w'/\cF EE w' F false ⟨Cd.bO,cC xs⟩ v l:=by
  intro ad c hx hv
  have h:=Go.Proofs.AnyF.slices_SortFunc_none Vu ad c (.func (.func 198) #[] #[]) w
  rw[hv]
  refine Calls.mono (show Calls EE.P 197 _ w _ from h) ?_
  rintro e w' ⟨rfl,rfl⟩
  refine⟨rfl,fm.refl _ _,?_⟩
  rw[hx] at ho⊢
  rw[<-hv]
  rw[show cC []=[] from by unfold cC;simp]
  exact ho
 rcases ho.rows with⟨h1,⟨ad,h2⟩,h3⟩|⟨b,cap,cur,vs,fl,h1,h2,h3,h4,h5,h6,h7,h8⟩
 ·exact none ad 0 h1 h2
 ·replace h1:v=.slice (some ⟨b,0,Option.none⟩) xs.length cap:=h1
  by_cases N_:xs=[]
  ·exact none (some ⟨b,0,Option.none⟩) cap N_ (by rw[h1,N_];rfl)
  replace h5:cur.size=cap*2:=h5
  replace h6:cur.toList.take (xs.length*2)=vs:=h6
  replace h3:xs.length<=cap:=h3
  obtain⟨d,d1,d2⟩:=ET xs vs fl h7
  have V5:d.length=xs.length:=by rw[<-d1,wj]
  have rj:b∈l:=by rw[h8];exact cH
  obtain⟨Oh,T'⟩:=hl b rj
  obtain⟨p0,bP⟩:∃p0:J9 w F,p0∈d:=by
   cases d with
   |nil=>exact absurd (by simpa using d1.symm) N_
   |cons p _=>exact⟨p,cH⟩
  haveI:Inhabited (J9 w F):=⟨p0⟩
  have yI:∀j,j<xs.length*2->cur[j]? =some ((Go.Sort.flatK kC 2 d.toArray)[j]!):=fun j hj=>by
   have:=I1 d.toArray (t:=j) (by simpa[V5] using hj)
   rw[List.toList_toArray,d2,<-h6,mP,if_pos hj,Eg] at this
   exact this
  have hH:Go.Sort.HoldsK kC 2 w b 0 d.toArray:=fun j hj=>by
   rw[Go.Sort.size_flatK] at hj
   have pg:j<xs.length*2:=by simpa[V5] using hj
   refine⟨?_,?_⟩
   ·rw[cell_of_row w b _ cur _ (0,0) h2]
    show cur[0+j]? =_
    rw[oz];exact yI j pg
   ·unfold World.frozen?
    simp only[h2]
    simp
  have apG:Go.Proofs.CmpLays EE.P 198 #[] (kC (w:=w) (F:=F)) 2 (fun x y=>eU (ic x) (ic y)) b 0 d.toArray.size w:=fun m os dk _ x y=>by
   rw[Array.append_empty]
   exact NW hF (Lv b m dk os) (fun k hk=>Lw b m dk os (hF k hk) (fun e=>T' (e▸hk))) tw x y
  have hS:=Go.Proofs.AnyQ.slices_SortFunc Vu 2 isAgg210 sizeOf210 (kC (w:=w) (F:=F)) (fun _=>rfl) (fun p u hu=>by
   simp only[kC,h_,rh,or_false] at hu
   rcases hu with rfl|rfl
   ·exact p.2.1.dQ.1
   ·exact p.2.2.dQ.1) (fun x y=>eU (ic x) (ic y)) RY 198 #[] b 0 cap d.toArray w (Go.Proofs.enters_of func198 (by kernel_rfl) rfl) apG hH Oh (by simp[V5];omega)
  have mS:d.toArray.size=xs.length:=by simpa using V5
  rw[mS] at hS
  rw[h1]
  refine Calls.mono (show Calls EE.P 197 _ w _ from hS) ?_
  rintro e w' ⟨rfl,D,n,os,⟨p1,_,p3⟩,p4,rfl⟩
  have hDs:D.size=xs.length:=p1.trans mS
  have e1:D.extract 0 xs.length=D:=by rw[<-hDs];exact Array.extract_size
  have e2:d.toArray.extract 0 xs.length=d.toArray:=by rw[<-mS];exact Array.extract_size
  rw[e1,e2] at p3
  have aew:D.toList.map ic=cC xs:=by
   rw[<-d1]
   refine tc (p3.map ic) ?_
   rw[List.pairwise_map,zdv]
   intro i j hi hj H2
   have od:i<D.size:=by simpa using hi
   have pg:j<D.size:=by simpa using hj
   have:=p4 i j (Nat.zero_le _) H2 (by omega)
   simp only[Go.Proofs.ltOf,decide_eq_false_iff_not] at this
   rw[getElem!_pos D i od,getElem!_pos D j pg] at this
   simpa using this
  have hkp:∀k,k<w.heap.size->k∉l->(Go.Proofs.sortWorldK kC 2 w b 0 n D os).heap[k]? =w.heap[k]? :=fun k hk sP=>Lw b n D os hk (fun e=>sP (e▸rj))
  refine⟨rfl,⟨rfl,rfl,rfl,Lv b n D os,hkp,Nat.le_add_right _ _⟩,?_⟩
  have fB:=IF (w':=Go.Proofs.sortWorldK kC 2 w b 0 n D os) (fun k hk=>hkp k (hF k hk) (fun hm=>(hl k hm).2 hk)) D.toList
  have lh:(Go.Sort.putCells id 0 (Go.Sort.flatK kC 2 D) cur).size=cap*2:=by
   unfold Go.Sort.putCells;rw[Array.size_mapIdx];exact h5
  have aa5:(Go.Sort.putCells id 0 (Go.Sort.flatK kC 2 D) cur).toList.take (xs.length*2)=D.toList.flatMap kC:=by
   refine Ow fun j=> ?_
   rw[mP]
   split
   ·rename_i hj
    rw[I1 D (t:=j) (by omega),Eg]
    unfold Go.Sort.putCells
    rw[Array.getElem?_mapIdx,yI j hj,Ef,if_pos ⟨Nat.zero_le _,by rw[Go.Sort.size_flatK,oz,hDs];exact hj⟩,Nat.sub_zero];rfl
   ·rename_i hj
    rw[lU]
    rw[Fj,yM,hDs];omega
  have hlen:(D.toList.map ic).length=xs.length:=by rw[wj,yM];exact hDs
  have this:cF EE (Go.Proofs.sortWorldK kC 2 w b 0 n D os) F false ⟨Cd.bO,D.toList.map ic⟩ (.slice (some ⟨b,0,Option.none⟩) (D.toList.map ic).length cap) (b::(List.replicate (D.toList.length*2) ([]:List Nat)).flatten):=
   cF.jm (E:=EE) (F:=F) (τ:=Cd.bO) (acV b n D os h2) (show(D.toList.map ic).length<=cap by rw[hlen];exact h3) h4 lh (show(Go.Sort.putCells id 0 (Go.Sort.flatK kC 2 D) cur).toList.take ((D.toList.map ic).length*2)=D.toList.flatMap kC by rw[hlen];exact aa5) fB
  rw[hlen] at this
  have step:∀(ys:List au){W:World}{v:Value}{l:List Nat},ys=cC xs->cF EE W F false ⟨Cd.bO,ys⟩ v l->cF EE W F false ⟨Cd.bO,cC xs⟩ v l:=by
   rintro _ _ _ _ rfl h;exact h
  have Ek:(List.replicate (D.toList.length*2) ([]:List Nat)).flatten=[]:=by simp
  rw[Ek] at this
  rw[h8,h7.q_]
  exact step _ aew this
theorem RZ:wg EE (197:FuncId) ⟨.bO,198,cC⟩:=
 ⟨⟨_,func197,by kernel_rfl,by kernel_rfl⟩,fun w F v l xs hF tw ho hl hn=>OI w F v l xs hF tw ho hl hn⟩
theorem Zm(f:FuncId)(q:Rh UU)(h:EE.Vt f=some q):wg EE f q:=by
 have h:Zn f=some q:=h
 unfold Zn at h
 rw[fc] at h
 split at h
 ·rename_i hf
  cases h
  rw[jp hf]
  exact RZ
 ·cases h
theorem JX:EE.Ok:=⟨nz.code,nz.mixed,abm,Zs,Zm⟩
def hF{f:FuncId}{fn:Func}(k:kq UU)(hf:EE.P.funcs[f]? =some fn)(l:List HH)(n9:k.α→Nat→Option (Ai UU))(hw:∀x,(∀p∈k.pre x,p)→(∀d∈k.ds x,dT d)→ae2 EE (us l) fn k n9 x)(hc:Nb EE.P f fn k.md=true:=by kernel_rfl)(h0:k.LA=0:=by rfl):HH:=⟨(f,k),holds_of JX hf k hc (us l) (Vr _) n9 hw h0⟩
def kc(b:Int):Bool:=decide (97<=b/\b<=122)
def jZ(b:Int):Bool:=kc b||decide (48<=b/\b<=57)||decide (b=95)
def qx(s:BA):Bool:=(bs s).all (jo jZ)
def cy(s:BA):Bool:=decide (1<=s.size/\s.size<=12)&&kc ((bs s).getD 0 0).toNat&&qx s
def iE(v:cV):Bool:=bif decide (v.K=1) then decide (-1000000000<=v.N/\v.N<=1000000000)&&decide (v.S=a_) else bif decide (v.K=2) then decide (v.N=0)&&decide (v.S.size<=20)&&qx v.S else false
def gm(f:bf):Bool:=cy f.Kind&&decide (f.ak.length<=5)&&f.ak.all iE
def aqn:=bE (α:=Int×Int×Int) (qC qI (qC qI (q1 qI))) [.ro,.ro,.ro] (fun _=>[]) (fun(n,least,nQ)=>⟨[dO (decide (least<=n/\n<=nQ))],[],[]⟩)
def Ec:HH:=hF aqn func61 [] a0 fun x hp hb=>by
 obtain⟨n,least,nQ⟩:=x
 clear hp hb
 apply vE (let q0:=decide (least<=n/\n<=nQ);bif decide (n≥least) then Lb (decide (n<=nQ)) q0 else Lb false q0)
 dsimp only
 refine ae (fun h=>cx ?_) (fun h=>cx ?_)<;>grind
def aqs:=bE (α:=Int×Int×Int) (qC qI (qC qI (q1 qI))) [.ro,.ro,.ro] (fun _=>[]) (fun(x,least,nQ)=>⟨[dO (decide (least<=x/\x<=nQ))],[],[]⟩)
def tU:HH:=hF aqs func38 [] a0 fun x hp hb=>by
 obtain⟨x,least,nQ⟩:=x
 clear hp hb
 apply vE (let q0:=decide (least<=x/\x<=nQ);bif decide (x≥least) then Lb (decide (x<=nQ)) q0 else Lb false q0)
 dsimp only
 refine ae (fun h=>cx ?_) (fun h=>cx ?_)<;>grind
def ag2:=bE (α:=Int) (q1 qY) [.ro] (fun _=>[]) (fun b=>⟨[dO (kc b)],[],[]⟩)
def XS:HH:=hF ag2 func179 [] a0 fun(b:Int) hp hb=>by
 skip
 clear hp hb
 apply vE (bif decide (b≥97) then Lb (decide (b<=122)) (kc b) else Lb false (kc b))
 refine ae (fun h=>cx ?_) (fun h=>cx ?_)<;>grind [kc]
def agu:=bE (α:=Int) (q1 qY) [.ro] (fun _=>[]) (fun b=>⟨[dO (decide (48<=b/\b<=57))],[],[]⟩)
def ah7:HH:=hF agu func269 [] a0 fun(b:Int) hp hb=>by
 skip
 clear hp hb
 apply vE (let q0:=decide (48<=b/\b<=57);bif decide (b≥48) then Lb (decide (b<=57)) q0 else Lb false q0)
 dsimp only
 refine ae (fun h=>cx ?_) (fun h=>cx ?_)<;>grind
def agD:=bE (α:=Int) (q1 qY) [.ro] (fun _=>[]) (fun b=>⟨[dO (jZ b)],[],[]⟩)
def XM:HH:=hF agD func237 [XS,ah7] a0 fun(b:Int) hp hb=>by
 skip
 clear hp hb
 apply vE (bif kc b then Lb true (jZ b) else bif decide (48<=b/\b<=57) then Lb true (jZ b) else Lb (b==95) (jZ b))
 refine ae (fun h=>cx ?_) (fun h=> ?_)
 ·grind [jZ]
 refine ae (fun h=>cx ?_) (fun h=>cx ?_)<;>grind [jZ]
def ahc:=bE (α:=Int) (q1 qY) [.ro] (fun c=>[0<=c/\c<=255]) (fun c=>⟨[dO (jZ c)],[],[]⟩)
def Q_:HH:=hF ahc func161 [tU] a0 fun(c:Int) hp hb=>by
 have bP:0<=c/\c<=255:=hp _ m0
 clear hp hb
 apply vE (bif decide (97<=wrap i64 c/\wrap i64 c<=122) then Lb true (jZ c) else bif decide (48<=wrap i64 c/\wrap i64 c<=57) then Lb true (jZ c) else Lb (c==95) (jZ c))
 rw[wi]
 refine ae (fun h=>cx ?_) (fun h=> ?_)
 ·grind [jZ,kc]
 refine ae (fun h=>cx ?_) (fun h=>cx ?_)<;>grind [jZ,kc]
def W5:=bE (α:=BA×Int) (qC qS (q1 qI)) [.ro,.ro] (fun _=>[]) (fun(s,nQ)=>⟨[dO (decide (s.size<=nQ)&&qx s)],[],[]⟩)
def Cf(s:BA)(nQ:Int):Int×Unit->Prop:=fun(i,_)=>0<=i/\i<=s.size/\s.size<=nQ/\((bs s).drop i.toNat).all (jo jZ)=qx s
def Bm(s:BA)(nQ:Int):Int×Unit->Nat:=fun(i,_)=>s.size-i.toNat
def akZ:AX W5:=fun(s,nQ)=>bq [(4,az [iI 5] (fun _=>Cf s nQ) (Bm s nQ))]
def XR:HH:=hF W5 func180 [XM] akZ fun x hp hb=>by
 obtain⟨s,nQ⟩:=x
 have PY:=RQ (s:=s) (hb _ m0)
 have alD:=mL (n:=nQ) (hb _ m1)
 clear hp hb
 apply vE (let q0:=decide ((↑(s.size):Int)<=nQ)&&qx s;bif decide ((↑(s.size):Int)>nQ) then Lb false q0 else Cf s nQ (0,())/\∀(y:Int×PUnit),let q1:=(wrap i64 (y.1+1),());Cf s nQ y->bif decide (y.1<(↑(s.size):Int)) then 0<=y.1/\y.1.toNat<s.size/\bif !jZ (↑(UInt8.toNat (s.data.toList.getD y.1.toNat (0:UInt8))):Int) then Lb false q0 else Cf s nQ q1/\Bm s nQ q1<Bm s nQ y else Lb true q0)
 dsimp only
 refine ae (fun h=>aQ ?_) (fun h=> ?_)
 ·have h:=yT h;rw[decide_eq_false (by omega)];rfl
 have h0:=yF h
 refine⟨⟨by omega,by omega,by omega,rfl⟩,?_⟩
 rintro⟨i,⟨⟩⟩ ⟨h1,h2,h3,hR⟩
 have hl:=zt s
 simp only[FD]
 refine ae ?_ ?_<;>intro hc
 ·have hc:=yT hc
  rw[eu _ _ 0 h1 (by omega)] at hR
  rw[wi]
  refine⟨by omega,by omega,ae (fun h=>aQ ?_) (fun h=>⟨⟨by omega,by omega,by omega,?_⟩,?_⟩)⟩
  ·rw[<-hR];simp only[jo];simp at h;simp[h]
  ·rw[<-hR];simp only[jo];simp at h;simp[h]
  ·simp only[Bm];omega
 ·have hc:=yF hc
  rw[bU _ (by omega)] at hR
  exact jN (by rw[<-hR,decide_eq_true h3];rfl)
def ahA:=bE (α:=BA) (q1 qS) [.ro] (fun _=>[]) (fun s=>⟨[dO (cy s)],[],[]⟩)
def FO:HH:=hF ahA func114 [XS,XR] a0 fun(s:BA) hp hb=>by
 clear hp hb
 apply vE (bif decide ((↑(s.size):Int)>0) then(0:Int)<=(0:Int)/\Int.toNat 0<s.size/\bif kc (↑(UInt8.toNat (s.data.toList.getD (Int.toNat 0) (0:UInt8))):Int) then Lb (decide ((↑(s.size):Int)<=12)&&qx s) (cy s) else Lb false (cy s) else Lb false (cy s))
 have hl:=zt s
 simp only[FD]
 refine ae (fun h=> ?_) (fun h=>aQ ?_)
 ·have h:=yT h
  refine⟨by omega,by omega,ae (fun h'=>cx ?_) (fun h'=>aQ ?_)⟩
  ·have h':kc (((bs s).getD 0 0).toNat:Int)=true:=h'
   simp only[cy,h']
   have e:decide (1<=s.size/\s.size<=12)=decide ((s.size:Int)<=12):=by rw[decide_eq_decide];omega
   rw[e];simp
  ·have h':kc (((bs s).getD 0 0).toNat:Int)=false:=h'
   simp only[cy,h'];grind
 ·have h:=yF h
  simp only[cy];rw[decide_eq_false (by omega)];rfl
def afD:=bE (α:=BA) (q1 qS) [.ro] (fun _=>[]) (fun s=>⟨[dO (cy s)],[],[]⟩)
def Hp(s:BA):Int×Unit->Prop:=fun(i,_)=>0<=i/\i<=s.size/\((bs s).drop i.toNat).all (jo jZ)=qx s/\(0<i->kc ((bs s).getD 0 0).toNat=true)
def D6(s:BA):Int×Unit->Nat:=fun(i,_)=>s.size-i.toNat
def ar1:AX afD:=fun s=>bq [(2,az [iI 3] (fun _=>Hp s) (D6 s))]
def N1:HH:=hF afD func89 [Q_,tU] ar1 fun(s:BA) hp hb=>by
 have PY:=RQ (s:=s) (hb _ m0)
 clear hp hb
 apply vE (let q0:=(↑(s.size):Int);Hp s (0,())/\∀(y:Int×PUnit),let x0:=(↑(UInt8.toNat (s.data.toList.getD y.1.toNat (0:UInt8))):Int);let q1:=(wrap i64 (y.1+1),());let q2:=Hp s q1/\D6 s q1<D6 s y;Hp s y->bif decide (y.1<q0) then 0<=y.1/\y.1.toNat<s.size/\(0<=x0/\x0<=255)/\bif !jZ x0 then Lb false (cy s) else bif y.1==0 then 0<=y.1/\y.1.toNat<s.size/\bif !decide (97<=wrap i64 x0/\wrap i64 x0<=122) then Lb false (cy s) else q2 else q2 else Lb (decide (1<=q0/\q0<=12)) (cy s))
 dsimp only
 refine⟨⟨by omega,by omega,rfl,by omega⟩,?_⟩
 rintro⟨i,⟨⟩⟩ ⟨h1,h2,hR,hS⟩
 have hl:=zt s
 simp only[FD,YI]
 refine ae ?_ ?_<;>intro hc
 ·have hc:=yT hc
  have hb:=((bs s).getD i.toNat 0).toNat_lt
  rw[eu _ _ 0 h1 (by omega)] at hR
  rw[wi]
  have hN:qx s=false->cy s=false:=fun h=>by simp[cy,h]
  refine⟨by omega,by omega,⟨by omega,by omega⟩,ae (fun h=>aQ (hN ?_)) (fun h=>ae (fun h'=>⟨by omega,by omega,ae (fun zU=>aQ ?_) (fun zU=>⟨⟨by omega,by omega,?_,fun _=> ?_⟩,?_⟩)⟩) (fun h'=>⟨⟨by omega,by omega,?_,fun _=>hS ?_⟩,?_⟩))⟩
  ·rw[<-hR];simp only[jo];simp at h;simp[h]
  ·have h':i=0:=by simpa using h'
   subst h'
   have zU:kc (((bs s).getD 0 0).toNat:Int)=false:=by simp only[kc];grind
   simp only[cy,zU];grind
  ·rw[<-hR];simp only[jo];simp at h;simp[h]
  ·have h':i=0:=by simpa using h'
   subst h'
   simpa[kc] using zU
  ·simp only[D6];omega
  ·rw[<-hR];simp only[jo];simp at h;simp[h]
  ·have h':¬i=0:=by simpa using h'
   omega
  ·simp only[D6];omega
 ·have hc:=yF hc
  rw[bU _ (by omega)] at hR
  refine cx ?_
  simp only[cy,<-hR]
  by_cases hz:0<i
  ·rw[hS hz];simp only[X0];grind
  ·rw[decide_eq_false (by omega),decide_eq_false (by omega)];rfl
def WK:=bE (α:=BA) (q1 qS) [.ro] (fun _=>[]) (fun s=>⟨[dO (decide (s.size<=20)&&qx s)],[],[]⟩)
def B5(s:BA):Int×Unit->Prop:=fun(i,_)=>0<=i/\i<=s.size/\((bs s).drop i.toNat).all (jo jZ)=qx s
def A'(s:BA):Int×Unit->Nat:=fun(i,_)=>s.size-i.toNat
def akD:AX WK:=fun s=>bq [(2,az [iI 3] (fun _=>B5 s) (A' s))]
def aiA:HH:=hF WK func227 [Q_] akD fun(s:BA) hp hb=>by
 have PY:=RQ (s:=s) (hb _ m0)
 clear hp hb
 apply vE (let q0:=decide (s.size<=20)&&qx s;B5 s (0,())/\∀(y:Int×PUnit),let x0:=(↑(UInt8.toNat (s.data.toList.getD y.1.toNat (0:UInt8))):Int);let q1:=(wrap i64 (y.1+1),());B5 s y->bif decide (y.1<(↑(s.size):Int)) then 0<=y.1/\y.1.toNat<s.size/\(0<=x0/\x0<=255)/\bif !jZ x0 then Lb false q0 else B5 s q1/\A' s q1<A' s y else Lb (decide ((↑(s.size):Int)<=20)) q0)
 dsimp only
 refine⟨⟨by omega,by omega,rfl⟩,?_⟩
 rintro⟨i,⟨⟩⟩ ⟨h1,h2,hR⟩
 have hl:=zt s
 simp only[FD]
 refine ae ?_ ?_<;>intro hc
 ·have hc:=yT hc
  have hb:=((bs s).getD i.toNat 0).toNat_lt
  rw[eu _ _ 0 h1 (by omega)] at hR
  rw[wi]
  refine⟨by omega,by omega,⟨by omega,by omega⟩,ae (fun h=>aQ ?_) (fun h=>⟨⟨by omega,by omega,?_⟩,?_⟩)⟩
  ·rw[<-hR];simp only[jo];simp at h;simp[h]
  ·rw[<-hR];simp only[jo];simp at h;simp[h]
  ·simp only[A'];omega
 ·have hc:=yF hc
  rw[bU _ (by omega)] at hR
  refine cx ?_
  rw[<-hR];simp;omega
def agY:=bE (α:=cV) (q1 (qA .bC)) [.ro] (fun _=>[]) (fun v=>⟨[dO (iE v)],[],[]⟩)
def Q7:HH:=hF agY func189 [Ec,XR] a0 fun(v:cV) hp hb=>by
 clear hp hb
 apply vE (let q0:=Lb false (iE v);bif v.K==1 then bif decide ((-1000000000)<=v.N/\v.N<=1000000000) then Lb (v.S.toList==ByteArray.toList {data:= #[]:BA}) (iE v) else q0 else bif v.K==2 then bif v.N==0 then Lb (decide ((↑(v.S.size):Int)<=20)&&qx v.S) (iE v) else q0 else q0)
 dsimp only
 have e:((cV.S v).toList==ByteArray.toList {data:= #[]})=decide (v.S=a_):=bZ _ _
 simp only[e,iE]
 repeat' (refine ae (fun h=> ?_) (fun h=> ?_))
 all_goals (refine cx ?_;grind)
def aha:=bE (α:=cV) (q1 (qA .bC)) [.ro] (fun _=>[]) (fun v=>⟨[dO (iE v)],[],[]⟩)
def Q9:HH:=hF aha func164 [tU,aiA] a0 fun(v:cV) hp hb=>by
 clear hp hb
 apply vE (let q0:=Lb false (iE v);bif v.K==1 then bif decide ((-1000000000)<=v.N/\v.N<=1000000000) then Lb (v.S.toList==ByteArray.toList {data:= #[]:BA}) (iE v) else q0 else bif v.K==2 then bif decide (v.S.size<=20)&&qx v.S then Lb (v.N==0) (iE v) else q0 else q0)
 dsimp only
 have e:((cV.S v).toList==ByteArray.toList {data:= #[]})=decide (v.S=a_):=bZ _ _
 simp only[e,iE]
 repeat' (refine ae (fun h=> ?_) (fun h=> ?_))
 all_goals (refine cx ?_;grind)
def Xb:=bE (α:=List cV) (q1 (qL .bC)) [.ro] (fun _=>[]) (fun l=>⟨[dO (decide (l.length<=5)&&l.all iE)],[],[]⟩)
def Cj(l:List cV):Int×Unit->Prop:=fun(i,_)=>0<=i/\i<=l.length/\(l.drop i.toNat).all iE=l.all iE
def Bs(l:List cV):Int×Unit->Nat:=fun(i,_)=>l.length-i.toNat
def ak6:AX Xb:=fun l=>bq [(2,az [iI 3] (fun _=>Cj l) (Bs l))]
def ajh:HH:=hF Xb func162 [Q9] ak6 fun(l:List cV) hp hb=>by
 have nV:L9 l.length:=eD (hb _ m0)
 clear hp hb
 apply vE (let x0:=(l.length:Int);let q0:=decide (l.length<=5)&&l.all iE;Cj l (0,())/\∀(y:Int×PUnit),let q1:=(wrap i64 (y.1+1),());Cj l y->bif decide (y.1<x0) then 0<=y.1/\y.1.toNat<l.length/\bif !iE (l.getD y.1.toNat fL) then Lb false q0 else Cj l q1/\Bs l q1<Bs l y else Lb (decide (x0<=5)) q0)
 dsimp only
 refine⟨⟨by omega,by omega,rfl⟩,?_⟩
 rintro⟨i,⟨⟩⟩ ⟨h1,h2,hR⟩
 simp only
 refine ae ?_ ?_<;>intro hc
 ·have hc:=yT hc
  rw[eu _ _ fL h1 (by omega)] at hR
  rw[wi]
  refine⟨by omega,by omega,ae (fun h=>aQ ?_) (fun h=>⟨⟨by omega,by omega,?_⟩,?_⟩)⟩
  ·rw[<-hR];simp at h;simp[h]
  ·rw[<-hR];simp at h;simp[h]
  ·simp only[Bs];omega
 ·have hc:=yF hc
  rw[bU _ (by omega)] at hR
  refine cx ?_
  rw[<-hR];simp;omega
def ap_:=bE (α:=bf) (q1 (qA .eP)) [.ro] (fun _=>[]) (fun f=>⟨[dO (gm f)],[],[]⟩)
def Vj:HH:=hF ap_ func90 [N1,ajh] a0 fun(f:bf) hp hb=>by
 clear hp hb
 apply vE (bif cy f.Kind then Lb (decide (f.ak.length<=5)&&f.ak.all iE) (gm f) else Lb false (gm f))
 simp only[gm]
 refine ae (fun h=>cx ?_) (fun h=>cx ?_)<;>grind
def Xw:=bE (α:=bf) (q1 (qA .eP)) [.ro] (fun _=>[]) (fun f=>⟨[dO (gm f)],[],[]⟩)
def Cu(f:bf):Int×Unit->Prop:=fun(i,_)=>0<=i/\i<=f.ak.length/\f.ak.length<=5/\cy f.Kind=true/\(f.ak.drop i.toNat).all iE=f.ak.all iE
def BE(f:bf):Int×Unit->Nat:=fun(i,_)=>f.ak.length-i.toNat
def alq:AX Xw:=fun f=>bq [(4,az [iI 18] (fun _=>Cu f) (BE f))]
def ME:HH:=hF Xw func117 [FO,Q7] alq fun(f:bf) hp hb=>by
 clear hp hb
 apply vE (let x0:=(f.ak.length:Int);let q0:=Lb false (gm f);bif !cy f.Kind then q0 else bif decide (x0>5) then q0 else Cu f (0,())/\∀(y:Int×PUnit),let q1:=(wrap i64 (y.1+1),());Cu f y->bif decide (y.1<x0) then 0<=y.1/\y.1.toNat<f.ak.length/\bif !iE (f.ak.getD y.1.toNat fL) then q0 else Cu f q1/\BE f q1<BE f y else Lb true (gm f))
 dsimp only
 refine ae (fun h=>cx ?_) (fun h=>ae (fun h'=>cx ?_) (fun h'=>⟨⟨by omega,by omega,by simp at h';omega,by simpa using h,rfl⟩,?_⟩))
 ·simp only[gm];grind
 ·simp only[gm];grind
 rintro⟨i,⟨⟩⟩ ⟨h1,h2,h3,h4,hR⟩
 simp only
 refine ae ?_ ?_<;>intro hc
 ·have hc:=yT hc
  rw[eu _ _ fL h1 (by omega)] at hR
  rw[wi]
  refine⟨by omega,by omega,ae (fun h=>aQ ?_) (fun h=>⟨⟨by omega,by omega,by omega,h4,?_⟩,?_⟩)⟩
  ·simp only[gm];rw[<-hR];simp at h;simp[h]
  ·rw[<-hR];simp at h;simp[h]
  ·simp only[BE];omega
 ·have hc:=yF hc
  rw[bU _ (by omega)] at hR
  refine cx ?_
  simp only[gm,<-hR,h4];simp;omega
def ahg:=bE (α:=(List Int)×Int) (qC (qL .int) (q1 qI)) [.ro,.ro] (fun(a,left)=>[0<=left]) (fun(a,left)=>⟨[dI (dh left (dx a))],[],[]⟩)
def Ra:HH:=hF ahg func152 [] a0 fun x hp hb=>by
 obtain⟨a,left⟩:=x
 have cJ:L9 a.length:=eD (hb _ m0)
 have bB:=mL (n:=left) (hb _ m1)
 have bP:0<=left:=hp _ m0
 clear hp hb
 apply vE (let x0:=wrap i64 (left-(a.length:Int));bif decide (x0<0) then Li (-1) (dh left (dx a)) else Li x0 (dh left (dx a)))
 dsimp only
 rw[wi]
 refine ae (fun h=>cG (bu ?_)) (fun h=> ?_)
 ·have h:=yT h;simp only[dx];omega
 have h:=yF h
 exact cG (by rw[<-eY (by simp only[dx];omega)];simp only[dx])
def W8:=bE (α:=List Int) (q1 (qL .int)) [.ro] (fun a=>[L4 (dx a)]) (fun a=>⟨[dL .int a],[],[]⟩)
def yh(a:List Int):List Int×Int×Unit->Prop:=fun(out,i,_)=>0<=i/\i<=a.length/\out=a.take i.toNat++List.replicate (a.length-i.toNat) (0:Int)
def Bn(a:List Int):List Int×Int×Unit->Nat:=fun(out,i,_)=>a.length-i.toNat
def ak2:AX W8:=fun a=>bq [(3,az [iO 3 .int,iI 4] (fun _=>yh a) (Bn a))]
def Q8:HH:=hF W8 func174 [] ak2 fun(a:List Int) hp hb=>by
 have cJ:L9 a.length:=eD (hb _ m0)
 have bP:dx a<=4294967296:=hp _ m0
 clear hp hb
 apply vE (let x0:=(a.length:Int);0<=x0/\x0=x0/\x0<=4294967296/\yh a (List.replicate x0.toNat 0,0,())/\∀(y:List Int×Int×PUnit),let x1:=y.2.1.toNat;let q0:=(y.1.set x1 (a.getD x1 0),wrap i64 (y.2.1+1),());yh a y->bif decide (y.2.1<x0) then 0<=y.2.1/\x1<a.length/\0<=y.2.1/\x1<y.1.length/\x1<y.1.length/\yh a q0/\Bn a q0<Bn a y else Lf [VL .int y.1] [VL .int a])
 dsimp only
 have hlen:a.length<=4294967296:=by simp only[dx] at bP;omega
 refine⟨by omega,rfl,by omega,?_,?_⟩
 ·simp[yh]
 rintro⟨out,i,⟨⟩⟩ ⟨h1,h2,rfl⟩
 simp only at*
 refine ae ?_ ?_<;>intro hc
 ·have hc:i<a.length:=by simpa using hc
  rw[wi,Ic a (0:Int) h1 hc]
  exact⟨h1,by omega,h1,by simp;omega,by simp;omega,⟨by omega,by omega,rfl⟩,by simp only[Bn];omega⟩
 ·have hc:a.length<=i:=by simpa using hc
  have e:i.toNat=a.length:=by omega
  rw[e];simp;exact aO _
def WU:=bE (α:=(List Int)×(List Int)) (qC (qL .int) (q1 (qL .int))) [.ro,.ro] (fun _=>[]) (fun(a,b)=>⟨[dO (decide (a=b))],[],[]⟩)
def x_(a:List Int)(b:List Int):Int×Unit->Prop:=fun(i,_)=>0<=i/\i<=a.length/\a.length=b.length/\(a.drop i.toNat=b.drop i.toNat↔a=b)
def Bb(a:List Int)(b:List Int):Int×Unit->Nat:=fun(i,_)=>a.length-i.toNat
def akM:AX WU:=fun(a,b)=>bq [(4,az [iI 5] (fun _=>x_ a b) (Bb a b))]
def Q6:HH:=hF WU func210 [] akM fun x hp hb=>by
 obtain⟨a,b⟩:=x
 have cJ:L9 a.length:=eD (hb _ m0)
 have nj:L9 b.length:=eD (hb _ m1)
 clear hp hb
 apply vE (bif (a.length:Int) !=(b.length:Int) then Lb false (decide (a=b)) else x_ a b (0,())/\∀(y:Int×PUnit),let q0:=(wrap i64 (y.1+1),());x_ a b y->bif decide (y.1<(a.length:Int)) then 0<=y.1/\y.1.toNat<a.length/\0<=y.1/\y.1.toNat<b.length/\bif a.getD y.1.toNat 0 !=b.getD y.1.toNat 0 then Lb false (decide (a=b)) else x_ a b q0/\Bb a b q0<Bb a b y else Lb true (decide (a=b)))
 dsimp only
 refine ae (fun h=>ju ?_) (fun h=>⟨?_,?_⟩)
 ·rintro rfl;simp at h
 ·simp[x_] at*;omega
 rintro⟨i,⟨⟩⟩ ⟨h1,h2,h3,hR⟩
 simp only at*
 refine ae ?_ ?_<;>intro hc
 ·have hc:i<a.length:=by simpa using hc
  rw[cj a (0:Int) h1 hc,cj b (0:Int) h1 (by omega)] at hR
  rw[wi]
  refine⟨by omega,by omega,by omega,by omega,ae (fun h=>ju ?_) (fun h=>⟨⟨by omega,by omega,h3,?_⟩,?_⟩)⟩
  ·rw[<-hR];simp at h;simp[h]
  ·rw[<-hR];simp at h;simp[h]
  ·simp only[Bb];omega
 ·have hc:a.length<=i:=by simpa using hc
  rw[bU a hc,bU b (by omega)] at hR
  exact lQ (hR.1 rfl)
def ahe:=bE (α:=cV×Int) (qC (qA .hU) (q1 qI)) [.ro,.ro] (fun(a,left)=>[0<=left]) (fun(a,left)=>⟨[dI (dh left (eM a))],[],[]⟩)
def MB:HH:=hF ahe func155 [] a0 fun x hp hb=>by
 obtain⟨a,left⟩:=x
 have Dh:=Md (x:=a) (hb _ m0)
 have bB:=mL (n:=left) (hb _ m1)
 have bP:0<=left:=hp _ m0
 clear hp hb
 apply vE (let x0:=wrap i64 (left-(↑(a.S.size):Int));bif decide (x0<0) then Li (-1) (dh left (eM a)) else Li x0 (dh left (eM a)))
 dsimp only
 rw[wi]
 refine ae (fun h=>cG (bu ?_)) (fun h=> ?_)
 ·have h:=yT h;simp only[eM];omega
 have h0:=yF h
 exact cG (by rw[<-eY (by simp only[eM];omega)];simp only[eM];try omega)
def ag3:=bE (α:=cV) (q1 (qA .hU)) [.ro] (fun a=>[L4 (eM a)]) (fun a=>⟨[dA .bC a],[],[]⟩)
def Mz:HH:=hF ag3 func177 [] a0 fun(a:cV) hp hb=>by
 have Dh:=Md (x:=a) (hb _ m0)
 have bP:eM a<=4294967296:=hp _ m0
 clear hp hb
 apply vE (Lf [DV.agg [CI a.K,CI a.N,CS a.S]] [DV.agg [CI a.K,CI a.N,CS a.S]])
 simp only[eM] at bP
 repeat' (first|exact aO _|(refine And.intro (by omega) ?_))
def agP:=bE (α:=cV×cV) (qC (qA .bC) (q1 (qA .bC))) [.ro,.ro] (fun _=>[]) (fun(a,b)=>⟨[dO (decide (a=b))],[],[]⟩)
def Mx:HH:=hF agP func213 [] a0 fun x hp hb=>by
 obtain⟨a,b⟩:=x
 have Dh:=Ml (x:=a) (hb _ m0)
 have aaM:=Ml (x:=b) (hb _ m1)
 clear hp hb
 apply vE (let q0:=Lb false (decide (a=b));bif a.K !=b.K then q0 else bif a.N !=b.N then q0 else bif !a.S.toList==b.S.toList then q0 else Lb true (decide (a=b)))
 dsimp only
 obtain⟨aK,aN,aS⟩:=a
 obtain⟨bK,bN,bS⟩:=b
 repeat' (apply ae<;>intro _)
 all_goals (first|apply lQ|apply ju)<;>simp_all
def WO:=bE (α:=(List cV)×Int) (qC (qL .hU) (q1 qI)) [.ro,.ro] (fun(a,left)=>[0<=left]) (fun(a,left)=>⟨[dI (dh left (ir a))],[],[]⟩)
def U4(a:List cV)(left:Int):Int×Int×Unit->Prop:=ER eM a (ir a) left
def UC(a:List cV)(left:Int):Int×Int×Unit->Nat:=ri a
def akH:AX WO:=fun(a,left)=>bq [(5,az [iI 1,iI 5] (fun _=>U4 a left) (UC a left))]
def aiG:HH:=hF WO func219 [MB] akH fun x hp hb=>by
 obtain⟨a,left⟩:=x
 have cJ:L9 a.length:=eD (hb _ m0)
 have bB:=mL (n:=left) (hb _ m1)
 have bP:0<=left:=hp _ m0
 clear hp hb
 apply vE (FW eM fL a (ir a) left)
 exact jx rfl bP bB cJ
def WE:=bE (α:=List cV) (q1 (qL .hU)) [.ro] (fun a=>[L4 (ir a)]) (fun a=>⟨[dL .bC a],[],[]⟩)
def U1(a:List cV):List cV×Int×Unit->Prop:=EQ fL a
def Uz(a:List cV):List cV×Int×Unit->Nat:=ri a
def aky:AX WE:=fun a=>bq [(3,az [iO 3 .bC,iI 4] (fun _=>U1 a) (Uz a))]
def ait:HH:=hF WE func235 [Mz] aky fun(a:List cV) hp hb=>by
 have cJ:L9 a.length:=eD (hb _ m0)
 have bP:ir a<=4294967296:=hp _ m0
 clear hp hb
 apply vE (HU eM fL a fun y=>Lf [.one (.sl .bC y)] [.one (.sl .bC a)])
 exact jw bP (aO _)
def Ws:=bE (α:=(List cV)×(List cV)) (qC (qL .bC) (q1 (qL .bC))) [.ro,.ro] (fun _=>[]) (fun(a,b)=>⟨[dO (decide (a=b))],[],[]⟩)
def UY(a:List cV)(b:List cV):Int×Unit->Prop:=Fl a b
def Uw(a:List cV)(b:List cV):Int×Unit->Nat:=EV a
def akj:AX Ws:=fun(a,b)=>bq [(4,az [iI 5] (fun _=>UY a b) (Uw a b))]
def aic:HH:=hF Ws func259 [Mx] akj fun x hp hb=>by
 obtain⟨a,b⟩:=x
 have cJ:L9 a.length:=eD (hb _ m0)
 have nj:L9 b.length:=eD (hb _ m1)
 clear hp hb
 apply vE (GO fL a b)
 exact jL cJ
def ahf:=bE (α:=bf×Int) (qC (qA .nS) (q1 qI)) [.ro,.ro] (fun(a,left)=>[0<=left]) (fun(a,left)=>⟨[dI (dh left (cZ a))],[],[]⟩)
def MC:HH:=hF ahf func154 [aiG] a0 fun x hp hb=>by
 obtain⟨a,left⟩:=x
 have aG:=Ju (x:=a) (hb _ m0)
 have jg:=aG.1
 have zR:=aG.2
 have bB:=mL (n:=left) (hb _ m1)
 have bP:0<=left:=hp _ m0
 clear hp hb
 apply vE (let x0:=wrap i64 (left-(↑(a.Kind.size):Int));let q0:=dh left (cZ a);bif decide (x0<0) then Li (-1) q0 else 0<=x0/\bif decide (dh x0 (ir a.ak)<0) then Li (-1) q0 else Li (dh x0 (ir a.ak)) q0)
 dsimp only
 rw[wi]
 refine ae (fun h=>cG (bu ?_)) (fun h=> ?_)
 ·have h:=yT h;simp only[cZ];omega
 have h0:=yF h
 refine⟨by omega,ae (fun h=>cG (bu ?_)) (fun h=> ?_)⟩
 ·have h:=cY h;simp only[cZ];omega
 obtain⟨e1,h1⟩:=cN h
 rw[e1]
 exact cG (by rw[<-eY (by simp only[cZ];omega)];simp only[cZ];try omega)
def ag4:=bE (α:=bf) (q1 (qA .nS)) [.ro] (fun a=>[L4 (cZ a)]) (fun a=>⟨[dA .eP a],[],[]⟩)
def MA:HH:=hF ag4 func176 [ait] a0 fun(a:bf) hp hb=>by
 have aG:=Ju (x:=a) (hb _ m0)
 have jg:=aG.1
 have zR:=aG.2
 have bP:cZ a<=4294967296:=hp _ m0
 clear hp hb
 apply vE (ir a.ak<=4294967296/\Lf [DV.agg [CS a.Kind,CL .bC a.ak]] [DV.agg [CS a.Kind,CL .bC a.ak]])
 simp only[cZ] at bP
 repeat' (first|exact aO _|(refine And.intro (by omega) ?_))
def agQ:=bE (α:=bf×bf) (qC (qA .eP) (q1 (qA .eP))) [.ro,.ro] (fun _=>[]) (fun(a,b)=>⟨[dO (decide (a=b))],[],[]⟩)
def My:HH:=hF agQ func212 [aic] a0 fun x hp hb=>by
 obtain⟨a,b⟩:=x
 have aG:=jM (x:=a) (hb _ m0)
 have jg:=aG.1
 have zR:=aG.2
 have cr:=jM (x:=b) (hb _ m1)
 have zf:=cr.1
 have VX:=cr.2
 clear hp hb
 apply vE (bif !a.Kind.toList==b.Kind.toList then Lb false (decide (a=b)) else bif !decide (a.ak=b.ak) then Lb false (decide (a=b)) else Lb true (decide (a=b)))
 obtain⟨Wd,alO⟩:=a
 obtain⟨Wc,alK⟩:=b
 repeat' (apply ae<;>intro _)
 all_goals (first|apply lQ|apply ju)<;>simp_all
def aqe:=bE (α:=cn×Int) (qC (qA .fF) (q1 qI)) [.ro,.ro] (fun(a,left)=>[0<=left]) (fun(a,left)=>⟨[dI (dh left (gu a))],[],[]⟩)
def aqR:HH:=hF aqe func83 [MC] a0 fun x hp hb=>by
 obtain⟨a,left⟩:=x
 have aG:=FE (x:=a) (hb _ m0)
 have fR:=aG.1
 have eJ:=aG.2
 have bB:=mL (n:=left) (hb _ m1)
 have bP:0<=left:=hp _ m0
 clear hp hb
 apply vE (0<=left/\bif decide (dh left (cZ a.F)<0) then Li (-1) (dh left (gu a)) else Li (dh left (cZ a.F)) (dh left (gu a)))
 refine⟨by omega,ae (fun h=>cG (bu ?_)) (fun h=> ?_)⟩
 ·have h:=cY h;simp only[gu];omega
 obtain⟨e0,h0⟩:=cN h
 rw[e0]
 exact cG (by rw[<-eY (by simp only[gu];omega)];simp only[gu];try omega)
def ahE:=bE (α:=cn) (q1 (qA .fF)) [.ro] (fun a=>[L4 (gu a)]) (fun a=>⟨[dA .dq a],[],[]⟩)
def ajW:HH:=hF ahE func110 [MA] a0 fun(a:cn) hp hb=>by
 have aG:=FE (x:=a) (hb _ m0)
 have fR:=aG.1
 have eJ:=aG.2
 have bP:gu a<=4294967296:=hp _ m0
 clear hp hb
 apply vE (cZ a.F<=4294967296/\Lf [DV.agg [CI a.At,CS a.F.Kind,CL .bC a.F.ak]] [DV.agg [CI a.At,CS a.F.Kind,CL .bC a.F.ak]])
 simp only[gu] at bP
 repeat' (first|exact aO _|(refine And.intro (by omega) ?_))
def aho:=bE (α:=cn×cn) (qC (qA .dq) (q1 (qA .dq))) [.ro,.ro] (fun _=>[]) (fun(a,b)=>⟨[dO (decide (a=b))],[],[]⟩)
def ajv:HH:=hF aho func144 [My] a0 fun x hp hb=>by
 obtain⟨a,b⟩:=x
 have aG:=FI (x:=a) (hb _ m0)
 have fR:=aG.1
 have eJ:=aG.2
 have cr:=FI (x:=b) (hb _ m1)
 have tB:=cr.1
 have qj:=cr.2
 clear hp hb
 apply vE (bif a.At !=b.At then Lb false (decide (a=b)) else bif !decide (a.F=b.F) then Lb false (decide (a=b)) else Lb true (decide (a=b)))
 obtain⟨aAt,aF⟩:=a
 obtain⟨bAt,bF⟩:=b
 repeat' (apply ae<;>intro _)
 all_goals (first|apply lQ|apply ju)<;>simp_all
def agn:=bE (α:=(List cn)×Int) (qC (qL .fF) (q1 qI)) [.ro,.ro] (fun(a,left)=>[0<=left]) (fun(a,left)=>⟨[dI (dh left (jz a))],[],[]⟩)
def acb(a:List cn)(left:Int):Int×Int×Unit->Prop:=ER gu a (jz a) left
def abO(a:List cn)(left:Int):Int×Int×Unit->Nat:=ri a
def asF:AX agn:=fun(a,left)=>bq [(5,az [iI 1,iI 5] (fun _=>acb a left) (abO a left))]
def arC:HH:=hF agn func29 [aqR] asF fun x hp hb=>by
 obtain⟨a,left⟩:=x
 have cJ:L9 a.length:=eD (hb _ m0)
 have bB:=mL (n:=left) (hb _ m1)
 have bP:0<=left:=hp _ m0
 clear hp hb
 apply vE (FW gu kT a (jz a) left)
 exact jx rfl bP bB cJ
def afZ:=bE (α:=List cn) (q1 (qL .fF)) [.ro] (fun a=>[L4 (jz a)]) (fun a=>⟨[dL .dq a],[],[]⟩)
def ab7(a:List cn):List cn×Int×Unit->Prop:=EQ kT a
def abI(a:List cn):List cn×Int×Unit->Nat:=ri a
def asm:AX afZ:=fun a=>bq [(3,az [iO 3 .dq,iI 4] (fun _=>ab7 a) (abI a))]
def ari:HH:=hF afZ func52 [ajW] asm fun(a:List cn) hp hb=>by
 have cJ:L9 a.length:=eD (hb _ m0)
 have bP:jz a<=4294967296:=hp _ m0
 clear hp hb
 apply vE (HU gu kT a fun y=>Lf [.one (.sl .dq y)] [.one (.sl .dq a)])
 exact jw bP (aO _)
def afM:=bE (α:=(List cn)×(List cn)) (qC (qL .dq) (q1 (qL .dq))) [.ro,.ro] (fun _=>[]) (fun(a,b)=>⟨[dO (decide (a=b))],[],[]⟩)
def ab1(a:List cn)(b:List cn):Int×Unit->Prop:=Fl a b
def abC(a:List cn)(b:List cn):Int×Unit->Nat:=EV a
def ar':AX afM:=fun(a,b)=>bq [(4,az [iI 5] (fun _=>ab1 a b) (abC a b))]
def aq1:HH:=hF afM func73 [ajv] ar' fun x hp hb=>by
 obtain⟨a,b⟩:=x
 have cJ:L9 a.length:=eD (hb _ m0)
 have nj:L9 b.length:=eD (hb _ m1)
 clear hp hb
 apply vE (GO kT a b)
 exact jL cJ
def aqf:=bE (α:=ck×Int) (qC (qA .iy) (q1 qI)) [.ro,.ro] (fun(a,left)=>[0<=left]) (fun(a,left)=>⟨[dI (dh left (gC a))],[],[]⟩)
def aqS:HH:=hF aqf func82 [MC,MB] a0 fun x hp hb=>by
 obtain⟨a,left⟩:=x
 have aG:=Jq (x:=a) (hb _ m0)
 have fR:=aG.1
 have eJ:=aG.2.1
 have qR:=aG.2.2.1
 have nW:=aG.2.2.2
 have bB:=mL (n:=left) (hb _ m1)
 have bP:0<=left:=hp _ m0
 clear hp hb
 apply vE (let x0:=wrap i64 (dh left (cZ a.F)-(↑(a.jt.size):Int));let q0:=Li (-1) (dh left (gC a));0<=left/\bif decide (dh left (cZ a.F)<0) then q0 else bif decide (x0<0) then q0 else 0<=x0/\bif decide (dh x0 (eM a.V)<0) then q0 else Li (dh x0 (eM a.V)) (dh left (gC a)))
 dsimp only
 refine⟨by omega,ae (fun h=>cG (bu ?_)) (fun h=> ?_)⟩
 ·have h:=cY h;simp only[gC];omega
 obtain⟨e0,h0⟩:=cN h
 rw[e0]
 rw[wi]
 refine ae (fun h=>cG (bu ?_)) (fun h=> ?_)
 ·have h:=yT h;simp only[gC];omega
 have h1:=yF h
 refine⟨by omega,ae (fun h=>cG (bu ?_)) (fun h=> ?_)⟩
 ·have h:=cY h;simp only[gC];omega
 obtain⟨e2,h2⟩:=cN h
 rw[e2]
 exact cG (by rw[<-eY (by simp only[gC];omega)];simp only[gC];try omega)
def ahF:=bE (α:=ck) (q1 (qA .iy)) [.ro] (fun a=>[L4 (gC a)]) (fun a=>⟨[dA .dJ a],[],[]⟩)
def ajX:HH:=hF ahF func109 [MA,Mz] a0 fun(a:ck) hp hb=>by
 have aG:=Jq (x:=a) (hb _ m0)
 have fR:=aG.1
 have eJ:=aG.2.1
 have qR:=aG.2.2.1
 have nW:=aG.2.2.2
 have bP:gC a<=4294967296:=hp _ m0
 clear hp hb
 apply vE (cZ a.F<=4294967296/\L4 (eM a.V)/\Lf [DV.agg [CS a.F.Kind,CL .bC a.F.ak,CS a.jt,CI a.State,CI a.kE,CI a.Lk,CI a.V.K,CI a.V.N,CS a.V.S]] [DV.agg [CS a.F.Kind,CL .bC a.F.ak,CS a.jt,CI a.State,CI a.kE,CI a.Lk,CI a.V.K,CI a.V.N,CS a.V.S]])
 simp only[gC] at bP
 repeat' (first|exact aO _|(refine And.intro (by omega) ?_))
def ahp:=bE (α:=ck×ck) (qC (qA .dJ) (q1 (qA .dJ))) [.ro,.ro] (fun _=>[]) (fun(a,b)=>⟨[dO (decide (a=b))],[],[]⟩)
def ajw:HH:=hF ahp func143 [My,Mx] a0 fun x hp hb=>by
 obtain⟨a,b⟩:=x
 have aG:=Jz (x:=a) (hb _ m0)
 have fR:=aG.1
 have eJ:=aG.2.1
 have qR:=aG.2.2.1
 have nW:=aG.2.2.2
 have cr:=Jz (x:=b) (hb _ m1)
 have tB:=cr.1
 have qj:=cr.2.1
 have NI:=cr.2.2.1
 have IR:=cr.2.2.2
 clear hp hb
 apply vE (let q0:=Lb false (decide (a=b));bif !decide (a.F=b.F) then q0 else bif !a.jt.toList==b.jt.toList then q0 else bif a.State !=b.State then q0 else bif a.kE !=b.kE then q0 else bif a.Lk !=b.Lk then q0 else bif !decide (a.V=b.V) then q0 else Lb true (decide (a=b)))
 dsimp only
 obtain⟨aF,afb,abt,ap0,atw,aV⟩:=a
 obtain⟨bF,ae',abp,apQ,atr,bV⟩:=b
 repeat' (apply ae<;>intro _)
 all_goals (first|apply lQ|apply ju)<;>simp_all
def agp:=bE (α:=(List ck)×Int) (qC (qL .iy) (q1 qI)) [.ro,.ro] (fun(a,left)=>[0<=left]) (fun(a,left)=>⟨[dI (dh left (lr a))],[],[]⟩)
def acd(a:List ck)(left:Int):Int×Int×Unit->Prop:=ER gC a (lr a) left
def abP(a:List ck)(left:Int):Int×Int×Unit->Nat:=ri a
def asG:AX agp:=fun(a,left)=>bq [(5,az [iI 1,iI 5] (fun _=>acd a left) (abP a left))]
def arD:HH:=hF agp func28 [aqS] asG fun x hp hb=>by
 obtain⟨a,left⟩:=x
 have cJ:L9 a.length:=eD (hb _ m0)
 have bB:=mL (n:=left) (hb _ m1)
 have bP:0<=left:=hp _ m0
 clear hp hb
 apply vE (FW gC cK a (lr a) left)
 exact jx rfl bP bB cJ
def af0:=bE (α:=List ck) (q1 (qL .iy)) [.ro] (fun a=>[L4 (lr a)]) (fun a=>⟨[dL .dJ a],[],[]⟩)
def ab8(a:List ck):List ck×Int×Unit->Prop:=EQ cK a
def abJ(a:List ck):List ck×Int×Unit->Nat:=ri a
def asn:AX af0:=fun a=>bq [(3,az [iO 3 .dJ,iI 4] (fun _=>ab8 a) (abJ a))]
def arj:HH:=hF af0 func51 [ajX] asn fun(a:List ck) hp hb=>by
 have cJ:L9 a.length:=eD (hb _ m0)
 have bP:lr a<=4294967296:=hp _ m0
 clear hp hb
 apply vE (HU gC cK a fun y=>Lf [.one (.sl .dJ y)] [.one (.sl .dJ a)])
 exact jw bP (aO _)
def afN:=bE (α:=(List ck)×(List ck)) (qC (qL .dJ) (q1 (qL .dJ))) [.ro,.ro] (fun _=>[]) (fun(a,b)=>⟨[dO (decide (a=b))],[],[]⟩)
def ab2(a:List ck)(b:List ck):Int×Unit->Prop:=Fl a b
def abD(a:List ck)(b:List ck):Int×Unit->Nat:=EV a
def ar_:AX afN:=fun(a,b)=>bq [(4,az [iI 5] (fun _=>ab2 a b) (abD a b))]
def aq2:HH:=hF afN func72 [ajw] ar_ fun x hp hb=>by
 obtain⟨a,b⟩:=x
 have cJ:L9 a.length:=eD (hb _ m0)
 have nj:L9 b.length:=eD (hb _ m1)
 clear hp hb
 apply vE (GO cK a b)
 exact jL cJ
def aqd:=bE (α:=de×Int) (qC (qA .ix) (q1 qI)) [.ro,.ro] (fun(a,left)=>[0<=left]) (fun(a,left)=>⟨[dI (dh left (iu a))],[],[]⟩)
def aqQ:HH:=hF aqd func84 [MC] a0 fun x hp hb=>by
 obtain⟨a,left⟩:=x
 have aG:=Jp (x:=a) (hb _ m0)
 have IU:=aG.1
 have fR:=aG.2.1
 have eJ:=aG.2.2
 have bB:=mL (n:=left) (hb _ m1)
 have bP:0<=left:=hp _ m0
 clear hp hb
 apply vE (let x0:=wrap i64 (left-(↑(a.Key.size):Int));let q0:=dh left (iu a);bif decide (x0<0) then Li (-1) q0 else 0<=x0/\bif decide (dh x0 (cZ a.F)<0) then Li (-1) q0 else Li (dh x0 (cZ a.F)) q0)
 dsimp only
 rw[wi]
 refine ae (fun h=>cG (bu ?_)) (fun h=> ?_)
 ·have h:=yT h;simp only[iu];omega
 have h0:=yF h
 refine⟨by omega,ae (fun h=>cG (bu ?_)) (fun h=> ?_)⟩
 ·have h:=cY h;simp only[iu];omega
 obtain⟨e1,h1⟩:=cN h
 rw[e1]
 exact cG (by rw[<-eY (by simp only[iu];omega)];simp only[iu];try omega)
def ahD:=bE (α:=de) (q1 (qA .ix)) [.ro] (fun a=>[L4 (iu a)]) (fun a=>⟨[dA .eO a],[],[]⟩)
def ajV:HH:=hF ahD func111 [MA] a0 fun(a:de) hp hb=>by
 have aG:=Jp (x:=a) (hb _ m0)
 have IU:=aG.1
 have fR:=aG.2.1
 have eJ:=aG.2.2
 have bP:iu a<=4294967296:=hp _ m0
 clear hp hb
 apply vE (cZ a.F<=4294967296/\Lf [DV.agg [CS a.Key,CS a.F.Kind,CL .bC a.F.ak]] [DV.agg [CS a.Key,CS a.F.Kind,CL .bC a.F.ak]])
 simp only[iu] at bP
 repeat' (first|exact aO _|(refine And.intro (by omega) ?_))
def ahn:=bE (α:=de×de) (qC (qA .eO) (q1 (qA .eO))) [.ro,.ro] (fun _=>[]) (fun(a,b)=>⟨[dO (decide (a=b))],[],[]⟩)
def aju:HH:=hF ahn func145 [My] a0 fun x hp hb=>by
 obtain⟨a,b⟩:=x
 have aG:=Jy (x:=a) (hb _ m0)
 have IU:=aG.1
 have fR:=aG.2.1
 have eJ:=aG.2.2
 have cr:=Jy (x:=b) (hb _ m1)
 have aeK:=cr.1
 have tB:=cr.2.1
 have qj:=cr.2.2
 clear hp hb
 apply vE (bif !a.Key.toList==b.Key.toList then Lb false (decide (a=b)) else bif !decide (a.F=b.F) then Lb false (decide (a=b)) else Lb true (decide (a=b)))
 obtain⟨atv,aF⟩:=a
 obtain⟨atq,bF⟩:=b
 repeat' (apply ae<;>intro _)
 all_goals (first|apply lQ|apply ju)<;>simp_all
def agj:=bE (α:=(List de)×Int) (qC (qL .ix) (q1 qI)) [.ro,.ro] (fun(a,left)=>[0<=left]) (fun(a,left)=>⟨[dI (dh left (jQ a))],[],[]⟩)
def aca(a:List de)(left:Int):Int×Int×Unit->Prop:=ER iu a (jQ a) left
def abN(a:List de)(left:Int):Int×Int×Unit->Nat:=ri a
def asE:AX agj:=fun(a,left)=>bq [(5,az [iI 1,iI 5] (fun _=>aca a left) (abN a left))]
def arB:HH:=hF agj func30 [aqQ] asE fun x hp hb=>by
 obtain⟨a,left⟩:=x
 have cJ:L9 a.length:=eD (hb _ m0)
 have bB:=mL (n:=left) (hb _ m1)
 have bP:0<=left:=hp _ m0
 clear hp hb
 apply vE (FW iu dw a (jQ a) left)
 exact jx rfl bP bB cJ
def afY:=bE (α:=List de) (q1 (qL .ix)) [.ro] (fun a=>[L4 (jQ a)]) (fun a=>⟨[dL .eO a],[],[]⟩)
def ab6(a:List de):List de×Int×Unit->Prop:=EQ dw a
def abH(a:List de):List de×Int×Unit->Nat:=ri a
def asl:AX afY:=fun a=>bq [(3,az [iO 3 .eO,iI 4] (fun _=>ab6 a) (abH a))]
def arh:HH:=hF afY func53 [ajV] asl fun(a:List de) hp hb=>by
 have cJ:L9 a.length:=eD (hb _ m0)
 have bP:jQ a<=4294967296:=hp _ m0
 clear hp hb
 apply vE (HU iu dw a fun y=>Lf [.one (.sl .eO y)] [.one (.sl .eO a)])
 exact jw bP (aO _)
def afL:=bE (α:=(List de)×(List de)) (qC (qL .eO) (q1 (qL .eO))) [.ro,.ro] (fun _=>[]) (fun(a,b)=>⟨[dO (decide (a=b))],[],[]⟩)
def ab0(a:List de)(b:List de):Int×Unit->Prop:=Fl a b
def abB(a:List de)(b:List de):Int×Unit->Nat:=EV a
def ar9:AX afL:=fun(a,b)=>bq [(4,az [iI 5] (fun _=>ab0 a b) (abB a b))]
def aq0:HH:=hF afL func74 [aju] ar9 fun x hp hb=>by
 obtain⟨a,b⟩:=x
 have cJ:L9 a.length:=eD (hb _ m0)
 have nj:L9 b.length:=eD (hb _ m1)
 clear hp hb
 apply vE (GO dw a b)
 exact jL cJ
def allI(n:Nat)(p:Nat->Bool):Bool:=(List.range n).all p
theorem cR{n:Nat}{p:Nat->Bool}(h:∀j,j<n->p j=true):allI n p=true:=by simpa[allI] using h
theorem cE{n:Nat}{p:Nat->Bool}{j:Nat}(h:j<n)(hj:p j=false):allI n p=false:=by
 simp only[allI,List.all_eq_false,oh]
 exact⟨j,h,by simp[hj]⟩
theorem cu{i:Int}{p:Nat->Bool}(h0:0<=i)(h:∀j:Nat,(j:Int)<i->p j=true)(hi:p i.toNat=true):∀j:Nat,(j:Int)<i+1->p j=true:=by
 intro j hj
 by_cases RN:(j:Int)<i
 ·exact h j RN
 ·have:j=i.toNat:=by omega
  subst this;exact hi
def lZ(x:cn):Bool:=decide (0<=x.At/\x.At<=1000000000)&&gm x.F
def l7(l:List cn)(i:Nat):Bool:=lZ (l.getD i kT)&&(decide (i=0)||decide ((l.getD (i-1) kT).At<=(l.getD i kT).At))
def fN(l:List cn):Bool:=decide (l.length<=30)&&allI l.length (l7 l)
def aqm:=bE (α:=Int) (q1 qI) [.ro] (fun _=>[]) (fun n=>⟨[dO (decide (0<=n/\n<=1000000000))],[],[]⟩)
def ahI:HH:=hF aqm func62 [Ec] a0 fun(n:Int) hp hb=>by
 clear hp hb
 apply vE (let q0:=decide (0<=n/\n<=1000000000);Lb q0 q0)
 dsimp only
 exact aO _
def ahu:=bE (α:=cn) (q1 (qA .dq)) [.ro] (fun _=>[]) (fun x=>⟨[dO (lZ x)],[],[]⟩)
def ajO:HH:=hF ahu func121 [ahI,ME] a0 fun(x:cn) hp hb=>by
 clear hp hb
 apply vE (bif decide (0<=x.At/\x.At<=1000000000) then Lb (gm x.F) (lZ x) else Lb false (lZ x))
 simp only[lZ]
 refine ae (fun h=>cx ?_) (fun h=>cx ?_)<;>grind
def ap8:=bE (α:=cn) (q1 (qA .dq)) [.ro] (fun _=>[]) (fun x=>⟨[dO (lZ x)],[],[]⟩)
def aqJ:HH:=hF ap8 func94 [tU,Vj] a0 fun(x:cn) hp hb=>by
 clear hp hb
 apply vE (bif decide (0<=x.At/\x.At<=1000000000) then Lb (gm x.F) (lZ x) else Lb false (lZ x))
 simp only[lZ]
 refine ae (fun h=>cx ?_) (fun h=>cx ?_)<;>grind
def afS:=bE (α:=List cn) (q1 (qL .dq)) [.ro] (fun _=>[]) (fun l=>⟨[dO (fN l)],[],[]⟩)
def Hv(l:List cn):Int×Unit->Prop:=fun(i,_)=>0<=i/\i<=l.length/\l.length<=30/\∀j:Nat,(j:Int)<i->l7 l j=true
def G8(l:List cn):Int×Unit->Nat:=fun(i,_)=>l.length-i.toNat
def ase:AX afS:=fun l=>bq [(4,az [iI 10] (fun _=>Hv l) (G8 l))]
def arb:HH:=hF afS func59 [ajO] ase fun(l:List cn) hp hb=>by
 clear hp hb
 apply vE (let x0:=(l.length:Int);let q0:=Lb false (fN l);bif decide (x0>30) then q0 else Hv l (0,())/\∀(y:Int×PUnit),let x2:=Int.toNat (wrap i64 (y.1-1));let x1:=(l.getD x2 kT).At;let q1:=(wrap i64 (y.1+1),());let q2:=Hv l q1/\G8 l q1<G8 l y;Hv l y->bif decide (y.1<x0) then 0<=y.1/\y.1.toNat<l.length/\bif !lZ (l.getD y.1.toNat kT) then q0 else bif decide (y.1>0) then 0<=wrap i64 (y.1-1)/\x2<l.length/\bif decide (x1>(l.getD y.1.toNat kT).At) then q0 else q2 else q2 else Lb true (fN l))
 dsimp only
 refine ae (fun h=>aQ ?_) (fun h=>⟨⟨by omega,by omega,by have h:=yF h;omega,by intro j hj;omega⟩,?_⟩)
 ·have h:=yT h;simp only[fN];rw[decide_eq_false (by omega)];rfl
 rintro⟨i,⟨⟩⟩ ⟨h1,h2,h3,hR⟩
 simp only
 refine ae ?_ ?_<;>intro hc
 ·have hc:=yT hc
  have hN:l7 l i.toNat=false->fN l=false:=fun h=>by
   have hf:allI l.length (l7 l)=false:=cE (j:=i.toNat) (by omega) h
   simp only[fN,hf];simp
  simp(disch:=omega) only[wrap_i64]
  have e1:(i-1).toNat=i.toNat-1:=by omega
  simp only[e1]
  refine⟨by omega,by omega,ae (fun h=>aQ (hN ?_)) (fun h=>ae (fun h'=>⟨by have:=yT h';omega,by have:=yT h';omega,ae (fun zU=>aQ (hN ?_)) (fun zU=>⟨⟨by omega,by omega,h3,cu h1 hR ?_⟩,?_⟩)⟩) (fun h'=>⟨⟨by omega,by omega,h3,cu h1 hR ?_⟩,?_⟩))⟩
  all_goals (first|(simp only[G8];omega)|(simp only[l7];grind))
 ·have hc:=yF hc
  have hA:allI l.length (l7 l)=true:=cR fun j hj=>hR j (by omega)
  refine cx ?_
  simp only[fN,hA];grind
def af':=bE (α:=List cn) (q1 (qL .dq)) [.ro] (fun _=>[]) (fun l=>⟨[dO (fN l)],[],[]⟩)
def HJ(l:List cn):Int×Unit->Prop:=fun(i,_)=>0<=i/\i<=l.length/\∀j:Nat,(j:Int)<i->l7 l j=true
def Hh(l:List cn):Int×Unit->Nat:=fun(i,_)=>l.length-i.toNat
def asx:AX af':=fun l=>bq [(2,az [iI 3] (fun _=>HJ l) (Hh l))]
def arx:HH:=hF af' func36 [aqJ] asx fun(l:List cn) hp hb=>by
 have nV:L9 l.length:=eD (hb _ m0)
 clear hp hb
 apply vE (let x0:=(l.length:Int);HJ l (0,())/\∀(y:Int×PUnit),let x2:=Int.toNat (wrap i64 (y.1-1));let x1:=(l.getD x2 kT).At;let q0:=(wrap i64 (y.1+1),());let q1:=HJ l q0/\Hh l q0<Hh l y;HJ l y->bif decide (y.1<x0) then 0<=y.1/\y.1.toNat<l.length/\bif !lZ (l.getD y.1.toNat kT) then Lb false (fN l) else bif decide (y.1>0) then 0<=wrap i64 (y.1-1)/\x2<l.length/\0<=y.1/\y.1.toNat<l.length/\bif decide (x1>(l.getD y.1.toNat kT).At) then Lb false (fN l) else q1 else q1 else Lb (decide (x0<=30)) (fN l))
 dsimp only
 refine⟨⟨by omega,by omega,by intro j hj;omega⟩,?_⟩
 rintro⟨i,⟨⟩⟩ ⟨h1,h2,hR⟩
 simp only
 refine ae ?_ ?_<;>intro hc
 ·have hc:=yT hc
  have hN:l7 l i.toNat=false->fN l=false:=fun h=>by
   have hf:allI l.length (l7 l)=false:=cE (j:=i.toNat) (by omega) h
   simp only[fN,hf];simp
  simp(disch:=omega) only[wrap_i64]
  have e1:(i-1).toNat=i.toNat-1:=by omega
  simp only[e1]
  refine⟨by omega,by omega,ae (fun h=>aQ (hN ?_)) (fun h=>ae (fun h'=>⟨by have:=yT h';omega,by have:=yT h';omega,by omega,by omega,ae (fun zU=>aQ (hN ?_)) (fun zU=>⟨⟨by omega,by omega,cu h1 hR ?_⟩,?_⟩)⟩) (fun h'=>⟨⟨by omega,by omega,cu h1 hR ?_⟩,?_⟩))⟩
  all_goals (first|(simp only[Hh];omega)|(simp only[l7];grind))
 ·have hc:=yF hc
  have hA:allI l.length (l7 l)=true:=cR fun j hj=>hR j (by omega)
  refine cx ?_
  simp only[fN,hA];grind
def kj(n:Nat)(p:Nat->Bool):Int:=match(List.range n).find? p with|some i=>i|none=> -1
def anyI(n:Nat)(p:Nat->Bool):Bool:=(List.range n).any p
theorem gI{n i:Nat}{p:Nat->Bool}(h:i<n)(hp:p i=true)(hj:∀j,j<i->p j=false):kj n p=i:=by
 have:(List.range n).find? p=some i:=by
  rw[List.find?_range_eq_some]
  exact⟨hp,oh.2 h,fun j pg=>by simp[hj j pg]⟩
 simp[kj,this]
theorem je{n:Nat}{p:Nat->Bool}(hj:∀j,j<n->p j=false):kj n p= -1:=by
 have:(List.range n).find? p=none:=by
  rw[zeb]
  intro j pg
  simp[hj j (oh.1 pg)]
 simp[kj,this]
theorem oW(n:Nat)(p:Nat->Bool):(kj n p= -1/\∀j,j<n->p j=false)\/∃i,i<n/\kj n p=(i:Int)/\p i=true/\∀j,j<i->p j=false:=by
 cases h:(List.range n).find? p with
 |none=>
  refine .inl ⟨by simp[kj,h],fun j hj=> ?_⟩
  have:=zeb.1 h j (oh.2 hj)
  simpa using this
 |some i=>
  rw[List.find?_range_eq_some] at h
  obtain⟨h1,h2,h3⟩:=h
  exact .inr ⟨i,oh.1 h2,gI (oh.1 h2) h1 (fun j hj=>by simpa using h3 j hj),h1,fun j hj=>by simpa using h3 j hj⟩
theorem C'{n:Nat}{p q:Nat->Bool}(h:∀j,j<n->p j=q j):kj n p=kj n q:=by
 rcases oW n q with⟨h1,h2⟩|⟨i,h1,h2,h3,h4⟩
 ·rw[h1,je (fun j hj=>by rw[h j hj,h2 j hj])]
 ·rw[h2,gI h1 (by rw[h i h1,h3]) (fun j hj=>by rw[h j (by omega),h4 j hj])]
theorem jV{n j:Nat}{p:Nat->Bool}(h:j<n)(hp:p j=true):anyI n p=true:=by
 simp only[anyI,tW,oh]
 exact⟨j,h,hp⟩
theorem hZ{n:Nat}{p:Nat->Bool}(h:∀j,j<n->p j=false):anyI n p=false:=by
 simp only[anyI,List.any_eq_false,oh]
 exact fun j hj=>by simp[h j hj]
theorem JM{n:Nat}{p:Nat->Bool}:anyI n p=true↔∃j,j<n/\p j=true:=by
 simp only[anyI,tW,oh]
theorem JL{n:Nat}{p:Nat->Bool}:anyI n p=false↔∀j,j<n->p j=false:=by
 simp only[anyI,List.any_eq_false,oh,Al]
theorem JO{n:Nat}{p:Nat->Bool}:allI n p=true↔∀j,j<n->p j=true:=by
 simp only[allI,FU,oh]
theorem vX{n:Nat}{p q:Nat->Bool}(h:∀j,j<n->p j=q j):anyI n p=anyI n q:=by
 rw[HT,JM,JM]
 exact⟨fun⟨j,h1,h2⟩=>⟨j,h1,by rw[<-h j h1];exact h2⟩,fun⟨j,h1,h2⟩=>⟨j,h1,by rw[h j h1];exact h2⟩⟩
theorem sb{n:Nat}{p q:Nat->Bool}(h:∀j,j<n->p j=q j):allI n p=allI n q:=by
 rw[HT,JO,JO]
 exact⟨fun g j hj=>by rw[<-h j hj];exact g j hj,fun g j hj=>by rw[h j hj];exact g j hj⟩
theorem Gp{n:Nat}{p:Nat->Bool}:decide (0<=kj n p)=anyI n p:=by
 rcases oW n p with⟨h1,h2⟩|⟨i,h1,h2,h3,h4⟩
 ·rw[h1,hZ h2];rfl
 ·rw[h2,jV h1 h3];simp
theorem getD_take{α:Type}(l:List α)(z:α){i j:Nat}(h:j<i):(l.take i).getD j z=l.getD j z:=by
 rw[gh,gh,mP,if_pos h]
theorem nY{k:kq UU}{oe:List (DV UU)}{ds:List (DA UU)}{x:k.α}{v:Value}(h:k.of (ds.map DA.dv++oe)=some x)(hv:(k.ot x).val=[.one (.lit v)])(hm:(k.ot x).Kz=[])
  (hl:k.md.length=ds.length+oe.length) (hp:∀p∈k.pre x,p):dK k oe ds=some v:=by
 unfold dK
 simp only[h,hv,hm]
 rw[if_pos ⟨hl,hp⟩]
theorem oq(a b:cV):(a.K==b.K&&(a.N==b.N&&(a.S.toList==b.S.toList&&true)))=decide (a=b):=by
 obtain⟨K,N,S⟩:=a
 obtain⟨K',N',S'⟩:=b
 simp only[bZ,N5]
 rw[HT]
 simp only[fY,beq_iff_eq,decide_eq_true_eq,cV.mk.injEq]
theorem kI{i:Int}{p:Nat->Bool}(h0:0<=i)(h:∀j:Nat,(j:Int)<i->p j=false)(hi:p i.toNat=false):∀j:Nat,(j:Int)<i+1->p j=false:=by
 intro j hj
 by_cases RN:(j:Int)<i
 ·exact h j RN
 ·have:j=i.toNat:=by omega
  subst this;exact hi
def fX(x:de):DA UU:=⟨true,[.lit (.string x.Key),.lit (.string x.F.Kind),.sl .bC x.F.ak]⟩
def lW(l:List de)(i:Nat):Bool:=decide (1<=(l.getD i dw).Key.size/\(l.getD i dw).Key.size<=200)&&gm (l.getD i dw).F&& !(anyI i fun k=>decide ((l.getD k dw).Key=(l.getD i dw).Key))
def ij(l:List de):Bool:=decide (l.length<=30)&&allI l.length (lW l)
def GI(l:List de)(key:BA):Bool:=anyI l.length fun k=>decide ((l.getD k dw).Key=key)
def Wz:=bE (α:=(List de)×(List (DA UU)->Option Value)) (qC (qL .eO) (q1 qF)) [.ro,.ro] (fun(l,p)=>[∀j:Nat,j<l.length->p [fX (l.getD j dw)]=some (.bool (aH (p [fX (l.getD j dw)])))]) (fun(l,p)=>⟨[dI (kj l.length (fun j=>aH (p [fX (l.getD j dw)])))],[],[]⟩)
def BU(l:List de)(p:(List (DA UU)->Option Value)):Int×Unit->Prop:=fun(i,_)=>0<=i/\i<=l.length/\∀j:Nat,(j:Int)<i->aH (p [fX (l.getD j dw)])=false
def A3(l:List de)(p:(List (DA UU)->Option Value)):Int×Unit->Nat:=fun(i,_)=>l.length-i.toNat
def akt:AX Wz:=fun(l,p)=>bq [(2,az [iI 8] (fun _=>BU l p) (A3 l p))]
def aio:HH:=hF Wz func243 [] akt fun x hp hb=>by
 obtain⟨l,p⟩:=x
 have nV:L9 l.length:=eD (hb _ m0)
 have bP:∀j:Nat,j<l.length->p [fX (l.getD j dw)]=some (.bool (aH (p [fX (l.getD j dw)]))):=hp _ m0
 clear hp hb
 apply vE (BU l p (0,())/\∀(y:Int×PUnit),let x0:=aH (p [{agg:=true,cs:=[CS ((l.getD y.1.toNat dw).Key),CS ((l.getD y.1.toNat dw).F.Kind),CL .bC (l.getD y.1.toNat dw).F.ak]:DA UU}]);let q0:=l.getD y.1.toNat dw;let q1:=(wrap i64 (y.1+1),());BU l p y->bif decide (y.1<(l.length:Int)) then 0<=y.1/\y.1.toNat<l.length/\p [{agg:=true,cs:=[CS (q0.Key),CS (q0.F.Kind),CL .bC q0.F.ak]:DA UU}]=some (Value.bool x0)/\bif x0 then Li y.1 (kj (l.length) fun(j:Nat)=>aH (p [fX (l.getD j dw)])) else BU l p q1/\A3 l p q1<A3 l p y else Li (-1) (kj (l.length) fun(j:Nat)=>aH (p [fX (l.getD j dw)])))
 dsimp only
 refine⟨⟨by omega,by omega,by intro j hj;omega⟩,?_⟩
 rintro⟨i,⟨⟩⟩ ⟨h1,h2,hR⟩
 simp only[fX] at*
 refine ae ?_ ?_<;>intro hc
 ·have hc:=yT hc
  rw[wi]
  refine⟨by omega,by omega,bP i.toNat (by omega),ae (fun h=>cG ?_) (fun h=>⟨⟨by omega,by omega,kI (p:=fun j=>aH (p [fX (l.getD j dw)])) h1 hR h⟩,by simp only[A3];omega⟩)⟩
  rw[gI (i:=i.toNat) (by omega) h (fun j hj=>hR j (by omega))]
  omega
 ·have hc:=yF hc
  exact cG (je (fun j hj=>hR j (by omega))).symm
def agW:=bE (α:=(List de)×(List (DA UU)->Option Value)) (qC (qL .eO) (q1 qF)) [.ro,.ro] (fun(l,p)=>[∀j:Nat,j<l.length->p [fX (l.getD j dw)]=some (.bool (aH (p [fX (l.getD j dw)])))]) (fun(l,p)=>⟨[dO (anyI l.length (fun j=>aH (p [fX (l.getD j dw)])))],[],[]⟩)
def aiZ:HH:=hF agW func193 [aio] a0 fun x hp hb=>by
 obtain⟨l,p⟩:=x
 have bP:∀j:Nat,j<l.length->p [fX (l.getD j dw)]=some (.bool (aH (p [fX (l.getD j dw)]))):=hp _ m0
 clear hp hb
 apply vE (let x0:=kj (l.length) fun(j:Nat)=>aH (p [fX (l.getD j dw)]);(∀(j:Nat),j<l.length->p [fX (l.getD j dw)]=some (Value.bool (aH (p [fX (l.getD j dw)]))))/\Lb (decide (x0≥0)) (anyI (l.length) fun(j:Nat)=>aH (p [fX (l.getD j dw)])))
 dsimp only
 exact⟨bP,cx (by rw[<-Gp])⟩
def aht:=bE (α:=BA) (q1 qS) [.ro] (fun _=>[]) (fun s=>⟨[dO (decide (1<=s.size/\s.size<=200))],[],[]⟩)
def ajN:HH:=hF aht func122 [Ec] a0 fun(s:BA) hp hb=>by
 clear hp hb
 apply vE (Lb (decide (1<=(↑(s.size):Int)/\(↑(s.size):Int)<=200)) (decide (1<=s.size/\s.size<=200)))
 refine cx ?_
 rw[decide_eq_decide];omega
def Ae:kq UU where
 α:=de×BA
 md:=[.ro,.ro]
 of:=fun|[.agg [.lit (.string a0),.lit (.string a1),.sl .bC a2],.ptr [.lit (.string a3)]]=>some (⟨a0,⟨a1,a2⟩⟩,a3)|_=>none
 ds:=fun(x,c)=>[.agg [.lit (.string x.Key),.lit (.string x.F.Kind),.sl .bC x.F.ak],.ptr [.lit (.string c)]]
 pre:=fun(x,c)=>[]
 ot:=fun(x,c)=>⟨[.one (.lit (.bool (decide (x.Key=c))))],[],[]⟩
 law:=by intro l x h;(try simp only at h);split at h<;>cases h;rfl
def aiY:HH:=hF Ae func194 [] a0 fun x hp hb=>by
 obtain⟨x,c⟩:=x
 have Qn:dT (U:=UU) (.agg [.lit (.string x.Key),.lit (.string x.F.Kind),.sl .bC x.F.ak]):=hb _ (cH)
 have aeG:L9 x.Key.size:=Bd.str (Qn _ (by simp))
 have VU:L9 x.F.Kind.size:=Bd.str (Qn _ (by simp))
 have RG:L9 x.F.ak.length:=Bd.len (U:=UU) (τ:=.bC) (xs:=x.F.ak) (Qn _ (by simp))
 have atf:dT (U:=UU) (.ptr [.lit (.string c)]):=hb _ (aJ _ (cH))
 clear hp hb
 apply vE (Lb (x.Key.toList==c.toList) (decide (x.Key=c)))
 rw[bZ]
 exact aO _
def ahs:=bE (α:=(List de)×BA) (qC (qL .eO) (q1 qS)) [.ro,.ro] (fun _=>[]) (fun(l,key)=>⟨[dO (GI l key)],[],[]⟩)
def ajM:HH:=hF ahs func123 [aiZ,aiY] a0 fun x hp hb=>by
 obtain⟨l,key⟩:=x
 clear hp hb
 apply vE ((∀(j:Nat),j<l.length->dK Ae [DV.ptr [CS key]] [fX (l.getD j dw)]=some (Value.bool (aH (dK Ae [DV.ptr [CS key]] [fX (l.getD j dw)]))))/\Lb (anyI (l.length) fun(j:Nat)=>aH (dK Ae [DV.ptr [CS key]] [fX (l.getD j dw)])) (GI l key))
 have hc:∀x:de,dK Ae [.ptr [.lit (.string key)]] [fX x]=some (.bool (decide (x.Key=key))):=fun x=>nY (x:=(x,key)) rfl rfl rfl rfl (by simp[Ae])
 refine⟨fun j hj=> ?_,cx ?_⟩
 ·show dK Ae [.ptr [.lit (.string key)]] [fX (l.getD j dw)]=_
  rw[hc];rfl
 ·exact vX fun j hj=>by
   show aH (dK Ae [.ptr [.lit (.string key)]] [fX (l.getD j dw)])=_
   rw[hc];rfl
def afR:=bE (α:=List de) (q1 (qL .eO)) [.ro] (fun _=>[]) (fun l=>⟨[dO (ij l)],[],[]⟩)
def Hu(l:List de):Int×Unit->Prop:=fun(i,_)=>0<=i/\i<=l.length/\l.length<=30/\∀j:Nat,(j:Int)<i->lW l j=true
def zy(l:List de):Int×Unit->Nat:=fun(i,_)=>l.length-i.toNat
def asd:AX afR:=fun l=>bq [(4,az [iI 10] (fun _=>Hu l) (zy l))]
def ara:HH:=hF afR func60 [ajN,ME,ajM] asd fun(l:List de) hp hb=>by
 clear hp hb
 apply vE (let x0:=(l.length:Int);let x1:=Option.getD none (0:Int);let q0:=Lb false (ij l);bif decide (x0>30) then q0 else Hu l (0,())/\∀(y:Int×PUnit),let x2:=Option.getD (some y.1) x0;let q1:=l.getD y.1.toNat dw;let q2:=(wrap i64 (y.1+1),());Hu l y->bif decide (y.1<x0) then 0<=y.1/\y.1.toNat<l.length/\bif !decide (1<=q1.Key.size/\q1.Key.size<=200) then q0 else bif !gm q1.F then q0 else 0<=x1/\x1<=x2/\x2<=x0/\bif GI ((l.take x2.toNat).drop x1.toNat) q1.Key then q0 else Hu l q2/\zy l q2<zy l y else Lb true (ij l))
 dsimp only
 refine ae (fun h=>aQ ?_) (fun h=>⟨⟨by omega,by omega,by have h:=yF h;omega,by intro j hj;omega⟩,?_⟩)
 ·have h:=yT h;simp only[ij];rw[decide_eq_false (by omega)];rfl
 rintro⟨i,⟨⟩⟩ ⟨h1,h2,h3,hR⟩
 simp only
 refine ae ?_ ?_<;>intro hc
 ·have hc:=yT hc
  have hN:lW l i.toNat=false->ij l=false:=fun h=>by
   have hf:allI l.length (lW l)=false:=cE (j:=i.toNat) (by omega) h
   simp only[ij,hf];simp
  have hk:GI ((l.take i.toNat).drop (Int.toNat 0)) (l.getD i.toNat dw).Key=anyI i.toNat fun k=>decide ((l.getD k dw).Key=(l.getD i.toNat dw).Key):=by
   show anyI _ _=_
   have e:(l.take i.toNat).length=i.toNat:=by rw[mO];omega
   rw[show Int.toNat 0=0 from rfl,List.drop_zero,e]
   exact vX fun j hj=>by rw[getD_take l dw hj]
  simp only[Vp,J0,hk]
  simp(disch:=omega) only[wrap_i64]
  have hm:zy l (i+1,PUnit.unit)<zy l (i,()):=by simp only[zy];omega
  refine⟨by omega,by omega,ae (fun h=>aQ (hN ?_)) (fun h=>ae (fun h'=>aQ (hN ?_)) (fun h'=>⟨by omega,by omega,by omega,ae (fun zU=>aQ (hN ?_)) (fun zU=>⟨⟨by omega,by omega,h3,cu h1 hR ?_⟩,hm⟩)⟩))⟩
  all_goals (simp only[lW];grind)
 ·have hc:=yF hc
  have hA:allI l.length (lW l)=true:=cR fun j hj=>hR j (by omega)
  refine cx ?_
  simp only[ij,hA];grind
def af9:=bE (α:=List de) (q1 (qL .eO)) [.ro] (fun _=>[]) (fun l=>⟨[dO (ij l)],[],[]⟩)
def HI(l:List de):Int×Unit->Prop:=fun(i,_)=>0<=i/\i<=l.length/\∀j:Nat,(j:Int)<i->lW l j=true
def zA(l:List de):Int×Unit->Nat:=fun(i,_)=>l.length-i.toNat
def HG(l:List de):Int×Int×Unit->Int×Int×Unit->Prop:=fun(i0,k0,_) (i,k,_)=>i=i0/\0<=k/\k<=i/\∀j:Nat,(j:Int)<k->decide ((l.getD j dw).Key=(l.getD i.toNat dw).Key)=false
def Hg(l:List de):Int×Int×Unit->Nat:=fun(i,k,_)=>i.toNat-k.toNat
def asw:AX af9:=fun l=>bq [(2,az [iI 3] (fun _=>HI l) (zA l)),(7,az [iI 3,iI 4] (HG l) (Hg l))]
def arw:HH:=hF af9 func37 [tU,Vj] asw fun(l:List de) hp hb=>by
 have nV:L9 l.length:=eD (hb _ m0)
 clear hp hb
 apply vE (let x0:=(l.length:Int);let q0:=Lb false (ij l);HI l (0,())/\∀(y:Int×PUnit),let q1:=l.getD y.1.toNat dw;let q2:=(y.1,0,());HI l y->bif decide (y.1<x0) then 0<=y.1/\y.1.toNat<l.length/\bif !decide (1<=(↑(q1.Key.size):Int)/\(↑(q1.Key.size):Int)<=200) then q0 else 0<=y.1/\y.1.toNat<l.length/\bif !gm q1.F then q0 else HG l q2 q2/\∀(av:Int×Int×PUnit),let x1:=av.2.1.toNat;let q3:=(av.1,wrap i64 (av.2.1+1),());let q4:=(wrap i64 (av.1+1),());HG l q2 av->bif decide (av.2.1<av.1) then 0<=av.1/\av.1.toNat<l.length/\0<=av.2.1/\x1<l.length/\bif (l.getD av.1.toNat dw).Key.toList==(l.getD x1 dw).Key.toList then q0 else HG l q2 q3/\Hg l q3<Hg l av else HI l q4/\zA l q4<zA l y else Lb (decide (x0<=30)) (ij l))
 dsimp only
 refine⟨⟨by omega,by omega,by intro j hj;omega⟩,?_⟩
 rintro⟨i,⟨⟩⟩ ⟨h1,h2,hR⟩
 simp only
 refine ae ?_ ?_<;>intro hc
 ·have hc:=yT hc
  have hN:lW l i.toNat=false->ij l=false:=fun h=>by
   have hf:allI l.length (lW l)=false:=cE (j:=i.toNat) (by omega) h
   simp only[ij,hf];simp
  have hm:zA l (i+1,PUnit.unit)<zA l (i,()):=by simp only[zA];omega
  refine⟨by omega,by omega,ae (fun h=>aQ (hN ?_)) (fun h=>⟨by omega,by omega,ae (fun h'=>aQ (hN ?_)) (fun h'=>⟨⟨rfl,by omega,by omega,by intro j hj;omega⟩,?_⟩)⟩)⟩
  ·simp only[lW];grind
  ·simp only[lW];grind
  rintro⟨i,k,⟨⟩⟩ ⟨rfl,g1,g2,gR⟩
  simp only
  refine ae ?_ ?_<;>intro hk
  ·have hk:=yT hk
   simp(disch:=omega) only[wrap_i64,bZ]
   refine⟨by omega,by omega,by omega,by omega,ae (fun zU=>aQ (hN ?_)) (fun zU=>⟨⟨rfl,by omega,by omega,kI g1 gR ?_⟩,by simp only[Hg];omega⟩)⟩
   ·have ha:(anyI i.toNat fun k=>decide ((l.getD k dw).Key=(l.getD i.toNat dw).Key))=true:=jV (j:=k.toNat) (by omega) (by grind)
    simp only[lW,ha];simp
   ·grind
  ·have hk:=yF hk
   simp(disch:=omega) only[wrap_i64]
   refine⟨⟨by omega,by omega,cu h1 hR ?_⟩,hm⟩
   have ha:(anyI i.toNat fun k=>decide ((l.getD k dw).Key=(l.getD i.toNat dw).Key))=false:=hZ fun j hj=>gR j (by omega)
   simp only[lW,ha];grind
 ·have hc:=yF hc
  have hA:allI l.length (lW l)=true:=cR fun j hj=>hR j (by omega)
  refine cx ?_
  simp only[ij,hA];grind
def JS:=bE (α:=List cV) (q1 (qL .bC)) [.ro] (fun l=>[L4 l.length]) (fun l=>⟨[dL .bC l],[],[]⟩)
def Rf:AX JS:=fun l=>bq []
def QX:List (FuncId×kq UU):=[]
theorem afi:zV EE QX f244 JS Rf [] .bC [] true=(Lf [VL .bC []] [VL .bC []]):=by kernel_rfl
theorem aff:zV EE QX f244 JS Rf [] .bC [] true:=by
 rw[afi]
 exact aO _
theorem afx:Holds EE (244,JS):=by
 refine zd JX func244 JS (by kernel_rfl) rfl .bC (fun x=>x) (fun _=>rfl) QX all_nil Rf (fun(l:List cV) hp hb=> ?_)
 have nV:L9 l.length:=eD (hb _ m0)
 have bP:l.length<=4294967296:=hp _ m0
 clear hp hb
 refine⟨?_,fun h0=> ?_⟩
 rotate_left
 ·subst h0;exact aff
 apply vE (0+l.length<=4294967296/\Lf [VL .bC ([]++l)] [VL .bC l])
 exact⟨by simp;omega,aO _⟩
def ain:HH:=⟨_,afx⟩
def ag_:=bE (α:=bf) (q1 (qA .eP)) [.ro] (fun f=>[L4 f.ak.length]) (fun f=>⟨[dA .eP f],[],[]⟩)
def ajf:HH:=hF ag_ func166 [] a0 fun(f:bf) hp hb=>by
 have aG:=jM (x:=f) (hb _ m0)
 have lz:=aG.1
 have iL:=aG.2
 have bP:f.ak.length<=4294967296:=hp _ m0
 clear hp hb
 apply vE (0+f.ak.length<=4294967296/\Lf [DV.agg [CS f.Kind,CL .bC ([]++f.ak)]] [DV.agg [CS f.Kind,CL .bC f.ak]])
 exact⟨by simp;omega,aO _⟩
def agV:=bE (α:=bf) (q1 (qA .eP)) [.ro] (fun f=>[L4 f.ak.length]) (fun f=>⟨[dA .eP f],[],[]⟩)
def aiX:HH:=hF agV func195 [ain] a0 fun(f:bf) hp hb=>by
 have bP:f.ak.length<=4294967296:=hp _ m0
 clear hp hb
 apply vE (f.ak.length<=4294967296/\Lf [DV.agg [CS f.Kind,CL .bC f.ak]] [DV.agg [CS f.Kind,CL .bC f.ak]])
 exact⟨bP,aO _⟩
def kU(s:BA):Bool:=decide (s=a_)||cy s
def kV(t:ck):Bool:=gm t.F&&kU t.jt&&decide (1<=t.State/\t.State<=4)&&decide (0<=t.kE/\t.kE<=4)&&decide (0<=t.Lk/\t.Lk<=1000001000)&&(decide (t.V=fL)||iE t.V)&&decide ((t.State=1->t.kE=0)/\(t.State=2->t.kE≠0))
def kW(l:List ck)(i:Nat):Bool:=kV (l.getD i cK)&& !(anyI i fun k=>decide ((l.getD k cK).F=(l.getD i cK).F))
def gU(l:List ck):Bool:=decide (l.length<=30)&&allI l.length (kW l)
def placeOf(l:List ck)(f:bf):Int:=kj l.length fun k=>decide ((l.getD k cK).F=f)
def ob(t:ck):Bool:=decide (t.State=1\/t.State=2)
def eK(x:ck):DA UU:=⟨true,[.lit (.string x.F.Kind),.sl .bC x.F.ak,.lit (.string x.jt),.lit (.int .i64 x.State),.lit (.int .i64 x.kE),.lit (.int .i64 x.Lk),.lit (.int .i64 x.V.K),.lit (.int .i64 x.V.N),.lit (.string x.V.S)]⟩
theorem I3{a b:bf}:a=b↔a.Kind=b.Kind/\a.ak=b.ak:=by
 obtain⟨k,f⟩:=a;obtain⟨k',f'⟩:=b;simp
def Xa:=bE (α:=(List cV)×(List cV)) (qC (qL .bC) (q1 (qL .bC))) [.ro,.ro] (fun _=>[]) (fun(a,b)=>⟨[dO (decide (a=b))],[],[]⟩)
def ym(a:List cV)(b:List cV):Int×Unit->Prop:=fun(i,_)=>0<=i/\i<=a.length/\a.length=b.length/\(a.drop i.toNat=b.drop i.toNat↔a=b)
def Br(a:List cV)(b:List cV):Int×Unit->Nat:=fun(i,_)=>a.length-i.toNat
def ak5:AX Xa:=fun(a,b)=>bq [(4,az [iI 5] (fun _=>ym a b) (Br a b))]
def XT:HH:=hF Xa func165 [] ak5 fun x hp hb=>by
 obtain⟨a,b⟩:=x
 have cJ:L9 a.length:=eD (hb _ m0)
 have nj:L9 b.length:=eD (hb _ m1)
 clear hp hb
 apply vE (bif (a.length:Int) !=(b.length:Int) then Lb false (decide (a=b)) else ym a b (0,())/\∀(y:Int×PUnit),let x0:=a.getD y.1.toNat fL;let x1:=b.getD y.1.toNat fL;let q0:=(wrap i64 (y.1+1),());ym a b y->bif decide (y.1<(a.length:Int)) then 0<=y.1/\y.1.toNat<a.length/\0<=y.1/\y.1.toNat<b.length/\bif !(x0.K==x1.K&&(x0.N==x1.N&&(x0.S.toList==x1.S.toList&&true))) then Lb false (decide (a=b)) else ym a b q0/\Br a b q0<Br a b y else Lb true (decide (a=b)))
 dsimp only
 refine ae (fun h=>ju ?_) (fun h=>⟨?_,?_⟩)
 ·rintro rfl;simp at h
 ·simp[ym] at*;omega
 rintro⟨i,⟨⟩⟩ ⟨h1,h2,h3,hR⟩
 simp only at*
 refine ae ?_ ?_<;>intro hc
 ·have hc:i<a.length:=by simpa using hc
  rw[cj a fL h1 hc,cj b fL h1 (by omega)] at hR
  rw[wi]
  simp only[oq]
  refine⟨by omega,by omega,by omega,by omega,ae (fun h=>ju ?_) (fun h=>⟨⟨by omega,by omega,h3,?_⟩,?_⟩)⟩
  ·rw[<-hR];simp at h;simp[h]
  ·rw[<-hR];simp at h;simp[h]
  ·simp only[Br];omega
 ·have hc:a.length<=i:=by simpa using hc
  rw[bU a hc,bU b (by omega)] at hR
  exact lQ (hR.1 rfl)
def W0:=bE (α:=(List cV)×(List cV)) (qC (qL .bC) (q1 (qL .bC))) [.ro,.ro] (fun _=>[]) (fun(a,b)=>⟨[dO (decide (a=b))],[],[]⟩)
def ye(a:List cV)(b:List cV):Int×Unit->Prop:=fun(i,_)=>0<=i/\i<=a.length/\a.length=b.length/\(a.drop i.toNat=b.drop i.toNat↔a=b)
def Bh(a:List cV)(b:List cV):Int×Unit->Nat:=fun(i,_)=>a.length-i.toNat
def akU:AX W0:=fun(a,b)=>bq [(4,az [iI 13] (fun _=>ye a b) (Bh a b))]
def XP:HH:=hF W0 func190 [] akU fun x hp hb=>by
 obtain⟨a,b⟩:=x
 have cJ:L9 a.length:=eD (hb _ m0)
 have nj:L9 b.length:=eD (hb _ m1)
 clear hp hb
 apply vE (bif (a.length:Int) !=(b.length:Int) then Lb false (decide (a=b)) else ye a b (0,())/\∀(y:Int×PUnit),let x0:=b.getD y.1.toNat fL;let x1:=a.getD y.1.toNat fL;let q0:=(wrap i64 (y.1+1),());ye a b y->bif decide (y.1<(a.length:Int)) then 0<=y.1/\y.1.toNat<a.length/\0<=y.1/\y.1.toNat<b.length/\bif !(x1.K==x0.K&&(x1.N==x0.N&&(x1.S.toList==x0.S.toList&&true))) then Lb false (decide (a=b)) else ye a b q0/\Bh a b q0<Bh a b y else Lb true (decide (a=b)))
 dsimp only
 refine ae (fun h=>ju ?_) (fun h=>⟨?_,?_⟩)
 ·rintro rfl;simp at h
 ·simp[ye] at*;omega
 rintro⟨i,⟨⟩⟩ ⟨h1,h2,h3,hR⟩
 simp only at*
 refine ae ?_ ?_<;>intro hc
 ·have hc:i<a.length:=by simpa using hc
  rw[cj a fL h1 hc,cj b fL h1 (by omega)] at hR
  rw[wi]
  simp only[oq]
  refine⟨by omega,by omega,by omega,by omega,ae (fun h=>ju ?_) (fun h=>⟨⟨by omega,by omega,h3,?_⟩,?_⟩)⟩
  ·rw[<-hR];simp at h;simp[h]
  ·rw[<-hR];simp at h;simp[h]
  ·simp only[Bh];omega
 ·have hc:a.length<=i:=by simpa using hc
  rw[bU a hc,bU b (by omega)] at hR
  exact lQ (hR.1 rfl)
def ap9:=bE (α:=bf×bf) (qC (qA .eP) (q1 (qA .eP))) [.ro,.ro] (fun _=>[]) (fun(a,b)=>⟨[dO (decide (a=b))],[],[]⟩)
def ahH:HH:=hF ap9 func93 [XT] a0 fun x hp hb=>by
 obtain⟨a,b⟩:=x
 clear hp hb
 apply vE (bif a.Kind.toList==b.Kind.toList then Lb (decide (a.ak=b.ak)) (decide (a=b)) else Lb false (decide (a=b)))
 simp only[bZ]
 refine ae (fun h=>cx ?_) (fun h=>cx ?_)<;>(simp only[I3];grind)
def ahy:=bE (α:=bf×bf) (qC (qA .eP) (q1 (qA .eP))) [.ro,.ro] (fun _=>[]) (fun(a,b)=>⟨[dO (decide (a=b))],[],[]⟩)
def XW:HH:=hF ahy func118 [XP] a0 fun x hp hb=>by
 obtain⟨a,b⟩:=x
 clear hp hb
 apply vE (bif a.Kind.toList==b.Kind.toList then Lb (decide (a.ak=b.ak)) (decide (a=b)) else Lb false (decide (a=b)))
 simp only[bZ]
 refine ae (fun h=>cx ?_) (fun h=>cx ?_)<;>(simp only[I3];grind)
def ahb:=bE (α:=BA) (q1 qS) [.ro] (fun _=>[]) (fun s=>⟨[dO (kU s)],[],[]⟩)
def ajg:HH:=hF ahb func163 [N1] a0 fun(s:BA) hp hb=>by
 clear hp hb
 apply vE (bif s.toList==ByteArray.toList {data:= #[]:BA} then Lb true (kU s) else Lb (cy s) (kU s))
 have e:(s.toList==ByteArray.toList {data:= #[]})=decide (s=a_):=bZ _ _
 simp only[e,kU]
 refine ae (fun h=>cx ?_) (fun h=>cx ?_)<;>grind
def agX:=bE (α:=BA) (q1 qS) [.ro] (fun _=>[]) (fun s=>⟨[dO (kU s)],[],[]⟩)
def XO:HH:=hF agX func191 [FO] a0 fun(s:BA) hp hb=>by
 clear hp hb
 apply vE (bif s.toList==ByteArray.toList {data:= #[]:BA} then Lb true (kU s) else Lb (cy s) (kU s))
 have e:(s.toList==ByteArray.toList {data:= #[]})=decide (s=a_):=bZ _ _
 simp only[e,kU]
 refine ae (fun h=>cx ?_) (fun h=>cx ?_)<;>grind
def ap':=bE (α:=ck) (q1 (qA .dJ)) [.ro] (fun _=>[]) (fun t=>⟨[dO (kV t)],[],[]⟩)
def aqK:HH:=hF ap' func92 [Vj,ajg,tU,Q9] a0 fun(t:ck) hp hb=>by
 clear hp hb
 apply vE (let q0:=bif t.State !=1 then bif t.State !=2 then Lb true (kV t) else Lb ((t.State==1)==(t.kE==0)) (kV t) else Lb ((t.State==1)==(t.kE==0)) (kV t);let q1:=Lb false (kV t);bif !gm t.F then q1 else bif !kU t.jt then q1 else bif !decide (1<=t.State/\t.State<=4) then q1 else bif !decide (0<=t.kE/\t.kE<=4) then q1 else bif !decide (0<=t.Lk/\t.Lk<=1000001000) then q1 else bif !(t.V.K==0&&(t.V.N==0&&(t.V.S.toList==ByteArray.toList {data:= #[]:BA}&&true))) then bif !iE t.V then q1 else q0 else q0)
 dsimp only
 have e:∀v:cV,(v.K==0&&(v.N==0&&(v.S.toList==ByteArray.toList {data:= #[]}&&true)))=decide (v=fL):=fun v=>oq v fL
 simp only[e]
 simp only[kV]
 repeat' (refine ae (fun h=> ?_) (fun h=> ?_))
 all_goals (refine cx ?_;grind)
def ahx:=bE (α:=ck) (q1 (qA .dJ)) [.ro] (fun _=>[]) (fun t=>⟨[dO (kV t)],[],[]⟩)
def ajQ:HH:=hF ahx func119 [ME,XO,Ec,Q7] a0 fun(t:ck) hp hb=>by
 clear hp hb
 apply vE (let q0:=bif decide (0<=t.Lk/\t.Lk<=1000001000) then bif t.V.K==0&&(t.V.N==0&&(t.V.S.toList==ByteArray.toList {data:= #[]:BA}&&true)) then Lb true (kV t) else Lb (iE t.V) (kV t) else Lb false (kV t);let q1:=Lb false (kV t);let q2:=bif t.State==2 then bif t.kE==0 then q1 else q0 else q0;bif !gm t.F then q1 else bif !kU t.jt then q1 else bif !decide (1<=t.State/\t.State<=4) then q1 else bif !decide (0<=t.kE/\t.kE<=4) then q1 else bif t.State==1 then bif t.kE !=0 then q1 else q2 else q2)
 dsimp only
 have e:∀v:cV,(v.K==0&&(v.N==0&&(v.S.toList==ByteArray.toList {data:= #[]}&&true)))=decide (v=fL):=fun v=>oq v fL
 simp only[e]
 simp only[kV]
 repeat' (refine ae (fun h=> ?_) (fun h=> ?_))
 all_goals (refine cx ?_;grind)
def Xt:=bE (α:=(List ck)×(List (DA UU)->Option Value)) (qC (qL .dJ) (q1 qF)) [.ro,.ro] (fun(l,p)=>[∀j:Nat,j<l.length->p [eK (l.getD j cK)]=some (.bool (aH (p [eK (l.getD j cK)])))]) (fun(l,p)=>⟨[dI (kj l.length (fun j=>aH (p [eK (l.getD j cK)])))],[],[]⟩)
def Cs(l:List ck)(p:(List (DA UU)->Option Value)):Int×Unit->Prop:=fun(i,_)=>0<=i/\i<=l.length/\∀j:Nat,(j:Int)<i->aH (p [eK (l.getD j cK)])=false
def BC(l:List ck)(p:(List (DA UU)->Option Value)):Int×Unit->Nat:=fun(i,_)=>l.length-i.toNat
def aln:AX Xt:=fun(l,p)=>bq [(2,az [iI 8] (fun _=>Cs l p) (BC l p))]
def XV:HH:=hF Xt func127 [] aln fun x hp hb=>by
 obtain⟨l,p⟩:=x
 have nV:L9 l.length:=eD (hb _ m0)
 have bP:∀j:Nat,j<l.length->p [eK (l.getD j cK)]=some (.bool (aH (p [eK (l.getD j cK)]))):=hp _ m0
 clear hp hb
 apply vE (Cs l p (0,())/\∀(y:Int×PUnit),let x1:=l.getD y.1.toNat cK;let x0:=aH (p [{agg:=true,cs:=[CS x1.F.Kind,CL .bC x1.F.ak,CS x1.jt,CI x1.State,CI x1.kE,CI x1.Lk,CI x1.V.K,CI x1.V.N,CS x1.V.S]:DA UU}]);let q0:=(wrap i64 (y.1+1),());Cs l p y->bif decide (y.1<(l.length:Int)) then 0<=y.1/\y.1.toNat<l.length/\p [{agg:=true,cs:=[CS x1.F.Kind,CL .bC x1.F.ak,CS x1.jt,CI x1.State,CI x1.kE,CI x1.Lk,CI x1.V.K,CI x1.V.N,CS x1.V.S]:DA UU}]=some (Value.bool x0)/\bif x0 then Li y.1 (kj (l.length) fun(j:Nat)=>aH (p [eK (l.getD j cK)])) else Cs l p q0/\BC l p q0<BC l p y else Li (-1) (kj (l.length) fun(j:Nat)=>aH (p [eK (l.getD j cK)])))
 dsimp only
 refine⟨⟨by omega,by omega,by intro j hj;omega⟩,?_⟩
 rintro⟨i,⟨⟩⟩ ⟨h1,h2,hR⟩
 simp only[eK] at*
 refine ae ?_ ?_<;>intro hc
 ·have hc:=yT hc
  rw[wi]
  refine⟨by omega,by omega,bP i.toNat (by omega),ae (fun h=>cG ?_) (fun h=>⟨⟨by omega,by omega,kI (p:=fun j=>aH (p [eK (l.getD j cK)])) h1 hR h⟩,by simp only[BC];omega⟩)⟩
  rw[gI (i:=i.toNat) (by omega) h (fun j hj=>hR j (by omega))]
  omega
 ·have hc:=yF hc
  exact cG (je (fun j hj=>hR j (by omega))).symm
def Af:kq UU where
 α:=ck×bf
 md:=[.ro,.ro]
 of:=oC (oA .dJ) (o1 (oP .eP))
 ds:=fun x=>[dA .dJ x.1,dP .eP x.2]
 pre:=fun _=>[]
 ot:=fun(t,f)=>⟨[dO (decide (t.F=f))],[],[]⟩
 law:=lC (lA .dJ) (l1 (lP .eP))
def ai0:HH:=hF Af func192 [XW] a0 fun x hp hb=>by
 obtain⟨t,f⟩:=x
 clear hp hb
 apply vE (Lb (decide (t.F=f)) (decide (t.F=f)))
 exact aO _
def ahv:=bE (α:=(List ck)×bf) (qC (qL .dJ) (q1 (qA .eP))) [.ro,.ro] (fun _=>[]) (fun(l,f)=>⟨[dI (placeOf l f)],[],[]⟩)
def ajP:HH:=hF ahv func120 [XV,ai0] a0 fun x hp hb=>by
 obtain⟨l,f⟩:=x
 clear hp hb
 apply vE ((∀(j:Nat),j<l.length->dK Af [DV.ptr [CS f.Kind,CL .bC f.ak]] [eK (l.getD j cK)]=some (Value.bool (aH (dK Af [DV.ptr [CS f.Kind,CL .bC f.ak]] [eK (l.getD j cK)]))))/\Li (kj (l.length) fun(j:Nat)=>aH (dK Af [DV.ptr [CS f.Kind,CL .bC f.ak]] [eK (l.getD j cK)])) (placeOf l f))
 have hc:∀x:ck,dK Af [.ptr [.lit (.string f.Kind),.sl .bC f.ak]] [eK x]=some (.bool (decide (x.F=f))):=fun x=>nY (x:=(x,f)) rfl rfl rfl rfl (by simp[Af])
 refine⟨fun j hj=> ?_,cG ?_⟩
 ·show dK Af [.ptr [.lit (.string f.Kind),.sl .bC f.ak]] [eK (l.getD j cK)]=_
  rw[hc];rfl
 ·exact C' fun j hj=>by
   show aH (dK Af [.ptr [.lit (.string f.Kind),.sl .bC f.ak]] [eK (l.getD j cK)])=_
   rw[hc];rfl
def afT:=bE (α:=List ck) (q1 (qL .dJ)) [.ro] (fun _=>[]) (fun l=>⟨[dO (gU l)],[],[]⟩)
def Hw(l:List ck):Int×Unit->Prop:=fun(i,_)=>0<=i/\i<=l.length/\l.length<=30/\∀j:Nat,(j:Int)<i->kW l j=true
def zz(l:List ck):Int×Unit->Nat:=fun(i,_)=>l.length-i.toNat
def asf:AX afT:=fun l=>bq [(4,az [iI 10] (fun _=>Hw l) (zz l))]
def arc:HH:=hF afT func58 [ajQ,ajP] asf fun(l:List ck) hp hb=>by
 clear hp hb
 apply vE (let x0:=(l.length:Int);let q0:=Lb false (gU l);bif decide (x0>30) then q0 else Hw l (0,())/\∀(y:Int×PUnit),let q1:=(wrap i64 (y.1+1),());Hw l y->bif decide (y.1<x0) then 0<=y.1/\y.1.toNat<l.length/\bif !kV (l.getD y.1.toNat cK) then q0 else bif placeOf l (l.getD y.1.toNat cK).F !=y.1 then q0 else Hw l q1/\zz l q1<zz l y else Lb true (gU l))
 dsimp only
 refine ae (fun h=>aQ ?_) (fun h=>⟨⟨by omega,by omega,by have h:=yF h;omega,by intro j hj;omega⟩,?_⟩)
 ·have h:=yT h;simp only[gU];rw[decide_eq_false (by omega)];rfl
 rintro⟨i,⟨⟩⟩ ⟨h1,h2,h3,hR⟩
 simp only
 refine ae ?_ ?_<;>intro hc
 ·have hc:=yT hc
  have hN:kW l i.toNat=false->gU l=false:=fun h=>by
   have hf:allI l.length (kW l)=false:=cE (j:=i.toNat) (by omega) h
   simp only[gU,hf];simp
  have wl:(placeOf l (l.getD i.toNat cK).F=i)↔(anyI i.toNat fun k=>decide ((l.getD k cK).F=(l.getD i.toNat cK).F))=false:=by
   rw[JL]
   unfold placeOf
   rcases oW l.length (fun k=>decide ((l.getD k cK).F=(l.getD i.toNat cK).F)) with⟨g1,g2⟩|⟨m,g1,g2,g3,g4⟩
   ·have:=g2 i.toNat (by omega);simp at this
   ·rw[g2]
    constructor
    ·intro e j hj;exact g4 j (by omega)
    ·intro e
     by_cases hm:m<i.toNat
     ·have:=e m hm;rw[g3] at this;cases this
     ·by_cases sY:i.toNat<m
      ·have:=g4 i.toNat sY;simp at this
      ·omega
  simp(disch:=omega) only[wrap_i64]
  have hm:zz l (i+1,PUnit.unit)<zz l (i,()):=by simp only[zz];omega
  refine⟨by omega,by omega,ae (fun h=>aQ (hN ?_)) (fun h=>ae (fun h'=>aQ (hN ?_)) (fun h'=>⟨⟨by omega,by omega,h3,cu h1 hR ?_⟩,hm⟩))⟩
  ·simp only[kW];grind
  ·have:¬(placeOf l (l.getD i.toNat cK).F=i):=by simpa using h'
   rw[wl] at this
   simp only[kW];grind
  ·have:placeOf l (l.getD i.toNat cK).F=i:=by simpa using h'
   rw[wl] at this
   simp only[kW,this];grind
 ·have hc:=yF hc
  have hA:allI l.length (kW l)=true:=cR fun j hj=>hR j (by omega)
  refine cx ?_
  simp only[gU,hA];grind
def af_:=bE (α:=List ck) (q1 (qL .dJ)) [.ro] (fun _=>[]) (fun l=>⟨[dO (gU l)],[],[]⟩)
def HL(l:List ck):Int×Unit->Prop:=fun(i,_)=>0<=i/\i<=l.length/\∀j:Nat,(j:Int)<i->kW l j=true
def zB(l:List ck):Int×Unit->Nat:=fun(i,_)=>l.length-i.toNat
def HK(l:List ck):Int×Int×Unit->Int×Int×Unit->Prop:=fun(i0,k0,_) (i,k,_)=>i=i0/\0<=k/\k<=i/\∀j:Nat,(j:Int)<k->decide ((l.getD j cK).F=(l.getD i.toNat cK).F)=false
def Hi(l:List ck):Int×Int×Unit->Nat:=fun(i,k,_)=>i.toNat-k.toNat
def asy:AX af_:=fun l=>bq [(2,az [iI 3] (fun _=>HL l) (zB l)),(7,az [iI 3,iI 4] (HK l) (Hi l))]
def ary:HH:=hF af_ func35 [aqK,ahH] asy fun(l:List ck) hp hb=>by
 have nV:L9 l.length:=eD (hb _ m0)
 clear hp hb
 apply vE (let x0:=(l.length:Int);HL l (0,())/\∀(y:Int×PUnit),let q0:=(y.1,0,());HL l y->bif decide (y.1<x0) then 0<=y.1/\y.1.toNat<l.length/\bif !kV (l.getD y.1.toNat cK) then Lb false (gU l) else HK l q0 q0/\∀(av:Int×Int×PUnit),let x1:=av.2.1.toNat;let q1:=(av.1,wrap i64 (av.2.1+1),());let q2:=(wrap i64 (av.1+1),());HK l q0 av->bif decide (av.2.1<av.1) then 0<=av.1/\av.1.toNat<l.length/\0<=av.2.1/\x1<l.length/\bif decide ((l.getD av.1.toNat cK).F=(l.getD x1 cK).F) then Lb false (gU l) else HK l q0 q1/\Hi l q1<Hi l av else HL l q2/\zB l q2<zB l y else Lb (decide (x0<=30)) (gU l))
 dsimp only
 refine⟨⟨by omega,by omega,by intro j hj;omega⟩,?_⟩
 rintro⟨i,⟨⟩⟩ ⟨h1,h2,hR⟩
 simp only
 refine ae ?_ ?_<;>intro hc
 ·have hc:=yT hc
  have hN:kW l i.toNat=false->gU l=false:=fun h=>by
   have hf:allI l.length (kW l)=false:=cE (j:=i.toNat) (by omega) h
   simp only[gU,hf];simp
  have hm:zB l (i+1,PUnit.unit)<zB l (i,()):=by simp only[zB];omega
  refine⟨by omega,by omega,ae (fun h=>aQ (hN ?_)) (fun h=>⟨⟨rfl,by omega,by omega,by intro j hj;omega⟩,?_⟩)⟩
  ·simp only[kW];grind
  rintro⟨i,k,⟨⟩⟩ ⟨rfl,g1,g2,gR⟩
  simp only
  refine ae ?_ ?_<;>intro hk
  ·have hk:=yT hk
   simp(disch:=omega) only[wrap_i64]
   refine⟨by omega,by omega,by omega,by omega,ae (fun zU=>aQ (hN ?_)) (fun zU=>⟨⟨rfl,by omega,by omega,kI g1 gR ?_⟩,by simp only[Hi];omega⟩)⟩
   ·have ha:(anyI i.toNat fun k=>decide ((l.getD k cK).F=(l.getD i.toNat cK).F))=true:=jV (j:=k.toNat) (by omega) (by grind)
    simp only[kW,ha];simp
   ·grind
  ·have hk:=yF hk
   simp(disch:=omega) only[wrap_i64]
   refine⟨⟨by omega,by omega,cu h1 hR ?_⟩,hm⟩
   have ha:(anyI i.toNat fun k=>decide ((l.getD k cK).F=(l.getD i.toNat cK).F))=false:=hZ fun j hj=>gR j (by omega)
   simp only[kW,ha];grind
 ·have hc:=yF hc
  have hA:allI l.length (kW l)=true:=cR fun j hj=>hR j (by omega)
  refine cx ?_
  simp only[gU,hA];grind
def kZ(b:Int):Bool:=decide (65<=b/\b<=90)
def yP(b:Int):Bool:=jZ b||kZ b
def lp(s:BA):Bool:=decide (1<=s.size/\s.size<=12)&&kZ ((bs s).getD 0 0).toNat&&(bs s).all (jo yP)
def j9(a:dn):Bool:=bif decide (a.K=1) then lp a.S&&decide (a.V=fL) else bif decide (a.K=2) then iE a.V&&decide (a.S=a_) else bif decide (a.K=3) then decide (a.S=a_)&&decide (a.V=fL) else false
def gQ(a:dn):Bool:=j9 a&& !decide (a.K=3)
def kr(p:bc):Bool:=cy p.Kind&&decide (p.aA.length<=5)&&p.aA.all j9
def jK(c:dj):Bool:=decide (1<=c.Op/\c.Op<=3)&&gQ c.L&&gQ c.R
def QN:BA:=⟨#[43]⟩
def La:BA:=⟨#[45]⟩
def iU(e:dM):Bool:=bif decide (e.Op=a_) then gQ e.L&&decide (e.R=gi) else bif decide (e.Op=QN)||decide (e.Op=La) then gQ e.L&&gQ e.R else false
def fJ(l:List dM):Bool:=decide (l.length<=5)&&l.all iU
def JH(a:en):Bool:=decide (a.Name=a_)&&decide (a.aA.length=0)&&decide (a.jt=a_)
def ed(a:en):Bool:=
 bif decide (a.Kind=1) then cy a.Name&&fJ a.aA&&decide (a.N=0)&&decide (a.jt=a_)
 else bif decide (a.Kind=2) then JH a&&decide (0<=a.N/\a.N<=7)
 else bif decide (a.Kind=3) then cy a.Name&&fJ a.aA&&decide (a.N=0)&&kU a.jt
 else bif decide (a.Kind=4) then cy a.Name&&fJ a.aA&&decide (0<=a.N/\a.N<=100000)&&decide (a.jt=a_)
 else bif decide (a.Kind=5)||decide (a.Kind=6) then JH a&&decide (a.N=0) else false
theorem JK(a b:dn):(a.K==b.K&&(a.S.toList==b.S.toList&&(a.V.K==b.V.K&&(a.V.N==b.V.N&&(a.V.S.toList==b.V.S.toList&&true))&&true)))=decide (a=b):=by
 obtain⟨K,S,K2,N2,S2⟩:=a
 obtain⟨K',S',K2',N2',S2'⟩:=b
 simp only[bZ,N5]
 rw[HT]
 simp only[fY,beq_iff_eq,decide_eq_true_eq,dn.mk.injEq,cV.mk.injEq]
def age:=bE (α:=Int) (q1 qY) [.ro] (fun _=>[]) (fun b=>⟨[dO (kZ b)],[],[]⟩)
def ahN:HH:=hF age func306 [] a0 fun(b:Int) hp hb=>by
 skip
 clear hp hb
 apply vE (bif decide (b≥65) then Lb (decide (b<=90)) (kZ b) else Lb false (kZ b))
 refine ae (fun h=>cx ?_) (fun h=>cx ?_)<;>grind [kZ]
def agh:=bE (α:=Int) (q1 qY) [.ro] (fun c=>[0<=c/\c<=255]) (fun c=>⟨[dO (kZ c)],[],[]⟩)
def ahQ:HH:=hF agh func303 [tU] a0 fun(c:Int) hp hb=>by
 have bP:0<=c/\c<=255:=hp _ m0
 clear hp hb
 apply vE (Lb (decide (65<=wrap i64 c/\wrap i64 c<=90)) (kZ c))
 rw[wi]
 exact cx rfl
def Wj:=bE (α:=BA) (q1 qS) [.ro] (fun _=>[]) (fun s=>⟨[dO (lp s)],[],[]⟩)
def BN(s:BA):Int×Unit->Prop:=fun(i,_)=>0<=i/\i<=s.size/\((bs s).drop i.toNat).all (jo yP)=(bs s).all (jo yP)/\(0<i->kZ ((bs s).getD 0 0).toNat=true)
def uQ(s:BA):Int×Unit->Nat:=fun(i,_)=>s.size-i.toNat
def aj_:AX Wj:=fun s=>bq [(2,az [iI 3] (fun _=>BN s) (uQ s))]
def ahW:HH:=hF Wj func291 [ahQ,Q_,tU] aj_ fun(s:BA) hp hb=>by
 have PY:=RQ (s:=s) (hb _ m0)
 clear hp hb
 apply vE (let q0:=(↑(s.size):Int);BN s (0,())/\∀(y:Int×PUnit),let x0:=(↑(UInt8.toNat (s.data.toList.getD y.1.toNat (0:UInt8))):Int);let q1:=(wrap i64 (y.1+1),());let q2:=BN s q1/\uQ s q1<uQ s y;let q3:=(0:Int)<=x0/\x0<=255;BN s y->bif decide (y.1<q0) then 0<=y.1/\y.1.toNat<s.size/\q3/\bif !kZ x0 then bif y.1==0 then Lb false (lp s) else 0<=y.1/\y.1.toNat<s.size/\q3/\bif !jZ x0 then Lb false (lp s) else q2 else q2 else Lb (decide (1<=q0/\q0<=12)) (lp s))
 dsimp only
 refine⟨⟨by omega,by omega,rfl,by omega⟩,?_⟩
 rintro⟨i,⟨⟩⟩ ⟨h1,h2,hR,hS⟩
 have hl:=zt s
 simp only[FD]
 refine ae ?_ ?_<;>intro hc
 ·have hc:=yT hc
  have hb:=((bs s).getD i.toNat 0).toNat_lt
  rw[eu _ _ 0 h1 (by omega)] at hR
  rw[wi]
  have hN:(bs s).all (jo yP)=false->lp s=false:=fun h=>by simp[lp,h]
  have hm:uQ s (i+1,PUnit.unit)<uQ s (i,()):=by simp only[uQ];omega
  refine⟨by omega,by omega,⟨by omega,by omega⟩,ae (fun h=>ae (fun h'=>aQ ?_) (fun h'=>⟨by omega,by omega,⟨by omega,by omega⟩,ae (fun zU=>aQ (hN ?_)) (fun zU=>⟨⟨by omega,by omega,?_,fun _=>hS ?_⟩,hm⟩)⟩)) (fun h=>⟨⟨by omega,by omega,?_,fun _=> ?_⟩,hm⟩)⟩
  ·have h':i=0:=by simpa using h'
   subst h'
   have h:kZ (((bs s).getD 0 0).toNat:Int)=false:=by simpa using h
   simp only[lp,h];simp
  ·rw[<-hR];simp only[jo,yP];simp at h zU;simp[h,zU]
  ·rw[<-hR];simp only[jo,yP];simp at h zU;simp[h,zU]
  ·have h':¬i=0:=by simpa using h'
   omega
  ·rw[<-hR];simp only[jo,yP];simp at h;simp[h]
  ·by_cases hz:i=0
   ·subst hz;simpa using h
   ·exact hS (by omega)
 ·have hc:=yF hc
  rw[bU _ (by omega)] at hR
  refine cx ?_
  simp only[lp,<-hR]
  by_cases hz:0<i
  ·rw[hS hz];simp only[X0];grind
  ·rw[decide_eq_false (by omega),decide_eq_false (by omega)];rfl
def Wh:=bE (α:=BA) (q1 qS) [.ro] (fun _=>[]) (fun s=>⟨[dO (lp s)],[],[]⟩)
def BM(s:BA):Int×Unit->Prop:=fun(i,_)=>0<=i/\i<=s.size/\1<=s.size/\s.size<=12/\kZ ((bs s).getD 0 0).toNat=true/\((bs s).drop i.toNat).all (jo yP)=(bs s).all (jo yP)
def uP(s:BA):Int×Unit->Nat:=fun(i,_)=>s.size-i.toNat
def aj9:AX Wh:=fun s=>bq [(4,az [iI 3] (fun _=>BM s) (uP s))]
def ahT:HH:=hF Wh func295 [ahN,XM] aj9 fun(s:BA) hp hb=>by
 clear hp hb
 apply vE (let q0:=Lb false (lp s);let q1:=(↑(s.size):Int);bif decide (q1<1) then q0 else bif decide (q1>12) then q0 else(0:Int)<=(0:Int)/\Int.toNat 0<s.size/\bif !kZ (↑(UInt8.toNat (s.data.toList.getD (Int.toNat 0) (0:UInt8))):Int) then q0 else BM s (0,())/\∀(y:Int×PUnit),let x0:=(↑(UInt8.toNat (s.data.toList.getD y.1.toNat (0:UInt8))):Int);let q2:=(wrap i64 (y.1+1),());let q3:=BM s q2/\uP s q2<uP s y;BM s y->bif decide (y.1<q1) then 0<=y.1/\y.1.toNat<s.size/\bif !jZ x0 then 0<=y.1/\y.1.toNat<s.size/\bif !kZ x0 then q0 else q3 else q3 else Lb true (lp s))
 dsimp only
 have hl:=zt s
 simp only[FD]
 refine ae (fun h=>aQ ?_) (fun h=>ae (fun h'=>aQ ?_) (fun h'=> ?_))
 ·have h:=yT h;simp only[lp];rw[decide_eq_false (by omega)];rfl
 ·have h':=yT h';simp only[lp];rw[decide_eq_false (by omega)];rfl
 have h:=yF h
 have h':=yF h'
 refine⟨by omega,by omega,ae (fun g=>aQ ?_) (fun g=>⟨⟨by omega,by omega,by omega,by omega,by simpa using g,rfl⟩,?_⟩)⟩
 ·have g:kZ (((bs s).getD 0 0).toNat:Int)=false:=by simpa using g
  simp only[lp,g];simp
 rintro⟨i,⟨⟩⟩ ⟨h1,h2,h3,h4,hS,hR⟩
 simp only
 refine ae ?_ ?_<;>intro hc
 ·have hc:=yT hc
  rw[eu _ _ 0 h1 (by omega)] at hR
  rw[wi]
  have hN:(bs s).all (jo yP)=false->lp s=false:=fun h=>by simp[lp,h]
  have hm:uP s (i+1,PUnit.unit)<uP s (i,()):=by simp only[uP];omega
  refine⟨by omega,by omega,ae (fun h=>⟨by omega,by omega,ae (fun zU=>aQ (hN ?_)) (fun zU=>⟨⟨by omega,by omega,h3,h4,hS,?_⟩,hm⟩)⟩) (fun h=>⟨⟨by omega,by omega,h3,h4,hS,?_⟩,hm⟩)⟩
  ·rw[<-hR];simp only[jo,yP];simp at h zU;simp[h,zU]
  ·rw[<-hR];simp only[jo,yP];simp at h zU;simp[h,zU]
  ·rw[<-hR];simp only[jo,yP];simp at h;simp[h]
 ·have hc:=yF hc
  rw[bU _ (by omega)] at hR
  refine jN ?_
  simp only[lp,<-hR,hS,decide_eq_true (show 1<=s.size/\s.size<=12 from⟨h3,h4⟩)];rfl
def agw:=bE (α:=dn) (q1 (qA .ig)) [.ro] (fun _=>[]) (fun a=>⟨[dO (j9 a)],[],[]⟩)
def QZ:HH:=hF agw func263 [ahW,Q9] a0 fun(a:dn) hp hb=>by
 clear hp hb
 apply vE (let x0:=a.S.toList==ByteArray.toList {data:= #[]:BA};let q0:=Lb (a.V.K==0&&(a.V.N==0&&(a.V.S.toList==ByteArray.toList {data:= #[]:BA}&&true))) (j9 a);let q1:=Lb false (j9 a);bif a.K==1 then bif lp a.S then q0 else q1 else bif a.K==2 then bif iE a.V then Lb x0 (j9 a) else q1 else bif a.K==3 then bif x0 then q0 else q1 else q1)
 dsimp only
 have ev:∀v:cV,(v.K==0&&(v.N==0&&(v.S.toList==ByteArray.toList {data:= #[]}&&true)))=decide (v=fL):=fun v=>oq v fL
 have e:∀s:BA,(s.toList==ByteArray.toList {data:= #[]})=decide (s=a_):=fun s=>bZ _ _
 simp only[ev,e,j9]
 repeat' (refine ae (fun h=> ?_) (fun h=> ?_))
 all_goals (refine cx ?_;grind)
def ags:=bE (α:=dn) (q1 (qA .ig)) [.ro] (fun _=>[]) (fun a=>⟨[dO (j9 a)],[],[]⟩)
def XH:HH:=hF ags func270 [ahT,Q7] a0 fun(a:dn) hp hb=>by
 clear hp hb
 apply vE (let x0:=a.S.toList==ByteArray.toList {data:= #[]:BA};let q0:=Lb (a.V.K==0&&(a.V.N==0&&(a.V.S.toList==ByteArray.toList {data:= #[]:BA}&&true))) (j9 a);let q1:=Lb false (j9 a);bif a.K==1 then bif lp a.S then q0 else q1 else bif a.K==2 then bif x0 then Lb (iE a.V) (j9 a) else q1 else bif a.K==3 then bif x0 then q0 else q1 else q1)
 dsimp only
 have ev:∀v:cV,(v.K==0&&(v.N==0&&(v.S.toList==ByteArray.toList {data:= #[]}&&true)))=decide (v=fL):=fun v=>oq v fL
 have e:∀s:BA,(s.toList==ByteArray.toList {data:= #[]})=decide (s=a_):=fun s=>bZ _ _
 simp only[ev,e,j9]
 repeat' (refine ae (fun h=> ?_) (fun h=> ?_))
 all_goals (refine cx ?_;grind)
def WL:=bE (α:=bc) (q1 (qA .cq)) [.ro] (fun _=>[]) (fun p=>⟨[dO (kr p)],[],[]⟩)
def B6(p:bc):Int×Oj×Unit->Prop:=fun(i,b,_)=>b=(p.Kind,p.aA,p.Not,())/\0<=i/\i<=p.aA.length/\(p.aA.drop i.toNat).all j9=p.aA.all j9
def A_(p:bc):Int×Oj×Unit->Nat:=fun(i,b,_)=>p.aA.length-i.toNat
def akE:AX WL:=fun p=>bq [(2,az [iI 3,.box 1 (1,1024) [.lit .str,.shr .ig,.lit .bool]] (fun _=>B6 p) (A_ p))]
def aiD:HH:=hF WL func223 [QZ,N1] akE fun(p:bc) hp hb=>by
 have aG:=nC (x:=p) (hb _ m0)
 have ng:=aG.1
 have ni:=aG.2
 clear hp hb
 apply vE (B6 p (0,(p.Kind,p.aA,p.Not,()),())/\∀(y:Int×T17×PUnit),let x1:=y.2.1.2.1.length;let x0:=(↑x1:Int);let q0:=(wrap i64 (y.1+1),y.2);B6 p y->bif decide (y.1<x0) then 0<=y.1/\y.1.toNat<x1/\bif !j9 (y.2.1.2.1.getD y.1.toNat gi) then Lb false (kr p) else B6 p q0/\A_ p q0<A_ p y else bif cy y.2.1.1 then Lb (decide (x0<=5)) (kr p) else Lb false (kr p))
 dsimp only
 refine⟨⟨rfl,by omega,by omega,rfl⟩,?_⟩
 rintro⟨i,⟨bk,ba,bn,⟨⟩⟩,⟨⟩⟩ ⟨s6,h1,h2,hR⟩
 cases s6
 simp only
 refine ae ?_ ?_<;>intro hc
 ·have hc:=yT hc
  rw[eu _ _ gi h1 (by omega)] at hR
  rw[wi]
  refine⟨by omega,by omega,ae (fun h=>aQ ?_) (fun h=>⟨⟨rfl,by omega,by omega,?_⟩,?_⟩)⟩
  ·simp only[kr,<-hR];simp at h;simp[h]
  ·rw[<-hR];simp at h;simp[h]
  ·simp only[A_];omega
 ·have hc:=yF hc
  rw[bU _ (by omega)] at hR
  simp only[kr,<-hR,X0]
  repeat' (refine ae (fun h=> ?_) (fun h=> ?_))
  all_goals (refine cx ?_;grind)
def WD:=bE (α:=bc) (q1 (qA .cq)) [.ro] (fun _=>[]) (fun p=>⟨[dO (kr p)],[],[]⟩)
def BX(p:bc):Int×Unit->Prop:=fun(i,_)=>0<=i/\i<=p.aA.length/\p.aA.length<=5/\cy p.Kind=true/\(p.aA.drop i.toNat).all j9=p.aA.all j9
def A6(p:bc):Int×Unit->Nat:=fun(i,_)=>p.aA.length-i.toNat
def akx:AX WD:=fun p=>bq [(4,az [iI 18] (fun _=>BX p) (A6 p))]
def air:HH:=hF WD func238 [XH,FO] akx fun(p:bc) hp hb=>by
 clear hp hb
 apply vE (let x0:=(p.aA.length:Int);let q0:=Lb false (kr p);bif !cy p.Kind then q0 else bif decide (x0>5) then q0 else BX p (0,())/\∀(y:Int×PUnit),let q1:=(wrap i64 (y.1+1),());BX p y->bif decide (y.1<x0) then 0<=y.1/\y.1.toNat<p.aA.length/\bif !j9 (p.aA.getD y.1.toNat gi) then q0 else BX p q1/\A6 p q1<A6 p y else Lb true (kr p))
 dsimp only
 refine ae (fun h=>aQ ?_) (fun h=>ae (fun h'=>aQ ?_) (fun h'=> ?_))
 ·simp only[kr];simp at h;simp[h]
 ·have h':=yT h';simp only[kr];rw[decide_eq_false (show¬p.aA.length<=5 by omega)];simp
 have h':=yF h'
 refine⟨⟨by omega,by omega,by omega,by simpa using h,rfl⟩,?_⟩
 rintro⟨i,⟨⟩⟩ ⟨h1,h2,h3,h4,hR⟩
 simp only
 refine ae ?_ ?_<;>intro hc
 ·have hc:=yT hc
  rw[eu _ _ gi h1 (by omega)] at hR
  rw[wi]
  refine⟨by omega,by omega,ae (fun h=>aQ ?_) (fun h=>⟨⟨by omega,by omega,h3,h4,?_⟩,?_⟩)⟩
  ·simp only[kr,<-hR];simp at h;simp[h]
  ·rw[<-hR];simp at h;simp[h]
  ·simp only[A6];omega
 ·have hc:=yF hc
  rw[bU _ (by omega)] at hR
  refine jN ?_
  simp only[kr,<-hR,h4,decide_eq_true h3];rfl
def agC:=bE (α:=dn) (q1 (qA .ig)) [.ro] (fun _=>[]) (fun a=>⟨[dO (gQ a)],[],[]⟩)
def XL:HH:=hF agC func239 [XH] a0 fun(a:dn) hp hb=>by
 clear hp hb
 apply vE (bif a.K !=3 then Lb (j9 a) (gQ a) else Lb false (gQ a))
 simp only[gQ]
 repeat' (refine ae (fun h=> ?_) (fun h=> ?_))
 all_goals (refine cx ?_;grind)
def agf:=bE (α:=dn) (q1 (qA .ig)) [.ro] (fun _=>[]) (fun a=>⟨[dO (gQ a)],[],[]⟩)
def ahP:HH:=hF agf func304 [QZ] a0 fun(a:dn) hp hb=>by
 clear hp hb
 apply vE (bif j9 a then Lb (a.K !=3) (gQ a) else Lb false (gQ a))
 simp only[gQ]
 repeat' (refine ae (fun h=> ?_) (fun h=> ?_))
 all_goals (refine cx ?_;grind)
def agK:=bE (α:=dj) (q1 (qA .cQ)) [.ro] (fun _=>[]) (fun c=>⟨[dO (jK c)],[],[]⟩)
def aiC:HH:=hF agK func224 [tU,QZ] a0 fun(c:dj) hp hb=>by
 clear hp hb
 apply vE (let q0:=Lb false (jK c);bif decide (1<=c.Op/\c.Op<=3) then bif j9 c.L then bif j9 c.R then bif c.L.K !=3 then Lb (c.R.K !=3) (jK c) else q0 else q0 else q0 else q0)
 dsimp only
 simp only[jK,gQ]
 repeat' (refine ae (fun h=> ?_) (fun h=> ?_))
 all_goals (refine cx ?_;grind)
def ag1:=bE (α:=dj) (q1 (qA .cQ)) [.ro] (fun _=>[]) (fun c=>⟨[dO (jK c)],[],[]⟩)
def ai6:HH:=hF ag1 func182 [Ec,XL] a0 fun(c:dj) hp hb=>by
 clear hp hb
 apply vE (bif decide (1<=c.Op/\c.Op<=3) then bif gQ c.L then Lb (gQ c.R) (jK c) else Lb false (jK c) else Lb false (jK c))
 simp only[jK]
 repeat' (refine ae (fun h=> ?_) (fun h=> ?_))
 all_goals (refine cx ?_;grind)
def agl:=bE (α:=dM) (q1 (qA .ga)) [.ro] (fun _=>[]) (fun e=>⟨[dO (iU e)],[],[]⟩)
def ahV:HH:=hF agl func292 [ahP] a0 fun(e:dM) hp hb=>by
 clear hp hb
 apply vE (let x0:=e.Op.toList==ByteArray.toList {data:= #[43]:BA};let q0:=bif gQ e.L then Lb (gQ e.R) (iU e) else Lb false (iU e);let q1:=Lb false (iU e);bif e.Op.toList==ByteArray.toList {data:= #[]:BA} then bif gQ e.L then Lb (e.R.K==0&&(e.R.S.toList==ByteArray.toList {data:= #[]:BA}&&(e.R.V.K==0&&(e.R.V.N==0&&(e.R.V.S.toList==ByteArray.toList {data:= #[]:BA}&&true))&&true))) (iU e) else q1 else bif x0 then bif x0 then q0 else q1 else bif e.Op.toList==ByteArray.toList {data:= #[45]:BA} then q0 else q1)
 dsimp only
 have e:∀s:BA,(s.toList==ByteArray.toList {data:= #[]})=decide (s=a_):=fun s=>bZ _ _
 have ea:∀a:dn,(a.K==0&&(a.S.toList==ByteArray.toList {data:= #[]}&&(a.V.K==0&&(a.V.N==0&&(a.V.S.toList==ByteArray.toList {data:= #[]}&&true))&&true)))=decide (a=gi):=fun a=>JK a gi
 have e1:∀s:BA,(s.toList==ByteArray.toList {data:= #[43]})=decide (s=QN):=fun s=>bZ _ _
 have e2:∀s:BA,(s.toList==ByteArray.toList {data:= #[45]})=decide (s=La):=fun s=>bZ _ _
 simp only[ea]
 simp only[e,e1,e2,iU]
 repeat' (refine ae (fun h=> ?_) (fun h=> ?_))
 all_goals (refine cx ?_;grind)
def agr:=bE (α:=dM) (q1 (qA .ga)) [.ro] (fun _=>[]) (fun e=>⟨[dO (iU e)],[],[]⟩)
def ah6:HH:=hF agr func271 [XL] a0 fun(e:dM) hp hb=>by
 clear hp hb
 apply vE (let x0:=e.Op.toList==ByteArray.toList {data:= #[43]:BA};let q0:=bif gQ e.L then Lb (gQ e.R) (iU e) else Lb false (iU e);let q1:=Lb false (iU e);bif e.Op.toList==ByteArray.toList {data:= #[]:BA} then bif gQ e.L then Lb (e.R.K==0&&(e.R.S.toList==ByteArray.toList {data:= #[]:BA}&&(e.R.V.K==0&&(e.R.V.N==0&&(e.R.V.S.toList==ByteArray.toList {data:= #[]:BA}&&true))&&true))) (iU e) else q1 else bif x0 then bif x0 then q0 else q1 else bif e.Op.toList==ByteArray.toList {data:= #[45]:BA} then q0 else q1)
 dsimp only
 have e:∀s:BA,(s.toList==ByteArray.toList {data:= #[]})=decide (s=a_):=fun s=>bZ _ _
 have ea:∀a:dn,(a.K==0&&(a.S.toList==ByteArray.toList {data:= #[]}&&(a.V.K==0&&(a.V.N==0&&(a.V.S.toList==ByteArray.toList {data:= #[]}&&true))&&true)))=decide (a=gi):=fun a=>JK a gi
 have e1:∀s:BA,(s.toList==ByteArray.toList {data:= #[43]})=decide (s=QN):=fun s=>bZ _ _
 have e2:∀s:BA,(s.toList==ByteArray.toList {data:= #[45]})=decide (s=La):=fun s=>bZ _ _
 simp only[ea]
 simp only[e,e1,e2,iU]
 repeat' (refine ae (fun h=> ?_) (fun h=> ?_))
 all_goals (refine cx ?_;grind)
def Wq:=bE (α:=List dM) (q1 (qL .ga)) [.ro] (fun _=>[]) (fun es=>⟨[dO (fJ es)],[],[]⟩)
def BQ(es:List dM):Int×Unit->Prop:=fun(i,_)=>0<=i/\i<=es.length/\(es.drop i.toNat).all iU=es.all iU
def AW(es:List dM):Int×Unit->Nat:=fun(i,_)=>es.length-i.toNat
def akh:AX Wq:=fun es=>bq [(2,az [iI 3] (fun _=>BQ es) (AW es))]
def ah':HH:=hF Wq func264 [ahV] akh fun(es:List dM) hp hb=>by
 have asO:L9 es.length:=eD (hb _ m0)
 clear hp hb
 apply vE (let x0:=(es.length:Int);BQ es (0,())/\∀(y:Int×PUnit),let q0:=(wrap i64 (y.1+1),());BQ es y->bif decide (y.1<x0) then 0<=y.1/\y.1.toNat<es.length/\bif !iU (es.getD y.1.toNat mQ) then Lb false (fJ es) else BQ es q0/\AW es q0<AW es y else Lb (decide (x0<=5)) (fJ es))
 dsimp only
 refine⟨⟨by omega,by omega,rfl⟩,?_⟩
 rintro⟨i,⟨⟩⟩ ⟨h1,h2,hR⟩
 simp only
 refine ae ?_ ?_<;>intro hc
 ·have hc:=yT hc
  rw[eu _ _ mQ h1 (by omega)] at hR
  rw[wi]
  refine⟨by omega,by omega,ae (fun h=>aQ ?_) (fun h=>⟨⟨by omega,by omega,?_⟩,?_⟩)⟩
  ·simp only[fJ,<-hR];simp at h;simp[h]
  ·rw[<-hR];simp at h;simp[h]
  ·simp only[AW];omega
 ·have hc:=yF hc
  rw[bU _ (by omega)] at hR
  refine cx ?_
  simp only[fJ,<-hR];simp;omega
def WC:=bE (α:=en) (q1 (qA .eT)) [.ro] (fun _=>[]) (fun a=>⟨[dO (cy a.Name&&fJ a.aA)],[],[]⟩)
def BW(a:en):Int×Unit->Prop:=fun(i,_)=>0<=i/\i<=a.aA.length/\a.aA.length<=5/\cy a.Name=true/\(a.aA.drop i.toNat).all iU=a.aA.all iU
def A5(a:en):Int×Unit->Nat:=fun(i,_)=>a.aA.length-i.toNat
def akw:AX WC:=fun a=>bq [(4,az [iI 18] (fun _=>BW a) (A5 a))]
def aiq:HH:=hF WC func240 [ah6,FO] akw fun(a:en) hp hb=>by
 clear hp hb
 apply vE (let x0:=(a.aA.length:Int);let q0:=cy a.Name&&fJ a.aA;bif !cy a.Name then Lb false q0 else bif decide (x0>5) then Lb false q0 else BW a (0,())/\∀(y:Int×PUnit),let q1:=(wrap i64 (y.1+1),());BW a y->bif decide (y.1<x0) then 0<=y.1/\y.1.toNat<a.aA.length/\bif !iU (a.aA.getD y.1.toNat mQ) then Lb false q0 else BW a q1/\A5 a q1<A5 a y else Lb true q0)
 dsimp only
 refine ae (fun h=>aQ ?_) (fun h=>ae (fun h'=>aQ ?_) (fun h'=> ?_))
 ·simp at h;simp[h]
 ·have h':=yT h';simp only[fJ];rw[decide_eq_false (show¬a.aA.length<=5 by omega)];simp
 have h':=yF h'
 refine⟨⟨by omega,by omega,by omega,by simpa using h,rfl⟩,?_⟩
 rintro⟨i,⟨⟩⟩ ⟨h1,h2,h3,h4,hR⟩
 simp only
 refine ae ?_ ?_<;>intro hc
 ·have hc:=yT hc
  rw[eu _ _ mQ h1 (by omega)] at hR
  rw[wi]
  refine⟨by omega,by omega,ae (fun h=>aQ ?_) (fun h=>⟨⟨by omega,by omega,h3,h4,?_⟩,?_⟩)⟩
  ·simp only[fJ,<-hR];simp at h;simp[h]
  ·rw[<-hR];simp at h;simp[h]
  ·simp only[A5];omega
 ·have hc:=yF hc
  rw[bU _ (by omega)] at hR
  refine jN ?_
  simp only[fJ,<-hR,h4,decide_eq_true h3];rfl
def agI:=bE (α:=en) (q1 (qA .eT)) [.ro] (fun _=>[]) (fun a=>⟨[dO (ed a)],[],[]⟩)
def aiB:HH:=hF agI func226 [tU,N1,ah'] a0 fun(a:en) hp hb=>by
 clear hp hb
 apply vE (let x0:=a.jt.toList==ByteArray.toList {data:= #[]:BA};let x1:=a.Kind==5;let x2:=a.N==0;let q0:=bif a.Kind==1 then bif cy a.Name then bif fJ a.aA then bif x2 then Lb x0 (ed a) else Lb false (ed a) else Lb false (ed a) else Lb false (ed a) else bif a.Kind==3 then bif cy a.Name then bif fJ a.aA then bif x2 then bif x0 then Lb true (ed a) else Lb (cy a.jt) (ed a) else Lb false (ed a) else Lb false (ed a) else Lb false (ed a) else bif a.Kind==4 then bif cy a.Name then bif fJ a.aA then bif decide (0<=a.N/\a.N<=100000) then Lb x0 (ed a) else Lb false (ed a) else Lb false (ed a) else Lb false (ed a) else bif a.Kind==2 then Lb false (ed a) else bif x1 then bif x1 then Lb false (ed a) else Lb false (ed a) else bif a.Kind==6 then Lb false (ed a) else Lb false (ed a);let q1:=Lb false (ed a);let q2:=bif x0 then Lb x2 (ed a) else q1;bif a.Name.toList==ByteArray.toList {data:= #[]:BA} then bif (a.aA.length:Int)==0 then bif a.Kind==1 then bif cy a.Name then bif fJ a.aA then bif x2 then Lb x0 (ed a) else q1 else q1 else q1 else bif a.Kind==3 then bif cy a.Name then bif fJ a.aA then bif x2 then bif x0 then Lb true (ed a) else Lb (cy a.jt) (ed a) else q1 else q1 else q1 else bif a.Kind==4 then bif cy a.Name then bif fJ a.aA then bif decide (0<=a.N/\a.N<=100000) then Lb x0 (ed a) else q1 else q1 else q1 else bif a.Kind==2 then bif x0 then Lb (decide (0<=a.N/\a.N<=7)) (ed a) else q1 else bif x1 then bif x1 then q2 else q1 else bif a.Kind==6 then q2 else q1 else q0 else q0)
 dsimp only
 have e:∀s:BA,(s.toList==ByteArray.toList {data:= #[]})=decide (s=a_):=fun s=>bZ _ _
 simp only[e,ed,JH,kU]
 repeat' (refine ae (fun h=> ?_) (fun h=> ?_))
 all_goals (refine cx ?_;grind)
def ag0:=bE (α:=en) (q1 (qA .eT)) [.ro] (fun _=>[]) (fun a=>⟨[dO (ed a)],[],[]⟩)
def ai5:HH:=hF ag0 func183 [Ec,aiq,XO] a0 fun(a:en) hp hb=>by
 clear hp hb
 apply vE (let x0:=a.Kind==5;let x1:=cy a.Name&&fJ a.aA;let q0:=Lb (a.jt.toList==ByteArray.toList {data:= #[]:BA}) (ed a);let q1:=Lb false (ed a);let q2:=bif a.N==0 then q0 else q1;let q3:=bif x1 then bif decide (0<=a.N/\a.N<=100000) then q0 else q1 else q1;let q4:=bif x1 then bif a.N==0 then Lb (kU a.jt) (ed a) else q1 else q1;let q5:=bif (a.aA.length:Int)==0 then q2 else q1;bif a.Name.toList==ByteArray.toList {data:= #[]:BA} then bif a.Kind==1 then bif x1 then q2 else q1 else bif a.Kind==2 then bif (a.aA.length:Int)==0 then bif decide (0<=a.N/\a.N<=7) then q0 else q1 else q1 else bif a.Kind==3 then q4 else bif a.Kind==4 then q3 else bif x0 then bif x0 then q5 else q1 else bif a.Kind==6 then q5 else q1 else bif a.Kind==1 then bif x1 then q2 else q1 else bif a.Kind==2 then q1 else bif a.Kind==3 then q4 else bif a.Kind==4 then q3 else bif x0 then bif x0 then q1 else q1 else bif a.Kind==6 then q1 else q1)
 dsimp only
 have e:∀s:BA,(s.toList==ByteArray.toList {data:= #[]})=decide (s=a_):=fun s=>bZ _ _
 simp only[e,ed,JH,kU]
 repeat' (refine ae (fun h=> ?_) (fun h=> ?_))
 all_goals (refine cx ?_;grind)
def mJ(l:List BA)(s:BA):Bool:=l.any fun t=>decide (t=s)
theorem qU{l:List BA}{s:BA}:mJ l s=true↔s∈l:=by
 simp only[mJ,tW,decide_eq_true_eq]
 exact⟨fun⟨t,h1,h2⟩=>h2▸h1,fun h=>⟨s,h,rfl⟩⟩
def eN(l:List BA)(s:BA):List BA:=if mJ l s then l else l++[s]
def my(l:List BA)(a:dn):List BA:=if a.K=1 then eN l a.S else l
def du(l:List BA)(xs:List dn):List BA:=xs.foldl my l
theorem Ac{l:List BA}{s t:BA}:t∈eN l s↔t∈l\/t=s:=by
 unfold eN;split
 ·rename_i h
  exact⟨.inl,fun h'=>h'.elim id (fun e=>e▸qU.1 h)⟩
 ·simp
theorem Ad(l:List BA)(s:BA):(eN l s).length<=l.length+1:=by
 unfold eN;split
 ·omega
 ·simp
theorem Lc{l:List BA}{a:dn}{t:BA}:t∈my l a↔t∈l\/(a.K=1/\t=a.S):=by
 unfold my;split
 ·rename_i h;rw[Ac];simp[h]
 ·rename_i h;simp[h]
theorem Ld(l:List BA)(a:dn):(my l a).length<=l.length+1:=by
 unfold my;split
 ·exact Ad _ _
 ·omega
theorem p9{t:BA}:∀{xs:List dn}{l:List BA},t∈du l xs↔t∈l\/∃a∈xs,a.K=1/\t=a.S
 |[],l=>by simp[du]
 |a::xs,l=>by
  show t∈du (my l a) xs↔_
  rw[p9,Lc]
  simp only[h_,exists_eq_or_imp,or_assoc]
theorem iM:∀(xs:List dn)(l:List BA),(du l xs).length<=l.length+xs.length
 |[],l=>og _
 |a::xs,l=>by
  have h1:=iM xs (my l a)
  have h2:=Ld l a
  show(du (my l a) xs).length<=_
  simp only[iD];omega
theorem xC(l:List BA)(xs:List dn){i:Int}(h0:0<=i)(h:i<xs.length):du l (xs.take (i+1).toNat)=my (du l (xs.take i.toNat)) (xs.getD i.toNat gi):=by
 rw[<-lq xs gi h0 h]
 simp only[du,List.foldl_append,List.foldl_cons,List.foldl_nil]
def kg(l:List BA)(p:bc):List BA:=if p.Not then l else du l p.aA
def il(ps:List bc):List BA:=ps.foldl kg []
theorem nr{α β:Type}(f:β->α->β)(b:β)(l:List α)(z:α){i:Int}(h0:0<=i)(h:i<l.length):(l.take (i+1).toNat).foldl f b=f ((l.take i.toNat).foldl f b) (l.getD i.toNat z):=by
 rw[<-lq l z h0 h]
 simp only[List.foldl_append,List.foldl_cons,List.foldl_nil]
def eC(ps:List bc):Nat:=(ps.map fun p=>p.aA.length).sum
def pS(ps:List bc)(t:BA):Prop:=∃p∈ps,p.Not=false/\∃a∈p.aA,a.K=1/\t=a.S
theorem Kr{l:List BA}{p:bc}{t:BA}:t∈kg l p↔t∈l\/(p.Not=false/\∃a∈p.aA,a.K=1/\t=a.S):=by
 unfold kg
 cases h:p.Not
 ·simp only[yN,if_false];rw[p9];simp
 ·simp
theorem wB{t:BA}:∀{ps:List bc}{l:List BA},t∈ps.foldl kg l↔t∈l\/pS ps t
 |[],l=>by simp[pS]
 |p::ps,l=>by
  show t∈ps.foldl kg (kg l p)↔_
  rw[wB,Kr]
  simp only[pS,h_,exists_eq_or_imp,or_assoc]
theorem Iq{ps:List bc}{t:BA}:t∈il ps↔pS ps t:=by
 unfold il;rw[wB];simp
theorem wC:∀(ps:List bc)(l:List BA),(ps.foldl kg l).length<=l.length+eC ps
 |[],l=>og _
 |p::ps,l=>by
  have h1:=wC ps (kg l p)
  have h2:(kg l p).length<=l.length+p.aA.length:=by
   unfold kg;split
   ·omega
   ·exact iM _ _
  show(ps.foldl kg (kg l p)).length<=_
  simp only[eC,rl,N4] at h1⊢;omega
def im(l:List BA)(p:bc):List BA:=if p.Not then l else(du [] p.aA).foldl eN l
def er(ps:List bc):List BA:=ps.foldl im []
theorem wW{t:BA}:∀{xs l:List BA},t∈xs.foldl eN l↔t∈l\/t∈xs
 |[],l=>by simp
 |a::xs,l=>by
  show t∈xs.foldl eN (eN l a)↔_
  rw[wW,Ac,h_,or_assoc]
theorem rL:∀(xs l:List BA),(xs.foldl eN l).length<=l.length+xs.length
 |[],l=>og _
 |a::xs,l=>by
  have h1:=rL xs (eN l a)
  have h2:=Ad l a
  show(xs.foldl eN (eN l a)).length<=_
  simp only[iD];omega
theorem Ir{l:List BA}{p:bc}{t:BA}:t∈im l p↔t∈l\/(p.Not=false/\∃a∈p.aA,a.K=1/\t=a.S):=by
 unfold im
 cases h:p.Not
 ·simp only[yN,if_false];rw[wW,p9];simp
 ·simp
theorem vd{t:BA}:∀{ps:List bc}{l:List BA},t∈ps.foldl im l↔t∈l\/pS ps t
 |[],l=>by simp[pS]
 |p::ps,l=>by
  show t∈ps.foldl im (im l p)↔_
  rw[vd,Ir]
  simp only[pS,h_,exists_eq_or_imp,or_assoc]
theorem Gb{ps:List bc}{t:BA}:t∈er ps↔pS ps t:=by
 unfold er;rw[vd];simp
theorem ve:∀(ps:List bc)(l:List BA),(ps.foldl im l).length<=l.length+eC ps
 |[],l=>og _
 |p::ps,l=>by
  have h1:=ve ps (im l p)
  have h2:(im l p).length<=l.length+p.aA.length:=by
   unfold im;split
   ·omega
   ·have g1:=rL (du [] p.aA) l
    have g2:=iM p.aA []
    simp only[ii] at g2;omega
  show(ps.foldl im (im l p)).length<=_
  simp only[eC,rl,N4] at h1⊢;omega
theorem Gc(ps:List bc)(n:Nat):eC (ps.take n)<=eC ps:=by
 have h:=congrArg (fun q=>(q.map fun p:bc=>p.aA.length).sum) (HS n ps)
 simp only[Em,zet] at h
 simp only[eC];omega
theorem CY(ps:List bc){i:Int}(h0:0<=i)(h:i<ps.length):eC (ps.take i.toNat)+(ps.getD i.toNat dl).aA.length<=eC ps:=by
 have h1:=Gc ps (i+1).toNat
 rw[<-lq ps dl h0 h] at h1
 simp only[eC,Em,zet,rl,List.map_nil,N4,List.sum_nil] at h1⊢
 omega
def eE(ps:List bc):Nat:=(ps.filter fun p=> !p.Not).length
theorem Fh{l:List BA}{s:BA}{i:Int}(h0:0<=i)(hl:i<l.length)(h:∀j:Nat,(j:Int)<i->¬l.getD j a_=s)(hi:¬l.getD i.toNat a_=s):∀j:Nat,(j:Int)<i+1->¬l.getD j a_=s:=by
 intro j hj
 by_cases RN:(j:Int)<i
 ·exact h j RN
 ·have:j=i.toNat:=by omega
  subst this;exact hi
theorem T_{l:List BA}{s:BA}(h:∀j:Nat,j<l.length->¬l.getD j a_=s):mJ l s=false:=by
 rw[<-Al,qU]
 intro hm
 obtain⟨j,hj,rfl⟩:=zG hm
 exact h j hj (by rw[gh,gr hj];rfl)
theorem IY{l:List BA}{s:BA}{j:Nat}(hj:j<l.length)(h:l.getD j a_=s):mJ l s=true:=by
 rw[qU,<-h,gh,gr hj]
 exact N6 hj
theorem EX(ps:List bc){i:Int}(h0:0<=i)(h:i<ps.length):eE (ps.take (i+1).toNat)=eE (ps.take i.toNat)+(if(!(ps.getD i.toNat dl).Not)=true then 1 else 0):=by
 rw[<-lq ps dl h0 h]
 simp only[eE,List.filter_append,kF,List.filter_cons,List.filter_nil]
 split<;>simp
theorem LG(ps:List bc)(n:Nat):eE (ps.take n)<=n:=En (Lo _ _) (by simp;omega)
def WM:=bE (α:=(List BA)×BA) (qC (qL .str) (q1 qS)) [.ro,.ro] (fun _=>[]) (fun(l,s)=>⟨[dO (mJ l s)],[],[]⟩)
def B7(l:List BA)(s:BA):Int×Unit->Prop:=fun(i,_)=>0<=i/\i<=l.length/\∀j:Nat,(j:Int)<i->¬l.getD j a_=s
def Ba(l:List BA)(s:BA):Int×Unit->Nat:=fun(i,_)=>l.length-i.toNat
def akF:AX WM:=fun(l,s)=>bq [(2,az [iI 5] (fun _=>B7 l s) (Ba l s))]
def Q4:HH:=hF WM func222 [] akF fun x hp hb=>by
 obtain⟨l,s⟩:=x
 have nV:L9 l.length:=eD (hb _ m0)
 have PY:=RQ (s:=s) (hb _ m1)
 clear hp hb
 apply vE (B7 l s (0,())/\∀(y:Int×PUnit),let q0:=(wrap i64 (y.1+1),());B7 l s y->bif decide (y.1<(l.length:Int)) then 0<=y.1/\y.1.toNat<l.length/\bif (l.getD y.1.toNat a_).toList==s.toList then Lb true (mJ l s) else B7 l s q0/\Ba l s q0<Ba l s y else Lb false (mJ l s))
 dsimp only
 refine⟨⟨by omega,by omega,by intro j hj;omega⟩,?_⟩
 rintro⟨i,⟨⟩⟩ ⟨h1,h2,hR⟩
 simp only[bZ]
 refine ae ?_ ?_<;>intro hc
 ·have hc:=yT hc
  rw[wi]
  refine⟨by omega,by omega,ae (fun h=>jN (IY (j:=i.toNat) (by omega) (yT h))) (fun h=>⟨⟨by omega,by omega,Fh h1 hc hR (yF h)⟩,by simp only[Ba];omega⟩)⟩
 ·have hc:=yF hc
  exact aQ (T_ fun j hj=>hR j (by omega))
def WA:=bE (α:=(List BA)×BA) (qC (qL .str) (q1 qS)) [.ro,.ro] (fun _=>[]) (fun(l,s)=>⟨[dI (kj l.length (fun j=>decide (l.getD j a_=s)))],[],[]⟩)
def BV(l:List BA)(s:BA):Int×Unit->Prop:=fun(i,_)=>0<=i/\i<=l.length/\∀j:Nat,(j:Int)<i->¬l.getD j a_=s
def A4(l:List BA)(s:BA):Int×Unit->Nat:=fun(i,_)=>l.length-i.toNat
def aku:AX WA:=fun(l,s)=>bq [(2,az [iI 8] (fun _=>BV l s) (A4 l s))]
def aip:HH:=hF WA func242 [] aku fun x hp hb=>by
 obtain⟨l,s⟩:=x
 have nV:L9 l.length:=eD (hb _ m0)
 have PY:=RQ (s:=s) (hb _ m1)
 clear hp hb
 apply vE (BV l s (0,())/\∀(y:Int×PUnit),let q0:=(wrap i64 (y.1+1),());BV l s y->bif decide (y.1<(l.length:Int)) then 0<=y.1/\y.1.toNat<l.length/\bif s.toList==(l.getD y.1.toNat a_).toList then Li y.1 (kj (l.length) fun(j:Nat)=>decide (l.getD j a_=s)) else BV l s q0/\A4 l s q0<A4 l s y else Li (-1) (kj (l.length) fun(j:Nat)=>decide (l.getD j a_=s)))
 dsimp only
 refine⟨⟨by omega,by omega,by intro j hj;omega⟩,?_⟩
 rintro⟨i,⟨⟩⟩ ⟨h1,h2,hR⟩
 simp only[bZ]
 refine ae ?_ ?_<;>intro hc
 ·have hc:=yT hc
  rw[wi]
  refine⟨by omega,by omega,ae (fun h=>cG ?_) (fun h=>⟨⟨by omega,by omega,Fh h1 hc hR (fun e=>yF h e.symm)⟩,by simp only[A4];omega⟩)⟩
  rw[gI (i:=i.toNat) (by omega) (decide_eq_true (yT h).symm) (fun j hj=>decide_eq_false (hR j (by omega)))]
  omega
 ·have hc:=yF hc
  exact cG (je (fun j hj=>decide_eq_false (hR j (by omega)))).symm
def agZ:=bE (α:=(List BA)×BA) (qC (qL .str) (q1 qS)) [.ro,.ro] (fun _=>[]) (fun(l,s)=>⟨[dO (mJ l s)],[],[]⟩)
def XQ:HH:=hF agZ func186 [aip] a0 fun x hp hb=>by
 obtain⟨l,s⟩:=x
 clear hp hb
 apply vE (let x0:=kj (l.length) fun(j:Nat)=>decide (l.getD j a_=s);Lb (decide (x0≥0)) (mJ l s))
 dsimp only
 refine cx ?_
 show decide (0<=kj l.length (fun j=>decide (l.getD j a_=s)))=_
 rw[Gp]
 by_cases h:mJ l s=true
 ·rw[h]
  obtain⟨j,hj,hs⟩:=zG (qU.1 h)
  exact jV hj (decide_eq_true (by rw[gh,gr hj];exact hs))
 ·rw[Al] at h
  rw[h]
  exact hZ fun j hj=>decide_eq_false fun e=>absurd (IY hj e) (by rw[h];decide)
def afB:=bE (α:=aw) (q1 (qA .cw)) [.ro] (fun _=>[]) (fun r=>⟨[dI (eE r.ai:Int)],[],[]⟩)
def D9(r:aw):Int×Int×T0×Unit->Prop:=fun(n,i,b,_)=>b=(r.Name,r.mM,r.ai,r.bA,r.cp,())/\0<=i/\i<=r.ai.length/\n=eE (r.ai.take i.toNat)
def v8(r:aw):Int×Int×T0×Unit->Nat:=fun(n,i,b,_)=>r.ai.length-i.toNat
def arZ:AX afB:=fun r=>bq [(3,az [iI 3,iI 4,.box 1 (1,1024) [.lit .str,.lit (.int .i64),.shr .cq,.shr .cQ,.shr .eT]] (fun _=>D9 r) (v8 r))]
def acj:HH:=hF afB func96 [] arZ fun(r:aw) hp hb=>by
 have aG:=gL (x:=r) (hb _ m0)
 have gx:=aG.1
 have gw:=aG.2.1
 have fH:=aG.2.2.1
 have gy:=aG.2.2.2
 clear hp hb
 apply vE (D9 r (0,0,(r.Name,r.mM,r.ai,r.bA,r.cp,()),())/\∀(y:Int×Int×T16×PUnit),let x1:=y.2.2.1.2.2.1.length;let x2:=y.2.1.toNat;let x0:=(↑x1:Int);let q0:=(wrap i64 (y.1+1),wrap i64 (y.2.1+1),y.2.2);let q1:=(y.1,wrap i64 (y.2.1+1),y.2.2);D9 r y->bif decide (y.2.1<x0) then 0<=y.2.1/\x2<x1/\bif !(y.2.2.1.2.2.1.getD x2 dl).Not then D9 r q0/\v8 r q0<v8 r y else D9 r q1/\v8 r q1<v8 r y else Li y.1 (↑(eE r.ai):Int))
 dsimp only
 refine⟨⟨rfl,by omega,by omega,rfl⟩,?_⟩
 rintro⟨n,i,⟨b1,b2,b3,b4,b5,⟨⟩⟩,⟨⟩⟩ ⟨s6,h1,h2,rfl⟩
 cases s6
 simp only
 refine ae ?_ ?_<;>intro hc
 ·have hc:=yT hc
  have hs:=EX r.ai h1 hc
  have hle:eE (r.ai.take i.toNat)<=i.toNat:=LG _ _
  rw[wi (n:=i+1),wrap_i64 (n:=(eE (r.ai.take i.toNat):Int)+1) (by omega) (by omega)]
  have hm:i.toNat<r.ai.length:=by omega
  refine⟨by omega,by omega,ae (fun h=>⟨⟨rfl,by omega,by omega,?_⟩,by simp only[v8];omega⟩) (fun h=>⟨⟨rfl,by omega,by omega,?_⟩,by simp only[v8];omega⟩)⟩
  ·rw[hs,if_pos h];omega
  ·rw[hs,if_neg (by rw[h];decide)];omega
 ·have hc:=yF hc
  rw[iq r.ai (by omega)]
  exact aO _
def Xv:=bE (α:=aw) (q1 (qA .cw)) [.ro] (fun _=>[]) (fun r=>⟨[dI (eE r.ai:Int)],[],[]⟩)
def yu(r:aw):Int×Int×Unit->Prop:=fun(n,i,_)=>0<=i/\i<=r.ai.length/\n=eE (r.ai.take i.toNat)
def sC(r:aw):Int×Int×Unit->Nat:=fun(n,i,_)=>r.ai.length-i.toNat
def alp:AX Xv:=fun r=>bq [(3,az [iI 3,iI 9] (fun _=>yu r) (sC r))]
def Rb:HH:=hF Xv func125 [] alp fun(r:aw) hp hb=>by
 have aG:=gL (x:=r) (hb _ m0)
 have gx:=aG.1
 have gw:=aG.2.1
 have fH:=aG.2.2.1
 have gy:=aG.2.2.2
 clear hp hb
 apply vE (yu r (0,0,())/\∀(y:Int×Int×PUnit),let x0:=y.2.1.toNat;let q0:=(wrap i64 (y.1+1),wrap i64 (y.2.1+1),());let q1:=(y.1,wrap i64 (y.2.1+1),());yu r y->bif decide (y.2.1<(r.ai.length:Int)) then 0<=y.2.1/\x0<r.ai.length/\bif !(r.ai.getD x0 dl).Not then yu r q0/\sC r q0<sC r y else yu r q1/\sC r q1<sC r y else Li y.1 (↑(eE r.ai):Int))
 dsimp only
 refine⟨⟨by omega,by omega,rfl⟩,?_⟩
 rintro⟨n,i,⟨⟩⟩ ⟨h1,h2,rfl⟩
 simp only
 refine ae ?_ ?_<;>intro hc
 ·have hc:=yT hc
  have hs:=EX r.ai h1 hc
  have hle:eE (r.ai.take i.toNat)<=i.toNat:=LG _ _
  rw[wi (n:=i+1),wrap_i64 (n:=(eE (r.ai.take i.toNat):Int)+1) (by omega) (by omega)]
  have hm:i.toNat<r.ai.length:=by omega
  refine⟨by omega,by omega,ae (fun h=>⟨⟨by omega,by omega,?_⟩,by simp only[sC];omega⟩) (fun h=>⟨⟨by omega,by omega,?_⟩,by simp only[sC];omega⟩)⟩
  ·rw[hs,if_pos h];omega
  ·rw[hs,if_neg (by rw[h];decide)];omega
 ·have hc:=yF hc
  rw[iq r.ai (by omega)]
  exact aO _
def WN:=bE (α:=bc) (q1 (qA .cq)) [.ro] (fun p=>[L4 p.aA.length]) (fun p=>⟨[dL .str (du [] p.aA)],[],[]⟩)
def xZ(p:bc):List BA×Int×Oj×Unit->Prop:=fun(l,i,b,_)=>b=(p.Kind,p.aA,p.Not,())/\0<=i/\i<=p.aA.length/\l=du [] (p.aA.take i.toNat)
def qa(p:bc):List BA×Int×Oj×Unit->Nat:=fun(l,i,b,_)=>p.aA.length-i.toNat
def akG:AX WN:=fun p=>bq [(3,az [iO 3 .str,iI 4,.box 1 (1,1024) [.lit .str,.shr .ig,.lit .bool]] (fun _=>xZ p) (qa p))]
def aiE:HH:=hF WN func221 [Q4] akG fun(p:bc) hp hb=>by
 have aG:=nC (x:=p) (hb _ m0)
 have ng:=aG.1
 have ni:=aG.2
 have bP:p.aA.length<=4294967296:=hp _ m0
 clear hp hb
 apply vE (xZ p ([],0,(p.Kind,p.aA,p.Not,()),())/\∀(y:List BA×Int×T17×PUnit),let x4:=y.2.2.1.2.1.length;let x5:=y.2.1.toNat;let x2:=y.2.2.1.2.1.getD x5 gi;let x3:=(↑x4:Int);let x1:=x2.S;let x0:=[x1];let q0:=(y.1,wrap i64 (y.2.1+1),y.2.2);let q1:=(y.1++x0,wrap i64 (y.2.1+1),y.2.2);let q2:=xZ p q0/\qa p q0<qa p y;xZ p y->bif decide (y.2.1<x3) then 0<=y.2.1/\x5<x4/\bif x2.K==1 then 0<=y.2.1/\x5<x4/\bif !mJ y.1 x1 then 0<=y.2.1/\x5<x4/\L4 (y.1.length+x0.length)/\xZ p q1/\qa p q1<qa p y else q2 else q2 else Lf [VL .str y.1] [VL .str (du [] p.aA)])
 dsimp only
 refine⟨⟨rfl,by omega,by omega,rfl⟩,?_⟩
 rintro⟨l,i,⟨b1,b2,b3,⟨⟩⟩,⟨⟩⟩ ⟨s6,h1,h2,rfl⟩
 cases s6
 simp only
 refine ae ?_ ?_<;>intro hc
 ·have hc:=yT hc
  have hs:=xC [] p.aA h1 hc
  have hl:=iM (p.aA.take i.toNat) []
  have pf:(p.aA.take i.toNat).length<=i.toNat:=by rw[mO];omega
  simp only[ii] at hl
  rw[wi]
  have hm:∀x:List BA,qa p (x,i+1,(p.Kind,p.aA,p.Not,PUnit.unit),PUnit.unit)<qa p (du [] (p.aA.take i.toNat),i,(p.Kind,p.aA,p.Not,PUnit.unit),PUnit.unit):=fun x=>by simp only[qa];omega
  refine⟨by omega,by omega,ae (fun h=>⟨by omega,by omega,ae (fun g=>⟨by omega,by omega,by simp;omega,⟨rfl,by omega,by omega,?_⟩,hm _⟩) (fun g=>⟨⟨rfl,by omega,by omega,?_⟩,hm _⟩)⟩) (fun h=>⟨⟨rfl,by omega,by omega,?_⟩,hm _⟩)⟩
  ·rw[hs,my,if_pos (eq_of_beq h),eN,if_neg (by simpa using g)]
  ·rw[hs,my,if_pos (eq_of_beq h),eN,if_pos (by simpa using g)]
  ·rw[hs,my,if_neg (fun e=>by rw[e] at h;simp at h)]
 ·have hc:=yF hc
  rw[iq p.aA (by omega)]
  exact aO _
def Xf:=bE (α:=aw) (q1 (qA .cw)) [.ro] (fun r=>[L4 (eC r.ai)]) (fun r=>⟨[dL .str (er r.ai)],[],[]⟩)
def Cl(r:aw):List BA×Int×T0×Unit->Prop:=fun(l,i,b,_)=>b=(r.Name,r.mM,r.ai,r.bA,r.cp,())/\0<=i/\i<=r.ai.length/\l=er (r.ai.take i.toNat)
def xO(r:aw):List BA×Int×T0×Unit->Nat:=fun(l,i,b,_)=>r.ai.length-i.toNat
def yo(r:aw):List BA×Int×List BA×Int×T0×Unit->List BA×Int×List BA×Int×T0×Unit->Prop:=fun(l0,i0,v0,k0,b0,_) (l,i,v,k,b,_)=>b=(r.Name,r.mM,r.ai,r.bA,r.cp,())/\i=i0/\v=v0/\0<=k/\k<=v.length/\l=(v.take k.toNat).foldl eN l0/\(k=0\/(r.ai.getD i.toNat dl).Not=false)
def sz(r:aw):List BA×Int×List BA×Int×T0×Unit->Nat:=fun(l,i,v,k,b,_)=>v.length-k.toNat
def ak':AX Xf:=fun r=>bq [(3,az [iO 3 .str,iI 4,.box 1 (1,1024) [.lit .str,.lit (.int .i64),.shr .cq,.shr .cQ,.shr .eT]] (fun _=>Cl r) (xO r)),(7,az [iO 3 .str,iI 4,iO 5 .str,iI 6,.box 1 (1,1024) [.lit .str,.lit (.int .i64),.shr .cq,.shr .cQ,.shr .eT]] (yo r) (sz r))]
def ajl:HH:=hF Xf func157 [aiE,Q4] ak' fun(r:aw) hp hb=>by
 have aG:=gL (x:=r) (hb _ m0)
 have gx:=aG.1
 have gw:=aG.2.1
 have fH:=aG.2.2.1
 have gy:=aG.2.2.2
 have bP:eC r.ai<=4294967296:=hp _ m0
 clear hp hb
 apply vE (let q0:=BA×Int×List bc×List dj×List en×PUnit;Cl r ([],0,(r.Name,r.mM,r.ai,r.bA,r.cp,()),())/\∀(y:List BA×Int×q0×PUnit),let x2:=y.2.2.1.2.2.1.length;let x3:=y.2.1.toNat;let x0:=(y.2.2.1.2.2.1.getD x3 dl).aA;let x1:=(↑x2:Int);let q1:=(y.1,y.2.1,du [] x0,0,y.2.2);Cl r y->bif decide (y.2.1<x1) then 0<=y.2.1/\x3<x2/\L4 x0.length/\yo r q1 q1/\∀(av:List BA×Int×List BA×Int×q0×PUnit),let x6:=av.2.2.2.1.toNat;let x8:=av.2.2.1.length;let x9:=av.2.1.toNat;let x5:=av.2.2.1.getD x6 a_;let x7:=(↑x8:Int);let x4:=[x5];let q2:=(av.1,wrap i64 (av.2.1+1),av.2.2.2.2);let q3:=(av.1++x4,av.2.1,av.2.2.1,wrap i64 (av.2.2.2.1+1),av.2.2.2.2);let q4:=(av.1,av.2.1,av.2.2.1,wrap i64 (av.2.2.2.1+1),av.2.2.2.2);let q5:=Cl r q2/\xO r q2<xO r y;yo r q1 av->bif decide (av.2.2.2.1<x7) then 0<=av.2.1/\x9<av.2.2.2.2.1.2.2.1.length/\bif !(av.2.2.2.2.1.2.2.1.getD x9 dl).Not then 0<=av.2.2.2.1/\x6<x8/\x6<x8/\bif !mJ av.1 x5 then 0<=av.2.2.2.1/\x6<x8/\x6<x8/\L4 (av.1.length+x4.length)/\yo r q1 q3/\sz r q3<sz r av else yo r q1 q4/\sz r q4<sz r av else q5 else q5 else Lf [VL .str y.1] [VL .str (er r.ai)])
 dsimp only
 refine⟨⟨rfl,by omega,by omega,rfl⟩,?_⟩
 rintro⟨l,i,⟨b1,b2,b3,b4,b5,⟨⟩⟩,⟨⟩⟩ ⟨s6,h1,h2,rfl⟩
 cases s6
 simp only
 refine ae ?_ ?_<;>intro hc
 ·have hc:=yT hc
  have hs:er (r.ai.take (i+1).toNat)=im (er (r.ai.take i.toNat)) (r.ai.getD i.toNat dl):=nr im [] r.ai dl h1 hc
  have ha:=CY r.ai h1 hc
  have hl:=ve (r.ai.take i.toNat) []
  simp only[ii,oz] at hl
  have hv:=iM (r.ai.getD i.toNat dl).aA []
  simp only[ii,oz] at hv
  refine⟨by omega,by omega,by omega,⟨rfl,rfl,rfl,by omega,by omega,rfl,.inl rfl⟩,?_⟩
  rintro⟨l',i',v,k,⟨b1,b2,b3,b4,b5,⟨⟩⟩,⟨⟩⟩ ⟨s6,rfl,rfl,g1,g2,rfl,g3⟩
  cases s6
  simp only
  have Ek:=rL ((du [] (r.ai.getD i'.toNat dl).aA).take k.toNat) (er (r.ai.take i'.toNat))
  have ata:((du [] (r.ai.getD i'.toNat dl).aA).take k.toNat).length<=k.toNat:=by rw[mO];omega
  have zh:(er (r.ai.take i'.toNat)).length<=eC (r.ai.take i'.toNat):=hl
  have pE:(du [] (r.ai.getD i'.toNat dl).aA).length<=(r.ai.getD i'.toNat dl).aA.length:=hv
  refine ae ?_ ?_<;>intro hk
  ·have hk:=yT hk
   have hf:=nr eN (er (r.ai.take i'.toNat)) (du [] (r.ai.getD i'.toNat dl).aA) a_ g1 hk
   rw[wi (n:=k+1),wi (n:=i'+1)]
   refine⟨by omega,by omega,ae (fun hn=> ?_) (fun hn=> ?_)⟩
   ·have hn:(r.ai.getD i'.toNat dl).Not=false:=by simpa using hn
    have sP:k.toNat<(du [] (r.ai.getD i'.toNat dl).aA).length:=by omega
    refine⟨g1,sP,sP,ae (fun g=>⟨g1,sP,sP,by simp only[iD,ii];omega,⟨rfl,rfl,rfl,by omega,by omega,?_,.inr hn⟩,by simp only[sz];omega⟩) (fun g=>⟨⟨rfl,rfl,rfl,by omega,by omega,?_,.inr hn⟩,by simp only[sz];omega⟩)⟩
    ·rw[hf,eN,if_neg (by simpa using g)]
    ·rw[hf,eN,if_pos (by simpa using g)]
   ·have hn:(r.ai.getD i'.toNat dl).Not=true:=by simpa using hn
    have qu:k=0:=g3.resolve_right (by rw[hn];decide)
    subst qu
    refine⟨⟨rfl,by omega,by omega,?_⟩,by simp only[xO];omega⟩
    rw[hs,im,if_pos hn]
    rfl
  ·have hk:=yF hk
   rw[wi (n:=i'+1)]
   refine⟨⟨rfl,by omega,by omega,?_⟩,by simp only[xO];omega⟩
   rw[hs,im]
   by_cases hn:(r.ai.getD i'.toNat dl).Not=true
   ·have qu:k=0:=g3.resolve_right (by rw[hn];decide)
    subst qu
    rw[if_pos hn];rfl
   ·rw[if_neg hn,iq (du [] (r.ai.getD i'.toNat dl).aA) (by omega)]
 ·have hc:=yF hc
  rw[iq r.ai (by omega)]
  exact aO _
def agq:=bE (α:=(List BA)×BA) (qC (qL .str) (q1 qS)) [.mv,.ro] (fun(l,name)=>[l.length<=4294967295]) (fun(l,name)=>⟨[dL .str (eN l name)],[],[]⟩)
def ah5:HH:=hF agq func272 [XQ] a0 fun x hp hb=>by
 obtain⟨l,name⟩:=x
 have nV:L9 l.length:=eD (hb _ m0)
 have GB:=RQ (s:=name) (hb _ m1)
 have bP:l.length<=4294967295:=hp _ m0
 clear hp hb
 apply vE (bif mJ l name then Lf [VL .str l] [VL .str (eN l name)] else l.length+List.length [name]<=4294967296/\Lf [VL .str (l++[name])] [VL .str (eN l name)])
 refine ae (fun h=> ?_) (fun h=>⟨by simp;omega,?_⟩)
 ·rw[eN,if_pos h];exact aO _
 ·rw[eN,if_neg (by rw[h];decide)];exact aO _
def WB:=bE (α:=(List BA)×(List dn)) (qC (qL .str) (q1 (qL .ig))) [.mv,.ro] (fun(l,args)=>[l.length+args.length<=4294967295]) (fun(l,args)=>⟨[dL .str (du l args)],[],[]⟩)
def xY(l:List BA)(args:List dn):List BA×Int×Unit->Prop:=fun(v,i,_)=>0<=i/\i<=args.length/\v=du l (args.take i.toNat)
def si(l:List BA)(args:List dn):List BA×Int×Unit->Nat:=fun(v,i,_)=>args.length-i.toNat
def akv:AX WB:=fun(l,args)=>bq [(2,az [iO 0 .str,iI 9] (fun _=>xY l args) (si l args))]
def XK:HH:=hF WB func241 [ah5] akv fun x hp hb=>by
 obtain⟨l,args⟩:=x
 have nV:L9 l.length:=eD (hb _ m0)
 have alG:L9 args.length:=eD (hb _ m1)
 have bP:l.length+args.length<=4294967295:=hp _ m0
 clear hp hb
 apply vE (xY l args (l,0,())/\∀(y:List BA×Int×PUnit),let x1:=y.2.1.toNat;let x0:=args.getD x1 gi;let q0:=(eN y.1 x0.S,wrap i64 (y.2.1+1),());let q1:=(y.1,wrap i64 (y.2.1+1),());xY l args y->bif decide (y.2.1<(args.length:Int)) then 0<=y.2.1/\x1<args.length/\bif x0.K==1 then y.1.length<=4294967295/\xY l args q0/\si l args q0<si l args y else xY l args q1/\si l args q1<si l args y else Lf [VL .str y.1] [VL .str (du l args)])
 dsimp only
 refine⟨⟨by omega,by omega,rfl⟩,?_⟩
 rintro⟨v,i,⟨⟩⟩ ⟨h1,h2,rfl⟩
 simp only
 refine ae ?_ ?_<;>intro hc
 ·have hc:=yT hc
  have hs:=xC l args h1 hc
  have hl:=iM (args.take i.toNat) l
  have pf:(args.take i.toNat).length<=i.toNat:=by rw[mO];omega
  rw[wi]
  refine⟨by omega,by omega,ae (fun h=>⟨by omega,⟨by omega,by omega,?_⟩,by simp only[si];omega⟩) (fun h=>⟨⟨by omega,by omega,?_⟩,by simp only[si];omega⟩)⟩
  ·rw[hs,my,if_pos (eq_of_beq h)]
  ·rw[hs,my,if_neg (fun e=>by rw[e] at h;simp at h)]
 ·have hc:=yF hc
  rw[iq args (by omega)]
  exact aO _
def W3:=bE (α:=aw) (q1 (qA .cw)) [.ro] (fun r=>[eC r.ai<=4294967295]) (fun r=>⟨[dL .str (il r.ai)],[],[]⟩)
def yg(r:aw):List BA×Int×Unit->Prop:=fun(v,i,_)=>0<=i/\i<=r.ai.length/\v=il (r.ai.take i.toNat)
def sq(r:aw):List BA×Int×Unit->Nat:=fun(v,i,_)=>r.ai.length-i.toNat
def akX:AX W3:=fun r=>bq [(3,az [iO 3 .str,iI 9] (fun _=>yg r) (sq r))]
def ai4:HH:=hF W3 func184 [XK] akX fun(r:aw) hp hb=>by
 have aG:=gL (x:=r) (hb _ m0)
 have gx:=aG.1
 have gw:=aG.2.1
 have fH:=aG.2.2.1
 have gy:=aG.2.2.2
 have bP:eC r.ai<=4294967295:=hp _ m0
 clear hp hb
 apply vE (yg r ([],0,())/\∀(y:List BA×Int×PUnit),let x2:=y.2.1.toNat;let x1:=r.ai.getD x2 dl;let x0:=x1.aA;let q0:=(du y.1 x0,wrap i64 (y.2.1+1),());let q1:=(y.1,wrap i64 (y.2.1+1),());yg r y->bif decide (y.2.1<(r.ai.length:Int)) then 0<=y.2.1/\x2<r.ai.length/\bif !x1.Not then y.1.length+x0.length<=4294967295/\yg r q0/\sq r q0<sq r y else yg r q1/\sq r q1<sq r y else Lf [VL .str y.1] [VL .str (il r.ai)])
 dsimp only
 refine⟨⟨by omega,by omega,rfl⟩,?_⟩
 rintro⟨v,i,⟨⟩⟩ ⟨h1,h2,rfl⟩
 simp only
 refine ae ?_ ?_<;>intro hc
 ·have hc:=yT hc
  have hs:il (r.ai.take (i+1).toNat)=kg (il (r.ai.take i.toNat)) (r.ai.getD i.toNat dl):=nr kg [] r.ai dl h1 hc
  have ha:=CY r.ai h1 hc
  have hl:=wC (r.ai.take i.toNat) []
  simp only[ii,oz] at hl
  have zh:(il (r.ai.take i.toNat)).length<=eC (r.ai.take i.toNat):=hl
  rw[wi]
  refine⟨by omega,by omega,ae (fun h=>⟨by omega,⟨by omega,by omega,?_⟩,by simp only[sq];omega⟩) (fun h=>⟨⟨by omega,by omega,?_⟩,by simp only[sq];omega⟩)⟩
  ·rw[hs,kg,if_neg (by simpa using h)]
  ·rw[hs,kg,if_pos (by simpa using h)]
 ·have hc:=yF hc
  rw[iq r.ai (by omega)]
  exact aO _
def kw(ps:List bc)(i:Nat):Bool:=(ps.getD i dl).Not
def tj(ps:List bc)(i:Nat):Bool:=kr (ps.getD i dl)&& !(decide (2<i)&& !kw ps i)&& !(decide (i=0)&&kw ps i)&& !(decide (0<i)&&kw ps (i-1)&& !kw ps i)
def mY(ps:List bc):Bool:=decide (1<=ps.length/\ps.length<=6)&&allI ps.length (tj ps)
def n_(ps:List bc)(i:Nat):Bool:=kr (ps.getD i dl)&&(kw ps i==decide (eE ps<=i))
def kK(ps:List bc):Bool:=decide (1<=ps.length/\ps.length<=6)&&decide (1<=eE ps/\eE ps<=3)&&allI ps.length (n_ ps)
theorem ew{n:Nat}{p:Nat->Bool}:allI n p=true↔∀j,j<n->p j=true:=by simp[allI]
theorem EZ(p:bc)(ps:List bc):eE (p::ps)=(if p.Not then 0 else 1)+eE ps:=by
 simp only[eE,List.filter_cons]
 cases p.Not<;>simp<;>omega
theorem Iw:∀{ps:List bc},(∀i,i+1<ps.length->kw ps i=true->kw ps (i+1)=true)->∀i,i<ps.length->kw ps i=decide (eE ps<=i)
 |[],_,i,hi=>by simp at hi
 |p::ps,h,i,hi=>by
  have ih:=Iw (ps:=ps) (fun j hj hn=>h (j+1) (by simpa using hj) hn)
  rw[EZ]
  cases hp:p.Not with
  |false=>
   cases i with
   |zero=>show p.Not=_;rw[hp];simp
   |succ i=>
    show kw ps i=_
    rw[ih i (by simpa using hi)]
    simp only[yN,if_false,decide_eq_decide];omega
  |true=>
   have ox:∀j,j<(p::ps).length->kw (p::ps) j=true:=by
    intro j
    induction j with
    |zero=>intro _;exact hp
    |succ j ihj=>intro hj;exact h j hj (ihj (by omega))
   have h0:eE ps=0:=by
    cases ps with
    |nil=>rfl
    |cons q qs=>
     have h1:=ih 0 (by simp)
     have h2:kw (q::qs) 0=true:=ox 1 (by simp)
     rw[h2] at h1
     have:=yT h1.symm
     omega
   rw[ox i hi,h0];simp
theorem vA(ps:List bc):kK ps=mY ps:=by
 rw[HT]
 simp only[kK,mY,fY,decide_eq_true_eq,ew]
 constructor
 ·rintro⟨⟨h1,h2⟩,h3⟩
  have hN:∀j,j<ps.length->kw ps j=decide (eE ps<=j):=fun j hj=>by
   have:=h3 j hj
   simp only[n_,fY,beq_iff_eq] at this
   exact this.2
  refine⟨h1,fun j hj=> ?_⟩
  have hk:=h3 j hj
  simp only[n_,fY] at hk
  simp only[tj,hk.1,hN j hj,Av,fY,sS,Bool.and_eq_false_iff,decide_eq_false_iff_not,Bool.not_eq_false',decide_eq_true_eq]
  refine⟨⟨by omega,by omega⟩,?_⟩
  by_cases h0:0<j
  ·rw[hN (j-1) (by omega)];simp only[decide_eq_false_iff_not];omega
  ·exact .inl (.inl h0)
 ·rintro⟨h1,h2⟩
  have hA:∀j,j<ps.length->kr (ps.getD j dl)=true/\(2<j->kw ps j=true)/\(j=0->kw ps j=false)/\(0<j->kw ps (j-1)=true->kw ps j=true):=fun j hj=>by
   have:=h2 j hj
   simp only[tj,fY,sS,Bool.and_eq_false_iff,decide_eq_false_iff_not,Bool.not_eq_false'] at this
   obtain⟨⟨⟨a1,a2⟩,a3⟩,a4⟩:=this
   refine⟨a1,fun h=>a2.resolve_left (fun e=>e h),fun h=>a3.resolve_left (fun e=>e h),fun h hn=>a4.resolve_left (fun e=> ?_)⟩
   rcases e with e|e
   ·exact e h
   ·rw[hn] at e;cases e
  have hN:=Iw (ps:=ps) (fun i hi hn=>(hA (i+1) hi).2.2.2 (by omega) (by simpa using hn))
  have hz:=(hA 0 (by omega)).2.2.1 rfl
  rw[hN 0 (by omega)] at hz
  have hz:=yF hz
  have hle:eE ps<=ps.length:=Lo _ _
  refine⟨⟨h1,by omega,?_⟩,fun j hj=> ?_⟩
  ·by_cases h4:3<ps.length
   ·have:=(hA 3 h4).2.1 (by omega)
    rw[hN 3 h4] at this
    exact yT this
   ·omega
  ·simp only[n_,(hA j hj).1,hN j hj];simp
def fV(vars:List BA)(a:dn):Bool:= !decide (a.K=1)||mJ vars a.S
def qh(vars:List BA)(c:dj):Bool:=jK c&&fV vars c.L&&fV vars c.R
def ou(l:List dj)(vars:List BA):Bool:=decide (l.length<=6)&&l.all (qh vars)
def mr(vars:List BA)(e:dM):Bool:=fV vars e.L&&fV vars e.R
def iV(pos:Int)(a:en):Bool:= !(decide (a.Kind=2)&&decide (pos<=a.N))
def tR(vars:List BA)(pos:Int)(a:en):Bool:=ed a&&iV pos a&&a.aA.all (mr vars)
def pz(l:List en)(vars:List BA)(pos:Int):Bool:=decide (1<=l.length/\l.length<=6)&&l.all (tR vars pos)
def jD(r:aw):Bool:=cy r.Name&&decide (-100<=r.mM/\r.mM<=100)&&mY r.ai&&ou r.bA (er r.ai)&&pz r.cp (er r.ai) (eE r.ai)
theorem Gd(ps:List bc):eC ps<=gD ps:=by
 simp only[eC,gD]
 have:∀l:List bc,(l.map fun p=>p.aA.length).sum<=(l.map gV).sum:=by
  intro l
  induction l with
  |nil=>exact og _
  |cons p l ih=>simp only[rl,N4,gV,jC] at ih⊢;omega
 have:=this ps;omega
theorem Qo(ps:List bc)(t:BA):mJ (il ps) t=mJ (er ps) t:=by
 rw[HT,qU,qU,Iq,Gb]
def mR(l:List BA)(c:dj):List BA:=du l [c.L,c.R]
def sJ(l:List BA)(e:dM):List BA:=du l [e.L,e.R]
def pJ(l:List BA)(a:en):List BA:=a.aA.foldl sJ l
def nI(r:aw):List BA:=r.cp.foldl pJ (r.bA.foldl mR [])
def pI(l:List en):Nat:=(l.map fun a=>2*a.aA.length).sum
theorem MJ(l:List BA)(c:dj):(mR l c).length<=l.length+2:=iM _ _
theorem yQ:∀(es:List dM)(l:List BA),(es.foldl sJ l).length<=l.length+2*es.length
 |[],l=>og _
 |e::es,l=>by
  have h1:=yQ es (sJ l e)
  have h2:(sJ l e).length<=l.length+2:=iM _ _
  show(es.foldl sJ (sJ l e)).length<=_
  simp only[iD];omega
theorem rq:∀(cs:List dj)(l:List BA),(cs.foldl mR l).length<=l.length+2*cs.length
 |[],l=>og _
 |c::cs,l=>by
  have h1:=rq cs (mR l c)
  have h2:=MJ l c
  show(cs.foldl mR (mR l c)).length<=_
  simp only[iD];omega
theorem vq:∀(xs:List en)(l:List BA),(xs.foldl pJ l).length<=l.length+pI xs
 |[],l=>og _
 |a::xs,l=>by
  have h1:=vq xs (pJ l a)
  have h2:(pJ l a).length<=l.length+2*a.aA.length:=yQ _ _
  show(xs.foldl pJ (pJ l a)).length<=_
  simp only[pI,rl,N4] at h1⊢;omega
theorem OD(l:List en){i:Int}(h0:0<=i)(h:i<l.length):pI (l.take i.toNat)+2*(l.getD i.toNat gB).aA.length<=pI l:=by
 have h1:pI (l.take (i+1).toNat)<=pI l:=by
  have h:=congrArg (fun q=>(q.map fun a:en=>2*a.aA.length).sum) (HS (i+1).toNat l)
  simp only[Em,zet] at h
  simp only[pI];omega
 rw[<-lq l gB h0 h] at h1
 simp only[pI,Em,zet,rl,List.map_nil,N4,List.sum_nil] at h1⊢
 omega
def names(t:BA)(a:dn):Prop:=a.K=1/\t=a.S
theorem EO{l:List BA}{a b:dn}{t:BA}:t∈du l [a,b]↔t∈l\/names t a\/names t b:=by
 rw[p9];simp[names]
theorem EN{t:BA}:∀{es:List dM}{l:List BA},t∈es.foldl sJ l↔t∈l\/∃e∈es,names t e.L\/names t e.R
 |[],l=>by simp
 |e::es,l=>by
  show t∈es.foldl sJ (sJ l e)↔_
  rw[EN,sJ,EO]
  simp only[h_,exists_eq_or_imp,or_assoc]
theorem rn{t:BA}:∀{cs:List dj}{l:List BA},t∈cs.foldl mR l↔t∈l\/∃c∈cs,names t c.L\/names t c.R
 |[],l=>by simp
 |c::cs,l=>by
  show t∈cs.foldl mR (mR l c)↔_
  rw[rn,mR,EO]
  simp only[h_,exists_eq_or_imp,or_assoc]
theorem mW{t:BA}:∀{xs:List en}{l:List BA},t∈xs.foldl pJ l↔t∈l\/∃a∈xs,∃e∈a.aA,names t e.L\/names t e.R
 |[],l=>by simp
 |a::xs,l=>by
  show t∈xs.foldl pJ (pJ l a)↔_
  rw[mW,pJ,EN]
  simp only[h_,exists_eq_or_imp,or_assoc]
theorem IE{vars:List BA}{a:dn}:fV vars a=true↔∀t,names t a->mJ vars t=true:=by
 simp only[fV,Ee,sS,decide_eq_false_iff_not,names]
 constructor
 ·rintro(h|h) t ⟨h1,rfl⟩
  ·exact absurd h1 h
  ·exact h
 ·intro h
  by_cases h1:a.K=1
  ·exact .inr (h a.S ⟨h1,rfl⟩)
  ·exact .inl h1
theorem OC(r:aw)(vars:List BA):(nI r).all (mJ vars)=(r.bA.all (fun c=>fV vars c.L&&fV vars c.R)&&r.cp.all fun a=>a.aA.all (mr vars)):=by
 rw[HT]
 simp only[fY,FU,mr,IE,nI]
 constructor
 ·intro h
  refine⟨fun c hc=>⟨fun t ht=>h t ?_,fun t ht=>h t ?_⟩,fun a ha e he=>⟨fun t ht=>h t ?_,fun t ht=>h t ?_⟩⟩
  ·rw[mW,rn];exact .inl (.inr ⟨c,hc,.inl ht⟩)
  ·rw[mW,rn];exact .inl (.inr ⟨c,hc,.inr ht⟩)
  ·rw[mW];exact .inr ⟨a,ha,e,he,.inl ht⟩
  ·rw[mW];exact .inr ⟨a,ha,e,he,.inr ht⟩
 ·rintro⟨h1,h2⟩ t ht
  rw[mW,rn] at ht
  rcases ht with(ht|⟨c,hc,ht|ht⟩)|⟨a,ha,e,he,ht|ht⟩
  ·cases ht
  ·exact(h1 c hc).1 t ht
  ·exact(h1 c hc).2 t ht
  ·exact(h2 a ha e he).1 t ht
  ·exact(h2 a ha e he).2 t ht
def kJ(r:aw):Bool:=cy r.Name&&decide (-100<=r.mM/\r.mM<=100)&&mY r.ai&&decide (r.bA.length<=6)&&decide (1<=r.cp.length/\r.cp.length<=6)&&r.bA.all jK&&r.cp.all (fun a=>ed a&&iV (eE r.ai) a)&&(nI r).all (mJ (il r.ai))
theorem Mq{α:Type}(p q:α->Bool)(l:List α):l.all (fun x=>p x&&q x)=(l.all p&&l.all q):=by
 induction l with
 |nil=>rfl
 |cons x l ih=>simp only[zdr,ih];cases p x<;>cases q x<;>simp
theorem CM(r:aw):kJ r=jD r:=by
 have e1:(nI r).all (mJ (il r.ai))=(nI r).all (mJ (er r.ai)):=by
  have:mJ (il r.ai)=mJ (er r.ai):=funext fun t=>Qo _ _
  rw[this]
 have e2:r.bA.all (qh (er r.ai))=(r.bA.all jK&&r.bA.all (fun c=>fV (er r.ai) c.L&&fV (er r.ai) c.R)):=by
  rw[<-Mq]
  congr 1;funext c;simp only[qh,Bool.and_assoc]
 have e3:r.cp.all (tR (er r.ai) (eE r.ai))=(r.cp.all (fun a=>ed a&&iV (eE r.ai) a)&&r.cp.all (fun a=>a.aA.all (mr (er r.ai)))):=by
  rw[<-Mq];rfl
 simp only[kJ,jD,ou,pz,e1,e2,e3,OC]
 rw[HT]
 simp only[fY]
 constructor
 ·rintro⟨⟨⟨⟨⟨⟨⟨a1,a2⟩,a3⟩,a4⟩,a5⟩,a6⟩,a7⟩,a8,a9⟩
  exact⟨⟨⟨⟨a1,a2⟩,a3⟩,a4,a6,a8⟩,a5,a7,a9⟩
 ·rintro⟨⟨⟨⟨a1,a2⟩,a3⟩,a4,a6,a8⟩,a5,a7,a9⟩
  exact⟨⟨⟨⟨⟨⟨⟨a1,a2⟩,a3⟩,a4⟩,a5⟩,a6⟩,a7⟩,a8,a9⟩
theorem aE{p:Prop}[Decidable p]{P Q:Prop}(h1:p->P)(h2:¬p->Q):bif decide p then P else Q:=ae (fun h=>h1 (yT h)) (fun h=>h2 (yF h))
theorem bT{b:Bool}{P Q:Prop}(h1:b=false->P)(h2:b=true->Q):bif !b then P else Q:=ae (fun h=>h1 (by simpa using h)) (fun h=>h2 (by simpa using h))
theorem mn{a b:Int}{P Q:Prop}(h1:a=b->P)(h2:¬a=b->Q):bif a==b then P else Q:=ae (fun h=>h1 (eq_of_beq h)) (fun h=>h2 (fun e=>by rw[e] at h;simp at h))
theorem Zl{α:Type}(f:α->Nat)(B:Nat):∀(l:List α),(∀x∈l,f x<=B)->(l.map f).sum<=l.length*B
 |[],_=>by simp
 |x::l,h=>by
  have h1:=Zl f B l (fun y hy=>h y (aJ _ hy))
  have h2:=h x cH
  simp only[rl,N4,iD,ta];omega
theorem zM{ps:List bc}(h:mY ps=true):eC ps<=30:=by
 simp only[mY,fY,decide_eq_true_eq,ew] at h
 have:=Zl (fun p:bc=>p.aA.length) 5 ps (fun p hp=>by
  obtain⟨i,hi,rfl⟩:=zG hp
  have hk:=h.2 i hi
  simp only[tj,fY,gh,gr hi,J0] at hk
  have hk:=hk.1.1.1
  simp only[kr,fY,decide_eq_true_eq] at hk
  exact hk.1.2)
 simp only[eC];omega
theorem vZ{a:en}(h:ed a=true):a.aA.length<=5:=by
 simp only[ed,JH,fJ] at h
 grind
theorem JP{l:List en}(hl:l.length<=6)(h:∀a∈l,ed a=true):pI l<=60:=by
 have:=Zl (fun a:en=>2*a.aA.length) 10 l (fun a ha=>by have:=vZ (h a ha);omega)
 simp only[pI];omega
def agJ:=bE (α:=dn×(List BA)) (qC (qA .ig) (q1 (qL .str))) [.ro,.ro] (fun _=>[]) (fun(a,vars)=>⟨[dO (fV vars a)],[],[]⟩)
def XN:HH:=hF agJ func225 [Q4] a0 fun x hp hb=>by
 obtain⟨a,vars⟩:=x
 clear hp hb
 apply vE (bif a.K !=1 then Lb true (fV vars a) else Lb (mJ vars a.S) (fV vars a))
 simp only[fV]
 refine ae (fun h=>cx ?_) (fun h=>cx ?_)<;>grind
def Xd:=bE (α:=(List dj)×(List BA)) (qC (qL .cQ) (q1 (qL .str))) [.ro,.ro] (fun _=>[]) (fun(l,vars)=>⟨[dO (ou l vars)],[],[]⟩)
def Ck(l:List dj)(vars:List BA):Int×Unit->Prop:=fun(i,_)=>0<=i/\i<=l.length/\(l.drop i.toNat).all (qh vars)=l.all (qh vars)
def Bt(l:List dj)(vars:List BA):Int×Unit->Nat:=fun(i,_)=>l.length-i.toNat
def ak8:AX Xd:=fun(l,vars)=>bq [(2,az [iI 5] (fun _=>Ck l vars) (Bt l vars))]
def ajj:HH:=hF Xd func159 [aiC,XN] ak8 fun x hp hb=>by
 obtain⟨l,vars⟩:=x
 have nV:L9 l.length:=eD (hb _ m0)
 have TJ:L9 vars.length:=eD (hb _ m1)
 clear hp hb
 apply vE (let x0:=(l.length:Int);let q0:=Lb false (ou l vars);Ck l vars (0,())/\∀(y:Int×PUnit),let x1:=l.getD y.1.toNat qv;let q1:=(wrap i64 (y.1+1),());Ck l vars y->bif decide (y.1<x0) then 0<=y.1/\y.1.toNat<l.length/\bif !jK x1 then q0 else 0<=y.1/\y.1.toNat<l.length/\bif !fV vars x1.L then q0 else 0<=y.1/\y.1.toNat<l.length/\bif !fV vars x1.R then q0 else Ck l vars q1/\Bt l vars q1<Bt l vars y else Lb (decide (x0<=6)) (ou l vars))
 dsimp only
 refine⟨⟨by omega,by omega,rfl⟩,?_⟩
 rintro⟨i,⟨⟩⟩ ⟨h1,h2,hR⟩
 simp only
 refine aE ?_ ?_<;>intro hc
 ·rw[eu _ _ qv h1 (by omega)] at hR
  rw[wi]
  have hN:qh vars (l.getD i.toNat qv)=false->ou l vars=false:=fun h=>by simp only[ou,<-hR,h];simp
  refine⟨by omega,by omega,bT (fun h=>aQ (hN ?_)) (fun h=>⟨by omega,by omega,bT (fun g=>aQ (hN ?_)) (fun g=>⟨by omega,by omega,bT (fun k=>aQ (hN ?_)) (fun k=>⟨⟨by omega,by omega,?_⟩,by simp only[Bt];omega⟩)⟩)⟩)⟩
  ·simp only[qh,h,mD]
  ·simp only[qh,g,qq,mD]
  ·simp only[qh,k,qq]
  ·rw[<-hR];simp only[qh,h,g,k,Av]
 ·rw[bU _ (by omega)] at hR
  refine cx ?_
  simp only[ou,<-hR];simp;omega
def Xc:=bE (α:=(List en)×(List BA)×Int) (qC (qL .eT) (qC (qL .str) (q1 qI))) [.ro,.ro,.ro] (fun _=>[]) (fun(l,vars,pos)=>⟨[dO (pz l vars pos)],[],[]⟩)
def yn(l:List en)(vars:List BA)(pos:Int):Int×Unit->Prop:=fun(i,_)=>0<=i/\i<=l.length/\(l.drop i.toNat).all (tR vars pos)=l.all (tR vars pos)
def sw(l:List en)(vars:List BA)(pos:Int):Int×Unit->Nat:=fun(i,_)=>l.length-i.toNat
def sF(l:List en)(vars:List BA)(pos:Int):Int×Int×Unit->Int×Int×Unit->Prop:=fun(i0,k0,_) (i,k,_)=>i=i0/\0<=k/\k<=(l.getD i.toNat gB).aA.length/\((l.getD i.toNat gB).aA.drop k.toNat).all (mr vars)=(l.getD i.toNat gB).aA.all (mr vars)
def su(l:List en)(vars:List BA)(pos:Int):Int×Int×Unit->Nat:=fun(i,k,_)=>(l.getD i.toNat gB).aA.length-k.toNat
def ak7:AX Xc:=fun(l,vars,pos)=>bq [(2,az [iI 7] (fun _=>yn l vars pos) (sw l vars pos)),(7,az [iI 7,iI 8] (sF l vars pos) (su l vars pos))]
def aji:HH:=hF Xc func160 [aiB,XN,tU] ak7 fun x hp hb=>by
 obtain⟨l,vars,pos⟩:=x
 have nV:L9 l.length:=eD (hb _ m0)
 have TJ:L9 vars.length:=eD (hb _ m1)
 have apr:=mL (n:=pos) (hb _ m2)
 clear hp hb
 apply vE (let x0:=(l.length:Int);let q0:=Lb false (pz l vars pos);yn l vars pos (0,())/\∀(y:Int×PUnit),let x1:=l.getD y.1.toNat gB;let q1:=(y.1,0,());yn l vars pos y->bif decide (y.1<x0) then 0<=y.1/\y.1.toNat<l.length/\bif !ed x1 then q0 else 0<=y.1/\y.1.toNat<l.length/\bif x1.Kind==2 then 0<=y.1/\y.1.toNat<l.length/\bif decide (x1.N≥pos) then q0 else sF l vars pos q1 q1/\∀(av:Int×Int×PUnit),let x3:=av.2.1.toNat;let x4:=(↑((l.getD av.1.toNat gB).aA.length):Int);let x2:=(l.getD av.1.toNat gB).aA.getD x3 mQ;let q2:=(av.1,wrap i64 (av.2.1+1),());let q3:=(wrap i64 (av.1+1),());sF l vars pos q1 av->0<=av.1/\av.1.toNat<l.length/\bif decide (av.2.1<x4) then 0<=av.1/\av.1.toNat<l.length/\0<=av.2.1/\x3<(l.getD av.1.toNat gB).aA.length/\bif !fV vars x2.L then q0 else 0<=av.1/\av.1.toNat<l.length/\0<=av.2.1/\x3<(l.getD av.1.toNat gB).aA.length/\bif !fV vars x2.R then q0 else sF l vars pos q1 q2/\su l vars pos q2<su l vars pos av else yn l vars pos q3/\sw l vars pos q3<sw l vars pos y else sF l vars pos q1 q1/\∀(av:Int×Int×PUnit),let x3:=av.2.1.toNat;let x4:=(↑((l.getD av.1.toNat gB).aA.length):Int);let x2:=(l.getD av.1.toNat gB).aA.getD x3 mQ;let q4:=(av.1,wrap i64 (av.2.1+1),());let q5:=(wrap i64 (av.1+1),());sF l vars pos q1 av->0<=av.1/\av.1.toNat<l.length/\bif decide (av.2.1<x4) then 0<=av.1/\av.1.toNat<l.length/\0<=av.2.1/\x3<(l.getD av.1.toNat gB).aA.length/\bif !fV vars x2.L then q0 else 0<=av.1/\av.1.toNat<l.length/\0<=av.2.1/\x3<(l.getD av.1.toNat gB).aA.length/\bif !fV vars x2.R then q0 else sF l vars pos q1 q4/\su l vars pos q4<su l vars pos av else yn l vars pos q5/\sw l vars pos q5<sw l vars pos y else Lb (decide (1<=x0/\x0<=6)) (pz l vars pos))
 dsimp only
 refine⟨⟨by omega,by omega,rfl⟩,?_⟩
 rintro⟨i,⟨⟩⟩ ⟨h1,h2,hR⟩
 simp only
 refine aE ?_ ?_<;>intro hc
 ·rw[eu _ _ gB h1 (by omega)] at hR
  have hN:tR vars pos (l.getD i.toNat gB)=false->pz l vars pos=false:=fun h=>by simp only[pz,<-hR,h];simp
  refine⟨by omega,by omega,bT (fun ha=>aQ (hN (by simp only[tR,ha,mD]))) (fun ha=>⟨by omega,by omega,mn (fun eS=>⟨by omega,by omega,aE (fun hp=>aQ (hN ?_)) (fun hp=> ?_)⟩) (fun eS=> ?_)⟩)⟩
  ·have:iV pos (l.getD i.toNat gB)=false:=by simp only[iV,eS,decide_eq_true (show pos<=(l.getD i.toNat gB).N from hp)];simp
   simp only[tR,this,qq,mD]
  ·have hd:iV pos (l.getD i.toNat gB)=true:=by simp only[iV,decide_eq_false (show¬pos<=(l.getD i.toNat gB).N from hp)];simp
   have h5:=vZ ha
   refine⟨⟨rfl,by omega,by omega,rfl⟩,?_⟩
   rintro⟨i',k,⟨⟩⟩ ⟨rfl,g1,g2,gR⟩
   simp only
   refine⟨by omega,by omega,aE (fun hk=> ?_) (fun hk=> ?_)⟩
   ·rw[eu _ _ mQ g1 (by omega)] at gR
    rw[wi (n:=k+1)]
    have hM:mr vars ((l.getD i'.toNat gB).aA.getD k.toNat mQ)=false->pz l vars pos=false:=fun h=>hN (by simp only[tR,<-gR,h];simp)
    refine⟨by omega,by omega,g1,by omega,bT (fun e=>aQ (hM ?_)) (fun e=>⟨by omega,by omega,g1,by omega,bT (fun f=>aQ (hM ?_)) (fun f=>⟨⟨rfl,by omega,by omega,?_⟩,by simp only[su];omega⟩)⟩)⟩
    ·simp only[mr,e,mD]
    ·simp only[mr,f,qq]
    ·rw[<-gR];simp only[mr,e,f,Av]
   ·rw[bU _ (by omega)] at gR
    rw[wi (n:=i'+1)]
    refine⟨⟨by omega,by omega,?_⟩,by simp only[sw];omega⟩
    rw[<-hR];simp only[tR,<-gR,hd,ha,X0,Av]
  ·have hd:iV pos (l.getD i.toNat gB)=true:=by simp only[iV,decide_eq_false eS];simp
   have h5:=vZ ha
   refine⟨⟨rfl,by omega,by omega,rfl⟩,?_⟩
   rintro⟨i',k,⟨⟩⟩ ⟨rfl,g1,g2,gR⟩
   simp only
   refine⟨by omega,by omega,aE (fun hk=> ?_) (fun hk=> ?_)⟩
   ·rw[eu _ _ mQ g1 (by omega)] at gR
    rw[wi (n:=k+1)]
    have hM:mr vars ((l.getD i'.toNat gB).aA.getD k.toNat mQ)=false->pz l vars pos=false:=fun h=>hN (by simp only[tR,<-gR,h];simp)
    refine⟨by omega,by omega,g1,by omega,bT (fun e=>aQ (hM ?_)) (fun e=>⟨by omega,by omega,g1,by omega,bT (fun f=>aQ (hM ?_)) (fun f=>⟨⟨rfl,by omega,by omega,?_⟩,by simp only[su];omega⟩)⟩)⟩
    ·simp only[mr,e,mD]
    ·simp only[mr,f,qq]
    ·rw[<-gR];simp only[mr,e,f,Av]
   ·rw[bU _ (by omega)] at gR
    rw[wi (n:=i'+1)]
    refine⟨⟨by omega,by omega,?_⟩,by simp only[sw];omega⟩
    rw[<-hR];simp only[tR,<-gR,hd,ha,X0,Av]
 ·rw[bU _ (by omega)] at hR
  refine cx ?_
  simp only[pz,<-hR,X0,N5];exact decide_eq_decide.2 (by omega)
def Xe:=bE (α:=List bc) (q1 (qL .cq)) [.ro] (fun _=>[]) (fun l=>⟨[dO (mY l)],[],[]⟩)
def sG(l:List bc):Int×Unit->Prop:=fun(i,_)=>0<=i/\i<=l.length/\∀j:Nat,(j:Int)<i->tj l j=true
def kQ(l:List bc):Int×Unit->Nat:=fun(i,_)=>l.length-i.toNat
def ak9:AX Xe:=fun l=>bq [(2,az [iI 3] (fun _=>sG l) (kQ l))]
def ajk:HH:=hF Xe func158 [aiD,tU] ak9 fun(l:List bc) hp hb=>by
 have nV:L9 l.length:=eD (hb _ m0)
 clear hp hb
 apply vE (let x0:=(l.length:Int);let q0:=Lb false (mY l);sG l (0,())/\∀(y:Int×PUnit),let x1:=Int.toNat (wrap i64 (y.1-1));let q1:=bif decide (y.1>0) then 0<=wrap i64 (y.1-1)/\x1<l.length/\bif (l.getD x1 dl).Not then 0<=y.1/\y.1.toNat<l.length/\bif !(l.getD y.1.toNat dl).Not then q0 else sG l (wrap i64 (y.1+1),())/\kQ l (wrap i64 (y.1+1),())<kQ l y else sG l (wrap i64 (y.1+1),())/\kQ l (wrap i64 (y.1+1),())<kQ l y else sG l (wrap i64 (y.1+1),())/\kQ l (wrap i64 (y.1+1),())<kQ l y;let q2:=(0:Int)<=y.1/\y.1.toNat<l.length/\bif !kr (l.getD y.1.toNat dl) then q0 else bif y.1==0 then 0<=y.1/\y.1.toNat<l.length/\bif (l.getD y.1.toNat dl).Not then q0 else q1 else q1;sG l y->bif decide (y.1<x0) then bif decide (y.1>2) then 0<=y.1/\y.1.toNat<l.length/\bif !(l.getD y.1.toNat dl).Not then q0 else q2 else q2 else Lb (decide (1<=x0/\x0<=6)) (mY l))
 dsimp only
 refine⟨⟨by omega,by omega,by intro j hj;omega⟩,?_⟩
 rintro⟨i,⟨⟩⟩ ⟨h1,h2,hR⟩
 simp only
 refine aE ?_ ?_<;>intro hc
 ·have hN:tj l i.toNat=false->mY l=false:=fun h=>by
   have hf:allI l.length (tj l)=false:=cE (j:=i.toNat) (by omega) h
   simp only[mY,hf];simp
  have hm:kQ l (i+1,PUnit.unit)<kQ l (i,()):=by simp only[kQ];omega
  have e1:(i-1).toNat=i.toNat-1:=by omega
  simp(disch:=omega) only[wrap_i64]
  simp only[e1]
  have c1:decide (2<i.toNat)=decide (i>2):=decide_eq_decide.2 (by omega)
  have c2:decide (i.toNat=0)=decide (i=0):=decide_eq_decide.2 (by omega)
  have c3:decide (0<i.toNat)=decide (i>0):=decide_eq_decide.2 (by omega)
  have hA:tj l i.toNat=(kr (l.getD i.toNat dl)&& !(decide (i>2)&& !(l.getD i.toNat dl).Not)&& !(decide (i=0)&&(l.getD i.toNat dl).Not)&& !(decide (i>0)&&(l.getD (i.toNat-1) dl).Not&& !(l.getD i.toNat dl).Not)):=by
   simp only[tj,kw,c1,c2,c3]
  have V2:tj l i.toNat=true->sG l (i+1,PUnit.unit)/\kQ l (i+1,PUnit.unit)<kQ l (i,()):=fun h=>⟨⟨by omega,by omega,cu h1 hR h⟩,hm⟩
  rw[hA] at hN V2
  generalize (l.getD (i.toNat-1) dl).Not=q at*
  generalize (l.getD i.toNat dl).Not=r at*
  generalize kr (l.getD i.toNat dl)=s at*
  clear hA c1 c2 c3 hR
  have fx:i.toNat<l.length:=by omega
  have Db:i.toNat-1<l.length:=by omega
  have hi1:i>0->0<=i-1:=fun h=>by omega
  repeat' (first|refine aQ (hN ?_)|refine V2 ?_|refine aE (fun h=> ?_) (fun h=> ?_)|refine mn (fun h=> ?_) (fun h=> ?_)|refine ae (fun h=> ?_) (fun h=> ?_)|refine And.intro h1 ?_|refine And.intro fx ?_|refine And.intro Db ?_|refine And.intro (hi1 (by assumption)) ?_)
  all_goals (cases q<;>cases r<;>cases s<;>simp at* <;>omega)
 ·have hA:allI l.length (tj l)=true:=cR fun j hj=>hR j (by omega)
  refine cx ?_
  simp only[mY,hA,N5];exact decide_eq_decide.2 (by omega)
def aqa:=bE (α:=aw) (q1 (qA .cw)) [.ro] (fun r=>[eC r.ai<=4294967295]) (fun r=>⟨[dO (jD r)],[],[]⟩)
def aqN:HH:=hF aqa func87 [ajl,N1,tU,ajk,ajj,aji,acj] a0 fun(r:aw) hp hb=>by
 have aG:=gL (x:=r) (hb _ m0)
 have gx:=aG.1
 have gw:=aG.2.1
 have fH:=aG.2.2.1
 have gy:=aG.2.2.2
 have bP:eC r.ai<=4294967295:=hp _ m0
 clear hp hb
 apply vE (let q0:=Lb false (jD r);L4 (eC r.ai)/\bif cy r.Name then bif decide ((-100)<=r.mM/\r.mM<=100) then bif mY r.ai then bif ou r.bA (er r.ai) then Lb (pz r.cp (er r.ai) (↑(eE r.ai):Int)) (jD r) else q0 else q0 else q0 else q0)
 dsimp only
 refine⟨by omega,?_⟩
 simp only[jD]
 repeat' (refine ae (fun h=> ?_) (fun h=> ?_))
 all_goals (refine cx ?_;grind)
def W4:=bE (α:=aw) (q1 (qA .cw)) [.ro] (fun _=>[]) (fun r=>⟨[dO (kK r.ai)],[],[]⟩)
def Ce(r:aw):Int×T0×Unit->Prop:=fun(i,b,_)=>b=(r.Name,r.mM,r.ai,r.bA,r.cp,())/\0<=i/\i<=r.ai.length/\(1<=r.ai.length/\r.ai.length<=6)/\(1<=eE r.ai/\eE r.ai<=3)/\∀j:Nat,(j:Int)<i->n_ r.ai j=true
def Bl(r:aw):Int×T0×Unit->Nat:=fun(i,b,_)=>r.ai.length-i.toNat
def akY:AX W4:=fun r=>bq [(4,az [iI 19,.box 1 (1,1024) [.lit .str,.lit (.int .i64),.shr .cq,.shr .cQ,.shr .eT]] (fun _=>Ce r) (Bl r))]
def ai7:HH:=hF W4 func181 [Ec,Rb,air] akY fun(r:aw) hp hb=>by
 clear hp hb
 apply vE (let x0:=(r.ai.length:Int);let q0:=Lb false (kK r.ai);bif !decide (1<=x0/\x0<=6) then q0 else bif !decide (1<=(↑(eE r.ai):Int)/\(↑(eE r.ai):Int)<=3) then q0 else Ce r (0,(r.Name,r.mM,r.ai,r.bA,r.cp,()),())/\∀(y:Int×T16×PUnit),let x1:=(↑(eE y.2.1.2.2.1):Int);let q1:=(wrap i64 (y.1+1),y.2);Ce r y->bif decide (y.1<x0) then 0<=y.1/\y.1.toNat<r.ai.length/\bif !kr (r.ai.getD y.1.toNat dl) then q0 else bif !(r.ai.getD y.1.toNat dl).Not==decide (y.1≥x1) then q0 else Ce r q1/\Bl r q1<Bl r y else Lb true (kK r.ai))
 dsimp only
 refine bT (fun h=>aQ ?_) (fun h=>bT (fun h'=>aQ ?_) (fun h'=> ?_))
 ·have h:=yF h
  simp only[kK];rw[decide_eq_false (by omega)];rfl
 ·have h':=yF h'
  simp only[kK];rw[decide_eq_false (p:=1<=eE r.ai/\eE r.ai<=3) (by omega)];simp
 have h:=yT h
 have h':=yT h'
 refine⟨⟨rfl,by omega,by omega,by omega,by omega,by intro j hj;omega⟩,?_⟩
 rintro⟨i,⟨b1,b2,b3,b4,b5,⟨⟩⟩,⟨⟩⟩ ⟨s6,h1,h2,h3,h4,hR⟩
 cases s6
 simp only
 refine aE ?_ ?_<;>intro hc
 ·have hN:n_ r.ai i.toNat=false->kK r.ai=false:=fun h=>by
   have hf:allI r.ai.length (n_ r.ai)=false:=cE (j:=i.toNat) (by omega) h
   simp only[kK,hf];simp
  rw[wi]
  have c1:decide (eE r.ai<=i.toNat)=decide (i≥(eE r.ai:Int)):=decide_eq_decide.2 (by omega)
  refine⟨by omega,by omega,bT (fun g=>aQ (hN (by simp only[n_,g,mD]))) (fun g=>bT (fun k=>aQ (hN ?_)) (fun k=>⟨⟨rfl,by omega,by omega,h3,h4,cu h1 hR ?_⟩,by simp only[Bl];omega⟩))⟩
  ·simp only[n_,kw,c1,k];simp
  ·simp only[n_,kw,c1,k,g];rfl
 ·have hA:allI r.ai.length (n_ r.ai)=true:=cR fun j hj=>hR j (by omega)
  refine jN ?_
  simp only[kK,hA,decide_eq_true h3,decide_eq_true h4];rfl
def W2:=bE (α:=aw) (q1 (qA .cw)) [.ro] (fun r=>[2*r.bA.length+pI r.cp<=4294967295]) (fun r=>⟨[dL .str (nI r)],[],[]⟩)
def Cc(r:aw):List BA×Int×T0×Unit->Prop:=fun(v,i,b,_)=>b=(r.Name,r.mM,r.ai,r.bA,r.cp,())/\0<=i/\i<=r.bA.length/\v=(r.bA.take i.toNat).foldl mR []
def Bk(r:aw):List BA×Int×T0×Unit->Nat:=fun(v,i,b,_)=>r.bA.length-i.toNat
def Cb(r:aw):List BA×Int×Unit->Prop:=fun(v,i,_)=>0<=i/\i<=r.cp.length/\v=(r.cp.take i.toNat).foldl pJ (r.bA.foldl mR [])
def Bj(r:aw):List BA×Int×Unit->Nat:=fun(v,i,_)=>r.cp.length-i.toNat
def yf(r:aw):List BA×Int×Int×Unit->List BA×Int×Int×Unit->Prop:=fun(v0,i0,k0,_) (v,i,k,_)=>i=i0/\0<=k/\k<=(r.cp.getD i.toNat gB).aA.length/\v=((r.cp.getD i.toNat gB).aA.take k.toNat).foldl sJ v0
def xJ(r:aw):List BA×Int×Int×Unit->Nat:=fun(v,i,k,_)=>(r.cp.getD i.toNat gB).aA.length-k.toNat
def akW:AX W2:=fun r=>bq [(3,az [iO 3 .str,iI 13,.box 1 (1,1024) [.lit .str,.lit (.int .i64),.shr .cq,.shr .cQ,.shr .eT]] (fun _=>Cc r) (Bk r)),(8,az [iO 3 .str,iI 28] (fun _=>Cb r) (Bj r)),(11,az [iO 3 .str,iI 28,iI 35] (yf r) (xJ r))]
def ai3:HH:=hF W2 func185 [XK] akW fun(r:aw) hp hb=>by
 have aG:=gL (x:=r) (hb _ m0)
 have gx:=aG.1
 have gw:=aG.2.1
 have fH:=aG.2.2.1
 have gy:=aG.2.2.2
 have bP:2*r.bA.length+pI r.cp<=4294967295:=hp _ m0
 clear hp hb
 apply vE (Cc r ([],0,(r.Name,r.mM,r.ai,r.bA,r.cp,()),())/\∀(y:List BA×Int×T16×PUnit),let x2:=y.2.2.1.2.2.2.2.1.length;let x4:=y.2.1.toNat;let x1:=(↑x2:Int);let x3:=r.bA.getD x4 qv;let x0:=[x3.L,x3.R];Cc r y->bif decide (y.2.1<(r.bA.length:Int)) then 0<=y.2.1/\x4<r.bA.length/\y.1.length+x0.length<=4294967295/\Cc r (du y.1 x0,wrap i64 (y.2.1+1),y.2.2)/\Bk r (du y.1 x0,wrap i64 (y.2.1+1),y.2.2)<Bk r y else Cb r (y.1,0,())/\∀(av:List BA×Int×PUnit),let x8:=av.2.1.toNat;let x7:=(y.2.2.1.2.2.2.2.1.getD x8 gB).aA;let x6:=x7.length;let x5:=(↑x6:Int);let q0:=(av.1,av.2.1,0,());Cb r av->bif decide (av.2.1<x1) then 0<=av.2.1/\x8<x2/\yf r q0 q0/\∀(y:List BA×Int×Int×PUnit),let vc:=y.2.2.1.toNat;let zI:=x7.getD vc mQ;let x9:=[zI.L,zI.R];let q1:=(du y.1 x9,y.2.1,wrap i64 (y.2.2.1+1),());let q2:=(y.1,wrap i64 (y.2.1+1),());yf r q0 y->bif decide (y.2.2.1<x5) then 0<=y.2.2.1/\vc<x6/\y.1.length+x9.length<=4294967295/\yf r q0 q1/\xJ r q1<xJ r y else Cb r q2/\Bj r q2<Bj r av else Lf [VL .str av.1] [VL .str (nI r)])
 dsimp only
 refine⟨⟨rfl,by omega,by omega,rfl⟩,?_⟩
 rintro⟨v,i,⟨b1,b2,b3,b4,b5,⟨⟩⟩,⟨⟩⟩ ⟨s6,h1,h2,rfl⟩
 cases s6
 simp only
 refine aE ?_ ?_<;>intro hc
 ·have hs:=nr mR [] r.bA qv h1 hc
  have hl:=rq (r.bA.take i.toNat) []
  have pf:(r.bA.take i.toNat).length<=i.toNat:=by rw[mO];omega
  simp only[ii] at hl
  rw[wi]
  refine⟨by omega,by omega,by simp only[iD,ii];omega,⟨rfl,by omega,by omega,hs.symm⟩,by simp only[Bk];omega⟩
 rw[iq r.bA (by omega)]
 have hl0:=rq r.bA []
 simp only[ii] at hl0
 refine⟨⟨by omega,by omega,rfl⟩,?_⟩
 rintro⟨v,i,⟨⟩⟩ ⟨g1,g2,rfl⟩
 simp only
 refine aE ?_ ?_<;>intro hc
 ·have hs:=nr pJ (r.bA.foldl mR []) r.cp gB g1 hc
  have ha:=OD r.cp g1 hc
  have hl:=vq (r.cp.take i.toNat) (r.bA.foldl mR [])
  refine⟨by omega,by omega,⟨rfl,by omega,by omega,rfl⟩,?_⟩
  rintro⟨v,i',k,⟨⟩⟩ ⟨rfl,k1,k2,rfl⟩
  simp only
  have hle:=yQ ((r.cp.getD i'.toNat gB).aA.take k.toNat) ((r.cp.take i'.toNat).foldl pJ (r.bA.foldl mR []))
  have pf:((r.cp.getD i'.toNat gB).aA.take k.toNat).length<=k.toNat:=by rw[mO];omega
  refine aE ?_ ?_<;>intro hk
  ·have hf:=nr sJ ((r.cp.take i'.toNat).foldl pJ (r.bA.foldl mR [])) (r.cp.getD i'.toNat gB).aA mQ k1 hk
   rw[wi]
   exact⟨by omega,by omega,by simp only[iD,ii];omega,⟨rfl,by omega,by omega,hf.symm⟩,by simp only[xJ];omega⟩
  ·rw[wi]
   refine⟨⟨by omega,by omega,?_⟩,by simp only[Bj];omega⟩
   rw[hs,iq (r.cp.getD i'.toNat gB).aA (by omega)];rfl
 ·rw[iq r.cp (by omega)]
  exact aO _
end
end AM
