/- Functions of the program with their contracts: put together by gen/link.py for FnReplied. -/
import Derived.Test.YtpkdgcookaobfaaGreatDoorQAmLib
import Derived.Lib.ItoaLen
import Derived.Lib.Join
import Derived.Test.YtpkdgcookaobfaaGreatDoorQShelf
namespace AM
open Go Go.Proofs.Tryz Go.IntKind
set_option linter.unusedVariables false
set_option linter.unusedSimpArgs false
set_option maxRecDepth 100000
noncomputable section
abbrev VB (b : Bool) : DV UU := .one (.lit (.bool b))
abbrev VI (n : Int) : DV UU := .one (.lit (.int .i64 n))
abbrev VS (s : ByteArray) : DV UU := .one (.lit (.string s))
abbrev CI (n : Int) : CC := .lit (.int .i64 n)
abbrev CS (s : ByteArray) : CC := .lit (.string s)
abbrev CO (b : Bool) : CC := .lit (.bool b)
abbrev CL (τ : Cd) (xs : List τ.T) : CC := .sl τ xs
abbrev VL (τ : Cd) (xs : List τ.T) : DV UU := .one (.sl τ xs)
structure Q1(α:Type) where
 d:α→DV UU
 o:DV UU→Option α
 l:∀ v x,o v=some x→d x=v
structure QQ(α:Type) where
 d:α→List (DV UU)
 o:List (DV UU)→Option α
 l:∀ l x,o l=some x→d x=l
def q1{α:Type}(c:Q1 α):QQ α:=⟨fun x=>[c.d x],o1 c.o,l1 c.l⟩
def qC{α β:Type}(c:Q1 α)(r:QQ β):QQ (α×β):=⟨fun x=>c.d x.1::r.d x.2,oC c.o r.o,lC c.l r.l⟩
def qI:Q1 Int:=⟨dI,oI,lI⟩
def qY:Q1 Int:=⟨dY,oY,lY⟩
def qO:Q1 Bool:=⟨dO,oO,lO⟩
def qS:Q1 ByteArray:=⟨dS,oS,lS⟩
def qF:Q1 (List (DA UU)→Option Value):=⟨dF,oF,lF⟩
def qL(τ:Cd):Q1 (List τ.T):=⟨dL τ,oL τ,lL τ⟩
def qA(τ:Cd):Q1 τ.T:=⟨dA τ,oA τ,lA τ⟩
def qX(τ:Cd):Q1 τ.T:=⟨dX τ,oX τ,lX τ⟩
def bV{α:Type}(c:QQ α)(md:List Mode)(pre:α→List Prop)(nY:α→Res UU):jY UU:={α,md,of:=c.o,ds:=c.d,pre,nY,law:=c.l}
def aav{α:Type}(r t:Nat)(c:QQ α)(md:List Mode)(pre:α→List Prop)(nY:α→Res UU):jY UU:={α,md,of:=c.o,ds:=c.d,pre,nY,Ku:=r,cut:=t,law:=c.l}
def hF{f:FuncId}{fn:Func}(k:jY UU)(hf:EE.P.funcs[f]? =some fn)(l:List HH)(oG:k.α→Nat→Option (ul UU))(hw:∀x,(∀p∈k.pre x,p)→(∀d∈k.ds x,gW d)→aeA EE (us l) fn k oG x)(hc:Ep EE.P f fn k.md=true:=by kernel_rfl)(h0:k.Ku=0:=by rfl):HH:=⟨(f,k),holds_of rm hf k hc (us l) (xD _) oG hw h0⟩
def a0{α:Type}(_:α)(_:Nat):Option (ul UU):=none
abbrev LM(a b c d:List (DV UU)):Prop:=(0:Nat)=(0:Nat)∧dJ a=dJ b∧dJ c=dJ d
theorem wi{n:Int}(h:-9223372036854775808≤n:=by omega)(k:n≤9223372036854775807:=by omega):IntKind.wrap .i64 n=n:=wrap_i64 h k
abbrev L4(n:Nat):Prop:=n≤4294967296
abbrev L9(n:Nat):Prop:=n≤9223372036854775807
theorem vE{p:Prop}(q:Prop)(h:p=q:=by kernel_rfl)(x:q):p:=by rw[h];exact x
abbrev AX(k:jY UU):=k.α→Nat→Option (ul UU)
abbrev iO(s:Nat)(τ:Cd):It UU:=.slot s (s,1024) (.own τ true)
abbrev iI(s:Nat):It UU:=.slot s (s,1024) (.lit (.int .i64))
abbrev T0:=List bN×Int×List aw×List aj×List aN×List bq×Int×Int×Unit
abbrev T1:=ByteArray×Int×List cr×List dy×List ew×Unit
abbrev T2:=ByteArray×List bf×Unit
abbrev T3:=List bN×Int×Unit
abbrev T4:=List Int×Int×Int×Unit
abbrev T5:=ByteArray×List aS×Unit
abbrev T6:=Int×Int×ByteArray×Int×Int×ByteArray×Int×ByteArray×Int×Int×ByteArray×Unit
abbrev T7:=Int×ByteArray×List ct×Int×ByteArray×Unit
abbrev T8:=Int×List Int×List bZ×Unit
abbrev T9:=ByteArray×List bf×PUnit
abbrev OY:=ByteArray×List cI×Bool×Unit
abbrev Y':=ByteArray×Int×List cr×List dy×List ew×PUnit
abbrev OX:=List Int×Int×Int×PUnit
abbrev NB:=List bN×Int×PUnit
abbrev T14:=List bN×Int×List aw×List aj×List aN×List bq×Int×Int×PUnit
abbrev Y9:=List br×List sB×Int×Int×Unit
abbrev Uy:=ByteArray×List aS×PUnit
abbrev Y8:=Int×List Int×List bZ×PUnit
abbrev T18:=ByteArray×List cI×Bool×PUnit
abbrev T19:=Int×ByteArray×List aS×Unit
abbrev T20:=ByteArray×List aS×ByteArray×Int×Int×Int×Int×Int×ByteArray×Unit
abbrev T21:=Int×ByteArray×List aS×PUnit
abbrev T22:=Int×Int×ByteArray×Unit
theorem yT {p:Prop} [Decidable p] (h:decide p=true):p:=of_decide_eq_true h
theorem yF {p:Prop} [Decidable p] (h:decide p=false):¬p:=of_decide_eq_false h
abbrev BA:=ByteArray
instance:DecidableEq aS:=fun _ _=>Classical.propDecidable _
instance:DecidableEq aK:=fun _ _=>Classical.propDecidable _
instance:DecidableEq bN:=fun _ _=>Classical.propDecidable _
instance:DecidableEq aF:=fun _ _=>Classical.propDecidable _
instance:DecidableEq cI:=fun _ _=>Classical.propDecidable _
instance:DecidableEq cr:=fun _ _=>Classical.propDecidable _
instance:DecidableEq bZ:=fun _ _=>Classical.propDecidable _
instance:DecidableEq dy:=fun _ _=>Classical.propDecidable _
instance:DecidableEq ct:=fun _ _=>Classical.propDecidable _
instance:DecidableEq ew:=fun _ _=>Classical.propDecidable _
instance:DecidableEq bf:=fun _ _=>Classical.propDecidable _
instance:DecidableEq br:=fun _ _=>Classical.propDecidable _
instance:DecidableEq aw:=fun _ _=>Classical.propDecidable _
instance:DecidableEq de:=fun _ _=>Classical.propDecidable _
instance:DecidableEq aN:=fun _ _=>Classical.propDecidable _
instance:DecidableEq aj:=fun _ _=>Classical.propDecidable _
instance:DecidableEq qj:=fun _ _=>Classical.propDecidable _
instance:DecidableEq bq:=fun _ _=>Classical.propDecidable _
instance:DecidableEq aq:=fun _ _=>Classical.propDecidable _
instance:DecidableEq sB:=fun _ _=>Classical.propDecidable _
instance:DecidableEq k_:=fun _ _=>Classical.propDecidable _
theorem BR{α:Type}(p:List α)(l:List α)(z:α){i:Int}(hp:p.length=i.toNat)(h0:0<=i)(h:i<l.length):List.getD (p++l.drop i.toNat) i.toNat z=List.getD l i.toNat z:=by
 rw[ez,ez,zC (by omega),hp,Za,HB,J6]
theorem dV{α:Type}(f:α->Nat)(l:List α)(z:α){i:Int}(h0:0<=i)(h:i<l.length):f (List.getD l i.toNat z)<=(l.map f).sum:=by
 have h1:l=l.take i.toNat++List.getD l i.toNat z::l.drop (i+1).toNat:=by rw[<-eX l z h0 h,Ul]
 have h2:=congrArg (fun q=>(q.map f).sum) h1
 simp only[J9,wh,Zc,Mr] at h2
 omega
theorem getD_modify{α:Type}(l:List α)(z:α)(f:α->α)(i:Nat)(h:i<l.length):List.getD (l.modify i f) i z=f (List.getD l i z):=by
 rw[ez,ez,Uz,fw h];simp
theorem n7{α:Type}(l:List α)(f g:α->α)(i:Nat):(l.modify i f).modify i g=l.modify i (fun x=>g (f x)):=List.modify_modify_eq f g i l
theorem M0{α:Type}(l:List α)(z:α)(f:α->α)(i:Nat):l.modify i f=l.set i (f (List.getD l i z)):=by
 refine Uk fun j=> ?_
 rw[Uz,WR]
 by_cases hj:i=j
 ·subst hj
  rw[if_pos rfl]
  by_cases hi:i<l.length
  ·rw[if_pos hi,fw hi,ez,fw hi];simp
  ·rw[if_neg hi,od (by omega)];rfl
 ·rw[if_neg hj];simp[hj]
theorem dQ{α:Type}(p:α->Bool)(l:List α)(z:α){i:Int}(h0:0<=i)(h:i<l.length):(l.drop i.toNat).all p=(p (List.getD l i.toNat z)&&(l.drop (i+1).toNat).all p):=by
 rw[eX l z h0 h,QM]
theorem yV{α:Type}(p:α->Bool)(l:List α)(z:α){i:Int}(h0:0<=i)(h:i<l.length):(l.drop i.toNat).any p=(p (List.getD l i.toNat z)||(l.drop (i+1).toNat).any p):=by
 rw[eX l z h0 h,UA]
def bs(s:ByteArray):List UInt8:=s.data.toList
theorem pa(s:ByteArray):(bs s).length=s.size:=FU
theorem Hq(s:ByteArray):Array.toList (ByteArray.data s)=bs s:=rfl
def kf(p:Int->Bool)(b:UInt8):Bool:=p b.toNat
theorem Zu(b:UInt8):IntKind.wrap .i64 (b.toNat:Int)=b.toNat:=wrap_i64 (by omega) (by have:=b.toNat_lt;omega)
theorem nE{y:Bool}(h:y=true):Lf [.one (.lit (.bool true))] [.one (.lit (.bool y))]:=cj h.symm
theorem bG{y:Bool}(h:y=false):Lf [.one (.lit (.bool false))] [.one (.lit (.bool y))]:=cj h.symm
theorem dk{α:Type}(l:List α)(z:α){i:Int}(h0:0<=i)(h:i<l.length):l.take i.toNat++[List.getD l i.toNat z]=l.take (i+1).toNat:=by
 have hn:i.toNat<l.length:=by omega
 have e:(i+1).toNat=i.toNat+1:=by omega
 rw[e,zcz hn,ez,fw hn]
 rfl
theorem cE{α:Type}(l:List α){i:Int}(h:l.length<=i):l.take i.toNat=l:=Uj (by omega)
theorem yj{α:Type}(l:List α)(z:α){i:Int}(h0:0<=i)(h:i<l.length):List.getD l i.toNat z∈l:=by
 have hn:i.toNat<l.length:=by omega
 rw[ez,fw hn]
 exact FH hn
def rN(l:List Int):Nat:=l.length
def nX(a:aS):Nat:=a.S.size
def eu(l:List aS):Nat:=l.length+(l.map nX).sum
def db(a:aK):Nat:=a.Kind.size+eu a.ah
def jR(a:bN):Nat:=db a.F
def cd(l:List bN):Nat:=l.length+(l.map jR).sum
def jU(a:aF):Nat:=cd a.ab
def fh(a:cI):Nat:=a.S.size+nX a.V
def uF(l:List cI):Nat:=l.length+(l.map fh).sum
def ka(a:cr):Nat:=a.Kind.size+uF a.az
def kq(l:List cr):Nat:=l.length+(l.map ka).sum
def Q2(a:bZ):Nat:=a.Name.size+nX a.V
def rO(l:List bZ):Nat:=l.length+(l.map Q2).sum
def oj(a:dy):Nat:=fh a.L+fh a.R
def vr(l:List dy):Nat:=l.length+(l.map oj).sum
def iC(a:ct):Nat:=a.Op.size+fh a.L+fh a.R
def kB(l:List ct):Nat:=l.length+(l.map iC).sum
def gY(a:ew):Nat:=a.Name.size+kB a.az+a.aR.size
def rP(l:List ew):Nat:=l.length+(l.map gY).sum
def dM(a:bf):Nat:=a.Name.size+kq a.aH+vr a.aU+rP a.bI
def jV(l:List bf):Nat:=l.length+(l.map dM).sum
def cB(a:br):Nat:=a.Name.size+jV a.aA
def jg(a:aw):Nat:=rN a.ee+rO a.bz
def e_(l:List aw):Nat:=l.length+(l.map jg).sum
def h_(a:aN):Nat:=db a.F
def cR(l:List aN):Nat:=l.length+(l.map h_).sum
def lB(a:aj):Nat:=db a.F+a.aR.size+nX a.V
def ck(l:List aj):Nat:=l.length+(l.map lB).sum
def dq(a:bq):Nat:=a.Key.size+db a.F
def bw(l:List bq):Nat:=l.length+(l.map dq).sum
def cK(a:aq):Nat:=jU a.S+e_ a.ay+ck a.ag+cR a.ap+bw a.av
theorem IF{x:aS}(h:gW (dA .bc x)):x.S.size<=9223372036854775807:=Bd.str (U:=UU) (h _ (fA _ (fA _ (iy))))
theorem sj{x:aK}(h:gW (dA .dc x)):x.Kind.size<=9223372036854775807/\x.ah.length<=9223372036854775807:=⟨Bd.str (U:=UU) (h _ (iy)),Bd.len (U:=UU) (h _ (fA _ (iy)))⟩
theorem kP{x:aF}(h:gW (dA .cT x)):x.ab.length<=9223372036854775807:=Bd.len (U:=UU) (h _ (iy))
theorem Fi{x:aF}(h:gW (dX .cT x)):x.ab.length<=9223372036854775807:=Bd.len (U:=UU) (h _ (iy))
theorem IG{x:cr}(h:gW (dA .du x)):x.Kind.size<=9223372036854775807/\x.az.length<=9223372036854775807:=⟨Bd.str (U:=UU) (h _ (iy)),Bd.len (U:=UU) (h _ (fA _ (iy)))⟩
theorem lV{x:bf}(h:gW (dA .bE x)):x.Name.size<=9223372036854775807/\x.aH.length<=9223372036854775807/\x.aU.length<=9223372036854775807/\x.bI.length<=9223372036854775807:=⟨Bd.str (U:=UU) (h _ (iy)),Bd.len (U:=UU) (h _ (fA _ (fA _ (iy)))),Bd.len (U:=UU) (h _ (fA _ (fA _ (fA _ (iy))))),Bd.len (U:=UU) (h _ (fA _ (fA _ (fA _ (fA _ (iy))))))⟩
theorem kQ{x:br}(h:gW (dA .hH x)):x.Name.size<=9223372036854775807/\x.aA.length<=9223372036854775807:=⟨Bd.str (U:=UU) (h _ (iy)),Bd.len (U:=UU) (h _ (fA _ (iy)))⟩
theorem si{x:aw}(h:gW (dA .aE x)):x.ee.length<=9223372036854775807/\x.bz.length<=9223372036854775807:=⟨Bd.len (U:=UU) (h _ (fA _ (iy))),Bd.len (U:=UU) (h _ (fA _ (fA _ (iy))))⟩
theorem oD{x:aq}(h:gW (dA .cf x)):x.S.ab.length<=9223372036854775807/\x.ay.length<=9223372036854775807/\x.ag.length<=9223372036854775807/\x.ap.length<=9223372036854775807/\x.av.length<=9223372036854775807:=⟨Bd.len (U:=UU) (h _ (iy)),Bd.len (U:=UU) (h _ (fA _ (fA _ (iy)))),Bd.len (U:=UU) (h _ (fA _ (fA _ (fA _ (iy))))),Bd.len (U:=UU) (h _ (fA _ (fA _ (fA _ (fA _ (iy)))))),Bd.len (U:=UU) (h _ (fA _ (fA _ (fA _ (fA _ (fA _ (iy)))))))⟩
theorem nP{x:aq}(h:gW (dX .cf x)):x.S.ab.length<=9223372036854775807/\x.ay.length<=9223372036854775807/\x.ag.length<=9223372036854775807/\x.ap.length<=9223372036854775807/\x.av.length<=9223372036854775807:=⟨Bd.len (U:=UU) (h _ (iy)),Bd.len (U:=UU) (h _ (fA _ (fA _ (iy)))),Bd.len (U:=UU) (h _ (fA _ (fA _ (fA _ (iy))))),Bd.len (U:=UU) (h _ (fA _ (fA _ (fA _ (fA _ (iy)))))),Bd.len (U:=UU) (h _ (fA _ (fA _ (fA _ (fA _ (fA _ (iy)))))))⟩
theorem LP{x:k_}(h:gW (dA .oz x)):x.oN.length<=9223372036854775807/\x.jB.length<=9223372036854775807:=⟨Bd.len (U:=UU) (h _ (iy)),Bd.len (U:=UU) (h _ (fA _ (iy)))⟩
def lg(b:Int):Bool:=decide (97<=b/\b<=122)
def kV(b:Int):Bool:=lg b||decide (48<=b/\b<=57)||decide (b=95)
def qD(s:BA):Bool:=(bs s).all (kf kV)
def bu(s:BA):Bool:=decide (1<=s.size/\s.size<=12)&&lg ((bs s).getD 0 0).toNat&&qD s
def bB(v:aS):Bool:=bif decide (v.K=1) then decide (-1000000000<=v.N/\v.N<=1000000000)&&decide (v.S=ao) else bif decide (v.K=2) then decide (v.N=0)&&decide (v.S.size<=20)&&qD v.S else false
def bD(f:aK):Bool:=bu f.Kind&&decide (f.ah.length<=5)&&f.ah.all bB
def aok:=bV (α:=Int×Int×Int) (qC qI (qC qI (q1 qI))) [.ro,.ro,.ro] (fun _=>[]) (fun(n,least,aM)=>⟨[dO (decide (least<=n/\n<=aM))],[],[]⟩)
def FE:HH:=hF aok func30 [] a0 fun x hp hb=>by
 obtain⟨n,least,aM⟩:=x
 clear hp hb
 apply vE (bif decide (n≥least) then Lb (decide (n<=aM)) (decide (least<=n/\n<=aM)) else Lb false (decide (least<=n/\n<=aM)))
 refine ae (fun h=>cj ?_) (fun h=>cj ?_)<;>grind
def an3:=bV (α:=Int×Int×Int) (qC qI (qC qI (q1 qI))) [.ro,.ro,.ro] (fun _=>[]) (fun(x,least,aM)=>⟨[dO (decide (least<=x/\x<=aM))],[],[]⟩)
def tN:HH:=hF an3 func72 [] a0 fun x hp hb=>by
 obtain⟨x,least,aM⟩:=x
 clear hp hb
 apply vE (bif decide (x≥least) then Lb (decide (x<=aM)) (decide (least<=x/\x<=aM)) else Lb false (decide (least<=x/\x<=aM)))
 refine ae (fun h=>cj ?_) (fun h=>cj ?_)<;>grind
def agH:=bV (α:=Int) (q1 qY) [.ro] (fun _=>[]) (fun b=>⟨[dO (lg b)],[],[]⟩)
def YX:HH:=hF agH func139 [] a0 fun(b:Int) hp hb=>by
 skip
 clear hp hb
 apply vE (bif decide (b≥97) then Lb (decide (b<=122)) (lg b) else Lb false (lg b))
 refine ae (fun h=>cj ?_) (fun h=>cj ?_)<;>grind [lg]
def agb:=bV (α:=Int) (q1 qY) [.ro] (fun _=>[]) (fun b=>⟨[dO (decide (48<=b/\b<=57))],[],[]⟩)
def ahO:HH:=hF agb func223 [] a0 fun(b:Int) hp hb=>by
 skip
 clear hp hb
 apply vE (let q0:=decide (48<=b/\b<=57);bif decide (b≥48) then Lb (decide (b<=57)) q0 else Lb false q0)
 dsimp only
 refine ae (fun h=>cj ?_) (fun h=>cj ?_)<;>grind
def agp:=bV (α:=Int) (q1 qY) [.ro] (fun _=>[]) (fun b=>⟨[dO (kV b)],[],[]⟩)
def YN:HH:=hF agp func188 [YX,ahO] a0 fun(b:Int) hp hb=>by
 skip
 clear hp hb
 apply vE (bif lg b then Lb true (kV b) else bif decide (48<=b/\b<=57) then Lb true (kV b) else Lb (b==95) (kV b))
 refine ae (fun h=>cj ?_) (fun h=> ?_)
 ·grind [kV]
 refine ae (fun h=>cj ?_) (fun h=>cj ?_)<;>grind [kV]
def agL:=bV (α:=Int) (q1 qY) [.ro] (fun c=>[0<=c/\c<=255]) (fun c=>⟨[dO (kV c)],[],[]⟩)
def TU:HH:=hF agL func130 [tN] a0 fun(c:Int) hp hb=>by
 have bp:0<=c/\c<=255:=hp _ m0
 clear hp hb
 apply vE (bif decide (97<=wrap i64 c/\wrap i64 c<=122) then Lb true (kV c) else bif decide (48<=wrap i64 c/\wrap i64 c<=57) then Lb true (kV c) else Lb (c==95) (kV c))
 rw[wi]
 refine ae (fun h=>cj ?_) (fun h=> ?_)
 ·grind [kV,lg]
 refine ae (fun h=>cj ?_) (fun h=>cj ?_)<;>grind [kV,lg]
def Yn:=bV (α:=BA×Int) (qC qS (q1 qI)) [.ro,.ro] (fun _=>[]) (fun(s,aM)=>⟨[dO (decide (s.size<=aM)&&qD s)],[],[]⟩)
def Dw(s:BA)(aM:Int):Int×Unit->Prop:=fun(i,_)=>0<=i/\i<=s.size/\s.size<=aM/\((bs s).drop i.toNat).all (kf kV)=qD s
def CJ(s:BA)(aM:Int):Int×Unit->Nat:=fun(i,_)=>s.size-i.toNat
def ajU:AX Yn:=fun(s,aM)=>b_ [(4,aY [iI 5] (fun _=>Dw s aM) (CJ s aM))]
def YW:HH:=hF Yn func140 [YN] ajU fun x hp hb=>by
 obtain⟨s,aM⟩:=x
 have Sq:=Mp (s:=s) (hb _ m0)
 have Ih:=Hs (n:=aM) (hb _ m1)
 clear hp hb
 apply vE (let q0:=decide ((↑(ByteArray.size s):Int)<=aM)&&qD s;bif decide ((↑(ByteArray.size s):Int)>aM) then Lb false q0 else Dw s aM (0,())/\∀(y:Int×PUnit),let q1:=(wrap i64 (y.1+1),());Dw s aM y->bif decide (y.1<(↑(ByteArray.size s):Int)) then 0<=y.1/\y.1.toNat<ByteArray.size s/\bif !kV (↑(UInt8.toNat (s.data.toList.getD y.1.toNat (0:UInt8))):Int) then Lb false q0 else Dw s aM q1/\CJ s aM q1<CJ s aM y else Lb true q0)
 dsimp only
 refine ae (fun h=>bG ?_) (fun h=> ?_)
 ·have h:=yT h;rw[decide_eq_false (by omega)];rfl
 have h0:=yF h
 refine⟨⟨by omega,by omega,by omega,rfl⟩,?_⟩
 rintro⟨i,⟨⟩⟩ ⟨h1,h2,h3,hR⟩
 have hl:=pa s
 simp only[Hq]
 refine ae ?_ ?_<;>intro hc
 ·have hc:=yT hc
  rw[dQ _ _ 0 h1 (by omega)] at hR
  rw[wi]
  refine⟨by omega,by omega,ae (fun h=>bG ?_) (fun h=>⟨⟨by omega,by omega,by omega,?_⟩,?_⟩)⟩
  ·rw[<-hR];simp only[kf];simp at h;simp[h]
  ·rw[<-hR];simp only[kf];simp at h;simp[h]
  ·simp only[CJ];omega
 ·have hc:=yF hc
  rw[cy _ (by omega)] at hR
  exact nE (by rw[<-hR,decide_eq_true h3];rfl)
def anY:=bV (α:=BA) (q1 qS) [.ro] (fun _=>[]) (fun s=>⟨[dO (bu s)],[],[]⟩)
def NA:HH:=hF anY func83 [YX,YW] a0 fun(s:BA) hp hb=>by
 clear hp hb
 apply vE (bif decide ((↑(ByteArray.size s):Int)>0) then(0:Int)<=(0:Int)/\Int.toNat 0<ByteArray.size s/\bif lg (↑(UInt8.toNat (s.data.toList.getD (Int.toNat 0) (0:UInt8))):Int) then Lb (decide ((↑(ByteArray.size s):Int)<=12)&&qD s) (bu s) else Lb false (bu s) else Lb false (bu s))
 have hl:=pa s
 simp only[Hq]
 refine ae (fun h=> ?_) (fun h=>bG ?_)
 ·have h:=yT h
  refine⟨by omega,by omega,ae (fun h'=>cj ?_) (fun h'=>bG ?_)⟩
  ·have h':lg (((bs s).getD 0 0).toNat:Int)=true:=h'
   simp only[bu,h']
   have e:decide (1<=s.size/\s.size<=12)=decide ((s.size:Int)<=12):=by rw[decide_eq_decide];omega
   rw[e];simp
  ·have h':lg (((bs s).getD 0 0).toNat:Int)=false:=h'
   simp only[bu,h'];grind
 ·have h:=yF h
  simp only[bu];rw[decide_eq_false (by omega)];rfl
def Yw:=bV (α:=BA) (q1 qS) [.ro] (fun _=>[]) (fun s=>⟨[dO (bu s)],[],[]⟩)
def DG(s:BA):Int×Unit->Prop:=fun(i,_)=>0<=i/\i<=s.size/\((bs s).drop i.toNat).all (kf kV)=qD s/\(0<i->lg ((bs s).getD 0 0).toNat=true)
def zb(s:BA):Int×Unit->Nat:=fun(i,_)=>s.size-i.toNat
def aj3:AX Yw:=fun s=>b_ [(2,aY [iI 3] (fun _=>DG s) (zb s))]
def Bw:HH:=hF Yw func121 [TU,tN] aj3 fun(s:BA) hp hb=>by
 have Sq:=Mp (s:=s) (hb _ m0)
 clear hp hb
 apply vE (let q0:=(↑(ByteArray.size s):Int);DG s (0,())/\∀(y:Int×PUnit),let x0:=(↑(UInt8.toNat (s.data.toList.getD y.1.toNat (0:UInt8))):Int);let q1:=(wrap i64 (y.1+1),());let q2:=DG s q1/\zb s q1<zb s y;DG s y->bif decide (y.1<q0) then 0<=y.1/\y.1.toNat<ByteArray.size s/\(0<=x0/\x0<=255)/\bif !kV x0 then Lb false (bu s) else bif y.1==0 then 0<=y.1/\y.1.toNat<ByteArray.size s/\bif !decide (97<=wrap i64 x0/\wrap i64 x0<=122) then Lb false (bu s) else q2 else q2 else Lb (decide (1<=q0/\q0<=12)) (bu s))
 dsimp only
 refine⟨⟨by omega,by omega,rfl,by omega⟩,?_⟩
 rintro⟨i,⟨⟩⟩ ⟨h1,h2,hR,hS⟩
 have hl:=pa s
 simp only[Hq,Zu]
 refine ae ?_ ?_<;>intro hc
 ·have hc:=yT hc
  have hb:=((bs s).getD i.toNat 0).toNat_lt
  rw[dQ _ _ 0 h1 (by omega)] at hR
  rw[wi]
  have hN:qD s=false->bu s=false:=fun h=>by simp[bu,h]
  refine⟨by omega,by omega,⟨by omega,by omega⟩,ae (fun h=>bG (hN ?_)) (fun h=>ae (fun h'=>⟨by omega,by omega,ae (fun o9=>bG ?_) (fun o9=>⟨⟨by omega,by omega,?_,fun _=> ?_⟩,?_⟩)⟩) (fun h'=>⟨⟨by omega,by omega,?_,fun _=>hS ?_⟩,?_⟩))⟩
  ·rw[<-hR];simp only[kf];simp at h;simp[h]
  ·have h':i=0:=by simpa using h'
   subst h'
   have o9:lg (((bs s).getD 0 0).toNat:Int)=false:=by simp only[lg];grind
   simp only[bu,o9];grind
  ·rw[<-hR];simp only[kf];simp at h;simp[h]
  ·have h':i=0:=by simpa using h'
   subst h'
   simpa[lg] using o9
  ·simp only[zb];omega
  ·rw[<-hR];simp only[kf];simp at h;simp[h]
  ·have h':¬i=0:=by simpa using h'
   omega
  ·simp only[zb];omega
 ·have hc:=yF hc
  rw[cy _ (by omega)] at hR
  refine cj ?_
  simp only[bu,<-hR]
  by_cases hz:0<i
  ·rw[hS hz];simp only[QI];grind
  ·rw[decide_eq_false (by omega),decide_eq_false (by omega)];rfl
def afl:=bV (α:=BA) (q1 qS) [.ro] (fun _=>[]) (fun s=>⟨[dO (decide (s.size<=20)&&qD s)],[],[]⟩)
def Jw(s:BA):Int×Unit->Prop:=fun(i,_)=>0<=i/\i<=s.size/\((bs s).drop i.toNat).all (kf kV)=qD s
def IW(s:BA):Int×Unit->Nat:=fun(i,_)=>s.size-i.toNat
def apw:AX afl:=fun s=>b_ [(2,aY [iI 3] (fun _=>Jw s) (IW s))]
def aoL:HH:=hF afl func77 [TU] apw fun(s:BA) hp hb=>by
 have Sq:=Mp (s:=s) (hb _ m0)
 clear hp hb
 apply vE (let q0:=decide (ByteArray.size s<=20)&&qD s;Jw s (0,())/\∀(y:Int×PUnit),let x0:=(↑(UInt8.toNat (s.data.toList.getD y.1.toNat (0:UInt8))):Int);let q1:=(wrap i64 (y.1+1),());Jw s y->bif decide (y.1<(↑(ByteArray.size s):Int)) then 0<=y.1/\y.1.toNat<ByteArray.size s/\(0<=x0/\x0<=255)/\bif !kV x0 then Lb false q0 else Jw s q1/\IW s q1<IW s y else Lb (decide ((↑(ByteArray.size s):Int)<=20)) q0)
 dsimp only
 refine⟨⟨by omega,by omega,rfl⟩,?_⟩
 rintro⟨i,⟨⟩⟩ ⟨h1,h2,hR⟩
 have hl:=pa s
 simp only[Hq]
 refine ae ?_ ?_<;>intro hc
 ·have hc:=yT hc
  have hb:=((bs s).getD i.toNat 0).toNat_lt
  rw[dQ _ _ 0 h1 (by omega)] at hR
  rw[wi]
  refine⟨by omega,by omega,⟨by omega,by omega⟩,ae (fun h=>bG ?_) (fun h=>⟨⟨by omega,by omega,?_⟩,?_⟩)⟩
  ·rw[<-hR];simp only[kf];simp at h;simp[h]
  ·rw[<-hR];simp only[kf];simp at h;simp[h]
  ·simp only[IW];omega
 ·have hc:=yF hc
  rw[cy _ (by omega)] at hR
  refine cj ?_
  rw[<-hR];simp;omega
def agX:=bV (α:=aS) (q1 (qA .bc)) [.ro] (fun _=>[]) (fun v=>⟨[dO (bB v)],[],[]⟩)
def Mc:HH:=hF agX func112 [FE,YW] a0 fun(v:aS) hp hb=>by
 clear hp hb
 apply vE (bif v.K==1 then bif decide ((-1000000000)<=v.N/\v.N<=1000000000) then Lb (ByteArray.toList v.S==ByteArray.toList {data:= #[]:BA}) (bB v) else Lb false (bB v) else bif v.K==2 then bif v.N==0 then Lb (decide ((↑(ByteArray.size v.S):Int)<=20)&&qD v.S) (bB v) else Lb false (bB v) else Lb false (bB v))
 have e:(ByteArray.toList (aS.S v)==ByteArray.toList {data:= #[]})=decide (v.S=ao):=aQ _ _
 simp only[e,bB]
 repeat' (refine ae (fun h=> ?_) (fun h=> ?_))
 all_goals (refine cj ?_;grind)
def aom:=bV (α:=aS) (q1 (qA .bc)) [.ro] (fun _=>[]) (fun v=>⟨[dO (bB v)],[],[]⟩)
def TQ:HH:=hF aom func22 [tN,aoL] a0 fun(v:aS) hp hb=>by
 clear hp hb
 apply vE (bif v.K==1 then bif decide ((-1000000000)<=v.N/\v.N<=1000000000) then Lb (ByteArray.toList v.S==ByteArray.toList {data:= #[]:BA}) (bB v) else Lb false (bB v) else bif v.K==2 then bif decide (ByteArray.size v.S<=20)&&qD v.S then Lb (v.N==0) (bB v) else Lb false (bB v) else Lb false (bB v))
 have e:(ByteArray.toList (aS.S v)==ByteArray.toList {data:= #[]})=decide (v.S=ao):=aQ _ _
 simp only[e,bB]
 repeat' (refine ae (fun h=> ?_) (fun h=> ?_))
 all_goals (refine cj ?_;grind)
def X8:=bV (α:=List aS) (q1 (qL .bc)) [.ro] (fun _=>[]) (fun l=>⟨[dO (decide (l.length<=5)&&l.all bB)],[],[]⟩)
def Dm(l:List aS):Int×Unit->Prop:=fun(i,_)=>0<=i/\i<=l.length/\(l.drop i.toNat).all bB=l.all bB
def Cz(l:List aS):Int×Unit->Nat:=fun(i,_)=>l.length-i.toNat
def ajC:AX X8:=fun l=>b_ [(2,aY [iI 3] (fun _=>Dm l) (Cz l))]
def aif:HH:=hF X8 func181 [TQ] ajC fun(l:List aS) hp hb=>by
 have j8:L9 l.length:=lu (hb _ m0)
 clear hp hb
 apply vE (let x0:=(l.length:Int);let q0:=decide (l.length<=5)&&l.all bB;Dm l (0,())/\∀(y:Int×PUnit),let q1:=(wrap i64 (y.1+1),());Dm l y->bif decide (y.1<x0) then 0<=y.1/\y.1.toNat<l.length/\bif !bB (l.getD y.1.toNat dE) then Lb false q0 else Dm l q1/\Cz l q1<Cz l y else Lb (decide (x0<=5)) q0)
 dsimp only
 refine⟨⟨by omega,by omega,rfl⟩,?_⟩
 rintro⟨i,⟨⟩⟩ ⟨h1,h2,hR⟩
 simp only
 refine ae ?_ ?_<;>intro hc
 ·have hc:=yT hc
  rw[dQ _ _ dE h1 (by omega)] at hR
  rw[wi]
  refine⟨by omega,by omega,ae (fun h=>bG ?_) (fun h=>⟨⟨by omega,by omega,?_⟩,?_⟩)⟩
  ·rw[<-hR];simp at h;simp[h]
  ·rw[<-hR];simp at h;simp[h]
  ·simp only[Cz];omega
 ·have hc:=yF hc
  rw[cy _ (by omega)] at hR
  refine cj ?_
  rw[<-hR];simp;omega
def agQ:=bV (α:=aK) (q1 (qA .dc)) [.ro] (fun _=>[]) (fun f=>⟨[dO (bD f)],[],[]⟩)
def FG:HH:=hF agQ func122 [Bw,aif] a0 fun(f:aK) hp hb=>by
 clear hp hb
 apply vE (bif bu f.Kind then Lb (decide (f.ah.length<=5)&&f.ah.all bB) (bD f) else Lb false (bD f))
 simp only[bD]
 refine ae (fun h=>cj ?_) (fun h=>cj ?_)<;>grind
def afg:=bV (α:=aK) (q1 (qA .dc)) [.ro] (fun _=>[]) (fun f=>⟨[dO (bD f)],[],[]⟩)
def Jq(f:aK):Int×Unit->Prop:=fun(i,_)=>0<=i/\i<=f.ah.length/\f.ah.length<=5/\bu f.Kind=true/\(f.ah.drop i.toNat).all bB=f.ah.all bB
def IQ(f:aK):Int×Unit->Nat:=fun(i,_)=>f.ah.length-i.toNat
def apr:AX afg:=fun f=>b_ [(4,aY [iI 18] (fun _=>Jq f) (IQ f))]
def Nz:HH:=hF afg func86 [NA,Mc] apr fun(f:aK) hp hb=>by
 clear hp hb
 apply vE (let x0:=(f.ah.length:Int);bif !bu f.Kind then Lb false (bD f) else bif decide (x0>5) then Lb false (bD f) else Jq f (0,())/\∀(y:Int×PUnit),let q0:=(wrap i64 (y.1+1),());Jq f y->bif decide (y.1<x0) then 0<=y.1/\y.1.toNat<f.ah.length/\bif !bB (f.ah.getD y.1.toNat dE) then Lb false (bD f) else Jq f q0/\IQ f q0<IQ f y else Lb true (bD f))
 dsimp only
 refine ae (fun h=>cj ?_) (fun h=>ae (fun h'=>cj ?_) (fun h'=>⟨⟨by omega,by omega,by simp at h';omega,by simpa using h,rfl⟩,?_⟩))
 ·simp only[bD];grind
 ·simp only[bD];grind
 rintro⟨i,⟨⟩⟩ ⟨h1,h2,h3,h4,hR⟩
 simp only
 refine ae ?_ ?_<;>intro hc
 ·have hc:=yT hc
  rw[dQ _ _ dE h1 (by omega)] at hR
  rw[wi]
  refine⟨by omega,by omega,ae (fun h=>bG ?_) (fun h=>⟨⟨by omega,by omega,by omega,h4,?_⟩,?_⟩)⟩
  ·simp only[bD];rw[<-hR];simp at h;simp[h]
  ·rw[<-hR];simp at h;simp[h]
  ·simp only[IQ];omega
 ·have hc:=yF hc
  rw[cy _ (by omega)] at hR
  refine cj ?_
  simp only[bD,<-hR,h4];simp;omega
def allI(n:Nat)(p:Nat->Bool):Bool:=(List.range n).all p
theorem ix{n:Nat}{p:Nat->Bool}(h:∀j,j<n->p j=true):allI n p=true:=by simpa[allI] using h
theorem gT{n:Nat}{p:Nat->Bool}{j:Nat}(h:j<n)(hj:p j=false):allI n p=false:=by
 simp only[allI,List.all_eq_false,pD]
 exact⟨j,h,by simp[hj]⟩
theorem fZ{i:Int}{p:Nat->Bool}(h0:0<=i)(h:∀j:Nat,(j:Int)<i->p j=true)(hi:p i.toNat=true):∀j:Nat,(j:Int)<i+1->p j=true:=by
 intro j hj
 by_cases Xk:(j:Int)<i
 ·exact h j Xk
 ·have:j=i.toNat:=by omega
  subst this;exact hi
def iB(x:aN):Bool:=decide (0<=x.At/\x.At<=1000000000)&&bD x.F
def jF(l:List aN)(i:Nat):Bool:=iB (l.getD i cO)&&(decide (i=0)||decide ((l.getD (i-1) cO).At<=(l.getD i cO).At))
def dl(l:List aN):Bool:=decide (l.length<=30)&&allI l.length (jF l)
def aoj:=bV (α:=Int) (q1 qI) [.ro] (fun _=>[]) (fun n=>⟨[dO (decide (0<=n/\n<=1000000000))],[],[]⟩)
def abP:HH:=hF aoj func31 [FE] a0 fun(n:Int) hp hb=>by
 clear hp hb
 apply vE (let q0:=decide (0<=n/\n<=1000000000);Lb q0 q0)
 dsimp only
 exact aX _
def anU:=bV (α:=aN) (q1 (qA .aI)) [.ro] (fun _=>[]) (fun x=>⟨[dO (iB x)],[],[]⟩)
def aoE:HH:=hF anU func89 [abP,Nz] a0 fun(x:aN) hp hb=>by
 clear hp hb
 apply vE (bif decide (0<=x.At/\x.At<=1000000000) then Lb (bD x.F) (iB x) else Lb false (iB x))
 simp only[iB]
 refine ae (fun h=>cj ?_) (fun h=>cj ?_)<;>grind
def agN:=bV (α:=aN) (q1 (qA .aI)) [.ro] (fun _=>[]) (fun x=>⟨[dO (iB x)],[],[]⟩)
def Y1:HH:=hF agN func126 [tN,FG] a0 fun(x:aN) hp hb=>by
 clear hp hb
 apply vE (bif decide (0<=x.At/\x.At<=1000000000) then Lb (bD x.F) (iB x) else Lb false (iB x))
 simp only[iB]
 refine ae (fun h=>cj ?_) (fun h=>cj ?_)<;>grind
def afK:=bV (α:=List aN) (q1 (qL .aI)) [.ro] (fun _=>[]) (fun l=>⟨[dO (dl l)],[],[]⟩)
def FB(l:List aN):Int×Unit->Prop:=fun(i,_)=>0<=i/\i<=l.length/\l.length<=30/\∀j:Nat,(j:Int)<i->jF l j=true
def AF(l:List aN):Int×Unit->Nat:=fun(i,_)=>l.length-i.toNat
def apU:AX afK:=fun l=>b_ [(4,aY [iI 10] (fun _=>FB l) (AF l))]
def apa:HH:=hF afK func28 [aoE] apU fun(l:List aN) hp hb=>by
 clear hp hb
 apply vE (let x0:=(l.length:Int);let q0:=Lb false (dl l);bif decide (x0>30) then q0 else FB l (0,())/\∀(y:Int×PUnit),let x2:=Int.toNat (wrap i64 (y.1-1));let x1:=(l.getD x2 cO).At;let q1:=(wrap i64 (y.1+1),());FB l y->bif decide (y.1<x0) then 0<=y.1/\y.1.toNat<l.length/\bif !iB (l.getD y.1.toNat cO) then q0 else bif decide (y.1>0) then 0<=wrap i64 (y.1-1)/\x2<l.length/\bif decide (x1>(l.getD y.1.toNat cO).At) then q0 else FB l q1/\AF l q1<AF l y else FB l q1/\AF l q1<AF l y else Lb true (dl l))
 dsimp only
 refine ae (fun h=>bG ?_) (fun h=>⟨⟨by omega,by omega,by have h:=yF h;omega,by intro j hj;omega⟩,?_⟩)
 ·have h:=yT h;simp only[dl];rw[decide_eq_false (by omega)];rfl
 rintro⟨i,⟨⟩⟩ ⟨h1,h2,h3,hR⟩
 simp only
 refine ae ?_ ?_<;>intro hc
 ·have hc:=yT hc
  have hN:jF l i.toNat=false->dl l=false:=fun h=>by
   have hf:allI l.length (jF l)=false:=gT (j:=i.toNat) (by omega) h
   simp only[dl,hf];simp
  simp(disch:=omega) only[wrap_i64]
  have e1:(i-1).toNat=i.toNat-1:=by omega
  simp only[e1]
  refine⟨by omega,by omega,ae (fun h=>bG (hN ?_)) (fun h=>ae (fun h'=>⟨by have:=yT h';omega,by have:=yT h';omega,ae (fun o9=>bG (hN ?_)) (fun o9=>⟨⟨by omega,by omega,h3,fZ h1 hR ?_⟩,?_⟩)⟩) (fun h'=>⟨⟨by omega,by omega,h3,fZ h1 hR ?_⟩,?_⟩))⟩
  all_goals (first|(simp only[AF];omega)|(simp only[jF];grind))
 ·have hc:=yF hc
  have hA:allI l.length (jF l)=true:=ix fun j hj=>hR j (by omega)
  refine cj ?_
  simp only[dl,hA];grind
def afp:=bV (α:=List aN) (q1 (qL .aI)) [.ro] (fun _=>[]) (fun l=>⟨[dO (dl l)],[],[]⟩)
def Fx(l:List aN):Int×Unit->Prop:=fun(i,_)=>0<=i/\i<=l.length/\∀j:Nat,(j:Int)<i->jF l j=true
def AA(l:List aN):Int×Unit->Nat:=fun(i,_)=>l.length-i.toNat
def apA:AX afp:=fun l=>b_ [(2,aY [iI 3] (fun _=>Fx l) (AA l))]
def ahb:HH:=hF afp func70 [Y1] apA fun(l:List aN) hp hb=>by
 have j8:L9 l.length:=lu (hb _ m0)
 clear hp hb
 apply vE (let x0:=(l.length:Int);Fx l (0,())/\∀(y:Int×PUnit),let x2:=Int.toNat (wrap i64 (y.1-1));let x1:=(l.getD x2 cO).At;let q0:=(wrap i64 (y.1+1),());Fx l y->bif decide (y.1<x0) then 0<=y.1/\y.1.toNat<l.length/\bif !iB (l.getD y.1.toNat cO) then Lb false (dl l) else bif decide (y.1>0) then 0<=wrap i64 (y.1-1)/\x2<l.length/\0<=y.1/\y.1.toNat<l.length/\bif decide (x1>(l.getD y.1.toNat cO).At) then Lb false (dl l) else Fx l q0/\AA l q0<AA l y else Fx l q0/\AA l q0<AA l y else Lb (decide (x0<=30)) (dl l))
 dsimp only
 refine⟨⟨by omega,by omega,by intro j hj;omega⟩,?_⟩
 rintro⟨i,⟨⟩⟩ ⟨h1,h2,hR⟩
 simp only
 refine ae ?_ ?_<;>intro hc
 ·have hc:=yT hc
  have hN:jF l i.toNat=false->dl l=false:=fun h=>by
   have hf:allI l.length (jF l)=false:=gT (j:=i.toNat) (by omega) h
   simp only[dl,hf];simp
  simp(disch:=omega) only[wrap_i64]
  have e1:(i-1).toNat=i.toNat-1:=by omega
  simp only[e1]
  refine⟨by omega,by omega,ae (fun h=>bG (hN ?_)) (fun h=>ae (fun h'=>⟨by have:=yT h';omega,by have:=yT h';omega,by omega,by omega,ae (fun o9=>bG (hN ?_)) (fun o9=>⟨⟨by omega,by omega,fZ h1 hR ?_⟩,?_⟩)⟩) (fun h'=>⟨⟨by omega,by omega,fZ h1 hR ?_⟩,?_⟩))⟩
  all_goals (first|(simp only[AA];omega)|(simp only[jF];grind))
 ·have hc:=yF hc
  have hA:allI l.length (jF l)=true:=ix fun j hj=>hR j (by omega)
  refine cj ?_
  simp only[dl,hA];grind
def jJ(n:Nat)(p:Nat->Bool):Int:=match(List.range n).find? p with|some i=>i|none=> -1
def anyI(n:Nat)(p:Nat->Bool):Bool:=(List.range n).any p
theorem fE{n i:Nat}{p:Nat->Bool}(h:i<n)(hp:p i=true)(hj:∀j,j<i->p j=false):jJ n p=i:=by
 have:(List.range n).find? p=some i:=by
  rw[List.find?_range_eq_some]
  exact⟨hp,pD.2 h,fun j ue=>by simp[hj j ue]⟩
 simp[jJ,this]
theorem jl{n:Nat}{p:Nat->Bool}(hj:∀j,j<n->p j=false):jJ n p= -1:=by
 have:(List.range n).find? p=none:=by
  rw[zeb]
  intro j ue
  simp[hj j (pD.1 ue)]
 simp[jJ,this]
theorem ig(n:Nat)(p:Nat->Bool):(jJ n p= -1/\∀j,j<n->p j=false)\/∃i,i<n/\jJ n p=(i:Int)/\p i=true/\∀j,j<i->p j=false:=by
 cases h:(List.range n).find? p with
 |none=>
  refine .inl ⟨by simp[jJ,h],fun j hj=> ?_⟩
  have:=zeb.1 h j (pD.2 hj)
  simpa using this
 |some i=>
  rw[List.find?_range_eq_some] at h
  obtain⟨h1,h2,h3⟩:=h
  exact .inr ⟨i,pD.1 h2,fE (pD.1 h2) h1 (fun j hj=>by simpa using h3 j hj),h1,fun j hj=>by simpa using h3 j hj⟩
theorem pS{n:Nat}{p q:Nat->Bool}(h:∀j,j<n->p j=q j):jJ n p=jJ n q:=by
 rcases ig n q with⟨h1,h2⟩|⟨i,h1,h2,h3,h4⟩
 ·rw[h1,jl (fun j hj=>by rw[h j hj,h2 j hj])]
 ·rw[h2,fE h1 (by rw[h i h1,h3]) (fun j hj=>by rw[h j (by omega),h4 j hj])]
theorem iw{n j:Nat}{p:Nat->Bool}(h:j<n)(hp:p j=true):anyI n p=true:=by
 simp only[anyI,vm,pD]
 exact⟨j,h,hp⟩
theorem gj{n:Nat}{p:Nat->Bool}(h:∀j,j<n->p j=false):anyI n p=false:=by
 simp only[anyI,List.any_eq_false,pD]
 exact fun j hj=>by simp[h j hj]
theorem yW{n:Nat}{p:Nat->Bool}:anyI n p=true↔∃j,j<n/\p j=true:=by
 simp only[anyI,vm,pD]
theorem oE{n:Nat}{p:Nat->Bool}:anyI n p=false↔∀j,j<n->p j=false:=by
 simp only[anyI,List.any_eq_false,pD,wu]
theorem yZ{n:Nat}{p:Nat->Bool}:allI n p=true↔∀j,j<n->p j=true:=by
 simp only[allI,sC,pD]
theorem nR{n:Nat}{p q:Nat->Bool}(h:∀j,j<n->p j=q j):anyI n p=anyI n q:=by
 rw[FJ,yW,yW]
 exact⟨fun⟨j,h1,h2⟩=>⟨j,h1,by rw[<-h j h1];exact h2⟩,fun⟨j,h1,h2⟩=>⟨j,h1,by rw[h j h1];exact h2⟩⟩
theorem BT{n:Nat}{p:Nat->Bool}:decide (0<=jJ n p)=anyI n p:=by
 rcases ig n p with⟨h1,h2⟩|⟨i,h1,h2,h3,h4⟩
 ·rw[h1,gj h2];rfl
 ·rw[h2,iw h1 h3];simp
theorem getD_take{α:Type}(l:List α)(z:α){i j:Nat}(h:j<i):(l.take i).getD j z=l.getD j z:=by
 rw[ez,ez,qn,if_pos h]
theorem se{k:jY UU}{qa:List (DV UU)}{ds:List (DA UU)}{x:k.α}{v:Value}(h:k.of (ds.map DA.dv++qa)=some x)(hv:(k.nY x).val=[.one (.lit v)])(hm:(k.nY x).KW=[])
  (hl:k.md.length=ds.length+qa.length) (hp:∀p∈k.pre x,p):ff k qa ds=some v:=by
 unfold ff
 simp only[h,hv,hm]
 rw[if_pos ⟨hl,hp⟩]
theorem gG(a b:aS):(a.K==b.K&&(a.N==b.N&&(ByteArray.toList a.S==ByteArray.toList b.S&&true)))=decide (a=b):=by
 obtain⟨K,N,S⟩:=a
 obtain⟨K',N',S'⟩:=b
 simp only[aQ,BL]
 rw[FJ]
 simp only[cJ,beq_iff_eq,decide_eq_true_eq,aS.mk.injEq]
theorem i_{i:Int}{p:Nat->Bool}(h0:0<=i)(h:∀j:Nat,(j:Int)<i->p j=false)(hi:p i.toNat=false):∀j:Nat,(j:Int)<i+1->p j=false:=by
 intro j hj
 by_cases Xk:(j:Int)<i
 ·exact h j Xk
 ·have:j=i.toNat:=by omega
  subst this;exact hi
def gS(x:bq):DA UU:=⟨true,[.lit (.string x.Key),.lit (.string x.F.Kind),.sl .bc x.F.ah]⟩
def jE(l:List bq)(i:Nat):Bool:=decide (1<=(l.getD i bS).Key.size/\(l.getD i bS).Key.size<=200)&&bD (l.getD i bS).F&& !(anyI i fun k=>decide ((l.getD k bS).Key=(l.getD i bS).Key))
def cX(l:List bq):Bool:=decide (l.length<=30)&&allI l.length (jE l)
def s_(l:List bq)(key:BA):Bool:=anyI l.length fun k=>decide ((l.getD k bS).Key=key)
def X0:=bV (α:=(List bq)×(List (DA UU)->Option Value)) (qC (qL .aL) (q1 qF)) [.ro,.ro] (fun(l,p)=>[∀j:Nat,j<l.length->p [gS (l.getD j bS)]=some (.bool (bL (p [gS (l.getD j bS)])))]) (fun(l,p)=>⟨[dI (jJ l.length (fun j=>bL (p [gS (l.getD j bS)])))],[],[]⟩)
def Df(l:List bq)(p:(List (DA UU)->Option Value)):Int×Unit->Prop:=fun(i,_)=>0<=i/\i<=l.length/\∀j:Nat,(j:Int)<i->bL (p [gS (l.getD j bS)])=false
def Ct(l:List bq)(p:(List (DA UU)->Option Value)):Int×Unit->Nat:=fun(i,_)=>l.length-i.toNat
def aju:AX X0:=fun(l,p)=>b_ [(2,aY [iI 8] (fun _=>Df l p) (Ct l p))]
def ah8:HH:=hF X0 func194 [] aju fun x hp hb=>by
 obtain⟨l,p⟩:=x
 have j8:L9 l.length:=lu (hb _ m0)
 have bp:∀j:Nat,j<l.length->p [gS (l.getD j bS)]=some (.bool (bL (p [gS (l.getD j bS)]))):=hp _ m0
 clear hp hb
 apply vE (Df l p (0,())/\∀(y:Int×PUnit),let x0:=bL (p [{agg:=true,cs:=[CS ((l.getD y.1.toNat bS).Key),CS ((l.getD y.1.toNat bS).F.Kind),CL .bc (l.getD y.1.toNat bS).F.ah]:DA UU}]);let q0:=l.getD y.1.toNat bS;let q1:=(wrap i64 (y.1+1),());Df l p y->bif decide (y.1<(l.length:Int)) then 0<=y.1/\y.1.toNat<l.length/\p [{agg:=true,cs:=[CS (q0.Key),CS (q0.F.Kind),CL .bc q0.F.ah]:DA UU}]=some (Value.bool x0)/\bif x0 then Li y.1 (jJ (l.length) fun(j:Nat)=>bL (p [gS (l.getD j bS)])) else Df l p q1/\Ct l p q1<Ct l p y else Li (-1) (jJ (l.length) fun(j:Nat)=>bL (p [gS (l.getD j bS)])))
 dsimp only
 refine⟨⟨by omega,by omega,by intro j hj;omega⟩,?_⟩
 rintro⟨i,⟨⟩⟩ ⟨h1,h2,hR⟩
 simp only[gS] at*
 refine ae ?_ ?_<;>intro hc
 ·have hc:=yT hc
  rw[wi]
  refine⟨by omega,by omega,bp i.toNat (by omega),ae (fun h=>oM ?_) (fun h=>⟨⟨by omega,by omega,i_ (p:=fun j=>bL (p [gS (l.getD j bS)])) h1 hR h⟩,by simp only[Ct];omega⟩)⟩
  rw[fE (i:=i.toNat) (by omega) h (fun j hj=>hR j (by omega))]
  omega
 ·have hc:=yF hc
  exact oM (jl (fun j hj=>hR j (by omega))).symm
def agC:=bV (α:=(List bq)×(List (DA UU)->Option Value)) (qC (qL .aL) (q1 qF)) [.ro,.ro] (fun(l,p)=>[∀j:Nat,j<l.length->p [gS (l.getD j bS)]=some (.bool (bL (p [gS (l.getD j bS)])))]) (fun(l,p)=>⟨[dO (anyI l.length (fun j=>bL (p [gS (l.getD j bS)])))],[],[]⟩)
def aiB:HH:=hF agC func151 [ah8] a0 fun x hp hb=>by
 obtain⟨l,p⟩:=x
 have bp:∀j:Nat,j<l.length->p [gS (l.getD j bS)]=some (.bool (bL (p [gS (l.getD j bS)]))):=hp _ m0
 clear hp hb
 apply vE (let x0:=jJ (l.length) fun(j:Nat)=>bL (p [gS (l.getD j bS)]);(∀(j:Nat),j<l.length->p [gS (l.getD j bS)]=some (Value.bool (bL (p [gS (l.getD j bS)]))))/\Lb (decide (x0≥0)) (anyI (l.length) fun(j:Nat)=>bL (p [gS (l.getD j bS)])))
 dsimp only
 exact⟨bp,cj (by rw[<-BT])⟩
def anT:=bV (α:=BA) (q1 qS) [.ro] (fun _=>[]) (fun s=>⟨[dO (decide (1<=s.size/\s.size<=200))],[],[]⟩)
def aoD:HH:=hF anT func90 [FE] a0 fun(s:BA) hp hb=>by
 clear hp hb
 apply vE (Lb (decide (1<=(↑(ByteArray.size s):Int)/\(↑(ByteArray.size s):Int)<=200)) (decide (1<=ByteArray.size s/\ByteArray.size s<=200)))
 refine cj ?_
 rw[decide_eq_decide];omega
def Bt:jY UU where
 α:=bq×BA
 md:=[.ro,.ro]
 of:=fun|[.agg [.lit (.string a0),.lit (.string a1),.sl .bc a2],.ptr [.lit (.string a3)]]=>some (⟨a0,⟨a1,a2⟩⟩,a3)|_=>none
 ds:=fun(x,c)=>[.agg [.lit (.string x.Key),.lit (.string x.F.Kind),.sl .bc x.F.ah],.ptr [.lit (.string c)]]
 pre:=fun(x,c)=>[]
 nY:=fun(x,c)=>⟨[.one (.lit (.bool (decide (x.Key=c))))],[],[]⟩
 law:=by intro l x h;(try simp only at h);split at h<;>cases h;rfl
def aiA:HH:=hF Bt func152 [] a0 fun x hp hb=>by
 obtain⟨x,c⟩:=x
 have SH:gW (U:=UU) (.agg [.lit (.string x.Key),.lit (.string x.F.Kind),.sl .bc x.F.ah]):=hb _ (iy)
 have aee:L9 x.Key.size:=Bd.str (SH _ (by simp))
 have Xf:L9 x.F.Kind.size:=Bd.str (SH _ (by simp))
 have Ur:L9 x.F.ah.length:=Bd.len (U:=UU) (τ:=.bc) (xs:=x.F.ah) (SH _ (by simp))
 have aqd:gW (U:=UU) (.ptr [.lit (.string c)]):=hb _ (fA _ (iy))
 clear hp hb
 apply vE (Lb (ByteArray.toList x.Key==ByteArray.toList c) (decide (x.Key=c)))
 rw[aQ]
 exact aX _
def anS:=bV (α:=(List bq)×BA) (qC (qL .aL) (q1 qS)) [.ro,.ro] (fun _=>[]) (fun(l,key)=>⟨[dO (s_ l key)],[],[]⟩)
def ag8:HH:=hF anS func91 [aiB,aiA] a0 fun x hp hb=>by
 obtain⟨l,key⟩:=x
 clear hp hb
 apply vE ((∀(j:Nat),j<l.length->ff Bt [DV.ptr [CS key]] [gS (l.getD j bS)]=some (Value.bool (bL (ff Bt [DV.ptr [CS key]] [gS (l.getD j bS)]))))/\Lb (anyI (l.length) fun(j:Nat)=>bL (ff Bt [DV.ptr [CS key]] [gS (l.getD j bS)])) (s_ l key))
 have hc:∀x:bq,ff Bt [.ptr [.lit (.string key)]] [gS x]=some (.bool (decide (x.Key=key))):=fun x=>se (x:=(x,key)) rfl rfl rfl rfl (by simp[Bt])
 refine⟨fun j hj=> ?_,cj ?_⟩
 ·show ff Bt [.ptr [.lit (.string key)]] [gS (l.getD j bS)]=_
  rw[hc];rfl
 ·exact nR fun j hj=>by
   show bL (ff Bt [.ptr [.lit (.string key)]] [gS (l.getD j bS)])=_
   rw[hc];rfl
def afI:=bV (α:=List bq) (q1 (qL .aL)) [.ro] (fun _=>[]) (fun l=>⟨[dO (cX l)],[],[]⟩)
def JU(l:List bq):Int×Unit->Prop:=fun(i,_)=>0<=i/\i<=l.length/\l.length<=30/\∀j:Nat,(j:Int)<i->jE l j=true
def AE(l:List bq):Int×Unit->Nat:=fun(i,_)=>l.length-i.toNat
def apT:AX afI:=fun l=>b_ [(4,aY [iI 10] (fun _=>JU l) (AE l))]
def ahi:HH:=hF afI func29 [aoD,Nz,ag8] apT fun(l:List bq) hp hb=>by
 clear hp hb
 apply vE (let x0:=(l.length:Int);let x1:=Option.getD none (0:Int);let q0:=Lb false (cX l);bif decide (x0>30) then q0 else JU l (0,())/\∀(y:Int×PUnit),let x2:=Option.getD (some y.1) x0;let q1:=l.getD y.1.toNat bS;let q2:=(wrap i64 (y.1+1),());JU l y->bif decide (y.1<x0) then 0<=y.1/\y.1.toNat<l.length/\bif !decide (1<=ByteArray.size q1.Key/\ByteArray.size q1.Key<=200) then q0 else bif !bD q1.F then q0 else 0<=x1/\x1<=x2/\x2<=x0/\bif s_ ((l.take x2.toNat).drop x1.toNat) q1.Key then q0 else JU l q2/\AE l q2<AE l y else Lb true (cX l))
 dsimp only
 refine ae (fun h=>bG ?_) (fun h=>⟨⟨by omega,by omega,by have h:=yF h;omega,by intro j hj;omega⟩,?_⟩)
 ·have h:=yT h;simp only[cX];rw[decide_eq_false (by omega)];rfl
 rintro⟨i,⟨⟩⟩ ⟨h1,h2,h3,hR⟩
 simp only
 refine ae ?_ ?_<;>intro hc
 ·have hc:=yT hc
  have hN:jE l i.toNat=false->cX l=false:=fun h=>by
   have hf:allI l.length (jE l)=false:=gT (j:=i.toNat) (by omega) h
   simp only[cX,hf];simp
  have hk:s_ ((l.take i.toNat).drop (Int.toNat 0)) (l.getD i.toNat bS).Key=anyI i.toNat fun k=>decide ((l.getD k bS).Key=(l.getD i.toNat bS).Key):=by
   show anyI _ _=_
   have e:(l.take i.toNat).length=i.toNat:=by rw[oc];omega
   rw[show Int.toNat 0=0 from rfl,List.drop_zero,e]
   exact nR fun j hj=>by rw[getD_take l bS hj]
  simp only[QP,FR,hk]
  simp(disch:=omega) only[wrap_i64]
  have hm:AE l (i+1,PUnit.unit)<AE l (i,()):=by simp only[AE];omega
  refine⟨by omega,by omega,ae (fun h=>bG (hN ?_)) (fun h=>ae (fun h'=>bG (hN ?_)) (fun h'=>⟨by omega,by omega,by omega,ae (fun o9=>bG (hN ?_)) (fun o9=>⟨⟨by omega,by omega,h3,fZ h1 hR ?_⟩,hm⟩)⟩))⟩
  all_goals (simp only[jE];grind)
 ·have hc:=yF hc
  have hA:allI l.length (jE l)=true:=ix fun j hj=>hR j (by omega)
  refine cj ?_
  simp only[cX,hA];grind
def afo:=bV (α:=List bq) (q1 (qL .aL)) [.ro] (fun _=>[]) (fun l=>⟨[dO (cX l)],[],[]⟩)
def JB(l:List bq):Int×Unit->Prop:=fun(i,_)=>0<=i/\i<=l.length/\∀j:Nat,(j:Int)<i->jE l j=true
def Az(l:List bq):Int×Unit->Nat:=fun(i,_)=>l.length-i.toNat
def JA(l:List bq):Int×Int×Unit->Int×Int×Unit->Prop:=fun(i0,k0,_) (i,k,_)=>i=i0/\0<=k/\k<=i/\∀j:Nat,(j:Int)<k->decide ((l.getD j bS).Key=(l.getD i.toNat bS).Key)=false
def I0(l:List bq):Int×Int×Unit->Nat:=fun(i,k,_)=>i.toNat-k.toNat
def apz:AX afo:=fun l=>b_ [(2,aY [iI 3] (fun _=>JB l) (Az l)),(7,aY [iI 3,iI 4] (JA l) (I0 l))]
def aha:HH:=hF afo func71 [tN,FG] apz fun(l:List bq) hp hb=>by
 have j8:L9 l.length:=lu (hb _ m0)
 clear hp hb
 apply vE (let x0:=(l.length:Int);let q0:=Lb false (cX l);JB l (0,())/\∀(y:Int×PUnit),let q1:=(↑(ByteArray.size (l.getD y.1.toNat bS).Key):Int);let q2:=(y.1,0,());JB l y->bif decide (y.1<x0) then 0<=y.1/\y.1.toNat<l.length/\bif !decide (1<=q1/\q1<=200) then q0 else 0<=y.1/\y.1.toNat<l.length/\bif !bD (l.getD y.1.toNat bS).F then q0 else JA l q2 q2/\∀(aO:Int×Int×PUnit),let x1:=aO.2.1.toNat;let q3:=(aO.1,wrap i64 (aO.2.1+1),());let q4:=(wrap i64 (aO.1+1),());JA l q2 aO->bif decide (aO.2.1<aO.1) then 0<=aO.1/\aO.1.toNat<l.length/\0<=aO.2.1/\x1<l.length/\bif ByteArray.toList (l.getD aO.1.toNat bS).Key==ByteArray.toList (l.getD x1 bS).Key then q0 else JA l q2 q3/\I0 l q3<I0 l aO else JB l q4/\Az l q4<Az l y else Lb (decide (x0<=30)) (cX l))
 dsimp only
 refine⟨⟨by omega,by omega,by intro j hj;omega⟩,?_⟩
 rintro⟨i,⟨⟩⟩ ⟨h1,h2,hR⟩
 simp only
 refine ae ?_ ?_<;>intro hc
 ·have hc:=yT hc
  have hN:jE l i.toNat=false->cX l=false:=fun h=>by
   have hf:allI l.length (jE l)=false:=gT (j:=i.toNat) (by omega) h
   simp only[cX,hf];simp
  have hm:Az l (i+1,PUnit.unit)<Az l (i,()):=by simp only[Az];omega
  refine⟨by omega,by omega,ae (fun h=>bG (hN ?_)) (fun h=>⟨by omega,by omega,ae (fun h'=>bG (hN ?_)) (fun h'=>⟨⟨rfl,by omega,by omega,by intro j hj;omega⟩,?_⟩)⟩)⟩
  ·simp only[jE];grind
  ·simp only[jE];grind
  rintro⟨i,k,⟨⟩⟩ ⟨rfl,g1,g2,gR⟩
  simp only
  refine ae ?_ ?_<;>intro hk
  ·have hk:=yT hk
   simp(disch:=omega) only[wrap_i64,aQ]
   refine⟨by omega,by omega,by omega,by omega,ae (fun o9=>bG (hN ?_)) (fun o9=>⟨⟨rfl,by omega,by omega,i_ g1 gR ?_⟩,by simp only[I0];omega⟩)⟩
   ·have ha:(anyI i.toNat fun k=>decide ((l.getD k bS).Key=(l.getD i.toNat bS).Key))=true:=iw (j:=k.toNat) (by omega) (by grind)
    simp only[jE,ha];simp
   ·grind
  ·have hk:=yF hk
   simp(disch:=omega) only[wrap_i64]
   refine⟨⟨by omega,by omega,fZ h1 hR ?_⟩,hm⟩
   have ha:(anyI i.toNat fun k=>decide ((l.getD k bS).Key=(l.getD i.toNat bS).Key))=false:=gj fun j hj=>gR j (by omega)
   simp only[jE,ha];grind
 ·have hc:=yF hc
  have hA:allI l.length (jE l)=true:=ix fun j hj=>hR j (by omega)
  refine cj ?_
  simp only[cX,hA];grind
def bt(l:List bq):aK:=if l=[] then ur else(l.getD (l.length-1) bS).F
theorem Kh{α:Type}(f:α->Nat)(l:List α)(n:Nat):((l.take n).map f).sum<=(l.map f).sum:=by
 have h:=congrArg (fun q=>(q.map f).sum) (Ul n l)
 simp only[J9,Zc] at h
 omega
theorem D5(l:List bq)(n:Nat):bw (l.take n)<=bw l:=by
 have:=Kh dq l n
 simp only[bw,oc]
 omega
def L7:=bV (α:=List aS) (q1 (qL .bc)) [.ro] (fun l=>[L4 l.length]) (fun l=>⟨[dL .bc l],[],[]⟩)
def TY:AX L7:=fun l=>b_ []
def TG:List (FuncId×jY UU):=[]
theorem aeW:Bh EE TG f115 L7 TY [] .bc [] true=(Lf [VL .bc []] [VL .bc []]):=by kernel_rfl
theorem aeQ:Bh EE TG f115 L7 TY [] .bc [] true:=by
 rw[aeW]
 exact aX _
theorem afa:Holds EE (115,L7):=by
 refine zY rm func115 L7 (by kernel_rfl) rfl .bc (fun x=>x) (fun _=>rfl) TG all_nil TY (fun(l:List aS) hp hb=> ?_)
 have j8:L9 l.length:=lu (hb _ m0)
 have bp:l.length<=4294967296:=hp _ m0
 clear hp hb
 refine⟨?_,fun h0=> ?_⟩
 rotate_left
 ·subst h0;exact aeQ
 apply vE (0+l.length<=4294967296/\Lf [VL .bc ([]++l)] [VL .bc l])
 exact⟨by simp;omega,aX _⟩
def Y2:HH:=⟨_,afa⟩
def agT:=bV (α:=aK) (q1 (qA .dc)) [.ro] (fun f=>[L4 f.ah.length]) (fun f=>⟨[dA .dc f],[],[]⟩)
def sw:HH:=hF agT func118 [] a0 fun(f:aK) hp hb=>by
 have eV:=sj (x:=f) (hb _ m0)
 have rX:=eV.1
 have ou:=eV.2
 have bp:f.ah.length<=4294967296:=hp _ m0
 clear hp hb
 apply vE (0+f.ah.length<=4294967296/\Lf [DV.agg [CS f.Kind,CL .bc ([]++f.ah)]] [DV.agg [CS f.Kind,CL .bc f.ah]])
 exact⟨by simp;omega,aX _⟩
def agZ:=bV (α:=aK) (q1 (qA .dc)) [.ro] (fun f=>[L4 f.ah.length]) (fun f=>⟨[dA .dc f],[],[]⟩)
def Bx:HH:=hF agZ func110 [Y2] a0 fun(f:aK) hp hb=>by
 have bp:f.ah.length<=4294967296:=hp _ m0
 clear hp hb
 apply vE (f.ah.length<=4294967296/\Lf [DV.agg [CS f.Kind,CL .bc f.ah]] [DV.agg [CS f.Kind,CL .bc f.ah]])
 exact⟨bp,aX _⟩
def afu:=bV (α:=List aN) (q1 (qL .aI)) [.ro] (fun l=>[L4 (cR l)]) (fun l=>⟨[dL .aI l],[],[]⟩)
def JG(l:List aN):List aN×Int×Unit->Prop:=fun(out,i,_)=>0<=i/\i<=l.length/\out=l.take i.toNat
def I4(l:List aN):List aN×Int×Unit->Nat:=fun(out,i,_)=>l.length-i.toNat
def apF:AX afu:=fun l=>b_ [(3,aY [iO 3 .aI,iI 4] (fun _=>JG l) (I4 l))]
def abN:HH:=hF afu func65 [sw] apF fun(l:List aN) hp hb=>by
 have bp:cR l<=4294967296:=hp _ m0
 clear hp hb
 apply vE (JG l ([],0,())/\∀(y:List aN×Int×PUnit),let x2:=y.2.1.toNat;let x1:=l.getD x2 cO;let x0:=[x1];let q0:=(y.1++x0,wrap i64 (y.2.1+1),());JG l y->bif decide (y.2.1<(l.length:Int)) then 0<=y.2.1/\x2<l.length/\0<=y.2.1/\x2<l.length/\L4 x1.F.ah.length/\L4 (y.1.length+x0.length)/\JG l q0/\I4 l q0<I4 l y else Lf [VL .aI y.1] [VL .aI l])
 dsimp only
 refine⟨⟨by omega,by omega,by simp⟩,?_⟩
 rintro⟨out,i,⟨⟩⟩ ⟨h1,h2,rfl⟩
 simp only
 refine ae ?_ ?_<;>intro hc
 ·have hc:=yT hc
  have hs:=dV h_ l cO h1 hc
  simp only[cR] at bp
  have hx:=hs
  simp only[h_,db,eu] at hx
  rw[dk l cO h1 hc,wi]
  repeat' (first|refine And.intro (by omega) ?_|fail)
  refine⟨by simp;omega,⟨by omega,by omega,rfl⟩,by simp only[I4];omega⟩
 ·have hc:=yF hc
  rw[cE l (by omega)]
  exact aX _
def afz:=bV (α:=List aN) (q1 (qL .aI)) [.ro] (fun l=>[L4 (cR l)]) (fun l=>⟨[dL .aI l],[],[]⟩)
def JL(l:List aN):List aN×Int×Unit->Prop:=fun(out,i,_)=>0<=i/\i<=l.length/\out=l.take i.toNat
def I9(l:List aN):List aN×Int×Unit->Nat:=fun(out,i,_)=>l.length-i.toNat
def apK:AX afz:=fun l=>b_ [(3,aY [iO 3 .aI,iI 8] (fun _=>JL l) (I9 l))]
def aoY:HH:=hF afz func54 [Bx] apK fun(l:List aN) hp hb=>by
 have bp:cR l<=4294967296:=hp _ m0
 clear hp hb
 apply vE (JL l ([],0,())/\∀(y:List aN×Int×PUnit),let x2:=y.2.1.toNat;let x1:=l.getD x2 cO;let x0:=[x1];let q0:=(y.1++x0,wrap i64 (y.2.1+1),());JL l y->bif decide (y.2.1<(l.length:Int)) then 0<=y.2.1/\x2<l.length/\L4 x1.F.ah.length/\L4 (y.1.length+x0.length)/\JL l q0/\I9 l q0<I9 l y else Lf [VL .aI y.1] [VL .aI l])
 dsimp only
 refine⟨⟨by omega,by omega,by simp⟩,?_⟩
 rintro⟨out,i,⟨⟩⟩ ⟨h1,h2,rfl⟩
 simp only
 refine ae ?_ ?_<;>intro hc
 ·have hc:=yT hc
  have hs:=dV h_ l cO h1 hc
  simp only[cR] at bp
  have hx:=hs
  simp only[h_,db,eu] at hx
  rw[dk l cO h1 hc,wi]
  repeat' (first|refine And.intro (by omega) ?_|fail)
  refine⟨by simp;omega,⟨by omega,by omega,rfl⟩,by simp only[I9];omega⟩
 ·have hc:=yF hc
  rw[cE l (by omega)]
  exact aX _
def aft:=bV (α:=List bq) (q1 (qL .aL)) [.ro] (fun l=>[L4 (bw l)]) (fun l=>⟨[dL .aL l],[],[]⟩)
def JF(l:List bq):List bq×Int×Unit->Prop:=fun(out,i,_)=>0<=i/\i<=l.length/\out=l.take i.toNat
def I3(l:List bq):List bq×Int×Unit->Nat:=fun(out,i,_)=>l.length-i.toNat
def apE:AX aft:=fun l=>b_ [(3,aY [iO 3 .aL,iI 4] (fun _=>JF l) (I3 l))]
def abM:HH:=hF aft func66 [sw] apE fun(l:List bq) hp hb=>by
 have bp:bw l<=4294967296:=hp _ m0
 clear hp hb
 apply vE (JF l ([],0,())/\∀(y:List bq×Int×PUnit),let x2:=y.2.1.toNat;let x1:=l.getD x2 bS;let x0:=[x1];let q0:=(y.1++x0,wrap i64 (y.2.1+1),());JF l y->bif decide (y.2.1<(l.length:Int)) then 0<=y.2.1/\x2<l.length/\0<=y.2.1/\x2<l.length/\L4 x1.F.ah.length/\L4 (y.1.length+x0.length)/\JF l q0/\I3 l q0<I3 l y else Lf [VL .aL y.1] [VL .aL l])
 dsimp only
 refine⟨⟨by omega,by omega,by simp⟩,?_⟩
 rintro⟨out,i,⟨⟩⟩ ⟨h1,h2,rfl⟩
 simp only
 refine ae ?_ ?_<;>intro hc
 ·have hc:=yT hc
  have hs:=dV dq l bS h1 hc
  simp only[bw] at bp
  have hx:=hs
  simp only[dq,db,eu] at hx
  rw[dk l bS h1 hc,wi]
  repeat' (first|refine And.intro (by omega) ?_|fail)
  refine⟨by simp;omega,⟨by omega,by omega,rfl⟩,by simp only[I3];omega⟩
 ·have hc:=yF hc
  rw[cE l (by omega)]
  exact aX _
def afy:=bV (α:=List bq) (q1 (qL .aL)) [.ro] (fun l=>[L4 (bw l)]) (fun l=>⟨[dL .aL l],[],[]⟩)
def JK(l:List bq):List bq×Int×Unit->Prop:=fun(out,i,_)=>0<=i/\i<=l.length/\out=l.take i.toNat
def I8(l:List bq):List bq×Int×Unit->Nat:=fun(out,i,_)=>l.length-i.toNat
def apJ:AX afy:=fun l=>b_ [(3,aY [iO 3 .aL,iI 8] (fun _=>JK l) (I8 l))]
def abO:HH:=hF afy func55 [Bx] apJ fun(l:List bq) hp hb=>by
 have bp:bw l<=4294967296:=hp _ m0
 clear hp hb
 apply vE (JK l ([],0,())/\∀(y:List bq×Int×PUnit),let x2:=y.2.1.toNat;let x1:=l.getD x2 bS;let x0:=[x1];let q0:=(y.1++x0,wrap i64 (y.2.1+1),());JK l y->bif decide (y.2.1<(l.length:Int)) then 0<=y.2.1/\x2<l.length/\L4 x1.F.ah.length/\L4 (y.1.length+x0.length)/\JK l q0/\I8 l q0<I8 l y else Lf [VL .aL y.1] [VL .aL l])
 dsimp only
 refine⟨⟨by omega,by omega,by simp⟩,?_⟩
 rintro⟨out,i,⟨⟩⟩ ⟨h1,h2,rfl⟩
 simp only
 refine ae ?_ ?_<;>intro hc
 ·have hc:=yT hc
  have hs:=dV dq l bS h1 hc
  simp only[bw] at bp
  have hx:=hs
  simp only[dq,db,eu] at hx
  rw[dk l bS h1 hc,wi]
  repeat' (first|refine And.intro (by omega) ?_|fail)
  refine⟨by simp;omega,⟨by omega,by omega,rfl⟩,by simp only[I8];omega⟩
 ·have hc:=yF hc
  rw[cE l (by omega)]
  exact aX _
def agj:=bV (α:=List bq) (q1 (qL .aL)) [.ro] (fun l=>[L4 (bw l)]) (fun l=>⟨[dA .dc (bt l),dO (decide (¬l=[]))],[],[]⟩)
def ahY:HH:=hF agj func209 [sw] a0 fun(l:List bq) hp hb=>by
 have bp:bw l<=4294967296:=hp _ m0
 clear hp hb
 apply vE (let x3:=wrap i64 ((l.length:Int)-1);let x2:=x3.toNat;let x1:=(l.getD x2 bS).F;let x0:=x1.ah;bif (l.length:Int)==0 then Lf [DV.agg [CS ({data:= #[]:BA}),CL .bc []],VB false] [DV.agg [CS ((bt l).Kind),CL .bc (bt l).ah],VB (decide ¬l=[])] else 0<=x3/\x2<l.length/\L4 x0.length/\Lf [DV.agg [CS x1.Kind,CL .bc x0],VB true] [DV.agg [CS ((bt l).Kind),CL .bc (bt l).ah],VB (decide ¬l=[])])
 dsimp only
 by_cases hl:l=[]
 ·subst hl;exact aX _
 ·have h0:0<l.length:=List.length_pos_iff.2 hl
  have h1:(l.length-1:Int).toNat=l.length-1:=by omega
  have hs:=dV dq l bS (i:=l.length-1) (by omega) (by omega)
  simp only[bw] at bp
  rw[h1] at hs
  have hx:=hs
  simp only[dq,db,eu] at hx
  rw[wi,h1]
  refine ae (fun h=>absurd h (by simp;omega)) (fun h=> ?_)
  repeat' (first|refine And.intro (by omega) ?_|fail)
  simp only[bt,if_neg hl,decide_not,hl]
  exact aX _
def agv:=bV (α:=List bq) (q1 (qL .aL)) [.ro] (fun l=>[L4 (bw l)]) (fun l=>⟨[dA .dc (bt l),dO (decide (¬l=[]))],[],[]⟩)
def ain:HH:=hF agv func172 [Bx] a0 fun(l:List bq) hp hb=>by
 have bp:bw l<=4294967296:=hp _ m0
 clear hp hb
 apply vE (let x3:=wrap i64 ((l.length:Int)-1);let x2:=x3.toNat;let x1:=(l.getD x2 bS).F;let x0:=x1.ah;bif (l.length:Int)==0 then Lf [DV.agg [CS ({data:= #[]:BA}),CL .bc []],VB false] [DV.agg [CS ((bt l).Kind),CL .bc (bt l).ah],VB (decide ¬l=[])] else 0<=x3/\x2<l.length/\L4 x0.length/\Lf [DV.agg [CS x1.Kind,CL .bc x0],VB true] [DV.agg [CS ((bt l).Kind),CL .bc (bt l).ah],VB (decide ¬l=[])])
 dsimp only
 by_cases hl:l=[]
 ·subst hl;exact aX _
 ·have h0:0<l.length:=List.length_pos_iff.2 hl
  have h1:(l.length-1:Int).toNat=l.length-1:=by omega
  have hs:=dV dq l bS (i:=l.length-1) (by omega) (by omega)
  simp only[bw] at bp
  rw[h1] at hs
  have hx:=hs
  simp only[dq,db,eu] at hx
  rw[wi,h1]
  refine ae (fun h=>absurd h (by simp;omega)) (fun h=> ?_)
  repeat' (first|refine And.intro (by omega) ?_|fail)
  simp only[bt,if_neg hl,decide_not,hl]
  exact aX _
def agr:=bV (α:=List bq) (q1 (qL .aL)) [.ro] (fun l=>[L4 (bw l)]) (fun l=>⟨[dL .aL (l.take (l.length-1))],[],[]⟩)
def aic:HH:=hF agr func184 [abM] a0 fun(l:List bq) hp hb=>by
 have j8:L9 l.length:=lu (hb _ m0)
 have bp:bw l<=4294967296:=hp _ m0
 clear hp hb
 apply vE (let x1:=(l.length:Int);let x0:=Option.getD (some (wrap i64 (x1-1))) x1;L4 (bw l)/\bif decide (x1>0) then 0<=Option.getD none (0:Int)/\Option.getD none (0:Int)<=x0/\x0<=x1/\Nat.le x0.toNat (l.length)/\Lf [VL .aL (l.take x0.toNat)] [VL .aL (l.take (l.length-1))] else Lf [VL .aL l] [VL .aL (l.take (l.length-1))])
 dsimp only
 refine⟨bp,ae (fun h=> ?_) (fun h=> ?_)⟩
 ·have h:=yT h
  simp only[QP,FR]
  rw[wi]
  have h1:(l.length-1:Int).toNat=l.length-1:=by omega
  rw[h1]
  refine⟨by omega,by omega,by omega,Nat.sub_le _ _,aX _⟩
 ·have h:=yF h
  have h0:l=[]:=List.length_eq_zero_iff.1 (by omega)
  subst h0
  exact aX _
def agW:=bV (α:=List bq) (q1 (qL .aL)) [.ro] (fun l=>[L4 (bw l)]) (fun l=>⟨[dL .aL (l.take (l.length-1))],[],[]⟩)
def aiU:HH:=hF agW func113 [abO] a0 fun(l:List bq) hp hb=>by
 have j8:L9 l.length:=lu (hb _ m0)
 have bp:bw l<=4294967296:=hp _ m0
 clear hp hb
 apply vE (let x1:=wrap i64 ((l.length:Int)-1);let x3:=Option.getD none (0:Int);let x0:=Option.getD (some (if 0>x1 then 0 else x1)) (l.length:Int);let x2:=(l.take x0.toNat).drop x3.toNat;0<=x3/\x3<=x0/\x0<=(l.length:Int)/\L4 (bw x2)/\Lf [VL .aL x2] [VL .aL (l.take (l.length-1))])
 dsimp only
 simp only[QP,FR]
 rw[wi]
 have h1:(if(0:Int)>(l.length:Int)-1 then(0:Int) else(l.length:Int)-1).toNat=l.length-1:=by split<;>omega
 rw[h1]
 have h2:=D5 l (l.length-1)
 refine⟨by omega,by split<;>omega,by split<;>omega,?_,aX _⟩
 show bw (l.take (l.length-1))<=4294967296
 omega
def fj(s:BA):Bool:=decide (s=ao)||bu s
def f_(t:aj):Bool:=bD t.F&&fj t.aR&&decide (1<=t.State/\t.State<=4)&&decide (0<=t.bi/\t.bi<=4)&&decide (0<=t.ie/\t.ie<=1000001000)&&(decide (t.V=dE)||bB t.V)&&decide ((t.State=1->t.bi=0)/\(t.State=2->t.bi≠0))
def jG(l:List aj)(i:Nat):Bool:=f_ (l.getD i aD)&& !(anyI i fun k=>decide ((l.getD k aD).F=(l.getD i aD).F))
def aW(l:List aj):Bool:=decide (l.length<=30)&&allI l.length (jG l)
def placeOf(l:List aj)(f:aK):Int:=jJ l.length fun k=>decide ((l.getD k aD).F=f)
def jI(t:aj):Bool:=decide (t.State=1\/t.State=2)
def gx(t:aj):aj:=if t.State=1\/t.State=2 then⟨t.F,t.aR,4,t.bi,t.ie,t.V⟩ else t
def giveUp(l:List aj):List aj:=l.map gx
def cg(x:aj):DA UU:=⟨true,[.lit (.string x.F.Kind),.sl .bc x.F.ah,.lit (.string x.aR),.lit (.int .i64 x.State),.lit (.int .i64 x.bi),.lit (.int .i64 x.ie),.lit (.int .i64 x.V.K),.lit (.int .i64 x.V.N),.lit (.string x.V.S)]⟩
theorem Lq{a b:aK}:a=b↔a.Kind=b.Kind/\a.ah=b.ah:=by
 obtain⟨k,f⟩:=a;obtain⟨k',f'⟩:=b;simp
theorem BS{α:Type}(f:α->α)(l:List α)(z:α){i:Int}(F:α->α)(h0:0<=i)(h:i<l.length)(hF:F (l.getD i.toNat z)=f (l.getD i.toNat z)):
  ((l.map f).take i.toNat++l.drop i.toNat).modify i.toNat F=(l.map f).take (i+1).toNat++l.drop (i+1).toNat:=by
 have hn:i.toNat<l.length:=by omega
 have e:(i+1).toNat=i.toNat+1:=by omega
 have ht:((l.map f).take i.toNat).length=i.toNat:=by rw[oc,xt];omega
 rw[M0 _ z,BR _ l z ht h0 h,hF,eX l z h0 h,List.set_append_right _ _ (by rw[ht];exact tX _),ht,Za,List.set_cons_zero,e,zcz (by simpa using hn),xz,List.getElem_map]
 rw[ez,fw hn]
 rfl
theorem Ex{α:Type}(f:α->α)(l:List α)(z:α){i:Int}(h0:0<=i)(h:i<l.length)(hF:l.getD i.toNat z=f (l.getD i.toNat z)):
  (l.map f).take i.toNat++l.drop i.toNat=(l.map f).take (i+1).toNat++l.drop (i+1).toNat:=by
 rw[<-BS f l z (fun x=>x) h0 h hF]
 have:∀(m:List α)(n:Nat),m.modify n (fun x=>x)=m:=by
  intro m n
  refine Uk fun j=> ?_
  rw[Uz]
  cases m[j]? <;>simp
 rw[this]
theorem H8{α:Type}(f:α->α)(l:List α){i:Int}(h0:0<=i)(h:i<=l.length):((l.map f).take i.toNat++l.drop i.toNat).length=l.length:=by
 rw[ko,oc,xt,Mf];omega
theorem M3{α:Type}(f:α->α)(l:List α){i:Int}(h0:0<=i)(h:i<=l.length):((l.map f).take i.toNat).length=i.toNat:=by
 rw[oc,xt];omega
theorem Ey{α:Type}(f:α->α)(l:List α){i:Int}(h:l.length<=i):(l.map f).take i.toNat++l.drop i.toNat=l.map f:=by
 rw[List.drop_eq_nil_of_le (by omega),xu,Uj (by rw[xt];omega)]
def X7:=bV (α:=(List aS)×(List aS)) (qC (qL .bc) (q1 (qL .bc))) [.ro,.ro] (fun _=>[]) (fun(a,b)=>⟨[dO (decide (a=b))],[],[]⟩)
def zk(a:List aS)(b:List aS):Int×Unit->Prop:=fun(i,_)=>0<=i/\i<=a.length/\a.length=b.length/\(a.drop i.toNat=b.drop i.toNat↔a=b)
def Cy(a:List aS)(b:List aS):Int×Unit->Nat:=fun(i,_)=>a.length-i.toNat
def ajB:AX X7:=fun(a,b)=>b_ [(4,aY [iI 5] (fun _=>zk a b) (Cy a b))]
def aid:HH:=hF X7 func183 [] ajB fun x hp hb=>by
 obtain⟨a,b⟩:=x
 have PU:L9 a.length:=lu (hb _ m0)
 have PS:L9 b.length:=lu (hb _ m1)
 clear hp hb
 apply vE (bif (a.length:Int) !=(b.length:Int) then Lb false (decide (a=b)) else zk a b (0,())/\∀(y:Int×PUnit),let x0:=a.getD y.1.toNat dE;let x1:=b.getD y.1.toNat dE;let q0:=(wrap i64 (y.1+1),());zk a b y->bif decide (y.1<(a.length:Int)) then 0<=y.1/\y.1.toNat<a.length/\0<=y.1/\y.1.toNat<b.length/\bif !(x0.K==x1.K&&(x0.N==x1.N&&(ByteArray.toList x0.S==ByteArray.toList x1.S&&true))) then Lb false (decide (a=b)) else zk a b q0/\Cy a b q0<Cy a b y else Lb true (decide (a=b)))
 dsimp only
 refine ae (fun h=>nd ?_) (fun h=>⟨?_,?_⟩)
 ·rintro rfl;simp at h
 ·simp[zk] at*;omega
 rintro⟨i,⟨⟩⟩ ⟨h1,h2,h3,hR⟩
 simp only at*
 refine ae ?_ ?_<;>intro hc
 ·have hc:i<a.length:=by simpa using hc
  rw[eX a dE h1 hc,eX b dE h1 (by omega)] at hR
  rw[wi]
  simp only[gG]
  refine⟨by omega,by omega,by omega,by omega,ae (fun h=>nd ?_) (fun h=>⟨⟨by omega,by omega,h3,?_⟩,?_⟩)⟩
  ·rw[<-hR];simp at h;simp[h]
  ·rw[<-hR];simp at h;simp[h]
  ·simp only[Cy];omega
 ·have hc:a.length<=i:=by simpa using hc
  rw[cy a hc,cy b (by omega)] at hR
  exact NC (hR.1 rfl)
def afc:=bV (α:=(List aS)×(List aS)) (qC (qL .bc) (q1 (qL .bc))) [.ro,.ro] (fun _=>[]) (fun(a,b)=>⟨[dO (decide (a=b))],[],[]⟩)
def Fv(a:List aS)(b:List aS):Int×Unit->Prop:=fun(i,_)=>0<=i/\i<=a.length/\a.length=b.length/\(a.drop i.toNat=b.drop i.toNat↔a=b)
def IM(a:List aS)(b:List aS):Int×Unit->Nat:=fun(i,_)=>a.length-i.toNat
def apn:AX afc:=fun(a,b)=>b_ [(4,aY [iI 13] (fun _=>Fv a b) (IM a b))]
def aoz:HH:=hF afc func96 [] apn fun x hp hb=>by
 obtain⟨a,b⟩:=x
 have PU:L9 a.length:=lu (hb _ m0)
 have PS:L9 b.length:=lu (hb _ m1)
 clear hp hb
 apply vE (bif (a.length:Int) !=(b.length:Int) then Lb false (decide (a=b)) else Fv a b (0,())/\∀(y:Int×PUnit),let x0:=b.getD y.1.toNat dE;let x1:=a.getD y.1.toNat dE;let q0:=(wrap i64 (y.1+1),());Fv a b y->bif decide (y.1<(a.length:Int)) then 0<=y.1/\y.1.toNat<a.length/\0<=y.1/\y.1.toNat<b.length/\bif !(x1.K==x0.K&&(x1.N==x0.N&&(ByteArray.toList x1.S==ByteArray.toList x0.S&&true))) then Lb false (decide (a=b)) else Fv a b q0/\IM a b q0<IM a b y else Lb true (decide (a=b)))
 dsimp only
 refine ae (fun h=>nd ?_) (fun h=>⟨?_,?_⟩)
 ·rintro rfl;simp at h
 ·simp[Fv] at*;omega
 rintro⟨i,⟨⟩⟩ ⟨h1,h2,h3,hR⟩
 simp only at*
 refine ae ?_ ?_<;>intro hc
 ·have hc:i<a.length:=by simpa using hc
  rw[eX a dE h1 hc,eX b dE h1 (by omega)] at hR
  rw[wi]
  simp only[gG]
  refine⟨by omega,by omega,by omega,by omega,ae (fun h=>nd ?_) (fun h=>⟨⟨by omega,by omega,h3,?_⟩,?_⟩)⟩
  ·rw[<-hR];simp at h;simp[h]
  ·rw[<-hR];simp at h;simp[h]
  ·simp only[IM];omega
 ·have hc:a.length<=i:=by simpa using hc
  rw[cy a hc,cy b (by omega)] at hR
  exact NC (hR.1 rfl)
def agO:=bV (α:=aK×aK) (qC (qA .dc) (q1 (qA .dc))) [.ro,.ro] (fun _=>[]) (fun(a,b)=>⟨[dO (decide (a=b))],[],[]⟩)
def FF:HH:=hF agO func125 [aid] a0 fun x hp hb=>by
 obtain⟨a,b⟩:=x
 clear hp hb
 apply vE (bif ByteArray.toList a.Kind==ByteArray.toList b.Kind then Lb (decide (a.ah=b.ah)) (decide (a=b)) else Lb false (decide (a=b)))
 simp only[aQ]
 refine ae (fun h=>cj ?_) (fun h=>cj ?_)<;>(simp only[Lq];grind)
def aof:=bV (α:=aK×aK) (qC (qA .dc) (q1 (qA .dc))) [.ro,.ro] (fun _=>[]) (fun(a,b)=>⟨[dO (decide (a=b))],[],[]⟩)
def WE:HH:=hF aof func39 [aoz] a0 fun x hp hb=>by
 obtain⟨a,b⟩:=x
 clear hp hb
 apply vE (bif ByteArray.toList a.Kind==ByteArray.toList b.Kind then Lb (decide (a.ah=b.ah)) (decide (a=b)) else Lb false (decide (a=b)))
 simp only[aQ]
 refine ae (fun h=>cj ?_) (fun h=>cj ?_)<;>(simp only[Lq];grind)
def ags:=bV (α:=BA) (q1 qS) [.ro] (fun _=>[]) (fun s=>⟨[dO (fj s)],[],[]⟩)
def aie:HH:=hF ags func182 [Bw] a0 fun(s:BA) hp hb=>by
 clear hp hb
 apply vE (bif ByteArray.toList s==ByteArray.toList {data:= #[]:BA} then Lb true (fj s) else Lb (bu s) (fj s))
 have e:(ByteArray.toList s==ByteArray.toList {data:= #[]})=decide (s=ao):=aQ _ _
 simp only[e,fj]
 refine ae (fun h=>cj ?_) (fun h=>cj ?_)<;>grind
def agD:=bV (α:=BA) (q1 qS) [.ro] (fun _=>[]) (fun s=>⟨[dO (fj s)],[],[]⟩)
def TT:HH:=hF agD func149 [NA] a0 fun(s:BA) hp hb=>by
 clear hp hb
 apply vE (bif ByteArray.toList s==ByteArray.toList {data:= #[]:BA} then Lb true (fj s) else Lb (bu s) (fj s))
 have e:(ByteArray.toList s==ByteArray.toList {data:= #[]})=decide (s=ao):=aQ _ _
 simp only[e,fj]
 refine ae (fun h=>cj ?_) (fun h=>cj ?_)<;>grind
def agP:=bV (α:=aj) (q1 (qA .ax)) [.ro] (fun _=>[]) (fun t=>⟨[dO (f_ t)],[],[]⟩)
def aiP:HH:=hF agP func124 [FG,aie,tN,TQ] a0 fun(t:aj) hp hb=>by
 clear hp hb
 apply vE (let q0:=bif t.State !=1 then bif t.State !=2 then Lb true (f_ t) else Lb ((t.State==1)==(t.bi==0)) (f_ t) else Lb ((t.State==1)==(t.bi==0)) (f_ t);let q1:=Lb false (f_ t);bif !bD t.F then q1 else bif !fj t.aR then q1 else bif !decide (1<=t.State/\t.State<=4) then q1 else bif !decide (0<=t.bi/\t.bi<=4) then q1 else bif !decide (0<=t.ie/\t.ie<=1000001000) then q1 else bif !(t.V.K==0&&(t.V.N==0&&(ByteArray.toList t.V.S==ByteArray.toList {data:= #[]:BA}&&true))) then bif !bB t.V then q1 else q0 else q0)
 dsimp only
 have e:∀v:aS,(v.K==0&&(v.N==0&&(ByteArray.toList v.S==ByteArray.toList {data:= #[]}&&true)))=decide (v=dE):=fun v=>gG v dE
 simp only[e]
 simp only[f_]
 repeat' (refine ae (fun h=> ?_) (fun h=> ?_))
 all_goals (refine cj ?_;grind)
def anW:=bV (α:=aj) (q1 (qA .ax)) [.ro] (fun _=>[]) (fun t=>⟨[dO (f_ t)],[],[]⟩)
def aoF:HH:=hF anW func87 [Nz,TT,FE,Mc] a0 fun(t:aj) hp hb=>by
 clear hp hb
 apply vE (let q0:=bif decide (0<=t.ie/\t.ie<=1000001000) then bif t.V.K==0&&(t.V.N==0&&(ByteArray.toList t.V.S==ByteArray.toList {data:= #[]:BA}&&true)) then Lb true (f_ t) else Lb (bB t.V) (f_ t) else Lb false (f_ t);let q1:=Lb false (f_ t);let q2:=bif t.State==2 then bif t.bi==0 then q1 else q0 else q0;bif !bD t.F then q1 else bif !fj t.aR then q1 else bif !decide (1<=t.State/\t.State<=4) then q1 else bif !decide (0<=t.bi/\t.bi<=4) then q1 else bif t.State==1 then bif t.bi !=0 then q1 else q2 else q2)
 dsimp only
 have e:∀v:aS,(v.K==0&&(v.N==0&&(ByteArray.toList v.S==ByteArray.toList {data:= #[]}&&true)))=decide (v=dE):=fun v=>gG v dE
 simp only[e]
 simp only[f_]
 repeat' (refine ae (fun h=> ?_) (fun h=> ?_))
 all_goals (refine cj ?_;grind)
def afG:=bV (α:=(List aj)×(List (DA UU)->Option Value)) (qC (qL .ax) (q1 qF)) [.ro,.ro] (fun(l,p)=>[∀j:Nat,j<l.length->p [cg (l.getD j aD)]=some (.bool (bL (p [cg (l.getD j aD)])))]) (fun(l,p)=>⟨[dI (jJ l.length (fun j=>bL (p [cg (l.getD j aD)])))],[],[]⟩)
def JR(l:List aj)(p:(List (DA UU)->Option Value)):Int×Unit->Prop:=fun(i,_)=>0<=i/\i<=l.length/\∀j:Nat,(j:Int)<i->bL (p [cg (l.getD j aD)])=false
def Jc(l:List aj)(p:(List (DA UU)->Option Value)):Int×Unit->Nat:=fun(i,_)=>l.length-i.toNat
def apR:AX afG:=fun(l,p)=>b_ [(2,aY [iI 8] (fun _=>JR l p) (Jc l p))]
def WG:HH:=hF afG func36 [] apR fun x hp hb=>by
 obtain⟨l,p⟩:=x
 have j8:L9 l.length:=lu (hb _ m0)
 have bp:∀j:Nat,j<l.length->p [cg (l.getD j aD)]=some (.bool (bL (p [cg (l.getD j aD)]))):=hp _ m0
 clear hp hb
 apply vE (JR l p (0,())/\∀(y:Int×PUnit),let x1:=l.getD y.1.toNat aD;let x0:=bL (p [{agg:=true,cs:=[CS x1.F.Kind,CL .bc x1.F.ah,CS x1.aR,CI x1.State,CI x1.bi,CI x1.ie,CI x1.V.K,CI x1.V.N,CS x1.V.S]:DA UU}]);let q0:=(wrap i64 (y.1+1),());JR l p y->bif decide (y.1<(l.length:Int)) then 0<=y.1/\y.1.toNat<l.length/\p [{agg:=true,cs:=[CS x1.F.Kind,CL .bc x1.F.ah,CS x1.aR,CI x1.State,CI x1.bi,CI x1.ie,CI x1.V.K,CI x1.V.N,CS x1.V.S]:DA UU}]=some (Value.bool x0)/\bif x0 then Li y.1 (jJ (l.length) fun(j:Nat)=>bL (p [cg (l.getD j aD)])) else JR l p q0/\Jc l p q0<Jc l p y else Li (-1) (jJ (l.length) fun(j:Nat)=>bL (p [cg (l.getD j aD)])))
 dsimp only
 refine⟨⟨by omega,by omega,by intro j hj;omega⟩,?_⟩
 rintro⟨i,⟨⟩⟩ ⟨h1,h2,hR⟩
 simp only[cg] at*
 refine ae ?_ ?_<;>intro hc
 ·have hc:=yT hc
  rw[wi]
  refine⟨by omega,by omega,bp i.toNat (by omega),ae (fun h=>oM ?_) (fun h=>⟨⟨by omega,by omega,i_ (p:=fun j=>bL (p [cg (l.getD j aD)])) h1 hR h⟩,by simp only[Jc];omega⟩)⟩
  rw[fE (i:=i.toNat) (by omega) h (fun j hj=>hR j (by omega))]
  omega
 ·have hc:=yF hc
  exact oM (jl (fun j hj=>hR j (by omega))).symm
def Bu:jY UU where
 α:=aj×aK
 md:=[.ro,.ro]
 of:=oC (oA .ax) (o1 (oP .dc))
 ds:=fun x=>[dA .ax x.1,dP .dc x.2]
 pre:=fun _=>[]
 nY:=fun(t,f)=>⟨[dO (decide (t.F=f))],[],[]⟩
 law:=lC (lA .ax) (l1 (lP .dc))
def aiC:HH:=hF Bu func150 [WE] a0 fun x hp hb=>by
 obtain⟨t,f⟩:=x
 clear hp hb
 apply vE (Lb (decide (t.F=f)) (decide (t.F=f)))
 exact aX _
def anV:=bV (α:=(List aj)×aK) (qC (qL .ax) (q1 (qA .dc))) [.ro,.ro] (fun _=>[]) (fun(l,f)=>⟨[dI (placeOf l f)],[],[]⟩)
def ag9:HH:=hF anV func88 [WG,aiC] a0 fun x hp hb=>by
 obtain⟨l,f⟩:=x
 clear hp hb
 apply vE ((∀(j:Nat),j<l.length->ff Bu [DV.ptr [CS f.Kind,CL .bc f.ah]] [cg (l.getD j aD)]=some (Value.bool (bL (ff Bu [DV.ptr [CS f.Kind,CL .bc f.ah]] [cg (l.getD j aD)]))))/\Li (jJ (l.length) fun(j:Nat)=>bL (ff Bu [DV.ptr [CS f.Kind,CL .bc f.ah]] [cg (l.getD j aD)])) (placeOf l f))
 have hc:∀x:aj,ff Bu [.ptr [.lit (.string f.Kind),.sl .bc f.ah]] [cg x]=some (.bool (decide (x.F=f))):=fun x=>se (x:=(x,f)) rfl rfl rfl rfl (by simp[Bu])
 refine⟨fun j hj=> ?_,oM ?_⟩
 ·show ff Bu [.ptr [.lit (.string f.Kind),.sl .bc f.ah]] [cg (l.getD j aD)]=_
  rw[hc];rfl
 ·exact pS fun j hj=>by
   show bL (ff Bu [.ptr [.lit (.string f.Kind),.sl .bc f.ah]] [cg (l.getD j aD)])=_
   rw[hc];rfl
def afQ:=bV (α:=List aj) (q1 (qL .ax)) [.ro] (fun _=>[]) (fun l=>⟨[dO (aW l)],[],[]⟩)
def JV(l:List aj):Int×Unit->Prop:=fun(i,_)=>0<=i/\i<=l.length/\l.length<=30/\∀j:Nat,(j:Int)<i->jG l j=true
def AG(l:List aj):Int×Unit->Nat:=fun(i,_)=>l.length-i.toNat
def apV:AX afQ:=fun l=>b_ [(4,aY [iI 10] (fun _=>JV l) (AG l))]
def abQ:HH:=hF afQ func27 [aoF,ag9] apV fun(l:List aj) hp hb=>by
 clear hp hb
 apply vE (let x0:=(l.length:Int);let q0:=Lb false (aW l);bif decide (x0>30) then q0 else JV l (0,())/\∀(y:Int×PUnit),let q1:=(wrap i64 (y.1+1),());JV l y->bif decide (y.1<x0) then 0<=y.1/\y.1.toNat<l.length/\bif !f_ (l.getD y.1.toNat aD) then q0 else bif placeOf l (l.getD y.1.toNat aD).F !=y.1 then q0 else JV l q1/\AG l q1<AG l y else Lb true (aW l))
 dsimp only
 refine ae (fun h=>bG ?_) (fun h=>⟨⟨by omega,by omega,by have h:=yF h;omega,by intro j hj;omega⟩,?_⟩)
 ·have h:=yT h;simp only[aW];rw[decide_eq_false (by omega)];rfl
 rintro⟨i,⟨⟩⟩ ⟨h1,h2,h3,hR⟩
 simp only
 refine ae ?_ ?_<;>intro hc
 ·have hc:=yT hc
  have hN:jG l i.toNat=false->aW l=false:=fun h=>by
   have hf:allI l.length (jG l)=false:=gT (j:=i.toNat) (by omega) h
   simp only[aW,hf];simp
  have Bb:(placeOf l (l.getD i.toNat aD).F=i)↔(anyI i.toNat fun k=>decide ((l.getD k aD).F=(l.getD i.toNat aD).F))=false:=by
   rw[oE]
   unfold placeOf
   rcases ig l.length (fun k=>decide ((l.getD k aD).F=(l.getD i.toNat aD).F)) with⟨g1,g2⟩|⟨m,g1,g2,g3,g4⟩
   ·have:=g2 i.toNat (by omega);simp at this
   ·rw[g2]
    constructor
    ·intro e j hj;exact g4 j (by omega)
    ·intro e
     by_cases hm:m<i.toNat
     ·have:=e m hm;rw[g3] at this;cases this
     ·by_cases vz:i.toNat<m
      ·have:=g4 i.toNat vz;simp at this
      ·omega
  simp(disch:=omega) only[wrap_i64]
  have hm:AG l (i+1,PUnit.unit)<AG l (i,()):=by simp only[AG];omega
  refine⟨by omega,by omega,ae (fun h=>bG (hN ?_)) (fun h=>ae (fun h'=>bG (hN ?_)) (fun h'=>⟨⟨by omega,by omega,h3,fZ h1 hR ?_⟩,hm⟩))⟩
  ·simp only[jG];grind
  ·have:¬(placeOf l (l.getD i.toNat aD).F=i):=by simpa using h'
   rw[Bb] at this
   simp only[jG];grind
  ·have:placeOf l (l.getD i.toNat aD).F=i:=by simpa using h'
   rw[Bb] at this
   simp only[jG,this];grind
 ·have hc:=yF hc
  have hA:allI l.length (jG l)=true:=ix fun j hj=>hR j (by omega)
  refine cj ?_
  simp only[aW,hA];grind
def afq:=bV (α:=List aj) (q1 (qL .ax)) [.ro] (fun _=>[]) (fun l=>⟨[dO (aW l)],[],[]⟩)
def JD(l:List aj):Int×Unit->Prop:=fun(i,_)=>0<=i/\i<=l.length/\∀j:Nat,(j:Int)<i->jG l j=true
def AB(l:List aj):Int×Unit->Nat:=fun(i,_)=>l.length-i.toNat
def JC(l:List aj):Int×Int×Unit->Int×Int×Unit->Prop:=fun(i0,k0,_) (i,k,_)=>i=i0/\0<=k/\k<=i/\∀j:Nat,(j:Int)<k->decide ((l.getD j aD).F=(l.getD i.toNat aD).F)=false
def I1(l:List aj):Int×Int×Unit->Nat:=fun(i,k,_)=>i.toNat-k.toNat
def apB:AX afq:=fun l=>b_ [(2,aY [iI 3] (fun _=>JD l) (AB l)),(7,aY [iI 3,iI 4] (JC l) (I1 l))]
def aoP:HH:=hF afq func69 [aiP,FF] apB fun(l:List aj) hp hb=>by
 have j8:L9 l.length:=lu (hb _ m0)
 clear hp hb
 apply vE (let x0:=(l.length:Int);JD l (0,())/\∀(y:Int×PUnit),let q0:=(y.1,0,());JD l y->bif decide (y.1<x0) then 0<=y.1/\y.1.toNat<l.length/\bif !f_ (l.getD y.1.toNat aD) then Lb false (aW l) else JC l q0 q0/\∀(aO:Int×Int×PUnit),let x1:=aO.2.1.toNat;let q1:=(aO.1,wrap i64 (aO.2.1+1),());let q2:=(wrap i64 (aO.1+1),());JC l q0 aO->bif decide (aO.2.1<aO.1) then 0<=aO.1/\aO.1.toNat<l.length/\0<=aO.2.1/\x1<l.length/\bif decide ((l.getD aO.1.toNat aD).F=(l.getD x1 aD).F) then Lb false (aW l) else JC l q0 q1/\I1 l q1<I1 l aO else JD l q2/\AB l q2<AB l y else Lb (decide (x0<=30)) (aW l))
 dsimp only
 refine⟨⟨by omega,by omega,by intro j hj;omega⟩,?_⟩
 rintro⟨i,⟨⟩⟩ ⟨h1,h2,hR⟩
 simp only
 refine ae ?_ ?_<;>intro hc
 ·have hc:=yT hc
  have hN:jG l i.toNat=false->aW l=false:=fun h=>by
   have hf:allI l.length (jG l)=false:=gT (j:=i.toNat) (by omega) h
   simp only[aW,hf];simp
  have hm:AB l (i+1,PUnit.unit)<AB l (i,()):=by simp only[AB];omega
  refine⟨by omega,by omega,ae (fun h=>bG (hN ?_)) (fun h=>⟨⟨rfl,by omega,by omega,by intro j hj;omega⟩,?_⟩)⟩
  ·simp only[jG];grind
  rintro⟨i,k,⟨⟩⟩ ⟨rfl,g1,g2,gR⟩
  simp only
  refine ae ?_ ?_<;>intro hk
  ·have hk:=yT hk
   simp(disch:=omega) only[wrap_i64]
   refine⟨by omega,by omega,by omega,by omega,ae (fun o9=>bG (hN ?_)) (fun o9=>⟨⟨rfl,by omega,by omega,i_ g1 gR ?_⟩,by simp only[I1];omega⟩)⟩
   ·have ha:(anyI i.toNat fun k=>decide ((l.getD k aD).F=(l.getD i.toNat aD).F))=true:=iw (j:=k.toNat) (by omega) (by grind)
    simp only[jG,ha];simp
   ·grind
  ·have hk:=yF hk
   simp(disch:=omega) only[wrap_i64]
   refine⟨⟨by omega,by omega,fZ h1 hR ?_⟩,hm⟩
   have ha:(anyI i.toNat fun k=>decide ((l.getD k aD).F=(l.getD i.toNat aD).F))=false:=gj fun j hj=>gR j (by omega)
   simp only[jG,ha];grind
 ·have hc:=yF hc
  have hA:allI l.length (jG l)=true:=ix fun j hj=>hR j (by omega)
  refine cj ?_
  simp only[aW,hA];grind
def mq(b:Int):Bool:=decide (65<=b/\b<=90)
def zD(b:Int):Bool:=kV b||mq b
def iA(s:BA):Bool:=decide (1<=s.size/\s.size<=12)&&mq ((bs s).getD 0 0).toNat&&(bs s).all (kf zD)
def fX(a:cI):Bool:=bif decide (a.K=1) then iA a.S&&decide (a.V=dE) else bif decide (a.K=2) then bB a.V&&decide (a.S=ao) else bif decide (a.K=3) then decide (a.S=ao)&&decide (a.V=dE) else false
def fm(a:cI):Bool:=fX a&& !decide (a.K=3)
def fL(p:cr):Bool:=bu p.Kind&&decide (p.az.length<=5)&&p.az.all fX
def jj(c:dy):Bool:=decide (1<=c.Op/\c.Op<=3)&&fm c.L&&fm c.R
def Fk:BA:=⟨#[43]⟩
def xe:BA:=⟨#[45]⟩
def fH(e:ct):Bool:=bif decide (e.Op=ao) then fm e.L&&decide (e.R=mJ) else bif decide (e.Op=Fk)||decide (e.Op=xe) then fm e.L&&fm e.R else false
def eO(l:List ct):Bool:=decide (l.length<=5)&&l.all fH
def Bo(a:ew):Bool:=decide (a.Name=ao)&&decide (a.az.length=0)&&decide (a.aR=ao)
def df(a:ew):Bool:=
 bif decide (a.Kind=1) then bu a.Name&&eO a.az&&decide (a.N=0)&&decide (a.aR=ao)
 else bif decide (a.Kind=2) then Bo a&&decide (0<=a.N/\a.N<=7)
 else bif decide (a.Kind=3) then bu a.Name&&eO a.az&&decide (a.N=0)&&fj a.aR
 else bif decide (a.Kind=4) then bu a.Name&&eO a.az&&decide (0<=a.N/\a.N<=100000)&&decide (a.aR=ao)
 else bif decide (a.Kind=5)||decide (a.Kind=6) then Bo a&&decide (a.N=0) else false
theorem LU(a b:cI):(a.K==b.K&&(ByteArray.toList a.S==ByteArray.toList b.S&&(a.V.K==b.V.K&&(a.V.N==b.V.N&&(ByteArray.toList a.V.S==ByteArray.toList b.V.S&&true))&&true)))=decide (a=b):=by
 obtain⟨K,S,K2,N2,S2⟩:=a
 obtain⟨K',S',K2',N2',S2'⟩:=b
 simp only[aQ,BL]
 rw[FJ]
 simp only[cJ,beq_iff_eq,decide_eq_true_eq,cI.mk.injEq,aS.mk.injEq]
def afV:=bV (α:=Int) (q1 qY) [.ro] (fun _=>[]) (fun b=>⟨[dO (mq b)],[],[]⟩)
def ahs:HH:=hF afV func256 [] a0 fun(b:Int) hp hb=>by
 skip
 clear hp hb
 apply vE (bif decide (b≥65) then Lb (decide (b<=90)) (mq b) else Lb false (mq b))
 refine ae (fun h=>cj ?_) (fun h=>cj ?_)<;>grind [mq]
def afS:=bV (α:=Int) (q1 qY) [.ro] (fun c=>[0<=c/\c<=255]) (fun c=>⟨[dO (mq c)],[],[]⟩)
def aho:HH:=hF afS func265 [tN] a0 fun(c:Int) hp hb=>by
 have bp:0<=c/\c<=255:=hp _ m0
 clear hp hb
 apply vE (Lb (decide (65<=wrap i64 c/\wrap i64 c<=90)) (mq c))
 rw[wi]
 exact cj rfl
def XD:=bV (α:=BA) (q1 qS) [.ro] (fun _=>[]) (fun s=>⟨[dO (iA s)],[],[]⟩)
def C2(s:BA):Int×Unit->Prop:=fun(i,_)=>0<=i/\i<=s.size/\((bs s).drop i.toNat).all (kf zD)=(bs s).all (kf zD)/\(0<i->mq ((bs s).getD 0 0).toNat=true)
def vY(s:BA):Int×Unit->Nat:=fun(i,_)=>s.size-i.toNat
def ai7:AX XD:=fun s=>b_ [(2,aY [iI 3] (fun _=>C2 s) (vY s))]
def ahu:HH:=hF XD func254 [aho,TU,tN] ai7 fun(s:BA) hp hb=>by
 have Sq:=Mp (s:=s) (hb _ m0)
 clear hp hb
 apply vE (let q0:=(↑(ByteArray.size s):Int);C2 s (0,())/\∀(y:Int×PUnit),let x0:=(↑(UInt8.toNat (s.data.toList.getD y.1.toNat (0:UInt8))):Int);let q1:=(wrap i64 (y.1+1),());let q2:=C2 s q1/\vY s q1<vY s y;C2 s y->bif decide (y.1<q0) then 0<=y.1/\y.1.toNat<ByteArray.size s/\(0<=x0/\x0<=255)/\bif !mq x0 then bif y.1==0 then Lb false (iA s) else 0<=y.1/\y.1.toNat<ByteArray.size s/\(0<=x0/\x0<=255)/\bif !kV x0 then Lb false (iA s) else q2 else q2 else Lb (decide (1<=q0/\q0<=12)) (iA s))
 dsimp only
 refine⟨⟨by omega,by omega,rfl,by omega⟩,?_⟩
 rintro⟨i,⟨⟩⟩ ⟨h1,h2,hR,hS⟩
 have hl:=pa s
 simp only[Hq]
 refine ae ?_ ?_<;>intro hc
 ·have hc:=yT hc
  have hb:=((bs s).getD i.toNat 0).toNat_lt
  rw[dQ _ _ 0 h1 (by omega)] at hR
  rw[wi]
  have hN:(bs s).all (kf zD)=false->iA s=false:=fun h=>by simp[iA,h]
  have hm:vY s (i+1,PUnit.unit)<vY s (i,()):=by simp only[vY];omega
  refine⟨by omega,by omega,⟨by omega,by omega⟩,ae (fun h=>ae (fun h'=>bG ?_) (fun h'=>⟨by omega,by omega,⟨by omega,by omega⟩,ae (fun o9=>bG (hN ?_)) (fun o9=>⟨⟨by omega,by omega,?_,fun _=>hS ?_⟩,hm⟩)⟩)) (fun h=>⟨⟨by omega,by omega,?_,fun _=> ?_⟩,hm⟩)⟩
  ·have h':i=0:=by simpa using h'
   subst h'
   have h:mq (((bs s).getD 0 0).toNat:Int)=false:=by simpa using h
   simp only[iA,h];simp
  ·rw[<-hR];simp only[kf,zD];simp at h o9;simp[h,o9]
  ·rw[<-hR];simp only[kf,zD];simp at h o9;simp[h,o9]
  ·have h':¬i=0:=by simpa using h'
   omega
  ·rw[<-hR];simp only[kf,zD];simp at h;simp[h]
  ·by_cases hz:i=0
   ·subst hz;simpa using h
   ·exact hS (by omega)
 ·have hc:=yF hc
  rw[cy _ (by omega)] at hR
  refine cj ?_
  simp only[iA,<-hR]
  by_cases hz:0<i
  ·rw[hS hz];simp only[QI];grind
  ·rw[decide_eq_false (by omega),decide_eq_false (by omega)];rfl
def XH:=bV (α:=BA) (q1 qS) [.ro] (fun _=>[]) (fun s=>⟨[dO (iA s)],[],[]⟩)
def C6(s:BA):Int×Unit->Prop:=fun(i,_)=>0<=i/\i<=s.size/\1<=s.size/\s.size<=12/\mq ((bs s).getD 0 0).toNat=true/\((bs s).drop i.toNat).all (kf zD)=(bs s).all (kf zD)
def vZ(s:BA):Int×Unit->Nat:=fun(i,_)=>s.size-i.toNat
def ajb:AX XH:=fun s=>b_ [(4,aY [iI 3] (fun _=>C6 s) (vZ s))]
def ahB:HH:=hF XH func244 [ahs,YN] ajb fun(s:BA) hp hb=>by
 clear hp hb
 apply vE (let q0:=(↑(ByteArray.size s):Int);let q1:=Lb false (iA s);bif decide (q0<1) then q1 else bif decide (q0>12) then q1 else(0:Int)<=(0:Int)/\Int.toNat 0<ByteArray.size s/\bif !mq (↑(UInt8.toNat (s.data.toList.getD (Int.toNat 0) (0:UInt8))):Int) then q1 else C6 s (0,())/\∀(y:Int×PUnit),let x0:=(↑(UInt8.toNat (s.data.toList.getD y.1.toNat (0:UInt8))):Int);let q2:=(wrap i64 (y.1+1),());let q3:=C6 s q2/\vZ s q2<vZ s y;C6 s y->bif decide (y.1<q0) then 0<=y.1/\y.1.toNat<ByteArray.size s/\bif !kV x0 then 0<=y.1/\y.1.toNat<ByteArray.size s/\bif !mq x0 then q1 else q3 else q3 else Lb true (iA s))
 dsimp only
 have hl:=pa s
 simp only[Hq]
 refine ae (fun h=>bG ?_) (fun h=>ae (fun h'=>bG ?_) (fun h'=> ?_))
 ·have h:=yT h;simp only[iA];rw[decide_eq_false (by omega)];rfl
 ·have h':=yT h';simp only[iA];rw[decide_eq_false (by omega)];rfl
 have h:=yF h
 have h':=yF h'
 refine⟨by omega,by omega,ae (fun g=>bG ?_) (fun g=>⟨⟨by omega,by omega,by omega,by omega,by simpa using g,rfl⟩,?_⟩)⟩
 ·have g:mq (((bs s).getD 0 0).toNat:Int)=false:=by simpa using g
  simp only[iA,g];simp
 rintro⟨i,⟨⟩⟩ ⟨h1,h2,h3,h4,hS,hR⟩
 simp only
 refine ae ?_ ?_<;>intro hc
 ·have hc:=yT hc
  rw[dQ _ _ 0 h1 (by omega)] at hR
  rw[wi]
  have hN:(bs s).all (kf zD)=false->iA s=false:=fun h=>by simp[iA,h]
  have hm:vZ s (i+1,PUnit.unit)<vZ s (i,()):=by simp only[vZ];omega
  refine⟨by omega,by omega,ae (fun h=>⟨by omega,by omega,ae (fun o9=>bG (hN ?_)) (fun o9=>⟨⟨by omega,by omega,h3,h4,hS,?_⟩,hm⟩)⟩) (fun h=>⟨⟨by omega,by omega,h3,h4,hS,?_⟩,hm⟩)⟩
  ·rw[<-hR];simp only[kf,zD];simp at h o9;simp[h,o9]
  ·rw[<-hR];simp only[kf,zD];simp at h o9;simp[h,o9]
  ·rw[<-hR];simp only[kf,zD];simp at h;simp[h]
 ·have hc:=yF hc
  rw[cy _ (by omega)] at hR
  refine nE ?_
  simp only[iA,<-hR,hS,decide_eq_true (show 1<=s.size/\s.size<=12 from⟨h3,h4⟩)];rfl
def afZ:=bV (α:=cI) (q1 (qA .gB)) [.ro] (fun _=>[]) (fun a=>⟨[dO (fX a)],[],[]⟩)
def TL:HH:=hF afZ func242 [ahu,TQ] a0 fun(a:cI) hp hb=>by
 clear hp hb
 apply vE (let x0:=ByteArray.toList a.S==ByteArray.toList {data:= #[]:BA};let q0:=Lb (a.V.K==0&&(a.V.N==0&&(ByteArray.toList a.V.S==ByteArray.toList {data:= #[]:BA}&&true))) (fX a);let q1:=Lb false (fX a);bif a.K==1 then bif iA a.S then q0 else q1 else bif a.K==2 then bif bB a.V then Lb x0 (fX a) else q1 else bif a.K==3 then bif x0 then q0 else q1 else q1)
 dsimp only
 have ev:∀v:aS,(v.K==0&&(v.N==0&&(ByteArray.toList v.S==ByteArray.toList {data:= #[]}&&true)))=decide (v=dE):=fun v=>gG v dE
 have e:∀s:BA,(ByteArray.toList s==ByteArray.toList {data:= #[]})=decide (s=ao):=fun s=>aQ _ _
 simp only[ev,e,fX]
 repeat' (refine ae (fun h=> ?_) (fun h=> ?_))
 all_goals (refine cj ?_;grind)
def aga:=bV (α:=cI) (q1 (qA .gB)) [.ro] (fun _=>[]) (fun a=>⟨[dO (fX a)],[],[]⟩)
def YH:HH:=hF aga func224 [ahB,Mc] a0 fun(a:cI) hp hb=>by
 clear hp hb
 apply vE (let x0:=ByteArray.toList a.S==ByteArray.toList {data:= #[]:BA};let q0:=Lb (a.V.K==0&&(a.V.N==0&&(ByteArray.toList a.V.S==ByteArray.toList {data:= #[]:BA}&&true))) (fX a);let q1:=Lb false (fX a);bif a.K==1 then bif iA a.S then q0 else q1 else bif a.K==2 then bif x0 then Lb (bB a.V) (fX a) else q1 else bif a.K==3 then bif x0 then q0 else q1 else q1)
 dsimp only
 have ev:∀v:aS,(v.K==0&&(v.N==0&&(ByteArray.toList v.S==ByteArray.toList {data:= #[]}&&true)))=decide (v=dE):=fun v=>gG v dE
 have e:∀s:BA,(ByteArray.toList s==ByteArray.toList {data:= #[]})=decide (s=ao):=fun s=>aQ _ _
 simp only[ev,e,fX]
 repeat' (refine ae (fun h=> ?_) (fun h=> ?_))
 all_goals (refine cj ?_;grind)
def XN:=bV (α:=cr) (q1 (qA .du)) [.ro] (fun _=>[]) (fun p=>⟨[dO (fL p)],[],[]⟩)
def C_(p:cr):Int×OY×Unit->Prop:=fun(i,b,_)=>b=(p.Kind,p.az,p.Not,())/\0<=i/\i<=p.az.length/\(p.az.drop i.toNat).all fX=p.az.all fX
def Cn(p:cr):Int×OY×Unit->Nat:=fun(i,b,_)=>p.az.length-i.toNat
def ajh:AX XN:=fun p=>b_ [(2,aY [iI 3,.box 1 (1,1024) [.lit .str,.shr .gB,.lit .bool]] (fun _=>C_ p) (Cn p))]
def ahS:HH:=hF XN func218 [TL,Bw] ajh fun(p:cr) hp hb=>by
 have eV:=IG (x:=p) (hb _ m0)
 have GX:=eV.1
 have GY:=eV.2
 clear hp hb
 apply vE (C_ p (0,(p.Kind,p.az,p.Not,()),())/\∀(y:Int×T18×PUnit),let x1:=y.2.1.2.1.length;let x0:=(↑x1:Int);let q0:=(wrap i64 (y.1+1),(y.2.1.1,y.2.1.2.1,y.2.1.2.2.1,()),());C_ p y->bif decide (y.1<x0) then 0<=y.1/\y.1.toNat<x1/\bif !fX (y.2.1.2.1.getD y.1.toNat mJ) then Lb false (fL p) else C_ p q0/\Cn p q0<Cn p y else bif bu y.2.1.1 then Lb (decide (x0<=5)) (fL p) else Lb false (fL p))
 dsimp only
 refine⟨⟨rfl,by omega,by omega,rfl⟩,?_⟩
 rintro⟨i,⟨bk,ba,bn,⟨⟩⟩,⟨⟩⟩ ⟨rZ,h1,h2,hR⟩
 cases rZ
 simp only
 refine ae ?_ ?_<;>intro hc
 ·have hc:=yT hc
  rw[dQ _ _ mJ h1 (by omega)] at hR
  rw[wi]
  refine⟨by omega,by omega,ae (fun h=>bG ?_) (fun h=>⟨⟨rfl,by omega,by omega,?_⟩,?_⟩)⟩
  ·simp only[fL,<-hR];simp at h;simp[h]
  ·rw[<-hR];simp at h;simp[h]
  ·simp only[Cn];omega
 ·have hc:=yF hc
  rw[cy _ (by omega)] at hR
  simp only[fL,<-hR,QI]
  repeat' (refine ae (fun h=> ?_) (fun h=> ?_))
  all_goals (refine cj ?_;grind)
def X4:=bV (α:=cr) (q1 (qA .du)) [.ro] (fun _=>[]) (fun p=>⟨[dO (fL p)],[],[]⟩)
def Di(p:cr):Int×Unit->Prop:=fun(i,_)=>0<=i/\i<=p.az.length/\p.az.length<=5/\bu p.Kind=true/\(p.az.drop i.toNat).all fX=p.az.all fX
def Cw(p:cr):Int×Unit->Nat:=fun(i,_)=>p.az.length-i.toNat
def ajy:AX X4:=fun p=>b_ [(4,aY [iI 18] (fun _=>Di p) (Cw p))]
def ah_:HH:=hF X4 func189 [YH,NA] ajy fun(p:cr) hp hb=>by
 clear hp hb
 apply vE (let x0:=(p.az.length:Int);bif !bu p.Kind then Lb false (fL p) else bif decide (x0>5) then Lb false (fL p) else Di p (0,())/\∀(y:Int×PUnit),let q0:=(wrap i64 (y.1+1),());Di p y->bif decide (y.1<x0) then 0<=y.1/\y.1.toNat<p.az.length/\bif !fX (p.az.getD y.1.toNat mJ) then Lb false (fL p) else Di p q0/\Cw p q0<Cw p y else Lb true (fL p))
 dsimp only
 refine ae (fun h=>bG ?_) (fun h=>ae (fun h'=>bG ?_) (fun h'=> ?_))
 ·simp only[fL];simp at h;simp[h]
 ·have h':=yT h';simp only[fL];rw[decide_eq_false (show¬p.az.length<=5 by omega)];simp
 have h':=yF h'
 refine⟨⟨by omega,by omega,by omega,by simpa using h,rfl⟩,?_⟩
 rintro⟨i,⟨⟩⟩ ⟨h1,h2,h3,h4,hR⟩
 simp only
 refine ae ?_ ?_<;>intro hc
 ·have hc:=yT hc
  rw[dQ _ _ mJ h1 (by omega)] at hR
  rw[wi]
  refine⟨by omega,by omega,ae (fun h=>bG ?_) (fun h=>⟨⟨by omega,by omega,h3,h4,?_⟩,?_⟩)⟩
  ·simp only[fL,<-hR];simp at h;simp[h]
  ·rw[<-hR];simp at h;simp[h]
  ·simp only[Cw];omega
 ·have hc:=yF hc
  rw[cy _ (by omega)] at hR
  refine nE ?_
  simp only[fL,<-hR,h4,decide_eq_true h3];rfl
def ago:=bV (α:=cI) (q1 (qA .gB)) [.ro] (fun _=>[]) (fun a=>⟨[dO (fm a)],[],[]⟩)
def YM:HH:=hF ago func190 [YH] a0 fun(a:cI) hp hb=>by
 clear hp hb
 apply vE (bif a.K !=3 then Lb (fX a) (fm a) else Lb false (fm a))
 simp only[fm]
 repeat' (refine ae (fun h=> ?_) (fun h=> ?_))
 all_goals (refine cj ?_;grind)
def afR:=bV (α:=cI) (q1 (qA .gB)) [.ro] (fun _=>[]) (fun a=>⟨[dO (fm a)],[],[]⟩)
def ahn:HH:=hF afR func266 [TL] a0 fun(a:cI) hp hb=>by
 clear hp hb
 apply vE (bif fX a then Lb (a.K !=3) (fm a) else Lb false (fm a))
 simp only[fm]
 repeat' (refine ae (fun h=> ?_) (fun h=> ?_))
 all_goals (refine cj ?_;grind)
def age:=bV (α:=dy) (q1 (qA .ca)) [.ro] (fun _=>[]) (fun c=>⟨[dO (jj c)],[],[]⟩)
def ahR:HH:=hF age func219 [tN,TL] a0 fun(c:dy) hp hb=>by
 clear hp hb
 apply vE (let q0:=Lb false (jj c);bif decide (1<=c.Op/\c.Op<=3) then bif fX c.L then bif fX c.R then bif c.L.K !=3 then Lb (c.R.K !=3) (jj c) else q0 else q0 else q0 else q0)
 dsimp only
 simp only[jj,fm]
 repeat' (refine ae (fun h=> ?_) (fun h=> ?_))
 all_goals (refine cj ?_;grind)
def agG:=bV (α:=dy) (q1 (qA .ca)) [.ro] (fun _=>[]) (fun c=>⟨[dO (jj c)],[],[]⟩)
def aiI:HH:=hF agG func142 [FE,YM] a0 fun(c:dy) hp hb=>by
 clear hp hb
 apply vE (bif decide (1<=c.Op/\c.Op<=3) then bif fm c.L then Lb (fm c.R) (jj c) else Lb false (jj c) else Lb false (jj c))
 simp only[jj]
 repeat' (refine ae (fun h=> ?_) (fun h=> ?_))
 all_goals (refine cj ?_;grind)
def afW:=bV (α:=ct) (q1 (qA .bJ)) [.ro] (fun _=>[]) (fun e=>⟨[dO (fH e)],[],[]⟩)
def aht:HH:=hF afW func255 [ahn] a0 fun(e:ct) hp hb=>by
 clear hp hb
 apply vE (let x0:=ByteArray.toList e.Op==ByteArray.toList {data:= #[(43:UInt8)]:BA};let q0:=bif fm e.L then Lb (fm e.R) (fH e) else Lb false (fH e);bif ByteArray.toList e.Op==ByteArray.toList {data:= #[]:BA} then bif fm e.L then Lb (e.R.K==0&&(ByteArray.toList e.R.S==ByteArray.toList {data:= #[]:BA}&&(e.R.V.K==0&&(e.R.V.N==0&&(ByteArray.toList e.R.V.S==ByteArray.toList {data:= #[]:BA}&&true))&&true))) (fH e) else Lb false (fH e) else bif x0 then bif x0 then q0 else Lb false (fH e) else bif ByteArray.toList e.Op==ByteArray.toList {data:= #[(45:UInt8)]:BA} then q0 else Lb false (fH e))
 dsimp only
 have e:∀s:BA,(ByteArray.toList s==ByteArray.toList {data:= #[]})=decide (s=ao):=fun s=>aQ _ _
 have ea:∀a:cI,(a.K==0&&(ByteArray.toList a.S==ByteArray.toList {data:= #[]}&&(a.V.K==0&&(a.V.N==0&&(ByteArray.toList a.V.S==ByteArray.toList {data:= #[]}&&true))&&true)))=decide (a=mJ):=fun a=>LU a mJ
 have e1:∀s:BA,(ByteArray.toList s==ByteArray.toList {data:= #[43]})=decide (s=Fk):=fun s=>aQ _ _
 have e2:∀s:BA,(ByteArray.toList s==ByteArray.toList {data:= #[45]})=decide (s=xe):=fun s=>aQ _ _
 simp only[ea]
 simp only[e,e1,e2,fH]
 repeat' (refine ae (fun h=> ?_) (fun h=> ?_))
 all_goals (refine cj ?_;grind)
def af_:=bV (α:=ct) (q1 (qA .bJ)) [.ro] (fun _=>[]) (fun e=>⟨[dO (fH e)],[],[]⟩)
def ahN:HH:=hF af_ func225 [YM] a0 fun(e:ct) hp hb=>by
 clear hp hb
 apply vE (let x0:=ByteArray.toList e.Op==ByteArray.toList {data:= #[(43:UInt8)]:BA};let q0:=bif fm e.L then Lb (fm e.R) (fH e) else Lb false (fH e);bif ByteArray.toList e.Op==ByteArray.toList {data:= #[]:BA} then bif fm e.L then Lb (e.R.K==0&&(ByteArray.toList e.R.S==ByteArray.toList {data:= #[]:BA}&&(e.R.V.K==0&&(e.R.V.N==0&&(ByteArray.toList e.R.V.S==ByteArray.toList {data:= #[]:BA}&&true))&&true))) (fH e) else Lb false (fH e) else bif x0 then bif x0 then q0 else Lb false (fH e) else bif ByteArray.toList e.Op==ByteArray.toList {data:= #[(45:UInt8)]:BA} then q0 else Lb false (fH e))
 dsimp only
 have e:∀s:BA,(ByteArray.toList s==ByteArray.toList {data:= #[]})=decide (s=ao):=fun s=>aQ _ _
 have ea:∀a:cI,(a.K==0&&(ByteArray.toList a.S==ByteArray.toList {data:= #[]}&&(a.V.K==0&&(a.V.N==0&&(ByteArray.toList a.V.S==ByteArray.toList {data:= #[]}&&true))&&true)))=decide (a=mJ):=fun a=>LU a mJ
 have e1:∀s:BA,(ByteArray.toList s==ByteArray.toList {data:= #[43]})=decide (s=Fk):=fun s=>aQ _ _
 have e2:∀s:BA,(ByteArray.toList s==ByteArray.toList {data:= #[45]})=decide (s=xe):=fun s=>aQ _ _
 simp only[ea]
 simp only[e,e1,e2,fH]
 repeat' (refine ae (fun h=> ?_) (fun h=> ?_))
 all_goals (refine cj ?_;grind)
def XI:=bV (α:=List ct) (q1 (qL .bJ)) [.ro] (fun _=>[]) (fun es=>⟨[dO (eO es)],[],[]⟩)
def C7(es:List ct):Int×Unit->Prop:=fun(i,_)=>0<=i/\i<=es.length/\(es.drop i.toNat).all fH=es.all fH
def Cj(es:List ct):Int×Unit->Nat:=fun(i,_)=>es.length-i.toNat
def ajc:AX XI:=fun es=>b_ [(2,aY [iI 3] (fun _=>C7 es) (Cj es))]
def ahC:HH:=hF XI func243 [aht] ajc fun(es:List ct) hp hb=>by
 have aei:L9 es.length:=lu (hb _ m0)
 clear hp hb
 apply vE (let x0:=(es.length:Int);C7 es (0,())/\∀(y:Int×PUnit),let q0:=(wrap i64 (y.1+1),());C7 es y->bif decide (y.1<x0) then 0<=y.1/\y.1.toNat<es.length/\bif !fH (es.getD y.1.toNat eY) then Lb false (eO es) else C7 es q0/\Cj es q0<Cj es y else Lb (decide (x0<=5)) (eO es))
 dsimp only
 refine⟨⟨by omega,by omega,rfl⟩,?_⟩
 rintro⟨i,⟨⟩⟩ ⟨h1,h2,hR⟩
 simp only
 refine ae ?_ ?_<;>intro hc
 ·have hc:=yT hc
  rw[dQ _ _ eY h1 (by omega)] at hR
  rw[wi]
  refine⟨by omega,by omega,ae (fun h=>bG ?_) (fun h=>⟨⟨by omega,by omega,?_⟩,?_⟩)⟩
  ·simp only[eO,<-hR];simp at h;simp[h]
  ·rw[<-hR];simp at h;simp[h]
  ·simp only[Cj];omega
 ·have hc:=yF hc
  rw[cy _ (by omega)] at hR
  refine cj ?_
  simp only[eO,<-hR];simp;omega
def X3:=bV (α:=ew) (q1 (qA .dx)) [.ro] (fun _=>[]) (fun a=>⟨[dO (bu a.Name&&eO a.az)],[],[]⟩)
def Dh(a:ew):Int×Unit->Prop:=fun(i,_)=>0<=i/\i<=a.az.length/\a.az.length<=5/\bu a.Name=true/\(a.az.drop i.toNat).all fH=a.az.all fH
def Cv(a:ew):Int×Unit->Nat:=fun(i,_)=>a.az.length-i.toNat
def ajx:AX X3:=fun a=>b_ [(4,aY [iI 18] (fun _=>Dh a) (Cv a))]
def ah':HH:=hF X3 func191 [ahN,NA] ajx fun(a:ew) hp hb=>by
 clear hp hb
 apply vE (let x0:=(a.az.length:Int);let q0:=bu a.Name&&eO a.az;bif !bu a.Name then Lb false q0 else bif decide (x0>5) then Lb false q0 else Dh a (0,())/\∀(y:Int×PUnit),let q1:=(wrap i64 (y.1+1),());Dh a y->bif decide (y.1<x0) then 0<=y.1/\y.1.toNat<a.az.length/\bif !fH (a.az.getD y.1.toNat eY) then Lb false q0 else Dh a q1/\Cv a q1<Cv a y else Lb true q0)
 dsimp only
 refine ae (fun h=>bG ?_) (fun h=>ae (fun h'=>bG ?_) (fun h'=> ?_))
 ·simp at h;simp[h]
 ·have h':=yT h';simp only[eO];rw[decide_eq_false (show¬a.az.length<=5 by omega)];simp
 have h':=yF h'
 refine⟨⟨by omega,by omega,by omega,by simpa using h,rfl⟩,?_⟩
 rintro⟨i,⟨⟩⟩ ⟨h1,h2,h3,h4,hR⟩
 simp only
 refine ae ?_ ?_<;>intro hc
 ·have hc:=yT hc
  rw[dQ _ _ eY h1 (by omega)] at hR
  rw[wi]
  refine⟨by omega,by omega,ae (fun h=>bG ?_) (fun h=>⟨⟨by omega,by omega,h3,h4,?_⟩,?_⟩)⟩
  ·simp only[eO,<-hR];simp at h;simp[h]
  ·rw[<-hR];simp at h;simp[h]
  ·simp only[Cv];omega
 ·have hc:=yF hc
  rw[cy _ (by omega)] at hR
  refine nE ?_
  simp only[eO,<-hR,h4,decide_eq_true h3];rfl
def agc:=bV (α:=ew) (q1 (qA .dx)) [.ro] (fun _=>[]) (fun a=>⟨[dO (df a)],[],[]⟩)
def ahQ:HH:=hF agc func221 [tN,Bw,ahC] a0 fun(a:ew) hp hb=>by
 clear hp hb
 apply vE (let x0:=ByteArray.toList a.aR==ByteArray.toList {data:= #[]:BA};let x1:=a.Kind==5;let x2:=a.N==0;let q0:=bif a.Kind==1 then bif bu a.Name then bif eO a.az then bif x2 then Lb x0 (df a) else Lb false (df a) else Lb false (df a) else Lb false (df a) else bif a.Kind==3 then bif bu a.Name then bif eO a.az then bif x2 then bif x0 then Lb true (df a) else Lb (bu a.aR) (df a) else Lb false (df a) else Lb false (df a) else Lb false (df a) else bif a.Kind==4 then bif bu a.Name then bif eO a.az then bif decide (0<=a.N/\a.N<=100000) then Lb x0 (df a) else Lb false (df a) else Lb false (df a) else Lb false (df a) else bif a.Kind==2 then Lb false (df a) else bif x1 then bif x1 then Lb false (df a) else Lb false (df a) else bif a.Kind==6 then Lb false (df a) else Lb false (df a);let q1:=Lb false (df a);bif ByteArray.toList a.Name==ByteArray.toList {data:= #[]:BA} then bif (a.az.length:Int)==0 then bif a.Kind==1 then bif bu a.Name then bif eO a.az then bif x2 then Lb x0 (df a) else q1 else q1 else q1 else bif a.Kind==3 then bif bu a.Name then bif eO a.az then bif x2 then bif x0 then Lb true (df a) else Lb (bu a.aR) (df a) else q1 else q1 else q1 else bif a.Kind==4 then bif bu a.Name then bif eO a.az then bif decide (0<=a.N/\a.N<=100000) then Lb x0 (df a) else q1 else q1 else q1 else bif a.Kind==2 then bif x0 then Lb (decide (0<=a.N/\a.N<=7)) (df a) else q1 else bif x1 then bif x1 then bif x0 then Lb x2 (df a) else q1 else q1 else bif a.Kind==6 then bif x0 then Lb x2 (df a) else q1 else q1 else q0 else q0)
 dsimp only
 have e:∀s:BA,(ByteArray.toList s==ByteArray.toList {data:= #[]})=decide (s=ao):=fun s=>aQ _ _
 simp only[e,df,Bo,fj]
 repeat' (refine ae (fun h=> ?_) (fun h=> ?_))
 all_goals (refine cj ?_;grind)
def agF:=bV (α:=ew) (q1 (qA .dx)) [.ro] (fun _=>[]) (fun a=>⟨[dO (df a)],[],[]⟩)
def aiH:HH:=hF agF func143 [FE,ah',TT] a0 fun(a:ew) hp hb=>by
 clear hp hb
 apply vE (let x0:=a.Kind==5;let x1:=bu a.Name&&eO a.az;let q0:=Lb (ByteArray.toList a.aR==ByteArray.toList {data:= #[]:BA}) (df a);let q1:=Lb false (df a);let q2:=bif a.N==0 then q0 else q1;let q3:=bif x1 then bif decide (0<=a.N/\a.N<=100000) then q0 else q1 else q1;let q4:=bif x1 then bif a.N==0 then Lb (fj a.aR) (df a) else q1 else q1;let q5:=bif (a.az.length:Int)==0 then q2 else q1;bif ByteArray.toList a.Name==ByteArray.toList {data:= #[]:BA} then bif a.Kind==1 then bif x1 then q2 else q1 else bif a.Kind==2 then bif (a.az.length:Int)==0 then bif decide (0<=a.N/\a.N<=7) then q0 else q1 else q1 else bif a.Kind==3 then q4 else bif a.Kind==4 then q3 else bif x0 then bif x0 then q5 else q1 else bif a.Kind==6 then q5 else q1 else bif a.Kind==1 then bif x1 then q2 else q1 else bif a.Kind==2 then q1 else bif a.Kind==3 then q4 else bif a.Kind==4 then q3 else bif x0 then bif x0 then q1 else q1 else bif a.Kind==6 then q1 else q1)
 dsimp only
 have e:∀s:BA,(ByteArray.toList s==ByteArray.toList {data:= #[]})=decide (s=ao):=fun s=>aQ _ _
 simp only[e,df,Bo,fj]
 repeat' (refine ae (fun h=> ?_) (fun h=> ?_))
 all_goals (refine cj ?_;grind)
def mQ(l:List BA)(s:BA):Bool:=l.any fun t=>decide (t=s)
theorem pW{l:List BA}{s:BA}:mQ l s=true↔s∈l:=by
 simp only[mQ,vm,decide_eq_true_eq]
 exact⟨fun⟨t,h1,h2⟩=>h2▸h1,fun h=>⟨s,h,rfl⟩⟩
def e9(l:List BA)(s:BA):List BA:=if mQ l s then l else l++[s]
def mZ(l:List BA)(a:cI):List BA:=if a.K=1 then e9 l a.S else l
def dB(l:List BA)(xs:List cI):List BA:=xs.foldl mZ l
theorem Br{l:List BA}{s t:BA}:t∈e9 l s↔t∈l\/t=s:=by
 unfold e9;split
 ·rename_i h
  exact⟨.inl,fun h'=>h'.elim id (fun e=>e▸pW.1 h)⟩
 ·simp
theorem Bs(l:List BA)(s:BA):(e9 l s).length<=l.length+1:=by
 unfold e9;split
 ·omega
 ·simp
theorem Nw{l:List BA}{a:cI}{t:BA}:t∈mZ l a↔t∈l\/(a.K=1/\t=a.S):=by
 unfold mZ;split
 ·rename_i h;rw[Br];simp[h]
 ·rename_i h;simp[h]
theorem Nx(l:List BA)(a:cI):(mZ l a).length<=l.length+1:=by
 unfold mZ;split
 ·exact Bs _ _
 ·omega
theorem re{t:BA}:∀{xs:List cI}{l:List BA},t∈dB l xs↔t∈l\/∃a∈xs,a.K=1/\t=a.S
 |[],l=>by simp[dB]
 |a::xs,l=>by
  show t∈dB (mZ l a) xs↔_
  rw[re,Nw]
  simp only[jZ,exists_eq_or_imp,or_assoc]
theorem jA:∀(xs:List cI)(l:List BA),(dB l xs).length<=l.length+xs.length
 |[],l=>tX _
 |a::xs,l=>by
  have h1:=jA xs (mZ l a)
  have h2:=Nx l a
  show(dB (mZ l a) xs).length<=_
  simp only[fK];omega
theorem y3(l:List BA)(xs:List cI){i:Int}(h0:0<=i)(h:i<xs.length):dB l (xs.take (i+1).toNat)=mZ (dB l (xs.take i.toNat)) (xs.getD i.toNat mJ):=by
 rw[<-dk xs mJ h0 h]
 simp only[dB,List.foldl_append,List.foldl_cons,List.foldl_nil]
def lj(l:List BA)(p:cr):List BA:=if p.Not then l else dB l p.az
def ja(ps:List cr):List BA:=ps.foldl lj []
theorem nL{α β:Type}(f:β->α->β)(b:β)(l:List α)(z:α){i:Int}(h0:0<=i)(h:i<l.length):(l.take (i+1).toNat).foldl f b=f ((l.take i.toNat).foldl f b) (l.getD i.toNat z):=by
 rw[<-dk l z h0 h]
 simp only[List.foldl_append,List.foldl_cons,List.foldl_nil]
def dK(ps:List cr):Nat:=(ps.map fun p=>p.az.length).sum
def qQ(ps:List cr)(t:BA):Prop:=∃p∈ps,p.Not=false/\∃a∈p.az,a.K=1/\t=a.S
theorem MS{l:List BA}{p:cr}{t:BA}:t∈lj l p↔t∈l\/(p.Not=false/\∃a∈p.az,a.K=1/\t=a.S):=by
 unfold lj
 cases h:p.Not
 ·simp only[xv,if_false];rw[re];simp
 ·simp
theorem xQ{t:BA}:∀{ps:List cr}{l:List BA},t∈ps.foldl lj l↔t∈l\/qQ ps t
 |[],l=>by simp[qQ]
 |p::ps,l=>by
  show t∈ps.foldl lj (lj l p)↔_
  rw[xQ,MS]
  simp only[qQ,jZ,exists_eq_or_imp,or_assoc]
theorem KI{ps:List cr}{t:BA}:t∈ja ps↔qQ ps t:=by
 unfold ja;rw[xQ];simp
theorem xR:∀(ps:List cr)(l:List BA),(ps.foldl lj l).length<=l.length+dK ps
 |[],l=>tX _
 |p::ps,l=>by
  have h1:=xR ps (lj l p)
  have h2:(lj l p).length<=l.length+p.az.length:=by
   unfold lj;split
   ·omega
   ·exact jA _ _
  show(ps.foldl lj (lj l p)).length<=_
  simp only[dK,wh,Mr] at h1⊢;omega
def jb(l:List BA)(p:cr):List BA:=if p.Not then l else(dB [] p.az).foldl e9 l
def cQ(ps:List cr):List BA:=ps.foldl jb []
theorem yn{t:BA}:∀{xs l:List BA},t∈xs.foldl e9 l↔t∈l\/t∈xs
 |[],l=>by simp
 |a::xs,l=>by
  show t∈xs.foldl e9 (e9 l a)↔_
  rw[yn,Br,jZ,or_assoc]
theorem tg:∀(xs l:List BA),(xs.foldl e9 l).length<=l.length+xs.length
 |[],l=>tX _
 |a::xs,l=>by
  have h1:=tg xs (e9 l a)
  have h2:=Bs l a
  show(xs.foldl e9 (e9 l a)).length<=_
  simp only[fK];omega
theorem KJ{l:List BA}{p:cr}{t:BA}:t∈jb l p↔t∈l\/(p.Not=false/\∃a∈p.az,a.K=1/\t=a.S):=by
 unfold jb
 cases h:p.Not
 ·simp only[xv,if_false];rw[yn,re];simp
 ·simp
theorem wz{t:BA}:∀{ps:List cr}{l:List BA},t∈ps.foldl jb l↔t∈l\/qQ ps t
 |[],l=>by simp[qQ]
 |p::ps,l=>by
  show t∈ps.foldl jb (jb l p)↔_
  rw[wz,KJ]
  simp only[qQ,jZ,exists_eq_or_imp,or_assoc]
theorem xS{ps:List cr}{t:BA}:t∈cQ ps↔qQ ps t:=by
 unfold cQ;rw[wz];simp
theorem wA:∀(ps:List cr)(l:List BA),(ps.foldl jb l).length<=l.length+dK ps
 |[],l=>tX _
 |p::ps,l=>by
  have h1:=wA ps (jb l p)
  have h2:(jb l p).length<=l.length+p.az.length:=by
   unfold jb;split
   ·omega
   ·have g1:=tg (dB [] p.az) l
    have g2:=jA p.az []
    simp only[fv] at g2;omega
  show(ps.foldl jb (jb l p)).length<=_
  simp only[dK,wh,Mr] at h1⊢;omega
theorem HW(ps:List cr)(n:Nat):dK (ps.take n)<=dK ps:=by
 have h:=congrArg (fun q=>(q.map fun p:cr=>p.az.length).sum) (Ul n ps)
 simp only[J9,Zc] at h
 simp only[dK];omega
theorem Em(ps:List cr){i:Int}(h0:0<=i)(h:i<ps.length):dK (ps.take i.toNat)+(ps.getD i.toNat cC).az.length<=dK ps:=by
 have h1:=HW ps (i+1).toNat
 rw[<-dk ps cC h0 h] at h1
 simp only[dK,J9,Zc,wh,List.map_nil,Mr,List.sum_nil] at h1⊢
 omega
def cN(ps:List cr):Nat:=(ps.filter fun p=> !p.Not).length
theorem GZ{l:List BA}{s:BA}{i:Int}(h0:0<=i)(hl:i<l.length)(h:∀j:Nat,(j:Int)<i->¬l.getD j ao=s)(hi:¬l.getD i.toNat ao=s):∀j:Nat,(j:Int)<i+1->¬l.getD j ao=s:=by
 intro j hj
 by_cases Xk:(j:Int)<i
 ·exact h j Xk
 ·have:j=i.toNat:=by omega
  subst this;exact hi
theorem V8{l:List BA}{s:BA}(h:∀j:Nat,j<l.length->¬l.getD j ao=s):mQ l s=false:=by
 rw[<-wu,pW]
 intro hm
 obtain⟨j,hj,rfl⟩:=sG hm
 exact h j hj (by rw[ez,fw hj];rfl)
theorem Lg{l:List BA}{s:BA}{j:Nat}(hj:j<l.length)(h:l.getD j ao=s):mQ l s=true:=by
 rw[pW,<-h,ez,fw hj]
 exact FH hj
theorem GD(ps:List cr){i:Int}(h0:0<=i)(h:i<ps.length):cN (ps.take (i+1).toNat)=cN (ps.take i.toNat)+(if(!(ps.getD i.toNat cC).Not)=true then 1 else 0):=by
 rw[<-dk ps cC h0 h]
 simp only[cN,List.filter_append,ko,List.filter_cons,List.filter_nil]
 split<;>simp
theorem NZ(ps:List cr)(n:Nat):cN (ps.take n)<=n:=xr (Mq _ _) (by simp;omega)
def XO:=bV (α:=(List BA)×BA) (qC (qL .str) (q1 qS)) [.ro,.ro] (fun _=>[]) (fun(l,s)=>⟨[dO (mQ l s)],[],[]⟩)
def Da(l:List BA)(s:BA):Int×Unit->Prop:=fun(i,_)=>0<=i/\i<=l.length/\∀j:Nat,(j:Int)<i->¬l.getD j ao=s
def Co(l:List BA)(s:BA):Int×Unit->Nat:=fun(i,_)=>l.length-i.toNat
def aji:AX XO:=fun(l,s)=>b_ [(2,aY [iI 5] (fun _=>Da l s) (Co l s))]
def TR:HH:=hF XO func217 [] aji fun x hp hb=>by
 obtain⟨l,s⟩:=x
 have j8:L9 l.length:=lu (hb _ m0)
 have Sq:=Mp (s:=s) (hb _ m1)
 clear hp hb
 apply vE (Da l s (0,())/\∀(y:Int×PUnit),let q0:=(wrap i64 (y.1+1),());Da l s y->bif decide (y.1<(l.length:Int)) then 0<=y.1/\y.1.toNat<l.length/\bif ByteArray.toList (l.getD y.1.toNat ao)==ByteArray.toList s then Lb true (mQ l s) else Da l s q0/\Co l s q0<Co l s y else Lb false (mQ l s))
 dsimp only
 refine⟨⟨by omega,by omega,by intro j hj;omega⟩,?_⟩
 rintro⟨i,⟨⟩⟩ ⟨h1,h2,hR⟩
 simp only[aQ]
 refine ae ?_ ?_<;>intro hc
 ·have hc:=yT hc
  rw[wi]
  refine⟨by omega,by omega,ae (fun h=>nE (Lg (j:=i.toNat) (by omega) (yT h))) (fun h=>⟨⟨by omega,by omega,GZ h1 hc hR (yF h)⟩,by simp only[Co];omega⟩)⟩
 ·have hc:=yF hc
  exact bG (V8 fun j hj=>hR j (by omega))
def X1:=bV (α:=(List BA)×BA) (qC (qL .str) (q1 qS)) [.ro,.ro] (fun _=>[]) (fun(l,s)=>⟨[dI (jJ l.length (fun j=>decide (l.getD j ao=s)))],[],[]⟩)
def Dg(l:List BA)(s:BA):Int×Unit->Prop:=fun(i,_)=>0<=i/\i<=l.length/\∀j:Nat,(j:Int)<i->¬l.getD j ao=s
def Cu(l:List BA)(s:BA):Int×Unit->Nat:=fun(i,_)=>l.length-i.toNat
def ajv:AX X1:=fun(l,s)=>b_ [(2,aY [iI 8] (fun _=>Dg l s) (Cu l s))]
def ah9:HH:=hF X1 func193 [] ajv fun x hp hb=>by
 obtain⟨l,s⟩:=x
 have j8:L9 l.length:=lu (hb _ m0)
 have Sq:=Mp (s:=s) (hb _ m1)
 clear hp hb
 apply vE (Dg l s (0,())/\∀(y:Int×PUnit),let q0:=(wrap i64 (y.1+1),());Dg l s y->bif decide (y.1<(l.length:Int)) then 0<=y.1/\y.1.toNat<l.length/\bif ByteArray.toList s==ByteArray.toList (l.getD y.1.toNat ao) then Li y.1 (jJ (l.length) fun(j:Nat)=>decide (l.getD j ao=s)) else Dg l s q0/\Cu l s q0<Cu l s y else Li (-1) (jJ (l.length) fun(j:Nat)=>decide (l.getD j ao=s)))
 dsimp only
 refine⟨⟨by omega,by omega,by intro j hj;omega⟩,?_⟩
 rintro⟨i,⟨⟩⟩ ⟨h1,h2,hR⟩
 simp only[aQ]
 refine ae ?_ ?_<;>intro hc
 ·have hc:=yT hc
  rw[wi]
  refine⟨by omega,by omega,ae (fun h=>oM ?_) (fun h=>⟨⟨by omega,by omega,GZ h1 hc hR (fun e=>yF h e.symm)⟩,by simp only[Cu];omega⟩)⟩
  rw[fE (i:=i.toNat) (by omega) (decide_eq_true (yT h).symm) (fun j hj=>decide_eq_false (hR j (by omega)))]
  omega
 ·have hc:=yF hc
  exact oM (jl (fun j hj=>decide_eq_false (hR j (by omega)))).symm
def agE:=bV (α:=(List BA)×BA) (qC (qL .str) (q1 qS)) [.ro,.ro] (fun _=>[]) (fun(l,s)=>⟨[dO (mQ l s)],[],[]⟩)
def YV:HH:=hF agE func146 [ah9] a0 fun x hp hb=>by
 obtain⟨l,s⟩:=x
 clear hp hb
 apply vE (let x0:=jJ (l.length) fun(j:Nat)=>decide (l.getD j ao=s);Lb (decide (x0≥0)) (mQ l s))
 dsimp only
 refine cj ?_
 show decide (0<=jJ l.length (fun j=>decide (l.getD j ao=s)))=_
 rw[BT]
 by_cases h:mQ l s=true
 ·rw[h]
  obtain⟨j,hj,hs⟩:=sG (pW.1 h)
  exact iw hj (decide_eq_true (by rw[ez,fw hj];exact hs))
 ·rw[wu] at h
  rw[h]
  exact gj fun j hj=>decide_eq_false fun e=>absurd (Lg hj e) (by rw[h];decide)
def Yu:=bV (α:=bf) (q1 (qA .bE)) [.ro] (fun _=>[]) (fun r=>⟨[dI (cN r.aH:Int)],[],[]⟩)
def zw(r:bf):Int×Int×T1×Unit->Prop:=fun(n,i,b,_)=>b=(r.Name,r.je,r.aH,r.aU,r.bI,())/\0<=i/\i<=r.aH.length/\n=cN (r.aH.take i.toNat)
def tI(r:bf):Int×Int×T1×Unit->Nat:=fun(n,i,b,_)=>r.aH.length-i.toNat
def aj1:AX Yu:=fun r=>b_ [(3,aY [iI 3,iI 4,.box 1 (1,1024) [.lit .str,.lit (.int .i64),.shr .du,.shr .ca,.shr .dx]] (fun _=>zw r) (tI r))]
def Mb:HH:=hF Yu func128 [] aj1 fun(r:bf) hp hb=>by
 have eV:=lV (x:=r) (hb _ m0)
 have kL:=eV.1
 have kK:=eV.2.1
 have jL:=eV.2.2.1
 have kM:=eV.2.2.2
 clear hp hb
 apply vE (zw r (0,0,(r.Name,r.je,r.aH,r.aU,r.bI,()),())/\∀(y:Int×Int×Y'×PUnit),let x1:=y.2.2.1.2.2.1.length;let x2:=y.2.1.toNat;let x0:=(↑x1:Int);let q0:=(y.2.2.1.1,y.2.2.1.2.1,y.2.2.1.2.2.1,y.2.2.1.2.2.2.1,y.2.2.1.2.2.2.2.1,());let q1:=(wrap i64 (y.1+1),wrap i64 (y.2.1+1),q0,());let q2:=(y.1,wrap i64 (y.2.1+1),q0,());zw r y->bif decide (y.2.1<x0) then 0<=y.2.1/\x2<x1/\bif !(y.2.2.1.2.2.1.getD x2 cC).Not then zw r q1/\tI r q1<tI r y else zw r q2/\tI r q2<tI r y else Li y.1 (↑(cN r.aH):Int))
 dsimp only
 refine⟨⟨rfl,by omega,by omega,rfl⟩,?_⟩
 rintro⟨n,i,⟨b1,b2,b3,b4,b5,⟨⟩⟩,⟨⟩⟩ ⟨rZ,h1,h2,rfl⟩
 cases rZ
 simp only
 refine ae ?_ ?_<;>intro hc
 ·have hc:=yT hc
  have hs:=GD r.aH h1 hc
  have hle:cN (r.aH.take i.toNat)<=i.toNat:=NZ _ _
  rw[wi (n:=i+1),wrap_i64 (n:=(cN (r.aH.take i.toNat):Int)+1) (by omega) (by omega)]
  have hm:i.toNat<r.aH.length:=by omega
  refine⟨by omega,by omega,ae (fun h=>⟨⟨rfl,by omega,by omega,?_⟩,by simp only[tI];omega⟩) (fun h=>⟨⟨rfl,by omega,by omega,?_⟩,by simp only[tI];omega⟩)⟩
  ·rw[hs,if_pos h];omega
  ·rw[hs,if_neg (by rw[h];decide)];omega
 ·have hc:=yF hc
  rw[cE r.aH (by omega)]
  exact aX _
def aff:=bV (α:=bf) (q1 (qA .bE)) [.ro] (fun _=>[]) (fun r=>⟨[dI (cN r.aH:Int)],[],[]⟩)
def Fw(r:bf):Int×Int×Unit->Prop:=fun(n,i,_)=>0<=i/\i<=r.aH.length/\n=cN (r.aH.take i.toNat)
def xk(r:bf):Int×Int×Unit->Nat:=fun(n,i,_)=>r.aH.length-i.toNat
def apq:AX aff:=fun r=>b_ [(3,aY [iI 3,iI 9] (fun _=>Fw r) (xk r))]
def abK:HH:=hF aff func93 [] apq fun(r:bf) hp hb=>by
 have eV:=lV (x:=r) (hb _ m0)
 have kL:=eV.1
 have kK:=eV.2.1
 have jL:=eV.2.2.1
 have kM:=eV.2.2.2
 clear hp hb
 apply vE (Fw r (0,0,())/\∀(y:Int×Int×PUnit),let x0:=y.2.1.toNat;let q0:=(wrap i64 (y.1+1),wrap i64 (y.2.1+1),());let q1:=(y.1,wrap i64 (y.2.1+1),());Fw r y->bif decide (y.2.1<(r.aH.length:Int)) then 0<=y.2.1/\x0<r.aH.length/\bif !(r.aH.getD x0 cC).Not then Fw r q0/\xk r q0<xk r y else Fw r q1/\xk r q1<xk r y else Li y.1 (↑(cN r.aH):Int))
 dsimp only
 refine⟨⟨by omega,by omega,rfl⟩,?_⟩
 rintro⟨n,i,⟨⟩⟩ ⟨h1,h2,rfl⟩
 simp only
 refine ae ?_ ?_<;>intro hc
 ·have hc:=yT hc
  have hs:=GD r.aH h1 hc
  have hle:cN (r.aH.take i.toNat)<=i.toNat:=NZ _ _
  rw[wi (n:=i+1),wrap_i64 (n:=(cN (r.aH.take i.toNat):Int)+1) (by omega) (by omega)]
  have hm:i.toNat<r.aH.length:=by omega
  refine⟨by omega,by omega,ae (fun h=>⟨⟨by omega,by omega,?_⟩,by simp only[xk];omega⟩) (fun h=>⟨⟨by omega,by omega,?_⟩,by simp only[xk];omega⟩)⟩
  ·rw[hs,if_pos h];omega
  ·rw[hs,if_neg (by rw[h];decide)];omega
 ·have hc:=yF hc
  rw[cE r.aH (by omega)]
  exact aX _
def XP:=bV (α:=cr) (q1 (qA .du)) [.ro] (fun p=>[L4 p.az.length]) (fun p=>⟨[dL .str (dB [] p.az)],[],[]⟩)
def ze(p:cr):List BA×Int×OY×Unit->Prop:=fun(l,i,b,_)=>b=(p.Kind,p.az,p.Not,())/\0<=i/\i<=p.az.length/\l=dB [] (p.az.take i.toNat)
def rf(p:cr):List BA×Int×OY×Unit->Nat:=fun(l,i,b,_)=>p.az.length-i.toNat
def ajj:AX XP:=fun p=>b_ [(3,aY [iO 3 .str,iI 4,.box 1 (1,1024) [.lit .str,.shr .gB,.lit .bool]] (fun _=>ze p) (rf p))]
def ahT:HH:=hF XP func216 [TR] ajj fun(p:cr) hp hb=>by
 have eV:=IG (x:=p) (hb _ m0)
 have GX:=eV.1
 have GY:=eV.2
 have bp:p.az.length<=4294967296:=hp _ m0
 clear hp hb
 apply vE (ze p ([],0,(p.Kind,p.az,p.Not,()),())/\∀(y:List BA×Int×T18×PUnit),let x4:=y.2.2.1.2.1.length;let x5:=y.2.1.toNat;let x2:=y.2.2.1.2.1.getD x5 mJ;let x3:=(↑x4:Int);let x1:=x2.S;let x0:=[x1];let q0:=(y.1,wrap i64 (y.2.1+1),(y.2.2.1.1,y.2.2.1.2.1,y.2.2.1.2.2.1,()),());let q1:=(y.1++x0,wrap i64 (y.2.1+1),(y.2.2.1.1,y.2.2.1.2.1,y.2.2.1.2.2.1,()),());let q2:=ze p q0/\rf p q0<rf p y;ze p y->bif decide (y.2.1<x3) then 0<=y.2.1/\x5<x4/\bif x2.K==1 then 0<=y.2.1/\x5<x4/\bif !mQ y.1 x1 then 0<=y.2.1/\x5<x4/\L4 (y.1.length+x0.length)/\ze p q1/\rf p q1<rf p y else q2 else q2 else Lf [VL .str y.1] [VL .str (dB [] p.az)])
 dsimp only
 refine⟨⟨rfl,by omega,by omega,rfl⟩,?_⟩
 rintro⟨l,i,⟨b1,b2,b3,⟨⟩⟩,⟨⟩⟩ ⟨rZ,h1,h2,rfl⟩
 cases rZ
 simp only
 refine ae ?_ ?_<;>intro hc
 ·have hc:=yT hc
  have hs:=y3 [] p.az h1 hc
  have hl:=jA (p.az.take i.toNat) []
  have Bc:(p.az.take i.toNat).length<=i.toNat:=by rw[oc];omega
  simp only[fv] at hl
  rw[wi]
  have hm:∀x:List BA,rf p (x,i+1,(p.Kind,p.az,p.Not,PUnit.unit),PUnit.unit)<rf p (dB [] (p.az.take i.toNat),i,(p.Kind,p.az,p.Not,PUnit.unit),PUnit.unit):=fun x=>by simp only[rf];omega
  refine⟨by omega,by omega,ae (fun h=>⟨by omega,by omega,ae (fun g=>⟨by omega,by omega,by simp;omega,⟨rfl,by omega,by omega,?_⟩,hm _⟩) (fun g=>⟨⟨rfl,by omega,by omega,?_⟩,hm _⟩)⟩) (fun h=>⟨⟨rfl,by omega,by omega,?_⟩,hm _⟩)⟩
  ·rw[hs,mZ,if_pos (eq_of_beq h),e9,if_neg (by simpa using g)]
  ·rw[hs,mZ,if_pos (eq_of_beq h),e9,if_pos (by simpa using g)]
  ·rw[hs,mZ,if_neg (fun e=>by rw[e] at h;simp at h)]
 ·have hc:=yF hc
  rw[cE p.az (by omega)]
  exact aX _
def Ya:=bV (α:=bf) (q1 (qA .bE)) [.ro] (fun r=>[L4 (dK r.aH)]) (fun r=>⟨[dL .str (cQ r.aH)],[],[]⟩)
def Dp(r:bf):List BA×Int×T1×Unit->Prop:=fun(l,i,b,_)=>b=(r.Name,r.je,r.aH,r.aU,r.bI,())/\0<=i/\i<=r.aH.length/\l=cQ (r.aH.take i.toNat)
def y8(r:bf):List BA×Int×T1×Unit->Nat:=fun(l,i,b,_)=>r.aH.length-i.toNat
def zm(r:bf):List BA×Int×List BA×Int×T1×Unit->List BA×Int×List BA×Int×T1×Unit->Prop:=fun(l0,i0,v0,k0,b0,_) (l,i,v,k,b,_)=>b=(r.Name,r.je,r.aH,r.aU,r.bI,())/\i=i0/\v=v0/\0<=k/\k<=v.length/\l=(v.take k.toNat).foldl e9 l0/\(k=0\/(r.aH.getD i.toNat cC).Not=false)
def tD(r:bf):List BA×Int×List BA×Int×T1×Unit->Nat:=fun(l,i,v,k,b,_)=>v.length-k.toNat
def ajG:AX Ya:=fun r=>b_ [(3,aY [iO 3 .str,iI 4,.box 1 (1,1024) [.lit .str,.lit (.int .i64),.shr .du,.shr .ca,.shr .dx]] (fun _=>Dp r) (y8 r)),(7,aY [iO 3 .str,iI 4,iO 5 .str,iI 6,.box 1 (1,1024) [.lit .str,.lit (.int .i64),.shr .du,.shr .ca,.shr .dx]] (zm r) (tD r))]
def YP:HH:=hF Ya func177 [ahT,TR] ajG fun(r:bf) hp hb=>by
 have eV:=lV (x:=r) (hb _ m0)
 have kL:=eV.1
 have kK:=eV.2.1
 have jL:=eV.2.2.1
 have kM:=eV.2.2.2
 have bp:dK r.aH<=4294967296:=hp _ m0
 clear hp hb
 apply vE (let q0:=BA×Int×List cr×List dy×List ew×PUnit;Dp r ([],0,(r.Name,r.je,r.aH,r.aU,r.bI,()),())/\∀(y:List BA×Int×q0×PUnit),let x2:=y.2.2.1.2.2.1.length;let x3:=y.2.1.toNat;let x0:=(y.2.2.1.2.2.1.getD x3 cC).az;let x1:=(↑x2:Int);let q1:=(y.1,y.2.1,dB [] x0,0,(y.2.2.1.1,y.2.2.1.2.1,y.2.2.1.2.2.1,y.2.2.1.2.2.2.1,y.2.2.1.2.2.2.2.1,()),());Dp r y->bif decide (y.2.1<x1) then 0<=y.2.1/\x3<x2/\L4 x0.length/\zm r q1 q1/\∀(aO:List BA×Int×List BA×Int×q0×PUnit),let x6:=aO.2.2.2.1.toNat;let x8:=aO.2.2.1.length;let x9:=aO.2.1.toNat;let x5:=aO.2.2.1.getD x6 ao;let x7:=(↑x8:Int);let x4:=[x5];let q2:=(aO.2.2.2.2.1.1,aO.2.2.2.2.1.2.1,aO.2.2.2.2.1.2.2.1,aO.2.2.2.2.1.2.2.2.1,aO.2.2.2.2.1.2.2.2.2.1,());let q3:=(aO.1,wrap i64 (aO.2.1+1),q2,());let q4:=(aO.1++x4,aO.2.1,aO.2.2.1,wrap i64 (aO.2.2.2.1+1),q2,());let q5:=(aO.1,aO.2.1,aO.2.2.1,wrap i64 (aO.2.2.2.1+1),q2,());let q6:=Dp r q3/\y8 r q3<y8 r y;zm r q1 aO->bif decide (aO.2.2.2.1<x7) then 0<=aO.2.1/\x9<aO.2.2.2.2.1.2.2.1.length/\bif !(aO.2.2.2.2.1.2.2.1.getD x9 cC).Not then 0<=aO.2.2.2.1/\x6<x8/\x6<x8/\bif !mQ aO.1 x5 then 0<=aO.2.2.2.1/\x6<x8/\x6<x8/\L4 (aO.1.length+x4.length)/\zm r q1 q4/\tD r q4<tD r aO else zm r q1 q5/\tD r q5<tD r aO else q6 else q6 else Lf [VL .str y.1] [VL .str (cQ r.aH)])
 dsimp only
 refine⟨⟨rfl,by omega,by omega,rfl⟩,?_⟩
 rintro⟨l,i,⟨b1,b2,b3,b4,b5,⟨⟩⟩,⟨⟩⟩ ⟨rZ,h1,h2,rfl⟩
 cases rZ
 simp only
 refine ae ?_ ?_<;>intro hc
 ·have hc:=yT hc
  have hs:cQ (r.aH.take (i+1).toNat)=jb (cQ (r.aH.take i.toNat)) (r.aH.getD i.toNat cC):=nL jb [] r.aH cC h1 hc
  have ha:=Em r.aH h1 hc
  have hl:=wA (r.aH.take i.toNat) []
  simp only[fv,vk] at hl
  have hv:=jA (r.aH.getD i.toNat cC).az []
  simp only[fv,vk] at hv
  refine⟨by omega,by omega,by omega,⟨rfl,rfl,rfl,by omega,by omega,rfl,.inl rfl⟩,?_⟩
  rintro⟨l',i',v,k,⟨b1,b2,b3,b4,b5,⟨⟩⟩,⟨⟩⟩ ⟨rZ,rfl,rfl,g1,g2,rfl,g3⟩
  cases rZ
  simp only
  have Gd:=tg ((dB [] (r.aH.getD i'.toNat cC).az).take k.toNat) (cQ (r.aH.take i'.toNat))
  have ank:((dB [] (r.aH.getD i'.toNat cC).az).take k.toNat).length<=k.toNat:=by rw[oc];omega
  have Ii:(cQ (r.aH.take i'.toNat)).length<=dK (r.aH.take i'.toNat):=hl
  have qv:(dB [] (r.aH.getD i'.toNat cC).az).length<=(r.aH.getD i'.toNat cC).az.length:=hv
  refine ae ?_ ?_<;>intro hk
  ·have hk:=yT hk
   have hf:=nL e9 (cQ (r.aH.take i'.toNat)) (dB [] (r.aH.getD i'.toNat cC).az) ao g1 hk
   rw[wi (n:=k+1),wi (n:=i'+1)]
   refine⟨by omega,by omega,ae (fun hn=> ?_) (fun hn=> ?_)⟩
   ·have hn:(r.aH.getD i'.toNat cC).Not=false:=by simpa using hn
    have Xj:k.toNat<(dB [] (r.aH.getD i'.toNat cC).az).length:=by omega
    refine⟨g1,Xj,Xj,ae (fun g=>⟨g1,Xj,Xj,by simp only[fK,fv];omega,⟨rfl,rfl,rfl,by omega,by omega,?_,.inr hn⟩,by simp only[tD];omega⟩) (fun g=>⟨⟨rfl,rfl,rfl,by omega,by omega,?_,.inr hn⟩,by simp only[tD];omega⟩)⟩
    ·rw[hf,e9,if_neg (by simpa using g)]
    ·rw[hf,e9,if_pos (by simpa using g)]
   ·have hn:(r.aH.getD i'.toNat cC).Not=true:=by simpa using hn
    have BY:k=0:=g3.resolve_right (by rw[hn];decide)
    subst BY
    refine⟨⟨rfl,by omega,by omega,?_⟩,by simp only[y8];omega⟩
    rw[hs,jb,if_pos hn]
    rfl
  ·have hk:=yF hk
   rw[wi (n:=i'+1)]
   refine⟨⟨rfl,by omega,by omega,?_⟩,by simp only[y8];omega⟩
   rw[hs,jb]
   by_cases hn:(r.aH.getD i'.toNat cC).Not=true
   ·have BY:k=0:=g3.resolve_right (by rw[hn];decide)
    subst BY
    rw[if_pos hn];rfl
   ·rw[if_neg hn,cE (dB [] (r.aH.getD i'.toNat cC).az) (by omega)]
 ·have hc:=yF hc
  rw[cE r.aH (by omega)]
  exact aX _
def af':=bV (α:=(List BA)×BA) (qC (qL .str) (q1 qS)) [.mv,.ro] (fun(l,name)=>[l.length<=4294967295]) (fun(l,name)=>⟨[dL .str (e9 l name)],[],[]⟩)
def ahM:HH:=hF af' func226 [YV] a0 fun x hp hb=>by
 obtain⟨l,name⟩:=x
 have j8:L9 l.length:=lu (hb _ m0)
 have BX:=Mp (s:=name) (hb _ m1)
 have bp:l.length<=4294967295:=hp _ m0
 clear hp hb
 apply vE (bif mQ l name then Lf [VL .str l] [VL .str (e9 l name)] else l.length+List.length [name]<=4294967296/\Lf [VL .str (l++[name])] [VL .str (e9 l name)])
 refine ae (fun h=> ?_) (fun h=>⟨by simp;omega,?_⟩)
 ·rw[e9,if_pos h];exact aX _
 ·rw[e9,if_neg (by rw[h];decide)];exact aX _
def X2:=bV (α:=(List BA)×(List cI)) (qC (qL .str) (q1 (qL .gB))) [.mv,.ro] (fun(l,args)=>[l.length+args.length<=4294967295]) (fun(l,args)=>⟨[dL .str (dB l args)],[],[]⟩)
def zi(l:List BA)(args:List cI):List BA×Int×Unit->Prop:=fun(v,i,_)=>0<=i/\i<=args.length/\v=dB l (args.take i.toNat)
def tA(l:List BA)(args:List cI):List BA×Int×Unit->Nat:=fun(v,i,_)=>args.length-i.toNat
def ajw:AX X2:=fun(l,args)=>b_ [(2,aY [iO 0 .str,iI 9] (fun _=>zi l args) (tA l args))]
def YL:HH:=hF X2 func192 [ahM] ajw fun x hp hb=>by
 obtain⟨l,args⟩:=x
 have j8:L9 l.length:=lu (hb _ m0)
 have ake:L9 args.length:=lu (hb _ m1)
 have bp:l.length+args.length<=4294967295:=hp _ m0
 clear hp hb
 apply vE (zi l args (l,0,())/\∀(y:List BA×Int×PUnit),let x1:=y.2.1.toNat;let x0:=args.getD x1 mJ;let q0:=(e9 y.1 x0.S,wrap i64 (y.2.1+1),());let q1:=(y.1,wrap i64 (y.2.1+1),());zi l args y->bif decide (y.2.1<(args.length:Int)) then 0<=y.2.1/\x1<args.length/\bif x0.K==1 then y.1.length<=4294967295/\zi l args q0/\tA l args q0<tA l args y else zi l args q1/\tA l args q1<tA l args y else Lf [VL .str y.1] [VL .str (dB l args)])
 dsimp only
 refine⟨⟨by omega,by omega,rfl⟩,?_⟩
 rintro⟨v,i,⟨⟩⟩ ⟨h1,h2,rfl⟩
 simp only
 refine ae ?_ ?_<;>intro hc
 ·have hc:=yT hc
  have hs:=y3 l args h1 hc
  have hl:=jA (args.take i.toNat) l
  have Bc:(args.take i.toNat).length<=i.toNat:=by rw[oc];omega
  rw[wi]
  refine⟨by omega,by omega,ae (fun h=>⟨by omega,⟨by omega,by omega,?_⟩,by simp only[tA];omega⟩) (fun h=>⟨⟨by omega,by omega,?_⟩,by simp only[tA];omega⟩)⟩
  ·rw[hs,mZ,if_pos (eq_of_beq h)]
  ·rw[hs,mZ,if_neg (fun e=>by rw[e] at h;simp at h)]
 ·have hc:=yF hc
  rw[cE args (by omega)]
  exact aX _
def Yl:=bV (α:=bf) (q1 (qA .bE)) [.ro] (fun r=>[dK r.aH<=4294967295]) (fun r=>⟨[dL .str (ja r.aH)],[],[]⟩)
def zv(r:bf):List BA×Int×Unit->Prop:=fun(v,i,_)=>0<=i/\i<=r.aH.length/\v=ja (r.aH.take i.toNat)
def tH(r:bf):List BA×Int×Unit->Nat:=fun(v,i,_)=>r.aH.length-i.toNat
def ajS:AX Yl:=fun r=>b_ [(3,aY [iO 3 .str,iI 9] (fun _=>zv r) (tH r))]
def aiG:HH:=hF Yl func144 [YL] ajS fun(r:bf) hp hb=>by
 have eV:=lV (x:=r) (hb _ m0)
 have kL:=eV.1
 have kK:=eV.2.1
 have jL:=eV.2.2.1
 have kM:=eV.2.2.2
 have bp:dK r.aH<=4294967295:=hp _ m0
 clear hp hb
 apply vE (zv r ([],0,())/\∀(y:List BA×Int×PUnit),let x2:=y.2.1.toNat;let x1:=r.aH.getD x2 cC;let x0:=x1.az;let q0:=(dB y.1 x0,wrap i64 (y.2.1+1),());let q1:=(y.1,wrap i64 (y.2.1+1),());zv r y->bif decide (y.2.1<(r.aH.length:Int)) then 0<=y.2.1/\x2<r.aH.length/\bif !x1.Not then y.1.length+x0.length<=4294967295/\zv r q0/\tH r q0<tH r y else zv r q1/\tH r q1<tH r y else Lf [VL .str y.1] [VL .str (ja r.aH)])
 dsimp only
 refine⟨⟨by omega,by omega,rfl⟩,?_⟩
 rintro⟨v,i,⟨⟩⟩ ⟨h1,h2,rfl⟩
 simp only
 refine ae ?_ ?_<;>intro hc
 ·have hc:=yT hc
  have hs:ja (r.aH.take (i+1).toNat)=lj (ja (r.aH.take i.toNat)) (r.aH.getD i.toNat cC):=nL lj [] r.aH cC h1 hc
  have ha:=Em r.aH h1 hc
  have hl:=xR (r.aH.take i.toNat) []
  simp only[fv,vk] at hl
  have Ii:(ja (r.aH.take i.toNat)).length<=dK (r.aH.take i.toNat):=hl
  rw[wi]
  refine⟨by omega,by omega,ae (fun h=>⟨by omega,⟨by omega,by omega,?_⟩,by simp only[tH];omega⟩) (fun h=>⟨⟨by omega,by omega,?_⟩,by simp only[tH];omega⟩)⟩
  ·rw[hs,lj,if_neg (by simpa using h)]
  ·rw[hs,lj,if_pos (by simpa using h)]
 ·have hc:=yF hc
  rw[cE r.aH (by omega)]
  exact aX _
def jh(ps:List cr)(i:Nat):Bool:=(ps.getD i cC).Not
def uP(ps:List cr)(i:Nat):Bool:=fL (ps.getD i cC)&& !(decide (2<i)&& !jh ps i)&& !(decide (i=0)&&jh ps i)&& !(decide (0<i)&&jh ps (i-1)&& !jh ps i)
def mi(ps:List cr):Bool:=decide (1<=ps.length/\ps.length<=6)&&allI ps.length (uP ps)
def mj(ps:List cr)(i:Nat):Bool:=fL (ps.getD i cC)&&(jh ps i==decide (cN ps<=i))
def ik(ps:List cr):Bool:=decide (1<=ps.length/\ps.length<=6)&&decide (1<=cN ps/\cN ps<=3)&&allI ps.length (mj ps)
theorem fY{n:Nat}{p:Nat->Bool}:allI n p=true↔∀j,j<n->p j=true:=by simp[allI]
theorem rR(p:cr)(ps:List cr):cN (p::ps)=(if p.Not then 0 else 1)+cN ps:=by
 simp only[cN,List.filter_cons]
 cases p.Not<;>simp<;>omega
theorem KR:∀{ps:List cr},(∀i,i+1<ps.length->jh ps i=true->jh ps (i+1)=true)->∀i,i<ps.length->jh ps i=decide (cN ps<=i)
 |[],_,i,hi=>by simp at hi
 |p::ps,h,i,hi=>by
  have ih:=KR (ps:=ps) (fun j hj hn=>h (j+1) (by simpa using hj) hn)
  rw[rR]
  cases hp:p.Not with
  |false=>
   cases i with
   |zero=>show p.Not=_;rw[hp];simp
   |succ i=>
    show jh ps i=_
    rw[ih i (by simpa using hi)]
    simp only[xv,if_false,decide_eq_decide];omega
  |true=>
   have Gi:∀j,j<(p::ps).length->jh (p::ps) j=true:=by
    intro j
    induction j with
    |zero=>intro _;exact hp
    |succ j ihj=>intro hj;exact h j hj (ihj (by omega))
   have h0:cN ps=0:=by
    cases ps with
    |nil=>rfl
    |cons q qs=>
     have h1:=ih 0 (by simp)
     have h2:jh (q::qs) 0=true:=Gi 1 (by simp)
     rw[h2] at h1
     have:=yT h1.symm
     omega
   rw[Gi i hi,h0];simp
theorem pL(ps:List cr):ik ps=mi ps:=by
 rw[FJ]
 simp only[ik,mi,cJ,decide_eq_true_eq,fY]
 constructor
 ·rintro⟨⟨h1,h2⟩,h3⟩
  have hN:∀j,j<ps.length->jh ps j=decide (cN ps<=j):=fun j hj=>by
   have:=h3 j hj
   simp only[mj,cJ,beq_iff_eq] at this
   exact this.2
  refine⟨h1,fun j hj=> ?_⟩
  have hk:=h3 j hj
  simp only[mj,cJ] at hk
  simp only[uP,hk.1,hN j hj,wq,cJ,ru,Bool.and_eq_false_iff,decide_eq_false_iff_not,Bool.not_eq_false',decide_eq_true_eq]
  refine⟨⟨by omega,by omega⟩,?_⟩
  by_cases h0:0<j
  ·rw[hN (j-1) (by omega)];simp only[decide_eq_false_iff_not];omega
  ·exact .inl (.inl h0)
 ·rintro⟨h1,h2⟩
  have hA:∀j,j<ps.length->fL (ps.getD j cC)=true/\(2<j->jh ps j=true)/\(j=0->jh ps j=false)/\(0<j->jh ps (j-1)=true->jh ps j=true):=fun j hj=>by
   have:=h2 j hj
   simp only[uP,cJ,ru,Bool.and_eq_false_iff,decide_eq_false_iff_not,Bool.not_eq_false'] at this
   obtain⟨⟨⟨a1,a2⟩,a3⟩,a4⟩:=this
   refine⟨a1,fun h=>a2.resolve_left (fun e=>e h),fun h=>a3.resolve_left (fun e=>e h),fun h hn=>a4.resolve_left (fun e=> ?_)⟩
   rcases e with e|e
   ·exact e h
   ·rw[hn] at e;cases e
  have hN:=KR (ps:=ps) (fun i hi hn=>(hA (i+1) hi).2.2.2 (by omega) (by simpa using hn))
  have hz:=(hA 0 (by omega)).2.2.1 rfl
  rw[hN 0 (by omega)] at hz
  have hz:=yF hz
  have hle:cN ps<=ps.length:=Mq _ _
  refine⟨⟨h1,by omega,?_⟩,fun j hj=> ?_⟩
  ·by_cases h4:3<ps.length
   ·have:=(hA 3 h4).2.1 (by omega)
    rw[hN 3 h4] at this
    exact yT this
   ·omega
  ·simp only[mj,(hA j hj).1,hN j hj];simp
def eK(vars:List BA)(a:cI):Bool:= !decide (a.K=1)||mQ vars a.S
def mN(vars:List BA)(c:dy):Bool:=jj c&&eK vars c.L&&eK vars c.R
def kI(l:List dy)(vars:List BA):Bool:=decide (l.length<=6)&&l.all (mN vars)
def jM(vars:List BA)(e:ct):Bool:=eK vars e.L&&eK vars e.R
def hJ(pos:Int)(a:ew):Bool:= !(decide (a.Kind=2)&&decide (pos<=a.N))
def nB(vars:List BA)(pos:Int)(a:ew):Bool:=df a&&hJ pos a&&a.az.all (jM vars)
def lx(l:List ew)(vars:List BA)(pos:Int):Bool:=decide (1<=l.length/\l.length<=6)&&l.all (nB vars pos)
def fO(r:bf):Bool:=bu r.Name&&decide (-100<=r.je/\r.je<=100)&&mi r.aH&&kI r.aU (cQ r.aH)&&lx r.bI (cQ r.aH) (cN r.aH)
theorem HX(ps:List cr):dK ps<=kq ps:=by
 simp only[dK,kq]
 have:∀l:List cr,(l.map fun p=>p.az.length).sum<=(l.map ka).sum:=by
  intro l
  induction l with
  |nil=>exact tX _
  |cons p l ih=>simp only[wh,Mr,ka,uF] at ih⊢;omega
 have:=this ps;omega
theorem SJ(ps:List cr)(t:BA):mQ (ja ps) t=mQ (cQ ps) t:=by
 rw[FJ,pW,pW,KI,xS]
def nl(l:List BA)(c:dy):List BA:=dB l [c.L,c.R]
def tS(l:List BA)(e:ct):List BA:=dB l [e.L,e.R]
def qG(l:List BA)(a:ew):List BA:=a.az.foldl tS l
def oe(r:bf):List BA:=r.bI.foldl qG (r.aU.foldl nl [])
def qE(l:List ew):Nat:=(l.map fun a=>2*a.az.length).sum
theorem O2(l:List BA)(c:dy):(nl l c).length<=l.length+2:=jA _ _
theorem zF:∀(es:List ct)(l:List BA),(es.foldl tS l).length<=l.length+2*es.length
 |[],l=>tX _
 |e::es,l=>by
  have h1:=zF es (tS l e)
  have h2:(tS l e).length<=l.length+2:=jA _ _
  show(es.foldl tS (tS l e)).length<=_
  simp only[fK];omega
theorem sI:∀(cs:List dy)(l:List BA),(cs.foldl nl l).length<=l.length+2*cs.length
 |[],l=>tX _
 |c::cs,l=>by
  have h1:=sI cs (nl l c)
  have h2:=O2 l c
  show(cs.foldl nl (nl l c)).length<=_
  simp only[fK];omega
theorem wL:∀(xs:List ew)(l:List BA),(xs.foldl qG l).length<=l.length+qE xs
 |[],l=>tX _
 |a::xs,l=>by
  have h1:=wL xs (qG l a)
  have h2:(qG l a).length<=l.length+2*a.az.length:=zF _ _
  show(xs.foldl qG (qG l a)).length<=_
  simp only[qE,wh,Mr] at h1⊢;omega
theorem QV(l:List ew){i:Int}(h0:0<=i)(h:i<l.length):qE (l.take i.toNat)+2*(l.getD i.toNat dh).az.length<=qE l:=by
 have h1:qE (l.take (i+1).toNat)<=qE l:=by
  have h:=congrArg (fun q=>(q.map fun a:ew=>2*a.az.length).sum) (Ul (i+1).toNat l)
  simp only[J9,Zc] at h
  simp only[qE];omega
 rw[<-dk l dh h0 h] at h1
 simp only[qE,J9,Zc,wh,List.map_nil,Mr,List.sum_nil] at h1⊢
 omega
def names(t:BA)(a:cI):Prop:=a.K=1/\t=a.S
theorem Gr{l:List BA}{a b:cI}{t:BA}:t∈dB l [a,b]↔t∈l\/names t a\/names t b:=by
 rw[re];simp[names]
theorem Gq{t:BA}:∀{es:List ct}{l:List BA},t∈es.foldl tS l↔t∈l\/∃e∈es,names t e.L\/names t e.R
 |[],l=>by simp
 |e::es,l=>by
  show t∈es.foldl tS (tS l e)↔_
  rw[Gq,tS,Gr]
  simp only[jZ,exists_eq_or_imp,or_assoc]
theorem sH{t:BA}:∀{cs:List dy}{l:List BA},t∈cs.foldl nl l↔t∈l\/∃c∈cs,names t c.L\/names t c.R
 |[],l=>by simp
 |c::cs,l=>by
  show t∈cs.foldl nl (nl l c)↔_
  rw[sH,nl,Gr]
  simp only[jZ,exists_eq_or_imp,or_assoc]
theorem nF{t:BA}:∀{xs:List ew}{l:List BA},t∈xs.foldl qG l↔t∈l\/∃a∈xs,∃e∈a.az,names t e.L\/names t e.R
 |[],l=>by simp
 |a::xs,l=>by
  show t∈xs.foldl qG (qG l a)↔_
  rw[nF,qG,Gq]
  simp only[jZ,exists_eq_or_imp,or_assoc]
theorem K4{vars:List BA}{a:cI}:eK vars a=true↔∀t,names t a->mQ vars t=true:=by
 simp only[eK,FI,ru,decide_eq_false_iff_not,names]
 constructor
 ·rintro(h|h) t ⟨h1,rfl⟩
  ·exact absurd h1 h
  ·exact h
 ·intro h
  by_cases h1:a.K=1
  ·exact .inr (h a.S ⟨h1,rfl⟩)
  ·exact .inl h1
theorem QU(r:bf)(vars:List BA):(oe r).all (mQ vars)=(r.aU.all (fun c=>eK vars c.L&&eK vars c.R)&&r.bI.all fun a=>a.az.all (jM vars)):=by
 rw[FJ]
 simp only[cJ,sC,jM,K4,oe]
 constructor
 ·intro h
  refine⟨fun c hc=>⟨fun t ht=>h t ?_,fun t ht=>h t ?_⟩,fun a ha e he=>⟨fun t ht=>h t ?_,fun t ht=>h t ?_⟩⟩
  ·rw[nF,sH];exact .inl (.inr ⟨c,hc,.inl ht⟩)
  ·rw[nF,sH];exact .inl (.inr ⟨c,hc,.inr ht⟩)
  ·rw[nF];exact .inr ⟨a,ha,e,he,.inl ht⟩
  ·rw[nF];exact .inr ⟨a,ha,e,he,.inr ht⟩
 ·rintro⟨h1,h2⟩ t ht
  rw[nF,sH] at ht
  rcases ht with(ht|⟨c,hc,ht|ht⟩)|⟨a,ha,e,he,ht|ht⟩
  ·cases ht
  ·exact(h1 c hc).1 t ht
  ·exact(h1 c hc).2 t ht
  ·exact(h2 a ha e he).1 t ht
  ·exact(h2 a ha e he).2 t ht
def l6(r:bf):Bool:=bu r.Name&&decide (-100<=r.je/\r.je<=100)&&mi r.aH&&decide (r.aU.length<=6)&&decide (1<=r.bI.length/\r.bI.length<=6)&&r.aU.all jj&&r.bI.all (fun a=>df a&&hJ (cN r.aH) a)&&(oe r).all (mQ (ja r.aH))
theorem OK{α:Type}(p q:α->Bool)(l:List α):l.all (fun x=>p x&&q x)=(l.all p&&l.all q):=by
 induction l with
 |nil=>rfl
 |cons x l ih=>simp only[QM,ih];cases p x<;>cases q x<;>simp
theorem Ea(r:bf):l6 r=fO r:=by
 have e1:(oe r).all (mQ (ja r.aH))=(oe r).all (mQ (cQ r.aH)):=by
  have:mQ (ja r.aH)=mQ (cQ r.aH):=funext fun t=>SJ _ _
  rw[this]
 have e2:r.aU.all (mN (cQ r.aH))=(r.aU.all jj&&r.aU.all (fun c=>eK (cQ r.aH) c.L&&eK (cQ r.aH) c.R)):=by
  rw[<-OK]
  congr 1;funext c;simp only[mN,Bool.and_assoc]
 have e3:r.bI.all (nB (cQ r.aH) (cN r.aH))=(r.bI.all (fun a=>df a&&hJ (cN r.aH) a)&&r.bI.all (fun a=>a.az.all (jM (cQ r.aH)))):=by
  rw[<-OK];rfl
 simp only[l6,fO,kI,lx,e1,e2,e3,QU]
 rw[FJ]
 simp only[cJ]
 constructor
 ·rintro⟨⟨⟨⟨⟨⟨⟨a1,a2⟩,a3⟩,a4⟩,a5⟩,a6⟩,a7⟩,a8,a9⟩
  exact⟨⟨⟨⟨a1,a2⟩,a3⟩,a4,a6,a8⟩,a5,a7,a9⟩
 ·rintro⟨⟨⟨⟨a1,a2⟩,a3⟩,a4,a6,a8⟩,a5,a7,a9⟩
  exact⟨⟨⟨⟨⟨⟨⟨a1,a2⟩,a3⟩,a4⟩,a5⟩,a6⟩,a7⟩,a8,a9⟩
theorem aV{p:Prop}[Decidable p]{P Q:Prop}(h1:p->P)(h2:¬p->Q):bif decide p then P else Q:=ae (fun h=>h1 (yT h)) (fun h=>h2 (yF h))
theorem bC{b:Bool}{P Q:Prop}(h1:b=false->P)(h2:b=true->Q):bif !b then P else Q:=ae (fun h=>h1 (by simpa using h)) (fun h=>h2 (by simpa using h))
theorem bo{a b:Int}{P Q:Prop}(h1:a=b->P)(h2:¬a=b->Q):bif a==b then P else Q:=ae (fun h=>h1 (eq_of_beq h)) (fun h=>h2 (fun e=>by rw[e] at h;simp at h))
theorem ZH{α:Type}(f:α->Nat)(B:Nat):∀(l:List α),(∀x∈l,f x<=B)->(l.map f).sum<=l.length*B
 |[],_=>by simp
 |x::l,h=>by
  have h1:=ZH f B l (fun y hy=>h y (fA _ hy))
  have h2:=h x iy
  simp only[wh,Mr,fK,xy];omega
theorem KO{ps:List cr}(h:mi ps=true):dK ps<=30:=by
 simp only[mi,cJ,decide_eq_true_eq,fY] at h
 have:=ZH (fun p:cr=>p.az.length) 5 ps (fun p hp=>by
  obtain⟨i,hi,rfl⟩:=sG hp
  have hk:=h.2 i hi
  simp only[uP,cJ,ez,fw hi,FR] at hk
  have hk:=hk.1.1.1
  simp only[fL,cJ,decide_eq_true_eq] at hk
  exact hk.1.2)
 simp only[dK];omega
theorem xh{a:ew}(h:df a=true):a.az.length<=5:=by
 simp only[df,Bo,eO] at h
 grind
theorem LY{l:List ew}(hl:l.length<=6)(h:∀a∈l,df a=true):qE l<=60:=by
 have:=ZH (fun a:ew=>2*a.az.length) 10 l (fun a ha=>by have:=xh (h a ha);omega)
 simp only[qE];omega
def agd:=bV (α:=cI×(List BA)) (qC (qA .gB) (q1 (qL .str))) [.ro,.ro] (fun _=>[]) (fun(a,vars)=>⟨[dO (eK vars a)],[],[]⟩)
def TP:HH:=hF agd func220 [TR] a0 fun x hp hb=>by
 obtain⟨a,vars⟩:=x
 clear hp hb
 apply vE (bif a.K !=1 then Lb true (eK vars a) else Lb (mQ vars a.S) (eK vars a))
 simp only[eK]
 refine ae (fun h=>cj ?_) (fun h=>cj ?_)<;>grind
def X':=bV (α:=(List dy)×(List BA)) (qC (qL .ca) (q1 (qL .str))) [.ro,.ro] (fun _=>[]) (fun(l,vars)=>⟨[dO (kI l vars)],[],[]⟩)
def Dn(l:List dy)(vars:List BA):Int×Unit->Prop:=fun(i,_)=>0<=i/\i<=l.length/\(l.drop i.toNat).all (mN vars)=l.all (mN vars)
def CA(l:List dy)(vars:List BA):Int×Unit->Nat:=fun(i,_)=>l.length-i.toNat
def ajE:AX X':=fun(l,vars)=>b_ [(2,aY [iI 5] (fun _=>Dn l vars) (CA l vars))]
def aii:HH:=hF X' func179 [ahR,TP] ajE fun x hp hb=>by
 obtain⟨l,vars⟩:=x
 have j8:L9 l.length:=lu (hb _ m0)
 have VW:L9 vars.length:=lu (hb _ m1)
 clear hp hb
 apply vE (let x0:=(l.length:Int);let q0:=Lb false (kI l vars);Dn l vars (0,())/\∀(y:Int×PUnit),let x1:=l.getD y.1.toNat qB;let q1:=(wrap i64 (y.1+1),());Dn l vars y->bif decide (y.1<x0) then 0<=y.1/\y.1.toNat<l.length/\bif !jj x1 then q0 else 0<=y.1/\y.1.toNat<l.length/\bif !eK vars x1.L then q0 else 0<=y.1/\y.1.toNat<l.length/\bif !eK vars x1.R then q0 else Dn l vars q1/\CA l vars q1<CA l vars y else Lb (decide (x0<=6)) (kI l vars))
 dsimp only
 refine⟨⟨by omega,by omega,rfl⟩,?_⟩
 rintro⟨i,⟨⟩⟩ ⟨h1,h2,hR⟩
 simp only
 refine aV ?_ ?_<;>intro hc
 ·rw[dQ _ _ qB h1 (by omega)] at hR
  rw[wi]
  have hN:mN vars (l.getD i.toNat qB)=false->kI l vars=false:=fun h=>by simp only[kI,<-hR,h];simp
  refine⟨by omega,by omega,bC (fun h=>bG (hN ?_)) (fun h=>⟨by omega,by omega,bC (fun g=>bG (hN ?_)) (fun g=>⟨by omega,by omega,bC (fun k=>bG (hN ?_)) (fun k=>⟨⟨by omega,by omega,?_⟩,by simp only[CA];omega⟩)⟩)⟩)⟩
  ·simp only[mN,h,qm]
  ·simp only[mN,g,vl,qm]
  ·simp only[mN,k,vl]
  ·rw[<-hR];simp only[mN,h,g,k,wq]
 ·rw[cy _ (by omega)] at hR
  refine cj ?_
  simp only[kI,<-hR];simp;omega
def X9:=bV (α:=(List ew)×(List BA)×Int) (qC (qL .dx) (qC (qL .str) (q1 qI))) [.ro,.ro,.ro] (fun _=>[]) (fun(l,vars,pos)=>⟨[dO (lx l vars pos)],[],[]⟩)
def zl(l:List ew)(vars:List BA)(pos:Int):Int×Unit->Prop:=fun(i,_)=>0<=i/\i<=l.length/\(l.drop i.toNat).all (nB vars pos)=l.all (nB vars pos)
def tC(l:List ew)(vars:List BA)(pos:Int):Int×Unit->Nat:=fun(i,_)=>l.length-i.toNat
def tL(l:List ew)(vars:List BA)(pos:Int):Int×Int×Unit->Int×Int×Unit->Prop:=fun(i0,k0,_) (i,k,_)=>i=i0/\0<=k/\k<=(l.getD i.toNat dh).az.length/\((l.getD i.toNat dh).az.drop k.toNat).all (jM vars)=(l.getD i.toNat dh).az.all (jM vars)
def tB(l:List ew)(vars:List BA)(pos:Int):Int×Int×Unit->Nat:=fun(i,k,_)=>(l.getD i.toNat dh).az.length-k.toNat
def ajD:AX X9:=fun(l,vars,pos)=>b_ [(2,aY [iI 7] (fun _=>zl l vars pos) (tC l vars pos)),(7,aY [iI 7,iI 8] (tL l vars pos) (tB l vars pos))]
def aih:HH:=hF X9 func180 [ahQ,TP,tN] ajD fun x hp hb=>by
 obtain⟨l,vars,pos⟩:=x
 have j8:L9 l.length:=lu (hb _ m0)
 have VW:L9 vars.length:=lu (hb _ m1)
 have anb:=Hs (n:=pos) (hb _ m2)
 clear hp hb
 apply vE (let x0:=(l.length:Int);let q0:=Lb false (lx l vars pos);zl l vars pos (0,())/\∀(y:Int×PUnit),let x1:=l.getD y.1.toNat dh;let q1:=(y.1,0,());zl l vars pos y->bif decide (y.1<x0) then 0<=y.1/\y.1.toNat<l.length/\bif !df x1 then q0 else 0<=y.1/\y.1.toNat<l.length/\bif x1.Kind==2 then 0<=y.1/\y.1.toNat<l.length/\bif decide (x1.N≥pos) then q0 else tL l vars pos q1 q1/\∀(aO:Int×Int×PUnit),let x3:=aO.2.1.toNat;let x4:=(↑((l.getD aO.1.toNat dh).az.length):Int);let x2:=(l.getD aO.1.toNat dh).az.getD x3 eY;let q2:=(aO.1,wrap i64 (aO.2.1+1),());let q3:=(wrap i64 (aO.1+1),());tL l vars pos q1 aO->0<=aO.1/\aO.1.toNat<l.length/\bif decide (aO.2.1<x4) then 0<=aO.1/\aO.1.toNat<l.length/\0<=aO.2.1/\x3<(l.getD aO.1.toNat dh).az.length/\bif !eK vars x2.L then q0 else 0<=aO.1/\aO.1.toNat<l.length/\0<=aO.2.1/\x3<(l.getD aO.1.toNat dh).az.length/\bif !eK vars x2.R then q0 else tL l vars pos q1 q2/\tB l vars pos q2<tB l vars pos aO else zl l vars pos q3/\tC l vars pos q3<tC l vars pos y else tL l vars pos q1 q1/\∀(aO:Int×Int×PUnit),let x3:=aO.2.1.toNat;let x4:=(↑((l.getD aO.1.toNat dh).az.length):Int);let x2:=(l.getD aO.1.toNat dh).az.getD x3 eY;let q4:=(aO.1,wrap i64 (aO.2.1+1),());let q5:=(wrap i64 (aO.1+1),());tL l vars pos q1 aO->0<=aO.1/\aO.1.toNat<l.length/\bif decide (aO.2.1<x4) then 0<=aO.1/\aO.1.toNat<l.length/\0<=aO.2.1/\x3<(l.getD aO.1.toNat dh).az.length/\bif !eK vars x2.L then q0 else 0<=aO.1/\aO.1.toNat<l.length/\0<=aO.2.1/\x3<(l.getD aO.1.toNat dh).az.length/\bif !eK vars x2.R then q0 else tL l vars pos q1 q4/\tB l vars pos q4<tB l vars pos aO else zl l vars pos q5/\tC l vars pos q5<tC l vars pos y else Lb (decide (1<=x0/\x0<=6)) (lx l vars pos))
 dsimp only
 refine⟨⟨by omega,by omega,rfl⟩,?_⟩
 rintro⟨i,⟨⟩⟩ ⟨h1,h2,hR⟩
 simp only
 refine aV ?_ ?_<;>intro hc
 ·rw[dQ _ _ dh h1 (by omega)] at hR
  have hN:nB vars pos (l.getD i.toNat dh)=false->lx l vars pos=false:=fun h=>by simp only[lx,<-hR,h];simp
  refine⟨by omega,by omega,bC (fun ha=>bG (hN (by simp only[nB,ha,qm]))) (fun ha=>⟨by omega,by omega,bo (fun lp=>⟨by omega,by omega,aV (fun hp=>bG (hN ?_)) (fun hp=> ?_)⟩) (fun lp=> ?_)⟩)⟩
  ·have:hJ pos (l.getD i.toNat dh)=false:=by simp only[hJ,lp,decide_eq_true (show pos<=(l.getD i.toNat dh).N from hp)];simp
   simp only[nB,this,vl,qm]
  ·have hd:hJ pos (l.getD i.toNat dh)=true:=by simp only[hJ,decide_eq_false (show¬pos<=(l.getD i.toNat dh).N from hp)];simp
   have h5:=xh ha
   refine⟨⟨rfl,by omega,by omega,rfl⟩,?_⟩
   rintro⟨i',k,⟨⟩⟩ ⟨rfl,g1,g2,gR⟩
   simp only
   refine⟨by omega,by omega,aV (fun hk=> ?_) (fun hk=> ?_)⟩
   ·rw[dQ _ _ eY g1 (by omega)] at gR
    rw[wi (n:=k+1)]
    have hM:jM vars ((l.getD i'.toNat dh).az.getD k.toNat eY)=false->lx l vars pos=false:=fun h=>hN (by simp only[nB,<-gR,h];simp)
    refine⟨by omega,by omega,g1,by omega,bC (fun e=>bG (hM ?_)) (fun e=>⟨by omega,by omega,g1,by omega,bC (fun f=>bG (hM ?_)) (fun f=>⟨⟨rfl,by omega,by omega,?_⟩,by simp only[tB];omega⟩)⟩)⟩
    ·simp only[jM,e,qm]
    ·simp only[jM,f,vl]
    ·rw[<-gR];simp only[jM,e,f,wq]
   ·rw[cy _ (by omega)] at gR
    rw[wi (n:=i'+1)]
    refine⟨⟨by omega,by omega,?_⟩,by simp only[tC];omega⟩
    rw[<-hR];simp only[nB,<-gR,hd,ha,QI,wq]
  ·have hd:hJ pos (l.getD i.toNat dh)=true:=by simp only[hJ,decide_eq_false lp];simp
   have h5:=xh ha
   refine⟨⟨rfl,by omega,by omega,rfl⟩,?_⟩
   rintro⟨i',k,⟨⟩⟩ ⟨rfl,g1,g2,gR⟩
   simp only
   refine⟨by omega,by omega,aV (fun hk=> ?_) (fun hk=> ?_)⟩
   ·rw[dQ _ _ eY g1 (by omega)] at gR
    rw[wi (n:=k+1)]
    have hM:jM vars ((l.getD i'.toNat dh).az.getD k.toNat eY)=false->lx l vars pos=false:=fun h=>hN (by simp only[nB,<-gR,h];simp)
    refine⟨by omega,by omega,g1,by omega,bC (fun e=>bG (hM ?_)) (fun e=>⟨by omega,by omega,g1,by omega,bC (fun f=>bG (hM ?_)) (fun f=>⟨⟨rfl,by omega,by omega,?_⟩,by simp only[tB];omega⟩)⟩)⟩
    ·simp only[jM,e,qm]
    ·simp only[jM,f,vl]
    ·rw[<-gR];simp only[jM,e,f,wq]
   ·rw[cy _ (by omega)] at gR
    rw[wi (n:=i'+1)]
    refine⟨⟨by omega,by omega,?_⟩,by simp only[tC];omega⟩
    rw[<-hR];simp only[nB,<-gR,hd,ha,QI,wq]
 ·rw[cy _ (by omega)] at hR
  refine cj ?_
  simp only[lx,<-hR,QI,BL];exact decide_eq_decide.2 (by omega)
def X_:=bV (α:=List cr) (q1 (qL .du)) [.ro] (fun _=>[]) (fun l=>⟨[dO (mi l)],[],[]⟩)
def tM(l:List cr):Int×Unit->Prop:=fun(i,_)=>0<=i/\i<=l.length/\∀j:Nat,(j:Int)<i->uP l j=true
def ma(l:List cr):Int×Unit->Nat:=fun(i,_)=>l.length-i.toNat
def ajF:AX X_:=fun l=>b_ [(2,aY [iI 3] (fun _=>tM l) (ma l))]
def aij:HH:=hF X_ func178 [ahS,tN] ajF fun(l:List cr) hp hb=>by
 have j8:L9 l.length:=lu (hb _ m0)
 clear hp hb
 apply vE (let x0:=(l.length:Int);let q0:=Lb false (mi l);tM l (0,())/\∀(y:Int×PUnit),let x1:=Int.toNat (wrap i64 (y.1-1));let q1:=bif decide (y.1>0) then 0<=wrap i64 (y.1-1)/\x1<l.length/\bif (l.getD x1 cC).Not then 0<=y.1/\y.1.toNat<l.length/\bif !(l.getD y.1.toNat cC).Not then q0 else tM l (wrap i64 (y.1+1),())/\ma l (wrap i64 (y.1+1),())<ma l y else tM l (wrap i64 (y.1+1),())/\ma l (wrap i64 (y.1+1),())<ma l y else tM l (wrap i64 (y.1+1),())/\ma l (wrap i64 (y.1+1),())<ma l y;let q2:=(0:Int)<=y.1/\y.1.toNat<l.length/\bif !fL (l.getD y.1.toNat cC) then q0 else bif y.1==0 then 0<=y.1/\y.1.toNat<l.length/\bif (l.getD y.1.toNat cC).Not then q0 else q1 else q1;tM l y->bif decide (y.1<x0) then bif decide (y.1>2) then 0<=y.1/\y.1.toNat<l.length/\bif !(l.getD y.1.toNat cC).Not then q0 else q2 else q2 else Lb (decide (1<=x0/\x0<=6)) (mi l))
 dsimp only
 refine⟨⟨by omega,by omega,by intro j hj;omega⟩,?_⟩
 rintro⟨i,⟨⟩⟩ ⟨h1,h2,hR⟩
 simp only
 refine aV ?_ ?_<;>intro hc
 ·have hN:uP l i.toNat=false->mi l=false:=fun h=>by
   have hf:allI l.length (uP l)=false:=gT (j:=i.toNat) (by omega) h
   simp only[mi,hf];simp
  have hm:ma l (i+1,PUnit.unit)<ma l (i,()):=by simp only[ma];omega
  have e1:(i-1).toNat=i.toNat-1:=by omega
  simp(disch:=omega) only[wrap_i64]
  simp only[e1]
  have c1:decide (2<i.toNat)=decide (i>2):=decide_eq_decide.2 (by omega)
  have c2:decide (i.toNat=0)=decide (i=0):=decide_eq_decide.2 (by omega)
  have c3:decide (0<i.toNat)=decide (i>0):=decide_eq_decide.2 (by omega)
  have hA:uP l i.toNat=(fL (l.getD i.toNat cC)&& !(decide (i>2)&& !(l.getD i.toNat cC).Not)&& !(decide (i=0)&&(l.getD i.toNat cC).Not)&& !(decide (i>0)&&(l.getD (i.toNat-1) cC).Not&& !(l.getD i.toNat cC).Not)):=by
   simp only[uP,jh,c1,c2,c3]
  have Xl:uP l i.toNat=true->tM l (i+1,PUnit.unit)/\ma l (i+1,PUnit.unit)<ma l (i,()):=fun h=>⟨⟨by omega,by omega,fZ h1 hR h⟩,hm⟩
  rw[hA] at hN Xl
  generalize (l.getD (i.toNat-1) cC).Not=q at*
  generalize (l.getD i.toNat cC).Not=r at*
  generalize fL (l.getD i.toNat cC)=s at*
  clear hA c1 c2 c3 hR
  have gI:i.toNat<l.length:=by omega
  have EL:i.toNat-1<l.length:=by omega
  have hi1:i>0->0<=i-1:=fun h=>by omega
  repeat' (first|refine bG (hN ?_)|refine Xl ?_|refine aV (fun h=> ?_) (fun h=> ?_)|refine bo (fun h=> ?_) (fun h=> ?_)|refine ae (fun h=> ?_) (fun h=> ?_)|refine And.intro h1 ?_|refine And.intro gI ?_|refine And.intro EL ?_|refine And.intro (hi1 (by assumption)) ?_)
  all_goals (cases q<;>cases r<;>cases s<;>simp at* <;>omega)
 ·have hA:allI l.length (uP l)=true:=ix fun j hj=>hR j (by omega)
  refine cj ?_
  simp only[mi,hA,BL];exact decide_eq_decide.2 (by omega)
def agS:=bV (α:=bf) (q1 (qA .bE)) [.ro] (fun r=>[dK r.aH<=4294967295]) (fun r=>⟨[dO (fO r)],[],[]⟩)
def aiR:HH:=hF agS func119 [YP,Bw,tN,aij,aii,aih,Mb] a0 fun(r:bf) hp hb=>by
 have eV:=lV (x:=r) (hb _ m0)
 have kL:=eV.1
 have kK:=eV.2.1
 have jL:=eV.2.2.1
 have kM:=eV.2.2.2
 have bp:dK r.aH<=4294967295:=hp _ m0
 clear hp hb
 apply vE (let q0:=Lb false (fO r);L4 (dK r.aH)/\bif bu r.Name then bif decide ((-100)<=r.je/\r.je<=100) then bif mi r.aH then bif kI r.aU (cQ r.aH) then Lb (lx r.bI (cQ r.aH) (↑(cN r.aH):Int)) (fO r) else q0 else q0 else q0 else q0)
 dsimp only
 refine⟨by omega,?_⟩
 simp only[fO]
 repeat' (refine ae (fun h=> ?_) (fun h=> ?_))
 all_goals (refine cj ?_;grind)
def Ym:=bV (α:=bf) (q1 (qA .bE)) [.ro] (fun _=>[]) (fun r=>⟨[dO (ik r.aH)],[],[]⟩)
def Dv(r:bf):Int×T1×Unit->Prop:=fun(i,b,_)=>b=(r.Name,r.je,r.aH,r.aU,r.bI,())/\0<=i/\i<=r.aH.length/\(1<=r.aH.length/\r.aH.length<=6)/\(1<=cN r.aH/\cN r.aH<=3)/\∀j:Nat,(j:Int)<i->mj r.aH j=true
def CH(r:bf):Int×T1×Unit->Nat:=fun(i,b,_)=>r.aH.length-i.toNat
def ajT:AX Ym:=fun r=>b_ [(4,aY [iI 19,.box 1 (1,1024) [.lit .str,.lit (.int .i64),.shr .du,.shr .ca,.shr .dx]] (fun _=>Dv r) (CH r))]
def aiJ:HH:=hF Ym func141 [FE,abK,ah_] ajT fun(r:bf) hp hb=>by
 clear hp hb
 apply vE (let x0:=(r.aH.length:Int);let q0:=Lb false (ik r.aH);bif !decide (1<=x0/\x0<=6) then q0 else bif !decide (1<=(↑(cN r.aH):Int)/\(↑(cN r.aH):Int)<=3) then q0 else Dv r (0,(r.Name,r.je,r.aH,r.aU,r.bI,()),())/\∀(y:Int×Y'×PUnit),let x1:=(↑(cN y.2.1.2.2.1):Int);let q1:=(wrap i64 (y.1+1),(y.2.1.1,y.2.1.2.1,y.2.1.2.2.1,y.2.1.2.2.2.1,y.2.1.2.2.2.2.1,()),());Dv r y->bif decide (y.1<x0) then 0<=y.1/\y.1.toNat<r.aH.length/\bif !fL (r.aH.getD y.1.toNat cC) then q0 else bif !(r.aH.getD y.1.toNat cC).Not==decide (y.1≥x1) then q0 else Dv r q1/\CH r q1<CH r y else Lb true (ik r.aH))
 dsimp only
 refine bC (fun h=>bG ?_) (fun h=>bC (fun h'=>bG ?_) (fun h'=> ?_))
 ·have h:=yF h
  simp only[ik];rw[decide_eq_false (by omega)];rfl
 ·have h':=yF h'
  simp only[ik];rw[decide_eq_false (p:=1<=cN r.aH/\cN r.aH<=3) (by omega)];simp
 have h:=yT h
 have h':=yT h'
 refine⟨⟨rfl,by omega,by omega,by omega,by omega,by intro j hj;omega⟩,?_⟩
 rintro⟨i,⟨b1,b2,b3,b4,b5,⟨⟩⟩,⟨⟩⟩ ⟨rZ,h1,h2,h3,h4,hR⟩
 cases rZ
 simp only
 refine aV ?_ ?_<;>intro hc
 ·have hN:mj r.aH i.toNat=false->ik r.aH=false:=fun h=>by
   have hf:allI r.aH.length (mj r.aH)=false:=gT (j:=i.toNat) (by omega) h
   simp only[ik,hf];simp
  rw[wi]
  have c1:decide (cN r.aH<=i.toNat)=decide (i≥(cN r.aH:Int)):=decide_eq_decide.2 (by omega)
  refine⟨by omega,by omega,bC (fun g=>bG (hN (by simp only[mj,g,qm]))) (fun g=>bC (fun k=>bG (hN ?_)) (fun k=>⟨⟨rfl,by omega,by omega,h3,h4,fZ h1 hR ?_⟩,by simp only[CH];omega⟩))⟩
  ·simp only[mj,jh,c1,k];simp
  ·simp only[mj,jh,c1,k,g];rfl
 ·have hA:allI r.aH.length (mj r.aH)=true:=ix fun j hj=>hR j (by omega)
  refine nE ?_
  simp only[ik,hA,decide_eq_true h3,decide_eq_true h4];rfl
def Yk:=bV (α:=bf) (q1 (qA .bE)) [.ro] (fun r=>[2*r.aU.length+qE r.bI<=4294967295]) (fun r=>⟨[dL .str (oe r)],[],[]⟩)
def Du(r:bf):List BA×Int×T1×Unit->Prop:=fun(v,i,b,_)=>b=(r.Name,r.je,r.aH,r.aU,r.bI,())/\0<=i/\i<=r.aU.length/\v=(r.aU.take i.toNat).foldl nl []
def CG(r:bf):List BA×Int×T1×Unit->Nat:=fun(v,i,b,_)=>r.aU.length-i.toNat
def Dt(r:bf):List BA×Int×Unit->Prop:=fun(v,i,_)=>0<=i/\i<=r.bI.length/\v=(r.bI.take i.toNat).foldl qG (r.aU.foldl nl [])
def CF(r:bf):List BA×Int×Unit->Nat:=fun(v,i,_)=>r.bI.length-i.toNat
def zu(r:bf):List BA×Int×Int×Unit->List BA×Int×Int×Unit->Prop:=fun(v0,i0,k0,_) (v,i,k,_)=>i=i0/\0<=k/\k<=(r.bI.getD i.toNat dh).az.length/\v=((r.bI.getD i.toNat dh).az.take k.toNat).foldl tS v0
def za(r:bf):List BA×Int×Int×Unit->Nat:=fun(v,i,k,_)=>(r.bI.getD i.toNat dh).az.length-k.toNat
def ajR:AX Yk:=fun r=>b_ [(3,aY [iO 3 .str,iI 13,.box 1 (1,1024) [.lit .str,.lit (.int .i64),.shr .du,.shr .ca,.shr .dx]] (fun _=>Du r) (CG r)),(8,aY [iO 3 .str,iI 28] (fun _=>Dt r) (CF r)),(11,aY [iO 3 .str,iI 28,iI 35] (zu r) (za r))]
def aiF:HH:=hF Yk func145 [YL] ajR fun(r:bf) hp hb=>by
 have eV:=lV (x:=r) (hb _ m0)
 have kL:=eV.1
 have kK:=eV.2.1
 have jL:=eV.2.2.1
 have kM:=eV.2.2.2
 have bp:2*r.aU.length+qE r.bI<=4294967295:=hp _ m0
 clear hp hb
 apply vE (Du r ([],0,(r.Name,r.je,r.aH,r.aU,r.bI,()),())/\∀(y:List BA×Int×Y'×PUnit),let x2:=y.2.2.1.2.2.2.2.1.length;let x4:=y.2.1.toNat;let x1:=(↑x2:Int);let x3:=r.aU.getD x4 qB;let x0:=[x3.L,x3.R];Du r y->bif decide (y.2.1<(r.aU.length:Int)) then 0<=y.2.1/\x4<r.aU.length/\y.1.length+x0.length<=4294967295/\Du r (dB y.1 x0,wrap i64 (y.2.1+1),(y.2.2.1.1,y.2.2.1.2.1,y.2.2.1.2.2.1,y.2.2.1.2.2.2.1,y.2.2.1.2.2.2.2.1,()),())/\CG r (dB y.1 x0,wrap i64 (y.2.1+1),(y.2.2.1.1,y.2.2.1.2.1,y.2.2.1.2.2.1,y.2.2.1.2.2.2.1,y.2.2.1.2.2.2.2.1,()),())<CG r y else Dt r (y.1,0,())/\∀(aO:List BA×Int×PUnit),let x8:=aO.2.1.toNat;let x7:=(y.2.2.1.2.2.2.2.1.getD x8 dh).az;let x6:=x7.length;let x5:=(↑x6:Int);let q0:=(aO.1,aO.2.1,0,());Dt r aO->bif decide (aO.2.1<x1) then 0<=aO.2.1/\x8<x2/\zu r q0 q0/\∀(y:List BA×Int×Int×PUnit),let ly:=y.2.2.1.toNat;let mG:=x7.getD ly eY;let x9:=[mG.L,mG.R];let q1:=(dB y.1 x9,y.2.1,wrap i64 (y.2.2.1+1),());let q2:=(y.1,wrap i64 (y.2.1+1),());zu r q0 y->bif decide (y.2.2.1<x5) then 0<=y.2.2.1/\ly<x6/\y.1.length+x9.length<=4294967295/\zu r q0 q1/\za r q1<za r y else Dt r q2/\CF r q2<CF r aO else Lf [VL .str aO.1] [VL .str (oe r)])
 dsimp only
 refine⟨⟨rfl,by omega,by omega,rfl⟩,?_⟩
 rintro⟨v,i,⟨b1,b2,b3,b4,b5,⟨⟩⟩,⟨⟩⟩ ⟨rZ,h1,h2,rfl⟩
 cases rZ
 simp only
 refine aV ?_ ?_<;>intro hc
 ·have hs:=nL nl [] r.aU qB h1 hc
  have hl:=sI (r.aU.take i.toNat) []
  have Bc:(r.aU.take i.toNat).length<=i.toNat:=by rw[oc];omega
  simp only[fv] at hl
  rw[wi]
  refine⟨by omega,by omega,by simp only[fK,fv];omega,⟨rfl,by omega,by omega,hs.symm⟩,by simp only[CG];omega⟩
 rw[cE r.aU (by omega)]
 have hl0:=sI r.aU []
 simp only[fv] at hl0
 refine⟨⟨by omega,by omega,rfl⟩,?_⟩
 rintro⟨v,i,⟨⟩⟩ ⟨g1,g2,rfl⟩
 simp only
 refine aV ?_ ?_<;>intro hc
 ·have hs:=nL qG (r.aU.foldl nl []) r.bI dh g1 hc
  have ha:=QV r.bI g1 hc
  have hl:=wL (r.bI.take i.toNat) (r.aU.foldl nl [])
  refine⟨by omega,by omega,⟨rfl,by omega,by omega,rfl⟩,?_⟩
  rintro⟨v,i',k,⟨⟩⟩ ⟨rfl,k1,k2,rfl⟩
  simp only
  have hle:=zF ((r.bI.getD i'.toNat dh).az.take k.toNat) ((r.bI.take i'.toNat).foldl qG (r.aU.foldl nl []))
  have Bc:((r.bI.getD i'.toNat dh).az.take k.toNat).length<=k.toNat:=by rw[oc];omega
  refine aV ?_ ?_<;>intro hk
  ·have hf:=nL tS ((r.bI.take i'.toNat).foldl qG (r.aU.foldl nl [])) (r.bI.getD i'.toNat dh).az eY k1 hk
   rw[wi]
   exact⟨by omega,by omega,by simp only[fK,fv];omega,⟨rfl,by omega,by omega,hf.symm⟩,by simp only[za];omega⟩
  ·rw[wi]
   refine⟨⟨by omega,by omega,?_⟩,by simp only[CF];omega⟩
   rw[hs,cE (r.bI.getD i'.toNat dh).az (by omega)];rfl
 ·rw[cE r.bI (by omega)]
  exact aX _
def afh:=bV (α:=bf) (q1 (qA .bE)) [.ro] (fun _=>[]) (fun r=>⟨[dO (fO r)],[],[]⟩)
def Jr(r:bf):Int×T1×Unit->Prop:=fun(i,b,_)=>b=(r.Name,r.je,r.aH,r.aU,r.bI,())/\0<=i/\i<=r.aU.length/\(r.aU.drop i.toNat).all jj=r.aU.all jj
def IR(r:bf):Int×T1×Unit->Nat:=fun(i,b,_)=>r.aU.length-i.toNat
def CY(r:bf):Int×T1×Unit->Prop:=fun(i,b,_)=>b=(r.Name,r.je,r.aH,r.aU,r.bI,())/\0<=i/\i<=r.bI.length/\(r.bI.drop i.toNat).all (fun a=>df a&&hJ (cN r.aH) a)=r.bI.all (fun a=>df a&&hJ (cN r.aH) a)
def y5(r:bf):Int×T1×Unit->Nat:=fun(i,b,_)=>r.bI.length-i.toNat
def CX(r:bf):Int×List BA×List BA×Unit->Prop:=fun(i,v,u,_)=>v=ja r.aH/\u=oe r/\0<=i/\i<=(oe r).length/\((oe r).drop i.toNat).all (mQ (ja r.aH))=(oe r).all (mQ (ja r.aH))
def Cb(r:bf):Int×List BA×List BA×Unit->Nat:=fun(i,v,u,_)=>(oe r).length-i.toNat
def aps:AX afh:=fun r=>b_ [(6,aY [iI 39,.box 1 (1,1024) [.lit .str,.lit (.int .i64),.shr .du,.shr .ca,.shr .dx]] (fun _=>Jr r) (IR r)),(12,aY [iI 50,.box 1 (1,1024) [.lit .str,.lit (.int .i64),.shr .du,.shr .ca,.shr .dx]] (fun _=>CY r) (y5 r)),(19,aY [iI 75,iO 7 .str,iO 73 .str] (fun _=>CX r) (Cb r))]
def aoH:HH:=hF afh func84 [NA,FE,aiJ,aiI,aiH,abK,aiG,aiF,YV] aps fun(r:bf) hp hb=>by
 clear hp hb
 apply vE (let x0:=(r.aU.length:Int);let q0:=Lb false (fO r);let q1:=BA×Int×List cr×List dy×List ew×PUnit;bif !bu r.Name then q0 else bif !decide ((-100)<=r.je/\r.je<=100) then q0 else bif !ik r.aH then q0 else bif decide (x0>6) then q0 else bif !decide (1<=(r.bI.length:Int)/\(r.bI.length:Int)<=6) then q0 else Jr r (0,(r.Name,r.je,r.aH,r.aU,r.bI,()),())/\∀(y:Int×q1×PUnit),let x2:=y.2.1.2.2.2.2.1.length;let x1:=(↑x2:Int);Jr r y->bif decide (y.1<x0) then 0<=y.1/\y.1.toNat<r.aU.length/\bif !jj (r.aU.getD y.1.toNat qB) then q0 else Jr r (wrap i64 (y.1+1),(y.2.1.1,y.2.1.2.1,y.2.1.2.2.1,y.2.1.2.2.2.1,y.2.1.2.2.2.2.1,()),())/\IR r (wrap i64 (y.1+1),(y.2.1.1,y.2.1.2.1,y.2.1.2.2.1,y.2.1.2.2.2.1,y.2.1.2.2.2.2.1,()),())<IR r y else CY r (0,(y.2.1.1,y.2.1.2.1,y.2.1.2.2.1,y.2.1.2.2.2.1,y.2.1.2.2.2.2.1,()),())/\∀(aO:Int×q1×PUnit),let x4:=oe {Name:=aO.2.1.1,je:=aO.2.1.2.1,aH:=aO.2.1.2.2.1,aU:=aO.2.1.2.2.2.1,bI:=aO.2.1.2.2.2.2.1:bf};let x5:=y.2.1.2.2.2.2.1.getD aO.1.toNat dh;let x6:=(↑(cN aO.2.1.2.2.1):Int);let x3:=(x4.length:Int);let q2:=(wrap i64 (aO.1+1),(aO.2.1.1,aO.2.1.2.1,aO.2.1.2.2.1,aO.2.1.2.2.2.1,aO.2.1.2.2.2.2.1,()),());let q3:=CY r q2/\y5 r q2<y5 r aO;CY r aO->bif decide (aO.1<x1) then 0<=aO.1/\aO.1.toNat<x2/\bif !df x5 then q0 else bif x5.Kind==2 then bif decide (x5.N≥x6) then q0 else q3 else q3 else dK aO.2.1.2.2.1<=4294967295/\2*aO.2.1.2.2.2.1.length+qE aO.2.1.2.2.2.2.1<=4294967295/\CX r (0,ja aO.2.1.2.2.1,x4,())/\∀(y:Int×List BA×List BA×PUnit),let q4:=(wrap i64 (y.1+1),y.2.1,y.2.2.1,());CX r y->bif decide (y.1<x3) then 0<=y.1/\y.1.toNat<y.2.2.1.length/\y.1.toNat<y.2.2.1.length/\bif !mQ y.2.1 (y.2.2.1.getD y.1.toNat ao) then q0 else CX r q4/\Cb r q4<Cb r y else Lb true (fO r))
 dsimp only
 have hF:l6 r=false->fO r=false:=fun h=>by rw[<-Ea];exact h
 refine bC (fun a1=>bG (hF (by simp[l6,a1]))) (fun a1=>bC (fun a2=>bG (hF (by simp only[l6,a2];simp))) (fun a2=>bC (fun a3=>bG (hF ?_)) (fun a3=>aV (fun a4=>bG (hF ?_)) (fun a4=>bC (fun a5=>bG (hF ?_)) (fun a5=> ?_)))))
 ·rw[pL] at a3;simp[l6,a3]
 ·simp only[l6];rw[decide_eq_false (p:=r.aU.length<=6) (by omega)];simp
 ·have a5:=yF a5
  simp only[l6];rw[decide_eq_false (p:=1<=r.bI.length/\r.bI.length<=6) (by omega)];simp
 rw[pL] at a3
 have a5:=yT a5
 refine⟨⟨rfl,by omega,by omega,rfl⟩,?_⟩
 rintro⟨i,⟨b1,b2,b3,b4,b5,⟨⟩⟩,⟨⟩⟩ ⟨rZ,h1,h2,hR⟩
 cases rZ
 simp only
 refine aV ?_ ?_<;>intro hc
 ·rw[dQ _ _ qB h1 (by omega)] at hR
  rw[wi]
  refine⟨by omega,by omega,bC (fun g=>bG (hF ?_)) (fun g=>⟨⟨rfl,by omega,by omega,?_⟩,by simp only[IR];omega⟩)⟩
  ·simp only[l6,<-hR,g];simp
  ·rw[<-hR,g];rfl
 rw[cy _ (by omega)] at hR
 have a6:r.aU.all jj=true:=hR.symm
 refine⟨⟨rfl,by omega,by omega,rfl⟩,?_⟩
 rintro⟨i,⟨b1,b2,b3,b4,b5,⟨⟩⟩,⟨⟩⟩ ⟨rZ,g1,g2,gR⟩
 cases rZ
 simp only
 refine aV ?_ ?_<;>intro hc
 ·rw[dQ _ _ dh g1 (by omega)] at gR
  rw[wi]
  have hN:(df (r.bI.getD i.toNat dh)&&hJ (cN r.aH) (r.bI.getD i.toNat dh))=false->fO r=false:=fun h=>hF (by simp only[l6,<-gR,h];simp)
  have Xl:df (r.bI.getD i.toNat dh)=true->hJ (cN r.aH) (r.bI.getD i.toNat dh)=true->(r.bI.drop (i+1).toNat).all (fun a=>df a&&hJ (cN r.aH) a)=r.bI.all (fun a=>df a&&hJ (cN r.aH) a):=fun e1 e2=>by rw[<-gR,e1,e2];rfl
  refine⟨by omega,by omega,bC (fun ha=>bG (hN (by rw[ha];rfl))) (fun ha=>bo (fun lp=>aV (fun hp=>bG (hN ?_)) (fun hp=>⟨⟨rfl,by omega,by omega,Xl ha ?_⟩,by simp only[y5];omega⟩)) (fun lp=>⟨⟨rfl,by omega,by omega,Xl ha ?_⟩,by simp only[y5];omega⟩))⟩
  ·simp only[hJ,lp,decide_eq_true (show(cN r.aH:Int)<=(r.bI.getD i.toNat dh).N from hp)];simp
  ·simp only[hJ,decide_eq_false (show¬(cN r.aH:Int)<=(r.bI.getD i.toNat dh).N from hp)];simp
  ·simp only[hJ,decide_eq_false lp];simp
 rw[cy _ (by omega)] at gR
 have a7:r.bI.all (fun a=>df a&&hJ (cN r.aH) a)=true:=gR.symm
 have hpa:=KO a3
 have wF:=LY (l:=r.bI) (by omega) (fun a ha=>by
  have:=sC.1 a7 a ha
  simp only[cJ] at this
  exact this.1)
 have hul:(oe r).length<=2*r.aU.length+qE r.bI:=by
  have q1:=wL r.bI (r.aU.foldl nl [])
  have q2:=sI r.aU []
  simp only[fv] at q2
  simp only[oe];omega
 refine⟨by omega,by omega,⟨rfl,rfl,by omega,by omega,rfl⟩,?_⟩
 rintro⟨i,v,u,⟨⟩⟩ ⟨rfl,rfl,k1,k2,kR⟩
 simp only
 refine aV ?_ ?_<;>intro hk
 ·rw[dQ _ _ ao k1 hk] at kR
  rw[wi]
  have cU:i<(oe r).length:=hk
  refine⟨by omega,by omega,by omega,bC (fun g=>bG (hF ?_)) (fun g=>⟨⟨rfl,rfl,by omega,by omega,?_⟩,by simp only[Cb];omega⟩)⟩
  ·simp only[l6,<-kR,g];simp
  ·rw[<-kR,g];rfl
 ·have cU:¬i<(oe r).length:=hk
  rw[cy _ (by omega)] at kR
  refine nE ?_
  rw[<-Ea]
  simp only[l6,a1,a2,a3,a6,a7,<-kR,decide_eq_true (show r.aU.length<=6 by omega),decide_eq_true (show 1<=r.bI.length/\r.bI.length<=6 by omega)];rfl
def instNew(now:Int):aq:=if 0<=now/\now<=1000000000 then⟨⟨[],1⟩,[],[],[],[],1,now⟩ else WS
def afv:=bV (α:=List aj) (q1 (qL .ax)) [.ro] (fun l=>[L4 (ck l)]) (fun l=>⟨[dL .ax l],[],[]⟩)
def JH(l:List aj):List aj×Int×Unit->Prop:=fun(out,i,_)=>0<=i/\i<=l.length/\out=l.take i.toNat
def I5(l:List aj):List aj×Int×Unit->Nat:=fun(out,i,_)=>l.length-i.toNat
def apG:AX afv:=fun l=>b_ [(3,aY [iO 3 .ax,iI 4] (fun _=>JH l) (I5 l))]
def ahd:HH:=hF afv func64 [sw] apG fun(l:List aj) hp hb=>by
 have bp:ck l<=4294967296:=hp _ m0
 clear hp hb
 apply vE (JH l ([],0,())/\∀(y:List aj×Int×PUnit),let x2:=y.2.1.toNat;let x1:=l.getD x2 aD;let x0:=[x1];let q0:=(y.1++x0,wrap i64 (y.2.1+1),());JH l y->bif decide (y.2.1<(l.length:Int)) then 0<=y.2.1/\x2<l.length/\L4 x1.F.ah.length/\L4 (y.1.length+x0.length)/\JH l q0/\I5 l q0<I5 l y else Lf [VL .ax y.1] [VL .ax l])
 dsimp only
 refine⟨⟨by omega,by omega,by simp⟩,?_⟩
 rintro⟨out,i,⟨⟩⟩ ⟨h1,h2,rfl⟩
 simp only
 refine ae ?_ ?_<;>intro hc
 ·have hc:=yT hc
  have hs:=dV lB l aD h1 hc
  simp only[ck] at bp
  have hx:=hs
  simp only[lB,db,eu] at hx
  rw[dk l aD h1 hc,wi]
  repeat' (first|refine And.intro (by omega) ?_|fail)
  refine⟨by simp;omega,⟨by omega,by omega,rfl⟩,by simp only[I5];omega⟩
 ·have hc:=yF hc
  rw[cE l (by omega)]
  exact aX _
def afA:=bV (α:=List aj) (q1 (qL .ax)) [.ro] (fun l=>[L4 (ck l)]) (fun l=>⟨[dL .ax l],[],[]⟩)
def JM(l:List aj):List aj×Int×Unit->Prop:=fun(out,i,_)=>0<=i/\i<=l.length/\out=l.take i.toNat
def I'(l:List aj):List aj×Int×Unit->Nat:=fun(out,i,_)=>l.length-i.toNat
def apL:AX afA:=fun l=>b_ [(3,aY [iO 3 .ax,iI 8] (fun _=>JM l) (I' l))]
def WD:HH:=hF afA func53 [Bx] apL fun(l:List aj) hp hb=>by
 have bp:ck l<=4294967296:=hp _ m0
 clear hp hb
 apply vE (JM l ([],0,())/\∀(y:List aj×Int×PUnit),let x2:=y.2.1.toNat;let x1:=l.getD x2 aD;let x0:=[x1];let q0:=(y.1++x0,wrap i64 (y.2.1+1),());JM l y->bif decide (y.2.1<(l.length:Int)) then 0<=y.2.1/\x2<l.length/\L4 x1.F.ah.length/\L4 (y.1.length+x0.length)/\JM l q0/\I' l q0<I' l y else Lf [VL .ax y.1] [VL .ax l])
 dsimp only
 refine⟨⟨by omega,by omega,by simp⟩,?_⟩
 rintro⟨out,i,⟨⟩⟩ ⟨h1,h2,rfl⟩
 simp only
 refine ae ?_ ?_<;>intro hc
 ·have hc:=yT hc
  have hs:=dV lB l aD h1 hc
  simp only[ck] at bp
  have hx:=hs
  simp only[lB,db,eu] at hx
  rw[dk l aD h1 hc,wi]
  repeat' (first|refine And.intro (by omega) ?_|fail)
  refine⟨by simp;omega,⟨by omega,by omega,rfl⟩,by simp only[I'];omega⟩
 ·have hc:=yF hc
  rw[cE l (by omega)]
  exact aX _
def Jl:jY UU where
 α:=aj
 md:=[.ro]
 of:=o1 (oA .ax)
 ds:=fun x=>[dA .ax x]
 pre:=fun _=>[]
 nY:=fun t=>⟨[dO (jI t)],[],[]⟩
 law:=l1 (lA .ax)
def ahh:HH:=hF Jl func35 [] a0 fun(t:aj) hp hb=>by
 clear hp hb
 apply vE (bif t.State==1 then Lb true (jI t) else Lb (t.State==2) (jI t))
 simp only[jI]
 refine ae (fun h=>cj ?_) (fun h=>cj ?_)<;>grind
def Yg:=bV (α:=List aj) (q1 (qL .ax)) [.ro] (fun l=>[L4 (ck l)]) (fun l=>⟨[dL .ax (giveUp l)],[],[]⟩)
def wg(l:List aj):List aj×Int×Unit->Prop:=fun(out,i,_)=>0<=i/\i<=l.length/\out=(l.map gx).take i.toNat++l.drop i.toNat
def px(l:List aj):List aj×Int×Unit->Nat:=fun(out,i,_)=>l.length-i.toNat
def ajN:AX Yg:=fun l=>b_ [(3,aY [iO 3 .ax,iI 4] (fun _=>wg l) (px l))]
def YT:HH:=hF Yg func161 [ahd] ajN fun(l:List aj) hp hb=>by
 have j8:L9 l.length:=lu (hb _ m0)
 have bp:ck l<=4294967296:=hp _ m0
 clear hp hb
 apply vE (ck l<=4294967296/\wg l (l,0,())/\∀(y:List aj×Int×PUnit),let x0:=y.2.1.toNat;let q0:=y.2.1+1;wg l y->bif decide (y.2.1<(y.1.length:Int)) then 0<=y.2.1/\x0<y.1.length/\x0<y.1.length/\bif (y.1.getD x0 aD).State==1 then 0<=y.2.1/\x0<y.1.length/\x0<y.1.length/\wg l (y.1.modify x0 fun(x:aj)=>{F:=x.F,aR:=x.aR,State:=(4:Int),bi:=x.bi,ie:=x.ie,V:=x.V:aj},wrap i64 q0,())/\px l (y.1.modify x0 fun(x:aj)=>{F:=x.F,aR:=x.aR,State:=(4:Int),bi:=x.bi,ie:=x.ie,V:=x.V:aj},wrap i64 q0,())<px l y else 0<=y.2.1/\x0<y.1.length/\x0<y.1.length/\bif (y.1.getD x0 aD).State==2 then 0<=y.2.1/\x0<y.1.length/\x0<y.1.length/\wg l (y.1.modify x0 fun(x:aj)=>{F:=x.F,aR:=x.aR,State:=(4:Int),bi:=x.bi,ie:=x.ie,V:=x.V:aj},wrap i64 q0,())/\px l (y.1.modify x0 fun(x:aj)=>{F:=x.F,aR:=x.aR,State:=(4:Int),bi:=x.bi,ie:=x.ie,V:=x.V:aj},wrap i64 q0,())<px l y else wg l (y.1,wrap i64 q0,())/\px l (y.1,wrap i64 q0,())<px l y else Lf [VL .ax y.1] [VL .ax (giveUp l)])
 dsimp only
 refine⟨bp,⟨by omega,by omega,by simp⟩,?_⟩
 rintro⟨out,i,⟨⟩⟩ ⟨h1,h2,rfl⟩
 have hl:=H8 gx l h1 h2
 simp only
 refine ae ?_ ?_<;>intro hc
 ·have hc:=yT hc
  have hc:i<l.length:=by omega
  have hg:=BR _ l aD (M3 gx l h1 h2) h1 hc
  rw[hg,wi,hl]
  repeat' (first|refine And.intro (by omega) ?_|refine ae (fun h=> ?_) (fun h=> ?_)|fail)
  all_goals first
   |(rw[BS gx l aD _ h1 hc (by simp only[gx];grind)];exact⟨⟨by omega,by omega,rfl⟩,by simp only[px];omega⟩)
   |(have hs:=Ex gx l aD h1 hc (by simp only[gx];grind);exact⟨⟨by omega,by omega,hs⟩,by simp only[px];omega⟩)
 ·have hc:=yF hc
  rw[Ey gx l (by omega)]
  exact aX _
def XQ:=bV (α:=List aj) (q1 (qL .ax)) [.ro] (fun l=>[L4 (ck l)]) (fun l=>⟨[dL .ax (giveUp l)],[],[]⟩)
def zf(l:List aj):List aj×Int×Unit->Prop:=fun(out,i,_)=>0<=i/\i<=l.length/\out=(l.map gx).take i.toNat++l.drop i.toNat
def tv(l:List aj):List aj×Int×Unit->Nat:=fun(out,i,_)=>l.length-i.toNat
def ajk:AX XQ:=fun l=>b_ [(3,aY [iO 3 .ax,iI 9] (fun _=>zf l) (tv l))]
def ahU:HH:=hF XQ func215 [WD,ahh] ajk fun(l:List aj) hp hb=>by
 have j8:L9 l.length:=lu (hb _ m0)
 have bp:ck l<=4294967296:=hp _ m0
 clear hp hb
 apply vE (ck l<=4294967296/\zf l (l,0,())/\∀(y:List aj×Int×PUnit),let x0:=y.2.1.toNat;let q0:=(y.1,wrap i64 (y.2.1+1),());zf l y->bif decide (y.2.1<(l.length:Int)) then 0<=y.2.1/\x0<y.1.length/\x0<y.1.length/\x0<y.1.length/\bif jI (y.1.getD x0 aD) then 0<=y.2.1/\x0<y.1.length/\x0<y.1.length/\zf l (y.1.modify x0 fun(x:aj)=>{F:=x.F,aR:=x.aR,State:=(4:Int),bi:=x.bi,ie:=x.ie,V:=x.V:aj},wrap i64 (y.2.1+1),())/\tv l (y.1.modify x0 fun(x:aj)=>{F:=x.F,aR:=x.aR,State:=(4:Int),bi:=x.bi,ie:=x.ie,V:=x.V:aj},wrap i64 (y.2.1+1),())<tv l y else zf l q0/\tv l q0<tv l y else Lf [VL .ax y.1] [VL .ax (giveUp l)])
 dsimp only
 refine⟨bp,⟨by omega,by omega,by simp⟩,?_⟩
 rintro⟨out,i,⟨⟩⟩ ⟨h1,h2,rfl⟩
 have hl:=H8 gx l h1 h2
 simp only
 refine ae ?_ ?_<;>intro hc
 ·have hc:=yT hc
  have hc:i<l.length:=by omega
  have hg:=BR _ l aD (M3 gx l h1 h2) h1 hc
  rw[hg,wi,hl]
  have hio:jI (l.getD i.toNat aD)=decide ((l.getD i.toNat aD).State=1\/(l.getD i.toNat aD).State=2):=rfl
  rw[hio]
  repeat' (first|refine And.intro (by omega) ?_|refine ae (fun h=> ?_) (fun h=> ?_)|fail)
  all_goals first
   |(rw[BS gx l aD _ h1 hc (by simp only[gx];grind)];exact⟨⟨by omega,by omega,rfl⟩,by simp only[tv];omega⟩)
   |(have hs:=Ex gx l aD h1 hc (by simp only[gx];grind);exact⟨⟨by omega,by omega,hs⟩,by simp only[tv];omega⟩)
 ·have hc:=yF hc
  rw[Ey gx l (by omega)]
  exact aX _
def an2:=bV (α:=aq) (q1 (qA .cf)) [.ro] (fun _=>[]) (fun x=>⟨[dO (decide (x.State=2\/x.State=4\/x.State=6))],[],[]⟩)
def ag_:HH:=hF an2 func74 [] a0 fun(x:aq) hp hb=>by
 clear hp hb
 apply vE (let q0:=decide (x.State=2\/x.State=4\/x.State=6);bif x.State==2 then Lb true q0 else bif x.State==4 then Lb true q0 else Lb (x.State==6) q0)
 dsimp only
 repeat' (refine ae (fun h=> ?_) (fun h=> ?_))
 all_goals (refine cj ?_;grind)
def aoi:=bV (α:=aq) (q1 (qA .cf)) [.ro] (fun _=>[]) (fun x=>⟨[dO (decide (x.State=2\/x.State=4\/x.State=6))],[],[]⟩)
def ao':HH:=hF aoi func33 [] a0 fun(x:aq) hp hb=>by
 clear hp hb
 apply vE (let q0:=decide (x.State=2\/x.State=4\/x.State=6);bif x.State==2 then Lb true q0 else bif x.State==4 then Lb true q0 else Lb (x.State==6) q0)
 dsimp only
 repeat' (refine ae (fun h=> ?_) (fun h=> ?_))
 all_goals (refine cj ?_;grind)
def anQ:=bV (α:=Int) (q1 qI) [.ro] (fun _=>[]) (fun now=>⟨[dA .cf (instNew now)],[],[]⟩)
def aoy:HH:=hF anQ func98 [tN] a0 fun(now:Int) hp hb=>by
 clear hp hb
 apply vE (bif !decide (0<=now/\now<=1000000000) then Lf [DV.agg [CL .aJ [],CI 0,CL .aE [],CL .ax [],CL .aI [],CL .aL [],CI 0,CI 0]] [DV.agg (aG (instNew now))] else Lf [DV.agg [CL .aJ [],CI 1,CL .aE [],CL .ax [],CL .aI [],CL .aL [],CI 1,CI now]] [DV.agg (aG (instNew now))])
 unfold instNew
 refine ae (fun h=>aj_ ?_) (fun h=>aj_ ?_)
 ·rw[if_neg (by grind)];rfl
 ·rw[if_pos (by grind)];rfl
def lq(x:bf):DA UU:=⟨true,[.lit (.string x.Name),.lit (.int .i64 x.je),.sl .du x.aH,.sl .ca x.aU,.sl .dx x.bI]⟩
def sO(l:List bf)(name:BA):Int:=jJ l.length fun k=>decide ((l.getD k cq).Name=name)
def jr(l:List bf)(i:Nat):Bool:=fO (l.getD i cq)&&decide (sO l (l.getD i cq).Name=i)
def fJ(d:br):Bool:=bu d.Name&&decide (1<=d.aA.length/\d.aA.length<=12)&&allI d.aA.length (jr d.aA)
theorem Pa{l:List bf}{i:Int}(h0:0<=i)(h:i<l.length):dK (l.getD i.toNat cq).aH<=jV l:=by
 have hs:=dV dM l cq h0 h
 have hp:=HX (l.getD i.toNat cq).aH
 simp only[dM] at hs
 simp only[jV,dM];omega
def EH(l:List bN)(f:aK):Int:=jJ l.length fun k=>decide ((l.getD k a_).F=f)
def ib(l:List bN)(f:aK):Int:=if EH l f= -1 then 0 else(l.getD (EH l f).toNat a_).Id
def vu(l:List bN)(id:Int):Int:=jJ l.length fun k=>decide ((l.getD k a_).Id=id)
def o_(l:List bN)(id:Int):aK:=if vu l id= -1 then ur else(l.getD (vu l id).toNat a_).F
def ke(l:List bN)(id:Int):Bool:=anyI l.length fun k=>decide ((l.getD k a_).Id=id)
def jP(s:aF)(i:Nat):Bool:=bD (s.ab.getD i a_).F&&decide (1<=(s.ab.getD i a_).Id)&&decide ((s.ab.getD i a_).Id<s.Next)&& !(decide (0<i)&&decide ((s.ab.getD i a_).Id<=(s.ab.getD (i-1) a_).Id))
def o7(s:aF)(i:Nat):Bool:=jP s i&&decide (ib s.ab (s.ab.getD i a_).F=(s.ab.getD i a_).Id)
def jc(s:aF)(i:Nat):Bool:=jP s i&& !(anyI i fun k=>decide ((s.ab.getD i a_).F=(s.ab.getD k a_).F))
def bm(s:aF):Bool:=decide (1<=s.Next/\s.Next<=1000000)&&decide (s.ab.length<=40)&&allI s.ab.length (o7 s)
theorem LQ{s:aF}(h:∀i,i<s.ab.length->jP s i=true):∀j i,j<i->i<s.ab.length->(s.ab.getD j a_).Id<(s.ab.getD i a_).Id:=by
 intro j i FQ hi
 have step:∀m,m+1<s.ab.length->(s.ab.getD m a_).Id<(s.ab.getD (m+1) a_).Id:=fun m hm=>by
  have:=h (m+1) hm
  simp only[jP,cJ,ru,Bool.and_eq_false_iff,decide_eq_false_iff_not,decide_eq_true_eq,Nat.add_sub_cancel] at this
  have:=this.2
  omega
 obtain⟨k,rfl⟩:∃k,i=j+1+k:=⟨i-j-1,by omega⟩
 clear FQ
 induction k with
 |zero=>exact step j hi
 |succ k ih=>exact Int.lt_trans (ih (by omega)) (step (j+1+k) hi)
theorem DZ(s:aF):allI s.ab.length (jc s)=allI s.ab.length (o7 s):=by
 rw[FJ,fY,fY]
 have aep:∀i,i<s.ab.length->∃m,m<=i/\EH s.ab (s.ab.getD i a_).F=(m:Int)/\(s.ab.getD m a_).F=(s.ab.getD i a_).F/\∀j,j<m->¬(s.ab.getD j a_).F=(s.ab.getD i a_).F:=by
  intro i hi
  rcases ig s.ab.length (fun k=>decide ((s.ab.getD k a_).F=(s.ab.getD i a_).F)) with⟨_,h2⟩|⟨m,g1,g2,g3,g4⟩
  ·have:=h2 i hi;simp at this
  ·refine⟨m,?_,g2,yT g3,fun j hj=>yF (g4 j hj)⟩
   rcases pe i m with g|g
   ·have:=g4 i g;simp at this
   ·exact g
 have hid:∀i m:Nat,EH s.ab (s.ab.getD i a_).F=(m:Int)->ib s.ab (s.ab.getD i a_).F=(s.ab.getD m a_).Id:=fun i m h=>by
  rw[ib,h,if_neg (by omega)];simp
 constructor
 ·intro h i hi
  have PZ:=h i hi
  simp only[jc,cJ,ru] at PZ
  obtain⟨m,m1,m2,m3,m4⟩:=aep i hi
  have:m=i:=by
   rcases pe m i with g|g
   ·have:=oE.1 PZ.2 m g
    exact absurd m3.symm (yF this)
   ·omega
  subst this
  simp only[o7,PZ.1,hid m m m2,decide_true,BL]
 ·intro h i hi
  have hb:∀i,i<s.ab.length->jP s i=true:=fun i hi=>by
   have:=h i hi
   simp only[o7,cJ] at this
   exact this.1
  have PZ:=h i hi
  simp only[o7,cJ,decide_eq_true_eq] at PZ
  have Oa:(anyI i fun k=>decide ((s.ab.getD i a_).F=(s.ab.getD k a_).F))=false:=gj fun k hk=>decide_eq_false fun e=>by
   obtain⟨m,m1,m2,m3,m4⟩:=aep i hi
   have hmk:m<=k:=by
    rcases pe k m with g|g
    ·exact absurd e.symm (m4 k g)
    ·exact g
   have:=LQ hb m i (by omega) hi
   rw[hid i m m2] at PZ
   omega
  simp only[jc,PZ.1,Oa];rfl
def j9(d:br)(m:aw):Bool:=decide (0<=m.cG)&&decide (m.cG<(d.aA.length:Int))
def iT(d:br)(s:List bN)(m:aw):Bool:=j9 d m&&decide (m.bz.length=0)&&decide (m.ee.length=cN (d.aA.getD m.cG.toNat cq).aH)&&m.ee.all (ke s)
def iF(d:br)(x:aq):Bool:=decide (x.ay.length<=1000)&&x.ay.all (iT d x.S.ab)
def ph(l:List aj):Bool:=anyI l.length fun k=>jI (l.getD k aD)
def mS(x:aq):Bool:=decide (x.State=2\/x.State=4\/x.State=6)
def mL(x:aq):Bool:=decide (x.State=3)||decide (x.State=5)
def instOk(d:br)(x:aq):Bool:=fJ d&&bm x.S&&aW x.ag&&dl x.ap&&cX x.av&&decide (1<=x.State/\x.State<=6)&&decide (0<=x.bR/\x.bR<=1000000000)&&iF d x&& !(mS x&&(ph x.ag||decide (0<x.ap.length)))&&(!mL x||decide (0<x.av.length))
def Yj:=bV (α:=(List bf)×(List (DA UU)->Option Value)) (qC (qL .bE) (q1 qF)) [.ro,.ro] (fun(l,p)=>[∀j:Nat,j<l.length->p [lq (l.getD j cq)]=some (.bool (bL (p [lq (l.getD j cq)])))]) (fun(l,p)=>⟨[dI (jJ l.length (fun j=>bL (p [lq (l.getD j cq)])))],[],[]⟩)
def Ds(l:List bf)(p:(List (DA UU)->Option Value)):Int×Unit->Prop:=fun(i,_)=>0<=i/\i<=l.length/\∀j:Nat,(j:Int)<i->bL (p [lq (l.getD j cq)])=false
def CE(l:List bf)(p:(List (DA UU)->Option Value)):Int×Unit->Nat:=fun(i,_)=>l.length-i.toNat
def ajQ:AX Yj:=fun(l,p)=>b_ [(2,aY [iI 8] (fun _=>Ds l p) (CE l p))]
def aiE:HH:=hF Yj func147 [] ajQ fun x hp hb=>by
 obtain⟨l,p⟩:=x
 have j8:L9 l.length:=lu (hb _ m0)
 have bp:∀j:Nat,j<l.length->p [lq (l.getD j cq)]=some (.bool (bL (p [lq (l.getD j cq)]))):=hp _ m0
 clear hp hb
 apply vE (Ds l p (0,())/\∀(y:Int×PUnit),let x1:=l.getD y.1.toNat cq;let x0:=bL (p [{agg:=true,cs:=[CS x1.Name,CI x1.je,CL .du x1.aH,CL .ca x1.aU,CL .dx x1.bI]:DA UU}]);let q0:=(wrap i64 (y.1+1),());Ds l p y->bif decide (y.1<(l.length:Int)) then 0<=y.1/\y.1.toNat<l.length/\p [{agg:=true,cs:=[CS x1.Name,CI x1.je,CL .du x1.aH,CL .ca x1.aU,CL .dx x1.bI]:DA UU}]=some (Value.bool x0)/\bif x0 then Li y.1 (jJ (l.length) fun(j:Nat)=>bL (p [lq (l.getD j cq)])) else Ds l p q0/\CE l p q0<CE l p y else Li (-1) (jJ (l.length) fun(j:Nat)=>bL (p [lq (l.getD j cq)])))
 dsimp only
 refine⟨⟨by omega,by omega,by intro j hj;omega⟩,?_⟩
 rintro⟨i,⟨⟩⟩ ⟨h1,h2,hR⟩
 simp only[lq] at*
 refine ae ?_ ?_<;>intro hc
 ·have hc:=yT hc
  rw[wi]
  refine⟨by omega,by omega,bp i.toNat (by omega),ae (fun h=>oM ?_) (fun h=>⟨⟨by omega,by omega,i_ (p:=fun j=>bL (p [lq (l.getD j cq)])) h1 hR h⟩,by simp only[CE];omega⟩)⟩
  rw[fE (i:=i.toNat) (by omega) h (fun j hj=>hR j (by omega))]
  omega
 ·have hc:=yF hc
  exact oM (jl (fun j hj=>hR j (by omega))).symm
def Bv:jY UU where
 α:=bf×BA
 md:=[.ro,.ro]
 of:=fun|[.agg [.lit (.string a0),.lit (.int .i64 a1),.sl .du a2,.sl .ca a3,.sl .dx a4],.ptr [.lit (.string a5)]]=>some (⟨a0,a1,a2,a3,a4⟩,a5)|_=>none
 ds:=fun(r,name)=>[.agg [.lit (.string r.Name),.lit (.int .i64 r.je),.sl .du r.aH,.sl .ca r.aU,.sl .dx r.bI],.ptr [.lit (.string name)]]
 pre:=fun(r,name)=>[]
 nY:=fun(r,name)=>⟨[.one (.lit (.bool (decide (r.Name=name))))],[],[]⟩
 law:=by intro l x h;(try simp only at h);split at h<;>cases h;rfl
def aiD:HH:=hF Bv func148 [] a0 fun x hp hb=>by
 obtain⟨r,name⟩:=x
 have Ip:gW (U:=UU) (.agg [.lit (.string r.Name),.lit (.int .i64 r.je),.sl .du r.aH,.sl .ca r.aU,.sl .dx r.bI]):=hb _ (iy)
 have kL:L9 r.Name.size:=Bd.str (Ip _ (by simp))
 have kK:L9 r.aH.length:=Bd.len (U:=UU) (τ:=.du) (xs:=r.aH) (Ip _ (by simp))
 have jL:L9 r.aU.length:=Bd.len (U:=UU) (τ:=.ca) (xs:=r.aU) (Ip _ (by simp))
 have kM:L9 r.bI.length:=Bd.len (U:=UU) (τ:=.dx) (xs:=r.bI) (Ip _ (by simp))
 have akf:gW (U:=UU) (.ptr [.lit (.string name)]):=hb _ (fA _ (iy))
 clear hp hb
 apply vE (Lb (ByteArray.toList r.Name==ByteArray.toList name) (decide (r.Name=name)))
 rw[aQ]
 exact aX _
def anX:=bV (α:=br×BA) (qC (qA .hH) (q1 qS)) [.ro,.ro] (fun _=>[]) (fun(d,name)=>⟨[dI (sO d.aA name)],[],[]⟩)
def aoG:HH:=hF anX func85 [aiE,aiD] a0 fun x hp hb=>by
 obtain⟨d,name⟩:=x
 clear hp hb
 apply vE ((∀(j:Nat),j<d.aA.length->ff Bv [DV.ptr [CS name]] [lq (d.aA.getD j cq)]=some (Value.bool (bL (ff Bv [DV.ptr [CS name]] [lq (d.aA.getD j cq)]))))/\Li (jJ (d.aA.length) fun(j:Nat)=>bL (ff Bv [DV.ptr [CS name]] [lq (d.aA.getD j cq)])) (sO d.aA name))
 have hc:∀x:bf,ff Bv [.ptr [.lit (.string name)]] [lq x]=some (.bool (decide (x.Name=name))):=fun x=>se (x:=(x,name)) rfl rfl rfl rfl (by simp[Bv])
 refine⟨fun j hj=> ?_,oM ?_⟩
 ·show ff Bv [.ptr [.lit (.string name)]] [lq (d.aA.getD j cq)]=_
  rw[hc];rfl
 ·exact pS fun j hj=>by
   show bL (ff Bv [.ptr [.lit (.string name)]] [lq (d.aA.getD j cq)])=_
   rw[hc];rfl
def Yx:=bV (α:=br×BA) (qC (qA .hH) (q1 qS)) [.ro,.ro] (fun _=>[]) (fun(d,name)=>⟨[dI (sO d.aA name)],[],[]⟩)
def DH(d:br)(name:BA):Int×T2×Unit->Prop:=fun(i,fb,_)=>fb=(d.Name,d.aA,())/\0<=i/\i<=d.aA.length/\∀j:Nat,(j:Int)<i->decide ((d.aA.getD j cq).Name=name)=false
def CU(d:br)(name:BA):Int×T2×Unit->Nat:=fun(i,fb,_)=>d.aA.length-i.toNat
def aj4:AX Yx:=fun(d,name)=>b_ [(2,aY [iI 5,.box 2 (2,1024) [.lit .str,.shr .bE]] (fun _=>DH d name) (CU d name))]
def aiQ:HH:=hF Yx func120 [] aj4 fun x hp hb=>by
 obtain⟨d,name⟩:=x
 have eV:=kQ (x:=d) (hb _ m0)
 have jX:=eV.1
 have iS:=eV.2
 have BX:=Mp (s:=name) (hb _ m1)
 clear hp hb
 apply vE (DH d name (0,(d.Name,d.aA,()),())/\∀(y:Int×T9×PUnit),let x1:=y.2.1.2.1.length;let x0:=(↑x1:Int);let q0:=(wrap i64 (y.1+1),(y.2.1.1,y.2.1.2.1,()),());DH d name y->bif decide (y.1<x0) then 0<=y.1/\y.1.toNat<x1/\bif ByteArray.toList (y.2.1.2.1.getD y.1.toNat cq).Name==ByteArray.toList name then Li y.1 (sO d.aA name) else DH d name q0/\CU d name q0<CU d name y else Li (-1) (sO d.aA name))
 dsimp only
 refine⟨⟨rfl,by omega,by omega,by intro j hj;omega⟩,?_⟩
 rintro⟨i,fb,⟨⟩⟩ ⟨rfl,h1,h2,hR⟩
 simp only
 refine ae ?_ ?_<;>intro hc
 ·have hc:i<d.aA.length:=yT hc
  simp(disch:=omega) only[wrap_i64,aQ]
  refine⟨by omega,by omega,ae (fun h=>oM ?_) (fun h=>⟨⟨rfl,by omega,by omega,i_ (p:=fun j=>decide ((d.aA.getD j cq).Name=name)) h1 hR h⟩,by simp only[CU];omega⟩)⟩
  rw[sO,fE (i:=i.toNat) (by omega) h (fun j hj=>hR j (by omega))]
  omega
 ·have hc:¬i<d.aA.length:=yF hc
  exact oM (jl (fun j hj=>hR j (by omega))).symm
def afs:=bV (α:=br) (q1 (qA .hH)) [.ro] (fun d=>[cB d<=4294967295]) (fun d=>⟨[dO (fJ d)],[],[]⟩)
def JE(d:br):Int×T2×Unit->Prop:=fun(i,b,_)=>b=(d.Name,d.aA,())/\0<=i/\i<=d.aA.length/\∀j:Nat,(j:Int)<i->jr d.aA j=true
def I2(d:br):Int×T2×Unit->Nat:=fun(i,b,_)=>d.aA.length-i.toNat
def apD:AX afs:=fun d=>b_ [(2,aY [iI 3,.box 1 (1,1024) [.lit .str,.shr .bE]] (fun _=>JE d) (I2 d))]
def ahc:HH:=hF afs func67 [aiR,aiQ,Bw,tN] apD fun(d:br) hp hb=>by
 have eV:=kQ (x:=d) (hb _ m0)
 have jX:=eV.1
 have iS:=eV.2
 have bp:cB d<=4294967295:=hp _ m0
 clear hp hb
 apply vE (JE d (0,(d.Name,d.aA,()),())/\∀(y:Int×T9×PUnit),let x1:=y.2.1.2.1.getD y.1.toNat cq;let x2:=y.2.1.2.1.length;let x0:=(↑x2:Int);let q0:=(wrap i64 (y.1+1),(y.2.1.1,y.2.1.2.1,()),());JE d y->bif decide (y.1<x0) then 0<=y.1/\y.1.toNat<x2/\dK x1.aH<=4294967295/\bif !fO x1 then Lb false (fJ d) else 0<=y.1/\y.1.toNat<x2/\bif sO y.2.1.2.1 x1.Name !=y.1 then Lb false (fJ d) else JE d q0/\I2 d q0<I2 d y else bif bu y.2.1.1 then Lb (decide (1<=x0/\x0<=12)) (fJ d) else Lb false (fJ d))
 dsimp only
 refine⟨⟨rfl,by omega,by omega,by intro j hj;omega⟩,?_⟩
 rintro⟨i,⟨b1,b2,⟨⟩⟩,⟨⟩⟩ ⟨rZ,h1,h2,hR⟩
 cases rZ
 simp only
 refine aV ?_ ?_<;>intro hc
 ·have hN:jr d.aA i.toNat=false->fJ d=false:=fun h=>by
   have hf:allI d.aA.length (jr d.aA)=false:=gT (j:=i.toNat) (by omega) h
   simp only[fJ,hf,vl]
  have hs:=Pa h1 hc
  simp only[cB] at bp
  have ei:((i.toNat:Nat):Int)=i:=by omega
  rw[wi]
  refine⟨by omega,by omega,by omega,bC (fun g=>bG (hN (by simp only[jr,g,qm]))) (fun g=>⟨by omega,by omega,bC (fun k=>bG (hN ?_)) (fun k=>⟨⟨rfl,by omega,by omega,fZ h1 hR ?_⟩,by simp only[I2];omega⟩)⟩)⟩
  ·simp only[jr,ei,g,wq];exact decide_eq_false (by simpa using k)
  ·simp only[jr,ei,g,wq];exact decide_eq_true (eq_of_beq k)
 ·have hA:allI d.aA.length (jr d.aA)=true:=ix fun j hj=>hR j (by omega)
  simp only[fJ,hA,BL]
  refine ae (fun h=>cj ?_) (fun h=>cj ?_)
  ·rw[h,wq];exact decide_eq_decide.2 (by omega)
  ·rw[h,qm]
def afY:=bV (α:=br) (q1 (qA .hH)) [.ro] (fun _=>[]) (fun d=>⟨[dO (fJ d)],[],[]⟩)
def JW(d:br):Int×T2×Unit->Prop:=fun(i,b,_)=>b=(d.Name,d.aA,())/\bu d.Name=true/\(1<=d.aA.length/\d.aA.length<=12)/\0<=i/\i<=d.aA.length/\∀j:Nat,(j:Int)<i->jr d.aA j=true
def Jf(d:br):Int×T2×Unit->Nat:=fun(i,b,_)=>d.aA.length-i.toNat
def apX:AX afY:=fun d=>b_ [(4,aY [iI 19,.box 1 (1,1024) [.lit .str,.shr .bE]] (fun _=>JW d) (Jf d))]
def apc:HH:=hF afY func25 [aoH,aoG,NA,FE] apX fun(d:br) hp hb=>by
 clear hp hb
 apply vE (let x0:=(d.aA.length:Int);let q0:=Lb false (fJ d);bif !bu d.Name then q0 else bif !decide (1<=x0/\x0<=12) then q0 else JW d (0,(d.Name,d.aA,()),())/\∀(y:Int×T9×PUnit),let q1:=(wrap i64 (y.1+1),(y.2.1.1,y.2.1.2.1,()),());JW d y->bif decide (y.1<x0) then 0<=y.1/\y.1.toNat<d.aA.length/\bif !fO (d.aA.getD y.1.toNat cq) then q0 else bif sO y.2.1.2.1 (d.aA.getD y.1.toNat cq).Name !=y.1 then q0 else JW d q1/\Jf d q1<Jf d y else Lb true (fJ d))
 dsimp only
 refine bC (fun a1=>bG (by simp only[fJ,a1,qm])) (fun a1=>bC (fun a2=>bG ?_) (fun a2=> ?_))
 ·have a2:=yF a2
  simp only[fJ];rw[decide_eq_false (p:=1<=d.aA.length/\d.aA.length<=12) (by omega),vl,qm]
 have a2:=yT a2
 refine⟨⟨rfl,a1,by omega,by omega,by omega,by intro j hj;omega⟩,?_⟩
 rintro⟨i,⟨b1,b2,⟨⟩⟩,⟨⟩⟩ ⟨rZ,a3,a4,h1,h2,hR⟩
 cases rZ
 simp only
 refine aV ?_ ?_<;>intro hc
 ·have hN:jr d.aA i.toNat=false->fJ d=false:=fun h=>by
   have hf:allI d.aA.length (jr d.aA)=false:=gT (j:=i.toNat) (by omega) h
   simp only[fJ,hf,vl]
  have ei:((i.toNat:Nat):Int)=i:=by omega
  rw[wi]
  refine⟨by omega,by omega,bC (fun g=>bG (hN (by simp only[jr,g,qm]))) (fun g=>bC (fun k=>bG (hN ?_)) (fun k=>⟨⟨rfl,a3,a4,by omega,by omega,fZ h1 hR ?_⟩,by simp only[Jf];omega⟩))⟩
  ·simp only[jr,ei,g,wq];exact decide_eq_false (by simpa using k)
  ·simp only[jr,ei,g,wq];exact decide_eq_true (eq_of_beq k)
 ·have hA:allI d.aA.length (jr d.aA)=true:=ix fun j hj=>hR j (by omega)
  refine nE ?_
  simp only[fJ,hA,a3,decide_eq_true a4];rfl
def Yv:=bV (α:=aF×aK) (qC (qA .cT) (q1 (qA .dc))) [.ro,.ro] (fun _=>[]) (fun(s,f)=>⟨[dI (ib s.ab f)],[],[]⟩)
def DF(s:aF)(f:aK):Int×T3×T5×Unit->Prop:=fun(i,b,g,_)=>b=(s.ab,s.Next,())/\g=(f.Kind,f.ah,())/\0<=i/\i<=s.ab.length/\∀j:Nat,(j:Int)<i->decide ((s.ab.getD j a_).F=f)=false
def CT(s:aF)(f:aK):Int×T3×T5×Unit->Nat:=fun(i,b,g,_)=>s.ab.length-i.toNat
def aj2:AX Yv:=fun(s,f)=>b_ [(2,aY [iI 5,.box 2 (2,1024) [.shr .aJ,.lit (.int .i64)],.box 3 (3,1024) [.lit .str,.shr .bc]] (fun _=>DF s f) (CT s f))]
def OS:HH:=hF Yv func123 [FF] aj2 fun x hp hb=>by
 obtain⟨s,f⟩:=x
 have jK:=kP (x:=s) (hb _ m0)
 have gZ:=sj (x:=f) (hb _ m1)
 have rX:=gZ.1
 have ou:=gZ.2
 clear hp hb
 apply vE (DF s f (0,(s.ab,s.Next,()),(f.Kind,f.ah,()),())/\∀(y:Int×NB×Uy×PUnit),let x0:=y.2.1.1.getD y.1.toNat a_;let x2:=y.2.1.1.length;let x1:=(↑x2:Int);let q0:=(wrap i64 (y.1+1),(y.2.1.1,y.2.1.2.1,()),(y.2.2.1.1,y.2.2.1.2.1,()),());DF s f y->bif decide (y.1<x1) then 0<=y.1/\y.1.toNat<x2/\bif decide (x0.F={Kind:=y.2.2.1.1,ah:=y.2.2.1.2.1:aK}) then 0<=y.1/\y.1.toNat<x2/\Li x0.Id (ib s.ab f) else DF s f q0/\CT s f q0<CT s f y else Li 0 (ib s.ab f))
 dsimp only
 refine⟨⟨rfl,rfl,by omega,by omega,by intro j hj;omega⟩,?_⟩
 rintro⟨i,⟨b1,b2,⟨⟩⟩,⟨g1,g2,⟨⟩⟩,⟨⟩⟩ ⟨rZ,hg,h1,h2,hR⟩
 cases rZ
 cases hg
 simp only
 refine aV ?_ ?_<;>intro hc
 ·rw[wi]
  refine⟨by omega,by omega,aV (fun h=>⟨by omega,by omega,oM ?_⟩) (fun h=>⟨⟨rfl,rfl,by omega,by omega,i_ (p:=fun j=>decide ((s.ab.getD j a_).F=f)) h1 hR (decide_eq_false h)⟩,by simp only[CT];omega⟩)⟩
  have e:EH s.ab f=(i.toNat:Int):=fE (i:=i.toNat) (by omega) (decide_eq_true h) (fun j hj=>hR j (by omega))
  rw[ib,e,if_neg (by omega),Zb]
 ·refine oM ?_
  have e:EH s.ab f= -1:=jl (fun j hj=>hR j (by omega))
  rw[ib,if_pos e]
def Yt:=bV (α:=aF×Int) (qC (qA .cT) (q1 qI)) [.ro,.ro] (fun(s,id)=>[L4 (cd s.ab)]) (fun(s,id)=>⟨[dA .dc (o_ s.ab id),dO (ke s.ab id)],[],[]⟩)
def DE(s:aF)(id:Int):Int×T3×T5×Unit->Prop:=fun(i,b,g,_)=>b=(s.ab,s.Next,())/\0<=i/\i<=s.ab.length/\∀j:Nat,(j:Int)<i->decide ((s.ab.getD j a_).Id=id)=false
def CR(s:aF)(id:Int):Int×T3×T5×Unit->Nat:=fun(i,b,g,_)=>s.ab.length-i.toNat
def aj0:AX Yt:=fun(s,id)=>b_ [(2,aY [iI 6,.box 2 (2,1024) [.shr .aJ,.lit (.int .i64)],.box 4 (4,1024) [.lit .str,.own .bc true]] (fun _=>DE s id) (CR s id))]
def aiO:HH:=hF Yt func129 [sw] aj0 fun x hp hb=>by
 obtain⟨s,id⟩:=x
 have jK:=kP (x:=s) (hb _ m0)
 have Oc:=Hs (n:=id) (hb _ m1)
 have bp:cd s.ab<=4294967296:=hp _ m0
 clear hp hb
 apply vE (let q0:=o_ s.ab id;DE s id (0,(s.ab,s.Next,()),({data:= #[]:BA},[],()),())/\∀(y:Int×NB×Uy×PUnit),let x2:=y.2.1.1.getD y.1.toNat a_;let x4:=y.2.1.1.length;let x1:=x2.F;let x3:=(↑x4:Int);let x0:=x1.ah;let q1:=(wrap i64 (y.1+1),(y.2.1.1,y.2.1.2.1,()),(y.2.2.1.1,y.2.2.1.2.1,()),());DE s id y->bif decide (y.1<x3) then 0<=y.1/\y.1.toNat<x4/\bif x2.Id==id then 0<=y.1/\y.1.toNat<x4/\L4 x0.length/\Lf [DV.agg [CS x1.Kind,CL .bc x0],VB true] [DV.agg [CS (q0.Kind),CL .bc q0.ah],VB (ke s.ab id)] else DE s id q1/\CR s id q1<CR s id y else Lf [DV.agg [CS ({data:= #[]:BA}),CL .bc []],VB false] [DV.agg [CS (q0.Kind),CL .bc q0.ah],VB (ke s.ab id)])
 dsimp only
 refine⟨⟨rfl,by omega,by omega,by intro j hj;omega⟩,?_⟩
 rintro⟨i,⟨b1,b2,⟨⟩⟩,⟨g1,g2,⟨⟩⟩,⟨⟩⟩ ⟨rZ,h1,h2,hR⟩
 cases rZ
 simp only
 refine aV ?_ ?_<;>intro hc
 ·rw[wi]
  have hs:=dV jR s.ab a_ h1 hc
  simp only[jR,db,eu] at hs
  simp only[cd,jR,db,eu] at bp
  refine⟨by omega,by omega,bo (fun h=>⟨by omega,by omega,by omega,?_⟩) (fun h=>⟨⟨rfl,by omega,by omega,i_ (p:=fun j=>decide ((s.ab.getD j a_).Id=id)) h1 hR (decide_eq_false h)⟩,by simp only[CR];omega⟩)⟩
  have e:vu s.ab id=(i.toNat:Int):=fE (i:=i.toNat) (by omega) (decide_eq_true h) (fun j hj=>hR j (by omega))
  have e1:o_ s.ab id=(s.ab.getD i.toNat a_).F:=by rw[o_,e,if_neg (by omega),Zb]
  have e2:ke s.ab id=true:=iw (j:=i.toNat) (by omega) (decide_eq_true h)
  rw[e1,e2];exact aX _
 ·have e:vu s.ab id= -1:=jl (fun j hj=>hR j (by omega))
  have e1:o_ s.ab id=ur:=by rw[o_,if_pos e]
  have e2:ke s.ab id=false:=gj fun j hj=>hR j (by omega)
  rw[e1,e2];exact aX _
def afe:=bV (α:=aF×Int) (qC (qA .cT) (q1 qI)) [.ro,.ro] (fun(s,id)=>[L4 (cd s.ab)]) (fun(s,id)=>⟨[dA .dc (o_ s.ab id),dO (ke s.ab id)],[],[]⟩)
def Jp(s:aF)(id:Int):Int×T5×Unit->Prop:=fun(i,g,_)=>0<=i/\i<=s.ab.length/\∀j:Nat,(j:Int)<i->decide ((s.ab.getD j a_).Id=id)=false
def IP(s:aF)(id:Int):Int×T5×Unit->Nat:=fun(i,g,_)=>s.ab.length-i.toNat
def app:AX afe:=fun(s,id)=>b_ [(2,aY [iI 11,.box 4 (4,1024) [.lit .str,.own .bc true]] (fun _=>Jp s id) (IP s id))]
def aoB:HH:=hF afe func94 [Bx] app fun x hp hb=>by
 obtain⟨s,id⟩:=x
 have jK:=kP (x:=s) (hb _ m0)
 have Oc:=Hs (n:=id) (hb _ m1)
 have bp:cd s.ab<=4294967296:=hp _ m0
 clear hp hb
 apply vE (let q0:=o_ s.ab id;Jp s id (0,({data:= #[]:BA},[],()),())/\∀(y:Int×Uy×PUnit),let q1:=s.ab.getD y.1.toNat a_;let q2:=(wrap i64 (y.1+1),(y.2.1.1,y.2.1.2.1,()),());Jp s id y->bif decide (y.1<(s.ab.length:Int)) then 0<=y.1/\y.1.toNat<s.ab.length/\bif q1.Id==id then L4 q1.F.ah.length/\Lf [DV.agg [CS (q1.F.Kind),CL .bc q1.F.ah],VB true] [DV.agg [CS (q0.Kind),CL .bc q0.ah],VB (ke s.ab id)] else Jp s id q2/\IP s id q2<IP s id y else Lf [DV.agg [CS ({data:= #[]:BA}),CL .bc []],VB false] [DV.agg [CS (q0.Kind),CL .bc q0.ah],VB (ke s.ab id)])
 dsimp only
 refine⟨⟨by omega,by omega,by intro j hj;omega⟩,?_⟩
 rintro⟨i,⟨g1,g2,⟨⟩⟩,⟨⟩⟩ ⟨h1,h2,hR⟩
 simp only
 refine aV ?_ ?_<;>intro hc
 ·rw[wi]
  have hs:=dV jR s.ab a_ h1 hc
  simp only[jR,db,eu] at hs
  simp only[cd,jR,db,eu] at bp
  refine⟨by omega,by omega,bo (fun h=>⟨by omega,?_⟩) (fun h=>⟨⟨by omega,by omega,i_ (p:=fun j=>decide ((s.ab.getD j a_).Id=id)) h1 hR (decide_eq_false h)⟩,by simp only[IP];omega⟩)⟩
  have e:vu s.ab id=(i.toNat:Int):=fE (i:=i.toNat) (by omega) (decide_eq_true h) (fun j hj=>hR j (by omega))
  have e1:o_ s.ab id=(s.ab.getD i.toNat a_).F:=by rw[o_,e,if_neg (by omega),Zb]
  have e2:ke s.ab id=true:=iw (j:=i.toNat) (by omega) (decide_eq_true h)
  rw[e1,e2];exact aX _
 ·have e:vu s.ab id= -1:=jl (fun j hj=>hR j (by omega))
  have e1:o_ s.ab id=ur:=by rw[o_,if_pos e]
  have e2:ke s.ab id=false:=gj fun j hj=>hR j (by omega)
  rw[e1,e2];exact aX _
def afr:=bV (α:=aF) (q1 (qA .cT)) [.ro] (fun _=>[]) (fun s=>⟨[dO (bm s)],[],[]⟩)
def Fy(s:aF):Int×T3×Unit->Prop:=fun(i,b,_)=>b=(s.ab,s.Next,())/\0<=i/\i<=s.ab.length/\∀j:Nat,(j:Int)<i->o7 s j=true
def AD(s:aF):Int×T3×Unit->Nat:=fun(i,b,_)=>s.ab.length-i.toNat
def apC:AX afr:=fun s=>b_ [(4,aY [iI 3,.box 1 (1,1024) [.shr .aJ,.lit (.int .i64)]] (fun _=>Fy s) (AD s))]
def aoQ:HH:=hF afr func68 [tN,FG,OS] apC fun(s:aF) hp hb=>by
 clear hp hb
 apply vE (let q0:=Lb false (bm s);bif !decide (1<=s.Next/\s.Next<=1000000) then q0 else bif decide ((s.ab.length:Int)>40) then q0 else Fy s (0,(s.ab,s.Next,()),())/\∀(y:Int×NB×PUnit),let x1:=y.2.1.1.length;let x4:=y.2.1.1.getD y.1.toNat a_;let x5:=Int.toNat (wrap i64 (y.1-1));let x0:=x4.Id;let x2:=(y.2.1.1.getD x5 a_).Id;let x3:=x4.F;let q1:=bif ib y.2.1.1 x3 !=x0 then q0 else Fy s (wrap i64 (y.1+1),(y.2.1.1,y.2.1.2.1,()),())/\AD s (wrap i64 (y.1+1),(y.2.1.1,y.2.1.2.1,()),())<AD s y;Fy s y->bif decide (y.1<(↑x1:Int)) then 0<=y.1/\y.1.toNat<x1/\bif !bD x3 then q0 else bif decide (x0<1) then q0 else bif decide (x0≥y.2.1.2.1) then q0 else bif decide (y.1>0) then 0<=wrap i64 (y.1-1)/\x5<x1/\bif decide (x2≥x0) then q0 else q1 else q1 else Lb true (bm s))
 dsimp only
 refine bC (fun a1=>bG (by simp only[bm,a1,qm])) (fun a1=>aV (fun a2=>bG ?_) (fun a2=> ?_))
 ·simp only[bm];rw[decide_eq_false (p:=s.ab.length<=40) (by omega),vl,qm]
 refine⟨⟨rfl,by omega,by omega,by intro j hj;omega⟩,?_⟩
 rintro⟨i,⟨b1,b2,⟨⟩⟩,⟨⟩⟩ ⟨rZ,h1,h2,hR⟩
 cases rZ
 simp only
 refine aV ?_ ?_<;>intro hc
 ·have hN:o7 s i.toNat=false->bm s=false:=fun h=>by
   have hf:allI s.ab.length (o7 s)=false:=gT (j:=i.toNat) (by omega) h
   simp only[bm,hf,vl]
  have e1:(i-1).toNat=i.toNat-1:=by omega
  simp(disch:=omega) only[wrap_i64]
  simp only[e1]
  have hi1:i>0->0<=i-1:=fun h=>by omega
  have gI:i.toNat<s.ab.length:=by omega
  have EL:i.toNat-1<s.ab.length:=by omega
  have Xl:o7 s i.toNat=true->Fy s (i+1,(s.ab,s.Next,PUnit.unit),PUnit.unit)/\AD s (i+1,(s.ab,s.Next,PUnit.unit),PUnit.unit)<AD s (i,(s.ab,s.Next,PUnit.unit),PUnit.unit):=fun h=>⟨⟨rfl,by omega,by omega,fZ h1 hR h⟩,by simp only[AD];omega⟩
  have c3:decide (0<i.toNat)=decide (i>0):=decide_eq_decide.2 (by omega)
  simp only[o7,jP,c3] at hN Xl
  generalize hA:s.ab.getD i.toNat a_=a at*
  generalize hB:s.ab.getD (i.toNat-1) a_=b at*
  generalize hQ:ib s.ab a.F=q at*
  generalize hO:bD a.F=o at*
  refine And.intro h1 (And.intro gI ?_)
  repeat' (first|refine bG (hN ?_)|refine Xl ?_|refine aV (fun h=> ?_) (fun h=> ?_)|refine bC (fun h=> ?_) (fun h=> ?_)|refine And.intro EL ?_|refine And.intro (hi1 (by assumption)) ?_)
  all_goals (cases o<;>simp at* <;>omega)
 ·have hA:allI s.ab.length (o7 s)=true:=ix fun j hj=>hR j (by omega)
  refine nE ?_
  simp only[bm,hA,a1,decide_eq_true (show s.ab.length<=40 by omega)];rfl
def afU:=bV (α:=aF) (q1 (qA .cT)) [.ro] (fun _=>[]) (fun s=>⟨[dO (bm s)],[],[]⟩)
def FC(s:aF):Int×T3×Unit->Prop:=fun(i,b,_)=>b=(s.ab,s.Next,())/\0<=i/\i<=s.ab.length/\∀j:Nat,(j:Int)<i->jc s j=true
def xm(s:aF):Int×T3×Unit->Nat:=fun(i,b,_)=>s.ab.length-i.toNat
def xn(s:aF):Int×Int×T19×T3×Unit->Int×Int×T19×T3×Unit->Prop:=fun(i0,k0,x0,b0,_) (i,k,x,b,_)=>i=i0/\x=x0/\b=b0/\0<=k/\k<=i/\∀j:Nat,(j:Int)<k->decide ((s.ab.getD i.toNat a_).F=(s.ab.getD j a_).F)=false
def xl(s:aF):Int×Int×T19×T3×Unit->Nat:=fun(i,k,x,b,_)=>i.toNat-k.toNat
def apW:AX afU:=fun s=>b_ [(4,aY [iI 20,.box 1 (1,1024) [.shr .aJ,.lit (.int .i64)]] (fun _=>FC s) (xm s)),(9,aY [iI 20,iI 59,.box 4 (4,1024) [.lit (.int .i64),.lit .str,.shr .bc],.box 1 (1,1024) [.shr .aJ,.lit (.int .i64)]] (xn s) (xl s))]
def apb:HH:=hF afU func26 [FE,Nz,WE] apW fun(s:aF) hp hb=>by
 clear hp hb
 apply vE (let x0:=(s.ab.length:Int);let x1:=Option.getD none (0:Int);let q0:=Lb false (bm s);let q1:=List bN×Int×PUnit;bif decide (x0>40) then q0 else bif !decide (1<=s.Next/\s.Next<=1000000) then q0 else FC s (0,(s.ab,s.Next,()),())/\∀(y:Int×q1×PUnit),let x8:=y.2.1.1.length;let x9:=(s.ab.getD y.1.toNat a_).Id;let mG:=(s.ab.getD y.1.toNat a_).F;let ly:=Int.toNat (wrap i64 (y.1-1));let x4:=(y.2.1.1.getD ly a_).Id;let x7:=(↑x8:Int);let x3:=Option.getD (some y.1) x7;let x6:=(y.2.1.1.take x3.toNat).drop x1.toNat;let x5:=x6.length;let x2:=(↑x5:Int);let q2:=(y.1,0,(x9,mG.Kind,mG.ah,()),(y.2.1.1,y.2.1.2.1,()),());FC s y->bif decide (y.1<x0) then 0<=y.1/\y.1.toNat<s.ab.length/\bif !bD mG then q0 else bif !decide (1<=x9/\x9<=wrap i64 (y.2.1.2.1-1)) then q0 else bif decide (y.1>0) then 0<=wrap i64 (y.1-1)/\ly<x8/\bif decide (x9<=x4) then q0 else 0<=x1/\x1<=x3/\x3<=x7/\xn s q2 q2/\∀(aO:Int×Int×T21×q1×PUnit),let qk:=aO.2.1.toNat;let q3:=(aO.1,wrap i64 (aO.2.1+1),(aO.2.2.1.1,aO.2.2.1.2.1,aO.2.2.1.2.2.1,()),(aO.2.2.2.1.1,aO.2.2.2.1.2.1,()),());let q4:=(wrap i64 (aO.1+1),(aO.2.2.2.1.1,aO.2.2.2.1.2.1,()),());xn s q2 aO->bif decide (aO.2.1<x2) then 0<=aO.2.1/\qk<x5/\bif decide ({Kind:=aO.2.2.1.2.1,ah:=aO.2.2.1.2.2.1:aK}=(x6.getD qk a_).F) then q0 else xn s q2 q3/\xl s q3<xl s aO else FC s q4/\xm s q4<xm s y else 0<=x1/\x1<=x3/\x3<=x7/\xn s q2 q2/\∀(aO:Int×Int×T21×q1×PUnit),let qk:=aO.2.1.toNat;let q5:=(aO.1,wrap i64 (aO.2.1+1),(aO.2.2.1.1,aO.2.2.1.2.1,aO.2.2.1.2.2.1,()),(aO.2.2.2.1.1,aO.2.2.2.1.2.1,()),());let q6:=(wrap i64 (aO.1+1),(aO.2.2.2.1.1,aO.2.2.2.1.2.1,()),());xn s q2 aO->bif decide (aO.2.1<x2) then 0<=aO.2.1/\qk<x5/\bif decide ({Kind:=aO.2.2.1.2.1,ah:=aO.2.2.1.2.2.1:aK}=(x6.getD qk a_).F) then q0 else xn s q2 q5/\xl s q5<xl s aO else FC s q6/\xm s q6<xm s y else Lb true (bm s))
 dsimp only
 have hF:(decide (1<=s.Next/\s.Next<=1000000)&&decide (s.ab.length<=40)&&allI s.ab.length (jc s))=bm s:=by rw[DZ];rfl
 refine aV (fun a2=>bG ?_) (fun a2=>bC (fun a1=>bG (by simp only[bm,a1,qm])) (fun a1=> ?_))
 ·simp only[bm];rw[decide_eq_false (p:=s.ab.length<=40) (by omega),vl,qm]
 have a3:=yT a1
 refine⟨⟨rfl,by omega,by omega,by intro j hj;omega⟩,?_⟩
 rintro⟨i,⟨b1,b2,⟨⟩⟩,⟨⟩⟩ ⟨rZ,h1,h2,hR⟩
 cases rZ
 simp only
 refine aV ?_ ?_<;>intro hc
 ·have hN:jc s i.toNat=false->bm s=false:=fun h=>by
   have hf:allI s.ab.length (jc s)=false:=gT (j:=i.toNat) (by omega) h
   rw[<-hF,hf,vl]
  have e1:(i-1).toNat=i.toNat-1:=by omega
  have c3:decide (0<i.toNat)=decide (i>0):=decide_eq_decide.2 (by omega)
  rw[wi (n:=s.Next-1),wi (n:=i-1),e1]
  have QE:jP s i.toNat=false->bm s=false:=fun h=>hN (by simp only[jc,h,qm])
  refine⟨by omega,by omega,bC (fun a=>bG (QE (by simp only[jP,a,qm]))) (fun a=>bC (fun a'=>bG (QE ?_)) (fun a'=>aV (fun p=>⟨by omega,by omega,aV (fun q=>bG (QE ?_)) (fun q=> ?_)⟩) (fun p=> ?_)))⟩
  ·have a':=yF a'
   by_cases g:1<=(s.ab.getD i.toNat a_).Id
   ·simp only[jP,decide_eq_false (show¬(s.ab.getD i.toNat a_).Id<s.Next by omega),vl,qm]
   ·simp only[jP,decide_eq_false g,vl,qm]
  ·simp only[jP,c3,decide_eq_true p,decide_eq_true q,BL,zfa,vl]
  ·have a':=yT a'
   have Ld:jP s i.toNat=true:=by
    simp only[jP,a,decide_eq_true a'.1,decide_eq_true (show(s.ab.getD i.toNat a_).Id<s.Next by omega),decide_eq_false q,vl,WO,BL]
   refine⟨Int.le_refl 0,by simp only[QP,FR];omega,by simp only[FR];omega,⟨rfl,rfl,rfl,by omega,by omega,by intro j hj;omega⟩,?_⟩
   rintro⟨i',k,⟨x1,x2,x3,⟨⟩⟩,⟨y1,y2,⟨⟩⟩,⟨⟩⟩ ⟨rfl,hx,hy,k1,k2,kR⟩
   cases hx
   cases hy
   simp only[QP,FR,show Int.toNat 0=0 from rfl,List.drop_zero]
   have etl:(s.ab.take i'.toNat).length=i'.toNat:=by rw[oc];omega
   refine aV ?_ ?_<;>intro hk
   ·rw[etl] at hk
    rw[getD_take s.ab a_ (show k.toNat<i'.toNat by omega),etl,wi (n:=k+1)]
    refine⟨k1,by omega,aV (fun e=>bG (hN ?_)) (fun e=>⟨⟨rfl,rfl,rfl,by omega,by omega,i_ (p:=fun j=>decide ((s.ab.getD i'.toNat a_).F=(s.ab.getD j a_).F)) k1 kR (decide_eq_false e)⟩,by simp only[xl];omega⟩)⟩
    have ha:(anyI i'.toNat fun k=>decide ((s.ab.getD i'.toNat a_).F=(s.ab.getD k a_).F))=true:=iw (j:=k.toNat) (by omega) (decide_eq_true e)
    simp only[jc,ha,zfa,vl]
   ·rw[etl] at hk
    rw[wi (n:=i'+1)]
    refine⟨⟨rfl,by omega,by omega,fZ h1 hR ?_⟩,by simp only[xm];omega⟩
    have ha:(anyI i'.toNat fun k=>decide ((s.ab.getD i'.toNat a_).F=(s.ab.getD k a_).F))=false:=gj fun j hj=>kR j (by omega)
    simp only[jc,ha,Ld,WO,BL]
  ·have a':=yT a'
   have Ld:jP s i.toNat=true:=by
    simp only[jP,c3,a,decide_eq_true a'.1,decide_eq_true (show(s.ab.getD i.toNat a_).Id<s.Next by omega),decide_eq_false p,qm,WO,BL]
   refine⟨Int.le_refl 0,by simp only[QP,FR];omega,by simp only[FR];omega,⟨rfl,rfl,rfl,by omega,by omega,by intro j hj;omega⟩,?_⟩
   rintro⟨i',k,⟨x1,x2,x3,⟨⟩⟩,⟨y1,y2,⟨⟩⟩,⟨⟩⟩ ⟨rfl,hx,hy,k1,k2,kR⟩
   cases hx
   cases hy
   simp only[QP,FR,show Int.toNat 0=0 from rfl,List.drop_zero]
   have etl:(s.ab.take i'.toNat).length=i'.toNat:=by rw[oc];omega
   refine aV ?_ ?_<;>intro hk
   ·rw[etl] at hk
    rw[getD_take s.ab a_ (show k.toNat<i'.toNat by omega),etl,wi (n:=k+1)]
    refine⟨k1,by omega,aV (fun e=>bG (hN ?_)) (fun e=>⟨⟨rfl,rfl,rfl,by omega,by omega,i_ (p:=fun j=>decide ((s.ab.getD i'.toNat a_).F=(s.ab.getD j a_).F)) k1 kR (decide_eq_false e)⟩,by simp only[xl];omega⟩)⟩
    have ha:(anyI i'.toNat fun k=>decide ((s.ab.getD i'.toNat a_).F=(s.ab.getD k a_).F))=true:=iw (j:=k.toNat) (by omega) (decide_eq_true e)
    simp only[jc,ha,zfa,vl]
   ·rw[etl] at hk
    rw[wi (n:=i'+1)]
    refine⟨⟨rfl,by omega,by omega,fZ h1 hR ?_⟩,by simp only[xm];omega⟩
    have ha:(anyI i'.toNat fun k=>decide ((s.ab.getD i'.toNat a_).F=(s.ab.getD k a_).F))=false:=gj fun j hj=>kR j (by omega)
    simp only[jc,ha,Ld,WO,BL]
 ·have hA:allI s.ab.length (jc s)=true:=ix fun j hj=>hR j (by omega)
  refine nE ?_
  rw[<-hF,hA,a1,decide_eq_true (show s.ab.length<=40 by omega)];rfl
theorem EX{d:br}{s:List bN}{m:aw}(h1:j9 d m=true)(h2:m.bz.length=0)(h3:m.ee.length=cN (d.aA.getD m.cG.toNat cq).aH):iT d s m=m.ee.all (ke s):=by
 simp only[iT,h1,decide_eq_true h2,decide_eq_true h3,wq]
theorem yL(x:aq):cd x.S.ab<=cK x:=by
 simp only[cK,jU];omega
theorem ow{d:br}{m:aw}(h:j9 d m=true):0<=m.cG/\m.cG<(d.aA.length:Int):=by
 simpa[j9] using h
theorem GF{d:br}{m:aw}(h:j9 d m=true):cN (d.aA.getD m.cG.toNat cq).aH<=cB d:=by
 obtain⟨h1,h2⟩:=ow h
 have hs:=dV dM d.aA cq h1 h2
 have hle:cN (d.aA.getD m.cG.toNat cq).aH<=(d.aA.getD m.cG.toNat cq).aH.length:=Mq _ _
 simp only[dM,kq] at hs
 simp only[cB,jV,dM,kq];omega
def agM:=bV (α:=br×aw) (qC (qA .hH) (q1 (qA .aE))) [.ro,.ro] (fun _=>[]) (fun(d,m)=>⟨[dO (j9 d m)],[],[]⟩)
def OR:HH:=hF agM func127 [] a0 fun x hp hb=>by
 obtain⟨d,m⟩:=x
 clear hp hb
 apply vE (bif decide (m.cG≥0) then Lb (decide (m.cG<(d.aA.length:Int))) (j9 d m) else Lb false (j9 d m))
 simp only[j9]
 refine aV (fun h=>cj ?_) (fun h=>cj ?_)
 ·rw[decide_eq_true (show 0<=m.cG from h),wq]
 ·rw[decide_eq_false (show¬0<=m.cG from h),qm]
def anR:=bV (α:=br×aw) (qC (qA .hH) (q1 (qA .aE))) [.ro,.ro] (fun _=>[]) (fun(d,m)=>⟨[dO (j9 d m)],[],[]⟩)
def aoC:HH:=hF anR func92 [] a0 fun x hp hb=>by
 obtain⟨d,m⟩:=x
 clear hp hb
 apply vE (bif decide (m.cG≥0) then Lb (decide (m.cG<(d.aA.length:Int))) (j9 d m) else Lb false (j9 d m))
 simp only[j9]
 refine aV (fun h=>cj ?_) (fun h=>cj ?_)
 ·rw[decide_eq_true (show 0<=m.cG from h),wq]
 ·rw[decide_eq_false (show¬0<=m.cG from h),qm]
def afn:=bV (α:=br×aq) (qC (qA .hH) (q1 (qA .cf))) [.ro,.ro] (fun(d,x)=>[cB d<=4294967295,L4 (cd x.S.ab)]) (fun(d,x)=>⟨[dO (iF d x)],[],[]⟩)
def Jz(d:br)(x:aq):Int×T2×T0×Unit->Prop:=fun(i,b,g,_)=>b=(d.Name,d.aA,())/\g=(x.S.ab,x.S.Next,x.ay,x.ag,x.ap,x.av,x.State,x.bR,())/\0<=i/\i<=x.ay.length/\(x.ay.drop i.toNat).all (iT d x.S.ab)=x.ay.all (iT d x.S.ab)
def IZ(d:br)(x:aq):Int×T2×T0×Unit->Nat:=fun(i,b,g,_)=>x.ay.length-i.toNat
def Jy(d:br)(x:aq):Int×Int×T2×T0×T8×Unit->Int×Int×T2×T0×T8×Unit->Prop:=fun(i0,k0,b0,g0,m0,_) (i,k,b,g,m,_)=>i=i0/\b=b0/\g=g0/\m=m0/\0<=k/\k<=(x.ay.getD i.toNat aZ).ee.length/\((x.ay.getD i.toNat aZ).ee.drop k.toNat).all (ke x.S.ab)=(x.ay.getD i.toNat aZ).ee.all (ke x.S.ab)
def IY(d:br)(x:aq):Int×Int×T2×T0×T8×Unit->Nat:=fun(i,k,b,g,m,_)=>(x.ay.getD i.toNat aZ).ee.length-k.toNat
def apy:AX afn:=fun(d,x)=>b_ [(2,aY [iI 5,.box 2 (2,1024) [.lit .str,.shr .bE],.box 3 (3,1024) [.shr .aJ,.lit (.int .i64),.shr .aE,.shr .ax,.shr .aI,.shr .aL,.lit (.int .i64),.lit (.int .i64)]] (fun _=>Jz d x) (IZ d x)),(8,aY [iI 5,iI 7,.box 2 (2,1024) [.lit .str,.shr .bE],.box 3 (3,1024) [.shr .aJ,.lit (.int .i64),.shr .aE,.shr .ax,.shr .aI,.shr .aL,.lit (.int .i64),.lit (.int .i64)],.box 6 (6,1024) [.lit (.int .i64),.shr .int,.shr .cv]] (Jy d x) (IY d x))]
def aoO:HH:=hF afn func73 [OR,Mb,aiO] apy fun x hp hb=>by
 obtain⟨d,x⟩:=x
 have eV:=kQ (x:=d) (hb _ m0)
 have jX:=eV.1
 have iS:=eV.2
 have gZ:=oD (x:=x) (hb _ m1)
 have e8:=gZ.1
 have gO:=gZ.2.1
 have gN:=gZ.2.2.1
 have fM:=gZ.2.2.2.1
 have gM:=gZ.2.2.2.2
 have bp:cB d<=4294967295:=hp _ m0
 have eN:cd x.S.ab<=4294967296:=hp _ m1
 clear hp hb
 apply vE (let q0:=List bN×Int×List aw×List aj×List aN×List bq×Int×Int×PUnit;let q1:=Lb false (iF d x);Jz d x (0,(d.Name,d.aA,()),(x.S.ab,x.S.Next,x.ay,x.ag,x.ap,x.av,x.State,x.bR,()),())/\∀(y:Int×T9×q0×PUnit),let x0:=y.2.2.1.2.2.1.getD y.1.toNat aZ;let x2:=y.2.2.1.2.2.1.length;let x1:=(↑x2:Int);let q2:=(y.1,0,(y.2.1.1,y.2.1.2.1,()),(y.2.2.1.1,y.2.2.1.2.1,y.2.2.1.2.2.1,y.2.2.1.2.2.2.1,y.2.2.1.2.2.2.2.1,y.2.2.1.2.2.2.2.2.1,y.2.2.1.2.2.2.2.2.2.1,y.2.2.1.2.2.2.2.2.2.2.1,()),(x0.cG,x0.ee,x0.bz,()),());Jz d x y->bif decide (y.1<x1) then 0<=y.1/\y.1.toNat<x2/\bif !j9 {Name:=y.2.1.1,aA:=y.2.1.2.1:br} x0 then q1 else bif (x0.bz.length:Int) !=0 then q1 else 0<=x0.cG/\x0.cG.toNat<y.2.1.2.1.length/\bif (x0.ee.length:Int) !=(↑(cN (y.2.1.2.1.getD x0.cG.toNat cq).aH):Int) then q1 else Jy d x q2 q2/\∀(aO:Int×Int×T9×q0×Y8×PUnit),let x4:=aO.2.2.2.2.1.2.1.length;let x5:=aO.2.1.toNat;let x3:=(↑x4:Int);let q3:=(aO.2.2.2.1.1,aO.2.2.2.1.2.1,aO.2.2.2.1.2.2.1,aO.2.2.2.1.2.2.2.1,aO.2.2.2.1.2.2.2.2.1,aO.2.2.2.1.2.2.2.2.2.1,aO.2.2.2.1.2.2.2.2.2.2.1,aO.2.2.2.1.2.2.2.2.2.2.2.1,());let q4:=(aO.1,wrap i64 (aO.2.1+1),(aO.2.2.1.1,aO.2.2.1.2.1,()),q3,(aO.2.2.2.2.1.1,aO.2.2.2.2.1.2.1,aO.2.2.2.2.1.2.2.1,()),());let q5:=(wrap i64 (aO.1+1),(aO.2.2.1.1,aO.2.2.1.2.1,()),q3,());Jy d x q2 aO->bif decide (aO.2.1<x3) then 0<=aO.2.1/\x5<x4/\L4 (cd aO.2.2.2.1.1)/\bif !ke aO.2.2.2.1.1 (aO.2.2.2.2.1.2.1.getD x5 0) then q1 else Jy d x q2 q4/\IY d x q4<IY d x aO else Jz d x q5/\IZ d x q5<IZ d x y else Lb (decide (x1<=1000)) (iF d x))
 dsimp only
 refine⟨⟨rfl,rfl,by omega,by omega,rfl⟩,?_⟩
 rintro⟨i,⟨b1,b2,⟨⟩⟩,⟨g1,g2,g3,g4,g5,g6,g7,g8,⟨⟩⟩,⟨⟩⟩ ⟨hb,hg,h1,h2,hR⟩
 cases hb
 cases hg
 simp only
 refine aV ?_ ?_<;>intro hc
 ·rw[dQ _ _ aZ h1 hc] at hR
  have hN:iT d x.S.ab (x.ay.getD i.toNat aZ)=false->iF d x=false:=fun h=>by simp only[iF,<-hR,h,qm,vl]
  refine⟨by omega,by omega,bC (fun a=>bG (hN ?_)) (fun a=>bC (fun b=>bG (hN ?_)) (fun b=> ?_))⟩
  ·have a:j9 d (x.ay.getD i.toNat aZ)=false:=a
   simp only[iT,a,qm]
  ·have b:¬(x.ay.getD i.toNat aZ).bz.length=0:=by simpa using b
   simp only[iT,decide_eq_false b,qm,vl]
  have a:j9 d (x.ay.getD i.toNat aZ)=true:=a
  have b:(x.ay.getD i.toNat aZ).bz.length=0:=by simpa using b
  obtain⟨r1,r2⟩:=ow a
  have hz:=GF a
  refine⟨r1,by omega,bC (fun c=>bG (hN ?_)) (fun c=>⟨⟨rfl,rfl,rfl,rfl,by omega,by omega,rfl⟩,?_⟩)⟩
  ·have c:¬(x.ay.getD i.toNat aZ).ee.length=cN (d.aA.getD (x.ay.getD i.toNat aZ).cG.toNat cq).aH:=fun e=>by rw[e] at c;simp at c
   simp only[iT,decide_eq_false c,qm,vl]
  have c:(x.ay.getD i.toNat aZ).ee.length=cN (d.aA.getD (x.ay.getD i.toNat aZ).cG.toNat cq).aH:=by
   have c:=eq_of_beq c
   omega
  have hM:=EX (s:=x.S.ab) a b c
  rintro⟨i',k,⟨b1,b2,⟨⟩⟩,⟨g1,g2,g3,g4,g5,g6,g7,g8,⟨⟩⟩,⟨m1,m2,m3,⟨⟩⟩,⟨⟩⟩ ⟨rfl,hb,hg,hm,k1,k2,kR⟩
  cases hb
  cases hg
  cases hm
  simp only
  refine aV ?_ ?_<;>intro hk
  ·rw[dQ _ _ 0 k1 hk] at kR
   rw[wi (n:=k+1)]
   exact⟨by omega,by omega,eN,bC (fun e=>bG (hN (by rw[hM,<-kR,e,qm]))) (fun e=>⟨⟨rfl,rfl,rfl,rfl,by omega,by omega,by rw[<-kR,e,wq]⟩,by simp only[IY];omega⟩)⟩
  ·rw[cy _ (by omega)] at kR
   rw[wi (n:=i'+1)]
   exact⟨⟨rfl,rfl,by omega,by omega,by rw[<-hR,hM,<-kR];rfl⟩,by simp only[IZ];omega⟩
 ·rw[cy _ (by omega)] at hR
  refine cj ?_
  simp only[iF,<-hR,QI,BL];exact decide_eq_decide.2 (by omega)
def afH:=bV (α:=br×aq) (qC (qA .hH) (q1 (qA .cf))) [.ro,.ro] (fun(d,x)=>[cB d<=4294967295,L4 (cd x.S.ab)]) (fun(d,x)=>⟨[dO (iF d x)],[],[]⟩)
def JT(d:br)(x:aq):Int×T2×T0×Unit->Prop:=fun(i,b,g,_)=>b=(d.Name,d.aA,())/\g=(x.S.ab,x.S.Next,x.ay,x.ag,x.ap,x.av,x.State,x.bR,())/\x.ay.length<=1000/\0<=i/\i<=x.ay.length/\(x.ay.drop i.toNat).all (iT d x.S.ab)=x.ay.all (iT d x.S.ab)
def Je(d:br)(x:aq):Int×T2×T0×Unit->Nat:=fun(i,b,g,_)=>x.ay.length-i.toNat
def JS(d:br)(x:aq):Int×Int×T2×T0×Unit->Int×Int×T2×T0×Unit->Prop:=fun(i0,k0,b0,g0,_) (i,k,b,g,_)=>i=i0/\b=b0/\g=g0/\0<=k/\k<=(x.ay.getD i.toNat aZ).ee.length/\((x.ay.getD i.toNat aZ).ee.drop k.toNat).all (ke x.S.ab)=(x.ay.getD i.toNat aZ).ee.all (ke x.S.ab)
def Jd(d:br)(x:aq):Int×Int×T2×T0×Unit->Nat:=fun(i,k,b,g,_)=>(x.ay.getD i.toNat aZ).ee.length-k.toNat
def apS:AX afH:=fun(d,x)=>b_ [(4,aY [iI 18,.box 2 (2,1024) [.lit .str,.shr .bE],.box 3 (3,1024) [.shr .aJ,.lit (.int .i64),.shr .aE,.shr .ax,.shr .aI,.shr .aL,.lit (.int .i64),.lit (.int .i64)]] (fun _=>JT d x) (Je d x)),(9,aY [iI 18,iI 48,.box 2 (2,1024) [.lit .str,.shr .bE],.box 3 (3,1024) [.shr .aJ,.lit (.int .i64),.shr .aE,.shr .ax,.shr .aI,.shr .aL,.lit (.int .i64),.lit (.int .i64)]] (JS d x) (Jd d x))]
def ao_:HH:=hF afH func32 [aoC,abK,aoB] apS fun x hp hb=>by
 obtain⟨d,x⟩:=x
 have eV:=kQ (x:=d) (hb _ m0)
 have jX:=eV.1
 have iS:=eV.2
 have gZ:=oD (x:=x) (hb _ m1)
 have e8:=gZ.1
 have gO:=gZ.2.1
 have gN:=gZ.2.2.1
 have fM:=gZ.2.2.2.1
 have gM:=gZ.2.2.2.2
 have bp:cB d<=4294967295:=hp _ m0
 have eN:cd x.S.ab<=4294967296:=hp _ m1
 clear hp hb
 apply vE (let x0:=(x.ay.length:Int);let q0:=List bN×Int×List aw×List aj×List aN×List bq×Int×Int×PUnit;let q1:=Lb false (iF d x);bif decide (x0>1000) then q1 else JT d x (0,(d.Name,d.aA,()),(x.S.ab,x.S.Next,x.ay,x.ag,x.ap,x.av,x.State,x.bR,()),())/\∀(y:Int×T9×q0×PUnit),let x2:=x.ay.getD y.1.toNat aZ;let x1:=(x2.ee.length:Int);let q2:=(y.1,0,(y.2.1.1,y.2.1.2.1,()),(y.2.2.1.1,y.2.2.1.2.1,y.2.2.1.2.2.1,y.2.2.1.2.2.2.1,y.2.2.1.2.2.2.2.1,y.2.2.1.2.2.2.2.2.1,y.2.2.1.2.2.2.2.2.2.1,y.2.2.1.2.2.2.2.2.2.2.1,()),());JT d x y->bif decide (y.1<x0) then 0<=y.1/\y.1.toNat<x.ay.length/\bif !j9 {Name:=y.2.1.1,aA:=y.2.1.2.1:br} x2 then q1 else bif (x2.bz.length:Int) !=0 then q1 else 0<=x2.cG/\x2.cG.toNat<y.2.1.2.1.length/\bif x1 !=(↑(cN (y.2.1.2.1.getD x2.cG.toNat cq).aH):Int) then q1 else JS d x q2 q2/\∀(aO:Int×Int×T9×q0×PUnit),let x3:=aO.2.1.toNat;let q3:=(aO.2.2.2.1.1,aO.2.2.2.1.2.1,aO.2.2.2.1.2.2.1,aO.2.2.2.1.2.2.2.1,aO.2.2.2.1.2.2.2.2.1,aO.2.2.2.1.2.2.2.2.2.1,aO.2.2.2.1.2.2.2.2.2.2.1,aO.2.2.2.1.2.2.2.2.2.2.2.1,());let q4:=(aO.1,wrap i64 (aO.2.1+1),(aO.2.2.1.1,aO.2.2.1.2.1,()),q3,());let q5:=(wrap i64 (aO.1+1),(aO.2.2.1.1,aO.2.2.1.2.1,()),q3,());JS d x q2 aO->bif decide (aO.2.1<x1) then 0<=aO.2.1/\x3<x2.ee.length/\L4 (cd aO.2.2.2.1.1)/\bif !ke aO.2.2.2.1.1 (x2.ee.getD x3 0) then q1 else JS d x q2 q4/\Jd d x q4<Jd d x aO else JT d x q5/\Je d x q5<Je d x y else Lb true (iF d x))
 dsimp only
 refine aV (fun a=>bG ?_) (fun a=>⟨⟨rfl,rfl,by omega,by omega,by omega,rfl⟩,?_⟩)
 ·simp only[iF];rw[decide_eq_false (p:=x.ay.length<=1000) (by omega),qm]
 rintro⟨i,⟨b1,b2,⟨⟩⟩,⟨g1,g2,g3,g4,g5,g6,g7,g8,⟨⟩⟩,⟨⟩⟩ ⟨hb,hg,a0,h1,h2,hR⟩
 cases hb
 cases hg
 simp only
 refine aV ?_ ?_<;>intro hc
 ·rw[dQ _ _ aZ h1 hc] at hR
  have hN:iT d x.S.ab (x.ay.getD i.toNat aZ)=false->iF d x=false:=fun h=>by simp only[iF,<-hR,h,qm,vl]
  refine⟨by omega,by omega,bC (fun a=>bG (hN ?_)) (fun a=>bC (fun b=>bG (hN ?_)) (fun b=> ?_))⟩
  ·have a:j9 d (x.ay.getD i.toNat aZ)=false:=a
   simp only[iT,a,qm]
  ·have b:¬(x.ay.getD i.toNat aZ).bz.length=0:=by simpa using b
   simp only[iT,decide_eq_false b,qm,vl]
  have a:j9 d (x.ay.getD i.toNat aZ)=true:=a
  have b:(x.ay.getD i.toNat aZ).bz.length=0:=by simpa using b
  obtain⟨r1,r2⟩:=ow a
  have hz:=GF a
  refine⟨r1,by omega,bC (fun c=>bG (hN ?_)) (fun c=>⟨⟨rfl,rfl,rfl,by omega,by omega,rfl⟩,?_⟩)⟩
  ·have c:¬(x.ay.getD i.toNat aZ).ee.length=cN (d.aA.getD (x.ay.getD i.toNat aZ).cG.toNat cq).aH:=fun e=>by rw[e] at c;simp at c
   simp only[iT,decide_eq_false c,qm,vl]
  have c:(x.ay.getD i.toNat aZ).ee.length=cN (d.aA.getD (x.ay.getD i.toNat aZ).cG.toNat cq).aH:=by
   have c:=eq_of_beq c
   omega
  have hM:=EX (s:=x.S.ab) a b c
  rintro⟨i',k,⟨b1,b2,⟨⟩⟩,⟨g1,g2,g3,g4,g5,g6,g7,g8,⟨⟩⟩,⟨⟩⟩ ⟨rfl,hb,hg,k1,k2,kR⟩
  cases hb
  cases hg
  simp only
  refine aV ?_ ?_<;>intro hk
  ·rw[dQ _ _ 0 k1 hk] at kR
   rw[wi (n:=k+1)]
   exact⟨by omega,by omega,eN,bC (fun e=>bG (hN (by rw[hM,<-kR,e,qm]))) (fun e=>⟨⟨rfl,rfl,rfl,by omega,by omega,by rw[<-kR,e,wq]⟩,by simp only[Jd];omega⟩)⟩
  ·rw[cy _ (by omega)] at kR
   rw[wi (n:=i'+1)]
   exact⟨⟨rfl,rfl,a0,by omega,by omega,by rw[<-hR,hM,<-kR];rfl⟩,by simp only[Je];omega⟩
 ·rw[cy _ (by omega)] at hR
  refine nE ?_
  simp only[iF,<-hR,decide_eq_true a0];rfl
def aoh:=bV (α:=(List aj)×(List (DA UU)->Option Value)) (qC (qL .ax) (q1 qF)) [.ro,.ro] (fun(l,p)=>[∀j:Nat,j<l.length->p [cg (l.getD j aD)]=some (.bool (bL (p [cg (l.getD j aD)])))]) (fun(l,p)=>⟨[dO (anyI l.length (fun j=>bL (p [cg (l.getD j aD)])))],[],[]⟩)
def ao9:HH:=hF aoh func34 [WG] a0 fun x hp hb=>by
 obtain⟨l,p⟩:=x
 have bp:∀j:Nat,j<l.length->p [cg (l.getD j aD)]=some (.bool (bL (p [cg (l.getD j aD)]))):=hp _ m0
 clear hp hb
 apply vE (let x0:=jJ (l.length) fun(j:Nat)=>bL (p [cg (l.getD j aD)]);(∀(j:Nat),j<l.length->p [cg (l.getD j aD)]=some (Value.bool (bL (p [cg (l.getD j aD)]))))/\Lb (decide (x0≥0)) (anyI (l.length) fun(j:Nat)=>bL (p [cg (l.getD j aD)])))
 dsimp only
 exact⟨bp,cj (by rw[<-BT])⟩
def afm:=bV (α:=List aj) (q1 (qL .ax)) [.ro] (fun _=>[]) (fun l=>⟨[dO (ph l)],[],[]⟩)
def Jx(l:List aj):Int×Unit->Prop:=fun(i,_)=>0<=i/\i<=l.length/\∀j:Nat,(j:Int)<i->jI (l.getD j aD)=false
def IX(l:List aj):Int×Unit->Nat:=fun(i,_)=>l.length-i.toNat
def apx:AX afm:=fun l=>b_ [(2,aY [iI 3] (fun _=>Jx l) (IX l))]
def aoN:HH:=hF afm func75 [] apx fun(l:List aj) hp hb=>by
 have j8:L9 l.length:=lu (hb _ m0)
 clear hp hb
 apply vE (Jx l (0,())/\∀(y:Int×PUnit),let q0:=(wrap i64 (y.1+1),());Jx l y->bif decide (y.1<(l.length:Int)) then 0<=y.1/\y.1.toNat<l.length/\bif (l.getD y.1.toNat aD).State==1 then Lb true (ph l) else 0<=y.1/\y.1.toNat<l.length/\bif (l.getD y.1.toNat aD).State==2 then Lb true (ph l) else Jx l q0/\IX l q0<IX l y else Lb false (ph l))
 dsimp only
 refine⟨⟨by omega,by omega,by intro j hj;omega⟩,?_⟩
 rintro⟨i,⟨⟩⟩ ⟨h1,h2,hR⟩
 simp only
 refine aV ?_ ?_<;>intro hc
 ·rw[wi]
  have hY:jI (l.getD i.toNat aD)=true->ph l=true:=fun h=>iw (j:=i.toNat) (by omega) h
  refine⟨by omega,by omega,bo (fun h=>nE (hY (by simp only[jI];grind))) (fun h=>⟨by omega,by omega,bo (fun g=>nE (hY (by simp only[jI];grind))) (fun g=>⟨⟨by omega,by omega,i_ (p:=fun j=>jI (l.getD j aD)) h1 hR (by simp only[jI];grind)⟩,by simp only[IX];omega⟩)⟩)⟩
 ·exact bG (gj fun j hj=>hR j (by omega))
def an1:=bV (α:=aq) (q1 (qA .cf)) [.ro] (fun _=>[]) (fun x=>⟨[dO (mL x)],[],[]⟩)
def aoM:HH:=hF an1 func76 [] a0 fun(x:aq) hp hb=>by
 clear hp hb
 apply vE (bif x.State==3 then Lb true (mL x) else Lb (x.State==5) (mL x))
 simp only[mL]
 refine bo (fun h=>cj ?_) (fun h=>cj ?_)
 ·rw[decide_eq_true h,Bool.true_or]
 ·rw[decide_eq_false h,Gk]
  rw[FJ];simp
def aon:=bV (α:=br×aq) (qC (qA .hH) (q1 (qA .cf))) [.ro,.ro] (fun(d,x)=>[cB d<=4294967295,L4 (cd x.S.ab)]) (fun(d,x)=>⟨[dO (instOk d x)],[],[]⟩)
def ape:HH:=hF aon func21 [ahc,aoQ,aoP,ahb,aha,tN,aoO,ag_,aoN,aoM] a0 fun x hp hb=>by
 obtain⟨d,x⟩:=x
 have eV:=kQ (x:=d) (hb _ m0)
 have jX:=eV.1
 have iS:=eV.2
 have gZ:=oD (x:=x) (hb _ m1)
 have e8:=gZ.1
 have gO:=gZ.2.1
 have gN:=gZ.2.2.1
 have fM:=gZ.2.2.2.1
 have gM:=gZ.2.2.2.2
 have bp:cB d<=4294967295:=hp _ m0
 have eN:cd x.S.ab<=4294967296:=hp _ m1
 clear hp hb
 apply vE (let q0:=Lb false (instOk d x);let q1:=bif !mL x then Lb true (instOk d x) else Lb (decide ((x.av.length:Int)>0)) (instOk d x);cB d<=4294967295/\bif !fJ d then q0 else bif !bm x.S then q0 else bif !aW x.ag then q0 else bif !dl x.ap then q0 else bif !cX x.av then q0 else bif !decide (1<=x.State/\x.State<=6) then q0 else bif !decide (0<=x.bR/\x.bR<=1000000000) then q0 else cB d<=4294967295/\L4 (cd x.S.ab)/\bif !iF d x then q0 else bif decide (x.State=2\/x.State=4\/x.State=6) then bif ph x.ag then q0 else bif decide ((x.ap.length:Int)>0) then q0 else q1 else q1)
 dsimp only
 refine⟨bp,?_⟩
 have ht:decide ((x.ap.length:Int)>0)=decide (0<x.ap.length):=decide_eq_decide.2 (by omega)
 have hu:decide ((x.av.length:Int)>0)=decide (0<x.av.length):=decide_eq_decide.2 (by omega)
 simp only[instOk,mS,ht,hu]
 repeat' (first|refine And.intro eN ?_|refine And.intro bp (And.intro eN ?_)|refine ae (fun h=> ?_) (fun h=> ?_))
 all_goals (refine cj ?_;grind)
def Zk9:=bV (α:=br×aq) (qC (qA .hH) (q1 (qA .cf))) [.ro,.ro] (fun(d,x)=>[cB d<=4294967295,L4 (cd x.S.ab)]) (fun(d,x)=>⟨[dO (instOk d x)],[],[]⟩)
def Zh9:HH:=hF Zk9 func9 [apc,apb,abQ,apa,ahi,FE,abP,ao_,ao',ao9,ahh] a0 fun x hp hb=>by
 obtain⟨d,x⟩:=x
 have anx:gW (U:=UU) (.agg [.lit (.string d.Name),.sl .bE d.aA]):=hb _ m0
 have eV:=kQ (x:=d) (hb _ m0)
 have jX:=eV.1
 have iS:=eV.2
 have SH:gW (U:=UU) (.agg [.sl .aJ x.S.ab,.lit (.int .i64 x.S.Next),.sl .aE x.ay,.sl .ax x.ag,.sl .aI x.ap,.sl .aL x.av,.lit (.int .i64 x.State),.lit (.int .i64 x.bR)]):=hb _ m1
 have gZ:=oD (x:=x) (hb _ m1)
 have e8:=gZ.1
 have gO:=gZ.2.1
 have gN:=gZ.2.2.1
 have fM:=gZ.2.2.2.1
 have gM:=gZ.2.2.2.2
 have bp:cB d<=4294967295:=hp _ m0
 have eN:cd x.S.ab<=4294967296:=hp _ m1
 clear hp hb
 apply vE (let q0:=Lb false (instOk d x);let q1:=Lb (decide ((x.av.length:Int)>0)) (instOk d x);bif !fJ d then q0 else bif !bm x.S then q0 else bif !aW x.ag then q0 else bif !dl x.ap then q0 else bif !cX x.av then q0 else bif !decide (1<=x.State/\x.State<=6) then q0 else bif !decide (0<=x.bR/\x.bR<=1000000000) then q0 else cB d<=4294967295/\L4 (cd x.S.ab)/\bif !iF d x then q0 else bif x.State==3 then q1 else bif x.State==5 then q1 else bif !decide (x.State=2\/x.State=4\/x.State=6) then Lb true (instOk d x) else bif (x.ap.length:Int)==0 then(∀(j:Nat),j<x.ag.length->ff Jl [] [cg (x.ag.getD j aD)]=some (Value.bool (bL (ff Jl [] [cg (x.ag.getD j aD)]))))/\Lb (!anyI (x.ag.length) fun(j:Nat)=>bL (ff Jl [] [cg (x.ag.getD j aD)])) (instOk d x) else q0)
 dsimp only
 have hc:∀t:aj,ff Jl [] [cg t]=some (.bool (jI t)):=fun t=>se (x:=t) rfl rfl rfl rfl (by simp[Jl])
 have hl:(anyI x.ag.length fun j=>bL (ff Jl [] [cg (x.ag.getD j aD)]))=ph x.ag:=nR fun j hj=>by rw[hc];rfl
 have iv:∀j:Nat,j<x.ag.length->ff Jl [] [cg (x.ag.getD j aD)]=some (.bool (bL (ff Jl [] [cg (x.ag.getD j aD)]))):=fun j hj=>by rw[hc];rfl
 have ht:((x.ap.length:Int)==0)= !decide (0<x.ap.length):=by rw[FJ];simp
 have hu:decide ((x.av.length:Int)>0)=decide (0<x.av.length):=decide_eq_decide.2 (by omega)
 have h3:(x.State==3)=decide (x.State=3):=by rw[FJ];simp
 have h5:(x.State==5)=decide (x.State=5):=by rw[FJ];simp
 simp only[instOk,mS,mL,ht,hu,h3,h5,hl]
 repeat' (first|refine And.intro iv ?_|refine And.intro bp (And.intro eN ?_)|refine And.intro eN ?_|refine ae (fun h=> ?_) (fun h=> ?_))
 all_goals (refine cj ?_;clear iv hc hl ht hu h3 h5 anx SH;grind)
theorem Zs{v:aS}(h:bB v=true):v.S.size<=21:=by
 simp only[bB] at h
 by_cases h1:v.K=1
 ·simp[h1] at h;rw[h.2];simp[ao]
 ·by_cases h2:v.K=2
  ·simp[h2] at h;omega
  ·simp[h1,h2] at h
end
end AM
