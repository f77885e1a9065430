/- Functions of the program with their contracts: put together by gen/link.py for FnTimers. -/
import Derived.Test.YtlachfpabecaeaaQAmLib
import Derived.Test.YtlachfpabecaeaaQAmHand
import Derived.Test.YtlachfpabecaeaaQIns
namespace AM
open Go Go.Proofs.Try Go.IntKind
set_option linter.unusedVariables false
set_option linter.unusedSimpArgs false
set_option maxRecDepth 100000
noncomputable section
theorem ve {p q : Prop} (h : p = q) (x : q) : p := by rw [h]; exact x
abbrev VB (b : Bool) : DV UU := .one (.lit (.bool b))
abbrev VI (n : Int) : DV UU := .one (.lit (.int .i64 n))
abbrev VS (s : ByteArray) : DV UU := .one (.lit (.string s))
abbrev CI (n : Int) : CC := .lit (.int .i64 n)
abbrev CS (s : ByteArray) : CC := .lit (.string s)
abbrev CO (b : Bool) : CC := .lit (.bool b)
abbrev CL (τ : Cd) (xs : List τ.T) : CC := .sl τ xs
abbrev VL (τ : Cd) (xs : List τ.T) : DV UU := .one (.sl τ xs)
structure Q1(α:Type) where
 d:α→DV UU
 o:DV UU→Option α
 l:∀ v x,o v=some x→d x=v
structure QQ(α:Type) where
 d:α→List (DV UU)
 o:List (DV UU)→Option α
 l:∀ l x,o l=some x→d x=l
def q1{α:Type}(c:Q1 α):QQ α:=⟨fun x=>[c.d x],o1 c.o,l1 c.l⟩
def qC{α β:Type}(c:Q1 α)(r:QQ β):QQ (α×β):=⟨fun x=>c.d x.1::r.d x.2,oC c.o r.o,lC c.l r.l⟩
def qI:Q1 Int:=⟨dI,oI,lI⟩
def qY:Q1 Int:=⟨dY,oY,lY⟩
def qO:Q1 Bool:=⟨dO,oO,lO⟩
def qS:Q1 ByteArray:=⟨dS,oS,lS⟩
def qF:Q1 (List (DA UU)→Option Value):=⟨dF,oF,lF⟩
def qL(τ:Cd):Q1 (List τ.T):=⟨dL τ,oL τ,lL τ⟩
def qA(τ:Cd):Q1 τ.T:=⟨dA τ,oA τ,lA τ⟩
def qP(τ:Cd):Q1 τ.T:=⟨dP τ,oP τ,lP τ⟩
def qX(τ:Cd):Q1 τ.T:=⟨dX τ,oX τ,lX τ⟩
def fQ{α:Type}(c:QQ α)(md:List Mode)(pre:α→List Prop)(fZ:α→Gq UU):eg UU:={α,md,of:=c.o,ds:=c.d,pre,fZ,law:=c.l}
def N2{α:Type}(r t:Nat)(c:QQ α)(md:List Mode)(pre:α→List Prop)(fZ:α→Gq UU):eg UU:={α,md,of:=c.o,ds:=c.d,pre,fZ,qu:=r,cut:=t,law:=c.l}
def hF{f:FuncId}{fn:Func}(k:eg UU)(hf:EE.P.funcs[f]? =some fn)(hc:mR EE.P f fn k.md=true)(l:List HH)(fa:k.α→Nat→Option (iC UU))(hw:∀x,(∀p∈k.pre x,p)→(∀d∈k.ds x,gQ d)→Fy EE (us l) fn k fa x)(h0:k.qu=0:=by rfl):HH:=⟨(f,k),holds_of tf hf k hc (us l) (yD _) fa hw h0⟩
def a0{α:Type}(_:α)(_:Nat):Option (iC UU):=none
abbrev AX(k:eg UU):=k.α→Nat→Option (iC UU)
abbrev iO(s:Nat)(τ:Cd):It UU:=.slot s (s,1024) (.own τ true)
abbrev iS(s:Nat)(τ:Cd):It UU:=.slot s (s,1024) (.own τ false)
abbrev iH(s:Nat)(τ:Cd):It UU:=.slot s (s,1024) (.shr τ)
abbrev iI(s:Nat):It UU:=.slot s (s,1024) (.lit (.int .i64))
abbrev iB(s:Nat):It UU:=.slot s (s,1024) (.lit .bool)
abbrev T0:=Int×ByteArray×List bq×Unit
abbrev T1:=ByteArray×List bq×Unit
abbrev T2:=List Int×Int×Int×Unit
abbrev T3:=List Int×Int×Int×PUnit
abbrev T4:=Int×ByteArray×List bq×PUnit
abbrev T5:=ByteArray×List bq×PUnit
theorem yT {p:Prop} [Decidable p] (h:decide p=true):p:=of_decide_eq_true h
theorem yF {p:Prop} [Decidable p] (h:decide p=false):¬p:=of_decide_eq_false h
abbrev BA:=ByteArray
instance:DecidableEq bq:=fun _ _=>Classical.propDecidable _
instance:DecidableEq br:=fun _ _=>Classical.propDecidable _
instance:DecidableEq ae:=fun _ _=>Classical.propDecidable _
instance:DecidableEq jH:=fun _ _=>Classical.propDecidable _
instance:DecidableEq jG:=fun _ _=>Classical.propDecidable _
theorem lK{α:Type}(f:α->Nat)(l:List α)(z:α){i:Int}(h0:0<=i)(h:i<l.length):f (List.getD l i.toNat z)<=(l.map f).sum:=by
 have h1:l=l.take i.toNat++List.getD l i.toNat z::l.drop (i+1).toNat:=by rw[<-jh l z h0 h,zu]
 have h2:=congrArg (fun q=>(q.map f).sum) h1
 simp only[Hl,qd,NQ,Hp] at h2
 omega
theorem iZ{α:Type}(p:α->Bool)(l:List α)(z:α){i:Int}(h0:0<=i)(h:i<l.length):(l.drop i.toNat).all p=(p (List.getD l i.toNat z)&&(l.drop (i+1).toNat).all p):=by
 rw[jh l z h0 h,Cz]
def bs(s:ByteArray):List UInt8:=s.data.toList
theorem pE(s:ByteArray):(bs s).length=s.size:=nI
theorem s5(s:ByteArray):Array.toList (ByteArray.data s)=bs s:=rfl
def iW(p:Int->Bool)(b:UInt8):Bool:=p b.toNat
theorem zw(b:UInt8):IntKind.wrap .i64 (b.toNat:Int)=b.toNat:=wrap_i64 (by omega) (by have:=b.toNat_lt;omega)
theorem Gs{y:Bool}(h:y=true):Lf [.one (.lit (.bool true))] [.one (.lit (.bool y))]:=cO h.symm
theorem gj{y:Bool}(h:y=false):Lf [.one (.lit (.bool false))] [.one (.lit (.bool y))]:=cO h.symm
theorem kX{α:Type}(l:List α)(z:α){i:Int}(h0:0<=i)(h:i<l.length):l.take i.toNat++[List.getD l i.toNat z]=l.take (i+1).toNat:=by
 have hn:i.toNat<l.length:=by omega
 have e:(i+1).toNat=i.toNat+1:=by omega
 rw[e,Na hn,cB,cF hn]
 rfl
theorem qq{α:Type}(l:List α){i:Int}(h:l.length<=i):l.take i.toNat=l:=zt (by omega)
def sG(a:bq):Nat:=a.S.size
def dx(l:List bq):Nat:=l.length+(l.map sG).sum
def cL(a:br):Nat:=a.Kind.size+dx a.ai
def bf(a:ae):Nat:=cL a.F
def aR(l:List ae):Nat:=l.length+(l.map bf).sum
theorem s6{x:bq}(h:gQ (dA .aH x)):x.S.size<=9223372036854775807:=Bd.str (U:=UU) (h _ (d_ _ (d_ _ (gp))))
theorem gM{x:br}(h:gQ (dA .cN x)):x.Kind.size<=9223372036854775807/\x.ai.length<=9223372036854775807:=⟨Bd.str (U:=UU) (h _ (gp)),Bd.len (U:=UU) (h _ (d_ _ (gp)))⟩
theorem jq{x:ae}(h:gQ (dA .aj x)):x.F.Kind.size<=9223372036854775807/\x.F.ai.length<=9223372036854775807:=⟨Bd.str (U:=UU) (h _ (d_ _ (gp))),Bd.len (U:=UU) (h _ (d_ _ (d_ _ (gp))))⟩
def dt(b:Int):Bool:=decide (97<=b/\b<=122)
def ep(b:Int):Bool:=dt b||decide (48<=b/\b<=57)||decide (b=95)
def fW(s:BA):Bool:=(bs s).all (iW ep)
def bP(s:BA):Bool:=decide (1<=s.size/\s.size<=12)&&dt (List.getD (bs s) 0 0).toNat&&fW s
def bO(v:bq):Bool:=bif decide (v.K=1) then decide (-1000000000<=v.N/\v.N<=1000000000)&&decide (v.S=bT) else bif decide (v.K=2) then decide (v.N=0)&&decide (v.S.size<=20)&&fW v.S else false
def cm(f:br):Bool:=bP f.Kind&&decide (f.ai.length<=5)&&f.ai.all bO
def L7:=fQ (α:=Int×Int×Int) (qC qI (qC qI (q1 qI))) [.ro,.ro,.ro] (fun _=>[]) (fun(n,least,eh)=>⟨[dO (decide (least<=n/\n<=eh))],[],[]⟩)
def Gi:HH:=hF L7 func59 (by kernel_rfl) [] a0 fun x hp hb=>by
 obtain⟨n,least,eh⟩:=x
 have Bb:=wO (n:=n) (hb _ m0)
 have vG:=wO (n:=least) (hb _ m1)
 have sS:=wO (n:=eh) (hb _ m2)
 clear hp hb
 apply @ve _ (bif decide (n≥least) then Lb (decide (n<=eh)) (decide (least<=n/\n<=eh)) else Lb false (decide (least<=n/\n<=eh))) (by kernel_rfl)
 refine ag (fun h=>cO ?_) (fun h=>cO ?_)<;>grind
def Md:=fQ (α:=Int×Int×Int) (qC qI (qC qI (q1 qI))) [.ro,.ro,.ro] (fun _=>[]) (fun(x,least,eh)=>⟨[dO (decide (least<=x/\x<=eh))],[],[]⟩)
def yn:HH:=hF Md func40 (by kernel_rfl) [] a0 fun x hp hb=>by
 obtain⟨x,least,eh⟩:=x
 have OD:=wO (n:=x) (hb _ m0)
 have vG:=wO (n:=least) (hb _ m1)
 have sS:=wO (n:=eh) (hb _ m2)
 clear hp hb
 apply @ve _ (bif decide (x≥least) then Lb (decide (x<=eh)) (decide (least<=x/\x<=eh)) else Lb false (decide (least<=x/\x<=eh))) (by kernel_rfl)
 refine ag (fun h=>cO ?_) (fun h=>cO ?_)<;>grind
def LY:=fQ (α:=Int) (q1 qY) [.ro] (fun _=>[]) (fun b=>⟨[dO (dt b)],[],[]⟩)
def Ge:HH:=hF LY func71 (by kernel_rfl) [] a0 fun(b:Int) hp hb=>by
 skip
 clear hp hb
 apply @ve _ (bif decide (b≥97) then Lb (decide (b<=122)) (dt b) else Lb false (dt b)) (by kernel_rfl)
 refine ag (fun h=>cO ?_) (fun h=>cO ?_)<;>grind [dt]
def LV:=fQ (α:=Int) (q1 qY) [.ro] (fun _=>[]) (fun b=>⟨[dO (decide (48<=b/\b<=57))],[],[]⟩)
def Mn:HH:=hF LV func77 (by kernel_rfl) [] a0 fun(b:Int) hp hb=>by
 skip
 clear hp hb
 apply @ve _ (let q0:=decide (48<=b/\b<=57);bif decide (b≥48) then Lb (decide (b<=57)) q0 else Lb false q0) (by kernel_rfl)
 dsimp only
 refine ag (fun h=>cO ?_) (fun h=>cO ?_)<;>grind
def LW:=fQ (α:=Int) (q1 qY) [.ro] (fun _=>[]) (fun b=>⟨[dO (ep b)],[],[]⟩)
def Mo:HH:=hF LW func76 (by kernel_rfl) [Ge,Mn] a0 fun(b:Int) hp hb=>by
 skip
 clear hp hb
 apply @ve _ (bif dt b then Lb true (ep b) else bif decide (48<=b/\b<=57) then Lb true (ep b) else Lb (b==95) (ep b)) (by kernel_rfl)
 refine ag (fun h=>cO ?_) (fun h=> ?_)
 ·grind [ep]
 refine ag (fun h=>cO ?_) (fun h=>cO ?_)<;>grind [ep]
def L0:=fQ (α:=Int) (q1 qY) [.ro] (fun c=>[0<=c/\c<=255]) (fun c=>⟨[dO (ep c)],[],[]⟩)
def Gf:HH:=hF L0 func69 (by kernel_rfl) [yn] a0 fun(c:Int) hp hb=>by
 have dC:0<=c/\c<=255:=hp _ m0
 clear hp hb
 apply @ve _ (bif decide (97<=wrap i64 c/\wrap i64 c<=122) then Lb true (ep c) else bif decide (48<=wrap i64 c/\wrap i64 c<=57) then Lb true (ep c) else Lb (c==95) (ep c)) (by kernel_rfl)
 rw[wrap_i64 (by omega) (by omega)]
 refine ag (fun h=>cO ?_) (fun h=> ?_)
 ·grind [ep,dt]
 refine ag (fun h=>cO ?_) (fun h=>cO ?_)<;>grind [ep,dt]
def FU:=fQ (α:=BA×Int) (qC qS (q1 qI)) [.ro,.ro] (fun _=>[]) (fun(s,eh)=>⟨[dO (decide (s.size<=eh)&&fW s)],[],[]⟩)
def pT(s:BA)(eh:Int):Int×Unit->Prop:=fun(i,_)=>0<=i/\i<=s.size/\s.size<=eh/\((bs s).drop i.toNat).all (iW ep)=fW s
def pI(s:BA)(eh:Int):Int×Unit->Nat:=fun(i,_)=>s.size-i.toNat
def MR:AX FU:=fun(s,eh)=>gO [(4,ed [iI 5] (fun _=>pT s eh) (pI s eh))]
def Gd:HH:=hF FU func72 (by kernel_rfl) [Mo] MR fun x hp hb=>by
 obtain⟨s,eh⟩:=x
 have Ba:=Hb (s:=s) (hb _ m0)
 have sS:=wO (n:=eh) (hb _ m1)
 clear hp hb
 apply @ve _ (let q0:=decide ((↑(ByteArray.size s):Int)<=eh)&&fW s;bif decide ((↑(ByteArray.size s):Int)>eh) then Lb false q0 else pT s eh (0,())/\∀(y:Int×PUnit),let q1:=(wrap i64 (y.1+1),());pT s eh y->bif decide (y.1<(↑(ByteArray.size s):Int)) then 0<=y.1/\y.1.toNat<ByteArray.size s/\bif !ep (↑(UInt8.toNat (List.getD s.data.toList y.1.toNat (0:UInt8))):Int) then Lb false q0 else pT s eh q1/\pI s eh q1<pI s eh y else Lb true q0) (by kernel_rfl)
 dsimp only
 refine ag (fun h=>gj ?_) (fun h=> ?_)
 ·have h:=yT h;rw[decide_eq_false (by omega)];rfl
 have h0:=yF h
 refine⟨⟨by omega,by omega,by omega,rfl⟩,?_⟩
 rintro⟨i,⟨⟩⟩ ⟨h1,h2,h3,hR⟩
 have hl:=pE s
 simp only[s5]
 refine ag (fun hc=> ?_) (fun hc=> ?_)
 ·have hc:=yT hc
  rw[iZ _ _ 0 h1 (by omega)] at hR
  rw[wrap_i64 (by omega) (by omega)]
  refine⟨by omega,by omega,ag (fun h=>gj ?_) (fun h=>⟨⟨by omega,by omega,by omega,?_⟩,?_⟩)⟩
  ·rw[<-hR];simp only[iW];simp at h;simp[h]
  ·rw[<-hR];simp only[iW];simp at h;simp[h]
  ·simp only[pI];omega
 ·have hc:=yF hc
  rw[fN _ (by omega)] at hR
  exact Gs (by rw[<-hR,decide_eq_true h3];rfl)
def L6:=fQ (α:=BA) (q1 qS) [.ro] (fun _=>[]) (fun s=>⟨[dO (bP s)],[],[]⟩)
def Mv:HH:=hF L6 func60 (by kernel_rfl) [Ge,Gd] a0 fun(s:BA) hp hb=>by
 have Ba:=Hb (s:=s) (hb _ m0)
 clear hp hb
 apply @ve _ (bif decide ((↑(ByteArray.size s):Int)>0) then(0:Int)<=(0:Int)/\Int.toNat 0<ByteArray.size s/\bif dt (↑(UInt8.toNat (List.getD s.data.toList (Int.toNat 0) (0:UInt8))):Int) then Lb (decide ((↑(ByteArray.size s):Int)<=12)&&fW s) (bP s) else Lb false (bP s) else Lb false (bP s)) (by kernel_rfl)
 have hl:=pE s
 simp only[s5]
 refine ag (fun h=> ?_) (fun h=>gj ?_)
 ·have h:=yT h
  refine⟨by omega,by omega,ag (fun h'=>cO ?_) (fun h'=>gj ?_)⟩
  ·have h':dt ((List.getD (bs s) 0 0).toNat:Int)=true:=h'
   simp only[bP,h']
   have e:decide (1<=s.size/\s.size<=12)=decide ((s.size:Int)<=12):=by rw[decide_eq_decide];omega
   rw[e];simp
  ·have h':dt ((List.getD (bs s) 0 0).toNat:Int)=false:=h'
   simp only[bP,h'];grind
 ·have h:=yF h
  simp only[bP];rw[decide_eq_false (by omega)];rfl
def FX:=fQ (α:=BA) (q1 qS) [.ro] (fun _=>[]) (fun s=>⟨[dO (bP s)],[],[]⟩)
def ny(s:BA):Int×Unit->Prop:=fun(i,_)=>0<=i/\i<=s.size/\((bs s).drop i.toNat).all (iW ep)=fW s/\(0<i->dt (List.getD (bs s) 0 0).toNat=true)
def jZ(s:BA):Int×Unit->Nat:=fun(i,_)=>s.size-i.toNat
def MU:AX FX:=fun s=>gO [(2,ed [iI 3] (fun _=>ny s) (jZ s))]
def Mx:HH:=hF FX func56 (by kernel_rfl) [Gf,yn] MU fun(s:BA) hp hb=>by
 have Ba:=Hb (s:=s) (hb _ m0)
 clear hp hb
 apply @ve _ (let q0:=(↑(ByteArray.size s):Int);ny s (0,())/\∀(y:Int×PUnit),let x0:=(↑(UInt8.toNat (List.getD s.data.toList y.1.toNat (0:UInt8))):Int);let q1:=(wrap i64 (y.1+1),());ny s y->bif decide (y.1<q0) then 0<=y.1/\y.1.toNat<ByteArray.size s/\(0<=x0/\x0<=255)/\bif !ep x0 then Lb false (bP s) else bif y.1==0 then 0<=y.1/\y.1.toNat<ByteArray.size s/\bif !decide (97<=wrap i64 x0/\wrap i64 x0<=122) then Lb false (bP s) else ny s q1/\jZ s q1<jZ s y else ny s q1/\jZ s q1<jZ s y else Lb (decide (1<=q0/\q0<=12)) (bP s)) (by kernel_rfl)
 dsimp only
 refine⟨⟨by omega,by omega,rfl,by omega⟩,?_⟩
 rintro⟨i,⟨⟩⟩ ⟨h1,h2,hR,hS⟩
 have hl:=pE s
 simp only[s5,zw]
 refine ag (fun hc=> ?_) (fun hc=> ?_)
 ·have hc:=yT hc
  have hb:=(List.getD (bs s) i.toNat 0).toNat_lt
  rw[iZ _ _ 0 h1 (by omega)] at hR
  rw[wrap_i64 (by omega) (by omega)]
  have hN:fW s=false->bP s=false:=fun h=>by simp[bP,h]
  refine⟨by omega,by omega,⟨by omega,by omega⟩,ag (fun h=>gj (hN ?_)) (fun h=>ag (fun h'=>⟨by omega,by omega,ag (fun ix=>gj ?_) (fun ix=>⟨⟨by omega,by omega,?_,fun _=> ?_⟩,?_⟩)⟩) (fun h'=>⟨⟨by omega,by omega,?_,fun _=>hS ?_⟩,?_⟩))⟩
  ·rw[<-hR];simp only[iW];simp at h;simp[h]
  ·have h':i=0:=by simpa using h'
   subst h'
   have ix:dt ((List.getD (bs s) 0 0).toNat:Int)=false:=by simp only[dt];grind
   simp only[bP,ix];grind
  ·rw[<-hR];simp only[iW];simp at h;simp[h]
  ·have h':i=0:=by simpa using h'
   subst h'
   simpa[dt] using ix
  ·simp only[jZ];omega
  ·rw[<-hR];simp only[iW];simp at h;simp[h]
  ·have h':¬i=0:=by simpa using h'
   omega
  ·simp only[jZ];omega
 ·have hc:=yF hc
  rw[fN _ (by omega)] at hR
  refine cO ?_
  simp only[bP,<-hR]
  by_cases hz:0<i
  ·rw[hS hz];simp only[NR];grind
  ·rw[decide_eq_false (by omega),decide_eq_false (by omega)];rfl
def FT:=fQ (α:=BA) (q1 qS) [.ro] (fun _=>[]) (fun s=>⟨[dO (decide (s.size<=20)&&fW s)],[],[]⟩)
def pS(s:BA):Int×Unit->Prop:=fun(i,_)=>0<=i/\i<=s.size/\((bs s).drop i.toNat).all (iW ep)=fW s
def pH(s:BA):Int×Unit->Nat:=fun(i,_)=>s.size-i.toNat
def MQ:AX FT:=fun s=>gO [(2,ed [iI 3] (fun _=>pS s) (pH s))]
def Mp:HH:=hF FT func75 (by kernel_rfl) [Gf] MQ fun(s:BA) hp hb=>by
 have Ba:=Hb (s:=s) (hb _ m0)
 clear hp hb
 apply @ve _ (let q0:=decide (ByteArray.size s<=20)&&fW s;pS s (0,())/\∀(y:Int×PUnit),let x0:=(↑(UInt8.toNat (List.getD s.data.toList y.1.toNat (0:UInt8))):Int);let q1:=(wrap i64 (y.1+1),());pS s y->bif decide (y.1<(↑(ByteArray.size s):Int)) then 0<=y.1/\y.1.toNat<ByteArray.size s/\(0<=x0/\x0<=255)/\bif !ep x0 then Lb false q0 else pS s q1/\pH s q1<pH s y else Lb (decide ((↑(ByteArray.size s):Int)<=20)) q0) (by kernel_rfl)
 dsimp only
 refine⟨⟨by omega,by omega,rfl⟩,?_⟩
 rintro⟨i,⟨⟩⟩ ⟨h1,h2,hR⟩
 have hl:=pE s
 simp only[s5]
 refine ag (fun hc=> ?_) (fun hc=> ?_)
 ·have hc:=yT hc
  have hb:=(List.getD (bs s) i.toNat 0).toNat_lt
  rw[iZ _ _ 0 h1 (by omega)] at hR
  rw[wrap_i64 (by omega) (by omega)]
  refine⟨by omega,by omega,⟨by omega,by omega⟩,ag (fun h=>gj ?_) (fun h=>⟨⟨by omega,by omega,?_⟩,?_⟩)⟩
  ·rw[<-hR];simp only[iW];simp at h;simp[h]
  ·rw[<-hR];simp only[iW];simp at h;simp[h]
  ·simp only[pH];omega
 ·have hc:=yF hc
  rw[fN _ (by omega)] at hR
  refine cO ?_
  rw[<-hR];simp;omega
def L5:=fQ (α:=bq) (q1 (qA .aH)) [.ro] (fun _=>[]) (fun v=>⟨[dO (bO v)],[],[]⟩)
def Mu:HH:=hF L5 func61 (by kernel_rfl) [Gi,Gd] a0 fun(v:bq) hp hb=>by
 have A_:=s6 (x:=v) (hb _ m0)
 clear hp hb
 apply @ve _ (bif v.K==1 then bif decide ((-1000000000)<=v.N/\v.N<=1000000000) then Lb (ByteArray.toList v.S==ByteArray.toList {data:= #[]:BA}) (bO v) else Lb false (bO v) else bif v.K==2 then bif v.N==0 then Lb (decide ((↑(ByteArray.size v.S):Int)<=20)&&fW v.S) (bO v) else Lb false (bO v) else Lb false (bO v)) (by kernel_rfl)
 have e:(ByteArray.toList (bq.S v)==ByteArray.toList {data:= #[]})=decide (v.S=bT):=eM _ _
 simp only[e,bO]
 repeat' (refine ag (fun h=> ?_) (fun h=> ?_))
 all_goals (refine cO ?_;grind)
def LZ:=fQ (α:=bq) (q1 (qA .aH)) [.ro] (fun _=>[]) (fun v=>⟨[dO (bO v)],[],[]⟩)
def Mr:HH:=hF LZ func70 (by kernel_rfl) [yn,Mp] a0 fun(v:bq) hp hb=>by
 have A_:=s6 (x:=v) (hb _ m0)
 clear hp hb
 apply @ve _ (bif v.K==1 then bif decide ((-1000000000)<=v.N/\v.N<=1000000000) then Lb (ByteArray.toList v.S==ByteArray.toList {data:= #[]:BA}) (bO v) else Lb false (bO v) else bif v.K==2 then bif decide (ByteArray.size v.S<=20)&&fW v.S then Lb (v.N==0) (bO v) else Lb false (bO v) else Lb false (bO v)) (by kernel_rfl)
 have e:(ByteArray.toList (bq.S v)==ByteArray.toList {data:= #[]})=decide (v.S=bT):=eM _ _
 simp only[e,bO]
 repeat' (refine ag (fun h=> ?_) (fun h=> ?_))
 all_goals (refine cO ?_;grind)
def FW:=fQ (α:=List bq) (q1 (qL .aH)) [.ro] (fun _=>[]) (fun l=>⟨[dO (decide (l.length<=5)&&l.all bO)],[],[]⟩)
def pU(l:(List bq)):Int×Unit->Prop:=fun(i,_)=>0<=i/\i<=l.length/\(l.drop i.toNat).all bO=l.all bO
def pJ(l:(List bq)):Int×Unit->Nat:=fun(i,_)=>l.length-i.toNat
def MT:AX FW:=fun l=>gO [(2,ed [iI 3] (fun _=>pU l) (pJ l))]
def Mw:HH:=hF FW func57 (by kernel_rfl) [Mr] MT fun(l:(List bq)) hp hb=>by
 have sf:l.length<=9223372036854775807:=rr (hb _ m0)
 clear hp hb
 apply @ve _ (let x0:=(l.length:Int);let q0:=decide (l.length<=5)&&List.all l bO;pU l (0,())/\∀(y:Int×PUnit),let q1:=(wrap i64 (y.1+1),());pU l y->bif decide (y.1<x0) then 0<=y.1/\y.1.toNat<l.length/\bif !bO (List.getD l y.1.toNat nK) then Lb false q0 else pU l q1/\pJ l q1<pJ l y else Lb (decide (x0<=5)) q0) (by kernel_rfl)
 dsimp only
 refine⟨⟨by omega,by omega,rfl⟩,?_⟩
 rintro⟨i,⟨⟩⟩ ⟨h1,h2,hR⟩
 simp only
 refine ag (fun hc=> ?_) (fun hc=> ?_)
 ·have hc:=yT hc
  rw[iZ _ _ nK h1 (by omega)] at hR
  rw[wrap_i64 (by omega) (by omega)]
  refine⟨by omega,by omega,ag (fun h=>gj ?_) (fun h=>⟨⟨by omega,by omega,?_⟩,?_⟩)⟩
  ·rw[<-hR];simp at h;simp[h]
  ·rw[<-hR];simp at h;simp[h]
  ·simp only[pJ];omega
 ·have hc:=yF hc
  rw[fN _ (by omega)] at hR
  refine cO ?_
  rw[<-hR];simp;omega
def Mc:=fQ (α:=br) (q1 (qA .cN)) [.ro] (fun _=>[]) (fun f=>⟨[dO (cm f)],[],[]⟩)
def MD:HH:=hF Mc func41 (by kernel_rfl) [Mx,Mw] a0 fun(f:br) hp hb=>by
 have mo:=gM (x:=f) (hb _ m0)
 have li:=mo.1
 have iR:=mo.2
 clear hp hb
 apply @ve _ (bif bP f.Kind then Lb (decide (f.ai.length<=5)&&List.all f.ai bO) (cm f) else Lb false (cm f)) (by kernel_rfl)
 simp only[cm]
 refine ag (fun h=>cO ?_) (fun h=>cO ?_)<;>grind
def F5:=fQ (α:=br) (q1 (qA .cN)) [.ro] (fun _=>[]) (fun f=>⟨[dO (cm f)],[],[]⟩)
def pX(f:br):Int×Unit->Prop:=fun(i,_)=>0<=i/\i<=f.ai.length/\f.ai.length<=5/\bP f.Kind=true/\(f.ai.drop i.toNat).all bO=f.ai.all bO
def pM(f:br):Int×Unit->Nat:=fun(i,_)=>f.ai.length-i.toNat
def MX:AX F5:=fun f=>gO [(4,ed [iI 18] (fun _=>pX f) (pM f))]
def MB:HH:=hF F5 func44 (by kernel_rfl) [Mv,Mu] MX fun(f:br) hp hb=>by
 have mo:=gM (x:=f) (hb _ m0)
 have li:=mo.1
 have iR:=mo.2
 clear hp hb
 apply @ve _ (let x0:=(f.ai.length:Int);bif !bP f.Kind then Lb false (cm f) else bif decide (x0>5) then Lb false (cm f) else pX f (0,())/\∀(y:Int×PUnit),let q0:=(wrap i64 (y.1+1),());pX f y->bif decide (y.1<x0) then 0<=y.1/\y.1.toNat<f.ai.length/\bif !bO (List.getD f.ai y.1.toNat nK) then Lb false (cm f) else pX f q0/\pM f q0<pM f y else Lb true (cm f)) (by kernel_rfl)
 dsimp only
 refine ag (fun h=>cO ?_) (fun h=>ag (fun h'=>cO ?_) (fun h'=>⟨⟨by omega,by omega,by simp at h';omega,by simpa using h,rfl⟩,?_⟩))
 ·simp only[cm];grind
 ·simp only[cm];grind
 rintro⟨i,⟨⟩⟩ ⟨h1,h2,h3,h4,hR⟩
 simp only
 refine ag (fun hc=> ?_) (fun hc=> ?_)
 ·have hc:=yT hc
  rw[iZ _ _ nK h1 (by omega)] at hR
  rw[wrap_i64 (by omega) (by omega)]
  refine⟨by omega,by omega,ag (fun h=>gj ?_) (fun h=>⟨⟨by omega,by omega,by omega,h4,?_⟩,?_⟩)⟩
  ·simp only[cm];rw[<-hR];simp at h;simp[h]
  ·rw[<-hR];simp at h;simp[h]
  ·simp only[pM];omega
 ·have hc:=yF hc
  rw[fN _ (by omega)] at hR
  refine cO ?_
  simp only[cm,<-hR,h4];simp;omega
def allI(n:Nat)(p:Nat->Bool):Bool:=(List.range n).all p
theorem oD{n:Nat}{p:Nat->Bool}(h:∀j,j<n->p j=true):allI n p=true:=by simpa[allI] using h
theorem nu{n:Nat}{p:Nat->Bool}{j:Nat}(h:j<n)(hj:p j=false):allI n p=false:=by
 simp only[allI,List.all_eq_false,iD]
 exact⟨j,h,by simp[hj]⟩
theorem jb{i:Int}{p:Nat->Bool}(h0:0<=i)(h:∀j:Nat,(j:Int)<i->p j=true)(hi:p i.toNat=true):∀j:Nat,(j:Int)<i+1->p j=true:=by
 intro j hj
 by_cases GV:(j:Int)<i
 ·exact h j GV
 ·have:j=i.toNat:=by omega
  subst this;exact hi
def cr(x:ae):Bool:=decide (0<=x.At/\x.At<=1000000000)&&cm x.F
def ct(l:List ae)(i:Nat):Bool:=cr (List.getD l i aC)&&(decide (i=0)||decide ((List.getD l (i-1) aC).At<=(List.getD l i aC).At))
def aI(l:List ae):Bool:=decide (l.length<=30)&&allI l.length (ct l)
def Mb:=fQ (α:=Int) (q1 qI) [.ro] (fun _=>[]) (fun n=>⟨[dO (decide (0<=n/\n<=1000000000))],[],[]⟩)
def MC:HH:=hF Mb func43 (by kernel_rfl) [Gi] a0 fun(n:Int) hp hb=>by
 have Bb:=wO (n:=n) (hb _ m0)
 clear hp hb
 apply @ve _ (let q0:=decide (0<=n/\n<=1000000000);Lb q0 q0) (by kernel_rfl)
 dsimp only
 exact eC _
def Mh:=fQ (α:=ae) (q1 (qA .aj)) [.ro] (fun _=>[]) (fun x=>⟨[dO (cr x)],[],[]⟩)
def Gk:HH:=hF Mh func27 (by kernel_rfl) [MC,MB] a0 fun(x:ae) hp hb=>by
 have mo:=jq (x:=x) (hb _ m0)
 have iQ:=mo.1
 have gr:=mo.2
 clear hp hb
 apply @ve _ (bif decide (0<=x.At/\x.At<=1000000000) then Lb (cm x.F) (cr x) else Lb false (cr x)) (by kernel_rfl)
 simp only[cr]
 refine ag (fun h=>cO ?_) (fun h=>cO ?_)<;>grind
def Mj:=fQ (α:=ae) (q1 (qA .aj)) [.ro] (fun _=>[]) (fun x=>⟨[dO (cr x)],[],[]⟩)
def Gm:HH:=hF Mj func23 (by kernel_rfl) [yn,MD] a0 fun(x:ae) hp hb=>by
 have mo:=jq (x:=x) (hb _ m0)
 have iQ:=mo.1
 have gr:=mo.2
 clear hp hb
 apply @ve _ (bif decide (0<=x.At/\x.At<=1000000000) then Lb (cm x.F) (cr x) else Lb false (cr x)) (by kernel_rfl)
 simp only[cr]
 refine ag (fun h=>cO ?_) (fun h=>cO ?_)<;>grind
def Gb:=fQ (α:=List ae) (q1 (qL .aj)) [.ro] (fun _=>[]) (fun l=>⟨[dO (aI l)],[],[]⟩)
def nB(l:(List ae)):Int×Unit->Prop:=fun(i,_)=>0<=i/\i<=l.length/\l.length<=30/\∀j:Nat,(j:Int)<i->ct l j=true
def lE(l:(List ae)):Int×Unit->Nat:=fun(i,_)=>l.length-i.toNat
def M4:AX Gb:=fun l=>gO [(4,ed [iI 10] (fun _=>nB l) (lE l))]
def Gn:HH:=hF Gb func19 (by kernel_rfl) [Gk] M4 fun(l:(List ae)) hp hb=>by
 have sf:l.length<=9223372036854775807:=rr (hb _ m0)
 clear hp hb
 apply @ve _ (let x0:=(l.length:Int);let q0:=Lb false (aI l);bif decide (x0>30) then q0 else nB l (0,())/\∀(y:Int×PUnit),let x2:=Int.toNat (wrap i64 (y.1-1));let x1:=(List.getD l x2 aC).At;let q1:=(wrap i64 (y.1+1),());nB l y->bif decide (y.1<x0) then 0<=y.1/\y.1.toNat<l.length/\bif !cr (List.getD l y.1.toNat aC) then q0 else bif decide (y.1>0) then 0<=wrap i64 (y.1-1)/\x2<l.length/\bif decide (x1>(List.getD l y.1.toNat aC).At) then q0 else nB l q1/\lE l q1<lE l y else nB l q1/\lE l q1<lE l y else Lb true (aI l)) (by kernel_rfl)
 dsimp only
 refine ag (fun h=>gj ?_) (fun h=>⟨⟨by omega,by omega,by have h:=yF h;omega,by intro j hj;omega⟩,?_⟩)
 ·have h:=yT h;simp only[aI];rw[decide_eq_false (by omega)];rfl
 rintro⟨i,⟨⟩⟩ ⟨h1,h2,h3,hR⟩
 simp only
 refine ag (fun hc=> ?_) (fun hc=> ?_)
 ·have hc:=yT hc
  have hN:ct l i.toNat=false->aI l=false:=fun h=>by
   have hf:allI l.length (ct l)=false:=nu (j:=i.toNat) (by omega) h
   simp only[aI,hf];simp
  simp(disch:=omega) only[wrap_i64]
  have e1:(i-1).toNat=i.toNat-1:=by omega
  simp only[e1]
  refine⟨by omega,by omega,ag (fun h=>gj (hN ?_)) (fun h=>ag (fun h'=>⟨by have:=yT h';omega,by have:=yT h';omega,ag (fun ix=>gj (hN ?_)) (fun ix=>⟨⟨by omega,by omega,h3,jb h1 hR ?_⟩,?_⟩)⟩) (fun h'=>⟨⟨by omega,by omega,h3,jb h1 hR ?_⟩,?_⟩))⟩
  all_goals (first|(simp only[lE];omega)|(simp only[ct];grind))
 ·have hc:=yF hc
  have hA:allI l.length (ct l)=true:=oD fun j hj=>hR j (by omega)
  refine cO ?_
  simp only[aI,hA];grind
def F_:=fQ (α:=List ae) (q1 (qL .aj)) [.ro] (fun _=>[]) (fun l=>⟨[dO (aI l)],[],[]⟩)
def nA(l:(List ae)):Int×Unit->Prop:=fun(i,_)=>0<=i/\i<=l.length/\∀j:Nat,(j:Int)<i->ct l j=true
def lD(l:(List ae)):Int×Unit->Nat:=fun(i,_)=>l.length-i.toNat
def M2:AX F_:=fun l=>gO [(2,ed [iI 3] (fun _=>nA l) (lD l))]
def MK:HH:=hF F_ func22 (by kernel_rfl) [Gm] M2 fun(l:(List ae)) hp hb=>by
 have sf:l.length<=9223372036854775807:=rr (hb _ m0)
 clear hp hb
 apply @ve _ (let x0:=(l.length:Int);nA l (0,())/\∀(y:Int×PUnit),let x2:=Int.toNat (wrap i64 (y.1-1));let x1:=(List.getD l x2 aC).At;let q0:=(wrap i64 (y.1+1),());nA l y->bif decide (y.1<x0) then 0<=y.1/\y.1.toNat<l.length/\bif !cr (List.getD l y.1.toNat aC) then Lb false (aI l) else bif decide (y.1>0) then 0<=wrap i64 (y.1-1)/\x2<l.length/\0<=y.1/\y.1.toNat<l.length/\bif decide (x1>(List.getD l y.1.toNat aC).At) then Lb false (aI l) else nA l q0/\lD l q0<lD l y else nA l q0/\lD l q0<lD l y else Lb (decide (x0<=30)) (aI l)) (by kernel_rfl)
 dsimp only
 refine⟨⟨by omega,by omega,by intro j hj;omega⟩,?_⟩
 rintro⟨i,⟨⟩⟩ ⟨h1,h2,hR⟩
 simp only
 refine ag (fun hc=> ?_) (fun hc=> ?_)
 ·have hc:=yT hc
  have hN:ct l i.toNat=false->aI l=false:=fun h=>by
   have hf:allI l.length (ct l)=false:=nu (j:=i.toNat) (by omega) h
   simp only[aI,hf];simp
  simp(disch:=omega) only[wrap_i64]
  have e1:(i-1).toNat=i.toNat-1:=by omega
  simp only[e1]
  refine⟨by omega,by omega,ag (fun h=>gj (hN ?_)) (fun h=>ag (fun h'=>⟨by have:=yT h';omega,by have:=yT h';omega,by omega,by omega,ag (fun ix=>gj (hN ?_)) (fun ix=>⟨⟨by omega,by omega,jb h1 hR ?_⟩,?_⟩)⟩) (fun h'=>⟨⟨by omega,by omega,jb h1 hR ?_⟩,?_⟩))⟩
  all_goals (first|(simp only[lD];omega)|(simp only[ct];grind))
 ·have hc:=yF hc
  have hA:allI l.length (ct l)=true:=oD fun j hj=>hR j (by omega)
  refine cO ?_
  simp only[aI,hA];grind
def wq:=fQ (α:=List bq) (q1 (qL .aH)) [.ro] (fun l=>[l.length<=4294967296]) (fun l=>⟨[dL .aH l],[],[]⟩)
def BV:AX wq:=fun l=>gO []
def BT:List (FuncId×eg UU):=[]
theorem LR:sW EE BT f47 wq BV [] .aH [] true=(Lf [VL .aH []] [VL .aH []]):=by kernel_rfl
theorem LQ:sW EE BT f47 wq BV [] .aH [] true:=by
 rw[LR]
 exact eC _
theorem LS:ef EE (47,wq):=by
 refine tS tf func47 wq (by kernel_rfl) rfl .aH (fun x=>x) (fun _=>rfl) BT all_nil BV (fun(l:(List bq)) hp hb=> ?_)
 have sf:l.length<=9223372036854775807:=rr (hb _ m0)
 have dC:l.length<=4294967296:=hp _ m0
 clear hp hb
 refine⟨?_,fun h0=> ?_⟩
 rotate_left
 ·subst h0;exact LQ
 apply @ve _ (0+l.length<=4294967296/\Lf [VL .aH ([]++l)] [VL .aH l]) (by kernel_rfl)
 exact⟨by simp;omega,eC _⟩
def MA:HH:=⟨_,LS⟩
def Mi:=fQ (α:=br) (q1 (qA .cN)) [.ro] (fun f=>[f.ai.length<=4294967296]) (fun f=>⟨[dA .cN f],[],[]⟩)
def Gl:HH:=hF Mi func24 (by kernel_rfl) [] a0 fun(f:br) hp hb=>by
 have mo:=gM (x:=f) (hb _ m0)
 have li:=mo.1
 have iR:=mo.2
 have dC:f.ai.length<=4294967296:=hp _ m0
 clear hp hb
 apply @ve _ (0+f.ai.length<=4294967296/\Lf [DV.agg [CS f.Kind,CL .aH ([]++f.ai)]] [DV.agg [CS f.Kind,CL .aH f.ai]]) (by kernel_rfl)
 exact⟨by simp;omega,eC _⟩
def Mf:=fQ (α:=br) (q1 (qA .cN)) [.ro] (fun f=>[f.ai.length<=4294967296]) (fun f=>⟨[dA .cN f],[],[]⟩)
def Gj:HH:=hF Mf func29 (by kernel_rfl) [MA] a0 fun(f:br) hp hb=>by
 have mo:=gM (x:=f) (hb _ m0)
 have li:=mo.1
 have iR:=mo.2
 have dC:f.ai.length<=4294967296:=hp _ m0
 clear hp hb
 apply @ve _ (f.ai.length<=4294967296/\Lf [DV.agg [CS f.Kind,CL .aH f.ai]] [DV.agg [CS f.Kind,CL .aH f.ai]]) (by kernel_rfl)
 exact⟨dC,eC _⟩
def Ga:=fQ (α:=List ae) (q1 (qL .aj)) [.ro] (fun l=>[aR l<=4294967296]) (fun l=>⟨[dL .aj l],[],[]⟩)
def p5(l:(List ae)):List ae×Int×Unit->Prop:=fun(out,i,_)=>0<=i/\i<=l.length/\out=l.take i.toNat
def pQ(l:(List ae)):List ae×Int×Unit->Nat:=fun(out,i,_)=>l.length-i.toNat
def M3:AX Ga:=fun l=>gO [(3,ed [iO 3 .aj,iI 4] (fun _=>p5 l) (pQ l))]
def ML:HH:=hF Ga func21 (by kernel_rfl) [Gl] M3 fun(l:(List ae)) hp hb=>by
 have sf:l.length<=9223372036854775807:=rr (hb _ m0)
 have dC:aR l<=4294967296:=hp _ m0
 clear hp hb
 apply @ve _ (p5 l ([],0,())/\∀(y:List ae×Int×PUnit),let x2:=y.2.1.toNat;let x1:=List.getD l x2 aC;let x0:=[x1];let q0:=(y.1++x0,wrap i64 (y.2.1+1),());p5 l y->bif decide (y.2.1<(l.length:Int)) then 0<=y.2.1/\x2<l.length/\0<=y.2.1/\x2<l.length/\x1.F.ai.length<=4294967296/\y.1.length+x0.length<=4294967296/\p5 l q0/\pQ l q0<pQ l y else Lf [VL .aj y.1] [VL .aj l]) (by kernel_rfl)
 dsimp only
 refine⟨⟨by omega,by omega,by simp⟩,?_⟩
 rintro⟨out,i,⟨⟩⟩ ⟨h1,h2,rfl⟩
 simp only
 refine ag (fun hc=> ?_) (fun hc=> ?_)
 ·have hc:=yT hc
  have hs:=lK bf l aC h1 hc
  simp only[aR] at dC
  have hx:=hs
  simp only[bf,cL,dx] at hx
  rw[kX l aC h1 hc,wrap_i64 (by omega) (by omega)]
  repeat' (first|refine And.intro (by omega) ?_|fail)
  refine⟨by simp;omega,⟨by omega,by omega,rfl⟩,by simp only[pQ];omega⟩
 ·have hc:=yF hc
  rw[qq l (by omega)]
  exact eC _
def F9:=fQ (α:=List ae) (q1 (qL .aj)) [.ro] (fun l=>[aR l<=4294967296]) (fun l=>⟨[dL .aj l],[],[]⟩)
def pZ(l:(List ae)):List ae×Int×Unit->Prop:=fun(out,i,_)=>0<=i/\i<=l.length/\out=l.take i.toNat
def pP(l:(List ae)):List ae×Int×Unit->Nat:=fun(out,i,_)=>l.length-i.toNat
def M1:AX F9:=fun l=>gO [(3,ed [iO 3 .aj,iI 8] (fun _=>pZ l) (pP l))]
def MJ:HH:=hF F9 func26 (by kernel_rfl) [Gj] M1 fun(l:(List ae)) hp hb=>by
 have sf:l.length<=9223372036854775807:=rr (hb _ m0)
 have dC:aR l<=4294967296:=hp _ m0
 clear hp hb
 apply @ve _ (pZ l ([],0,())/\∀(y:List ae×Int×PUnit),let x2:=y.2.1.toNat;let x1:=List.getD l x2 aC;let x0:=[x1];let q0:=(y.1++x0,wrap i64 (y.2.1+1),());pZ l y->bif decide (y.2.1<(l.length:Int)) then 0<=y.2.1/\x2<l.length/\x1.F.ai.length<=4294967296/\y.1.length+x0.length<=4294967296/\pZ l q0/\pP l q0<pP l y else Lf [VL .aj y.1] [VL .aj l]) (by kernel_rfl)
 dsimp only
 refine⟨⟨by omega,by omega,by simp⟩,?_⟩
 rintro⟨out,i,⟨⟩⟩ ⟨h1,h2,rfl⟩
 simp only
 refine ag (fun hc=> ?_) (fun hc=> ?_)
 ·have hc:=yT hc
  have hs:=lK bf l aC h1 hc
  simp only[aR] at dC
  have hx:=hs
  simp only[bf,cL,dx] at hx
  rw[kX l aC h1 hc,wrap_i64 (by omega) (by omega)]
  repeat' (first|refine And.intro (by omega) ?_|fail)
  refine⟨by simp;omega,⟨by omega,by omega,rfl⟩,by simp only[pP];omega⟩
 ·have hc:=yF hc
  rw[qq l (by omega)]
  exact eC _
def cp(l:List ae)(a:Int):Nat->Nat
 |0=>0
 |n+1=>if(List.getD l n aC).At>a then cp l a n else n+1
theorem fv(l:List ae)(a:Int):∀n,cp l a n<=n
 |0=>nC _
 |n+1=>by have:=fv l a n;simp only[cp];split<;>omega
def bG(l:List ae)(x:ae):Bool:=aI l&&cr x&&decide (l.length<30)
def cf(l:List ae)(x:ae):List ae:=if bG l x then l.take (cp l x.At l.length)++x::l.drop (cp l x.At l.length) else l
def ev(l:List ae)(k:Nat)(d:ae):List ae:=l.take k++d::l.drop k
theorem tR(l:List ae){k:Nat}(h:k<=l.length)(d:ae):(ev l k d).length=l.length+1:=by
 simp[ev];omega
theorem vy(l:List ae){k j:Nat}(h:k<=l.length)(hj:j<k)(d:ae):List.getD (ev l k d) j aC=List.getD l j aC:=by
 simp only[ev,cB]
 rw[j7 (by simp;omega),fg,if_pos hj]
theorem oe(l:List ae){k:Nat}(h:k<=l.length)(d x:ae):(ev l k d).set k x=ev l k x:=by
 unfold ev
 rw[List.set_append_right _ _ (by simp;omega)]
 have:k-(l.take k).length=0:=by simp;omega
 rw[this];rfl
theorem qT(l:List ae){k:Nat}(h0:0<k)(h:k<=l.length):ev l k (List.getD l (k-1) aC)=ev l (k-1) (List.getD l (k-1) aC):=by
 unfold ev
 obtain⟨n,rfl⟩:∃n,k=n+1:=⟨k-1,by omega⟩
 have hn:n<l.length:=by omega
 simp only[Nat.add_sub_cancel]
 have e:List.getD l n aC=l[n]:=by rw[cB,cF hn];rfl
 rw[e,Na hn,kP,<-Gw hn]
 rfl
theorem Ct{a a':List ae}{b b':Bool}(h1:a=a')(h2:b=b'):Lf [.one (.sl .aj a),.one (.lit (.bool b))] [.one (.sl .aj a'),.one (.lit (.bool b'))]:=by
 subst h1 h2;exact eC _
def NL:=fQ (α:=(List ae)×ae) (qC (qL .aj) (q1 (qA .aj))) [.ro,.ro] (fun(l,x)=>[aR l<=4294967296,bf x<=4294967296]) (fun(l,x)=>⟨[dL .aj (cf l x),dO (bG l x)],[],[]⟩)
def ta(l:(List ae))(x:ae):(List ae×(Nat->Bool))×Int×T0×Unit->Prop:=fun((xs,dd),k,b,_)=>0<=k/\k<=l.length/\(∃d,xs=ev l k.toNat d)/\(∀j,j<l.length+1->j≠k.toNat->dd j=false)/\cp l x.At k.toNat=cp l x.At l.length/\b=(x.At,x.F.Kind,x.F.ai,())
def s_(l:(List ae))(x:ae):(List ae×(Nat->Bool))×Int×T0×Unit->Nat:=fun((xs,dd),k,b,_)=>k.toNat
def Py:AX NL:=fun(l,x)=>gO [(7,ed [.slot 6 (6,1024) (.part .aj),iI 7,.box 3 (3,1024) [.lit (.int .i64),.lit .str,.own .aH true]] (fun _=>ta l x) (s_ l x))]
def NM:HH:=hF NL func7 (by kernel_rfl) [ML,MK,Gm,Gl] Py fun x hp hb=>by
 obtain⟨l,x⟩:=x
 have sf:l.length<=9223372036854775807:=rr (hb _ m0)
 have mn:=jq (x:=x) (hb _ m1)
 have iQ:=mn.1
 have gr:=mn.2
 have dC:aR l<=4294967296:=hp _ m0
 have mZ:bf x<=4294967296:=hp _ m1
 clear hp hb
 apply @ve _ (let q0:=Lf [VL .aj l,VB false] [VL .aj (cf l x),VB (bG l x)];aR l<=4294967296/\bif !aI l then q0 else bif !cr x then q0 else bif decide ((l.length:Int)≥30) then q0 else x.F.ai.length<=4294967296/\l.length+List.length (List.replicate 1 aC)<=4294967296/\ta l x ((l++List.replicate 1 aC,fun(i:Nat)=>Nat.ble (l.length) i),(l.length:Int),(x.At,x.F.Kind,x.F.ai,()),())/\∀(y:(List ae×(Nat->Bool))×Int×T4×PUnit),let x1:=y.2.1.toNat;let x3:=wrap i64 (y.2.1-1);let x6:=y.fst.1.length;let x0:=List.set y.fst.1 x1 {At:=y.2.2.1.1,F:={Kind:=y.2.2.1.2.1,ai:=y.2.2.1.2.2.1:br}:ae};let x2:=x3.toNat;let x5:=List.getD y.fst.1 x2 aC;let x4:=x5.At;let q1:=Lf [VL .aj x0,VB true] [VL .aj (cf l x),VB (bG l x)];let q2:=(y.2.2.1.1,y.2.2.1.2.1,y.2.2.1.2.2.1,());ta l x y->bif decide (y.2.1>0) then 0<=x3/\x2<x6/\x2<x6/\y.fst.2 x2=false/\bif decide (x4>y.2.2.1.1) then 0<=x3/\x2<x6/\x2<x6/\y.fst.2 x2=false/\0<=y.2.1/\x1<x6/\x1<x6/\ta l x ((List.set y.fst.1 x1 x5,fun(j:Nat)=> !Nat.beq j x1&&(Nat.beq j x2||y.fst.2 j)),x3,q2,())/\s_ l x ((List.set y.fst.1 x1 x5,fun(j:Nat)=> !Nat.beq j x1&&(Nat.beq j x2||y.fst.2 j)),x3,q2,())<s_ l x y else 0<=y.2.1/\x1<x6/\x1<x6/\(∀(i:Nat),i<x0.length->(!Nat.beq i x1&&y.fst.2 i)=false)/\q1 else 0<=y.2.1/\x1<x6/\x1<x6/\(∀(i:Nat),i<x0.length->(!Nat.beq i x1&&y.fst.2 i)=false)/\q1) (by kernel_rfl)
 dsimp only
 refine⟨dC,ag (fun h=> ?_) (fun h=>ag (fun h'=> ?_) (fun h'=>ag (fun ix=> ?_) (fun ix=> ?_)))⟩
 ·have hf:bG l x=false:=by simp only[bG];simp at h;simp[h]
  exact Ct (by rw[cf,hf];rfl) hf.symm
 ·have hf:bG l x=false:=by simp only[bG];simp at h';simp[h']
  exact Ct (by rw[cf,hf];rfl) hf.symm
 ·have hf:bG l x=false:=by simp only[bG];have ix:=yT ix;rw[decide_eq_false (by omega)];simp
  exact Ct (by rw[cf,hf];rfl) hf.symm
 have h3:=yF ix
 have ho:bG l x=true:=by simp only[bG];simp at h h';rw[h,h',decide_eq_true (by omega)];rfl
 have hT:cf l x=ev l (cp l x.At l.length) x:=by rw[cf,if_pos ho];rfl
 refine⟨?_,by simp;omega,⟨by omega,by omega,⟨aC,by simp[ev]⟩,fun j hj ir=> ?_,rfl,rfl⟩,?_⟩
 ·simp only[bf,cL,dx] at mZ;omega
 ·show Nat.ble l.length j=false
  rw[<-n7,wC];omega
 rintro⟨⟨xs,dd⟩,k,⟨bA,bK,bF,⟨⟩⟩,⟨⟩⟩ ⟨h1,h2,⟨d,rfl⟩,hd,pe,hb⟩
 cases hb
 simp only
 have hlen:=tR l (k:=k.toNat) (by omega) d
 have fin:cp l x.At k.toNat=k.toNat->0<=k/\k.toNat<(ev l k.toNat d).length/\k.toNat<(ev l k.toNat d).length/\
   (∀i,i<((ev l k.toNat d).set k.toNat x).length->(!Nat.beq i k.toNat&&dd i)=false)/\
   Lf [.one (.sl .aj ((ev l k.toNat d).set k.toNat x)),.one (.lit (.bool true))] [.one (.sl .aj (cf l x)),.one (.lit (.bool (bG l x)))]:=by
  intro hk
  refine⟨h1,by rw[hlen];omega,by rw[hlen];omega,fun i hi=> ?_,Ct ?_ ho.symm⟩
  ·rw[th,hlen] at hi
   by_cases Ch:i=k.toNat
   ·subst Ch;simp
   ·rw[hd i hi Ch];simp
  ·rw[oe l (by omega),hT,<-pe,hk]
 refine ag (fun hc=> ?_) (fun hc=> ?_)
 ·have hc:=yT hc
  have hw:IntKind.i64.wrap (k-1)=k-1:=wrap_i64 (by omega) (by omega)
  have ek:(k-1).toNat=k.toNat-1:=by omega
  obtain⟨n,hn⟩:∃n,k.toNat=n+1:=⟨k.toNat-1,by omega⟩
  have KL:=vy l (k:=k.toNat) (j:=k.toNat-1) (by omega) (by omega) d
  have Nw:=hd (k.toNat-1) (by omega) (by omega)
  rw[hw,ek,KL]
  refine⟨by omega,by rw[hlen];omega,by rw[hlen];omega,Nw,ag (fun hg=> ?_) (fun hg=> ?_)⟩
  ·have hg:=yT hg
   refine⟨by omega,by rw[hlen];omega,by rw[hlen];omega,Nw,by omega,by rw[hlen];omega,by rw[hlen];omega,⟨by omega,by omega,⟨List.getD l (k.toNat-1) aC,?_⟩,fun j hj ir=> ?_,?_,rfl⟩,by simp only[s_];omega⟩
   ·rw[oe l (by omega),ek]
    exact qT l (by omega) (by omega)
   ·show(!Nat.beq j k.toNat&&(Nat.beq j (k.toNat-1)||dd j))=false
    rw[ek] at ir
    have e1:Nat.beq j (k.toNat-1)=false:=by rw[<-n7,uC];exact ir
    by_cases Nr:j=k.toNat
    ·subst Nr;simp
    ·rw[e1,hd j hj Nr];simp
   ·rw[<-pe,ek,hn]
    rw[hn] at hg
    simp only[Nat.add_sub_cancel] at hg⊢
    rw[cp,if_pos hg]
  ·have hg:=yF hg
   refine fin ?_
   rw[hn] at hg⊢
   simp only[Nat.add_sub_cancel] at hg
   rw[cp,if_neg hg]
 ·have hc:=yF hc
  refine fin ?_
  have:k.toNat=0:=by omega
  rw[this,cp]
structure av where
 b:List Int
 i:Int
 h:Int
def dU (c : av) : DV UU := .box [.sl .byte c.b, .lit (.int .i64 c.i), .lit (.int .i64 c.h)]
def oU : DV UU -> Option av := fun | .box [.sl .byte b, .lit (.int .i64 i), .lit (.int .i64 h)] => some ⟨b, i, h⟩ | _ => none
theorem lU (d : DV UU) (x : av) (h : oU d = some x) : dU x = d := by
  unfold oU at h
  split at h <;> cases h
  rfl
theorem s7 {x : av} (h : gQ (dU x)) : x.b.length <= 9223372036854775807 := Bd.len (U := UU) (τ := .byte) (xs := x.b) (h _ List.mem_cons_self)
def qU:Q1 av:=⟨dU,oU,lU⟩
def xJ(h:Int)(x:Int):Int:=IntKind.wrap .i64 (((BitVec.ofInt (IntKind.bits .i64) (IntKind.wrap .i64 (IntKind.wrap .i64 (IntKind.wrap .i64 (h*137)+IntKind.wrap .i64 x)+11))&&&BitVec.ofInt (IntKind.bits .i64) 1073741823).toNat:Nat):Int)
def C5(code:List Int):Int:=(code.take 4000).foldl xJ (354354+code.length)
def bE(code:List Int):av:=⟨code,0,C5 code⟩
def qK(h:Int):Int:=IntKind.wrap .i64 (IntKind.wrap .i64 (h*6364136223846793005)+1442695040888963407)
def lB(x:Int):Int:=IntKind.wrap .i64 (((BitVec.ofInt (IntKind.bits .i64) x&&&BitVec.ofInt (IntKind.bits .i64) 255).toNat:Nat):Int)
def xI(h:Int):Int:=lB (IntKind.wrap .i64 (((BitVec.ofInt (IntKind.bits .i64) (Int.fdiv h ((2:Int)^min (Int.toNat 33) (IntKind.bits .i64)))^^^BitVec.ofInt (IntKind.bits .i64) (Int.fdiv h ((2:Int)^min (Int.toNat 47) (IntKind.bits .i64)))).toNat:Nat):Int))
def ca(c:av):Int:=if c.i<c.b.length then lB (IntKind.wrap .i64 (xI (qK c.h)+IntKind.wrap .i64 (List.getD c.b c.i.toNat 0))) else xI (qK c.h)
def aQ(c:av):av:=⟨c.b,if c.i<c.b.length then c.i+1 else c.i,qK c.h⟩
theorem oB(x:Int):0<=lB x/\lB x<=255:=by
 unfold lB
 have h:(BitVec.ofInt 64 x&&&BitVec.ofInt 64 255).toNat<=255:=by
  rw[BitVec.toNat_and]
  exact tg Nat.and_le_right (by decide)
 have h':(BitVec.ofInt (IntKind.bits .i64) x&&&BitVec.ofInt (IntKind.bits .i64) 255).toNat<=255:=h
 rw[wrap_i64 (by omega) (by omega)]
 omega
theorem gK(c:av):0<=ca c/\ca c<=255:=by
 unfold ca
 split
 ·exact oB _
 ·exact oB _
theorem ib{c:av}(h:0<=c.i):0<=(aQ c).i:=by
 simp only[aQ];split<;>omega
def aq(c:av)(n:Int):Int:=if n<=0 then 0 else if n<=256 then Int.tmod (ca c) n else Int.tmod (ca c*65536+ca (aQ c)*256+ca (aQ (aQ c))) n
def af(c:av)(n:Int):av:=if n<=0 then c else if n<=256 then aQ c else aQ (aQ (aQ c))
theorem wk{c:av}(h:0<=c.i)(n:Int):0<=(af c n).i:=by
 unfold af
 split
 ·exact h
 ·split
  ·exact ib h
  ·exact ib (ib (ib h))
theorem bJ{c:av}{n:Int}(h:0<n):0<=aq c n/\aq c n<n:=by
 have h1:=gK c;have h2:=gK (aQ c);have h3:=gK (aQ (aQ c))
 unfold aq
 rw[if_neg (by omega)]
 split
 ·rw[Nb (by omega)];exact⟨Int.emod_nonneg _ (by omega),Int.emod_lt_of_pos _ h⟩
 ·rw[Nb (by omega)];exact⟨Int.emod_nonneg _ (by omega),Int.emod_lt_of_pos _ h⟩
def F8:=fQ (α:=List Int) (q1 (qL .byte)) [.ro] (fun code=>[code.length<=4294967296]) (fun code=>⟨[.box [.sl .byte ((bE code)).b,.lit (.int .i64 ((bE code)).i),.lit (.int .i64 ((bE code)).h)]],[],[]⟩)
def pY(code:(List Int)):Int×Int×Unit->Prop:=fun(h,i,_)=>0<=i/\i<=code.length/\i<=4000/\h=(code.take i.toNat).foldl xJ (354354+code.length)
def pO(code:(List Int)):Int×Int×Unit->Nat:=fun(h,i,_)=>code.length-i.toNat
def M0:AX F8:=fun code=>gO [(3,ed [iI 3,iI 4] (fun _=>pY code) (pO code))]
def MH:HH:=hF F8 func35 (by kernel_rfl) [] M0 fun(code:(List Int)) hp hb=>by
 have mw:code.length<=9223372036854775807:=rr (hb _ m0)
 have dC:code.length<=4294967296:=hp _ m0
 clear hp hb
 apply @ve _ (let q0:=IntKind.bits IntKind.i64;let q1:=bE code;pY code (wrap i64 (354354+(code.length:Int)),0,())/\∀(y:Int×Int×PUnit),let x0:=y.2.1.toNat;let q2:=(wrap i64 (↑(BitVec.toNat (BitVec.ofInt q0 (wrap i64 (wrap i64 (wrap i64 (y.1*137)+wrap i64 (List.getD code x0 0))+11))&&&BitVec.ofInt q0 1073741823)):Int),wrap i64 (y.2.1+1),());let q3:=Lf [DV.box [CL .byte code,CI 0,CI y.1]] [DV.box [CL .byte q1.b,CI (q1.i),CI (q1.h)]];pY code y->bif decide (y.2.1<(code.length:Int)) then bif decide (y.2.1<4000) then 0<=y.2.1/\x0<code.length/\pY code q2/\pO code q2<pO code y else q3 else q3) (by kernel_rfl)
 dsimp only
 refine⟨⟨by omega,by omega,by omega,by rw[wrap_i64 (by omega) (by omega)];rfl⟩,?_⟩
 rintro⟨h,i,⟨⟩⟩ ⟨h1,h2,h3,rfl⟩
 simp only
 have hE:(i=code.length\/i=4000)->(code.take i.toNat).foldl xJ (354354+code.length)=(bE code).h:=by
  intro hh
  show _=(code.take 4000).foldl xJ (354354+code.length)
  rcases hh with hh|hh
  ·rw[zt (by omega),zt (by omega)]
  ·rw[hh];rfl
 refine ag (fun hc=>ag (fun hd=> ?_) (fun hd=> ?_)) (fun hc=> ?_)
 ·have hc:=yT hc;have hd:=yT hd
  rw[wrap_i64 (n:=i+1) (by omega) (by omega)]
  refine⟨h1,by omega,⟨by omega,by omega,by omega,?_⟩,by simp only[pO];omega⟩
  rw[<-kX code 0 h1 (by omega),List.foldl_append]
  rfl
 ·have hc:=yT hc;have hd:=yF hd
  rw[hE (by omega)];exact eC _
 ·have hc:=yF hc
  rw[hE (by omega)];exact eC _
def L4:=fQ (α:=av) (q1 qU) [.box false] (fun c=>[0<=c.i,c.b.length<=4294967296]) (fun c=>⟨[dI (ca c)],[],[dU (aQ c)]⟩)
def Mt:HH:=hF L4 func65 (by kernel_rfl) [] a0 fun(c:av) hp hb=>by
 have eO:=s7 (x:=c) (hb _ m0)
 have dC:0<=c.i:=hp _ m0
 have mZ:c.b.length<=4294967296:=hp _ m1
 clear hp hb
 apply @ve _ (let x1:=wrap i64 (wrap i64 (c.h*6364136223846793005)+1442695040888963407);let x0:=wrap i64 (↑(BitVec.toNat (BitVec.ofInt (IntKind.bits IntKind.i64) (wrap i64 (↑(BitVec.toNat (BitVec.ofInt (IntKind.bits IntKind.i64) (Int.fdiv x1 (2^min (Int.toNat 33) (IntKind.bits IntKind.i64)))^^^BitVec.ofInt (IntKind.bits IntKind.i64) (Int.fdiv x1 (2^min (Int.toNat 47) (IntKind.bits IntKind.i64))))):Int))&&&BitVec.ofInt (IntKind.bits IntKind.i64) 255)):Int);(0:Int)<=(33:Int)/\(0:Int)<=(47:Int)/\bif decide (c.i<(c.b.length:Int)) then 0<=c.i/\c.i.toNat<c.b.length/\(0:Nat)=(0:Nat)/\aY [VI (wrap i64 (↑(BitVec.toNat (BitVec.ofInt (IntKind.bits IntKind.i64) (wrap i64 (x0+wrap i64 (List.getD c.b c.i.toNat 0)))&&&BitVec.ofInt (IntKind.bits IntKind.i64) 255)):Int))]=aY [VI (ca c)]/\aY [DV.box [CL .byte c.b,CI (wrap i64 (c.i+1)),CI x1]]=aY [DV.box [CL .byte (aQ c).b,CI ((aQ c).i),CI ((aQ c).h)]] else(0:Nat)=(0:Nat)/\aY [VI x0]=aY [VI (ca c)]/\aY [DV.box [CL .byte c.b,CI c.i,CI x1]]=aY [DV.box [CL .byte (aQ c).b,CI ((aQ c).i),CI ((aQ c).h)]]) (by kernel_rfl)
 dsimp only
 refine⟨by omega,by omega,ag (fun h=> ?_) (fun h=> ?_)⟩
 ·have h:=yT h
  have e1:ca c=lB (IntKind.wrap .i64 (xI (qK c.h)+IntKind.wrap .i64 (List.getD c.b c.i.toNat 0))):=if_pos h
  have e2:(aQ c).i=c.i+1:=if_pos h
  rw[e1,e2,wrap_i64 (n:=c.i+1) (by omega) (by omega)]
  exact⟨dC,by omega,rfl,rfl,rfl⟩
 ·have h:=yF h
  have e1:ca c=xI (qK c.h):=if_neg h
  have e2:(aQ c).i=c.i:=if_neg h
  rw[e1,e2]
  exact⟨rfl,rfl,rfl⟩
def L9:=fQ (α:=av×Int) (qC qU (q1 qI)) [.box false,.ro] (fun(c,n)=>[0<=c.i,c.b.length<=4294967296]) (fun(c,n)=>⟨[dI (aq c n)],[],[dU (af c n)]⟩)
def nY:HH:=hF L9 func52 (by kernel_rfl) [Mt] a0 fun x hp hb=>by
 obtain⟨c,n⟩:=x
 have eO:=s7 (x:=c) (hb _ m0)
 have Bb:=wO (n:=n) (hb _ m1)
 have dC:0<=c.i:=hp _ m0
 have mZ:c.b.length<=4294967296:=hp _ m1
 clear hp hb
 apply @ve _ (let q0:=af c n;let q1:=aQ (aQ c);bif decide (n<=0) then(0:Nat)=(0:Nat)/\aY [VI 0]=aY [VI (aq c n)]/\aY [DV.box [CL .byte c.b,CI c.i,CI c.h]]=aY [DV.box [CL .byte q0.b,CI (q0.i),CI (q0.h)]] else bif decide (n<=256) then 0<=c.i/\c.b.length<=4294967296/\n≠0/\(0:Nat)=(0:Nat)/\aY [VI (Int.tmod (ca c) n)]=aY [VI (aq c n)]/\aY [DV.box [CL .byte (aQ c).b,CI ((aQ c).i),CI ((aQ c).h)]]=aY [DV.box [CL .byte q0.b,CI (q0.i),CI (q0.h)]] else 0<=c.i/\c.b.length<=4294967296/\0<=(aQ c).i/\List.length (aQ c).b<=4294967296/\0<=q1.i/\List.length q1.b<=4294967296/\n≠0/\(0:Nat)=(0:Nat)/\aY [VI (Int.tmod (wrap i64 (wrap i64 (wrap i64 (ca c*65536)+wrap i64 (ca (aQ c)*256))+ca q1)) n)]=aY [VI (aq c n)]/\aY [DV.box [CL .byte (aQ q1).b,CI ((aQ q1).i),CI ((aQ q1).h)]]=aY [DV.box [CL .byte q0.b,CI (q0.i),CI (q0.h)]]) (by kernel_rfl)
 dsimp only
 have b1:=gK c;have b2:=gK (aQ c);have b3:=gK (aQ (aQ c))
 refine ag (fun h=> ?_) (fun h=>ag (fun h2=> ?_) (fun h2=> ?_))
 ·have h:=yT h
  have e1:aq c n=0:=if_pos h
  have e2:af c n=c:=if_pos h
  rw[e1,e2];exact⟨rfl,rfl,rfl⟩
 ·have h:=yF h;have h2:=yT h2
  have e1:aq c n=Int.tmod (ca c) n:=by rw[aq,if_neg h,if_pos h2]
  have e2:af c n=aQ c:=by rw[af,if_neg h,if_pos h2]
  rw[e1,e2];exact⟨dC,mZ,by omega,rfl,rfl,rfl⟩
 ·have h:=yF h;have h2:=yF h2
  have e1:aq c n=Int.tmod (ca c*65536+ca (aQ c)*256+ca (aQ (aQ c))) n:=by rw[aq,if_neg h,if_neg h2]
  have e2:af c n=aQ (aQ (aQ c)):=by rw[af,if_neg h,if_neg h2]
  have w1:IntKind.wrap .i64 (ca c*65536)=ca c*65536:=wrap_i64 (by omega) (by omega)
  have w2:IntKind.wrap .i64 (ca (aQ c)*256)=ca (aQ c)*256:=wrap_i64 (by omega) (by omega)
  rw[w1,w2,e1,e2,wrap_i64 (n:=ca c*65536+ca (aQ c)*256) (by omega) (by omega),wrap_i64 (n:=ca c*65536+ca (aQ c)*256+ca (aQ (aQ c))) (by omega) (by omega)]
  exact⟨dC,mZ,ib dC,mZ,ib (ib dC),mZ,by omega,rfl,rfl,rfl⟩
def L8:=fQ (α:=av×(List Int)) (qC qU (q1 (qL .int))) [.box false,.ro] (fun(c,list)=>[0<=c.i,c.b.length<=4294967296,1<=list.length]) (fun(c,list)=>⟨[dI (List.getD list (aq c list.length).toNat 0)],[],[dU (af c list.length)]⟩)
def yl:HH:=hF L8 func53 (by kernel_rfl) [nY] a0 fun x hp hb=>by
 obtain⟨c,list⟩:=x
 have eO:=s7 (x:=c) (hb _ m0)
 have xU:list.length<=9223372036854775807:=rr (hb _ m1)
 have dC:0<=c.i:=hp _ m0
 have mZ:c.b.length<=4294967296:=hp _ m1
 have GR:1<=list.length:=hp _ m2
 clear hp hb
 apply @ve _ (let x0:=af c (list.length:Int);let q0:=List.getD list (Int.toNat (aq c (list.length:Int))) 0;0<=c.i/\c.b.length<=4294967296/\0<=aq c (list.length:Int)/\Int.toNat (aq c (list.length:Int))<list.length/\(0:Nat)=(0:Nat)/\aY [VI q0]=aY [VI q0]/\aY [DV.box [CL .byte x0.b,CI x0.i,CI x0.h]]=aY [DV.box [CL .byte x0.b,CI x0.i,CI x0.h]]) (by kernel_rfl)
 dsimp only
 have hb:=bJ (c:=c) (n:=list.length) (by omega)
 exact⟨dC,mZ,hb.1,by omega,rfl,rfl,rfl⟩
def cy(c:av):Prop:=0<=c.i/\c.b.length<=4294967296
theorem ax{c:av}(h:cy c)(n:Int):cy (af c n):=by
 refine⟨wk h.1 n,?_⟩
 have:(af c n).b=c.b:=by
  unfold af
  split
  ·rfl
  ·split<;>rfl
 rw[this];exact h.2
theorem pC{code:List Int}(h:code.length<=4294967296):cy (bE code):=⟨Int.le_refl 0,h⟩
def db(c:av)(n:Int):Bool:=decide (aq c n=0)
def fu(c:av)(l:List BA):BA:=List.getD l (aq c l.length).toNat bT
def di(c:av)(l:List BA):av:=af c l.length
def tJ(c:av)(l:List Int):Int:=List.getD l (aq c l.length).toNat 0
def qR(c:av)(l:List Int):av:=af c l.length
theorem mC{c:av}(h:cy c)(l:List BA):cy (di c l):=ax h _
theorem pD{c:av}(h:cy c)(l:List Int):cy (qR c l):=ax h _
theorem uJ(c:av){l:List BA}(h:0<l.length):fu c l∈l:=by
 have hb:=bJ (c:=c) (n:=l.length) (by omega)
 have hi:(aq c l.length).toNat<l.length:=by omega
 rw[fu,cB,cF hi]
 exact wQ hi
theorem iF(c:av){l:List BA}(p:BA->Bool)(h0:0<l.length)(h:l.all p=true):p (fu c l)=true:=qc.1 h _ (uJ c h0)
def oK:List BA:=[⟨#[97]⟩,⟨#[98]⟩]
def cg(c:av):bq:=if db c 2 then⟨1,1+aq (af c 2) 3,bT⟩ else⟨2,0,fu (af c 2) oK⟩
def c_(c:av):av:=if db c 2 then af (af c 2) 3 else di (af c 2) oK
theorem gJ{c:av}(h:cy c):cy (c_ c):=by
 unfold c_;split
 ·exact ax (ax h _) _
 ·exact mC (ax h _) _
def yN:List Int:=[0,1,2,3,-1,1000000000,-1000000000]
def uM:List BA:=[⟨#[]⟩,⟨#[97]⟩,⟨#[98]⟩,⟨#[112,97,105,100]⟩,⟨#[120,95,49]⟩]
def dr(c:av):bq:=if db c 2 then⟨1,tJ (af c 2) yN,bT⟩ else⟨2,0,fu (af c 2) uM⟩
def cH(c:av):av:=if db c 2 then qR (af c 2) yN else di (af c 2) uM
theorem s4{c:av}(h:cy c):cy (cH c):=by
 unfold cH;split
 ·exact pD (ax h _) _
 ·exact mC (ax h _) _
def sP:List Int:=[1000000001,5]
def qt:List BA:=[⟨#[65]⟩,⟨#[97,32,98]⟩,⟨#[116,119,101,110,116,121,111,110,101,98,121,116,101,115,116,119,101,110,116,121,111]⟩,⟨#[120]⟩]
def cz(c:av):bq:=let v:=dr c;let k:=aq (cH c) 10;let d:=af (cH c) 10;if k=0 then⟨aq d 4,v.N,v.S⟩ else if k=1 then⟨v.K,tJ d sP,v.S⟩ else if k=2 then⟨v.K,v.N,fu d qt⟩ else v
def cC(c:av):av:=let k:=aq (cH c) 10;let d:=af (cH c) 10;if k=0 then af d 4 else if k=1 then qR d sP else if k=2 then di d qt else d
def bz:List BA:=[⟨#[111,114,100,101,114]⟩,⟨#[112,97,105,100]⟩,⟨#[105,116,101,109]⟩,⟨#[111,114,100,101,114]⟩]
def wl:BA:=⟨#[105,116,101,109]⟩
def gT:Nat->List bq->av->List bq
 |0,l,_=>l
 |k+1,l,c=>gT k (l++[cg c]) (c_ c)
def mh:Nat->av->av
 |0,c=>c
 |k+1,c=>mh k (c_ c)
theorem nt:∀{k:Nat}{c:av},cy c->cy (mh k c)
 |0,_,h=>h
 |k+1,_,h=>nt (k:=k) (gJ h)
def bp(c:av):Int:=if db (di c bz) 12 then aq (af (di c bz) 12) 6 else if fu c bz=wl then 2 else 1
def kA(c:av):av:=if db (di c bz) 12 then af (af (di c bz) 12) 6 else af (di c bz) 12
def a9(c:av):br:=⟨fu c bz,gT (bp c).toNat [] (kA c)⟩
def aT(c:av):av:=mh (bp c).toNat (kA c)
theorem oy{c:av}(h:cy c):cy (kA c):=by
 have:=ax (mC h bz) 12
 unfold kA;split
 ·exact ax this _
 ·exact this
theorem rq{c:av}(h:cy c):cy (aT c):=nt (oy h)
theorem lM:∀(k:Nat)(l:List bq)(c:av),(gT k l c).length=l.length+k
 |0,_,_=>rfl
 |k+1,l,c=>by rw[gT,lM k];simp only[kR,kQ,j9];omega
theorem oh(c:av):(a9 c).ai.length=(bp c).toNat:=by
 show(gT _ _ _).length=_
 rw[lM];simp
theorem ni(c:av):0<=bp c/\bp c<=5:=by
 have:=bJ (c:=af (di c bz) 12) (n:=6) (by omega)
 unfold bp
 split
 ·omega
 ·split<;>omega
noncomputable def kg(l:List bq)(c:av):List bq×av:=if h:(l.length:Int)<5+aq c 2 then kg (l++[dr (af c 2)]) (cH (af c 2)) else(l,af c 2)
termination_by 6-l.length
decreasing_by
 have:=bJ (c:=c) (n:=2) (by omega)
 simp only[kR,kQ,j9];omega
theorem qH{l:List bq}{c:av}(h:(l.length:Int)<5+aq c 2):kg l c=kg (l++[dr (af c 2)]) (cH (af c 2)):=by rw[kg,dif_pos h]
theorem sM{l:List bq}{c:av}(h:¬(l.length:Int)<5+aq c 2):kg l c=(l,af c 2):=by rw[kg,dif_neg h]
def mK:List BA:=[⟨#[]⟩,⟨#[65]⟩,⟨#[116,104,105,114,116,101,101,110,98,121,116,101,115]⟩,⟨#[120]⟩]
noncomputable def gN(c:av):br:=let f:=a9 c;let k:=aq (aT c) 10;let d:=af (aT c) 10;if k=0 then⟨fu d mK,f.ai⟩ else if k=1 then⟨f.Kind,f.ai++[cz d]⟩ else if k=2 then⟨f.Kind,(kg f.ai d).1⟩ else f
noncomputable def cD(c:av):av:=let f:=a9 c;let k:=aq (aT c) 10;let d:=af (aT c) 10;if k=0 then di d mK else if k=1 then cC d else if k=2 then(kg f.ai d).2 else d
def Ma:=fQ (α:=av×Int) (qC qU (q1 qI)) [.box false,.ro] (fun(c,n)=>[cy c]) (fun(c,n)=>⟨[dO (db c n)],[],[dU (af c n)]⟩)
def ym:HH:=hF Ma func50 (by kernel_rfl) [nY] a0 fun x hp hb=>by
 obtain⟨c,n⟩:=x
 have eO:=s7 (x:=c) (hb _ m0)
 have Bb:=wO (n:=n) (hb _ m1)
 have dC:cy c:=hp _ m0
 clear hp hb
 apply @ve _ (let q0:=af c n;0<=c.i/\c.b.length<=4294967296/\(0:Nat)=(0:Nat)/\aY [VB (aq c n==0)]=aY [VB (db c n)]/\aY [DV.box [CL .byte q0.b,CI (q0.i),CI (q0.h)]]=aY [DV.box [CL .byte q0.b,CI (q0.i),CI (q0.h)]]) (by kernel_rfl)
 dsimp only
 exact⟨dC.1,dC.2,rfl,rfl,rfl⟩
def L3:=fQ (α:=av×(List BA)) (qC qU (q1 (qL .str))) [.box false,.ro] (fun(c,list)=>[cy c,1<=list.length]) (fun(c,list)=>⟨[dS (fu c list)],[],[dU (di c list)]⟩)
def wu:HH:=hF L3 func66 (by kernel_rfl) [nY] a0 fun x hp hb=>by
 obtain⟨c,list⟩:=x
 have eO:=s7 (x:=c) (hb _ m0)
 have xU:list.length<=9223372036854775807:=rr (hb _ m1)
 have dC:cy c:=hp _ m0
 have mZ:1<=list.length:=hp _ m1
 clear hp hb
 apply @ve _ (let x0:=af c (list.length:Int);0<=c.i/\c.b.length<=4294967296/\0<=aq c (list.length:Int)/\Int.toNat (aq c (list.length:Int))<list.length/\(0:Nat)=(0:Nat)/\aY [VS (List.getD list (Int.toNat (aq c (list.length:Int))) bT)]=aY [VS (fu c list)]/\aY [DV.box [CL .byte x0.b,CI x0.i,CI x0.h]]=aY [DV.box [CL .byte (di c list).b,CI ((di c list).i),CI ((di c list).h)]]) (by kernel_rfl)
 dsimp only
 have hb:=bJ (c:=c) (n:=list.length) (by omega)
 exact⟨dC.1,dC.2,hb.1,by omega,rfl,rfl,rfl⟩
def LX:=fQ (α:=av) (q1 qU) [.box false] (fun c=>[cy c]) (fun c=>⟨[dA .aH (cg c)],[],[dU (c_ c)]⟩)
def Mq:HH:=hF LX func74 (by kernel_rfl) [ym,nY,wu] a0 fun(c:av) hp hb=>by
 have eO:=s7 (x:=c) (hb _ m0)
 have dC:cy c:=hp _ m0
 clear hp hb
 apply @ve _ (let x1:=[{data:= #[(97:UInt8)]:BA},{data:= #[(98:UInt8)]:BA}];let x2:=af (af c 2) 3;let x0:=di (af c 2) x1;let q0:=af c 2;cy c/\bif db c 2 then 0<=q0.i/\List.length q0.b<=4294967296/\(0:Nat)=(0:Nat)/\aY [DV.agg [CI 1,CI (wrap i64 (1+aq q0 3)),CS ({data:= #[]:BA})]]=aY [DV.agg [CI ((cg c).K),CI ((cg c).N),CS ((cg c).S)]]/\aY [DV.box [CL .byte x2.b,CI x2.i,CI x2.h]]=aY [DV.box [CL .byte (c_ c).b,CI ((c_ c).i),CI ((c_ c).h)]] else cy q0/\1<=x1.length/\(0:Nat)=(0:Nat)/\aY [DV.agg [CI 2,CI 0,CS (fu q0 x1)]]=aY [DV.agg [CI ((cg c).K),CI ((cg c).N),CS ((cg c).S)]]/\aY [DV.box [CL .byte x0.b,CI x0.i,CI x0.h]]=aY [DV.box [CL .byte (c_ c).b,CI ((c_ c).i),CI ((c_ c).h)]]) (by kernel_rfl)
 dsimp only
 refine⟨dC,ag (fun h=> ?_) (fun h=> ?_)⟩
 ·have hb:=bJ (c:=af c 2) (n:=3) (by omega)
  have h2:=ax dC 2
  rw[wrap_i64 (by omega) (by omega)]
  rw[cg,c_,if_pos h,if_pos h];exact⟨h2.1,h2.2,rfl,rfl,rfl⟩
 ·have h2:=ax dC 2
  rw[cg,c_,if_neg (by simp[h]),if_neg (by simp[h])];exact⟨h2,by simp,rfl,rfl,rfl⟩
def L1:=fQ (α:=av) (q1 qU) [.box false] (fun c=>[cy c]) (fun c=>⟨[dA .aH (dr c)],[],[dU (cH c)]⟩)
def Gg:HH:=hF L1 func68 (by kernel_rfl) [ym,yl,wu] a0 fun(c:av) hp hb=>by
 have eO:=s7 (x:=c) (hb _ m0)
 have dC:cy c:=hp _ m0
 clear hp hb
 apply @ve _ (let x1:=[{data:= #[]:BA},{data:= #[(97:UInt8)]:BA},{data:= #[(98:UInt8)]:BA},{data:= #[(112:UInt8),(97:UInt8),(105:UInt8),(100:UInt8)]:BA},{data:= #[(120:UInt8),(95:UInt8),(49:UInt8)]:BA}];let x5:=[0,1,2,3,(-1),1000000000,(-1000000000)];let x0:=di (af c 2) x1;let x4:=x5.length;let x3:=(↑x4:Int);let x2:=af (af c 2) x3;let q0:=af c 2;cy c/\bif db c 2 then 0<=q0.i/\List.length q0.b<=4294967296/\1<=x4/\(0:Nat)=(0:Nat)/\aY [DV.agg [CI 1,CI (List.getD x5 (Int.toNat (aq q0 x3)) 0),CS ({data:= #[]:BA})]]=aY [DV.agg [CI ((dr c).K),CI ((dr c).N),CS ((dr c).S)]]/\aY [DV.box [CL .byte x2.b,CI x2.i,CI x2.h]]=aY [DV.box [CL .byte (cH c).b,CI ((cH c).i),CI ((cH c).h)]] else cy q0/\1<=x1.length/\(0:Nat)=(0:Nat)/\aY [DV.agg [CI 2,CI 0,CS (fu q0 x1)]]=aY [DV.agg [CI ((dr c).K),CI ((dr c).N),CS ((dr c).S)]]/\aY [DV.box [CL .byte x0.b,CI x0.i,CI x0.h]]=aY [DV.box [CL .byte (cH c).b,CI ((cH c).i),CI ((cH c).h)]]) (by kernel_rfl)
 dsimp only
 have h2:=ax dC 2
 refine⟨dC,ag (fun h=> ?_) (fun h=> ?_)⟩
 ·rw[dr,cH,if_pos h,if_pos h];exact⟨h2.1,h2.2,by simp,rfl,rfl,rfl⟩
 ·rw[dr,cH,if_neg (by simp[h]),if_neg (by simp[h])];exact⟨h2,by simp,rfl,rfl,rfl⟩
def L2:=fQ (α:=av) (q1 qU) [.box false] (fun c=>[cy c]) (fun c=>⟨[dA .aH (cz c)],[],[dU (cC c)]⟩)
def Ms:HH:=hF L2 func67 (by kernel_rfl) [Gg,nY,yl,wu] a0 fun(c:av) hp hb=>by
 have eO:=s7 (x:=c) (hb _ m0)
 have dC:cy c:=hp _ m0
 clear hp hb
 apply @ve _ (let x1:=[{data:= #[(65:UInt8)]:BA},{data:= #[(97:UInt8),(32:UInt8),(98:UInt8)]:BA},{data:= #[(116:UInt8),(119:UInt8),(101:UInt8),(110:UInt8),(116:UInt8),(121:UInt8),(111:UInt8),(110:UInt8),(101:UInt8),(98:UInt8),(121:UInt8),(116:UInt8),(101:UInt8),(115:UInt8),(116:UInt8),(119:UInt8),(101:UInt8),(110:UInt8),(116:UInt8),(121:UInt8),(111:UInt8)]:BA},{data:= #[(120:UInt8)]:BA}];let x2:=af (cH c) 10;let x6:=[1000000001,5];let x0:=di x2 x1;let x5:=x6.length;let x4:=(↑x5:Int);let x3:=af x2 x4;cy c/\0<=(cH c).i/\List.length (cH c).b<=4294967296/\bif aq (cH c) (10:Int)==(0:Int) then 0<=x2.i/\x2.b.length<=4294967296/\(0:Nat)=(0:Nat)/\aY [DV.agg [CI (aq x2 4),CI ((dr c).N),CS ((dr c).S)]]=aY [DV.agg [CI ((cz c).K),CI ((cz c).N),CS ((cz c).S)]]/\aY [DV.box [CL .byte (af x2 4).b,CI ((af x2 4).i),CI ((af x2 4).h)]]=aY [DV.box [CL .byte (cC c).b,CI ((cC c).i),CI ((cC c).h)]] else bif aq (cH c) (10:Int)==(1:Int) then 0<=x2.i/\x2.b.length<=4294967296/\1<=x5/\(0:Nat)=(0:Nat)/\aY [DV.agg [CI ((dr c).K),CI (List.getD x6 (Int.toNat (aq x2 x4)) 0),CS ((dr c).S)]]=aY [DV.agg [CI ((cz c).K),CI ((cz c).N),CS ((cz c).S)]]/\aY [DV.box [CL .byte x3.b,CI x3.i,CI x3.h]]=aY [DV.box [CL .byte (cC c).b,CI ((cC c).i),CI ((cC c).h)]] else bif aq (cH c) (10:Int)==(2:Int) then cy x2/\1<=x1.length/\(0:Nat)=(0:Nat)/\aY [DV.agg [CI ((dr c).K),CI ((dr c).N),CS (fu x2 x1)]]=aY [DV.agg [CI ((cz c).K),CI ((cz c).N),CS ((cz c).S)]]/\aY [DV.box [CL .byte x0.b,CI x0.i,CI x0.h]]=aY [DV.box [CL .byte (cC c).b,CI ((cC c).i),CI ((cC c).h)]] else(0:Nat)=(0:Nat)/\aY [DV.agg [CI ((dr c).K),CI ((dr c).N),CS ((dr c).S)]]=aY [DV.agg [CI ((cz c).K),CI ((cz c).N),CS ((cz c).S)]]/\aY [DV.box [CL .byte x2.b,CI x2.i,CI x2.h]]=aY [DV.box [CL .byte (cC c).b,CI ((cC c).i),CI ((cC c).h)]]) (by kernel_rfl)
 dsimp only
 have h2:=s4 dC
 have h3:=ax h2 10
 refine⟨dC,h2.1,h2.2,ag (fun h=> ?_) (fun h=>ag (fun h'=> ?_) (fun h'=>ag (fun ix=> ?_) (fun ix=> ?_)))⟩
 ·have h:=eq_of_beq h
  have e1:cz c=⟨aq (af (cH c) 10) 4,(dr c).N,(dr c).S⟩:=by simp only[cz,h,if_true]
  have e2:cC c=af (af (cH c) 10) 4:=by simp only[cC,h,if_true]
  rw[e1,e2];exact⟨h3.1,h3.2,rfl,rfl,rfl⟩
 ·have h:¬aq (cH c) 10=0:=by simpa using h
  have h':=eq_of_beq h'
  have e1:cz c=⟨(dr c).K,tJ (af (cH c) 10) sP,(dr c).S⟩:=by simp only[cz];rw[if_neg h,if_pos h']
  have e2:cC c=qR (af (cH c) 10) sP:=by simp only[cC];rw[if_neg h,if_pos h']
  rw[e1,e2];exact⟨h3.1,h3.2,by simp,rfl,rfl,rfl⟩
 ·have h:¬aq (cH c) 10=0:=by simpa using h
  have h':¬aq (cH c) 10=1:=by simpa using h'
  have ix:=eq_of_beq ix
  have e1:cz c=⟨(dr c).K,(dr c).N,fu (af (cH c) 10) qt⟩:=by simp only[cz];rw[if_neg h,if_neg h',if_pos ix]
  have e2:cC c=di (af (cH c) 10) qt:=by simp only[cC];rw[if_neg h,if_neg h',if_pos ix]
  rw[e1,e2];exact⟨h3,by simp,rfl,rfl,rfl⟩
 ·have h:¬aq (cH c) 10=0:=by simpa using h
  have h':¬aq (cH c) 10=1:=by simpa using h'
  have ix:¬aq (cH c) 10=2:=by simpa using ix
  have e1:cz c=dr c:=by simp only[cz];rw[if_neg h,if_neg h',if_neg ix]
  have e2:cC c=af (cH c) 10:=by simp only[cC];rw[if_neg h,if_neg h',if_neg ix]
  rw[e1,e2];exact⟨rfl,rfl,rfl⟩
def FV:=fQ (α:=av) (q1 qU) [.box false] (fun c=>[cy c]) (fun c=>⟨[dA .cN (a9 c)],[],[dU (aT c)]⟩)
def ey(c:av):Int×T1×T1×T2×Unit->Prop:=fun(i,r,f,cu,_)=>0<=i/\i<=bp c/\f.1=fu c bz/\cy ⟨cu.1,cu.2.1,cu.2.2.1⟩/\f.2.1.length<=i/\gT (bp c-i).toNat f.2.1 ⟨cu.1,cu.2.1,cu.2.2.1⟩=(a9 c).ai/\mh (bp c-i).toNat ⟨cu.1,cu.2.1,cu.2.2.1⟩=aT c
def eT(c:av):Int×T1×T1×T2×Unit->Nat:=fun(i,r,f,cu,_)=>(bp c-i).toNat
def MS:AX FV:=fun c=>gO [(8,ed [iI 5,.box 2 (2,1024) [.lit .str,.own .aH true],.box 3 (3,1024) [.lit .str,.own .aH true],.box 0 (2000000,0) [.shr .byte,.lit (.int .i64),.lit (.int .i64)]] (fun _=>ey c) (eT c))]
def Gh:HH:=hF FV func64 (by kernel_rfl) [wu,ym,nY,Mq] MS fun(c:av) hp hb=>by
 have eO:=s7 (x:=c) (hb _ m0)
 have dC:cy c:=hp _ m0
 clear hp hb
 apply @ve _ (let x3:={data:= #[(111:UInt8),(114:UInt8),(100:UInt8),(101:UInt8),(114:UInt8)]:BA};let x4:={data:= #[(105:UInt8),(116:UInt8),(101:UInt8),(109:UInt8)]:BA};let x2:=[x3,{data:= #[(112:UInt8),(97:UInt8),(105:UInt8),(100:UInt8)]:BA},x4,x3];let x1:=di c x2;let x0:=af x1 12;let q0:=BA×List bq×PUnit;let q1:=(0,({data:= #[]:BA},[],()),(fu c x2,[],()),((af x0 6).b,(af x0 6).i,(af x0 6).h,()),());let q2:=(0,({data:= #[]:BA},[],()),(fu c x2,[],()),(x0.b,x0.i,x0.h,()),());let q3:=List Int×Int×Int×PUnit;let q4:=(a9 c).Kind;cy c/\1<=x2.length/\bif ByteArray.toList (fu c x2)==ByteArray.toList x4 then cy x1/\bif db x1 12 then 0<=x0.i/\x0.b.length<=4294967296/\ey c q1/\∀(y:Int×q0×q0×q3×PUnit),let x6:={b:=y.2.2.2.1.1,i:=y.2.2.2.1.2.1,h:=y.2.2.2.1.2.2.1:av};let x5:=c_ x6;let q5:=(wrap i64 (y.1+1),(y.2.1.1,y.2.1.2.1,()),(y.2.2.1.1,y.2.2.1.2.1++[cg x6],()),(x5.b,x5.i,x5.h,()),());ey c y->bif decide (y.1<aq x0 6) then cy x6/\y.2.2.1.2.1.length+List.length [cg x6]<=4294967296/\ey c q5/\eT c q5<eT c y else(0:Nat)=(0:Nat)/\aY [DV.agg [CS y.2.2.1.1,CL .aH y.2.2.1.2.1]]=aY [DV.agg [CS q4,CL .aH (a9 c).ai]]/\aY [DV.box [CL .byte y.2.2.2.1.1,CI y.2.2.2.1.2.1,CI y.2.2.2.1.2.2.1]]=aY [DV.box [CL .byte (aT c).b,CI ((aT c).i),CI ((aT c).h)]] else ey c q2/\∀(y:Int×q0×q0×q3×PUnit),let x6:={b:=y.2.2.2.1.1,i:=y.2.2.2.1.2.1,h:=y.2.2.2.1.2.2.1:av};let x5:=c_ x6;let q6:=(wrap i64 (y.1+1),(y.2.1.1,y.2.1.2.1,()),(y.2.2.1.1,y.2.2.1.2.1++[cg x6],()),(x5.b,x5.i,x5.h,()),());ey c y->bif decide (y.1<2) then cy x6/\y.2.2.1.2.1.length+List.length [cg x6]<=4294967296/\ey c q6/\eT c q6<eT c y else(0:Nat)=(0:Nat)/\aY [DV.agg [CS y.2.2.1.1,CL .aH y.2.2.1.2.1]]=aY [DV.agg [CS q4,CL .aH (a9 c).ai]]/\aY [DV.box [CL .byte y.2.2.2.1.1,CI y.2.2.2.1.2.1,CI y.2.2.2.1.2.2.1]]=aY [DV.box [CL .byte (aT c).b,CI ((aT c).i),CI ((aT c).h)]] else cy x1/\bif db x1 12 then 0<=x0.i/\x0.b.length<=4294967296/\ey c q1/\∀(y:Int×q0×q0×q3×PUnit),let x6:={b:=y.2.2.2.1.1,i:=y.2.2.2.1.2.1,h:=y.2.2.2.1.2.2.1:av};let x5:=c_ x6;let q7:=(wrap i64 (y.1+1),(y.2.1.1,y.2.1.2.1,()),(y.2.2.1.1,y.2.2.1.2.1++[cg x6],()),(x5.b,x5.i,x5.h,()),());ey c y->bif decide (y.1<aq x0 6) then cy x6/\y.2.2.1.2.1.length+List.length [cg x6]<=4294967296/\ey c q7/\eT c q7<eT c y else(0:Nat)=(0:Nat)/\aY [DV.agg [CS y.2.2.1.1,CL .aH y.2.2.1.2.1]]=aY [DV.agg [CS q4,CL .aH (a9 c).ai]]/\aY [DV.box [CL .byte y.2.2.2.1.1,CI y.2.2.2.1.2.1,CI y.2.2.2.1.2.2.1]]=aY [DV.box [CL .byte (aT c).b,CI ((aT c).i),CI ((aT c).h)]] else ey c q2/\∀(y:Int×q0×q0×q3×PUnit),let x6:={b:=y.2.2.2.1.1,i:=y.2.2.2.1.2.1,h:=y.2.2.2.1.2.2.1:av};let x5:=c_ x6;let q8:=(wrap i64 (y.1+1),(y.2.1.1,y.2.1.2.1,()),(y.2.2.1.1,y.2.2.1.2.1++[cg x6],()),(x5.b,x5.i,x5.h,()),());ey c y->bif decide (y.1<1) then cy x6/\y.2.2.1.2.1.length+List.length [cg x6]<=4294967296/\ey c q8/\eT c q8<eT c y else(0:Nat)=(0:Nat)/\aY [DV.agg [CS y.2.2.1.1,CL .aH y.2.2.1.2.1]]=aY [DV.agg [CS q4,CL .aH (a9 c).ai]]/\aY [DV.box [CL .byte y.2.2.2.1.1,CI y.2.2.2.1.2.1,CI y.2.2.2.1.2.2.1]]=aY [DV.box [CL .byte (aT c).b,CI ((aT c).i),CI ((aT c).h)]]) (by kernel_rfl)
 dsimp only
 have hk:=mC dC bz
 have hd:=oy dC
 have hle:=ni c
 have fin:∀(n:Int)(d:av),bp c=n->kA c=d->
   ey c ((0:Int),(bT,[],PUnit.unit),(fu c bz,[],PUnit.unit),(d.b,d.i,d.h,PUnit.unit),PUnit.unit):=by
  rintro n d rfl rfl
  exact⟨by omega,by omega,rfl,hd,by simp,by simp only[Int.sub_zero];rfl,by simp only[Int.sub_zero];rfl⟩
 refine⟨dC,by simp,?_⟩
 refine ag (fun h=>⟨hk,ag (fun h'=>⟨(ax hk 12).1,(ax hk 12).2,?_⟩) (fun h'=> ?_)⟩) (fun h=>⟨hk,ag (fun h'=>⟨(ax hk 12).1,(ax hk 12).2,?_⟩) (fun h'=> ?_)⟩)
 ·have hN:bp c=aq (af (di c bz) 12) 6:=if_pos h'
  have hD:kA c=af (af (di c bz) 12) 6:=if_pos h'
  refine⟨fin _ _ hN hD,?_⟩
  have O5:aq (af (di c bz) 12) 6=bp c:=hN.symm
  rintro⟨i,r,⟨fk,fl,⟨⟩⟩,⟨cb,ci,ch,⟨⟩⟩,⟨⟩⟩ ⟨g1,g2,g3,g4,g5,g6,g7⟩
  simp only at g1 g2 g3 g4 g5 g6 g7⊢
  refine ag (fun hc=> ?_) (fun hc=> ?_)
  ·have hc:i<bp c:=by rw[hN];exact yT hc
   have e:(bp c-i).toNat=(bp c-(i+1)).toNat+1:=by omega
   rw[e] at g6 g7
   rw[wrap_i64 (by omega) (by omega)]
   exact⟨g4,by simp only[kQ,j9];omega,⟨by omega,by omega,g3,gJ g4,by simp only[kR,kQ,j9];omega,g6,g7⟩,by simp only[eT];omega⟩
  ·have hc:¬i<bp c:=by rw[hN];exact yF hc
   have e:(bp c-i).toNat=0:=by omega
   rw[e] at g6 g7
   have g6:fl=(a9 c).ai:=g6
   have g7:(⟨cb,ci,ch⟩:av)=aT c:=g7
   have g3:fk=(a9 c).Kind:=g3
   rw[<-g7,<-g6,<-g3]
   exact⟨by trivial,rfl,rfl⟩
 ·have h:fu c bz=wl:=by rw[eM] at h;exact yT h
  have hN:bp c=2:=by rw[bp,if_neg (by rw[show db (di c bz) 12=false from h'];simp),if_pos h]
  have hD:kA c=af (di c bz) 12:=if_neg (by rw[show db (di c bz) 12=false from h'];simp)
  refine⟨fin _ _ hN hD,?_⟩
  rintro⟨i,r,⟨fk,fl,⟨⟩⟩,⟨cb,ci,ch,⟨⟩⟩,⟨⟩⟩ ⟨g1,g2,g3,g4,g5,g6,g7⟩
  simp only at g1 g2 g3 g4 g5 g6 g7⊢
  refine ag (fun hc=> ?_) (fun hc=> ?_)
  ·have hc:i<bp c:=by rw[hN];exact yT hc
   have e:(bp c-i).toNat=(bp c-(i+1)).toNat+1:=by omega
   rw[e] at g6 g7
   rw[wrap_i64 (by omega) (by omega)]
   exact⟨g4,by simp only[kQ,j9];omega,⟨by omega,by omega,g3,gJ g4,by simp only[kR,kQ,j9];omega,g6,g7⟩,by simp only[eT];omega⟩
  ·have hc:¬i<bp c:=by rw[hN];exact yF hc
   have e:(bp c-i).toNat=0:=by omega
   rw[e] at g6 g7
   have g6:fl=(a9 c).ai:=g6
   have g7:(⟨cb,ci,ch⟩:av)=aT c:=g7
   have g3:fk=(a9 c).Kind:=g3
   rw[<-g7,<-g6,<-g3]
   exact⟨by trivial,rfl,rfl⟩
 ·have hN:bp c=aq (af (di c bz) 12) 6:=if_pos h'
  have hD:kA c=af (af (di c bz) 12) 6:=if_pos h'
  refine⟨fin _ _ hN hD,?_⟩
  have O5:aq (af (di c bz) 12) 6=bp c:=hN.symm
  rintro⟨i,r,⟨fk,fl,⟨⟩⟩,⟨cb,ci,ch,⟨⟩⟩,⟨⟩⟩ ⟨g1,g2,g3,g4,g5,g6,g7⟩
  simp only at g1 g2 g3 g4 g5 g6 g7⊢
  refine ag (fun hc=> ?_) (fun hc=> ?_)
  ·have hc:i<bp c:=by rw[hN];exact yT hc
   have e:(bp c-i).toNat=(bp c-(i+1)).toNat+1:=by omega
   rw[e] at g6 g7
   rw[wrap_i64 (by omega) (by omega)]
   exact⟨g4,by simp only[kQ,j9];omega,⟨by omega,by omega,g3,gJ g4,by simp only[kR,kQ,j9];omega,g6,g7⟩,by simp only[eT];omega⟩
  ·have hc:¬i<bp c:=by rw[hN];exact yF hc
   have e:(bp c-i).toNat=0:=by omega
   rw[e] at g6 g7
   have g6:fl=(a9 c).ai:=g6
   have g7:(⟨cb,ci,ch⟩:av)=aT c:=g7
   have g3:fk=(a9 c).Kind:=g3
   rw[<-g7,<-g6,<-g3]
   exact⟨by trivial,rfl,rfl⟩
 ·have h:¬fu c bz=wl:=by rw[eM] at h;exact yF h
  have hN:bp c=1:=by rw[bp,if_neg (by rw[show db (di c bz) 12=false from h'];simp),if_neg h]
  have hD:kA c=af (di c bz) 12:=if_neg (by rw[show db (di c bz) 12=false from h'];simp)
  refine⟨fin _ _ hN hD,?_⟩
  rintro⟨i,r,⟨fk,fl,⟨⟩⟩,⟨cb,ci,ch,⟨⟩⟩,⟨⟩⟩ ⟨g1,g2,g3,g4,g5,g6,g7⟩
  simp only at g1 g2 g3 g4 g5 g6 g7⊢
  refine ag (fun hc=> ?_) (fun hc=> ?_)
  ·have hc:i<bp c:=by rw[hN];exact yT hc
   have e:(bp c-i).toNat=(bp c-(i+1)).toNat+1:=by omega
   rw[e] at g6 g7
   rw[wrap_i64 (by omega) (by omega)]
   exact⟨g4,by simp only[kQ,j9];omega,⟨by omega,by omega,g3,gJ g4,by simp only[kR,kQ,j9];omega,g6,g7⟩,by simp only[eT];omega⟩
  ·have hc:¬i<bp c:=by rw[hN];exact yF hc
   have e:(bp c-i).toNat=0:=by omega
   rw[e] at g6 g7
   have g6:fl=(a9 c).ai:=g6
   have g7:(⟨cb,ci,ch⟩:av)=aT c:=g7
   have g3:fk=(a9 c).Kind:=g3
   rw[<-g7,<-g6,<-g3]
   exact⟨by trivial,rfl,rfl⟩
def FY:=fQ (α:=av) (q1 qU) [.box false] (fun c=>[cy c]) (fun c=>⟨[dA .cN (gN c)],[],[dU (cD c)]⟩)
def pV(c:av):T1×T1×T2×Unit->Prop:=fun(r,f,cu,_)=>f.1=(a9 c).Kind/\cy ⟨cu.1,cu.2.1,cu.2.2.1⟩/\kg f.2.1 ⟨cu.1,cu.2.1,cu.2.2.1⟩=kg (a9 c).ai (af (aT c) 10)
def pK(c:av):T1×T1×T2×Unit->Nat:=fun(r,f,cu,_)=>6-f.2.1.length
def MV:AX FY:=fun c=>gO [(8,ed [.box 2 (2,1024) [.lit .str,.own .aH true],.box 3 (3,1024) [.lit .str,.own .aH true],.box 0 (2000000,0) [.shr .byte,.lit (.int .i64),.lit (.int .i64)]] (fun _=>pV c) (pK c))]
def My:HH:=hF FY func54 (by kernel_rfl) [Gh,nY,wu,Ms,Gg] MV fun(c:av) hp hb=>by
 have eO:=s7 (x:=c) (hb _ m0)
 have dC:cy c:=hp _ m0
 clear hp hb
 apply @ve _ (let x1:=[{data:= #[]:BA},{data:= #[(65:UInt8)]:BA},{data:= #[(116:UInt8),(104:UInt8),(105:UInt8),(114:UInt8),(116:UInt8),(101:UInt8),(101:UInt8),(110:UInt8),(98:UInt8),(121:UInt8),(116:UInt8),(101:UInt8),(115:UInt8)]:BA},{data:= #[(120:UInt8)]:BA}];let x2:=af (aT c) 10;let x0:=di x2 x1;let q0:=(gN c).Kind;cy c/\0<=(aT c).i/\List.length (aT c).b<=4294967296/\bif aq (aT c) (10:Int)==(0:Int) then cy x2/\1<=x1.length/\(0:Nat)=(0:Nat)/\aY [DV.agg [CS (fu x2 x1),CL .aH (a9 c).ai]]=aY [DV.agg [CS q0,CL .aH (gN c).ai]]/\aY [DV.box [CL .byte x0.b,CI x0.i,CI x0.h]]=aY [DV.box [CL .byte (cD c).b,CI ((cD c).i),CI ((cD c).h)]] else bif aq (aT c) (10:Int)==(1:Int) then cy x2/\List.length (a9 c).ai+List.length [cz x2]<=4294967296/\(0:Nat)=(0:Nat)/\aY [DV.agg [CS ((a9 c).Kind),CL .aH ((a9 c).ai++[cz x2])]]=aY [DV.agg [CS q0,CL .aH (gN c).ai]]/\aY [DV.box [CL .byte (cC x2).b,CI ((cC x2).i),CI ((cC x2).h)]]=aY [DV.box [CL .byte (cD c).b,CI ((cD c).i),CI ((cD c).h)]] else bif aq (aT c) (10:Int)==(2:Int) then pV c (({data:= #[]:BA},[],()),((a9 c).Kind,(a9 c).ai,()),(x2.b,x2.i,x2.h,()),())/\∀(y:T5×T5×T3×PUnit),let x5:={b:=y.2.2.1.1,i:=y.2.2.1.2.1,h:=y.2.2.1.2.2.1:av};let x7:=y.2.1.2.1.length;let x3:=af x5 2;let x4:=wrap i64 (5+aq x5 2);let x6:=(↑x7:Int);let q1:=((y.1.1,y.1.2.1,()),(y.2.1.1,y.2.1.2.1++[dr x3],()),((cH x3).b,(cH x3).i,(cH x3).h,()),());pV c y->0<=y.2.2.1.2.1/\y.2.2.1.1.length<=4294967296/\bif decide (x6<x4) then cy x3/\x7+List.length [dr x3]<=4294967296/\pV c q1/\pK c q1<pK c y else(0:Nat)=(0:Nat)/\aY [DV.agg [CS y.2.1.1,CL .aH y.2.1.2.1]]=aY [DV.agg [CS q0,CL .aH (gN c).ai]]/\aY [DV.box [CL .byte x3.b,CI x3.i,CI x3.h]]=aY [DV.box [CL .byte (cD c).b,CI ((cD c).i),CI ((cD c).h)]] else(0:Nat)=(0:Nat)/\aY [DV.agg [CS ((a9 c).Kind),CL .aH (a9 c).ai]]=aY [DV.agg [CS q0,CL .aH (gN c).ai]]/\aY [DV.box [CL .byte x2.b,CI x2.i,CI x2.h]]=aY [DV.box [CL .byte (cD c).b,CI ((cD c).i),CI ((cD c).h)]]) (by kernel_rfl)
 dsimp only
 have h2:=rq dC
 have h3:=ax h2 10
 have hle:=ni c
 have PV:(a9 c).ai.length<=5:=by rw[oh];omega
 refine⟨dC,h2.1,h2.2,ag (fun h=> ?_) (fun h=>ag (fun h'=> ?_) (fun h'=>ag (fun ix=> ?_) (fun ix=> ?_)))⟩
 ·have h:=eq_of_beq h
  have e1:gN c=⟨fu (af (aT c) 10) mK,(a9 c).ai⟩:=by simp only[gN,h,if_true]
  have e2:cD c=di (af (aT c) 10) mK:=by simp only[cD,h,if_true]
  rw[e1,e2];exact⟨h3,by simp,rfl,rfl,rfl⟩
 ·have h:¬aq (aT c) 10=0:=by simpa using h
  have h':=eq_of_beq h'
  have e1:gN c=⟨(a9 c).Kind,(a9 c).ai++[cz (af (aT c) 10)]⟩:=by simp only[gN];rw[if_neg h,if_pos h']
  have e2:cD c=cC (af (aT c) 10):=by simp only[cD];rw[if_neg h,if_pos h']
  rw[e1,e2];exact⟨h3,by simp only[kQ,j9];omega,rfl,rfl,rfl⟩
 ·have h:¬aq (aT c) 10=0:=by simpa using h
  have h':¬aq (aT c) 10=1:=by simpa using h'
  have ix:=eq_of_beq ix
  have e1:gN c=⟨(a9 c).Kind,(kg (a9 c).ai (af (aT c) 10)).1⟩:=by simp only[gN];rw[if_neg h,if_neg h',if_pos ix]
  have e2:cD c=(kg (a9 c).ai (af (aT c) 10)).2:=by simp only[cD];rw[if_neg h,if_neg h',if_pos ix]
  rw[e1,e2]
  refine⟨⟨rfl,h3,rfl⟩,?_⟩
  rintro⟨r,⟨fk,fl,⟨⟩⟩,⟨cb,ci,ch,⟨⟩⟩,⟨⟩⟩ ⟨g1,g2,g3⟩
  simp only at g1 g2 g3⊢
  have hb:=bJ (c:=⟨cb,ci,ch⟩) (n:=2) (by omega)
  rw[wrap_i64 (n:=5+aq ⟨cb,ci,ch⟩ 2) (by omega) (by omega)]
  refine⟨g2.1,g2.2,ag (fun hc=> ?_) (fun hc=> ?_)⟩
  ·have hc:=yT hc
   rw[qH hc] at g3
   exact⟨ax g2 2,by simp only[kQ,j9];omega,⟨g1,s4 (ax g2 2),g3⟩,by simp only[pK,kR,kQ,j9];omega⟩
  ·have hc:=yF hc
   rw[sM hc] at g3
   rw[<-g3,<-g1]
   exact⟨by trivial,rfl,rfl⟩
 ·have h:¬aq (aT c) 10=0:=by simpa using h
  have h':¬aq (aT c) 10=1:=by simpa using h'
  have ix:¬aq (aT c) 10=2:=by simpa using ix
  have e1:gN c=a9 c:=by simp only[gN];rw[if_neg h,if_neg h',if_neg ix]
  have e2:cD c=af (aT c) 10:=by simp only[cD];rw[if_neg h,if_neg h',if_neg ix]
  rw[e1,e2];exact⟨rfl,rfl,rfl⟩
def Mm:=fQ (α:=List Int) (q1 (qL .byte)) [.ro] (fun _=>[]) (fun code=>⟨[dO (decide (code.length>1048576))],[],[]⟩)
def MO:HH:=hF Mm func16 (by kernel_rfl) [] a0 fun(code:(List Int)) hp hb=>by
 have mw:code.length<=9223372036854775807:=rr (hb _ m0)
 clear hp hb
 apply @ve _ (Lb (decide ((code.length:Int)>1048576)) (decide (code.length>1048576))) (by kernel_rfl)
 exact cO (decide_eq_decide.2 (by omega))
theorem jC{f:br}(h:cm f=true):f.ai.length<=5/\f.ai.all bO=true/\bP f.Kind=true/\f.Kind.size<=12:=by
 simp only[cm,c9,decide_eq_true_eq] at h
 have h2:=h.1.1
 simp only[bP,c9,decide_eq_true_eq] at h2
 exact⟨h.1.2,h.2,h.1.1,h2.1.1.2⟩
theorem tq(c:av):bO (cg c)=true:=by
 unfold cg;split
 ·have:=bJ (c:=af c 2) (n:=3) (by omega)
  simp only[bO,decide_true,cond_true,Hq]
  simp only[decide_eq_true_eq];omega
 ·have h:=iF (af c 2) (l:=oK) (fun s=>decide (s.size<=20)&&fW s) (by decide) (by rfl)
  simp only[bO]
  simpa using h
def oJ(v:bq):Bool:=decide (v.S.size<=21)
def BL(f:br):Prop:=f.Kind.size<=13/\f.ai.length<=6/\f.ai.all oJ=true
theorem tm{v:bq}(h:bO v=true):oJ v=true:=by
 simp only[bO] at h
 simp only[oJ,decide_eq_true_eq]
 by_cases h1:v.K=1
 ·simp[h1] at h;rw[h.2];simp[bT]
 ·by_cases h2:v.K=2
  ·simp[h2] at h;omega
  ·simp[h1,h2] at h
theorem qn(c:av):oJ (dr c)=true:=by
 unfold dr;split
 ·rfl
 ·exact iF (af c 2) (l:=uM) (fun s=>decide (s.size<=21)) (by decide) (by rfl)
theorem uo(c:av):oJ (cz c)=true:=by
 have h:=qn c
 simp only[cz];split
 ·exact h
 ·split
  ·exact h
  ·split
   ·exact iF _ (l:=qt) (fun s=>decide (s.size<=21)) (by decide) (by rfl)
   ·exact h
theorem lN{p:bq->Bool}(hp:∀c,p (cg c)=true):∀(k:Nat)(l:List bq)(c:av),l.all p=true->(gT k l c).all p=true
 |0,_,_,h=>h
 |k+1,l,c,h=>lN hp k _ _ (by rw[List.all_append,h];simp[hp])
theorem ng(c:av):cm (a9 c)=true:=by
 have h1:=oh c
 have h2:=ni c
 have h3:bP (a9 c).Kind=true:=iF c (l:=bz) bP (by decide) (by rfl)
 have h4:(a9 c).ai.all bO=true:=lN tq _ _ _ rfl
 simp only[cm,h3,h4,Hq,CD,decide_eq_true_eq]
 omega
theorem u6{f:br}(h:cm f=true):BL f:=by
 obtain⟨h1,h2,h3,h4⟩:=jC h
 exact⟨by omega,by omega,qc.2 fun v hv=>tm (qc.1 h2 v hv)⟩
theorem mQ{l:List bq}{c:av}(h:l.all oJ=true)(hl:l.length<=6):(kg l c).1.all oJ=true/\(kg l c).1.length<=6:=by
 have hb:=bJ (c:=c) (n:=2) (by omega)
 by_cases hn:(l.length:Int)<5+aq c 2
 ·rw[qH hn]
  refine mQ (l:=l++[dr (af c 2)]) ?_ ?_
  ·rw[List.all_append,h];simp[qn]
  ·simp only[kR,kQ,j9];omega
 ·rw[sM hn];exact⟨h,hl⟩
termination_by 6-l.length
decreasing_by
 simp only[kR,kQ,j9];omega
theorem wm(c:av):BL (gN c):=by
 obtain⟨h1,h2,h3⟩:=u6 (ng c)
 have h5:=(jC (ng c)).1
 simp only[gN];split
 ·refine⟨?_,h2,h3⟩
  have:=iF (af (aT c) 10) (l:=mK) (fun s=>decide (s.size<=13)) (by decide) (by rfl)
  simpa using this
 ·split
  ·exact⟨h1,by simp only[kR,kQ,j9];omega,by rw[List.all_append,h3];simp[uo]⟩
  ·split
   ·exact⟨h1,(mQ h3 h2).2,(mQ h3 h2).1⟩
   ·exact⟨h1,h2,h3⟩
theorem n8:∀{l:List bq},l.all oJ=true->dx l<=22*l.length
 |[],_=>by simp[dx]
 |x::l,h=>by
  simp only[Cz,c9] at h
  have h1:=n8 h.2
  have h2:=h.1
  simp only[oJ,decide_eq_true_eq] at h2
  simp only[dx,kQ,qd,Hp,sG] at h1⊢
  omega
theorem rh{f:br}(h:BL f):cL f<=145:=by
 obtain⟨h1,h2,h3⟩:=h
 have:=n8 h3
 simp only[cL];omega
theorem C0{α:Type}(f:α->Nat)(B:Nat):∀(l:List α),(∀x∈l,f x<=B)->(l.map f).sum<=l.length*B
 |[],_=>by simp
 |x::l,h=>by
  have h1:=C0 f B l (fun y hy=>h y (d_ _ hy))
  have h2:=h x gp
  simp only[qd,Hp,kQ,j8];omega
def xN:List Int:=[0,1,2,3,9,1000000000]
def fe(c:av):ae:=⟨tJ c xN,a9 (qR c xN)⟩
def cU(c:av):av:=aT (qR c xN)
theorem kI{c:av}(h:cy c):cy (cU c):=rq (pD h _)
def jr(t:ae):Prop:=cL t.F<=145
theorem gC(c:av):jr (fe c):=rh (u6 (ng _))
theorem lJ{l:List ae}(h:∀t∈l,jr t):aR l<=l.length*146:=by
 have:=C0 bf 145 l (fun t ht=>h t ht)
 simp only[aR,Nat.mul_add];omega
theorem rA{l:List ae}{x:ae}(h:∀t∈l,jr t)(hx:jr x):∀t∈cf l x,jr t:=by
 unfold cf;split
 ·intro t ht
  rcases cY.1 ht with ht|ht
  ·exact h t (List.mem_of_mem_take ht)
  ·rcases dJ.1 ht with rfl|ht
   ·exact hx
   ·exact h t (List.mem_of_mem_drop ht)
 ·exact h
theorem rz(l:List ae)(x:ae):(cf l x).length<=l.length+1:=by
 unfold cf;split
 ·have:=fv l x.At l.length
  simp;omega
 ·omega
def nr:Nat->List ae->av->List ae×av
 |0,l,c=>(l,c)
 |k+1,l,c=>nr k (cf l (fe c)) (cU c)
theorem rk:∀(k:Nat){l:List ae}{c:av},cy c->(∀t∈l,jr t)->cy (nr k l c).2/\(∀t∈(nr k l c).1,jr t)/\(nr k l c).1.length<=l.length+k
 |0,_,_,h,h2=>⟨h,h2,nC _⟩
 |k+1,l,c,h,h2=>by
  obtain⟨h3,h4,h5⟩:=rk k (kI h) (rA h2 (gC c))
  have:=rz l (fe c)
  exact⟨h3,h4,by simp only[nr];omega⟩
def bR(c:av):List ae×av:=nr (aq c 6).toNat [] (af c 6)
theorem ow{c:av}(h:cy c):cy (bR c).2/\(∀t∈(bR c).1,jr t)/\(bR c).1.length<=5:=by
 have hb:=bJ (c:=c) (n:=6) (by omega)
 obtain⟨h1,h2,h3⟩:=rk (aq c 6).toNat (l:=[]) (ax h 6) (by simp)
 exact⟨h1,h2,by simp only[j9] at h3;simp only[bR];omega⟩
def fh:ae:=⟨1000000000,⟨⟨#[120]⟩,[]⟩⟩
theorem ob:jr fh:=by show cL fh.F<=145;simp[fh,cL,dx,ByteArray.size]
def fL(l:List ae)(c:av):Nat->List ae×av
 |0=>(l,c)
 |k+1=>if(l.length:Int)<29+aq c 3 then fL (l++[fh]) (af c 3) k else(l,af c 3)
theorem ri:∀(k:Nat){l:List ae}{c:av},cy c->(∀t∈l,jr t)->l.length<=31->cy (fL l c k).2/\(∀t∈(fL l c k).1,jr t)/\(fL l c k).1.length<=31
 |0,_,_,h,h1,h2=>⟨h,h1,h2⟩
 |k+1,l,c,h,h1,h2=>by
  have hb:=bJ (c:=c) (n:=3) (by omega)
  simp only[fL];split
  ·refine ri k (ax h 3) (fun t ht=> ?_) (by simp only[kR,kQ,j9];omega)
   rcases cY.1 ht with ht|ht
   ·exact h1 t ht
   ·rw[gn.1 ht];show cL fh.F<=145;simp[fh,cL,dx,ByteArray.size]
  ·exact⟨ax h 3,h1,h2⟩
def eJ(c:av):List ae×av:=let p:=bR c;if db p.2 4 then(p.1++[fe (af p.2 4)],cU (af p.2 4)) else(p.1,af p.2 4)
theorem qM{c:av}(h:cy c):cy (eJ c).2/\(∀t∈(eJ c).1,jr t)/\(eJ c).1.length<=6:=by
 obtain⟨h1,h2,h3⟩:=ow h
 simp only[eJ];split
 ·refine⟨kI (ax h1 4),fun t ht=> ?_,by simp only[kR,kQ,j9];omega⟩
  rcases cY.1 ht with ht|ht
  ·exact h2 t ht
  ·rw[gn.1 ht];exact gC _
 ·exact⟨ax h1 4,h2,by show(bR c).1.length<=6;omega⟩
def bW(c:av):List ae×av:=let p:=eJ c;if db p.2 30 then fL p.1 (af p.2 30) (32-p.1.length) else(p.1,af p.2 30)
theorem s9{c:av}(h:cy c):cy (bW c).2/\(∀t∈(bW c).1,jr t)/\(bW c).1.length<=31:=by
 obtain⟨h1,h2,h3⟩:=qM h
 simp only[bW];split
 ·exact ri _ (ax h1 30) h2 (by omega)
 ·exact⟨ax h1 30,h2,by show(eJ c).1.length<=31;omega⟩
def sO:List Int:=[-1,1000000001]
noncomputable def e_(c:av):ae:=let x:=fe c;let d:=cU c;let k:=aq d 8
 if k=0 then⟨tJ (af d 8) sO,x.F⟩ else if k=1 then⟨x.At,gN (af d 8)⟩ else x
noncomputable def eR(c:av):av:=let d:=cU c;let k:=aq d 8
 if k=0 then qR (af d 8) sO else if k=1 then cD (af d 8) else af d 8
theorem yM{a b:Int}{P Q:Prop}(h1:a=b->P)(h2:¬a=b->Q):bif a==b then P else Q:=ag (fun h=>h1 (eq_of_beq h)) (fun h=>h2 (fun e=>by rw[e] at h;simp at h))
def L_:=fQ (α:=av) (q1 qU) [.box false] (fun c=>[cy c]) (fun c=>⟨[dA .aj (fe c)],[],[dU (cU c)]⟩)
def BU:HH:=hF L_ func51 (by kernel_rfl) [yl,Gh] a0 fun(c:av) hp hb=>by
 have eO:=s7 (x:=c) (hb _ m0)
 have dC:cy c:=hp _ m0
 clear hp hb
 apply @ve _ (let x4:=[0,1,2,3,9,1000000000];let x3:=x4.length;let x2:=(↑x3:Int);let x1:=af c x2;let x0:=aT x1;0<=c.i/\c.b.length<=4294967296/\1<=x3/\cy x1/\(0:Nat)=(0:Nat)/\aY [DV.agg [CI (List.getD x4 (Int.toNat (aq c x2)) 0),CS ((a9 x1).Kind),CL .aH (a9 x1).ai]]=aY [DV.agg [CI ((fe c).At),CS ((fe c).F.Kind),CL .aH (fe c).F.ai]]/\aY [DV.box [CL .byte x0.b,CI x0.i,CI x0.h]]=aY [DV.box [CL .byte (cU c).b,CI ((cU c).i),CI ((cU c).h)]]) (by kernel_rfl)
 dsimp only
 exact⟨dC.1,dC.2,by simp,pD dC xN,by trivial,rfl,rfl⟩
def F4:=fQ (α:=av) (q1 qU) [.box false] (fun c=>[cy c]) (fun c=>⟨[dL .aj ((bR c).1)],[],[dU ((bR c).2)]⟩)
def pW(c:av):List ae×Int×T2×Unit->Prop:=fun(l,i,cu,_)=>0<=i/\i<=5/\(∀t∈l,jr t)/\l.length+i<=5/\cy ⟨cu.1,cu.2.1,cu.2.2.1⟩/\nr i.toNat l ⟨cu.1,cu.2.1,cu.2.2.1⟩=bR c
def pL(c:av):List ae×Int×T2×Unit->Nat:=fun(l,i,cu,_)=>i.toNat
def MW:AX F4:=fun c=>gO [(3,ed [iO 3 .aj,iI 4,.box 0 (2000000,0) [.shr .byte,.lit (.int .i64),.lit (.int .i64)]] (fun _=>pW c) (pL c))]
def Mz:HH:=hF F4 func49 (by kernel_rfl) [nY,BU,NM] MW fun(c:av) hp hb=>by
 have eO:=s7 (x:=c) (hb _ m0)
 have dC:cy c:=hp _ m0
 clear hp hb
 apply @ve _ (0<=c.i/\c.b.length<=4294967296/\pW c ([],aq c 6,((af c 6).b,(af c 6).i,(af c 6).h,()),())/\∀(y:List ae×Int×T3×PUnit),let x1:={b:=y.2.2.1.1,i:=y.2.2.1.2.1,h:=y.2.2.1.2.2.1:av};let x0:=cU x1;let q0:=(cf y.1 (fe x1),wrap i64 (y.2.1-1),(x0.b,x0.i,x0.h,()),());pW c y->bif decide (y.2.1>0) then cy x1/\aR y.1<=4294967296/\bf (fe x1)<=4294967296/\pW c q0/\pL c q0<pL c y else(0:Nat)=(0:Nat)/\aY [VL .aj y.1]=aY [VL .aj ((bR c).1)]/\aY [DV.box [CL .byte y.2.2.1.1,CI y.2.2.1.2.1,CI y.2.2.1.2.2.1]]=aY [DV.box [CL .byte (bR c).2.b,CI ((bR c).2.i),CI ((bR c).2.h)]]) (by kernel_rfl)
 dsimp only
 have hb:=bJ (c:=c) (n:=6) (by omega)
 refine⟨dC.1,dC.2,⟨by omega,by omega,by simp,by simp;omega,ax dC 6,rfl⟩,?_⟩
 rintro⟨l,i,⟨cb,ci,ch,⟨⟩⟩,⟨⟩⟩ ⟨g1,g2,g3,g4,g5,g6⟩
 simp only at g1 g2 g3 g4 g5 g6⊢
 generalize Bt:(⟨cb,ci,ch⟩:av)=cu at*
 refine ag (fun hc=> ?_) (fun hc=> ?_)
 ·have hc:=yT hc
  have e:i.toNat=(i-1).toNat+1:=by omega
  rw[e] at g6
  have hs:=lJ g3
  have hw:bf (fe cu)<=145:=gC cu
  have hl:=rz l (fe cu)
  rw[wrap_i64 (by omega) (by omega)]
  exact⟨g5,by omega,by omega,⟨by omega,by omega,rA g3 (gC cu),by omega,kI g5,g6⟩,by simp only[pL];omega⟩
 ·have hc:=yF hc
  have e:i.toNat=0:=by omega
  rw[e] at g6
  have g8:l=(bR c).1:=congrArg Prod.fst g6
  have g9:cu=(bR c).2:=congrArg Prod.snd g6
  rw[<-g8,<-g9,<-Bt]
  exact⟨by trivial,rfl,rfl⟩
def F7:=fQ (α:=av) (q1 qU) [.box false] (fun c=>[cy c]) (fun c=>⟨[dL .aj ((bW c).1)],[],[dU ((bW c).2)]⟩)
def j0(c:av):List ae×T2×Unit->Prop:=fun(l,cu,_)=>(∀t∈l,jr t)/\l.length<=31/\cy ⟨cu.1,cu.2.1,cu.2.2.1⟩/\fL l ⟨cu.1,cu.2.1,cu.2.2.1⟩ (32-l.length)=bW c
def nw(c:av):List ae×T2×Unit->Nat:=fun(l,cu,_)=>32-l.length
def MZ:AX F7:=fun c=>gO [(5,ed [iO 3 .aj,.box 0 (2000000,0) [.shr .byte,.lit (.int .i64),.lit (.int .i64)]] (fun _=>j0 c) (nw c))]
def MG:HH:=hF F7 func36 (by kernel_rfl) [Mz,ym,BU,nY] MZ fun(c:av) hp hb=>by
 have eO:=s7 (x:=c) (hb _ m0)
 have dC:cy c:=hp _ m0
 clear hp hb
 apply @ve _ (let x0:=af (bR {b:=c.b,i:=c.i,h:=c.h:av}).2 4;let x1:=[{At:=(1000000000:Int),F:={Kind:={data:= #[(120:UInt8)]:BA},ai:=[]:br}:ae}];let x2:=(bR {b:=c.b,i:=c.i,h:=c.h:av}).1++[fe x0];let q0:=bR {b:=c.b,i:=c.i,h:=c.h:av};let q1:=af (cU x0) 30;let q2:=af x0 30;cy c/\cy q0.2/\bif db q0.2 4 then cy x0/\List.length q0.1+List.length [fe x0]<=4294967296/\cy (cU x0)/\bif db (cU x0) 30 then j0 c (x2,(q1.b,q1.i,q1.h,()),())/\∀(y:List ae×T3×PUnit),let x5:={b:=y.2.1.1,i:=y.2.1.2.1,h:=y.2.1.2.2.1:av};let x3:=af x5 3;let x4:=wrap i64 (29+aq x5 3);j0 c y->0<=y.2.1.2.1/\y.2.1.1.length<=4294967296/\bif decide ((y.1.length:Int)<x4) then y.1.length+x1.length<=4294967296/\j0 c (y.1++x1,(x3.b,x3.i,x3.h,()),())/\nw c (y.1++x1,(x3.b,x3.i,x3.h,()),())<nw c y else(0:Nat)=(0:Nat)/\aY [VL .aj y.1]=aY [VL .aj ((bW c).1)]/\aY [DV.box [CL .byte x3.b,CI x3.i,CI x3.h]]=aY [DV.box [CL .byte (bW c).2.b,CI ((bW c).2.i),CI ((bW c).2.h)]] else(0:Nat)=(0:Nat)/\aY [VL .aj x2]=aY [VL .aj ((bW c).1)]/\aY [DV.box [CL .byte q1.b,CI (q1.i),CI (q1.h)]]=aY [DV.box [CL .byte (bW c).2.b,CI ((bW c).2.i),CI ((bW c).2.h)]] else cy x0/\bif db x0 30 then j0 c (q0.1,(q2.b,q2.i,q2.h,()),())/\∀(y:List ae×T3×PUnit),let x5:={b:=y.2.1.1,i:=y.2.1.2.1,h:=y.2.1.2.2.1:av};let x3:=af x5 3;let x4:=wrap i64 (29+aq x5 3);j0 c y->0<=y.2.1.2.1/\y.2.1.1.length<=4294967296/\bif decide ((y.1.length:Int)<x4) then y.1.length+x1.length<=4294967296/\j0 c (y.1++x1,(x3.b,x3.i,x3.h,()),())/\nw c (y.1++x1,(x3.b,x3.i,x3.h,()),())<nw c y else(0:Nat)=(0:Nat)/\aY [VL .aj y.1]=aY [VL .aj ((bW c).1)]/\aY [DV.box [CL .byte x3.b,CI x3.i,CI x3.h]]=aY [DV.box [CL .byte (bW c).2.b,CI ((bW c).2.i),CI ((bW c).2.h)]] else(0:Nat)=(0:Nat)/\aY [VL .aj (q0.1)]=aY [VL .aj ((bW c).1)]/\aY [DV.box [CL .byte q2.b,CI (q2.i),CI (q2.h)]]=aY [DV.box [CL .byte (bW c).2.b,CI ((bW c).2.i),CI ((bW c).2.h)]]) (by kernel_rfl)
 dsimp only
 obtain⟨d1,d2,d3⟩:=ow dC
 obtain⟨m1,m2,m3⟩:=qM dC
 refine⟨dC,d1,ag (fun g=> ?_) (fun g=> ?_)⟩
 ·have hm:eJ c=((bR c).1++[fe (af (bR c).2 4)],cU (af (bR c).2 4)):=if_pos g
  refine⟨ax d1 4,by simp;omega,kI (ax d1 4),?_⟩
  rw[hm] at m1 m2 m3
  refine ag (fun g2=> ?_) (fun g2=> ?_)
  ·have hq:bW c=fL (eJ c).1 (af (eJ c).2 30) (32-(eJ c).1.length):=if_pos (by rw[hm];exact g2)
   rw[hm] at hq
   refine⟨⟨m2,tg m3 (by decide),ax m1 30,hq.symm⟩,?_⟩
   rintro⟨l,⟨cb,ci,ch,⟨⟩⟩,⟨⟩⟩ ⟨q2,q1,q4,q5⟩
   dsimp only at q1 q2 q4 q5⊢
   generalize Bt:(⟨cb,ci,ch⟩:av)=cu at*
   have zd:ci=cu.i:=by rw[<-Bt]
   have Le:cb=cu.b:=by rw[<-Bt]
   have hb:=bJ (c:=cu) (n:=3) (by omega)
   have e:32-l.length=(31-l.length)+1:=by omega
   rw[e] at q5
   rw[wrap_i64 (by omega) (by omega)]
   refine⟨by rw[zd];exact q4.1,by rw[Le];exact q4.2,ag (fun hd=> ?_) (fun hd=> ?_)⟩
   ·have hd:=yT hd
    have hl:l.length<=30:=by omega
    rw[fL,if_pos hd] at q5
    have KO:(l++[fh]).length=l.length+1:=by simp
    refine⟨by simp;omega,⟨fun t ht=> ?_,?_,ax q4 3,?_⟩,?_⟩
    ·rcases cY.1 ht with ht|ht
     ·exact q2 t ht
     ·rw[gn.1 ht];exact ob
    ·show(l++[fh]).length<=31;omega
    ·show fL (l++[fh]) (af cu 3) (32-(l++[fh]).length)=_
     rw[KO,show 32-(l.length+1)=31-l.length by omega];exact q5
    ·show 32-(l++[fh]).length<32-l.length
     omega
   ·have hd:=yF hd
    rw[fL,if_neg hd] at q5
    rw[<-q5]
    exact⟨by trivial,rfl,rfl⟩
  ·have hq:bW c=((eJ c).1,af (eJ c).2 30):=if_neg (by rw[hm];show¬db _ 30=true;rw[g2];decide)
   rw[hm] at hq
   rw[hq];exact⟨by trivial,rfl,rfl⟩
 ·have hm:eJ c=((bR c).1,af (bR c).2 4):=if_neg (by rw[g];decide)
  refine⟨ax d1 4,?_⟩
  rw[hm] at m1 m2 m3
  refine ag (fun g2=> ?_) (fun g2=> ?_)
  ·have hq:bW c=fL (eJ c).1 (af (eJ c).2 30) (32-(eJ c).1.length):=if_pos (by rw[hm];exact g2)
   rw[hm] at hq
   refine⟨⟨m2,tg m3 (by decide),ax m1 30,hq.symm⟩,?_⟩
   rintro⟨l,⟨cb,ci,ch,⟨⟩⟩,⟨⟩⟩ ⟨q2,q1,q4,q5⟩
   dsimp only at q1 q2 q4 q5⊢
   generalize Bt:(⟨cb,ci,ch⟩:av)=cu at*
   have zd:ci=cu.i:=by rw[<-Bt]
   have Le:cb=cu.b:=by rw[<-Bt]
   have hb:=bJ (c:=cu) (n:=3) (by omega)
   have e:32-l.length=(31-l.length)+1:=by omega
   rw[e] at q5
   rw[wrap_i64 (by omega) (by omega)]
   refine⟨by rw[zd];exact q4.1,by rw[Le];exact q4.2,ag (fun hd=> ?_) (fun hd=> ?_)⟩
   ·have hd:=yT hd
    have hl:l.length<=30:=by omega
    rw[fL,if_pos hd] at q5
    have KO:(l++[fh]).length=l.length+1:=by simp
    refine⟨by simp;omega,⟨fun t ht=> ?_,?_,ax q4 3,?_⟩,?_⟩
    ·rcases cY.1 ht with ht|ht
     ·exact q2 t ht
     ·rw[gn.1 ht];exact ob
    ·show(l++[fh]).length<=31;omega
    ·show fL (l++[fh]) (af cu 3) (32-(l++[fh]).length)=_
     rw[KO,show 32-(l.length+1)=31-l.length by omega];exact q5
    ·show 32-(l++[fh]).length<32-l.length
     omega
   ·have hd:=yF hd
    rw[fL,if_neg hd] at q5
    rw[<-q5]
    exact⟨by trivial,rfl,rfl⟩
  ·have hq:bW c=((eJ c).1,af (eJ c).2 30):=if_neg (by rw[hm];show¬db _ 30=true;rw[g2];decide)
   rw[hm] at hq
   rw[hq];exact⟨by trivial,rfl,rfl⟩
def Me:=fQ (α:=av) (q1 qU) [.box false] (fun c=>[cy c]) (fun c=>⟨[dA .aj (e_ c)],[],[dU (eR c)]⟩)
def MF:HH:=hF Me func37 (by kernel_rfl) [BU,nY,yl,My] a0 fun(c:av) hp hb=>by
 have eO:=s7 (x:=c) (hb _ m0)
 have dC:cy c:=hp _ m0
 clear hp hb
 apply @ve _ (let x1:=af (cU c) 8;let x4:=[(-1),1000000001];let x3:=x4.length;let x2:=(↑x3:Int);let x0:=af x1 x2;cy c/\0<=(cU c).i/\List.length (cU c).b<=4294967296/\bif aq (cU c) (8:Int)==(0:Int) then 0<=x1.i/\x1.b.length<=4294967296/\1<=x3/\(0:Nat)=(0:Nat)/\aY [DV.agg [CI (List.getD x4 (Int.toNat (aq x1 x2)) 0),CS ((fe c).F.Kind),CL .aH (fe c).F.ai]]=aY [DV.agg [CI ((e_ c).At),CS ((e_ c).F.Kind),CL .aH (e_ c).F.ai]]/\aY [DV.box [CL .byte x0.b,CI x0.i,CI x0.h]]=aY [DV.box [CL .byte (eR c).b,CI ((eR c).i),CI ((eR c).h)]] else bif aq (cU c) (8:Int)==(1:Int) then cy x1/\(0:Nat)=(0:Nat)/\aY [DV.agg [CI ((fe c).At),CS ((gN x1).Kind),CL .aH (gN x1).ai]]=aY [DV.agg [CI ((e_ c).At),CS ((e_ c).F.Kind),CL .aH (e_ c).F.ai]]/\aY [DV.box [CL .byte (cD x1).b,CI ((cD x1).i),CI ((cD x1).h)]]=aY [DV.box [CL .byte (eR c).b,CI ((eR c).i),CI ((eR c).h)]] else(0:Nat)=(0:Nat)/\aY [DV.agg [CI ((fe c).At),CS ((fe c).F.Kind),CL .aH (fe c).F.ai]]=aY [DV.agg [CI ((e_ c).At),CS ((e_ c).F.Kind),CL .aH (e_ c).F.ai]]/\aY [DV.box [CL .byte x1.b,CI x1.i,CI x1.h]]=aY [DV.box [CL .byte (eR c).b,CI ((eR c).i),CI ((eR c).h)]]) (by kernel_rfl)
 dsimp only
 have h1:=kI dC
 have h2:=ax h1 8
 refine⟨dC,h1.1,h1.2,yM (fun h=> ?_) (fun h=>yM (fun h'=> ?_) (fun h'=> ?_))⟩
 ·have e1:e_ c=⟨tJ (af (cU c) 8) sO,(fe c).F⟩:=if_pos h
  have e2:eR c=qR (af (cU c) 8) sO:=if_pos h
  rw[e1,e2];exact⟨h2.1,h2.2,by simp,by trivial,rfl,rfl⟩
 ·have e1:e_ c=⟨(fe c).At,gN (af (cU c) 8)⟩:=(if_neg h).trans (if_pos h')
  have e2:eR c=cD (af (cU c) 8):=(if_neg h).trans (if_pos h')
  rw[e1,e2];exact⟨h2,by trivial,rfl,rfl⟩
 ·have e1:e_ c=fe c:=(if_neg h).trans (if_neg h')
  have e2:eR c=af (cU c) 8:=(if_neg h).trans (if_neg h')
  rw[e1,e2];exact⟨by trivial,rfl,rfl⟩
theorem gS{l:List ae}:aI l=true↔l.length<=30/\(∀t∈l,cr t=true)/\l.Pairwise (fun a b=>a.At<=b.At):=by
 have hg:∀{i:Nat}(h:i<l.length),List.getD l i aC=l[i]:=fun{i} h=>by rw[cB,cF h];rfl
 simp only[aI,c9,decide_eq_true_eq]
 refine and_congr_right fun _=> ?_
 have uf:allI l.length (ct l)=true↔∀j,j<l.length->ct l j=true:=by simp[allI]
 rw[uf]
 constructor
 ·intro h
  refine⟨fun t ht=> ?_,?_⟩
  ·obtain⟨i,hi,rfl⟩:=nJ ht
   have:=h i hi
   simp only[ct,c9] at this
   rw[<-hg hi];exact this.1
  ·have step:∀i (hi:i+1<l.length),l[i].At<=l[i+1].At:=fun i hi=>by
    have:=h (i+1) hi
    simp only[ct,c9,qi,decide_eq_true_eq,Nat.add_sub_cancel] at this
    rw[hg hi,hg (by omega)] at this
    rcases this.2 with h0|h0
    ·omega
    ·exact h0
   rw[Cy]
   intro i j hi hj vJ
   obtain⟨k,rfl⟩:∃k,j=i+1+k:=⟨j-i-1,by omega⟩
   clear vJ
   induction k with
   |zero=>exact step i hj
   |succ k ih=>exact Int.le_trans (ih (by omega)) (step (i+1+k) hj)
 ·rintro⟨h1,h2⟩ j hj
  simp only[ct,c9,qi,decide_eq_true_eq]
  refine⟨by rw[hg hj];exact h1 _ (wQ hj),?_⟩
  by_cases h0:j=0
  ·exact .inl h0
  ·right
   rw[Cy] at h2
   rw[hg hj,hg (show j-1<l.length by omega)]
   exact h2 (j-1) j (by omega) hj (by omega)
theorem sX{α:Type}{l:List α}{z:α}{i j:Nat}(h:j<i):List.getD (l.take i) j z=List.getD l j z:=by
 rw[cB,cB,fg,if_pos h]
theorem aO.takeN{F:Nat->Prop}{w:World}{deep:Bool}{τ:UU.Ty}{xs:List (UU.T τ)}{vs:List Value}{fl:List (List Nat)}(h:aO EE w F deep τ xs vs fl){n:Nat}(hn:n<=xs.length):aO EE w F deep τ (xs.take n) (vs.take (n*UU.wd τ)) (fl.take (n*UU.wd τ)):=by
 obtain⟨h1,h2,h3⟩:=h
 have hm:n*UU.wd τ<=xs.length*UU.wd τ:=kS _ hn
 have e:(xs.take n).length=n:=by rw[jw];omega
 refine⟨by rw[e,jw];omega,by rw[e,jw];omega,fun i x j c hx hj=> ?_⟩
 have hl:=bm hx hj
 rw[e] at hl
 rw[fg] at hx
 split at hx
 ·rw[sX hl,sX hl];exact h3 i x j c hx hj
 ·cases hx
theorem aO.FG{F:Nat->Prop}{w:World}{deep:Bool}{τ:UU.Ty}{xs:List (UU.T τ)}{vs:List Value}{fl:List (List Nat)}(h:aO EE w F deep τ xs vs fl){n:Nat}(hn:n<=xs.length):aO EE w F deep τ (xs.drop n) (vs.drop (n*UU.wd τ)) (fl.drop (n*UU.wd τ)):=by
 obtain⟨h1,h2,h3⟩:=h
 have hm:xs.length*UU.wd τ=(xs.length-n)*UU.wd τ+n*UU.wd τ:=by rw[<-j8];congr 1;omega
 refine⟨by rw[n0,n0];omega,by rw[n0,n0];omega,fun i x j c hx hj=> ?_⟩
 rw[nH] at hx
 have h:=h3 (n+i) x j c hx hj
 have e:(n+i)*UU.wd τ+j=n*UU.wd τ+(i*UU.wd τ+j):=by rw[j8];omega
 rw[e] at h
 simpa only[cB,nH] using h
theorem nf{fl:List (List Nat)}(n:Nat):fl.flatten=(fl.take n).flatten++(fl.drop n).flatten:=by rw[<-qb,zu]
theorem tL{g vb:Nat}{fl gl:List (List Nat)}(n:Nat)(h:(g::fl.flatten++(vb::gl.flatten)).Nodup):(g::(fl.take n++gl++fl.drop n).flatten).Nodup/\∀b∈g::(fl.take n++gl++fl.drop n).flatten,b∈g::fl.flatten++(vb::gl.flatten):=by
 have e:(fl.take n++gl++fl.drop n).flatten=(fl.take n).flatten++gl.flatten++(fl.drop n).flatten:=by simp
 have e0:=nf (fl:=fl) n
 rw[e,e0]
 rw[e0] at h
 have hp:List.Perm (g::((fl.take n).flatten++gl.flatten++(fl.drop n).flatten)) (g::((fl.take n).flatten++(fl.drop n).flatten)++gl.flatten):=by
  refine List.Perm.cons _ ?_
  show((fl.take n).flatten++gl.flatten++(fl.drop n).flatten).Perm ((fl.take n).flatten++(fl.drop n).flatten++gl.flatten)
  rw[kP,kP]
  exact List.Perm.append_left _ List.perm_append_comm
 have hs:List.Sublist (g::((fl.take n).flatten++(fl.drop n).flatten)++gl.flatten) (g::((fl.take n).flatten++(fl.drop n).flatten)++(vb::gl.flatten)):=List.Sublist.append_left (List.sublist_cons_self _ _) _
 exact⟨hp.nodup_iff.2 (hs.nodup h),fun b hb=>hs.subset (hp.subset hb)⟩
theorem pc{F:Nat->Prop}{w w':World}{s v:List ae}{k:Nat}(hk:k<=s.length){xs us:List Value}{fl gl:List (List Nat)}{l1 l3:List Nat}(hF:∀b,F b->b<w.heap.size)(hx:aO EE w F true .aj s xs fl)(hu:aO EE w F true .aj v us gl)
  {b cap:Nat} {cur:Array Value} (hb:w'.heap[b]? =some (.cells cur 38 (0,0))) (hc:s.length+v.length<=cap) (hm:cap<=maxLen) (hs:cur.size=cap*3) (gY:cur.toList.take ((s.length+v.length)*3)=xs.take (k*3)++us++xs.drop (k*3))
  (fi:bB (·∈[l1,[],l3].flatten) w w') (bQ:∀c,c<w.heap.size->c≠b->w'.heap[c]? =w.heap[c]?) (jf:b<w'.heap.size)
  (vX:b∈l1\/w.heap.size<=b) (aX:∀c∈fl.flatten++gl.flatten,c≠b) (fy:∀c∈fl.flatten++gl.flatten,c∈[l1,[],l3].flatten)
  (fc:(b::(fl.take (k*3)++gl++fl.drop (k*3)).flatten).Nodup) (eE:∀c∈(fl.take (k*3)++gl++fl.drop (k*3)).flatten,c∈fl.flatten++gl.flatten) (vE:∀c∈[l1,[],l3].flatten,c<w.heap.size/\¬F c) (hw:w.heap.size<=w'.heap.size):
  ∃(rs:List Value)(dz bL:List (List Nat)),Ending.returned (.slice (some ⟨b,0,none⟩) (s.length+v.length) cap)=.returned (oN rs)/\bB (·∈[l1,[],l3].flatten) w w'/\
   dH EE w' (fJ F w w' (dz.flatten++bL.flatten) [l1,[],l3].flatten) [] [.one (.sl .aj (s.take k++v++s.drop k))] rs dz/\bL=[]/\
   (dz.flatten++bL.flatten).Nodup/\(∀c∈dz.flatten,(c∈[l1,[],l3].flatten\/w.heap.size<=c)/\c<w'.heap.size):=by
 have Nq:∀c,F c->w'.heap[c]? =w.heap[c]? :=fun c hc=>bQ c (hF c hc) (fun e=>by
  rcases vX with h|h
  ·exact(vE b (by simp[h])).2 (e▸hc)
  ·have:=hF c hc;omega)
 have y9:∀c∈fl.flatten++gl.flatten,w'.heap[c]? =w.heap[c]? :=fun c hc=>bQ c (vE c (fy c hc)).1 (aX c hc)
 have tN:=hx.bu (w':=w') (F':=fJ F w w' ([b::(fl.take (k*3)++gl++fl.drop (k*3)).flatten].flatten++([]:List (List Nat)).flatten) [l1,[],l3].flatten) (fun c hc=>⟨.inl hc,Nq c hc⟩) (fun c hc=>y9 c (fV _ hc))
 have gG:=hu.bu (w':=w') (F':=fJ F w w' ([b::(fl.take (k*3)++gl++fl.drop (k*3)).flatten].flatten++([]:List (List Nat)).flatten) [l1,[],l3].flatten) (fun c hc=>⟨.inl hc,Nq c hc⟩) (fun c hc=>y9 c (fD _ hc))
 have hr:=((tN.takeN hk).append gG).append (tN.FG hk)
 have hlen:(s.take k++v++s.drop k).length=s.length+v.length:=by simp only[kR,jw,n0];omega
 have eG:=aZ.er (E:=EE) (τ:=(.aj:Cd)) (xs:=s.take k++v++s.drop k) hb (tg (Nat.le_of_eq hlen) hc) hm hs ((congrArg (fun n=>cur.toList.take (n*3)) hlen).trans gY) hr
 have e2:Value.slice (some ⟨b,0,none⟩) (s.take k++v++s.drop k).length cap=.slice (some ⟨b,0,none⟩) (s.length+v.length) cap:=by rw[hlen]
 refine⟨[.slice (some ⟨b,0,none⟩) (s.length+v.length) cap],[b::(fl.take (k*3)++gl++fl.drop (k*3)).flatten],[],rfl,fi,⟨?_,trivial⟩,rfl,by simpa using fc,fun c hc=> ?_⟩
 ·exact Eq.mp (congrArg (fun z=>Rp EE w' (fJ F w w' ([b::(fl.take (k*3)++gl++fl.drop (k*3)).flatten].flatten++([]:List (List Nat)).flatten) [l1,[],l3].flatten) true (.sl (.aj:Cd) (s.take k++v++s.drop k)) z (b::(fl.take (k*3)++gl++fl.drop (k*3)).flatten)) e2) eG.tn
 ·simp only[rJ,Cu,oG] at hc
  rcases dJ.1 hc with rfl|hc
  ·exact⟨vX.imp (fun h=>by simp[h]) id,jf⟩
  ·have h:=fy c (eE c hc)
   exact⟨.inl h,by have:=(vE c h).1;omega⟩
def Mg:eg UU where
 α:=(List ae)×Int×(List ae)
 md:=[.mv,.ro,.mv]
 of:=oC (oL .aj) (oC oI (o1 (oL .aj)))
 ds:=fun x=>[dL .aj x.1,dI x.2.1,dL .aj x.2.2]
 pre:=fun(s,i,v)=>[0<=i/\i<=s.length,0<v.length,s.length+v.length<=4294967296]
 fZ:=fun(s,i,v)=>⟨[dL .aj (s.take i.toNat++v++s.drop i.toNat)],[],[]⟩
 law:=lC (lL .aj) (lC lI (l1 (lL .aj)))
theorem LU:ef EE (28,Mg):=by
 refine⟨⟨_,func28,by kernel_rfl,by kernel_rfl⟩,?_⟩
 rintro⟨s,i,v⟩ hp w F vs ls hF nS eF _ fc vE
 have dC:0<=i/\i<=s.length:=hp _ m0
 have mZ:0<v.length:=hp _ m1
 have GR:s.length+v.length<=4294967296:=hp _ m2
 obtain⟨kr,i0,z0,hi,hz,b9,lg,qg,_⟩:=tf.code 38 .aj rfl
 have l_:i0.size=3:=b9
 have lg:z0.cells.size=3:=lg
 obtain⟨_,g2,g3⟩:=eF.len
 match vs,g2,eF with
 |[sv,iv,vv],_,eF=>
 match ls,g3,eF,fc,vE with
 |[l1,l2,l3],_,eF,fc,vE=>
 obtain⟨h1,⟨h2,rfl⟩,h3,_⟩:=eF
 have h1:=Rp.kp h1
 have h3:=Rp.kp h3
 obtain⟨_,rfl,_⟩:=h2.dK
 obtain⟨k,rfl⟩:∃k:Nat,i=(k:Int):=⟨i.toNat,by omega⟩
 have hk:k<=s.length:=by omega
 show Calls prog 28 _ _ _
 have ek:((k:Int)).toNat=k:=rfl
 rcases h3.rows with⟨he,_,_⟩|⟨vb,wT,wS,us,gl,rfl,ux,PS,PR,rE,N_,EI,rfl⟩
 ·rw[show v=[] from he] at mZ;simp at mZ
 have lh:us.length=v.length*3:=EI.1
 have fS:∀j u,us[j]? =some u->w.cell? ⟨vb,j,none⟩=some u:=fun j u hj=>by
  have ir:=hj
  rw[<-N_,fg] at ir
  split at ir
  ·simp only[World.cell?,ux];simpa using ir
  ·cases ir
 have BG:=EI.bn
 rcases h1.rows with⟨he,⟨ad,rfl⟩,rfl⟩|⟨g,cap,cur,xs,fl,rfl,hg,ub,Ns,E8,y_,AA,rfl⟩
 ·have hs:s=[]:=he
  subst hs
  have nE:k=0:=by simpa using hk
  subst nE
  have AB:∀c∈vb::gl.flatten,c<w.heap.size/\¬F c:=fun c hc=>vE c (by simpa using hc)
  refine(tM i0 z0 hi hz l_ lg qg w ad vb v.length wT us mZ lh fS BG (by simpa using GR)).mono ?_
  rintro e w' ⟨G,rfl,q1,q2,⟨C,q3,q4,q5⟩,q6,q7,q8,q9,Nd⟩
  have jf:w.heap.size<w'.heap.size:=by omega
  have sh:(vb::gl.flatten).Nodup:=by simpa using fc
  obtain⟨rs,dz,bL,r1,r2,r3,rfl,r5,r6⟩:=pc (F:=F) (w:=w) (w':=w') (s:=[]) (v:=v) (k:=0) (xs:=[]) (us:=us) (fl:=[]) (gl:=gl) (l1:=[]) (l3:=vb::gl.flatten) (nC _) hF aO.nil EI q5 (by simpa using q1) q2 (by simpa using q3) (by simpa using q4)
   ⟨q6,q7,q8,by omega,fun c hc _=>Nd c hc⟩ (fun c hc _=>Nd c hc) jf (.inr (nC _)) (fun c hc=>by have:=(AB c (by simp at hc⊢;exact .inr hc)).1;omega) (fun c hc=>by simp at hc⊢;exact .inr hc)
   (by
    simp only[List.take_nil,List.drop_nil,List.nil_append,oG]
    exact gx.2 ⟨fun hc=>by have:=(AB _ (d_ _ hc)).1;omega,(gx.1 sh).2⟩) (fun c hc=>by simpa using hc) (fun c hc=>AB c (by simpa using hc)) (by omega)
  refine⟨rs,dz,[],?_,r2,r3,?_,r5,r6,fun c hc=>by simp at hc⟩
  ·rw[<-r1];simp
  ·trivial
 ·have rD:xs.length=s.length*3:=AA.1
  have NE:=AA.bn
  have Bl:cap<=9223372036854775807:=by unfold maxLen at Ns;omega
  have tW:∀c∈g::fl.flatten++(vb::gl.flatten),c<w.heap.size/\¬F c:=fun c hc=>vE c (by simpa using hc)
  have qZ:(g::fl.flatten++(vb::gl.flatten)).Nodup:=by simpa using fc
  obtain⟨n1,n2⟩:=tL (k*3) qZ
  have GX:g<w.heap.size:=(tW g (by simp)).1
  have AB:vb<w.heap.size:=(tW vb (by simp)).1
  have Ob:vb≠g:=fun e=>by subst e;simp at qZ
  have jv:∀c∈fl.flatten++gl.flatten,c∈g::fl.flatten++(vb::gl.flatten):=fun c hc=>by
   rcases cY.1 hc with h|h
   ·exact fV _ (d_ _ h)
   ·exact fD _ (d_ _ h)
  have Oq:∀c∈fl.flatten++gl.flatten,c≠g:=fun c hc e=>by
   subst e
   have:=(gx.1 qZ).1
   apply this
   rcases cY.1 hc with h|h
   ·exact fV _ h
   ·exact fD _ (d_ _ h)
  have eE:∀c∈(fl.take (k*3)++gl++fl.drop (k*3)).flatten,c∈fl.flatten++gl.flatten:=fun c hc=>by
   simp only[qb,cY] at hc⊢
   rw[nf (fl:=fl) (k*3),cY]
   rcases hc with(hc|hc)|hc
   ·exact .inl (.inl hc)
   ·exact .inr hc
   ·exact .inl (.inr hc)
  have gb:∀(w':World)(cur':Array Value),cur'.size=cap*3->cur'.toList.take ((s.length+v.length)*3)=xs.take (k*3)++us++xs.drop (k*3)->s.length+v.length<=cap->w'.heap[g]? =some (.cells cur' 38 (0,0))->w'.os=w.os->w'.tape=w.tape->w'.output=w.output->w.heap.size<=w'.heap.size->(∀c,c<w.heap.size->c≠g->w'.heap[c]? =w.heap[c]?)->
    ∃(rs:List Value)(dz bL:List (List Nat)),Ending.returned (.slice (some ⟨g,0,none⟩) (s.length+v.length) cap)=.returned (oN rs)/\bB (·∈[g::fl.flatten,[],vb::gl.flatten].flatten) w w'/\
     dH EE w' (fJ F w w' (dz.flatten++bL.flatten) [g::fl.flatten,[],vb::gl.flatten].flatten) [] [.one (.sl .aj (s.take k++v++s.drop k))] rs dz/\bL=[]/\(dz.flatten++bL.flatten).Nodup/\(∀c∈dz.flatten,(c∈[g::fl.flatten,[],vb::gl.flatten].flatten\/w.heap.size<=c)/\c<w'.heap.size):=
   fun w' cur' e1 e2 e3 e4 e5 e6 e7 e8 e9=>pc (F:=F) (w:=w) (w':=w') (l1:=g::fl.flatten) (l3:=vb::gl.flatten) hk hF AA EI e4 e3 Ns e1 e2 ⟨e5,e6,e7,e8,fun c hc hn=>e9 c hc (fun h=>hn (by simp[h]))⟩ e9 (by omega) (.inl (by simp)) Oq (fun c hc=>by have:=jv c hc;simpa using this) n1 eE (fun c hc=>tW c (by simpa using hc)) e8
  have FQ:∀(w':World)(G:Nat)(C:List Value),C.length=G*3->C.take ((s.length+v.length)*3)=xs.take (k*3)++us++xs.drop (k*3)->s.length+v.length<=G->G<=maxLen->w'.heap[w.heap.size]? =some (.cells C.toArray 38 (0,0))->w'.os=w.os->w'.tape=w.tape->w'.output=w.output->w.heap.size<w'.heap.size->(∀c,c<w.heap.size->c≠g->w'.heap[c]? =w.heap[c]?)->
    (∀c,c<w.heap.size->w'.heap[c]? =w.heap[c]?)->∃(rs:List Value)(dz bL:List (List Nat)),Ending.returned (.slice (some ⟨w.heap.size,0,none⟩) (s.length+v.length) G)=.returned (oN rs)/\bB (·∈[g::fl.flatten,[],vb::gl.flatten].flatten) w w'/\
     dH EE w' (fJ F w w' (dz.flatten++bL.flatten) [g::fl.flatten,[],vb::gl.flatten].flatten) [] [.one (.sl .aj (s.take k++v++s.drop k))] rs dz/\bL=[]/\(dz.flatten++bL.flatten).Nodup/\(∀c∈dz.flatten,(c∈[g::fl.flatten,[],vb::gl.flatten].flatten\/w.heap.size<=c)/\c<w'.heap.size):=by
   intro w' G C e1 e2 e3 e4 e5 e6 e7 e8 e9 zh Pr
   have fi:bB (·∈[g::fl.flatten,[],vb::gl.flatten].flatten) w w':=⟨e6,e7,e8,by omega,fun c hc hn=>zh c hc (fun h=>hn (by simp[h]))⟩
   by_cases Nt:w'.heap[g]? =w.heap[g]?
   ·exact pc (F:=F) (w:=w) (w':=w') (l1:=g::fl.flatten) (l3:=vb::gl.flatten) hk hF AA EI e5 e3 e4 (by simpa using e1) (by simpa using e2) fi (fun c hc _=>by
     by_cases h:c=g
     ·rw[h];exact Nt
     ·exact zh c hc h) e9 (.inr (nC _)) (fun c hc=>by have:=(tW c (jv c hc)).1;omega) (fun c hc=>by have:=jv c hc;simpa using this)
     (gx.2 ⟨fun hc=>by have:=(tW _ (jv _ (eE _ hc))).1;omega,(gx.1 n1).2⟩) eE (fun c hc=>tW c (by simpa using hc)) (by omega)
   ·exact absurd (Pr g GX) Nt
  by_cases Cg:k=s.length
  ·subst Cg
   have e0:xs.take (s.length*3)++us++xs.drop (s.length*3)=xs++us:=by rw[zt (by omega),List.drop_eq_nil_of_le (by omega),oG]
   refine(vn i0 z0 hi hz l_ lg qg w g cap s.length cur xs hg Bl ub E8 y_ vb v.length wT us mZ lh fS BG GR).mono ?_
   rintro e w' (⟨cur',rfl,e3,e1,e2,rfl⟩|⟨G,rfl,e3,e4,⟨C,e1,e2,e5⟩,e6,e7,e8,e9,zh⟩)
   ·obtain⟨rs,dz,bL,r1,r2,r3,rfl,r5,r6⟩:=gb (w.setRow g cur') cur' (e1.trans E8) (e2.trans e0.symm) e3 (setRow_heap w g cur cur' _ _ hg) rfl rfl rfl (by simp) (fun c hc hn=>setRow_other w g c cur' hn)
    exact⟨rs,dz,[],r1,r2,r3,trivial,r5,r6,fun c hc=>by simp at hc⟩
   ·obtain⟨rs,dz,bL,r1,r2,r3,rfl,r5,r6⟩:=FQ w' G C e1 (e2.trans e0.symm) e3 e4 e5 e6 e7 e8 (by omega) (fun c hc _=>zh c hc) zh
    exact⟨rs,dz,[],r1,r2,r3,trivial,r5,r6,fun c hc=>by simp at hc⟩
  ·have y9:k<s.length:=by omega
   by_cases eu:s.length+v.length<=cap
   ·refine(tK i0 hi l_ w g cap s.length k cur xs hg Bl E8 y_ vb v.length wT wS us ux Ob mZ lh fS BG NE y9 eu).mono ?_
    rintro e w' ⟨rfl,cur',e1,e2,rfl⟩
    obtain⟨rs,dz,bL,r1,r2,r3,rfl,r5,r6⟩:=gb (w.drew.setRow g cur') cur' (e1.trans E8) e2 eu (setRow_heap w.drew g cur cur' _ _ hg) rfl rfl rfl (by simp) (fun c hc hn=>setRow_other w.drew g c cur' hn)
    exact⟨rs,dz,[],r1,r2,r3,trivial,r5,r6,fun c hc=>by simp at hc⟩
   ·refine(vo i0 z0 hi hz l_ lg qg w g cap s.length k cur xs hg Bl ub E8 y_ vb v.length wT us AB mZ lh fS BG NE y9 (by omega) GR).mono ?_
    rintro e w' ⟨G,rfl,e3,e4,⟨C,e1,e2,e5⟩,e6,e7,e8,e9,zh⟩
    obtain⟨rs,dz,bL,r1,r2,r3,rfl,r5,r6⟩:=FQ w' G C e1 e2 e3 e4 e5 e6 e7 e8 (by omega) (fun c hc _=>zh c hc) zh
    exact⟨rs,dz,[],r1,r2,r3,trivial,r5,r6,fun c hc=>by simp at hc⟩
def MI:HH:=⟨_,LU⟩
def Gc:=fQ (α:=(List ae)×ae) (qC (qL .aj) (q1 (qA .aj))) [.ro,.ro] (fun(l,x)=>[aR l<=4294967296,bf x<=4294967296]) (fun(l,x)=>⟨[dL .aj (cf l x),dO (bG l x)],[],[]⟩)
def p6(l:(List ae))(x:ae):List ae×Int×T0×Unit->Prop:=fun(o,k,b,_)=>o=l/\0<=k/\k<=l.length/\cp l x.At k.toNat=cp l x.At l.length/\b=(x.At,x.F.Kind,x.F.ai,())
def pR(l:(List ae))(x:ae):List ae×Int×T0×Unit->Nat:=fun(o,k,b,_)=>k.toNat
def M5:AX Gc:=fun(l,x)=>gO [(5,ed [iO 6 .aj,iI 7,.box 3 (3,1024) [.lit (.int .i64),.lit .str,.shr .aH]] (fun _=>p6 l x) (pR l x))]
def MP:HH:=hF Gc func10 (by kernel_rfl) [MJ,Gn,Gk,Gj,MI] M5 fun x hp hb=>by
 obtain⟨l,x⟩:=x
 have sf:l.length<=9223372036854775807:=rr (hb _ m0)
 have mn:=jq (x:=x) (hb _ m1)
 have iQ:=mn.1
 have gr:=mn.2
 have dC:aR l<=4294967296:=hp _ m0
 have mZ:bf x<=4294967296:=hp _ m1
 clear hp hb
 apply @ve _ (let q0:=Lf [VL .aj l,VB false] [VL .aj (cf l x),VB (bG l x)];aR l<=4294967296/\bif !aI l then q0 else bif !cr x then q0 else bif (l.length:Int)==30 then q0 else p6 l x (l,(l.length:Int),(x.At,x.F.Kind,x.F.ai,()),())/\∀(y:List ae×Int×T4×PUnit),let x1:=[{At:=y.2.2.1.1,F:={Kind:=y.2.2.1.2.1,ai:=y.2.2.1.2.2.1:br}:ae}];let x2:=wrap i64 (y.2.1-1);let x3:=y.2.1.toNat;let x0:=x1.length;let q1:=y.2.2.1.2.2.1.length<=4294967296/\(0<=y.2.1/\y.2.1<=(y.1.length:Int))/\0<x0/\y.1.length+x0<=4294967296/\Lf [VL .aj (List.take x3 y.1++x1++List.drop x3 y.1),VB true] [VL .aj (cf l x),VB (bG l x)];let q2:=(y.1,x2,(y.2.2.1.1,y.2.2.1.2.1,y.2.2.1.2.2.1,()),());p6 l x y->bif decide (y.2.1>0) then 0<=x2/\x2.toNat<y.1.length/\x2.toNat<y.1.length/\bif decide ((List.getD y.1 x2.toNat aC).At>y.2.2.1.1) then p6 l x q2/\pR l x q2<pR l x y else q1 else q1) (by kernel_rfl)
 dsimp only
 have off:bG l x=false->Lf [.one (.sl .aj l),.one (.lit (.bool false))] [.one (.sl .aj (cf l x)),.one (.lit (.bool (bG l x)))]:=fun hf=>Ct (by rw[cf,hf];rfl) hf.symm
 refine⟨dC,ag (fun h=>off ?_) (fun h=>ag (fun h'=>off ?_) (fun h'=>ag (fun ix=>off ?_) (fun ix=> ?_)))⟩
 ·simp only[bG];simp at h;simp[h]
 ·simp only[bG];simp at h';simp[h']
 ·simp only[bG];simp at ix;rw[decide_eq_false (by omega)];simp
 have h:aI l=true:=by simpa using h
 have h':cr x=true:=by simpa using h'
 have h3:¬(l.length:Int)=30:=by simpa using ix
 have Ph:l.length<=30:=by simp only[aI,c9,decide_eq_true_eq] at h;exact h.1
 have ho:bG l x=true:=by simp only[bG];rw[h,h',decide_eq_true (by omega)];rfl
 have hT:cf l x=ev l (cp l x.At l.length) x:=by rw[cf,if_pos ho];rfl
 have hF:x.F.ai.length<=4294967296:=by simp only[bf,cL,dx] at mZ;omega
 refine⟨⟨rfl,by omega,by omega,rfl,rfl⟩,?_⟩
 rintro⟨o,k,⟨bA,bK,bF,⟨⟩⟩,⟨⟩⟩
 dsimp only
 rintro⟨rfl,h1,h2,pe,hb⟩
 cases hb
 have fin:cp o x.At k.toNat=k.toNat->x.F.ai.length<=4294967296/\(0<=k/\k<=(o.length:Int))/\(0:Nat)<[(⟨x.At,x.F⟩:ae)].length/\o.length+[(⟨x.At,x.F⟩:ae)].length<=4294967296/\Lf [.one (.sl .aj (List.take k.toNat o++[(⟨x.At,x.F⟩:ae)]++List.drop k.toNat o)),.one (.lit (.bool true))] [.one (.sl .aj (cf o x)),.one (.lit (.bool (bG o x)))]:=by
  intro hk
  refine⟨hF,⟨h1,h2⟩,by simp,by simp only[kQ,j9];omega,Ct ?_ ho.symm⟩
  rw[hT,<-pe,hk,ev,kP];rfl
 refine ag (fun hc=> ?_) (fun hc=> ?_)
 ·have hc:=yT hc
  have hw:IntKind.i64.wrap (k-1)=k-1:=wrap_i64 (by omega) (by omega)
  have ek:(k-1).toNat=k.toNat-1:=by omega
  obtain⟨n,hn⟩:∃n,k.toNat=n+1:=⟨k.toNat-1,by omega⟩
  rw[hw,ek]
  refine⟨by omega,by omega,by omega,ag (fun hg=> ?_) (fun hg=> ?_)⟩
  ·have hg:=yT hg
   refine⟨⟨rfl,by omega,by omega,?_,rfl⟩,by simp only[pR];omega⟩
   rw[<-pe,ek,hn]
   rw[hn] at hg
   simp only[Nat.add_sub_cancel] at hg⊢
   rw[cp,if_pos hg]
  ·have hg:=yF hg
   refine fin ?_
   rw[hn] at hg⊢
   simp only[Nat.add_sub_cancel] at hg
   rw[cp,if_neg hg]
 ·have hc:=yF hc
  refine fin ?_
  have:k.toNat=0:=by omega
  rw[this,cp]
theorem wU(a b:bq):(a.K==b.K&&(a.N==b.N&&(ByteArray.toList a.S==ByteArray.toList b.S&&true)))=decide (a=b):=by
 obtain⟨K,N,S⟩:=a
 obtain⟨K',N',S'⟩:=b
 simp only[eM,Hq]
 rw[B0]
 simp only[c9,beq_iff_eq,decide_eq_true_eq,bq.mk.injEq]
theorem wa{a b:br}:a=b↔a.Kind=b.Kind/\a.ai=b.ai:=by
 obtain⟨k,f⟩:=a;obtain⟨k',f'⟩:=b;simp
def F6:=fQ (α:=(List bq)×(List bq)) (qC (qL .aH) (q1 (qL .aH))) [.ro,.ro] (fun _=>[]) (fun(a,b)=>⟨[dO (decide (a=b))],[],[]⟩)
def nz(a:(List bq))(b:(List bq)):Int×Unit->Prop:=fun(i,_)=>0<=i/\i<=a.length/\a.length=b.length/\(a.drop i.toNat=b.drop i.toNat↔a=b)
def pN(a:(List bq))(b:(List bq)):Int×Unit->Nat:=fun(i,_)=>a.length-i.toNat
def MY:AX F6:=fun(a,b)=>gO [(4,ed [iI 13] (fun _=>nz a b) (pN a b))]
def ME:HH:=hF F6 func38 (by kernel_rfl) [] MY fun x hp hb=>by
 obtain⟨a,b⟩:=x
 have OG:a.length<=9223372036854775807:=rr (hb _ m0)
 have OE:b.length<=9223372036854775807:=rr (hb _ m1)
 clear hp hb
 apply @ve _ (bif (a.length:Int) !=(b.length:Int) then Lb false (decide (a=b)) else nz a b (0,())/\∀(y:Int×PUnit),let x0:=List.getD b y.1.toNat nK;let x1:=List.getD a y.1.toNat nK;let q0:=(wrap i64 (y.1+1),());nz a b y->bif decide (y.1<(a.length:Int)) then 0<=y.1/\y.1.toNat<a.length/\0<=y.1/\y.1.toNat<b.length/\bif !(x1.K==x0.K&&(x1.N==x0.N&&(ByteArray.toList x1.S==ByteArray.toList x0.S&&true))) then Lb false (decide (a=b)) else nz a b q0/\pN a b q0<pN a b y else Lb true (decide (a=b))) (by kernel_rfl)
 dsimp only
 refine ag (fun h=>Gt ?_) (fun h=>⟨?_,?_⟩)
 ·rintro rfl;simp at h
 ·simp[nz] at*;omega
 rintro⟨i,⟨⟩⟩ ⟨h1,h2,h3,hR⟩
 simp only at*
 refine ag (fun hc=> ?_) (fun hc=> ?_)
 ·have hc:i<a.length:=by simpa using hc
  rw[jh a nK h1 hc,jh b nK h1 (by omega)] at hR
  rw[wrap_i64 (by omega) (by omega)]
  simp only[wU]
  refine⟨by omega,by omega,by omega,by omega,ag (fun h=>Gt ?_) (fun h=>⟨⟨by omega,by omega,h3,?_⟩,?_⟩)⟩
  ·rw[<-hR];simp at h;simp[h]
  ·rw[<-hR];simp at h;simp[h]
  ·simp only[pN];omega
 ·have hc:a.length<=i:=by simpa using hc
  rw[fN a hc,fN b (by omega)] at hR
  exact M7 (hR.1 rfl)
def Mk:=fQ (α:=br×br) (qC (qA .cN) (q1 (qA .cN))) [.ro,.ro] (fun _=>[]) (fun(a,b)=>⟨[dO (decide (a=b))],[],[]⟩)
def MM:HH:=hF Mk func18 (by kernel_rfl) [ME] a0 fun x hp hb=>by
 obtain⟨a,b⟩:=x
 have mo:=gM (x:=a) (hb _ m0)
 have Cf:=mo.1
 have y8:=mo.2
 have mn:=gM (x:=b) (hb _ m1)
 have Ce:=mn.1
 have y7:=mn.2
 clear hp hb
 apply @ve _ (bif ByteArray.toList a.Kind==ByteArray.toList b.Kind then Lb (decide (a.ai=b.ai)) (decide (a=b)) else Lb false (decide (a=b))) (by kernel_rfl)
 simp only[eM]
 refine ag (fun h=>cO ?_) (fun h=>cO ?_)<;>(simp only[wa];grind)
theorem jN{l:List ae}{a:Int}(hp:l.Pairwise (fun a b=>a.At<=b.At)):∀n,n<=l.length->(∀j,j<cp l a n->(List.getD l j aC).At<=a)/\∀j,cp l a n<=j->j<n->a<(List.getD l j aC).At
 |0,_=>⟨fun j hj=>by simp[cp] at hj,fun j _ hj=>by omega⟩
 |n+1,hn=>by
  obtain⟨h1,h2⟩:=jN hp n (by omega)
  have hg:∀{i:Nat}(h:i<l.length),List.getD l i aC=l[i]:=fun{i} h=>by rw[cB,cF h];rfl
  rw[cp]
  split
  ·rename_i h
   refine⟨h1,fun j g1 g2=> ?_⟩
   by_cases e:j=n
   ·subst e;omega
   ·exact h2 j g1 (by omega)
  ·rename_i h
   refine⟨fun j hj=> ?_,fun j g1 g2=>by omega⟩
   by_cases e:j=n
   ·subst e;omega
   ·rw[Cy] at hp
    have:=hp j n (by omega) (by omega) (by omega)
    rw[hg (by omega)] at h⊢
    omega
theorem qp{l:List ae}{x:ae}(h:aI l=true):aI (cf l x)=true:=by
 unfold cf
 split
 ·rename_i ha
  simp only[bG,c9,decide_eq_true_eq] at ha
  obtain⟨g1,g2,g3⟩:=gS.1 h
  obtain⟨p1,p2⟩:=jN (a:=x.At) g3 l.length (nC _)
  have hp:=fv l x.At l.length
  refine gS.2 ⟨by simp only[kR,jw,kQ,n0];omega,fun t ht=> ?_,?_⟩
  ·rcases cY.1 ht with ht|ht
   ·exact g2 t (List.mem_of_mem_take ht)
   ·rcases dJ.1 ht with ht|ht
    ·rw[ht];exact ha.1.2
    ·exact g2 t (List.mem_of_mem_drop ht)
  ·rw[List.pairwise_append]
   refine⟨g3.sublist (List.take_sublist _ _),List.pairwise_cons.2 ⟨fun b hb=> ?_,g3.sublist (List.drop_sublist _ _)⟩,fun a ha b hb=> ?_⟩
   ·obtain⟨j,hj,e⟩:=nJ hb
    rw[List.getElem_drop] at e
    simp only[n0] at hj
    have:=p2 (cp l x.At l.length+j) (by omega) (by omega)
    rw[cB,cF (by omega)] at this
    rw[<-e];exact Int.le_of_lt this
   ·obtain⟨i,hi,e⟩:=nJ ha
    rw[List.getElem_take] at e
    simp only[jw] at hi
    have hle:=p1 i (by omega)
    rw[cB,cF (by omega)] at hle
    have hle:a.At<=x.At:=by rw[<-e];exact hle
    rcases dJ.1 hb with hb|hb
    ·rw[hb];exact hle
    ·obtain⟨j,hj,e'⟩:=nJ hb
     rw[List.getElem_drop] at e'
     simp only[n0] at hj
     have:=p2 (cp l x.At l.length+j) (by omega) (by omega)
     rw[cB,cF (by omega)] at this
     have:x.At<b.At:=by rw[<-e'];exact this
     omega
 ·exact h
theorem sE{l:List ae}{a:Int}(h:aI l=true){k:Nat}(hk:k<=l.length)(h1:∀j,j<k->(List.getD l j aC).At<=a)(h2:k<l.length->(List.getD l k aC).At>a):k=cp l a l.length:=by
 obtain⟨p1,p2⟩:=jN (a:=a) (gS.1 h).2.2 l.length (nC _)
 have hp:=fv l a l.length
 rcases Nat.lt_trichotomy k (cp l a l.length) with g|g|g
 ·have:=p1 k g;have:=h2 (by omega);omega
 ·exact g
 ·have:=p2 (cp l a l.length) (nC _) (by omega);have:=h1 _ g;omega
theorem wX{l:List ae}{x:ae}(h:bG l x=true):(cf l x).length=l.length+1:=by
 have hp:=fv l x.At l.length
 rw[cf,if_pos h];simp only[kR,jw,kQ,n0];omega
theorem zB{l:List ae}{x:ae}(h:bG l x=true):List.getD (cf l x) (cp l x.At l.length) aC=x:=by
 have hp:=fv l x.At l.length
 rw[cf,if_pos h,cB,kT (by rw[jw];omega),jw,show cp l x.At l.length-min (cp l x.At l.length) l.length=0 by omega];rfl
theorem zz{l:List ae}{x:ae}(h:bG l x=true){i:Nat}(hi:i<cp l x.At l.length):List.getD (cf l x) i aC=List.getD l i aC:=by
 have hp:=fv l x.At l.length
 rw[cf,if_pos h,cB,cB,j7 (by rw[jw];omega),fg,if_pos hi]
theorem zA{l:List ae}{x:ae}(h:bG l x=true){i:Nat}(hi:cp l x.At l.length<=i):List.getD (cf l x) (i+1) aC=List.getD l i aC:=by
 have hp:=fv l x.At l.length
 rw[cf,if_pos h,cB,cB,kT (by rw[jw];omega),jw,show i+1-min (cp l x.At l.length) l.length=(i-cp l x.At l.length)+1 by omega,List.getElem?_cons_succ,nH,show cp l x.At l.length+(i-cp l x.At l.length)=i by omega]
theorem um(c:av):jr (e_ c):=by
 simp only[e_]
 split
 ·exact gC c
 ·split
  ·exact rh (wm _)
  ·exact gC c
noncomputable def tX(code:List Int):ae:=e_ (bW (bE code)).2
def Ml:=fQ (α:=List Int) (q1 (qL .byte)) [.ro] (fun code=>[code.length<=4294967296]) (fun code=>⟨[dL .aj ((bW (bE code)).1),dA .aj (tX code)],[],[]⟩)
def MN:HH:=hF Ml func17 (by kernel_rfl) [MH,MG,MF] a0 fun(code:(List Int)) hp hb=>by
 have mw:code.length<=9223372036854775807:=rr (hb _ m0)
 have dC:code.length<=4294967296:=hp _ m0
 clear hp hb
 apply @ve _ (let x1:=e_ (bW {b:=(bE code).b,i:=(bE code).i,h:=(bE code).h:av}).2;let x0:=x1.F;let q0:=bE code;let q1:=bW {b:=q0.b,i:=q0.i,h:=q0.h:av};code.length<=4294967296/\cy q0/\cy q1.2/\Lf [VL .aj (q1.1),DV.agg [CI x1.At,CS x0.Kind,CL .aH x0.ai]] [VL .aj ((bW q0).1),DV.agg [CI ((tX code).At),CS ((tX code).F.Kind),CL .aH (tX code).F.ai]]) (by kernel_rfl)
 dsimp only
 have h1:=(s9 (pC dC)).1
 exact⟨dC,pC dC,h1,eC _⟩
def aD:eg UU where
 α:=(List Int)
 md:=[.ro]
 of:=o1 (oL .byte)
 ds:=fun x=>[dL .byte x]
 pre:=fun _=>[]
 fZ:=fun code=>⟨[dO true],[],[]⟩
 law:=l1 (lL .byte)
def cX(code:(List Int)):List ae×T0×List ae×Int×Unit->Prop:=fun(l,b,m,k,_)=>l=(bW (bE code)).1/\b=((tX code).At,(tX code).F.Kind,(tX code).F.ai,())/\m=cf l (tX code)/\0<=k/\k<=l.length/\∀j:Nat,j<k.toNat->(List.getD l j aC).At<=(tX code).At
def cE(code:(List Int)):List ae×T0×List ae×Int×Unit->Nat:=fun(l,b,m,k,_)=>l.length-k.toNat
def bC(code:(List Int)):List ae×List ae×Int×Int×Unit->Prop:=fun(l,m,k,i,_)=>l=(bW (bE code)).1/\m=cf l (tX code)/\k=(cp l (tX code).At l.length:Nat)/\0<=i/\i<=l.length
def aN(code:(List Int)):List ae×List ae×Int×Int×Unit->Nat:=fun(l,m,k,i,_)=>l.length-i.toNat
def cW:aD.α->Nat->Option (iC UU):=fun code=>gO [(9,ed [iO 3 .aj,.box 4 (4,1024) [.lit (.int .i64),.lit .str,.own .aH true],iO 5 .aj,iI 9] (fun _=>cX code) (cE code)),(14,ed [iO 3 .aj,iO 5 .aj,iI 9,iI 10] (fun _=>bC code) (aN code))]
def cT:=us [MO,MN,MP,NM,MM,Gn]
def cw(code:(List Int)):List ae×T0×List ae×Int×Unit->Prop:=fun(l,b,m,k,_)=>l=(bW (bE code)).1/\b=((tX code).At,(tX code).F.Kind,(tX code).F.ai,())/\m=cf l (tX code)/\bG l (tX code)=true/\k=(cp l (tX code).At l.length:Nat)
def cV:aD.α->iC UU:=fun code=>ed [iO 3 .aj,.box 4 (4,1024) [.lit (.int .i64),.lit .str,.own .aH true],iO 5 .aj,iI 9] (fun _=>cw code) (fun _=>0)
theorem ka(code:(List Int))(y:List ae×T0×List ae×Int×Unit):nc EE cT f4 aD cW code 11 (cV code) y=(let x1:=y.2.2.2.1.toNat;
let x2:=List.length y.2.2.1;
let x0:=List.getD y.2.2.1 x1 aC;
bif (↑x2:Int) !=wrap i64 ((↑(List.length y.1):Int)+(1:Int)) then Lf [DV.one (Cell.lit (Value.bool false))] [DV.one (Cell.lit (Value.bool true))]
else
 (0:Int)<=y.2.2.2.1/\
  x1<x2/\
   x1<x2/\
    bif x0.At !=y.2.1.1 then Lf [DV.one (Cell.lit (Value.bool false))] [DV.one (Cell.lit (Value.bool true))]
    else
     (0:Int)<=y.2.2.2.1/\
      x1<x2/\
       x1<x2/\
        x1<x2/\
         bif !decide (x0.F={Kind:=y.2.1.2.1,ai:=y.2.1.2.2.1:br}) then Lf [DV.one (Cell.lit (Value.bool false))] [DV.one (Cell.lit (Value.bool true))]
         else
          bif !aI y.2.2.1 then Lf [DV.one (Cell.lit (Value.bool false))] [DV.one (Cell.lit (Value.bool true))]
          else
           bC code (y.1,y.2.2.1,y.2.2.2.1,(0:Int),PUnit.unit)/\
            ∀(y:List ae×List ae×Int×Int×PUnit),
             let x3:=Int.toNat y.2.2.2.1;
             let x4:=wrap i64 (y.2.2.2.1+(1:Int));
             let x5:=List.getD y.2.1 (Int.toNat x4) aC;
             let x6:=List.getD y.2.1 x3 aC;
             let x7:=List.length y.2.1;
             bC code y->bif decide (y.2.2.2.1<(↑(List.length y.1):Int)) then bif decide (y.2.2.2.1≥y.2.2.1) then(0:Int)<=x4/\Int.toNat x4<x7/\Int.toNat x4<x7/\(0:Int)<=y.2.2.2.1/\x3<List.length y.1/\x3<List.length y.1/\bif x5.At !=(List.getD y.1 x3 aC).At then Lf [DV.one (Cell.lit (Value.bool false))] [DV.one (Cell.lit (Value.bool true))] else(0:Int)<=x4/\Int.toNat x4<x7/\Int.toNat x4<x7/\(0:Int)<=y.2.2.2.1/\x3<List.length y.1/\x3<List.length y.1/\Int.toNat x4<x7/\x3<List.length y.1/\bif !decide (x5.F=(List.getD y.1 x3 aC).F) then Lf [DV.one (Cell.lit (Value.bool false))] [DV.one (Cell.lit (Value.bool true))] else bC code (y.1,y.2.1,y.2.2.1,x4,PUnit.unit)/\aN code (y.1,y.2.1,y.2.2.1,x4,PUnit.unit)<aN code y else(0:Int)<=y.2.2.2.1/\x3<x7/\x3<x7/\(0:Int)<=y.2.2.2.1/\x3<List.length y.1/\x3<List.length y.1/\bif x6.At !=(List.getD y.1 x3 aC).At then Lf [DV.one (Cell.lit (Value.bool false))] [DV.one (Cell.lit (Value.bool true))] else(0:Int)<=y.2.2.2.1/\x3<x7/\x3<x7/\(0:Int)<=y.2.2.2.1/\x3<List.length y.1/\x3<List.length y.1/\x3<x7/\x3<List.length y.1/\bif !decide (x6.F=(List.getD y.1 x3 aC).F) then Lf [DV.one (Cell.lit (Value.bool false))] [DV.one (Cell.lit (Value.bool true))] else bC code (y.1,y.2.1,y.2.2.1,x4,PUnit.unit)/\aN code (y.1,y.2.1,y.2.2.1,x4,PUnit.unit)<aN code y else Lf [DV.one (Cell.lit (Value.bool true))] [DV.one (Cell.lit (Value.bool true))]):=by kernel_rfl
theorem kV(code:(List Int))(y:List ae×T0×List ae×Int×Unit)(hp:∀p∈aD.pre code,p)(hb:∀d∈aD.ds code,gQ d)(hy:cw code y):nc EE cT f4 aD cW code 11 (cV code) y:=by
 have mw:code.length<=9223372036854775807:=rr (hb _ m0)
 clear hp hb
 rw[ka code y]
 dsimp only
 obtain⟨l,⟨bA,bK,bF,⟨⟩⟩,m,k,⟨⟩⟩:=y
 obtain⟨vH,hb,rfl,ho,rfl⟩:=hy
 cases hb
 have vH:l=(bW (bE code)).1:=vH
 have ho:bG l (tX code)=true:=ho
 have hl:=ho
 simp only[bG,c9,decide_eq_true_eq] at hl
 obtain⟨⟨vz,PQ⟩,Ph⟩:=hl
 have hp:=fv l (tX code).At l.length
 have e1:=wX ho
 have e2:=zB ho
 have e3:aI (cf l (tX code))=true:=qp vz
 dsimp only
 rw[NP,e2,wrap_i64 (by omega) (by omega)]
 refine ag (fun g=>absurd g (by rw[e1];simp)) (fun _=>⟨by omega,by omega,by omega,ag (fun g=>absurd g (by simp)) (fun _=>⟨by omega,by omega,by omega,by omega,ag (fun g=>absurd g (by simp)) (fun _=>ag (fun g=>absurd g (by rw[e3];decide)) (fun _=>⟨⟨vH,rfl,rfl,by omega,by omega⟩,?_⟩))⟩)⟩)
 rintro⟨l',m,k,i,⟨⟩⟩
 dsimp only
 rintro⟨qf,rfl,rfl,h1,h2⟩
 have qf:l'=l:=qf.trans vH.symm
 subst qf
 have h1:0<=i:=h1
 have h2:i<=(l'.length:Int):=h2
 refine ag (fun hc=> ?_) (fun hc=>eC _)
 have hc:=yT hc
 rw[wrap_i64 (by omega) (by omega)]
 have ei:(i+1).toNat=i.toNat+1:=by omega
 have nx:bC code (l',cf l' (tX code),((cp l' (tX code).At l'.length:Nat):Int),i+1,())/\aN code (l',cf l' (tX code),((cp l' (tX code).At l'.length:Nat):Int),i+1,())<aN code (l',cf l' (tX code),((cp l' (tX code).At l'.length:Nat):Int),i,()):=⟨⟨vH,rfl,rfl,by omega,by omega⟩,by simp only[aN];omega⟩
 refine ag (fun hg=> ?_) (fun hg=> ?_)
 ·have hg:=yT hg
  rw[ei,zA ho (i:=i.toNat) (by omega)]
  repeat' (first|exact nx|refine And.intro (by omega) ?_|refine ag (fun h=>absurd h (by simp)) (fun _=> ?_)|fail)
 ·have hg:=yF hg
  rw[zz ho (i:=i.toNat) (by omega)]
  repeat' (first|exact nx|refine And.intro (by omega) ?_|refine ag (fun h=>absurd h (by simp)) (fun _=> ?_)|fail)
theorem kU(code:(List Int))(hp:∀p∈aD.pre code,p)(hb:∀d∈aD.ds code,gQ d):pt EE cT f4 aD cW code 11 (cV code):=by
 have mw:code.length<=9223372036854775807:=rr (hb _ m0)
 clear hp hb
 apply @ve _ (let x1:=bG (bW (bE code)).1 (tX code);let x0:=x1==x1;let q0:=bif x0 then Lb ((↑(List.length (cf (bW (bE code)).1 (tX code))):Int)==(↑(List.length (bW (bE code)).1):Int)) true else Lb false true;let q1:=bW (bE code);bif decide (code.length>1048576) then Lb true true else code.length<=4294967296/\aR q1.1<=4294967296/\bf (tX code)<=4294967296/\aR q1.1<=4294967296/\bf (tX code)<=4294967296/\bif !x0 then q0 else bif !x1 then q0 else cX code (q1.1,((tX code).At,(tX code).F.Kind,(tX code).F.ai,()),cf q1.1 (tX code),0,())/\∀(y:List ae×T4×List ae×Int×PUnit),let x3:=y.2.2.2.1.toNat;let x2:=(List.getD y.1 x3 aC).At;let q2:=(y.2.1.1,y.2.1.2.1,y.2.1.2.2.1,());let q3:=(y.1,q2,y.2.2.1,wrap i64 (y.2.2.2.1+1),());let q4:=cw code (y.1,q2,y.2.2.1,y.2.2.2.1,());cX code y->bif decide (y.2.2.2.1<(y.1.length:Int)) then 0<=y.2.2.2.1/\x3<y.1.length/\x3<y.1.length/\bif decide (x2<=y.2.1.1) then cX code q3/\cE code q3<cE code y else q4 else q4) (by kernel_rfl)
 dsimp only
 refine ag (fun h=>eC _) (fun h=> ?_)
 have h:=yF h
 obtain⟨q1,q2,q3⟩:=s9 (pC (code:=code) (by omega))
 have hs:=lJ q2
 have hx:bf (tX code)<=145:=um _
 refine⟨by omega,by omega,by omega,by omega,by omega,?_⟩
 cases ho:bG (bW (bE code)).1 (tX code)
 ·have e:cf (bW (bE code)).1 (tX code)=(bW (bE code)).1:=by rw[cf,ho];rfl
  rw[e]
  simp only[beq_self_eq_true,Gu,Cx,cond_true,cond_false]
  exact eC _
 ·simp only[beq_self_eq_true,Gu,Cx,cond_true,cond_false]
  have vz:aI (bW (bE code)).1=true:=by simp only[bG,c9] at ho;exact ho.1.1
  refine⟨⟨rfl,rfl,rfl,by omega,by omega,fun j hj=>by simp at hj⟩,?_⟩
  rintro⟨l,⟨bA,bK,bF,⟨⟩⟩,m,k,⟨⟩⟩
  dsimp only
  rintro⟨rfl,hb,rfl,h1,h2,h3⟩
  cases hb
  have h1:0<=k:=h1
  have h2:k<=((bW (bE code)).1.length:Int):=h2
  refine ag (fun hc=> ?_) (fun hc=> ?_)
  ·have hc:=yT hc
   have bU:k.toNat<(bW (bE code)).1.length:=by omega
   refine⟨h1,bU,bU,ag (fun g=> ?_) (fun g=> ?_)⟩
   ·have g:=yT g
    rw[wrap_i64 (by omega) (by omega)]
    refine⟨⟨rfl,rfl,rfl,by omega,by omega,fun j hj=> ?_⟩,by simp only[cE];omega⟩
    by_cases e:j=k.toNat
    ·rw[e];exact g
    ·exact h3 j (by omega)
   ·have g:=yF g
    have:=sE (k:=k.toNat) vz (by omega) h3 (fun _=>by omega)
    exact⟨rfl,rfl,rfl,ho,by omega⟩
  ·have hc:=yF hc
   have:=sE (k:=k.toNat) vz (by omega) h3 (fun _=>by omega)
   exact⟨rfl,rfl,rfl,ho,by omega⟩
attribute [local irreducible] pt nc in
theorem gD:ef EE (4,aD):=by
 refine tT tf func4 aD (by kernel_rfl) cT (yD _) cW 11 cV (by kernel_rfl) (fun(code:(List Int)) hp hb=> ?_)
 refine⟨kU code hp hb,fun(y:List ae×T0×List ae×Int×Unit) hy=> ?_⟩
 have hy:cw code y:=hy
 exact kV code y hp hb hy
def uz:HH:=⟨_,gD⟩
end
end AM
