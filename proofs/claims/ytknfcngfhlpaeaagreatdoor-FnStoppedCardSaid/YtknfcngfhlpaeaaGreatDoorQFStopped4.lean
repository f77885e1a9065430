import Derived.Test.YtknfcngfhlpaeaaGreatDoorQAmLib
import Derived.Test.YtknfcngfhlpaeaaGreatDoorQFStopped3
import Derived.Lib.ItoaLen
import Derived.Lib.Join
import Derived.Test.YtknfcngfhlpaeaaGreatDoorQShelf
namespace AM
open Go Go.Proofs.Tryz Go.IntKind
set_option linter.unusedVariables false
set_option linter.unusedSimpArgs false
set_option maxRecDepth 100000
noncomputable section
def U2:=cf (α:=(List ck)×(List ck)) (qC (qL .ey) (q1 (qL .ey))) [.ro,.ro] (fun _=>[]) (fun(a,b)=>⟨[dO (decide (a=b))],[],[]⟩)
def BY(a:List ck)(b:List ck):Int×Unit->Prop:=fun(i,_)=>0<=i/\i<=a.length/\a.length=b.length/\(a.drop i.toNat=b.drop i.toNat↔a=b)
def uG(a:List ck)(b:List ck):Int×Unit->Nat:=fun(i,_)=>a.length-i.toNat
def BX(a:List ck)(b:List ck):Int×Int×Unit->Int×Int×Unit->Prop:=fun(i0,k0,_) (i,k,_)=>i=i0/\0<=k/\k<=(a.getD i.toNat cr).aC.length/\(a.getD i.toNat cr).aC.length=(b.getD i.toNat cr).aC.length/\((a.getD i.toNat cr).aC.drop k.toNat=(b.getD i.toNat cr).aC.drop k.toNat↔(a.getD i.toNat cr).aC=(b.getD i.toNat cr).aC)
def A7(a:List ck)(b:List ck):Int×Int×Unit->Nat:=fun(i,k,_)=>(a.getD i.toNat cr).aC.length-k.toNat
def agJ:AX U2:=fun(a,b)=>b_ [(4,aY [iI 5] (fun _=>BY a b) (uG a b)),(9,aY [iI 5,iI 6] (BX a b) (A7 a b))]
def afr:HH:=hF U2 func151 [] agJ fun x hp hb=>by
 obtain⟨a,b⟩:=x
 have Pv:gz (U:=UU) (.one (.sl .ey a)):=hb _ m0
 have MP:L9 a.length:=kc (hb _ m0)
 have MN:L9 b.length:=kc (hb _ m1)
 clear hp hb
 apply vE (let q0:=Lb false (decide (a=b));bif (a.length:Int) !=(b.length:Int) then q0 else BY a b (0,())/\∀(y:Int×PUnit),let x0:=b.getD y.1.toNat cr;let x1:=a.getD y.1.toNat cr;let q1:=(y.1,0,());BY a b y->bif decide (y.1<(a.length:Int)) then 0<=y.1/\y.1.toNat<a.length/\0<=y.1/\y.1.toNat<b.length/\bif !x1.Kind.toList==x0.Kind.toList then q0 else 0<=y.1/\y.1.toNat<a.length/\0<=y.1/\y.1.toNat<b.length/\bif !x1.Not==x0.Not then q0 else 0<=y.1/\y.1.toNat<a.length/\0<=y.1/\y.1.toNat<b.length/\bif (x1.aC.length:Int) !=(x0.aC.length:Int) then q0 else BX a b q1 q1/\∀(aE:Int×Int×PUnit),let x2:=aE.2.1.toNat;let x5:=(b.getD aE.1.toNat cr).aC.getD x2 l8;let x6:=(a.getD aE.1.toNat cr).aC.getD x2 l8;let x7:=(↑((a.getD aE.1.toNat cr).aC.length):Int);let x3:=x6.V;let x4:=x5.V;let q2:=(aE.1,wrap i64 (aE.2.1+1),());let q3:=(wrap i64 (aE.1+1),());BX a b q1 aE->0<=aE.1/\aE.1.toNat<a.length/\bif decide (aE.2.1<x7) then 0<=aE.1/\aE.1.toNat<a.length/\0<=aE.2.1/\x2<(a.getD aE.1.toNat cr).aC.length/\0<=aE.1/\aE.1.toNat<b.length/\0<=aE.2.1/\x2<(b.getD aE.1.toNat cr).aC.length/\bif !(x6.K==x5.K&&(x6.S.toList==x5.S.toList&&(x3.K==x4.K&&(x3.N==x4.N&&(x3.S.toList==x4.S.toList&&true))&&true))) then q0 else BX a b q1 q2/\A7 a b q2<A7 a b aE else BY a b q3/\uG a b q3<uG a b y else Lb true (decide (a=b)))
 dsimp only
 refine ab (fun h=>lg (pW (by simpa using h))) (fun h=>⟨⟨by omega,by omega,(tq (a:=a) (b:=b) (by assumption)),by simp⟩,?_⟩)
 rintro⟨i,⟨⟩⟩ ⟨h1,h2,h3,hR⟩
 simp only
 refine ab ?_ ?_<;>intro hc
 ·have hc:i<a.length:=yT hc
  have hm:uG a b (i+1,PUnit.unit)<uG a b (i,()):=by simp only[uG];omega
  try simp only[S1]
  try simp only[aQ]
  have hz:_:=YF (a.getD i.toNat cr) (b.getD i.toNat cr)
  have hlA:(a.getD i.toNat cr).aC.length<=9223372036854775807:=Bd.len (Bd.row Pv (x:=a.getD i.toNat cr) (c:=.sl .im (a.getD i.toNat cr).aC) (w8 a _ h1 hc) (.tail _ (.head _)))
  repeat' (first|refine And.intro (by omega) ?_|refine ab (fun h=>lg (mj cr h1 hc (by omega) hR (by first|grind|(rw[hz];grind)))) (fun h=> ?_))
  refine⟨⟨rfl,by omega,by omega,(tq (a:=(a.getD i.toNat cr).aC) (b:=(b.getD i.toNat cr).aC) (by assumption)),by simp⟩,?_⟩
  rintro⟨i,k,⟨⟩⟩ ⟨rfl,g1,g2,g3,gR⟩
  try simp only
  repeat' (refine And.intro (by omega) ?_)
  refine ab ?_ ?_<;>intro hk
  ·have hk:=yT hk
   simp(disch:=omega) only[wrap_i64]
   repeat' (first|refine And.intro (by omega) ?_|refine ab (fun h=> ?_) (fun h=> ?_))
   all_goals first|exact lg (mj cr h1 hc (by omega) hR (fun e=>absurd (by rw[e]) (mj l8 g1 hk (by omega) gR (by grind))))|exact⟨⟨rfl,by omega,by omega,g3,oE l8 g1 hk (by omega) gR (by grind)⟩,by simp only[A7];omega⟩
  ·have hk:(a.getD i.toNat cr).aC.length<=k:=by have:=yF hk;omega
   have he:=ld hk (by omega) gR
   simp(disch:=omega) only[wrap_i64]
   exact⟨⟨by omega,by omega,h3,oE cr h1 hc (by omega) hR (by first|grind|(rw[hz];grind))⟩,hm⟩
 ·have hc:a.length<=i:=by have:=yF hc;omega
  exact Js (ld hc (by omega) hR)
def Vl:=cf (α:=(List au)×(List au)) (qC (qL .av) (q1 (qL .av))) [.ro,.ro] (fun _=>[]) (fun(a,b)=>⟨[dO (decide (a=b))],[],[]⟩)
def Ce(a:List au)(b:List au):Int×Unit->Prop:=fun(i,_)=>0<=i/\i<=a.length/\a.length=b.length/\(a.drop i.toNat=b.drop i.toNat↔a=b)
def uI(a:List au)(b:List au):Int×Unit->Nat:=fun(i,_)=>a.length-i.toNat
def Cc(a:List au)(b:List au):Int×Int×Unit->Int×Int×Unit->Prop:=fun(i0,k0,_) (i,k,_)=>i=i0/\0<=k/\k<=(a.getD i.toNat bh).bE.length/\(a.getD i.toNat bh).bE.length=(b.getD i.toNat bh).bE.length/\((a.getD i.toNat bh).bE.drop k.toNat=(b.getD i.toNat bh).bE.drop k.toNat↔(a.getD i.toNat bh).bE=(b.getD i.toNat bh).bE)
def Bk(a:List au)(b:List au):Int×Int×Unit->Nat:=fun(i,k,_)=>(a.getD i.toNat bh).bE.length-k.toNat
def ag6:AX Vl:=fun(a,b)=>b_ [(4,aY [iI 5] (fun _=>Ce a b) (uI a b)),(9,aY [iI 5,iI 6] (Cc a b) (Bk a b))]
def af0:HH:=hF Vl func100 [VC] ag6 fun x hp hb=>by
 obtain⟨a,b⟩:=x
 have Pv:gz (U:=UU) (.one (.sl .av a)):=hb _ m0
 have MP:L9 a.length:=kc (hb _ m0)
 have MN:L9 b.length:=kc (hb _ m1)
 clear hp hb
 apply vE (let q0:=Lb false (decide (a=b));bif (a.length:Int) !=(b.length:Int) then q0 else Ce a b (0,())/\∀(y:Int×PUnit),let x0:=a.getD y.1.toNat bh;let x1:=b.getD y.1.toNat bh;let q1:=(y.1,0,());Ce a b y->bif decide (y.1<(a.length:Int)) then 0<=y.1/\y.1.toNat<a.length/\0<=y.1/\y.1.toNat<b.length/\bif !decide (x0.cO=x1.cO/\x0.ep=x1.ep) then q0 else 0<=y.1/\y.1.toNat<a.length/\0<=y.1/\y.1.toNat<b.length/\bif (x0.bE.length:Int) !=(x1.bE.length:Int) then q0 else Cc a b q1 q1/\∀(aE:Int×Int×PUnit),let x2:=aE.2.1.toNat;let x3:=((b.getD aE.1.toNat bh).bE.getD x2 sj).V;let x4:=((a.getD aE.1.toNat bh).bE.getD x2 sj).V;let x5:=(↑((a.getD aE.1.toNat bh).bE.length):Int);let q2:=(aE.1,wrap i64 (aE.2.1+1),());let q3:=(wrap i64 (aE.1+1),());Cc a b q1 aE->0<=aE.1/\aE.1.toNat<a.length/\bif decide (aE.2.1<x5) then 0<=aE.1/\aE.1.toNat<a.length/\0<=aE.2.1/\x2<(a.getD aE.1.toNat bh).bE.length/\0<=aE.1/\aE.1.toNat<b.length/\0<=aE.2.1/\x2<(b.getD aE.1.toNat bh).bE.length/\bif !(((a.getD aE.1.toNat bh).bE.getD x2 sj).Name.toList==((b.getD aE.1.toNat bh).bE.getD x2 sj).Name.toList&&(x4.K==x3.K&&(x4.N==x3.N&&(x4.S.toList==x3.S.toList&&true))&&true)) then q0 else Cc a b q1 q2/\Bk a b q2<Bk a b aE else Ce a b q3/\uI a b q3<uI a b y else Lb true (decide (a=b)))
 dsimp only
 refine ab (fun h=>lg (pW (by simpa using h))) (fun h=>⟨⟨by omega,by omega,(tq (a:=a) (b:=b) (by assumption)),by simp⟩,?_⟩)
 rintro⟨i,⟨⟩⟩ ⟨h1,h2,h3,hR⟩
 simp only
 refine ab ?_ ?_<;>intro hc
 ·have hc:i<a.length:=yT hc
  have hm:uI a b (i+1,PUnit.unit)<uI a b (i,()):=by simp only[uI];omega
  try simp only[P6]
  try simp only[aQ]
  have hz:_:=PN (a.getD i.toNat bh) (b.getD i.toNat bh)
  have hlA:(a.getD i.toNat bh).bE.length<=9223372036854775807:=Bd.len (Bd.row Pv (x:=a.getD i.toNat bh) (c:=.sl .cw (a.getD i.toNat bh).bE) (w8 a _ h1 hc) (.tail _ (.tail _ (.head _))))
  repeat' (first|refine And.intro (by omega) ?_|refine ab (fun h=>lg (mj bh h1 hc (by omega) hR (by first|grind|(rw[hz];grind)))) (fun h=> ?_))
  refine⟨⟨rfl,by omega,by omega,(tq (a:=(a.getD i.toNat bh).bE) (b:=(b.getD i.toNat bh).bE) (by assumption)),by simp⟩,?_⟩
  rintro⟨i,k,⟨⟩⟩ ⟨rfl,g1,g2,g3,gR⟩
  try simp only
  repeat' (refine And.intro (by omega) ?_)
  refine ab ?_ ?_<;>intro hk
  ·have hk:=yT hk
   simp(disch:=omega) only[wrap_i64]
   repeat' (first|refine And.intro (by omega) ?_|refine ab (fun h=> ?_) (fun h=> ?_))
   all_goals first|exact lg (mj bh h1 hc (by omega) hR (fun e=>absurd (by rw[e]) (mj sj g1 hk (by omega) gR (by grind))))|exact⟨⟨rfl,by omega,by omega,g3,oE sj g1 hk (by omega) gR (by grind)⟩,by simp only[Bk];omega⟩
  ·have hk:(a.getD i.toNat bh).bE.length<=k:=by have:=yF hk;omega
   have he:=ld hk (by omega) gR
   simp(disch:=omega) only[wrap_i64]
   exact⟨⟨by omega,by omega,h3,oE bh h1 hc (by omega) hR (by first|grind|(rw[hz];grind))⟩,hm⟩
 ·have hc:a.length<=i:=by have:=yF hc;omega
  exact Js (ld hc (by omega) hR)
def U1:=cf (α:=(List dQ)×(List dQ)) (qC (qL .eJ) (q1 (qL .eJ))) [.ro,.ro] (fun _=>[]) (fun(a,b)=>⟨[dO (decide (a=b))],[],[]⟩)
def BW(a:List dQ)(b:List dQ):Int×Unit->Prop:=fun(i,_)=>0<=i/\i<=a.length/\a.length=b.length/\(a.drop i.toNat=b.drop i.toNat↔a=b)
def uF(a:List dQ)(b:List dQ):Int×Unit->Nat:=fun(i,_)=>a.length-i.toNat
def xQ(a:List dQ)(b:List dQ):Int×T4×T4×Int×Unit->Int×T4×T4×Int×Unit->Prop:=fun(i0,fx0,fy0,k0,_) (i,fx,fy,k,_)=>i=i0/\0<=k/\k<=(a.getD i.toNat cQ).aC.length/\(a.getD i.toNat cQ).aC.length=(b.getD i.toNat cQ).aC.length/\((a.getD i.toNat cQ).aC.drop k.toNat=(b.getD i.toNat cQ).aC.drop k.toNat↔(a.getD i.toNat cQ).aC=(b.getD i.toNat cQ).aC)/\fx=((a.getD i.toNat cQ).Kind,(a.getD i.toNat cQ).Name,(a.getD i.toNat cQ).aC,(a.getD i.toNat cQ).N,(a.getD i.toNat cQ).aX,())/\fy=((b.getD i.toNat cQ).Kind,(b.getD i.toNat cQ).Name,(b.getD i.toNat cQ).aC,(b.getD i.toNat cQ).N,(b.getD i.toNat cQ).aX,())
def xE(a:List dQ)(b:List dQ):Int×T4×T4×Int×Unit->Nat:=fun(i,fx,fy,k,_)=>(a.getD i.toNat cQ).aC.length-k.toNat
def agI:AX U1:=fun(a,b)=>b_ [(4,aY [iI 5] (fun _=>BW a b) (uF a b)),(11,aY [iI 5,.box 6 (6,1024) [.lit (.int .i64),.lit .str,.shr .bN,.lit (.int .i64),.lit .str],.box 7 (7,1024) [.lit (.int .i64),.lit .str,.shr .bN,.lit (.int .i64),.lit .str],iI 8] (xQ a b) (xE a b))]
def afq:HH:=hF U1 func152 [] agI fun x hp hb=>by
 obtain⟨a,b⟩:=x
 have Pv:gz (U:=UU) (.one (.sl .eJ a)):=hb _ m0
 have MP:L9 a.length:=kc (hb _ m0)
 have MN:L9 b.length:=kc (hb _ m1)
 clear hp hb
 apply vE (let q0:=Lb false (decide (a=b));let q1:=Int×BA×List cj×Int×BA×PUnit;bif (a.length:Int) !=(b.length:Int) then q0 else BW a b (0,())/\∀(y:Int×PUnit),let x0:=a.getD y.1.toNat cQ;let x1:=b.getD y.1.toNat cQ;let q2:=(y.1,(x0.Kind,x0.Name,x0.aC,x0.N,x0.aX,()),(x1.Kind,x1.Name,x1.aC,x1.N,x1.aX,()),0,());BW a b y->bif decide (y.1<(a.length:Int)) then 0<=y.1/\y.1.toNat<a.length/\0<=y.1/\y.1.toNat<b.length/\bif x0.Kind !=x1.Kind then q0 else bif !x0.Name.toList==x1.Name.toList then q0 else bif x0.N !=x1.N then q0 else bif !x0.aX.toList==x1.aX.toList then q0 else bif (x0.aC.length:Int) !=(x1.aC.length:Int) then q0 else xQ a b q2 q2/\∀(aE:Int×q1×q1×Int×PUnit),let x7:=aE.2.2.2.1.toNat;let sT:=aE.2.1.2.2.1.getD x7 ez;let Cg:=aE.2.1.2.2.1.length;let x6:=aE.2.2.1.2.2.1.getD x7 ez;let l7:=sT.L;let sU:=sT.R;let iF:=(↑Cg:Int);let x4:=x6.R;let x5:=x6.L;let x8:=sU.V;let x9:=l7.V;let x2:=x5.V;let x3:=x4.V;let q3:=(aE.1,(aE.2.1.1,aE.2.1.2.1,aE.2.1.2.2.1,aE.2.1.2.2.2.1,aE.2.1.2.2.2.2.1,()),(aE.2.2.1.1,aE.2.2.1.2.1,aE.2.2.1.2.2.1,aE.2.2.1.2.2.2.1,aE.2.2.1.2.2.2.2.1,()),wrap i64 (aE.2.2.2.1+1),());let q4:=(wrap i64 (aE.1+1),());xQ a b q2 aE->bif decide (aE.2.2.2.1<iF) then 0<=aE.2.2.2.1/\x7<Cg/\0<=aE.2.2.2.1/\x7<aE.2.2.1.2.2.1.length/\bif !(sT.Op.toList==x6.Op.toList&&(l7.K==x5.K&&(l7.S.toList==x5.S.toList&&(x9.K==x2.K&&(x9.N==x2.N&&(x9.S.toList==x2.S.toList&&true))&&true))&&(sU.K==x4.K&&(sU.S.toList==x4.S.toList&&(x8.K==x3.K&&(x8.N==x3.N&&(x8.S.toList==x3.S.toList&&true))&&true))&&true))) then q0 else xQ a b q2 q3/\xE a b q3<xE a b aE else BW a b q4/\uF a b q4<uF a b y else Lb true (decide (a=b)))
 dsimp only
 refine ab (fun h=>lg (pW (by simpa using h))) (fun h=>⟨⟨by omega,by omega,(tq (a:=a) (b:=b) (by assumption)),by simp⟩,?_⟩)
 rintro⟨i,⟨⟩⟩ ⟨h1,h2,h3,hR⟩
 simp only
 refine ab ?_ ?_<;>intro hc
 ·have hc:i<a.length:=yT hc
  have hm:uF a b (i+1,PUnit.unit)<uF a b (i,()):=by simp only[uF];omega
  try simp only[PJ]
  try simp only[aQ]
  have hz:_:=YG (a.getD i.toNat cQ) (b.getD i.toNat cQ)
  have hlA:(a.getD i.toNat cQ).aC.length<=9223372036854775807:=Bd.len (Bd.row Pv (x:=a.getD i.toNat cQ) (c:=.sl .bN (a.getD i.toNat cQ).aC) (w8 a _ h1 hc) (.tail _ (.tail _ (.head _))))
  repeat' (first|refine And.intro (by omega) ?_|refine ab (fun h=>lg (mj cQ h1 hc (by omega) hR (by first|grind|(rw[hz];grind)))) (fun h=> ?_))
  refine⟨⟨rfl,by omega,by omega,(tq (a:=(a.getD i.toNat cQ).aC) (b:=(b.getD i.toNat cQ).aC) (by assumption)),by simp,rfl,rfl⟩,?_⟩
  rintro⟨i,fx,fy,k,⟨⟩⟩ ⟨rfl,g1,g2,g3,gR,rfl,rfl⟩
  try simp only
  repeat' (refine And.intro (by omega) ?_)
  refine ab ?_ ?_<;>intro hk
  ·have hk:=yT hk
   simp(disch:=omega) only[wrap_i64]
   repeat' (first|refine And.intro (by omega) ?_|refine ab (fun h=> ?_) (fun h=> ?_))
   all_goals first|exact lg (mj cQ h1 hc (by omega) hR (fun e=>absurd (by rw[e]) (mj ez g1 hk (by omega) gR (by grind))))|exact⟨⟨rfl,by omega,by omega,g3,oE ez g1 hk (by omega) gR (by grind),rfl,rfl⟩,by simp only[xE];omega⟩
  ·have hk:(a.getD i.toNat cQ).aC.length<=k:=by have:=yF hk;omega
   have he:=ld hk (by omega) gR
   simp(disch:=omega) only[wrap_i64]
   exact⟨⟨by omega,by omega,h3,oE cQ h1 hc (by omega) hR (by first|grind|(rw[hz];grind))⟩,hm⟩
 ·have hc:a.length<=i:=by have:=yF hc;omega
  exact Js (ld hc (by omega) hR)
def acJ:=cf (α:=aG×aG) (qC (qA .dD) (q1 (qA .dD))) [.ro,.ro] (fun _=>[]) (fun(a,b)=>⟨[dO (decide (a=b))],[],[]⟩)
def G'(a:aG)(b:aG):Int×T3×T3×Unit->Prop:=fun(i,fa,fb,_)=>fa=(a.aa,a.Next,())/\fb=(b.aa,b.Next,())/\0<=i/\i<=a.aa.length/\a.aa.length=b.aa.length/\(a.aa.drop i.toNat=b.aa.drop i.toNat↔a.aa=b.aa)
def GI(a:aG)(b:aG):Int×T3×T3×Unit->Nat:=fun(i,fa,fb,_)=>a.aa.length-i.toNat
def amm:AX acJ:=fun(a,b)=>b_ [(4,aY [iI 5,.box 2 (2,1024) [.shr .aK,.lit (.int .i64)],.box 3 (3,1024) [.shr .aK,.lit (.int .i64)]] (fun _=>G' a b) (GI a b))]
def alz:HH:=hF acJ func98 [Fs] amm fun x hp hb=>by
 obtain⟨a,b⟩:=x
 have X0:=mK (x:=a) (hb _ m0)
 have XS:=mK (x:=b) (hb _ m1)
 clear hp hb
 apply vE (let q0:=Lb false (decide (a=b));bif a.Next !=b.Next then q0 else bif (a.aa.length:Int) !=(b.aa.length:Int) then q0 else G' a b (0,(a.aa,a.Next,()),(b.aa,b.Next,()),())/\∀(y:Int×Tk×Tk×PUnit),let x0:=y.2.2.1.1.getD y.1.toNat bj;let x1:=y.2.1.1.getD y.1.toNat bj;let x3:=y.2.1.1.length;let x2:=(↑x3:Int);let q1:=(wrap i64 (y.1+1),(y.2.1.1,y.2.1.2.1,()),(y.2.2.1.1,y.2.2.1.2.1,()),());G' a b y->bif decide (y.1<x2) then 0<=y.1/\y.1.toNat<x3/\0<=y.1/\y.1.toNat<y.2.2.1.1.length/\bif x1.Id !=x0.Id then q0 else 0<=y.1/\y.1.toNat<x3/\0<=y.1/\y.1.toNat<y.2.2.1.1.length/\bif !decide (x1.F=x0.F) then q0 else G' a b q1/\GI a b q1<GI a b y else Lb true (decide (a=b)))
 dsimp only
 have hy:_:=PM a b
 try simp only[gg]
 try simp only[aQ]
 repeat' (refine ab (fun h=>lg (by first|grind|(have:=@pW;rw[hy];grind))) (fun h=> ?_))
 refine⟨⟨rfl,rfl,by omega,by omega,by grind,by simp⟩,?_⟩
 rintro⟨i,fa,fb,⟨⟩⟩ ⟨rfl,rfl,h1,h2,h3,hR⟩
 simp only
 refine ab ?_ ?_<;>intro hc
 ·have hc:i<a.aa.length:=yT hc
  rw[wi]
  try simp only[gg]
  try simp only[aQ]
  have hz:_:=SO (a.aa.getD i.toNat bj) (b.aa.getD i.toNat bj)
  repeat' (first|refine And.intro (by omega) ?_|refine ab (fun h=> ?_) (fun h=> ?_))
  all_goals first|exact lg (fun e=>absurd (by rw[e]) (mj bj h1 hc (by omega) hR (by first|grind|(rw[hz];grind))))|exact⟨⟨rfl,rfl,by omega,by omega,h3,oE bj h1 hc (by omega) hR (by first|grind|(rw[hz];grind))⟩,by simp only[GI];omega⟩
 ·have hc:a.aa.length<=i:=by have:=yF hc;omega
  have mD:=ld hc (by omega) hR
  clear hR h1 h2 h3 hc
  repeat' (refine ab (fun h=> ?_) (fun h=> ?_))
  all_goals (refine cg ?_;grind)
def acK:=cf (α:=a_×a_) (qC (qA .cv) (q1 (qA .cv))) [.ro,.ro] (fun _=>[]) (fun(a,b)=>⟨[dO (decide (a=b))],[],[]⟩)
def G_(a:a_)(b:a_):Int×T1×T1×Unit->Prop:=fun(i,fa,fb,_)=>fa=(a.Name,a.nB,a.aM,a.bt,a.cx,())/\fb=(b.Name,b.nB,b.aM,b.bt,b.cx,())/\0<=i/\i<=a.bt.length/\a.bt.length=b.bt.length/\(a.bt.drop i.toNat=b.bt.drop i.toNat↔a.bt=b.bt)
def GJ(a:a_)(b:a_):Int×T1×T1×Unit->Nat:=fun(i,fa,fb,_)=>a.bt.length-i.toNat
def amn:AX acK:=fun(a,b)=>b_ [(4,aY [iI 5,.box 2 (2,1024) [.lit .str,.lit (.int .i64),.shr .ey,.shr .cM,.shr .eJ],.box 3 (3,1024) [.lit .str,.lit (.int .i64),.shr .ey,.shr .cM,.shr .eJ]] (fun _=>G_ a b) (GJ a b))]
def alA:HH:=hF acK func97 [afr,afq] amn fun x hp hb=>by
 obtain⟨a,b⟩:=x
 have dG:=lR (x:=a) (hb _ m0)
 have MO:=dG.1
 have Zq:=dG.2.1
 have X2:=dG.2.2.1
 have Zs:=dG.2.2.2
 have gM:=lR (x:=b) (hb _ m1)
 have MM:=gM.1
 have Zn:=gM.2.1
 have XU:=gM.2.2.1
 have Zp:=gM.2.2.2
 clear hp hb
 apply vE (let q0:=Lb false (decide (a=b));let q1:=BA×Int×List ck×List dt×List dQ×PUnit;bif !a.Name.toList==b.Name.toList then q0 else bif a.nB !=b.nB then q0 else bif (a.bt.length:Int) !=(b.bt.length:Int) then q0 else G_ a b (0,(a.Name,a.nB,a.aM,a.bt,a.cx,()),(b.Name,b.nB,b.aM,b.bt,b.cx,()),())/\∀(y:Int×q1×q1×PUnit),let x4:=y.2.2.1.2.2.2.1.getD y.1.toNat pe;let x9:=y.2.1.2.2.2.1.getD y.1.toNat pe;let sU:=y.2.1.2.2.2.1.length;let x2:=x4.L;let x3:=x4.R;let x7:=x9.L;let x8:=x9.R;let l7:=(↑sU:Int);let x0:=x3.V;let x1:=x2.V;let x5:=x8.V;let x6:=x7.V;let q2:=(wrap i64 (y.1+1),(y.2.1.1,y.2.1.2.1,y.2.1.2.2.1,y.2.1.2.2.2.1,y.2.1.2.2.2.2.1,()),(y.2.2.1.1,y.2.2.1.2.1,y.2.2.1.2.2.1,y.2.2.1.2.2.2.1,y.2.2.1.2.2.2.2.1,()),());G_ a b y->bif decide (y.1<l7) then 0<=y.1/\y.1.toNat<sU/\0<=y.1/\y.1.toNat<y.2.2.1.2.2.2.1.length/\bif !(x9.Op==x4.Op&&(x7.K==x2.K&&(x7.S.toList==x2.S.toList&&(x6.K==x1.K&&(x6.N==x1.N&&(x6.S.toList==x1.S.toList&&true))&&true))&&(x8.K==x3.K&&(x8.S.toList==x3.S.toList&&(x5.K==x0.K&&(x5.N==x0.N&&(x5.S.toList==x0.S.toList&&true))&&true))&&true))) then q0 else G_ a b q2/\GJ a b q2<GJ a b y else bif decide (y.2.1.2.2.1=y.2.2.1.2.2.1) then Lb (decide (y.2.1.2.2.2.2.1=y.2.2.1.2.2.2.2.1)) (decide (a=b)) else q0)
 dsimp only
 have hy:_:=Ly a b
 try simp only[I1]
 try simp only[aQ]
 repeat' (refine ab (fun h=>lg (by first|grind|(have:=@pW;rw[hy];grind))) (fun h=> ?_))
 refine⟨⟨rfl,rfl,by omega,by omega,by grind,by simp⟩,?_⟩
 rintro⟨i,fa,fb,⟨⟩⟩ ⟨rfl,rfl,h1,h2,h3,hR⟩
 simp only
 refine ab ?_ ?_<;>intro hc
 ·have hc:i<a.bt.length:=yT hc
  rw[wi]
  try simp only[I1]
  try simp only[aQ]
  have hz:True:=trivial
  repeat' (first|refine And.intro (by omega) ?_|refine ab (fun h=> ?_) (fun h=> ?_))
  all_goals first|exact lg (fun e=>absurd (by rw[e]) (mj pe h1 hc (by omega) hR (by first|grind|(rw[hz];grind))))|exact⟨⟨rfl,rfl,by omega,by omega,h3,oE pe h1 hc (by omega) hR (by first|grind|(rw[hz];grind))⟩,by simp only[GJ];omega⟩
 ·have hc:a.bt.length<=i:=by have:=yF hc;omega
  have mD:=ld hc (by omega) hR
  clear hR h1 h2 h3 hc
  repeat' (refine ab (fun h=> ?_) (fun h=> ?_))
  all_goals (refine cg ?_;grind)
def acZ:=cf (α:=aZ×aZ) (qC (qA .gJ) (q1 (qA .gJ))) [.ro,.ro] (fun _=>[]) (fun(a,b)=>⟨[dO (decide (a=b))],[],[]⟩)
def Hg(a:aZ)(b:aZ):Int×T2×T2×Unit->Prop:=fun(i,fa,fb,_)=>fa=(a.Name,a.az,())/\fb=(b.Name,b.az,())/\0<=i/\i<=a.az.length/\a.az.length=b.az.length/\(a.az.drop i.toNat=b.az.drop i.toNat↔a.az=b.az)
def GR(a:aZ)(b:aZ):Int×T2×T2×Unit->Nat:=fun(i,fa,fb,_)=>a.az.length-i.toNat
def amC:AX acZ:=fun(a,b)=>b_ [(4,aY [iI 5,.box 2 (2,1024) [.lit .str,.shr .cv],.box 3 (3,1024) [.lit .str,.shr .cv]] (fun _=>Hg a b) (GR a b))]
def al2:HH:=hF acZ func49 [alA] amC fun x hp hb=>by
 obtain⟨a,b⟩:=x
 have dG:=kS (x:=a) (hb _ m0)
 have MO:=dG.1
 have XZ:=dG.2
 have gM:=kS (x:=b) (hb _ m1)
 have MM:=gM.1
 have XR:=gM.2
 clear hp hb
 apply vE (let q0:=Lb false (decide (a=b));bif !a.Name.toList==b.Name.toList then q0 else bif (a.az.length:Int) !=(b.az.length:Int) then q0 else Hg a b (0,(a.Name,a.az,()),(b.Name,b.az,()),())/\∀(y:Int×T7×T7×PUnit),let x1:=y.2.1.2.1.length;let x0:=(↑x1:Int);let q1:=(wrap i64 (y.1+1),(y.2.1.1,y.2.1.2.1,()),(y.2.2.1.1,y.2.2.1.2.1,()),());Hg a b y->bif decide (y.1<x0) then 0<=y.1/\y.1.toNat<x1/\0<=y.1/\y.1.toNat<y.2.2.1.2.1.length/\bif !decide (y.2.1.2.1.getD y.1.toNat cB=y.2.2.1.2.1.getD y.1.toNat cB) then q0 else Hg a b q1/\GR a b q1<GR a b y else Lb true (decide (a=b)))
 dsimp only
 have hy:_:=PO a b
 try simp only[gg]
 try simp only[aQ]
 repeat' (refine ab (fun h=>lg (by first|grind|(have:=@pW;rw[hy];grind))) (fun h=> ?_))
 refine⟨⟨rfl,rfl,by omega,by omega,by grind,by simp⟩,?_⟩
 rintro⟨i,fa,fb,⟨⟩⟩ ⟨rfl,rfl,h1,h2,h3,hR⟩
 simp only
 refine ab ?_ ?_<;>intro hc
 ·have hc:i<a.az.length:=yT hc
  rw[wi]
  try simp only[gg]
  try simp only[aQ]
  have hz:_:=Ly (a.az.getD i.toNat cB) (b.az.getD i.toNat cB)
  repeat' (first|refine And.intro (by omega) ?_|refine ab (fun h=> ?_) (fun h=> ?_))
  all_goals first|exact lg (fun e=>absurd (by rw[e]) (mj cB h1 hc (by omega) hR (by first|grind|(rw[hz];grind))))|exact⟨⟨rfl,rfl,by omega,by omega,h3,oE cB h1 hc (by omega) hR (by first|grind|(rw[hz];grind))⟩,by simp only[GR];omega⟩
 ·have hc:a.az.length<=i:=by have:=yF hc;omega
  have mD:=ld hc (by omega) hR
  clear hR h1 h2 h3 hc
  repeat' (refine ab (fun h=> ?_) (fun h=> ?_))
  all_goals (refine cg ?_;grind)
def acY:=cf (α:=aj×aj) (qC (qA .bY) (q1 (qA .bY))) [.ro,.ro] (fun _=>[]) (fun(a,b)=>⟨[dO (decide (a=b))],[],[]⟩)
def Hf(a:aj)(b:aj):Int×T0×T0×Unit->Prop:=fun(i,fa,fb,_)=>fa=(a.S.aa,a.S.Next,a.aw,a.ae,a.ao,a.ai,a.State,a.bB,())/\fb=(b.S.aa,b.S.Next,b.aw,b.ae,b.ao,b.ai,b.State,b.bB,())/\0<=i/\i<=a.ao.length/\a.ao.length=b.ao.length/\(a.ao.drop i.toNat=b.ao.drop i.toNat↔a.ao=b.ao)
def GQ(a:aj)(b:aj):Int×T0×T0×Unit->Nat:=fun(i,fa,fb,_)=>a.ao.length-i.toNat
def He(a:aj)(b:aj):Int×T0×T0×Unit->Prop:=fun(i,fa,fb,_)=>fa=(a.S.aa,a.S.Next,a.aw,a.ae,a.ao,a.ai,a.State,a.bB,())/\fb=(b.S.aa,b.S.Next,b.aw,b.ae,b.ao,b.ai,b.State,b.bB,())/\0<=i/\i<=a.ai.length/\a.ai.length=b.ai.length/\(a.ai.drop i.toNat=b.ai.drop i.toNat↔a.ai=b.ai)
def GP(a:aj)(b:aj):Int×T0×T0×Unit->Nat:=fun(i,fa,fb,_)=>a.ai.length-i.toNat
def amB:AX acY:=fun(a,b)=>b_ [(4,aY [iI 5,.box 2 (2,1024) [.shr .aK,.lit (.int .i64),.shr .av,.shr .aq,.shr .ax,.shr .aI,.lit (.int .i64),.lit (.int .i64)],.box 3 (3,1024) [.shr .aK,.lit (.int .i64),.shr .av,.shr .aq,.shr .ax,.shr .aI,.lit (.int .i64),.lit (.int .i64)]] (fun _=>Hf a b) (GQ a b)),(9,aY [iI 6,.box 2 (2,1024) [.shr .aK,.lit (.int .i64),.shr .av,.shr .aq,.shr .ax,.shr .aI,.lit (.int .i64),.lit (.int .i64)],.box 3 (3,1024) [.shr .aK,.lit (.int .i64),.shr .av,.shr .aq,.shr .ax,.shr .aI,.lit (.int .i64),.lit (.int .i64)]] (fun _=>He a b) (GP a b))]
def al1:HH:=hF acY func50 [alz,aly,af0,Fs] amB fun x hp hb=>by
 obtain⟨a,b⟩:=x
 have dG:=oK (x:=a) (hb _ m0)
 have St:=dG.1
 have X1:=dG.2.1
 have XY:=dG.2.2.1
 have TZ:=dG.2.2.2.1
 have XX:=dG.2.2.2.2
 have gM:=oK (x:=b) (hb _ m1)
 have Ss:=gM.1
 have XT:=gM.2.1
 have XQ:=gM.2.2.1
 have TY:=gM.2.2.2.1
 have XP:=gM.2.2.2.2
 clear hp hb
 apply vE (let q0:=List bW×Int×List au×List ap×List aF×List br×Int×Int×PUnit;let q1:=Lb false (decide (a=b));bif a.State !=b.State then q1 else bif a.bB !=b.bB then q1 else bif !decide (a.S=b.S) then q1 else bif !decide (a.ae=b.ae) then q1 else bif !decide (a.aw=b.aw) then q1 else bif (a.ao.length:Int) !=(b.ao.length:Int) then q1 else bif (a.ai.length:Int) !=(b.ai.length:Int) then q1 else Hf a b (0,(a.S.aa,a.S.Next,a.aw,a.ae,a.ao,a.ai,a.State,a.bB,()),(b.S.aa,b.S.Next,b.aw,b.ae,b.ao,b.ai,b.State,b.bB,()),())/\∀(y:Int×q0×q0×PUnit),let x0:=y.2.2.1.2.2.2.2.1.getD y.1.toNat cq;let x1:=y.2.1.2.2.2.2.1.getD y.1.toNat cq;let x3:=y.2.1.2.2.2.2.1.length;let x2:=(↑x3:Int);Hf a b y->bif decide (y.1<x2) then 0<=y.1/\y.1.toNat<x3/\0<=y.1/\y.1.toNat<y.2.2.1.2.2.2.2.1.length/\bif x1.At !=x0.At then q1 else 0<=y.1/\y.1.toNat<x3/\0<=y.1/\y.1.toNat<y.2.2.1.2.2.2.2.1.length/\bif !decide (x1.F=x0.F) then q1 else Hf a b (wrap i64 (y.1+1),(y.2.1.1,y.2.1.2.1,y.2.1.2.2.1,y.2.1.2.2.2.1,y.2.1.2.2.2.2.1,y.2.1.2.2.2.2.2.1,y.2.1.2.2.2.2.2.2.1,y.2.1.2.2.2.2.2.2.2.1,()),(y.2.2.1.1,y.2.2.1.2.1,y.2.2.1.2.2.1,y.2.2.1.2.2.2.1,y.2.2.1.2.2.2.2.1,y.2.2.1.2.2.2.2.2.1,y.2.2.1.2.2.2.2.2.2.1,y.2.2.1.2.2.2.2.2.2.2.1,()),())/\GQ a b (wrap i64 (y.1+1),(y.2.1.1,y.2.1.2.1,y.2.1.2.2.1,y.2.1.2.2.2.1,y.2.1.2.2.2.2.1,y.2.1.2.2.2.2.2.1,y.2.1.2.2.2.2.2.2.1,y.2.1.2.2.2.2.2.2.2.1,()),(y.2.2.1.1,y.2.2.1.2.1,y.2.2.1.2.2.1,y.2.2.1.2.2.2.1,y.2.2.1.2.2.2.2.1,y.2.2.1.2.2.2.2.2.1,y.2.2.1.2.2.2.2.2.2.1,y.2.2.1.2.2.2.2.2.2.2.1,()),())<GQ a b y else He a b (0,(y.2.1.1,y.2.1.2.1,y.2.1.2.2.1,y.2.1.2.2.2.1,y.2.1.2.2.2.2.1,y.2.1.2.2.2.2.2.1,y.2.1.2.2.2.2.2.2.1,y.2.1.2.2.2.2.2.2.2.1,()),(y.2.2.1.1,y.2.2.1.2.1,y.2.2.1.2.2.1,y.2.2.1.2.2.2.1,y.2.2.1.2.2.2.2.1,y.2.2.1.2.2.2.2.2.1,y.2.2.1.2.2.2.2.2.2.1,y.2.2.1.2.2.2.2.2.2.2.1,()),())/\∀(y:Int×q0×q0×PUnit),let x4:=y.2.2.1.2.2.2.2.2.1.getD y.1.toNat bM;let x5:=y.2.1.2.2.2.2.2.1.getD y.1.toNat bM;let x7:=y.2.1.2.2.2.2.2.1.length;let x6:=(↑x7:Int);let q2:=(wrap i64 (y.1+1),(y.2.1.1,y.2.1.2.1,y.2.1.2.2.1,y.2.1.2.2.2.1,y.2.1.2.2.2.2.1,y.2.1.2.2.2.2.2.1,y.2.1.2.2.2.2.2.2.1,y.2.1.2.2.2.2.2.2.2.1,()),(y.2.2.1.1,y.2.2.1.2.1,y.2.2.1.2.2.1,y.2.2.1.2.2.2.1,y.2.2.1.2.2.2.2.1,y.2.2.1.2.2.2.2.2.1,y.2.2.1.2.2.2.2.2.2.1,y.2.2.1.2.2.2.2.2.2.2.1,()),());He a b y->bif decide (y.1<x6) then 0<=y.1/\y.1.toNat<x7/\0<=y.1/\y.1.toNat<y.2.2.1.2.2.2.2.2.1.length/\bif !x5.Key.toList==x4.Key.toList then q1 else 0<=y.1/\y.1.toNat<x7/\0<=y.1/\y.1.toNat<y.2.2.1.2.2.2.2.2.1.length/\bif !decide (x5.F=x4.F) then q1 else He a b q2/\GP a b q2<GP a b y else Lb true (decide (a=b)))
 dsimp only
 have hy:_:=SP a b
 try simp only[gg]
 try simp only[aQ]
 repeat' (refine ab (fun h=>lg (by first|grind|(have:=@pW;rw[hy];grind))) (fun h=> ?_))
 refine⟨⟨rfl,rfl,by omega,by omega,by grind,by simp⟩,?_⟩
 rintro⟨i,fa,fb,⟨⟩⟩ ⟨rfl,rfl,h1,h2,h3,hR⟩
 simp only
 refine ab ?_ ?_<;>intro hc
 ·have hc:i<a.ao.length:=yT hc
  rw[wi]
  try simp only[gg]
  try simp only[aQ]
  have hz:_:=PL (a.ao.getD i.toNat cq) (b.ao.getD i.toNat cq)
  repeat' (first|refine And.intro (by omega) ?_|refine ab (fun h=> ?_) (fun h=> ?_))
  all_goals first|exact lg (fun e=>absurd (by rw[e]) (mj cq h1 hc (by omega) hR (by first|grind|(rw[hz];grind))))|exact⟨⟨rfl,rfl,by omega,by omega,h3,oE cq h1 hc (by omega) hR (by first|grind|(rw[hz];grind))⟩,by simp only[GQ];omega⟩
 ·have hc:a.ao.length<=i:=by have:=yF hc;omega
  have mD:=ld hc (by omega) hR
  clear hR h1 h2 h3 hc
  refine⟨⟨rfl,rfl,by omega,by omega,by grind,by simp⟩,?_⟩
  rintro⟨i,fa,fb,⟨⟩⟩ ⟨rfl,rfl,h1,h2,h3,hR⟩
  simp only
  refine ab ?_ ?_<;>intro hc
  ·have hc:i<a.ai.length:=yT hc
   rw[wi]
   try simp only[gg]
   try simp only[aQ]
   have hz:_:=SM (a.ai.getD i.toNat bM) (b.ai.getD i.toNat bM)
   repeat' (first|refine And.intro (by omega) ?_|refine ab (fun h=> ?_) (fun h=> ?_))
   all_goals first|exact lg (fun e=>absurd (by rw[e]) (mj bM h1 hc (by omega) hR (by first|grind|(rw[hz];grind))))|exact⟨⟨rfl,rfl,by omega,by omega,h3,oE bM h1 hc (by omega) hR (by first|grind|(rw[hz];grind))⟩,by simp only[GP];omega⟩
  ·have hc:a.ai.length<=i:=by have:=yF hc;omega
   have Sy:=ld hc (by omega) hR
   clear hR h1 h2 h3 hc
   repeat' (refine ab (fun h=> ?_) (fun h=> ?_))
   all_goals (refine cg ?_;grind)
def adz:=cf (α:=ko×ko) (qC (qA .ny) (q1 (qA .ny))) [.ro,.ro] (fun _=>[]) (fun(a,b)=>⟨[dO (decide (a=b))],[],[]⟩)
def Hv(a:ko)(b:ko):Int×VP×VP×Unit->Prop:=fun(i,fa,fb,_)=>fa=(a.nD,a.iS,a.bB,a.za,())/\fb=(b.nD,b.iS,b.bB,b.za,())/\0<=i/\i<=a.nD.length/\a.nD.length=b.nD.length/\(a.nD.drop i.toNat=b.nD.drop i.toNat↔a.nD=b.nD)
def G5(a:ko)(b:ko):Int×VP×VP×Unit->Nat:=fun(i,fa,fb,_)=>a.nD.length-i.toNat
def Hu(a:ko)(b:ko):Int×VP×VP×Unit->Prop:=fun(i,fa,fb,_)=>fa=(a.nD,a.iS,a.bB,a.za,())/\fb=(b.nD,b.iS,b.bB,b.za,())/\0<=i/\i<=a.iS.length/\a.iS.length=b.iS.length/\(a.iS.drop i.toNat=b.iS.drop i.toNat↔a.iS=b.iS)
def G4(a:ko)(b:ko):Int×VP×VP×Unit->Nat:=fun(i,fa,fb,_)=>a.iS.length-i.toNat
def amQ:AX adz:=fun(a,b)=>b_ [(4,aY [iI 5,.box 2 (2,1024) [.shr .gJ,.shr .kk,.lit (.int .i64),.lit (.int .i64)],.box 3 (3,1024) [.shr .gJ,.shr .kk,.lit (.int .i64),.lit (.int .i64)]] (fun _=>Hv a b) (G5 a b)),(9,aY [iI 6,.box 2 (2,1024) [.shr .gJ,.shr .kk,.lit (.int .i64),.lit (.int .i64)],.box 3 (3,1024) [.shr .gJ,.shr .kk,.lit (.int .i64),.lit (.int .i64)]] (fun _=>Hu a b) (G4 a b))]
def ame:HH:=hF adz func20 [al2,al1] amQ fun x hp hb=>by
 obtain⟨a,b⟩:=x
 have dG:=Jb (x:=a) (hb _ m0)
 have Zr:=dG.1
 have XW:=dG.2
 have gM:=Jb (x:=b) (hb _ m1)
 have Zo:=gM.1
 have XO:=gM.2
 clear hp hb
 apply vE (let q0:=Lb false (decide (a=b));let q1:=List aZ×List qy×Int×Int×PUnit;bif a.bB !=b.bB then q0 else bif a.za !=b.za then q0 else bif (a.nD.length:Int) !=(b.nD.length:Int) then q0 else bif (a.iS.length:Int) !=(b.iS.length:Int) then q0 else Hv a b (0,(a.nD,a.iS,a.bB,a.za,()),(b.nD,b.iS,b.bB,b.za,()),())/\∀(y:Int×q1×q1×PUnit),let x1:=y.2.1.1.length;let x0:=(↑x1:Int);Hv a b y->bif decide (y.1<x0) then 0<=y.1/\y.1.toNat<x1/\0<=y.1/\y.1.toNat<y.2.2.1.1.length/\bif !decide (y.2.1.1.getD y.1.toNat JF=y.2.2.1.1.getD y.1.toNat JF) then q0 else Hv a b (wrap i64 (y.1+1),(y.2.1.1,y.2.1.2.1,y.2.1.2.2.1,y.2.1.2.2.2.1,()),(y.2.2.1.1,y.2.2.1.2.1,y.2.2.1.2.2.1,y.2.2.1.2.2.2.1,()),())/\G5 a b (wrap i64 (y.1+1),(y.2.1.1,y.2.1.2.1,y.2.1.2.2.1,y.2.1.2.2.2.1,()),(y.2.2.1.1,y.2.2.1.2.1,y.2.2.1.2.2.1,y.2.2.1.2.2.2.1,()),())<G5 a b y else Hu a b (0,(y.2.1.1,y.2.1.2.1,y.2.1.2.2.1,y.2.1.2.2.2.1,()),(y.2.2.1.1,y.2.2.1.2.1,y.2.2.1.2.2.1,y.2.2.1.2.2.2.1,()),())/\∀(y:Int×q1×q1×PUnit),let x2:=y.2.2.1.2.1.getD y.1.toNat Cf;let x3:=y.2.1.2.1.getD y.1.toNat Cf;let x5:=y.2.1.2.1.length;let x4:=(↑x5:Int);let q2:=(wrap i64 (y.1+1),(y.2.1.1,y.2.1.2.1,y.2.1.2.2.1,y.2.1.2.2.2.1,()),(y.2.2.1.1,y.2.2.1.2.1,y.2.2.1.2.2.1,y.2.2.1.2.2.2.1,()),());Hu a b y->bif decide (y.1<x4) then 0<=y.1/\y.1.toNat<x5/\0<=y.1/\y.1.toNat<y.2.2.1.2.1.length/\bif !x3.Name.toList==x2.Name.toList then q0 else bif !x3.Y3.toList==x2.Y3.toList then q0 else bif !decide (x3.X=x2.X) then q0 else Hu a b q2/\G4 a b q2<G4 a b y else Lb true (decide (a=b)))
 dsimp only
 have hy:_:=SQ a b
 try simp only[gg]
 try simp only[aQ]
 repeat' (refine ab (fun h=>lg (by first|grind|(have:=@pW;rw[hy];grind))) (fun h=> ?_))
 refine⟨⟨rfl,rfl,by omega,by omega,by grind,by simp⟩,?_⟩
 rintro⟨i,fa,fb,⟨⟩⟩ ⟨rfl,rfl,h1,h2,h3,hR⟩
 simp only
 refine ab ?_ ?_<;>intro hc
 ·have hc:i<a.nD.length:=yT hc
  rw[wi]
  try simp only[gg]
  try simp only[aQ]
  have hz:_:=PO (a.nD.getD i.toNat JF) (b.nD.getD i.toNat JF)
  repeat' (first|refine And.intro (by omega) ?_|refine ab (fun h=> ?_) (fun h=> ?_))
  all_goals first|exact lg (fun e=>absurd (by rw[e]) (mj JF h1 hc (by omega) hR (by first|grind|(rw[hz];grind))))|exact⟨⟨rfl,rfl,by omega,by omega,h3,oE JF h1 hc (by omega) hR (by first|grind|(rw[hz];grind))⟩,by simp only[G5];omega⟩
 ·have hc:a.nD.length<=i:=by have:=yF hc;omega
  have mD:=ld hc (by omega) hR
  clear hR h1 h2 h3 hc
  refine⟨⟨rfl,rfl,by omega,by omega,by grind,by simp⟩,?_⟩
  rintro⟨i,fa,fb,⟨⟩⟩ ⟨rfl,rfl,h1,h2,h3,hR⟩
  simp only
  refine ab ?_ ?_<;>intro hc
  ·have hc:i<a.iS.length:=yT hc
   rw[wi]
   try simp only[gg]
   try simp only[aQ]
   have hz:_:=SL (a.iS.getD i.toNat Cf) (b.iS.getD i.toNat Cf)
   repeat' (first|refine And.intro (by omega) ?_|refine ab (fun h=> ?_) (fun h=> ?_))
   all_goals first|exact lg (fun e=>absurd (by rw[e]) (mj Cf h1 hc (by omega) hR (by first|grind|(rw[hz];grind))))|exact⟨⟨rfl,rfl,by omega,by omega,h3,oE Cf h1 hc (by omega) hR (by first|grind|(rw[hz];grind))⟩,by simp only[G4];omega⟩
  ·have hc:a.iS.length<=i:=by have:=yF hc;omega
   have Sy:=ld hc (by omega) hR
   clear hR h1 h2 h3 hc
   repeat' (refine ab (fun h=> ?_) (fun h=> ?_))
   all_goals (refine cg ?_;grind)
theorem inst_eq(a b:aj):decide ((⟨[],[⟨ah,ah,a⟩],0,0⟩:ko)=⟨[],[⟨ah,ah,b⟩],0,0⟩)=decide (a=b):=by
 rw[decide_eq_decide];simp
def Zk7:=cf (α:=aj×aj) (qC (qA .bY) (q1 (qA .bY))) [.ro,.ro] (fun _=>[]) (fun(a,b)=>⟨[dO (decide (a=b))],[],[]⟩)
def Zh7:HH:=hF Zk7 func7 [ame] a0 fun x hp hb=>by
 obtain⟨a,b⟩:=x
 clear hp hb
 apply vE (let x0:={data:= #[]:BA};Lb (decide ({nD:=[],iS:=[{Name:=x0,Y3:=x0,X:=a:qy}],bB:=(0:Int),za:=(0:Int):ko}={nD:=[],iS:=[{Name:=x0,Y3:=x0,X:=b:qy}],bB:=(0:Int),za:=(0:Int):ko})) (decide (a=b)))
 dsimp only
 exact cg (inst_eq a b)
def gW(code:List Int)(aW:Int):Int:=if 3+(code.length:Int)/12>aW then aW else 3+(code.length:Int)/12
theorem HU(code:List Int)(aW:Int):gW code aW<=aW:=by unfold gW;split<;>omega
theorem wL{c c':aA}{a b:aj}(h1:c=c')(h2:a=b):gH [DV.box [.sl .byte c.b,CI c.i,CI c.h],DV.box [.sl .aK a.S.aa,CI a.S.Next,.sl .av a.aw,.sl .aq a.ae,.sl .ax a.ao,.sl .aI a.ai,CI a.State,CI a.bB]]=gH [DV.box [.sl .byte c'.b,CI c'.i,CI c'.h],DV.box [.sl .aK b.S.aa,CI b.S.Next,.sl .av b.aw,.sl .aq b.ae,.sl .ax b.ao,.sl .aI b.ai,CI b.State,CI b.bB]]:=by rw[h1,h2]
theorem amW{a a':aZ}{x x':aj}{c c':aA}(h1:a=a')(h2:x=x')(h3:c=c'):gH [DV.agg [.lit (.string a.Name),.sl .cv a.az],DV.agg [.sl .aK x.S.aa,CI x.S.Next,.sl .av x.aw,.sl .aq x.ae,.sl .ax x.ao,.sl .aI x.ai,CI x.State,CI x.bB]]=gH [DV.agg [.lit (.string a'.Name),.sl .cv a'.az],DV.agg [.sl .aK x'.S.aa,CI x'.S.Next,.sl .av x'.aw,.sl .aq x'.ae,.sl .ax x'.ao,.sl .aI x'.ai,CI x'.State,CI x'.bB]]/\gH [DV.box [.sl .byte c.b,CI c.i,CI c.h]]=gH [DV.box [.sl .byte c'.b,CI c'.i,CI c'.h]]:=by subst h1 h2 h3;exact⟨rfl,rfl⟩
theorem amV{a a':aZ}{x x':aj}(h1:a=a')(h2:x=x'):Lf [.agg [.lit (.string a.Name),.sl .cv a.az],.agg [.sl .aK x.S.aa,CI x.S.Next,.sl .av x.aw,.sl .aq x.ae,.sl .ax x.ao,.sl .aI x.ai,CI x.State,CI x.bB]] [.agg [.lit (.string a'.Name),.sl .cv a'.az],.agg [.sl .aK x'.S.aa,CI x'.S.Next,.sl .av x'.aw,.sl .aq x'.ae,.sl .ax x'.ao,.sl .aI x'.ai,CI x'.State,CI x'.bB]]:=by subst h1 h2;exact aV _
abbrev TC:=List Int×Int×Int×Unit
def xn(p:TC):aA:=⟨p.1,p.2.1,p.2.2.1⟩
def ZY(c:aA):TC:=(c.b,c.i,c.h,())
theorem yp{d:aZ}{x:aj}(hd:fR d=true)(h:(jk d (allM d.az x.S.aa) x.aw).isSome=true):va d x=oy d x (zm (jk d (allM d.az x.S.aa) x.aw))/\w9 x.S.aa (zm (jk d (allM d.az x.S.aa) x.aw))/\(zm (jk d (allM d.az x.S.aa) x.aw)).ep.length<=4294967295:=by
 unfold va
 cases hp:jk d (allM d.az x.S.aa) x.aw with
 |none=>rw[hp] at h;cases h
 |some m=>
  have:=Fo (fun r hr=>((uh hd).1 r hr).1) (ED hp)
  exact⟨rfl,EC hp,by show m.ep.length<=_;omega⟩
theorem My{d:aZ}{x:aj}(h:(jk d (allM d.az x.S.aa) x.aw).isSome=false):va d x=x:=by
 unfold va
 cases hp:jk d (allM d.az x.S.aa) x.aw with
 |none=>rfl
 |some m=>rw[hp] at h;cases h
theorem IQ{d:aZ}{x:aj}{c:aA}{i:Int}(h:0<i):mY d i.toNat x c=mY d (i-1).toNat (fY d x c) (fZ x c)/\uc d i.toNat x c=uc d (i-1).toNat (fY d x c) (fZ x c):=by
 have e:i.toNat=(i-1).toNat+1:=by omega
 rw[e];exact⟨rfl,rfl⟩
def als:=cf (α:=(List Int)×Int) (qC (qL .byte) (q1 qI)) [.ro,.ro] (fun(code,aW)=>[L4 code.length]) (fun(code,aW)=>⟨[dI (gW code aW)],[],[]⟩)
def amf:HH:=hF als func17 [] a0 fun x hp hb=>by
 obtain⟨code,aW⟩:=x
 have Ge:L9 code.length:=kc (hb _ m0)
 have Al:=zD (n:=aW) (hb _ m1)
 have bJ:code.length<=4294967296:=hp _ m0
 clear hp hb
 apply vE (let x0:=wrap i64 (3+wrap i64 (Int.tdiv (code.length:Int) 12));(12:Int)≠(0:Int)/\bif decide (x0>aW) then Li aW (gW code aW) else Li x0 (gW code aW))
 dsimp only
 have e:Int.tdiv (code.length:Int) 12=(code.length:Int)/12:=Int.tdiv_eq_ediv_of_nonneg (by omega)
 rw[e,wi (n:=(code.length:Int)/12),wi]
 refine⟨by decide,bc (fun h=>l5 ?_) (fun h=>l5 ?_)⟩
 ·rw[gW,if_pos h]
 ·rw[gW,if_neg h]
def alg:=cf (α:=aA×aZ×aj) (qC qU (qC (qA .gJ) (q1 (qX .bY)))) [.box false,.ro,.box true] (fun(c,d,x)=>[df c,cz d x,x.bB+30<=1000000000]) (fun(c,d,x)=>⟨[],[],[dU (fZ x c),dX .bY (fY d x c)]⟩)
def al5:HH:=hF alg func39 [zZ,alL,Qp,alK,alJ,alI,Tc,alH,S_,Jp,S9,alG] a0 fun x hp hb=>by
 obtain⟨c,d,x⟩:=x
 have yE:=YP (x:=c) (hb _ m0)
 have gM:=kS (x:=d) (hb _ m1)
 have j7:=gM.1
 have jb:=gM.2
 have sz:=ka (x:=x) (hb _ m2)
 have dN:=sz.1
 have fG:=sz.2.1
 have fF:=sz.2.2.1
 have eI:=sz.2.2.2.1
 have fE:=sz.2.2.2.2
 have bJ:df c:=hp _ m0
 have eh:cz d x:=hp _ m1
 have Ef:x.bB+30<=1000000000:=hp _ m2
 clear hp hb
 apply vE (let x7:={S:={aa:={τ:=Cd.aK,xs:=x.S.aa:cC UU}.xs,Next:=x.S.Next:aG},aw:={τ:=Cd.av,xs:=x.aw:cC UU}.xs,ae:={τ:=Cd.aq,xs:=x.ae:cC UU}.xs,ao:={τ:=Cd.ax,xs:=x.ao:cC UU}.xs,ai:={τ:=Cd.aI,xs:=x.ai:cC UU}.xs,State:=x.State,bB:=x.bB:aj};let x8:=cF x (jo (ag c 8));let Cg:=[0,1,5,30];let KN:=zm (jk d (allM d.az x.S.aa) x.aw);let Jv:=(x.ae.length:Int);let x3:=oy d x KN;let sT:=Cg.length;let iF:=ag (ag c 8) Jv;let vi:=aT (x.ae.getD (Int.toNat (aJ (ag c 8) Jv)) aB).F;let l7:=ag iF 3;let sU:=(↑sT:Int);let x2:=wrap i64 (x.bB+Cg.getD (Int.toNat (aJ (ag c 8) sU)) 0);let x4:=ag (ag c 8) sU;let x6:=dM l7;let x9:=gL l7;let x0:=jG x x2;let x5:={K:=x6.K,N:=x6.N,S:=x6.S:aU};let x1:=(eZ x7 vi (!cD iF 3) x5).1.S;let q0:=(0:Nat)=(0:Nat)/\LM [] [] [bU x9,DV.box [CL .aK x1.aa,CI x1.Next,CL .av (eZ x7 vi (!cD iF 3) x5).1.aw,CL .aq (eZ x7 vi (!cD iF 3) x5).1.ae,CL .ax (eZ x7 vi (!cD iF 3) x5).1.ao,CL .aI (eZ x7 vi (!cD iF 3) x5).1.ai,CI ((eZ x7 vi (!cD iF 3) x5).1.State),CI ((eZ x7 vi (!cD iF 3) x5).1.bB)]] [bU (fZ x c),DV.box (ay (fY d x c))];let q1:=bif !decide (x.State=2\/x.State=4\/x.State=6) then 0<=(ag c 8).i/\(ag c 8).b.length<=4294967296/\1<=sT/\u9 x/\(0<=x2/\x2<=1000000000)/\(0:Nat)=(0:Nat)/\LM [] [] [bU x4,DV.box (ay x0)] [bU (fZ x c),DV.box (ay (fY d x c))] else(0:Nat)=(0:Nat)/\LM [] [] [bU (ag c 8),DV.box (ay x)] [bU (fZ x c),DV.box (ay (fY d x c))];let q2:=bif x.State==1 then fR d=true/\x.S.aa.length<=40/\bif Option.isSome (jk d (allM d.az x.S.aa) x.aw) then cz d x/\x.State=1/\w9 x.S.aa KN/\KN.ep.length<=4294967295/\(0:Nat)=(0:Nat)/\LM [] [] [bU (ag c 8),DV.box (ay x3)] [bU (fZ x c),DV.box (ay (fY d x c))] else(0:Nat)=(0:Nat)/\LM [] [] [bU (ag c 8),DV.box (ay x)] [bU (fZ x c),DV.box (ay (fY d x c))] else(0:Nat)=(0:Nat)/\LM [] [] [bU (ag c 8),DV.box (ay x)] [bU (fZ x c),DV.box (ay (fY d x c))];let q3:=(0:Nat)=(0:Nat)/\LM [] [] [bU (ag c 8),DV.box (ay x)] [bU (fZ x c),DV.box (ay (fY d x c))];let q4:=(aH x7.ae vi (!cD iF 3) x5).2=1->x.State=1\/x.State=3\/x.State=5;let q5:=bif aJ c (8:Int)==(5:Int) then bif aJ c (8:Int)==(5:Int) then q1 else bif decide (Jv>0) then 0<=(ag c 8).i/\(ag c 8).b.length<=4294967296/\0<=aJ (ag c 8) Jv/\Int.toNat (aJ (ag c 8) Jv)<x.ae.length/\Int.toNat (aJ (ag c 8) Jv)<x.ae.length/\Int.toNat (aJ (ag c 8) Jv)<x.ae.length/\df iF/\df l7/\bT x/\bm x.S=true/\bp x6=true/\q4/\q0 else q3 else bif aJ c (8:Int)==(6:Int) then q1 else bif decide (Jv>0) then 0<=(ag c 8).i/\(ag c 8).b.length<=4294967296/\0<=aJ (ag c 8) Jv/\Int.toNat (aJ (ag c 8) Jv)<x.ae.length/\Int.toNat (aJ (ag c 8) Jv)<x.ae.length/\Int.toNat (aJ (ag c 8) Jv)<x.ae.length/\df iF/\df l7/\bT x/\bm x.S=true/\bp x6=true/\q4/\q0 else q3;let q6:=bif x.State==1 then df (ag c 8)/\bT x/\bm x.S=true/\(jo (ag c 8)).af.length<=4294967296/\(0:Nat)=(0:Nat)/\LM [] [] [bU (nQ (ag c 8)),DV.box (ay x8)] [bU (fZ x c),DV.box (ay (fY d x c))] else q3;let q7:=bif aJ c (8:Int)==(2:Int) then bif aJ c (8:Int)==(2:Int) then q2 else q5 else bif aJ c (8:Int)==(3:Int) then bif aJ c (8:Int)==(3:Int) then q2 else q5 else bif aJ c (8:Int)==(4:Int) then q2 else q5;0<=c.i/\L4 c.b.length/\bif aJ c (8:Int)==(0:Int) then bif aJ c (8:Int)==(0:Int) then q6 else q7 else bif aJ c (8:Int)==(1:Int) then q6 else q7)
 dsimp only
 have hb:=en (c:=c) (n:=8) (by omega)
 have h8:=bo bJ 8
 have hg:=eh.good
 have hf:=(oB (IN (ag c 8))).1
 have h40:=(jN eh.store).2.2.1
 have ht:=KW (ag c 8)
 have abJ:=eh.now
 have hw:∀n:Int,n=j0 (ag c 8) re->IntKind.wrap .i64 (x.bB+n)=x.bB+j0 (ag c 8) re:=by
  rintro n rfl;exact wi
 have hk:0<x.ae.length->0<=aJ (ag c 8) x.ae.length/\(aJ (ag c 8) x.ae.length).toNat<x.ae.length:=fun h=>by
  have:=en (c:=ag c 8) (n:=x.ae.length) (by omega);omega
 have hd1:=bo h8 x.ae.length
 have hd2:=bo hd1 3
 have hv:=p_ (ag (ag (ag c 8) x.ae.length) 3)
 have iN:∀key ok v,(aH x.ae key ok v).2=1->x.State=1\/x.State=3\/x.State=5:=fun key ok v h=>vx (lj.2 eh) h
 refine⟨bJ.1,bJ.2,?_⟩
 by_cases k1:aJ c 8=0\/aJ c 8=1
 ·have e1:fY d x c=if x.State=1 then cF x (jo (ag c 8)) else x:=if_pos k1
  have e2:fZ x c=if x.State=1 then nQ (ag c 8) else ag c 8:=if_pos k1
  repeat' (refine ct (fun _=> ?_) (fun _=> ?_))
  all_goals first
   |(exfalso;omega)
   |(rename_i hs;rw[if_pos hs] at e1 e2;exact⟨h8,hg,eh.store,by omega,rfl,rfl,rfl,wL e2.symm e1.symm⟩)
   |(rename_i hs;rw[if_neg hs] at e1 e2;exact⟨rfl,rfl,rfl,wL e2.symm e1.symm⟩)
 by_cases k2:aJ c 8=2\/aJ c 8=3\/aJ c 8=4
 ·have e1:fY d x c=if x.State=1 then va d x else x:=(if_neg k1).trans (if_pos k2)
  have e2:fZ x c=ag c 8:=(if_neg k1).trans (if_pos k2)
  repeat' (refine ct (fun _=> ?_) (fun _=> ?_))
  all_goals first
   |(exfalso;omega)
   |(rename_i hs;rw[if_pos hs] at e1
     exact⟨eh.nJ,by omega,ab (fun h=>⟨eh,hs,(yp eh.nJ h).2.1,(yp eh.nJ h).2.2,rfl,rfl,rfl,wL e2.symm ((yp eh.nJ h).1.symm.trans e1.symm)⟩) (fun h=>⟨rfl,rfl,rfl,wL e2.symm ((My h).symm.trans e1.symm)⟩)⟩)
   |(rename_i hs;rw[if_neg hs] at e1;exact⟨rfl,rfl,rfl,wL e2.symm e1.symm⟩)
 by_cases k3:aJ c 8=5\/aJ c 8=6
 ·have e1:fY d x c=if mH x=true then x else jG x (x.bB+j0 (ag c 8) re):=(if_neg k1).trans ((if_neg k2).trans (if_pos k3))
  have e2:fZ x c=if mH x=true then ag c 8 else rb (ag c 8) re:=(if_neg k1).trans ((if_neg k2).trans (if_pos k3))
  repeat' (refine ct (fun _=> ?_) (fun _=> ?_))
  all_goals first
   |(exfalso;omega)
   |(refine bu ?_ ?_<;>intro h
     ·rw[if_neg (by rw[show mH x=false from h];decide)] at e1 e2
      exact⟨h8.1,h8.2,by decide,ni eh,(by rw[hw (List.getD [0,1,5,30] (aJ (ag c 8) (([0,1,5,30]:List Int).length:Int)).toNat 0) rfl];omega),rfl,rfl,rfl,wL e2.symm ((congrArg (jG x) (hw _ rfl)).trans e1.symm)⟩
     ·rw[if_pos (show mH x=true from h)] at e1 e2
      exact⟨rfl,rfl,rfl,wL e2.symm e1.symm⟩)
 ·have e1:fY d x c=if 0<x.ae.length then(eZ x (Uh x (ag c 8)) (!cD (M7 x (ag c 8)) 3) (dM (ag (M7 x (ag c 8)) 3))).1 else x:=(if_neg k1).trans ((if_neg k2).trans (if_neg k3))
  have e2:fZ x c=if 0<x.ae.length then gL (ag (M7 x (ag c 8)) 3) else ag c 8:=(if_neg k1).trans ((if_neg k2).trans (if_neg k3))
  repeat' (refine ct (fun _=> ?_) (fun _=> ?_))
  all_goals first
   |(exfalso;omega)
   |(refine bc ?_ ?_<;>intro h
     ·have h:0<x.ae.length:=by omega
      rw[if_pos h] at e1 e2
      obtain⟨j1,j2⟩:=hk h
      exact⟨h8.1,h8.2,j1,j2,j2,j2,hd1,hd2,hg,eh.store,hv,iN _ _ _,rfl,rfl,rfl,wL e2.symm e1.symm⟩
     ·rw[if_neg (by omega)] at e1 e2
      exact⟨rfl,rfl,rfl,wL e2.symm e1.symm⟩)
def adT:=cf (α:=aA×Int) (qC qU (q1 qI)) [.box false,.ro] (fun(c,aW)=>[df c,aW<=1000]) (fun(c,aW)=>⟨[dA .gJ (dT c),dA .bY (instD c aW)],[false,true],[dU (instDC c aW)]⟩)
def DR(c:aA)(aW:Int):Int×T2×T0×T2×T0×T5×Unit->Prop:=fun(i,r,q,d,p,cu,_)=>d=((dT c).Name,(dT c).az,())/\0<=i/\i<=1000/\df ⟨cu.1,cu.2.1,cu.2.2.1⟩/\cz (dT c) (instT p)/\(instT p).bB+30*i<=1000000000/\mY (dT c) i.toNat (instT p) ⟨cu.1,cu.2.1,cu.2.2.1⟩=yV c aW/\uc (dT c) i.toNat (instT p) ⟨cu.1,cu.2.1,cu.2.2.1⟩=IW c aW
def DE(c:aA)(aW:Int):Int×T2×T0×T2×T0×T5×Unit->Nat:=fun(i,r,q,d,p,cu,_)=>i.toNat
def amR:AX adT:=fun(c,aW)=>b_ [(4,aY [iI 8,.box 4 (4,1024) [.lit .str,.own .cv true],.box 5 (5,1024) [.own .aK true,.lit (.int .i64),.own .av true,.own .aq true,.own .ax true,.own .aI true,.lit (.int .i64),.lit (.int .i64)],.box 6 (6,1024) [.lit .str,.shr .cv],.box 7 (7,1024) [.own .aK true,.lit (.int .i64),.own .av true,.own .aq true,.own .ax true,.own .aI true,.lit (.int .i64),.lit (.int .i64)],.box 0 (2000000,0) [.shr .byte,.lit (.int .i64),.lit (.int .i64)]] (fun _=>DR c aW) (DE c aW))]
def amg:HH:=hF adT func16 [al7,al6,Tc,zZ,al5,Jp,Qr] amR fun x hp hb=>by
 obtain⟨c,aW⟩:=x
 have yE:=YP (x:=c) (hb _ m0)
 have Al:=zD (n:=aW) (hb _ m1)
 have bJ:df c:=hp _ m0
 have eh:aW<=1000:=hp _ m1
 clear hp hb
 apply vE (let x1:=List.length [0,0,7];let x0:=ag (lM c) (↑x1:Int);let q0:=instNew (List.getD [0,0,7] (Int.toNat (aJ (lM c) (↑x1:Int))) 0);let q1:=List bW×Int×List au×List ap×List aF×List br×Int×Int×PUnit;let q2:=ay (instD c aW);df c/\0<=(lM c).i/\(lM c).b.length<=4294967296/\1<=x1/\0<=x0.i/\L4 x0.b.length/\DR c aW (aJ x0 aW,({data:= #[]:BA},[],()),([],0,[],[],[],[],0,0,()),((dT c).Name,(dT c).az,()),(q0.S.aa,q0.S.Next,q0.aw,q0.ae,q0.ao,q0.ai,q0.State,q0.bB,()),((ag x0 aW).b,(ag x0 aW).i,(ag x0 aW).h,()),())/\∀(y:Int×T7×q1×T7×q1×Y0×PUnit),let x4:={S:={aa:=y.2.2.2.2.1.1,Next:=y.2.2.2.2.1.2.1:aG},aw:=y.2.2.2.2.1.2.2.1,ae:=y.2.2.2.2.1.2.2.2.1,ao:=y.2.2.2.2.1.2.2.2.2.1,ai:=y.2.2.2.2.1.2.2.2.2.2.1,State:=y.2.2.2.2.1.2.2.2.2.2.2.1,bB:=y.2.2.2.2.1.2.2.2.2.2.2.2.1:aj};let x5:={b:=y.2.2.2.2.2.1.1,i:=y.2.2.2.2.2.1.2.1,h:=y.2.2.2.2.2.1.2.2.1:aA};let x6:={Name:=y.2.2.2.1.1,az:=y.2.2.2.1.2.1:aZ};let x2:=fY x6 x4 x5;let x3:=eD x4 5;let q3:=(wrap i64 (y.1-1),(y.2.1.1,y.2.1.2.1,()),(y.2.2.1.1,y.2.2.1.2.1,y.2.2.1.2.2.1,y.2.2.1.2.2.2.1,y.2.2.1.2.2.2.2.1,y.2.2.1.2.2.2.2.2.1,y.2.2.1.2.2.2.2.2.2.1,y.2.2.1.2.2.2.2.2.2.2.1,()),(y.2.2.2.1.1,y.2.2.2.1.2.1,()),(x2.S.aa,x2.S.Next,x2.aw,x2.ae,x2.ao,x2.ai,x2.State,x2.bB,()),((fZ x4 x5).b,(fZ x4 x5).i,(fZ x4 x5).h,()),());DR c aW y->bif decide (y.1>0) then df x5/\cz x6 x4/\y.2.2.2.2.1.2.2.2.2.2.2.2.1+(30:Int)<=(1000000000:Int)/\DR c aW q3/\DE c aW q3<DE c aW y else bif y.2.2.2.2.1.2.2.2.2.2.2.1==1 then df x5/\bif cD x5 10 then bT x4/\((5:Int)=(3:Int)\/(5:Int)=(5:Int))/\LM [DV.agg [CS y.2.2.2.1.1,CL .cv y.2.2.2.1.2.1],DV.agg (ay x3)] [DV.agg [CS ((dT c).Name),CL .cv (dT c).az],DV.agg q2] [bU (ag x5 10)] [bU (instDC c aW)] else LM [DV.agg [CS y.2.2.2.1.1,CL .cv y.2.2.2.1.2.1],DV.agg [CL .aK y.2.2.2.2.1.1,CI y.2.2.2.2.1.2.1,CL .av y.2.2.2.2.1.2.2.1,CL .aq y.2.2.2.2.1.2.2.2.1,CL .ax y.2.2.2.2.1.2.2.2.2.1,CL .aI y.2.2.2.2.1.2.2.2.2.2.1,CI y.2.2.2.2.1.2.2.2.2.2.2.1,CI y.2.2.2.2.1.2.2.2.2.2.2.2.1]] [DV.agg [CS ((dT c).Name),CL .cv (dT c).az],DV.agg q2] [bU (ag x5 10)] [bU (instDC c aW)] else LM [DV.agg [CS y.2.2.2.1.1,CL .cv y.2.2.2.1.2.1],DV.agg [CL .aK y.2.2.2.2.1.1,CI y.2.2.2.2.1.2.1,CL .av y.2.2.2.2.1.2.2.1,CL .aq y.2.2.2.2.1.2.2.2.1,CL .ax y.2.2.2.2.1.2.2.2.2.1,CL .aI y.2.2.2.2.1.2.2.2.2.2.1,CI y.2.2.2.2.1.2.2.2.2.2.2.1,CI y.2.2.2.2.1.2.2.2.2.2.2.2.1]] [DV.agg [CS ((dT c).Name),CL .cv (dT c).az],DV.agg q2] [DV.box [CL .byte y.2.2.2.2.2.1.1,CI y.2.2.2.2.2.1.2.1,CI y.2.2.2.2.2.1.2.2.1]] [bU (instDC c aW)])
 dsimp only
 have hk:=I6 bJ
 have h1:=S0 bJ
 have h2:=bo h1 aW
 have hn:=NC c
 have hb:0<=aJ (yW c) aW/\aJ (yW c) aW<=1000:=by
  by_cases h:0<aW
  ·have:=en (c:=yW c) h;omega
  ·unfold aJ;rw[if_pos (by omega)];omega
 refine⟨bJ,hk.1,hk.2,by decide,h1.1,h1.2,⟨rfl,hb.1,hb.2,h2,HZ c,?_,rfl,rfl⟩,?_⟩
 ·show(IV c).bB+30*aJ (yW c) aW<=1000000000
  omega
 clear hk h1 h2 hn hb
 rintro⟨i,r,q,d,p,cu,⟨⟩⟩ ⟨hd,g1,g2,gc,gX,gn,gE,gC⟩
 have hd:d=((dT c).Name,(dT c).az,()):=hd
 subst hd
 have g1:0<=i:=g1
 have g2:i<=1000:=g2
 have gc:df (xn cu):=gc
 have gX:cz (dT c) (instT p):=gX
 have gn:(instT p).bB+30*i<=1000000000:=gn
 have gE:mY (dT c) i.toNat (instT p) (xn cu)=yV c aW:=gE
 have gC:uc (dT c) i.toNat (instT p) (xn cu)=IW c aW:=gC
 refine bc ?_ ?_<;>intro hc
 ·have hc:0<i:=hc
  obtain⟨e1,e2,e3⟩:=zl (c:=xn cu) gX (by omega)
  have es:=IQ (d:=dT c) (x:=instT p) (c:=xn cu) hc
  rw[es.1] at gE
  rw[es.2] at gC
  have nx:∀j,j=i-1->DR c aW (j,r,q,((dT c).Name,(dT c).az,()),sD (fY (dT c) (instT p) (xn cu)),ZY (fZ (instT p) (xn cu)),())/\DE c aW (j,r,q,((dT c).Name,(dT c).az,()),sD (fY (dT c) (instT p) (xn cu)),ZY (fZ (instT p) (xn cu)),())<DE c aW (i,r,q,((dT c).Name,(dT c).az,()),p,cu,()):=by
   rintro j rfl
   exact⟨⟨rfl,by omega,by omega,Nb gc,e1,by show(fY (dT c) (instT p) (xn cu)).bB+30*(i-1)<=1000000000;omega,gE,gC⟩,by show(i-1).toNat<i.toNat;omega⟩
  exact⟨gc,gX,by show(instT p).bB+30<=1000000000;omega,nx _ (wi (n:=i-1))⟩
 ·have hc:¬0<i:=hc
  have e:i.toNat=0:=by omega
  rw[e] at gE gC
  have gE:instT p=yV c aW:=gE
  have gC:xn cu=IW c aW:=gC
  have fin:∀(x':aj)(c':aA),x'=instD c aW->c'=instDC c aW->gH [DV.agg [.lit (.string (dT c).Name),.sl .cv (dT c).az],DV.agg [.sl .aK x'.S.aa,.lit (.int .i64 x'.S.Next),.sl .av x'.aw,.sl .aq x'.ae,.sl .ax x'.ao,.sl .aI x'.ai,.lit (.int .i64 x'.State),.lit (.int .i64 x'.bB)]]=gH [DV.agg [.lit (.string (dT c).Name),.sl .cv (dT c).az],DV.agg [.sl .aK (instD c aW).S.aa,.lit (.int .i64 (instD c aW).S.Next),.sl .av (instD c aW).aw,.sl .aq (instD c aW).ae,.sl .ax (instD c aW).ao,.sl .aI (instD c aW).ai,.lit (.int .i64 (instD c aW).State),.lit (.int .i64 (instD c aW).bB)]]/\gH [DV.box [.sl .byte c'.b,.lit (.int .i64 c'.i),.lit (.int .i64 c'.h)]]=gH [DV.box [.sl .byte (instDC c aW).b,.lit (.int .i64 (instDC c aW).i),.lit (.int .i64 (instDC c aW).h)]]:=fun _ _ h1 h2=>amW rfl h1 h2
  refine ct (fun hs=>⟨gc,ab (fun ho=>⟨gX.good,.inr rfl,rfl,?_⟩) (fun ho=>⟨rfl,?_⟩)⟩) (fun hs=>⟨rfl,?_⟩)
  ·have hs:(yV c aW).State=1:=by rw[<-gE];exact hs
   have ho:cD (IW c aW) 10=true:=by rw[<-gC];exact ho
   exact fin (eD (instT p) 5) (ag (xn cu) 10) (by rw[instD,if_pos ⟨hs,ho⟩,gE]) (by rw[instDC,if_pos hs,gC])
  ·have hs:(yV c aW).State=1:=by rw[<-gE];exact hs
   have ho:¬cD (IW c aW) 10=true:=by rw[<-gC];exact fun c=>absurd (ho.symm.trans c) (by decide)
   exact fin (instT p) (ag (xn cu) 10) (by rw[instD,if_neg (fun c=>ho c.2),gE]) (by rw[instDC,if_pos hs,gC])
  ·have hs:¬(yV c aW).State=1:=by rw[<-gE];exact hs
   exact fin (instT p) (xn cu) (by rw[instD,if_neg (fun c=>hs c.1),gE]) (by rw[instDC,if_neg hs,gC])
def Zk5:=cf (α:=List Int) (q1 (qL .byte)) [.ro] (fun code=>[L4 code.length]) (fun code=>⟨[dA .gJ (dT (dj code)),dA .bY (instD (dj code) (6+gW code 30))],[false,false],[]⟩)
def Zh5:HH:=hF Zk5 func5 [amh,amf,amg] a0 fun(code:List Int) hp hb=>by
 have Ge:L9 code.length:=kc (hb _ m0)
 have bJ:code.length<=4294967296:=hp _ m0
 clear hp hb
 apply vE (let q0:=dj code;let q1:=(6:Int)+gW code 30;L4 code.length/\L4 code.length/\df q0/\wrap i64 q1<=1000/\Lf [DV.agg [CS ((dT q0).Name),CL .cv (dT q0).az],DV.agg (ay (instD q0 (wrap i64 q1)))] [DV.agg [CS ((dT q0).Name),CL .cv (dT q0).az],DV.agg (ay (instD q0 q1))])
 dsimp only
 have hs:=HU code 30
 have h0:0<=gW code 30:=by unfold gW;split<;>omega
 have e:IntKind.wrap .i64 (6+gW code 30)=6+gW code 30:=wi
 rw[e]
 exact⟨bJ,bJ,SZ bJ,by omega,amV rfl rfl⟩
theorem Ra(l:List br){i:Int}(h0:0<=i)(h:i<l.length):(l.reverse.map br.Key).getD i.toNat ah=br.Key (l.getD (l.length-1-i).toNat bM):=by
 have hn:i.toNat<(l.reverse.map br.Key).length:=by simp;omega
 have hm:(l.length-1-i).toNat<l.length:=by omega
 rw[dB,eW hn,dB,eW hm]
 simp only[List.getElem_map,List.getElem_reverse,DY]
 congr 2
 omega
def ad4:=cf (α:=(List br)×(List BA)) (qC (qL .aI) (q1 (qL .str))) [.ro,.ro] (fun _=>[]) (fun(l,keys)=>⟨[dO (decide (l.reverse.map br.Key=keys))],[],[]⟩)
def Hx(l:List br)(keys:List BA):Int×Unit->Prop:=fun(i,_)=>0<=i/\i<=keys.length/\l.length=keys.length/\((l.reverse.map br.Key).drop i.toNat=keys.drop i.toNat↔l.reverse.map br.Key=keys)
def G7(l:List br)(keys:List BA):Int×Unit->Nat:=fun(i,_)=>keys.length-i.toNat
def amT:AX ad4:=fun(l,keys)=>b_ [(4,aY [iI 14] (fun _=>Hx l keys) (G7 l keys))]
def ami:HH:=hF ad4 func13 [] amT fun x hp hb=>by
 obtain⟨l,keys⟩:=x
 have jB:L9 l.length:=kc (hb _ m0)
 have ahb:L9 keys.length:=kc (hb _ m1)
 clear hp hb
 apply vE (let q0:=decide ((List.reverse l).map br.Key=keys);bif (keys.length:Int) !=(l.length:Int) then Lb false q0 else Hx l keys (0,())/\∀(y:Int×PUnit),let x1:=wrap i64 (wrap i64 ((l.length:Int)-1)-y.1);let x0:=x1.toNat;let q1:=(wrap i64 (y.1+1),());Hx l keys y->bif decide (y.1<(keys.length:Int)) then 0<=y.1/\y.1.toNat<keys.length/\0<=x1/\x0<l.length/\bif !(l.getD x0 bM).Key.toList==(keys.getD y.1.toNat ah).toList then Lb false q0 else Hx l keys q1/\G7 l keys q1<G7 l keys y else Lb true q0)
 dsimp only
 refine ab (fun h=>lg ?_) (fun h=>⟨?_,?_⟩)
 ·rintro rfl;simp at h
 ·have h:(keys.length:Int)=l.length:=by simpa using h
  exact⟨by omega,by omega,by omega,by simp⟩
 rintro⟨i,⟨⟩⟩ ⟨h1,h2,h3,hR⟩
 simp only at*
 refine ab ?_ ?_<;>intro hc
 ·have hc:i<keys.length:=by have hc:=yT hc;omega
  simp(disch:=omega) only[wrap_i64,aQ]
  rw[dx (l.reverse.map br.Key) ah h1 (by simp;omega),dx keys ah h1 hc,Ra l h1 (by omega)] at hR
  refine⟨by omega,by omega,by omega,by omega,ab (fun h=>lg ?_) (fun h=>⟨⟨by omega,by omega,h3,?_⟩,?_⟩)⟩
  ·rw[<-hR];simp at h;simp[h]
  ·rw[<-hR];simp at h;simp[h]
  ·simp only[G7];omega
 ·have hc:keys.length<=i:=by have hc:=yF hc;omega
  rw[cd _ (by simp;omega),cd keys hc] at hR
  exact Js (hR.1 rfl)
def jg:jw UU where
 α:=(List Int)
 md:=[.ro]
 of:=o1 (oL .byte)
 ds:=fun x=>[dL .byte x]
 pre:=fun _=>[]
 mS:=fun code=>⟨[dO true],[],[]⟩
 law:=l1 (lL .byte)
def iE(code:(List Int)):T2×T0×T0×List BA×Int×Unit->Prop:=fun(b,x,p,l,i,_)=>b=((dT (dj code)).Name,(dT (dj code)).az,())/\instT x=instD (dj code) (6+gW code 30)/\Ij (dT (dj code)) (instD (dj code) (6+gW code 30)) (instT p) l i
def gQ(code:(List Int)):T2×T0×T0×List BA×Int×Unit->Nat:=fun(b,x,p,l,i,_)=>(instD (dj code) (6+gW code 30)).ai.length-i.toNat
def vP:jg.α->Nat->Option (sA UU):=fun code=>b_ [(11,aY [.box 3 (3,1024) [.lit .str,.shr .cv],.box 4 (4,1024) [.shr .aK,.lit (.int .i64),.shr .av,.shr .aq,.shr .ax,.shr .aI,.lit (.int .i64),.lit (.int .i64)],.box 5 (5,1024) [.own .aK true,.lit (.int .i64),.own .av true,.own .aq true,.own .ax true,.own .aI true,.lit (.int .i64),.lit (.int .i64)],iO 7 .str,iI 8] (fun _=>iE code) (gQ code))]
def vk:=us [Zh4,Zh5,Zh6,Zh7,Zh8,Zh9,amk,Tg,amj,ami,Tf]
theorem wM:Holds EE (3,jg):=by
 refine holds_of pM func3 jg (by kernel_rfl) vk (wl _) vP (fun(code:(List Int)) hp hb=> ?_)
 have Ge:code.length<=9223372036854775807:=kc (hb _ m0)
 clear hp hb
 apply vE (let q0:=instD (dj code) (6+gW code 30);let q1:=dT (dj code);let q2:=List bW×Int×List au×List ap×List aF×List br×Int×Int×PUnit;let q3:=Lb false true;let q4:=mf q1 q0;bif decide (code.length>1048576) then Lb true true else L4 code.length/\cX q1<=4294967295/\eH q0<=4294967295/\bif !lz q1 q0==(q0.State==1) then q3 else bif !lz q1 q0 then Lb (decide (instD (dj code) (6+gW code 30)=mf q1 q0)) true else iE code ((q1.Name,q1.az,()),(q0.S.aa,q0.S.Next,q0.aw,q0.ae,q0.ao,q0.ai,q0.State,q0.bB,()),(q4.S.aa,q4.S.Next,q4.aw,q4.ae,q4.ao,q4.ai,q4.State,q4.bB,()),[],0,())/\∀(y:T7×q2×q2×List BA×Int×PUnit),let x1:=List.length (e9 {Name:=y.1.1,az:=y.1.2.1:aZ} {S:={aa:={τ:=Cd.aK,xs:=y.2.2.1.1:cC UU}.xs,Next:=y.2.2.1.2.1:aG},aw:={τ:=Cd.av,xs:=y.2.2.1.2.2.1:cC UU}.xs,ae:={τ:=Cd.aq,xs:=y.2.2.1.2.2.2.1:cC UU}.xs,ao:={τ:=Cd.ax,xs:=y.2.2.1.2.2.2.2.1:cC UU}.xs,ai:={τ:=Cd.aI,xs:=y.2.2.1.2.2.2.2.2.1:cC UU}.xs,State:=y.2.2.1.2.2.2.2.2.2.1,bB:=y.2.2.1.2.2.2.2.2.2.2.1:aj} y.2.2.1.2.2.2.2.2.2.2.1).2;let x2:=(e9 {Name:=y.1.1,az:=y.1.2.1:aZ} {S:={aa:={τ:=Cd.aK,xs:=y.2.2.1.1:cC UU}.xs,Next:=y.2.2.1.2.1:aG},aw:={τ:=Cd.av,xs:=y.2.2.1.2.2.1:cC UU}.xs,ae:={τ:=Cd.aq,xs:=y.2.2.1.2.2.2.1:cC UU}.xs,ao:={τ:=Cd.ax,xs:=y.2.2.1.2.2.2.2.1:cC UU}.xs,ai:={τ:=Cd.aI,xs:=y.2.2.1.2.2.2.2.2.1:cC UU}.xs,State:=y.2.2.1.2.2.2.2.2.2.1,bB:=y.2.2.1.2.2.2.2.2.2.2.1:aj} y.2.2.1.2.2.2.2.2.2.2.1).1.S;let x6:=y.2.2.1.2.2.2.2.2.1.length;let x7:=aT (aN y.2.2.1.2.2.2.2.2.1);let x8:=(y.2.1.2.2.2.2.2.1.length:Int);let x0:=(qW {Name:=y.1.1,az:=y.1.2.1:aZ} {S:={aa:={τ:=Cd.aK,xs:=x2.aa:cC UU}.xs,Next:=x2.Next:aG},aw:={τ:=Cd.av,xs:=(e9 {Name:=y.1.1,az:=y.1.2.1:aZ} {S:={aa:={τ:=Cd.aK,xs:=y.2.2.1.1:cC UU}.xs,Next:=y.2.2.1.2.1:aG},aw:={τ:=Cd.av,xs:=y.2.2.1.2.2.1:cC UU}.xs,ae:={τ:=Cd.aq,xs:=y.2.2.1.2.2.2.1:cC UU}.xs,ao:={τ:=Cd.ax,xs:=y.2.2.1.2.2.2.2.1:cC UU}.xs,ai:={τ:=Cd.aI,xs:=y.2.2.1.2.2.2.2.2.1:cC UU}.xs,State:=y.2.2.1.2.2.2.2.2.2.1,bB:=y.2.2.1.2.2.2.2.2.2.2.1:aj} y.2.2.1.2.2.2.2.2.2.2.1).1.aw:cC UU}.xs,ae:={τ:=Cd.aq,xs:=(e9 {Name:=y.1.1,az:=y.1.2.1:aZ} {S:={aa:={τ:=Cd.aK,xs:=y.2.2.1.1:cC UU}.xs,Next:=y.2.2.1.2.1:aG},aw:={τ:=Cd.av,xs:=y.2.2.1.2.2.1:cC UU}.xs,ae:={τ:=Cd.aq,xs:=y.2.2.1.2.2.2.1:cC UU}.xs,ao:={τ:=Cd.ax,xs:=y.2.2.1.2.2.2.2.1:cC UU}.xs,ai:={τ:=Cd.aI,xs:=y.2.2.1.2.2.2.2.2.1:cC UU}.xs,State:=y.2.2.1.2.2.2.2.2.2.1,bB:=y.2.2.1.2.2.2.2.2.2.2.1:aj} y.2.2.1.2.2.2.2.2.2.2.1).1.ae:cC UU}.xs,ao:={τ:=Cd.ax,xs:=(e9 {Name:=y.1.1,az:=y.1.2.1:aZ} {S:={aa:={τ:=Cd.aK,xs:=y.2.2.1.1:cC UU}.xs,Next:=y.2.2.1.2.1:aG},aw:={τ:=Cd.av,xs:=y.2.2.1.2.2.1:cC UU}.xs,ae:={τ:=Cd.aq,xs:=y.2.2.1.2.2.2.1:cC UU}.xs,ao:={τ:=Cd.ax,xs:=y.2.2.1.2.2.2.2.1:cC UU}.xs,ai:={τ:=Cd.aI,xs:=y.2.2.1.2.2.2.2.2.1:cC UU}.xs,State:=y.2.2.1.2.2.2.2.2.2.1,bB:=y.2.2.1.2.2.2.2.2.2.2.1:aj} y.2.2.1.2.2.2.2.2.2.2.1).1.ao:cC UU}.xs,ai:={τ:=Cd.aI,xs:=(e9 {Name:=y.1.1,az:=y.1.2.1:aZ} {S:={aa:={τ:=Cd.aK,xs:=y.2.2.1.1:cC UU}.xs,Next:=y.2.2.1.2.1:aG},aw:={τ:=Cd.av,xs:=y.2.2.1.2.2.1:cC UU}.xs,ae:={τ:=Cd.aq,xs:=y.2.2.1.2.2.2.1:cC UU}.xs,ao:={τ:=Cd.ax,xs:=y.2.2.1.2.2.2.2.1:cC UU}.xs,ai:={τ:=Cd.aI,xs:=y.2.2.1.2.2.2.2.2.1:cC UU}.xs,State:=y.2.2.1.2.2.2.2.2.2.1,bB:=y.2.2.1.2.2.2.2.2.2.2.1:aj} y.2.2.1.2.2.2.2.2.2.2.1).1.ai:cC UU}.xs,State:=(e9 {Name:=y.1.1,az:=y.1.2.1:aZ} {S:={aa:={τ:=Cd.aK,xs:=y.2.2.1.1:cC UU}.xs,Next:=y.2.2.1.2.1:aG},aw:={τ:=Cd.av,xs:=y.2.2.1.2.2.1:cC UU}.xs,ae:={τ:=Cd.aq,xs:=y.2.2.1.2.2.2.1:cC UU}.xs,ao:={τ:=Cd.ax,xs:=y.2.2.1.2.2.2.2.1:cC UU}.xs,ai:={τ:=Cd.aI,xs:=y.2.2.1.2.2.2.2.2.1:cC UU}.xs,State:=y.2.2.1.2.2.2.2.2.2.1,bB:=y.2.2.1.2.2.2.2.2.2.2.1:aj} y.2.2.1.2.2.2.2.2.2.2.1).1.State,bB:=(e9 {Name:=y.1.1,az:=y.1.2.1:aZ} {S:={aa:={τ:=Cd.aK,xs:=y.2.2.1.1:cC UU}.xs,Next:=y.2.2.1.2.1:aG},aw:={τ:=Cd.av,xs:=y.2.2.1.2.2.1:cC UU}.xs,ae:={τ:=Cd.aq,xs:=y.2.2.1.2.2.2.1:cC UU}.xs,ao:={τ:=Cd.ax,xs:=y.2.2.1.2.2.2.2.1:cC UU}.xs,ai:={τ:=Cd.aI,xs:=y.2.2.1.2.2.2.2.2.1:cC UU}.xs,State:=y.2.2.1.2.2.2.2.2.2.1,bB:=y.2.2.1.2.2.2.2.2.2.2.1:aj} y.2.2.1.2.2.2.2.2.2.2.1).1.bB:aj} x7 true {K:=(1:Int),N:=(1:Int),S:={data:= #[]:BA}:aU}).1.S;let x5:=wrap i64 ((↑x6:Int)-1);let x4:=x5.toNat;let x3:=[(List.getD y.2.2.1.2.2.2.2.2.1 x4 bM).Key];let q5:=qW {Name:=y.1.1,az:=y.1.2.1:aZ} {S:={aa:={τ:=Cd.aK,xs:=x2.aa:cC UU}.xs,Next:=x2.Next:aG},aw:={τ:=Cd.av,xs:=(e9 {Name:=y.1.1,az:=y.1.2.1:aZ} {S:={aa:={τ:=Cd.aK,xs:=y.2.2.1.1:cC UU}.xs,Next:=y.2.2.1.2.1:aG},aw:={τ:=Cd.av,xs:=y.2.2.1.2.2.1:cC UU}.xs,ae:={τ:=Cd.aq,xs:=y.2.2.1.2.2.2.1:cC UU}.xs,ao:={τ:=Cd.ax,xs:=y.2.2.1.2.2.2.2.1:cC UU}.xs,ai:={τ:=Cd.aI,xs:=y.2.2.1.2.2.2.2.2.1:cC UU}.xs,State:=y.2.2.1.2.2.2.2.2.2.1,bB:=y.2.2.1.2.2.2.2.2.2.2.1:aj} y.2.2.1.2.2.2.2.2.2.2.1).1.aw:cC UU}.xs,ae:={τ:=Cd.aq,xs:=(e9 {Name:=y.1.1,az:=y.1.2.1:aZ} {S:={aa:={τ:=Cd.aK,xs:=y.2.2.1.1:cC UU}.xs,Next:=y.2.2.1.2.1:aG},aw:={τ:=Cd.av,xs:=y.2.2.1.2.2.1:cC UU}.xs,ae:={τ:=Cd.aq,xs:=y.2.2.1.2.2.2.1:cC UU}.xs,ao:={τ:=Cd.ax,xs:=y.2.2.1.2.2.2.2.1:cC UU}.xs,ai:={τ:=Cd.aI,xs:=y.2.2.1.2.2.2.2.2.1:cC UU}.xs,State:=y.2.2.1.2.2.2.2.2.2.1,bB:=y.2.2.1.2.2.2.2.2.2.2.1:aj} y.2.2.1.2.2.2.2.2.2.2.1).1.ae:cC UU}.xs,ao:={τ:=Cd.ax,xs:=(e9 {Name:=y.1.1,az:=y.1.2.1:aZ} {S:={aa:={τ:=Cd.aK,xs:=y.2.2.1.1:cC UU}.xs,Next:=y.2.2.1.2.1:aG},aw:={τ:=Cd.av,xs:=y.2.2.1.2.2.1:cC UU}.xs,ae:={τ:=Cd.aq,xs:=y.2.2.1.2.2.2.1:cC UU}.xs,ao:={τ:=Cd.ax,xs:=y.2.2.1.2.2.2.2.1:cC UU}.xs,ai:={τ:=Cd.aI,xs:=y.2.2.1.2.2.2.2.2.1:cC UU}.xs,State:=y.2.2.1.2.2.2.2.2.2.1,bB:=y.2.2.1.2.2.2.2.2.2.2.1:aj} y.2.2.1.2.2.2.2.2.2.2.1).1.ao:cC UU}.xs,ai:={τ:=Cd.aI,xs:=(e9 {Name:=y.1.1,az:=y.1.2.1:aZ} {S:={aa:={τ:=Cd.aK,xs:=y.2.2.1.1:cC UU}.xs,Next:=y.2.2.1.2.1:aG},aw:={τ:=Cd.av,xs:=y.2.2.1.2.2.1:cC UU}.xs,ae:={τ:=Cd.aq,xs:=y.2.2.1.2.2.2.1:cC UU}.xs,ao:={τ:=Cd.ax,xs:=y.2.2.1.2.2.2.2.1:cC UU}.xs,ai:={τ:=Cd.aI,xs:=y.2.2.1.2.2.2.2.2.1:cC UU}.xs,State:=y.2.2.1.2.2.2.2.2.2.1,bB:=y.2.2.1.2.2.2.2.2.2.2.1:aj} y.2.2.1.2.2.2.2.2.2.2.1).1.ai:cC UU}.xs,State:=(e9 {Name:=y.1.1,az:=y.1.2.1:aZ} {S:={aa:={τ:=Cd.aK,xs:=y.2.2.1.1:cC UU}.xs,Next:=y.2.2.1.2.1:aG},aw:={τ:=Cd.av,xs:=y.2.2.1.2.2.1:cC UU}.xs,ae:={τ:=Cd.aq,xs:=y.2.2.1.2.2.2.1:cC UU}.xs,ao:={τ:=Cd.ax,xs:=y.2.2.1.2.2.2.2.1:cC UU}.xs,ai:={τ:=Cd.aI,xs:=y.2.2.1.2.2.2.2.2.1:cC UU}.xs,State:=y.2.2.1.2.2.2.2.2.2.1,bB:=y.2.2.1.2.2.2.2.2.2.2.1:aj} y.2.2.1.2.2.2.2.2.2.2.1).1.State,bB:=(e9 {Name:=y.1.1,az:=y.1.2.1:aZ} {S:={aa:={τ:=Cd.aK,xs:=y.2.2.1.1:cC UU}.xs,Next:=y.2.2.1.2.1:aG},aw:={τ:=Cd.av,xs:=y.2.2.1.2.2.1:cC UU}.xs,ae:={τ:=Cd.aq,xs:=y.2.2.1.2.2.2.1:cC UU}.xs,ao:={τ:=Cd.ax,xs:=y.2.2.1.2.2.2.2.1:cC UU}.xs,ai:={τ:=Cd.aI,xs:=y.2.2.1.2.2.2.2.2.1:cC UU}.xs,State:=y.2.2.1.2.2.2.2.2.2.1,bB:=y.2.2.1.2.2.2.2.2.2.2.1:aj} y.2.2.1.2.2.2.2.2.2.2.1).1.bB:aj} x7 true {K:=(1:Int),N:=(1:Int),S:={data:= #[]:BA}:aU};let q6:=bif y.2.2.1.2.2.2.2.2.2.1==6 then bif decide (List.map br.Key (List.reverse y.2.1.2.2.2.2.2.1)=y.2.2.2.1) then cX {Name:=y.1.1,az:=y.1.2.1:aZ}<=4294967295/\L4 (dc y.2.2.1.1)/\Lb (instOk {Name:=y.1.1,az:=y.1.2.1:aZ} {S:={aa:=y.2.2.1.1,Next:=y.2.2.1.2.1:aG},aw:=y.2.2.1.2.2.1,ae:=y.2.2.1.2.2.2.1,ao:=y.2.2.1.2.2.2.2.1,ai:=y.2.2.1.2.2.2.2.2.1,State:=y.2.2.1.2.2.2.2.2.2.1,bB:=y.2.2.1.2.2.2.2.2.2.2.1:aj}) true else q3 else q3;let q7:=e9 {Name:=y.1.1,az:=y.1.2.1:aZ} {S:={aa:={τ:=Cd.aK,xs:=y.2.2.1.1:cC UU}.xs,Next:=y.2.2.1.2.1:aG},aw:={τ:=Cd.av,xs:=y.2.2.1.2.2.1:cC UU}.xs,ae:={τ:=Cd.aq,xs:=y.2.2.1.2.2.2.1:cC UU}.xs,ao:={τ:=Cd.ax,xs:=y.2.2.1.2.2.2.2.1:cC UU}.xs,ai:={τ:=Cd.aI,xs:=y.2.2.1.2.2.2.2.2.1:cC UU}.xs,State:=y.2.2.1.2.2.2.2.2.2.1,bB:=y.2.2.1.2.2.2.2.2.2.2.1:aj} y.2.2.1.2.2.2.2.2.2.2.1;let q8:=((y.1.1,y.1.2.1,()),(y.2.1.1,y.2.1.2.1,y.2.1.2.2.1,y.2.1.2.2.2.1,y.2.1.2.2.2.2.1,y.2.1.2.2.2.2.2.1,y.2.1.2.2.2.2.2.2.1,y.2.1.2.2.2.2.2.2.2.1,()),(x0.aa,x0.Next,q5.1.aw,q5.1.ae,q5.1.ao,q5.1.ai,q5.1.State,q5.1.bB,()),y.2.2.2.1++x3,wrap i64 (y.2.2.2.2.1+1),());iE code y->bif decide (y.2.2.2.2.1<=x8) then bif !decide (y.2.2.1.2.2.2.2.2.2.1=2\/y.2.2.1.2.2.2.2.2.2.1=4\/y.2.2.1.2.2.2.2.2.2.1=6) then L4 (bz y.2.2.1.2.2.2.2.2.1)/\cX {Name:=y.1.1,az:=y.1.2.1:aZ}<=4294967295/\eH {S:={aa:=y.2.2.1.1,Next:=y.2.2.1.2.1:aG},aw:=y.2.2.1.2.2.1,ae:=y.2.2.1.2.2.2.1,ao:=y.2.2.1.2.2.2.2.1,ai:=y.2.2.1.2.2.2.2.2.1,State:=y.2.2.1.2.2.2.2.2.2.1,bB:=y.2.2.1.2.2.2.2.2.2.2.1:aj}<=4294967295/\cX {Name:=y.1.1,az:=y.1.2.1:aZ}<=4294967295/\eH q7.1<=4294967295/\bif !decide ¬y.2.2.1.2.2.2.2.2.1=[] then q3 else bif (↑x1:Int) !=1 then q3 else(0:Int)<=(0:Int)/\Int.toNat 0<x1/\nat_lit 0<x1/\bif !ByteArray.toList (List.getD q7.2 (nat_lit 0) Tu).Key==ByteArray.toList x7 then q3 else bif q5.2 !=1 then q3 else 0<=x5/\x4<x6/\x4<x6/\L4 (y.2.2.2.1.length+x3.length)/\iE code q8/\gQ code q8<gQ code y else q6 else q6)
 dsimp only
 refine ab (fun h=>aV _) (fun h=> ?_)
 have amZ:=yF h
 have hl:code.length<=4294967296:=by omega
 have hs:=HU code 30
 have hX:=JV (c:=dj code) (m:=6+gW code 30) (by omega)
 have h1:=(Ky (dj code)).2.2
 have h2:=vq hX.tocoreX
 have hI0:instOk (dT (dj code)) (instD (dj code) (6+gW code 30))=true:=lj.2 hX
 have eO:(lz (dT (dj code)) (instD (dj code) (6+gW code 30))==((instD (dj code) (6+gW code 30)).State==1))=true:=by
  rw[lz,hI0,Aa];exact beq_iff_eq.2 (by rw[DX];simp)
 refine⟨hl,by omega,by omega,bu (fun h=>absurd (h.symm.trans eO) (by decide)) (fun _=>bu (fun h=>cg (decide_eq_true (by rw[mf,h];rfl))) (fun h=> ?_))⟩
 have eS:mf (dT (dj code)) (instD (dj code) (6+gW code 30))=eD (instD (dj code) (6+gW code 30)) 5:=if_pos h
 have oW:Ij (dT (dj code)) (instD (dj code) (6+gW code 30)) (mf (dT (dj code)) (instD (dj code) (6+gW code 30))) [] 0:=by rw[eS];exact Mq hX.tocoreX
 refine⟨⟨rfl,rfl,oW⟩,?_⟩
 rintro⟨b,x,p,l,i,⟨⟩⟩
 obtain⟨Y,rfl⟩:∃Y:aj,p=(Y.S.aa,Y.S.Next,Y.aw,Y.ae,Y.ao,Y.ai,Y.State,Y.bB,()):=⟨instT p,rfl⟩
 obtain⟨X',rfl⟩:∃X':aj,x=(X'.S.aa,X'.S.Next,X'.aw,X'.ae,X'.ao,X'.ai,X'.State,X'.bB,()):=⟨instT x,rfl⟩
 dsimp only
 rintro⟨hb,hx,hO⟩
 subst hb
 have hx:X'=instD (dj code) (6+gW code 30):=hx
 subst hx
 have hO:Ij (dT (dj code)) (instD (dj code) (6+gW code 30)) Y l i:=hO
 have hlo:=hO.lo
 have Ye:=hO.hi
 have hR:=Mr hO
 have hz:=vq hR.tocoreX
 have QS:=hz
 simp only[eH,nX] at QS
 have Sm:=pi hX.kA
 have hnY:=pi hR.kA
 have D1:l.length<=(instD (dj code) (6+gW code 30)).ai.length:=by rw[hO.seen];simp
 refine ab (fun hc=>bu (fun he=> ?_) (fun he=> ?_)) (fun hc=>absurd Ye (yF hc))
 ·have he:=yF he
  obtain⟨y',hF,hy,hu,hn,hi,abK⟩:=Ow hO he
  subst hy
  have hT:=Ih hF
  have hv:bp ⟨1,1,⟨#[]⟩⟩=true:=by decide
  have hP:=Ms hF hv
  have hA:=vq (ra hF).tocoreX
  have Si:=abK ⟨1,1,⟨#[]⟩⟩ hv
  rw[<-hu] at hT hP
  rw[hT]
  dsimp only
  rw[hP]
  have Ix:=List.length_pos_iff.2 hn
  refine⟨by omega,by exact vg h1 (by omega),by exact vg hz (by omega),by exact vg h1 (by omega),by exact vg hA (by omega),bu (fun g=>absurd hn (yF g)) (fun _=>i_ (fun g=>absurd rfl g) (fun _=>⟨by omega,by simp,by simp,bu (fun g=> ?_) (fun _=>i_ (fun g=>absurd rfl g) (fun _=> ?_))⟩))⟩
  ·have g:(ByteArray.toList (aT (aN (cn y').ai))==ByteArray.toList (aT (aN (cn y').ai)))=false:=g
   rw[beq_self_eq_true] at g;cases g
  ·rw[wrap_i64 (n:=((cn y').ai.length:Int)-1) (by omega) (by omega),wi (n:=i+1)]
   have e4:(((cn y').ai.length:Int)-1).toNat=(cn y').ai.length-1:=by omega
   rw[e4]
   exact⟨by omega,by omega,by omega,by simp only[ir,ig];omega,⟨rfl,rfl,Si⟩,by simp only[gQ];omega⟩
 ·have he:=yT he
  obtain⟨h6,hk⟩:=Ov hO he
  exact ct (fun _=>bc (fun _=>⟨by exact vg h1 (by omega),by omega,cg (lj.2 hR)⟩) (fun g=>absurd hk g)) (fun g=>absurd h6 g)
end
end AM
