/- Functions of the program with their contracts: put together by gen/link.py for FnTold. -/
import Derived.Test.YtjlajhgabffmpaaGreatQAmLib
import Derived.Test.YtjlajhgabffmpaaGreatQFTold2
import Derived.Lib.ItoaLen
import Derived.Lib.Join
namespace AM
open Go Go.Proofs.Tryz Go.IntKind
set_option linter.unusedVariables false
set_option linter.unusedSimpArgs false
set_option maxRecDepth 100000
noncomputable section
def agm:=cj (α:=List Int) (q1 (qL .byte)) [.ro] (fun code=>[L4 code.length]) (fun code=>⟨[.box [.sl .byte ((ij code)).b,.lit (.int .i64 ((ij code)).i),.lit (.int .i64 ((ij code)).h)]],[],[]⟩)
def JO(code:List Int):Int×Int×Unit->Prop:=fun(h,i,_)=>0<=i/\i<=code.length/\i<=4000/\h=(code.take i.toNat).foldl Vz (354354+code.length)
def I_(code:List Int):Int×Int×Unit->Nat:=fun(h,i,_)=>code.length-i.toNat
def ape:AX agm:=fun code=>bW [(3,aU [iI 3,iI 4] (fun _=>JO code) (I_ code))]
def aox:HH:=hF agm func11 [] ape fun(code:List Int) hp hb=>by
 have BR:L9 code.length:=iv (hb _ m0)
 have bo:code.length<=4294967296:=hp _ m0
 clear hp hb
 apply vE (let q0:=IntKind.bits IntKind.i64;JO code (wrap i64 (354354+(code.length:Int)),0,())/\∀(y:Int×Int×PUnit),let x0:=y.2.1.toNat;let q1:=(wrap i64 (↑(BitVec.toNat (BitVec.ofInt q0 (wrap i64 (wrap i64 (wrap i64 (y.1*137)+wrap i64 (code.getD x0 0))+11))&&&BitVec.ofInt q0 1073741823)):Int),wrap i64 (y.2.1+1),());let q2:=Lf [DV.box [CL .byte code,CI 0,CI y.1]] [bU (ij code)];JO code y->bif decide (y.2.1<(code.length:Int)) then bif decide (y.2.1<4000) then 0<=y.2.1/\x0<code.length/\JO code q1/\I_ code q1<I_ code y else q2 else q2)
 dsimp only
 refine⟨⟨by omega,by omega,by omega,by rw[wi];rfl⟩,?_⟩
 rintro⟨h,i,⟨⟩⟩ ⟨h1,h2,h3,rfl⟩
 simp only
 have hE:(i=code.length\/i=4000)->(code.take i.toNat).foldl Vz (354354+code.length)=(ij code).h:=by
  intro hh
  show _=(code.take 4000).foldl Vz (354354+code.length)
  rcases hh with hh|hh
  ·rw[Ul (by omega),Ul (by omega)]
  ·rw[hh];rfl
 refine ae (fun hc=>ae (fun hd=> ?_) (fun hd=> ?_)) (fun hc=> ?_)
 ·have hc:=yT hc;have hd:=yT hd
  rw[wi (n:=i+1)]
  refine⟨h1,by omega,⟨by omega,by omega,by omega,?_⟩,by simp only[I_];omega⟩
  rw[<-dH code 0 h1 (by omega),List.foldl_append]
  rfl
 ·have hc:=yT hc;have hd:=yF hd
  rw[hE (by omega)];exact bf _
 ·have hc:=yF hc
  rw[hE (by omega)];exact bf _
def am2:=cj (α:=ag) (q1 qU) [.box false] (fun c=>[0<=c.i,L4 c.b.length]) (fun c=>⟨[dI (iW c)],[],[dU (eJ c)]⟩)
def anM:HH:=hF am2 func93 [] a0 fun(c:ag) hp hb=>by
 have ey:=tQ (x:=c) (hb _ m0)
 have bo:0<=c.i:=hp _ m0
 have fw:c.b.length<=4294967296:=hp _ m1
 clear hp hb
 apply vE (let x1:=wrap i64 (wrap i64 (c.h*6364136223846793005)+1442695040888963407);let x0:=wrap i64 (↑(BitVec.toNat (BitVec.ofInt (IntKind.bits IntKind.i64) (wrap i64 (↑(BitVec.toNat (BitVec.ofInt (IntKind.bits IntKind.i64) (Int.fdiv x1 (2^min (Int.toNat 33) (IntKind.bits IntKind.i64)))^^^BitVec.ofInt (IntKind.bits IntKind.i64) (Int.fdiv x1 (2^min (Int.toNat 47) (IntKind.bits IntKind.i64))))):Int))&&&BitVec.ofInt (IntKind.bits IntKind.i64) 255)):Int);(0:Int)<=(33:Int)/\(0:Int)<=(47:Int)/\bif decide (c.i<(c.b.length:Int)) then 0<=c.i/\c.i.toNat<c.b.length/\LM [VI (wrap i64 (↑(BitVec.toNat (BitVec.ofInt (IntKind.bits IntKind.i64) (wrap i64 (x0+wrap i64 (c.b.getD c.i.toNat 0)))&&&BitVec.ofInt (IntKind.bits IntKind.i64) 255)):Int))] [VI (iW c)] [DV.box [CL .byte c.b,CI (wrap i64 (c.i+1)),CI x1]] [DV.box [CL .byte (eJ c).b,CI ((eJ c).i),CI ((eJ c).h)]] else LM [VI x0] [VI (iW c)] [DV.box [CL .byte c.b,CI c.i,CI x1]] [DV.box [CL .byte (eJ c).b,CI ((eJ c).i),CI ((eJ c).h)]])
 dsimp only
 refine⟨by omega,by omega,ae (fun h=> ?_) (fun h=> ?_)⟩
 ·have h:=yT h
  have e1:iW c=Au (IntKind.wrap .i64 (Vy (KL c.h)+IntKind.wrap .i64 (c.b.getD c.i.toNat 0))):=if_pos h
  have e2:(eJ c).i=c.i+1:=if_pos h
  rw[e1,e2,wi (n:=c.i+1)]
  exact⟨bo,by omega,rfl,rfl,rfl⟩
 ·have h:=yF h
  have e1:iW c=Vy (KL c.h):=if_neg h
  have e2:(eJ c).i=c.i:=if_neg h
  rw[e1,e2]
  exact⟨rfl,rfl,rfl⟩
def anr:=cj (α:=ag×Int) (qC qU (q1 qI)) [.box false,.ro] (fun(c,n)=>[0<=c.i,L4 c.b.length]) (fun(c,n)=>⟨[dI (af c n)],[],[dU (aa c n)]⟩)
def nb:HH:=hF anr func36 [anM] a0 fun x hp hb=>by
 obtain⟨c,n⟩:=x
 have ey:=tQ (x:=c) (hb _ m0)
 have PW:=tg (n:=n) (hb _ m1)
 have bo:0<=c.i:=hp _ m0
 have fw:c.b.length<=4294967296:=hp _ m1
 clear hp hb
 apply vE (let q0:=aa c n;let q1:=eJ (eJ c);bif decide (n<=0) then LM [VI 0] [VI (af c n)] [DV.box [CL .byte c.b,CI c.i,CI c.h]] [DV.box [CL .byte q0.b,CI (q0.i),CI (q0.h)]] else bif decide (n<=256) then 0<=c.i/\L4 c.b.length/\n≠0/\LM [VI (Int.tmod (iW c) n)] [VI (af c n)] [DV.box [CL .byte (eJ c).b,CI ((eJ c).i),CI ((eJ c).h)]] [DV.box [CL .byte q0.b,CI (q0.i),CI (q0.h)]] else 0<=c.i/\L4 c.b.length/\0<=(eJ c).i/\(eJ c).b.length<=4294967296/\0<=q1.i/\L4 q1.b.length/\n≠0/\LM [VI (Int.tmod (wrap i64 (wrap i64 (wrap i64 (iW c*65536)+wrap i64 (iW (eJ c)*256))+iW q1)) n)] [VI (af c n)] [DV.box [CL .byte (eJ q1).b,CI ((eJ q1).i),CI ((eJ q1).h)]] [DV.box [CL .byte q0.b,CI (q0.i),CI (q0.h)]])
 dsimp only
 have b1:=rV c;have b2:=rV (eJ c);have b3:=rV (eJ (eJ c))
 refine ae (fun h=> ?_) (fun h=>ae (fun h2=> ?_) (fun h2=> ?_))
 ·have h:=yT h
  have e1:af c n=0:=if_pos h
  have e2:aa c n=c:=if_pos h
  rw[e1,e2];exact⟨rfl,rfl,rfl⟩
 ·have h:=yF h;have h2:=yT h2
  have e1:af c n=Int.tmod (iW c) n:=by rw[af,if_neg h,if_pos h2]
  have e2:aa c n=eJ c:=by rw[aa,if_neg h,if_pos h2]
  rw[e1,e2];exact⟨bo,fw,by omega,rfl,rfl,rfl⟩
 ·have h:=yF h;have h2:=yF h2
  have e1:af c n=Int.tmod (iW c*65536+iW (eJ c)*256+iW (eJ (eJ c))) n:=by rw[af,if_neg h,if_neg h2]
  have e2:aa c n=eJ (eJ (eJ c)):=by rw[aa,if_neg h,if_neg h2]
  have w1:IntKind.wrap .i64 (iW c*65536)=iW c*65536:=wi
  have w2:IntKind.wrap .i64 (iW (eJ c)*256)=iW (eJ c)*256:=wi
  rw[w1,w2,e1,e2,wi (n:=iW c*65536+iW (eJ c)*256),wrap_i64 (n:=iW c*65536+iW (eJ c)*256+iW (eJ (eJ c))) (by omega) (by omega)]
  exact⟨bo,fw,tc bo,fw,tc (tc bo),fw,by omega,rfl,rfl,rfl⟩
def anq:=cj (α:=ag×(List Int)) (qC qU (q1 (qL .int))) [.box false,.ro] (fun(c,list)=>[0<=c.i,L4 c.b.length,1<=list.length]) (fun(c,list)=>⟨[dI (list.getD (af c list.length).toNat 0)],[],[dU (aa c list.length)]⟩)
def FG:HH:=hF anq func37 [nb] a0 fun x hp hb=>by
 obtain⟨c,list⟩:=x
 have ey:=tQ (x:=c) (hb _ m0)
 have VV:L9 list.length:=iv (hb _ m1)
 have bo:0<=c.i:=hp _ m0
 have fw:c.b.length<=4294967296:=hp _ m1
 have JW:1<=list.length:=hp _ m2
 clear hp hb
 apply vE (let x0:=aa c (list.length:Int);let q0:=list.getD (Int.toNat (af c (list.length:Int))) 0;0<=c.i/\L4 c.b.length/\0<=af c (list.length:Int)/\Int.toNat (af c (list.length:Int))<list.length/\LM [VI q0] [VI q0] [bU x0] [bU x0])
 dsimp only
 have hb:=bx (c:=c) (n:=list.length) (by omega)
 exact⟨bo,fw,hb.1,by omega,rfl,rfl,rfl⟩
def bh(c:ag):Prop:=0<=c.i/\c.b.length<=4294967296
theorem ao{c:ag}(h:bh c)(n:Int):bh (aa c n):=by
 refine⟨Tr h.1 n,?_⟩
 have:(aa c n).b=c.b:=by
  unfold aa
  split
  ·rfl
  ·split<;>rfl
 rw[this];exact h.2
theorem B0{code:List Int}(h:code.length<=4294967296):bh (ij code):=⟨Int.le_refl 0,h⟩
def ca(c:ag)(n:Int):Bool:=decide (af c n=0)
def cB(c:ag)(l:List BA):BA:=l.getD (af c l.length).toNat aj
def b_(c:ag)(l:List BA):ag:=aa c l.length
def g_(c:ag)(l:List Int):Int:=l.getD (af c l.length).toNat 0
def kE(c:ag)(l:List Int):ag:=aa c l.length
theorem ed{c:ag}(h:bh c)(l:List BA):bh (b_ c l):=ao h _
theorem iV{c:ag}(h:bh c)(l:List Int):bh (kE c l):=ao h _
theorem Ka(c:ag){l:List BA}(h:0<l.length):cB c l∈l:=by
 have hb:=bx (c:=c) (n:=l.length) (by omega)
 have hi:(af c l.length).toNat<l.length:=by omega
 rw[cB,eX,fH hi]
 exact FJ hi
theorem Sc(c:ag){l:List Int}(h:0<l.length):g_ c l∈l:=by
 have hb:=bx (c:=c) (n:=l.length) (by omega)
 have hi:(af c l.length).toNat<l.length:=by omega
 rw[g_,eX,fH hi]
 exact FJ hi
theorem eN(c:ag){l:List BA}(p:BA->Bool)(h0:0<l.length)(h:l.all p=true):p (cB c l)=true:=sk.1 h _ (Ka c h0)
theorem rK(c:ag){l:List Int}(p:Int->Bool)(h0:0<l.length)(h:l.all p=true):p (g_ c l)=true:=sk.1 h _ (Sc c h0)
def HA:List BA:=[⟨#[97]⟩,⟨#[98]⟩]
def eG(c:ag):a_:=if ca c 2 then⟨1,1+af (aa c 2) 3,aj⟩ else⟨2,0,cB (aa c 2) HA⟩
def gS(c:ag):ag:=if ca c 2 then aa (aa c 2) 3 else b_ (aa c 2) HA
theorem kT{c:ag}(h:bh c):bh (gS c):=by
 unfold gS;split
 ·exact ao (ao h _) _
 ·exact ed (ao h _) _
def WU:List Int:=[0,1,2,3,-1,1000000000,-1000000000]
def Rc:List BA:=[⟨#[]⟩,⟨#[97]⟩,⟨#[98]⟩,⟨#[112,97,105,100]⟩,⟨#[120,95,49]⟩]
def lc(c:ag):a_:=if ca c 2 then⟨1,g_ (aa c 2) WU,aj⟩ else⟨2,0,cB (aa c 2) Rc⟩
def kA(c:ag):ag:=if ca c 2 then kE (aa c 2) WU else b_ (aa c 2) Rc
theorem BZ{c:ag}(h:bh c):bh (kA c):=by
 unfold kA;split
 ·exact iV (ao h _) _
 ·exact ed (ao h _) _
def Oe:List Int:=[1000000001,5]
def Kh:List BA:=[⟨#[65]⟩,⟨#[97,32,98]⟩,⟨#[116,119,101,110,116,121,111,110,101,98,121,116,101,115,116,119,101,110,116,121,111]⟩,⟨#[120]⟩]
def ix(c:ag):a_:=let v:=lc c;let k:=af (kA c) 10;let d:=aa (kA c) 10;if k=0 then⟨af d 4,v.N,v.S⟩ else if k=1 then⟨v.K,g_ d Oe,v.S⟩ else if k=2 then⟨v.K,v.N,cB d Kh⟩ else v
def lR(c:ag):ag:=let k:=af (kA c) 10;let d:=aa (kA c) 10;if k=0 then aa d 4 else if k=1 then kE d Oe else if k=2 then b_ d Kh else d
theorem LN{c:ag}(h:bh c):bh (lR c):=by
 have:=ao (BZ h) 10
 simp only[lR];split
 ·exact ao this _
 ·split
  ·exact iV this _
  ·split
   ·exact ed this _
   ·exact this
def cZ:List BA:=[⟨#[111,114,100,101,114]⟩,⟨#[112,97,105,100]⟩,⟨#[105,116,101,109]⟩,⟨#[111,114,100,101,114]⟩]
def Fm:BA:=⟨#[105,116,101,109]⟩
def sA:Nat->List a_->ag->List a_
 |0,l,_=>l
 |k+1,l,c=>sA k (l++[eG c]) (gS c)
def BH:Nat->ag->ag
 |0,c=>c
 |k+1,c=>BH k (gS c)
theorem E_:∀{k:Nat}{c:ag},bh c->bh (BH k c)
 |0,_,h=>h
 |k+1,_,h=>E_ (k:=k) (kT h)
def fN(c:ag):Int:=if ca (b_ c cZ) 12 then af (aa (b_ c cZ) 12) 6 else if cB c cZ=Fm then 2 else 1
def yn(c:ag):ag:=if ca (b_ c cZ) 12 then aa (aa (b_ c cZ) 12) 6 else aa (b_ c cZ) 12
def dc(c:ag):aJ:=⟨cB c cZ,sA (fN c).toNat [] (yn c)⟩
def de(c:ag):ag:=BH (fN c).toNat (yn c)
theorem Hh{c:ag}(h:bh c):bh (yn c):=by
 have:=ao (ed h cZ) 12
 unfold yn;split
 ·exact ao this _
 ·exact this
theorem lN{c:ag}(h:bh c):bh (de c):=E_ (Hh h)
theorem AO:∀(k:Nat)(l:List a_)(c:ag),(sA k l c).length=l.length+k
 |0,_,_=>rfl
 |k+1,l,c=>by rw[sA,AO k];simp only[kI,fY,fG];omega
theorem Ai(c:ag):(dc c).ah.length=(fN c).toNat:=by
 show(sA _ _ _).length=_
 rw[AO];simp
theorem ym(c:ag):0<=fN c/\fN c<=5:=by
 have:=bx (c:=aa (b_ c cZ) 12) (n:=6) (by omega)
 unfold fN
 split
 ·omega
 ·split<;>omega
noncomputable def wV(l:List a_)(c:ag):List a_×ag:=if h:(l.length:Int)<5+af c 2 then wV (l++[lc (aa c 2)]) (kA (aa c 2)) else(l,aa c 2)
termination_by 6-l.length
decreasing_by
 have:=bx (c:=c) (n:=2) (by omega)
 simp only[kI,fY,fG];omega
theorem Ec{l:List a_}{c:ag}(h:(l.length:Int)<5+af c 2):wV l c=wV (l++[lc (aa c 2)]) (kA (aa c 2)):=by rw[wV,dif_pos h]
theorem HR{l:List a_}{c:ag}(h:¬(l.length:Int)<5+af c 2):wV l c=(l,aa c 2):=by rw[wV,dif_neg h]
theorem OC{l:List a_}{c:ag}(h:bh c):bh (wV l c).2:=by
 by_cases hl:(l.length:Int)<5+af c 2
 ·rw[Ec hl];exact OC (BZ (ao h _))
 ·rw[HR hl];exact ao h _
termination_by 6-l.length
decreasing_by
 have:=bx (c:=c) (n:=2) (by omega)
 simp only[kI,fY,fG];omega
def D1:List BA:=[⟨#[]⟩,⟨#[65]⟩,⟨#[116,104,105,114,116,101,101,110,98,121,116,101,115]⟩,⟨#[120]⟩]
noncomputable def mq(c:ag):aJ:=let f:=dc c;let k:=af (de c) 10;let d:=aa (de c) 10;if k=0 then⟨cB d D1,f.ah⟩ else if k=1 then⟨f.Kind,f.ah++[ix d]⟩ else if k=2 then⟨f.Kind,(wV f.ah d).1⟩ else f
noncomputable def ku(c:ag):ag:=let f:=dc c;let k:=af (de c) 10;let d:=aa (de c) 10;if k=0 then b_ d D1 else if k=1 then lR d else if k=2 then(wV f.ah d).2 else d
theorem Fb{c:ag}(h:bh c):bh (ku c):=by
 have:=ao (lN h) 10
 simp only[ku];split
 ·exact ed this _
 ·split
  ·exact LN this
  ·split
   ·exact OC this
   ·exact this
def am3:=cj (α:=ag×Int) (qC qU (q1 qI)) [.box false,.ro] (fun(c,n)=>[bh c]) (fun(c,n)=>⟨[dO (ca c n)],[],[dU (aa c n)]⟩)
def AE:HH:=hF am3 func92 [nb] a0 fun x hp hb=>by
 obtain⟨c,n⟩:=x
 have ey:=tQ (x:=c) (hb _ m0)
 have PW:=tg (n:=n) (hb _ m1)
 have bo:bh c:=hp _ m0
 clear hp hb
 apply vE (0<=c.i/\L4 c.b.length/\LM [VB (af c n==0)] [VB (ca c n)] [bU (aa c n)] [bU (aa c n)])
 exact⟨bo.1,bo.2,rfl,rfl,rfl⟩
def anm:=cj (α:=ag×(List BA)) (qC qU (q1 (qL .str))) [.box false,.ro] (fun(c,list)=>[bh c,1<=list.length]) (fun(c,list)=>⟨[dS (cB c list)],[],[dU (b_ c list)]⟩)
def sb:HH:=hF anm func44 [nb] a0 fun x hp hb=>by
 obtain⟨c,list⟩:=x
 have ey:=tQ (x:=c) (hb _ m0)
 have VV:L9 list.length:=iv (hb _ m1)
 have bo:bh c:=hp _ m0
 have fw:1<=list.length:=hp _ m1
 clear hp hb
 apply vE (let x0:=aa c (list.length:Int);0<=c.i/\L4 c.b.length/\0<=af c (list.length:Int)/\Int.toNat (af c (list.length:Int))<list.length/\LM [VS (list.getD (Int.toNat (af c (list.length:Int))) aj)] [VS (cB c list)] [bU x0] [bU (b_ c list)])
 dsimp only
 have hb:=bx (c:=c) (n:=list.length) (by omega)
 exact⟨bo.1,bo.2,hb.1,by omega,rfl,rfl,rfl⟩
def amZ:=cj (α:=ag) (q1 qU) [.box false] (fun c=>[bh c]) (fun c=>⟨[dA .bc (eG c)],[],[dU (gS c)]⟩)
def TM:HH:=hF amZ func99 [AE,nb,sb] a0 fun(c:ag) hp hb=>by
 have ey:=tQ (x:=c) (hb _ m0)
 have bo:bh c:=hp _ m0
 clear hp hb
 apply vE (let x1:=[{data:= #[(97:UInt8)]:BA},{data:= #[(98:UInt8)]:BA}];let x2:=aa (aa c 2) 3;let x0:=b_ (aa c 2) x1;let q0:=aa c 2;bh c/\bif ca c 2 then 0<=q0.i/\L4 q0.b.length/\LM [DV.agg [CI 1,CI (wrap i64 (1+af q0 3)),CS ({data:= #[]:BA})]] [DV.agg [CI ((eG c).K),CI ((eG c).N),CS ((eG c).S)]] [bU x2] [bU (gS c)] else bh q0/\1<=x1.length/\LM [DV.agg [CI 2,CI 0,CS (cB q0 x1)]] [DV.agg [CI ((eG c).K),CI ((eG c).N),CS ((eG c).S)]] [bU x0] [bU (gS c)])
 dsimp only
 refine⟨bo,ae (fun h=> ?_) (fun h=> ?_)⟩
 ·have hb:=bx (c:=aa c 2) (n:=3) (by omega)
  have h2:=ao bo 2
  rw[wi]
  rw[eG,gS,if_pos h,if_pos h];exact⟨h2.1,h2.2,rfl,rfl,rfl⟩
 ·have h2:=ao bo 2
  rw[eG,gS,if_neg (by simp[h]),if_neg (by simp[h])];exact⟨h2,by simp,rfl,rfl,rfl⟩
def ank:=cj (α:=ag) (q1 qU) [.box false] (fun c=>[bh c]) (fun c=>⟨[dA .bc (lc c)],[],[dU (kA c)]⟩)
def agE:HH:=hF ank func46 [AE,FG,sb] a0 fun(c:ag) hp hb=>by
 have ey:=tQ (x:=c) (hb _ m0)
 have bo:bh c:=hp _ m0
 clear hp hb
 apply vE (let x1:=[{data:= #[]:BA},{data:= #[(97:UInt8)]:BA},{data:= #[(98:UInt8)]:BA},{data:= #[(112:UInt8),(97:UInt8),(105:UInt8),(100:UInt8)]:BA},{data:= #[(120:UInt8),(95:UInt8),(49:UInt8)]:BA}];let x5:=[0,1,2,3,(-1),1000000000,(-1000000000)];let x0:=b_ (aa c 2) x1;let x4:=x5.length;let x3:=(↑x4:Int);let x2:=aa (aa c 2) x3;let q0:=aa c 2;bh c/\bif ca c 2 then 0<=q0.i/\L4 q0.b.length/\1<=x4/\LM [DV.agg [CI 1,CI (x5.getD (Int.toNat (af q0 x3)) 0),CS ({data:= #[]:BA})]] [DV.agg [CI ((lc c).K),CI ((lc c).N),CS ((lc c).S)]] [bU x2] [bU (kA c)] else bh q0/\1<=x1.length/\LM [DV.agg [CI 2,CI 0,CS (cB q0 x1)]] [DV.agg [CI ((lc c).K),CI ((lc c).N),CS ((lc c).S)]] [bU x0] [bU (kA c)])
 dsimp only
 have h2:=ao bo 2
 refine⟨bo,ae (fun h=> ?_) (fun h=> ?_)⟩
 ·rw[lc,kA,if_pos h,if_pos h];exact⟨h2.1,h2.2,by simp,rfl,rfl,rfl⟩
 ·rw[lc,kA,if_neg (by simp[h]),if_neg (by simp[h])];exact⟨h2,by simp,rfl,rfl,rfl⟩
def anl:=cj (α:=ag) (q1 qU) [.box false] (fun c=>[bh c]) (fun c=>⟨[dA .bc (ix c)],[],[dU (lR c)]⟩)
def agF:HH:=hF anl func45 [agE,nb,FG,sb] a0 fun(c:ag) hp hb=>by
 have ey:=tQ (x:=c) (hb _ m0)
 have bo:bh c:=hp _ m0
 clear hp hb
 apply vE (let x1:=[{data:= #[(65:UInt8)]:BA},{data:= #[(97:UInt8),(32:UInt8),(98:UInt8)]:BA},{data:= #[(116:UInt8),(119:UInt8),(101:UInt8),(110:UInt8),(116:UInt8),(121:UInt8),(111:UInt8),(110:UInt8),(101:UInt8),(98:UInt8),(121:UInt8),(116:UInt8),(101:UInt8),(115:UInt8),(116:UInt8),(119:UInt8),(101:UInt8),(110:UInt8),(116:UInt8),(121:UInt8),(111:UInt8)]:BA},{data:= #[(120:UInt8)]:BA}];let x2:=aa (kA c) 10;let x6:=[1000000001,5];let x0:=b_ x2 x1;let x5:=x6.length;let x4:=(↑x5:Int);let x3:=aa x2 x4;bh c/\0<=(kA c).i/\(kA c).b.length<=4294967296/\bif af (kA c) (10:Int)==(0:Int) then 0<=x2.i/\L4 x2.b.length/\LM [DV.agg [CI (af x2 4),CI ((lc c).N),CS ((lc c).S)]] [DV.agg [CI ((ix c).K),CI ((ix c).N),CS ((ix c).S)]] [bU (aa x2 4)] [bU (lR c)] else bif af (kA c) (10:Int)==(1:Int) then 0<=x2.i/\L4 x2.b.length/\1<=x5/\LM [DV.agg [CI ((lc c).K),CI (x6.getD (Int.toNat (af x2 x4)) 0),CS ((lc c).S)]] [DV.agg [CI ((ix c).K),CI ((ix c).N),CS ((ix c).S)]] [bU x3] [bU (lR c)] else bif af (kA c) (10:Int)==(2:Int) then bh x2/\1<=x1.length/\LM [DV.agg [CI ((lc c).K),CI ((lc c).N),CS (cB x2 x1)]] [DV.agg [CI ((ix c).K),CI ((ix c).N),CS ((ix c).S)]] [bU x0] [bU (lR c)] else LM [DV.agg [CI ((lc c).K),CI ((lc c).N),CS ((lc c).S)]] [DV.agg [CI ((ix c).K),CI ((ix c).N),CS ((ix c).S)]] [bU x2] [bU (lR c)])
 dsimp only
 have h2:=BZ bo
 have h3:=ao h2 10
 refine⟨bo,h2.1,h2.2,ae (fun h=> ?_) (fun h=>ae (fun h'=> ?_) (fun h'=>ae (fun oK=> ?_) (fun oK=> ?_)))⟩
 ·have h:=eq_of_beq h
  have e1:ix c=⟨af (aa (kA c) 10) 4,(lc c).N,(lc c).S⟩:=by simp only[ix,h,if_true]
  have e2:lR c=aa (aa (kA c) 10) 4:=by simp only[lR,h,if_true]
  rw[e1,e2];exact⟨h3.1,h3.2,rfl,rfl,rfl⟩
 ·have h:¬af (kA c) 10=0:=by simpa using h
  have h':=eq_of_beq h'
  have e1:ix c=⟨(lc c).K,g_ (aa (kA c) 10) Oe,(lc c).S⟩:=by simp only[ix];rw[if_neg h,if_pos h']
  have e2:lR c=kE (aa (kA c) 10) Oe:=by simp only[lR];rw[if_neg h,if_pos h']
  rw[e1,e2];exact⟨h3.1,h3.2,by simp,rfl,rfl,rfl⟩
 ·have h:¬af (kA c) 10=0:=by simpa using h
  have h':¬af (kA c) 10=1:=by simpa using h'
  have oK:=eq_of_beq oK
  have e1:ix c=⟨(lc c).K,(lc c).N,cB (aa (kA c) 10) Kh⟩:=by simp only[ix];rw[if_neg h,if_neg h',if_pos oK]
  have e2:lR c=b_ (aa (kA c) 10) Kh:=by simp only[lR];rw[if_neg h,if_neg h',if_pos oK]
  rw[e1,e2];exact⟨h3,by simp,rfl,rfl,rfl⟩
 ·have h:¬af (kA c) 10=0:=by simpa using h
  have h':¬af (kA c) 10=1:=by simpa using h'
  have oK:¬af (kA c) 10=2:=by simpa using oK
  have e1:ix c=lc c:=by simp only[ix];rw[if_neg h,if_neg h',if_neg oK]
  have e2:lR c=aa (kA c) 10:=by simp only[lR];rw[if_neg h,if_neg h',if_neg oK]
  rw[e1,e2];exact⟨rfl,rfl,rfl⟩
def ae':=cj (α:=ag) (q1 qU) [.box false] (fun c=>[bh c]) (fun c=>⟨[dA .dk (dc c)],[],[dU (de c)]⟩)
def mZ(c:ag):Int×T7×T7×T4×Unit->Prop:=fun(i,r,f,cu,_)=>0<=i/\i<=fN c/\f.1=cB c cZ/\bh ⟨cu.1,cu.2.1,cu.2.2.1⟩/\f.2.1.length<=i/\sA (fN c-i).toNat f.2.1 ⟨cu.1,cu.2.1,cu.2.2.1⟩=(dc c).ah/\BH (fN c-i).toNat ⟨cu.1,cu.2.1,cu.2.2.1⟩=de c
def nM(c:ag):Int×T7×T7×T4×Unit->Nat:=fun(i,r,f,cu,_)=>(fN c-i).toNat
def ao3:AX ae':=fun c=>bW [(8,aU [iI 5,.box 2 (2,1024) [.lit .str,.own .bc true],.box 3 (3,1024) [.lit .str,.own .bc true],.box 0 (2000000,0) [.shr .byte,.lit (.int .i64),.lit (.int .i64)]] (fun _=>mZ c) (nM c))]
def TO:HH:=hF ae' func43 [sb,AE,nb,TM] ao3 fun(c:ag) hp hb=>by
 have ey:=tQ (x:=c) (hb _ m0)
 have bo:bh c:=hp _ m0
 clear hp hb
 apply vE (let x3:={data:= #[(111:UInt8),(114:UInt8),(100:UInt8),(101:UInt8),(114:UInt8)]:BA};let x4:={data:= #[(105:UInt8),(116:UInt8),(101:UInt8),(109:UInt8)]:BA};let x2:=[x3,{data:= #[(112:UInt8),(97:UInt8),(105:UInt8),(100:UInt8)]:BA},x4,x3];let x1:=b_ c x2;let x0:=aa x1 12;let q0:=BA×List a_×PUnit;let q1:=(0,({data:= #[]:BA},[],()),(cB c x2,[],()),((aa x0 6).b,(aa x0 6).i,(aa x0 6).h,()),());let q2:=(0,({data:= #[]:BA},[],()),(cB c x2,[],()),(x0.b,x0.i,x0.h,()),());let q3:=List Int×Int×Int×PUnit;let q4:=(dc c).Kind;bh c/\1<=x2.length/\bif ByteArray.toList (cB c x2)==ByteArray.toList x4 then bh x1/\bif ca x1 12 then 0<=x0.i/\L4 x0.b.length/\mZ c q1/\∀(y:Int×q0×q0×q3×PUnit),let x6:={b:=y.2.2.2.1.1,i:=y.2.2.2.1.2.1,h:=y.2.2.2.1.2.2.1:ag};let x5:=gS x6;let q5:=(wrap i64 (y.1+1),(y.2.1.1,y.2.1.2.1,()),(y.2.2.1.1,y.2.2.1.2.1++[eG x6],()),(x5.b,x5.i,x5.h,()),());mZ c y->bif decide (y.1<af x0 6) then bh x6/\y.2.2.1.2.1.length+List.length [eG x6]<=4294967296/\mZ c q5/\nM c q5<nM c y else LM [DV.agg [CS y.2.2.1.1,CL .bc y.2.2.1.2.1]] [DV.agg [CS q4,CL .bc (dc c).ah]] [DV.box [CL .byte y.2.2.2.1.1,CI y.2.2.2.1.2.1,CI y.2.2.2.1.2.2.1]] [bU (de c)] else mZ c q2/\∀(y:Int×q0×q0×q3×PUnit),let x6:={b:=y.2.2.2.1.1,i:=y.2.2.2.1.2.1,h:=y.2.2.2.1.2.2.1:ag};let x5:=gS x6;let q6:=(wrap i64 (y.1+1),(y.2.1.1,y.2.1.2.1,()),(y.2.2.1.1,y.2.2.1.2.1++[eG x6],()),(x5.b,x5.i,x5.h,()),());mZ c y->bif decide (y.1<2) then bh x6/\y.2.2.1.2.1.length+List.length [eG x6]<=4294967296/\mZ c q6/\nM c q6<nM c y else LM [DV.agg [CS y.2.2.1.1,CL .bc y.2.2.1.2.1]] [DV.agg [CS q4,CL .bc (dc c).ah]] [DV.box [CL .byte y.2.2.2.1.1,CI y.2.2.2.1.2.1,CI y.2.2.2.1.2.2.1]] [bU (de c)] else bh x1/\bif ca x1 12 then 0<=x0.i/\L4 x0.b.length/\mZ c q1/\∀(y:Int×q0×q0×q3×PUnit),let x6:={b:=y.2.2.2.1.1,i:=y.2.2.2.1.2.1,h:=y.2.2.2.1.2.2.1:ag};let x5:=gS x6;let q7:=(wrap i64 (y.1+1),(y.2.1.1,y.2.1.2.1,()),(y.2.2.1.1,y.2.2.1.2.1++[eG x6],()),(x5.b,x5.i,x5.h,()),());mZ c y->bif decide (y.1<af x0 6) then bh x6/\y.2.2.1.2.1.length+List.length [eG x6]<=4294967296/\mZ c q7/\nM c q7<nM c y else LM [DV.agg [CS y.2.2.1.1,CL .bc y.2.2.1.2.1]] [DV.agg [CS q4,CL .bc (dc c).ah]] [DV.box [CL .byte y.2.2.2.1.1,CI y.2.2.2.1.2.1,CI y.2.2.2.1.2.2.1]] [bU (de c)] else mZ c q2/\∀(y:Int×q0×q0×q3×PUnit),let x6:={b:=y.2.2.2.1.1,i:=y.2.2.2.1.2.1,h:=y.2.2.2.1.2.2.1:ag};let x5:=gS x6;let q8:=(wrap i64 (y.1+1),(y.2.1.1,y.2.1.2.1,()),(y.2.2.1.1,y.2.2.1.2.1++[eG x6],()),(x5.b,x5.i,x5.h,()),());mZ c y->bif decide (y.1<1) then bh x6/\y.2.2.1.2.1.length+List.length [eG x6]<=4294967296/\mZ c q8/\nM c q8<nM c y else LM [DV.agg [CS y.2.2.1.1,CL .bc y.2.2.1.2.1]] [DV.agg [CS q4,CL .bc (dc c).ah]] [DV.box [CL .byte y.2.2.2.1.1,CI y.2.2.2.1.2.1,CI y.2.2.2.1.2.2.1]] [bU (de c)])
 dsimp only
 have hk:=ed bo cZ
 have hd:=Hh bo
 have hle:=ym c
 have fin:∀(n:Int)(d:ag),fN c=n->yn c=d->
   mZ c ((0:Int),(aj,[],PUnit.unit),(cB c cZ,[],PUnit.unit),(d.b,d.i,d.h,PUnit.unit),PUnit.unit):=by
  rintro n d rfl rfl
  exact⟨by omega,by omega,rfl,hd,by simp,by simp only[Int.sub_zero];rfl,by simp only[Int.sub_zero];rfl⟩
 refine⟨bo,by simp,?_⟩
 refine ae (fun h=>⟨hk,ae (fun h'=>⟨(ao hk 12).1,(ao hk 12).2,?_⟩) (fun h'=> ?_)⟩) (fun h=>⟨hk,ae (fun h'=>⟨(ao hk 12).1,(ao hk 12).2,?_⟩) (fun h'=> ?_)⟩)
 ·have hN:fN c=af (aa (b_ c cZ) 12) 6:=if_pos h'
  have hD:yn c=aa (aa (b_ c cZ) 12) 6:=if_pos h'
  refine⟨fin _ _ hN hD,?_⟩
  have hN':af (aa (b_ c cZ) 12) 6=fN c:=hN.symm
  rintro⟨i,r,⟨fk,fl,⟨⟩⟩,⟨cb,ci,ch,⟨⟩⟩,⟨⟩⟩ ⟨g1,g2,g3,g4,g5,g6,g7⟩
  simp only at g1 g2 g3 g4 g5 g6 g7⊢
  refine ae ?_ ?_<;>intro hc
  ·have hc:i<fN c:=by rw[hN];exact yT hc
   have e:(fN c-i).toNat=(fN c-(i+1)).toNat+1:=by omega
   rw[e] at g6 g7
   rw[wi]
   exact⟨g4,by simp only[fY,fG];omega,⟨by omega,by omega,g3,kT g4,by simp only[kI,fY,fG];omega,g6,g7⟩,by simp only[nM];omega⟩
  ·have hc:¬i<fN c:=by rw[hN];exact yF hc
   have e:(fN c-i).toNat=0:=by omega
   rw[e] at g6 g7
   have g6:fl=(dc c).ah:=g6
   have g7:(⟨cb,ci,ch⟩:ag)=de c:=g7
   have g3:fk=(dc c).Kind:=g3
   rw[<-g7,<-g6,<-g3]
   exact⟨by trivial,rfl,rfl⟩
 ·have h:cB c cZ=Fm:=by rw[aM] at h;exact yT h
  have hN:fN c=2:=by rw[fN,if_neg (by rw[show ca (b_ c cZ) 12=false from h'];simp),if_pos h]
  have hD:yn c=aa (b_ c cZ) 12:=if_neg (by rw[show ca (b_ c cZ) 12=false from h'];simp)
  refine⟨fin _ _ hN hD,?_⟩
  rintro⟨i,r,⟨fk,fl,⟨⟩⟩,⟨cb,ci,ch,⟨⟩⟩,⟨⟩⟩ ⟨g1,g2,g3,g4,g5,g6,g7⟩
  simp only at g1 g2 g3 g4 g5 g6 g7⊢
  refine ae ?_ ?_<;>intro hc
  ·have hc:i<fN c:=by rw[hN];exact yT hc
   have e:(fN c-i).toNat=(fN c-(i+1)).toNat+1:=by omega
   rw[e] at g6 g7
   rw[wi]
   exact⟨g4,by simp only[fY,fG];omega,⟨by omega,by omega,g3,kT g4,by simp only[kI,fY,fG];omega,g6,g7⟩,by simp only[nM];omega⟩
  ·have hc:¬i<fN c:=by rw[hN];exact yF hc
   have e:(fN c-i).toNat=0:=by omega
   rw[e] at g6 g7
   have g6:fl=(dc c).ah:=g6
   have g7:(⟨cb,ci,ch⟩:ag)=de c:=g7
   have g3:fk=(dc c).Kind:=g3
   rw[<-g7,<-g6,<-g3]
   exact⟨by trivial,rfl,rfl⟩
 ·have hN:fN c=af (aa (b_ c cZ) 12) 6:=if_pos h'
  have hD:yn c=aa (aa (b_ c cZ) 12) 6:=if_pos h'
  refine⟨fin _ _ hN hD,?_⟩
  have hN':af (aa (b_ c cZ) 12) 6=fN c:=hN.symm
  rintro⟨i,r,⟨fk,fl,⟨⟩⟩,⟨cb,ci,ch,⟨⟩⟩,⟨⟩⟩ ⟨g1,g2,g3,g4,g5,g6,g7⟩
  simp only at g1 g2 g3 g4 g5 g6 g7⊢
  refine ae ?_ ?_<;>intro hc
  ·have hc:i<fN c:=by rw[hN];exact yT hc
   have e:(fN c-i).toNat=(fN c-(i+1)).toNat+1:=by omega
   rw[e] at g6 g7
   rw[wi]
   exact⟨g4,by simp only[fY,fG];omega,⟨by omega,by omega,g3,kT g4,by simp only[kI,fY,fG];omega,g6,g7⟩,by simp only[nM];omega⟩
  ·have hc:¬i<fN c:=by rw[hN];exact yF hc
   have e:(fN c-i).toNat=0:=by omega
   rw[e] at g6 g7
   have g6:fl=(dc c).ah:=g6
   have g7:(⟨cb,ci,ch⟩:ag)=de c:=g7
   have g3:fk=(dc c).Kind:=g3
   rw[<-g7,<-g6,<-g3]
   exact⟨by trivial,rfl,rfl⟩
 ·have h:¬cB c cZ=Fm:=by rw[aM] at h;exact yF h
  have hN:fN c=1:=by rw[fN,if_neg (by rw[show ca (b_ c cZ) 12=false from h'];simp),if_neg h]
  have hD:yn c=aa (b_ c cZ) 12:=if_neg (by rw[show ca (b_ c cZ) 12=false from h'];simp)
  refine⟨fin _ _ hN hD,?_⟩
  rintro⟨i,r,⟨fk,fl,⟨⟩⟩,⟨cb,ci,ch,⟨⟩⟩,⟨⟩⟩ ⟨g1,g2,g3,g4,g5,g6,g7⟩
  simp only at g1 g2 g3 g4 g5 g6 g7⊢
  refine ae ?_ ?_<;>intro hc
  ·have hc:i<fN c:=by rw[hN];exact yT hc
   have e:(fN c-i).toNat=(fN c-(i+1)).toNat+1:=by omega
   rw[e] at g6 g7
   rw[wi]
   exact⟨g4,by simp only[fY,fG];omega,⟨by omega,by omega,g3,kT g4,by simp only[kI,fY,fG];omega,g6,g7⟩,by simp only[nM];omega⟩
  ·have hc:¬i<fN c:=by rw[hN];exact yF hc
   have e:(fN c-i).toNat=0:=by omega
   rw[e] at g6 g7
   have g6:fl=(dc c).ah:=g6
   have g7:(⟨cb,ci,ch⟩:ag)=de c:=g7
   have g3:fk=(dc c).Kind:=g3
   rw[<-g7,<-g6,<-g3]
   exact⟨by trivial,rfl,rfl⟩
def af':=cj (α:=ag) (q1 qU) [.box false] (fun c=>[bh c]) (fun c=>⟨[dA .dk (mq c)],[],[dU (ku c)]⟩)
def JN(c:ag):T7×T7×T4×Unit->Prop:=fun(r,f,cu,_)=>f.1=(dc c).Kind/\bh ⟨cu.1,cu.2.1,cu.2.2.1⟩/\wV f.2.1 ⟨cu.1,cu.2.1,cu.2.2.1⟩=wV (dc c).ah (aa (de c) 10)
def I9(c:ag):T7×T7×T4×Unit->Nat:=fun(r,f,cu,_)=>6-f.2.1.length
def apd:AX af':=fun c=>bW [(8,aU [.box 2 (2,1024) [.lit .str,.own .bc true],.box 3 (3,1024) [.lit .str,.own .bc true],.box 0 (2000000,0) [.shr .byte,.lit (.int .i64),.lit (.int .i64)]] (fun _=>JN c) (I9 c))]
def Wy:HH:=hF af' func14 [TO,nb,sb,agF,agE] apd fun(c:ag) hp hb=>by
 have ey:=tQ (x:=c) (hb _ m0)
 have bo:bh c:=hp _ m0
 clear hp hb
 apply vE (let x1:=[{data:= #[]:BA},{data:= #[(65:UInt8)]:BA},{data:= #[(116:UInt8),(104:UInt8),(105:UInt8),(114:UInt8),(116:UInt8),(101:UInt8),(101:UInt8),(110:UInt8),(98:UInt8),(121:UInt8),(116:UInt8),(101:UInt8),(115:UInt8)]:BA},{data:= #[(120:UInt8)]:BA}];let x2:=aa (de c) 10;let x0:=b_ x2 x1;let q0:=(mq c).Kind;bh c/\0<=(de c).i/\(de c).b.length<=4294967296/\bif af (de c) (10:Int)==(0:Int) then bh x2/\1<=x1.length/\LM [DV.agg [CS (cB x2 x1),CL .bc (dc c).ah]] [DV.agg [CS q0,CL .bc (mq c).ah]] [bU x0] [bU (ku c)] else bif af (de c) (10:Int)==(1:Int) then bh x2/\(dc c).ah.length+List.length [ix x2]<=4294967296/\LM [DV.agg [CS ((dc c).Kind),CL .bc ((dc c).ah++[ix x2])]] [DV.agg [CS q0,CL .bc (mq c).ah]] [bU (lR x2)] [bU (ku c)] else bif af (de c) (10:Int)==(2:Int) then JN c (({data:= #[]:BA},[],()),((dc c).Kind,(dc c).ah,()),(x2.b,x2.i,x2.h,()),())/\∀(y:WA×WA×O3×PUnit),let x5:={b:=y.2.2.1.1,i:=y.2.2.1.2.1,h:=y.2.2.1.2.2.1:ag};let x7:=y.2.1.2.1.length;let x3:=aa x5 2;let x4:=wrap i64 (5+af x5 2);let x6:=(↑x7:Int);let q1:=((y.1.1,y.1.2.1,()),(y.2.1.1,y.2.1.2.1++[lc x3],()),((kA x3).b,(kA x3).i,(kA x3).h,()),());JN c y->0<=y.2.2.1.2.1/\L4 y.2.2.1.1.length/\bif decide (x6<x4) then bh x3/\x7+List.length [lc x3]<=4294967296/\JN c q1/\I9 c q1<I9 c y else LM [DV.agg [CS y.2.1.1,CL .bc y.2.1.2.1]] [DV.agg [CS q0,CL .bc (mq c).ah]] [bU x3] [bU (ku c)] else LM [DV.agg [CS ((dc c).Kind),CL .bc (dc c).ah]] [DV.agg [CS q0,CL .bc (mq c).ah]] [bU x2] [bU (ku c)])
 dsimp only
 have h2:=lN bo
 have h3:=ao h2 10
 have hle:=ym c
 have hl5:(dc c).ah.length<=5:=by rw[Ai];omega
 refine⟨bo,h2.1,h2.2,ae (fun h=> ?_) (fun h=>ae (fun h'=> ?_) (fun h'=>ae (fun oK=> ?_) (fun oK=> ?_)))⟩
 ·have h:=eq_of_beq h
  have e1:mq c=⟨cB (aa (de c) 10) D1,(dc c).ah⟩:=by simp only[mq,h,if_true]
  have e2:ku c=b_ (aa (de c) 10) D1:=by simp only[ku,h,if_true]
  rw[e1,e2];exact⟨h3,by simp,rfl,rfl,rfl⟩
 ·have h:¬af (de c) 10=0:=by simpa using h
  have h':=eq_of_beq h'
  have e1:mq c=⟨(dc c).Kind,(dc c).ah++[ix (aa (de c) 10)]⟩:=by simp only[mq];rw[if_neg h,if_pos h']
  have e2:ku c=lR (aa (de c) 10):=by simp only[ku];rw[if_neg h,if_pos h']
  rw[e1,e2];exact⟨h3,by simp only[fY,fG];omega,rfl,rfl,rfl⟩
 ·have h:¬af (de c) 10=0:=by simpa using h
  have h':¬af (de c) 10=1:=by simpa using h'
  have oK:=eq_of_beq oK
  have e1:mq c=⟨(dc c).Kind,(wV (dc c).ah (aa (de c) 10)).1⟩:=by simp only[mq];rw[if_neg h,if_neg h',if_pos oK]
  have e2:ku c=(wV (dc c).ah (aa (de c) 10)).2:=by simp only[ku];rw[if_neg h,if_neg h',if_pos oK]
  rw[e1,e2]
  refine⟨⟨rfl,h3,rfl⟩,?_⟩
  rintro⟨r,⟨fk,fl,⟨⟩⟩,⟨cb,ci,ch,⟨⟩⟩,⟨⟩⟩ ⟨g1,g2,g3⟩
  simp only at g1 g2 g3⊢
  have hb:=bx (c:=⟨cb,ci,ch⟩) (n:=2) (by omega)
  rw[wi (n:=5+af ⟨cb,ci,ch⟩ 2)]
  refine⟨g2.1,g2.2,ae (fun hc=> ?_) (fun hc=> ?_)⟩
  ·have hc:=yT hc
   rw[Ec hc] at g3
   exact⟨ao g2 2,by simp only[fY,fG];omega,⟨g1,BZ (ao g2 2),g3⟩,by simp only[I9,kI,fY,fG];omega⟩
  ·have hc:=yF hc
   rw[HR hc] at g3
   rw[<-g3,<-g1]
   exact⟨by trivial,rfl,rfl⟩
 ·have h:¬af (de c) 10=0:=by simpa using h
  have h':¬af (de c) 10=1:=by simpa using h'
  have oK:¬af (de c) 10=2:=by simpa using oK
  have e1:mq c=dc c:=by simp only[mq];rw[if_neg h,if_neg h',if_neg oK]
  have e2:ku c=aa (de c) 10:=by simp only[ku];rw[if_neg h,if_neg h',if_neg oK]
  rw[e1,e2];exact⟨rfl,rfl,rfl⟩
def Zk4:=cj (α:=List Int) (q1 (qL .byte)) [.ro] (fun _=>[]) (fun code=>⟨[dO (decide (code.length>1048576))],[],[]⟩)
def Zh4:HH:=hF Zk4 func4 [] a0 fun(code:List Int) hp hb=>by
 have BR:L9 code.length:=iv (hb _ m0)
 clear hp hb
 apply vE (Lb (decide ((code.length:Int)>1048576)) (decide (code.length>1048576)))
 exact ck (decide_eq_decide.2 (by omega))
theorem pi(c:ag):bO (eG c)=true:=by
 unfold eG;split
 ·have:=bx (c:=aa c 2) (n:=3) (by omega)
  simp only[bO,decide_true,cond_true,BE]
  simp only[decide_eq_true_eq];omega
 ·have h:=eN (aa c 2) (l:=HA) (fun s=>decide (s.size<=20)&&qm s) (by decide) (by rfl)
  simp only[bO]
  simpa using h
theorem AP{p:a_->Bool}(hp:∀c,p (eG c)=true):∀(k:Nat)(l:List a_)(c:ag),l.all p=true->(sA k l c).all p=true
 |0,_,_,h=>h
 |k+1,l,c,h=>AP hp k _ _ (by rw[List.all_append,h];simp[hp])
theorem oh(c:ag):bw (dc c)=true:=by
 have h1:=Ai c
 have h2:=ym c
 have h3:bq (dc c).Kind=true:=eN c (l:=cZ) bq (by decide) (by rfl)
 have h4:(dc c).ah.all bO=true:=AP pi _ _ _ rfl
 simp only[bw,h3,h4,BE,wk,decide_eq_true_eq]
 omega
def DK(v:a_):Bool:=decide (v.S.size<=21)
def aa9(f:aJ):Prop:=f.Kind.size<=13/\f.ah.length<=6/\f.ah.all DK=true
theorem Gq{v:a_}(h:bO v=true):DK v=true:=by
 simp only[bO] at h
 simp only[DK,decide_eq_true_eq]
 by_cases h1:v.K=1
 ·simp[h1] at h;rw[h.2];simp[aj]
 ·by_cases h2:v.K=2
  ·simp[h2] at h;omega
  ·simp[h1,h2] at h
theorem J3(c:ag):DK (lc c)=true:=by
 unfold lc;split
 ·rfl
 ·exact eN (aa c 2) (l:=Rc) (fun s=>decide (s.size<=21)) (by decide) (by rfl)
theorem Ho(c:ag):DK (ix c)=true:=by
 have h:=J3 c
 simp only[ix];split
 ·exact h
 ·split
  ·exact h
  ·split
   ·exact eN _ (l:=Kh) (fun s=>decide (s.size<=21)) (by decide) (by rfl)
   ·exact h
theorem HT{f:aJ}(h:bw f=true):aa9 f:=by
 obtain⟨h1,h2,h3,h4⟩:=ke h
 exact⟨by omega,by omega,sk.2 fun v hv=>Gq (sk.1 h2 v hv)⟩
theorem Ed{l:List a_}{c:ag}(h:l.all DK=true)(hl:l.length<=6):(wV l c).1.all DK=true/\(wV l c).1.length<=6:=by
 have hb:=bx (c:=c) (n:=2) (by omega)
 by_cases hn:(l.length:Int)<5+af c 2
 ·rw[Ec hn]
  refine Ed (l:=l++[lc (aa c 2)]) ?_ ?_
  ·rw[List.all_append,h];simp[J3]
  ·simp only[kI,fY,fG];omega
 ·rw[HR hn];exact⟨h,hl⟩
termination_by 6-l.length
decreasing_by
 simp only[kI,fY,fG];omega
theorem Fo(c:ag):aa9 (mq c):=by
 obtain⟨h1,h2,h3⟩:=HT (oh c)
 have h5:=(ke (oh c)).1
 simp only[mq];split
 ·refine⟨?_,h2,h3⟩
  have:=eN (aa (de c) 10) (l:=D1) (fun s=>decide (s.size<=13)) (by decide) (by rfl)
  simpa using this
 ·split
  ·exact⟨h1,by simp only[kI,fY,fG];omega,by rw[List.all_append,h3];simp[Ho]⟩
  ·split
   ·exact⟨h1,(Ed h3 h2).2,(Ed h3 h2).1⟩
   ·exact⟨h1,h2,h3⟩
theorem zx:∀{l:List a_},l.all DK=true->eO l<=22*l.length
 |[],_=>by simp[eO]
 |x::l,h=>by
  simp only[QV,cO] at h
  have h1:=zx h.2
  have h2:=h.1
  simp only[DK,decide_eq_true_eq] at h2
  simp only[eO,fY,wb,Mr,nR] at h1⊢
  omega
theorem yk{f:aJ}(h:aa9 f):dj f<=145:=by
 obtain⟨h1,h2,h3⟩:=h
 have:=zx h3
 simp only[dj];omega
theorem Zr{α:Type}(f:α->Nat)(B:Nat):∀(l:List α),(∀x∈l,f x<=B)->(l.map f).sum<=l.length*B
 |[],_=>by simp
 |x::l,h=>by
  have h1:=Zr f B l (fun y hy=>h y (cI _ hy))
  have h2:=h x gB
  simp only[wb,Mr,fY,xv];omega
theorem DL{l:List bj}{B:Nat}(h:∀u∈l,dJ u<=B):cx l<=l.length*(B+1):=by
 have:=Zr dJ B l h
 simp only[cx,Nat.mul_add];omega
theorem A2{s:BA}(h:bq s=true):s.size<=12:=by
 simp only[bq,cO,decide_eq_true_eq] at h;omega
theorem xK{l:List bj}{t:ak}{B:Nat}(hB:400<=B)(h:∀u∈l,dJ u<=B):∀u∈(cH l t).1,dJ u<=B:=by
 unfold cH;split
 ·rename_i hc
  simp only[kS,cO] at hc
  intro u hu
  rcases jO.1 hu with hu|hu
  ·exact h u hu
  ·rw[mF.1 hu]
   have h1:=wF t.F
   have h2:=A2 hc.1.1.2
   have h3:=zx (HT hc.1.1.1.2).2.2
   have h4:=(HT hc.1.1.1.2).2.1
   simp only[dJ,dj];omega
 ·exact h
theorem xL(l:List bj)(t:ak):(cH l t).1.length<=l.length+1:=by
 unfold cH;split<;>simp
def Rd:List BA:=[⟨#[114,101,102,117,110,100]⟩,⟨#[99,97,110,99,101,108]⟩]
def Gu(c:ag):ak:=⟨dc c,cB (de c) Rd,0,0,0,ee⟩
def Q7(c:ag):ag:=b_ (de c) Rd
theorem Hf{c:ag}(h:bh c):bh (Q7 c):=ed (lN h) _
def wG:Nat->List bj->ag->List bj×ag
 |0,l,c=>(l,c)
 |k+1,l,c=>wG k (cH l (Gu c)).1 (Q7 c)
theorem Lz:∀(k:Nat){l:List bj}{c:ag},bh c->(∀u∈l,dJ u<=400)->bh (wG k l c).2/\(∀u∈(wG k l c).1,dJ u<=400)/\(wG k l c).1.length<=l.length+k
 |0,_,_,h,h2=>⟨h,h2,by simp[wG]⟩
 |k+1,l,c,h,h2=>by
  obtain⟨h3,h4,h5⟩:=Lz k (Hf h) (xK (t:=Gu c) (tR 400) h2)
  have:=xL l (Gu c)
  exact⟨h3,h4,by simp only[wG];omega⟩
def cT(c:ag):List bj:=(wG (af c 5).toNat [] (aa c 5)).1
def fS(c:ag):ag:=(wG (af c 5).toNat [] (aa c 5)).2
theorem J4{c:ag}(h:bh c):bh (fS c)/\(∀u∈cT c,dJ u<=400)/\(cT c).length<=4:=by
 have hb:=bx (c:=c) (n:=5) (by omega)
 obtain⟨h1,h2,h3⟩:=Lz (af c 5).toNat (l:=[]) (ao h 5) (by simp)
 exact⟨h1,h2,by simp only[fG] at h3;simp only[cT];omega⟩
def bX:BA:=⟨#[120]⟩
def Eu(l:List bj):List BA:=[aj,(l.getD 0 bP).Key,bX]
noncomputable def rX(c:ag):List bj:=let l:=cT c;if l=[] then l else
 let k:=af (fS c) l.length;let d:=aa (fS c) l.length;let s:=af d 8;let e:=aa d 8
 if s=0 then l.modify k.toNat (fun u=>⟨cB e (Eu l),u.F⟩) else if s=1 then l.modify k.toNat (fun u=>⟨u.Key,mq e⟩) else l
noncomputable def nq(c:ag):ag:=let l:=cT c;if l=[] then fS c else
 let d:=aa (fS c) l.length;let s:=af d 8;let e:=aa d 8
 if s=0 then b_ e (Eu l) else if s=1 then ku e else e
theorem V7{l:List bj}{B:Nat}(h:∀u∈l,dJ u<=B):(l.getD 0 bP).Key.size<=B:=by
 cases l with
 |nil=>simp[bP,aj]
 |cons x r=>have:=h x gB;simp only[dJ] at this;simp only[List.getD_cons_zero];omega
theorem sK{α:Type}{p:α->Prop}(f:α->α)(hf:∀x,p x->p (f x)):∀(l:List α)(k:Nat),(∀x∈l,p x)->∀x∈l.modify k f,p x
 |[],k,h=>by simp
 |x::l,0,h=>by
  intro y hy
  simp only[List.modify_zero_cons,kf] at hy
  rcases hy with rfl|hy
  ·exact hf x (h x gB)
  ·exact h y (cI _ hy)
 |x::l,k+1,h=>by
  intro y hy
  simp only[List.modify_succ_cons,kf] at hy
  rcases hy with rfl|hy
  ·exact h y gB
  ·exact sK f hf l k (fun z hz=>h z (cI _ hz)) y hy
theorem uV{a a':List bj}(h:a=a'):dZ ([DV.one (Cell.sl Cd.aW a)]:List (DV UU))=dZ ([DV.one (Cell.sl Cd.aW a')]:List (DV UU)):=by rw[h]
def Hw(u:bj):Prop:=u.Key.size<=400/\dj u.F<=400
theorem UE{u:bj}(h:dJ u<=400):Hw u:=by simp only[dJ] at h;exact⟨by omega,by omega⟩
theorem O9{u:bj}(h:Hw u):dJ u<=800:=by obtain⟨h1,h2⟩:=h;simp only[dJ];omega
theorem Vw{l:List bj}(k:Nat){key:BA}(hk:key.size<=400)(h:∀u∈l,Hw u):∀u∈l.modify k (fun u=>(⟨key,u.F⟩:bj)),Hw u:=
 sK (p:=Hw) (fun u=>(⟨key,u.F⟩:bj)) (fun u hu=>⟨hk,hu.2⟩) l k h
theorem adw{l:List bj}(k:Nat){f:aJ}(hk:dj f<=400)(h:∀u∈l,Hw u):∀u∈l.modify k (fun u=>(⟨u.Key,f⟩:bj)),Hw u:=
 sK (p:=Hw) (fun u=>(⟨u.Key,f⟩:bj)) (fun u hu=>⟨hu.1,hk⟩) l k h
theorem OL{c:ag}(h:bh c):bh (nq c)/\(∀u∈rX c,dJ u<=800)/\(rX c).length<=4:=by
 obtain⟨h1,h2,h3⟩:=J4 h
 have Oo:∀u∈cT c,Hw u:=fun u hu=>UE (h2 u hu)
 have he:=ao (ao h1 (cT c).length) 8
 refine⟨?_,fun u hu=>O9 ?_,?_⟩
 ·simp only[nq];split
  ·exact h1
  ·split
   ·exact ed he _
   ·split
    ·exact Fb he
    ·exact he
 ·revert u
  simp only[rX];split
  ·exact Oo
  ·split
   ·refine Vw _ ?_ Oo
    have hk:=Ka (aa (aa (fS c) (cT c).length) 8) (l:=Eu (cT c)) (by simp[Eu])
    simp only[Eu,kf,NO,or_false] at hk
    show(cB _ (Eu (cT c))).size<=400
    rcases hk with hk|hk|hk
    ·simp only[Eu];rw[hk];simp[aj]
    ·simp only[Eu];rw[hk];exact V7 h2
    ·simp only[Eu];rw[hk];decide
   ·split
    ·exact adw _ (xo (yk (Fo _)) (by omega)) Oo
    ·exact Oo
 ·simp only[rX];split
  ·omega
  ·split
   ·simp only[Mg];omega
   ·split
    ·simp only[Mg];omega
    ·omega
def aeF:=cj (α:=ag) (q1 qU) [.box false] (fun c=>[bh c]) (fun c=>⟨[dL .aW (cT c)],[],[dU (fS c)]⟩)
def Jc(c:ag):List bj×Int×T4×Unit->Prop:=fun(l,i,cu,_)=>0<=i/\i<=4/\bh ⟨cu.1,cu.2.1,cu.2.2.1⟩/\(∀u∈l,dJ u<=400)/\l.length+i<=4/\wG i.toNat l ⟨cu.1,cu.2.1,cu.2.2.1⟩=wG (af c 5).toNat [] (aa c 5)
def IB(c:ag):List bj×Int×T4×Unit->Nat:=fun(l,i,cu,_)=>i.toNat
def aoy:AX aeF:=fun c=>bW [(3,aU [iO 3 .aW,iI 4,.box 0 (2000000,0) [.shr .byte,.lit (.int .i64),.lit (.int .i64)]] (fun _=>Jc c) (IB c))]
def anI:HH:=hF aeF func96 [nb,TO,sb,YE] aoy fun(c:ag) hp hb=>by
 have ey:=tQ (x:=c) (hb _ m0)
 have bo:bh c:=hp _ m0
 clear hp hb
 apply vE (let x0:=[{data:= #[(114:UInt8),(101:UInt8),(102:UInt8),(117:UInt8),(110:UInt8),(100:UInt8)]:BA},{data:= #[(99:UInt8),(97:UInt8),(110:UInt8),(99:UInt8),(101:UInt8),(108:UInt8)]:BA}];0<=c.i/\L4 c.b.length/\Jc c ([],af c 5,((aa c 5).b,(aa c 5).i,(aa c 5).h,()),())/\∀(y:List bj×Int×O3×PUnit),let x3:={b:=y.2.2.1.1,i:=y.2.2.1.2.1,h:=y.2.2.1.2.2.1:ag};let x2:=de x3;let x1:=b_ x2 x0;let q0:=((cH {τ:=Cd.aW,xs:=y.1:jh UU}.xs {F:={Kind:=(dc x3).Kind,ah:={τ:=Cd.bc,xs:=(dc x3).ah:jh UU}.xs:aJ},aR:=cB x2 x0,State:=(0:Int),bt:=(0:Int),jF:=(0:Int),V:={K:=(0:Int),N:=(0:Int),S:={data:= #[]:BA}:a_}:ak}).1,wrap i64 (y.2.1-1),(x1.b,x1.i,x1.h,()),());Jc c y->bif decide (y.2.1>0) then bh x3/\bh x2/\1<=x0.length/\L4 (cx y.1)/\(dc x3).ah.length<=4294967296/\Jc c q0/\IB c q0<IB c y else LM [VL .aW y.1] [VL .aW (cT c)] [DV.box [CL .byte y.2.2.1.1,CI y.2.2.1.2.1,CI y.2.2.1.2.2.1]] [bU (fS c)])
 dsimp only
 have hb:=bx (c:=c) (n:=5) (by omega)
 refine⟨bo.1,bo.2,⟨by omega,by omega,ao bo 5,by simp,by simp only[fG];omega,rfl⟩,?_⟩
 rintro⟨l,i,⟨cb,ci,ch,⟨⟩⟩,⟨⟩⟩ ⟨g1,g2,g3,g4,g5,g6⟩
 simp only at g1 g2 g3 g4 g5 g6⊢
 refine ae ?_ ?_<;>intro hc
 ·have hc:=yT hc
  have e:i.toNat=(i-1).toNat+1:=by omega
  rw[e] at g6
  have hs:=DL g4
  have hf:=lN g3
  have hl:=(ke (oh ⟨cb,ci,ch⟩)).1
  have hq:=xL l (Gu ⟨cb,ci,ch⟩)
  rw[wi]
  refine⟨g3,hf,by simp,by omega,by omega,⟨by omega,by omega,Hf g3,xK (t:=Gu ⟨cb,ci,ch⟩) (tR 400) g4,?_,g6⟩,by simp only[IB];omega⟩
  have hq':((cH l (Gu ⟨cb,ci,ch⟩)).1.length:Int)<=l.length+1:=by omega
  exact Int.le_trans (Int.add_le_add_right hq' (i-1)) (by omega)
 ·have hc:=yF hc
  have e:i.toNat=0:=by omega
  rw[e] at g6
  have g7:l=cT c:=congrArg Prod.fst g6
  have g8:(⟨cb,ci,ch⟩:ag)=fS c:=congrArg Prod.snd g6
  rw[<-g7,<-g8]
  exact⟨by trivial,rfl,rfl⟩
def ano:=cj (α:=ag) (q1 qU) [.box false] (fun c=>[bh c]) (fun c=>⟨[dL .aW (rX c)],[],[dU (nq c)]⟩)
def aof:HH:=hF ano func40 [anI,nb,sb,Wy] a0 fun(c:ag) hp hb=>by
 have ey:=tQ (x:=c) (hb _ m0)
 have bo:bh c:=hp _ m0
 clear hp hb
 apply vE (let x2:=[{data:= #[]:BA},((cT c).getD (nat_lit 0) bP).Key,{data:= #[(120:UInt8)]:BA}];let x5:=(↑((cT c).length):Int);let x3:=aa (fS c) x5;let x4:=Int.toNat (af (fS c) x5);let x1:=aa x3 8;let x0:=b_ x1 x2;bh c/\bif x5==0 then LM [VL .aW (cT c)] [VL .aW (rX c)] [bU (fS c)] [bU (nq c)] else 0<=(fS c).i/\(fS c).b.length<=4294967296/\0<=x3.i/\L4 x3.b.length/\bif af x3 (8:Int)==(0:Int) then(0:Int)<=(0:Int)/\Int.toNat 0<(cT c).length/\nat_lit 0<(cT c).length/\bh x1/\1<=x2.length/\0<=af (fS c) x5/\x4<(cT c).length/\x4<(cT c).length/\LM [VL .aW ((cT c).modify x4 fun(x:bj)=>{Key:=cB x1 x2,F:=x.F:bj})] [VL .aW (rX c)] [bU x0] [bU (nq c)] else bif af x3 (8:Int)==(1:Int) then bh x1/\0<=af (fS c) x5/\x4<(cT c).length/\x4<(cT c).length/\LM [VL .aW ((cT c).modify x4 fun(x:bj)=>{Key:=x.Key,F:=mq x1:bj})] [VL .aW (rX c)] [bU (ku x1)] [bU (nq c)] else LM [VL .aW (cT c)] [VL .aW (rX c)] [bU x1] [bU (nq c)])
 dsimp only
 obtain⟨h1,h2,h3⟩:=J4 bo
 refine⟨bo,ae (fun h=> ?_) (fun h=> ?_)⟩
 ·have h:cT c=[]:=FU (by have:=eq_of_beq h;omega)
  have e1:rX c=cT c:=by simp only[rX];rw[if_pos h]
  have e2:nq c=fS c:=by simp only[nq];rw[if_pos h]
  rw[e2];exact⟨by trivial,uV e1.symm,rfl⟩
 have hn:¬cT c=[]:=by intro e;rw[e] at h;simp at h
 have hl:0<(cT c).length:=List.length_pos_iff.2 hn
 have hb:=bx (c:=fS c) (n:=(cT c).length) (by omega)
 have hd:=ao h1 (cT c).length
 have he:=ao hd 8
 refine⟨h1.1,h1.2,hd.1,hd.2,ae (fun g=> ?_) (fun g=>ae (fun g'=> ?_) (fun g'=> ?_))⟩
 ·have g:=eq_of_beq g
  have e1:rX c=(cT c).modify (af (fS c) (cT c).length).toNat (fun u=>⟨cB (aa (aa (fS c) (cT c).length) 8) (Eu (cT c)),u.F⟩):=by simp only[rX];rw[if_neg hn,if_pos g]
  have e2:nq c=b_ (aa (aa (fS c) (cT c).length) 8) (Eu (cT c)):=by simp only[nq];rw[if_neg hn,if_pos g]
  rw[e2]
  exact⟨by omega,by simpa using hl,hl,he,by simp,hb.1,by omega,by omega,by trivial,uV e1.symm,rfl⟩
 ·have g:¬af (aa (fS c) (cT c).length) 8=0:=by simpa using g
  have g':=eq_of_beq g'
  have e1:rX c=(cT c).modify (af (fS c) (cT c).length).toNat (fun u=>⟨u.Key,mq (aa (aa (fS c) (cT c).length) 8)⟩):=by simp only[rX];rw[if_neg hn,if_neg g,if_pos g']
  have e2:nq c=ku (aa (aa (fS c) (cT c).length) 8):=by simp only[nq];rw[if_neg hn,if_neg g,if_pos g']
  rw[e2]
  repeat' (first|exact uV e1.symm|exact rfl|refine And.intro (by first|exact uV e1.symm|exact he|exact hb.1|omega|trivial) ?_)
 ·have g:¬af (aa (fS c) (cT c).length) 8=0:=by simpa using g
  have g':¬af (aa (fS c) (cT c).length) 8=1:=by simpa using g'
  have e1:rX c=cT c:=by simp only[rX];rw[if_neg hn,if_neg g,if_neg g']
  have e2:nq c=aa (aa (fS c) (cT c).length) 8:=by simp only[nq];rw[if_neg hn,if_neg g,if_neg g']
  rw[e2];exact⟨by trivial,uV e1.symm,rfl⟩
theorem NY(now:Int)(t:ak):(f_ now t).F=t.F:=by unfold f_;split;split<;>rfl;rfl
theorem Ra{now:Int}(h0:0<=now)(h1:now<=1000000000)(t:ak)(h:gq t=true):gq (f_ now t)=true:=by
 obtain⟨a1,a2,a3,a4,a5,a6,a7⟩:=gp.1 h
 unfold f_;split
 ·split
  ·exact gp.2 ⟨a1,a2,by simp,a4,a5,a6,by simp⟩
  ·have hb:=Fk (t.bt+1)
   exact gp.2 ⟨a1,a2,by simp,by simp only;omega,by simp only;omega,a6,by simp only;omega⟩
 ·exact h
theorem sw{l:List ak}{now:Int}(h0:0<=now)(h1:now<=1000000000)(h:aT l=true):aT (l.map (f_ now))=true:=AN (NY now) (Ra h0 h1) h
theorem Mz(l:List ak)(f:aJ)(u:BA)(now:Int):(fI l f u now).1.length<=l.length+1:=by
 unfold fI;split
 ·simp
 ·split<;>simp
theorem Pl(l:List ak)(key:BA)(ok:Bool)(v:a_):(bB l key ok v).1.length=l.length:=by
 unfold bB;split
 ·split<;>simp
 ·rfl
def J'(t:ak):Prop:=dj t.F<=145/\t.aR.size<=21/\DK t.V=true
theorem UH{t:ak}(h:gq t=true):J' t:=by
 obtain⟨a1,a2,a3,a4,a5,a6,a7⟩:=gp.1 h
 refine⟨yk (HT a1),?_,?_⟩
 ·simp only[fB,FL,decide_eq_true_eq] at a2
  rcases a2 with a2|a2
  ·rw[a2];simp[aj]
  ·have:=A2 a2;omega
 ·rcases a6 with a6|a6
  ·rw[a6];rfl
  ·exact Gq a6
theorem O'{t:ak}(h:J' t):ly t<=187:=by
 obtain⟨h1,h2,h3⟩:=h
 simp only[DK,decide_eq_true_eq] at h3
 simp only[ly,nR];omega
theorem Mx{l:List ak}(h:∀t∈l,J' t):cC l<=l.length*188:=by
 have:=Zr ly 187 l (fun t ht=>O' (h t ht))
 simp only[cC];omega
def sLu:List BA:=[⟨#[]⟩,⟨#[114,101,102,117,110,100]⟩]
def dT1(l:List ak)(now:Int)(d:ag):List ak:=(fI l (dc d) (cB (de d) sLu) now).1
def dT3(l:List ak)(d:ag):List ak:=
 let e:=aa d l.length
 (bB l (bQ (l.getD (af d l.length).toNat aE).F) (!ca e 3) (eG (aa e 3))).1
def dT(l:List ak)(now:Int)(c:ag):List ak:=
 let k:=af c 4;let d:=aa c 4
 if k=0\/k=1 then dT1 l now d else if k=2 then l.map (f_ (now+af d 40)) else if 0<l.length then dT3 l d else l
def dN(now:Int)(c:ag):Int:=if af c 4=2 then now+af (aa c 4) 40 else now
def dC(n:Nat)(c:ag):ag:=
 let k:=af c 4;let d:=aa c 4
 if k=0\/k=1 then b_ (de d) sLu else if k=2 then aa d 40 else if 0<n then gS (aa (aa d n) 3) else d
def wH:Nat->List ak->Int->ag->List ak×ag
 |0,l,_,c=>(l,c)
 |k+1,l,now,c=>wH k (dT l now c) (dN now c) (dC l.length c)
theorem Tl{n:Nat}{c:ag}(h:bh c):bh (dC n c):=by
 have h4:=ao h 4
 simp only[dC];split
 ·exact ed (lN h4) _
 ·split
  ·exact ao h4 _
  ·split
   ·exact kT (ao (ao h4 _) _)
   ·exact h4
theorem Q4(c:ag):fB (cB c sLu)=true:=eN c fB (by decide) (by rfl)
theorem Xl(now:Int)(c:ag):now<=dN now c/\dN now c<=now+39:=by
 have:=bx (c:=aa c 4) (n:=40) (by omega)
 unfold dN;split<;>omega
theorem Xk{l:List ak}{now:Int}{c:ag}(h:aT l=true)(h0:0<=now)(h1:now<=1000):aT (dT l now c)=true/\(dT l now c).length<=l.length+1:=by
 have hb:=bx (c:=aa c 4) (n:=40) (by omega)
 simp only[dT];split
 ·exact⟨nQ h (oh _) (Q4 _) h0 (by omega),Mz _ _ _ _⟩
 ·split
  ·exact⟨sw (by omega) (by omega) h,by simp⟩
  ·split
   ·exact⟨rc h,by simp only[dT3];rw[Pl];omega⟩
   ·exact⟨h,by omega⟩
theorem LA:∀(k:Nat){l:List ak}{now:Int}{c:ag},bh c->aT l=true->0<=now->now+39*k<=1000->bh (wH k l now c).2/\aT (wH k l now c).1=true/\(wH k l now c).1.length<=l.length+k
 |0,_,_,_,h,h2,_,_=>⟨h,h2,by simp[wH]⟩
 |k+1,l,now,c,h,h2,h3,h4=>by
  have hn:=Xl now c
  obtain⟨t1,t2⟩:=Xk (c:=c) h2 h3 (by omega)
  obtain⟨h3,h4,h5⟩:=LA k (l:=dT l now c) (now:=dN now c) (c:=dC l.length c) (Tl h) t1 (by omega) (by omega)
  exact⟨h3,h4,by simp only[wH];omega⟩
def dh(c:ag):List ak:=(wH (af c 8).toNat [] 0 (aa c 8)).1
def ja(c:ag):ag:=(wH (af c 8).toNat [] 0 (aa c 8)).2
theorem J8{c:ag}(h:bh c):bh (ja c)/\aT (dh c)=true/\(dh c).length<=7:=by
 have hb:=bx (c:=c) (n:=8) (by omega)
 obtain⟨h1,h2,h3⟩:=LA (af c 8).toNat (l:=[]) (now:=0) (ao h 8) rfl (by omega) (by omega)
 exact⟨h1,h2,by simp only[fG] at h3;simp only[dh];omega⟩
theorem A5{a b:Int}{P Q:Prop}(h1:a=b->P)(h2:¬a=b->Q):bif a==b then P else Q:=ae (fun h=>h1 (eq_of_beq h)) (fun h=>h2 (fun e=>by rw[e] at h;simp at h))
theorem amR{l:List ak}{now:Int}{c:ag}(h:af c 4=0\/af c 4=1):dT l now c=dT1 l now (aa c 4)/\dN now c=now/\dC l.length c=b_ (de (aa c 4)) sLu:=
 ⟨by simp only[dT];rw[if_pos h],by rw[dN,if_neg (by omega)],by simp only[dC];rw[if_pos h]⟩
theorem amQ{l:List ak}{now:Int}{c:ag}(h:af c 4=2):dT l now c=l.map (f_ (now+af (aa c 4) 40))/\dN now c=now+af (aa c 4) 40/\dC l.length c=aa (aa c 4) 40:=
 ⟨by simp only[dT];rw[if_neg (by omega),if_pos h],by rw[dN,if_pos h],by simp only[dC];rw[if_neg (by omega),if_pos h]⟩
theorem amP{l:List ak}{now:Int}{c:ag}(h0:¬af c 4=0)(h1:¬af c 4=1)(h2:¬af c 4=2)(hl:0<l.length):dT l now c=dT3 l (aa c 4)/\dN now c=now/\dC l.length c=gS (aa (aa (aa c 4) l.length) 3):=
 ⟨by simp only[dT];rw[if_neg (by omega),if_neg h2,if_pos hl],by rw[dN,if_neg h2],by simp only[dC];rw[if_neg (by omega),if_neg h2,if_pos hl]⟩
theorem amO{l:List ak}{now:Int}{c:ag}(h0:¬af c 4=0)(h1:¬af c 4=1)(h2:¬af c 4=2)(hl:¬0<l.length):dT l now c=l/\dN now c=now/\dC l.length c=aa c 4:=
 ⟨by simp only[dT];rw[if_neg (by omega),if_neg h2,if_neg hl],by rw[dN,if_neg h2],by simp only[dC];rw[if_neg (by omega),if_neg h2,if_neg hl]⟩
def aeG:=cj (α:=ag) (q1 qU) [.box false] (fun c=>[bh c]) (fun c=>⟨[dL .az (dh c)],[],[dU (ja c)]⟩)
def vc(c:ag):List ak×Int×Int×T4×Unit->Prop:=fun(l,now,i,cu,_)=>0<=i/\i<=7/\0<=now/\now+39*i<=1000/\bh ⟨cu.1,cu.2.1,cu.2.2.1⟩/\aT l=true/\wH i.toNat l now ⟨cu.1,cu.2.1,cu.2.2.1⟩=wH (af c 8).toNat [] 0 (aa c 8)
def oR(c:ag):List ak×Int×Int×T4×Unit->Nat:=fun(l,now,i,cu,_)=>i.toNat
def aoz:AX aeG:=fun c=>bW [(4,aU [iO 3 .az,iI 4,iI 5,.box 0 (2000000,0) [.shr .byte,.lit (.int .i64),.lit (.int .i64)]] (fun _=>vc c) (oR c))]
def anJ:HH:=hF aeG func95 [nb,TO,sb,TW,YG,Ma,AE,TM,YF] aoz fun(c:ag) hp hb=>by
 have ey:=tQ (x:=c) (hb _ m0)
 have bo:bh c:=hp _ m0
 clear hp hb
 apply vE (let x0:=[{data:= #[]:BA},{data:= #[(114:UInt8),(101:UInt8),(102:UInt8),(117:UInt8),(110:UInt8),(100:UInt8)]:BA}];0<=c.i/\L4 c.b.length/\vc c ([],0,af c 8,((aa c 8).b,(aa c 8).i,(aa c 8).h,()),())/\∀(y:List ak×Int×Int×O3×PUnit),let x3:={b:=y.2.2.2.1.1,i:=y.2.2.2.1.2.1,h:=y.2.2.2.1.2.2.1:ag};let x4:=wrap i64 (y.2.2.1-1);let x9:=(y.1.length:Int);let x1:=aa x3 4;let x2:=af x3 4;let x5:=wrap i64 (y.2.1+af x1 40);let x8:=aa (aa x1 x9) 3;let x6:=eG x8;let x7:=gS x8;let q0:=bif x2==2 then 0<=x1.i/\L4 x1.b.length/\aT y.1=true/\(0<=x5/\x5<=1000000000)/\vc c (y.1.map (f_ x5),x5,x4,((aa x1 40).b,(aa x1 40).i,(aa x1 40).h,()),())/\oR c (y.1.map (f_ x5),x5,x4,((aa x1 40).b,(aa x1 40).i,(aa x1 40).h,()),())<oR c y else bif decide (x9>0) then 0<=x1.i/\L4 x1.b.length/\0<=af x1 x9/\Int.toNat (af x1 x9)<y.1.length/\Int.toNat (af x1 x9)<y.1.length/\Int.toNat (af x1 x9)<y.1.length/\bh (aa x1 x9)/\bh x8/\aT y.1=true/\bO x6=true/\vc c ((bB {τ:=Cd.az,xs:=y.1:jh UU}.xs (bQ (y.1.getD (Int.toNat (af x1 x9)) aE).F) (!ca (aa x1 x9) 3) {K:=x6.K,N:=x6.N,S:=x6.S:a_}).1,y.2.1,x4,(x7.b,x7.i,x7.h,()),())/\oR c ((bB {τ:=Cd.az,xs:=y.1:jh UU}.xs (bQ (y.1.getD (Int.toNat (af x1 x9)) aE).F) (!ca (aa x1 x9) 3) {K:=x6.K,N:=x6.N,S:=x6.S:a_}).1,y.2.1,x4,(x7.b,x7.i,x7.h,()),())<oR c y else vc c (y.1,y.2.1,x4,(x1.b,x1.i,x1.h,()),())/\oR c (y.1,y.2.1,x4,(x1.b,x1.i,x1.h,()),())<oR c y;let q1:=((fI {τ:=Cd.az,xs:=y.1:jh UU}.xs {Kind:=(dc x1).Kind,ah:={τ:=Cd.bc,xs:=(dc x1).ah:jh UU}.xs:aJ} (cB (de x1) x0) y.2.1).1,y.2.1,x4,((b_ (de x1) x0).b,(b_ (de x1) x0).i,(b_ (de x1) x0).h,()),());let q2:=bh x1/\bh (de x1)/\1<=x0.length/\(dc x1).ah.length<=4294967296/\vc c q1/\oR c q1<oR c y;vc c y->bif decide (y.2.2.1>0) then 0<=y.2.2.2.1.2.1/\L4 y.2.2.2.1.1.length/\bif x2==0 then bif x2==0 then q2 else q0 else bif x2==1 then q2 else q0 else LM [VL .az y.1] [VL .az (dh c)] [DV.box [CL .byte y.2.2.2.1.1,CI y.2.2.2.1.2.1,CI y.2.2.2.1.2.2.1]] [bU (ja c)])
 dsimp only
 have hb:=bx (c:=c) (n:=8) (by omega)
 refine⟨bo.1,bo.2,⟨by omega,by omega,by omega,by omega,ao bo 8,rfl,rfl⟩,?_⟩
 rintro⟨l,now,i,⟨cb,ci,ch,⟨⟩⟩,⟨⟩⟩ ⟨g1,g2,g3,g4,g5,g6,g7⟩
 simp only at g1 g2 g3 g4 g5 g6 g7⊢
 refine ae ?_ ?_<;>intro hc
 ·have hc:=yT hc
  have e:i.toNat=(i-1).toNat+1:=by omega
  rw[e] at g7
  refine⟨g5.1,g5.2,?_⟩
  generalize Ge:(⟨cb,ci,ch⟩:ag)=cu at*
  have h4:=ao g5 4
  have hl:=(ke (oh (aa cu 4))).1
  have hd:=bx (c:=aa cu 4) (n:=40) (by omega)
  have hn:=Xl now cu
  obtain⟨t1,t2⟩:=Xk (c:=cu) g6 g3 (by omega)
  have fin:∀(l':List ak)(Z':Int)(cu':ag),l'=dT l now cu->Z'=dN now cu->cu'=dC l.length cu->
    vc c (l',Z',i-1,(cu'.b,cu'.i,cu'.h,PUnit.unit),PUnit.unit)/\oR c (l',Z',i-1,(cu'.b,cu'.i,cu'.h,PUnit.unit),PUnit.unit)<oR c (l,now,i,(cb,ci,ch,PUnit.unit),PUnit.unit):=by
   rintro _ _ _ rfl rfl rfl
   exact⟨⟨by omega,by omega,by omega,by omega,Tl g5,t1,g7⟩,by simp only[oR];omega⟩
  rw[wi (n:=i-1),wi (n:=now+af (aa cu 4) 40)]
  repeat' (refine A5 (fun h=> ?_) (fun h=> ?_))
  all_goals first
   |(exfalso;omega)
   |(obtain⟨q1,q2,q3⟩:=amR (l:=l) (now:=now) (c:=cu) (by omega)
     exact⟨h4,lN h4,by simp,by omega,fin _ _ _ q1.symm q2.symm q3.symm⟩)
   |(obtain⟨q1,q2,q3⟩:=amQ (l:=l) (now:=now) (c:=cu) (by omega)
     exact⟨h4.1,h4.2,g6,⟨by omega,by omega⟩,fin _ _ _ q1.symm q2.symm q3.symm⟩)
   |skip
  all_goals refine ae ?_ ?_<;>intro hl
  ·have hl:=yT hl
   obtain⟨q1,q2,q3⟩:=amP (l:=l) (now:=now) (c:=cu) (by omega) (by omega) (by omega) (by omega)
   have hj:=bx (c:=aa cu 4) (n:=l.length) (by omega)
   have h5:=ao h4 l.length
   have h6:=ao h5 3
   exact⟨h4.1,h4.2,hj.1,by omega,by omega,by omega,h5,h6,g6,pi _,fin _ _ _ q1.symm q2.symm q3.symm⟩
  ·have hl:=yF hl
   obtain⟨q1,q2,q3⟩:=amO (l:=l) (now:=now) (c:=cu) (by omega) (by omega) (by omega) (by omega)
   exact fin _ _ _ q1.symm q2.symm q3.symm
 ·have hc:=yF hc
  have e:i.toNat=0:=by omega
  rw[e] at g7
  have g8:l=dh c:=congrArg Prod.fst g7
  have g9:(⟨cb,ci,ch⟩:ag)=ja c:=congrArg Prod.snd g7
  rw[<-g8,<-g9]
  exact⟨by trivial,rfl,rfl⟩
def D0:List BA:=[⟨#[]⟩,⟨#[65]⟩,⟨#[117,110,100,111]⟩]
def BO:List Int:=[-1,0,4,5]
def Od:List Int:=[-1,1000001000,1000001001]
def asF(f:aJ)(x:ak):ak:=⟨f,x.aR,x.State,x.bt,x.jF,x.V⟩
def Tv(u:BA)(x:ak):ak:=⟨x.F,u,x.State,x.bt,x.jF,x.V⟩
def OK(n:Int)(x:ak):ak:=⟨x.F,x.aR,n,x.bt,x.jF,x.V⟩
def OJ(n:Int)(x:ak):ak:=⟨x.F,x.aR,x.State,n,x.jF,x.V⟩
def Xo(n:Int)(x:ak):ak:=⟨x.F,x.aR,x.State,x.bt,n,x.V⟩
def asV(v:a_)(x:ak):ak:=⟨x.F,x.aR,x.State,x.bt,x.jF,v⟩
noncomputable def np(s:Int)(e:ag)(x:ak):ak:=
 if s=0 then asF (mq e) x else if s=1 then Tv (cB e D0) x else if s=2 then OK (af e 6) x else if s=3 then OJ (g_ e BO) x else if s=4 then Xo (g_ e Od) x else if s=5 then asV (ix e) x else x
noncomputable def lQ(s:Int)(e:ag):ag:=
 if s=0 then ku e else if s=1 then b_ e D0 else if s=2 then aa e 6 else if s=3 then kE e BO else if s=4 then kE e Od else if s=5 then lR e else e
noncomputable def rY(c:ag):List ak:=if dh c=[] then dh c else
 (dh c).modify (af (ja c) (dh c).length).toNat (np (af (aa (ja c) (dh c).length) 14) (aa (aa (ja c) (dh c).length) 14))
noncomputable def o_(c:ag):ag:=if dh c=[] then ja c else
 lQ (af (aa (ja c) (dh c).length) 14) (aa (aa (ja c) (dh c).length) 14)
theorem Tm{s:Int}{e:ag}(h:bh e):bh (lQ s e):=by
 unfold lQ
 repeat' split
 ·exact Fb h
 ·exact ed h _
 ·exact ao h _
 ·exact iV h _
 ·exact iV h _
 ·exact LN h
 ·exact h
theorem Tq{s:Int}{e:ag}{x:ak}(h:J' x):J' (np s e x):=by
 obtain⟨h1,h2,h3⟩:=h
 unfold np
 repeat' split
 ·exact⟨yk (Fo e),h2,h3⟩
 ·refine⟨h1,?_,h3⟩
  have:=eN e (l:=D0) (fun s=>decide (s.size<=21)) (by decide) (by rfl)
  exact yT this
 ·exact⟨h1,h2,h3⟩
 ·exact⟨h1,h2,h3⟩
 ·exact⟨h1,h2,h3⟩
 ·exact⟨h1,h2,Ho e⟩
 ·exact⟨h1,h2,h3⟩
theorem OM{c:ag}(h:bh c):bh (o_ c)/\(∀t∈rY c,J' t)/\(rY c).length<=7:=by
 obtain⟨h1,h2,h3⟩:=J8 h
 have h4:∀t∈dh c,J' t:=fun t ht=>UH ((mw.1 h2).2.1 t ht)
 refine⟨?_,?_,?_⟩
 ·unfold o_;split
  ·exact h1
  ·exact Tm (ao (ao h1 _) _)
 ·unfold rY;split
  ·exact h4
  ·exact sK (p:=J') _ (fun x hx=>Tq hx) _ _ h4
 ·unfold rY;split
  ·exact h3
  ·rw[Mg];exact h3
def anp:=cj (α:=ag) (q1 qU) [.box false] (fun c=>[bh c]) (fun c=>⟨[dL .az (rY c)],[],[dU (o_ c)]⟩)
def aog:HH:=hF anp func39 [anJ,nb,Wy,sb,FG,agF] a0 fun(c:ag) hp hb=>by
 have ey:=tQ (x:=c) (hb _ m0)
 have bo:bh c:=hp _ m0
 clear hp hb
 apply vE (let x2:=[{data:= #[]:BA},{data:= #[(65:UInt8)]:BA},{data:= #[(117:UInt8),(110:UInt8),(100:UInt8),(111:UInt8)]:BA}];let oV:=[(-1),0,4,5];let iw:=[(-1),1000001000,1000001001];let zv:=(↑((dh c).length):Int);let x5:=Int.toNat (af (ja c) zv);let x8:=oV.length;let x9:=aa (ja c) zv;let wI:=iw.length;let x0:=aa x9 14;let x1:=b_ x0 x2;let x3:=af x9 14;let x7:=(↑x8:Int);let qb:=(↑wI:Int);let x4:=aa x0 x7;let x6:=aa x0 qb;bh c/\bif zv==0 then LM [VL .az (dh c)] [VL .az (rY c)] [bU (ja c)] [bU (o_ c)] else 0<=(ja c).i/\(ja c).b.length<=4294967296/\0<=af (ja c) zv/\x5<(dh c).length/\0<=x9.i/\L4 x9.b.length/\bif x3==0 then bh x0/\x5<(dh c).length/\LM [VL .az ((dh c).modify x5 fun(x:ak)=>{F:=mq x0,aR:=x.aR,State:=x.State,bt:=x.bt,jF:=x.jF,V:=x.V:ak})] [VL .az (rY c)] [bU (ku x0)] [bU (o_ c)] else bif x3==1 then bh x0/\1<=x2.length/\x5<(dh c).length/\LM [VL .az ((dh c).modify x5 fun(x:ak)=>{F:=x.F,aR:=cB x0 x2,State:=x.State,bt:=x.bt,jF:=x.jF,V:=x.V:ak})] [VL .az (rY c)] [bU x1] [bU (o_ c)] else bif x3==2 then 0<=x0.i/\L4 x0.b.length/\x5<(dh c).length/\LM [VL .az ((dh c).modify x5 fun(x:ak)=>{F:=x.F,aR:=x.aR,State:=af x0 6,bt:=x.bt,jF:=x.jF,V:=x.V:ak})] [VL .az (rY c)] [bU (aa x0 6)] [bU (o_ c)] else bif x3==3 then 0<=x0.i/\L4 x0.b.length/\1<=x8/\x5<(dh c).length/\LM [VL .az ((dh c).modify x5 fun(x:ak)=>{F:=x.F,aR:=x.aR,State:=x.State,bt:=oV.getD (Int.toNat (af x0 x7)) 0,jF:=x.jF,V:=x.V:ak})] [VL .az (rY c)] [bU x4] [bU (o_ c)] else bif x3==4 then 0<=x0.i/\L4 x0.b.length/\1<=wI/\x5<(dh c).length/\LM [VL .az ((dh c).modify x5 fun(x:ak)=>{F:=x.F,aR:=x.aR,State:=x.State,bt:=x.bt,jF:=iw.getD (Int.toNat (af x0 qb)) 0,V:=x.V:ak})] [VL .az (rY c)] [bU x6] [bU (o_ c)] else bif x3==5 then bh x0/\x5<(dh c).length/\LM [VL .az ((dh c).modify x5 fun(x:ak)=>{F:=x.F,aR:=x.aR,State:=x.State,bt:=x.bt,jF:=x.jF,V:=ix x0:ak})] [VL .az (rY c)] [bU (lR x0)] [bU (o_ c)] else LM [VL .az (dh c)] [VL .az (rY c)] [bU x0] [bU (o_ c)])
 dsimp only
 obtain⟨h1,h2,h3⟩:=J8 bo
 refine⟨bo,A5 (fun h=> ?_) (fun h=> ?_)⟩
 ·have h:dh c=[]:=FU (by omega)
  have e1:rY c=dh c:=if_pos h
  have e2:o_ c=ja c:=if_pos h
  rw[e2];exact⟨by trivial,vU e1.symm,rfl⟩
 have hn:¬dh c=[]:=by intro e;rw[e] at h;simp at h
 have hl:0<(dh c).length:=List.length_pos_iff.2 hn
 have hb:=bx (c:=ja c) (n:=(dh c).length) (by omega)
 have hd:=ao h1 (dh c).length
 have he:=ao hd 14
 have e1:rY c=_:=if_neg hn
 have e2:o_ c=_:=if_neg hn
 refine⟨h1.1,h1.2,hb.1,by omega,hd.1,hd.2,?_⟩
 rw[e2]
 generalize af (aa (ja c) (dh c).length) 14=s at e1⊢
 generalize aa (aa (ja c) (dh c).length) 14=e at he e1⊢
 generalize hk:(af (ja c) (dh c).length).toNat=k at e1⊢
 have W_:k<(dh c).length:=by omega
 have fin:∀(f:ak->ak)(d:ag),np s e=f->lQ s e=d->dZ ([DV.one (Cell.sl Cd.az ((dh c).modify k f))]:List (DV UU))=dZ ([DV.one (Cell.sl Cd.az (rY c))]:List (DV UU))/\
   dZ ([DV.box [Cell.sl Cd.byte d.b,Cell.lit (Value.int IntKind.i64 d.i),Cell.lit (Value.int IntKind.i64 d.h)]]:List (DV UU))=dZ ([DV.box [Cell.sl Cd.byte (lQ s e).b,Cell.lit (Value.int IntKind.i64 (lQ s e).i),Cell.lit (Value.int IntKind.i64 (lQ s e).h)]]:List (DV UU)):=by
  rintro _ _ rfl rfl
  exact⟨vU e1.symm,rfl⟩
 refine A5 ?_ ?_<;>intro n0
 ·have hf:np s e=asF (mq e):=by funext x;unfold np;rw[if_pos n0]
  have hd:lQ s e=ku e:=by unfold lQ;rw[if_pos n0]
  obtain⟨f1,f2⟩:=fin _ _ hf hd
  repeat' (first|exact f1|exact f2|refine And.intro (by first|exact f1|exact he|exact he.1|exact he.2|omega|simp;done) ?_)
 refine A5 ?_ ?_<;>intro n1
 ·have hf:np s e=Tv (cB e D0):=by funext x;unfold np;rw[if_neg n0,if_pos n1]
  have hd:lQ s e=b_ e D0:=by unfold lQ;rw[if_neg n0,if_pos n1]
  obtain⟨f1,f2⟩:=fin _ _ hf hd
  repeat' (first|exact f1|exact f2|refine And.intro (by first|exact f1|exact he|exact he.1|exact he.2|omega|simp;done) ?_)
 refine A5 ?_ ?_<;>intro n2
 ·have hf:np s e=OK (af e 6):=by funext x;unfold np;rw[if_neg n0,if_neg n1,if_pos n2]
  have hd:lQ s e=aa e 6:=by unfold lQ;rw[if_neg n0,if_neg n1,if_pos n2]
  obtain⟨f1,f2⟩:=fin _ _ hf hd
  repeat' (first|exact f1|exact f2|refine And.intro (by first|exact f1|exact he|exact he.1|exact he.2|omega|simp;done) ?_)
 refine A5 ?_ ?_<;>intro n3
 ·have hf:np s e=OJ (g_ e BO):=by funext x;unfold np;rw[if_neg n0,if_neg n1,if_neg n2,if_pos n3]
  have hd:lQ s e=kE e BO:=by unfold lQ;rw[if_neg n0,if_neg n1,if_neg n2,if_pos n3]
  obtain⟨f1,f2⟩:=fin _ _ hf hd
  repeat' (first|exact f1|exact f2|refine And.intro (by first|exact f1|exact he|exact he.1|exact he.2|omega|simp;done) ?_)
 refine A5 ?_ ?_<;>intro n4
 ·have hf:np s e=Xo (g_ e Od):=by funext x;unfold np;rw[if_neg n0,if_neg n1,if_neg n2,if_neg n3,if_pos n4]
  have hd:lQ s e=kE e Od:=by unfold lQ;rw[if_neg n0,if_neg n1,if_neg n2,if_neg n3,if_pos n4]
  obtain⟨f1,f2⟩:=fin _ _ hf hd
  repeat' (first|exact f1|exact f2|refine And.intro (by first|exact f1|exact he|exact he.1|exact he.2|omega|simp;done) ?_)
 refine A5 ?_ ?_<;>intro n5
 ·have hf:np s e=asV (ix e):=by funext x;unfold np;rw[if_neg n0,if_neg n1,if_neg n2,if_neg n3,if_neg n4,if_pos n5]
  have hd:lQ s e=lR e:=by unfold lQ;rw[if_neg n0,if_neg n1,if_neg n2,if_neg n3,if_neg n4,if_pos n5]
  obtain⟨f1,f2⟩:=fin _ _ hf hd
  repeat' (first|exact f1|exact f2|refine And.intro (by first|exact f1|exact he|exact he.1|exact he.2|omega|simp;done) ?_)
 have hf:np s e=id:=by funext x;unfold np;rw[if_neg n0,if_neg n1,if_neg n2,if_neg n3,if_neg n4,if_neg n5];rfl
 have hd:lQ s e=e:=by unfold lQ;rw[if_neg n0,if_neg n1,if_neg n2,if_neg n3,if_neg n4,if_neg n5]
 have hm:rY c=dh c:=by rw[e1,hf];exact List.modify_id _ _
 obtain⟨f1,f2⟩:=fin _ _ hf hd
 exact⟨by trivial,vU hm.symm,f2⟩
theorem n8{s:aF}:br s=true↔(1<=s.Next/\s.Next<=1000000)/\s.ab.length<=40/\(∀x∈s.ab,bw x.F=true/\1<=x.Id/\x.Id<s.Next)/\s.ab.Pairwise (fun a b=>a.Id<b.Id/\a.F≠b.F):=by
 have hg:∀{i:Nat}(h:i<s.ab.length),s.ab.getD i aX=s.ab[i]:=fun{i} h=>by rw[eX,fH h];rfl
 simp only[br,cO,decide_eq_true_eq,<-DQ,and_assoc]
 refine and_congr_right fun _=>and_congr_right fun _=>and_congr_right fun _=> ?_
 rw[gg]
 constructor
 ·intro h
  have hb:∀i,i<s.ab.length->jX s i=true:=fun i hi=>by
   have:=h i hi
   simp only[jn,cO] at this
   exact this.1
  refine⟨fun t ht=> ?_,?_⟩
  ·obtain⟨i,hi,rfl⟩:=sn ht
   have:=hb i hi
   simp only[jX,cO,decide_eq_true_eq] at this
   rw[<-hg hi];exact⟨this.1.1.1,this.1.1.2,this.1.2⟩
  ·rw[UA]
   intro i j hi hj FQ
   refine⟨by have:=LR hb i j FQ hj;rw[hg hi,hg hj] at this;exact this,fun e=> ?_⟩
   have:=h j hj
   simp only[jn,cO,ra] at this
   have:=yF (ol.1 this.2 i FQ)
   rw[hg hi,hg hj] at this
   exact this e.symm
 ·rintro⟨h1,h2⟩ j hj
  rw[UA] at h2
  obtain⟨q1,q2,q3⟩:=h1 _ (FJ hj)
  simp only[jn,jX,cO,ra,decide_eq_true_eq,Bool.and_eq_false_iff,decide_eq_false_iff_not]
  refine⟨⟨⟨⟨by rw[hg hj];exact q1,by rw[hg hj];exact q2⟩,by rw[hg hj];exact q3⟩,?_⟩,ol.2 fun i FQ=>decide_eq_false fun e=> ?_⟩
  ·by_cases h0:0<j
   ·right
    have:=(h2 (j-1) j (by omega) hj (by omega)).1
    rw[hg hj,hg (show j-1<s.ab.length by omega)];omega
   ·exact .inl h0
  ·have hi:i<s.ab.length:=by omega
   rw[hg hi,hg hj] at e
   exact(h2 i j hi hj FQ).2 e.symm
theorem GO{s:aF}(h:br s=true){f:aJ}(h0:iS s.ab f=0):∀x∈s.ab,x.F≠f:=by
 intro x hx e
 obtain⟨i,hi,rfl⟩:=sn hx
 rcases ik s.ab.length (fun k=>decide ((s.ab.getD k aX).F=f)) with⟨_,h2⟩|⟨m,g1,g2,_,_⟩
 ·have:=yF (h2 i hi)
  rw[eX,fH hi] at this
  exact this e
 ·have e2:Ex s.ab f=m:=g2
  rw[iS,e2,if_neg (by omega)] at h0
  have:=(jH h).2.2.2 (s.ab.getD m aX) (gP g1)
  rw[YW] at h0
  omega
theorem DS{s:aF}(h:br s=true){f:aJ}(hf:bw f=true):br (bZ s f).1=true:=by
 unfold bZ
 split
 ·exact h
 ·rename_i h0
  split
  ·exact h
  ·rename_i h1
   have hn:=GO h (f:=f) (Decidable.not_not.1 h0)
   obtain⟨g1,g2,g3,g4⟩:=n8.1 h
   refine n8.2 ⟨⟨by show 1<=s.Next+1;omega,by show s.Next+1<=1000000;omega⟩,by simp only[kI,fY,fG];omega,fun x hx=> ?_,?_⟩
   ·show _/\_/\_<s.Next+1
    rcases jO.1 hx with hx|hx
    ·obtain⟨a,b,c⟩:=g3 x hx;exact⟨a,b,by omega⟩
    ·rw[mF.1 hx];exact⟨hf,g1.1,by show s.Next<s.Next+1;omega⟩
   ·rw[List.pairwise_append]
    refine⟨g4,List.pairwise_singleton _ _,fun a ha b hb=> ?_⟩
    rw[mF.1 hb]
    exact⟨(g3 a ha).2.2,hn a ha⟩
def pD(id:Int)(x:bL):Bool:= !decide (x.Id=id)
def uF(s:aF)(id:Int):aF:=⟨s.ab.filter (pD id),s.Next⟩
theorem Kb{s:aF}(h:br s=true)(id:Int):br (uF s id)=true:=by
 obtain⟨g1,g2,g3,g4⟩:=n8.1 h
 exact n8.2 ⟨g1,xo (Mq _ _) g2,fun x hx=>g3 x (zr.1 hx).1,g4.filter _⟩
theorem rQ{l:List bL}{id:Int}:kr l id=true↔∃x∈l,x.Id=id:=by
 simp only[kr,yQ,decide_eq_true_eq]
 constructor
 ·rintro⟨j,hj,h⟩;exact⟨_,gP hj,h⟩
 ·rintro⟨x,hx,h⟩
  obtain⟨i,hi,rfl⟩:=sn hx
  exact⟨i,hi,by rw[eX,fH hi];exact h⟩
theorem Ih{s:aF}{f:aJ}{id:Int}(h:kr s.ab id=true):kr (bZ s f).1.ab id=true:=by
 unfold bZ
 split
 ·exact h
 ·split
  ·exact h
  ·obtain⟨x,hx,e⟩:=rQ.1 h
   exact rQ.2 ⟨x,sh _ hx,e⟩
def ya(l:List Int)(n:Int):Bool:=l.any fun x=>decide (x=n)
def yh(l:List au)(id:Int):List au:=l.filter fun m=> !ya m.eH id
structure coreX(d:bp)(x:aq):Prop where
 pS:fQ d=true
 store:br x.S=true
 jG:aT x.ap=true
 timers:dx x.ax=true
 oW:dD x.ay=true
 now:0<=x.cJ/\x.cJ<=1000000000
 Lq:x.aC.length<=1000
 bS:∀m∈x.aC,jc d x.S.ab m=true
structure cU(d:bp)(x:aq):Prop extends coreX d x where
 state:1<=x.State/\x.State<=6
 ended:x.State=2\/x.State=4\/x.State=6->o6 x.ap=false/\x.ax=[]
 NS:x.State=3\/x.State=5->x.ay≠[]
theorem vo{d:bp}{x:aq}:instOk d x=true↔cU d x:=by
 have e1:(!(mP x&&(o6 x.ap||decide (0<x.ax.length))))=true↔(x.State=2\/x.State=4\/x.State=6->o6 x.ap=false/\x.ax=[]):=by
  simp only[mP]
  by_cases h:x.State=2\/x.State=4\/x.State=6
  ·rw[decide_eq_true h,wk,ra,QL,decide_eq_false_iff_not]
   exact⟨fun g _=>⟨g.1,FU (by omega)⟩,fun g=>⟨(g h).1,by rw[(g h).2];simp⟩⟩
  ·rw[decide_eq_false h];exact⟨fun _ g=>absurd g h,fun _=>rfl⟩
 have e2:(!mH x||decide (0<x.ay.length))=true↔(x.State=3\/x.State=5->x.ay≠[]):=by
  simp only[mH,FL,ra,QL,decide_eq_false_iff_not,decide_eq_true_eq]
  constructor
  ·rintro(g|g) h e
   ·rcases h with h|h
    ·exact g.1 h
    ·exact g.2 h
   ·rw[e] at g;simp at g
  ·intro g
   by_cases h:x.State=3\/x.State=5
   ·exact .inr (List.length_pos_iff.2 (g h))
   ·exact .inl ⟨fun e=>h (.inl e),fun e=>h (.inr e)⟩
 rw[instOk,cO,cO,e1,e2]
 simp only[iU,cO,decide_eq_true_eq,sk]
 constructor
 ·rintro⟨⟨⟨⟨⟨⟨⟨⟨⟨h1,h2⟩,h3⟩,h4⟩,h5⟩,h6⟩,h7⟩,h8,h9⟩,sV⟩,h11⟩
  exact⟨⟨h1,h2,h3,h4,h5,h7,h8,h9⟩,h6,sV,h11⟩
 ·rintro⟨⟨h1,h2,h3,h4,h5,h7,h8,h9⟩,h6,sV,h11⟩
  exact⟨⟨⟨⟨⟨⟨⟨⟨⟨h1,h2⟩,h3⟩,h4⟩,h5⟩,h6⟩,h7⟩,h8,h9⟩,sV⟩,h11⟩
theorem coreX.good{d:bp}{x:aq}(h:coreX d x):cW x:=⟨h.jG,h.oW,h.now⟩
theorem KP(l:List ak):o6 (giveUp l)=false:=by
 refine gz fun j hj=> ?_
 have hm:=gP (z:=aE) hj
 obtain⟨t,_,e⟩:=l_.1 hm
 rw[<-e]
 simp only[jU,gF]
 split
 ·simp
 ·rename_i h;exact decide_eq_false h
theorem GC{d:bp}{x:aq}(h:coreX d x){st:Int}(hs:st=2\/st=4\/st=6):cU d (rq x st):=
 ⟨⟨h.pS,h.store,pu h.jG,rfl,h.oW,h.now,h.Lq,h.bS⟩,by show 1<=st/\st<=6;omega,fun _=>⟨KP _,rfl⟩,fun g=>by have g:st=3\/st=5:=g;omega⟩
theorem AY{d:bp}{x:aq}(h:coreX d x)(hs:x.State=3\/x.State=5):cU d (im x):=by
 unfold im
 split
 ·exact GC h (by split<;>omega)
 ·rename_i hu
  exact⟨⟨h.pS,h.store,DM h.good hu,h.timers,h.oW,h.now,h.Lq,h.bS⟩,by show 1<=x.State/\x.State<=6;omega,fun g=>by have g:x.State=2\/x.State=4\/x.State=6:=g;omega,fun _=>hu⟩
theorem Te{d:bp}{x:aq}(h:coreX d x)(st:Int):coreX d (rq x st):=⟨h.pS,h.store,pu h.jG,rfl,h.oW,h.now,h.Lq,h.bS⟩
theorem ma{d:bp}{x:aq}(h:coreX d x){st:Int}(hs:st=3\/st=5):cU d (gK x st):=AY (Te h st) hs
theorem wQ{d:bp}{x:aq}(h:coreX d x)(hs:x.State=3\/x.State=5):cU d (yd x):=
 AY ⟨h.pS,h.store,h.jG,h.timers,xA _ h.oW,h.now,h.Lq,h.bS⟩ hs
theorem kL{d:bp}{x:aq}(h:coreX d x)(hs:x.State=1):cU d x:=⟨h,by omega,fun g=>by omega,fun g=>by omega⟩
theorem LD{d:bp}{x:aq}(h:coreX d x){f:aJ}(hf:bw f=true):coreX d (tK x (bZ x.S f).1):=
 ⟨h.pS,DS h.store hf,h.jG,h.timers,h.oW,h.now,h.Lq,fun m hm=>by
  have:=h.bS m hm
  simp only[jc,cO,sk] at this⊢
  exact⟨this.1,fun i hi=>Ih (this.2 i hi)⟩⟩
theorem iR{d:bp}{x:aq}(h:coreX d x)(hs:x.State=1){f:aJ}(hf:bw f=true):cU d (du x f):=by
 unfold du
 split
 ·exact ma h (.inl rfl)
 ·exact kL (LD h hf) hs
theorem pt{l:List aK}:dx l=true↔l.length<=30/\(∀t∈l,iN t=true)/\l.Pairwise (fun a b=>a.At<=b.At):=by
 have hg:∀{i:Nat}(h:i<l.length),l.getD i cS=l[i]:=fun{i} h=>by rw[eX,fH h];rfl
 simp only[dx,cO,decide_eq_true_eq]
 refine and_congr_right fun _=> ?_
 rw[gg]
 constructor
 ·intro h
  refine⟨fun t ht=> ?_,?_⟩
  ·obtain⟨i,hi,rfl⟩:=sn ht
   have:=h i hi
   simp only[jR,cO] at this
   rw[<-hg hi];exact this.1
  ·have step:∀i (hi:i+1<l.length),l[i].At<=l[i+1].At:=fun i hi=>by
    have:=h (i+1) hi
    simp only[jR,cO,FL,decide_eq_true_eq,Nat.add_sub_cancel] at this
    rw[hg hi,hg (by omega)] at this
    rcases this.2 with h0|h0
    ·omega
    ·exact h0
   rw[UA]
   intro i j hi hj FQ
   obtain⟨k,rfl⟩:∃k,j=i+1+k:=⟨j-i-1,by omega⟩
   clear FQ
   induction k with
   |zero=>exact step i hj
   |succ k ih=>exact Int.le_trans (ih (by omega)) (step (i+1+k) hj)
 ·rintro⟨h1,h2⟩ j hj
  simp only[jR,cO,FL,decide_eq_true_eq]
  refine⟨by rw[hg hj];exact h1 _ (FJ hj),?_⟩
  by_cases h0:j=0
  ·exact .inl h0
  ·right
   rw[UA] at h2
   rw[hg hj,hg (show j-1<l.length by omega)]
   exact h2 (j-1) j (by omega) hj (by omega)
theorem wo{l:List aK}(p:aK->Bool)(h:dx l=true):dx (l.filter p)=true:=by
 rw[pt] at h⊢
 exact⟨xo (Mq _ _) h.1,fun t ht=>h.2.1 t (zr.1 ht).1,h.2.2.filter p⟩
theorem Ea{l:List aK}{a:Int}(hp:l.Pairwise (fun a b=>a.At<=b.At)):∀n,n<=l.length->(∀j,j<tV l a n->(l.getD j cS).At<=a)/\∀j,tV l a n<=j->j<n->a<(l.getD j cS).At
 |0,_=>⟨fun j hj=>by simp[tV] at hj,fun j _ hj=>by omega⟩
 |n+1,hn=>by
  obtain⟨h1,h2⟩:=Ea hp n (by omega)
  have hg:∀{i:Nat}(h:i<l.length),l.getD i cS=l[i]:=fun{i} h=>by rw[eX,fH h];rfl
  rw[tV]
  split
  ·rename_i h
   refine⟨h1,fun j g1 g2=> ?_⟩
   by_cases e:j=n
   ·subst e;omega
   ·exact h2 j g1 (by omega)
  ·rename_i h
   refine⟨fun j hj=> ?_,fun j g1 g2=>by omega⟩
   by_cases e:j=n
   ·subst e;omega
   ·rw[UA] at hp
    have:=hp j n (by omega) (by omega) (by omega)
    rw[hg (by omega)] at h⊢
    omega
theorem Mw{l:List aK}{x:aK}(h:dx l=true):dx (rv l x)=true:=by
 unfold rv
 split
 ·rename_i ha
  simp only[mX,cO,decide_eq_true_eq] at ha
  obtain⟨g1,g2,g3⟩:=pt.1 h
  obtain⟨p1,p2⟩:=Ea (a:=x.At) g3 l.length (tR _)
  have hp:=N6 l x.At l.length
  refine pt.2 ⟨by simp only[kI,oz,fY,Me];omega,fun t ht=> ?_,?_⟩
  ·rcases jO.1 ht with ht|ht
   ·exact g2 t (List.mem_of_mem_take ht)
   ·rcases kf.1 ht with ht|ht
    ·rw[ht];exact ha.1.2
    ·exact g2 t (List.mem_of_mem_drop ht)
  ·rw[List.pairwise_append]
   refine⟨g3.sublist (List.take_sublist _ _),List.pairwise_cons.2 ⟨fun b hb=> ?_,g3.sublist (List.drop_sublist _ _)⟩,fun a ha b hb=> ?_⟩
   ·obtain⟨j,hj,e⟩:=sn hb
    rw[List.getElem_drop] at e
    simp only[Me] at hj
    have:=p2 (tV l x.At l.length+j) (by omega) (by omega)
    rw[eX,fH (by omega)] at this
    rw[<-e];exact Int.le_of_lt this
   ·obtain⟨i,hi,e⟩:=sn ha
    rw[List.getElem_take] at e
    simp only[oz] at hi
    have hle:=p1 i (by omega)
    rw[eX,fH (by omega)] at hle
    have hle:a.At<=x.At:=by rw[<-e];exact hle
    rcases kf.1 hb with hb|hb
    ·rw[hb];exact hle
    ·obtain⟨j,hj,e'⟩:=sn hb
     rw[List.getElem_drop] at e'
     simp only[Me] at hj
     have:=p2 (tV l x.At l.length+j) (by omega) (by omega)
     rw[eX,fH (by omega)] at this
     have:x.At<b.At:=by rw[<-e'];exact this
     omega
 ·exact h
def DE(x:aq)(l:List au):aq:=⟨x.S,l,x.ap,x.ax,x.ay,x.State,x.cJ⟩
def NQ(x:aq)(l:List aK):aq:=⟨x.S,x.aC,x.ap,l,x.ay,x.State,x.cJ⟩
def Gp(x:aq)(n:Int):aq:=⟨x.S,x.aC,x.ap,x.ax,x.ay,x.State,n⟩
def Hb(x:aq)(id:Int):aq:=if(uF x.S id).ab.length<x.S.ab.length then DE (tK x (uF x.S id)) (yh x.aC id) else tK x (uF x.S id)
def NV(x:aq)(e:cX):aq:=if(fI x.ap e.F e.aR x.cJ).2=true then qn x (fI x.ap e.F e.aR x.cJ).1 else gK (qn x (fI x.ap e.F e.aR x.cJ).1) 3
def uj(x:aq)(e:cX):aK:=⟨if 1000000000<x.cJ+e.N then 1000000000 else x.cJ+e.N,e.F⟩
def Hy(x:aq)(e:cX):aq:=if mX x.ax (uj x e)=true then NQ x (rv x.ax (uj x e)) else gK (NQ x (rv x.ax (uj x e))) 3
def hZ(x:aq)(e:cX):aq:=
 if e.Kind=1 then du x e.F else if e.Kind=2 then Hb x e.Id else if e.Kind=3 then NV x e else if e.Kind=4 then Hy x e else if e.Kind=5 then rq x 2 else gK x 3
theorem Qs{d:bp}{x:aq}(h:coreX d x)(id:Int):coreX d (Hb x id):=by
 unfold Hb
 split
 ·refine⟨h.pS,Kb h.store id,h.jG,h.timers,h.oW,h.now,xo (Mq _ _) h.Lq,fun m hm=> ?_⟩
  obtain⟨hm,hn⟩:=zr.1 hm
  have:=h.bS m hm
  simp only[jc,cO,sk] at this⊢
  refine⟨this.1,fun i hi=> ?_⟩
  obtain⟨y,hy,e⟩:=rQ.1 (this.2 i hi)
  refine rQ.2 ⟨y,zr.2 ⟨hy,?_⟩,e⟩
  simp only[pD,ra,decide_eq_false_iff_not]
  intro e2
  simp only[ra,ya,List.any_eq_false,decide_eq_true_eq] at hn
  exact hn i hi (e.symm.trans e2)
 ·rename_i hl
  have e:uF x.S id=x.S:=by
   have:x.S.ab.filter (pD id)=x.S.ab:=List.filter_sublist.eq_of_length_le (by simp only[uF] at hl;omega)
   simp only[uF,this]
  rw[e]
  exact⟨h.pS,h.store,h.jG,h.timers,h.oW,h.now,h.Lq,h.bS⟩
theorem xJ{d:bp}{x:aq}(h:coreX d x)(hs:x.State=1){e:cX}(he:ez e=true):cU d (hZ x e):=by
 simp only[ez] at he
 unfold hZ
 by_cases h1:e.Kind=1
 ·simp only[h1,decide_true,cond_true,cO] at he
  rw[if_pos h1];exact iR h hs he.1.1.1
 rw[if_neg h1]
 by_cases h2:e.Kind=2
 ·rw[if_pos h2];exact kL (Qs h _) (by unfold Hb;split<;>exact hs)
 rw[if_neg h2]
 by_cases h3:e.Kind=3
 ·simp only[h3,show decide ((3:Int)=1)=false from rfl,show decide ((3:Int)=2)=false from rfl,decide_true,cond_true,cond_false,cO] at he
  rw[if_pos h3]
  have ho:aT (fI x.ap e.F e.aR x.cJ).1=true:=nQ h.jG he.1.1.1 he.2 h.now.1 (by have:=h.now.2;omega)
  have hc:coreX d (qn x (fI x.ap e.F e.aR x.cJ).1):=⟨h.pS,h.store,ho,h.timers,h.oW,h.now,h.Lq,h.bS⟩
  unfold NV
  split
  ·exact kL hc hs
  ·exact ma hc (.inl rfl)
 rw[if_neg h3]
 by_cases h4:e.Kind=4
 ·rw[if_pos h4]
  have hc:coreX d (NQ x (rv x.ax (uj x e))):=⟨h.pS,h.store,h.jG,Mw h.timers,h.oW,h.now,h.Lq,h.bS⟩
  unfold Hy
  split
  ·exact kL hc hs
  ·exact ma hc (.inl rfl)
 rw[if_neg h4]
 by_cases h5:e.Kind=5
 ·rw[if_pos h5];exact GC h (.inl rfl)
 ·rw[if_neg h5];exact ma h (.inl rfl)
def j8:List cX->aq->aq
 |[],x=>x
 |e::l,x=>if x.State=1 then j8 l (hZ x e) else x
def Ik(x:aq)(m:au):aq:=DE x (x.aC++[⟨m.cL,m.eH,[]⟩])
def pN(d:bp)(x:aq)(m:au):aq:=if lM d m=true/\x.aC.length<1000 then j8 (na d m) (Ik x m) else gK x 3
theorem wu{d:bp}:∀{l:List cX}{x:aq},cU d x->(∀e∈l,ez e=true)->cU d (j8 l x)
 |[],_,h,_=>h
 |e::l,x,h,hl=>by
  rw[j8];split
  ·rename_i hs
   exact wu (xJ h.tocoreX hs (hl e gB)) fun y hy=>hl y (cI _ hy)
  ·exact h
theorem Ov{d:bp}{m:au}:∀e∈na d m,ez e=true:=by
 intro e he
 unfold na at he
 split at he
 ·rename_i h
  obtain⟨a,ha,rfl⟩:=l_.1 he
  simp only[lM,cO,sk] at h
  have:=h.2 a ha
  simp only[HU,cO] at this
  exact this.2
 ·simp at he
def yf(s:List bL)(m:au):Prop:=∀i∈m.eH,kr s i=true
theorem E7{d:bp}{x:aq}{m:au}(h:coreX d x)(hl:x.aC.length<1000)(he:lM d m=true)(hm:yf x.S.ab m):coreX d (Ik x m):=by
 refine⟨h.pS,h.store,h.jG,h.timers,h.oW,h.now,by simp only[Ik,DE,kI,fY,fG];omega,fun n hn=> ?_⟩
 rcases jO.1 hn with hn|hn
 ·exact h.bS n hn
 ·rw[mF.1 hn]
  simp only[lM,Ej,cO] at he
  simp only[jc,cO,sk]
  exact⟨⟨⟨he.1.2.1,by simp⟩,he.1.2.2⟩,hm⟩
theorem MI{d:bp}{x:aq}{m:au}(h:coreX d x)(hs:x.State=1)(hm:yf x.S.ab m):cU d (pN d x m):=by
 unfold pN
 split
 ·rename_i hc
  exact wu (kL (E7 h hc.2 hc.1 hm) hs) Ov
 ·exact ma h (.inl rfl)
theorem GB{r:aY}{s:List bL}:∀{ps:List cr}{ids:List Int}{l:List bV},(∀i∈ids,kr s i=true)->∀m∈pw r s ps ids l,yf s m
 |[],ids,l,h,m,hm=>by
  simp only[pw] at hm
  split at hm
  ·rw[mF.1 hm];exact h
  ·simp at hm
 |p::ps,ids,l,h,m,hm=>by
  simp only[pw,ow] at hm
  obtain⟨x,hx,hm⟩:=hm
  split at hm
  ·refine GB (fun i hi=> ?_) m hm
   rcases jO.1 hi with hi|hi
   ·exact h i hi
   ·rw[mF.1 hi];exact rQ.2 ⟨x,hx,rfl⟩
  ·simp at hm
theorem TA{rs:List aY}{s:List bL}{m:au}(hm:m∈allM rs s):yf s m:=by
 simp only[allM,LX,ow,l_] at hm
 obtain⟨i,_,m',vw,rfl⟩:=hm
 exact GB (r:=rs.getD i cq) (ids:=[]) (by simp) m' vw
theorem GG{d:bp}{x:aq}{m:au}(h:jI d (allM d.aw x.S.ab) x.aC=some m):yf x.S.ab m:=TA (GH h)
theorem Er{d:bp}{x:aq}{key:BA}{ok:Bool}{v:a_}(h:instOk d x=true)(h0:(bB x.ap key ok v).2=1):x.State=1\/x.State=3\/x.State=5:=by
 have h1:aT x.ap=true/\bO v=true/\0<=aZ x.ap key/\(x.ap.getD (aZ x.ap key).toNat aE).State≠1:=Classical.byContradiction fun c=>by rw[sF c] at h0;simp at h0
 have h2:(x.ap.getD (aZ x.ap key).toNat aE).State=2:=Classical.byContradiction fun c=>by rw[vp h1 c] at h0;simp at h0
 have hk:=pc (l:=x.ap) (key:=key) h1.2.2.1
 have hl:o6 x.ap=true:=iJ (j:=(aZ x.ap key).toNat) hk (decide_eq_true (Or.inr h2))
 simp only[instOk,cO,decide_eq_true_eq] at h
 obtain⟨⟨⟨⟨⟨_,hs⟩,_⟩,_⟩,he⟩,_⟩:=h
 rw[hl] at he
 have he:mP x=false:=by cases hx:mP x<;>simp[hx] at he⊢
 simp only[mP,decide_eq_false_iff_not] at he
 omega
def Kg:List BA:=[⟨#[88]⟩,⟨#[89]⟩,⟨#[90]⟩,⟨#[88]⟩]
def Rb:List BA:=[⟨#[88]⟩,⟨#[89]⟩]
def io(c:ag):cN:=if af c 6=0 then⟨3,aj,ee⟩ else if af c 6=1 then⟨2,aj,eG (aa c 6)⟩ else⟨1,cB (aa c 6) Kg,ee⟩
def hJ(c:ag):ag:=if af c 6=0 then aa c 6 else if af c 6=1 then gS (aa c 6) else b_ (aa c 6) Kg
theorem qM{c:ag}(h:bh c):bh (hJ c):=by
 have:=ao h 6
 unfold hJ;split
 ·exact this
 ·split
  ·exact kT this
  ·exact ed this _
def eI(c:ag):cN:=if ca c 3=true then⟨2,aj,eG (aa c 3)⟩ else⟨1,cB (aa c 3) Rb,ee⟩
def df(c:ag):ag:=if ca c 3=true then gS (aa c 3) else b_ (aa c 3) Rb
theorem pU{c:ag}(h:bh c):bh (df c):=by
 have:=ao h 3
 unfold df;split
 ·exact kT this
 ·exact ed this _
def mA{α:Type}(f:ag->α)(g:ag->ag):Nat->List α->ag->List α
 |0,l,_=>l
 |k+1,l,c=>mA f g k (l++[f c]) (g c)
def pG(g:ag->ag):Nat->ag->ag
 |0,c=>c
 |k+1,c=>pG g k (g c)
theorem mz{α:Type}(f:ag->α)(g:ag->ag):∀(k:Nat)(l:List α)(c:ag),(mA f g k l c).length=l.length+k
 |0,_,_=>rfl
 |k+1,l,c=>by rw[mA,mz f g k];simp only[kI,fY,fG];omega
theorem nD{α:Type}{f:ag->α}{g:ag->ag}(p:α->Prop)(hp:∀c,p (f c)):∀(k:Nat)(l:List α)(c:ag),(∀x,x∈l->p x)->∀x,x∈mA f g k l c->p x
 |0,_,_,h=>h
 |k+1,l,c,h=>nD p hp k _ _ fun x hx=>by
  rcases jO.1 hx with hx|hx
  ·exact h x hx
  ·rw[mF] at hx;subst hx;exact hp c
theorem rU{g:ag->ag}(hg:∀c,bh c->bh (g c)):∀{k:Nat}{c:ag},bh c->bh (pG g k c)
 |0,_,h=>h
 |k+1,_,h=>rU hg (k:=k) (hg _ h)
def uD(c:ag):Int:=if cB c cZ=Fm then 2 else 1
def pd(not:Bool)(c:ag):cr:=⟨cB c cZ,mA io hJ (uD c).toNat [] (b_ c cZ),not⟩
def jJ(c:ag):ag:=pG hJ (uD c).toNat (b_ c cZ)
theorem pV{c:ag}(h:bh c):bh (jJ c):=rU (fun _=>qM) (ed h _)
theorem HN(c:ag):0<=uD c/\uD c<=2:=by unfold uD;split<;>omega
def yH(c:ag):dB:=⟨1+af c 3,eI (aa c 3),eI (df (aa c 3))⟩
def rr(c:ag):ag:=df (df (aa c 3))
theorem Ap{c:ag}(h:bh c):bh (rr c):=pU (pU (ao h _))
def DZ:List BA:=[⟨#[43]⟩,⟨#[45]⟩]
def fP(c:ag):cn:=if ca (df c) 4=true then⟨cB (aa (df c) 4) DZ,eI c,eI (b_ (aa (df c) 4) DZ)⟩ else⟨aj,eI c,mG⟩
def iA(c:ag):ag:=if ca (df c) 4=true then df (b_ (aa (df c) 4) DZ) else aa (df c) 4
theorem LJ{c:ag}(h:bh c):bh (iA c):=by
 have:=ao (pU h) 4
 unfold iA;split
 ·exact pU (ed this _)
 ·exact this
def pH:List Int:=[1,1,2,3,3,4,5,6]
def HB:List BA:=[⟨#[111,114,100,101,114]⟩,⟨#[112,97,105,100]⟩,⟨#[105,116,101,109]⟩,⟨#[115,104,105,112]⟩,⟨#[99,104,97,114,103,101]⟩]
def wX:List Int:=[0,1,5,100000]
def qu:List BA:=[⟨#[114,101,102,117,110,100]⟩,⟨#[99,97,110,99,101,108]⟩]
def iY(c:ag):Int:=g_ c pH
def ir(c:ag):BA:=cB (kE c pH) HB
def Fq(c:ag):ag:=b_ (kE c pH) HB
def xg(c:ag):Int:=if ir c=Fm then 2 else 1
def mY(c:ag):List cn:=mA fP iA (xg c).toNat [] (Fq c)
def k9(c:ag):ag:=pG iA (xg c).toNat (Fq c)
def oq(c:ag):ag:=if iY c=4 then kE (k9 c) wX else k9 c
def uZ(c:ag):Int:=if iY c=4 then g_ (k9 c) wX else 0
def ua(c:ag):BA:=if iY c=3/\ca (oq c) 2=true then cB (aa (oq c) 2) qu else aj
def u4(c:ag):ag:=if iY c=3 then(if ca (oq c) 2=true then b_ (aa (oq c) 2) qu else aa (oq c) 2) else oq c
def xh(fv:Int)(c:ag):eK:=if iY c=2 then⟨iY c,aj,[],af (kE c pH) fv,aj⟩ else if iY c=5\/iY c=6 then⟨iY c,aj,[],0,aj⟩ else⟨iY c,ir c,mY c,uZ c,ua c⟩
def p6(fv:Int)(c:ag):ag:=if iY c=2 then aa (kE c pH) fv else if iY c=5\/iY c=6 then kE c pH else u4 c
theorem OR(c:ag):0<=xg c/\xg c<=2:=by unfold xg;split<;>omega
theorem LO{c:ag}(h:bh c):bh (Fq c):=ed (iV h _) _
theorem Ff{c:ag}(h:bh c):bh (k9 c):=rU (fun _=>LJ) (LO h)
theorem Fe{c:ag}(h:bh c):bh (oq c):=by
 unfold oq;split
 ·exact iV (Ff h) _
 ·exact Ff h
theorem yK{c:ag}(fv:Int)(h:bh c):bh (p6 fv c):=by
 unfold p6;split
 ·exact ao (iV h _) _
 ·split
  ·exact iV h _
  ·unfold u4;split
   ·split
    ·exact ed (ao (Fe h) _) _
    ·exact ao (Fe h) _
   ·exact Fe h
theorem Av(c:ag):(mY c).length<=2:=by
 have:=OR c
 rw[mY,mz];simp only[fG];omega
theorem QE(fv:Int)(c:ag):(xh fv c).av.length<=2:=by
 have:=Av c
 unfold xh;split
 ·simp
 ·split
  ·simp
  ·exact this
def rm(vars:List BA)(a:cN):cN:=if e6 vars a=true then a else if vars.length=0 then⟨2,aj,⟨1,1,aj⟩⟩ else⟨1,vars.getD 0 aj,ee⟩
def Qk(vars:List BA)(x:dB):dB:=⟨x.Op,rm vars x.L,rm vars x.R⟩
def pM(vars:List BA)(e:cn):cn:=⟨e.Op,rm vars e.L,if e.Op=aj then e.R else rm vars e.R⟩
def EV(vars:List BA)(a:eK):eK:=⟨a.Kind,a.Name,a.av.map (pM vars),a.N,a.aR⟩
def lE:List Int:=[0,0,5,-5,100]
def Rk(c:ag):ag:=kE c lE
def Rh(c:ag):Int:=1+af (Rk c) 3
def HC(c:ag):ag:=aa (Rk c) 3
def lh(c:ag):List cr:=mA (pd false) jJ (Rh c).toNat [] (HC c)
def FX(c:ag):ag:=pG jJ (Rh c).toNat (HC c)
def wP(c:ag):ag:=aa (FX c) 3
def eu(c:ag):List cr:=if ca (FX c) 3=true then lh c++[pd true (wP c)] else lh c
def D3(c:ag):ag:=if ca (FX c) 3=true then jJ (wP c) else wP c
def dt(c:ag):List BA:=cV (eu c)
def wO(c:ag):ag:=aa (D3 c) 3
def fX(c:ag):List dB:=if ca (D3 c) 3=true then[Qk (dt c) (yH (wO c))] else[]
def zE(c:ag):ag:=if ca (D3 c) 3=true then rr (wO c) else wO c
def QN(c:ag):Int:=1+af (zE c) 3
def Rj(c:ag):ag:=aa (zE c) 3
def GA(c:ag)(d:ag):eK:=EV (dt c) (xh (cR (eu c)) d)
def rf(c:ag)(d:ag):ag:=p6 (cR (eu c)) d
def re(c:ag):List eK:=mA (GA c) (rf c) (QN c).toNat [] (Rj c)
def nA(c:ag):ag:=pG (rf c) (QN c).toNat (Rj c)
def my(name:BA)(c:ag):aY:=⟨name,g_ c lE,eu c,fX c,re c⟩
theorem OB{c:ag}(h:bh c):bh (HC c):=ao (iV h _) _
theorem OA{c:ag}(h:bh c):bh (FX c):=rU (fun _=>pV) (OB h)
theorem Oz{c:ag}(h:bh c):bh (D3 c):=by
 unfold D3;split
 ·exact pV (ao (OA h) _)
 ·exact ao (OA h) _
theorem Iu{c:ag}(h:bh c):bh (zE c):=by
 unfold zE;split
 ·exact Ap (ao (Oz h) _)
 ·exact ao (Oz h) _
theorem yI{c:ag}(h:bh c):bh (nA c):=rU (fun _=>yK _) (ao (Iu h) _)
theorem MC(c:ag):1<=Rh c/\Rh c<=3:=by
 have:=bx (c:=Rk c) (n:=3) (by omega)
 unfold Rh;omega
theorem Ri(c:ag):1<=QN c/\QN c<=3:=by
 have:=bx (c:=zE c) (n:=3) (by omega)
 unfold QN;omega
def sC:List BA:=[⟨#[114,49]⟩,⟨#[114,50]⟩,⟨#[114,51]⟩,⟨#[114,52]⟩]
def AQ:List BA:=[⟨#[102,108,111,119]⟩,⟨#[115,104,105,112]⟩,⟨#[120]⟩]
def LC:Nat->Nat->List aY->ag->List aY
 |0,_,l,_=>l
 |k+1,i,l,c=>if(i:Int)<1+af c 4 then LC k (i+1) (l++[my (sC.getD i aj) (aa c 4)]) (nA (aa c 4)) else l
def NA:Nat->Nat->ag->ag
 |0,_,c=>aa c 4
 |k+1,i,c=>if(i:Int)<1+af c 4 then NA k (i+1) (nA (aa c 4)) else aa c 4
def cE(c:ag):bp:=⟨cB c AQ,LC 4 0 [] (b_ c AQ)⟩
def jC(c:ag):ag:=NA 4 0 (b_ c AQ)
theorem LL:∀{k i:Nat}{c:ag},bh c->bh (NA k i c)
 |0,_,_,h=>ao h _
 |k+1,i,c,h=>by
  unfold NA;split
  ·exact LL (k:=k) (yI (ao h _))
  ·exact ao h _
theorem yJ{c:ag}(h:bh c):bh (jC c):=LL (ed h _)
theorem LdA{a a':cN}{d d':ag}(h1:a=a')(h2:d=d'):dZ [DV.agg [CI a.K,.lit (.string a.S),CI a.V.K,CI a.V.N,.lit (.string a.V.S)]]=dZ [DV.agg [CI a'.K,.lit (.string a'.S),CI a'.V.K,CI a'.V.N,.lit (.string a'.V.S)]]/\dZ [DV.box [.sl .byte d.b,CI d.i,CI d.h]]=dZ [DV.box [.sl .byte d'.b,CI d'.i,CI d'.h]]:=by
 subst h1 h2;exact⟨rfl,rfl⟩
theorem LdP{a a':cr}{d d':ag}(h1:a=a')(h2:d=d'):dZ [DV.agg [.lit (.string a.Kind),.sl .gH a.av,.lit (.bool a.Not)]]=dZ [DV.agg [.lit (.string a'.Kind),.sl .gH a'.av,.lit (.bool a'.Not)]]/\dZ [DV.box [.sl .byte d.b,CI d.i,CI d.h]]=dZ [DV.box [.sl .byte d'.b,CI d'.i,CI d'.h]]:=by
 subst h1 h2;exact⟨rfl,rfl⟩
theorem LdE{a a':cn}{d d':ag}(h1:a=a')(h2:d=d'):dZ [DV.agg [.lit (.string a.Op),CI a.L.K,.lit (.string a.L.S),CI a.L.V.K,CI a.L.V.N,.lit (.string a.L.V.S),CI a.R.K,.lit (.string a.R.S),CI a.R.V.K,CI a.R.V.N,.lit (.string a.R.V.S)]]=dZ [DV.agg [.lit (.string a'.Op),CI a'.L.K,.lit (.string a'.L.S),CI a'.L.V.K,CI a'.L.V.N,.lit (.string a'.L.V.S),CI a'.R.K,.lit (.string a'.R.S),CI a'.R.V.K,CI a'.R.V.N,.lit (.string a'.R.V.S)]]/\dZ [DV.box [.sl .byte d.b,CI d.i,CI d.h]]=dZ [DV.box [.sl .byte d'.b,CI d'.i,CI d'.h]]:=by
 subst h1 h2;exact⟨rfl,rfl⟩
theorem sf{a a':eK}{d d':ag}(h1:a=a')(h2:d=d'):dZ [DV.agg [CI a.Kind,.lit (.string a.Name),.sl .bG a.av,CI a.N,.lit (.string a.aR)]]=dZ [DV.agg [CI a'.Kind,.lit (.string a'.Name),.sl .bG a'.av,CI a'.N,.lit (.string a'.aR)]]/\dZ [DV.box [.sl .byte d.b,CI d.i,CI d.h]]=dZ [DV.box [.sl .byte d'.b,CI d'.i,CI d'.h]]:=by
 subst h1 h2;exact⟨rfl,rfl⟩
def afG:=cj (α:=a_) (q1 (qA .bc)) [.ro] (fun _=>[]) (fun v=>⟨[dA .gH (⟨2,aj,v⟩:cN)],[],[]⟩)
def TR:HH:=hF afG func206 [] a0 fun(v:a_) hp hb=>by
 have w5:=jp (x:=v) (hb _ m0)
 clear hp hb
 apply vE (Lf [DV.agg [CI 2,CS ({data:= #[]:BA}),CI v.K,CI v.N,CS v.S]] [DV.agg [CI 2,CS aj,CI v.K,CI v.N,CS v.S]])
 exact bf _
def afF:=cj (α:=BA) (q1 qS) [.ro] (fun _=>[]) (fun s=>⟨[dA .gH (⟨1,s,ee⟩:cN)],[],[]⟩)
def TQ:HH:=hF afF func207 [] a0 fun(s:BA) hp hb=>by
 have Bx:=Bg (s:=s) (hb _ m0)
 clear hp hb
 apply vE (Lf [DV.agg [CI 1,CS s,CI 0,CI 0,CS ({data:= #[]:BA})]] [DV.agg [CI 1,CS s,CI ee.K,CI ee.N,CS ee.S]])
 exact bf _
def afR:=cj (α:=ag) (q1 qU) [.box false] (fun c=>[bh c]) (fun c=>⟨[dA .gH (io c)],[],[dU (hJ c)]⟩)
def OV:HH:=hF afR func188 [nb,TM,sb,TR,TQ] a0 fun(c:ag) hp hb=>by
 have ey:=tQ (x:=c) (hb _ m0)
 have bo:bh c:=hp _ m0
 clear hp hb
 apply vE (let x1:=[{data:= #[(88:UInt8)]:BA},{data:= #[(89:UInt8)]:BA},{data:= #[(90:UInt8)]:BA},{data:= #[(88:UInt8)]:BA}];let x0:=b_ (aa c 6) x1;let q0:=aa c 6;0<=c.i/\L4 c.b.length/\bif af c (6:Int)==(0:Int) then LM [DV.agg [CI 3,CS ({data:= #[]:BA}),CI 0,CI 0,CS ({data:= #[]:BA})]] [DV.agg [CI ((io c).K),CS ((io c).S),CI ((io c).V.K),CI ((io c).V.N),CS ((io c).V.S)]] [bU q0] [bU (hJ c)] else bif af c (6:Int)==(1:Int) then bh q0/\LM [DV.agg [CI 2,CS aj,CI ((eG q0).K),CI ((eG q0).N),CS ((eG q0).S)]] [DV.agg [CI ((io c).K),CS ((io c).S),CI ((io c).V.K),CI ((io c).V.N),CS ((io c).V.S)]] [bU (gS q0)] [bU (hJ c)] else bh q0/\1<=x1.length/\LM [DV.agg [CI 1,CS (cB q0 x1),CI ee.K,CI ee.N,CS ee.S]] [DV.agg [CI ((io c).K),CS ((io c).S),CI ((io c).V.K),CI ((io c).V.N),CS ((io c).V.S)]] [bU x0] [bU (hJ c)])
 dsimp only
 have h6:=ao bo 6
 refine⟨bo.1,bo.2,bi (fun h=>⟨by trivial,?_⟩) (fun h=>bi (fun h'=>⟨h6,by trivial,?_⟩) (fun h'=>⟨h6,by simp,by trivial,?_⟩))⟩
 ·exact LdA (a:=⟨3,aj,ee⟩) (d:=aa c 6) (if_pos h).symm (if_pos h).symm
 ·exact LdA (a:=⟨2,aj,eG (aa c 6)⟩) (d:=gS (aa c 6)) ((if_neg h).trans (if_pos h')).symm ((if_neg h).trans (if_pos h')).symm
 ·exact LdA (a:=⟨1,cB (aa c 6) Kg,ee⟩) (d:=b_ (aa c 6) Kg) ((if_neg h).trans (if_neg h')).symm ((if_neg h).trans (if_neg h')).symm
def XR:=cj (α:=ag×Bool) (qC qU (q1 qO)) [.box false,.ro] (fun(c,not)=>[bh c]) (fun(c,not)=>⟨[dA .dE (pd not c)],[],[dU (jJ c)]⟩)
def qV(c:ag)(not:Bool):Int×O4×O4×T4×Unit->Prop:=fun(i,r,p,cu,_)=>0<=i/\i<=uD c/\p.1=cB c cZ/\p.2.2.1=not/\bh ⟨cu.1,cu.2.1,cu.2.2.1⟩/\p.2.1.length<=i/\mA io hJ (uD c-i).toNat p.2.1 ⟨cu.1,cu.2.1,cu.2.2.1⟩=(pd not c).av/\pG hJ (uD c-i).toNat ⟨cu.1,cu.2.1,cu.2.2.1⟩=jJ c
def vZ(c:ag)(not:Bool):Int×O4×O4×T4×Unit->Nat:=fun(i,r,p,cu,_)=>(uD c-i).toNat
def aiM:AX XR:=fun(c,not)=>bW [(6,aU [iI 7,.box 4 (4,1024) [.lit .str,.own .gH true,.lit .bool],.box 5 (5,1024) [.lit .str,.own .gH true,.lit .bool],.box 0 (2000000,0) [.shr .byte,.lit (.int .i64),.lit (.int .i64)]] (fun _=>qV c not) (vZ c not))]
def Yw:HH:=hF XR func173 [sb,OV] aiM fun x hp hb=>by
 obtain⟨c,not⟩:=x
 have ey:=tQ (x:=c) (hb _ m0)
 have bo:bh c:=hp _ m0
 clear hp hb
 apply vE (let x2:={data:= #[(111:UInt8),(114:UInt8),(100:UInt8),(101:UInt8),(114:UInt8)]:BA};let x3:={data:= #[(105:UInt8),(116:UInt8),(101:UInt8),(109:UInt8)]:BA};let x1:=[x2,{data:= #[(112:UInt8),(97:UInt8),(105:UInt8),(100:UInt8)]:BA},x3,x2];let x0:=b_ c x1;let q0:=BA×List cN×Bool×PUnit;let q1:=(0,({data:= #[]:BA},[],false,()),(cB c x1,[],not,()),(x0.b,x0.i,x0.h,()),());let q2:=pd not c;bh c/\1<=x1.length/\bif ByteArray.toList (cB c x1)==ByteArray.toList x3 then qV c not q1/\∀(y:Int×q0×q0×O3×PUnit),let x5:={b:=y.2.2.2.1.1,i:=y.2.2.2.1.2.1,h:=y.2.2.2.1.2.2.1:ag};let x4:=hJ x5;let q3:=(wrap i64 (y.1+1),(y.2.1.1,y.2.1.2.1,y.2.1.2.2.1,()),(y.2.2.1.1,y.2.2.1.2.1++[io x5],y.2.2.1.2.2.1,()),(x4.b,x4.i,x4.h,()),());qV c not y->bif decide (y.1<2) then bh x5/\y.2.2.1.2.1.length+List.length [io x5]<=4294967296/\qV c not q3/\vZ c not q3<vZ c not y else LM [DV.agg [CS y.2.2.1.1,CL .gH y.2.2.1.2.1,CO y.2.2.1.2.2.1]] [DV.agg [CS (q2.Kind),CL .gH q2.av,CO (q2.Not)]] [DV.box [CL .byte y.2.2.2.1.1,CI y.2.2.2.1.2.1,CI y.2.2.2.1.2.2.1]] [bU (jJ c)] else qV c not q1/\∀(y:Int×q0×q0×O3×PUnit),let x5:={b:=y.2.2.2.1.1,i:=y.2.2.2.1.2.1,h:=y.2.2.2.1.2.2.1:ag};let x4:=hJ x5;let q4:=(wrap i64 (y.1+1),(y.2.1.1,y.2.1.2.1,y.2.1.2.2.1,()),(y.2.2.1.1,y.2.2.1.2.1++[io x5],y.2.2.1.2.2.1,()),(x4.b,x4.i,x4.h,()),());qV c not y->bif decide (y.1<1) then bh x5/\y.2.2.1.2.1.length+List.length [io x5]<=4294967296/\qV c not q4/\vZ c not q4<vZ c not y else LM [DV.agg [CS y.2.2.1.1,CL .gH y.2.2.1.2.1,CO y.2.2.1.2.2.1]] [DV.agg [CS (q2.Kind),CL .gH q2.av,CO (q2.Not)]] [DV.box [CL .byte y.2.2.2.1.1,CI y.2.2.2.1.2.1,CI y.2.2.2.1.2.2.1]] [bU (jJ c)])
 dsimp only
 have hk:=ed bo cZ
 have hle:=HN c
 have fin:qV c not ((0:Int),(aj,[],false,()),(cB c cZ,[],not,()),((b_ c cZ).b,(b_ c cZ).i,(b_ c cZ).h,()),()):=⟨by omega,hle.1,rfl,rfl,hk,by simp,by simp only[Int.sub_zero];rfl,by simp only[Int.sub_zero];rfl⟩
 have h2:∀{b:Bool},(ByteArray.toList (cB c cZ)==ByteArray.toList Fm)=b->uD c=if b=true then 2 else 1:=fun{b} h=>by
  rw[aM] at h
  unfold uD
  cases b with
  |true=>rw[if_pos (yT h)];rfl
  |false=>rw[if_neg (yF h)];rfl
 refine⟨bo,by simp,ae (fun h=> ?_) (fun h=> ?_)⟩
 all_goals
  have hN:=h2 h
  simp only[if_true,xt,if_false] at hN
  clear h
  refine⟨fin,?_⟩
  rintro⟨i,⟨r1,r2,r3,⟨⟩⟩,⟨p1,p2,p3,⟨⟩⟩,⟨cb,ci,ch,⟨⟩⟩,⟨⟩⟩ ⟨g1,g2,g3,g4,g5,g6,g7,g8⟩
  simp only at g1 g2 g3 g4 g5 g6 g7 g8⊢
  refine aQ (fun hc=> ?_) (fun hc=>⟨by trivial,?_⟩)
  ·have e:(uD c-i).toNat=(uD c-(i+1)).toNat+1:=by omega
   rw[e] at g7 g8
   rw[wi]
   exact⟨g5,by simp only[fY,fG];omega,⟨by omega,by omega,g3,g4,qM g5,by simp only[kI,fY,fG];omega,g7,g8⟩,by simp only[vZ];omega⟩
  ·have e:(uD c-i).toNat=0:=by omega
   rw[e] at g7 g8
   have g7:p2=(pd not c).av:=g7
   have g8:(⟨cb,ci,ch⟩:ag)=jJ c:=g8
   subst g3 g4 g7
   exact LdP (a:=⟨cB c cZ,(pd p3 c).av,p3⟩) (d:=⟨cb,ci,ch⟩) rfl g8
def afH:=cj (α:=ag) (q1 qU) [.box false] (fun c=>[bh c]) (fun c=>⟨[dA .gH (eI c)],[],[dU (df c)]⟩)
def TS:HH:=hF afH func205 [AE,TM,sb,TR,TQ] a0 fun(c:ag) hp hb=>by
 have ey:=tQ (x:=c) (hb _ m0)
 have bo:bh c:=hp _ m0
 clear hp hb
 apply vE (let x1:=[{data:= #[(88:UInt8)]:BA},{data:= #[(89:UInt8)]:BA}];let x0:=b_ (aa c 3) x1;let q0:=aa c 3;bh c/\bif ca c 3 then bh q0/\LM [DV.agg [CI 2,CS aj,CI ((eG q0).K),CI ((eG q0).N),CS ((eG q0).S)]] [DV.agg [CI ((eI c).K),CS ((eI c).S),CI ((eI c).V.K),CI ((eI c).V.N),CS ((eI c).V.S)]] [bU (gS q0)] [bU (df c)] else bh q0/\1<=x1.length/\LM [DV.agg [CI 1,CS (cB q0 x1),CI ee.K,CI ee.N,CS ee.S]] [DV.agg [CI ((eI c).K),CS ((eI c).S),CI ((eI c).V.K),CI ((eI c).V.N),CS ((eI c).V.S)]] [bU x0] [bU (df c)])
 dsimp only
 have h6:=ao bo 3
 refine⟨bo,ae (fun h=>⟨h6,by trivial,?_⟩) (fun h=>⟨h6,by simp,by trivial,?_⟩)⟩
 ·exact LdA (a:=⟨2,aj,eG (aa c 3)⟩) (d:=gS (aa c 3)) (if_pos h).symm (if_pos h).symm
 ·have h:¬ca c 3=true:=by rw[h];decide
  exact LdA (a:=⟨1,cB (aa c 3) Rb,ee⟩) (d:=b_ (aa c 3) Rb) (if_neg h).symm (if_neg h).symm
def abk:=cj (α:=ag) (q1 qU) [.box false] (fun c=>[bh c]) (fun c=>⟨[dA .bT (yH c)],[],[dU (rr c)]⟩)
def abu:HH:=hF abk func174 [nb,TS] a0 fun(c:ag) hp hb=>by
 have ey:=tQ (x:=c) (hb _ m0)
 have bo:bh c:=hp _ m0
 clear hp hb
 apply vE (let x1:=df (df (aa c 3));let x2:=eI (df (aa c 3));let x3:=(eI (aa c 3)).V;let x4:=(1:Int)+af c 3;let x0:=x2.V;let q0:=aa c 3;0<=c.i/\L4 c.b.length/\bh q0/\bh (df q0)/\LM [DV.agg [CI (wrap i64 x4),CI ((eI q0).K),CS ((eI q0).S),CI x3.K,CI x3.N,CS x3.S,CI x2.K,CS x2.S,CI x0.K,CI x0.N,CS x0.S]] [DV.agg [CI x4,CI ((eI q0).K),CS ((eI q0).S),CI x3.K,CI x3.N,CS x3.S,CI x2.K,CS x2.S,CI x0.K,CI x0.N,CS x0.S]] [bU x1] [bU x1])
 dsimp only
 have hb:=bx (c:=c) (n:=3) (by omega)
 have h3:=ao bo 3
 rw[wi]
 exact⟨bo.1,bo.2,h3,pU h3,by trivial,rfl,rfl⟩
def afE:=cj (α:=ag) (q1 qU) [.box false] (fun c=>[bh c]) (fun c=>⟨[dA .bG (fP c)],[],[dU (iA c)]⟩)
def ag_:HH:=hF afE func208 [AE,TS,sb] a0 fun(c:ag) hp hb=>by
 have ey:=tQ (x:=c) (hb _ m0)
 have bo:bh c:=hp _ m0
 clear hp hb
 apply vE (let x4:=[{data:= #[(43:UInt8)]:BA},{data:= #[(45:UInt8)]:BA}];let x5:=aa (df c) 4;let x3:=b_ x5 x4;let x1:=df x3;let x2:=eI x3;let x0:=x2.V;let q0:={data:= #[]:BA};bh c/\bh (df c)/\bif ca (df c) 4 then bh x5/\1<=x4.length/\bh x3/\LM [DV.agg [CS (cB x5 x4),CI ((eI c).K),CS ((eI c).S),CI ((eI c).V.K),CI ((eI c).V.N),CS ((eI c).V.S),CI x2.K,CS x2.S,CI x0.K,CI x0.N,CS x0.S]] [DV.agg [CS ((fP c).Op),CI ((fP c).L.K),CS ((fP c).L.S),CI ((fP c).L.V.K),CI ((fP c).L.V.N),CS ((fP c).L.V.S),CI ((fP c).R.K),CS ((fP c).R.S),CI ((fP c).R.V.K),CI ((fP c).R.V.N),CS ((fP c).R.V.S)]] [bU x1] [bU (iA c)] else LM [DV.agg [CS q0,CI ((eI c).K),CS ((eI c).S),CI ((eI c).V.K),CI ((eI c).V.N),CS ((eI c).V.S),CI 0,CS q0,CI 0,CI 0,CS q0]] [DV.agg [CS ((fP c).Op),CI ((fP c).L.K),CS ((fP c).L.S),CI ((fP c).L.V.K),CI ((fP c).L.V.N),CS ((fP c).L.V.S),CI ((fP c).R.K),CS ((fP c).R.S),CI ((fP c).R.V.K),CI ((fP c).R.V.N),CS ((fP c).R.V.S)]] [bU x5] [bU (iA c)])
 dsimp only
 have h1:=pU bo
 have h4:=ao h1 4
 refine⟨bo,h1,ae (fun h=>⟨h4,by simp,ed h4 _,by trivial,?_⟩) (fun h=>⟨by trivial,?_⟩)⟩
 ·exact LdE (a:=⟨cB (aa (df c) 4) DZ,eI c,eI (b_ (aa (df c) 4) DZ)⟩) (d:=df (b_ (aa (df c) 4) DZ)) (if_pos h).symm (if_pos h).symm
 ·have h:¬ca (df c) 4=true:=by rw[h];decide
  exact LdE (a:=⟨aj,eI c,mG⟩) (d:=aa (df c) 4) (if_neg h).symm (if_neg h).symm
def XQ:=cj (α:=ag×Int) (qC qU (q1 qI)) [.box false,.ro] (fun(c,fv)=>[bh c]) (fun(c,fv)=>⟨[dA .dG (xh fv c)],[],[dU (p6 fv c)]⟩)
def iZ(c:ag)(fv:Int):Int×T6×T6×T4×Unit->Prop:=fun(i,r,p,cu,_)=>0<=i/\i<=xg c/\p.1=iY c/\p.2.1=ir c/\p.2.2.2.1=0/\p.2.2.2.2.1=aj/\bh ⟨cu.1,cu.2.1,cu.2.2.1⟩/\p.2.2.1.length<=i/\mA fP iA (xg c-i).toNat p.2.2.1 ⟨cu.1,cu.2.1,cu.2.2.1⟩=mY c/\pG iA (xg c-i).toNat ⟨cu.1,cu.2.1,cu.2.2.1⟩=k9 c
def lT(c:ag)(fv:Int):Int×T6×T6×T4×Unit->Nat:=fun(i,r,p,cu,_)=>(xg c-i).toNat
def aiL:AX XQ:=fun(c,fv)=>bW [(14,aU [iI 7,.box 4 (4,1024) [.lit (.int .i64),.lit .str,.own .bG true,.lit (.int .i64),.lit .str],.box 5 (5,1024) [.lit (.int .i64),.lit .str,.own .bG true,.lit (.int .i64),.lit .str],.box 0 (2000000,0) [.shr .byte,.lit (.int .i64),.lit (.int .i64)]] (fun _=>iZ c fv) (lT c fv))]
def Yv:HH:=hF XQ func176 [FG,nb,sb,ag_,AE] aiL fun x hp hb=>by
 obtain⟨c,fv⟩:=x
 have ey:=tQ (x:=c) (hb _ m0)
 have ajq:=tg (n:=fv) (hb _ m1)
 have bo:bh c:=hp _ m0
 clear hp hb
 apply vE (let x4:=[{data:= #[(114:UInt8),(101:UInt8),(102:UInt8),(117:UInt8),(110:UInt8),(100:UInt8)]:BA},{data:= #[(99:UInt8),(97:UInt8),(110:UInt8),(99:UInt8),(101:UInt8),(108:UInt8)]:BA}];let x7:=[1,1,2,3,3,4,5,6];let x9:={data:= #[(105:UInt8),(116:UInt8),(101:UInt8),(109:UInt8)]:BA};let qb:=[0,1,5,100000];let wI:={data:= #[]:BA};let x3:=[{data:= #[(111:UInt8),(114:UInt8),(100:UInt8),(101:UInt8),(114:UInt8)]:BA},{data:= #[(112:UInt8),(97:UInt8),(105:UInt8),(100:UInt8)]:BA},x9,{data:= #[(115:UInt8),(104:UInt8),(105:UInt8),(112:UInt8)]:BA},{data:= #[(99:UInt8),(104:UInt8),(97:UInt8),(114:UInt8),(103:UInt8),(101:UInt8)]:BA}];let x6:=x7.length;let oV:=qb.length;let x5:=(↑x6:Int);let x8:=(↑oV:Int);let x1:=x7.getD (Int.toNat (af c x5)) 0;let x2:=aa c x5;let x0:=b_ x2 x3;let q0:=xh fv c;let q1:=Int×BA×List cn×Int×BA×PUnit;let q2:=p6 fv c;let q3:=(0,(0,wI,[],0,wI,()),(x1,cB x2 x3,[],0,wI,()),(x0.b,x0.i,x0.h,()),());let q4:=LM [DV.agg [CI x1,CS wI,CL .bG [],CI 0,CS wI]] [DV.agg [CI (q0.Kind),CS (q0.Name),CL .bG q0.av,CI (q0.N),CS (q0.aR)]] [bU x2] [bU q2];let q5:=List Int×Int×Int×PUnit;0<=c.i/\L4 c.b.length/\1<=x6/\bif x1==2 then 0<=x2.i/\L4 x2.b.length/\LM [DV.agg [CI x1,CS wI,CL .bG [],CI (af x2 fv),CS wI]] [DV.agg [CI (q0.Kind),CS (q0.Name),CL .bG q0.av,CI (q0.N),CS (q0.aR)]] [bU (aa x2 fv)] [bU q2] else bif x1==5 then bif x1==5 then q4 else bh x2/\1<=x3.length/\bif ByteArray.toList (cB x2 x3)==ByteArray.toList x9 then iZ c fv q3/\∀(y:Int×q1×q1×q5×PUnit),let iw:={b:=y.2.2.2.1.1,i:=y.2.2.2.1.2.1,h:=y.2.2.2.1.2.2.1:ag};let zv:=y.2.2.1.1==3;let vj:=aa (aa iw x8) 2;let NP:=b_ (aa iw 2) x4;let q6:=(wrap i64 (y.1+1),(y.2.1.1,y.2.1.2.1,y.2.1.2.2.1,y.2.1.2.2.2.1,y.2.1.2.2.2.2.1,()),(y.2.2.1.1,y.2.2.1.2.1,y.2.2.1.2.2.1++[fP iw],y.2.2.1.2.2.2.1,y.2.2.1.2.2.2.2.1,()),((iA iw).b,(iA iw).i,(iA iw).h,()),());let q7:=qb.getD (Int.toNat (af iw x8)) 0;let q8:=aa iw 2;iZ c fv y->bif decide (y.1<2) then bh iw/\y.2.2.1.2.2.1.length+List.length [fP iw]<=4294967296/\iZ c fv q6/\lT c fv q6<lT c fv y else bif y.2.2.1.1==4 then 0<=y.2.2.2.1.2.1/\L4 y.2.2.2.1.1.length/\1<=oV/\bif zv then bh (aa iw x8)/\bif ca (aa iw x8) 2 then bh vj/\1<=x4.length/\LM [DV.agg [CI y.2.2.1.1,CS y.2.2.1.2.1,CL .bG y.2.2.1.2.2.1,CI q7,CS (cB vj x4)]] [DV.agg [CI (q0.Kind),CS (q0.Name),CL .bG q0.av,CI (q0.N),CS (q0.aR)]] [bU (b_ vj x4)] [bU q2] else LM [DV.agg [CI y.2.2.1.1,CS y.2.2.1.2.1,CL .bG y.2.2.1.2.2.1,CI q7,CS y.2.2.1.2.2.2.2.1]] [DV.agg [CI (q0.Kind),CS (q0.Name),CL .bG q0.av,CI (q0.N),CS (q0.aR)]] [bU vj] [bU q2] else LM [DV.agg [CI y.2.2.1.1,CS y.2.2.1.2.1,CL .bG y.2.2.1.2.2.1,CI q7,CS y.2.2.1.2.2.2.2.1]] [DV.agg [CI (q0.Kind),CS (q0.Name),CL .bG q0.av,CI (q0.N),CS (q0.aR)]] [bU (aa iw x8)] [bU q2] else bif zv then bh iw/\bif ca iw 2 then bh q8/\1<=x4.length/\LM [DV.agg [CI y.2.2.1.1,CS y.2.2.1.2.1,CL .bG y.2.2.1.2.2.1,CI y.2.2.1.2.2.2.1,CS (cB q8 x4)]] [DV.agg [CI (q0.Kind),CS (q0.Name),CL .bG q0.av,CI (q0.N),CS (q0.aR)]] [bU NP] [bU q2] else LM [DV.agg [CI y.2.2.1.1,CS y.2.2.1.2.1,CL .bG y.2.2.1.2.2.1,CI y.2.2.1.2.2.2.1,CS y.2.2.1.2.2.2.2.1]] [DV.agg [CI (q0.Kind),CS (q0.Name),CL .bG q0.av,CI (q0.N),CS (q0.aR)]] [bU q8] [bU q2] else LM [DV.agg [CI y.2.2.1.1,CS y.2.2.1.2.1,CL .bG y.2.2.1.2.2.1,CI y.2.2.1.2.2.2.1,CS y.2.2.1.2.2.2.2.1]] [DV.agg [CI (q0.Kind),CS (q0.Name),CL .bG q0.av,CI (q0.N),CS (q0.aR)]] [DV.box [CL .byte y.2.2.2.1.1,CI y.2.2.2.1.2.1,CI y.2.2.2.1.2.2.1]] [bU q2] else iZ c fv q3/\∀(y:Int×q1×q1×q5×PUnit),let iw:={b:=y.2.2.2.1.1,i:=y.2.2.2.1.2.1,h:=y.2.2.2.1.2.2.1:ag};let zv:=y.2.2.1.1==3;let vj:=aa (aa iw x8) 2;let NP:=b_ (aa iw 2) x4;let q9:=(wrap i64 (y.1+1),(y.2.1.1,y.2.1.2.1,y.2.1.2.2.1,y.2.1.2.2.2.1,y.2.1.2.2.2.2.1,()),(y.2.2.1.1,y.2.2.1.2.1,y.2.2.1.2.2.1++[fP iw],y.2.2.1.2.2.2.1,y.2.2.1.2.2.2.2.1,()),((iA iw).b,(iA iw).i,(iA iw).h,()),());let q10:=qb.getD (Int.toNat (af iw x8)) 0;iZ c fv y->bif decide (y.1<1) then bh iw/\y.2.2.1.2.2.1.length+List.length [fP iw]<=4294967296/\iZ c fv q9/\lT c fv q9<lT c fv y else bif y.2.2.1.1==4 then 0<=y.2.2.2.1.2.1/\L4 y.2.2.2.1.1.length/\1<=oV/\bif zv then bh (aa iw x8)/\bif ca (aa iw x8) 2 then bh vj/\1<=x4.length/\LM [DV.agg [CI y.2.2.1.1,CS y.2.2.1.2.1,CL .bG y.2.2.1.2.2.1,CI q10,CS (cB vj x4)]] [DV.agg [CI (q0.Kind),CS (q0.Name),CL .bG q0.av,CI (q0.N),CS (q0.aR)]] [bU (b_ vj x4)] [bU q2] else LM [DV.agg [CI y.2.2.1.1,CS y.2.2.1.2.1,CL .bG y.2.2.1.2.2.1,CI q10,CS y.2.2.1.2.2.2.2.1]] [DV.agg [CI (q0.Kind),CS (q0.Name),CL .bG q0.av,CI (q0.N),CS (q0.aR)]] [bU vj] [bU q2] else LM [DV.agg [CI y.2.2.1.1,CS y.2.2.1.2.1,CL .bG y.2.2.1.2.2.1,CI q10,CS y.2.2.1.2.2.2.2.1]] [DV.agg [CI (q0.Kind),CS (q0.Name),CL .bG q0.av,CI (q0.N),CS (q0.aR)]] [bU (aa iw x8)] [bU q2] else bif zv then bh iw/\bif ca iw 2 then bh (aa iw 2)/\1<=x4.length/\LM [DV.agg [CI y.2.2.1.1,CS y.2.2.1.2.1,CL .bG y.2.2.1.2.2.1,CI y.2.2.1.2.2.2.1,CS (cB (aa iw 2) x4)]] [DV.agg [CI (q0.Kind),CS (q0.Name),CL .bG q0.av,CI (q0.N),CS (q0.aR)]] [bU NP] [bU q2] else LM [DV.agg [CI y.2.2.1.1,CS y.2.2.1.2.1,CL .bG y.2.2.1.2.2.1,CI y.2.2.1.2.2.2.1,CS y.2.2.1.2.2.2.2.1]] [DV.agg [CI (q0.Kind),CS (q0.Name),CL .bG q0.av,CI (q0.N),CS (q0.aR)]] [bU (aa iw 2)] [bU q2] else LM [DV.agg [CI y.2.2.1.1,CS y.2.2.1.2.1,CL .bG y.2.2.1.2.2.1,CI y.2.2.1.2.2.2.1,CS y.2.2.1.2.2.2.2.1]] [DV.agg [CI (q0.Kind),CS (q0.Name),CL .bG q0.av,CI (q0.N),CS (q0.aR)]] [DV.box [CL .byte y.2.2.2.1.1,CI y.2.2.2.1.2.1,CI y.2.2.2.1.2.2.1]] [bU q2] else bif x1==6 then q4 else bh x2/\1<=x3.length/\bif ByteArray.toList (cB x2 x3)==ByteArray.toList x9 then iZ c fv q3/\∀(y:Int×q1×q1×q5×PUnit),let iw:={b:=y.2.2.2.1.1,i:=y.2.2.2.1.2.1,h:=y.2.2.2.1.2.2.1:ag};let zv:=y.2.2.1.1==3;let vj:=aa (aa iw x8) 2;let NP:=b_ (aa iw 2) x4;let q11:=(wrap i64 (y.1+1),(y.2.1.1,y.2.1.2.1,y.2.1.2.2.1,y.2.1.2.2.2.1,y.2.1.2.2.2.2.1,()),(y.2.2.1.1,y.2.2.1.2.1,y.2.2.1.2.2.1++[fP iw],y.2.2.1.2.2.2.1,y.2.2.1.2.2.2.2.1,()),((iA iw).b,(iA iw).i,(iA iw).h,()),());let q12:=qb.getD (Int.toNat (af iw x8)) 0;iZ c fv y->bif decide (y.1<2) then bh iw/\y.2.2.1.2.2.1.length+List.length [fP iw]<=4294967296/\iZ c fv q11/\lT c fv q11<lT c fv y else bif y.2.2.1.1==4 then 0<=y.2.2.2.1.2.1/\L4 y.2.2.2.1.1.length/\1<=oV/\bif zv then bh (aa iw x8)/\bif ca (aa iw x8) 2 then bh vj/\1<=x4.length/\LM [DV.agg [CI y.2.2.1.1,CS y.2.2.1.2.1,CL .bG y.2.2.1.2.2.1,CI q12,CS (cB vj x4)]] [DV.agg [CI (q0.Kind),CS (q0.Name),CL .bG q0.av,CI (q0.N),CS (q0.aR)]] [bU (b_ vj x4)] [bU q2] else LM [DV.agg [CI y.2.2.1.1,CS y.2.2.1.2.1,CL .bG y.2.2.1.2.2.1,CI q12,CS y.2.2.1.2.2.2.2.1]] [DV.agg [CI (q0.Kind),CS (q0.Name),CL .bG q0.av,CI (q0.N),CS (q0.aR)]] [bU vj] [bU q2] else LM [DV.agg [CI y.2.2.1.1,CS y.2.2.1.2.1,CL .bG y.2.2.1.2.2.1,CI q12,CS y.2.2.1.2.2.2.2.1]] [DV.agg [CI (q0.Kind),CS (q0.Name),CL .bG q0.av,CI (q0.N),CS (q0.aR)]] [bU (aa iw x8)] [bU q2] else bif zv then bh iw/\bif ca iw 2 then bh (aa iw 2)/\1<=x4.length/\LM [DV.agg [CI y.2.2.1.1,CS y.2.2.1.2.1,CL .bG y.2.2.1.2.2.1,CI y.2.2.1.2.2.2.1,CS (cB (aa iw 2) x4)]] [DV.agg [CI (q0.Kind),CS (q0.Name),CL .bG q0.av,CI (q0.N),CS (q0.aR)]] [bU NP] [bU q2] else LM [DV.agg [CI y.2.2.1.1,CS y.2.2.1.2.1,CL .bG y.2.2.1.2.2.1,CI y.2.2.1.2.2.2.1,CS y.2.2.1.2.2.2.2.1]] [DV.agg [CI (q0.Kind),CS (q0.Name),CL .bG q0.av,CI (q0.N),CS (q0.aR)]] [bU (aa iw 2)] [bU q2] else LM [DV.agg [CI y.2.2.1.1,CS y.2.2.1.2.1,CL .bG y.2.2.1.2.2.1,CI y.2.2.1.2.2.2.1,CS y.2.2.1.2.2.2.2.1]] [DV.agg [CI (q0.Kind),CS (q0.Name),CL .bG q0.av,CI (q0.N),CS (q0.aR)]] [DV.box [CL .byte y.2.2.2.1.1,CI y.2.2.2.1.2.1,CI y.2.2.2.1.2.2.1]] [bU q2] else iZ c fv q3/\∀(y:Int×q1×q1×q5×PUnit),let iw:={b:=y.2.2.2.1.1,i:=y.2.2.2.1.2.1,h:=y.2.2.2.1.2.2.1:ag};let zv:=y.2.2.1.1==3;let vj:=aa (aa iw x8) 2;let NP:=b_ (aa iw 2) x4;let q13:=(wrap i64 (y.1+1),(y.2.1.1,y.2.1.2.1,y.2.1.2.2.1,y.2.1.2.2.2.1,y.2.1.2.2.2.2.1,()),(y.2.2.1.1,y.2.2.1.2.1,y.2.2.1.2.2.1++[fP iw],y.2.2.1.2.2.2.1,y.2.2.1.2.2.2.2.1,()),((iA iw).b,(iA iw).i,(iA iw).h,()),());let q14:=qb.getD (Int.toNat (af iw x8)) 0;iZ c fv y->bif decide (y.1<1) then bh iw/\y.2.2.1.2.2.1.length+List.length [fP iw]<=4294967296/\iZ c fv q13/\lT c fv q13<lT c fv y else bif y.2.2.1.1==4 then 0<=y.2.2.2.1.2.1/\L4 y.2.2.2.1.1.length/\1<=oV/\bif zv then bh (aa iw x8)/\bif ca (aa iw x8) 2 then bh vj/\1<=x4.length/\LM [DV.agg [CI y.2.2.1.1,CS y.2.2.1.2.1,CL .bG y.2.2.1.2.2.1,CI q14,CS (cB vj x4)]] [DV.agg [CI (q0.Kind),CS (q0.Name),CL .bG q0.av,CI (q0.N),CS (q0.aR)]] [bU (b_ vj x4)] [bU q2] else LM [DV.agg [CI y.2.2.1.1,CS y.2.2.1.2.1,CL .bG y.2.2.1.2.2.1,CI q14,CS y.2.2.1.2.2.2.2.1]] [DV.agg [CI (q0.Kind),CS (q0.Name),CL .bG q0.av,CI (q0.N),CS (q0.aR)]] [bU vj] [bU q2] else LM [DV.agg [CI y.2.2.1.1,CS y.2.2.1.2.1,CL .bG y.2.2.1.2.2.1,CI q14,CS y.2.2.1.2.2.2.2.1]] [DV.agg [CI (q0.Kind),CS (q0.Name),CL .bG q0.av,CI (q0.N),CS (q0.aR)]] [bU (aa iw x8)] [bU q2] else bif zv then bh iw/\bif ca iw 2 then bh (aa iw 2)/\1<=x4.length/\LM [DV.agg [CI y.2.2.1.1,CS y.2.2.1.2.1,CL .bG y.2.2.1.2.2.1,CI y.2.2.1.2.2.2.1,CS (cB (aa iw 2) x4)]] [DV.agg [CI (q0.Kind),CS (q0.Name),CL .bG q0.av,CI (q0.N),CS (q0.aR)]] [bU NP] [bU q2] else LM [DV.agg [CI y.2.2.1.1,CS y.2.2.1.2.1,CL .bG y.2.2.1.2.2.1,CI y.2.2.1.2.2.2.1,CS y.2.2.1.2.2.2.2.1]] [DV.agg [CI (q0.Kind),CS (q0.Name),CL .bG q0.av,CI (q0.N),CS (q0.aR)]] [bU (aa iw 2)] [bU q2] else LM [DV.agg [CI y.2.2.1.1,CS y.2.2.1.2.1,CL .bG y.2.2.1.2.2.1,CI y.2.2.1.2.2.2.1,CS y.2.2.1.2.2.2.2.1]] [DV.agg [CI (q0.Kind),CS (q0.Name),CL .bG q0.av,CI (q0.N),CS (q0.aR)]] [DV.box [CL .byte y.2.2.2.1.1,CI y.2.2.2.1.2.1,CI y.2.2.2.1.2.2.1]] [bU q2])
 dsimp only
 have hk:=iV bo pH
 have lm:=LO bo
 have hle:=OR c
 have fin:iZ c fv ((0:Int),((0:Int),aj,[],(0:Int),aj,()),(iY c,ir c,[],(0:Int),aj,()),((Fq c).b,(Fq c).i,(Fq c).h,()),()):=⟨by omega,hle.1,rfl,rfl,rfl,rfl,lm,by simp,by simp only[Int.sub_zero];rfl,by simp only[Int.sub_zero];rfl⟩
 have h2:∀{b:Bool},(ByteArray.toList (ir c)==ByteArray.toList Fm)=b->xg c=if b=true then 2 else 1:=fun{b} h=>by
  rw[aM] at h
  unfold xg
  cases b with
  |true=>rw[if_pos (yT h)];rfl
  |false=>rw[if_neg (yF h)];rfl
 have rest:¬iY c=2->¬(iY c=5\/iY c=6)->xh fv c=⟨iY c,ir c,mY c,uZ c,ua c⟩/\p6 fv c=u4 c:=fun n2 n56=>⟨(if_neg n2).trans (if_neg n56),(if_neg n2).trans (if_neg n56)⟩
 refine⟨bo.1,bo.2,by simp,bi (fun n2=>⟨hk.1,hk.2,by trivial,?_⟩) (fun n2=>bi (fun n5=>bi (fun n5'=>⟨by trivial,?_⟩) (fun n5'=>absurd n5 n5')) (fun n5=>bi (fun n6=>⟨by trivial,?_⟩) (fun n6=>⟨hk,by simp,ae (fun h=> ?_) (fun h=> ?_)⟩)))⟩
 ·exact sf (a:=⟨iY c,aj,[],af (kE c pH) fv,aj⟩) (d:=aa (kE c pH) fv) (if_pos n2).symm (if_pos n2).symm
 ·exact sf (a:=⟨iY c,aj,[],0,aj⟩) (d:=kE c pH) ((if_neg n2).trans (if_pos (.inl n5))).symm ((if_neg n2).trans (if_pos (.inl n5))).symm
 ·exact sf (a:=⟨iY c,aj,[],0,aj⟩) (d:=kE c pH) ((if_neg n2).trans (if_pos (.inr n6))).symm ((if_neg n2).trans (if_pos (.inr n6))).symm
 all_goals
  have hN:=h2 h
  simp only[if_true,xt,if_false] at hN
  clear h
  have n56:¬(iY c=5\/iY c=6):=fun e=>e.elim n5 n6
  obtain⟨hA,hC⟩:=rest n2 n56
  rw[hA,hC]
  refine⟨fin,?_⟩
  rintro⟨i,⟨r1,r2,r3,r4,r5,⟨⟩⟩,⟨p1,p2,p3,p4,p5,⟨⟩⟩,⟨cb,ci,ch,⟨⟩⟩,⟨⟩⟩ ⟨g1,g2,g3,g4,g5,g6,g7,g8,g9,V8⟩
  simp only at g1 g2 g3 g4 g5 g6 g7 g8 g9 V8⊢
  subst g3 g4 g5 g6
  refine aQ ?_ ?_<;>intro hc
  ·have e:(xg c-i).toNat=(xg c-(i+1)).toNat+1:=by omega
   rw[e] at g9 V8
   rw[wi]
   exact⟨g7,by simp only[fY,fG];omega,⟨by omega,by omega,rfl,rfl,rfl,rfl,LJ g7,by simp only[kI,fY,fG];omega,g9,V8⟩,by simp only[lT];omega⟩
  ·have e:(xg c-i).toNat=0:=by omega
   rw[e] at g9 V8
   have g9:p3=mY c:=g9
   have V8:(⟨cb,ci,ch⟩:ag)=k9 c:=V8
   have e1:cb=(k9 c).b:=congrArg ag.b V8
   have e2:ci=(k9 c).i:=congrArg ag.i V8
   have e3:ch=(k9 c).h:=congrArg ag.h V8
   subst g9 e1 e2 e3
   have k3:=Ff bo
   refine bi (fun h4=>⟨k3.1,k3.2,by simp,bi (fun h3=>absurd (h4.symm.trans h3) (by decide)) (fun h3=>⟨by trivial,?_⟩)⟩) (fun h4=>bi (fun h3=>⟨k3,ae (fun ho=>⟨ao k3 _,by simp,by trivial,?_⟩) (fun ho=>⟨by trivial,?_⟩)⟩) (fun h3=>⟨by trivial,?_⟩))
   ·have eT:uZ c=g_ (k9 c) wX:=if_pos h4
    have eU:ua c=aj:=if_neg (fun e=>h3 e.1)
    have e5:u4 c=kE (k9 c) wX:=(if_neg h3).trans (if_pos h4)
    exact sf (a':=⟨iY c,ir c,mY c,uZ c,ua c⟩) (d':=u4 c) (a:=⟨iY c,ir c,mY c,g_ (k9 c) wX,aj⟩) (d:=kE (k9 c) wX) (by rw[eT,eU]) e5.symm
   ·have eT:uZ c=0:=if_neg h4
    have e4:oq c=k9 c:=if_neg h4
    have ho:ca (oq c) 2=true:=by rw[e4];exact ho
    have eU:ua c=cB (aa (oq c) 2) qu:=if_pos ⟨h3,ho⟩
    have e5:u4 c=b_ (aa (oq c) 2) qu:=(if_pos h3).trans (if_pos ho)
    exact sf (a':=⟨iY c,ir c,mY c,uZ c,ua c⟩) (d':=u4 c) (a:=⟨iY c,ir c,mY c,0,cB (aa (k9 c) 2) qu⟩) (d:=b_ (aa (k9 c) 2) qu) (by rw[eT,eU,e4]) (by rw[e5,e4])
   ·have eT:uZ c=0:=if_neg h4
    have e4:oq c=k9 c:=if_neg h4
    have ho:¬ca (oq c) 2=true:=by rw[e4,show ca (k9 c) 2=false from ho];decide
    have eU:ua c=aj:=if_neg (fun e=>ho e.2)
    have e5:u4 c=aa (oq c) 2:=(if_pos h3).trans (if_neg ho)
    exact sf (a':=⟨iY c,ir c,mY c,uZ c,ua c⟩) (d':=u4 c) (a:=⟨iY c,ir c,mY c,0,aj⟩) (d:=aa (k9 c) 2) (by rw[eT,eU]) (by rw[e5,e4])
   ·have eT:uZ c=0:=if_neg h4
    have eU:ua c=aj:=if_neg (fun e=>h3 e.1)
    have e5:u4 c=k9 c:=(if_neg h3).trans (if_neg h4)
    exact sf (a':=⟨iY c,ir c,mY c,uZ c,ua c⟩) (d':=u4 c) (a:=⟨iY c,ir c,mY c,0,aj⟩) (d:=k9 c) (by rw[eT,eU]) e5.symm
def afW:=cj (α:=cN×(List BA)) (qC (qA .gH) (q1 (qL .str))) [.ro,.ro] (fun _=>[]) (fun(a,vars)=>⟨[dA .gH (rm vars a)],[],[]⟩)
def ahx:HH:=hF afW func175 [TT,TR,TQ] a0 fun x hp hb=>by
 obtain⟨a,vars⟩:=x
 have aS:=tf (x:=a) (hb _ m0)
 have rj:=aS.1
 have rM:=aS.2
 have H8:L9 vars.length:=iv (hb _ m1)
 clear hp hb
 apply vE (let q0:=rm vars a;bif e6 vars a then Lf [DV.agg [CI a.K,CS a.S,CI a.V.K,CI a.V.N,CS a.V.S]] [DV.agg [CI (q0.K),CS (q0.S),CI (q0.V.K),CI (q0.V.N),CS (q0.V.S)]] else bif (vars.length:Int)==0 then Lf [DV.agg [CI 2,CS aj,CI 1,CI 1,CS ({data:= #[]:BA})]] [DV.agg [CI (q0.K),CS (q0.S),CI (q0.V.K),CI (q0.V.N),CS (q0.V.S)]] else(0:Int)<=(0:Int)/\Int.toNat 0<vars.length/\Lf [DV.agg [CI 1,CS (vars.getD (Int.toNat 0) aj),CI ee.K,CI ee.N,CS ee.S]] [DV.agg [CI (q0.K),CS (q0.S),CI (q0.V.K),CI (q0.V.N),CS (q0.V.S)]])
 dsimp only
 refine ae ?_ ?_<;>intro h
 ·have e:rm vars a=a:=if_pos h
  rw[e];exact bf _
 have h:¬e6 vars a=true:=by rw[h];decide
 refine bi (fun g=> ?_) (fun g=>⟨by omega,?_,?_⟩)
 ·have e:rm vars a=⟨2,aj,⟨1,1,aj⟩⟩:=(if_neg h).trans (if_pos (by omega))
  rw[e];exact bf _
 ·show 0<vars.length
  omega
 ·have e:rm vars a=⟨1,vars.getD 0 aj,ee⟩:=(if_neg h).trans (if_neg (by omega))
  rw[e];exact bf _
def cp(s:aF)(f:aJ):aF:=if 0<iS s.ab f then s else⟨s.ab++[⟨s.Next,f⟩],s.Next+1⟩
def l6(s:aF)(f:aJ):Int:=if 0<iS s.ab f then iS s.ab f else s.Next
def xS(id:Int)(x:bL):Bool:= !decide (x.Id=id)
def pQ(s:aF)(id:Int):aF:=⟨s.ab.filter (xS id),s.Next⟩
def ld:Nat->aF->ag->aF
 |0,s,_=>s
 |k+1,s,c=>if ca c 5=true/\0<s.ab.length then ld k (pQ s (s.ab.getD (af (aa c 5) s.ab.length).toNat aX).Id) (aa (aa c 5) s.ab.length) else ld k (cp s (dc (aa c 5))) (de (aa c 5))
def sz:Nat->aF->ag->ag
 |0,_,c=>c
 |k+1,s,c=>if ca c 5=true/\0<s.ab.length then sz k (pQ s (s.ab.getD (af (aa c 5) s.ab.length).toNat aX).Id) (aa (aa c 5) s.ab.length) else sz k (cp s (dc (aa c 5))) (de (aa c 5))
def di(c:ag):aF:=ld (af c 9).toNat ⟨[],1⟩ (aa c 9)
def kJ(c:ag):ag:=sz (af c 9).toNat ⟨[],1⟩ (aa c 9)
theorem Ly(s:aF)(id:Int):(pQ s id).ab.length<=s.ab.length:=Mq _ _
theorem uU(s:aF)(f:aJ):(cp s f).ab.length<=s.ab.length+1/\s.Next<=(cp s f).Next/\(cp s f).Next<=s.Next+1:=by
 unfold cp;split
 ·omega
 ·simp only[kI,fY,fG];omega
theorem wM:∀(k:Nat)(s:aF)(c:ag),(ld k s c).ab.length<=s.ab.length+k
 |0,s,c=>by simp[ld]
 |k+1,s,c=>by
  unfold ld;split
  ·have:=wM k (pQ s (s.ab.getD (af (aa c 5) s.ab.length).toNat aX).Id) (aa (aa c 5) s.ab.length)
   have:=Ly s (s.ab.getD (af (aa c 5) s.ab.length).toNat aX).Id
   omega
  ·have:=wM k (cp s (dc (aa c 5))) (de (aa c 5))
   have:=(uU s (dc (aa c 5))).1
   omega
theorem DT(c:ag):(di c).ab.length<=8:=by
 have:=wM (af c 9).toNat ⟨[],1⟩ (aa c 9)
 have:=bx (c:=c) (n:=9) (by omega)
 simp only[fG] at*
 unfold di;omega
theorem xc:∀{k:Nat}{s:aF}{c:ag},bh c->bh (sz k s c)
 |0,_,_,h=>h
 |k+1,s,c,h=>by
  unfold sz;split
  ·exact xc (k:=k) (ao (ao h _) _)
  ·exact xc (k:=k) (lN (ao h _))
theorem E9{c:ag}(h:bh c):bh (kJ c):=xc (ao h _)
theorem HX{α:Type}(g:α->α)(e:α)(B:List α):∀A:List α,(A++e::B).modify A.length g=A++g e::B
 |[]=>rfl
 |a::A=>by
  show(a::(A++e::B)).modify (A.length+1) g=a::(A++g e::B)
  rw[List.modify_succ_cons,HX g e B A]
def jK(vars:List BA)(xs:List cn)(k:Nat):List cn:=(xs.take k).map (pM vars)++xs.drop k
theorem Af(vars:List BA)(xs:List cn){k:Nat}(h:k<=xs.length):(jK vars xs k).length=xs.length:=by
 simp only[jK,kI,xp,oz,Me];omega
theorem GZ{vars:List BA}{xs:List cn}{k:Nat}(h:k<xs.length):jK vars xs k=(xs.take k).map (pM vars)++xs.getD k ff::xs.drop (k+1):=by
 have hd:xs.drop k=xs.getD k ff::xs.drop (k+1):=by
  rw[Uj h,eX,fH h];rfl
 rw[jK,hd]
theorem GY{vars:List BA}{xs:List cn}{k:Nat}(h:k<xs.length)(g:cn->cn):(jK vars xs k).modify k g=(xs.take k).map (pM vars)++g (xs.getD k ff)::xs.drop (k+1):=by
 have hk:((xs.take k).map (pM vars)).length=k:=by rw[xp,oz];omega
 rw[GZ h]
 have:=HX g (xs.getD k ff) (xs.drop (k+1)) ((xs.take k).map (pM vars))
 rwa[hk] at this
theorem Nq{vars:List BA}{xs:List cn}{k:Nat}(h:k<xs.length)(g g':cn->cn):((jK vars xs k).modify k g).modify k g'=(xs.take k).map (pM vars)++g' (g (xs.getD k ff))::xs.drop (k+1):=by
 have hk:((xs.take k).map (pM vars)).length=k:=by rw[xp,oz];omega
 rw[GY h]
 have:=HX g' (g (xs.getD k ff)) (xs.drop (k+1)) ((xs.take k).map (pM vars))
 rwa[hk] at this
theorem EU{vars:List BA}{xs:List cn}{k:Nat}(h:k<xs.length):(xs.take k).map (pM vars)++pM vars (xs.getD k ff)::xs.drop (k+1)=jK vars xs (k+1):=by
 rw[jK,xD ff h,Mp];simp
theorem Ag{vars:List BA}{xs:List cn}{k:Nat}(h:k<xs.length):(jK vars xs k).getD k ff=xs.getD k ff:=by
 have hk:((xs.take k).map (pM vars)).length=k:=by rw[xp,oz];omega
 rw[GZ h,eX,zu (by omega),hk,YV];rfl
theorem w9{vars:List BA}{xs:List cn}{k:Nat}(h:k<xs.length)(g:cn->cn):((jK vars xs k).modify k g).getD k ff=g (xs.getD k ff):=by
 rw[mod_self _ (by rw[Af _ _ (by omega)];exact h),Ag h]
theorem Rg(c:ag):(∀p,p∈eu c->p.av.length<=2)/\(eu c).length<=4:=by
 have h1:∀(b:Bool)(d:ag),(pd b d).av.length<=2:=fun b d=>by
  have:=HN d
  show(mA _ _ _ _ _).length<=2
  rw[mz];simp only[fG];omega
 have h2:=nD (f:=pd false) (g:=jJ) (fun p=>p.av.length<=2) (h1 false) (Rh c).toNat [] (HC c) (fun x hx=>by cases hx)
 have h3:=mz (pd false) jJ (Rh c).toNat [] (HC c)
 have h4:=MC c
 unfold eu
 split
 ·refine⟨fun p hp=> ?_,?_⟩
  ·rcases jO.1 hp with hp|hp
   ·exact h2 p hp
   ·rw[mF] at hp;subst hp;exact h1 true _
  ·simp only[lh,kI,fY,fG] at h3⊢;omega
 ·exact⟨h2,by simp only[lh,fG] at h3⊢;omega⟩
theorem wx:∀{ps:List cr},(∀p,p∈ps->p.av.length<=2)->d_ ps<=2*ps.length
 |[],_=>tR _
 |p::ps,h=>by
  have h1:=h p (by simp)
  have h2:=wx (ps:=ps) (fun q hq=>h q (by simp[hq]))
  simp only[d_,wb,Mr,fY] at h2⊢;omega
theorem Uf{a a':aY}{d d':ag}(h1:a=a')(h2:d=d'):dZ [DV.agg [.lit (.string a.Name),CI a.jq,.sl .dE a.aD,.sl .bT a.aO,.sl .dG a.bH]]=dZ [DV.agg [.lit (.string a'.Name),CI a'.jq,.sl .dE a'.aD,.sl .bT a'.aO,.sl .dG a'.bH]]/\dZ [DV.box [.sl .byte d.b,CI d.i,CI d.h]]=dZ [DV.box [.sl .byte d'.b,CI d'.i,CI d'.h]]:=by
 subst h1 h2;exact⟨rfl,rfl⟩
theorem LdD{a a':bp}{d d':ag}(h1:a=a')(h2:d=d'):dZ [DV.agg [.lit (.string a.Name),.sl .bz a.aw]]=dZ [DV.agg [.lit (.string a'.Name),.sl .bz a'.aw]]/\dZ [DV.box [.sl .byte d.b,CI d.i,CI d.h]]=dZ [DV.box [.sl .byte d'.b,CI d'.i,CI d'.h]]:=by
 subst h1 h2;exact⟨rfl,rfl⟩
theorem LdS{a a':aF}{d d':ag}(h1:a=a')(h2:d=d'):dZ [DV.agg [.sl .aH a.ab,CI a.Next]]=dZ [DV.agg [.sl .aH a'.ab,CI a'.Next]]/\dZ [DV.box [.sl .byte d.b,CI d.i,CI d.h]]=dZ [DV.box [.sl .byte d'.b,CI d'.i,CI d'.h]]:=by
 subst h1 h2;exact⟨rfl,rfl⟩
def TK:=cj (α:=aF×Int) (qC (qX .c_) (q1 qI)) [.box true,.ro] (fun(s,id)=>[s.ab.length<=1000]) (fun(s,id)=>⟨[dO (decide ((pQ s id).ab.length<s.ab.length))],[],[dX .c_ (pQ s id)]⟩)
def vd(s:aF)(id:Int):List bL×Int×((List bL×(Nat->Bool))×Int×Unit)×Unit->Prop:=fun(o,i,p,_)=>p.1.1=s.ab/\p.2.1=s.Next/\0<=i/\i<=s.ab.length/\(∀j:Nat,i<=(j:Int)->p.1.2 j=false)/\o=(s.ab.take i.toNat).filter (xS id)
def p7(s:aF)(id:Int):List bL×Int×((List bL×(Nat->Bool))×Int×Unit)×Unit->Nat:=fun(o,i,p,_)=>s.ab.length-i.toNat
def abx:AX TK:=fun(s,id)=>bW [(3,aU [iO 5 .aH,iI 6,.box 0 (2000000,0) [.part .aH,.lit (.int .i64)]] (fun _=>vd s id) (p7 s id))]
def abv:HH:=hF TK func141 [] abx fun x hp hb=>by
 obtain⟨s,id⟩:=x
 have eQ:=nJ (x:=s) (hb _ m0)
 have Oi:=tg (n:=id) (hb _ m1)
 have bo:s.ab.length<=1000:=hp _ m0
 clear hp hb
 apply vE (vd s id ([],0,((s.ab,fun(x:Nat)=>false),s.Next,()),())/\∀(y:List bL×Int×((List bL×(Nat->Bool))×Int×PUnit)×PUnit),let x1:=y.2.1.toNat;let x3:=y.2.2.1.1.1.getD x1 aX;let x4:=y.2.2.1.1.1.length;let x5:=wrap i64 (y.2.1+1);let x0:=(↑x4:Int);let x2:=[x3];let q0:=(y.1,x5,((y.2.2.1.1.1,y.2.2.1.1.2),y.2.2.1.2.1,()),());vd s id y->bif decide (y.2.1<x0) then 0<=y.2.1/\x1<x4/\x1<x4/\y.2.2.1.1.2 x1=false/\bif x3.Id !=id then 0<=y.2.1/\x1<x4/\x1<x4/\y.2.2.1.1.2 x1=false/\L4 (y.1.length+x2.length)/\vd s id (y.1++x2,x5,((y.2.2.1.1.1,fun(j:Nat)=>Nat.beq j x1||y.2.2.1.1.2 j),y.2.2.1.2.1,()),())/\p7 s id (y.1++x2,x5,((y.2.2.1.1.1,fun(j:Nat)=>Nat.beq j x1||y.2.2.1.1.2 j),y.2.2.1.2.1,()),())<p7 s id y else vd s id q0/\p7 s id q0<p7 s id y else LM [VB (decide ((y.1.length:Int)<x0))] [VB (decide ((pQ s id).ab.length<s.ab.length))] [DV.box [CL .aH y.1,CI y.2.2.1.2.1]] [DV.box [CL .aH (pQ s id).ab,CI ((pQ s id).Next)]])
 dsimp only
 refine⟨⟨rfl,rfl,by omega,by omega,fun _ _=>rfl,by simp⟩,?_⟩
 rintro⟨o,i,⟨⟨xs,dd⟩,nx,⟨⟩⟩,⟨⟩⟩ ⟨hx,hn,h1,h2,hd,ho⟩
 simp only at hx hn h1 h2 hd ho⊢
 subst hx hn ho
 refine aQ ?_ ?_<;>intro hc
 ·have hs:=mn (xS id) (l:=s.ab) (i:=i.toNat) aX (by omega)
  have e:(i+1).toNat=i.toNat+1:=by omega
  have Xe:=hd i.toNat (by omega)
  have hle:((s.ab.take i.toNat).filter (xS id)).length<=(s.ab.take i.toNat).length:=Mq _ _
  rw[oz] at hle
  rw[wi]
  refine⟨h1,by omega,by omega,Xe,mh (fun g=>⟨h1,by omega,by omega,Xe,by simp only[fY,fG];omega,⟨rfl,rfl,by omega,by omega,Am h1 hd,?_⟩,by simp only[p7];omega⟩) (fun g=>⟨⟨rfl,rfl,by omega,by omega,fun j hj=>hd j (by omega),?_⟩,by simp only[p7];omega⟩)⟩
  ·rw[e,hs,if_pos (show xS id (s.ab.getD i.toNat aX)=true by rw[xS,decide_eq_false g];rfl)]
  ·rw[e,hs,if_neg (show¬xS id (s.ab.getD i.toNat aX)=true by rw[xS,decide_eq_true g];decide),xr]
 ·rw[cM s.ab (by omega)]
  have e:decide (((s.ab.filter (xS id)).length:Int)<(s.ab.length:Int))=decide ((pQ s id).ab.length<s.ab.length):=by rw[decide_eq_decide];simp only[pQ];omega
  rw[e];exact⟨by trivial,rfl,rfl⟩
def anc:=cj (α:=aF×aJ) (qC (qX .c_) (q1 (qA .dk))) [.box true,.ro] (fun(s,f)=>[0<=s.Next/\s.Next<=1000/\s.ab.length<=30,L4 f.ah.length]) (fun(s,f)=>⟨[dI (l6 s f)],[],[dX .c_ (cp s f)]⟩)
def an0:HH:=hF anc func73 [OY,sd] a0 fun x hp hb=>by
 obtain⟨s,f⟩:=x
 have eQ:=nJ (x:=s) (hb _ m0)
 have dw:=eh (x:=f) (hb _ m1)
 have dW:=dw.1
 have cF:=dw.2
 have bo:0<=s.Next/\s.Next<=1000/\s.ab.length<=30:=hp _ m0
 have fw:f.ah.length<=4294967296:=hp _ m1
 clear hp hb
 apply vE (let q0:=LM [VI 0] [VI (l6 s f)] [DV.box [CL .aH s.ab,CI s.Next]] [DV.box [CL .aH (cp s f).ab,CI ((cp s f).Next)]];bif decide (iS s.ab f>0) then LM [VI (iS s.ab f)] [VI (l6 s f)] [DV.box [CL .aH s.ab,CI s.Next]] [DV.box [CL .aH (cp s f).ab,CI ((cp s f).Next)]] else bif decide ((s.ab.length:Int)≥40) then q0 else bif decide (s.Next≥1000000) then q0 else L4 f.ah.length/\s.ab.length+List.length [{Id:=s.Next,F:=f:bL}]<=4294967296/\LM [VI (wrap i64 (wrap i64 (s.Next+1)-1))] [VI (l6 s f)] [DV.box [CL .aH (s.ab++[{Id:=s.Next,F:=f:bL}]),CI (wrap i64 (s.Next+1))]] [DV.box [CL .aH (cp s f).ab,CI ((cp s f).Next)]])
 dsimp only
 obtain⟨s1,s2,s3⟩:=bo
 refine aQ (fun h=>⟨by trivial,?_⟩) (fun h=>aQ (fun h2=>absurd h2 (by omega)) (fun h2=>aQ (fun h3=>absurd h3 (by omega)) (fun h3=> ?_)))
 ·have e1:cp s f=s:=if_pos h
  have e2:l6 s f=iS s.ab f:=if_pos h
  rw[e1,e2];exact⟨rfl,rfl⟩
 ·have e1:cp s f=⟨s.ab++[⟨s.Next,f⟩],s.Next+1⟩:=if_neg h
  have e2:l6 s f=s.Next:=if_neg h
  rw[e1,e2,wi (n:=s.Next+1),wi,show s.Next+1-1=s.Next by omega]
  exact⟨fw,by simp only[fY,fG];omega,by trivial,rfl,rfl⟩
def aeH:=cj (α:=ag) (q1 qU) [.box false] (fun c=>[bh c]) (fun c=>⟨[dA .c_ (di c)],[],[dU (kJ c)]⟩)
def Fw(c:ag):Int×T3×T3×T4×Unit->Prop:=fun(i,q,s,cu,_)=>0<=i/\i<=8/\s.1.length+i<=8/\0<=s.2.1/\s.2.1+i<=9/\bh ⟨cu.1,cu.2.1,cu.2.2.1⟩/\ld i.toNat ⟨s.1,s.2.1⟩ ⟨cu.1,cu.2.1,cu.2.2.1⟩=di c/\sz i.toNat ⟨s.1,s.2.1⟩ ⟨cu.1,cu.2.1,cu.2.2.1⟩=kJ c
def u6(c:ag):Int×T3×T3×T4×Unit->Nat:=fun(i,q,s,cu,_)=>i.toNat
def aoA:AX aeH:=fun c=>bW [(3,aU [iI 4,.box 2 (2,1024) [.own .aH true,.lit (.int .i64)],.box 3 (3,1024) [.own .aH true,.lit (.int .i64)],.box 0 (2000000,0) [.shr .byte,.lit (.int .i64),.lit (.int .i64)]] (fun _=>Fw c) (u6 c))]
def anL:HH:=hF aeH func94 [nb,AE,abv,an0,TO] aoA fun(c:ag) hp hb=>by
 have ey:=tQ (x:=c) (hb _ m0)
 have bo:bh c:=hp _ m0
 clear hp hb
 apply vE (0<=c.i/\L4 c.b.length/\Fw c (af c 9,([],0,()),([],1,()),((aa c 9).b,(aa c 9).i,(aa c 9).h,()),())/\∀(y:Int×NJ×NJ×O3×PUnit),let x1:={b:=y.2.2.2.1.1,i:=y.2.2.2.1.2.1,h:=y.2.2.2.1.2.2.1:ag};let x4:=y.2.2.1.1.length;let x6:={ab:=y.2.2.1.1,Next:=y.2.2.1.2.1:aF};let x0:=aa x1 5;let x3:=(↑x4:Int);let x5:=cp x6 (dc x0);let x2:=pQ x6 (y.2.2.1.1.getD (Int.toNat (af x0 x3)) aX).Id;let q0:=bh x0/\(0<=y.2.2.1.2.1/\y.2.2.1.2.1<=1000/\x4<=30)/\(dc x0).ah.length<=4294967296/\Fw c (wrap i64 (y.1-1),(y.2.1.1,y.2.1.2.1,()),(x5.ab,x5.Next,()),((de x0).b,(de x0).i,(de x0).h,()),())/\u6 c (wrap i64 (y.1-1),(y.2.1.1,y.2.1.2.1,()),(x5.ab,x5.Next,()),((de x0).b,(de x0).i,(de x0).h,()),())<u6 c y;let q1:=(wrap i64 (y.1-1),(y.2.1.1,y.2.1.2.1,()),(x2.ab,x2.Next,()),((aa x0 x3).b,(aa x0 x3).i,(aa x0 x3).h,()),());Fw c y->bif decide (y.1>0) then bh x1/\bif ca x1 5 then bif decide (x3>0) then 0<=x0.i/\L4 x0.b.length/\0<=af x0 x3/\Int.toNat (af x0 x3)<x4/\Int.toNat (af x0 x3)<x4/\x4<=1000/\Fw c q1/\u6 c q1<u6 c y else q0 else q0 else LM [DV.agg [CL .aH y.2.2.1.1,CI y.2.2.1.2.1]] [DV.agg [CL .aH (di c).ab,CI ((di c).Next)]] [DV.box [CL .byte y.2.2.2.1.1,CI y.2.2.2.1.2.1,CI y.2.2.2.1.2.2.1]] [bU (kJ c)])
 dsimp only
 have hb:=bx (c:=c) (n:=9) (by omega)
 refine⟨bo.1,bo.2,⟨by omega,by omega,by simp only[fG];omega,by show(0:Int)<=1;omega,by show(1:Int)+af c 9<=9;omega,ao bo 9,rfl,rfl⟩,?_⟩
 rintro⟨i,⟨q1,q2,⟨⟩⟩,⟨s1,s2,⟨⟩⟩,⟨cb,ci,ch,⟨⟩⟩,⟨⟩⟩ ⟨g1,g2,g3,g4,g5,g6,g7,g8⟩
 simp only at g1 g2 g3 g4 g5 g6 g7 g8⊢
 refine aQ ?_ ?_<;>intro hc
 ·have e:i.toNat=(i-1).toNat+1:=by omega
  rw[e] at g7 g8
  simp only[ld,sz] at g7 g8
  have hB:=ao g6 5
  have hF:=Ai (aa ⟨cb,ci,ch⟩ 5)
  have hF2:=ym (aa ⟨cb,ci,ch⟩ 5)
  have hA:=uU ⟨s1,s2⟩ (dc (aa ⟨cb,ci,ch⟩ 5))
  simp only at hA
  rw[wi]
  refine⟨g6,ae (fun a=>aQ (fun b=> ?_) (fun b=> ?_)) (fun a=> ?_)⟩
  ·rw[if_pos ⟨a,by omega⟩] at g7 g8
   have hk:=bx (c:=aa ⟨cb,ci,ch⟩ 5) (n:=(s1.length:Int)) (by omega)
   have hD:=Ly ⟨s1,s2⟩ (s1.getD (af (aa ⟨cb,ci,ch⟩ 5) s1.length).toNat aX).Id
   simp only at hD
   exact⟨hB.1,hB.2,hk.1,by omega,by omega,by omega,⟨by omega,by omega,by simp only;omega,g4,by simp only[pQ];omega,ao hB _,g7,g8⟩,by simp only[u6];omega⟩
  ·rw[if_neg (fun e=>b (by omega))] at g7 g8
   exact⟨hB,⟨g4,by omega,by omega⟩,by omega,⟨by omega,by omega,by simp only;omega,by simp only;omega,by simp only;omega,lN hB,g7,g8⟩,by simp only[u6];omega⟩
  ·rw[if_neg (fun e=>absurd e.1 (by rw[a];decide))] at g7 g8
   exact⟨hB,⟨g4,by omega,by omega⟩,by omega,⟨by omega,by omega,by simp only;omega,by simp only;omega,by simp only;omega,lN hB,g7,g8⟩,by simp only[u6];omega⟩
 ·have e:i.toNat=0:=by omega
  rw[e] at g7 g8
  exact⟨by trivial,LdS (a:=⟨s1,s2⟩) (d:=⟨cb,ci,ch⟩) g7 g8⟩
def va:=cj (α:=ag×BA) (qC qU (q1 qS)) [.box false,.ro] (fun(c,name)=>[bh c]) (fun(c,name)=>⟨[dA .bz (my name c)],[],[dU (nA c)]⟩)
def zk(c:ag)(name:BA):Int×T1×T1×T4×Unit->Prop:=fun(i,q,r,cu,_)=>r=(name,g_ c lE,r.2.2.1,[],[],())/\0<=i/\i<=3/\r.2.2.1.length+i<=3/\bh ⟨cu.1,cu.2.1,cu.2.2.1⟩/\mA (pd false) jJ i.toNat r.2.2.1 ⟨cu.1,cu.2.1,cu.2.2.1⟩=lh c/\pG jJ i.toNat ⟨cu.1,cu.2.1,cu.2.2.1⟩=FX c
def Cz(c:ag)(name:BA):Int×T1×T1×T4×Unit->Nat:=fun(i,q,r,cu,_)=>i.toNat
def sa(c:ag)(name:BA):Int×List BA×T1×T1×T4×Unit->Prop:=fun(i,vs,q,r,cu,_)=>vs=dt c/\r=(name,g_ c lE,eu c,fX c,r.2.2.2.2.1,())/\0<=i/\i<=3/\r.2.2.2.2.1.length+i<=3/\bh ⟨cu.1,cu.2.1,cu.2.2.1⟩/\mA (GA c) (rf c) i.toNat r.2.2.2.2.1 ⟨cu.1,cu.2.1,cu.2.2.1⟩=re c/\pG (rf c) i.toNat ⟨cu.1,cu.2.1,cu.2.2.1⟩=nA c
def rZ(c:ag)(name:BA):Int×List BA×T1×T1×T4×Unit->Nat:=fun(i,vs,q,r,cu,_)=>i.toNat
def r_(c:ag)(name:BA):Int×Int×List BA×T6×T1×T1×T4×Unit->Int×Int×List BA×T6×T1×T1×T4×Unit->Prop:=fun(i0,k0,vs0,a0,q0,r0,cu0,_) (i,k,vs,a,q,r,cu,_)=>i=i0/\vs=vs0/\a=(a0.1,a0.2.1,a.2.2.1,a0.2.2.2.1,a0.2.2.2.2.1,())/\r=r0/\cu=cu0/\0<=k/\k<=a0.2.2.1.length/\a.2.2.1=jK (dt c) a0.2.2.1 k.toNat
def ot(c:ag)(name:BA):Int×Int×List BA×T6×T1×T1×T4×Unit->Nat:=fun(i,k,vs,a,q,r,cu,_)=>a.2.2.1.length-k.toNat
def O1:AX va:=fun(c,name)=>bW [(3,aU [iI 6,.box 4 (4,1024) [.lit .str,.lit (.int .i64),.own .dE true,.own .bT true,.own .dG true],.box 5 (5,1024) [.lit .str,.lit (.int .i64),.own .dE true,.own .bT true,.own .dG true],.box 0 (2000000,0) [.shr .byte,.lit (.int .i64),.lit (.int .i64)]] (fun _=>zk c name) (Cz c name)),(15,aU [iI 9,iO 7 .str,.box 4 (4,1024) [.lit .str,.lit (.int .i64),.own .dE true,.own .bT true,.own .dG true],.box 5 (5,1024) [.lit .str,.lit (.int .i64),.own .dE true,.own .bT true,.own .dG true],.box 0 (2000000,0) [.shr .byte,.lit (.int .i64),.lit (.int .i64)]] (fun _=>sa c name) (rZ c name)),(19,aU [iI 9,iI 11,iO 7 .str,.box 10 (10,1024) [.lit (.int .i64),.lit .str,.own .bG true,.lit (.int .i64),.lit .str],.box 4 (4,1024) [.lit .str,.lit (.int .i64),.own .dE true,.own .bT true,.own .dG true],.box 5 (5,1024) [.lit .str,.lit (.int .i64),.own .dE true,.own .bT true,.own .dG true],.box 0 (2000000,0) [.shr .byte,.lit (.int .i64),.lit (.int .i64)]] (r_ c name) (ot c name))]
def OU:=us [FG,nb,Yw,AE,YB,abu,ahx,Mb,Yv]
def e8(c:ag)(name:BA):List BA×T1×T1×T4×Unit->Prop:=fun(vs,q,r,cu,_)=>vs=dt c/\r=(name,g_ c lE,eu c,fX c,[],())/\bh ⟨cu.1,cu.2.1,cu.2.2.1⟩/\(⟨cu.1,cu.2.1,cu.2.2.1⟩:ag)=zE c
def lZ:va.α->ud UU:=fun(c,name)=>aU [iO 7 .str,.box 4 (4,1024) [.lit .str,.lit (.int .i64),.own .dE true,.own .bT true,.own .dG true],.box 5 (5,1024) [.lit .str,.lit (.int .i64),.own .dE true,.own .bT true,.own .dG true],.box 0 (2000000,0) [.shr .byte,.lit (.int .i64),.lit (.int .i64)]] (fun _=>e8 c name) (fun _=>0)
theorem aes(c:ag)(name:BA)(y:List BA×T1×T1×T4×Unit):mO EE OU f135 va O1 (c,name) 14 (lZ (c,name)) y=(let x1:={b:=y.2.2.2.1.1,i:=y.2.2.2.1.2.1,h:=y.2.2.2.1.2.2.1:ag};
let x0:=aa x1 (3:Int);
(0:Int)<=y.2.2.2.1.2.1/\
 y.2.2.2.1.1.length<=(4294967296:Nat)/\
  sa c name (wrap i64 ((1:Int)+af x1 (3:Int)),y.1,(y.2.1.1,y.2.1.2.1,y.2.1.2.2.1,y.2.1.2.2.2.1,y.2.1.2.2.2.2.1,PUnit.unit),(y.2.2.1.1,y.2.2.1.2.1,y.2.2.1.2.2.1,y.2.2.1.2.2.2.1,y.2.2.1.2.2.2.2.1,PUnit.unit),(x0.b,x0.i,x0.h,PUnit.unit),PUnit.unit)/\
   ∀(y:Int×List BA×YT×YT×O3×PUnit),
    let x4:={b:=y.2.2.2.2.1.1,i:=y.2.2.2.2.1.2.1,h:=y.2.2.2.2.1.2.2.1:ag};
    let x5:=(↑(cR y.2.2.2.1.2.2.1):Int);
    let x2:=xh x5 x4;
    let x3:=p6 x5 x4;
    sa c name y->
     bif decide (y.1>(0:Int)) then
      bh x4/\
       r_ c name (y.1,(0:Int),y.2.1,(x2.Kind,x2.Name,x2.av,x2.N,x2.aR,PUnit.unit),(y.2.2.1.1,y.2.2.1.2.1,y.2.2.1.2.2.1,y.2.2.1.2.2.2.1,y.2.2.1.2.2.2.2.1,PUnit.unit),(y.2.2.2.1.1,y.2.2.2.1.2.1,y.2.2.2.1.2.2.1,y.2.2.2.1.2.2.2.1,y.2.2.2.1.2.2.2.2.1,PUnit.unit),(x3.b,x3.i,x3.h,PUnit.unit),PUnit.unit) (y.1,(0:Int),y.2.1,(x2.Kind,x2.Name,x2.av,x2.N,x2.aR,PUnit.unit),(y.2.2.1.1,y.2.2.1.2.1,y.2.2.1.2.2.1,y.2.2.1.2.2.2.1,y.2.2.1.2.2.2.2.1,PUnit.unit),(y.2.2.2.1.1,y.2.2.2.1.2.1,y.2.2.2.1.2.2.1,y.2.2.2.1.2.2.2.1,y.2.2.2.1.2.2.2.2.1,PUnit.unit),(x3.b,x3.i,x3.h,PUnit.unit),PUnit.unit)/\
        ∀(aL:Int×Int×List BA×(Int×BA×List cn×Int×BA×PUnit)×YT×YT×O3×PUnit),
         let x7:=[{Kind:=aL.2.2.2.1.1,Name:=aL.2.2.2.1.2.1,av:=aL.2.2.2.1.2.2.1,N:=aL.2.2.2.1.2.2.2.1,aR:=aL.2.2.2.1.2.2.2.2.1:eK}];
         let x8:=Int.toNat aL.2.1;
         let oV:=aL.2.2.2.1.2.2.1.length;
         let qb:=wrap i64 (aL.2.1+(1:Int));
         let x6:=aL.2.2.2.1.2.2.1.modify x8 fun(x:cn)=>{Op:=x.Op,L:=rm aL.2.2.1 (aL.2.2.2.1.2.2.1.getD x8 ff).L,R:=x.R:cn};
         let x9:=(↑oV:Int);
         r_ c name (y.1,(0:Int),y.2.1,(x2.Kind,x2.Name,x2.av,x2.N,x2.aR,PUnit.unit),(y.2.2.1.1,y.2.2.1.2.1,y.2.2.1.2.2.1,y.2.2.1.2.2.2.1,y.2.2.1.2.2.2.2.1,PUnit.unit),(y.2.2.2.1.1,y.2.2.2.1.2.1,y.2.2.2.1.2.2.1,y.2.2.2.1.2.2.2.1,y.2.2.2.1.2.2.2.2.1,PUnit.unit),(x3.b,x3.i,x3.h,PUnit.unit),PUnit.unit) aL->bif decide (aL.2.1<x9) then(0:Int)<=aL.2.1/\x8<oV/\x8<oV/\(0:Int)<=aL.2.1/\x8<oV/\x8<oV/\(0:Int)<=aL.2.1/\x8<x6.length/\x8<x6.length/\bif !ByteArray.toList (x6.getD x8 ff).Op==ByteArray.toList {data:= #[]:BA} then(0:Int)<=aL.2.1/\x8<x6.length/\x8<x6.length/\(0:Int)<=aL.2.1/\x8<x6.length/\x8<x6.length/\r_ c name (y.1,(0:Int),y.2.1,(x2.Kind,x2.Name,x2.av,x2.N,x2.aR,PUnit.unit),(y.2.2.1.1,y.2.2.1.2.1,y.2.2.1.2.2.1,y.2.2.1.2.2.2.1,y.2.2.1.2.2.2.2.1,PUnit.unit),(y.2.2.2.1.1,y.2.2.2.1.2.1,y.2.2.2.1.2.2.1,y.2.2.2.1.2.2.2.1,y.2.2.2.1.2.2.2.2.1,PUnit.unit),(x3.b,x3.i,x3.h,PUnit.unit),PUnit.unit) (aL.1,qb,aL.2.2.1,(aL.2.2.2.1.1,aL.2.2.2.1.2.1,x6.modify x8 fun(x:cn)=>{Op:=x.Op,L:=x.L,R:=rm aL.2.2.1 (x6.getD x8 ff).R:cn},aL.2.2.2.1.2.2.2.1,aL.2.2.2.1.2.2.2.2.1,PUnit.unit),(aL.2.2.2.2.1.1,aL.2.2.2.2.1.2.1,aL.2.2.2.2.1.2.2.1,aL.2.2.2.2.1.2.2.2.1,aL.2.2.2.2.1.2.2.2.2.1,PUnit.unit),(aL.2.2.2.2.2.1.1,aL.2.2.2.2.2.1.2.1,aL.2.2.2.2.2.1.2.2.1,aL.2.2.2.2.2.1.2.2.2.1,aL.2.2.2.2.2.1.2.2.2.2.1,PUnit.unit),(aL.2.2.2.2.2.2.1.1,aL.2.2.2.2.2.2.1.2.1,aL.2.2.2.2.2.2.1.2.2.1,PUnit.unit),PUnit.unit)/\ot c name (aL.1,qb,aL.2.2.1,(aL.2.2.2.1.1,aL.2.2.2.1.2.1,x6.modify x8 fun(x:cn)=>{Op:=x.Op,L:=x.L,R:=rm aL.2.2.1 (x6.getD x8 ff).R:cn},aL.2.2.2.1.2.2.2.1,aL.2.2.2.1.2.2.2.2.1,PUnit.unit),(aL.2.2.2.2.1.1,aL.2.2.2.2.1.2.1,aL.2.2.2.2.1.2.2.1,aL.2.2.2.2.1.2.2.2.1,aL.2.2.2.2.1.2.2.2.2.1,PUnit.unit),(aL.2.2.2.2.2.1.1,aL.2.2.2.2.2.1.2.1,aL.2.2.2.2.2.1.2.2.1,aL.2.2.2.2.2.1.2.2.2.1,aL.2.2.2.2.2.1.2.2.2.2.1,PUnit.unit),(aL.2.2.2.2.2.2.1.1,aL.2.2.2.2.2.2.1.2.1,aL.2.2.2.2.2.2.1.2.2.1,PUnit.unit),PUnit.unit)<ot c name aL else r_ c name (y.1,(0:Int),y.2.1,(x2.Kind,x2.Name,x2.av,x2.N,x2.aR,PUnit.unit),(y.2.2.1.1,y.2.2.1.2.1,y.2.2.1.2.2.1,y.2.2.1.2.2.2.1,y.2.2.1.2.2.2.2.1,PUnit.unit),(y.2.2.2.1.1,y.2.2.2.1.2.1,y.2.2.2.1.2.2.1,y.2.2.2.1.2.2.2.1,y.2.2.2.1.2.2.2.2.1,PUnit.unit),(x3.b,x3.i,x3.h,PUnit.unit),PUnit.unit) (aL.1,qb,aL.2.2.1,(aL.2.2.2.1.1,aL.2.2.2.1.2.1,x6,aL.2.2.2.1.2.2.2.1,aL.2.2.2.1.2.2.2.2.1,PUnit.unit),(aL.2.2.2.2.1.1,aL.2.2.2.2.1.2.1,aL.2.2.2.2.1.2.2.1,aL.2.2.2.2.1.2.2.2.1,aL.2.2.2.2.1.2.2.2.2.1,PUnit.unit),(aL.2.2.2.2.2.1.1,aL.2.2.2.2.2.1.2.1,aL.2.2.2.2.2.1.2.2.1,aL.2.2.2.2.2.1.2.2.2.1,aL.2.2.2.2.2.1.2.2.2.2.1,PUnit.unit),(aL.2.2.2.2.2.2.1.1,aL.2.2.2.2.2.2.1.2.1,aL.2.2.2.2.2.2.1.2.2.1,PUnit.unit),PUnit.unit)/\ot c name (aL.1,qb,aL.2.2.1,(aL.2.2.2.1.1,aL.2.2.2.1.2.1,x6,aL.2.2.2.1.2.2.2.1,aL.2.2.2.1.2.2.2.2.1,PUnit.unit),(aL.2.2.2.2.1.1,aL.2.2.2.2.1.2.1,aL.2.2.2.2.1.2.2.1,aL.2.2.2.2.1.2.2.2.1,aL.2.2.2.2.1.2.2.2.2.1,PUnit.unit),(aL.2.2.2.2.2.1.1,aL.2.2.2.2.2.1.2.1,aL.2.2.2.2.2.1.2.2.1,aL.2.2.2.2.2.1.2.2.2.1,aL.2.2.2.2.2.1.2.2.2.2.1,PUnit.unit),(aL.2.2.2.2.2.2.1.1,aL.2.2.2.2.2.2.1.2.1,aL.2.2.2.2.2.2.1.2.2.1,PUnit.unit),PUnit.unit)<ot c name aL else aL.2.2.2.2.2.1.2.2.2.2.1.length+x7.length<=(4294967296:Nat)/\sa c name (wrap i64 (aL.1-(1:Int)),aL.2.2.1,(aL.2.2.2.2.1.1,aL.2.2.2.2.1.2.1,aL.2.2.2.2.1.2.2.1,aL.2.2.2.2.1.2.2.2.1,aL.2.2.2.2.1.2.2.2.2.1,PUnit.unit),(aL.2.2.2.2.2.1.1,aL.2.2.2.2.2.1.2.1,aL.2.2.2.2.2.1.2.2.1,aL.2.2.2.2.2.1.2.2.2.1,aL.2.2.2.2.2.1.2.2.2.2.1++x7,PUnit.unit),(aL.2.2.2.2.2.2.1.1,aL.2.2.2.2.2.2.1.2.1,aL.2.2.2.2.2.2.1.2.2.1,PUnit.unit),PUnit.unit)/\rZ c name (wrap i64 (aL.1-(1:Int)),aL.2.2.1,(aL.2.2.2.2.1.1,aL.2.2.2.2.1.2.1,aL.2.2.2.2.1.2.2.1,aL.2.2.2.2.1.2.2.2.1,aL.2.2.2.2.1.2.2.2.2.1,PUnit.unit),(aL.2.2.2.2.2.1.1,aL.2.2.2.2.2.1.2.1,aL.2.2.2.2.2.1.2.2.1,aL.2.2.2.2.2.1.2.2.2.1,aL.2.2.2.2.2.1.2.2.2.2.1++x7,PUnit.unit),(aL.2.2.2.2.2.2.1.1,aL.2.2.2.2.2.2.1.2.1,aL.2.2.2.2.2.2.1.2.2.1,PUnit.unit),PUnit.unit)<rZ c name y
     else(0:Nat)=(0:Nat)/\dZ [DV.agg [Cell.lit (Value.string y.2.2.2.1.1),Cell.lit (Value.int IntKind.i64 y.2.2.2.1.2.1),Cell.sl Cd.dE y.2.2.2.1.2.2.1,Cell.sl Cd.bT y.2.2.2.1.2.2.2.1,Cell.sl Cd.dG y.2.2.2.1.2.2.2.2.1]]=dZ [DV.agg [Cell.lit (Value.string (my name c).Name),Cell.lit (Value.int IntKind.i64 (my name c).jq),Cell.sl Cd.dE (my name c).aD,Cell.sl Cd.bT (my name c).aO,Cell.sl Cd.dG (my name c).bH]]/\dZ [DV.box [Cell.sl Cd.byte y.2.2.2.2.1.1,Cell.lit (Value.int IntKind.i64 y.2.2.2.2.1.2.1),Cell.lit (Value.int IntKind.i64 y.2.2.2.2.1.2.2.1)]]=dZ [DV.box [Cell.sl Cd.byte (nA c).b,Cell.lit (Value.int IntKind.i64 (nA c).i),Cell.lit (Value.int IntKind.i64 (nA c).h)]]):=by kernel_rfl
theorem DH(c:ag)(name:BA)(y:List BA×T1×T1×T4×Unit)(hp:∀p∈va.pre (c,name),p)(hb:∀d∈va.ds (c,name),gh d)(hy:e8 c name y):mO EE OU f135 va O1 (c,name) 14 (lZ (c,name)) y:=by
 have ey:=tQ (x:=c) (hb _ m0)
 have vx:=Bg (s:=name) (hb _ m1)
 have bo:bh c:=hp _ m0
 clear hp hb
 rw[aes c name y]
 dsimp only
 have hM:=Ri c
 have w2:IntKind.wrap .i64 (1+af (zE c) 3)=QN c:=wi (n:=QN c)
 obtain⟨vs,⟨q1,q2,q3,q4,q5,⟨⟩⟩,⟨r1,r2,r3,r4,r5,⟨⟩⟩,⟨cb,ci,ch,⟨⟩⟩,⟨⟩⟩:=y
 obtain⟨FO,hr,g4,g7⟩:=hy
 simp only[pb,and_true,true_and] at FO hr g4 g7
 obtain⟨m1,m2,m3,m4,m5⟩:=hr
 have m1:=m1.symm
 subst m1 FO m2 m3 m4 m5
 have fin:∀d e:ag,d=zE c->e=Rj c->sa c name (IntKind.wrap .i64 (1+af d 3),dt c,(q1,q2,q3,q4,q5,()),(name,g_ c lE,eu c,fX c,[],()),(e.b,e.i,e.h,()),()):=by
  intro d e hd he
  have w3:IntKind.wrap .i64 (1+af d 3)=QN c:=by rw[hd];exact w2
  rw[w3]
  refine⟨rfl,rfl,by omega,by omega,by simp only[fG];omega,?_,?_,?_⟩
  ·show bh e
   rw[he];exact ao (Iu bo) 3
  ·show mA (GA c) (rf c) (QN c).toNat [] e=re c
   rw[he,re]
  ·show pG (rf c) (QN c).toNat e=nA c
   rw[he,nA]
 refine⟨g4.1,g4.2,fin ⟨cb,ci,ch⟩ (aa ⟨cb,ci,ch⟩ 3) g7 (by rw[g7,Rj]),?_⟩
 clear g7 fin
 clear hM w2 g4
 rintro⟨i,vs,⟨q1,q2,q3,q4,q5,⟨⟩⟩,⟨r1,r2,r3,r4,r5,⟨⟩⟩,⟨cb,ci,ch,⟨⟩⟩,⟨⟩⟩ ⟨FO,hr,g1,g2,g3,g4,g5,g6⟩
 have m1:name=r1:=(congrArg Prod.fst hr).symm
 have m2:r2=g_ c lE:=congrArg (fun t=>t.2.1) hr
 have m3:r3=eu c:=congrArg (fun t=>t.2.2.1) hr
 have m4:r4=fX c:=congrArg (fun t=>t.2.2.2.1) hr
 have FO:vs=dt c:=FO
 clear hr
 subst m1 FO m2 m3 m4
 have g1:0<=i:=g1
 have g2:i<=3:=g2
 have g3:(r5.length:Int)+i<=3:=g3
 have g4:bh ⟨cb,ci,ch⟩:=g4
 have g5:mA (GA c) (rf c) i.toNat r5 ⟨cb,ci,ch⟩=re c:=g5
 have g6:pG (rf c) i.toNat ⟨cb,ci,ch⟩=nA c:=g6
 refine aQ (fun hc=> ?_) (fun hc=>⟨by trivial,?_⟩)
 ·have hc:i>0:=hc
  generalize hp:((cR (eu c):Nat):Int)=pn at*
  have hAl:=QE pn ⟨cb,ci,ch⟩
  have amK:GA c ⟨cb,ci,ch⟩=EV (dt c) (xh pn ⟨cb,ci,ch⟩):=by rw[<-hp];rfl
  have ad2:rf c ⟨cb,ci,ch⟩=p6 pn ⟨cb,ci,ch⟩:=by rw[<-hp];rfl
  have kC:=yK pn g4
  clear hp
  generalize xh pn ⟨cb,ci,ch⟩=a at*
  generalize p6 pn ⟨cb,ci,ch⟩=d at*
  refine⟨g4,⟨rfl,rfl,rfl,rfl,rfl,by omega,by simp only;omega,rfl⟩,?_⟩
  rintro⟨i',k,wc,⟨a1,a2,a3,a4,a5,⟨⟩⟩,⟨q1',q2',q3',q4',q5',⟨⟩⟩,⟨r1',UN,r3',r4',r5',⟨⟩⟩,⟨cb',ci',ch',⟨⟩⟩,⟨⟩⟩ ⟨hi,hv,ha,hr,Ge,k1,k2,hl⟩
  have hi:i=i':=Eq.symm hi
  have hv:wc=dt c:=hv
  have n1:a1=a.Kind:=congrArg Prod.fst ha
  have n2:a2=a.Name:=congrArg (fun t=>t.2.1) ha
  have n3:a4=a.N:=congrArg (fun t=>t.2.2.2.1) ha
  have n4:a5=a.aR:=congrArg (fun t=>t.2.2.2.2.1) ha
  have m1:r1'=name:=congrArg Prod.fst hr
  have m2:UN=g_ c lE:=congrArg (fun t=>t.2.1) hr
  have m3:r3'=eu c:=congrArg (fun t=>t.2.2.1) hr
  have m4:r4'=fX c:=congrArg (fun t=>t.2.2.2.1) hr
  have m5:r5=r5':=(congrArg (fun t=>t.2.2.2.2.1) hr).symm
  have u1:cb'=d.b:=congrArg Prod.fst Ge
  have u2:ci'=d.i:=congrArg (fun t=>t.2.1) Ge
  have u3:ch'=d.h:=congrArg (fun t=>t.2.2.1) Ge
  have k1:0<=k:=k1
  have k2:k<=a.av.length:=k2
  have hl:a3=jK (dt c) a.av k.toNat:=hl
  clear ha hr Ge
  have m1:=m1.symm
  subst n1 n2 n3 n4 m2 m3 m4 u1 u2 u3 hl hv hi m5
  subst m1
  have hlen:(jK (dt c) a.av k.toNat).length=a.av.length:=Af _ _ (by omega)
  refine aQ ?_ ?_<;>intro hk
  ·have hk:k<((jK (dt c) a.av k.toNat).length:Int):=hk
   rw[hlen] at hk
   have uf:k.toNat<a.av.length:=by omega
   have p1:k.toNat<(jK (dt c) a.av k.toNat).length:=by omega
   have p2:∀g,k.toNat<((jK (dt c) a.av k.toNat).modify k.toNat g).length:=fun g=>by rw[Mg];exact p1
   have ek:(k+1).toNat=k.toNat+1:=by omega
   have nx:∀l:List cn,l=jK (dt c) a.av (k.toNat+1)->r_ c name (i,0,dt c,(a.Kind,a.Name,a.av,a.N,a.aR,()),(q1,q2,q3,q4,q5,()),(name,g_ c lE,eu c,fX c,r5,()),(d.b,d.i,d.h,()),()) (i,IntKind.wrap .i64 (k+1),dt c,(a.Kind,a.Name,l,a.N,a.aR,()),(q1',q2',q3',q4',q5',()),(name,g_ c lE,eu c,fX c,r5,()),(d.b,d.i,d.h,()),())/\ot c name (i,IntKind.wrap .i64 (k+1),dt c,(a.Kind,a.Name,l,a.N,a.aR,()),(q1',q2',q3',q4',q5',()),(name,g_ c lE,eu c,fX c,r5,()),(d.b,d.i,d.h,()),())<ot c name (i,k,dt c,(a.Kind,a.Name,jK (dt c) a.av k.toNat,a.N,a.aR,()),(q1',q2',q3',q4',q5',()),(name,g_ c lE,eu c,fX c,r5,()),(d.b,d.i,d.h,()),()):=by
    rintro l rfl
    have A8:(jK (dt c) a.av (k.toNat+1)).length=a.av.length:=Af _ _ (by omega)
    rw[wi (n:=k+1)]
    exact⟨⟨rfl,rfl,rfl,rfl,rfl,by omega,by simp only;omega,by rw[ek]⟩,by simp only[ot];omega⟩
   refine⟨k1,p1,p1,k1,p1,p1,k1,p2 _,p2 _,Ob (fun o=>⟨k1,p2 _,p2 _,k1,p2 _,p2 _,nx _ ?_⟩) (fun o=>nx _ ?_)⟩
   ·have o:¬(a.av.getD k.toNat ff).Op=aj:=fun e=>o ((congrArg cn.Op (w9 uf _)).trans e)
    refine(Nq uf _ _).trans (Eq.trans ?_ (EU uf))
    congr 2
    show(⟨_,_,rm (dt c) (((jK (dt c) a.av k.toNat).modify k.toNat _).getD k.toNat ff).R⟩:cn)=_
    rw[w9 uf,Ag uf]
    simp only[pM,if_neg o]
   ·have o:(a.av.getD k.toNat ff).Op=aj:=(congrArg cn.Op (w9 uf _)).symm.trans o
    refine(GY uf _).trans (Eq.trans ?_ (EU uf))
    congr 2
    show(⟨_,rm (dt c) ((jK (dt c) a.av k.toNat).getD k.toNat ff).L,_⟩:cn)=_
    rw[Ag uf]
    simp only[pM,if_pos o]
  ·have hk:¬k<((jK (dt c) a.av k.toNat).length:Int):=hk
   rw[hlen] at hk
   have hf:jK (dt c) a.av k.toNat=a.av.map (pM (dt c)):=by
    rw[jK,Ul (by omega),List.drop_eq_nil_of_le (by omega),xr]
   have e:i.toNat=(i-1).toNat+1:=by omega
   rw[e] at g5 g6
   simp only[mA,pG,amK,ad2] at g5 g6
   have fin:sa c name (IntKind.wrap .i64 (i-1),dt c,(q1',q2',q3',q4',q5',()),(name,g_ c lE,eu c,fX c,r5++[⟨a.Kind,a.Name,jK (dt c) a.av k.toNat,a.N,a.aR⟩],()),(d.b,d.i,d.h,()),())/\rZ c name (IntKind.wrap .i64 (i-1),dt c,(q1',q2',q3',q4',q5',()),(name,g_ c lE,eu c,fX c,r5++[⟨a.Kind,a.Name,jK (dt c) a.av k.toNat,a.N,a.aR⟩],()),(d.b,d.i,d.h,()),())<rZ c name (i,dt c,(q1,q2,q3,q4,q5,()),(name,g_ c lE,eu c,fX c,r5,()),(cb,ci,ch,()),()):=by
    rw[hf,wi (n:=i-1)]
    exact⟨⟨rfl,rfl,by omega,by omega,by simp only[kI,fY,fG];omega,kC,g5,g6⟩,by simp only[rZ];omega⟩
   have hr5:r5.length+1<=4294967296:=by omega
   exact⟨hr5,fin⟩
 ·have hc:¬i>0:=hc
  have e:i.toNat=0:=by omega
  rw[e] at g5 g6
  have g5:r5=re c:=g5
  have g6:(⟨cb,ci,ch⟩:ag)=nA c:=g6
  exact Uf (a:=⟨name,g_ c lE,eu c,fX c,r5⟩) (a':=⟨name,g_ c lE,eu c,fX c,re c⟩) (d:=⟨cb,ci,ch⟩) (d':=nA c) (by rw[g5]) g6
theorem DF(c:ag)(name:BA)(hp:∀p∈va.pre (c,name),p)(hb:∀d∈va.ds (c,name),gh d):rk EE OU f135 va O1 (c,name) 14 (lZ (c,name)):=by
 have ey:=tQ (x:=c) (hb _ m0)
 have vx:=Bg (s:=name) (hb _ m1)
 have bo:bh c:=hp _ m0
 clear hp hb
 apply vE (let x3:=[0,0,5,(-5),100];let x2:=x3.length;let x1:=(↑x2:Int);let x0:=aa c x1;let q0:=BA×Int×List cr×List dB×List eK×PUnit;0<=c.i/\L4 c.b.length/\1<=x2/\0<=x0.i/\L4 x0.b.length/\zk c name (wrap i64 (1+af x0 3),({data:= #[]:BA},0,[],[],[],()),(name,x3.getD (Int.toNat (af c x1)) 0,[],[],[],()),((aa x0 3).b,(aa x0 3).i,(aa x0 3).h,()),())/\∀(y:Int×q0×q0×O3×PUnit),let oV:={b:=y.2.2.2.1.1,i:=y.2.2.2.1.2.1,h:=y.2.2.2.1.2.2.1:ag};let qb:=cV y.2.2.1.2.2.1;let wI:=y.2.2.1.2.2.2.1.length;let iw:=y.2.2.1.2.2.1.length;let vj:=[{Kind:=(pd false oV).Kind,av:=(pd false oV).av,Not:=false:cr}];let x9:=aa oV 3;let NP:=[{Kind:=(pd true x9).Kind,av:=(pd true x9).av,Not:=true:cr}];let x6:=y.2.2.1.2.2.1++NP;let x7:=aa (jJ x9) 3;let x8:=aa x9 3;let zv:=[{Op:=(1:Int)+af x8 3,L:=rm qb (eI (aa x8 3)),R:=rm qb (eI (df (aa x8 3))):dB}];let Mh:=df (df (aa x7 3));let x18:=df (df (aa x8 3));let x5:=cV x6;let x4:=[{Op:=(1:Int)+af x7 3,L:=rm x5 (eI (aa x7 3)),R:=rm x5 (eI (df (aa x7 3))):dB}];let q1:=(y.2.1.1,y.2.1.2.1,y.2.1.2.2.1,y.2.1.2.2.2.1,y.2.1.2.2.2.2.1,());let q2:=(wrap i64 (y.1-1),q1,(y.2.2.1.1,y.2.2.1.2.1,y.2.2.1.2.2.1++vj,y.2.2.1.2.2.2.1,y.2.2.1.2.2.2.2.1,()),((jJ oV).b,(jJ oV).i,(jJ oV).h,()),());zk c name y->bif decide (y.1>0) then bh oV/\L4 (iw+vj.length)/\zk c name q2/\Cz c name q2<Cz c name y else bh oV/\bif ca oV 3 then bh x9/\L4 (iw+NP.length)/\L4 (d_ x6)/\bh (jJ x9)/\bif ca (jJ x9) 3 then bh x7/\L4 (wI+x4.length)/\e8 c name (x5,q1,(y.2.2.1.1,y.2.2.1.2.1,x6,y.2.2.1.2.2.2.1++x4,y.2.2.1.2.2.2.2.1,()),(Mh.b,Mh.i,Mh.h,()),()) else e8 c name (x5,q1,(y.2.2.1.1,y.2.2.1.2.1,x6,y.2.2.1.2.2.2.1,y.2.2.1.2.2.2.2.1,()),(x7.b,x7.i,x7.h,()),()) else L4 (d_ y.2.2.1.2.2.1)/\bh x9/\bif ca x9 3 then bh x8/\L4 (wI+zv.length)/\e8 c name (qb,q1,(y.2.2.1.1,y.2.2.1.2.1,y.2.2.1.2.2.1,y.2.2.1.2.2.2.1++zv,y.2.2.1.2.2.2.2.1,()),(x18.b,x18.i,x18.h,()),()) else e8 c name (qb,q1,(y.2.2.1.1,y.2.2.1.2.1,y.2.2.1.2.2.1,y.2.2.1.2.2.2.1,y.2.2.1.2.2.2.2.1,()),(x8.b,x8.i,x8.h,()),()))
 dsimp only
 have hk:=iV bo lE
 have hN:=MC c
 have hPA:=Rg c
 have hpa:d_ (eu c)<=4294967296:=by have:=wx hPA.1;omega
 have fin:∀(vs:List BA)(q:BA×Int×List cr×List dB×List eK×PUnit)(ps:List cr)(cs:List dB)(d:ag),vs=dt c->ps=eu c->cs=fX c->d=zE c->e8 c name (vs,q,(name,g_ c lE,ps,cs,[],()),(d.b,d.i,d.h,()),()):=by
  rintro vs q ps cs d rfl rfl rfl rfl
  exact⟨rfl,rfl,Iu bo,rfl⟩
 have w1:IntKind.wrap .i64 (1+af (Rk c) 3)=Rh c:=wi (n:=Rh c)
 refine⟨bo.1,bo.2,by simp,hk.1,hk.2,?_,?_⟩
 ·show zk c name (IntKind.wrap .i64 (1+af (Rk c) 3),(aj,0,[],[],[],()),(name,g_ c lE,[],[],[],()),((HC c).b,(HC c).i,(HC c).h,()),())
  rw[w1]
  exact⟨rfl,by omega,by omega,by simp only[fG];omega,OB bo,rfl,rfl⟩
 rintro⟨i,⟨q1,q2,q3,q4,q5,⟨⟩⟩,⟨r1,r2,r3,r4,r5,⟨⟩⟩,⟨cb,ci,ch,⟨⟩⟩,⟨⟩⟩ ⟨hr,g1,g2,g3,g4,g5,g6⟩
 simp only[pb,and_true,true_and] at hr
 obtain⟨m1,m2,m3,m4⟩:=hr
 subst m1 m2 m3 m4
 simp only at g1 g2 g3 g4 g5 g6⊢
 refine aQ ?_ ?_<;>intro hc
 ·have e:i.toNat=(i-1).toNat+1:=by omega
  rw[e] at g5 g6
  rw[wi]
  exact⟨g4,by simp only[fY,fG];omega,⟨rfl,by omega,by omega,by simp only[kI,fY,fG];omega,pV g4,g5,g6⟩,by simp only[Cz];omega⟩
 have e:i.toNat=0:=by omega
 rw[e] at g5 g6
 have g5:r3=lh c:=g5
 have g6:(⟨cb,ci,ch⟩:ag)=FX c:=g6
 have e1:cb=(FX c).b:=congrArg ag.b g6
 have e2:ci=(FX c).i:=congrArg ag.i g6
 have e3:ch=(FX c).h:=congrArg ag.h g6
 subst g5 e1 e2 e3
 clear g6
 have k4:=ao g4 3
 refine⟨g4,ae (fun a=> ?_) (fun a=> ?_)⟩
 ·have aP:eu c=lh c++[pd true (wP c)]:=if_pos a
  have a5:D3 c=jJ (wP c):=if_pos a
  rw[aP] at hpa
  have k6:=ao (pV k4) 3
  refine⟨k4,by simp only[fY,fG];omega,hpa,pV k4,ae (fun b=> ?_) (fun b=> ?_)⟩
  ·have b':ca (D3 c) 3=true:=by rw[a5];exact b
   have c7:zE c=rr (wO c):=if_pos b'
   exact⟨k6,by simp,fin _ _ (lh c++[pd true (wP c)]) [Qk (cV (lh c++[pd true (wP c)])) (yH (aa (jJ (wP c)) 3))] (rr (aa (jJ (wP c)) 3)) (by rw[dt,aP];rfl) aP.symm (by rw[fX,if_pos b',dt,aP,wO,a5]) (by rw[c7,wO,a5])⟩
  ·have b':¬ca (D3 c) 3=true:=by rw[a5];exact fun e=>absurd (b.symm.trans e) (by decide)
   have c7:zE c=wO c:=if_neg b'
   exact fin _ _ (lh c++[pd true (wP c)]) [] (aa (jJ (wP c)) 3) (by rw[dt,aP];rfl) aP.symm (by rw[fX,if_neg b']) (by rw[c7,wO,a5])
 ·have a':¬ca (FX c) 3=true:=fun e=>absurd (a.symm.trans e) (by decide)
  have aP:eu c=lh c:=if_neg a'
  have a5:D3 c=wP c:=if_neg a'
  rw[aP] at hpa
  have k6:=ao k4 3
  refine⟨hpa,k4,ae (fun b=> ?_) (fun b=> ?_)⟩
  ·have b':ca (D3 c) 3=true:=by rw[a5];exact b
   have c7:zE c=rr (wO c):=if_pos b'
   exact⟨k6,by simp,fin _ _ (lh c) [Qk (cV (lh c)) (yH (aa (wP c) 3))] (rr (aa (wP c) 3)) (by rw[dt,aP]) aP.symm (by rw[fX,if_pos b',dt,aP,wO,a5]) (by rw[c7,wO,a5])⟩
  ·have b':¬ca (D3 c) 3=true:=by rw[a5];exact fun e=>absurd (b.symm.trans e) (by decide)
   have c7:zE c=wO c:=if_neg b'
   exact fin _ _ (lh c) [] (aa (wP c) 3) (by rw[dt,aP]) aP.symm (by rw[fX,if_neg b']) (by rw[c7,wO,a5])
attribute [local irreducible] rk mO in
theorem aeE:Holds EE (135,va):=by
 refine vu qZ func135 va (by kernel_rfl) OU (xz _) O1 14 lZ (by kernel_rfl) (fun x hp hb=> ?_)
 obtain⟨c,name⟩:=x
 refine⟨DF c name hp hb,fun(y:List BA×T1×T1×T4×Unit) hy=> ?_⟩
 have hy:e8 c name y:=hy
 exact DH c name y hp hb hy
def YH:HH:=⟨_,aeE⟩
def aeI:=cj (α:=ag) (q1 qU) [.box false] (fun c=>[bh c]) (fun c=>⟨[dA .h_ (cE c)],[],[dU (jC c)]⟩)
def Jd(c:ag):Int×List BA×T2×T2×T4×Unit->Prop:=fun(i,ns,q,d,cu,_)=>ns=sC/\d.1=cB c AQ/\0<=i/\i<=4/\d.2.1.length=i/\bh ⟨cu.1,cu.2.1,cu.2.2.1⟩/\LC (4-i).toNat i.toNat d.2.1 ⟨cu.1,cu.2.1,cu.2.2.1⟩=(cE c).aw/\NA (4-i).toNat i.toNat ⟨cu.1,cu.2.1,cu.2.2.1⟩=jC c
def IC(c:ag):Int×List BA×T2×T2×T4×Unit->Nat:=fun(i,ns,q,d,cu,_)=>(4-i).toNat
def aoB:AX aeI:=fun c=>bW [(4,aU [iI 5,iO 4 .str,.box 2 (2,1024) [.lit .str,.own .bz true],.box 3 (3,1024) [.lit .str,.own .bz true],.box 0 (2000000,0) [.shr .byte,.lit (.int .i64),.lit (.int .i64)]] (fun _=>Jd c) (IC c))]
def agw:HH:=hF aeI func89 [sb,nb,YH] aoB fun(c:ag) hp hb=>by
 have ey:=tQ (x:=c) (hb _ m0)
 have bo:bh c:=hp _ m0
 clear hp hb
 apply vE (let x1:=[{data:= #[(102:UInt8),(108:UInt8),(111:UInt8),(119:UInt8)]:BA},{data:= #[(115:UInt8),(104:UInt8),(105:UInt8),(112:UInt8)]:BA},{data:= #[(120:UInt8)]:BA}];let x0:=b_ c x1;bh c/\1<=x1.length/\Jd c (0,[{data:= #[(114:UInt8),(49:UInt8)]:BA},{data:= #[(114:UInt8),(50:UInt8)]:BA},{data:= #[(114:UInt8),(51:UInt8)]:BA},{data:= #[(114:UInt8),(52:UInt8)]:BA}],({data:= #[]:BA},[],()),(cB c x1,[],()),(x0.b,x0.i,x0.h,()),())/\∀(y:Int×List BA×T9×T9×O3×PUnit),let x4:={b:=y.2.2.2.2.1.1,i:=y.2.2.2.2.1.2.1,h:=y.2.2.2.2.1.2.2.1:ag};let x2:=aa x4 4;let x3:=wrap i64 (1+af x4 4);let x5:=[my (y.2.1.getD y.1.toNat aj) x2];let q0:=(wrap i64 (y.1+1),y.2.1,(y.2.2.1.1,y.2.2.1.2.1,()),(y.2.2.2.1.1,y.2.2.2.1.2.1++x5,()),((nA x2).b,(nA x2).i,(nA x2).h,()),());let q1:=LM [DV.agg [CS y.2.2.2.1.1,CL .bz y.2.2.2.1.2.1]] [DV.agg [CS ((cE c).Name),CL .bz (cE c).aw]] [bU x2] [bU (jC c)];Jd c y->0<=y.2.2.2.2.1.2.1/\L4 y.2.2.2.2.1.1.length/\bif decide (y.1<x3) then bif decide (y.1<4) then 0<=y.1/\y.1.toNat<y.2.1.length/\y.1.toNat<y.2.1.length/\bh x2/\L4 (y.2.2.2.1.2.1.length+x5.length)/\Jd c q0/\IC c q0<IC c y else q1 else q1)
 dsimp only
 have hk:=ed bo AQ
 refine⟨bo,by simp,⟨rfl,rfl,by omega,by omega,rfl,hk,rfl,rfl⟩,?_⟩
 rintro⟨i,ns,⟨q1,q2,⟨⟩⟩,⟨d1,d2,⟨⟩⟩,⟨cb,ci,ch,⟨⟩⟩,⟨⟩⟩ ⟨hns,hd,g1,g2,g3,g4,g5,g6⟩
 simp only at hns hd g1 g2 g3 g4 g5 g6⊢
 subst hns hd
 have hb:=bx (c:=⟨cb,ci,ch⟩) (n:=4) (by omega)
 have hB:=ao g4 4
 rw[wi (n:=1+af ⟨cb,ci,ch⟩ 4)]
 have stop:(cE c).aw=d2/\jC c=aa ⟨cb,ci,ch⟩ 4->dZ [DV.agg [.lit (.string (cB c AQ)),.sl .bz d2]]=dZ [DV.agg [.lit (.string (cE c).Name),.sl .bz (cE c).aw]]/\dZ [DV.box [.sl .byte (aa ⟨cb,ci,ch⟩ 4).b,.lit (.int .i64 (aa ⟨cb,ci,ch⟩ 4).i),.lit (.int .i64 (aa ⟨cb,ci,ch⟩ 4).h)]]=dZ [DV.box [.sl .byte (jC c).b,.lit (.int .i64 (jC c).i),.lit (.int .i64 (jC c).h)]]:=fun e=>by
  rw[e.1,e.2];exact⟨rfl,rfl⟩
 refine⟨g4.1,g4.2,aQ (fun hc=>aQ (fun h4=> ?_) (fun h4=>⟨by trivial,stop ?_⟩)) (fun hc=>⟨by trivial,stop ?_⟩)⟩
 ·have e:(4-i).toNat=(4-(i+1)).toNat+1:=by omega
  have e2:(i+1).toNat=i.toNat+1:=by omega
  have e3:((i.toNat:Nat):Int)=i:=by omega
  rw[e] at g5 g6
  simp only[LC,NA,e3,if_pos hc] at g5 g6
  rw[wi (n:=i+1)]
  have hl:sC.length=4:=rfl
  refine⟨g1,by omega,by omega,hB,by simp only[fY,fG];omega,⟨rfl,rfl,by omega,by omega,?_,yI hB,by simp only[e2];exact g5,by simp only[e2];exact g6⟩,by simp only[IC];omega⟩
  simp only[kI,fY,fG];omega
 ·have e:(4-i).toNat=0:=by omega
  rw[e] at g5 g6
  exact⟨g5.symm,g6.symm⟩
 ·have e3:((i.toNat:Nat):Int)=i:=by omega
  cases hn:(4-i).toNat with
  |zero=>rw[hn] at g5 g6;exact⟨g5.symm,g6.symm⟩
  |succ n=>
   rw[hn] at g5 g6
   simp only[LC,NA,e3,if_neg hc] at g5 g6
   exact⟨g5.symm,g6.symm⟩
theorem yO(c:ag):gb (io c)=true:=by
 unfold io;split
 ·simp[gb]
 ·split
  ·have h:=pi (aa c 6)
   simp[gb,h]
  ·have h:=eN (aa c 6) (l:=Kg) iM (by decide) (by rfl)
   simp[gb,h]
theorem n7(c:ag):fC (eI c)=true:=by
 unfold eI;split
 ·have h:=pi (aa c 3)
  simp[fC,gb,h]
 ·have h:=eN (aa c 3) (l:=Rb) iM (by decide) (by rfl)
  simp[fC,gb,h]
theorem BU{vars:List BA}(hv:∀s,s∈vars->iM s=true){a:cN}(ha:fC a=true):fC (rm vars a)=true/\e6 vars (rm vars a)=true:=by
 unfold rm;split
 ·rename_i h;exact⟨ha,h⟩
 ·split
  ·exact⟨by rfl,by rfl⟩
  ·have hm:vars.getD 0 aj∈vars:=gP (by omega)
   have h1:=hv _ hm
   have h2:mN vars (vars.getD 0 aj)=true:=pL.2 hm
   exact⟨by simp only[fC,gb,h1];simp,by simp only[e6,h2,Bool.or_true]⟩
theorem S1{vars:List BA}(hv:∀s,s∈vars->iM s=true)(c:ag):fO (pM vars (fP c))=true/\jV vars (pM vars (fP c))=true:=by
 have hz:e6 vars mG=true:=by rfl
 have h1:=BU hv (n7 c)
 unfold fP;split
 ·have h2:=BU hv (n7 (b_ (aa (df c) 4) DZ))
  have h3:=eN (aa (df c) 4) (l:=DZ) (fun s=> !decide (s=aj)&&(decide (s=Fl)||decide (s=xd))) (by decide) (by rfl)
  simp only[cO,ra,decide_eq_false_iff_not] at h3
  obtain⟨h4,h5⟩:=h3
  simp only[pM,fO,jV,if_neg h4,decide_eq_false h4,cond_false,h5,cond_true,h1.1,h1.2,h2.1,h2.2,Bool.and_self,and_self]
 ·simp only[pM,fO,jV,if_true,decide_true,cond_true,h1.1,h1.2,hz,Bool.and_self,and_self]
theorem Tf{vars:List BA}(hv:∀s,s∈vars->iM s=true)(c:ag):mK vars (Qk vars (yH c))=true:=by
 have hb:=bx (c:=c) (n:=3) (by omega)
 have h1:=BU hv (n7 (aa c 3))
 have h2:=BU hv (n7 (df (aa c 3)))
 simp only[mK,jw,Qk,yH,h1.1,h1.2,h2.1,h2.2,BE]
 exact decide_eq_true ⟨by omega,by omega⟩
theorem TF{vars:List BA}(hv:∀s,s∈vars->iM s=true)(c:ag):e7 ((mY c).map (pM vars))=true/\((mY c).map (pM vars)).all (jV vars)=true:=by
 have h:=nD (f:=fP) (g:=iA) (fun e=>fO (pM vars e)=true/\jV vars (pM vars e)=true) (S1 hv) (xg c).toNat [] (Fq c) (fun x hx=>by cases hx)
 have hl:=Av c
 refine⟨?_,?_⟩
 ·simp only[e7,cO,decide_eq_true_eq,sk,xp,l_]
  exact⟨by omega,fun x ⟨e,he,hx⟩=>hx▸(h e he).1⟩
 ·simp only[sk,l_]
  exact fun x ⟨e,he,hx⟩=>hx▸(h e he).2
theorem Wu(c:ag):1<=iY c/\iY c<=6:=by
 have h:=rK c (l:=pH) (fun k=>decide (1<=k/\k<=6)) (by decide) (by rfl)
 exact yT h
theorem Wv{vars:List BA}(hv:∀s,s∈vars->iM s=true){fv:Int}(h0:1<=fv)(h1:fv<=3)(c:ag):nr vars fv (EV vars (xh fv c))=true:=by
 have hb:=bx (c:=kE c pH) (n:=fv) (by omega)
 have hn:bq (ir c)=true:=eN (kE c pH) (l:=HB) bq (by decide) (by rfl)
 obtain⟨e1,e2⟩:=TF hv c
 have hK:=Wu c
 have hT:0<=uZ c/\uZ c<=100000:=by
  unfold uZ;split
  ·have h:=rK (k9 c) (l:=wX) (fun k=>decide (0<=k/\k<=100000)) (by decide) (by rfl)
   simpa using h
  ·omega
 unfold xh
 split
 ·rename_i k2
  simp only[nr,EV,dl,Bh,ib,k2,List.map_nil,fG,QR,BE,decide_true,show¬((2:Int)=1) by decide,decide_false,cond_false,cond_true,wk,cO,decide_eq_true_eq,ra,decide_eq_false_iff_not]
  omega
 ·rename_i k2
  split
  ·rename_i k56
   have n1:¬iY c=1:=by omega
   have n3:¬iY c=3:=by omega
   have n4:¬iY c=4:=by omega
   have h5:(decide (iY c=5)||decide (iY c=6))=true:=by simpa using k56
   simp only[nr,EV,dl,Bh,ib,decide_eq_false n1,decide_eq_false k2,decide_eq_false n3,decide_eq_false n4,h5,List.map_nil,fG,QR,decide_true,cond_false,cond_true,p_,Uz,Bool.and_self,BE]
  ·rename_i k56
   have hd:ib fv (EV vars ⟨iY c,ir c,mY c,uZ c,ua c⟩)=true:=by simp[ib,EV,k2]
   have ha:dl (EV vars ⟨iY c,ir c,mY c,uZ c,ua c⟩)=true:=by
    have hc:iY c=1\/iY c=3\/iY c=4:=by omega
    rcases hc with k|k|k
    ·have t0:uZ c=0:=if_neg (by omega)
     have u0:ua c=aj:=if_neg (fun e=>by have:=e.1;omega)
     simp only[EV,dl,k,hn,e1,t0,u0,decide_true,cond_true,Bool.and_self]
    ·have t0:uZ c=0:=if_neg (by omega)
     have u0:fB (ua c)=true:=by
      unfold ua;split
      ·have h:=eN (aa (oq c) 2) (l:=qu) fB (by decide) (by rfl)
       exact h
      ·rfl
     simp only[EV,dl,k,hn,e1,t0,u0,decide_true,cond_true,show¬((3:Int)=1) by decide,show¬((3:Int)=2) by decide,decide_false,cond_false,Bool.and_self]
    ·have u0:ua c=aj:=if_neg (fun e=>by have:=e.1;omega)
     simp only[EV,dl,k,hn,e1,u0,decide_eq_true hT,decide_true,cond_true,show¬((4:Int)=1) by decide,show¬((4:Int)=2) by decide,show¬((4:Int)=3) by decide,decide_false,cond_false,Bool.and_self]
   simp only[nr,hd,ha,wk]
   exact e2
theorem xP(b:Bool)(c:ag):fR (pd b c)=true:=by
 have h1:bq (cB c cZ)=true:=eN c (l:=cZ) bq (by decide) (by rfl)
 have hl:=HN c
 have h2:=nD (f:=io) (g:=hJ) (fun a=>gb a=true) yO (uD c).toNat [] (b_ c cZ) (fun x hx=>by cases hx)
 have h3:=mz io hJ (uD c).toNat [] (b_ c cZ)
 simp only[fG] at h3
 have h4:(pd b c).av.length<=5:=by
  show(mA io hJ (uD c).toNat [] (b_ c cZ)).length<=5
  omega
 simp only[fR,cO,decide_eq_true_eq,sk]
 exact⟨⟨h1,h4⟩,h2⟩
theorem MB(c:ag):(lh c).length=(Rh c).toNat/\∀p,p∈lh c->fR p=true/\p.Not=false:=by
 refine⟨?_,nD (f:=pd false) (g:=jJ) (fun p=>fR p=true/\p.Not=false) (fun d=>⟨xP false d,rfl⟩) (Rh c).toNat [] (HC c) (fun x hx=>by cases hx)⟩
 rw[lh,mz];simp
theorem RB{ps:List cr}(h:∀p,p∈ps->p.Not=false):cR ps=ps.length:=by
 rw[cR,List.filter_eq_self.2 (fun p hp=>by rw[h p hp];rfl)]
theorem Gz(c:ag):mb (eu c)=true/\1<=cR (eu c)/\cR (eu c)<=3/\∀p,p∈eu c->fR p=true:=by
 obtain⟨hl,hp⟩:=MB c
 have hN:=MC c
 have hP:=RB (fun p h=>(hp p h).2)
 have main:∀ps:List cr,(ps=lh c\/∃q,ps=lh c++[q]/\fR q=true/\q.Not=true)->iq ps=true/\1<=cR ps/\cR ps<=3/\∀p,p∈ps->fR p=true:=by
  rintro ps (rfl|⟨q,rfl,hq,hn⟩)
  ·refine⟨?_,by omega,by omega,fun p h=>(hp p h).1⟩
   simp only[iq,cO,decide_eq_true_eq,gg,mc,beq_iff_eq]
   refine⟨⟨by omega,by omega⟩,fun j hj=> ?_⟩
   have hm:(lh c).getD j cD∈lh c:=gP hj
   refine⟨(hp _ hm).1,?_⟩
   rw[jt,(hp _ hm).2,decide_eq_false (by omega)]
  ·have hQ:cR (lh c++[q])=(lh c).length:=by
    rw[cR,List.filter_append,kI]
    have:(List.filter (fun p:cr=> !p.Not) [q])=[]:=by simp[hn]
    rw[this];exact hP
   have Gi:∀p,p∈lh c++[q]->fR p=true:=fun p h=>by
    rcases jO.1 h with h|h
    ·exact(hp p h).1
    ·rw[mF] at h;subst h;exact hq
   refine⟨?_,by omega,by omega,Gi⟩
   simp only[iq,cO,decide_eq_true_eq,gg,mc,beq_iff_eq,kI,fY,fG,hQ]
   refine⟨⟨by omega,by omega⟩,fun j hj=> ?_⟩
   have hm:(lh c++[q]).getD j cD∈lh c++[q]:=gP (by simp;omega)
   refine⟨Gi _ hm,?_⟩
   by_cases h:j<(lh c).length
   ·have e:(lh c++[q]).getD j cD=(lh c).getD j cD:=by
     rw[eX,eX,xx h]
    have vw:(lh c).getD j cD∈lh c:=gP h
    rw[jt,e,(hp _ vw).2,decide_eq_false (by omega)]
   ·have e:(lh c++[q]).getD j cD=q:=by
     have:j=(lh c).length:=by omega
     rw[eX,this,zu (tR _),YV];rfl
    rw[jt,e,hn,decide_eq_true (by omega)]
 have:=main (eu c) (by
  unfold eu;split
  ·exact .inr ⟨_,rfl,xP _ _,rfl⟩
  ·exact .inl rfl)
 rw[pB] at this
 exact this
theorem Pg(c:ag):∀s,s∈dt c->iM s=true:=by
 intro s hs
 obtain⟨p,hp,hn,a,ha,hk,rfl⟩:=xO.1 hs
 have h:=(Gz c).2.2.2 p hp
 simp only[fR,cO,sk] at h
 have:=h.2 a ha
 simp only[gb,hk,decide_true,cond_true,cO] at this
 exact this.1
theorem Kj{name:BA}(hn:bq name=true)(c:ag):fT (my name c)=true:=by
 obtain⟨h1,h2,h3,_⟩:=Gz c
 have hv:=Pg c
 have hs:=rK c (l:=lE) (fun k=>decide (-100<=k/\k<=100)) (by decide) (by rfl)
 have hM:=Ri c
 have hk:kO (fX c) (cV (eu c))=true:=by
  unfold fX;split
  ·have:=Tf hv (wO c)
   simp only[kO,fY,fG,QV,QR,BE]
   rw[show mK (cV (eu c)) (Qk (dt c) (yH (wO c)))=true from this];rfl
  ·rfl
 have ha:lq (re c) (cV (eu c)) (cR (eu c))=true:=by
  have h:=nD (f:=GA c) (g:=rf c) (fun a=>nr (dt c) (cR (eu c)) a=true) (fun d=>Wv hv (by omega) (by omega) d) (QN c).toNat [] (Rj c) (fun x hx=>by cases hx)
  have hl:(re c).length=(QN c).toNat:=by rw[re,mz];simp
  simp only[lq,cO,decide_eq_true_eq,sk]
  exact⟨⟨by omega,by omega⟩,h⟩
 simp only[fT,my,hn,h1,hk,ha,BE,wk]
 exact hs
theorem KN{s:BA}(h:bq s=true):s.size<=12:=by
 simp only[bq,cO,decide_eq_true_eq] at h
 exact h.1.1.2
theorem NE{a:cN}(h:gb a=true):fz a<=40:=by
 have hz:ee.S.size=0:=rfl
 have hn:aj.size=0:=rfl
 simp only[gb,iM] at h
 simp only[fz,nR]
 by_cases k1:a.K=1
 ·simp only[decide_eq_true k1,cond_true,cO,decide_eq_true_eq] at h
  rw[h.2,hz];omega
 ·by_cases k2:a.K=2
  ·simp only[decide_eq_false k1,decide_eq_true k2,cond_true,cond_false,cO,decide_eq_true_eq] at h
   have:=Zb h.1
   rw[h.2,hn];omega
  ·by_cases k3:a.K=3
   ·simp only[decide_eq_false k1,decide_eq_false k2,decide_eq_true k3,cond_true,cond_false,cO,decide_eq_true_eq] at h
    rw[h.1,h.2,hz,hn];omega
   ·simp only[decide_eq_false k1,decide_eq_false k2,decide_eq_false k3,cond_false] at h
    cases h
theorem uk{a:cN}(h:fC a=true):fz a<=40:=by
 simp only[fC,cO] at h
 exact NE h.1
theorem al'{p:cr}(h:fR p=true):kq p<=217:=by
 simp only[fR,cO,decide_eq_true_eq,sk] at h
 have h1:=KN h.1.1
 have h2:=wL fz 40 p.av (fun a ha=>NE (h.2 a ha))
 simp only[kq,uu];omega
theorem adx{c:dB}(h:jw c=true):n9 c<=80:=by
 simp only[jw,cO] at h
 have h1:=uk h.1.2
 have h2:=uk h.2
 simp only[n9];omega
theorem aea{e:cn}(h:fO e=true):iP e<=81:=by
 have hz:fz mG=0:=rfl
 have hn:aj.size=0:=rfl
 have hp:Fl.size=1:=rfl
 have hm:xd.size=1:=rfl
 simp only[fO] at h
 simp only[iP]
 by_cases k:e.Op=aj
 ·simp only[decide_eq_true k,cond_true,cO,decide_eq_true_eq] at h
  have:=uk h.1
  rw[k,h.2,hz,hn];omega
 ·simp only[decide_eq_false k,cond_false] at h
  by_cases k2:e.Op=Fl
  ·simp only[k2,decide_true,Bool.true_or,cond_true,cO] at h
   have h1:=uk h.1
   have h2:=uk h.2
   rw[k2,hp];omega
  ·by_cases k3:e.Op=xd
   ·simp only[k3,decide_true,Bool.or_true,cond_true,cO] at h
    have h1:=uk h.1
    have h2:=uk h.2
    rw[k3,hm];omega
   ·simp only[decide_eq_false k2,decide_eq_false k3,Bool.or_self,cond_false] at h
    cases h
theorem aa'{l:List cn}(h:e7 l=true):kK l<=410:=by
 simp only[e7,cO,decide_eq_true_eq,sk] at h
 have h2:=wL iP 81 l (fun a ha=>aea (h.2 a ha))
 simp only[kK];omega
theorem TE{a:eK}(h:dl a=true):hU a<=434:=by
 have hn:aj.size=0:=rfl
 have h1:(bq a.Name=true\/a.Name=aj)/\(e7 a.av=true\/a.av.length=0)/\(fB a.aR=true\/a.aR=aj):=by
  simp only[dl,Bh] at h
  grind
 obtain⟨g1,g2,g3⟩:=h1
 have e1:a.Name.size<=12:=by
  rcases g1 with g|g
  ·exact KN g
  ·rw[g,hn];omega
 have e2:kK a.av<=410:=by
  rcases g2 with g|g
  ·exact aa' g
  ·have:a.av=[]:=List.length_eq_zero_iff.1 g
   rw[this];simp[kK]
 have e3:a.aR.size<=12:=by
  rcases g3 with g|g
  ·exact WM g
  ·rw[g,hn];omega
 simp only[hU];omega
theorem Rf{r:aY}(h:fT r=true):eg r<=5000:=by
 have hs:=wN h
 have hp:iq r.aD=true:=by
  simp only[fT,cO] at h
  rw[pB];exact h.1.1.2
 simp only[iq,cO,decide_eq_true_eq,gg,mc] at hp
 simp only[fT,kO,lq,cO,decide_eq_true_eq,sk,mK,nr] at h
 obtain⟨⟨⟨⟨h1,_⟩,_⟩,⟨h2,h3⟩⟩,⟨⟨_,h4⟩,h5⟩⟩:=h
 have n1:=KN h1
 have s1:=wL kq 217 r.aD (fun p hpm=>by
  obtain⟨j,hj,rfl⟩:=sn hpm
  have:=(hp.2 j hj).1
  rw[eX,fH hj] at this
  exact al' this)
 have s2:=wL n9 80 r.aO (fun c hc=>adx (h3 c hc).1.1)
 have s3:=wL hU 434 r.bH (fun a ha=>TE (h5 a ha).1.1)
 have:=hs.1.fv
 simp only[eg,kB,vm,rE];omega
theorem aee{d:bp}(h:fQ d=true):cG d<=61000:=by
 simp only[fQ,cO,decide_eq_true_eq,gg,jD] at h
 have n1:=KN h.1.1
 have s1:=wL eg 5000 d.aw (fun r hr=>by
  obtain⟨j,hj,rfl⟩:=sn hr
  have:=(h.2 j hj).1
  rw[eX,fH hj] at this
  exact Rf this)
 simp only[cG,j_];omega
theorem Hc:∀(k i:Nat)(l:List aY)(c:ag),∃t:List aY,LC k i l c=l++t/\t.length<=k/\(1<=k->i=0->1<=t.length)/\∀j,j<t.length->∃d,t.getD j cq=my (sC.getD (i+j) aj) d
 |0,i,l,c=>⟨[],by simp[LC],by simp,by omega,fun j hj=>by simp at hj⟩
 |k+1,i,l,c=>by
  have hb:=bx (c:=c) (n:=4) (by omega)
  unfold LC
  split
  ·obtain⟨t,h1,h2,_,h4⟩:=Hc k (i+1) (l++[my (sC.getD i aj) (aa c 4)]) (nA (aa c 4))
   refine⟨my (sC.getD i aj) (aa c 4)::t,by rw[h1,xw];rfl,by simp only[fY];omega,fun _ _=>by simp only[fY];omega,fun j hj=> ?_⟩
   cases j with
   |zero=>exact⟨aa c 4,rfl⟩
   |succ j=>
    obtain⟨d,hd⟩:=h4 j (by simp only[fY] at hj;omega)
    exact⟨d,by rw[show i+(j+1)=i+1+j by omega];exact hd⟩
  ·rename_i h
   exact⟨[],by simp,by simp,fun _ hi=>by omega,fun j hj=>by simp at hj⟩
theorem Pc:∀j,j<4->bq (sC.getD j aj)=true:=by decide
theorem Pd:∀j,j<4->∀k,k<j->¬sC.getD k aj=sC.getD j aj:=by decide
theorem yw(c:ag):fQ (cE c)=true:=by
 obtain⟨t,h1,h2,h3,h4⟩:=Hc 4 0 [] (b_ c AQ)
 have e:(cE c).aw=t:=h1
 have hn:bq (cE c).Name=true:=eN c (l:=AQ) bq (by decide) (by rfl)
 simp only[fQ,cO,decide_eq_true_eq,gg,jD,hn,e,true_and]
 have h3:=h3 (by omega) rfl
 refine⟨⟨by omega,by omega⟩,fun j hj=> ?_⟩
 obtain⟨d,hd⟩:=h4 j hj
 rw[vf] at hd
 refine⟨by rw[hd];exact Kj (Pc j (by omega)) d,?_⟩
 refine fL (i:=j) hj (by simp) (fun k hk=>decide_eq_false fun e=> ?_)
 obtain⟨d',BT⟩:=h4 k (by omega)
 rw[vf] at BT
 rw[hd,BT] at e
 exact Pd j (by omega) k hk e
theorem E5(c:ag):(∀r,r∈(cE c).aw->mI r/\nG r)/\(cE c).aw.length<=12/\cG (cE c)<=61000:=
 ⟨(vF (yw c)).1,(vF (yw c)).2,aee (yw c)⟩
theorem w_{f:aJ}{w:BA}{v:a_}(hf:bq f.Kind=true)(hw:bO ⟨2,0,w⟩=true)(hv:bO v=true):bw (t_ f w v)=true:=by
 simp only[bw,t_,QV,QR,hf,hw,hv];rfl
theorem zM{f:aJ}(h:bw f=true):bq f.Kind=true:=by
 simp only[bw,cO] at h;exact h.1.1
theorem UC(ok:Bool):bO ⟨2,0,J2 ok⟩=true:=by cases ok<;>rfl
theorem Tu:bO ⟨2,0,bNo⟩=true:=by rfl
def N_:a_:=⟨1,0,aj⟩
theorem KJ:bO N_=true:=by rfl
theorem E6{d:bp}{x:aq}(h:coreX d x){l:List ak}(hl:aT l=true):coreX d (qn x l):=⟨h.pS,h.store,hl,h.timers,h.oW,h.now,h.Lq,h.bS⟩
theorem Ph{d:bp}{x:aq}(h:coreX d x)(hs:x.State=1\/x.State=3\/x.State=5){k:Nat}(hk:k<x.ap.length)(ok:Bool){v:a_}(hv:bO v=true):cU d (Gj x k ok v):=by
 by_cases h1:x.State=1
 ·rw[ON h1]
  have ht:=(gp.1 (nz h.jG hk)).1
  have hf:=w_ (zM ht) (UC ok) hv
  split
  ·split
   ·rename_i hp
    have hg:=ES h.good (t:=x.ap.getD k aE) hp
    exact iR (x:=DD x (cH x.ay (x.ap.getD k aE)).1) ⟨h.pS,h.store,h.jG,h.timers,hg.2.1,h.now,h.Lq,h.bS⟩ h1 hf
   ·exact ma h (.inl rfl)
  ·exact iR h h1 hf
 ·rw[Gj,if_pos h1]
  exact wQ h (by omega)
theorem Ko{d:bp}{x:aq}(h:cU d x)(key:BA)(ok:Bool){v:a_}(hv:bO v=true):cU d (kg x key ok v).1:=by
 unfold kg
 split
 ·rename_i h1
  have hl:=Kp h1
  exact Ph (E6 h.tocoreX (rc h.jG)) (show x.State=1\/x.State=3\/x.State=5 from Er (vo.2 h) h1) (k:=(aZ (bB x.ap key ok v).1 key).toNat) (by show _<(bB x.ap key ok v).1.length;omega) ok hv
 ·exact h
theorem GI(x:aq):(im x).cJ=x.cJ:=by unfold im;split<;>rfl
theorem xR(x:aq)(st:Int):(gK x st).cJ=x.cJ:=GI _
theorem KH(x:aq):(yd x).cJ=x.cJ:=GI _
theorem rH(x:aq)(f:aJ):(du x f).cJ=x.cJ:=by
 unfold du;split
 ·exact xR _ _
 ·rfl
theorem MY(x:aq)(e:cX):(hZ x e).cJ=x.cJ:=by
 unfold hZ Hb NV Hy
 repeat' split
 all_goals first
  |exact rH _ _
  |exact xR _ _
  |rfl
theorem A0:∀(l:List cX)(x:aq),(j8 l x).cJ=x.cJ
 |[],_=>rfl
 |e::l,x=>by
  rw[j8];split
  ·rw[A0 l,MY]
  ·rfl
theorem RX(d:bp)(x:aq)(m:au):(pN d x m).cJ=x.cJ:=by
 unfold pN;split
 ·rw[A0];rfl
 ·exact xR _ _
theorem PC(x:aq)(key:BA)(ok:Bool)(v:a_):(kg x key ok v).1.cJ=x.cJ:=by
 unfold kg;split
 ·show(Gj _ _ _ _).cJ=_
  unfold Gj
  repeat' split
  all_goals first
   |exact KH _
   |exact rH _ _
   |exact xR _ _
 ·rfl
def kN:List aK->aq->aq
 |[],x=>x
 |t::l,x=>if x.State=1 then kN l (du x t.F) else x
theorem xG{d:bp}:∀{l:List aK}{x:aq},cU d x->(∀t∈l,bw t.F=true)->cU d (kN l x)
 |[],_,h,_=>h
 |t::l,x,h,hl=>by
  rw[kN];split
  ·rename_i hs
   exact xG (iR h.tocoreX hs (hl t gB)) fun y hy=>hl y (cI _ hy)
  ·exact h
theorem Eg:∀(l:List aK)(x:aq),(kN l x).cJ=x.cJ
 |[],_=>rfl
 |t::l,x=>by
  rw[kN];split
  ·rw[Eg l,rH]
  ·rfl
def aed(x:aq)(now:Int):aq:=⟨x.S,x.aC,x.ap,Pk now x.ax,x.ay,x.State,now⟩
def dR(x:aq)(now:Int):aq:=if x.State=1 then kN (qi now x.ax) (aed x now) else Gp x now
def oZ(x:aq)(now:Int):aq:=qn x (x.ap.map (f_ now))
def gG(st:Int):List aJ->aq->aq
 |[],x=>x
 |f::l,x=>if x.State=st then gG st l (if st=1 then du x (t_ f bNo N_) else yd x) else x
def jB(x:aq)(now:Int):List BA:=x.ap.flatMap (lJ now)
def G1(l:List ak)(k:BA):aJ:=(l.getD (aZ l k).toNat aE).F
def nZ(x:aq)(now:Int):aq:=gG (dR x now).State ((jB (dR x now) now).map (G1 (oZ (dR x now) now).ap)) (oZ (dR x now) now)
def AL(x:aq)(now:Int):List p9:=(dR x now).ap.flatMap (o8 now)
theorem Qr{d:bp}{x:aq}(h:coreX d x){now:Int}(h0:0<=now)(h1:now<=1000000000):coreX d (Gp x now):=⟨h.pS,h.store,h.jG,h.timers,h.oW,⟨h0,h1⟩,h.Lq,h.bS⟩
theorem AU{d:bp}{x:aq}(h:cU d x){now:Int}(h0:0<=now)(h1:now<=1000000000):cU d (dR x now):=by
 unfold dR
 split
 ·rename_i hs
  refine xG (kL ⟨h.pS,h.store,h.jG,wo _ h.timers,h.oW,⟨h0,h1⟩,h.Lq,h.bS⟩ hs) fun t ht=> ?_
  have:=(pt.1 h.timers).2.1 t (zr.1 ht).1
  simp only[iN,cO] at this
  exact this.2
 ·exact⟨Qr h.tocoreX h0 h1,h.state,h.ended,h.NS⟩
theorem PB(x:aq)(now:Int):(dR x now).cJ=now:=by
 unfold dR;split
 ·rw[Eg];rfl
 ·rfl
theorem Pb{l:List ak}(h:o6 l=false)(now:Int):l.map (f_ now)=l:=by
 have:∀t∈l,f_ now t=t:=fun t ht=>by
  obtain⟨i,hi,rfl⟩:=sn ht
  have:=ol.1 h i hi
  rw[eX,fH hi] at this
  have hd:due now l[i]=false:=by simp only[due];rw[show jU l[i]=false from this];rfl
  rw[f_,hd];rfl
 exact(QK this).trans (List.map_id' l)
theorem Qm{l:List ak}(h:o6 l=false)(now:Int):l.flatMap (lJ now)=[]:=by
 rw[List.flatMap_eq_nil_iff]
 intro t ht
 obtain⟨i,hi,rfl⟩:=sn ht
 have:=ol.1 h i hi
 rw[eX,fH hi] at this
 have hd:due now l[i]=false:=by simp only[due];rw[show jU l[i]=false from this];rfl
 rw[lJ,hd];rfl
theorem Zt(now:Int)(t:ak):(f_ now t).F=t.F:=NY now t
theorem EX{l:List ak}{now:Int}{k:BA}(h:k∈l.flatMap (lJ now)):0<=aZ (l.map (f_ now)) k/\aZ (l.map (f_ now)) k<((l.map (f_ now)).length:Int):=by
 obtain⟨t,ht,hk⟩:=ow.1 h
 unfold lJ at hk
 split at hk
 ·rw[mF] at hk
  obtain⟨i,hi,rfl⟩:=sn ht
  rcases ik (l.map (f_ now)).length (fun k'=>decide (bQ ((l.map (f_ now)).getD k' aE).F=k)) with⟨_,h2⟩|⟨m,g1,g2,_,_⟩
  ·have:=yF (h2 i (by rw[xp];exact hi))
   rw[eX,nO,fH hi] at this
   exact absurd (by rw[hk];exact congrArg bQ (Zt now l[i])) this
  ·have g2:aZ (l.map (f_ now)) k=m:=g2
   rw[g2];omega
 ·simp at hk
theorem D5{d:bp}{x:aq}(h:cU d x){now:Int}(h0:0<=now)(h1:now<=1000000000):cU d (oZ x now):=by
 refine⟨E6 h.tocoreX (sw h0 h1 h.jG),h.state,fun g=> ?_,h.NS⟩
 obtain⟨g1,g2⟩:=h.ended g
 exact⟨by show o6 (x.ap.map (f_ now))=false;rw[Pb g1];exact g1,g2⟩
theorem xH{d:bp}{st:Int}:∀{l:List aJ}{x:aq},cU d x->(∀f∈l,bq f.Kind=true)->(l≠[]->st=1\/st=3\/st=5)->cU d (gG st l x)
 |[],_,h,_,_=>h
 |f::l,x,h,hl,hs=>by
  rw[gG];split
  ·rename_i he
   have hs:=hs (by simp)
   refine xH ?_ (fun y hy=>hl y (cI _ hy)) fun _=>hs
   split
   ·rename_i h1
    exact iR h.tocoreX (he.trans h1) (w_ (hl f gB) Tu KJ)
   ·exact wQ h.tocoreX (by omega)
  ·exact h
theorem Eh(st:Int):∀(l:List aJ)(x:aq),(gG st l x).cJ=x.cJ
 |[],_=>rfl
 |f::l,x=>by
  rw[gG];split
  ·rw[Eh st l]
   split
   ·exact rH _ _
   ·exact KH _
  ·rfl
theorem Ah{l:List ak}{now:Int}(h:aT l=true)(h0:0<=now)(h1:now<=1000000000){k:BA}(hk:k∈l.flatMap (lJ now)):bw (G1 (l.map (f_ now)) k)=true:=by
 obtain⟨a,b⟩:=EX hk
 exact(gp.1 (nz (sw h0 h1 h) (k:=(aZ (l.map (f_ now)) k).toNat) (by omega))).1
theorem GK{d:bp}{x:aq}(h:cU d x){now:Int}(hk:jB x now≠[]):x.State=1\/x.State=3\/x.State=5:=by
 by_cases hc:x.State=2\/x.State=4\/x.State=6
 ·exact absurd (Qm (h.ended hc).1 now) hk
 ·have:=h.state;omega
theorem MG{d:bp}{x:aq}(h:cU d x){now:Int}(h0:0<=now)(h1:now<=1000000000):cU d (nZ x now):=by
 have hT:=AU h h0 h1
 refine xH (D5 hT h0 h1) (fun f hf=> ?_) fun hn=>GK hT (now:=now) (by intro e;rw[e] at hn;exact hn rfl)
 obtain⟨k,hk,rfl⟩:=l_.1 hf
 exact zM (Ah hT.jG h0 h1 hk)
theorem RU(x:aq)(now:Int):(nZ x now).cJ=now:=by
 unfold nZ
 rw[Eh]
 exact PB x now
def sL:List Int:=[0,1,5,30]
def Xj(x:aq)(c:ag):BA:=bQ (x.ap.getD (af c x.ap.length).toNat aE).F
def Qn(x:aq)(c:ag):ag:=aa c x.ap.length
def wy(d:bp)(x:aq):aq:=match jI d (allM d.aw x.S.ab) x.aC with|some m=>pN d x m|none=>x
def gU(d:bp)(x:aq)(c:ag):aq:=
 if af c 8=0\/af c 8=1 then(if x.State=1 then du x (dc (aa c 8)) else x)
 else if af c 8=2\/af c 8=3\/af c 8=4 then(if x.State=1 then wy d x else x)
 else if af c 8=5\/af c 8=6 then(if mP x=true then x else nZ x (x.cJ+g_ (aa c 8) sL))
 else if 0<x.ap.length then(kg x (Xj x (aa c 8)) (!ca (Qn x (aa c 8)) 3) (eG (aa (Qn x (aa c 8)) 3))).1 else x
def gV(x:aq)(c:ag):ag:=
 if af c 8=0\/af c 8=1 then(if x.State=1 then de (aa c 8) else aa c 8)
 else if af c 8=2\/af c 8=3\/af c 8=4 then aa c 8
 else if af c 8=5\/af c 8=6 then(if mP x=true then aa c 8 else kE (aa c 8) sL)
 else if 0<x.ap.length then gS (aa (Qn x (aa c 8)) 3) else aa c 8
theorem NU(c:ag):0<=g_ c sL/\g_ c sL<=30:=by
 have:=rK c (l:=sL) (fun n=>decide (0<=n/\n<=30)) (by decide) (by decide)
 simpa using this
theorem MH{d:bp}{x:aq}(h:cU d x)(hs:x.State=1):cU d (wy d x):=by
 unfold wy
 cases hp:jI d (allM d.aw x.S.ab) x.aC with
 |some m=>exact MI h.tocoreX hs (GG hp)
 |none=>exact h
theorem RW(d:bp)(x:aq):(wy d x).cJ=x.cJ:=by
 unfold wy
 cases hp:jI d (allM d.aw x.S.ab) x.aC with
 |some m=>exact RX _ _ _
 |none=>rfl
theorem AW{d:bp}{x:aq}{c:ag}(h:cU d x)(hn:x.cJ+30<=1000000000):cU d (gU d x c)/\x.cJ<=(gU d x c).cJ/\(gU d x c).cJ<=x.cJ+30:=by
 have ht:=NU (aa c 8)
 have h0:=h.now.1
 unfold gU
 split
 ·split
  ·rename_i hs
   exact⟨iR h.tocoreX hs (oh _),by rw[rH];omega⟩
  ·exact⟨h,by omega,by omega⟩
 ·split
  ·split
   ·rename_i hs
    exact⟨MH h hs,by rw[RW];omega⟩
   ·exact⟨h,by omega,by omega⟩
  ·split
   ·split
    ·exact⟨h,by omega,by omega⟩
    ·exact⟨MG h (by omega) (by omega),by rw[RU];omega⟩
   ·split
    ·exact⟨Ko h _ _ (pi _),by rw[PC];omega⟩
    ·exact⟨h,by omega,by omega⟩
theorem Hi{x:aq}{c:ag}(h:bh c):bh (gV x c):=by
 have h8:=ao h 8
 unfold gV
 repeat' split
 all_goals first
  |exact lN h8
  |exact iV h8 _
  |exact kT (ao (ao h8 _) 3)
  |exact h8
def nV(d:bp):Nat->aq->ag->aq
 |0,x,_=>x
 |k+1,x,c=>nV d k (gU d x c) (gV x c)
def s7(d:bp):Nat->aq->ag->ag
 |0,_,c=>c
 |k+1,x,c=>s7 d k (gU d x c) (gV x c)
theorem xI{d:bp}:∀{k:Nat}{x:aq}{c:ag},cU d x->x.cJ+30*k<=1000000000->cU d (nV d k x c)/\(nV d k x c).cJ<=x.cJ+30*k
 |0,_,_,h,_=>⟨h,by simp only[nV];omega⟩
 |k+1,x,c,h,hn=>by
  obtain⟨h1,h2,h3⟩:=AW (c:=c) h (by omega)
  obtain⟨h4,h5⟩:=xI (k:=k) (c:=gV x c) h1 (by omega)
  exact⟨h4,by simp only[nV];omega⟩
theorem Fa{d:bp}:∀{k:Nat}{x:aq}{c:ag},bh c->bh (s7 d k x c)
 |0,_,_,h=>h
 |k+1,_,_,h=>Fa (k:=k) (Hi h)
def zP:List Int:=[0,0,7]
def LB(c:ag):aq:=instNew (g_ (jC c) zP)
def Al(c:ag):ag:=kE (jC c) zP
def Ak(c:ag)(aG:Int):aq:=nV (cE c) (af (Al c) aG).toNat (LB c) (aa (Al c) aG)
def Iq(c:ag)(aG:Int):ag:=s7 (cE c) (af (Al c) aG).toNat (LB c) (aa (Al c) aG)
def instD(c:ag)(aG:Int):aq:=if(Ak c aG).State=1/\ca (Iq c aG) 10=true then gK (Ak c aG) 5 else Ak c aG
def instDC(c:ag)(aG:Int):ag:=if(Ak c aG).State=1 then aa (Iq c aG) 10 else Iq c aG
theorem GN{d:bp}{s:List bL}{m:au}(hd:fQ d=true)(h:jc d s m=true):m.eH.length<=3/\m.bu=[]:=by
 simp only[jc,cO,decide_eq_true_eq] at h
 obtain⟨⟨⟨h1,h2⟩,h3⟩,_⟩:=h
 have:=(wN (N1 hd h1)).1.three
 exact⟨by omega,FU h2⟩
theorem Nr{d:bp}{x:aq}(h:coreX d x):fm x.aC<=7000:=by
 have hm:∀m∈x.aC,js m<=6:=fun m hm=>by
  obtain⟨h1,h2⟩:=GN h.pS (h.bS m hm)
  simp only[js,h2]
  have e:rD []=0:=rfl
  have e2:rC m.eH=m.eH.length:=by simp[rC]
  omega
 have:=wL js 6 x.aC hm
 have:=h.Lq
 simp only[fm];omega
theorem My{s:aF}(h:br s=true):j9 s<=6000:=by
 obtain⟨_,h2,h3,_⟩:=n8.1 h
 have:=wL j0 145 s.ab (fun x hx=>(o7 (h3 x hx).1).2)
 simp only[j9,bY];omega
theorem D4{d:bp}{x:aq}(h:coreX d x):dy x<=50000:=by
 have h1:=My h.store
 have h2:=Nr h
 have h3:=(wK h.jG).2
 have h4:=(BF h.timers).2
 have h5:=(zz h.oW).2.2
 simp only[dy];omega
theorem Kn(c:ag):cU (cE c) (LB c):=by
 have h:=rK (jC c) (l:=zP) (fun n=>decide (0<=n/\n<=7)) (by decide) (by decide)
 have h:=yT h
 have e:LB c=⟨⟨[],1⟩,[],[],[],[],1,g_ (jC c) zP⟩:=by unfold LB instNew;rw[if_pos (by omega)]
 rw[e]
 exact kL ⟨yw c,rfl,rfl,rfl,rfl,⟨h.1,by show g_ (jC c) zP<=1000000000;omega⟩,by simp,by simp⟩ rfl
theorem QZ(c:ag):(LB c).cJ<=7:=by
 have h:=rK (jC c) (l:=zP) (fun n=>decide (0<=n/\n<=7)) (by decide) (by decide)
 have h:=yT h
 unfold LB instNew
 rw[if_pos (by omega)];exact h.2
theorem Rl{c:ag}{m:Int}(hm:m<=1000):cU (cE c) (Ak c m)/\(Ak c m).cJ<=31000:=by
 have hb:(af (Al c) m).toNat<=1000:=by
  by_cases h:0<m
  ·have:=bx (c:=Al c) h;omega
  ·unfold af;rw[if_pos (by omega)];decide
 have h0:=QZ c
 have:=xI (k:=(af (Al c) m).toNat) (c:=aa (Al c) m) (Kn c) (by omega)
 exact⟨this.1,by have:=this.2;simp only[Ak];omega⟩
theorem OE{c:ag}(h:bh c):bh (Al c):=iV (yJ h) _
theorem Wo{c:ag}(h:bh c)(m:Int):bh (Iq c m):=Fa (ao (OE h) _)
theorem D6{c:ag}{m:Int}(hm:m<=1000):cU (cE c) (instD c m):=by
 have h:=(Rl (c:=c) hm).1
 unfold instD;split
 ·exact ma h.tocoreX (.inr rfl)
 ·exact h
theorem Hg{c:ag}(h:bh c)(m:Int):bh (instDC c m):=by
 have:=Wo h m
 unfold instDC;split
 ·exact ao this 10
 ·exact this
def aab(c:ag):Int:=1+af c 3
def PH(c:ag):ag:=aa c 3
def ll(c:ag):au:=⟨af c 3,mA aab PH (af (aa c 3) 4).toNat [] (aa (aa c 3) 4),[]⟩
def nU(c:ag):ag:=pG PH (af (aa c 3) 4).toNat (aa (aa c 3) 4)
theorem OD{c:ag}(h:bh c):bh (PH c):=ao h 3
theorem NC{c:ag}(h:bh c):bh (nU c):=rU (fun _=>OD) (ao (ao h _) _)
def efD(code:List Int):bp:=cE (ij code)
def aec(code:List Int):ag:=jC (ij code)
def aeb(code:List Int):List au:=allM (efD code).aw (di (aec code)).ab
def amN(code:List Int):ag:=kJ (aec code)
def amM(code:List Int):ag:=nU (amN code)
def abc(code:List Int):Prop:=0<(aeb code).length/\ca (amM code) 5=false
instance (code:List Int):Decidable (abc code):=instDecidableAnd
theorem aph{a a':au}{d d':ag}(h1:a=a')(h2:d=d'):dZ [DV.agg [CI a.cL,.sl .int a.eH,.sl .cv a.bu]]=dZ [DV.agg [CI a'.cL,.sl .int a'.eH,.sl .cv a'.bu]]/\dZ [DV.box [.sl .byte d.b,CI d.i,CI d.h]]=dZ [DV.box [.sl .byte d'.b,CI d'.i,CI d'.h]]:=by
 subst h1 h2;exact⟨rfl,rfl⟩
def ae_:=cj (α:=ag) (q1 qU) [.box false] (fun c=>[bh c]) (fun c=>⟨[dA .aB (ll c)],[],[dU (nU c)]⟩)
def JD(c:ag):Int×T8×T8×T4×Unit->Prop:=fun(i,q,m,cu,_)=>m.1=af c 3/\m.2.2.1=[]/\0<=i/\i<=3/\m.2.1.length+i<=3/\bh ⟨cu.1,cu.2.1,cu.2.2.1⟩/\mA aab PH i.toNat m.2.1 ⟨cu.1,cu.2.1,cu.2.2.1⟩=(ll c).eH/\pG PH i.toNat ⟨cu.1,cu.2.1,cu.2.2.1⟩=nU c
def I2(c:ag):Int×T8×T8×T4×Unit->Nat:=fun(i,q,m,cu,_)=>i.toNat
def ao4:AX ae_:=fun c=>bW [(3,aU [iI 4,.box 2 (2,1024) [.lit (.int .i64),.own .int true,.own .cv true],.box 3 (3,1024) [.lit (.int .i64),.own .int true,.own .cv true],.box 0 (2000000,0) [.shr .byte,.lit (.int .i64),.lit (.int .i64)]] (fun _=>JD c) (I2 c))]
def aoe:HH:=hF ae_ func41 [nb] ao4 fun(c:ag) hp hb=>by
 have ey:=tQ (x:=c) (hb _ m0)
 have bo:bh c:=hp _ m0
 clear hp hb
 apply vE (let x0:=aa (aa c 3) 4;0<=c.i/\L4 c.b.length/\0<=(aa c 3).i/\(aa c 3).b.length<=4294967296/\JD c (af (aa c 3) 4,(0,[],[],()),(af c 3,[],[],()),(x0.b,x0.i,x0.h,()),())/\∀(y:Int×YR×YR×O3×PUnit),let x3:={b:=y.2.2.2.1.1,i:=y.2.2.2.1.2.1,h:=y.2.2.2.1.2.2.1:ag};let x1:=aa x3 3;let x2:=[wrap i64 (1+af x3 3)];let q0:=(wrap i64 (y.1-1),(y.2.1.1,y.2.1.2.1,y.2.1.2.2.1,()),(y.2.2.1.1,y.2.2.1.2.1++x2,y.2.2.1.2.2.1,()),(x1.b,x1.i,x1.h,()),());JD c y->bif decide (y.1>0) then 0<=y.2.2.2.1.2.1/\L4 y.2.2.2.1.1.length/\L4 (y.2.2.1.2.1.length+x2.length)/\JD c q0/\I2 c q0<I2 c y else LM [DV.agg [CI y.2.2.1.1,CL .int y.2.2.1.2.1,CL .cv y.2.2.1.2.2.1]] [DV.agg [CI ((ll c).cL),CL .int (ll c).eH,CL .cv (ll c).bu]] [DV.box [CL .byte y.2.2.2.1.1,CI y.2.2.2.1.2.1,CI y.2.2.2.1.2.2.1]] [bU (nU c)])
 dsimp only
 have h3:=ao bo 3
 have hb:=bx (c:=aa c 3) (n:=4) (by omega)
 refine⟨bo.1,bo.2,h3.1,h3.2,⟨rfl,rfl,by omega,by omega,by simp only[fG];omega,ao h3 4,rfl,rfl⟩,?_⟩
 rintro⟨i,⟨q1,q2,q3,⟨⟩⟩,⟨m1,m2,m3,⟨⟩⟩,⟨cb,ci,ch,⟨⟩⟩,⟨⟩⟩ ⟨e1,e2,g1,g2,g3,g4,g5,g6⟩
 simp only at e1 e2 g1 g2 g3 g4 g5 g6⊢
 subst e1 e2
 refine aQ ?_ ?_<;>intro hc
 ·have hd:=bx (c:=⟨cb,ci,ch⟩) (n:=3) (by omega)
  have e:i.toNat=(i-1).toNat+1:=by omega
  rw[e] at g5 g6
  rw[wi (n:=1+af ⟨cb,ci,ch⟩ 3),wi (n:=i-1)]
  exact⟨g4.1,g4.2,by simp only[fY,fG];omega,⟨rfl,rfl,by omega,by omega,by simp only[kI,fY,fG];omega,OD g4,g5,g6⟩,by simp only[I2];omega⟩
 ·have e:i.toNat=0:=by omega
  rw[e] at g5 g6
  have g5:m2=(ll c).eH:=g5
  have g6:(⟨cb,ci,ch⟩:ag)=nU c:=g6
  exact⟨by trivial,aph (a:=⟨af c 3,m2,[]⟩) (a':=ll c) (d:=⟨cb,ci,ch⟩) (d':=nU c) (by rw[g5];rfl) g6⟩
def tT:List BA:=[⟨#[]⟩,⟨#[65]⟩,⟨#[120]⟩]
def Re:List BA:=[⟨#[]⟩,⟨#[120]⟩,⟨#[88]⟩]
def UK:List BA:=[⟨#[]⟩,⟨#[42]⟩]
def oB:List BA:=[⟨#[114,49]⟩,⟨#[114,50]⟩,⟨#[115,104,105,112]⟩]
def Pe:List BA:=[⟨#[]⟩,⟨#[65]⟩]
def VK:List Int:=[-1,7,8,100001]
def VJ:List Int:=[-101,101,100]
def Se:List Int:=[0,1,1000000,1000001]
noncomputable def mC(l:List cN)(c:ag):List cN×ag:=if h:(l.length:Int)<5+af c 2 then mC (l++[io (aa c 2)]) (hJ (aa c 2)) else(l,aa c 2)
termination_by 6-l.length
decreasing_by
 have:=bx (c:=c) (n:=2) (by omega)
 simp only[kI,fY,fG];omega
theorem G0{l:List cN}{c:ag}(h:(l.length:Int)<5+af c 2):mC l c=mC (l++[io (aa c 2)]) (hJ (aa c 2)):=by rw[mC,dif_pos h]
theorem Lp{l:List cN}{c:ag}(h:¬(l.length:Int)<5+af c 2):mC l c=(l,aa c 2):=by rw[mC,dif_neg h]
theorem Lo{l:List cN}{c:ag}(hc:bh c)(h:∀a∈l,gb a=true)(hl:l.length<=6):bh (mC l c).2/\(∀a∈(mC l c).1,gb a=true)/\(mC l c).1.length<=6:=by
 have hb:=bx (c:=c) (n:=2) (by omega)
 by_cases hn:(l.length:Int)<5+af c 2
 ·rw[G0 hn]
  refine Lo (qM (ao hc 2)) (fun a ha=> ?_) (by simp only[kI,fY,fG];omega)
  rcases jO.1 ha with ha|ha
  ·exact h a ha
  ·rw[mF.1 ha];exact yO _
 ·rw[Lp hn];exact⟨ao hc 2,h,hl⟩
termination_by 6-l.length
decreasing_by
 simp only[kI,fY,fG];omega
def ue(c:ag):cr:=pd (ca c 3) (aa c 3)
def paC(c:ag):ag:=jJ (aa c 3)
def paK(c:ag):Int:=af (paC c) 10
def FN(c:ag):ag:=aa (paC c) 10
def paA(c:ag):cN:=⟨af (FN c) 5,cB (aa (FN c) 5) Re,ee⟩
def qe(c:ag):cr:=if paK c=0 then⟨cB (FN c) tT,(ue c).av,(ue c).Not⟩ else if paK c=1 then⟨(ue c).Kind,(ue c).av++[paA c],(ue c).Not⟩ else if paK c=2 then⟨(ue c).Kind,(mC (ue c).av (FN c)).1,(ue c).Not⟩ else ue c
def qw(c:ag):ag:=if paK c=0 then b_ (FN c) tT else if paK c=1 then b_ (aa (FN c) 5) Re else if paK c=2 then(mC (ue c).av (FN c)).2 else FN c
theorem wU{p:cr}(h:fR p=true):p.av.length<=5/\∀a∈p.av,gb a=true:=by
 simp only[fR,cO,decide_eq_true_eq,sk] at h
 exact⟨h.1.2,h.2⟩
theorem Iv{c:ag}(h:bh c):bh (FN c):=ao (pV (ao h 3)) 10
theorem Ln{c:ag}(h:bh c):bh (mC (ue c).av (FN c)).2/\(∀a∈(mC (ue c).av (FN c)).1,gb a=true)/\(mC (ue c).av (FN c)).1.length<=6:=by
 have hp:=wU (xP (ca c 3) (aa c 3))
 exact Lo (Iv h) hp.2 (by have:=hp.1;simp only[ue];omega)
theorem Tj{c:ag}(h:bh c):bh (qw c):=by
 have he:=Iv h
 unfold qw
 split
 ·exact ed he _
 ·split
  ·exact ed (ao he 5) _
  ·split
   ·exact(Ln h).1
   ·exact he
theorem Tw{l:List cN}{B:Nat}(h:∀a∈l,fz a<=B):uu l<=l.length*(B+1):=by
 have:=wL fz B l h
 simp only[uu,Nat.mul_add];omega
theorem Iy(c:ag):(cB c tT).size<=1:=by
 have:=eN c (l:=tT) (fun s=>decide (s.size<=1)) (by decide) (by rfl)
 simpa using this
theorem Wr(c:ag):(cB c Re).size<=1:=by
 have:=eN c (l:=Re) (fun s=>decide (s.size<=1)) (by decide) (by rfl)
 simpa using this
theorem Wq(c:ag):(cB c UK).size<=1:=by
 have:=eN c (l:=UK) (fun s=>decide (s.size<=1)) (by decide) (by rfl)
 simpa using this
theorem Wp(c:ag):(cB c Pe).size<=1:=by
 have:=eN c (l:=Pe) (fun s=>decide (s.size<=1)) (by decide) (by rfl)
 simpa using this
theorem Px{c:ag}(h:bh c):kq (qe c)<=600:=by
 have hp:=xP (ca c 3) (aa c 3)
 obtain⟨h1,h2⟩:=wU hp
 have h3:(ue c).Kind.size<=12:=by simp only[fR,cO] at hp;exact KN hp.1.1
 have hb:∀a∈(ue c).av,fz a<=40:=fun a ha=>NE (h2 a ha)
 have h4:=Tw hb
 have h1:(ue c).av.length<=5:=h1
 unfold qe
 repeat' split
 ·have:=Iy (FN c);simp only[kq];omega
 ·have:=Wr (aa (FN c) 5)
  have hA:fz (paA c)<=40:=by simp only[paA,fz];have:nR ee=0:=rfl;omega
  have:=Tw (l:=(ue c).av++[paA c]) (B:=40) (fun a ha=>by
   rcases jO.1 ha with ha|ha
   ·exact hb a ha
   ·rw[mF.1 ha];exact hA)
  simp only[kI,fY,fG] at this
  simp only[kq];omega
 ·obtain⟨g1,g2,g3⟩:=Ln h
  have:=Tw (B:=40) (fun a ha=>NE (g2 a ha))
  simp only[kq];omega
 ·simp only[kq];omega
def Mo(c:ag):dB:=yH c
def coK(c:ag):Int:=af (rr c) 8
def JY(c:ag):ag:=aa (rr c) 8
def dz(c:ag):dB:=if coK c=0 then⟨af (JY c) 6,(Mo c).L,(Mo c).R⟩ else if coK c=1 then⟨(Mo c).Op,io (JY c),(Mo c).R⟩ else if coK c=2 then⟨(Mo c).Op,(Mo c).L,⟨af (JY c) 5,aj,ee⟩⟩ else Mo c
def iz(c:ag):ag:=if coK c=0 then aa (JY c) 6 else if coK c=1 then hJ (JY c) else if coK c=2 then aa (JY c) 5 else JY c
theorem OG{c:ag}(h:bh c):bh (JY c):=ao (Ap h) 8
theorem Qx{c:ag}(h:bh c):bh (iz c):=by
 have he:=OG h
 unfold iz
 repeat' split
 all_goals first
  |exact ao he _
  |exact qM he
  |exact he
theorem M6(c:ag):n9 (dz c)<=120:=by
 have h1:fz (Mo c).L<=40:=uk (n7 _)
 have h2:fz (Mo c).R<=40:=uk (n7 _)
 have h3:fz (io (JY c))<=40:=NE (yO _)
 have h4:fz (⟨af (JY c) 5,aj,ee⟩:cN)=0:=rfl
 unfold dz
 repeat' split
 all_goals (simp only[n9];omega)
def oQ(c:ag):eK:=xh 2 c
def Uw(c:ag):Int:=af (p6 2 c) 10
def Fs(c:ag):ag:=aa (p6 2 c) 10
def QG(c:ag):ag:=b_ (Fs c) UK
def acX(c:ag):cn:=⟨cB (Fs c) UK,io (QG c),io (hJ (QG c))⟩
def oN(c:ag):eK:=if Uw c=0 then⟨af (Fs c) 8,(oQ c).Name,(oQ c).av,(oQ c).N,(oQ c).aR⟩ else if Uw c=1 then⟨(oQ c).Kind,cB (Fs c) tT,(oQ c).av,(oQ c).N,(oQ c).aR⟩
 else if Uw c=2 then⟨(oQ c).Kind,(oQ c).Name,(oQ c).av,g_ (Fs c) VK,(oQ c).aR⟩ else if Uw c=3 then⟨(oQ c).Kind,(oQ c).Name,(oQ c).av,(oQ c).N,cB (Fs c) tT⟩
 else if Uw c=4 then⟨(oQ c).Kind,(oQ c).Name,(oQ c).av++[acX c],(oQ c).N,(oQ c).aR⟩ else oQ c
def nt(c:ag):ag:=if Uw c=0 then aa (Fs c) 8 else if Uw c=1 then b_ (Fs c) tT else if Uw c=2 then kE (Fs c) VK else if Uw c=3 then b_ (Fs c) tT else if Uw c=4 then hJ (hJ (QG c)) else Fs c
theorem OH{c:ag}(h:bh c):bh (Fs c):=ao (yK 2 h) 10
theorem Tn{c:ag}(h:bh c):bh (nt c):=by
 have he:=OH h
 unfold nt
 repeat' split
 all_goals first
  |exact ao he _
  |exact ed he _
  |exact iV he _
  |exact qM (qM (ed he _))
  |exact he
theorem Nu(c:ag):iP (fP c)<=81:=by
 have h1:fz (eI c)<=40:=uk (n7 _)
 have h2:∀d,fz (eI d)<=40:=fun d=>uk (n7 d)
 have h3:∀d,(cB d DZ).size<=1:=fun d=>by
  have:=eN d (l:=DZ) (fun s=>decide (s.size<=1)) (by decide) (by rfl)
  simpa using this
 unfold fP
 split
 ·have:=h2 (b_ (aa (df c) 4) DZ)
  have:=h3 (aa (df c) 4)
  simp only[iP];omega
 ·have:fz mG=0:=rfl
  have:aj.size=0:=rfl
  simp only[iP];omega
theorem Nt{l:List cn}{B:Nat}(h:∀a∈l,iP a<=B):kK l<=l.length*(B+1):=by
 have:=wL iP B l h
 simp only[kK,Nat.mul_add];omega
theorem L0(c:ag):hU (oQ c)<=200/\(oQ c).Name.size<=6/\(oQ c).aR.size<=6/\(∀a∈(oQ c).av,iP a<=81)/\(oQ c).av.length<=2:=by
 have h1:(ir c).size<=6:=by
  have:=eN (kE c pH) (l:=HB) (fun s=>decide (s.size<=6)) (by decide) (by rfl)
  exact yT this
 have h2:(ua c).size<=6:=by
  unfold ua
  split
  ·have:=eN (aa (oq c) 2) (l:=qu) (fun s=>decide (s.size<=6)) (by decide) (by rfl)
   simpa using this
  ·exact Nat.zero_le _
 have h3:∀a∈mY c,iP a<=81:=nD (fun a=>iP a<=81) Nu _ _ _ (by simp)
 have h4:=Av c
 have h5:=Nt h3
 have h6:kK []=0:=rfl
 have h7:aj.size=0:=rfl
 unfold oQ xh
 split
 ·exact⟨by simp only[hU];omega,by rw[h7];omega,by rw[h7];omega,by simp,by simp⟩
 ·split
  ·exact⟨by simp only[hU];omega,by rw[h7];omega,by rw[h7];omega,by simp,by simp⟩
  ·exact⟨by simp only[hU];omega,h1,h2,h3,h4⟩
theorem QF(c:ag):hU (oN c)<=400:=by
 obtain⟨h1,h2,h3,h4,h5⟩:=L0 c
 have hs:=Nt h4
 have e1:=Iy (Fs c)
 unfold oN
 split
 ·simp only[hU];omega
 ·split
  ·simp only[hU];omega
  ·split
   ·simp only[hU];omega
   ·split
    ·simp only[hU];omega
    ·split
     ·have hx:iP (acX c)<=81:=by
       have g1:fz (io (QG c))<=40:=NE (yO _)
       have g2:fz (io (hJ (QG c)))<=40:=NE (yO _)
       have g3:=Wq (Fs c)
       simp only[acX,iP];omega
      have:=Nt (l:=(oQ c).av++[acX c]) (B:=81) (fun a ha=>by
       rcases jO.1 ha with ha|ha
       ·exact h4 a ha
       ·rw[mF.1 ha];exact hx)
      simp only[kI,fY,fG] at this
      simp only[hU];omega
     ·omega
def mU(r:aY)(c:ag):aY:=
 if af c 10=0 then⟨cB (aa c 10) tT,r.jq,r.aD,r.aO,r.bH⟩ else if af c 10=1 then⟨r.Name,g_ (aa c 10) VJ,r.aD,r.aO,r.bH⟩
 else if af c 10=2 then⟨r.Name,r.jq,r.aD++[qe (aa c 10)],r.aO,r.bH⟩ else if af c 10=3 then⟨r.Name,r.jq,r.aD,r.aO++[dz (aa c 10)],r.bH⟩
 else if af c 10=4 then⟨r.Name,r.jq,r.aD,r.aO,r.bH++[oN (aa c 10)]⟩ else if af c 10=5 then⟨r.Name,r.jq,r.aD.modify 0 (fun p=>⟨p.Kind,p.av,true⟩),r.aO,r.bH⟩
 else if af c 10=6 then⟨r.Name,r.jq,r.aD,r.aO,[]⟩ else r
def gy(c:ag):ag:=
 if af c 10=0 then b_ (aa c 10) tT else if af c 10=1 then kE (aa c 10) VJ else if af c 10=2 then qw (aa c 10) else if af c 10=3 then iz (aa c 10)
 else if af c 10=4 then nt (aa c 10) else aa c 10
theorem Hj{c:ag}(h:bh c):bh (gy c):=by
 have he:=ao h 10
 unfold gy
 split
 ·exact ed he _
 ·split
  ·exact iV he _
  ·split
   ·exact Tj he
   ·split
    ·exact Qx he
    ·split
     ·exact Tn he
     ·exact he
theorem rB{α:Type}(f:α->Nat)(l:List α)(a:α):(l++[a]).length+((l++[a]).map f).sum=(l.length+(l.map f).sum)+(1+f a):=by
 simp only[kI,Mp,zet,fY,fG,wb,List.map_nil,Mr,List.sum_nil];omega
theorem Fg{r:aY}{c:ag}(h:bh c):eg (mU r c)<=eg r+700:=by
 have he:=ao h 10
 unfold mU
 split
 ·have:=Iy (aa c 10);simp only[eg];omega
 ·split
  ·simp only[eg];omega
  ·split
   ·have h1:=Px he
    have h2:kB (r.aD++[qe (aa c 10)])=kB r.aD+(1+kq (qe (aa c 10))):=rB kq _ _
    simp only[eg];omega
   ·split
    ·have h1:=M6 (aa c 10)
     have h2:vm (r.aO++[dz (aa c 10)])=vm r.aO+(1+n9 (dz (aa c 10))):=rB n9 _ _
     simp only[eg];omega
    ·split
     ·have h1:=QF (aa c 10)
      have h2:rE (r.bH++[oN (aa c 10)])=rE r.bH+(1+hU (oN (aa c 10))):=rB hU _ _
      simp only[eg];omega
     ·split
      ·have h2:kB (r.aD.modify 0 (fun p=>⟨p.Kind,p.av,true⟩))=kB r.aD:=by
        simp only[kB,Mg]
        rw[oE kq (fun p=>⟨p.Kind,p.av,true⟩) (fun x=>rfl)]
       simp only[eg];omega
      ·split
       ·have h2:rE []=0:=rfl
        simp only[eg];omega
       ·omega
def lB(c:ag):aY:=if ca (nA (b_ c oB)) 3=true then mU (my (cB c oB) (b_ c oB)) (aa (nA (b_ c oB)) 3) else my (cB c oB) (b_ c oB)
def oD(c:ag):ag:=if ca (nA (b_ c oB)) 3=true then gy (aa (nA (b_ c oB)) 3) else aa (nA (b_ c oB)) 3
theorem Qw{c:ag}(h:bh c):bh (oD c):=by
 have he:=ao (yI (ed h oB)) 3
 unfold oD
 split
 ·exact Hj he
 ·exact he
theorem Kk(c:ag):fT (my (cB c oB) (b_ c oB))=true:=Kj (by
 have:=eN c (l:=oB) (fun s=>bq s) (by decide) (by rfl)
 exact this) _
theorem MA{c:ag}(h:bh c):eg (lB c)<=5700:=by
 have he:=ao (yI (ed h oB)) 3
 have h1:=Rf (Kk c)
 unfold lB
 split
 ·have:=Fg (r:=my (cB c oB) (b_ c oB)) he;omega
 ·omega
def deK(c:ag):Int:=af (jC c) 10
def Hd(c:ag):ag:=aa (jC c) 10
def qj(c:ag):bp:=if deK c=0 then⟨cB (Hd c) Pe,(cE c).aw⟩ else if deK c=1 then⟨(cE c).Name,(cE c).aw++[lB (Hd c)]⟩ else if deK c=2 then⟨(cE c).Name,(cE c).aw.set 0 (mU ((cE c).aw.getD 0 cq) (Hd c))⟩ else if deK c=3 then⟨(cE c).Name,[]⟩ else cE c
def jL(c:ag):ag:=if deK c=0 then b_ (Hd c) Pe else if deK c=1 then oD (Hd c) else if deK c=2 then gy (Hd c) else Hd c
theorem Iw{c:ag}(h:bh c):bh (Hd c):=ao (yJ h) 10
theorem Tk{c:ag}(h:bh c):bh (jL c):=by
 have he:=Iw h
 unfold jL
 split
 ·exact ed he _
 ·split
  ·exact Qw he
  ·split
   ·exact Hj he
   ·exact he
theorem E4(c:ag):1<=(cE c).aw.length/\(cE c).aw.length<=12/\∀r∈(cE c).aw,fT r=true:=by
 have h:=yw c
 simp only[fQ,cO,decide_eq_true_eq] at h
 refine⟨h.1.2.1,h.1.2.2,fun r hr=> ?_⟩
 obtain⟨i,hi,rfl⟩:=sn hr
 have:=gg.1 h.2 i hi
 simp only[jD,cO] at this
 rw[eX,fH hi] at this
 exact this.1
theorem Pa{α:Type}(f:α->Nat)(l:List α)(a:α):((l.set 0 a).map f).sum<=(l.map f).sum+f a:=by
 cases l with
 |nil=>simp
 |cons x l=>simp only[List.set_cons_zero,wb,Mr];omega
theorem Qp{c:ag}(h:bh c):cG (qj c)<=70000:=by
 have he:=Iw h
 have h0:=(E5 c).2.2
 unfold qj
 split
 ·have:=Wp (Hd c);simp only[cG] at h0⊢;omega
 ·split
  ·have h1:=MA he
   have h2:j_ ((cE c).aw++[lB (Hd c)])=j_ (cE c).aw+(1+eg (lB (Hd c))):=rB eg _ _
   simp only[cG] at h0⊢;omega
  ·split
   ·have hr:=E4 c
    have h1:=Fg (r:=(cE c).aw.getD 0 cq) he
    have h3:=Rf (hr.2.2 _ (gP (z:=cq) (show 0<(cE c).aw.length by omega)))
    have h2:=Pa eg (cE c).aw (mU ((cE c).aw.getD 0 cq) (Hd c))
    simp only[cG,j_,Md] at h0⊢;omega
   ·split
    ·have h2:j_ []=0:=rfl
     simp only[cG] at h0⊢;omega
    ·omega
def LS:BA:=⟨#[102,117,108,108]⟩
def nj(n:Int):aJ:=⟨LS,[⟨1,n,aj⟩]⟩
def tP:Nat->aF->aF
 |0,s=>s
 |k+1,s=>tP k (cp s (nj s.ab.length))
def sJ(s:aF):Prop:=∀x∈s.ab,∀n:Int,x.F=nj n->n<s.ab.length
theorem Qj{s:aF}(h:sJ s):iS s.ab (nj s.ab.length)=0:=by
 rcases ik s.ab.length (fun k=>decide ((s.ab.getD k aX).F=nj s.ab.length)) with⟨g,_⟩|⟨m,g1,g2,g3,_⟩
 ·exact if_pos g
 ·have:=h _ (gP (z:=aX) g1) _ (yT g3);omega
theorem uO{s:aF}(h:sJ s):cp s (nj s.ab.length)=⟨s.ab++[⟨s.Next,nj s.ab.length⟩],s.Next+1⟩:=by
 unfold cp;rw[Qj h,if_neg (by omega)]
theorem Ei{s:aF}(h:sJ s):sJ (cp s (nj s.ab.length)):=by
 rw[uO h]
 intro x hx n hn
 simp only[kI,fY,fG]
 rcases jO.1 hx with hx|hx
 ·have:=h x hx n hn;omega
 ·rw[mF.1 hx] at hn
  simp only[nj,aJ.mk.injEq,zdd,a_.mk.injEq] at hn
  omega
theorem uq:∀(k:Nat)(s:aF)(c:ag),(∀x∈s.ab,x.F.Kind≠LS)->∀x∈(ld k s c).ab,x.F.Kind≠LS
 |0,_,_,h=>h
 |k+1,s,c,h=>by
  rw[ld];split
  ·exact uq k _ _ fun x hx=>h x (zr.1 hx).1
  ·refine uq k _ _ ?_
   unfold cp;split
   ·exact h
   ·intro x hx
    rcases jO.1 hx with hx|hx
    ·exact h x hx
    ·rw[mF.1 hx]
     have:=eN (aa c 5) (l:=cZ) (fun s=>decide (s≠LS)) (by decide) (by decide)
     exact yT this
theorem wq(c:ag):sJ (di c):=by
 intro x hx n hn
 exact absurd (congrArg aJ.Kind hn) (uq _ ⟨[],1⟩ _ (by simp) x hx)
def stK(c:ag):Int:=af (kJ c) 12
def Ke(c:ag):ag:=aa (kJ c) 12
noncomputable def lf(c:ag):aF:=if stK c=0 then⟨(di c).ab,g_ (Ke c) Se⟩ else if stK c=1 then⟨(di c).ab++[⟨af (Ke c) 9,mq (aa (Ke c) 9)⟩],(di c).Next⟩ else if stK c=2 then tP (40-(di c).ab.length) (di c) else di c
noncomputable def kp(c:ag):ag:=if stK c=0 then kE (Ke c) Se else if stK c=1 then ku (aa (Ke c) 9) else Ke c
theorem Oy{c:ag}(h:bh c):bh (Ke c):=ao (E9 h) 12
theorem NB{c:ag}(h:bh c):bh (kp c):=by
 have he:=Oy h
 unfold kp
 split
 ·exact iV he _
 ·split
  ·exact Fb (ao he 9)
  ·exact he
def Ki(s:aF):Prop:=∀x∈s.ab,dj x.F<=145
theorem AR{s:aF}{f:aJ}(h:Ki s)(hf:dj f<=145):Ki (cp s f):=by
 unfold cp;split
 ·exact h
 ·intro x hx
  rcases jO.1 hx with hx|hx
  ·exact h x hx
  ·rw[mF.1 hx];exact hf
theorem uw:∀(k:Nat)(s:aF)(c:ag),Ki s->Ki (ld k s c)
 |0,_,_,h=>h
 |k+1,s,c,h=>by
  rw[ld];split
  ·exact uw k _ _ fun x hx=>h x (zr.1 hx).1
  ·exact uw k _ _ (AR h (o7 (oh _)).2)
theorem Lm:∀(k:Nat){s:aF},sJ s->Ki s->s.ab.length+k<=40->Ki (tP k s)/\(tP k s).ab.length<=40
 |0,s,_,h,hl=>⟨h,by simp only[tP];omega⟩
 |k+1,s,hn,h,hl=>by
  have e:=uO hn
  refine Lm k (Ei hn) (AR h (by show LS.size+eO [⟨1,_,aj⟩]<=145;exact(by decide:(4+(1+0):Nat)<=145))) ?_
  rw[e];simp only[kI,fY,fG];omega
theorem yl{s:aF}(h:Ki s)(hl:s.ab.length<=40):j9 s<=6000:=by
 have:=wL j0 145 s.ab (fun x hx=>h x hx)
 simp only[j9,bY];omega
theorem Kd{c:ag}(h:bh c):j9 (lf c)<=6000:=by
 have h1:=DT c
 have h2:Ki (di c):=uw _ _ _ (by intro x hx;simp at hx)
 unfold lf
 split
 ·exact yl (s:=⟨(di c).ab,g_ (Ke c) Se⟩) h2 (by show(di c).ab.length<=40;omega)
 ·split
  ·refine yl (fun x hx=> ?_) (by simp only[kI,fY,fG];omega)
   rcases jO.1 hx with hx|hx
   ·exact h2 x hx
   ·rw[mF.1 hx];exact yk (Fo _)
  ·split
   ·obtain⟨g1,g2⟩:=Lm (40-(di c).ab.length) (wq c) h2 (by omega)
    exact yl g1 g2
   ·exact yl h2 (by omega)
def OO(c:ag)(m:Int):Int:=af (instDC c m) 16
def vV(c:ag)(m:Int):ag:=aa (instDC c m) 16
def H3:List Int:=[-1,1000000000,1000000001]
noncomputable def instA(c:ag)(m:Int):aq:=
 if OO c m=0 then⟨(instD c m).S,(instD c m).aC,(instD c m).ap,(instD c m).ax,(instD c m).ay,af (vV c m) 8,(instD c m).cJ⟩
 else if OO c m=1 then Gp (instD c m) (g_ (vV c m) H3)
 else if OO c m=2 then tK (instD c m) (lf (vV c m))
 else if OO c m=3 then qn (instD c m) (rY (vV c m))
 else if OO c m=4 then DD (instD c m) (rX (vV c m))
 else if OO c m=5 then DE (instD c m) ((instD c m).aC++[ll (vV c m)])
 else instD c m
def s8(c:ag)(m:Int):bp:=if OO c m=6 then qj (vV c m) else cE c
noncomputable def instAC(c:ag)(m:Int):ag:=
 if OO c m=0 then aa (vV c m) 8 else if OO c m=1 then kE (vV c m) H3 else if OO c m=2 then kp (vV c m) else if OO c m=3 then o_ (vV c m)
 else if OO c m=4 then nq (vV c m) else if OO c m=5 then nU (vV c m) else if OO c m=6 then jL (vV c m) else vV c m
theorem QA{l:List Int}{p:Int->Bool}{i:Int}(h0:0<=i)(h:i<l.length):(l.drop i.toNat).any p=(p (l.getD i.toNat 0)||(l.drop (i+1).toNat).any p):=by
 have e:(i+1).toNat=i.toNat+1:=by omega
 rw[Uj (by omega),Ux,e,eX,fH (by omega)];rfl
theorem apg{a a':List au}(h:a=a'):Lf [.one (.sl .aB a)] [.one (.sl .aB a')]:=by subst h;exact bf _
def Xu:=cj (α:=(List Int)×Int) (qC (qL .int) (q1 qI)) [.ro,.ro] (fun _=>[]) (fun(l,n)=>⟨[dO (ya l n)],[],[]⟩)
def CX(l:List Int)(n:Int):Int×Unit->Prop:=fun(i,_)=>0<=i/\i<=l.length/\(l.drop i.toNat).any (fun x=>decide (x=n))=ya l n
def Ca(l:List Int)(n:Int):Int×Unit->Nat:=fun(i,_)=>l.length-i.toNat
def aio:AX Xu:=fun(l,n)=>bW [(2,aU [iI 5] (fun _=>CX l n) (Ca l n))]
def agX:HH:=hF Xu func226 [] aio fun x hp hb=>by
 obtain⟨l,n⟩:=x
 have fF:L9 l.length:=iv (hb _ m0)
 have PW:=tg (n:=n) (hb _ m1)
 clear hp hb
 apply vE (CX l n (0,())/\∀(y:Int×PUnit),let q0:=(wrap i64 (y.1+1),());CX l n y->bif decide (y.1<(l.length:Int)) then 0<=y.1/\y.1.toNat<l.length/\bif l.getD y.1.toNat 0==n then Lb true (ya l n) else CX l n q0/\Ca l n q0<Ca l n y else Lb false (ya l n))
 dsimp only
 refine⟨⟨by omega,by omega,rfl⟩,?_⟩
 rintro⟨i,⟨⟩⟩ ⟨h1,h2,hR⟩
 simp only
 refine aQ ?_ ?_<;>intro hc
 ·rw[QA h1 hc] at hR
  rw[wi]
  refine⟨by omega,by omega,bi (fun g=>nv ?_) (fun g=>⟨⟨by omega,by omega,?_⟩,by simp only[Ca];omega⟩)⟩
  ·rw[<-hR,decide_eq_true g,Bool.true_or]
  ·rw[<-hR,decide_eq_false g,Gl]
 ·rw[cy _ (by omega)] at hR
  exact bD hR.symm
def XB:=cj (α:=(List au)×Int) (qC (qL .aB) (q1 qI)) [.ro,.ro] (fun(l,id)=>[l.length<=4294967295,∀m∈l,m.eH.length<=4294967295/\m.bu.length<=4294967295]) (fun(l,id)=>⟨[dL .aB (yh l id)],[],[]⟩)
def y8(l:List au)(id:Int):List au×Int×Unit->Prop:=fun(out,i,_)=>0<=i/\i<=l.length/\out=(l.take i.toNat).filter (fun m=> !ya m.eH id)
def tj(l:List au)(id:Int):List au×Int×Unit->Nat:=fun(out,i,_)=>l.length-i.toNat
def aiw:AX XB:=fun(l,id)=>bW [(3,aU [iO 5 .aB,iI 6] (fun _=>y8 l id) (tj l id))]
def ag6:HH:=hF XB func214 [agX,Yt] aiw fun x hp hb=>by
 obtain⟨l,id⟩:=x
 have fF:L9 l.length:=iv (hb _ m0)
 have Oi:=tg (n:=id) (hb _ m1)
 have bo:l.length<=4294967295:=hp _ m0
 have fw:∀m∈l,m.eH.length<=4294967295/\m.bu.length<=4294967295:=hp _ m1
 clear hp hb
 apply vE (y8 l id ([],0,())/\∀(y:List au×Int×PUnit),let x1:=y.2.1.toNat;let x0:=l.getD x1 aV;let q0:=(y.1++[x0],wrap i64 (y.2.1+1),());let q1:=(y.1,wrap i64 (y.2.1+1),());y8 l id y->bif decide (y.2.1<(l.length:Int)) then 0<=y.2.1/\x1<l.length/\bif !ya x0.eH id then 0<=y.2.1/\x1<l.length/\L4 x0.eH.length/\L4 x0.bu.length/\y.1.length+List.length [x0]<=4294967296/\y8 l id q0/\tj l id q0<tj l id y else y8 l id q1/\tj l id q1<tj l id y else Lf [VL .aB y.1] [VL .aB (yh l id)])
 dsimp only
 refine⟨⟨by omega,by omega,rfl⟩,?_⟩
 rintro⟨out,i,⟨⟩⟩ ⟨h1,h2,rfl⟩
 simp only
 refine aQ ?_ ?_<;>intro hc
 ·have hn:i.toNat<l.length:=by omega
  have hs:=mn (fun m:au=> !ya m.eH id) (l:=l) (i:=i.toNat) aV hn
  have e:(i+1).toNat=i.toNat+1:=by omega
  have hm:=fw _ (gP (z:=aV) hn)
  have hle:=Mq (fun m:au=> !ya m.eH id) (l.take i.toNat)
  rw[oz] at hle
  rw[wi]
  refine⟨by omega,by omega,bE (fun g=> ?_) (fun g=> ?_)⟩
  ·have g':(!ya (l.getD i.toNat aV).eH id)=true:=by rw[show ya (l.getD i.toNat aV).eH id=false from g];rfl
   exact⟨by omega,by omega,by omega,by omega,by simp only[fY,fG];omega,⟨by omega,by omega,by rw[e,hs,if_pos g']⟩,by simp only[tj];omega⟩
  ·have g':¬(!ya (l.getD i.toNat aV).eH id)=true:=by rw[show ya (l.getD i.toNat aV).eH id=true from g];decide
   exact⟨⟨by omega,by omega,by rw[e,hs,if_neg g',xr]⟩,by simp only[tj];omega⟩
 ·rw[cM l (by omega)]
  exact apg rfl
end
end AM
