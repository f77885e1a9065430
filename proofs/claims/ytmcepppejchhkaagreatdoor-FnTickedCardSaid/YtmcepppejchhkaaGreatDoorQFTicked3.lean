import Derived.Test.YtmcepppejchhkaaGreatDoorQAmLib
import Derived.Test.YtmcepppejchhkaaGreatDoorQFTicked2
import Derived.Lib.ItoaLen
import Derived.Lib.Join
import Derived.Test.YtmcepppejchhkaaGreatDoorQShelf
namespace AM
open Go Go.Proofs.Tryz Go.IntKind
set_option linter.unusedVariables false
set_option linter.unusedSimpArgs false
set_option maxRecDepth 100000
noncomputable section
theorem HL(x:Int):0<=AZ x/\AZ x<=255:=by
 unfold AZ
 have h:(BitVec.ofInt 64 x&&&BitVec.ofInt 64 255).toNat<=255:=by
  rw[BitVec.toNat_and]
  exact uN Nat.and_le_right (by decide)
 have h':(BitVec.ofInt (IntKind.bits .i64) x&&&BitVec.ofInt (IntKind.bits .i64) 255).toNat<=255:=h
 rw[wi]
 omega
theorem sC(c:ah):0<=iS c/\iS c<=255:=by
 unfold iS
 split
 ·exact HL _
 ·exact HL _
theorem tN{c:ah}(h:0<=c.i):0<=(ew c).i:=by
 simp only[ew];split<;>omega
def af(c:ah)(n:Int):Int:=if n<=0 then 0 else if n<=256 then Int.tmod (iS c) n else Int.tmod (iS c*65536+iS (ew c)*256+iS (ew (ew c))) n
def aa(c:ah)(n:Int):ah:=if n<=0 then c else if n<=256 then ew c else ew (ew (ew c))
theorem Tx{c:ah}(h:0<=c.i)(n:Int):0<=(aa c n).i:=by
 unfold aa
 split
 ·exact h
 ·split
  ·exact tN h
  ·exact tN (tN (tN h))
theorem bz{c:ah}{n:Int}(h:0<n):0<=af c n/\af c n<n:=by
 have h1:=sC c;have h2:=sC (ew c);have h3:=sC (ew (ew c))
 unfold af
 rw[if_neg (by omega)]
 split
 ·rw[zbp (by omega)];exact⟨Int.emod_nonneg _ (by omega),Int.emod_lt_of_pos _ h⟩
 ·rw[zbp (by omega)];exact⟨Int.emod_nonneg _ (by omega),Int.emod_lt_of_pos _ h⟩
def ahd:=bW (α:=List Int) (q1 (qL .byte)) [.ro] (fun code=>[L4 code.length]) (fun code=>⟨[.box [.sl .byte ((iA code)).b,.lit (.int .i64 ((iA code)).i),.lit (.int .i64 ((iA code)).h)]],[],[]⟩)
def Ke(code:List Int):Int×Int×Unit->Prop:=fun(h,i,_)=>0<=i/\i<=code.length/\i<=4000/\h=(code.take i.toNat).foldl VO (354354+code.length)
def Jx(code:List Int):Int×Int×Unit->Nat:=fun(h,i,_)=>code.length-i.toNat
def aqs:AX ahd:=fun code=>bS [(3,aT [iI 3,iI 4] (fun _=>Ke code) (Jx code))]
def apI:HH:=hF ahd func13 [] aqs fun(code:List Int) hp hb=>by
 have Iv:L9 code.length:=kG (hb _ m0)
 have bo:code.length<=4294967296:=hp _ m0
 clear hp hb
 apply vE (let q0:=IntKind.bits IntKind.i64;Ke code (wrap i64 (354354+(code.length:Int)),0,())/\∀(y:Int×Int×PUnit),let x0:=y.2.1.toNat;let q1:=(wrap i64 (↑(BitVec.toNat (BitVec.ofInt q0 (wrap i64 (wrap i64 (wrap i64 (y.1*137)+wrap i64 (code.getD x0 0))+11))&&&BitVec.ofInt q0 1073741823)):Int),wrap i64 (y.2.1+1),());let q2:=Lf [DV.box [CL .byte code,CI 0,CI y.1]] [bU (iA code)];Ke code y->bif decide (y.2.1<(code.length:Int)) then bif decide (y.2.1<4000) then 0<=y.2.1/\x0<code.length/\Ke code q1/\Jx code q1<Jx code y else q2 else q2)
 dsimp only
 refine⟨⟨by omega,by omega,by omega,by rw[wi];rfl⟩,?_⟩
 rintro⟨h,i,⟨⟩⟩ ⟨h1,h2,h3,rfl⟩
 simp only
 have hE:(i=code.length\/i=4000)->(code.take i.toNat).foldl VO (354354+code.length)=(iA code).h:=by
  intro hh
  show _=(code.take 4000).foldl VO (354354+code.length)
  rcases hh with hh|hh
  ·rw[Ut (by omega),Ut (by omega)]
  ·rw[hh];rfl
 refine ae (fun hc=>ae (fun hd=> ?_) (fun hd=> ?_)) (fun hc=> ?_)
 ·have hc:=yT hc;have hd:=yT hd
  rw[wi (n:=i+1)]
  refine⟨h1,by omega,⟨by omega,by omega,by omega,?_⟩,by simp only[Jx];omega⟩
  rw[<-dl code 0 h1 (by omega),List.foldl_append]
  rfl
 ·have hc:=yT hc;have hd:=yF hd
  rw[hE (by omega)];exact aY _
 ·have hc:=yF hc
  rw[hE (by omega)];exact aY _
def aht:=bW (α:=ah) (q1 qU) [.box false] (fun c=>[0<=c.i,L4 c.b.length]) (fun c=>⟨[dI (iS c)],[],[dU (ew c)]⟩)
def ajr:HH:=hF aht func104 [] a0 fun(c:ah) hp hb=>by
 have qb:=QP (x:=c) (hb _ m0)
 have bo:0<=c.i:=hp _ m0
 have eJ:c.b.length<=4294967296:=hp _ m1
 clear hp hb
 apply vE (let x1:=wrap i64 (wrap i64 (c.h*6364136223846793005)+1442695040888963407);let x0:=wrap i64 (↑(BitVec.toNat (BitVec.ofInt (IntKind.bits IntKind.i64) (wrap i64 (↑(BitVec.toNat (BitVec.ofInt (IntKind.bits IntKind.i64) (Int.fdiv x1 (2^min (Int.toNat 33) (IntKind.bits IntKind.i64)))^^^BitVec.ofInt (IntKind.bits IntKind.i64) (Int.fdiv x1 (2^min (Int.toNat 47) (IntKind.bits IntKind.i64))))):Int))&&&BitVec.ofInt (IntKind.bits IntKind.i64) 255)):Int);(0:Int)<=(33:Int)/\(0:Int)<=(47:Int)/\bif decide (c.i<(c.b.length:Int)) then 0<=c.i/\c.i.toNat<c.b.length/\LM [VI (wrap i64 (↑(BitVec.toNat (BitVec.ofInt (IntKind.bits IntKind.i64) (wrap i64 (x0+wrap i64 (c.b.getD c.i.toNat 0)))&&&BitVec.ofInt (IntKind.bits IntKind.i64) 255)):Int))] [VI (iS c)] [DV.box [CL .byte c.b,CI (wrap i64 (c.i+1)),CI x1]] [DV.box [CL .byte (ew c).b,CI ((ew c).i),CI ((ew c).h)]] else LM [VI x0] [VI (iS c)] [DV.box [CL .byte c.b,CI c.i,CI x1]] [DV.box [CL .byte (ew c).b,CI ((ew c).i),CI ((ew c).h)]])
 dsimp only
 refine⟨by omega,by omega,ae (fun h=> ?_) (fun h=> ?_)⟩
 ·have h:=yT h
  have e1:iS c=AZ (IntKind.wrap .i64 (VN (Lj c.h)+IntKind.wrap .i64 (c.b.getD c.i.toNat 0))):=if_pos h
  have e2:(ew c).i=c.i+1:=if_pos h
  rw[e1,e2,wi (n:=c.i+1)]
  exact⟨bo,by omega,rfl,rfl,rfl⟩
 ·have h:=yF h
  have e1:iS c=VN (Lj c.h):=if_neg h
  have e2:(ew c).i=c.i:=if_neg h
  rw[e1,e2]
  exact⟨rfl,rfl,rfl⟩
def aoG:=bW (α:=ah×Int) (qC qU (q1 qI)) [.box false,.ro] (fun(c,n)=>[0<=c.i,L4 c.b.length]) (fun(c,n)=>⟨[dI (af c n)],[],[dU (aa c n)]⟩)
def nE:HH:=hF aoG func44 [ajr] a0 fun x hp hb=>by
 obtain⟨c,n⟩:=x
 have bo:0<=c.i:=hp _ m0
 have eJ:c.b.length<=4294967296:=hp _ m1
 clear hp hb
 apply vE (let q0:=aa c n;let q1:=ew (ew c);bif decide (n<=0) then LM [VI 0] [VI (af c n)] [DV.box [CL .byte c.b,CI c.i,CI c.h]] [DV.box [CL .byte q0.b,CI (q0.i),CI (q0.h)]] else bif decide (n<=256) then 0<=c.i/\L4 c.b.length/\n≠0/\LM [VI (Int.tmod (iS c) n)] [VI (af c n)] [DV.box [CL .byte (ew c).b,CI ((ew c).i),CI ((ew c).h)]] [DV.box [CL .byte q0.b,CI (q0.i),CI (q0.h)]] else 0<=c.i/\L4 c.b.length/\0<=(ew c).i/\(ew c).b.length<=4294967296/\0<=q1.i/\L4 q1.b.length/\n≠0/\LM [VI (Int.tmod (wrap i64 (wrap i64 (wrap i64 (iS c*65536)+wrap i64 (iS (ew c)*256))+iS q1)) n)] [VI (af c n)] [DV.box [CL .byte (ew q1).b,CI ((ew q1).i),CI ((ew q1).h)]] [DV.box [CL .byte q0.b,CI (q0.i),CI (q0.h)]])
 dsimp only
 have b1:=sC c;have b2:=sC (ew c);have b3:=sC (ew (ew c))
 refine ae (fun h=> ?_) (fun h=>ae (fun h2=> ?_) (fun h2=> ?_))
 ·have h:=yT h
  have e1:af c n=0:=if_pos h
  have e2:aa c n=c:=if_pos h
  rw[e1,e2];exact⟨rfl,rfl,rfl⟩
 ·have h:=yF h;have h2:=yT h2
  have e1:af c n=Int.tmod (iS c) n:=by rw[af,if_neg h,if_pos h2]
  have e2:aa c n=ew c:=by rw[aa,if_neg h,if_pos h2]
  rw[e1,e2];exact⟨bo,eJ,by omega,rfl,rfl,rfl⟩
 ·have h:=yF h;have h2:=yF h2
  have e1:af c n=Int.tmod (iS c*65536+iS (ew c)*256+iS (ew (ew c))) n:=by rw[af,if_neg h,if_neg h2]
  have e2:aa c n=ew (ew (ew c)):=by rw[aa,if_neg h,if_neg h2]
  have w1:IntKind.wrap .i64 (iS c*65536)=iS c*65536:=wi
  have w2:IntKind.wrap .i64 (iS (ew c)*256)=iS (ew c)*256:=wi
  rw[w1,w2,e1,e2,wi (n:=iS c*65536+iS (ew c)*256),wrap_i64 (n:=iS c*65536+iS (ew c)*256+iS (ew (ew c))) (by omega) (by omega)]
  exact⟨bo,eJ,tN bo,eJ,tN (tN bo),eJ,by omega,rfl,rfl,rfl⟩
def aoQ:=bW (α:=ah×(List Int)) (qC qU (q1 (qL .int))) [.box false,.ro] (fun(c,list)=>[0<=c.i,L4 c.b.length,1<=list.length]) (fun(c,list)=>⟨[dI (list.getD (af c list.length).toNat 0)],[],[dU (aa c list.length)]⟩)
def B4:HH:=hF aoQ func16 [nE] a0 fun x hp hb=>by
 obtain⟨c,list⟩:=x
 have qb:=QP (x:=c) (hb _ m0)
 have V':L9 list.length:=kG (hb _ m1)
 have bo:0<=c.i:=hp _ m0
 have eJ:c.b.length<=4294967296:=hp _ m1
 have G':1<=list.length:=hp _ m2
 clear hp hb
 apply vE (let x0:=aa c (list.length:Int);let q0:=list.getD (Int.toNat (af c (list.length:Int))) 0;0<=c.i/\L4 c.b.length/\0<=af c (list.length:Int)/\Int.toNat (af c (list.length:Int))<list.length/\LM [VI q0] [VI q0] [bU x0] [bU x0])
 dsimp only
 have hb:=bz (c:=c) (n:=list.length) (by omega)
 exact⟨bo,eJ,hb.1,by omega,rfl,rfl,rfl⟩
def bm(c:ah):Prop:=0<=c.i/\c.b.length<=4294967296
theorem au{c:ah}(h:bm c)(n:Int):bm (aa c n):=by
 refine⟨Tx h.1 n,?_⟩
 have:(aa c n).b=c.b:=by
  unfold aa
  split
  ·rfl
  ·split<;>rfl
 rw[this];exact h.2
theorem Cr{code:List Int}(h:code.length<=4294967296):bm (iA code):=⟨Int.le_refl 0,h⟩
def cm(c:ah)(n:Int):Bool:=decide (af c n=0)
def cD(c:ah)(l:List BA):BA:=l.getD (af c l.length).toNat ai
def ck(c:ah)(l:List BA):ah:=aa c l.length
def gS(c:ah)(l:List Int):Int:=l.getD (af c l.length).toNat 0
def kL(c:ah)(l:List Int):ah:=aa c l.length
theorem dQ{c:ah}(h:bm c)(l:List BA):bm (ck c l):=au h _
theorem iR{c:ah}(h:bm c)(l:List Int):bm (kL c l):=au h _
theorem KE(c:ah){l:List BA}(h:0<l.length):cD c l∈l:=by
 have hb:=bz (c:=c) (n:=l.length) (by omega)
 have hi:(af c l.length).toNat<l.length:=by omega
 rw[cD,eV,fE hi]
 exact D5 hi
theorem Sg(c:ah){l:List Int}(h:0<l.length):gS c l∈l:=by
 have hb:=bz (c:=c) (n:=l.length) (by omega)
 have hi:(af c l.length).toNat<l.length:=by omega
 rw[gS,eV,fE hi]
 exact D5 hi
theorem eE(c:ah){l:List BA}(p:BA->Bool)(h0:0<l.length)(h:l.all p=true):p (cD c l)=true:=sP.1 h _ (KE c h0)
theorem sj(c:ah){l:List Int}(p:Int->Bool)(h0:0<l.length)(h:l.all p=true):p (gS c l)=true:=sP.1 h _ (Sg c h0)
def HW:List BA:=[⟨#[97]⟩,⟨#[98]⟩]
def en(c:ah):a_:=if cm c 2 then⟨1,1+af (aa c 2) 3,ai⟩ else⟨2,0,cD (aa c 2) HW⟩
def gQ(c:ah):ah:=if cm c 2 then aa (aa c 2) 3 else ck (aa c 2) HW
theorem k_{c:ah}(h:bm c):bm (gQ c):=by
 unfold gQ;split
 ·exact au (au h _) _
 ·exact dQ (au h _) _
def Xm:List Int:=[0,1,2,3,-1,1000000000,-1000000000]
def Re:List BA:=[⟨#[]⟩,⟨#[97]⟩,⟨#[98]⟩,⟨#[112,97,105,100]⟩,⟨#[120,95,49]⟩]
def lr(c:ah):a_:=if cm c 2 then⟨1,gS (aa c 2) Xm,ai⟩ else⟨2,0,cD (aa c 2) Re⟩
def kH(c:ah):ah:=if cm c 2 then kL (aa c 2) Xm else ck (aa c 2) Re
theorem Cq{c:ah}(h:bm c):bm (kH c):=by
 unfold kH;split
 ·exact iR (au h _) _
 ·exact dQ (au h _) _
def Ol:List Int:=[1000000001,5]
def KL:List BA:=[⟨#[65]⟩,⟨#[97,32,98]⟩,⟨#[116,119,101,110,116,121,111,110,101,98,121,116,101,115,116,119,101,110,116,121,111]⟩,⟨#[120]⟩]
def mb(c:ah):a_:=let v:=lr c;let k:=af (kH c) 10;let d:=aa (kH c) 10;if k=0 then⟨af d 4,v.N,v.S⟩ else if k=1 then⟨v.K,gS d Ol,v.S⟩ else if k=2 then⟨v.K,v.N,cD d KL⟩ else v
def mc(c:ah):ah:=let k:=af (kH c) 10;let d:=aa (kH c) 10;if k=0 then aa d 4 else if k=1 then kL d Ol else if k=2 then ck d KL else d
theorem L7{c:ah}(h:bm c):bm (mc c):=by
 have:=au (Cq h) 10
 simp only[mc];split
 ·exact au this _
 ·split
  ·exact iR this _
  ·split
   ·exact dQ this _
   ·exact this
def cX:List BA:=[⟨#[111,114,100,101,114]⟩,⟨#[112,97,105,100]⟩,⟨#[105,116,101,109]⟩,⟨#[111,114,100,101,114]⟩]
def FM:BA:=⟨#[105,116,101,109]⟩
def s6:Nat->List a_->ah->List a_
 |0,l,_=>l
 |k+1,l,c=>s6 k (l++[en c]) (gQ c)
def B9:Nat->ah->ah
 |0,c=>c
 |k+1,c=>B9 k (gQ c)
theorem FD:∀{k:Nat}{c:ah},bm c->bm (B9 k c)
 |0,_,h=>h
 |k+1,_,h=>FD (k:=k) (k_ h)
def fN(c:ah):Int:=if cm (ck c cX) 12 then af (aa (ck c cX) 12) 6 else if cD c cX=FM then 2 else 1
def yY(c:ah):ah:=if cm (ck c cX) 12 then aa (aa (ck c cX) 12) 6 else aa (ck c cX) 12
def cZ(c:ah):aL:=⟨cD c cX,s6 (fN c).toNat [] (yY c)⟩
def c_(c:ah):ah:=B9 (fN c).toNat (yY c)
theorem HC{c:ah}(h:bm c):bm (yY c):=by
 have:=au (dQ h cX) 12
 unfold yY;split
 ·exact au this _
 ·exact this
theorem l9{c:ah}(h:bm c):bm (c_ c):=FD (HC h)
theorem Bg:∀(k:Nat)(l:List a_)(c:ah),(s6 k l c).length=l.length+k
 |0,_,_=>rfl
 |k+1,l,c=>by rw[s6,Bg k];simp only[kF,fP,fz];omega
theorem AN(c:ah):(cZ c).ag.length=(fN c).toNat:=by
 show(s6 _ _ _).length=_
 rw[Bg];simp
theorem yX(c:ah):0<=fN c/\fN c<=5:=by
 have:=bz (c:=aa (ck c cX) 12) (n:=6) (by omega)
 unfold fN
 split
 ·omega
 ·split<;>omega
noncomputable def xm(l:List a_)(c:ah):List a_×ah:=if h:(l.length:Int)<5+af c 2 then xm (l++[lr (aa c 2)]) (kH (aa c 2)) else(l,aa c 2)
termination_by 6-l.length
decreasing_by
 have:=bz (c:=c) (n:=2) (by omega)
 simp only[kF,fP,fz];omega
theorem EL{l:List a_}{c:ah}(h:(l.length:Int)<5+af c 2):xm l c=xm (l++[lr (aa c 2)]) (kH (aa c 2)):=by rw[xm,dif_pos h]
theorem Ib{l:List a_}{c:ah}(h:¬(l.length:Int)<5+af c 2):xm l c=(l,aa c 2):=by rw[xm,dif_neg h]
theorem OI{l:List a_}{c:ah}(h:bm c):bm (xm l c).2:=by
 by_cases hl:(l.length:Int)<5+af c 2
 ·rw[EL hl];exact OI (Cq (au h _))
 ·rw[Ib hl];exact au h _
termination_by 6-l.length
decreasing_by
 have:=bz (c:=c) (n:=2) (by omega)
 simp only[kF,fP,fz];omega
def Ex:List BA:=[⟨#[]⟩,⟨#[65]⟩,⟨#[116,104,105,114,116,101,101,110,98,121,116,101,115]⟩,⟨#[120]⟩]
noncomputable def pk(c:ah):aL:=let f:=cZ c;let k:=af (c_ c) 10;let d:=aa (c_ c) 10;if k=0 then⟨cD d Ex,f.ag⟩ else if k=1 then⟨f.Kind,f.ag++[mb d]⟩ else if k=2 then⟨f.Kind,(xm f.ag d).1⟩ else f
noncomputable def kz(c:ah):ah:=let f:=cZ c;let k:=af (c_ c) 10;let d:=aa (c_ c) 10;if k=0 then ck d Ex else if k=1 then mc d else if k=2 then(xm f.ag d).2 else d
theorem FF{c:ah}(h:bm c):bm (kz c):=by
 have:=au (l9 h) 10
 simp only[kz];split
 ·exact dQ this _
 ·split
  ·exact L7 this
  ·split
   ·exact OI this
   ·exact this
def ahv:=bW (α:=ah×Int) (qC qU (q1 qI)) [.box false,.ro] (fun(c,n)=>[bm c]) (fun(c,n)=>⟨[dO (cm c n)],[],[dU (aa c n)]⟩)
def sL:HH:=hF ahv func102 [nE] a0 fun x hp hb=>by
 obtain⟨c,n⟩:=x
 have bo:bm c:=hp _ m0
 clear hp hb
 apply vE (0<=c.i/\L4 c.b.length/\LM [VB (af c n==0)] [VB (cm c n)] [bU (aa c n)] [bU (aa c n)])
 exact⟨bo.1,bo.2,rfl,rfl,rfl⟩
def ahr:=bW (α:=ah×(List BA)) (qC qU (q1 (qL .str))) [.box false,.ro] (fun(c,list)=>[bm c,1<=list.length]) (fun(c,list)=>⟨[dS (cD c list)],[],[dU (ck c list)]⟩)
def mS:HH:=hF ahr func109 [nE] a0 fun x hp hb=>by
 obtain⟨c,list⟩:=x
 have qb:=QP (x:=c) (hb _ m0)
 have V':L9 list.length:=kG (hb _ m1)
 have bo:bm c:=hp _ m0
 have eJ:1<=list.length:=hp _ m1
 clear hp hb
 apply vE (let x0:=aa c (list.length:Int);let q0:=(list.length:Int);0<=c.i/\L4 c.b.length/\0<=af c q0/\Int.toNat (af c q0)<list.length/\LM [VS (list.getD (Int.toNat (af c q0)) ai)] [VS (cD c list)] [bU x0] [bU (ck c list)])
 dsimp only
 have hb:=bz (c:=c) (n:=list.length) (by omega)
 exact⟨bo.1,bo.2,hb.1,by omega,rfl,rfl,rfl⟩
def ag2:=bW (α:=ah) (q1 qU) [.box false] (fun c=>[bm c]) (fun c=>⟨[dA .bf (en c)],[],[dU (gQ c)]⟩)
def Mr:HH:=hF ag2 func161 [sL,nE,mS] a0 fun(c:ah) hp hb=>by
 have bo:bm c:=hp _ m0
 clear hp hb
 apply vE (let x1:=[{data:= #[97]:BA},{data:= #[98]:BA}];let x2:=aa (aa c 2) 3;let x0:=ck (aa c 2) x1;let q0:=aa c 2;bm c/\bif cm c 2 then 0<=q0.i/\L4 q0.b.length/\LM [DV.agg [CI 1,CI (wrap i64 (1+af q0 3)),CS ({data:= #[]:BA})]] [DV.agg [CI ((en c).K),CI ((en c).N),CS ((en c).S)]] [bU x2] [bU (gQ c)] else bm q0/\1<=x1.length/\LM [DV.agg [CI 2,CI 0,CS (cD q0 x1)]] [DV.agg [CI ((en c).K),CI ((en c).N),CS ((en c).S)]] [bU x0] [bU (gQ c)])
 dsimp only
 refine⟨bo,ae (fun h=> ?_) (fun h=> ?_)⟩
 ·have hb:=bz (c:=aa c 2) (n:=3) (by omega)
  have h2:=au bo 2
  rw[wi]
  rw[en,gQ,if_pos h,if_pos h];exact⟨h2.1,h2.2,rfl,rfl,rfl⟩
 ·have h2:=au bo 2
  rw[en,gQ,if_neg (by simp[h]),if_neg (by simp[h])];exact⟨h2,by simp,rfl,rfl,rfl⟩
def ag1:=bW (α:=ah) (q1 qU) [.box false] (fun c=>[bm c]) (fun c=>⟨[dA .bf (lr c)],[],[dU (kH c)]⟩)
def Zb:HH:=hF ag1 func165 [sL,B4,mS] a0 fun(c:ah) hp hb=>by
 have bo:bm c:=hp _ m0
 clear hp hb
 apply vE (let x1:=[{data:= #[]:BA},{data:= #[97]:BA},{data:= #[98]:BA},{data:= #[112,97,105,100]:BA},{data:= #[120,95,49]:BA}];let x5:=[0,1,2,3,(-1),1000000000,(-1000000000)];let x0:=ck (aa c 2) x1;let x4:=x5.length;let x3:=(↑x4:Int);let x2:=aa (aa c 2) x3;let q0:=aa c 2;bm c/\bif cm c 2 then 0<=q0.i/\L4 q0.b.length/\1<=x4/\LM [DV.agg [CI 1,CI (x5.getD (Int.toNat (af q0 x3)) 0),CS ({data:= #[]:BA})]] [DV.agg [CI ((lr c).K),CI ((lr c).N),CS ((lr c).S)]] [bU x2] [bU (kH c)] else bm q0/\1<=x1.length/\LM [DV.agg [CI 2,CI 0,CS (cD q0 x1)]] [DV.agg [CI ((lr c).K),CI ((lr c).N),CS ((lr c).S)]] [bU x0] [bU (kH c)])
 dsimp only
 have h2:=au bo 2
 refine⟨bo,ae (fun h=> ?_) (fun h=> ?_)⟩
 ·rw[lr,kH,if_pos h,if_pos h];exact⟨h2.1,h2.2,by simp,rfl,rfl,rfl⟩
 ·rw[lr,kH,if_neg (by simp[h]),if_neg (by simp[h])];exact⟨h2,by simp,rfl,rfl,rfl⟩
def ahq:=bW (α:=ah) (q1 qU) [.box false] (fun c=>[bm c]) (fun c=>⟨[dA .bf (mb c)],[],[dU (mc c)]⟩)
def Zq:HH:=hF ahq func110 [Zb,nE,B4,mS] a0 fun(c:ah) hp hb=>by
 have bo:bm c:=hp _ m0
 clear hp hb
 apply vE (let x1:=[{data:= #[65]:BA},{data:= #[97,32,98]:BA},{data:= #[116,119,101,110,116,121,111,110,101,98,121,116,101,115,116,119,101,110,116,121,111]:BA},{data:= #[120]:BA}];let x2:=aa (kH c) 10;let x6:=[1000000001,5];let x0:=ck x2 x1;let x5:=x6.length;let x4:=(↑x5:Int);let x3:=aa x2 x4;let q0:=(mb c).K;let q1:=(mb c).N;let q2:=(mb c).S;bm c/\0<=(kH c).i/\(kH c).b.length<=4294967296/\bif af (kH c) (10:Int)==(0:Int) then 0<=x2.i/\L4 x2.b.length/\LM [DV.agg [CI (af x2 4),CI ((lr c).N),CS ((lr c).S)]] [DV.agg [CI q0,CI q1,CS q2]] [bU (aa x2 4)] [bU (mc c)] else bif af (kH c) (10:Int)==(1:Int) then 0<=x2.i/\L4 x2.b.length/\1<=x5/\LM [DV.agg [CI ((lr c).K),CI (x6.getD (Int.toNat (af x2 x4)) 0),CS ((lr c).S)]] [DV.agg [CI q0,CI q1,CS q2]] [bU x3] [bU (mc c)] else bif af (kH c) (10:Int)==(2:Int) then bm x2/\1<=x1.length/\LM [DV.agg [CI ((lr c).K),CI ((lr c).N),CS (cD x2 x1)]] [DV.agg [CI q0,CI q1,CS q2]] [bU x0] [bU (mc c)] else LM [DV.agg [CI ((lr c).K),CI ((lr c).N),CS ((lr c).S)]] [DV.agg [CI q0,CI q1,CS q2]] [bU x2] [bU (mc c)])
 dsimp only
 have h2:=Cq bo
 have h3:=au h2 10
 refine⟨bo,h2.1,h2.2,ae (fun h=> ?_) (fun h=>ae (fun h'=> ?_) (fun h'=>ae (fun pg=> ?_) (fun pg=> ?_)))⟩
 ·have h:=eq_of_beq h
  have e1:mb c=⟨af (aa (kH c) 10) 4,(lr c).N,(lr c).S⟩:=by simp only[mb,h,if_true]
  have e2:mc c=aa (aa (kH c) 10) 4:=by simp only[mc,h,if_true]
  rw[e1,e2];exact⟨h3.1,h3.2,rfl,rfl,rfl⟩
 ·have h:¬af (kH c) 10=0:=by simpa using h
  have h':=eq_of_beq h'
  have e1:mb c=⟨(lr c).K,gS (aa (kH c) 10) Ol,(lr c).S⟩:=by simp only[mb];rw[if_neg h,if_pos h']
  have e2:mc c=kL (aa (kH c) 10) Ol:=by simp only[mc];rw[if_neg h,if_pos h']
  rw[e1,e2];exact⟨h3.1,h3.2,by simp,rfl,rfl,rfl⟩
 ·have h:¬af (kH c) 10=0:=by simpa using h
  have h':¬af (kH c) 10=1:=by simpa using h'
  have pg:=eq_of_beq pg
  have e1:mb c=⟨(lr c).K,(lr c).N,cD (aa (kH c) 10) KL⟩:=by simp only[mb];rw[if_neg h,if_neg h',if_pos pg]
  have e2:mc c=ck (aa (kH c) 10) KL:=by simp only[mc];rw[if_neg h,if_neg h',if_pos pg]
  rw[e1,e2];exact⟨h3,by simp,rfl,rfl,rfl⟩
 ·have h:¬af (kH c) 10=0:=by simpa using h
  have h':¬af (kH c) 10=1:=by simpa using h'
  have pg:¬af (kH c) 10=2:=by simpa using pg
  have e1:mb c=lr c:=by simp only[mb];rw[if_neg h,if_neg h',if_neg pg]
  have e2:mc c=aa (kH c) 10:=by simp only[mc];rw[if_neg h,if_neg h',if_neg pg]
  rw[e1,e2];exact⟨rfl,rfl,rfl⟩
def YB:=bW (α:=ah) (q1 qU) [.box false] (fun c=>[bm c]) (fun c=>⟨[dA .db (cZ c)],[],[dU (c_ c)]⟩)
def kB(c:ah):Int×T5×T5×T4×Unit->Prop:=fun(i,r,f,cu,_)=>0<=i/\i<=fN c/\f.1=cD c cX/\bm ⟨cu.1,cu.2.1,cu.2.2.1⟩/\f.2.1.length<=i/\s6 (fN c-i).toNat f.2.1 ⟨cu.1,cu.2.1,cu.2.2.1⟩=(cZ c).ag/\B9 (fN c-i).toNat ⟨cu.1,cu.2.1,cu.2.2.1⟩=c_ c
def lf(c:ah):Int×T5×T5×T4×Unit->Nat:=fun(i,r,f,cu,_)=>(fN c-i).toNat
def akc:AX YB:=fun c=>bS [(8,aT [iI 5,.box 2 (2,1024) [.lit .str,.own .bf true],.box 3 (3,1024) [.lit .str,.own .bf true],.box 0 (2000000,0) [.shr .byte,.lit (.int .i64),.lit (.int .i64)]] (fun _=>kB c) (lf c))]
def Ms:HH:=hF YB func157 [mS,sL,nE,Mr] akc fun(c:ah) hp hb=>by
 have bo:bm c:=hp _ m0
 clear hp hb
 apply vE (let x3:={data:= #[111,114,100,101,114]:BA};let x4:={data:= #[105,116,101,109]:BA};let x2:=[x3,{data:= #[112,97,105,100]:BA},x4,x3];let x1:=ck c x2;let x0:=aa x1 12;let q0:=BA×List a_×PUnit;let q1:=(0,({data:= #[]:BA},[],()),(cD c x2,[],()),((aa x0 6).b,(aa x0 6).i,(aa x0 6).h,()),());let q2:=(0,({data:= #[]:BA},[],()),(cD c x2,[],()),(x0.b,x0.i,x0.h,()),());let q3:=List Int×Int×Int×PUnit;let q4:=(cZ c).Kind;bm c/\1<=x2.length/\bif (cD c x2).toList==x4.toList then bm x1/\bif cm x1 12 then 0<=x0.i/\L4 x0.b.length/\kB c q1/\∀(y:Int×q0×q0×q3×PUnit),let x6:={b:=y.2.2.2.1.1,i:=y.2.2.2.1.2.1,h:=y.2.2.2.1.2.2.1:ah};let x5:=gQ x6;let q5:=(wrap i64 (y.1+1),(y.2.1.1,y.2.1.2.1,()),(y.2.2.1.1,y.2.2.1.2.1++[en x6],()),(x5.b,x5.i,x5.h,()),());kB c y->bif decide (y.1<af x0 6) then bm x6/\y.2.2.1.2.1.length+List.length [en x6]<=4294967296/\kB c q5/\lf c q5<lf c y else LM [DV.agg [CS y.2.2.1.1,CL .bf y.2.2.1.2.1]] [DV.agg [CS q4,CL .bf (cZ c).ag]] [DV.box [CL .byte y.2.2.2.1.1,CI y.2.2.2.1.2.1,CI y.2.2.2.1.2.2.1]] [bU (c_ c)] else kB c q2/\∀(y:Int×q0×q0×q3×PUnit),let x6:={b:=y.2.2.2.1.1,i:=y.2.2.2.1.2.1,h:=y.2.2.2.1.2.2.1:ah};let x5:=gQ x6;let q6:=(wrap i64 (y.1+1),(y.2.1.1,y.2.1.2.1,()),(y.2.2.1.1,y.2.2.1.2.1++[en x6],()),(x5.b,x5.i,x5.h,()),());kB c y->bif decide (y.1<2) then bm x6/\y.2.2.1.2.1.length+List.length [en x6]<=4294967296/\kB c q6/\lf c q6<lf c y else LM [DV.agg [CS y.2.2.1.1,CL .bf y.2.2.1.2.1]] [DV.agg [CS q4,CL .bf (cZ c).ag]] [DV.box [CL .byte y.2.2.2.1.1,CI y.2.2.2.1.2.1,CI y.2.2.2.1.2.2.1]] [bU (c_ c)] else bm x1/\bif cm x1 12 then 0<=x0.i/\L4 x0.b.length/\kB c q1/\∀(y:Int×q0×q0×q3×PUnit),let x6:={b:=y.2.2.2.1.1,i:=y.2.2.2.1.2.1,h:=y.2.2.2.1.2.2.1:ah};let x5:=gQ x6;let q7:=(wrap i64 (y.1+1),(y.2.1.1,y.2.1.2.1,()),(y.2.2.1.1,y.2.2.1.2.1++[en x6],()),(x5.b,x5.i,x5.h,()),());kB c y->bif decide (y.1<af x0 6) then bm x6/\y.2.2.1.2.1.length+List.length [en x6]<=4294967296/\kB c q7/\lf c q7<lf c y else LM [DV.agg [CS y.2.2.1.1,CL .bf y.2.2.1.2.1]] [DV.agg [CS q4,CL .bf (cZ c).ag]] [DV.box [CL .byte y.2.2.2.1.1,CI y.2.2.2.1.2.1,CI y.2.2.2.1.2.2.1]] [bU (c_ c)] else kB c q2/\∀(y:Int×q0×q0×q3×PUnit),let x6:={b:=y.2.2.2.1.1,i:=y.2.2.2.1.2.1,h:=y.2.2.2.1.2.2.1:ah};let x5:=gQ x6;let q8:=(wrap i64 (y.1+1),(y.2.1.1,y.2.1.2.1,()),(y.2.2.1.1,y.2.2.1.2.1++[en x6],()),(x5.b,x5.i,x5.h,()),());kB c y->bif decide (y.1<1) then bm x6/\y.2.2.1.2.1.length+List.length [en x6]<=4294967296/\kB c q8/\lf c q8<lf c y else LM [DV.agg [CS y.2.2.1.1,CL .bf y.2.2.1.2.1]] [DV.agg [CS q4,CL .bf (cZ c).ag]] [DV.box [CL .byte y.2.2.2.1.1,CI y.2.2.2.1.2.1,CI y.2.2.2.1.2.2.1]] [bU (c_ c)])
 dsimp only
 have hk:=dQ bo cX
 have hd:=HC bo
 have hle:=yX c
 have fin:∀(n:Int)(d:ah),fN c=n->yY c=d->
   kB c ((0:Int),(ai,[],PUnit.unit),(cD c cX,[],PUnit.unit),(d.b,d.i,d.h,PUnit.unit),PUnit.unit):=by
  rintro n d rfl rfl
  exact⟨by omega,by omega,rfl,hd,by simp,by simp only[Int.sub_zero];rfl,by simp only[Int.sub_zero];rfl⟩
 refine⟨bo,by simp,?_⟩
 refine ae (fun h=>⟨hk,ae (fun h'=>⟨(au hk 12).1,(au hk 12).2,?_⟩) (fun h'=> ?_)⟩) (fun h=>⟨hk,ae (fun h'=>⟨(au hk 12).1,(au hk 12).2,?_⟩) (fun h'=> ?_)⟩)
 ·have hN:fN c=af (aa (ck c cX) 12) 6:=if_pos h'
  have hD:yY c=aa (aa (ck c cX) 12) 6:=if_pos h'
  refine⟨fin _ _ hN hD,?_⟩
  have hN':af (aa (ck c cX) 12) 6=fN c:=hN.symm
  rintro⟨i,r,⟨fk,fl,⟨⟩⟩,⟨cb,ci,ch,⟨⟩⟩,⟨⟩⟩ ⟨g1,g2,g3,g4,g5,g6,g7⟩
  simp only at g1 g2 g3 g4 g5 g6 g7⊢
  refine ae ?_ ?_<;>intro hc
  ·have hc:i<fN c:=by rw[hN];exact yT hc
   have e:(fN c-i).toNat=(fN c-(i+1)).toNat+1:=by omega
   rw[e] at g6 g7
   rw[wi]
   exact⟨g4,by simp only[fP,fz];omega,⟨by omega,by omega,g3,k_ g4,by simp only[kF,fP,fz];omega,g6,g7⟩,by simp only[lf];omega⟩
  ·have hc:¬i<fN c:=by rw[hN];exact yF hc
   have e:(fN c-i).toNat=0:=by omega
   rw[e] at g6 g7
   have g6:fl=(cZ c).ag:=g6
   have g7:(⟨cb,ci,ch⟩:ah)=c_ c:=g7
   have g3:fk=(cZ c).Kind:=g3
   rw[<-g7,<-g6,<-g3]
   exact⟨by trivial,rfl,rfl⟩
 ·have h:cD c cX=FM:=by rw[aO] at h;exact yT h
  have hN:fN c=2:=by rw[fN,if_neg (by rw[show cm (ck c cX) 12=false from h'];simp),if_pos h]
  have hD:yY c=aa (ck c cX) 12:=if_neg (by rw[show cm (ck c cX) 12=false from h'];simp)
  refine⟨fin _ _ hN hD,?_⟩
  rintro⟨i,r,⟨fk,fl,⟨⟩⟩,⟨cb,ci,ch,⟨⟩⟩,⟨⟩⟩ ⟨g1,g2,g3,g4,g5,g6,g7⟩
  simp only at g1 g2 g3 g4 g5 g6 g7⊢
  refine ae ?_ ?_<;>intro hc
  ·have hc:i<fN c:=by rw[hN];exact yT hc
   have e:(fN c-i).toNat=(fN c-(i+1)).toNat+1:=by omega
   rw[e] at g6 g7
   rw[wi]
   exact⟨g4,by simp only[fP,fz];omega,⟨by omega,by omega,g3,k_ g4,by simp only[kF,fP,fz];omega,g6,g7⟩,by simp only[lf];omega⟩
  ·have hc:¬i<fN c:=by rw[hN];exact yF hc
   have e:(fN c-i).toNat=0:=by omega
   rw[e] at g6 g7
   have g6:fl=(cZ c).ag:=g6
   have g7:(⟨cb,ci,ch⟩:ah)=c_ c:=g7
   have g3:fk=(cZ c).Kind:=g3
   rw[<-g7,<-g6,<-g3]
   exact⟨by trivial,rfl,rfl⟩
 ·have hN:fN c=af (aa (ck c cX) 12) 6:=if_pos h'
  have hD:yY c=aa (aa (ck c cX) 12) 6:=if_pos h'
  refine⟨fin _ _ hN hD,?_⟩
  have hN':af (aa (ck c cX) 12) 6=fN c:=hN.symm
  rintro⟨i,r,⟨fk,fl,⟨⟩⟩,⟨cb,ci,ch,⟨⟩⟩,⟨⟩⟩ ⟨g1,g2,g3,g4,g5,g6,g7⟩
  simp only at g1 g2 g3 g4 g5 g6 g7⊢
  refine ae ?_ ?_<;>intro hc
  ·have hc:i<fN c:=by rw[hN];exact yT hc
   have e:(fN c-i).toNat=(fN c-(i+1)).toNat+1:=by omega
   rw[e] at g6 g7
   rw[wi]
   exact⟨g4,by simp only[fP,fz];omega,⟨by omega,by omega,g3,k_ g4,by simp only[kF,fP,fz];omega,g6,g7⟩,by simp only[lf];omega⟩
  ·have hc:¬i<fN c:=by rw[hN];exact yF hc
   have e:(fN c-i).toNat=0:=by omega
   rw[e] at g6 g7
   have g6:fl=(cZ c).ag:=g6
   have g7:(⟨cb,ci,ch⟩:ah)=c_ c:=g7
   have g3:fk=(cZ c).Kind:=g3
   rw[<-g7,<-g6,<-g3]
   exact⟨by trivial,rfl,rfl⟩
 ·have h:¬cD c cX=FM:=by rw[aO] at h;exact yF h
  have hN:fN c=1:=by rw[fN,if_neg (by rw[show cm (ck c cX) 12=false from h'];simp),if_neg h]
  have hD:yY c=aa (ck c cX) 12:=if_neg (by rw[show cm (ck c cX) 12=false from h'];simp)
  refine⟨fin _ _ hN hD,?_⟩
  rintro⟨i,r,⟨fk,fl,⟨⟩⟩,⟨cb,ci,ch,⟨⟩⟩,⟨⟩⟩ ⟨g1,g2,g3,g4,g5,g6,g7⟩
  simp only at g1 g2 g3 g4 g5 g6 g7⊢
  refine ae ?_ ?_<;>intro hc
  ·have hc:i<fN c:=by rw[hN];exact yT hc
   have e:(fN c-i).toNat=(fN c-(i+1)).toNat+1:=by omega
   rw[e] at g6 g7
   rw[wi]
   exact⟨g4,by simp only[fP,fz];omega,⟨by omega,by omega,g3,k_ g4,by simp only[kF,fP,fz];omega,g6,g7⟩,by simp only[lf];omega⟩
  ·have hc:¬i<fN c:=by rw[hN];exact yF hc
   have e:(fN c-i).toNat=0:=by omega
   rw[e] at g6 g7
   have g6:fl=(cZ c).ag:=g6
   have g7:(⟨cb,ci,ch⟩:ah)=c_ c:=g7
   have g3:fk=(cZ c).Kind:=g3
   rw[<-g7,<-g6,<-g3]
   exact⟨by trivial,rfl,rfl⟩
def YV:=bW (α:=ah) (q1 qU) [.box false] (fun c=>[bm c]) (fun c=>⟨[dA .db (pk c)],[],[dU (kz c)]⟩)
def D4(c:ah):T5×T5×T4×Unit->Prop:=fun(r,f,cu,_)=>f.1=(cZ c).Kind/\bm ⟨cu.1,cu.2.1,cu.2.2.1⟩/\xm f.2.1 ⟨cu.1,cu.2.1,cu.2.2.1⟩=xm (cZ c).ag (aa (c_ c) 10)
def De(c:ah):T5×T5×T4×Unit->Nat:=fun(r,f,cu,_)=>6-f.2.1.length
def akx:AX YV:=fun c=>bS [(8,aT [.box 2 (2,1024) [.lit .str,.own .bf true],.box 3 (3,1024) [.lit .str,.own .bf true],.box 0 (2000000,0) [.shr .byte,.lit (.int .i64),.lit (.int .i64)]] (fun _=>D4 c) (De c))]
def Uf:HH:=hF YV func106 [Ms,nE,mS,Zq,Zb] akx fun(c:ah) hp hb=>by
 have bo:bm c:=hp _ m0
 clear hp hb
 apply vE (let x1:=[{data:= #[]:BA},{data:= #[65]:BA},{data:= #[116,104,105,114,116,101,101,110,98,121,116,101,115]:BA},{data:= #[120]:BA}];let x2:=aa (c_ c) 10;let x0:=ck x2 x1;let q0:=(pk c).Kind;bm c/\0<=(c_ c).i/\(c_ c).b.length<=4294967296/\bif af (c_ c) (10:Int)==(0:Int) then bm x2/\1<=x1.length/\LM [DV.agg [CS (cD x2 x1),CL .bf (cZ c).ag]] [DV.agg [CS q0,CL .bf (pk c).ag]] [bU x0] [bU (kz c)] else bif af (c_ c) (10:Int)==(1:Int) then bm x2/\(cZ c).ag.length+List.length [mb x2]<=4294967296/\LM [DV.agg [CS ((cZ c).Kind),CL .bf ((cZ c).ag++[mb x2])]] [DV.agg [CS q0,CL .bf (pk c).ag]] [bU (mc x2)] [bU (kz c)] else bif af (c_ c) (10:Int)==(2:Int) then D4 c (({data:= #[]:BA},[],()),((cZ c).Kind,(cZ c).ag,()),(x2.b,x2.i,x2.h,()),())/\∀(y:UJ×UJ×O9×PUnit),let x5:={b:=y.2.2.1.1,i:=y.2.2.1.2.1,h:=y.2.2.1.2.2.1:ah};let x7:=y.2.1.2.1.length;let x3:=aa x5 2;let x4:=wrap i64 (5+af x5 2);let x6:=(↑x7:Int);let q1:=((y.1.1,y.1.2.1,()),(y.2.1.1,y.2.1.2.1++[lr x3],()),((kH x3).b,(kH x3).i,(kH x3).h,()),());D4 c y->0<=y.2.2.1.2.1/\L4 y.2.2.1.1.length/\bif decide (x6<x4) then bm x3/\x7+List.length [lr x3]<=4294967296/\D4 c q1/\De c q1<De c y else LM [DV.agg [CS y.2.1.1,CL .bf y.2.1.2.1]] [DV.agg [CS q0,CL .bf (pk c).ag]] [bU x3] [bU (kz c)] else LM [DV.agg [CS ((cZ c).Kind),CL .bf (cZ c).ag]] [DV.agg [CS q0,CL .bf (pk c).ag]] [bU x2] [bU (kz c)])
 dsimp only
 have h2:=l9 bo
 have h3:=au h2 10
 have hle:=yX c
 have hl5:(cZ c).ag.length<=5:=by rw[AN];omega
 refine⟨bo,h2.1,h2.2,ae (fun h=> ?_) (fun h=>ae (fun h'=> ?_) (fun h'=>ae (fun pg=> ?_) (fun pg=> ?_)))⟩
 ·have h:=eq_of_beq h
  have e1:pk c=⟨cD (aa (c_ c) 10) Ex,(cZ c).ag⟩:=by simp only[pk,h,if_true]
  have e2:kz c=ck (aa (c_ c) 10) Ex:=by simp only[kz,h,if_true]
  rw[e1,e2];exact⟨h3,by simp,rfl,rfl,rfl⟩
 ·have h:¬af (c_ c) 10=0:=by simpa using h
  have h':=eq_of_beq h'
  have e1:pk c=⟨(cZ c).Kind,(cZ c).ag++[mb (aa (c_ c) 10)]⟩:=by simp only[pk];rw[if_neg h,if_pos h']
  have e2:kz c=mc (aa (c_ c) 10):=by simp only[kz];rw[if_neg h,if_pos h']
  rw[e1,e2];exact⟨h3,by simp only[fP,fz];omega,rfl,rfl,rfl⟩
 ·have h:¬af (c_ c) 10=0:=by simpa using h
  have h':¬af (c_ c) 10=1:=by simpa using h'
  have pg:=eq_of_beq pg
  have e1:pk c=⟨(cZ c).Kind,(xm (cZ c).ag (aa (c_ c) 10)).1⟩:=by simp only[pk];rw[if_neg h,if_neg h',if_pos pg]
  have e2:kz c=(xm (cZ c).ag (aa (c_ c) 10)).2:=by simp only[kz];rw[if_neg h,if_neg h',if_pos pg]
  rw[e1,e2]
  refine⟨⟨rfl,h3,rfl⟩,?_⟩
  rintro⟨r,⟨fk,fl,⟨⟩⟩,⟨cb,ci,ch,⟨⟩⟩,⟨⟩⟩ ⟨g1,g2,g3⟩
  simp only at g1 g2 g3⊢
  have hb:=bz (c:=⟨cb,ci,ch⟩) (n:=2) (by omega)
  rw[wi (n:=5+af ⟨cb,ci,ch⟩ 2)]
  refine⟨g2.1,g2.2,ae (fun hc=> ?_) (fun hc=> ?_)⟩
  ·have hc:=yT hc
   rw[EL hc] at g3
   exact⟨au g2 2,by simp only[fP,fz];omega,⟨g1,Cq (au g2 2),g3⟩,by simp only[De,kF,fP,fz];omega⟩
  ·have hc:=yF hc
   rw[Ib hc] at g3
   rw[<-g3,<-g1]
   exact⟨by trivial,rfl,rfl⟩
 ·have h:¬af (c_ c) 10=0:=by simpa using h
  have h':¬af (c_ c) 10=1:=by simpa using h'
  have pg:¬af (c_ c) 10=2:=by simpa using pg
  have e1:pk c=cZ c:=by simp only[pk];rw[if_neg h,if_neg h',if_neg pg]
  have e2:kz c=aa (c_ c) 10:=by simp only[kz];rw[if_neg h,if_neg h',if_neg pg]
  rw[e1,e2];exact⟨rfl,rfl,rfl⟩
def Zk4:=bW (α:=List Int) (q1 (qL .byte)) [.ro] (fun _=>[]) (fun code=>⟨[dO (decide (code.length>1048576))],[],[]⟩)
def Zh4:HH:=hF Zk4 func4 [] a0 fun(code:List Int) hp hb=>by
 clear hp hb
 apply vE (Lb (decide ((code.length:Int)>1048576)) (decide (code.length>1048576)))
 exact cg (decide_eq_decide.2 (by omega))
theorem pN(c:ah):bR (en c)=true:=by
 unfold en;split
 ·have:=bz (c:=aa c 2) (n:=3) (by omega)
  simp only[bR,decide_true,cond_true,B6]
  simp only[decide_eq_true_eq];omega
 ·have h:=eE (aa c 2) (l:=HW) (fun s=>decide (s.size<=20)&&qQ s) (by decide) (by rfl)
  simp only[bR]
  simpa using h
theorem Bh{p:a_->Bool}(hp:∀c,p (en c)=true):∀(k:Nat)(l:List a_)(c:ah),l.all p=true->(s6 k l c).all p=true
 |0,_,_,h=>h
 |k+1,l,c,h=>Bh hp k _ _ (by rw[List.all_append,h];simp[hp])
theorem oM(c:ah):bE (cZ c)=true:=by
 have h1:=AN c
 have h2:=yX c
 have h3:bu (cZ c).Kind=true:=eE c (l:=cX) bu (by decide) (by rfl)
 have h4:(cZ c).ag.all bR=true:=Bh pN _ _ _ rfl
 simp only[bE,h3,h4,B6,wQ,decide_eq_true_eq]
 omega
def Ef(v:a_):Bool:=decide (v.S.size<=21)
def abQ(f:aL):Prop:=f.Kind.size<=13/\f.ag.length<=6/\f.ag.all Ef=true
theorem GL{v:a_}(h:bR v=true):Ef v=true:=by
 simp only[bR] at h
 simp only[Ef,decide_eq_true_eq]
 by_cases h1:v.K=1
 ·simp[h1] at h;rw[h.2];simp[ai]
 ·by_cases h2:v.K=2
  ·simp[h2] at h;omega
  ·simp[h1,h2] at h
theorem Kt(c:ah):Ef (lr c)=true:=by
 unfold lr;split
 ·rfl
 ·exact eE (aa c 2) (l:=Re) (fun s=>decide (s.size<=21)) (by decide) (by rfl)
theorem HK(c:ah):Ef (mb c)=true:=by
 have h:=Kt c
 simp only[mb];split
 ·exact h
 ·split
  ·exact h
  ·split
   ·exact eE _ (l:=KL) (fun s=>decide (s.size<=21)) (by decide) (by rfl)
   ·exact h
theorem Ie{f:aL}(h:bE f=true):abQ f:=by
 obtain⟨h1,h2,h3,h4⟩:=jc h
 exact⟨by omega,by omega,sP.2 fun v hv=>GL (sP.1 h2 v hv)⟩
theorem EM{l:List a_}{c:ah}(h:l.all Ef=true)(hl:l.length<=6):(xm l c).1.all Ef=true/\(xm l c).1.length<=6:=by
 have hb:=bz (c:=c) (n:=2) (by omega)
 by_cases hn:(l.length:Int)<5+af c 2
 ·rw[EL hn]
  refine EM (l:=l++[lr (aa c 2)]) ?_ ?_
  ·rw[List.all_append,h];simp[Kt]
  ·simp only[kF,fP,fz];omega
 ·rw[Ib hn];exact⟨h,hl⟩
termination_by 6-l.length
decreasing_by
 simp only[kF,fP,fz];omega
theorem FN(c:ah):abQ (pk c):=by
 obtain⟨h1,h2,h3⟩:=Ie (oM c)
 have h5:=(jc (oM c)).1
 simp only[pk];split
 ·refine⟨?_,h2,h3⟩
  have:=eE (aa (c_ c) 10) (l:=Ex) (fun s=>decide (s.size<=13)) (by decide) (by rfl)
  simpa using this
 ·split
  ·exact⟨h1,by simp only[kF,fP,fz];omega,by rw[List.all_append,h3];simp[HK]⟩
  ·split
   ·exact⟨h1,(EM h3 h2).2,(EM h3 h2).1⟩
   ·exact⟨h1,h2,h3⟩
theorem Ac:∀{l:List a_},l.all Ef=true->eG l<=22*l.length
 |[],_=>by simp[eG]
 |x::l,h=>by
  simp only[QV,cN] at h
  have h1:=Ac h.2
  have h2:=h.1
  simp only[Ef,decide_eq_true_eq] at h2
  simp only[eG,fP,wH,MI,od] at h1⊢
  omega
theorem yV{f:aL}(h:abQ f):dh f<=145:=by
 obtain⟨h1,h2,h3⟩:=h
 have:=Ac h3
 simp only[dh];omega
theorem Z3{α:Type}(f:α->Nat)(B:Nat):∀(l:List α),(∀x∈l,f x<=B)->(l.map f).sum<=l.length*B
 |[],_=>by simp
 |x::l,h=>by
  have h1:=Z3 f B l (fun y hy=>h y (fF _ hy))
  have h2:=h x iH
  simp only[wH,MI,fP,xT];omega
theorem Eg{l:List bp}{B:Nat}(h:∀u∈l,du u<=B):bN l<=l.length*(B+1):=by
 have:=Z3 du B l h
 simp only[bN,Nat.mul_add];omega
theorem Br{s:BA}(h:bu s=true):s.size<=12:=by
 simp only[bu,cN,decide_eq_true_eq] at h;omega
theorem yk{l:List bp}{t:ao}{B:Nat}(hB:400<=B)(h:∀u∈l,du u<=B):∀u∈(cV l t).1,du u<=B:=by
 unfold cV;split
 ·rename_i hc
  simp only[k9,cN] at hc
  intro u hu
  rcases jI.1 hu with hu|hu
  ·exact h u hu
  ·rw[mW.1 hu]
   have h1:=w7 t.F
   have h2:=Br hc.1.1.2
   have h3:=Ac (Ie hc.1.1.1.2).2.2
   have h4:=(Ie hc.1.1.1.2).2.1
   simp only[du,dh];omega
 ·exact h
theorem yl(l:List bp)(t:ao):(cV l t).1.length<=l.length+1:=by
 unfold cV;split<;>simp
def Rf:List BA:=[⟨#[114,101,102,117,110,100]⟩,⟨#[99,97,110,99,101,108]⟩]
def GO(c:ah):ao:=⟨cZ c,cD (c_ c) Rf,0,0,0,dK⟩
def Q9(c:ah):ah:=ck (c_ c) Rf
theorem HA{c:ah}(h:bm c):bm (Q9 c):=dQ (l9 h) _
def w8:Nat->List bp->ah->List bp×ah
 |0,l,c=>(l,c)
 |k+1,l,c=>w8 k (cV l (GO c)).1 (Q9 c)
theorem LV:∀(k:Nat){l:List bp}{c:ah},bm c->(∀u∈l,du u<=400)->bm (w8 k l c).2/\(∀u∈(w8 k l c).1,du u<=400)/\(w8 k l c).1.length<=l.length+k
 |0,_,_,h,h2=>⟨h,h2,by simp[w8]⟩
 |k+1,l,c,h,h2=>by
  obtain⟨h3,h4,h5⟩:=LV k (HA h) (yk (t:=GO c) (uh 400) h2)
  have:=yl l (GO c)
  exact⟨h3,h4,by simp only[w8];omega⟩
def cT(c:ah):List bp:=(w8 (af c 5).toNat [] (aa c 5)).1
def fQ(c:ah):ah:=(w8 (af c 5).toNat [] (aa c 5)).2
theorem Ku{c:ah}(h:bm c):bm (fQ c)/\(∀u∈cT c,du u<=400)/\(cT c).length<=4:=by
 have hb:=bz (c:=c) (n:=5) (by omega)
 obtain⟨h1,h2,h3⟩:=LV (af c 5).toNat (l:=[]) (au h 5) (by simp)
 exact⟨h1,h2,by simp only[fz] at h3;simp only[cT];omega⟩
def bX:BA:=⟨#[120]⟩
def E2(l:List bp):List BA:=[ai,(l.getD 0 bZ).Key,bX]
noncomputable def sF(c:ah):List bp:=let l:=cT c;if l=[] then l else
 let k:=af (fQ c) l.length;let d:=aa (fQ c) l.length;let s:=af d 8;let e:=aa d 8
 if s=0 then l.modify k.toNat (fun u=>⟨cD e (E2 l),u.F⟩) else if s=1 then l.modify k.toNat (fun u=>⟨u.Key,pk e⟩) else l
noncomputable def nN(c:ah):ah:=let l:=cT c;if l=[] then fQ c else
 let d:=aa (fQ c) l.length;let s:=af d 8;let e:=aa d 8
 if s=0 then ck e (E2 l) else if s=1 then kz e else e
theorem Wn{l:List bp}{B:Nat}(h:∀u∈l,du u<=B):(l.getD 0 bZ).Key.size<=B:=by
 cases l with
 |nil=>simp[bZ,ai]
 |cons x r=>have:=h x iH;simp only[du] at this;simp only[List.getD_cons_zero];omega
theorem tj{α:Type}{p:α->Prop}(f:α->α)(hf:∀x,p x->p (f x)):∀(l:List α)(k:Nat),(∀x∈l,p x)->∀x∈l.modify k f,p x
 |[],k,h=>by simp
 |x::l,0,h=>by
  intro y hy
  simp only[List.modify_zero_cons,kc] at hy
  rcases hy with rfl|hy
  ·exact hf x (h x iH)
  ·exact h y (fF _ hy)
 |x::l,k+1,h=>by
  intro y hy
  simp only[List.modify_succ_cons,kc] at hy
  rcases hy with rfl|hy
  ·exact h y iH
  ·exact tj f hf l k (fun z hz=>h z (fF _ hz)) y hy
theorem vr{a a':List bp}(h:a=a'):fG ([DV.one (Cell.sl Cd.aQ a)]:List (DV UU))=fG ([DV.one (Cell.sl Cd.aQ a')]:List (DV UU)):=by rw[h]
def HT(u:bp):Prop:=u.Key.size<=400/\dh u.F<=400
theorem UQ{u:bp}(h:du u<=400):HT u:=by simp only[du] at h;exact⟨by omega,by omega⟩
theorem Pe{u:bp}(h:HT u):du u<=800:=by obtain⟨h1,h2⟩:=h;simp only[du];omega
theorem VK{l:List bp}(k:Nat){key:BA}(hk:key.size<=400)(h:∀u∈l,HT u):∀u∈l.modify k (fun u=>(⟨key,u.F⟩:bp)),HT u:=
 tj (p:=HT) (fun u=>(⟨key,u.F⟩:bp)) (fun u hu=>⟨hk,hu.2⟩) l k h
theorem aef{l:List bp}(k:Nat){f:aL}(hk:dh f<=400)(h:∀u∈l,HT u):∀u∈l.modify k (fun u=>(⟨u.Key,f⟩:bp)),HT u:=
 tj (p:=HT) (fun u=>(⟨u.Key,f⟩:bp)) (fun u hu=>⟨hu.1,hk⟩) l k h
theorem OS{c:ah}(h:bm c):bm (nN c)/\(∀u∈sF c,du u<=800)/\(sF c).length<=4:=by
 obtain⟨h1,h2,h3⟩:=Ku h
 have Ow:∀u∈cT c,HT u:=fun u hu=>UQ (h2 u hu)
 have he:=au (au h1 (cT c).length) 8
 refine⟨?_,fun u hu=>Pe ?_,?_⟩
 ·simp only[nN];split
  ·exact h1
  ·split
   ·exact dQ he _
   ·split
    ·exact FF he
    ·exact he
 ·revert u
  simp only[sF];split
  ·exact Ow
  ·split
   ·refine VK _ ?_ Ow
    have hk:=KE (aa (aa (fQ c) (cT c).length) 8) (l:=E2 (cT c)) (by simp[E2])
    simp only[E2,kc,NV,or_false] at hk
    show(cD _ (E2 (cT c))).size<=400
    rcases hk with hk|hk|hk
    ·simp only[E2];rw[hk];simp[ai]
    ·simp only[E2];rw[hk];exact Wn h2
    ·simp only[E2];rw[hk];decide
   ·split
    ·exact aef _ (uN (yV (FN _)) (by omega)) Ow
    ·exact Ow
 ·simp only[sF];split
  ·omega
  ·split
   ·simp only[Kk];omega
   ·split
    ·simp only[Kk];omega
    ·omega
def YT:=bW (α:=ah) (q1 qU) [.box false] (fun c=>[bm c]) (fun c=>⟨[dL .aQ (cT c)],[],[dU (fQ c)]⟩)
def D3(c:ah):List bp×Int×T4×Unit->Prop:=fun(l,i,cu,_)=>0<=i/\i<=4/\bm ⟨cu.1,cu.2.1,cu.2.2.1⟩/\(∀u∈l,du u<=400)/\l.length+i<=4/\w8 i.toNat l ⟨cu.1,cu.2.1,cu.2.2.1⟩=w8 (af c 5).toNat [] (aa c 5)
def Dd(c:ah):List bp×Int×T4×Unit->Nat:=fun(l,i,cu,_)=>i.toNat
def akv:AX YT:=fun c=>bS [(3,aT [iO 3 .aQ,iI 4,.box 0 (2000000,0) [.shr .byte,.lit (.int .i64),.lit (.int .i64)]] (fun _=>D3 c) (Dd c))]
def ajn:HH:=hF YT func111 [nE,Ms,mS,Y_] akv fun(c:ah) hp hb=>by
 have bo:bm c:=hp _ m0
 clear hp hb
 apply vE (let x0:=[{data:= #[114,101,102,117,110,100]:BA},{data:= #[99,97,110,99,101,108]:BA}];let q0:=aa c 5;0<=c.i/\L4 c.b.length/\D3 c ([],af c 5,(q0.b,q0.i,q0.h,()),())/\∀(y:List bp×Int×O9×PUnit),let x3:={b:=y.2.2.1.1,i:=y.2.2.1.2.1,h:=y.2.2.1.2.2.1:ah};let x2:=c_ x3;let x1:=ck x2 x0;let q1:=((cV {τ:=Cd.aQ,xs:=y.1:iE UU}.xs {F:={Kind:=(cZ x3).Kind,ag:={τ:=Cd.bf,xs:=(cZ x3).ag:iE UU}.xs:aL},aW:=cD x2 x0,State:=(0:Int),bh:=(0:Int),iz:=(0:Int),V:={K:=(0:Int),N:=(0:Int),S:={data:= #[]:BA}:a_}:ao}).1,wrap i64 (y.2.1-1),(x1.b,x1.i,x1.h,()),());D3 c y->bif decide (y.2.1>0) then bm x3/\bm x2/\1<=x0.length/\L4 (bN y.1)/\(cZ x3).ag.length<=4294967296/\D3 c q1/\Dd c q1<Dd c y else LM [VL .aQ y.1] [VL .aQ (cT c)] [DV.box [CL .byte y.2.2.1.1,CI y.2.2.1.2.1,CI y.2.2.1.2.2.1]] [bU (fQ c)])
 dsimp only
 have hb:=bz (c:=c) (n:=5) (by omega)
 refine⟨bo.1,bo.2,⟨by omega,by omega,au bo 5,by simp,by simp only[fz];omega,rfl⟩,?_⟩
 rintro⟨l,i,⟨cb,ci,ch,⟨⟩⟩,⟨⟩⟩ ⟨g1,g2,g3,g4,g5,g6⟩
 simp only at g1 g2 g3 g4 g5 g6⊢
 refine ae ?_ ?_<;>intro hc
 ·have hc:=yT hc
  have e:i.toNat=(i-1).toNat+1:=by omega
  rw[e] at g6
  have hs:=Eg g4
  have hf:=l9 g3
  have hl:=(jc (oM ⟨cb,ci,ch⟩)).1
  have hq:=yl l (GO ⟨cb,ci,ch⟩)
  rw[wi]
  refine⟨g3,hf,by simp,by omega,by omega,⟨by omega,by omega,HA g3,yk (t:=GO ⟨cb,ci,ch⟩) (uh 400) g4,?_,g6⟩,by simp only[Dd];omega⟩
  have hq':((cV l (GO ⟨cb,ci,ch⟩)).1.length:Int)<=l.length+1:=by omega
  exact Int.le_trans (Int.add_le_add_right hq' (i-1)) (by omega)
 ·have hc:=yF hc
  have e:i.toNat=0:=by omega
  rw[e] at g6
  have g7:l=cT c:=congrArg Prod.fst g6
  have g8:(⟨cb,ci,ch⟩:ah)=fQ c:=congrArg Prod.snd g6
  rw[<-g7,<-g8]
  exact⟨by trivial,rfl,rfl⟩
def aoE:=bW (α:=ah) (q1 qU) [.box false] (fun c=>[bm c]) (fun c=>⟨[dL .aQ (sF c)],[],[dU (nN c)]⟩)
def apn:HH:=hF aoE func47 [ajn,nE,mS,Uf] a0 fun(c:ah) hp hb=>by
 have bo:bm c:=hp _ m0
 clear hp hb
 apply vE (let x2:=[{data:= #[]:BA},((cT c).getD (nat_lit 0) bZ).Key,{data:= #[120]:BA}];let x5:=(↑((cT c).length):Int);let x3:=aa (fQ c) x5;let x4:=Int.toNat (af (fQ c) x5);let x1:=aa x3 8;let x0:=ck x1 x2;bm c/\bif x5==0 then LM [VL .aQ (cT c)] [VL .aQ (sF c)] [bU (fQ c)] [bU (nN c)] else 0<=(fQ c).i/\(fQ c).b.length<=4294967296/\0<=x3.i/\L4 x3.b.length/\bif af x3 (8:Int)==(0:Int) then(0:Int)<=(0:Int)/\Int.toNat 0<(cT c).length/\nat_lit 0<(cT c).length/\bm x1/\1<=x2.length/\0<=af (fQ c) x5/\x4<(cT c).length/\x4<(cT c).length/\LM [VL .aQ ((cT c).modify x4 fun(x:bp)=>{Key:=cD x1 x2,F:=x.F:bp})] [VL .aQ (sF c)] [bU x0] [bU (nN c)] else bif af x3 (8:Int)==(1:Int) then bm x1/\0<=af (fQ c) x5/\x4<(cT c).length/\x4<(cT c).length/\LM [VL .aQ ((cT c).modify x4 fun(x:bp)=>{Key:=x.Key,F:=pk x1:bp})] [VL .aQ (sF c)] [bU (kz x1)] [bU (nN c)] else LM [VL .aQ (cT c)] [VL .aQ (sF c)] [bU x1] [bU (nN c)])
 dsimp only
 obtain⟨h1,h2,h3⟩:=Ku bo
 refine⟨bo,ae (fun h=> ?_) (fun h=> ?_)⟩
 ·have h:cT c=[]:=Gl (by have:=eq_of_beq h;omega)
  have e1:sF c=cT c:=by simp only[sF];rw[if_pos h]
  have e2:nN c=fQ c:=by simp only[nN];rw[if_pos h]
  rw[e2];exact⟨by trivial,vr e1.symm,rfl⟩
 have hn:¬cT c=[]:=by intro e;rw[e] at h;simp at h
 have hl:0<(cT c).length:=List.length_pos_iff.2 hn
 have hb:=bz (c:=fQ c) (n:=(cT c).length) (by omega)
 have hd:=au h1 (cT c).length
 have he:=au hd 8
 refine⟨h1.1,h1.2,hd.1,hd.2,ae (fun g=> ?_) (fun g=>ae (fun g'=> ?_) (fun g'=> ?_))⟩
 ·have g:=eq_of_beq g
  have e1:sF c=(cT c).modify (af (fQ c) (cT c).length).toNat (fun u=>⟨cD (aa (aa (fQ c) (cT c).length) 8) (E2 (cT c)),u.F⟩):=by simp only[sF];rw[if_neg hn,if_pos g]
  have e2:nN c=ck (aa (aa (fQ c) (cT c).length) 8) (E2 (cT c)):=by simp only[nN];rw[if_neg hn,if_pos g]
  rw[e2]
  exact⟨by omega,by simpa using hl,hl,he,by simp,hb.1,by omega,by omega,by trivial,vr e1.symm,rfl⟩
 ·have g:¬af (aa (fQ c) (cT c).length) 8=0:=by simpa using g
  have g':=eq_of_beq g'
  have e1:sF c=(cT c).modify (af (fQ c) (cT c).length).toNat (fun u=>⟨u.Key,pk (aa (aa (fQ c) (cT c).length) 8)⟩):=by simp only[sF];rw[if_neg hn,if_neg g,if_pos g']
  have e2:nN c=kz (aa (aa (fQ c) (cT c).length) 8):=by simp only[nN];rw[if_neg hn,if_neg g,if_pos g']
  rw[e2]
  repeat' (first|exact vr e1.symm|exact rfl|refine And.intro (by first|exact vr e1.symm|exact he|exact hb.1|omega|trivial) ?_)
 ·have g:¬af (aa (fQ c) (cT c).length) 8=0:=by simpa using g
  have g':¬af (aa (fQ c) (cT c).length) 8=1:=by simpa using g'
  have e1:sF c=cT c:=by simp only[sF];rw[if_neg hn,if_neg g,if_neg g']
  have e2:nN c=aa (aa (fQ c) (cT c).length) 8:=by simp only[nN];rw[if_neg hn,if_neg g,if_neg g']
  rw[e2];exact⟨by trivial,vr e1.symm,rfl⟩
theorem N6(now:Int)(t:ao):(dR now t).F=t.F:=by unfold dR;split;split<;>rfl;rfl
theorem Rc{now:Int}(h0:0<=now)(h1:now<=1000000000)(t:ao)(h:gp t=true):gp (dR now t)=true:=by
 obtain⟨a1,a2,a3,a4,a5,a6,a7⟩:=gj.1 h
 unfold dR;split
 ·split
  ·exact gj.2 ⟨a1,a2,by simp,a4,a5,a6,by simp⟩
  ·have hb:=xB (t.bh+1)
   exact gj.2 ⟨a1,a2,by simp,by simp only;omega,by simp only;omega,a6,by simp only;omega⟩
 ·exact h
theorem sX{l:List ao}{now:Int}(h0:0<=now)(h1:now<=1000000000)(h:aN l=true):aN (l.map (dR now))=true:=Bf (N6 now) (Rc h0 h1) h
theorem MQ(l:List ao)(f:aL)(u:BA)(now:Int):(fH l f u now).1.length<=l.length+1:=by
 unfold fH;split
 ·simp
 ·split<;>simp
theorem Ps(l:List ao)(key:BA)(ok:Bool)(v:a_):(bC l key ok v).1.length=l.length:=by
 unfold bC;split
 ·split<;>simp
 ·rfl
def KB(t:ao):Prop:=dh t.F<=145/\t.aW.size<=21/\Ef t.V=true
theorem UW{t:ao}(h:gp t=true):KB t:=by
 obtain⟨a1,a2,a3,a4,a5,a6,a7⟩:=gj.1 h
 refine⟨yV (Ie a1),?_,?_⟩
 ·simp only[fA,Gc,decide_eq_true_eq] at a2
  rcases a2 with a2|a2
  ·rw[a2];simp[ai]
  ·have:=Br a2;omega
 ·rcases a6 with a6|a6
  ·rw[a6];rfl
  ·exact GL a6
theorem Pf{t:ao}(h:KB t):lR t<=187:=by
 obtain⟨h1,h2,h3⟩:=h
 simp only[Ef,decide_eq_true_eq] at h3
 simp only[lR,od];omega
theorem MO{l:List ao}(h:∀t∈l,KB t):cf l<=l.length*188:=by
 have:=Z3 lR 187 l (fun t ht=>Pf (h t ht))
 simp only[cf];omega
def sLu:List BA:=[⟨#[]⟩,⟨#[114,101,102,117,110,100]⟩]
def dT1(l:List ao)(now:Int)(d:ah):List ao:=(fH l (cZ d) (cD (c_ d) sLu) now).1
def dT3(l:List ao)(d:ah):List ao:=
 let e:=aa d l.length
 (bC l (bi (l.getD (af d l.length).toNat aC).F) (!cm e 3) (en (aa e 3))).1
def dT(l:List ao)(now:Int)(c:ah):List ao:=
 let k:=af c 4;let d:=aa c 4
 if k=0\/k=1 then dT1 l now d else if k=2 then l.map (dR (now+af d 40)) else if 0<l.length then dT3 l d else l
def dN(now:Int)(c:ah):Int:=if af c 4=2 then now+af (aa c 4) 40 else now
def dC(n:Nat)(c:ah):ah:=
 let k:=af c 4;let d:=aa c 4
 if k=0\/k=1 then ck (c_ d) sLu else if k=2 then aa d 40 else if 0<n then gQ (aa (aa d n) 3) else d
def w9:Nat->List ao->Int->ah->List ao×ah
 |0,l,_,c=>(l,c)
 |k+1,l,now,c=>w9 k (dT l now c) (dN now c) (dC l.length c)
theorem Tr{n:Nat}{c:ah}(h:bm c):bm (dC n c):=by
 have h4:=au h 4
 simp only[dC];split
 ·exact dQ (l9 h4) _
 ·split
  ·exact au h4 _
  ·split
   ·exact k_ (au (au h4 _) _)
   ·exact h4
theorem Q5(c:ah):fA (cD c sLu)=true:=eE c fA (by decide) (by rfl)
theorem XU(now:Int)(c:ah):now<=dN now c/\dN now c<=now+39:=by
 have:=bz (c:=aa c 4) (n:=40) (by omega)
 unfold dN;split<;>omega
theorem XT{l:List ao}{now:Int}{c:ah}(h:aN l=true)(h0:0<=now)(h1:now<=1000):aN (dT l now c)=true/\(dT l now c).length<=l.length+1:=by
 have hb:=bz (c:=aa c 4) (n:=40) (by omega)
 simp only[dT];split
 ·exact⟨oc h (oM _) (Q5 _) h0 (by omega),MQ _ _ _ _⟩
 ·split
  ·exact⟨sX (by omega) (by omega) h,by simp⟩
  ·split
   ·exact⟨rJ h,by simp only[dT3];rw[Ps];omega⟩
   ·exact⟨h,by omega⟩
theorem LW:∀(k:Nat){l:List ao}{now:Int}{c:ah},bm c->aN l=true->0<=now->now+39*k<=1000->bm (w9 k l now c).2/\aN (w9 k l now c).1=true/\(w9 k l now c).1.length<=l.length+k
 |0,_,_,_,h,h2,_,_=>⟨h,h2,by simp[w9]⟩
 |k+1,l,now,c,h,h2,h3,h4=>by
  have hn:=XU now c
  obtain⟨t1,t2⟩:=XT (c:=c) h2 h3 (by omega)
  obtain⟨h3,h4,h5⟩:=LW k (l:=dT l now c) (now:=dN now c) (c:=dC l.length c) (Tr h) t1 (by omega) (by omega)
  exact⟨h3,h4,by simp only[w9];omega⟩
def de(c:ah):List ao:=(w9 (af c 8).toNat [] 0 (aa c 8)).1
def iY(c:ah):ah:=(w9 (af c 8).toNat [] 0 (aa c 8)).2
theorem Kz{c:ah}(h:bm c):bm (iY c)/\aN (de c)=true/\(de c).length<=7:=by
 have hb:=bz (c:=c) (n:=8) (by omega)
 obtain⟨h1,h2,h3⟩:=LW (af c 8).toNat (l:=[]) (now:=0) (au h 8) rfl (by omega) (by omega)
 exact⟨h1,h2,by simp only[fz] at h3;simp only[de];omega⟩
theorem Bw{a b:Int}{P Q:Prop}(h1:a=b->P)(h2:¬a=b->Q):bif a==b then P else Q:=ae (fun h=>h1 (eq_of_beq h)) (fun h=>h2 (fun e=>by rw[e] at h;simp at h))
theorem aoa{l:List ao}{now:Int}{c:ah}(h:af c 4=0\/af c 4=1):dT l now c=dT1 l now (aa c 4)/\dN now c=now/\dC l.length c=ck (c_ (aa c 4)) sLu:=
 ⟨by simp only[dT];rw[if_pos h],by rw[dN,if_neg (by omega)],by simp only[dC];rw[if_pos h]⟩
theorem an_{l:List ao}{now:Int}{c:ah}(h:af c 4=2):dT l now c=l.map (dR (now+af (aa c 4) 40))/\dN now c=now+af (aa c 4) 40/\dC l.length c=aa (aa c 4) 40:=
 ⟨by simp only[dT];rw[if_neg (by omega),if_pos h],by rw[dN,if_pos h],by simp only[dC];rw[if_neg (by omega),if_pos h]⟩
theorem an'{l:List ao}{now:Int}{c:ah}(h0:¬af c 4=0)(h1:¬af c 4=1)(h2:¬af c 4=2)(hl:0<l.length):dT l now c=dT3 l (aa c 4)/\dN now c=now/\dC l.length c=gQ (aa (aa (aa c 4) l.length) 3):=
 ⟨by simp only[dT];rw[if_neg (by omega),if_neg h2,if_pos hl],by rw[dN,if_neg h2],by simp only[dC];rw[if_neg (by omega),if_neg h2,if_pos hl]⟩
theorem an9{l:List ao}{now:Int}{c:ah}(h0:¬af c 4=0)(h1:¬af c 4=1)(h2:¬af c 4=2)(hl:¬0<l.length):dT l now c=l/\dN now c=now/\dC l.length c=aa c 4:=
 ⟨by simp only[dT];rw[if_neg (by omega),if_neg h2,if_neg hl],by rw[dN,if_neg h2],by simp only[dC];rw[if_neg (by omega),if_neg h2,if_neg hl]⟩
def YU:=bW (α:=ah) (q1 qU) [.box false] (fun c=>[bm c]) (fun c=>⟨[dL .az (de c)],[],[dU (iY c)]⟩)
def rE(c:ah):List ao×Int×Int×T4×Unit->Prop:=fun(l,now,i,cu,_)=>0<=i/\i<=7/\0<=now/\now+39*i<=1000/\bm ⟨cu.1,cu.2.1,cu.2.2.1⟩/\aN l=true/\w9 i.toNat l now ⟨cu.1,cu.2.1,cu.2.2.1⟩=w9 (af c 8).toNat [] 0 (aa c 8)
def mr(c:ah):List ao×Int×Int×T4×Unit->Nat:=fun(l,now,i,cu,_)=>i.toNat
def akw:AX YU:=fun c=>bS [(4,aT [iO 3 .az,iI 4,iI 5,.box 0 (2000000,0) [.shr .byte,.lit (.int .i64),.lit (.int .i64)]] (fun _=>rE c) (mr c))]
def ajo:HH:=hF YU func108 [nE,Ms,mS,Uc,ahB,Mt,sL,Mr,Za] akw fun(c:ah) hp hb=>by
 have bo:bm c:=hp _ m0
 clear hp hb
 apply vE (let x0:=[{data:= #[]:BA},{data:= #[114,101,102,117,110,100]:BA}];let q0:=aa c 8;0<=c.i/\L4 c.b.length/\rE c ([],0,af c 8,(q0.b,q0.i,q0.h,()),())/\∀(y:List ao×Int×Int×O9×PUnit),let x3:={b:=y.2.2.2.1.1,i:=y.2.2.2.1.2.1,h:=y.2.2.2.1.2.2.1:ah};let x4:=wrap i64 (y.2.2.1-1);let x9:=(y.1.length:Int);let x1:=aa x3 4;let x2:=af x3 4;let x5:=wrap i64 (y.2.1+af x1 40);let x8:=aa (aa x1 x9) 3;let x6:=en x8;let x7:=gQ x8;let q1:=bif x2==2 then 0<=x1.i/\L4 x1.b.length/\aN y.1=true/\(0<=x5/\x5<=1000000000)/\rE c (y.1.map (dR x5),x5,x4,((aa x1 40).b,(aa x1 40).i,(aa x1 40).h,()),())/\mr c (y.1.map (dR x5),x5,x4,((aa x1 40).b,(aa x1 40).i,(aa x1 40).h,()),())<mr c y else bif decide (x9>0) then 0<=x1.i/\L4 x1.b.length/\0<=af x1 x9/\Int.toNat (af x1 x9)<y.1.length/\Int.toNat (af x1 x9)<y.1.length/\Int.toNat (af x1 x9)<y.1.length/\bm (aa x1 x9)/\bm x8/\aN y.1=true/\bR x6=true/\rE c ((bC {τ:=Cd.az,xs:=y.1:iE UU}.xs (bi (y.1.getD (Int.toNat (af x1 x9)) aC).F) (!cm (aa x1 x9) 3) {K:=x6.K,N:=x6.N,S:=x6.S:a_}).1,y.2.1,x4,(x7.b,x7.i,x7.h,()),())/\mr c ((bC {τ:=Cd.az,xs:=y.1:iE UU}.xs (bi (y.1.getD (Int.toNat (af x1 x9)) aC).F) (!cm (aa x1 x9) 3) {K:=x6.K,N:=x6.N,S:=x6.S:a_}).1,y.2.1,x4,(x7.b,x7.i,x7.h,()),())<mr c y else rE c (y.1,y.2.1,x4,(x1.b,x1.i,x1.h,()),())/\mr c (y.1,y.2.1,x4,(x1.b,x1.i,x1.h,()),())<mr c y;let q2:=((fH {τ:=Cd.az,xs:=y.1:iE UU}.xs {Kind:=(cZ x1).Kind,ag:={τ:=Cd.bf,xs:=(cZ x1).ag:iE UU}.xs:aL} (cD (c_ x1) x0) y.2.1).1,y.2.1,x4,((ck (c_ x1) x0).b,(ck (c_ x1) x0).i,(ck (c_ x1) x0).h,()),());let q3:=bm x1/\bm (c_ x1)/\1<=x0.length/\(cZ x1).ag.length<=4294967296/\rE c q2/\mr c q2<mr c y;rE c y->bif decide (y.2.2.1>0) then 0<=y.2.2.2.1.2.1/\L4 y.2.2.2.1.1.length/\bif x2==0 then bif x2==0 then q3 else q1 else bif x2==1 then q3 else q1 else LM [VL .az y.1] [VL .az (de c)] [DV.box [CL .byte y.2.2.2.1.1,CI y.2.2.2.1.2.1,CI y.2.2.2.1.2.2.1]] [bU (iY c)])
 dsimp only
 have hb:=bz (c:=c) (n:=8) (by omega)
 refine⟨bo.1,bo.2,⟨by omega,by omega,by omega,by omega,au bo 8,rfl,rfl⟩,?_⟩
 rintro⟨l,now,i,⟨cb,ci,ch,⟨⟩⟩,⟨⟩⟩ ⟨g1,g2,g3,g4,g5,g6,g7⟩
 simp only at g1 g2 g3 g4 g5 g6 g7⊢
 refine ae ?_ ?_<;>intro hc
 ·have hc:=yT hc
  have e:i.toNat=(i-1).toNat+1:=by omega
  rw[e] at g7
  refine⟨g5.1,g5.2,?_⟩
  generalize GB:(⟨cb,ci,ch⟩:ah)=cu at*
  have h4:=au g5 4
  have hl:=(jc (oM (aa cu 4))).1
  have hd:=bz (c:=aa cu 4) (n:=40) (by omega)
  have hn:=XU now cu
  obtain⟨t1,t2⟩:=XT (c:=cu) g6 g3 (by omega)
  have fin:∀(l':List ao)(aaL:Int)(cu':ah),l'=dT l now cu->aaL=dN now cu->cu'=dC l.length cu->
    rE c (l',aaL,i-1,(cu'.b,cu'.i,cu'.h,PUnit.unit),PUnit.unit)/\mr c (l',aaL,i-1,(cu'.b,cu'.i,cu'.h,PUnit.unit),PUnit.unit)<mr c (l,now,i,(cb,ci,ch,PUnit.unit),PUnit.unit):=by
   rintro _ _ _ rfl rfl rfl
   exact⟨⟨by omega,by omega,by omega,by omega,Tr g5,t1,g7⟩,by simp only[mr];omega⟩
  rw[wi (n:=i-1),wi (n:=now+af (aa cu 4) 40)]
  repeat' (refine Bw (fun h=> ?_) (fun h=> ?_))
  all_goals first
   |(exfalso;omega)
   |(obtain⟨q1,q2,q3⟩:=aoa (l:=l) (now:=now) (c:=cu) (by omega)
     exact⟨h4,l9 h4,by simp,by omega,fin _ _ _ q1.symm q2.symm q3.symm⟩)
   |(obtain⟨q1,q2,q3⟩:=an_ (l:=l) (now:=now) (c:=cu) (by omega)
     exact⟨h4.1,h4.2,g6,⟨by omega,by omega⟩,fin _ _ _ q1.symm q2.symm q3.symm⟩)
   |skip
  all_goals refine ae ?_ ?_<;>intro hl
  ·have hl:=yT hl
   obtain⟨q1,q2,q3⟩:=an' (l:=l) (now:=now) (c:=cu) (by omega) (by omega) (by omega) (by omega)
   have hj:=bz (c:=aa cu 4) (n:=l.length) (by omega)
   have h5:=au h4 l.length
   have h6:=au h5 3
   exact⟨h4.1,h4.2,hj.1,by omega,by omega,by omega,h5,h6,g6,pN _,fin _ _ _ q1.symm q2.symm q3.symm⟩
  ·have hl:=yF hl
   obtain⟨q1,q2,q3⟩:=an9 (l:=l) (now:=now) (c:=cu) (by omega) (by omega) (by omega) (by omega)
   exact fin _ _ _ q1.symm q2.symm q3.symm
 ·have hc:=yF hc
  have e:i.toNat=0:=by omega
  rw[e] at g7
  have g8:l=de c:=congrArg Prod.fst g7
  have g9:(⟨cb,ci,ch⟩:ah)=iY c:=congrArg Prod.snd g7
  rw[<-g8,<-g9]
  exact⟨by trivial,rfl,rfl⟩
def Ew:List BA:=[⟨#[]⟩,⟨#[65]⟩,⟨#[117,110,100,111]⟩]
def Cc:List Int:=[-1,0,4,5]
def Oj:List Int:=[-1,1000001000,1000001001]
def asF(f:aL)(x:ao):ao:=⟨f,x.aW,x.State,x.bh,x.iz,x.V⟩
def TD(u:BA)(x:ao):ao:=⟨x.F,u,x.State,x.bh,x.iz,x.V⟩
def OQ(n:Int)(x:ao):ao:=⟨x.F,x.aW,n,x.bh,x.iz,x.V⟩
def OP(n:Int)(x:ao):ao:=⟨x.F,x.aW,x.State,n,x.iz,x.V⟩
def XX(n:Int)(x:ao):ao:=⟨x.F,x.aW,x.State,x.bh,n,x.V⟩
def asV(v:a_)(x:ao):ao:=⟨x.F,x.aW,x.State,x.bh,x.iz,v⟩
noncomputable def nM(s:Int)(e:ah)(x:ao):ao:=
 if s=0 then asF (pk e) x else if s=1 then TD (cD e Ew) x else if s=2 then OQ (af e 6) x else if s=3 then OP (gS e Cc) x else if s=4 then XX (gS e Oj) x else if s=5 then asV (mb e) x else x
noncomputable def l_(s:Int)(e:ah):ah:=
 if s=0 then kz e else if s=1 then ck e Ew else if s=2 then aa e 6 else if s=3 then kL e Cc else if s=4 then kL e Oj else if s=5 then mc e else e
noncomputable def sG(c:ah):List ao:=if de c=[] then de c else
 (de c).modify (af (iY c) (de c).length).toNat (nM (af (aa (iY c) (de c).length) 14) (aa (aa (iY c) (de c).length) 14))
noncomputable def pC(c:ah):ah:=if de c=[] then iY c else
 l_ (af (aa (iY c) (de c).length) 14) (aa (aa (iY c) (de c).length) 14)
theorem Ts{s:Int}{e:ah}(h:bm e):bm (l_ s e):=by
 unfold l_
 repeat' split
 ·exact FF h
 ·exact dQ h _
 ·exact au h _
 ·exact iR h _
 ·exact iR h _
 ·exact L7 h
 ·exact h
theorem Tw{s:Int}{e:ah}{x:ao}(h:KB x):KB (nM s e x):=by
 obtain⟨h1,h2,h3⟩:=h
 unfold nM
 repeat' split
 ·exact⟨yV (FN e),h2,h3⟩
 ·refine⟨h1,?_,h3⟩
  have:=eE e (l:=Ew) (fun s=>decide (s.size<=21)) (by decide) (by rfl)
  exact yT this
 ·exact⟨h1,h2,h3⟩
 ·exact⟨h1,h2,h3⟩
 ·exact⟨h1,h2,h3⟩
 ·exact⟨h1,h2,HK e⟩
 ·exact⟨h1,h2,h3⟩
theorem OT{c:ah}(h:bm c):bm (pC c)/\(∀t∈sG c,KB t)/\(sG c).length<=7:=by
 obtain⟨h1,h2,h3⟩:=Kz h
 have h4:∀t∈de c,KB t:=fun t ht=>UW ((mN.1 h2).2.1 t ht)
 refine⟨?_,?_,?_⟩
 ·unfold pC;split
  ·exact h1
  ·exact Ts (au (au h1 _) _)
 ·unfold sG;split
  ·exact h4
  ·exact tj (p:=KB) _ (fun x hx=>Tw hx) _ _ h4
 ·unfold sG;split
  ·exact h3
  ·rw[Kk];exact h3
def aoF:=bW (α:=ah) (q1 qU) [.box false] (fun c=>[bm c]) (fun c=>⟨[dL .az (sG c)],[],[dU (pC c)]⟩)
def apo:HH:=hF aoF func46 [ajo,nE,Uf,mS,B4,Zq] a0 fun(c:ah) hp hb=>by
 have bo:bm c:=hp _ m0
 clear hp hb
 apply vE (let x2:=[{data:= #[]:BA},{data:= #[65]:BA},{data:= #[117,110,100,111]:BA}];let mf:=[(-1),0,4,5];let jd:=[(-1),1000001000,1000001001];let Aa:=(↑((de c).length):Int);let x5:=Int.toNat (af (iY c) Aa);let x8:=mf.length;let x9:=aa (iY c) Aa;let w_:=jd.length;let x0:=aa x9 14;let x1:=ck x0 x2;let x3:=af x9 14;let x7:=(↑x8:Int);let qP:=(↑w_:Int);let x4:=aa x0 x7;let x6:=aa x0 qP;bm c/\bif Aa==0 then LM [VL .az (de c)] [VL .az (sG c)] [bU (iY c)] [bU (pC c)] else 0<=(iY c).i/\(iY c).b.length<=4294967296/\0<=af (iY c) Aa/\x5<(de c).length/\0<=x9.i/\L4 x9.b.length/\bif x3==0 then bm x0/\x5<(de c).length/\LM [VL .az ((de c).modify x5 fun(x:ao)=>{F:=pk x0,aW:=x.aW,State:=x.State,bh:=x.bh,iz:=x.iz,V:=x.V:ao})] [VL .az (sG c)] [bU (kz x0)] [bU (pC c)] else bif x3==1 then bm x0/\1<=x2.length/\x5<(de c).length/\LM [VL .az ((de c).modify x5 fun(x:ao)=>{F:=x.F,aW:=cD x0 x2,State:=x.State,bh:=x.bh,iz:=x.iz,V:=x.V:ao})] [VL .az (sG c)] [bU x1] [bU (pC c)] else bif x3==2 then 0<=x0.i/\L4 x0.b.length/\x5<(de c).length/\LM [VL .az ((de c).modify x5 fun(x:ao)=>{F:=x.F,aW:=x.aW,State:=af x0 6,bh:=x.bh,iz:=x.iz,V:=x.V:ao})] [VL .az (sG c)] [bU (aa x0 6)] [bU (pC c)] else bif x3==3 then 0<=x0.i/\L4 x0.b.length/\1<=x8/\x5<(de c).length/\LM [VL .az ((de c).modify x5 fun(x:ao)=>{F:=x.F,aW:=x.aW,State:=x.State,bh:=mf.getD (Int.toNat (af x0 x7)) 0,iz:=x.iz,V:=x.V:ao})] [VL .az (sG c)] [bU x4] [bU (pC c)] else bif x3==4 then 0<=x0.i/\L4 x0.b.length/\1<=w_/\x5<(de c).length/\LM [VL .az ((de c).modify x5 fun(x:ao)=>{F:=x.F,aW:=x.aW,State:=x.State,bh:=x.bh,iz:=jd.getD (Int.toNat (af x0 qP)) 0,V:=x.V:ao})] [VL .az (sG c)] [bU x6] [bU (pC c)] else bif x3==5 then bm x0/\x5<(de c).length/\LM [VL .az ((de c).modify x5 fun(x:ao)=>{F:=x.F,aW:=x.aW,State:=x.State,bh:=x.bh,iz:=x.iz,V:=mb x0:ao})] [VL .az (sG c)] [bU (mc x0)] [bU (pC c)] else LM [VL .az (de c)] [VL .az (sG c)] [bU x0] [bU (pC c)])
 dsimp only
 obtain⟨h1,h2,h3⟩:=Kz bo
 refine⟨bo,Bw (fun h=> ?_) (fun h=> ?_)⟩
 ·have h:de c=[]:=Gl (by omega)
  have e1:sG c=de c:=if_pos h
  have e2:pC c=iY c:=if_pos h
  rw[e2];exact⟨by trivial,ww e1.symm,rfl⟩
 have hn:¬de c=[]:=by intro e;rw[e] at h;simp at h
 have hl:0<(de c).length:=List.length_pos_iff.2 hn
 have hb:=bz (c:=iY c) (n:=(de c).length) (by omega)
 have hd:=au h1 (de c).length
 have he:=au hd 14
 have e1:sG c=_:=if_neg hn
 have e2:pC c=_:=if_neg hn
 refine⟨h1.1,h1.2,hb.1,by omega,hd.1,hd.2,?_⟩
 rw[e2]
 generalize af (aa (iY c) (de c).length) 14=s at e1⊢
 generalize aa (aa (iY c) (de c).length) 14=e at he e1⊢
 generalize hk:(af (iY c) (de c).length).toNat=k at e1⊢
 have XG:k<(de c).length:=by omega
 have fin:∀(f:ao->ao)(d:ah),nM s e=f->l_ s e=d->fG ([DV.one (Cell.sl Cd.az ((de c).modify k f))]:List (DV UU))=fG ([DV.one (Cell.sl Cd.az (sG c))]:List (DV UU))/\
   fG ([DV.box [Cell.sl Cd.byte d.b,Cell.lit (Value.int IntKind.i64 d.i),Cell.lit (Value.int IntKind.i64 d.h)]]:List (DV UU))=fG ([DV.box [Cell.sl Cd.byte (l_ s e).b,Cell.lit (Value.int IntKind.i64 (l_ s e).i),Cell.lit (Value.int IntKind.i64 (l_ s e).h)]]:List (DV UU)):=by
  rintro _ _ rfl rfl
  exact⟨ww e1.symm,rfl⟩
 refine Bw ?_ ?_<;>intro n0
 ·have hf:nM s e=asF (pk e):=by funext x;unfold nM;rw[if_pos n0]
  have hd:l_ s e=kz e:=by unfold l_;rw[if_pos n0]
  obtain⟨f1,f2⟩:=fin _ _ hf hd
  repeat' (first|exact f1|exact f2|refine And.intro (by first|exact f1|exact he|exact he.1|exact he.2|omega|simp;done) ?_)
 refine Bw ?_ ?_<;>intro n1
 ·have hf:nM s e=TD (cD e Ew):=by funext x;unfold nM;rw[if_neg n0,if_pos n1]
  have hd:l_ s e=ck e Ew:=by unfold l_;rw[if_neg n0,if_pos n1]
  obtain⟨f1,f2⟩:=fin _ _ hf hd
  repeat' (first|exact f1|exact f2|refine And.intro (by first|exact f1|exact he|exact he.1|exact he.2|omega|simp;done) ?_)
 refine Bw ?_ ?_<;>intro n2
 ·have hf:nM s e=OQ (af e 6):=by funext x;unfold nM;rw[if_neg n0,if_neg n1,if_pos n2]
  have hd:l_ s e=aa e 6:=by unfold l_;rw[if_neg n0,if_neg n1,if_pos n2]
  obtain⟨f1,f2⟩:=fin _ _ hf hd
  repeat' (first|exact f1|exact f2|refine And.intro (by first|exact f1|exact he|exact he.1|exact he.2|omega|simp;done) ?_)
 refine Bw ?_ ?_<;>intro n3
 ·have hf:nM s e=OP (gS e Cc):=by funext x;unfold nM;rw[if_neg n0,if_neg n1,if_neg n2,if_pos n3]
  have hd:l_ s e=kL e Cc:=by unfold l_;rw[if_neg n0,if_neg n1,if_neg n2,if_pos n3]
  obtain⟨f1,f2⟩:=fin _ _ hf hd
  repeat' (first|exact f1|exact f2|refine And.intro (by first|exact f1|exact he|exact he.1|exact he.2|omega|simp;done) ?_)
 refine Bw ?_ ?_<;>intro n4
 ·have hf:nM s e=XX (gS e Oj):=by funext x;unfold nM;rw[if_neg n0,if_neg n1,if_neg n2,if_neg n3,if_pos n4]
  have hd:l_ s e=kL e Oj:=by unfold l_;rw[if_neg n0,if_neg n1,if_neg n2,if_neg n3,if_pos n4]
  obtain⟨f1,f2⟩:=fin _ _ hf hd
  repeat' (first|exact f1|exact f2|refine And.intro (by first|exact f1|exact he|exact he.1|exact he.2|omega|simp;done) ?_)
 refine Bw ?_ ?_<;>intro n5
 ·have hf:nM s e=asV (mb e):=by funext x;unfold nM;rw[if_neg n0,if_neg n1,if_neg n2,if_neg n3,if_neg n4,if_pos n5]
  have hd:l_ s e=mc e:=by unfold l_;rw[if_neg n0,if_neg n1,if_neg n2,if_neg n3,if_neg n4,if_pos n5]
  obtain⟨f1,f2⟩:=fin _ _ hf hd
  repeat' (first|exact f1|exact f2|refine And.intro (by first|exact f1|exact he|exact he.1|exact he.2|omega|simp;done) ?_)
 have hf:nM s e=id:=by funext x;unfold nM;rw[if_neg n0,if_neg n1,if_neg n2,if_neg n3,if_neg n4,if_neg n5];rfl
 have hd:l_ s e=e:=by unfold l_;rw[if_neg n0,if_neg n1,if_neg n2,if_neg n3,if_neg n4,if_neg n5]
 have hm:sG c=de c:=by rw[e1,hf];exact List.modify_id _ _
 obtain⟨f1,f2⟩:=fin _ _ hf hd
 exact⟨by trivial,ww hm.symm,f2⟩
theorem ox{s:aD}:bq s=true↔(1<=s.Next/\s.Next<=1000000)/\s.ab.length<=40/\(∀x∈s.ab,bE x.F=true/\1<=x.Id/\x.Id<s.Next)/\s.ab.Pairwise (fun a b=>a.Id<b.Id/\a.F≠b.F):=by
 have hg:∀{i:Nat}(h:i<s.ab.length),s.ab.getD i aZ=s.ab[i]:=fun{i} h=>by rw[eV,fE h];rfl
 simp only[bq,cN,decide_eq_true_eq,<-Em,and_assoc]
 refine and_congr_right fun _=>and_congr_right fun _=>and_congr_right fun _=> ?_
 rw[gb]
 constructor
 ·intro h
  have hb:∀i,i<s.ab.length->jU s i=true:=fun i hi=>by
   have:=h i hi
   simp only[jn,cN] at this
   exact this.1
  refine⟨fun t ht=> ?_,?_⟩
  ·obtain⟨i,hi,rfl⟩:=sT ht
   have:=hb i hi
   simp only[jU,cN,decide_eq_true_eq] at this
   rw[<-hg hi];exact⟨this.1.1.1,this.1.1.2,this.1.2⟩
  ·rw[UM]
   intro i j hi hj Gh
   refine⟨by have:=Mb hb i j Gh hj;rw[hg hi,hg hj] at this;exact this,fun e=> ?_⟩
   have:=h j hj
   simp only[jn,cN,qK] at this
   have:=yF (oT.1 this.2 i Gh)
   rw[hg hi,hg hj] at this
   exact this e.symm
 ·rintro⟨h1,h2⟩ j hj
  rw[UM] at h2
  obtain⟨q1,q2,q3⟩:=h1 _ (D5 hj)
  simp only[jn,jU,cN,qK,decide_eq_true_eq,Bool.and_eq_false_iff,decide_eq_false_iff_not]
  refine⟨⟨⟨⟨by rw[hg hj];exact q1,by rw[hg hj];exact q2⟩,by rw[hg hj];exact q3⟩,?_⟩,oT.2 fun i Gh=>decide_eq_false fun e=> ?_⟩
  ·by_cases h0:0<j
   ·right
    have:=(h2 (j-1) j (by omega) hj (by omega)).1
    rw[hg hj,hg (show j-1<s.ab.length by omega)];omega
   ·exact .inl h0
  ·have hi:i<s.ab.length:=by omega
   rw[hg hi,hg hj] at e
   exact(h2 i j hi hj Gh).2 e.symm
theorem PU{s:aD}(h:bq s=true){f:aL}(h0:kg s.ab f=0):∀x∈s.ab,x.F≠f:=by
 intro x hx e
 obtain⟨i,hi,rfl⟩:=sT hx
 rcases ik s.ab.length (fun k=>decide ((s.ab.getD k aZ).F=f)) with⟨_,h2⟩|⟨m,g1,g2,_,_⟩
 ·have:=yF (h2 i hi)
  rw[eV,fE hi] at this
  exact this e
 ·have e2:Gv s.ab f=m:=g2
  rw[kg,e2,if_neg (by omega)] at h0
  have:=(kI h).2.2.2 (s.ab.getD m aZ) (gH g1)
  rw[Zx] at h0
  omega
theorem En{s:aD}(h:bq s=true){f:aL}(hf:bE f=true):bq (bM s f).1=true:=by
 unfold bM
 split
 ·exact h
 ·rename_i h0
  split
  ·exact h
  ·rename_i h1
   have hn:=PU h (f:=f) (Decidable.not_not.1 h0)
   obtain⟨g1,g2,g3,g4⟩:=ox.1 h
   refine ox.2 ⟨⟨by show 1<=s.Next+1;omega,by show s.Next+1<=1000000;omega⟩,by simp only[kF,fP,fz];omega,fun x hx=> ?_,?_⟩
   ·show _/\_/\_<s.Next+1
    rcases jI.1 hx with hx|hx
    ·obtain⟨a,b,c⟩:=g3 x hx;exact⟨a,b,by omega⟩
    ·rw[mW.1 hx];exact⟨hf,g1.1,by show s.Next<s.Next+1;omega⟩
   ·rw[List.pairwise_append]
    refine⟨g4,List.pairwise_singleton _ _,fun a ha b hb=> ?_⟩
    rw[mW.1 hb]
    exact⟨(g3 a ha).2.2,hn a ha⟩
def p6(id:Int)(x:bO):Bool:= !decide (x.Id=id)
def ve(s:aD)(id:Int):aD:=⟨s.ab.filter (p6 id),s.Next⟩
theorem KF{s:aD}(h:bq s=true)(id:Int):bq (ve s id)=true:=by
 obtain⟨g1,g2,g3,g4⟩:=ox.1 h
 exact ox.2 ⟨g1,uN (Mw _ _) g2,fun x hx=>g3 x (xR.1 hx).1,g4.filter _⟩
theorem sr{l:List bO}{id:Int}:kw l id=true↔∃x∈l,x.Id=id:=by
 simp only[kw,zo,decide_eq_true_eq]
 constructor
 ·rintro⟨j,hj,h⟩;exact⟨_,gH hj,h⟩
 ·rintro⟨x,hx,h⟩
  obtain⟨i,hi,rfl⟩:=sT hx
  exact⟨i,hi,by rw[eV,fE hi];exact h⟩
theorem IE{s:aD}{f:aL}{id:Int}(h:kw s.ab id=true):kw (bM s f).1.ab id=true:=by
 unfold bM
 split
 ·exact h
 ·split
  ·exact h
  ·obtain⟨x,hx,e⟩:=sr.1 h
   exact sr.2 ⟨x,rW _ hx,e⟩
def yM(l:List Int)(n:Int):Bool:=l.any fun x=>decide (x=n)
def yS(l:List av)(id:Int):List av:=l.filter fun m=> !yM m.eo id
structure coreX(d:br)(x:aq):Prop where
 pK:f_ d=true
 store:bq x.S=true
 ij:aN x.aj=true
 timers:dt x.ap=true
 ov:dz x.ax=true
 now:0<=x.cd/\x.cd<=1000000000
 Km:x.aA.length<=1000
 b_:∀m∈x.aA,jb d x.S.ab m=true
structure cO(d:br)(x:aq):Prop extends coreX d x where
 state:1<=x.State/\x.State<=6
 ended:x.State=2\/x.State=4\/x.State=6->pw x.aj=false/\x.ap=[]
 NZ:x.State=3\/x.State=5->x.ax≠[]
theorem pO{d:br}{x:aq}:instOk d x=true↔cO d x:=by
 have e1:(!(ng x&&(pw x.aj||decide (0<x.ap.length))))=true↔(x.State=2\/x.State=4\/x.State=6->pw x.aj=false/\x.ap=[]):=by
  simp only[ng]
  by_cases h:x.State=2\/x.State=4\/x.State=6
  ·rw[decide_eq_true h,wQ,qK,QK,decide_eq_false_iff_not]
   exact⟨fun g _=>⟨g.1,Gl (by omega)⟩,fun g=>⟨(g h).1,by rw[(g h).2];simp⟩⟩
  ·rw[decide_eq_false h];exact⟨fun _ g=>absurd g h,fun _=>rfl⟩
 have e2:(!mY x||decide (0<x.ax.length))=true↔(x.State=3\/x.State=5->x.ax≠[]):=by
  simp only[mY,Gc,qK,QK,decide_eq_false_iff_not,decide_eq_true_eq]
  constructor
  ·rintro(g|g) h e
   ·rcases h with h|h
    ·exact g.1 h
    ·exact g.2 h
   ·rw[e] at g;simp at g
  ·intro g
   by_cases h:x.State=3\/x.State=5
   ·exact .inr (List.length_pos_iff.2 (g h))
   ·exact .inl ⟨fun e=>h (.inl e),fun e=>h (.inr e)⟩
 rw[instOk,cN,cN,e1,e2]
 simp only[iP,cN,decide_eq_true_eq,sP]
 constructor
 ·rintro⟨⟨⟨⟨⟨⟨⟨⟨⟨h1,h2⟩,h3⟩,h4⟩,h5⟩,h6⟩,h7⟩,h8,h9⟩,tC⟩,h11⟩
  exact⟨⟨h1,h2,h3,h4,h5,h7,h8,h9⟩,h6,tC,h11⟩
 ·rintro⟨⟨h1,h2,h3,h4,h5,h7,h8,h9⟩,h6,tC,h11⟩
  exact⟨⟨⟨⟨⟨⟨⟨⟨⟨h1,h2⟩,h3⟩,h4⟩,h5⟩,h6⟩,h7⟩,h8,h9⟩,tC⟩,h11⟩
theorem coreX.good{d:br}{x:aq}(h:coreX d x):cH x:=⟨h.ij,h.ov,h.now⟩
theorem Ln(l:List ao):pw (giveUp l)=false:=by
 refine gz fun j hj=> ?_
 have hm:=gH (z:=aC) hj
 obtain⟨t,_,e⟩:=mz.1 hm
 rw[<-e]
 simp only[jw,gG]
 split
 ·simp
 ·rename_i h;exact decide_eq_false h
theorem GY{d:br}{x:aq}(h:coreX d x){st:Int}(hs:st=2\/st=4\/st=6):cO d (uE x st):=
 ⟨⟨h.pK,h.store,pS h.ij,rfl,h.ov,h.now,h.Km,h.b_⟩,by show 1<=st/\st<=6;omega,fun _=>⟨Ln _,rfl⟩,fun g=>by have g:st=3\/st=5:=g;omega⟩
theorem Bn{d:br}{x:aq}(h:coreX d x)(hs:x.State=3\/x.State=5):cO d (gZ x):=by
 unfold gZ
 split
 ·exact GY h (by split<;>omega)
 ·rename_i hu
  exact⟨⟨h.pK,h.store,Ei h.good hu,h.timers,h.ov,h.now,h.Km,h.b_⟩,by show 1<=x.State/\x.State<=6;omega,fun g=>by have g:x.State=2\/x.State=4\/x.State=6:=g;omega,fun _=>hu⟩
theorem Tk{d:br}{x:aq}(h:coreX d x)(st:Int):coreX d (uE x st):=⟨h.pK,h.store,pS h.ij,rfl,h.ov,h.now,h.Km,h.b_⟩
theorem mB{d:br}{x:aq}(h:coreX d x){st:Int}(hs:st=3\/st=5):cO d (fX x st):=Bn (Tk h st) hs
theorem pV{d:br}{x:aq}(h:coreX d x)(hs:x.State=3\/x.State=5):cO d (oJ x):=
 Bn ⟨h.pK,h.store,h.ij,h.timers,x_ _ h.ov,h.now,h.Km,h.b_⟩ hs
theorem j8{d:br}{x:aq}(h:coreX d x)(hs:x.State=1):cO d x:=⟨h,by omega,fun g=>by omega,fun g=>by omega⟩
theorem LZ{d:br}{x:aq}(h:coreX d x){f:aL}(hf:bE f=true):coreX d (qT x (bM x.S f).1):=
 ⟨h.pK,En h.store hf,h.ij,h.timers,h.ov,h.now,h.Km,fun m hm=>by
  have:=h.b_ m hm
  simp only[jb,cN,sP] at this⊢
  exact⟨this.1,fun i hi=>IE (this.2 i hi)⟩⟩
theorem gK{d:br}{x:aq}(h:coreX d x)(hs:x.State=1){f:aL}(hf:bE f=true):cO d (cJ x f):=by
 unfold cJ
 split
 ·exact mB h (.inl rfl)
 ·exact j8 (LZ h hf) hs
theorem nU{l:List aI}:dt l=true↔l.length<=30/\(∀t∈l,iq t=true)/\l.Pairwise (fun a b=>a.At<=b.At):=by
 have hg:∀{i:Nat}(h:i<l.length),l.getD i cC=l[i]:=fun{i} h=>by rw[eV,fE h];rfl
 simp only[dt,cN,decide_eq_true_eq]
 refine and_congr_right fun _=> ?_
 rw[gb]
 constructor
 ·intro h
  refine⟨fun t ht=> ?_,?_⟩
  ·obtain⟨i,hi,rfl⟩:=sT ht
   have:=h i hi
   simp only[jL,cN] at this
   rw[<-hg hi];exact this.1
  ·have step:∀i (hi:i+1<l.length),l[i].At<=l[i+1].At:=fun i hi=>by
    have:=h (i+1) hi
    simp only[jL,cN,Gc,decide_eq_true_eq,Nat.add_sub_cancel] at this
    rw[hg hi,hg (by omega)] at this
    rcases this.2 with h0|h0
    ·omega
    ·exact h0
   rw[UM]
   intro i j hi hj Gh
   obtain⟨k,rfl⟩:∃k,j=i+1+k:=⟨j-i-1,by omega⟩
   clear Gh
   induction k with
   |zero=>exact step i hj
   |succ k ih=>exact Int.le_trans (ih (by omega)) (step (i+1+k) hj)
 ·rintro⟨h1,h2⟩ j hj
  simp only[jL,cN,Gc,decide_eq_true_eq]
  refine⟨by rw[hg hj];exact h1 _ (D5 hj),?_⟩
  by_cases h0:j=0
  ·exact .inl h0
  ·right
   rw[UM] at h2
   rw[hg hj,hg (show j-1<l.length by omega)]
   exact h2 (j-1) j (by omega) hj (by omega)
theorem rI{l:List aI}(p:aI->Bool)(h:dt l=true):dt (l.filter p)=true:=by
 rw[nU] at h⊢
 exact⟨uN (Mw _ _) h.1,fun t ht=>h.2.1 t (xR.1 ht).1,h.2.2.filter p⟩
theorem EJ{l:List aI}{a:Int}(hp:l.Pairwise (fun a b=>a.At<=b.At)):∀n,n<=l.length->(∀j,j<ux l a n->(l.getD j cC).At<=a)/\∀j,ux l a n<=j->j<n->a<(l.getD j cC).At
 |0,_=>⟨fun j hj=>by simp[ux] at hj,fun j _ hj=>by omega⟩
 |n+1,hn=>by
  obtain⟨h1,h2⟩:=EJ hp n (by omega)
  have hg:∀{i:Nat}(h:i<l.length),l.getD i cC=l[i]:=fun{i} h=>by rw[eV,fE h];rfl
  rw[ux]
  split
  ·rename_i h
   refine⟨h1,fun j g1 g2=> ?_⟩
   by_cases e:j=n
   ·subst e;omega
   ·exact h2 j g1 (by omega)
  ·rename_i h
   refine⟨fun j hj=> ?_,fun j g1 g2=>by omega⟩
   by_cases e:j=n
   ·subst e;omega
   ·rw[UM] at hp
    have:=hp j n (by omega) (by omega) (by omega)
    rw[hg (by omega)] at h⊢
    omega
theorem MN{l:List aI}{x:aI}(h:dt l=true):dt (rS l x)=true:=by
 unfold rS
 split
 ·rename_i ha
  simp only[nu,cN,decide_eq_true_eq] at ha
  obtain⟨g1,g2,g3⟩:=nU.1 h
  obtain⟨p1,p2⟩:=EJ (a:=x.At) g3 l.length (uh _)
  have hp:=Oc l x.At l.length
  refine nU.2 ⟨by simp only[kF,oq,fP,My];omega,fun t ht=> ?_,?_⟩
  ·rcases jI.1 ht with ht|ht
   ·exact g2 t (List.mem_of_mem_take ht)
   ·rcases kc.1 ht with ht|ht
    ·rw[ht];exact ha.1.2
    ·exact g2 t (List.mem_of_mem_drop ht)
  ·rw[List.pairwise_append]
   refine⟨g3.sublist (List.take_sublist _ _),List.pairwise_cons.2 ⟨fun b hb=> ?_,g3.sublist (List.drop_sublist _ _)⟩,fun a ha b hb=> ?_⟩
   ·obtain⟨j,hj,e⟩:=sT hb
    rw[List.getElem_drop] at e
    simp only[My] at hj
    have:=p2 (ux l x.At l.length+j) (by omega) (by omega)
    rw[eV,fE (by omega)] at this
    rw[<-e];exact Int.le_of_lt this
   ·obtain⟨i,hi,e⟩:=sT ha
    rw[List.getElem_take] at e
    simp only[oq] at hi
    have hle:=p1 i (by omega)
    rw[eV,fE (by omega)] at hle
    have hle:a.At<=x.At:=by rw[<-e];exact hle
    rcases kc.1 hb with hb|hb
    ·rw[hb];exact hle
    ·obtain⟨j,hj,e'⟩:=sT hb
     rw[List.getElem_drop] at e'
     simp only[My] at hj
     have:=p2 (ux l x.At l.length+j) (by omega) (by omega)
     rw[eV,fE (by omega)] at this
     have:x.At<b.At:=by rw[<-e'];exact this
     omega
 ·exact h
def D_(x:aq)(l:List av):aq:=⟨x.S,l,x.aj,x.ap,x.ax,x.State,x.cd⟩
def NX(x:aq)(l:List aI):aq:=⟨x.S,x.aA,x.aj,l,x.ax,x.State,x.cd⟩
def D9(x:aq)(n:Int):aq:=⟨x.S,x.aA,x.aj,x.ap,x.ax,x.State,n⟩
def Hv(x:aq)(id:Int):aq:=if(ve x.S id).ab.length<x.S.ab.length then D_ (qT x (ve x.S id)) (yS x.aA id) else qT x (ve x.S id)
def N3(x:aq)(e:di):aq:=if(fH x.aj e.F e.aW x.cd).2=true then qR x (fH x.aj e.F e.aW x.cd).1 else fX (qR x (fH x.aj e.F e.aW x.cd).1) 3
def uR(x:aq)(e:di):aI:=⟨if 1000000000<x.cd+e.N then 1000000000 else x.cd+e.N,e.F⟩
def HU(x:aq)(e:di):aq:=if nu x.ap (uR x e)=true then NX x (rS x.ap (uR x e)) else fX (NX x (rS x.ap (uR x e))) 3
def hZ(x:aq)(e:di):aq:=
 if e.Kind=1 then cJ x e.F else if e.Kind=2 then Hv x e.Id else if e.Kind=3 then N3 x e else if e.Kind=4 then HU x e else if e.Kind=5 then uE x 2 else fX x 3
theorem Qu{d:br}{x:aq}(h:coreX d x)(id:Int):coreX d (Hv x id):=by
 unfold Hv
 split
 ·refine⟨h.pK,KF h.store id,h.ij,h.timers,h.ov,h.now,uN (Mw _ _) h.Km,fun m hm=> ?_⟩
  obtain⟨hm,hn⟩:=xR.1 hm
  have:=h.b_ m hm
  simp only[jb,cN,sP] at this⊢
  refine⟨this.1,fun i hi=> ?_⟩
  obtain⟨y,hy,e⟩:=sr.1 (this.2 i hi)
  refine sr.2 ⟨y,xR.2 ⟨hy,?_⟩,e⟩
  simp only[p6,qK,decide_eq_false_iff_not]
  intro e2
  simp only[qK,yM,List.any_eq_false,decide_eq_true_eq] at hn
  exact hn i hi (e.symm.trans e2)
 ·rename_i hl
  have e:ve x.S id=x.S:=by
   have:x.S.ab.filter (p6 id)=x.S.ab:=List.filter_sublist.eq_of_length_le (by simp only[ve] at hl;omega)
   simp only[ve,this]
  rw[e]
  exact⟨h.pK,h.store,h.ij,h.timers,h.ov,h.now,h.Km,h.b_⟩
theorem yj{d:br}{x:aq}(h:coreX d x)(hs:x.State=1){e:di}(he:eg e=true):cO d (hZ x e):=by
 simp only[eg] at he
 unfold hZ
 by_cases h1:e.Kind=1
 ·simp only[h1,decide_true,cond_true,cN] at he
  rw[if_pos h1];exact gK h hs he.1.1.1
 rw[if_neg h1]
 by_cases h2:e.Kind=2
 ·rw[if_pos h2];exact j8 (Qu h _) (by unfold Hv;split<;>exact hs)
 rw[if_neg h2]
 by_cases h3:e.Kind=3
 ·simp only[h3,show decide ((3:Int)=1)=false from rfl,show decide ((3:Int)=2)=false from rfl,decide_true,cond_true,cond_false,cN] at he
  rw[if_pos h3]
  have ho:aN (fH x.aj e.F e.aW x.cd).1=true:=oc h.ij he.1.1.1 he.2 h.now.1 (by have:=h.now.2;omega)
  have hc:coreX d (qR x (fH x.aj e.F e.aW x.cd).1):=⟨h.pK,h.store,ho,h.timers,h.ov,h.now,h.Km,h.b_⟩
  unfold N3
  split
  ·exact j8 hc hs
  ·exact mB hc (.inl rfl)
 rw[if_neg h3]
 by_cases h4:e.Kind=4
 ·rw[if_pos h4]
  have hc:coreX d (NX x (rS x.ap (uR x e))):=⟨h.pK,h.store,h.ij,MN h.timers,h.ov,h.now,h.Km,h.b_⟩
  unfold HU
  split
  ·exact j8 hc hs
  ·exact mB hc (.inl rfl)
 rw[if_neg h4]
 by_cases h5:e.Kind=5
 ·rw[if_pos h5];exact GY h (.inl rfl)
 ·rw[if_neg h5];exact mB h (.inl rfl)
def j6:List di->aq->aq
 |[],x=>x
 |e::l,x=>if x.State=1 then j6 l (hZ x e) else x
def IH(x:aq)(m:av):aq:=D_ x (x.aA++[⟨m.cL,m.eo,[]⟩])
def qg(d:br)(x:aq)(m:av):aq:=if l8 d m=true/\x.aA.length<1000 then j6 (nD d m) (IH x m) else fX x 3
theorem wT{d:br}:∀{l:List di}{x:aq},cO d x->(∀e∈l,eg e=true)->cO d (j6 l x)
 |[],_,h,_=>h
 |e::l,x,h,hl=>by
  rw[j6];split
  ·rename_i hs
   exact wT (yj h.tocoreX hs (hl e iH)) fun y hy=>hl y (fF _ hy)
  ·exact h
theorem OA{d:br}{m:av}:∀e∈nD d m,eg e=true:=by
 intro e he
 unfold nD at he
 split at he
 ·rename_i h
  obtain⟨a,ha,rfl⟩:=mz.1 he
  simp only[l8,cN,sP] at h
  have:=h.2 a ha
  simp only[If,cN] at this
  exact this.2
 ·simp at he
def yQ(s:List bO)(m:av):Prop:=∀i∈m.eo,kw s i=true
theorem Fz{d:br}{x:aq}{m:av}(h:coreX d x)(hl:x.aA.length<1000)(he:l8 d m=true)(hm:yQ x.S.ab m):coreX d (IH x m):=by
 refine⟨h.pK,h.store,h.ij,h.timers,h.ov,h.now,by simp only[IH,D_,kF,fP,fz];omega,fun n hn=> ?_⟩
 rcases jI.1 hn with hn|hn
 ·exact h.b_ n hn
 ·rw[mW.1 hn]
  simp only[l8,ES,cN] at he
  simp only[jb,cN,sP]
  exact⟨⟨⟨he.1.2.1,by simp⟩,he.1.2.2⟩,hm⟩
theorem MY{d:br}{x:aq}{m:av}(h:coreX d x)(hs:x.State=1)(hm:yQ x.S.ab m):cO d (qg d x m):=by
 unfold qg
 split
 ·rename_i hc
  exact wT (j8 (Fz h hc.2 hc.1 hm) hs) OA
 ·exact mB h (.inl rfl)
theorem GX{r:bc}{s:List bO}:∀{ps:List cr}{ids:List Int}{l:List bT},(∀i∈ids,kw s i=true)->∀m∈pT r s ps ids l,yQ s m
 |[],ids,l,h,m,hm=>by
  simp only[pT] at hm
  split at hm
  ·rw[mW.1 hm];exact h
  ·simp at hm
 |p::ps,ids,l,h,m,hm=>by
  simp only[pT,o8] at hm
  obtain⟨x,hx,hm⟩:=hm
  split at hm
  ·refine GX (fun i hi=> ?_) m hm
   rcases jI.1 hi with hi|hi
   ·exact h i hi
   ·rw[mW.1 hi];exact sr.2 ⟨x,hx,rfl⟩
  ·simp at hm
theorem TH{rs:List bc}{s:List bO}{m:av}(hm:m∈allM rs s):yQ s m:=by
 simp only[allM,Mg,o8,mz] at hm
 obtain⟨i,_,m',vT,rfl⟩:=hm
 exact GX (r:=rs.getD i ct) (ids:=[]) (by simp) m' vT
theorem G1{d:br}{x:aq}{m:av}(h:jY d (allM d.aw x.S.ab) x.aA=some m):yQ x.S.ab m:=TH (G2 h)
theorem EX{d:br}{x:aq}{key:BA}{ok:Bool}{v:a_}(h:instOk d x=true)(h0:(bC x.aj key ok v).2=1):x.State=1\/x.State=3\/x.State=5:=by
 have h1:aN x.aj=true/\bR v=true/\0<=aU x.aj key/\(x.aj.getD (aU x.aj key).toNat aC).State≠1:=Classical.byContradiction fun c=>by rw[ta c] at h0;simp at h0
 have h2:(x.aj.getD (aU x.aj key).toNat aC).State=2:=Classical.byContradiction fun c=>by rw[vL h1 c] at h0;simp at h0
 have hk:=pF (l:=x.aj) (key:=key) h1.2.2.1
 have hl:pw x.aj=true:=iF (j:=(aU x.aj key).toNat) hk (decide_eq_true (Or.inr h2))
 simp only[instOk,cN,decide_eq_true_eq] at h
 obtain⟨⟨⟨⟨⟨_,hs⟩,_⟩,_⟩,he⟩,_⟩:=h
 rw[hl] at he
 have he:ng x=false:=by cases hx:ng x<;>simp[hx] at he⊢
 simp only[ng,decide_eq_false_iff_not] at he
 omega
def KK:List BA:=[⟨#[88]⟩,⟨#[89]⟩,⟨#[90]⟩,⟨#[88]⟩]
def Rd:List BA:=[⟨#[88]⟩,⟨#[89]⟩]
def io(c:ah):cM:=if af c 6=0 then⟨3,ai,dK⟩ else if af c 6=1 then⟨2,ai,en (aa c 6)⟩ else⟨1,cD (aa c 6) KK,dK⟩
def im(c:ah):ah:=if af c 6=0 then aa c 6 else if af c 6=1 then gQ (aa c 6) else ck (aa c 6) KK
theorem rr{c:ah}(h:bm c):bm (im c):=by
 have:=au h 6
 unfold im;split
 ·exact this
 ·split
  ·exact k_ this
  ·exact dQ this _
def eu(c:ah):cM:=if cm c 3=true then⟨2,ai,en (aa c 3)⟩ else⟨1,cD (aa c 3) Rd,dK⟩
def dc(c:ah):ah:=if cm c 3=true then gQ (aa c 3) else ck (aa c 3) Rd
theorem qm{c:ah}(h:bm c):bm (dc c):=by
 have:=au h 3
 unfold dc;split
 ·exact k_ this
 ·exact dQ this _
def mP{α:Type}(f:ah->α)(g:ah->ah):Nat->List α->ah->List α
 |0,l,_=>l
 |k+1,l,c=>mP f g k (l++[f c]) (g c)
def p_(g:ah->ah):Nat->ah->ah
 |0,c=>c
 |k+1,c=>p_ g k (g c)
theorem mO{α:Type}(f:ah->α)(g:ah->ah):∀(k:Nat)(l:List α)(c:ah),(mP f g k l c).length=l.length+k
 |0,_,_=>rfl
 |k+1,l,c=>by rw[mP,mO f g k];simp only[kF,fP,fz];omega
theorem nW{α:Type}{f:ah->α}{g:ah->ah}(p:α->Prop)(hp:∀c,p (f c)):∀(k:Nat)(l:List α)(c:ah),(∀x,x∈l->p x)->∀x,x∈mP f g k l c->p x
 |0,_,_,h=>h
 |k+1,l,c,h=>nW p hp k _ _ fun x hx=>by
  rcases jI.1 hx with hx|hx
  ·exact h x hx
  ·rw[mW] at hx;subst hx;exact hp c
theorem sB{g:ah->ah}(hg:∀c,bm c->bm (g c)):∀{k:Nat}{c:ah},bm c->bm (p_ g k c)
 |0,_,h=>h
 |k+1,_,h=>sB hg (k:=k) (hg _ h)
def vc(c:ah):Int:=if cD c cX=FM then 2 else 1
def pH(not:Bool)(c:ah):cr:=⟨cD c cX,mP io im (vc c).toNat [] (ck c cX),not⟩
def jE(c:ah):ah:=p_ im (vc c).toNat (ck c cX)
theorem qn{c:ah}(h:bm c):bm (jE c):=sB (fun _=>rr) (dQ h _)
theorem H9(c:ah):0<=vc c/\vc c<=2:=by unfold vc;split<;>omega
def ze(c:ah):dy:=⟨1+af c 3,eu (aa c 3),eu (dc (aa c 3))⟩
def rQ(c:ah):ah:=dc (dc (aa c 3))
theorem AU{c:ah}(h:bm c):bm (rQ c):=qm (qm (au h _))
def Ev:List BA:=[⟨#[43]⟩,⟨#[45]⟩]
def fO(c:ah):cv:=if cm (dc c) 4=true then⟨cD (aa (dc c) 4) Ev,eu c,eu (ck (aa (dc c) 4) Ev)⟩ else⟨ai,eu c,mX⟩
def iB(c:ah):ah:=if cm (dc c) 4=true then dc (ck (aa (dc c) 4) Ev) else aa (dc c) 4
theorem L5{c:ah}(h:bm c):bm (iB c):=by
 have:=au (qm h) 4
 unfold iB;split
 ·exact qm (dQ this _)
 ·exact this
def qa:List Int:=[1,1,2,3,3,4,5,6]
def HX:List BA:=[⟨#[111,114,100,101,114]⟩,⟨#[112,97,105,100]⟩,⟨#[105,116,101,109]⟩,⟨#[115,104,105,112]⟩,⟨#[99,104,97,114,103,101]⟩]
def xn:List Int:=[0,1,5,100000]
def ra:List BA:=[⟨#[114,101,102,117,110,100]⟩,⟨#[99,97,110,99,101,108]⟩]
def iU(c:ah):Int:=gS c qa
def iv(c:ah):BA:=cD (kL c qa) HX
def FP(c:ah):ah:=ck (kL c qa) HX
def xF(c:ah):Int:=if iv c=FM then 2 else 1
def nv(c:ah):List cv:=mP fO iB (xF c).toNat [] (FP c)
def ln(c:ah):ah:=p_ iB (xF c).toNat (FP c)
def oW(c:ah):ah:=if iU c=4 then kL (ln c) xn else ln c
def vv(c:ah):Int:=if iU c=4 then gS (ln c) xn else 0
def uG(c:ah):BA:=if iU c=3/\cm (oW c) 2=true then cD (aa (oW c) 2) ra else ai
def vw(c:ah):ah:=if iU c=3 then(if cm (oW c) 2=true then ck (aa (oW c) 2) ra else aa (oW c) 2) else oW c
def xG(fC:Int)(c:ah):ez:=if iU c=2 then⟨iU c,ai,[],af (kL c qa) fC,ai⟩ else if iU c=5\/iU c=6 then⟨iU c,ai,[],0,ai⟩ else⟨iU c,iv c,nv c,vv c,uG c⟩
def qt(fC:Int)(c:ah):ah:=if iU c=2 then aa (kL c qa) fC else if iU c=5\/iU c=6 then kL c qa else vw c
theorem OY(c:ah):0<=xF c/\xF c<=2:=by unfold xF;split<;>omega
theorem L8{c:ah}(h:bm c):bm (FP c):=dQ (iR h _) _
theorem FH{c:ah}(h:bm c):bm (ln c):=sB (fun _=>L5) (L8 h)
theorem FG{c:ah}(h:bm c):bm (oW c):=by
 unfold oW;split
 ·exact iR (FH h) _
 ·exact FH h
theorem zh{c:ah}(fC:Int)(h:bm c):bm (qt fC c):=by
 unfold qt;split
 ·exact au (iR h _) _
 ·split
  ·exact iR h _
  ·unfold vw;split
   ·split
    ·exact dQ (au (FG h) _) _
    ·exact au (FG h) _
   ·exact FG h
theorem A0(c:ah):(nv c).length<=2:=by
 have:=OY c
 rw[nv,mO];simp only[fz];omega
theorem QE(fC:Int)(c:ah):(xG fC c).ay.length<=2:=by
 have:=A0 c
 unfold xG;split
 ·simp
 ·split
  ·simp
  ·exact this
def rP(vars:List BA)(a:cM):cM:=if eZ vars a=true then a else if vars.length=0 then⟨2,ai,⟨1,1,ai⟩⟩ else⟨1,vars.getD 0 ai,dK⟩
def Qm(vars:List BA)(x:dy):dy:=⟨x.Op,rP vars x.L,rP vars x.R⟩
def qf(vars:List BA)(e:cv):cv:=⟨e.Op,rP vars e.L,if e.Op=ai then e.R else rP vars e.R⟩
def Fl(vars:List BA)(a:ez):ez:=⟨a.Kind,a.Name,a.ay.map (qf vars),a.N,a.aW⟩
def l4:List Int:=[0,0,5,-5,100]
def Rm(c:ah):ah:=kL c l4
def Rj(c:ah):Int:=1+af (Rm c) 3
def HY(c:ah):ah:=aa (Rm c) 3
def lB(c:ah):List cr:=mP (pH false) jE (Rj c).toNat [] (HY c)
def Gp(c:ah):ah:=p_ jE (Rj c).toNat (HY c)
def xg(c:ah):ah:=aa (Gp c) 3
def ed(c:ah):List cr:=if cm (Gp c) 3=true then lB c++[pH true (xg c)] else lB c
def Ez(c:ah):ah:=if cm (Gp c) 3=true then jE (xg c) else xg c
def dk(c:ah):List BA:=cW (ed c)
def xf(c:ah):ah:=aa (Ez c) 3
def fV(c:ah):List dy:=if cm (Ez c) 3=true then[Qm (dk c) (ze (xf c))] else[]
def Aj(c:ah):ah:=if cm (Ez c) 3=true then rQ (xf c) else xf c
def QM(c:ah):Int:=1+af (Aj c) 3
def Rl(c:ah):ah:=aa (Aj c) 3
def GW(c:ah)(d:ah):ez:=Fl (dk c) (xG (cS (ed c)) d)
def rM(c:ah)(d:ah):ah:=qt (cS (ed c)) d
def rL(c:ah):List ez:=mP (GW c) (rM c) (QM c).toNat [] (Rl c)
def pb(c:ah):ah:=p_ (rM c) (QM c).toNat (Rl c)
def pu(name:BA)(c:ah):bc:=⟨name,gS c l4,ed c,fV c,rL c⟩
theorem OH{c:ah}(h:bm c):bm (HY c):=au (iR h _) _
theorem OG{c:ah}(h:bm c):bm (Gp c):=sB (fun _=>qn) (OH h)
theorem OE{c:ah}(h:bm c):bm (Ez c):=by
 unfold Ez;split
 ·exact qn (au (OG h) _)
 ·exact au (OG h) _
theorem IQ{c:ah}(h:bm c):bm (Aj c):=by
 unfold Aj;split
 ·exact AU (au (OE h) _)
 ·exact au (OE h) _
theorem zf{c:ah}(h:bm c):bm (pb c):=sB (fun _=>zh _) (au (IQ h) _)
theorem MT(c:ah):1<=Rj c/\Rj c<=3:=by
 have:=bz (c:=Rm c) (n:=3) (by omega)
 unfold Rj;omega
theorem Rk(c:ah):1<=QM c/\QM c<=3:=by
 have:=bz (c:=Aj c) (n:=3) (by omega)
 unfold QM;omega
def s8:List BA:=[⟨#[114,49]⟩,⟨#[114,50]⟩,⟨#[114,51]⟩,⟨#[114,52]⟩]
def Bi:List BA:=[⟨#[102,108,111,119]⟩,⟨#[115,104,105,112]⟩,⟨#[120]⟩]
def LY:Nat->Nat->List bc->ah->List bc
 |0,_,l,_=>l
 |k+1,i,l,c=>if(i:Int)<1+af c 4 then LY k (i+1) (l++[pu (s8.getD i ai) (aa c 4)]) (pb (aa c 4)) else l
def NH:Nat->Nat->ah->ah
 |0,_,c=>aa c 4
 |k+1,i,c=>if(i:Int)<1+af c 4 then NH k (i+1) (pb (aa c 4)) else aa c 4
def cG(c:ah):br:=⟨cD c Bi,LY 4 0 [] (ck c Bi)⟩
def jB(c:ah):ah:=NH 4 0 (ck c Bi)
theorem L6:∀{k i:Nat}{c:ah},bm c->bm (NH k i c)
 |0,_,_,h=>au h _
 |k+1,i,c,h=>by
  unfold NH;split
  ·exact L6 (k:=k) (zf (au h _))
  ·exact au h _
theorem zg{c:ah}(h:bm c):bm (jB c):=L6 (dQ h _)
theorem LdA{a a':cM}{d d':ah}(h1:a=a')(h2:d=d'):fG [DV.agg [CI a.K,.lit (.string a.S),CI a.V.K,CI a.V.N,.lit (.string a.V.S)]]=fG [DV.agg [CI a'.K,.lit (.string a'.S),CI a'.V.K,CI a'.V.N,.lit (.string a'.V.S)]]/\fG [DV.box [.sl .byte d.b,CI d.i,CI d.h]]=fG [DV.box [.sl .byte d'.b,CI d'.i,CI d'.h]]:=by
 subst h1 h2;exact⟨rfl,rfl⟩
theorem LdP{a a':cr}{d d':ah}(h1:a=a')(h2:d=d'):fG [DV.agg [.lit (.string a.Kind),.sl .gM a.ay,.lit (.bool a.Not)]]=fG [DV.agg [.lit (.string a'.Kind),.sl .gM a'.ay,.lit (.bool a'.Not)]]/\fG [DV.box [.sl .byte d.b,CI d.i,CI d.h]]=fG [DV.box [.sl .byte d'.b,CI d'.i,CI d'.h]]:=by
 subst h1 h2;exact⟨rfl,rfl⟩
theorem LdE{a a':cv}{d d':ah}(h1:a=a')(h2:d=d'):fG [DV.agg [.lit (.string a.Op),CI a.L.K,.lit (.string a.L.S),CI a.L.V.K,CI a.L.V.N,.lit (.string a.L.V.S),CI a.R.K,.lit (.string a.R.S),CI a.R.V.K,CI a.R.V.N,.lit (.string a.R.V.S)]]=fG [DV.agg [.lit (.string a'.Op),CI a'.L.K,.lit (.string a'.L.S),CI a'.L.V.K,CI a'.L.V.N,.lit (.string a'.L.V.S),CI a'.R.K,.lit (.string a'.R.S),CI a'.R.V.K,CI a'.R.V.N,.lit (.string a'.R.V.S)]]/\fG [DV.box [.sl .byte d.b,CI d.i,CI d.h]]=fG [DV.box [.sl .byte d'.b,CI d'.i,CI d'.h]]:=by
 subst h1 h2;exact⟨rfl,rfl⟩
theorem sN{a a':ez}{d d':ah}(h1:a=a')(h2:d=d'):fG [DV.agg [CI a.Kind,.lit (.string a.Name),.sl .bI a.ay,CI a.N,.lit (.string a.aW)]]=fG [DV.agg [CI a'.Kind,.lit (.string a'.Name),.sl .bI a'.ay,CI a'.N,.lit (.string a'.aW)]]/\fG [DV.box [.sl .byte d.b,CI d.i,CI d.h]]=fG [DV.box [.sl .byte d'.b,CI d'.i,CI d'.h]]:=by
 subst h1 h2;exact⟨rfl,rfl⟩
def agx:=bW (α:=a_) (q1 (qA .bf)) [.ro] (fun _=>[]) (fun v=>⟨[dA .gM (⟨2,ai,v⟩:cM)],[],[]⟩)
def TZ:HH:=hF agx func226 [] a0 fun(v:a_) hp hb=>by
 clear hp hb
 apply vE (Lf [DV.agg [CI 2,CS ({data:= #[]:BA}),CI v.K,CI v.N,CS v.S]] [DV.agg [CI 2,CS ai,CI v.K,CI v.N,CS v.S]])
 exact aY _
def agw:=bW (α:=BA) (q1 qS) [.ro] (fun _=>[]) (fun s=>⟨[dA .gM (⟨1,s,dK⟩:cM)],[],[]⟩)
def TY:HH:=hF agw func227 [] a0 fun(s:BA) hp hb=>by
 clear hp hb
 apply vE (Lf [DV.agg [CI 1,CS s,CI 0,CI 0,CS ({data:= #[]:BA})]] [DV.agg [CI 1,CS s,CI dK.K,CI dK.N,CS dK.S]])
 exact aY _
def agG:=bW (α:=ah) (q1 qU) [.box false] (fun c=>[bm c]) (fun c=>⟨[dA .gM (io c)],[],[dU (im c)]⟩)
def O3:HH:=hF agG func213 [nE,Mr,mS,TZ,TY] a0 fun(c:ah) hp hb=>by
 have bo:bm c:=hp _ m0
 clear hp hb
 apply vE (let x1:=[{data:= #[88]:BA},{data:= #[89]:BA},{data:= #[90]:BA},{data:= #[88]:BA}];let x0:=ck (aa c 6) x1;let q0:=aa c 6;0<=c.i/\L4 c.b.length/\bif af c (6:Int)==(0:Int) then LM [DV.agg [CI 3,CS ({data:= #[]:BA}),CI 0,CI 0,CS ({data:= #[]:BA})]] [DV.agg [CI ((io c).K),CS ((io c).S),CI ((io c).V.K),CI ((io c).V.N),CS ((io c).V.S)]] [bU q0] [bU (im c)] else bif af c (6:Int)==(1:Int) then bm q0/\LM [DV.agg [CI 2,CS ai,CI ((en q0).K),CI ((en q0).N),CS ((en q0).S)]] [DV.agg [CI ((io c).K),CS ((io c).S),CI ((io c).V.K),CI ((io c).V.N),CS ((io c).V.S)]] [bU (gQ q0)] [bU (im c)] else bm q0/\1<=x1.length/\LM [DV.agg [CI 1,CS (cD q0 x1),CI dK.K,CI dK.N,CS dK.S]] [DV.agg [CI ((io c).K),CS ((io c).S),CI ((io c).V.K),CI ((io c).V.N),CS ((io c).V.S)]] [bU x0] [bU (im c)])
 dsimp only
 have h6:=au bo 6
 refine⟨bo.1,bo.2,bg (fun h=>⟨by trivial,?_⟩) (fun h=>bg (fun h'=>⟨h6,by trivial,?_⟩) (fun h'=>⟨h6,by simp,by trivial,?_⟩))⟩
 ·exact LdA (a:=⟨3,ai,dK⟩) (d:=aa c 6) (if_pos h).symm (if_pos h).symm
 ·exact LdA (a:=⟨2,ai,en (aa c 6)⟩) (d:=gQ (aa c 6)) ((if_neg h).trans (if_pos h')).symm ((if_neg h).trans (if_pos h')).symm
 ·exact LdA (a:=⟨1,cD (aa c 6) KK,dK⟩) (d:=ck (aa c 6) KK) ((if_neg h).trans (if_neg h')).symm ((if_neg h).trans (if_neg h')).symm
def Yg:=bW (α:=ah×Bool) (qC qU (q1 qO)) [.box false,.ro] (fun(c,not)=>[bm c]) (fun(c,not)=>⟨[dA .dB (pH not c)],[],[dU (jE c)]⟩)
def rD(c:ah)(not:Bool):Int×O'×O'×T4×Unit->Prop:=fun(i,r,p,cu,_)=>0<=i/\i<=vc c/\p.1=cD c cX/\p.2.2.1=not/\bm ⟨cu.1,cu.2.1,cu.2.2.1⟩/\p.2.1.length<=i/\mP io im (vc c-i).toNat p.2.1 ⟨cu.1,cu.2.1,cu.2.2.1⟩=(pH not c).ay/\p_ im (vc c-i).toNat ⟨cu.1,cu.2.1,cu.2.2.1⟩=jE c
def wB(c:ah)(not:Bool):Int×O'×O'×T4×Unit->Nat:=fun(i,r,p,cu,_)=>(vc c-i).toNat
def ajS:AX Yg:=fun(c,not)=>bS [(6,aT [iI 7,.box 4 (4,1024) [.lit .str,.own .gM true,.lit .bool],.box 5 (5,1024) [.lit .str,.own .gM true,.lit .bool],.box 0 (2000000,0) [.shr .byte,.lit (.int .i64),.lit (.int .i64)]] (fun _=>rD c not) (wB c not))]
def Y5:HH:=hF Yg func202 [mS,O3] ajS fun x hp hb=>by
 obtain⟨c,not⟩:=x
 have bo:bm c:=hp _ m0
 clear hp hb
 apply vE (let x2:={data:= #[111,114,100,101,114]:BA};let x3:={data:= #[105,116,101,109]:BA};let x1:=[x2,{data:= #[112,97,105,100]:BA},x3,x2];let x0:=ck c x1;let q0:=BA×List cM×Bool×PUnit;let q1:=(0,({data:= #[]:BA},[],false,()),(cD c x1,[],not,()),(x0.b,x0.i,x0.h,()),());let q2:=pH not c;bm c/\1<=x1.length/\bif (cD c x1).toList==x3.toList then rD c not q1/\∀(y:Int×q0×q0×O9×PUnit),let x5:={b:=y.2.2.2.1.1,i:=y.2.2.2.1.2.1,h:=y.2.2.2.1.2.2.1:ah};let x4:=im x5;let q3:=(wrap i64 (y.1+1),(y.2.1.1,y.2.1.2.1,y.2.1.2.2.1,()),(y.2.2.1.1,y.2.2.1.2.1++[io x5],y.2.2.1.2.2.1,()),(x4.b,x4.i,x4.h,()),());rD c not y->bif decide (y.1<2) then bm x5/\y.2.2.1.2.1.length+List.length [io x5]<=4294967296/\rD c not q3/\wB c not q3<wB c not y else LM [DV.agg [CS y.2.2.1.1,CL .gM y.2.2.1.2.1,CO y.2.2.1.2.2.1]] [DV.agg [CS (q2.Kind),CL .gM q2.ay,CO (q2.Not)]] [DV.box [CL .byte y.2.2.2.1.1,CI y.2.2.2.1.2.1,CI y.2.2.2.1.2.2.1]] [bU (jE c)] else rD c not q1/\∀(y:Int×q0×q0×O9×PUnit),let x5:={b:=y.2.2.2.1.1,i:=y.2.2.2.1.2.1,h:=y.2.2.2.1.2.2.1:ah};let x4:=im x5;let q4:=(wrap i64 (y.1+1),(y.2.1.1,y.2.1.2.1,y.2.1.2.2.1,()),(y.2.2.1.1,y.2.2.1.2.1++[io x5],y.2.2.1.2.2.1,()),(x4.b,x4.i,x4.h,()),());rD c not y->bif decide (y.1<1) then bm x5/\y.2.2.1.2.1.length+List.length [io x5]<=4294967296/\rD c not q4/\wB c not q4<wB c not y else LM [DV.agg [CS y.2.2.1.1,CL .gM y.2.2.1.2.1,CO y.2.2.1.2.2.1]] [DV.agg [CS (q2.Kind),CL .gM q2.ay,CO (q2.Not)]] [DV.box [CL .byte y.2.2.2.1.1,CI y.2.2.2.1.2.1,CI y.2.2.2.1.2.2.1]] [bU (jE c)])
 dsimp only
 have hk:=dQ bo cX
 have hle:=H9 c
 have fin:rD c not ((0:Int),(ai,[],false,()),(cD c cX,[],not,()),((ck c cX).b,(ck c cX).i,(ck c cX).h,()),()):=⟨by omega,hle.1,rfl,rfl,hk,by simp,by simp only[Int.sub_zero];rfl,by simp only[Int.sub_zero];rfl⟩
 have h2:∀{b:Bool},((cD c cX).toList==FM.toList)=b->vc c=if b=true then 2 else 1:=fun{b} h=>by
  rw[aO] at h
  unfold vc
  cases b with
  |true=>rw[if_pos (yT h)];rfl
  |false=>rw[if_neg (yF h)];rfl
 refine⟨bo,by simp,ae (fun h=> ?_) (fun h=> ?_)⟩
 all_goals
  have hN:=h2 h
  simp only[if_true,xS,if_false] at hN
  clear h
  refine⟨fin,?_⟩
  rintro⟨i,⟨r1,r2,r3,⟨⟩⟩,⟨p1,p2,p3,⟨⟩⟩,⟨cb,ci,ch,⟨⟩⟩,⟨⟩⟩ ⟨g1,g2,g3,g4,g5,g6,g7,g8⟩
  simp only at g1 g2 g3 g4 g5 g6 g7 g8⊢
  refine aR (fun hc=> ?_) (fun hc=>⟨by trivial,?_⟩)
  ·have e:(vc c-i).toNat=(vc c-(i+1)).toNat+1:=by omega
   rw[e] at g7 g8
   rw[wi]
   exact⟨g5,by simp only[fP,fz];omega,⟨by omega,by omega,g3,g4,rr g5,by simp only[kF,fP,fz];omega,g7,g8⟩,by simp only[wB];omega⟩
  ·have e:(vc c-i).toNat=0:=by omega
   rw[e] at g7 g8
   have g7:p2=(pH not c).ay:=g7
   have g8:(⟨cb,ci,ch⟩:ah)=jE c:=g8
   subst g3 g4 g7
   exact LdP (a:=⟨cD c cX,(pH p3 c).ay,p3⟩) (d:=⟨cb,ci,ch⟩) rfl g8
def agy:=bW (α:=ah) (q1 qU) [.box false] (fun c=>[bm c]) (fun c=>⟨[dA .gM (eu c)],[],[dU (dc c)]⟩)
def T':HH:=hF agy func225 [sL,Mr,mS,TZ,TY] a0 fun(c:ah) hp hb=>by
 have bo:bm c:=hp _ m0
 clear hp hb
 apply vE (let x1:=[{data:= #[88]:BA},{data:= #[89]:BA}];let x0:=ck (aa c 3) x1;let q0:=aa c 3;bm c/\bif cm c 3 then bm q0/\LM [DV.agg [CI 2,CS ai,CI ((en q0).K),CI ((en q0).N),CS ((en q0).S)]] [DV.agg [CI ((eu c).K),CS ((eu c).S),CI ((eu c).V.K),CI ((eu c).V.N),CS ((eu c).V.S)]] [bU (gQ q0)] [bU (dc c)] else bm q0/\1<=x1.length/\LM [DV.agg [CI 1,CS (cD q0 x1),CI dK.K,CI dK.N,CS dK.S]] [DV.agg [CI ((eu c).K),CS ((eu c).S),CI ((eu c).V.K),CI ((eu c).V.N),CS ((eu c).V.S)]] [bU x0] [bU (dc c)])
 dsimp only
 have h6:=au bo 3
 refine⟨bo,ae (fun h=>⟨h6,by trivial,?_⟩) (fun h=>⟨h6,by simp,by trivial,?_⟩)⟩
 ·exact LdA (a:=⟨2,ai,en (aa c 3)⟩) (d:=gQ (aa c 3)) (if_pos h).symm (if_pos h).symm
 ·have h:¬cm c 3=true:=by rw[h];decide
  exact LdA (a:=⟨1,cD (aa c 3) Rd,dK⟩) (d:=ck (aa c 3) Rd) (if_neg h).symm (if_neg h).symm
def ab3:=bW (α:=ah) (q1 qU) [.box false] (fun c=>[bm c]) (fun c=>⟨[dA .ca (ze c)],[],[dU (rQ c)]⟩)
def ab_:HH:=hF ab3 func203 [nE,T'] a0 fun(c:ah) hp hb=>by
 have bo:bm c:=hp _ m0
 clear hp hb
 apply vE (let x1:=dc (dc (aa c 3));let x2:=eu (dc (aa c 3));let x3:=(eu (aa c 3)).V;let x4:=(1:Int)+af c 3;let x0:=x2.V;let q0:=aa c 3;0<=c.i/\L4 c.b.length/\bm q0/\bm (dc q0)/\LM [DV.agg [CI (wrap i64 x4),CI ((eu q0).K),CS ((eu q0).S),CI x3.K,CI x3.N,CS x3.S,CI x2.K,CS x2.S,CI x0.K,CI x0.N,CS x0.S]] [DV.agg [CI x4,CI ((eu q0).K),CS ((eu q0).S),CI x3.K,CI x3.N,CS x3.S,CI x2.K,CS x2.S,CI x0.K,CI x0.N,CS x0.S]] [bU x1] [bU x1])
 dsimp only
 have hb:=bz (c:=c) (n:=3) (by omega)
 have h3:=au bo 3
 rw[wi]
 exact⟨bo.1,bo.2,h3,qm h3,by trivial,rfl,rfl⟩
def agv:=bW (α:=ah) (q1 qU) [.box false] (fun c=>[bm c]) (fun c=>⟨[dA .bI (fO c)],[],[dU (iB c)]⟩)
def ah_:HH:=hF agv func228 [sL,T',mS] a0 fun(c:ah) hp hb=>by
 have bo:bm c:=hp _ m0
 clear hp hb
 apply vE (let x4:=[{data:= #[43]:BA},{data:= #[45]:BA}];let x5:=aa (dc c) 4;let x3:=ck x5 x4;let x1:=dc x3;let x2:=eu x3;let x0:=x2.V;let q0:={data:= #[]:BA};bm c/\bm (dc c)/\bif cm (dc c) 4 then bm x5/\1<=x4.length/\bm x3/\LM [DV.agg [CS (cD x5 x4),CI ((eu c).K),CS ((eu c).S),CI ((eu c).V.K),CI ((eu c).V.N),CS ((eu c).V.S),CI x2.K,CS x2.S,CI x0.K,CI x0.N,CS x0.S]] [DV.agg [CS ((fO c).Op),CI ((fO c).L.K),CS ((fO c).L.S),CI ((fO c).L.V.K),CI ((fO c).L.V.N),CS ((fO c).L.V.S),CI ((fO c).R.K),CS ((fO c).R.S),CI ((fO c).R.V.K),CI ((fO c).R.V.N),CS ((fO c).R.V.S)]] [bU x1] [bU (iB c)] else LM [DV.agg [CS q0,CI ((eu c).K),CS ((eu c).S),CI ((eu c).V.K),CI ((eu c).V.N),CS ((eu c).V.S),CI 0,CS q0,CI 0,CI 0,CS q0]] [DV.agg [CS ((fO c).Op),CI ((fO c).L.K),CS ((fO c).L.S),CI ((fO c).L.V.K),CI ((fO c).L.V.N),CS ((fO c).L.V.S),CI ((fO c).R.K),CS ((fO c).R.S),CI ((fO c).R.V.K),CI ((fO c).R.V.N),CS ((fO c).R.V.S)]] [bU x5] [bU (iB c)])
 dsimp only
 have h1:=qm bo
 have h4:=au h1 4
 refine⟨bo,h1,ae (fun h=>⟨h4,by simp,dQ h4 _,by trivial,?_⟩) (fun h=>⟨by trivial,?_⟩)⟩
 ·exact LdE (a:=⟨cD (aa (dc c) 4) Ev,eu c,eu (ck (aa (dc c) 4) Ev)⟩) (d:=dc (ck (aa (dc c) 4) Ev)) (if_pos h).symm (if_pos h).symm
 ·have h:¬cm (dc c) 4=true:=by rw[h];decide
  exact LdE (a:=⟨ai,eu c,mX⟩) (d:=aa (dc c) 4) (if_neg h).symm (if_neg h).symm
def Yf:=bW (α:=ah×Int) (qC qU (q1 qI)) [.box false,.ro] (fun(c,fC)=>[bm c]) (fun(c,fC)=>⟨[dA .dE (xG fC c)],[],[dU (qt fC c)]⟩)
def iV(c:ah)(fC:Int):Int×T7×T7×T4×Unit->Prop:=fun(i,r,p,cu,_)=>0<=i/\i<=xF c/\p.1=iU c/\p.2.1=iv c/\p.2.2.2.1=0/\p.2.2.2.2.1=ai/\bm ⟨cu.1,cu.2.1,cu.2.2.1⟩/\p.2.2.1.length<=i/\mP fO iB (xF c-i).toNat p.2.2.1 ⟨cu.1,cu.2.1,cu.2.2.1⟩=nv c/\p_ iB (xF c-i).toNat ⟨cu.1,cu.2.1,cu.2.2.1⟩=ln c
def me(c:ah)(fC:Int):Int×T7×T7×T4×Unit->Nat:=fun(i,r,p,cu,_)=>(xF c-i).toNat
def ajR:AX Yf:=fun(c,fC)=>bS [(14,aT [iI 7,.box 4 (4,1024) [.lit (.int .i64),.lit .str,.own .bI true,.lit (.int .i64),.lit .str],.box 5 (5,1024) [.lit (.int .i64),.lit .str,.own .bI true,.lit (.int .i64),.lit .str],.box 0 (2000000,0) [.shr .byte,.lit (.int .i64),.lit (.int .i64)]] (fun _=>iV c fC) (me c fC))]
def Y4:HH:=hF Yf func205 [B4,nE,mS,ah_,sL] ajR fun x hp hb=>by
 obtain⟨c,fC⟩:=x
 have bo:bm c:=hp _ m0
 clear hp hb
 apply vE (let x4:=[{data:= #[114,101,102,117,110,100]:BA},{data:= #[99,97,110,99,101,108]:BA}];let x7:=[1,1,2,3,3,4,5,6];let x9:={data:= #[105,116,101,109]:BA};let qP:=[0,1,5,100000];let w_:={data:= #[]:BA};let x3:=[{data:= #[111,114,100,101,114]:BA},{data:= #[112,97,105,100]:BA},x9,{data:= #[115,104,105,112]:BA},{data:= #[99,104,97,114,103,101]:BA}];let x6:=x7.length;let mf:=qP.length;let x5:=(↑x6:Int);let x8:=(↑mf:Int);let x1:=x7.getD (Int.toNat (af c x5)) 0;let x2:=aa c x5;let x0:=ck x2 x3;let q0:=xG fC c;let q1:=Int×BA×List cv×Int×BA×PUnit;let q2:=qt fC c;let q3:=(0,(0,w_,[],0,w_,()),(x1,cD x2 x3,[],0,w_,()),(x0.b,x0.i,x0.h,()),());let q4:=LM [DV.agg [CI x1,CS w_,CL .bI [],CI 0,CS w_]] [DV.agg [CI (q0.Kind),CS (q0.Name),CL .bI q0.ay,CI (q0.N),CS (q0.aW)]] [bU x2] [bU q2];let q5:=List Int×Int×Int×PUnit;0<=c.i/\L4 c.b.length/\1<=x6/\bif x1==2 then 0<=x2.i/\L4 x2.b.length/\LM [DV.agg [CI x1,CS w_,CL .bI [],CI (af x2 fC),CS w_]] [DV.agg [CI (q0.Kind),CS (q0.Name),CL .bI q0.ay,CI (q0.N),CS (q0.aW)]] [bU (aa x2 fC)] [bU q2] else bif x1==5 then bif x1==5 then q4 else bm x2/\1<=x3.length/\bif (cD x2 x3).toList==x9.toList then iV c fC q3/\∀(y:Int×q1×q1×q5×PUnit),let jd:={b:=y.2.2.2.1.1,i:=y.2.2.2.1.2.1,h:=y.2.2.2.1.2.2.1:ah};let Aa:=y.2.2.1.1==3;let vH:=aa (aa jd x8) 2;let NW:=ck (aa jd 2) x4;let q6:=(wrap i64 (y.1+1),(y.2.1.1,y.2.1.2.1,y.2.1.2.2.1,y.2.1.2.2.2.1,y.2.1.2.2.2.2.1,()),(y.2.2.1.1,y.2.2.1.2.1,y.2.2.1.2.2.1++[fO jd],y.2.2.1.2.2.2.1,y.2.2.1.2.2.2.2.1,()),((iB jd).b,(iB jd).i,(iB jd).h,()),());let q7:=qP.getD (Int.toNat (af jd x8)) 0;let q8:=aa jd 2;iV c fC y->bif decide (y.1<2) then bm jd/\y.2.2.1.2.2.1.length+List.length [fO jd]<=4294967296/\iV c fC q6/\me c fC q6<me c fC y else bif y.2.2.1.1==4 then 0<=y.2.2.2.1.2.1/\L4 y.2.2.2.1.1.length/\1<=mf/\bif Aa then bm (aa jd x8)/\bif cm (aa jd x8) 2 then bm vH/\1<=x4.length/\LM [DV.agg [CI y.2.2.1.1,CS y.2.2.1.2.1,CL .bI y.2.2.1.2.2.1,CI q7,CS (cD vH x4)]] [DV.agg [CI (q0.Kind),CS (q0.Name),CL .bI q0.ay,CI (q0.N),CS (q0.aW)]] [bU (ck vH x4)] [bU q2] else LM [DV.agg [CI y.2.2.1.1,CS y.2.2.1.2.1,CL .bI y.2.2.1.2.2.1,CI q7,CS y.2.2.1.2.2.2.2.1]] [DV.agg [CI (q0.Kind),CS (q0.Name),CL .bI q0.ay,CI (q0.N),CS (q0.aW)]] [bU vH] [bU q2] else LM [DV.agg [CI y.2.2.1.1,CS y.2.2.1.2.1,CL .bI y.2.2.1.2.2.1,CI q7,CS y.2.2.1.2.2.2.2.1]] [DV.agg [CI (q0.Kind),CS (q0.Name),CL .bI q0.ay,CI (q0.N),CS (q0.aW)]] [bU (aa jd x8)] [bU q2] else bif Aa then bm jd/\bif cm jd 2 then bm q8/\1<=x4.length/\LM [DV.agg [CI y.2.2.1.1,CS y.2.2.1.2.1,CL .bI y.2.2.1.2.2.1,CI y.2.2.1.2.2.2.1,CS (cD q8 x4)]] [DV.agg [CI (q0.Kind),CS (q0.Name),CL .bI q0.ay,CI (q0.N),CS (q0.aW)]] [bU NW] [bU q2] else LM [DV.agg [CI y.2.2.1.1,CS y.2.2.1.2.1,CL .bI y.2.2.1.2.2.1,CI y.2.2.1.2.2.2.1,CS y.2.2.1.2.2.2.2.1]] [DV.agg [CI (q0.Kind),CS (q0.Name),CL .bI q0.ay,CI (q0.N),CS (q0.aW)]] [bU q8] [bU q2] else LM [DV.agg [CI y.2.2.1.1,CS y.2.2.1.2.1,CL .bI y.2.2.1.2.2.1,CI y.2.2.1.2.2.2.1,CS y.2.2.1.2.2.2.2.1]] [DV.agg [CI (q0.Kind),CS (q0.Name),CL .bI q0.ay,CI (q0.N),CS (q0.aW)]] [DV.box [CL .byte y.2.2.2.1.1,CI y.2.2.2.1.2.1,CI y.2.2.2.1.2.2.1]] [bU q2] else iV c fC q3/\∀(y:Int×q1×q1×q5×PUnit),let jd:={b:=y.2.2.2.1.1,i:=y.2.2.2.1.2.1,h:=y.2.2.2.1.2.2.1:ah};let Aa:=y.2.2.1.1==3;let vH:=aa (aa jd x8) 2;let NW:=ck (aa jd 2) x4;let q9:=(wrap i64 (y.1+1),(y.2.1.1,y.2.1.2.1,y.2.1.2.2.1,y.2.1.2.2.2.1,y.2.1.2.2.2.2.1,()),(y.2.2.1.1,y.2.2.1.2.1,y.2.2.1.2.2.1++[fO jd],y.2.2.1.2.2.2.1,y.2.2.1.2.2.2.2.1,()),((iB jd).b,(iB jd).i,(iB jd).h,()),());let RC:=qP.getD (Int.toNat (af jd x8)) 0;let q11:=aa jd 2;iV c fC y->bif decide (y.1<1) then bm jd/\y.2.2.1.2.2.1.length+List.length [fO jd]<=4294967296/\iV c fC q9/\me c fC q9<me c fC y else bif y.2.2.1.1==4 then 0<=y.2.2.2.1.2.1/\L4 y.2.2.2.1.1.length/\1<=mf/\bif Aa then bm (aa jd x8)/\bif cm (aa jd x8) 2 then bm vH/\1<=x4.length/\LM [DV.agg [CI y.2.2.1.1,CS y.2.2.1.2.1,CL .bI y.2.2.1.2.2.1,CI RC,CS (cD vH x4)]] [DV.agg [CI (q0.Kind),CS (q0.Name),CL .bI q0.ay,CI (q0.N),CS (q0.aW)]] [bU (ck vH x4)] [bU q2] else LM [DV.agg [CI y.2.2.1.1,CS y.2.2.1.2.1,CL .bI y.2.2.1.2.2.1,CI RC,CS y.2.2.1.2.2.2.2.1]] [DV.agg [CI (q0.Kind),CS (q0.Name),CL .bI q0.ay,CI (q0.N),CS (q0.aW)]] [bU vH] [bU q2] else LM [DV.agg [CI y.2.2.1.1,CS y.2.2.1.2.1,CL .bI y.2.2.1.2.2.1,CI RC,CS y.2.2.1.2.2.2.2.1]] [DV.agg [CI (q0.Kind),CS (q0.Name),CL .bI q0.ay,CI (q0.N),CS (q0.aW)]] [bU (aa jd x8)] [bU q2] else bif Aa then bm jd/\bif cm jd 2 then bm q11/\1<=x4.length/\LM [DV.agg [CI y.2.2.1.1,CS y.2.2.1.2.1,CL .bI y.2.2.1.2.2.1,CI y.2.2.1.2.2.2.1,CS (cD q11 x4)]] [DV.agg [CI (q0.Kind),CS (q0.Name),CL .bI q0.ay,CI (q0.N),CS (q0.aW)]] [bU NW] [bU q2] else LM [DV.agg [CI y.2.2.1.1,CS y.2.2.1.2.1,CL .bI y.2.2.1.2.2.1,CI y.2.2.1.2.2.2.1,CS y.2.2.1.2.2.2.2.1]] [DV.agg [CI (q0.Kind),CS (q0.Name),CL .bI q0.ay,CI (q0.N),CS (q0.aW)]] [bU q11] [bU q2] else LM [DV.agg [CI y.2.2.1.1,CS y.2.2.1.2.1,CL .bI y.2.2.1.2.2.1,CI y.2.2.1.2.2.2.1,CS y.2.2.1.2.2.2.2.1]] [DV.agg [CI (q0.Kind),CS (q0.Name),CL .bI q0.ay,CI (q0.N),CS (q0.aW)]] [DV.box [CL .byte y.2.2.2.1.1,CI y.2.2.2.1.2.1,CI y.2.2.2.1.2.2.1]] [bU q2] else bif x1==6 then q4 else bm x2/\1<=x3.length/\bif (cD x2 x3).toList==x9.toList then iV c fC q3/\∀(y:Int×q1×q1×q5×PUnit),let jd:={b:=y.2.2.2.1.1,i:=y.2.2.2.1.2.1,h:=y.2.2.2.1.2.2.1:ah};let Aa:=y.2.2.1.1==3;let vH:=aa (aa jd x8) 2;let NW:=ck (aa jd 2) x4;let q12:=(wrap i64 (y.1+1),(y.2.1.1,y.2.1.2.1,y.2.1.2.2.1,y.2.1.2.2.2.1,y.2.1.2.2.2.2.1,()),(y.2.2.1.1,y.2.2.1.2.1,y.2.2.1.2.2.1++[fO jd],y.2.2.1.2.2.2.1,y.2.2.1.2.2.2.2.1,()),((iB jd).b,(iB jd).i,(iB jd).h,()),());let q13:=qP.getD (Int.toNat (af jd x8)) 0;let q14:=aa jd 2;iV c fC y->bif decide (y.1<2) then bm jd/\y.2.2.1.2.2.1.length+List.length [fO jd]<=4294967296/\iV c fC q12/\me c fC q12<me c fC y else bif y.2.2.1.1==4 then 0<=y.2.2.2.1.2.1/\L4 y.2.2.2.1.1.length/\1<=mf/\bif Aa then bm (aa jd x8)/\bif cm (aa jd x8) 2 then bm vH/\1<=x4.length/\LM [DV.agg [CI y.2.2.1.1,CS y.2.2.1.2.1,CL .bI y.2.2.1.2.2.1,CI q13,CS (cD vH x4)]] [DV.agg [CI (q0.Kind),CS (q0.Name),CL .bI q0.ay,CI (q0.N),CS (q0.aW)]] [bU (ck vH x4)] [bU q2] else LM [DV.agg [CI y.2.2.1.1,CS y.2.2.1.2.1,CL .bI y.2.2.1.2.2.1,CI q13,CS y.2.2.1.2.2.2.2.1]] [DV.agg [CI (q0.Kind),CS (q0.Name),CL .bI q0.ay,CI (q0.N),CS (q0.aW)]] [bU vH] [bU q2] else LM [DV.agg [CI y.2.2.1.1,CS y.2.2.1.2.1,CL .bI y.2.2.1.2.2.1,CI q13,CS y.2.2.1.2.2.2.2.1]] [DV.agg [CI (q0.Kind),CS (q0.Name),CL .bI q0.ay,CI (q0.N),CS (q0.aW)]] [bU (aa jd x8)] [bU q2] else bif Aa then bm jd/\bif cm jd 2 then bm q14/\1<=x4.length/\LM [DV.agg [CI y.2.2.1.1,CS y.2.2.1.2.1,CL .bI y.2.2.1.2.2.1,CI y.2.2.1.2.2.2.1,CS (cD q14 x4)]] [DV.agg [CI (q0.Kind),CS (q0.Name),CL .bI q0.ay,CI (q0.N),CS (q0.aW)]] [bU NW] [bU q2] else LM [DV.agg [CI y.2.2.1.1,CS y.2.2.1.2.1,CL .bI y.2.2.1.2.2.1,CI y.2.2.1.2.2.2.1,CS y.2.2.1.2.2.2.2.1]] [DV.agg [CI (q0.Kind),CS (q0.Name),CL .bI q0.ay,CI (q0.N),CS (q0.aW)]] [bU q14] [bU q2] else LM [DV.agg [CI y.2.2.1.1,CS y.2.2.1.2.1,CL .bI y.2.2.1.2.2.1,CI y.2.2.1.2.2.2.1,CS y.2.2.1.2.2.2.2.1]] [DV.agg [CI (q0.Kind),CS (q0.Name),CL .bI q0.ay,CI (q0.N),CS (q0.aW)]] [DV.box [CL .byte y.2.2.2.1.1,CI y.2.2.2.1.2.1,CI y.2.2.2.1.2.2.1]] [bU q2] else iV c fC q3/\∀(y:Int×q1×q1×q5×PUnit),let jd:={b:=y.2.2.2.1.1,i:=y.2.2.2.1.2.1,h:=y.2.2.2.1.2.2.1:ah};let Aa:=y.2.2.1.1==3;let vH:=aa (aa jd x8) 2;let NW:=ck (aa jd 2) x4;let q15:=(wrap i64 (y.1+1),(y.2.1.1,y.2.1.2.1,y.2.1.2.2.1,y.2.1.2.2.2.1,y.2.1.2.2.2.2.1,()),(y.2.2.1.1,y.2.2.1.2.1,y.2.2.1.2.2.1++[fO jd],y.2.2.1.2.2.2.1,y.2.2.1.2.2.2.2.1,()),((iB jd).b,(iB jd).i,(iB jd).h,()),());let q16:=qP.getD (Int.toNat (af jd x8)) 0;let q17:=aa jd 2;iV c fC y->bif decide (y.1<1) then bm jd/\y.2.2.1.2.2.1.length+List.length [fO jd]<=4294967296/\iV c fC q15/\me c fC q15<me c fC y else bif y.2.2.1.1==4 then 0<=y.2.2.2.1.2.1/\L4 y.2.2.2.1.1.length/\1<=mf/\bif Aa then bm (aa jd x8)/\bif cm (aa jd x8) 2 then bm vH/\1<=x4.length/\LM [DV.agg [CI y.2.2.1.1,CS y.2.2.1.2.1,CL .bI y.2.2.1.2.2.1,CI q16,CS (cD vH x4)]] [DV.agg [CI (q0.Kind),CS (q0.Name),CL .bI q0.ay,CI (q0.N),CS (q0.aW)]] [bU (ck vH x4)] [bU q2] else LM [DV.agg [CI y.2.2.1.1,CS y.2.2.1.2.1,CL .bI y.2.2.1.2.2.1,CI q16,CS y.2.2.1.2.2.2.2.1]] [DV.agg [CI (q0.Kind),CS (q0.Name),CL .bI q0.ay,CI (q0.N),CS (q0.aW)]] [bU vH] [bU q2] else LM [DV.agg [CI y.2.2.1.1,CS y.2.2.1.2.1,CL .bI y.2.2.1.2.2.1,CI q16,CS y.2.2.1.2.2.2.2.1]] [DV.agg [CI (q0.Kind),CS (q0.Name),CL .bI q0.ay,CI (q0.N),CS (q0.aW)]] [bU (aa jd x8)] [bU q2] else bif Aa then bm jd/\bif cm jd 2 then bm q17/\1<=x4.length/\LM [DV.agg [CI y.2.2.1.1,CS y.2.2.1.2.1,CL .bI y.2.2.1.2.2.1,CI y.2.2.1.2.2.2.1,CS (cD q17 x4)]] [DV.agg [CI (q0.Kind),CS (q0.Name),CL .bI q0.ay,CI (q0.N),CS (q0.aW)]] [bU NW] [bU q2] else LM [DV.agg [CI y.2.2.1.1,CS y.2.2.1.2.1,CL .bI y.2.2.1.2.2.1,CI y.2.2.1.2.2.2.1,CS y.2.2.1.2.2.2.2.1]] [DV.agg [CI (q0.Kind),CS (q0.Name),CL .bI q0.ay,CI (q0.N),CS (q0.aW)]] [bU q17] [bU q2] else LM [DV.agg [CI y.2.2.1.1,CS y.2.2.1.2.1,CL .bI y.2.2.1.2.2.1,CI y.2.2.1.2.2.2.1,CS y.2.2.1.2.2.2.2.1]] [DV.agg [CI (q0.Kind),CS (q0.Name),CL .bI q0.ay,CI (q0.N),CS (q0.aW)]] [DV.box [CL .byte y.2.2.2.1.1,CI y.2.2.2.1.2.1,CI y.2.2.2.1.2.2.1]] [bU q2])
 dsimp only
 have hk:=iR bo qa
 have lH:=L8 bo
 have hle:=OY c
 have fin:iV c fC ((0:Int),((0:Int),ai,[],(0:Int),ai,()),(iU c,iv c,[],(0:Int),ai,()),((FP c).b,(FP c).i,(FP c).h,()),()):=⟨by omega,hle.1,rfl,rfl,rfl,rfl,lH,by simp,by simp only[Int.sub_zero];rfl,by simp only[Int.sub_zero];rfl⟩
 have h2:∀{b:Bool},((iv c).toList==FM.toList)=b->xF c=if b=true then 2 else 1:=fun{b} h=>by
  rw[aO] at h
  unfold xF
  cases b with
  |true=>rw[if_pos (yT h)];rfl
  |false=>rw[if_neg (yF h)];rfl
 have rest:¬iU c=2->¬(iU c=5\/iU c=6)->xG fC c=⟨iU c,iv c,nv c,vv c,uG c⟩/\qt fC c=vw c:=fun n2 n56=>⟨(if_neg n2).trans (if_neg n56),(if_neg n2).trans (if_neg n56)⟩
 refine⟨bo.1,bo.2,by simp,bg (fun n2=>⟨hk.1,hk.2,by trivial,?_⟩) (fun n2=>bg (fun n5=>bg (fun n5'=>⟨by trivial,?_⟩) (fun n5'=>absurd n5 n5')) (fun n5=>bg (fun n6=>⟨by trivial,?_⟩) (fun n6=>⟨hk,by simp,ae (fun h=> ?_) (fun h=> ?_)⟩)))⟩
 ·exact sN (a:=⟨iU c,ai,[],af (kL c qa) fC,ai⟩) (d:=aa (kL c qa) fC) (if_pos n2).symm (if_pos n2).symm
 ·exact sN (a:=⟨iU c,ai,[],0,ai⟩) (d:=kL c qa) ((if_neg n2).trans (if_pos (.inl n5))).symm ((if_neg n2).trans (if_pos (.inl n5))).symm
 ·exact sN (a:=⟨iU c,ai,[],0,ai⟩) (d:=kL c qa) ((if_neg n2).trans (if_pos (.inr n6))).symm ((if_neg n2).trans (if_pos (.inr n6))).symm
 all_goals
  have hN:=h2 h
  simp only[if_true,xS,if_false] at hN
  clear h
  have n56:¬(iU c=5\/iU c=6):=fun e=>e.elim n5 n6
  obtain⟨hA,hC⟩:=rest n2 n56
  rw[hA,hC]
  refine⟨fin,?_⟩
  rintro⟨i,⟨r1,r2,r3,r4,r5,⟨⟩⟩,⟨p1,p2,p3,p4,p5,⟨⟩⟩,⟨cb,ci,ch,⟨⟩⟩,⟨⟩⟩ ⟨g1,g2,g3,g4,g5,g6,g7,g8,g9,g10⟩
  simp only at g1 g2 g3 g4 g5 g6 g7 g8 g9 g10⊢
  subst g3 g4 g5 g6
  refine aR ?_ ?_<;>intro hc
  ·have e:(xF c-i).toNat=(xF c-(i+1)).toNat+1:=by omega
   rw[e] at g9 g10
   rw[wi]
   exact⟨g7,by simp only[fP,fz];omega,⟨by omega,by omega,rfl,rfl,rfl,rfl,L5 g7,by simp only[kF,fP,fz];omega,g9,g10⟩,by simp only[me];omega⟩
  ·have e:(xF c-i).toNat=0:=by omega
   rw[e] at g9 g10
   have g9:p3=nv c:=g9
   have g10:(⟨cb,ci,ch⟩:ah)=ln c:=g10
   have e1:cb=(ln c).b:=congrArg ah.b g10
   have e2:ci=(ln c).i:=congrArg ah.i g10
   have e3:ch=(ln c).h:=congrArg ah.h g10
   subst g9 e1 e2 e3
   have k3:=FH bo
   refine bg (fun h4=>⟨k3.1,k3.2,by simp,bg (fun h3=>absurd (h4.symm.trans h3) (by decide)) (fun h3=>⟨by trivial,?_⟩)⟩) (fun h4=>bg (fun h3=>⟨k3,ae (fun ho=>⟨au k3 _,by simp,by trivial,?_⟩) (fun ho=>⟨by trivial,?_⟩)⟩) (fun h3=>⟨by trivial,?_⟩))
   ·have eT:vv c=gS (ln c) xn:=if_pos h4
    have eU:uG c=ai:=if_neg (fun e=>h3 e.1)
    have e5:vw c=kL (ln c) xn:=(if_neg h3).trans (if_pos h4)
    exact sN (a':=⟨iU c,iv c,nv c,vv c,uG c⟩) (d':=vw c) (a:=⟨iU c,iv c,nv c,gS (ln c) xn,ai⟩) (d:=kL (ln c) xn) (by rw[eT,eU]) e5.symm
   ·have eT:vv c=0:=if_neg h4
    have e4:oW c=ln c:=if_neg h4
    have ho:cm (oW c) 2=true:=by rw[e4];exact ho
    have eU:uG c=cD (aa (oW c) 2) ra:=if_pos ⟨h3,ho⟩
    have e5:vw c=ck (aa (oW c) 2) ra:=(if_pos h3).trans (if_pos ho)
    exact sN (a':=⟨iU c,iv c,nv c,vv c,uG c⟩) (d':=vw c) (a:=⟨iU c,iv c,nv c,0,cD (aa (ln c) 2) ra⟩) (d:=ck (aa (ln c) 2) ra) (by rw[eT,eU,e4]) (by rw[e5,e4])
   ·have eT:vv c=0:=if_neg h4
    have e4:oW c=ln c:=if_neg h4
    have ho:¬cm (oW c) 2=true:=by rw[e4,show cm (ln c) 2=false from ho];decide
    have eU:uG c=ai:=if_neg (fun e=>ho e.2)
    have e5:vw c=aa (oW c) 2:=(if_pos h3).trans (if_neg ho)
    exact sN (a':=⟨iU c,iv c,nv c,vv c,uG c⟩) (d':=vw c) (a:=⟨iU c,iv c,nv c,0,ai⟩) (d:=aa (ln c) 2) (by rw[eT,eU]) (by rw[e5,e4])
   ·have eT:vv c=0:=if_neg h4
    have eU:uG c=ai:=if_neg (fun e=>h3 e.1)
    have e5:vw c=ln c:=(if_neg h3).trans (if_neg h4)
    exact sN (a':=⟨iU c,iv c,nv c,vv c,uG c⟩) (d':=vw c) (a:=⟨iU c,iv c,nv c,0,ai⟩) (d:=ln c) (by rw[eT,eU]) e5.symm
def agL:=bW (α:=cM×(List BA)) (qC (qA .gM) (q1 (qL .str))) [.ro,.ro] (fun _=>[]) (fun(a,vars)=>⟨[dA .gM (rP vars a)],[],[]⟩)
def aiq:HH:=hF agL func204 [Ua,TZ,TY] a0 fun x hp hb=>by
 obtain⟨a,vars⟩:=x
 clear hp hb
 apply vE (let q0:=rP vars a;bif eZ vars a then Lf [DV.agg [CI a.K,CS a.S,CI a.V.K,CI a.V.N,CS a.V.S]] [DV.agg [CI (q0.K),CS (q0.S),CI (q0.V.K),CI (q0.V.N),CS (q0.V.S)]] else bif (vars.length:Int)==0 then Lf [DV.agg [CI 2,CS ai,CI 1,CI 1,CS ({data:= #[]:BA})]] [DV.agg [CI (q0.K),CS (q0.S),CI (q0.V.K),CI (q0.V.N),CS (q0.V.S)]] else(0:Int)<=(0:Int)/\Int.toNat 0<vars.length/\Lf [DV.agg [CI 1,CS (vars.getD (Int.toNat 0) ai),CI dK.K,CI dK.N,CS dK.S]] [DV.agg [CI (q0.K),CS (q0.S),CI (q0.V.K),CI (q0.V.N),CS (q0.V.S)]])
 dsimp only
 refine ae ?_ ?_<;>intro h
 ·have e:rP vars a=a:=if_pos h
  rw[e];exact aY _
 have h:¬eZ vars a=true:=by rw[h];decide
 refine bg (fun g=> ?_) (fun g=>⟨by omega,?_,?_⟩)
 ·have e:rP vars a=⟨2,ai,⟨1,1,ai⟩⟩:=(if_neg h).trans (if_pos (by omega))
  rw[e];exact aY _
 ·show 0<vars.length
  omega
 ·have e:rP vars a=⟨1,vars.getD 0 ai,dK⟩:=(if_neg h).trans (if_neg (by omega))
  rw[e];exact aY _
def cK(s:aD)(f:aL):aD:=if 0<kg s.ab f then s else⟨s.ab++[⟨s.Next,f⟩],s.Next+1⟩
def mo(s:aD)(f:aL):Int:=if 0<kg s.ab f then kg s.ab f else s.Next
def yu(id:Int)(x:bO):Bool:= !decide (x.Id=id)
def qk(s:aD)(id:Int):aD:=⟨s.ab.filter (yu id),s.Next⟩
def lx:Nat->aD->ah->aD
 |0,s,_=>s
 |k+1,s,c=>if cm c 5=true/\0<s.ab.length then lx k (qk s (s.ab.getD (af (aa c 5) s.ab.length).toNat aZ).Id) (aa (aa c 5) s.ab.length) else lx k (cK s (cZ (aa c 5))) (c_ (aa c 5))
def sZ:Nat->aD->ah->ah
 |0,_,c=>c
 |k+1,s,c=>if cm c 5=true/\0<s.ab.length then sZ k (qk s (s.ab.getD (af (aa c 5) s.ab.length).toNat aZ).Id) (aa (aa c 5) s.ab.length) else sZ k (cK s (cZ (aa c 5))) (c_ (aa c 5))
def df(c:ah):aD:=lx (af c 9).toNat ⟨[],1⟩ (aa c 9)
def pG(c:ah):ah:=sZ (af c 9).toNat ⟨[],1⟩ (aa c 9)
theorem LU(s:aD)(id:Int):(qk s id).ab.length<=s.ab.length:=Mw _ _
theorem vq(s:aD)(f:aL):(cK s f).ab.length<=s.ab.length+1/\s.Next<=(cK s f).Next/\(cK s f).Next<=s.Next+1:=by
 unfold cK;split
 ·omega
 ·simp only[kF,fP,fz];omega
theorem xd:∀(k:Nat)(s:aD)(c:ah),(lx k s c).ab.length<=s.ab.length+k
 |0,s,c=>by simp[lx]
 |k+1,s,c=>by
  unfold lx;split
  ·have:=xd k (qk s (s.ab.getD (af (aa c 5) s.ab.length).toNat aZ).Id) (aa (aa c 5) s.ab.length)
   have:=LU s (s.ab.getD (af (aa c 5) s.ab.length).toNat aZ).Id
   omega
  ·have:=xd k (cK s (cZ (aa c 5))) (c_ (aa c 5))
   have:=(vq s (cZ (aa c 5))).1
   omega
theorem Eo(c:ah):(df c).ab.length<=8:=by
 have:=xd (af c 9).toNat ⟨[],1⟩ (aa c 9)
 have:=bz (c:=c) (n:=9) (by omega)
 simp only[fz] at*
 unfold df;omega
theorem xz:∀{k:Nat}{s:aD}{c:ah},bm c->bm (sZ k s c)
 |0,_,_,h=>h
 |k+1,s,c,h=>by
  unfold sZ;split
  ·exact xz (k:=k) (au (au h _) _)
  ·exact xz (k:=k) (l9 (au h _))
theorem FC{c:ah}(h:bm c):bm (pG c):=xz (au h _)
theorem Ii{α:Type}(g:α->α)(e:α)(B:List α):∀A:List α,(A++e::B).modify A.length g=A++g e::B
 |[]=>rfl
 |a::A=>by
  show(a::(A++e::B)).modify (A.length+1) g=a::(A++g e::B)
  rw[List.modify_succ_cons,Ii g e B A]
def jF(vars:List BA)(xs:List cv)(k:Nat):List cv:=(xs.take k).map (qf vars)++xs.drop k
theorem AK(vars:List BA)(xs:List cv){k:Nat}(h:k<=xs.length):(jF vars xs k).length=xs.length:=by
 simp only[jF,kF,wP,oq,My];omega
theorem Hi{vars:List BA}{xs:List cv}{k:Nat}(h:k<xs.length):jF vars xs k=(xs.take k).map (qf vars)++xs.getD k fj::xs.drop (k+1):=by
 have hd:xs.drop k=xs.getD k fj::xs.drop (k+1):=by
  rw[Us h,eV,fE h];rfl
 rw[jF,hd]
theorem Hh{vars:List BA}{xs:List cv}{k:Nat}(h:k<xs.length)(g:cv->cv):(jF vars xs k).modify k g=(xs.take k).map (qf vars)++g (xs.getD k fj)::xs.drop (k+1):=by
 have hk:((xs.take k).map (qf vars)).length=k:=by rw[wP,oq];omega
 rw[Hi h]
 have:=Ii g (xs.getD k fj) (xs.drop (k+1)) ((xs.take k).map (qf vars))
 rwa[hk] at this
theorem Ny{vars:List BA}{xs:List cv}{k:Nat}(h:k<xs.length)(g g':cv->cv):((jF vars xs k).modify k g).modify k g'=(xs.take k).map (qf vars)++g' (g (xs.getD k fj))::xs.drop (k+1):=by
 have hk:((xs.take k).map (qf vars)).length=k:=by rw[wP,oq];omega
 rw[Hh h]
 have:=Ii g' (g (xs.getD k fj)) (xs.drop (k+1)) ((xs.take k).map (qf vars))
 rwa[hk] at this
theorem Fk{vars:List BA}{xs:List cv}{k:Nat}(h:k<xs.length):(xs.take k).map (qf vars)++qf vars (xs.getD k fj)::xs.drop (k+1)=jF vars xs (k+1):=by
 rw[jF,yd fj h,Ko];simp
theorem AL{vars:List BA}{xs:List cv}{k:Nat}(h:k<xs.length):(jF vars xs k).getD k fj=xs.getD k fj:=by
 have hk:((xs.take k).map (qf vars)).length=k:=by rw[wP,oq];omega
 rw[Hi h,eV,z_ (by omega),hk,Zw];rfl
theorem xu{vars:List BA}{xs:List cv}{k:Nat}(h:k<xs.length)(g:cv->cv):((jF vars xs k).modify k g).getD k fj=g (xs.getD k fj):=by
 rw[mod_self _ (by rw[AK _ _ (by omega)];exact h),AL h]
theorem Ri(c:ah):(∀p,p∈ed c->p.ay.length<=2)/\(ed c).length<=4:=by
 have h1:∀(b:Bool)(d:ah),(pH b d).ay.length<=2:=fun b d=>by
  have:=H9 d
  show(mP _ _ _ _ _).length<=2
  rw[mO];simp only[fz];omega
 have h2:=nW (f:=pH false) (g:=jE) (fun p=>p.ay.length<=2) (h1 false) (Rj c).toNat [] (HY c) (fun x hx=>by cases hx)
 have h3:=mO (pH false) jE (Rj c).toNat [] (HY c)
 have h4:=MT c
 unfold ed
 split
 ·refine⟨fun p hp=> ?_,?_⟩
  ·rcases jI.1 hp with hp|hp
   ·exact h2 p hp
   ·rw[mW] at hp;subst hp;exact h1 true _
  ·simp only[lB,kF,fP,fz] at h3⊢;omega
 ·exact⟨h2,by simp only[lB,fz] at h3⊢;omega⟩
theorem wW:∀{ps:List cr},(∀p,p∈ps->p.ay.length<=2)->dM ps<=2*ps.length
 |[],_=>uh _
 |p::ps,h=>by
  have h1:=h p (by simp)
  have h2:=wW (ps:=ps) (fun q hq=>h q (by simp[hq]))
  simp only[dM,wH,MI,fP] at h2⊢;omega
theorem Uo{a a':bc}{d d':ah}(h1:a=a')(h2:d=d'):fG [DV.agg [.lit (.string a.Name),CI a.jp,.sl .dB a.aH,.sl .ca a.aV,.sl .dE a.bH]]=fG [DV.agg [.lit (.string a'.Name),CI a'.jp,.sl .dB a'.aH,.sl .ca a'.aV,.sl .dE a'.bH]]/\fG [DV.box [.sl .byte d.b,CI d.i,CI d.h]]=fG [DV.box [.sl .byte d'.b,CI d'.i,CI d'.h]]:=by
 subst h1 h2;exact⟨rfl,rfl⟩
theorem LdD{a a':br}{d d':ah}(h1:a=a')(h2:d=d'):fG [DV.agg [.lit (.string a.Name),.sl .bB a.aw]]=fG [DV.agg [.lit (.string a'.Name),.sl .bB a'.aw]]/\fG [DV.box [.sl .byte d.b,CI d.i,CI d.h]]=fG [DV.box [.sl .byte d'.b,CI d'.i,CI d'.h]]:=by
 subst h1 h2;exact⟨rfl,rfl⟩
theorem LdS{a a':aD}{d d':ah}(h1:a=a')(h2:d=d'):fG [DV.agg [.sl .aJ a.ab,CI a.Next]]=fG [DV.agg [.sl .aJ a'.ab,CI a'.Next]]/\fG [DV.box [.sl .byte d.b,CI d.i,CI d.h]]=fG [DV.box [.sl .byte d'.b,CI d'.i,CI d'.h]]:=by
 subst h1 h2;exact⟨rfl,rfl⟩
def TS:=bW (α:=aD×Int) (qC (qX .cQ) (q1 qI)) [.box true,.ro] (fun(s,id)=>[s.ab.length<=1000]) (fun(s,id)=>⟨[dO (decide ((qk s id).ab.length<s.ab.length))],[],[dX .cQ (qk s id)]⟩)
def vA(s:aD)(id:Int):List bO×Int×((List bO×(Nat->Bool))×Int×Unit)×Unit->Prop:=fun(o,i,p,_)=>p.1.1=s.ab/\p.2.1=s.Next/\0<=i/\i<=s.ab.length/\(∀j:Nat,i<=(j:Int)->p.1.2 j=false)/\o=(s.ab.take i.toNat).filter (yu id)
def qu(s:aD)(id:Int):List bO×Int×((List bO×(Nat->Bool))×Int×Unit)×Unit->Nat:=fun(o,i,p,_)=>s.ab.length-i.toNat
def acd:AX TS:=fun(s,id)=>bS [(3,aT [iO 5 .aJ,iI 6,.box 0 (2000000,0) [.part .aJ,.lit (.int .i64)]] (fun _=>vA s id) (qu s id))]
def aca:HH:=hF TS func164 [] acd fun x hp hb=>by
 obtain⟨s,id⟩:=x
 have i_:=xA (x:=s) (hb _ m0)
 have Oq:=zk (n:=id) (hb _ m1)
 have bo:s.ab.length<=1000:=hp _ m0
 clear hp hb
 apply vE (vA s id ([],0,((s.ab,fun(x:Nat)=>false),s.Next,()),())/\∀(y:List bO×Int×((List bO×(Nat->Bool))×Int×PUnit)×PUnit),let x1:=y.2.1.toNat;let x3:=y.2.2.1.1.1.getD x1 aZ;let x4:=y.2.2.1.1.1.length;let x5:=wrap i64 (y.2.1+1);let x0:=(↑x4:Int);let x2:=[x3];let q0:=(y.1,x5,((y.2.2.1.1.1,y.2.2.1.1.2),y.2.2.1.2.1,()),());vA s id y->bif decide (y.2.1<x0) then 0<=y.2.1/\x1<x4/\x1<x4/\y.2.2.1.1.2 x1=false/\bif x3.Id !=id then 0<=y.2.1/\x1<x4/\x1<x4/\y.2.2.1.1.2 x1=false/\L4 (y.1.length+x2.length)/\vA s id (y.1++x2,x5,((y.2.2.1.1.1,fun(j:Nat)=>Nat.beq j x1||y.2.2.1.1.2 j),y.2.2.1.2.1,()),())/\qu s id (y.1++x2,x5,((y.2.2.1.1.1,fun(j:Nat)=>Nat.beq j x1||y.2.2.1.1.2 j),y.2.2.1.2.1,()),())<qu s id y else vA s id q0/\qu s id q0<qu s id y else LM [VB (decide ((y.1.length:Int)<x0))] [VB (decide ((qk s id).ab.length<s.ab.length))] [DV.box [CL .aJ y.1,CI y.2.2.1.2.1]] [DV.box [CL .aJ (qk s id).ab,CI ((qk s id).Next)]])
 dsimp only
 refine⟨⟨rfl,rfl,by omega,by omega,fun _ _=>rfl,by simp⟩,?_⟩
 rintro⟨o,i,⟨⟨xs,dd⟩,nx,⟨⟩⟩,⟨⟩⟩ ⟨hx,hn,h1,h2,hd,ho⟩
 simp only at hx hn h1 h2 hd ho⊢
 subst hx hn ho
 refine aR ?_ ?_<;>intro hc
 ·have hs:=mK (yu id) (l:=s.ab) (i:=i.toNat) aZ (by omega)
  have e:(i+1).toNat=i.toNat+1:=by omega
  have XL:=hd i.toNat (by omega)
  have hle:((s.ab.take i.toNat).filter (yu id)).length<=(s.ab.take i.toNat).length:=Mw _ _
  rw[oq] at hle
  rw[wi]
  refine⟨h1,by omega,by omega,XL,mI (fun g=>⟨h1,by omega,by omega,XL,by simp only[fP,fz];omega,⟨rfl,rfl,by omega,by omega,AR h1 hd,?_⟩,by simp only[qu];omega⟩) (fun g=>⟨⟨rfl,rfl,by omega,by omega,fun j hj=>hd j (by omega),?_⟩,by simp only[qu];omega⟩)⟩
  ·rw[e,hs,if_pos (show yu id (s.ab.getD i.toNat aZ)=true by rw[yu,decide_eq_false g];rfl)]
  ·rw[e,hs,if_neg (show¬yu id (s.ab.getD i.toNat aZ)=true by rw[yu,decide_eq_true g];decide),uJ]
 ·rw[cA s.ab (by omega)]
  have e:decide (((s.ab.filter (yu id)).length:Int)<(s.ab.length:Int))=decide ((qk s id).ab.length<s.ab.length):=by rw[decide_eq_decide];simp only[qk];omega
  rw[e];exact⟨by trivial,rfl,rfl⟩
def ahs:=bW (α:=aD×aL) (qC (qX .cQ) (q1 (qA .db))) [.box true,.ro] (fun(s,f)=>[0<=s.Next/\s.Next<=1000/\s.ab.length<=30,L4 f.ag.length]) (fun(s,f)=>⟨[dI (mo s f)],[],[dX .cQ (cK s f)]⟩)
def ajp:HH:=hF ahs func107 [WX,A9] a0 fun x hp hb=>by
 obtain⟨s,f⟩:=x
 have bo:0<=s.Next/\s.Next<=1000/\s.ab.length<=30:=hp _ m0
 have eJ:f.ag.length<=4294967296:=hp _ m1
 clear hp hb
 apply vE (let q0:=LM [VI 0] [VI (mo s f)] [DV.box [CL .aJ s.ab,CI s.Next]] [DV.box [CL .aJ (cK s f).ab,CI ((cK s f).Next)]];let q1:=cK s f;bif decide (kg s.ab f>0) then LM [VI (kg s.ab f)] [VI (mo s f)] [DV.box [CL .aJ s.ab,CI s.Next]] [DV.box [CL .aJ q1.ab,CI (q1.Next)]] else bif decide ((s.ab.length:Int)≥40) then q0 else bif decide (s.Next≥1000000) then q0 else L4 f.ag.length/\s.ab.length+List.length [{Id:=s.Next,F:=f:bO}]<=4294967296/\LM [VI (wrap i64 (wrap i64 (s.Next+1)-1))] [VI (mo s f)] [DV.box [CL .aJ (s.ab++[{Id:=s.Next,F:=f:bO}]),CI (wrap i64 (s.Next+1))]] [DV.box [CL .aJ q1.ab,CI (q1.Next)]])
 dsimp only
 obtain⟨s1,s2,s3⟩:=bo
 refine aR (fun h=>⟨by trivial,?_⟩) (fun h=>aR (fun h2=>absurd h2 (by omega)) (fun h2=>aR (fun h3=>absurd h3 (by omega)) (fun h3=> ?_)))
 ·have e1:cK s f=s:=if_pos h
  have e2:mo s f=kg s.ab f:=if_pos h
  rw[e1,e2];exact⟨rfl,rfl⟩
 ·have e1:cK s f=⟨s.ab++[⟨s.Next,f⟩],s.Next+1⟩:=if_neg h
  have e2:mo s f=s.Next:=if_neg h
  rw[e1,e2,wi (n:=s.Next+1),wi,show s.Next+1-1=s.Next by omega]
  exact⟨eJ,by simp only[fP,fz];omega,by trivial,rfl,rfl⟩
def YW:=bW (α:=ah) (q1 qU) [.box false] (fun c=>[bm c]) (fun c=>⟨[dA .cQ (df c)],[],[dU (pG c)]⟩)
def zU(c:ah):Int×T3×T3×T4×Unit->Prop:=fun(i,q,s,cu,_)=>0<=i/\i<=8/\s.1.length+i<=8/\0<=s.2.1/\s.2.1+i<=9/\bm ⟨cu.1,cu.2.1,cu.2.2.1⟩/\lx i.toNat ⟨s.1,s.2.1⟩ ⟨cu.1,cu.2.1,cu.2.2.1⟩=df c/\sZ i.toNat ⟨s.1,s.2.1⟩ ⟨cu.1,cu.2.1,cu.2.2.1⟩=pG c
def rC(c:ah):Int×T3×T3×T4×Unit->Nat:=fun(i,q,s,cu,_)=>i.toNat
def aky:AX YW:=fun c=>bS [(3,aT [iI 4,.box 2 (2,1024) [.own .aJ true,.lit (.int .i64)],.box 3 (3,1024) [.own .aJ true,.lit (.int .i64)],.box 0 (2000000,0) [.shr .byte,.lit (.int .i64),.lit (.int .i64)]] (fun _=>zU c) (rC c))]
def ajq:HH:=hF YW func105 [nE,sL,aca,ajp,Ms] aky fun(c:ah) hp hb=>by
 have bo:bm c:=hp _ m0
 clear hp hb
 apply vE (let q0:=aa c 9;0<=c.i/\L4 c.b.length/\zU c (af c 9,([],0,()),([],1,()),(q0.b,q0.i,q0.h,()),())/\∀(y:Int×NR×NR×O9×PUnit),let x1:={b:=y.2.2.2.1.1,i:=y.2.2.2.1.2.1,h:=y.2.2.2.1.2.2.1:ah};let x4:=y.2.2.1.1.length;let x6:={ab:=y.2.2.1.1,Next:=y.2.2.1.2.1:aD};let x0:=aa x1 5;let x3:=(↑x4:Int);let x5:=cK x6 (cZ x0);let x2:=qk x6 (y.2.2.1.1.getD (Int.toNat (af x0 x3)) aZ).Id;let q1:=bm x0/\(0<=y.2.2.1.2.1/\y.2.2.1.2.1<=1000/\x4<=30)/\(cZ x0).ag.length<=4294967296/\zU c (wrap i64 (y.1-1),(y.2.1.1,y.2.1.2.1,()),(x5.ab,x5.Next,()),((c_ x0).b,(c_ x0).i,(c_ x0).h,()),())/\rC c (wrap i64 (y.1-1),(y.2.1.1,y.2.1.2.1,()),(x5.ab,x5.Next,()),((c_ x0).b,(c_ x0).i,(c_ x0).h,()),())<rC c y;let q2:=(wrap i64 (y.1-1),(y.2.1.1,y.2.1.2.1,()),(x2.ab,x2.Next,()),((aa x0 x3).b,(aa x0 x3).i,(aa x0 x3).h,()),());zU c y->bif decide (y.1>0) then bm x1/\bif cm x1 5 then bif decide (x3>0) then 0<=x0.i/\L4 x0.b.length/\0<=af x0 x3/\Int.toNat (af x0 x3)<x4/\Int.toNat (af x0 x3)<x4/\x4<=1000/\zU c q2/\rC c q2<rC c y else q1 else q1 else LM [DV.agg [CL .aJ y.2.2.1.1,CI y.2.2.1.2.1]] [DV.agg [CL .aJ (df c).ab,CI ((df c).Next)]] [DV.box [CL .byte y.2.2.2.1.1,CI y.2.2.2.1.2.1,CI y.2.2.2.1.2.2.1]] [bU (pG c)])
 dsimp only
 have hb:=bz (c:=c) (n:=9) (by omega)
 refine⟨bo.1,bo.2,⟨by omega,by omega,by simp only[fz];omega,by show(0:Int)<=1;omega,by show(1:Int)+af c 9<=9;omega,au bo 9,rfl,rfl⟩,?_⟩
 rintro⟨i,⟨q1,q2,⟨⟩⟩,⟨s1,s2,⟨⟩⟩,⟨cb,ci,ch,⟨⟩⟩,⟨⟩⟩ ⟨g1,g2,g3,g4,g5,g6,g7,g8⟩
 simp only at g1 g2 g3 g4 g5 g6 g7 g8⊢
 refine aR ?_ ?_<;>intro hc
 ·have e:i.toNat=(i-1).toNat+1:=by omega
  rw[e] at g7 g8
  simp only[lx,sZ] at g7 g8
  have hB:=au g6 5
  have hF:=AN (aa ⟨cb,ci,ch⟩ 5)
  have hF2:=yX (aa ⟨cb,ci,ch⟩ 5)
  have hA:=vq ⟨s1,s2⟩ (cZ (aa ⟨cb,ci,ch⟩ 5))
  simp only at hA
  rw[wi]
  refine⟨g6,ae (fun a=>aR (fun b=> ?_) (fun b=> ?_)) (fun a=> ?_)⟩
  ·rw[if_pos ⟨a,by omega⟩] at g7 g8
   have hk:=bz (c:=aa ⟨cb,ci,ch⟩ 5) (n:=(s1.length:Int)) (by omega)
   have hD:=LU ⟨s1,s2⟩ (s1.getD (af (aa ⟨cb,ci,ch⟩ 5) s1.length).toNat aZ).Id
   simp only at hD
   exact⟨hB.1,hB.2,hk.1,by omega,by omega,by omega,⟨by omega,by omega,by simp only;omega,g4,by simp only[qk];omega,au hB _,g7,g8⟩,by simp only[rC];omega⟩
  ·rw[if_neg (fun e=>b (by omega))] at g7 g8
   exact⟨hB,⟨g4,by omega,by omega⟩,by omega,⟨by omega,by omega,by simp only;omega,by simp only;omega,by simp only;omega,l9 hB,g7,g8⟩,by simp only[rC];omega⟩
  ·rw[if_neg (fun e=>absurd e.1 (by rw[a];decide))] at g7 g8
   exact⟨hB,⟨g4,by omega,by omega⟩,by omega,⟨by omega,by omega,by simp only;omega,by simp only;omega,by simp only;omega,l9 hB,g7,g8⟩,by simp only[rC];omega⟩
 ·have e:i.toNat=0:=by omega
  rw[e] at g7 g8
  exact⟨by trivial,LdS (a:=⟨s1,s2⟩) (d:=⟨cb,ci,ch⟩) g7 g8⟩
def vz:=bW (α:=ah×BA) (qC qU (q1 qS)) [.box false,.ro] (fun(c,name)=>[bm c]) (fun(c,name)=>⟨[dA .bB (pu name c)],[],[dU (pb c)]⟩)
def zO(c:ah)(name:BA):Int×T1×T1×T4×Unit->Prop:=fun(i,q,r,cu,_)=>r=(name,gS c l4,r.2.2.1,[],[],())/\0<=i/\i<=3/\r.2.2.1.length+i<=3/\bm ⟨cu.1,cu.2.1,cu.2.2.1⟩/\mP (pH false) jE i.toNat r.2.2.1 ⟨cu.1,cu.2.1,cu.2.2.1⟩=lB c/\p_ jE i.toNat ⟨cu.1,cu.2.1,cu.2.2.1⟩=Gp c
def C0(c:ah)(name:BA):Int×T1×T1×T4×Unit->Nat:=fun(i,q,r,cu,_)=>i.toNat
def sJ(c:ah)(name:BA):Int×List BA×T1×T1×T4×Unit->Prop:=fun(i,vs,q,r,cu,_)=>vs=dk c/\r=(name,gS c l4,ed c,fV c,r.2.2.2.2.1,())/\0<=i/\i<=3/\r.2.2.2.2.1.length+i<=3/\bm ⟨cu.1,cu.2.1,cu.2.2.1⟩/\mP (GW c) (rM c) i.toNat r.2.2.2.2.1 ⟨cu.1,cu.2.1,cu.2.2.1⟩=rL c/\p_ (rM c) i.toNat ⟨cu.1,cu.2.1,cu.2.2.1⟩=pb c
def sH(c:ah)(name:BA):Int×List BA×T1×T1×T4×Unit->Nat:=fun(i,vs,q,r,cu,_)=>i.toNat
def sI(c:ah)(name:BA):Int×Int×List BA×T7×T1×T1×T4×Unit->Int×Int×List BA×T7×T1×T1×T4×Unit->Prop:=fun(i0,k0,vs0,a0,q0,r0,cu0,_) (i,k,vs,a,q,r,cu,_)=>i=i0/\vs=vs0/\a=(a0.1,a0.2.1,a.2.2.1,a0.2.2.2.1,a0.2.2.2.2.1,())/\r=r0/\cu=cu0/\0<=k/\k<=a0.2.2.1.length/\a.2.2.1=jF (dk c) a0.2.2.1 k.toNat
def oZ(c:ah)(name:BA):Int×Int×List BA×T7×T1×T1×T4×Unit->Nat:=fun(i,k,vs,a,q,r,cu,_)=>a.2.2.1.length-k.toNat
def O7:AX vz:=fun(c,name)=>bS [(3,aT [iI 6,.box 4 (4,1024) [.lit .str,.lit (.int .i64),.own .dB true,.own .ca true,.own .dE true],.box 5 (5,1024) [.lit .str,.lit (.int .i64),.own .dB true,.own .ca true,.own .dE true],.box 0 (2000000,0) [.shr .byte,.lit (.int .i64),.lit (.int .i64)]] (fun _=>zO c name) (C0 c name)),(15,aT [iI 9,iO 7 .str,.box 4 (4,1024) [.lit .str,.lit (.int .i64),.own .dB true,.own .ca true,.own .dE true],.box 5 (5,1024) [.lit .str,.lit (.int .i64),.own .dB true,.own .ca true,.own .dE true],.box 0 (2000000,0) [.shr .byte,.lit (.int .i64),.lit (.int .i64)]] (fun _=>sJ c name) (sH c name)),(19,aT [iI 9,iI 11,iO 7 .str,.box 10 (10,1024) [.lit (.int .i64),.lit .str,.own .bI true,.lit (.int .i64),.lit .str],.box 4 (4,1024) [.lit .str,.lit (.int .i64),.own .dB true,.own .ca true,.own .dE true],.box 5 (5,1024) [.lit .str,.lit (.int .i64),.own .dB true,.own .ca true,.own .dE true],.box 0 (2000000,0) [.shr .byte,.lit (.int .i64),.lit (.int .i64)]] (sI c name) (oZ c name))]
def O0:=us [B4,nE,Y5,sL,Zi,ab_,aiq,TV,Y4]
def e8(c:ah)(name:BA):List BA×T1×T1×T4×Unit->Prop:=fun(vs,q,r,cu,_)=>vs=dk c/\r=(name,gS c l4,ed c,fV c,[],())/\bm ⟨cu.1,cu.2.1,cu.2.2.1⟩/\(⟨cu.1,cu.2.1,cu.2.2.1⟩:ah)=Aj c
def mj:vz.α->sS UU:=fun(c,name)=>aT [iO 7 .str,.box 4 (4,1024) [.lit .str,.lit (.int .i64),.own .dB true,.own .ca true,.own .dE true],.box 5 (5,1024) [.lit .str,.lit (.int .i64),.own .dB true,.own .ca true,.own .dE true],.box 0 (2000000,0) [.shr .byte,.lit (.int .i64),.lit (.int .i64)]] (fun _=>e8 c name) (fun _=>0)
theorem afb(c:ah)(name:BA)(y:List BA×T1×T1×T4×Unit):kO EE O0 f156 vz O7 (c,name) 14 (mj (c,name)) y=(let x1:={b:=y.2.2.2.1.1,i:=y.2.2.2.1.2.1,h:=y.2.2.2.1.2.2.1:ah};let x0:=aa x1 3;let q0:=BA×Int×List cr×List dy×List ez×PUnit;let q1:=pu name c;0<=y.2.2.2.1.2.1/\y.2.2.2.1.1.length<=4294967296/\sJ c name (wrap i64 (1+af x1 3),y.1,(y.2.1.1,y.2.1.2.1,y.2.1.2.2.1,y.2.1.2.2.2.1,y.2.1.2.2.2.2.1,()),(y.2.2.1.1,y.2.2.1.2.1,y.2.2.1.2.2.1,y.2.2.1.2.2.2.1,y.2.2.1.2.2.2.2.1,()),(x0.b,x0.i,x0.h,()),())/\∀(y:Int×List BA×q0×q0×O9×PUnit),let x4:={b:=y.2.2.2.2.1.1,i:=y.2.2.2.2.1.2.1,h:=y.2.2.2.2.1.2.2.1:ah};let x5:=(↑(cS y.2.2.2.1.2.2.1):Int);let x2:=xG x5 x4;let x3:=qt x5 x4;let q2:=(y.1,0,y.2.1,(x2.Kind,x2.Name,x2.ay,x2.N,x2.aW,()),(y.2.2.1.1,y.2.2.1.2.1,y.2.2.1.2.2.1,y.2.2.1.2.2.2.1,y.2.2.1.2.2.2.2.1,()),(y.2.2.2.1.1,y.2.2.2.1.2.1,y.2.2.2.1.2.2.1,y.2.2.2.1.2.2.2.1,y.2.2.2.1.2.2.2.2.1,()),(x3.b,x3.i,x3.h,()),());sJ c name y->bif decide (y.1>0) then bm x4/\sI c name q2 q2/\∀(aF:Int×Int×List BA×(Int×BA×List cv×Int×BA×PUnit)×q0×q0×O9×PUnit),let x7:=[{Kind:=aF.2.2.2.1.1,Name:=aF.2.2.2.1.2.1,ay:=aF.2.2.2.1.2.2.1,N:=aF.2.2.2.1.2.2.2.1,aW:=aF.2.2.2.1.2.2.2.2.1:ez}];let x8:=Int.toNat aF.2.1;let mf:=aF.2.2.2.1.2.2.1.length;let qP:=wrap i64 (aF.2.1+1);let x6:=aF.2.2.2.1.2.2.1.modify x8 fun(x:cv)=>{Op:=x.Op,L:=rP aF.2.2.1 (aF.2.2.2.1.2.2.1.getD x8 fj).L,R:=x.R:cv};let x9:=(↑mf:Int);let q3:=(aF.2.2.2.2.1.1,aF.2.2.2.2.1.2.1,aF.2.2.2.2.1.2.2.1,aF.2.2.2.2.1.2.2.2.1,aF.2.2.2.2.1.2.2.2.2.1,());let q4:=(aF.2.2.2.2.2.2.1.1,aF.2.2.2.2.2.2.1.2.1,aF.2.2.2.2.2.2.1.2.2.1,());let q5:=(aF.2.2.2.2.2.1.1,aF.2.2.2.2.2.1.2.1,aF.2.2.2.2.2.1.2.2.1,aF.2.2.2.2.2.1.2.2.2.1,aF.2.2.2.2.2.1.2.2.2.2.1,());let q6:=(wrap i64 (aF.1-1),aF.2.2.1,q3,(aF.2.2.2.2.2.1.1,aF.2.2.2.2.2.1.2.1,aF.2.2.2.2.2.1.2.2.1,aF.2.2.2.2.2.1.2.2.2.1,aF.2.2.2.2.2.1.2.2.2.2.1++x7,()),q4,());let q7:=(aF.1,qP,aF.2.2.1,(aF.2.2.2.1.1,aF.2.2.2.1.2.1,x6,aF.2.2.2.1.2.2.2.1,aF.2.2.2.1.2.2.2.2.1,()),q3,q5,q4,());let q8:=x6.getD x8 fj;sI c name q2 aF->bif decide (aF.2.1<x9) then 0<=aF.2.1/\x8<mf/\x8<mf/\0<=aF.2.1/\x8<mf/\x8<mf/\0<=aF.2.1/\x8<x6.length/\x8<x6.length/\bif !q8.Op.toList==ByteArray.toList {data:= #[]:BA} then 0<=aF.2.1/\x8<x6.length/\x8<x6.length/\0<=aF.2.1/\x8<x6.length/\x8<x6.length/\sI c name q2 (aF.1,qP,aF.2.2.1,(aF.2.2.2.1.1,aF.2.2.2.1.2.1,x6.modify x8 fun(x:cv)=>{Op:=x.Op,L:=x.L,R:=rP aF.2.2.1 q8.R:cv},aF.2.2.2.1.2.2.2.1,aF.2.2.2.1.2.2.2.2.1,()),q3,q5,q4,())/\oZ c name (aF.1,qP,aF.2.2.1,(aF.2.2.2.1.1,aF.2.2.2.1.2.1,x6.modify x8 fun(x:cv)=>{Op:=x.Op,L:=x.L,R:=rP aF.2.2.1 q8.R:cv},aF.2.2.2.1.2.2.2.1,aF.2.2.2.1.2.2.2.2.1,()),q3,q5,q4,())<oZ c name aF else sI c name q2 q7/\oZ c name q7<oZ c name aF else aF.2.2.2.2.2.1.2.2.2.2.1.length+x7.length<=4294967296/\sJ c name q6/\sH c name q6<sH c name y else LM [DV.agg [CS y.2.2.2.1.1,CI y.2.2.2.1.2.1,CL .dB y.2.2.2.1.2.2.1,CL .ca y.2.2.2.1.2.2.2.1,CL .dE y.2.2.2.1.2.2.2.2.1]] [DV.agg [CS (q1.Name),CI (q1.jp),CL .dB q1.aH,CL .ca q1.aV,CL .dE q1.bH]] [DV.box [CL .byte y.2.2.2.2.1.1,CI y.2.2.2.2.1.2.1,CI y.2.2.2.2.1.2.2.1]] [bU (pb c)]):=by kernel_rfl
theorem Ec(c:ah)(name:BA)(y:List BA×T1×T1×T4×Unit)(hp:∀p∈vz.pre (c,name),p)(hb:∀d∈vz.ds (c,name),gN d)(hy:e8 c name y):kO EE O0 f156 vz O7 (c,name) 14 (mj (c,name)) y:=by
 have qb:=QP (x:=c) (hb _ m0)
 have Cg:=ON (s:=name) (hb _ m1)
 have bo:bm c:=hp _ m0
 clear hp hb
 rw[afb c name y]
 dsimp only
 have hM:=Rk c
 have w2:IntKind.wrap .i64 (1+af (Aj c) 3)=QM c:=wi (n:=QM c)
 obtain⟨vs,⟨q1,q2,q3,q4,q5,⟨⟩⟩,⟨r1,r2,r3,r4,r5,⟨⟩⟩,⟨cb,ci,ch,⟨⟩⟩,⟨⟩⟩:=y
 obtain⟨Gf,hr,g4,g7⟩:=hy
 simp only[pE,and_true,true_and] at Gf hr g4 g7
 obtain⟨m1,m2,m3,m4,m5⟩:=hr
 have m1:=m1.symm
 subst m1 Gf m2 m3 m4 m5
 have fin:∀d e:ah,d=Aj c->e=Rl c->sJ c name (IntKind.wrap .i64 (1+af d 3),dk c,(q1,q2,q3,q4,q5,()),(name,gS c l4,ed c,fV c,[],()),(e.b,e.i,e.h,()),()):=by
  intro d e hd he
  have w3:IntKind.wrap .i64 (1+af d 3)=QM c:=by rw[hd];exact w2
  rw[w3]
  refine⟨rfl,rfl,by omega,by omega,by simp only[fz];omega,?_,?_,?_⟩
  ·show bm e
   rw[he];exact au (IQ bo) 3
  ·show mP (GW c) (rM c) (QM c).toNat [] e=rL c
   rw[he,rL]
  ·show p_ (rM c) (QM c).toNat e=pb c
   rw[he,pb]
 refine⟨g4.1,g4.2,fin ⟨cb,ci,ch⟩ (aa ⟨cb,ci,ch⟩ 3) g7 (by rw[g7,Rl]),?_⟩
 clear g7 fin
 clear hM w2 g4
 rintro⟨i,vs,⟨q1,q2,q3,q4,q5,⟨⟩⟩,⟨r1,r2,r3,r4,r5,⟨⟩⟩,⟨cb,ci,ch,⟨⟩⟩,⟨⟩⟩ ⟨Gf,hr,g1,g2,g3,g4,g5,g6⟩
 have m1:name=r1:=(congrArg Prod.fst hr).symm
 have m2:r2=gS c l4:=congrArg (fun t=>t.2.1) hr
 have m3:r3=ed c:=congrArg (fun t=>t.2.2.1) hr
 have m4:r4=fV c:=congrArg (fun t=>t.2.2.2.1) hr
 have Gf:vs=dk c:=Gf
 clear hr
 subst m1 Gf m2 m3 m4
 have g1:0<=i:=g1
 have g2:i<=3:=g2
 have g3:(r5.length:Int)+i<=3:=g3
 have g4:bm ⟨cb,ci,ch⟩:=g4
 have g5:mP (GW c) (rM c) i.toNat r5 ⟨cb,ci,ch⟩=rL c:=g5
 have g6:p_ (rM c) i.toNat ⟨cb,ci,ch⟩=pb c:=g6
 refine aR (fun hc=> ?_) (fun hc=>⟨by trivial,?_⟩)
 ·have hc:i>0:=hc
  generalize hp:((cS (ed c):Nat):Int)=pn at*
  have hAl:=QE pn ⟨cb,ci,ch⟩
  have an5:GW c ⟨cb,ci,ch⟩=Fl (dk c) (xG pn ⟨cb,ci,ch⟩):=by rw[<-hp];rfl
  have aeP:rM c ⟨cb,ci,ch⟩=qt pn ⟨cb,ci,ch⟩:=by rw[<-hp];rfl
  have kC:=zh pn g4
  clear hp
  generalize xG pn ⟨cb,ci,ch⟩=a at*
  generalize qt pn ⟨cb,ci,ch⟩=d at*
  refine⟨g4,⟨rfl,rfl,rfl,rfl,rfl,by omega,by simp only;omega,rfl⟩,?_⟩
  rintro⟨i',k,wJ,⟨a1,a2,a3,a4,a5,⟨⟩⟩,⟨q1',q2',q3',q4',q5',⟨⟩⟩,⟨r1',U2,r3',r4',r5',⟨⟩⟩,⟨cb',ci',ch',⟨⟩⟩,⟨⟩⟩ ⟨hi,hv,ha,hr,GB,k1,k2,hl⟩
  have hi:i=i':=Eq.symm hi
  have hv:wJ=dk c:=hv
  have n1:a1=a.Kind:=congrArg Prod.fst ha
  have n2:a2=a.Name:=congrArg (fun t=>t.2.1) ha
  have n3:a4=a.N:=congrArg (fun t=>t.2.2.2.1) ha
  have n4:a5=a.aW:=congrArg (fun t=>t.2.2.2.2.1) ha
  have m1:r1'=name:=congrArg Prod.fst hr
  have m2:U2=gS c l4:=congrArg (fun t=>t.2.1) hr
  have m3:r3'=ed c:=congrArg (fun t=>t.2.2.1) hr
  have m4:r4'=fV c:=congrArg (fun t=>t.2.2.2.1) hr
  have m5:r5=r5':=(congrArg (fun t=>t.2.2.2.2.1) hr).symm
  have u1:cb'=d.b:=congrArg Prod.fst GB
  have u2:ci'=d.i:=congrArg (fun t=>t.2.1) GB
  have u3:ch'=d.h:=congrArg (fun t=>t.2.2.1) GB
  have k1:0<=k:=k1
  have k2:k<=a.ay.length:=k2
  have hl:a3=jF (dk c) a.ay k.toNat:=hl
  clear ha hr GB
  have m1:=m1.symm
  subst n1 n2 n3 n4 m2 m3 m4 u1 u2 u3 hl hv hi m5
  subst m1
  have hlen:(jF (dk c) a.ay k.toNat).length=a.ay.length:=AK _ _ (by omega)
  refine aR ?_ ?_<;>intro hk
  ·have hk:k<((jF (dk c) a.ay k.toNat).length:Int):=hk
   rw[hlen] at hk
   have uL:k.toNat<a.ay.length:=by omega
   have p1:k.toNat<(jF (dk c) a.ay k.toNat).length:=by omega
   have p2:∀g,k.toNat<((jF (dk c) a.ay k.toNat).modify k.toNat g).length:=fun g=>by rw[Kk];exact p1
   have ek:(k+1).toNat=k.toNat+1:=by omega
   have nx:∀l:List cv,l=jF (dk c) a.ay (k.toNat+1)->sI c name (i,0,dk c,(a.Kind,a.Name,a.ay,a.N,a.aW,()),(q1,q2,q3,q4,q5,()),(name,gS c l4,ed c,fV c,r5,()),(d.b,d.i,d.h,()),()) (i,IntKind.wrap .i64 (k+1),dk c,(a.Kind,a.Name,l,a.N,a.aW,()),(q1',q2',q3',q4',q5',()),(name,gS c l4,ed c,fV c,r5,()),(d.b,d.i,d.h,()),())/\oZ c name (i,IntKind.wrap .i64 (k+1),dk c,(a.Kind,a.Name,l,a.N,a.aW,()),(q1',q2',q3',q4',q5',()),(name,gS c l4,ed c,fV c,r5,()),(d.b,d.i,d.h,()),())<oZ c name (i,k,dk c,(a.Kind,a.Name,jF (dk c) a.ay k.toNat,a.N,a.aW,()),(q1',q2',q3',q4',q5',()),(name,gS c l4,ed c,fV c,r5,()),(d.b,d.i,d.h,()),()):=by
    rintro l rfl
    have Bz:(jF (dk c) a.ay (k.toNat+1)).length=a.ay.length:=AK _ _ (by omega)
    rw[wi (n:=k+1)]
    exact⟨⟨rfl,rfl,rfl,rfl,rfl,by omega,by simp only;omega,by rw[ek]⟩,by simp only[oZ];omega⟩
   refine⟨k1,p1,p1,k1,p1,p1,k1,p2 _,p2 _,Oi (fun o=>⟨k1,p2 _,p2 _,k1,p2 _,p2 _,nx _ ?_⟩) (fun o=>nx _ ?_)⟩
   ·have o:¬(a.ay.getD k.toNat fj).Op=ai:=fun e=>o ((congrArg cv.Op (xu uL _)).trans e)
    refine(Ny uL _ _).trans (Eq.trans ?_ (Fk uL))
    congr 2
    show(⟨_,_,rP (dk c) (((jF (dk c) a.ay k.toNat).modify k.toNat _).getD k.toNat fj).R⟩:cv)=_
    rw[xu uL,AL uL]
    simp only[qf,if_neg o]
   ·have o:(a.ay.getD k.toNat fj).Op=ai:=(congrArg cv.Op (xu uL _)).symm.trans o
    refine(Hh uL _).trans (Eq.trans ?_ (Fk uL))
    congr 2
    show(⟨_,rP (dk c) ((jF (dk c) a.ay k.toNat).getD k.toNat fj).L,_⟩:cv)=_
    rw[AL uL]
    simp only[qf,if_pos o]
  ·have hk:¬k<((jF (dk c) a.ay k.toNat).length:Int):=hk
   rw[hlen] at hk
   have hf:jF (dk c) a.ay k.toNat=a.ay.map (qf (dk c)):=by
    rw[jF,Ut (by omega),List.drop_eq_nil_of_le (by omega),uJ]
   have e:i.toNat=(i-1).toNat+1:=by omega
   rw[e] at g5 g6
   simp only[mP,p_,an5,aeP] at g5 g6
   have fin:sJ c name (IntKind.wrap .i64 (i-1),dk c,(q1',q2',q3',q4',q5',()),(name,gS c l4,ed c,fV c,r5++[⟨a.Kind,a.Name,jF (dk c) a.ay k.toNat,a.N,a.aW⟩],()),(d.b,d.i,d.h,()),())/\sH c name (IntKind.wrap .i64 (i-1),dk c,(q1',q2',q3',q4',q5',()),(name,gS c l4,ed c,fV c,r5++[⟨a.Kind,a.Name,jF (dk c) a.ay k.toNat,a.N,a.aW⟩],()),(d.b,d.i,d.h,()),())<sH c name (i,dk c,(q1,q2,q3,q4,q5,()),(name,gS c l4,ed c,fV c,r5,()),(cb,ci,ch,()),()):=by
    rw[hf,wi (n:=i-1)]
    exact⟨⟨rfl,rfl,by omega,by omega,by simp only[kF,fP,fz];omega,kC,g5,g6⟩,by simp only[sH];omega⟩
   have hr5:r5.length+1<=4294967296:=by omega
   exact⟨hr5,fin⟩
 ·have hc:¬i>0:=hc
  have e:i.toNat=0:=by omega
  rw[e] at g5 g6
  have g5:r5=rL c:=g5
  have g6:(⟨cb,ci,ch⟩:ah)=pb c:=g6
  exact Uo (a:=⟨name,gS c l4,ed c,fV c,r5⟩) (a':=⟨name,gS c l4,ed c,fV c,rL c⟩) (d:=⟨cb,ci,ch⟩) (d':=pb c) (by rw[g5]) g6
theorem Ea(c:ah)(name:BA)(hp:∀p∈vz.pre (c,name),p)(hb:∀d∈vz.ds (c,name),gN d):ph EE O0 f156 vz O7 (c,name) 14 (mj (c,name)):=by
 have qb:=QP (x:=c) (hb _ m0)
 have Cg:=ON (s:=name) (hb _ m1)
 have bo:bm c:=hp _ m0
 clear hp hb
 apply vE (let x3:=[0,0,5,(-5),100];let x2:=x3.length;let x1:=(↑x2:Int);let x0:=aa c x1;let q0:=BA×Int×List cr×List dy×List ez×PUnit;let q1:=aa x0 3;0<=c.i/\L4 c.b.length/\1<=x2/\0<=x0.i/\L4 x0.b.length/\zO c name (wrap i64 (1+af x0 3),({data:= #[]:BA},0,[],[],[],()),(name,x3.getD (Int.toNat (af c x1)) 0,[],[],[],()),(q1.b,q1.i,q1.h,()),())/\∀(y:Int×q0×q0×O9×PUnit),let mf:={b:=y.2.2.2.1.1,i:=y.2.2.2.1.2.1,h:=y.2.2.2.1.2.2.1:ah};let qP:=cW y.2.2.1.2.2.1;let w_:=y.2.2.1.2.2.2.1.length;let jd:=y.2.2.1.2.2.1.length;let vH:=[{Kind:=(pH false mf).Kind,ay:=(pH false mf).ay,Not:=false:cr}];let x9:=aa mf 3;let NW:=[{Kind:=(pH true x9).Kind,ay:=(pH true x9).ay,Not:=true:cr}];let x6:=y.2.2.1.2.2.1++NW;let x7:=aa (jE x9) 3;let x8:=aa x9 3;let Aa:=[{Op:=(1:Int)+af x8 3,L:=rP qP (eu (aa x8 3)),R:=rP qP (eu (dc (aa x8 3))):dy}];let MA:=dc (dc (aa x7 3));let x18:=dc (dc (aa x8 3));let x5:=cW x6;let x4:=[{Op:=(1:Int)+af x7 3,L:=rP x5 (eu (aa x7 3)),R:=rP x5 (eu (dc (aa x7 3))):dy}];let q2:=(y.2.1.1,y.2.1.2.1,y.2.1.2.2.1,y.2.1.2.2.2.1,y.2.1.2.2.2.2.1,());let q3:=(wrap i64 (y.1-1),q2,(y.2.2.1.1,y.2.2.1.2.1,y.2.2.1.2.2.1++vH,y.2.2.1.2.2.2.1,y.2.2.1.2.2.2.2.1,()),((jE mf).b,(jE mf).i,(jE mf).h,()),());zO c name y->bif decide (y.1>0) then bm mf/\L4 (jd+vH.length)/\zO c name q3/\C0 c name q3<C0 c name y else bm mf/\bif cm mf 3 then bm x9/\L4 (jd+NW.length)/\L4 (dM x6)/\bm (jE x9)/\bif cm (jE x9) 3 then bm x7/\L4 (w_+x4.length)/\e8 c name (x5,q2,(y.2.2.1.1,y.2.2.1.2.1,x6,y.2.2.1.2.2.2.1++x4,y.2.2.1.2.2.2.2.1,()),(MA.b,MA.i,MA.h,()),()) else e8 c name (x5,q2,(y.2.2.1.1,y.2.2.1.2.1,x6,y.2.2.1.2.2.2.1,y.2.2.1.2.2.2.2.1,()),(x7.b,x7.i,x7.h,()),()) else L4 (dM y.2.2.1.2.2.1)/\bm x9/\bif cm x9 3 then bm x8/\L4 (w_+Aa.length)/\e8 c name (qP,q2,(y.2.2.1.1,y.2.2.1.2.1,y.2.2.1.2.2.1,y.2.2.1.2.2.2.1++Aa,y.2.2.1.2.2.2.2.1,()),(x18.b,x18.i,x18.h,()),()) else e8 c name (qP,q2,(y.2.2.1.1,y.2.2.1.2.1,y.2.2.1.2.2.1,y.2.2.1.2.2.2.1,y.2.2.1.2.2.2.2.1,()),(x8.b,x8.i,x8.h,()),()))
 dsimp only
 have hk:=iR bo l4
 have hN:=MT c
 have hPA:=Ri c
 have hpa:dM (ed c)<=4294967296:=by have:=wW hPA.1;omega
 have fin:∀(vs:List BA)(q:BA×Int×List cr×List dy×List ez×PUnit)(ps:List cr)(cs:List dy)(d:ah),vs=dk c->ps=ed c->cs=fV c->d=Aj c->e8 c name (vs,q,(name,gS c l4,ps,cs,[],()),(d.b,d.i,d.h,()),()):=by
  rintro vs q ps cs d rfl rfl rfl rfl
  exact⟨rfl,rfl,IQ bo,rfl⟩
 have w1:IntKind.wrap .i64 (1+af (Rm c) 3)=Rj c:=wi (n:=Rj c)
 refine⟨bo.1,bo.2,by simp,hk.1,hk.2,?_,?_⟩
 ·show zO c name (IntKind.wrap .i64 (1+af (Rm c) 3),(ai,0,[],[],[],()),(name,gS c l4,[],[],[],()),((HY c).b,(HY c).i,(HY c).h,()),())
  rw[w1]
  exact⟨rfl,by omega,by omega,by simp only[fz];omega,OH bo,rfl,rfl⟩
 rintro⟨i,⟨q1,q2,q3,q4,q5,⟨⟩⟩,⟨r1,r2,r3,r4,r5,⟨⟩⟩,⟨cb,ci,ch,⟨⟩⟩,⟨⟩⟩ ⟨hr,g1,g2,g3,g4,g5,g6⟩
 simp only[pE,and_true,true_and] at hr
 obtain⟨m1,m2,m3,m4⟩:=hr
 subst m1 m2 m3 m4
 simp only at g1 g2 g3 g4 g5 g6⊢
 refine aR ?_ ?_<;>intro hc
 ·have e:i.toNat=(i-1).toNat+1:=by omega
  rw[e] at g5 g6
  rw[wi]
  exact⟨g4,by simp only[fP,fz];omega,⟨rfl,by omega,by omega,by simp only[kF,fP,fz];omega,qn g4,g5,g6⟩,by simp only[C0];omega⟩
 have e:i.toNat=0:=by omega
 rw[e] at g5 g6
 have g5:r3=lB c:=g5
 have g6:(⟨cb,ci,ch⟩:ah)=Gp c:=g6
 have e1:cb=(Gp c).b:=congrArg ah.b g6
 have e2:ci=(Gp c).i:=congrArg ah.i g6
 have e3:ch=(Gp c).h:=congrArg ah.h g6
 subst g5 e1 e2 e3
 clear g6
 have k4:=au g4 3
 refine⟨g4,ae (fun a=> ?_) (fun a=> ?_)⟩
 ·have aP:ed c=lB c++[pH true (xg c)]:=if_pos a
  have a5:Ez c=jE (xg c):=if_pos a
  rw[aP] at hpa
  have k6:=au (qn k4) 3
  refine⟨k4,by simp only[fP,fz];omega,hpa,qn k4,ae (fun b=> ?_) (fun b=> ?_)⟩
  ·have b':cm (Ez c) 3=true:=by rw[a5];exact b
   have c7:Aj c=rQ (xf c):=if_pos b'
   exact⟨k6,by simp,fin _ _ (lB c++[pH true (xg c)]) [Qm (cW (lB c++[pH true (xg c)])) (ze (aa (jE (xg c)) 3))] (rQ (aa (jE (xg c)) 3)) (by rw[dk,aP];rfl) aP.symm (by rw[fV,if_pos b',dk,aP,xf,a5]) (by rw[c7,xf,a5])⟩
  ·have b':¬cm (Ez c) 3=true:=by rw[a5];exact fun e=>absurd (b.symm.trans e) (by decide)
   have c7:Aj c=xf c:=if_neg b'
   exact fin _ _ (lB c++[pH true (xg c)]) [] (aa (jE (xg c)) 3) (by rw[dk,aP];rfl) aP.symm (by rw[fV,if_neg b']) (by rw[c7,xf,a5])
 ·have a':¬cm (Gp c) 3=true:=fun e=>absurd (a.symm.trans e) (by decide)
  have aP:ed c=lB c:=if_neg a'
  have a5:Ez c=xg c:=if_neg a'
  rw[aP] at hpa
  have k6:=au k4 3
  refine⟨hpa,k4,ae (fun b=> ?_) (fun b=> ?_)⟩
  ·have b':cm (Ez c) 3=true:=by rw[a5];exact b
   have c7:Aj c=rQ (xf c):=if_pos b'
   exact⟨k6,by simp,fin _ _ (lB c) [Qm (cW (lB c)) (ze (aa (xg c) 3))] (rQ (aa (xg c) 3)) (by rw[dk,aP]) aP.symm (by rw[fV,if_pos b',dk,aP,xf,a5]) (by rw[c7,xf,a5])⟩
  ·have b':¬cm (Ez c) 3=true:=by rw[a5];exact fun e=>absurd (b.symm.trans e) (by decide)
   have c7:Aj c=xf c:=if_neg b'
   exact fin _ _ (lB c) [] (aa (xg c) 3) (by rw[dk,aP]) aP.symm (by rw[fV,if_neg b']) (by rw[c7,xf,a5])
attribute [local irreducible] ph kO in
theorem afr:Holds EE (156,vz):=by
 refine sk pD func156 vz (by kernel_rfl) O0 (uQ _) O7 14 mj (by kernel_rfl) (fun x hp hb=> ?_)
 obtain⟨c,name⟩:=x
 refine⟨Ea c name hp hb,fun(y:List BA×T1×T1×T4×Unit) hy=> ?_⟩
 have hy:e8 c name y:=hy
 exact Ec c name y hp hb hy
def Ze:HH:=⟨_,afr⟩
def aft:=bW (α:=ah) (q1 qU) [.box false] (fun c=>[bm c]) (fun c=>⟨[dA .h_ (cG c)],[],[dU (jB c)]⟩)
def JA(c:ah):Int×List BA×T2×T2×T4×Unit->Prop:=fun(i,ns,q,d,cu,_)=>ns=s8/\d.1=cD c Bi/\0<=i/\i<=4/\d.2.1.length=i/\bm ⟨cu.1,cu.2.1,cu.2.2.1⟩/\LY (4-i).toNat i.toNat d.2.1 ⟨cu.1,cu.2.1,cu.2.2.1⟩=(cG c).aw/\NH (4-i).toNat i.toNat ⟨cu.1,cu.2.1,cu.2.2.1⟩=jB c
def IX(c:ah):Int×List BA×T2×T2×T4×Unit->Nat:=fun(i,ns,q,d,cu,_)=>(4-i).toNat
def apJ:AX aft:=fun c=>bS [(4,aT [iI 5,iO 4 .str,.box 2 (2,1024) [.lit .str,.own .bB true],.box 3 (3,1024) [.lit .str,.own .bB true],.box 0 (2000000,0) [.shr .byte,.lit (.int .i64),.lit (.int .i64)]] (fun _=>JA c) (IX c))]
def ahy:HH:=hF aft func99 [mS,nE,Ze] apJ fun(c:ah) hp hb=>by
 have bo:bm c:=hp _ m0
 clear hp hb
 apply vE (let x1:=[{data:= #[102,108,111,119]:BA},{data:= #[115,104,105,112]:BA},{data:= #[120]:BA}];let x0:=ck c x1;bm c/\1<=x1.length/\JA c (0,[{data:= #[114,49]:BA},{data:= #[114,50]:BA},{data:= #[114,51]:BA},{data:= #[114,52]:BA}],({data:= #[]:BA},[],()),(cD c x1,[],()),(x0.b,x0.i,x0.h,()),())/\∀(y:Int×List BA×T9×T9×O9×PUnit),let x4:={b:=y.2.2.2.2.1.1,i:=y.2.2.2.2.1.2.1,h:=y.2.2.2.2.1.2.2.1:ah};let x2:=aa x4 4;let x3:=wrap i64 (1+af x4 4);let x5:=[pu (y.2.1.getD y.1.toNat ai) x2];let q0:=(wrap i64 (y.1+1),y.2.1,(y.2.2.1.1,y.2.2.1.2.1,()),(y.2.2.2.1.1,y.2.2.2.1.2.1++x5,()),((pb x2).b,(pb x2).i,(pb x2).h,()),());let q1:=LM [DV.agg [CS y.2.2.2.1.1,CL .bB y.2.2.2.1.2.1]] [DV.agg [CS ((cG c).Name),CL .bB (cG c).aw]] [bU x2] [bU (jB c)];JA c y->0<=y.2.2.2.2.1.2.1/\L4 y.2.2.2.2.1.1.length/\bif decide (y.1<x3) then bif decide (y.1<4) then 0<=y.1/\y.1.toNat<y.2.1.length/\y.1.toNat<y.2.1.length/\bm x2/\L4 (y.2.2.2.1.2.1.length+x5.length)/\JA c q0/\IX c q0<IX c y else q1 else q1)
 dsimp only
 have hk:=dQ bo Bi
 refine⟨bo,by simp,⟨rfl,rfl,by omega,by omega,rfl,hk,rfl,rfl⟩,?_⟩
 rintro⟨i,ns,⟨q1,q2,⟨⟩⟩,⟨d1,d2,⟨⟩⟩,⟨cb,ci,ch,⟨⟩⟩,⟨⟩⟩ ⟨hns,hd,g1,g2,g3,g4,g5,g6⟩
 simp only at hns hd g1 g2 g3 g4 g5 g6⊢
 subst hns hd
 have hb:=bz (c:=⟨cb,ci,ch⟩) (n:=4) (by omega)
 have hB:=au g4 4
 rw[wi (n:=1+af ⟨cb,ci,ch⟩ 4)]
 have stop:(cG c).aw=d2/\jB c=aa ⟨cb,ci,ch⟩ 4->fG [DV.agg [.lit (.string (cD c Bi)),.sl .bB d2]]=fG [DV.agg [.lit (.string (cG c).Name),.sl .bB (cG c).aw]]/\fG [DV.box [.sl .byte (aa ⟨cb,ci,ch⟩ 4).b,.lit (.int .i64 (aa ⟨cb,ci,ch⟩ 4).i),.lit (.int .i64 (aa ⟨cb,ci,ch⟩ 4).h)]]=fG [DV.box [.sl .byte (jB c).b,.lit (.int .i64 (jB c).i),.lit (.int .i64 (jB c).h)]]:=fun e=>by
  rw[e.1,e.2];exact⟨rfl,rfl⟩
 refine⟨g4.1,g4.2,aR (fun hc=>aR (fun h4=> ?_) (fun h4=>⟨by trivial,stop ?_⟩)) (fun hc=>⟨by trivial,stop ?_⟩)⟩
 ·have e:(4-i).toNat=(4-(i+1)).toNat+1:=by omega
  have e2:(i+1).toNat=i.toNat+1:=by omega
  have e3:((i.toNat:Nat):Int)=i:=by omega
  rw[e] at g5 g6
  simp only[LY,NH,e3,if_pos hc] at g5 g6
  rw[wi (n:=i+1)]
  have hl:s8.length=4:=rfl
  refine⟨g1,by omega,by omega,hB,by simp only[fP,fz];omega,⟨rfl,rfl,by omega,by omega,?_,zf hB,by simp only[e2];exact g5,by simp only[e2];exact g6⟩,by simp only[IX];omega⟩
  simp only[kF,fP,fz];omega
 ·have e:(4-i).toNat=0:=by omega
  rw[e] at g5 g6
  exact⟨g5.symm,g6.symm⟩
 ·have e3:((i.toNat:Nat):Int)=i:=by omega
  cases hn:(4-i).toNat with
  |zero=>rw[hn] at g5 g6;exact⟨g5.symm,g6.symm⟩
  |succ n=>
   rw[hn] at g5 g6
   simp only[LY,NH,e3,if_neg hc] at g5 g6
   exact⟨g5.symm,g6.symm⟩
theorem zm(c:ah):ga (io c)=true:=by
 unfold io;split
 ·simp[ga]
 ·split
  ·have h:=pN (aa c 6)
   simp[ga,h]
  ·have h:=eE (aa c 6) (l:=KK) iK (by decide) (by rfl)
   simp[ga,h]
theorem ow(c:ah):fB (eu c)=true:=by
 unfold eu;split
 ·have h:=pN (aa c 3)
  simp[fB,ga,h]
 ·have h:=eE (aa c 3) (l:=Rd) iK (by decide) (by rfl)
  simp[fB,ga,h]
theorem Cl{vars:List BA}(hv:∀s,s∈vars->iK s=true){a:cM}(ha:fB a=true):fB (rP vars a)=true/\eZ vars (rP vars a)=true:=by
 unfold rP;split
 ·rename_i h;exact⟨ha,h⟩
 ·split
  ·exact⟨by rfl,by rfl⟩
  ·have hm:vars.getD 0 ai∈vars:=gH (by omega)
   have h1:=hv _ hm
   have h2:nf vars (vars.getD 0 ai)=true:=qd.2 hm
   exact⟨by simp only[fB,ga,h1];simp,by simp only[eZ,h2,Bool.or_true]⟩
theorem S8{vars:List BA}(hv:∀s,s∈vars->iK s=true)(c:ah):gT (qf vars (fO c))=true/\jR vars (qf vars (fO c))=true:=by
 have hz:eZ vars mX=true:=by rfl
 have h1:=Cl hv (ow c)
 unfold fO;split
 ·have h2:=Cl hv (ow (ck (aa (dc c) 4) Ev))
  have h3:=eE (aa (dc c) 4) (l:=Ev) (fun s=> !decide (s=ai)&&(decide (s=FL)||decide (s=xC))) (by decide) (by rfl)
  simp only[cN,qK,decide_eq_false_iff_not] at h3
  obtain⟨h4,h5⟩:=h3
  simp only[qf,gT,jR,if_neg h4,decide_eq_false h4,cond_false,h5,cond_true,h1.1,h1.2,h2.1,h2.2,Bool.and_self,and_self]
 ·simp only[qf,gT,jR,if_true,decide_true,cond_true,h1.1,h1.2,hz,Bool.and_self,and_self]
theorem Tl{vars:List BA}(hv:∀s,s∈vars->iK s=true)(c:ah):na vars (Qm vars (ze c))=true:=by
 have hb:=bz (c:=c) (n:=3) (by omega)
 have h1:=Cl hv (ow (aa c 3))
 have h2:=Cl hv (ow (dc (aa c 3)))
 simp only[na,jv,Qm,ze,h1.1,h1.2,h2.1,h2.2,B6]
 exact decide_eq_true ⟨by omega,by omega⟩
theorem TN{vars:List BA}(hv:∀s,s∈vars->iK s=true)(c:ah):e7 ((nv c).map (qf vars))=true/\((nv c).map (qf vars)).all (jR vars)=true:=by
 have h:=nW (f:=fO) (g:=iB) (fun e=>gT (qf vars e)=true/\jR vars (qf vars e)=true) (S8 hv) (xF c).toNat [] (FP c) (fun x hx=>by cases hx)
 have hl:=A0 c
 refine⟨?_,?_⟩
 ·simp only[e7,cN,decide_eq_true_eq,sP,wP,mz]
  exact⟨by omega,fun x ⟨e,he,hx⟩=>hx▸(h e he).1⟩
 ·simp only[sP,mz]
  exact fun x ⟨e,he,hx⟩=>hx▸(h e he).2
theorem WN(c:ah):1<=iU c/\iU c<=6:=by
 have h:=sj c (l:=qa) (fun k=>decide (1<=k/\k<=6)) (by decide) (by rfl)
 exact yT h
theorem WO{vars:List BA}(hv:∀s,s∈vars->iK s=true){fC:Int}(h0:1<=fC)(h1:fC<=3)(c:ah):nO vars fC (Fl vars (xG fC c))=true:=by
 have hb:=bz (c:=kL c qa) (n:=fC) (by omega)
 have hn:bu (iv c)=true:=eE (kL c qa) (l:=HX) bu (by decide) (by rfl)
 obtain⟨e1,e2⟩:=TN hv c
 have hK:=WN c
 have hT:0<=vv c/\vv c<=100000:=by
  unfold vv;split
  ·have h:=sj (ln c) (l:=xn) (fun k=>decide (0<=k/\k<=100000)) (by decide) (by rfl)
   simpa using h
  ·omega
 unfold xG
 split
 ·rename_i k2
  simp only[nO,Fl,dx,BH,ib,k2,List.map_nil,fz,QS,B6,decide_true,show¬((2:Int)=1) by decide,decide_false,cond_false,cond_true,wQ,cN,decide_eq_true_eq,qK,decide_eq_false_iff_not]
  omega
 ·rename_i k2
  split
  ·rename_i k56
   have n1:¬iU c=1:=by omega
   have n3:¬iU c=3:=by omega
   have n4:¬iU c=4:=by omega
   have h5:(decide (iU c=5)||decide (iU c=6))=true:=by simpa using k56
   simp only[nO,Fl,dx,BH,ib,decide_eq_false n1,decide_eq_false k2,decide_eq_false n3,decide_eq_false n4,h5,List.map_nil,fz,QS,decide_true,cond_false,cond_true,qx,W9,Bool.and_self,B6]
  ·rename_i k56
   have hd:ib fC (Fl vars ⟨iU c,iv c,nv c,vv c,uG c⟩)=true:=by simp[ib,Fl,k2]
   have ha:dx (Fl vars ⟨iU c,iv c,nv c,vv c,uG c⟩)=true:=by
    have hc:iU c=1\/iU c=3\/iU c=4:=by omega
    rcases hc with k|k|k
    ·have t0:vv c=0:=if_neg (by omega)
     have u0:uG c=ai:=if_neg (fun e=>by have:=e.1;omega)
     simp only[Fl,dx,k,hn,e1,t0,u0,decide_true,cond_true,Bool.and_self]
    ·have t0:vv c=0:=if_neg (by omega)
     have u0:fA (uG c)=true:=by
      unfold uG;split
      ·have h:=eE (aa (oW c) 2) (l:=ra) fA (by decide) (by rfl)
       exact h
      ·rfl
     simp only[Fl,dx,k,hn,e1,t0,u0,decide_true,cond_true,show¬((3:Int)=1) by decide,show¬((3:Int)=2) by decide,decide_false,cond_false,Bool.and_self]
    ·have u0:uG c=ai:=if_neg (fun e=>by have:=e.1;omega)
     simp only[Fl,dx,k,hn,e1,u0,decide_eq_true hT,decide_true,cond_true,show¬((4:Int)=1) by decide,show¬((4:Int)=2) by decide,show¬((4:Int)=3) by decide,decide_false,cond_false,Bool.and_self]
   simp only[nO,hd,ha,wQ]
   exact e2
theorem yp(b:Bool)(c:ah):gB (pH b c)=true:=by
 have h1:bu (cD c cX)=true:=eE c (l:=cX) bu (by decide) (by rfl)
 have hl:=H9 c
 have h2:=nW (f:=io) (g:=im) (fun a=>ga a=true) zm (vc c).toNat [] (ck c cX) (fun x hx=>by cases hx)
 have h3:=mO io im (vc c).toNat [] (ck c cX)
 simp only[fz] at h3
 have h4:(pH b c).ay.length<=5:=by
  show(mP io im (vc c).toNat [] (ck c cX)).length<=5
  omega
 simp only[gB,cN,decide_eq_true_eq,sP]
 exact⟨⟨h1,h4⟩,h2⟩
theorem MS(c:ah):(lB c).length=(Rj c).toNat/\∀p,p∈lB c->gB p=true/\p.Not=false:=by
 refine⟨?_,nW (f:=pH false) (g:=jE) (fun p=>gB p=true/\p.Not=false) (fun d=>⟨yp false d,rfl⟩) (Rj c).toNat [] (HY c) (fun x hx=>by cases hx)⟩
 rw[lB,mO];simp
theorem RF{ps:List cr}(h:∀p,p∈ps->p.Not=false):cS ps=ps.length:=by
 rw[cS,List.filter_eq_self.2 (fun p hp=>by rw[h p hp];rfl)]
theorem GV(c:ah):mC (ed c)=true/\1<=cS (ed c)/\cS (ed c)<=3/\∀p,p∈ed c->gB p=true:=by
 obtain⟨hl,hp⟩:=MS c
 have hN:=MT c
 have hP:=RF (fun p h=>(hp p h).2)
 have main:∀ps:List cr,(ps=lB c\/∃q,ps=lB c++[q]/\gB q=true/\q.Not=true)->ir ps=true/\1<=cS ps/\cS ps<=3/\∀p,p∈ps->gB p=true:=by
  rintro ps (rfl|⟨q,rfl,hq,hn⟩)
  ·refine⟨?_,by omega,by omega,fun p h=>(hp p h).1⟩
   simp only[ir,cN,decide_eq_true_eq,gb,mD,beq_iff_eq]
   refine⟨⟨by omega,by omega⟩,fun j hj=> ?_⟩
   have hm:(lB c).getD j cF∈lB c:=gH hj
   refine⟨(hp _ hm).1,?_⟩
   rw[jt,(hp _ hm).2,decide_eq_false (by omega)]
  ·have hQ:cS (lB c++[q])=(lB c).length:=by
    rw[cS,List.filter_append,kF]
    have:(List.filter (fun p:cr=> !p.Not) [q])=[]:=by simp[hn]
    rw[this];exact hP
   have GG:∀p,p∈lB c++[q]->gB p=true:=fun p h=>by
    rcases jI.1 h with h|h
    ·exact(hp p h).1
    ·rw[mW] at h;subst h;exact hq
   refine⟨?_,by omega,by omega,GG⟩
   simp only[ir,cN,decide_eq_true_eq,gb,mD,beq_iff_eq,kF,fP,fz,hQ]
   refine⟨⟨by omega,by omega⟩,fun j hj=> ?_⟩
   have hm:(lB c++[q]).getD j cF∈lB c++[q]:=gH (by simp;omega)
   refine⟨GG _ hm,?_⟩
   by_cases h:j<(lB c).length
   ·have e:(lB c++[q]).getD j cF=(lB c).getD j cF:=by
     rw[eV,eV,zY h]
    have vT:(lB c).getD j cF∈lB c:=gH h
    rw[jt,e,(hp _ vT).2,decide_eq_false (by omega)]
   ·have e:(lB c++[q]).getD j cF=q:=by
     have:j=(lB c).length:=by omega
     rw[eV,this,z_ (uh _),Zw];rfl
    rw[jt,e,hn,decide_eq_true (by omega)]
 have:=main (ed c) (by
  unfold ed;split
  ·exact .inr ⟨_,rfl,yp _ _,rfl⟩
  ·exact .inl rfl)
 rw[pY] at this
 exact this
theorem Pp(c:ah):∀s,s∈dk c->iK s=true:=by
 intro s hs
 obtain⟨p,hp,hn,a,ha,hk,rfl⟩:=yo.1 hs
 have h:=(GV c).2.2.2 p hp
 simp only[gB,cN,sP] at h
 have:=h.2 a ha
 simp only[ga,hk,decide_true,cond_true,cN] at this
 exact this.1
theorem KO{name:BA}(hn:bu name=true)(c:ah):fR (pu name c)=true:=by
 obtain⟨h1,h2,h3,_⟩:=GV c
 have hv:=Pp c
 have hs:=sj c (l:=l4) (fun k=>decide (-100<=k/\k<=100)) (by decide) (by rfl)
 have hM:=Rk c
 have hk:kV (fV c) (cW (ed c))=true:=by
  unfold fV;split
  ·have:=Tl hv (xf c)
   simp only[kV,fP,fz,QV,QS,B6]
   rw[show na (cW (ed c)) (Qm (dk c) (ze (xf c)))=true from this];rfl
  ·rfl
 have ha:lN (rL c) (cW (ed c)) (cS (ed c))=true:=by
  have h:=nW (f:=GW c) (g:=rM c) (fun a=>nO (dk c) (cS (ed c)) a=true) (fun d=>WO hv (by omega) (by omega) d) (QM c).toNat [] (Rl c) (fun x hx=>by cases hx)
  have hl:(rL c).length=(QM c).toNat:=by rw[rL,mO];simp
  simp only[lN,cN,decide_eq_true_eq,sP]
  exact⟨⟨by omega,by omega⟩,h⟩
 simp only[fR,pu,hn,h1,hk,ha,B6,wQ]
 exact hs
theorem Lk{s:BA}(h:bu s=true):s.size<=12:=by
 simp only[bu,cN,decide_eq_true_eq] at h
 exact h.1.1.2
theorem NL{a:cM}(h:ga a=true):fv a<=40:=by
 have hz:dK.S.size=0:=rfl
 have hn:ai.size=0:=rfl
 simp only[ga,iK] at h
 simp only[fv,od]
 by_cases k1:a.K=1
 ·simp only[decide_eq_true k1,cond_true,cN,decide_eq_true_eq] at h
  rw[h.2,hz];omega
 ·by_cases k2:a.K=2
  ·simp only[decide_eq_false k1,decide_eq_true k2,cond_true,cond_false,cN,decide_eq_true_eq] at h
   have:=ZO h.1
   rw[h.2,hn];omega
  ·by_cases k3:a.K=3
   ·simp only[decide_eq_false k1,decide_eq_false k2,decide_eq_true k3,cond_true,cond_false,cN,decide_eq_true_eq] at h
    rw[h.1,h.2,hz,hn];omega
   ·simp only[decide_eq_false k1,decide_eq_false k2,decide_eq_false k3,cond_false] at h
    cases h
theorem uS{a:cM}(h:fB a=true):fv a<=40:=by
 simp only[fB,cN] at h
 exact NL h.1
theorem ano{p:cr}(h:gB p=true):kq p<=217:=by
 simp only[gB,cN,decide_eq_true_eq,sP] at h
 have h1:=Lk h.1.1
 have h2:=xc fv 40 p.ay (fun a ha=>NL (h.2 a ha))
 simp only[kq,uY];omega
theorem aeg{c:dy}(h:jv c=true):oy c<=80:=by
 simp only[jv,cN] at h
 have h1:=uS h.1.2
 have h2:=uS h.2
 simp only[oy];omega
theorem aeY{e:cv}(h:gT e=true):iL e<=81:=by
 have hz:fv mX=0:=rfl
 have hn:ai.size=0:=rfl
 have hp:FL.size=1:=rfl
 have hm:xC.size=1:=rfl
 simp only[gT] at h
 simp only[iL]
 by_cases k:e.Op=ai
 ·simp only[decide_eq_true k,cond_true,cN,decide_eq_true_eq] at h
  have:=uS h.1
  rw[k,h.2,hz,hn];omega
 ·simp only[decide_eq_false k,cond_false] at h
  by_cases k2:e.Op=FL
  ·simp only[k2,decide_true,Bool.true_or,cond_true,cN] at h
   have h1:=uS h.1
   have h2:=uS h.2
   rw[k2,hp];omega
  ·by_cases k3:e.Op=xC
   ·simp only[k3,decide_true,Bool.or_true,cond_true,cN] at h
    have h1:=uS h.1
    have h2:=uS h.2
    rw[k3,hm];omega
   ·simp only[decide_eq_false k2,decide_eq_false k3,Bool.or_self,cond_false] at h
    cases h
theorem abR{l:List cv}(h:e7 l=true):kS l<=410:=by
 simp only[e7,cN,decide_eq_true_eq,sP] at h
 have h2:=xc iL 81 l (fun a ha=>aeY (h.2 a ha))
 simp only[kS];omega
theorem TM{a:ez}(h:dx a=true):hJ a<=434:=by
 have hn:ai.size=0:=rfl
 have h1:(bu a.Name=true\/a.Name=ai)/\(e7 a.ay=true\/a.ay.length=0)/\(fA a.aW=true\/a.aW=ai):=by
  simp only[dx,BH] at h
  grind
 obtain⟨g1,g2,g3⟩:=h1
 have e1:a.Name.size<=12:=by
  rcases g1 with g|g
  ·exact Lk g
  ·rw[g,hn];omega
 have e2:kS a.ay<=410:=by
  rcases g2 with g|g
  ·exact abR g
  ·have:a.ay=[]:=List.length_eq_zero_iff.1 g
   rw[this];simp[kS]
 have e3:a.aW.size<=12:=by
  rcases g3 with g|g
  ·exact Xd g
  ·rw[g,hn];omega
 simp only[hJ];omega
theorem Rh{r:bc}(h:fR r=true):dV r<=5000:=by
 have hs:=xe h
 have hp:ir r.aH=true:=by
  simp only[fR,cN] at h
  rw[pY];exact h.1.1.2
 simp only[ir,cN,decide_eq_true_eq,gb,mD] at hp
 simp only[fR,kV,lN,cN,decide_eq_true_eq,sP,na,nO] at h
 obtain⟨⟨⟨⟨h1,_⟩,_⟩,⟨h2,h3⟩⟩,⟨⟨_,h4⟩,h5⟩⟩:=h
 have n1:=Lk h1
 have s1:=xc kq 217 r.aH (fun p hpm=>by
  obtain⟨j,hj,rfl⟩:=sT hpm
  have:=(hp.2 j hj).1
  rw[eV,fE hj] at this
  exact ano this)
 have s2:=xc oy 80 r.aV (fun c hc=>aeg (h3 c hc).1.1)
 have s3:=xc hJ 434 r.bH (fun a ha=>TM (h5 a ha).1.1)
 have:=hs.1.fC
 simp only[dV,kJ,vJ,sb];omega
theorem ae1{d:br}(h:f_ d=true):cE d<=61000:=by
 simp only[f_,cN,decide_eq_true_eq,gb,jC] at h
 have n1:=Lk h.1.1
 have s1:=xc dV 5000 d.aw (fun r hr=>by
  obtain⟨j,hj,rfl⟩:=sT hr
  have:=(h.2 j hj).1
  rw[eV,fE hj] at this
  exact Rh this)
 simp only[cE,j7];omega
theorem Hw:∀(k i:Nat)(l:List bc)(c:ah),∃t:List bc,LY k i l c=l++t/\t.length<=k/\(1<=k->i=0->1<=t.length)/\∀j,j<t.length->∃d,t.getD j ct=pu (s8.getD (i+j) ai) d
 |0,i,l,c=>⟨[],by simp[LY],by simp,by omega,fun j hj=>by simp at hj⟩
 |k+1,i,l,c=>by
  have hb:=bz (c:=c) (n:=4) (by omega)
  unfold LY
  split
  ·obtain⟨t,h1,h2,_,h4⟩:=Hw k (i+1) (l++[pu (s8.getD i ai) (aa c 4)]) (pb (aa c 4))
   refine⟨pu (s8.getD i ai) (aa c 4)::t,by rw[h1,xU];rfl,by simp only[fP];omega,fun _ _=>by simp only[fP];omega,fun j hj=> ?_⟩
   cases j with
   |zero=>exact⟨aa c 4,rfl⟩
   |succ j=>
    obtain⟨d,hd⟩:=h4 j (by simp only[fP] at hj;omega)
    exact⟨d,by rw[show i+(j+1)=i+1+j by omega];exact hd⟩
  ·rename_i h
   exact⟨[],by simp,by simp,fun _ hi=>by omega,fun j hj=>by simp at hj⟩
theorem Pk:∀j,j<4->bu (s8.getD j ai)=true:=by decide
theorem Pl:∀j,j<4->∀k,k<j->¬s8.getD k ai=s8.getD j ai:=by decide
theorem y7(c:ah):f_ (cG c)=true:=by
 obtain⟨t,h1,h2,h3,h4⟩:=Hw 4 0 [] (ck c Bi)
 have e:(cG c).aw=t:=h1
 have hn:bu (cG c).Name=true:=eE c (l:=Bi) bu (by decide) (by rfl)
 simp only[f_,cN,decide_eq_true_eq,gb,jC,hn,e,true_and]
 have h3:=h3 (by omega) rfl
 refine⟨⟨by omega,by omega⟩,fun j hj=> ?_⟩
 obtain⟨d,hd⟩:=h4 j hj
 rw[vB] at hd
 refine⟨by rw[hd];exact KO (Pk j (by omega)) d,?_⟩
 refine gx (i:=j) hj (by simp) (fun k hk=>decide_eq_false fun e=> ?_)
 obtain⟨d',Ck⟩:=h4 k (by omega)
 rw[vB] at Ck
 rw[hd,Ck] at e
 exact Pl j (by omega) k hk e
theorem Fx(c:ah):(∀r,r∈(cG c).aw->mZ r/\nZ r)/\(cG c).aw.length<=12/\cE (cG c)<=61000:=
 ⟨(v_ (y7 c)).1,(v_ (y7 c)).2,ae1 (y7 c)⟩
theorem tI{f:aL}{w:BA}{v:a_}(hf:bu f.Kind=true)(hw:bR ⟨2,0,w⟩=true)(hv:bR v=true):bE (mV f w v)=true:=by
 simp only[bE,mV,QV,QS,hf,hw,hv];rfl
theorem vN{f:aL}(h:bE f=true):bu f.Kind=true:=by
 simp only[bE,cN] at h;exact h.1.1
theorem UO(ok:Bool):bR ⟨2,0,Ks ok⟩=true:=by cases ok<;>rfl
theorem NK:bR ⟨2,0,TB⟩=true:=by rfl
def wX:a_:=⟨1,0,ai⟩
theorem EQ:bR wX=true:=by rfl
theorem Fy{d:br}{x:aq}(h:coreX d x){l:List ao}(hl:aN l=true):coreX d (qR x l):=⟨h.pK,h.store,hl,h.timers,h.ov,h.now,h.Km,h.b_⟩
theorem Pq{d:br}{x:aq}(h:coreX d x)(hs:x.State=1\/x.State=3\/x.State=5){k:Nat}(hk:k<x.aj.length)(ok:Bool){v:a_}(hv:bR v=true):cO d (GH x k ok v):=by
 by_cases h1:x.State=1
 ·rw[OU h1]
  have ht:=(gj.1 (mA h.ij hk)).1
  have hf:=tI (vN ht) (UO ok) hv
  split
  ·split
   ·rename_i hp
    have hg:=Fi h.good (t:=x.aj.getD k aC) hp
    exact gK (x:=D8 x (cV x.ax (x.aj.getD k aC)).1) ⟨h.pK,h.store,h.ij,h.timers,hg.2.1,h.now,h.Km,h.b_⟩ h1 hf
   ·exact mB h (.inl rfl)
  ·exact gK h h1 hf
 ·rw[GH,if_pos h1]
  exact pV h (by omega)
theorem KT{d:br}{x:aq}(h:cO d x)(key:BA)(ok:Bool){v:a_}(hv:bR v=true):cO d (ke x key ok v).1:=by
 unfold ke
 split
 ·rename_i h1
  have hl:=KU h1
  exact Pq (Fy h.tocoreX (rJ h.ij)) (show x.State=1\/x.State=3\/x.State=5 from EX (pO.2 h) h1) (k:=(aU (bC x.aj key ok v).1 key).toNat) (by show _<(bC x.aj key ok v).1.length;omega) ok hv
 ·exact h
theorem G3(x:aq):(gZ x).cd=x.cd:=by unfold gZ;split<;>rfl
theorem yt(x:aq)(st:Int):(fX x st).cd=x.cd:=G3 _
theorem Le(x:aq):(oJ x).cd=x.cd:=G3 _
theorem sf(x:aq)(f:aL):(cJ x f).cd=x.cd:=by
 unfold cJ;split
 ·exact yt _ _
 ·rfl
theorem Nb(x:aq)(e:di):(hZ x e).cd=x.cd:=by
 unfold hZ Hv N3 HU
 repeat' split
 all_goals first
  |exact sf _ _
  |exact yt _ _
  |rfl
theorem Bp:∀(l:List di)(x:aq),(j6 l x).cd=x.cd
 |[],_=>rfl
 |e::l,x=>by
  rw[j6];split
  ·rw[Bp l,Nb]
  ·rfl
theorem R0(d:br)(x:aq)(m:av):(qg d x m).cd=x.cd:=by
 unfold qg;split
 ·rw[Bp];rfl
 ·exact yt _ _
theorem PI(x:aq)(key:BA)(ok:Bool)(v:a_):(ke x key ok v).1.cd=x.cd:=by
 unfold ke;split
 ·show(GH _ _ _ _).cd=_
  unfold GH
  repeat' split
  all_goals first
   |exact Le _
   |exact sf _ _
   |exact yt _ _
 ·rfl
def hU:List aI->aq->aq
 |[],x=>x
 |t::l,x=>if x.State=1 then hU l (cJ x t.F) else x
theorem yg{d:br}:∀{l:List aI}{x:aq},cO d x->(∀t∈l,bE t.F=true)->cO d (hU l x)
 |[],_,h,_=>h
 |t::l,x,h,hl=>by
  rw[hU];split
  ·rename_i hs
   exact yg (gK h.tocoreX hs (hl t iH)) fun y hy=>hl y (fF _ hy)
  ·exact h
theorem EO:∀(l:List aI)(x:aq),(hU l x).cd=x.cd
 |[],_=>rfl
 |t::l,x=>by
  rw[hU];split
  ·rw[EO l,sf]
  ·rfl
def abW(x:aq)(now:Int):aq:=⟨x.S,x.aA,x.aj,BU now x.ap,x.ax,x.State,now⟩
def aM(x:aq)(now:Int):aq:=if x.State=1 then hU (iQ now x.ap) (abW x now) else D9 x now
def eX(x:aq)(now:Int):aq:=qR x (x.aj.map (dR now))
def dq(st:Int):List aL->aq->aq
 |[],x=>x
 |f::l,x=>if x.State=st then dq st l (if st=1 then cJ x (mV f TB wX) else oJ x) else x
def cj(x:aq)(now:Int):List BA:=x.aj.flatMap (gL now)
def l6(l:List ao)(k:BA):aL:=(l.getD (aU l k).toNat aC).F
def gJ(x:aq)(now:Int):aq:=dq (aM x now).State ((cj (aM x now) now).map (l6 (eX (aM x now) now).aj)) (eX (aM x now) now)
def je(x:aq)(now:Int):List gg:=(aM x now).aj.flatMap (iy now)
theorem Qt{d:br}{x:aq}(h:coreX d x){now:Int}(h0:0<=now)(h1:now<=1000000000):coreX d (D9 x now):=⟨h.pK,h.store,h.ij,h.timers,h.ov,⟨h0,h1⟩,h.Km,h.b_⟩
theorem u6{d:br}{x:aq}(h:cO d x){now:Int}(h0:0<=now)(h1:now<=1000000000):cO d (aM x now):=by
 unfold aM
 split
 ·rename_i hs
  refine yg (j8 ⟨h.pK,h.store,h.ij,rI _ h.timers,h.ov,⟨h0,h1⟩,h.Km,h.b_⟩ hs) fun t ht=> ?_
  have:=(nU.1 h.timers).2.1 t (xR.1 ht).1
  simp only[iq,cN] at this
  exact this.2
 ·exact⟨Qt h.tocoreX h0 h1,h.state,h.ended,h.NZ⟩
theorem PH(x:aq)(now:Int):(aM x now).cd=now:=by
 unfold aM;split
 ·rw[EO];rfl
 ·rfl
theorem Pj{l:List ao}(h:pw l=false)(now:Int):l.map (dR now)=l:=by
 have:∀t∈l,dR now t=t:=fun t ht=>by
  obtain⟨i,hi,rfl⟩:=sT ht
  have:=oT.1 h i hi
  rw[eV,fE hi] at this
  have hd:due now l[i]=false:=by simp only[due];rw[show jw l[i]=false from this];rfl
  rw[dR,hd];rfl
 exact(Pb this).trans (List.map_id' l)
theorem Qo{l:List ao}(h:pw l=false)(now:Int):l.flatMap (gL now)=[]:=by
 rw[List.flatMap_eq_nil_iff]
 intro t ht
 obtain⟨i,hi,rfl⟩:=sT ht
 have:=oT.1 h i hi
 rw[eV,fE hi] at this
 have hd:due now l[i]=false:=by simp only[due];rw[show jw l[i]=false from this];rfl
 rw[gL,hd];rfl
theorem Z5(now:Int)(t:ao):(dR now t).F=t.F:=N6 now t
theorem xw{l:List ao}{now:Int}{k:BA}(h:k∈l.flatMap (gL now)):0<=aU (l.map (dR now)) k/\aU (l.map (dR now)) k<((l.map (dR now)).length:Int):=by
 obtain⟨t,ht,hk⟩:=o8.1 h
 unfold gL at hk
 split at hk
 ·rw[mW] at hk
  obtain⟨i,hi,rfl⟩:=sT ht
  rcases ik (l.map (dR now)).length (fun k'=>decide (bi ((l.map (dR now)).getD k' aC).F=k)) with⟨_,h2⟩|⟨m,g1,g2,_,_⟩
  ·have:=yF (h2 i (by rw[wP];exact hi))
   rw[eV,nS,fE hi] at this
   exact absurd (by rw[hk];exact congrArg bi (Z5 now l[i])) this
  ·have g2:aU (l.map (dR now)) k=m:=g2
   rw[g2];omega
 ·simp at hk
theorem xh{d:br}{x:aq}(h:cO d x){now:Int}(h0:0<=now)(h1:now<=1000000000):cO d (eX x now):=by
 refine⟨Fy h.tocoreX (sX h0 h1 h.ij),h.state,fun g=> ?_,h.NZ⟩
 obtain⟨g1,g2⟩:=h.ended g
 exact⟨by show pw (x.aj.map (dR now))=false;rw[Pj g1];exact g1,g2⟩
theorem yh{d:br}{st:Int}:∀{l:List aL}{x:aq},cO d x->(∀f∈l,bu f.Kind=true)->(l≠[]->st=1\/st=3\/st=5)->cO d (dq st l x)
 |[],_,h,_,_=>h
 |f::l,x,h,hl,hs=>by
  rw[dq];split
  ·rename_i he
   have hs:=hs (by simp)
   refine yh ?_ (fun y hy=>hl y (fF _ hy)) fun _=>hs
   split
   ·rename_i h1
    exact gK h.tocoreX (he.trans h1) (tI (hl f iH) NK EQ)
   ·exact pV h.tocoreX (by omega)
  ·exact h
theorem EP(st:Int):∀(l:List aL)(x:aq),(dq st l x).cd=x.cd
 |[],_=>rfl
 |f::l,x=>by
  rw[dq];split
  ·rw[EP st l]
   split
   ·exact sf _ _
   ·exact Le _
  ·rfl
theorem vX{l:List ao}{now:Int}(h:aN l=true)(h0:0<=now)(h1:now<=1000000000){k:BA}(hk:k∈l.flatMap (gL now)):bE (l6 (l.map (dR now)) k)=true:=by
 obtain⟨a,b⟩:=xw hk
 exact(gj.1 (mA (sX h0 h1 h) (k:=(aU (l.map (dR now)) k).toNat) (by omega))).1
theorem As{d:br}{x:aq}(h:cO d x){now:Int}(hk:cj x now≠[]):x.State=1\/x.State=3\/x.State=5:=by
 by_cases hc:x.State=2\/x.State=4\/x.State=6
 ·exact absurd (Qo (h.ended hc).1 now) hk
 ·have:=h.state;omega
theorem EA{d:br}{x:aq}(h:cO d x){now:Int}(h0:0<=now)(h1:now<=1000000000):cO d (gJ x now):=by
 have hT:=u6 h h0 h1
 refine yh (xh hT h0 h1) (fun f hf=> ?_) fun hn=>As hT (now:=now) (by intro e;rw[e] at hn;exact hn rfl)
 obtain⟨k,hk,rfl⟩:=mz.1 hf
 exact vN (vX hT.ij h0 h1 hk)
theorem Ld(x:aq)(now:Int):(gJ x now).cd=now:=by
 unfold gJ
 rw[EP]
 exact PH x now
def tq:List Int:=[0,1,5,30]
def XS(x:aq)(c:ah):BA:=bi (x.aj.getD (af c x.aj.length).toNat aC).F
def Qp(x:aq)(c:ah):ah:=aa c x.aj.length
def wY(d:br)(x:aq):aq:=match jY d (allM d.aw x.S.ab) x.aA with|some m=>qg d x m|none=>x
def gU(d:br)(x:aq)(c:ah):aq:=
 if af c 8=0\/af c 8=1 then(if x.State=1 then cJ x (cZ (aa c 8)) else x)
 else if af c 8=2\/af c 8=3\/af c 8=4 then(if x.State=1 then wY d x else x)
 else if af c 8=5\/af c 8=6 then(if ng x=true then x else gJ x (x.cd+gS (aa c 8) tq))
 else if 0<x.aj.length then(ke x (XS x (aa c 8)) (!cm (Qp x (aa c 8)) 3) (en (aa (Qp x (aa c 8)) 3))).1 else x
def gV(x:aq)(c:ah):ah:=
 if af c 8=0\/af c 8=1 then(if x.State=1 then c_ (aa c 8) else aa c 8)
 else if af c 8=2\/af c 8=3\/af c 8=4 then aa c 8
 else if af c 8=5\/af c 8=6 then(if ng x=true then aa c 8 else kL (aa c 8) tq)
 else if 0<x.aj.length then gQ (aa (Qp x (aa c 8)) 3) else aa c 8
theorem N1(c:ah):0<=gS c tq/\gS c tq<=30:=by
 have:=sj c (l:=tq) (fun n=>decide (0<=n/\n<=30)) (by decide) (by decide)
 simpa using this
theorem MX{d:br}{x:aq}(h:cO d x)(hs:x.State=1):cO d (wY d x):=by
 unfold wY
 cases hp:jY d (allM d.aw x.S.ab) x.aA with
 |some m=>exact MY h.tocoreX hs (G1 hp)
 |none=>exact h
theorem RZ(d:br)(x:aq):(wY d x).cd=x.cd:=by
 unfold wY
 cases hp:jY d (allM d.aw x.S.ab) x.aA with
 |some m=>exact R0 _ _ _
 |none=>rfl
theorem Bm{d:br}{x:aq}{c:ah}(h:cO d x)(hn:x.cd+30<=1000000000):cO d (gU d x c)/\x.cd<=(gU d x c).cd/\(gU d x c).cd<=x.cd+30:=by
 have ht:=N1 (aa c 8)
 have h0:=h.now.1
 unfold gU
 split
 ·split
  ·rename_i hs
   exact⟨gK h.tocoreX hs (oM _),by rw[sf];omega⟩
  ·exact⟨h,by omega,by omega⟩
 ·split
  ·split
   ·rename_i hs
    exact⟨MX h hs,by rw[RZ];omega⟩
   ·exact⟨h,by omega,by omega⟩
  ·split
   ·split
    ·exact⟨h,by omega,by omega⟩
    ·exact⟨EA h (by omega) (by omega),by rw[Ld];omega⟩
   ·split
    ·exact⟨KT h _ _ (pN _),by rw[PI];omega⟩
    ·exact⟨h,by omega,by omega⟩
theorem HD{x:aq}{c:ah}(h:bm c):bm (gV x c):=by
 have h8:=au h 8
 unfold gV
 repeat' split
 all_goals first
  |exact l9 h8
  |exact iR h8 _
  |exact k_ (au (au h8 _) 3)
  |exact h8
def ol(d:br):Nat->aq->ah->aq
 |0,x,_=>x
 |k+1,x,c=>ol d k (gU d x c) (gV x c)
def tJ(d:br):Nat->aq->ah->ah
 |0,_,c=>c
 |k+1,x,c=>tJ d k (gU d x c) (gV x c)
theorem yi{d:br}:∀{k:Nat}{x:aq}{c:ah},cO d x->x.cd+30*k<=1000000000->cO d (ol d k x c)/\(ol d k x c).cd<=x.cd+30*k
 |0,_,_,h,_=>⟨h,by simp only[ol];omega⟩
 |k+1,x,c,h,hn=>by
  obtain⟨h1,h2,h3⟩:=Bm (c:=c) h (by omega)
  obtain⟨h4,h5⟩:=yi (k:=k) (c:=gV x c) h1 (by omega)
  exact⟨h4,by simp only[ol];omega⟩
theorem FE{d:br}:∀{k:Nat}{x:aq}{c:ah},bm c->bm (tJ d k x c)
 |0,_,_,h=>h
 |k+1,_,_,h=>FE (k:=k) (HD h)
def Av:List Int:=[0,0,7]
def LX(c:ah):aq:=instNew (gS (jB c) Av)
def AQ(c:ah):ah:=kL (jB c) Av
def AP(c:ah)(aK:Int):aq:=ol (cG c) (af (AQ c) aK).toNat (LX c) (aa (AQ c) aK)
def IM(c:ah)(aK:Int):ah:=tJ (cG c) (af (AQ c) aK).toNat (LX c) (aa (AQ c) aK)
def instD(c:ah)(aK:Int):aq:=if(AP c aK).State=1/\cm (IM c aK) 10=true then fX (AP c aK) 5 else AP c aK
def instDC(c:ah)(aK:Int):ah:=if(AP c aK).State=1 then aa (IM c aK) 10 else IM c aK
theorem G8{d:br}{s:List bO}{m:av}(hd:f_ d=true)(h:jb d s m=true):m.eo.length<=3/\m.bw=[]:=by
 simp only[jb,cN,decide_eq_true_eq] at h
 obtain⟨⟨⟨h1,h2⟩,h3⟩,_⟩:=h
 have:=(xe (N9 hd h1)).1.three
 exact⟨by omega,Gl h2⟩
theorem Nz{d:br}{x:aq}(h:coreX d x):fh x.aA<=7000:=by
 have hm:∀m∈x.aA,js m<=6:=fun m hm=>by
  obtain⟨h1,h2⟩:=G8 h.pK (h.b_ m hm)
  simp only[js,h2]
  have e:sa []=0:=rfl
  have e2:r_ m.eo=m.eo.length:=by simp[r_]
  omega
 have:=xc js 6 x.aA hm
 have:=h.Km
 simp only[fh];omega
theorem MP{s:aD}(h:bq s=true):jr s<=6000:=by
 obtain⟨_,h2,h3,_⟩:=ox.1 h
 have:=xc jX 145 s.ab (fun x hx=>(qi (h3 x hx).1).2)
 simp only[jr,bV];omega
theorem EB{d:br}{x:aq}(h:coreX d x):cU x<=50000:=by
 have h1:=MP h.store
 have h2:=Nz h
 have h3:=(sY h.ij).2
 have h4:=(sW h.timers).2
 have h5:=(xb h.ov).2.2
 simp only[cU];omega
theorem KS(c:ah):cO (cG c) (LX c):=by
 have h:=sj (jB c) (l:=Av) (fun n=>decide (0<=n/\n<=7)) (by decide) (by decide)
 have h:=yT h
 have e:LX c=⟨⟨[],1⟩,[],[],[],[],1,gS (jB c) Av⟩:=by unfold LX instNew;rw[if_pos (by omega)]
 rw[e]
 exact j8 ⟨y7 c,rfl,rfl,rfl,rfl,⟨h.1,by show gS (jB c) Av<=1000000000;omega⟩,by simp,by simp⟩ rfl
theorem Q0(c:ah):(LX c).cd<=7:=by
 have h:=sj (jB c) (l:=Av) (fun n=>decide (0<=n/\n<=7)) (by decide) (by decide)
 have h:=yT h
 unfold LX instNew
 rw[if_pos (by omega)];exact h.2
theorem Rn{c:ah}{m:Int}(hm:m<=1000):cO (cG c) (AP c m)/\(AP c m).cd<=31000:=by
 have hb:(af (AQ c) m).toNat<=1000:=by
  by_cases h:0<m
  ·have:=bz (c:=AQ c) h;omega
  ·unfold af;rw[if_pos (by omega)];decide
 have h0:=Q0 c
 have:=yi (k:=(af (AQ c) m).toNat) (c:=aa (AQ c) m) (KS c) (by omega)
 exact⟨this.1,by have:=this.2;simp only[AP];omega⟩
theorem OK{c:ah}(h:bm c):bm (AQ c):=iR (zg h) _
theorem WH{c:ah}(h:bm c)(m:Int):bm (IM c m):=FE (au (OK h) _)
theorem EC{c:ah}{m:Int}(hm:m<=1000):cO (cG c) (instD c m):=by
 have h:=(Rn (c:=c) hm).1
 unfold instD;split
 ·exact mB h.tocoreX (.inr rfl)
 ·exact h
theorem HB{c:ah}(h:bm c)(m:Int):bm (instDC c m):=by
 have:=WH h m
 unfold instDC;split
 ·exact au this 10
 ·exact this
def aaO(c:ah):Int:=1+af c 3
def PN(c:ah):ah:=aa c 3
def lG(c:ah):av:=⟨af c 3,mP aaO PN (af (aa c 3) 4).toNat [] (aa (aa c 3) 4),[]⟩
def oh(c:ah):ah:=p_ PN (af (aa c 3) 4).toNat (aa (aa c 3) 4)
theorem OJ{c:ah}(h:bm c):bm (PN c):=au h 3
theorem NJ{c:ah}(h:bm c):bm (oh c):=sB (fun _=>OJ) (au (au h _) _)
def efD(code:List Int):br:=cG (iA code)
def ae0(code:List Int):ah:=jB (iA code)
def aeZ(code:List Int):List av:=allM (efD code).aw (df (ae0 code)).ab
def an8(code:List Int):ah:=pG (ae0 code)
def an7(code:List Int):ah:=oh (an8 code)
def abV(code:List Int):Prop:=0<(aeZ code).length/\cm (an7 code) 5=false
instance (code:List Int):Decidable (abV code):=instDecidableAnd
theorem aqu{a a':av}{d d':ah}(h1:a=a')(h2:d=d'):fG [DV.agg [CI a.cL,.sl .int a.eo,.sl .cw a.bw]]=fG [DV.agg [CI a'.cL,.sl .int a'.eo,.sl .cw a'.bw]]/\fG [DV.box [.sl .byte d.b,CI d.i,CI d.h]]=fG [DV.box [.sl .byte d'.b,CI d'.i,CI d'.h]]:=by
 subst h1 h2;exact⟨rfl,rfl⟩
def afX:=bW (α:=ah) (q1 qU) [.box false] (fun c=>[bm c]) (fun c=>⟨[dA .aB (lG c)],[],[dU (oh c)]⟩)
def JX(c:ah):Int×T8×T8×T4×Unit->Prop:=fun(i,q,m,cu,_)=>m.1=af c 3/\m.2.2.1=[]/\0<=i/\i<=3/\m.2.1.length+i<=3/\bm ⟨cu.1,cu.2.1,cu.2.2.1⟩/\mP aaO PN i.toNat m.2.1 ⟨cu.1,cu.2.1,cu.2.2.1⟩=(lG c).eo/\p_ PN i.toNat ⟨cu.1,cu.2.1,cu.2.2.1⟩=oh c
def Ji(c:ah):Int×T8×T8×T4×Unit->Nat:=fun(i,q,m,cu,_)=>i.toNat
def aqb:AX afX:=fun c=>bS [(3,aT [iI 4,.box 2 (2,1024) [.lit (.int .i64),.own .int true,.own .cw true],.box 3 (3,1024) [.lit (.int .i64),.own .int true,.own .cw true],.box 0 (2000000,0) [.shr .byte,.lit (.int .i64),.lit (.int .i64)]] (fun _=>JX c) (Ji c))]
def apm:HH:=hF afX func48 [nE] aqb fun(c:ah) hp hb=>by
 have bo:bm c:=hp _ m0
 clear hp hb
 apply vE (let x0:=aa (aa c 3) 4;let q0:=Int×List Int×List bT×PUnit;let q1:=aa c 3;0<=c.i/\L4 c.b.length/\0<=q1.i/\L4 q1.b.length/\JX c (af q1 4,(0,[],[],()),(af c 3,[],[],()),(x0.b,x0.i,x0.h,()),())/\∀(y:Int×q0×q0×O9×PUnit),let x3:={b:=y.2.2.2.1.1,i:=y.2.2.2.1.2.1,h:=y.2.2.2.1.2.2.1:ah};let x1:=aa x3 3;let x2:=[wrap i64 (1+af x3 3)];let q2:=(wrap i64 (y.1-1),(y.2.1.1,y.2.1.2.1,y.2.1.2.2.1,()),(y.2.2.1.1,y.2.2.1.2.1++x2,y.2.2.1.2.2.1,()),(x1.b,x1.i,x1.h,()),());JX c y->bif decide (y.1>0) then 0<=y.2.2.2.1.2.1/\L4 y.2.2.2.1.1.length/\L4 (y.2.2.1.2.1.length+x2.length)/\JX c q2/\Ji c q2<Ji c y else LM [DV.agg [CI y.2.2.1.1,CL .int y.2.2.1.2.1,CL .cw y.2.2.1.2.2.1]] [DV.agg [CI ((lG c).cL),CL .int (lG c).eo,CL .cw (lG c).bw]] [DV.box [CL .byte y.2.2.2.1.1,CI y.2.2.2.1.2.1,CI y.2.2.2.1.2.2.1]] [bU (oh c)])
 dsimp only
 have h3:=au bo 3
 have hb:=bz (c:=aa c 3) (n:=4) (by omega)
 refine⟨bo.1,bo.2,h3.1,h3.2,⟨rfl,rfl,by omega,by omega,by simp only[fz];omega,au h3 4,rfl,rfl⟩,?_⟩
 rintro⟨i,⟨q1,q2,q3,⟨⟩⟩,⟨m1,m2,m3,⟨⟩⟩,⟨cb,ci,ch,⟨⟩⟩,⟨⟩⟩ ⟨e1,e2,g1,g2,g3,g4,g5,g6⟩
 simp only at e1 e2 g1 g2 g3 g4 g5 g6⊢
 subst e1 e2
 refine aR ?_ ?_<;>intro hc
 ·have hd:=bz (c:=⟨cb,ci,ch⟩) (n:=3) (by omega)
  have e:i.toNat=(i-1).toNat+1:=by omega
  rw[e] at g5 g6
  rw[wi (n:=1+af ⟨cb,ci,ch⟩ 3),wi (n:=i-1)]
  exact⟨g4.1,g4.2,by simp only[fP,fz];omega,⟨rfl,rfl,by omega,by omega,by simp only[kF,fP,fz];omega,OJ g4,g5,g6⟩,by simp only[Ji];omega⟩
 ·have e:i.toNat=0:=by omega
  rw[e] at g5 g6
  have g5:m2=(lG c).eo:=g5
  have g6:(⟨cb,ci,ch⟩:ah)=oh c:=g6
  exact⟨by trivial,aqu (a:=⟨af c 3,m2,[]⟩) (a':=lG c) (d:=⟨cb,ci,ch⟩) (d':=oh c) (by rw[g5];rfl) g6⟩
def uv:List BA:=[⟨#[]⟩,⟨#[65]⟩,⟨#[120]⟩]
def Rg:List BA:=[⟨#[]⟩,⟨#[120]⟩,⟨#[88]⟩]
def UZ:List BA:=[⟨#[]⟩,⟨#[42]⟩]
def pa:List BA:=[⟨#[114,49]⟩,⟨#[114,50]⟩,⟨#[115,104,105,112]⟩]
def Pn:List BA:=[⟨#[]⟩,⟨#[65]⟩]
def V0:List Int:=[-1,7,8,100001]
def VZ:List Int:=[-101,101,100]
def Sh:List Int:=[0,1,1000000,1000001]
noncomputable def mR(l:List cM)(c:ah):List cM×ah:=if h:(l.length:Int)<5+af c 2 then mR (l++[io (aa c 2)]) (im (aa c 2)) else(l,aa c 2)
termination_by 6-l.length
decreasing_by
 have:=bz (c:=c) (n:=2) (by omega)
 simp only[kF,fP,fz];omega
theorem Hj{l:List cM}{c:ah}(h:(l.length:Int)<5+af c 2):mR l c=mR (l++[io (aa c 2)]) (im (aa c 2)):=by rw[mR,dif_pos h]
theorem LJ{l:List cM}{c:ah}(h:¬(l.length:Int)<5+af c 2):mR l c=(l,aa c 2):=by rw[mR,dif_neg h]
theorem LI{l:List cM}{c:ah}(hc:bm c)(h:∀a∈l,ga a=true)(hl:l.length<=6):bm (mR l c).2/\(∀a∈(mR l c).1,ga a=true)/\(mR l c).1.length<=6:=by
 have hb:=bz (c:=c) (n:=2) (by omega)
 by_cases hn:(l.length:Int)<5+af c 2
 ·rw[Hj hn]
  refine LI (rr (au hc 2)) (fun a ha=> ?_) (by simp only[kF,fP,fz];omega)
  rcases jI.1 ha with ha|ha
  ·exact h a ha
  ·rw[mW.1 ha];exact zm _
 ·rw[LJ hn];exact⟨au hc 2,h,hl⟩
termination_by 6-l.length
decreasing_by
 simp only[kF,fP,fz];omega
def uK(c:ah):cr:=pH (cm c 3) (aa c 3)
def paC(c:ah):ah:=jE (aa c 3)
def paK(c:ah):Int:=af (paC c) 10
def Ge(c:ah):ah:=aa (paC c) 10
def paA(c:ah):cM:=⟨af (Ge c) 5,cD (aa (Ge c) 5) Rg,dK⟩
def tg(c:ah):cr:=if paK c=0 then⟨cD (Ge c) uv,(uK c).ay,(uK c).Not⟩ else if paK c=1 then⟨(uK c).Kind,(uK c).ay++[paA c],(uK c).Not⟩ else if paK c=2 then⟨(uK c).Kind,(mR (uK c).ay (Ge c)).1,(uK c).Not⟩ else uK c
def rc(c:ah):ah:=if paK c=0 then ck (Ge c) uv else if paK c=1 then ck (aa (Ge c) 5) Rg else if paK c=2 then(mR (uK c).ay (Ge c)).2 else Ge c
theorem xl{p:cr}(h:gB p=true):p.ay.length<=5/\∀a∈p.ay,ga a=true:=by
 simp only[gB,cN,decide_eq_true_eq,sP] at h
 exact⟨h.1.2,h.2⟩
theorem IR{c:ah}(h:bm c):bm (Ge c):=au (qn (au h 3)) 10
theorem LH{c:ah}(h:bm c):bm (mR (uK c).ay (Ge c)).2/\(∀a∈(mR (uK c).ay (Ge c)).1,ga a=true)/\(mR (uK c).ay (Ge c)).1.length<=6:=by
 have hp:=xl (yp (cm c 3) (aa c 3))
 exact LI (IR h) hp.2 (by have:=hp.1;simp only[uK];omega)
theorem Tp{c:ah}(h:bm c):bm (rc c):=by
 have he:=IR h
 unfold rc
 split
 ·exact dQ he _
 ·split
  ·exact dQ (au he 5) _
  ·split
   ·exact(LH h).1
   ·exact he
theorem TE{l:List cM}{B:Nat}(h:∀a∈l,fv a<=B):uY l<=l.length*(B+1):=by
 have:=xc fv B l h
 simp only[uY,Nat.mul_add];omega
theorem IV(c:ah):(cD c uv).size<=1:=by
 have:=eE c (l:=uv) (fun s=>decide (s.size<=1)) (by decide) (by rfl)
 simpa using this
theorem WL(c:ah):(cD c Rg).size<=1:=by
 have:=eE c (l:=Rg) (fun s=>decide (s.size<=1)) (by decide) (by rfl)
 simpa using this
theorem WK(c:ah):(cD c UZ).size<=1:=by
 have:=eE c (l:=UZ) (fun s=>decide (s.size<=1)) (by decide) (by rfl)
 simpa using this
theorem WJ(c:ah):(cD c Pn).size<=1:=by
 have:=eE c (l:=Pn) (fun s=>decide (s.size<=1)) (by decide) (by rfl)
 simpa using this
theorem PD{c:ah}(h:bm c):kq (tg c)<=600:=by
 have hp:=yp (cm c 3) (aa c 3)
 obtain⟨h1,h2⟩:=xl hp
 have h3:(uK c).Kind.size<=12:=by simp only[gB,cN] at hp;exact Lk hp.1.1
 have hb:∀a∈(uK c).ay,fv a<=40:=fun a ha=>NL (h2 a ha)
 have h4:=TE hb
 have h1:(uK c).ay.length<=5:=h1
 unfold tg
 repeat' split
 ·have:=IV (Ge c);simp only[kq];omega
 ·have:=WL (aa (Ge c) 5)
  have hA:fv (paA c)<=40:=by simp only[paA,fv];have:od dK=0:=rfl;omega
  have:=TE (l:=(uK c).ay++[paA c]) (B:=40) (fun a ha=>by
   rcases jI.1 ha with ha|ha
   ·exact hb a ha
   ·rw[mW.1 ha];exact hA)
  simp only[kF,fP,fz] at this
  simp only[kq];omega
 ·obtain⟨g1,g2,g3⟩:=LH h
  have:=TE (B:=40) (fun a ha=>NL (g2 a ha))
  simp only[kq];omega
 ·simp only[kq];omega
def MH(c:ah):dy:=ze c
def coK(c:ah):Int:=af (rQ c) 8
def Kn(c:ah):ah:=aa (rQ c) 8
def ku(c:ah):dy:=if coK c=0 then⟨af (Kn c) 6,(MH c).L,(MH c).R⟩ else if coK c=1 then⟨(MH c).Op,io (Kn c),(MH c).R⟩ else if coK c=2 then⟨(MH c).Op,(MH c).L,⟨af (Kn c) 5,ai,dK⟩⟩ else MH c
def nb(c:ah):ah:=if coK c=0 then aa (Kn c) 6 else if coK c=1 then im (Kn c) else if coK c=2 then aa (Kn c) 5 else Kn c
theorem OL{c:ah}(h:bm c):bm (Kn c):=au (AU h) 8
theorem Qy{c:ah}(h:bm c):bm (nb c):=by
 have he:=OL h
 unfold nb
 repeat' split
 all_goals first
  |exact au he _
  |exact rr he
  |exact he
theorem Ni(c:ah):oy (ku c)<=120:=by
 have h1:fv (MH c).L<=40:=uS (ow _)
 have h2:fv (MH c).R<=40:=uS (ow _)
 have h3:fv (io (Kn c))<=40:=NL (zm _)
 have h4:fv (⟨af (Kn c) 5,ai,dK⟩:cM)=0:=rfl
 unfold ku
 repeat' split
 all_goals (simp only[oy];omega)
def pq(c:ah):ez:=xG 2 c
def UI(c:ah):Int:=af (qt 2 c) 10
def FQ(c:ah):ah:=aa (qt 2 c) 10
def QG(c:ah):ah:=ck (FQ c) UZ
def acX(c:ah):cv:=⟨cD (FQ c) UZ,io (QG c),io (im (QG c))⟩
def po(c:ah):ez:=if UI c=0 then⟨af (FQ c) 8,(pq c).Name,(pq c).ay,(pq c).N,(pq c).aW⟩ else if UI c=1 then⟨(pq c).Kind,cD (FQ c) uv,(pq c).ay,(pq c).N,(pq c).aW⟩
 else if UI c=2 then⟨(pq c).Kind,(pq c).Name,(pq c).ay,gS (FQ c) V0,(pq c).aW⟩ else if UI c=3 then⟨(pq c).Kind,(pq c).Name,(pq c).ay,(pq c).N,cD (FQ c) uv⟩
 else if UI c=4 then⟨(pq c).Kind,(pq c).Name,(pq c).ay++[acX c],(pq c).N,(pq c).aW⟩ else pq c
def nP(c:ah):ah:=if UI c=0 then aa (FQ c) 8 else if UI c=1 then ck (FQ c) uv else if UI c=2 then kL (FQ c) V0 else if UI c=3 then ck (FQ c) uv else if UI c=4 then im (im (QG c)) else FQ c
theorem OM{c:ah}(h:bm c):bm (FQ c):=au (zh 2 h) 10
theorem Tt{c:ah}(h:bm c):bm (nP c):=by
 have he:=OM h
 unfold nP
 repeat' split
 all_goals first
  |exact au he _
  |exact dQ he _
  |exact iR he _
  |exact rr (rr (dQ he _))
  |exact he
theorem NB(c:ah):iL (fO c)<=81:=by
 have h1:fv (eu c)<=40:=uS (ow _)
 have h2:∀d,fv (eu d)<=40:=fun d=>uS (ow d)
 have h3:∀d,(cD d Ev).size<=1:=fun d=>by
  have:=eE d (l:=Ev) (fun s=>decide (s.size<=1)) (by decide) (by rfl)
  simpa using this
 unfold fO
 split
 ·have:=h2 (ck (aa (dc c) 4) Ev)
  have:=h3 (aa (dc c) 4)
  simp only[iL];omega
 ·have:fv mX=0:=rfl
  have:ai.size=0:=rfl
  simp only[iL];omega
theorem NA{l:List cv}{B:Nat}(h:∀a∈l,iL a<=B):kS l<=l.length*(B+1):=by
 have:=xc iL B l h
 simp only[kS,Nat.mul_add];omega
theorem Mj(c:ah):hJ (pq c)<=200/\(pq c).Name.size<=6/\(pq c).aW.size<=6/\(∀a∈(pq c).ay,iL a<=81)/\(pq c).ay.length<=2:=by
 have h1:(iv c).size<=6:=by
  have:=eE (kL c qa) (l:=HX) (fun s=>decide (s.size<=6)) (by decide) (by rfl)
  exact yT this
 have h2:(uG c).size<=6:=by
  unfold uG
  split
  ·have:=eE (aa (oW c) 2) (l:=ra) (fun s=>decide (s.size<=6)) (by decide) (by rfl)
   simpa using this
  ·exact Nat.zero_le _
 have h3:∀a∈nv c,iL a<=81:=nW (fun a=>iL a<=81) NB _ _ _ (by simp)
 have h4:=A0 c
 have h5:=NA h3
 have h6:kS []=0:=rfl
 have h7:ai.size=0:=rfl
 unfold pq xG
 split
 ·exact⟨by simp only[hJ];omega,by rw[h7];omega,by rw[h7];omega,by simp,by simp⟩
 ·split
  ·exact⟨by simp only[hJ];omega,by rw[h7];omega,by rw[h7];omega,by simp,by simp⟩
  ·exact⟨by simp only[hJ];omega,h1,h2,h3,h4⟩
theorem QF(c:ah):hJ (po c)<=400:=by
 obtain⟨h1,h2,h3,h4,h5⟩:=Mj c
 have hs:=NA h4
 have e1:=IV (FQ c)
 unfold po
 split
 ·simp only[hJ];omega
 ·split
  ·simp only[hJ];omega
  ·split
   ·simp only[hJ];omega
   ·split
    ·simp only[hJ];omega
    ·split
     ·have hx:iL (acX c)<=81:=by
       have g1:fv (io (QG c))<=40:=NL (zm _)
       have g2:fv (io (im (QG c)))<=40:=NL (zm _)
       have g3:=WK (FQ c)
       simp only[acX,iL];omega
      have:=NA (l:=(pq c).ay++[acX c]) (B:=81) (fun a ha=>by
       rcases jI.1 ha with ha|ha
       ·exact h4 a ha
       ·rw[mW.1 ha];exact hx)
      simp only[kF,fP,fz] at this
      simp only[hJ];omega
     ·omega
def nq(r:bc)(c:ah):bc:=
 if af c 10=0 then⟨cD (aa c 10) uv,r.jp,r.aH,r.aV,r.bH⟩ else if af c 10=1 then⟨r.Name,gS (aa c 10) VZ,r.aH,r.aV,r.bH⟩
 else if af c 10=2 then⟨r.Name,r.jp,r.aH++[tg (aa c 10)],r.aV,r.bH⟩ else if af c 10=3 then⟨r.Name,r.jp,r.aH,r.aV++[ku (aa c 10)],r.bH⟩
 else if af c 10=4 then⟨r.Name,r.jp,r.aH,r.aV,r.bH++[po (aa c 10)]⟩ else if af c 10=5 then⟨r.Name,r.jp,r.aH.modify 0 (fun p=>⟨p.Kind,p.ay,true⟩),r.aV,r.bH⟩
 else if af c 10=6 then⟨r.Name,r.jp,r.aH,r.aV,[]⟩ else r
def gY(c:ah):ah:=
 if af c 10=0 then ck (aa c 10) uv else if af c 10=1 then kL (aa c 10) VZ else if af c 10=2 then rc (aa c 10) else if af c 10=3 then nb (aa c 10)
 else if af c 10=4 then nP (aa c 10) else aa c 10
theorem HE{c:ah}(h:bm c):bm (gY c):=by
 have he:=au h 10
 unfold gY
 split
 ·exact dQ he _
 ·split
  ·exact iR he _
  ·split
   ·exact Tp he
   ·split
    ·exact Qy he
    ·split
     ·exact Tt he
     ·exact he
theorem rZ{α:Type}(f:α->Nat)(l:List α)(a:α):(l++[a]).length+((l++[a]).map f).sum=(l.length+(l.map f).sum)+(1+f a):=by
 simp only[kF,Ko,Zy,fP,fz,wH,List.map_nil,MI,List.sum_nil];omega
theorem FI{r:bc}{c:ah}(h:bm c):dV (nq r c)<=dV r+700:=by
 have he:=au h 10
 unfold nq
 split
 ·have:=IV (aa c 10);simp only[dV];omega
 ·split
  ·simp only[dV];omega
  ·split
   ·have h1:=PD he
    have h2:kJ (r.aH++[tg (aa c 10)])=kJ r.aH+(1+kq (tg (aa c 10))):=rZ kq _ _
    simp only[dV];omega
   ·split
    ·have h1:=Ni (aa c 10)
     have h2:vJ (r.aV++[ku (aa c 10)])=vJ r.aV+(1+oy (ku (aa c 10))):=rZ oy _ _
     simp only[dV];omega
    ·split
     ·have h1:=QF (aa c 10)
      have h2:sb (r.bH++[po (aa c 10)])=sb r.bH+(1+hJ (po (aa c 10))):=rZ hJ _ _
      simp only[dV];omega
     ·split
      ·have h2:kJ (r.aH.modify 0 (fun p=>⟨p.Kind,p.ay,true⟩))=kJ r.aH:=by
        simp only[kJ,Kk]
        rw[pc kq (fun p=>⟨p.Kind,p.ay,true⟩) (fun x=>rfl)]
       simp only[dV];omega
      ·split
       ·have h2:sb []=0:=rfl
        simp only[dV];omega
       ·omega
def lV(c:ah):bc:=if cm (pb (ck c pa)) 3=true then nq (pu (cD c pa) (ck c pa)) (aa (pb (ck c pa)) 3) else pu (cD c pa) (ck c pa)
def rK(c:ah):ah:=if cm (pb (ck c pa)) 3=true then gY (aa (pb (ck c pa)) 3) else aa (pb (ck c pa)) 3
theorem Qx{c:ah}(h:bm c):bm (rK c):=by
 have he:=au (zf (dQ h pa)) 3
 unfold rK
 split
 ·exact HE he
 ·exact he
theorem KP(c:ah):fR (pu (cD c pa) (ck c pa))=true:=KO (by
 have:=eE c (l:=pa) (fun s=>bu s) (by decide) (by rfl)
 exact this) _
theorem MR{c:ah}(h:bm c):dV (lV c)<=5700:=by
 have he:=au (zf (dQ h pa)) 3
 have h1:=Rh (KP c)
 unfold lV
 split
 ·have:=FI (r:=pu (cD c pa) (ck c pa)) he;omega
 ·omega
def deK(c:ah):Int:=af (jB c) 10
def Hx(c:ah):ah:=aa (jB c) 10
def uF(c:ah):br:=if deK c=0 then⟨cD (Hx c) Pn,(cG c).aw⟩ else if deK c=1 then⟨(cG c).Name,(cG c).aw++[lV (Hx c)]⟩ else if deK c=2 then⟨(cG c).Name,(cG c).aw.set 0 (nq ((cG c).aw.getD 0 ct) (Hx c))⟩ else if deK c=3 then⟨(cG c).Name,[]⟩ else cG c
def pA(c:ah):ah:=if deK c=0 then ck (Hx c) Pn else if deK c=1 then rK (Hx c) else if deK c=2 then gY (Hx c) else Hx c
theorem IS{c:ah}(h:bm c):bm (Hx c):=au (zg h) 10
theorem Tq{c:ah}(h:bm c):bm (pA c):=by
 have he:=IS h
 unfold pA
 split
 ·exact dQ he _
 ·split
  ·exact Qx he
  ·split
   ·exact HE he
   ·exact he
theorem Fw(c:ah):1<=(cG c).aw.length/\(cG c).aw.length<=12/\∀r∈(cG c).aw,fR r=true:=by
 have h:=y7 c
 simp only[f_,cN,decide_eq_true_eq] at h
 refine⟨h.1.2.1,h.1.2.2,fun r hr=> ?_⟩
 obtain⟨i,hi,rfl⟩:=sT hr
 have:=gb.1 h.2 i hi
 simp only[jC,cN] at this
 rw[eV,fE hi] at this
 exact this.1
theorem Ph{α:Type}(f:α->Nat)(l:List α)(a:α):((l.set 0 a).map f).sum<=(l.map f).sum+f a:=by
 cases l with
 |nil=>simp
 |cons x l=>simp only[List.set_cons_zero,wH,MI];omega
theorem Qr{c:ah}(h:bm c):cE (uF c)<=70000:=by
 have he:=IS h
 have h0:=(Fx c).2.2
 unfold uF
 split
 ·have:=WJ (Hx c);simp only[cE] at h0⊢;omega
 ·split
  ·have h1:=MR he
   have h2:j7 ((cG c).aw++[lV (Hx c)])=j7 (cG c).aw+(1+dV (lV (Hx c))):=rZ dV _ _
   simp only[cE] at h0⊢;omega
  ·split
   ·have hr:=Fw c
    have h1:=FI (r:=(cG c).aw.getD 0 ct) he
    have h3:=Rh (hr.2.2 _ (gH (z:=ct) (show 0<(cG c).aw.length by omega)))
    have h2:=Ph dV (cG c).aw (nq ((cG c).aw.getD 0 ct) (Hx c))
    simp only[cE,j7,Mx] at h0⊢;omega
   ·split
    ·have h2:j7 []=0:=rfl
     simp only[cE] at h0⊢;omega
    ·omega
def Mc:BA:=⟨#[102,117,108,108]⟩
def nK(n:Int):aL:=⟨Mc,[⟨1,n,ai⟩]⟩
def uq:Nat->aD->aD
 |0,s=>s
 |k+1,s=>uq k (cK s (nK s.ab.length))
def th(s:aD):Prop:=∀x∈s.ab,∀n:Int,x.F=nK n->n<s.ab.length
theorem Ql{s:aD}(h:th s):kg s.ab (nK s.ab.length)=0:=by
 rcases ik s.ab.length (fun k=>decide ((s.ab.getD k aZ).F=nK s.ab.length)) with⟨g,_⟩|⟨m,g1,g2,g3,_⟩
 ·exact if_pos g
 ·have:=h _ (gH (z:=aZ) g1) _ (yT g3);omega
theorem vl{s:aD}(h:th s):cK s (nK s.ab.length)=⟨s.ab++[⟨s.Next,nK s.ab.length⟩],s.Next+1⟩:=by
 unfold cK;rw[Ql h,if_neg (by omega)]
theorem ER{s:aD}(h:th s):th (cK s (nK s.ab.length)):=by
 rw[vl h]
 intro x hx n hn
 simp only[kF,fP,fz]
 rcases jI.1 hx with hx|hx
 ·have:=h x hx n hn;omega
 ·rw[mW.1 hx] at hn
  simp only[nK,aL.mk.injEq,zdd,a_.mk.injEq] at hn
  omega
theorem uW:∀(k:Nat)(s:aD)(c:ah),(∀x∈s.ab,x.F.Kind≠Mc)->∀x∈(lx k s c).ab,x.F.Kind≠Mc
 |0,_,_,h=>h
 |k+1,s,c,h=>by
  rw[lx];split
  ·exact uW k _ _ fun x hx=>h x (xR.1 hx).1
  ·refine uW k _ _ ?_
   unfold cK;split
   ·exact h
   ·intro x hx
    rcases jI.1 hx with hx|hx
    ·exact h x hx
    ·rw[mW.1 hx]
     have:=eE (aa c 5) (l:=cX) (fun s=>decide (s≠Mc)) (by decide) (by decide)
     exact yT this
theorem wS(c:ah):th (df c):=by
 intro x hx n hn
 exact absurd (congrArg aL.Kind hn) (uW _ ⟨[],1⟩ _ (by simp) x hx)
def stK(c:ah):Int:=af (pG c) 12
def KI(c:ah):ah:=aa (pG c) 12
noncomputable def ly(c:ah):aD:=if stK c=0 then⟨(df c).ab,gS (KI c) Sh⟩ else if stK c=1 then⟨(df c).ab++[⟨af (KI c) 9,pk (aa (KI c) 9)⟩],(df c).Next⟩ else if stK c=2 then uq (40-(df c).ab.length) (df c) else df c
noncomputable def kp(c:ah):ah:=if stK c=0 then kL (KI c) Sh else if stK c=1 then kz (aa (KI c) 9) else KI c
theorem OD{c:ah}(h:bm c):bm (KI c):=au (FC h) 12
theorem NI{c:ah}(h:bm c):bm (kp c):=by
 have he:=OD h
 unfold kp
 split
 ·exact iR he _
 ·split
  ·exact FF (au he 9)
  ·exact he
def KN(s:aD):Prop:=∀x∈s.ab,dh x.F<=145
theorem Bj{s:aD}{f:aL}(h:KN s)(hf:dh f<=145):KN (cK s f):=by
 unfold cK;split
 ·exact h
 ·intro x hx
  rcases jI.1 hx with hx|hx
  ·exact h x hx
  ·rw[mW.1 hx];exact hf
theorem u4:∀(k:Nat)(s:aD)(c:ah),KN s->KN (lx k s c)
 |0,_,_,h=>h
 |k+1,s,c,h=>by
  rw[lx];split
  ·exact u4 k _ _ fun x hx=>h x (xR.1 hx).1
  ·exact u4 k _ _ (Bj h (qi (oM _)).2)
theorem LG:∀(k:Nat){s:aD},th s->KN s->s.ab.length+k<=40->KN (uq k s)/\(uq k s).ab.length<=40
 |0,s,_,h,hl=>⟨h,by simp only[uq];omega⟩
 |k+1,s,hn,h,hl=>by
  have e:=vl hn
  refine LG k (ER hn) (Bj h (by show Mc.size+eG [⟨1,_,ai⟩]<=145;exact(by decide:(4+(1+0):Nat)<=145))) ?_
  rw[e];simp only[kF,fP,fz];omega
theorem yW{s:aD}(h:KN s)(hl:s.ab.length<=40):jr s<=6000:=by
 have:=xc jX 145 s.ab (fun x hx=>h x hx)
 simp only[jr,bV];omega
theorem KH{c:ah}(h:bm c):jr (ly c)<=6000:=by
 have h1:=Eo c
 have h2:KN (df c):=u4 _ _ _ (by intro x hx;simp at hx)
 unfold ly
 split
 ·exact yW (s:=⟨(df c).ab,gS (KI c) Sh⟩) h2 (by show(df c).ab.length<=40;omega)
 ·split
  ·refine yW (fun x hx=> ?_) (by simp only[kF,fP,fz];omega)
   rcases jI.1 hx with hx|hx
   ·exact h2 x hx
   ·rw[mW.1 hx];exact yV (FN _)
  ·split
   ·obtain⟨g1,g2⟩:=LG (40-(df c).ab.length) (wS c) h2 (by omega)
    exact yW g1 g2
   ·exact yW h2 (by omega)
def OV(c:ah)(m:Int):Int:=af (instDC c m) 16
def wx(c:ah)(m:Int):ah:=aa (instDC c m) 16
def Ip:List Int:=[-1,1000000000,1000000001]
noncomputable def instA(c:ah)(m:Int):aq:=
 if OV c m=0 then⟨(instD c m).S,(instD c m).aA,(instD c m).aj,(instD c m).ap,(instD c m).ax,af (wx c m) 8,(instD c m).cd⟩
 else if OV c m=1 then D9 (instD c m) (gS (wx c m) Ip)
 else if OV c m=2 then qT (instD c m) (ly (wx c m))
 else if OV c m=3 then qR (instD c m) (sG (wx c m))
 else if OV c m=4 then D8 (instD c m) (sF (wx c m))
 else if OV c m=5 then D_ (instD c m) ((instD c m).aA++[lG (wx c m)])
 else instD c m
def pL(c:ah)(m:Int):br:=if OV c m=6 then uF (wx c m) else cG c
noncomputable def instAC(c:ah)(m:Int):ah:=
 if OV c m=0 then aa (wx c m) 8 else if OV c m=1 then kL (wx c m) Ip else if OV c m=2 then kp (wx c m) else if OV c m=3 then pC (wx c m)
 else if OV c m=4 then nN (wx c m) else if OV c m=5 then oh (wx c m) else if OV c m=6 then pA (wx c m) else wx c m
theorem QA{l:List Int}{p:Int->Bool}{i:Int}(h0:0<=i)(h:i<l.length):(l.drop i.toNat).any p=(p (l.getD i.toNat 0)||(l.drop (i+1).toNat).any p):=by
 have e:(i+1).toNat=i.toNat+1:=by omega
 rw[Us (by omega),UK,e,eV,fE (by omega)];rfl
theorem aqt{a a':List av}(h:a=a'):Lf [.one (.sl .aB a)] [.one (.sl .aB a')]:=by subst h;exact aY _
def X2:=bW (α:=(List Int)×Int) (qC (qL .int) (q1 qI)) [.ro,.ro] (fun _=>[]) (fun(l,n)=>⟨[dO (yM l n)],[],[]⟩)
def Dk(l:List Int)(n:Int):Int×Unit->Prop:=fun(i,_)=>0<=i/\i<=l.length/\(l.drop i.toNat).any (fun x=>decide (x=n))=yM l n
def Cz(l:List Int)(n:Int):Int×Unit->Nat:=fun(i,_)=>l.length-i.toNat
def ajB:AX X2:=fun(l,n)=>bS [(2,aT [iI 5] (fun _=>Dk l n) (Cz l n))]
def ahU:HH:=hF X2 func248 [] ajB fun x hp hb=>by
 obtain⟨l,n⟩:=x
 have jQ:L9 l.length:=kG (hb _ m0)
 have anL:=zk (n:=n) (hb _ m1)
 clear hp hb
 apply vE (Dk l n (0,())/\∀(y:Int×PUnit),let q0:=(wrap i64 (y.1+1),());Dk l n y->bif decide (y.1<(l.length:Int)) then 0<=y.1/\y.1.toNat<l.length/\bif l.getD y.1.toNat 0==n then Lb true (yM l n) else Dk l n q0/\Cz l n q0<Cz l n y else Lb false (yM l n))
 dsimp only
 refine⟨⟨by omega,by omega,rfl⟩,?_⟩
 rintro⟨i,⟨⟩⟩ ⟨h1,h2,hR⟩
 simp only
 refine aR ?_ ?_<;>intro hc
 ·rw[QA h1 hc] at hR
  rw[wi]
  refine⟨by omega,by omega,bg (fun g=>nR ?_) (fun g=>⟨⟨by omega,by omega,?_⟩,by simp only[Cz];omega⟩)⟩
  ·rw[<-hR,decide_eq_true g,Bool.true_or]
  ·rw[<-hR,decide_eq_false g,GJ]
 ·rw[cz _ (by omega)] at hR
  exact bD hR.symm
def X8:=bW (α:=(List av)×Int) (qC (qL .aB) (q1 qI)) [.ro,.ro] (fun(l,id)=>[l.length<=4294967295,∀m∈l,m.eo.length<=4294967295/\m.bw.length<=4294967295]) (fun(l,id)=>⟨[dL .aB (yS l id)],[],[]⟩)
def zE(l:List av)(id:Int):List av×Int×Unit->Prop:=fun(out,i,_)=>0<=i/\i<=l.length/\out=(l.take i.toNat).filter (fun m=> !yM m.eo id)
def tP(l:List av)(id:Int):List av×Int×Unit->Nat:=fun(out,i,_)=>l.length-i.toNat
def ajI:AX X8:=fun(l,id)=>bS [(3,aT [iO 5 .aB,iI 6] (fun _=>zE l id) (tP l id))]
def ah5:HH:=hF X8 func234 [ahU,Y1] ajI fun x hp hb=>by
 obtain⟨l,id⟩:=x
 have jQ:L9 l.length:=kG (hb _ m0)
 have Oq:=zk (n:=id) (hb _ m1)
 have bo:l.length<=4294967295:=hp _ m0
 have eJ:∀m∈l,m.eo.length<=4294967295/\m.bw.length<=4294967295:=hp _ m1
 clear hp hb
 apply vE (zE l id ([],0,())/\∀(y:List av×Int×PUnit),let x1:=y.2.1.toNat;let x0:=l.getD x1 aX;let q0:=(y.1++[x0],wrap i64 (y.2.1+1),());let q1:=(y.1,wrap i64 (y.2.1+1),());zE l id y->bif decide (y.2.1<(l.length:Int)) then 0<=y.2.1/\x1<l.length/\bif !yM x0.eo id then 0<=y.2.1/\x1<l.length/\L4 x0.eo.length/\L4 x0.bw.length/\y.1.length+List.length [x0]<=4294967296/\zE l id q0/\tP l id q0<tP l id y else zE l id q1/\tP l id q1<tP l id y else Lf [VL .aB y.1] [VL .aB (yS l id)])
 dsimp only
 refine⟨⟨by omega,by omega,rfl⟩,?_⟩
 rintro⟨out,i,⟨⟩⟩ ⟨h1,h2,rfl⟩
 simp only
 refine aR ?_ ?_<;>intro hc
 ·have hn:i.toNat<l.length:=by omega
  have hs:=mK (fun m:av=> !yM m.eo id) (l:=l) (i:=i.toNat) aX hn
  have e:(i+1).toNat=i.toNat+1:=by omega
  have hm:=eJ _ (gH (z:=aX) hn)
  have hle:=Mw (fun m:av=> !yM m.eo id) (l.take i.toNat)
  rw[oq] at hle
  rw[wi]
  refine⟨by omega,by omega,bx (fun g=> ?_) (fun g=> ?_)⟩
  ·have g':(!yM (l.getD i.toNat aX).eo id)=true:=by rw[show yM (l.getD i.toNat aX).eo id=false from g];rfl
   exact⟨by omega,by omega,by omega,by omega,by simp only[fP,fz];omega,⟨by omega,by omega,by rw[e,hs,if_pos g']⟩,by simp only[tP];omega⟩
  ·have g':¬(!yM (l.getD i.toNat aX).eo id)=true:=by rw[show yM (l.getD i.toNat aX).eo id=true from g];decide
   exact⟨⟨by omega,by omega,by rw[e,hs,if_neg g',uJ]⟩,by simp only[tP];omega⟩
 ·rw[cA l (by omega)]
  exact aqt rfl
def TT:=VP 6 0 (α:=aD×Int) (qC (qX .cQ) (q1 qI)) [.box true,.ro] (fun(s,id)=>[s.ab.length<=1000]) (fun(s,id)=>⟨[dO (decide ((ve s id).ab.length<s.ab.length))],[],[dX .cQ (ve s id)]⟩)
def zL(s:aD)(id:Int):List bO×Int×((List bO×(Nat->Bool))×Int×Value×Value×Value×Value×Value×Value×Unit)×Unit->List bO×Int×((List bO×(Nat->Bool))×Int×Value×Value×Value×Value×Value×Value×Unit)×Unit->Prop:=fun(o0,i0,p0,_) (o,i,p,_)=>p.1.1=s.ab/\p.2.1=s.Next/\p.2.2=p0.2.2/\0<=i/\i<=s.ab.length/\(∀j:Nat,i<=(j:Int)->p.1.2 j=false)/\o=(s.ab.take i.toNat).filter (p6 id)
def tV(s:aD)(id:Int):List bO×Int×((List bO×(Nat->Bool))×Int×Value×Value×Value×Value×Value×Value×Unit)×Unit->Nat:=fun(o,i,p,_)=>s.ab.length-i.toNat
def aj':AX TT:=fun(s,id)=>bS [(3,aT [iO 5 .aJ,iI 6,.box 0 (2000000,0) [.part .aJ,.lit (.int .i64),.lit .any,.lit .any,.lit .any,.lit .any,.lit .any,.lit .any]] (zL s id) (tV s id))]
def aff:List (FuncId×ka UU):=[]
theorem afq:Holds EE (164,TT):=by
 refine vR pD func164 TT (by kernel_rfl) rfl aff all_nil aj' (fun x hp hb rest j0=> ?_)
 obtain⟨s,id⟩:=x
 have i_:=xA (x:=s) (hb _ m0)
 have Oq:=zk (n:=id) (hb _ m1)
 have bo:s.ab.length<=1000:=hp _ m0
 clear hp hb
 have j0:rest.length=6:=j0
 match rest,j0 with
 |[r0,r1,r2,r3,r4,r5],_=>
 apply vE (zL s id ([],0,((s.ab,fun(x:Nat)=>false),s.Next,r0,r1,r2,r3,r4,r5,()),()) ([],0,((s.ab,fun(x:Nat)=>false),s.Next,r0,r1,r2,r3,r4,r5,()),())/\∀(y:List bO×Int×((List bO×(Nat->Bool))×Int×Value×Value×Value×Value×Value×Value×PUnit)×PUnit),let x1:=y.2.1.toNat;let x3:=y.2.2.1.1.1.getD x1 aZ;let x4:=y.2.2.1.1.1.length;let x5:=wrap i64 (y.2.1+1);let x0:=(↑x4:Int);let x2:=[x3];let q0:=(y.1,x5,((y.2.2.1.1.1,y.2.2.1.1.2),y.2.2.1.2.1,y.2.2.1.2.2.1,y.2.2.1.2.2.2.1,y.2.2.1.2.2.2.2.1,y.2.2.1.2.2.2.2.2.1,y.2.2.1.2.2.2.2.2.2.1,y.2.2.1.2.2.2.2.2.2.2.1,()),());let q1:=Cell.lit y.2.2.1.2.2.2.2.2.2.2.1;let q2:=Cell.lit y.2.2.1.2.2.2.2.2.2.1;zL s id ([],0,((s.ab,fun(x:Nat)=>false),s.Next,r0,r1,r2,r3,r4,r5,()),()) y->bif decide (y.2.1<x0) then 0<=y.2.1/\x1<x4/\x1<x4/\y.2.2.1.1.2 x1=false/\bif x3.Id !=id then 0<=y.2.1/\x1<x4/\x1<x4/\y.2.2.1.1.2 x1=false/\L4 (y.1.length+x2.length)/\zL s id ([],0,((s.ab,fun(x:Nat)=>false),s.Next,r0,r1,r2,r3,r4,r5,()),()) (y.1++x2,x5,((y.2.2.1.1.1,fun(j:Nat)=>Nat.beq j x1||y.2.2.1.1.2 j),y.2.2.1.2.1,y.2.2.1.2.2.1,y.2.2.1.2.2.2.1,y.2.2.1.2.2.2.2.1,y.2.2.1.2.2.2.2.2.1,y.2.2.1.2.2.2.2.2.2.1,y.2.2.1.2.2.2.2.2.2.2.1,()),())/\tV s id (y.1++x2,x5,((y.2.2.1.1.1,fun(j:Nat)=>Nat.beq j x1||y.2.2.1.1.2 j),y.2.2.1.2.1,y.2.2.1.2.2.1,y.2.2.1.2.2.2.1,y.2.2.1.2.2.2.2.1,y.2.2.1.2.2.2.2.2.1,y.2.2.1.2.2.2.2.2.2.1,y.2.2.1.2.2.2.2.2.2.2.1,()),())<tV s id y else zL s id ([],0,((s.ab,fun(x:Nat)=>false),s.Next,r0,r1,r2,r3,r4,r5,()),()) q0/\tV s id q0<tV s id y else List.length (α:=AC UU) [AC.c (Cell.lit y.2.2.1.2.2.1),AC.c (Cell.lit y.2.2.1.2.2.2.1),AC.c (Cell.lit y.2.2.1.2.2.2.2.1),AC.c (Cell.lit y.2.2.1.2.2.2.2.2.1),AC.c q2,AC.c q1]=List.length [r0,r1,r2,r3,r4,r5]/\[AC.c (Cell.lit y.2.2.1.2.2.1),AC.c (Cell.lit y.2.2.1.2.2.2.1),AC.c (Cell.lit y.2.2.1.2.2.2.2.1),AC.c (Cell.lit y.2.2.1.2.2.2.2.2.1),AC.c q2,AC.c q1]=List.map (fun(v:Value)=>(AC.c (Cell.lit v):AC UU)) [r0,r1,r2,r3,r4,r5]/\fG [VB (decide ((y.1.length:Int)<x0))]=fG [VB (decide ((ve s id).ab.length<s.ab.length))]/\fG [DV.box [CL .aJ y.1,CI y.2.2.1.2.1]]=fG [DV.box [CL .aJ (ve s id).ab,CI ((ve s id).Next)]])
 dsimp only
 refine⟨⟨rfl,rfl,rfl,by omega,by omega,fun _ _=>rfl,by simp⟩,?_⟩
 rintro⟨o,i,⟨⟨xs,dd⟩,nx,s0,s1,s2,s3,s4,s5,⟨⟩⟩,⟨⟩⟩ ⟨hx,hn,hr,h1,h2,hd,ho⟩
 simp only at hx hn hr h1 h2 hd ho⊢
 cases hr
 subst hx hn ho
 refine aR ?_ ?_<;>intro hc
 ·have hs:=mK (p6 id) (l:=s.ab) (i:=i.toNat) aZ (by omega)
  have e:(i+1).toNat=i.toNat+1:=by omega
  have XL:=hd i.toNat (by omega)
  have hle:((s.ab.take i.toNat).filter (p6 id)).length<=(s.ab.take i.toNat).length:=Mw _ _
  rw[oq] at hle
  rw[wi]
  refine⟨h1,by omega,by omega,XL,mI (fun g=>⟨h1,by omega,by omega,XL,by simp only[fP,fz];omega,⟨rfl,rfl,rfl,by omega,by omega,AR h1 hd,?_⟩,by simp only[tV];omega⟩) (fun g=>⟨⟨rfl,rfl,rfl,by omega,by omega,fun j hj=>hd j (by omega),?_⟩,by simp only[tV];omega⟩)⟩
  ·rw[e,hs,if_pos (show p6 id (s.ab.getD i.toNat aZ)=true by rw[p6,decide_eq_false g];rfl)]
  ·rw[e,hs,if_neg (show¬p6 id (s.ab.getD i.toNat aZ)=true by rw[p6,decide_eq_true g];decide),uJ]
 ·rw[cA s.ab (by omega)]
  have e:decide (((s.ab.filter (p6 id)).length:Int)<(s.ab.length:Int))=decide ((ve s id).ab.length<s.ab.length):=by rw[decide_eq_decide];simp only[ve];omega
  rw[e]
  repeat' (first|exact rfl|trivial|refine And.intro (by first|rfl|trivial) ?_)
def aiT:HH:=⟨_,afq⟩
abbrev TI:=List bO×Int×List av×List ao×List aI×List bp×Int×Int×Unit
def instT(p:TI):aq:=⟨⟨p.1,p.2.1⟩,p.2.2.1,p.2.2.2.1,p.2.2.2.2.1,p.2.2.2.2.2.1,p.2.2.2.2.2.2.1,p.2.2.2.2.2.2.2.1⟩
def uu(x:aq):TI:=(x.S.ab,x.S.Next,x.aA,x.aj,x.ap,x.ax,x.State,x.cd,())
def wK(x:aq):Prop:=∃d,cO d x
theorem m_{d:br}{x:aq}(h:cO d x):wK x:=⟨d,h⟩
theorem Qn{d:br}{x:aq}(h:coreX d x):x.aA.length<=4294967295/\∀m∈x.aA,m.eo.length<=4294967295/\m.bw.length<=4294967295:=by
 refine⟨by have:=h.Km;omega,fun m hm=> ?_⟩
 obtain⟨h1,h2⟩:=G8 h.pK (h.b_ m hm)
 rw[h2];exact⟨by omega,by simp⟩
end
end AM
