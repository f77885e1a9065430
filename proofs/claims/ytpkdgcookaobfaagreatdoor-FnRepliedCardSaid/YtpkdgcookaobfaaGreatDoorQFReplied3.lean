/- Functions of the program with their contracts: put together by gen/link.py for FnReplied. -/
import Derived.Test.YtpkdgcookaobfaaGreatDoorQAmLib
import Derived.Test.YtpkdgcookaobfaaGreatDoorQFReplied2
import Derived.Lib.ItoaLen
import Derived.Lib.Join
import Derived.Test.YtpkdgcookaobfaaGreatDoorQShelf
namespace AM
open Go Go.Proofs.Tryz Go.IntKind
set_option linter.unusedVariables false
set_option linter.unusedSimpArgs false
set_option maxRecDepth 100000
noncomputable section
def oU : DV UU -> Option ai := fun | .box [.sl .byte b, .lit (.int .i64 i), .lit (.int .i64 h)] => some ⟨b, i, h⟩ | _ => none
theorem lU (d : DV UU) (x : ai) (h : oU d = some x) : dU x = d := by
  unfold oU at h
  split at h <;> cases h
  rfl
theorem QG {x : ai} (h : gW (dU x)) : x.b.length <= 9223372036854775807 := Bd.len (U := UU) (τ := .byte) (xs := x.b) (h _ List.mem_cons_self)
def qU:Q1 ai:=⟨dU,oU,lU⟩
abbrev bU(x:ai):DV UU:=.box [.sl .byte x.b,.lit (.int .i64 x.i),.lit (.int .i64 x.h)]
def VC(h:Int)(x:Int):Int:=IntKind.wrap .i64 (((BitVec.ofInt (IntKind.bits .i64) (IntKind.wrap .i64 (IntKind.wrap .i64 (IntKind.wrap .i64 (h*137)+IntKind.wrap .i64 x)+11))&&&BitVec.ofInt (IntKind.bits .i64) 1073741823).toNat:Nat):Int)
def acy(code:List Int):Int:=(code.take 4000).foldl VC (354354+code.length)
def lm(code:List Int):ai:=⟨code,0,acy code⟩
def KU(h:Int):Int:=IntKind.wrap .i64 (IntKind.wrap .i64 (h*6364136223846793005)+1442695040888963407)
def Ax(x:Int):Int:=IntKind.wrap .i64 (((BitVec.ofInt (IntKind.bits .i64) x&&&BitVec.ofInt (IntKind.bits .i64) 255).toNat:Nat):Int)
def VA(h:Int):Int:=Ax (IntKind.wrap .i64 (((BitVec.ofInt (IntKind.bits .i64) (Int.fdiv h ((2:Int)^min (Int.toNat 33) (IntKind.bits .i64)))^^^BitVec.ofInt (IntKind.bits .i64) (Int.fdiv h ((2:Int)^min (Int.toNat 47) (IntKind.bits .i64)))).toNat:Nat):Int))
def iH(c:ai):Int:=if c.i<c.b.length then Ax (IntKind.wrap .i64 (VA (KU c.h)+IntKind.wrap .i64 (c.b.getD c.i.toNat 0))) else VA (KU c.h)
def eh(c:ai):ai:=⟨c.b,if c.i<c.b.length then c.i+1 else c.i,KU c.h⟩
theorem Hv(x:Int):0<=Ax x/\Ax x<=255:=by
 unfold Ax
 have h:(BitVec.ofInt 64 x&&&BitVec.ofInt 64 255).toNat<=255:=by
  rw[BitVec.toNat_and]
  exact xr Nat.and_le_right (by decide)
 have h':(BitVec.ofInt (IntKind.bits .i64) x&&&BitVec.ofInt (IntKind.bits .i64) 255).toNat<=255:=h
 rw[wi]
 omega
theorem sg(c:ai):0<=iH c/\iH c<=255:=by
 unfold iH
 split
 ·exact Hv _
 ·exact Hv _
theorem tr{c:ai}(h:0<=c.i):0<=(eh c).i:=by
 simp only[eh];split<;>omega
def af(c:ai)(n:Int):Int:=if n<=0 then 0 else if n<=256 then Int.tmod (iH c) n else Int.tmod (iH c*65536+iH (eh c)*256+iH (eh (eh c))) n
def aa(c:ai)(n:Int):ai:=if n<=0 then c else if n<=256 then eh c else eh (eh (eh c))
theorem Tp{c:ai}(h:0<=c.i)(n:Int):0<=(aa c n).i:=by
 unfold aa
 split
 ·exact h
 ·split
  ·exact tr h
  ·exact tr (tr (tr h))
theorem bx{c:ai}{n:Int}(h:0<n):0<=af c n/\af c n<n:=by
 have h1:=sg c;have h2:=sg (eh c);have h3:=sg (eh (eh c))
 unfold af
 rw[if_neg (by omega)]
 split
 ·rw[zbp (by omega)];exact⟨Int.emod_nonneg _ (by omega),Int.emod_lt_of_pos _ h⟩
 ·rw[zbp (by omega)];exact⟨Int.emod_nonneg _ (by omega),Int.emod_lt_of_pos _ h⟩
def agR:=bV (α:=List Int) (q1 (qL .byte)) [.ro] (fun code=>[L4 code.length]) (fun code=>⟨[.box [.sl .byte ((lm code)).b,.lit (.int .i64 ((lm code)).i),.lit (.int .i64 ((lm code)).h)]],[],[]⟩)
def JZ(code:List Int):Int×Int×Unit->Prop:=fun(h,i,_)=>0<=i/\i<=code.length/\i<=4000/\h=(code.take i.toNat).foldl VC (354354+code.length)
def Jj(code:List Int):Int×Int×Unit->Nat:=fun(h,i,_)=>code.length-i.toNat
def apZ:AX agR:=fun code=>b_ [(3,aY [iI 3,iI 4] (fun _=>JZ code) (Jj code))]
def apl:HH:=hF agR func12 [] apZ fun(code:List Int) hp hb=>by
 have Od:L9 code.length:=lu (hb _ m0)
 have bp:code.length<=4294967296:=hp _ m0
 clear hp hb
 apply vE (let q0:=IntKind.bits IntKind.i64;JZ code (wrap i64 (354354+(code.length:Int)),0,())/\∀(y:Int×Int×PUnit),let x0:=y.2.1.toNat;let q1:=(wrap i64 (↑(BitVec.toNat (BitVec.ofInt q0 (wrap i64 (wrap i64 (wrap i64 (y.1*137)+wrap i64 (code.getD x0 0))+11))&&&BitVec.ofInt q0 1073741823)):Int),wrap i64 (y.2.1+1),());let q2:=Lf [DV.box [CL .byte code,CI 0,CI y.1]] [bU (lm code)];JZ code y->bif decide (y.2.1<(code.length:Int)) then bif decide (y.2.1<4000) then 0<=y.2.1/\x0<code.length/\JZ code q1/\Jj code q1<Jj code y else q2 else q2)
 dsimp only
 refine⟨⟨by omega,by omega,by omega,by rw[wi];rfl⟩,?_⟩
 rintro⟨h,i,⟨⟩⟩ ⟨h1,h2,h3,rfl⟩
 simp only
 have hE:(i=code.length\/i=4000)->(code.take i.toNat).foldl VC (354354+code.length)=(lm code).h:=by
  intro hh
  show _=(code.take 4000).foldl VC (354354+code.length)
  rcases hh with hh|hh
  ·rw[Uj (by omega),Uj (by omega)]
  ·rw[hh];rfl
 refine ae (fun hc=>ae (fun hd=> ?_) (fun hd=> ?_)) (fun hc=> ?_)
 ·have hc:=yT hc;have hd:=yT hd
  rw[wi (n:=i+1)]
  refine⟨h1,by omega,⟨by omega,by omega,by omega,?_⟩,by simp only[Jj];omega⟩
  rw[<-dk code 0 h1 (by omega),List.foldl_append]
  rfl
 ·have hc:=yT hc;have hd:=yF hd
  rw[hE (by omega)];exact aX _
 ·have hc:=yF hc
  rw[hE (by omega)];exact aX _
def ag5:=bV (α:=ai) (q1 qU) [.box false] (fun c=>[0<=c.i,L4 c.b.length]) (fun c=>⟨[dI (iH c)],[],[dU (eh c)]⟩)
def ai2:HH:=hF ag5 func101 [] a0 fun(c:ai) hp hb=>by
 have pU:=QG (x:=c) (hb _ m0)
 have bp:0<=c.i:=hp _ m0
 have eN:c.b.length<=4294967296:=hp _ m1
 clear hp hb
 apply vE (let x1:=wrap i64 (wrap i64 (c.h*6364136223846793005)+1442695040888963407);let x0:=wrap i64 (↑(BitVec.toNat (BitVec.ofInt (IntKind.bits IntKind.i64) (wrap i64 (↑(BitVec.toNat (BitVec.ofInt (IntKind.bits IntKind.i64) (Int.fdiv x1 (2^min (Int.toNat 33) (IntKind.bits IntKind.i64)))^^^BitVec.ofInt (IntKind.bits IntKind.i64) (Int.fdiv x1 (2^min (Int.toNat 47) (IntKind.bits IntKind.i64))))):Int))&&&BitVec.ofInt (IntKind.bits IntKind.i64) 255)):Int);(0:Int)<=(33:Int)/\(0:Int)<=(47:Int)/\bif decide (c.i<(c.b.length:Int)) then 0<=c.i/\c.i.toNat<c.b.length/\LM [VI (wrap i64 (↑(BitVec.toNat (BitVec.ofInt (IntKind.bits IntKind.i64) (wrap i64 (x0+wrap i64 (c.b.getD c.i.toNat 0)))&&&BitVec.ofInt (IntKind.bits IntKind.i64) 255)):Int))] [VI (iH c)] [DV.box [CL .byte c.b,CI (wrap i64 (c.i+1)),CI x1]] [DV.box [CL .byte (eh c).b,CI ((eh c).i),CI ((eh c).h)]] else LM [VI x0] [VI (iH c)] [DV.box [CL .byte c.b,CI c.i,CI x1]] [DV.box [CL .byte (eh c).b,CI ((eh c).i),CI ((eh c).h)]])
 dsimp only
 refine⟨by omega,by omega,ae (fun h=> ?_) (fun h=> ?_)⟩
 ·have h:=yT h
  have e1:iH c=Ax (IntKind.wrap .i64 (VA (KU c.h)+IntKind.wrap .i64 (c.b.getD c.i.toNat 0))):=if_pos h
  have e2:(eh c).i=c.i+1:=if_pos h
  rw[e1,e2,wi (n:=c.i+1)]
  exact⟨bp,by omega,rfl,rfl,rfl⟩
 ·have h:=yF h
  have e1:iH c=VA (KU c.h):=if_neg h
  have e2:(eh c).i=c.i:=if_neg h
  rw[e1,e2]
  exact⟨rfl,rfl,rfl⟩
def aoe:=bV (α:=ai×Int) (qC qU (q1 qI)) [.box false,.ro] (fun(c,n)=>[0<=c.i,L4 c.b.length]) (fun(c,n)=>⟨[dI (af c n)],[],[dU (aa c n)]⟩)
def nb:HH:=hF aoe func41 [ai2] a0 fun x hp hb=>by
 obtain⟨c,n⟩:=x
 have bp:0<=c.i:=hp _ m0
 have eN:c.b.length<=4294967296:=hp _ m1
 clear hp hb
 apply vE (let q0:=aa c n;let q1:=eh (eh c);bif decide (n<=0) then LM [VI 0] [VI (af c n)] [DV.box [CL .byte c.b,CI c.i,CI c.h]] [DV.box [CL .byte q0.b,CI (q0.i),CI (q0.h)]] else bif decide (n<=256) then 0<=c.i/\L4 c.b.length/\n≠0/\LM [VI (Int.tmod (iH c) n)] [VI (af c n)] [DV.box [CL .byte (eh c).b,CI ((eh c).i),CI ((eh c).h)]] [DV.box [CL .byte q0.b,CI (q0.i),CI (q0.h)]] else 0<=c.i/\L4 c.b.length/\0<=(eh c).i/\(eh c).b.length<=4294967296/\0<=q1.i/\L4 q1.b.length/\n≠0/\LM [VI (Int.tmod (wrap i64 (wrap i64 (wrap i64 (iH c*65536)+wrap i64 (iH (eh c)*256))+iH q1)) n)] [VI (af c n)] [DV.box [CL .byte (eh q1).b,CI ((eh q1).i),CI ((eh q1).h)]] [DV.box [CL .byte q0.b,CI (q0.i),CI (q0.h)]])
 dsimp only
 have b1:=sg c;have b2:=sg (eh c);have b3:=sg (eh (eh c))
 refine ae (fun h=> ?_) (fun h=>ae (fun h2=> ?_) (fun h2=> ?_))
 ·have h:=yT h
  have e1:af c n=0:=if_pos h
  have e2:aa c n=c:=if_pos h
  rw[e1,e2];exact⟨rfl,rfl,rfl⟩
 ·have h:=yF h;have h2:=yT h2
  have e1:af c n=Int.tmod (iH c) n:=by rw[af,if_neg h,if_pos h2]
  have e2:aa c n=eh c:=by rw[aa,if_neg h,if_pos h2]
  rw[e1,e2];exact⟨bp,eN,by omega,rfl,rfl,rfl⟩
 ·have h:=yF h;have h2:=yF h2
  have e1:af c n=Int.tmod (iH c*65536+iH (eh c)*256+iH (eh (eh c))) n:=by rw[af,if_neg h,if_neg h2]
  have e2:aa c n=eh (eh (eh c)):=by rw[aa,if_neg h,if_neg h2]
  have w1:IntKind.wrap .i64 (iH c*65536)=iH c*65536:=wi
  have w2:IntKind.wrap .i64 (iH (eh c)*256)=iH (eh c)*256:=wi
  rw[w1,w2,e1,e2,wi (n:=iH c*65536+iH (eh c)*256),wrap_i64 (n:=iH c*65536+iH (eh c)*256+iH (eh (eh c))) (by omega) (by omega)]
  exact⟨bp,eN,tr bp,eN,tr (tr bp),eN,by omega,rfl,rfl,rfl⟩
def aod:=bV (α:=ai×(List Int)) (qC qU (q1 (qL .int))) [.box false,.ro] (fun(c,list)=>[0<=c.i,L4 c.b.length,1<=list.length]) (fun(c,list)=>⟨[dI (list.getD (af c list.length).toNat 0)],[],[dU (aa c list.length)]⟩)
def FD:HH:=hF aod func42 [nb] a0 fun x hp hb=>by
 obtain⟨c,list⟩:=x
 have pU:=QG (x:=c) (hb _ m0)
 have VY:L9 list.length:=lu (hb _ m1)
 have bp:0<=c.i:=hp _ m0
 have eN:c.b.length<=4294967296:=hp _ m1
 have GS:1<=list.length:=hp _ m2
 clear hp hb
 apply vE (let x0:=aa c (list.length:Int);let q0:=list.getD (Int.toNat (af c (list.length:Int))) 0;0<=c.i/\L4 c.b.length/\0<=af c (list.length:Int)/\Int.toNat (af c (list.length:Int))<list.length/\LM [VI q0] [VI q0] [bU x0] [bU x0])
 dsimp only
 have hb:=bx (c:=c) (n:=list.length) (by omega)
 exact⟨bp,eN,hb.1,by omega,rfl,rfl,rfl⟩
def bh(c:ai):Prop:=0<=c.i/\c.b.length<=4294967296
theorem au{c:ai}(h:bh c)(n:Int):bh (aa c n):=by
 refine⟨Tp h.1 n,?_⟩
 have:(aa c n).b=c.b:=by
  unfold aa
  split
  ·rfl
  ·split<;>rfl
 rw[this];exact h.2
theorem B8{code:List Int}(h:code.length<=4294967296):bh (lm code):=⟨Int.le_refl 0,h⟩
def bP(c:ai)(n:Int):Bool:=decide (af c n=0)
def cx(c:ai)(l:List BA):BA:=l.getD (af c l.length).toNat ao
def bT(c:ai)(l:List BA):ai:=aa c l.length
def gU(c:ai)(l:List Int):Int:=l.getD (af c l.length).toNat 0
def ku(c:ai)(l:List Int):ai:=aa c l.length
theorem dw{c:ai}(h:bh c)(l:List BA):bh (bT c l):=au h _
theorem iG{c:ai}(h:bh c)(l:List Int):bh (ku c l):=au h _
theorem Kj(c:ai){l:List BA}(h:0<l.length):cx c l∈l:=by
 have hb:=bx (c:=c) (n:=l.length) (by omega)
 have hi:(af c l.length).toNat<l.length:=by omega
 rw[cx,ez,fw hi]
 exact FH hi
theorem R9(c:ai){l:List Int}(h:0<l.length):gU c l∈l:=by
 have hb:=bx (c:=c) (n:=l.length) (by omega)
 have hi:(af c l.length).toNat<l.length:=by omega
 rw[gU,ez,fw hi]
 exact FH hi
theorem er(c:ai){l:List BA}(p:BA->Bool)(h0:0<l.length)(h:l.all p=true):p (cx c l)=true:=sC.1 h _ (Kj c h0)
theorem rW(c:ai){l:List Int}(p:Int->Bool)(h0:0<l.length)(h:l.all p=true):p (gU c l)=true:=sC.1 h _ (R9 c h0)
def HJ:List BA:=[⟨#[97]⟩,⟨#[98]⟩]
def ed(c:ai):aS:=if bP c 2 then⟨1,1+af (aa c 2) 3,ao⟩ else⟨2,0,cx (aa c 2) HJ⟩
def gL(c:ai):ai:=if bP c 2 then aa (aa c 2) 3 else bT (aa c 2) HJ
theorem kO{c:ai}(h:bh c):bh (gL c):=by
 unfold gL;split
 ·exact au (au h _) _
 ·exact dw (au h _) _
def W1:List Int:=[0,1,2,3,-1,1000000000,-1000000000]
def Q6:List BA:=[⟨#[]⟩,⟨#[97]⟩,⟨#[98]⟩,⟨#[112,97,105,100]⟩,⟨#[120,95,49]⟩]
def lc(c:ai):aS:=if bP c 2 then⟨1,gU (aa c 2) W1,ao⟩ else⟨2,0,cx (aa c 2) Q6⟩
def kp(c:ai):ai:=if bP c 2 then ku (aa c 2) W1 else bT (aa c 2) Q6
theorem B7{c:ai}(h:bh c):bh (kp c):=by
 unfold kp;split
 ·exact iG (au h _) _
 ·exact dw (au h _) _
def N9:List Int:=[1000000001,5]
def Kq:List BA:=[⟨#[65]⟩,⟨#[97,32,98]⟩,⟨#[116,119,101,110,116,121,111,110,101,98,121,116,101,115,116,119,101,110,116,121,111]⟩,⟨#[120]⟩]
def gF(c:ai):aS:=let v:=lc c;let k:=af (kp c) 10;let d:=aa (kp c) 10;if k=0 then⟨af d 4,v.N,v.S⟩ else if k=1 then⟨v.K,gU d N9,v.S⟩ else if k=2 then⟨v.K,v.N,cx d Kq⟩ else v
def lW(c:ai):ai:=let k:=af (kp c) 10;let d:=aa (kp c) 10;if k=0 then aa d 4 else if k=1 then ku d N9 else if k=2 then bT d Kq else d
theorem LJ{c:ai}(h:bh c):bh (lW c):=by
 have:=au (B7 h) 10
 simp only[lW];split
 ·exact au this _
 ·split
  ·exact iG this _
  ·split
   ·exact dw this _
   ·exact this
def cS:List BA:=[⟨#[111,114,100,101,114]⟩,⟨#[112,97,105,100]⟩,⟨#[105,116,101,109]⟩,⟨#[111,114,100,101,114]⟩]
def Fl:BA:=⟨#[105,116,101,109]⟩
def sL:Nat->List aS->ai->List aS
 |0,l,_=>l
 |k+1,l,c=>sL k (l++[ed c]) (gL c)
def BO:Nat->ai->ai
 |0,c=>c
 |k+1,c=>BO k (gL c)
theorem Fa:∀{k:Nat}{c:ai},bh c->bh (BO k c)
 |0,_,h=>h
 |k+1,_,h=>Fa (k:=k) (kO h)
def fG(c:ai):Int:=if bP (bT c cS) 12 then af (aa (bT c cS) 12) 6 else if cx c cS=Fl then 2 else 1
def yu(c:ai):ai:=if bP (bT c cS) 12 then aa (aa (bT c cS) 12) 6 else aa (bT c cS) 12
def cV(c:ai):aK:=⟨cx c cS,sL (fG c).toNat [] (yu c)⟩
def cW(c:ai):ai:=BO (fG c).toNat (yu c)
theorem Hn{c:ai}(h:bh c):bh (yu c):=by
 have:=au (dw h cS) 12
 unfold yu;split
 ·exact au this _
 ·exact this
theorem lR{c:ai}(h:bh c):bh (cW c):=Fa (Hn h)
theorem AR:∀(k:Nat)(l:List aS)(c:ai),(sL k l c).length=l.length+k
 |0,_,_=>rfl
 |k+1,l,c=>by rw[sL,AR k];simp only[ko,fK,fv];omega
theorem Al(c:ai):(cV c).ah.length=(fG c).toNat:=by
 show(sL _ _ _).length=_
 rw[AR];simp
theorem yt(c:ai):0<=fG c/\fG c<=5:=by
 have:=bx (c:=aa (bT c cS) 12) (n:=6) (by omega)
 unfold fG
 split
 ·omega
 ·split<;>omega
noncomputable def wX(l:List aS)(c:ai):List aS×ai:=if h:(l.length:Int)<5+af c 2 then wX (l++[lc (aa c 2)]) (kp (aa c 2)) else(l,aa c 2)
termination_by 6-l.length
decreasing_by
 have:=bx (c:=c) (n:=2) (by omega)
 simp only[ko,fK,fv];omega
theorem En{l:List aS}{c:ai}(h:(l.length:Int)<5+af c 2):wX l c=wX (l++[lc (aa c 2)]) (kp (aa c 2)):=by rw[wX,dif_pos h]
theorem HZ{l:List aS}{c:ai}(h:¬(l.length:Int)<5+af c 2):wX l c=(l,aa c 2):=by rw[wX,dif_neg h]
theorem Ox{l:List aS}{c:ai}(h:bh c):bh (wX l c).2:=by
 by_cases hl:(l.length:Int)<5+af c 2
 ·rw[En hl];exact Ox (B7 (au h _))
 ·rw[HZ hl];exact au h _
termination_by 6-l.length
decreasing_by
 have:=bx (c:=c) (n:=2) (by omega)
 simp only[ko,fK,fv];omega
def D_:List BA:=[⟨#[]⟩,⟨#[65]⟩,⟨#[116,104,105,114,116,101,101,110,98,121,116,101,115]⟩,⟨#[120]⟩]
noncomputable def pb(c:ai):aK:=let f:=cV c;let k:=af (cW c) 10;let d:=aa (cW c) 10;if k=0 then⟨cx d D_,f.ah⟩ else if k=1 then⟨f.Kind,f.ah++[gF d]⟩ else if k=2 then⟨f.Kind,(wX f.ah d).1⟩ else f
noncomputable def kg(c:ai):ai:=let f:=cV c;let k:=af (cW c) 10;let d:=aa (cW c) 10;if k=0 then bT d D_ else if k=1 then lW d else if k=2 then(wX f.ah d).2 else d
theorem Fe{c:ai}(h:bh c):bh (kg c):=by
 have:=au (lR h) 10
 simp only[kg];split
 ·exact dw this _
 ·split
  ·exact LJ this
  ·split
   ·exact Ox this
   ·exact this
def aos:=bV (α:=ai×Int) (qC qU (q1 qI)) [.box false,.ro] (fun(c,n)=>[bh c]) (fun(c,n)=>⟨[dO (bP c n)],[],[dU (aa c n)]⟩)
def xo:HH:=hF aos func16 [nb] a0 fun x hp hb=>by
 obtain⟨c,n⟩:=x
 have bp:bh c:=hp _ m0
 clear hp hb
 apply vE (0<=c.i/\L4 c.b.length/\LM [VB (af c n==0)] [VB (bP c n)] [bU (aa c n)] [bU (aa c n)])
 exact⟨bp.1,bp.2,rfl,rfl,rfl⟩
def an':=bV (α:=ai×(List BA)) (qC qU (q1 (qL .str))) [.box false,.ro] (fun(c,list)=>[bh c,1<=list.length]) (fun(c,list)=>⟨[dS (cx c list)],[],[dU (bT c list)]⟩)
def rJ:HH:=hF an' func50 [nb] a0 fun x hp hb=>by
 obtain⟨c,list⟩:=x
 have pU:=QG (x:=c) (hb _ m0)
 have VY:L9 list.length:=lu (hb _ m1)
 have bp:bh c:=hp _ m0
 have eN:1<=list.length:=hp _ m1
 clear hp hb
 apply vE (let x0:=aa c (list.length:Int);0<=c.i/\L4 c.b.length/\0<=af c (list.length:Int)/\Int.toNat (af c (list.length:Int))<list.length/\LM [VS (list.getD (Int.toNat (af c (list.length:Int))) ao)] [VS (cx c list)] [bU x0] [bU (bT c list)])
 dsimp only
 have hb:=bx (c:=c) (n:=list.length) (by omega)
 exact⟨bp.1,bp.2,hb.1,by omega,rfl,rfl,rfl⟩
def agy:=bV (α:=ai) (q1 qU) [.box false] (fun c=>[bh c]) (fun c=>⟨[dA .bc (ed c)],[],[dU (gL c)]⟩)
def L8:HH:=hF agy func160 [xo,nb,rJ] a0 fun(c:ai) hp hb=>by
 have bp:bh c:=hp _ m0
 clear hp hb
 apply vE (let x1:=[{data:= #[(97:UInt8)]:BA},{data:= #[(98:UInt8)]:BA}];let x2:=aa (aa c 2) 3;let x0:=bT (aa c 2) x1;let q0:=aa c 2;bh c/\bif bP c 2 then 0<=q0.i/\L4 q0.b.length/\LM [DV.agg [CI 1,CI (wrap i64 (1+af q0 3)),CS ({data:= #[]:BA})]] [DV.agg [CI ((ed c).K),CI ((ed c).N),CS ((ed c).S)]] [bU x2] [bU (gL c)] else bh q0/\1<=x1.length/\LM [DV.agg [CI 2,CI 0,CS (cx q0 x1)]] [DV.agg [CI ((ed c).K),CI ((ed c).N),CS ((ed c).S)]] [bU x0] [bU (gL c)])
 dsimp only
 refine⟨bp,ae (fun h=> ?_) (fun h=> ?_)⟩
 ·have hb:=bx (c:=aa c 2) (n:=3) (by omega)
  have h2:=au bp 2
  rw[wi]
  rw[ed,gL,if_pos h,if_pos h];exact⟨h2.1,h2.2,rfl,rfl,rfl⟩
 ·have h2:=au bp 2
  rw[ed,gL,if_neg (by simp[h]),if_neg (by simp[h])];exact⟨h2,by simp,rfl,rfl,rfl⟩
def an_:=bV (α:=ai) (q1 qU) [.box false] (fun c=>[bh c]) (fun c=>⟨[dA .bc (lc c)],[],[dU (kp c)]⟩)
def ahf:HH:=hF an_ func49 [xo,FD,rJ] a0 fun(c:ai) hp hb=>by
 have bp:bh c:=hp _ m0
 clear hp hb
 apply vE (let x1:=[{data:= #[]:BA},{data:= #[(97:UInt8)]:BA},{data:= #[(98:UInt8)]:BA},{data:= #[(112:UInt8),(97:UInt8),(105:UInt8),(100:UInt8)]:BA},{data:= #[(120:UInt8),(95:UInt8),(49:UInt8)]:BA}];let x5:=[0,1,2,3,(-1),1000000000,(-1000000000)];let x0:=bT (aa c 2) x1;let x4:=x5.length;let x3:=(↑x4:Int);let x2:=aa (aa c 2) x3;let q0:=aa c 2;bh c/\bif bP c 2 then 0<=q0.i/\L4 q0.b.length/\1<=x4/\LM [DV.agg [CI 1,CI (x5.getD (Int.toNat (af q0 x3)) 0),CS ({data:= #[]:BA})]] [DV.agg [CI ((lc c).K),CI ((lc c).N),CS ((lc c).S)]] [bU x2] [bU (kp c)] else bh q0/\1<=x1.length/\LM [DV.agg [CI 2,CI 0,CS (cx q0 x1)]] [DV.agg [CI ((lc c).K),CI ((lc c).N),CS ((lc c).S)]] [bU x0] [bU (kp c)])
 dsimp only
 have h2:=au bp 2
 refine⟨bp,ae (fun h=> ?_) (fun h=> ?_)⟩
 ·rw[lc,kp,if_pos h,if_pos h];exact⟨h2.1,h2.2,by simp,rfl,rfl,rfl⟩
 ·rw[lc,kp,if_neg (by simp[h]),if_neg (by simp[h])];exact⟨h2,by simp,rfl,rfl,rfl⟩
def aor:=bV (α:=ai) (q1 qU) [.box false] (fun c=>[bh c]) (fun c=>⟨[dA .bc (gF c)],[],[dU (lW c)]⟩)
def abS:HH:=hF aor func17 [ahf,nb,FD,rJ] a0 fun(c:ai) hp hb=>by
 have bp:bh c:=hp _ m0
 clear hp hb
 apply vE (let x1:=[{data:= #[(65:UInt8)]:BA},{data:= #[(97:UInt8),(32:UInt8),(98:UInt8)]:BA},{data:= #[(116:UInt8),(119:UInt8),(101:UInt8),(110:UInt8),(116:UInt8),(121:UInt8),(111:UInt8),(110:UInt8),(101:UInt8),(98:UInt8),(121:UInt8),(116:UInt8),(101:UInt8),(115:UInt8),(116:UInt8),(119:UInt8),(101:UInt8),(110:UInt8),(116:UInt8),(121:UInt8),(111:UInt8)]:BA},{data:= #[(120:UInt8)]:BA}];let x2:=aa (kp c) 10;let x6:=[1000000001,5];let x0:=bT x2 x1;let x5:=x6.length;let x4:=(↑x5:Int);let x3:=aa x2 x4;bh c/\0<=(kp c).i/\(kp c).b.length<=4294967296/\bif af (kp c) (10:Int)==(0:Int) then 0<=x2.i/\L4 x2.b.length/\LM [DV.agg [CI (af x2 4),CI ((lc c).N),CS ((lc c).S)]] [DV.agg [CI ((gF c).K),CI ((gF c).N),CS ((gF c).S)]] [bU (aa x2 4)] [bU (lW c)] else bif af (kp c) (10:Int)==(1:Int) then 0<=x2.i/\L4 x2.b.length/\1<=x5/\LM [DV.agg [CI ((lc c).K),CI (x6.getD (Int.toNat (af x2 x4)) 0),CS ((lc c).S)]] [DV.agg [CI ((gF c).K),CI ((gF c).N),CS ((gF c).S)]] [bU x3] [bU (lW c)] else bif af (kp c) (10:Int)==(2:Int) then bh x2/\1<=x1.length/\LM [DV.agg [CI ((lc c).K),CI ((lc c).N),CS (cx x2 x1)]] [DV.agg [CI ((gF c).K),CI ((gF c).N),CS ((gF c).S)]] [bU x0] [bU (lW c)] else LM [DV.agg [CI ((lc c).K),CI ((lc c).N),CS ((lc c).S)]] [DV.agg [CI ((gF c).K),CI ((gF c).N),CS ((gF c).S)]] [bU x2] [bU (lW c)])
 dsimp only
 have h2:=B7 bp
 have h3:=au h2 10
 refine⟨bp,h2.1,h2.2,ae (fun h=> ?_) (fun h=>ae (fun h'=> ?_) (fun h'=>ae (fun o9=> ?_) (fun o9=> ?_)))⟩
 ·have h:=eq_of_beq h
  have e1:gF c=⟨af (aa (kp c) 10) 4,(lc c).N,(lc c).S⟩:=by simp only[gF,h,if_true]
  have e2:lW c=aa (aa (kp c) 10) 4:=by simp only[lW,h,if_true]
  rw[e1,e2];exact⟨h3.1,h3.2,rfl,rfl,rfl⟩
 ·have h:¬af (kp c) 10=0:=by simpa using h
  have h':=eq_of_beq h'
  have e1:gF c=⟨(lc c).K,gU (aa (kp c) 10) N9,(lc c).S⟩:=by simp only[gF];rw[if_neg h,if_pos h']
  have e2:lW c=ku (aa (kp c) 10) N9:=by simp only[lW];rw[if_neg h,if_pos h']
  rw[e1,e2];exact⟨h3.1,h3.2,by simp,rfl,rfl,rfl⟩
 ·have h:¬af (kp c) 10=0:=by simpa using h
  have h':¬af (kp c) 10=1:=by simpa using h'
  have o9:=eq_of_beq o9
  have e1:gF c=⟨(lc c).K,(lc c).N,cx (aa (kp c) 10) Kq⟩:=by simp only[gF];rw[if_neg h,if_neg h',if_pos o9]
  have e2:lW c=bT (aa (kp c) 10) Kq:=by simp only[lW];rw[if_neg h,if_neg h',if_pos o9]
  rw[e1,e2];exact⟨h3,by simp,rfl,rfl,rfl⟩
 ·have h:¬af (kp c) 10=0:=by simpa using h
  have h':¬af (kp c) 10=1:=by simpa using h'
  have o9:¬af (kp c) 10=2:=by simpa using o9
  have e1:gF c=lc c:=by simp only[gF];rw[if_neg h,if_neg h',if_neg o9]
  have e2:lW c=aa (kp c) 10:=by simp only[lW];rw[if_neg h,if_neg h',if_neg o9]
  rw[e1,e2];exact⟨rfl,rfl,rfl⟩
def Yi:=bV (α:=ai) (q1 qU) [.box false] (fun c=>[bh c]) (fun c=>⟨[dA .dc (cV c)],[],[dU (cW c)]⟩)
def kj(c:ai):Int×T5×T5×T4×Unit->Prop:=fun(i,r,f,cu,_)=>0<=i/\i<=fG c/\f.1=cx c cS/\bh ⟨cu.1,cu.2.1,cu.2.2.1⟩/\f.2.1.length<=i/\sL (fG c-i).toNat f.2.1 ⟨cu.1,cu.2.1,cu.2.2.1⟩=(cV c).ah/\BO (fG c-i).toNat ⟨cu.1,cu.2.1,cu.2.2.1⟩=cW c
def kS(c:ai):Int×T5×T5×T4×Unit->Nat:=fun(i,r,f,cu,_)=>(fG c-i).toNat
def ajP:AX Yi:=fun c=>b_ [(8,aY [iI 5,.box 2 (2,1024) [.lit .str,.own .bc true],.box 3 (3,1024) [.lit .str,.own .bc true],.box 0 (2000000,0) [.shr .byte,.lit (.int .i64),.lit (.int .i64)]] (fun _=>kj c) (kS c))]
def L_:HH:=hF Yi func156 [rJ,xo,nb,L8] ajP fun(c:ai) hp hb=>by
 have bp:bh c:=hp _ m0
 clear hp hb
 apply vE (let x3:={data:= #[(111:UInt8),(114:UInt8),(100:UInt8),(101:UInt8),(114:UInt8)]:BA};let x4:={data:= #[(105:UInt8),(116:UInt8),(101:UInt8),(109:UInt8)]:BA};let x2:=[x3,{data:= #[(112:UInt8),(97:UInt8),(105:UInt8),(100:UInt8)]:BA},x4,x3];let x1:=bT c x2;let x0:=aa x1 12;let q0:=BA×List aS×PUnit;let q1:=(0,({data:= #[]:BA},[],()),(cx c x2,[],()),((aa x0 6).b,(aa x0 6).i,(aa x0 6).h,()),());let q2:=(0,({data:= #[]:BA},[],()),(cx c x2,[],()),(x0.b,x0.i,x0.h,()),());let q3:=List Int×Int×Int×PUnit;let q4:=(cV c).Kind;bh c/\1<=x2.length/\bif ByteArray.toList (cx c x2)==ByteArray.toList x4 then bh x1/\bif bP x1 12 then 0<=x0.i/\L4 x0.b.length/\kj c q1/\∀(y:Int×q0×q0×q3×PUnit),let x6:={b:=y.2.2.2.1.1,i:=y.2.2.2.1.2.1,h:=y.2.2.2.1.2.2.1:ai};let x5:=gL x6;let q5:=(wrap i64 (y.1+1),(y.2.1.1,y.2.1.2.1,()),(y.2.2.1.1,y.2.2.1.2.1++[ed x6],()),(x5.b,x5.i,x5.h,()),());kj c y->bif decide (y.1<af x0 6) then bh x6/\y.2.2.1.2.1.length+List.length [ed x6]<=4294967296/\kj c q5/\kS c q5<kS c y else LM [DV.agg [CS y.2.2.1.1,CL .bc y.2.2.1.2.1]] [DV.agg [CS q4,CL .bc (cV c).ah]] [DV.box [CL .byte y.2.2.2.1.1,CI y.2.2.2.1.2.1,CI y.2.2.2.1.2.2.1]] [bU (cW c)] else kj c q2/\∀(y:Int×q0×q0×q3×PUnit),let x6:={b:=y.2.2.2.1.1,i:=y.2.2.2.1.2.1,h:=y.2.2.2.1.2.2.1:ai};let x5:=gL x6;let q6:=(wrap i64 (y.1+1),(y.2.1.1,y.2.1.2.1,()),(y.2.2.1.1,y.2.2.1.2.1++[ed x6],()),(x5.b,x5.i,x5.h,()),());kj c y->bif decide (y.1<2) then bh x6/\y.2.2.1.2.1.length+List.length [ed x6]<=4294967296/\kj c q6/\kS c q6<kS c y else LM [DV.agg [CS y.2.2.1.1,CL .bc y.2.2.1.2.1]] [DV.agg [CS q4,CL .bc (cV c).ah]] [DV.box [CL .byte y.2.2.2.1.1,CI y.2.2.2.1.2.1,CI y.2.2.2.1.2.2.1]] [bU (cW c)] else bh x1/\bif bP x1 12 then 0<=x0.i/\L4 x0.b.length/\kj c q1/\∀(y:Int×q0×q0×q3×PUnit),let x6:={b:=y.2.2.2.1.1,i:=y.2.2.2.1.2.1,h:=y.2.2.2.1.2.2.1:ai};let x5:=gL x6;let q7:=(wrap i64 (y.1+1),(y.2.1.1,y.2.1.2.1,()),(y.2.2.1.1,y.2.2.1.2.1++[ed x6],()),(x5.b,x5.i,x5.h,()),());kj c y->bif decide (y.1<af x0 6) then bh x6/\y.2.2.1.2.1.length+List.length [ed x6]<=4294967296/\kj c q7/\kS c q7<kS c y else LM [DV.agg [CS y.2.2.1.1,CL .bc y.2.2.1.2.1]] [DV.agg [CS q4,CL .bc (cV c).ah]] [DV.box [CL .byte y.2.2.2.1.1,CI y.2.2.2.1.2.1,CI y.2.2.2.1.2.2.1]] [bU (cW c)] else kj c q2/\∀(y:Int×q0×q0×q3×PUnit),let x6:={b:=y.2.2.2.1.1,i:=y.2.2.2.1.2.1,h:=y.2.2.2.1.2.2.1:ai};let x5:=gL x6;let q8:=(wrap i64 (y.1+1),(y.2.1.1,y.2.1.2.1,()),(y.2.2.1.1,y.2.2.1.2.1++[ed x6],()),(x5.b,x5.i,x5.h,()),());kj c y->bif decide (y.1<1) then bh x6/\y.2.2.1.2.1.length+List.length [ed x6]<=4294967296/\kj c q8/\kS c q8<kS c y else LM [DV.agg [CS y.2.2.1.1,CL .bc y.2.2.1.2.1]] [DV.agg [CS q4,CL .bc (cV c).ah]] [DV.box [CL .byte y.2.2.2.1.1,CI y.2.2.2.1.2.1,CI y.2.2.2.1.2.2.1]] [bU (cW c)])
 dsimp only
 have hk:=dw bp cS
 have hd:=Hn bp
 have hle:=yt c
 have fin:∀(n:Int)(d:ai),fG c=n->yu c=d->
   kj c ((0:Int),(ao,[],PUnit.unit),(cx c cS,[],PUnit.unit),(d.b,d.i,d.h,PUnit.unit),PUnit.unit):=by
  rintro n d rfl rfl
  exact⟨by omega,by omega,rfl,hd,by simp,by simp only[Int.sub_zero];rfl,by simp only[Int.sub_zero];rfl⟩
 refine⟨bp,by simp,?_⟩
 refine ae (fun h=>⟨hk,ae (fun h'=>⟨(au hk 12).1,(au hk 12).2,?_⟩) (fun h'=> ?_)⟩) (fun h=>⟨hk,ae (fun h'=>⟨(au hk 12).1,(au hk 12).2,?_⟩) (fun h'=> ?_)⟩)
 ·have hN:fG c=af (aa (bT c cS) 12) 6:=if_pos h'
  have hD:yu c=aa (aa (bT c cS) 12) 6:=if_pos h'
  refine⟨fin _ _ hN hD,?_⟩
  have hN':af (aa (bT c cS) 12) 6=fG c:=hN.symm
  rintro⟨i,r,⟨fk,fl,⟨⟩⟩,⟨cb,ci,ch,⟨⟩⟩,⟨⟩⟩ ⟨g1,g2,g3,g4,g5,g6,g7⟩
  simp only at g1 g2 g3 g4 g5 g6 g7⊢
  refine ae ?_ ?_<;>intro hc
  ·have hc:i<fG c:=by rw[hN];exact yT hc
   have e:(fG c-i).toNat=(fG c-(i+1)).toNat+1:=by omega
   rw[e] at g6 g7
   rw[wi]
   exact⟨g4,by simp only[fK,fv];omega,⟨by omega,by omega,g3,kO g4,by simp only[ko,fK,fv];omega,g6,g7⟩,by simp only[kS];omega⟩
  ·have hc:¬i<fG c:=by rw[hN];exact yF hc
   have e:(fG c-i).toNat=0:=by omega
   rw[e] at g6 g7
   have g6:fl=(cV c).ah:=g6
   have g7:(⟨cb,ci,ch⟩:ai)=cW c:=g7
   have g3:fk=(cV c).Kind:=g3
   rw[<-g7,<-g6,<-g3]
   exact⟨by trivial,rfl,rfl⟩
 ·have h:cx c cS=Fl:=by rw[aQ] at h;exact yT h
  have hN:fG c=2:=by rw[fG,if_neg (by rw[show bP (bT c cS) 12=false from h'];simp),if_pos h]
  have hD:yu c=aa (bT c cS) 12:=if_neg (by rw[show bP (bT c cS) 12=false from h'];simp)
  refine⟨fin _ _ hN hD,?_⟩
  rintro⟨i,r,⟨fk,fl,⟨⟩⟩,⟨cb,ci,ch,⟨⟩⟩,⟨⟩⟩ ⟨g1,g2,g3,g4,g5,g6,g7⟩
  simp only at g1 g2 g3 g4 g5 g6 g7⊢
  refine ae ?_ ?_<;>intro hc
  ·have hc:i<fG c:=by rw[hN];exact yT hc
   have e:(fG c-i).toNat=(fG c-(i+1)).toNat+1:=by omega
   rw[e] at g6 g7
   rw[wi]
   exact⟨g4,by simp only[fK,fv];omega,⟨by omega,by omega,g3,kO g4,by simp only[ko,fK,fv];omega,g6,g7⟩,by simp only[kS];omega⟩
  ·have hc:¬i<fG c:=by rw[hN];exact yF hc
   have e:(fG c-i).toNat=0:=by omega
   rw[e] at g6 g7
   have g6:fl=(cV c).ah:=g6
   have g7:(⟨cb,ci,ch⟩:ai)=cW c:=g7
   have g3:fk=(cV c).Kind:=g3
   rw[<-g7,<-g6,<-g3]
   exact⟨by trivial,rfl,rfl⟩
 ·have hN:fG c=af (aa (bT c cS) 12) 6:=if_pos h'
  have hD:yu c=aa (aa (bT c cS) 12) 6:=if_pos h'
  refine⟨fin _ _ hN hD,?_⟩
  have hN':af (aa (bT c cS) 12) 6=fG c:=hN.symm
  rintro⟨i,r,⟨fk,fl,⟨⟩⟩,⟨cb,ci,ch,⟨⟩⟩,⟨⟩⟩ ⟨g1,g2,g3,g4,g5,g6,g7⟩
  simp only at g1 g2 g3 g4 g5 g6 g7⊢
  refine ae ?_ ?_<;>intro hc
  ·have hc:i<fG c:=by rw[hN];exact yT hc
   have e:(fG c-i).toNat=(fG c-(i+1)).toNat+1:=by omega
   rw[e] at g6 g7
   rw[wi]
   exact⟨g4,by simp only[fK,fv];omega,⟨by omega,by omega,g3,kO g4,by simp only[ko,fK,fv];omega,g6,g7⟩,by simp only[kS];omega⟩
  ·have hc:¬i<fG c:=by rw[hN];exact yF hc
   have e:(fG c-i).toNat=0:=by omega
   rw[e] at g6 g7
   have g6:fl=(cV c).ah:=g6
   have g7:(⟨cb,ci,ch⟩:ai)=cW c:=g7
   have g3:fk=(cV c).Kind:=g3
   rw[<-g7,<-g6,<-g3]
   exact⟨by trivial,rfl,rfl⟩
 ·have h:¬cx c cS=Fl:=by rw[aQ] at h;exact yF h
  have hN:fG c=1:=by rw[fG,if_neg (by rw[show bP (bT c cS) 12=false from h'];simp),if_neg h]
  have hD:yu c=aa (bT c cS) 12:=if_neg (by rw[show bP (bT c cS) 12=false from h'];simp)
  refine⟨fin _ _ hN hD,?_⟩
  rintro⟨i,r,⟨fk,fl,⟨⟩⟩,⟨cb,ci,ch,⟨⟩⟩,⟨⟩⟩ ⟨g1,g2,g3,g4,g5,g6,g7⟩
  simp only at g1 g2 g3 g4 g5 g6 g7⊢
  refine ae ?_ ?_<;>intro hc
  ·have hc:i<fG c:=by rw[hN];exact yT hc
   have e:(fG c-i).toNat=(fG c-(i+1)).toNat+1:=by omega
   rw[e] at g6 g7
   rw[wi]
   exact⟨g4,by simp only[fK,fv];omega,⟨by omega,by omega,g3,kO g4,by simp only[ko,fK,fv];omega,g6,g7⟩,by simp only[kS];omega⟩
  ·have hc:¬i<fG c:=by rw[hN];exact yF hc
   have e:(fG c-i).toNat=0:=by omega
   rw[e] at g6 g7
   have g6:fl=(cV c).ah:=g6
   have g7:(⟨cb,ci,ch⟩:ai)=cW c:=g7
   have g3:fk=(cV c).Kind:=g3
   rw[<-g7,<-g6,<-g3]
   exact⟨by trivial,rfl,rfl⟩
def YA:=bV (α:=ai) (q1 qU) [.box false] (fun c=>[bh c]) (fun c=>⟨[dA .dc (pb c)],[],[dU (kg c)]⟩)
def DJ(c:ai):T5×T5×T4×Unit->Prop:=fun(r,f,cu,_)=>f.1=(cV c).Kind/\bh ⟨cu.1,cu.2.1,cu.2.2.1⟩/\wX f.2.1 ⟨cu.1,cu.2.1,cu.2.2.1⟩=wX (cV c).ah (aa (cW c) 10)
def CW(c:ai):T5×T5×T4×Unit->Nat:=fun(r,f,cu,_)=>6-f.2.1.length
def aj8:AX YA:=fun c=>b_ [(8,aY [.box 2 (2,1024) [.lit .str,.own .bc true],.box 3 (3,1024) [.lit .str,.own .bc true],.box 0 (2000000,0) [.shr .byte,.lit (.int .i64),.lit (.int .i64)]] (fun _=>DJ c) (CW c))]
def TV:HH:=hF YA func103 [L_,nb,rJ,abS,ahf] aj8 fun(c:ai) hp hb=>by
 have bp:bh c:=hp _ m0
 clear hp hb
 apply vE (let x1:=[{data:= #[]:BA},{data:= #[(65:UInt8)]:BA},{data:= #[(116:UInt8),(104:UInt8),(105:UInt8),(114:UInt8),(116:UInt8),(101:UInt8),(101:UInt8),(110:UInt8),(98:UInt8),(121:UInt8),(116:UInt8),(101:UInt8),(115:UInt8)]:BA},{data:= #[(120:UInt8)]:BA}];let x2:=aa (cW c) 10;let x0:=bT x2 x1;let q0:=(pb c).Kind;bh c/\0<=(cW c).i/\(cW c).b.length<=4294967296/\bif af (cW c) (10:Int)==(0:Int) then bh x2/\1<=x1.length/\LM [DV.agg [CS (cx x2 x1),CL .bc (cV c).ah]] [DV.agg [CS q0,CL .bc (pb c).ah]] [bU x0] [bU (kg c)] else bif af (cW c) (10:Int)==(1:Int) then bh x2/\(cV c).ah.length+List.length [gF x2]<=4294967296/\LM [DV.agg [CS ((cV c).Kind),CL .bc ((cV c).ah++[gF x2])]] [DV.agg [CS q0,CL .bc (pb c).ah]] [bU (lW x2)] [bU (kg c)] else bif af (cW c) (10:Int)==(2:Int) then DJ c (({data:= #[]:BA},[],()),((cV c).Kind,(cV c).ah,()),(x2.b,x2.i,x2.h,()),())/\∀(y:Uy×Uy×OX×PUnit),let x5:={b:=y.2.2.1.1,i:=y.2.2.1.2.1,h:=y.2.2.1.2.2.1:ai};let x7:=y.2.1.2.1.length;let x3:=aa x5 2;let x4:=wrap i64 (5+af x5 2);let x6:=(↑x7:Int);let q1:=((y.1.1,y.1.2.1,()),(y.2.1.1,y.2.1.2.1++[lc x3],()),((kp x3).b,(kp x3).i,(kp x3).h,()),());DJ c y->0<=y.2.2.1.2.1/\L4 y.2.2.1.1.length/\bif decide (x6<x4) then bh x3/\x7+List.length [lc x3]<=4294967296/\DJ c q1/\CW c q1<CW c y else LM [DV.agg [CS y.2.1.1,CL .bc y.2.1.2.1]] [DV.agg [CS q0,CL .bc (pb c).ah]] [bU x3] [bU (kg c)] else LM [DV.agg [CS ((cV c).Kind),CL .bc (cV c).ah]] [DV.agg [CS q0,CL .bc (pb c).ah]] [bU x2] [bU (kg c)])
 dsimp only
 have h2:=lR bp
 have h3:=au h2 10
 have hle:=yt c
 have hl5:(cV c).ah.length<=5:=by rw[Al];omega
 refine⟨bp,h2.1,h2.2,ae (fun h=> ?_) (fun h=>ae (fun h'=> ?_) (fun h'=>ae (fun o9=> ?_) (fun o9=> ?_)))⟩
 ·have h:=eq_of_beq h
  have e1:pb c=⟨cx (aa (cW c) 10) D_,(cV c).ah⟩:=by simp only[pb,h,if_true]
  have e2:kg c=bT (aa (cW c) 10) D_:=by simp only[kg,h,if_true]
  rw[e1,e2];exact⟨h3,by simp,rfl,rfl,rfl⟩
 ·have h:¬af (cW c) 10=0:=by simpa using h
  have h':=eq_of_beq h'
  have e1:pb c=⟨(cV c).Kind,(cV c).ah++[gF (aa (cW c) 10)]⟩:=by simp only[pb];rw[if_neg h,if_pos h']
  have e2:kg c=lW (aa (cW c) 10):=by simp only[kg];rw[if_neg h,if_pos h']
  rw[e1,e2];exact⟨h3,by simp only[fK,fv];omega,rfl,rfl,rfl⟩
 ·have h:¬af (cW c) 10=0:=by simpa using h
  have h':¬af (cW c) 10=1:=by simpa using h'
  have o9:=eq_of_beq o9
  have e1:pb c=⟨(cV c).Kind,(wX (cV c).ah (aa (cW c) 10)).1⟩:=by simp only[pb];rw[if_neg h,if_neg h',if_pos o9]
  have e2:kg c=(wX (cV c).ah (aa (cW c) 10)).2:=by simp only[kg];rw[if_neg h,if_neg h',if_pos o9]
  rw[e1,e2]
  refine⟨⟨rfl,h3,rfl⟩,?_⟩
  rintro⟨r,⟨fk,fl,⟨⟩⟩,⟨cb,ci,ch,⟨⟩⟩,⟨⟩⟩ ⟨g1,g2,g3⟩
  simp only at g1 g2 g3⊢
  have hb:=bx (c:=⟨cb,ci,ch⟩) (n:=2) (by omega)
  rw[wi (n:=5+af ⟨cb,ci,ch⟩ 2)]
  refine⟨g2.1,g2.2,ae (fun hc=> ?_) (fun hc=> ?_)⟩
  ·have hc:=yT hc
   rw[En hc] at g3
   exact⟨au g2 2,by simp only[fK,fv];omega,⟨g1,B7 (au g2 2),g3⟩,by simp only[CW,ko,fK,fv];omega⟩
  ·have hc:=yF hc
   rw[HZ hc] at g3
   rw[<-g3,<-g1]
   exact⟨by trivial,rfl,rfl⟩
 ·have h:¬af (cW c) 10=0:=by simpa using h
  have h':¬af (cW c) 10=1:=by simpa using h'
  have o9:¬af (cW c) 10=2:=by simpa using o9
  have e1:pb c=cV c:=by simp only[pb];rw[if_neg h,if_neg h',if_neg o9]
  have e2:kg c=aa (cW c) 10:=by simp only[kg];rw[if_neg h,if_neg h',if_neg o9]
  rw[e1,e2];exact⟨rfl,rfl,rfl⟩
def Zk4:=bV (α:=List Int) (q1 (qL .byte)) [.ro] (fun _=>[]) (fun code=>⟨[dO (decide (code.length>1048576))],[],[]⟩)
def Zh4:HH:=hF Zk4 func4 [] a0 fun(code:List Int) hp hb=>by
 clear hp hb
 apply vE (Lb (decide ((code.length:Int)>1048576)) (decide (code.length>1048576)))
 exact cj (decide_eq_decide.2 (by omega))
theorem pz(c:ai):bB (ed c)=true:=by
 unfold ed;split
 ·have:=bx (c:=aa c 2) (n:=3) (by omega)
  simp only[bB,decide_true,cond_true,BL]
  simp only[decide_eq_true_eq];omega
 ·have h:=er (aa c 2) (l:=HJ) (fun s=>decide (s.size<=20)&&qD s) (by decide) (by rfl)
  simp only[bB]
  simpa using h
theorem AS{p:aS->Bool}(hp:∀c,p (ed c)=true):∀(k:Nat)(l:List aS)(c:ai),l.all p=true->(sL k l c).all p=true
 |0,_,_,h=>h
 |k+1,l,c,h=>AS hp k _ _ (by rw[List.all_append,h];simp[hp])
theorem oy(c:ai):bD (cV c)=true:=by
 have h1:=Al c
 have h2:=yt c
 have h3:bu (cV c).Kind=true:=er c (l:=cS) bu (by decide) (by rfl)
 have h4:(cV c).ah.all bB=true:=AS pz _ _ _ rfl
 simp only[bD,h3,h4,BL,wq,decide_eq_true_eq]
 omega
def DS(v:aS):Bool:=decide (v.S.size<=21)
def abx(f:aK):Prop:=f.Kind.size<=13/\f.ah.length<=6/\f.ah.all DS=true
theorem Gp{v:aS}(h:bB v=true):DS v=true:=by
 simp only[bB] at h
 simp only[DS,decide_eq_true_eq]
 by_cases h1:v.K=1
 ·simp[h1] at h;rw[h.2];simp[ao]
 ·by_cases h2:v.K=2
  ·simp[h2] at h;omega
  ·simp[h1,h2] at h
theorem Kb(c:ai):DS (lc c)=true:=by
 unfold lc;split
 ·rfl
 ·exact er (aa c 2) (l:=Q6) (fun s=>decide (s.size<=21)) (by decide) (by rfl)
theorem Hu(c:ai):DS (gF c)=true:=by
 have h:=Kb c
 simp only[gF];split
 ·exact h
 ·split
  ·exact h
  ·split
   ·exact er _ (l:=Kq) (fun s=>decide (s.size<=21)) (by decide) (by rfl)
   ·exact h
theorem H2{f:aK}(h:bD f=true):abx f:=by
 obtain⟨h1,h2,h3,h4⟩:=iU h
 exact⟨by omega,by omega,sC.2 fun v hv=>Gp (sC.1 h2 v hv)⟩
theorem Eo{l:List aS}{c:ai}(h:l.all DS=true)(hl:l.length<=6):(wX l c).1.all DS=true/\(wX l c).1.length<=6:=by
 have hb:=bx (c:=c) (n:=2) (by omega)
 by_cases hn:(l.length:Int)<5+af c 2
 ·rw[En hn]
  refine Eo (l:=l++[lc (aa c 2)]) ?_ ?_
  ·rw[List.all_append,h];simp[Kb]
  ·simp only[ko,fK,fv];omega
 ·rw[HZ hn];exact⟨h,hl⟩
termination_by 6-l.length
decreasing_by
 simp only[ko,fK,fv];omega
theorem Fm(c:ai):abx (pb c):=by
 obtain⟨h1,h2,h3⟩:=H2 (oy c)
 have h5:=(iU (oy c)).1
 simp only[pb];split
 ·refine⟨?_,h2,h3⟩
  have:=er (aa (cW c) 10) (l:=D_) (fun s=>decide (s.size<=13)) (by decide) (by rfl)
  simpa using this
 ·split
  ·exact⟨h1,by simp only[ko,fK,fv];omega,by rw[List.all_append,h3];simp[Hu]⟩
  ·split
   ·exact⟨h1,(Eo h3 h2).2,(Eo h3 h2).1⟩
   ·exact⟨h1,h2,h3⟩
theorem zE:∀{l:List aS},l.all DS=true->eu l<=22*l.length
 |[],_=>by simp[eu]
 |x::l,h=>by
  simp only[QM,cJ] at h
  have h1:=zE h.2
  have h2:=h.1
  simp only[DS,decide_eq_true_eq] at h2
  simp only[eu,fK,wh,Mr,nX] at h1⊢
  omega
theorem yp{f:aK}(h:abx f):db f<=145:=by
 obtain⟨h1,h2,h3⟩:=h
 have:=zE h3
 simp only[db];omega
theorem ZI{α:Type}(f:α->Nat)(B:Nat):∀(l:List α),(∀x∈l,f x<=B)->(l.map f).sum<=l.length*B
 |[],_=>by simp
 |x::l,h=>by
  have h1:=ZI f B l (fun y hy=>h y (fA _ hy))
  have h2:=h x iy
  simp only[wh,Mr,fK,xy];omega
theorem DT{l:List bq}{B:Nat}(h:∀u∈l,dq u<=B):bw l<=l.length*(B+1):=by
 have:=ZI dq B l h
 simp only[bw,Nat.mul_add];omega
theorem A7{s:BA}(h:bu s=true):s.size<=12:=by
 simp only[bu,cJ,decide_eq_true_eq] at h;omega
theorem xO{l:List bq}{t:aj}{B:Nat}(hB:400<=B)(h:∀u∈l,dq u<=B):∀u∈(bH l t).1,dq u<=B:=by
 unfold bH;split
 ·rename_i hc
  simp only[gz,cJ] at hc
  intro u hu
  rcases jC.1 hu with hu|hu
  ·exact h u hu
  ·rw[mI.1 hu]
   have h1:=wI t.F
   have h2:=A7 hc.1.1.2
   have h3:=zE (H2 hc.1.1.1.2).2.2
   have h4:=(H2 hc.1.1.1.2).2.1
   simp only[dq,db];omega
 ·exact h
theorem xP(l:List bq)(t:aj):(bH l t).1.length<=l.length+1:=by
 unfold bH;split<;>simp
def Q7:List BA:=[⟨#[114,101,102,117,110,100]⟩,⟨#[99,97,110,99,101,108]⟩]
def Gt(c:ai):aj:=⟨cV c,cx (cW c) Q7,0,0,0,dE⟩
def QZ(c:ai):ai:=bT (cW c) Q7
theorem Hl{c:ai}(h:bh c):bh (QZ c):=dw (lR h) _
def wJ:Nat->List bq->ai->List bq×ai
 |0,l,c=>(l,c)
 |k+1,l,c=>wJ k (bH l (Gt c)).1 (QZ c)
theorem Lx:∀(k:Nat){l:List bq}{c:ai},bh c->(∀u∈l,dq u<=400)->bh (wJ k l c).2/\(∀u∈(wJ k l c).1,dq u<=400)/\(wJ k l c).1.length<=l.length+k
 |0,_,_,h,h2=>⟨h,h2,by simp[wJ]⟩
 |k+1,l,c,h,h2=>by
  obtain⟨h3,h4,h5⟩:=Lx k (Hl h) (xO (t:=Gt c) (tX 400) h2)
  have:=xP l (Gt c)
  exact⟨h3,h4,by simp only[wJ];omega⟩
def cP(c:ai):List bq:=(wJ (af c 5).toNat [] (aa c 5)).1
def fN(c:ai):ai:=(wJ (af c 5).toNat [] (aa c 5)).2
theorem Kc{c:ai}(h:bh c):bh (fN c)/\(∀u∈cP c,dq u<=400)/\(cP c).length<=4:=by
 have hb:=bx (c:=c) (n:=5) (by omega)
 obtain⟨h1,h2,h3⟩:=Lx (af c 5).toNat (l:=[]) (au h 5) (by simp)
 exact⟨h1,h2,by simp only[fv] at h3;simp only[cP];omega⟩
def bX:BA:=⟨#[120]⟩
def ED(l:List bq):List BA:=[ao,(l.getD 0 bS).Key,bX]
noncomputable def sk(c:ai):List bq:=let l:=cP c;if l=[] then l else
 let k:=af (fN c) l.length;let d:=aa (fN c) l.length;let s:=af d 8;let e:=aa d 8
 if s=0 then l.modify k.toNat (fun u=>⟨cx e (ED l),u.F⟩) else if s=1 then l.modify k.toNat (fun u=>⟨u.Key,pb e⟩) else l
noncomputable def nA(c:ai):ai:=let l:=cP c;if l=[] then fN c else
 let d:=aa (fN c) l.length;let s:=af d 8;let e:=aa d 8
 if s=0 then bT e (ED l) else if s=1 then kg e else e
theorem Wa{l:List bq}{B:Nat}(h:∀u∈l,dq u<=B):(l.getD 0 bS).Key.size<=B:=by
 cases l with
 |nil=>simp[bS,ao]
 |cons x r=>have:=h x iy;simp only[dq] at this;simp only[List.getD_cons_zero];omega
theorem sT{α:Type}{p:α->Prop}(f:α->α)(hf:∀x,p x->p (f x)):∀(l:List α)(k:Nat),(∀x∈l,p x)->∀x∈l.modify k f,p x
 |[],k,h=>by simp
 |x::l,0,h=>by
  intro y hy
  simp only[List.modify_zero_cons,jZ] at hy
  rcases hy with rfl|hy
  ·exact hf x (h x iy)
  ·exact h y (fA _ hy)
 |x::l,k+1,h=>by
  intro y hy
  simp only[List.modify_succ_cons,jZ] at hy
  rcases hy with rfl|hy
  ·exact h y iy
  ·exact sT f hf l k (fun z hz=>h z (fA _ hz)) y hy
theorem u7{a a':List bq}(h:a=a'):dJ ([DV.one (Cell.sl Cd.aL a)]:List (DV UU))=dJ ([DV.one (Cell.sl Cd.aL a')]:List (DV UU)):=by rw[h]
def HE(u:bq):Prop:=u.Key.size<=400/\db u.F<=400
theorem UG{u:bq}(h:dq u<=400):HE u:=by simp only[dq] at h;exact⟨by omega,by omega⟩
theorem O4{u:bq}(h:HE u):dq u<=800:=by obtain⟨h1,h2⟩:=h;simp only[dq];omega
theorem Vy{l:List bq}(k:Nat){key:BA}(hk:key.size<=400)(h:∀u∈l,HE u):∀u∈l.modify k (fun u=>(⟨key,u.F⟩:bq)),HE u:=
 sT (p:=HE) (fun u=>(⟨key,u.F⟩:bq)) (fun u hu=>⟨hk,hu.2⟩) l k h
theorem adW{l:List bq}(k:Nat){f:aK}(hk:db f<=400)(h:∀u∈l,HE u):∀u∈l.modify k (fun u=>(⟨u.Key,f⟩:bq)),HE u:=
 sT (p:=HE) (fun u=>(⟨u.Key,f⟩:bq)) (fun u hu=>⟨hu.1,hk⟩) l k h
theorem OH{c:ai}(h:bh c):bh (nA c)/\(∀u∈sk c,dq u<=800)/\(sk c).length<=4:=by
 obtain⟨h1,h2,h3⟩:=Kc h
 have Oi:∀u∈cP c,HE u:=fun u hu=>UG (h2 u hu)
 have he:=au (au h1 (cP c).length) 8
 refine⟨?_,fun u hu=>O4 ?_,?_⟩
 ·simp only[nA];split
  ·exact h1
  ·split
   ·exact dw he _
   ·split
    ·exact Fe he
    ·exact he
 ·revert u
  simp only[sk];split
  ·exact Oi
  ·split
   ·refine Vy _ ?_ Oi
    have hk:=Kj (aa (aa (fN c) (cP c).length) 8) (l:=ED (cP c)) (by simp[ED])
    simp only[ED,jZ,NG,or_false] at hk
    show(cx _ (ED (cP c))).size<=400
    rcases hk with hk|hk|hk
    ·simp only[ED];rw[hk];simp[ao]
    ·simp only[ED];rw[hk];exact Wa h2
    ·simp only[ED];rw[hk];decide
   ·split
    ·exact adW _ (xr (yp (Fm _)) (by omega)) Oi
    ·exact Oi
 ·simp only[sk];split
  ·omega
  ·split
   ·simp only[Gm];omega
   ·split
    ·simp only[Gm];omega
    ·omega
def Yy:=bV (α:=ai) (q1 qU) [.box false] (fun c=>[bh c]) (fun c=>⟨[dL .aL (cP c)],[],[dU (fN c)]⟩)
def DI(c:ai):List bq×Int×T4×Unit->Prop:=fun(l,i,cu,_)=>0<=i/\i<=4/\bh ⟨cu.1,cu.2.1,cu.2.2.1⟩/\(∀u∈l,dq u<=400)/\l.length+i<=4/\wJ i.toNat l ⟨cu.1,cu.2.1,cu.2.2.1⟩=wJ (af c 5).toNat [] (aa c 5)
def CV(c:ai):List bq×Int×T4×Unit->Nat:=fun(l,i,cu,_)=>i.toNat
def aj6:AX Yy:=fun c=>b_ [(3,aY [iO 3 .aL,iI 4,.box 0 (2000000,0) [.shr .byte,.lit (.int .i64),.lit (.int .i64)]] (fun _=>DI c) (CV c))]
def aiY:HH:=hF Yy func106 [nb,L_,rJ,YZ] aj6 fun(c:ai) hp hb=>by
 have bp:bh c:=hp _ m0
 clear hp hb
 apply vE (let x0:=[{data:= #[(114:UInt8),(101:UInt8),(102:UInt8),(117:UInt8),(110:UInt8),(100:UInt8)]:BA},{data:= #[(99:UInt8),(97:UInt8),(110:UInt8),(99:UInt8),(101:UInt8),(108:UInt8)]:BA}];0<=c.i/\L4 c.b.length/\DI c ([],af c 5,((aa c 5).b,(aa c 5).i,(aa c 5).h,()),())/\∀(y:List bq×Int×OX×PUnit),let x3:={b:=y.2.2.1.1,i:=y.2.2.1.2.1,h:=y.2.2.1.2.2.1:ai};let x2:=cW x3;let x1:=bT x2 x0;let q0:=((bH {τ:=Cd.aL,xs:=y.1:fu UU}.xs {F:={Kind:=(cV x3).Kind,ah:={τ:=Cd.bc,xs:=(cV x3).ah:fu UU}.xs:aK},aR:=cx x2 x0,State:=(0:Int),bi:=(0:Int),ie:=(0:Int),V:={K:=(0:Int),N:=(0:Int),S:={data:= #[]:BA}:aS}:aj}).1,wrap i64 (y.2.1-1),(x1.b,x1.i,x1.h,()),());DI c y->bif decide (y.2.1>0) then bh x3/\bh x2/\1<=x0.length/\L4 (bw y.1)/\(cV x3).ah.length<=4294967296/\DI c q0/\CV c q0<CV c y else LM [VL .aL y.1] [VL .aL (cP c)] [DV.box [CL .byte y.2.2.1.1,CI y.2.2.1.2.1,CI y.2.2.1.2.2.1]] [bU (fN c)])
 dsimp only
 have hb:=bx (c:=c) (n:=5) (by omega)
 refine⟨bp.1,bp.2,⟨by omega,by omega,au bp 5,by simp,by simp only[fv];omega,rfl⟩,?_⟩
 rintro⟨l,i,⟨cb,ci,ch,⟨⟩⟩,⟨⟩⟩ ⟨g1,g2,g3,g4,g5,g6⟩
 simp only at g1 g2 g3 g4 g5 g6⊢
 refine ae ?_ ?_<;>intro hc
 ·have hc:=yT hc
  have e:i.toNat=(i-1).toNat+1:=by omega
  rw[e] at g6
  have hs:=DT g4
  have hf:=lR g3
  have hl:=(iU (oy ⟨cb,ci,ch⟩)).1
  have hq:=xP l (Gt ⟨cb,ci,ch⟩)
  rw[wi]
  refine⟨g3,hf,by simp,by omega,by omega,⟨by omega,by omega,Hl g3,xO (t:=Gt ⟨cb,ci,ch⟩) (tX 400) g4,?_,g6⟩,by simp only[CV];omega⟩
  have hq':((bH l (Gt ⟨cb,ci,ch⟩)).1.length:Int)<=l.length+1:=by omega
  exact Int.le_trans (Int.add_le_add_right hq' (i-1)) (by omega)
 ·have hc:=yF hc
  have e:i.toNat=0:=by omega
  rw[e] at g6
  have g7:l=cP c:=congrArg Prod.fst g6
  have g8:(⟨cb,ci,ch⟩:ai)=fN c:=congrArg Prod.snd g6
  rw[<-g7,<-g8]
  exact⟨by trivial,rfl,rfl⟩
def aob:=bV (α:=ai) (q1 qU) [.box false] (fun c=>[bh c]) (fun c=>⟨[dL .aL (sk c)],[],[dU (nA c)]⟩)
def ao4:HH:=hF aob func45 [aiY,nb,rJ,TV] a0 fun(c:ai) hp hb=>by
 have bp:bh c:=hp _ m0
 clear hp hb
 apply vE (let x2:=[{data:= #[]:BA},((cP c).getD (nat_lit 0) bS).Key,{data:= #[(120:UInt8)]:BA}];let x5:=(↑((cP c).length):Int);let x3:=aa (fN c) x5;let x4:=Int.toNat (af (fN c) x5);let x1:=aa x3 8;let x0:=bT x1 x2;bh c/\bif x5==0 then LM [VL .aL (cP c)] [VL .aL (sk c)] [bU (fN c)] [bU (nA c)] else 0<=(fN c).i/\(fN c).b.length<=4294967296/\0<=x3.i/\L4 x3.b.length/\bif af x3 (8:Int)==(0:Int) then(0:Int)<=(0:Int)/\Int.toNat 0<(cP c).length/\nat_lit 0<(cP c).length/\bh x1/\1<=x2.length/\0<=af (fN c) x5/\x4<(cP c).length/\x4<(cP c).length/\LM [VL .aL ((cP c).modify x4 fun(x:bq)=>{Key:=cx x1 x2,F:=x.F:bq})] [VL .aL (sk c)] [bU x0] [bU (nA c)] else bif af x3 (8:Int)==(1:Int) then bh x1/\0<=af (fN c) x5/\x4<(cP c).length/\x4<(cP c).length/\LM [VL .aL ((cP c).modify x4 fun(x:bq)=>{Key:=x.Key,F:=pb x1:bq})] [VL .aL (sk c)] [bU (kg x1)] [bU (nA c)] else LM [VL .aL (cP c)] [VL .aL (sk c)] [bU x1] [bU (nA c)])
 dsimp only
 obtain⟨h1,h2,h3⟩:=Kc bp
 refine⟨bp,ae (fun h=> ?_) (fun h=> ?_)⟩
 ·have h:cP c=[]:=FL (by have:=eq_of_beq h;omega)
  have e1:sk c=cP c:=by simp only[sk];rw[if_pos h]
  have e2:nA c=fN c:=by simp only[nA];rw[if_pos h]
  rw[e2];exact⟨by trivial,u7 e1.symm,rfl⟩
 have hn:¬cP c=[]:=by intro e;rw[e] at h;simp at h
 have hl:0<(cP c).length:=List.length_pos_iff.2 hn
 have hb:=bx (c:=fN c) (n:=(cP c).length) (by omega)
 have hd:=au h1 (cP c).length
 have he:=au hd 8
 refine⟨h1.1,h1.2,hd.1,hd.2,ae (fun g=> ?_) (fun g=>ae (fun g'=> ?_) (fun g'=> ?_))⟩
 ·have g:=eq_of_beq g
  have e1:sk c=(cP c).modify (af (fN c) (cP c).length).toNat (fun u=>⟨cx (aa (aa (fN c) (cP c).length) 8) (ED (cP c)),u.F⟩):=by simp only[sk];rw[if_neg hn,if_pos g]
  have e2:nA c=bT (aa (aa (fN c) (cP c).length) 8) (ED (cP c)):=by simp only[nA];rw[if_neg hn,if_pos g]
  rw[e2]
  exact⟨by omega,by simpa using hl,hl,he,by simp,hb.1,by omega,by omega,by trivial,u7 e1.symm,rfl⟩
 ·have g:¬af (aa (fN c) (cP c).length) 8=0:=by simpa using g
  have g':=eq_of_beq g'
  have e1:sk c=(cP c).modify (af (fN c) (cP c).length).toNat (fun u=>⟨u.Key,pb (aa (aa (fN c) (cP c).length) 8)⟩):=by simp only[sk];rw[if_neg hn,if_neg g,if_pos g']
  have e2:nA c=kg (aa (aa (fN c) (cP c).length) 8):=by simp only[nA];rw[if_neg hn,if_neg g,if_pos g']
  rw[e2]
  repeat' (first|exact u7 e1.symm|exact rfl|refine And.intro (by first|exact u7 e1.symm|exact he|exact hb.1|omega|trivial) ?_)
 ·have g:¬af (aa (fN c) (cP c).length) 8=0:=by simpa using g
  have g':¬af (aa (fN c) (cP c).length) 8=1:=by simpa using g'
  have e1:sk c=cP c:=by simp only[sk];rw[if_neg hn,if_neg g,if_neg g']
  have e2:nA c=aa (aa (fN c) (cP c).length) 8:=by simp only[nA];rw[if_neg hn,if_neg g,if_neg g']
  rw[e2];exact⟨by trivial,u7 e1.symm,rfl⟩
theorem NP(now:Int)(t:aj):(fU now t).F=t.F:=by unfold fU;split;split<;>rfl;rfl
theorem Q4{now:Int}(h0:0<=now)(h1:now<=1000000000)(t:aj)(h:f_ t=true):f_ (fU now t)=true:=by
 obtain⟨a1,a2,a3,a4,a5,a6,a7⟩:=fB.1 h
 unfold fU;split
 ·split
  ·exact fB.2 ⟨a1,a2,by simp,a4,a5,a6,by simp⟩
  ·have hb:=Fj (t.bi+1)
   exact fB.2 ⟨a1,a2,by simp,by simp only;omega,by simp only;omega,a6,by simp only;omega⟩
 ·exact h
theorem sJ{l:List aj}{now:Int}(h0:0<=now)(h1:now<=1000000000)(h:aW l=true):aW (l.map (fU now))=true:=AQ (NP now) (Q4 h0 h1) h
theorem Mz(l:List aj)(f:aK)(u:BA)(now:Int):(fC l f u now).1.length<=l.length+1:=by
 unfold fC;split
 ·simp
 ·split<;>simp
theorem Pf(l:List aj)(key:BA)(ok:Bool)(v:aS):(aB l key ok v).1.length=l.length:=by
 unfold aB;split
 ·split<;>simp
 ·rfl
def Kg(t:aj):Prop:=db t.F<=145/\t.aR.size<=21/\DS t.V=true
theorem UK{t:aj}(h:f_ t=true):Kg t:=by
 obtain⟨a1,a2,a3,a4,a5,a6,a7⟩:=fB.1 h
 refine⟨yp (H2 a1),?_,?_⟩
 ·simp only[fj,FI,decide_eq_true_eq] at a2
  rcases a2 with a2|a2
  ·rw[a2];simp[ao]
  ·have:=A7 a2;omega
 ·rcases a6 with a6|a6
  ·rw[a6];rfl
  ·exact Gp a6
theorem O5{t:aj}(h:Kg t):lB t<=187:=by
 obtain⟨h1,h2,h3⟩:=h
 simp only[DS,decide_eq_true_eq] at h3
 simp only[lB,nX];omega
theorem Mx{l:List aj}(h:∀t∈l,Kg t):ck l<=l.length*188:=by
 have:=ZI lB 187 l (fun t ht=>O5 (h t ht))
 simp only[ck];omega
def sLu:List BA:=[⟨#[]⟩,⟨#[114,101,102,117,110,100]⟩]
def dT1(l:List aj)(now:Int)(d:ai):List aj:=(fC l (cV d) (cx (cW d) sLu) now).1
def dT3(l:List aj)(d:ai):List aj:=
 let e:=aa d l.length
 (aB l (bg (l.getD (af d l.length).toNat aD).F) (!bP e 3) (ed (aa e 3))).1
def dT(l:List aj)(now:Int)(c:ai):List aj:=
 let k:=af c 4;let d:=aa c 4
 if k=0\/k=1 then dT1 l now d else if k=2 then l.map (fU (now+af d 40)) else if 0<l.length then dT3 l d else l
def dN(now:Int)(c:ai):Int:=if af c 4=2 then now+af (aa c 4) 40 else now
def dC(n:Nat)(c:ai):ai:=
 let k:=af c 4;let d:=aa c 4
 if k=0\/k=1 then bT (cW d) sLu else if k=2 then aa d 40 else if 0<n then gL (aa (aa d n) 3) else d
def wK:Nat->List aj->Int->ai->List aj×ai
 |0,l,_,c=>(l,c)
 |k+1,l,now,c=>wK k (dT l now c) (dN now c) (dC l.length c)
theorem Tj{n:Nat}{c:ai}(h:bh c):bh (dC n c):=by
 have h4:=au h 4
 simp only[dC];split
 ·exact dw (lR h4) _
 ·split
  ·exact au h4 _
  ·split
   ·exact kO (au (au h4 _) _)
   ·exact h4
theorem QW(c:ai):fj (cx c sLu)=true:=er c fj (by decide) (by rfl)
theorem Xv(now:Int)(c:ai):now<=dN now c/\dN now c<=now+39:=by
 have:=bx (c:=aa c 4) (n:=40) (by omega)
 unfold dN;split<;>omega
theorem Xu{l:List aj}{now:Int}{c:ai}(h:aW l=true)(h0:0<=now)(h1:now<=1000):aW (dT l now c)=true/\(dT l now c).length<=l.length+1:=by
 have hb:=bx (c:=aa c 4) (n:=40) (by omega)
 simp only[dT];split
 ·exact⟨nV h (oy _) (QW _) h0 (by omega),Mz _ _ _ _⟩
 ·split
  ·exact⟨sJ (by omega) (by omega) h,by simp⟩
  ·split
   ·exact⟨nW h,by simp only[dT3];rw[Pf];omega⟩
   ·exact⟨h,by omega⟩
theorem Ly:∀(k:Nat){l:List aj}{now:Int}{c:ai},bh c->aW l=true->0<=now->now+39*k<=1000->bh (wK k l now c).2/\aW (wK k l now c).1=true/\(wK k l now c).1.length<=l.length+k
 |0,_,_,_,h,h2,_,_=>⟨h,h2,by simp[wK]⟩
 |k+1,l,now,c,h,h2,h3,h4=>by
  have hn:=Xv now c
  obtain⟨t1,t2⟩:=Xu (c:=c) h2 h3 (by omega)
  obtain⟨h3,h4,h5⟩:=Ly k (l:=dT l now c) (now:=dN now c) (c:=dC l.length c) (Tj h) t1 (by omega) (by omega)
  exact⟨h3,h4,by simp only[wK];omega⟩
def cZ(c:ai):List aj:=(wK (af c 8).toNat [] 0 (aa c 8)).1
def iP(c:ai):ai:=(wK (af c 8).toNat [] 0 (aa c 8)).2
theorem Ke{c:ai}(h:bh c):bh (iP c)/\aW (cZ c)=true/\(cZ c).length<=7:=by
 have hb:=bx (c:=c) (n:=8) (by omega)
 obtain⟨h1,h2,h3⟩:=Ly (af c 8).toNat (l:=[]) (now:=0) (au h 8) rfl (by omega) (by omega)
 exact⟨h1,h2,by simp only[fv] at h3;simp only[cZ];omega⟩
theorem A_{a b:Int}{P Q:Prop}(h1:a=b->P)(h2:¬a=b->Q):bif a==b then P else Q:=ae (fun h=>h1 (eq_of_beq h)) (fun h=>h2 (fun e=>by rw[e] at h;simp at h))
theorem anI{l:List aj}{now:Int}{c:ai}(h:af c 4=0\/af c 4=1):dT l now c=dT1 l now (aa c 4)/\dN now c=now/\dC l.length c=bT (cW (aa c 4)) sLu:=
 ⟨by simp only[dT];rw[if_pos h],by rw[dN,if_neg (by omega)],by simp only[dC];rw[if_pos h]⟩
theorem anH{l:List aj}{now:Int}{c:ai}(h:af c 4=2):dT l now c=l.map (fU (now+af (aa c 4) 40))/\dN now c=now+af (aa c 4) 40/\dC l.length c=aa (aa c 4) 40:=
 ⟨by simp only[dT];rw[if_neg (by omega),if_pos h],by rw[dN,if_pos h],by simp only[dC];rw[if_neg (by omega),if_pos h]⟩
theorem anG{l:List aj}{now:Int}{c:ai}(h0:¬af c 4=0)(h1:¬af c 4=1)(h2:¬af c 4=2)(hl:0<l.length):dT l now c=dT3 l (aa c 4)/\dN now c=now/\dC l.length c=gL (aa (aa (aa c 4) l.length) 3):=
 ⟨by simp only[dT];rw[if_neg (by omega),if_neg h2,if_pos hl],by rw[dN,if_neg h2],by simp only[dC];rw[if_neg (by omega),if_neg h2,if_pos hl]⟩
theorem anF{l:List aj}{now:Int}{c:ai}(h0:¬af c 4=0)(h1:¬af c 4=1)(h2:¬af c 4=2)(hl:¬0<l.length):dT l now c=l/\dN now c=now/\dC l.length c=aa c 4:=
 ⟨by simp only[dT];rw[if_neg (by omega),if_neg h2,if_neg hl],by rw[dN,if_neg h2],by simp only[dC];rw[if_neg (by omega),if_neg h2,if_neg hl]⟩
def Yz:=bV (α:=ai) (q1 qU) [.box false] (fun c=>[bh c]) (fun c=>⟨[dL .ax (cZ c)],[],[dU (iP c)]⟩)
def rk(c:ai):List aj×Int×Int×T4×Unit->Prop:=fun(l,now,i,cu,_)=>0<=i/\i<=7/\0<=now/\now+39*i<=1000/\bh ⟨cu.1,cu.2.1,cu.2.2.1⟩/\aW l=true/\wK i.toNat l now ⟨cu.1,cu.2.1,cu.2.2.1⟩=wK (af c 8).toNat [] 0 (aa c 8)
def mb(c:ai):List aj×Int×Int×T4×Unit->Nat:=fun(l,now,i,cu,_)=>i.toNat
def aj7:AX Yz:=fun c=>b_ [(4,aY [iO 3 .ax,iI 4,iI 5,.box 0 (2000000,0) [.shr .byte,.lit (.int .i64),.lit (.int .i64)]] (fun _=>rk c) (mb c))]
def aiZ:HH:=hF Yz func105 [nb,L_,rJ,TS,YR,Hy,xo,L8,ag'] aj7 fun(c:ai) hp hb=>by
 have bp:bh c:=hp _ m0
 clear hp hb
 apply vE (let x0:=[{data:= #[]:BA},{data:= #[(114:UInt8),(101:UInt8),(102:UInt8),(117:UInt8),(110:UInt8),(100:UInt8)]:BA}];0<=c.i/\L4 c.b.length/\rk c ([],0,af c 8,((aa c 8).b,(aa c 8).i,(aa c 8).h,()),())/\∀(y:List aj×Int×Int×OX×PUnit),let x3:={b:=y.2.2.2.1.1,i:=y.2.2.2.1.2.1,h:=y.2.2.2.1.2.2.1:ai};let x4:=wrap i64 (y.2.2.1-1);let x9:=(y.1.length:Int);let x1:=aa x3 4;let x2:=af x3 4;let x5:=wrap i64 (y.2.1+af x1 40);let x8:=aa (aa x1 x9) 3;let x6:=ed x8;let x7:=gL x8;let q0:=bif x2==2 then 0<=x1.i/\L4 x1.b.length/\aW y.1=true/\(0<=x5/\x5<=1000000000)/\rk c (y.1.map (fU x5),x5,x4,((aa x1 40).b,(aa x1 40).i,(aa x1 40).h,()),())/\mb c (y.1.map (fU x5),x5,x4,((aa x1 40).b,(aa x1 40).i,(aa x1 40).h,()),())<mb c y else bif decide (x9>0) then 0<=x1.i/\L4 x1.b.length/\0<=af x1 x9/\Int.toNat (af x1 x9)<y.1.length/\Int.toNat (af x1 x9)<y.1.length/\Int.toNat (af x1 x9)<y.1.length/\bh (aa x1 x9)/\bh x8/\aW y.1=true/\bB x6=true/\rk c ((aB {τ:=Cd.ax,xs:=y.1:fu UU}.xs (bg (y.1.getD (Int.toNat (af x1 x9)) aD).F) (!bP (aa x1 x9) 3) {K:=x6.K,N:=x6.N,S:=x6.S:aS}).1,y.2.1,x4,(x7.b,x7.i,x7.h,()),())/\mb c ((aB {τ:=Cd.ax,xs:=y.1:fu UU}.xs (bg (y.1.getD (Int.toNat (af x1 x9)) aD).F) (!bP (aa x1 x9) 3) {K:=x6.K,N:=x6.N,S:=x6.S:aS}).1,y.2.1,x4,(x7.b,x7.i,x7.h,()),())<mb c y else rk c (y.1,y.2.1,x4,(x1.b,x1.i,x1.h,()),())/\mb c (y.1,y.2.1,x4,(x1.b,x1.i,x1.h,()),())<mb c y;let q1:=((fC {τ:=Cd.ax,xs:=y.1:fu UU}.xs {Kind:=(cV x1).Kind,ah:={τ:=Cd.bc,xs:=(cV x1).ah:fu UU}.xs:aK} (cx (cW x1) x0) y.2.1).1,y.2.1,x4,((bT (cW x1) x0).b,(bT (cW x1) x0).i,(bT (cW x1) x0).h,()),());let q2:=bh x1/\bh (cW x1)/\1<=x0.length/\(cV x1).ah.length<=4294967296/\rk c q1/\mb c q1<mb c y;rk c y->bif decide (y.2.2.1>0) then 0<=y.2.2.2.1.2.1/\L4 y.2.2.2.1.1.length/\bif x2==0 then bif x2==0 then q2 else q0 else bif x2==1 then q2 else q0 else LM [VL .ax y.1] [VL .ax (cZ c)] [DV.box [CL .byte y.2.2.2.1.1,CI y.2.2.2.1.2.1,CI y.2.2.2.1.2.2.1]] [bU (iP c)])
 dsimp only
 have hb:=bx (c:=c) (n:=8) (by omega)
 refine⟨bp.1,bp.2,⟨by omega,by omega,by omega,by omega,au bp 8,rfl,rfl⟩,?_⟩
 rintro⟨l,now,i,⟨cb,ci,ch,⟨⟩⟩,⟨⟩⟩ ⟨g1,g2,g3,g4,g5,g6,g7⟩
 simp only at g1 g2 g3 g4 g5 g6 g7⊢
 refine ae ?_ ?_<;>intro hc
 ·have hc:=yT hc
  have e:i.toNat=(i-1).toNat+1:=by omega
  rw[e] at g7
  refine⟨g5.1,g5.2,?_⟩
  generalize Ge:(⟨cb,ci,ch⟩:ai)=cu at*
  have h4:=au g5 4
  have hl:=(iU (oy (aa cu 4))).1
  have hd:=bx (c:=aa cu 4) (n:=40) (by omega)
  have hn:=Xv now cu
  obtain⟨t1,t2⟩:=Xu (c:=cu) g6 g3 (by omega)
  have fin:∀(l':List aj)(aar:Int)(cu':ai),l'=dT l now cu->aar=dN now cu->cu'=dC l.length cu->
    rk c (l',aar,i-1,(cu'.b,cu'.i,cu'.h,PUnit.unit),PUnit.unit)/\mb c (l',aar,i-1,(cu'.b,cu'.i,cu'.h,PUnit.unit),PUnit.unit)<mb c (l,now,i,(cb,ci,ch,PUnit.unit),PUnit.unit):=by
   rintro _ _ _ rfl rfl rfl
   exact⟨⟨by omega,by omega,by omega,by omega,Tj g5,t1,g7⟩,by simp only[mb];omega⟩
  rw[wi (n:=i-1),wi (n:=now+af (aa cu 4) 40)]
  repeat' (refine A_ (fun h=> ?_) (fun h=> ?_))
  all_goals first
   |(exfalso;omega)
   |(obtain⟨q1,q2,q3⟩:=anI (l:=l) (now:=now) (c:=cu) (by omega)
     exact⟨h4,lR h4,by simp,by omega,fin _ _ _ q1.symm q2.symm q3.symm⟩)
   |(obtain⟨q1,q2,q3⟩:=anH (l:=l) (now:=now) (c:=cu) (by omega)
     exact⟨h4.1,h4.2,g6,⟨by omega,by omega⟩,fin _ _ _ q1.symm q2.symm q3.symm⟩)
   |skip
  all_goals refine ae ?_ ?_<;>intro hl
  ·have hl:=yT hl
   obtain⟨q1,q2,q3⟩:=anG (l:=l) (now:=now) (c:=cu) (by omega) (by omega) (by omega) (by omega)
   have hj:=bx (c:=aa cu 4) (n:=l.length) (by omega)
   have h5:=au h4 l.length
   have h6:=au h5 3
   exact⟨h4.1,h4.2,hj.1,by omega,by omega,by omega,h5,h6,g6,pz _,fin _ _ _ q1.symm q2.symm q3.symm⟩
  ·have hl:=yF hl
   obtain⟨q1,q2,q3⟩:=anF (l:=l) (now:=now) (c:=cu) (by omega) (by omega) (by omega) (by omega)
   exact fin _ _ _ q1.symm q2.symm q3.symm
 ·have hc:=yF hc
  have e:i.toNat=0:=by omega
  rw[e] at g7
  have g8:l=cZ c:=congrArg Prod.fst g7
  have g9:(⟨cb,ci,ch⟩:ai)=iP c:=congrArg Prod.snd g7
  rw[<-g8,<-g9]
  exact⟨by trivial,rfl,rfl⟩
def D9:List BA:=[⟨#[]⟩,⟨#[65]⟩,⟨#[117,110,100,111]⟩]
def BU:List Int:=[-1,0,4,5]
def N8:List Int:=[-1,1000001000,1000001001]
def asF(f:aK)(x:aj):aj:=⟨f,x.aR,x.State,x.bi,x.ie,x.V⟩
def Tt(u:BA)(x:aj):aj:=⟨x.F,u,x.State,x.bi,x.ie,x.V⟩
def OE(n:Int)(x:aj):aj:=⟨x.F,x.aR,n,x.bi,x.ie,x.V⟩
def OD(n:Int)(x:aj):aj:=⟨x.F,x.aR,x.State,n,x.ie,x.V⟩
def Xy(n:Int)(x:aj):aj:=⟨x.F,x.aR,x.State,x.bi,n,x.V⟩
def asV(v:aS)(x:aj):aj:=⟨x.F,x.aR,x.State,x.bi,x.ie,v⟩
noncomputable def nz(s:Int)(e:ai)(x:aj):aj:=
 if s=0 then asF (pb e) x else if s=1 then Tt (cx e D9) x else if s=2 then OE (af e 6) x else if s=3 then OD (gU e BU) x else if s=4 then Xy (gU e N8) x else if s=5 then asV (gF e) x else x
noncomputable def lT(s:Int)(e:ai):ai:=
 if s=0 then kg e else if s=1 then bT e D9 else if s=2 then aa e 6 else if s=3 then ku e BU else if s=4 then ku e N8 else if s=5 then lW e else e
noncomputable def sn(c:ai):List aj:=if cZ c=[] then cZ c else
 (cZ c).modify (af (iP c) (cZ c).length).toNat (nz (af (aa (iP c) (cZ c).length) 14) (aa (aa (iP c) (cZ c).length) 14))
noncomputable def po(c:ai):ai:=if cZ c=[] then iP c else
 lT (af (aa (iP c) (cZ c).length) 14) (aa (aa (iP c) (cZ c).length) 14)
theorem Tk{s:Int}{e:ai}(h:bh e):bh (lT s e):=by
 unfold lT
 repeat' split
 ·exact Fe h
 ·exact dw h _
 ·exact au h _
 ·exact iG h _
 ·exact iG h _
 ·exact LJ h
 ·exact h
theorem To{s:Int}{e:ai}{x:aj}(h:Kg x):Kg (nz s e x):=by
 obtain⟨h1,h2,h3⟩:=h
 unfold nz
 repeat' split
 ·exact⟨yp (Fm e),h2,h3⟩
 ·refine⟨h1,?_,h3⟩
  have:=er e (l:=D9) (fun s=>decide (s.size<=21)) (by decide) (by rfl)
  exact yT this
 ·exact⟨h1,h2,h3⟩
 ·exact⟨h1,h2,h3⟩
 ·exact⟨h1,h2,h3⟩
 ·exact⟨h1,h2,Hu e⟩
 ·exact⟨h1,h2,h3⟩
theorem OI{c:ai}(h:bh c):bh (po c)/\(∀t∈sn c,Kg t)/\(sn c).length<=7:=by
 obtain⟨h1,h2,h3⟩:=Ke h
 have h4:∀t∈cZ c,Kg t:=fun t ht=>UK ((mA.1 h2).2.1 t ht)
 refine⟨?_,?_,?_⟩
 ·unfold po;split
  ·exact h1
  ·exact Tk (au (au h1 _) _)
 ·unfold sn;split
  ·exact h4
  ·exact sT (p:=Kg) _ (fun x hx=>To hx) _ _ h4
 ·unfold sn;split
  ·exact h3
  ·rw[Gm];exact h3
def aoc:=bV (α:=ai) (q1 qU) [.box false] (fun c=>[bh c]) (fun c=>⟨[dL .ax (sn c)],[],[dU (po c)]⟩)
def ao5:HH:=hF aoc func44 [aiZ,nb,TV,rJ,FD,abS] a0 fun(c:ai) hp hb=>by
 have bp:bh c:=hp _ m0
 clear hp hb
 apply vE (let x2:=[{data:= #[]:BA},{data:= #[(65:UInt8)]:BA},{data:= #[(117:UInt8),(110:UInt8),(100:UInt8),(111:UInt8)]:BA}];let mG:=[(-1),0,4,5];let gK:=[(-1),1000001000,1000001001];let pE:=(↑((cZ c).length):Int);let x5:=Int.toNat (af (iP c) pE);let x8:=mG.length;let x9:=aa (iP c) pE;let qk:=gK.length;let x0:=aa x9 14;let x1:=bT x0 x2;let x3:=af x9 14;let x7:=(↑x8:Int);let ly:=(↑qk:Int);let x4:=aa x0 x7;let x6:=aa x0 ly;bh c/\bif pE==0 then LM [VL .ax (cZ c)] [VL .ax (sn c)] [bU (iP c)] [bU (po c)] else 0<=(iP c).i/\(iP c).b.length<=4294967296/\0<=af (iP c) pE/\x5<(cZ c).length/\0<=x9.i/\L4 x9.b.length/\bif x3==0 then bh x0/\x5<(cZ c).length/\LM [VL .ax ((cZ c).modify x5 fun(x:aj)=>{F:=pb x0,aR:=x.aR,State:=x.State,bi:=x.bi,ie:=x.ie,V:=x.V:aj})] [VL .ax (sn c)] [bU (kg x0)] [bU (po c)] else bif x3==1 then bh x0/\1<=x2.length/\x5<(cZ c).length/\LM [VL .ax ((cZ c).modify x5 fun(x:aj)=>{F:=x.F,aR:=cx x0 x2,State:=x.State,bi:=x.bi,ie:=x.ie,V:=x.V:aj})] [VL .ax (sn c)] [bU x1] [bU (po c)] else bif x3==2 then 0<=x0.i/\L4 x0.b.length/\x5<(cZ c).length/\LM [VL .ax ((cZ c).modify x5 fun(x:aj)=>{F:=x.F,aR:=x.aR,State:=af x0 6,bi:=x.bi,ie:=x.ie,V:=x.V:aj})] [VL .ax (sn c)] [bU (aa x0 6)] [bU (po c)] else bif x3==3 then 0<=x0.i/\L4 x0.b.length/\1<=x8/\x5<(cZ c).length/\LM [VL .ax ((cZ c).modify x5 fun(x:aj)=>{F:=x.F,aR:=x.aR,State:=x.State,bi:=mG.getD (Int.toNat (af x0 x7)) 0,ie:=x.ie,V:=x.V:aj})] [VL .ax (sn c)] [bU x4] [bU (po c)] else bif x3==4 then 0<=x0.i/\L4 x0.b.length/\1<=qk/\x5<(cZ c).length/\LM [VL .ax ((cZ c).modify x5 fun(x:aj)=>{F:=x.F,aR:=x.aR,State:=x.State,bi:=x.bi,ie:=gK.getD (Int.toNat (af x0 ly)) 0,V:=x.V:aj})] [VL .ax (sn c)] [bU x6] [bU (po c)] else bif x3==5 then bh x0/\x5<(cZ c).length/\LM [VL .ax ((cZ c).modify x5 fun(x:aj)=>{F:=x.F,aR:=x.aR,State:=x.State,bi:=x.bi,ie:=x.ie,V:=gF x0:aj})] [VL .ax (sn c)] [bU (lW x0)] [bU (po c)] else LM [VL .ax (cZ c)] [VL .ax (sn c)] [bU x0] [bU (po c)])
 dsimp only
 obtain⟨h1,h2,h3⟩:=Ke bp
 refine⟨bp,A_ (fun h=> ?_) (fun h=> ?_)⟩
 ·have h:cZ c=[]:=FL (by omega)
  have e1:sn c=cZ c:=if_pos h
  have e2:po c=iP c:=if_pos h
  rw[e2];exact⟨by trivial,vV e1.symm,rfl⟩
 have hn:¬cZ c=[]:=by intro e;rw[e] at h;simp at h
 have hl:0<(cZ c).length:=List.length_pos_iff.2 hn
 have hb:=bx (c:=iP c) (n:=(cZ c).length) (by omega)
 have hd:=au h1 (cZ c).length
 have he:=au hd 14
 have e1:sn c=_:=if_neg hn
 have e2:po c=_:=if_neg hn
 refine⟨h1.1,h1.2,hb.1,by omega,hd.1,hd.2,?_⟩
 rw[e2]
 generalize af (aa (iP c) (cZ c).length) 14=s at e1⊢
 generalize aa (aa (iP c) (cZ c).length) 14=e at he e1⊢
 generalize hk:(af (iP c) (cZ c).length).toNat=k at e1⊢
 have Xj:k<(cZ c).length:=by omega
 have fin:∀(f:aj->aj)(d:ai),nz s e=f->lT s e=d->dJ ([DV.one (Cell.sl Cd.ax ((cZ c).modify k f))]:List (DV UU))=dJ ([DV.one (Cell.sl Cd.ax (sn c))]:List (DV UU))/\
   dJ ([DV.box [Cell.sl Cd.byte d.b,Cell.lit (Value.int IntKind.i64 d.i),Cell.lit (Value.int IntKind.i64 d.h)]]:List (DV UU))=dJ ([DV.box [Cell.sl Cd.byte (lT s e).b,Cell.lit (Value.int IntKind.i64 (lT s e).i),Cell.lit (Value.int IntKind.i64 (lT s e).h)]]:List (DV UU)):=by
  rintro _ _ rfl rfl
  exact⟨vV e1.symm,rfl⟩
 refine A_ ?_ ?_<;>intro n0
 ·have hf:nz s e=asF (pb e):=by funext x;unfold nz;rw[if_pos n0]
  have hd:lT s e=kg e:=by unfold lT;rw[if_pos n0]
  obtain⟨f1,f2⟩:=fin _ _ hf hd
  repeat' (first|exact f1|exact f2|refine And.intro (by first|exact f1|exact he|exact he.1|exact he.2|omega|simp;done) ?_)
 refine A_ ?_ ?_<;>intro n1
 ·have hf:nz s e=Tt (cx e D9):=by funext x;unfold nz;rw[if_neg n0,if_pos n1]
  have hd:lT s e=bT e D9:=by unfold lT;rw[if_neg n0,if_pos n1]
  obtain⟨f1,f2⟩:=fin _ _ hf hd
  repeat' (first|exact f1|exact f2|refine And.intro (by first|exact f1|exact he|exact he.1|exact he.2|omega|simp;done) ?_)
 refine A_ ?_ ?_<;>intro n2
 ·have hf:nz s e=OE (af e 6):=by funext x;unfold nz;rw[if_neg n0,if_neg n1,if_pos n2]
  have hd:lT s e=aa e 6:=by unfold lT;rw[if_neg n0,if_neg n1,if_pos n2]
  obtain⟨f1,f2⟩:=fin _ _ hf hd
  repeat' (first|exact f1|exact f2|refine And.intro (by first|exact f1|exact he|exact he.1|exact he.2|omega|simp;done) ?_)
 refine A_ ?_ ?_<;>intro n3
 ·have hf:nz s e=OD (gU e BU):=by funext x;unfold nz;rw[if_neg n0,if_neg n1,if_neg n2,if_pos n3]
  have hd:lT s e=ku e BU:=by unfold lT;rw[if_neg n0,if_neg n1,if_neg n2,if_pos n3]
  obtain⟨f1,f2⟩:=fin _ _ hf hd
  repeat' (first|exact f1|exact f2|refine And.intro (by first|exact f1|exact he|exact he.1|exact he.2|omega|simp;done) ?_)
 refine A_ ?_ ?_<;>intro n4
 ·have hf:nz s e=Xy (gU e N8):=by funext x;unfold nz;rw[if_neg n0,if_neg n1,if_neg n2,if_neg n3,if_pos n4]
  have hd:lT s e=ku e N8:=by unfold lT;rw[if_neg n0,if_neg n1,if_neg n2,if_neg n3,if_pos n4]
  obtain⟨f1,f2⟩:=fin _ _ hf hd
  repeat' (first|exact f1|exact f2|refine And.intro (by first|exact f1|exact he|exact he.1|exact he.2|omega|simp;done) ?_)
 refine A_ ?_ ?_<;>intro n5
 ·have hf:nz s e=asV (gF e):=by funext x;unfold nz;rw[if_neg n0,if_neg n1,if_neg n2,if_neg n3,if_neg n4,if_pos n5]
  have hd:lT s e=lW e:=by unfold lT;rw[if_neg n0,if_neg n1,if_neg n2,if_neg n3,if_neg n4,if_pos n5]
  obtain⟨f1,f2⟩:=fin _ _ hf hd
  repeat' (first|exact f1|exact f2|refine And.intro (by first|exact f1|exact he|exact he.1|exact he.2|omega|simp;done) ?_)
 have hf:nz s e=id:=by funext x;unfold nz;rw[if_neg n0,if_neg n1,if_neg n2,if_neg n3,if_neg n4,if_neg n5];rfl
 have hd:lT s e=e:=by unfold lT;rw[if_neg n0,if_neg n1,if_neg n2,if_neg n3,if_neg n4,if_neg n5]
 have hm:sn c=cZ c:=by rw[e1,hf];exact List.modify_id _ _
 obtain⟨f1,f2⟩:=fin _ _ hf hd
 exact⟨by trivial,vV hm.symm,f2⟩
theorem oi{s:aF}:bm s=true↔(1<=s.Next/\s.Next<=1000000)/\s.ab.length<=40/\(∀x∈s.ab,bD x.F=true/\1<=x.Id/\x.Id<s.Next)/\s.ab.Pairwise (fun a b=>a.Id<b.Id/\a.F≠b.F):=by
 have hg:∀{i:Nat}(h:i<s.ab.length),s.ab.getD i a_=s.ab[i]:=fun{i} h=>by rw[ez,fw h];rfl
 simp only[bm,cJ,decide_eq_true_eq,<-DZ,and_assoc]
 refine and_congr_right fun _=>and_congr_right fun _=>and_congr_right fun _=> ?_
 rw[fY]
 constructor
 ·intro h
  have hb:∀i,i<s.ab.length->jP s i=true:=fun i hi=>by
   have:=h i hi
   simp only[jc,cJ] at this
   exact this.1
  refine⟨fun t ht=> ?_,?_⟩
  ·obtain⟨i,hi,rfl⟩:=sG ht
   have:=hb i hi
   simp only[jP,cJ,decide_eq_true_eq] at this
   rw[<-hg hi];exact⟨this.1.1.1,this.1.1.2,this.1.2⟩
  ·rw[UC]
   intro i j hi hj FQ
   refine⟨by have:=LQ hb i j FQ hj;rw[hg hi,hg hj] at this;exact this,fun e=> ?_⟩
   have:=h j hj
   simp only[jc,cJ,ru] at this
   have:=yF (oE.1 this.2 i FQ)
   rw[hg hi,hg hj] at this
   exact this e.symm
 ·rintro⟨h1,h2⟩ j hj
  rw[UC] at h2
  obtain⟨q1,q2,q3⟩:=h1 _ (FH hj)
  simp only[jc,jP,cJ,ru,decide_eq_true_eq,Bool.and_eq_false_iff,decide_eq_false_iff_not]
  refine⟨⟨⟨⟨by rw[hg hj];exact q1,by rw[hg hj];exact q2⟩,by rw[hg hj];exact q3⟩,?_⟩,oE.2 fun i FQ=>decide_eq_false fun e=> ?_⟩
  ·by_cases h0:0<j
   ·right
    have:=(h2 (j-1) j (by omega) hj (by omega)).1
    rw[hg hj,hg (show j-1<s.ab.length by omega)];omega
   ·exact .inl h0
  ·have hi:i<s.ab.length:=by omega
   rw[hg hi,hg hj] at e
   exact(h2 i j hi hj FQ).2 e.symm
theorem GQ{s:aF}(h:bm s=true){f:aK}(h0:ib s.ab f=0):∀x∈s.ab,x.F≠f:=by
 intro x hx e
 obtain⟨i,hi,rfl⟩:=sG hx
 rcases ig s.ab.length (fun k=>decide ((s.ab.getD k a_).F=f)) with⟨_,h2⟩|⟨m,g1,g2,_,_⟩
 ·have:=yF (h2 i hi)
  rw[ez,fw hi] at this
  exact this e
 ·have e2:EH s.ab f=m:=g2
  rw[ib,e2,if_neg (by omega)] at h0
  have:=(ju h).2.2.2 (s.ab.getD m a_) (gJ g1)
  rw[Zb] at h0
  omega
theorem D1{s:aF}(h:bm s=true){f:aK}(hf:bD f=true):bm (bQ s f).1=true:=by
 unfold bQ
 split
 ·exact h
 ·rename_i h0
  split
  ·exact h
  ·rename_i h1
   have hn:=GQ h (f:=f) (Decidable.not_not.1 h0)
   obtain⟨g1,g2,g3,g4⟩:=oi.1 h
   refine oi.2 ⟨⟨by show 1<=s.Next+1;omega,by show s.Next+1<=1000000;omega⟩,by simp only[ko,fK,fv];omega,fun x hx=> ?_,?_⟩
   ·show _/\_/\_<s.Next+1
    rcases jC.1 hx with hx|hx
    ·obtain⟨a,b,c⟩:=g3 x hx;exact⟨a,b,by omega⟩
    ·rw[mI.1 hx];exact⟨hf,g1.1,by show s.Next<s.Next+1;omega⟩
   ·rw[List.pairwise_append]
    refine⟨g4,List.pairwise_singleton _ _,fun a ha b hb=> ?_⟩
    rw[mI.1 hb]
    exact⟨(g3 a ha).2.2,hn a ha⟩
def pN(id:Int)(x:bN):Bool:= !decide (x.Id=id)
def uQ(s:aF)(id:Int):aF:=⟨s.ab.filter (pN id),s.Next⟩
theorem Kk{s:aF}(h:bm s=true)(id:Int):bm (uQ s id)=true:=by
 obtain⟨g1,g2,g3,g4⟩:=oi.1 h
 exact oi.2 ⟨g1,xr (Mq _ _) g2,fun x hx=>g3 x (zA.1 hx).1,g4.filter _⟩
theorem r_{l:List bN}{id:Int}:ke l id=true↔∃x∈l,x.Id=id:=by
 simp only[ke,yW,decide_eq_true_eq]
 constructor
 ·rintro⟨j,hj,h⟩;exact⟨_,gJ hj,h⟩
 ·rintro⟨x,hx,h⟩
  obtain⟨i,hi,rfl⟩:=sG hx
  exact⟨i,hi,by rw[ez,fw hi];exact h⟩
theorem Iq{s:aF}{f:aK}{id:Int}(h:ke s.ab id=true):ke (bQ s f).1.ab id=true:=by
 unfold bQ
 split
 ·exact h
 ·split
  ·exact h
  ·obtain⟨x,hx,e⟩:=r_.1 h
   exact r_.2 ⟨x,sD _ hx,e⟩
def yg(l:List Int)(n:Int):Bool:=l.any fun x=>decide (x=n)
def ym(l:List aw)(id:Int):List aw:=l.filter fun m=> !yg m.ee id
structure coreX(d:br)(x:aq):Prop where
 p_:fJ d=true
 store:bm x.S=true
 jt:aW x.ag=true
 timers:dl x.ap=true
 pf:cX x.av=true
 now:0<=x.bR/\x.bR<=1000000000
 Lo:x.ay.length<=1000
 bY:∀m∈x.ay,iT d x.S.ab m=true
structure cH(d:br)(x:aq):Prop extends coreX d x where
 state:1<=x.State/\x.State<=6
 ended:x.State=2\/x.State=4\/x.State=6->ph x.ag=false/\x.ap=[]
 HD:x.State=3\/x.State=5->x.av≠[]
theorem pA{d:br}{x:aq}:instOk d x=true↔cH d x:=by
 have e1:(!(mS x&&(ph x.ag||decide (0<x.ap.length))))=true↔(x.State=2\/x.State=4\/x.State=6->ph x.ag=false/\x.ap=[]):=by
  simp only[mS]
  by_cases h:x.State=2\/x.State=4\/x.State=6
  ·rw[decide_eq_true h,wq,ru,QA,decide_eq_false_iff_not]
   exact⟨fun g _=>⟨g.1,FL (by omega)⟩,fun g=>⟨(g h).1,by rw[(g h).2];simp⟩⟩
  ·rw[decide_eq_false h];exact⟨fun _ g=>absurd g h,fun _=>rfl⟩
 have e2:(!mL x||decide (0<x.av.length))=true↔(x.State=3\/x.State=5->x.av≠[]):=by
  simp only[mL,FI,ru,QA,decide_eq_false_iff_not,decide_eq_true_eq]
  constructor
  ·rintro(g|g) h e
   ·rcases h with h|h
    ·exact g.1 h
    ·exact g.2 h
   ·rw[e] at g;simp at g
  ·intro g
   by_cases h:x.State=3\/x.State=5
   ·exact .inr (List.length_pos_iff.2 (g h))
   ·exact .inl ⟨fun e=>h (.inl e),fun e=>h (.inr e)⟩
 rw[instOk,cJ,cJ,e1,e2]
 simp only[iF,cJ,decide_eq_true_eq,sC]
 constructor
 ·rintro⟨⟨⟨⟨⟨⟨⟨⟨⟨h1,h2⟩,h3⟩,h4⟩,h5⟩,h6⟩,h7⟩,h8,h9⟩,ta⟩,h11⟩
  exact⟨⟨h1,h2,h3,h4,h5,h7,h8,h9⟩,h6,ta,h11⟩
 ·rintro⟨⟨h1,h2,h3,h4,h5,h7,h8,h9⟩,h6,ta,h11⟩
  exact⟨⟨⟨⟨⟨⟨⟨⟨⟨h1,h2⟩,h3⟩,h4⟩,h5⟩,h6⟩,h7⟩,h8,h9⟩,ta⟩,h11⟩
theorem coreX.good{d:br}{x:aq}(h:coreX d x):cz x:=⟨h.jt,h.pf,h.now⟩
theorem KY(l:List aj):ph (giveUp l)=false:=by
 refine gj fun j hj=> ?_
 have hm:=gJ (z:=aD) hj
 obtain⟨t,_,e⟩:=mf.1 hm
 rw[<-e]
 simp only[jI,gx]
 split
 ·simp
 ·rename_i h;exact decide_eq_false h
theorem GC{d:br}{x:aq}(h:coreX d x){st:Int}(hs:st=2\/st=4\/st=6):cH d (rF x st):=
 ⟨⟨h.p_,h.store,pG h.jt,rfl,h.pf,h.now,h.Lo,h.bY⟩,by show 1<=st/\st<=6;omega,fun _=>⟨KY _,rfl⟩,fun g=>by have g:st=3\/st=5:=g;omega⟩
theorem A3{d:br}{x:aq}(h:coreX d x)(hs:x.State=3\/x.State=5):cH d (gD x):=by
 unfold gD
 split
 ·exact GC h (by split<;>omega)
 ·rename_i hu
  exact⟨⟨h.p_,h.store,DU h.good hu,h.timers,h.pf,h.now,h.Lo,h.bY⟩,by show 1<=x.State/\x.State<=6;omega,fun g=>by have g:x.State=2\/x.State=4\/x.State=6:=g;omega,fun _=>hu⟩
theorem Tc{d:br}{x:aq}(h:coreX d x)(st:Int):coreX d (rF x st):=⟨h.p_,h.store,pG h.jt,rfl,h.pf,h.now,h.Lo,h.bY⟩
theorem mh{d:br}{x:aq}(h:coreX d x){st:Int}(hs:st=3\/st=5):cH d (gq x st):=A3 (Tc h st) hs
theorem wS{d:br}{x:aq}(h:coreX d x)(hs:x.State=3\/x.State=5):cH d (qT x):=
 A3 ⟨h.p_,h.store,h.jt,h.timers,xE _ h.pf,h.now,h.Lo,h.bY⟩ hs
theorem kD{d:br}{x:aq}(h:coreX d x)(hs:x.State=1):cH d x:=⟨h,by omega,fun g=>by omega,fun g=>by omega⟩
theorem LB{d:br}{x:aq}(h:coreX d x){f:aK}(hf:bD f=true):coreX d (tR x (bQ x.S f).1):=
 ⟨h.p_,D1 h.store hf,h.jt,h.timers,h.pf,h.now,h.Lo,fun m hm=>by
  have:=h.bY m hm
  simp only[iT,cJ,sC] at this⊢
  exact⟨this.1,fun i hi=>Iq (this.2 i hi)⟩⟩
theorem jv{d:br}{x:aq}(h:coreX d x)(hs:x.State=1){f:aK}(hf:bD f=true):cH d (dj x f):=by
 unfold dj
 split
 ·exact mh h (.inl rfl)
 ·exact kD (LB h hf) hs
theorem pF{l:List aN}:dl l=true↔l.length<=30/\(∀t∈l,iB t=true)/\l.Pairwise (fun a b=>a.At<=b.At):=by
 have hg:∀{i:Nat}(h:i<l.length),l.getD i cO=l[i]:=fun{i} h=>by rw[ez,fw h];rfl
 simp only[dl,cJ,decide_eq_true_eq]
 refine and_congr_right fun _=> ?_
 rw[fY]
 constructor
 ·intro h
  refine⟨fun t ht=> ?_,?_⟩
  ·obtain⟨i,hi,rfl⟩:=sG ht
   have:=h i hi
   simp only[jF,cJ] at this
   rw[<-hg hi];exact this.1
  ·have step:∀i (hi:i+1<l.length),l[i].At<=l[i+1].At:=fun i hi=>by
    have:=h (i+1) hi
    simp only[jF,cJ,FI,decide_eq_true_eq,Nat.add_sub_cancel] at this
    rw[hg hi,hg (by omega)] at this
    rcases this.2 with h0|h0
    ·omega
    ·exact h0
   rw[UC]
   intro i j hi hj FQ
   obtain⟨k,rfl⟩:∃k,j=i+1+k:=⟨j-i-1,by omega⟩
   clear FQ
   induction k with
   |zero=>exact step i hj
   |succ k ih=>exact Int.le_trans (ih (by omega)) (step (i+1+k) hj)
 ·rintro⟨h1,h2⟩ j hj
  simp only[jF,cJ,FI,decide_eq_true_eq]
  refine⟨by rw[hg hj];exact h1 _ (FH hj),?_⟩
  by_cases h0:j=0
  ·exact .inl h0
  ·right
   rw[UC] at h2
   rw[hg hj,hg (show j-1<l.length by omega)]
   exact h2 (j-1) j (by omega) hj (by omega)
theorem ww{l:List aN}(p:aN->Bool)(h:dl l=true):dl (l.filter p)=true:=by
 rw[pF] at h⊢
 exact⟨xr (Mq _ _) h.1,fun t ht=>h.2.1 t (zA.1 ht).1,h.2.2.filter p⟩
theorem El{l:List aN}{a:Int}(hp:l.Pairwise (fun a b=>a.At<=b.At)):∀n,n<=l.length->(∀j,j<ua l a n->(l.getD j cO).At<=a)/\∀j,ua l a n<=j->j<n->a<(l.getD j cO).At
 |0,_=>⟨fun j hj=>by simp[ua] at hj,fun j _ hj=>by omega⟩
 |n+1,hn=>by
  obtain⟨h1,h2⟩:=El hp n (by omega)
  have hg:∀{i:Nat}(h:i<l.length),l.getD i cO=l[i]:=fun{i} h=>by rw[ez,fw h];rfl
  rw[ua]
  split
  ·rename_i h
   refine⟨h1,fun j g1 g2=> ?_⟩
   by_cases e:j=n
   ·subst e;omega
   ·exact h2 j g1 (by omega)
  ·rename_i h
   refine⟨fun j hj=> ?_,fun j g1 g2=>by omega⟩
   by_cases e:j=n
   ·subst e;omega
   ·rw[UC] at hp
    have:=hp j n (by omega) (by omega) (by omega)
    rw[hg (by omega)] at h⊢
    omega
theorem Mw{l:List aN}{x:aN}(h:dl l=true):dl (rI l x)=true:=by
 unfold rI
 split
 ·rename_i ha
  simp only[m_,cJ,decide_eq_true_eq] at ha
  obtain⟨g1,g2,g3⟩:=pF.1 h
  obtain⟨p1,p2⟩:=El (a:=x.At) g3 l.length (tX _)
  have hp:=NY l x.At l.length
  refine pF.2 ⟨by simp only[ko,oc,fK,Mf];omega,fun t ht=> ?_,?_⟩
  ·rcases jC.1 ht with ht|ht
   ·exact g2 t (List.mem_of_mem_take ht)
   ·rcases jZ.1 ht with ht|ht
    ·rw[ht];exact ha.1.2
    ·exact g2 t (List.mem_of_mem_drop ht)
  ·rw[List.pairwise_append]
   refine⟨g3.sublist (List.take_sublist _ _),List.pairwise_cons.2 ⟨fun b hb=> ?_,g3.sublist (List.drop_sublist _ _)⟩,fun a ha b hb=> ?_⟩
   ·obtain⟨j,hj,e⟩:=sG hb
    rw[List.getElem_drop] at e
    simp only[Mf] at hj
    have:=p2 (ua l x.At l.length+j) (by omega) (by omega)
    rw[ez,fw (by omega)] at this
    rw[<-e];exact Int.le_of_lt this
   ·obtain⟨i,hi,e⟩:=sG ha
    rw[List.getElem_take] at e
    simp only[oc] at hi
    have hle:=p1 i (by omega)
    rw[ez,fw (by omega)] at hle
    have hle:a.At<=x.At:=by rw[<-e];exact hle
    rcases jZ.1 hb with hb|hb
    ·rw[hb];exact hle
    ·obtain⟨j,hj,e'⟩:=sG hb
     rw[List.getElem_drop] at e'
     simp only[Mf] at hj
     have:=p2 (ua l x.At l.length+j) (by omega) (by omega)
     rw[ez,fw (by omega)] at this
     have:x.At<b.At:=by rw[<-e'];exact this
     omega
 ·exact h
def DM(x:aq)(l:List aw):aq:=⟨x.S,l,x.ag,x.ap,x.av,x.State,x.bR⟩
def NI(x:aq)(l:List aN):aq:=⟨x.S,x.ay,x.ag,l,x.av,x.State,x.bR⟩
def Gn(x:aq)(n:Int):aq:=⟨x.S,x.ay,x.ag,x.ap,x.av,x.State,n⟩
def Hh(x:aq)(id:Int):aq:=if(uQ x.S id).ab.length<x.S.ab.length then DM (tR x (uQ x.S id)) (ym x.ay id) else tR x (uQ x.S id)
def NM(x:aq)(e:de):aq:=if(fC x.ag e.F e.aR x.bR).2=true then mK x (fC x.ag e.F e.aR x.bR).1 else gq (mK x (fC x.ag e.F e.aR x.bR).1) 3
def ux(x:aq)(e:de):aN:=⟨if 1000000000<x.bR+e.N then 1000000000 else x.bR+e.N,e.F⟩
def HG(x:aq)(e:de):aq:=if m_ x.ap (ux x e)=true then NI x (rI x.ap (ux x e)) else gq (NI x (rI x.ap (ux x e))) 3
def g_(x:aq)(e:de):aq:=
 if e.Kind=1 then dj x e.F else if e.Kind=2 then Hh x e.Id else if e.Kind=3 then NM x e else if e.Kind=4 then HG x e else if e.Kind=5 then rF x 2 else gq x 3
theorem Qj{d:br}{x:aq}(h:coreX d x)(id:Int):coreX d (Hh x id):=by
 unfold Hh
 split
 ·refine⟨h.p_,Kk h.store id,h.jt,h.timers,h.pf,h.now,xr (Mq _ _) h.Lo,fun m hm=> ?_⟩
  obtain⟨hm,hn⟩:=zA.1 hm
  have:=h.bY m hm
  simp only[iT,cJ,sC] at this⊢
  refine⟨this.1,fun i hi=> ?_⟩
  obtain⟨y,hy,e⟩:=r_.1 (this.2 i hi)
  refine r_.2 ⟨y,zA.2 ⟨hy,?_⟩,e⟩
  simp only[pN,ru,decide_eq_false_iff_not]
  intro e2
  simp only[ru,yg,List.any_eq_false,decide_eq_true_eq] at hn
  exact hn i hi (e.symm.trans e2)
 ·rename_i hl
  have e:uQ x.S id=x.S:=by
   have:x.S.ab.filter (pN id)=x.S.ab:=List.filter_sublist.eq_of_length_le (by simp only[uQ] at hl;omega)
   simp only[uQ,this]
  rw[e]
  exact⟨h.p_,h.store,h.jt,h.timers,h.pf,h.now,h.Lo,h.bY⟩
theorem xN{d:br}{x:aq}(h:coreX d x)(hs:x.State=1){e:de}(he:dZ e=true):cH d (g_ x e):=by
 simp only[dZ] at he
 unfold g_
 by_cases h1:e.Kind=1
 ·simp only[h1,decide_true,cond_true,cJ] at he
  rw[if_pos h1];exact jv h hs he.1.1.1
 rw[if_neg h1]
 by_cases h2:e.Kind=2
 ·rw[if_pos h2];exact kD (Qj h _) (by unfold Hh;split<;>exact hs)
 rw[if_neg h2]
 by_cases h3:e.Kind=3
 ·simp only[h3,show decide ((3:Int)=1)=false from rfl,show decide ((3:Int)=2)=false from rfl,decide_true,cond_true,cond_false,cJ] at he
  rw[if_pos h3]
  have ho:aW (fC x.ag e.F e.aR x.bR).1=true:=nV h.jt he.1.1.1 he.2 h.now.1 (by have:=h.now.2;omega)
  have hc:coreX d (mK x (fC x.ag e.F e.aR x.bR).1):=⟨h.p_,h.store,ho,h.timers,h.pf,h.now,h.Lo,h.bY⟩
  unfold NM
  split
  ·exact kD hc hs
  ·exact mh hc (.inl rfl)
 rw[if_neg h3]
 by_cases h4:e.Kind=4
 ·rw[if_pos h4]
  have hc:coreX d (NI x (rI x.ap (ux x e))):=⟨h.p_,h.store,h.jt,Mw h.timers,h.pf,h.now,h.Lo,h.bY⟩
  unfold HG
  split
  ·exact kD hc hs
  ·exact mh hc (.inl rfl)
 rw[if_neg h4]
 by_cases h5:e.Kind=5
 ·rw[if_pos h5];exact GC h (.inl rfl)
 ·rw[if_neg h5];exact mh h (.inl rfl)
def jT:List de->aq->aq
 |[],x=>x
 |e::l,x=>if x.State=1 then jT l (g_ x e) else x
def Iu(x:aq)(m:aw):aq:=DM x (x.ay++[⟨m.cG,m.ee,[]⟩])
def pY(d:br)(x:aq)(m:aw):aq:=if lQ d m=true/\x.ay.length<1000 then jT (nj d m) (Iu x m) else gq x 3
theorem wy{d:br}:∀{l:List de}{x:aq},cH d x->(∀e∈l,dZ e=true)->cH d (jT l x)
 |[],_,h,_=>h
 |e::l,x,h,hl=>by
  rw[jT];split
  ·rename_i hs
   exact wy (xN h.tocoreX hs (hl e iy)) fun y hy=>hl y (fA _ hy)
  ·exact h
theorem On{d:br}{m:aw}:∀e∈nj d m,dZ e=true:=by
 intro e he
 unfold nj at he
 split at he
 ·rename_i h
  obtain⟨a,ha,rfl⟩:=mf.1 he
  simp only[lQ,cJ,sC] at h
  have:=h.2 a ha
  simp only[H3,cJ] at this
  exact this.2
 ·simp at he
def yk(s:List bN)(m:aw):Prop:=∀i∈m.ee,ke s i=true
theorem E8{d:br}{x:aq}{m:aw}(h:coreX d x)(hl:x.ay.length<1000)(he:lQ d m=true)(hm:yk x.S.ab m):coreX d (Iu x m):=by
 refine⟨h.p_,h.store,h.jt,h.timers,h.pf,h.now,by simp only[Iu,DM,ko,fK,fv];omega,fun n hn=> ?_⟩
 rcases jC.1 hn with hn|hn
 ·exact h.bY n hn
 ·rw[mI.1 hn]
  simp only[lQ,Eu,cJ] at he
  simp only[iT,cJ,sC]
  exact⟨⟨⟨he.1.2.1,by simp⟩,he.1.2.2⟩,hm⟩
theorem MI{d:br}{x:aq}{m:aw}(h:coreX d x)(hs:x.State=1)(hm:yk x.S.ab m):cH d (pY d x m):=by
 unfold pY
 split
 ·rename_i hc
  exact wy (kD (E8 h hc.2 hc.1 hm) hs) On
 ·exact mh h (.inl rfl)
theorem GB{r:bf}{s:List bN}:∀{ps:List cr}{ids:List Int}{l:List bZ},(∀i∈ids,ke s i=true)->∀m∈pH r s ps ids l,yk s m
 |[],ids,l,h,m,hm=>by
  simp only[pH] at hm
  split at hm
  ·rw[mI.1 hm];exact h
  ·simp at hm
 |p::ps,ids,l,h,m,hm=>by
  simp only[pH,oQ] at hm
  obtain⟨x,hx,hm⟩:=hm
  split at hm
  ·refine GB (fun i hi=> ?_) m hm
   rcases jC.1 hi with hi|hi
   ·exact h i hi
   ·rw[mI.1 hi];exact r_.2 ⟨x,hx,rfl⟩
  ·simp at hm
theorem Tx{rs:List bf}{s:List bN}{m:aw}(hm:m∈allM rs s):yk s m:=by
 simp only[allM,LW,oQ,mf] at hm
 obtain⟨i,_,m',vz,rfl⟩:=hm
 exact GB (r:=rs.getD i cq) (ids:=[]) (by simp) m' vz
theorem GG{d:br}{x:aq}{m:aw}(h:jw d (allM d.aA x.S.ab) x.ay=some m):yk x.S.ab m:=Tx (GH h)
theorem Ud{a a':aq}{b b':Int}(h1:a=a')(h2:b=b'):Lf [.agg [.sl .aJ a.S.ab,CI a.S.Next,.sl .aE a.ay,.sl .ax a.ag,.sl .aI a.ap,.sl .aL a.av,CI a.State,CI a.bR],.one (CI b)] [.agg [.sl .aJ a'.S.ab,CI a'.S.Next,.sl .aE a'.ay,.sl .ax a'.ag,.sl .aI a'.ap,.sl .aL a'.av,CI a'.State,CI a'.bR],.one (CI b')]:=by
 subst h1 h2;exact aX _
def eH(d:br)(x:aq)(key:BA)(ok:Bool)(v:aS):aq×Int:=if instOk d x=true/\bB v=true then cm x key ok v else(x,3)
theorem Pg{x:aq}{key:BA}{ok:Bool}{v:aS}(h:¬bB v=true):cm x key ok v=(x,3):=by
 have e:aB x.ag key ok v=(x.ag,3):=iQ (fun c=>h c.2.1)
 unfold cm;rw[e];rfl
theorem pP{d:br}{x:aq}{key:BA}{ok:Bool}{v:aS}(h:instOk d x=true)(h0:(aB x.ag key ok v).2=1):x.State=1\/x.State=3\/x.State=5:=by
 have h1:aW x.ag=true/\bB v=true/\0<=aC x.ag key/\(x.ag.getD (aC x.ag key).toNat aD).State≠1:=Classical.byContradiction fun c=>by rw[iQ c] at h0;simp at h0
 have h2:(x.ag.getD (aC x.ag key).toNat aD).State=2:=Classical.byContradiction fun c=>by rw[nH h1 c] at h0;simp at h0
 have hk:=kz (l:=x.ag) (key:=key) h1.2.2.1
 have hl:ph x.ag=true:=iw (j:=(aC x.ag key).toNat) hk (decide_eq_true (Or.inr h2))
 simp only[instOk,cJ,decide_eq_true_eq] at h
 obtain⟨⟨⟨⟨⟨_,hs⟩,_⟩,_⟩,he⟩,_⟩:=h
 rw[hl] at he
 have he:mS x=false:=by cases hx:mS x<;>simp[hx] at he⊢
 simp only[mS,decide_eq_false_iff_not] at he
 omega
def Zk6:=bV (α:=br×aq×BA×Bool×aS) (qC (qA .hH) (qC (qA .cf) (qC qS (qC qO (q1 (qA .bc)))))) [.ro,.ro,.ro,.ro,.ro] (fun(d,x,key,ok,v)=>[cB d<=4294967295,cK x<=4294967295]) (fun(d,x,key,ok,v)=>⟨[dA .cf ((eH d x key ok v).1),dI ((eH d x key ok v).2)],[],[]⟩)
def Zh6:HH:=hF Zk6 func6 [aph,Zh9,apg] a0 fun x hp hb=>by
 obtain⟨d,x,key,ok,v⟩:=x
 have eV:=kQ (x:=d) (hb _ m0)
 have jX:=eV.1
 have iS:=eV.2
 have gZ:=oD (x:=x) (hb _ m1)
 have e8:=gZ.1
 have gO:=gZ.2.1
 have gN:=gZ.2.2.1
 have fM:=gZ.2.2.2.1
 have gM:=gZ.2.2.2.2
 have Sr:=Mp (s:=key) (hb _ m2)
 have Sp:=IF (x:=v) (hb _ m4)
 have bp:cB d<=4294967295:=hp _ m0
 have eN:cK x<=4294967295:=hp _ m1
 clear hp hb
 apply vE (let x1:={S:={ab:={τ:=Cd.aJ,xs:=x.S.ab:fu UU}.xs,Next:=x.S.Next:aF},ay:={τ:=Cd.aE,xs:=x.ay:fu UU}.xs,ag:={τ:=Cd.ax,xs:=x.ag:fu UU}.xs,ap:={τ:=Cd.aI,xs:=x.ap:fu UU}.xs,av:={τ:=Cd.aL,xs:=x.av:fu UU}.xs,State:=x.State,bR:=x.bR:aq};let x0:=(cm x1 key ok {K:=v.K,N:=v.N,S:=v.S:aS}).1.S;let q0:=eH d x key ok v;let q1:=cm x1 key ok {K:=v.K,N:=v.N,S:=v.S:aS};L4 (cK x)/\cB d<=4294967295/\L4 (cd x.S.ab)/\bif !instOk d x then Lf [DV.agg (aG x),VI 3] [DV.agg [CL .aJ q0.1.S.ab,CI (q0.1.S.Next),CL .aE q0.1.ay,CL .ax q0.1.ag,CL .aI q0.1.ap,CL .aL q0.1.av,CI (q0.1.State),CI (q0.1.bR)],VI (q0.2)] else cz x/\bm x.S=true/\((aB x1.ag key ok {K:=v.K,N:=v.N,S:=v.S:aS}).2=1->x.State=1\/x.State=3\/x.State=5)/\Lf [DV.agg [CL .aJ x0.ab,CI x0.Next,CL .aE q1.1.ay,CL .ax q1.1.ag,CL .aI q1.1.ap,CL .aL q1.1.av,CI (q1.1.State),CI (q1.1.bR)],VI (q1.2)] [DV.agg [CL .aJ q0.1.S.ab,CI (q0.1.S.Next),CL .aE q0.1.ay,CL .ax q0.1.ag,CL .aI q0.1.ap,CL .aL q0.1.av,CI (q0.1.State),CI (q0.1.bR)],VI (q0.2)])
 dsimp only
 have hi:=yL x
 refine⟨by omega,bp,by omega,bC (fun g=> ?_) (fun g=>⟨G0 g,D0 g,pP g,?_⟩)⟩
 ·have e:eH d x key ok v=(x,3):=if_neg (fun c=>absurd (c.1.symm.trans g) (by decide))
  exact Ud (congrArg Prod.fst e).symm (congrArg Prod.snd e).symm
 ·have e:eH d x key ok v=cm x key ok v:=by
   by_cases hv:bB v=true
   ·exact if_pos ⟨g,hv⟩
   ·rw[Pg hv];exact if_neg (fun c=>hv c.2)
  exact Ud (congrArg Prod.fst e).symm (congrArg Prod.snd e).symm
def Zk7:=bV (α:=br×aq×BA×Bool×aS) (qC (qA .hH) (qC (qA .cf) (qC qS (qC qO (q1 (qA .bc)))))) [.ro,.ro,.ro,.ro,.ro] (fun(d,x,key,ok,v)=>[cB d<=4294967295,cK x<=4294967295]) (fun(d,x,key,ok,v)=>⟨[dA .cf ((eH d x key ok v).1),dI ((eH d x key ok v).2)],[],[]⟩)
def Zh7:HH:=hF Zk7 func7 [apf,ape,TQ,ahL] a0 fun x hp hb=>by
 obtain⟨d,x,key,ok,v⟩:=x
 have eV:=kQ (x:=d) (hb _ m0)
 have jX:=eV.1
 have iS:=eV.2
 have gZ:=oD (x:=x) (hb _ m1)
 have e8:=gZ.1
 have gO:=gZ.2.1
 have gN:=gZ.2.2.1
 have fM:=gZ.2.2.2.1
 have gM:=gZ.2.2.2.2
 have Sr:=Mp (s:=key) (hb _ m2)
 have Sp:=IF (x:=v) (hb _ m4)
 have bp:cB d<=4294967295:=hp _ m0
 have eN:cK x<=4294967295:=hp _ m1
 clear hp hb
 apply vE (let x1:={S:={ab:={τ:=Cd.aJ,xs:=x.S.ab:fu UU}.xs,Next:=x.S.Next:aF},ay:={τ:=Cd.aE,xs:=x.ay:fu UU}.xs,ag:={τ:=Cd.ax,xs:=x.ag:fu UU}.xs,ap:={τ:=Cd.aI,xs:=x.ap:fu UU}.xs,av:={τ:=Cd.aL,xs:=x.av:fu UU}.xs,State:=x.State,bR:=x.bR:aq};let x0:=(cm x1 key ok {K:=v.K,N:=v.N,S:=v.S:aS}).1.S;let q0:=eH d x key ok v;let q1:=cm x1 key ok {K:=v.K,N:=v.N,S:=v.S:aS};let q2:=Lf [DV.agg (aG x),VI 3] [DV.agg [CL .aJ q0.1.S.ab,CI (q0.1.S.Next),CL .aE q0.1.ay,CL .ax q0.1.ag,CL .aI q0.1.ap,CL .aL q0.1.av,CI (q0.1.State),CI (q0.1.bR)],VI (q0.2)];L4 (cK x)/\cB d<=4294967295/\L4 (cd x.S.ab)/\bif !instOk d x then q2 else bif !bB v then q2 else cz x/\bm x.S=true/\bB v=true/\((aB x1.ag key ok {K:=v.K,N:=v.N,S:=v.S:aS}).2=1->x.State=1\/x.State=3\/x.State=5)/\Lf [DV.agg [CL .aJ x0.ab,CI x0.Next,CL .aE q1.1.ay,CL .ax q1.1.ag,CL .aI q1.1.ap,CL .aL q1.1.av,CI (q1.1.State),CI (q1.1.bR)],VI (q1.2)] [DV.agg [CL .aJ q0.1.S.ab,CI (q0.1.S.Next),CL .aE q0.1.ay,CL .ax q0.1.ag,CL .aI q0.1.ap,CL .aL q0.1.av,CI (q0.1.State),CI (q0.1.bR)],VI (q0.2)])
 dsimp only
 have hi:=yL x
 refine⟨by omega,bp,by omega,bC (fun g=> ?_) (fun g=>bC (fun hv=> ?_) (fun hv=>⟨G0 g,D0 g,hv,pP g,?_⟩))⟩
 ·have e:eH d x key ok v=(x,3):=if_neg (fun c=>absurd (c.1.symm.trans g) (by decide))
  exact Ud (congrArg Prod.fst e).symm (congrArg Prod.snd e).symm
 ·have e:eH d x key ok v=(x,3):=if_neg (fun c=>absurd (c.2.symm.trans hv) (by decide))
  exact Ud (congrArg Prod.fst e).symm (congrArg Prod.snd e).symm
 ·have e:eH d x key ok v=cm x key ok v:=if_pos ⟨g,hv⟩
  exact Ud (congrArg Prod.fst e).symm (congrArg Prod.snd e).symm
def Kp:List BA:=[⟨#[88]⟩,⟨#[89]⟩,⟨#[90]⟩,⟨#[88]⟩]
def Q5:List BA:=[⟨#[88]⟩,⟨#[89]⟩]
def ij(c:ai):cI:=if af c 6=0 then⟨3,ao,dE⟩ else if af c 6=1 then⟨2,ao,ed (aa c 6)⟩ else⟨1,cx (aa c 6) Kp,dE⟩
def gV(c:ai):ai:=if af c 6=0 then aa c 6 else if af c 6=1 then gL (aa c 6) else bT (aa c 6) Kp
theorem ra{c:ai}(h:bh c):bh (gV c):=by
 have:=au h 6
 unfold gV;split
 ·exact this
 ·split
  ·exact kO this
  ·exact dw this _
def eg(c:ai):cI:=if bP c 3=true then⟨2,ao,ed (aa c 3)⟩ else⟨1,cx (aa c 3) Q5,dE⟩
def cY(c:ai):ai:=if bP c 3=true then gL (aa c 3) else bT (aa c 3) Q5
theorem qb{c:ai}(h:bh c):bh (cY c):=by
 have:=au h 3
 unfold cY;split
 ·exact kO this
 ·exact dw this _
def mD{α:Type}(f:ai->α)(g:ai->ai):Nat->List α->ai->List α
 |0,l,_=>l
 |k+1,l,c=>mD f g k (l++[f c]) (g c)
def pR(g:ai->ai):Nat->ai->ai
 |0,c=>c
 |k+1,c=>pR g k (g c)
theorem mC{α:Type}(f:ai->α)(g:ai->ai):∀(k:Nat)(l:List α)(c:ai),(mD f g k l c).length=l.length+k
 |0,_,_=>rfl
 |k+1,l,c=>by rw[mD,mC f g k];simp only[ko,fK,fv];omega
theorem nJ{α:Type}{f:ai->α}{g:ai->ai}(p:α->Prop)(hp:∀c,p (f c)):∀(k:Nat)(l:List α)(c:ai),(∀x,x∈l->p x)->∀x,x∈mD f g k l c->p x
 |0,_,_,h=>h
 |k+1,l,c,h=>nJ p hp k _ _ fun x hx=>by
  rcases jC.1 hx with hx|hx
  ·exact h x hx
  ·rw[mI] at hx;subst hx;exact hp c
theorem sf{g:ai->ai}(hg:∀c,bh c->bh (g c)):∀{k:Nat}{c:ai},bh c->bh (pR g k c)
 |0,_,h=>h
 |k+1,_,h=>sf hg (k:=k) (hg _ h)
def uO(c:ai):Int:=if cx c cS=Fl then 2 else 1
def pt(not:Bool)(c:ai):cr:=⟨cx c cS,mD ij gV (uO c).toNat [] (bT c cS),not⟩
def jx(c:ai):ai:=pR gV (uO c).toNat (bT c cS)
theorem qc{c:ai}(h:bh c):bh (jx c):=sf (fun _=>ra) (dw h _)
theorem HV(c:ai):0<=uO c/\uO c<=2:=by unfold uO;split<;>omega
def yM(c:ai):dy:=⟨1+af c 3,eg (aa c 3),eg (cY (aa c 3))⟩
def rG(c:ai):ai:=cY (cY (aa c 3))
theorem Au{c:ai}(h:bh c):bh (rG c):=qb (qb (au h _))
def D8:List BA:=[⟨#[43]⟩,⟨#[45]⟩]
def fI(c:ai):ct:=if bP (cY c) 4=true then⟨cx (aa (cY c) 4) D8,eg c,eg (bT (aa (cY c) 4) D8)⟩ else⟨ao,eg c,mJ⟩
def iq(c:ai):ai:=if bP (cY c) 4=true then cY (bT (aa (cY c) 4) D8) else aa (cY c) 4
theorem LH{c:ai}(h:bh c):bh (iq c):=by
 have:=au (qb h) 4
 unfold iq;split
 ·exact qb (dw this _)
 ·exact this
def pT:List Int:=[1,1,2,3,3,4,5,6]
def HK:List BA:=[⟨#[111,114,100,101,114]⟩,⟨#[112,97,105,100]⟩,⟨#[105,116,101,109]⟩,⟨#[115,104,105,112]⟩,⟨#[99,104,97,114,103,101]⟩]
def w4:List Int:=[0,1,5,100000]
def qK:List BA:=[⟨#[114,101,102,117,110,100]⟩,⟨#[99,97,110,99,101,108]⟩]
def iK(c:ai):Int:=gU c pT
def il(c:ai):BA:=cx (ku c pT) HK
def Fp(c:ai):ai:=bT (ku c pT) HK
def xi(c:ai):Int:=if il c=Fl then 2 else 1
def na(c:ai):List ct:=mD fI iq (xi c).toNat [] (Fp c)
def k9(c:ai):ai:=pR iq (xi c).toNat (Fp c)
def oH(c:ai):ai:=if iK c=4 then ku (k9 c) w4 else k9 c
def va(c:ai):Int:=if iK c=4 then gU (k9 c) w4 else 0
def ui(c:ai):BA:=if iK c=3/\bP (oH c) 2=true then cx (aa (oH c) 2) qK else ao
def vc(c:ai):ai:=if iK c=3 then(if bP (oH c) 2=true then bT (aa (oH c) 2) qK else aa (oH c) 2) else oH c
def xj(fo:Int)(c:ai):ew:=if iK c=2 then⟨iK c,ao,[],af (ku c pT) fo,ao⟩ else if iK c=5\/iK c=6 then⟨iK c,ao,[],0,ao⟩ else⟨iK c,il c,na c,va c,ui c⟩
def qg(fo:Int)(c:ai):ai:=if iK c=2 then aa (ku c pT) fo else if iK c=5\/iK c=6 then ku c pT else vc c
theorem OM(c:ai):0<=xi c/\xi c<=2:=by unfold xi;split<;>omega
theorem LL{c:ai}(h:bh c):bh (Fp c):=dw (iG h _) _
theorem Fg{c:ai}(h:bh c):bh (k9 c):=sf (fun _=>LH) (LL h)
theorem Ff{c:ai}(h:bh c):bh (oH c):=by
 unfold oH;split
 ·exact iG (Fg h) _
 ·exact Fg h
theorem yP{c:ai}(fo:Int)(h:bh c):bh (qg fo c):=by
 unfold qg;split
 ·exact au (iG h _) _
 ·split
  ·exact iG h _
  ·unfold vc;split
   ·split
    ·exact dw (au (Ff h) _) _
    ·exact au (Ff h) _
   ·exact Ff h
theorem Ay(c:ai):(na c).length<=2:=by
 have:=OM c
 rw[na,mC];simp only[fv];omega
theorem Qx(fo:Int)(c:ai):(xj fo c).az.length<=2:=by
 have:=Ay c
 unfold xj;split
 ·simp
 ·split
  ·simp
  ·exact this
def rE(vars:List BA)(a:cI):cI:=if eK vars a=true then a else if vars.length=0 then⟨2,ao,⟨1,1,ao⟩⟩ else⟨1,vars.getD 0 ao,dE⟩
def Qb(vars:List BA)(x:dy):dy:=⟨x.Op,rE vars x.L,rE vars x.R⟩
def pX(vars:List BA)(e:ct):ct:=⟨e.Op,rE vars e.L,if e.Op=ao then e.R else rE vars e.R⟩
def EW(vars:List BA)(a:ew):ew:=⟨a.Kind,a.Name,a.az.map (pX vars),a.N,a.aR⟩
def lH:List Int:=[0,0,5,-5,100]
def Rd(c:ai):ai:=ku c lH
def Ra(c:ai):Int:=1+af (Rd c) 3
def HL(c:ai):ai:=aa (Rd c) 3
def lh(c:ai):List cr:=mD (pt false) jx (Ra c).toNat [] (HL c)
def FX(c:ai):ai:=pR jx (Ra c).toNat (HL c)
def wR(c:ai):ai:=aa (FX c) 3
def dW(c:ai):List cr:=if bP (FX c) 3=true then lh c++[pt true (wR c)] else lh c
def Eb(c:ai):ai:=if bP (FX c) 3=true then jx (wR c) else wR c
def di(c:ai):List BA:=cQ (dW c)
def wQ(c:ai):ai:=aa (Eb c) 3
def fS(c:ai):List dy:=if bP (Eb c) 3=true then[Qb (di c) (yM (wQ c))] else[]
def zK(c:ai):ai:=if bP (Eb c) 3=true then rG (wQ c) else wQ c
def QC(c:ai):Int:=1+af (zK c) 3
def Rc(c:ai):ai:=aa (zK c) 3
def GA(c:ai)(d:ai):ew:=EW (di c) (xj (cN (dW c)) d)
def rA(c:ai)(d:ai):ai:=qg (cN (dW c)) d
def rz(c:ai):List ew:=mD (GA c) (rA c) (QC c).toNat [] (Rc c)
def nG(c:ai):ai:=pR (rA c) (QC c).toNat (Rc c)
def mB(name:BA)(c:ai):bf:=⟨name,gU c lH,dW c,fS c,rz c⟩
theorem Ow{c:ai}(h:bh c):bh (HL c):=au (iG h _) _
theorem Ov{c:ai}(h:bh c):bh (FX c):=sf (fun _=>qc) (Ow h)
theorem Ou{c:ai}(h:bh c):bh (Eb c):=by
 unfold Eb;split
 ·exact qc (au (Ov h) _)
 ·exact au (Ov h) _
theorem IC{c:ai}(h:bh c):bh (zK c):=by
 unfold zK;split
 ·exact Au (au (Ou h) _)
 ·exact au (Ou h) _
theorem yN{c:ai}(h:bh c):bh (nG c):=sf (fun _=>yP _) (au (IC h) _)
theorem MC(c:ai):1<=Ra c/\Ra c<=3:=by
 have:=bx (c:=Rd c) (n:=3) (by omega)
 unfold Ra;omega
theorem Rb(c:ai):1<=QC c/\QC c<=3:=by
 have:=bx (c:=zK c) (n:=3) (by omega)
 unfold QC;omega
def sN:List BA:=[⟨#[114,49]⟩,⟨#[114,50]⟩,⟨#[114,51]⟩,⟨#[114,52]⟩]
def AU:List BA:=[⟨#[102,108,111,119]⟩,⟨#[115,104,105,112]⟩,⟨#[120]⟩]
def LA:Nat->Nat->List bf->ai->List bf
 |0,_,l,_=>l
 |k+1,i,l,c=>if(i:Int)<1+af c 4 then LA k (i+1) (l++[mB (sN.getD i ao) (aa c 4)]) (nG (aa c 4)) else l
def Nr:Nat->Nat->ai->ai
 |0,_,c=>aa c 4
 |k+1,i,c=>if(i:Int)<1+af c 4 then Nr k (i+1) (nG (aa c 4)) else aa c 4
def cD(c:ai):br:=⟨cx c AU,LA 4 0 [] (bT c AU)⟩
def jq(c:ai):ai:=Nr 4 0 (bT c AU)
theorem LI:∀{k i:Nat}{c:ai},bh c->bh (Nr k i c)
 |0,_,_,h=>au h _
 |k+1,i,c,h=>by
  unfold Nr;split
  ·exact LI (k:=k) (yN (au h _))
  ·exact au h _
theorem yO{c:ai}(h:bh c):bh (jq c):=LI (dw h _)
theorem LdA{a a':cI}{d d':ai}(h1:a=a')(h2:d=d'):dJ [DV.agg [CI a.K,.lit (.string a.S),CI a.V.K,CI a.V.N,.lit (.string a.V.S)]]=dJ [DV.agg [CI a'.K,.lit (.string a'.S),CI a'.V.K,CI a'.V.N,.lit (.string a'.V.S)]]/\dJ [DV.box [.sl .byte d.b,CI d.i,CI d.h]]=dJ [DV.box [.sl .byte d'.b,CI d'.i,CI d'.h]]:=by
 subst h1 h2;exact⟨rfl,rfl⟩
theorem LdP{a a':cr}{d d':ai}(h1:a=a')(h2:d=d'):dJ [DV.agg [.lit (.string a.Kind),.sl .gB a.az,.lit (.bool a.Not)]]=dJ [DV.agg [.lit (.string a'.Kind),.sl .gB a'.az,.lit (.bool a'.Not)]]/\dJ [DV.box [.sl .byte d.b,CI d.i,CI d.h]]=dJ [DV.box [.sl .byte d'.b,CI d'.i,CI d'.h]]:=by
 subst h1 h2;exact⟨rfl,rfl⟩
theorem LdE{a a':ct}{d d':ai}(h1:a=a')(h2:d=d'):dJ [DV.agg [.lit (.string a.Op),CI a.L.K,.lit (.string a.L.S),CI a.L.V.K,CI a.L.V.N,.lit (.string a.L.V.S),CI a.R.K,.lit (.string a.R.S),CI a.R.V.K,CI a.R.V.N,.lit (.string a.R.V.S)]]=dJ [DV.agg [.lit (.string a'.Op),CI a'.L.K,.lit (.string a'.L.S),CI a'.L.V.K,CI a'.L.V.N,.lit (.string a'.L.V.S),CI a'.R.K,.lit (.string a'.R.S),CI a'.R.V.K,CI a'.R.V.N,.lit (.string a'.R.V.S)]]/\dJ [DV.box [.sl .byte d.b,CI d.i,CI d.h]]=dJ [DV.box [.sl .byte d'.b,CI d'.i,CI d'.h]]:=by
 subst h1 h2;exact⟨rfl,rfl⟩
theorem sA{a a':ew}{d d':ai}(h1:a=a')(h2:d=d'):dJ [DV.agg [CI a.Kind,.lit (.string a.Name),.sl .bJ a.az,CI a.N,.lit (.string a.aR)]]=dJ [DV.agg [CI a'.Kind,.lit (.string a'.Name),.sl .bJ a'.az,CI a'.N,.lit (.string a'.aR)]]/\dJ [DV.box [.sl .byte d.b,CI d.i,CI d.h]]=dJ [DV.box [.sl .byte d'.b,CI d'.i,CI d'.h]]:=by
 subst h1 h2;exact⟨rfl,rfl⟩
def af8:=bV (α:=aS) (q1 (qA .bc)) [.ro] (fun _=>[]) (fun v=>⟨[dA .gB (⟨2,ao,v⟩:cI)],[],[]⟩)
def TN:HH:=hF af8 func231 [] a0 fun(v:aS) hp hb=>by
 clear hp hb
 apply vE (Lf [DV.agg [CI 2,CS ({data:= #[]:BA}),CI v.K,CI v.N,CS v.S]] [DV.agg [CI 2,CS ao,CI v.K,CI v.N,CS v.S]])
 exact aX _
def af7:=bV (α:=BA) (q1 qS) [.ro] (fun _=>[]) (fun s=>⟨[dA .gB (⟨1,s,dE⟩:cI)],[],[]⟩)
def TM:HH:=hF af7 func232 [] a0 fun(s:BA) hp hb=>by
 clear hp hb
 apply vE (Lf [DV.agg [CI 1,CS s,CI 0,CI 0,CS ({data:= #[]:BA})]] [DV.agg [CI 1,CS s,CI dE.K,CI dE.N,CS dE.S]])
 exact aX _
def agf:=bV (α:=ai) (q1 qU) [.box false] (fun c=>[bh c]) (fun c=>⟨[dA .gB (ij c)],[],[dU (gV c)]⟩)
def OQ:HH:=hF agf func213 [nb,L8,rJ,TN,TM] a0 fun(c:ai) hp hb=>by
 have bp:bh c:=hp _ m0
 clear hp hb
 apply vE (let x1:=[{data:= #[(88:UInt8)]:BA},{data:= #[(89:UInt8)]:BA},{data:= #[(90:UInt8)]:BA},{data:= #[(88:UInt8)]:BA}];let x0:=bT (aa c 6) x1;let q0:=aa c 6;0<=c.i/\L4 c.b.length/\bif af c (6:Int)==(0:Int) then LM [DV.agg [CI 3,CS ({data:= #[]:BA}),CI 0,CI 0,CS ({data:= #[]:BA})]] [DV.agg [CI ((ij c).K),CS ((ij c).S),CI ((ij c).V.K),CI ((ij c).V.N),CS ((ij c).V.S)]] [bU q0] [bU (gV c)] else bif af c (6:Int)==(1:Int) then bh q0/\LM [DV.agg [CI 2,CS ao,CI ((ed q0).K),CI ((ed q0).N),CS ((ed q0).S)]] [DV.agg [CI ((ij c).K),CS ((ij c).S),CI ((ij c).V.K),CI ((ij c).V.N),CS ((ij c).V.S)]] [bU (gL q0)] [bU (gV c)] else bh q0/\1<=x1.length/\LM [DV.agg [CI 1,CS (cx q0 x1),CI dE.K,CI dE.N,CS dE.S]] [DV.agg [CI ((ij c).K),CS ((ij c).S),CI ((ij c).V.K),CI ((ij c).V.N),CS ((ij c).V.S)]] [bU x0] [bU (gV c)])
 dsimp only
 have h6:=au bp 6
 refine⟨bp.1,bp.2,bo (fun h=>⟨by trivial,?_⟩) (fun h=>bo (fun h'=>⟨h6,by trivial,?_⟩) (fun h'=>⟨h6,by simp,by trivial,?_⟩))⟩
 ·exact LdA (a:=⟨3,ao,dE⟩) (d:=aa c 6) (if_pos h).symm (if_pos h).symm
 ·exact LdA (a:=⟨2,ao,ed (aa c 6)⟩) (d:=gL (aa c 6)) ((if_neg h).trans (if_pos h')).symm ((if_neg h).trans (if_pos h')).symm
 ·exact LdA (a:=⟨1,cx (aa c 6) Kp,dE⟩) (d:=bT (aa c 6) Kp) ((if_neg h).trans (if_neg h')).symm ((if_neg h).trans (if_neg h')).symm
def XZ:=bV (α:=ai×Bool) (qC qU (q1 qO)) [.box false,.ro] (fun(c,not)=>[bh c]) (fun(c,not)=>⟨[dA .du (pt not c)],[],[dU (jx c)]⟩)
def rj(c:ai)(not:Bool):Int×OY×OY×T4×Unit->Prop:=fun(i,r,p,cu,_)=>0<=i/\i<=uO c/\p.1=cx c cS/\p.2.2.1=not/\bh ⟨cu.1,cu.2.1,cu.2.2.1⟩/\p.2.1.length<=i/\mD ij gV (uO c-i).toNat p.2.1 ⟨cu.1,cu.2.1,cu.2.2.1⟩=(pt not c).az/\pR gV (uO c-i).toNat ⟨cu.1,cu.2.1,cu.2.2.1⟩=jx c
def v7(c:ai)(not:Bool):Int×OY×OY×T4×Unit->Nat:=fun(i,r,p,cu,_)=>(uO c-i).toNat
def ajt:AX XZ:=fun(c,not)=>b_ [(6,aY [iI 7,.box 4 (4,1024) [.lit .str,.own .gB true,.lit .bool],.box 5 (5,1024) [.lit .str,.own .gB true,.lit .bool],.box 0 (2000000,0) [.shr .byte,.lit (.int .i64),.lit (.int .i64)]] (fun _=>rj c not) (v7 c not))]
def YK:HH:=hF XZ func199 [rJ,OQ] ajt fun x hp hb=>by
 obtain⟨c,not⟩:=x
 have bp:bh c:=hp _ m0
 clear hp hb
 apply vE (let x2:={data:= #[(111:UInt8),(114:UInt8),(100:UInt8),(101:UInt8),(114:UInt8)]:BA};let x3:={data:= #[(105:UInt8),(116:UInt8),(101:UInt8),(109:UInt8)]:BA};let x1:=[x2,{data:= #[(112:UInt8),(97:UInt8),(105:UInt8),(100:UInt8)]:BA},x3,x2];let x0:=bT c x1;let q0:=BA×List cI×Bool×PUnit;let q1:=(0,({data:= #[]:BA},[],false,()),(cx c x1,[],not,()),(x0.b,x0.i,x0.h,()),());let q2:=pt not c;bh c/\1<=x1.length/\bif ByteArray.toList (cx c x1)==ByteArray.toList x3 then rj c not q1/\∀(y:Int×q0×q0×OX×PUnit),let x5:={b:=y.2.2.2.1.1,i:=y.2.2.2.1.2.1,h:=y.2.2.2.1.2.2.1:ai};let x4:=gV x5;let q3:=(wrap i64 (y.1+1),(y.2.1.1,y.2.1.2.1,y.2.1.2.2.1,()),(y.2.2.1.1,y.2.2.1.2.1++[ij x5],y.2.2.1.2.2.1,()),(x4.b,x4.i,x4.h,()),());rj c not y->bif decide (y.1<2) then bh x5/\y.2.2.1.2.1.length+List.length [ij x5]<=4294967296/\rj c not q3/\v7 c not q3<v7 c not y else LM [DV.agg [CS y.2.2.1.1,CL .gB y.2.2.1.2.1,CO y.2.2.1.2.2.1]] [DV.agg [CS (q2.Kind),CL .gB q2.az,CO (q2.Not)]] [DV.box [CL .byte y.2.2.2.1.1,CI y.2.2.2.1.2.1,CI y.2.2.2.1.2.2.1]] [bU (jx c)] else rj c not q1/\∀(y:Int×q0×q0×OX×PUnit),let x5:={b:=y.2.2.2.1.1,i:=y.2.2.2.1.2.1,h:=y.2.2.2.1.2.2.1:ai};let x4:=gV x5;let q4:=(wrap i64 (y.1+1),(y.2.1.1,y.2.1.2.1,y.2.1.2.2.1,()),(y.2.2.1.1,y.2.2.1.2.1++[ij x5],y.2.2.1.2.2.1,()),(x4.b,x4.i,x4.h,()),());rj c not y->bif decide (y.1<1) then bh x5/\y.2.2.1.2.1.length+List.length [ij x5]<=4294967296/\rj c not q4/\v7 c not q4<v7 c not y else LM [DV.agg [CS y.2.2.1.1,CL .gB y.2.2.1.2.1,CO y.2.2.1.2.2.1]] [DV.agg [CS (q2.Kind),CL .gB q2.az,CO (q2.Not)]] [DV.box [CL .byte y.2.2.2.1.1,CI y.2.2.2.1.2.1,CI y.2.2.2.1.2.2.1]] [bU (jx c)])
 dsimp only
 have hk:=dw bp cS
 have hle:=HV c
 have fin:rj c not ((0:Int),(ao,[],false,()),(cx c cS,[],not,()),((bT c cS).b,(bT c cS).i,(bT c cS).h,()),()):=⟨by omega,hle.1,rfl,rfl,hk,by simp,by simp only[Int.sub_zero];rfl,by simp only[Int.sub_zero];rfl⟩
 have h2:∀{b:Bool},(ByteArray.toList (cx c cS)==ByteArray.toList Fl)=b->uO c=if b=true then 2 else 1:=fun{b} h=>by
  rw[aQ] at h
  unfold uO
  cases b with
  |true=>rw[if_pos (yT h)];rfl
  |false=>rw[if_neg (yF h)];rfl
 refine⟨bp,by simp,ae (fun h=> ?_) (fun h=> ?_)⟩
 all_goals
  have hN:=h2 h
  simp only[if_true,xv,if_false] at hN
  clear h
  refine⟨fin,?_⟩
  rintro⟨i,⟨r1,r2,r3,⟨⟩⟩,⟨p1,p2,p3,⟨⟩⟩,⟨cb,ci,ch,⟨⟩⟩,⟨⟩⟩ ⟨g1,g2,g3,g4,g5,g6,g7,g8⟩
  simp only at g1 g2 g3 g4 g5 g6 g7 g8⊢
  refine aV (fun hc=> ?_) (fun hc=>⟨by trivial,?_⟩)
  ·have e:(uO c-i).toNat=(uO c-(i+1)).toNat+1:=by omega
   rw[e] at g7 g8
   rw[wi]
   exact⟨g5,by simp only[fK,fv];omega,⟨by omega,by omega,g3,g4,ra g5,by simp only[ko,fK,fv];omega,g7,g8⟩,by simp only[v7];omega⟩
  ·have e:(uO c-i).toNat=0:=by omega
   rw[e] at g7 g8
   have g7:p2=(pt not c).az:=g7
   have g8:(⟨cb,ci,ch⟩:ai)=jx c:=g8
   subst g3 g4 g7
   exact LdP (a:=⟨cx c cS,(pt p3 c).az,p3⟩) (d:=⟨cb,ci,ch⟩) rfl g8
def af9:=bV (α:=ai) (q1 qU) [.box false] (fun c=>[bh c]) (fun c=>⟨[dA .gB (eg c)],[],[dU (cY c)]⟩)
def TO:HH:=hF af9 func230 [xo,L8,rJ,TN,TM] a0 fun(c:ai) hp hb=>by
 have bp:bh c:=hp _ m0
 clear hp hb
 apply vE (let x1:=[{data:= #[(88:UInt8)]:BA},{data:= #[(89:UInt8)]:BA}];let x0:=bT (aa c 3) x1;let q0:=aa c 3;bh c/\bif bP c 3 then bh q0/\LM [DV.agg [CI 2,CS ao,CI ((ed q0).K),CI ((ed q0).N),CS ((ed q0).S)]] [DV.agg [CI ((eg c).K),CS ((eg c).S),CI ((eg c).V.K),CI ((eg c).V.N),CS ((eg c).V.S)]] [bU (gL q0)] [bU (cY c)] else bh q0/\1<=x1.length/\LM [DV.agg [CI 1,CS (cx q0 x1),CI dE.K,CI dE.N,CS dE.S]] [DV.agg [CI ((eg c).K),CS ((eg c).S),CI ((eg c).V.K),CI ((eg c).V.N),CS ((eg c).V.S)]] [bU x0] [bU (cY c)])
 dsimp only
 have h6:=au bp 3
 refine⟨bp,ae (fun h=>⟨h6,by trivial,?_⟩) (fun h=>⟨h6,by simp,by trivial,?_⟩)⟩
 ·exact LdA (a:=⟨2,ao,ed (aa c 3)⟩) (d:=gL (aa c 3)) (if_pos h).symm (if_pos h).symm
 ·have h:¬bP c 3=true:=by rw[h];decide
  exact LdA (a:=⟨1,cx (aa c 3) Q5,dE⟩) (d:=bT (aa c 3) Q5) (if_neg h).symm (if_neg h).symm
def abI:=bV (α:=ai) (q1 qU) [.box false] (fun c=>[bh c]) (fun c=>⟨[dA .ca (yM c)],[],[dU (rG c)]⟩)
def abR:HH:=hF abI func200 [nb,TO] a0 fun(c:ai) hp hb=>by
 have bp:bh c:=hp _ m0
 clear hp hb
 apply vE (let x1:=cY (cY (aa c 3));let x2:=eg (cY (aa c 3));let x3:=(eg (aa c 3)).V;let x4:=(1:Int)+af c 3;let x0:=x2.V;let q0:=aa c 3;0<=c.i/\L4 c.b.length/\bh q0/\bh (cY q0)/\LM [DV.agg [CI (wrap i64 x4),CI ((eg q0).K),CS ((eg q0).S),CI x3.K,CI x3.N,CS x3.S,CI x2.K,CS x2.S,CI x0.K,CI x0.N,CS x0.S]] [DV.agg [CI x4,CI ((eg q0).K),CS ((eg q0).S),CI x3.K,CI x3.N,CS x3.S,CI x2.K,CS x2.S,CI x0.K,CI x0.N,CS x0.S]] [bU x1] [bU x1])
 dsimp only
 have hb:=bx (c:=c) (n:=3) (by omega)
 have h3:=au bp 3
 rw[wi]
 exact⟨bp.1,bp.2,h3,qb h3,by trivial,rfl,rfl⟩
def af6:=bV (α:=ai) (q1 qU) [.box false] (fun c=>[bh c]) (fun c=>⟨[dA .bJ (fI c)],[],[dU (iq c)]⟩)
def ahK:HH:=hF af6 func233 [xo,TO,rJ] a0 fun(c:ai) hp hb=>by
 have bp:bh c:=hp _ m0
 clear hp hb
 apply vE (let x4:=[{data:= #[(43:UInt8)]:BA},{data:= #[(45:UInt8)]:BA}];let x5:=aa (cY c) 4;let x3:=bT x5 x4;let x1:=cY x3;let x2:=eg x3;let x0:=x2.V;let q0:={data:= #[]:BA};bh c/\bh (cY c)/\bif bP (cY c) 4 then bh x5/\1<=x4.length/\bh x3/\LM [DV.agg [CS (cx x5 x4),CI ((eg c).K),CS ((eg c).S),CI ((eg c).V.K),CI ((eg c).V.N),CS ((eg c).V.S),CI x2.K,CS x2.S,CI x0.K,CI x0.N,CS x0.S]] [DV.agg [CS ((fI c).Op),CI ((fI c).L.K),CS ((fI c).L.S),CI ((fI c).L.V.K),CI ((fI c).L.V.N),CS ((fI c).L.V.S),CI ((fI c).R.K),CS ((fI c).R.S),CI ((fI c).R.V.K),CI ((fI c).R.V.N),CS ((fI c).R.V.S)]] [bU x1] [bU (iq c)] else LM [DV.agg [CS q0,CI ((eg c).K),CS ((eg c).S),CI ((eg c).V.K),CI ((eg c).V.N),CS ((eg c).V.S),CI 0,CS q0,CI 0,CI 0,CS q0]] [DV.agg [CS ((fI c).Op),CI ((fI c).L.K),CS ((fI c).L.S),CI ((fI c).L.V.K),CI ((fI c).L.V.N),CS ((fI c).L.V.S),CI ((fI c).R.K),CS ((fI c).R.S),CI ((fI c).R.V.K),CI ((fI c).R.V.N),CS ((fI c).R.V.S)]] [bU x5] [bU (iq c)])
 dsimp only
 have h1:=qb bp
 have h4:=au h1 4
 refine⟨bp,h1,ae (fun h=>⟨h4,by simp,dw h4 _,by trivial,?_⟩) (fun h=>⟨by trivial,?_⟩)⟩
 ·exact LdE (a:=⟨cx (aa (cY c) 4) D8,eg c,eg (bT (aa (cY c) 4) D8)⟩) (d:=cY (bT (aa (cY c) 4) D8)) (if_pos h).symm (if_pos h).symm
 ·have h:¬bP (cY c) 4=true:=by rw[h];decide
  exact LdE (a:=⟨ao,eg c,mJ⟩) (d:=aa (cY c) 4) (if_neg h).symm (if_neg h).symm
def XY:=bV (α:=ai×Int) (qC qU (q1 qI)) [.box false,.ro] (fun(c,fo)=>[bh c]) (fun(c,fo)=>⟨[dA .dx (xj fo c)],[],[dU (qg fo c)]⟩)
def iL(c:ai)(fo:Int):Int×T7×T7×T4×Unit->Prop:=fun(i,r,p,cu,_)=>0<=i/\i<=xi c/\p.1=iK c/\p.2.1=il c/\p.2.2.2.1=0/\p.2.2.2.2.1=ao/\bh ⟨cu.1,cu.2.1,cu.2.2.1⟩/\p.2.2.1.length<=i/\mD fI iq (xi c-i).toNat p.2.2.1 ⟨cu.1,cu.2.1,cu.2.2.1⟩=na c/\pR iq (xi c-i).toNat ⟨cu.1,cu.2.1,cu.2.2.1⟩=k9 c
def l4(c:ai)(fo:Int):Int×T7×T7×T4×Unit->Nat:=fun(i,r,p,cu,_)=>(xi c-i).toNat
def ajs:AX XY:=fun(c,fo)=>b_ [(14,aY [iI 7,.box 4 (4,1024) [.lit (.int .i64),.lit .str,.own .bJ true,.lit (.int .i64),.lit .str],.box 5 (5,1024) [.lit (.int .i64),.lit .str,.own .bJ true,.lit (.int .i64),.lit .str],.box 0 (2000000,0) [.shr .byte,.lit (.int .i64),.lit (.int .i64)]] (fun _=>iL c fo) (l4 c fo))]
def YJ:HH:=hF XY func202 [FD,nb,rJ,ahK,xo] ajs fun x hp hb=>by
 obtain⟨c,fo⟩:=x
 have bp:bh c:=hp _ m0
 clear hp hb
 apply vE (let x4:=[{data:= #[(114:UInt8),(101:UInt8),(102:UInt8),(117:UInt8),(110:UInt8),(100:UInt8)]:BA},{data:= #[(99:UInt8),(97:UInt8),(110:UInt8),(99:UInt8),(101:UInt8),(108:UInt8)]:BA}];let x7:=[1,1,2,3,3,4,5,6];let x9:={data:= #[(105:UInt8),(116:UInt8),(101:UInt8),(109:UInt8)]:BA};let ly:=[0,1,5,100000];let qk:={data:= #[]:BA};let x3:=[{data:= #[(111:UInt8),(114:UInt8),(100:UInt8),(101:UInt8),(114:UInt8)]:BA},{data:= #[(112:UInt8),(97:UInt8),(105:UInt8),(100:UInt8)]:BA},x9,{data:= #[(115:UInt8),(104:UInt8),(105:UInt8),(112:UInt8)]:BA},{data:= #[(99:UInt8),(104:UInt8),(97:UInt8),(114:UInt8),(103:UInt8),(101:UInt8)]:BA}];let x6:=x7.length;let mG:=ly.length;let x5:=(↑x6:Int);let x8:=(↑mG:Int);let x1:=x7.getD (Int.toNat (af c x5)) 0;let x2:=aa c x5;let x0:=bT x2 x3;let q0:=xj fo c;let q1:=Int×BA×List ct×Int×BA×PUnit;let q2:=qg fo c;let q3:=(0,(0,qk,[],0,qk,()),(x1,cx x2 x3,[],0,qk,()),(x0.b,x0.i,x0.h,()),());let q4:=LM [DV.agg [CI x1,CS qk,CL .bJ [],CI 0,CS qk]] [DV.agg [CI (q0.Kind),CS (q0.Name),CL .bJ q0.az,CI (q0.N),CS (q0.aR)]] [bU x2] [bU q2];let q5:=List Int×Int×Int×PUnit;0<=c.i/\L4 c.b.length/\1<=x6/\bif x1==2 then 0<=x2.i/\L4 x2.b.length/\LM [DV.agg [CI x1,CS qk,CL .bJ [],CI (af x2 fo),CS qk]] [DV.agg [CI (q0.Kind),CS (q0.Name),CL .bJ q0.az,CI (q0.N),CS (q0.aR)]] [bU (aa x2 fo)] [bU q2] else bif x1==5 then bif x1==5 then q4 else bh x2/\1<=x3.length/\bif ByteArray.toList (cx x2 x3)==ByteArray.toList x9 then iL c fo q3/\∀(y:Int×q1×q1×q5×PUnit),let gK:={b:=y.2.2.2.1.1,i:=y.2.2.2.1.2.1,h:=y.2.2.2.1.2.2.1:ai};let pE:=y.2.2.1.1==3;let vp:=aa (aa gK x8) 2;let NH:=bT (aa gK 2) x4;let q6:=(wrap i64 (y.1+1),(y.2.1.1,y.2.1.2.1,y.2.1.2.2.1,y.2.1.2.2.2.1,y.2.1.2.2.2.2.1,()),(y.2.2.1.1,y.2.2.1.2.1,y.2.2.1.2.2.1++[fI gK],y.2.2.1.2.2.2.1,y.2.2.1.2.2.2.2.1,()),((iq gK).b,(iq gK).i,(iq gK).h,()),());let q7:=ly.getD (Int.toNat (af gK x8)) 0;let q8:=aa gK 2;iL c fo y->bif decide (y.1<2) then bh gK/\y.2.2.1.2.2.1.length+List.length [fI gK]<=4294967296/\iL c fo q6/\l4 c fo q6<l4 c fo y else bif y.2.2.1.1==4 then 0<=y.2.2.2.1.2.1/\L4 y.2.2.2.1.1.length/\1<=mG/\bif pE then bh (aa gK x8)/\bif bP (aa gK x8) 2 then bh vp/\1<=x4.length/\LM [DV.agg [CI y.2.2.1.1,CS y.2.2.1.2.1,CL .bJ y.2.2.1.2.2.1,CI q7,CS (cx vp x4)]] [DV.agg [CI (q0.Kind),CS (q0.Name),CL .bJ q0.az,CI (q0.N),CS (q0.aR)]] [bU (bT vp x4)] [bU q2] else LM [DV.agg [CI y.2.2.1.1,CS y.2.2.1.2.1,CL .bJ y.2.2.1.2.2.1,CI q7,CS y.2.2.1.2.2.2.2.1]] [DV.agg [CI (q0.Kind),CS (q0.Name),CL .bJ q0.az,CI (q0.N),CS (q0.aR)]] [bU vp] [bU q2] else LM [DV.agg [CI y.2.2.1.1,CS y.2.2.1.2.1,CL .bJ y.2.2.1.2.2.1,CI q7,CS y.2.2.1.2.2.2.2.1]] [DV.agg [CI (q0.Kind),CS (q0.Name),CL .bJ q0.az,CI (q0.N),CS (q0.aR)]] [bU (aa gK x8)] [bU q2] else bif pE then bh gK/\bif bP gK 2 then bh q8/\1<=x4.length/\LM [DV.agg [CI y.2.2.1.1,CS y.2.2.1.2.1,CL .bJ y.2.2.1.2.2.1,CI y.2.2.1.2.2.2.1,CS (cx q8 x4)]] [DV.agg [CI (q0.Kind),CS (q0.Name),CL .bJ q0.az,CI (q0.N),CS (q0.aR)]] [bU NH] [bU q2] else LM [DV.agg [CI y.2.2.1.1,CS y.2.2.1.2.1,CL .bJ y.2.2.1.2.2.1,CI y.2.2.1.2.2.2.1,CS y.2.2.1.2.2.2.2.1]] [DV.agg [CI (q0.Kind),CS (q0.Name),CL .bJ q0.az,CI (q0.N),CS (q0.aR)]] [bU q8] [bU q2] else LM [DV.agg [CI y.2.2.1.1,CS y.2.2.1.2.1,CL .bJ y.2.2.1.2.2.1,CI y.2.2.1.2.2.2.1,CS y.2.2.1.2.2.2.2.1]] [DV.agg [CI (q0.Kind),CS (q0.Name),CL .bJ q0.az,CI (q0.N),CS (q0.aR)]] [DV.box [CL .byte y.2.2.2.1.1,CI y.2.2.2.1.2.1,CI y.2.2.2.1.2.2.1]] [bU q2] else iL c fo q3/\∀(y:Int×q1×q1×q5×PUnit),let gK:={b:=y.2.2.2.1.1,i:=y.2.2.2.1.2.1,h:=y.2.2.2.1.2.2.1:ai};let pE:=y.2.2.1.1==3;let vp:=aa (aa gK x8) 2;let NH:=bT (aa gK 2) x4;let q9:=(wrap i64 (y.1+1),(y.2.1.1,y.2.1.2.1,y.2.1.2.2.1,y.2.1.2.2.2.1,y.2.1.2.2.2.2.1,()),(y.2.2.1.1,y.2.2.1.2.1,y.2.2.1.2.2.1++[fI gK],y.2.2.1.2.2.2.1,y.2.2.1.2.2.2.2.1,()),((iq gK).b,(iq gK).i,(iq gK).h,()),());let q10:=ly.getD (Int.toNat (af gK x8)) 0;iL c fo y->bif decide (y.1<1) then bh gK/\y.2.2.1.2.2.1.length+List.length [fI gK]<=4294967296/\iL c fo q9/\l4 c fo q9<l4 c fo y else bif y.2.2.1.1==4 then 0<=y.2.2.2.1.2.1/\L4 y.2.2.2.1.1.length/\1<=mG/\bif pE then bh (aa gK x8)/\bif bP (aa gK x8) 2 then bh vp/\1<=x4.length/\LM [DV.agg [CI y.2.2.1.1,CS y.2.2.1.2.1,CL .bJ y.2.2.1.2.2.1,CI q10,CS (cx vp x4)]] [DV.agg [CI (q0.Kind),CS (q0.Name),CL .bJ q0.az,CI (q0.N),CS (q0.aR)]] [bU (bT vp x4)] [bU q2] else LM [DV.agg [CI y.2.2.1.1,CS y.2.2.1.2.1,CL .bJ y.2.2.1.2.2.1,CI q10,CS y.2.2.1.2.2.2.2.1]] [DV.agg [CI (q0.Kind),CS (q0.Name),CL .bJ q0.az,CI (q0.N),CS (q0.aR)]] [bU vp] [bU q2] else LM [DV.agg [CI y.2.2.1.1,CS y.2.2.1.2.1,CL .bJ y.2.2.1.2.2.1,CI q10,CS y.2.2.1.2.2.2.2.1]] [DV.agg [CI (q0.Kind),CS (q0.Name),CL .bJ q0.az,CI (q0.N),CS (q0.aR)]] [bU (aa gK x8)] [bU q2] else bif pE then bh gK/\bif bP gK 2 then bh (aa gK 2)/\1<=x4.length/\LM [DV.agg [CI y.2.2.1.1,CS y.2.2.1.2.1,CL .bJ y.2.2.1.2.2.1,CI y.2.2.1.2.2.2.1,CS (cx (aa gK 2) x4)]] [DV.agg [CI (q0.Kind),CS (q0.Name),CL .bJ q0.az,CI (q0.N),CS (q0.aR)]] [bU NH] [bU q2] else LM [DV.agg [CI y.2.2.1.1,CS y.2.2.1.2.1,CL .bJ y.2.2.1.2.2.1,CI y.2.2.1.2.2.2.1,CS y.2.2.1.2.2.2.2.1]] [DV.agg [CI (q0.Kind),CS (q0.Name),CL .bJ q0.az,CI (q0.N),CS (q0.aR)]] [bU (aa gK 2)] [bU q2] else LM [DV.agg [CI y.2.2.1.1,CS y.2.2.1.2.1,CL .bJ y.2.2.1.2.2.1,CI y.2.2.1.2.2.2.1,CS y.2.2.1.2.2.2.2.1]] [DV.agg [CI (q0.Kind),CS (q0.Name),CL .bJ q0.az,CI (q0.N),CS (q0.aR)]] [DV.box [CL .byte y.2.2.2.1.1,CI y.2.2.2.1.2.1,CI y.2.2.2.1.2.2.1]] [bU q2] else bif x1==6 then q4 else bh x2/\1<=x3.length/\bif ByteArray.toList (cx x2 x3)==ByteArray.toList x9 then iL c fo q3/\∀(y:Int×q1×q1×q5×PUnit),let gK:={b:=y.2.2.2.1.1,i:=y.2.2.2.1.2.1,h:=y.2.2.2.1.2.2.1:ai};let pE:=y.2.2.1.1==3;let vp:=aa (aa gK x8) 2;let NH:=bT (aa gK 2) x4;let q11:=(wrap i64 (y.1+1),(y.2.1.1,y.2.1.2.1,y.2.1.2.2.1,y.2.1.2.2.2.1,y.2.1.2.2.2.2.1,()),(y.2.2.1.1,y.2.2.1.2.1,y.2.2.1.2.2.1++[fI gK],y.2.2.1.2.2.2.1,y.2.2.1.2.2.2.2.1,()),((iq gK).b,(iq gK).i,(iq gK).h,()),());let q12:=ly.getD (Int.toNat (af gK x8)) 0;iL c fo y->bif decide (y.1<2) then bh gK/\y.2.2.1.2.2.1.length+List.length [fI gK]<=4294967296/\iL c fo q11/\l4 c fo q11<l4 c fo y else bif y.2.2.1.1==4 then 0<=y.2.2.2.1.2.1/\L4 y.2.2.2.1.1.length/\1<=mG/\bif pE then bh (aa gK x8)/\bif bP (aa gK x8) 2 then bh vp/\1<=x4.length/\LM [DV.agg [CI y.2.2.1.1,CS y.2.2.1.2.1,CL .bJ y.2.2.1.2.2.1,CI q12,CS (cx vp x4)]] [DV.agg [CI (q0.Kind),CS (q0.Name),CL .bJ q0.az,CI (q0.N),CS (q0.aR)]] [bU (bT vp x4)] [bU q2] else LM [DV.agg [CI y.2.2.1.1,CS y.2.2.1.2.1,CL .bJ y.2.2.1.2.2.1,CI q12,CS y.2.2.1.2.2.2.2.1]] [DV.agg [CI (q0.Kind),CS (q0.Name),CL .bJ q0.az,CI (q0.N),CS (q0.aR)]] [bU vp] [bU q2] else LM [DV.agg [CI y.2.2.1.1,CS y.2.2.1.2.1,CL .bJ y.2.2.1.2.2.1,CI q12,CS y.2.2.1.2.2.2.2.1]] [DV.agg [CI (q0.Kind),CS (q0.Name),CL .bJ q0.az,CI (q0.N),CS (q0.aR)]] [bU (aa gK x8)] [bU q2] else bif pE then bh gK/\bif bP gK 2 then bh (aa gK 2)/\1<=x4.length/\LM [DV.agg [CI y.2.2.1.1,CS y.2.2.1.2.1,CL .bJ y.2.2.1.2.2.1,CI y.2.2.1.2.2.2.1,CS (cx (aa gK 2) x4)]] [DV.agg [CI (q0.Kind),CS (q0.Name),CL .bJ q0.az,CI (q0.N),CS (q0.aR)]] [bU NH] [bU q2] else LM [DV.agg [CI y.2.2.1.1,CS y.2.2.1.2.1,CL .bJ y.2.2.1.2.2.1,CI y.2.2.1.2.2.2.1,CS y.2.2.1.2.2.2.2.1]] [DV.agg [CI (q0.Kind),CS (q0.Name),CL .bJ q0.az,CI (q0.N),CS (q0.aR)]] [bU (aa gK 2)] [bU q2] else LM [DV.agg [CI y.2.2.1.1,CS y.2.2.1.2.1,CL .bJ y.2.2.1.2.2.1,CI y.2.2.1.2.2.2.1,CS y.2.2.1.2.2.2.2.1]] [DV.agg [CI (q0.Kind),CS (q0.Name),CL .bJ q0.az,CI (q0.N),CS (q0.aR)]] [DV.box [CL .byte y.2.2.2.1.1,CI y.2.2.2.1.2.1,CI y.2.2.2.1.2.2.1]] [bU q2] else iL c fo q3/\∀(y:Int×q1×q1×q5×PUnit),let gK:={b:=y.2.2.2.1.1,i:=y.2.2.2.1.2.1,h:=y.2.2.2.1.2.2.1:ai};let pE:=y.2.2.1.1==3;let vp:=aa (aa gK x8) 2;let NH:=bT (aa gK 2) x4;let q13:=(wrap i64 (y.1+1),(y.2.1.1,y.2.1.2.1,y.2.1.2.2.1,y.2.1.2.2.2.1,y.2.1.2.2.2.2.1,()),(y.2.2.1.1,y.2.2.1.2.1,y.2.2.1.2.2.1++[fI gK],y.2.2.1.2.2.2.1,y.2.2.1.2.2.2.2.1,()),((iq gK).b,(iq gK).i,(iq gK).h,()),());let q14:=ly.getD (Int.toNat (af gK x8)) 0;iL c fo y->bif decide (y.1<1) then bh gK/\y.2.2.1.2.2.1.length+List.length [fI gK]<=4294967296/\iL c fo q13/\l4 c fo q13<l4 c fo y else bif y.2.2.1.1==4 then 0<=y.2.2.2.1.2.1/\L4 y.2.2.2.1.1.length/\1<=mG/\bif pE then bh (aa gK x8)/\bif bP (aa gK x8) 2 then bh vp/\1<=x4.length/\LM [DV.agg [CI y.2.2.1.1,CS y.2.2.1.2.1,CL .bJ y.2.2.1.2.2.1,CI q14,CS (cx vp x4)]] [DV.agg [CI (q0.Kind),CS (q0.Name),CL .bJ q0.az,CI (q0.N),CS (q0.aR)]] [bU (bT vp x4)] [bU q2] else LM [DV.agg [CI y.2.2.1.1,CS y.2.2.1.2.1,CL .bJ y.2.2.1.2.2.1,CI q14,CS y.2.2.1.2.2.2.2.1]] [DV.agg [CI (q0.Kind),CS (q0.Name),CL .bJ q0.az,CI (q0.N),CS (q0.aR)]] [bU vp] [bU q2] else LM [DV.agg [CI y.2.2.1.1,CS y.2.2.1.2.1,CL .bJ y.2.2.1.2.2.1,CI q14,CS y.2.2.1.2.2.2.2.1]] [DV.agg [CI (q0.Kind),CS (q0.Name),CL .bJ q0.az,CI (q0.N),CS (q0.aR)]] [bU (aa gK x8)] [bU q2] else bif pE then bh gK/\bif bP gK 2 then bh (aa gK 2)/\1<=x4.length/\LM [DV.agg [CI y.2.2.1.1,CS y.2.2.1.2.1,CL .bJ y.2.2.1.2.2.1,CI y.2.2.1.2.2.2.1,CS (cx (aa gK 2) x4)]] [DV.agg [CI (q0.Kind),CS (q0.Name),CL .bJ q0.az,CI (q0.N),CS (q0.aR)]] [bU NH] [bU q2] else LM [DV.agg [CI y.2.2.1.1,CS y.2.2.1.2.1,CL .bJ y.2.2.1.2.2.1,CI y.2.2.1.2.2.2.1,CS y.2.2.1.2.2.2.2.1]] [DV.agg [CI (q0.Kind),CS (q0.Name),CL .bJ q0.az,CI (q0.N),CS (q0.aR)]] [bU (aa gK 2)] [bU q2] else LM [DV.agg [CI y.2.2.1.1,CS y.2.2.1.2.1,CL .bJ y.2.2.1.2.2.1,CI y.2.2.1.2.2.2.1,CS y.2.2.1.2.2.2.2.1]] [DV.agg [CI (q0.Kind),CS (q0.Name),CL .bJ q0.az,CI (q0.N),CS (q0.aR)]] [DV.box [CL .byte y.2.2.2.1.1,CI y.2.2.2.1.2.1,CI y.2.2.2.1.2.2.1]] [bU q2])
 dsimp only
 have hk:=iG bp pT
 have lp:=LL bp
 have hle:=OM c
 have fin:iL c fo ((0:Int),((0:Int),ao,[],(0:Int),ao,()),(iK c,il c,[],(0:Int),ao,()),((Fp c).b,(Fp c).i,(Fp c).h,()),()):=⟨by omega,hle.1,rfl,rfl,rfl,rfl,lp,by simp,by simp only[Int.sub_zero];rfl,by simp only[Int.sub_zero];rfl⟩
 have h2:∀{b:Bool},(ByteArray.toList (il c)==ByteArray.toList Fl)=b->xi c=if b=true then 2 else 1:=fun{b} h=>by
  rw[aQ] at h
  unfold xi
  cases b with
  |true=>rw[if_pos (yT h)];rfl
  |false=>rw[if_neg (yF h)];rfl
 have rest:¬iK c=2->¬(iK c=5\/iK c=6)->xj fo c=⟨iK c,il c,na c,va c,ui c⟩/\qg fo c=vc c:=fun n2 n56=>⟨(if_neg n2).trans (if_neg n56),(if_neg n2).trans (if_neg n56)⟩
 refine⟨bp.1,bp.2,by simp,bo (fun n2=>⟨hk.1,hk.2,by trivial,?_⟩) (fun n2=>bo (fun n5=>bo (fun n5'=>⟨by trivial,?_⟩) (fun n5'=>absurd n5 n5')) (fun n5=>bo (fun n6=>⟨by trivial,?_⟩) (fun n6=>⟨hk,by simp,ae (fun h=> ?_) (fun h=> ?_)⟩)))⟩
 ·exact sA (a:=⟨iK c,ao,[],af (ku c pT) fo,ao⟩) (d:=aa (ku c pT) fo) (if_pos n2).symm (if_pos n2).symm
 ·exact sA (a:=⟨iK c,ao,[],0,ao⟩) (d:=ku c pT) ((if_neg n2).trans (if_pos (.inl n5))).symm ((if_neg n2).trans (if_pos (.inl n5))).symm
 ·exact sA (a:=⟨iK c,ao,[],0,ao⟩) (d:=ku c pT) ((if_neg n2).trans (if_pos (.inr n6))).symm ((if_neg n2).trans (if_pos (.inr n6))).symm
 all_goals
  have hN:=h2 h
  simp only[if_true,xv,if_false] at hN
  clear h
  have n56:¬(iK c=5\/iK c=6):=fun e=>e.elim n5 n6
  obtain⟨hA,hC⟩:=rest n2 n56
  rw[hA,hC]
  refine⟨fin,?_⟩
  rintro⟨i,⟨r1,r2,r3,r4,r5,⟨⟩⟩,⟨p1,p2,p3,p4,p5,⟨⟩⟩,⟨cb,ci,ch,⟨⟩⟩,⟨⟩⟩ ⟨g1,g2,g3,g4,g5,g6,g7,g8,g9,g10⟩
  simp only at g1 g2 g3 g4 g5 g6 g7 g8 g9 g10⊢
  subst g3 g4 g5 g6
  refine aV ?_ ?_<;>intro hc
  ·have e:(xi c-i).toNat=(xi c-(i+1)).toNat+1:=by omega
   rw[e] at g9 g10
   rw[wi]
   exact⟨g7,by simp only[fK,fv];omega,⟨by omega,by omega,rfl,rfl,rfl,rfl,LH g7,by simp only[ko,fK,fv];omega,g9,g10⟩,by simp only[l4];omega⟩
  ·have e:(xi c-i).toNat=0:=by omega
   rw[e] at g9 g10
   have g9:p3=na c:=g9
   have g10:(⟨cb,ci,ch⟩:ai)=k9 c:=g10
   have e1:cb=(k9 c).b:=congrArg ai.b g10
   have e2:ci=(k9 c).i:=congrArg ai.i g10
   have e3:ch=(k9 c).h:=congrArg ai.h g10
   subst g9 e1 e2 e3
   have k3:=Fg bp
   refine bo (fun h4=>⟨k3.1,k3.2,by simp,bo (fun h3=>absurd (h4.symm.trans h3) (by decide)) (fun h3=>⟨by trivial,?_⟩)⟩) (fun h4=>bo (fun h3=>⟨k3,ae (fun ho=>⟨au k3 _,by simp,by trivial,?_⟩) (fun ho=>⟨by trivial,?_⟩)⟩) (fun h3=>⟨by trivial,?_⟩))
   ·have eT:va c=gU (k9 c) w4:=if_pos h4
    have eU:ui c=ao:=if_neg (fun e=>h3 e.1)
    have e5:vc c=ku (k9 c) w4:=(if_neg h3).trans (if_pos h4)
    exact sA (a':=⟨iK c,il c,na c,va c,ui c⟩) (d':=vc c) (a:=⟨iK c,il c,na c,gU (k9 c) w4,ao⟩) (d:=ku (k9 c) w4) (by rw[eT,eU]) e5.symm
   ·have eT:va c=0:=if_neg h4
    have e4:oH c=k9 c:=if_neg h4
    have ho:bP (oH c) 2=true:=by rw[e4];exact ho
    have eU:ui c=cx (aa (oH c) 2) qK:=if_pos ⟨h3,ho⟩
    have e5:vc c=bT (aa (oH c) 2) qK:=(if_pos h3).trans (if_pos ho)
    exact sA (a':=⟨iK c,il c,na c,va c,ui c⟩) (d':=vc c) (a:=⟨iK c,il c,na c,0,cx (aa (k9 c) 2) qK⟩) (d:=bT (aa (k9 c) 2) qK) (by rw[eT,eU,e4]) (by rw[e5,e4])
   ·have eT:va c=0:=if_neg h4
    have e4:oH c=k9 c:=if_neg h4
    have ho:¬bP (oH c) 2=true:=by rw[e4,show bP (k9 c) 2=false from ho];decide
    have eU:ui c=ao:=if_neg (fun e=>ho e.2)
    have e5:vc c=aa (oH c) 2:=(if_pos h3).trans (if_neg ho)
    exact sA (a':=⟨iK c,il c,na c,va c,ui c⟩) (d':=vc c) (a:=⟨iK c,il c,na c,0,ao⟩) (d:=aa (k9 c) 2) (by rw[eT,eU]) (by rw[e5,e4])
   ·have eT:va c=0:=if_neg h4
    have eU:ui c=ao:=if_neg (fun e=>h3 e.1)
    have e5:vc c=k9 c:=(if_neg h3).trans (if_neg h4)
    exact sA (a':=⟨iK c,il c,na c,va c,ui c⟩) (d':=vc c) (a:=⟨iK c,il c,na c,0,ao⟩) (d:=k9 c) (by rw[eT,eU]) e5.symm
def agl:=bV (α:=cI×(List BA)) (qC (qA .gB) (q1 (qL .str))) [.ro,.ro] (fun _=>[]) (fun(a,vars)=>⟨[dA .gB (rE vars a)],[],[]⟩)
def ah5:HH:=hF agl func201 [TP,TN,TM] a0 fun x hp hb=>by
 obtain⟨a,vars⟩:=x
 clear hp hb
 apply vE (let q0:=rE vars a;bif eK vars a then Lf [DV.agg [CI a.K,CS a.S,CI a.V.K,CI a.V.N,CS a.V.S]] [DV.agg [CI (q0.K),CS (q0.S),CI (q0.V.K),CI (q0.V.N),CS (q0.V.S)]] else bif (vars.length:Int)==0 then Lf [DV.agg [CI 2,CS ao,CI 1,CI 1,CS ({data:= #[]:BA})]] [DV.agg [CI (q0.K),CS (q0.S),CI (q0.V.K),CI (q0.V.N),CS (q0.V.S)]] else(0:Int)<=(0:Int)/\Int.toNat 0<vars.length/\Lf [DV.agg [CI 1,CS (vars.getD (Int.toNat 0) ao),CI dE.K,CI dE.N,CS dE.S]] [DV.agg [CI (q0.K),CS (q0.S),CI (q0.V.K),CI (q0.V.N),CS (q0.V.S)]])
 dsimp only
 refine ae ?_ ?_<;>intro h
 ·have e:rE vars a=a:=if_pos h
  rw[e];exact aX _
 have h:¬eK vars a=true:=by rw[h];decide
 refine bo (fun g=> ?_) (fun g=>⟨by omega,?_,?_⟩)
 ·have e:rE vars a=⟨2,ao,⟨1,1,ao⟩⟩:=(if_neg h).trans (if_pos (by omega))
  rw[e];exact aX _
 ·show 0<vars.length
  omega
 ·have e:rE vars a=⟨1,vars.getD 0 ao,dE⟩:=(if_neg h).trans (if_neg (by omega))
  rw[e];exact aX _
def cp(s:aF)(f:aK):aF:=if 0<ib s.ab f then s else⟨s.ab++[⟨s.Next,f⟩],s.Next+1⟩
def l_(s:aF)(f:aK):Int:=if 0<ib s.ab f then ib s.ab f else s.Next
def xX(id:Int)(x:bN):Bool:= !decide (x.Id=id)
def p8(s:aF)(id:Int):aF:=⟨s.ab.filter (xX id),s.Next⟩
def ld:Nat->aF->ai->aF
 |0,s,_=>s
 |k+1,s,c=>if bP c 5=true/\0<s.ab.length then ld k (p8 s (s.ab.getD (af (aa c 5) s.ab.length).toNat a_).Id) (aa (aa c 5) s.ab.length) else ld k (cp s (cV (aa c 5))) (cW (aa c 5))
def sK:Nat->aF->ai->ai
 |0,_,c=>c
 |k+1,s,c=>if bP c 5=true/\0<s.ab.length then sK k (p8 s (s.ab.getD (af (aa c 5) s.ab.length).toNat a_).Id) (aa (aa c 5) s.ab.length) else sK k (cp s (cV (aa c 5))) (cW (aa c 5))
def c_(c:ai):aF:=ld (af c 9).toNat ⟨[],1⟩ (aa c 9)
def kA(c:ai):ai:=sK (af c 9).toNat ⟨[],1⟩ (aa c 9)
theorem Lw(s:aF)(id:Int):(p8 s id).ab.length<=s.ab.length:=Mq _ _
theorem u6(s:aF)(f:aK):(cp s f).ab.length<=s.ab.length+1/\s.Next<=(cp s f).Next/\(cp s f).Next<=s.Next+1:=by
 unfold cp;split
 ·omega
 ·simp only[ko,fK,fv];omega
theorem wO:∀(k:Nat)(s:aF)(c:ai),(ld k s c).ab.length<=s.ab.length+k
 |0,s,c=>by simp[ld]
 |k+1,s,c=>by
  unfold ld;split
  ·have:=wO k (p8 s (s.ab.getD (af (aa c 5) s.ab.length).toNat a_).Id) (aa (aa c 5) s.ab.length)
   have:=Lw s (s.ab.getD (af (aa c 5) s.ab.length).toNat a_).Id
   omega
  ·have:=wO k (cp s (cV (aa c 5))) (cW (aa c 5))
   have:=(u6 s (cV (aa c 5))).1
   omega
theorem D2(c:ai):(c_ c).ab.length<=8:=by
 have:=wO (af c 9).toNat ⟨[],1⟩ (aa c 9)
 have:=bx (c:=c) (n:=9) (by omega)
 simp only[fv] at*
 unfold c_;omega
theorem xd:∀{k:Nat}{s:aF}{c:ai},bh c->bh (sK k s c)
 |0,_,_,h=>h
 |k+1,s,c,h=>by
  unfold sK;split
  ·exact xd (k:=k) (au (au h _) _)
  ·exact xd (k:=k) (lR (au h _))
theorem E_{c:ai}(h:bh c):bh (kA c):=xd (au h _)
theorem H6{α:Type}(g:α->α)(e:α)(B:List α):∀A:List α,(A++e::B).modify A.length g=A++g e::B
 |[]=>rfl
 |a::A=>by
  show(a::(A++e::B)).modify (A.length+1) g=a::(A++g e::B)
  rw[List.modify_succ_cons,H6 g e B A]
def jy(vars:List BA)(xs:List ct)(k:Nat):List ct:=(xs.take k).map (pX vars)++xs.drop k
theorem Ai(vars:List BA)(xs:List ct){k:Nat}(h:k<=xs.length):(jy vars xs k).length=xs.length:=by
 simp only[jy,ko,xt,oc,Mf];omega
theorem G5{vars:List BA}{xs:List ct}{k:Nat}(h:k<xs.length):jy vars xs k=(xs.take k).map (pX vars)++xs.getD k eY::xs.drop (k+1):=by
 have hd:xs.drop k=xs.getD k eY::xs.drop (k+1):=by
  rw[Ui h,ez,fw h];rfl
 rw[jy,hd]
theorem G4{vars:List BA}{xs:List ct}{k:Nat}(h:k<xs.length)(g:ct->ct):(jy vars xs k).modify k g=(xs.take k).map (pX vars)++g (xs.getD k eY)::xs.drop (k+1):=by
 have hk:((xs.take k).map (pX vars)).length=k:=by rw[xt,oc];omega
 rw[G5 h]
 have:=H6 g (xs.getD k eY) (xs.drop (k+1)) ((xs.take k).map (pX vars))
 rwa[hk] at this
theorem Ng{vars:List BA}{xs:List ct}{k:Nat}(h:k<xs.length)(g g':ct->ct):((jy vars xs k).modify k g).modify k g'=(xs.take k).map (pX vars)++g' (g (xs.getD k eY))::xs.drop (k+1):=by
 have hk:((xs.take k).map (pX vars)).length=k:=by rw[xt,oc];omega
 rw[G4 h]
 have:=H6 g' (g (xs.getD k eY)) (xs.drop (k+1)) ((xs.take k).map (pX vars))
 rwa[hk] at this
theorem EV{vars:List BA}{xs:List ct}{k:Nat}(h:k<xs.length):(xs.take k).map (pX vars)++pX vars (xs.getD k eY)::xs.drop (k+1)=jy vars xs (k+1):=by
 rw[jy,xH eY h,J9];simp
theorem Aj{vars:List BA}{xs:List ct}{k:Nat}(h:k<xs.length):(jy vars xs k).getD k eY=xs.getD k eY:=by
 have hk:((xs.take k).map (pX vars)).length=k:=by rw[xt,oc];omega
 rw[G5 h,ez,zC (by omega),hk,Za];rfl
theorem w_{vars:List BA}{xs:List ct}{k:Nat}(h:k<xs.length)(g:ct->ct):((jy vars xs k).modify k g).getD k eY=g (xs.getD k eY):=by
 rw[mod_self _ (by rw[Ai _ _ (by omega)];exact h),Aj h]
theorem Q_(c:ai):(∀p,p∈dW c->p.az.length<=2)/\(dW c).length<=4:=by
 have h1:∀(b:Bool)(d:ai),(pt b d).az.length<=2:=fun b d=>by
  have:=HV d
  show(mD _ _ _ _ _).length<=2
  rw[mC];simp only[fv];omega
 have h2:=nJ (f:=pt false) (g:=jx) (fun p=>p.az.length<=2) (h1 false) (Ra c).toNat [] (HL c) (fun x hx=>by cases hx)
 have h3:=mC (pt false) jx (Ra c).toNat [] (HL c)
 have h4:=MC c
 unfold dW
 split
 ·refine⟨fun p hp=> ?_,?_⟩
  ·rcases jC.1 hp with hp|hp
   ·exact h2 p hp
   ·rw[mI] at hp;subst hp;exact h1 true _
  ·simp only[lh,ko,fK,fv] at h3⊢;omega
 ·exact⟨h2,by simp only[lh,fv] at h3⊢;omega⟩
theorem wB:∀{ps:List cr},(∀p,p∈ps->p.az.length<=2)->dK ps<=2*ps.length
 |[],_=>tX _
 |p::ps,h=>by
  have h1:=h p (by simp)
  have h2:=wB (ps:=ps) (fun q hq=>h q (by simp[hq]))
  simp only[dK,wh,Mr,fK] at h2⊢;omega
theorem Ue{a a':bf}{d d':ai}(h1:a=a')(h2:d=d'):dJ [DV.agg [.lit (.string a.Name),CI a.je,.sl .du a.aH,.sl .ca a.aU,.sl .dx a.bI]]=dJ [DV.agg [.lit (.string a'.Name),CI a'.je,.sl .du a'.aH,.sl .ca a'.aU,.sl .dx a'.bI]]/\dJ [DV.box [.sl .byte d.b,CI d.i,CI d.h]]=dJ [DV.box [.sl .byte d'.b,CI d'.i,CI d'.h]]:=by
 subst h1 h2;exact⟨rfl,rfl⟩
theorem LdD{a a':br}{d d':ai}(h1:a=a')(h2:d=d'):dJ [DV.agg [.lit (.string a.Name),.sl .bE a.aA]]=dJ [DV.agg [.lit (.string a'.Name),.sl .bE a'.aA]]/\dJ [DV.box [.sl .byte d.b,CI d.i,CI d.h]]=dJ [DV.box [.sl .byte d'.b,CI d'.i,CI d'.h]]:=by
 subst h1 h2;exact⟨rfl,rfl⟩
theorem LdS{a a':aF}{d d':ai}(h1:a=a')(h2:d=d'):dJ [DV.agg [.sl .aJ a.ab,CI a.Next]]=dJ [DV.agg [.sl .aJ a'.ab,CI a'.Next]]/\dJ [DV.box [.sl .byte d.b,CI d.i,CI d.h]]=dJ [DV.box [.sl .byte d'.b,CI d'.i,CI d'.h]]:=by
 subst h1 h2;exact⟨rfl,rfl⟩
def TH:=bV (α:=aF×Int) (qC (qX .cT) (q1 qI)) [.box true,.ro] (fun(s,id)=>[s.ab.length<=1000]) (fun(s,id)=>⟨[dO (decide ((p8 s id).ab.length<s.ab.length))],[],[dX .cT (p8 s id)]⟩)
def vi(s:aF)(id:Int):List bN×Int×((List bN×(Nat->Bool))×Int×Unit)×Unit->Prop:=fun(o,i,p,_)=>p.1.1=s.ab/\p.2.1=s.Next/\0<=i/\i<=s.ab.length/\(∀j:Nat,i<=(j:Int)->p.1.2 j=false)/\o=(s.ab.take i.toNat).filter (xX id)
def qh(s:aF)(id:Int):List bN×Int×((List bN×(Nat->Bool))×Int×Unit)×Unit->Nat:=fun(o,i,p,_)=>s.ab.length-i.toNat
def abW:AX TH:=fun(s,id)=>b_ [(3,aY [iO 5 .aJ,iI 6,.box 0 (2000000,0) [.part .aJ,.lit (.int .i64)]] (fun _=>vi s id) (qh s id))]
def abT:HH:=hF TH func163 [] abW fun x hp hb=>by
 obtain⟨s,id⟩:=x
 have jK:=Fi (x:=s) (hb _ m0)
 have Oc:=Hs (n:=id) (hb _ m1)
 have bp:s.ab.length<=1000:=hp _ m0
 clear hp hb
 apply vE (vi s id ([],0,((s.ab,fun(x:Nat)=>false),s.Next,()),())/\∀(y:List bN×Int×((List bN×(Nat->Bool))×Int×PUnit)×PUnit),let x1:=y.2.1.toNat;let x3:=y.2.2.1.1.1.getD x1 a_;let x4:=y.2.2.1.1.1.length;let x5:=wrap i64 (y.2.1+1);let x0:=(↑x4:Int);let x2:=[x3];let q0:=(y.1,x5,((y.2.2.1.1.1,y.2.2.1.1.2),y.2.2.1.2.1,()),());vi s id y->bif decide (y.2.1<x0) then 0<=y.2.1/\x1<x4/\x1<x4/\y.2.2.1.1.2 x1=false/\bif x3.Id !=id then 0<=y.2.1/\x1<x4/\x1<x4/\y.2.2.1.1.2 x1=false/\L4 (y.1.length+x2.length)/\vi s id (y.1++x2,x5,((y.2.2.1.1.1,fun(j:Nat)=>Nat.beq j x1||y.2.2.1.1.2 j),y.2.2.1.2.1,()),())/\qh s id (y.1++x2,x5,((y.2.2.1.1.1,fun(j:Nat)=>Nat.beq j x1||y.2.2.1.1.2 j),y.2.2.1.2.1,()),())<qh s id y else vi s id q0/\qh s id q0<qh s id y else LM [VB (decide ((y.1.length:Int)<x0))] [VB (decide ((p8 s id).ab.length<s.ab.length))] [DV.box [CL .aJ y.1,CI y.2.2.1.2.1]] [DV.box [CL .aJ (p8 s id).ab,CI ((p8 s id).Next)]])
 dsimp only
 refine⟨⟨rfl,rfl,by omega,by omega,fun _ _=>rfl,by simp⟩,?_⟩
 rintro⟨o,i,⟨⟨xs,dd⟩,nx,⟨⟩⟩,⟨⟩⟩ ⟨hx,hn,h1,h2,hd,ho⟩
 simp only at hx hn h1 h2 hd ho⊢
 subst hx hn ho
 refine aV ?_ ?_<;>intro hc
 ·have hs:=mw (xX id) (l:=s.ab) (i:=i.toNat) a_ (by omega)
  have e:(i+1).toNat=i.toNat+1:=by omega
  have Xo:=hd i.toNat (by omega)
  have hle:((s.ab.take i.toNat).filter (xX id)).length<=(s.ab.take i.toNat).length:=Mq _ _
  rw[oc] at hle
  rw[wi]
  refine⟨h1,by omega,by omega,Xo,jk (fun g=>⟨h1,by omega,by omega,Xo,by simp only[fK,fv];omega,⟨rfl,rfl,by omega,by omega,Aq h1 hd,?_⟩,by simp only[qh];omega⟩) (fun g=>⟨⟨rfl,rfl,by omega,by omega,fun j hj=>hd j (by omega),?_⟩,by simp only[qh];omega⟩)⟩
  ·rw[e,hs,if_pos (show xX id (s.ab.getD i.toNat a_)=true by rw[xX,decide_eq_false g];rfl)]
  ·rw[e,hs,if_neg (show¬xX id (s.ab.getD i.toNat a_)=true by rw[xX,decide_eq_true g];decide),xu]
 ·rw[cE s.ab (by omega)]
  have e:decide (((s.ab.filter (xX id)).length:Int)<(s.ab.length:Int))=decide ((p8 s id).ab.length<s.ab.length):=by rw[decide_eq_decide];simp only[p8];omega
  rw[e];exact⟨by trivial,rfl,rfl⟩
def ag4:=bV (α:=aF×aK) (qC (qX .cT) (q1 (qA .dc))) [.box true,.ro] (fun(s,f)=>[0<=s.Next/\s.Next<=1000/\s.ab.length<=30,L4 f.ah.length]) (fun(s,f)=>⟨[dI (l_ s f)],[],[dX .cT (cp s f)]⟩)
def ai0:HH:=hF ag4 func104 [OS,sw] a0 fun x hp hb=>by
 obtain⟨s,f⟩:=x
 have bp:0<=s.Next/\s.Next<=1000/\s.ab.length<=30:=hp _ m0
 have eN:f.ah.length<=4294967296:=hp _ m1
 clear hp hb
 apply vE (let q0:=LM [VI 0] [VI (l_ s f)] [DV.box [CL .aJ s.ab,CI s.Next]] [DV.box [CL .aJ (cp s f).ab,CI ((cp s f).Next)]];bif decide (ib s.ab f>0) then LM [VI (ib s.ab f)] [VI (l_ s f)] [DV.box [CL .aJ s.ab,CI s.Next]] [DV.box [CL .aJ (cp s f).ab,CI ((cp s f).Next)]] else bif decide ((s.ab.length:Int)≥40) then q0 else bif decide (s.Next≥1000000) then q0 else L4 f.ah.length/\s.ab.length+List.length [{Id:=s.Next,F:=f:bN}]<=4294967296/\LM [VI (wrap i64 (wrap i64 (s.Next+1)-1))] [VI (l_ s f)] [DV.box [CL .aJ (s.ab++[{Id:=s.Next,F:=f:bN}]),CI (wrap i64 (s.Next+1))]] [DV.box [CL .aJ (cp s f).ab,CI ((cp s f).Next)]])
 dsimp only
 obtain⟨s1,s2,s3⟩:=bp
 refine aV (fun h=>⟨by trivial,?_⟩) (fun h=>aV (fun h2=>absurd h2 (by omega)) (fun h2=>aV (fun h3=>absurd h3 (by omega)) (fun h3=> ?_)))
 ·have e1:cp s f=s:=if_pos h
  have e2:l_ s f=ib s.ab f:=if_pos h
  rw[e1,e2];exact⟨rfl,rfl⟩
 ·have e1:cp s f=⟨s.ab++[⟨s.Next,f⟩],s.Next+1⟩:=if_neg h
  have e2:l_ s f=s.Next:=if_neg h
  rw[e1,e2,wi (n:=s.Next+1),wi,show s.Next+1-1=s.Next by omega]
  exact⟨eN,by simp only[fK,fv];omega,by trivial,rfl,rfl⟩
def YB:=bV (α:=ai) (q1 qU) [.box false] (fun c=>[bh c]) (fun c=>⟨[dA .cT (c_ c)],[],[dU (kA c)]⟩)
def zx(c:ai):Int×T3×T3×T4×Unit->Prop:=fun(i,q,s,cu,_)=>0<=i/\i<=8/\s.1.length+i<=8/\0<=s.2.1/\s.2.1+i<=9/\bh ⟨cu.1,cu.2.1,cu.2.2.1⟩/\ld i.toNat ⟨s.1,s.2.1⟩ ⟨cu.1,cu.2.1,cu.2.2.1⟩=c_ c/\sK i.toNat ⟨s.1,s.2.1⟩ ⟨cu.1,cu.2.1,cu.2.2.1⟩=kA c
def ri(c:ai):Int×T3×T3×T4×Unit->Nat:=fun(i,q,s,cu,_)=>i.toNat
def aj9:AX YB:=fun c=>b_ [(3,aY [iI 4,.box 2 (2,1024) [.own .aJ true,.lit (.int .i64)],.box 3 (3,1024) [.own .aJ true,.lit (.int .i64)],.box 0 (2000000,0) [.shr .byte,.lit (.int .i64),.lit (.int .i64)]] (fun _=>zx c) (ri c))]
def ai1:HH:=hF YB func102 [nb,xo,abT,ai0,L_] aj9 fun(c:ai) hp hb=>by
 have bp:bh c:=hp _ m0
 clear hp hb
 apply vE (0<=c.i/\L4 c.b.length/\zx c (af c 9,([],0,()),([],1,()),((aa c 9).b,(aa c 9).i,(aa c 9).h,()),())/\∀(y:Int×NB×NB×OX×PUnit),let x1:={b:=y.2.2.2.1.1,i:=y.2.2.2.1.2.1,h:=y.2.2.2.1.2.2.1:ai};let x4:=y.2.2.1.1.length;let x6:={ab:=y.2.2.1.1,Next:=y.2.2.1.2.1:aF};let x0:=aa x1 5;let x3:=(↑x4:Int);let x5:=cp x6 (cV x0);let x2:=p8 x6 (y.2.2.1.1.getD (Int.toNat (af x0 x3)) a_).Id;let q0:=bh x0/\(0<=y.2.2.1.2.1/\y.2.2.1.2.1<=1000/\x4<=30)/\(cV x0).ah.length<=4294967296/\zx c (wrap i64 (y.1-1),(y.2.1.1,y.2.1.2.1,()),(x5.ab,x5.Next,()),((cW x0).b,(cW x0).i,(cW x0).h,()),())/\ri c (wrap i64 (y.1-1),(y.2.1.1,y.2.1.2.1,()),(x5.ab,x5.Next,()),((cW x0).b,(cW x0).i,(cW x0).h,()),())<ri c y;let q1:=(wrap i64 (y.1-1),(y.2.1.1,y.2.1.2.1,()),(x2.ab,x2.Next,()),((aa x0 x3).b,(aa x0 x3).i,(aa x0 x3).h,()),());zx c y->bif decide (y.1>0) then bh x1/\bif bP x1 5 then bif decide (x3>0) then 0<=x0.i/\L4 x0.b.length/\0<=af x0 x3/\Int.toNat (af x0 x3)<x4/\Int.toNat (af x0 x3)<x4/\x4<=1000/\zx c q1/\ri c q1<ri c y else q0 else q0 else LM [DV.agg [CL .aJ y.2.2.1.1,CI y.2.2.1.2.1]] [DV.agg [CL .aJ (c_ c).ab,CI ((c_ c).Next)]] [DV.box [CL .byte y.2.2.2.1.1,CI y.2.2.2.1.2.1,CI y.2.2.2.1.2.2.1]] [bU (kA c)])
 dsimp only
 have hb:=bx (c:=c) (n:=9) (by omega)
 refine⟨bp.1,bp.2,⟨by omega,by omega,by simp only[fv];omega,by show(0:Int)<=1;omega,by show(1:Int)+af c 9<=9;omega,au bp 9,rfl,rfl⟩,?_⟩
 rintro⟨i,⟨q1,q2,⟨⟩⟩,⟨s1,s2,⟨⟩⟩,⟨cb,ci,ch,⟨⟩⟩,⟨⟩⟩ ⟨g1,g2,g3,g4,g5,g6,g7,g8⟩
 simp only at g1 g2 g3 g4 g5 g6 g7 g8⊢
 refine aV ?_ ?_<;>intro hc
 ·have e:i.toNat=(i-1).toNat+1:=by omega
  rw[e] at g7 g8
  simp only[ld,sK] at g7 g8
  have hB:=au g6 5
  have hF:=Al (aa ⟨cb,ci,ch⟩ 5)
  have hF2:=yt (aa ⟨cb,ci,ch⟩ 5)
  have hA:=u6 ⟨s1,s2⟩ (cV (aa ⟨cb,ci,ch⟩ 5))
  simp only at hA
  rw[wi]
  refine⟨g6,ae (fun a=>aV (fun b=> ?_) (fun b=> ?_)) (fun a=> ?_)⟩
  ·rw[if_pos ⟨a,by omega⟩] at g7 g8
   have hk:=bx (c:=aa ⟨cb,ci,ch⟩ 5) (n:=(s1.length:Int)) (by omega)
   have hD:=Lw ⟨s1,s2⟩ (s1.getD (af (aa ⟨cb,ci,ch⟩ 5) s1.length).toNat a_).Id
   simp only at hD
   exact⟨hB.1,hB.2,hk.1,by omega,by omega,by omega,⟨by omega,by omega,by simp only;omega,g4,by simp only[p8];omega,au hB _,g7,g8⟩,by simp only[ri];omega⟩
  ·rw[if_neg (fun e=>b (by omega))] at g7 g8
   exact⟨hB,⟨g4,by omega,by omega⟩,by omega,⟨by omega,by omega,by simp only;omega,by simp only;omega,by simp only;omega,lR hB,g7,g8⟩,by simp only[ri];omega⟩
  ·rw[if_neg (fun e=>absurd e.1 (by rw[a];decide))] at g7 g8
   exact⟨hB,⟨g4,by omega,by omega⟩,by omega,⟨by omega,by omega,by simp only;omega,by simp only;omega,by simp only;omega,lR hB,g7,g8⟩,by simp only[ri];omega⟩
 ·have e:i.toNat=0:=by omega
  rw[e] at g7 g8
  exact⟨by trivial,LdS (a:=⟨s1,s2⟩) (d:=⟨cb,ci,ch⟩) g7 g8⟩
def vh:=bV (α:=ai×BA) (qC qU (q1 qS)) [.box false,.ro] (fun(c,name)=>[bh c]) (fun(c,name)=>⟨[dA .bE (mB name c)],[],[dU (nG c)]⟩)
def zt(c:ai)(name:BA):Int×T1×T1×T4×Unit->Prop:=fun(i,q,r,cu,_)=>r=(name,gU c lH,r.2.2.1,[],[],())/\0<=i/\i<=3/\r.2.2.1.length+i<=3/\bh ⟨cu.1,cu.2.1,cu.2.2.1⟩/\mD (pt false) jx i.toNat r.2.2.1 ⟨cu.1,cu.2.1,cu.2.2.1⟩=lh c/\pR jx i.toNat ⟨cu.1,cu.2.1,cu.2.2.1⟩=FX c
def CD(c:ai)(name:BA):Int×T1×T1×T4×Unit->Nat:=fun(i,q,r,cu,_)=>i.toNat
def su(c:ai)(name:BA):Int×List BA×T1×T1×T4×Unit->Prop:=fun(i,vs,q,r,cu,_)=>vs=di c/\r=(name,gU c lH,dW c,fS c,r.2.2.2.2.1,())/\0<=i/\i<=3/\r.2.2.2.2.1.length+i<=3/\bh ⟨cu.1,cu.2.1,cu.2.2.1⟩/\mD (GA c) (rA c) i.toNat r.2.2.2.2.1 ⟨cu.1,cu.2.1,cu.2.2.1⟩=rz c/\pR (rA c) i.toNat ⟨cu.1,cu.2.1,cu.2.2.1⟩=nG c
def sq(c:ai)(name:BA):Int×List BA×T1×T1×T4×Unit->Nat:=fun(i,vs,q,r,cu,_)=>i.toNat
def sr(c:ai)(name:BA):Int×Int×List BA×T7×T1×T1×T4×Unit->Int×Int×List BA×T7×T1×T1×T4×Unit->Prop:=fun(i0,k0,vs0,a0,q0,r0,cu0,_) (i,k,vs,a,q,r,cu,_)=>i=i0/\vs=vs0/\a=(a0.1,a0.2.1,a.2.2.1,a0.2.2.2.1,a0.2.2.2.2.1,())/\r=r0/\cu=cu0/\0<=k/\k<=a0.2.2.1.length/\a.2.2.1=jy (di c) a0.2.2.1 k.toNat
def oJ(c:ai)(name:BA):Int×Int×List BA×T7×T1×T1×T4×Unit->Nat:=fun(i,k,vs,a,q,r,cu,_)=>a.2.2.1.length-k.toNat
def OV:AX vh:=fun(c,name)=>b_ [(3,aY [iI 6,.box 4 (4,1024) [.lit .str,.lit (.int .i64),.own .du true,.own .ca true,.own .dx true],.box 5 (5,1024) [.lit .str,.lit (.int .i64),.own .du true,.own .ca true,.own .dx true],.box 0 (2000000,0) [.shr .byte,.lit (.int .i64),.lit (.int .i64)]] (fun _=>zt c name) (CD c name)),(15,aY [iI 9,iO 7 .str,.box 4 (4,1024) [.lit .str,.lit (.int .i64),.own .du true,.own .ca true,.own .dx true],.box 5 (5,1024) [.lit .str,.lit (.int .i64),.own .du true,.own .ca true,.own .dx true],.box 0 (2000000,0) [.shr .byte,.lit (.int .i64),.lit (.int .i64)]] (fun _=>su c name) (sq c name)),(19,aY [iI 9,iI 11,iO 7 .str,.box 10 (10,1024) [.lit (.int .i64),.lit .str,.own .bJ true,.lit (.int .i64),.lit .str],.box 4 (4,1024) [.lit .str,.lit (.int .i64),.own .du true,.own .ca true,.own .dx true],.box 5 (5,1024) [.lit .str,.lit (.int .i64),.own .du true,.own .ca true,.own .dx true],.box 0 (2000000,0) [.shr .byte,.lit (.int .i64),.lit (.int .i64)]] (sr c name) (oJ c name))]
def OP:=us [FD,nb,YK,xo,YP,abR,ah5,Mb,YJ]
def eQ(c:ai)(name:BA):List BA×T1×T1×T4×Unit->Prop:=fun(vs,q,r,cu,_)=>vs=di c/\r=(name,gU c lH,dW c,fS c,[],())/\bh ⟨cu.1,cu.2.1,cu.2.2.1⟩/\(⟨cu.1,cu.2.1,cu.2.2.1⟩:ai)=zK c
def l8:vh.α->ul UU:=fun(c,name)=>aY [iO 7 .str,.box 4 (4,1024) [.lit .str,.lit (.int .i64),.own .du true,.own .ca true,.own .dx true],.box 5 (5,1024) [.lit .str,.lit (.int .i64),.own .du true,.own .ca true,.own .dx true],.box 0 (2000000,0) [.shr .byte,.lit (.int .i64),.lit (.int .i64)]] (fun _=>eQ c name) (fun _=>0)
theorem aeV(c:ai)(name:BA)(y:List BA×T1×T1×T4×Unit):mR EE OP f155 vh OV (c,name) 14 (l8 (c,name)) y=(let x1:={b:=y.2.2.2.1.1,i:=y.2.2.2.1.2.1,h:=y.2.2.2.1.2.2.1:ai};
let x0:=aa x1 (3:Int);
(0:Int)<=y.2.2.2.1.2.1/\
 y.2.2.2.1.1.length<=(4294967296:Nat)/\
  su c name (wrap i64 ((1:Int)+af x1 (3:Int)),y.1,(y.2.1.1,y.2.1.2.1,y.2.1.2.2.1,y.2.1.2.2.2.1,y.2.1.2.2.2.2.1,PUnit.unit),(y.2.2.1.1,y.2.2.1.2.1,y.2.2.1.2.2.1,y.2.2.1.2.2.2.1,y.2.2.1.2.2.2.2.1,PUnit.unit),(x0.b,x0.i,x0.h,PUnit.unit),PUnit.unit)/\
   ∀(y:Int×List BA×Y'×Y'×OX×PUnit),
    let x4:={b:=y.2.2.2.2.1.1,i:=y.2.2.2.2.1.2.1,h:=y.2.2.2.2.1.2.2.1:ai};
    let x5:=(↑(cN y.2.2.2.1.2.2.1):Int);
    let x2:=xj x5 x4;
    let x3:=qg x5 x4;
    su c name y->
     bif decide (y.1>(0:Int)) then
      bh x4/\
       sr c name (y.1,(0:Int),y.2.1,(x2.Kind,x2.Name,x2.az,x2.N,x2.aR,PUnit.unit),(y.2.2.1.1,y.2.2.1.2.1,y.2.2.1.2.2.1,y.2.2.1.2.2.2.1,y.2.2.1.2.2.2.2.1,PUnit.unit),(y.2.2.2.1.1,y.2.2.2.1.2.1,y.2.2.2.1.2.2.1,y.2.2.2.1.2.2.2.1,y.2.2.2.1.2.2.2.2.1,PUnit.unit),(x3.b,x3.i,x3.h,PUnit.unit),PUnit.unit) (y.1,(0:Int),y.2.1,(x2.Kind,x2.Name,x2.az,x2.N,x2.aR,PUnit.unit),(y.2.2.1.1,y.2.2.1.2.1,y.2.2.1.2.2.1,y.2.2.1.2.2.2.1,y.2.2.1.2.2.2.2.1,PUnit.unit),(y.2.2.2.1.1,y.2.2.2.1.2.1,y.2.2.2.1.2.2.1,y.2.2.2.1.2.2.2.1,y.2.2.2.1.2.2.2.2.1,PUnit.unit),(x3.b,x3.i,x3.h,PUnit.unit),PUnit.unit)/\
        ∀(aO:Int×Int×List BA×(Int×BA×List ct×Int×BA×PUnit)×Y'×Y'×OX×PUnit),
         let x7:=[{Kind:=aO.2.2.2.1.1,Name:=aO.2.2.2.1.2.1,az:=aO.2.2.2.1.2.2.1,N:=aO.2.2.2.1.2.2.2.1,aR:=aO.2.2.2.1.2.2.2.2.1:ew}];
         let x8:=Int.toNat aO.2.1;
         let mG:=aO.2.2.2.1.2.2.1.length;
         let ly:=wrap i64 (aO.2.1+(1:Int));
         let x6:=aO.2.2.2.1.2.2.1.modify x8 fun(x:ct)=>{Op:=x.Op,L:=rE aO.2.2.1 (aO.2.2.2.1.2.2.1.getD x8 eY).L,R:=x.R:ct};
         let x9:=(↑mG:Int);
         sr c name (y.1,(0:Int),y.2.1,(x2.Kind,x2.Name,x2.az,x2.N,x2.aR,PUnit.unit),(y.2.2.1.1,y.2.2.1.2.1,y.2.2.1.2.2.1,y.2.2.1.2.2.2.1,y.2.2.1.2.2.2.2.1,PUnit.unit),(y.2.2.2.1.1,y.2.2.2.1.2.1,y.2.2.2.1.2.2.1,y.2.2.2.1.2.2.2.1,y.2.2.2.1.2.2.2.2.1,PUnit.unit),(x3.b,x3.i,x3.h,PUnit.unit),PUnit.unit) aO->bif decide (aO.2.1<x9) then(0:Int)<=aO.2.1/\x8<mG/\x8<mG/\(0:Int)<=aO.2.1/\x8<mG/\x8<mG/\(0:Int)<=aO.2.1/\x8<x6.length/\x8<x6.length/\bif !ByteArray.toList (x6.getD x8 eY).Op==ByteArray.toList {data:= #[]:BA} then(0:Int)<=aO.2.1/\x8<x6.length/\x8<x6.length/\(0:Int)<=aO.2.1/\x8<x6.length/\x8<x6.length/\sr c name (y.1,(0:Int),y.2.1,(x2.Kind,x2.Name,x2.az,x2.N,x2.aR,PUnit.unit),(y.2.2.1.1,y.2.2.1.2.1,y.2.2.1.2.2.1,y.2.2.1.2.2.2.1,y.2.2.1.2.2.2.2.1,PUnit.unit),(y.2.2.2.1.1,y.2.2.2.1.2.1,y.2.2.2.1.2.2.1,y.2.2.2.1.2.2.2.1,y.2.2.2.1.2.2.2.2.1,PUnit.unit),(x3.b,x3.i,x3.h,PUnit.unit),PUnit.unit) (aO.1,ly,aO.2.2.1,(aO.2.2.2.1.1,aO.2.2.2.1.2.1,x6.modify x8 fun(x:ct)=>{Op:=x.Op,L:=x.L,R:=rE aO.2.2.1 (x6.getD x8 eY).R:ct},aO.2.2.2.1.2.2.2.1,aO.2.2.2.1.2.2.2.2.1,PUnit.unit),(aO.2.2.2.2.1.1,aO.2.2.2.2.1.2.1,aO.2.2.2.2.1.2.2.1,aO.2.2.2.2.1.2.2.2.1,aO.2.2.2.2.1.2.2.2.2.1,PUnit.unit),(aO.2.2.2.2.2.1.1,aO.2.2.2.2.2.1.2.1,aO.2.2.2.2.2.1.2.2.1,aO.2.2.2.2.2.1.2.2.2.1,aO.2.2.2.2.2.1.2.2.2.2.1,PUnit.unit),(aO.2.2.2.2.2.2.1.1,aO.2.2.2.2.2.2.1.2.1,aO.2.2.2.2.2.2.1.2.2.1,PUnit.unit),PUnit.unit)/\oJ c name (aO.1,ly,aO.2.2.1,(aO.2.2.2.1.1,aO.2.2.2.1.2.1,x6.modify x8 fun(x:ct)=>{Op:=x.Op,L:=x.L,R:=rE aO.2.2.1 (x6.getD x8 eY).R:ct},aO.2.2.2.1.2.2.2.1,aO.2.2.2.1.2.2.2.2.1,PUnit.unit),(aO.2.2.2.2.1.1,aO.2.2.2.2.1.2.1,aO.2.2.2.2.1.2.2.1,aO.2.2.2.2.1.2.2.2.1,aO.2.2.2.2.1.2.2.2.2.1,PUnit.unit),(aO.2.2.2.2.2.1.1,aO.2.2.2.2.2.1.2.1,aO.2.2.2.2.2.1.2.2.1,aO.2.2.2.2.2.1.2.2.2.1,aO.2.2.2.2.2.1.2.2.2.2.1,PUnit.unit),(aO.2.2.2.2.2.2.1.1,aO.2.2.2.2.2.2.1.2.1,aO.2.2.2.2.2.2.1.2.2.1,PUnit.unit),PUnit.unit)<oJ c name aO else sr c name (y.1,(0:Int),y.2.1,(x2.Kind,x2.Name,x2.az,x2.N,x2.aR,PUnit.unit),(y.2.2.1.1,y.2.2.1.2.1,y.2.2.1.2.2.1,y.2.2.1.2.2.2.1,y.2.2.1.2.2.2.2.1,PUnit.unit),(y.2.2.2.1.1,y.2.2.2.1.2.1,y.2.2.2.1.2.2.1,y.2.2.2.1.2.2.2.1,y.2.2.2.1.2.2.2.2.1,PUnit.unit),(x3.b,x3.i,x3.h,PUnit.unit),PUnit.unit) (aO.1,ly,aO.2.2.1,(aO.2.2.2.1.1,aO.2.2.2.1.2.1,x6,aO.2.2.2.1.2.2.2.1,aO.2.2.2.1.2.2.2.2.1,PUnit.unit),(aO.2.2.2.2.1.1,aO.2.2.2.2.1.2.1,aO.2.2.2.2.1.2.2.1,aO.2.2.2.2.1.2.2.2.1,aO.2.2.2.2.1.2.2.2.2.1,PUnit.unit),(aO.2.2.2.2.2.1.1,aO.2.2.2.2.2.1.2.1,aO.2.2.2.2.2.1.2.2.1,aO.2.2.2.2.2.1.2.2.2.1,aO.2.2.2.2.2.1.2.2.2.2.1,PUnit.unit),(aO.2.2.2.2.2.2.1.1,aO.2.2.2.2.2.2.1.2.1,aO.2.2.2.2.2.2.1.2.2.1,PUnit.unit),PUnit.unit)/\oJ c name (aO.1,ly,aO.2.2.1,(aO.2.2.2.1.1,aO.2.2.2.1.2.1,x6,aO.2.2.2.1.2.2.2.1,aO.2.2.2.1.2.2.2.2.1,PUnit.unit),(aO.2.2.2.2.1.1,aO.2.2.2.2.1.2.1,aO.2.2.2.2.1.2.2.1,aO.2.2.2.2.1.2.2.2.1,aO.2.2.2.2.1.2.2.2.2.1,PUnit.unit),(aO.2.2.2.2.2.1.1,aO.2.2.2.2.2.1.2.1,aO.2.2.2.2.2.1.2.2.1,aO.2.2.2.2.2.1.2.2.2.1,aO.2.2.2.2.2.1.2.2.2.2.1,PUnit.unit),(aO.2.2.2.2.2.2.1.1,aO.2.2.2.2.2.2.1.2.1,aO.2.2.2.2.2.2.1.2.2.1,PUnit.unit),PUnit.unit)<oJ c name aO else aO.2.2.2.2.2.1.2.2.2.2.1.length+x7.length<=(4294967296:Nat)/\su c name (wrap i64 (aO.1-(1:Int)),aO.2.2.1,(aO.2.2.2.2.1.1,aO.2.2.2.2.1.2.1,aO.2.2.2.2.1.2.2.1,aO.2.2.2.2.1.2.2.2.1,aO.2.2.2.2.1.2.2.2.2.1,PUnit.unit),(aO.2.2.2.2.2.1.1,aO.2.2.2.2.2.1.2.1,aO.2.2.2.2.2.1.2.2.1,aO.2.2.2.2.2.1.2.2.2.1,aO.2.2.2.2.2.1.2.2.2.2.1++x7,PUnit.unit),(aO.2.2.2.2.2.2.1.1,aO.2.2.2.2.2.2.1.2.1,aO.2.2.2.2.2.2.1.2.2.1,PUnit.unit),PUnit.unit)/\sq c name (wrap i64 (aO.1-(1:Int)),aO.2.2.1,(aO.2.2.2.2.1.1,aO.2.2.2.2.1.2.1,aO.2.2.2.2.1.2.2.1,aO.2.2.2.2.1.2.2.2.1,aO.2.2.2.2.1.2.2.2.2.1,PUnit.unit),(aO.2.2.2.2.2.1.1,aO.2.2.2.2.2.1.2.1,aO.2.2.2.2.2.1.2.2.1,aO.2.2.2.2.2.1.2.2.2.1,aO.2.2.2.2.2.1.2.2.2.2.1++x7,PUnit.unit),(aO.2.2.2.2.2.2.1.1,aO.2.2.2.2.2.2.1.2.1,aO.2.2.2.2.2.2.1.2.2.1,PUnit.unit),PUnit.unit)<sq c name y
     else(0:Nat)=(0:Nat)/\dJ [DV.agg [Cell.lit (Value.string y.2.2.2.1.1),Cell.lit (Value.int IntKind.i64 y.2.2.2.1.2.1),Cell.sl Cd.du y.2.2.2.1.2.2.1,Cell.sl Cd.ca y.2.2.2.1.2.2.2.1,Cell.sl Cd.dx y.2.2.2.1.2.2.2.2.1]]=dJ [DV.agg [Cell.lit (Value.string (mB name c).Name),Cell.lit (Value.int IntKind.i64 (mB name c).je),Cell.sl Cd.du (mB name c).aH,Cell.sl Cd.ca (mB name c).aU,Cell.sl Cd.dx (mB name c).bI]]/\dJ [DV.box [Cell.sl Cd.byte y.2.2.2.2.1.1,Cell.lit (Value.int IntKind.i64 y.2.2.2.2.1.2.1),Cell.lit (Value.int IntKind.i64 y.2.2.2.2.1.2.2.1)]]=dJ [DV.box [Cell.sl Cd.byte (nG c).b,Cell.lit (Value.int IntKind.i64 (nG c).i),Cell.lit (Value.int IntKind.i64 (nG c).h)]]):=by kernel_rfl
theorem DP(c:ai)(name:BA)(y:List BA×T1×T1×T4×Unit)(hp:∀p∈vh.pre (c,name),p)(hb:∀d∈vh.ds (c,name),gW d)(hy:eQ c name y):mR EE OP f155 vh OV (c,name) 14 (l8 (c,name)) y:=by
 have pU:=QG (x:=c) (hb _ m0)
 have BX:=Mp (s:=name) (hb _ m1)
 have bp:bh c:=hp _ m0
 clear hp hb
 rw[aeV c name y]
 dsimp only
 have hM:=Rb c
 have w2:IntKind.wrap .i64 (1+af (zK c) 3)=QC c:=wi (n:=QC c)
 obtain⟨vs,⟨q1,q2,q3,q4,q5,⟨⟩⟩,⟨r1,r2,r3,r4,r5,⟨⟩⟩,⟨cb,ci,ch,⟨⟩⟩,⟨⟩⟩:=y
 obtain⟨FO,hr,g4,g7⟩:=hy
 simp only[pq,and_true,true_and] at FO hr g4 g7
 obtain⟨m1,m2,m3,m4,m5⟩:=hr
 have m1:=m1.symm
 subst m1 FO m2 m3 m4 m5
 have fin:∀d e:ai,d=zK c->e=Rc c->su c name (IntKind.wrap .i64 (1+af d 3),di c,(q1,q2,q3,q4,q5,()),(name,gU c lH,dW c,fS c,[],()),(e.b,e.i,e.h,()),()):=by
  intro d e hd he
  have w3:IntKind.wrap .i64 (1+af d 3)=QC c:=by rw[hd];exact w2
  rw[w3]
  refine⟨rfl,rfl,by omega,by omega,by simp only[fv];omega,?_,?_,?_⟩
  ·show bh e
   rw[he];exact au (IC bp) 3
  ·show mD (GA c) (rA c) (QC c).toNat [] e=rz c
   rw[he,rz]
  ·show pR (rA c) (QC c).toNat e=nG c
   rw[he,nG]
 refine⟨g4.1,g4.2,fin ⟨cb,ci,ch⟩ (aa ⟨cb,ci,ch⟩ 3) g7 (by rw[g7,Rc]),?_⟩
 clear g7 fin
 clear hM w2 g4
 rintro⟨i,vs,⟨q1,q2,q3,q4,q5,⟨⟩⟩,⟨r1,r2,r3,r4,r5,⟨⟩⟩,⟨cb,ci,ch,⟨⟩⟩,⟨⟩⟩ ⟨FO,hr,g1,g2,g3,g4,g5,g6⟩
 have m1:name=r1:=(congrArg Prod.fst hr).symm
 have m2:r2=gU c lH:=congrArg (fun t=>t.2.1) hr
 have m3:r3=dW c:=congrArg (fun t=>t.2.2.1) hr
 have m4:r4=fS c:=congrArg (fun t=>t.2.2.2.1) hr
 have FO:vs=di c:=FO
 clear hr
 subst m1 FO m2 m3 m4
 have g1:0<=i:=g1
 have g2:i<=3:=g2
 have g3:(r5.length:Int)+i<=3:=g3
 have g4:bh ⟨cb,ci,ch⟩:=g4
 have g5:mD (GA c) (rA c) i.toNat r5 ⟨cb,ci,ch⟩=rz c:=g5
 have g6:pR (rA c) i.toNat ⟨cb,ci,ch⟩=nG c:=g6
 refine aV (fun hc=> ?_) (fun hc=>⟨by trivial,?_⟩)
 ·have hc:i>0:=hc
  generalize hp:((cN (dW c):Nat):Int)=pn at*
  have hAl:=Qx pn ⟨cb,ci,ch⟩
  have anA:GA c ⟨cb,ci,ch⟩=EW (di c) (xj pn ⟨cb,ci,ch⟩):=by rw[<-hp];rfl
  have aev:rA c ⟨cb,ci,ch⟩=qg pn ⟨cb,ci,ch⟩:=by rw[<-hp];rfl
  have kC:=yP pn g4
  clear hp
  generalize xj pn ⟨cb,ci,ch⟩=a at*
  generalize qg pn ⟨cb,ci,ch⟩=d at*
  refine⟨g4,⟨rfl,rfl,rfl,rfl,rfl,by omega,by simp only;omega,rfl⟩,?_⟩
  rintro⟨i',k,wj,⟨a1,a2,a3,a4,a5,⟨⟩⟩,⟨q1',q2',q3',q4',q5',⟨⟩⟩,⟨r1',UQ,r3',r4',r5',⟨⟩⟩,⟨cb',ci',ch',⟨⟩⟩,⟨⟩⟩ ⟨hi,hv,ha,hr,Ge,k1,k2,hl⟩
  have hi:i=i':=Eq.symm hi
  have hv:wj=di c:=hv
  have n1:a1=a.Kind:=congrArg Prod.fst ha
  have n2:a2=a.Name:=congrArg (fun t=>t.2.1) ha
  have n3:a4=a.N:=congrArg (fun t=>t.2.2.2.1) ha
  have n4:a5=a.aR:=congrArg (fun t=>t.2.2.2.2.1) ha
  have m1:r1'=name:=congrArg Prod.fst hr
  have m2:UQ=gU c lH:=congrArg (fun t=>t.2.1) hr
  have m3:r3'=dW c:=congrArg (fun t=>t.2.2.1) hr
  have m4:r4'=fS c:=congrArg (fun t=>t.2.2.2.1) hr
  have m5:r5=r5':=(congrArg (fun t=>t.2.2.2.2.1) hr).symm
  have u1:cb'=d.b:=congrArg Prod.fst Ge
  have u2:ci'=d.i:=congrArg (fun t=>t.2.1) Ge
  have u3:ch'=d.h:=congrArg (fun t=>t.2.2.1) Ge
  have k1:0<=k:=k1
  have k2:k<=a.az.length:=k2
  have hl:a3=jy (di c) a.az k.toNat:=hl
  clear ha hr Ge
  have m1:=m1.symm
  subst n1 n2 n3 n4 m2 m3 m4 u1 u2 u3 hl hv hi m5
  subst m1
  have hlen:(jy (di c) a.az k.toNat).length=a.az.length:=Ai _ _ (by omega)
  refine aV ?_ ?_<;>intro hk
  ·have hk:k<((jy (di c) a.az k.toNat).length:Int):=hk
   rw[hlen] at hk
   have uo:k.toNat<a.az.length:=by omega
   have p1:k.toNat<(jy (di c) a.az k.toNat).length:=by omega
   have p2:∀g,k.toNat<((jy (di c) a.az k.toNat).modify k.toNat g).length:=fun g=>by rw[Gm];exact p1
   have ek:(k+1).toNat=k.toNat+1:=by omega
   have nx:∀l:List ct,l=jy (di c) a.az (k.toNat+1)->sr c name (i,0,di c,(a.Kind,a.Name,a.az,a.N,a.aR,()),(q1,q2,q3,q4,q5,()),(name,gU c lH,dW c,fS c,r5,()),(d.b,d.i,d.h,()),()) (i,IntKind.wrap .i64 (k+1),di c,(a.Kind,a.Name,l,a.N,a.aR,()),(q1',q2',q3',q4',q5',()),(name,gU c lH,dW c,fS c,r5,()),(d.b,d.i,d.h,()),())/\oJ c name (i,IntKind.wrap .i64 (k+1),di c,(a.Kind,a.Name,l,a.N,a.aR,()),(q1',q2',q3',q4',q5',()),(name,gU c lH,dW c,fS c,r5,()),(d.b,d.i,d.h,()),())<oJ c name (i,k,di c,(a.Kind,a.Name,jy (di c) a.az k.toNat,a.N,a.aR,()),(q1',q2',q3',q4',q5',()),(name,gU c lH,dW c,fS c,r5,()),(d.b,d.i,d.h,()),()):=by
    rintro l rfl
    have Bc:(jy (di c) a.az (k.toNat+1)).length=a.az.length:=Ai _ _ (by omega)
    rw[wi (n:=k+1)]
    exact⟨⟨rfl,rfl,rfl,rfl,rfl,by omega,by simp only;omega,by rw[ek]⟩,by simp only[oJ];omega⟩
   refine⟨k1,p1,p1,k1,p1,p1,k1,p2 _,p2 _,N6 (fun o=>⟨k1,p2 _,p2 _,k1,p2 _,p2 _,nx _ ?_⟩) (fun o=>nx _ ?_)⟩
   ·have o:¬(a.az.getD k.toNat eY).Op=ao:=fun e=>o ((congrArg ct.Op (w_ uo _)).trans e)
    refine(Ng uo _ _).trans (Eq.trans ?_ (EV uo))
    congr 2
    show(⟨_,_,rE (di c) (((jy (di c) a.az k.toNat).modify k.toNat _).getD k.toNat eY).R⟩:ct)=_
    rw[w_ uo,Aj uo]
    simp only[pX,if_neg o]
   ·have o:(a.az.getD k.toNat eY).Op=ao:=(congrArg ct.Op (w_ uo _)).symm.trans o
    refine(G4 uo _).trans (Eq.trans ?_ (EV uo))
    congr 2
    show(⟨_,rE (di c) ((jy (di c) a.az k.toNat).getD k.toNat eY).L,_⟩:ct)=_
    rw[Aj uo]
    simp only[pX,if_pos o]
  ·have hk:¬k<((jy (di c) a.az k.toNat).length:Int):=hk
   rw[hlen] at hk
   have hf:jy (di c) a.az k.toNat=a.az.map (pX (di c)):=by
    rw[jy,Uj (by omega),List.drop_eq_nil_of_le (by omega),xu]
   have e:i.toNat=(i-1).toNat+1:=by omega
   rw[e] at g5 g6
   simp only[mD,pR,anA,aev] at g5 g6
   have fin:su c name (IntKind.wrap .i64 (i-1),di c,(q1',q2',q3',q4',q5',()),(name,gU c lH,dW c,fS c,r5++[⟨a.Kind,a.Name,jy (di c) a.az k.toNat,a.N,a.aR⟩],()),(d.b,d.i,d.h,()),())/\sq c name (IntKind.wrap .i64 (i-1),di c,(q1',q2',q3',q4',q5',()),(name,gU c lH,dW c,fS c,r5++[⟨a.Kind,a.Name,jy (di c) a.az k.toNat,a.N,a.aR⟩],()),(d.b,d.i,d.h,()),())<sq c name (i,di c,(q1,q2,q3,q4,q5,()),(name,gU c lH,dW c,fS c,r5,()),(cb,ci,ch,()),()):=by
    rw[hf,wi (n:=i-1)]
    exact⟨⟨rfl,rfl,by omega,by omega,by simp only[ko,fK,fv];omega,kC,g5,g6⟩,by simp only[sq];omega⟩
   have hr5:r5.length+1<=4294967296:=by omega
   exact⟨hr5,fin⟩
 ·have hc:¬i>0:=hc
  have e:i.toNat=0:=by omega
  rw[e] at g5 g6
  have g5:r5=rz c:=g5
  have g6:(⟨cb,ci,ch⟩:ai)=nG c:=g6
  exact Ue (a:=⟨name,gU c lH,dW c,fS c,r5⟩) (a':=⟨name,gU c lH,dW c,fS c,rz c⟩) (d:=⟨cb,ci,ch⟩) (d':=nG c) (by rw[g5]) g6
theorem DN(c:ai)(name:BA)(hp:∀p∈vh.pre (c,name),p)(hb:∀d∈vh.ds (c,name),gW d):rC EE OP f155 vh OV (c,name) 14 (l8 (c,name)):=by
 have pU:=QG (x:=c) (hb _ m0)
 have BX:=Mp (s:=name) (hb _ m1)
 have bp:bh c:=hp _ m0
 clear hp hb
 apply vE (let x3:=[0,0,5,(-5),100];let x2:=x3.length;let x1:=(↑x2:Int);let x0:=aa c x1;let q0:=BA×Int×List cr×List dy×List ew×PUnit;0<=c.i/\L4 c.b.length/\1<=x2/\0<=x0.i/\L4 x0.b.length/\zt c name (wrap i64 (1+af x0 3),({data:= #[]:BA},0,[],[],[],()),(name,x3.getD (Int.toNat (af c x1)) 0,[],[],[],()),((aa x0 3).b,(aa x0 3).i,(aa x0 3).h,()),())/\∀(y:Int×q0×q0×OX×PUnit),let mG:={b:=y.2.2.2.1.1,i:=y.2.2.2.1.2.1,h:=y.2.2.2.1.2.2.1:ai};let ly:=cQ y.2.2.1.2.2.1;let qk:=y.2.2.1.2.2.2.1.length;let gK:=y.2.2.1.2.2.1.length;let vp:=[{Kind:=(pt false mG).Kind,az:=(pt false mG).az,Not:=false:cr}];let x9:=aa mG 3;let NH:=[{Kind:=(pt true x9).Kind,az:=(pt true x9).az,Not:=true:cr}];let x6:=y.2.2.1.2.2.1++NH;let x7:=aa (jx x9) 3;let x8:=aa x9 3;let pE:=[{Op:=(1:Int)+af x8 3,L:=rE ly (eg (aa x8 3)),R:=rE ly (eg (cY (aa x8 3))):dy}];let Mh:=cY (cY (aa x7 3));let x18:=cY (cY (aa x8 3));let x5:=cQ x6;let x4:=[{Op:=(1:Int)+af x7 3,L:=rE x5 (eg (aa x7 3)),R:=rE x5 (eg (cY (aa x7 3))):dy}];let q1:=(y.2.1.1,y.2.1.2.1,y.2.1.2.2.1,y.2.1.2.2.2.1,y.2.1.2.2.2.2.1,());let q2:=(wrap i64 (y.1-1),q1,(y.2.2.1.1,y.2.2.1.2.1,y.2.2.1.2.2.1++vp,y.2.2.1.2.2.2.1,y.2.2.1.2.2.2.2.1,()),((jx mG).b,(jx mG).i,(jx mG).h,()),());zt c name y->bif decide (y.1>0) then bh mG/\L4 (gK+vp.length)/\zt c name q2/\CD c name q2<CD c name y else bh mG/\bif bP mG 3 then bh x9/\L4 (gK+NH.length)/\L4 (dK x6)/\bh (jx x9)/\bif bP (jx x9) 3 then bh x7/\L4 (qk+x4.length)/\eQ c name (x5,q1,(y.2.2.1.1,y.2.2.1.2.1,x6,y.2.2.1.2.2.2.1++x4,y.2.2.1.2.2.2.2.1,()),(Mh.b,Mh.i,Mh.h,()),()) else eQ c name (x5,q1,(y.2.2.1.1,y.2.2.1.2.1,x6,y.2.2.1.2.2.2.1,y.2.2.1.2.2.2.2.1,()),(x7.b,x7.i,x7.h,()),()) else L4 (dK y.2.2.1.2.2.1)/\bh x9/\bif bP x9 3 then bh x8/\L4 (qk+pE.length)/\eQ c name (ly,q1,(y.2.2.1.1,y.2.2.1.2.1,y.2.2.1.2.2.1,y.2.2.1.2.2.2.1++pE,y.2.2.1.2.2.2.2.1,()),(x18.b,x18.i,x18.h,()),()) else eQ c name (ly,q1,(y.2.2.1.1,y.2.2.1.2.1,y.2.2.1.2.2.1,y.2.2.1.2.2.2.1,y.2.2.1.2.2.2.2.1,()),(x8.b,x8.i,x8.h,()),()))
 dsimp only
 have hk:=iG bp lH
 have hN:=MC c
 have hPA:=Q_ c
 have hpa:dK (dW c)<=4294967296:=by have:=wB hPA.1;omega
 have fin:∀(vs:List BA)(q:BA×Int×List cr×List dy×List ew×PUnit)(ps:List cr)(cs:List dy)(d:ai),vs=di c->ps=dW c->cs=fS c->d=zK c->eQ c name (vs,q,(name,gU c lH,ps,cs,[],()),(d.b,d.i,d.h,()),()):=by
  rintro vs q ps cs d rfl rfl rfl rfl
  exact⟨rfl,rfl,IC bp,rfl⟩
 have w1:IntKind.wrap .i64 (1+af (Rd c) 3)=Ra c:=wi (n:=Ra c)
 refine⟨bp.1,bp.2,by simp,hk.1,hk.2,?_,?_⟩
 ·show zt c name (IntKind.wrap .i64 (1+af (Rd c) 3),(ao,0,[],[],[],()),(name,gU c lH,[],[],[],()),((HL c).b,(HL c).i,(HL c).h,()),())
  rw[w1]
  exact⟨rfl,by omega,by omega,by simp only[fv];omega,Ow bp,rfl,rfl⟩
 rintro⟨i,⟨q1,q2,q3,q4,q5,⟨⟩⟩,⟨r1,r2,r3,r4,r5,⟨⟩⟩,⟨cb,ci,ch,⟨⟩⟩,⟨⟩⟩ ⟨hr,g1,g2,g3,g4,g5,g6⟩
 simp only[pq,and_true,true_and] at hr
 obtain⟨m1,m2,m3,m4⟩:=hr
 subst m1 m2 m3 m4
 simp only at g1 g2 g3 g4 g5 g6⊢
 refine aV ?_ ?_<;>intro hc
 ·have e:i.toNat=(i-1).toNat+1:=by omega
  rw[e] at g5 g6
  rw[wi]
  exact⟨g4,by simp only[fK,fv];omega,⟨rfl,by omega,by omega,by simp only[ko,fK,fv];omega,qc g4,g5,g6⟩,by simp only[CD];omega⟩
 have e:i.toNat=0:=by omega
 rw[e] at g5 g6
 have g5:r3=lh c:=g5
 have g6:(⟨cb,ci,ch⟩:ai)=FX c:=g6
 have e1:cb=(FX c).b:=congrArg ai.b g6
 have e2:ci=(FX c).i:=congrArg ai.i g6
 have e3:ch=(FX c).h:=congrArg ai.h g6
 subst g5 e1 e2 e3
 clear g6
 have k4:=au g4 3
 refine⟨g4,ae (fun a=> ?_) (fun a=> ?_)⟩
 ·have aP:dW c=lh c++[pt true (wR c)]:=if_pos a
  have a5:Eb c=jx (wR c):=if_pos a
  rw[aP] at hpa
  have k6:=au (qc k4) 3
  refine⟨k4,by simp only[fK,fv];omega,hpa,qc k4,ae (fun b=> ?_) (fun b=> ?_)⟩
  ·have b':bP (Eb c) 3=true:=by rw[a5];exact b
   have c7:zK c=rG (wQ c):=if_pos b'
   exact⟨k6,by simp,fin _ _ (lh c++[pt true (wR c)]) [Qb (cQ (lh c++[pt true (wR c)])) (yM (aa (jx (wR c)) 3))] (rG (aa (jx (wR c)) 3)) (by rw[di,aP];rfl) aP.symm (by rw[fS,if_pos b',di,aP,wQ,a5]) (by rw[c7,wQ,a5])⟩
  ·have b':¬bP (Eb c) 3=true:=by rw[a5];exact fun e=>absurd (b.symm.trans e) (by decide)
   have c7:zK c=wQ c:=if_neg b'
   exact fin _ _ (lh c++[pt true (wR c)]) [] (aa (jx (wR c)) 3) (by rw[di,aP];rfl) aP.symm (by rw[fS,if_neg b']) (by rw[c7,wQ,a5])
 ·have a':¬bP (FX c) 3=true:=fun e=>absurd (a.symm.trans e) (by decide)
  have aP:dW c=lh c:=if_neg a'
  have a5:Eb c=wR c:=if_neg a'
  rw[aP] at hpa
  have k6:=au k4 3
  refine⟨hpa,k4,ae (fun b=> ?_) (fun b=> ?_)⟩
  ·have b':bP (Eb c) 3=true:=by rw[a5];exact b
   have c7:zK c=rG (wQ c):=if_pos b'
   exact⟨k6,by simp,fin _ _ (lh c) [Qb (cQ (lh c)) (yM (aa (wR c) 3))] (rG (aa (wR c) 3)) (by rw[di,aP]) aP.symm (by rw[fS,if_pos b',di,aP,wQ,a5]) (by rw[c7,wQ,a5])⟩
  ·have b':¬bP (Eb c) 3=true:=by rw[a5];exact fun e=>absurd (b.symm.trans e) (by decide)
   have c7:zK c=wQ c:=if_neg b'
   exact fin _ _ (lh c) [] (aa (wR c) 3) (by rw[di,aP]) aP.symm (by rw[fS,if_neg b']) (by rw[c7,wQ,a5])
attribute [local irreducible] rC mR in
theorem ae9:Holds EE (155,vh):=by
 refine vx rm func155 vh (by kernel_rfl) OP (xD _) OV 14 l8 (by kernel_rfl) (fun x hp hb=> ?_)
 obtain⟨c,name⟩:=x
 refine⟨DN c name hp hb,fun(y:List BA×T1×T1×T4×Unit) hy=> ?_⟩
 have hy:eQ c name y:=hy
 exact DP c name y hp hb hy
def YU:HH:=⟨_,ae9⟩
def afb:=bV (α:=ai) (q1 qU) [.box false] (fun c=>[bh c]) (fun c=>⟨[dA .hH (cD c)],[],[dU (jq c)]⟩)
def Jn(c:ai):Int×List BA×T2×T2×T4×Unit->Prop:=fun(i,ns,q,d,cu,_)=>ns=sN/\d.1=cx c AU/\0<=i/\i<=4/\d.2.1.length=i/\bh ⟨cu.1,cu.2.1,cu.2.2.1⟩/\LA (4-i).toNat i.toNat d.2.1 ⟨cu.1,cu.2.1,cu.2.2.1⟩=(cD c).aA/\Nr (4-i).toNat i.toNat ⟨cu.1,cu.2.1,cu.2.2.1⟩=jq c
def IL(c:ai):Int×List BA×T2×T2×T4×Unit->Nat:=fun(i,ns,q,d,cu,_)=>(4-i).toNat
def apm:AX afb:=fun c=>b_ [(4,aY [iI 5,iO 4 .str,.box 2 (2,1024) [.lit .str,.own .bE true],.box 3 (3,1024) [.lit .str,.own .bE true],.box 0 (2000000,0) [.shr .byte,.lit (.int .i64),.lit (.int .i64)]] (fun _=>Jn c) (IL c))]
def ag7:HH:=hF afb func97 [rJ,nb,YU] apm fun(c:ai) hp hb=>by
 have bp:bh c:=hp _ m0
 clear hp hb
 apply vE (let x1:=[{data:= #[(102:UInt8),(108:UInt8),(111:UInt8),(119:UInt8)]:BA},{data:= #[(115:UInt8),(104:UInt8),(105:UInt8),(112:UInt8)]:BA},{data:= #[(120:UInt8)]:BA}];let x0:=bT c x1;bh c/\1<=x1.length/\Jn c (0,[{data:= #[(114:UInt8),(49:UInt8)]:BA},{data:= #[(114:UInt8),(50:UInt8)]:BA},{data:= #[(114:UInt8),(51:UInt8)]:BA},{data:= #[(114:UInt8),(52:UInt8)]:BA}],({data:= #[]:BA},[],()),(cx c x1,[],()),(x0.b,x0.i,x0.h,()),())/\∀(y:Int×List BA×T9×T9×OX×PUnit),let x4:={b:=y.2.2.2.2.1.1,i:=y.2.2.2.2.1.2.1,h:=y.2.2.2.2.1.2.2.1:ai};let x2:=aa x4 4;let x3:=wrap i64 (1+af x4 4);let x5:=[mB (y.2.1.getD y.1.toNat ao) x2];let q0:=(wrap i64 (y.1+1),y.2.1,(y.2.2.1.1,y.2.2.1.2.1,()),(y.2.2.2.1.1,y.2.2.2.1.2.1++x5,()),((nG x2).b,(nG x2).i,(nG x2).h,()),());let q1:=LM [DV.agg [CS y.2.2.2.1.1,CL .bE y.2.2.2.1.2.1]] [DV.agg [CS ((cD c).Name),CL .bE (cD c).aA]] [bU x2] [bU (jq c)];Jn c y->0<=y.2.2.2.2.1.2.1/\L4 y.2.2.2.2.1.1.length/\bif decide (y.1<x3) then bif decide (y.1<4) then 0<=y.1/\y.1.toNat<y.2.1.length/\y.1.toNat<y.2.1.length/\bh x2/\L4 (y.2.2.2.1.2.1.length+x5.length)/\Jn c q0/\IL c q0<IL c y else q1 else q1)
 dsimp only
 have hk:=dw bp AU
 refine⟨bp,by simp,⟨rfl,rfl,by omega,by omega,rfl,hk,rfl,rfl⟩,?_⟩
 rintro⟨i,ns,⟨q1,q2,⟨⟩⟩,⟨d1,d2,⟨⟩⟩,⟨cb,ci,ch,⟨⟩⟩,⟨⟩⟩ ⟨hns,hd,g1,g2,g3,g4,g5,g6⟩
 simp only at hns hd g1 g2 g3 g4 g5 g6⊢
 subst hns hd
 have hb:=bx (c:=⟨cb,ci,ch⟩) (n:=4) (by omega)
 have hB:=au g4 4
 rw[wi (n:=1+af ⟨cb,ci,ch⟩ 4)]
 have stop:(cD c).aA=d2/\jq c=aa ⟨cb,ci,ch⟩ 4->dJ [DV.agg [.lit (.string (cx c AU)),.sl .bE d2]]=dJ [DV.agg [.lit (.string (cD c).Name),.sl .bE (cD c).aA]]/\dJ [DV.box [.sl .byte (aa ⟨cb,ci,ch⟩ 4).b,.lit (.int .i64 (aa ⟨cb,ci,ch⟩ 4).i),.lit (.int .i64 (aa ⟨cb,ci,ch⟩ 4).h)]]=dJ [DV.box [.sl .byte (jq c).b,.lit (.int .i64 (jq c).i),.lit (.int .i64 (jq c).h)]]:=fun e=>by
  rw[e.1,e.2];exact⟨rfl,rfl⟩
 refine⟨g4.1,g4.2,aV (fun hc=>aV (fun h4=> ?_) (fun h4=>⟨by trivial,stop ?_⟩)) (fun hc=>⟨by trivial,stop ?_⟩)⟩
 ·have e:(4-i).toNat=(4-(i+1)).toNat+1:=by omega
  have e2:(i+1).toNat=i.toNat+1:=by omega
  have e3:((i.toNat:Nat):Int)=i:=by omega
  rw[e] at g5 g6
  simp only[LA,Nr,e3,if_pos hc] at g5 g6
  rw[wi (n:=i+1)]
  have hl:sN.length=4:=rfl
  refine⟨g1,by omega,by omega,hB,by simp only[fK,fv];omega,⟨rfl,rfl,by omega,by omega,?_,yN hB,by simp only[e2];exact g5,by simp only[e2];exact g6⟩,by simp only[IL];omega⟩
  simp only[ko,fK,fv];omega
 ·have e:(4-i).toNat=0:=by omega
  rw[e] at g5 g6
  exact⟨g5.symm,g6.symm⟩
 ·have e3:((i.toNat:Nat):Int)=i:=by omega
  cases hn:(4-i).toNat with
  |zero=>rw[hn] at g5 g6;exact⟨g5.symm,g6.symm⟩
  |succ n=>
   rw[hn] at g5 g6
   simp only[LA,Nr,e3,if_neg hc] at g5 g6
   exact⟨g5.symm,g6.symm⟩
theorem yU(c:ai):fX (ij c)=true:=by
 unfold ij;split
 ·simp[fX]
 ·split
  ·have h:=pz (aa c 6)
   simp[fX,h]
  ·have h:=er (aa c 6) (l:=Kp) iA (by decide) (by rfl)
   simp[fX,h]
theorem oh(c:ai):fm (eg c)=true:=by
 unfold eg;split
 ·have h:=pz (aa c 3)
  simp[fm,fX,h]
 ·have h:=er (aa c 3) (l:=Q5) iA (by decide) (by rfl)
  simp[fm,fX,h]
theorem B0{vars:List BA}(hv:∀s,s∈vars->iA s=true){a:cI}(ha:fm a=true):fm (rE vars a)=true/\eK vars (rE vars a)=true:=by
 unfold rE;split
 ·rename_i h;exact⟨ha,h⟩
 ·split
  ·exact⟨by rfl,by rfl⟩
  ·have hm:vars.getD 0 ao∈vars:=gJ (by omega)
   have h1:=hv _ hm
   have h2:mQ vars (vars.getD 0 ao)=true:=pW.2 hm
   exact⟨by simp only[fm,fX,h1];simp,by simp only[eK,h2,Bool.or_true]⟩
theorem SZ{vars:List BA}(hv:∀s,s∈vars->iA s=true)(c:ai):fH (pX vars (fI c))=true/\jM vars (pX vars (fI c))=true:=by
 have hz:eK vars mJ=true:=by rfl
 have h1:=B0 hv (oh c)
 unfold fI;split
 ·have h2:=B0 hv (oh (bT (aa (cY c) 4) D8))
  have h3:=er (aa (cY c) 4) (l:=D8) (fun s=> !decide (s=ao)&&(decide (s=Fk)||decide (s=xe))) (by decide) (by rfl)
  simp only[cJ,ru,decide_eq_false_iff_not] at h3
  obtain⟨h4,h5⟩:=h3
  simp only[pX,fH,jM,if_neg h4,decide_eq_false h4,cond_false,h5,cond_true,h1.1,h1.2,h2.1,h2.2,Bool.and_self,and_self]
 ·simp only[pX,fH,jM,if_true,decide_true,cond_true,h1.1,h1.2,hz,Bool.and_self,and_self]
theorem Td{vars:List BA}(hv:∀s,s∈vars->iA s=true)(c:ai):mN vars (Qb vars (yM c))=true:=by
 have hb:=bx (c:=c) (n:=3) (by omega)
 have h1:=B0 hv (oh (aa c 3))
 have h2:=B0 hv (oh (cY (aa c 3)))
 simp only[mN,jj,Qb,yM,h1.1,h1.2,h2.1,h2.2,BL]
 exact decide_eq_true ⟨by omega,by omega⟩
theorem TD{vars:List BA}(hv:∀s,s∈vars->iA s=true)(c:ai):eO ((na c).map (pX vars))=true/\((na c).map (pX vars)).all (jM vars)=true:=by
 have h:=nJ (f:=fI) (g:=iq) (fun e=>fH (pX vars e)=true/\jM vars (pX vars e)=true) (SZ hv) (xi c).toNat [] (Fp c) (fun x hx=>by cases hx)
 have hl:=Ay c
 refine⟨?_,?_⟩
 ·simp only[eO,cJ,decide_eq_true_eq,sC,xt,mf]
  exact⟨by omega,fun x ⟨e,he,hx⟩=>hx▸(h e he).1⟩
 ·simp only[sC,mf]
  exact fun x ⟨e,he,hx⟩=>hx▸(h e he).2
theorem Wy(c:ai):1<=iK c/\iK c<=6:=by
 have h:=rW c (l:=pT) (fun k=>decide (1<=k/\k<=6)) (by decide) (by rfl)
 exact yT h
theorem Wz{vars:List BA}(hv:∀s,s∈vars->iA s=true){fo:Int}(h0:1<=fo)(h1:fo<=3)(c:ai):nB vars fo (EW vars (xj fo c))=true:=by
 have hb:=bx (c:=ku c pT) (n:=fo) (by omega)
 have hn:bu (il c)=true:=er (ku c pT) (l:=HK) bu (by decide) (by rfl)
 obtain⟨e1,e2⟩:=TD hv c
 have hK:=Wy c
 have hT:0<=va c/\va c<=100000:=by
  unfold va;split
  ·have h:=rW (k9 c) (l:=w4) (fun k=>decide (0<=k/\k<=100000)) (by decide) (by rfl)
   simpa using h
  ·omega
 unfold xj
 split
 ·rename_i k2
  simp only[nB,EW,df,Bo,hJ,k2,List.map_nil,fv,QI,BL,decide_true,show¬((2:Int)=1) by decide,decide_false,cond_false,cond_true,wq,cJ,decide_eq_true_eq,ru,decide_eq_false_iff_not]
  omega
 ·rename_i k2
  split
  ·rename_i k56
   have n1:¬iK c=1:=by omega
   have n3:¬iK c=3:=by omega
   have n4:¬iK c=4:=by omega
   have h5:(decide (iK c=5)||decide (iK c=6))=true:=by simpa using k56
   simp only[nB,EW,df,Bo,hJ,decide_eq_false n1,decide_eq_false k2,decide_eq_false n3,decide_eq_false n4,h5,List.map_nil,fv,QI,decide_true,cond_false,cond_true,qm,WO,Bool.and_self,BL]
  ·rename_i k56
   have hd:hJ fo (EW vars ⟨iK c,il c,na c,va c,ui c⟩)=true:=by simp[hJ,EW,k2]
   have ha:df (EW vars ⟨iK c,il c,na c,va c,ui c⟩)=true:=by
    have hc:iK c=1\/iK c=3\/iK c=4:=by omega
    rcases hc with k|k|k
    ·have t0:va c=0:=if_neg (by omega)
     have u0:ui c=ao:=if_neg (fun e=>by have:=e.1;omega)
     simp only[EW,df,k,hn,e1,t0,u0,decide_true,cond_true,Bool.and_self]
    ·have t0:va c=0:=if_neg (by omega)
     have u0:fj (ui c)=true:=by
      unfold ui;split
      ·have h:=er (aa (oH c) 2) (l:=qK) fj (by decide) (by rfl)
       exact h
      ·rfl
     simp only[EW,df,k,hn,e1,t0,u0,decide_true,cond_true,show¬((3:Int)=1) by decide,show¬((3:Int)=2) by decide,decide_false,cond_false,Bool.and_self]
    ·have u0:ui c=ao:=if_neg (fun e=>by have:=e.1;omega)
     simp only[EW,df,k,hn,e1,u0,decide_eq_true hT,decide_true,cond_true,show¬((4:Int)=1) by decide,show¬((4:Int)=2) by decide,show¬((4:Int)=3) by decide,decide_false,cond_false,Bool.and_self]
   simp only[nB,hd,ha,wq]
   exact e2
theorem xT(b:Bool)(c:ai):fL (pt b c)=true:=by
 have h1:bu (cx c cS)=true:=er c (l:=cS) bu (by decide) (by rfl)
 have hl:=HV c
 have h2:=nJ (f:=ij) (g:=gV) (fun a=>fX a=true) yU (uO c).toNat [] (bT c cS) (fun x hx=>by cases hx)
 have h3:=mC ij gV (uO c).toNat [] (bT c cS)
 simp only[fv] at h3
 have h4:(pt b c).az.length<=5:=by
  show(mD ij gV (uO c).toNat [] (bT c cS)).length<=5
  omega
 simp only[fL,cJ,decide_eq_true_eq,sC]
 exact⟨⟨h1,h4⟩,h2⟩
theorem MB(c:ai):(lh c).length=(Ra c).toNat/\∀p,p∈lh c->fL p=true/\p.Not=false:=by
 refine⟨?_,nJ (f:=pt false) (g:=jx) (fun p=>fL p=true/\p.Not=false) (fun d=>⟨xT false d,rfl⟩) (Ra c).toNat [] (HL c) (fun x hx=>by cases hx)⟩
 rw[lh,mC];simp
theorem Rt{ps:List cr}(h:∀p,p∈ps->p.Not=false):cN ps=ps.length:=by
 rw[cN,List.filter_eq_self.2 (fun p hp=>by rw[h p hp];rfl)]
theorem Gz(c:ai):mi (dW c)=true/\1<=cN (dW c)/\cN (dW c)<=3/\∀p,p∈dW c->fL p=true:=by
 obtain⟨hl,hp⟩:=MB c
 have hN:=MC c
 have hP:=Rt (fun p h=>(hp p h).2)
 have main:∀ps:List cr,(ps=lh c\/∃q,ps=lh c++[q]/\fL q=true/\q.Not=true)->ik ps=true/\1<=cN ps/\cN ps<=3/\∀p,p∈ps->fL p=true:=by
  rintro ps (rfl|⟨q,rfl,hq,hn⟩)
  ·refine⟨?_,by omega,by omega,fun p h=>(hp p h).1⟩
   simp only[ik,cJ,decide_eq_true_eq,fY,mj,beq_iff_eq]
   refine⟨⟨by omega,by omega⟩,fun j hj=> ?_⟩
   have hm:(lh c).getD j cC∈lh c:=gJ hj
   refine⟨(hp _ hm).1,?_⟩
   rw[jh,(hp _ hm).2,decide_eq_false (by omega)]
  ·have hQ:cN (lh c++[q])=(lh c).length:=by
    rw[cN,List.filter_append,ko]
    have:(List.filter (fun p:cr=> !p.Not) [q])=[]:=by simp[hn]
    rw[this];exact hP
   have Gi:∀p,p∈lh c++[q]->fL p=true:=fun p h=>by
    rcases jC.1 h with h|h
    ·exact(hp p h).1
    ·rw[mI] at h;subst h;exact hq
   refine⟨?_,by omega,by omega,Gi⟩
   simp only[ik,cJ,decide_eq_true_eq,fY,mj,beq_iff_eq,ko,fK,fv,hQ]
   refine⟨⟨by omega,by omega⟩,fun j hj=> ?_⟩
   have hm:(lh c++[q]).getD j cC∈lh c++[q]:=gJ (by simp;omega)
   refine⟨Gi _ hm,?_⟩
   by_cases h:j<(lh c).length
   ·have e:(lh c++[q]).getD j cC=(lh c).getD j cC:=by
     rw[ez,ez,xA h]
    have vz:(lh c).getD j cC∈lh c:=gJ h
    rw[jh,e,(hp _ vz).2,decide_eq_false (by omega)]
   ·have e:(lh c++[q]).getD j cC=q:=by
     have:j=(lh c).length:=by omega
     rw[ez,this,zC (tX _),Za];rfl
    rw[jh,e,hn,decide_eq_true (by omega)]
 have:=main (dW c) (by
  unfold dW;split
  ·exact .inr ⟨_,rfl,xT _ _,rfl⟩
  ·exact .inl rfl)
 rw[pL] at this
 exact this
theorem Pb(c:ai):∀s,s∈di c->iA s=true:=by
 intro s hs
 obtain⟨p,hp,hn,a,ha,hk,rfl⟩:=xS.1 hs
 have h:=(Gz c).2.2.2 p hp
 simp only[fL,cJ,sC] at h
 have:=h.2 a ha
 simp only[fX,hk,decide_true,cond_true,cJ] at this
 exact this.1
theorem Ks{name:BA}(hn:bu name=true)(c:ai):fO (mB name c)=true:=by
 obtain⟨h1,h2,h3,_⟩:=Gz c
 have hv:=Pb c
 have hs:=rW c (l:=lH) (fun k=>decide (-100<=k/\k<=100)) (by decide) (by rfl)
 have hM:=Rb c
 have hk:kI (fS c) (cQ (dW c))=true:=by
  unfold fS;split
  ·have:=Td hv (wQ c)
   simp only[kI,fK,fv,QM,QI,BL]
   rw[show mN (cQ (dW c)) (Qb (di c) (yM (wQ c)))=true from this];rfl
  ·rfl
 have ha:lx (rz c) (cQ (dW c)) (cN (dW c))=true:=by
  have h:=nJ (f:=GA c) (g:=rA c) (fun a=>nB (di c) (cN (dW c)) a=true) (fun d=>Wz hv (by omega) (by omega) d) (QC c).toNat [] (Rc c) (fun x hx=>by cases hx)
  have hl:(rz c).length=(QC c).toNat:=by rw[rz,mC];simp
  simp only[lx,cJ,decide_eq_true_eq,sC]
  exact⟨⟨by omega,by omega⟩,h⟩
 simp only[fO,mB,hn,h1,hk,ha,BL,wq]
 exact hs
theorem KV{s:BA}(h:bu s=true):s.size<=12:=by
 simp only[bu,cJ,decide_eq_true_eq] at h
 exact h.1.1.2
theorem Nv{a:cI}(h:fX a=true):fh a<=40:=by
 have hz:dE.S.size=0:=rfl
 have hn:ao.size=0:=rfl
 simp only[fX,iA] at h
 simp only[fh,nX]
 by_cases k1:a.K=1
 ·simp only[decide_eq_true k1,cond_true,cJ,decide_eq_true_eq] at h
  rw[h.2,hz];omega
 ·by_cases k2:a.K=2
  ·simp only[decide_eq_false k1,decide_eq_true k2,cond_true,cond_false,cJ,decide_eq_true_eq] at h
   have:=Zs h.1
   rw[h.2,hn];omega
  ·by_cases k3:a.K=3
   ·simp only[decide_eq_false k1,decide_eq_false k2,decide_eq_true k3,cond_true,cond_false,cJ,decide_eq_true_eq] at h
    rw[h.1,h.2,hz,hn];omega
   ·simp only[decide_eq_false k1,decide_eq_false k2,decide_eq_false k3,cond_false] at h
    cases h
theorem uy{a:cI}(h:fm a=true):fh a<=40:=by
 simp only[fm,cJ] at h
 exact Nv h.1
theorem amX{p:cr}(h:fL p=true):ka p<=217:=by
 simp only[fL,cJ,decide_eq_true_eq,sC] at h
 have h1:=KV h.1.1
 have h2:=wN fh 40 p.az (fun a ha=>Nv (h.2 a ha))
 simp only[ka,uF];omega
theorem adX{c:dy}(h:jj c=true):oj c<=80:=by
 simp only[jj,cJ] at h
 have h1:=uy h.1.2
 have h2:=uy h.2
 simp only[oj];omega
theorem aeE{e:ct}(h:fH e=true):iC e<=81:=by
 have hz:fh mJ=0:=rfl
 have hn:ao.size=0:=rfl
 have hp:Fk.size=1:=rfl
 have hm:xe.size=1:=rfl
 simp only[fH] at h
 simp only[iC]
 by_cases k:e.Op=ao
 ·simp only[decide_eq_true k,cond_true,cJ,decide_eq_true_eq] at h
  have:=uy h.1
  rw[k,h.2,hz,hn];omega
 ·simp only[decide_eq_false k,cond_false] at h
  by_cases k2:e.Op=Fk
  ·simp only[k2,decide_true,Bool.true_or,cond_true,cJ] at h
   have h1:=uy h.1
   have h2:=uy h.2
   rw[k2,hp];omega
  ·by_cases k3:e.Op=xe
   ·simp only[k3,decide_true,Bool.or_true,cond_true,cJ] at h
    have h1:=uy h.1
    have h2:=uy h.2
    rw[k3,hm];omega
   ·simp only[decide_eq_false k2,decide_eq_false k3,Bool.or_self,cond_false] at h
    cases h
theorem aby{l:List ct}(h:eO l=true):kB l<=410:=by
 simp only[eO,cJ,decide_eq_true_eq,sC] at h
 have h2:=wN iC 81 l (fun a ha=>aeE (h.2 a ha))
 simp only[kB];omega
theorem TB{a:ew}(h:df a=true):gY a<=434:=by
 have hn:ao.size=0:=rfl
 have h1:(bu a.Name=true\/a.Name=ao)/\(eO a.az=true\/a.az.length=0)/\(fj a.aR=true\/a.aR=ao):=by
  simp only[df,Bo] at h
  grind
 obtain⟨g1,g2,g3⟩:=h1
 have e1:a.Name.size<=12:=by
  rcases g1 with g|g
  ·exact KV g
  ·rw[g,hn];omega
 have e2:kB a.az<=410:=by
  rcases g2 with g|g
  ·exact aby g
  ·have:a.az=[]:=List.length_eq_zero_iff.1 g
   rw[this];simp[kB]
 have e3:a.aR.size<=12:=by
  rcases g3 with g|g
  ·exact WU g
  ·rw[g,hn];omega
 simp only[gY];omega
theorem Q9{r:bf}(h:fO r=true):dM r<=5000:=by
 have hs:=wP h
 have hp:ik r.aH=true:=by
  simp only[fO,cJ] at h
  rw[pL];exact h.1.1.2
 simp only[ik,cJ,decide_eq_true_eq,fY,mj] at hp
 simp only[fO,kI,lx,cJ,decide_eq_true_eq,sC,mN,nB] at h
 obtain⟨⟨⟨⟨h1,_⟩,_⟩,⟨h2,h3⟩⟩,⟨⟨_,h4⟩,h5⟩⟩:=h
 have n1:=KV h1
 have s1:=wN ka 217 r.aH (fun p hpm=>by
  obtain⟨j,hj,rfl⟩:=sG hpm
  have:=(hp.2 j hj).1
  rw[ez,fw hj] at this
  exact amX this)
 have s2:=wN oj 80 r.aU (fun c hc=>adX (h3 c hc).1.1)
 have s3:=wN gY 434 r.bI (fun a ha=>TB (h5 a ha).1.1)
 have:=hs.1.fo
 simp only[dM,kq,vr,rP];omega
theorem aeI{d:br}(h:fJ d=true):cB d<=61000:=by
 simp only[fJ,cJ,decide_eq_true_eq,fY,jr] at h
 have n1:=KV h.1.1
 have s1:=wN dM 5000 d.aA (fun r hr=>by
  obtain⟨j,hj,rfl⟩:=sG hr
  have:=(h.2 j hj).1
  rw[ez,fw hj] at this
  exact Q9 this)
 simp only[cB,jV];omega
theorem Hi:∀(k i:Nat)(l:List bf)(c:ai),∃t:List bf,LA k i l c=l++t/\t.length<=k/\(1<=k->i=0->1<=t.length)/\∀j,j<t.length->∃d,t.getD j cq=mB (sN.getD (i+j) ao) d
 |0,i,l,c=>⟨[],by simp[LA],by simp,by omega,fun j hj=>by simp at hj⟩
 |k+1,i,l,c=>by
  have hb:=bx (c:=c) (n:=4) (by omega)
  unfold LA
  split
  ·obtain⟨t,h1,h2,_,h4⟩:=Hi k (i+1) (l++[mB (sN.getD i ao) (aa c 4)]) (nG (aa c 4))
   refine⟨mB (sN.getD i ao) (aa c 4)::t,by rw[h1,xz];rfl,by simp only[fK];omega,fun _ _=>by simp only[fK];omega,fun j hj=> ?_⟩
   cases j with
   |zero=>exact⟨aa c 4,rfl⟩
   |succ j=>
    obtain⟨d,hd⟩:=h4 j (by simp only[fK] at hj;omega)
    exact⟨d,by rw[show i+(j+1)=i+1+j by omega];exact hd⟩
  ·rename_i h
   exact⟨[],by simp,by simp,fun _ hi=>by omega,fun j hj=>by simp at hj⟩
theorem O9:∀j,j<4->bu (sN.getD j ao)=true:=by decide
theorem O':∀j,j<4->∀k,k<j->¬sN.getD k ao=sN.getD j ao:=by decide
theorem yD(c:ai):fJ (cD c)=true:=by
 obtain⟨t,h1,h2,h3,h4⟩:=Hi 4 0 [] (bT c AU)
 have e:(cD c).aA=t:=h1
 have hn:bu (cD c).Name=true:=er c (l:=AU) bu (by decide) (by rfl)
 simp only[fJ,cJ,decide_eq_true_eq,fY,jr,hn,e,true_and]
 have h3:=h3 (by omega) rfl
 refine⟨⟨by omega,by omega⟩,fun j hj=> ?_⟩
 obtain⟨d,hd⟩:=h4 j hj
 rw[vk] at hd
 refine⟨by rw[hd];exact Ks (O9 j (by omega)) d,?_⟩
 refine fE (i:=j) hj (by simp) (fun k hk=>decide_eq_false fun e=> ?_)
 obtain⟨d',BZ⟩:=h4 k (by omega)
 rw[vk] at BZ
 rw[hd,BZ] at e
 exact O' j (by omega) k hk e
theorem E6(c:ai):(∀r,r∈(cD c).aA->mM r/\nM r)/\(cD c).aA.length<=12/\cB (cD c)<=61000:=
 ⟨(vG (yD c)).1,(vG (yD c)).2,aeI (yD c)⟩
theorem xa{f:aK}{w:BA}{v:aS}(hf:bu f.Kind=true)(hw:bB ⟨2,0,w⟩=true)(hv:bB v=true):bD (lZ f w v)=true:=by
 simp only[bD,lZ,QM,QI,hf,hw,hv];rfl
theorem zS{f:aK}(h:bD f=true):bu f.Kind=true:=by
 simp only[bD,cJ] at h;exact h.1.1
theorem UE(ok:Bool):bB ⟨2,0,uu ok⟩=true:=by cases ok<;>rfl
theorem Ts:bB ⟨2,0,bNo⟩=true:=by rfl
def N3:aS:=⟨1,0,ao⟩
theorem KS:bB N3=true:=by rfl
theorem E7{d:br}{x:aq}(h:coreX d x){l:List aj}(hl:aW l=true):coreX d (mK x l):=⟨h.p_,h.store,hl,h.timers,h.pf,h.now,h.Lo,h.bY⟩
theorem Pc{d:br}{x:aq}(h:coreX d x)(hs:x.State=1\/x.State=3\/x.State=5){k:Nat}(hk:k<x.ag.length)(ok:Bool){v:aS}(hv:bB v=true):cH d (yX x k ok v):=by
 by_cases h1:x.State=1
 ·rw[B_ h1]
  have ht:=(fB.1 (mg h.jt hk)).1
  have hf:=xa (zS ht) (UE ok) hv
  split
  ·split
   ·rename_i hp
    have hg:=w9 h.good (t:=x.ag.getD k aD) hp
    exact jv (x:=DL x (bH x.av (x.ag.getD k aD)).1) ⟨h.p_,h.store,h.jt,h.timers,hg.2.1,h.now,h.Lo,h.bY⟩ h1 hf
   ·exact mh h (.inl rfl)
  ·exact jv h h1 hf
 ·rw[yX,if_pos h1]
  exact wS h (by omega)
theorem A1{d:br}{x:aq}(h:cH d x)(key:BA)(ok:Bool){v:aS}(hv:bB v=true):cH d (cm x key ok v).1:=by
 unfold cm
 split
 ·rename_i h1
  have hl:=Eg h1
  exact Pc (E7 h.tocoreX (nW h.jt)) (show x.State=1\/x.State=3\/x.State=5 from pP (pA.2 h) h1) (k:=(aC (aB x.ag key ok v).1 key).toNat) (by show _<(aB x.ag key ok v).1.length;omega) ok hv
 ·exact h
theorem GI(x:aq):(gD x).bR=x.bR:=by unfold gD;split<;>rfl
theorem xW(x:aq)(st:Int):(gq x st).bR=x.bR:=GI _
theorem KQ(x:aq):(qT x).bR=x.bR:=GI _
theorem rS(x:aq)(f:aK):(dj x f).bR=x.bR:=by
 unfold dj;split
 ·exact xW _ _
 ·rfl
theorem MX(x:aq)(e:de):(g_ x e).bR=x.bR:=by
 unfold g_ Hh NM HG
 repeat' split
 all_goals first
  |exact rS _ _
  |exact xW _ _
  |rfl
theorem A5:∀(l:List de)(x:aq),(jT l x).bR=x.bR
 |[],_=>rfl
 |e::l,x=>by
  rw[jT];split
  ·rw[A5 l,MX]
  ·rfl
theorem RP(d:br)(x:aq)(m:aw):(pY d x m).bR=x.bR:=by
 unfold pY;split
 ·rw[A5];rfl
 ·exact xW _ _
theorem Py(x:aq)(key:BA)(ok:Bool)(v:aS):(cm x key ok v).1.bR=x.bR:=by
 unfold cm;split
 ·show(yX _ _ _ _).bR=_
  unfold yX
  repeat' split
  all_goals first
   |exact KQ _
   |exact rS _ _
   |exact xW _ _
 ·rfl
def kH:List aN->aq->aq
 |[],x=>x
 |t::l,x=>if x.State=1 then kH l (dj x t.F) else x
theorem xK{d:br}:∀{l:List aN}{x:aq},cH d x->(∀t∈l,bD t.F=true)->cH d (kH l x)
 |[],_,h,_=>h
 |t::l,x,h,hl=>by
  rw[kH];split
  ·rename_i hs
   exact xK (jv h.tocoreX hs (hl t iy)) fun y hy=>hl y (fA _ hy)
  ·exact h
theorem Er:∀(l:List aN)(x:aq),(kH l x).bR=x.bR
 |[],_=>rfl
 |t::l,x=>by
  rw[kH];split
  ·rw[Er l,rS]
  ·rfl
def aeH(x:aq)(now:Int):aq:=⟨x.S,x.ay,x.ag,Pe now x.ap,x.av,x.State,now⟩
def dG(x:aq)(now:Int):aq:=if x.State=1 then kH (qx now x.ap) (aeH x now) else Gn x now
def pg(x:aq)(now:Int):aq:=mK x (x.ag.map (fU now))
def gy(st:Int):List aK->aq->aq
 |[],x=>x
 |f::l,x=>if x.State=st then gy st l (if st=1 then dj x (lZ f bNo N3) else qT x) else x
def jp(x:aq)(now:Int):List BA:=x.ag.flatMap (lM now)
def G7(l:List aj)(k:BA):aK:=(l.getD (aC l k).toNat aD).F
def og(x:aq)(now:Int):aq:=gy (dG x now).State ((jp (dG x now) now).map (G7 (pg (dG x now) now).ag)) (pg (dG x now) now)
def AP(x:aq)(now:Int):List qj:=(dG x now).ag.flatMap (pj now)
theorem Qi{d:br}{x:aq}(h:coreX d x){now:Int}(h0:0<=now)(h1:now<=1000000000):coreX d (Gn x now):=⟨h.p_,h.store,h.jt,h.timers,h.pf,⟨h0,h1⟩,h.Lo,h.bY⟩
theorem A0{d:br}{x:aq}(h:cH d x){now:Int}(h0:0<=now)(h1:now<=1000000000):cH d (dG x now):=by
 unfold dG
 split
 ·rename_i hs
  refine xK (kD ⟨h.p_,h.store,h.jt,ww _ h.timers,h.pf,⟨h0,h1⟩,h.Lo,h.bY⟩ hs) fun t ht=> ?_
  have:=(pF.1 h.timers).2.1 t (zA.1 ht).1
  simp only[iB,cJ] at this
  exact this.2
 ·exact⟨Qi h.tocoreX h0 h1,h.state,h.ended,h.HD⟩
theorem Px(x:aq)(now:Int):(dG x now).bR=now:=by
 unfold dG;split
 ·rw[Er];rfl
 ·rfl
theorem O8{l:List aj}(h:ph l=false)(now:Int):l.map (fU now)=l:=by
 have:∀t∈l,fU now t=t:=fun t ht=>by
  obtain⟨i,hi,rfl⟩:=sG ht
  have:=oE.1 h i hi
  rw[ez,fw hi] at this
  have hd:due now l[i]=false:=by simp only[due];rw[show jI l[i]=false from this];rfl
  rw[fU,hd];rfl
 exact(O1 this).trans (List.map_id' l)
theorem Qd{l:List aj}(h:ph l=false)(now:Int):l.flatMap (lM now)=[]:=by
 rw[List.flatMap_eq_nil_iff]
 intro t ht
 obtain⟨i,hi,rfl⟩:=sG ht
 have:=oE.1 h i hi
 rw[ez,fw hi] at this
 have hd:due now l[i]=false:=by simp only[due];rw[show jI l[i]=false from this];rfl
 rw[lM,hd];rfl
theorem ZK(now:Int)(t:aj):(fU now t).F=t.F:=NP now t
theorem EY{l:List aj}{now:Int}{k:BA}(h:k∈l.flatMap (lM now)):0<=aC (l.map (fU now)) k/\aC (l.map (fU now)) k<((l.map (fU now)).length:Int):=by
 obtain⟨t,ht,hk⟩:=oQ.1 h
 unfold lM at hk
 split at hk
 ·rw[mI] at hk
  obtain⟨i,hi,rfl⟩:=sG ht
  rcases ig (l.map (fU now)).length (fun k'=>decide (bg ((l.map (fU now)).getD k' aD).F=k)) with⟨_,h2⟩|⟨m,g1,g2,_,_⟩
  ·have:=yF (h2 i (by rw[xt];exact hi))
   rw[ez,nT,fw hi] at this
   exact absurd (by rw[hk];exact congrArg bg (ZK now l[i])) this
  ·have g2:aC (l.map (fU now)) k=m:=g2
   rw[g2];omega
 ·simp at hk
theorem Ed{d:br}{x:aq}(h:cH d x){now:Int}(h0:0<=now)(h1:now<=1000000000):cH d (pg x now):=by
 refine⟨E7 h.tocoreX (sJ h0 h1 h.jt),h.state,fun g=> ?_,h.HD⟩
 obtain⟨g1,g2⟩:=h.ended g
 exact⟨by show ph (x.ag.map (fU now))=false;rw[O8 g1];exact g1,g2⟩
theorem xL{d:br}{st:Int}:∀{l:List aK}{x:aq},cH d x->(∀f∈l,bu f.Kind=true)->(l≠[]->st=1\/st=3\/st=5)->cH d (gy st l x)
 |[],_,h,_,_=>h
 |f::l,x,h,hl,hs=>by
  rw[gy];split
  ·rename_i he
   have hs:=hs (by simp)
   refine xL ?_ (fun y hy=>hl y (fA _ hy)) fun _=>hs
   split
   ·rename_i h1
    exact jv h.tocoreX (he.trans h1) (xa (hl f iy) Ts KS)
   ·exact wS h.tocoreX (by omega)
  ·exact h
theorem Es(st:Int):∀(l:List aK)(x:aq),(gy st l x).bR=x.bR
 |[],_=>rfl
 |f::l,x=>by
  rw[gy];split
  ·rw[Es st l]
   split
   ·exact rS _ _
   ·exact KQ _
  ·rfl
theorem Ak{l:List aj}{now:Int}(h:aW l=true)(h0:0<=now)(h1:now<=1000000000){k:BA}(hk:k∈l.flatMap (lM now)):bD (G7 (l.map (fU now)) k)=true:=by
 obtain⟨a,b⟩:=EY hk
 exact(fB.1 (mg (sJ h0 h1 h) (k:=(aC (l.map (fU now)) k).toNat) (by omega))).1
theorem GK{d:br}{x:aq}(h:cH d x){now:Int}(hk:jp x now≠[]):x.State=1\/x.State=3\/x.State=5:=by
 by_cases hc:x.State=2\/x.State=4\/x.State=6
 ·exact absurd (Qd (h.ended hc).1 now) hk
 ·have:=h.state;omega
theorem MG{d:br}{x:aq}(h:cH d x){now:Int}(h0:0<=now)(h1:now<=1000000000):cH d (og x now):=by
 have hT:=A0 h h0 h1
 refine xL (Ed hT h0 h1) (fun f hf=> ?_) fun hn=>GK hT (now:=now) (by intro e;rw[e] at hn;exact hn rfl)
 obtain⟨k,hk,rfl⟩:=mf.1 hf
 exact zS (Ak hT.jt h0 h1 hk)
theorem RN(x:aq)(now:Int):(og x now).bR=now:=by
 unfold og
 rw[Es]
 exact Px x now
def sU:List Int:=[0,1,5,30]
def Xt(x:aq)(c:ai):BA:=bg (x.ag.getD (af c x.ag.length).toNat aD).F
def Qe(x:aq)(c:ai):ai:=aa c x.ag.length
def wC(d:br)(x:aq):aq:=match jw d (allM d.aA x.S.ab) x.ay with|some m=>pY d x m|none=>x
def gP(d:br)(x:aq)(c:ai):aq:=
 if af c 8=0\/af c 8=1 then(if x.State=1 then dj x (cV (aa c 8)) else x)
 else if af c 8=2\/af c 8=3\/af c 8=4 then(if x.State=1 then wC d x else x)
 else if af c 8=5\/af c 8=6 then(if mS x=true then x else og x (x.bR+gU (aa c 8) sU))
 else if 0<x.ag.length then(cm x (Xt x (aa c 8)) (!bP (Qe x (aa c 8)) 3) (ed (aa (Qe x (aa c 8)) 3))).1 else x
def gQ(x:aq)(c:ai):ai:=
 if af c 8=0\/af c 8=1 then(if x.State=1 then cW (aa c 8) else aa c 8)
 else if af c 8=2\/af c 8=3\/af c 8=4 then aa c 8
 else if af c 8=5\/af c 8=6 then(if mS x=true then aa c 8 else ku (aa c 8) sU)
 else if 0<x.ag.length then gL (aa (Qe x (aa c 8)) 3) else aa c 8
theorem NL(c:ai):0<=gU c sU/\gU c sU<=30:=by
 have:=rW c (l:=sU) (fun n=>decide (0<=n/\n<=30)) (by decide) (by decide)
 simpa using this
theorem MH{d:br}{x:aq}(h:cH d x)(hs:x.State=1):cH d (wC d x):=by
 unfold wC
 cases hp:jw d (allM d.aA x.S.ab) x.ay with
 |some m=>exact MI h.tocoreX hs (GG hp)
 |none=>exact h
theorem RO(d:br)(x:aq):(wC d x).bR=x.bR:=by
 unfold wC
 cases hp:jw d (allM d.aA x.S.ab) x.ay with
 |some m=>exact RP _ _ _
 |none=>rfl
theorem A2{d:br}{x:aq}{c:ai}(h:cH d x)(hn:x.bR+30<=1000000000):cH d (gP d x c)/\x.bR<=(gP d x c).bR/\(gP d x c).bR<=x.bR+30:=by
 have ht:=NL (aa c 8)
 have h0:=h.now.1
 unfold gP
 split
 ·split
  ·rename_i hs
   exact⟨jv h.tocoreX hs (oy _),by rw[rS];omega⟩
  ·exact⟨h,by omega,by omega⟩
 ·split
  ·split
   ·rename_i hs
    exact⟨MH h hs,by rw[RO];omega⟩
   ·exact⟨h,by omega,by omega⟩
  ·split
   ·split
    ·exact⟨h,by omega,by omega⟩
    ·exact⟨MG h (by omega) (by omega),by rw[RN];omega⟩
   ·split
    ·exact⟨A1 h _ _ (pz _),by rw[Py];omega⟩
    ·exact⟨h,by omega,by omega⟩
theorem Ho{x:aq}{c:ai}(h:bh c):bh (gQ x c):=by
 have h8:=au h 8
 unfold gQ
 repeat' split
 all_goals first
  |exact lR h8
  |exact iG h8 _
  |exact kO (au (au h8 _) 3)
  |exact h8
def n_(d:br):Nat->aq->ai->aq
 |0,x,_=>x
 |k+1,x,c=>n_ d k (gP d x c) (gQ x c)
def tj(d:br):Nat->aq->ai->ai
 |0,_,c=>c
 |k+1,x,c=>tj d k (gP d x c) (gQ x c)
theorem xM{d:br}:∀{k:Nat}{x:aq}{c:ai},cH d x->x.bR+30*k<=1000000000->cH d (n_ d k x c)/\(n_ d k x c).bR<=x.bR+30*k
 |0,_,_,h,_=>⟨h,by simp only[n_];omega⟩
 |k+1,x,c,h,hn=>by
  obtain⟨h1,h2,h3⟩:=A2 (c:=c) h (by omega)
  obtain⟨h4,h5⟩:=xM (k:=k) (c:=gQ x c) h1 (by omega)
  exact⟨h4,by simp only[n_];omega⟩
theorem Fb{d:br}:∀{k:Nat}{x:aq}{c:ai},bh c->bh (tj d k x c)
 |0,_,_,h=>h
 |k+1,_,_,h=>Fb (k:=k) (Ho h)
def zU:List Int:=[0,0,7]
def Lz(c:ai):aq:=instNew (gU (jq c) zU)
def Ap(c:ai):ai:=ku (jq c) zU
def Ao(c:ai)(aM:Int):aq:=n_ (cD c) (af (Ap c) aM).toNat (Lz c) (aa (Ap c) aM)
def Iz(c:ai)(aM:Int):ai:=tj (cD c) (af (Ap c) aM).toNat (Lz c) (aa (Ap c) aM)
def instD(c:ai)(aM:Int):aq:=if(Ao c aM).State=1/\bP (Iz c aM) 10=true then gq (Ao c aM) 5 else Ao c aM
def instDC(c:ai)(aM:Int):ai:=if(Ao c aM).State=1 then aa (Iz c aM) 10 else Iz c aM
theorem GP{d:br}{s:List bN}{m:aw}(hd:fJ d=true)(h:iT d s m=true):m.ee.length<=3/\m.bz=[]:=by
 simp only[iT,cJ,decide_eq_true_eq] at h
 obtain⟨⟨⟨h1,h2⟩,h3⟩,_⟩:=h
 have:=(wP (NS hd h1)).1.three
 exact⟨by omega,FL h2⟩
theorem Nh{d:br}{x:aq}(h:coreX d x):e_ x.ay<=7000:=by
 have hm:∀m∈x.ay,jg m<=6:=fun m hm=>by
  obtain⟨h1,h2⟩:=GP h.p_ (h.bY m hm)
  simp only[jg,h2]
  have e:rO []=0:=rfl
  have e2:rN m.ee=m.ee.length:=by simp[rN]
  omega
 have:=wN jg 6 x.ay hm
 have:=h.Lo
 simp only[e_];omega
theorem My{s:aF}(h:bm s=true):jU s<=6000:=by
 obtain⟨_,h2,h3,_⟩:=oi.1 h
 have:=wN jR 145 s.ab (fun x hx=>(p6 (h3 x hx).1).2)
 simp only[jU,cd];omega
theorem Ec{d:br}{x:aq}(h:coreX d x):cK x<=50000:=by
 have h1:=My h.store
 have h2:=Nh h
 have h3:=(uA h.jt).2
 have h4:=(BM h.timers).2
 have h5:=(uw h.pf).2.2
 simp only[cK];omega
theorem Kw(c:ai):cH (cD c) (Lz c):=by
 have h:=rW (jq c) (l:=zU) (fun n=>decide (0<=n/\n<=7)) (by decide) (by decide)
 have h:=yT h
 have e:Lz c=⟨⟨[],1⟩,[],[],[],[],1,gU (jq c) zU⟩:=by unfold Lz instNew;rw[if_pos (by omega)]
 rw[e]
 exact kD ⟨yD c,rfl,rfl,rfl,rfl,⟨h.1,by show gU (jq c) zU<=1000000000;omega⟩,by simp,by simp⟩ rfl
theorem QS(c:ai):(Lz c).bR<=7:=by
 have h:=rW (jq c) (l:=zU) (fun n=>decide (0<=n/\n<=7)) (by decide) (by decide)
 have h:=yT h
 unfold Lz instNew
 rw[if_pos (by omega)];exact h.2
theorem Re{c:ai}{m:Int}(hm:m<=1000):cH (cD c) (Ao c m)/\(Ao c m).bR<=31000:=by
 have hb:(af (Ap c) m).toNat<=1000:=by
  by_cases h:0<m
  ·have:=bx (c:=Ap c) h;omega
  ·unfold af;rw[if_pos (by omega)];decide
 have h0:=QS c
 have:=xM (k:=(af (Ap c) m).toNat) (c:=aa (Ap c) m) (Kw c) (by omega)
 exact⟨this.1,by have:=this.2;simp only[Ao];omega⟩
theorem Oz{c:ai}(h:bh c):bh (Ap c):=iG (yO h) _
theorem Wt{c:ai}(h:bh c)(m:Int):bh (Iz c m):=Fb (au (Oz h) _)
theorem Ee{c:ai}{m:Int}(hm:m<=1000):cH (cD c) (instD c m):=by
 have h:=(Re (c:=c) hm).1
 unfold instD;split
 ·exact mh h.tocoreX (.inr rfl)
 ·exact h
theorem Hm{c:ai}(h:bh c)(m:Int):bh (instDC c m):=by
 have:=Wt h m
 unfold instDC;split
 ·exact au this 10
 ·exact this
def aau(c:ai):Int:=1+af c 3
def PD(c:ai):ai:=aa c 3
def ln(c:ai):aw:=⟨af c 3,mD aau PD (af (aa c 3) 4).toNat [] (aa (aa c 3) 4),[]⟩
def n8(c:ai):ai:=pR PD (af (aa c 3) 4).toNat (aa (aa c 3) 4)
theorem Oy{c:ai}(h:bh c):bh (PD c):=au h 3
theorem Nt{c:ai}(h:bh c):bh (n8 c):=sf (fun _=>Oy) (au (au h _) _)
def efD(code:List Int):br:=cD (lm code)
def aeG(code:List Int):ai:=jq (lm code)
def aeF(code:List Int):List aw:=allM (efD code).aA (c_ (aeG code)).ab
def anD(code:List Int):ai:=kA (aeG code)
def anC(code:List Int):ai:=n8 (anD code)
def abC(code:List Int):Prop:=0<(aeF code).length/\bP (anC code) 5=false
instance (code:List Int):Decidable (abC code):=instDecidableAnd
theorem ap2{a a':aw}{d d':ai}(h1:a=a')(h2:d=d'):dJ [DV.agg [CI a.cG,.sl .int a.ee,.sl .cv a.bz]]=dJ [DV.agg [CI a'.cG,.sl .int a'.ee,.sl .cv a'.bz]]/\dJ [DV.box [.sl .byte d.b,CI d.i,CI d.h]]=dJ [DV.box [.sl .byte d'.b,CI d'.i,CI d'.h]]:=by
 subst h1 h2;exact⟨rfl,rfl⟩
def afD:=bV (α:=ai) (q1 qU) [.box false] (fun c=>[bh c]) (fun c=>⟨[dA .aE (ln c)],[],[dU (n8 c)]⟩)
def JP(c:ai):Int×T8×T8×T4×Unit->Prop:=fun(i,q,m,cu,_)=>m.1=af c 3/\m.2.2.1=[]/\0<=i/\i<=3/\m.2.1.length+i<=3/\bh ⟨cu.1,cu.2.1,cu.2.2.1⟩/\mD aau PD i.toNat m.2.1 ⟨cu.1,cu.2.1,cu.2.2.1⟩=(ln c).ee/\pR PD i.toNat ⟨cu.1,cu.2.1,cu.2.2.1⟩=n8 c
def Jb(c:ai):Int×T8×T8×T4×Unit->Nat:=fun(i,q,m,cu,_)=>i.toNat
def apO:AX afD:=fun c=>b_ [(3,aY [iI 4,.box 2 (2,1024) [.lit (.int .i64),.own .int true,.own .cv true],.box 3 (3,1024) [.lit (.int .i64),.own .int true,.own .cv true],.box 0 (2000000,0) [.shr .byte,.lit (.int .i64),.lit (.int .i64)]] (fun _=>JP c) (Jb c))]
def ao3:HH:=hF afD func46 [nb] apO fun(c:ai) hp hb=>by
 have bp:bh c:=hp _ m0
 clear hp hb
 apply vE (let x0:=aa (aa c 3) 4;0<=c.i/\L4 c.b.length/\0<=(aa c 3).i/\(aa c 3).b.length<=4294967296/\JP c (af (aa c 3) 4,(0,[],[],()),(af c 3,[],[],()),(x0.b,x0.i,x0.h,()),())/\∀(y:Int×Y8×Y8×OX×PUnit),let x3:={b:=y.2.2.2.1.1,i:=y.2.2.2.1.2.1,h:=y.2.2.2.1.2.2.1:ai};let x1:=aa x3 3;let x2:=[wrap i64 (1+af x3 3)];let q0:=(wrap i64 (y.1-1),(y.2.1.1,y.2.1.2.1,y.2.1.2.2.1,()),(y.2.2.1.1,y.2.2.1.2.1++x2,y.2.2.1.2.2.1,()),(x1.b,x1.i,x1.h,()),());JP c y->bif decide (y.1>0) then 0<=y.2.2.2.1.2.1/\L4 y.2.2.2.1.1.length/\L4 (y.2.2.1.2.1.length+x2.length)/\JP c q0/\Jb c q0<Jb c y else LM [DV.agg [CI y.2.2.1.1,CL .int y.2.2.1.2.1,CL .cv y.2.2.1.2.2.1]] [DV.agg [CI ((ln c).cG),CL .int (ln c).ee,CL .cv (ln c).bz]] [DV.box [CL .byte y.2.2.2.1.1,CI y.2.2.2.1.2.1,CI y.2.2.2.1.2.2.1]] [bU (n8 c)])
 dsimp only
 have h3:=au bp 3
 have hb:=bx (c:=aa c 3) (n:=4) (by omega)
 refine⟨bp.1,bp.2,h3.1,h3.2,⟨rfl,rfl,by omega,by omega,by simp only[fv];omega,au h3 4,rfl,rfl⟩,?_⟩
 rintro⟨i,⟨q1,q2,q3,⟨⟩⟩,⟨m1,m2,m3,⟨⟩⟩,⟨cb,ci,ch,⟨⟩⟩,⟨⟩⟩ ⟨e1,e2,g1,g2,g3,g4,g5,g6⟩
 simp only at e1 e2 g1 g2 g3 g4 g5 g6⊢
 subst e1 e2
 refine aV ?_ ?_<;>intro hc
 ·have hd:=bx (c:=⟨cb,ci,ch⟩) (n:=3) (by omega)
  have e:i.toNat=(i-1).toNat+1:=by omega
  rw[e] at g5 g6
  rw[wi (n:=1+af ⟨cb,ci,ch⟩ 3),wi (n:=i-1)]
  exact⟨g4.1,g4.2,by simp only[fK,fv];omega,⟨rfl,rfl,by omega,by omega,by simp only[ko,fK,fv];omega,Oy g4,g5,g6⟩,by simp only[Jb];omega⟩
 ·have e:i.toNat=0:=by omega
  rw[e] at g5 g6
  have g5:m2=(ln c).ee:=g5
  have g6:(⟨cb,ci,ch⟩:ai)=n8 c:=g6
  exact⟨by trivial,ap2 (a:=⟨af c 3,m2,[]⟩) (a':=ln c) (d:=⟨cb,ci,ch⟩) (d':=n8 c) (by rw[g5];rfl) g6⟩
def tZ:List BA:=[⟨#[]⟩,⟨#[65]⟩,⟨#[120]⟩]
def Q8:List BA:=[⟨#[]⟩,⟨#[120]⟩,⟨#[88]⟩]
def UN:List BA:=[⟨#[]⟩,⟨#[42]⟩]
def oV:List BA:=[⟨#[114,49]⟩,⟨#[114,50]⟩,⟨#[115,104,105,112]⟩]
def O_:List BA:=[⟨#[]⟩,⟨#[65]⟩]
def VN:List Int:=[-1,7,8,100001]
def VM:List Int:=[-101,101,100]
def R_:List Int:=[0,1,1000000,1000001]
noncomputable def mE(l:List cI)(c:ai):List cI×ai:=if h:(l.length:Int)<5+af c 2 then mE (l++[ij (aa c 2)]) (gV (aa c 2)) else(l,aa c 2)
termination_by 6-l.length
decreasing_by
 have:=bx (c:=c) (n:=2) (by omega)
 simp only[ko,fK,fv];omega
theorem G6{l:List cI}{c:ai}(h:(l.length:Int)<5+af c 2):mE l c=mE (l++[ij (aa c 2)]) (gV (aa c 2)):=by rw[mE,dif_pos h]
theorem Ln{l:List cI}{c:ai}(h:¬(l.length:Int)<5+af c 2):mE l c=(l,aa c 2):=by rw[mE,dif_neg h]
theorem Lm{l:List cI}{c:ai}(hc:bh c)(h:∀a∈l,fX a=true)(hl:l.length<=6):bh (mE l c).2/\(∀a∈(mE l c).1,fX a=true)/\(mE l c).1.length<=6:=by
 have hb:=bx (c:=c) (n:=2) (by omega)
 by_cases hn:(l.length:Int)<5+af c 2
 ·rw[G6 hn]
  refine Lm (ra (au hc 2)) (fun a ha=> ?_) (by simp only[ko,fK,fv];omega)
  rcases jC.1 ha with ha|ha
  ·exact h a ha
  ·rw[mI.1 ha];exact yU _
 ·rw[Ln hn];exact⟨au hc 2,h,hl⟩
termination_by 6-l.length
decreasing_by
 simp only[ko,fK,fv];omega
def um(c:ai):cr:=pt (bP c 3) (aa c 3)
def paC(c:ai):ai:=jx (aa c 3)
def paK(c:ai):Int:=af (paC c) 10
def FN(c:ai):ai:=aa (paC c) 10
def paA(c:ai):cI:=⟨af (FN c) 5,cx (aa (FN c) 5) Q8,dE⟩
def qq(c:ai):cr:=if paK c=0 then⟨cx (FN c) tZ,(um c).az,(um c).Not⟩ else if paK c=1 then⟨(um c).Kind,(um c).az++[paA c],(um c).Not⟩ else if paK c=2 then⟨(um c).Kind,(mE (um c).az (FN c)).1,(um c).Not⟩ else um c
def qN(c:ai):ai:=if paK c=0 then bT (FN c) tZ else if paK c=1 then bT (aa (FN c) 5) Q8 else if paK c=2 then(mE (um c).az (FN c)).2 else FN c
theorem wW{p:cr}(h:fL p=true):p.az.length<=5/\∀a∈p.az,fX a=true:=by
 simp only[fL,cJ,decide_eq_true_eq,sC] at h
 exact⟨h.1.2,h.2⟩
theorem ID{c:ai}(h:bh c):bh (FN c):=au (qc (au h 3)) 10
theorem Ll{c:ai}(h:bh c):bh (mE (um c).az (FN c)).2/\(∀a∈(mE (um c).az (FN c)).1,fX a=true)/\(mE (um c).az (FN c)).1.length<=6:=by
 have hp:=wW (xT (bP c 3) (aa c 3))
 exact Lm (ID h) hp.2 (by have:=hp.1;simp only[um];omega)
theorem Th{c:ai}(h:bh c):bh (qN c):=by
 have he:=ID h
 unfold qN
 split
 ·exact dw he _
 ·split
  ·exact dw (au he 5) _
  ·split
   ·exact(Ll h).1
   ·exact he
theorem Tu{l:List cI}{B:Nat}(h:∀a∈l,fh a<=B):uF l<=l.length*(B+1):=by
 have:=wN fh B l h
 simp only[uF,Nat.mul_add];omega
theorem II(c:ai):(cx c tZ).size<=1:=by
 have:=er c (l:=tZ) (fun s=>decide (s.size<=1)) (by decide) (by rfl)
 simpa using this
theorem Ww(c:ai):(cx c Q8).size<=1:=by
 have:=er c (l:=Q8) (fun s=>decide (s.size<=1)) (by decide) (by rfl)
 simpa using this
theorem Wv(c:ai):(cx c UN).size<=1:=by
 have:=er c (l:=UN) (fun s=>decide (s.size<=1)) (by decide) (by rfl)
 simpa using this
theorem Wu(c:ai):(cx c O_).size<=1:=by
 have:=er c (l:=O_) (fun s=>decide (s.size<=1)) (by decide) (by rfl)
 simpa using this
theorem Pt{c:ai}(h:bh c):ka (qq c)<=600:=by
 have hp:=xT (bP c 3) (aa c 3)
 obtain⟨h1,h2⟩:=wW hp
 have h3:(um c).Kind.size<=12:=by simp only[fL,cJ] at hp;exact KV hp.1.1
 have hb:∀a∈(um c).az,fh a<=40:=fun a ha=>Nv (h2 a ha)
 have h4:=Tu hb
 have h1:(um c).az.length<=5:=h1
 unfold qq
 repeat' split
 ·have:=II (FN c);simp only[ka];omega
 ·have:=Ww (aa (FN c) 5)
  have hA:fh (paA c)<=40:=by simp only[paA,fh];have:nX dE=0:=rfl;omega
  have:=Tu (l:=(um c).az++[paA c]) (B:=40) (fun a ha=>by
   rcases jC.1 ha with ha|ha
   ·exact hb a ha
   ·rw[mI.1 ha];exact hA)
  simp only[ko,fK,fv] at this
  simp only[ka];omega
 ·obtain⟨g1,g2,g3⟩:=Ll h
  have:=Tu (B:=40) (fun a ha=>Nv (g2 a ha))
  simp only[ka];omega
 ·simp only[ka];omega
def Mo(c:ai):dy:=yM c
def coK(c:ai):Int:=af (rG c) 8
def J8(c:ai):ai:=aa (rG c) 8
def dt(c:ai):dy:=if coK c=0 then⟨af (J8 c) 6,(Mo c).L,(Mo c).R⟩ else if coK c=1 then⟨(Mo c).Op,ij (J8 c),(Mo c).R⟩ else if coK c=2 then⟨(Mo c).Op,(Mo c).L,⟨af (J8 c) 5,ao,dE⟩⟩ else Mo c
def io(c:ai):ai:=if coK c=0 then aa (J8 c) 6 else if coK c=1 then gV (J8 c) else if coK c=2 then aa (J8 c) 5 else J8 c
theorem OA{c:ai}(h:bh c):bh (J8 c):=au (Au h) 8
theorem Qo{c:ai}(h:bh c):bh (io c):=by
 have he:=OA h
 unfold io
 repeat' split
 all_goals first
  |exact au he _
  |exact ra he
  |exact he
theorem M5(c:ai):oj (dt c)<=120:=by
 have h1:fh (Mo c).L<=40:=uy (oh _)
 have h2:fh (Mo c).R<=40:=uy (oh _)
 have h3:fh (ij (J8 c))<=40:=Nv (yU _)
 have h4:fh (⟨af (J8 c) 5,ao,dE⟩:cI)=0:=rfl
 unfold dt
 repeat' split
 all_goals (simp only[oj];omega)
def pd(c:ai):ew:=xj 2 c
def Ux(c:ai):Int:=af (qg 2 c) 10
def Fq(c:ai):ai:=aa (qg 2 c) 10
def Qz(c:ai):ai:=bT (Fq c) UN
def acX(c:ai):ct:=⟨cx (Fq c) UN,ij (Qz c),ij (gV (Qz c))⟩
def pc(c:ai):ew:=if Ux c=0 then⟨af (Fq c) 8,(pd c).Name,(pd c).az,(pd c).N,(pd c).aR⟩ else if Ux c=1 then⟨(pd c).Kind,cx (Fq c) tZ,(pd c).az,(pd c).N,(pd c).aR⟩
 else if Ux c=2 then⟨(pd c).Kind,(pd c).Name,(pd c).az,gU (Fq c) VN,(pd c).aR⟩ else if Ux c=3 then⟨(pd c).Kind,(pd c).Name,(pd c).az,(pd c).N,cx (Fq c) tZ⟩
 else if Ux c=4 then⟨(pd c).Kind,(pd c).Name,(pd c).az++[acX c],(pd c).N,(pd c).aR⟩ else pd c
def nC(c:ai):ai:=if Ux c=0 then aa (Fq c) 8 else if Ux c=1 then bT (Fq c) tZ else if Ux c=2 then ku (Fq c) VN else if Ux c=3 then bT (Fq c) tZ else if Ux c=4 then gV (gV (Qz c)) else Fq c
theorem OB{c:ai}(h:bh c):bh (Fq c):=au (yP 2 h) 10
theorem Tl{c:ai}(h:bh c):bh (nC c):=by
 have he:=OB h
 unfold nC
 repeat' split
 all_goals first
  |exact au he _
  |exact dw he _
  |exact iG he _
  |exact ra (ra (dw he _))
  |exact he
theorem Nk(c:ai):iC (fI c)<=81:=by
 have h1:fh (eg c)<=40:=uy (oh _)
 have h2:∀d,fh (eg d)<=40:=fun d=>uy (oh d)
 have h3:∀d,(cx d D8).size<=1:=fun d=>by
  have:=er d (l:=D8) (fun s=>decide (s.size<=1)) (by decide) (by rfl)
  simpa using this
 unfold fI
 split
 ·have:=h2 (bT (aa (cY c) 4) D8)
  have:=h3 (aa (cY c) 4)
  simp only[iC];omega
 ·have:fh mJ=0:=rfl
  have:ao.size=0:=rfl
  simp only[iC];omega
theorem Nj{l:List ct}{B:Nat}(h:∀a∈l,iC a<=B):kB l<=l.length*(B+1):=by
 have:=wN iC B l h
 simp only[kB,Nat.mul_add];omega
theorem LZ(c:ai):gY (pd c)<=200/\(pd c).Name.size<=6/\(pd c).aR.size<=6/\(∀a∈(pd c).az,iC a<=81)/\(pd c).az.length<=2:=by
 have h1:(il c).size<=6:=by
  have:=er (ku c pT) (l:=HK) (fun s=>decide (s.size<=6)) (by decide) (by rfl)
  exact yT this
 have h2:(ui c).size<=6:=by
  unfold ui
  split
  ·have:=er (aa (oH c) 2) (l:=qK) (fun s=>decide (s.size<=6)) (by decide) (by rfl)
   simpa using this
  ·exact Nat.zero_le _
 have h3:∀a∈na c,iC a<=81:=nJ (fun a=>iC a<=81) Nk _ _ _ (by simp)
 have h4:=Ay c
 have h5:=Nj h3
 have h6:kB []=0:=rfl
 have h7:ao.size=0:=rfl
 unfold pd xj
 split
 ·exact⟨by simp only[gY];omega,by rw[h7];omega,by rw[h7];omega,by simp,by simp⟩
 ·split
  ·exact⟨by simp only[gY];omega,by rw[h7];omega,by rw[h7];omega,by simp,by simp⟩
  ·exact⟨by simp only[gY];omega,h1,h2,h3,h4⟩
theorem Qy(c:ai):gY (pc c)<=400:=by
 obtain⟨h1,h2,h3,h4,h5⟩:=LZ c
 have hs:=Nj h4
 have e1:=II (Fq c)
 unfold pc
 split
 ·simp only[gY];omega
 ·split
  ·simp only[gY];omega
  ·split
   ·simp only[gY];omega
   ·split
    ·simp only[gY];omega
    ·split
     ·have hx:iC (acX c)<=81:=by
       have g1:fh (ij (Qz c))<=40:=Nv (yU _)
       have g2:fh (ij (gV (Qz c)))<=40:=Nv (yU _)
       have g3:=Wv (Fq c)
       simp only[acX,iC];omega
      have:=Nj (l:=(pd c).az++[acX c]) (B:=81) (fun a ha=>by
       rcases jC.1 ha with ha|ha
       ·exact h4 a ha
       ·rw[mI.1 ha];exact hx)
      simp only[ko,fK,fv] at this
      simp only[gY];omega
     ·omega
def mX(r:bf)(c:ai):bf:=
 if af c 10=0 then⟨cx (aa c 10) tZ,r.je,r.aH,r.aU,r.bI⟩ else if af c 10=1 then⟨r.Name,gU (aa c 10) VM,r.aH,r.aU,r.bI⟩
 else if af c 10=2 then⟨r.Name,r.je,r.aH++[qq (aa c 10)],r.aU,r.bI⟩ else if af c 10=3 then⟨r.Name,r.je,r.aH,r.aU++[dt (aa c 10)],r.bI⟩
 else if af c 10=4 then⟨r.Name,r.je,r.aH,r.aU,r.bI++[pc (aa c 10)]⟩ else if af c 10=5 then⟨r.Name,r.je,r.aH.modify 0 (fun p=>⟨p.Kind,p.az,true⟩),r.aU,r.bI⟩
 else if af c 10=6 then⟨r.Name,r.je,r.aH,r.aU,[]⟩ else r
def gh(c:ai):ai:=
 if af c 10=0 then bT (aa c 10) tZ else if af c 10=1 then ku (aa c 10) VM else if af c 10=2 then qN (aa c 10) else if af c 10=3 then io (aa c 10)
 else if af c 10=4 then nC (aa c 10) else aa c 10
theorem Hp{c:ai}(h:bh c):bh (gh c):=by
 have he:=au h 10
 unfold gh
 split
 ·exact dw he _
 ·split
  ·exact iG he _
  ·split
   ·exact Th he
   ·split
    ·exact Qo he
    ·split
     ·exact Tl he
     ·exact he
theorem rM{α:Type}(f:α->Nat)(l:List α)(a:α):(l++[a]).length+((l++[a]).map f).sum=(l.length+(l.map f).sum)+(1+f a):=by
 simp only[ko,J9,Zc,fK,fv,wh,List.map_nil,Mr,List.sum_nil];omega
theorem Fh{r:bf}{c:ai}(h:bh c):dM (mX r c)<=dM r+700:=by
 have he:=au h 10
 unfold mX
 split
 ·have:=II (aa c 10);simp only[dM];omega
 ·split
  ·simp only[dM];omega
  ·split
   ·have h1:=Pt he
    have h2:kq (r.aH++[qq (aa c 10)])=kq r.aH+(1+ka (qq (aa c 10))):=rM ka _ _
    simp only[dM];omega
   ·split
    ·have h1:=M5 (aa c 10)
     have h2:vr (r.aU++[dt (aa c 10)])=vr r.aU+(1+oj (dt (aa c 10))):=rM oj _ _
     simp only[dM];omega
    ·split
     ·have h1:=Qy (aa c 10)
      have h2:rP (r.bI++[pc (aa c 10)])=rP r.bI+(1+gY (pc (aa c 10))):=rM gY _ _
      simp only[dM];omega
     ·split
      ·have h2:kq (r.aH.modify 0 (fun p=>⟨p.Kind,p.az,true⟩))=kq r.aH:=by
        simp only[kq,Gm]
        rw[oZ ka (fun p=>⟨p.Kind,p.az,true⟩) (fun x=>rfl)]
       simp only[dM];omega
      ·split
       ·have h2:rP []=0:=rfl
        simp only[dM];omega
       ·omega
def lE(c:ai):bf:=if bP (nG (bT c oV)) 3=true then mX (mB (cx c oV) (bT c oV)) (aa (nG (bT c oV)) 3) else mB (cx c oV) (bT c oV)
def oW(c:ai):ai:=if bP (nG (bT c oV)) 3=true then gh (aa (nG (bT c oV)) 3) else aa (nG (bT c oV)) 3
theorem Qn{c:ai}(h:bh c):bh (oW c):=by
 have he:=au (yN (dw h oV)) 3
 unfold oW
 split
 ·exact Hp he
 ·exact he
theorem Kt(c:ai):fO (mB (cx c oV) (bT c oV))=true:=Ks (by
 have:=er c (l:=oV) (fun s=>bu s) (by decide) (by rfl)
 exact this) _
theorem MA{c:ai}(h:bh c):dM (lE c)<=5700:=by
 have he:=au (yN (dw h oV)) 3
 have h1:=Q9 (Kt c)
 unfold lE
 split
 ·have:=Fh (r:=mB (cx c oV) (bT c oV)) he;omega
 ·omega
def deK(c:ai):Int:=af (jq c) 10
def Hj(c:ai):ai:=aa (jq c) 10
def qy(c:ai):br:=if deK c=0 then⟨cx (Hj c) O_,(cD c).aA⟩ else if deK c=1 then⟨(cD c).Name,(cD c).aA++[lE (Hj c)]⟩ else if deK c=2 then⟨(cD c).Name,(cD c).aA.set 0 (mX ((cD c).aA.getD 0 cq) (Hj c))⟩ else if deK c=3 then⟨(cD c).Name,[]⟩ else cD c
def jz(c:ai):ai:=if deK c=0 then bT (Hj c) O_ else if deK c=1 then oW (Hj c) else if deK c=2 then gh (Hj c) else Hj c
theorem IE{c:ai}(h:bh c):bh (Hj c):=au (yO h) 10
theorem Ti{c:ai}(h:bh c):bh (jz c):=by
 have he:=IE h
 unfold jz
 split
 ·exact dw he _
 ·split
  ·exact Qn he
  ·split
   ·exact Hp he
   ·exact he
theorem E5(c:ai):1<=(cD c).aA.length/\(cD c).aA.length<=12/\∀r∈(cD c).aA,fO r=true:=by
 have h:=yD c
 simp only[fJ,cJ,decide_eq_true_eq] at h
 refine⟨h.1.2.1,h.1.2.2,fun r hr=> ?_⟩
 obtain⟨i,hi,rfl⟩:=sG hr
 have:=fY.1 h.2 i hi
 simp only[jr,cJ] at this
 rw[ez,fw hi] at this
 exact this.1
theorem O7{α:Type}(f:α->Nat)(l:List α)(a:α):((l.set 0 a).map f).sum<=(l.map f).sum+f a:=by
 cases l with
 |nil=>simp
 |cons x l=>simp only[List.set_cons_zero,wh,Mr];omega
theorem Qg{c:ai}(h:bh c):cB (qy c)<=70000:=by
 have he:=IE h
 have h0:=(E6 c).2.2
 unfold qy
 split
 ·have:=Wu (Hj c);simp only[cB] at h0⊢;omega
 ·split
  ·have h1:=MA he
   have h2:jV ((cD c).aA++[lE (Hj c)])=jV (cD c).aA+(1+dM (lE (Hj c))):=rM dM _ _
   simp only[cB] at h0⊢;omega
  ·split
   ·have hr:=E5 c
    have h1:=Fh (r:=(cD c).aA.getD 0 cq) he
    have h3:=Q9 (hr.2.2 _ (gJ (z:=cq) (show 0<(cD c).aA.length by omega)))
    have h2:=O7 dM (cD c).aA (mX ((cD c).aA.getD 0 cq) (Hj c))
    simp only[cB,jV,Me] at h0⊢;omega
   ·split
    ·have h2:jV []=0:=rfl
     simp only[cB] at h0⊢;omega
    ·omega
def LR:BA:=⟨#[102,117,108,108]⟩
def nu(n:Int):aK:=⟨LR,[⟨1,n,ao⟩]⟩
def tW:Nat->aF->aF
 |0,s=>s
 |k+1,s=>tW k (cp s (nu s.ab.length))
def sS(s:aF):Prop:=∀x∈s.ab,∀n:Int,x.F=nu n->n<s.ab.length
theorem Qa{s:aF}(h:sS s):ib s.ab (nu s.ab.length)=0:=by
 rcases ig s.ab.length (fun k=>decide ((s.ab.getD k a_).F=nu s.ab.length)) with⟨g,_⟩|⟨m,g1,g2,g3,_⟩
 ·exact if_pos g
 ·have:=h _ (gJ (z:=a_) g1) _ (yT g3);omega
theorem uX{s:aF}(h:sS s):cp s (nu s.ab.length)=⟨s.ab++[⟨s.Next,nu s.ab.length⟩],s.Next+1⟩:=by
 unfold cp;rw[Qa h,if_neg (by omega)]
theorem Et{s:aF}(h:sS s):sS (cp s (nu s.ab.length)):=by
 rw[uX h]
 intro x hx n hn
 simp only[ko,fK,fv]
 rcases jC.1 hx with hx|hx
 ·have:=h x hx n hn;omega
 ·rw[mI.1 hx] at hn
  simp only[nu,aK.mk.injEq,zdd,aS.mk.injEq] at hn
  omega
theorem uD:∀(k:Nat)(s:aF)(c:ai),(∀x∈s.ab,x.F.Kind≠LR)->∀x∈(ld k s c).ab,x.F.Kind≠LR
 |0,_,_,h=>h
 |k+1,s,c,h=>by
  rw[ld];split
  ·exact uD k _ _ fun x hx=>h x (zA.1 hx).1
  ·refine uD k _ _ ?_
   unfold cp;split
   ·exact h
   ·intro x hx
    rcases jC.1 hx with hx|hx
    ·exact h x hx
    ·rw[mI.1 hx]
     have:=er (aa c 5) (l:=cS) (fun s=>decide (s≠LR)) (by decide) (by decide)
     exact yT this
theorem wx(c:ai):sS (c_ c):=by
 intro x hx n hn
 exact absurd (congrArg aK.Kind hn) (uD _ ⟨[],1⟩ _ (by simp) x hx)
def stK(c:ai):Int:=af (kA c) 12
def Kn(c:ai):ai:=aa (kA c) 12
noncomputable def lf(c:ai):aF:=if stK c=0 then⟨(c_ c).ab,gU (Kn c) R_⟩ else if stK c=1 then⟨(c_ c).ab++[⟨af (Kn c) 9,pb (aa (Kn c) 9)⟩],(c_ c).Next⟩ else if stK c=2 then tW (40-(c_ c).ab.length) (c_ c) else c_ c
noncomputable def j_(c:ai):ai:=if stK c=0 then ku (Kn c) R_ else if stK c=1 then kg (aa (Kn c) 9) else Kn c
theorem Ot{c:ai}(h:bh c):bh (Kn c):=au (E_ h) 12
theorem Ns{c:ai}(h:bh c):bh (j_ c):=by
 have he:=Ot h
 unfold j_
 split
 ·exact iG he _
 ·split
  ·exact Fe (au he 9)
  ·exact he
def Kr(s:aF):Prop:=∀x∈s.ab,db x.F<=145
theorem AW{s:aF}{f:aK}(h:Kr s)(hf:db f<=145):Kr (cp s f):=by
 unfold cp;split
 ·exact h
 ·intro x hx
  rcases jC.1 hx with hx|hx
  ·exact h x hx
  ·rw[mI.1 hx];exact hf
end
end AM
