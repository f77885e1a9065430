import Derived.Test.YtknfcngfhlpaeaaGreatDoorQAmLib
import Derived.Test.YtknfcngfhlpaeaaGreatDoorQFStopped2
import Derived.Lib.ItoaLen
import Derived.Lib.Join
import Derived.Test.YtknfcngfhlpaeaaGreatDoorQShelf
namespace AM
open Go Go.Proofs.Tryz Go.IntKind
set_option linter.unusedVariables false
set_option linter.unusedSimpArgs false
set_option maxRecDepth 100000
noncomputable section
def eG(c:aA)(l:List BA):aA:=ag c l.length
def j0(c:aA)(l:List Int):Int:=l.getD (aJ c l.length).toNat 0
def rb(c:aA)(l:List Int):aA:=ag c l.length
theorem j_{c:aA}(h:df c)(l:List BA):df (eG c l):=bo h _
theorem nW{c:aA}(h:df c)(l:List Int):df (rb c l):=bo h _
theorem NL(c:aA){l:List BA}(h:0<l.length):fO c l∈l:=by
 have hb:=en (c:=c) (n:=l.length) (by omega)
 have hi:(aJ c l.length).toNat<l.length:=by omega
 rw[fO,dB,eW hi]
 exact DU hi
theorem OX(c:aA){l:List Int}(h:0<l.length):j0 c l∈l:=by
 have hb:=en (c:=c) (n:=l.length) (by omega)
 have hi:(aJ c l.length).toNat<l.length:=by omega
 rw[j0,dB,eW hi]
 exact DU hi
theorem ly(c:aA){l:List BA}(p:BA->Bool)(h0:0<l.length)(h:l.all p=true):p (fO c l)=true:=sh.1 h _ (NL c h0)
theorem qj(c:aA){l:List Int}(p:Int->Bool)(h0:0<l.length)(h:l.all p=true):p (j0 c l)=true:=sh.1 h _ (OX c h0)
def FE:List BA:=[⟨#[97]⟩,⟨#[98]⟩]
def dM(c:aA):aU:=if cD c 2 then⟨1,1+aJ (ag c 2) 3,ah⟩ else⟨2,0,fO (ag c 2) FE⟩
def gL(c:aA):aA:=if cD c 2 then ag (ag c 2) 3 else eG (ag c 2) FE
theorem lq{c:aA}(h:df c):df (gL c):=by
 unfold gL;split
 ·exact bo (bo h _) _
 ·exact j_ (bo h _) _
def cL:List BA:=[⟨#[111,114,100,101,114]⟩,⟨#[112,97,105,100]⟩,⟨#[105,116,101,109]⟩,⟨#[111,114,100,101,114]⟩]
def Dx:BA:=⟨#[105,116,101,109]⟩
def qK:Nat->List aU->aA->List aU
 |0,l,_=>l
 |k+1,l,c=>qK k (l++[dM c]) (gL c)
def Ac:Nat->aA->aA
 |0,c=>c
 |k+1,c=>Ac k (gL c)
theorem Dr:∀{k:Nat}{c:aA},df c->df (Ac k c)
 |0,_,h=>h
 |k+1,_,h=>Dr (k:=k) (lq h)
def fh(c:aA):Int:=if cD (eG c cL) 12 then aJ (ag (eG c cL) 12) 6 else if fO c cL=Dx then 2 else 1
def xb(c:aA):aA:=if cD (eG c cL) 12 then ag (ag (eG c cL) 12) 6 else ag (eG c cL) 12
def jo(c:aA):aO:=⟨fO c cL,qK (fh c).toNat [] (xb c)⟩
def nQ(c:aA):aA:=Ac (fh c).toNat (xb c)
theorem Fh{c:aA}(h:df c):df (xb c):=by
 have:=bo (j_ h cL) 12
 unfold xb;split
 ·exact bo this _
 ·exact this
theorem P5{c:aA}(h:df c):df (nQ c):=Dr (Fh h)
theorem zg:∀(k:Nat)(l:List aU)(c:aA),(qK k l c).length=l.length+k
 |0,_,_=>rfl
 |k+1,l,c=>by rw[qK,zg k];simp only[na,ir,ig];omega
theorem M6(c:aA):(jo c).af.length=(fh c).toNat:=by
 show(qK _ _ _).length=_
 rw[zg];simp
theorem IP(c:aA):0<=fh c/\fh c<=5:=by
 have:=en (c:=ag (eG c cL) 12) (n:=6) (by omega)
 unfold fh
 split
 ·omega
 ·split<;>omega
def alf:=cf (α:=aA×Int) (qC qU (q1 qI)) [.box false,.ro] (fun(c,n)=>[df c]) (fun(c,n)=>⟨[dO (cD c n)],[],[dU (ag c n)]⟩)
def Jp:HH:=hF alf func40 [zZ] a0 fun x hp hb=>by
 obtain⟨c,n⟩:=x
 have bJ:df c:=hp _ m0
 clear hp hb
 apply vE (0<=c.i/\L4 c.b.length/\LM [VB (aJ c n==0)] [VB (cD c n)] [bU (ag c n)] [bU (ag c n)])
 exact⟨bJ.1,bJ.2,rfl,rfl,rfl⟩
def akV:=cf (α:=aA×(List BA)) (qC qU (q1 (qL .str))) [.box false,.ro] (fun(c,list)=>[df c,1<=list.length]) (fun(c,list)=>⟨[dS (fO c list)],[],[dU (eG c list)]⟩)
def Jo:HH:=hF akV func77 [zZ] a0 fun x hp hb=>by
 obtain⟨c,list⟩:=x
 have yE:=YP (x:=c) (hb _ m0)
 have Sq:L9 list.length:=kc (hb _ m1)
 have bJ:df c:=hp _ m0
 have eh:1<=list.length:=hp _ m1
 clear hp hb
 apply vE (let x0:=ag c (list.length:Int);let q0:=(list.length:Int);0<=c.i/\L4 c.b.length/\0<=aJ c q0/\Int.toNat (aJ c q0)<list.length/\LM [VS (list.getD (Int.toNat (aJ c q0)) ah)] [VS (fO c list)] [bU x0] [bU (eG c list)])
 dsimp only
 have hb:=en (c:=c) (n:=list.length) (by omega)
 exact⟨bJ.1,bJ.2,hb.1,by omega,rfl,rfl,rfl⟩
def akN:=cf (α:=aA) (q1 qU) [.box false] (fun c=>[df c]) (fun c=>⟨[dA .bf (dM c)],[],[dU (gL c)]⟩)
def S9:HH:=hF akN func89 [Jp,zZ,Jo] a0 fun(c:aA) hp hb=>by
 have bJ:df c:=hp _ m0
 clear hp hb
 apply vE (let x1:=[{data:= #[97]:BA},{data:= #[98]:BA}];let x2:=ag (ag c 2) 3;let x0:=eG (ag c 2) x1;let q0:=ag c 2;df c/\bif cD c 2 then 0<=q0.i/\L4 q0.b.length/\LM [DV.agg [CI 1,CI (wrap i64 (1+aJ q0 3)),CS ({data:= #[]:BA})]] [DV.agg [CI ((dM c).K),CI ((dM c).N),CS ((dM c).S)]] [bU x2] [bU (gL c)] else df q0/\1<=x1.length/\LM [DV.agg [CI 2,CI 0,CS (fO q0 x1)]] [DV.agg [CI ((dM c).K),CI ((dM c).N),CS ((dM c).S)]] [bU x0] [bU (gL c)])
 dsimp only
 refine⟨bJ,ab (fun h=> ?_) (fun h=> ?_)⟩
 ·have hb:=en (c:=ag c 2) (n:=3) (by omega)
  have h2:=bo bJ 2
  rw[wi]
  rw[dM,gL,if_pos h,if_pos h];exact⟨h2.1,h2.2,rfl,rfl,rfl⟩
 ·have h2:=bo bJ 2
  rw[dM,gL,if_neg (by simp[h]),if_neg (by simp[h])];exact⟨h2,by simp,rfl,rfl,rfl⟩
def acQ:=cf (α:=aA) (q1 qU) [.box false] (fun c=>[df c]) (fun c=>⟨[dA .cU (jo c)],[],[dU (nQ c)]⟩)
def lZ(c:aA):Int×T6×T6×T5×Unit->Prop:=fun(i,r,f,cu,_)=>0<=i/\i<=fh c/\f.1=fO c cL/\df ⟨cu.1,cu.2.1,cu.2.2.1⟩/\f.2.1.length<=i/\qK (fh c-i).toNat f.2.1 ⟨cu.1,cu.2.1,cu.2.2.1⟩=(jo c).af/\Ac (fh c-i).toNat ⟨cu.1,cu.2.1,cu.2.2.1⟩=nQ c
def mO(c:aA):Int×T6×T6×T5×Unit->Nat:=fun(i,r,f,cu,_)=>(fh c-i).toNat
def amt:AX acQ:=fun c=>b_ [(8,aY [iI 5,.box 2 (2,1024) [.lit .str,.own .bf true],.box 3 (3,1024) [.lit .str,.own .bf true],.box 0 (2000000,0) [.shr .byte,.lit (.int .i64),.lit (.int .i64)]] (fun _=>lZ c) (mO c))]
def alL:HH:=hF acQ func82 [Jo,Jp,zZ,S9] amt fun(c:aA) hp hb=>by
 have bJ:df c:=hp _ m0
 clear hp hb
 apply vE (let x3:={data:= #[111,114,100,101,114]:BA};let x4:={data:= #[105,116,101,109]:BA};let x2:=[x3,{data:= #[112,97,105,100]:BA},x4,x3];let x1:=eG c x2;let x0:=ag x1 12;let q0:=BA×List aU×PUnit;let q1:=(0,({data:= #[]:BA},[],()),(fO c x2,[],()),((ag x0 6).b,(ag x0 6).i,(ag x0 6).h,()),());let q2:=(0,({data:= #[]:BA},[],()),(fO c x2,[],()),(x0.b,x0.i,x0.h,()),());let q3:=List Int×Int×Int×PUnit;let q4:=(jo c).Kind;df c/\1<=x2.length/\bif (fO c x2).toList==x4.toList then df x1/\bif cD x1 12 then 0<=x0.i/\L4 x0.b.length/\lZ c q1/\∀(y:Int×q0×q0×q3×PUnit),let x6:={b:=y.2.2.2.1.1,i:=y.2.2.2.1.2.1,h:=y.2.2.2.1.2.2.1:aA};let x5:=gL x6;let q5:=(wrap i64 (y.1+1),(y.2.1.1,y.2.1.2.1,()),(y.2.2.1.1,y.2.2.1.2.1++[dM x6],()),(x5.b,x5.i,x5.h,()),());lZ c y->bif decide (y.1<aJ x0 6) then df x6/\y.2.2.1.2.1.length+List.length [dM x6]<=4294967296/\lZ c q5/\mO c q5<mO c y else LM [DV.agg [CS y.2.2.1.1,CL .bf y.2.2.1.2.1]] [DV.agg [CS q4,CL .bf (jo c).af]] [DV.box [CL .byte y.2.2.2.1.1,CI y.2.2.2.1.2.1,CI y.2.2.2.1.2.2.1]] [bU (nQ c)] else lZ c q2/\∀(y:Int×q0×q0×q3×PUnit),let x6:={b:=y.2.2.2.1.1,i:=y.2.2.2.1.2.1,h:=y.2.2.2.1.2.2.1:aA};let x5:=gL x6;let q6:=(wrap i64 (y.1+1),(y.2.1.1,y.2.1.2.1,()),(y.2.2.1.1,y.2.2.1.2.1++[dM x6],()),(x5.b,x5.i,x5.h,()),());lZ c y->bif decide (y.1<2) then df x6/\y.2.2.1.2.1.length+List.length [dM x6]<=4294967296/\lZ c q6/\mO c q6<mO c y else LM [DV.agg [CS y.2.2.1.1,CL .bf y.2.2.1.2.1]] [DV.agg [CS q4,CL .bf (jo c).af]] [DV.box [CL .byte y.2.2.2.1.1,CI y.2.2.2.1.2.1,CI y.2.2.2.1.2.2.1]] [bU (nQ c)] else df x1/\bif cD x1 12 then 0<=x0.i/\L4 x0.b.length/\lZ c q1/\∀(y:Int×q0×q0×q3×PUnit),let x6:={b:=y.2.2.2.1.1,i:=y.2.2.2.1.2.1,h:=y.2.2.2.1.2.2.1:aA};let x5:=gL x6;let q7:=(wrap i64 (y.1+1),(y.2.1.1,y.2.1.2.1,()),(y.2.2.1.1,y.2.2.1.2.1++[dM x6],()),(x5.b,x5.i,x5.h,()),());lZ c y->bif decide (y.1<aJ x0 6) then df x6/\y.2.2.1.2.1.length+List.length [dM x6]<=4294967296/\lZ c q7/\mO c q7<mO c y else LM [DV.agg [CS y.2.2.1.1,CL .bf y.2.2.1.2.1]] [DV.agg [CS q4,CL .bf (jo c).af]] [DV.box [CL .byte y.2.2.2.1.1,CI y.2.2.2.1.2.1,CI y.2.2.2.1.2.2.1]] [bU (nQ c)] else lZ c q2/\∀(y:Int×q0×q0×q3×PUnit),let x6:={b:=y.2.2.2.1.1,i:=y.2.2.2.1.2.1,h:=y.2.2.2.1.2.2.1:aA};let x5:=gL x6;let q8:=(wrap i64 (y.1+1),(y.2.1.1,y.2.1.2.1,()),(y.2.2.1.1,y.2.2.1.2.1++[dM x6],()),(x5.b,x5.i,x5.h,()),());lZ c y->bif decide (y.1<1) then df x6/\y.2.2.1.2.1.length+List.length [dM x6]<=4294967296/\lZ c q8/\mO c q8<mO c y else LM [DV.agg [CS y.2.2.1.1,CL .bf y.2.2.1.2.1]] [DV.agg [CS q4,CL .bf (jo c).af]] [DV.box [CL .byte y.2.2.2.1.1,CI y.2.2.2.1.2.1,CI y.2.2.2.1.2.2.1]] [bU (nQ c)])
 dsimp only
 have hk:=j_ bJ cL
 have hd:=Fh bJ
 have hle:=IP c
 have fin:∀(n:Int)(d:aA),fh c=n->xb c=d->
   lZ c ((0:Int),(ah,[],PUnit.unit),(fO c cL,[],PUnit.unit),(d.b,d.i,d.h,PUnit.unit),PUnit.unit):=by
  rintro n d rfl rfl
  exact⟨by omega,by omega,rfl,hd,by simp,by simp only[Int.sub_zero];rfl,by simp only[Int.sub_zero];rfl⟩
 refine⟨bJ,by simp,?_⟩
 refine ab (fun h=>⟨hk,ab (fun h'=>⟨(bo hk 12).1,(bo hk 12).2,?_⟩) (fun h'=> ?_)⟩) (fun h=>⟨hk,ab (fun h'=>⟨(bo hk 12).1,(bo hk 12).2,?_⟩) (fun h'=> ?_)⟩)
 ·have hN:fh c=aJ (ag (eG c cL) 12) 6:=if_pos h'
  have hD:xb c=ag (ag (eG c cL) 12) 6:=if_pos h'
  refine⟨fin _ _ hN hD,?_⟩
  have hN':aJ (ag (eG c cL) 12) 6=fh c:=hN.symm
  rintro⟨i,r,⟨fk,fl,⟨⟩⟩,⟨cb,ci,ch,⟨⟩⟩,⟨⟩⟩ ⟨g1,g2,g3,g4,g5,g6,g7⟩
  simp only at g1 g2 g3 g4 g5 g6 g7⊢
  refine ab ?_ ?_<;>intro hc
  ·have hc:i<fh c:=by rw[hN];exact yT hc
   have e:(fh c-i).toNat=(fh c-(i+1)).toNat+1:=by omega
   rw[e] at g6 g7
   rw[wi]
   exact⟨g4,by simp only[ir,ig];omega,⟨by omega,by omega,g3,lq g4,by simp only[na,ir,ig];omega,g6,g7⟩,by simp only[mO];omega⟩
  ·have hc:¬i<fh c:=by rw[hN];exact yF hc
   have e:(fh c-i).toNat=0:=by omega
   rw[e] at g6 g7
   have g6:fl=(jo c).af:=g6
   have g7:(⟨cb,ci,ch⟩:aA)=nQ c:=g7
   have g3:fk=(jo c).Kind:=g3
   rw[<-g7,<-g6,<-g3]
   exact⟨by trivial,rfl,rfl⟩
 ·have h:fO c cL=Dx:=by rw[aQ] at h;exact yT h
  have hN:fh c=2:=by rw[fh,if_neg (by rw[show cD (eG c cL) 12=false from h'];simp),if_pos h]
  have hD:xb c=ag (eG c cL) 12:=if_neg (by rw[show cD (eG c cL) 12=false from h'];simp)
  refine⟨fin _ _ hN hD,?_⟩
  rintro⟨i,r,⟨fk,fl,⟨⟩⟩,⟨cb,ci,ch,⟨⟩⟩,⟨⟩⟩ ⟨g1,g2,g3,g4,g5,g6,g7⟩
  simp only at g1 g2 g3 g4 g5 g6 g7⊢
  refine ab ?_ ?_<;>intro hc
  ·have hc:i<fh c:=by rw[hN];exact yT hc
   have e:(fh c-i).toNat=(fh c-(i+1)).toNat+1:=by omega
   rw[e] at g6 g7
   rw[wi]
   exact⟨g4,by simp only[ir,ig];omega,⟨by omega,by omega,g3,lq g4,by simp only[na,ir,ig];omega,g6,g7⟩,by simp only[mO];omega⟩
  ·have hc:¬i<fh c:=by rw[hN];exact yF hc
   have e:(fh c-i).toNat=0:=by omega
   rw[e] at g6 g7
   have g6:fl=(jo c).af:=g6
   have g7:(⟨cb,ci,ch⟩:aA)=nQ c:=g7
   have g3:fk=(jo c).Kind:=g3
   rw[<-g7,<-g6,<-g3]
   exact⟨by trivial,rfl,rfl⟩
 ·have hN:fh c=aJ (ag (eG c cL) 12) 6:=if_pos h'
  have hD:xb c=ag (ag (eG c cL) 12) 6:=if_pos h'
  refine⟨fin _ _ hN hD,?_⟩
  have hN':aJ (ag (eG c cL) 12) 6=fh c:=hN.symm
  rintro⟨i,r,⟨fk,fl,⟨⟩⟩,⟨cb,ci,ch,⟨⟩⟩,⟨⟩⟩ ⟨g1,g2,g3,g4,g5,g6,g7⟩
  simp only at g1 g2 g3 g4 g5 g6 g7⊢
  refine ab ?_ ?_<;>intro hc
  ·have hc:i<fh c:=by rw[hN];exact yT hc
   have e:(fh c-i).toNat=(fh c-(i+1)).toNat+1:=by omega
   rw[e] at g6 g7
   rw[wi]
   exact⟨g4,by simp only[ir,ig];omega,⟨by omega,by omega,g3,lq g4,by simp only[na,ir,ig];omega,g6,g7⟩,by simp only[mO];omega⟩
  ·have hc:¬i<fh c:=by rw[hN];exact yF hc
   have e:(fh c-i).toNat=0:=by omega
   rw[e] at g6 g7
   have g6:fl=(jo c).af:=g6
   have g7:(⟨cb,ci,ch⟩:aA)=nQ c:=g7
   have g3:fk=(jo c).Kind:=g3
   rw[<-g7,<-g6,<-g3]
   exact⟨by trivial,rfl,rfl⟩
 ·have h:¬fO c cL=Dx:=by rw[aQ] at h;exact yF h
  have hN:fh c=1:=by rw[fh,if_neg (by rw[show cD (eG c cL) 12=false from h'];simp),if_neg h]
  have hD:xb c=ag (eG c cL) 12:=if_neg (by rw[show cD (eG c cL) 12=false from h'];simp)
  refine⟨fin _ _ hN hD,?_⟩
  rintro⟨i,r,⟨fk,fl,⟨⟩⟩,⟨cb,ci,ch,⟨⟩⟩,⟨⟩⟩ ⟨g1,g2,g3,g4,g5,g6,g7⟩
  simp only at g1 g2 g3 g4 g5 g6 g7⊢
  refine ab ?_ ?_<;>intro hc
  ·have hc:i<fh c:=by rw[hN];exact yT hc
   have e:(fh c-i).toNat=(fh c-(i+1)).toNat+1:=by omega
   rw[e] at g6 g7
   rw[wi]
   exact⟨g4,by simp only[ir,ig];omega,⟨by omega,by omega,g3,lq g4,by simp only[na,ir,ig];omega,g6,g7⟩,by simp only[mO];omega⟩
  ·have hc:¬i<fh c:=by rw[hN];exact yF hc
   have e:(fh c-i).toNat=0:=by omega
   rw[e] at g6 g7
   have g6:fl=(jo c).af:=g6
   have g7:(⟨cb,ci,ch⟩:aA)=nQ c:=g7
   have g3:fk=(jo c).Kind:=g3
   rw[<-g7,<-g6,<-g3]
   exact⟨by trivial,rfl,rfl⟩
def Zk4:=cf (α:=List Int) (q1 (qL .byte)) [.ro] (fun _=>[]) (fun code=>⟨[dO (decide (code.length>1048576))],[],[]⟩)
def Zh4:HH:=hF Zk4 func4 [] a0 fun(code:List Int) hp hb=>by
 clear hp hb
 apply vE (Lb (decide ((code.length:Int)>1048576)) (decide (code.length>1048576)))
 exact cg (decide_eq_decide.2 (by omega))
theorem p_(c:aA):bp (dM c)=true:=by
 unfold dM;split
 ·have:=en (c:=ag c 2) (n:=3) (by omega)
  simp only[bp,decide_true,cond_true,Aa]
  simp only[decide_eq_true_eq];omega
 ·have h:=ly (ag c 2) (l:=FE) (fun s=>decide (s.size<=20)&&nM s) (by decide) (by rfl)
  simp only[bp]
  simpa using h
theorem zh{p:aU->Bool}(hp:∀c,p (dM c)=true):∀(k:Nat)(l:List aU)(c:aA),l.all p=true->(qK k l c).all p=true
 |0,_,_,h=>h
 |k+1,l,c,h=>zh hp k _ _ (by rw[List.all_append,h];simp[hp])
theorem IN(c:aA):bw (jo c)=true:=by
 have h1:=M6 c
 have h2:=IP c
 have h3:bq (jo c).Kind=true:=ly c (l:=cL) bq (by decide) (by rfl)
 have h4:(jo c).af.all bp=true:=zh p_ _ _ _ rfl
 simp only[bw,h3,h4,Aa,vh,decide_eq_true_eq]
 omega
theorem K4(now:Int)(t:ap):(dh now t).F=t.F:=by unfold dh;split;split<;>rfl;rfl
theorem NP{now:Int}(h0:0<=now)(h1:now<=1000000000)(t:ap)(h:iW t=true):iW (dh now t)=true:=by
 obtain⟨a1,a2,a3,a4,a5,a6,a7⟩:=e_.1 h
 unfold dh;split
 ·split
  ·exact e_.2 ⟨a1,a2,by simp,a4,a5,a6,by simp⟩
  ·have hb:=vN (t.bi+1)
   exact e_.2 ⟨a1,a2,by simp,by simp only;omega,by simp only;omega,a6,by simp only;omega⟩
 ·exact h
theorem wu{l:List ap}{now:Int}(h0:0<=now)(h1:now<=1000000000)(h:aS l=true):aS (l.map (dh now))=true:=zf (K4 now) (NP h0 h1) h
theorem nf{s:aG}:bm s=true↔(1<=s.Next/\s.Next<=1000000)/\s.aa.length<=40/\(∀x∈s.aa,bw x.F=true/\1<=x.Id/\x.Id<s.Next)/\s.aa.Pairwise (fun a b=>a.Id<b.Id/\a.F≠b.F):=by
 have hg:∀{i:Nat}(h:i<s.aa.length),s.aa.getD i bj=s.aa[i]:=fun{i} h=>by rw[dB,eW h];rfl
 simp only[bm,cH,decide_eq_true_eq,<-Cq,and_assoc]
 refine and_congr_right fun _=>and_congr_right fun _=>and_congr_right fun _=> ?_
 rw[fT]
 constructor
 ·intro h
  have hb:∀i,i<s.aa.length->jD s i=true:=fun i hi=>by
   have:=h i hi
   simp only[iC,cH] at this
   exact this.1
  refine⟨fun t ht=> ?_,?_⟩
  ·obtain⟨i,hi,rfl⟩:=qD ht
   have:=hb i hi
   simp only[jD,cH,decide_eq_true_eq] at this
   rw[<-hg hi];exact⟨this.1.1.1,this.1.1.2,this.1.2⟩
  ·rw[Q7]
   intro i j hi hj D2
   refine⟨by have:=Jc hb i j D2 hj;rw[hg hi,hg hj] at this;exact this,fun e=> ?_⟩
   have:=h j hj
   simp only[iC,cH,pc] at this
   have:=yF (jV.1 this.2 i D2)
   rw[hg hi,hg hj] at this
   exact this e.symm
 ·rintro⟨h1,h2⟩ j hj
  rw[Q7] at h2
  obtain⟨q1,q2,q3⟩:=h1 _ (DU hj)
  simp only[iC,jD,cH,pc,decide_eq_true_eq,Bool.and_eq_false_iff,decide_eq_false_iff_not]
  refine⟨⟨⟨⟨by rw[hg hj];exact q1,by rw[hg hj];exact q2⟩,by rw[hg hj];exact q3⟩,?_⟩,jV.2 fun i D2=>decide_eq_false fun e=> ?_⟩
  ·by_cases h0:0<j
   ·right
    have:=(h2 (j-1) j (by omega) hj (by omega)).1
    rw[hg hj,hg (show j-1<s.aa.length by omega)];omega
   ·exact .inl h0
  ·have hi:i<s.aa.length:=by omega
   rw[hg hi,hg hj] at e
   exact(h2 i j hi hj D2).2 e.symm
theorem ME{s:aG}(h:bm s=true){f:aO}(h0:np s.aa f=0):∀x∈s.aa,x.F≠f:=by
 intro x hx e
 obtain⟨i,hi,rfl⟩:=qD hx
 rcases il s.aa.length (fun k=>decide ((s.aa.getD k bj).F=f)) with⟨_,h2⟩|⟨m,g1,g2,_,_⟩
 ·have:=yF (h2 i hi)
  rw[dB,eW hi] at this
  exact this e
 ·have e2:Ea s.aa f=m:=g2
  rw[np,e2,if_neg (by omega)] at h0
  have:=(jN h).2.2.2 (s.aa.getD m bj) (fL g1)
  rw[Tp] at h0
  omega
theorem Cr{s:aG}(h:bm s=true){f:aO}(hf:bw f=true):bm (bG s f).1=true:=by
 unfold bG
 split
 ·exact h
 ·rename_i h0
  split
  ·exact h
  ·rename_i h1
   have hn:=ME h (f:=f) (Decidable.not_not.1 h0)
   obtain⟨g1,g2,g3,g4⟩:=nf.1 h
   refine nf.2 ⟨⟨by show 1<=s.Next+1;omega,by show s.Next+1<=1000000;omega⟩,by simp only[na,ir,ig];omega,fun x hx=> ?_,?_⟩
   ·show _/\_/\_<s.Next+1
    rcases jE.1 hx with hx|hx
    ·obtain⟨a,b,c⟩:=g3 x hx;exact⟨a,b,by omega⟩
    ·rw[mb.1 hx];exact⟨hf,g1.1,by show s.Next<s.Next+1;omega⟩
   ·rw[List.pairwise_append]
    refine⟨g4,List.pairwise_singleton _ _,fun a ha b hb=> ?_⟩
    rw[mb.1 hb]
    exact⟨(g3 a ha).2.2,hn a ha⟩
def oj(id:Int)(x:bW):Bool:= !decide (x.Id=id)
def tj(s:aG)(id:Int):aG:=⟨s.aa.filter (oj id),s.Next⟩
theorem HS{s:aG}(h:bm s=true)(id:Int):bm (tj s id)=true:=by
 obtain⟨g1,g2,g3,g4⟩:=nf.1 h
 exact nf.2 ⟨g1,vg (KK _ _) g2,fun x hx=>g3 x (wc.1 hx).1,g4.filter _⟩
theorem ql{l:List bW}{id:Int}:nO l id=true↔∃x∈l,x.Id=id:=by
 simp only[nO,xu,decide_eq_true_eq]
 constructor
 ·rintro⟨j,hj,h⟩;exact⟨_,fL hj,h⟩
 ·rintro⟨x,hx,h⟩
  obtain⟨i,hi,rfl⟩:=qD hx
  exact⟨i,hi,by rw[dB,eW hi];exact h⟩
theorem Gn{s:aG}{f:aO}{id:Int}(h:nO s.aa id=true):nO (bG s f).1.aa id=true:=by
 unfold bG
 split
 ·exact h
 ·split
  ·exact h
  ·obtain⟨x,hx,e⟩:=ql.1 h
   exact ql.2 ⟨x,pP _ hx,e⟩
def w4(l:List Int)(n:Int):Bool:=l.any fun x=>decide (x=n)
def w_(l:List au)(id:Int):List au:=l.filter fun m=> !w4 m.ep id
structure coreX(d:aZ)(x:aj):Prop where
 nJ:fR d=true
 store:bm x.S=true
 fN:aS x.ae=true
 timers:cV x.ao=true
 kA:cS x.ai=true
 now:0<=x.bB/\x.bB<=1000000000
 HF:x.aw.length<=1000
 bP:∀m∈x.aw,lc d x.S.aa m=true
structure cz(d:aZ)(x:aj):Prop extends coreX d x where
 state:1<=x.State/\x.State<=6
 ended:x.State=2\/x.State=4\/x.State=6->su x.ae=false/\x.ao=[]
 KU:x.State=3\/x.State=5->x.ai≠[]
theorem lj{d:aZ}{x:aj}:instOk d x=true↔cz d x:=by
 have e1:(!(mH x&&(su x.ae||decide (0<x.ao.length))))=true↔(x.State=2\/x.State=4\/x.State=6->su x.ae=false/\x.ao=[]):=by
  simp only[mH]
  by_cases h:x.State=2\/x.State=4\/x.State=6
  ·rw[decide_eq_true h,vh,pc,Nl,decide_eq_false_iff_not]
   exact⟨fun g _=>⟨g.1,Fy (by omega)⟩,fun g=>⟨(g h).1,by rw[(g h).2];simp⟩⟩
  ·rw[decide_eq_false h];exact⟨fun _ g=>absurd g h,fun _=>rfl⟩
 have e2:(!wm x||decide (0<x.ai.length))=true↔(x.State=3\/x.State=5->x.ai≠[]):=by
  simp only[wm,DW,pc,Nl,decide_eq_false_iff_not,decide_eq_true_eq]
  constructor
  ·rintro(g|g) h e
   ·rcases h with h|h
    ·exact g.1 h
    ·exact g.2 h
   ·rw[e] at g;simp at g
  ·intro g
   by_cases h:x.State=3\/x.State=5
   ·exact .inr (List.length_pos_iff.2 (g h))
   ·exact .inl ⟨fun e=>h (.inl e),fun e=>h (.inr e)⟩
 rw[instOk,cH,cH,e1,e2]
 simp only[mW,cH,decide_eq_true_eq,sh]
 constructor
 ·rintro⟨⟨⟨⟨⟨⟨⟨⟨⟨h1,h2⟩,h3⟩,h4⟩,h5⟩,h6⟩,h7⟩,h8,h9⟩,rv⟩,h11⟩
  exact⟨⟨h1,h2,h3,h4,h5,h7,h8,h9⟩,h6,rv,h11⟩
 ·rintro⟨⟨h1,h2,h3,h4,h5,h7,h8,h9⟩,h6,rv,h11⟩
  exact⟨⟨⟨⟨⟨⟨⟨⟨⟨h1,h2⟩,h3⟩,h4⟩,h5⟩,h6⟩,h7⟩,h8,h9⟩,rv⟩,h11⟩
theorem coreX.good{d:aZ}{x:aj}(h:coreX d x):bT x:=⟨h.fN,h.kA,h.now⟩
theorem zq(l:List ap):su (giveUp l)=false:=by
 refine io fun j hj=> ?_
 have hm:=fL (z:=aB) hj
 obtain⟨t,_,e⟩:=kW.1 hm
 rw[<-e]
 simp only[kw,fK]
 split
 ·simp
 ·rename_i h;exact decide_eq_false h
theorem EA{d:aZ}{x:aj}(h:coreX d x){st:Int}(hs:st=2\/st=4\/st=6):cz d (rF x st):=
 ⟨⟨h.nJ,h.store,n_ h.fN,rfl,h.kA,h.now,h.HF,h.bP⟩,by show 1<=st/\st<=6;omega,fun _=>⟨zq _,rfl⟩,fun g=>by have g:st=3\/st=5:=g;omega⟩
theorem nj{d:aZ}{x:aj}(h:coreX d x)(hs:x.State=3\/x.State=5):cz d (cn x):=by
 unfold cn
 split
 ·exact EA h (by split<;>omega)
 ·rename_i hu
  exact⟨⟨h.nJ,h.store,Cm h.good hu,h.timers,h.kA,h.now,h.HF,h.bP⟩,by show 1<=x.State/\x.State<=6;omega,fun g=>by have g:x.State=2\/x.State=4\/x.State=6:=g;omega,fun _=>hu⟩
theorem IZ{d:aZ}{x:aj}(h:coreX d x)(st:Int):coreX d (rF x st):=⟨h.nJ,h.store,n_ h.fN,rfl,h.kA,h.now,h.HF,h.bP⟩
theorem kX{d:aZ}{x:aj}(h:coreX d x){st:Int}(hs:st=3\/st=5):cz d (eD x st):=nj (IZ h st) hs
theorem od{d:aZ}{x:aj}(h:coreX d x)(hs:x.State=3\/x.State=5):cz d (nP x):=
 nj ⟨h.nJ,h.store,h.fN,h.timers,qH _ h.kA,h.now,h.HF,h.bP⟩ hs
theorem jr{d:aZ}{x:aj}(h:coreX d x)(hs:x.State=1):cz d x:=⟨h,by omega,fun g=>by omega,fun g=>by omega⟩
theorem I0{d:aZ}{x:aj}(h:coreX d x){f:aO}(hf:bw f=true):coreX d (uY x (bG x.S f).1):=
 ⟨h.nJ,Cr h.store hf,h.fN,h.timers,h.kA,h.now,h.HF,fun m hm=>by
  have:=h.bP m hm
  simp only[lc,cH,sh] at this⊢
  exact⟨this.1,fun i hi=>Gn (this.2 i hi)⟩⟩
theorem fQ{d:aZ}{x:aj}(h:coreX d x)(hs:x.State=1){f:aO}(hf:bw f=true):cz d (cF x f):=by
 unfold cF
 split
 ·exact kX h (.inl rfl)
 ·exact jr (I0 h hf) hs
theorem mz{l:List aF}:cV l=true↔l.length<=30/\(∀t∈l,gF t=true)/\l.Pairwise (fun a b=>a.At<=b.At):=by
 have hg:∀{i:Nat}(h:i<l.length),l.getD i cq=l[i]:=fun{i} h=>by rw[dB,eW h];rfl
 simp only[cV,cH,decide_eq_true_eq]
 refine and_congr_right fun _=> ?_
 rw[fT]
 constructor
 ·intro h
  refine⟨fun t ht=> ?_,?_⟩
  ·obtain⟨i,hi,rfl⟩:=qD ht
   have:=h i hi
   simp only[iV,cH] at this
   rw[<-hg hi];exact this.1
  ·have step:∀i (hi:i+1<l.length),l[i].At<=l[i+1].At:=fun i hi=>by
    have:=h (i+1) hi
    simp only[iV,cH,DW,decide_eq_true_eq,Nat.add_sub_cancel] at this
    rw[hg hi,hg (by omega)] at this
    rcases this.2 with h0|h0
    ·omega
    ·exact h0
   rw[Q7]
   intro i j hi hj D2
   obtain⟨k,rfl⟩:∃k,j=i+1+k:=⟨j-i-1,by omega⟩
   clear D2
   induction k with
   |zero=>exact step i hj
   |succ k ih=>exact Int.le_trans (ih (by omega)) (step (i+1+k) hj)
 ·rintro⟨h1,h2⟩ j hj
  simp only[iV,cH,DW,decide_eq_true_eq]
  refine⟨by rw[hg hj];exact h1 _ (DU hj),?_⟩
  by_cases h0:j=0
  ·exact .inl h0
  ·right
   rw[Q7] at h2
   rw[hg hj,hg (show j-1<l.length by omega)]
   exact h2 (j-1) j (by omega) hj (by omega)
theorem pQ{l:List aF}(p:aF->Bool)(h:cV l=true):cV (l.filter p)=true:=by
 rw[mz] at h⊢
 exact⟨vg (KK _ _) h.1,fun t ht=>h.2.1 t (wc.1 ht).1,h.2.2.filter p⟩
theorem CM{l:List aF}{a:Int}(hp:l.Pairwise (fun a b=>a.At<=b.At)):∀n,n<=l.length->(∀j,j<sF l a n->(l.getD j cq).At<=a)/\∀j,sF l a n<=j->j<n->a<(l.getD j cq).At
 |0,_=>⟨fun j hj=>by simp[sF] at hj,fun j _ hj=>by omega⟩
 |n+1,hn=>by
  obtain⟨h1,h2⟩:=CM hp n (by omega)
  have hg:∀{i:Nat}(h:i<l.length),l.getD i cq=l[i]:=fun{i} h=>by rw[dB,eW h];rfl
  rw[sF]
  split
  ·rename_i h
   refine⟨h1,fun j g1 g2=> ?_⟩
   by_cases e:j=n
   ·subst e;omega
   ·exact h2 j g1 (by omega)
  ·rename_i h
   refine⟨fun j hj=> ?_,fun j g1 g2=>by omega⟩
   by_cases e:j=n
   ·subst e;omega
   ·rw[Q7] at hp
    have:=hp j n (by omega) (by omega) (by omega)
    rw[hg (by omega)] at h⊢
    omega
theorem JH{l:List aF}{x:aF}(h:cV l=true):cV (p6 l x)=true:=by
 unfold p6
 split
 ·rename_i ha
  simp only[lW,cH,decide_eq_true_eq] at ha
  obtain⟨g1,g2,g3⟩:=mz.1 h
  obtain⟨p1,p2⟩:=CM (a:=x.At) g3 l.length (sB _)
  have hp:=Ld l x.At l.length
  refine mz.2 ⟨by simp only[na,nE,ir,Jt];omega,fun t ht=> ?_,?_⟩
  ·rcases jE.1 ht with ht|ht
   ·exact g2 t (List.mem_of_mem_take ht)
   ·rcases jF.1 ht with ht|ht
    ·rw[ht];exact ha.1.2
    ·exact g2 t (List.mem_of_mem_drop ht)
  ·rw[List.pairwise_append]
   refine⟨g3.sublist (List.take_sublist _ _),List.pairwise_cons.2 ⟨fun b hb=> ?_,g3.sublist (List.drop_sublist _ _)⟩,fun a ha b hb=> ?_⟩
   ·obtain⟨j,hj,e⟩:=qD hb
    rw[List.getElem_drop] at e
    simp only[Jt] at hj
    have:=p2 (sF l x.At l.length+j) (by omega) (by omega)
    rw[dB,eW (by omega)] at this
    rw[<-e];exact Int.le_of_lt this
   ·obtain⟨i,hi,e⟩:=qD ha
    rw[List.getElem_take] at e
    simp only[nE] at hi
    have hle:=p1 i (by omega)
    rw[dB,eW (by omega)] at hle
    have hle:a.At<=x.At:=by rw[<-e];exact hle
    rcases jF.1 hb with hb|hb
    ·rw[hb];exact hle
    ·obtain⟨j,hj,e'⟩:=qD hb
     rw[List.getElem_drop] at e'
     simp only[Jt] at hj
     have:=p2 (sF l x.At l.length+j) (by omega) (by omega)
     rw[dB,eW (by omega)] at this
     have:x.At<b.At:=by rw[<-e'];exact this
     omega
 ·exact h
def KR(x:aj)(l:List au):aj:=⟨x.S,l,x.ae,x.ao,x.ai,x.State,x.bB⟩
def KO(x:aj)(l:List aF):aj:=⟨x.S,x.aw,x.ae,l,x.ai,x.State,x.bB⟩
def KQ(x:aj)(n:Int):aj:=⟨x.S,x.aw,x.ae,x.ao,x.ai,x.State,n⟩
def Fa(x:aj)(id:Int):aj:=if(tj x.S id).aa.length<x.S.aa.length then KR (uY x (tj x.S id)) (w_ x.aw id) else uY x (tj x.S id)
def KX(x:aj)(e:cN):aj:=if(fA x.ae e.F e.aX x.bB).2=true then pf x (fA x.ae e.F e.aX x.bB).1 else eD (pf x (fA x.ae e.F e.aX x.bB).1) 3
def sY(x:aj)(e:cN):aF:=⟨if 1000000000<x.bB+e.N then 1000000000 else x.bB+e.N,e.F⟩
def FB(x:aj)(e:cN):aj:=if lW x.ao (sY x e)=true then KO x (p6 x.ao (sY x e)) else eD (KO x (p6 x.ao (sY x e))) 3
def gh(x:aj)(e:cN):aj:=
 if e.Kind=1 then cF x e.F else if e.Kind=2 then Fa x e.Id else if e.Kind=3 then KX x e else if e.Kind=4 then FB x e else if e.Kind=5 then rF x 2 else eD x 3
theorem M'{d:aZ}{x:aj}(h:coreX d x)(id:Int):coreX d (Fa x id):=by
 unfold Fa
 split
 ·refine⟨h.nJ,HS h.store id,h.fN,h.timers,h.kA,h.now,vg (KK _ _) h.HF,fun m hm=> ?_⟩
  obtain⟨hm,hn⟩:=wc.1 hm
  have:=h.bP m hm
  simp only[lc,cH,sh] at this⊢
  refine⟨this.1,fun i hi=> ?_⟩
  obtain⟨y,hy,e⟩:=ql.1 (this.2 i hi)
  refine ql.2 ⟨y,wc.2 ⟨hy,?_⟩,e⟩
  simp only[oj,pc,decide_eq_false_iff_not]
  intro e2
  simp only[pc,w4,List.any_eq_false,decide_eq_true_eq] at hn
  exact hn i hi (e.symm.trans e2)
 ·rename_i hl
  have e:tj x.S id=x.S:=by
   have:x.S.aa.filter (oj id)=x.S.aa:=List.filter_sublist.eq_of_length_le (by simp only[tj] at hl;omega)
   simp only[tj,this]
  rw[e]
  exact⟨h.nJ,h.store,h.fN,h.timers,h.kA,h.now,h.HF,h.bP⟩
theorem wH{d:aZ}{x:aj}(h:coreX d x)(hs:x.State=1){e:cN}(he:dq e=true):cz d (gh x e):=by
 simp only[dq] at he
 unfold gh
 by_cases h1:e.Kind=1
 ·simp only[h1,decide_true,cond_true,cH] at he
  rw[if_pos h1];exact fQ h hs he.1.1.1
 rw[if_neg h1]
 by_cases h2:e.Kind=2
 ·rw[if_pos h2];exact jr (M' h _) (by unfold Fa;split<;>exact hs)
 rw[if_neg h2]
 by_cases h3:e.Kind=3
 ·simp only[h3,show decide ((3:Int)=1)=false from rfl,show decide ((3:Int)=2)=false from rfl,decide_true,cond_true,cond_false,cH] at he
  rw[if_pos h3]
  have ho:aS (fA x.ae e.F e.aX x.bB).1=true:=pR h.fN he.1.1.1 he.2 h.now.1 (by have:=h.now.2;omega)
  have hc:coreX d (pf x (fA x.ae e.F e.aX x.bB).1):=⟨h.nJ,h.store,ho,h.timers,h.kA,h.now,h.HF,h.bP⟩
  unfold KX
  split
  ·exact jr hc hs
  ·exact kX hc (.inl rfl)
 rw[if_neg h3]
 by_cases h4:e.Kind=4
 ·rw[if_pos h4]
  have hc:coreX d (KO x (p6 x.ao (sY x e))):=⟨h.nJ,h.store,h.fN,JH h.timers,h.kA,h.now,h.HF,h.bP⟩
  unfold FB
  split
  ·exact jr hc hs
  ·exact kX hc (.inl rfl)
 rw[if_neg h4]
 by_cases h5:e.Kind=5
 ·rw[if_pos h5];exact EA h (.inl rfl)
 ·rw[if_neg h5];exact kX h (.inl rfl)
def jp:List cN->aj->aj
 |[],x=>x
 |e::l,x=>if x.State=1 then jp l (gh x e) else x
def Gr(x:aj)(m:au):aj:=KR x (x.aw++[⟨m.cO,m.ep,[]⟩])
def oy(d:aZ)(x:aj)(m:au):aj:=if kJ d m=true/\x.aw.length<1000 then jp (ma d m) (Gr x m) else eD x 3
theorem u4{d:aZ}:∀{l:List cN}{x:aj},cz d x->(∀e∈l,dq e=true)->cz d (jp l x)
 |[],_,h,_=>h
 |e::l,x,h,hl=>by
  rw[jp];split
  ·rename_i hs
   exact u4 (wH h.tocoreX hs (hl e gS)) fun y hy=>hl y (e8 _ hy)
  ·exact h
theorem Lz{d:aZ}{m:au}:∀e∈ma d m,dq e=true:=by
 intro e he
 unfold ma at he
 split at he
 ·rename_i h
  obtain⟨a,ha,rfl⟩:=kW.1 he
  simp only[kJ,cH,sh] at h
  have:=h.2 a ha
  simp only[FW,cH] at this
  exact this.2
 ·simp at he
def w9(s:List bW)(m:au):Prop:=∀i∈m.ep,nO s i=true
theorem Dn{d:aZ}{x:aj}{m:au}(h:coreX d x)(hl:x.aw.length<1000)(he:kJ d m=true)(hm:w9 x.S.aa m):coreX d (Gr x m):=by
 refine⟨h.nJ,h.store,h.fN,h.timers,h.kA,h.now,by simp only[Gr,KR,na,ir,ig];omega,fun n hn=> ?_⟩
 rcases jE.1 hn with hn|hn
 ·exact h.bP n hn
 ·rw[mb.1 hn]
  simp only[kJ,CU,cH] at he
  simp only[lc,cH,sh]
  exact⟨⟨⟨he.1.2.1,by simp⟩,he.1.2.2⟩,hm⟩
theorem JU{d:aZ}{x:aj}{m:au}(h:coreX d x)(hs:x.State=1)(hm:w9 x.S.aa m):cz d (oy d x m):=by
 unfold oy
 split
 ·rename_i hc
  exact u4 (jr (Dn h hc.2 hc.1 hm) hs) Lz
 ·exact kX h (.inl rfl)
theorem Ez{r:a_}{s:List bW}:∀{ps:List ck}{ids:List Int}{l:List bQ},(∀i∈ids,nO s i=true)->∀m∈ob r s ps ids l,w9 s m
 |[],ids,l,h,m,hm=>by
  simp only[ob] at hm
  split at hm
  ·rw[mb.1 hm];exact h
  ·simp at hm
 |p::ps,ids,l,h,m,hm=>by
  simp only[ob,nF] at hm
  obtain⟨x,hx,hm⟩:=hm
  split at hm
  ·refine Ez (fun i hi=> ?_) m hm
   rcases jE.1 hi with hi|hi
   ·exact h i hi
   ·rw[mb.1 hi];exact ql.2 ⟨x,hx,rfl⟩
  ·simp at hm
theorem Qc{rs:List a_}{s:List bW}{m:au}(hm:m∈allM rs s):w9 s m:=by
 simp only[allM,Jg,nF,kW] at hm
 obtain⟨i,_,m',tX,rfl⟩:=hm
 exact Ez (r:=rs.getD i cB) (ids:=[]) (by simp) m' tX
theorem EC{d:aZ}{x:aj}{m:au}(h:jk d (allM d.az x.S.aa) x.aw=some m):w9 x.S.aa m:=Qc (ED h)
theorem ag9{a a':aj}{b b':Int}(h1:a=a')(h2:b=b'):Lf [.agg [.sl .aK a.S.aa,CI a.S.Next,.sl .av a.aw,.sl .aq a.ae,.sl .ax a.ao,.sl .aI a.ai,CI a.State,CI a.bB],.one (CI b)] [.agg [.sl .aK a'.S.aa,CI a'.S.Next,.sl .av a'.aw,.sl .aq a'.ae,.sl .ax a'.ao,.sl .aI a'.ai,CI a'.State,CI a'.bB],.one (CI b')]:=by
 subst h1 h2;exact aV _
def qW(d:aZ)(x:aj)(key:BA)(ok:Bool)(v:aU):aj×Int:=if instOk d x=true/\bp v=true then eZ x key ok v else(x,3)
theorem Mb{x:aj}{key:BA}{ok:Bool}{v:aU}(h:¬bp v=true):eZ x key ok v=(x,3):=by
 have e:aH x.ae key ok v=(x.ae,3):=iX (fun c=>h c.2.1)
 unfold eZ;rw[e];rfl
theorem vx{d:aZ}{x:aj}{key:BA}{ok:Bool}{v:aU}(h:instOk d x=true)(h0:(aH x.ae key ok v).2=1):x.State=1\/x.State=3\/x.State=5:=by
 have h1:aS x.ae=true/\bp v=true/\0<=aD x.ae key/\(x.ae.getD (aD x.ae key).toNat aB).State≠1:=Classical.byContradiction fun c=>by rw[iX c] at h0;simp at h0
 have h2:(x.ae.getD (aD x.ae key).toNat aB).State=2:=Classical.byContradiction fun c=>by rw[qc h1 c] at h0;simp at h0
 have hk:=lx (l:=x.ae) (key:=key) h1.2.2.1
 have hl:su x.ae=true:=ke (j:=(aD x.ae key).toNat) hk (decide_eq_true (Or.inr h2))
 simp only[instOk,cH,decide_eq_true_eq] at h
 obtain⟨⟨⟨⟨⟨_,hs⟩,_⟩,_⟩,he⟩,_⟩:=h
 rw[hl] at he
 have he:mH x=false:=by cases hx:mH x<;>simp[hx] at he⊢
 simp only[mH,decide_eq_false_iff_not] at he
 omega
def alw:=cf (α:=aZ×aj×BA×Bool×aU) (qC (qA .gJ) (qC (qA .bY) (qC qS (qC qO (q1 (qA .bf)))))) [.ro,.ro,.ro,.ro,.ro] (fun(d,x,key,ok,v)=>[cX d<=4294967295,eH x<=4294967295]) (fun(d,x,key,ok,v)=>⟨[dA .bY ((qW d x key ok v).1),dI ((qW d x key ok v).2)],[],[]⟩)
def amj:HH:=hF alw func11 [YY,Tf,amc] a0 fun x hp hb=>by
 obtain⟨d,x,key,ok,v⟩:=x
 have dG:=kS (x:=d) (hb _ m0)
 have j7:=dG.1
 have jb:=dG.2
 have gM:=oK (x:=x) (hb _ m1)
 have dN:=gM.1
 have fG:=gM.2.1
 have fF:=gM.2.2.1
 have eI:=gM.2.2.2.1
 have fE:=gM.2.2.2.2
 have XN:=KB (s:=key) (hb _ m2)
 have XM:=LI (x:=v) (hb _ m4)
 have bJ:cX d<=4294967295:=hp _ m0
 have eh:eH x<=4294967295:=hp _ m1
 clear hp hb
 apply vE (let x1:={S:={aa:={τ:=Cd.aK,xs:=x.S.aa:cC UU}.xs,Next:=x.S.Next:aG},aw:={τ:=Cd.av,xs:=x.aw:cC UU}.xs,ae:={τ:=Cd.aq,xs:=x.ae:cC UU}.xs,ao:={τ:=Cd.ax,xs:=x.ao:cC UU}.xs,ai:={τ:=Cd.aI,xs:=x.ai:cC UU}.xs,State:=x.State,bB:=x.bB:aj};let x0:=(eZ x1 key ok {K:=v.K,N:=v.N,S:=v.S:aU}).1.S;let q0:=qW d x key ok v;let q1:=eZ x1 key ok {K:=v.K,N:=v.N,S:=v.S:aU};L4 (eH x)/\cX d<=4294967295/\L4 (dc x.S.aa)/\bif !instOk d x then Lf [DV.agg (ay x),VI 3] [DV.agg [CL .aK q0.1.S.aa,CI (q0.1.S.Next),CL .av q0.1.aw,CL .aq q0.1.ae,CL .ax q0.1.ao,CL .aI q0.1.ai,CI (q0.1.State),CI (q0.1.bB)],VI (q0.2)] else bT x/\bm x.S=true/\((aH x1.ae key ok {K:=v.K,N:=v.N,S:=v.S:aU}).2=1->x.State=1\/x.State=3\/x.State=5)/\Lf [DV.agg [CL .aK x0.aa,CI x0.Next,CL .av q1.1.aw,CL .aq q1.1.ae,CL .ax q1.1.ao,CL .aI q1.1.ai,CI (q1.1.State),CI (q1.1.bB)],VI (q1.2)] [DV.agg [CL .aK q0.1.S.aa,CI (q0.1.S.Next),CL .av q0.1.aw,CL .aq q0.1.ae,CL .ax q0.1.ao,CL .aI q0.1.ai,CI (q0.1.State),CI (q0.1.bB)],VI (q0.2)])
 dsimp only
 have hi:=rK x
 refine⟨by omega,bJ,by omega,bu (fun g=> ?_) (fun g=>⟨EU g,JJ g,vx g,?_⟩)⟩
 ·have e:qW d x key ok v=(x,3):=if_neg (fun c=>absurd (c.1.symm.trans g) (by decide))
  exact ag9 (congrArg Prod.fst e).symm (congrArg Prod.snd e).symm
 ·have e:qW d x key ok v=eZ x key ok v:=by
   by_cases hv:bp v=true
   ·exact if_pos ⟨g,hv⟩
   ·rw[Mb hv];exact if_neg (fun c=>hv c.2)
  exact ag9 (congrArg Prod.fst e).symm (congrArg Prod.snd e).symm
def HV:List BA:=[⟨#[88]⟩,⟨#[89]⟩,⟨#[90]⟩,⟨#[88]⟩]
def NQ:List BA:=[⟨#[88]⟩,⟨#[89]⟩]
def mM(c:aA):cP:=if aJ c 6=0 then⟨3,ah,du⟩ else if aJ c 6=1 then⟨2,ah,dM (ag c 6)⟩ else⟨1,fO (ag c 6) HV,du⟩
def oN(c:aA):aA:=if aJ c 6=0 then ag c 6 else if aJ c 6=1 then gL (ag c 6) else eG (ag c 6) HV
theorem LH{c:aA}(h:df c):df (oN c):=by
 have:=bo h 6
 unfold oN;split
 ·exact this
 ·split
  ·exact lq this
  ·exact j_ this _
def eu(c:aA):cP:=if cD c 3=true then⟨2,ah,dM (ag c 3)⟩ else⟨1,fO (ag c 3) NQ,du⟩
def di(c:aA):aA:=if cD c 3=true then gL (ag c 3) else eG (ag c 3) NQ
theorem qt{c:aA}(h:df c):df (di c):=by
 have:=bo h 3
 unfold di;split
 ·exact lq this
 ·exact j_ this _
def nl{α:Type}(f:aA->α)(g:aA->aA):Nat->List α->aA->List α
 |0,l,_=>l
 |k+1,l,c=>nl f g k (l++[f c]) (g c)
def pq(g:aA->aA):Nat->aA->aA
 |0,c=>c
 |k+1,c=>pq g k (g c)
theorem mC{α:Type}(f:aA->α)(g:aA->aA):∀(k:Nat)(l:List α)(c:aA),(nl f g k l c).length=l.length+k
 |0,_,_=>rfl
 |k+1,l,c=>by rw[nl,mC f g k];simp only[na,ir,ig];omega
theorem n0{α:Type}{f:aA->α}{g:aA->aA}(p:α->Prop)(hp:∀c,p (f c)):∀(k:Nat)(l:List α)(c:aA),(∀x,x∈l->p x)->∀x,x∈nl f g k l c->p x
 |0,_,_,h=>h
 |k+1,l,c,h=>n0 p hp k _ _ fun x hx=>by
  rcases jE.1 hx with hx|hx
  ·exact h x hx
  ·rw[mb] at hx;subst hx;exact hp c
theorem tB{g:aA->aA}(hg:∀c,df c->df (g c)):∀{k:Nat}{c:aA},df c->df (pq g k c)
 |0,_,h=>h
 |k+1,_,h=>tB hg (k:=k) (hg _ h)
def tg(c:aA):Int:=if fO c cL=Dx then 2 else 1
def o7(not:Bool)(c:aA):ck:=⟨fO c cL,nl mM oN (tg c).toNat [] (eG c cL),not⟩
def jH(c:aA):aA:=pq oN (tg c).toNat (eG c cL)
theorem tA{c:aA}(h:df c):df (jH c):=tB (fun _=>LH) (j_ h _)
theorem FQ(c:aA):0<=tg c/\tg c<=2:=by unfold tg;split<;>omega
def Dp(c:aA):dt:=⟨1+aJ c 3,eu (ag c 3),eu (di (ag c 3))⟩
def vL(c:aA):aA:=di (di (ag c 3))
theorem Nc{c:aA}(h:df c):df (vL c):=qt (qt (bo h _))
def HW:List BA:=[⟨#[43]⟩,⟨#[45]⟩]
def fw(c:aA):cj:=if cD (di c) 4=true then⟨fO (ag (di c) 4) HW,eu c,eu (eG (ag (di c) 4) HW)⟩ else⟨ah,eu c,l8⟩
def gN(c:aA):aA:=if cD (di c) 4=true then di (eG (ag (di c) 4) HW) else ag (di c) 4
theorem I5{c:aA}(h:df c):df (gN c):=by
 have:=bo (qt h) 4
 unfold gN;split
 ·exact qt (j_ this _)
 ·exact this
def pu:List Int:=[1,1,2,3,3,4,5,6]
def JN:List BA:=[⟨#[111,114,100,101,114]⟩,⟨#[112,97,105,100]⟩,⟨#[105,116,101,109]⟩,⟨#[115,104,105,112]⟩,⟨#[99,104,97,114,103,101]⟩]
def vz:List Int:=[0,1,5,100000]
def qQ:List BA:=[⟨#[114,101,102,117,110,100]⟩,⟨#[99,97,110,99,101,108]⟩]
def hZ(c:aA):Int:=j0 c pu
def hU(c:aA):BA:=fO (rb c pu) JN
def DB(c:aA):aA:=eG (rb c pu) JN
def vS(c:aA):Int:=if hU c=Dx then 2 else 1
def mq(c:aA):List cj:=nl fw gN (vS c).toNat [] (DB c)
def kl(c:aA):aA:=pq gN (vS c).toNat (DB c)
def nS(c:aA):aA:=if hZ c=4 then rb (kl c) vz else kl c
def tE(c:aA):Int:=if hZ c=4 then j0 (kl c) vz else 0
def uU(c:aA):BA:=if hZ c=3/\cD (nS c) 2=true then fO (ag (nS c) 2) qQ else ah
def tF(c:aA):aA:=if hZ c=3 then(if cD (nS c) 2=true then eG (ag (nS c) 2) qQ else ag (nS c) 2) else nS c
def Dz(e6:Int)(c:aA):dQ:=if hZ c=2 then⟨hZ c,ah,[],aJ (rb c pu) e6,ah⟩ else if hZ c=5\/hZ c=6 then⟨hZ c,ah,[],0,ah⟩ else⟨hZ c,hU c,mq c,tE c,uU c⟩
def xy(e6:Int)(c:aA):aA:=if hZ c=2 then ag (rb c pu) e6 else if hZ c=5\/hZ c=6 then rb c pu else tF c
theorem LQ(c:aA):0<=vS c/\vS c<=2:=by unfold vS;split<;>omega
theorem I9{c:aA}(h:df c):df (DB c):=j_ (nW h _) _
theorem Dt{c:aA}(h:df c):df (kl c):=tB (fun _=>I5) (I9 h)
theorem Ds{c:aA}(h:df c):df (nS c):=by
 unfold nS;split
 ·exact nW (Dt h) _
 ·exact Dt h
theorem I8{c:aA}(e6:Int)(h:df c):df (xy e6 c):=by
 unfold xy;split
 ·exact bo (nW h _) _
 ·split
  ·exact nW h _
  ·unfold tF;split
   ·split
    ·exact j_ (bo (Ds h) _) _
    ·exact bo (Ds h) _
   ·exact Ds h
theorem Fp(c:aA):(mq c).length<=2:=by
 have:=LQ c
 rw[mq,mC];simp only[ig];omega
theorem Ni(e6:Int)(c:aA):(Dz e6 c).aC.length<=2:=by
 have:=Fp c
 unfold Dz;split
 ·simp
 ·split
  ·simp
  ·exact this
def pY(vars:List BA)(a:cP):cP:=if dZ vars a=true then a else if vars.length=0 then⟨2,ah,⟨1,1,ah⟩⟩ else⟨1,vars.getD 0 ah,du⟩
def M4(vars:List BA)(x:dt):dt:=⟨x.Op,pY vars x.L,pY vars x.R⟩
def ox(vars:List BA)(e:cj):cj:=⟨e.Op,pY vars e.L,if e.Op=ah then e.R else pY vars e.R⟩
def Df(vars:List BA)(a:dQ):dQ:=⟨a.Kind,a.Name,a.aC.map (ox vars),a.N,a.aX⟩
def kF:List Int:=[0,0,5,-5,100]
def NW(c:aA):aA:=rb c kF
def NT(c:aA):Int:=1+aJ (NW c) 3
def FF(c:aA):aA:=ag (NW c) 3
def kq(c:aA):List ck:=nl (o7 false) jH (NT c).toNat [] (FF c)
def D5(c:aA):aA:=pq jH (NT c).toNat (FF c)
def vp(c:aA):aA:=ag (D5 c) 3
def dl(c:aA):List ck:=if cD (D5 c) 3=true then kq c++[o7 true (vp c)] else kq c
def CA(c:aA):aA:=if cD (D5 c) 3=true then jH (vp c) else vp c
def cR(c:aA):List BA:=cI (dl c)
def vo(c:aA):aA:=ag (CA c) 3
def fo(c:aA):List dt:=if cD (CA c) 3=true then[M4 (cR c) (Dp (vo c))] else[]
def yj(c:aA):aA:=if cD (CA c) 3=true then vL (vo c) else vo c
def No(c:aA):Int:=1+aJ (yj c) 3
def NV(c:aA):aA:=ag (yj c) 3
def Ey(c:aA)(d:aA):dQ:=Df (cR c) (Dz (cJ (dl c)) d)
def pV(c:aA)(d:aA):aA:=xy (cJ (dl c)) d
def pU(c:aA):List dQ:=nl (Ey c) (pV c) (No c).toNat [] (NV c)
def vn(c:aA):aA:=pq (pV c) (No c).toNat (NV c)
def wD(name:BA)(c:aA):a_:=⟨name,j0 c kF,dl c,fo c,pU c⟩
theorem LG{c:aA}(h:df c):df (FF c):=bo (nW h _) _
theorem LF{c:aA}(h:df c):df (D5 c):=tB (fun _=>tA) (LG h)
theorem LD{c:aA}(h:df c):df (CA c):=by
 unfold CA;split
 ·exact tA (bo (LF h) _)
 ·exact bo (LF h) _
theorem GA{c:aA}(h:df c):df (yj c):=by
 unfold yj;split
 ·exact Nc (bo (LD h) _)
 ·exact bo (LD h) _
theorem LC{c:aA}(h:df c):df (vn c):=tB (fun _=>I8 _) (bo (GA h) _)
theorem JP(c:aA):1<=NT c/\NT c<=3:=by
 have:=en (c:=NW c) (n:=3) (by omega)
 unfold NT;omega
theorem NU(c:aA):1<=No c/\No c<=3:=by
 have:=en (c:=yj c) (n:=3) (by omega)
 unfold No;omega
def qR:List BA:=[⟨#[114,49]⟩,⟨#[114,50]⟩,⟨#[114,51]⟩,⟨#[114,52]⟩]
def zi:List BA:=[⟨#[102,108,111,119]⟩,⟨#[115,104,105,112]⟩,⟨#[120]⟩]
def IY:Nat->Nat->List a_->aA->List a_
 |0,_,l,_=>l
 |k+1,i,l,c=>if(i:Int)<1+aJ c 4 then IY k (i+1) (l++[wD (qR.getD i ah) (ag c 4)]) (vn (ag c 4)) else l
def Kz:Nat->Nat->aA->aA
 |0,_,c=>ag c 4
 |k+1,i,c=>if(i:Int)<1+aJ c 4 then Kz k (i+1) (vn (ag c 4)) else ag c 4
def dT(c:aA):aZ:=⟨fO c zi,IY 4 0 [] (eG c zi)⟩
def lM(c:aA):aA:=Kz 4 0 (eG c zi)
theorem I7:∀{k i:Nat}{c:aA},df c->df (Kz k i c)
 |0,_,_,h=>bo h _
 |k+1,i,c,h=>by
  unfold Kz;split
  ·exact I7 (k:=k) (LC (bo h _))
  ·exact bo h _
theorem I6{c:aA}(h:df c):df (lM c):=I7 (j_ h _)
theorem LdA{a a':cP}{d d':aA}(h1:a=a')(h2:d=d'):gH [DV.agg [CI a.K,.lit (.string a.S),CI a.V.K,CI a.V.N,.lit (.string a.V.S)]]=gH [DV.agg [CI a'.K,.lit (.string a'.S),CI a'.V.K,CI a'.V.N,.lit (.string a'.V.S)]]/\gH [DV.box [.sl .byte d.b,CI d.i,CI d.h]]=gH [DV.box [.sl .byte d'.b,CI d'.i,CI d'.h]]:=by
 subst h1 h2;exact⟨rfl,rfl⟩
theorem LdP{a a':ck}{d d':aA}(h1:a=a')(h2:d=d'):gH [DV.agg [.lit (.string a.Kind),.sl .im a.aC,.lit (.bool a.Not)]]=gH [DV.agg [.lit (.string a'.Kind),.sl .im a'.aC,.lit (.bool a'.Not)]]/\gH [DV.box [.sl .byte d.b,CI d.i,CI d.h]]=gH [DV.box [.sl .byte d'.b,CI d'.i,CI d'.h]]:=by
 subst h1 h2;exact⟨rfl,rfl⟩
theorem LdE{a a':cj}{d d':aA}(h1:a=a')(h2:d=d'):gH [DV.agg [.lit (.string a.Op),CI a.L.K,.lit (.string a.L.S),CI a.L.V.K,CI a.L.V.N,.lit (.string a.L.V.S),CI a.R.K,.lit (.string a.R.S),CI a.R.V.K,CI a.R.V.N,.lit (.string a.R.V.S)]]=gH [DV.agg [.lit (.string a'.Op),CI a'.L.K,.lit (.string a'.L.S),CI a'.L.V.K,CI a'.L.V.N,.lit (.string a'.L.V.S),CI a'.R.K,.lit (.string a'.R.S),CI a'.R.V.K,CI a'.R.V.N,.lit (.string a'.R.V.S)]]/\gH [DV.box [.sl .byte d.b,CI d.i,CI d.h]]=gH [DV.box [.sl .byte d'.b,CI d'.i,CI d'.h]]:=by
 subst h1 h2;exact⟨rfl,rfl⟩
theorem DT{a a':dQ}{d d':aA}(h1:a=a')(h2:d=d'):gH [DV.agg [CI a.Kind,.lit (.string a.Name),.sl .bN a.aC,CI a.N,.lit (.string a.aX)]]=gH [DV.agg [CI a'.Kind,.lit (.string a'.Name),.sl .bN a'.aC,CI a'.N,.lit (.string a'.aX)]]/\gH [DV.box [.sl .byte d.b,CI d.i,CI d.h]]=gH [DV.box [.sl .byte d'.b,CI d'.i,CI d'.h]]:=by
 subst h1 h2;exact⟨rfl,rfl⟩
def adO:=cf (α:=aU) (q1 (qA .bf)) [.ro] (fun _=>[]) (fun v=>⟨[dA .im (⟨2,ah,v⟩:cP)],[],[]⟩)
def Qx:HH:=hF adO func171 [] a0 fun(v:aU) hp hb=>by
 clear hp hb
 apply vE (Lf [DV.agg [CI 2,CS ({data:= #[]:BA}),CI v.K,CI v.N,CS v.S]] [DV.agg [CI 2,CS ah,CI v.K,CI v.N,CS v.S]])
 exact aV _
def adN:=cf (α:=BA) (q1 qS) [.ro] (fun _=>[]) (fun s=>⟨[dA .im (⟨1,s,du⟩:cP)],[],[]⟩)
def Qw:HH:=hF adN func172 [] a0 fun(s:BA) hp hb=>by
 clear hp hb
 apply vE (Lf [DV.agg [CI 1,CS s,CI 0,CI 0,CS ({data:= #[]:BA})]] [DV.agg [CI 1,CS s,CI du.K,CI du.N,CS du.S]])
 exact aV _
def adR:=cf (α:=aA) (q1 qU) [.box false] (fun c=>[df c]) (fun c=>⟨[dA .im (mM c)],[],[dU (oN c)]⟩)
def afj:HH:=hF adR func166 [zZ,S9,Jo,Qx,Qw] a0 fun(c:aA) hp hb=>by
 have bJ:df c:=hp _ m0
 clear hp hb
 apply vE (let x1:=[{data:= #[88]:BA},{data:= #[89]:BA},{data:= #[90]:BA},{data:= #[88]:BA}];let x0:=eG (ag c 6) x1;let q0:=ag c 6;0<=c.i/\L4 c.b.length/\bif aJ c (6:Int)==(0:Int) then LM [DV.agg [CI 3,CS ({data:= #[]:BA}),CI 0,CI 0,CS ({data:= #[]:BA})]] [DV.agg [CI ((mM c).K),CS ((mM c).S),CI ((mM c).V.K),CI ((mM c).V.N),CS ((mM c).V.S)]] [bU q0] [bU (oN c)] else bif aJ c (6:Int)==(1:Int) then df q0/\LM [DV.agg [CI 2,CS ah,CI ((dM q0).K),CI ((dM q0).N),CS ((dM q0).S)]] [DV.agg [CI ((mM c).K),CS ((mM c).S),CI ((mM c).V.K),CI ((mM c).V.N),CS ((mM c).V.S)]] [bU (gL q0)] [bU (oN c)] else df q0/\1<=x1.length/\LM [DV.agg [CI 1,CS (fO q0 x1),CI du.K,CI du.N,CS du.S]] [DV.agg [CI ((mM c).K),CS ((mM c).S),CI ((mM c).V.K),CI ((mM c).V.N),CS ((mM c).V.S)]] [bU x0] [bU (oN c)])
 dsimp only
 have h6:=bo bJ 6
 refine⟨bJ.1,bJ.2,ct (fun h=>⟨by trivial,?_⟩) (fun h=>ct (fun h'=>⟨h6,by trivial,?_⟩) (fun h'=>⟨h6,by simp,by trivial,?_⟩))⟩
 ·exact LdA (a:=⟨3,ah,du⟩) (d:=ag c 6) (if_pos h).symm (if_pos h).symm
 ·exact LdA (a:=⟨2,ah,dM (ag c 6)⟩) (d:=gL (ag c 6)) ((if_neg h).trans (if_pos h')).symm ((if_neg h).trans (if_pos h')).symm
 ·exact LdA (a:=⟨1,fO (ag c 6) HV,du⟩) (d:=eG (ag c 6) HV) ((if_neg h).trans (if_neg h')).symm ((if_neg h).trans (if_neg h')).symm
def Vd:=cf (α:=aA×Bool) (qC qU (q1 qO)) [.box false,.ro] (fun(c,not)=>[df c]) (fun(c,not)=>⟨[dA .ey (o7 not c)],[],[dU (jH c)]⟩)
def pK(c:aA)(not:Bool):Int×T9×T9×T5×Unit->Prop:=fun(i,r,p,cu,_)=>0<=i/\i<=tg c/\p.1=fO c cL/\p.2.2.1=not/\df ⟨cu.1,cu.2.1,cu.2.2.1⟩/\p.2.1.length<=i/\nl mM oN (tg c-i).toNat p.2.1 ⟨cu.1,cu.2.1,cu.2.2.1⟩=(o7 not c).aC/\pq oN (tg c-i).toNat ⟨cu.1,cu.2.1,cu.2.2.1⟩=jH c
def uH(c:aA)(not:Bool):Int×T9×T9×T5×Unit->Nat:=fun(i,r,p,cu,_)=>(tg c-i).toNat
def agX:AX Vd:=fun(c,not)=>b_ [(6,aY [iI 7,.box 4 (4,1024) [.lit .str,.own .im true,.lit .bool],.box 5 (5,1024) [.lit .str,.own .im true,.lit .bool],.box 0 (2000000,0) [.shr .byte,.lit (.int .i64),.lit (.int .i64)]] (fun _=>pK c not) (uH c not))]
def afK:HH:=hF Vd func126 [Jo,afj] agX fun x hp hb=>by
 obtain⟨c,not⟩:=x
 have bJ:df c:=hp _ m0
 clear hp hb
 apply vE (let x2:={data:= #[111,114,100,101,114]:BA};let x3:={data:= #[105,116,101,109]:BA};let x1:=[x2,{data:= #[112,97,105,100]:BA},x3,x2];let x0:=eG c x1;let q0:=BA×List cP×Bool×PUnit;let q1:=(0,({data:= #[]:BA},[],false,()),(fO c x1,[],not,()),(x0.b,x0.i,x0.h,()),());let q2:=o7 not c;df c/\1<=x1.length/\bif (fO c x1).toList==x3.toList then pK c not q1/\∀(y:Int×q0×q0×Y0×PUnit),let x5:={b:=y.2.2.2.1.1,i:=y.2.2.2.1.2.1,h:=y.2.2.2.1.2.2.1:aA};let x4:=oN x5;let q3:=(wrap i64 (y.1+1),(y.2.1.1,y.2.1.2.1,y.2.1.2.2.1,()),(y.2.2.1.1,y.2.2.1.2.1++[mM x5],y.2.2.1.2.2.1,()),(x4.b,x4.i,x4.h,()),());pK c not y->bif decide (y.1<2) then df x5/\y.2.2.1.2.1.length+List.length [mM x5]<=4294967296/\pK c not q3/\uH c not q3<uH c not y else LM [DV.agg [CS y.2.2.1.1,CL .im y.2.2.1.2.1,CO y.2.2.1.2.2.1]] [DV.agg [CS (q2.Kind),CL .im q2.aC,CO (q2.Not)]] [DV.box [CL .byte y.2.2.2.1.1,CI y.2.2.2.1.2.1,CI y.2.2.2.1.2.2.1]] [bU (jH c)] else pK c not q1/\∀(y:Int×q0×q0×Y0×PUnit),let x5:={b:=y.2.2.2.1.1,i:=y.2.2.2.1.2.1,h:=y.2.2.2.1.2.2.1:aA};let x4:=oN x5;let q4:=(wrap i64 (y.1+1),(y.2.1.1,y.2.1.2.1,y.2.1.2.2.1,()),(y.2.2.1.1,y.2.2.1.2.1++[mM x5],y.2.2.1.2.2.1,()),(x4.b,x4.i,x4.h,()),());pK c not y->bif decide (y.1<1) then df x5/\y.2.2.1.2.1.length+List.length [mM x5]<=4294967296/\pK c not q4/\uH c not q4<uH c not y else LM [DV.agg [CS y.2.2.1.1,CL .im y.2.2.1.2.1,CO y.2.2.1.2.2.1]] [DV.agg [CS (q2.Kind),CL .im q2.aC,CO (q2.Not)]] [DV.box [CL .byte y.2.2.2.1.1,CI y.2.2.2.1.2.1,CI y.2.2.2.1.2.2.1]] [bU (jH c)])
 dsimp only
 have hk:=j_ bJ cL
 have hle:=FQ c
 have fin:pK c not ((0:Int),(ah,[],false,()),(fO c cL,[],not,()),((eG c cL).b,(eG c cL).i,(eG c cL).h,()),()):=⟨by omega,hle.1,rfl,rfl,hk,by simp,by simp only[Int.sub_zero];rfl,by simp only[Int.sub_zero];rfl⟩
 have h2:∀{b:Bool},((fO c cL).toList==Dx.toList)=b->tg c=if b=true then 2 else 1:=fun{b} h=>by
  rw[aQ] at h
  unfold tg
  cases b with
  |true=>rw[if_pos (yT h)];rfl
  |false=>rw[if_neg (yF h)];rfl
 refine⟨bJ,by simp,ab (fun h=> ?_) (fun h=> ?_)⟩
 all_goals
  have hN:=h2 h
  simp only[if_true,wb,if_false] at hN
  clear h
  refine⟨fin,?_⟩
  rintro⟨i,⟨r1,r2,r3,⟨⟩⟩,⟨p1,p2,p3,⟨⟩⟩,⟨cb,ci,ch,⟨⟩⟩,⟨⟩⟩ ⟨g1,g2,g3,g4,g5,g6,g7,g8⟩
  simp only at g1 g2 g3 g4 g5 g6 g7 g8⊢
  refine bc (fun hc=> ?_) (fun hc=>⟨by trivial,?_⟩)
  ·have e:(tg c-i).toNat=(tg c-(i+1)).toNat+1:=by omega
   rw[e] at g7 g8
   rw[wi]
   exact⟨g5,by simp only[ir,ig];omega,⟨by omega,by omega,g3,g4,LH g5,by simp only[na,ir,ig];omega,g7,g8⟩,by simp only[uH];omega⟩
  ·have e:(tg c-i).toNat=0:=by omega
   rw[e] at g7 g8
   have g7:p2=(o7 not c).aC:=g7
   have g8:(⟨cb,ci,ch⟩:aA)=jH c:=g8
   subst g3 g4 g7
   exact LdP (a:=⟨fO c cL,(o7 p3 c).aC,p3⟩) (d:=⟨cb,ci,ch⟩) rfl g8
def adQ:=cf (α:=aA) (q1 qU) [.box false] (fun c=>[df c]) (fun c=>⟨[dA .im (eu c)],[],[dU (di c)]⟩)
def Vx:HH:=hF adQ func169 [Jp,S9,Jo,Qx,Qw] a0 fun(c:aA) hp hb=>by
 have bJ:df c:=hp _ m0
 clear hp hb
 apply vE (let x1:=[{data:= #[88]:BA},{data:= #[89]:BA}];let x0:=eG (ag c 3) x1;let q0:=ag c 3;df c/\bif cD c 3 then df q0/\LM [DV.agg [CI 2,CS ah,CI ((dM q0).K),CI ((dM q0).N),CS ((dM q0).S)]] [DV.agg [CI ((eu c).K),CS ((eu c).S),CI ((eu c).V.K),CI ((eu c).V.N),CS ((eu c).V.S)]] [bU (gL q0)] [bU (di c)] else df q0/\1<=x1.length/\LM [DV.agg [CI 1,CS (fO q0 x1),CI du.K,CI du.N,CS du.S]] [DV.agg [CI ((eu c).K),CS ((eu c).S),CI ((eu c).V.K),CI ((eu c).V.N),CS ((eu c).V.S)]] [bU x0] [bU (di c)])
 dsimp only
 have h6:=bo bJ 3
 refine⟨bJ,ab (fun h=>⟨h6,by trivial,?_⟩) (fun h=>⟨h6,by simp,by trivial,?_⟩)⟩
 ·exact LdA (a:=⟨2,ah,dM (ag c 3)⟩) (d:=gL (ag c 3)) (if_pos h).symm (if_pos h).symm
 ·have h:¬cD c 3=true:=by rw[h];decide
  exact LdA (a:=⟨1,fO (ag c 3) NQ,du⟩) (d:=eG (ag c 3) NQ) (if_neg h).symm (if_neg h).symm
def ad6:=cf (α:=aA) (q1 qU) [.box false] (fun c=>[df c]) (fun c=>⟨[dA .cM (Dp c)],[],[dU (vL c)]⟩)
def afJ:HH:=hF ad6 func128 [zZ,Vx] a0 fun(c:aA) hp hb=>by
 have bJ:df c:=hp _ m0
 clear hp hb
 apply vE (let x1:=di (di (ag c 3));let x2:=eu (di (ag c 3));let x3:=(eu (ag c 3)).V;let x4:=(1:Int)+aJ c 3;let x0:=x2.V;let q0:=ag c 3;0<=c.i/\L4 c.b.length/\df q0/\df (di q0)/\LM [DV.agg [CI (wrap i64 x4),CI ((eu q0).K),CS ((eu q0).S),CI x3.K,CI x3.N,CS x3.S,CI x2.K,CS x2.S,CI x0.K,CI x0.N,CS x0.S]] [DV.agg [CI x4,CI ((eu q0).K),CS ((eu q0).S),CI x3.K,CI x3.N,CS x3.S,CI x2.K,CS x2.S,CI x0.K,CI x0.N,CS x0.S]] [bU x1] [bU x1])
 dsimp only
 have hb:=en (c:=c) (n:=3) (by omega)
 have h3:=bo bJ 3
 rw[wi]
 exact⟨bJ.1,bJ.2,h3,qt h3,by trivial,rfl,rfl⟩
def adM:=cf (α:=aA) (q1 qU) [.box false] (fun c=>[df c]) (fun c=>⟨[dA .bN (fw c)],[],[dU (gN c)]⟩)
def afh:HH:=hF adM func173 [Jp,Vx,Jo] a0 fun(c:aA) hp hb=>by
 have bJ:df c:=hp _ m0
 clear hp hb
 apply vE (let x4:=[{data:= #[43]:BA},{data:= #[45]:BA}];let x5:=ag (di c) 4;let x3:=eG x5 x4;let x1:=di x3;let x2:=eu x3;let x0:=x2.V;let q0:={data:= #[]:BA};df c/\df (di c)/\bif cD (di c) 4 then df x5/\1<=x4.length/\df x3/\LM [DV.agg [CS (fO x5 x4),CI ((eu c).K),CS ((eu c).S),CI ((eu c).V.K),CI ((eu c).V.N),CS ((eu c).V.S),CI x2.K,CS x2.S,CI x0.K,CI x0.N,CS x0.S]] [DV.agg [CS ((fw c).Op),CI ((fw c).L.K),CS ((fw c).L.S),CI ((fw c).L.V.K),CI ((fw c).L.V.N),CS ((fw c).L.V.S),CI ((fw c).R.K),CS ((fw c).R.S),CI ((fw c).R.V.K),CI ((fw c).R.V.N),CS ((fw c).R.V.S)]] [bU x1] [bU (gN c)] else LM [DV.agg [CS q0,CI ((eu c).K),CS ((eu c).S),CI ((eu c).V.K),CI ((eu c).V.N),CS ((eu c).V.S),CI 0,CS q0,CI 0,CI 0,CS q0]] [DV.agg [CS ((fw c).Op),CI ((fw c).L.K),CS ((fw c).L.S),CI ((fw c).L.V.K),CI ((fw c).L.V.N),CS ((fw c).L.V.S),CI ((fw c).R.K),CS ((fw c).R.S),CI ((fw c).R.V.K),CI ((fw c).R.V.N),CS ((fw c).R.V.S)]] [bU x5] [bU (gN c)])
 dsimp only
 have h1:=qt bJ
 have h4:=bo h1 4
 refine⟨bJ,h1,ab (fun h=>⟨h4,by simp,j_ h4 _,by trivial,?_⟩) (fun h=>⟨by trivial,?_⟩)⟩
 ·exact LdE (a:=⟨fO (ag (di c) 4) HW,eu c,eu (eG (ag (di c) 4) HW)⟩) (d:=di (eG (ag (di c) 4) HW)) (if_pos h).symm (if_pos h).symm
 ·have h:¬cD (di c) 4=true:=by rw[h];decide
  exact LdE (a:=⟨ah,eu c,l8⟩) (d:=ag (di c) 4) (if_neg h).symm (if_neg h).symm
def Vb:=cf (α:=aA×Int) (qC qU (q1 qI)) [.box false,.ro] (fun(c,e6)=>[df c]) (fun(c,e6)=>⟨[dA .eJ (Dz e6 c)],[],[dU (xy e6 c)]⟩)
def h_(c:aA)(e6:Int):Int×T4×T4×T5×Unit->Prop:=fun(i,r,p,cu,_)=>0<=i/\i<=vS c/\p.1=hZ c/\p.2.1=hU c/\p.2.2.2.1=0/\p.2.2.2.2.1=ah/\df ⟨cu.1,cu.2.1,cu.2.2.1⟩/\p.2.2.1.length<=i/\nl fw gN (vS c-i).toNat p.2.2.1 ⟨cu.1,cu.2.1,cu.2.2.1⟩=mq c/\pq gN (vS c-i).toNat ⟨cu.1,cu.2.1,cu.2.2.1⟩=kl c
def kK(c:aA)(e6:Int):Int×T4×T4×T5×Unit->Nat:=fun(i,r,p,cu,_)=>(vS c-i).toNat
def agV:AX Vb:=fun(c,e6)=>b_ [(14,aY [iI 7,.box 4 (4,1024) [.lit (.int .i64),.lit .str,.own .bN true,.lit (.int .i64),.lit .str],.box 5 (5,1024) [.lit (.int .i64),.lit .str,.own .bN true,.lit (.int .i64),.lit .str],.box 0 (2000000,0) [.shr .byte,.lit (.int .i64),.lit (.int .i64)]] (fun _=>h_ c e6) (kK c e6))]
def afH:HH:=hF Vb func130 [Tc,zZ,Jo,afh,Jp] agV fun x hp hb=>by
 obtain⟨c,e6⟩:=x
 have bJ:df c:=hp _ m0
 clear hp hb
 apply vE (let x4:=[{data:= #[114,101,102,117,110,100]:BA},{data:= #[99,97,110,99,101,108]:BA}];let x7:=[1,1,2,3,3,4,5,6];let x9:={data:= #[105,116,101,109]:BA};let sU:=[0,1,5,100000];let sT:={data:= #[]:BA};let x3:=[{data:= #[111,114,100,101,114]:BA},{data:= #[112,97,105,100]:BA},x9,{data:= #[115,104,105,112]:BA},{data:= #[99,104,97,114,103,101]:BA}];let x6:=x7.length;let l7:=sU.length;let x5:=(↑x6:Int);let x8:=(↑l7:Int);let x1:=x7.getD (Int.toNat (aJ c x5)) 0;let x2:=ag c x5;let x0:=eG x2 x3;let q0:=Dz e6 c;let q1:=Int×BA×List cj×Int×BA×PUnit;let q2:=xy e6 c;let q3:=(0,(0,sT,[],0,sT,()),(x1,fO x2 x3,[],0,sT,()),(x0.b,x0.i,x0.h,()),());let q4:=LM [DV.agg [CI x1,CS sT,CL .bN [],CI 0,CS sT]] [DV.agg [CI (q0.Kind),CS (q0.Name),CL .bN q0.aC,CI (q0.N),CS (q0.aX)]] [bU x2] [bU q2];let q5:=List Int×Int×Int×PUnit;0<=c.i/\L4 c.b.length/\1<=x6/\bif x1==2 then 0<=x2.i/\L4 x2.b.length/\LM [DV.agg [CI x1,CS sT,CL .bN [],CI (aJ x2 e6),CS sT]] [DV.agg [CI (q0.Kind),CS (q0.Name),CL .bN q0.aC,CI (q0.N),CS (q0.aX)]] [bU (ag x2 e6)] [bU q2] else bif x1==5 then bif x1==5 then q4 else df x2/\1<=x3.length/\bif (fO x2 x3).toList==x9.toList then h_ c e6 q3/\∀(y:Int×q1×q1×q5×PUnit),let iF:={b:=y.2.2.2.1.1,i:=y.2.2.2.1.2.1,h:=y.2.2.2.1.2.2.1:aA};let Cg:=y.2.2.1.1==3;let vi:=ag (ag iF x8) 2;let KN:=eG (ag iF 2) x4;let q6:=(wrap i64 (y.1+1),(y.2.1.1,y.2.1.2.1,y.2.1.2.2.1,y.2.1.2.2.2.1,y.2.1.2.2.2.2.1,()),(y.2.2.1.1,y.2.2.1.2.1,y.2.2.1.2.2.1++[fw iF],y.2.2.1.2.2.2.1,y.2.2.1.2.2.2.2.1,()),((gN iF).b,(gN iF).i,(gN iF).h,()),());let q7:=sU.getD (Int.toNat (aJ iF x8)) 0;let q8:=ag iF 2;h_ c e6 y->bif decide (y.1<2) then df iF/\y.2.2.1.2.2.1.length+List.length [fw iF]<=4294967296/\h_ c e6 q6/\kK c e6 q6<kK c e6 y else bif y.2.2.1.1==4 then 0<=y.2.2.2.1.2.1/\L4 y.2.2.2.1.1.length/\1<=l7/\bif Cg then df (ag iF x8)/\bif cD (ag iF x8) 2 then df vi/\1<=x4.length/\LM [DV.agg [CI y.2.2.1.1,CS y.2.2.1.2.1,CL .bN y.2.2.1.2.2.1,CI q7,CS (fO vi x4)]] [DV.agg [CI (q0.Kind),CS (q0.Name),CL .bN q0.aC,CI (q0.N),CS (q0.aX)]] [bU (eG vi x4)] [bU q2] else LM [DV.agg [CI y.2.2.1.1,CS y.2.2.1.2.1,CL .bN y.2.2.1.2.2.1,CI q7,CS y.2.2.1.2.2.2.2.1]] [DV.agg [CI (q0.Kind),CS (q0.Name),CL .bN q0.aC,CI (q0.N),CS (q0.aX)]] [bU vi] [bU q2] else LM [DV.agg [CI y.2.2.1.1,CS y.2.2.1.2.1,CL .bN y.2.2.1.2.2.1,CI q7,CS y.2.2.1.2.2.2.2.1]] [DV.agg [CI (q0.Kind),CS (q0.Name),CL .bN q0.aC,CI (q0.N),CS (q0.aX)]] [bU (ag iF x8)] [bU q2] else bif Cg then df iF/\bif cD iF 2 then df q8/\1<=x4.length/\LM [DV.agg [CI y.2.2.1.1,CS y.2.2.1.2.1,CL .bN y.2.2.1.2.2.1,CI y.2.2.1.2.2.2.1,CS (fO q8 x4)]] [DV.agg [CI (q0.Kind),CS (q0.Name),CL .bN q0.aC,CI (q0.N),CS (q0.aX)]] [bU KN] [bU q2] else LM [DV.agg [CI y.2.2.1.1,CS y.2.2.1.2.1,CL .bN y.2.2.1.2.2.1,CI y.2.2.1.2.2.2.1,CS y.2.2.1.2.2.2.2.1]] [DV.agg [CI (q0.Kind),CS (q0.Name),CL .bN q0.aC,CI (q0.N),CS (q0.aX)]] [bU q8] [bU q2] else LM [DV.agg [CI y.2.2.1.1,CS y.2.2.1.2.1,CL .bN y.2.2.1.2.2.1,CI y.2.2.1.2.2.2.1,CS y.2.2.1.2.2.2.2.1]] [DV.agg [CI (q0.Kind),CS (q0.Name),CL .bN q0.aC,CI (q0.N),CS (q0.aX)]] [DV.box [CL .byte y.2.2.2.1.1,CI y.2.2.2.1.2.1,CI y.2.2.2.1.2.2.1]] [bU q2] else h_ c e6 q3/\∀(y:Int×q1×q1×q5×PUnit),let iF:={b:=y.2.2.2.1.1,i:=y.2.2.2.1.2.1,h:=y.2.2.2.1.2.2.1:aA};let Cg:=y.2.2.1.1==3;let vi:=ag (ag iF x8) 2;let KN:=eG (ag iF 2) x4;let q9:=(wrap i64 (y.1+1),(y.2.1.1,y.2.1.2.1,y.2.1.2.2.1,y.2.1.2.2.2.1,y.2.1.2.2.2.2.1,()),(y.2.2.1.1,y.2.2.1.2.1,y.2.2.1.2.2.1++[fw iF],y.2.2.1.2.2.2.1,y.2.2.1.2.2.2.2.1,()),((gN iF).b,(gN iF).i,(gN iF).h,()),());let Zc:=sU.getD (Int.toNat (aJ iF x8)) 0;let Zb:=ag iF 2;h_ c e6 y->bif decide (y.1<1) then df iF/\y.2.2.1.2.2.1.length+List.length [fw iF]<=4294967296/\h_ c e6 q9/\kK c e6 q9<kK c e6 y else bif y.2.2.1.1==4 then 0<=y.2.2.2.1.2.1/\L4 y.2.2.2.1.1.length/\1<=l7/\bif Cg then df (ag iF x8)/\bif cD (ag iF x8) 2 then df vi/\1<=x4.length/\LM [DV.agg [CI y.2.2.1.1,CS y.2.2.1.2.1,CL .bN y.2.2.1.2.2.1,CI Zc,CS (fO vi x4)]] [DV.agg [CI (q0.Kind),CS (q0.Name),CL .bN q0.aC,CI (q0.N),CS (q0.aX)]] [bU (eG vi x4)] [bU q2] else LM [DV.agg [CI y.2.2.1.1,CS y.2.2.1.2.1,CL .bN y.2.2.1.2.2.1,CI Zc,CS y.2.2.1.2.2.2.2.1]] [DV.agg [CI (q0.Kind),CS (q0.Name),CL .bN q0.aC,CI (q0.N),CS (q0.aX)]] [bU vi] [bU q2] else LM [DV.agg [CI y.2.2.1.1,CS y.2.2.1.2.1,CL .bN y.2.2.1.2.2.1,CI Zc,CS y.2.2.1.2.2.2.2.1]] [DV.agg [CI (q0.Kind),CS (q0.Name),CL .bN q0.aC,CI (q0.N),CS (q0.aX)]] [bU (ag iF x8)] [bU q2] else bif Cg then df iF/\bif cD iF 2 then df Zb/\1<=x4.length/\LM [DV.agg [CI y.2.2.1.1,CS y.2.2.1.2.1,CL .bN y.2.2.1.2.2.1,CI y.2.2.1.2.2.2.1,CS (fO Zb x4)]] [DV.agg [CI (q0.Kind),CS (q0.Name),CL .bN q0.aC,CI (q0.N),CS (q0.aX)]] [bU KN] [bU q2] else LM [DV.agg [CI y.2.2.1.1,CS y.2.2.1.2.1,CL .bN y.2.2.1.2.2.1,CI y.2.2.1.2.2.2.1,CS y.2.2.1.2.2.2.2.1]] [DV.agg [CI (q0.Kind),CS (q0.Name),CL .bN q0.aC,CI (q0.N),CS (q0.aX)]] [bU Zb] [bU q2] else LM [DV.agg [CI y.2.2.1.1,CS y.2.2.1.2.1,CL .bN y.2.2.1.2.2.1,CI y.2.2.1.2.2.2.1,CS y.2.2.1.2.2.2.2.1]] [DV.agg [CI (q0.Kind),CS (q0.Name),CL .bN q0.aC,CI (q0.N),CS (q0.aX)]] [DV.box [CL .byte y.2.2.2.1.1,CI y.2.2.2.1.2.1,CI y.2.2.2.1.2.2.1]] [bU q2] else bif x1==6 then q4 else df x2/\1<=x3.length/\bif (fO x2 x3).toList==x9.toList then h_ c e6 q3/\∀(y:Int×q1×q1×q5×PUnit),let iF:={b:=y.2.2.2.1.1,i:=y.2.2.2.1.2.1,h:=y.2.2.2.1.2.2.1:aA};let Cg:=y.2.2.1.1==3;let vi:=ag (ag iF x8) 2;let KN:=eG (ag iF 2) x4;let W8:=(wrap i64 (y.1+1),(y.2.1.1,y.2.1.2.1,y.2.1.2.2.1,y.2.1.2.2.2.1,y.2.1.2.2.2.2.1,()),(y.2.2.1.1,y.2.2.1.2.1,y.2.2.1.2.2.1++[fw iF],y.2.2.1.2.2.2.1,y.2.2.1.2.2.2.2.1,()),((gN iF).b,(gN iF).i,(gN iF).h,()),());let Za:=sU.getD (Int.toNat (aJ iF x8)) 0;let Y_:=ag iF 2;h_ c e6 y->bif decide (y.1<2) then df iF/\y.2.2.1.2.2.1.length+List.length [fw iF]<=4294967296/\h_ c e6 W8/\kK c e6 W8<kK c e6 y else bif y.2.2.1.1==4 then 0<=y.2.2.2.1.2.1/\L4 y.2.2.2.1.1.length/\1<=l7/\bif Cg then df (ag iF x8)/\bif cD (ag iF x8) 2 then df vi/\1<=x4.length/\LM [DV.agg [CI y.2.2.1.1,CS y.2.2.1.2.1,CL .bN y.2.2.1.2.2.1,CI Za,CS (fO vi x4)]] [DV.agg [CI (q0.Kind),CS (q0.Name),CL .bN q0.aC,CI (q0.N),CS (q0.aX)]] [bU (eG vi x4)] [bU q2] else LM [DV.agg [CI y.2.2.1.1,CS y.2.2.1.2.1,CL .bN y.2.2.1.2.2.1,CI Za,CS y.2.2.1.2.2.2.2.1]] [DV.agg [CI (q0.Kind),CS (q0.Name),CL .bN q0.aC,CI (q0.N),CS (q0.aX)]] [bU vi] [bU q2] else LM [DV.agg [CI y.2.2.1.1,CS y.2.2.1.2.1,CL .bN y.2.2.1.2.2.1,CI Za,CS y.2.2.1.2.2.2.2.1]] [DV.agg [CI (q0.Kind),CS (q0.Name),CL .bN q0.aC,CI (q0.N),CS (q0.aX)]] [bU (ag iF x8)] [bU q2] else bif Cg then df iF/\bif cD iF 2 then df Y_/\1<=x4.length/\LM [DV.agg [CI y.2.2.1.1,CS y.2.2.1.2.1,CL .bN y.2.2.1.2.2.1,CI y.2.2.1.2.2.2.1,CS (fO Y_ x4)]] [DV.agg [CI (q0.Kind),CS (q0.Name),CL .bN q0.aC,CI (q0.N),CS (q0.aX)]] [bU KN] [bU q2] else LM [DV.agg [CI y.2.2.1.1,CS y.2.2.1.2.1,CL .bN y.2.2.1.2.2.1,CI y.2.2.1.2.2.2.1,CS y.2.2.1.2.2.2.2.1]] [DV.agg [CI (q0.Kind),CS (q0.Name),CL .bN q0.aC,CI (q0.N),CS (q0.aX)]] [bU Y_] [bU q2] else LM [DV.agg [CI y.2.2.1.1,CS y.2.2.1.2.1,CL .bN y.2.2.1.2.2.1,CI y.2.2.1.2.2.2.1,CS y.2.2.1.2.2.2.2.1]] [DV.agg [CI (q0.Kind),CS (q0.Name),CL .bN q0.aC,CI (q0.N),CS (q0.aX)]] [DV.box [CL .byte y.2.2.2.1.1,CI y.2.2.2.1.2.1,CI y.2.2.2.1.2.2.1]] [bU q2] else h_ c e6 q3/\∀(y:Int×q1×q1×q5×PUnit),let iF:={b:=y.2.2.2.1.1,i:=y.2.2.2.1.2.1,h:=y.2.2.2.1.2.2.1:aA};let Cg:=y.2.2.1.1==3;let vi:=ag (ag iF x8) 2;let KN:=eG (ag iF 2) x4;let q15:=(wrap i64 (y.1+1),(y.2.1.1,y.2.1.2.1,y.2.1.2.2.1,y.2.1.2.2.2.1,y.2.1.2.2.2.2.1,()),(y.2.2.1.1,y.2.2.1.2.1,y.2.2.1.2.2.1++[fw iF],y.2.2.1.2.2.2.1,y.2.2.1.2.2.2.2.1,()),((gN iF).b,(gN iF).i,(gN iF).h,()),());let Y':=sU.getD (Int.toNat (aJ iF x8)) 0;let Y9:=ag iF 2;h_ c e6 y->bif decide (y.1<1) then df iF/\y.2.2.1.2.2.1.length+List.length [fw iF]<=4294967296/\h_ c e6 q15/\kK c e6 q15<kK c e6 y else bif y.2.2.1.1==4 then 0<=y.2.2.2.1.2.1/\L4 y.2.2.2.1.1.length/\1<=l7/\bif Cg then df (ag iF x8)/\bif cD (ag iF x8) 2 then df vi/\1<=x4.length/\LM [DV.agg [CI y.2.2.1.1,CS y.2.2.1.2.1,CL .bN y.2.2.1.2.2.1,CI Y',CS (fO vi x4)]] [DV.agg [CI (q0.Kind),CS (q0.Name),CL .bN q0.aC,CI (q0.N),CS (q0.aX)]] [bU (eG vi x4)] [bU q2] else LM [DV.agg [CI y.2.2.1.1,CS y.2.2.1.2.1,CL .bN y.2.2.1.2.2.1,CI Y',CS y.2.2.1.2.2.2.2.1]] [DV.agg [CI (q0.Kind),CS (q0.Name),CL .bN q0.aC,CI (q0.N),CS (q0.aX)]] [bU vi] [bU q2] else LM [DV.agg [CI y.2.2.1.1,CS y.2.2.1.2.1,CL .bN y.2.2.1.2.2.1,CI Y',CS y.2.2.1.2.2.2.2.1]] [DV.agg [CI (q0.Kind),CS (q0.Name),CL .bN q0.aC,CI (q0.N),CS (q0.aX)]] [bU (ag iF x8)] [bU q2] else bif Cg then df iF/\bif cD iF 2 then df Y9/\1<=x4.length/\LM [DV.agg [CI y.2.2.1.1,CS y.2.2.1.2.1,CL .bN y.2.2.1.2.2.1,CI y.2.2.1.2.2.2.1,CS (fO Y9 x4)]] [DV.agg [CI (q0.Kind),CS (q0.Name),CL .bN q0.aC,CI (q0.N),CS (q0.aX)]] [bU KN] [bU q2] else LM [DV.agg [CI y.2.2.1.1,CS y.2.2.1.2.1,CL .bN y.2.2.1.2.2.1,CI y.2.2.1.2.2.2.1,CS y.2.2.1.2.2.2.2.1]] [DV.agg [CI (q0.Kind),CS (q0.Name),CL .bN q0.aC,CI (q0.N),CS (q0.aX)]] [bU Y9] [bU q2] else LM [DV.agg [CI y.2.2.1.1,CS y.2.2.1.2.1,CL .bN y.2.2.1.2.2.1,CI y.2.2.1.2.2.2.1,CS y.2.2.1.2.2.2.2.1]] [DV.agg [CI (q0.Kind),CS (q0.Name),CL .bN q0.aC,CI (q0.N),CS (q0.aX)]] [DV.box [CL .byte y.2.2.2.1.1,CI y.2.2.2.1.2.1,CI y.2.2.2.1.2.2.1]] [bU q2])
 dsimp only
 have hk:=nW bJ pu
 have kx:=I9 bJ
 have hle:=LQ c
 have fin:h_ c e6 ((0:Int),((0:Int),ah,[],(0:Int),ah,()),(hZ c,hU c,[],(0:Int),ah,()),((DB c).b,(DB c).i,(DB c).h,()),()):=⟨by omega,hle.1,rfl,rfl,rfl,rfl,kx,by simp,by simp only[Int.sub_zero];rfl,by simp only[Int.sub_zero];rfl⟩
 have h2:∀{b:Bool},((hU c).toList==Dx.toList)=b->vS c=if b=true then 2 else 1:=fun{b} h=>by
  rw[aQ] at h
  unfold vS
  cases b with
  |true=>rw[if_pos (yT h)];rfl
  |false=>rw[if_neg (yF h)];rfl
 have rest:¬hZ c=2->¬(hZ c=5\/hZ c=6)->Dz e6 c=⟨hZ c,hU c,mq c,tE c,uU c⟩/\xy e6 c=tF c:=fun n2 n56=>⟨(if_neg n2).trans (if_neg n56),(if_neg n2).trans (if_neg n56)⟩
 refine⟨bJ.1,bJ.2,by simp,ct (fun n2=>⟨hk.1,hk.2,by trivial,?_⟩) (fun n2=>ct (fun n5=>ct (fun n5'=>⟨by trivial,?_⟩) (fun n5'=>absurd n5 n5')) (fun n5=>ct (fun n6=>⟨by trivial,?_⟩) (fun n6=>⟨hk,by simp,ab (fun h=> ?_) (fun h=> ?_)⟩)))⟩
 ·exact DT (a:=⟨hZ c,ah,[],aJ (rb c pu) e6,ah⟩) (d:=ag (rb c pu) e6) (if_pos n2).symm (if_pos n2).symm
 ·exact DT (a:=⟨hZ c,ah,[],0,ah⟩) (d:=rb c pu) ((if_neg n2).trans (if_pos (.inl n5))).symm ((if_neg n2).trans (if_pos (.inl n5))).symm
 ·exact DT (a:=⟨hZ c,ah,[],0,ah⟩) (d:=rb c pu) ((if_neg n2).trans (if_pos (.inr n6))).symm ((if_neg n2).trans (if_pos (.inr n6))).symm
 all_goals
  have hN:=h2 h
  simp only[if_true,wb,if_false] at hN
  clear h
  have n56:¬(hZ c=5\/hZ c=6):=fun e=>e.elim n5 n6
  obtain⟨hA,hC⟩:=rest n2 n56
  rw[hA,hC]
  refine⟨fin,?_⟩
  rintro⟨i,⟨r1,r2,r3,r4,r5,⟨⟩⟩,⟨p1,p2,p3,p4,p5,⟨⟩⟩,⟨cb,ci,ch,⟨⟩⟩,⟨⟩⟩ ⟨g1,g2,g3,g4,g5,g6,g7,g8,g9,g10⟩
  simp only at g1 g2 g3 g4 g5 g6 g7 g8 g9 g10⊢
  subst g3 g4 g5 g6
  refine bc ?_ ?_<;>intro hc
  ·have e:(vS c-i).toNat=(vS c-(i+1)).toNat+1:=by omega
   rw[e] at g9 g10
   rw[wi]
   exact⟨g7,by simp only[ir,ig];omega,⟨by omega,by omega,rfl,rfl,rfl,rfl,I5 g7,by simp only[na,ir,ig];omega,g9,g10⟩,by simp only[kK];omega⟩
  ·have e:(vS c-i).toNat=0:=by omega
   rw[e] at g9 g10
   have g9:p3=mq c:=g9
   have g10:(⟨cb,ci,ch⟩:aA)=kl c:=g10
   have e1:cb=(kl c).b:=congrArg aA.b g10
   have e2:ci=(kl c).i:=congrArg aA.i g10
   have e3:ch=(kl c).h:=congrArg aA.h g10
   subst g9 e1 e2 e3
   have k3:=Dt bJ
   refine ct (fun h4=>⟨k3.1,k3.2,by simp,ct (fun h3=>absurd (h4.symm.trans h3) (by decide)) (fun h3=>⟨by trivial,?_⟩)⟩) (fun h4=>ct (fun h3=>⟨k3,ab (fun ho=>⟨bo k3 _,by simp,by trivial,?_⟩) (fun ho=>⟨by trivial,?_⟩)⟩) (fun h3=>⟨by trivial,?_⟩))
   ·have eT:tE c=j0 (kl c) vz:=if_pos h4
    have eU:uU c=ah:=if_neg (fun e=>h3 e.1)
    have e5:tF c=rb (kl c) vz:=(if_neg h3).trans (if_pos h4)
    exact DT (a':=⟨hZ c,hU c,mq c,tE c,uU c⟩) (d':=tF c) (a:=⟨hZ c,hU c,mq c,j0 (kl c) vz,ah⟩) (d:=rb (kl c) vz) (by rw[eT,eU]) e5.symm
   ·have eT:tE c=0:=if_neg h4
    have e4:nS c=kl c:=if_neg h4
    have ho:cD (nS c) 2=true:=by rw[e4];exact ho
    have eU:uU c=fO (ag (nS c) 2) qQ:=if_pos ⟨h3,ho⟩
    have e5:tF c=eG (ag (nS c) 2) qQ:=(if_pos h3).trans (if_pos ho)
    exact DT (a':=⟨hZ c,hU c,mq c,tE c,uU c⟩) (d':=tF c) (a:=⟨hZ c,hU c,mq c,0,fO (ag (kl c) 2) qQ⟩) (d:=eG (ag (kl c) 2) qQ) (by rw[eT,eU,e4]) (by rw[e5,e4])
   ·have eT:tE c=0:=if_neg h4
    have e4:nS c=kl c:=if_neg h4
    have ho:¬cD (nS c) 2=true:=by rw[e4,show cD (kl c) 2=false from ho];decide
    have eU:uU c=ah:=if_neg (fun e=>ho e.2)
    have e5:tF c=ag (nS c) 2:=(if_pos h3).trans (if_neg ho)
    exact DT (a':=⟨hZ c,hU c,mq c,tE c,uU c⟩) (d':=tF c) (a:=⟨hZ c,hU c,mq c,0,ah⟩) (d:=ag (kl c) 2) (by rw[eT,eU]) (by rw[e5,e4])
   ·have eT:tE c=0:=if_neg h4
    have eU:uU c=ah:=if_neg (fun e=>h3 e.1)
    have e5:tF c=kl c:=(if_neg h3).trans (if_neg h4)
    exact DT (a':=⟨hZ c,hU c,mq c,tE c,uU c⟩) (d':=tF c) (a:=⟨hZ c,hU c,mq c,0,ah⟩) (d:=kl c) (by rw[eT,eU]) e5.symm
def ad5:=cf (α:=cP×(List BA)) (qC (qA .im) (q1 (qL .str))) [.ro,.ro] (fun _=>[]) (fun(a,vars)=>⟨[dA .im (pY vars a)],[],[]⟩)
def afI:HH:=hF ad5 func129 [Qy,Qx,Qw] a0 fun x hp hb=>by
 obtain⟨a,vars⟩:=x
 clear hp hb
 apply vE (let q0:=pY vars a;bif dZ vars a then Lf [DV.agg [CI a.K,CS a.S,CI a.V.K,CI a.V.N,CS a.V.S]] [DV.agg [CI (q0.K),CS (q0.S),CI (q0.V.K),CI (q0.V.N),CS (q0.V.S)]] else bif (vars.length:Int)==0 then Lf [DV.agg [CI 2,CS ah,CI 1,CI 1,CS ({data:= #[]:BA})]] [DV.agg [CI (q0.K),CS (q0.S),CI (q0.V.K),CI (q0.V.N),CS (q0.V.S)]] else(0:Int)<=(0:Int)/\Int.toNat 0<vars.length/\Lf [DV.agg [CI 1,CS (vars.getD (Int.toNat 0) ah),CI du.K,CI du.N,CS du.S]] [DV.agg [CI (q0.K),CS (q0.S),CI (q0.V.K),CI (q0.V.N),CS (q0.V.S)]])
 dsimp only
 refine ab ?_ ?_<;>intro h
 ·have e:pY vars a=a:=if_pos h
  rw[e];exact aV _
 have h:¬dZ vars a=true:=by rw[h];decide
 refine ct (fun g=> ?_) (fun g=>⟨by omega,?_,?_⟩)
 ·have e:pY vars a=⟨2,ah,⟨1,1,ah⟩⟩:=(if_neg h).trans (if_pos (by omega))
  rw[e];exact aV _
 ·show 0<vars.length
  omega
 ·have e:pY vars a=⟨1,vars.getD 0 ah,du⟩:=(if_neg h).trans (if_neg (by omega))
  rw[e];exact aV _
def LL(s:aG)(f:aO):aG:=if 0<np s.aa f then s else⟨s.aa++[⟨s.Next,f⟩],s.Next+1⟩
def abt(id:Int)(x:bW):Bool:= !decide (x.Id=id)
def Ui(s:aG)(id:Int):aG:=⟨s.aa.filter (abt id),s.Next⟩
def JK:Nat->aG->aA->aG
 |0,s,_=>s
 |k+1,s,c=>if cD c 5=true/\0<s.aa.length then JK k (Ui s (s.aa.getD (aJ (ag c 5) s.aa.length).toNat bj).Id) (ag (ag c 5) s.aa.length) else JK k (LL s (jo (ag c 5))) (nQ (ag c 5))
def FC:Nat->aG->aA->aA
 |0,_,c=>c
 |k+1,s,c=>if cD c 5=true/\0<s.aa.length then FC k (Ui s (s.aa.getD (aJ (ag c 5) s.aa.length).toNat bj).Id) (ag (ag c 5) s.aa.length) else FC k (LL s (jo (ag c 5))) (nQ (ag c 5))
def Wn(c:aA):aG:=JK (aJ c 9).toNat ⟨[],1⟩ (ag c 9)
def Rf(c:aA):aA:=FC (aJ c 9).toNat ⟨[],1⟩ (ag c 9)
theorem F4{α:Type}(g:α->α)(e:α)(B:List α):∀A:List α,(A++e::B).modify A.length g=A++g e::B
 |[]=>rfl
 |a::A=>by
  show(a::(A++e::B)).modify (A.length+1) g=a::(A++g e::B)
  rw[List.modify_succ_cons,F4 g e B A]
def iQ(vars:List BA)(xs:List cj)(k:Nat):List cj:=(xs.take k).map (ox vars)++xs.drop k
theorem yQ(vars:List BA)(xs:List cj){k:Nat}(h:k<=xs.length):(iQ vars xs k).length=xs.length:=by
 simp only[iQ,na,uW,nE,Jt];omega
theorem EY{vars:List BA}{xs:List cj}{k:Nat}(h:k<xs.length):iQ vars xs k=(xs.take k).map (ox vars)++xs.getD k ez::xs.drop (k+1):=by
 have hd:xs.drop k=xs.getD k ez::xs.drop (k+1):=by
  rw[Nu h,dB,eW h];rfl
 rw[iQ,hd]
theorem EX{vars:List BA}{xs:List cj}{k:Nat}(h:k<xs.length)(g:cj->cj):(iQ vars xs k).modify k g=(xs.take k).map (ox vars)++g (xs.getD k ez)::xs.drop (k+1):=by
 have hk:((xs.take k).map (ox vars)).length=k:=by rw[uW,nE];omega
 rw[EY h]
 have:=F4 g (xs.getD k ez) (xs.drop (k+1)) ((xs.take k).map (ox vars))
 rwa[hk] at this
theorem Kq{vars:List BA}{xs:List cj}{k:Nat}(h:k<xs.length)(g g':cj->cj):((iQ vars xs k).modify k g).modify k g'=(xs.take k).map (ox vars)++g' (g (xs.getD k ez))::xs.drop (k+1):=by
 have hk:((xs.take k).map (ox vars)).length=k:=by rw[uW,nE];omega
 rw[EX h]
 have:=F4 g' (g (xs.getD k ez)) (xs.drop (k+1)) ((xs.take k).map (ox vars))
 rwa[hk] at this
theorem De{vars:List BA}{xs:List cj}{k:Nat}(h:k<xs.length):(xs.take k).map (ox vars)++ox vars (xs.getD k ez)::xs.drop (k+1)=iQ vars xs (k+1):=by
 rw[iQ,wx ez h,HC];simp
theorem yR{vars:List BA}{xs:List cj}{k:Nat}(h:k<xs.length):(iQ vars xs k).getD k ez=xs.getD k ez:=by
 have hk:((xs.take k).map (ox vars)).length=k:=by rw[uW,nE];omega
 rw[EY h,dB,ya (by omega),hk,To];rfl
theorem vG{vars:List BA}{xs:List cj}{k:Nat}(h:k<xs.length)(g:cj->cj):((iQ vars xs k).modify k g).getD k ez=g (xs.getD k ez):=by
 rw[mod_self _ (by rw[yQ _ _ (by omega)];exact h),yR h]
theorem NS(c:aA):(∀p,p∈dl c->p.aC.length<=2)/\(dl c).length<=4:=by
 have h1:∀(b:Bool)(d:aA),(o7 b d).aC.length<=2:=fun b d=>by
  have:=FQ d
  show(nl _ _ _ _ _).length<=2
  rw[mC];simp only[ig];omega
 have h2:=n0 (f:=o7 false) (g:=jH) (fun p=>p.aC.length<=2) (h1 false) (NT c).toNat [] (FF c) (fun x hx=>by cases hx)
 have h3:=mC (o7 false) jH (NT c).toNat [] (FF c)
 have h4:=JP c
 unfold dl
 split
 ·refine⟨fun p hp=> ?_,?_⟩
  ·rcases jE.1 hp with hp|hp
   ·exact h2 p hp
   ·rw[mb] at hp;subst hp;exact h1 true _
  ·simp only[kq,na,ir,ig] at h3⊢;omega
 ·exact⟨h2,by simp only[kq,ig] at h3⊢;omega⟩
theorem u7:∀{ps:List ck},(∀p,p∈ps->p.aC.length<=2)->de ps<=2*ps.length
 |[],_=>sB _
 |p::ps,h=>by
  have h1:=h p (by simp)
  have h2:=u7 (ps:=ps) (fun q hq=>h q (by simp[hq]))
  simp only[de,sS,NA,ir] at h2⊢;omega
theorem LdR{a a':a_}{d d':aA}(h1:a=a')(h2:d=d'):gH [DV.agg [.lit (.string a.Name),CI a.nB,.sl .ey a.aM,.sl .cM a.bt,.sl .eJ a.cx]]=gH [DV.agg [.lit (.string a'.Name),CI a'.nB,.sl .ey a'.aM,.sl .cM a'.bt,.sl .eJ a'.cx]]/\gH [DV.box [.sl .byte d.b,CI d.i,CI d.h]]=gH [DV.box [.sl .byte d'.b,CI d'.i,CI d'.h]]:=by
 subst h1 h2;exact⟨rfl,rfl⟩
def DG:=cf (α:=aA×BA) (qC qU (q1 qS)) [.box false,.ro] (fun(c,name)=>[df c]) (fun(c,name)=>⟨[dA .cv (wD name c)],[],[dU (vn c)]⟩)
def DN(c:aA)(name:BA):Int×T1×T1×T5×Unit->Prop:=fun(i,q,r,cu,_)=>r=(name,j0 c kF,r.2.2.1,[],[],())/\0<=i/\i<=3/\r.2.2.1.length+i<=3/\df ⟨cu.1,cu.2.1,cu.2.2.1⟩/\nl (o7 false) jH i.toNat r.2.2.1 ⟨cu.1,cu.2.1,cu.2.2.1⟩=kq c/\pq jH i.toNat ⟨cu.1,cu.2.1,cu.2.2.1⟩=D5 c
def GK(c:aA)(name:BA):Int×T1×T1×T5×Unit->Nat:=fun(i,q,r,cu,_)=>i.toNat
def uK(c:aA)(name:BA):Int×List BA×T1×T1×T5×Unit->Prop:=fun(i,vs,q,r,cu,_)=>vs=cR c/\r=(name,j0 c kF,dl c,fo c,r.2.2.2.2.1,())/\0<=i/\i<=3/\r.2.2.2.2.1.length+i<=3/\df ⟨cu.1,cu.2.1,cu.2.2.1⟩/\nl (Ey c) (pV c) i.toNat r.2.2.2.2.1 ⟨cu.1,cu.2.1,cu.2.2.1⟩=pU c/\pq (pV c) i.toNat ⟨cu.1,cu.2.1,cu.2.2.1⟩=vn c
def uA(c:aA)(name:BA):Int×List BA×T1×T1×T5×Unit->Nat:=fun(i,vs,q,r,cu,_)=>i.toNat
def uJ(c:aA)(name:BA):Int×Int×List BA×T4×T1×T1×T5×Unit->Int×Int×List BA×T4×T1×T1×T5×Unit->Prop:=fun(i0,k0,vs0,a0,q0,r0,cu0,_) (i,k,vs,a,q,r,cu,_)=>i=i0/\vs=vs0/\a=(a0.1,a0.2.1,a.2.2.1,a0.2.2.2.1,a0.2.2.2.2.1,())/\r=r0/\cu=cu0/\0<=k/\k<=a0.2.2.1.length/\a.2.2.1=iQ (cR c) a0.2.2.1 k.toNat
def pH(c:aA)(name:BA):Int×Int×List BA×T4×T1×T1×T5×Unit->Nat:=fun(i,k,vs,a,q,r,cu,_)=>a.2.2.1.length-k.toNat
def Ti:AX DG:=fun(c,name)=>b_ [(3,aY [iI 6,.box 4 (4,1024) [.lit .str,.lit (.int .i64),.own .ey true,.own .cM true,.own .eJ true],.box 5 (5,1024) [.lit .str,.lit (.int .i64),.own .ey true,.own .cM true,.own .eJ true],.box 0 (2000000,0) [.shr .byte,.lit (.int .i64),.lit (.int .i64)]] (fun _=>DN c name) (GK c name)),(15,aY [iI 9,iO 7 .str,.box 4 (4,1024) [.lit .str,.lit (.int .i64),.own .ey true,.own .cM true,.own .eJ true],.box 5 (5,1024) [.lit .str,.lit (.int .i64),.own .ey true,.own .cM true,.own .eJ true],.box 0 (2000000,0) [.shr .byte,.lit (.int .i64),.lit (.int .i64)]] (fun _=>uK c name) (uA c name)),(19,aY [iI 9,iI 11,iO 7 .str,.box 10 (10,1024) [.lit (.int .i64),.lit .str,.own .bN true,.lit (.int .i64),.lit .str],.box 4 (4,1024) [.lit .str,.lit (.int .i64),.own .ey true,.own .cM true,.own .eJ true],.box 5 (5,1024) [.lit .str,.lit (.int .i64),.own .ey true,.own .cM true,.own .eJ true],.box 0 (2000000,0) [.shr .byte,.lit (.int .i64),.lit (.int .i64)]] (uJ c name) (pH c name))]
def S7:=us [Tc,zZ,afK,Jp,VF,afJ,afI,LR,afH]
def ed(c:aA)(name:BA):List BA×T1×T1×T5×Unit->Prop:=fun(vs,q,r,cu,_)=>vs=cR c/\r=(name,j0 c kF,dl c,fo c,[],())/\df ⟨cu.1,cu.2.1,cu.2.2.1⟩/\(⟨cu.1,cu.2.1,cu.2.2.1⟩:aA)=yj c
def kQ:DG.α->sA UU:=fun(c,name)=>aY [iO 7 .str,.box 4 (4,1024) [.lit .str,.lit (.int .i64),.own .ey true,.own .cM true,.own .eJ true],.box 5 (5,1024) [.lit .str,.lit (.int .i64),.own .ey true,.own .cM true,.own .eJ true],.box 0 (2000000,0) [.shr .byte,.lit (.int .i64),.lit (.int .i64)]] (fun _=>ed c name) (fun _=>0)
theorem akD(c:aA)(name:BA)(y:List BA×T1×T1×T5×Unit):ov EE S7 f78 DG Ti (c,name) 14 (kQ (c,name)) y=(let x1:={b:=y.2.2.2.1.1,i:=y.2.2.2.1.2.1,h:=y.2.2.2.1.2.2.1:aA};let x0:=ag x1 3;let q0:=BA×Int×List ck×List dt×List dQ×PUnit;let q1:=wD name c;0<=y.2.2.2.1.2.1/\y.2.2.2.1.1.length<=4294967296/\uK c name (wrap i64 (1+aJ x1 3),y.1,(y.2.1.1,y.2.1.2.1,y.2.1.2.2.1,y.2.1.2.2.2.1,y.2.1.2.2.2.2.1,()),(y.2.2.1.1,y.2.2.1.2.1,y.2.2.1.2.2.1,y.2.2.1.2.2.2.1,y.2.2.1.2.2.2.2.1,()),(x0.b,x0.i,x0.h,()),())/\∀(y:Int×List BA×q0×q0×Y0×PUnit),let x4:={b:=y.2.2.2.2.1.1,i:=y.2.2.2.2.1.2.1,h:=y.2.2.2.2.1.2.2.1:aA};let x5:=(↑(cJ y.2.2.2.1.2.2.1):Int);let x2:=Dz x5 x4;let x3:=xy x5 x4;let q2:=(y.1,0,y.2.1,(x2.Kind,x2.Name,x2.aC,x2.N,x2.aX,()),(y.2.2.1.1,y.2.2.1.2.1,y.2.2.1.2.2.1,y.2.2.1.2.2.2.1,y.2.2.1.2.2.2.2.1,()),(y.2.2.2.1.1,y.2.2.2.1.2.1,y.2.2.2.1.2.2.1,y.2.2.2.1.2.2.2.1,y.2.2.2.1.2.2.2.2.1,()),(x3.b,x3.i,x3.h,()),());uK c name y->bif decide (y.1>0) then df x4/\uJ c name q2 q2/\∀(aE:Int×Int×List BA×(Int×BA×List cj×Int×BA×PUnit)×q0×q0×Y0×PUnit),let x7:=[{Kind:=aE.2.2.2.1.1,Name:=aE.2.2.2.1.2.1,aC:=aE.2.2.2.1.2.2.1,N:=aE.2.2.2.1.2.2.2.1,aX:=aE.2.2.2.1.2.2.2.2.1:dQ}];let x8:=Int.toNat aE.2.1;let l7:=aE.2.2.2.1.2.2.1.length;let sU:=wrap i64 (aE.2.1+1);let x6:=aE.2.2.2.1.2.2.1.modify x8 fun(x:cj)=>{Op:=x.Op,L:=pY aE.2.2.1 (aE.2.2.2.1.2.2.1.getD x8 ez).L,R:=x.R:cj};let x9:=(↑l7:Int);let q3:=(aE.2.2.2.2.1.1,aE.2.2.2.2.1.2.1,aE.2.2.2.2.1.2.2.1,aE.2.2.2.2.1.2.2.2.1,aE.2.2.2.2.1.2.2.2.2.1,());let q4:=(aE.2.2.2.2.2.2.1.1,aE.2.2.2.2.2.2.1.2.1,aE.2.2.2.2.2.2.1.2.2.1,());let q5:=(aE.2.2.2.2.2.1.1,aE.2.2.2.2.2.1.2.1,aE.2.2.2.2.2.1.2.2.1,aE.2.2.2.2.2.1.2.2.2.1,aE.2.2.2.2.2.1.2.2.2.2.1,());let q6:=(wrap i64 (aE.1-1),aE.2.2.1,q3,(aE.2.2.2.2.2.1.1,aE.2.2.2.2.2.1.2.1,aE.2.2.2.2.2.1.2.2.1,aE.2.2.2.2.2.1.2.2.2.1,aE.2.2.2.2.2.1.2.2.2.2.1++x7,()),q4,());let q7:=(aE.1,sU,aE.2.2.1,(aE.2.2.2.1.1,aE.2.2.2.1.2.1,x6,aE.2.2.2.1.2.2.2.1,aE.2.2.2.1.2.2.2.2.1,()),q3,q5,q4,());let q8:=x6.getD x8 ez;uJ c name q2 aE->bif decide (aE.2.1<x9) then 0<=aE.2.1/\x8<l7/\x8<l7/\0<=aE.2.1/\x8<l7/\x8<l7/\0<=aE.2.1/\x8<x6.length/\x8<x6.length/\bif !q8.Op.toList==ByteArray.toList {data:= #[]:BA} then 0<=aE.2.1/\x8<x6.length/\x8<x6.length/\0<=aE.2.1/\x8<x6.length/\x8<x6.length/\uJ c name q2 (aE.1,sU,aE.2.2.1,(aE.2.2.2.1.1,aE.2.2.2.1.2.1,x6.modify x8 fun(x:cj)=>{Op:=x.Op,L:=x.L,R:=pY aE.2.2.1 q8.R:cj},aE.2.2.2.1.2.2.2.1,aE.2.2.2.1.2.2.2.2.1,()),q3,q5,q4,())/\pH c name (aE.1,sU,aE.2.2.1,(aE.2.2.2.1.1,aE.2.2.2.1.2.1,x6.modify x8 fun(x:cj)=>{Op:=x.Op,L:=x.L,R:=pY aE.2.2.1 q8.R:cj},aE.2.2.2.1.2.2.2.1,aE.2.2.2.1.2.2.2.2.1,()),q3,q5,q4,())<pH c name aE else uJ c name q2 q7/\pH c name q7<pH c name aE else aE.2.2.2.2.2.1.2.2.2.2.1.length+x7.length<=4294967296/\uK c name q6/\uA c name q6<uA c name y else LM [DV.agg [CS y.2.2.2.1.1,CI y.2.2.2.1.2.1,CL .ey y.2.2.2.1.2.2.1,CL .cM y.2.2.2.1.2.2.2.1,CL .eJ y.2.2.2.1.2.2.2.2.1]] [DV.agg [CS (q1.Name),CI (q1.nB),CL .ey q1.aM,CL .cM q1.bt,CL .eJ q1.cx]] [DV.box [CL .byte y.2.2.2.2.1.1,CI y.2.2.2.2.1.2.1,CI y.2.2.2.2.1.2.2.1]] [bU (vn c)]):=by kernel_rfl
theorem Ci(c:aA)(name:BA)(y:List BA×T1×T1×T5×Unit)(hp:∀p∈DG.pre (c,name),p)(hb:∀d∈DG.ds (c,name),gz d)(hy:ed c name y):ov EE S7 f78 DG Ti (c,name) 14 (kQ (c,name)) y:=by
 have yE:=YP (x:=c) (hb _ m0)
 have Ak:=KB (s:=name) (hb _ m1)
 have bJ:df c:=hp _ m0
 clear hp hb
 rw[akD c name y]
 dsimp only
 have hM:=NU c
 have w2:IntKind.wrap .i64 (1+aJ (yj c) 3)=No c:=wi (n:=No c)
 obtain⟨vs,⟨q1,q2,q3,q4,q5,⟨⟩⟩,⟨r1,r2,r3,r4,r5,⟨⟩⟩,⟨cb,ci,ch,⟨⟩⟩,⟨⟩⟩:=y
 obtain⟨DZ,hr,g4,g7⟩:=hy
 simp only[nT,and_true,true_and] at DZ hr g4 g7
 obtain⟨m1,m2,m3,m4,m5⟩:=hr
 have m1:=m1.symm
 subst m1 DZ m2 m3 m4 m5
 have fin:∀d e:aA,d=yj c->e=NV c->uK c name (IntKind.wrap .i64 (1+aJ d 3),cR c,(q1,q2,q3,q4,q5,()),(name,j0 c kF,dl c,fo c,[],()),(e.b,e.i,e.h,()),()):=by
  intro d e hd he
  have w3:IntKind.wrap .i64 (1+aJ d 3)=No c:=by rw[hd];exact w2
  rw[w3]
  refine⟨rfl,rfl,by omega,by omega,by simp only[ig];omega,?_,?_,?_⟩
  ·show df e
   rw[he];exact bo (GA bJ) 3
  ·show nl (Ey c) (pV c) (No c).toNat [] e=pU c
   rw[he,pU]
  ·show pq (pV c) (No c).toNat e=vn c
   rw[he,vn]
 refine⟨g4.1,g4.2,fin ⟨cb,ci,ch⟩ (ag ⟨cb,ci,ch⟩ 3) g7 (by rw[g7,NV]),?_⟩
 clear g7 fin
 clear hM w2 g4
 rintro⟨i,vs,⟨q1,q2,q3,q4,q5,⟨⟩⟩,⟨r1,r2,r3,r4,r5,⟨⟩⟩,⟨cb,ci,ch,⟨⟩⟩,⟨⟩⟩ ⟨DZ,hr,g1,g2,g3,g4,g5,g6⟩
 have m1:name=r1:=(congrArg Prod.fst hr).symm
 have m2:r2=j0 c kF:=congrArg (fun t=>t.2.1) hr
 have m3:r3=dl c:=congrArg (fun t=>t.2.2.1) hr
 have m4:r4=fo c:=congrArg (fun t=>t.2.2.2.1) hr
 have DZ:vs=cR c:=DZ
 clear hr
 subst m1 DZ m2 m3 m4
 have g1:0<=i:=g1
 have g2:i<=3:=g2
 have g3:(r5.length:Int)+i<=3:=g3
 have g4:df ⟨cb,ci,ch⟩:=g4
 have g5:nl (Ey c) (pV c) i.toNat r5 ⟨cb,ci,ch⟩=pU c:=g5
 have g6:pq (pV c) i.toNat ⟨cb,ci,ch⟩=vn c:=g6
 refine bc (fun hc=> ?_) (fun hc=>⟨by trivial,?_⟩)
 ·have hc:i>0:=hc
  generalize hp:((cJ (dl c):Nat):Int)=pn at*
  have hAl:=Ni pn ⟨cb,ci,ch⟩
  have aku:Ey c ⟨cb,ci,ch⟩=Df (cR c) (Dz pn ⟨cb,ci,ch⟩):=by rw[<-hp];rfl
  have ab5:pV c ⟨cb,ci,ch⟩=xy pn ⟨cb,ci,ch⟩:=by rw[<-hp];rfl
  have kC:=I8 pn g4
  clear hp
  generalize Dz pn ⟨cb,ci,ch⟩=a at*
  generalize xy pn ⟨cb,ci,ch⟩=d at*
  refine⟨g4,⟨rfl,rfl,rfl,rfl,rfl,by omega,by simp only;omega,rfl⟩,?_⟩
  rintro⟨i',k,uP,⟨a1,a2,a3,a4,a5,⟨⟩⟩,⟨q1',q2',q3',q4',q5',⟨⟩⟩,⟨r1',Rh,r3',r4',r5',⟨⟩⟩,⟨cb',ci',ch',⟨⟩⟩,⟨⟩⟩ ⟨hi,hv,ha,hr,hcu,k1,k2,hl⟩
  have hi:i=i':=Eq.symm hi
  have hv:uP=cR c:=hv
  have n1:a1=a.Kind:=congrArg Prod.fst ha
  have n2:a2=a.Name:=congrArg (fun t=>t.2.1) ha
  have n3:a4=a.N:=congrArg (fun t=>t.2.2.2.1) ha
  have n4:a5=a.aX:=congrArg (fun t=>t.2.2.2.2.1) ha
  have m1:r1'=name:=congrArg Prod.fst hr
  have m2:Rh=j0 c kF:=congrArg (fun t=>t.2.1) hr
  have m3:r3'=dl c:=congrArg (fun t=>t.2.2.1) hr
  have m4:r4'=fo c:=congrArg (fun t=>t.2.2.2.1) hr
  have m5:r5=r5':=(congrArg (fun t=>t.2.2.2.2.1) hr).symm
  have u1:cb'=d.b:=congrArg Prod.fst hcu
  have u2:ci'=d.i:=congrArg (fun t=>t.2.1) hcu
  have u3:ch'=d.h:=congrArg (fun t=>t.2.2.1) hcu
  have k1:0<=k:=k1
  have k2:k<=a.aC.length:=k2
  have hl:a3=iQ (cR c) a.aC k.toNat:=hl
  clear ha hr hcu
  have m1:=m1.symm
  subst n1 n2 n3 n4 m2 m3 m4 u1 u2 u3 hl hv hi m5
  subst m1
  have hlen:(iQ (cR c) a.aC k.toNat).length=a.aC.length:=yQ _ _ (by omega)
  refine bc ?_ ?_<;>intro hk
  ·have hk:k<((iQ (cR c) a.aC k.toNat).length:Int):=hk
   rw[hlen] at hk
   have sP:k.toNat<a.aC.length:=by omega
   have p1:k.toNat<(iQ (cR c) a.aC k.toNat).length:=by omega
   have p2:∀g,k.toNat<((iQ (cR c) a.aC k.toNat).modify k.toNat g).length:=fun g=>by rw[HI];exact p1
   have ek:(k+1).toNat=k.toNat+1:=by omega
   have nx:∀l:List cj,l=iQ (cR c) a.aC (k.toNat+1)->uJ c name (i,0,cR c,(a.Kind,a.Name,a.aC,a.N,a.aX,()),(q1,q2,q3,q4,q5,()),(name,j0 c kF,dl c,fo c,r5,()),(d.b,d.i,d.h,()),()) (i,IntKind.wrap .i64 (k+1),cR c,(a.Kind,a.Name,l,a.N,a.aX,()),(q1',q2',q3',q4',q5',()),(name,j0 c kF,dl c,fo c,r5,()),(d.b,d.i,d.h,()),())/\pH c name (i,IntKind.wrap .i64 (k+1),cR c,(a.Kind,a.Name,l,a.N,a.aX,()),(q1',q2',q3',q4',q5',()),(name,j0 c kF,dl c,fo c,r5,()),(d.b,d.i,d.h,()),())<pH c name (i,k,cR c,(a.Kind,a.Name,iQ (cR c) a.aC k.toNat,a.N,a.aX,()),(q1',q2',q3',q4',q5',()),(name,j0 c kF,dl c,fo c,r5,()),(d.b,d.i,d.h,()),()):=by
    rintro l rfl
    have zv:(iQ (cR c) a.aC (k.toNat+1)).length=a.aC.length:=yQ _ _ (by omega)
    rw[wi (n:=k+1)]
    exact⟨⟨rfl,rfl,rfl,rfl,rfl,by omega,by simp only;omega,by rw[ek]⟩,by simp only[pH];omega⟩
   refine⟨k1,p1,p1,k1,p1,p1,k1,p2 _,p2 _,Lp (fun o=>⟨k1,p2 _,p2 _,k1,p2 _,p2 _,nx _ ?_⟩) (fun o=>nx _ ?_)⟩
   ·have o:¬(a.aC.getD k.toNat ez).Op=ah:=fun e=>o ((congrArg cj.Op (vG sP _)).trans e)
    refine(Kq sP _ _).trans (Eq.trans ?_ (De sP))
    congr 2
    show(⟨_,_,pY (cR c) (((iQ (cR c) a.aC k.toNat).modify k.toNat _).getD k.toNat ez).R⟩:cj)=_
    rw[vG sP,yR sP]
    simp only[ox,if_neg o]
   ·have o:(a.aC.getD k.toNat ez).Op=ah:=(congrArg cj.Op (vG sP _)).symm.trans o
    refine(EX sP _).trans (Eq.trans ?_ (De sP))
    congr 2
    show(⟨_,pY (cR c) ((iQ (cR c) a.aC k.toNat).getD k.toNat ez).L,_⟩:cj)=_
    rw[yR sP]
    simp only[ox,if_pos o]
  ·have hk:¬k<((iQ (cR c) a.aC k.toNat).length:Int):=hk
   rw[hlen] at hk
   have hf:iQ (cR c) a.aC k.toNat=a.aC.map (ox (cR c)):=by
    rw[iQ,QN (by omega),List.drop_eq_nil_of_le (by omega),sR]
   have e:i.toNat=(i-1).toNat+1:=by omega
   rw[e] at g5 g6
   simp only[nl,pq,aku,ab5] at g5 g6
   have fin:uK c name (IntKind.wrap .i64 (i-1),cR c,(q1',q2',q3',q4',q5',()),(name,j0 c kF,dl c,fo c,r5++[⟨a.Kind,a.Name,iQ (cR c) a.aC k.toNat,a.N,a.aX⟩],()),(d.b,d.i,d.h,()),())/\uA c name (IntKind.wrap .i64 (i-1),cR c,(q1',q2',q3',q4',q5',()),(name,j0 c kF,dl c,fo c,r5++[⟨a.Kind,a.Name,iQ (cR c) a.aC k.toNat,a.N,a.aX⟩],()),(d.b,d.i,d.h,()),())<uA c name (i,cR c,(q1,q2,q3,q4,q5,()),(name,j0 c kF,dl c,fo c,r5,()),(cb,ci,ch,()),()):=by
    rw[hf,wi (n:=i-1)]
    exact⟨⟨rfl,rfl,by omega,by omega,by simp only[na,ir,ig];omega,kC,g5,g6⟩,by simp only[uA];omega⟩
   have hr5:r5.length+1<=4294967296:=by omega
   exact⟨hr5,fin⟩
 ·have hc:¬i>0:=hc
  have e:i.toNat=0:=by omega
  rw[e] at g5 g6
  have g5:r5=pU c:=g5
  have g6:(⟨cb,ci,ch⟩:aA)=vn c:=g6
  exact LdR (a:=⟨name,j0 c kF,dl c,fo c,r5⟩) (a':=⟨name,j0 c kF,dl c,fo c,pU c⟩) (d:=⟨cb,ci,ch⟩) (d':=vn c) (by rw[g5]) g6
theorem Ch(c:aA)(name:BA)(hp:∀p∈DG.pre (c,name),p)(hb:∀d∈DG.ds (c,name),gz d):tu EE S7 f78 DG Ti (c,name) 14 (kQ (c,name)):=by
 have yE:=YP (x:=c) (hb _ m0)
 have Ak:=KB (s:=name) (hb _ m1)
 have bJ:df c:=hp _ m0
 clear hp hb
 apply vE (let x3:=[0,0,5,(-5),100];let x2:=x3.length;let x1:=(↑x2:Int);let x0:=ag c x1;let q0:=BA×Int×List ck×List dt×List dQ×PUnit;let q1:=ag x0 3;0<=c.i/\L4 c.b.length/\1<=x2/\0<=x0.i/\L4 x0.b.length/\DN c name (wrap i64 (1+aJ x0 3),({data:= #[]:BA},0,[],[],[],()),(name,x3.getD (Int.toNat (aJ c x1)) 0,[],[],[],()),(q1.b,q1.i,q1.h,()),())/\∀(y:Int×q0×q0×Y0×PUnit),let l7:={b:=y.2.2.2.1.1,i:=y.2.2.2.1.2.1,h:=y.2.2.2.1.2.2.1:aA};let sU:=cI y.2.2.1.2.2.1;let sT:=y.2.2.1.2.2.2.1.length;let iF:=y.2.2.1.2.2.1.length;let vi:=[{Kind:=(o7 false l7).Kind,aC:=(o7 false l7).aC,Not:=false:ck}];let x9:=ag l7 3;let KN:=[{Kind:=(o7 true x9).Kind,aC:=(o7 true x9).aC,Not:=true:ck}];let x6:=y.2.2.1.2.2.1++KN;let x7:=ag (jH x9) 3;let x8:=ag x9 3;let Cg:=[{Op:=(1:Int)+aJ x8 3,L:=pY sU (eu (ag x8 3)),R:=pY sU (eu (di (ag x8 3))):dt}];let Jv:=di (di (ag x7 3));let x18:=di (di (ag x8 3));let x5:=cI x6;let x4:=[{Op:=(1:Int)+aJ x7 3,L:=pY x5 (eu (ag x7 3)),R:=pY x5 (eu (di (ag x7 3))):dt}];let q2:=(y.2.1.1,y.2.1.2.1,y.2.1.2.2.1,y.2.1.2.2.2.1,y.2.1.2.2.2.2.1,());let q3:=(wrap i64 (y.1-1),q2,(y.2.2.1.1,y.2.2.1.2.1,y.2.2.1.2.2.1++vi,y.2.2.1.2.2.2.1,y.2.2.1.2.2.2.2.1,()),((jH l7).b,(jH l7).i,(jH l7).h,()),());DN c name y->bif decide (y.1>0) then df l7/\L4 (iF+vi.length)/\DN c name q3/\GK c name q3<GK c name y else df l7/\bif cD l7 3 then df x9/\L4 (iF+KN.length)/\L4 (de x6)/\df (jH x9)/\bif cD (jH x9) 3 then df x7/\L4 (sT+x4.length)/\ed c name (x5,q2,(y.2.2.1.1,y.2.2.1.2.1,x6,y.2.2.1.2.2.2.1++x4,y.2.2.1.2.2.2.2.1,()),(Jv.b,Jv.i,Jv.h,()),()) else ed c name (x5,q2,(y.2.2.1.1,y.2.2.1.2.1,x6,y.2.2.1.2.2.2.1,y.2.2.1.2.2.2.2.1,()),(x7.b,x7.i,x7.h,()),()) else L4 (de y.2.2.1.2.2.1)/\df x9/\bif cD x9 3 then df x8/\L4 (sT+Cg.length)/\ed c name (sU,q2,(y.2.2.1.1,y.2.2.1.2.1,y.2.2.1.2.2.1,y.2.2.1.2.2.2.1++Cg,y.2.2.1.2.2.2.2.1,()),(x18.b,x18.i,x18.h,()),()) else ed c name (sU,q2,(y.2.2.1.1,y.2.2.1.2.1,y.2.2.1.2.2.1,y.2.2.1.2.2.2.1,y.2.2.1.2.2.2.2.1,()),(x8.b,x8.i,x8.h,()),()))
 dsimp only
 have hk:=nW bJ kF
 have hN:=JP c
 have hPA:=NS c
 have hpa:de (dl c)<=4294967296:=by have:=u7 hPA.1;omega
 have fin:∀(vs:List BA)(q:BA×Int×List ck×List dt×List dQ×PUnit)(ps:List ck)(cs:List dt)(d:aA),vs=cR c->ps=dl c->cs=fo c->d=yj c->ed c name (vs,q,(name,j0 c kF,ps,cs,[],()),(d.b,d.i,d.h,()),()):=by
  rintro vs q ps cs d rfl rfl rfl rfl
  exact⟨rfl,rfl,GA bJ,rfl⟩
 have w1:IntKind.wrap .i64 (1+aJ (NW c) 3)=NT c:=wi (n:=NT c)
 refine⟨bJ.1,bJ.2,by simp,hk.1,hk.2,?_,?_⟩
 ·show DN c name (IntKind.wrap .i64 (1+aJ (NW c) 3),(ah,0,[],[],[],()),(name,j0 c kF,[],[],[],()),((FF c).b,(FF c).i,(FF c).h,()),())
  rw[w1]
  exact⟨rfl,by omega,by omega,by simp only[ig];omega,LG bJ,rfl,rfl⟩
 rintro⟨i,⟨q1,q2,q3,q4,q5,⟨⟩⟩,⟨r1,r2,r3,r4,r5,⟨⟩⟩,⟨cb,ci,ch,⟨⟩⟩,⟨⟩⟩ ⟨hr,g1,g2,g3,g4,g5,g6⟩
 simp only[nT,and_true,true_and] at hr
 obtain⟨m1,m2,m3,m4⟩:=hr
 subst m1 m2 m3 m4
 simp only at g1 g2 g3 g4 g5 g6⊢
 refine bc ?_ ?_<;>intro hc
 ·have e:i.toNat=(i-1).toNat+1:=by omega
  rw[e] at g5 g6
  rw[wi]
  exact⟨g4,by simp only[ir,ig];omega,⟨rfl,by omega,by omega,by simp only[na,ir,ig];omega,tA g4,g5,g6⟩,by simp only[GK];omega⟩
 have e:i.toNat=0:=by omega
 rw[e] at g5 g6
 have g5:r3=kq c:=g5
 have g6:(⟨cb,ci,ch⟩:aA)=D5 c:=g6
 have e1:cb=(D5 c).b:=congrArg aA.b g6
 have e2:ci=(D5 c).i:=congrArg aA.i g6
 have e3:ch=(D5 c).h:=congrArg aA.h g6
 subst g5 e1 e2 e3
 clear g6
 have k4:=bo g4 3
 refine⟨g4,ab (fun a=> ?_) (fun a=> ?_)⟩
 ·have aP:dl c=kq c++[o7 true (vp c)]:=if_pos a
  have a5:CA c=jH (vp c):=if_pos a
  rw[aP] at hpa
  have k6:=bo (tA k4) 3
  refine⟨k4,by simp only[ir,ig];omega,hpa,tA k4,ab (fun b=> ?_) (fun b=> ?_)⟩
  ·have b':cD (CA c) 3=true:=by rw[a5];exact b
   have c7:yj c=vL (vo c):=if_pos b'
   exact⟨k6,by simp,fin _ _ (kq c++[o7 true (vp c)]) [M4 (cI (kq c++[o7 true (vp c)])) (Dp (ag (jH (vp c)) 3))] (vL (ag (jH (vp c)) 3)) (by rw[cR,aP];rfl) aP.symm (by rw[fo,if_pos b',cR,aP,vo,a5]) (by rw[c7,vo,a5])⟩
  ·have b':¬cD (CA c) 3=true:=by rw[a5];exact fun e=>absurd (b.symm.trans e) (by decide)
   have c7:yj c=vo c:=if_neg b'
   exact fin _ _ (kq c++[o7 true (vp c)]) [] (ag (jH (vp c)) 3) (by rw[cR,aP];rfl) aP.symm (by rw[fo,if_neg b']) (by rw[c7,vo,a5])
 ·have a':¬cD (D5 c) 3=true:=fun e=>absurd (a.symm.trans e) (by decide)
  have aP:dl c=kq c:=if_neg a'
  have a5:CA c=vp c:=if_neg a'
  rw[aP] at hpa
  have k6:=bo k4 3
  refine⟨hpa,k4,ab (fun b=> ?_) (fun b=> ?_)⟩
  ·have b':cD (CA c) 3=true:=by rw[a5];exact b
   have c7:yj c=vL (vo c):=if_pos b'
   exact⟨k6,by simp,fin _ _ (kq c) [M4 (cI (kq c)) (Dp (ag (vp c) 3))] (vL (ag (vp c) 3)) (by rw[cR,aP]) aP.symm (by rw[fo,if_pos b',cR,aP,vo,a5]) (by rw[c7,vo,a5])⟩
  ·have b':¬cD (CA c) 3=true:=by rw[a5];exact fun e=>absurd (b.symm.trans e) (by decide)
   have c7:yj c=vo c:=if_neg b'
   exact fin _ _ (kq c) [] (ag (vp c) 3) (by rw[cR,aP]) aP.symm (by rw[fo,if_neg b']) (by rw[c7,vo,a5])
attribute [local irreducible] tu ov in
theorem akH:Holds EE (78,DG):=by
 refine yC pM func78 DG (by kernel_rfl) S7 (wl _) Ti 14 kQ (by kernel_rfl) (fun x hp hb=> ?_)
 obtain⟨c,name⟩:=x
 refine⟨Ch c name hp hb,fun(y:List BA×T1×T1×T5×Unit) hy=> ?_⟩
 have hy:ed c name y:=hy
 exact Ci c name y hp hb hy
def alN:HH:=⟨_,akH⟩
def ac5:=cf (α:=aA) (q1 qU) [.box false] (fun c=>[df c]) (fun c=>⟨[dA .gJ (dT c)],[],[dU (lM c)]⟩)
def Hm(c:aA):Int×List BA×T2×T2×T5×Unit->Prop:=fun(i,ns,q,d,cu,_)=>ns=qR/\d.1=fO c zi/\0<=i/\i<=4/\d.2.1.length=i/\df ⟨cu.1,cu.2.1,cu.2.2.1⟩/\IY (4-i).toNat i.toNat d.2.1 ⟨cu.1,cu.2.1,cu.2.2.1⟩=(dT c).az/\Kz (4-i).toNat i.toNat ⟨cu.1,cu.2.1,cu.2.2.1⟩=lM c
def GY(c:aA):Int×List BA×T2×T2×T5×Unit->Nat:=fun(i,ns,q,d,cu,_)=>(4-i).toNat
def amI:AX ac5:=fun c=>b_ [(4,aY [iI 5,iO 4 .str,.box 2 (2,1024) [.lit .str,.own .cv true],.box 3 (3,1024) [.lit .str,.own .cv true],.box 0 (2000000,0) [.shr .byte,.lit (.int .i64),.lit (.int .i64)]] (fun _=>Hm c) (GY c))]
def al7:HH:=hF ac5 func35 [Jo,zZ,alN] amI fun(c:aA) hp hb=>by
 have bJ:df c:=hp _ m0
 clear hp hb
 apply vE (let x1:=[{data:= #[102,108,111,119]:BA},{data:= #[115,104,105,112]:BA},{data:= #[120]:BA}];let x0:=eG c x1;df c/\1<=x1.length/\Hm c (0,[{data:= #[114,49]:BA},{data:= #[114,50]:BA},{data:= #[114,51]:BA},{data:= #[114,52]:BA}],({data:= #[]:BA},[],()),(fO c x1,[],()),(x0.b,x0.i,x0.h,()),())/\∀(y:Int×List BA×T7×T7×Y0×PUnit),let x4:={b:=y.2.2.2.2.1.1,i:=y.2.2.2.2.1.2.1,h:=y.2.2.2.2.1.2.2.1:aA};let x2:=ag x4 4;let x3:=wrap i64 (1+aJ x4 4);let x5:=[wD (y.2.1.getD y.1.toNat ah) x2];let q0:=(wrap i64 (y.1+1),y.2.1,(y.2.2.1.1,y.2.2.1.2.1,()),(y.2.2.2.1.1,y.2.2.2.1.2.1++x5,()),((vn x2).b,(vn x2).i,(vn x2).h,()),());let q1:=LM [DV.agg [CS y.2.2.2.1.1,CL .cv y.2.2.2.1.2.1]] [DV.agg [CS ((dT c).Name),CL .cv (dT c).az]] [bU x2] [bU (lM c)];Hm c y->0<=y.2.2.2.2.1.2.1/\L4 y.2.2.2.2.1.1.length/\bif decide (y.1<x3) then bif decide (y.1<4) then 0<=y.1/\y.1.toNat<y.2.1.length/\y.1.toNat<y.2.1.length/\df x2/\L4 (y.2.2.2.1.2.1.length+x5.length)/\Hm c q0/\GY c q0<GY c y else q1 else q1)
 dsimp only
 have hk:=j_ bJ zi
 refine⟨bJ,by simp,⟨rfl,rfl,by omega,by omega,rfl,hk,rfl,rfl⟩,?_⟩
 rintro⟨i,ns,⟨q1,q2,⟨⟩⟩,⟨d1,d2,⟨⟩⟩,⟨cb,ci,ch,⟨⟩⟩,⟨⟩⟩ ⟨Zi,hd,g1,g2,g3,g4,g5,g6⟩
 simp only at Zi hd g1 g2 g3 g4 g5 g6⊢
 subst Zi hd
 have hb:=en (c:=⟨cb,ci,ch⟩) (n:=4) (by omega)
 have hB:=bo g4 4
 rw[wi (n:=1+aJ ⟨cb,ci,ch⟩ 4)]
 have stop:(dT c).az=d2/\lM c=ag ⟨cb,ci,ch⟩ 4->gH [DV.agg [.lit (.string (fO c zi)),.sl .cv d2]]=gH [DV.agg [.lit (.string (dT c).Name),.sl .cv (dT c).az]]/\gH [DV.box [.sl .byte (ag ⟨cb,ci,ch⟩ 4).b,.lit (.int .i64 (ag ⟨cb,ci,ch⟩ 4).i),.lit (.int .i64 (ag ⟨cb,ci,ch⟩ 4).h)]]=gH [DV.box [.sl .byte (lM c).b,.lit (.int .i64 (lM c).i),.lit (.int .i64 (lM c).h)]]:=fun e=>by
  rw[e.1,e.2];exact⟨rfl,rfl⟩
 refine⟨g4.1,g4.2,bc (fun hc=>bc (fun h4=> ?_) (fun h4=>⟨by trivial,stop ?_⟩)) (fun hc=>⟨by trivial,stop ?_⟩)⟩
 ·have e:(4-i).toNat=(4-(i+1)).toNat+1:=by omega
  have e2:(i+1).toNat=i.toNat+1:=by omega
  have e3:((i.toNat:Nat):Int)=i:=by omega
  rw[e] at g5 g6
  simp only[IY,Kz,e3,if_pos hc] at g5 g6
  rw[wi (n:=i+1)]
  have hl:qR.length=4:=rfl
  refine⟨g1,by omega,by omega,hB,by simp only[ir,ig];omega,⟨rfl,rfl,by omega,by omega,?_,LC hB,by simp only[e2];exact g5,by simp only[e2];exact g6⟩,by simp only[GY];omega⟩
  simp only[na,ir,ig];omega
 ·have e:(4-i).toNat=0:=by omega
  rw[e] at g5 g6
  exact⟨g5.symm,g6.symm⟩
 ·have e3:((i.toNat:Nat):Int)=i:=by omega
  cases hn:(4-i).toNat with
  |zero=>rw[hn] at g5 g6;exact⟨g5.symm,g6.symm⟩
  |succ n=>
   rw[hn] at g5 g6
   simp only[IY,Kz,e3,if_neg hc] at g5 g6
   exact⟨g5.symm,g6.symm⟩
theorem S3(c:aA):gb (mM c)=true:=by
 unfold mM;split
 ·simp[gb]
 ·split
  ·have h:=p_ (ag c 6)
   simp[gb,h]
  ·have h:=ly (ag c 6) (l:=HV) gU (by decide) (by rfl)
   simp[gb,h]
theorem wq(c:aA):eY (eu c)=true:=by
 unfold eu;split
 ·have h:=p_ (ag c 3)
  simp[eY,gb,h]
 ·have h:=ly (ag c 3) (l:=NQ) gU (by decide) (by rfl)
  simp[eY,gb,h]
theorem Ap{vars:List BA}(hv:∀s,s∈vars->gU s=true){a:cP}(ha:eY a=true):eY (pY vars a)=true/\dZ vars (pY vars a)=true:=by
 unfold pY;split
 ·rename_i h;exact⟨ha,h⟩
 ·split
  ·exact⟨by rfl,by rfl⟩
  ·have hm:vars.getD 0 ah∈vars:=fL (by omega)
   have h1:=hv _ hm
   have h2:lJ vars (vars.getD 0 ah)=true:=ot.2 hm
   exact⟨by simp only[eY,gb,h1];simp,by simp only[dZ,h2,Bool.or_true]⟩
theorem PK{vars:List BA}(hv:∀s,s∈vars->gU s=true)(c:aA):fX (ox vars (fw c))=true/\jc vars (ox vars (fw c))=true:=by
 have hz:dZ vars l8=true:=by rfl
 have h1:=Ap hv (wq c)
 unfold fw;split
 ·have h2:=Ap hv (wq (eG (ag (di c) 4) HW))
  have h3:=ly (ag (di c) 4) (l:=HW) (fun s=> !decide (s=ah)&&(decide (s=Dw)||decide (s=vO))) (by decide) (by rfl)
  simp only[cH,pc,decide_eq_false_iff_not] at h3
  obtain⟨h4,h5⟩:=h3
  simp only[ox,fX,jc,if_neg h4,decide_eq_false h4,cond_false,h5,cond_true,h1.1,h1.2,h2.1,h2.2,Bool.and_self,and_self]
 ·simp only[ox,fX,jc,if_true,decide_true,cond_true,h1.1,h1.2,hz,Bool.and_self,and_self]
theorem PY{vars:List BA}(hv:∀s,s∈vars->gU s=true)(c:aA):lE vars (M4 vars (Dp c))=true:=by
 have hb:=en (c:=c) (n:=3) (by omega)
 have h1:=Ap hv (wq (ag c 3))
 have h2:=Ap hv (wq (di (ag c 3)))
 simp only[lE,iK,M4,Dp,h1.1,h1.2,h2.1,h2.2,Aa]
 exact decide_eq_true ⟨by omega,by omega⟩
theorem Qh{vars:List BA}(hv:∀s,s∈vars->gU s=true)(c:aA):ec ((mq c).map (ox vars))=true/\((mq c).map (ox vars)).all (jc vars)=true:=by
 have h:=n0 (f:=fw) (g:=gN) (fun e=>fX (ox vars e)=true/\jc vars (ox vars e)=true) (PK hv) (vS c).toNat [] (DB c) (fun x hx=>by cases hx)
 have hl:=Fp c
 refine⟨?_,?_⟩
 ·simp only[ec,cH,decide_eq_true_eq,sh,uW,kW]
  exact⟨by omega,fun x ⟨e,he,hx⟩=>hx▸(h e he).1⟩
 ·simp only[sh,kW]
  exact fun x ⟨e,he,hx⟩=>hx▸(h e he).2
theorem S4(c:aA):1<=hZ c/\hZ c<=6:=by
 have h:=qj c (l:=pu) (fun k=>decide (1<=k/\k<=6)) (by decide) (by rfl)
 exact yT h
theorem S5{vars:List BA}(hv:∀s,s∈vars->gU s=true){e6:Int}(h0:1<=e6)(h1:e6<=3)(c:aA):mo vars e6 (Df vars (Dz e6 c))=true:=by
 have hb:=en (c:=rb c pu) (n:=e6) (by omega)
 have hn:bq (hU c)=true:=ly (rb c pu) (l:=JN) bq (by decide) (by rfl)
 obtain⟨e1,e2⟩:=Qh hv c
 have hK:=S4 c
 have hT:0<=tE c/\tE c<=100000:=by
  unfold tE;split
  ·have h:=qj (kl c) (l:=vz) (fun k=>decide (0<=k/\k<=100000)) (by decide) (by rfl)
   simpa using h
  ·omega
 unfold Dz
 split
 ·rename_i k2
  simp only[mo,Df,cT,zE,gj,k2,List.map_nil,ig,QM,Aa,decide_true,show¬((2:Int)=1) by decide,decide_false,cond_false,cond_true,vh,cH,decide_eq_true_eq,pc,decide_eq_false_iff_not]
  omega
 ·rename_i k2
  split
  ·rename_i k56
   have n1:¬hZ c=1:=by omega
   have n3:¬hZ c=3:=by omega
   have n4:¬hZ c=4:=by omega
   have h5:(decide (hZ c=5)||decide (hZ c=6))=true:=by simpa using k56
   simp only[mo,Df,cT,zE,gj,decide_eq_false n1,decide_eq_false k2,decide_eq_false n3,decide_eq_false n4,h5,List.map_nil,ig,QM,decide_true,cond_false,cond_true,si,Tq,Bool.and_self,Aa]
  ·rename_i k56
   have hd:gj e6 (Df vars ⟨hZ c,hU c,mq c,tE c,uU c⟩)=true:=by simp[gj,Df,k2]
   have ha:cT (Df vars ⟨hZ c,hU c,mq c,tE c,uU c⟩)=true:=by
    have hc:hZ c=1\/hZ c=3\/hZ c=4:=by omega
    rcases hc with k|k|k
    ·have t0:tE c=0:=if_neg (by omega)
     have u0:uU c=ah:=if_neg (fun e=>by have:=e.1;omega)
     simp only[Df,cT,k,hn,e1,t0,u0,decide_true,cond_true,Bool.and_self]
    ·have t0:tE c=0:=if_neg (by omega)
     have u0:gK (uU c)=true:=by
      unfold uU;split
      ·have h:=ly (ag (nS c) 2) (l:=qQ) gK (by decide) (by rfl)
       exact h
      ·rfl
     simp only[Df,cT,k,hn,e1,t0,u0,decide_true,cond_true,show¬((3:Int)=1) by decide,show¬((3:Int)=2) by decide,decide_false,cond_false,Bool.and_self]
    ·have u0:uU c=ah:=if_neg (fun e=>by have:=e.1;omega)
     simp only[Df,cT,k,hn,e1,u0,decide_eq_true hT,decide_true,cond_true,show¬((4:Int)=1) by decide,show¬((4:Int)=2) by decide,show¬((4:Int)=3) by decide,decide_false,cond_false,Bool.and_self]
   simp only[mo,hd,ha,vh]
   exact e2
theorem Lh(b:Bool)(c:aA):ga (o7 b c)=true:=by
 have h1:bq (fO c cL)=true:=ly c (l:=cL) bq (by decide) (by rfl)
 have hl:=FQ c
 have h2:=n0 (f:=mM) (g:=oN) (fun a=>gb a=true) S3 (tg c).toNat [] (eG c cL) (fun x hx=>by cases hx)
 have h3:=mC mM oN (tg c).toNat [] (eG c cL)
 simp only[ig] at h3
 have h4:(o7 b c).aC.length<=5:=by
  show(nl mM oN (tg c).toNat [] (eG c cL)).length<=5
  omega
 simp only[ga,cH,decide_eq_true_eq,sh]
 exact⟨⟨h1,h4⟩,h2⟩
theorem JO(c:aA):(kq c).length=(NT c).toNat/\∀p,p∈kq c->ga p=true/\p.Not=false:=by
 refine⟨?_,n0 (f:=o7 false) (g:=jH) (fun p=>ga p=true/\p.Not=false) (fun d=>⟨Lh false d,rfl⟩) (NT c).toNat [] (FF c) (fun x hx=>by cases hx)⟩
 rw[kq,mC];simp
theorem Ob{ps:List ck}(h:∀p,p∈ps->p.Not=false):cJ ps=ps.length:=by
 rw[cJ,List.filter_eq_self.2 (fun p hp=>by rw[h p hp];rfl)]
theorem Ex(c:aA):lD (dl c)=true/\1<=cJ (dl c)/\cJ (dl c)<=3/\∀p,p∈dl c->ga p=true:=by
 obtain⟨hl,hp⟩:=JO c
 have hN:=JP c
 have hP:=Ob (fun p h=>(hp p h).2)
 have main:∀ps:List ck,(ps=kq c\/∃q,ps=kq c++[q]/\ga q=true/\q.Not=true)->gG ps=true/\1<=cJ ps/\cJ ps<=3/\∀p,p∈ps->ga p=true:=by
  rintro ps (rfl|⟨q,rfl,hq,hn⟩)
  ·refine⟨?_,by omega,by omega,fun p h=>(hp p h).1⟩
   simp only[gG,cH,decide_eq_true_eq,fT,kY,beq_iff_eq]
   refine⟨⟨by omega,by omega⟩,fun j hj=> ?_⟩
   have hm:(kq c).getD j cr∈kq c:=fL hj
   refine⟨(hp _ hm).1,?_⟩
   rw[iH,(hp _ hm).2,decide_eq_false (by omega)]
  ·have hQ:cJ (kq c++[q])=(kq c).length:=by
    rw[cJ,List.filter_append,na]
    have:(List.filter (fun p:ck=> !p.Not) [q])=[]:=by simp[hn]
    rw[this];exact hP
   have Ej:∀p,p∈kq c++[q]->ga p=true:=fun p h=>by
    rcases jE.1 h with h|h
    ·exact(hp p h).1
    ·rw[mb] at h;subst h;exact hq
   refine⟨?_,by omega,by omega,Ej⟩
   simp only[gG,cH,decide_eq_true_eq,fT,kY,beq_iff_eq,na,ir,ig,hQ]
   refine⟨⟨by omega,by omega⟩,fun j hj=> ?_⟩
   have hm:(kq c++[q]).getD j cr∈kq c++[q]:=fL (by simp;omega)
   refine⟨Ej _ hm,?_⟩
   by_cases h:j<(kq c).length
   ·have e:(kq c++[q]).getD j cr=(kq c).getD j cr:=by
     rw[dB,dB,wg h]
    have tX:(kq c).getD j cr∈kq c:=fL h
    rw[iH,e,(hp _ tX).2,decide_eq_false (by omega)]
   ·have e:(kq c++[q]).getD j cr=q:=by
     have:j=(kq c).length:=by omega
     rw[dB,this,ya (sB _),To];rfl
    rw[iH,e,hn,decide_eq_true (by omega)]
 have:=main (dl c) (by
  unfold dl;split
  ·exact .inr ⟨_,rfl,Lh _ _,rfl⟩
  ·exact .inl rfl)
 rw[oh] at this
 exact this
theorem L8(c:aA):∀s,s∈cR c->gU s=true:=by
 intro s hs
 obtain⟨p,hp,hn,a,ha,hk,rfl⟩:=wK.1 hs
 have h:=(Ex c).2.2.2 p hp
 simp only[ga,cH,sh] at h
 have:=h.2 a ha
 simp only[gb,hk,decide_true,cond_true,cH] at this
 exact this.1
theorem NR{name:BA}(hn:bq name=true)(c:aA):gA (wD name c)=true:=by
 obtain⟨h1,h2,h3,_⟩:=Ex c
 have hv:=L8 c
 have hs:=qj c (l:=kF) (fun k=>decide (-100<=k/\k<=100)) (by decide) (by rfl)
 have hM:=NU c
 have hk:kO (fo c) (cI (dl c))=true:=by
  unfold fo;split
  ·have:=PY hv (vo c)
   simp only[kO,ir,ig,Nw,QM,Aa]
   rw[show lE (cI (dl c)) (M4 (cR c) (Dp (vo c)))=true from this];rfl
  ·rfl
 have ha:lf (pU c) (cI (dl c)) (cJ (dl c))=true:=by
  have h:=n0 (f:=Ey c) (g:=pV c) (fun a=>mo (cR c) (cJ (dl c)) a=true) (fun d=>S5 hv (by omega) (by omega) d) (No c).toNat [] (NV c) (fun x hx=>by cases hx)
  have hl:(pU c).length=(No c).toNat:=by rw[pU,mC];simp
  simp only[lf,cH,decide_eq_true_eq,sh]
  exact⟨⟨by omega,by omega⟩,h⟩
 simp only[gA,wD,hn,h1,hk,ha,Aa,vh]
 exact hs
theorem Lm{s:BA}(h:bq s=true):s.size<=12:=by
 simp only[bq,cH,decide_eq_true_eq] at h
 exact h.1.1.2
theorem ack{a:cP}(h:gb a=true):mR a<=40:=by
 have hz:du.S.size=0:=rfl
 have hn:ah.size=0:=rfl
 simp only[gb,gU] at h
 simp only[mR,qM]
 by_cases k1:a.K=1
 ·simp only[decide_eq_true k1,cond_true,cH,decide_eq_true_eq] at h
  rw[h.2,hz];omega
 ·by_cases k2:a.K=2
  ·simp only[decide_eq_false k1,decide_eq_true k2,cond_true,cond_false,cH,decide_eq_true_eq] at h
   have:=V9 h.1
   rw[h.2,hn];omega
  ·by_cases k3:a.K=3
   ·simp only[decide_eq_false k1,decide_eq_false k2,decide_eq_true k3,cond_true,cond_false,cH,decide_eq_true_eq] at h
    rw[h.1,h.2,hz,hn];omega
   ·simp only[decide_eq_false k1,decide_eq_false k2,decide_eq_false k3,cond_false] at h
    cases h
theorem Cl{a:cP}(h:eY a=true):mR a<=40:=by
 simp only[eY,cH] at h
 exact ack h.1
theorem ajT{p:ck}(h:ga p=true):tN p<=217:=by
 simp only[ga,cH,decide_eq_true_eq,sh] at h
 have h1:=Lm h.1.1
 have h2:=zP mR 40 p.aC (fun a ha=>ack (h.2 a ha))
 simp only[tN,Cu];omega
theorem abv{c:dt}(h:iK c=true):wz c<=80:=by
 simp only[iK,cH] at h
 have h1:=Cl h.1.2
 have h2:=Cl h.2
 simp only[wz];omega
theorem acd{e:cj}(h:fX e=true):wy e<=81:=by
 have hz:mR l8=0:=rfl
 have hn:ah.size=0:=rfl
 have hp:Dw.size=1:=rfl
 have hm:vO.size=1:=rfl
 simp only[fX] at h
 simp only[wy]
 by_cases k:e.Op=ah
 ·simp only[decide_eq_true k,cond_true,cH,decide_eq_true_eq] at h
  have:=Cl h.1
  rw[k,h.2,hz,hn];omega
 ·simp only[decide_eq_false k,cond_false] at h
  by_cases k2:e.Op=Dw
  ·simp only[k2,decide_true,Bool.true_or,cond_true,cH] at h
   have h1:=Cl h.1
   have h2:=Cl h.2
   rw[k2,hp];omega
  ·by_cases k3:e.Op=vO
   ·simp only[k3,decide_true,Bool.or_true,cond_true,cH] at h
    have h1:=Cl h.1
    have h2:=Cl h.2
    rw[k3,hm];omega
   ·simp only[decide_eq_false k2,decide_eq_false k3,Bool.or_self,cond_false] at h
    cases h
theorem YC{l:List cj}(h:ec l=true):nZ l<=410:=by
 simp only[ec,cH,decide_eq_true_eq,sh] at h
 have h2:=zP wy 81 l (fun a ha=>acd (h.2 a ha))
 simp only[nZ];omega
theorem Qg{a:dQ}(h:cT a=true):qN a<=434:=by
 have hn:ah.size=0:=rfl
 have h1:(bq a.Name=true\/a.Name=ah)/\(ec a.aC=true\/a.aC.length=0)/\(gK a.aX=true\/a.aX=ah):=by
  simp only[cT,zE] at h
  grind
 obtain⟨g1,g2,g3⟩:=h1
 have e1:a.Name.size<=12:=by
  rcases g1 with g|g
  ·exact Lm g
  ·rw[g,hn];omega
 have e2:nZ a.aC<=410:=by
  rcases g2 with g|g
  ·exact YC g
  ·have:a.aC=[]:=List.length_eq_zero_iff.1 g
   rw[this];simp[nZ]
 have e3:a.aX.size<=12:=by
  rcases g3 with g|g
  ·exact Tw g
  ·rw[g,hn];omega
 simp only[qN];omega
theorem aab{r:a_}(h:gA r=true):jj r<=5000:=by
 have hs:=vm h
 have hp:gG r.aM=true:=by
  simp only[gA,cH] at h
  rw[oh];exact h.1.1.2
 simp only[gG,cH,decide_eq_true_eq,fT,kY] at hp
 simp only[gA,kO,lf,cH,decide_eq_true_eq,sh,lE,mo] at h
 obtain⟨⟨⟨⟨h1,_⟩,_⟩,⟨h2,h3⟩⟩,⟨⟨_,h4⟩,h5⟩⟩:=h
 have n1:=Lm h1
 have s1:=zP tN 217 r.aM (fun p hpm=>by
  obtain⟨j,hj,rfl⟩:=qD hpm
  have:=(hp.2 j hj).1
  rw[dB,eW hj] at this
  exact ajT this)
 have s2:=zP wz 80 r.bt (fun c hc=>abv (h3 c hc).1.1)
 have s3:=zP qN 434 r.cx (fun a ha=>Qg (h5 a ha).1.1)
 have:=hs.1.e6
 simp only[jj,qa,Ev,Cv];omega
theorem acg{d:aZ}(h:fR d=true):cX d<=61000:=by
 simp only[fR,cH,decide_eq_true_eq,fT,jd] at h
 have n1:=Lm h.1.1
 have s1:=zP jj 5000 d.az (fun r hr=>by
  obtain⟨j,hj,rfl⟩:=qD hr
  have:=(h.2 j hj).1
  rw[dB,eW hj] at this
  exact aab this)
 simp only[cX,nY];omega
theorem Fb:∀(k i:Nat)(l:List a_)(c:aA),∃t:List a_,IY k i l c=l++t/\t.length<=k/\(1<=k->i=0->1<=t.length)/\∀j,j<t.length->∃d,t.getD j cB=wD (qR.getD (i+j) ah) d
 |0,i,l,c=>⟨[],by simp[IY],by simp,by omega,fun j hj=>by simp at hj⟩
 |k+1,i,l,c=>by
  have hb:=en (c:=c) (n:=4) (by omega)
  unfold IY
  split
  ·obtain⟨t,h1,h2,_,h4⟩:=Fb k (i+1) (l++[wD (qR.getD i ah) (ag c 4)]) (vn (ag c 4))
   refine⟨wD (qR.getD i ah) (ag c 4)::t,by rw[h1,we];rfl,by simp only[ir];omega,fun _ _=>by simp only[ir];omega,fun j hj=> ?_⟩
   cases j with
   |zero=>exact⟨ag c 4,rfl⟩
   |succ j=>
    obtain⟨d,hd⟩:=h4 j (by simp only[ir] at hj;omega)
    exact⟨d,by rw[show i+(j+1)=i+1+j by omega];exact hd⟩
  ·rename_i h
   exact⟨[],by simp,by simp,fun _ hi=>by omega,fun j hj=>by simp at hj⟩
theorem L5:∀j,j<4->bq (qR.getD j ah)=true:=by decide
theorem L6:∀j,j<4->∀k,k<j->¬qR.getD k ah=qR.getD j ah:=by decide
theorem As(c:aA):fR (dT c)=true:=by
 obtain⟨t,h1,h2,h3,h4⟩:=Fb 4 0 [] (eG c zi)
 have e:(dT c).az=t:=h1
 have hn:bq (dT c).Name=true:=ly c (l:=zi) bq (by decide) (by rfl)
 simp only[fR,cH,decide_eq_true_eq,fT,jd,hn,e,true_and]
 have h3:=h3 (by omega) rfl
 refine⟨⟨by omega,by omega⟩,fun j hj=> ?_⟩
 obtain⟨d,hd⟩:=h4 j hj
 rw[tH] at hd
 refine⟨by rw[hd];exact NR (L5 j (by omega)) d,?_⟩
 refine fD (i:=j) hj (by simp) (fun k hk=>decide_eq_false fun e=> ?_)
 obtain⟨d',Ao⟩:=h4 k (by omega)
 rw[tH] at Ao
 rw[hd,Ao] at e
 exact L6 j (by omega) k hk e
theorem Ky(c:aA):(∀r,r∈(dT c).az->lB r/\mF r)/\(dT c).az.length<=12/\cX (dT c)<=61000:=
 ⟨(uh (As c)).1,(uh (As c)).2,acg (As c)⟩
theorem rE{f:aO}{w:BA}{v:aU}(hf:bq f.Kind=true)(hw:bp ⟨2,0,w⟩=true)(hv:bp v=true):bw (jW f w v)=true:=by
 simp only[bw,jW,Nw,QM,hf,hw,hv];rfl
theorem tQ{f:aO}(h:bw f=true):bq f.Kind=true:=by
 simp only[bw,cH] at h;exact h.1.1
theorem Q9(ok:Bool):bp ⟨2,0,HM ok⟩=true:=by cases ok<;>rfl
theorem KC:bp ⟨2,0,P_⟩=true:=by rfl
def u_:aU:=⟨1,0,ah⟩
theorem CT:bp u_=true:=by rfl
theorem Dm{d:aZ}{x:aj}(h:coreX d x){l:List ap}(hl:aS l=true):coreX d (pf x l):=⟨h.nJ,h.store,hl,h.timers,h.kA,h.now,h.HF,h.bP⟩
theorem L_{d:aZ}{x:aj}(h:coreX d x)(hs:x.State=1\/x.State=3\/x.State=5){k:Nat}(hk:k<x.ae.length)(ok:Bool){v:aU}(hv:bp v=true):cz d (y4 x k ok v):=by
 by_cases h1:x.State=1
 ·rw[GG h1]
  have ht:=(e_.1 (jM h.fN hk)).1
  have hf:=rE (tQ ht) (Q9 ok) hv
  split
  ·split
   ·rename_i hp
    have hg:=vF h.good (t:=x.ae.getD k aB) hp
    exact fQ (x:=KP x (bZ x.ai (x.ae.getD k aB)).1) ⟨h.nJ,h.store,h.fN,h.timers,hg.2.1,h.now,h.HF,h.bP⟩ h1 hf
   ·exact kX h (.inl rfl)
  ·exact fQ h h1 hf
 ·rw[y4,if_pos h1]
  exact od h (by omega)
theorem H0{d:aZ}{x:aj}(h:cz d x)(key:BA)(ok:Bool){v:aU}(hv:bp v=true):cz d (eZ x key ok v).1:=by
 unfold eZ
 split
 ·rename_i h1
  have hl:=CF h1
  exact L_ (Dm h.tocoreX (pS h.fN)) (show x.State=1\/x.State=3\/x.State=5 from vx (lj.2 h) h1) (k:=(aD (aH x.ae key ok v).1 key).toNat) (by show _<(aH x.ae key ok v).1.length;omega) ok hv
 ·exact h
theorem EG(x:aj):(cn x).bB=x.bB:=by unfold cn;split<;>rfl
theorem wN(x:aj)(st:Int):(eD x st).bB=x.bB:=EG _
theorem Ik(x:aj):(nP x).bB=x.bB:=EG _
theorem qf(x:aj)(f:aO):(cF x f).bB=x.bB:=by
 unfold cF;split
 ·exact wN _ _
 ·rfl
theorem J'(x:aj)(e:cN):(gh x e).bB=x.bB:=by
 unfold gh Fa KX FB
 repeat' split
 all_goals first
  |exact qf _ _
  |exact wN _ _
  |rfl
theorem zn:∀(l:List cN)(x:aj),(jp l x).bB=x.bB
 |[],_=>rfl
 |e::l,x=>by
  rw[jp];split
  ·rw[zn l,J']
  ·rfl
theorem OB(d:aZ)(x:aj)(m:au):(oy d x m).bB=x.bB:=by
 unfold oy;split
 ·rw[zn];rfl
 ·exact wN _ _
theorem Mu(x:aj)(key:BA)(ok:Bool)(v:aU):(eZ x key ok v).1.bB=x.bB:=by
 unfold eZ;split
 ·show(y4 _ _ _ _).bB=_
  unfold y4
  repeat' split
  all_goals first
   |exact Ik _
   |exact qf _ _
   |exact wN _ _
 ·rfl
def iB:List aF->aj->aj
 |[],x=>x
 |t::l,x=>if x.State=1 then iB l (cF x t.F) else x
theorem wE{d:aZ}:∀{l:List aF}{x:aj},cz d x->(∀t∈l,bw t.F=true)->cz d (iB l x)
 |[],_,h,_=>h
 |t::l,x,h,hl=>by
  rw[iB];split
  ·rename_i hs
   exact wE (fQ h.tocoreX hs (hl t gS)) fun y hy=>hl y (e8 _ hy)
  ·exact h
theorem CQ:∀(l:List aF)(x:aj),(iB l x).bB=x.bB
 |[],_=>rfl
 |t::l,x=>by
  rw[iB];split
  ·rw[CQ l,qf]
  ·rfl
def YJ(x:aj)(now:Int):aj:=⟨x.S,x.aw,x.ae,CE now x.ao,x.ai,x.State,now⟩
def aL(x:aj)(now:Int):aj:=if x.State=1 then iB (g_ now x.ao) (YJ x now) else KQ x now
def dJ(x:aj)(now:Int):aj:=pf x (x.ae.map (dh now))
def dn(st:Int):List aO->aj->aj
 |[],x=>x
 |f::l,x=>if x.State=st then dn st l (if st=1 then cF x (jW f P_ u_) else nP x) else x
def bS(x:aj)(now:Int):List BA:=x.ae.flatMap (fg now)
def kH(l:List ap)(k:BA):aO:=(l.getD (aD l k).toNat aB).F
def jG(x:aj)(now:Int):aj:=dn (aL x now).State ((bS (aL x now) now).map (kH (dJ (aL x now) now).ae)) (dJ (aL x now) now)
def gV(x:aj)(now:Int):List ib:=(aL x now).ae.flatMap (fS now)
theorem M9{d:aZ}{x:aj}(h:coreX d x){now:Int}(h0:0<=now)(h1:now<=1000000000):coreX d (KQ x now):=⟨h.nJ,h.store,h.fN,h.timers,h.kA,⟨h0,h1⟩,h.HF,h.bP⟩
theorem s_{d:aZ}{x:aj}(h:cz d x){now:Int}(h0:0<=now)(h1:now<=1000000000):cz d (aL x now):=by
 unfold aL
 split
 ·rename_i hs
  refine wE (jr ⟨h.nJ,h.store,h.fN,pQ _ h.timers,h.kA,⟨h0,h1⟩,h.HF,h.bP⟩ hs) fun t ht=> ?_
  have:=(mz.1 h.timers).2.1 t (wc.1 ht).1
  simp only[gF,cH] at this
  exact this.2
 ·exact⟨M9 h.tocoreX h0 h1,h.state,h.ended,h.KU⟩
theorem Mt(x:aj)(now:Int):(aL x now).bB=now:=by
 unfold aL;split
 ·rw[CQ];rfl
 ·rfl
theorem Ew{l:List ap}(h:su l=false)(now:Int):l.map (dh now)=l:=by
 have:∀t∈l,dh now t=t:=fun t ht=>by
  obtain⟨i,hi,rfl⟩:=qD ht
  have:=jV.1 h i hi
  rw[dB,eW hi] at this
  have hd:due now l[i]=false:=by simp only[due];rw[show kw l[i]=false from this];rfl
  rw[dh,hd];rfl
 exact(LW this).trans (List.map_id' l)
theorem EZ{l:List ap}(h:su l=false)(now:Int):l.flatMap (fg now)=[]:=by
 rw[List.flatMap_eq_nil_iff]
 intro t ht
 obtain⟨i,hi,rfl⟩:=qD ht
 have:=jV.1 h i hi
 rw[dB,eW hi] at this
 have hd:due now l[i]=false:=by simp only[due];rw[show kw l[i]=false from this];rfl
 rw[fg,hd];rfl
theorem Wp(now:Int)(t:ap):(dh now t).F=t.F:=K4 now t
theorem vI{l:List ap}{now:Int}{k:BA}(h:k∈l.flatMap (fg now)):0<=aD (l.map (dh now)) k/\aD (l.map (dh now)) k<((l.map (dh now)).length:Int):=by
 obtain⟨t,ht,hk⟩:=nF.1 h
 unfold fg at hk
 split at hk
 ·rw[mb] at hk
  obtain⟨i,hi,rfl⟩:=qD ht
  rcases il (l.map (dh now)).length (fun k'=>decide (aT ((l.map (dh now)).getD k' aB).F=k)) with⟨_,h2⟩|⟨m,g1,g2,_,_⟩
  ·have:=yF (h2 i (by rw[uW];exact hi))
   rw[dB,mw,eW hi] at this
   exact absurd (by rw[hk];exact congrArg aT (Wp now l[i])) this
  ·have g2:aD (l.map (dh now)) k=m:=g2
   rw[g2];omega
 ·simp at hk
theorem vr{d:aZ}{x:aj}(h:cz d x){now:Int}(h0:0<=now)(h1:now<=1000000000):cz d (dJ x now):=by
 refine⟨Dm h.tocoreX (wu h0 h1 h.fN),h.state,fun g=> ?_,h.KU⟩
 obtain⟨g1,g2⟩:=h.ended g
 exact⟨by show su (x.ae.map (dh now))=false;rw[Ew g1];exact g1,g2⟩
theorem wF{d:aZ}{st:Int}:∀{l:List aO}{x:aj},cz d x->(∀f∈l,bq f.Kind=true)->(l≠[]->st=1\/st=3\/st=5)->cz d (dn st l x)
 |[],_,h,_,_=>h
 |f::l,x,h,hl,hs=>by
  rw[dn];split
  ·rename_i he
   have hs:=hs (by simp)
   refine wF ?_ (fun y hy=>hl y (e8 _ hy)) fun _=>hs
   split
   ·rename_i h1
    exact fQ h.tocoreX (he.trans h1) (rE (hl f gS) KC CT)
   ·exact od h.tocoreX (by omega)
  ·exact h
theorem CR(st:Int):∀(l:List aO)(x:aj),(dn st l x).bB=x.bB
 |[],_=>rfl
 |f::l,x=>by
  rw[dn];split
  ·rw[CR st l]
   split
   ·exact qf _ _
   ·exact Ik _
  ·rfl
theorem ua{l:List ap}{now:Int}(h:aS l=true)(h0:0<=now)(h1:now<=1000000000){k:BA}(hk:k∈l.flatMap (fg now)):bw (kH (l.map (dh now)) k)=true:=by
 obtain⟨a,b⟩:=vI hk
 exact(e_.1 (jM (wu h0 h1 h) (k:=(aD (l.map (dh now)) k).toNat) (by omega))).1
theorem yr{d:aZ}{x:aj}(h:cz d x){now:Int}(hk:bS x now≠[]):x.State=1\/x.State=3\/x.State=5:=by
 by_cases hc:x.State=2\/x.State=4\/x.State=6
 ·exact absurd (EZ (h.ended hc).1 now) hk
 ·have:=h.state;omega
theorem CB{d:aZ}{x:aj}(h:cz d x){now:Int}(h0:0<=now)(h1:now<=1000000000):cz d (jG x now):=by
 have hT:=s_ h h0 h1
 refine wF (vr hT h0 h1) (fun f hf=> ?_) fun hn=>yr hT (now:=now) (by intro e;rw[e] at hn;exact hn rfl)
 obtain⟨k,hk,rfl⟩:=kW.1 hf
 exact tQ (ua hT.fN h0 h1 hk)
theorem Oz(x:aj)(now:Int):(jG x now).bB=now:=by
 unfold jG
 rw[CR]
 exact Mt x now
def re:List Int:=[0,1,5,30]
def Uh(x:aj)(c:aA):BA:=aT (x.ae.getD (aJ c x.ae.length).toNat aB).F
def M7(x:aj)(c:aA):aA:=ag c x.ae.length
def va(d:aZ)(x:aj):aj:=match jk d (allM d.az x.S.aa) x.aw with|some m=>oy d x m|none=>x
def fY(d:aZ)(x:aj)(c:aA):aj:=
 if aJ c 8=0\/aJ c 8=1 then(if x.State=1 then cF x (jo (ag c 8)) else x)
 else if aJ c 8=2\/aJ c 8=3\/aJ c 8=4 then(if x.State=1 then va d x else x)
 else if aJ c 8=5\/aJ c 8=6 then(if mH x=true then x else jG x (x.bB+j0 (ag c 8) re))
 else if 0<x.ae.length then(eZ x (Uh x (ag c 8)) (!cD (M7 x (ag c 8)) 3) (dM (ag (M7 x (ag c 8)) 3))).1 else x
def fZ(x:aj)(c:aA):aA:=
 if aJ c 8=0\/aJ c 8=1 then(if x.State=1 then nQ (ag c 8) else ag c 8)
 else if aJ c 8=2\/aJ c 8=3\/aJ c 8=4 then ag c 8
 else if aJ c 8=5\/aJ c 8=6 then(if mH x=true then ag c 8 else rb (ag c 8) re)
 else if 0<x.ae.length then gL (ag (M7 x (ag c 8)) 3) else ag c 8
theorem KW(c:aA):0<=j0 c re/\j0 c re<=30:=by
 have:=qj c (l:=re) (fun n=>decide (0<=n/\n<=30)) (by decide) (by decide)
 simpa using this
theorem JT{d:aZ}{x:aj}(h:cz d x)(hs:x.State=1):cz d (va d x):=by
 unfold va
 cases hp:jk d (allM d.az x.S.aa) x.aw with
 |some m=>exact JU h.tocoreX hs (EC hp)
 |none=>exact h
theorem OA(d:aZ)(x:aj):(va d x).bB=x.bB:=by
 unfold va
 cases hp:jk d (allM d.az x.S.aa) x.aw with
 |some m=>exact OB _ _ _
 |none=>rfl
theorem zl{d:aZ}{x:aj}{c:aA}(h:cz d x)(hn:x.bB+30<=1000000000):cz d (fY d x c)/\x.bB<=(fY d x c).bB/\(fY d x c).bB<=x.bB+30:=by
 have ht:=KW (ag c 8)
 have h0:=h.now.1
 unfold fY
 split
 ·split
  ·rename_i hs
   exact⟨fQ h.tocoreX hs (IN _),by rw[qf];omega⟩
  ·exact⟨h,by omega,by omega⟩
 ·split
  ·split
   ·rename_i hs
    exact⟨JT h hs,by rw[OA];omega⟩
   ·exact⟨h,by omega,by omega⟩
  ·split
   ·split
    ·exact⟨h,by omega,by omega⟩
    ·exact⟨CB h (by omega) (by omega),by rw[Oz];omega⟩
   ·split
    ·exact⟨H0 h _ _ (p_ _),by rw[Mu];omega⟩
    ·exact⟨h,by omega,by omega⟩
theorem Nb{x:aj}{c:aA}(h:df c):df (fZ x c):=by
 have h8:=bo h 8
 unfold fZ
 repeat' split
 all_goals first
  |exact P5 h8
  |exact nW h8 _
  |exact lq (bo (bo h8 _) 3)
  |exact h8
def mY(d:aZ):Nat->aj->aA->aj
 |0,x,_=>x
 |k+1,x,c=>mY d k (fY d x c) (fZ x c)
def uc(d:aZ):Nat->aj->aA->aA
 |0,_,c=>c
 |k+1,x,c=>uc d k (fY d x c) (fZ x c)
theorem wG{d:aZ}:∀{k:Nat}{x:aj}{c:aA},cz d x->x.bB+30*k<=1000000000->cz d (mY d k x c)/\(mY d k x c).bB<=x.bB+30*k
 |0,_,_,h,_=>⟨h,by simp only[mY];omega⟩
 |k+1,x,c,h,hn=>by
  obtain⟨h1,h2,h3⟩:=zl (c:=c) h (by omega)
  obtain⟨h4,h5⟩:=wG (k:=k) (c:=fZ x c) h1 (by omega)
  exact⟨h4,by simp only[mY];omega⟩
def yw:List Int:=[0,0,7]
def IV(c:aA):aj:=instNew (j0 (lM c) yw)
def yW(c:aA):aA:=rb (lM c) yw
def yV(c:aA)(aW:Int):aj:=mY (dT c) (aJ (yW c) aW).toNat (IV c) (ag (yW c) aW)
def IW(c:aA)(aW:Int):aA:=uc (dT c) (aJ (yW c) aW).toNat (IV c) (ag (yW c) aW)
def instD(c:aA)(aW:Int):aj:=if(yV c aW).State=1/\cD (IW c aW) 10=true then eD (yV c aW) 5 else yV c aW
def instDC(c:aA)(aW:Int):aA:=if(yV c aW).State=1 then ag (IW c aW) 10 else IW c aW
theorem EM{d:aZ}{s:List bW}{m:au}(hd:fR d=true)(h:lc d s m=true):m.ep.length<=3/\m.bE=[]:=by
 simp only[lc,cH,decide_eq_true_eq] at h
 obtain⟨⟨⟨h1,h2⟩,h3⟩,_⟩:=h
 have:=(vm (K7 hd h1)).1.three
 exact⟨by omega,Fy h2⟩
theorem Kr{d:aZ}{x:aj}(h:coreX d x):ij x.aw<=7000:=by
 have hm:∀m∈x.aw,mA m<=6:=fun m hm=>by
  obtain⟨h1,h2⟩:=EM h.nJ (h.bP m hm)
  simp only[mA,h2]
  have e:tO []=0:=rfl
  have e2:s7 m.ep=m.ep.length:=by simp[s7]
  omega
 have:=zP mA 6 x.aw hm
 have:=h.HF
 simp only[ij];omega
theorem JI{s:aG}(h:bm s=true):nX s<=6000:=by
 obtain⟨_,h2,h3,_⟩:=nf.1 h
 have:=zP ng 145 s.aa (fun x hx=>(oB (h3 x hx).1).2)
 simp only[nX,dc];omega
theorem vq{d:aZ}{x:aj}(h:coreX d x):eH x<=50000:=by
 have h1:=JI h.store
 have h2:=Kr h
 have h3:=(pT h.fN).2
 have h4:=(tL h.timers).2
 have h5:=(sX h.kA).2.2
 simp only[eH];omega
theorem HZ(c:aA):cz (dT c) (IV c):=by
 have h:=qj (lM c) (l:=yw) (fun n=>decide (0<=n/\n<=7)) (by decide) (by decide)
 have h:=yT h
 have e:IV c=⟨⟨[],1⟩,[],[],[],[],1,j0 (lM c) yw⟩:=by unfold IV instNew;rw[if_pos (by omega)]
 rw[e]
 exact jr ⟨As c,rfl,rfl,rfl,rfl,⟨h.1,by show j0 (lM c) yw<=1000000000;omega⟩,by simp,by simp⟩ rfl
theorem NC(c:aA):(IV c).bB<=7:=by
 have h:=qj (lM c) (l:=yw) (fun n=>decide (0<=n/\n<=7)) (by decide) (by decide)
 have h:=yT h
 unfold IV instNew
 rw[if_pos (by omega)];exact h.2
theorem NX{c:aA}{m:Int}(hm:m<=1000):cz (dT c) (yV c m)/\(yV c m).bB<=31000:=by
 have hb:(aJ (yW c) m).toNat<=1000:=by
  by_cases h:0<m
  ·have:=en (c:=yW c) h;omega
  ·unfold aJ;rw[if_pos (by omega)];decide
 have h0:=NC c
 have:=wG (k:=(aJ (yW c) m).toNat) (c:=ag (yW c) m) (HZ c) (by omega)
 exact⟨this.1,by have:=this.2;simp only[yV];omega⟩
theorem S0{c:aA}(h:df c):df (yW c):=nW (I6 h) _
theorem JV{c:aA}{m:Int}(hm:m<=1000):cz (dT c) (instD c m):=by
 have h:=(NX (c:=c) hm).1
 unfold instD;split
 ·exact kX h.tocoreX (.inr rfl)
 ·exact h
def ajU(c:aA):aA:=ag c 3
def R7(c:aA):aA:=pq ajU (aJ (ag c 3) 4).toNat (ag (ag c 3) 4)
def efD(code:List Int):aZ:=dT (dj code)
def acf(code:List Int):aA:=lM (dj code)
def ace(code:List Int):List au:=allM (efD code).az (Wn (acf code)).aa
def akx(code:List Int):aA:=Rf (acf code)
def akw(code:List Int):aA:=R7 (akx code)
def YI(code:List Int):Prop:=0<(ace code).length/\cD (akw code) 5=false
instance (code:List Int):Decidable (YI code):=instDecidableAnd
theorem Nd{l:List Int}{p:Int->Bool}{i:Int}(h0:0<=i)(h:i<l.length):(l.drop i.toNat).any p=(p (l.getD i.toNat 0)||(l.drop (i+1).toNat).any p):=by
 have e:(i+1).toNat=i.toNat+1:=by omega
 rw[Nu (by omega),Q5,e,dB,eW (by omega)];rfl
theorem amU{a a':List au}(h:a=a'):Lf [.one (.sl .av a)] [.one (.sl .av a')]:=by subst h;exact aV _
def UB:=cf (α:=(List Int)×Int) (qC (qL .int) (q1 qI)) [.ro,.ro] (fun _=>[]) (fun(l,n)=>⟨[dO (w4 l n)],[],[]⟩)
def BC(l:List Int)(n:Int):Int×Unit->Prop:=fun(i,_)=>0<=i/\i<=l.length/\(l.drop i.toNat).any (fun x=>decide (x=n))=w4 l n
def AL(l:List Int)(n:Int):Int×Unit->Nat:=fun(i,_)=>l.length-i.toNat
def agi:AX UB:=fun(l,n)=>b_ [(2,aY [iI 5] (fun _=>BC l n) (AL l n))]
def aeU:HH:=hF UB func208 [] agi fun x hp hb=>by
 obtain⟨l,n⟩:=x
 have jB:L9 l.length:=kc (hb _ m0)
 have akb:=zD (n:=n) (hb _ m1)
 clear hp hb
 apply vE (BC l n (0,())/\∀(y:Int×PUnit),let q0:=(wrap i64 (y.1+1),());BC l n y->bif decide (y.1<(l.length:Int)) then 0<=y.1/\y.1.toNat<l.length/\bif l.getD y.1.toNat 0==n then Lb true (w4 l n) else BC l n q0/\AL l n q0<AL l n y else Lb false (w4 l n))
 dsimp only
 refine⟨⟨by omega,by omega,rfl⟩,?_⟩
 rintro⟨i,⟨⟩⟩ ⟨h1,h2,hR⟩
 simp only
 refine bc ?_ ?_<;>intro hc
 ·rw[Nd h1 hc] at hR
  rw[wi]
  refine⟨by omega,by omega,ct (fun g=>oR ?_) (fun g=>⟨⟨by omega,by omega,?_⟩,by simp only[AL];omega⟩)⟩
  ·rw[<-hR,decide_eq_true g,Bool.true_or]
  ·rw[<-hR,decide_eq_false g,Fw]
 ·rw[cd _ (by omega)] at hR
  exact bL hR.symm
def UM:=cf (α:=(List au)×Int) (qC (qL .av) (q1 qI)) [.ro,.ro] (fun(l,id)=>[l.length<=4294967295,∀m∈l,m.ep.length<=4294967295/\m.bE.length<=4294967295]) (fun(l,id)=>⟨[dL .av (w_ l id)],[],[]⟩)
def xL(l:List au)(id:Int):List au×Int×Unit->Prop:=fun(out,i,_)=>0<=i/\i<=l.length/\out=(l.take i.toNat).filter (fun m=> !w4 m.ep id)
def rS(l:List au)(id:Int):List au×Int×Unit->Nat:=fun(out,i,_)=>l.length-i.toNat
def agu:AX UM:=fun(l,id)=>b_ [(3,aY [iO 5 .av,iI 6] (fun _=>xL l id) (rS l id))]
def ae_:HH:=hF UM func183 [aeU,Vw] agu fun x hp hb=>by
 obtain⟨l,id⟩:=x
 have jB:L9 l.length:=kc (hb _ m0)
 have TX:=zD (n:=id) (hb _ m1)
 have bJ:l.length<=4294967295:=hp _ m0
 have eh:∀m∈l,m.ep.length<=4294967295/\m.bE.length<=4294967295:=hp _ m1
 clear hp hb
 apply vE (xL l id ([],0,())/\∀(y:List au×Int×PUnit),let x1:=y.2.1.toNat;let x0:=l.getD x1 bh;let q0:=(y.1++[x0],wrap i64 (y.2.1+1),());let q1:=(y.1,wrap i64 (y.2.1+1),());xL l id y->bif decide (y.2.1<(l.length:Int)) then 0<=y.2.1/\x1<l.length/\bif !w4 x0.ep id then 0<=y.2.1/\x1<l.length/\L4 x0.ep.length/\L4 x0.bE.length/\y.1.length+List.length [x0]<=4294967296/\xL l id q0/\rS l id q0<rS l id y else xL l id q1/\rS l id q1<rS l id y else Lf [VL .av y.1] [VL .av (w_ l id)])
 dsimp only
 refine⟨⟨by omega,by omega,rfl⟩,?_⟩
 rintro⟨out,i,⟨⟩⟩ ⟨h1,h2,rfl⟩
 simp only
 refine bc ?_ ?_<;>intro hc
 ·have hn:i.toNat<l.length:=by omega
  have hs:=mG (fun m:au=> !w4 m.ep id) (l:=l) (i:=i.toNat) bh hn
  have e:(i+1).toNat=i.toNat+1:=by omega
  have hm:=eh _ (fL (z:=bh) hn)
  have hle:=KK (fun m:au=> !w4 m.ep id) (l.take i.toNat)
  rw[nE] at hle
  rw[wi]
  refine⟨by omega,by omega,bu (fun g=> ?_) (fun g=> ?_)⟩
  ·have g':(!w4 (l.getD i.toNat bh).ep id)=true:=by rw[show w4 (l.getD i.toNat bh).ep id=false from g];rfl
   exact⟨by omega,by omega,by omega,by omega,by simp only[ir,ig];omega,⟨by omega,by omega,by rw[e,hs,if_pos g']⟩,by simp only[rS];omega⟩
  ·have g':¬(!w4 (l.getD i.toNat bh).ep id)=true:=by rw[show w4 (l.getD i.toNat bh).ep id=true from g];decide
   exact⟨⟨by omega,by omega,by rw[e,hs,if_neg g',sR]⟩,by simp only[rS];omega⟩
 ·rw[cA l (by omega)]
  exact amU rfl
def Qm:=R8 6 0 (α:=aG×Int) (qC (qX .dD) (q1 qI)) [.box true,.ro] (fun(s,id)=>[s.aa.length<=1000]) (fun(s,id)=>⟨[dO (decide ((tj s id).aa.length<s.aa.length))],[],[dX .dD (tj s id)]⟩)
def xM(s:aG)(id:Int):List bW×Int×((List bW×(Nat->Bool))×Int×Value×Value×Value×Value×Value×Value×Unit)×Unit->List bW×Int×((List bW×(Nat->Bool))×Int×Value×Value×Value×Value×Value×Value×Unit)×Unit->Prop:=fun(o0,i0,p0,_) (o,i,p,_)=>p.1.1=s.aa/\p.2.1=s.Next/\p.2.2=p0.2.2/\0<=i/\i<=s.aa.length/\(∀j:Nat,i<=(j:Int)->p.1.2 j=false)/\o=(s.aa.take i.toNat).filter (oj id)
def rT(s:aG)(id:Int):List bW×Int×((List bW×(Nat->Bool))×Int×Value×Value×Value×Value×Value×Value×Unit)×Unit->Nat:=fun(o,i,p,_)=>s.aa.length-i.toNat
def agv:AX Qm:=fun(s,id)=>b_ [(3,aY [iO 5 .aK,iI 6,.box 0 (2000000,0) [.part .aK,.lit (.int .i64),.lit .any,.lit .any,.lit .any,.lit .any,.lit .any,.lit .any]] (xM s id) (rT s id))]
def acw:List (FuncId×jw UU):=[]
theorem acC:Holds EE (182,Qm):=by
 refine tV pM func182 Qm (by kernel_rfl) rfl acw all_nil agv (fun x hp hb rest jn=> ?_)
 obtain⟨s,id⟩:=x
 have k_:=Du (x:=s) (hb _ m0)
 have TX:=zD (n:=id) (hb _ m1)
 have bJ:s.aa.length<=1000:=hp _ m0
 clear hp hb
 have jn:rest.length=6:=jn
 match rest,jn with
 |[r0,r1,r2,r3,r4,r5],_=>
 apply vE (xM s id ([],0,((s.aa,fun(x:Nat)=>false),s.Next,r0,r1,r2,r3,r4,r5,()),()) ([],0,((s.aa,fun(x:Nat)=>false),s.Next,r0,r1,r2,r3,r4,r5,()),())/\∀(y:List bW×Int×((List bW×(Nat->Bool))×Int×Value×Value×Value×Value×Value×Value×PUnit)×PUnit),let x1:=y.2.1.toNat;let x3:=y.2.2.1.1.1.getD x1 bj;let x4:=y.2.2.1.1.1.length;let x5:=wrap i64 (y.2.1+1);let x0:=(↑x4:Int);let x2:=[x3];let q0:=(y.1,x5,((y.2.2.1.1.1,y.2.2.1.1.2),y.2.2.1.2.1,y.2.2.1.2.2.1,y.2.2.1.2.2.2.1,y.2.2.1.2.2.2.2.1,y.2.2.1.2.2.2.2.2.1,y.2.2.1.2.2.2.2.2.2.1,y.2.2.1.2.2.2.2.2.2.2.1,()),());let q1:=Cell.lit y.2.2.1.2.2.2.2.2.2.2.1;let q2:=Cell.lit y.2.2.1.2.2.2.2.2.2.1;xM s id ([],0,((s.aa,fun(x:Nat)=>false),s.Next,r0,r1,r2,r3,r4,r5,()),()) y->bif decide (y.2.1<x0) then 0<=y.2.1/\x1<x4/\x1<x4/\y.2.2.1.1.2 x1=false/\bif x3.Id !=id then 0<=y.2.1/\x1<x4/\x1<x4/\y.2.2.1.1.2 x1=false/\L4 (y.1.length+x2.length)/\xM s id ([],0,((s.aa,fun(x:Nat)=>false),s.Next,r0,r1,r2,r3,r4,r5,()),()) (y.1++x2,x5,((y.2.2.1.1.1,fun(j:Nat)=>Nat.beq j x1||y.2.2.1.1.2 j),y.2.2.1.2.1,y.2.2.1.2.2.1,y.2.2.1.2.2.2.1,y.2.2.1.2.2.2.2.1,y.2.2.1.2.2.2.2.2.1,y.2.2.1.2.2.2.2.2.2.1,y.2.2.1.2.2.2.2.2.2.2.1,()),())/\rT s id (y.1++x2,x5,((y.2.2.1.1.1,fun(j:Nat)=>Nat.beq j x1||y.2.2.1.1.2 j),y.2.2.1.2.1,y.2.2.1.2.2.1,y.2.2.1.2.2.2.1,y.2.2.1.2.2.2.2.1,y.2.2.1.2.2.2.2.2.1,y.2.2.1.2.2.2.2.2.2.1,y.2.2.1.2.2.2.2.2.2.2.1,()),())<rT s id y else xM s id ([],0,((s.aa,fun(x:Nat)=>false),s.Next,r0,r1,r2,r3,r4,r5,()),()) q0/\rT s id q0<rT s id y else List.length (α:=AC UU) [AC.c (Cell.lit y.2.2.1.2.2.1),AC.c (Cell.lit y.2.2.1.2.2.2.1),AC.c (Cell.lit y.2.2.1.2.2.2.2.1),AC.c (Cell.lit y.2.2.1.2.2.2.2.2.1),AC.c q2,AC.c q1]=List.length [r0,r1,r2,r3,r4,r5]/\[AC.c (Cell.lit y.2.2.1.2.2.1),AC.c (Cell.lit y.2.2.1.2.2.2.1),AC.c (Cell.lit y.2.2.1.2.2.2.2.1),AC.c (Cell.lit y.2.2.1.2.2.2.2.2.1),AC.c q2,AC.c q1]=List.map (fun(v:Value)=>(AC.c (Cell.lit v):AC UU)) [r0,r1,r2,r3,r4,r5]/\gH [VB (decide ((y.1.length:Int)<x0))]=gH [VB (decide ((tj s id).aa.length<s.aa.length))]/\gH [DV.box [CL .aK y.1,CI y.2.2.1.2.1]]=gH [DV.box [CL .aK (tj s id).aa,CI ((tj s id).Next)]])
 dsimp only
 refine⟨⟨rfl,rfl,rfl,by omega,by omega,fun _ _=>rfl,by simp⟩,?_⟩
 rintro⟨o,i,⟨⟨xs,dd⟩,nx,s0,s1,s2,s3,s4,s5,⟨⟩⟩,⟨⟩⟩ ⟨hx,hn,hr,h1,h2,hd,ho⟩
 simp only at hx hn hr h1 h2 hd ho⊢
 cases hr
 subst hx hn ho
 refine bc ?_ ?_<;>intro hc
 ·have hs:=mG (oj id) (l:=s.aa) (i:=i.toNat) bj (by omega)
  have e:(i+1).toNat=i.toNat+1:=by omega
  have hdk:=hd i.toNat (by omega)
  have hle:((s.aa.take i.toNat).filter (oj id)).length<=(s.aa.take i.toNat).length:=KK _ _
  rw[nE] at hle
  rw[wi]
  refine⟨h1,by omega,by omega,hdk,i_ (fun g=>⟨h1,by omega,by omega,hdk,by simp only[ir,ig];omega,⟨rfl,rfl,rfl,by omega,by omega,Fe h1 hd,?_⟩,by simp only[rT];omega⟩) (fun g=>⟨⟨rfl,rfl,rfl,by omega,by omega,fun j hj=>hd j (by omega),?_⟩,by simp only[rT];omega⟩)⟩
  ·rw[e,hs,if_pos (show oj id (s.aa.getD i.toNat bj)=true by rw[oj,decide_eq_false g];rfl)]
  ·rw[e,hs,if_neg (show¬oj id (s.aa.getD i.toNat bj)=true by rw[oj,decide_eq_true g];decide),sR]
 ·rw[cA s.aa (by omega)]
  have e:decide (((s.aa.filter (oj id)).length:Int)<(s.aa.length:Int))=decide ((tj s id).aa.length<s.aa.length):=by rw[decide_eq_decide];simp only[tj];omega
  rw[e]
  repeat' (first|exact rfl|trivial|refine And.intro (by first|rfl|trivial) ?_)
def afa:HH:=⟨_,acC⟩
abbrev TI:=List bW×Int×List au×List ap×List aF×List br×Int×Int×Unit
def instT(p:TI):aj:=⟨⟨p.1,p.2.1⟩,p.2.2.1,p.2.2.2.1,p.2.2.2.2.1,p.2.2.2.2.2.1,p.2.2.2.2.2.2.1,p.2.2.2.2.2.2.2.1⟩
def sD(x:aj):TI:=(x.S.aa,x.S.Next,x.aw,x.ae,x.ao,x.ai,x.State,x.bB,())
def u9(x:aj):Prop:=∃d,cz d x
theorem ni{d:aZ}{x:aj}(h:cz d x):u9 x:=⟨d,h⟩
theorem M5{d:aZ}{x:aj}(h:coreX d x):x.aw.length<=4294967295/\∀m∈x.aw,m.ep.length<=4294967295/\m.bE.length<=4294967295:=by
 refine⟨by have:=h.HF;omega,fun m hm=> ?_⟩
 obtain⟨h1,h2⟩:=EM h.nJ (h.bP m hm)
 rw[h2];exact⟨by omega,by simp⟩
theorem IU{e:cN}(h:dq e=true)(hk:e.Kind=1\/e.Kind=3\/e.Kind=4):bw e.F=true:=by
 simp only[dq] at h
 rcases hk with hk|hk|hk
 ·simp only[hk,decide_true,cond_true,cH] at h;exact h.1.1.1
 ·simp only[hk,show decide ((3:Int)=1)=false from rfl,show decide ((3:Int)=2)=false from rfl,decide_true,cond_true,cond_false,cH] at h;exact h.1.1.1
 ·simp only[hk,show decide ((4:Int)=1)=false from rfl,show decide ((4:Int)=2)=false from rfl,show decide ((4:Int)=3)=false from rfl,decide_true,cond_true,cond_false,cH] at h;exact h.1.1.1
theorem PQ{e:cN}(h:dq e=true):0<=e.N/\e.N<=100000:=by
 simp only[dq] at h
 by_cases h1:e.Kind=1
 ·simp only[h1,decide_true,cond_true,cH,decide_eq_true_eq] at h;omega
 by_cases h2:e.Kind=2
 ·simp only[h2,show decide ((2:Int)=1)=false from rfl,decide_true,cond_true,cond_false,cH,decide_eq_true_eq] at h;omega
 by_cases h3:e.Kind=3
 ·simp only[h3,show decide ((3:Int)=1)=false from rfl,show decide ((3:Int)=2)=false from rfl,decide_true,cond_true,cond_false,cH,decide_eq_true_eq] at h;omega
 by_cases h4:e.Kind=4
 ·simp only[h4,show decide ((4:Int)=1)=false from rfl,show decide ((4:Int)=2)=false from rfl,show decide ((4:Int)=3)=false from rfl,decide_true,cond_true,cond_false,cH,decide_eq_true_eq] at h;omega
 ·simp only[h1,h2,h3,h4,decide_false,cond_false] at h
  cases hc:(decide (e.Kind=5)||decide (e.Kind=6))<;>rw[hc] at h
  ·cases h
  ·simp only[cond_true,cH,decide_eq_true_eq] at h;omega
theorem xg{l:List cN}{x:aj}{i:Int}(h0:0<=i)(h:i<l.length):jp (l.drop i.toNat) x=if x.State=1 then jp (l.drop (i+1).toNat) (gh x (l.getD i.toNat tK)) else x:=by
 have e:(i+1).toNat=i.toNat+1:=by omega
 rw[Nu (by omega),jp,e,dB,eW (by omega)];rfl
def ad3:=cf (α:=aj×cN) (qC (qX .bY) (q1 (qA .dz))) [.box true,.ro] (fun(x,e)=>[u9 x,dq e=true]) (fun(x,e)=>⟨[],[],[dX .bY (gh x e)]⟩)
def afC:HH:=hF ad3 func136 [Qp,afa,ae_,VD,ae',VE,Qr] a0 fun x hp hb=>by
 obtain⟨x,e⟩:=x
 have bJ:u9 x:=hp _ m0
 have eh:dq e=true:=hp _ m1
 clear hp hb
 apply vE (let x3:={S:=x.S,aw:=x.aw,ae:=(fA {τ:=Cd.aq,xs:=x.ae:cC UU}.xs {Kind:=e.F.Kind,af:=e.F.af:aO} e.aX x.bB).1,ao:=x.ao,ai:=x.ai,State:=x.State,bB:=x.bB:aj};let x6:=wrap i64 (x.bB+e.N);let x7:={S:=x.S,aw:=x.aw,ae:=x.ae,ao:=p6 x.ao {At:=(1000000000:Int),F:=e.F:aF},ai:=x.ai,State:=x.State,bB:=x.bB:aj};let x8:={aa:={τ:=Cd.aK,xs:=x.S.aa:cC UU}.xs,Next:=x.S.Next:aG};let x0:=eD x3 3;let x2:=eD x7 3;let x5:={At:=x6,F:=e.F:aF};let x4:={S:=x.S,aw:=x.aw,ae:=x.ae,ao:=p6 x.ao x5,ai:=x.ai,State:=x.State,bB:=x.bB:aj};let x1:=eD x4 3;let q0:=ay (gh x e);let q1:=fA {τ:=Cd.aq,xs:=x.ae:cC UU}.xs {Kind:=e.F.Kind,af:=e.F.af:aO} e.aX x.bB;let q2:=(3:Int)=(3:Int)\/(3:Int)=(5:Int);let q3:=tj x.S e.Id;bif e.Kind==1 then bT x/\bm x.S=true/\L4 e.F.af.length/\LM [] [] [DV.box (ay (cF x e.F))] [DV.box q0] else bif e.Kind==2 then x.S.aa.length<=1000/\bif decide (q3.aa.length<x.S.aa.length) then x.aw.length<=4294967295/\(∀(m:au),m∈x.aw->m.ep.length<=4294967295/\m.bE.length<=4294967295)/\LM [] [] [DV.box [CL .aK q3.aa,CI (q3.Next),CL .av (w_ x.aw e.Id),CL .aq x.ae,CL .ax x.ao,CL .aI x.ai,CI x.State,CI x.bB]] [DV.box q0] else LM [] [] [DV.box [CL .aK q3.aa,CI (q3.Next),CL .av x.aw,CL .aq x.ae,CL .ax x.ao,CL .aI x.ai,CI x.State,CI x.bB]] [DV.box q0] else bif e.Kind==3 then L4 e.F.af.length/\bif !q1.2 then bT x3/\q2/\LM [] [] [DV.box (ay x0)] [DV.box q0] else LM [] [] [DV.box [CL .aK x.S.aa,CI x.S.Next,CL .av x.aw,CL .aq q1.1,CL .ax x.ao,CL .aI x.ai,CI x.State,CI x.bB]] [DV.box q0] else bif e.Kind==4 then bif decide (x6>1000000000) then L4 (cm x.ao)/\gx {At:=(1000000000:Int),F:=e.F:aF}<=4294967296/\bif !lW x.ao {At:=(1000000000:Int),F:=e.F:aF} then bT x7/\q2/\LM [] [] [DV.box (ay x2)] [DV.box q0] else LM [] [] [DV.box [CL .aK x.S.aa,CI x.S.Next,CL .av x.aw,CL .aq x.ae,CL .ax (p6 x.ao {At:=(1000000000:Int),F:=e.F:aF}),CL .aI x.ai,CI x.State,CI x.bB]] [DV.box q0] else L4 (cm x.ao)/\L4 (gx x5)/\bif !lW x.ao x5 then bT x4/\q2/\LM [] [] [DV.box (ay x1)] [DV.box q0] else LM [] [] [DV.box [CL .aK x.S.aa,CI x.S.Next,CL .av x.aw,CL .aq x.ae,CL .ax (p6 x.ao x5),CL .aI x.ai,CI x.State,CI x.bB]] [DV.box q0] else bif e.Kind==5 then aS x.ae=true/\LM [] [] [DV.box (ay (rF x 2))] [DV.box q0] else bT x/\q2/\LM [] [] [DV.box (ay (eD x 3))] [DV.box q0])
 dsimp only
 obtain⟨d,hX⟩:=bJ
 have hg:=hX.good
 have hf:=IU eh
 have hN:=PQ eh
 have Lt:=M5 hX.tocoreX
 have h40:=(jN hX.store).2.2.1
 have abJ:=hX.now
 have hS:(⟨x.S.aa,x.S.Next⟩:aG)=x.S:=rfl
 have hF:(⟨e.F.Kind,e.F.af⟩:aO)=e.F:=rfl
 simp only[hS,hF]
 refine ct (fun k=> ?_) (fun k1=>ct (fun k=> ?_) (fun k2=>ct (fun k=> ?_) (fun k3=>ct (fun k=> ?_) (fun k4=>ct (fun k=> ?_) (fun k5=> ?_)))))
 ·have e1:gh x e=cF x e.F:=if_pos k
  exact⟨hg,hX.store,by have:=(oB (hf (.inl k))).1;omega,by trivial,by trivial,jy e1.symm⟩
 ·have e1:gh x e=Fa x e.Id:=(if_neg k1).trans (if_pos k)
  refine⟨by omega,bc (fun g=>⟨Lt.1,Lt.2,by trivial,by trivial,jy (a:=KR (uY x (tj x.S e.Id)) (w_ x.aw e.Id)) (e1.trans (if_pos g)).symm⟩) (fun g=>⟨by trivial,by trivial,jy (a:=uY x (tj x.S e.Id)) (e1.trans (if_neg g)).symm⟩)⟩
 ·have e1:gh x e=KX x e:=(if_neg k1).trans ((if_neg k2).trans (if_pos k))
  have hu:gK e.aX=true:=by
   simp only[dq,k,show decide ((3:Int)=1)=false from rfl,show decide ((3:Int)=2)=false from rfl,decide_true,cond_true,cond_false,cH] at eh;exact eh.2
  have hT:aS (fA x.ae e.F e.aX x.bB).1=true:=pR hX.fN (hf (.inr (.inl k))) hu abJ.1 (by omega)
  refine⟨by have:=(oB (hf (.inr (.inl k)))).1;omega,bu (fun g=>⟨⟨hT,hg.2⟩,.inl trivial,by trivial,by trivial,jy (e1.trans (if_neg (by rw[show(fA x.ae e.F e.aX x.bB).2=false from g];decide))).symm⟩) (fun g=>⟨by trivial,by trivial,jy (a:=pf x (fA x.ae e.F e.aX x.bB).1) (e1.trans (if_pos g)).symm⟩)⟩
 ·have e1:gh x e=FB x e:=(if_neg k1).trans ((if_neg k2).trans ((if_neg k3).trans (if_pos k)))
  have hfx:=(oB (hf (.inr (.inr k)))).2
  have hts:=(tL hX.timers).2
  rw[wi (n:=x.bB+e.N)]
  have key:∀t:aF,sY x e=t->t.F=e.F->cm x.ao<=4294967296/\gx t<=4294967296/\bif !lW x.ao t then bT ⟨x.S,x.aw,x.ae,p6 x.ao t,x.ai,x.State,x.bB⟩/\(True\/(3:Int)=5)/\LM [] [] [DV.box (ay (eD ⟨x.S,x.aw,x.ae,p6 x.ao t,x.ai,x.State,x.bB⟩ 3))] [DV.box (ay (gh x e))] else LM [] [] [DV.box (ay (KO x (p6 x.ao t)))] [DV.box (ay (gh x e))]:=by
   rintro t rfl uT
   refine⟨by omega,by simp only[gx,uT];omega,bu (fun g=>⟨hg,.inl trivial,by trivial,by trivial,jy (e1.trans (if_neg (by rw[show lW x.ao (sY x e)=false from g];decide))).symm⟩) (fun g=>⟨by trivial,by trivial,jy (e1.trans (if_pos g)).symm⟩)⟩
  refine bc ?_ ?_<;>intro g
  ·exact key ⟨1000000000,e.F⟩ (by unfold sY;rw[if_pos (by omega)]) rfl
  ·exact key ⟨x.bB+e.N,e.F⟩ (by unfold sY;rw[if_neg (by omega)]) rfl
 ·have e1:gh x e=rF x 2:=(if_neg k1).trans ((if_neg k2).trans ((if_neg k3).trans ((if_neg k4).trans (if_pos k))))
  rw[e1]
  repeat' (first|exact hX.fN|exact rfl|trivial|refine And.intro (by first|exact hX.fN|rfl|trivial) ?_)
 ·have e1:gh x e=eD x 3:=(if_neg k1).trans ((if_neg k2).trans ((if_neg k3).trans ((if_neg k4).trans (if_neg k5))))
  rw[e1]
  exact⟨hg,.inl trivial,by trivial,by trivial,rfl⟩
def acP:=cf (α:=aZ×aj×au) (qC (qA .gJ) (qC (qX .bY) (q1 (qA .av)))) [.ro,.box true,.ro] (fun(d,x,m)=>[cz d x,x.State=1,w9 x.S.aa m,m.ep.length<=4294967295]) (fun(d,x,m)=>⟨[],[],[dX .bY (oy d x m)]⟩)
def DM(d:aZ)(x:aj)(m:au):Int×List cN×T0×Unit->Prop:=fun(i,l,p,_)=>l=ma d m/\0<=i/\i<=l.length/\cz d (instT p)/\jp ((ma d m).drop i.toNat) (instT p)=oy d x m
def DD(d:aZ)(x:aj)(m:au):Int×List cN×T0×Unit->Nat:=fun(i,l,p,_)=>l.length-i.toNat
def ams:AX acP:=fun(d,x,m)=>b_ [(6,aY [iI 8,iO 6 .dz,.box 1 (2000001,0) [.own .aK true,.lit (.int .i64),.own .av true,.own .aq true,.own .ax true,.own .aI true,.lit (.int .i64),.lit (.int .i64)]] (fun _=>DM d x m) (DD d x m))]
def alJ:HH:=hF acP func84 [afD,Qr,afC] ams fun x hp hb=>by
 obtain⟨d,x,m⟩:=x
 have dG:=kS (x:=d) (hb _ m0)
 have j7:=dG.1
 have jb:=dG.2
 have gM:=ka (x:=x) (hb _ m1)
 have dN:=gM.1
 have fG:=gM.2.1
 have fF:=gM.2.2.1
 have eI:=gM.2.2.2.1
 have fE:=gM.2.2.2.2
 have sz:=qw (x:=m) (hb _ m2)
 have IE:=sz.1
 have C7:=sz.2
 have bJ:cz d x:=hp _ m0
 have eh:x.State=1:=hp _ m1
 have Ef:w9 x.S.aa m:=hp _ m2
 have hp3:m.ep.length<=4294967295:=hp _ m3
 clear hp hb
 apply vE (let x0:=[{cO:=m.cO,ep:=[]++m.ep,bE:=[]:au}];let q0:=bT x/\((3:Int)=(3:Int)\/(3:Int)=(5:Int))/\LM [] [] [DV.box (ay (eD x 3))] [DV.box (ay (oy d x m))];cX d<=4294967295/\bif !kJ d m then q0 else bif decide ((x.aw.length:Int)≥1000) then q0 else 0+m.ep.length<=4294967296/\L4 (x.aw.length+x0.length)/\DM d x m (0,ma d m,(x.S.aa,x.S.Next,x.aw++x0,x.ae,x.ao,x.ai,x.State,x.bB,()),())/\∀(y:Int×List cN×T8×PUnit),let x2:={S:={aa:=y.2.2.1.1,Next:=y.2.2.1.2.1:aG},aw:=y.2.2.1.2.2.1,ae:=y.2.2.1.2.2.2.1,ao:=y.2.2.1.2.2.2.2.1,ai:=y.2.2.1.2.2.2.2.2.1,State:=y.2.2.1.2.2.2.2.2.2.1,bB:=y.2.2.1.2.2.2.2.2.2.2.1:aj};let x3:=y.2.1.getD y.1.toNat tK;let x5:=y.2.1.length;let x1:=gh x2 x3;let x4:=(↑x5:Int);let q1:=LM [] [] [DV.box [CL .aK y.2.2.1.1,CI y.2.2.1.2.1,CL .av y.2.2.1.2.2.1,CL .aq y.2.2.1.2.2.2.1,CL .ax y.2.2.1.2.2.2.2.1,CL .aI y.2.2.1.2.2.2.2.2.1,CI y.2.2.1.2.2.2.2.2.2.1,CI y.2.2.1.2.2.2.2.2.2.2.1]] [DV.box (ay (oy d x m))];let q2:=(wrap i64 (y.1+1),y.2.1,(x1.S.aa,x1.S.Next,x1.aw,x1.ae,x1.ao,x1.ai,x1.State,x1.bB,()),());DM d x m y->bif decide (y.1<x4) then bif y.2.2.1.2.2.2.2.2.2.1==1 then 0<=y.1/\y.1.toNat<x5/\y.1.toNat<x5/\y.1.toNat<x5/\u9 x2/\dq x3=true/\DM d x m q2/\DD d x m q2<DD d x m y else q1 else q1)
 dsimp only
 have hz:=acg bJ.nJ
 have hg:=bJ.good
 refine⟨by omega,bu (fun h=> ?_) (fun h=>bc (fun g=> ?_) (fun g=> ?_))⟩
 ·have e1:oy d x m=eD x 3:=if_neg (fun c=>by rw[show kJ d m=false from h] at c;exact absurd c.1 (by decide))
  rw[e1];exact⟨hg,.inl rfl,rfl,rfl,rfl⟩
 ·have e1:oy d x m=eD x 3:=if_neg (fun c=>by have:=c.2;omega)
  rw[e1];exact⟨hg,.inl rfl,rfl,rfl,rfl⟩
 ·have hf:kJ d m=true:=h
  have e1:oy d x m=jp (ma d m) (Gr x m):=if_pos ⟨hf,by omega⟩
  have hR:=jr (Dn bJ.tocoreX (by omega) hf Ef) eh
  have h6:(ma d m).length<=6:=by
   have hm:CU d m=true:=by simp only[kJ,cH] at hf;exact hf.1.2
   rw[ma,if_pos hf,uW];exact(LP bJ.nJ hm).1
  refine⟨by omega,by simp only[ir,ig];omega,⟨rfl,by omega,by omega,hR,e1.symm⟩,?_⟩
  clear e1 hR
  rintro⟨i,l,p,⟨⟩⟩ ⟨rfl,h1,h2,hX,hE⟩
  have h1:0<=i:=h1
  have h2:i<=(ma d m).length:=h2
  have hX:cz d (instT p):=hX
  have hE:jp ((ma d m).drop i.toNat) (instT p)=oy d x m:=hE
  refine bc (fun hc=>ct (fun hs=> ?_) (fun hs=> ?_)) (fun hc=> ?_)
  ·have hc:i<(ma d m).length:=hc
   have hs:(instT p).State=1:=hs
   have hn:i.toNat<(ma d m).length:=by omega
   have he:=Lz (d:=d) (m:=m) _ (fL (z:=tK) hn)
   rw[xg h1 hc,if_pos hs] at hE
   have fin:∀j,j=i+1->DM d x m (j,ma d m,sD (gh (instT p) ((ma d m).getD i.toNat tK)),())/\DD d x m (j,ma d m,sD (gh (instT p) ((ma d m).getD i.toNat tK)),())<DD d x m (i,ma d m,p,()):=by
    rintro j rfl
    exact⟨⟨rfl,by omega,by omega,wH hX.tocoreX hs he,hE⟩,by show(ma d m).length-(i+1).toNat<(ma d m).length-i.toNat;omega⟩
   exact⟨h1,hn,hn,hn,ni hX,he,fin _ (wi)⟩
  ·have hc:i<(ma d m).length:=hc
   have hs:¬(instT p).State=1:=hs
   rw[xg h1 hc,if_neg hs] at hE
   exact⟨rfl,rfl,jy hE⟩
  ·have hc:¬i<(ma d m).length:=hc
   rw[List.drop_eq_nil_of_le (by omega)] at hE
   exact⟨rfl,rfl,jy (a:=instT p) hE⟩
theorem zr{l:List aF}{x:aj}{i:Int}(h0:0<=i)(h:i<l.length):iB (l.drop i.toNat) x=if x.State=1 then iB (l.drop (i+1).toNat) (cF x (l.getD i.toNat cq).F) else x:=by
 have e:(i+1).toNat=i.toNat+1:=by omega
 rw[Nu (by omega),iB,e,dB,eW (by omega)];rfl
theorem pA{st:Int}{l:List aO}{x:aj}{i:Int}(h0:0<=i)(h:i<l.length):dn st (l.drop i.toNat) x=if x.State=st then dn st (l.drop (i+1).toNat) (if st=1 then cF x (jW (l.getD i.toNat uX) P_ u_) else nP x) else x:=by
 have e:(i+1).toNat=i.toNat+1:=by omega
 rw[Nu (by omega),dn,e,dB,eW (by omega)];rfl
theorem vy{x:aj}{l:List aF}(h:¬x.State=1):iB l x=x:=by
 cases l with
 |nil=>rfl
 |cons t l=>rw[iB,if_neg h]
theorem vH{st:Int}{x:aj}{l:List aO}(h:¬x.State=st):dn st l x=x:=by
 cases l with
 |nil=>rfl
 |cons t l=>rw[dn,if_neg h]
def U5:=cf (α:=aj×(List BA)×(List aO)) (qC (qX .bY) (qC (qL .str) (q1 (qL .cU)))) [.box true,.ro,.ro] (fun(x,failed,facts)=>[u9 x,failed.length=facts.length,∀f∈facts,bq f.Kind=true,facts≠[]->x.State=1\/x.State=3\/x.State=5]) (fun(x,failed,facts)=>⟨[],[],[dX .bY (dn x.State facts x)]⟩)
def uL(x:aj)(failed:List BA)(facts:List aO):Int×Int×T0×Unit->Prop:=fun(st,i,p,_)=>st=x.State/\0<=i/\i<=facts.length/\u9 (instT p)/\dn x.State (facts.drop i.toNat) (instT p)=dn x.State facts x
def rV(x:aj)(failed:List BA)(facts:List aO):Int×Int×T0×Unit->Nat:=fun(st,i,p,_)=>facts.length-i.toNat
def agM:AX U5:=fun(x,failed,facts)=>b_ [(2,aY [iI 6,iI 7,.box 0 (2000000,0) [.own .aK true,.lit (.int .i64),.own .av true,.own .aq true,.own .ax true,.own .aI true,.lit (.int .i64),.lit (.int .i64)]] (fun _=>uL x failed facts) (rV x failed facts))]
def afz:HH:=hF U5 func141 [Vu,Qp,Vt] agM fun x hp hb=>by
 obtain⟨x,failed,facts⟩:=x
 have dG:=ka (x:=x) (hb _ m0)
 have dN:=dG.1
 have fG:=dG.2.1
 have fF:=dG.2.2.1
 have eI:=dG.2.2.2.1
 have fE:=dG.2.2.2.2
 have Zm:L9 failed.length:=kc (hb _ m1)
 have abR:L9 facts.length:=kc (hb _ m2)
 have bJ:u9 x:=hp _ m0
 have eh:failed.length=facts.length:=hp _ m1
 have Ef:∀f∈facts,bq f.Kind=true:=hp _ m2
 have hp3:facts≠[]->x.State=1\/x.State=3\/x.State=5:=hp _ m3
 clear hp hb
 apply vE (let q0:=ay (dn x.State facts x);uL x failed facts (x.State,0,(x.S.aa,x.S.Next,x.aw,x.ae,x.ao,x.ai,x.State,x.bB,()),())/\∀(y:Int×Int×T8×PUnit),let x3:={aa:=y.2.2.1.1,Next:=y.2.2.1.2.1:aG};let x5:=wrap i64 (y.2.1+1);let x6:=y.2.1.toNat;let x2:={S:=x3,aw:=y.2.2.1.2.2.1,ae:=y.2.2.1.2.2.2.1,ao:=y.2.2.1.2.2.2.2.1,ai:=y.2.2.1.2.2.2.2.2.1,State:=y.2.2.1.2.2.2.2.2.2.1,bB:=y.2.2.1.2.2.2.2.2.2.2.1:aj};let x4:=jW (facts.getD x6 uX) {data:= #[110,111]:BA} {K:=(1:Int),N:=(0:Int),S:={data:= #[]:BA}:aU};let x0:=cF x2 x4;let x1:=nP x2;let q1:=LM [] [] [DV.box [CL .aK y.2.2.1.1,CI y.2.2.1.2.1,CL .av y.2.2.1.2.2.1,CL .aq y.2.2.1.2.2.2.1,CL .ax y.2.2.1.2.2.2.2.1,CL .aI y.2.2.1.2.2.2.2.2.1,CI y.2.2.1.2.2.2.2.2.2.1,CI y.2.2.1.2.2.2.2.2.2.2.1]] [DV.box q0];let q2:=(y.1,x5,(x0.S.aa,x0.S.Next,x0.aw,x0.ae,x0.ao,x0.ai,x0.State,x0.bB,()),());let q3:=(y.1,x5,(x1.S.aa,x1.S.Next,x1.aw,x1.ae,x1.ao,x1.ai,x1.State,x1.bB,()),());uL x failed facts y->bif decide (y.2.1<(failed.length:Int)) then bif y.2.2.1.2.2.2.2.2.2.1==y.1 then bif y.1==1 then 0<=y.2.1/\x6<facts.length/\bT x2/\bm x3=true/\L4 x4.af.length/\uL x failed facts q2/\rV x failed facts q2<rV x failed facts y else bT x2/\(y.2.2.1.2.2.2.2.2.2.1=3\/y.2.2.1.2.2.2.2.2.2.1=5)/\uL x failed facts q3/\rV x failed facts q3<rV x failed facts y else q1 else q1)
 dsimp only
 obtain⟨d0,hX0⟩:=bJ
 refine⟨⟨rfl,by omega,by omega,ni hX0,rfl⟩,?_⟩
 rintro⟨st,i,p,⟨⟩⟩ ⟨rfl,h1,h2,hX,hE⟩
 obtain⟨d,hX⟩:u9 (instT p):=hX
 have h1:0<=i:=h1
 have h2:i<=facts.length:=h2
 have hE:dn x.State (facts.drop i.toNat) (instT p)=dn x.State facts x:=hE
 have nx:∀(z:aj)(j:Int),j=i+1->i<facts.length->u9 z->dn x.State (facts.drop (i+1).toNat) z=dn x.State facts x->uL x failed facts (x.State,j,sD z,())/\rV x failed facts (x.State,j,sD z,())<rV x failed facts (x.State,i,p,()):=by
  rintro z j rfl hi hz sz
  exact⟨⟨rfl,by omega,by omega,hz,sz⟩,by show facts.length-(i+1).toNat<facts.length-i.toNat;omega⟩
 refine bc (fun hc=>ct (fun hs=>ct (fun g=> ?_) (fun g=> ?_)) (fun hs=> ?_)) (fun hc=> ?_)
 ·have hc:i<(failed.length:Int):=hc
  have hn:i.toNat<facts.length:=by omega
  have hs:(instT p).State=x.State:=hs
  have g:x.State=1:=g
  rw[pA h1 (by omega),if_pos hs,if_pos g] at hE
  have hm:=rE (w:=P_) (v:=u_) (Ef _ (fL (z:=uX) hn)) KC CT
  exact⟨h1,hn,hX.good,hX.store,by simp[jW],nx _ _ (wi (n:=i+1)) (by omega) ⟨d,fQ hX.tocoreX (hs.trans g) hm⟩ hE⟩
 ·have hc:i<(failed.length:Int):=hc
  have hs:(instT p).State=x.State:=hs
  have g:¬x.State=1:=g
  rw[pA h1 (by omega),if_pos hs,if_neg g] at hE
  have h3:=hp3 (by intro e;rw[e] at eh;simp only[ig] at eh;omega)
  have Ue:(instT p).State=3\/(instT p).State=5:=by omega
  exact⟨hX.good,Ue,nx _ _ (wi (n:=i+1)) (by omega) ⟨d,od hX.tocoreX Ue⟩ hE⟩
 ·have hc:i<(failed.length:Int):=hc
  have hs:¬(instT p).State=x.State:=hs
  rw[vH hs] at hE
  exact⟨rfl,rfl,jy hE⟩
 ·have hc:¬i<(failed.length:Int):=hc
  rw[List.drop_eq_nil_of_le (by omega)] at hE
  exact⟨rfl,rfl,jy (a:=instT p) hE⟩
def DF:=cf (α:=aj×Int) (qC (qX .bY) (q1 qI)) [.box true,.ro] (fun(x,now)=>[u9 x,0<=now/\now<=1000000000]) (fun(x,now)=>⟨[dL .dw (gV x now)],[],[dX .bY (jG x now)]⟩)
def DL(x:aj)(now:Int):Int×List aF×T0×Unit->Prop:=fun(i,l,p,_)=>l=g_ now x.ao/\0<=i/\i<=l.length/\u9 (instT p)/\iB ((g_ now x.ao).drop i.toNat) (instT p)=aL x now
def DC(x:aj)(now:Int):Int×List aF×T0×Unit->Nat:=fun(i,l,p,_)=>l.length-i.toNat
def xH(x:aj)(now:Int):Int×List ib×List BA×List aO×T0×Unit->Prop:=fun(i,calls,failed,facts,p,_)=>calls=gV x now/\failed=bS (aL x now) now/\0<=i/\i<=failed.length/\facts=((bS (aL x now) now).take i.toNat).map (kH (dJ (aL x now) now).ae)/\instT p=dJ (aL x now) now
def xA(x:aj)(now:Int):Int×List ib×List BA×List aO×T0×Unit->Nat:=fun(i,calls,failed,facts,p,_)=>failed.length-i.toNat
def Th:AX DF:=fun(x,now)=>b_ [(6,aY [iI 7,iO 5 .ax,.box 0 (2000000,0) [.own .aK true,.lit (.int .i64),.own .av true,.own .aq true,.own .ax true,.own .aI true,.lit (.int .i64),.lit (.int .i64)]] (fun _=>DL x now) (DC x now)),(12,aY [iI 11,iO 8 .dw,iO 9 .str,iO 10 .cU,.box 0 (2000000,0) [.own .aK true,.lit (.int .i64),.own .av true,.own .aq true,.own .ax true,.own .aI true,.lit (.int .i64),.lit (.int .i64)]] (fun _=>xH x now) (xA x now))]
def S6:=us [afB,Qp,afA,QA,xX,afz]
def fH(x:aj)(now:Int):Int×T0×Unit->Prop:=fun(nw,p,_)=>nw=now/\instT p=aL x now
def j9:DF.α->sA UU:=fun(x,now)=>aY [iI 1,.box 0 (2000000,0) [.own .aK true,.lit (.int .i64),.own .av true,.own .aq true,.own .ax true,.own .aI true,.lit (.int .i64),.lit (.int .i64)]] (fun _=>fH x now) (fun _=>0)
theorem akC(x:aj)(now:Int)(y:Int×T0×Unit):ov EE S6 f86 DF Th (x,now) 9 (j9 (x,now)) y=(let q0:=jG x now;aS y.2.1.2.2.2.1=true/\(0<=y.1/\y.1<=1000000000)/\xH x now (0,List.flatMap (fS y.1) y.2.1.2.2.2.1,List.flatMap (fg y.1) y.2.1.2.2.2.1,[],(y.2.1.1,y.2.1.2.1,y.2.1.2.2.1,y.2.1.2.2.2.1.map (dh y.1),y.2.1.2.2.2.2.1,y.2.1.2.2.2.2.2.1,y.2.1.2.2.2.2.2.2.1,y.2.1.2.2.2.2.2.2.2.1,()),())/\∀(y:Int×List ib×List BA×List aO×T8×PUnit),let x1:={S:={aa:=y.2.2.2.2.1.1,Next:=y.2.2.2.2.1.2.1:aG},aw:=y.2.2.2.2.1.2.2.1,ae:=y.2.2.2.2.1.2.2.2.1,ao:=y.2.2.2.2.1.2.2.2.2.1,ai:=y.2.2.2.2.1.2.2.2.2.2.1,State:=y.2.2.2.2.1.2.2.2.2.2.2.1,bB:=y.2.2.2.2.1.2.2.2.2.2.2.2.1:aj};let x5:=aD y.2.2.2.2.1.2.2.2.1 (y.2.2.1.getD (Int.toNat y.1) ah);let x6:=y.2.2.1.length;let x7:=y.2.2.2.1.length;let x0:=dn y.2.2.2.2.1.2.2.2.2.2.2.1 y.2.2.2.1 x1;let x4:=Int.toNat x5;let x3:=(y.2.2.2.2.1.2.2.2.1.getD x4 aB).F;let x2:=[x3];let q1:=(wrap i64 (y.1+1),y.2.1,y.2.2.1,y.2.2.2.1++x2,(y.2.2.2.2.1.1,y.2.2.2.2.1.2.1,y.2.2.2.2.1.2.2.1,y.2.2.2.2.1.2.2.2.1,y.2.2.2.2.1.2.2.2.2.1,y.2.2.2.2.1.2.2.2.2.2.1,y.2.2.2.2.1.2.2.2.2.2.2.1,y.2.2.2.2.1.2.2.2.2.2.2.2.1,()),());xH x now y->bif decide (y.1<(↑x6:Int)) then 0<=y.1/\Int.toNat y.1<x6/\Int.toNat y.1<x6/\0<=x5/\x4<y.2.2.2.2.1.2.2.2.1.length/\x4<y.2.2.2.2.1.2.2.2.1.length/\x4<y.2.2.2.2.1.2.2.2.1.length/\x3.af.length<=4294967296/\x7+x2.length<=4294967296/\xH x now q1/\xA x now q1<xA x now y else u9 x1/\x6=x7/\(∀(f:aO),f∈y.2.2.2.1->bq f.Kind=true)/\(y.2.2.2.1≠[]->y.2.2.2.2.1.2.2.2.2.2.2.1=1\/y.2.2.2.2.1.2.2.2.2.2.2.1=3\/y.2.2.2.2.1.2.2.2.2.2.2.1=5)/\LM [VL .dw y.2.1] [VL .dw (gV x now)] [DV.box [CL .aK x0.S.aa,CI x0.S.Next,CL .av x0.aw,CL .aq x0.ae,CL .ax x0.ao,CL .aI x0.ai,CI x0.State,CI x0.bB]] [DV.box [CL .aK q0.S.aa,CI (q0.S.Next),CL .av q0.aw,CL .aq q0.ae,CL .ax q0.ao,CL .aI q0.ai,CI (q0.State),CI (q0.bB)]]):=by kernel_rfl
theorem zO(x:aj)(now:Int)(y:Int×T0×Unit)(hp:∀p∈DF.pre (x,now),p)(hb:∀d∈DF.ds (x,now),gz d)(hy:fH x now y):ov EE S6 f86 DF Th (x,now) 9 (j9 (x,now)) y:=by
 have dG:=ka (x:=x) (hb _ m0)
 have dN:=dG.1
 have fG:=dG.2.1
 have fF:=dG.2.2.1
 have eI:=dG.2.2.2.1
 have fE:=dG.2.2.2.2
 have rj:=zD (n:=now) (hb _ m1)
 have bJ:u9 x:=hp _ m0
 have eh:0<=now/\now<=1000000000:=hp _ m1
 clear hp hb
 rw[akC x now y]
 dsimp only
 obtain⟨d,hX⟩:=bJ
 have hT:=s_ hX eh.1 eh.2
 have hS:=vr hT eh.1 eh.2
 obtain⟨nw,p,⟨⟩⟩:=y
 obtain⟨rfl,hp⟩:=hy
 have hp:instT p=aL x nw:=hp
 have e1:p.2.2.2.1=(aL x nw).ae:=congrArg aj.ae hp
 have eC:p.2.2.2.1.flatMap (fS nw)=gV x nw:=by rw[e1];rfl
 have eF:p.2.2.2.1.flatMap (fg nw)=bS (aL x nw) nw:=by rw[e1];rfl
 have eS:instT (p.1,p.2.1,p.2.2.1,p.2.2.2.1.map (dh nw),p.2.2.2.2.1,p.2.2.2.2.2.1,p.2.2.2.2.2.2.1,p.2.2.2.2.2.2.2.1,())=dJ (aL x nw) nw:=congrArg (fun z=>dJ z nw) hp
 have An:(bS (aL x nw) nw).length<=30:=vg (ow _ (ub nw) _) (pT hT.fN).1
 refine⟨by show aS p.2.2.2.1=true;rw[e1];exact hT.fN,eh,⟨eC,eF,by omega,by omega,rfl,eS⟩,?_⟩
 clear eS eF eC e1
 clear hp
 rintro⟨i,calls,failed,facts,q,⟨⟩⟩ ⟨hc,hf,h1,h2,Lt,hq⟩
 have hc:calls=gV x nw:=hc
 have hf:failed=bS (aL x nw) nw:=hf
 have h1:0<=i:=h1
 have h2:i<=(failed.length:Int):=h2
 have Lt:facts=((bS (aL x nw) nw).take i.toNat).map (kH (dJ (aL x nw) nw).ae):=Lt
 have hq:instT q=dJ (aL x nw) nw:=hq
 subst hc hf
 have e2:q.2.2.2.1=(dJ (aL x nw) nw).ae:=congrArg aj.ae hq
 have e3:q.2.2.2.2.2.2.1=(aL x nw).State:=congrArg aj.State hq
 refine bc ?_ ?_<;>intro g
 ·have g:i<((bS (aL x nw) nw).length:Int):=g
  have hn:i.toNat<(bS (aL x nw) nw).length:=by omega
  have hk:=fL (z:=ah) hn
  obtain⟨k1,k2⟩:=vI hk
  have IF:=ua hT.fN eh.1 eh.2 hk
  have hl:=(oB IF).1
  have key:∀l:List ap,l=(dJ (aL x nw) nw).ae->0<=aD l ((bS (aL x nw) nw).getD i.toNat ah)/\(aD l ((bS (aL x nw) nw).getD i.toNat ah)).toNat<l.length/\(l.getD (aD l ((bS (aL x nw) nw).getD i.toNat ah)).toNat aB).F.af.length<=4294967296/\(l.getD (aD l ((bS (aL x nw) nw).getD i.toNat ah)).toNat aB).F=kH (dJ (aL x nw) nw).ae ((bS (aL x nw) nw).getD i.toNat ah):=by
   rintro l rfl
   refine⟨k1,?_,?_,rfl⟩
   ·have:aD (dJ (aL x nw) nw).ae ((bS (aL x nw) nw).getD i.toNat ah)<((dJ (aL x nw) nw).ae.length:Int):=k2
    have h0:0<=aD (dJ (aL x nw) nw).ae ((bS (aL x nw) nw).getD i.toNat ah):=k1
    omega
   ·exact vg hl (by omega)
  obtain⟨a1,a2,a3,a4⟩:=key _ e2
  have akg:facts.length<=30:=by rw[Lt,uW,nE];omega
  have oW:=wx (l:=bS (aL x nw) nw) ah hn
  have e:(i+1).toNat=i.toNat+1:=by omega
  have nx:∀(j:Int)(fs:List aO),j=i+1->fs=((bS (aL x nw) nw).take (i+1).toNat).map (kH (dJ (aL x nw) nw).ae)->xH x nw (j,gV x nw,bS (aL x nw) nw,fs,q,())/\xA x nw (j,gV x nw,bS (aL x nw) nw,fs,q,())<xA x nw (i,gV x nw,bS (aL x nw) nw,facts,q,()):=by
   rintro j fs rfl rfl
   exact⟨⟨rfl,rfl,by omega,by omega,rfl,hq⟩,by show(bS (aL x nw) nw).length-(i+1).toNat<(bS (aL x nw) nw).length-i.toNat;omega⟩
  exact⟨h1,hn,hn,a1,a2,a2,a2,a3,by simp only[ir,ig];omega,nx _ _ (wi (n:=i+1)) (by rw[a4,Lt,e,oW,HC];rfl)⟩
 ·have g:¬i<((bS (aL x nw) nw).length:Int):=g
  have ht:(bS (aL x nw) nw).take i.toNat=bS (aL x nw) nw:=QN (by omega)
  rw[ht] at Lt
  have qk:dn q.2.2.2.2.2.2.1 facts (instT q)=jG x nw:=by rw[e3,Lt,hq];rfl
  refine⟨by show u9 (instT q);rw[hq];exact ni hS,by rw[Lt,uW],fun f hm=> ?_,fun d_=> ?_,rfl,rfl,jy qk⟩
  ·rw[Lt] at hm
   obtain⟨k,hk,rfl⟩:=kW.1 hm
   exact tQ (ua hT.fN eh.1 eh.2 hk)
  ·show q.2.2.2.2.2.2.1=1\/q.2.2.2.2.2.2.1=3\/q.2.2.2.2.2.2.1=5
   rw[e3]
   exact yr hT (now:=nw) (fun e=>d_ (by rw[Lt,e];rfl))
theorem zN(x:aj)(now:Int)(hp:∀p∈DF.pre (x,now),p)(hb:∀d∈DF.ds (x,now),gz d):tu EE S6 f86 DF Th (x,now) 9 (j9 (x,now)):=by
 have dG:=ka (x:=x) (hb _ m0)
 have dN:=dG.1
 have fG:=dG.2.1
 have fF:=dG.2.2.1
 have eI:=dG.2.2.2.1
 have fE:=dG.2.2.2.2
 have rj:=zD (n:=now) (hb _ m1)
 have bJ:u9 x:=hp _ m0
 have eh:0<=now/\now<=1000000000:=hp _ m1
 clear hp hb
 apply vE (bif x.State==1 then L4 (cm x.ao)/\DL x now (0,g_ now x.ao,(x.S.aa,x.S.Next,x.aw,x.ae,CE now x.ao,x.ai,x.State,now,()),())/\∀(y:Int×List aF×T8×PUnit),let x2:={aa:=y.2.2.1.1,Next:=y.2.2.1.2.1:aG};let x3:=(y.2.1.getD y.1.toNat cq).F;let x5:=y.2.1.length;let x1:={S:=x2,aw:=y.2.2.1.2.2.1,ae:=y.2.2.1.2.2.2.1,ao:=y.2.2.1.2.2.2.2.1,ai:=y.2.2.1.2.2.2.2.2.1,State:=y.2.2.1.2.2.2.2.2.2.1,bB:=y.2.2.1.2.2.2.2.2.2.2.1:aj};let x4:=(↑x5:Int);let x0:=cF x1 x3;let q0:=fH x now (now,(y.2.2.1.1,y.2.2.1.2.1,y.2.2.1.2.2.1,y.2.2.1.2.2.2.1,y.2.2.1.2.2.2.2.1,y.2.2.1.2.2.2.2.2.1,y.2.2.1.2.2.2.2.2.2.1,y.2.2.1.2.2.2.2.2.2.2.1,()),());let q1:=(wrap i64 (y.1+1),y.2.1,(x0.S.aa,x0.S.Next,x0.aw,x0.ae,x0.ao,x0.ai,x0.State,x0.bB,()),());DL x now y->bif decide (y.1<x4) then bif y.2.2.1.2.2.2.2.2.2.1==1 then 0<=y.1/\y.1.toNat<x5/\y.1.toNat<x5/\y.1.toNat<x5/\bT x1/\bm x2=true/\L4 x3.af.length/\DL x now q1/\DC x now q1<DC x now y else q0 else q0 else fH x now (now,(x.S.aa,x.S.Next,x.aw,x.ae,x.ao,x.ai,x.State,now,()),()))
 dsimp only
 have hX:=bJ
 obtain⟨d,hX⟩:=hX
 have hts:=(tL hX.timers).2
 have fin:∀z:aj,z=aL x now->fH x now (now,sD z,()):=fun z hz=>⟨rfl,hz⟩
 refine ct (fun hs=>⟨by omega,⟨rfl,by omega,by omega,?_,?_⟩,?_⟩) (fun hs=> ?_)
 ·exact ni (jr (d:=d) (x:=YJ x now) ⟨hX.nJ,hX.store,hX.fN,pQ _ hX.timers,hX.kA,eh,hX.HF,hX.bP⟩ hs)
 ·exact(if_pos hs).symm
 ·have h30:(g_ now x.ao).length<=30:=vg (KK _ _) (tL hX.timers).1
  have IF:∀t∈g_ now x.ao,bw t.F=true:=fun t ht=>by
   have:=(mz.1 hX.timers).2.1 t (wc.1 ht).1
   simp only[gF,cH] at this
   exact this.2
  rintro⟨i,l,p,⟨⟩⟩ ⟨rfl,h1,h2,hY,hE⟩
  obtain⟨d',hY⟩:u9 (instT p):=hY
  have h1:0<=i:=h1
  have h2:i<=(g_ now x.ao).length:=h2
  have hE:iB ((g_ now x.ao).drop i.toNat) (instT p)=aL x now:=hE
  refine bc (fun hc=>ct (fun g=> ?_) (fun g=> ?_)) (fun hc=> ?_)
  ·have hc:i<((g_ now x.ao).length:Int):=hc
   have hn:i.toNat<(g_ now x.ao).length:=by omega
   have g:(instT p).State=1:=g
   have hf:=IF _ (fL (z:=cq) hn)
   rw[zr h1 hc,if_pos g] at hE
   have nx:∀j,j=i+1->DL x now (j,g_ now x.ao,sD (cF (instT p) ((g_ now x.ao).getD i.toNat cq).F),())/\DC x now (j,g_ now x.ao,sD (cF (instT p) ((g_ now x.ao).getD i.toNat cq).F),())<DC x now (i,g_ now x.ao,p,()):=by
    rintro j rfl
    exact⟨⟨rfl,by omega,by omega,⟨d',fQ hY.tocoreX g hf⟩,hE⟩,by show(g_ now x.ao).length-(i+1).toNat<(g_ now x.ao).length-i.toNat;omega⟩
   exact⟨h1,hn,hn,hn,hY.good,hY.store,vg (oB hf).1 (by omega),nx _ (wi (n:=i+1))⟩
  ·have g:¬(instT p).State=1:=g
   rw[vy g] at hE
   exact fin _ hE
  ·have hc:¬i<((g_ now x.ao).length:Int):=hc
   rw[List.drop_eq_nil_of_le (by omega)] at hE
   exact fin (instT p) hE
 ·exact fin (KQ x now) (if_neg hs).symm
attribute [local irreducible] tu ov in
theorem akG:Holds EE (86,DF):=by
 refine yC pM func86 DF (by kernel_rfl) S6 (wl _) Th 9 j9 (by kernel_rfl) (fun x hp hb=> ?_)
 obtain⟨x,now⟩:=x
 refine⟨zN x now hp hb,fun(y:Int×T0×Unit) hy=> ?_⟩
 have hy:fH x now y:=hy
 exact zO x now y hp hb hy
def alH:HH:=⟨_,akG⟩
theorem NI(x:aj):(eD x 3).State≠1:=by
 unfold eD cn
 split
 ·show(if(rF x 3).State=5 then(6:Int) else 4)≠1
  split<;>decide
 ·show(3:Int)≠1;decide
theorem ajV{α β:Type}(f:α->β){l:List α}{i:Nat}(z:α)(z':β)(h:i<l.length):(l.map f).getD i z'=f (l.getD i z):=by
 rw[dB,dB,mw,eW h];rfl
def Qk:=R8 6 2 (α:=aG×aO) (qC (qX .dD) (q1 (qA .cU))) [.box true,.ro] (fun(s,f)=>[bm s=true,¬(bG s f).2=0,L4 f.af.length]) (fun(s,f)=>⟨[],[],[dX .dD ((bG s f).1)]⟩)
def af1:AX Qk:=fun(s,f)=>b_ []
def acr:=us [VK,YU]
theorem acz:Holds EE (53,Qk):=by
 refine tV pM func53 Qk (by kernel_rfl) rfl acr (wl _) af1 (fun x hp hb rest jn=> ?_)
 obtain⟨s,f⟩:=x
 have k_:=Du (x:=s) (hb _ m0)
 have gM:=oM (x:=f) (hb _ m1)
 have n7:=gM.1
 have lp:=gM.2
 have bJ:bm s=true:=hp _ m0
 have eh:¬(bG s f).2=0:=hp _ m1
 have Ef:f.af.length<=4294967296:=hp _ m2
 clear hp hb
 have jn:rest.length=6:=jn
 match rest,jn with
 |[r0,r1,r2,r3,r4,r5],_=>
 apply vE (let q0:=bG {aa:={τ:=Cd.aK,xs:=s.aa:cC UU}.xs,Next:=s.Next:aG} {Kind:=f.Kind,af:=f.af:aO};bm s=true/\L4 f.af.length/\bif !decide ¬q0.2=0 then False else List.length (α:=AC UU) (rcs [r0,r1,r2,r3,r4,r5])=List.length [r0,r1,r2,r3,r4,r5]/\(rcs [r0,r1,r2,r3,r4,r5])=List.map (fun(v:Value)=>(AC.c (Cell.lit v):AC UU)) [r0,r1,r2,r3,r4,r5]/\gH []=gH []/\gH [DV.box [CL .aK q0.1.aa,CI (q0.1.Next)]]=gH [DV.box [CL .aK (bG s f).1.aa,CI ((bG s f).1.Next)]])
 dsimp only
 have hS:(⟨s.aa,s.Next⟩:aG)=s:=rfl
 have hF:(⟨f.Kind,f.af⟩:aO)=f:=rfl
 simp only[hS,hF]
 refine⟨bJ,Ef,bu (fun h=>absurd h (by rw[decide_eq_true eh];decide)) (fun h=> ?_)⟩
 repeat' (first|exact rfl|trivial|refine And.intro ?_ ?_)
def aem:HH:=⟨_,acz⟩
def DH:=cf (α:=aj×Int) (qC (qX .bY) (q1 qI)) [.box true,.ro] (fun(x,now)=>[u9 x,0<=now/\now<=1000000000]) (fun(x,now)=>⟨[dL .dw (gV x now)],[],[dX .bY (jG x now)]⟩)
def v8(x:aj)(now:Int):Int×List aF×T0×Unit->Prop:=fun(i,l,p,_)=>l=g_ now x.ao/\0<=i/\i<=l.length/\u9 (instT p)/\iB ((g_ now x.ao).drop i.toNat) (instT p)=aL x now
def rO(x:aj)(now:Int):Int×List aF×T0×Unit->Nat:=fun(i,l,p,_)=>l.length-i.toNat
def r_(x:aj)(now:Int):Int×List ib×List BA×T0×Unit×Unit->Prop:=fun(i,calls,failed,p,z,_)=>calls=gV x now/\failed=bS (aL x now) now/\0<=i/\i<=failed.length/\u9 (instT p)/\p.2.2.2.1=(dJ (aL x now) now).ae/\dn (aL x now).State (((bS (aL x now) now).map (kH (dJ (aL x now) now).ae)).drop i.toNat) (instT p)=jG x now
def jJ(x:aj)(now:Int):Int×List ib×List BA×T0×Unit×Unit->Nat:=fun(i,calls,failed,p,z,_)=>failed.length-i.toNat
def bI(x:aj)(now:Int):Int×List ib×List BA×T0×Unit->Prop:=fun(i,calls,failed,p,_)=>calls=gV x now/\failed=bS (aL x now) now/\0<=i/\i<=failed.length/\u9 (instT p)/\((aL x now).State=1->¬(instT p).State=1)/\dn (aL x now).State (((bS (aL x now) now).map (kH (dJ (aL x now) now).ae)).drop i.toNat) (instT p)=jG x now
def bD(x:aj)(now:Int):Int×List ib×List BA×T0×Unit->Nat:=fun(i,calls,failed,p,_)=>failed.length-i.toNat
def Tj:AX DH:=fun(x,now)=>b_ [(6,aY [iI 39,iO 37 .ax,.box 0 (2000000,0) [.own .aK true,.lit (.int .i64),.own .av true,.own .aq true,.own .ax true,.own .aI true,.lit (.int .i64),.lit (.int .i64)]] (fun _=>v8 x now) (rO x now)),(15,YR (aY [iI 73,iO 10 .dw,iO 71 .str,.box 0 (2000000,0) [.own .aK true,.lit (.int .i64),.own .av true,.own .aq true,.own .ax true,.own .aI true,.lit (.int .i64),.lit (.int .i64)],.slot 9 (2000000,4099) .al] (fun _=>r_ x now) (jJ x now)) (aY [iI 73,iO 10 .dw,iO 71 .str,.box 0 (2000000,0) [.own .aK true,.lit (.int .i64),.own .av true,.own .aq true,.own .ax true,.own .aI true,.lit (.int .i64),.lit (.int .i64)]] (fun _=>bI x now) (bD x now)))]
def S8:=us [al0,aen,aem,alZ,YV,ael,aek]
def eV(x:aj)(now:Int):Int×T0×Unit->Prop:=fun(nw,p,_)=>nw=now/\instT p=aL x now
def je:DH.α->sA UU:=fun(x,now)=>aY [iI 1,.box 0 (2000000,0) [.own .aK true,.lit (.int .i64),.own .av true,.own .aq true,.own .ax true,.own .aI true,.lit (.int .i64),.lit (.int .i64)]] (fun _=>eV x now) (fun _=>0)
theorem akF(x:aj)(now:Int)(y:Int×T0×Unit):ov EE S8 f23 DH Tj (x,now) 11 (je (x,now)) y=(let x0:=if aS y.2.1.2.2.2.1=true/\0<=y.1/\y.1<=1000000000 then List.flatMap (fg y.1) y.2.1.2.2.2.1 else[];let x1:=if aS y.2.1.2.2.2.1=true/\0<=y.1/\y.1<=1000000000 then List.flatMap (fS y.1) y.2.1.2.2.2.1 else[];let x2:=y.2.1.2.2.2.2.2.2.1==1;let q0:=jG x now;let q1:=List bW×Int×List au×List ap×List aF×List br×Int×Int×PUnit;let q2:=(y.2.1.1,y.2.1.2.1,y.2.1.2.2.1,if aS y.2.1.2.2.2.1=true/\0<=y.1/\y.1<=1000000000 then y.2.1.2.2.2.1.map (dh y.1) else y.2.1.2.2.2.1,y.2.1.2.2.2.2.1,y.2.1.2.2.2.2.2.1,y.2.1.2.2.2.2.2.2.1,y.2.1.2.2.2.2.2.2.2.1,());let q3:=gV x now;let q4:=q0.S.Next;let q5:=(↑(x0.length):Int);bO y.2.1.2.2.2.1<=4294967296/\((r_ x now (0,x1,x0,q2,(),())/\(∀(aE:Int×List ib×List BA×q1×PUnit×PUnit),let x7:={aa:=aE.2.2.2.1.1,Next:=aE.2.2.2.1.2.1:aG};let x9:=aD aE.2.2.2.1.2.2.2.1 (aE.2.2.1.getD (Int.toNat aE.1) ah);let l7:=wrap i64 (aE.1+1);let x5:={S:=x7,aw:=aE.2.2.2.1.2.2.1,ae:=aE.2.2.2.1.2.2.2.1,ao:=aE.2.2.2.1.2.2.2.2.1,ai:=aE.2.2.2.1.2.2.2.2.2.1,State:=aE.2.2.2.1.2.2.2.2.2.2.1,bB:=aE.2.2.2.1.2.2.2.2.2.2.2.1:aj};let x8:=Int.toNat x9;let x4:=nP x5;let x6:=jW (aE.2.2.2.1.2.2.2.1.getD x8 aB).F {data:= #[110,111]:BA} {K:=(1:Int),N:=(0:Int),S:={data:= #[]:BA}:aU};let x3:=cF x5 x6;let q6:=((bG {aa:=aE.2.2.2.1.1,Next:=aE.2.2.2.1.2.1:aG} {Kind:=x6.Kind,af:=x6.af:aO}).1.aa,(bG {aa:=aE.2.2.2.1.1,Next:=aE.2.2.2.1.2.1:aG} {Kind:=x6.Kind,af:=x6.af:aO}).1.Next,aE.2.2.2.1.2.2.1,aE.2.2.2.1.2.2.2.1,aE.2.2.2.1.2.2.2.2.1,aE.2.2.2.1.2.2.2.2.2.1,aE.2.2.2.1.2.2.2.2.2.2.1,aE.2.2.2.1.2.2.2.2.2.2.2.1,());let q7:=LM [VL .dw aE.2.1] [VL .dw q3] [DV.box [CL .aK aE.2.2.2.1.1,CI aE.2.2.2.1.2.1,CL .av aE.2.2.2.1.2.2.1,CL .aq aE.2.2.2.1.2.2.2.1,CL .ax aE.2.2.2.1.2.2.2.2.1,CL .aI aE.2.2.2.1.2.2.2.2.2.1,CI aE.2.2.2.1.2.2.2.2.2.2.1,CI aE.2.2.2.1.2.2.2.2.2.2.2.1]] [DV.box [CL .aK q0.S.aa,CI q4,CL .av q0.aw,CL .aq q0.ae,CL .ax q0.ao,CL .aI q0.ai,CI (q0.State),CI (q0.bB)]];let q8:=(l7,aE.2.1,aE.2.2.1,(x3.S.aa,x3.S.Next,x3.aw,x3.ae,x3.ao,x3.ai,x3.State,x3.bB,()),());let q9:=(l7,aE.2.1,aE.2.2.1,(x4.S.aa,x4.S.Next,x4.aw,x4.ae,x4.ao,x4.ai,x4.State,x4.bB,()),());r_ x now aE->bif decide (aE.1<q5) then 0<=aE.1/\Int.toNat aE.1<aE.2.2.1.length/\Int.toNat aE.1<aE.2.2.1.length/\bif aE.2.2.2.1.2.2.2.2.2.2.1 !=y.2.1.2.2.2.2.2.2.1 then q7 else bif x2 then 0<=x9/\x8<aE.2.2.2.1.2.2.2.1.length/\x8<aE.2.2.2.1.2.2.2.1.length/\x8<aE.2.2.2.1.2.2.2.1.length/\(bT x5/\bm x7=true/\x6.af.length<=4294967296/\(False\/bI x now q8/\bD x now q8<jJ x now aE)\/bm x7=true/\¬(bG {aa:=aE.2.2.2.1.1,Next:=aE.2.2.2.1.2.1:aG} {Kind:=x6.Kind,af:=x6.af:aO}).2=0/\x6.af.length<=4294967296/\(r_ x now (l7,aE.2.1,aE.2.2.1,q6,(),())/\jJ x now (l7,aE.2.1,aE.2.2.1,q6,(),())<jJ x now aE\/bI x now (l7,aE.2.1,aE.2.2.1,q6,())/\bD x now (l7,aE.2.1,aE.2.2.1,q6,())<jJ x now aE)) else bT x5/\(aE.2.2.2.1.2.2.2.2.2.2.1=3\/aE.2.2.2.1.2.2.2.2.2.2.1=5)/\(False\/bI x now q9/\bD x now q9<jJ x now aE) else q7)/\∀(aE:Int×List ib×List BA×q1×PUnit),let x4:={S:={aa:=aE.2.2.2.1.1,Next:=aE.2.2.2.1.2.1:aG},aw:=aE.2.2.2.1.2.2.1,ae:=aE.2.2.2.1.2.2.2.1,ao:=aE.2.2.2.1.2.2.2.2.1,ai:=aE.2.2.2.1.2.2.2.2.2.1,State:=aE.2.2.2.1.2.2.2.2.2.2.1,bB:=aE.2.2.2.1.2.2.2.2.2.2.2.1:aj};let x3:=nP x4;let Zc:=LM [VL .dw aE.2.1] [VL .dw q3] [DV.box [CL .aK aE.2.2.2.1.1,CI aE.2.2.2.1.2.1,CL .av aE.2.2.2.1.2.2.1,CL .aq aE.2.2.2.1.2.2.2.1,CL .ax aE.2.2.2.1.2.2.2.2.1,CL .aI aE.2.2.2.1.2.2.2.2.2.1,CI aE.2.2.2.1.2.2.2.2.2.2.1,CI aE.2.2.2.1.2.2.2.2.2.2.2.1]] [DV.box [CL .aK q0.S.aa,CI q4,CL .av q0.aw,CL .aq q0.ae,CL .ax q0.ao,CL .aI q0.ai,CI (q0.State),CI (q0.bB)]];let Zb:=(wrap i64 (aE.1+1),aE.2.1,aE.2.2.1,(x3.S.aa,x3.S.Next,x3.aw,x3.ae,x3.ao,x3.ai,x3.State,x3.bB,()),());bI x now aE->bif decide (aE.1<q5) then 0<=aE.1/\Int.toNat aE.1<aE.2.2.1.length/\Int.toNat aE.1<aE.2.2.1.length/\bif aE.2.2.2.1.2.2.2.2.2.2.1 !=y.2.1.2.2.2.2.2.2.1 then Zc else bif x2 then False else bT x4/\(aE.2.2.2.1.2.2.2.2.2.2.1=3\/aE.2.2.2.1.2.2.2.2.2.2.1=5)/\(False\/bI x now Zb/\bD x now Zb<bD x now aE) else Zc)\/bI x now (0,x1,x0,q2,())/\(∀(aE:Int×List ib×List BA×q1×PUnit×PUnit),let x7:={aa:=aE.2.2.2.1.1,Next:=aE.2.2.2.1.2.1:aG};let x9:=aD aE.2.2.2.1.2.2.2.1 (aE.2.2.1.getD (Int.toNat aE.1) ah);let l7:=wrap i64 (aE.1+1);let x5:={S:=x7,aw:=aE.2.2.2.1.2.2.1,ae:=aE.2.2.2.1.2.2.2.1,ao:=aE.2.2.2.1.2.2.2.2.1,ai:=aE.2.2.2.1.2.2.2.2.2.1,State:=aE.2.2.2.1.2.2.2.2.2.2.1,bB:=aE.2.2.2.1.2.2.2.2.2.2.2.1:aj};let x8:=Int.toNat x9;let x4:=nP x5;let x6:=jW (aE.2.2.2.1.2.2.2.1.getD x8 aB).F {data:= #[110,111]:BA} {K:=(1:Int),N:=(0:Int),S:={data:= #[]:BA}:aU};let x3:=cF x5 x6;let W8:=((bG {aa:=aE.2.2.2.1.1,Next:=aE.2.2.2.1.2.1:aG} {Kind:=x6.Kind,af:=x6.af:aO}).1.aa,(bG {aa:=aE.2.2.2.1.1,Next:=aE.2.2.2.1.2.1:aG} {Kind:=x6.Kind,af:=x6.af:aO}).1.Next,aE.2.2.2.1.2.2.1,aE.2.2.2.1.2.2.2.1,aE.2.2.2.1.2.2.2.2.1,aE.2.2.2.1.2.2.2.2.2.1,aE.2.2.2.1.2.2.2.2.2.2.1,aE.2.2.2.1.2.2.2.2.2.2.2.1,());let Za:=LM [VL .dw aE.2.1] [VL .dw q3] [DV.box [CL .aK aE.2.2.2.1.1,CI aE.2.2.2.1.2.1,CL .av aE.2.2.2.1.2.2.1,CL .aq aE.2.2.2.1.2.2.2.1,CL .ax aE.2.2.2.1.2.2.2.2.1,CL .aI aE.2.2.2.1.2.2.2.2.2.1,CI aE.2.2.2.1.2.2.2.2.2.2.1,CI aE.2.2.2.1.2.2.2.2.2.2.2.1]] [DV.box [CL .aK q0.S.aa,CI q4,CL .av q0.aw,CL .aq q0.ae,CL .ax q0.ao,CL .aI q0.ai,CI (q0.State),CI (q0.bB)]];let Y_:=(l7,aE.2.1,aE.2.2.1,(x3.S.aa,x3.S.Next,x3.aw,x3.ae,x3.ao,x3.ai,x3.State,x3.bB,()),());let q15:=(l7,aE.2.1,aE.2.2.1,(x4.S.aa,x4.S.Next,x4.aw,x4.ae,x4.ao,x4.ai,x4.State,x4.bB,()),());r_ x now aE->bif decide (aE.1<q5) then 0<=aE.1/\Int.toNat aE.1<aE.2.2.1.length/\Int.toNat aE.1<aE.2.2.1.length/\bif aE.2.2.2.1.2.2.2.2.2.2.1 !=y.2.1.2.2.2.2.2.2.1 then Za else bif x2 then 0<=x9/\x8<aE.2.2.2.1.2.2.2.1.length/\x8<aE.2.2.2.1.2.2.2.1.length/\x8<aE.2.2.2.1.2.2.2.1.length/\(bT x5/\bm x7=true/\x6.af.length<=4294967296/\(False\/bI x now Y_/\bD x now Y_<jJ x now aE)\/bm x7=true/\¬(bG {aa:=aE.2.2.2.1.1,Next:=aE.2.2.2.1.2.1:aG} {Kind:=x6.Kind,af:=x6.af:aO}).2=0/\x6.af.length<=4294967296/\(r_ x now (l7,aE.2.1,aE.2.2.1,W8,(),())/\jJ x now (l7,aE.2.1,aE.2.2.1,W8,(),())<jJ x now aE\/bI x now (l7,aE.2.1,aE.2.2.1,W8,())/\bD x now (l7,aE.2.1,aE.2.2.1,W8,())<jJ x now aE)) else bT x5/\(aE.2.2.2.1.2.2.2.2.2.2.1=3\/aE.2.2.2.1.2.2.2.2.2.2.1=5)/\(False\/bI x now q15/\bD x now q15<jJ x now aE) else Za)/\∀(aE:Int×List ib×List BA×q1×PUnit),let x4:={S:={aa:=aE.2.2.2.1.1,Next:=aE.2.2.2.1.2.1:aG},aw:=aE.2.2.2.1.2.2.1,ae:=aE.2.2.2.1.2.2.2.1,ao:=aE.2.2.2.1.2.2.2.2.1,ai:=aE.2.2.2.1.2.2.2.2.2.1,State:=aE.2.2.2.1.2.2.2.2.2.2.1,bB:=aE.2.2.2.1.2.2.2.2.2.2.2.1:aj};let x3:=nP x4;let Y':=LM [VL .dw aE.2.1] [VL .dw q3] [DV.box [CL .aK aE.2.2.2.1.1,CI aE.2.2.2.1.2.1,CL .av aE.2.2.2.1.2.2.1,CL .aq aE.2.2.2.1.2.2.2.1,CL .ax aE.2.2.2.1.2.2.2.2.1,CL .aI aE.2.2.2.1.2.2.2.2.2.1,CI aE.2.2.2.1.2.2.2.2.2.2.1,CI aE.2.2.2.1.2.2.2.2.2.2.2.1]] [DV.box [CL .aK q0.S.aa,CI q4,CL .av q0.aw,CL .aq q0.ae,CL .ax q0.ao,CL .aI q0.ai,CI (q0.State),CI (q0.bB)]];let Y9:=(wrap i64 (aE.1+1),aE.2.1,aE.2.2.1,(x3.S.aa,x3.S.Next,x3.aw,x3.ae,x3.ao,x3.ai,x3.State,x3.bB,()),());bI x now aE->bif decide (aE.1<q5) then 0<=aE.1/\Int.toNat aE.1<aE.2.2.1.length/\Int.toNat aE.1<aE.2.2.1.length/\bif aE.2.2.2.1.2.2.2.2.2.2.1 !=y.2.1.2.2.2.2.2.2.1 then Y' else bif x2 then False else bT x4/\(aE.2.2.2.1.2.2.2.2.2.2.1=3\/aE.2.2.2.1.2.2.2.2.2.2.1=5)/\(False\/bI x now Y9/\bD x now Y9<bD x now aE) else Y')):=by kernel_rfl
theorem wk(x:aj)(now:Int)(y:Int×T0×Unit)(hp:∀p∈DH.pre (x,now),p)(hb:∀d∈DH.ds (x,now),gz d)(hy:eV x now y):ov EE S8 f23 DH Tj (x,now) 11 (je (x,now)) y:=by
 have dG:=ka (x:=x) (hb _ m0)
 have dN:=dG.1
 have fG:=dG.2.1
 have fF:=dG.2.2.1
 have eI:=dG.2.2.2.1
 have fE:=dG.2.2.2.2
 have rj:=zD (n:=now) (hb _ m1)
 have bJ:u9 x:=hp _ m0
 have eh:0<=now/\now<=1000000000:=hp _ m1
 clear hp hb
 rw[akF x now y]
 dsimp only
 obtain⟨d,hX⟩:=bJ
 have hT:=s_ hX eh.1 eh.2
 have hS:=vr hT eh.1 eh.2
 obtain⟨nw,p,⟨⟩⟩:=y
 obtain⟨rfl,hp⟩:=hy
 have hp:instT p=aL x nw:=hp
 have e1:p.2.2.2.1=(aL x nw).ae:=congrArg aj.ae hp
 have e3:p.2.2.2.2.2.2.1=(aL x nw).State:=congrArg aj.State hp
 have QV:aS p.2.2.2.1=true/\(0:Int)<=nw/\nw<=(1000000000:Int):=⟨by rw[e1];exact hT.fN,eh⟩
 have tU:bO p.2.2.2.1<=4294967296:=by rw[e1];have:=(pT hT.fN).2;omega
 simp only[if_pos QV]
 have eC:p.2.2.2.1.flatMap (fS nw)=gV x nw:=by rw[e1];rfl
 have eF:p.2.2.2.1.flatMap (fg nw)=bS (aL x nw) nw:=by rw[e1];rfl
 have eT:p.2.2.2.1.map (dh nw)=(dJ (aL x nw) nw).ae:=by rw[e1];rfl
 have eS:instT (p.1,p.2.1,p.2.2.1,(dJ (aL x nw) nw).ae,p.2.2.2.2.1,p.2.2.2.2.2.1,(aL x nw).State,p.2.2.2.2.2.2.2.1,())=dJ (aL x nw) nw:=by
  rw[<-eT,<-e3];exact congrArg (fun z=>dJ z nw) hp
 have An:(bS (aL x nw) nw).length<=30:=vg (ow _ (ub nw) _) (pT hT.fN).1
 have Z_:bS (aL x nw) nw≠[]->(aL x nw).State=1\/(aL x nw).State=3\/(aL x nw).State=5:=yr hT (now:=nw)
 rw[eC,eF,eT,e3]
 refine⟨tU,.inl ⟨⟨rfl,rfl,by omega,by omega,?_,rfl,?_⟩,?_,?_⟩⟩
 ·show u9 (instT (p.1,p.2.1,p.2.2.1,(dJ (aL x nw) nw).ae,p.2.2.2.2.1,p.2.2.2.2.2.1,(aL x nw).State,p.2.2.2.2.2.2.2.1,()))
  rw[eS];exact ni hS
 ·show dn _ _ (instT (p.1,p.2.1,p.2.2.1,(dJ (aL x nw) nw).ae,p.2.2.2.2.1,p.2.2.2.2.2.1,(aL x nw).State,p.2.2.2.2.2.2.2.1,()))=_
  rw[eS];rfl
 ·clear eC eF eT eS e1 QV tU
  rintro⟨i,calls,failed,q,z,⟨⟩⟩ ⟨hc,hf,h1,h2,hY,hq,hE⟩
  obtain⟨d',hY⟩:u9 (instT q):=hY
  have h1:0<=i:=h1
  have hc:calls=gV x nw:=hc
  have hf:failed=bS (aL x nw) nw:=hf
  have h2:i<=(failed.length:Int):=h2
  subst hc hf
  have hq:q.2.2.2.1=(dJ (aL x nw) nw).ae:=hq
  have hE:dn (aL x nw).State (((bS (aL x nw) nw).map (kH (dJ (aL x nw) nw).ae)).drop i.toNat) (instT q)=jG x nw:=hE
  have ml:((bS (aL x nw) nw).map (kH (dJ (aL x nw) nw).ae)).length=(bS (aL x nw) nw).length:=uW _
  have w1:=wi (n:=i+1)
  have nx2:∀(z:aj)(j:Int),j=i+1->i<(bS (aL x nw) nw).length->u9 z->((aL x nw).State=1->¬z.State=1)->dn (aL x nw).State (((bS (aL x nw) nw).map (kH (dJ (aL x nw) nw).ae)).drop (i+1).toNat) z=jG x nw->bI x nw (j,gV x nw,bS (aL x nw) nw,sD z,())/\bD x nw (j,gV x nw,bS (aL x nw) nw,sD z,())<jJ x nw (i,gV x nw,bS (aL x nw) nw,q,(),()):=by
   rintro z j rfl hi hz sz hz3
   exact⟨⟨rfl,rfl,by omega,by omega,hz,sz,hz3⟩,by show(bS (aL x nw) nw).length-(i+1).toNat<(bS (aL x nw) nw).length-i.toNat;omega⟩
  have nx1:∀(z:aj)(j:Int),j=i+1->i<(bS (aL x nw) nw).length->u9 z->z.ae=(dJ (aL x nw) nw).ae->dn (aL x nw).State (((bS (aL x nw) nw).map (kH (dJ (aL x nw) nw).ae)).drop (i+1).toNat) z=jG x nw->r_ x nw (j,gV x nw,bS (aL x nw) nw,sD z,(),())/\jJ x nw (j,gV x nw,bS (aL x nw) nw,sD z,(),())<jJ x nw (i,gV x nw,bS (aL x nw) nw,q,(),()):=by
   rintro z j rfl hi hz sz hz3
   exact⟨⟨rfl,rfl,by omega,by omega,hz,sz,hz3⟩,by show(bS (aL x nw) nw).length-(i+1).toNat<(bS (aL x nw) nw).length-i.toNat;omega⟩
  refine bc (fun g=>⟨h1,?_⟩) (fun g=> ?_)
  ·have g:i<((bS (aL x nw) nw).length:Int):=g
   have hn:i.toNat<(bS (aL x nw) nw).length:=by omega
   have hk:=fL (z:=ah) hn
   obtain⟨k1,k2⟩:=vI hk
   have IF:=ua hT.fN eh.1 eh.2 hk
   refine⟨hn,hn,i_ (fun hs=> ?_) (fun hs=> ?_)⟩
   ·have hs:¬(instT q).State=(aL x nw).State:=hs
    rw[vH hs] at hE
    exact⟨by trivial,rfl,jy hE⟩
   ·have hs:(instT q).State=(aL x nw).State:=hs
    rw[pA h1 (by omega),if_pos hs,ajV _ ah _ hn] at hE
    refine ct ?_ ?_<;>intro s1
    ·have s1:(aL x nw).State=1:=s1
     rw[if_pos s1] at hE
     have key:∀l:List ap,l=(dJ (aL x nw) nw).ae->0<=aD l ((bS (aL x nw) nw).getD i.toNat ah)/\(aD l ((bS (aL x nw) nw).getD i.toNat ah)).toNat<l.length/\(l.getD (aD l ((bS (aL x nw) nw).getD i.toNat ah)).toNat aB).F=kH (dJ (aL x nw) nw).ae ((bS (aL x nw) nw).getD i.toNat ah):=by
      rintro l rfl
      refine⟨k1,?_,rfl⟩
      have:aD (dJ (aL x nw) nw).ae ((bS (aL x nw) nw).getD i.toNat ah)<((dJ (aL x nw) nw).ae.length:Int):=k2
      have h0:0<=aD (dJ (aL x nw) nw).ae ((bS (aL x nw) nw).getD i.toNat ah):=k1
      omega
     obtain⟨a1,a2,a3⟩:=key _ hq
     have hm:=rE (w:=P_) (v:=u_) (tQ IF) KC CT
     refine⟨a1,a2,a2,a2,?_⟩
     dsimp only
     rw[a3]
     by_cases hz:(bG (instT q).S (jW (kH (dJ (aL x nw) nw).ae ((bS (aL x nw) nw).getD i.toNat ah)) P_ u_)).2=0
     ·refine .inl ⟨hY.good,hY.store,by simp[jW],.inr (nx2 (cF (instT q) _) _ w1 g ⟨d',fQ hY.tocoreX (hs.trans s1) hm⟩ (fun _=> ?_) hE)⟩
      have e:cF (instT q) (jW (kH (dJ (aL x nw) nw).ae ((bS (aL x nw) nw).getD i.toNat ah)) P_ u_)=eD (instT q) 3:=if_pos hz
      have h9:=NI (instT q)
      rw[<-e] at h9;exact h9
     ·have e:cF (instT q) (jW (kH (dJ (aL x nw) nw).ae ((bS (aL x nw) nw).getD i.toNat ah)) P_ u_)=uY (instT q) (bG (instT q).S (jW (kH (dJ (aL x nw) nw).ae ((bS (aL x nw) nw).getD i.toNat ah)) P_ u_)).1:=if_neg hz
      rw[e] at hE
      refine .inr ⟨hY.store,hz,by simp[jW],.inl (nx1 (uY (instT q) _) _ w1 g ⟨d',?_⟩ hq hE)⟩
      have h9:cz d' (cF (instT q) (jW (kH (dJ (aL x nw) nw).ae ((bS (aL x nw) nw).getD i.toNat ah)) P_ u_)):=fQ hY.tocoreX (hs.trans s1) hm
      rw[e] at h9;exact h9
    ·have s1:¬(aL x nw).State=1:=s1
     rw[if_neg s1] at hE
     have h3:=Z_ (by intro e;rw[e] at hn;simp at hn)
     have Ue:(instT q).State=3\/(instT q).State=5:=by omega
     exact⟨hY.good,Ue,.inr (nx2 _ _ w1 g ⟨d',od hY.tocoreX Ue⟩ (fun e=>absurd e s1) hE)⟩
  ·have g:¬i<((bS (aL x nw) nw).length:Int):=g
   rw[List.drop_eq_nil_of_le (by omega)] at hE
   exact⟨by trivial,rfl,jy (a:=instT q) hE⟩
 ·clear eC eF eT eS e1 QV tU
  rintro⟨i,calls,failed,q,⟨⟩⟩ ⟨hc,hf,h1,h2,hY,hN,hE⟩
  obtain⟨d',hY⟩:u9 (instT q):=hY
  have h1:0<=i:=h1
  have hc:calls=gV x nw:=hc
  have hf:failed=bS (aL x nw) nw:=hf
  have h2:i<=(failed.length:Int):=h2
  subst hc hf
  have hN:(aL x nw).State=1->¬(instT q).State=1:=hN
  have hE:dn (aL x nw).State (((bS (aL x nw) nw).map (kH (dJ (aL x nw) nw).ae)).drop i.toNat) (instT q)=jG x nw:=hE
  have ml:((bS (aL x nw) nw).map (kH (dJ (aL x nw) nw).ae)).length=(bS (aL x nw) nw).length:=uW _
  have w1:=wi (n:=i+1)
  have nx2:∀(z:aj)(j:Int),j=i+1->i<(bS (aL x nw) nw).length->u9 z->((aL x nw).State=1->¬z.State=1)->dn (aL x nw).State (((bS (aL x nw) nw).map (kH (dJ (aL x nw) nw).ae)).drop (i+1).toNat) z=jG x nw->bI x nw (j,gV x nw,bS (aL x nw) nw,sD z,())/\bD x nw (j,gV x nw,bS (aL x nw) nw,sD z,())<bD x nw (i,gV x nw,bS (aL x nw) nw,q,()):=by
   rintro z j rfl hi hz sz hz3
   exact⟨⟨rfl,rfl,by omega,by omega,hz,sz,hz3⟩,by show(bS (aL x nw) nw).length-(i+1).toNat<(bS (aL x nw) nw).length-i.toNat;omega⟩
  refine bc (fun g=>⟨h1,?_⟩) (fun g=> ?_)
  ·have g:i<((bS (aL x nw) nw).length:Int):=g
   have hn:i.toNat<(bS (aL x nw) nw).length:=by omega
   refine⟨hn,hn,i_ (fun hs=> ?_) (fun hs=> ?_)⟩
   ·have hs:¬(instT q).State=(aL x nw).State:=hs
    rw[vH hs] at hE
    exact⟨by trivial,rfl,jy hE⟩
   ·have hs:(instT q).State=(aL x nw).State:=hs
    rw[pA h1 (by omega),if_pos hs] at hE
    refine ct (fun s1=>absurd (hs.trans s1) (hN s1)) (fun s1=> ?_)
    have s1:¬(aL x nw).State=1:=s1
    rw[if_neg s1] at hE
    have h3:=Z_ (by intro e;rw[e] at hn;simp at hn)
    have Ue:(instT q).State=3\/(instT q).State=5:=by omega
    exact⟨hY.good,Ue,.inr (nx2 _ _ w1 g ⟨d',od hY.tocoreX Ue⟩ (fun e=>absurd e s1) hE)⟩
  ·have g:¬i<((bS (aL x nw) nw).length:Int):=g
   rw[List.drop_eq_nil_of_le (by omega)] at hE
   exact⟨by trivial,rfl,jy (a:=instT q) hE⟩
theorem wj(x:aj)(now:Int)(hp:∀p∈DH.pre (x,now),p)(hb:∀d∈DH.ds (x,now),gz d):tu EE S8 f23 DH Tj (x,now) 11 (je (x,now)):=by
 have dG:=ka (x:=x) (hb _ m0)
 have dN:=dG.1
 have fG:=dG.2.1
 have fF:=dG.2.2.1
 have eI:=dG.2.2.2.1
 have fE:=dG.2.2.2.2
 have rj:=zD (n:=now) (hb _ m1)
 have bJ:u9 x:=hp _ m0
 have eh:0<=now/\now<=1000000000:=hp _ m1
 clear hp hb
 apply vE (bif x.State==1 then L4 (cm x.ao)/\v8 x now (0,g_ now x.ao,(x.S.aa,x.S.Next,x.aw,x.ae,CE now x.ao,x.ai,x.State,now,()),())/\∀(y:Int×List aF×T8×PUnit),let x2:={aa:=y.2.2.1.1,Next:=y.2.2.1.2.1:aG};let x3:=(y.2.1.getD y.1.toNat cq).F;let x4:=wrap i64 (y.1+1);let x1:={S:=x2,aw:=y.2.2.1.2.2.1,ae:=y.2.2.1.2.2.2.1,ao:=y.2.2.1.2.2.2.2.1,ai:=y.2.2.1.2.2.2.2.2.1,State:=y.2.2.1.2.2.2.2.2.2.1,bB:=y.2.2.1.2.2.2.2.2.2.2.1:aj};let x0:=cF x1 x3;let q0:=bG {aa:={τ:=Cd.aK,xs:=y.2.2.1.1:cC UU}.xs,Next:=y.2.2.1.2.1:aG} {Kind:=x3.Kind,af:={τ:=Cd.bf,xs:=(List.getD {τ:=Cd.ax,xs:=y.2.1:cC UU}.xs y.1.toNat (UU.ee {τ:=Cd.ax,xs:=y.2.1:cC UU}.τ)).F.af:cC UU}.xs:aO};let q1:=(y.2.2.1.1,y.2.2.1.2.1,y.2.2.1.2.2.1,y.2.2.1.2.2.2.1,y.2.2.1.2.2.2.2.1,y.2.2.1.2.2.2.2.2.1,y.2.2.1.2.2.2.2.2.2.1,y.2.2.1.2.2.2.2.2.2.2.1,());let q2:=(x4,y.2.1,(q0.1.aa,q0.1.Next,y.2.2.1.2.2.1,y.2.2.1.2.2.2.1,y.2.2.1.2.2.2.2.1,y.2.2.1.2.2.2.2.2.1,y.2.2.1.2.2.2.2.2.2.1,y.2.2.1.2.2.2.2.2.2.2.1,()),());let q3:=(x4,y.2.1,(x0.S.aa,x0.S.Next,x0.aw,x0.ae,x0.ao,x0.ai,x0.State,x0.bB,()),());v8 x now y->bif decide (y.1<(↑((g_ now x.ao).length):Int)) then 0<=y.1/\y.1.toNat<y.2.1.length/\y.1.toNat<y.2.1.length/\bif y.2.2.1.2.2.2.2.2.2.1==1 then y.1.toNat<y.2.1.length/\bT x1/\bm x2=true/\L4 x3.af.length/\v8 x now q3/\rO x now q3<rO x now y\/y.1.toNat<y.2.1.length/\bm x2=true/\¬q0.2=0/\L4 x3.af.length/\v8 x now q2/\rO x now q2<rO x now y else v8 x now (x4,y.2.1,q1,())/\rO x now (x4,y.2.1,q1,())<rO x now y else eV x now (now,q1,()) else eV x now (now,(x.S.aa,x.S.Next,x.aw,x.ae,x.ao,x.ai,x.State,now,()),()))
 dsimp only
 obtain⟨d,hX⟩:=bJ
 have hts:=(tL hX.timers).2
 have fin:∀z:aj,z=aL x now->eV x now (now,sD z,()):=fun z hz=>⟨rfl,hz⟩
 refine ct (fun hs=>⟨by omega,⟨rfl,by omega,by omega,?_,?_⟩,?_⟩) (fun hs=> ?_)
 ·exact ni (jr (d:=d) (x:=YJ x now) ⟨hX.nJ,hX.store,hX.fN,pQ _ hX.timers,hX.kA,eh,hX.HF,hX.bP⟩ hs)
 ·exact(if_pos hs).symm
 ·have h30:(g_ now x.ao).length<=30:=vg (KK _ _) (tL hX.timers).1
  have IF:∀t∈g_ now x.ao,bw t.F=true:=fun t ht=>by
   have:=(mz.1 hX.timers).2.1 t (wc.1 ht).1
   simp only[gF,cH] at this
   exact this.2
  rintro⟨i,l,p,⟨⟩⟩ ⟨rfl,h1,h2,hY,hE⟩
  obtain⟨d',hY⟩:u9 (instT p):=hY
  have h1:0<=i:=h1
  have h2:i<=(g_ now x.ao).length:=h2
  have hE:iB ((g_ now x.ao).drop i.toNat) (instT p)=aL x now:=hE
  have nx:∀(z:aj)(j:Int),j=i+1->i<(g_ now x.ao).length->u9 z->iB ((g_ now x.ao).drop (i+1).toNat) z=aL x now->v8 x now (j,g_ now x.ao,sD z,())/\rO x now (j,g_ now x.ao,sD z,())<rO x now (i,g_ now x.ao,p,()):=by
   rintro z j rfl hi hz sz
   exact⟨⟨rfl,by omega,by omega,hz,sz⟩,by show(g_ now x.ao).length-(i+1).toNat<(g_ now x.ao).length-i.toNat;omega⟩
  refine bc (fun hc=>⟨h1,?_⟩) (fun hc=> ?_)
  ·have hc:i<((g_ now x.ao).length:Int):=hc
   have hn:i.toNat<(g_ now x.ao).length:=by omega
   refine⟨hn,hn,ct (fun g=> .inl ?_) (fun g=> ?_)⟩
   ·have g:(instT p).State=1:=g
    have hf:=IF _ (fL (z:=cq) hn)
    rw[zr h1 hc,if_pos g] at hE
    exact⟨hn,hY.good,hY.store,vg (oB hf).1 (by omega),nx _ _ (wi (n:=i+1)) hc ⟨d',fQ hY.tocoreX g hf⟩ hE⟩
   ·have g:¬(instT p).State=1:=g
    rw[vy g] at hE
    exact nx (instT p) _ (wi (n:=i+1)) hc ⟨d',hY⟩ (by rw[vy g];exact hE)
  ·have hc:¬i<((g_ now x.ao).length:Int):=hc
   rw[List.drop_eq_nil_of_le (by omega)] at hE
   exact fin (instT p) hE
 ·exact fin (KQ x now) (if_neg hs).symm
attribute [local irreducible] tu ov in
theorem akK:Holds EE (23,DH):=by
 refine yC pM func23 DH (by kernel_rfl) S8 (wl _) Tj 11 je (by kernel_rfl) (fun x hp hb=> ?_)
 obtain⟨x,now⟩:=x
 refine⟨wj x now hp hb,fun(y:Int×T0×Unit) hy=> ?_⟩
 have hy:eV x now y:=hy
 exact wk x now y hp hb hy
def amd:HH:=⟨_,akK⟩
def vl(d:aZ)(x:aj)(now:Int):Bool:=instOk d x&&(!decide (x.State=2\/x.State=4\/x.State=6)&&decide (x.bB<=now/\now<=1000000000))
def e9(d:aZ)(x:aj)(now:Int):aj×List ib:=if vl d x now=true then(jG x now,gV x now) else(x,[])
theorem Rb{d:aZ}{x:aj}{now:Int}(h:vl d x now=false):e9 d x now=(x,[]):=if_neg (fun e=>absurd (h.symm.trans e) (by decide))
theorem Ck{d:aZ}{x:aj}{now:Int}(h1:instOk d x=true)(h2:¬(x.State=2\/x.State=4\/x.State=6))(h3:x.bB<=now/\now<=1000000000):e9 d x now=(jG x now,gV x now):=if_pos (by rw[vl,h1,decide_eq_false h2,decide_eq_true h3];rfl)
def alx:=cf (α:=aZ×aj×Int) (qC (qA .gJ) (qC (qA .bY) (q1 qI))) [.ro,.ro,.ro] (fun(d,x,now)=>[cX d<=4294967295,eH x<=4294967295]) (fun(d,x,now)=>⟨[dA .bY ((e9 d x now).1),dL .dw ((e9 d x now).2)],[],[]⟩)
def amk:HH:=hF alx func10 [YY,Zh8,y_,Tf,amd] a0 fun x hp hb=>by
 obtain⟨d,x,now⟩:=x
 have dG:=kS (x:=d) (hb _ m0)
 have j7:=dG.1
 have jb:=dG.2
 have gM:=oK (x:=x) (hb _ m1)
 have dN:=gM.1
 have fG:=gM.2.1
 have fF:=gM.2.2.1
 have eI:=gM.2.2.2.1
 have fE:=gM.2.2.2.2
 have rj:=zD (n:=now) (hb _ m2)
 have bJ:cX d<=4294967295:=hp _ m0
 have eh:eH x<=4294967295:=hp _ m1
 clear hp hb
 apply vE (let q0:=Lf [DV.agg (ay x),VL .dw []] [DV.agg [CL .aK (e9 d x now).1.S.aa,CI ((e9 d x now).1.S.Next),CL .av (e9 d x now).1.aw,CL .aq (e9 d x now).1.ae,CL .ax (e9 d x now).1.ao,CL .aI (e9 d x now).1.ai,CI ((e9 d x now).1.State),CI ((e9 d x now).1.bB)],VL .dw ((e9 d x now).2)];let q1:=e9 d x now;L4 (eH x)/\bif decide (x.State=2\/x.State=4\/x.State=6) then q0 else bif !decide (x.bB<=now/\now<=1000000000) then q0 else cX d<=4294967295/\L4 (dc x.S.aa)/\bif !instOk d x then q0 else u9 x/\(0<=now/\now<=1000000000)/\Lf [DV.agg (ay (jG x now)),VL .dw (gV x now)] [DV.agg [CL .aK q1.1.S.aa,CI (q1.1.S.Next),CL .av q1.1.aw,CL .aq q1.1.ae,CL .ax q1.1.ao,CL .aI q1.1.ai,CI (q1.1.State),CI (q1.1.bB)],VL .dw (q1.2)])
 dsimp only
 have hi:=rK x
 have no:vl d x now=false->Lf [.agg [.sl .aK x.S.aa,.lit (.int .i64 x.S.Next),.sl .av x.aw,.sl .aq x.ae,.sl .ax x.ao,.sl .aI x.ai,.lit (.int .i64 x.State),.lit (.int .i64 x.bB)],.one (.sl .dw [])] [.agg [.sl .aK (e9 d x now).1.S.aa,.lit (.int .i64 (e9 d x now).1.S.Next),.sl .av (e9 d x now).1.aw,.sl .aq (e9 d x now).1.ae,.sl .ax (e9 d x now).1.ao,.sl .aI (e9 d x now).1.ai,.lit (.int .i64 (e9 d x now).1.State),.lit (.int .i64 (e9 d x now).1.bB)],.one (.sl .dw (e9 d x now).2)]:=fun h=>by
  rw[Rb h];exact aV _
 refine⟨by omega,bc (fun h=>no ?_) (fun h=>bu (fun h2=>no ?_) (fun h2=>⟨bJ,by omega,bu (fun h3=>no ?_) (fun h3=> ?_)⟩))⟩
 ·rw[vl,decide_eq_true h];simp
 ·rw[vl,show decide (x.bB<=now/\now<=1000000000)=false from h2];simp
 ·rw[vl,show instOk d x=false from h3];rfl
 ·have h2:=yT h2
  have hX:=lj.1 h3
  have hN:=hX.now.1
  rw[Ck h3 h h2]
  exact⟨ni hX,⟨by omega,h2.2⟩,aV _⟩
def vK(l:List UInt8):Nat:=l.foldl (fun a d=>10*a+(d.toNat-48)) 0
theorem IX(l:List UInt8)(d:UInt8):vK (l++[d])=10*vK l+(d.toNat-48):=by simp[vK,List.foldl_append]
theorem ug{n:Nat}(h:n<10):(UInt8.ofNat (48+n)).toNat=48+n:=by
 rw[UInt8.toNat_ofNat'];omega
theorem rG:∀u:Nat,vK (Go.Lib.decDigits u)=u:=by
 intro u
 induction u using Nat.strongRecOn with
 |ind u ih=>
  rw[Go.Lib.decDigits]
  split
  ·rename_i h
   simp only[vK,List.foldl_cons,List.foldl_nil]
   rw[ug h];omega
  ·rename_i h
   rw[IX,ih (u/10) (by omega),ug (by omega)];omega
theorem Gx:∀u:Nat,∀d∈Go.Lib.decDigits u,48<=d.toNat/\d.toNat<=57:=by
 intro u
 induction u using Nat.strongRecOn with
 |ind u ih=>
  rw[Go.Lib.decDigits]
  split
  ·rename_i h
   intro d hd
   rw[mb.1 hd,ug h];omega
  ·rename_i h
   intro d hd
   rcases jE.1 hd with hd|hd
   ·exact ih (u/10) (by omega) d hd
   ·rw[mb.1 hd,ug (by omega)];omega
theorem YK(u:Nat):Go.Lib.decDigits u≠[]:=by
 rw[Go.Lib.decDigits];split<;>simp
theorem Iv{n:Int}{d:UInt8}(h:d∈Go.Lib.itoa n):d.toNat=45\/(48<=d.toNat/\d.toNat<=57):=by
 unfold Go.Lib.itoa at h
 split at h
 ·rcases jF.1 h with rfl|h
  ·exact .inl rfl
  ·exact .inr (Gx _ d h)
 ·exact .inr (Gx _ d h)
theorem OW{m n:Int}(h:Go.Lib.itoa m=Go.Lib.itoa n):m=n:=by
 have key:∀(a b:Nat),45::Go.Lib.decDigits a≠Go.Lib.decDigits b:=by
  intro a b e
  have:=Gx b 45 (e▸gS)
  exact absurd this.1 (by decide)
 unfold Go.Lib.itoa at h
 split at h<;>split at h
 ·have:=congrArg vK (List.cons.inj h).2
  rw[rG,rG] at this;omega
 ·exact absurd h (key _ _)
 ·exact absurd h.symm (key _ _)
 ·have:=congrArg vK h
  rw[rG,rG] at this;omega
theorem HL{s:BA}(h:nM s=true){d:UInt8}(hd:d∈bs s):d.toNat≠39/\d.toNat≠40/\d.toNat≠44:=by
 have:=sh.1 h d hd
 simp only[jq,jL,jO,DW,decide_eq_true_eq] at this
 omega
theorem NE{v:aU}(h:bp v=true):∀d∈ii v,d.toNat≠44:=by
 intro d hd
 unfold ii at hd
 split at hd
 ·rcases Iv hd with h|h<;>omega
 ·rename_i h1
  have hw:nM v.S=true:=by
   simp only[bp] at h
   by_cases h2:v.K=2
   ·simp[h2] at h;exact h.2
   ·simp[h1,h2] at h
  rcases jF.1 hd with rfl|hd
  ·decide
  ·rcases jE.1 hd with hd|hd
   ·exact(HL hw hd).2.2
   ·rw[mb.1 hd];decide
theorem KS(v:aU):ii v≠[]:=by
 unfold ii;split
 ·unfold Go.Lib.itoa;split
  ·simp
  ·exact YK _
 ·simp
theorem NF{v w:aU}(hv:bp v=true)(hw:bp w=true)(h:ii v=ii w):v=w:=by
 have gB:∀{u:aU},bp u=true->(u.K=1/\u.S=ah)\/(u.K=2/\u.N=0):=by
  intro u hu
  simp only[bp] at hu
  by_cases h1:u.K=1
  ·simp[h1] at hu;exact .inl ⟨h1,hu.2⟩
  ·by_cases h2:u.K=2
   ·simp[h2] at hu;exact .inr ⟨h2,hu.1.1⟩
   ·simp[h1,h2] at hu
 have IB:∀(n:Int)(r:List UInt8),Go.Lib.itoa n≠39::r:=by
  intro n r e
  rcases Iv (n:=n) (d:=39) (by rw[e];exact gS) with h|h
  ·exact absurd h (by decide)
  ·exact absurd h.1 (by decide)
 obtain⟨k,n,s⟩:=v
 obtain⟨k',n',s'⟩:=w
 rcases gB hv with⟨h1,h2⟩|⟨h1,h2⟩<;>rcases gB hw with⟨h3,h4⟩|⟨h3,h4⟩<;>simp only at h1 h2 h3 h4<;>subst h1 h2 h3 h4
 ·simp only[ii,if_true] at h
  rw[OW h]
 ·simp only[ii,if_true] at h
  rw[if_neg (by decide)] at h
  exact absurd h (IB _ _)
 ·simp only[ii,if_true] at h
  rw[if_neg (by decide)] at h
  exact absurd h.symm (IB _ _)
 ·simp only[ii] at h
  rw[if_neg (by decide),if_neg (by decide)] at h
  have:=List.append_cancel_right (List.cons.inj h).2
  have e:s=s':=by rw[<-vw s,<-vw s',this]
  rw[e]
theorem Cs{x:UInt8}:∀{a b r t:List UInt8},(∀d∈a,d≠x)->(∀d∈b,d≠x)->(r=[]\/∃r',r=x::r')->(t=[]\/∃t',t=x::t')->a++r=b++t->a=b/\r=t
 |[],[],r,t,_,_,_,_,h=>⟨rfl,h⟩
 |[],d::b,r,t,_,hb,hr,_,h=>by
  rcases hr with rfl|⟨r',rfl⟩
  ·simp at h
  ·simp only[List.nil_append,VR,ZI] at h
   exact absurd h.1.symm (hb d gS)
 |d::a,[],r,t,ha,_,_,ht,h=>by
  rcases ht with rfl|⟨t',rfl⟩
  ·simp at h
  ·simp only[List.nil_append,VR,ZI] at h
   exact absurd h.1 (ha d gS)
 |d::a,e::b,r,t,ha,hb,hr,ht,h=>by
  simp only[VR,ZI] at h
  obtain⟨h1,h2⟩:=Cs (fun z hz=>ha z (e8 _ hz)) (fun z hz=>hb z (e8 _ hz)) hr ht h.2
  exact⟨by rw[h.1,h1],h2⟩
theorem Ep(r:List (List UInt8)):Go.Lib.joinTail [44] r=[]\/∃t,Go.Lib.joinTail [44] r=44::t:=by
 cases r with
 |nil=>exact .inl rfl
 |cons x r=>exact .inr ⟨x++Go.Lib.joinTail [44] r,by simp[Go.Lib.joinTail]⟩
theorem HP:∀{l m:List aU},l.all bp=true->m.all bp=true->Go.Lib.joinTail [44] (l.map ii)=Go.Lib.joinTail [44] (m.map ii)->l=m
 |[],[],_,_,_=>rfl
 |[],y::m,_,_,h=>by simp[Go.Lib.joinTail] at h
 |x::l,[],_,_,h=>by simp[Go.Lib.joinTail] at h
 |x::l,y::m,hl,hm,h=>by
  simp only[Nw,cH] at hl hm
  have e:∀(x:aU)(l:List aU),Go.Lib.joinTail [44] ((x::l).map ii)=44::(ii x++Go.Lib.joinTail [44] (l.map ii)):=fun x l=>by simp[Go.Lib.joinTail]
  rw[e,e] at h
  have d_:∀{v:aU},bp v=true->∀d∈ii v,d≠44:=fun hv d hd he=>NE hv d hd (by rw[he];rfl)
  obtain⟨h1,h2⟩:=Cs (x:=44) (d_ hl.1) (d_ hm.1) (Ep _) (Ep _) (List.cons.inj h).2
  rw[NF hl.1 hm.1 h1,HP hl.2 hm.2 h2]
theorem OU{l m:List aU}(hl:l.all bp=true)(hm:m.all bp=true)(h:Go.Lib.join (l.map ii) [44]=Go.Lib.join (m.map ii) [44]):l=m:=by
 cases l with
 |nil=>
  cases m with
  |nil=>rfl
  |cons y m=>
   rw[List.map_nil,sS,Go.Lib.join_nil,Go.Lib.join_cons] at h
   exact absurd (List.append_eq_nil_iff.1 h.symm).1 (KS y)
 |cons x l=>
  cases m with
  |nil=>
   rw[List.map_nil,sS,Go.Lib.join_nil,Go.Lib.join_cons] at h
   exact absurd (List.append_eq_nil_iff.1 h).1 (KS x)
  |cons y m=>
   refine HP hl hm ?_
   rw[sS,sS,Go.Lib.join_cons,Go.Lib.join_cons] at h
   have e:∀(x:List UInt8)(l:List (List UInt8)),Go.Lib.joinTail [44] (x::l)=44::(x++Go.Lib.joinTail [44] l):=fun x l=>by simp[Go.Lib.joinTail]
   rw[sS,sS,e,e,h]
theorem Gu{f g:aO}(hf:bw f=true)(hg:bw g=true)(h:aT f=aT g):f=g:=by
 rw[aT,aT,if_pos hf,if_pos hg] at h
 have h:bs f.Kind++sV f.af=bs g.Kind++sV g.af:=by have:=congrArg bs h;rwa[KA,KA] at this
 have hw:∀{f:aO},bw f=true->∀d∈bs f.Kind,d≠40:=by
  intro f hf d hd he
  have h3:=(ju hf).2.2.1
  simp only[bq,cH] at h3
  exact(HL h3.2 hd).2.1 (by rw[he];rfl)
 obtain⟨h1,h2⟩:=Cs (x:=40) (hw hf) (hw hg) (.inr ⟨_,rfl⟩) (.inr ⟨_,rfl⟩) h
 have h3:=List.append_cancel_right (List.cons.inj h2).2
 have h4:=OU (ju hf).2.1 (ju hg).2.1 h3
 obtain⟨k,fs⟩:=f
 obtain⟨k',fs'⟩:=g
 simp only at h1 h4
 have e:k=k':=by rw[<-vw k,<-vw k',h1]
 rw[e,h4]
def shut(l:List ap):Prop:=∀t∈l,kw t=false
theorem Cw{l:List ap}:su l=false↔shut l:=by
 unfold su shut
 constructor
 ·intro h t ht
  obtain⟨i,hi,rfl⟩:=qD ht
  have:=jV.1 h i hi
  rwa[dB,eW hi] at this
 ·intro h
  refine jV.2 fun i hi=>h _ (fL hi)
theorem L1{l:List ap}(h:shut l)(now:Int):l.map (dh now)=l:=Ew (Cw.2 h) now
theorem L2{l:List ap}(h:shut l)(now:Int):l.flatMap (fg now)=[]:=EZ (Cw.2 h) now
theorem L3{l:List ap}(h:shut l)(now:Int):l.flatMap (fS now)=[]:=by
 rw[List.flatMap_eq_nil_iff]
 intro t ht
 have hd:due now t=false:=by simp only[due];rw[h t ht];rfl
 rw[fS,hd];rfl
def jm(y:aj):List ap:=qn y.ae (aN y.ai)
theorem tS{y:aj}(h:shut y.ae):shut (jm y):=by
 unfold jm qn
 split
 ·intro t ht;cases ht
 ·exact fun t ht=>h t (wc.1 ht).1
theorem C1{y:aj}:∀t∈jm y,t.F≠aN y.ai:=by
 unfold jm qn
 split
 ·intro t ht;cases ht
 ·intro t ht
  have:=(wc.1 ht).2
  simpa using this
theorem OE{y:aj}:(jm y).length<30:=by
 unfold jm qn
 split
 ·simp
 ·omega
theorem HT{y:aj}:qJ y=jm y++[iZ (aN y.ai) ah y.bB]:=by
 have h1:pw (jm y) (aN y.ai)=false:=jV.2 fun k hk=>decide_eq_false (C1 _ (fL hk))
 show(fA (jm y) (aN y.ai) ah y.bB).1=_
 rw[fA,if_neg (by rw[h1];decide),if_neg (by have:=OE (y:=y);omega)]
structure Ii(d:aZ)(y:aj):Prop extends coreX d y where
 off:y.State=5
 K0:shut y.ae
 some:y.ai≠[]
def wC(y:aj):ap:=dh y.bB (iZ (aN y.ai) ah y.bB)
theorem Ll(f:aO)(now:Int):due now (iZ f ah now)=true:=by
 simp only[due,iZ,kw]
 simp
theorem FD(y:aj):wC y=⟨aN y.ai,ah,2,0+1,y.bB+gp 2 (0+1) 60,du⟩:=by
 unfold wC dh
 rw[if_pos (Ll _ _)]
 rfl
theorem EF{d:aZ}{y:aj}(h:Ii d y):cn y=⟨y.S,y.aw,jm y++[iZ (aN y.ai) ah y.bB],y.ao,y.ai,y.State,y.bB⟩:=by
 rw[cn,if_neg h.some,HT]
def kM(y:aj):aj:=⟨y.S,y.aw,jm y++[wC y],y.ao,y.ai,y.State,y.bB⟩
theorem Ih{d:aZ}{y:aj}(h:Ii d y):e9 d (cn y) (cn y).bB=(kM y,[⟨aT (aN y.ai),aN y.ai,1⟩]):=by
 have hR:=nj h.tocoreX (.inr h.off)
 have hB:=EF h
 have hs:(cn y).State=5:=by rw[hB];exact h.off
 have hn:(cn y).bB=y.bB:=by rw[hB]
 rw[Ck (lj.2 hR) (by rw[hs];omega) ⟨Int.le_refl _,hR.now.2⟩,hn]
 have eT:aL (cn y) y.bB=cn y:=by
  rw[aL,if_neg (by rw[hs];decide),hB];rfl
 have eS:dJ (cn y) y.bB=kM y:=by
  rw[hB]
  unfold dJ pf kM
  show aj.mk _ _ ((jm y++[iZ (aN y.ai) ah y.bB]).map (dh y.bB)) _ _ _ _=_
  rw[HC,L1 (tS h.K0)];rfl
 have eK:bS (cn y) y.bB=[]:=by
  rw[hB]
  show(jm y++[iZ (aN y.ai) ah y.bB]).flatMap (fg y.bB)=[]
  rw[Nj,L2 (tS h.K0)]
  show[]++(fg y.bB (iZ (aN y.ai) ah y.bB)++[])=[]
  rw[fg,if_neg (fun c=>absurd (show(0:Int)=4 from c.2) (by decide))];rfl
 have eL:gV (cn y) y.bB=[⟨aT (aN y.ai),aN y.ai,1⟩]:=by
  unfold gV
  rw[eT,hB]
  show(jm y++[iZ (aN y.ai) ah y.bB]).flatMap (fS y.bB)=_
  rw[Nj,L3 (tS h.K0)]
  show[]++(fS y.bB (iZ (aN y.ai) ah y.bB)++[])=_
  rw[fS,if_pos ⟨Ll _ _,show(0:Int)≠4 by decide⟩];rfl
 rw[eL,jG,eT,eK,eS]
 rfl
def PS(y:aj)(v:aU):ap:=mT true v (wC y)
def Im(y:aj)(v:aU):aj:=⟨y.S,y.aw,jm y++[PS y v],y.ao,y.ai.take (y.ai.length-1),y.State,y.bB⟩
theorem yM{α:Type}{l:List α}{a z:α}:(l++[a]).getD l.length z=a:=by
 rw[dB,ya (sB _),To];rfl
theorem Ko{α:Type}{l:List α}{a z:α}{i:Nat}(h:i<l.length):(l++[a]).getD i z=l.getD i z:=by
 rw[dB,dB,wg h]
theorem ra{d:aZ}{y:aj}(h:Ii d y):cz d (kM y):=by
 have hR:=nj h.tocoreX (.inr h.off)
 have h1:=CB hR hR.now.1 hR.now.2
 have h2:=Ih h
 have hs:(cn y).State=5:=by rw[EF h];exact h.off
 rw[Ck (lj.2 hR) (by rw[hs];omega) ⟨Int.le_refl _,hR.now.2⟩] at h2
 have h3:jG (cn y) (cn y).bB=kM y:=congrArg Prod.fst h2
 rw[h3] at h1;exact h1
theorem Lk{d:aZ}{y:aj}(h:Ii d y):aD (kM y).ae (aT (aN y.ai))=((jm y).length:Int):=by
 have hX:=ra h
 have hf:=nd h.kA h.some
 show aD (jm y++[wC y]) _=_
 unfold aD
 refine fD (by simp) ?_ fun j hj=> ?_
 ·rw[yM,FD];exact decide_eq_true rfl
 ·rw[Ko hj]
  refine decide_eq_false fun e=> ?_
  have hm:=fL (z:=aB) hj
  have ho:=(e_.1 ((li.1 hX.fN).2.1 _ (pP _ hm))).1
  exact C1 _ hm (Gu ho hf e)
theorem Iq{α:Type}{l:List α}{a:α}(f:α->α):(l++[a]).modify l.length f=l++[f a]:=by
 induction l with
 |nil=>rfl
 |cons b l ih=>show b::(l++[a]).modify l.length f=_;rw[ih];rfl
theorem Ms{d:aZ}{y:aj}(h:Ii d y){v:aU}(hv:bp v=true):qW d (kM y) (aT (aN y.ai)) true v=(cn (Im y v),1):=by
 have hX:=ra h
 have hk:=Lk h
 have hg:(kM y).ae.getD (jm y).length aB=wC y:=yM
 have hr:aH (kM y).ae (aT (aN y.ai)) true v=(jm y++[PS y v],1):=by
  rw[aH,hk,Tp,hg,FD,if_pos ⟨hX.fN,hv,by omega,show(2:Int)≠1 by decide⟩,if_pos rfl]
  show(((jm y++[wC y]).modify (jm y).length (mT true v)),(1:Int))=_
  rw[Iq];rfl
 rw[qW,if_pos ⟨lj.2 hX,hv⟩,eZ,hr,if_pos rfl]
 show(y4 _ _ _ _,(1:Int))=_
 rw[y4,if_pos (by show y.State≠1;rw[h.off];decide)]
 rfl
theorem EH{d:aZ}{y:aj}(h:Ii d y){v:aU}(hv:bp v=true):coreX d (Im y v)/\shut (Im y v).ae:=by
 have hX:=ra h
 have hT:=pS (l:=(kM y).ae) (key:=aT (aN y.ai)) (ok:=true) (v:=v) hX.fN
 have hk:=Lk h
 have hg:(kM y).ae.getD (jm y).length aB=wC y:=yM
 have hr:aH (kM y).ae (aT (aN y.ai)) true v=(jm y++[PS y v],1):=by
  rw[aH,hk,Tp,hg,FD,if_pos ⟨hX.fN,hv,by omega,show(2:Int)≠1 by decide⟩,if_pos rfl]
  show(((jm y++[wC y]).modify (jm y).length (mT true v)),(1:Int))=_
  rw[Iq];rfl
 rw[hr] at hT
 refine⟨⟨h.nJ,h.store,hT,h.timers,qH _ h.kA,h.now,h.HF,h.bP⟩,fun t ht=> ?_⟩
 rcases jE.1 ht with ht|ht
 ·exact tS h.K0 t ht
 ·rw[mb.1 ht];rfl
theorem E1{y:aj}(h:y.State=5)(hu:y.ai=[]):(cn y).State=6:=by
 rw[cn,if_pos hu,if_pos h];rfl
theorem Ja{y:aj}(h:y.State=5)(hu:y.ai≠[]):(cn y).State=5:=by
 rw[cn,if_neg hu];exact h
theorem I_(x:aj):(cn x).ai=x.ai:=by unfold cn;split<;>rfl
structure Ij(d:aZ)(x y:aj)(l:List BA)(i:Int):Prop where
 ex:∃y',coreX d y'/\y'.State=5/\shut y'.ae/\y'.ai=x.ai.take (x.ai.length-i.toNat)/\y=cn y'
 seen:l=(x.ai.drop (x.ai.length-i.toNat)).reverse.map br.Key
 lo:0<=i
 hi:i<=(x.ai.length:Int)
theorem Mq{d:aZ}{x:aj}(h:coreX d x):Ij d x (eD x 5) [] 0 where
 ex:=⟨rF x 5,IZ h 5,rfl,Cw.1 (zq _),by
  show x.ai=x.ai.take (x.ai.length-0)
  rw[Nat.sub_zero,List.take_length],rfl⟩
 seen:=by
  show[]=(x.ai.drop (x.ai.length-0)).reverse.map br.Key
  rw[Nat.sub_zero,List.drop_length];rfl
 lo:=by omega
 hi:=by omega
theorem Mr{d:aZ}{x y:aj}{l:List BA}{i:Int}(h:Ij d x y l i):cz d y:=by
 obtain⟨y',h1,h2,_,_,rfl⟩:=h.ex
 exact nj h1 (.inr h2)
theorem Ov{d:aZ}{x y:aj}{l:List BA}{i:Int}(h:Ij d x y l i)(he:y.State=2\/y.State=4\/y.State=6):y.State=6/\x.ai.reverse.map br.Key=l:=by
 obtain⟨y',h1,h2,h3,h4,rfl⟩:=h.ex
 have hu:y'.ai=[]:=Classical.byContradiction fun hu=>by
  rw[Ja h2 hu] at he;omega
 refine⟨E1 h2 hu,?_⟩
 rw[h.seen]
 have h5:=congrArg List.length (h4.symm.trans hu)
 rw[nE] at h5
 have h6:x.ai.length-i.toNat=0:=by simp at h5;omega
 rw[h6,List.drop_zero]
theorem Ow{d:aZ}{x y:aj}{l:List BA}{i:Int}(h:Ij d x y l i)(he:¬(y.State=2\/y.State=4\/y.State=6)):
  ∃y',Ii d y'/\y=cn y'/\y.ai=y'.ai/\y.ai≠[]/\i<(x.ai.length:Int)/\
   ∀v,bp v=true->Ij d x (cn (Im y' v)) (l++[(y.ai.getD (y.ai.length-1) bM).Key]) (i+1):=by
 obtain⟨y',h1,h2,h3,h4,rfl⟩:=h.ex
 have hu:y'.ai≠[]:=fun hu=>he (.inr (.inr (E1 h2 hu)))
 have hX:Ii d y':=⟨h1,h2,h3,hu⟩
 have hb:=I_ y'
 have hl:=h.lo
 have hh:=h.hi
 have hlen:y'.ai.length=x.ai.length-i.toNat:=by rw[h4,nE];omega
 have Ix:0<y'.ai.length:=List.length_pos_iff.2 hu
 refine⟨y',hX,rfl,hb,by rw[hb];exact hu,by omega,fun v hv=>⟨⟨Im y' v,(EH hX hv).1,h2,(EH hX hv).2,?_,rfl⟩,?_,by omega,by omega⟩⟩
 ·show y'.ai.take (y'.ai.length-1)=_
  rw[hlen,h4,List.take_take]
  congr 1
  omega
 ·rw[h.seen,hb]
  have e1:x.ai.length-i.toNat=(x.ai.length-(i+1).toNat)+1:=by omega
  have hk:x.ai.length-(i+1).toNat<x.ai.length:=by omega
  have e2:x.ai.drop (x.ai.length-(i+1).toNat)=x.ai.getD (x.ai.length-(i+1).toNat) bM::x.ai.drop (x.ai.length-i.toNat):=by
   rw[e1,Nu hk,dB,eW hk];rfl
  have e3:y'.ai.getD (y'.ai.length-1) bM=x.ai.getD (x.ai.length-(i+1).toNat) bM:=by
   have e4:y'.ai.length-1=x.ai.length-(i+1).toNat:=by omega
   rw[e4,h4,dB,dB,oT,if_pos (by omega)]
  rw[e2,e3,List.reverse_cons,HC];rfl
theorem S1(a b:cP):(a.K==b.K&&(a.S.toList==b.S.toList&&((a.V.K==b.V.K&&(a.V.N==b.V.N&&(a.V.S.toList==b.V.S.toList&&true)))&&true)))=decide (a=b):=by
 obtain⟨a1,a2,⟨a3,a4,a5⟩⟩:=a
 obtain⟨b6,b7,⟨b8,b9,b10⟩⟩:=b
 simp only[aQ,Aa]
 rw[DX]
 simp only[cH,beq_iff_eq,decide_eq_true_eq,cP.mk.injEq,aU.mk.injEq]
theorem I1(a b:dt):(a.Op==b.Op&&((a.L.K==b.L.K&&(a.L.S.toList==b.L.S.toList&&((a.L.V.K==b.L.V.K&&(a.L.V.N==b.L.V.N&&(a.L.V.S.toList==b.L.V.S.toList&&true)))&&true)))&&((a.R.K==b.R.K&&(a.R.S.toList==b.R.S.toList&&((a.R.V.K==b.R.V.K&&(a.R.V.N==b.R.V.N&&(a.R.V.S.toList==b.R.V.S.toList&&true)))&&true)))&&true)))=decide (a=b):=by
 obtain⟨a11,⟨a12,a13,⟨a14,a15,a16⟩⟩,⟨a17,a18,⟨a19,a20,a21⟩⟩⟩:=a
 obtain⟨b22,⟨b23,b24,⟨b25,b26,b27⟩⟩,⟨b28,b29,⟨b30,b31,b32⟩⟩⟩:=b
 simp only[aQ,Aa]
 rw[DX]
 simp only[cH,beq_iff_eq,decide_eq_true_eq,cP.mk.injEq,dt.mk.injEq,aU.mk.injEq]
theorem PJ(a b:cj):(a.Op.toList==b.Op.toList&&((a.L.K==b.L.K&&(a.L.S.toList==b.L.S.toList&&((a.L.V.K==b.L.V.K&&(a.L.V.N==b.L.V.N&&(a.L.V.S.toList==b.L.V.S.toList&&true)))&&true)))&&((a.R.K==b.R.K&&(a.R.S.toList==b.R.S.toList&&((a.R.V.K==b.R.V.K&&(a.R.V.N==b.R.V.N&&(a.R.V.S.toList==b.R.V.S.toList&&true)))&&true)))&&true)))=decide (a=b):=by
 obtain⟨a33,⟨a34,a35,⟨a36,a37,a38⟩⟩,⟨a39,a40,⟨a41,a42,a43⟩⟩⟩:=a
 obtain⟨b44,⟨b45,b46,⟨b47,b48,b49⟩⟩,⟨b50,b51,⟨b52,b53,b54⟩⟩⟩:=b
 simp only[aQ,Aa]
 rw[DX]
 simp only[cH,beq_iff_eq,decide_eq_true_eq,cP.mk.injEq,cj.mk.injEq,aU.mk.injEq]
theorem P6(a b:bQ):(a.Name.toList==b.Name.toList&&((a.V.K==b.V.K&&(a.V.N==b.V.N&&(a.V.S.toList==b.V.S.toList&&true)))&&true))=decide (a=b):=by
 obtain⟨a55,⟨a56,a57,a58⟩⟩:=a
 obtain⟨b59,⟨b60,b61,b62⟩⟩:=b
 simp only[aQ,Aa]
 rw[DX]
 simp only[cH,beq_iff_eq,decide_eq_true_eq,bQ.mk.injEq,aU.mk.injEq]
theorem YF(x y:ck):x=y↔x.Kind=y.Kind/\x.aC=y.aC/\x.Not=y.Not:=by cases x;cases y;simp[ck.mk.injEq]
theorem YG(x y:dQ):x=y↔x.Kind=y.Kind/\x.Name=y.Name/\x.aC=y.aC/\x.N=y.N/\x.aX=y.aX:=by cases x;cases y;simp[dQ.mk.injEq]
theorem PN(x y:au):x=y↔x.cO=y.cO/\x.ep=y.ep/\x.bE=y.bE:=by cases x;cases y;simp[au.mk.injEq]
theorem SO(x y:bW):x=y↔x.Id=y.Id/\x.F=y.F:=by cases x;cases y;simp[bW.mk.injEq]
theorem PL(x y:aF):x=y↔x.At=y.At/\x.F=y.F:=by cases x;cases y;simp[aF.mk.injEq]
theorem SM(x y:br):x=y↔x.Key=y.Key/\x.F=y.F:=by cases x;cases y;simp[br.mk.injEq]
theorem SN(x y:ap):x=y↔x.F=y.F/\x.aX=y.aX/\x.State=y.State/\x.bi=y.bi/\x.iy=y.iy/\x.V=y.V:=by cases x;cases y;simp[ap.mk.injEq]
theorem Ly(x y:a_):x=y↔x.Name=y.Name/\x.nB=y.nB/\x.aM=y.aM/\x.bt=y.bt/\x.cx=y.cx:=by cases x;cases y;simp[a_.mk.injEq]
theorem PO(x y:aZ):x=y↔x.Name=y.Name/\x.az=y.az:=by cases x;cases y;simp[aZ.mk.injEq]
theorem SL(x y:qy):x=y↔x.Name=y.Name/\x.Y3=y.Y3/\x.X=y.X:=by cases x;cases y;simp[qy.mk.injEq]
theorem PM(x y:aG):x=y↔x.aa=y.aa/\x.Next=y.Next:=by cases x;cases y;simp[aG.mk.injEq]
theorem SP(x y:aj):x=y↔x.S=y.S/\x.aw=y.aw/\x.ae=y.ae/\x.ao=y.ao/\x.ai=y.ai/\x.State=y.State/\x.bB=y.bB:=by cases x;cases y;simp[aj.mk.injEq]
theorem SQ(x y:ko):x=y↔x.nD=y.nD/\x.iS=y.iS/\x.bB=y.bB/\x.za=y.za:=by cases x;cases y;simp[ko.mk.injEq]
def acI:=cf (α:=(List ap)×(List ap)) (qC (qL .aq) (q1 (qL .aq))) [.ro,.ro] (fun _=>[]) (fun(a,b)=>⟨[dO (decide (a=b))],[],[]⟩)
def G9(a:List ap)(b:List ap):Int×Unit->Prop:=fun(i,_)=>0<=i/\i<=a.length/\a.length=b.length/\(a.drop i.toNat=b.drop i.toNat↔a=b)
def GH(a:List ap)(b:List ap):Int×Unit->Nat:=fun(i,_)=>a.length-i.toNat
def aml:AX acI:=fun(a,b)=>b_ [(4,aY [iI 5] (fun _=>G9 a b) (GH a b))]
def aly:HH:=hF acI func99 [Fs] aml fun x hp hb=>by
 obtain⟨a,b⟩:=x
 have MP:L9 a.length:=kc (hb _ m0)
 have MN:L9 b.length:=kc (hb _ m1)
 clear hp hb
 apply vE (let q0:=Lb false (decide (a=b));bif (a.length:Int) !=(b.length:Int) then q0 else G9 a b (0,())/\∀(y:Int×PUnit),let x0:=b.getD y.1.toNat aB;let x1:=a.getD y.1.toNat aB;let q1:=(wrap i64 (y.1+1),());G9 a b y->bif decide (y.1<(a.length:Int)) then 0<=y.1/\y.1.toNat<a.length/\0<=y.1/\y.1.toNat<b.length/\bif !decide (x1.F=x0.F) then q0 else bif !x1.aX.toList==x0.aX.toList then q0 else bif x1.State !=x0.State then q0 else bif x1.bi !=x0.bi then q0 else bif x1.iy !=x0.iy then q0 else bif !(x1.V.K==x0.V.K&&(x1.V.N==x0.V.N&&(x1.V.S.toList==x0.V.S.toList&&true))) then q0 else G9 a b q1/\GH a b q1<GH a b y else Lb true (decide (a=b)))
 dsimp only
 refine ab (fun h=>lg (pW (by simpa using h))) (fun h=>⟨⟨by omega,by omega,(tq (a:=a) (b:=b) (by assumption)),by simp⟩,?_⟩)
 rintro⟨i,⟨⟩⟩ ⟨h1,h2,h3,hR⟩
 simp only
 refine ab ?_ ?_<;>intro hc
 ·have hc:i<a.length:=yT hc
  rw[wi]
  try simp only[gg]
  try simp only[aQ]
  have hz:_:=SN (a.getD i.toNat aB) (b.getD i.toNat aB)
  repeat' (first|refine And.intro (by omega) ?_|refine ab (fun h=> ?_) (fun h=> ?_))
  all_goals first|exact lg (mj aB h1 hc (by omega) hR (by first|grind|(rw[hz];grind)))|exact⟨⟨by omega,by omega,h3,oE aB h1 hc (by omega) hR (by first|grind|(rw[hz];grind))⟩,by simp only[GH];omega⟩
 ·have hc:a.length<=i:=by have:=yF hc;omega
  exact Js (ld hc (by omega) hR)
end
end AM
