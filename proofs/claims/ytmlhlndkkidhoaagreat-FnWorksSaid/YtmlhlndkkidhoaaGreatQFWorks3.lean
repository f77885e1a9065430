/- Functions of the program with their contracts: put together by gen/link.py for FnWorks. -/
import Derived.Test.YtmlhlndkkidhoaaGreatQAmLib
import Derived.Test.YtmlhlndkkidhoaaGreatQFWorks2
import Derived.Lib.ItoaLen
import Derived.Lib.Join
namespace AM
open Go Go.Proofs.Tryz
set_option linter.unusedVariables false
set_option linter.unusedSimpArgs false
set_option maxRecDepth 100000
noncomputable section
def Se:bp UU where
 α:=(List aI)×Int
 md:=[.ro,.ro]
 of:=oC (oL .aH) (o1 oI)
 ds:=fun x=>[dL .aH x.1,dI x.2]
 pre:=fun(l,now)=>[ee l<=4294967296]
 bT:=fun(l,now)=>⟨[dL .aH (pO now l),dL .aH (MS now l)],[],[]⟩
 law:=lC (lL .aH) (l1 lI)
def x_(l:(List aI))(now:Int):(List aI×(Nat->Bool))×Int×List aI×List aI×Unit->Prop:=fun((xs,dd),i,due,oth,_)=>0<=i/\i<=l.length/\l=xs/\(∀j,i.toNat<=j->dd j=false)/\due=pO now (l.take i.toNat)/\oth=MS now (l.take i.toNat)
def sn(l:(List aI))(now:Int):(List aI×(Nat->Bool))×Int×List aI×List aI×Unit->Nat:=fun((xs,dd),i,due,oth,_)=>l.length-i.toNat
def aku:Se.α->Nat->Option (bY UU):=fun(l,now)=>aN [(5,bh [.slot 8 (8,1024) (.part .aH),.slot 9 (9,1024) (.lit (.int .i64)),.slot 6 (6,1024) (.own .aH true),.slot 7 (7,1024) (.own .aH true)] (fun _=>x_ l now) (sn l now))]
def afq:=us [WC]
theorem ahd:Holds EE (129,Se):=by
 refine holds_of ax func129 Se (by kernel_rfl) afq (aE _) aku (fun x hp hb=> ?_)
 obtain⟨l,now⟩:=x
 have gP:l.length<=9223372036854775807:=jO (hb _ m0)
 have vW:=sL (n:=now) (hb _ m1)
 have bC:ee l<=4294967296:=hp _ m0
 clear hp hb
 apply @ve _ (ee l<=4294967296/\x_ l now ((l,fun(x:Nat)=>false),0,[],[],())/\∀(y:(List aI×(Nat->Bool))×Int×List aI×List aI×PUnit),let x1:Nat:=y.2.1.toNat;let x2:Int:=IntKind.wrap IntKind.i64 (y.2.1+1);let x5:aI:=List.getD y.fst.1 x1 dH;let x6:Nat:=y.fst.1.length;let x0:List aI:=[x5];let x3:Int:=x5.At;let x4:Int:=(↑x6:Int);x_ l now y->bif decide (y.2.1<x4) then 0<=y.2.1/\x1<x6/\x1<x6/\y.fst.2 x1=false/\bif decide (x3<=now) then 0<=y.2.1/\x1<x6/\x1<x6/\y.fst.2 x1=false/\y.2.2.1.length+x0.length<=4294967296/\x_ l now ((y.fst.1,fun(j:Nat)=>Nat.beq j x1||y.fst.2 j),x2,y.2.2.1++x0,y.2.2.2.1,())/\sn l now ((y.fst.1,fun(j:Nat)=>Nat.beq j x1||y.fst.2 j),x2,y.2.2.1++x0,y.2.2.2.1,())<sn l now y else 0<=y.2.1/\x1<x6/\x1<x6/\y.fst.2 x1=false/\y.2.2.2.1.length+x0.length<=4294967296/\x_ l now ((y.fst.1,fun(j:Nat)=>Nat.beq j x1||y.fst.2 j),x2,y.2.2.1,y.2.2.2.1++x0,())/\sn l now ((y.fst.1,fun(j:Nat)=>Nat.beq j x1||y.fst.2 j),x2,y.2.2.1,y.2.2.2.1++x0,())<sn l now y else Lf [VL .aH y.2.2.1,VL .aH y.2.2.2.1] [VL .aH (pO now l),VL .aH (MS now l)]) (by kernel_rfl)
 dsimp only
 refine⟨bC,⟨by omega,by omega,rfl,fun _ _=>rfl,rfl,rfl⟩,?_⟩
 rintro⟨⟨xs,dd⟩,i,due,oth,⟨⟩⟩ ⟨h1,h2,rfl,hd,rfl,rfl⟩
 simp only
 refine af (fun hc=> ?_) (fun hc=> ?_)
 ·have hc:=yT hc
  have gF:i.toNat<l.length:=by omega
  have Ji:=hd i.toNat (s_ _)
  have hl:l.length<=4294967296:=by simp only[ee] at bC;omega
  have hw:IntKind.i64.wrap (i+1)=i+1:=wrap_i64 (by omega) (by omega)
  have g1:=zY (fun x:aI=>decide (x.At<=now)) l dH h1 hc
  have g2:=zY (fun x:aI=> !decide (x.At<=now)) l dH h1 hc
  have e1:(pO now (l.take i.toNat)).length<=i.toNat:=vt _ _ _
  have e2:(MS now (l.take i.toNat)).length<=i.toNat:=vt _ _ _
  have kG:∀j,(i+1).toNat<=j->(Nat.beq j i.toNat||dd j)=false:=fun j hj=>by
   rw[hd j (by omega),W2,<-yi,Lx];omega
  rw[hw]
  refine⟨h1,gF,gF,Ji,af (fun ha=> ?_) (fun ha=> ?_)⟩
  ·refine⟨h1,gF,gF,Ji,by simp;omega,⟨by omega,by omega,rfl,kG,?_,?_⟩,by simp only[sn];omega⟩
   ·show _=List.filter _ _
    rw[g1,if_pos ha];rfl
   ·show _=List.filter _ _
    rw[g2,if_neg (by rw[ha];decide),ww];rfl
  ·refine⟨h1,gF,gF,Ji,by simp;omega,⟨by omega,by omega,rfl,kG,?_,?_⟩,by simp only[sn];omega⟩
   ·show _=List.filter _ _
    rw[g1,if_neg (by rw[ha];decide),ww];rfl
   ·show _=List.filter _ _
    rw[g2,if_pos (by rw[ha];decide)];rfl
 ·have hc:=yF hc
  rw[dB l (by omega)]
  exact bN _
def aiS:HH:=⟨_,ahd⟩
def sQ(l:List aI)(a:Int):Nat->Nat
 |0=>0
 |n+1=>if(List.getD l n dH).At>a then sQ l a n else n+1
theorem LS(l:List aI)(a:Int):∀n,sQ l a n<=n
 |0=>s_ _
 |n+1=>by have:=LS l a n;simp only[sQ];split<;>omega
def mE(l:List aI)(x:aI):Bool:=cY l&&iy x&&decide (l.length<30)
def qA(l:List aI)(x:aI):List aI:=if mE l x then l.take (sQ l x.At l.length)++x::l.drop (sQ l x.At l.length) else l
def nJ(l:List aI)(k:Nat)(d:aI):List aI:=l.take k++d::l.drop k
theorem Np(l:List aI){k:Nat}(h:k<=l.length)(d:aI):(nJ l k d).length=l.length+1:=by
 simp[nJ];omega
theorem PN(l:List aI){k j:Nat}(h:k<=l.length)(hj:j<k)(d:aI):List.getD (nJ l k d) j dH=List.getD l j dH:=by
 simp only[nJ,eY]
 rw[vC (by simp;omega),oJ,if_pos hj]
theorem Ff(l:List aI){k:Nat}(h:k<=l.length)(d x:aI):(nJ l k d).set k x=nJ l k x:=by
 unfold nJ
 rw[List.set_append_right _ _ (by simp;omega)]
 have:k-(l.take k).length=0:=by simp;omega
 rw[this];rfl
theorem I6(l:List aI){k:Nat}(h0:0<k)(h:k<=l.length):nJ l k (List.getD l (k-1) dH)=nJ l (k-1) (List.getD l (k-1) dH):=by
 unfold nJ
 obtain⟨n,rfl⟩:∃n,k=n+1:=⟨k-1,by omega⟩
 have hn:n<l.length:=by omega
 simp only[Nat.add_sub_cancel]
 have e:List.getD l n dH=l[n]:=by rw[eY,fo hn];rfl
 rw[e,zcz hn,wB,<-S9 hn]
 rfl
theorem LfT{a a':List aI}{b b':Bool}(h1:a=a')(h2:b=b'):Lf [.one (.sl .aH a),.one (.lit (.bool b))] [.one (.sl .aH a'),.one (.lit (.bool b'))]:=by
 subst h1 h2;exact bN _
def Rx:bp UU where
 α:=(List aI)×aI
 md:=[.ro,.ro]
 of:=oC (oL .aH) (o1 (oA .aH))
 ds:=fun x=>[dL .aH x.1,dA .aH x.2]
 pre:=fun(l,x)=>[ee l<=4294967296,iY x<=4294967296]
 bT:=fun(l,x)=>⟨[dL .aH (qA l x),dO (mE l x)],[],[]⟩
 law:=lC (lL .aH) (l1 (lA .aH))
def BG(l:(List aI))(x:aI):(List aI×(Nat->Bool))×Int×T18×Unit->Prop:=fun((xs,dd),k,b,_)=>0<=k/\k<=l.length/\(∃d,xs=nJ l k.toNat d)/\(∀j,j<l.length+1->j≠k.toNat->dd j=false)/\sQ l x.At k.toNat=sQ l x.At l.length/\b=(x.At,x.F.Kind,x.F.aj,())
def A4(l:(List aI))(x:aI):(List aI×(Nat->Bool))×Int×T18×Unit->Nat:=fun((xs,dd),k,b,_)=>k.toNat
def ajR:Rx.α->Nat->Option (bY UU):=fun(l,x)=>aN [(7,bh [.slot 6 (6,1024) (.part .aH),.slot 7 (7,1024) (.lit (.int .i64)),.box 3 (3,1024) [.lit (.int .i64),.lit .str,.own .aM true]] (fun _=>BG l x) (A4 l x))]
def aeN:=us [WC,ahU,ahP,sM]
theorem agy:Holds EE (172,Rx):=by
 refine holds_of ax func172 Rx (by kernel_rfl) aeN (aE _) ajR (fun x hp hb=> ?_)
 obtain⟨l,x⟩:=x
 have gP:l.length<=9223372036854775807:=jO (hb _ m0)
 have fg:=zh (x:=x) (hb _ m1)
 have tD:=fg.1
 have qt:=fg.2
 have bC:ee l<=4294967296:=hp _ m0
 have fT:iY x<=4294967296:=hp _ m1
 clear hp hb
 apply @ve _ (let q0:=Lf [VL .aH l,VB false] [VL .aH (qA l x),VB (mE l x)];ee l<=4294967296/\bif !cY l then q0 else bif !iy x then q0 else bif decide ((l.length:Int)≥30) then q0 else x.F.aj.length<=4294967296/\l.length+List.length (List.replicate 1 dH)<=4294967296/\BG l x ((l++List.replicate 1 dH,fun(i:Nat)=>Nat.ble (l.length) i),(l.length:Int),(x.At,x.F.Kind,x.F.aj,()),())/\∀(y:(List aI×(Nat->Bool))×Int×T20×PUnit),let x1:Nat:=y.2.1.toNat;let x3:Int:=IntKind.wrap IntKind.i64 (y.2.1-1);let x6:Nat:=y.fst.1.length;let x0:List aI:=List.set y.fst.1 x1 {At:=y.2.2.1.1,F:={Kind:=y.2.2.1.2.1,aj:=y.2.2.1.2.2.1:aJ}:aI};let x2:Nat:=x3.toNat;let x5:aI:=List.getD y.fst.1 x2 dH;let x4:Int:=x5.At;let q1:=Lf [VL .aH x0,VB true] [VL .aH (qA l x),VB (mE l x)];let q2:=(y.2.2.1.1,y.2.2.1.2.1,y.2.2.1.2.2.1,());BG l x y->bif decide (y.2.1>0) then 0<=x3/\x2<x6/\x2<x6/\y.fst.2 x2=false/\bif decide (x4>y.2.2.1.1) then 0<=x3/\x2<x6/\x2<x6/\y.fst.2 x2=false/\0<=y.2.1/\x1<x6/\x1<x6/\BG l x ((List.set y.fst.1 x1 x5,fun(j:Nat)=> !Nat.beq j x1&&(Nat.beq j x2||y.fst.2 j)),x3,q2,())/\A4 l x ((List.set y.fst.1 x1 x5,fun(j:Nat)=> !Nat.beq j x1&&(Nat.beq j x2||y.fst.2 j)),x3,q2,())<A4 l x y else 0<=y.2.1/\x1<x6/\x1<x6/\(∀(i:Nat),i<x0.length->(!Nat.beq i x1&&y.fst.2 i)=false)/\q1 else 0<=y.2.1/\x1<x6/\x1<x6/\(∀(i:Nat),i<x0.length->(!Nat.beq i x1&&y.fst.2 i)=false)/\q1) (by kernel_rfl)
 dsimp only
 refine⟨bC,af (fun h=> ?_) (fun h=>af (fun h'=> ?_) (fun h'=>af (fun n9=> ?_) (fun n9=> ?_)))⟩
 ·have hf:mE l x=false:=by simp only[mE];simp at h;simp[h]
  exact LfT (by rw[qA,hf];rfl) hf.symm
 ·have hf:mE l x=false:=by simp only[mE];simp at h';simp[h']
  exact LfT (by rw[qA,hf];rfl) hf.symm
 ·have hf:mE l x=false:=by simp only[mE];have n9:=yT n9;rw[decide_eq_false (by omega)];simp
  exact LfT (by rw[qA,hf];rfl) hf.symm
 have h3:=yF n9
 have ho:mE l x=true:=by simp only[mE];simp at h h';rw[h,h',decide_eq_true (by omega)];rfl
 have hT:qA l x=nJ l (sQ l x.At l.length) x:=by rw[qA,if_pos ho];rfl
 refine⟨?_,by simp;omega,⟨by omega,by omega,⟨dH,by simp[nJ]⟩,fun j hj s8=> ?_,rfl,rfl⟩,?_⟩
 ·simp only[iY,eg,gy] at fT;omega
 ·show Nat.ble l.length j=false
  rw[<-yi,S7];omega
 rintro⟨⟨xs,dd⟩,k,⟨bA,bK,bF,⟨⟩⟩,⟨⟩⟩ ⟨h1,h2,⟨d,rfl⟩,hd,No,hb⟩
 cases hb
 simp only
 have hlen:=Np l (k:=k.toNat) (by omega) d
 have fin:sQ l x.At k.toNat=k.toNat->0<=k/\k.toNat<(nJ l k.toNat d).length/\k.toNat<(nJ l k.toNat d).length/\
   (∀i,i<((nJ l k.toNat d).set k.toNat x).length->(!Nat.beq i k.toNat&&dd i)=false)/\
   Lf [.one (.sl .aH ((nJ l k.toNat d).set k.toNat x)),.one (.lit (.bool true))] [.one (.sl .aH (qA l x)),.one (.lit (.bool (mE l x)))]:=by
  intro hk
  refine⟨h1,by rw[hlen];omega,by rw[hlen];omega,fun i hi=> ?_,LfT ?_ ho.symm⟩
  ·rw[Ly,hlen] at hi
   by_cases hik:i=k.toNat
   ·subst hik;simp
   ·rw[hd i hi hik];simp
  ·rw[Ff l (by omega),hT,<-No,hk]
 refine af (fun hc=> ?_) (fun hc=> ?_)
 ·have hc:=yT hc
  have hw:IntKind.i64.wrap (k-1)=k-1:=wrap_i64 (by omega) (by omega)
  have ek:(k-1).toNat=k.toNat-1:=by omega
  obtain⟨n,hn⟩:∃n,k.toNat=n+1:=⟨k.toNat-1,by omega⟩
  have hlo:=PN l (k:=k.toNat) (j:=k.toNat-1) (by omega) (by omega) d
  have Wh:=hd (k.toNat-1) (by omega) (by omega)
  rw[hw,ek,hlo]
  refine⟨by omega,by rw[hlen];omega,by rw[hlen];omega,Wh,af (fun hg=> ?_) (fun hg=> ?_)⟩
  ·have hg:=yT hg
   refine⟨by omega,by rw[hlen];omega,by rw[hlen];omega,Wh,by omega,by rw[hlen];omega,by rw[hlen];omega,⟨by omega,by omega,⟨List.getD l (k.toNat-1) dH,?_⟩,fun j hj s8=> ?_,?_,rfl⟩,by simp only[A4];omega⟩
   ·rw[Ff l (by omega),ek]
    exact I6 l (by omega) (by omega)
   ·show(!Nat.beq j k.toNat&&(Nat.beq j (k.toNat-1)||dd j))=false
    rw[ek] at s8
    have e1:Nat.beq j (k.toNat-1)=false:=by rw[<-yi,Lx];exact s8
    by_cases hjk:j=k.toNat
    ·subst hjk;simp
    ·rw[e1,hd j hj hjk];simp
   ·rw[<-No,ek,hn]
    rw[hn] at hg
    simp only[Nat.add_sub_cancel] at hg⊢
    rw[sQ,if_pos hg]
  ·have hg:=yF hg
   refine fin ?_
   rw[hn] at hg⊢
   simp only[Nat.add_sub_cancel] at hg
   rw[sQ,if_neg hg]
 ·have hc:=yF hc
  refine fin ?_
  have:k.toNat=0:=by omega
  rw[this,sQ]
def aip:HH:=⟨_,agy⟩
structure ae where
 b:List Int
 i:Int
 h:Int
def dU (c : ae) : DV UU := .box [.sl .byte c.b, .lit (.int .i64 c.i), .lit (.int .i64 c.h)]
def oU : DV UU -> Option ae := fun | .box [.sl .byte b, .lit (.int .i64 i), .lit (.int .i64 h)] => some ⟨b, i, h⟩ | _ => none
theorem lU (d : DV UU) (x : ae) (h : oU d = some x) : dU x = d := by
  unfold oU at h
  split at h <;> cases h
  rfl
theorem sK {x : ae} (h : gB (dU x)) : x.b.length <= 9223372036854775807 := Bd.len (U := UU) (τ := .byte) (xs := x.b) (h _ List.mem_cons_self)
def UA(h:Int)(x:Int):Int:=IntKind.wrap .i64 (((BitVec.ofInt (IntKind.bits .i64) (IntKind.wrap .i64 (IntKind.wrap .i64 (IntKind.wrap .i64 (h*137)+IntKind.wrap .i64 x)+11))&&&BitVec.ofInt (IntKind.bits .i64) 1073741823).toNat:Nat):Int)
def abL(code:List Int):Int:=(code.take 4000).foldl UA (354354+code.length)
def gz(code:List Int):ae:=⟨code,0,abL code⟩
def IT(h:Int):Int:=IntKind.wrap .i64 (IntKind.wrap .i64 (h*6364136223846793005)+1442695040888963407)
def zk(x:Int):Int:=IntKind.wrap .i64 (((BitVec.ofInt (IntKind.bits .i64) x&&&BitVec.ofInt (IntKind.bits .i64) 255).toNat:Nat):Int)
def Uz(h:Int):Int:=zk (IntKind.wrap .i64 (((BitVec.ofInt (IntKind.bits .i64) (Int.fdiv h ((2:Int)^min (Int.toNat 33) (IntKind.bits .i64)))^^^BitVec.ofInt (IntKind.bits .i64) (Int.fdiv h ((2:Int)^min (Int.toNat 47) (IntKind.bits .i64)))).toNat:Nat):Int))
def iE(c:ae):Int:=if c.i<c.b.length then zk (IntKind.wrap .i64 (Uz (IT c.h)+IntKind.wrap .i64 (List.getD c.b c.i.toNat 0))) else Uz (IT c.h)
def dW(c:ae):ae:=⟨c.b,if c.i<c.b.length then c.i+1 else c.i,IT c.h⟩
theorem FO(x:Int):0<=zk x/\zk x<=255:=by
 unfold zk
 have h:(BitVec.ofInt 64 x&&&BitVec.ofInt 64 255).toNat<=255:=by
  rw[BitVec.toNat_and]
  exact wu Nat.and_le_right (by decide)
 have h':(BitVec.ofInt (IntKind.bits .i64) x&&&BitVec.ofInt (IntKind.bits .i64) 255).toNat<=255:=h
 rw[wrap_i64 (by omega) (by omega)]
 omega
theorem qV(c:ae):0<=iE c/\iE c<=255:=by
 unfold iE
 split
 ·exact FO _
 ·exact FO _
theorem sa{c:ae}(h:0<=c.i):0<=(dW c).i:=by
 simp only[dW];split<;>omega
def ag(c:ae)(n:Int):Int:=if n<=0 then 0 else if n<=256 then Int.tmod (iE c) n else Int.tmod (iE c*65536+iE (dW c)*256+iE (dW (dW c))) n
def aa(c:ae)(n:Int):ae:=if n<=0 then c else if n<=256 then dW c else dW (dW (dW c))
theorem QF{c:ae}(h:0<=c.i)(n:Int):0<=(aa c n).i:=by
 unfold aa
 split
 ·exact h
 ·split
  ·exact sa h
  ·exact sa (sa (sa h))
theorem br{c:ae}{n:Int}(h:0<n):0<=ag c n/\ag c n<n:=by
 have h1:=qV c;have h2:=qV (dW c);have h3:=qV (dW (dW c))
 unfold ag
 rw[if_neg (by omega)]
 split
 ·rw[zbp (by omega)];exact⟨Int.emod_nonneg _ (by omega),Int.emod_lt_of_pos _ h⟩
 ·rw[zbp (by omega)];exact⟨Int.emod_nonneg _ (by omega),Int.emod_lt_of_pos _ h⟩
def aa2:bp UU where
 α:=(List Int)
 md:=[.ro]
 of:=o1 (oL .byte)
 ds:=fun x=>[dL .byte x]
 pre:=fun code=>[code.length<=4294967296]
 bT:=fun code=>⟨[.box [.sl .byte ((gz code)).b,.lit (.int .i64 ((gz code)).i),.lit (.int .i64 ((gz code)).h)]],[],[]⟩
 law:=l1 (lL .byte)
def HV(code:(List Int)):Int×Int×Unit->Prop:=fun(h,i,_)=>0<=i/\i<=code.length/\i<=4000/\h=(code.take i.toNat).foldl UA (354354+code.length)
def Hs(code:(List Int)):Int×Int×Unit->Nat:=fun(h,i,_)=>code.length-i.toNat
def atO:aa2.α->Nat->Option (bY UU):=fun code=>aN [(3,bh [.slot 3 (3,1024) (.lit (.int .i64)),.slot 4 (4,1024) (.lit (.int .i64))] (fun _=>HV code) (Hs code))]
def ap_:List (FuncId×bp UU):=[]
theorem arC:Holds EE (13,aa2):=by
 refine holds_of ax func13 aa2 (by kernel_rfl) ap_ all_nil atO (fun(code:(List Int)) hp hb=> ?_)
 have uq:code.length<=9223372036854775807:=jO (hb _ m0)
 have bC:code.length<=4294967296:=hp _ m0
 clear hp hb
 apply @ve _ (let q0:=IntKind.bits IntKind.i64;let q1:=gz code;HV code (IntKind.wrap IntKind.i64 (354354+(code.length:Int)),0,())/\∀(y:Int×Int×PUnit),let x0:Nat:=y.2.1.toNat;let q2:=(IntKind.wrap IntKind.i64 (↑(BitVec.toNat (BitVec.ofInt q0 (IntKind.wrap IntKind.i64 (IntKind.wrap IntKind.i64 (IntKind.wrap IntKind.i64 (y.1*137)+IntKind.wrap IntKind.i64 (List.getD code x0 0))+11))&&&BitVec.ofInt q0 1073741823)):Int),IntKind.wrap IntKind.i64 (y.2.1+1),());let q3:=Lf [DV.box [CL .byte code,CI 0,CI y.1]] [DV.box [CL .byte q1.b,CI (q1.i),CI (q1.h)]];HV code y->bif decide (y.2.1<(code.length:Int)) then bif decide (y.2.1<4000) then 0<=y.2.1/\x0<code.length/\HV code q2/\Hs code q2<Hs code y else q3 else q3) (by kernel_rfl)
 dsimp only
 refine⟨⟨by omega,by omega,by omega,by rw[wrap_i64 (by omega) (by omega)];rfl⟩,?_⟩
 rintro⟨h,i,⟨⟩⟩ ⟨h1,h2,h3,rfl⟩
 simp only
 have hE:(i=code.length\/i=4000)->(code.take i.toNat).foldl UA (354354+code.length)=(gz code).h:=by
  intro hh
  show _=(code.take 4000).foldl UA (354354+code.length)
  rcases hh with hh|hh
  ·rw[Tq (by omega),Tq (by omega)]
  ·rw[hh];rfl
 refine af (fun hc=>af (fun hd=> ?_) (fun hd=> ?_)) (fun hc=> ?_)
 ·have hc:=yT hc;have hd:=yT hd
  rw[wrap_i64 (n:=i+1) (by omega) (by omega)]
  refine⟨h1,by omega,⟨by omega,by omega,by omega,?_⟩,by simp only[Hs];omega⟩
  rw[<-fD code 0 h1 (by omega),List.foldl_append]
  rfl
 ·have hc:=yT hc;have hd:=yF hd
  rw[hE (by omega)];exact bN _
 ·have hc:=yF hc
  rw[hE (by omega)];exact bN _
def aiR:HH:=⟨_,arC⟩
def Z7:bp UU where
 α:=ae
 md:=[.box false]
 of:=o1 oU
 ds:=fun x=>[dU x]
 pre:=fun c=>[0<=c.i,c.b.length<=4294967296]
 bT:=fun c=>⟨[dI (iE c)],[],[dU (dW c)]⟩
 law:=l1 lU
def asR:Z7.α->Nat->Option (bY UU):=fun c=>aN []
def apc:List (FuncId×bp UU):=[]
theorem aqB:Holds EE (75,Z7):=by
 refine holds_of ax func75 Z7 (by kernel_rfl) apc all_nil asR (fun(c:ae) hp hb=> ?_)
 have dK:=sK (x:=c) (hb _ m0)
 have bC:0<=c.i:=hp _ m0
 have fT:c.b.length<=4294967296:=hp _ m1
 clear hp hb
 apply @ve _ (let x1:Int:=IntKind.wrap IntKind.i64 (IntKind.wrap IntKind.i64 (c.h*6364136223846793005)+1442695040888963407);let x0:Int:=IntKind.wrap IntKind.i64 (↑(BitVec.toNat (BitVec.ofInt (IntKind.bits IntKind.i64) (IntKind.wrap IntKind.i64 (↑(BitVec.toNat (BitVec.ofInt (IntKind.bits IntKind.i64) (Int.fdiv x1 (2^min (Int.toNat 33) (IntKind.bits IntKind.i64)))^^^BitVec.ofInt (IntKind.bits IntKind.i64) (Int.fdiv x1 (2^min (Int.toNat 47) (IntKind.bits IntKind.i64))))):Int))&&&BitVec.ofInt (IntKind.bits IntKind.i64) 255)):Int);(0:Int)<=(33:Int)/\(0:Int)<=(47:Int)/\bif decide (c.i<(c.b.length:Int)) then 0<=c.i/\c.i.toNat<c.b.length/\(0:Nat)=(0:Nat)/\ap [VI (IntKind.wrap IntKind.i64 (↑(BitVec.toNat (BitVec.ofInt (IntKind.bits IntKind.i64) (IntKind.wrap IntKind.i64 (x0+IntKind.wrap IntKind.i64 (List.getD c.b c.i.toNat 0)))&&&BitVec.ofInt (IntKind.bits IntKind.i64) 255)):Int))]=ap [VI (iE c)]/\ap [DV.box [CL .byte c.b,CI (IntKind.wrap IntKind.i64 (c.i+1)),CI x1]]=ap [DV.box [CL .byte (dW c).b,CI ((dW c).i),CI ((dW c).h)]] else(0:Nat)=(0:Nat)/\ap [VI x0]=ap [VI (iE c)]/\ap [DV.box [CL .byte c.b,CI c.i,CI x1]]=ap [DV.box [CL .byte (dW c).b,CI ((dW c).i),CI ((dW c).h)]]) (by kernel_rfl)
 dsimp only
 refine⟨by omega,by omega,af (fun h=> ?_) (fun h=> ?_)⟩
 ·have h:=yT h
  have e1:iE c=zk (IntKind.wrap .i64 (Uz (IT c.h)+IntKind.wrap .i64 (List.getD c.b c.i.toNat 0))):=if_pos h
  have e2:(dW c).i=c.i+1:=if_pos h
  rw[e1,e2,wrap_i64 (n:=c.i+1) (by omega) (by omega)]
  exact⟨bC,by omega,rfl,rfl,rfl⟩
 ·have h:=yF h
  have e1:iE c=Uz (IT c.h):=if_neg h
  have e2:(dW c).i=c.i:=if_neg h
  rw[e1,e2]
  exact⟨rfl,rfl,rfl⟩
def arT:HH:=⟨_,aqB⟩
def aaD:bp UU where
 α:=ae×Int
 md:=[.box false,.ro]
 of:=oC oU (o1 oI)
 ds:=fun x=>[dU x.1,dI x.2]
 pre:=fun(c,n)=>[0<=c.i,c.b.length<=4294967296]
 bT:=fun(c,n)=>⟨[dI (ag c n)],[],[dU (aa c n)]⟩
 law:=lC lU (l1 lI)
def ato:aaD.α->Nat->Option (bY UU):=fun(c,n)=>aN []
def apL:=us [arT]
theorem aq_:Holds EE (39,aaD):=by
 refine holds_of ax func39 aaD (by kernel_rfl) apL (aE _) ato (fun x hp hb=> ?_)
 obtain⟨c,n⟩:=x
 have dK:=sK (x:=c) (hb _ m0)
 have Nt:=sL (n:=n) (hb _ m1)
 have bC:0<=c.i:=hp _ m0
 have fT:c.b.length<=4294967296:=hp _ m1
 clear hp hb
 apply @ve _ (let q0:=aa c n;let q1:=dW (dW c);bif decide (n<=0) then(0:Nat)=(0:Nat)/\ap [VI 0]=ap [VI (ag c n)]/\ap [DV.box [CL .byte c.b,CI c.i,CI c.h]]=ap [DV.box [CL .byte q0.b,CI (q0.i),CI (q0.h)]] else bif decide (n<=256) then 0<=c.i/\c.b.length<=4294967296/\n≠0/\(0:Nat)=(0:Nat)/\ap [VI (Int.tmod (iE c) n)]=ap [VI (ag c n)]/\ap [DV.box [CL .byte (dW c).b,CI ((dW c).i),CI ((dW c).h)]]=ap [DV.box [CL .byte q0.b,CI (q0.i),CI (q0.h)]] else 0<=c.i/\c.b.length<=4294967296/\0<=(dW c).i/\List.length (dW c).b<=4294967296/\0<=q1.i/\List.length q1.b<=4294967296/\n≠0/\(0:Nat)=(0:Nat)/\ap [VI (Int.tmod (IntKind.wrap IntKind.i64 (IntKind.wrap IntKind.i64 (IntKind.wrap IntKind.i64 (iE c*65536)+IntKind.wrap IntKind.i64 (iE (dW c)*256))+iE q1)) n)]=ap [VI (ag c n)]/\ap [DV.box [CL .byte (dW q1).b,CI ((dW q1).i),CI ((dW q1).h)]]=ap [DV.box [CL .byte q0.b,CI (q0.i),CI (q0.h)]]) (by kernel_rfl)
 dsimp only
 have b1:=qV c;have b2:=qV (dW c);have b3:=qV (dW (dW c))
 refine af (fun h=> ?_) (fun h=>af (fun h2=> ?_) (fun h2=> ?_))
 ·have h:=yT h
  have e1:ag c n=0:=if_pos h
  have e2:aa c n=c:=if_pos h
  rw[e1,e2];exact⟨rfl,rfl,rfl⟩
 ·have h:=yF h;have h2:=yT h2
  have e1:ag c n=Int.tmod (iE c) n:=by rw[ag,if_neg h,if_pos h2]
  have e2:aa c n=dW c:=by rw[aa,if_neg h,if_pos h2]
  rw[e1,e2];exact⟨bC,fT,by omega,rfl,rfl,rfl⟩
 ·have h:=yF h;have h2:=yF h2
  have e1:ag c n=Int.tmod (iE c*65536+iE (dW c)*256+iE (dW (dW c))) n:=by rw[ag,if_neg h,if_neg h2]
  have e2:aa c n=dW (dW (dW c)):=by rw[aa,if_neg h,if_neg h2]
  have w1:IntKind.wrap .i64 (iE c*65536)=iE c*65536:=wrap_i64 (by omega) (by omega)
  have w2:IntKind.wrap .i64 (iE (dW c)*256)=iE (dW c)*256:=wrap_i64 (by omega) (by omega)
  rw[w1,w2,e1,e2,wrap_i64 (n:=iE c*65536+iE (dW c)*256) (by omega) (by omega),wrap_i64 (n:=iE c*65536+iE (dW c)*256+iE (dW (dW c))) (by omega) (by omega)]
  exact⟨bC,fT,sa bC,fT,sa (sa bC),fT,by omega,rfl,rfl,rfl⟩
def mL:HH:=⟨_,aq_⟩
def aaE:bp UU where
 α:=ae×(List Int)
 md:=[.box false,.ro]
 of:=oC oU (o1 (oL .int))
 ds:=fun x=>[dU x.1,dL .int x.2]
 pre:=fun(c,list)=>[0<=c.i,c.b.length<=4294967296,1<=list.length]
 bT:=fun(c,list)=>⟨[dI (List.getD list (ag c list.length).toNat 0)],[],[dU (aa c list.length)]⟩
 law:=lC lU (l1 (lL .int))
def atp:aaE.α->Nat->Option (bY UU):=fun(c,list)=>aN []
def apM:=us [mL]
theorem ara:Holds EE (38,aaE):=by
 refine holds_of ax func38 aaE (by kernel_rfl) apM (aE _) atp (fun x hp hb=> ?_)
 obtain⟨c,list⟩:=x
 have dK:=sK (x:=c) (hb _ m0)
 have US:list.length<=9223372036854775807:=jO (hb _ m1)
 have bC:0<=c.i:=hp _ m0
 have fT:c.b.length<=4294967296:=hp _ m1
 have Ka:1<=list.length:=hp _ m2
 clear hp hb
 apply @ve _ (let x0:ae:=aa c (list.length:Int);let q0:=List.getD list (Int.toNat (ag c (list.length:Int))) 0;0<=c.i/\c.b.length<=4294967296/\0<=ag c (list.length:Int)/\Int.toNat (ag c (list.length:Int))<list.length/\(0:Nat)=(0:Nat)/\ap [VI q0]=ap [VI q0]/\ap [DV.box [CL .byte x0.b,CI x0.i,CI x0.h]]=ap [DV.box [CL .byte x0.b,CI x0.i,CI x0.h]]) (by kernel_rfl)
 dsimp only
 have hb:=br (c:=c) (n:=list.length) (by omega)
 exact⟨bC,fT,hb.1,by omega,rfl,rfl,rfl⟩
def Eb:HH:=⟨_,ara⟩
def bj(c:ae):Prop:=0<=c.i/\c.b.length<=4294967296
theorem aq{c:ae}(h:bj c)(n:Int):bj (aa c n):=by
 refine⟨QF h.1 n,?_⟩
 have:(aa c n).b=c.b:=by
  unfold aa
  split
  ·rfl
  ·split<;>rfl
 rw[this];exact h.2
theorem AL{code:List Int}(h:code.length<=4294967296):bj (gz code):=⟨Int.le_refl 0,h⟩
def b8(c:ae)(n:Int):Bool:=decide (ag c n=0)
def cv(c:ae)(l:List BA):BA:=List.getD l (ag c l.length).toNat ai
def bS(c:ae)(l:List BA):ae:=aa c l.length
def gL(c:ae)(l:List Int):Int:=List.getD l (ag c l.length).toNat 0
def j9(c:ae)(l:List Int):ae:=aa c l.length
theorem fh{c:ae}(h:bj c)(l:List BA):bj (bS c l):=aq h _
theorem ky{c:ae}(h:bj c)(l:List Int):bj (j9 c l):=aq h _
theorem If(c:ae){l:List BA}(h:0<l.length):cv c l∈l:=by
 have hb:=br (c:=c) (n:=l.length) (by omega)
 have hi:(ag c l.length).toNat<l.length:=by omega
 rw[cv,eY,fo hi]
 exact Ed hi
theorem PD(c:ae){l:List Int}(h:0<l.length):gL c l∈l:=by
 have hb:=br (c:=c) (n:=l.length) (by omega)
 have hi:(ag c l.length).toNat<l.length:=by omega
 rw[gL,eY,fo hi]
 exact Ed hi
theorem d_(c:ae){l:List BA}(p:BA->Bool)(h0:0<l.length)(h:l.all p=true):p (cv c l)=true:=rh.1 h _ (If c h0)
theorem qL(c:ae){l:List Int}(p:Int->Bool)(h0:0<l.length)(h:l.all p=true):p (gL c l)=true:=rh.1 h _ (PD c h0)
def F6:List BA:=[⟨#[97]⟩,⟨#[98]⟩]
def dR(c:ae):aQ:=if b8 c 2 then⟨1,1+ag (aa c 2) 3,ai⟩ else⟨2,0,cv (aa c 2) F6⟩
def ew(c:ae):ae:=if b8 c 2 then aa (aa c 2) 3 else bS (aa c 2) F6
theorem kx{c:ae}(h:bj c):bj (ew c):=by
 unfold ew;split
 ·exact aq (aq h _) _
 ·exact fh (aq h _) _
def VW:List Int:=[0,1,2,3,-1,1000000000,-1000000000]
def OI:List BA:=[⟨#[]⟩,⟨#[97]⟩,⟨#[98]⟩,⟨#[112,97,105,100]⟩,⟨#[120,95,49]⟩]
def kK(c:ae):aQ:=if b8 c 2 then⟨1,gL (aa c 2) VW,ai⟩ else⟨2,0,cv (aa c 2) OI⟩
def jt(c:ae):ae:=if b8 c 2 then j9 (aa c 2) VW else bS (aa c 2) OI
theorem AJ{c:ae}(h:bj c):bj (jt c):=by
 unfold jt;split
 ·exact ky (aq h _) _
 ·exact fh (aq h _) _
def L2:List Int:=[1000000001,5]
def Il:List BA:=[⟨#[65]⟩,⟨#[97,32,98]⟩,⟨#[116,119,101,110,116,121,111,110,101,98,121,116,101,115,116,119,101,110,116,121,111]⟩,⟨#[120]⟩]
def ie(c:ae):aQ:=let v:=kK c;let k:=ag (jt c) 10;let d:=aa (jt c) 10;if k=0 then⟨ag d 4,v.N,v.S⟩ else if k=1 then⟨v.K,gL d L2,v.S⟩ else if k=2 then⟨v.K,v.N,cv d Il⟩ else v
def gM(c:ae):ae:=let k:=ag (jt c) 10;let d:=aa (jt c) 10;if k=0 then aa d 4 else if k=1 then j9 d L2 else if k=2 then bS d Il else d
theorem JM{c:ae}(h:bj c):bj (gM c):=by
 have:=aq (AJ h) 10
 simp only[gM];split
 ·exact aq this _
 ·split
  ·exact ky this _
  ·split
   ·exact fh this _
   ·exact this
def cM:List BA:=[⟨#[111,114,100,101,114]⟩,⟨#[112,97,105,100]⟩,⟨#[105,116,101,109]⟩,⟨#[111,114,100,101,114]⟩]
def DL:BA:=⟨#[105,116,101,109]⟩
def rr:Nat->List aQ->ae->List aQ
 |0,l,_=>l
 |k+1,l,c=>rr k (l++[dR c]) (ew c)
def Au:Nat->ae->ae
 |0,c=>c
 |k+1,c=>Au k (ew c)
theorem DB:∀{k:Nat}{c:ae},bj c->bj (Au k c)
 |0,_,h=>h
 |k+1,_,h=>DB (k:=k) (kx h)
def fw(c:ae):Int:=if b8 (bS c cM) 12 then ag (aa (bS c cM) 12) 6 else if cv c cM=DL then 2 else 1
def xl(c:ae):ae:=if b8 (bS c cM) 12 then aa (aa (bS c cM) 12) 6 else aa (bS c cM) 12
def cP(c:ae):aJ:=⟨cv c cM,rr (fw c).toNat [] (xl c)⟩
def cq(c:ae):ae:=Au (fw c).toNat (xl c)
theorem FH{c:ae}(h:bj c):bj (xl c):=by
 have:=aq (fh h cM) 12
 unfold xl;split
 ·exact aq this _
 ·exact this
theorem li{c:ae}(h:bj c):bj (cq c):=DB (FH h)
theorem zE:∀(k:Nat)(l:List aQ)(c:ae),(rr k l c).length=l.length+k
 |0,_,_=>rfl
 |k+1,l,c=>by rw[rr,zE k];simp only[kg,gv,fO];omega
theorem y9(c:ae):(cP c).aj.length=(fw c).toNat:=by
 show(rr _ _ _).length=_
 rw[zE];simp
theorem xk(c:ae):0<=fw c/\fw c<=5:=by
 have:=br (c:=aa (bS c cM) 12) (n:=6) (by omega)
 unfold fw
 split
 ·omega
 ·split<;>omega
noncomputable def vP(l:List aQ)(c:ae):List aQ×ae:=if h:(l.length:Int)<5+ag c 2 then vP (l++[kK (aa c 2)]) (jt (aa c 2)) else(l,aa c 2)
termination_by 6-l.length
decreasing_by
 have:=br (c:=c) (n:=2) (by omega)
 simp only[kg,gv,fO];omega
theorem CH{l:List aQ}{c:ae}(h:(l.length:Int)<5+ag c 2):vP l c=vP (l++[kK (aa c 2)]) (jt (aa c 2)):=by rw[vP,dif_pos h]
theorem Gl{l:List aQ}{c:ae}(h:¬(l.length:Int)<5+ag c 2):vP l c=(l,aa c 2):=by rw[vP,dif_neg h]
theorem Mk{l:List aQ}{c:ae}(h:bj c):bj (vP l c).2:=by
 by_cases hl:(l.length:Int)<5+ag c 2
 ·rw[CH hl];exact Mk (AJ (aq h _))
 ·rw[Gl hl];exact aq h _
termination_by 6-l.length
decreasing_by
 have:=br (c:=c) (n:=2) (by omega)
 simp only[kg,gv,fO];omega
def Cu:List BA:=[⟨#[]⟩,⟨#[65]⟩,⟨#[116,104,105,114,116,101,101,110,98,121,116,101,115]⟩,⟨#[120]⟩]
noncomputable def oa(c:ae):aJ:=let f:=cP c;let k:=ag (cq c) 10;let d:=aa (cq c) 10;if k=0 then⟨cv d Cu,f.aj⟩ else if k=1 then⟨f.Kind,f.aj++[ie d]⟩ else if k=2 then⟨f.Kind,(vP f.aj d).1⟩ else f
noncomputable def fG(c:ae):ae:=let f:=cP c;let k:=ag (cq c) 10;let d:=aa (cq c) 10;if k=0 then bS d Cu else if k=1 then gM d else if k=2 then(vP f.aj d).2 else d
theorem JN{c:ae}(h:bj c):bj (fG c):=by
 have:=aq (li h) 10
 simp only[fG];split
 ·exact fh this _
 ·split
  ·exact JM this
  ·split
   ·exact Mk this
   ·exact this
def aaB:bp UU where
 α:=ae×Int
 md:=[.box false,.ro]
 of:=oC oU (o1 oI)
 ds:=fun x=>[dU x.1,dI x.2]
 pre:=fun(c,n)=>[bj c]
 bT:=fun(c,n)=>⟨[dO (b8 c n)],[],[dU (aa c n)]⟩
 law:=lC lU (l1 lI)
def atm:aaB.α->Nat->Option (bY UU):=fun(c,n)=>aN []
def apJ:=us [mL]
theorem aq9:Holds EE (41,aaB):=by
 refine holds_of ax func41 aaB (by kernel_rfl) apJ (aE _) atm (fun x hp hb=> ?_)
 obtain⟨c,n⟩:=x
 have dK:=sK (x:=c) (hb _ m0)
 have Nt:=sL (n:=n) (hb _ m1)
 have bC:bj c:=hp _ m0
 clear hp hb
 apply @ve _ (let q0:=aa c n;0<=c.i/\c.b.length<=4294967296/\(0:Nat)=(0:Nat)/\ap [VB (ag c n==0)]=ap [VB (b8 c n)]/\ap [DV.box [CL .byte q0.b,CI (q0.i),CI (q0.h)]]=ap [DV.box [CL .byte q0.b,CI (q0.i),CI (q0.h)]]) (by kernel_rfl)
 dsimp only
 exact⟨bC.1,bC.2,rfl,rfl,rfl⟩
def zv:HH:=⟨_,aq9⟩
def Z8:bp UU where
 α:=ae×(List BA)
 md:=[.box false,.ro]
 of:=oC oU (o1 (oL .str))
 ds:=fun x=>[dU x.1,dL .str x.2]
 pre:=fun(c,list)=>[bj c,1<=list.length]
 bT:=fun(c,list)=>⟨[dS (cv c list)],[],[dU (bS c list)]⟩
 law:=lC lU (l1 (lL .str))
def asS:Z8.α->Nat->Option (bY UU):=fun(c,list)=>aN []
def apd:=us [mL]
theorem aqD:Holds EE (73,Z8):=by
 refine holds_of ax func73 Z8 (by kernel_rfl) apd (aE _) asS (fun x hp hb=> ?_)
 obtain⟨c,list⟩:=x
 have dK:=sK (x:=c) (hb _ m0)
 have US:list.length<=9223372036854775807:=jO (hb _ m1)
 have bC:bj c:=hp _ m0
 have fT:1<=list.length:=hp _ m1
 clear hp hb
 apply @ve _ (let x0:ae:=aa c (list.length:Int);0<=c.i/\c.b.length<=4294967296/\0<=ag c (list.length:Int)/\Int.toNat (ag c (list.length:Int))<list.length/\(0:Nat)=(0:Nat)/\ap [VS (List.getD list (Int.toNat (ag c (list.length:Int))) ai)]=ap [VS (cv c list)]/\ap [DV.box [CL .byte x0.b,CI x0.i,CI x0.h]]=ap [DV.box [CL .byte (bS c list).b,CI ((bS c list).i),CI ((bS c list).h)]]) (by kernel_rfl)
 dsimp only
 have hb:=br (c:=c) (n:=list.length) (by omega)
 exact⟨bC.1,bC.2,hb.1,by omega,rfl,rfl,rfl⟩
def q_:HH:=⟨_,aqD⟩
def Z0:bp UU where
 α:=ae
 md:=[.box false]
 of:=o1 oU
 ds:=fun x=>[dU x]
 pre:=fun c=>[bj c]
 bT:=fun c=>⟨[dA .aM (dR c)],[],[dU (ew c)]⟩
 law:=l1 lU
def asK:Z0.α->Nat->Option (bY UU):=fun c=>aN []
def ao7:=us [zv,mL,q_]
theorem aqt:Holds EE (83,Z0):=by
 refine holds_of ax func83 Z0 (by kernel_rfl) ao7 (aE _) asK (fun(c:ae) hp hb=> ?_)
 have dK:=sK (x:=c) (hb _ m0)
 have bC:bj c:=hp _ m0
 clear hp hb
 apply @ve _ (let x1:List BA:=[{data:= #[(97:UInt8)]:BA},{data:= #[(98:UInt8)]:BA}];let x2:ae:=aa (aa c 2) 3;let x0:ae:=bS (aa c 2) x1;let q0:=aa c 2;bj c/\bif b8 c 2 then 0<=q0.i/\List.length q0.b<=4294967296/\(0:Nat)=(0:Nat)/\ap [DV.agg [CI 1,CI (IntKind.wrap IntKind.i64 (1+ag q0 3)),CS ({data:= #[]:BA})]]=ap [DV.agg [CI ((dR c).K),CI ((dR c).N),CS ((dR c).S)]]/\ap [DV.box [CL .byte x2.b,CI x2.i,CI x2.h]]=ap [DV.box [CL .byte (ew c).b,CI ((ew c).i),CI ((ew c).h)]] else bj q0/\1<=x1.length/\(0:Nat)=(0:Nat)/\ap [DV.agg [CI 2,CI 0,CS (cv q0 x1)]]=ap [DV.agg [CI ((dR c).K),CI ((dR c).N),CS ((dR c).S)]]/\ap [DV.box [CL .byte x0.b,CI x0.i,CI x0.h]]=ap [DV.box [CL .byte (ew c).b,CI ((ew c).i),CI ((ew c).h)]]) (by kernel_rfl)
 dsimp only
 refine⟨bC,af (fun h=> ?_) (fun h=> ?_)⟩
 ·have hb:=br (c:=aa c 2) (n:=3) (by omega)
  have h2:=aq bC 2
  rw[wrap_i64 (by omega) (by omega)]
  rw[dR,ew,if_pos h,if_pos h];exact⟨h2.1,h2.2,rfl,rfl,rfl⟩
 ·have h2:=aq bC 2
  rw[dR,ew,if_neg (by simp[h]),if_neg (by simp[h])];exact⟨h2,by simp,rfl,rfl,rfl⟩
def SF:HH:=⟨_,aqt⟩
def R4:bp UU where
 α:=ae
 md:=[.box false]
 of:=o1 oU
 ds:=fun x=>[dU x]
 pre:=fun c=>[bj c]
 bT:=fun c=>⟨[dA .aM (kK c)],[],[dU (jt c)]⟩
 law:=l1 lU
def aki:R4.α->Nat->Option (bY UU):=fun c=>aN []
def afe:=us [zv,Eb,q_]
theorem ag3:Holds EE (141,R4):=by
 refine holds_of ax func141 R4 (by kernel_rfl) afe (aE _) aki (fun(c:ae) hp hb=> ?_)
 have dK:=sK (x:=c) (hb _ m0)
 have bC:bj c:=hp _ m0
 clear hp hb
 apply @ve _ (let x1:List BA:=[{data:= #[]:BA},{data:= #[(97:UInt8)]:BA},{data:= #[(98:UInt8)]:BA},{data:= #[(112:UInt8),(97:UInt8),(105:UInt8),(100:UInt8)]:BA},{data:= #[(120:UInt8),(95:UInt8),(49:UInt8)]:BA}];let x5:List Int:=[0,1,2,3,(-1),1000000000,(-1000000000)];let x0:ae:=bS (aa c 2) x1;let x4:Nat:=x5.length;let x3:Int:=(↑x4:Int);let x2:ae:=aa (aa c 2) x3;let q0:=aa c 2;bj c/\bif b8 c 2 then 0<=q0.i/\List.length q0.b<=4294967296/\1<=x4/\(0:Nat)=(0:Nat)/\ap [DV.agg [CI 1,CI (List.getD x5 (Int.toNat (ag q0 x3)) 0),CS ({data:= #[]:BA})]]=ap [DV.agg [CI ((kK c).K),CI ((kK c).N),CS ((kK c).S)]]/\ap [DV.box [CL .byte x2.b,CI x2.i,CI x2.h]]=ap [DV.box [CL .byte (jt c).b,CI ((jt c).i),CI ((jt c).h)]] else bj q0/\1<=x1.length/\(0:Nat)=(0:Nat)/\ap [DV.agg [CI 2,CI 0,CS (cv q0 x1)]]=ap [DV.agg [CI ((kK c).K),CI ((kK c).N),CS ((kK c).S)]]/\ap [DV.box [CL .byte x0.b,CI x0.i,CI x0.h]]=ap [DV.box [CL .byte (jt c).b,CI ((jt c).i),CI ((jt c).h)]]) (by kernel_rfl)
 dsimp only
 have h2:=aq bC 2
 refine⟨bC,af (fun h=> ?_) (fun h=> ?_)⟩
 ·rw[kK,jt,if_pos h,if_pos h];exact⟨h2.1,h2.2,by simp,rfl,rfl,rfl⟩
 ·rw[kK,jt,if_neg (by simp[h]),if_neg (by simp[h])];exact⟨h2,by simp,rfl,rfl,rfl⟩
def WJ:HH:=⟨_,ag3⟩
def ZT:bp UU where
 α:=ae
 md:=[.box false]
 of:=o1 oU
 ds:=fun x=>[dU x]
 pre:=fun c=>[bj c]
 bT:=fun c=>⟨[dA .aM (ie c)],[],[dU (gM c)]⟩
 law:=l1 lU
def asB:ZT.α->Nat->Option (bY UU):=fun c=>aN []
def ao0:=us [WJ,mL,Eb,q_]
theorem aqm:Holds EE (90,ZT):=by
 refine holds_of ax func90 ZT (by kernel_rfl) ao0 (aE _) asB (fun(c:ae) hp hb=> ?_)
 have dK:=sK (x:=c) (hb _ m0)
 have bC:bj c:=hp _ m0
 clear hp hb
 apply @ve _ (let x1:List BA:=[{data:= #[(65:UInt8)]:BA},{data:= #[(97:UInt8),(32:UInt8),(98:UInt8)]:BA},{data:= #[(116:UInt8),(119:UInt8),(101:UInt8),(110:UInt8),(116:UInt8),(121:UInt8),(111:UInt8),(110:UInt8),(101:UInt8),(98:UInt8),(121:UInt8),(116:UInt8),(101:UInt8),(115:UInt8),(116:UInt8),(119:UInt8),(101:UInt8),(110:UInt8),(116:UInt8),(121:UInt8),(111:UInt8)]:BA},{data:= #[(120:UInt8)]:BA}];let x2:ae:=aa (jt c) 10;let x6:List Int:=[1000000001,5];let x0:ae:=bS x2 x1;let x5:Nat:=x6.length;let x4:Int:=(↑x5:Int);let x3:ae:=aa x2 x4;bj c/\0<=(jt c).i/\List.length (jt c).b<=4294967296/\bif ag (jt c) (10:Int)==(0:Int) then 0<=x2.i/\x2.b.length<=4294967296/\(0:Nat)=(0:Nat)/\ap [DV.agg [CI (ag x2 4),CI ((kK c).N),CS ((kK c).S)]]=ap [DV.agg [CI ((ie c).K),CI ((ie c).N),CS ((ie c).S)]]/\ap [DV.box [CL .byte (aa x2 4).b,CI ((aa x2 4).i),CI ((aa x2 4).h)]]=ap [DV.box [CL .byte (gM c).b,CI ((gM c).i),CI ((gM c).h)]] else bif ag (jt c) (10:Int)==(1:Int) then 0<=x2.i/\x2.b.length<=4294967296/\1<=x5/\(0:Nat)=(0:Nat)/\ap [DV.agg [CI ((kK c).K),CI (List.getD x6 (Int.toNat (ag x2 x4)) 0),CS ((kK c).S)]]=ap [DV.agg [CI ((ie c).K),CI ((ie c).N),CS ((ie c).S)]]/\ap [DV.box [CL .byte x3.b,CI x3.i,CI x3.h]]=ap [DV.box [CL .byte (gM c).b,CI ((gM c).i),CI ((gM c).h)]] else bif ag (jt c) (10:Int)==(2:Int) then bj x2/\1<=x1.length/\(0:Nat)=(0:Nat)/\ap [DV.agg [CI ((kK c).K),CI ((kK c).N),CS (cv x2 x1)]]=ap [DV.agg [CI ((ie c).K),CI ((ie c).N),CS ((ie c).S)]]/\ap [DV.box [CL .byte x0.b,CI x0.i,CI x0.h]]=ap [DV.box [CL .byte (gM c).b,CI ((gM c).i),CI ((gM c).h)]] else(0:Nat)=(0:Nat)/\ap [DV.agg [CI ((kK c).K),CI ((kK c).N),CS ((kK c).S)]]=ap [DV.agg [CI ((ie c).K),CI ((ie c).N),CS ((ie c).S)]]/\ap [DV.box [CL .byte x2.b,CI x2.i,CI x2.h]]=ap [DV.box [CL .byte (gM c).b,CI ((gM c).i),CI ((gM c).h)]]) (by kernel_rfl)
 dsimp only
 have h2:=AJ bC
 have h3:=aq h2 10
 refine⟨bC,h2.1,h2.2,af (fun h=> ?_) (fun h=>af (fun h'=> ?_) (fun h'=>af (fun n9=> ?_) (fun n9=> ?_)))⟩
 ·have h:=eq_of_beq h
  have e1:ie c=⟨ag (aa (jt c) 10) 4,(kK c).N,(kK c).S⟩:=by simp only[ie,h,if_true]
  have e2:gM c=aa (aa (jt c) 10) 4:=by simp only[gM,h,if_true]
  rw[e1,e2];exact⟨h3.1,h3.2,rfl,rfl,rfl⟩
 ·have h:¬ag (jt c) 10=0:=by simpa using h
  have h':=eq_of_beq h'
  have e1:ie c=⟨(kK c).K,gL (aa (jt c) 10) L2,(kK c).S⟩:=by simp only[ie];rw[if_neg h,if_pos h']
  have e2:gM c=j9 (aa (jt c) 10) L2:=by simp only[gM];rw[if_neg h,if_pos h']
  rw[e1,e2];exact⟨h3.1,h3.2,by simp,rfl,rfl,rfl⟩
 ·have h:¬ag (jt c) 10=0:=by simpa using h
  have h':¬ag (jt c) 10=1:=by simpa using h'
  have n9:=eq_of_beq n9
  have e1:ie c=⟨(kK c).K,(kK c).N,cv (aa (jt c) 10) Il⟩:=by simp only[ie];rw[if_neg h,if_neg h',if_pos n9]
  have e2:gM c=bS (aa (jt c) 10) Il:=by simp only[gM];rw[if_neg h,if_neg h',if_pos n9]
  rw[e1,e2];exact⟨h3,by simp,rfl,rfl,rfl⟩
 ·have h:¬ag (jt c) 10=0:=by simpa using h
  have h':¬ag (jt c) 10=1:=by simpa using h'
  have n9:¬ag (jt c) 10=2:=by simpa using n9
  have e1:ie c=kK c:=by simp only[ie];rw[if_neg h,if_neg h',if_neg n9]
  have e2:gM c=aa (jt c) 10:=by simp only[gM];rw[if_neg h,if_neg h',if_neg n9]
  rw[e1,e2];exact⟨rfl,rfl,rfl⟩
def ahK:HH:=⟨_,aqm⟩
def Z5:bp UU where
 α:=ae
 md:=[.box false]
 of:=o1 oU
 ds:=fun x=>[dU x]
 pre:=fun c=>[bj c]
 bT:=fun c=>⟨[dA .bP (cP c)],[],[dU (cq c)]⟩
 law:=l1 lU
def mG(c:ae):Int×T6×T6×T3×Unit->Prop:=fun(i,r,f,cu,_)=>0<=i/\i<=fw c/\f.1=cv c cM/\bj ⟨cu.1,cu.2.1,cu.2.2.1⟩/\f.2.1.length<=i/\rr (fw c-i).toNat f.2.1 ⟨cu.1,cu.2.1,cu.2.2.1⟩=(cP c).aj/\Au (fw c-i).toNat ⟨cu.1,cu.2.1,cu.2.2.1⟩=cq c
def ni(c:ae):Int×T6×T6×T3×Unit->Nat:=fun(i,r,f,cu,_)=>(fw c-i).toNat
def asP:Z5.α->Nat->Option (bY UU):=fun c=>aN [(8,bh [.slot 5 (5,1024) (.lit (.int .i64)),.box 2 (2,1024) [.lit .str,.own .aM true],.box 3 (3,1024) [.lit .str,.own .aM true],.box 0 (2000000,0) [.shr .byte,.lit (.int .i64),.lit (.int .i64)]] (fun _=>mG c) (ni c))]
def apa:=us [q_,zv,mL,SF]
theorem aqz:Holds EE (77,Z5):=by
 refine holds_of ax func77 Z5 (by kernel_rfl) apa (aE _) asP (fun(c:ae) hp hb=> ?_)
 have dK:=sK (x:=c) (hb _ m0)
 have bC:bj c:=hp _ m0
 clear hp hb
 apply @ve _ (let x3:BA:={data:= #[(111:UInt8),(114:UInt8),(100:UInt8),(101:UInt8),(114:UInt8)]:BA};let x4:BA:={data:= #[(105:UInt8),(116:UInt8),(101:UInt8),(109:UInt8)]:BA};let x2:List BA:=[x3,{data:= #[(112:UInt8),(97:UInt8),(105:UInt8),(100:UInt8)]:BA},x4,x3];let x1:ae:=bS c x2;let x0:ae:=aa x1 12;let q0:=BA×List aQ×PUnit;let q1:=(0,({data:= #[]:BA},[],()),(cv c x2,[],()),((aa x0 6).b,(aa x0 6).i,(aa x0 6).h,()),());let q2:=(0,({data:= #[]:BA},[],()),(cv c x2,[],()),(x0.b,x0.i,x0.h,()),());let q3:=List Int×Int×Int×PUnit;let q4:=(cP c).Kind;bj c/\1<=x2.length/\bif ByteArray.toList (cv c x2)==ByteArray.toList x4 then bj x1/\bif b8 x1 12 then 0<=x0.i/\x0.b.length<=4294967296/\mG c q1/\∀(y:Int×q0×q0×q3×PUnit),let x6:ae:={b:=y.2.2.2.1.1,i:=y.2.2.2.1.2.1,h:=y.2.2.2.1.2.2.1:ae};let x5:ae:=ew x6;let q5:=(IntKind.wrap IntKind.i64 (y.1+1),(y.2.1.1,y.2.1.2.1,()),(y.2.2.1.1,y.2.2.1.2.1++[dR x6],()),(x5.b,x5.i,x5.h,()),());mG c y->bif decide (y.1<ag x0 6) then bj x6/\y.2.2.1.2.1.length+List.length [dR x6]<=4294967296/\mG c q5/\ni c q5<ni c y else(0:Nat)=(0:Nat)/\ap [DV.agg [CS y.2.2.1.1,CL .aM y.2.2.1.2.1]]=ap [DV.agg [CS q4,CL .aM (cP c).aj]]/\ap [DV.box [CL .byte y.2.2.2.1.1,CI y.2.2.2.1.2.1,CI y.2.2.2.1.2.2.1]]=ap [DV.box [CL .byte (cq c).b,CI ((cq c).i),CI ((cq c).h)]] else mG c q2/\∀(y:Int×q0×q0×q3×PUnit),let x6:ae:={b:=y.2.2.2.1.1,i:=y.2.2.2.1.2.1,h:=y.2.2.2.1.2.2.1:ae};let x5:ae:=ew x6;let q6:=(IntKind.wrap IntKind.i64 (y.1+1),(y.2.1.1,y.2.1.2.1,()),(y.2.2.1.1,y.2.2.1.2.1++[dR x6],()),(x5.b,x5.i,x5.h,()),());mG c y->bif decide (y.1<2) then bj x6/\y.2.2.1.2.1.length+List.length [dR x6]<=4294967296/\mG c q6/\ni c q6<ni c y else(0:Nat)=(0:Nat)/\ap [DV.agg [CS y.2.2.1.1,CL .aM y.2.2.1.2.1]]=ap [DV.agg [CS q4,CL .aM (cP c).aj]]/\ap [DV.box [CL .byte y.2.2.2.1.1,CI y.2.2.2.1.2.1,CI y.2.2.2.1.2.2.1]]=ap [DV.box [CL .byte (cq c).b,CI ((cq c).i),CI ((cq c).h)]] else bj x1/\bif b8 x1 12 then 0<=x0.i/\x0.b.length<=4294967296/\mG c q1/\∀(y:Int×q0×q0×q3×PUnit),let x6:ae:={b:=y.2.2.2.1.1,i:=y.2.2.2.1.2.1,h:=y.2.2.2.1.2.2.1:ae};let x5:ae:=ew x6;let q7:=(IntKind.wrap IntKind.i64 (y.1+1),(y.2.1.1,y.2.1.2.1,()),(y.2.2.1.1,y.2.2.1.2.1++[dR x6],()),(x5.b,x5.i,x5.h,()),());mG c y->bif decide (y.1<ag x0 6) then bj x6/\y.2.2.1.2.1.length+List.length [dR x6]<=4294967296/\mG c q7/\ni c q7<ni c y else(0:Nat)=(0:Nat)/\ap [DV.agg [CS y.2.2.1.1,CL .aM y.2.2.1.2.1]]=ap [DV.agg [CS q4,CL .aM (cP c).aj]]/\ap [DV.box [CL .byte y.2.2.2.1.1,CI y.2.2.2.1.2.1,CI y.2.2.2.1.2.2.1]]=ap [DV.box [CL .byte (cq c).b,CI ((cq c).i),CI ((cq c).h)]] else mG c q2/\∀(y:Int×q0×q0×q3×PUnit),let x6:ae:={b:=y.2.2.2.1.1,i:=y.2.2.2.1.2.1,h:=y.2.2.2.1.2.2.1:ae};let x5:ae:=ew x6;let q8:=(IntKind.wrap IntKind.i64 (y.1+1),(y.2.1.1,y.2.1.2.1,()),(y.2.2.1.1,y.2.2.1.2.1++[dR x6],()),(x5.b,x5.i,x5.h,()),());mG c y->bif decide (y.1<1) then bj x6/\y.2.2.1.2.1.length+List.length [dR x6]<=4294967296/\mG c q8/\ni c q8<ni c y else(0:Nat)=(0:Nat)/\ap [DV.agg [CS y.2.2.1.1,CL .aM y.2.2.1.2.1]]=ap [DV.agg [CS q4,CL .aM (cP c).aj]]/\ap [DV.box [CL .byte y.2.2.2.1.1,CI y.2.2.2.1.2.1,CI y.2.2.2.1.2.2.1]]=ap [DV.box [CL .byte (cq c).b,CI ((cq c).i),CI ((cq c).h)]]) (by kernel_rfl)
 dsimp only
 have hk:=fh bC cM
 have hd:=FH bC
 have hle:=xk c
 have fin:∀(n:Int)(d:ae),fw c=n->xl c=d->
   mG c ((0:Int),(ai,[],PUnit.unit),(cv c cM,[],PUnit.unit),(d.b,d.i,d.h,PUnit.unit),PUnit.unit):=by
  rintro n d rfl rfl
  exact⟨by omega,by omega,rfl,hd,by simp,by simp only[Int.sub_zero];rfl,by simp only[Int.sub_zero];rfl⟩
 refine⟨bC,by simp,?_⟩
 refine af (fun h=>⟨hk,af (fun h'=>⟨(aq hk 12).1,(aq hk 12).2,?_⟩) (fun h'=> ?_)⟩) (fun h=>⟨hk,af (fun h'=>⟨(aq hk 12).1,(aq hk 12).2,?_⟩) (fun h'=> ?_)⟩)
 ·have hN:fw c=ag (aa (bS c cM) 12) 6:=if_pos h'
  have hD:xl c=aa (aa (bS c cM) 12) 6:=if_pos h'
  refine⟨fin _ _ hN hD,?_⟩
  have hN':ag (aa (bS c cM) 12) 6=fw c:=hN.symm
  rintro⟨i,r,⟨fk,fl,⟨⟩⟩,⟨cb,ci,ch,⟨⟩⟩,⟨⟩⟩ ⟨g1,g2,g3,g4,g5,g6,g7⟩
  simp only at g1 g2 g3 g4 g5 g6 g7⊢
  refine af (fun hc=> ?_) (fun hc=> ?_)
  ·have hc:i<fw c:=by rw[hN];exact yT hc
   have e:(fw c-i).toNat=(fw c-(i+1)).toNat+1:=by omega
   rw[e] at g6 g7
   rw[wrap_i64 (by omega) (by omega)]
   exact⟨g4,by simp only[gv,fO];omega,⟨by omega,by omega,g3,kx g4,by simp only[kg,gv,fO];omega,g6,g7⟩,by simp only[ni];omega⟩
  ·have hc:¬i<fw c:=by rw[hN];exact yF hc
   have e:(fw c-i).toNat=0:=by omega
   rw[e] at g6 g7
   have g6:fl=(cP c).aj:=g6
   have g7:(⟨cb,ci,ch⟩:ae)=cq c:=g7
   have g3:fk=(cP c).Kind:=g3
   rw[<-g7,<-g6,<-g3]
   exact⟨by trivial,rfl,rfl⟩
 ·have h:cv c cM=DL:=by rw[bx] at h;exact yT h
  have hN:fw c=2:=by rw[fw,if_neg (by rw[show b8 (bS c cM) 12=false from h'];simp),if_pos h]
  have hD:xl c=aa (bS c cM) 12:=if_neg (by rw[show b8 (bS c cM) 12=false from h'];simp)
  refine⟨fin _ _ hN hD,?_⟩
  rintro⟨i,r,⟨fk,fl,⟨⟩⟩,⟨cb,ci,ch,⟨⟩⟩,⟨⟩⟩ ⟨g1,g2,g3,g4,g5,g6,g7⟩
  simp only at g1 g2 g3 g4 g5 g6 g7⊢
  refine af (fun hc=> ?_) (fun hc=> ?_)
  ·have hc:i<fw c:=by rw[hN];exact yT hc
   have e:(fw c-i).toNat=(fw c-(i+1)).toNat+1:=by omega
   rw[e] at g6 g7
   rw[wrap_i64 (by omega) (by omega)]
   exact⟨g4,by simp only[gv,fO];omega,⟨by omega,by omega,g3,kx g4,by simp only[kg,gv,fO];omega,g6,g7⟩,by simp only[ni];omega⟩
  ·have hc:¬i<fw c:=by rw[hN];exact yF hc
   have e:(fw c-i).toNat=0:=by omega
   rw[e] at g6 g7
   have g6:fl=(cP c).aj:=g6
   have g7:(⟨cb,ci,ch⟩:ae)=cq c:=g7
   have g3:fk=(cP c).Kind:=g3
   rw[<-g7,<-g6,<-g3]
   exact⟨by trivial,rfl,rfl⟩
 ·have hN:fw c=ag (aa (bS c cM) 12) 6:=if_pos h'
  have hD:xl c=aa (aa (bS c cM) 12) 6:=if_pos h'
  refine⟨fin _ _ hN hD,?_⟩
  have hN':ag (aa (bS c cM) 12) 6=fw c:=hN.symm
  rintro⟨i,r,⟨fk,fl,⟨⟩⟩,⟨cb,ci,ch,⟨⟩⟩,⟨⟩⟩ ⟨g1,g2,g3,g4,g5,g6,g7⟩
  simp only at g1 g2 g3 g4 g5 g6 g7⊢
  refine af (fun hc=> ?_) (fun hc=> ?_)
  ·have hc:i<fw c:=by rw[hN];exact yT hc
   have e:(fw c-i).toNat=(fw c-(i+1)).toNat+1:=by omega
   rw[e] at g6 g7
   rw[wrap_i64 (by omega) (by omega)]
   exact⟨g4,by simp only[gv,fO];omega,⟨by omega,by omega,g3,kx g4,by simp only[kg,gv,fO];omega,g6,g7⟩,by simp only[ni];omega⟩
  ·have hc:¬i<fw c:=by rw[hN];exact yF hc
   have e:(fw c-i).toNat=0:=by omega
   rw[e] at g6 g7
   have g6:fl=(cP c).aj:=g6
   have g7:(⟨cb,ci,ch⟩:ae)=cq c:=g7
   have g3:fk=(cP c).Kind:=g3
   rw[<-g7,<-g6,<-g3]
   exact⟨by trivial,rfl,rfl⟩
 ·have h:¬cv c cM=DL:=by rw[bx] at h;exact yF h
  have hN:fw c=1:=by rw[fw,if_neg (by rw[show b8 (bS c cM) 12=false from h'];simp),if_neg h]
  have hD:xl c=aa (bS c cM) 12:=if_neg (by rw[show b8 (bS c cM) 12=false from h'];simp)
  refine⟨fin _ _ hN hD,?_⟩
  rintro⟨i,r,⟨fk,fl,⟨⟩⟩,⟨cb,ci,ch,⟨⟩⟩,⟨⟩⟩ ⟨g1,g2,g3,g4,g5,g6,g7⟩
  simp only at g1 g2 g3 g4 g5 g6 g7⊢
  refine af (fun hc=> ?_) (fun hc=> ?_)
  ·have hc:i<fw c:=by rw[hN];exact yT hc
   have e:(fw c-i).toNat=(fw c-(i+1)).toNat+1:=by omega
   rw[e] at g6 g7
   rw[wrap_i64 (by omega) (by omega)]
   exact⟨g4,by simp only[gv,fO];omega,⟨by omega,by omega,g3,kx g4,by simp only[kg,gv,fO];omega,g6,g7⟩,by simp only[ni];omega⟩
  ·have hc:¬i<fw c:=by rw[hN];exact yF hc
   have e:(fw c-i).toNat=0:=by omega
   rw[e] at g6 g7
   have g6:fl=(cP c).aj:=g6
   have g7:(⟨cb,ci,ch⟩:ae)=cq c:=g7
   have g3:fk=(cP c).Kind:=g3
   rw[<-g7,<-g6,<-g3]
   exact⟨by trivial,rfl,rfl⟩
def SH:HH:=⟨_,aqz⟩
def ZW:bp UU where
 α:=ae
 md:=[.box false]
 of:=o1 oU
 ds:=fun x=>[dU x]
 pre:=fun c=>[bj c]
 bT:=fun c=>⟨[dA .bP (oa c)],[],[dU (fG c)]⟩
 law:=l1 lU
def Hw(c:ae):T6×T6×T3×Unit->Prop:=fun(r,f,cu,_)=>f.1=(cP c).Kind/\bj ⟨cu.1,cu.2.1,cu.2.2.1⟩/\vP f.2.1 ⟨cu.1,cu.2.1,cu.2.2.1⟩=vP (cP c).aj (aa (cq c) 10)
def G9(c:ae):T6×T6×T3×Unit->Nat:=fun(r,f,cu,_)=>6-f.2.1.length
def asG:ZW.α->Nat->Option (bY UU):=fun c=>aN [(8,bh [.box 2 (2,1024) [.lit .str,.own .aM true],.box 3 (3,1024) [.lit .str,.own .aM true],.box 0 (2000000,0) [.shr .byte,.lit (.int .i64),.lit (.int .i64)]] (fun _=>Hw c) (G9 c))]
def ao3:=us [SH,mL,q_,ahK,WJ]
theorem aqp:Holds EE (87,ZW):=by
 refine holds_of ax func87 ZW (by kernel_rfl) ao3 (aE _) asG (fun(c:ae) hp hb=> ?_)
 have dK:=sK (x:=c) (hb _ m0)
 have bC:bj c:=hp _ m0
 clear hp hb
 apply @ve _ (let x1:List BA:=[{data:= #[]:BA},{data:= #[(65:UInt8)]:BA},{data:= #[(116:UInt8),(104:UInt8),(105:UInt8),(114:UInt8),(116:UInt8),(101:UInt8),(101:UInt8),(110:UInt8),(98:UInt8),(121:UInt8),(116:UInt8),(101:UInt8),(115:UInt8)]:BA},{data:= #[(120:UInt8)]:BA}];let x2:ae:=aa (cq c) 10;let x0:ae:=bS x2 x1;let q0:=(oa c).Kind;bj c/\0<=(cq c).i/\List.length (cq c).b<=4294967296/\bif ag (cq c) (10:Int)==(0:Int) then bj x2/\1<=x1.length/\(0:Nat)=(0:Nat)/\ap [DV.agg [CS (cv x2 x1),CL .aM (cP c).aj]]=ap [DV.agg [CS q0,CL .aM (oa c).aj]]/\ap [DV.box [CL .byte x0.b,CI x0.i,CI x0.h]]=ap [DV.box [CL .byte (fG c).b,CI ((fG c).i),CI ((fG c).h)]] else bif ag (cq c) (10:Int)==(1:Int) then bj x2/\List.length (cP c).aj+List.length [ie x2]<=4294967296/\(0:Nat)=(0:Nat)/\ap [DV.agg [CS ((cP c).Kind),CL .aM ((cP c).aj++[ie x2])]]=ap [DV.agg [CS q0,CL .aM (oa c).aj]]/\ap [DV.box [CL .byte (gM x2).b,CI ((gM x2).i),CI ((gM x2).h)]]=ap [DV.box [CL .byte (fG c).b,CI ((fG c).i),CI ((fG c).h)]] else bif ag (cq c) (10:Int)==(2:Int) then Hw c (({data:= #[]:BA},[],()),((cP c).Kind,(cP c).aj,()),(x2.b,x2.i,x2.h,()),())/\∀(y:WW×WW×MB×PUnit),let x5:ae:={b:=y.2.2.1.1,i:=y.2.2.1.2.1,h:=y.2.2.1.2.2.1:ae};let x7:Nat:=y.2.1.2.1.length;let x3:ae:=aa x5 2;let x4:Int:=IntKind.wrap IntKind.i64 (5+ag x5 2);let x6:Int:=(↑x7:Int);let q1:=((y.1.1,y.1.2.1,()),(y.2.1.1,y.2.1.2.1++[kK x3],()),((jt x3).b,(jt x3).i,(jt x3).h,()),());Hw c y->0<=y.2.2.1.2.1/\y.2.2.1.1.length<=4294967296/\bif decide (x6<x4) then bj x3/\x7+List.length [kK x3]<=4294967296/\Hw c q1/\G9 c q1<G9 c y else(0:Nat)=(0:Nat)/\ap [DV.agg [CS y.2.1.1,CL .aM y.2.1.2.1]]=ap [DV.agg [CS q0,CL .aM (oa c).aj]]/\ap [DV.box [CL .byte x3.b,CI x3.i,CI x3.h]]=ap [DV.box [CL .byte (fG c).b,CI ((fG c).i),CI ((fG c).h)]] else(0:Nat)=(0:Nat)/\ap [DV.agg [CS ((cP c).Kind),CL .aM (cP c).aj]]=ap [DV.agg [CS q0,CL .aM (oa c).aj]]/\ap [DV.box [CL .byte x2.b,CI x2.i,CI x2.h]]=ap [DV.box [CL .byte (fG c).b,CI ((fG c).i),CI ((fG c).h)]]) (by kernel_rfl)
 dsimp only
 have h2:=li bC
 have h3:=aq h2 10
 have hle:=xk c
 have hl5:(cP c).aj.length<=5:=by rw[y9];omega
 refine⟨bC,h2.1,h2.2,af (fun h=> ?_) (fun h=>af (fun h'=> ?_) (fun h'=>af (fun n9=> ?_) (fun n9=> ?_)))⟩
 ·have h:=eq_of_beq h
  have e1:oa c=⟨cv (aa (cq c) 10) Cu,(cP c).aj⟩:=by simp only[oa,h,if_true]
  have e2:fG c=bS (aa (cq c) 10) Cu:=by simp only[fG,h,if_true]
  rw[e1,e2];exact⟨h3,by simp,rfl,rfl,rfl⟩
 ·have h:¬ag (cq c) 10=0:=by simpa using h
  have h':=eq_of_beq h'
  have e1:oa c=⟨(cP c).Kind,(cP c).aj++[ie (aa (cq c) 10)]⟩:=by simp only[oa];rw[if_neg h,if_pos h']
  have e2:fG c=gM (aa (cq c) 10):=by simp only[fG];rw[if_neg h,if_pos h']
  rw[e1,e2];exact⟨h3,by simp only[gv,fO];omega,rfl,rfl,rfl⟩
 ·have h:¬ag (cq c) 10=0:=by simpa using h
  have h':¬ag (cq c) 10=1:=by simpa using h'
  have n9:=eq_of_beq n9
  have e1:oa c=⟨(cP c).Kind,(vP (cP c).aj (aa (cq c) 10)).1⟩:=by simp only[oa];rw[if_neg h,if_neg h',if_pos n9]
  have e2:fG c=(vP (cP c).aj (aa (cq c) 10)).2:=by simp only[fG];rw[if_neg h,if_neg h',if_pos n9]
  rw[e1,e2]
  refine⟨⟨rfl,h3,rfl⟩,?_⟩
  rintro⟨r,⟨fk,fl,⟨⟩⟩,⟨cb,ci,ch,⟨⟩⟩,⟨⟩⟩ ⟨g1,g2,g3⟩
  simp only at g1 g2 g3⊢
  have hb:=br (c:=⟨cb,ci,ch⟩) (n:=2) (by omega)
  rw[wrap_i64 (n:=5+ag ⟨cb,ci,ch⟩ 2) (by omega) (by omega)]
  refine⟨g2.1,g2.2,af (fun hc=> ?_) (fun hc=> ?_)⟩
  ·have hc:=yT hc
   rw[CH hc] at g3
   exact⟨aq g2 2,by simp only[gv,fO];omega,⟨g1,AJ (aq g2 2),g3⟩,by simp only[G9,kg,gv,fO];omega⟩
  ·have hc:=yF hc
   rw[Gl hc] at g3
   rw[<-g3,<-g1]
   exact⟨by trivial,rfl,rfl⟩
 ·have h:¬ag (cq c) 10=0:=by simpa using h
  have h':¬ag (cq c) 10=1:=by simpa using h'
  have n9:¬ag (cq c) 10=2:=by simpa using n9
  have e1:oa c=cP c:=by simp only[oa];rw[if_neg h,if_neg h',if_neg n9]
  have e2:fG c=aa (cq c) 10:=by simp only[fG];rw[if_neg h,if_neg h',if_neg n9]
  rw[e1,e2];exact⟨rfl,rfl,rfl⟩
def aa7:HH:=⟨_,aqp⟩
def Zk4:bp UU where
 α:=(List Int)
 md:=[.ro]
 of:=o1 (oL .byte)
 ds:=fun x=>[dL .byte x]
 pre:=fun _=>[]
 bT:=fun code=>⟨[dO (decide (code.length>1048576))],[],[]⟩
 law:=l1 (lL .byte)
def Za4:Zk4.α->Nat->Option (bY UU):=fun code=>aN []
def Zu4:List (FuncId×bp UU):=[]
theorem Zo4:Holds EE (4,Zk4):=by
 refine holds_of ax func4 Zk4 (by kernel_rfl) Zu4 all_nil Za4 (fun(code:(List Int)) hp hb=> ?_)
 have uq:code.length<=9223372036854775807:=jO (hb _ m0)
 clear hp hb
 apply @ve _ (Lb (decide ((code.length:Int)>1048576)) (decide (code.length>1048576))) (by kernel_rfl)
 exact cj (decide_eq_decide.2 (by omega))
def Zh4:HH:=⟨_,Zo4⟩
theorem oK(c:ae):bR (dR c)=true:=by
 unfold dR;split
 ·have:=br (c:=aa c 2) (n:=3) (by omega)
  simp only[bR,decide_true,cond_true,EL]
  simp only[decide_eq_true_eq];omega
 ·have h:=d_ (aa c 2) (l:=F6) (fun s=>decide (s.size<=20)&&pU s) (by decide) (by rfl)
  simp only[bR]
  simpa using h
theorem zF{p:aQ->Bool}(hp:∀c,p (dR c)=true):∀(k:Nat)(l:List aQ)(c:ae),l.all p=true->(rr k l c).all p=true
 |0,_,_,h=>h
 |k+1,l,c,h=>zF hp k _ _ (by rw[List.all_append,h];simp[hp])
theorem nP(c:ae):bI (cP c)=true:=by
 have h1:=y9 c
 have h2:=xk c
 have h3:bm (cP c).Kind=true:=d_ c (l:=cM) bm (by decide) (by rfl)
 have h4:(cP c).aj.all bR=true:=zF oK _ _ _ rfl
 simp only[bI,h3,h4,EL,u_,decide_eq_true_eq]
 omega
def Cb(v:aQ):Bool:=decide (v.S.size<=21)
def Zp(f:aJ):Prop:=f.Kind.size<=13/\f.aj.length<=6/\f.aj.all Cb=true
theorem EP{v:aQ}(h:bR v=true):Cb v=true:=by
 simp only[bR] at h
 simp only[Cb,decide_eq_true_eq]
 by_cases h1:v.K=1
 ·simp[h1] at h;rw[h.2];simp[ai]
 ·by_cases h2:v.K=2
  ·simp[h2] at h;omega
  ·simp[h1,h2] at h
theorem H9(c:ae):Cb (kK c)=true:=by
 unfold kK;split
 ·rfl
 ·exact d_ (aa c 2) (l:=OI) (fun s=>decide (s.size<=21)) (by decide) (by rfl)
theorem FN(c:ae):Cb (ie c)=true:=by
 have h:=H9 c
 simp only[ie];split
 ·exact h
 ·split
  ·exact h
  ·split
   ·exact d_ _ (l:=Il) (fun s=>decide (s.size<=21)) (by decide) (by rfl)
   ·exact h
theorem Gn{f:aJ}(h:bI f=true):Zp f:=by
 obtain⟨h1,h2,h3,h4⟩:=jN h
 exact⟨by omega,by omega,rh.2 fun v hv=>EP (rh.1 h2 v hv)⟩
theorem CJ{l:List aQ}{c:ae}(h:l.all Cb=true)(hl:l.length<=6):(vP l c).1.all Cb=true/\(vP l c).1.length<=6:=by
 have hb:=br (c:=c) (n:=2) (by omega)
 by_cases hn:(l.length:Int)<5+ag c 2
 ·rw[CH hn]
  refine CJ (l:=l++[kK (aa c 2)]) ?_ ?_
  ·rw[List.all_append,h];simp[H9]
  ·simp only[kg,gv,fO];omega
 ·rw[Gl hn];exact⟨h,hl⟩
termination_by 6-l.length
decreasing_by
 simp only[kg,gv,fO];omega
theorem DM(c:ae):Zp (oa c):=by
 obtain⟨h1,h2,h3⟩:=Gn (nP c)
 have h5:=(jN (nP c)).1
 simp only[oa];split
 ·refine⟨?_,h2,h3⟩
  have:=d_ (aa (cq c) 10) (l:=Cu) (fun s=>decide (s.size<=13)) (by decide) (by rfl)
  simpa using this
 ·split
  ·exact⟨h1,by simp only[kg,gv,fO];omega,by rw[List.all_append,h3];simp[FN]⟩
  ·split
   ·exact⟨h1,(CJ h3 h2).2,(CJ h3 h2).1⟩
   ·exact⟨h1,h2,h3⟩
theorem yl:∀{l:List aQ},l.all Cb=true->gy l<=22*l.length
 |[],_=>by simp[gy]
 |x::l,h=>by
  simp only[Om,cK] at h
  have h1:=yl h.2
  have h2:=h.1
  simp only[Cb,decide_eq_true_eq] at h2
  simp only[gy,gv,uY,Ki,nq] at h1⊢
  omega
theorem xi{f:aJ}(h:Zp f):eg f<=145:=by
 obtain⟨h1,h2,h3⟩:=h
 have:=yl h3
 simp only[eg];omega
theorem Xt{α:Type}(f:α->Nat)(B:Nat):∀(l:List α),(∀x∈l,f x<=B)->(l.map f).sum<=l.length*B
 |[],_=>by simp
 |x::l,h=>by
  have h1:=Xt f B l (fun y hy=>h y (cA _ hy))
  have h2:=h x gj
  simp only[uY,Ki,gv,wz];omega
theorem Ce{l:List bu}{B:Nat}(h:∀u∈l,ed u<=B):dt l<=l.length*(B+1):=by
 have:=Xt ed B l h
 simp only[dt,Nat.mul_add];omega
theorem zQ{s:BA}(h:bm s=true):s.size<=12:=by
 simp only[bm,cK,decide_eq_true_eq] at h;omega
theorem wO{l:List bu}{t:ak}{B:Nat}(hB:400<=B)(h:∀u∈l,ed u<=B):∀u∈(cz l t).1,ed u<=B:=by
 unfold cz;split
 ·rename_i hc
  simp only[kw,cK] at hc
  intro u hu
  rcases jr.1 hu with hu|hu
  ·exact h u hu
  ·rw[ma.1 hu]
   have h1:=vv t.F
   have h2:=zQ hc.1.1.2
   have h3:=yl (Gn hc.1.1.1.2).2.2
   have h4:=(Gn hc.1.1.1.2).2.1
   simp only[ed,eg];omega
 ·exact h
theorem wP(l:List bu)(t:ak):(cz l t).1.length<=l.length+1:=by
 unfold cz;split<;>simp
def OJ:List BA:=[⟨#[114,101,102,117,110,100]⟩,⟨#[99,97,110,99,101,108]⟩]
def ET(c:ae):ak:=⟨cP c,cv (cq c) OJ,0,0,0,dx⟩
def OB(c:ae):ae:=bS (cq c) OJ
theorem FF{c:ae}(h:bj c):bj (OB c):=fh (li h) _
def vw:Nat->List bu->ae->List bu×ae
 |0,l,c=>(l,c)
 |k+1,l,c=>vw k (cz l (ET c)).1 (OB c)
theorem JC:∀(k:Nat){l:List bu}{c:ae},bj c->(∀u∈l,ed u<=400)->bj (vw k l c).2/\(∀u∈(vw k l c).1,ed u<=400)/\(vw k l c).1.length<=l.length+k
 |0,_,_,h,h2=>⟨h,h2,by simp[vw]⟩
 |k+1,l,c,h,h2=>by
  obtain⟨h3,h4,h5⟩:=JC k (FF h) (wO (t:=ET c) (s_ 400) h2)
  have:=wP l (ET c)
  exact⟨h3,h4,by simp only[vw];omega⟩
def cJ(c:ae):List bu:=(vw (ag c 5).toNat [] (aa c 5)).1
def eN(c:ae):ae:=(vw (ag c 5).toNat [] (aa c 5)).2
theorem H'{c:ae}(h:bj c):bj (eN c)/\(∀u∈cJ c,ed u<=400)/\(cJ c).length<=4:=by
 have hb:=br (c:=c) (n:=5) (by omega)
 obtain⟨h1,h2,h3⟩:=JC (ag c 5).toNat (l:=[]) (aq h 5) (by simp)
 exact⟨h1,h2,by simp only[fO] at h3;simp only[cJ];omega⟩
def bX:BA:=⟨#[120]⟩
def CY(l:List bu):List BA:=[ai,(List.getD l 0 ck).Key,bX]
noncomputable def qY(c:ae):List bu:=let l:=cJ c;if l=[] then l else
 let k:=ag (eN c) l.length;let d:=aa (eN c) l.length;let s:=ag d 8;let e:=aa d 8
 if s=0 then l.modify k.toNat (fun u=>⟨cv e (CY l),u.F⟩) else if s=1 then l.modify k.toNat (fun u=>⟨u.Key,oa e⟩) else l
noncomputable def iP(c:ae):ae:=let l:=cJ c;if l=[] then eN c else
 let d:=aa (eN c) l.length;let s:=ag d 8;let e:=aa d 8
 if s=0 then bS e (CY l) else if s=1 then fG e else e
theorem U4{l:List bu}{B:Nat}(h:∀u∈l,ed u<=B):(List.getD l 0 ck).Key.size<=B:=by
 cases l with
 |nil=>simp[ck,ai]
 |cons x r=>have:=h x gj;simp only[ed] at this;simp only[List.getD_cons_zero];omega
theorem rG{α:Type}{p:α->Prop}(f:α->α)(hf:∀x,p x->p (f x)):∀(l:List α)(k:Nat),(∀x∈l,p x)->∀x∈l.modify k f,p x
 |[],k,h=>by simp
 |x::l,0,h=>by
  intro y hy
  simp only[List.modify_zero_cons,jQ] at hy
  rcases hy with rfl|hy
  ·exact hf x (h x gj)
  ·exact h y (cA _ hy)
 |x::l,k+1,h=>by
  intro y hy
  simp only[List.modify_succ_cons,jQ] at hy
  rcases hy with rfl|hy
  ·exact h y gj
  ·exact rG f hf l k (fun z hz=>h z (cA _ hz)) y hy
theorem tO{a a':List bu}(h:a=a'):ap ([DV.one (Cell.sl Cd.aT a)]:List (DV UU))=ap ([DV.one (Cell.sl Cd.aT a')]:List (DV UU)):=by rw[h]
def FX(u:bu):Prop:=u.Key.size<=400/\eg u.F<=400
theorem Tu{u:bu}(h:ed u<=400):FX u:=by simp only[ed] at h;exact⟨by omega,by omega⟩
theorem MG{u:bu}(h:FX u):ed u<=800:=by obtain⟨h1,h2⟩:=h;simp only[ed];omega
theorem Ux{l:List bu}(k:Nat){key:BA}(hk:key.size<=400)(h:∀u∈l,FX u):∀u∈l.modify k (fun u=>(⟨key,u.F⟩:bu)),FX u:=
 rG (p:=FX) (fun u=>(⟨key,u.F⟩:bu)) (fun u hu=>⟨hk,hu.2⟩) l k h
theorem adb{l:List bu}(k:Nat){f:aJ}(hk:eg f<=400)(h:∀u∈l,FX u):∀u∈l.modify k (fun u=>(⟨u.Key,f⟩:bu)),FX u:=
 rG (p:=FX) (fun u=>(⟨u.Key,f⟩:bu)) (fun u hu=>⟨hu.1,hk⟩) l k h
theorem Vo{c:ae}(h:bj c):bj (iP c)/\(∀u∈qY c,ed u<=800)/\(qY c).length<=4:=by
 obtain⟨h1,h2,h3⟩:=H' h
 have Ma:∀u∈cJ c,FX u:=fun u hu=>Tu (h2 u hu)
 have he:=aq (aq h1 (cJ c).length) 8
 refine⟨?_,fun u hu=>MG ?_,?_⟩
 ·simp only[iP];split
  ·exact h1
  ·split
   ·exact fh he _
   ·split
    ·exact JN he
    ·exact he
 ·revert u
  simp only[qY];split
  ·exact Ma
  ·split
   ·refine Ux _ ?_ Ma
    have hk:=If (aa (aa (eN c) (cJ c).length) 8) (l:=CY (cJ c)) (by simp[CY])
    simp only[CY,jQ,LA,or_false] at hk
    show(cv _ (CY (cJ c))).size<=400
    rcases hk with hk|hk|hk
    ·simp only[CY];rw[hk];simp[ai]
    ·simp only[CY];rw[hk];exact U4 h2
    ·simp only[CY];rw[hk];decide
   ·split
    ·exact adb _ (wu (xi (DM _)) (by omega)) Ma
    ·exact Ma
 ·simp only[qY];split
  ·omega
  ·split
   ·simp only[J8];omega
   ·split
    ·simp only[J8];omega
    ·omega
def ZS:bp UU where
 α:=ae
 md:=[.box false]
 of:=o1 oU
 ds:=fun x=>[dU x]
 pre:=fun c=>[bj c]
 bT:=fun c=>⟨[dL .aT (cJ c)],[],[dU (eN c)]⟩
 law:=l1 lU
def Hv(c:ae):List bu×Int×T3×Unit->Prop:=fun(l,i,cu,_)=>0<=i/\i<=4/\bj ⟨cu.1,cu.2.1,cu.2.2.1⟩/\(∀u∈l,ed u<=400)/\l.length+i<=4/\vw i.toNat l ⟨cu.1,cu.2.1,cu.2.2.1⟩=vw (ag c 5).toNat [] (aa c 5)
def G8(c:ae):List bu×Int×T3×Unit->Nat:=fun(l,i,cu,_)=>i.toNat
def asA:ZS.α->Nat->Option (bY UU):=fun c=>aN [(3,bh [.slot 3 (3,1024) (.own .aT true),.slot 4 (4,1024) (.lit (.int .i64)),.box 0 (2000000,0) [.shr .byte,.lit (.int .i64),.lit (.int .i64)]] (fun _=>Hv c) (G8 c))]
def aoZ:=us [mL,SH,q_,WI]
theorem aql:Holds EE (91,ZS):=by
 refine holds_of ax func91 ZS (by kernel_rfl) aoZ (aE _) asA (fun(c:ae) hp hb=> ?_)
 have dK:=sK (x:=c) (hb _ m0)
 have bC:bj c:=hp _ m0
 clear hp hb
 apply @ve _ (let x0:List BA:=[{data:= #[(114:UInt8),(101:UInt8),(102:UInt8),(117:UInt8),(110:UInt8),(100:UInt8)]:BA},{data:= #[(99:UInt8),(97:UInt8),(110:UInt8),(99:UInt8),(101:UInt8),(108:UInt8)]:BA}];0<=c.i/\c.b.length<=4294967296/\Hv c ([],ag c 5,((aa c 5).b,(aa c 5).i,(aa c 5).h,()),())/\∀(y:List bu×Int×MB×PUnit),let x3:ae:={b:=y.2.2.1.1,i:=y.2.2.1.2.1,h:=y.2.2.1.2.2.1:ae};let x2:ae:=cq x3;let x1:ae:=bS x2 x0;let q0:=((cz {τ:=Cd.aT,xs:=y.1:iX UU}.xs {F:={Kind:=(cP x3).Kind,aj:={τ:=Cd.aM,xs:=(cP x3).aj:iX UU}.xs:aJ},aW:=cv x2 x0,State:=(0:Int),bE:=(0:Int),kf:=(0:Int),V:={K:=(0:Int),N:=(0:Int),S:={data:= #[]:BA}:aQ}:ak}).1,IntKind.wrap IntKind.i64 (y.2.1-1),(x1.b,x1.i,x1.h,()),());Hv c y->bif decide (y.2.1>0) then bj x3/\bj x2/\1<=x0.length/\dt y.1<=4294967296/\List.length (cP x3).aj<=4294967296/\Hv c q0/\G8 c q0<G8 c y else(0:Nat)=(0:Nat)/\ap [VL .aT y.1]=ap [VL .aT (cJ c)]/\ap [DV.box [CL .byte y.2.2.1.1,CI y.2.2.1.2.1,CI y.2.2.1.2.2.1]]=ap [DV.box [CL .byte (eN c).b,CI ((eN c).i),CI ((eN c).h)]]) (by kernel_rfl)
 dsimp only
 have hb:=br (c:=c) (n:=5) (by omega)
 refine⟨bC.1,bC.2,⟨by omega,by omega,aq bC 5,by simp,by simp only[fO];omega,rfl⟩,?_⟩
 rintro⟨l,i,⟨cb,ci,ch,⟨⟩⟩,⟨⟩⟩ ⟨g1,g2,g3,g4,g5,g6⟩
 simp only at g1 g2 g3 g4 g5 g6⊢
 refine af (fun hc=> ?_) (fun hc=> ?_)
 ·have hc:=yT hc
  have e:i.toNat=(i-1).toNat+1:=by omega
  rw[e] at g6
  have hs:=Ce g4
  have hf:=li g3
  have hl:=(jN (nP ⟨cb,ci,ch⟩)).1
  have hq:=wP l (ET ⟨cb,ci,ch⟩)
  rw[wrap_i64 (by omega) (by omega)]
  refine⟨g3,hf,by simp,by omega,by omega,⟨by omega,by omega,FF g3,wO (t:=ET ⟨cb,ci,ch⟩) (s_ 400) g4,?_,g6⟩,by simp only[G8];omega⟩
  have hq':((cz l (ET ⟨cb,ci,ch⟩)).1.length:Int)<=l.length+1:=by omega
  exact Int.le_trans (Int.add_le_add_right hq' (i-1)) (by omega)
 ·have hc:=yF hc
  have e:i.toNat=0:=by omega
  rw[e] at g6
  have g7:l=cJ c:=congrArg Prod.fst g6
  have g8:(⟨cb,ci,ch⟩:ae)=eN c:=congrArg Prod.snd g6
  rw[<-g7,<-g8]
  exact⟨by trivial,rfl,rfl⟩
def arL:HH:=⟨_,aql⟩
def aax:bp UU where
 α:=ae
 md:=[.box false]
 of:=o1 oU
 ds:=fun x=>[dU x]
 pre:=fun c=>[bj c]
 bT:=fun c=>⟨[dL .aT (qY c)],[],[dU (iP c)]⟩
 law:=l1 lU
def ati:aax.α->Nat->Option (bY UU):=fun c=>aN []
def apF:=us [arL,mL,q_,aa7]
theorem aq5:Holds EE (45,aax):=by
 refine holds_of ax func45 aax (by kernel_rfl) apF (aE _) ati (fun(c:ae) hp hb=> ?_)
 have dK:=sK (x:=c) (hb _ m0)
 have bC:bj c:=hp _ m0
 clear hp hb
 apply @ve _ (let x2:List BA:=[{data:= #[]:BA},(List.getD (cJ c) (nat_lit 0) ck).Key,{data:= #[(120:UInt8)]:BA}];let x5:Int:=(↑(List.length (cJ c)):Int);let x3:ae:=aa (eN c) x5;let x4:Nat:=Int.toNat (ag (eN c) x5);let x1:ae:=aa x3 8;let x0:ae:=bS x1 x2;bj c/\bif x5==0 then(0:Nat)=(0:Nat)/\ap [VL .aT (cJ c)]=ap [VL .aT (qY c)]/\ap [DV.box [CL .byte (eN c).b,CI ((eN c).i),CI ((eN c).h)]]=ap [DV.box [CL .byte (iP c).b,CI ((iP c).i),CI ((iP c).h)]] else 0<=(eN c).i/\List.length (eN c).b<=4294967296/\0<=x3.i/\x3.b.length<=4294967296/\bif ag x3 (8:Int)==(0:Int) then(0:Int)<=(0:Int)/\Int.toNat 0<List.length (cJ c)/\nat_lit 0<List.length (cJ c)/\bj x1/\1<=x2.length/\0<=ag (eN c) x5/\x4<List.length (cJ c)/\x4<List.length (cJ c)/\(0:Nat)=(0:Nat)/\ap [VL .aT (List.modify (cJ c) x4 fun(x:bu)=>{Key:=cv x1 x2,F:=x.F:bu})]=ap [VL .aT (qY c)]/\ap [DV.box [CL .byte x0.b,CI x0.i,CI x0.h]]=ap [DV.box [CL .byte (iP c).b,CI ((iP c).i),CI ((iP c).h)]] else bif ag x3 (8:Int)==(1:Int) then bj x1/\0<=ag (eN c) x5/\x4<List.length (cJ c)/\x4<List.length (cJ c)/\(0:Nat)=(0:Nat)/\ap [VL .aT (List.modify (cJ c) x4 fun(x:bu)=>{Key:=x.Key,F:=oa x1:bu})]=ap [VL .aT (qY c)]/\ap [DV.box [CL .byte (fG x1).b,CI ((fG x1).i),CI ((fG x1).h)]]=ap [DV.box [CL .byte (iP c).b,CI ((iP c).i),CI ((iP c).h)]] else(0:Nat)=(0:Nat)/\ap [VL .aT (cJ c)]=ap [VL .aT (qY c)]/\ap [DV.box [CL .byte x1.b,CI x1.i,CI x1.h]]=ap [DV.box [CL .byte (iP c).b,CI ((iP c).i),CI ((iP c).h)]]) (by kernel_rfl)
 dsimp only
 obtain⟨h1,h2,h3⟩:=H' bC
 refine⟨bC,af (fun h=> ?_) (fun h=> ?_)⟩
 ·have h:cJ c=[]:=Em (by have:=eq_of_beq h;omega)
  have e1:qY c=cJ c:=by simp only[qY];rw[if_pos h]
  have e2:iP c=eN c:=by simp only[iP];rw[if_pos h]
  rw[e2];exact⟨by trivial,tO e1.symm,rfl⟩
 have hn:¬cJ c=[]:=by intro e;rw[e] at h;simp at h
 have hl:0<(cJ c).length:=List.length_pos_iff.2 hn
 have hb:=br (c:=eN c) (n:=(cJ c).length) (by omega)
 have hd:=aq h1 (cJ c).length
 have he:=aq hd 8
 refine⟨h1.1,h1.2,hd.1,hd.2,af (fun g=> ?_) (fun g=>af (fun g'=> ?_) (fun g'=> ?_))⟩
 ·have g:=eq_of_beq g
  have e1:qY c=(cJ c).modify (ag (eN c) (cJ c).length).toNat (fun u=>⟨cv (aa (aa (eN c) (cJ c).length) 8) (CY (cJ c)),u.F⟩):=by simp only[qY];rw[if_neg hn,if_pos g]
  have e2:iP c=bS (aa (aa (eN c) (cJ c).length) 8) (CY (cJ c)):=by simp only[iP];rw[if_neg hn,if_pos g]
  rw[e2]
  exact⟨by omega,by simpa using hl,hl,he,by simp,hb.1,by omega,by omega,by trivial,tO e1.symm,rfl⟩
 ·have g:¬ag (aa (eN c) (cJ c).length) 8=0:=by simpa using g
  have g':=eq_of_beq g'
  have e1:qY c=(cJ c).modify (ag (eN c) (cJ c).length).toNat (fun u=>⟨u.Key,oa (aa (aa (eN c) (cJ c).length) 8)⟩):=by simp only[qY];rw[if_neg hn,if_neg g,if_pos g']
  have e2:iP c=fG (aa (aa (eN c) (cJ c).length) 8):=by simp only[iP];rw[if_neg hn,if_neg g,if_pos g']
  rw[e2]
  repeat' (first|exact tO e1.symm|exact rfl|refine And.intro (by first|exact tO e1.symm|exact he|exact hb.1|omega|trivial) ?_)
 ·have g:¬ag (aa (eN c) (cJ c).length) 8=0:=by simpa using g
  have g':¬ag (aa (eN c) (cJ c).length) 8=1:=by simpa using g'
  have e1:qY c=cJ c:=by simp only[qY];rw[if_neg hn,if_neg g,if_neg g']
  have e2:iP c=aa (aa (eN c) (cJ c).length) 8:=by simp only[iP];rw[if_neg hn,if_neg g,if_neg g']
  rw[e2];exact⟨by trivial,tO e1.symm,rfl⟩
def ar9:HH:=⟨_,aq5⟩
theorem LL(now:Int)(t:ak):(fR now t).F=t.F:=by unfold fR;split;split<;>rfl;rfl
theorem OG{now:Int}(h0:0<=now)(h1:now<=1000000000)(t:ak)(h:fY t=true):fY (fR now t)=true:=by
 obtain⟨a1,a2,a3,a4,a5,a6,a7⟩:=fX.1 h
 unfold fR;split
 ·split
  ·exact fX.2 ⟨a1,a2,by simp,a4,a5,a6,by simp⟩
  ·have hb:=DJ (t.bE+1)
   exact fX.2 ⟨a1,a2,by simp,by simp only;omega,by simp only;omega,a6,by simp only;omega⟩
 ·exact h
theorem rm{l:List ak}{now:Int}(h0:0<=now)(h1:now<=1000000000)(h:bc l=true):bc (l.map (fR now))=true:=zD (LL now) (OG h0 h1) h
theorem Kp(l:List ak)(f:aJ)(u:BA)(now:Int):(fZ l f u now).1.length<=l.length+1:=by
 unfold fZ;split
 ·simp
 ·split<;>simp
theorem MT(l:List ak)(key:BA)(ok:Bool)(v:aQ):(bt l key ok v).1.length=l.length:=by
 unfold bt;split
 ·split<;>simp
 ·rfl
def Ic(t:ak):Prop:=eg t.F<=145/\t.aW.size<=21/\Cb t.V=true
theorem Tz{t:ak}(h:fY t=true):Ic t:=by
 obtain⟨a1,a2,a3,a4,a5,a6,a7⟩:=fX.1 h
 refine⟨xi (Gn a1),?_,?_⟩
 ·simp only[fH,Ee,decide_eq_true_eq] at a2
  rcases a2 with a2|a2
  ·rw[a2];simp[ai]
  ·have:=zQ a2;omega
 ·rcases a6 with a6|a6
  ·rw[a6];rfl
  ·exact EP a6
theorem MH{t:ak}(h:Ic t):nE t<=187:=by
 obtain⟨h1,h2,h3⟩:=h
 simp only[Cb,decide_eq_true_eq] at h3
 simp only[nE,nq];omega
theorem Kn{l:List ak}(h:∀t∈l,Ic t):gW l<=l.length*188:=by
 have:=Xt nE 187 l (fun t ht=>MH (h t ht))
 simp only[gW];omega
def sLu:List BA:=[⟨#[]⟩,⟨#[114,101,102,117,110,100]⟩]
def dT1(l:List ak)(now:Int)(d:ae):List ak:=(fZ l (cP d) (cv (cq d) sLu) now).1
def dT3(l:List ak)(d:ae):List ak:=
 let e:=aa d l.length
 (bt l (bU (List.getD l (ag d l.length).toNat aR).F) (!b8 e 3) (dR (aa e 3))).1
def dT(l:List ak)(now:Int)(c:ae):List ak:=
 let k:=ag c 4;let d:=aa c 4
 if k=0\/k=1 then dT1 l now d else if k=2 then l.map (fR (now+ag d 40)) else if 0<l.length then dT3 l d else l
def dN(now:Int)(c:ae):Int:=if ag c 4=2 then now+ag (aa c 4) 40 else now
def dC(n:Nat)(c:ae):ae:=
 let k:=ag c 4;let d:=aa c 4
 if k=0\/k=1 then bS (cq d) sLu else if k=2 then aa d 40 else if 0<n then ew (aa (aa d n) 3) else d
def vx:Nat->List ak->Int->ae->List ak×ae
 |0,l,_,c=>(l,c)
 |k+1,l,now,c=>vx k (dT l now c) (dN now c) (dC l.length c)
theorem QB{n:Nat}{c:ae}(h:bj c):bj (dC n c):=by
 have h4:=aq h 4
 simp only[dC];split
 ·exact fh (li h4) _
 ·split
  ·exact aq h4 _
  ·split
   ·exact kx (aq (aq h4 _) _)
   ·exact h4
theorem Oy(c:ae):fH (cv c sLu)=true:=d_ c fH (by decide) (by rfl)
theorem Wq(now:Int)(c:ae):now<=dN now c/\dN now c<=now+39:=by
 have:=br (c:=aa c 4) (n:=40) (by omega)
 unfold dN;split<;>omega
theorem Wp{l:List ak}{now:Int}{c:ae}(h:bc l=true)(h0:0<=now)(h1:now<=1000):bc (dT l now c)=true/\(dT l now c).length<=l.length+1:=by
 have hb:=br (c:=aa c 4) (n:=40) (by omega)
 simp only[dT];split
 ·exact⟨np h (nP _) (Oy _) h0 (by omega),Kp _ _ _ _⟩
 ·split
  ·exact⟨rm (by omega) (by omega) h,by simp⟩
  ·split
   ·exact⟨qn h,by simp only[dT3];rw[MT];omega⟩
   ·exact⟨h,by omega⟩
theorem JD:∀(k:Nat){l:List ak}{now:Int}{c:ae},bj c->bc l=true->0<=now->now+39*k<=1000->bj (vx k l now c).2/\bc (vx k l now c).1=true/\(vx k l now c).1.length<=l.length+k
 |0,_,_,_,h,h2,_,_=>⟨h,h2,by simp[vx]⟩
 |k+1,l,now,c,h,h2,h3,h4=>by
  have hn:=Wq now c
  obtain⟨t1,t2⟩:=Wp (c:=c) h2 h3 (by omega)
  obtain⟨h3,h4,h5⟩:=JD k (l:=dT l now c) (now:=dN now c) (c:=dC l.length c) (QB h) t1 (by omega) (by omega)
  exact⟨h3,h4,by simp only[vx];omega⟩
def cR(c:ae):List ak:=(vx (ag c 8).toNat [] 0 (aa c 8)).1
def gG(c:ae):ae:=(vx (ag c 8).toNat [] 0 (aa c 8)).2
theorem Ib{c:ae}(h:bj c):bj (gG c)/\bc (cR c)=true/\(cR c).length<=7:=by
 have hb:=br (c:=c) (n:=8) (by omega)
 obtain⟨h1,h2,h3⟩:=JD (ag c 8).toNat (l:=[]) (now:=0) (aq h 8) rfl (by omega) (by omega)
 exact⟨h1,h2,by simp only[fO] at h3;simp only[cR];omega⟩
theorem zS{a b:Int}{P Q:Prop}(h1:a=b->P)(h2:¬a=b->Q):bif a==b then P else Q:=af (fun h=>h1 (eq_of_beq h)) (fun h=>h2 (fun e=>by rw[e] at h;simp at h))
theorem aoI{l:List ak}{now:Int}{c:ae}(h:ag c 4=0\/ag c 4=1):dT l now c=dT1 l now (aa c 4)/\dN now c=now/\dC l.length c=bS (cq (aa c 4)) sLu:=
 ⟨by simp only[dT];rw[if_pos h],by rw[dN,if_neg (by omega)],by simp only[dC];rw[if_pos h]⟩
theorem aoH{l:List ak}{now:Int}{c:ae}(h:ag c 4=2):dT l now c=l.map (fR (now+ag (aa c 4) 40))/\dN now c=now+ag (aa c 4) 40/\dC l.length c=aa (aa c 4) 40:=
 ⟨by simp only[dT];rw[if_neg (by omega),if_pos h],by rw[dN,if_pos h],by simp only[dC];rw[if_neg (by omega),if_pos h]⟩
theorem aoG{l:List ak}{now:Int}{c:ae}(h0:¬ag c 4=0)(h1:¬ag c 4=1)(h2:¬ag c 4=2)(hl:0<l.length):dT l now c=dT3 l (aa c 4)/\dN now c=now/\dC l.length c=ew (aa (aa (aa c 4) l.length) 3):=
 ⟨by simp only[dT];rw[if_neg (by omega),if_neg h2,if_pos hl],by rw[dN,if_neg h2],by simp only[dC];rw[if_neg (by omega),if_neg h2,if_pos hl]⟩
theorem aoF{l:List ak}{now:Int}{c:ae}(h0:¬ag c 4=0)(h1:¬ag c 4=1)(h2:¬ag c 4=2)(hl:¬0<l.length):dT l now c=l/\dN now c=now/\dC l.length c=aa c 4:=
 ⟨by simp only[dT];rw[if_neg (by omega),if_neg h2,if_neg hl],by rw[dN,if_neg h2],by simp only[dC];rw[if_neg (by omega),if_neg h2,if_neg hl]⟩
def ZU:bp UU where
 α:=ae
 md:=[.box false]
 of:=o1 oU
 ds:=fun x=>[dU x]
 pre:=fun c=>[bj c]
 bT:=fun c=>⟨[dL .aA (cR c)],[],[dU (gG c)]⟩
 law:=l1 lU
def tW(c:ae):List ak×Int×Int×T3×Unit->Prop:=fun(l,now,i,cu,_)=>0<=i/\i<=7/\0<=now/\now+39*i<=1000/\bj ⟨cu.1,cu.2.1,cu.2.2.1⟩/\bc l=true/\vx i.toNat l now ⟨cu.1,cu.2.1,cu.2.2.1⟩=vx (ag c 8).toNat [] 0 (aa c 8)
def od(c:ae):List ak×Int×Int×T3×Unit->Nat:=fun(l,now,i,cu,_)=>i.toNat
def asC:ZU.α->Nat->Option (bY UU):=fun c=>aN [(4,bh [.slot 3 (3,1024) (.own .aA true),.slot 4 (4,1024) (.lit (.int .i64)),.slot 5 (5,1024) (.lit (.int .i64)),.box 0 (2000000,0) [.shr .byte,.lit (.int .i64),.lit (.int .i64)]] (fun _=>tW c) (od c))]
def ao1:=us [mL,SH,q_,SR,WM,SG,zv,SF,WL]
theorem aqn:Holds EE (89,ZU):=by
 refine holds_of ax func89 ZU (by kernel_rfl) ao1 (aE _) asC (fun(c:ae) hp hb=> ?_)
 have dK:=sK (x:=c) (hb _ m0)
 have bC:bj c:=hp _ m0
 clear hp hb
 apply @ve _ (let x0:List BA:=[{data:= #[]:BA},{data:= #[(114:UInt8),(101:UInt8),(102:UInt8),(117:UInt8),(110:UInt8),(100:UInt8)]:BA}];0<=c.i/\c.b.length<=4294967296/\tW c ([],0,ag c 8,((aa c 8).b,(aa c 8).i,(aa c 8).h,()),())/\∀(y:List ak×Int×Int×MB×PUnit),let x3:ae:={b:=y.2.2.2.1.1,i:=y.2.2.2.1.2.1,h:=y.2.2.2.1.2.2.1:ae};let x4:Int:=IntKind.wrap IntKind.i64 (y.2.2.1-1);let x9:Int:=(y.1.length:Int);let x1:ae:=aa x3 4;let x2:Int:=ag x3 4;let x5:Int:=IntKind.wrap IntKind.i64 (y.2.1+ag x1 40);let x8:ae:=aa (aa x1 x9) 3;let x6:aQ:=dR x8;let x7:ae:=ew x8;let q0:=bif x2==2 then 0<=x1.i/\x1.b.length<=4294967296/\bc y.1=true/\(0<=x5/\x5<=1000000000)/\tW c (List.map (fR x5) y.1,x5,x4,((aa x1 40).b,(aa x1 40).i,(aa x1 40).h,()),())/\od c (List.map (fR x5) y.1,x5,x4,((aa x1 40).b,(aa x1 40).i,(aa x1 40).h,()),())<od c y else bif decide (x9>0) then 0<=x1.i/\x1.b.length<=4294967296/\0<=ag x1 x9/\Int.toNat (ag x1 x9)<y.1.length/\Int.toNat (ag x1 x9)<y.1.length/\Int.toNat (ag x1 x9)<y.1.length/\bj (aa x1 x9)/\bj x8/\bc y.1=true/\bR x6=true/\tW c ((bt {τ:=Cd.aA,xs:=y.1:iX UU}.xs (bU (List.getD y.1 (Int.toNat (ag x1 x9)) aR).F) (!b8 (aa x1 x9) 3) {K:=x6.K,N:=x6.N,S:=x6.S:aQ}).1,y.2.1,x4,(x7.b,x7.i,x7.h,()),())/\od c ((bt {τ:=Cd.aA,xs:=y.1:iX UU}.xs (bU (List.getD y.1 (Int.toNat (ag x1 x9)) aR).F) (!b8 (aa x1 x9) 3) {K:=x6.K,N:=x6.N,S:=x6.S:aQ}).1,y.2.1,x4,(x7.b,x7.i,x7.h,()),())<od c y else tW c (y.1,y.2.1,x4,(x1.b,x1.i,x1.h,()),())/\od c (y.1,y.2.1,x4,(x1.b,x1.i,x1.h,()),())<od c y;let q1:=((fZ {τ:=Cd.aA,xs:=y.1:iX UU}.xs {Kind:=(cP x1).Kind,aj:={τ:=Cd.aM,xs:=(cP x1).aj:iX UU}.xs:aJ} (cv (cq x1) x0) y.2.1).1,y.2.1,x4,((bS (cq x1) x0).b,(bS (cq x1) x0).i,(bS (cq x1) x0).h,()),());let q2:=bj x1/\bj (cq x1)/\1<=x0.length/\List.length (cP x1).aj<=4294967296/\tW c q1/\od c q1<od c y;tW c y->bif decide (y.2.2.1>0) then 0<=y.2.2.2.1.2.1/\y.2.2.2.1.1.length<=4294967296/\bif x2==0 then bif x2==0 then q2 else q0 else bif x2==1 then q2 else q0 else(0:Nat)=(0:Nat)/\ap [VL .aA y.1]=ap [VL .aA (cR c)]/\ap [DV.box [CL .byte y.2.2.2.1.1,CI y.2.2.2.1.2.1,CI y.2.2.2.1.2.2.1]]=ap [DV.box [CL .byte (gG c).b,CI ((gG c).i),CI ((gG c).h)]]) (by kernel_rfl)
 dsimp only
 have hb:=br (c:=c) (n:=8) (by omega)
 refine⟨bC.1,bC.2,⟨by omega,by omega,by omega,by omega,aq bC 8,rfl,rfl⟩,?_⟩
 rintro⟨l,now,i,⟨cb,ci,ch,⟨⟩⟩,⟨⟩⟩ ⟨g1,g2,g3,g4,g5,g6,g7⟩
 simp only at g1 g2 g3 g4 g5 g6 g7⊢
 refine af (fun hc=> ?_) (fun hc=> ?_)
 ·have hc:=yT hc
  have e:i.toNat=(i-1).toNat+1:=by omega
  rw[e] at g7
  refine⟨g5.1,g5.2,?_⟩
  generalize ED:(⟨cb,ci,ch⟩:ae)=cu at*
  have h4:=aq g5 4
  have hl:=(jN (nP (aa cu 4))).1
  have hd:=br (c:=aa cu 4) (n:=40) (by omega)
  have hn:=Wq now cu
  obtain⟨t1,t2⟩:=Wp (c:=cu) g6 g3 (by omega)
  have fin:∀(l':List ak)(Ya:Int)(Zz:ae),l'=dT l now cu->Ya=dN now cu->Zz=dC l.length cu->
    tW c (l',Ya,i-1,(Zz.b,Zz.i,Zz.h,PUnit.unit),PUnit.unit)/\od c (l',Ya,i-1,(Zz.b,Zz.i,Zz.h,PUnit.unit),PUnit.unit)<od c (l,now,i,(cb,ci,ch,PUnit.unit),PUnit.unit):=by
   rintro _ _ _ rfl rfl rfl
   exact⟨⟨by omega,by omega,by omega,by omega,QB g5,t1,g7⟩,by simp only[od];omega⟩
  rw[wrap_i64 (n:=i-1) (by omega) (by omega),wrap_i64 (n:=now+ag (aa cu 4) 40) (by omega) (by omega)]
  repeat' (refine zS (fun h=> ?_) (fun h=> ?_))
  all_goals first
   |(exfalso;omega)
   |(obtain⟨q1,q2,q3⟩:=aoI (l:=l) (now:=now) (c:=cu) (by omega)
     exact⟨h4,li h4,by simp,by omega,fin _ _ _ q1.symm q2.symm q3.symm⟩)
   |(obtain⟨q1,q2,q3⟩:=aoH (l:=l) (now:=now) (c:=cu) (by omega)
     exact⟨h4.1,h4.2,g6,⟨by omega,by omega⟩,fin _ _ _ q1.symm q2.symm q3.symm⟩)
   |skip
  all_goals refine af (fun hl=> ?_) (fun hl=> ?_)
  ·have hl:=yT hl
   obtain⟨q1,q2,q3⟩:=aoG (l:=l) (now:=now) (c:=cu) (by omega) (by omega) (by omega) (by omega)
   have hj:=br (c:=aa cu 4) (n:=l.length) (by omega)
   have h5:=aq h4 l.length
   have h6:=aq h5 3
   exact⟨h4.1,h4.2,hj.1,by omega,by omega,by omega,h5,h6,g6,oK _,fin _ _ _ q1.symm q2.symm q3.symm⟩
  ·have hl:=yF hl
   obtain⟨q1,q2,q3⟩:=aoF (l:=l) (now:=now) (c:=cu) (by omega) (by omega) (by omega) (by omega)
   exact fin _ _ _ q1.symm q2.symm q3.symm
 ·have hc:=yF hc
  have e:i.toNat=0:=by omega
  rw[e] at g7
  have g8:l=cR c:=congrArg Prod.fst g7
  have g9:(⟨cb,ci,ch⟩:ae)=gG c:=congrArg Prod.snd g7
  rw[<-g8,<-g9]
  exact⟨by trivial,rfl,rfl⟩
def arM:HH:=⟨_,aqn⟩
def Ct:List BA:=[⟨#[]⟩,⟨#[65]⟩,⟨#[117,110,100,111]⟩]
def Ax:List Int:=[-1,0,4,5]
def L1:List Int:=[-1,1000001000,1000001001]
def asF(f:aJ)(x:ak):ak:=⟨f,x.aW,x.State,x.bE,x.kf,x.V⟩
def QJ(u:BA)(x:ak):ak:=⟨x.F,u,x.State,x.bE,x.kf,x.V⟩
def Mq(n:Int)(x:ak):ak:=⟨x.F,x.aW,n,x.bE,x.kf,x.V⟩
def Mp(n:Int)(x:ak):ak:=⟨x.F,x.aW,x.State,n,x.kf,x.V⟩
def Wt(n:Int)(x:ak):ak:=⟨x.F,x.aW,x.State,x.bE,n,x.V⟩
def asV(v:aQ)(x:ak):ak:=⟨x.F,x.aW,x.State,x.bE,x.kf,v⟩
noncomputable def mS(s:Int)(e:ae)(x:ak):ak:=
 if s=0 then asF (oa e) x else if s=1 then QJ (cv e Ct) x else if s=2 then Mq (ag e 6) x else if s=3 then Mp (gL e Ax) x else if s=4 then Wt (gL e L1) x else if s=5 then asV (ie e) x else x
noncomputable def lj(s:Int)(e:ae):ae:=
 if s=0 then fG e else if s=1 then bS e Ct else if s=2 then aa e 6 else if s=3 then j9 e Ax else if s=4 then j9 e L1 else if s=5 then gM e else e
noncomputable def qZ(c:ae):List ak:=if cR c=[] then cR c else
 (cR c).modify (ag (gG c) (cR c).length).toNat (mS (ag (aa (gG c) (cR c).length) 14) (aa (aa (gG c) (cR c).length) 14))
noncomputable def l7(c:ae):ae:=if cR c=[] then gG c else
 lj (ag (aa (gG c) (cR c).length) 14) (aa (aa (gG c) (cR c).length) 14)
theorem QC{s:Int}{e:ae}(h:bj e):bj (lj s e):=by
 unfold lj
 repeat' split
 ·exact JN h
 ·exact fh h _
 ·exact aq h _
 ·exact ky h _
 ·exact ky h _
 ·exact JM h
 ·exact h
theorem QE{s:Int}{e:ae}{x:ak}(h:Ic x):Ic (mS s e x):=by
 obtain⟨h1,h2,h3⟩:=h
 unfold mS
 repeat' split
 ·exact⟨xi (DM e),h2,h3⟩
 ·refine⟨h1,?_,h3⟩
  have:=d_ e (l:=Ct) (fun s=>decide (s.size<=21)) (by decide) (by rfl)
  exact yT this
 ·exact⟨h1,h2,h3⟩
 ·exact⟨h1,h2,h3⟩
 ·exact⟨h1,h2,h3⟩
 ·exact⟨h1,h2,FN e⟩
 ·exact⟨h1,h2,h3⟩
theorem Vp{c:ae}(h:bj c):bj (l7 c)/\(∀t∈qZ c,Ic t)/\(qZ c).length<=7:=by
 obtain⟨h1,h2,h3⟩:=Ib h
 have h4:∀t∈cR c,Ic t:=fun t ht=>Tz ((lQ.1 h2).2.1 t ht)
 refine⟨?_,?_,?_⟩
 ·unfold l7;split
  ·exact h1
  ·exact QC (aq (aq h1 _) _)
 ·unfold qZ;split
  ·exact h4
  ·exact rG (p:=Ic) _ (fun x hx=>QE hx) _ _ h4
 ·unfold qZ;split
  ·exact h3
  ·rw[J8];exact h3
def aay:bp UU where
 α:=ae
 md:=[.box false]
 of:=o1 oU
 ds:=fun x=>[dU x]
 pre:=fun c=>[bj c]
 bT:=fun c=>⟨[dL .aA (qZ c)],[],[dU (l7 c)]⟩
 law:=l1 lU
def atj:aay.α->Nat->Option (bY UU):=fun c=>aN []
def apG:=us [arM,mL,aa7,q_,Eb,ahK]
theorem aq6:Holds EE (44,aay):=by
 refine holds_of ax func44 aay (by kernel_rfl) apG (aE _) atj (fun(c:ae) hp hb=> ?_)
 have dK:=sK (x:=c) (hb _ m0)
 have bC:bj c:=hp _ m0
 clear hp hb
 apply @ve _ (let x2:List BA:=[{data:= #[]:BA},{data:= #[(65:UInt8)]:BA},{data:= #[(117:UInt8),(110:UInt8),(100:UInt8),(111:UInt8)]:BA}];let pT:List Int:=[(-1),0,4,5];let jI:List Int:=[(-1),1000001000,1000001001];let Aq:Int:=(↑(List.length (cR c)):Int);let x5:Nat:=Int.toNat (ag (gG c) Aq);let x8:Nat:=pT.length;let x9:ae:=aa (gG c) Aq;let yj:Nat:=jI.length;let x0:ae:=aa x9 14;let x1:ae:=bS x0 x2;let x3:Int:=ag x9 14;let x7:Int:=(↑x8:Int);let rc:Int:=(↑yj:Int);let x4:ae:=aa x0 x7;let x6:ae:=aa x0 rc;let q0:=(l7 c).i;let q1:=(l7 c).h;bj c/\bif Aq==0 then(0:Nat)=(0:Nat)/\ap [VL .aA (cR c)]=ap [VL .aA (qZ c)]/\ap [DV.box [CL .byte (gG c).b,CI ((gG c).i),CI ((gG c).h)]]=ap [DV.box [CL .byte (l7 c).b,CI q0,CI q1]] else 0<=(gG c).i/\List.length (gG c).b<=4294967296/\0<=ag (gG c) Aq/\x5<List.length (cR c)/\0<=x9.i/\x9.b.length<=4294967296/\bif x3==0 then bj x0/\x5<List.length (cR c)/\(0:Nat)=(0:Nat)/\ap [VL .aA (List.modify (cR c) x5 fun(x:ak)=>{F:=oa x0,aW:=x.aW,State:=x.State,bE:=x.bE,kf:=x.kf,V:=x.V:ak})]=ap [VL .aA (qZ c)]/\ap [DV.box [CL .byte (fG x0).b,CI ((fG x0).i),CI ((fG x0).h)]]=ap [DV.box [CL .byte (l7 c).b,CI q0,CI q1]] else bif x3==1 then bj x0/\1<=x2.length/\x5<List.length (cR c)/\(0:Nat)=(0:Nat)/\ap [VL .aA (List.modify (cR c) x5 fun(x:ak)=>{F:=x.F,aW:=cv x0 x2,State:=x.State,bE:=x.bE,kf:=x.kf,V:=x.V:ak})]=ap [VL .aA (qZ c)]/\ap [DV.box [CL .byte x1.b,CI x1.i,CI x1.h]]=ap [DV.box [CL .byte (l7 c).b,CI q0,CI q1]] else bif x3==2 then 0<=x0.i/\x0.b.length<=4294967296/\x5<List.length (cR c)/\(0:Nat)=(0:Nat)/\ap [VL .aA (List.modify (cR c) x5 fun(x:ak)=>{F:=x.F,aW:=x.aW,State:=ag x0 6,bE:=x.bE,kf:=x.kf,V:=x.V:ak})]=ap [VL .aA (qZ c)]/\ap [DV.box [CL .byte (aa x0 6).b,CI ((aa x0 6).i),CI ((aa x0 6).h)]]=ap [DV.box [CL .byte (l7 c).b,CI q0,CI q1]] else bif x3==3 then 0<=x0.i/\x0.b.length<=4294967296/\1<=x8/\x5<List.length (cR c)/\(0:Nat)=(0:Nat)/\ap [VL .aA (List.modify (cR c) x5 fun(x:ak)=>{F:=x.F,aW:=x.aW,State:=x.State,bE:=List.getD pT (Int.toNat (ag x0 x7)) 0,kf:=x.kf,V:=x.V:ak})]=ap [VL .aA (qZ c)]/\ap [DV.box [CL .byte x4.b,CI x4.i,CI x4.h]]=ap [DV.box [CL .byte (l7 c).b,CI q0,CI q1]] else bif x3==4 then 0<=x0.i/\x0.b.length<=4294967296/\1<=yj/\x5<List.length (cR c)/\(0:Nat)=(0:Nat)/\ap [VL .aA (List.modify (cR c) x5 fun(x:ak)=>{F:=x.F,aW:=x.aW,State:=x.State,bE:=x.bE,kf:=List.getD jI (Int.toNat (ag x0 rc)) 0,V:=x.V:ak})]=ap [VL .aA (qZ c)]/\ap [DV.box [CL .byte x6.b,CI x6.i,CI x6.h]]=ap [DV.box [CL .byte (l7 c).b,CI q0,CI q1]] else bif x3==5 then bj x0/\x5<List.length (cR c)/\(0:Nat)=(0:Nat)/\ap [VL .aA (List.modify (cR c) x5 fun(x:ak)=>{F:=x.F,aW:=x.aW,State:=x.State,bE:=x.bE,kf:=x.kf,V:=ie x0:ak})]=ap [VL .aA (qZ c)]/\ap [DV.box [CL .byte (gM x0).b,CI ((gM x0).i),CI ((gM x0).h)]]=ap [DV.box [CL .byte (l7 c).b,CI q0,CI q1]] else(0:Nat)=(0:Nat)/\ap [VL .aA (cR c)]=ap [VL .aA (qZ c)]/\ap [DV.box [CL .byte x0.b,CI x0.i,CI x0.h]]=ap [DV.box [CL .byte (l7 c).b,CI q0,CI q1]]) (by kernel_rfl)
 dsimp only
 obtain⟨h1,h2,h3⟩:=Ib bC
 refine⟨bC,zS (fun h=> ?_) (fun h=> ?_)⟩
 ·have h:cR c=[]:=Em (by omega)
  have e1:qZ c=cR c:=if_pos h
  have e2:l7 c=gG c:=if_pos h
  rw[e2];exact⟨by trivial,uM e1.symm,rfl⟩
 have hn:¬cR c=[]:=by intro e;rw[e] at h;simp at h
 have hl:0<(cR c).length:=List.length_pos_iff.2 hn
 have hb:=br (c:=gG c) (n:=(cR c).length) (by omega)
 have hd:=aq h1 (cR c).length
 have he:=aq hd 14
 have e1:qZ c=_:=if_neg hn
 have e2:l7 c=_:=if_neg hn
 refine⟨h1.1,h1.2,hb.1,by omega,hd.1,hd.2,?_⟩
 rw[e2]
 generalize ag (aa (gG c) (cR c).length) 14=s at e1⊢
 generalize aa (aa (gG c) (cR c).length) 14=e at he e1⊢
 generalize hk:(ag (gG c) (cR c).length).toNat=k at e1⊢
 have Wa:k<(cR c).length:=by omega
 have fin:∀(f:ak->ak)(d:ae),mS s e=f->lj s e=d->ap ([DV.one (Cell.sl Cd.aA ((cR c).modify k f))]:List (DV UU))=ap ([DV.one (Cell.sl Cd.aA (qZ c))]:List (DV UU))/\
   ap ([DV.box [Cell.sl Cd.byte d.b,Cell.lit (Value.int IntKind.i64 d.i),Cell.lit (Value.int IntKind.i64 d.h)]]:List (DV UU))=ap ([DV.box [Cell.sl Cd.byte (lj s e).b,Cell.lit (Value.int IntKind.i64 (lj s e).i),Cell.lit (Value.int IntKind.i64 (lj s e).h)]]:List (DV UU)):=by
  rintro _ _ rfl rfl
  exact⟨uM e1.symm,rfl⟩
 refine zS (fun n0=> ?_) (fun n0=> ?_)
 ·have hf:mS s e=asF (oa e):=by funext x;unfold mS;rw[if_pos n0]
  have hd:lj s e=fG e:=by unfold lj;rw[if_pos n0]
  obtain⟨f1,f2⟩:=fin _ _ hf hd
  repeat' (first|exact f1|exact f2|refine And.intro (by first|exact f1|exact he|exact he.1|exact he.2|omega|simp;done) ?_)
 refine zS (fun n1=> ?_) (fun n1=> ?_)
 ·have hf:mS s e=QJ (cv e Ct):=by funext x;unfold mS;rw[if_neg n0,if_pos n1]
  have hd:lj s e=bS e Ct:=by unfold lj;rw[if_neg n0,if_pos n1]
  obtain⟨f1,f2⟩:=fin _ _ hf hd
  repeat' (first|exact f1|exact f2|refine And.intro (by first|exact f1|exact he|exact he.1|exact he.2|omega|simp;done) ?_)
 refine zS (fun n2=> ?_) (fun n2=> ?_)
 ·have hf:mS s e=Mq (ag e 6):=by funext x;unfold mS;rw[if_neg n0,if_neg n1,if_pos n2]
  have hd:lj s e=aa e 6:=by unfold lj;rw[if_neg n0,if_neg n1,if_pos n2]
  obtain⟨f1,f2⟩:=fin _ _ hf hd
  repeat' (first|exact f1|exact f2|refine And.intro (by first|exact f1|exact he|exact he.1|exact he.2|omega|simp;done) ?_)
 refine zS (fun n3=> ?_) (fun n3=> ?_)
 ·have hf:mS s e=Mp (gL e Ax):=by funext x;unfold mS;rw[if_neg n0,if_neg n1,if_neg n2,if_pos n3]
  have hd:lj s e=j9 e Ax:=by unfold lj;rw[if_neg n0,if_neg n1,if_neg n2,if_pos n3]
  obtain⟨f1,f2⟩:=fin _ _ hf hd
  repeat' (first|exact f1|exact f2|refine And.intro (by first|exact f1|exact he|exact he.1|exact he.2|omega|simp;done) ?_)
 refine zS (fun n4=> ?_) (fun n4=> ?_)
 ·have hf:mS s e=Wt (gL e L1):=by funext x;unfold mS;rw[if_neg n0,if_neg n1,if_neg n2,if_neg n3,if_pos n4]
  have hd:lj s e=j9 e L1:=by unfold lj;rw[if_neg n0,if_neg n1,if_neg n2,if_neg n3,if_pos n4]
  obtain⟨f1,f2⟩:=fin _ _ hf hd
  repeat' (first|exact f1|exact f2|refine And.intro (by first|exact f1|exact he|exact he.1|exact he.2|omega|simp;done) ?_)
 refine zS (fun n5=> ?_) (fun n5=> ?_)
 ·have hf:mS s e=asV (ie e):=by funext x;unfold mS;rw[if_neg n0,if_neg n1,if_neg n2,if_neg n3,if_neg n4,if_pos n5]
  have hd:lj s e=gM e:=by unfold lj;rw[if_neg n0,if_neg n1,if_neg n2,if_neg n3,if_neg n4,if_pos n5]
  obtain⟨f1,f2⟩:=fin _ _ hf hd
  repeat' (first|exact f1|exact f2|refine And.intro (by first|exact f1|exact he|exact he.1|exact he.2|omega|simp;done) ?_)
 have hf:mS s e=id:=by funext x;unfold mS;rw[if_neg n0,if_neg n1,if_neg n2,if_neg n3,if_neg n4,if_neg n5];rfl
 have hd:lj s e=e:=by unfold lj;rw[if_neg n0,if_neg n1,if_neg n2,if_neg n3,if_neg n4,if_neg n5]
 have hm:qZ c=cR c:=by rw[e1,hf];exact List.modify_id _ _
 obtain⟨f1,f2⟩:=fin _ _ hf hd
 exact⟨by trivial,uM hm.symm,f2⟩
def ar':HH:=⟨_,aq6⟩
theorem nD{s:aG}:bQ s=true↔(1<=s.Next/\s.Next<=1000000)/\s.ab.length<=40/\(∀x∈s.ab,bI x.F=true/\1<=x.Id/\x.Id<s.Next)/\s.ab.Pairwise (fun a b=>a.Id<b.Id/\a.F≠b.F):=by
 have hg:∀{i:Nat}(h:i<s.ab.length),List.getD s.ab i bg=s.ab[i]:=fun{i} h=>by rw[eY,fo h];rfl
 simp only[bQ,cK,decide_eq_true_eq,<-Cm,and_assoc]
 refine and_congr_right fun _=>and_congr_right fun _=>and_congr_right fun _=> ?_
 rw[fV]
 constructor
 ·intro h
  have hb:∀i,i<s.ab.length->jD s i=true:=fun i hi=>by
   have:=h i hi
   simp only[iU,cK] at this
   exact this.1
  refine⟨fun t ht=> ?_,?_⟩
  ·obtain⟨i,hi,rfl⟩:=ri ht
   have:=hb i hi
   simp only[jD,cK,decide_eq_true_eq] at this
   rw[<-hg hi];exact⟨this.1.1.1,this.1.1.2,this.1.2⟩
  ·rw[Tn]
   intro i j hi hj Ej
   refine⟨by have:=JQ hb i j Ej hj;rw[hg hi,hg hj] at this;exact this,fun e=> ?_⟩
   have:=h j hj
   simp only[iU,cK,ql] at this
   have:=yF (nR.1 this.2 i Ej)
   rw[hg hi,hg hj] at this
   exact this e.symm
 ·rintro⟨h1,h2⟩ j hj
  rw[Tn] at h2
  obtain⟨q1,q2,q3⟩:=h1 _ (Ed hj)
  simp only[iU,jD,cK,ql,decide_eq_true_eq,Bool.and_eq_false_iff,decide_eq_false_iff_not]
  refine⟨⟨⟨⟨by rw[hg hj];exact q1,by rw[hg hj];exact q2⟩,by rw[hg hj];exact q3⟩,?_⟩,nR.2 fun i Ej=>decide_eq_false fun e=> ?_⟩
  ·by_cases h0:0<j
   ·right
    have:=(h2 (j-1) j (by omega) hj (by omega)).1
    rw[hg hj,hg (show j-1<s.ab.length by omega)];omega
   ·exact .inl h0
  ·have hi:i<s.ab.length:=by omega
   rw[hg hi,hg hj] at e
   exact(h2 i j hi hj Ej).2 e.symm
theorem Nj{s:aG}(h:bQ s=true){f:aJ}(h0:mn s.ab f=0):∀x∈s.ab,x.F≠f:=by
 intro x hx e
 obtain⟨i,hi,rfl⟩:=ri hx
 rcases jA s.ab.length (fun k=>decide ((List.getD s.ab k bg).F=f)) with⟨_,h2⟩|⟨m,g1,g2,_,_⟩
 ·have:=yF (h2 i hi)
  rw[eY,fo hi] at this
  exact this e
 ·have e2:I5 s.ab f=m:=g2
  rw[mn,e2,if_neg (by omega)] at h0
  have:=(lR h).2.2.2 (List.getD s.ab m bg) (gQ g1)
  rw[zeu] at h0
  omega
theorem Cn{s:aG}(h:bQ s=true){f:aJ}(hf:bI f=true):bQ (fN s f).1=true:=by
 unfold fN
 split
 ·exact h
 ·rename_i h0
  split
  ·exact h
  ·rename_i h1
   have hn:=Nj h (f:=f) (Decidable.not_not.1 h0)
   obtain⟨g1,g2,g3,g4⟩:=nD.1 h
   refine nD.2 ⟨⟨by show 1<=s.Next+1;omega,by show s.Next+1<=1000000;omega⟩,by simp only[kg,gv,fO];omega,fun x hx=> ?_,?_⟩
   ·show _/\_/\_<s.Next+1
    rcases jr.1 hx with hx|hx
    ·obtain⟨a,b,c⟩:=g3 x hx;exact⟨a,b,by omega⟩
    ·rw[ma.1 hx];exact⟨hf,g1.1,by show s.Next<s.Next+1;omega⟩
   ·rw[List.pairwise_append]
    refine⟨g4,List.pairwise_singleton _ _,fun a ha b hb=> ?_⟩
    rw[ma.1 hb]
    exact⟨(g3 a ha).2.2,hn a ha⟩
def o_(id:Int)(x:bH):Bool:= !decide (x.Id=id)
def tx(s:aG)(id:Int):aG:=⟨s.ab.filter (o_ id),s.Next⟩
theorem Ig{s:aG}(h:bQ s=true)(id:Int):bQ (tx s id)=true:=by
 obtain⟨g1,g2,g3,g4⟩:=nD.1 h
 exact nD.2 ⟨g1,wu (Kh _ _) g2,fun x hx=>g3 x (wA.1 hx).1,g4.filter _⟩
theorem qQ{l:List bH}{id:Int}:jX l id=true↔∃x∈l,x.Id=id:=by
 simp only[jX,xJ,decide_eq_true_eq]
 constructor
 ·rintro⟨j,hj,h⟩;exact⟨_,gQ hj,h⟩
 ·rintro⟨x,hx,h⟩
  obtain⟨i,hi,rfl⟩:=ri hx
  exact⟨i,hi,by rw[eY,fo hi];exact h⟩
theorem GP{s:aG}{f:aJ}{id:Int}(h:jX s.ab id=true):jX (fN s f).1.ab id=true:=by
 unfold fN
 split
 ·exact h
 ·split
  ·exact h
  ·obtain⟨x,hx,e⟩:=qQ.1 h
   exact qQ.2 ⟨x,qC _ hx,e⟩
def xa(l:List Int)(n:Int):Bool:=l.any fun x=>decide (x=n)
def xf(l:List av)(id:Int):List av:=l.filter fun m=> !xa m.eJ id
structure coreX(d:bB)(x:ao):Prop where
 po:fz d=true
 store:bQ x.S=true
 jl:bc x.au=true
 timers:cY x.aC=true
 oh:db x.aL=true
 now:0<=x.dw/\x.dw<=1000000000
 Jt:x.aD.length<=1000
 bZ:∀m∈x.aD,iK d x.S.ab m=true
structure cF(d:bB)(x:ao):Prop extends coreX d x where
 state:1<=x.State/\x.State<=6
 ended:x.State=2\/x.State=4\/x.State=6->oj x.au=false/\x.aC=[]
 LD:x.State=3\/x.State=5->x.aL≠[]
theorem ue{d:bB}{x:ao}:instOk d x=true↔cF d x:=by
 have e1:(!(mw x&&(oj x.au||decide (0<x.aC.length))))=true↔(x.State=2\/x.State=4\/x.State=6->oj x.au=false/\x.aC=[]):=by
  simp only[mw]
  by_cases h:x.State=2\/x.State=4\/x.State=6
  ·rw[decide_eq_true h,u_,ql,Oc,decide_eq_false_iff_not]
   exact⟨fun g _=>⟨g.1,Em (by omega)⟩,fun g=>⟨(g h).1,by rw[(g h).2];simp⟩⟩
  ·rw[decide_eq_false h];exact⟨fun _ g=>absurd g h,fun _=>rfl⟩
 have e2:(!mb x||decide (0<x.aL.length))=true↔(x.State=3\/x.State=5->x.aL≠[]):=by
  simp only[mb,Ee,ql,Oc,decide_eq_false_iff_not,decide_eq_true_eq]
  constructor
  ·rintro(g|g) h e
   ·rcases h with h|h
    ·exact g.1 h
    ·exact g.2 h
   ·rw[e] at g;simp at g
  ·intro g
   by_cases h:x.State=3\/x.State=5
   ·exact .inr (List.length_pos_iff.2 (g h))
   ·exact .inl ⟨fun e=>h (.inl e),fun e=>h (.inr e)⟩
 rw[instOk,cK,cK,e1,e2]
 simp only[iC,cK,decide_eq_true_eq,rh]
 constructor
 ·rintro⟨⟨⟨⟨⟨⟨⟨⟨⟨h1,h2⟩,h3⟩,h4⟩,h5⟩,h6⟩,h7⟩,h8,h9⟩,rQ⟩,h11⟩
  exact⟨⟨h1,h2,h3,h4,h5,h7,h8,h9⟩,h6,rQ,h11⟩
 ·rintro⟨⟨h1,h2,h3,h4,h5,h7,h8,h9⟩,h6,rQ,h11⟩
  exact⟨⟨⟨⟨⟨⟨⟨⟨⟨h1,h2⟩,h3⟩,h4⟩,h5⟩,h6⟩,h7⟩,h8,h9⟩,rQ⟩,h11⟩
theorem coreX.good{d:bB}{x:ao}(h:coreX d x):en x:=⟨h.jl,h.oh,h.now⟩
theorem IZ(l:List ak):oj (giveUp l)=false:=by
 refine gg fun j hj=> ?_
 have hm:=gQ (z:=aR) hj
 obtain⟨t,_,e⟩:=lB.1 hm
 rw[<-e]
 simp only[j8,kr]
 split
 ·simp
 ·rename_i h;exact decide_eq_false h
theorem E1{d:bB}{x:ao}(h:coreX d x){st:Int}(hs:st=2\/st=4\/st=6):cF d (Am x st):=
 ⟨⟨h.po,h.store,oR h.jl,rfl,h.oh,h.now,h.Jt,h.bZ⟩,by show 1<=st/\st<=6;omega,fun _=>⟨IZ _,rfl⟩,fun g=>by have g:st=3\/st=5:=g;omega⟩
theorem zM{d:bB}{x:ao}(h:coreX d x)(hs:x.State=3\/x.State=5):cF d (kX x):=by
 unfold kX
 split
 ·exact E1 h (by split<;>omega)
 ·rename_i hu
  exact⟨⟨h.po,h.store,Cf h.good hu,h.timers,h.oh,h.now,h.Jt,h.bZ⟩,by show 1<=x.State/\x.State<=6;omega,fun g=>by have g:x.State=2\/x.State=4\/x.State=6:=g;omega,fun _=>hu⟩
theorem Qw{d:bB}{x:ao}(h:coreX d x)(st:Int):coreX d (Am x st):=⟨h.po,h.store,oR h.jl,rfl,h.oh,h.now,h.Jt,h.bZ⟩
theorem lD{d:bB}{x:ao}(h:coreX d x){st:Int}(hs:st=3\/st=5):cF d (jk x st):=zM (Qw h st) hs
theorem vJ{d:bB}{x:ao}(h:coreX d x)(hs:x.State=3\/x.State=5):cF d (xd x):=
 zM ⟨h.po,h.store,h.jl,h.timers,wE _ h.oh,h.now,h.Jt,h.bZ⟩ hs
theorem jK{d:bB}{x:ao}(h:coreX d x)(hs:x.State=1):cF d x:=⟨h,by omega,fun g=>by omega,fun g=>by omega⟩
theorem JG{d:bB}{x:ao}(h:coreX d x){f:aJ}(hf:bI f=true):coreX d (vd x (fN x.S f).1):=
 ⟨h.po,Cn h.store hf,h.jl,h.timers,h.oh,h.now,h.Jt,fun m hm=>by
  have:=h.bZ m hm
  simp only[iK,cK,rh] at this⊢
  exact⟨this.1,fun i hi=>GP (this.2 i hi)⟩⟩
theorem jm{d:bB}{x:ao}(h:coreX d x)(hs:x.State=1){f:aJ}(hf:bI f=true):cF d (e7 x f):=by
 unfold e7
 split
 ·exact lD h (.inl rfl)
 ·exact jK (JG h hf) hs
theorem oQ{l:List aI}:cY l=true↔l.length<=30/\(∀t∈l,iy t=true)/\l.Pairwise (fun a b=>a.At<=b.At):=by
 have hg:∀{i:Nat}(h:i<l.length),List.getD l i dH=l[i]:=fun{i} h=>by rw[eY,fo h];rfl
 simp only[cY,cK,decide_eq_true_eq]
 refine and_congr_right fun _=> ?_
 rw[fV]
 constructor
 ·intro h
  refine⟨fun t ht=> ?_,?_⟩
  ·obtain⟨i,hi,rfl⟩:=ri ht
   have:=h i hi
   simp only[jw,cK] at this
   rw[<-hg hi];exact this.1
  ·have step:∀i (hi:i+1<l.length),l[i].At<=l[i+1].At:=fun i hi=>by
    have:=h (i+1) hi
    simp only[jw,cK,Ee,decide_eq_true_eq,Nat.add_sub_cancel] at this
    rw[hg hi,hg (by omega)] at this
    rcases this.2 with h0|h0
    ·omega
    ·exact h0
   rw[Tn]
   intro i j hi hj Ej
   obtain⟨k,rfl⟩:∃k,j=i+1+k:=⟨j-i-1,by omega⟩
   clear Ej
   induction k with
   |zero=>exact step i hj
   |succ k ih=>exact Int.le_trans (ih (by omega)) (step (i+1+k) hj)
 ·rintro⟨h1,h2⟩ j hj
  simp only[jw,cK,Ee,decide_eq_true_eq]
  refine⟨by rw[hg hj];exact h1 _ (Ed hj),?_⟩
  by_cases h0:j=0
  ·exact .inl h0
  ·right
   rw[Tn] at h2
   rw[hg hj,hg (show j-1<l.length by omega)]
   exact h2 (j-1) j (by omega) hj (by omega)
theorem vg{l:List aI}(p:aI->Bool)(h:cY l=true):cY (l.filter p)=true:=by
 rw[oQ] at h⊢
 exact⟨wu (Kh _ _) h.1,fun t ht=>h.2.1 t (wA.1 ht).1,h.2.2.filter p⟩
theorem CF{l:List aI}{a:Int}(hp:l.Pairwise (fun a b=>a.At<=b.At)):∀n,n<=l.length->(∀j,j<sQ l a n->(List.getD l j dH).At<=a)/\∀j,sQ l a n<=j->j<n->a<(List.getD l j dH).At
 |0,_=>⟨fun j hj=>by simp[sQ] at hj,fun j _ hj=>by omega⟩
 |n+1,hn=>by
  obtain⟨h1,h2⟩:=CF hp n (by omega)
  have hg:∀{i:Nat}(h:i<l.length),List.getD l i dH=l[i]:=fun{i} h=>by rw[eY,fo h];rfl
  rw[sQ]
  split
  ·rename_i h
   refine⟨h1,fun j g1 g2=> ?_⟩
   by_cases e:j=n
   ·subst e;omega
   ·exact h2 j g1 (by omega)
  ·rename_i h
   refine⟨fun j hj=> ?_,fun j g1 g2=>by omega⟩
   by_cases e:j=n
   ·subst e;omega
   ·rw[Tn] at hp
    have:=hp j n (by omega) (by omega) (by omega)
    rw[hg (by omega)] at h⊢
    omega
theorem Km{l:List aI}{x:aI}(h:cY l=true):cY (qA l x)=true:=by
 unfold qA
 split
 ·rename_i ha
  simp only[mE,cK,decide_eq_true_eq] at ha
  obtain⟨g1,g2,g3⟩:=oQ.1 h
  obtain⟨p1,p2⟩:=CF (a:=x.At) g3 l.length (s_ _)
  have hp:=LS l x.At l.length
  refine oQ.2 ⟨by simp only[kg,oH,gv,J6];omega,fun t ht=> ?_,?_⟩
  ·rcases jr.1 ht with ht|ht
   ·exact g2 t (List.mem_of_mem_take ht)
   ·rcases jQ.1 ht with ht|ht
    ·rw[ht];exact ha.1.2
    ·exact g2 t (List.mem_of_mem_drop ht)
  ·rw[List.pairwise_append]
   refine⟨g3.sublist (List.take_sublist _ _),List.pairwise_cons.2 ⟨fun b hb=> ?_,g3.sublist (List.drop_sublist _ _)⟩,fun a ha b hb=> ?_⟩
   ·obtain⟨j,hj,e⟩:=ri hb
    rw[List.getElem_drop] at e
    simp only[J6] at hj
    have:=p2 (sQ l x.At l.length+j) (by omega) (by omega)
    rw[eY,fo (by omega)] at this
    rw[<-e];exact Int.le_of_lt this
   ·obtain⟨i,hi,e⟩:=ri ha
    rw[List.getElem_take] at e
    simp only[oH] at hi
    have hle:=p1 i (by omega)
    rw[eY,fo (by omega)] at hle
    have hle:a.At<=x.At:=by rw[<-e];exact hle
    rcases jQ.1 hb with hb|hb
    ·rw[hb];exact hle
    ·obtain⟨j,hj,e'⟩:=ri hb
     rw[List.getElem_drop] at e'
     simp only[J6] at hj
     have:=p2 (sQ l x.At l.length+j) (by omega) (by omega)
     rw[eY,fo (by omega)] at this
     have:x.At<b.At:=by rw[<-e'];exact this
     omega
 ·exact h
def B7(x:ao)(l:List av):ao:=⟨x.S,l,x.au,x.aC,x.aL,x.State,x.dw⟩
def LB(x:ao)(l:List aI):ao:=⟨x.S,x.aD,x.au,l,x.aL,x.State,x.dw⟩
def EO(x:ao)(n:Int):ao:=⟨x.S,x.aD,x.au,x.aC,x.aL,x.State,n⟩
def FB(x:ao)(id:Int):ao:=if(tx x.S id).ab.length<x.S.ab.length then B7 (vd x (tx x.S id)) (xf x.aD id) else vd x (tx x.S id)
def LH(x:ao)(e:cD):ao:=if(fZ x.au e.F e.aW x.dw).2=true then pV x (fZ x.au e.F e.aW x.dw).1 else jk (pV x (fZ x.au e.F e.aW x.dw).1) 3
def tc(x:ao)(e:cD):aI:=⟨if 1000000000<x.dw+e.N then 1000000000 else x.dw+e.N,e.F⟩
def FZ(x:ao)(e:cD):ao:=if mE x.aC (tc x e)=true then LB x (qA x.aC (tc x e)) else jk (LB x (qA x.aC (tc x e))) 3
def gS(x:ao)(e:cD):ao:=
 if e.Kind=1 then e7 x e.F else if e.Kind=2 then FB x e.Id else if e.Kind=3 then LH x e else if e.Kind=4 then FZ x e else if e.Kind=5 then Am x 2 else jk x 3
theorem NW{d:bB}{x:ao}(h:coreX d x)(id:Int):coreX d (FB x id):=by
 unfold FB
 split
 ·refine⟨h.po,Ig h.store id,h.jl,h.timers,h.oh,h.now,wu (Kh _ _) h.Jt,fun m hm=> ?_⟩
  obtain⟨hm,hn⟩:=wA.1 hm
  have:=h.bZ m hm
  simp only[iK,cK,rh] at this⊢
  refine⟨this.1,fun i hi=> ?_⟩
  obtain⟨y,hy,e⟩:=qQ.1 (this.2 i hi)
  refine qQ.2 ⟨y,wA.2 ⟨hy,?_⟩,e⟩
  simp only[o_,ql,decide_eq_false_iff_not]
  intro e2
  simp only[ql,xa,List.any_eq_false,decide_eq_true_eq] at hn
  exact hn i hi (e.symm.trans e2)
 ·rename_i hl
  have e:tx x.S id=x.S:=by
   have:x.S.ab.filter (o_ id)=x.S.ab:=List.filter_sublist.eq_of_length_le (by simp only[tx] at hl;omega)
   simp only[tx,this]
  rw[e]
  exact⟨h.po,h.store,h.jl,h.timers,h.oh,h.now,h.Jt,h.bZ⟩
theorem wN{d:bB}{x:ao}(h:coreX d x)(hs:x.State=1){e:cD}(he:dM e=true):cF d (gS x e):=by
 simp only[dM] at he
 unfold gS
 by_cases h1:e.Kind=1
 ·simp only[h1,decide_true,cond_true,cK] at he
  rw[if_pos h1];exact jm h hs he.1.1.1
 rw[if_neg h1]
 by_cases h2:e.Kind=2
 ·rw[if_pos h2];exact jK (NW h _) (by unfold FB;split<;>exact hs)
 rw[if_neg h2]
 by_cases h3:e.Kind=3
 ·simp only[h3,show decide ((3:Int)=1)=false from rfl,show decide ((3:Int)=2)=false from rfl,decide_true,cond_true,cond_false,cK] at he
  rw[if_pos h3]
  have ho:bc (fZ x.au e.F e.aW x.dw).1=true:=np h.jl he.1.1.1 he.2 h.now.1 (by have:=h.now.2;omega)
  have hc:coreX d (pV x (fZ x.au e.F e.aW x.dw).1):=⟨h.po,h.store,ho,h.timers,h.oh,h.now,h.Jt,h.bZ⟩
  unfold LH
  split
  ·exact jK hc hs
  ·exact lD hc (.inl rfl)
 rw[if_neg h3]
 by_cases h4:e.Kind=4
 ·rw[if_pos h4]
  have hc:coreX d (LB x (qA x.aC (tc x e))):=⟨h.po,h.store,h.jl,Km h.timers,h.oh,h.now,h.Jt,h.bZ⟩
  unfold FZ
  split
  ·exact jK hc hs
  ·exact lD hc (.inl rfl)
 rw[if_neg h4]
 by_cases h5:e.Kind=5
 ·rw[if_pos h5];exact E1 h (.inl rfl)
 ·rw[if_neg h5];exact lD h (.inl rfl)
def jH:List cD->ao->ao
 |[],x=>x
 |e::l,x=>if x.State=1 then jH l (gS x e) else x
def GS(x:ao)(m:av):ao:=B7 x (x.aD++[⟨m.cN,m.eJ,[]⟩])
def ph(d:bB)(x:ao)(m:av):ao:=if lh d m=true/\x.aD.length<1000 then jH (mK d m) (GS x m) else jk x 3
theorem vi{d:bB}:∀{l:List cD}{x:ao},cF d x->(∀e∈l,dM e=true)->cF d (jH l x)
 |[],_,h,_=>h
 |e::l,x,h,hl=>by
  rw[jH];split
  ·rename_i hs
   exact vi (wN h.tocoreX hs (hl e gj)) fun y hy=>hl y (cA _ hy)
  ·exact h
theorem Me{d:bB}{m:av}:∀e∈mK d m,dM e=true:=by
 intro e he
 unfold mK at he
 split at he
 ·rename_i h
  obtain⟨a,ha,rfl⟩:=lB.1 he
  simp only[lh,cK,rh] at h
  have:=h.2 a ha
  simp only[Gp,cK] at this
  exact this.2
 ·simp at he
def xe(s:List bH)(m:av):Prop:=∀i∈m.eJ,jX s i=true
theorem Dx{d:bB}{x:ao}{m:av}(h:coreX d x)(hl:x.aD.length<1000)(he:lh d m=true)(hm:xe x.S.ab m):coreX d (GS x m):=by
 refine⟨h.po,h.store,h.jl,h.timers,h.oh,h.now,by simp only[GS,B7,kg,gv,fO];omega,fun n hn=> ?_⟩
 rcases jr.1 hn with hn|hn
 ·exact h.bZ n hn
 ·rw[ma.1 hn]
  simp only[lh,CP,cK] at he
  simp only[iK,cK,rh]
  exact⟨⟨⟨he.1.2.1,by simp⟩,he.1.2.2⟩,hm⟩
theorem Ky{d:bB}{x:ao}{m:av}(h:coreX d x)(hs:x.State=1)(hm:xe x.S.ab m):cF d (ph d x m):=by
 unfold ph
 split
 ·rename_i hc
  exact vi (jK (Dx h hc.2 hc.1 hm) hs) Me
 ·exact lD h (.inl rfl)
theorem E0{r:aV}{s:List bH}:∀{ps:List cn}{ids:List Int}{l:List b9},(∀i∈ids,jX s i=true)->∀m∈oV r s ps ids l,xe s m
 |[],ids,l,h,m,hm=>by
  simp only[oV] at hm
  split at hm
  ·rw[ma.1 hm];exact h
  ·simp at hm
 |p::ps,ids,l,h,m,hm=>by
  simp only[oV,nT] at hm
  obtain⟨x,hx,hm⟩:=hm
  split at hm
  ·refine E0 (fun i hi=> ?_) m hm
   rcases jr.1 hi with hi|hi
   ·exact h i hi
   ·rw[ma.1 hi];exact qQ.2 ⟨x,hx,rfl⟩
  ·simp at hm
theorem QN{rs:List aV}{s:List bH}{m:av}(hm:m∈allM rs s):xe s m:=by
 simp only[allM,JW,nT,lB] at hm
 obtain⟨i,_,m',ul,rfl⟩:=hm
 exact E0 (r:=List.getD rs i ct) (ids:=[]) (by simp) m' ul
theorem E5{d:bB}{x:ao}{m:av}(h:jn d (allM d.aw x.S.ab) x.aD=some m):xe x.S.ab m:=QN (E6 h)
theorem CV{d:bB}{x:ao}{key:BA}{ok:Bool}{v:aQ}(h:instOk d x=true)(h0:(bt x.au key ok v).2=1):x.State=1\/x.State=3\/x.State=5:=by
 have h1:bc x.au=true/\bR v=true/\0<=aZ x.au key/\(List.getD x.au (aZ x.au key).toNat aR).State≠1:=Classical.byContradiction fun c=>by rw[rB c] at h0;simp at h0
 have h2:(List.getD x.au (aZ x.au key).toNat aR).State=2:=Classical.byContradiction fun c=>by rw[uf h1 c] at h0;simp at h0
 have hk:=oz (l:=x.au) (key:=key) h1.2.2.1
 have hl:oj x.au=true:=ir (j:=(aZ x.au key).toNat) hk (decide_eq_true (Or.inr h2))
 simp only[instOk,cK,decide_eq_true_eq] at h
 obtain⟨⟨⟨⟨⟨_,hs⟩,_⟩,_⟩,he⟩,_⟩:=h
 rw[hl] at he
 have he:mw x=false:=by cases hx:mw x<;>simp[hx] at he⊢
 simp only[mw,decide_eq_false_iff_not] at he
 omega
def Ik:List BA:=[⟨#[88]⟩,⟨#[89]⟩,⟨#[90]⟩,⟨#[88]⟩]
def OH:List BA:=[⟨#[88]⟩,⟨#[89]⟩]
def hJ(c:ae):cp:=if ag c 6=0 then⟨3,ai,dx⟩ else if ag c 6=1 then⟨2,ai,dR (aa c 6)⟩ else⟨1,cv (aa c 6) Ik,dx⟩
def fC(c:ae):ae:=if ag c 6=0 then aa c 6 else if ag c 6=1 then ew (aa c 6) else bS (aa c 6) Ik
theorem xC{c:ae}(h:bj c):bj (fC c):=by
 have:=aq h 6
 unfold fC;split
 ·exact this
 ·split
  ·exact kx this
  ·exact fh this _
def dV(c:ae):cp:=if b8 c 3=true then⟨2,ai,dR (aa c 3)⟩ else⟨1,cv (aa c 3) OH,dx⟩
def cC(c:ae):ae:=if b8 c 3=true then ew (aa c 3) else bS (aa c 3) OH
theorem pt{c:ae}(h:bj c):bj (cC c):=by
 have:=aq h 3
 unfold cC;split
 ·exact kx this
 ·exact fh this _
def lZ{α:Type}(f:ae->α)(g:ae->ae):Nat->List α->ae->List α
 |0,l,_=>l
 |k+1,l,c=>lZ f g k (l++[f c]) (g c)
def pc(g:ae->ae):Nat->ae->ae
 |0,c=>c
 |k+1,c=>pc g k (g c)
theorem lW{α:Type}(f:ae->α)(g:ae->ae):∀(k:Nat)(l:List α)(c:ae),(lZ f g k l c).length=l.length+k
 |0,_,_=>rfl
 |k+1,l,c=>by rw[lZ,lW f g k];simp only[kg,gv,fO];omega
theorem m9{α:Type}{f:ae->α}{g:ae->ae}(p:α->Prop)(hp:∀c,p (f c)):∀(k:Nat)(l:List α)(c:ae),(∀x,x∈l->p x)->∀x,x∈lZ f g k l c->p x
 |0,_,_,h=>h
 |k+1,l,c,h=>m9 p hp k _ _ fun x hx=>by
  rcases jr.1 hx with hx|hx
  ·exact h x hx
  ·rw[ma] at hx;subst hx;exact hp c
theorem tM{g:ae->ae}(hg:∀c,bj c->bj (g c)):∀{k:Nat}{c:ae},bj c->bj (pc g k c)
 |0,_,h=>h
 |k+1,_,h=>tM hg (k:=k) (hg _ h)
def tv(c:ae):Int:=if cv c cM=DL then 2 else 1
def oD(not:Bool)(c:ae):cn:=⟨cv c cM,lZ hJ fC (tv c).toNat [] (bS c cM),not⟩
def ib(c:ae):ae:=pc fC (tv c).toNat (bS c cM)
theorem pu{c:ae}(h:bj c):bj (ib c):=tM (fun _=>xC) (fh h _)
theorem Gh(c:ae):0<=tv c/\tv c<=2:=by unfold tv;split<;>omega
def xz(c:ae):c_:=⟨1+ag c 3,dV (aa c 3),dV (cC (aa c 3))⟩
def qy(c:ae):ae:=cC (cC (aa c 3))
theorem zf{c:ae}(h:bj c):bj (qy c):=pt (pt (aq h _))
def Cs:List BA:=[⟨#[43]⟩,⟨#[45]⟩]
def fy(c:ae):b7:=if b8 (cC c) 4=true then⟨cv (aa (cC c) 4) Cs,dV c,dV (bS (aa (cC c) 4) Cs)⟩ else⟨ai,dV c,nW⟩
def gA(c:ae):ae:=if b8 (cC c) 4=true then cC (bS (aa (cC c) 4) Cs) else aa (cC c) 4
theorem JK{c:ae}(h:bj c):bj (gA c):=by
 have:=aq (pt h) 4
 unfold gA;split
 ·exact pt (fh this _)
 ·exact this
def pd:List Int:=[1,1,2,3,3,4,5,6]
def F7:List BA:=[⟨#[111,114,100,101,114]⟩,⟨#[112,97,105,100]⟩,⟨#[105,116,101,109]⟩,⟨#[115,104,105,112]⟩,⟨#[99,104,97,114,103,101]⟩]
def vR:List Int:=[0,1,5,100000]
def pZ:List BA:=[⟨#[114,101,102,117,110,100]⟩,⟨#[99,97,110,99,101,108]⟩]
def iH(c:ae):Int:=gL c pd
def hZ(c:ae):BA:=cv (j9 c pd) F7
def DO(c:ae):ae:=bS (j9 c pd) F7
def wc(c:ae):Int:=if hZ c=DL then 2 else 1
def mF(c:ae):List b7:=lZ fy gA (wc c).toNat [] (DO c)
def kI(c:ae):ae:=pc gA (wc c).toNat (DO c)
def nS(c:ae):ae:=if iH c=4 then j9 (kI c) vR else kI c
def tR(c:ae):Int:=if iH c=4 then gL (kI c) vR else 0
def sX(c:ae):BA:=if iH c=3/\b8 (nS c) 2=true then cv (aa (nS c) 2) pZ else ai
def tS(c:ae):ae:=if iH c=3 then(if b8 (nS c) 2=true then bS (aa (nS c) 2) pZ else aa (nS c) 2) else nS c
def we(eZ:Int)(c:ae):eX:=if iH c=2 then⟨iH c,ai,[],ag (j9 c pd) eZ,ai⟩ else if iH c=5\/iH c=6 then⟨iH c,ai,[],0,ai⟩ else⟨iH c,hZ c,mF c,tR c,sX c⟩
def pB(eZ:Int)(c:ae):ae:=if iH c=2 then aa (j9 c pd) eZ else if iH c=5\/iH c=6 then j9 c pd else tS c
theorem Mv(c:ae):0<=wc c/\wc c<=2:=by unfold wc;split<;>omega
theorem JO{c:ae}(h:bj c):bj (DO c):=fh (ky h _) _
theorem DE{c:ae}(h:bj c):bj (kI c):=tM (fun _=>JK) (JO h)
theorem DD{c:ae}(h:bj c):bj (nS c):=by
 unfold nS;split
 ·exact ky (DE h) _
 ·exact DE h
theorem xD{c:ae}(eZ:Int)(h:bj c):bj (pB eZ c):=by
 unfold pB;split
 ·exact aq (ky h _) _
 ·split
  ·exact ky h _
  ·unfold tS;split
   ·split
    ·exact fh (aq (DD h) _) _
    ·exact aq (DD h) _
   ·exact DD h
theorem zl(c:ae):(mF c).length<=2:=by
 have:=Mv c
 rw[mF,lW];simp only[fO];omega
theorem N7(eZ:Int)(c:ae):(we eZ c).ay.length<=2:=by
 have:=zl c
 unfold we;split
 ·simp
 ·split
  ·simp
  ·exact this
def qx(vars:List BA)(a:cp):cp:=if eE vars a=true then a else if vars.length=0 then⟨2,ai,⟨1,1,ai⟩⟩ else⟨1,List.getD vars 0 ai,dx⟩
def NO(vars:List BA)(x:c_):c_:=⟨x.Op,qx vars x.L,qx vars x.R⟩
def pg(vars:List BA)(e:b7):b7:=⟨e.Op,qx vars e.L,if e.Op=ai then e.R else qx vars e.R⟩
def Dl(vars:List BA)(a:eX):eX:=⟨a.Kind,a.Name,a.ay.map (pg vars),a.N,a.aW⟩
def la:List Int:=[0,0,5,-5,100]
def OQ(c:ae):ae:=j9 c la
def ON(c:ae):Int:=1+ag (OQ c) 3
def F8(c:ae):ae:=aa (OQ c) 3
def kO(c:ae):List cn:=lZ (oD false) ib (ON c).toNat [] (F8 c)
def Ep(c:ae):ae:=pc ib (ON c).toNat (F8 c)
def vI(c:ae):ae:=aa (Ep c) 3
def dJ(c:ae):List cn:=if b8 (Ep c) 3=true then kO c++[oD true (vI c)] else kO c
def Cw(c:ae):ae:=if b8 (Ep c) 3=true then ib (vI c) else vI c
def cX(c:ae):List BA:=cL (dJ c)
def vH(c:ae):ae:=aa (Cw c) 3
def fM(c:ae):List c_:=if b8 (Cw c) 3=true then[NO (cX c) (xz (vH c))] else[]
def yw(c:ae):ae:=if b8 (Cw c) 3=true then qy (vH c) else vH c
def Of(c:ae):Int:=1+ag (yw c) 3
def OP(c:ae):ae:=aa (yw c) 3
def EZ(c:ae)(d:ae):eX:=Dl (cX c) (we (cH (dJ c)) d)
def qq(c:ae)(d:ae):ae:=pB (cH (dJ c)) d
def qp(c:ae):List eX:=lZ (EZ c) (qq c) (Of c).toNat [] (OP c)
def mZ(c:ae):ae:=pc (qq c) (Of c).toNat (OP c)
def lV(name:BA)(c:ae):aV:=⟨name,gL c la,dJ c,fM c,qp c⟩
theorem Mj{c:ae}(h:bj c):bj (F8 c):=aq (ky h _) _
theorem Mi{c:ae}(h:bj c):bj (Ep c):=tM (fun _=>pu) (Mj h)
theorem Mh{c:ae}(h:bj c):bj (Cw c):=by
 unfold Cw;split
 ·exact pu (aq (Mi h) _)
 ·exact aq (Mi h) _
theorem G1{c:ae}(h:bj c):bj (yw c):=by
 unfold yw;split
 ·exact zf (aq (Mh h) _)
 ·exact aq (Mh h) _
theorem AK{c:ae}(h:bj c):bj (mZ c):=tM (fun _=>xD _) (aq (G1 h) _)
theorem Ks(c:ae):1<=ON c/\ON c<=3:=by
 have:=br (c:=OQ c) (n:=3) (by omega)
 unfold ON;omega
theorem OO(c:ae):1<=Of c/\Of c<=3:=by
 have:=br (c:=yw c) (n:=3) (by omega)
 unfold Of;omega
def rv:List BA:=[⟨#[114,49]⟩,⟨#[114,50]⟩,⟨#[114,51]⟩,⟨#[114,52]⟩]
def zG:List BA:=[⟨#[102,108,111,119]⟩,⟨#[115,104,105,112]⟩,⟨#[120]⟩]
def JF:Nat->Nat->List aV->ae->List aV
 |0,_,l,_=>l
 |k+1,i,l,c=>if(i:Int)<1+ag c 4 then JF k (i+1) (l++[lV (List.getD rv i ai) (aa c 4)]) (mZ (aa c 4)) else l
def Ll:Nat->Nat->ae->ae
 |0,_,c=>aa c 4
 |k+1,i,c=>if(i:Int)<1+ag c 4 then Ll k (i+1) (mZ (aa c 4)) else aa c 4
def ca(c:ae):bB:=⟨cv c zG,JF 4 0 [] (bS c zG)⟩
def iD(c:ae):ae:=Ll 4 0 (bS c zG)
theorem JL:∀{k i:Nat}{c:ae},bj c->bj (Ll k i c)
 |0,_,_,h=>aq h _
 |k+1,i,c,h=>by
  unfold Ll;split
  ·exact JL (k:=k) (AK (aq h _))
  ·exact aq h _
theorem xB{c:ae}(h:bj c):bj (iD c):=JL (fh h _)
theorem LdA{a a':cp}{d d':ae}(h1:a=a')(h2:d=d'):ap [DV.agg [.lit (.int .i64 a.K),.lit (.string a.S),.lit (.int .i64 a.V.K),.lit (.int .i64 a.V.N),.lit (.string a.V.S)]]=ap [DV.agg [.lit (.int .i64 a'.K),.lit (.string a'.S),.lit (.int .i64 a'.V.K),.lit (.int .i64 a'.V.N),.lit (.string a'.V.S)]]/\ap [DV.box [.sl .byte d.b,.lit (.int .i64 d.i),.lit (.int .i64 d.h)]]=ap [DV.box [.sl .byte d'.b,.lit (.int .i64 d'.i),.lit (.int .i64 d'.h)]]:=by
 subst h1 h2;exact⟨rfl,rfl⟩
theorem LdP{a a':cn}{d d':ae}(h1:a=a')(h2:d=d'):ap [DV.agg [.lit (.string a.Kind),.sl .er a.ay,.lit (.bool a.Not)]]=ap [DV.agg [.lit (.string a'.Kind),.sl .er a'.ay,.lit (.bool a'.Not)]]/\ap [DV.box [.sl .byte d.b,.lit (.int .i64 d.i),.lit (.int .i64 d.h)]]=ap [DV.box [.sl .byte d'.b,.lit (.int .i64 d'.i),.lit (.int .i64 d'.h)]]:=by
 subst h1 h2;exact⟨rfl,rfl⟩
theorem LdE{a a':b7}{d d':ae}(h1:a=a')(h2:d=d'):ap [DV.agg [.lit (.string a.Op),.lit (.int .i64 a.L.K),.lit (.string a.L.S),.lit (.int .i64 a.L.V.K),.lit (.int .i64 a.L.V.N),.lit (.string a.L.V.S),.lit (.int .i64 a.R.K),.lit (.string a.R.S),.lit (.int .i64 a.R.V.K),.lit (.int .i64 a.R.V.N),.lit (.string a.R.V.S)]]=ap [DV.agg [.lit (.string a'.Op),.lit (.int .i64 a'.L.K),.lit (.string a'.L.S),.lit (.int .i64 a'.L.V.K),.lit (.int .i64 a'.L.V.N),.lit (.string a'.L.V.S),.lit (.int .i64 a'.R.K),.lit (.string a'.R.S),.lit (.int .i64 a'.R.V.K),.lit (.int .i64 a'.R.V.N),.lit (.string a'.R.V.S)]]/\ap [DV.box [.sl .byte d.b,.lit (.int .i64 d.i),.lit (.int .i64 d.h)]]=ap [DV.box [.sl .byte d'.b,.lit (.int .i64 d'.i),.lit (.int .i64 d'.h)]]:=by
 subst h1 h2;exact⟨rfl,rfl⟩
theorem rb{a a':eX}{d d':ae}(h1:a=a')(h2:d=d'):ap [DV.agg [.lit (.int .i64 a.Kind),.lit (.string a.Name),.sl .bq a.ay,.lit (.int .i64 a.N),.lit (.string a.aW)]]=ap [DV.agg [.lit (.int .i64 a'.Kind),.lit (.string a'.Name),.sl .bq a'.ay,.lit (.int .i64 a'.N),.lit (.string a'.aW)]]/\ap [DV.box [.sl .byte d.b,.lit (.int .i64 d.i),.lit (.int .i64 d.h)]]=ap [DV.box [.sl .byte d'.b,.lit (.int .i64 d'.i),.lit (.int .i64 d'.h)]]:=by
 subst h1 h2;exact⟨rfl,rfl⟩
def RI:bp UU where
 α:=aQ
 md:=[.ro]
 of:=o1 (oA .aM)
 ds:=fun x=>[dA .aM x]
 pre:=fun _=>[]
 bT:=fun v=>⟨[dA .er (⟨2,ai,v⟩:cp)],[],[]⟩
 law:=l1 (lA .aM)
def aj0:RI.α->Nat->Option (bY UU):=fun v=>aN []
def aeW:List (FuncId×bp UU):=[]
theorem agH:Holds EE (163,RI):=by
 refine holds_of ax func163 RI (by kernel_rfl) aeW all_nil aj0 (fun(v:aQ) hp hb=> ?_)
 have vV:=iW (x:=v) (hb _ m0)
 clear hp hb
 apply @ve _ (Lf [DV.agg [CI 2,CS ({data:= #[]:BA}),CI v.K,CI v.N,CS v.S]] [DV.agg [CI 2,CS ai,CI v.K,CI v.N,CS v.S]]) (by kernel_rfl)
 exact bN _
def SN:HH:=⟨_,agH⟩
def RH:bp UU where
 α:=BA
 md:=[.ro]
 of:=o1 oS
 ds:=fun x=>[dS x]
 pre:=fun _=>[]
 bT:=fun s=>⟨[dA .er (⟨1,s,dx⟩:cp)],[],[]⟩
 law:=l1 lS
def ajZ:RH.α->Nat->Option (bY UU):=fun s=>aN []
def aeV:List (FuncId×bp UU):=[]
theorem agG:Holds EE (164,RH):=by
 refine holds_of ax func164 RH (by kernel_rfl) aeV all_nil ajZ (fun(s:BA) hp hb=> ?_)
 have Aj:=Ao (s:=s) (hb _ m0)
 clear hp hb
 apply @ve _ (Lf [DV.agg [CI 1,CS s,CI 0,CI 0,CS ({data:= #[]:BA})]] [DV.agg [CI 1,CS s,CI dx.K,CI dx.N,CS dx.S]]) (by kernel_rfl)
 exact bN _
def SM:HH:=⟨_,agG⟩
def RK:bp UU where
 α:=ae
 md:=[.box false]
 of:=o1 oU
 ds:=fun x=>[dU x]
 pre:=fun c=>[bj c]
 bT:=fun c=>⟨[dA .er (hJ c)],[],[dU (fC c)]⟩
 law:=l1 lU
def aj2:RK.α->Nat->Option (bY UU):=fun c=>aN []
def aeY:=us [mL,SF,q_,SN,SM]
theorem agJ:Holds EE (161,RK):=by
 refine holds_of ax func161 RK (by kernel_rfl) aeY (aE _) aj2 (fun(c:ae) hp hb=> ?_)
 have dK:=sK (x:=c) (hb _ m0)
 have bC:bj c:=hp _ m0
 clear hp hb
 apply @ve _ (let x1:List BA:=[{data:= #[(88:UInt8)]:BA},{data:= #[(89:UInt8)]:BA},{data:= #[(90:UInt8)]:BA},{data:= #[(88:UInt8)]:BA}];let x0:ae:=bS (aa c 6) x1;let q0:=aa c 6;0<=c.i/\c.b.length<=4294967296/\bif ag c (6:Int)==(0:Int) then(0:Nat)=(0:Nat)/\ap [DV.agg [CI 3,CS ({data:= #[]:BA}),CI 0,CI 0,CS ({data:= #[]:BA})]]=ap [DV.agg [CI ((hJ c).K),CS ((hJ c).S),CI ((hJ c).V.K),CI ((hJ c).V.N),CS ((hJ c).V.S)]]/\ap [DV.box [CL .byte q0.b,CI (q0.i),CI (q0.h)]]=ap [DV.box [CL .byte (fC c).b,CI ((fC c).i),CI ((fC c).h)]] else bif ag c (6:Int)==(1:Int) then bj q0/\(0:Nat)=(0:Nat)/\ap [DV.agg [CI 2,CS ai,CI ((dR q0).K),CI ((dR q0).N),CS ((dR q0).S)]]=ap [DV.agg [CI ((hJ c).K),CS ((hJ c).S),CI ((hJ c).V.K),CI ((hJ c).V.N),CS ((hJ c).V.S)]]/\ap [DV.box [CL .byte (ew q0).b,CI ((ew q0).i),CI ((ew q0).h)]]=ap [DV.box [CL .byte (fC c).b,CI ((fC c).i),CI ((fC c).h)]] else bj q0/\1<=x1.length/\(0:Nat)=(0:Nat)/\ap [DV.agg [CI 1,CS (cv q0 x1),CI dx.K,CI dx.N,CS dx.S]]=ap [DV.agg [CI ((hJ c).K),CS ((hJ c).S),CI ((hJ c).V.K),CI ((hJ c).V.N),CS ((hJ c).V.S)]]/\ap [DV.box [CL .byte x0.b,CI x0.i,CI x0.h]]=ap [DV.box [CL .byte (fC c).b,CI ((fC c).i),CI ((fC c).h)]]) (by kernel_rfl)
 dsimp only
 have h6:=aq bC 6
 refine⟨bC.1,bC.2,bo (fun h=>⟨by trivial,?_⟩) (fun h=>bo (fun h'=>⟨h6,by trivial,?_⟩) (fun h'=>⟨h6,by simp,by trivial,?_⟩))⟩
 ·exact LdA (a:=⟨3,ai,dx⟩) (d:=aa c 6) (if_pos h).symm (if_pos h).symm
 ·exact LdA (a:=⟨2,ai,dR (aa c 6)⟩) (d:=ew (aa c 6)) ((if_neg h).trans (if_pos h')).symm ((if_neg h).trans (if_pos h')).symm
 ·exact LdA (a:=⟨1,cv (aa c 6) Ik,dx⟩) (d:=bS (aa c 6) Ik) ((if_neg h).trans (if_neg h')).symm ((if_neg h).trans (if_neg h')).symm
def Mx:HH:=⟨_,agJ⟩
def Sm:bp UU where
 α:=ae×Bool
 md:=[.box false,.ro]
 of:=oC oU (o1 oO)
 ds:=fun x=>[dU x.1,dO x.2]
 pre:=fun(c,not)=>[bj c]
 bT:=fun(c,not)=>⟨[dA .cU (oD not c)],[],[dU (ib c)]⟩
 law:=lC lU (l1 lO)
def qj(c:ae)(not:Bool):Int×T8×T8×T3×Unit->Prop:=fun(i,r,p,cu,_)=>0<=i/\i<=tv c/\p.1=cv c cM/\p.2.2.1=not/\bj ⟨cu.1,cu.2.1,cu.2.2.1⟩/\p.2.1.length<=i/\lZ hJ fC (tv c-i).toNat p.2.1 ⟨cu.1,cu.2.1,cu.2.2.1⟩=(oD not c).ay/\pc fC (tv c-i).toNat ⟨cu.1,cu.2.1,cu.2.2.1⟩=ib c
def uS(c:ae)(not:Bool):Int×T8×T8×T3×Unit->Nat:=fun(i,r,p,cu,_)=>(tv c-i).toNat
def akC:Sm.α->Nat->Option (bY UU):=fun(c,not)=>aN [(6,bh [.slot 7 (7,1024) (.lit (.int .i64)),.box 4 (4,1024) [.lit .str,.own .er true,.lit .bool],.box 5 (5,1024) [.lit .str,.own .er true,.lit .bool],.box 0 (2000000,0) [.shr .byte,.lit (.int .i64),.lit (.int .i64)]] (fun _=>qj c not) (uS c not))]
def afy:=us [q_,Mx]
theorem ahl:Holds EE (121,Sm):=by
 refine holds_of ax func121 Sm (by kernel_rfl) afy (aE _) akC (fun x hp hb=> ?_)
 obtain⟨c,not⟩:=x
 have dK:=sK (x:=c) (hb _ m0)
 have bC:bj c:=hp _ m0
 clear hp hb
 apply @ve _ (let x2:BA:={data:= #[(111:UInt8),(114:UInt8),(100:UInt8),(101:UInt8),(114:UInt8)]:BA};let x3:BA:={data:= #[(105:UInt8),(116:UInt8),(101:UInt8),(109:UInt8)]:BA};let x1:List BA:=[x2,{data:= #[(112:UInt8),(97:UInt8),(105:UInt8),(100:UInt8)]:BA},x3,x2];let x0:ae:=bS c x1;let q0:=BA×List cp×Bool×PUnit;let q1:=(0,({data:= #[]:BA},[],false,()),(cv c x1,[],not,()),(x0.b,x0.i,x0.h,()),());let q2:=oD not c;bj c/\1<=x1.length/\bif ByteArray.toList (cv c x1)==ByteArray.toList x3 then qj c not q1/\∀(y:Int×q0×q0×MB×PUnit),let x5:ae:={b:=y.2.2.2.1.1,i:=y.2.2.2.1.2.1,h:=y.2.2.2.1.2.2.1:ae};let x4:ae:=fC x5;let q3:=(IntKind.wrap IntKind.i64 (y.1+1),(y.2.1.1,y.2.1.2.1,y.2.1.2.2.1,()),(y.2.2.1.1,y.2.2.1.2.1++[hJ x5],y.2.2.1.2.2.1,()),(x4.b,x4.i,x4.h,()),());qj c not y->bif decide (y.1<2) then bj x5/\y.2.2.1.2.1.length+List.length [hJ x5]<=4294967296/\qj c not q3/\uS c not q3<uS c not y else(0:Nat)=(0:Nat)/\ap [DV.agg [CS y.2.2.1.1,CL .er y.2.2.1.2.1,CO y.2.2.1.2.2.1]]=ap [DV.agg [CS (q2.Kind),CL .er q2.ay,CO (q2.Not)]]/\ap [DV.box [CL .byte y.2.2.2.1.1,CI y.2.2.2.1.2.1,CI y.2.2.2.1.2.2.1]]=ap [DV.box [CL .byte (ib c).b,CI ((ib c).i),CI ((ib c).h)]] else qj c not q1/\∀(y:Int×q0×q0×MB×PUnit),let x5:ae:={b:=y.2.2.2.1.1,i:=y.2.2.2.1.2.1,h:=y.2.2.2.1.2.2.1:ae};let x4:ae:=fC x5;let q4:=(IntKind.wrap IntKind.i64 (y.1+1),(y.2.1.1,y.2.1.2.1,y.2.1.2.2.1,()),(y.2.2.1.1,y.2.2.1.2.1++[hJ x5],y.2.2.1.2.2.1,()),(x4.b,x4.i,x4.h,()),());qj c not y->bif decide (y.1<1) then bj x5/\y.2.2.1.2.1.length+List.length [hJ x5]<=4294967296/\qj c not q4/\uS c not q4<uS c not y else(0:Nat)=(0:Nat)/\ap [DV.agg [CS y.2.2.1.1,CL .er y.2.2.1.2.1,CO y.2.2.1.2.2.1]]=ap [DV.agg [CS (q2.Kind),CL .er q2.ay,CO (q2.Not)]]/\ap [DV.box [CL .byte y.2.2.2.1.1,CI y.2.2.2.1.2.1,CI y.2.2.2.1.2.2.1]]=ap [DV.box [CL .byte (ib c).b,CI ((ib c).i),CI ((ib c).h)]]) (by kernel_rfl)
 dsimp only
 have hk:=fh bC cM
 have hle:=Gh c
 have fin:qj c not ((0:Int),(ai,[],false,()),(cv c cM,[],not,()),((bS c cM).b,(bS c cM).i,(bS c cM).h,()),()):=⟨by omega,hle.1,rfl,rfl,hk,by simp,by simp only[Int.sub_zero];rfl,by simp only[Int.sub_zero];rfl⟩
 have h2:∀{b:Bool},(ByteArray.toList (cv c cM)==ByteArray.toList DL)=b->tv c=if b=true then 2 else 1:=fun{b} h=>by
  rw[bx] at h
  unfold tv
  cases b with
  |true=>rw[if_pos (yT h)];rfl
  |false=>rw[if_neg (yF h)];rfl
 refine⟨bC,by simp,af (fun h=> ?_) (fun h=> ?_)⟩
 all_goals
  have hN:=h2 h
  simp only[if_true,wx,if_false] at hN
  clear h
  refine⟨fin,?_⟩
  rintro⟨i,⟨r1,r2,r3,⟨⟩⟩,⟨p1,p2,p3,⟨⟩⟩,⟨cb,ci,ch,⟨⟩⟩,⟨⟩⟩ ⟨g1,g2,g3,g4,g5,g6,g7,g8⟩
  simp only at g1 g2 g3 g4 g5 g6 g7 g8⊢
  refine aU (fun hc=> ?_) (fun hc=>⟨by trivial,?_⟩)
  ·have e:(tv c-i).toNat=(tv c-(i+1)).toNat+1:=by omega
   rw[e] at g7 g8
   rw[wrap_i64 (by omega) (by omega)]
   exact⟨g5,by simp only[gv,fO];omega,⟨by omega,by omega,g3,g4,xC g5,by simp only[kg,gv,fO];omega,g7,g8⟩,by simp only[uS];omega⟩
  ·have e:(tv c-i).toNat=0:=by omega
   rw[e] at g7 g8
   have g7:p2=(oD not c).ay:=g7
   have g8:(⟨cb,ci,ch⟩:ae)=ib c:=g8
   subst g3 g4 g7
   exact LdP (a:=⟨cv c cM,(oD p3 c).ay,p3⟩) (d:=⟨cb,ci,ch⟩) rfl g8
def WO:HH:=⟨_,ahl⟩
def RJ:bp UU where
 α:=ae
 md:=[.box false]
 of:=o1 oU
 ds:=fun x=>[dU x]
 pre:=fun c=>[bj c]
 bT:=fun c=>⟨[dA .er (dV c)],[],[dU (cC c)]⟩
 law:=l1 lU
def aj1:RJ.α->Nat->Option (bY UU):=fun c=>aN []
def aeX:=us [zv,SF,q_,SN,SM]
theorem agI:Holds EE (162,RJ):=by
 refine holds_of ax func162 RJ (by kernel_rfl) aeX (aE _) aj1 (fun(c:ae) hp hb=> ?_)
 have dK:=sK (x:=c) (hb _ m0)
 have bC:bj c:=hp _ m0
 clear hp hb
 apply @ve _ (let x1:List BA:=[{data:= #[(88:UInt8)]:BA},{data:= #[(89:UInt8)]:BA}];let x0:ae:=bS (aa c 3) x1;let q0:=aa c 3;bj c/\bif b8 c 3 then bj q0/\(0:Nat)=(0:Nat)/\ap [DV.agg [CI 2,CS ai,CI ((dR q0).K),CI ((dR q0).N),CS ((dR q0).S)]]=ap [DV.agg [CI ((dV c).K),CS ((dV c).S),CI ((dV c).V.K),CI ((dV c).V.N),CS ((dV c).V.S)]]/\ap [DV.box [CL .byte (ew q0).b,CI ((ew q0).i),CI ((ew q0).h)]]=ap [DV.box [CL .byte (cC c).b,CI ((cC c).i),CI ((cC c).h)]] else bj q0/\1<=x1.length/\(0:Nat)=(0:Nat)/\ap [DV.agg [CI 1,CS (cv q0 x1),CI dx.K,CI dx.N,CS dx.S]]=ap [DV.agg [CI ((dV c).K),CS ((dV c).S),CI ((dV c).V.K),CI ((dV c).V.N),CS ((dV c).V.S)]]/\ap [DV.box [CL .byte x0.b,CI x0.i,CI x0.h]]=ap [DV.box [CL .byte (cC c).b,CI ((cC c).i),CI ((cC c).h)]]) (by kernel_rfl)
 dsimp only
 have h6:=aq bC 3
 refine⟨bC,af (fun h=>⟨h6,by trivial,?_⟩) (fun h=>⟨h6,by simp,by trivial,?_⟩)⟩
 ·exact LdA (a:=⟨2,ai,dR (aa c 3)⟩) (d:=ew (aa c 3)) (if_pos h).symm (if_pos h).symm
 ·have h:¬b8 c 3=true:=by rw[h];decide
  exact LdA (a:=⟨1,cv (aa c 3) OH,dx⟩) (d:=bS (aa c 3) OH) (if_neg h).symm (if_neg h).symm
def SO:HH:=⟨_,agI⟩
def Lt:bp UU where
 α:=ae
 md:=[.box false]
 of:=o1 oU
 ds:=fun x=>[dU x]
 pre:=fun c=>[bj c]
 bT:=fun c=>⟨[dA .bL (xz c)],[],[dU (qy c)]⟩
 law:=l1 lU
def abd:Lt.α->Nat->Option (bY UU):=fun c=>aN []
def ZG:=us [mL,SO]
theorem ZJ:Holds EE (122,Lt):=by
 refine holds_of ax func122 Lt (by kernel_rfl) ZG (aE _) abd (fun(c:ae) hp hb=> ?_)
 have dK:=sK (x:=c) (hb _ m0)
 have bC:bj c:=hp _ m0
 clear hp hb
 apply @ve _ (let x1:ae:=cC (cC (aa c 3));let x2:cp:=dV (cC (aa c 3));let x3:aQ:=(dV (aa c 3)).V;let x4:Int:=(1:Int)+ag c 3;let x0:aQ:=x2.V;let q0:=aa c 3;0<=c.i/\c.b.length<=4294967296/\bj q0/\bj (cC q0)/\(0:Nat)=(0:Nat)/\ap [DV.agg [CI (IntKind.wrap IntKind.i64 x4),CI ((dV q0).K),CS ((dV q0).S),CI x3.K,CI x3.N,CS x3.S,CI x2.K,CS x2.S,CI x0.K,CI x0.N,CS x0.S]]=ap [DV.agg [CI x4,CI ((dV q0).K),CS ((dV q0).S),CI x3.K,CI x3.N,CS x3.S,CI x2.K,CS x2.S,CI x0.K,CI x0.N,CS x0.S]]/\ap [DV.box [CL .byte x1.b,CI x1.i,CI x1.h]]=ap [DV.box [CL .byte x1.b,CI x1.i,CI x1.h]]) (by kernel_rfl)
 dsimp only
 have hb:=br (c:=c) (n:=3) (by omega)
 have h3:=aq bC 3
 rw[wrap_i64 (by omega) (by omega)]
 exact⟨bC.1,bC.2,h3,pt h3,by trivial,rfl,rfl⟩
def aa_:HH:=⟨_,ZJ⟩
def RG:bp UU where
 α:=ae
 md:=[.box false]
 of:=o1 oU
 ds:=fun x=>[dU x]
 pre:=fun c=>[bj c]
 bT:=fun c=>⟨[dA .bq (fy c)],[],[dU (gA c)]⟩
 law:=l1 lU
def ajY:RG.α->Nat->Option (bY UU):=fun c=>aN []
def aeU:=us [zv,SO,q_]
theorem agF:Holds EE (165,RG):=by
 refine holds_of ax func165 RG (by kernel_rfl) aeU (aE _) ajY (fun(c:ae) hp hb=> ?_)
 have dK:=sK (x:=c) (hb _ m0)
 have bC:bj c:=hp _ m0
 clear hp hb
 apply @ve _ (let x4:List BA:=[{data:= #[(43:UInt8)]:BA},{data:= #[(45:UInt8)]:BA}];let x5:ae:=aa (cC c) 4;let x3:ae:=bS x5 x4;let x1:ae:=cC x3;let x2:cp:=dV x3;let x0:aQ:=x2.V;let q0:={data:= #[]:BA};bj c/\bj (cC c)/\bif b8 (cC c) 4 then bj x5/\1<=x4.length/\bj x3/\(0:Nat)=(0:Nat)/\ap [DV.agg [CS (cv x5 x4),CI ((dV c).K),CS ((dV c).S),CI ((dV c).V.K),CI ((dV c).V.N),CS ((dV c).V.S),CI x2.K,CS x2.S,CI x0.K,CI x0.N,CS x0.S]]=ap [DV.agg [CS ((fy c).Op),CI ((fy c).L.K),CS ((fy c).L.S),CI ((fy c).L.V.K),CI ((fy c).L.V.N),CS ((fy c).L.V.S),CI ((fy c).R.K),CS ((fy c).R.S),CI ((fy c).R.V.K),CI ((fy c).R.V.N),CS ((fy c).R.V.S)]]/\ap [DV.box [CL .byte x1.b,CI x1.i,CI x1.h]]=ap [DV.box [CL .byte (gA c).b,CI ((gA c).i),CI ((gA c).h)]] else(0:Nat)=(0:Nat)/\ap [DV.agg [CS q0,CI ((dV c).K),CS ((dV c).S),CI ((dV c).V.K),CI ((dV c).V.N),CS ((dV c).V.S),CI 0,CS q0,CI 0,CI 0,CS q0]]=ap [DV.agg [CS ((fy c).Op),CI ((fy c).L.K),CS ((fy c).L.S),CI ((fy c).L.V.K),CI ((fy c).L.V.N),CS ((fy c).L.V.S),CI ((fy c).R.K),CS ((fy c).R.S),CI ((fy c).R.V.K),CI ((fy c).R.V.N),CS ((fy c).R.V.S)]]/\ap [DV.box [CL .byte x5.b,CI x5.i,CI x5.h]]=ap [DV.box [CL .byte (gA c).b,CI ((gA c).i),CI ((gA c).h)]]) (by kernel_rfl)
 dsimp only
 have h1:=pt bC
 have h4:=aq h1 4
 refine⟨bC,h1,af (fun h=>⟨h4,by simp,fh h4 _,by trivial,?_⟩) (fun h=>⟨by trivial,?_⟩)⟩
 ·exact LdE (a:=⟨cv (aa (cC c) 4) Cs,dV c,dV (bS (aa (cC c) 4) Cs)⟩) (d:=cC (bS (aa (cC c) 4) Cs)) (if_pos h).symm (if_pos h).symm
 ·have h:¬b8 (cC c) 4=true:=by rw[h];decide
  exact LdE (a:=⟨ai,dV c,nW⟩) (d:=aa (cC c) 4) (if_neg h).symm (if_neg h).symm
def aiv:HH:=⟨_,agF⟩
def Sj:bp UU where
 α:=ae×Int
 md:=[.box false,.ro]
 of:=oC oU (o1 oI)
 ds:=fun x=>[dU x.1,dI x.2]
 pre:=fun(c,eZ)=>[bj c]
 bT:=fun(c,eZ)=>⟨[dA .cV (we eZ c)],[],[dU (pB eZ c)]⟩
 law:=lC lU (l1 lI)
def iI(c:ae)(eZ:Int):Int×T12×T12×T3×Unit->Prop:=fun(i,r,p,cu,_)=>0<=i/\i<=wc c/\p.1=iH c/\p.2.1=hZ c/\p.2.2.2.1=0/\p.2.2.2.2.1=ai/\bj ⟨cu.1,cu.2.1,cu.2.2.1⟩/\p.2.2.1.length<=i/\lZ fy gA (wc c-i).toNat p.2.2.1 ⟨cu.1,cu.2.1,cu.2.2.1⟩=mF c/\pc gA (wc c-i).toNat ⟨cu.1,cu.2.1,cu.2.2.1⟩=kI c
def ll(c:ae)(eZ:Int):Int×T12×T12×T3×Unit->Nat:=fun(i,r,p,cu,_)=>(wc c-i).toNat
def akz:Sj.α->Nat->Option (bY UU):=fun(c,eZ)=>aN [(14,bh [.slot 7 (7,1024) (.lit (.int .i64)),.box 4 (4,1024) [.lit (.int .i64),.lit .str,.own .bq true,.lit (.int .i64),.lit .str],.box 5 (5,1024) [.lit (.int .i64),.lit .str,.own .bq true,.lit (.int .i64),.lit .str],.box 0 (2000000,0) [.shr .byte,.lit (.int .i64),.lit (.int .i64)]] (fun _=>iI c eZ) (ll c eZ))]
def afv:=us [Eb,mL,q_,aiv,zv]
theorem ahi:Holds EE (124,Sj):=by
 refine holds_of ax func124 Sj (by kernel_rfl) afv (aE _) akz (fun x hp hb=> ?_)
 obtain⟨c,eZ⟩:=x
 have dK:=sK (x:=c) (hb _ m0)
 have ak7:=sL (n:=eZ) (hb _ m1)
 have bC:bj c:=hp _ m0
 clear hp hb
 apply @ve _ (let x4:List BA:=[{data:= #[(114:UInt8),(101:UInt8),(102:UInt8),(117:UInt8),(110:UInt8),(100:UInt8)]:BA},{data:= #[(99:UInt8),(97:UInt8),(110:UInt8),(99:UInt8),(101:UInt8),(108:UInt8)]:BA}];let x7:List Int:=[1,1,2,3,3,4,5,6];let x9:BA:={data:= #[(105:UInt8),(116:UInt8),(101:UInt8),(109:UInt8)]:BA};let rc:List Int:=[0,1,5,100000];let yj:BA:={data:= #[]:BA};let x3:List BA:=[{data:= #[(111:UInt8),(114:UInt8),(100:UInt8),(101:UInt8),(114:UInt8)]:BA},{data:= #[(112:UInt8),(97:UInt8),(105:UInt8),(100:UInt8)]:BA},x9,{data:= #[(115:UInt8),(104:UInt8),(105:UInt8),(112:UInt8)]:BA},{data:= #[(99:UInt8),(104:UInt8),(97:UInt8),(114:UInt8),(103:UInt8),(101:UInt8)]:BA}];let x6:Nat:=x7.length;let pT:Nat:=rc.length;let x5:Int:=(↑x6:Int);let x8:Int:=(↑pT:Int);let x1:Int:=List.getD x7 (Int.toNat (ag c x5)) 0;let x2:ae:=aa c x5;let x0:ae:=bS x2 x3;let q0:=we eZ c;let q1:=pB eZ c;let q2:=Int×BA×List b7×Int×BA×PUnit;let q3:=(0,(0,yj,[],0,yj,()),(x1,cv x2 x3,[],0,yj,()),(x0.b,x0.i,x0.h,()),());let q4:=(0:Nat)=(0:Nat)/\ap [DV.agg [CI x1,CS yj,CL .bq [],CI 0,CS yj]]=ap [DV.agg [CI (q0.Kind),CS (q0.Name),CL .bq q0.ay,CI (q0.N),CS (q0.aW)]]/\ap [DV.box [CL .byte x2.b,CI x2.i,CI x2.h]]=ap [DV.box [CL .byte q1.b,CI (q1.i),CI (q1.h)]];let q5:=List Int×Int×Int×PUnit;0<=c.i/\c.b.length<=4294967296/\1<=x6/\bif x1==2 then 0<=x2.i/\x2.b.length<=4294967296/\(0:Nat)=(0:Nat)/\ap [DV.agg [CI x1,CS yj,CL .bq [],CI (ag x2 eZ),CS yj]]=ap [DV.agg [CI (q0.Kind),CS (q0.Name),CL .bq q0.ay,CI (q0.N),CS (q0.aW)]]/\ap [DV.box [CL .byte (aa x2 eZ).b,CI ((aa x2 eZ).i),CI ((aa x2 eZ).h)]]=ap [DV.box [CL .byte q1.b,CI (q1.i),CI (q1.h)]] else bif x1==5 then bif x1==5 then q4 else bj x2/\1<=x3.length/\bif ByteArray.toList (cv x2 x3)==ByteArray.toList x9 then iI c eZ q3/\∀(y:Int×q2×q2×q5×PUnit),let jI:ae:={b:=y.2.2.2.1.1,i:=y.2.2.2.1.2.1,h:=y.2.2.2.1.2.2.1:ae};let Aq:Bool:=y.2.2.1.1==3;let og:ae:=aa (aa jI x8) 2;let Ef:ae:=bS (aa jI 2) x4;let q6:=(IntKind.wrap IntKind.i64 (y.1+1),(y.2.1.1,y.2.1.2.1,y.2.1.2.2.1,y.2.1.2.2.2.1,y.2.1.2.2.2.2.1,()),(y.2.2.1.1,y.2.2.1.2.1,y.2.2.1.2.2.1++[fy jI],y.2.2.1.2.2.2.1,y.2.2.1.2.2.2.2.1,()),((gA jI).b,(gA jI).i,(gA jI).h,()),());let q7:=List.getD rc (Int.toNat (ag jI x8)) 0;let q8:=aa jI 2;let q9:=aa jI x8;iI c eZ y->bif decide (y.1<2) then bj jI/\y.2.2.1.2.2.1.length+List.length [fy jI]<=4294967296/\iI c eZ q6/\ll c eZ q6<ll c eZ y else bif y.2.2.1.1==4 then 0<=y.2.2.2.1.2.1/\y.2.2.2.1.1.length<=4294967296/\1<=pT/\bif Aq then bj q9/\bif b8 q9 2 then bj og/\1<=x4.length/\(0:Nat)=(0:Nat)/\ap [DV.agg [CI y.2.2.1.1,CS y.2.2.1.2.1,CL .bq y.2.2.1.2.2.1,CI q7,CS (cv og x4)]]=ap [DV.agg [CI (q0.Kind),CS (q0.Name),CL .bq q0.ay,CI (q0.N),CS (q0.aW)]]/\ap [DV.box [CL .byte (bS og x4).b,CI ((bS og x4).i),CI ((bS og x4).h)]]=ap [DV.box [CL .byte q1.b,CI (q1.i),CI (q1.h)]] else(0:Nat)=(0:Nat)/\ap [DV.agg [CI y.2.2.1.1,CS y.2.2.1.2.1,CL .bq y.2.2.1.2.2.1,CI q7,CS y.2.2.1.2.2.2.2.1]]=ap [DV.agg [CI (q0.Kind),CS (q0.Name),CL .bq q0.ay,CI (q0.N),CS (q0.aW)]]/\ap [DV.box [CL .byte og.b,CI og.i,CI og.h]]=ap [DV.box [CL .byte q1.b,CI (q1.i),CI (q1.h)]] else(0:Nat)=(0:Nat)/\ap [DV.agg [CI y.2.2.1.1,CS y.2.2.1.2.1,CL .bq y.2.2.1.2.2.1,CI q7,CS y.2.2.1.2.2.2.2.1]]=ap [DV.agg [CI (q0.Kind),CS (q0.Name),CL .bq q0.ay,CI (q0.N),CS (q0.aW)]]/\ap [DV.box [CL .byte q9.b,CI (q9.i),CI (q9.h)]]=ap [DV.box [CL .byte q1.b,CI (q1.i),CI (q1.h)]] else bif Aq then bj jI/\bif b8 jI 2 then bj q8/\1<=x4.length/\(0:Nat)=(0:Nat)/\ap [DV.agg [CI y.2.2.1.1,CS y.2.2.1.2.1,CL .bq y.2.2.1.2.2.1,CI y.2.2.1.2.2.2.1,CS (cv q8 x4)]]=ap [DV.agg [CI (q0.Kind),CS (q0.Name),CL .bq q0.ay,CI (q0.N),CS (q0.aW)]]/\ap [DV.box [CL .byte Ef.b,CI Ef.i,CI Ef.h]]=ap [DV.box [CL .byte q1.b,CI (q1.i),CI (q1.h)]] else(0:Nat)=(0:Nat)/\ap [DV.agg [CI y.2.2.1.1,CS y.2.2.1.2.1,CL .bq y.2.2.1.2.2.1,CI y.2.2.1.2.2.2.1,CS y.2.2.1.2.2.2.2.1]]=ap [DV.agg [CI (q0.Kind),CS (q0.Name),CL .bq q0.ay,CI (q0.N),CS (q0.aW)]]/\ap [DV.box [CL .byte q8.b,CI (q8.i),CI (q8.h)]]=ap [DV.box [CL .byte q1.b,CI (q1.i),CI (q1.h)]] else(0:Nat)=(0:Nat)/\ap [DV.agg [CI y.2.2.1.1,CS y.2.2.1.2.1,CL .bq y.2.2.1.2.2.1,CI y.2.2.1.2.2.2.1,CS y.2.2.1.2.2.2.2.1]]=ap [DV.agg [CI (q0.Kind),CS (q0.Name),CL .bq q0.ay,CI (q0.N),CS (q0.aW)]]/\ap [DV.box [CL .byte y.2.2.2.1.1,CI y.2.2.2.1.2.1,CI y.2.2.2.1.2.2.1]]=ap [DV.box [CL .byte q1.b,CI (q1.i),CI (q1.h)]] else iI c eZ q3/\∀(y:Int×q2×q2×q5×PUnit),let jI:ae:={b:=y.2.2.2.1.1,i:=y.2.2.2.1.2.1,h:=y.2.2.2.1.2.2.1:ae};let Aq:Bool:=y.2.2.1.1==3;let og:ae:=aa (aa jI x8) 2;let Ef:ae:=bS (aa jI 2) x4;let q10:=(IntKind.wrap IntKind.i64 (y.1+1),(y.2.1.1,y.2.1.2.1,y.2.1.2.2.1,y.2.1.2.2.2.1,y.2.1.2.2.2.2.1,()),(y.2.2.1.1,y.2.2.1.2.1,y.2.2.1.2.2.1++[fy jI],y.2.2.1.2.2.2.1,y.2.2.1.2.2.2.2.1,()),((gA jI).b,(gA jI).i,(gA jI).h,()),());let q11:=List.getD rc (Int.toNat (ag jI x8)) 0;let q12:=aa jI 2;let q13:=aa jI x8;iI c eZ y->bif decide (y.1<1) then bj jI/\y.2.2.1.2.2.1.length+List.length [fy jI]<=4294967296/\iI c eZ q10/\ll c eZ q10<ll c eZ y else bif y.2.2.1.1==4 then 0<=y.2.2.2.1.2.1/\y.2.2.2.1.1.length<=4294967296/\1<=pT/\bif Aq then bj q13/\bif b8 q13 2 then bj og/\1<=x4.length/\(0:Nat)=(0:Nat)/\ap [DV.agg [CI y.2.2.1.1,CS y.2.2.1.2.1,CL .bq y.2.2.1.2.2.1,CI q11,CS (cv og x4)]]=ap [DV.agg [CI (q0.Kind),CS (q0.Name),CL .bq q0.ay,CI (q0.N),CS (q0.aW)]]/\ap [DV.box [CL .byte (bS og x4).b,CI ((bS og x4).i),CI ((bS og x4).h)]]=ap [DV.box [CL .byte q1.b,CI (q1.i),CI (q1.h)]] else(0:Nat)=(0:Nat)/\ap [DV.agg [CI y.2.2.1.1,CS y.2.2.1.2.1,CL .bq y.2.2.1.2.2.1,CI q11,CS y.2.2.1.2.2.2.2.1]]=ap [DV.agg [CI (q0.Kind),CS (q0.Name),CL .bq q0.ay,CI (q0.N),CS (q0.aW)]]/\ap [DV.box [CL .byte og.b,CI og.i,CI og.h]]=ap [DV.box [CL .byte q1.b,CI (q1.i),CI (q1.h)]] else(0:Nat)=(0:Nat)/\ap [DV.agg [CI y.2.2.1.1,CS y.2.2.1.2.1,CL .bq y.2.2.1.2.2.1,CI q11,CS y.2.2.1.2.2.2.2.1]]=ap [DV.agg [CI (q0.Kind),CS (q0.Name),CL .bq q0.ay,CI (q0.N),CS (q0.aW)]]/\ap [DV.box [CL .byte q13.b,CI (q13.i),CI (q13.h)]]=ap [DV.box [CL .byte q1.b,CI (q1.i),CI (q1.h)]] else bif Aq then bj jI/\bif b8 jI 2 then bj q12/\1<=x4.length/\(0:Nat)=(0:Nat)/\ap [DV.agg [CI y.2.2.1.1,CS y.2.2.1.2.1,CL .bq y.2.2.1.2.2.1,CI y.2.2.1.2.2.2.1,CS (cv q12 x4)]]=ap [DV.agg [CI (q0.Kind),CS (q0.Name),CL .bq q0.ay,CI (q0.N),CS (q0.aW)]]/\ap [DV.box [CL .byte Ef.b,CI Ef.i,CI Ef.h]]=ap [DV.box [CL .byte q1.b,CI (q1.i),CI (q1.h)]] else(0:Nat)=(0:Nat)/\ap [DV.agg [CI y.2.2.1.1,CS y.2.2.1.2.1,CL .bq y.2.2.1.2.2.1,CI y.2.2.1.2.2.2.1,CS y.2.2.1.2.2.2.2.1]]=ap [DV.agg [CI (q0.Kind),CS (q0.Name),CL .bq q0.ay,CI (q0.N),CS (q0.aW)]]/\ap [DV.box [CL .byte q12.b,CI (q12.i),CI (q12.h)]]=ap [DV.box [CL .byte q1.b,CI (q1.i),CI (q1.h)]] else(0:Nat)=(0:Nat)/\ap [DV.agg [CI y.2.2.1.1,CS y.2.2.1.2.1,CL .bq y.2.2.1.2.2.1,CI y.2.2.1.2.2.2.1,CS y.2.2.1.2.2.2.2.1]]=ap [DV.agg [CI (q0.Kind),CS (q0.Name),CL .bq q0.ay,CI (q0.N),CS (q0.aW)]]/\ap [DV.box [CL .byte y.2.2.2.1.1,CI y.2.2.2.1.2.1,CI y.2.2.2.1.2.2.1]]=ap [DV.box [CL .byte q1.b,CI (q1.i),CI (q1.h)]] else bif x1==6 then q4 else bj x2/\1<=x3.length/\bif ByteArray.toList (cv x2 x3)==ByteArray.toList x9 then iI c eZ q3/\∀(y:Int×q2×q2×q5×PUnit),let jI:ae:={b:=y.2.2.2.1.1,i:=y.2.2.2.1.2.1,h:=y.2.2.2.1.2.2.1:ae};let Aq:Bool:=y.2.2.1.1==3;let og:ae:=aa (aa jI x8) 2;let Ef:ae:=bS (aa jI 2) x4;let q14:=(IntKind.wrap IntKind.i64 (y.1+1),(y.2.1.1,y.2.1.2.1,y.2.1.2.2.1,y.2.1.2.2.2.1,y.2.1.2.2.2.2.1,()),(y.2.2.1.1,y.2.2.1.2.1,y.2.2.1.2.2.1++[fy jI],y.2.2.1.2.2.2.1,y.2.2.1.2.2.2.2.1,()),((gA jI).b,(gA jI).i,(gA jI).h,()),());let q15:=List.getD rc (Int.toNat (ag jI x8)) 0;let q16:=aa jI 2;let q17:=aa jI x8;iI c eZ y->bif decide (y.1<2) then bj jI/\y.2.2.1.2.2.1.length+List.length [fy jI]<=4294967296/\iI c eZ q14/\ll c eZ q14<ll c eZ y else bif y.2.2.1.1==4 then 0<=y.2.2.2.1.2.1/\y.2.2.2.1.1.length<=4294967296/\1<=pT/\bif Aq then bj q17/\bif b8 q17 2 then bj og/\1<=x4.length/\(0:Nat)=(0:Nat)/\ap [DV.agg [CI y.2.2.1.1,CS y.2.2.1.2.1,CL .bq y.2.2.1.2.2.1,CI q15,CS (cv og x4)]]=ap [DV.agg [CI (q0.Kind),CS (q0.Name),CL .bq q0.ay,CI (q0.N),CS (q0.aW)]]/\ap [DV.box [CL .byte (bS og x4).b,CI ((bS og x4).i),CI ((bS og x4).h)]]=ap [DV.box [CL .byte q1.b,CI (q1.i),CI (q1.h)]] else(0:Nat)=(0:Nat)/\ap [DV.agg [CI y.2.2.1.1,CS y.2.2.1.2.1,CL .bq y.2.2.1.2.2.1,CI q15,CS y.2.2.1.2.2.2.2.1]]=ap [DV.agg [CI (q0.Kind),CS (q0.Name),CL .bq q0.ay,CI (q0.N),CS (q0.aW)]]/\ap [DV.box [CL .byte og.b,CI og.i,CI og.h]]=ap [DV.box [CL .byte q1.b,CI (q1.i),CI (q1.h)]] else(0:Nat)=(0:Nat)/\ap [DV.agg [CI y.2.2.1.1,CS y.2.2.1.2.1,CL .bq y.2.2.1.2.2.1,CI q15,CS y.2.2.1.2.2.2.2.1]]=ap [DV.agg [CI (q0.Kind),CS (q0.Name),CL .bq q0.ay,CI (q0.N),CS (q0.aW)]]/\ap [DV.box [CL .byte q17.b,CI (q17.i),CI (q17.h)]]=ap [DV.box [CL .byte q1.b,CI (q1.i),CI (q1.h)]] else bif Aq then bj jI/\bif b8 jI 2 then bj q16/\1<=x4.length/\(0:Nat)=(0:Nat)/\ap [DV.agg [CI y.2.2.1.1,CS y.2.2.1.2.1,CL .bq y.2.2.1.2.2.1,CI y.2.2.1.2.2.2.1,CS (cv q16 x4)]]=ap [DV.agg [CI (q0.Kind),CS (q0.Name),CL .bq q0.ay,CI (q0.N),CS (q0.aW)]]/\ap [DV.box [CL .byte Ef.b,CI Ef.i,CI Ef.h]]=ap [DV.box [CL .byte q1.b,CI (q1.i),CI (q1.h)]] else(0:Nat)=(0:Nat)/\ap [DV.agg [CI y.2.2.1.1,CS y.2.2.1.2.1,CL .bq y.2.2.1.2.2.1,CI y.2.2.1.2.2.2.1,CS y.2.2.1.2.2.2.2.1]]=ap [DV.agg [CI (q0.Kind),CS (q0.Name),CL .bq q0.ay,CI (q0.N),CS (q0.aW)]]/\ap [DV.box [CL .byte q16.b,CI (q16.i),CI (q16.h)]]=ap [DV.box [CL .byte q1.b,CI (q1.i),CI (q1.h)]] else(0:Nat)=(0:Nat)/\ap [DV.agg [CI y.2.2.1.1,CS y.2.2.1.2.1,CL .bq y.2.2.1.2.2.1,CI y.2.2.1.2.2.2.1,CS y.2.2.1.2.2.2.2.1]]=ap [DV.agg [CI (q0.Kind),CS (q0.Name),CL .bq q0.ay,CI (q0.N),CS (q0.aW)]]/\ap [DV.box [CL .byte y.2.2.2.1.1,CI y.2.2.2.1.2.1,CI y.2.2.2.1.2.2.1]]=ap [DV.box [CL .byte q1.b,CI (q1.i),CI (q1.h)]] else iI c eZ q3/\∀(y:Int×q2×q2×q5×PUnit),let jI:ae:={b:=y.2.2.2.1.1,i:=y.2.2.2.1.2.1,h:=y.2.2.2.1.2.2.1:ae};let Aq:Bool:=y.2.2.1.1==3;let og:ae:=aa (aa jI x8) 2;let Ef:ae:=bS (aa jI 2) x4;let q18:=(IntKind.wrap IntKind.i64 (y.1+1),(y.2.1.1,y.2.1.2.1,y.2.1.2.2.1,y.2.1.2.2.2.1,y.2.1.2.2.2.2.1,()),(y.2.2.1.1,y.2.2.1.2.1,y.2.2.1.2.2.1++[fy jI],y.2.2.1.2.2.2.1,y.2.2.1.2.2.2.2.1,()),((gA jI).b,(gA jI).i,(gA jI).h,()),());let q19:=List.getD rc (Int.toNat (ag jI x8)) 0;let q20:=aa jI 2;let q21:=aa jI x8;iI c eZ y->bif decide (y.1<1) then bj jI/\y.2.2.1.2.2.1.length+List.length [fy jI]<=4294967296/\iI c eZ q18/\ll c eZ q18<ll c eZ y else bif y.2.2.1.1==4 then 0<=y.2.2.2.1.2.1/\y.2.2.2.1.1.length<=4294967296/\1<=pT/\bif Aq then bj q21/\bif b8 q21 2 then bj og/\1<=x4.length/\(0:Nat)=(0:Nat)/\ap [DV.agg [CI y.2.2.1.1,CS y.2.2.1.2.1,CL .bq y.2.2.1.2.2.1,CI q19,CS (cv og x4)]]=ap [DV.agg [CI (q0.Kind),CS (q0.Name),CL .bq q0.ay,CI (q0.N),CS (q0.aW)]]/\ap [DV.box [CL .byte (bS og x4).b,CI ((bS og x4).i),CI ((bS og x4).h)]]=ap [DV.box [CL .byte q1.b,CI (q1.i),CI (q1.h)]] else(0:Nat)=(0:Nat)/\ap [DV.agg [CI y.2.2.1.1,CS y.2.2.1.2.1,CL .bq y.2.2.1.2.2.1,CI q19,CS y.2.2.1.2.2.2.2.1]]=ap [DV.agg [CI (q0.Kind),CS (q0.Name),CL .bq q0.ay,CI (q0.N),CS (q0.aW)]]/\ap [DV.box [CL .byte og.b,CI og.i,CI og.h]]=ap [DV.box [CL .byte q1.b,CI (q1.i),CI (q1.h)]] else(0:Nat)=(0:Nat)/\ap [DV.agg [CI y.2.2.1.1,CS y.2.2.1.2.1,CL .bq y.2.2.1.2.2.1,CI q19,CS y.2.2.1.2.2.2.2.1]]=ap [DV.agg [CI (q0.Kind),CS (q0.Name),CL .bq q0.ay,CI (q0.N),CS (q0.aW)]]/\ap [DV.box [CL .byte q21.b,CI (q21.i),CI (q21.h)]]=ap [DV.box [CL .byte q1.b,CI (q1.i),CI (q1.h)]] else bif Aq then bj jI/\bif b8 jI 2 then bj q20/\1<=x4.length/\(0:Nat)=(0:Nat)/\ap [DV.agg [CI y.2.2.1.1,CS y.2.2.1.2.1,CL .bq y.2.2.1.2.2.1,CI y.2.2.1.2.2.2.1,CS (cv q20 x4)]]=ap [DV.agg [CI (q0.Kind),CS (q0.Name),CL .bq q0.ay,CI (q0.N),CS (q0.aW)]]/\ap [DV.box [CL .byte Ef.b,CI Ef.i,CI Ef.h]]=ap [DV.box [CL .byte q1.b,CI (q1.i),CI (q1.h)]] else(0:Nat)=(0:Nat)/\ap [DV.agg [CI y.2.2.1.1,CS y.2.2.1.2.1,CL .bq y.2.2.1.2.2.1,CI y.2.2.1.2.2.2.1,CS y.2.2.1.2.2.2.2.1]]=ap [DV.agg [CI (q0.Kind),CS (q0.Name),CL .bq q0.ay,CI (q0.N),CS (q0.aW)]]/\ap [DV.box [CL .byte q20.b,CI (q20.i),CI (q20.h)]]=ap [DV.box [CL .byte q1.b,CI (q1.i),CI (q1.h)]] else(0:Nat)=(0:Nat)/\ap [DV.agg [CI y.2.2.1.1,CS y.2.2.1.2.1,CL .bq y.2.2.1.2.2.1,CI y.2.2.1.2.2.2.1,CS y.2.2.1.2.2.2.2.1]]=ap [DV.agg [CI (q0.Kind),CS (q0.Name),CL .bq q0.ay,CI (q0.N),CS (q0.aW)]]/\ap [DV.box [CL .byte y.2.2.2.1.1,CI y.2.2.2.1.2.1,CI y.2.2.2.1.2.2.1]]=ap [DV.box [CL .byte q1.b,CI (q1.i),CI (q1.h)]]) (by kernel_rfl)
 dsimp only
 have hk:=ky bC pd
 have kU:=JO bC
 have hle:=Mv c
 have fin:iI c eZ ((0:Int),((0:Int),ai,[],(0:Int),ai,()),(iH c,hZ c,[],(0:Int),ai,()),((DO c).b,(DO c).i,(DO c).h,()),()):=⟨by omega,hle.1,rfl,rfl,rfl,rfl,kU,by simp,by simp only[Int.sub_zero];rfl,by simp only[Int.sub_zero];rfl⟩
 have h2:∀{b:Bool},(ByteArray.toList (hZ c)==ByteArray.toList DL)=b->wc c=if b=true then 2 else 1:=fun{b} h=>by
  rw[bx] at h
  unfold wc
  cases b with
  |true=>rw[if_pos (yT h)];rfl
  |false=>rw[if_neg (yF h)];rfl
 have rest:¬iH c=2->¬(iH c=5\/iH c=6)->we eZ c=⟨iH c,hZ c,mF c,tR c,sX c⟩/\pB eZ c=tS c:=fun n2 n56=>⟨(if_neg n2).trans (if_neg n56),(if_neg n2).trans (if_neg n56)⟩
 refine⟨bC.1,bC.2,by simp,bo (fun n2=>⟨hk.1,hk.2,by trivial,?_⟩) (fun n2=>bo (fun n5=>bo (fun n5'=>⟨by trivial,?_⟩) (fun n5'=>absurd n5 n5')) (fun n5=>bo (fun n6=>⟨by trivial,?_⟩) (fun n6=>⟨hk,by simp,af (fun h=> ?_) (fun h=> ?_)⟩)))⟩
 ·exact rb (a:=⟨iH c,ai,[],ag (j9 c pd) eZ,ai⟩) (d:=aa (j9 c pd) eZ) (if_pos n2).symm (if_pos n2).symm
 ·exact rb (a:=⟨iH c,ai,[],0,ai⟩) (d:=j9 c pd) ((if_neg n2).trans (if_pos (.inl n5))).symm ((if_neg n2).trans (if_pos (.inl n5))).symm
 ·exact rb (a:=⟨iH c,ai,[],0,ai⟩) (d:=j9 c pd) ((if_neg n2).trans (if_pos (.inr n6))).symm ((if_neg n2).trans (if_pos (.inr n6))).symm
 all_goals
  have hN:=h2 h
  simp only[if_true,wx,if_false] at hN
  clear h
  have n56:¬(iH c=5\/iH c=6):=fun e=>e.elim n5 n6
  obtain⟨hA,hC⟩:=rest n2 n56
  rw[hA,hC]
  refine⟨fin,?_⟩
  rintro⟨i,⟨r1,r2,r3,r4,r5,⟨⟩⟩,⟨p1,p2,p3,p4,p5,⟨⟩⟩,⟨cb,ci,ch,⟨⟩⟩,⟨⟩⟩ ⟨g1,g2,g3,g4,g5,g6,g7,g8,g9,U5⟩
  simp only at g1 g2 g3 g4 g5 g6 g7 g8 g9 U5⊢
  subst g3 g4 g5 g6
  refine aU (fun hc=> ?_) (fun hc=> ?_)
  ·have e:(wc c-i).toNat=(wc c-(i+1)).toNat+1:=by omega
   rw[e] at g9 U5
   rw[wrap_i64 (by omega) (by omega)]
   exact⟨g7,by simp only[gv,fO];omega,⟨by omega,by omega,rfl,rfl,rfl,rfl,JK g7,by simp only[kg,gv,fO];omega,g9,U5⟩,by simp only[ll];omega⟩
  ·have e:(wc c-i).toNat=0:=by omega
   rw[e] at g9 U5
   have g9:p3=mF c:=g9
   have U5:(⟨cb,ci,ch⟩:ae)=kI c:=U5
   have e1:cb=(kI c).b:=congrArg ae.b U5
   have e2:ci=(kI c).i:=congrArg ae.i U5
   have e3:ch=(kI c).h:=congrArg ae.h U5
   subst g9 e1 e2 e3
   have k3:=DE bC
   refine bo (fun h4=>⟨k3.1,k3.2,by simp,bo (fun h3=>absurd (h4.symm.trans h3) (by decide)) (fun h3=>⟨by trivial,?_⟩)⟩) (fun h4=>bo (fun h3=>⟨k3,af (fun ho=>⟨aq k3 _,by simp,by trivial,?_⟩) (fun ho=>⟨by trivial,?_⟩)⟩) (fun h3=>⟨by trivial,?_⟩))
   ·have eT:tR c=gL (kI c) vR:=if_pos h4
    have eU:sX c=ai:=if_neg (fun e=>h3 e.1)
    have e5:tS c=j9 (kI c) vR:=(if_neg h3).trans (if_pos h4)
    exact rb (a':=⟨iH c,hZ c,mF c,tR c,sX c⟩) (d':=tS c) (a:=⟨iH c,hZ c,mF c,gL (kI c) vR,ai⟩) (d:=j9 (kI c) vR) (by rw[eT,eU]) e5.symm
   ·have eT:tR c=0:=if_neg h4
    have e4:nS c=kI c:=if_neg h4
    have ho:b8 (nS c) 2=true:=by rw[e4];exact ho
    have eU:sX c=cv (aa (nS c) 2) pZ:=if_pos ⟨h3,ho⟩
    have e5:tS c=bS (aa (nS c) 2) pZ:=(if_pos h3).trans (if_pos ho)
    exact rb (a':=⟨iH c,hZ c,mF c,tR c,sX c⟩) (d':=tS c) (a:=⟨iH c,hZ c,mF c,0,cv (aa (kI c) 2) pZ⟩) (d:=bS (aa (kI c) 2) pZ) (by rw[eT,eU,e4]) (by rw[e5,e4])
   ·have eT:tR c=0:=if_neg h4
    have e4:nS c=kI c:=if_neg h4
    have ho:¬b8 (nS c) 2=true:=by rw[e4,show b8 (kI c) 2=false from ho];decide
    have eU:sX c=ai:=if_neg (fun e=>ho e.2)
    have e5:tS c=aa (nS c) 2:=(if_pos h3).trans (if_neg ho)
    exact rb (a':=⟨iH c,hZ c,mF c,tR c,sX c⟩) (d':=tS c) (a:=⟨iH c,hZ c,mF c,0,ai⟩) (d:=aa (kI c) 2) (by rw[eT,eU]) (by rw[e5,e4])
   ·have eT:tR c=0:=if_neg h4
    have eU:sX c=ai:=if_neg (fun e=>h3 e.1)
    have e5:tS c=kI c:=(if_neg h3).trans (if_neg h4)
    exact rb (a':=⟨iH c,hZ c,mF c,tR c,sX c⟩) (d':=tS c) (a:=⟨iH c,hZ c,mF c,0,ai⟩) (d:=kI c) (by rw[eT,eU]) e5.symm
def WN:HH:=⟨_,ahi⟩
def Sk:bp UU where
 α:=cp×(List BA)
 md:=[.ro,.ro]
 of:=oC (oA .er) (o1 (oL .str))
 ds:=fun x=>[dA .er x.1,dL .str x.2]
 pre:=fun _=>[]
 bT:=fun(a,vars)=>⟨[dA .er (qx vars a)],[],[]⟩
 law:=lC (lA .er) (l1 (lL .str))
def akA:Sk.α->Nat->Option (bY UU):=fun(a,vars)=>aN []
def afw:=us [SP,SN,SM]
theorem ahj:Holds EE (123,Sk):=by
 refine holds_of ax func123 Sk (by kernel_rfl) afw (aE _) akA (fun x hp hb=> ?_)
 obtain⟨a,vars⟩:=x
 have bi:=sd (x:=a) (hb _ m0)
 have qu:=bi.1
 have qO:=bi.2
 have GG:vars.length<=9223372036854775807:=jO (hb _ m1)
 clear hp hb
 apply @ve _ (let q0:=qx vars a;bif eE vars a then Lf [DV.agg [CI a.K,CS a.S,CI a.V.K,CI a.V.N,CS a.V.S]] [DV.agg [CI (q0.K),CS (q0.S),CI (q0.V.K),CI (q0.V.N),CS (q0.V.S)]] else bif (vars.length:Int)==0 then Lf [DV.agg [CI 2,CS ai,CI 1,CI 1,CS ({data:= #[]:BA})]] [DV.agg [CI (q0.K),CS (q0.S),CI (q0.V.K),CI (q0.V.N),CS (q0.V.S)]] else(0:Int)<=(0:Int)/\Int.toNat 0<vars.length/\Lf [DV.agg [CI 1,CS (List.getD vars (Int.toNat 0) ai),CI dx.K,CI dx.N,CS dx.S]] [DV.agg [CI (q0.K),CS (q0.S),CI (q0.V.K),CI (q0.V.N),CS (q0.V.S)]]) (by kernel_rfl)
 dsimp only
 refine af (fun h=> ?_) (fun h=> ?_)
 ·have e:qx vars a=a:=if_pos h
  rw[e];exact bN _
 have h:¬eE vars a=true:=by rw[h];decide
 refine bo (fun g=> ?_) (fun g=>⟨by omega,?_,?_⟩)
 ·have e:qx vars a=⟨2,ai,⟨1,1,ai⟩⟩:=(if_neg h).trans (if_pos (by omega))
  rw[e];exact bN _
 ·show 0<vars.length
  omega
 ·have e:qx vars a=⟨1,List.getD vars 0 ai,dx⟩:=(if_neg h).trans (if_neg (by omega))
  rw[e];exact bN _
def aiX:HH:=⟨_,ahj⟩
def cx(s:aG)(f:aJ):aG:=if 0<mn s.ab f then s else⟨s.ab++[⟨s.Next,f⟩],s.Next+1⟩
def lu(s:aG)(f:aJ):Int:=if 0<mn s.ab f then mn s.ab f else s.Next
def wX(id:Int)(x:bH):Bool:= !decide (x.Id=id)
def pk(s:aG)(id:Int):aG:=⟨s.ab.filter (wX id),s.Next⟩
def kL:Nat->aG->ae->aG
 |0,s,_=>s
 |k+1,s,c=>if b8 c 5=true/\0<s.ab.length then kL k (pk s (List.getD s.ab (ag (aa c 5) s.ab.length).toNat bg).Id) (aa (aa c 5) s.ab.length) else kL k (cx s (cP (aa c 5))) (cq (aa c 5))
def rq:Nat->aG->ae->ae
 |0,_,c=>c
 |k+1,s,c=>if b8 c 5=true/\0<s.ab.length then rq k (pk s (List.getD s.ab (ag (aa c 5) s.ab.length).toNat bg).Id) (aa (aa c 5) s.ab.length) else rq k (cx s (cP (aa c 5))) (cq (aa c 5))
def cS(c:ae):aG:=kL (ag c 9).toNat ⟨[],1⟩ (aa c 9)
def jy(c:ae):ae:=rq (ag c 9).toNat ⟨[],1⟩ (aa c 9)
theorem JB(s:aG)(id:Int):(pk s id).ab.length<=s.ab.length:=Kh _ _
theorem tN(s:aG)(f:aJ):(cx s f).ab.length<=s.ab.length+1/\s.Next<=(cx s f).Next/\(cx s f).Next<=s.Next+1:=by
 unfold cx;split
 ·omega
 ·simp only[kg,gv,fO];omega
theorem vF:∀(k:Nat)(s:aG)(c:ae),(kL k s c).ab.length<=s.ab.length+k
 |0,s,c=>by simp[kL]
 |k+1,s,c=>by
  unfold kL;split
  ·have:=vF k (pk s (List.getD s.ab (ag (aa c 5) s.ab.length).toNat bg).Id) (aa (aa c 5) s.ab.length)
   have:=JB s (List.getD s.ab (ag (aa c 5) s.ab.length).toNat bg).Id
   omega
  ·have:=vF k (cx s (cP (aa c 5))) (cq (aa c 5))
   have:=(tN s (cP (aa c 5))).1
   omega
theorem Co(c:ae):(cS c).ab.length<=8:=by
 have:=vF (ag c 9).toNat ⟨[],1⟩ (aa c 9)
 have:=br (c:=c) (n:=9) (by omega)
 simp only[fO] at*
 unfold cS;omega
theorem v9:∀{k:Nat}{s:aG}{c:ae},bj c->bj (rq k s c)
 |0,_,_,h=>h
 |k+1,s,c,h=>by
  unfold rq;split
  ·exact v9 (k:=k) (aq (aq h _) _)
  ·exact v9 (k:=k) (li (aq h _))
theorem Dz{c:ae}(h:bj c):bj (jy c):=v9 (aq h _)
theorem Gs{α:Type}(g:α->α)(e:α)(B:List α):∀A:List α,(A++e::B).modify A.length g=A++g e::B
 |[]=>rfl
 |a::A=>by
  show(a::(A++e::B)).modify (A.length+1) g=a::(A++g e::B)
  rw[List.modify_succ_cons,Gs g e B A]
def jo(vars:List BA)(xs:List b7)(k:Nat):List b7:=(xs.take k).map (pg vars)++xs.drop k
theorem y6(vars:List BA)(xs:List b7){k:Nat}(h:k<=xs.length):(jo vars xs k).length=xs.length:=by
 simp only[jo,kg,wv,oH,J6];omega
theorem Fm{vars:List BA}{xs:List b7}{k:Nat}(h:k<xs.length):jo vars xs k=(xs.take k).map (pg vars)++List.getD xs k fq::xs.drop (k+1):=by
 have hd:xs.drop k=List.getD xs k fq::xs.drop (k+1):=by
  rw[S9 h,eY,fo h];rfl
 rw[jo,hd]
theorem Fl{vars:List BA}{xs:List b7}{k:Nat}(h:k<xs.length)(g:b7->b7):(jo vars xs k).modify k g=(xs.take k).map (pg vars)++g (List.getD xs k fq)::xs.drop (k+1):=by
 have hk:((xs.take k).map (pg vars)).length=k:=by rw[wv,oH];omega
 rw[Fm h]
 have:=Gs g (List.getD xs k fq) (xs.drop (k+1)) ((xs.take k).map (pg vars))
 rwa[hk] at this
theorem K_{vars:List BA}{xs:List b7}{k:Nat}(h:k<xs.length)(g g':b7->b7):((jo vars xs k).modify k g).modify k g'=(xs.take k).map (pg vars)++g' (g (List.getD xs k fq))::xs.drop (k+1):=by
 have hk:((xs.take k).map (pg vars)).length=k:=by rw[wv,oH];omega
 rw[Fl h]
 have:=Gs g' (g (List.getD xs k fq)) (xs.drop (k+1)) ((xs.take k).map (pg vars))
 rwa[hk] at this
theorem Dk{vars:List BA}{xs:List b7}{k:Nat}(h:k<xs.length):(xs.take k).map (pg vars)++pg vars (List.getD xs k fq)::xs.drop (k+1)=jo vars xs (k+1):=by
 rw[jo,Cj fq h,Kg];simp
theorem y7{vars:List BA}{xs:List b7}{k:Nat}(h:k<xs.length):List.getD (jo vars xs k) k fq=List.getD xs k fq:=by
 have hk:((xs.take k).map (pg vars)).length=k:=by rw[wv,oH];omega
 rw[Fm h,eY,wC (by omega),hk,W0];rfl
theorem vZ{vars:List BA}{xs:List b7}{k:Nat}(h:k<xs.length)(g:b7->b7):List.getD ((jo vars xs k).modify k g) k fq=g (List.getD xs k fq):=by
 rw[mod_self _ (by rw[y6 _ _ (by omega)];exact h),y7 h]
theorem OM(c:ae):(∀p,p∈dJ c->p.ay.length<=2)/\(dJ c).length<=4:=by
 have h1:∀(b:Bool)(d:ae),(oD b d).ay.length<=2:=fun b d=>by
  have:=Gh d
  show(lZ _ _ _ _ _).length<=2
  rw[lW];simp only[fO];omega
 have h2:=m9 (f:=oD false) (g:=ib) (fun p=>p.ay.length<=2) (h1 false) (ON c).toNat [] (F8 c) (fun x hx=>by cases hx)
 have h3:=lW (oD false) ib (ON c).toNat [] (F8 c)
 have h4:=Ks c
 unfold dJ
 split
 ·refine⟨fun p hp=> ?_,?_⟩
  ·rcases jr.1 hp with hp|hp
   ·exact h2 p hp
   ·rw[ma] at hp;subst hp;exact h1 true _
  ·simp only[kO,kg,gv,fO] at h3⊢;omega
 ·exact⟨h2,by simp only[kO,fO] at h3⊢;omega⟩
theorem vl:∀{ps:List cn},(∀p,p∈ps->p.ay.length<=2)->du ps<=2*ps.length
 |[],_=>s_ _
 |p::ps,h=>by
  have h1:=h p (by simp)
  have h2:=vl (ps:=ps) (fun q hq=>h q (by simp[hq]))
  simp only[du,uY,Ki,gv] at h2⊢;omega
theorem S4{a a':aV}{d d':ae}(h1:a=a')(h2:d=d'):ap [DV.agg [.lit (.string a.Name),.lit (.int .i64 a.jP),.sl .cU a.aB,.sl .bL a.aY,.sl .cV a.bG]]=ap [DV.agg [.lit (.string a'.Name),.lit (.int .i64 a'.jP),.sl .cU a'.aB,.sl .bL a'.aY,.sl .cV a'.bG]]/\ap [DV.box [.sl .byte d.b,.lit (.int .i64 d.i),.lit (.int .i64 d.h)]]=ap [DV.box [.sl .byte d'.b,.lit (.int .i64 d'.i),.lit (.int .i64 d'.h)]]:=by
 subst h1 h2;exact⟨rfl,rfl⟩
theorem LdD{a a':bB}{d d':ae}(h1:a=a')(h2:d=d'):ap [DV.agg [.lit (.string a.Name),.sl .a_ a.aw]]=ap [DV.agg [.lit (.string a'.Name),.sl .a_ a'.aw]]/\ap [DV.box [.sl .byte d.b,.lit (.int .i64 d.i),.lit (.int .i64 d.h)]]=ap [DV.box [.sl .byte d'.b,.lit (.int .i64 d'.i),.lit (.int .i64 d'.h)]]:=by
 subst h1 h2;exact⟨rfl,rfl⟩
theorem LdS{a a':aG}{d d':ae}(h1:a=a')(h2:d=d'):ap [DV.agg [.sl .aX a.ab,.lit (.int .i64 a.Next)]]=ap [DV.agg [.sl .aX a'.ab,.lit (.int .i64 a'.Next)]]/\ap [DV.box [.sl .byte d.b,.lit (.int .i64 d.i),.lit (.int .i64 d.h)]]=ap [DV.box [.sl .byte d'.b,.lit (.int .i64 d'.i),.lit (.int .i64 d'.h)]]:=by
 subst h1 h2;exact⟨rfl,rfl⟩
def Ls:bp UU where
 α:=aG×Int
 md:=[.box true,.ro]
 of:=oC (oX .bV) (o1 oI)
 ds:=fun x=>[dX .bV x.1,dI x.2]
 pre:=fun(s,id)=>[s.ab.length<=1000]
 bT:=fun(s,id)=>⟨[dO (decide ((pk s id).ab.length<s.ab.length))],[],[dX .bV (pk s id)]⟩
 law:=lC (lX .bV) (l1 lI)
def tX(s:aG)(id:Int):List bH×Int×((List bH×(Nat->Bool))×Int×Unit)×Unit->Prop:=fun(o,i,p,_)=>p.1.1=s.ab/\p.2.1=s.Next/\0<=i/\i<=s.ab.length/\(∀j:Nat,i<=(j:Int)->p.1.2 j=false)/\o=(s.ab.take i.toNat).filter (wX id)
def pC(s:aG)(id:Int):List bH×Int×((List bH×(Nat->Bool))×Int×Unit)×Unit->Nat:=fun(o,i,p,_)=>s.ab.length-i.toNat
def abc:Ls.α->Nat->Option (bY UU):=fun(s,id)=>aN [(3,bh [.slot 5 (5,1024) (.own .aX true),.slot 6 (6,1024) (.lit (.int .i64)),.box 0 (2000000,0) [.part .aX,.lit (.int .i64)]] (fun _=>tX s id) (pC s id))]
def ZF:List (FuncId×bp UU):=[]
theorem ZI:Holds EE (140,Ls):=by
 refine holds_of ax func140 Ls (by kernel_rfl) ZF all_nil abc (fun x hp hb=> ?_)
 obtain⟨s,id⟩:=x
 have ga:=pz (x:=s) (hb _ m0)
 have L6:=sL (n:=id) (hb _ m1)
 have bC:s.ab.length<=1000:=hp _ m0
 clear hp hb
 apply @ve _ (tX s id ([],0,((s.ab,fun(x:Nat)=>false),s.Next,()),())/\∀(y:List bH×Int×((List bH×(Nat->Bool))×Int×PUnit)×PUnit),let x1:Nat:=y.2.1.toNat;let x3:bH:=List.getD y.2.2.1.1.1 x1 bg;let x4:Nat:=y.2.2.1.1.1.length;let x5:Int:=IntKind.wrap IntKind.i64 (y.2.1+1);let x0:Int:=(↑x4:Int);let x2:List bH:=[x3];let q0:=(y.1,x5,((y.2.2.1.1.1,y.2.2.1.1.2),y.2.2.1.2.1,()),());tX s id y->bif decide (y.2.1<x0) then 0<=y.2.1/\x1<x4/\x1<x4/\y.2.2.1.1.2 x1=false/\bif x3.Id !=id then 0<=y.2.1/\x1<x4/\x1<x4/\y.2.2.1.1.2 x1=false/\y.1.length+x2.length<=4294967296/\tX s id (y.1++x2,x5,((y.2.2.1.1.1,fun(j:Nat)=>Nat.beq j x1||y.2.2.1.1.2 j),y.2.2.1.2.1,()),())/\pC s id (y.1++x2,x5,((y.2.2.1.1.1,fun(j:Nat)=>Nat.beq j x1||y.2.2.1.1.2 j),y.2.2.1.2.1,()),())<pC s id y else tX s id q0/\pC s id q0<pC s id y else(0:Nat)=(0:Nat)/\ap [VB (decide ((y.1.length:Int)<x0))]=ap [VB (decide (List.length (pk s id).ab<s.ab.length))]/\ap [DV.box [CL .aX y.1,CI y.2.2.1.2.1]]=ap [DV.box [CL .aX (pk s id).ab,CI ((pk s id).Next)]]) (by kernel_rfl)
 dsimp only
 refine⟨⟨rfl,rfl,by omega,by omega,fun _ _=>rfl,by simp⟩,?_⟩
 rintro⟨o,i,⟨⟨xs,dd⟩,nx,⟨⟩⟩,⟨⟩⟩ ⟨hx,hn,h1,h2,hd,ho⟩
 simp only at hx hn h1 h2 hd ho⊢
 subst hx hn ho
 refine aU (fun hc=> ?_) (fun hc=> ?_)
 ·have hs:=rW (wX id) (l:=s.ab) (i:=i.toNat) bg (by omega)
  have e:(i+1).toNat=i.toNat+1:=by omega
  have Wh:=hd i.toNat (by omega)
  have hle:((s.ab.take i.toNat).filter (wX id)).length<=(s.ab.take i.toNat).length:=Kh _ _
  rw[oH] at hle
  rw[wrap_i64 (by omega) (by omega)]
  refine⟨h1,by omega,by omega,Wh,n7 (fun g=>⟨h1,by omega,by omega,Wh,by simp only[gv,fO];omega,⟨rfl,rfl,by omega,by omega,zc h1 hd,?_⟩,by simp only[pC];omega⟩) (fun g=>⟨⟨rfl,rfl,by omega,by omega,fun j hj=>hd j (by omega),?_⟩,by simp only[pC];omega⟩)⟩
  ·rw[e,hs,if_pos (show wX id (List.getD s.ab i.toNat bg)=true by rw[wX,decide_eq_false g];rfl)]
  ·rw[e,hs,if_neg (show¬wX id (List.getD s.ab i.toNat bg)=true by rw[wX,decide_eq_true g];decide),ww]
 ·rw[dB s.ab (by omega)]
  have e:decide (((s.ab.filter (wX id)).length:Int)<(s.ab.length:Int))=decide ((pk s id).ab.length<s.ab.length):=by rw[decide_eq_decide];simp only[pk];omega
  rw[e];exact⟨by trivial,rfl,rfl⟩
def aa':HH:=⟨_,ZI⟩
def ZV:bp UU where
 α:=aG×aJ
 md:=[.box true,.ro]
 of:=oC (oX .bV) (o1 (oA .bP))
 ds:=fun x=>[dX .bV x.1,dA .bP x.2]
 pre:=fun(s,f)=>[0<=s.Next/\s.Next<=1000/\s.ab.length<=30,f.aj.length<=4294967296]
 bT:=fun(s,f)=>⟨[dI (lu s f)],[],[dX .bV (cx s f)]⟩
 law:=lC (lX .bV) (l1 (lA .bP))
def asE:ZV.α->Nat->Option (bY UU):=fun(s,f)=>aN []
def ao2:=us [Vx,sM]
theorem aqo:Holds EE (88,ZV):=by
 refine holds_of ax func88 ZV (by kernel_rfl) ao2 (aE _) asE (fun x hp hb=> ?_)
 obtain⟨s,f⟩:=x
 have ga:=pz (x:=s) (hb _ m0)
 have fg:=fB (x:=f) (hb _ m1)
 have gb:=fg.1
 have eh:=fg.2
 have bC:0<=s.Next/\s.Next<=1000/\s.ab.length<=30:=hp _ m0
 have fT:f.aj.length<=4294967296:=hp _ m1
 clear hp hb
 apply @ve _ (let q0:=ap [DV.box [CL .aX s.ab,CI s.Next]]=ap [DV.box [CL .aX (cx s f).ab,CI ((cx s f).Next)]];let q1:=(0:Nat)=(0:Nat)/\ap [VI 0]=ap [VI (lu s f)]/\q0;bif decide (mn s.ab f>0) then(0:Nat)=(0:Nat)/\ap [VI (mn s.ab f)]=ap [VI (lu s f)]/\q0 else bif decide ((s.ab.length:Int)≥40) then q1 else bif decide (s.Next≥1000000) then q1 else f.aj.length<=4294967296/\s.ab.length+List.length [{Id:=s.Next,F:=f:bH}]<=4294967296/\(0:Nat)=(0:Nat)/\ap [VI (IntKind.wrap IntKind.i64 (IntKind.wrap IntKind.i64 (s.Next+1)-1))]=ap [VI (lu s f)]/\ap [DV.box [CL .aX (s.ab++[{Id:=s.Next,F:=f:bH}]),CI (IntKind.wrap IntKind.i64 (s.Next+1))]]=ap [DV.box [CL .aX (cx s f).ab,CI ((cx s f).Next)]]) (by kernel_rfl)
 dsimp only
 obtain⟨s1,s2,s3⟩:=bC
 refine aU (fun h=>⟨by trivial,?_⟩) (fun h=>aU (fun h2=>absurd h2 (by omega)) (fun h2=>aU (fun h3=>absurd h3 (by omega)) (fun h3=> ?_)))
 ·have e1:cx s f=s:=if_pos h
  have e2:lu s f=mn s.ab f:=if_pos h
  rw[e1,e2];exact⟨rfl,rfl⟩
 ·have e1:cx s f=⟨s.ab++[⟨s.Next,f⟩],s.Next+1⟩:=if_neg h
  have e2:lu s f=s.Next:=if_neg h
  rw[e1,e2,wrap_i64 (n:=s.Next+1) (by omega) (by omega),wrap_i64 (by omega) (by omega),show s.Next+1-1=s.Next by omega]
  exact⟨fT,by simp only[gv,fO];omega,by trivial,rfl,rfl⟩
def arN:HH:=⟨_,aqo⟩
def ZX:bp UU where
 α:=ae
 md:=[.box false]
 of:=o1 oU
 ds:=fun x=>[dU x]
 pre:=fun c=>[bj c]
 bT:=fun c=>⟨[dA .bV (cS c)],[],[dU (jy c)]⟩
 law:=l1 lU
def DZ(c:ae):Int×T4×T4×T3×Unit->Prop:=fun(i,q,s,cu,_)=>0<=i/\i<=8/\s.1.length+i<=8/\0<=s.2.1/\s.2.1+i<=9/\bj ⟨cu.1,cu.2.1,cu.2.2.1⟩/\kL i.toNat ⟨s.1,s.2.1⟩ ⟨cu.1,cu.2.1,cu.2.2.1⟩=cS c/\rq i.toNat ⟨s.1,s.2.1⟩ ⟨cu.1,cu.2.1,cu.2.2.1⟩=jy c
def tU(c:ae):Int×T4×T4×T3×Unit->Nat:=fun(i,q,s,cu,_)=>i.toNat
def asH:ZX.α->Nat->Option (bY UU):=fun c=>aN [(3,bh [.slot 4 (4,1024) (.lit (.int .i64)),.box 2 (2,1024) [.own .aX true,.lit (.int .i64)],.box 3 (3,1024) [.own .aX true,.lit (.int .i64)],.box 0 (2000000,0) [.shr .byte,.lit (.int .i64),.lit (.int .i64)]] (fun _=>DZ c) (tU c))]
def ao4:=us [mL,zv,aa',arN,SH]
theorem aqq:Holds EE (86,ZX):=by
 refine holds_of ax func86 ZX (by kernel_rfl) ao4 (aE _) asH (fun(c:ae) hp hb=> ?_)
 have dK:=sK (x:=c) (hb _ m0)
 have bC:bj c:=hp _ m0
 clear hp hb
 apply @ve _ (0<=c.i/\c.b.length<=4294967296/\DZ c (ag c 9,([],0,()),([],1,()),((aa c 9).b,(aa c 9).i,(aa c 9).h,()),())/\∀(y:Int×Oi×Oi×MB×PUnit),let x1:ae:={b:=y.2.2.2.1.1,i:=y.2.2.2.1.2.1,h:=y.2.2.2.1.2.2.1:ae};let x4:Nat:=y.2.2.1.1.length;let x6:aG:={ab:=y.2.2.1.1,Next:=y.2.2.1.2.1:aG};let x0:ae:=aa x1 5;let x3:Int:=(↑x4:Int);let x5:aG:=cx x6 (cP x0);let x2:aG:=pk x6 (List.getD y.2.2.1.1 (Int.toNat (ag x0 x3)) bg).Id;let q0:=bj x0/\(0<=y.2.2.1.2.1/\y.2.2.1.2.1<=1000/\x4<=30)/\List.length (cP x0).aj<=4294967296/\DZ c (IntKind.wrap IntKind.i64 (y.1-1),(y.2.1.1,y.2.1.2.1,()),(x5.ab,x5.Next,()),((cq x0).b,(cq x0).i,(cq x0).h,()),())/\tU c (IntKind.wrap IntKind.i64 (y.1-1),(y.2.1.1,y.2.1.2.1,()),(x5.ab,x5.Next,()),((cq x0).b,(cq x0).i,(cq x0).h,()),())<tU c y;let q1:=(IntKind.wrap IntKind.i64 (y.1-1),(y.2.1.1,y.2.1.2.1,()),(x2.ab,x2.Next,()),((aa x0 x3).b,(aa x0 x3).i,(aa x0 x3).h,()),());DZ c y->bif decide (y.1>0) then bj x1/\bif b8 x1 5 then bif decide (x3>0) then 0<=x0.i/\x0.b.length<=4294967296/\0<=ag x0 x3/\Int.toNat (ag x0 x3)<x4/\Int.toNat (ag x0 x3)<x4/\x4<=1000/\DZ c q1/\tU c q1<tU c y else q0 else q0 else(0:Nat)=(0:Nat)/\ap [DV.agg [CL .aX y.2.2.1.1,CI y.2.2.1.2.1]]=ap [DV.agg [CL .aX (cS c).ab,CI ((cS c).Next)]]/\ap [DV.box [CL .byte y.2.2.2.1.1,CI y.2.2.2.1.2.1,CI y.2.2.2.1.2.2.1]]=ap [DV.box [CL .byte (jy c).b,CI ((jy c).i),CI ((jy c).h)]]) (by kernel_rfl)
 dsimp only
 have hb:=br (c:=c) (n:=9) (by omega)
 refine⟨bC.1,bC.2,⟨by omega,by omega,by simp only[fO];omega,by show(0:Int)<=1;omega,by show(1:Int)+ag c 9<=9;omega,aq bC 9,rfl,rfl⟩,?_⟩
 rintro⟨i,⟨q1,q2,⟨⟩⟩,⟨s1,s2,⟨⟩⟩,⟨cb,ci,ch,⟨⟩⟩,⟨⟩⟩ ⟨g1,g2,g3,g4,g5,g6,g7,g8⟩
 simp only at g1 g2 g3 g4 g5 g6 g7 g8⊢
 refine aU (fun hc=> ?_) (fun hc=> ?_)
 ·have e:i.toNat=(i-1).toNat+1:=by omega
  rw[e] at g7 g8
  simp only[kL,rq] at g7 g8
  have hB:=aq g6 5
  have hF:=y9 (aa ⟨cb,ci,ch⟩ 5)
  have hF2:=xk (aa ⟨cb,ci,ch⟩ 5)
  have hA:=tN ⟨s1,s2⟩ (cP (aa ⟨cb,ci,ch⟩ 5))
  simp only at hA
  rw[wrap_i64 (by omega) (by omega)]
  refine⟨g6,af (fun a=>aU (fun b=> ?_) (fun b=> ?_)) (fun a=> ?_)⟩
  ·rw[if_pos ⟨a,by omega⟩] at g7 g8
   have hk:=br (c:=aa ⟨cb,ci,ch⟩ 5) (n:=(s1.length:Int)) (by omega)
   have hD:=JB ⟨s1,s2⟩ (List.getD s1 (ag (aa ⟨cb,ci,ch⟩ 5) s1.length).toNat bg).Id
   simp only at hD
   exact⟨hB.1,hB.2,hk.1,by omega,by omega,by omega,⟨by omega,by omega,by simp only;omega,g4,by simp only[pk];omega,aq hB _,g7,g8⟩,by simp only[tU];omega⟩
  ·rw[if_neg (fun e=>b (by omega))] at g7 g8
   exact⟨hB,⟨g4,by omega,by omega⟩,by omega,⟨by omega,by omega,by simp only;omega,by simp only;omega,by simp only;omega,li hB,g7,g8⟩,by simp only[tU];omega⟩
  ·rw[if_neg (fun e=>absurd e.1 (by rw[a];decide))] at g7 g8
   exact⟨hB,⟨g4,by omega,by omega⟩,by omega,⟨by omega,by omega,by simp only;omega,by simp only;omega,by simp only;omega,li hB,g7,g8⟩,by simp only[tU];omega⟩
 ·have e:i.toNat=0:=by omega
  rw[e] at g7 g8
  exact⟨by trivial,LdS (a:=⟨s1,s2⟩) (d:=⟨cb,ci,ch⟩) g7 g8⟩
def arO:HH:=⟨_,aqq⟩
def DU:bp UU where
 α:=ae×BA
 md:=[.box false,.ro]
 of:=oC oU (o1 oS)
 ds:=fun x=>[dU x.1,dS x.2]
 pre:=fun(c,name)=>[bj c]
 bT:=fun(c,name)=>⟨[dA .a_ (lV name c)],[],[dU (mZ c)]⟩
 law:=lC lU (l1 lS)
def D3(c:ae)(name:BA):Int×T0×T0×T3×Unit->Prop:=fun(i,q,r,cu,_)=>r=(name,gL c la,r.2.2.1,[],[],())/\0<=i/\i<=3/\r.2.2.1.length+i<=3/\bj ⟨cu.1,cu.2.1,cu.2.2.1⟩/\lZ (oD false) ib i.toNat r.2.2.1 ⟨cu.1,cu.2.1,cu.2.2.1⟩=kO c/\pc ib i.toNat ⟨cu.1,cu.2.1,cu.2.2.1⟩=Ep c
def G'(c:ae)(name:BA):Int×T0×T0×T3×Unit->Nat:=fun(i,q,r,cu,_)=>i.toNat
def uU(c:ae)(name:BA):Int×List BA×T0×T0×T3×Unit->Prop:=fun(i,vs,q,r,cu,_)=>vs=cX c/\r=(name,gL c la,dJ c,fM c,r.2.2.2.2.1,())/\0<=i/\i<=3/\r.2.2.2.2.1.length+i<=3/\bj ⟨cu.1,cu.2.1,cu.2.2.1⟩/\lZ (EZ c) (qq c) i.toNat r.2.2.2.2.1 ⟨cu.1,cu.2.1,cu.2.2.1⟩=qp c/\pc (qq c) i.toNat ⟨cu.1,cu.2.1,cu.2.2.1⟩=mZ c
def uO(c:ae)(name:BA):Int×List BA×T0×T0×T3×Unit->Nat:=fun(i,vs,q,r,cu,_)=>i.toNat
def uT(c:ae)(name:BA):Int×Int×List BA×T12×T0×T0×T3×Unit->Int×Int×List BA×T12×T0×T0×T3×Unit->Prop:=fun(i0,k0,vs0,a0,q0,r0,cu0,_) (i,k,vs,a,q,r,cu,_)=>i=i0/\vs=vs0/\a=(a0.1,a0.2.1,a.2.2.1,a0.2.2.2.1,a0.2.2.2.2.1,())/\r=r0/\cu=cu0/\0<=k/\k<=a0.2.2.1.length/\a.2.2.1=jo (cX c) a0.2.2.1 k.toNat
def qg(c:ae)(name:BA):Int×Int×List BA×T12×T0×T0×T3×Unit->Nat:=fun(i,k,vs,a,q,r,cu,_)=>a.2.2.1.length-k.toNat
def VA:DU.α->Nat->Option (bY UU):=fun(c,name)=>aN [(3,bh [.slot 6 (6,1024) (.lit (.int .i64)),.box 4 (4,1024) [.lit .str,.lit (.int .i64),.own .cU true,.own .bL true,.own .cV true],.box 5 (5,1024) [.lit .str,.lit (.int .i64),.own .cU true,.own .bL true,.own .cV true],.box 0 (2000000,0) [.shr .byte,.lit (.int .i64),.lit (.int .i64)]] (fun _=>D3 c name) (G' c name)),(15,bh [.slot 9 (9,1024) (.lit (.int .i64)),.slot 7 (7,1024) (.own .str true),.box 4 (4,1024) [.lit .str,.lit (.int .i64),.own .cU true,.own .bL true,.own .cV true],.box 5 (5,1024) [.lit .str,.lit (.int .i64),.own .cU true,.own .bL true,.own .cV true],.box 0 (2000000,0) [.shr .byte,.lit (.int .i64),.lit (.int .i64)]] (fun _=>uU c name) (uO c name)),(19,bh [.slot 9 (9,1024) (.lit (.int .i64)),.slot 11 (11,1024) (.lit (.int .i64)),.slot 7 (7,1024) (.own .str true),.box 10 (10,1024) [.lit (.int .i64),.lit .str,.own .bq true,.lit (.int .i64),.lit .str],.box 4 (4,1024) [.lit .str,.lit (.int .i64),.own .cU true,.own .bL true,.own .cV true],.box 5 (5,1024) [.lit .str,.lit (.int .i64),.own .cU true,.own .bL true,.own .cV true],.box 0 (2000000,0) [.shr .byte,.lit (.int .i64),.lit (.int .i64)]] (uT c name) (qg c name))]
def Vt:=us [Eb,mL,WO,zv,WQ,aa_,aiX,SJ,WN]
def eH(c:ae)(name:BA):List BA×T0×T0×T3×Unit->Prop:=fun(vs,q,r,cu,_)=>vs=cX c/\r=(name,gL c la,dJ c,fM c,[],())/\bj ⟨cu.1,cu.2.1,cu.2.2.1⟩/\(⟨cu.1,cu.2.1,cu.2.2.1⟩:ae)=yw c
def lq:DU.α->bY UU:=fun(c,name)=>bh [.slot 7 (7,1024) (.own .str true),.box 4 (4,1024) [.lit .str,.lit (.int .i64),.own .cU true,.own .bL true,.own .cV true],.box 5 (5,1024) [.lit .str,.lit (.int .i64),.own .cU true,.own .bL true,.own .cV true],.box 0 (2000000,0) [.shr .byte,.lit (.int .i64),.lit (.int .i64)]] (fun _=>eH c name) (fun _=>0)
theorem aoP(c:ae)(name:BA)(y:List BA×T0×T0×T3×Unit):mr EE Vt f74 DU VA (c,name) 14 (lq (c,name)) y=(let x1:ae:={b:=y.2.2.2.1.1,i:=y.2.2.2.1.2.1,h:=y.2.2.2.1.2.2.1:ae};
let x0:ae:=aa x1 (3:Int);
(0:Int)<=y.2.2.2.1.2.1/\
 List.length y.2.2.2.1.1<=(4294967296:Nat)/\
  uU c name (IntKind.wrap IntKind.i64 ((1:Int)+ag x1 (3:Int)),y.1,(y.2.1.1,y.2.1.2.1,y.2.1.2.2.1,y.2.1.2.2.2.1,y.2.1.2.2.2.2.1,PUnit.unit),(y.2.2.1.1,y.2.2.1.2.1,y.2.2.1.2.2.1,y.2.2.1.2.2.2.1,y.2.2.1.2.2.2.2.1,PUnit.unit),(x0.b,x0.i,x0.h,PUnit.unit),PUnit.unit)/\
   ∀(y:Int×List BA×WY×WY×MB×PUnit),
    let x4:ae:={b:=y.2.2.2.2.1.1,i:=y.2.2.2.2.1.2.1,h:=y.2.2.2.2.1.2.2.1:ae};
    let x5:Int:=(↑(cH y.2.2.2.1.2.2.1):Int);
    let x2:eX:=we x5 x4;
    let x3:ae:=pB x5 x4;
    uU c name y->
     bif decide (y.1>(0:Int)) then
      bj x4/\
       uT c name (y.1,(0:Int),y.2.1,(x2.Kind,x2.Name,x2.ay,x2.N,x2.aW,PUnit.unit),(y.2.2.1.1,y.2.2.1.2.1,y.2.2.1.2.2.1,y.2.2.1.2.2.2.1,y.2.2.1.2.2.2.2.1,PUnit.unit),(y.2.2.2.1.1,y.2.2.2.1.2.1,y.2.2.2.1.2.2.1,y.2.2.2.1.2.2.2.1,y.2.2.2.1.2.2.2.2.1,PUnit.unit),(x3.b,x3.i,x3.h,PUnit.unit),PUnit.unit) (y.1,(0:Int),y.2.1,(x2.Kind,x2.Name,x2.ay,x2.N,x2.aW,PUnit.unit),(y.2.2.1.1,y.2.2.1.2.1,y.2.2.1.2.2.1,y.2.2.1.2.2.2.1,y.2.2.1.2.2.2.2.1,PUnit.unit),(y.2.2.2.1.1,y.2.2.2.1.2.1,y.2.2.2.1.2.2.1,y.2.2.2.1.2.2.2.1,y.2.2.2.1.2.2.2.2.1,PUnit.unit),(x3.b,x3.i,x3.h,PUnit.unit),PUnit.unit)/\
        ∀(aS:Int×Int×List BA×(Int×BA×List b7×Int×BA×PUnit)×WY×WY×MB×PUnit),
         let x7:List eX:=[{Kind:=aS.2.2.2.1.1,Name:=aS.2.2.2.1.2.1,ay:=aS.2.2.2.1.2.2.1,N:=aS.2.2.2.1.2.2.2.1,aW:=aS.2.2.2.1.2.2.2.2.1:eX}];
         let x8:Nat:=Int.toNat aS.2.1;
         let pT:Nat:=List.length aS.2.2.2.1.2.2.1;
         let rc:Int:=IntKind.wrap IntKind.i64 (aS.2.1+(1:Int));
         let x6:List b7:=List.modify aS.2.2.2.1.2.2.1 x8 fun(x:b7)=>{Op:=x.Op,L:=qx aS.2.2.1 (List.getD aS.2.2.2.1.2.2.1 x8 fq).L,R:=x.R:b7};
         let x9:Int:=(↑pT:Int);
         uT c name (y.1,(0:Int),y.2.1,(x2.Kind,x2.Name,x2.ay,x2.N,x2.aW,PUnit.unit),(y.2.2.1.1,y.2.2.1.2.1,y.2.2.1.2.2.1,y.2.2.1.2.2.2.1,y.2.2.1.2.2.2.2.1,PUnit.unit),(y.2.2.2.1.1,y.2.2.2.1.2.1,y.2.2.2.1.2.2.1,y.2.2.2.1.2.2.2.1,y.2.2.2.1.2.2.2.2.1,PUnit.unit),(x3.b,x3.i,x3.h,PUnit.unit),PUnit.unit) aS->bif decide (aS.2.1<x9) then(0:Int)<=aS.2.1/\x8<pT/\x8<pT/\(0:Int)<=aS.2.1/\x8<pT/\x8<pT/\(0:Int)<=aS.2.1/\x8<List.length x6/\x8<List.length x6/\bif !ByteArray.toList (List.getD x6 x8 fq).Op==ByteArray.toList {data:= #[]:BA} then(0:Int)<=aS.2.1/\x8<List.length x6/\x8<List.length x6/\(0:Int)<=aS.2.1/\x8<List.length x6/\x8<List.length x6/\uT c name (y.1,(0:Int),y.2.1,(x2.Kind,x2.Name,x2.ay,x2.N,x2.aW,PUnit.unit),(y.2.2.1.1,y.2.2.1.2.1,y.2.2.1.2.2.1,y.2.2.1.2.2.2.1,y.2.2.1.2.2.2.2.1,PUnit.unit),(y.2.2.2.1.1,y.2.2.2.1.2.1,y.2.2.2.1.2.2.1,y.2.2.2.1.2.2.2.1,y.2.2.2.1.2.2.2.2.1,PUnit.unit),(x3.b,x3.i,x3.h,PUnit.unit),PUnit.unit) (aS.1,rc,aS.2.2.1,(aS.2.2.2.1.1,aS.2.2.2.1.2.1,List.modify x6 x8 fun(x:b7)=>{Op:=x.Op,L:=x.L,R:=qx aS.2.2.1 (List.getD x6 x8 fq).R:b7},aS.2.2.2.1.2.2.2.1,aS.2.2.2.1.2.2.2.2.1,PUnit.unit),(aS.2.2.2.2.1.1,aS.2.2.2.2.1.2.1,aS.2.2.2.2.1.2.2.1,aS.2.2.2.2.1.2.2.2.1,aS.2.2.2.2.1.2.2.2.2.1,PUnit.unit),(aS.2.2.2.2.2.1.1,aS.2.2.2.2.2.1.2.1,aS.2.2.2.2.2.1.2.2.1,aS.2.2.2.2.2.1.2.2.2.1,aS.2.2.2.2.2.1.2.2.2.2.1,PUnit.unit),(aS.2.2.2.2.2.2.1.1,aS.2.2.2.2.2.2.1.2.1,aS.2.2.2.2.2.2.1.2.2.1,PUnit.unit),PUnit.unit)/\qg c name (aS.1,rc,aS.2.2.1,(aS.2.2.2.1.1,aS.2.2.2.1.2.1,List.modify x6 x8 fun(x:b7)=>{Op:=x.Op,L:=x.L,R:=qx aS.2.2.1 (List.getD x6 x8 fq).R:b7},aS.2.2.2.1.2.2.2.1,aS.2.2.2.1.2.2.2.2.1,PUnit.unit),(aS.2.2.2.2.1.1,aS.2.2.2.2.1.2.1,aS.2.2.2.2.1.2.2.1,aS.2.2.2.2.1.2.2.2.1,aS.2.2.2.2.1.2.2.2.2.1,PUnit.unit),(aS.2.2.2.2.2.1.1,aS.2.2.2.2.2.1.2.1,aS.2.2.2.2.2.1.2.2.1,aS.2.2.2.2.2.1.2.2.2.1,aS.2.2.2.2.2.1.2.2.2.2.1,PUnit.unit),(aS.2.2.2.2.2.2.1.1,aS.2.2.2.2.2.2.1.2.1,aS.2.2.2.2.2.2.1.2.2.1,PUnit.unit),PUnit.unit)<qg c name aS else uT c name (y.1,(0:Int),y.2.1,(x2.Kind,x2.Name,x2.ay,x2.N,x2.aW,PUnit.unit),(y.2.2.1.1,y.2.2.1.2.1,y.2.2.1.2.2.1,y.2.2.1.2.2.2.1,y.2.2.1.2.2.2.2.1,PUnit.unit),(y.2.2.2.1.1,y.2.2.2.1.2.1,y.2.2.2.1.2.2.1,y.2.2.2.1.2.2.2.1,y.2.2.2.1.2.2.2.2.1,PUnit.unit),(x3.b,x3.i,x3.h,PUnit.unit),PUnit.unit) (aS.1,rc,aS.2.2.1,(aS.2.2.2.1.1,aS.2.2.2.1.2.1,x6,aS.2.2.2.1.2.2.2.1,aS.2.2.2.1.2.2.2.2.1,PUnit.unit),(aS.2.2.2.2.1.1,aS.2.2.2.2.1.2.1,aS.2.2.2.2.1.2.2.1,aS.2.2.2.2.1.2.2.2.1,aS.2.2.2.2.1.2.2.2.2.1,PUnit.unit),(aS.2.2.2.2.2.1.1,aS.2.2.2.2.2.1.2.1,aS.2.2.2.2.2.1.2.2.1,aS.2.2.2.2.2.1.2.2.2.1,aS.2.2.2.2.2.1.2.2.2.2.1,PUnit.unit),(aS.2.2.2.2.2.2.1.1,aS.2.2.2.2.2.2.1.2.1,aS.2.2.2.2.2.2.1.2.2.1,PUnit.unit),PUnit.unit)/\qg c name (aS.1,rc,aS.2.2.1,(aS.2.2.2.1.1,aS.2.2.2.1.2.1,x6,aS.2.2.2.1.2.2.2.1,aS.2.2.2.1.2.2.2.2.1,PUnit.unit),(aS.2.2.2.2.1.1,aS.2.2.2.2.1.2.1,aS.2.2.2.2.1.2.2.1,aS.2.2.2.2.1.2.2.2.1,aS.2.2.2.2.1.2.2.2.2.1,PUnit.unit),(aS.2.2.2.2.2.1.1,aS.2.2.2.2.2.1.2.1,aS.2.2.2.2.2.1.2.2.1,aS.2.2.2.2.2.1.2.2.2.1,aS.2.2.2.2.2.1.2.2.2.2.1,PUnit.unit),(aS.2.2.2.2.2.2.1.1,aS.2.2.2.2.2.2.1.2.1,aS.2.2.2.2.2.2.1.2.2.1,PUnit.unit),PUnit.unit)<qg c name aS else List.length aS.2.2.2.2.2.1.2.2.2.2.1+List.length x7<=(4294967296:Nat)/\uU c name (IntKind.wrap IntKind.i64 (aS.1-(1:Int)),aS.2.2.1,(aS.2.2.2.2.1.1,aS.2.2.2.2.1.2.1,aS.2.2.2.2.1.2.2.1,aS.2.2.2.2.1.2.2.2.1,aS.2.2.2.2.1.2.2.2.2.1,PUnit.unit),(aS.2.2.2.2.2.1.1,aS.2.2.2.2.2.1.2.1,aS.2.2.2.2.2.1.2.2.1,aS.2.2.2.2.2.1.2.2.2.1,aS.2.2.2.2.2.1.2.2.2.2.1++x7,PUnit.unit),(aS.2.2.2.2.2.2.1.1,aS.2.2.2.2.2.2.1.2.1,aS.2.2.2.2.2.2.1.2.2.1,PUnit.unit),PUnit.unit)/\uO c name (IntKind.wrap IntKind.i64 (aS.1-(1:Int)),aS.2.2.1,(aS.2.2.2.2.1.1,aS.2.2.2.2.1.2.1,aS.2.2.2.2.1.2.2.1,aS.2.2.2.2.1.2.2.2.1,aS.2.2.2.2.1.2.2.2.2.1,PUnit.unit),(aS.2.2.2.2.2.1.1,aS.2.2.2.2.2.1.2.1,aS.2.2.2.2.2.1.2.2.1,aS.2.2.2.2.2.1.2.2.2.1,aS.2.2.2.2.2.1.2.2.2.2.1++x7,PUnit.unit),(aS.2.2.2.2.2.2.1.1,aS.2.2.2.2.2.2.1.2.1,aS.2.2.2.2.2.2.1.2.2.1,PUnit.unit),PUnit.unit)<uO c name y
     else(0:Nat)=(0:Nat)/\ap [DV.agg [Cell.lit (Value.string y.2.2.2.1.1),Cell.lit (Value.int IntKind.i64 y.2.2.2.1.2.1),Cell.sl Cd.cU y.2.2.2.1.2.2.1,Cell.sl Cd.bL y.2.2.2.1.2.2.2.1,Cell.sl Cd.cV y.2.2.2.1.2.2.2.2.1]]=ap [DV.agg [Cell.lit (Value.string (lV name c).Name),Cell.lit (Value.int IntKind.i64 (lV name c).jP),Cell.sl Cd.cU (lV name c).aB,Cell.sl Cd.bL (lV name c).aY,Cell.sl Cd.cV (lV name c).bG]]/\ap [DV.box [Cell.sl Cd.byte y.2.2.2.2.1.1,Cell.lit (Value.int IntKind.i64 y.2.2.2.2.1.2.1),Cell.lit (Value.int IntKind.i64 y.2.2.2.2.1.2.2.1)]]=ap [DV.box [Cell.sl Cd.byte (mZ c).b,Cell.lit (Value.int IntKind.i64 (mZ c).i),Cell.lit (Value.int IntKind.i64 (mZ c).h)]]):=by kernel_rfl
theorem B'(c:ae)(name:BA)(y:List BA×T0×T0×T3×Unit)(hp:∀p∈DU.pre (c,name),p)(hb:∀d∈DU.ds (c,name),gB d)(hy:eH c name y):mr EE Vt f74 DU VA (c,name) 14 (lq (c,name)) y:=by
 have dK:=sK (x:=c) (hb _ m0)
 have um:=Ao (s:=name) (hb _ m1)
 have bC:bj c:=hp _ m0
 clear hp hb
 rw[aoP c name y]
 dsimp only
 have hM:=OO c
 have w2:IntKind.wrap .i64 (1+ag (yw c) 3)=Of c:=wrap_i64 (n:=Of c) (by omega) (by omega)
 obtain⟨vs,⟨q1,q2,q3,q4,q5,⟨⟩⟩,⟨r1,r2,r3,r4,r5,⟨⟩⟩,⟨cb,ci,ch,⟨⟩⟩,⟨⟩⟩:=y
 obtain⟨Eh,hr,g4,g7⟩:=hy
 simp only[ox,and_true,true_and] at Eh hr g4 g7
 obtain⟨m1,m2,m3,m4,m5⟩:=hr
 have m1:=m1.symm
 subst m1 Eh m2 m3 m4 m5
 have fin:∀d e:ae,d=yw c->e=OP c->uU c name (IntKind.wrap .i64 (1+ag d 3),cX c,(q1,q2,q3,q4,q5,()),(name,gL c la,dJ c,fM c,[],()),(e.b,e.i,e.h,()),()):=by
  intro d e hd he
  have w3:IntKind.wrap .i64 (1+ag d 3)=Of c:=by rw[hd];exact w2
  rw[w3]
  refine⟨rfl,rfl,by omega,by omega,by simp only[fO];omega,?_,?_,?_⟩
  ·show bj e
   rw[he];exact aq (G1 bC) 3
  ·show lZ (EZ c) (qq c) (Of c).toNat [] e=qp c
   rw[he,qp]
  ·show pc (qq c) (Of c).toNat e=mZ c
   rw[he,mZ]
 refine⟨g4.1,g4.2,fin ⟨cb,ci,ch⟩ (aa ⟨cb,ci,ch⟩ 3) g7 (by rw[g7,OP]),?_⟩
 clear g7 fin
 clear hM w2 g4
 rintro⟨i,vs,⟨q1,q2,q3,q4,q5,⟨⟩⟩,⟨r1,r2,r3,r4,r5,⟨⟩⟩,⟨cb,ci,ch,⟨⟩⟩,⟨⟩⟩ ⟨Eh,hr,g1,g2,g3,g4,g5,g6⟩
 have m1:name=r1:=(congrArg Prod.fst hr).symm
 have m2:r2=gL c la:=congrArg (fun t=>t.2.1) hr
 have m3:r3=dJ c:=congrArg (fun t=>t.2.2.1) hr
 have m4:r4=fM c:=congrArg (fun t=>t.2.2.2.1) hr
 have Eh:vs=cX c:=Eh
 clear hr
 subst m1 Eh m2 m3 m4
 have g1:0<=i:=g1
 have g2:i<=3:=g2
 have g3:(r5.length:Int)+i<=3:=g3
 have g4:bj ⟨cb,ci,ch⟩:=g4
 have g5:lZ (EZ c) (qq c) i.toNat r5 ⟨cb,ci,ch⟩=qp c:=g5
 have g6:pc (qq c) i.toNat ⟨cb,ci,ch⟩=mZ c:=g6
 refine aU (fun hc=> ?_) (fun hc=>⟨by trivial,?_⟩)
 ·have hc:i>0:=hc
  generalize hp:((cH (dJ c):Nat):Int)=pn at*
  have hAl:=N7 pn ⟨cb,ci,ch⟩
  have aoA:EZ c ⟨cb,ci,ch⟩=Dl (cX c) (we pn ⟨cb,ci,ch⟩):=by rw[<-hp];rfl
  have adM:qq c ⟨cb,ci,ch⟩=pB pn ⟨cb,ci,ch⟩:=by rw[<-hp];rfl
  have kC:=xD pn g4
  clear hp
  generalize we pn ⟨cb,ci,ch⟩=a at*
  generalize pB pn ⟨cb,ci,ch⟩=d at*
  refine⟨g4,⟨rfl,rfl,rfl,rfl,rfl,by omega,by simp only;omega,rfl⟩,?_⟩
  rintro⟨i',k,uZ,⟨a1,a2,a3,a4,a5,⟨⟩⟩,⟨q1',q2',q3',q4',q5',⟨⟩⟩,⟨r1',TH,r3',r4',r5',⟨⟩⟩,⟨cb',ci',ch',⟨⟩⟩,⟨⟩⟩ ⟨hi,hv,ha,hr,ED,k1,k2,hl⟩
  have hi:i=i':=Eq.symm hi
  have hv:uZ=cX c:=hv
  have n1:a1=a.Kind:=congrArg Prod.fst ha
  have n2:a2=a.Name:=congrArg (fun t=>t.2.1) ha
  have n3:a4=a.N:=congrArg (fun t=>t.2.2.2.1) ha
  have n4:a5=a.aW:=congrArg (fun t=>t.2.2.2.2.1) ha
  have m1:r1'=name:=congrArg Prod.fst hr
  have m2:TH=gL c la:=congrArg (fun t=>t.2.1) hr
  have m3:r3'=dJ c:=congrArg (fun t=>t.2.2.1) hr
  have m4:r4'=fM c:=congrArg (fun t=>t.2.2.2.1) hr
  have m5:r5=r5':=(congrArg (fun t=>t.2.2.2.2.1) hr).symm
  have u1:cb'=d.b:=congrArg Prod.fst ED
  have u2:ci'=d.i:=congrArg (fun t=>t.2.1) ED
  have u3:ch'=d.h:=congrArg (fun t=>t.2.2.1) ED
  have k1:0<=k:=k1
  have k2:k<=a.ay.length:=k2
  have hl:a3=jo (cX c) a.ay k.toNat:=hl
  clear ha hr ED
  have m1:=m1.symm
  subst n1 n2 n3 n4 m2 m3 m4 u1 u2 u3 hl hv hi m5
  subst m1
  have hlen:(jo (cX c) a.ay k.toNat).length=a.ay.length:=y6 _ _ (by omega)
  refine aU (fun hk=> ?_) (fun hk=> ?_)
  ·have hk:k<((jo (cX c) a.ay k.toNat).length:Int):=hk
   rw[hlen] at hk
   have s7:k.toNat<a.ay.length:=by omega
   have p1:k.toNat<(jo (cX c) a.ay k.toNat).length:=by omega
   have p2:∀g,k.toNat<((jo (cX c) a.ay k.toNat).modify k.toNat g).length:=fun g=>by rw[J8];exact p1
   have ek:(k+1).toNat=k.toNat+1:=by omega
   have nx:∀l:List b7,l=jo (cX c) a.ay (k.toNat+1)->uT c name (i,0,cX c,(a.Kind,a.Name,a.ay,a.N,a.aW,()),(q1,q2,q3,q4,q5,()),(name,gL c la,dJ c,fM c,r5,()),(d.b,d.i,d.h,()),()) (i,IntKind.wrap .i64 (k+1),cX c,(a.Kind,a.Name,l,a.N,a.aW,()),(q1',q2',q3',q4',q5',()),(name,gL c la,dJ c,fM c,r5,()),(d.b,d.i,d.h,()),())/\qg c name (i,IntKind.wrap .i64 (k+1),cX c,(a.Kind,a.Name,l,a.N,a.aW,()),(q1',q2',q3',q4',q5',()),(name,gL c la,dJ c,fM c,r5,()),(d.b,d.i,d.h,()),())<qg c name (i,k,cX c,(a.Kind,a.Name,jo (cX c) a.ay k.toNat,a.N,a.aW,()),(q1',q2',q3',q4',q5',()),(name,gL c la,dJ c,fM c,r5,()),(d.b,d.i,d.h,()),()):=by
    rintro l rfl
    have zU:(jo (cX c) a.ay (k.toNat+1)).length=a.ay.length:=y6 _ _ (by omega)
    rw[wrap_i64 (n:=k+1) (by omega) (by omega)]
    exact⟨⟨rfl,rfl,rfl,rfl,rfl,by omega,by simp only;omega,by rw[ek]⟩,by simp only[qg];omega⟩
   refine⟨k1,p1,p1,k1,p1,p1,k1,p2 _,p2 _,L0 (fun o=>⟨k1,p2 _,p2 _,k1,p2 _,p2 _,nx _ ?_⟩) (fun o=>nx _ ?_)⟩
   ·have o:¬(List.getD a.ay k.toNat fq).Op=ai:=fun e=>o ((congrArg b7.Op (vZ s7 _)).trans e)
    refine(K_ s7 _ _).trans (Eq.trans ?_ (Dk s7))
    congr 2
    show(⟨_,_,qx (cX c) (List.getD ((jo (cX c) a.ay k.toNat).modify k.toNat _) k.toNat fq).R⟩:b7)=_
    rw[vZ s7,y7 s7]
    simp only[pg,if_neg o]
   ·have o:(List.getD a.ay k.toNat fq).Op=ai:=(congrArg b7.Op (vZ s7 _)).symm.trans o
    refine(Fl s7 _).trans (Eq.trans ?_ (Dk s7))
    congr 2
    show(⟨_,qx (cX c) (List.getD (jo (cX c) a.ay k.toNat) k.toNat fq).L,_⟩:b7)=_
    rw[y7 s7]
    simp only[pg,if_pos o]
  ·have hk:¬k<((jo (cX c) a.ay k.toNat).length:Int):=hk
   rw[hlen] at hk
   have hf:jo (cX c) a.ay k.toNat=a.ay.map (pg (cX c)):=by
    rw[jo,Tq (by omega),List.drop_eq_nil_of_le (by omega),ww]
   have e:i.toNat=(i-1).toNat+1:=by omega
   rw[e] at g5 g6
   simp only[lZ,pc,aoA,adM] at g5 g6
   have fin:uU c name (IntKind.wrap .i64 (i-1),cX c,(q1',q2',q3',q4',q5',()),(name,gL c la,dJ c,fM c,r5++[⟨a.Kind,a.Name,jo (cX c) a.ay k.toNat,a.N,a.aW⟩],()),(d.b,d.i,d.h,()),())/\uO c name (IntKind.wrap .i64 (i-1),cX c,(q1',q2',q3',q4',q5',()),(name,gL c la,dJ c,fM c,r5++[⟨a.Kind,a.Name,jo (cX c) a.ay k.toNat,a.N,a.aW⟩],()),(d.b,d.i,d.h,()),())<uO c name (i,cX c,(q1,q2,q3,q4,q5,()),(name,gL c la,dJ c,fM c,r5,()),(cb,ci,ch,()),()):=by
    rw[hf,wrap_i64 (n:=i-1) (by omega) (by omega)]
    exact⟨⟨rfl,rfl,by omega,by omega,by simp only[kg,gv,fO];omega,kC,g5,g6⟩,by simp only[uO];omega⟩
   have hr5:r5.length+1<=4294967296:=by omega
   exact⟨hr5,fin⟩
 ·have hc:¬i>0:=hc
  have e:i.toNat=0:=by omega
  rw[e] at g5 g6
  have g5:r5=qp c:=g5
  have g6:(⟨cb,ci,ch⟩:ae)=mZ c:=g6
  exact S4 (a:=⟨name,gL c la,dJ c,fM c,r5⟩) (a':=⟨name,gL c la,dJ c,fM c,qp c⟩) (d:=⟨cb,ci,ch⟩) (d':=mZ c) (by rw[g5]) g6
theorem B8(c:ae)(name:BA)(hp:∀p∈DU.pre (c,name),p)(hb:∀d∈DU.ds (c,name),gB d):qv EE Vt f74 DU VA (c,name) 14 (lq (c,name)):=by
 have dK:=sK (x:=c) (hb _ m0)
 have um:=Ao (s:=name) (hb _ m1)
 have bC:bj c:=hp _ m0
 clear hp hb
 apply @ve _ (let x3:List Int:=[0,0,5,(-5),100];let x2:Nat:=x3.length;let x1:Int:=(↑x2:Int);let x0:ae:=aa c x1;let q0:=BA×Int×List cn×List c_×List eX×PUnit;0<=c.i/\c.b.length<=4294967296/\1<=x2/\0<=x0.i/\x0.b.length<=4294967296/\D3 c name (IntKind.wrap IntKind.i64 (1+ag x0 3),({data:= #[]:BA},0,[],[],[],()),(name,List.getD x3 (Int.toNat (ag c x1)) 0,[],[],[],()),((aa x0 3).b,(aa x0 3).i,(aa x0 3).h,()),())/\∀(y:Int×q0×q0×MB×PUnit),let pT:ae:={b:=y.2.2.2.1.1,i:=y.2.2.2.1.2.1,h:=y.2.2.2.1.2.2.1:ae};let rc:List BA:=cL y.2.2.1.2.2.1;let yj:Nat:=y.2.2.1.2.2.2.1.length;let jI:Nat:=y.2.2.1.2.2.1.length;let og:List cn:=[{Kind:=(oD false pT).Kind,ay:=(oD false pT).ay,Not:=false:cn}];let x9:ae:=aa pT 3;let Ef:List cn:=[{Kind:=(oD true x9).Kind,ay:=(oD true x9).ay,Not:=true:cn}];let x6:List cn:=y.2.2.1.2.2.1++Ef;let x7:ae:=aa (ib x9) 3;let x8:ae:=aa x9 3;let Aq:List c_:=[{Op:=(1:Int)+ag x8 3,L:=qx rc (dV (aa x8 3)),R:=qx rc (dV (cC (aa x8 3))):c_}];let J9:ae:=cC (cC (aa x7 3));let x18:ae:=cC (cC (aa x8 3));let x5:List BA:=cL x6;let x4:List c_:=[{Op:=(1:Int)+ag x7 3,L:=qx x5 (dV (aa x7 3)),R:=qx x5 (dV (cC (aa x7 3))):c_}];let q1:=(y.2.1.1,y.2.1.2.1,y.2.1.2.2.1,y.2.1.2.2.2.1,y.2.1.2.2.2.2.1,());let q2:=(IntKind.wrap IntKind.i64 (y.1-1),q1,(y.2.2.1.1,y.2.2.1.2.1,y.2.2.1.2.2.1++og,y.2.2.1.2.2.2.1,y.2.2.1.2.2.2.2.1,()),((ib pT).b,(ib pT).i,(ib pT).h,()),());D3 c name y->bif decide (y.1>0) then bj pT/\jI+og.length<=4294967296/\D3 c name q2/\G' c name q2<G' c name y else bj pT/\bif b8 pT 3 then bj x9/\jI+Ef.length<=4294967296/\du x6<=4294967296/\bj (ib x9)/\bif b8 (ib x9) 3 then bj x7/\yj+x4.length<=4294967296/\eH c name (x5,q1,(y.2.2.1.1,y.2.2.1.2.1,x6,y.2.2.1.2.2.2.1++x4,y.2.2.1.2.2.2.2.1,()),(J9.b,J9.i,J9.h,()),()) else eH c name (x5,q1,(y.2.2.1.1,y.2.2.1.2.1,x6,y.2.2.1.2.2.2.1,y.2.2.1.2.2.2.2.1,()),(x7.b,x7.i,x7.h,()),()) else du y.2.2.1.2.2.1<=4294967296/\bj x9/\bif b8 x9 3 then bj x8/\yj+Aq.length<=4294967296/\eH c name (rc,q1,(y.2.2.1.1,y.2.2.1.2.1,y.2.2.1.2.2.1,y.2.2.1.2.2.2.1++Aq,y.2.2.1.2.2.2.2.1,()),(x18.b,x18.i,x18.h,()),()) else eH c name (rc,q1,(y.2.2.1.1,y.2.2.1.2.1,y.2.2.1.2.2.1,y.2.2.1.2.2.2.1,y.2.2.1.2.2.2.2.1,()),(x8.b,x8.i,x8.h,()),())) (by kernel_rfl)
 dsimp only
 have hk:=ky bC la
 have hN:=Ks c
 have hPA:=OM c
 have hpa:du (dJ c)<=4294967296:=by have:=vl hPA.1;omega
 have fin:∀(vs:List BA)(q:BA×Int×List cn×List c_×List eX×PUnit)(ps:List cn)(cs:List c_)(d:ae),vs=cX c->ps=dJ c->cs=fM c->d=yw c->eH c name (vs,q,(name,gL c la,ps,cs,[],()),(d.b,d.i,d.h,()),()):=by
  rintro vs q ps cs d rfl rfl rfl rfl
  exact⟨rfl,rfl,G1 bC,rfl⟩
 have w1:IntKind.wrap .i64 (1+ag (OQ c) 3)=ON c:=wrap_i64 (n:=ON c) (by omega) (by omega)
 refine⟨bC.1,bC.2,by simp,hk.1,hk.2,?_,?_⟩
 ·show D3 c name (IntKind.wrap .i64 (1+ag (OQ c) 3),(ai,0,[],[],[],()),(name,gL c la,[],[],[],()),((F8 c).b,(F8 c).i,(F8 c).h,()),())
  rw[w1]
  exact⟨rfl,by omega,by omega,by simp only[fO];omega,Mj bC,rfl,rfl⟩
 rintro⟨i,⟨q1,q2,q3,q4,q5,⟨⟩⟩,⟨r1,r2,r3,r4,r5,⟨⟩⟩,⟨cb,ci,ch,⟨⟩⟩,⟨⟩⟩ ⟨hr,g1,g2,g3,g4,g5,g6⟩
 simp only[ox,and_true,true_and] at hr
 obtain⟨m1,m2,m3,m4⟩:=hr
 subst m1 m2 m3 m4
 simp only at g1 g2 g3 g4 g5 g6⊢
 refine aU (fun hc=> ?_) (fun hc=> ?_)
 ·have e:i.toNat=(i-1).toNat+1:=by omega
  rw[e] at g5 g6
  rw[wrap_i64 (by omega) (by omega)]
  exact⟨g4,by simp only[gv,fO];omega,⟨rfl,by omega,by omega,by simp only[kg,gv,fO];omega,pu g4,g5,g6⟩,by simp only[G'];omega⟩
 have e:i.toNat=0:=by omega
 rw[e] at g5 g6
 have g5:r3=kO c:=g5
 have g6:(⟨cb,ci,ch⟩:ae)=Ep c:=g6
 have e1:cb=(Ep c).b:=congrArg ae.b g6
 have e2:ci=(Ep c).i:=congrArg ae.i g6
 have e3:ch=(Ep c).h:=congrArg ae.h g6
 subst g5 e1 e2 e3
 clear g6
 have k4:=aq g4 3
 refine⟨g4,af (fun a=> ?_) (fun a=> ?_)⟩
 ·have aP:dJ c=kO c++[oD true (vI c)]:=if_pos a
  have a5:Cw c=ib (vI c):=if_pos a
  rw[aP] at hpa
  have k6:=aq (pu k4) 3
  refine⟨k4,by simp only[gv,fO];omega,hpa,pu k4,af (fun b=> ?_) (fun b=> ?_)⟩
  ·have b':b8 (Cw c) 3=true:=by rw[a5];exact b
   have c7:yw c=qy (vH c):=if_pos b'
   exact⟨k6,by simp,fin _ _ (kO c++[oD true (vI c)]) [NO (cL (kO c++[oD true (vI c)])) (xz (aa (ib (vI c)) 3))] (qy (aa (ib (vI c)) 3)) (by rw[cX,aP];rfl) aP.symm (by rw[fM,if_pos b',cX,aP,vH,a5]) (by rw[c7,vH,a5])⟩
  ·have b':¬b8 (Cw c) 3=true:=by rw[a5];exact fun e=>absurd (b.symm.trans e) (by decide)
   have c7:yw c=vH c:=if_neg b'
   exact fin _ _ (kO c++[oD true (vI c)]) [] (aa (ib (vI c)) 3) (by rw[cX,aP];rfl) aP.symm (by rw[fM,if_neg b']) (by rw[c7,vH,a5])
 ·have a':¬b8 (Ep c) 3=true:=fun e=>absurd (a.symm.trans e) (by decide)
  have aP:dJ c=kO c:=if_neg a'
  have a5:Cw c=vI c:=if_neg a'
  rw[aP] at hpa
  have k6:=aq k4 3
  refine⟨hpa,k4,af (fun b=> ?_) (fun b=> ?_)⟩
  ·have b':b8 (Cw c) 3=true:=by rw[a5];exact b
   have c7:yw c=qy (vH c):=if_pos b'
   exact⟨k6,by simp,fin _ _ (kO c) [NO (cL (kO c)) (xz (aa (vI c) 3))] (qy (aa (vI c) 3)) (by rw[cX,aP]) aP.symm (by rw[fM,if_pos b',cX,aP,vH,a5]) (by rw[c7,vH,a5])⟩
  ·have b':¬b8 (Cw c) 3=true:=by rw[a5];exact fun e=>absurd (b.symm.trans e) (by decide)
   have c7:yw c=vH c:=if_neg b'
   exact fin _ _ (kO c) [] (aa (vI c) 3) (by rw[cX,aP]) aP.symm (by rw[fM,if_neg b']) (by rw[c7,vH,a5])
attribute [local irreducible] qv mr in
theorem aqC:Holds EE (74,DU):=by
 refine uj ax func74 DU (by kernel_rfl) Vt (aE _) VA 14 lq (by kernel_rfl) (fun x hp hb=> ?_)
 obtain⟨c,name⟩:=x
 refine⟨B8 c name hp hb,fun(y:List BA×T0×T0×T3×Unit) hy=> ?_⟩
 have hy:eH c name y:=hy
 exact B' c name y hp hb hy
def ahO:HH:=⟨_,aqC⟩
def aaG:bp UU where
 α:=ae
 md:=[.box false]
 of:=o1 oU
 ds:=fun x=>[dU x]
 pre:=fun c=>[bj c]
 bT:=fun c=>⟨[dA .dZ (ca c)],[],[dU (iD c)]⟩
 law:=l1 lU
def HG(c:ae):Int×List BA×T2×T2×T3×Unit->Prop:=fun(i,ns,q,d,cu,_)=>ns=rv/\d.1=cv c zG/\0<=i/\i<=4/\d.2.1.length=i/\bj ⟨cu.1,cu.2.1,cu.2.2.1⟩/\JF (4-i).toNat i.toNat d.2.1 ⟨cu.1,cu.2.1,cu.2.2.1⟩=(ca c).aw/\Ll (4-i).toNat i.toNat ⟨cu.1,cu.2.1,cu.2.2.1⟩=iD c
def Hh(c:ae):Int×List BA×T2×T2×T3×Unit->Nat:=fun(i,ns,q,d,cu,_)=>(4-i).toNat
def atr:aaG.α->Nat->Option (bY UU):=fun c=>aN [(4,bh [.slot 5 (5,1024) (.lit (.int .i64)),.slot 4 (4,1024) (.own .str true),.box 2 (2,1024) [.lit .str,.own .a_ true],.box 3 (3,1024) [.lit .str,.own .a_ true],.box 0 (2000000,0) [.shr .byte,.lit (.int .i64),.lit (.int .i64)]] (fun _=>HG c) (Hh c))]
def apO:=us [q_,mL,ahO]
theorem arc:Holds EE (36,aaG):=by
 refine holds_of ax func36 aaG (by kernel_rfl) apO (aE _) atr (fun(c:ae) hp hb=> ?_)
 have dK:=sK (x:=c) (hb _ m0)
 have bC:bj c:=hp _ m0
 clear hp hb
 apply @ve _ (let x1:List BA:=[{data:= #[(102:UInt8),(108:UInt8),(111:UInt8),(119:UInt8)]:BA},{data:= #[(115:UInt8),(104:UInt8),(105:UInt8),(112:UInt8)]:BA},{data:= #[(120:UInt8)]:BA}];let x0:ae:=bS c x1;bj c/\1<=x1.length/\HG c (0,[{data:= #[(114:UInt8),(49:UInt8)]:BA},{data:= #[(114:UInt8),(50:UInt8)]:BA},{data:= #[(114:UInt8),(51:UInt8)]:BA},{data:= #[(114:UInt8),(52:UInt8)]:BA}],({data:= #[]:BA},[],()),(cv c x1,[],()),(x0.b,x0.i,x0.h,()),())/\∀(y:Int×List BA×T9×T9×MB×PUnit),let x4:ae:={b:=y.2.2.2.2.1.1,i:=y.2.2.2.2.1.2.1,h:=y.2.2.2.2.1.2.2.1:ae};let x2:ae:=aa x4 4;let x3:Int:=IntKind.wrap IntKind.i64 (1+ag x4 4);let x5:List aV:=[lV (List.getD y.2.1 y.1.toNat ai) x2];let q0:=(0:Nat)=(0:Nat)/\ap [DV.agg [CS y.2.2.2.1.1,CL .a_ y.2.2.2.1.2.1]]=ap [DV.agg [CS ((ca c).Name),CL .a_ (ca c).aw]]/\ap [DV.box [CL .byte x2.b,CI x2.i,CI x2.h]]=ap [DV.box [CL .byte (iD c).b,CI ((iD c).i),CI ((iD c).h)]];let q1:=(IntKind.wrap IntKind.i64 (y.1+1),y.2.1,(y.2.2.1.1,y.2.2.1.2.1,()),(y.2.2.2.1.1,y.2.2.2.1.2.1++x5,()),((mZ x2).b,(mZ x2).i,(mZ x2).h,()),());HG c y->0<=y.2.2.2.2.1.2.1/\y.2.2.2.2.1.1.length<=4294967296/\bif decide (y.1<x3) then bif decide (y.1<4) then 0<=y.1/\y.1.toNat<y.2.1.length/\y.1.toNat<y.2.1.length/\bj x2/\y.2.2.2.1.2.1.length+x5.length<=4294967296/\HG c q1/\Hh c q1<Hh c y else q0 else q0) (by kernel_rfl)
 dsimp only
 have hk:=fh bC zG
 refine⟨bC,by simp,⟨rfl,rfl,by omega,by omega,rfl,hk,rfl,rfl⟩,?_⟩
 rintro⟨i,ns,⟨q1,q2,⟨⟩⟩,⟨d1,d2,⟨⟩⟩,⟨cb,ci,ch,⟨⟩⟩,⟨⟩⟩ ⟨hns,hd,g1,g2,g3,g4,g5,g6⟩
 simp only at hns hd g1 g2 g3 g4 g5 g6⊢
 subst hns hd
 have hb:=br (c:=⟨cb,ci,ch⟩) (n:=4) (by omega)
 have hB:=aq g4 4
 rw[wrap_i64 (n:=1+ag ⟨cb,ci,ch⟩ 4) (by omega) (by omega)]
 have stop:(ca c).aw=d2/\iD c=aa ⟨cb,ci,ch⟩ 4->ap [DV.agg [.lit (.string (cv c zG)),.sl .a_ d2]]=ap [DV.agg [.lit (.string (ca c).Name),.sl .a_ (ca c).aw]]/\ap [DV.box [.sl .byte (aa ⟨cb,ci,ch⟩ 4).b,.lit (.int .i64 (aa ⟨cb,ci,ch⟩ 4).i),.lit (.int .i64 (aa ⟨cb,ci,ch⟩ 4).h)]]=ap [DV.box [.sl .byte (iD c).b,.lit (.int .i64 (iD c).i),.lit (.int .i64 (iD c).h)]]:=fun e=>by
  rw[e.1,e.2];exact⟨rfl,rfl⟩
 refine⟨g4.1,g4.2,aU (fun hc=>aU (fun h4=> ?_) (fun h4=>⟨by trivial,stop ?_⟩)) (fun hc=>⟨by trivial,stop ?_⟩)⟩
 ·have e:(4-i).toNat=(4-(i+1)).toNat+1:=by omega
  have e2:(i+1).toNat=i.toNat+1:=by omega
  have e3:((i.toNat:Nat):Int)=i:=by omega
  rw[e] at g5 g6
  simp only[JF,Ll,e3,if_pos hc] at g5 g6
  rw[wrap_i64 (n:=i+1) (by omega) (by omega)]
  have hl:rv.length=4:=rfl
  refine⟨g1,by omega,by omega,hB,by simp only[gv,fO];omega,⟨rfl,rfl,by omega,by omega,?_,AK hB,by simp only[e2];exact g5,by simp only[e2];exact g6⟩,by simp only[Hh];omega⟩
  simp only[kg,gv,fO];omega
 ·have e:(4-i).toNat=0:=by omega
  rw[e] at g5 g6
  exact⟨g5.symm,g6.symm⟩
 ·have e3:((i.toNat:Nat):Int)=i:=by omega
  cases hn:(4-i).toNat with
  |zero=>rw[hn] at g5 g6;exact⟨g5.symm,g6.symm⟩
  |succ n=>
   rw[hn] at g5 g6
   simp only[JF,Ll,e3,if_neg hc] at g5 g6
   exact⟨g5.symm,g6.symm⟩
def ahS:HH:=⟨_,arc⟩
theorem xH(c:ae):fU (hJ c)=true:=by
 unfold hJ;split
 ·simp[fU]
 ·split
  ·have h:=oK (aa c 6)
   simp[fU,h]
  ·have h:=d_ (aa c 6) (l:=Ik) ix (by decide) (by rfl)
   simp[fU,h]
theorem nC(c:ae):fj (dV c)=true:=by
 unfold dV;split
 ·have h:=oK (aa c 3)
  simp[fj,fU,h]
 ·have h:=d_ (aa c 3) (l:=OH) ix (by decide) (by rfl)
  simp[fj,fU,h]
theorem AE{vars:List BA}(hv:∀s,s∈vars->ix s=true){a:cp}(ha:fj a=true):fj (qx vars a)=true/\eE vars (qx vars a)=true:=by
 unfold qx;split
 ·rename_i h;exact⟨ha,h⟩
 ·split
  ·exact⟨by rfl,by rfl⟩
  ·have hm:List.getD vars 0 ai∈vars:=gQ (by omega)
   have h1:=hv _ hm
   have h2:mq vars (List.getD vars 0 ai)=true:=pf.2 hm
   exact⟨by simp only[fj,fU,h1];simp,by simp only[eE,h2,Bool.or_true]⟩
theorem Qr{vars:List BA}(hv:∀s,s∈vars->ix s=true)(c:ae):fx (pg vars (fy c))=true/\jB vars (pg vars (fy c))=true:=by
 have hz:eE vars nW=true:=by rfl
 have h1:=AE hv (nC c)
 unfold fy;split
 ·have h2:=AE hv (nC (bS (aa (cC c) 4) Cs))
  have h3:=d_ (aa (cC c) 4) (l:=Cs) (fun s=> !decide (s=ai)&&(decide (s=DK)||decide (s=v_))) (by decide) (by rfl)
  simp only[cK,ql,decide_eq_false_iff_not] at h3
  obtain⟨h4,h5⟩:=h3
  simp only[pg,fx,jB,if_neg h4,decide_eq_false h4,cond_false,h5,cond_true,h1.1,h1.2,h2.1,h2.2,Bool.and_self,and_self]
 ·simp only[pg,fx,jB,if_true,decide_true,cond_true,h1.1,h1.2,hz,Bool.and_self,and_self]
theorem Qx{vars:List BA}(hv:∀s,s∈vars->ix s=true)(c:ae):mi vars (NO vars (xz c))=true:=by
 have hb:=br (c:=c) (n:=3) (by omega)
 have h1:=AE hv (nC (aa c 3))
 have h2:=AE hv (nC (cC (aa c 3)))
 simp only[mi,jc,NO,xz,h1.1,h1.2,h2.1,h2.2,EL]
 exact decide_eq_true ⟨by omega,by omega⟩
theorem QS{vars:List BA}(hv:∀s,s∈vars->ix s=true)(c:ae):eG ((mF c).map (pg vars))=true/\((mF c).map (pg vars)).all (jB vars)=true:=by
 have h:=m9 (f:=fy) (g:=gA) (fun e=>fx (pg vars e)=true/\jB vars (pg vars e)=true) (Qr hv) (wc c).toNat [] (DO c) (fun x hx=>by cases hx)
 have hl:=zl c
 refine⟨?_,?_⟩
 ·simp only[eG,cK,decide_eq_true_eq,rh,wv,lB]
  exact⟨by omega,fun x ⟨e,he,hx⟩=>hx▸(h e he).1⟩
 ·simp only[rh,lB]
  exact fun x ⟨e,he,hx⟩=>hx▸(h e he).2
theorem Vq(c:ae):1<=iH c/\iH c<=6:=by
 have h:=qL c (l:=pd) (fun k=>decide (1<=k/\k<=6)) (by decide) (by rfl)
 exact yT h
theorem Vr{vars:List BA}(hv:∀s,s∈vars->ix s=true){eZ:Int}(h0:1<=eZ)(h1:eZ<=3)(c:ae):mT vars eZ (Dl vars (we eZ c))=true:=by
 have hb:=br (c:=j9 c pd) (n:=eZ) (by omega)
 have hn:bm (hZ c)=true:=d_ (j9 c pd) (l:=F7) bm (by decide) (by rfl)
 obtain⟨e1,e2⟩:=QS hv c
 have hK:=Vq c
 have hT:0<=tR c/\tR c<=100000:=by
  unfold tR;split
  ·have h:=qL (kI c) (l:=vR) (fun k=>decide (0<=k/\k<=100000)) (by decide) (by rfl)
   simpa using h
  ·omega
 unfold we
 split
 ·rename_i k2
  simp only[mT,Dl,cW,z_,gT,k2,List.map_nil,fO,Oj,EL,decide_true,show¬((2:Int)=1) by decide,decide_false,cond_false,cond_true,u_,cK,decide_eq_true_eq,ql,decide_eq_false_iff_not]
  omega
 ·rename_i k2
  split
  ·rename_i k56
   have n1:¬iH c=1:=by omega
   have n3:¬iH c=3:=by omega
   have n4:¬iH c=4:=by omega
   have h5:(decide (iH c=5)||decide (iH c=6))=true:=by simpa using k56
   simp only[mT,Dl,cW,z_,gT,decide_eq_false n1,decide_eq_false k2,decide_eq_false n3,decide_eq_false n4,h5,List.map_nil,fO,Oj,decide_true,cond_false,cond_true,pF,Tm,Bool.and_self,EL]
  ·rename_i k56
   have hd:gT eZ (Dl vars ⟨iH c,hZ c,mF c,tR c,sX c⟩)=true:=by simp[gT,Dl,k2]
   have ha:cW (Dl vars ⟨iH c,hZ c,mF c,tR c,sX c⟩)=true:=by
    have hc:iH c=1\/iH c=3\/iH c=4:=by omega
    rcases hc with k|k|k
    ·have t0:tR c=0:=if_neg (by omega)
     have u0:sX c=ai:=if_neg (fun e=>by have:=e.1;omega)
     simp only[Dl,cW,k,hn,e1,t0,u0,decide_true,cond_true,Bool.and_self]
    ·have t0:tR c=0:=if_neg (by omega)
     have u0:fH (sX c)=true:=by
      unfold sX;split
      ·have h:=d_ (aa (nS c) 2) (l:=pZ) fH (by decide) (by rfl)
       exact h
      ·rfl
     simp only[Dl,cW,k,hn,e1,t0,u0,decide_true,cond_true,show¬((3:Int)=1) by decide,show¬((3:Int)=2) by decide,decide_false,cond_false,Bool.and_self]
    ·have u0:sX c=ai:=if_neg (fun e=>by have:=e.1;omega)
     simp only[Dl,cW,k,hn,e1,u0,decide_eq_true hT,decide_true,cond_true,show¬((4:Int)=1) by decide,show¬((4:Int)=2) by decide,show¬((4:Int)=3) by decide,decide_false,cond_false,Bool.and_self]
   simp only[mT,hd,ha,u_]
   exact e2
theorem wT(b:Bool)(c:ae):fF (oD b c)=true:=by
 have h1:bm (cv c cM)=true:=d_ c (l:=cM) bm (by decide) (by rfl)
 have hl:=Gh c
 have h2:=m9 (f:=hJ) (g:=fC) (fun a=>fU a=true) xH (tv c).toNat [] (bS c cM) (fun x hx=>by cases hx)
 have h3:=lW hJ fC (tv c).toNat [] (bS c cM)
 simp only[fO] at h3
 have h4:(oD b c).ay.length<=5:=by
  show(lZ hJ fC (tv c).toNat [] (bS c cM)).length<=5
  omega
 simp only[fF,cK,decide_eq_true_eq,rh]
 exact⟨⟨h1,h4⟩,h2⟩
theorem Kr(c:ae):(kO c).length=(ON c).toNat/\∀p,p∈kO c->fF p=true/\p.Not=false:=by
 refine⟨?_,m9 (f:=oD false) (g:=ib) (fun p=>fF p=true/\p.Not=false) (fun d=>⟨wT false d,rfl⟩) (ON c).toNat [] (F8 c) (fun x hx=>by cases hx)⟩
 rw[kO,lW];simp
theorem O7{ps:List cn}(h:∀p,p∈ps->p.Not=false):cH ps=ps.length:=by
 rw[cH,List.filter_eq_self.2 (fun p hp=>by rw[h p hp];rfl)]
theorem EY(c:ae):lE (dJ c)=true/\1<=cH (dJ c)/\cH (dJ c)<=3/\∀p,p∈dJ c->fF p=true:=by
 obtain⟨hl,hp⟩:=Kr c
 have hN:=Ks c
 have hP:=O7 (fun p h=>(hp p h).2)
 have main:∀ps:List cn,(ps=kO c\/∃q,ps=kO c++[q]/\fF q=true/\q.Not=true)->hU ps=true/\1<=cH ps/\cH ps<=3/\∀p,p∈ps->fF p=true:=by
  rintro ps (rfl|⟨q,rfl,hq,hn⟩)
  ·refine⟨?_,by omega,by omega,fun p h=>(hp p h).1⟩
   simp only[hU,cK,decide_eq_true_eq,fV,lG,beq_iff_eq]
   refine⟨⟨by omega,by omega⟩,fun j hj=> ?_⟩
   have hm:List.getD (kO c) j dy∈kO c:=gQ hj
   refine⟨(hp _ hm).1,?_⟩
   rw[i_,(hp _ hm).2,decide_eq_false (by omega)]
  ·have hQ:cH (kO c++[q])=(kO c).length:=by
    rw[cH,List.filter_append,kg]
    have:(List.filter (fun p:cn=> !p.Not) [q])=[]:=by simp[hn]
    rw[this];exact hP
   have EI:∀p,p∈kO c++[q]->fF p=true:=fun p h=>by
    rcases jr.1 h with h|h
    ·exact(hp p h).1
    ·rw[ma] at h;subst h;exact hq
   refine⟨?_,by omega,by omega,EI⟩
   simp only[hU,cK,decide_eq_true_eq,fV,lG,beq_iff_eq,kg,gv,fO,hQ]
   refine⟨⟨by omega,by omega⟩,fun j hj=> ?_⟩
   have hm:List.getD (kO c++[q]) j dy∈kO c++[q]:=gQ (by simp;omega)
   refine⟨EI _ hm,?_⟩
   by_cases h:j<(kO c).length
   ·have e:List.getD (kO c++[q]) j dy=List.getD (kO c) j dy:=by
     rw[eY,eY,vC h]
    have ul:List.getD (kO c) j dy∈kO c:=gQ h
    rw[i_,e,(hp _ ul).2,decide_eq_false (by omega)]
   ·have e:List.getD (kO c++[q]) j dy=q:=by
     have:j=(kO c).length:=by omega
     rw[eY,this,wC (s_ _),W0];rfl
    rw[i_,e,hn,decide_eq_true (by omega)]
 have:=main (dJ c) (by
  unfold dJ;split
  ·exact .inr ⟨_,rfl,wT _ _,rfl⟩
  ·exact .inl rfl)
 rw[o7] at this
 exact this
theorem MO(c:ae):∀s,s∈cX c->ix s=true:=by
 intro s hs
 obtain⟨p,hp,hn,a,ha,hk,rfl⟩:=wS.1 hs
 have h:=(EY c).2.2.2 p hp
 simp only[fF,cK,rh] at h
 have:=h.2 a ha
 simp only[fU,hk,decide_true,cond_true,cK] at this
 exact this.1
theorem Io{name:BA}(hn:bm name=true)(c:ae):fI (lV name c)=true:=by
 obtain⟨h1,h2,h3,_⟩:=EY c
 have hv:=MO c
 have hs:=qL c (l:=la) (fun k=>decide (-100<=k/\k<=100)) (by decide) (by rfl)
 have hM:=OO c
 have hk:kp (fM c) (cL (dJ c))=true:=by
  unfold fM;split
  ·have:=Qx hv (vH c)
   simp only[kp,gv,fO,Om,Oj,EL]
   rw[show mi (cL (dJ c)) (NO (cX c) (xz (vH c)))=true from this];rfl
  ·rfl
 have ha:kY (qp c) (cL (dJ c)) (cH (dJ c))=true:=by
  have h:=m9 (f:=EZ c) (g:=qq c) (fun a=>mT (cX c) (cH (dJ c)) a=true) (fun d=>Vr hv (by omega) (by omega) d) (Of c).toNat [] (OP c) (fun x hx=>by cases hx)
  have hl:(qp c).length=(Of c).toNat:=by rw[qp,lW];simp
  simp only[kY,cK,decide_eq_true_eq,rh]
  exact⟨⟨by omega,by omega⟩,h⟩
 simp only[fI,lV,hn,h1,hk,ha,EL,u_]
 exact hs
theorem IU{s:BA}(h:bm s=true):s.size<=12:=by
 simp only[bm,cK,decide_eq_true_eq] at h
 exact h.1.1.2
theorem Ln{a:cp}(h:fU a=true):ff a<=40:=by
 have hz:dx.S.size=0:=rfl
 have hn:ai.size=0:=rfl
 simp only[fU,ix] at h
 simp only[ff,nq]
 by_cases k1:a.K=1
 ·simp only[decide_eq_true k1,cond_true,cK,decide_eq_true_eq] at h
  rw[h.2,hz];omega
 ·by_cases k2:a.K=2
  ·simp only[decide_eq_false k1,decide_eq_true k2,cond_true,cond_false,cK,decide_eq_true_eq] at h
   have:=Xe h.1
   rw[h.2,hn];omega
  ·by_cases k3:a.K=3
   ·simp only[decide_eq_false k1,decide_eq_false k2,decide_eq_true k3,cond_true,cond_false,cK,decide_eq_true_eq] at h
    rw[h.1,h.2,hz,hn];omega
   ·simp only[decide_eq_false k1,decide_eq_false k2,decide_eq_false k3,cond_false] at h
    cases h
theorem te{a:cp}(h:fj a=true):ff a<=40:=by
 simp only[fj,cK] at h
 exact Ln h.1
theorem anZ{p:cn}(h:fF p=true):jW p<=217:=by
 simp only[fF,cK,decide_eq_true_eq,rh] at h
 have h1:=IU h.1.1
 have h2:=vE ff 40 p.ay (fun a ha=>Ln (h.2 a ha))
 simp only[jW,tj];omega
theorem ade{c:c_}(h:jc c=true):nF c<=80:=by
 simp only[jc,cK] at h
 have h1:=te h.1.2
 have h2:=te h.2
 simp only[nF];omega
theorem adU{e:b7}(h:fx e=true):iz e<=81:=by
 have hz:ff nW=0:=rfl
 have hn:ai.size=0:=rfl
 have hp:DK.size=1:=rfl
 have hm:v_.size=1:=rfl
 simp only[fx] at h
 simp only[iz]
 by_cases k:e.Op=ai
 ·simp only[decide_eq_true k,cond_true,cK,decide_eq_true_eq] at h
  have:=te h.1
  rw[k,h.2,hz,hn];omega
 ·simp only[decide_eq_false k,cond_false] at h
  by_cases k2:e.Op=DK
  ·simp only[k2,decide_true,Bool.true_or,cond_true,cK] at h
   have h1:=te h.1
   have h2:=te h.2
   rw[k2,hp];omega
  ·by_cases k3:e.Op=v_
   ·simp only[k3,decide_true,Bool.or_true,cond_true,cK] at h
    have h1:=te h.1
    have h2:=te h.2
    rw[k3,hm];omega
   ·simp only[decide_eq_false k2,decide_eq_false k3,Bool.or_self,cond_false] at h
    cases h
theorem Zq{l:List b7}(h:eG l=true):kj l<=410:=by
 simp only[eG,cK,decide_eq_true_eq,rh] at h
 have h2:=vE iz 81 l (fun a ha=>adU (h.2 a ha))
 simp only[kj];omega
theorem QR{a:eX}(h:cW a=true):gO a<=434:=by
 have hn:ai.size=0:=rfl
 have h1:(bm a.Name=true\/a.Name=ai)/\(eG a.ay=true\/a.ay.length=0)/\(fH a.aW=true\/a.aW=ai):=by
  simp only[cW,z_] at h
  grind
 obtain⟨g1,g2,g3⟩:=h1
 have e1:a.Name.size<=12:=by
  rcases g1 with g|g
  ·exact IU g
  ·rw[g,hn];omega
 have e2:kj a.ay<=410:=by
  rcases g2 with g|g
  ·exact Zq g
  ·have:a.ay=[]:=List.length_eq_zero_iff.1 g
   rw[this];simp[kj]
 have e3:a.aW.size<=12:=by
  rcases g3 with g|g
  ·exact VN g
  ·rw[g,hn];omega
 simp only[gO];omega
theorem OL{r:aV}(h:fI r=true):dD r<=5000:=by
 have hs:=vG h
 have hp:hU r.aB=true:=by
  simp only[fI,cK] at h
  rw[o7];exact h.1.1.2
 simp only[hU,cK,decide_eq_true_eq,fV,lG] at hp
 simp only[fI,kp,kY,cK,decide_eq_true_eq,rh,mi,mT] at h
 obtain⟨⟨⟨⟨h1,_⟩,_⟩,⟨h2,h3⟩⟩,⟨⟨_,h4⟩,h5⟩⟩:=h
 have n1:=IU h1
 have s1:=vE jW 217 r.aB (fun p hpm=>by
  obtain⟨j,hj,rfl⟩:=ri hpm
  have:=(hp.2 j hj).1
  rw[eY,fo hj] at this
  exact anZ this)
 have s2:=vE nF 80 r.aY (fun c hc=>ade (h3 c hc).1.1)
 have s3:=vE gO 434 r.bG (fun a ha=>QR (h5 a ha).1.1)
 have:=hs.1.eZ
 simp only[dD,j6,uc,qE];omega
theorem ad0{d:bB}(h:fz d=true):cT d<=61000:=by
 simp only[fz,cK,decide_eq_true_eq,fV,jh] at h
 have n1:=IU h.1.1
 have s1:=vE dD 5000 d.aw (fun r hr=>by
  obtain⟨j,hj,rfl⟩:=ri hr
  have:=(h.2 j hj).1
  rw[eY,fo hj] at this
  exact OL this)
 simp only[cT,jJ];omega
theorem FC:∀(k i:Nat)(l:List aV)(c:ae),∃t:List aV,JF k i l c=l++t/\t.length<=k/\(1<=k->i=0->1<=t.length)/\∀j,j<t.length->∃d,List.getD t j ct=lV (List.getD rv (i+j) ai) d
 |0,i,l,c=>⟨[],by simp[JF],by simp,by omega,fun j hj=>by simp at hj⟩
 |k+1,i,l,c=>by
  have hb:=br (c:=c) (n:=4) (by omega)
  unfold JF
  split
  ·obtain⟨t,h1,h2,_,h4⟩:=FC k (i+1) (l++[lV (List.getD rv i ai) (aa c 4)]) (mZ (aa c 4))
   refine⟨lV (List.getD rv i ai) (aa c 4)::t,by rw[h1,wB];rfl,by simp only[gv];omega,fun _ _=>by simp only[gv];omega,fun j hj=> ?_⟩
   cases j with
   |zero=>exact⟨aa c 4,rfl⟩
   |succ j=>
    obtain⟨d,hd⟩:=h4 j (by simp only[gv] at hj;omega)
    exact⟨d,by rw[show i+(j+1)=i+1+j by omega];exact hd⟩
  ·rename_i h
   exact⟨[],by simp,by simp,fun _ hi=>by omega,fun j hj=>by simp at hj⟩
theorem MK:∀j,j<4->bm (List.getD rv j ai)=true:=by decide
theorem ML:∀j,j<4->∀k,k<j->¬List.getD rv k ai=List.getD rv j ai:=by decide
theorem uz(c:ae):fz (ca c)=true:=by
 obtain⟨t,h1,h2,h3,h4⟩:=FC 4 0 [] (bS c zG)
 have e:(ca c).aw=t:=h1
 have hn:bm (ca c).Name=true:=d_ c (l:=zG) bm (by decide) (by rfl)
 simp only[fz,cK,decide_eq_true_eq,fV,jh,hn,e,true_and]
 have h3:=h3 (by omega) rfl
 refine⟨⟨by omega,by omega⟩,fun j hj=> ?_⟩
 obtain⟨d,hd⟩:=h4 j hj
 rw[tY] at hd
 refine⟨by rw[hd];exact Io (MK j (by omega)) d,?_⟩
 refine gH (i:=j) hj (by simp) (fun k hk=>decide_eq_false fun e=> ?_)
 obtain⟨d',AD⟩:=h4 k (by omega)
 rw[tY] at AD
 rw[hd,AD] at e
 exact ML j (by omega) k hk e
theorem v7(c:ae):(∀r,r∈(ca c).aw->me r/\nb r)/\(ca c).aw.length<=12/\cT (ca c)<=61000:=
 ⟨(uy (uz c)).1,(uy (uz c)).2,ad0 (uz c)⟩
theorem v3{f:aJ}{w:BA}{v:aQ}(hf:bm f.Kind=true)(hw:bR ⟨2,0,w⟩=true)(hv:bR v=true):bI (sW f w v)=true:=by
 simp only[bI,sW,Om,Oj,hf,hw,hv];rfl
theorem yH{f:aJ}(h:bI f=true):bm f.Kind=true:=by
 simp only[bI,cK] at h;exact h.1.1
theorem Ts(ok:Bool):bR ⟨2,0,H8 ok⟩=true:=by cases ok<;>rfl
theorem QI:bR ⟨2,0,bNo⟩=true:=by rfl
def LX:aQ:=⟨1,0,ai⟩
theorem IR:bR LX=true:=by rfl
theorem Dw{d:bB}{x:ao}(h:coreX d x){l:List ak}(hl:bc l=true):coreX d (pV x l):=⟨h.po,h.store,hl,h.timers,h.oh,h.now,h.Jt,h.bZ⟩
theorem MQ{d:bB}{x:ao}(h:coreX d x)(hs:x.State=1\/x.State=3\/x.State=5){k:Nat}(hk:k<x.au.length)(ok:Bool){v:aQ}(hv:bR v=true):cF d (EJ x k ok v):=by
 by_cases h1:x.State=1
 ·rw[Mr h1]
  have ht:=(fX.1 (mX h.jl hk)).1
  have hf:=v3 (yH ht) (Ts ok) hv
  split
  ·split
   ·rename_i hp
    have hg:=Dh h.good (t:=List.getD x.au k aR) hp
    exact jm (x:=B6 x (cz x.aL (List.getD x.au k aR)).1) ⟨h.po,h.store,h.jl,h.timers,hg.2.1,h.now,h.Jt,h.bZ⟩ h1 hf
   ·exact lD h (.inl rfl)
  ·exact jm h h1 hf
 ·rw[EJ,if_pos h1]
  exact vJ h (by omega)
theorem Iu{d:bB}{x:ao}(h:cF d x)(key:BA)(ok:Bool){v:aQ}(hv:bR v=true):cF d (jR x key ok v).1:=by
 unfold jR
 split
 ·rename_i h1
  have hl:=Iv h1
  exact MQ (Dw h.tocoreX (qn h.jl)) (show x.State=1\/x.State=3\/x.State=5 from CV (ue.2 h) h1) (k:=(aZ (bt x.au key ok v).1 key).toNat) (by show _<(bt x.au key ok v).1.length;omega) ok hv
 ·exact h
theorem E7(x:ao):(kX x).dw=x.dw:=by unfold kX;split<;>rfl
theorem wW(x:ao)(st:Int):(jk x st).dw=x.dw:=E7 _
theorem IP(x:ao):(xd x).dw=x.dw:=E7 _
theorem qI(x:ao)(f:aJ):(e7 x f).dw=x.dw:=by
 unfold e7;split
 ·exact wW _ _
 ·rfl
theorem KO(x:ao)(e:cD):(gS x e).dw=x.dw:=by
 unfold gS FB LH FZ
 repeat' split
 all_goals first
  |exact qI _ _
  |exact wW _ _
  |rfl
theorem zO:∀(l:List cD)(x:ao),(jH l x).dw=x.dw
 |[],_=>rfl
 |e::l,x=>by
  rw[jH];split
  ·rw[zO l,KO]
  ·rfl
theorem Pn(d:bB)(x:ao)(m:av):(ph d x m).dw=x.dw:=by
 unfold ph;split
 ·rw[zO];rfl
 ·exact wW _ _
theorem M9(x:ao)(key:BA)(ok:Bool)(v:aQ):(jR x key ok v).1.dw=x.dw:=by
 unfold jR;split
 ·show(EJ _ _ _ _).dw=_
  unfold EJ
  repeat' split
  all_goals first
   |exact IP _
   |exact qI _ _
   |exact wW _ _
 ·rfl
def ko:List aI->ao->ao
 |[],x=>x
 |t::l,x=>if x.State=1 then ko l (e7 x t.F) else x
theorem wK{d:bB}:∀{l:List aI}{x:ao},cF d x->(∀t∈l,bI t.F=true)->cF d (ko l x)
 |[],_,h,_=>h
 |t::l,x,h,hl=>by
  rw[ko];split
  ·rename_i hs
   exact wK (jm h.tocoreX hs (hl t gj)) fun y hy=>hl y (cA _ hy)
  ·exact h
theorem CK:∀(l:List aI)(x:ao),(ko l x).dw=x.dw
 |[],_=>rfl
 |t::l,x=>by
  rw[ko];split
  ·rw[CK l,qI]
  ·rfl
def adX(x:ao)(now:Int):ao:=⟨x.S,x.aD,x.au,MS now x.aC,x.aL,x.State,now⟩
def dq(x:ao)(now:Int):ao:=if x.State=1 then ko (pO now x.aC) (adX x now) else EO x now
def oi(x:ao)(now:Int):ao:=pV x (x.au.map (fR now))
def gr(st:Int):List aJ->ao->ao
 |[],x=>x
 |f::l,x=>if x.State=st then gr st l (if st=1 then e7 x (sW f bNo LX) else xd x) else x
def jg(x:ao)(now:Int):List BA:=x.au.flatMap (lf now)
def Fp(l:List ak)(k:BA):aJ:=(List.getD l (aZ l k).toNat aR).F
def nB(x:ao)(now:Int):ao:=gr (dq x now).State ((jg (dq x now) now).map (Fp (oi (dq x now) now).au)) (oi (dq x now) now)
def zC(x:ao)(now:Int):List ow:=(dq x now).au.flatMap (oq now)
theorem NV{d:bB}{x:ao}(h:coreX d x){now:Int}(h0:0<=now)(h1:now<=1000000000):coreX d (EO x now):=⟨h.po,h.store,h.jl,h.timers,h.oh,⟨h0,h1⟩,h.Jt,h.bZ⟩
theorem zK{d:bB}{x:ao}(h:cF d x){now:Int}(h0:0<=now)(h1:now<=1000000000):cF d (dq x now):=by
 unfold dq
 split
 ·rename_i hs
  refine wK (jK ⟨h.po,h.store,h.jl,vg _ h.timers,h.oh,⟨h0,h1⟩,h.Jt,h.bZ⟩ hs) fun t ht=> ?_
  have:=(oQ.1 h.timers).2.1 t (wA.1 ht).1
  simp only[iy,cK] at this
  exact this.2
 ·exact⟨NV h.tocoreX h0 h1,h.state,h.ended,h.LD⟩
theorem M8(x:ao)(now:Int):(dq x now).dw=now:=by
 unfold dq;split
 ·rw[CK];rfl
 ·rfl
theorem MJ{l:List ak}(h:oj l=false)(now:Int):l.map (fR now)=l:=by
 have:∀t∈l,fR now t=t:=fun t ht=>by
  obtain⟨i,hi,rfl⟩:=ri ht
  have:=nR.1 h i hi
  rw[eY,fo hi] at this
  have hd:due now l[i]=false:=by simp only[due];rw[show j8 l[i]=false from this];rfl
  rw[fR,hd];rfl
 exact(Ob this).trans (List.map_id' l)
theorem NQ{l:List ak}(h:oj l=false)(now:Int):l.flatMap (lf now)=[]:=by
 rw[List.flatMap_eq_nil_iff]
 intro t ht
 obtain⟨i,hi,rfl⟩:=ri ht
 have:=nR.1 h i hi
 rw[eY,fo hi] at this
 have hd:due now l[i]=false:=by simp only[due];rw[show j8 l[i]=false from this];rfl
 rw[lf,hd];rfl
theorem Xv(now:Int)(t:ak):(fR now t).F=t.F:=LL now t
theorem Dn{l:List ak}{now:Int}{k:BA}(h:k∈l.flatMap (lf now)):0<=aZ (l.map (fR now)) k/\aZ (l.map (fR now)) k<((l.map (fR now)).length:Int):=by
 obtain⟨t,ht,hk⟩:=nT.1 h
 unfold lf at hk
 split at hk
 ·rw[ma] at hk
  obtain⟨i,hi,rfl⟩:=ri ht
  rcases jA (l.map (fR now)).length (fun k'=>decide (bU (List.getD (l.map (fR now)) k' aR).F=k)) with⟨_,h2⟩|⟨m,g1,g2,_,_⟩
  ·have:=yF (h2 i (by rw[wv];exact hi))
   rw[eY,nk,fo hi] at this
   exact absurd (by rw[hk];exact congrArg bU (Xv now l[i])) this
  ·have g2:aZ (l.map (fR now)) k=m:=g2
   rw[g2];omega
 ·simp at hk
theorem Cy{d:bB}{x:ao}(h:cF d x){now:Int}(h0:0<=now)(h1:now<=1000000000):cF d (oi x now):=by
 refine⟨Dw h.tocoreX (rm h0 h1 h.jl),h.state,fun g=> ?_,h.LD⟩
 obtain⟨g1,g2⟩:=h.ended g
 exact⟨by show oj (x.au.map (fR now))=false;rw[MJ g1];exact g1,g2⟩
theorem wL{d:bB}{st:Int}:∀{l:List aJ}{x:ao},cF d x->(∀f∈l,bm f.Kind=true)->(l≠[]->st=1\/st=3\/st=5)->cF d (gr st l x)
 |[],_,h,_,_=>h
 |f::l,x,h,hl,hs=>by
  rw[gr];split
  ·rename_i he
   have hs:=hs (by simp)
   refine wL ?_ (fun y hy=>hl y (cA _ hy)) fun _=>hs
   split
   ·rename_i h1
    exact jm h.tocoreX (he.trans h1) (v3 (hl f gj) QI IR)
   ·exact vJ h.tocoreX (by omega)
  ·exact h
theorem CM(st:Int):∀(l:List aJ)(x:ao),(gr st l x).dw=x.dw
 |[],_=>rfl
 |f::l,x=>by
  rw[gr];split
  ·rw[CM st l]
   split
   ·exact qI _ _
   ·exact IP _
  ·rfl
theorem y8{l:List ak}{now:Int}(h:bc l=true)(h0:0<=now)(h1:now<=1000000000){k:BA}(hk:k∈l.flatMap (lf now)):bI (Fp (l.map (fR now)) k)=true:=by
 obtain⟨a,b⟩:=Dn hk
 exact(fX.1 (mX (rm h0 h1 h) (k:=(aZ (l.map (fR now)) k).toNat) (by omega))).1
theorem E9{d:bB}{x:ao}(h:cF d x){now:Int}(hk:jg x now≠[]):x.State=1\/x.State=3\/x.State=5:=by
 by_cases hc:x.State=2\/x.State=4\/x.State=6
 ·exact absurd (NQ (h.ended hc).1 now) hk
 ·have:=h.state;omega
theorem Kw{d:bB}{x:ao}(h:cF d x){now:Int}(h0:0<=now)(h1:now<=1000000000):cF d (nB x now):=by
 have hT:=zK h h0 h1
 refine wL (Cy hT h0 h1) (fun f hf=> ?_) fun hn=>E9 hT (now:=now) (by intro e;rw[e] at hn;exact hn rfl)
 obtain⟨k,hk,rfl⟩:=lB.1 hf
 exact yH (y8 hT.jl h0 h1 hk)
theorem Pk(x:ao)(now:Int):(nB x now).dw=now:=by
 unfold nB
 rw[CM]
 exact M8 x now
def rH:List Int:=[0,1,5,30]
def Wo(x:ao)(c:ae):BA:=bU (List.getD x.au (ag c x.au.length).toNat aR).F
def NR(x:ao)(c:ae):ae:=aa c x.au.length
def vm(d:bB)(x:ao):ao:=match jn d (allM d.aw x.S.ab) x.aD with|some m=>ph d x m|none=>x
def ii(d:bB)(x:ao)(c:ae):ao:=
 if ag c 8=0\/ag c 8=1 then(if x.State=1 then e7 x (cP (aa c 8)) else x)
 else if ag c 8=2\/ag c 8=3\/ag c 8=4 then(if x.State=1 then vm d x else x)
 else if ag c 8=5\/ag c 8=6 then(if mw x=true then x else nB x (x.dw+gL (aa c 8) rH))
 else if 0<x.au.length then(jR x (Wo x (aa c 8)) (!b8 (NR x (aa c 8)) 3) (dR (aa (NR x (aa c 8)) 3))).1 else x
def eQ(x:ao)(c:ae):ae:=
 if ag c 8=0\/ag c 8=1 then(if x.State=1 then cq (aa c 8) else aa c 8)
 else if ag c 8=2\/ag c 8=3\/ag c 8=4 then aa c 8
 else if ag c 8=5\/ag c 8=6 then(if mw x=true then aa c 8 else j9 (aa c 8) rH)
 else if 0<x.au.length then ew (aa (NR x (aa c 8)) 3) else aa c 8
theorem LG(c:ae):0<=gL c rH/\gL c rH<=30:=by
 have:=qL c (l:=rH) (fun n=>decide (0<=n/\n<=30)) (by decide) (by decide)
 simpa using this
theorem Kx{d:bB}{x:ao}(h:cF d x)(hs:x.State=1):cF d (vm d x):=by
 unfold vm
 cases hp:jn d (allM d.aw x.S.ab) x.aD with
 |some m=>exact Ky h.tocoreX hs (E5 hp)
 |none=>exact h
end
end AM
