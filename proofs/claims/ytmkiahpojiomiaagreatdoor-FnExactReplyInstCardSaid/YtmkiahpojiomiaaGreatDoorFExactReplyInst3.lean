/- Functions of the program with their contracts: put together by gen/link.py for FnExactReplyInst. -/
import Derived.Test.YtmkiahpojiomiaaGreatDoorAmLib
import Derived.Test.YtmkiahpojiomiaaGreatDoorFExactReplyInst2
import Derived.Lib.ItoaLen
import Derived.Lib.Join
import Derived.Test.YtmkiahpojiomiaaGreatDoorShelf
namespace AM
open Go Go.Proofs.Tryz
set_option linter.unusedVariables false
set_option linter.unusedSimpArgs false
set_option maxRecDepth 100000
noncomputable section
def Zk271:Con UU where
 α:=(List DExpr)×(List DExpr)
 md:=[.ro,.ro]
 of:=oC (oL .eExpr) (o1 (oL .eExpr))
 ds:=fun x=>[dL .eExpr x.1,dL .eExpr x.2]
 pre:=fun _=>[]
 res:=fun(a,b)=>⟨[dO (decide (a=b))],true,[]⟩
 law:=lC (lL .eExpr) (l1 (lL .eExpr))
def Zi271_4(a:(List DExpr))(b:(List DExpr)):Int×Unit→Prop:=eqI a b
def Zm271_4(a:(List DExpr))(b:(List DExpr)):Int×Unit→Nat:=rM1 a
def Za271:Zk271.α→Nat→Option (Ann UU):=fun(a,b)=>annL [(4,annOf [.slot 5 (5,1024) (.lit (.int .i64))] (fun _=>Zi271_4 a b) (Zm271_4 a b))]
def Zu271:=us [Zh285]
theorem Zo271:Holds EE (271,Zk271):=by
 refine holds_of EE_ok func271 Zk271 (by kernel_rfl) Zu271 (us_ok _) Za271 (fun x hp hb=> ?_)
 obtain⟨a,b⟩:=x
 have hl_a:a.length≤9223372036854775807:=bdL (hb _ m0)
 have hl_b:b.length≤9223372036854775807:=bdL (hb _ m1)
 clear hp hb
 apply @ve _ (eqV zExpr a b) (by kernel_rfl)
 exact eqV_ok hl_a
def Zh271:HH:=⟨_,Zo271⟩
def Zk191:Con UU where
 α:=(List DExpr)×Int
 md:=[.wr,.ro]
 of:=oC (oL .eExpr) (o1 oI)
 ds:=fun x=>[dL .eExpr x.1,dI x.2]
 pre:=fun(a,k)=>[0≤k,k+cntExprS a≤4611686018427387904]
 res:=fun(a,k)=>⟨[dI (k+cntExprS a)],true,[dL .eExpr (markExprS a k)]⟩
 law:=lC (lL .eExpr) (l1 lI)
def Zi191_2(a:(List DExpr))(k:Int):List DExpr×Int×Int×Unit→Prop:=fun(row,kk,i,_)=>0≤i∧i≤a.length∧row=(mkS markExpr cntExpr a k).take i.toNat++a.drop i.toNat∧kk=k+ctS cntExpr (a.take i.toNat)
def Zm191_2(a:(List DExpr))(k:Int):List DExpr×Int×Int×Unit→Nat:=fun(row,kk,i,_)=>a.length-i.toNat
def Za191:Zk191.α→Nat→Option (Ann UU):=fun(a,k)=>annL [(2,annOf [.slot 0 (2000000,0) (.own .eExpr true),.slot 1 (1,1024) (.lit (.int .i64)),.slot 5 (5,1024) (.lit (.int .i64))] (fun _=>Zi191_2 a k) (Zm191_2 a k))]
def Zu191:=us [Zh113]
theorem Zo191:Holds EE (191,Zk191):=by
 refine holds_of EE_ok func191 Zk191 (by kernel_rfl) Zu191 (us_ok _) Za191 (fun x hp hb=> ?_)
 obtain⟨a,k⟩:=x
 have hl_a:a.length≤9223372036854775807:=bdL (hb _ m0)
 have hl_k:=bdI (n:=k) (hb _ m1)
 have hp0:0≤k:=hp _ m0
 have hp1:k+cntExprS a≤4611686018427387904:=hp _ m1
 clear hp hb
 apply @ve _ (Zi191_2 a k (a,k,(0:Int),())∧∀(y:List DExpr×Int×Int×PUnit),let x0:Nat:=y.2.2.1.toNat;let x14:List DExpr:=List.modify y.1 x0 fun(x:DExpr)=>{Op:=markText y.2.1,L:=x.L,R:=x.R:DExpr};let x15:Int:=IntKind.wrap IntKind.i64 (y.2.1+(1:Int));let x12:Int:=IntKind.wrap IntKind.i64 (x15+(1:Int));let x13:List DExpr:=List.modify x14 x0 fun(x:DExpr)=>{Op:=x.Op,L:={K:=x15,S:=x.L.S,V:=x.L.V:DArg},R:=x.R:DExpr};let x16:Int:=IntKind.wrap IntKind.i64 (IntKind.wrap IntKind.i64 (x12+(1:Int))+(1:Int));let x9:List DExpr:=List.modify x13 x0 fun(x:DExpr)=>{Op:=x.Op,L:={K:=x.L.K,S:=markText x12,V:=x.L.V:DArg},R:=x.R:DExpr};let x11:Int:=IntKind.wrap IntKind.i64 (x16+(1:Int));let x7:List DExpr:=List.modify x9 x0 fun(x:DExpr)=>{Op:=x.Op,L:={K:=x.L.K,S:=x.L.S,V:={K:=IntKind.wrap IntKind.i64 (x12+(1:Int)),N:=x.L.V.N,S:=x.L.V.S:DVal}:DArg},R:=x.R:DExpr};let x10:Int:=IntKind.wrap IntKind.i64 (IntKind.wrap IntKind.i64 (x11+(1:Int))+(1:Int));let x17:Int:=IntKind.wrap IntKind.i64 (IntKind.wrap IntKind.i64 (x10+(1:Int))+(1:Int));let x6:List DExpr:=List.modify x7 x0 fun(x:DExpr)=>{Op:=x.Op,L:={K:=x.L.K,S:=x.L.S,V:={K:=x.L.V.K,N:=x16,S:=x.L.V.S:DVal}:DArg},R:=x.R:DExpr};let x8:Int:=IntKind.wrap IntKind.i64 (x17+(1:Int));let x5:List DExpr:=List.modify x6 x0 fun(x:DExpr)=>{Op:=x.Op,L:={K:=x.L.K,S:=x.L.S,V:={K:=x.L.V.K,N:=x.L.V.N,S:=markText x11:DVal}:DArg},R:=x.R:DExpr};let x4:List DExpr:=List.modify x5 x0 fun(x:DExpr)=>{Op:=x.Op,L:=x.L,R:={K:=IntKind.wrap IntKind.i64 (x11+(1:Int)),S:=x.R.S,V:=x.R.V:DArg}:DExpr};let x3:List DExpr:=List.modify x4 x0 fun(x:DExpr)=>{Op:=x.Op,L:=x.L,R:={K:=x.R.K,S:=markText x10,V:=x.R.V:DArg}:DExpr};let x2:List DExpr:=List.modify x3 x0 fun(x:DExpr)=>{Op:=x.Op,L:=x.L,R:={K:=x.R.K,S:=x.R.S,V:={K:=IntKind.wrap IntKind.i64 (x10+(1:Int)),N:=x.R.V.N,S:=x.R.V.S:DVal}:DArg}:DExpr};let x1:List DExpr:=List.modify x2 x0 fun(x:DExpr)=>{Op:=x.Op,L:=x.L,R:={K:=x.R.K,S:=x.R.S,V:={K:=x.R.V.K,N:=x17,S:=x.R.V.S:DVal}:DArg}:DExpr};Zi191_2 a k y→bif decide (y.2.2.1<(y.1.length:Int)) then y.2.1≤(4611686018427387903:Int)∧(0:Int)≤y.2.2.1∧x0<y.1.length∧x0<y.1.length∧(0:Int)≤y.2.2.1∧x0<x14.length∧x0<x14.length∧x12≤(4611686018427387903:Int)∧(0:Int)≤y.2.2.1∧x0<x13.length∧x0<x13.length∧(0:Int)≤y.2.2.1∧x0<x9.length∧x0<x9.length∧(0:Int)≤y.2.2.1∧x0<x7.length∧x0<x7.length∧x11≤(4611686018427387903:Int)∧(0:Int)≤y.2.2.1∧x0<x6.length∧x0<x6.length∧(0:Int)≤y.2.2.1∧x0<x5.length∧x0<x5.length∧x10≤(4611686018427387903:Int)∧(0:Int)≤y.2.2.1∧x0<x4.length∧x0<x4.length∧(0:Int)≤y.2.2.1∧x0<x3.length∧x0<x3.length∧(0:Int)≤y.2.2.1∧x0<x2.length∧x0<x2.length∧x8≤(4611686018427387903:Int)∧(0:Int)≤y.2.2.1∧x0<x1.length∧x0<x1.length∧Zi191_2 a k (List.modify x1 x0 fun(x:DExpr)=>{Op:=x.Op,L:=x.L,R:={K:=x.R.K,S:=x.R.S,V:={K:=x.R.V.K,N:=x.R.V.N,S:=markText x8:DVal}:DArg}:DExpr},IntKind.wrap IntKind.i64 (x8+(1:Int)),IntKind.wrap IntKind.i64 (y.2.2.1+(1:Int)),())∧Zm191_2 a k (List.modify x1 x0 fun(x:DExpr)=>{Op:=x.Op,L:=x.L,R:={K:=x.R.K,S:=x.R.S,V:={K:=x.R.V.K,N:=x.R.V.N,S:=markText x8:DVal}:DArg}:DExpr},IntKind.wrap IntKind.i64 (x8+(1:Int)),IntKind.wrap IntKind.i64 (y.2.2.1+(1:Int)),())<Zm191_2 a k y else asD [VI y.2.1]=asD [VI (k+(↑(cntExprS a):Int))]∧asD [VL .eExpr y.1]=asD [VL .eExpr (markExprS a k)]) (by kernel_rfl)
 dsimp only
 refine⟨⟨by omega,by omega,by simp,by simp[ctS]⟩,?_⟩
 rintro⟨row,kk,i,⟨⟩⟩ ⟨h1,h2,rfl,rfl⟩
 simp only
 have hl:=mk_rl markExpr cntExpr a k h1 h2
 refine if_cond (fun hc=> ?_) (fun hc=> ?_)
 ·have hc:i<a.length:=by have hc:=of_decide_eq_true hc;omega
  have hct:=ctS_take cntExpr a zExpr h1 hc
  have hle:=ctS_take_le cntExpr a (i+1).toNat
  have hg:=mk_getD _ a zExpr (mk_tl markExpr cntExpr a k h1 h2) h1 hc
  have hM:=fun F hF=>mkS_mod markExpr cntExpr a zExpr k (i:=i) F h1 hc hF
  have hq:(cntExprS a:Int)=ctS cntExpr a:=rfl
  generalize List.getD a i.toNat zExpr=x at*
  generalize hkk:k+(ctS cntExpr (a.take i.toNat):Int)=kk at*
  generalize List.take i.toNat (mkS markExpr cntExpr a k)++List.drop i.toNat a=R at*
  simp only[cntExpr] at hct
  simp(disch:=first|omega|(simp only[zbf];omega)) only[zbf,wrap_i64,getD_modify,modify_modify,hg,hl]
  repeat' (first|refine And.intro (by omega) ?_|fail)
  exact⟨⟨by omega,by omega,hM _ (by first|rfl|(simp only[markExpr,markBool];rw[zbp (by omega)];rfl)),by omega⟩,by simp only[Zm191_2];omega⟩
 ·have hc:a.length≤i:=by have hc:=of_decide_eq_false hc;omega
  rw[mk_done markExpr cntExpr a k hc,ct_done cntExpr a hc]
  exact⟨rfl,rfl⟩
def Zh191:HH:=⟨_,Zo191⟩
def Zk194:Con UU where
 α:=DAct×Int
 md:=[.ro,.ro]
 of:=oC (oA .lAct) (o1 oI)
 ds:=fun x=>[dA .lAct x.1,dI x.2]
 pre:=fun(a,left)=>[0≤left]
 res:=fun(a,left)=>⟨[dI (szr left (sizeAct a))],true,[]⟩
 law:=lC (lA .lAct) (l1 lI)
def Za194:Zk194.α→Nat→Option (Ann UU):=fun(a,left)=>annL []
def Zu194:=us [Zh245]
theorem Zo194:Holds EE (194,Zk194):=by
 refine holds_of EE_ok func194 Zk194 (by kernel_rfl) Zu194 (us_ok _) Za194 (fun x hp hb=> ?_)
 obtain⟨a,left⟩:=x
 have hz0:=bd_lAct (x:=a) (hb _ m0)
 have hl_a_Name:=hz0.1
 have hl_a_Args:=hz0.2.1
 have hl_a_Undo:=hz0.2.2
 have hl_left:=bdI (n:=left) (hb _ m1)
 have hp0:0≤left:=hp _ m0
 clear hp hb
 apply @ve _ (let x1:Int:=IntKind.wrap IntKind.i64 (left-(↑(ByteArray.size a.Name):Int));let x0:Int:=IntKind.wrap IntKind.i64 (szr x1 (sizeExprS a.Args)-(↑(ByteArray.size a.Undo):Int));bif decide (x1<(0:Int)) then Li (-1:Int) (szr left (sizeAct a)) else(0:Int)≤x1∧bif decide (szr x1 (sizeExprS a.Args)<(0:Int)) then Li (-1:Int) (szr left (sizeAct a)) else bif decide (x0<(0:Int)) then Li (-1:Int) (szr left (sizeAct a)) else Li x0 (szr left (sizeAct a))) (by kernel_rfl)
 dsimp only
 rw[wrap_i64 (by omega) (by omega)]
 refine if_cond (fun h=>Lf_i (szr_bad' ?_)) (fun h=> ?_)
 ·have h:=of_decide_eq_true h;simp only[sizeAct];omega
 have h0:=of_decide_eq_false h
 refine⟨by omega,if_cond (fun h=>Lf_i (szr_bad' ?_)) (fun h=> ?_)⟩
 ·have h:=szr_neg h;simp only[sizeAct];omega
 obtain⟨e1,h1⟩:=szr_pos h
 rw[e1]
 rw[wrap_i64 (by omega) (by omega)]
 refine if_cond (fun h=>Lf_i (szr_bad' ?_)) (fun h=> ?_)
 ·have h:=of_decide_eq_true h;simp only[sizeAct];omega
 have h2:=of_decide_eq_false h
 exact Lf_i (by rw[←szr_ok' (by simp only[sizeAct];omega)];simp only[sizeAct];try omega)
def Zh194:HH:=⟨_,Zo194⟩
def Zk211:Con UU where
 α:=DAct
 md:=[.ro]
 of:=o1 (oA .lAct)
 ds:=fun x=>[dA .lAct x]
 pre:=fun a=>[sizeAct a≤4294967296]
 res:=fun a=>⟨[dA .eAct a],true,[]⟩
 law:=l1 (lA .lAct)
def Za211:Zk211.α→Nat→Option (Ann UU):=fun a=>annL []
def Zu211:=us [Zh258]
theorem Zo211:Holds EE (211,Zk211):=by
 refine holds_of EE_ok func211 Zk211 (by kernel_rfl) Zu211 (us_ok _) Za211 (fun(a:DAct) hp hb=> ?_)
 have hz0:=bd_lAct (x:=a) (hb _ m0)
 have hl_a_Name:=hz0.1
 have hl_a_Args:=hz0.2.1
 have hl_a_Undo:=hz0.2.2
 have hp0:sizeAct a≤4294967296:=hp _ m0
 clear hp hb
 apply @ve _ (sizeExprS a.Args≤(4294967296:Nat)∧Lf [DV.agg [CI a.Kind,CS a.Name,CL .eExpr a.Args,CI a.N,CS a.Undo]] [DV.agg [CI a.Kind,CS a.Name,CL .eExpr a.Args,CI a.N,CS a.Undo]]) (by kernel_rfl)
 simp only[sizeAct] at hp0
 repeat' (first|exact Lf_rfl _|(refine And.intro (by omega) ?_))
def Zh211:HH:=⟨_,Zo211⟩
def Zk242:Con UU where
 α:=DAct×DAct
 md:=[.ro,.ro]
 of:=oC (oA .eAct) (o1 (oA .eAct))
 ds:=fun x=>[dA .eAct x.1,dA .eAct x.2]
 pre:=fun _=>[]
 res:=fun(a,b)=>⟨[dO (decide (a=b))],true,[]⟩
 law:=lC (lA .eAct) (l1 (lA .eAct))
def Za242:Zk242.α→Nat→Option (Ann UU):=fun(a,b)=>annL []
def Zu242:=us [Zh271]
theorem Zo242:Holds EE (242,Zk242):=by
 refine holds_of EE_ok func242 Zk242 (by kernel_rfl) Zu242 (us_ok _) Za242 (fun x hp hb=> ?_)
 obtain⟨a,b⟩:=x
 have hz0:=bd_eAct (x:=a) (hb _ m0)
 have hl_a_Name:=hz0.1
 have hl_a_Args:=hz0.2.1
 have hl_a_Undo:=hz0.2.2
 have hz1:=bd_eAct (x:=b) (hb _ m1)
 have hl_b_Name:=hz1.1
 have hl_b_Args:=hz1.2.1
 have hl_b_Undo:=hz1.2.2
 clear hp hb
 apply @ve _ (bif a.Kind !=b.Kind then Lb false (decide (a=b)) else bif !ByteArray.toList a.Name==ByteArray.toList b.Name then Lb false (decide (a=b)) else bif !decide (a.Args=b.Args) then Lb false (decide (a=b)) else bif a.N !=b.N then Lb false (decide (a=b)) else bif !ByteArray.toList a.Undo==ByteArray.toList b.Undo then Lb false (decide (a=b)) else Lb true (decide (a=b))) (by kernel_rfl)
 obtain⟨aKind,aName,aArgs,aN,aUndo⟩:=a
 obtain⟨bKind,bName,bArgs,bN,bUndo⟩:=b
 repeat' (apply if_cond<;>intro _)
 all_goals (first|apply Lf_t|apply Lf_f)<;>simp_all
def Zh242:HH:=⟨_,Zo242⟩
def Zk127:Con UU where
 α:=(List DAct)×Int
 md:=[.ro,.ro]
 of:=oC (oL .lAct) (o1 oI)
 ds:=fun x=>[dL .lAct x.1,dI x.2]
 pre:=fun(a,left)=>[0≤left]
 res:=fun(a,left)=>⟨[dI (szr left (sizeActS a))],true,[]⟩
 law:=lC (lL .lAct) (l1 lI)
def Zi127_5(a:(List DAct))(left:Int):Int×Int×Unit→Prop:=szI sizeAct a (sizeActS a) left
def Zm127_5(a:(List DAct))(left:Int):Int×Int×Unit→Nat:=rM2 a
def Za127:Zk127.α→Nat→Option (Ann UU):=fun(a,left)=>annL [(5,annOf [.slot 1 (1,1024) (.lit (.int .i64)),.slot 5 (5,1024) (.lit (.int .i64))] (fun _=>Zi127_5 a left) (Zm127_5 a left))]
def Zu127:=us [Zh194]
theorem Zo127:Holds EE (127,Zk127):=by
 refine holds_of EE_ok func127 Zk127 (by kernel_rfl) Zu127 (us_ok _) Za127 (fun x hp hb=> ?_)
 obtain⟨a,left⟩:=x
 have hl_a:a.length≤9223372036854775807:=bdL (hb _ m0)
 have hl_left:=bdI (n:=left) (hb _ m1)
 have hp0:0≤left:=hp _ m0
 clear hp hb
 apply @ve _ (szV sizeAct zAct a (sizeActS a) left) (by kernel_rfl)
 exact szV_ok rfl hp0 hl_left hl_a
def Zh127:HH:=⟨_,Zo127⟩
def Zk153:Con UU where
 α:=(List DAct)
 md:=[.ro]
 of:=o1 (oL .lAct)
 ds:=fun x=>[dL .lAct x]
 pre:=fun a=>[sizeActS a≤4294967296]
 res:=fun a=>⟨[dL .eAct a],true,[]⟩
 law:=l1 (lL .lAct)
def Zi153_3(a:(List DAct)):List DAct×Int×Unit→Prop:=toI zAct a
def Zm153_3(a:(List DAct)):List DAct×Int×Unit→Nat:=rM2 a
def Za153:Zk153.α→Nat→Option (Ann UU):=fun a=>annL [(3,annOf [.slot 3 (3,1024) (.own .eAct true),.slot 4 (4,1024) (.lit (.int .i64))] (fun _=>Zi153_3 a) (Zm153_3 a))]
def Zu153:=us [Zh211]
theorem Zo153:Holds EE (153,Zk153):=by
 refine holds_of EE_ok func153 Zk153 (by kernel_rfl) Zu153 (us_ok _) Za153 (fun(a:(List DAct)) hp hb=> ?_)
 have hl_a:a.length≤9223372036854775807:=bdL (hb _ m0)
 have hp0:sizeActS a≤4294967296:=hp _ m0
 clear hp hb
 apply @ve _ (toV sizeAct zAct a fun y=>Lf [.one (.sl .eAct y)] [.one (.sl .eAct a)]) (by kernel_rfl)
 exact toV_ok hp0 (Lf_rfl _)
def Zh153:HH:=⟨_,Zo153⟩
def Zk189:Con UU where
 α:=(List DAct)×(List DAct)
 md:=[.ro,.ro]
 of:=oC (oL .eAct) (o1 (oL .eAct))
 ds:=fun x=>[dL .eAct x.1,dL .eAct x.2]
 pre:=fun _=>[]
 res:=fun(a,b)=>⟨[dO (decide (a=b))],true,[]⟩
 law:=lC (lL .eAct) (l1 (lL .eAct))
def Zi189_4(a:(List DAct))(b:(List DAct)):Int×Unit→Prop:=eqI a b
def Zm189_4(a:(List DAct))(b:(List DAct)):Int×Unit→Nat:=rM1 a
def Za189:Zk189.α→Nat→Option (Ann UU):=fun(a,b)=>annL [(4,annOf [.slot 5 (5,1024) (.lit (.int .i64))] (fun _=>Zi189_4 a b) (Zm189_4 a b))]
def Zu189:=us [Zh242]
theorem Zo189:Holds EE (189,Zk189):=by
 refine holds_of EE_ok func189 Zk189 (by kernel_rfl) Zu189 (us_ok _) Za189 (fun x hp hb=> ?_)
 obtain⟨a,b⟩:=x
 have hl_a:a.length≤9223372036854775807:=bdL (hb _ m0)
 have hl_b:b.length≤9223372036854775807:=bdL (hb _ m1)
 clear hp hb
 apply @ve _ (eqV zAct a b) (by kernel_rfl)
 exact eqV_ok hl_a
def Zh189:HH:=⟨_,Zo189⟩
def Zk116:Con UU where
 α:=(List DAct)×Int
 md:=[.wr,.ro]
 of:=oC (oL .eAct) (o1 oI)
 ds:=fun x=>[dL .eAct x.1,dI x.2]
 pre:=fun(a,k)=>[0≤k,k+cntActS a≤4611686018427387904]
 res:=fun(a,k)=>⟨[dI (k+cntActS a)],true,[dL .eAct (markActS a k)]⟩
 law:=lC (lL .eAct) (l1 lI)
def Zi116_2(a:(List DAct))(k:Int):List DAct×Int×Int×Unit→Prop:=fun(row,kk,i,_)=>0≤i∧i≤a.length∧row=(mkS markAct cntAct a k).take i.toNat++a.drop i.toNat∧kk=k+ctS cntAct (a.take i.toNat)
def Zm116_2(a:(List DAct))(k:Int):List DAct×Int×Int×Unit→Nat:=fun(row,kk,i,_)=>a.length-i.toNat
def Za116:Zk116.α→Nat→Option (Ann UU):=fun(a,k)=>annL [(2,annOf [.slot 0 (2000000,0) (.own .eAct true),.slot 1 (1,1024) (.lit (.int .i64)),.slot 5 (5,1024) (.lit (.int .i64))] (fun _=>Zi116_2 a k) (Zm116_2 a k))]
def Zu116:=us [Zh113,Zh191]
theorem Zo116:Holds EE (116,Zk116):=by
 refine holds_of EE_ok func116 Zk116 (by kernel_rfl) Zu116 (us_ok _) Za116 (fun x hp hb=> ?_)
 obtain⟨a,k⟩:=x
 have hl_a:a.length≤9223372036854775807:=bdL (hb _ m0)
 have hl_k:=bdI (n:=k) (hb _ m1)
 have hp0:0≤k:=hp _ m0
 have hp1:k+cntActS a≤4611686018427387904:=hp _ m1
 clear hp hb
 apply @ve _ (Zi116_2 a k (a,k,(0:Int),())∧∀(y:List DAct×Int×Int×PUnit),let x3:Nat:=y.2.2.1.toNat;let x7:Int:=IntKind.wrap IntKind.i64 (y.2.1+(1:Int));let x8:List DAct:=List.modify y.1 x3 fun(x:DAct)=>{Kind:=y.2.1,Name:=x.Name,Args:=x.Args,N:=x.N,Undo:=x.Undo:DAct};let x5:List DAct:=List.modify x8 x3 fun(x:DAct)=>{Kind:=x.Kind,Name:=markText x7,Args:=x.Args,N:=x.N,Undo:=x.Undo:DAct};let x6:Int:=IntKind.wrap IntKind.i64 (x7+(1:Int));let x2:Int:=x6+(↑(cntExprS (List.getD x5 x3 zAct).Args):Int);let x4:List DAct:=List.modify x5 x3 fun(x:DAct)=>{Kind:=x.Kind,Name:=x.Name,Args:=markExprS (List.getD x5 x3 zAct).Args x6,N:=x.N,Undo:=x.Undo:DAct};let x0:List DAct:=List.modify x4 x3 fun(x:DAct)=>{Kind:=x.Kind,Name:=x.Name,Args:=x.Args,N:=x2,Undo:=x.Undo:DAct};let x1:Int:=IntKind.wrap IntKind.i64 (x2+(1:Int));Zi116_2 a k y→bif decide (y.2.2.1<(y.1.length:Int)) then(0:Int)≤y.2.2.1∧x3<y.1.length∧x3<y.1.length∧x7≤(4611686018427387903:Int)∧(0:Int)≤y.2.2.1∧x3<x8.length∧x3<x8.length∧(0:Int)≤y.2.2.1∧x3<x5.length∧x3<x5.length∧x3<x5.length∧(0:Int)≤x6∧x2≤(4611686018427387904:Int)∧(0:Int)≤y.2.2.1∧x3<x4.length∧x3<x4.length∧x1≤(4611686018427387903:Int)∧(0:Int)≤y.2.2.1∧x3<x0.length∧x3<x0.length∧Zi116_2 a k (List.modify x0 x3 fun(x:DAct)=>{Kind:=x.Kind,Name:=x.Name,Args:=x.Args,N:=x.N,Undo:=markText x1:DAct},IntKind.wrap IntKind.i64 (x1+(1:Int)),IntKind.wrap IntKind.i64 (y.2.2.1+(1:Int)),())∧Zm116_2 a k (List.modify x0 x3 fun(x:DAct)=>{Kind:=x.Kind,Name:=x.Name,Args:=x.Args,N:=x.N,Undo:=markText x1:DAct},IntKind.wrap IntKind.i64 (x1+(1:Int)),IntKind.wrap IntKind.i64 (y.2.2.1+(1:Int)),())<Zm116_2 a k y else asD [VI y.2.1]=asD [VI (k+(↑(cntActS a):Int))]∧asD [VL .eAct y.1]=asD [VL .eAct (markActS a k)]) (by kernel_rfl)
 dsimp only
 refine⟨⟨by omega,by omega,by simp,by simp[ctS]⟩,?_⟩
 rintro⟨row,kk,i,⟨⟩⟩ ⟨h1,h2,rfl,rfl⟩
 simp only
 have hl:=mk_rl markAct cntAct a k h1 h2
 refine if_cond (fun hc=> ?_) (fun hc=> ?_)
 ·have hc:i<a.length:=by have hc:=of_decide_eq_true hc;omega
  have hct:=ctS_take cntAct a zAct h1 hc
  have hle:=ctS_take_le cntAct a (i+1).toNat
  have hg:=mk_getD _ a zAct (mk_tl markAct cntAct a k h1 h2) h1 hc
  have hM:=fun F hF=>mkS_mod markAct cntAct a zAct k (i:=i) F h1 hc hF
  have hq:(cntActS a:Int)=ctS cntAct a:=rfl
  generalize List.getD a i.toNat zAct=x at*
  generalize hkk:k+(ctS cntAct (a.take i.toNat):Int)=kk at*
  generalize List.take i.toNat (mkS markAct cntAct a k)++List.drop i.toNat a=R at*
  simp only[cntAct] at hct
  simp(disch:=first|omega|(simp only[zbf];omega)) only[zbf,wrap_i64,getD_modify,modify_modify,hg,hl]
  repeat' (first|refine And.intro (by omega) ?_|fail)
  exact⟨⟨by omega,by omega,hM _ (by first|rfl|(simp only[markAct,markBool];rw[zbp (by omega)];rfl)),by omega⟩,by simp only[Zm116_2];omega⟩
 ·have hc:a.length≤i:=by have hc:=of_decide_eq_false hc;omega
  rw[mk_done markAct cntAct a k hc,ct_done cntAct a hc]
  exact⟨rfl,rfl⟩
def Zh116:HH:=⟨_,Zo116⟩
def Zk53:Con UU where
 α:=DRule×Int
 md:=[.ro,.ro]
 of:=oC (oA .lRule) (o1 oI)
 ds:=fun x=>[dA .lRule x.1,dI x.2]
 pre:=fun(a,left)=>[0≤left]
 res:=fun(a,left)=>⟨[dI (szr left (sizeRule a))],true,[]⟩
 law:=lC (lA .lRule) (l1 lI)
def Za53:Zk53.α→Nat→Option (Ann UU):=fun(a,left)=>annL []
def Zu53:=us [Zh125,Zh126,Zh127]
theorem Zo53:Holds EE (53,Zk53):=by
 refine holds_of EE_ok func53 Zk53 (by kernel_rfl) Zu53 (us_ok _) Za53 (fun x hp hb=> ?_)
 obtain⟨a,left⟩:=x
 have hz0:=bd_lRule (x:=a) (hb _ m0)
 have hl_a_Name:=hz0.1
 have hl_a_Pats:=hz0.2.1
 have hl_a_Conds:=hz0.2.2.1
 have hl_a_Acts:=hz0.2.2.2
 have hl_left:=bdI (n:=left) (hb _ m1)
 have hp0:0≤left:=hp _ m0
 clear hp hb
 apply @ve _ (let x2:Int:=IntKind.wrap IntKind.i64 (left-(↑(ByteArray.size a.Name):Int));let x1:Int:=szr x2 (sizePatS a.Pats);let x0:Int:=szr x1 (sizeCondS a.Conds);bif decide (x2<(0:Int)) then Li (-1:Int) (szr left (sizeRule a)) else(0:Int)≤x2∧bif decide (x1<(0:Int)) then Li (-1:Int) (szr left (sizeRule a)) else(0:Int)≤x1∧bif decide (x0<(0:Int)) then Li (-1:Int) (szr left (sizeRule a)) else(0:Int)≤x0∧bif decide (szr x0 (sizeActS a.Acts)<(0:Int)) then Li (-1:Int) (szr left (sizeRule a)) else Li (szr x0 (sizeActS a.Acts)) (szr left (sizeRule a))) (by kernel_rfl)
 dsimp only
 rw[wrap_i64 (by omega) (by omega)]
 refine if_cond (fun h=>Lf_i (szr_bad' ?_)) (fun h=> ?_)
 ·have h:=of_decide_eq_true h;simp only[sizeRule];omega
 have h0:=of_decide_eq_false h
 refine⟨by omega,if_cond (fun h=>Lf_i (szr_bad' ?_)) (fun h=> ?_)⟩
 ·have h:=szr_neg h;simp only[sizeRule];omega
 obtain⟨e1,h1⟩:=szr_pos h
 rw[e1]
 refine⟨by omega,if_cond (fun h=>Lf_i (szr_bad' ?_)) (fun h=> ?_)⟩
 ·have h:=szr_neg h;simp only[sizeRule];omega
 obtain⟨e2,h2⟩:=szr_pos h
 rw[e2]
 refine⟨by omega,if_cond (fun h=>Lf_i (szr_bad' ?_)) (fun h=> ?_)⟩
 ·have h:=szr_neg h;simp only[sizeRule];omega
 obtain⟨e3,h3⟩:=szr_pos h
 rw[e3]
 exact Lf_i (by rw[←szr_ok' (by simp only[sizeRule];omega)];simp only[sizeRule];try omega)
def Zh53:HH:=⟨_,Zo53⟩
def Zk78:Con UU where
 α:=DRule
 md:=[.ro]
 of:=o1 (oA .lRule)
 ds:=fun x=>[dA .lRule x]
 pre:=fun a=>[sizeRule a≤4294967296]
 res:=fun a=>⟨[dA .eRule a],true,[]⟩
 law:=l1 (lA .lRule)
def Za78:Zk78.α→Nat→Option (Ann UU):=fun a=>annL []
def Zu78:=us [Zh151,Zh152,Zh153]
theorem Zo78:Holds EE (78,Zk78):=by
 refine holds_of EE_ok func78 Zk78 (by kernel_rfl) Zu78 (us_ok _) Za78 (fun(a:DRule) hp hb=> ?_)
 have hz0:=bd_lRule (x:=a) (hb _ m0)
 have hl_a_Name:=hz0.1
 have hl_a_Pats:=hz0.2.1
 have hl_a_Conds:=hz0.2.2.1
 have hl_a_Acts:=hz0.2.2.2
 have hp0:sizeRule a≤4294967296:=hp _ m0
 clear hp hb
 apply @ve _ (sizePatS a.Pats≤(4294967296:Nat)∧sizeCondS a.Conds≤(4294967296:Nat)∧sizeActS a.Acts≤(4294967296:Nat)∧Lf [DV.agg [CS a.Name,CI a.Sal,CL .ePat a.Pats,CL .eCond a.Conds,CL .eAct a.Acts]] [DV.agg [CS a.Name,CI a.Sal,CL .ePat a.Pats,CL .eCond a.Conds,CL .eAct a.Acts]]) (by kernel_rfl)
 simp only[sizeRule] at hp0
 repeat' (first|exact Lf_rfl _|(refine And.intro (by omega) ?_))
def Zh78:HH:=⟨_,Zo78⟩
def Zk112:Con UU where
 α:=DRule×DRule
 md:=[.ro,.ro]
 of:=oC (oA .eRule) (o1 (oA .eRule))
 ds:=fun x=>[dA .eRule x.1,dA .eRule x.2]
 pre:=fun _=>[]
 res:=fun(a,b)=>⟨[dO (decide (a=b))],true,[]⟩
 law:=lC (lA .eRule) (l1 (lA .eRule))
def Za112:Zk112.α→Nat→Option (Ann UU):=fun(a,b)=>annL []
def Zu112:=us [Zh187,Zh188,Zh189]
theorem Zo112:Holds EE (112,Zk112):=by
 refine holds_of EE_ok func112 Zk112 (by kernel_rfl) Zu112 (us_ok _) Za112 (fun x hp hb=> ?_)
 obtain⟨a,b⟩:=x
 have hz0:=bd_eRule (x:=a) (hb _ m0)
 have hl_a_Name:=hz0.1
 have hl_a_Pats:=hz0.2.1
 have hl_a_Conds:=hz0.2.2.1
 have hl_a_Acts:=hz0.2.2.2
 have hz1:=bd_eRule (x:=b) (hb _ m1)
 have hl_b_Name:=hz1.1
 have hl_b_Pats:=hz1.2.1
 have hl_b_Conds:=hz1.2.2.1
 have hl_b_Acts:=hz1.2.2.2
 clear hp hb
 apply @ve _ (bif !ByteArray.toList a.Name==ByteArray.toList b.Name then Lb false (decide (a=b)) else bif a.Sal !=b.Sal then Lb false (decide (a=b)) else bif !decide (a.Pats=b.Pats) then Lb false (decide (a=b)) else bif !decide (a.Conds=b.Conds) then Lb false (decide (a=b)) else bif !decide (a.Acts=b.Acts) then Lb false (decide (a=b)) else Lb true (decide (a=b))) (by kernel_rfl)
 obtain⟨aName,aSal,aPats,aConds,aActs⟩:=a
 obtain⟨bName,bSal,bPats,bConds,bActs⟩:=b
 repeat' (apply if_cond<;>intro _)
 all_goals (first|apply Lf_t|apply Lf_f)<;>simp_all
def Zh112:HH:=⟨_,Zo112⟩
def Zk17:Con UU where
 α:=(List DRule)×Int
 md:=[.ro,.ro]
 of:=oC (oL .lRule) (o1 oI)
 ds:=fun x=>[dL .lRule x.1,dI x.2]
 pre:=fun(a,left)=>[0≤left]
 res:=fun(a,left)=>⟨[dI (szr left (sizeRuleS a))],true,[]⟩
 law:=lC (lL .lRule) (l1 lI)
def Zi17_5(a:(List DRule))(left:Int):Int×Int×Unit→Prop:=szI sizeRule a (sizeRuleS a) left
def Zm17_5(a:(List DRule))(left:Int):Int×Int×Unit→Nat:=rM2 a
def Za17:Zk17.α→Nat→Option (Ann UU):=fun(a,left)=>annL [(5,annOf [.slot 1 (1,1024) (.lit (.int .i64)),.slot 5 (5,1024) (.lit (.int .i64))] (fun _=>Zi17_5 a left) (Zm17_5 a left))]
def Zu17:=us [Zh53]
theorem Zo17:Holds EE (17,Zk17):=by
 refine holds_of EE_ok func17 Zk17 (by kernel_rfl) Zu17 (us_ok _) Za17 (fun x hp hb=> ?_)
 obtain⟨a,left⟩:=x
 have hl_a:a.length≤9223372036854775807:=bdL (hb _ m0)
 have hl_left:=bdI (n:=left) (hb _ m1)
 have hp0:0≤left:=hp _ m0
 clear hp hb
 apply @ve _ (szV sizeRule zRule a (sizeRuleS a) left) (by kernel_rfl)
 exact szV_ok rfl hp0 hl_left hl_a
def Zh17:HH:=⟨_,Zo17⟩
def Zk27:Con UU where
 α:=(List DRule)
 md:=[.ro]
 of:=o1 (oL .lRule)
 ds:=fun x=>[dL .lRule x]
 pre:=fun a=>[sizeRuleS a≤4294967296]
 res:=fun a=>⟨[dL .eRule a],true,[]⟩
 law:=l1 (lL .lRule)
def Zi27_3(a:(List DRule)):List DRule×Int×Unit→Prop:=toI zRule a
def Zm27_3(a:(List DRule)):List DRule×Int×Unit→Nat:=rM2 a
def Za27:Zk27.α→Nat→Option (Ann UU):=fun a=>annL [(3,annOf [.slot 3 (3,1024) (.own .eRule true),.slot 4 (4,1024) (.lit (.int .i64))] (fun _=>Zi27_3 a) (Zm27_3 a))]
def Zu27:=us [Zh78]
theorem Zo27:Holds EE (27,Zk27):=by
 refine holds_of EE_ok func27 Zk27 (by kernel_rfl) Zu27 (us_ok _) Za27 (fun(a:(List DRule)) hp hb=> ?_)
 have hl_a:a.length≤9223372036854775807:=bdL (hb _ m0)
 have hp0:sizeRuleS a≤4294967296:=hp _ m0
 clear hp hb
 apply @ve _ (toV sizeRule zRule a fun y=>Lf [.one (.sl .eRule y)] [.one (.sl .eRule a)]) (by kernel_rfl)
 exact toV_ok hp0 (Lf_rfl _)
def Zh27:HH:=⟨_,Zo27⟩
def Zk41:Con UU where
 α:=(List DRule)×(List DRule)
 md:=[.ro,.ro]
 of:=oC (oL .eRule) (o1 (oL .eRule))
 ds:=fun x=>[dL .eRule x.1,dL .eRule x.2]
 pre:=fun _=>[]
 res:=fun(a,b)=>⟨[dO (decide (a=b))],true,[]⟩
 law:=lC (lL .eRule) (l1 (lL .eRule))
def Zi41_4(a:(List DRule))(b:(List DRule)):Int×Unit→Prop:=eqI a b
def Zm41_4(a:(List DRule))(b:(List DRule)):Int×Unit→Nat:=rM1 a
def Za41:Zk41.α→Nat→Option (Ann UU):=fun(a,b)=>annL [(4,annOf [.slot 5 (5,1024) (.lit (.int .i64))] (fun _=>Zi41_4 a b) (Zm41_4 a b))]
def Zu41:=us [Zh112]
theorem Zo41:Holds EE (41,Zk41):=by
 refine holds_of EE_ok func41 Zk41 (by kernel_rfl) Zu41 (us_ok _) Za41 (fun x hp hb=> ?_)
 obtain⟨a,b⟩:=x
 have hl_a:a.length≤9223372036854775807:=bdL (hb _ m0)
 have hl_b:b.length≤9223372036854775807:=bdL (hb _ m1)
 clear hp hb
 apply @ve _ (eqV zRule a b) (by kernel_rfl)
 exact eqV_ok hl_a
def Zh41:HH:=⟨_,Zo41⟩
def Zk42:Con UU where
 α:=(List DRule)×Int
 md:=[.wr,.ro]
 of:=oC (oL .eRule) (o1 oI)
 ds:=fun x=>[dL .eRule x.1,dI x.2]
 pre:=fun(a,k)=>[0≤k,k+cntRuleS a≤4611686018427387904]
 res:=fun(a,k)=>⟨[dI (k+cntRuleS a)],true,[dL .eRule (markRuleS a k)]⟩
 law:=lC (lL .eRule) (l1 lI)
def Zi42_2(a:(List DRule))(k:Int):List DRule×Int×Int×Unit→Prop:=fun(row,kk,i,_)=>0≤i∧i≤a.length∧row=(mkS markRule cntRule a k).take i.toNat++a.drop i.toNat∧kk=k+ctS cntRule (a.take i.toNat)
def Zm42_2(a:(List DRule))(k:Int):List DRule×Int×Int×Unit→Nat:=fun(row,kk,i,_)=>a.length-i.toNat
def Za42:Zk42.α→Nat→Option (Ann UU):=fun(a,k)=>annL [(2,annOf [.slot 0 (2000000,0) (.own .eRule true),.slot 1 (1,1024) (.lit (.int .i64)),.slot 5 (5,1024) (.lit (.int .i64))] (fun _=>Zi42_2 a k) (Zm42_2 a k))]
def Zu42:=us [Zh113,Zh114,Zh115,Zh116]
theorem Zo42:Holds EE (42,Zk42):=by
 refine holds_of EE_ok func42 Zk42 (by kernel_rfl) Zu42 (us_ok _) Za42 (fun x hp hb=> ?_)
 obtain⟨a,k⟩:=x
 have hl_a:a.length≤9223372036854775807:=bdL (hb _ m0)
 have hl_k:=bdI (n:=k) (hb _ m1)
 have hp0:0≤k:=hp _ m0
 have hp1:k+cntRuleS a≤4611686018427387904:=hp _ m1
 clear hp hb
 apply @ve _ (Zi42_2 a k (a,k,(0:Int),())∧∀(y:List DRule×Int×Int×PUnit),let x4:Nat:=y.2.2.1.toNat;let x7:List DRule:=List.modify y.1 x4 fun(x:DRule)=>{Name:=markText y.2.1,Sal:=x.Sal,Pats:=x.Pats,Conds:=x.Conds,Acts:=x.Acts:DRule};let x8:Int:=IntKind.wrap IntKind.i64 (y.2.1+(1:Int));let x5:List DRule:=List.modify x7 x4 fun(x:DRule)=>{Name:=x.Name,Sal:=x8,Pats:=x.Pats,Conds:=x.Conds,Acts:=x.Acts:DRule};let x6:Int:=IntKind.wrap IntKind.i64 (x8+(1:Int));let x2:List DRule:=List.modify x5 x4 fun(x:DRule)=>{Name:=x.Name,Sal:=x.Sal,Pats:=markPatS (List.getD x5 x4 zRule).Pats x6,Conds:=x.Conds,Acts:=x.Acts:DRule};let x3:Int:=x6+(↑(cntPatS (List.getD x5 x4 zRule).Pats):Int);let x0:List DRule:=List.modify x2 x4 fun(x:DRule)=>{Name:=x.Name,Sal:=x.Sal,Pats:=x.Pats,Conds:=markCondS (List.getD x2 x4 zRule).Conds x3,Acts:=x.Acts:DRule};let x1:Int:=x3+(↑(cntCondS (List.getD x2 x4 zRule).Conds):Int);let x9:Int:=x1+(↑(cntActS (List.getD x0 x4 zRule).Acts):Int);Zi42_2 a k y→bif decide (y.2.2.1<(y.1.length:Int)) then y.2.1≤(4611686018427387903:Int)∧(0:Int)≤y.2.2.1∧x4<y.1.length∧x4<y.1.length∧(0:Int)≤y.2.2.1∧x4<x7.length∧x4<x7.length∧(0:Int)≤y.2.2.1∧x4<x5.length∧x4<x5.length∧x4<x5.length∧(0:Int)≤x6∧x3≤(4611686018427387904:Int)∧(0:Int)≤y.2.2.1∧x4<x2.length∧x4<x2.length∧x4<x2.length∧(0:Int)≤x3∧x1≤(4611686018427387904:Int)∧(0:Int)≤y.2.2.1∧x4<x0.length∧x4<x0.length∧x4<x0.length∧(0:Int)≤x1∧x9≤(4611686018427387904:Int)∧Zi42_2 a k (List.modify x0 x4 fun(x:DRule)=>{Name:=x.Name,Sal:=x.Sal,Pats:=x.Pats,Conds:=x.Conds,Acts:=markActS (List.getD x0 x4 zRule).Acts x1:DRule},x9,IntKind.wrap IntKind.i64 (y.2.2.1+(1:Int)),())∧Zm42_2 a k (List.modify x0 x4 fun(x:DRule)=>{Name:=x.Name,Sal:=x.Sal,Pats:=x.Pats,Conds:=x.Conds,Acts:=markActS (List.getD x0 x4 zRule).Acts x1:DRule},x9,IntKind.wrap IntKind.i64 (y.2.2.1+(1:Int)),())<Zm42_2 a k y else asD [VI y.2.1]=asD [VI (k+(↑(cntRuleS a):Int))]∧asD [VL .eRule y.1]=asD [VL .eRule (markRuleS a k)]) (by kernel_rfl)
 dsimp only
 refine⟨⟨by omega,by omega,by simp,by simp[ctS]⟩,?_⟩
 rintro⟨row,kk,i,⟨⟩⟩ ⟨h1,h2,rfl,rfl⟩
 simp only
 have hl:=mk_rl markRule cntRule a k h1 h2
 refine if_cond (fun hc=> ?_) (fun hc=> ?_)
 ·have hc:i<a.length:=by have hc:=of_decide_eq_true hc;omega
  have hct:=ctS_take cntRule a zRule h1 hc
  have hle:=ctS_take_le cntRule a (i+1).toNat
  have hg:=mk_getD _ a zRule (mk_tl markRule cntRule a k h1 h2) h1 hc
  have hM:=fun F hF=>mkS_mod markRule cntRule a zRule k (i:=i) F h1 hc hF
  have hq:(cntRuleS a:Int)=ctS cntRule a:=rfl
  generalize List.getD a i.toNat zRule=x at*
  generalize hkk:k+(ctS cntRule (a.take i.toNat):Int)=kk at*
  generalize List.take i.toNat (mkS markRule cntRule a k)++List.drop i.toNat a=R at*
  simp only[cntRule] at hct
  simp(disch:=first|omega|(simp only[zbf];omega)) only[zbf,wrap_i64,getD_modify,modify_modify,hg,hl]
  repeat' (first|refine And.intro (by omega) ?_|fail)
  exact⟨⟨by omega,by omega,hM _ (by first|rfl|(simp only[markRule,markBool];rw[zbp (by omega)];rfl)),by omega⟩,by simp only[Zm42_2];omega⟩
 ·have hc:a.length≤i:=by have hc:=of_decide_eq_false hc;omega
  rw[mk_done markRule cntRule a k hc,ct_done cntRule a hc]
  exact⟨rfl,rfl⟩
def Zh42:HH:=⟨_,Zo42⟩
def Zk4:Con UU where
 α:=DDef×Int
 md:=[.ro,.ro]
 of:=oC (oA .lDef) (o1 oI)
 ds:=fun x=>[dA .lDef x.1,dI x.2]
 pre:=fun(a,left)=>[0≤left]
 res:=fun(a,left)=>⟨[dI (szr left (sizeDef a))],true,[]⟩
 law:=lC (lA .lDef) (l1 lI)
def Za4:Zk4.α→Nat→Option (Ann UU):=fun(a,left)=>annL []
def Zu4:=us [Zh17]
theorem Zo4:Holds EE (4,Zk4):=by
 refine holds_of EE_ok func4 Zk4 (by kernel_rfl) Zu4 (us_ok _) Za4 (fun x hp hb=> ?_)
 obtain⟨a,left⟩:=x
 have hz0:=bd_lDef (x:=a) (hb _ m0)
 have hl_a_Name:=hz0.1
 have hl_a_Rules:=hz0.2
 have hl_left:=bdI (n:=left) (hb _ m1)
 have hp0:0≤left:=hp _ m0
 clear hp hb
 apply @ve _ (let x0:Int:=IntKind.wrap IntKind.i64 (left-(↑(ByteArray.size a.Name):Int));bif decide (x0<(0:Int)) then Li (-1:Int) (szr left (sizeDef a)) else(0:Int)≤x0∧bif decide (szr x0 (sizeRuleS a.Rules)<(0:Int)) then Li (-1:Int) (szr left (sizeDef a)) else Li (szr x0 (sizeRuleS a.Rules)) (szr left (sizeDef a))) (by kernel_rfl)
 dsimp only
 rw[wrap_i64 (by omega) (by omega)]
 refine if_cond (fun h=>Lf_i (szr_bad' ?_)) (fun h=> ?_)
 ·have h:=of_decide_eq_true h;simp only[sizeDef];omega
 have h0:=of_decide_eq_false h
 refine⟨by omega,if_cond (fun h=>Lf_i (szr_bad' ?_)) (fun h=> ?_)⟩
 ·have h:=szr_neg h;simp only[sizeDef];omega
 obtain⟨e1,h1⟩:=szr_pos h
 rw[e1]
 exact Lf_i (by rw[←szr_ok' (by simp only[sizeDef];omega)];simp only[sizeDef];try omega)
def Zh4:HH:=⟨_,Zo4⟩
def Zk8:Con UU where
 α:=DDef
 md:=[.ro]
 of:=o1 (oA .lDef)
 ds:=fun x=>[dA .lDef x]
 pre:=fun a=>[sizeDef a≤4294967296]
 res:=fun a=>⟨[dA .eDef a],true,[]⟩
 law:=l1 (lA .lDef)
def Za8:Zk8.α→Nat→Option (Ann UU):=fun a=>annL []
def Zu8:=us [Zh27]
theorem Zo8:Holds EE (8,Zk8):=by
 refine holds_of EE_ok func8 Zk8 (by kernel_rfl) Zu8 (us_ok _) Za8 (fun(a:DDef) hp hb=> ?_)
 have hz0:=bd_lDef (x:=a) (hb _ m0)
 have hl_a_Name:=hz0.1
 have hl_a_Rules:=hz0.2
 have hp0:sizeDef a≤4294967296:=hp _ m0
 clear hp hb
 apply @ve _ (sizeRuleS a.Rules≤(4294967296:Nat)∧Lf [DV.agg [CS a.Name,CL .eRule a.Rules]] [DV.agg [CS a.Name,CL .eRule a.Rules]]) (by kernel_rfl)
 simp only[sizeDef] at hp0
 repeat' (first|exact Lf_rfl _|(refine And.intro (by omega) ?_))
def Zh8:HH:=⟨_,Zo8⟩
def Zk13:Con UU where
 α:=DDef×DDef
 md:=[.ro,.ro]
 of:=oC (oA .eDef) (o1 (oA .eDef))
 ds:=fun x=>[dA .eDef x.1,dA .eDef x.2]
 pre:=fun _=>[]
 res:=fun(a,b)=>⟨[dO (decide (a=b))],true,[]⟩
 law:=lC (lA .eDef) (l1 (lA .eDef))
def Za13:Zk13.α→Nat→Option (Ann UU):=fun(a,b)=>annL []
def Zu13:=us [Zh41]
theorem Zo13:Holds EE (13,Zk13):=by
 refine holds_of EE_ok func13 Zk13 (by kernel_rfl) Zu13 (us_ok _) Za13 (fun x hp hb=> ?_)
 obtain⟨a,b⟩:=x
 have hz0:=bd_eDef (x:=a) (hb _ m0)
 have hl_a_Name:=hz0.1
 have hl_a_Rules:=hz0.2
 have hz1:=bd_eDef (x:=b) (hb _ m1)
 have hl_b_Name:=hz1.1
 have hl_b_Rules:=hz1.2
 clear hp hb
 apply @ve _ (bif !ByteArray.toList a.Name==ByteArray.toList b.Name then Lb false (decide (a=b)) else bif !decide (a.Rules=b.Rules) then Lb false (decide (a=b)) else Lb true (decide (a=b))) (by kernel_rfl)
 obtain⟨aName,aRules⟩:=a
 obtain⟨bName,bRules⟩:=b
 repeat' (apply if_cond<;>intro _)
 all_goals (first|apply Lf_t|apply Lf_f)<;>simp_all
def Zh13:HH:=⟨_,Zo13⟩
def Zk14:Con UU where
 α:=DDef×Int
 md:=[.wr,.ro]
 of:=oC (oA .eDef) (o1 oI)
 ds:=fun x=>[dA .eDef x.1,dI x.2]
 pre:=fun(a,k)=>[0≤k,k+ctDef a≤4611686018427387904]
 res:=fun(a,k)=>⟨[dI (k+ctDef a)],true,[dA .eDef (mkDef a k)]⟩
 law:=lC (lA .eDef) (l1 lI)
def Za14:Zk14.α→Nat→Option (Ann UU):=fun(a,k)=>annL []
def Zu14:=us [Zh42]
theorem Zo14:Holds EE (14,Zk14):=by
 refine holds_of EE_ok func14 Zk14 (by kernel_rfl) Zu14 (us_ok _) Za14 (fun x hp hb=> ?_)
 obtain⟨a,k⟩:=x
 have hz0:=bd_eDef (x:=a) (hb _ m0)
 have hl_a_Name:=hz0.1
 have hl_a_Rules:=hz0.2
 have hl_k:=bdI (n:=k) (hb _ m1)
 have hp0:0≤k:=hp _ m0
 have hp1:k+ctDef a≤4611686018427387904:=hp _ m1
 clear hp hb
 apply @ve _ ((0:Int)≤k∧k+(↑(cntRuleS a.Rules):Int)≤(4611686018427387904:Int)∧asD [VI (k+(↑(cntRuleS a.Rules):Int))]=asD [VI (k+(↑(ctDef a):Int))]∧asD [DV.agg [CS a.Name,CL .eRule (markRuleS a.Rules k)]]=asD [DV.agg [CS ((mkDef a k).Name),CL .eRule (mkDef a k).Rules]]) (by kernel_rfl)
 simp only[ctDef] at hp1
 repeat' (first|refine And.intro (by omega) ?_|fail)
 exact⟨by simp only[ctDef,Int.natCast_add,Int.add_assoc],rfl⟩
def Zh14:HH:=⟨_,Zo14⟩
def Zk55:Con UU where
 α:=DMatch×Int
 md:=[.ro,.ro]
 of:=oC (oA .lMatch) (o1 oI)
 ds:=fun x=>[dA .lMatch x.1,dI x.2]
 pre:=fun(a,left)=>[0≤left]
 res:=fun(a,left)=>⟨[dI (szr left (sizeMatch a))],true,[]⟩
 law:=lC (lA .lMatch) (l1 lI)
def Za55:Zk55.α→Nat→Option (Ann UU):=fun(a,left)=>annL []
def Zu55:=us [Zh129,Zh130]
theorem Zo55:Holds EE (55,Zk55):=by
 refine holds_of EE_ok func55 Zk55 (by kernel_rfl) Zu55 (us_ok _) Za55 (fun x hp hb=> ?_)
 obtain⟨a,left⟩:=x
 have hz0:=bd_lMatch (x:=a) (hb _ m0)
 have hl_a_Ids:=hz0.1
 have hl_a_Binds:=hz0.2
 have hl_left:=bdI (n:=left) (hb _ m1)
 have hp0:0≤left:=hp _ m0
 clear hp hb
 apply @ve _ (let x0:Int:=szr (szr left (sizeIntS a.Ids)) (sizeBindS a.Binds);(0:Int)≤left∧bif decide (szr left (sizeIntS a.Ids)<(0:Int)) then Li (-1:Int) (szr left (sizeMatch a)) else(0:Int)≤szr left (sizeIntS a.Ids)∧bif decide (x0<(0:Int)) then Li (-1:Int) (szr left (sizeMatch a)) else Li x0 (szr left (sizeMatch a))) (by kernel_rfl)
 dsimp only
 refine⟨by omega,if_cond (fun h=>Lf_i (szr_bad' ?_)) (fun h=> ?_)⟩
 ·have h:=szr_neg h;simp only[sizeMatch];omega
 obtain⟨e0,h0⟩:=szr_pos h
 rw[e0]
 refine⟨by omega,if_cond (fun h=>Lf_i (szr_bad' ?_)) (fun h=> ?_)⟩
 ·have h:=szr_neg h;simp only[sizeMatch];omega
 obtain⟨e1,h1⟩:=szr_pos h
 rw[e1]
 exact Lf_i (by rw[←szr_ok' (by simp only[sizeMatch];omega)];simp only[sizeMatch];try omega)
def Zh55:HH:=⟨_,Zo55⟩
def Zk80:Con UU where
 α:=DMatch
 md:=[.ro]
 of:=o1 (oA .lMatch)
 ds:=fun x=>[dA .lMatch x]
 pre:=fun a=>[sizeMatch a≤4294967296]
 res:=fun a=>⟨[dA .eMatch a],true,[]⟩
 law:=l1 (lA .lMatch)
def Za80:Zk80.α→Nat→Option (Ann UU):=fun a=>annL []
def Zu80:=us [Zh155,Zh156]
theorem Zo80:Holds EE (80,Zk80):=by
 refine holds_of EE_ok func80 Zk80 (by kernel_rfl) Zu80 (us_ok _) Za80 (fun(a:DMatch) hp hb=> ?_)
 have hz0:=bd_lMatch (x:=a) (hb _ m0)
 have hl_a_Ids:=hz0.1
 have hl_a_Binds:=hz0.2
 have hp0:sizeMatch a≤4294967296:=hp _ m0
 clear hp hb
 apply @ve _ (sizeIntS a.Ids≤(4294967296:Nat)∧sizeBindS a.Binds≤(4294967296:Nat)∧Lf [DV.agg [CI a.Rule,CL .int a.Ids,CL .eBind a.Binds]] [DV.agg [CI a.Rule,CL .int a.Ids,CL .eBind a.Binds]]) (by kernel_rfl)
 simp only[sizeMatch] at hp0
 repeat' (first|exact Lf_rfl _|(refine And.intro (by omega) ?_))
def Zh80:HH:=⟨_,Zo80⟩
def Zk108:Con UU where
 α:=DMatch×DMatch
 md:=[.ro,.ro]
 of:=oC (oA .eMatch) (o1 (oA .eMatch))
 ds:=fun x=>[dA .eMatch x.1,dA .eMatch x.2]
 pre:=fun _=>[]
 res:=fun(a,b)=>⟨[dO (decide (a=b))],true,[]⟩
 law:=lC (lA .eMatch) (l1 (lA .eMatch))
def Za108:Zk108.α→Nat→Option (Ann UU):=fun(a,b)=>annL []
def Zu108:=us [Zh183,Zh184]
theorem Zo108:Holds EE (108,Zk108):=by
 refine holds_of EE_ok func108 Zk108 (by kernel_rfl) Zu108 (us_ok _) Za108 (fun x hp hb=> ?_)
 obtain⟨a,b⟩:=x
 have hz0:=bd_eMatch (x:=a) (hb _ m0)
 have hl_a_Ids:=hz0.1
 have hl_a_Binds:=hz0.2
 have hz1:=bd_eMatch (x:=b) (hb _ m1)
 have hl_b_Ids:=hz1.1
 have hl_b_Binds:=hz1.2
 clear hp hb
 apply @ve _ (bif a.Rule !=b.Rule then Lb false (decide (a=b)) else bif !decide (a.Ids=b.Ids) then Lb false (decide (a=b)) else bif !decide (a.Binds=b.Binds) then Lb false (decide (a=b)) else Lb true (decide (a=b))) (by kernel_rfl)
 obtain⟨aRule,aIds,aBinds⟩:=a
 obtain⟨bRule,bIds,bBinds⟩:=b
 repeat' (apply if_cond<;>intro _)
 all_goals (first|apply Lf_t|apply Lf_f)<;>simp_all
def Zh108:HH:=⟨_,Zo108⟩
def Zk19:Con UU where
 α:=(List DMatch)×Int
 md:=[.ro,.ro]
 of:=oC (oL .lMatch) (o1 oI)
 ds:=fun x=>[dL .lMatch x.1,dI x.2]
 pre:=fun(a,left)=>[0≤left]
 res:=fun(a,left)=>⟨[dI (szr left (sizeMatchS a))],true,[]⟩
 law:=lC (lL .lMatch) (l1 lI)
def Zi19_5(a:(List DMatch))(left:Int):Int×Int×Unit→Prop:=szI sizeMatch a (sizeMatchS a) left
def Zm19_5(a:(List DMatch))(left:Int):Int×Int×Unit→Nat:=rM2 a
def Za19:Zk19.α→Nat→Option (Ann UU):=fun(a,left)=>annL [(5,annOf [.slot 1 (1,1024) (.lit (.int .i64)),.slot 5 (5,1024) (.lit (.int .i64))] (fun _=>Zi19_5 a left) (Zm19_5 a left))]
def Zu19:=us [Zh55]
theorem Zo19:Holds EE (19,Zk19):=by
 refine holds_of EE_ok func19 Zk19 (by kernel_rfl) Zu19 (us_ok _) Za19 (fun x hp hb=> ?_)
 obtain⟨a,left⟩:=x
 have hl_a:a.length≤9223372036854775807:=bdL (hb _ m0)
 have hl_left:=bdI (n:=left) (hb _ m1)
 have hp0:0≤left:=hp _ m0
 clear hp hb
 apply @ve _ (szV sizeMatch zMatch a (sizeMatchS a) left) (by kernel_rfl)
 exact szV_ok rfl hp0 hl_left hl_a
def Zh19:HH:=⟨_,Zo19⟩
def Zk29:Con UU where
 α:=(List DMatch)
 md:=[.ro]
 of:=o1 (oL .lMatch)
 ds:=fun x=>[dL .lMatch x]
 pre:=fun a=>[sizeMatchS a≤4294967296]
 res:=fun a=>⟨[dL .eMatch a],true,[]⟩
 law:=l1 (lL .lMatch)
def Zi29_3(a:(List DMatch)):List DMatch×Int×Unit→Prop:=toI zMatch a
def Zm29_3(a:(List DMatch)):List DMatch×Int×Unit→Nat:=rM2 a
def Za29:Zk29.α→Nat→Option (Ann UU):=fun a=>annL [(3,annOf [.slot 3 (3,1024) (.own .eMatch true),.slot 4 (4,1024) (.lit (.int .i64))] (fun _=>Zi29_3 a) (Zm29_3 a))]
def Zu29:=us [Zh80]
theorem Zo29:Holds EE (29,Zk29):=by
 refine holds_of EE_ok func29 Zk29 (by kernel_rfl) Zu29 (us_ok _) Za29 (fun(a:(List DMatch)) hp hb=> ?_)
 have hl_a:a.length≤9223372036854775807:=bdL (hb _ m0)
 have hp0:sizeMatchS a≤4294967296:=hp _ m0
 clear hp hb
 apply @ve _ (toV sizeMatch zMatch a fun y=>Lf [.one (.sl .eMatch y)] [.one (.sl .eMatch a)]) (by kernel_rfl)
 exact toV_ok hp0 (Lf_rfl _)
def Zh29:HH:=⟨_,Zo29⟩
def Zk37:Con UU where
 α:=(List DMatch)×(List DMatch)
 md:=[.ro,.ro]
 of:=oC (oL .eMatch) (o1 (oL .eMatch))
 ds:=fun x=>[dL .eMatch x.1,dL .eMatch x.2]
 pre:=fun _=>[]
 res:=fun(a,b)=>⟨[dO (decide (a=b))],true,[]⟩
 law:=lC (lL .eMatch) (l1 (lL .eMatch))
def Zi37_4(a:(List DMatch))(b:(List DMatch)):Int×Unit→Prop:=eqI a b
def Zm37_4(a:(List DMatch))(b:(List DMatch)):Int×Unit→Nat:=rM1 a
def Za37:Zk37.α→Nat→Option (Ann UU):=fun(a,b)=>annL [(4,annOf [.slot 5 (5,1024) (.lit (.int .i64))] (fun _=>Zi37_4 a b) (Zm37_4 a b))]
def Zu37:=us [Zh108]
theorem Zo37:Holds EE (37,Zk37):=by
 refine holds_of EE_ok func37 Zk37 (by kernel_rfl) Zu37 (us_ok _) Za37 (fun x hp hb=> ?_)
 obtain⟨a,b⟩:=x
 have hl_a:a.length≤9223372036854775807:=bdL (hb _ m0)
 have hl_b:b.length≤9223372036854775807:=bdL (hb _ m1)
 clear hp hb
 apply @ve _ (eqV zMatch a b) (by kernel_rfl)
 exact eqV_ok hl_a
def Zh37:HH:=⟨_,Zo37⟩
def Zk44:Con UU where
 α:=(List DMatch)×Int
 md:=[.wr,.ro]
 of:=oC (oL .eMatch) (o1 oI)
 ds:=fun x=>[dL .eMatch x.1,dI x.2]
 pre:=fun(a,k)=>[0≤k,k+cntMatchS a≤4611686018427387904]
 res:=fun(a,k)=>⟨[dI (k+cntMatchS a)],true,[dL .eMatch (markMatchS a k)]⟩
 law:=lC (lL .eMatch) (l1 lI)
def Zi44_2(a:(List DMatch))(k:Int):List DMatch×Int×Int×Unit→Prop:=fun(row,kk,i,_)=>0≤i∧i≤a.length∧row=(mkS markMatch cntMatch a k).take i.toNat++a.drop i.toNat∧kk=k+ctS cntMatch (a.take i.toNat)
def Zm44_2(a:(List DMatch))(k:Int):List DMatch×Int×Int×Unit→Nat:=fun(row,kk,i,_)=>a.length-i.toNat
def Za44:Zk44.α→Nat→Option (Ann UU):=fun(a,k)=>annL [(2,annOf [.slot 0 (2000000,0) (.own .eMatch true),.slot 1 (1,1024) (.lit (.int .i64)),.slot 5 (5,1024) (.lit (.int .i64))] (fun _=>Zi44_2 a k) (Zm44_2 a k))]
def Zu44:=us [Zh118,Zh119]
theorem Zo44:Holds EE (44,Zk44):=by
 refine holds_of EE_ok func44 Zk44 (by kernel_rfl) Zu44 (us_ok _) Za44 (fun x hp hb=> ?_)
 obtain⟨a,k⟩:=x
 have hl_a:a.length≤9223372036854775807:=bdL (hb _ m0)
 have hl_k:=bdI (n:=k) (hb _ m1)
 have hp0:0≤k:=hp _ m0
 have hp1:k+cntMatchS a≤4611686018427387904:=hp _ m1
 clear hp hb
 apply @ve _ (Zi44_2 a k (a,k,(0:Int),())∧∀(y:List DMatch×Int×Int×PUnit),let x2:Nat:=y.2.2.1.toNat;let x3:Int:=IntKind.wrap IntKind.i64 (y.2.1+(1:Int));let x4:List DMatch:=List.modify y.1 x2 fun(x:DMatch)=>{Rule:=y.2.1,Ids:=x.Ids,Binds:=x.Binds:DMatch};let x0:List DMatch:=List.modify x4 x2 fun(x:DMatch)=>{Rule:=x.Rule,Ids:=markIntS (List.getD x4 x2 zMatch).Ids x3,Binds:=x.Binds:DMatch};let x1:Int:=x3+(↑(cntIntS (List.getD x4 x2 zMatch).Ids):Int);let x5:Int:=x1+(↑(cntBindS (List.getD x0 x2 zMatch).Binds):Int);Zi44_2 a k y→bif decide (y.2.2.1<(y.1.length:Int)) then(0:Int)≤y.2.2.1∧x2<y.1.length∧x2<y.1.length∧(0:Int)≤y.2.2.1∧x2<x4.length∧x2<x4.length∧x2<x4.length∧(0:Int)≤x3∧x1≤(4611686018427387904:Int)∧(0:Int)≤y.2.2.1∧x2<x0.length∧x2<x0.length∧x2<x0.length∧(0:Int)≤x1∧x5≤(4611686018427387904:Int)∧Zi44_2 a k (List.modify x0 x2 fun(x:DMatch)=>{Rule:=x.Rule,Ids:=x.Ids,Binds:=markBindS (List.getD x0 x2 zMatch).Binds x1:DMatch},x5,IntKind.wrap IntKind.i64 (y.2.2.1+(1:Int)),())∧Zm44_2 a k (List.modify x0 x2 fun(x:DMatch)=>{Rule:=x.Rule,Ids:=x.Ids,Binds:=markBindS (List.getD x0 x2 zMatch).Binds x1:DMatch},x5,IntKind.wrap IntKind.i64 (y.2.2.1+(1:Int)),())<Zm44_2 a k y else asD [VI y.2.1]=asD [VI (k+(↑(cntMatchS a):Int))]∧asD [VL .eMatch y.1]=asD [VL .eMatch (markMatchS a k)]) (by kernel_rfl)
 dsimp only
 refine⟨⟨by omega,by omega,by simp,by simp[ctS]⟩,?_⟩
 rintro⟨row,kk,i,⟨⟩⟩ ⟨h1,h2,rfl,rfl⟩
 simp only
 have hl:=mk_rl markMatch cntMatch a k h1 h2
 refine if_cond (fun hc=> ?_) (fun hc=> ?_)
 ·have hc:i<a.length:=by have hc:=of_decide_eq_true hc;omega
  have hct:=ctS_take cntMatch a zMatch h1 hc
  have hle:=ctS_take_le cntMatch a (i+1).toNat
  have hg:=mk_getD _ a zMatch (mk_tl markMatch cntMatch a k h1 h2) h1 hc
  have hM:=fun F hF=>mkS_mod markMatch cntMatch a zMatch k (i:=i) F h1 hc hF
  have hq:(cntMatchS a:Int)=ctS cntMatch a:=rfl
  generalize List.getD a i.toNat zMatch=x at*
  generalize hkk:k+(ctS cntMatch (a.take i.toNat):Int)=kk at*
  generalize List.take i.toNat (mkS markMatch cntMatch a k)++List.drop i.toNat a=R at*
  simp only[cntMatch] at hct
  simp(disch:=first|omega|(simp only[zbf];omega)) only[zbf,wrap_i64,getD_modify,modify_modify,hg,hl]
  repeat' (first|refine And.intro (by omega) ?_|fail)
  exact⟨⟨by omega,by omega,hM _ (by first|rfl|(simp only[markMatch,markBool];rw[zbp (by omega)];rfl)),by omega⟩,by simp only[Zm44_2];omega⟩
 ·have hc:a.length≤i:=by have hc:=of_decide_eq_false hc;omega
  rw[mk_done markMatch cntMatch a k hc,ct_done cntMatch a hc]
  exact⟨rfl,rfl⟩
def Zh44:HH:=⟨_,Zo44⟩
def Zk49:Con UU where
 α:=(List DMatch)×Int
 md:=[.ro,.ro]
 of:=oC (oL .eMatch) (o1 oI)
 ds:=fun x=>[dL .eMatch x.1,dI x.2]
 pre:=fun(a,k)=>[0≤k,k+cntMatchS a≤4611686018427387904]
 res:=fun(a,k)=>⟨[dI (if markMatchS a k=a then k+cntMatchS a else-1)],true,[]⟩
 law:=lC (lL .eMatch) (l1 lI)
def Zi49_2(a:(List DMatch))(k:Int):Int×Int×Unit→Prop:=fun(kk,i,_)=>0≤i∧i≤a.length∧kk=k+ctS cntMatch (a.take i.toNat)∧(mkS markMatch cntMatch (a.drop i.toNat) kk=a.drop i.toNat↔mkS markMatch cntMatch a k=a)
def Zm49_2(a:(List DMatch))(k:Int):Int×Int×Unit→Nat:=fun(kk,i,_)=>a.length-i.toNat
def Za49:Zk49.α→Nat→Option (Ann UU):=fun(a,k)=>annL [(2,annOf [.slot 1 (1,1024) (.lit (.int .i64)),.slot 5 (5,1024) (.lit (.int .i64))] (fun _=>Zi49_2 a k) (Zm49_2 a k))]
def Zu49:=us [Zh122,Zh123]
theorem Zo49:Holds EE (49,Zk49):=by
 refine holds_of EE_ok func49 Zk49 (by kernel_rfl) Zu49 (us_ok _) Za49 (fun x hp hb=> ?_)
 obtain⟨a,k⟩:=x
 have hl_a:a.length≤9223372036854775807:=bdL (hb _ m0)
 have hl_k:=bdI (n:=k) (hb _ m1)
 have hp0:0≤k:=hp _ m0
 have hp1:k+cntMatchS a≤4611686018427387904:=hp _ m1
 clear hp hb
 apply @ve _ (let x0:Int:=(-1:Int);Zi49_2 a k (k,(0:Int),())∧∀(y:Int×Int×PUnit),let x6:Nat:=y.2.1.toNat;let x7:Int:=IntKind.wrap IntKind.i64 (y.1+(1:Int));let x5:DMatch:=List.getD a x6 zMatch;let x3:List DBind:=x5.Binds;let x4:List Int:=x5.Ids;let x2:Int:=if markIntS x4 x7=x4 then x7+(↑(cntIntS x4):Int) else x0;let x1:Int:=if markBindS x3 x2=x3 then x2+(↑(cntBindS x3):Int) else x0;Zi49_2 a k y→bif decide (y.2.1<(a.length:Int)) then(0:Int)≤y.2.1∧x6<a.length∧bif x5.Rule !=y.1 then Li x0 (if markMatchS a k=a then k+(↑(cntMatchS a):Int) else x0) else(0:Int)≤y.2.1∧x6<a.length∧(0:Int)≤x7∧x7+(↑(cntIntS x4):Int)≤(4611686018427387904:Int)∧bif decide (x2<(0:Int)) then Li x0 (if markMatchS a k=a then k+(↑(cntMatchS a):Int) else x0) else(0:Int)≤y.2.1∧x6<a.length∧(0:Int)≤x2∧x2+(↑(cntBindS x3):Int)≤(4611686018427387904:Int)∧bif decide (x1<(0:Int)) then Li x0 (if markMatchS a k=a then k+(↑(cntMatchS a):Int) else x0) else Zi49_2 a k (x1,IntKind.wrap IntKind.i64 (y.2.1+(1:Int)),())∧Zm49_2 a k (x1,IntKind.wrap IntKind.i64 (y.2.1+(1:Int)),())<Zm49_2 a k y else Li y.1 (if markMatchS a k=a then k+(↑(cntMatchS a):Int) else x0)) (by kernel_rfl)
 dsimp only
 refine⟨⟨by omega,by omega,by simp[ctS],by simp⟩,?_⟩
 rintro⟨kk,i,⟨⟩⟩ ⟨h1,h2,hkk,hR⟩
 simp only
 simp only[markMatchS]
 refine if_cond (fun hc=> ?_) (fun hc=> ?_)
 ·have hc:i<a.length:=by have hc:=of_decide_eq_true hc;omega
  have hct:=ctS_take cntMatch a zMatch h1 hc
  have hle:=ctS_take_le cntMatch a (i+1).toNat
  have hq:(cntMatchS a:Int)=ctS cntMatch a:=rfl
  rw[drop_step a zMatch h1 hc] at hR
  generalize List.getD a i.toNat zMatch=x at*
  simp only[mkS,zdd] at hR
  have e:kk+(cntMatch x:Int)=kk+1+(cntIntS x.Ids:Int)+(cntBindS x.Binds:Int):=by first|(simp only[cntMatch];done)|(simp only[cntMatch];omega)
  rw[e] at hR
  simp only[markMatch,cntMatch] at hR hct
  simp(disch:=omega) only[wrap_i64,bne_int,toList_beq]
  obtain⟨x_Rule,x_Ids,x_Binds⟩:=x
  simp only[DMatch.mk.injEq] at*
  repeat' (first|refine And.intro (by omega) ?_|fail)
  refine if_cond (fun h=>Lf_no (fun hh=> ?_)) (fun h=> ?_)
  ·have hh:=hR.2 hh;simp_all
  have h:x_Rule=kk:=by simpa using h
  subst x_Rule
  repeat' (first|refine And.intro (by omega) ?_|fail)
  by_cases hm:markIntS x_Ids (kk+1)=x_Ids
  rotate_left
  ·simp only[if_neg hm];rw[cond_yes (by decide)]
   exact Lf_no (fun hh=>hm (by have hh:=hR.2 hh;simp_all))
  simp only[if_pos hm]
  refine if_cond (fun h=>absurd (of_decide_eq_true h) (by omega)) (fun h=> ?_)
  simp only[hm] at hR
  clear hm
  repeat' (first|refine And.intro (by omega) ?_|fail)
  by_cases hm:markBindS x_Binds (kk+1+cntIntS x_Ids)=x_Binds
  rotate_left
  ·simp only[if_neg hm];rw[cond_yes (by decide)]
   exact Lf_no (fun hh=>hm (by have hh:=hR.2 hh;simp_all))
  simp only[if_pos hm]
  refine if_cond (fun h=>absurd (of_decide_eq_true h) (by omega)) (fun h=> ?_)
  simp only[hm] at hR
  clear hm
  exact⟨⟨by omega,by omega,by omega,by simpa using hR⟩,by simp only[Zm49_2];omega⟩
 ·have hc:a.length≤i:=by have hc:=of_decide_eq_false hc;omega
  rw[drop_end a hc] at hR
  exact Lf_yes (hR.1 rfl) (by rw[hkk,ct_done _ _ hc];rfl)
def Zh49:HH:=⟨_,Zo49⟩
def Zk5:Con UU where
 α:=DInst×Int
 md:=[.ro,.ro]
 of:=oC (oA .lInst) (o1 oI)
 ds:=fun x=>[dA .lInst x.1,dI x.2]
 pre:=fun(a,left)=>[0≤left]
 res:=fun(a,left)=>⟨[dI (szr left (sizeInst a))],true,[]⟩
 law:=lC (lA .lInst) (l1 lI)
def Za5:Zk5.α→Nat→Option (Ann UU):=fun(a,left)=>annL []
def Zu5:=us [Zh18,Zh19,Zh20,Zh21,Zh22]
theorem Zo5:Holds EE (5,Zk5):=by
 refine holds_of EE_ok func5 Zk5 (by kernel_rfl) Zu5 (us_ok _) Za5 (fun x hp hb=> ?_)
 obtain⟨a,left⟩:=x
 have hz0:=bd_lInst (x:=a) (hb _ m0)
 have hl_a_S_Items:=hz0.1
 have hl_a_Fired:=hz0.2.1
 have hl_a_Tasks:=hz0.2.2.1
 have hl_a_Timers:=hz0.2.2.2.1
 have hl_a_Undos:=hz0.2.2.2.2
 have hl_left:=bdI (n:=left) (hb _ m1)
 have hp0:0≤left:=hp _ m0
 clear hp hb
 apply @ve _ (let x2:Int:=szr (szr left (sizeStore a.S)) (sizeMatchS a.Fired);let x1:Int:=szr x2 (sizeTaskS a.Tasks);let x0:Int:=szr x1 (sizeTimerS a.Timers);(0:Int)≤left∧bif decide (szr left (sizeStore a.S)<(0:Int)) then Li (-1:Int) (szr left (sizeInst a)) else(0:Int)≤szr left (sizeStore a.S)∧bif decide (x2<(0:Int)) then Li (-1:Int) (szr left (sizeInst a)) else(0:Int)≤x2∧bif decide (x1<(0:Int)) then Li (-1:Int) (szr left (sizeInst a)) else(0:Int)≤x1∧bif decide (x0<(0:Int)) then Li (-1:Int) (szr left (sizeInst a)) else(0:Int)≤x0∧bif decide (szr x0 (sizeUndoS a.Undos)<(0:Int)) then Li (-1:Int) (szr left (sizeInst a)) else Li (szr x0 (sizeUndoS a.Undos)) (szr left (sizeInst a))) (by kernel_rfl)
 dsimp only
 refine⟨by omega,if_cond (fun h=>Lf_i (szr_bad' ?_)) (fun h=> ?_)⟩
 ·have h:=szr_neg h;simp only[sizeInst];omega
 obtain⟨e0,h0⟩:=szr_pos h
 rw[e0]
 refine⟨by omega,if_cond (fun h=>Lf_i (szr_bad' ?_)) (fun h=> ?_)⟩
 ·have h:=szr_neg h;simp only[sizeInst];omega
 obtain⟨e1,h1⟩:=szr_pos h
 rw[e1]
 refine⟨by omega,if_cond (fun h=>Lf_i (szr_bad' ?_)) (fun h=> ?_)⟩
 ·have h:=szr_neg h;simp only[sizeInst];omega
 obtain⟨e2,h2⟩:=szr_pos h
 rw[e2]
 refine⟨by omega,if_cond (fun h=>Lf_i (szr_bad' ?_)) (fun h=> ?_)⟩
 ·have h:=szr_neg h;simp only[sizeInst];omega
 obtain⟨e3,h3⟩:=szr_pos h
 rw[e3]
 refine⟨by omega,if_cond (fun h=>Lf_i (szr_bad' ?_)) (fun h=> ?_)⟩
 ·have h:=szr_neg h;simp only[sizeInst];omega
 obtain⟨e4,h4⟩:=szr_pos h
 rw[e4]
 exact Lf_i (by rw[←szr_ok' (by simp only[sizeInst];omega)];simp only[sizeInst];try omega)
def Zh5:HH:=⟨_,Zo5⟩
def Zk9:Con UU where
 α:=DInst
 md:=[.ro]
 of:=o1 (oA .lInst)
 ds:=fun x=>[dA .lInst x]
 pre:=fun a=>[sizeInst a≤4294967296]
 res:=fun a=>⟨[dA .eInst a],true,[]⟩
 law:=l1 (lA .lInst)
def Za9:Zk9.α→Nat→Option (Ann UU):=fun a=>annL []
def Zu9:=us [Zh28,Zh29,Zh30,Zh31,Zh32]
theorem Zo9:Holds EE (9,Zk9):=by
 refine holds_of EE_ok func9 Zk9 (by kernel_rfl) Zu9 (us_ok _) Za9 (fun(a:DInst) hp hb=> ?_)
 have hz0:=bd_lInst (x:=a) (hb _ m0)
 have hl_a_S_Items:=hz0.1
 have hl_a_Fired:=hz0.2.1
 have hl_a_Tasks:=hz0.2.2.1
 have hl_a_Timers:=hz0.2.2.2.1
 have hl_a_Undos:=hz0.2.2.2.2
 have hp0:sizeInst a≤4294967296:=hp _ m0
 clear hp hb
 apply @ve _ (sizeStore a.S≤(4294967296:Nat)∧sizeMatchS a.Fired≤(4294967296:Nat)∧sizeTaskS a.Tasks≤(4294967296:Nat)∧sizeTimerS a.Timers≤(4294967296:Nat)∧sizeUndoS a.Undos≤(4294967296:Nat)∧Lf [DV.agg (enc_eInst a)] [DV.agg (enc_eInst a)]) (by kernel_rfl)
 simp only[sizeInst] at hp0
 repeat' (first|exact Lf_rfl _|(refine And.intro (by omega) ?_))
def Zh9:HH:=⟨_,Zo9⟩
def Zk12:Con UU where
 α:=DInst×DInst
 md:=[.ro,.ro]
 of:=oC (oA .eInst) (o1 (oA .eInst))
 ds:=fun x=>[dA .eInst x.1,dA .eInst x.2]
 pre:=fun _=>[]
 res:=fun(a,b)=>⟨[dO (decide (a=b))],true,[]⟩
 law:=lC (lA .eInst) (l1 (lA .eInst))
def Za12:Zk12.α→Nat→Option (Ann UU):=fun(a,b)=>annL []
def Zu12:=us [Zh36,Zh37,Zh38,Zh39,Zh40]
theorem Zo12:Holds EE (12,Zk12):=by
 refine holds_of EE_ok func12 Zk12 (by kernel_rfl) Zu12 (us_ok _) Za12 (fun x hp hb=> ?_)
 obtain⟨a,b⟩:=x
 have hz0:=bd_eInst (x:=a) (hb _ m0)
 have hl_a_S_Items:=hz0.1
 have hl_a_Fired:=hz0.2.1
 have hl_a_Tasks:=hz0.2.2.1
 have hl_a_Timers:=hz0.2.2.2.1
 have hl_a_Undos:=hz0.2.2.2.2
 have hz1:=bd_eInst (x:=b) (hb _ m1)
 have hl_b_S_Items:=hz1.1
 have hl_b_Fired:=hz1.2.1
 have hl_b_Tasks:=hz1.2.2.1
 have hl_b_Timers:=hz1.2.2.2.1
 have hl_b_Undos:=hz1.2.2.2.2
 clear hp hb
 apply @ve _ (bif !decide (a.S=b.S) then Lb false (decide (a=b)) else bif !decide (a.Fired=b.Fired) then Lb false (decide (a=b)) else bif !decide (a.Tasks=b.Tasks) then Lb false (decide (a=b)) else bif !decide (a.Timers=b.Timers) then Lb false (decide (a=b)) else bif !decide (a.Undos=b.Undos) then Lb false (decide (a=b)) else bif a.State !=b.State then Lb false (decide (a=b)) else bif a.Now !=b.Now then Lb false (decide (a=b)) else Lb true (decide (a=b))) (by kernel_rfl)
 obtain⟨aS,aFired,aTasks,aTimers,aUndos,aState,aNow⟩:=a
 obtain⟨bS,bFired,bTasks,bTimers,bUndos,bState,bNow⟩:=b
 repeat' (apply if_cond<;>intro _)
 all_goals (first|apply Lf_t|apply Lf_f)<;>simp_all
def Zh12:HH:=⟨_,Zo12⟩
def Zk15:Con UU where
 α:=DInst×Int
 md:=[.wr,.ro]
 of:=oC (oA .eInst) (o1 oI)
 ds:=fun x=>[dA .eInst x.1,dI x.2]
 pre:=fun(a,k)=>[0≤k,k+ctInst a≤4611686018427387904]
 res:=fun(a,k)=>⟨[dI (k+ctInst a)],true,[dA .eInst (mkInst a k)]⟩
 law:=lC (lA .eInst) (l1 lI)
def Za15:Zk15.α→Nat→Option (Ann UU):=fun(a,k)=>annL []
def Zu15:=us [Zh43,Zh44,Zh45,Zh46,Zh47]
theorem Zo15:Holds EE (15,Zk15):=by
 refine holds_of EE_ok func15 Zk15 (by kernel_rfl) Zu15 (us_ok _) Za15 (fun x hp hb=> ?_)
 obtain⟨a,k⟩:=x
 have hz0:=bd_eInst (x:=a) (hb _ m0)
 have hl_a_S_Items:=hz0.1
 have hl_a_Fired:=hz0.2.1
 have hl_a_Tasks:=hz0.2.2.1
 have hl_a_Timers:=hz0.2.2.2.1
 have hl_a_Undos:=hz0.2.2.2.2
 have hl_k:=bdI (n:=k) (hb _ m1)
 have hp0:0≤k:=hp _ m0
 have hp1:k+ctInst a≤4611686018427387904:=hp _ m1
 clear hp hb
 apply @ve _ (let x3:Int:=k+(↑(ctStore a.S):Int);let x2:Int:=x3+(↑(cntMatchS a.Fired):Int);let x1:Int:=x2+(↑(cntTaskS a.Tasks):Int);let x0:Int:=x1+(↑(cntTimerS a.Timers):Int);(0:Int)≤k∧x3≤(4611686018427387904:Int)∧(0:Int)≤x3∧x2≤(4611686018427387904:Int)∧(0:Int)≤x2∧x1≤(4611686018427387904:Int)∧(0:Int)≤x1∧x0≤(4611686018427387904:Int)∧(0:Int)≤x0∧x0+(↑(cntUndoS a.Undos):Int)≤(4611686018427387904:Int)∧asD [VI (x0+(↑(cntUndoS a.Undos):Int))]=asD [VI (k+(↑(ctInst a):Int))]∧asD [DV.agg [CL .eItem (mkStore a.S k).Items,CI a.S.Next,CL .eMatch (markMatchS a.Fired x3),CL .eTask (markTaskS a.Tasks x2),CL .eTimer (markTimerS a.Timers x1),CL .eUndo (markUndoS a.Undos x0),CI a.State,CI a.Now]]=asD [DV.agg (enc_eInst (mkInst a k))]) (by kernel_rfl)
 dsimp only
 simp only[ctInst] at hp1
 repeat' (first|refine And.intro (by omega) ?_|fail)
 exact⟨by simp only[ctInst,Int.natCast_add,Int.add_assoc],rfl⟩
def Zh15:HH:=⟨_,Zo15⟩
def Zk16:Con UU where
 α:=DInst×Int
 md:=[.ro,.ro]
 of:=oC (oA .eInst) (o1 oI)
 ds:=fun x=>[dA .eInst x.1,dI x.2]
 pre:=fun(a,k)=>[0≤k,k+ctInst a≤4611686018427387904]
 res:=fun(a,k)=>⟨[dI (if mkInst a k=a then k+ctInst a else-1)],true,[]⟩
 law:=lC (lA .eInst) (l1 lI)
def Za16:Zk16.α→Nat→Option (Ann UU):=fun(a,k)=>annL []
def Zu16:=us [Zh48,Zh49,Zh50,Zh51,Zh52]
theorem Zo16:Holds EE (16,Zk16):=by
 refine holds_of EE_ok func16 Zk16 (by kernel_rfl) Zu16 (us_ok _) Za16 (fun x hp hb=> ?_)
 obtain⟨a,k⟩:=x
 have hz0:=bd_eInst (x:=a) (hb _ m0)
 have hl_a_S_Items:=hz0.1
 have hl_a_Fired:=hz0.2.1
 have hl_a_Tasks:=hz0.2.2.1
 have hl_a_Timers:=hz0.2.2.2.1
 have hl_a_Undos:=hz0.2.2.2.2
 have hl_k:=bdI (n:=k) (hb _ m1)
 have hp0:0≤k:=hp _ m0
 have hp1:k+ctInst a≤4611686018427387904:=hp _ m1
 clear hp hb
 apply @ve _ (let x5:Int:=(-1:Int);let x4:Int:=if mkStore a.S k=a.S then k+(↑(ctStore a.S):Int) else x5;let x3:Int:=if markMatchS a.Fired x4=a.Fired then x4+(↑(cntMatchS a.Fired):Int) else x5;let x2:Int:=if markTaskS a.Tasks x3=a.Tasks then x3+(↑(cntTaskS a.Tasks):Int) else x5;let x1:Int:=if markTimerS a.Timers x2=a.Timers then x2+(↑(cntTimerS a.Timers):Int) else x5;let x0:Int:=if markUndoS a.Undos x1=a.Undos then x1+(↑(cntUndoS a.Undos):Int) else x5;(0:Int)≤k∧k+(↑(ctStore a.S):Int)≤(4611686018427387904:Int)∧bif decide (x4<(0:Int)) then Li x5 (if mkInst a k=a then k+(↑(ctInst a):Int) else x5) else(0:Int)≤x4∧x4+(↑(cntMatchS a.Fired):Int)≤(4611686018427387904:Int)∧bif decide (x3<(0:Int)) then Li x5 (if mkInst a k=a then k+(↑(ctInst a):Int) else x5) else(0:Int)≤x3∧x3+(↑(cntTaskS a.Tasks):Int)≤(4611686018427387904:Int)∧bif decide (x2<(0:Int)) then Li x5 (if mkInst a k=a then k+(↑(ctInst a):Int) else x5) else(0:Int)≤x2∧x2+(↑(cntTimerS a.Timers):Int)≤(4611686018427387904:Int)∧bif decide (x1<(0:Int)) then Li x5 (if mkInst a k=a then k+(↑(ctInst a):Int) else x5) else(0:Int)≤x1∧x1+(↑(cntUndoS a.Undos):Int)≤(4611686018427387904:Int)∧bif decide (x0<(0:Int)) then Li x5 (if mkInst a k=a then k+(↑(ctInst a):Int) else x5) else Li x0 (if mkInst a k=a then k+(↑(ctInst a):Int) else x5)) (by kernel_rfl)
 dsimp only
 simp only[ctInst] at hp1
 repeat' (first|refine And.intro (by omega) ?_|fail)
 by_cases hm1:mkStore a.S (k)=a.S
 rotate_left
 ·simp only[if_neg hm1];rw[cond_yes (by decide)]
  exact Lf_no (fun hh=>hm1 (congrArg (fun t:DInst=>t.S) hh))
 simp only[if_pos hm1]
 refine if_cond (fun h=>absurd (of_decide_eq_true h) (by omega)) (fun h=> ?_)
 repeat' (first|refine And.intro (by omega) ?_|fail)
 by_cases hm2:markMatchS a.Fired (k+ctStore a.S)=a.Fired
 rotate_left
 ·simp only[if_neg hm2];rw[cond_yes (by decide)]
  exact Lf_no (fun hh=>hm2 (congrArg (fun t:DInst=>t.Fired) hh))
 simp only[if_pos hm2]
 refine if_cond (fun h=>absurd (of_decide_eq_true h) (by omega)) (fun h=> ?_)
 repeat' (first|refine And.intro (by omega) ?_|fail)
 by_cases hm3:markTaskS a.Tasks (k+ctStore a.S+cntMatchS a.Fired)=a.Tasks
 rotate_left
 ·simp only[if_neg hm3];rw[cond_yes (by decide)]
  exact Lf_no (fun hh=>hm3 (congrArg (fun t:DInst=>t.Tasks) hh))
 simp only[if_pos hm3]
 refine if_cond (fun h=>absurd (of_decide_eq_true h) (by omega)) (fun h=> ?_)
 repeat' (first|refine And.intro (by omega) ?_|fail)
 by_cases hm4:markTimerS a.Timers (k+ctStore a.S+cntMatchS a.Fired+cntTaskS a.Tasks)=a.Timers
 rotate_left
 ·simp only[if_neg hm4];rw[cond_yes (by decide)]
  exact Lf_no (fun hh=>hm4 (congrArg (fun t:DInst=>t.Timers) hh))
 simp only[if_pos hm4]
 refine if_cond (fun h=>absurd (of_decide_eq_true h) (by omega)) (fun h=> ?_)
 repeat' (first|refine And.intro (by omega) ?_|fail)
 by_cases hm5:markUndoS a.Undos (k+ctStore a.S+cntMatchS a.Fired+cntTaskS a.Tasks+cntTimerS a.Timers)=a.Undos
 rotate_left
 ·simp only[if_neg hm5];rw[cond_yes (by decide)]
  exact Lf_no (fun hh=>hm5 (congrArg (fun t:DInst=>t.Undos) hh))
 simp only[if_pos hm5]
 refine if_cond (fun h=>absurd (of_decide_eq_true h) (by omega)) (fun h=> ?_)
 exact Lf_yes (by simp only[mkInst,hm1,hm2,hm3,hm4,hm5]) (by simp only[ctInst];try omega)
def Zh16:HH:=⟨_,Zo16⟩
theorem firedM_ids{d:DDef}{s:List DItem}{m:DMatch}(h1:hasR d m=true)(h2:m.Binds.length=0)(h3:m.Ids.length=posN (List.getD d.Rules m.Rule.toNat zRule).Pats):firedM d s m=m.Ids.all (hasId s):=by
 simp only[firedM,h1,decide_eq_true h2,decide_eq_true h3,zck]
theorem ctInst_items(x:DInst):sizeItemS x.S.Items≤sizeInst x:=by
 simp only[sizeInst,sizeStore];omega
theorem hasR_iff{d:DDef}{m:DMatch}(h:hasR d m=true):0≤m.Rule∧m.Rule<(d.Rules.length:Int):=by
 simpa[hasR] using h
theorem posN_size{d:DDef}{m:DMatch}(h:hasR d m=true):posN (List.getD d.Rules m.Rule.toNat zRule).Pats≤sizeDef d:=by
 obtain⟨h1,h2⟩:=hasR_iff h
 have hs:=sum_getD_le sizeRule d.Rules zRule h1 h2
 have hle:posN (List.getD d.Rules m.Rule.toNat zRule).Pats≤(List.getD d.Rules m.Rule.toNat zRule).Pats.length:=zdt _ _
 simp only[sizeRule,sizePatS] at hs
 simp only[sizeDef,sizeRuleS,sizeRule,sizePatS];omega
def Zk141:Con UU where
 α:=DDef×DMatch
 md:=[.ro,.ro]
 of:=oC (oA .eDef) (o1 (oA .eMatch))
 ds:=fun x=>[dA .eDef x.1,dA .eMatch x.2]
 pre:=fun _=>[]
 res:=fun(d,m)=>⟨[dO (hasR d m)],true,[]⟩
 law:=lC (lA .eDef) (l1 (lA .eMatch))
def Za141:Zk141.α→Nat→Option (Ann UU):=fun(d,m)=>annL []
def Zu141:List (FuncId×Con UU):=[]
theorem Zo141:Holds EE (141,Zk141):=by
 refine holds_of EE_ok func141 Zk141 (by kernel_rfl) Zu141 all_nil Za141 (fun x hp hb=> ?_)
 obtain⟨d,m⟩:=x
 have hz0:=bd_eDef (x:=d) (hb _ m0)
 have hl_d_Name:=hz0.1
 have hl_d_Rules:=hz0.2
 have hz1:=bd_eMatch (x:=m) (hb _ m1)
 have hl_m_Ids:=hz1.1
 have hl_m_Binds:=hz1.2
 clear hp hb
 apply @ve _ (bif decide (m.Rule≥(0:Int)) then Lb (decide (m.Rule<(d.Rules.length:Int))) (hasR d m) else Lb false (hasR d m)) (by kernel_rfl)
 simp only[hasR]
 refine if_dec (fun h=>Lf_b ?_) (fun h=>Lf_b ?_)
 ·rw[decide_eq_true (show 0≤m.Rule from h),zck]
 ·rw[decide_eq_false (show¬0≤m.Rule from h),zbi]
def Zh141:HH:=⟨_,Zo141⟩
def Zk170:Con UU where
 α:=DDef×DMatch
 md:=[.ro,.ro]
 of:=oC (oA .eDef) (o1 (oA .eMatch))
 ds:=fun x=>[dA .eDef x.1,dA .eMatch x.2]
 pre:=fun _=>[]
 res:=fun(d,m)=>⟨[dO (hasR d m)],true,[]⟩
 law:=lC (lA .eDef) (l1 (lA .eMatch))
def Za170:Zk170.α→Nat→Option (Ann UU):=fun(d,m)=>annL []
def Zu170:List (FuncId×Con UU):=[]
theorem Zo170:Holds EE (170,Zk170):=by
 refine holds_of EE_ok func170 Zk170 (by kernel_rfl) Zu170 all_nil Za170 (fun x hp hb=> ?_)
 obtain⟨d,m⟩:=x
 have hz0:=bd_eDef (x:=d) (hb _ m0)
 have hl_d_Name:=hz0.1
 have hl_d_Rules:=hz0.2
 have hz1:=bd_eMatch (x:=m) (hb _ m1)
 have hl_m_Ids:=hz1.1
 have hl_m_Binds:=hz1.2
 clear hp hb
 apply @ve _ (bif decide (m.Rule≥(0:Int)) then Lb (decide (m.Rule<(d.Rules.length:Int))) (hasR d m) else Lb false (hasR d m)) (by kernel_rfl)
 simp only[hasR]
 refine if_dec (fun h=>Lf_b ?_) (fun h=>Lf_b ?_)
 ·rw[decide_eq_true (show 0≤m.Rule from h),zck]
 ·rw[decide_eq_false (show¬0≤m.Rule from h),zbi]
def Zh170:HH:=⟨_,Zo170⟩
def Zk70:Con UU where
 α:=DDef×DInst
 md:=[.ro,.ro]
 of:=oC (oA .eDef) (o1 (oA .eInst))
 ds:=fun x=>[dA .eDef x.1,dA .eInst x.2]
 pre:=fun(d,x)=>[sizeDef d≤4294967295,sizeItemS x.S.Items≤4294967296]
 res:=fun(d,x)=>⟨[dO (firedOk d x)],true,[]⟩
 law:=lC (lA .eDef) (l1 (lA .eInst))
def Zi70_2(d:DDef)(x:DInst):Int×(ByteArray×List DRule×Unit)×(List DItem×Int×List DMatch×List DTask×List DTimer×List DUndo×Int×Int×Unit)×Unit→Prop:=fun(i,b,g,_)=>b=(d.Name,d.Rules,())∧g=(x.S.Items,x.S.Next,x.Fired,x.Tasks,x.Timers,x.Undos,x.State,x.Now,())∧0≤i∧i≤x.Fired.length∧(x.Fired.drop i.toNat).all (firedM d x.S.Items)=x.Fired.all (firedM d x.S.Items)
def Zm70_2(d:DDef)(x:DInst):Int×(ByteArray×List DRule×Unit)×(List DItem×Int×List DMatch×List DTask×List DTimer×List DUndo×Int×Int×Unit)×Unit→Nat:=fun(i,b,g,_)=>x.Fired.length-i.toNat
def Zi70_8(d:DDef)(x:DInst):Int×Int×(ByteArray×List DRule×Unit)×(List DItem×Int×List DMatch×List DTask×List DTimer×List DUndo×Int×Int×Unit)×(Int×List Int×List DBind×Unit)×Unit→Int×Int×(ByteArray×List DRule×Unit)×(List DItem×Int×List DMatch×List DTask×List DTimer×List DUndo×Int×Int×Unit)×(Int×List Int×List DBind×Unit)×Unit→Prop:=fun(i0,k0,b0,g0,m0,_) (i,k,b,g,m,_)=>i=i0∧b=b0∧g=g0∧m=m0∧0≤k∧k≤(List.getD x.Fired i.toNat zMatch).Ids.length∧((List.getD x.Fired i.toNat zMatch).Ids.drop k.toNat).all (hasId x.S.Items)=(List.getD x.Fired i.toNat zMatch).Ids.all (hasId x.S.Items)
def Zm70_8(d:DDef)(x:DInst):Int×Int×(ByteArray×List DRule×Unit)×(List DItem×Int×List DMatch×List DTask×List DTimer×List DUndo×Int×Int×Unit)×(Int×List Int×List DBind×Unit)×Unit→Nat:=fun(i,k,b,g,m,_)=>(List.getD x.Fired i.toNat zMatch).Ids.length-k.toNat
def Za70:Zk70.α→Nat→Option (Ann UU):=fun(d,x)=>annL [(2,annOf [.slot 5 (5,1024) (.lit (.int .i64)),.box 2 (2,1024) [.lit .str,.shr .eRule],.box 3 (3,1024) [.shr .eItem,.lit (.int .i64),.shr .eMatch,.shr .eTask,.shr .eTimer,.shr .eUndo,.lit (.int .i64),.lit (.int .i64)]] (fun _=>Zi70_2 d x) (Zm70_2 d x)),(8,annOf [.slot 5 (5,1024) (.lit (.int .i64)),.slot 7 (7,1024) (.lit (.int .i64)),.box 2 (2,1024) [.lit .str,.shr .eRule],.box 3 (3,1024) [.shr .eItem,.lit (.int .i64),.shr .eMatch,.shr .eTask,.shr .eTimer,.shr .eUndo,.lit (.int .i64),.lit (.int .i64)],.box 6 (6,1024) [.lit (.int .i64),.shr .int,.shr .eBind]] (Zi70_8 d x) (Zm70_8 d x))]
def Zu70:=us [Zh141,Zh142,Zh143]
theorem Zo70:Holds EE (70,Zk70):=by
 refine holds_of EE_ok func70 Zk70 (by kernel_rfl) Zu70 (us_ok _) Za70 (fun x hp hb=> ?_)
 obtain⟨d,x⟩:=x
 have hz0:=bd_eDef (x:=d) (hb _ m0)
 have hl_d_Name:=hz0.1
 have hl_d_Rules:=hz0.2
 have hz1:=bd_eInst (x:=x) (hb _ m1)
 have hl_x_S_Items:=hz1.1
 have hl_x_Fired:=hz1.2.1
 have hl_x_Tasks:=hz1.2.2.1
 have hl_x_Timers:=hz1.2.2.2.1
 have hl_x_Undos:=hz1.2.2.2.2
 have hp0:sizeDef d≤4294967295:=hp _ m0
 have hp1:sizeItemS x.S.Items≤4294967296:=hp _ m1
 clear hp hb
 apply @ve _ (Zi70_2 d x ((0:Int),(d.Name,d.Rules,()),(x.S.Items,x.S.Next,x.Fired,x.Tasks,x.Timers,x.Undos,x.State,x.Now,()),())∧∀(y:Int×(ByteArray×List DRule×PUnit)×(List DItem×Int×List DMatch×List DTask×List DTimer×List DUndo×Int×Int×PUnit)×PUnit),let x0:DMatch:=List.getD y.2.2.1.2.2.1 y.1.toNat zMatch;let x2:Nat:=y.2.2.1.2.2.1.length;let x1:Int:=(↑x2:Int);Zi70_2 d x y→bif decide (y.1<x1) then(0:Int)≤y.1∧y.1.toNat<x2∧bif !hasR {Name:=y.2.1.1,Rules:=y.2.1.2.1:DDef} x0 then Lb false (firedOk d x) else bif (x0.Binds.length:Int) !=(0:Int) then Lb false (firedOk d x) else(0:Int)≤x0.Rule∧x0.Rule.toNat<y.2.1.2.1.length∧bif (x0.Ids.length:Int) !=(↑(posN (List.getD y.2.1.2.1 x0.Rule.toNat zRule).Pats):Int) then Lb false (firedOk d x) else Zi70_8 d x (y.1,(0:Int),(y.2.1.1,y.2.1.2.1,()),(y.2.2.1.1,y.2.2.1.2.1,y.2.2.1.2.2.1,y.2.2.1.2.2.2.1,y.2.2.1.2.2.2.2.1,y.2.2.1.2.2.2.2.2.1,y.2.2.1.2.2.2.2.2.2.1,y.2.2.1.2.2.2.2.2.2.2.1,()),(x0.Rule,x0.Ids,x0.Binds,()),()) (y.1,(0:Int),(y.2.1.1,y.2.1.2.1,()),(y.2.2.1.1,y.2.2.1.2.1,y.2.2.1.2.2.1,y.2.2.1.2.2.2.1,y.2.2.1.2.2.2.2.1,y.2.2.1.2.2.2.2.2.1,y.2.2.1.2.2.2.2.2.2.1,y.2.2.1.2.2.2.2.2.2.2.1,()),(x0.Rule,x0.Ids,x0.Binds,()),())∧∀(y_1:Int×Int×(ByteArray×List DRule×PUnit)×(List DItem×Int×List DMatch×List DTask×List DTimer×List DUndo×Int×Int×PUnit)×(Int×List Int×List DBind×PUnit)×PUnit),let x4:Nat:=y_1.2.2.2.2.1.2.1.length;let x5:Nat:=y_1.2.1.toNat;let x3:Int:=(↑x4:Int);Zi70_8 d x (y.1,(0:Int),(y.2.1.1,y.2.1.2.1,()),(y.2.2.1.1,y.2.2.1.2.1,y.2.2.1.2.2.1,y.2.2.1.2.2.2.1,y.2.2.1.2.2.2.2.1,y.2.2.1.2.2.2.2.2.1,y.2.2.1.2.2.2.2.2.2.1,y.2.2.1.2.2.2.2.2.2.2.1,()),(x0.Rule,x0.Ids,x0.Binds,()),()) y_1→bif decide (y_1.2.1<x3) then(0:Int)≤y_1.2.1∧x5<x4∧sizeItemS y_1.2.2.2.1.1≤(4294967296:Nat)∧bif !hasId y_1.2.2.2.1.1 (List.getD y_1.2.2.2.2.1.2.1 x5 (0:Int)) then Lb false (firedOk d x) else Zi70_8 d x (y.1,(0:Int),(y.2.1.1,y.2.1.2.1,()),(y.2.2.1.1,y.2.2.1.2.1,y.2.2.1.2.2.1,y.2.2.1.2.2.2.1,y.2.2.1.2.2.2.2.1,y.2.2.1.2.2.2.2.2.1,y.2.2.1.2.2.2.2.2.2.1,y.2.2.1.2.2.2.2.2.2.2.1,()),(x0.Rule,x0.Ids,x0.Binds,()),()) (y_1.1,IntKind.wrap IntKind.i64 (y_1.2.1+(1:Int)),(y_1.2.2.1.1,y_1.2.2.1.2.1,()),(y_1.2.2.2.1.1,y_1.2.2.2.1.2.1,y_1.2.2.2.1.2.2.1,y_1.2.2.2.1.2.2.2.1,y_1.2.2.2.1.2.2.2.2.1,y_1.2.2.2.1.2.2.2.2.2.1,y_1.2.2.2.1.2.2.2.2.2.2.1,y_1.2.2.2.1.2.2.2.2.2.2.2.1,()),(y_1.2.2.2.2.1.1,y_1.2.2.2.2.1.2.1,y_1.2.2.2.2.1.2.2.1,()),())∧Zm70_8 d x (y_1.1,IntKind.wrap IntKind.i64 (y_1.2.1+(1:Int)),(y_1.2.2.1.1,y_1.2.2.1.2.1,()),(y_1.2.2.2.1.1,y_1.2.2.2.1.2.1,y_1.2.2.2.1.2.2.1,y_1.2.2.2.1.2.2.2.1,y_1.2.2.2.1.2.2.2.2.1,y_1.2.2.2.1.2.2.2.2.2.1,y_1.2.2.2.1.2.2.2.2.2.2.1,y_1.2.2.2.1.2.2.2.2.2.2.2.1,()),(y_1.2.2.2.2.1.1,y_1.2.2.2.2.1.2.1,y_1.2.2.2.2.1.2.2.1,()),())<Zm70_8 d x y_1 else Zi70_2 d x (IntKind.wrap IntKind.i64 (y_1.1+(1:Int)),(y_1.2.2.1.1,y_1.2.2.1.2.1,()),(y_1.2.2.2.1.1,y_1.2.2.2.1.2.1,y_1.2.2.2.1.2.2.1,y_1.2.2.2.1.2.2.2.1,y_1.2.2.2.1.2.2.2.2.1,y_1.2.2.2.1.2.2.2.2.2.1,y_1.2.2.2.1.2.2.2.2.2.2.1,y_1.2.2.2.1.2.2.2.2.2.2.2.1,()),())∧Zm70_2 d x (IntKind.wrap IntKind.i64 (y_1.1+(1:Int)),(y_1.2.2.1.1,y_1.2.2.1.2.1,()),(y_1.2.2.2.1.1,y_1.2.2.2.1.2.1,y_1.2.2.2.1.2.2.1,y_1.2.2.2.1.2.2.2.1,y_1.2.2.2.1.2.2.2.2.1,y_1.2.2.2.1.2.2.2.2.2.1,y_1.2.2.2.1.2.2.2.2.2.2.1,y_1.2.2.2.1.2.2.2.2.2.2.2.1,()),())<Zm70_2 d x y else Lb (decide (x1≤(1000:Int))) (firedOk d x)) (by kernel_rfl)
 dsimp only
 refine⟨⟨rfl,rfl,by omega,by omega,rfl⟩,?_⟩
 rintro⟨i,⟨b1,b2,⟨⟩⟩,⟨g1,g2,g3,g4,g5,g6,g7,g8,⟨⟩⟩,⟨⟩⟩ ⟨hb,hg,h1,h2,hR⟩
 cases hb
 cases hg
 simp only
 refine if_dec (fun hc=> ?_) (fun hc=> ?_)
 ·rw[all_step _ _ zMatch h1 hc] at hR
  have hN:firedM d x.S.Items (List.getD x.Fired i.toNat zMatch)=false→firedOk d x=false:=fun h=>by simp only[firedOk,←hR,h,zbi,zbs]
  refine⟨by omega,by omega,if_not (fun a=>Lf_ff (hN ?_)) (fun a=>if_not (fun b=>Lf_ff (hN ?_)) (fun b=> ?_))⟩
  ·have a:hasR d (List.getD x.Fired i.toNat zMatch)=false:=a
   simp only[firedM,a,zbi]
  ·have b:¬(List.getD x.Fired i.toNat zMatch).Binds.length=0:=by simpa using b
   simp only[firedM,decide_eq_false b,zbi,zbs]
  have a:hasR d (List.getD x.Fired i.toNat zMatch)=true:=a
  have b:(List.getD x.Fired i.toNat zMatch).Binds.length=0:=by simpa using b
  obtain⟨r1,r2⟩:=hasR_iff a
  have hz:=posN_size a
  refine⟨r1,by omega,if_not (fun c=>Lf_ff (hN ?_)) (fun c=>⟨⟨rfl,rfl,rfl,rfl,by omega,by omega,rfl⟩,?_⟩)⟩
  ·have c:¬(List.getD x.Fired i.toNat zMatch).Ids.length=posN (List.getD d.Rules (List.getD x.Fired i.toNat zMatch).Rule.toNat zRule).Pats:=fun e=>by rw[e] at c;simp at c
   simp only[firedM,decide_eq_false c,zbi,zbs]
  have c:(List.getD x.Fired i.toNat zMatch).Ids.length=posN (List.getD d.Rules (List.getD x.Fired i.toNat zMatch).Rule.toNat zRule).Pats:=by
   have c:=eq_of_beq c
   omega
  have hM:=firedM_ids (s:=x.S.Items) a b c
  rintro⟨i',k,⟨b1,b2,⟨⟩⟩,⟨g1,g2,g3,g4,g5,g6,g7,g8,⟨⟩⟩,⟨m1,m2,m3,⟨⟩⟩,⟨⟩⟩ ⟨rfl,hb,hg,hm,k1,k2,kR⟩
  cases hb
  cases hg
  cases hm
  simp only
  refine if_dec (fun hk=> ?_) (fun hk=> ?_)
  ·rw[all_step _ _ 0 k1 hk] at kR
   rw[wrap_i64 (n:=k+1) (by omega) (by omega)]
   exact⟨by omega,by omega,hp1,if_not (fun e=>Lf_ff (hN (by rw[hM,←kR,e,zbi]))) (fun e=>⟨⟨rfl,rfl,rfl,rfl,by omega,by omega,by rw[←kR,e,zck]⟩,by simp only[Zm70_8];omega⟩)⟩
  ·rw[drop_end _ (by omega)] at kR
   rw[wrap_i64 (n:=i'+1) (by omega) (by omega)]
   exact⟨⟨rfl,rfl,by omega,by omega,by rw[←hR,hM,←kR];rfl⟩,by simp only[Zm70_2];omega⟩
 ·rw[drop_end _ (by omega)] at hR
  refine Lf_b ?_
  simp only[firedOk,←hR,zes,zdb];exact decide_eq_decide.2 (by omega)
def Zh70:HH:=⟨_,Zo70⟩
def Zk96:Con UU where
 α:=DDef×DInst
 md:=[.ro,.ro]
 of:=oC (oA .eDef) (o1 (oA .eInst))
 ds:=fun x=>[dA .eDef x.1,dA .eInst x.2]
 pre:=fun(d,x)=>[sizeDef d≤4294967295,sizeItemS x.S.Items≤4294967296]
 res:=fun(d,x)=>⟨[dO (firedOk d x)],true,[]⟩
 law:=lC (lA .eDef) (l1 (lA .eInst))
def Zi96_4(d:DDef)(x:DInst):Int×(ByteArray×List DRule×Unit)×(List DItem×Int×List DMatch×List DTask×List DTimer×List DUndo×Int×Int×Unit)×Unit→Prop:=fun(i,b,g,_)=>b=(d.Name,d.Rules,())∧g=(x.S.Items,x.S.Next,x.Fired,x.Tasks,x.Timers,x.Undos,x.State,x.Now,())∧x.Fired.length≤1000∧0≤i∧i≤x.Fired.length∧(x.Fired.drop i.toNat).all (firedM d x.S.Items)=x.Fired.all (firedM d x.S.Items)
def Zm96_4(d:DDef)(x:DInst):Int×(ByteArray×List DRule×Unit)×(List DItem×Int×List DMatch×List DTask×List DTimer×List DUndo×Int×Int×Unit)×Unit→Nat:=fun(i,b,g,_)=>x.Fired.length-i.toNat
def Zi96_9(d:DDef)(x:DInst):Int×Int×(ByteArray×List DRule×Unit)×(List DItem×Int×List DMatch×List DTask×List DTimer×List DUndo×Int×Int×Unit)×Unit→Int×Int×(ByteArray×List DRule×Unit)×(List DItem×Int×List DMatch×List DTask×List DTimer×List DUndo×Int×Int×Unit)×Unit→Prop:=fun(i0,k0,b0,g0,_) (i,k,b,g,_)=>i=i0∧b=b0∧g=g0∧0≤k∧k≤(List.getD x.Fired i.toNat zMatch).Ids.length∧((List.getD x.Fired i.toNat zMatch).Ids.drop k.toNat).all (hasId x.S.Items)=(List.getD x.Fired i.toNat zMatch).Ids.all (hasId x.S.Items)
def Zm96_9(d:DDef)(x:DInst):Int×Int×(ByteArray×List DRule×Unit)×(List DItem×Int×List DMatch×List DTask×List DTimer×List DUndo×Int×Int×Unit)×Unit→Nat:=fun(i,k,b,g,_)=>(List.getD x.Fired i.toNat zMatch).Ids.length-k.toNat
def Za96:Zk96.α→Nat→Option (Ann UU):=fun(d,x)=>annL [(4,annOf [.slot 18 (18,1024) (.lit (.int .i64)),.box 2 (2,1024) [.lit .str,.shr .eRule],.box 3 (3,1024) [.shr .eItem,.lit (.int .i64),.shr .eMatch,.shr .eTask,.shr .eTimer,.shr .eUndo,.lit (.int .i64),.lit (.int .i64)]] (fun _=>Zi96_4 d x) (Zm96_4 d x)),(9,annOf [.slot 18 (18,1024) (.lit (.int .i64)),.slot 48 (48,1024) (.lit (.int .i64)),.box 2 (2,1024) [.lit .str,.shr .eRule],.box 3 (3,1024) [.shr .eItem,.lit (.int .i64),.shr .eMatch,.shr .eTask,.shr .eTimer,.shr .eUndo,.lit (.int .i64),.lit (.int .i64)]] (Zi96_9 d x) (Zm96_9 d x))]
def Zu96:=us [Zh170,Zh171,Zh172]
theorem Zo96:Holds EE (96,Zk96):=by
 refine holds_of EE_ok func96 Zk96 (by kernel_rfl) Zu96 (us_ok _) Za96 (fun x hp hb=> ?_)
 obtain⟨d,x⟩:=x
 have hz0:=bd_eDef (x:=d) (hb _ m0)
 have hl_d_Name:=hz0.1
 have hl_d_Rules:=hz0.2
 have hz1:=bd_eInst (x:=x) (hb _ m1)
 have hl_x_S_Items:=hz1.1
 have hl_x_Fired:=hz1.2.1
 have hl_x_Tasks:=hz1.2.2.1
 have hl_x_Timers:=hz1.2.2.2.1
 have hl_x_Undos:=hz1.2.2.2.2
 have hp0:sizeDef d≤4294967295:=hp _ m0
 have hp1:sizeItemS x.S.Items≤4294967296:=hp _ m1
 clear hp hb
 apply @ve _ (let x0:Int:=(x.Fired.length:Int);bif decide (x0>(1000:Int)) then Lb false (firedOk d x) else Zi96_4 d x ((0:Int),(d.Name,d.Rules,()),(x.S.Items,x.S.Next,x.Fired,x.Tasks,x.Timers,x.Undos,x.State,x.Now,()),())∧∀(y:Int×(ByteArray×List DRule×PUnit)×(List DItem×Int×List DMatch×List DTask×List DTimer×List DUndo×Int×Int×PUnit)×PUnit),let x2:DMatch:=List.getD x.Fired y.1.toNat zMatch;let x1:Int:=(x2.Ids.length:Int);Zi96_4 d x y→bif decide (y.1<x0) then(0:Int)≤y.1∧y.1.toNat<x.Fired.length∧bif !hasR {Name:=y.2.1.1,Rules:=y.2.1.2.1:DDef} x2 then Lb false (firedOk d x) else bif (x2.Binds.length:Int) !=(0:Int) then Lb false (firedOk d x) else(0:Int)≤x2.Rule∧x2.Rule.toNat<y.2.1.2.1.length∧bif x1 !=(↑(posN (List.getD y.2.1.2.1 x2.Rule.toNat zRule).Pats):Int) then Lb false (firedOk d x) else Zi96_9 d x (y.1,(0:Int),(y.2.1.1,y.2.1.2.1,()),(y.2.2.1.1,y.2.2.1.2.1,y.2.2.1.2.2.1,y.2.2.1.2.2.2.1,y.2.2.1.2.2.2.2.1,y.2.2.1.2.2.2.2.2.1,y.2.2.1.2.2.2.2.2.2.1,y.2.2.1.2.2.2.2.2.2.2.1,()),()) (y.1,(0:Int),(y.2.1.1,y.2.1.2.1,()),(y.2.2.1.1,y.2.2.1.2.1,y.2.2.1.2.2.1,y.2.2.1.2.2.2.1,y.2.2.1.2.2.2.2.1,y.2.2.1.2.2.2.2.2.1,y.2.2.1.2.2.2.2.2.2.1,y.2.2.1.2.2.2.2.2.2.2.1,()),())∧∀(y_1:Int×Int×(ByteArray×List DRule×PUnit)×(List DItem×Int×List DMatch×List DTask×List DTimer×List DUndo×Int×Int×PUnit)×PUnit),let x3:Nat:=y_1.2.1.toNat;Zi96_9 d x (y.1,(0:Int),(y.2.1.1,y.2.1.2.1,()),(y.2.2.1.1,y.2.2.1.2.1,y.2.2.1.2.2.1,y.2.2.1.2.2.2.1,y.2.2.1.2.2.2.2.1,y.2.2.1.2.2.2.2.2.1,y.2.2.1.2.2.2.2.2.2.1,y.2.2.1.2.2.2.2.2.2.2.1,()),()) y_1→bif decide (y_1.2.1<x1) then(0:Int)≤y_1.2.1∧x3<x2.Ids.length∧sizeItemS y_1.2.2.2.1.1≤(4294967296:Nat)∧bif !hasId y_1.2.2.2.1.1 (List.getD x2.Ids x3 (0:Int)) then Lb false (firedOk d x) else Zi96_9 d x (y.1,(0:Int),(y.2.1.1,y.2.1.2.1,()),(y.2.2.1.1,y.2.2.1.2.1,y.2.2.1.2.2.1,y.2.2.1.2.2.2.1,y.2.2.1.2.2.2.2.1,y.2.2.1.2.2.2.2.2.1,y.2.2.1.2.2.2.2.2.2.1,y.2.2.1.2.2.2.2.2.2.2.1,()),()) (y_1.1,IntKind.wrap IntKind.i64 (y_1.2.1+(1:Int)),(y_1.2.2.1.1,y_1.2.2.1.2.1,()),(y_1.2.2.2.1.1,y_1.2.2.2.1.2.1,y_1.2.2.2.1.2.2.1,y_1.2.2.2.1.2.2.2.1,y_1.2.2.2.1.2.2.2.2.1,y_1.2.2.2.1.2.2.2.2.2.1,y_1.2.2.2.1.2.2.2.2.2.2.1,y_1.2.2.2.1.2.2.2.2.2.2.2.1,()),())∧Zm96_9 d x (y_1.1,IntKind.wrap IntKind.i64 (y_1.2.1+(1:Int)),(y_1.2.2.1.1,y_1.2.2.1.2.1,()),(y_1.2.2.2.1.1,y_1.2.2.2.1.2.1,y_1.2.2.2.1.2.2.1,y_1.2.2.2.1.2.2.2.1,y_1.2.2.2.1.2.2.2.2.1,y_1.2.2.2.1.2.2.2.2.2.1,y_1.2.2.2.1.2.2.2.2.2.2.1,y_1.2.2.2.1.2.2.2.2.2.2.2.1,()),())<Zm96_9 d x y_1 else Zi96_4 d x (IntKind.wrap IntKind.i64 (y_1.1+(1:Int)),(y_1.2.2.1.1,y_1.2.2.1.2.1,()),(y_1.2.2.2.1.1,y_1.2.2.2.1.2.1,y_1.2.2.2.1.2.2.1,y_1.2.2.2.1.2.2.2.1,y_1.2.2.2.1.2.2.2.2.1,y_1.2.2.2.1.2.2.2.2.2.1,y_1.2.2.2.1.2.2.2.2.2.2.1,y_1.2.2.2.1.2.2.2.2.2.2.2.1,()),())∧Zm96_4 d x (IntKind.wrap IntKind.i64 (y_1.1+(1:Int)),(y_1.2.2.1.1,y_1.2.2.1.2.1,()),(y_1.2.2.2.1.1,y_1.2.2.2.1.2.1,y_1.2.2.2.1.2.2.1,y_1.2.2.2.1.2.2.2.1,y_1.2.2.2.1.2.2.2.2.1,y_1.2.2.2.1.2.2.2.2.2.1,y_1.2.2.2.1.2.2.2.2.2.2.1,y_1.2.2.2.1.2.2.2.2.2.2.2.1,()),())<Zm96_4 d x y else Lb true (firedOk d x)) (by kernel_rfl)
 dsimp only
 refine if_dec (fun a=>Lf_ff ?_) (fun a=>⟨⟨rfl,rfl,by omega,by omega,by omega,rfl⟩,?_⟩)
 ·simp only[firedOk];rw[decide_eq_false (p:=x.Fired.length≤1000) (by omega),zbi]
 rintro⟨i,⟨b1,b2,⟨⟩⟩,⟨g1,g2,g3,g4,g5,g6,g7,g8,⟨⟩⟩,⟨⟩⟩ ⟨hb,hg,a0,h1,h2,hR⟩
 cases hb
 cases hg
 simp only
 refine if_dec (fun hc=> ?_) (fun hc=> ?_)
 ·rw[all_step _ _ zMatch h1 hc] at hR
  have hN:firedM d x.S.Items (List.getD x.Fired i.toNat zMatch)=false→firedOk d x=false:=fun h=>by simp only[firedOk,←hR,h,zbi,zbs]
  refine⟨by omega,by omega,if_not (fun a=>Lf_ff (hN ?_)) (fun a=>if_not (fun b=>Lf_ff (hN ?_)) (fun b=> ?_))⟩
  ·have a:hasR d (List.getD x.Fired i.toNat zMatch)=false:=a
   simp only[firedM,a,zbi]
  ·have b:¬(List.getD x.Fired i.toNat zMatch).Binds.length=0:=by simpa using b
   simp only[firedM,decide_eq_false b,zbi,zbs]
  have a:hasR d (List.getD x.Fired i.toNat zMatch)=true:=a
  have b:(List.getD x.Fired i.toNat zMatch).Binds.length=0:=by simpa using b
  obtain⟨r1,r2⟩:=hasR_iff a
  have hz:=posN_size a
  refine⟨r1,by omega,if_not (fun c=>Lf_ff (hN ?_)) (fun c=>⟨⟨rfl,rfl,rfl,by omega,by omega,rfl⟩,?_⟩)⟩
  ·have c:¬(List.getD x.Fired i.toNat zMatch).Ids.length=posN (List.getD d.Rules (List.getD x.Fired i.toNat zMatch).Rule.toNat zRule).Pats:=fun e=>by rw[e] at c;simp at c
   simp only[firedM,decide_eq_false c,zbi,zbs]
  have c:(List.getD x.Fired i.toNat zMatch).Ids.length=posN (List.getD d.Rules (List.getD x.Fired i.toNat zMatch).Rule.toNat zRule).Pats:=by
   have c:=eq_of_beq c
   omega
  have hM:=firedM_ids (s:=x.S.Items) a b c
  rintro⟨i',k,⟨b1,b2,⟨⟩⟩,⟨g1,g2,g3,g4,g5,g6,g7,g8,⟨⟩⟩,⟨⟩⟩ ⟨rfl,hb,hg,k1,k2,kR⟩
  cases hb
  cases hg
  simp only
  refine if_dec (fun hk=> ?_) (fun hk=> ?_)
  ·rw[all_step _ _ 0 k1 hk] at kR
   rw[wrap_i64 (n:=k+1) (by omega) (by omega)]
   exact⟨by omega,by omega,hp1,if_not (fun e=>Lf_ff (hN (by rw[hM,←kR,e,zbi]))) (fun e=>⟨⟨rfl,rfl,rfl,by omega,by omega,by rw[←kR,e,zck]⟩,by simp only[Zm96_9];omega⟩)⟩
  ·rw[drop_end _ (by omega)] at kR
   rw[wrap_i64 (n:=i'+1) (by omega) (by omega)]
   exact⟨⟨rfl,rfl,a0,by omega,by omega,by rw[←hR,hM,←kR];rfl⟩,by simp only[Zm96_4];omega⟩
 ·rw[drop_end _ (by omega)] at hR
  refine Lf_tt ?_
  simp only[firedOk,←hR,decide_eq_true a0];rfl
def Zh96:HH:=⟨_,Zo96⟩
def Zk98:Con UU where
 α:=(List DTask)×(List (DA UU)→Option Value)
 md:=[.ro,.ro]
 of:=oC (oL .eTask) (o1 oF)
 ds:=fun x=>[dL .eTask x.1,dF x.2]
 pre:=fun(l,p)=>[∀j:Nat,j<l.length→p [daTask (List.getD l j zTask)]=some (.bool (boolOf (p [daTask (List.getD l j zTask)])))]
 res:=fun(l,p)=>⟨[dO (anyI l.length (fun j=>boolOf (p [daTask (List.getD l j zTask)])))],true,[]⟩
 law:=lC (lL .eTask) (l1 lF)
def Za98:Zk98.α→Nat→Option (Ann UU):=fun(l,p)=>annL []
def Zu98:=us [Zh173]
theorem Zo98:Holds EE (98,Zk98):=by
 refine holds_of EE_ok func98 Zk98 (by kernel_rfl) Zu98 (us_ok _) Za98 (fun x hp hb=> ?_)
 obtain⟨l,p⟩:=x
 have hl_l:l.length≤9223372036854775807:=bdL (hb _ m0)
 have hp0:∀j:Nat,j<l.length→p [daTask (List.getD l j zTask)]=some (.bool (boolOf (p [daTask (List.getD l j zTask)]))):=hp _ m0
 clear hp hb
 apply @ve _ (let x0:Int:=idxI (l.length) fun(j:Nat)=>boolOf (p [daTask (List.getD l j zTask)]);(∀(j:Nat),j<l.length→p [daTask (List.getD l j zTask)]=some (Value.bool (boolOf (p [daTask (List.getD l j zTask)]))))∧Lb (decide (x0≥(0:Int))) (anyI (l.length) fun(j:Nat)=>boolOf (p [daTask (List.getD l j zTask)]))) (by kernel_rfl)
 dsimp only
 exact⟨hp0,Lf_b (by rw[←idxI_ge])⟩
def Zh98:HH:=⟨_,Zo98⟩
def Zk72:Con UU where
 α:=(List DTask)
 md:=[.ro]
 of:=o1 (oL .eTask)
 ds:=fun x=>[dL .eTask x]
 pre:=fun _=>[]
 res:=fun l=>⟨[dO (liveT l)],true,[]⟩
 law:=l1 (lL .eTask)
def Zi72_2(l:(List DTask)):Int×Unit→Prop:=fun(i,_)=>0≤i∧i≤l.length∧∀j:Nat,(j:Int)<i→isOpen (List.getD l j zTask)=false
def Zm72_2(l:(List DTask)):Int×Unit→Nat:=fun(i,_)=>l.length-i.toNat
def Za72:Zk72.α→Nat→Option (Ann UU):=fun l=>annL [(2,annOf [.slot 3 (3,1024) (.lit (.int .i64))] (fun _=>Zi72_2 l) (Zm72_2 l))]
def Zu72:List (FuncId×Con UU):=[]
theorem Zo72:Holds EE (72,Zk72):=by
 refine holds_of EE_ok func72 Zk72 (by kernel_rfl) Zu72 all_nil Za72 (fun(l:(List DTask)) hp hb=> ?_)
 have hl_l:l.length≤9223372036854775807:=bdL (hb _ m0)
 clear hp hb
 apply @ve _ (Zi72_2 l ((0:Int),())∧∀(y:Int×PUnit),Zi72_2 l y→bif decide (y.1<(l.length:Int)) then(0:Int)≤y.1∧y.1.toNat<l.length∧bif (List.getD l y.1.toNat zTask).State==(1:Int) then Lb true (liveT l) else(0:Int)≤y.1∧y.1.toNat<l.length∧bif (List.getD l y.1.toNat zTask).State==(2:Int) then Lb true (liveT l) else Zi72_2 l (IntKind.wrap IntKind.i64 (y.1+(1:Int)),())∧Zm72_2 l (IntKind.wrap IntKind.i64 (y.1+(1:Int)),())<Zm72_2 l y else Lb false (liveT l)) (by kernel_rfl)
 refine⟨⟨by omega,by omega,by intro j hj;omega⟩,?_⟩
 rintro⟨i,⟨⟩⟩ ⟨h1,h2,hR⟩
 simp only
 refine if_dec (fun hc=> ?_) (fun hc=> ?_)
 ·rw[wrap_i64 (by omega) (by omega)]
  have hY:isOpen (List.getD l i.toNat zTask)=true→liveT l=true:=fun h=>anyI_true (j:=i.toNat) (by omega) h
  refine⟨by omega,by omega,if_num (fun h=>Lf_tt (hY (by simp only[isOpen];grind))) (fun h=>⟨by omega,by omega,if_num (fun g=>Lf_tt (hY (by simp only[isOpen];grind))) (fun g=>⟨⟨by omega,by omega,upto_no (p:=fun j=>isOpen (List.getD l j zTask)) h1 hR (by simp only[isOpen];grind)⟩,by simp only[Zm72_2];omega⟩)⟩)⟩
 ·exact Lf_ff (anyI_false fun j hj=>hR j (by omega))
def Zh72:HH:=⟨_,Zo72⟩
def Zk73:Con UU where
 α:=DInst
 md:=[.ro]
 of:=o1 (oA .eInst)
 ds:=fun x=>[dA .eInst x]
 pre:=fun _=>[]
 res:=fun x=>⟨[dO (undoingX x)],true,[]⟩
 law:=l1 (lA .eInst)
def Za73:Zk73.α→Nat→Option (Ann UU):=fun x=>annL []
def Zu73:List (FuncId×Con UU):=[]
theorem Zo73:Holds EE (73,Zk73):=by
 refine holds_of EE_ok func73 Zk73 (by kernel_rfl) Zu73 all_nil Za73 (fun(x:DInst) hp hb=> ?_)
 have hz0:=bd_eInst (x:=x) (hb _ m0)
 have hl_x_S_Items:=hz0.1
 have hl_x_Fired:=hz0.2.1
 have hl_x_Tasks:=hz0.2.2.1
 have hl_x_Timers:=hz0.2.2.2.1
 have hl_x_Undos:=hz0.2.2.2.2
 clear hp hb
 apply @ve _ (bif x.State==(3:Int) then Lb true (undoingX x) else Lb (x.State==(5:Int)) (undoingX x)) (by kernel_rfl)
 simp only[undoingX]
 refine if_num (fun h=>Lf_b ?_) (fun h=>Lf_b ?_)
 ·rw[decide_eq_true h,Bool.true_or]
 ·rw[decide_eq_false h,zcw]
  rw[zcm];simp
def Zh73:HH:=⟨_,Zo73⟩
def Zk24:Con UU where
 α:=DDef×DInst
 md:=[.ro,.ro]
 of:=oC (oA .eDef) (o1 (oA .eInst))
 ds:=fun x=>[dA .eDef x.1,dA .eInst x.2]
 pre:=fun(d,x)=>[sizeDef d≤4294967295,sizeItemS x.S.Items≤4294967296]
 res:=fun(d,x)=>⟨[dO (instOk d x)],true,[]⟩
 law:=lC (lA .eDef) (l1 (lA .eInst))
def Za24:Zk24.α→Nat→Option (Ann UU):=fun(d,x)=>annL []
def Zu24:=us [Zh64,Zh65,Zh66,Zh67,Zh68,Zh69,Zh70,Zh71,Zh72,Zh73]
theorem Zo24:Holds EE (24,Zk24):=by
 refine holds_of EE_ok func24 Zk24 (by kernel_rfl) Zu24 (us_ok _) Za24 (fun x hp hb=> ?_)
 obtain⟨d,x⟩:=x
 have hz0:=bd_eDef (x:=d) (hb _ m0)
 have hl_d_Name:=hz0.1
 have hl_d_Rules:=hz0.2
 have hz1:=bd_eInst (x:=x) (hb _ m1)
 have hl_x_S_Items:=hz1.1
 have hl_x_Fired:=hz1.2.1
 have hl_x_Tasks:=hz1.2.2.1
 have hl_x_Timers:=hz1.2.2.2.1
 have hl_x_Undos:=hz1.2.2.2.2
 have hp0:sizeDef d≤4294967295:=hp _ m0
 have hp1:sizeItemS x.S.Items≤4294967296:=hp _ m1
 clear hp hb
 apply @ve _ (sizeDef d≤(4294967295:Nat)∧bif !defOk d then Lb false (instOk d x) else bif !storeOk x.S then Lb false (instOk d x) else bif !tasksOk x.Tasks then Lb false (instOk d x) else bif !timersOk x.Timers then Lb false (instOk d x) else bif !undosOk x.Undos then Lb false (instOk d x) else bif !decide ((1:Int)≤x.State∧x.State≤(6:Int)) then Lb false (instOk d x) else bif !decide ((0:Int)≤x.Now∧x.Now≤(1000000000:Int)) then Lb false (instOk d x) else sizeDef d≤(4294967295:Nat)∧sizeItemS x.S.Items≤(4294967296:Nat)∧bif !firedOk d x then Lb false (instOk d x) else bif decide (x.State=(2:Int)∨x.State=(4:Int)∨x.State=(6:Int)) then bif liveT x.Tasks then Lb false (instOk d x) else bif decide ((x.Timers.length:Int)>(0:Int)) then Lb false (instOk d x) else bif !undoingX x then Lb true (instOk d x) else Lb (decide ((x.Undos.length:Int)>(0:Int))) (instOk d x) else bif !undoingX x then Lb true (instOk d x) else Lb (decide ((x.Undos.length:Int)>(0:Int))) (instOk d x)) (by kernel_rfl)
 refine⟨hp0,?_⟩
 have ht:decide ((x.Timers.length:Int)>0)=decide (0<x.Timers.length):=decide_eq_decide.2 (by omega)
 have hu:decide ((x.Undos.length:Int)>0)=decide (0<x.Undos.length):=decide_eq_decide.2 (by omega)
 simp only[instOk,endedX,ht,hu]
 repeat' (first|refine And.intro hp1 ?_|refine And.intro hp0 (And.intro hp1 ?_)|refine if_cond (fun h=> ?_) (fun h=> ?_))
 all_goals (refine Lf_b ?_;grind)
def Zh24:HH:=⟨_,Zo24⟩
def Zk34:Con UU where
 α:=DDef×DInst
 md:=[.ro,.ro]
 of:=oC (oA .eDef) (o1 (oA .eInst))
 ds:=fun x=>[dA .eDef x.1,dA .eInst x.2]
 pre:=fun(d,x)=>[sizeDef d≤4294967295,sizeItemS x.S.Items≤4294967296]
 res:=fun(d,x)=>⟨[dO (instOk d x)],true,[]⟩
 law:=lC (lA .eDef) (l1 (lA .eInst))
def Za34:Zk34.α→Nat→Option (Ann UU):=fun(d,x)=>annL []
def Zu34:=us [Zh89,Zh90,Zh91,Zh92,Zh93,Zh94,Zh95,Zh96,Zh97,Zh98,Zh99]
theorem Zo34:Holds EE (34,Zk34):=by
 refine holds_of EE_ok func34 Zk34 (by kernel_rfl) Zu34 (us_ok _) Za34 (fun x hp hb=> ?_)
 obtain⟨d,x⟩:=x
 have hb_d:BdDV (U:=UU) (.agg [.lit (.string d.Name),.sl .eRule d.Rules]):=hb _ m0
 have hz0:=bd_eDef (x:=d) (hb _ m0)
 have hl_d_Name:=hz0.1
 have hl_d_Rules:=hz0.2
 have hb_x:BdDV (U:=UU) (.agg [.sl .eItem x.S.Items,.lit (.int .i64 x.S.Next),.sl .eMatch x.Fired,.sl .eTask x.Tasks,.sl .eTimer x.Timers,.sl .eUndo x.Undos,.lit (.int .i64 x.State),.lit (.int .i64 x.Now)]):=hb _ m1
 have hz1:=bd_eInst (x:=x) (hb _ m1)
 have hl_x_S_Items:=hz1.1
 have hl_x_Fired:=hz1.2.1
 have hl_x_Tasks:=hz1.2.2.1
 have hl_x_Timers:=hz1.2.2.2.1
 have hl_x_Undos:=hz1.2.2.2.2
 have hp0:sizeDef d≤4294967295:=hp _ m0
 have hp1:sizeItemS x.S.Items≤4294967296:=hp _ m1
 clear hp hb
 apply @ve _ (bif !defOk d then Lb false (instOk d x) else bif !storeOk x.S then Lb false (instOk d x) else bif !tasksOk x.Tasks then Lb false (instOk d x) else bif !timersOk x.Timers then Lb false (instOk d x) else bif !undosOk x.Undos then Lb false (instOk d x) else bif !decide ((1:Int)≤x.State∧x.State≤(6:Int)) then Lb false (instOk d x) else bif !decide ((0:Int)≤x.Now∧x.Now≤(1000000000:Int)) then Lb false (instOk d x) else sizeDef d≤(4294967295:Nat)∧sizeItemS x.S.Items≤(4294967296:Nat)∧bif !firedOk d x then Lb false (instOk d x) else bif x.State==(3:Int) then Lb (decide ((x.Undos.length:Int)>(0:Int))) (instOk d x) else bif x.State==(5:Int) then Lb (decide ((x.Undos.length:Int)>(0:Int))) (instOk d x) else bif !decide (x.State=(2:Int)∨x.State=(4:Int)∨x.State=(6:Int)) then Lb true (instOk d x) else bif (x.Timers.length:Int)==(0:Int) then(∀(j:Nat),j<x.Tasks.length→closP Zk99 [] [daTask (List.getD x.Tasks j zTask)]=some (Value.bool (boolOf (closP Zk99 [] [daTask (List.getD x.Tasks j zTask)]))))∧Lb (!anyI (x.Tasks.length) fun(j:Nat)=>boolOf (closP Zk99 [] [daTask (List.getD x.Tasks j zTask)])) (instOk d x) else Lb false (instOk d x)) (by kernel_rfl)
 have hc:∀t:DTask,closP Zk99 [] [daTask t]=some (.bool (isOpen t)):=fun t=>closP_of (x:=t) rfl rfl rfl rfl (by simp[Zk99])
 have hl:(anyI x.Tasks.length fun j=>boolOf (closP Zk99 [] [daTask (List.getD x.Tasks j zTask)]))=liveT x.Tasks:=anyI_congr fun j hj=>by rw[hc];rfl
 have hcl:∀j:Nat,j<x.Tasks.length→closP Zk99 [] [daTask (List.getD x.Tasks j zTask)]=some (.bool (boolOf (closP Zk99 [] [daTask (List.getD x.Tasks j zTask)]))):=fun j hj=>by rw[hc];rfl
 have ht:((x.Timers.length:Int)==0)= !decide (0<x.Timers.length):=by rw[zcm];simp
 have hu:decide ((x.Undos.length:Int)>0)=decide (0<x.Undos.length):=decide_eq_decide.2 (by omega)
 have h3:(x.State==3)=decide (x.State=3):=by rw[zcm];simp
 have h5:(x.State==5)=decide (x.State=5):=by rw[zcm];simp
 simp only[instOk,endedX,undoingX,ht,hu,h3,h5,hl]
 repeat' (first|refine And.intro hcl ?_|refine And.intro hp0 (And.intro hp1 ?_)|refine And.intro hp1 ?_|refine if_cond (fun h=> ?_) (fun h=> ?_))
 all_goals (refine Lf_b ?_;clear hcl hc hl ht hu h3 h5 hb_d hb_x;grind)
def Zh34:HH:=⟨_,Zo34⟩
theorem valK{v:DVal}(h:valOk v=true):v.S.size≤21:=by
 simp only[valOk] at h
 by_cases h1:v.K=1
 ·simp[h1] at h;rw[h.2];simp[noBytes]
 ·by_cases h2:v.K=2
  ·simp[h2] at h;omega
  ·simp[h1,h2] at h
theorem valsK:∀{l:List DVal},l.all valOk=true→sizeValS l≤22*l.length
 |[],_=>by simp[sizeValS]
 |x::l,h=>by
  simp only[zdr,zaf] at h
  have h1:=valsK h.2
  have h2:=valK h.1
  simp only[sizeValS,zbq,zbt,zdc,sizeVal] at h1⊢
  omega
theorem factK{f:DFact}(h:factOk f=true):f.Fields.length≤5∧sizeFact f≤145:=by
 simp only[factOk,nameOk,zaf,decide_eq_true_eq] at h
 obtain⟨⟨⟨⟨⟨_,h1⟩,_⟩,_⟩,h2⟩,h3⟩:=h
 have:=valsK h3
 simp only[sizeFact];omega
theorem sumK{α:Type}(f:α→Nat)(B:Nat):∀(l:List α),(∀x∈l,f x≤B)→(l.map f).sum≤l.length*B
 |[],_=>by simp
 |x::l,h=>by
  have h1:=sumK f B l (fun y hy=>h y (zaa _ hy))
  have h2:=h x zab
  simp only[zbt,zdc,zbq,zci];omega
theorem allI_mem{α:Type}{l:List α}{z:α}{p:Nat→Bool}{q:α→Prop}(h:allI l.length p=true)(hq:∀i,p i=true→q (List.getD l i z)):∀x∈l,q x:=fun x hx=>by
 obtain⟨i,hi,rfl⟩:=zbk hx
 have:=hq i (allI_all.1 h i hi)
 rwa[zac,zad hi] at this
theorem undoK{u:ByteArray}(h:undoOk u=true):u.size≤12:=by
 simp only[undoOk,nameOk,zcn,zaf,decide_eq_true_eq] at h
 rcases h with rfl|h
 ·simp[noBytes]
 ·exact h.1.1.2
theorem if_neq{a b:Int}{P Q:Prop}(h1:¬a=b→P)(h2:a=b→Q):bif a !=b then P else Q:=if_cond (fun h=>h1 (by simpa using h)) (fun h=>h2 (by simpa using h))
def newTask(f:DFact)(undo:ByteArray)(now:Int):DTask:=⟨f,undo,1,0,now,zVal⟩
def hasTask(l:List DTask)(f:DFact):Bool:=anyI l.length fun k=>decide ((List.getD l k zTask).F=f)
def startL(l:List DTask)(f:DFact)(undo:ByteArray)(now:Int):List DTask×Bool:=
 if hasTask l f=true then(l,true) else if 30≤l.length then(l,false) else(l++[newTask f undo now],true)
def canStart(l:List DTask)(f:DFact)(undo:ByteArray)(now:Int):Bool:=tasksOk l&&factOk f&&undoOk undo&&decide (0≤now∧now≤1000000000)
def startTask(l:List DTask)(f:DFact)(undo:ByteArray)(now:Int):List DTask×Bool:=if canStart l f undo now=true then startL l f undo now else(l,false)
theorem placeOf_ge(l:List DTask)(f:DFact):decide (0≤placeOf l f)=hasTask l f:=idxI_ge
theorem tasksOk_len{l:List DTask}(h:tasksOk l=true):l.length≤30:=by
 simp only[tasksOk,zaf,decide_eq_true_eq] at h;exact h.1
def Zk254:Con UU where
 α:=(List DTask)×DFact×ByteArray×Int
 md:=[.mv,.ro,.ro,.ro]
 of:=oC (oL .eTask) (oC (oA .eFact) (oC oS (o1 oI)))
 ds:=fun x=>[dL .eTask x.1,dA .eFact x.2.1,dS x.2.2.1,dI x.2.2.2]
 pre:=fun(l,f,undo,now)=>[f.Fields.length≤4294967296]
 res:=fun(l,f,undo,now)=>⟨[dL .eTask ((startL l f undo now).1),dO ((startL l f undo now).2)],true,[]⟩
 law:=lC (lL .eTask) (lC (lA .eFact) (lC lS (l1 lI)))
def Zi254_2(l:(List DTask))(f:DFact)(undo:ByteArray)(now:Int):List DTask×Int×(ByteArray×List DVal×Unit)×Unit→Prop:=fun(row,i,fb,_)=>row=l∧fb=(f.Kind,f.Fields,())∧0≤i∧i≤l.length∧∀j:Nat,(j:Int)<i→decide ((List.getD l j zTask).F=f)=false
def Zm254_2(l:(List DTask))(f:DFact)(undo:ByteArray)(now:Int):List DTask×Int×(ByteArray×List DVal×Unit)×Unit→Nat:=fun(row,i,fb,_)=>l.length-i.toNat
def Za254:Zk254.α→Nat→Option (Ann UU):=fun(l,f,undo,now)=>annL [(2,annOf [.slot 0 (0,1024) (.own .eTask true),.slot 10 (10,1024) (.lit (.int .i64)),.box 5 (5,1024) [.lit .str,.shr .eVal]] (fun _=>Zi254_2 l f undo now) (Zm254_2 l f undo now))]
def Zu254:=us [Zh139,Zh132]
theorem Zo254:Holds EE (254,Zk254):=by
 refine holds_of EE_ok func254 Zk254 (by kernel_rfl) Zu254 (us_ok _) Za254 (fun x hp hb=> ?_)
 obtain⟨l,f,undo,now⟩:=x
 have hl_l:l.length≤9223372036854775807:=bdL (hb _ m0)
 have hz1:=bd_eFact (x:=f) (hb _ m1)
 have hl_f_Kind:=hz1.1
 have hl_f_Fields:=hz1.2
 have hl_undo:=bdS (s:=undo) (hb _ m2)
 have hl_now:=bdI (n:=now) (hb _ m3)
 have hp0:f.Fields.length≤4294967296:=hp _ m0
 clear hp hb
 apply @ve _ (Zi254_2 l f undo now (l,(0:Int),(f.Kind,f.Fields,()),())∧∀(y:List DTask×Int×(ByteArray×List DVal×PUnit)×PUnit),let x1:DFact:={Kind:=y.2.2.1.1,Fields:=y.2.2.1.2.1:DFact};let x2:Nat:=y.2.1.toNat;let x3:Int:=(y.1.length:Int);let x0:List DTask:=[{F:=x1,Undo:=undo,State:=(1:Int),Tries:=(0:Int),Due:=now,V:={K:=(0:Int),N:=(0:Int),S:={data:= #[]:ByteArray}:DVal}:DTask}];Zi254_2 l f undo now y→bif decide (y.2.1<x3) then(0:Int)≤y.2.1∧x2<y.1.length∧x2<y.1.length∧x2<y.1.length∧bif decide ((List.getD y.1 x2 zTask).F=x1) then Lf [VL .eTask y.1,VB true] [VL .eTask ((startL l f undo now).1),VB ((startL l f undo now).2)] else Zi254_2 l f undo now (y.1,IntKind.wrap IntKind.i64 (y.2.1+(1:Int)),(y.2.2.1.1,y.2.2.1.2.1,()),())∧Zm254_2 l f undo now (y.1,IntKind.wrap IntKind.i64 (y.2.1+(1:Int)),(y.2.2.1.1,y.2.2.1.2.1,()),())<Zm254_2 l f undo now y else bif decide (x3≥(30:Int)) then Lf [VL .eTask y.1,VB false] [VL .eTask ((startL l f undo now).1),VB ((startL l f undo now).2)] else y.2.2.1.2.1.length≤(4294967296:Nat)∧y.1.length+x0.length≤(4294967296:Nat)∧Lf [VL .eTask (y.1++x0),VB true] [VL .eTask ((startL l f undo now).1),VB ((startL l f undo now).2)]) (by kernel_rfl)
 dsimp only
 refine⟨⟨rfl,rfl,by omega,by omega,by intro j hj;omega⟩,?_⟩
 rintro⟨row,i,fb,⟨⟩⟩ ⟨rfl,rfl,h1,h2,hR⟩
 simp only
 refine if_cond (fun hc=> ?_) (fun hc=> ?_)
 ·have hc:=of_decide_eq_true hc
  rw[wrap_i64 (by omega) (by omega)]
  repeat' (first|refine And.intro (by omega) ?_|refine if_cond (fun h=> ?_) (fun h=> ?_)|fail)
  ·have ha:hasTask row f=true:=anyI_true (j:=i.toNat) (by omega) h
   simp only[startL,if_pos ha];exact Lf_rfl _
  ·exact⟨⟨rfl,rfl,by omega,by omega,upto_no h1 hR h⟩,by simp only[Zm254_2];omega⟩
 ·have hc:=of_decide_eq_false hc
  have ha:¬hasTask row f=true:=by
   rw[zbj];exact anyI_false fun j hj=>hR j (by omega)
  refine if_cond (fun h=> ?_) (fun h=> ?_)
  ·have h:=of_decide_eq_true h
   simp only[startL,if_neg ha,if_pos (show 30≤row.length by omega)];exact Lf_rfl _
  ·have h:=of_decide_eq_false h
   repeat' (first|refine And.intro (by first|omega|(simp;omega)) ?_|fail)
   simp only[startL,if_neg ha,if_neg (show¬30≤row.length by omega)];exact Lf_rfl _
def Zh254:HH:=⟨_,Zo254⟩
def Zk235:Con UU where
 α:=(List DTask)×DFact×ByteArray×Int
 md:=[.ro,.ro,.ro,.ro]
 of:=oC (oL .eTask) (oC (oA .eFact) (oC oS (o1 oI)))
 ds:=fun x=>[dL .eTask x.1,dA .eFact x.2.1,dS x.2.2.1,dI x.2.2.2]
 pre:=fun(l,f,undo,now)=>[sizeTaskS l≤4294967296,f.Fields.length≤4294967296]
 res:=fun(l,f,undo,now)=>⟨[dL .eTask ((startTask l f undo now).1),dO ((startTask l f undo now).2)],true,[]⟩
 law:=lC (lL .eTask) (lC (lA .eFact) (lC lS (l1 lI)))
def Za235:Zk235.α→Nat→Option (Ann UU):=fun(l,f,undo,now)=>annL []
def Zu235:=us [Zh86,Zh91,Zh163,Zh227,Zh95,Zh166,Zh158]
theorem Zo235:Holds EE (235,Zk235):=by
 refine holds_of EE_ok func235 Zk235 (by kernel_rfl) Zu235 (us_ok _) Za235 (fun x hp hb=> ?_)
 obtain⟨l,f,undo,now⟩:=x
 have hl_l:l.length≤9223372036854775807:=bdL (hb _ m0)
 have hz1:=bd_eFact (x:=f) (hb _ m1)
 have hl_f_Kind:=hz1.1
 have hl_f_Fields:=hz1.2
 have hl_undo:=bdS (s:=undo) (hb _ m2)
 have hl_now:=bdI (n:=now) (hb _ m3)
 have hp0:sizeTaskS l≤4294967296:=hp _ m0
 have hp1:f.Fields.length≤4294967296:=hp _ m1
 clear hp hb
 apply @ve _ (let x0:List DTask:=[{F:=f,Undo:=undo,State:=(1:Int),Tries:=(0:Int),Due:=now,V:={K:=(0:Int),N:=(0:Int),S:={data:= #[]:ByteArray}:DVal}:DTask}];sizeTaskS l≤(4294967296:Nat)∧bif !tasksOk l then Lf [VL .eTask l,VB false] [VL .eTask ((startTask l f undo now).1),VB ((startTask l f undo now).2)] else bif !factOk f then Lf [VL .eTask l,VB false] [VL .eTask ((startTask l f undo now).1),VB ((startTask l f undo now).2)] else bif !undoOk undo then Lf [VL .eTask l,VB false] [VL .eTask ((startTask l f undo now).1),VB ((startTask l f undo now).2)] else bif !decide ((0:Int)≤now∧now≤(1000000000:Int)) then Lf [VL .eTask l,VB false] [VL .eTask ((startTask l f undo now).1),VB ((startTask l f undo now).2)] else bif decide (placeOf l f≥(0:Int)) then Lf [VL .eTask l,VB true] [VL .eTask ((startTask l f undo now).1),VB ((startTask l f undo now).2)] else bif (l.length:Int)==(30:Int) then Lf [VL .eTask l,VB false] [VL .eTask ((startTask l f undo now).1),VB ((startTask l f undo now).2)] else f.Fields.length≤(4294967296:Nat)∧l.length+x0.length≤(4294967296:Nat)∧Lf [VL .eTask (l++x0),VB true] [VL .eTask ((startTask l f undo now).1),VB ((startTask l f undo now).2)]) (by kernel_rfl)
 dsimp only
 refine⟨hp0,?_⟩
 have hN:canStart l f undo now=false→Lf [.one (.sl .eTask l),.one (.lit (.bool false))] [.one (.sl .eTask (startTask l f undo now).1),.one (.lit (.bool (startTask l f undo now).2))]:=fun h=>by
  simp only[startTask,h];exact Lf_rfl _
 have hpl:decide (placeOf l f≥0)=hasTask l f:=placeOf_ge l f
 rw[hpl]
 repeat' (first|refine And.intro (by first|omega|(simp;omega)) ?_|refine if_cond (fun h=> ?_) (fun h=> ?_)|fail)
 all_goals first
  |(refine hN ?_;simp only[canStart];grind)
  |(have hy:canStart l f undo now=true:=by simp only[canStart];grind
    have hlen:=tasksOk_len (l:=l) (by simp only[canStart] at hy;grind)
    simp only[startTask,hy,if_true,startL]
    first
     |(rw[if_pos (by assumption)];exact Lf_rfl _)
     |(rw[if_neg (by simp_all),if_pos (by(try simp_all);omega)];exact Lf_rfl _)
     |(rw[if_neg (by simp_all),if_neg (by simp_all;omega)];exact⟨by simp;omega,Lf_rfl _⟩))
def Zh235:HH:=⟨_,Zo235⟩
theorem tasksOk_iff{l:List DTask}:tasksOk l=true↔l.length≤30∧(∀t∈l,taskOk t=true)∧(l.map DTask.F).Nodup:=by
 have hg:∀{i:Nat}(h:i<l.length),List.getD l i zTask=l[i]:=fun{i} h=>by rw[zac,zad h];rfl
 simp only[tasksOk,zaf,decide_eq_true_eq]
 refine and_congr_right fun _=> ?_
 rw[allI_iff]
 constructor
 ·intro h
  refine⟨fun t ht=> ?_,?_⟩
  ·obtain⟨i,hi,rfl⟩:=zbk ht
   have:=h i hi
   simp only[taskAt,zaf] at this
   rw[←hg hi];exact this.1
  ·rw[List.Nodup,zdv]
   intro i j hi hj hij
   simp only[zco] at hi hj
   have:=h j hj
   simp only[taskAt,zaf,zbd] at this
   have:=anyI_not.1 this.2 i hij
   simp only[decide_eq_false_iff_not] at this
   rw[hg hi,hg hj] at this
   simpa using this
 ·rintro⟨h1,h2⟩ j hj
  simp only[taskAt,zaf,zbd]
  refine⟨by rw[hg hj];exact h1 _ (zda hj),anyI_not.2 fun i hij=> ?_⟩
  have hi:i<l.length:=by omega
  rw[List.Nodup,zdv] at h2
  have:=h2 i j (by simpa using hi) (by simpa using hj) hij
  simp only[decide_eq_false_iff_not]
  rw[hg hi,hg hj]
  simpa using this
theorem tasksOk_map{l:List DTask}{f:DTask→DTask}(hF:∀t,(f t).F=t.F)(hf:∀t,taskOk t=true→taskOk (f t)=true)(h:tasksOk l=true):tasksOk (l.map f)=true:=by
 rw[tasksOk_iff] at h⊢
 refine⟨by simpa using h.1,fun t ht=> ?_,?_⟩
 ·obtain⟨t0,h0,rfl⟩:=zaz.1 ht
  exact hf _ (h.2.1 _ h0)
 ·rw[List.map_map]
  have:DTask.F∘f=DTask.F:=funext hF
  rw[this];exact h.2.2
theorem map_modify_same{α β:Type}(g:α→β)(f:α→α)(hg:∀x,g (f x)=g x):∀(l:List α)(k:Nat),(l.modify k f).map g=l.map g
 |[],k=>by simp
 |x::l,0=>by simp[hg]
 |x::l,k+1=>by simp[map_modify_same g f hg l k]
theorem taskOk_iff{t:DTask}:taskOk t=true↔factOk t.F=true∧undoOk t.Undo=true∧(1≤t.State∧t.State≤4)∧(0≤t.Tries∧t.Tries≤4)∧(0≤t.Due∧t.Due≤1000001000)∧(t.V=zVal∨valOk t.V=true)∧((t.State=1→t.Tries=0)∧(t.State=2→t.Tries≠0)):=by
 simp only[taskOk,zaf,zcn,decide_eq_true_eq]
 constructor
 ·rintro⟨⟨⟨⟨⟨⟨h1,h2⟩,h3⟩,h4⟩,h5⟩,h6⟩,h7⟩;exact⟨h1,h2,h3,h4,h5,h6,h7⟩
 ·rintro⟨h1,h2,h3,h4,h5,h6,h7⟩;exact⟨⟨⟨⟨⟨⟨h1,h2⟩,h3⟩,h4⟩,h5⟩,h6⟩,h7⟩
theorem giveUp1_F(t:DTask):(giveUp1 t).F=t.F:=by unfold giveUp1;split<;>rfl
theorem tasksOk_giveUp{l:List DTask}(h:tasksOk l=true):tasksOk (giveUp l)=true:=by
 refine tasksOk_map giveUp1_F (fun t h=> ?_) h
 obtain⟨a1,a2,a3,a4,a5,a6,a7⟩:=taskOk_iff.1 h
 unfold giveUp1;split
 ·exact taskOk_iff.2 ⟨a1,a2,by simp,a4,a5,a6,by simp⟩
 ·exact h
theorem hasTask_mem{l:List DTask}{f:DFact}:hasTask l f=true↔f∈l.map DTask.F:=by
 simp only[hasTask,anyI_iff,decide_eq_true_eq,zaz]
 constructor
 ·rintro⟨j,hj,rfl⟩
  rw[zac,zad hj]
  exact⟨l[j],zda hj,rfl⟩
 ·rintro⟨t,ht,rfl⟩
  obtain⟨i,hi,rfl⟩:=zbk ht
  exact⟨i,hi,by rw[zac,zad hi];rfl⟩
theorem tasksOk_start{l:List DTask}{f:DFact}{u:ByteArray}{now:Int}(h:tasksOk l=true)(hf:factOk f=true)(hu:undoOk u=true)(h0:0≤now)(h1:now≤1000001000):tasksOk (startL l f u now).1=true:=by
 unfold startL;split
 ·exact h
 ·rename_i hn
  split
  ·exact h
  ·rename_i hl
   rw[tasksOk_iff] at h⊢
   refine⟨by simp only[zce,zbq,zbo];omega,fun t ht=> ?_,?_⟩
   ·rcases zao.1 ht with ht|ht
    ·exact h.2.1 t ht
    ·rw[zau.1 ht]
     exact taskOk_iff.2 ⟨hf,hu,by simp[newTask],by simp[newTask],by simp only[newTask];omega,.inl rfl,by simp[newTask]⟩
   ·rw[zef,zav]
    refine⟨h.2.2,by simp,?_⟩
    intro x hx y hy e
    rw[hasTask_mem] at hn
    simp only[zbt,List.map_nil,zau] at hy
    rw[hy] at e;rw[e] at hx;exact hn hx
theorem tasksK{l:List DTask}(h:tasksOk l=true):l.length≤30∧sizeTaskS l≤6000:=by
 obtain⟨h1,h2,_⟩:=tasksOk_iff.1 h
 have:=sumK sizeTask 180 l (fun t ht=>by
  obtain⟨a1,a2,_,_,_,a6,_⟩:=taskOk_iff.1 (h2 t ht)
  have b1:=(factK a1).2
  have b2:=undoK a2
  have b3:sizeVal t.V≤21:=by
   rcases a6 with e|e
   ·rw[e];decide
   ·exact valK e
  simp only[sizeTask];omega)
 simp only[sizeTaskS];omega
theorem undosK{l:List DUndo}(h:undosOk l=true):l.length≤30∧(∀u∈l,factOk u.F=true)∧sizeUndoS l≤20000:=by
 simp only[undosOk,zaf,decide_eq_true_eq] at h
 have hf:∀u∈l,factOk u.F=true:=allI_mem (z:=zUndo) h.2 fun i hi=>by
  simp only[undoAt,zaf] at hi;exact hi.1.2
 have:=sumK sizeUndo 345 l (allI_mem (z:=zUndo) h.2 fun i hi=>by
  simp only[undoAt,zaf,decide_eq_true_eq] at hi
  have:=(factK hi.1.2).2
  simp only[sizeUndo];omega)
 refine⟨h.1,hf,?_⟩
 simp only[sizeUndoS];omega
theorem undoLast_ok{l:List DUndo}(h:undosOk l=true)(hl:l≠[]):factOk (undoLast l)=true:=by
 rw[undoLast,if_neg hl]
 have h0:l.length-1<l.length:=by have:=List.length_pos_iff.2 hl;omega
 rw[zac,zad h0]
 exact(undosK h).2.1 _ (zda h0)
def endI(x:DInst)(st:Int):DInst:=⟨x.S,x.Fired,giveUp x.Tasks,[],x.Undos,st,x.Now⟩
def restF(l:List DTask)(f:DFact):List DTask:=l.filter fun t=> !decide (t.F=f)
def freeF(l:List DTask)(f:DFact):List DTask:=if 30≤(restF l f).length then[] else restF l f
def startU(x:DInst):List DTask:=(startL (freeF x.Tasks (undoLast x.Undos)) (undoLast x.Undos) noBytes x.Now).1
def beginI(x:DInst):DInst:=if x.Undos=[] then endI x (if x.State=5 then 6 else 4) else⟨x.S,x.Fired,startU x,x.Timers,x.Undos,x.State,x.Now⟩
def turnI(x:DInst)(st:Int):DInst:=beginI (endI x st)
def goodX(x:DInst):Prop:=tasksOk x.Tasks=true∧undosOk x.Undos=true∧0≤x.Now∧x.Now≤1000000000
theorem goodX_end{x:DInst}(h:goodX x)(st:Int):goodX (endI x st):=⟨tasksOk_giveUp h.1,h.2⟩
theorem tasksOk_filter{l:List DTask}(p:DTask→Bool)(h:tasksOk l=true):tasksOk (l.filter p)=true:=by
 rw[tasksOk_iff] at h⊢
 refine⟨zde (zdt _ _) h.1,fun t ht=>h.2.1 t (zcg.1 ht).1,?_⟩
 exact(List.filter_sublist.map DTask.F).nodup h.2.2
theorem tasksOk_free{l:List DTask}(h:tasksOk l=true)(f:DFact):tasksOk (freeF l f)=true:=by
 unfold freeF;split
 ·rfl
 ·exact tasksOk_filter _ h
theorem startU_eq{x:DInst}(h:goodX x)(hu:x.Undos≠[]):(startTask (freeF x.Tasks (undoLast x.Undos)) (undoLast x.Undos) noBytes x.Now).1=startU x:=by
 have hc:canStart (freeF x.Tasks (undoLast x.Undos)) (undoLast x.Undos) noBytes x.Now=true:=by
  simp only[canStart,tasksOk_free h.1,undoLast_ok h.2.1 hu,zck,zaf,decide_eq_true_eq]
  exact⟨rfl,h.2.2⟩
 unfold startTask startU;rw[if_pos hc]
theorem tasksOk_startU{x:DInst}(h:goodX x)(hu:x.Undos≠[]):tasksOk (startU x)=true:=
 tasksOk_start (tasksOk_free h.1 _) (undoLast_ok h.2.1 hu) rfl h.2.2.1 (by have:=h.2.2.2;omega)
theorem goodX_begin{x:DInst}(h:goodX x):goodX (beginI x):=by
 unfold beginI;split
 ·exact goodX_end h _
 ·rename_i hu;exact⟨tasksOk_startU h hu,h.2⟩
theorem takeStep{α:Type}{l:List α}{i:Nat}(z:α)(h:i<l.length):l.take (i+1)=l.take i++[List.getD l i z]:=by
 rw[zcz h,zac,zad h];rfl
theorem filterStep{α:Type}(q:α→Bool){l:List α}{i:Nat}(z:α)(h:i<l.length):(l.take (i+1)).filter q=(l.take i).filter q++(if q (List.getD l i z)=true then[List.getD l i z] else[]):=by
 rw[takeStep z h,List.filter_append]
 congr 1
 generalize List.getD l i z=x
 by_cases hq:q x=true<;>simp[hq]
theorem size_items(s:List DItem){i:Int}(h1:0≤i)(h2:i<s.length):(List.getD s i.toNat zItem).F.Fields.length≤sizeItemS s∧s.length≤sizeItemS s:=by
 have hs:=sum_getD_le sizeItem s zItem h1 h2
 simp only[sizeItem,sizeFact,sizeValS] at hs
 simp only[sizeItemS,sizeItem,sizeFact,sizeValS];omega
theorem size_match(l:List DMatch){i:Int}(h1:0≤i)(h2:i<l.length):(List.getD l i.toNat zMatch).Ids.length≤sizeMatchS l∧(List.getD l i.toNat zMatch).Binds.length≤sizeMatchS l∧l.length≤sizeMatchS l:=by
 have hs:=sum_getD_le sizeMatch l zMatch h1 h2
 simp only[sizeMatch,sizeIntS,sizeBindS] at hs
 simp only[sizeMatchS,sizeMatch,sizeIntS,sizeBindS];omega
def Zk214:Con UU where
 α:=(List Int)
 md:=[.ro]
 of:=o1 (oL .int)
 ds:=fun x=>[dL .int x]
 pre:=fun l=>[l.length≤4294967296]
 res:=fun l=>⟨[dL .int l],true,[]⟩
 law:=l1 (lL .int)
def Za214:Zk214.α→Nat→Option (Ann UU):=fun l=>annL []
def Zu214:List (FuncId×Con UU):=[]
theorem Zw214:goalN EE Zu214 f214 Zk214 Za214 [] .int [] true=(Lf [VL .int []] [VL .int []]):=by kernel_rfl
theorem Zx214:goalN EE Zu214 f214 Zk214 Za214 [] .int [] true:=by
 rw[Zw214]
 exact Lf_rfl _
theorem Zo214:Holds EE (214,Zk214):=by
 refine holds_ofN EE_ok func214 Zk214 (by kernel_rfl) rfl .int (fun x=>x) (fun _=>rfl) Zu214 all_nil Za214 (fun(l:(List Int)) hp hb=> ?_)
 have hl_l:l.length≤9223372036854775807:=bdL (hb _ m0)
 have hp0:l.length≤4294967296:=hp _ m0
 clear hp hb
 refine⟨?_,fun h0=> ?_⟩
 rotate_left
 ·subst h0;exact Zx214
 apply @ve _ ((0:Nat)+l.length≤(4294967296:Nat)∧Lf [VL .int ([]++l)] [VL .int l]) (by kernel_rfl)
 exact⟨by simp;omega,Lf_rfl _⟩
def Zh214:HH:=⟨_,Zo214⟩
def Zk215:Con UU where
 α:=(List DBind)
 md:=[.ro]
 of:=o1 (oL .eBind)
 ds:=fun x=>[dL .eBind x]
 pre:=fun l=>[l.length≤4294967296]
 res:=fun l=>⟨[dL .eBind l],true,[]⟩
 law:=l1 (lL .eBind)
def Za215:Zk215.α→Nat→Option (Ann UU):=fun l=>annL []
def Zu215:List (FuncId×Con UU):=[]
theorem Zw215:goalN EE Zu215 f215 Zk215 Za215 [] .eBind [] true=(Lf [VL .eBind []] [VL .eBind []]):=by kernel_rfl
theorem Zx215:goalN EE Zu215 f215 Zk215 Za215 [] .eBind [] true:=by
 rw[Zw215]
 exact Lf_rfl _
theorem Zo215:Holds EE (215,Zk215):=by
 refine holds_ofN EE_ok func215 Zk215 (by kernel_rfl) rfl .eBind (fun x=>x) (fun _=>rfl) Zu215 all_nil Za215 (fun(l:(List DBind)) hp hb=> ?_)
 have hl_l:l.length≤9223372036854775807:=bdL (hb _ m0)
 have hp0:l.length≤4294967296:=hp _ m0
 clear hp hb
 refine⟨?_,fun h0=> ?_⟩
 rotate_left
 ·subst h0;exact Zx215
 apply @ve _ ((0:Nat)+l.length≤(4294967296:Nat)∧Lf [VL .eBind ([]++l)] [VL .eBind l]) (by kernel_rfl)
 exact⟨by simp;omega,Lf_rfl _⟩
def Zh215:HH:=⟨_,Zo215⟩
def Zk159:Con UU where
 α:=DMatch
 md:=[.ro]
 of:=o1 (oA .eMatch)
 ds:=fun x=>[dA .eMatch x]
 pre:=fun m=>[m.Ids.length≤4294967296,m.Binds.length≤4294967296]
 res:=fun m=>⟨[dA .eMatch m],true,[]⟩
 law:=l1 (lA .eMatch)
def Za159:Zk159.α→Nat→Option (Ann UU):=fun m=>annL []
def Zu159:=us [Zh214,Zh215]
theorem Zo159:Holds EE (159,Zk159):=by
 refine holds_of EE_ok func159 Zk159 (by kernel_rfl) Zu159 (us_ok _) Za159 (fun(m:DMatch) hp hb=> ?_)
 have hz0:=bd_eMatch (x:=m) (hb _ m0)
 have hl_m_Ids:=hz0.1
 have hl_m_Binds:=hz0.2
 have hp0:m.Ids.length≤4294967296:=hp _ m0
 have hp1:m.Binds.length≤4294967296:=hp _ m1
 clear hp hb
 apply @ve _ (m.Ids.length≤(4294967296:Nat)∧m.Binds.length≤(4294967296:Nat)∧Lf [DV.agg [CI m.Rule,CL .int m.Ids,CL .eBind m.Binds]] [DV.agg [CI m.Rule,CL .int m.Ids,CL .eBind m.Binds]]) (by kernel_rfl)
 exact⟨hp0,hp1,Lf_rfl _⟩
def Zh159:HH:=⟨_,Zo159⟩
def Zk85:Con UU where
 α:=(List DMatch)
 md:=[.ro]
 of:=o1 (oL .eMatch)
 ds:=fun x=>[dL .eMatch x]
 pre:=fun l=>[sizeMatchS l≤4294967296]
 res:=fun l=>⟨[dL .eMatch l],true,[]⟩
 law:=l1 (lL .eMatch)
def Zi85_3(l:(List DMatch)):List DMatch×Int×Unit→Prop:=fun(out,i,_)=>0≤i∧i≤l.length∧out=l.take i.toNat
def Zm85_3(l:(List DMatch)):List DMatch×Int×Unit→Nat:=fun(out,i,_)=>l.length-i.toNat
def Za85:Zk85.α→Nat→Option (Ann UU):=fun l=>annL [(3,annOf [.slot 3 (3,1024) (.own .eMatch true),.slot 8 (8,1024) (.lit (.int .i64))] (fun _=>Zi85_3 l) (Zm85_3 l))]
def Zu85:=us [Zh159]
theorem Zo85:Holds EE (85,Zk85):=by
 refine holds_of EE_ok func85 Zk85 (by kernel_rfl) Zu85 (us_ok _) Za85 (fun(l:(List DMatch)) hp hb=> ?_)
 have hl_l:l.length≤9223372036854775807:=bdL (hb _ m0)
 have hp0:sizeMatchS l≤4294967296:=hp _ m0
 clear hp hb
 apply @ve _ (Zi85_3 l ([],(0:Int),())∧∀(y:List DMatch×Int×PUnit),let x1:Nat:=y.2.1.toNat;let x0:DMatch:=List.getD l x1 zMatch;Zi85_3 l y→bif decide (y.2.1<(l.length:Int)) then(0:Int)≤y.2.1∧x1<l.length∧x0.Ids.length≤(4294967296:Nat)∧x0.Binds.length≤(4294967296:Nat)∧y.1.length+List.length [x0]≤(4294967296:Nat)∧Zi85_3 l (y.1++[x0],IntKind.wrap IntKind.i64 (y.2.1+(1:Int)),())∧Zm85_3 l (y.1++[x0],IntKind.wrap IntKind.i64 (y.2.1+(1:Int)),())<Zm85_3 l y else Lf [VL .eMatch y.1] [VL .eMatch l]) (by kernel_rfl)
 dsimp only
 refine⟨⟨by omega,by omega,by simp⟩,?_⟩
 rintro⟨out,i,⟨⟩⟩ ⟨h1,h2,rfl⟩
 simp only
 refine if_dec (fun hc=> ?_) (fun hc=> ?_)
 ·obtain⟨s1,s2,s3⟩:=size_match l h1 hc
  have hk:=take_step l zMatch h1 hc
  rw[wrap_i64 (by omega) (by omega)]
  repeat' (first|refine And.intro (by first|omega|(simp only[zbo];omega)) ?_|fail)
  exact⟨by simp only[zaw,zbq,zbo];omega,⟨by omega,by omega,hk⟩,by simp only[Zm85_3];omega⟩
 ·rw[take_all l (by omega)]
  exact Lf_rfl _
def Zh85:HH:=⟨_,Zo85⟩
def Zk60:Con UU where
 α:=(List DMatch)
 md:=[.ro]
 of:=o1 (oL .eMatch)
 ds:=fun x=>[dL .eMatch x]
 pre:=fun l=>[sizeMatchS l≤4294967296]
 res:=fun l=>⟨[dL .eMatch l],true,[]⟩
 law:=l1 (lL .eMatch)
def Zi60_3(l:(List DMatch)):List DMatch×Int×Unit→Prop:=fun(out,i,_)=>0≤i∧i≤l.length∧out=l.take i.toNat
def Zm60_3(l:(List DMatch)):List DMatch×Int×Unit→Nat:=fun(out,i,_)=>l.length-i.toNat
def Za60:Zk60.α→Nat→Option (Ann UU):=fun l=>annL [(3,annOf [.slot 3 (3,1024) (.own .eMatch true),.slot 4 (4,1024) (.lit (.int .i64))] (fun _=>Zi60_3 l) (Zm60_3 l))]
def Zu60:List (FuncId×Con UU):=[]
theorem Zo60:Holds EE (60,Zk60):=by
 refine holds_of EE_ok func60 Zk60 (by kernel_rfl) Zu60 all_nil Za60 (fun(l:(List DMatch)) hp hb=> ?_)
 have hl_l:l.length≤9223372036854775807:=bdL (hb _ m0)
 have hp0:sizeMatchS l≤4294967296:=hp _ m0
 clear hp hb
 apply @ve _ (Zi60_3 l ([],(0:Int),())∧∀(y:List DMatch×Int×PUnit),let x2:Nat:=y.2.1.toNat;let x1:DMatch:=List.getD l x2 zMatch;let x0:List DMatch:=[{Rule:=x1.Rule,Ids:=[]++x1.Ids,Binds:=[]++x1.Binds:DMatch}];Zi60_3 l y→bif decide (y.2.1<(l.length:Int)) then(0:Int)≤y.2.1∧x2<l.length∧(0:Int)≤y.2.1∧x2<l.length∧(0:Nat)+x1.Ids.length≤(4294967296:Nat)∧(0:Int)≤y.2.1∧x2<l.length∧(0:Nat)+x1.Binds.length≤(4294967296:Nat)∧y.1.length+x0.length≤(4294967296:Nat)∧Zi60_3 l (y.1++x0,IntKind.wrap IntKind.i64 (y.2.1+(1:Int)),())∧Zm60_3 l (y.1++x0,IntKind.wrap IntKind.i64 (y.2.1+(1:Int)),())<Zm60_3 l y else Lf [VL .eMatch y.1] [VL .eMatch l]) (by kernel_rfl)
 dsimp only
 refine⟨⟨by omega,by omega,by simp⟩,?_⟩
 rintro⟨out,i,⟨⟩⟩ ⟨h1,h2,rfl⟩
 simp only
 refine if_dec (fun hc=> ?_) (fun hc=> ?_)
 ·obtain⟨s1,s2,s3⟩:=size_match l h1 hc
  have hk:=take_step l zMatch h1 hc
  rw[wrap_i64 (by omega) (by omega)]
  repeat' (first|refine And.intro (by first|omega|(simp only[zbo];omega)) ?_|fail)
  exact⟨by simp only[zaw,zbq,zbo];omega,⟨by omega,by omega,hk⟩,by simp only[Zm60_3];omega⟩
 ·rw[take_all l (by omega)]
  exact Lf_rfl _
def Zh60:HH:=⟨_,Zo60⟩
def Zk84:Con UU where
 α:=DStore
 md:=[.ro]
 of:=o1 (oA .eStore)
 ds:=fun x=>[dA .eStore x]
 pre:=fun s=>[sizeItemS s.Items≤4294967296]
 res:=fun s=>⟨[dA .eStore s],true,[]⟩
 law:=l1 (lA .eStore)
def Zi84_3(s:DStore):Int×(List DItem×Int×Unit)×(List DItem×Int×Unit)×(List DItem×Int×Unit)×Unit→Prop:=fun(i,b,r,g,_)=>b=(s.Items,s.Next,())∧r=([],0,())∧0≤i∧i≤s.Items.length∧g=(s.Items.take i.toNat,s.Next,())
def Zm84_3(s:DStore):Int×(List DItem×Int×Unit)×(List DItem×Int×Unit)×(List DItem×Int×Unit)×Unit→Nat:=fun(i,b,r,g,_)=>s.Items.length-i.toNat
def Za84:Zk84.α→Nat→Option (Ann UU):=fun s=>annL [(3,annOf [.slot 12 (12,1024) (.lit (.int .i64)),.box 1 (1,1024) [.shr .eItem,.lit (.int .i64)],.box 2 (2,1024) [.own .eItem true,.lit (.int .i64)],.box 3 (3,1024) [.own .eItem true,.lit (.int .i64)]] (fun _=>Zi84_3 s) (Zm84_3 s))]
def Zu84:=us [Zh158]
theorem Zo84:Holds EE (84,Zk84):=by
 refine holds_of EE_ok func84 Zk84 (by kernel_rfl) Zu84 (us_ok _) Za84 (fun(s:DStore) hp hb=> ?_)
 have hl_s_Items:=bd_eStore (x:=s) (hb _ m0)
 have hp0:sizeItemS s.Items≤4294967296:=hp _ m0
 clear hp hb
 apply @ve _ (Zi84_3 s ((0:Int),(s.Items,s.Next,()),([],(0:Int),()),([],s.Next,()),())∧∀(y:Int×(List DItem×Int×PUnit)×(List DItem×Int×PUnit)×(List DItem×Int×PUnit)×PUnit),let x0:List DItem:=[List.getD s.Items y.1.toNat zItem];Zi84_3 s y→bif decide (y.1<(s.Items.length:Int)) then(0:Int)≤y.1∧y.1.toNat<s.Items.length∧List.length (List.getD s.Items y.1.toNat zItem).F.Fields≤(4294967296:Nat)∧y.2.2.2.1.1.length+x0.length≤(4294967296:Nat)∧Zi84_3 s (IntKind.wrap IntKind.i64 (y.1+(1:Int)),(y.2.1.1,y.2.1.2.1,()),(y.2.2.1.1,y.2.2.1.2.1,()),(y.2.2.2.1.1++x0,y.2.2.2.1.2.1,()),())∧Zm84_3 s (IntKind.wrap IntKind.i64 (y.1+(1:Int)),(y.2.1.1,y.2.1.2.1,()),(y.2.2.1.1,y.2.2.1.2.1,()),(y.2.2.2.1.1++x0,y.2.2.2.1.2.1,()),())<Zm84_3 s y else Lf [DV.agg [CL .eItem y.2.2.2.1.1,CI y.2.2.2.1.2.1]] [DV.agg [CL .eItem s.Items,CI s.Next]]) (by kernel_rfl)
 dsimp only
 refine⟨⟨rfl,rfl,by omega,by omega,rfl⟩,?_⟩
 rintro⟨i,⟨b1,b2,⟨⟩⟩,⟨r1,r2,⟨⟩⟩,⟨g1,g2,⟨⟩⟩,⟨⟩⟩ ⟨hb,hr,h1,h2,hg⟩
 cases hb
 cases hr
 cases hg
 simp only
 refine if_dec (fun hc=> ?_) (fun hc=> ?_)
 ·obtain⟨s1,s2⟩:=size_items s.Items h1 hc
  have hk:=take_step s.Items zItem h1 hc
  rw[wrap_i64 (by omega) (by omega)]
  repeat' (first|refine And.intro (by omega) ?_|fail)
  exact⟨by simp only[zaw,zbq,zbo];omega,⟨rfl,rfl,by omega,by omega,by rw[←hk]⟩,by simp only[Zm84_3];omega⟩
 ·rw[take_all s.Items (by omega)]
  exact Lf_rfl _
def Zh84:HH:=⟨_,Zo84⟩
def Zk59:Con UU where
 α:=DStore
 md:=[.ro]
 of:=o1 (oA .eStore)
 ds:=fun x=>[dA .eStore x]
 pre:=fun s=>[sizeItemS s.Items≤4294967296]
 res:=fun s=>⟨[dA .eStore s],true,[]⟩
 law:=l1 (lA .eStore)
def Zi59_3(s:DStore):Int×(List DItem×Int×Unit)×(List DItem×Int×Unit)×(List DItem×Int×Unit)×Unit→Prop:=fun(i,b,r,g,_)=>b=(s.Items,s.Next,())∧r=([],0,())∧0≤i∧i≤s.Items.length∧g=(s.Items.take i.toNat,s.Next,())
def Zm59_3(s:DStore):Int×(List DItem×Int×Unit)×(List DItem×Int×Unit)×(List DItem×Int×Unit)×Unit→Nat:=fun(i,b,r,g,_)=>s.Items.length-i.toNat
def Za59:Zk59.α→Nat→Option (Ann UU):=fun s=>annL [(3,annOf [.slot 4 (4,1024) (.lit (.int .i64)),.box 1 (1,1024) [.shr .eItem,.lit (.int .i64)],.box 2 (2,1024) [.own .eItem true,.lit (.int .i64)],.box 3 (3,1024) [.own .eItem true,.lit (.int .i64)]] (fun _=>Zi59_3 s) (Zm59_3 s))]
def Zu59:=us [Zh132]
theorem Zo59:Holds EE (59,Zk59):=by
 refine holds_of EE_ok func59 Zk59 (by kernel_rfl) Zu59 (us_ok _) Za59 (fun(s:DStore) hp hb=> ?_)
 have hl_s_Items:=bd_eStore (x:=s) (hb _ m0)
 have hp0:sizeItemS s.Items≤4294967296:=hp _ m0
 clear hp hb
 apply @ve _ (Zi59_3 s ((0:Int),(s.Items,s.Next,()),([],(0:Int),()),([],s.Next,()),())∧∀(y:Int×(List DItem×Int×PUnit)×(List DItem×Int×PUnit)×(List DItem×Int×PUnit)×PUnit),let x1:DItem:=List.getD y.2.1.1 y.1.toNat zItem;let x3:Nat:=y.2.1.1.length;let x0:List DItem:=[x1];let x2:Int:=(↑x3:Int);Zi59_3 s y→bif decide (y.1<x2) then(0:Int)≤y.1∧y.1.toNat<x3∧(0:Int)≤y.1∧y.1.toNat<x3∧x1.F.Fields.length≤(4294967296:Nat)∧y.2.2.2.1.1.length+x0.length≤(4294967296:Nat)∧Zi59_3 s (IntKind.wrap IntKind.i64 (y.1+(1:Int)),(y.2.1.1,y.2.1.2.1,()),(y.2.2.1.1,y.2.2.1.2.1,()),(y.2.2.2.1.1++x0,y.2.2.2.1.2.1,()),())∧Zm59_3 s (IntKind.wrap IntKind.i64 (y.1+(1:Int)),(y.2.1.1,y.2.1.2.1,()),(y.2.2.1.1,y.2.2.1.2.1,()),(y.2.2.2.1.1++x0,y.2.2.2.1.2.1,()),())<Zm59_3 s y else Lf [DV.agg [CL .eItem y.2.2.2.1.1,CI y.2.2.2.1.2.1]] [DV.agg [CL .eItem s.Items,CI s.Next]]) (by kernel_rfl)
 dsimp only
 refine⟨⟨rfl,rfl,by omega,by omega,rfl⟩,?_⟩
 rintro⟨i,⟨b1,b2,⟨⟩⟩,⟨r1,r2,⟨⟩⟩,⟨g1,g2,⟨⟩⟩,⟨⟩⟩ ⟨hb,hr,h1,h2,hg⟩
 cases hb
 cases hr
 cases hg
 simp only
 refine if_dec (fun hc=> ?_) (fun hc=> ?_)
 ·obtain⟨s1,s2⟩:=size_items s.Items h1 hc
  have hk:=take_step s.Items zItem h1 hc
  rw[wrap_i64 (by omega) (by omega)]
  repeat' (first|refine And.intro (by omega) ?_|fail)
  exact⟨by simp only[zaw,zbq,zbo];omega,⟨rfl,rfl,by omega,by omega,by rw[←hk]⟩,by simp only[Zm59_3];omega⟩
 ·rw[take_all s.Items (by omega)]
  exact Lf_rfl _
def Zh59:HH:=⟨_,Zo59⟩
def Zk33:Con UU where
 α:=DInst
 md:=[.ro]
 of:=o1 (oA .eInst)
 ds:=fun x=>[dA .eInst x]
 pre:=fun x=>[sizeInst x≤4294967296]
 res:=fun x=>⟨[dA .eInst x],true,[]⟩
 law:=l1 (lA .eInst)
def Za33:Zk33.α→Nat→Option (Ann UU):=fun x=>annL []
def Zu33:=us [Zh84,Zh85,Zh86,Zh87,Zh88]
theorem Zo33:Holds EE (33,Zk33):=by
 refine holds_of EE_ok func33 Zk33 (by kernel_rfl) Zu33 (us_ok _) Za33 (fun(x:DInst) hp hb=> ?_)
 have hz0:=bd_eInst (x:=x) (hb _ m0)
 have hl_x_S_Items:=hz0.1
 have hl_x_Fired:=hz0.2.1
 have hl_x_Tasks:=hz0.2.2.1
 have hl_x_Timers:=hz0.2.2.2.1
 have hl_x_Undos:=hz0.2.2.2.2
 have hp0:sizeInst x≤4294967296:=hp _ m0
 clear hp hb
 apply @ve _ (sizeItemS x.S.Items≤(4294967296:Nat)∧sizeMatchS x.Fired≤(4294967296:Nat)∧sizeTaskS x.Tasks≤(4294967296:Nat)∧sizeTimerS x.Timers≤(4294967296:Nat)∧sizeUndoS x.Undos≤(4294967296:Nat)∧Lf [DV.agg (enc_eInst x)] [DV.agg (enc_eInst x)]) (by kernel_rfl)
 simp only[sizeInst,sizeStore] at hp0
 repeat' (first|refine And.intro (by omega) ?_|fail)
 exact Lf_rfl _
def Zh33:HH:=⟨_,Zo33⟩
def Zk23:Con UU where
 α:=DInst
 md:=[.ro]
 of:=o1 (oA .eInst)
 ds:=fun x=>[dA .eInst x]
 pre:=fun x=>[sizeInst x≤4294967296]
 res:=fun x=>⟨[dA .eInst x],true,[]⟩
 law:=l1 (lA .eInst)
def Za23:Zk23.α→Nat→Option (Ann UU):=fun x=>annL []
def Zu23:=us [Zh59,Zh60,Zh61,Zh62,Zh63]
theorem Zo23:Holds EE (23,Zk23):=by
 refine holds_of EE_ok func23 Zk23 (by kernel_rfl) Zu23 (us_ok _) Za23 (fun(x:DInst) hp hb=> ?_)
 have hz0:=bd_eInst (x:=x) (hb _ m0)
 have hl_x_S_Items:=hz0.1
 have hl_x_Fired:=hz0.2.1
 have hl_x_Tasks:=hz0.2.2.1
 have hl_x_Timers:=hz0.2.2.2.1
 have hl_x_Undos:=hz0.2.2.2.2
 have hp0:sizeInst x≤4294967296:=hp _ m0
 clear hp hb
 apply @ve _ (sizeItemS x.S.Items≤(4294967296:Nat)∧sizeMatchS x.Fired≤(4294967296:Nat)∧sizeTaskS x.Tasks≤(4294967296:Nat)∧sizeTimerS x.Timers≤(4294967296:Nat)∧sizeUndoS x.Undos≤(4294967296:Nat)∧Lf [DV.agg (enc_eInst x)] [DV.agg (enc_eInst x)]) (by kernel_rfl)
 simp only[sizeInst,sizeStore] at hp0
 repeat' (first|refine And.intro (by omega) ?_|fail)
 exact Lf_rfl _
def Zh23:HH:=⟨_,Zo23⟩
theorem outI{a b:DInst}(h:a=b):asD [DV.box [.sl .eItem a.S.Items,.lit (.int .i64 a.S.Next),.sl .eMatch a.Fired,.sl .eTask a.Tasks,.sl .eTimer a.Timers,.sl .eUndo a.Undos,.lit (.int .i64 a.State),.lit (.int .i64 a.Now)]]=asD [DV.box [.sl .eItem b.S.Items,.lit (.int .i64 b.S.Next),.sl .eMatch b.Fired,.sl .eTask b.Tasks,.sl .eTimer b.Timers,.sl .eUndo b.Undos,.lit (.int .i64 b.State),.lit (.int .i64 b.Now)]]:=by rw[h]
theorem LfTk{a a':List DTask}(h:a=a'):Lf [.one (.sl .eTask a)] [.one (.sl .eTask a')]:=by subst h;exact Lf_rfl _
def keepQ(p:List (DA UU)→Option Value)(t:DTask):Bool:= !boolOf (p [daTask t])
def delI(l:List DTask)(q:DTask→Bool)(xs:List DTask)(dd:Nat→Bool)(i j:Int):Prop:=0≤i∧i<j∧j≤l.length∧xs.length=l.length∧xs.take i.toNat=(l.take j.toNat).filter q∧(∀k,j.toNat≤k→k<l.length→List.getD xs k zTask=List.getD l k zTask)∧(∀k,k<i.toNat→dd k=false)∧(∀k,j.toNat≤k→dd k=false)
theorem filter_all{α:Type}(q:α→Bool)(l:List α)(z:α)(n:Nat)(h:∀k,k<n→k<l.length→q (List.getD l k z)=true):(l.take n).filter q=l.take n:=by
 rw[List.filter_eq_self]
 intro a ha
 obtain⟨j,hj,rfl⟩:=List.mem_take_iff_getElem.1 ha
 have:=h j (by omega) (by omega)
 rwa[zac,zad (by omega)] at this
theorem del_init{l:List DTask}{p:List (DA UU)→Option Value}(h:¬(idxI l.length fun j=>boolOf (p [daTask (List.getD l j zTask)]))= -1):delI l (keepQ p) l (fun _=>false) (idxI l.length fun j=>boolOf (p [daTask (List.getD l j zTask)])) ((idxI l.length fun j=>boolOf (p [daTask (List.getD l j zTask)]))+1):=by
 rcases idxI_cases l.length (fun j=>boolOf (p [daTask (List.getD l j zTask)])) with⟨h1,_⟩|⟨i,h2,h1,h3,h4⟩
 ·exact absurd h1 h
 ·rw[h1]
  have e:((i:Int)+1).toNat=i+1:=by omega
  refine⟨by omega,by omega,by omega,rfl,?_,fun _ _ _=>rfl,fun _ _=>rfl,fun _ _=>rfl⟩
  rw[e,zeu,filterStep _ zTask h2]
  have hk:keepQ p (List.getD l i zTask)=false:=by simp only[keepQ];rw[h3];rfl
  rw[hk,filter_all (keepQ p) l zTask i (fun k hk _=>by simp only[keepQ];rw[h4 k hk];rfl)];simp
theorem del_none{l:List DTask}{p:List (DA UU)→Option Value}(h:(idxI l.length fun j=>boolOf (p [daTask (List.getD l j zTask)]))= -1):l.filter (keepQ p)=l:=by
 rcases idxI_cases l.length (fun j=>boolOf (p [daTask (List.getD l j zTask)])) with⟨_,h1⟩|⟨i,_,h1,_⟩
 ·have:=filter_all (keepQ p) l zTask l.length (fun k hk _=>by simp only[keepQ];rw[h1 k hk];rfl)
  rwa[List.take_length] at this
 ·omega
theorem del_keep{l:List DTask}{q:DTask→Bool}{xs:List DTask}{dd:Nat→Bool}{i j:Int}(h:delI l q xs dd i j)(hj:j<l.length)(hq:q (List.getD l j.toNat zTask)=true):delI l q (xs.set i.toNat (List.getD l j.toNat zTask)) (fun k=> !Nat.beq k i.toNat&&(Nat.beq k j.toNat||dd k)) (i+1) (j+1):=by
 obtain⟨g1,g2,g3,g4,g5,g6,g7,g8⟩:=h
 have ei:(i+1).toNat=i.toNat+1:=by omega
 have ej:(j+1).toNat=j.toNat+1:=by omega
 refine⟨by omega,by omega,by omega,by rw[zcu];exact g4,?_,fun k h1 h2=> ?_,fun k hk=> ?_,fun k hk=> ?_⟩
 ·rw[ei,ej,filterStep _ zTask (by omega),←g5,hq,if_pos rfl,takeStep zTask (by rw[zcu];omega)]
  congr 1
  ·rw[List.take_set_of_le (by omega)]
  ·rw[zac,zdp (by omega)];rfl
 ·rw[zac,zek (by omega),←zac]
  exact g6 k (by omega) h2
 ·show(!Nat.beq k i.toNat&&(Nat.beq k j.toNat||dd k))=false
  by_cases hki:k=i.toNat
  ·rw[hki];simp
  ·rw[g7 k (by omega),zeh,show Nat.beq k j.toNat=false by rw[←zbj,zdn];omega,zbs]
 ·show(!Nat.beq k i.toNat&&(Nat.beq k j.toNat||dd k))=false
  rw[g8 k (by omega),zeh,show Nat.beq k j.toNat=false by rw[←zbj,zdn];omega,zbs]
theorem del_skip{l:List DTask}{q:DTask→Bool}{xs:List DTask}{dd:Nat→Bool}{i j:Int}(h:delI l q xs dd i j)(hj:j<l.length)(hq:q (List.getD l j.toNat zTask)=false):delI l q xs (fun k=>Nat.beq k j.toNat||dd k) i (j+1):=by
 obtain⟨g1,g2,g3,g4,g5,g6,g7,g8⟩:=h
 have ej:(j+1).toNat=j.toNat+1:=by omega
 refine⟨by omega,by omega,by omega,g4,?_,fun k h1 h2=>g6 k (by omega) h2,fun k hk=> ?_,fun k hk=> ?_⟩
 ·rw[ej,filterStep _ zTask (by omega),←g5,hq];simp
 ·show(Nat.beq k j.toNat||dd k)=false
  rw[g7 k hk,zeh,show Nat.beq k j.toNat=false by rw[←zbj,zdn];omega]
 ·show(Nat.beq k j.toNat||dd k)=false
  rw[g8 k (by omega),zeh,show Nat.beq k j.toNat=false by rw[←zbj,zdn];omega]
theorem good_inst{d:DDef}{x:DInst}(h:instOk d x=true):goodX x:=by
 simp only[instOk,zaf,decide_eq_true_eq] at h
 exact⟨h.1.1.1.1.1.1.1.2,h.1.1.1.1.1.2,h.1.1.1.2⟩
def Zk233:Con UU where
 α:=(List DTask)×(List (DA UU)→Option Value)
 md:=[.mv,.ro]
 of:=oC (oL .eTask) (o1 oF)
 ds:=fun x=>[dL .eTask x.1,dF x.2]
 pre:=fun(l,p)=>[∀j:Nat,j<l.length→p [daTask (List.getD l j zTask)]=some (.bool (boolOf (p [daTask (List.getD l j zTask)])))]
 res:=fun(l,p)=>⟨[dL .eTask (l.filter (keepQ p))],true,[]⟩
 law:=lC (lL .eTask) (l1 lF)
def Zi233_5(l:(List DTask))(p:(List (DA UU)→Option Value)):(List DTask×(Nat→Bool))×Int×Int×Unit→Prop:=fun((xs,dd),i,j,_)=>delI l (keepQ p) xs dd i j
def Zm233_5(l:(List DTask))(p:(List (DA UU)→Option Value)):(List DTask×(Nat→Bool))×Int×Int×Unit→Nat:=fun((xs,dd),i,j,_)=>l.length-j.toNat
def Za233:Zk233.α→Nat→Option (Ann UU):=fun(l,p)=>annL [(5,annOf [.slot 0 (0,1024) (.part .eTask),.slot 5 (5,1024) (.lit (.int .i64)),.slot 6 (6,1024) (.lit (.int .i64))] (fun _=>Zi233_5 l p) (Zm233_5 l p))]
def Zu233:=us [Zh173]
theorem Zo233:Holds EE (233,Zk233):=by
 refine holds_of EE_ok func233 Zk233 (by kernel_rfl) Zu233 (us_ok _) Za233 (fun x hp hb=> ?_)
 obtain⟨l,p⟩:=x
 have hl_l:l.length≤9223372036854775807:=bdL (hb _ m0)
 have hp0:∀j:Nat,j<l.length→p [daTask (List.getD l j zTask)]=some (.bool (boolOf (p [daTask (List.getD l j zTask)]))):=hp _ m0
 clear hp hb
 apply @ve _ (let x0:Int:=idxI (l.length) fun(j:Nat)=>boolOf (p [daTask (List.getD l j zTask)]);(∀(j:Nat),j<l.length→p [daTask (List.getD l j zTask)]=some (Value.bool (boolOf (p [daTask (List.getD l j zTask)]))))∧bif x0==(-1:Int) then Lf [VL .eTask l] [VL .eTask (List.filter (keepQ p) l)] else Zi233_5 l p ((l,fun(x:Nat)=>false),x0,IntKind.wrap IntKind.i64 (x0+(1:Int)),())∧∀(y:(List DTask×(Nat→Bool))×Int×Int×PUnit),let x4:Nat:=y.2.2.1.toNat;let x5:Nat:=y.fst.1.length;let x6:Int:=Option.getD (some y.2.1) (0:Int);let x9:Nat:=y.2.1.toNat;let x2:DTask:=List.getD y.fst.1 x4 zTask;let x3:Int:=(↑x5:Int);let x8:Int:=Option.getD (some y.2.1) x3;let x1:Bool:=boolOf (p [{agg:=true,cs:=[CS x2.F.Kind,CL .eVal x2.F.Fields,CS x2.Undo,CI x2.State,CI x2.Tries,CI x2.Due,CI x2.V.K,CI x2.V.N,CS x2.V.S]:DA UU}]);let x7:Nat:=x8.toNat;Zi233_5 l p y→bif decide (y.2.2.1<x3) then(0:Int)≤y.2.2.1∧x4<x5∧x4<x5∧y.fst.2 x4=false∧p [{agg:=true,cs:=[CS x2.F.Kind,CL .eVal x2.F.Fields,CS x2.Undo,CI x2.State,CI x2.Tries,CI x2.Due,CI x2.V.K,CI x2.V.N,CS x2.V.S]:DA UU}]=some (Value.bool x1)∧bif !x1 then(0:Int)≤y.2.1∧x9<x5∧x9<x5∧Zi233_5 l p ((List.set y.fst.1 x9 x2,fun(j:Nat)=> !Nat.beq j x9&&(Nat.beq j x4||y.fst.2 j)),IntKind.wrap IntKind.i64 (y.2.1+(1:Int)),IntKind.wrap IntKind.i64 (y.2.2.1+(1:Int)),())∧Zm233_5 l p ((List.set y.fst.1 x9 x2,fun(j:Nat)=> !Nat.beq j x9&&(Nat.beq j x4||y.fst.2 j)),IntKind.wrap IntKind.i64 (y.2.1+(1:Int)),IntKind.wrap IntKind.i64 (y.2.2.1+(1:Int)),())<Zm233_5 l p y else Zi233_5 l p ((y.fst.1,fun(j:Nat)=>Nat.beq j x4||y.fst.2 j),y.2.1,IntKind.wrap IntKind.i64 (y.2.2.1+(1:Int)),())∧Zm233_5 l p ((y.fst.1,fun(j:Nat)=>Nat.beq j x4||y.fst.2 j),y.2.1,IntKind.wrap IntKind.i64 (y.2.2.1+(1:Int)),())<Zm233_5 l p y else(0:Int)≤x6∧x6≤Option.getD none x3∧Option.getD none x3≤x3∧x6.toNat≤Int.toNat (Option.getD none x3)∧Int.toNat (Option.getD none x3)=x5∧(0:Int)≤Option.getD none (0:Int)∧Option.getD none (0:Int)≤x8∧x8≤x3∧Nat.le x7 x5∧(∀(i:Nat),i<x7→(y.fst.2 i||Nat.ble x6.toNat i)=false)∧Lf [VL .eTask (List.take x7 y.fst.1)] [VL .eTask (List.filter (keepQ p) l)]) (by kernel_rfl)
 dsimp only
 refine⟨hp0,if_num (fun h=> ?_) (fun h=> ?_)⟩
 ·exact LfTk (del_none h).symm
 have hI:=del_init h
 have hI2:=hI
 obtain⟨h1,_,h2,_⟩:=hI2
 rw[wrap_i64 (by omega) (by omega)]
 refine⟨hI,?_⟩
 clear hI h1 h2 h
 rintro⟨⟨xs,dd⟩,i,j,⟨⟩⟩ hI
 have hI:delI l (keepQ p) xs dd i j:=hI
 have hI2:=hI
 obtain⟨g1,g2,g3,g4,g5,g6,g7,g8⟩:=hI2
 simp only[zcj,zdf]
 refine if_dec (fun hc=> ?_) (fun hc=> ?_)
 ·have ej:List.getD xs j.toNat zTask=List.getD l j.toNat zTask:=g6 _ (zca _) (by omega)
  rw[ej,wrap_i64 (n:=i+1) (by omega) (by omega),wrap_i64 (n:=j+1) (by omega) (by omega)]
  refine⟨by omega,by omega,by omega,g8 _ (zca _),hp0 j.toNat (by omega),if_not (fun g=> ?_) (fun g=> ?_)⟩
  ·have hq:keepQ p (List.getD l j.toNat zTask)=true:=by
    show(!boolOf (p [daTask (List.getD l j.toNat zTask)]))=true
    rw[show boolOf (p [daTask (List.getD l j.toNat zTask)])=false from g];rfl
   exact⟨g1,by omega,by omega,del_keep hI (by omega) hq,by simp only[Zm233_5];omega⟩
  ·have hq:keepQ p (List.getD l j.toNat zTask)=false:=by
    show(!boolOf (p [daTask (List.getD l j.toNat zTask)]))=false
    rw[show boolOf (p [daTask (List.getD l j.toNat zTask)])=true from g];rfl
   exact⟨del_skip hI (by omega) hq,by simp only[Zm233_5];omega⟩
 ·have e:l.take j.toNat=l:=zcy (by omega)
  rw[e] at g5
  refine⟨by omega,by omega,by omega,by omega,by omega,by omega,by omega,by omega,(show i.toNat≤xs.length by omega),fun k hk=> ?_,LfTk g5⟩
  rw[g7 k hk,zcw,←zbj,zeq];omega
def Zh233:HH:=⟨_,Zo233⟩
def Zk232:Con UU where
 α:=DInst×Int
 md:=[.box true,.ro]
 of:=oC (oX .eInst) (o1 oI)
 ds:=fun x=>[dX .eInst x.1,dI x.2]
 pre:=fun(x,state)=>[tasksOk x.Tasks=true]
 res:=fun(x,state)=>⟨[],true,[dX .eInst (endI x state)]⟩
 law:=lC (lX .eInst) (l1 lI)
def Za232:Zk232.α→Nat→Option (Ann UU):=fun(x,state)=>annL []
def Zu232:=us [Zh266]
theorem Zo232:Holds EE (232,Zk232):=by
 refine holds_of EE_ok func232 Zk232 (by kernel_rfl) Zu232 (us_ok _) Za232 (fun x hp hb=> ?_)
 obtain⟨x,state⟩:=x
 have hz0:=bdX_eInst (x:=x) (hb _ m0)
 have hl_x_S_Items:=hz0.1
 have hl_x_Fired:=hz0.2.1
 have hl_x_Tasks:=hz0.2.2.1
 have hl_x_Timers:=hz0.2.2.2.1
 have hl_x_Undos:=hz0.2.2.2.2
 have hl_state:=bdI (n:=state) (hb _ m1)
 have hp0:tasksOk x.Tasks=true:=hp _ m0
 clear hp hb
 apply @ve _ (sizeTaskS x.Tasks≤(4294967296:Nat)∧(0:Nat)=(0:Nat)∧asD []=asD []∧asD [DV.box [CL .eItem x.S.Items,CI x.S.Next,CL .eMatch x.Fired,CL .eTask (giveUp x.Tasks),CL .eTimer [],CL .eUndo x.Undos,CI state,CI x.Now]]=asD [DV.box (enc_eInst (endI x state))]) (by kernel_rfl)
 have:=(tasksK hp0).2
 exact⟨by omega,rfl,rfl,rfl⟩
def Zh232:HH:=⟨_,Zo232⟩
def Zk234:Con UU where
 α:=DTask×DFact
 md:=[.ro,.ro]
 of:=oC (oA .eTask) (o1 (oP .eFact))
 ds:=fun x=>[dA .eTask x.1,dP .eFact x.2]
 pre:=fun _=>[]
 res:=fun(t,f)=>⟨[dO (decide (t.F=f))],true,[]⟩
 law:=lC (lA .eTask) (l1 (lP .eFact))
def Za234:Zk234.α→Nat→Option (Ann UU):=fun(t,f)=>annL []
def Zu234:=us [Zh164]
theorem Zo234:Holds EE (234,Zk234):=by
 refine holds_of EE_ok func234 Zk234 (by kernel_rfl) Zu234 (us_ok _) Za234 (fun x hp hb=> ?_)
 obtain⟨t,f⟩:=x
 have hz0:=bd_eTask (x:=t) (hb _ m0)
 have hl_t_F_Kind:=hz0.1
 have hl_t_F_Fields:=hz0.2.1
 have hl_t_Undo:=hz0.2.2.1
 have hl_t_V_S:=hz0.2.2.2
 have hz1:=bdP_eFact (x:=f) (hb _ m1)
 have hl_f_Kind:=hz1.1
 have hl_f_Fields:=hz1.2
 clear hp hb
 apply @ve _ (Lb (decide (t.F=f)) (decide (t.F=f))) (by kernel_rfl)
 exact Lf_rfl _
def Zh234:HH:=⟨_,Zo234⟩
def Zk176:Con UU where
 α:=DInst
 md:=[.box true]
 of:=o1 (oX .eInst)
 ds:=fun x=>[dX .eInst x]
 pre:=fun x=>[goodX x,x.State=3∨x.State=5]
 res:=fun x=>⟨[],true,[dX .eInst (beginI x)]⟩
 law:=l1 (lX .eInst)
def Za176:Zk176.α→Nat→Option (Ann UU):=fun x=>annL []
def Zu176:=us [Zh231,Zh232,Zh233,Zh234,Zh235]
theorem Zo176:Holds EE (176,Zk176):=by
 refine holds_of EE_ok func176 Zk176 (by kernel_rfl) Zu176 (us_ok _) Za176 (fun(x:DInst) hp hb=> ?_)
 have hz0:=bdX_eInst (x:=x) (hb _ m0)
 have hl_x_S_Items:=hz0.1
 have hl_x_Fired:=hz0.2.1
 have hl_x_Tasks:=hz0.2.2.1
 have hl_x_Timers:=hz0.2.2.2.1
 have hl_x_Undos:=hz0.2.2.2.2
 have hp0:goodX x:=hp _ m0
 have hp1:x.State=3∨x.State=5:=hp _ m1
 clear hp hb
 apply @ve _ (let x0:List DTask:=List.filter (keepQ (closP Zk234 [DV.ptr [CS ((undoLast x.Undos).Kind),CL .eVal (undoLast x.Undos).Fields]])) x.Tasks;sizeUndoS x.Undos≤(4294967296:Nat)∧bif !decide ¬x.Undos=[] then bif x.State==(5:Int) then tasksOk x.Tasks=true∧(0:Nat)=(0:Nat)∧asD []=asD []∧asD [DV.box (enc_eInst (endI x (6:Int)))]=asD [DV.box (enc_eInst (beginI x))] else tasksOk x.Tasks=true∧(0:Nat)=(0:Nat)∧asD []=asD []∧asD [DV.box (enc_eInst (endI x (4:Int)))]=asD [DV.box (enc_eInst (beginI x))] else(∀(j:Nat),j<x.Tasks.length→closP Zk234 [DV.ptr [CS ((undoLast x.Undos).Kind),CL .eVal (undoLast x.Undos).Fields]] [daTask (List.getD x.Tasks j zTask)]=some (Value.bool (boolOf (closP Zk234 [DV.ptr [CS ((undoLast x.Undos).Kind),CL .eVal (undoLast x.Undos).Fields]] [daTask (List.getD x.Tasks j zTask)]))))∧bif decide ((x0.length:Int)≥(30:Int)) then sizeTaskS []≤(4294967296:Nat)∧List.length (undoLast x.Undos).Fields≤(4294967296:Nat)∧(0:Nat)=(0:Nat)∧asD []=asD []∧asD [DV.box [CL .eItem x.S.Items,CI x.S.Next,CL .eMatch x.Fired,CL .eTask (startTask [] {Kind:=(undoLast x.Undos).Kind,Fields:=(undoLast x.Undos).Fields:DFact} {data:= #[]:ByteArray} x.Now).1,CL .eTimer x.Timers,CL .eUndo x.Undos,CI x.State,CI x.Now]]=asD [DV.box (enc_eInst (beginI x))] else sizeTaskS x0≤(4294967296:Nat)∧List.length (undoLast x.Undos).Fields≤(4294967296:Nat)∧(0:Nat)=(0:Nat)∧asD []=asD []∧asD [DV.box [CL .eItem x.S.Items,CI x.S.Next,CL .eMatch x.Fired,CL .eTask (startTask {τ:=Cd.eTask,xs:=x0:Arr UU}.xs {Kind:=(undoLast x.Undos).Kind,Fields:=(undoLast x.Undos).Fields:DFact} {data:= #[]:ByteArray} x.Now).1,CL .eTimer x.Timers,CL .eUndo x.Undos,CI x.State,CI x.Now]]=asD [DV.box (enc_eInst (beginI x))]) (by kernel_rfl)
 dsimp only
 have hgx:=hp0
 obtain⟨q1,q2,q3,q4⟩:=hp0
 have k3:=(undosK q2).2.2
 have hc:∀t:DTask,closP Zk234 [.ptr [.lit (.string (undoLast x.Undos).Kind),.sl .eVal (undoLast x.Undos).Fields]] [daTask t]=some (.bool (decide (t.F=undoLast x.Undos))):=fun t=>closP_of (x:=(t,undoLast x.Undos)) rfl rfl rfl rfl (by simp[Zk234])
 have hx:List.filter (keepQ (closP Zk234 [.ptr [.lit (.string (undoLast x.Undos).Kind),.sl .eVal (undoLast x.Undos).Fields]])) x.Tasks=restF x.Tasks (undoLast x.Undos):=by
  unfold restF;congr 1;funext t;unfold keepQ;rw[hc];rfl
 simp only[hx]
 have hs:=(tasksK (tasksOk_filter (fun t=> !decide (t.F=undoLast x.Undos)) q1)).2
 have hs:sizeTaskS (restF x.Tasks (undoLast x.Undos))≤6000:=hs
 refine⟨by omega,if_not (fun h=> ?_) (fun h=> ?_)⟩
 ·have hu:x.Undos=[]:=by simpa using h
  refine if_num (fun g=>⟨q1,by trivial,by trivial,outI ?_⟩) (fun g=>⟨q1,by trivial,by trivial,outI ?_⟩)
  ·rw[beginI,if_pos hu,if_pos g]
  ·rw[beginI,if_pos hu,if_neg g]
 ·have hu:¬x.Undos=[]:=by simpa using h
  have hf:=(factK (undoLast_ok q2 hu)).1
  have e:=startU_eq hgx hu
  have eb:beginI x=⟨x.S,x.Fired,startU x,x.Timers,x.Undos,x.State,x.Now⟩:=if_neg hu
  refine⟨fun j hj=>by rw[hc];rfl,if_dec (fun g=> ?_) (fun g=> ?_)⟩
  ·rw[show freeF x.Tasks (undoLast x.Undos)=[] from if_pos (by omega)] at e
   exact⟨by simp[sizeTaskS],by omega,by trivial,by trivial,outI (a:=⟨x.S,x.Fired,(startTask [] (undoLast x.Undos) noBytes x.Now).1,x.Timers,x.Undos,x.State,x.Now⟩) (by rw[e,eb])⟩
  ·rw[show freeF x.Tasks (undoLast x.Undos)=restF x.Tasks (undoLast x.Undos) from if_neg (by omega)] at e
   exact⟨by omega,by omega,by trivial,by trivial,outI (a:=⟨x.S,x.Fired,(startTask (restF x.Tasks (undoLast x.Undos)) (undoLast x.Undos) noBytes x.Now).1,x.Timers,x.Undos,x.State,x.Now⟩) (by rw[e,eb])⟩
def Zh176:HH:=⟨_,Zo176⟩
def Zk180:Con UU where
 α:=DInst×Int
 md:=[.box true,.ro]
 of:=oC (oX .eInst) (o1 oI)
 ds:=fun x=>[dX .eInst x.1,dI x.2]
 pre:=fun(x,state)=>[goodX x,state=3∨state=5]
 res:=fun(x,state)=>⟨[],true,[dX .eInst (turnI x state)]⟩
 law:=lC (lX .eInst) (l1 lI)
def Za180:Zk180.α→Nat→Option (Ann UU):=fun(x,state)=>annL []
def Zu180:=us [Zh232,Zh176]
theorem Zo180:Holds EE (180,Zk180):=by
 refine holds_of EE_ok func180 Zk180 (by kernel_rfl) Zu180 (us_ok _) Za180 (fun x hp hb=> ?_)
 obtain⟨x,state⟩:=x
 have hz0:=bdX_eInst (x:=x) (hb _ m0)
 have hl_x_S_Items:=hz0.1
 have hl_x_Fired:=hz0.2.1
 have hl_x_Tasks:=hz0.2.2.1
 have hl_x_Timers:=hz0.2.2.2.1
 have hl_x_Undos:=hz0.2.2.2.2
 have hl_state:=bdI (n:=state) (hb _ m1)
 have hp0:goodX x:=hp _ m0
 have hp1:state=3∨state=5:=hp _ m1
 clear hp hb
 apply @ve _ (tasksOk x.Tasks=true∧goodX (endI x state)∧((endI x state).State=(3:Int)∨(endI x state).State=(5:Int))∧(0:Nat)=(0:Nat)∧asD []=asD []∧asD [DV.box (enc_eInst (beginI (endI x state)))]=asD [DV.box (enc_eInst (turnI x state))]) (by kernel_rfl)
 exact⟨hp0.1,goodX_end hp0 _,hp1,rfl,rfl,rfl⟩
def Zh180:HH:=⟨_,Zo180⟩
def Zk104:Con UU where
 α:=DInst
 md:=[.box true]
 of:=o1 (oX .eInst)
 ds:=fun x=>[dX .eInst x]
 pre:=fun x=>[goodX x]
 res:=fun x=>⟨[],true,[dX .eInst (turnI x 3)]⟩
 law:=l1 (lX .eInst)
def Za104:Zk104.α→Nat→Option (Ann UU):=fun x=>annL []
def Zu104:=us [Zh180]
theorem Zo104:Holds EE (104,Zk104):=by
 refine holds_of EE_ok func104 Zk104 (by kernel_rfl) Zu104 (us_ok _) Za104 (fun(x:DInst) hp hb=> ?_)
 have hz0:=bdX_eInst (x:=x) (hb _ m0)
 have hl_x_S_Items:=hz0.1
 have hl_x_Fired:=hz0.2.1
 have hl_x_Tasks:=hz0.2.2.1
 have hl_x_Timers:=hz0.2.2.2.1
 have hl_x_Undos:=hz0.2.2.2.2
 have hp0:goodX x:=hp _ m0
 clear hp hb
 apply @ve _ (goodX x∧((3:Int)=(3:Int)∨(3:Int)=(5:Int))∧(0:Nat)=(0:Nat)∧asD []=asD []∧asD [DV.box (enc_eInst (turnI x (3:Int)))]=asD [DV.box (enc_eInst (turnI x (3:Int)))]) (by kernel_rfl)
 exact⟨hp0,.inl rfl,rfl,rfl,rfl⟩
def Zh104:HH:=⟨_,Zo104⟩
def Zk253:Con UU where
 α:=DInst×Int
 md:=[.box true,.ro]
 of:=oC (oX .eInst) (o1 oI)
 ds:=fun x=>[dX .eInst x.1,dI x.2]
 pre:=fun(x,state)=>[tasksOk x.Tasks=true]
 res:=fun(x,state)=>⟨[],true,[dX .eInst (endI x state)]⟩
 law:=lC (lX .eInst) (l1 lI)
def Za253:Zk253.α→Nat→Option (Ann UU):=fun(x,state)=>annL []
def Zu253:=us [Zh206]
theorem Zo253:Holds EE (253,Zk253):=by
 refine holds_of EE_ok func253 Zk253 (by kernel_rfl) Zu253 (us_ok _) Za253 (fun x hp hb=> ?_)
 obtain⟨x,state⟩:=x
 have hz0:=bdX_eInst (x:=x) (hb _ m0)
 have hl_x_S_Items:=hz0.1
 have hl_x_Fired:=hz0.2.1
 have hl_x_Tasks:=hz0.2.2.1
 have hl_x_Timers:=hz0.2.2.2.1
 have hl_x_Undos:=hz0.2.2.2.2
 have hl_state:=bdI (n:=state) (hb _ m1)
 have hp0:tasksOk x.Tasks=true:=hp _ m0
 clear hp hb
 apply @ve _ (sizeTaskS x.Tasks≤(4294967296:Nat)∧(0:Nat)=(0:Nat)∧asD []=asD []∧asD [DV.box [CL .eItem x.S.Items,CI x.S.Next,CL .eMatch x.Fired,CL .eTask (giveUp x.Tasks),CL .eTimer [],CL .eUndo x.Undos,CI state,CI x.Now]]=asD [DV.box (enc_eInst (endI x state))]) (by kernel_rfl)
 have:=(tasksK hp0).2
 exact⟨by omega,rfl,rfl,rfl⟩
def Zh253:HH:=⟨_,Zo253⟩
def Zk205:Con UU where
 α:=DInst
 md:=[.box true]
 of:=o1 (oX .eInst)
 ds:=fun x=>[dX .eInst x]
 pre:=fun x=>[goodX x,x.State=3∨x.State=5]
 res:=fun x=>⟨[],true,[dX .eInst (beginI x)]⟩
 law:=l1 (lX .eInst)
def Zi205_7(x:DInst):List DTask×Int×(ByteArray×List DVal×Unit)×(List DItem×Int×List DMatch×(List DTask×(Nat→Bool))×List DTimer×List DUndo×Int×Int×Unit)×Unit→Prop:=fun(l,i,f,(gi,gn,gf,(gt,dd),gm,gu,gs,gw,_),_)=>f=((undoLast x.Undos).Kind,(undoLast x.Undos).Fields,())∧(gi,gn,gf,gt,gm,gu,gs,gw)=(x.S.Items,x.S.Next,x.Fired,x.Tasks,x.Timers,x.Undos,x.State,x.Now)∧¬x.Undos=[]∧0≤i∧i≤x.Tasks.length∧l=restF (x.Tasks.take i.toNat) (undoLast x.Undos)∧∀k,i.toNat≤k→dd k=false
def Zm205_7(x:DInst):List DTask×Int×(ByteArray×List DVal×Unit)×(List DItem×Int×List DMatch×(List DTask×(Nat→Bool))×List DTimer×List DUndo×Int×Int×Unit)×Unit→Nat:=fun(l,i,f,(gi,gn,gf,(gt,dd),gm,gu,gs,gw,_),_)=>x.Tasks.length-i.toNat
def Za205:Zk205.α→Nat→Option (Ann UU):=fun x=>annL [(7,annOf [.slot 4 (4,1024) (.own .eTask true),.slot 5 (5,1024) (.lit (.int .i64)),.box 2 (2,1024) [.lit .str,.own .eVal true],.box 0 (2000000,0) [.own .eItem true,.lit (.int .i64),.own .eMatch true,.part .eTask,.own .eTimer true,.own .eUndo true,.lit (.int .i64),.lit (.int .i64)]] (fun _=>Zi205_7 x) (Zm205_7 x))]
def Zu205:=us [Zh252,Zh253,Zh139,Zh254]
theorem Zo205:Holds EE (205,Zk205):=by
 refine holds_of EE_ok func205 Zk205 (by kernel_rfl) Zu205 (us_ok _) Za205 (fun(x:DInst) hp hb=> ?_)
 have hz0:=bdX_eInst (x:=x) (hb _ m0)
 have hl_x_S_Items:=hz0.1
 have hl_x_Fired:=hz0.2.1
 have hl_x_Tasks:=hz0.2.2.1
 have hl_x_Timers:=hz0.2.2.2.1
 have hl_x_Undos:=hz0.2.2.2.2
 have hp0:goodX x:=hp _ m0
 have hp1:x.State=3∨x.State=5:=hp _ m1
 clear hp hb
 apply @ve _ (sizeUndoS x.Undos≤(4294967296:Nat)∧bif !decide ¬x.Undos=[] then bif x.State==(3:Int) then tasksOk x.Tasks=true∧(0:Nat)=(0:Nat)∧asD []=asD []∧asD [DV.box (enc_eInst (endI x (4:Int)))]=asD [DV.box (enc_eInst (beginI x))] else tasksOk x.Tasks=true∧(0:Nat)=(0:Nat)∧asD []=asD []∧asD [DV.box (enc_eInst (endI x (6:Int)))]=asD [DV.box (enc_eInst (beginI x))] else Zi205_7 x ([],(0:Int),((undoLast x.Undos).Kind,(undoLast x.Undos).Fields,()),(x.S.Items,x.S.Next,x.Fired,(x.Tasks,fun(x:Nat)=>false),x.Timers,x.Undos,x.State,x.Now,()),())∧∀(y:List DTask×Int×(ByteArray×List DVal×PUnit)×(List DItem×Int×List DMatch×(List DTask×(Nat→Bool))×List DTimer×List DUndo×Int×Int×PUnit)×PUnit),let x0:DFact:={Kind:=y.2.2.1.1,Fields:={τ:=Cd.eVal,xs:=y.2.2.1.2.1:Arr UU}.xs:DFact};let x3:Nat:=y.2.1.toNat;let x5:Nat:=y.2.2.2.1.2.2.2.1.1.length;let x6:Int:=IntKind.wrap IntKind.i64 (y.2.1+(1:Int));let x2:DTask:=List.getD y.2.2.2.1.2.2.2.1.1 x3 zTask;let x4:Int:=(↑x5:Int);let x1:List DTask:=[x2];Zi205_7 x y→bif decide (y.2.1<x4) then(0:Int)≤y.2.1∧x3<x5∧x3<x5∧y.2.2.2.1.2.2.2.1.2 x3=false∧y.2.2.2.1.2.2.2.1.2 x3=false∧x3<x5∧bif !decide (x2.F={Kind:=y.2.2.1.1,Fields:=y.2.2.1.2.1:DFact}) then(0:Int)≤y.2.1∧x3<x5∧x3<x5∧y.2.2.2.1.2.2.2.1.2 x3=false∧y.1.length+x1.length≤(4294967296:Nat)∧Zi205_7 x (y.1++x1,x6,(y.2.2.1.1,y.2.2.1.2.1,()),(y.2.2.2.1.1,y.2.2.2.1.2.1,y.2.2.2.1.2.2.1,(y.2.2.2.1.2.2.2.1.1,fun(j:Nat)=>Nat.beq j x3||y.2.2.2.1.2.2.2.1.2 j),y.2.2.2.1.2.2.2.2.1,y.2.2.2.1.2.2.2.2.2.1,y.2.2.2.1.2.2.2.2.2.2.1,y.2.2.2.1.2.2.2.2.2.2.2.1,()),())∧Zm205_7 x (y.1++x1,x6,(y.2.2.1.1,y.2.2.1.2.1,()),(y.2.2.2.1.1,y.2.2.2.1.2.1,y.2.2.2.1.2.2.1,(y.2.2.2.1.2.2.2.1.1,fun(j:Nat)=>Nat.beq j x3||y.2.2.2.1.2.2.2.1.2 j),y.2.2.2.1.2.2.2.2.1,y.2.2.2.1.2.2.2.2.2.1,y.2.2.2.1.2.2.2.2.2.2.1,y.2.2.2.1.2.2.2.2.2.2.2.1,()),())<Zm205_7 x y else Zi205_7 x (y.1,x6,(y.2.2.1.1,y.2.2.1.2.1,()),(y.2.2.2.1.1,y.2.2.2.1.2.1,y.2.2.2.1.2.2.1,(y.2.2.2.1.2.2.2.1.1,y.2.2.2.1.2.2.2.1.2),y.2.2.2.1.2.2.2.2.1,y.2.2.2.1.2.2.2.2.2.1,y.2.2.2.1.2.2.2.2.2.2.1,y.2.2.2.1.2.2.2.2.2.2.2.1,()),())∧Zm205_7 x (y.1,x6,(y.2.2.1.1,y.2.2.1.2.1,()),(y.2.2.2.1.1,y.2.2.2.1.2.1,y.2.2.2.1.2.2.1,(y.2.2.2.1.2.2.2.1.1,y.2.2.2.1.2.2.2.1.2),y.2.2.2.1.2.2.2.2.1,y.2.2.2.1.2.2.2.2.2.1,y.2.2.2.1.2.2.2.2.2.2.1,y.2.2.2.1.2.2.2.2.2.2.2.1,()),())<Zm205_7 x y else bif decide ((y.1.length:Int)≥(30:Int)) then y.2.2.1.2.1.length≤(4294967296:Nat)∧(0:Nat)=(0:Nat)∧asD []=asD []∧asD [DV.box [CL .eItem y.2.2.2.1.1,CI y.2.2.2.1.2.1,CL .eMatch y.2.2.2.1.2.2.1,CL .eTask (startL {τ:=Cd.eTask,xs:=[]:Arr UU}.xs x0 {data:= #[]:ByteArray} y.2.2.2.1.2.2.2.2.2.2.2.1).1,CL .eTimer y.2.2.2.1.2.2.2.2.1,CL .eUndo y.2.2.2.1.2.2.2.2.2.1,CI y.2.2.2.1.2.2.2.2.2.2.1,CI y.2.2.2.1.2.2.2.2.2.2.2.1]]=asD [DV.box (enc_eInst (beginI x))] else y.2.2.1.2.1.length≤(4294967296:Nat)∧(0:Nat)=(0:Nat)∧asD []=asD []∧asD [DV.box [CL .eItem y.2.2.2.1.1,CI y.2.2.2.1.2.1,CL .eMatch y.2.2.2.1.2.2.1,CL .eTask (startL {τ:=Cd.eTask,xs:=y.1:Arr UU}.xs x0 {data:= #[]:ByteArray} y.2.2.2.1.2.2.2.2.2.2.2.1).1,CL .eTimer y.2.2.2.1.2.2.2.2.1,CL .eUndo y.2.2.2.1.2.2.2.2.2.1,CI y.2.2.2.1.2.2.2.2.2.2.1,CI y.2.2.2.1.2.2.2.2.2.2.2.1]]=asD [DV.box (enc_eInst (beginI x))]) (by kernel_rfl)
 dsimp only
 have hgx:=hp0
 obtain⟨q1,q2,q3,q4⟩:=hp0
 have k3:=(undosK q2).2.2
 have k4:=(tasksK q1).1
 refine⟨by omega,if_not (fun h=> ?_) (fun h=> ?_)⟩
 ·have hu:x.Undos=[]:=by simpa using h
  refine if_num (fun g=>⟨q1,by trivial,by trivial,outI ?_⟩) (fun g=>⟨q1,by trivial,by trivial,outI ?_⟩)
  ·rw[beginI,if_pos hu,if_neg (by omega)]
  ·rw[beginI,if_pos hu,if_pos (by omega)]
 have hu:¬x.Undos=[]:=by simpa using h
 have hf:=(factK (undoLast_ok q2 hu)).1
 have eb:beginI x=⟨x.S,x.Fired,startU x,x.Timers,x.Undos,x.State,x.Now⟩:=if_neg hu
 refine⟨⟨rfl,rfl,hu,by omega,by omega,rfl,fun _ _=>rfl⟩,?_⟩
 rintro⟨l,i,⟨f1,f2,⟨⟩⟩,⟨gi,gn,gf,⟨gt,dd⟩,gm,gu,gs,gw,⟨⟩⟩,⟨⟩⟩ ⟨hF,hG,-,h1,h2,hl,hd⟩
 cases hF
 cases hG
 subst hl
 simp only
 refine if_dec (fun hc=> ?_) (fun hc=> ?_)
 ·have hn:i.toNat<x.Tasks.length:=by omega
  have ei:(i+1).toNat=i.toNat+1:=by omega
  have hst:=filterStep (fun t:DTask=> !decide (t.F=undoLast x.Undos)) zTask hn
  have hlen:(restF (x.Tasks.take i.toNat) (undoLast x.Undos)).length≤i.toNat:=zde (zdt _ _) (by simp;omega)
  rw[wrap_i64 (n:=i+1) (by omega) (by omega)]
  refine⟨h1,hn,hn,hd _ (zca _),hd _ (zca _),hn,if_not (fun g=> ?_) (fun g=> ?_)⟩
  ·refine⟨h1,hn,hn,hd _ (zca _),by simp only[zbq,zbo];omega,⟨rfl,rfl,hu,by omega,by omega,?_,fun k hk=> ?_⟩,by simp only[Zm205_7];omega⟩
   ·rw[ei];refine Eq.trans ?_ hst.symm
    rw[if_pos (by rw[show decide ((List.getD x.Tasks i.toNat zTask).F=undoLast x.Undos)=false from g];rfl)];rfl
   ·show(Nat.beq k i.toNat||dd k)=false
    rw[hd k (by omega),zeh,←zbj,zdn];omega
  ·refine⟨⟨rfl,rfl,hu,by omega,by omega,?_,fun k hk=>hd k (by omega)⟩,by simp only[Zm205_7];omega⟩
   rw[ei];refine Eq.trans ?_ hst.symm
   rw[if_neg (by rw[show decide ((List.getD x.Tasks i.toNat zTask).F=undoLast x.Undos)=true from g];decide),zch];rfl
 ·rw[take_all x.Tasks (by omega)]
  refine if_dec (fun g=>⟨by omega,by trivial,by trivial,?_⟩) (fun g=>⟨by omega,by trivial,by trivial,?_⟩)
  ·refine outI (a:=⟨x.S,x.Fired,(startL [] (undoLast x.Undos) noBytes x.Now).1,x.Timers,x.Undos,x.State,x.Now⟩) ?_
   rw[eb,startU,show freeF x.Tasks (undoLast x.Undos)=[] from if_pos (by omega)]
  ·refine outI (a:=⟨x.S,x.Fired,(startL (restF x.Tasks (undoLast x.Undos)) (undoLast x.Undos) noBytes x.Now).1,x.Timers,x.Undos,x.State,x.Now⟩) ?_
   rw[eb,startU,show freeF x.Tasks (undoLast x.Undos)=restF x.Tasks (undoLast x.Undos) from if_neg (by omega)]
def Zh205:HH:=⟨_,Zo205⟩
def Zk147:Con UU where
 α:=DInst×Int
 md:=[.box true,.ro]
 of:=oC (oX .eInst) (o1 oI)
 ds:=fun x=>[dX .eInst x.1,dI x.2]
 pre:=fun(x,state)=>[goodX x,state=3∨state=5]
 res:=fun(x,state)=>⟨[],true,[dX .eInst (turnI x state)]⟩
 law:=lC (lX .eInst) (l1 lI)
def Za147:Zk147.α→Nat→Option (Ann UU):=fun(x,state)=>annL []
def Zu147:=us [Zh206,Zh205]
theorem Zo147:Holds EE (147,Zk147):=by
 refine holds_of EE_ok func147 Zk147 (by kernel_rfl) Zu147 (us_ok _) Za147 (fun x hp hb=> ?_)
 obtain⟨x,state⟩:=x
 have hz0:=bdX_eInst (x:=x) (hb _ m0)
 have hl_x_S_Items:=hz0.1
 have hl_x_Fired:=hz0.2.1
 have hl_x_Tasks:=hz0.2.2.1
 have hl_x_Timers:=hz0.2.2.2.1
 have hl_x_Undos:=hz0.2.2.2.2
 have hl_state:=bdI (n:=state) (hb _ m1)
 have hp0:goodX x:=hp _ m0
 have hp1:state=3∨state=5:=hp _ m1
 clear hp hb
 apply @ve _ (let x1:DInst:={S:=x.S,Fired:=x.Fired,Tasks:=giveUp x.Tasks,Timers:=[],Undos:=x.Undos,State:=state,Now:=x.Now:DInst};let x0:DInst:=beginI x1;sizeTaskS x.Tasks≤(4294967296:Nat)∧goodX x1∧(state=(3:Int)∨state=(5:Int))∧(0:Nat)=(0:Nat)∧asD []=asD []∧asD [DV.box (enc_eInst x0)]=asD [DV.box (enc_eInst (turnI x state))]) (by kernel_rfl)
 dsimp only
 have:=(tasksK hp0.1).2
 exact⟨by omega,goodX_end hp0 state,hp1,rfl,rfl,rfl⟩
def Zh147:HH:=⟨_,Zo147⟩
theorem begin_size{x:DInst}(h:goodX x):sizeInst (beginI x)≤sizeInst x+6000∧goodX (beginI x):=by
 have hb:=goodX_begin h
 have ht:=(tasksK hb.1).2
 refine⟨?_,hb⟩
 unfold beginI at ht⊢
 split at ht<;>rename_i hu
 ·rw[if_pos hu]
  have e:sizeTimerS []=0:=rfl
  simp only[sizeInst,endI,e] at ht⊢
  omega
 ·rw[if_neg hu]
  simp only[sizeInst] at ht⊢
  omega
theorem turn_size{x:DInst}(h:goodX x)(st:Int):sizeInst (turnI x st)≤sizeInst x+12000∧goodX (turnI x st):=by
 have h1:=goodX_end h st
 have ht:=(tasksK h1.1).2
 obtain⟨h2,h3⟩:=begin_size h1
 refine⟨?_,h3⟩
 have e:sizeTimerS []=0:=rfl
 have h4:sizeInst (endI x st)≤sizeInst x+6000:=by
  simp only[sizeInst,endI,e] at ht⊢
  omega
 unfold turnI;omega
def rcs(l:List Value):List (AC UU):=l.map fun v=> .c (.lit v)
theorem Lfii{a b:Int}(h:a=b):asD [DV.one (Cell.lit (Value.int .i64 a))]=asD [DV.one (Cell.lit (Value.int .i64 b))]:=by rw[h]
def assertS(s:DStore)(f:DFact):DStore×Int:=if¬idOf s.Items f=0 then(s,idOf s.Items f) else if 40≤s.Items.length∨s.Next=1000000 then(s,0) else(⟨s.Items++[⟨s.Next,f⟩],s.Next+1⟩,s.Next)
theorem store_facts{s:DStore}(h:storeOk s=true):1≤s.Next∧s.Next≤1000000∧s.Items.length≤40∧(∀x∈s.Items,factOk x.F=true∧1≤x.Id):=by
 simp only[storeOk,zaf,decide_eq_true_eq] at h
 refine⟨h.1.1.1,h.1.1.2,h.1.2,allI_mem (z:=zItem) h.2 fun i hi=> ?_⟩
 simp only[itemAt,baseAt,zaf,decide_eq_true_eq] at hi
 exact⟨hi.1.1.1.1,hi.1.1.1.2⟩
theorem idOf_nn{s:DStore}(h:storeOk s=true)(f:DFact):0≤idOf s.Items f:=by
 unfold idOf;split
 ·omega
 ·rename_i hn
  rcases idxI_cases s.Items.length (fun k=>decide ((List.getD s.Items k zItem).F=f)) with⟨h1,_⟩|⟨i,h2,h1,_,_⟩
  ·exact absurd h1 hn
  ·have e:idAt s.Items f=(i:Int):=h1
   rw[e,zeu,zac,zad h2]
   have:=((store_facts h).2.2.2 _ (zda h2)).2
   show 0≤(s.Items[i]).Id
   omega
theorem assert_zero{s:DStore}(h:storeOk s=true){f:DFact}(h0:(assertS s f).2=0):(assertS s f).1=s:=by
 unfold assertS at h0⊢
 split
 ·rfl
 ·rename_i h1
  rw[if_neg h1] at h0
  split
  ·rfl
  ·rename_i h2
   rw[if_neg h2] at h0
   have:=(store_facts h).1
   simp only at h0;omega
theorem assert_size{s:DStore}(h:storeOk s=true){f:DFact}:sizeItemS (assertS s f).1.Items≤sizeItemS s.Items+1+sizeFact f:=by
 unfold assertS;split
 ·show sizeItemS s.Items≤_;omega
 ·split
  ·show sizeItemS s.Items≤_;omega
  ·simp only[sizeItemS,sizeItem,zce,zbq,zbo,zef,zbt,List.map_nil,zet,zdc,List.sum_nil];omega
def withS(x:DInst)(s:DStore):DInst:=⟨s,x.Fired,x.Tasks,x.Timers,x.Undos,x.State,x.Now⟩
def learnI(x:DInst)(f:DFact):DInst:=if(assertS x.S f).2=0 then turnI x 3 else withS x (assertS x.S f).1
theorem learn_size{x:DInst}(h:goodX x)(hs:storeOk x.S=true)(f:DFact):sizeInst (learnI x f)≤sizeInst x+12000+1+sizeFact f:=by
 unfold learnI;split
 ·have:=(turn_size h 3).1;omega
 ·have:=assert_size hs (f:=f)
  simp only[sizeInst,sizeStore,withS];omega
theorem store_inst{d:DDef}{x:DInst}(h:instOk d x=true):storeOk x.S=true:=by
 simp only[instOk,zaf] at h
 exact h.1.1.1.1.1.1.1.1.2
def Zk237:Con UU where
 α:=DStore×DFact
 md:=[.ro,.ro]
 of:=oC (oA .eStore) (o1 (oA .eFact))
 ds:=fun x=>[dA .eStore x.1,dA .eFact x.2]
 pre:=fun _=>[]
 res:=fun(s,f)=>⟨[dI (idOf s.Items f)],true,[]⟩
 law:=lC (lA .eStore) (l1 (lA .eFact))
def Zi237_2(s:DStore)(f:DFact):Int×(List DItem×Int×Unit)×(ByteArray×List DVal×Unit)×Unit→Prop:=fun(i,b,g,_)=>b=(s.Items,s.Next,())∧g=(f.Kind,f.Fields,())∧0≤i∧i≤s.Items.length∧∀j:Nat,(j:Int)<i→decide ((List.getD s.Items j zItem).F=f)=false
def Zm237_2(s:DStore)(f:DFact):Int×(List DItem×Int×Unit)×(ByteArray×List DVal×Unit)×Unit→Nat:=fun(i,b,g,_)=>s.Items.length-i.toNat
def Za237:Zk237.α→Nat→Option (Ann UU):=fun(s,f)=>annL [(2,annOf [.slot 10 (10,1024) (.lit (.int .i64)),.box 2 (2,1024) [.shr .eItem,.lit (.int .i64)],.box 3 (3,1024) [.lit .str,.shr .eVal]] (fun _=>Zi237_2 s f) (Zm237_2 s f))]
def Zu237:=us [Zh164]
theorem Zo237:Holds EE (237,Zk237):=by
 refine holds_of EE_ok func237 Zk237 (by kernel_rfl) Zu237 (us_ok _) Za237 (fun x hp hb=> ?_)
 obtain⟨s,f⟩:=x
 have hl_s_Items:=bd_eStore (x:=s) (hb _ m0)
 have hz1:=bd_eFact (x:=f) (hb _ m1)
 have hl_f_Kind:=hz1.1
 have hl_f_Fields:=hz1.2
 clear hp hb
 apply @ve _ (Zi237_2 s f ((0:Int),(s.Items,s.Next,()),(f.Kind,f.Fields,()),())∧∀(y:Int×(List DItem×Int×PUnit)×(ByteArray×List DVal×PUnit)×PUnit),Zi237_2 s f y→bif decide (y.1<(s.Items.length:Int)) then(0:Int)≤y.1∧y.1.toNat<s.Items.length∧bif decide ((List.getD s.Items y.1.toNat zItem).F={Kind:=y.2.2.1.1,Fields:=y.2.2.1.2.1:DFact}) then Li ((List.getD s.Items y.1.toNat zItem).Id) (idOf s.Items f) else Zi237_2 s f (IntKind.wrap IntKind.i64 (y.1+(1:Int)),(y.2.1.1,y.2.1.2.1,()),(y.2.2.1.1,y.2.2.1.2.1,()),())∧Zm237_2 s f (IntKind.wrap IntKind.i64 (y.1+(1:Int)),(y.2.1.1,y.2.1.2.1,()),(y.2.2.1.1,y.2.2.1.2.1,()),())<Zm237_2 s f y else Li (0:Int) (idOf s.Items f)) (by kernel_rfl)
 refine⟨⟨rfl,rfl,by omega,by omega,by intro j hj;omega⟩,?_⟩
 rintro⟨i,⟨b1,b2,⟨⟩⟩,⟨g1,g2,⟨⟩⟩,⟨⟩⟩ ⟨hbx,hg,h1,h2,hR⟩
 cases hbx
 cases hg
 simp only
 refine if_dec (fun hc=> ?_) (fun hc=> ?_)
 ·rw[wrap_i64 (by omega) (by omega)]
  refine⟨by omega,by omega,if_dec (fun h=>Lf_i ?_) (fun h=>⟨⟨rfl,rfl,by omega,by omega,upto_no (p:=fun j=>decide ((List.getD s.Items j zItem).F=f)) h1 hR (decide_eq_false h)⟩,by simp only[Zm237_2];omega⟩)⟩
  have e:idAt s.Items f=(i.toNat:Int):=idxI_found (i:=i.toNat) (by omega) (decide_eq_true h) (fun j hj=>hR j (by omega))
  rw[idOf,e,if_neg (by omega),zeu]
 ·refine Lf_i ?_
  have e:idAt s.Items f= -1:=idxI_none (fun j hj=>hR j (by omega))
  rw[idOf,if_pos e]
def Zh237:HH:=⟨_,Zo237⟩
def Zk181:Con UU where
 α:=DStore×DFact
 md:=[.box true,.ro]
 of:=oC (oX .eStore) (o1 (oA .eFact))
 ds:=fun x=>[dX .eStore x.1,dA .eFact x.2]
 pre:=fun(s,f)=>[storeOk s=true,f.Fields.length≤4294967296]
 res:=fun(s,f)=>⟨[dI ((assertS s f).2),dO (decide (¬(assertS s f).2=0))],true,[dX .eStore ((assertS s f).1)]⟩
 rst:=6
 law:=lC (lX .eStore) (l1 (lA .eFact))
def Za181:Zk181.α→Nat→Option (Ann UU):=fun(s,f)=>annL []
def Zu181:=us [Zh237,Zh158]
theorem Zo181:Holds EE (181,Zk181):=by
 refine holds_ofX EE_ok func181 Zk181 (by kernel_rfl) rfl Zu181 (us_ok _) Za181 (fun x hp hb rest hrest=> ?_)
 obtain⟨s,f⟩:=x
 have hl_s_Items:=bdX_eStore (x:=s) (hb _ m0)
 have hz1:=bd_eFact (x:=f) (hb _ m1)
 have hl_f_Kind:=hz1.1
 have hl_f_Fields:=hz1.2
 have hp0:storeOk s=true:=hp _ m0
 have hp1:f.Fields.length≤4294967296:=hp _ m1
 clear hp hb
 have hrest:rest.length=6:=hrest
 match rest,hrest with
 |[r0,r1,r2,r3,r4,r5],_=>
 apply @ve _ (bif idOf s.Items f !=(0:Int) then List.length (rcs [r0,r1,r2,r3,r4,r5])=List.length [r0,r1,r2,r3,r4,r5]∧(rcs [r0,r1,r2,r3,r4,r5])=List.map (fun(v:Value)=>AC.c (Cell.lit v)) [r0,r1,r2,r3,r4,r5]∧asD [VI (idOf s.Items f),VB true]=asD [VI ((assertS s f).2),VB (decide ¬(assertS s f).2=(0:Int))]∧asD [DV.box [CL .eItem s.Items,CI s.Next]]=asD [DV.box [CL .eItem (assertS s f).1.Items,CI ((assertS s f).1.Next)]] else bif decide ((s.Items.length:Int)≥(40:Int)) then List.length (rcs [r0,r1,r2,r3,r4,r5])=List.length [r0,r1,r2,r3,r4,r5]∧(rcs [r0,r1,r2,r3,r4,r5])=List.map (fun(v:Value)=>AC.c (Cell.lit v)) [r0,r1,r2,r3,r4,r5]∧asD [VI (0:Int),VB false]=asD [VI ((assertS s f).2),VB (decide ¬(assertS s f).2=(0:Int))]∧asD [DV.box [CL .eItem s.Items,CI s.Next]]=asD [DV.box [CL .eItem (assertS s f).1.Items,CI ((assertS s f).1.Next)]] else bif s.Next==(1000000:Int) then List.length (rcs [r0,r1,r2,r3,r4,r5])=List.length [r0,r1,r2,r3,r4,r5]∧(rcs [r0,r1,r2,r3,r4,r5])=List.map (fun(v:Value)=>AC.c (Cell.lit v)) [r0,r1,r2,r3,r4,r5]∧asD [VI (0:Int),VB false]=asD [VI ((assertS s f).2),VB (decide ¬(assertS s f).2=(0:Int))]∧asD [DV.box [CL .eItem s.Items,CI s.Next]]=asD [DV.box [CL .eItem (assertS s f).1.Items,CI ((assertS s f).1.Next)]] else f.Fields.length≤(4294967296:Nat)∧s.Items.length+List.length [{Id:=s.Next,F:=f:DItem}]≤(4294967296:Nat)∧List.length (rcs [r0,r1,r2,r3,r4,r5])=List.length [r0,r1,r2,r3,r4,r5]∧(rcs [r0,r1,r2,r3,r4,r5])=List.map (fun(v:Value)=>AC.c (Cell.lit v)) [r0,r1,r2,r3,r4,r5]∧asD [VI (IntKind.wrap IntKind.i64 (IntKind.wrap IntKind.i64 (s.Next+(1:Int))-(1:Int))),VB true]=asD [VI ((assertS s f).2),VB (decide ¬(assertS s f).2=(0:Int))]∧asD [DV.box [CL .eItem (s.Items++[{Id:=s.Next,F:=f:DItem}]),CI (IntKind.wrap IntKind.i64 (s.Next+(1:Int)))]]=asD [DV.box [CL .eItem (assertS s f).1.Items,CI ((assertS s f).1.Next)]]) (by kernel_rfl)
 obtain⟨s1,s2,s3,s4⟩:=store_facts hp0
 refine if_neq (fun h=>⟨rfl,rfl,?_⟩) (fun h=>if_dec (fun h2=>⟨rfl,rfl,?_⟩) (fun h2=>if_num (fun h3=>⟨rfl,rfl,?_⟩) (fun h3=> ?_)))
 ·have e:assertS s f=(s,idOf s.Items f):=if_pos h
  rw[e,decide_eq_true h];exact⟨rfl,rfl⟩
 ·have e:assertS s f=(s,0):=(if_neg (by omega)).trans (if_pos (.inl (by omega)))
  rw[e];exact⟨rfl,rfl⟩
 ·have e:assertS s f=(s,0):=(if_neg (by omega)).trans (if_pos (.inr h3))
  rw[e];exact⟨rfl,rfl⟩
 ·have e:assertS s f=(⟨s.Items++[⟨s.Next,f⟩],s.Next+1⟩,s.Next):=(if_neg (by omega)).trans (if_neg (by omega))
  rw[e,wrap_i64 (n:=s.Next+1) (by omega) (by omega),wrap_i64 (by omega) (by omega),show s.Next+1-1=s.Next by omega,decide_eq_true (show¬(s.Next=0) by omega)]
  exact⟨hp1,by simp only[zbq,zbo];omega,rfl,rfl,rfl,rfl⟩
def Zh181:HH:=⟨_,Zo181⟩
def Zk207:Con UU where
 α:=DStore×DFact
 md:=[.box true,.ro]
 of:=oC (oX .eStore) (o1 (oA .eFact))
 ds:=fun x=>[dX .eStore x.1,dA .eFact x.2]
 pre:=fun(s,f)=>[storeOk s=true,f.Fields.length≤4294967296]
 res:=fun(s,f)=>⟨[dI ((assertS s f).2)],true,[dX .eStore ((assertS s f).1)]⟩
 rst:=6
 law:=lC (lX .eStore) (l1 (lA .eFact))
def Za207:Zk207.α→Nat→Option (Ann UU):=fun(s,f)=>annL []
def Zu207:=us [Zh137,Zh132]
theorem Zo207:Holds EE (207,Zk207):=by
 refine holds_ofX EE_ok func207 Zk207 (by kernel_rfl) rfl Zu207 (us_ok _) Za207 (fun x hp hb rest hrest=> ?_)
 obtain⟨s,f⟩:=x
 have hl_s_Items:=bdX_eStore (x:=s) (hb _ m0)
 have hz1:=bd_eFact (x:=f) (hb _ m1)
 have hl_f_Kind:=hz1.1
 have hl_f_Fields:=hz1.2
 have hp0:storeOk s=true:=hp _ m0
 have hp1:f.Fields.length≤4294967296:=hp _ m1
 clear hp hb
 have hrest:rest.length=6:=hrest
 match rest,hrest with
 |[r0,r1,r2,r3,r4,r5],_=>
 apply @ve _ (bif decide (idOf s.Items f>(0:Int)) then List.length (rcs [r0,r1,r2,r3,r4,r5])=List.length [r0,r1,r2,r3,r4,r5]∧(rcs [r0,r1,r2,r3,r4,r5])=List.map (fun(v:Value)=>AC.c (Cell.lit v)) [r0,r1,r2,r3,r4,r5]∧asD [VI (idOf s.Items f)]=asD [VI ((assertS s f).2)]∧asD [DV.box [CL .eItem s.Items,CI s.Next]]=asD [DV.box [CL .eItem (assertS s f).1.Items,CI ((assertS s f).1.Next)]] else bif decide ((s.Items.length:Int)≥(40:Int)) then List.length (rcs [r0,r1,r2,r3,r4,r5])=List.length [r0,r1,r2,r3,r4,r5]∧(rcs [r0,r1,r2,r3,r4,r5])=List.map (fun(v:Value)=>AC.c (Cell.lit v)) [r0,r1,r2,r3,r4,r5]∧asD [VI (0:Int)]=asD [VI ((assertS s f).2)]∧asD [DV.box [CL .eItem s.Items,CI s.Next]]=asD [DV.box [CL .eItem (assertS s f).1.Items,CI ((assertS s f).1.Next)]] else bif decide (s.Next≥(1000000:Int)) then List.length (rcs [r0,r1,r2,r3,r4,r5])=List.length [r0,r1,r2,r3,r4,r5]∧(rcs [r0,r1,r2,r3,r4,r5])=List.map (fun(v:Value)=>AC.c (Cell.lit v)) [r0,r1,r2,r3,r4,r5]∧asD [VI (0:Int)]=asD [VI ((assertS s f).2)]∧asD [DV.box [CL .eItem s.Items,CI s.Next]]=asD [DV.box [CL .eItem (assertS s f).1.Items,CI ((assertS s f).1.Next)]] else f.Fields.length≤(4294967296:Nat)∧s.Items.length+List.length [{Id:=s.Next,F:=f:DItem}]≤(4294967296:Nat)∧List.length (rcs [r0,r1,r2,r3,r4,r5])=List.length [r0,r1,r2,r3,r4,r5]∧(rcs [r0,r1,r2,r3,r4,r5])=List.map (fun(v:Value)=>AC.c (Cell.lit v)) [r0,r1,r2,r3,r4,r5]∧asD [VI (IntKind.wrap IntKind.i64 (IntKind.wrap IntKind.i64 (s.Next+(1:Int))-(1:Int)))]=asD [VI ((assertS s f).2)]∧asD [DV.box [CL .eItem (s.Items++[{Id:=s.Next,F:=f:DItem}]),CI (IntKind.wrap IntKind.i64 (s.Next+(1:Int)))]]=asD [DV.box [CL .eItem (assertS s f).1.Items,CI ((assertS s f).1.Next)]]) (by kernel_rfl)
 obtain⟨s1,s2,s3,s4⟩:=store_facts hp0
 have h0:=idOf_nn hp0 f
 refine if_dec (fun h=>⟨rfl,rfl,?_⟩) (fun h=>if_dec (fun h2=>⟨rfl,rfl,?_⟩) (fun h2=>if_dec (fun h3=>⟨rfl,rfl,?_⟩) (fun h3=> ?_)))
 ·have e:assertS s f=(s,idOf s.Items f):=if_pos (by omega)
  rw[e];exact⟨rfl,rfl⟩
 ·have e:assertS s f=(s,0):=(if_neg (by omega)).trans (if_pos (.inl (by omega)))
  rw[e];exact⟨rfl,rfl⟩
 ·have e:assertS s f=(s,0):=(if_neg (by omega)).trans (if_pos (.inr (by omega)))
  rw[e];exact⟨rfl,rfl⟩
 ·have e:assertS s f=(⟨s.Items++[⟨s.Next,f⟩],s.Next+1⟩,s.Next):=(if_neg (by omega)).trans (if_neg (by omega))
  rw[e,wrap_i64 (n:=s.Next+1) (by omega) (by omega),wrap_i64 (by omega) (by omega),show s.Next+1-1=s.Next by omega]
  exact⟨hp1,by simp only[zbq,zbo];omega,rfl,rfl,rfl,rfl⟩
def Zh207:HH:=⟨_,Zo207⟩
def Zk105:Con UU where
 α:=DInst×DFact
 md:=[.box true,.ro]
 of:=oC (oX .eInst) (o1 (oA .eFact))
 ds:=fun x=>[dX .eInst x.1,dA .eFact x.2]
 pre:=fun(x,f)=>[goodX x,storeOk x.S=true,f.Fields.length≤4294967296]
 res:=fun(x,f)=>⟨[],true,[dX .eInst (learnI x f)]⟩
 law:=lC (lX .eInst) (l1 (lA .eFact))
def Za105:Zk105.α→Nat→Option (Ann UU):=fun(x,f)=>annL []
def Zu105:=us [Zh181,Zh104]
theorem Zo105:Holds EE (105,Zk105):=by
 refine holds_of EE_ok func105 Zk105 (by kernel_rfl) Zu105 (us_ok _) Za105 (fun x hp hb=> ?_)
 obtain⟨x,f⟩:=x
 have hz0:=bdX_eInst (x:=x) (hb _ m0)
 have hl_x_S_Items:=hz0.1
 have hl_x_Fired:=hz0.2.1
 have hl_x_Tasks:=hz0.2.2.1
 have hl_x_Timers:=hz0.2.2.2.1
 have hl_x_Undos:=hz0.2.2.2.2
 have hz1:=bd_eFact (x:=f) (hb _ m1)
 have hl_f_Kind:=hz1.1
 have hl_f_Fields:=hz1.2
 have hp0:goodX x:=hp _ m0
 have hp1:storeOk x.S=true:=hp _ m1
 have hp2:f.Fields.length≤4294967296:=hp _ m2
 clear hp hb
 apply @ve _ (let x1:DInst:={S:=(assertS {Items:={τ:=Cd.eItem,xs:=x.S.Items:Arr UU}.xs,Next:=x.S.Next:DStore} {Kind:=f.Kind,Fields:=f.Fields:DFact}).1,Fired:=x.Fired,Tasks:=x.Tasks,Timers:=x.Timers,Undos:=x.Undos,State:=x.State,Now:=x.Now:DInst};let x0:DInst:=turnI x1 (3:Int);storeOk x.S=true∧f.Fields.length≤(4294967296:Nat)∧bif !decide ¬(assertS {Items:={τ:=Cd.eItem,xs:=x.S.Items:Arr UU}.xs,Next:=x.S.Next:DStore} {Kind:=f.Kind,Fields:=f.Fields:DFact}).2=(0:Int) then goodX x1∧(0:Nat)=(0:Nat)∧asD []=asD []∧asD [DV.box (enc_eInst x0)]=asD [DV.box (enc_eInst (learnI x f))] else(0:Nat)=(0:Nat)∧asD []=asD []∧asD [DV.box [CL .eItem (assertS {Items:={τ:=Cd.eItem,xs:=x.S.Items:Arr UU}.xs,Next:=x.S.Next:DStore} {Kind:=f.Kind,Fields:=f.Fields:DFact}).1.Items,CI ((assertS {Items:={τ:=Cd.eItem,xs:=x.S.Items:Arr UU}.xs,Next:=x.S.Next:DStore} {Kind:=f.Kind,Fields:=f.Fields:DFact}).1.Next),CL .eMatch x.Fired,CL .eTask x.Tasks,CL .eTimer x.Timers,CL .eUndo x.Undos,CI x.State,CI x.Now]]=asD [DV.box (enc_eInst (learnI x f))]) (by kernel_rfl)
 dsimp only
 have hS:(⟨x.S.Items,x.S.Next⟩:DStore)=x.S:=rfl
 have hF:(⟨f.Kind,f.Fields⟩:DFact)=f:=rfl
 simp only[hS,hF]
 refine⟨hp1,hp2,if_not (fun h=> ?_) (fun h=> ?_)⟩
 ·have h:(assertS x.S f).2=0:=by simpa using h
  have hz:=assert_zero hp1 h
  have e:learnI x f=turnI x 3:=if_pos h
  rw[e,hz]
  exact⟨hp0,by trivial,by trivial,rfl⟩
 ·have h:¬(assertS x.S f).2=0:=by simpa using h
  have e:learnI x f=withS x (assertS x.S f).1:=if_neg h
  rw[e]
  exact⟨by trivial,by trivial,rfl⟩
def Zh105:HH:=⟨_,Zo105⟩
def Zk148:Con UU where
 α:=DInst×DFact
 md:=[.box true,.ro]
 of:=oC (oX .eInst) (o1 (oA .eFact))
 ds:=fun x=>[dX .eInst x.1,dA .eFact x.2]
 pre:=fun(x,f)=>[goodX x,storeOk x.S=true,f.Fields.length≤4294967296]
 res:=fun(x,f)=>⟨[],true,[dX .eInst (learnI x f)]⟩
 law:=lC (lX .eInst) (l1 (lA .eFact))
def Za148:Zk148.α→Nat→Option (Ann UU):=fun(x,f)=>annL []
def Zu148:=us [Zh207,Zh147]
theorem Zo148:Holds EE (148,Zk148):=by
 refine holds_of EE_ok func148 Zk148 (by kernel_rfl) Zu148 (us_ok _) Za148 (fun x hp hb=> ?_)
 obtain⟨x,f⟩:=x
 have hz0:=bdX_eInst (x:=x) (hb _ m0)
 have hl_x_S_Items:=hz0.1
 have hl_x_Fired:=hz0.2.1
 have hl_x_Tasks:=hz0.2.2.1
 have hl_x_Timers:=hz0.2.2.2.1
 have hl_x_Undos:=hz0.2.2.2.2
 have hz1:=bd_eFact (x:=f) (hb _ m1)
 have hl_f_Kind:=hz1.1
 have hl_f_Fields:=hz1.2
 have hp0:goodX x:=hp _ m0
 have hp1:storeOk x.S=true:=hp _ m1
 have hp2:f.Fields.length≤4294967296:=hp _ m2
 clear hp hb
 apply @ve _ (let x1:DInst:={S:=(assertS {Items:={τ:=Cd.eItem,xs:=x.S.Items:Arr UU}.xs,Next:=x.S.Next:DStore} {Kind:=f.Kind,Fields:=f.Fields:DFact}).1,Fired:=x.Fired,Tasks:=x.Tasks,Timers:=x.Timers,Undos:=x.Undos,State:=x.State,Now:=x.Now:DInst};let x0:DInst:=turnI x1 (3:Int);storeOk x.S=true∧f.Fields.length≤(4294967296:Nat)∧bif (assertS {Items:={τ:=Cd.eItem,xs:=x.S.Items:Arr UU}.xs,Next:=x.S.Next:DStore} {Kind:=f.Kind,Fields:=f.Fields:DFact}).2==(0:Int) then goodX x1∧((3:Int)=(3:Int)∨(3:Int)=(5:Int))∧(0:Nat)=(0:Nat)∧asD []=asD []∧asD [DV.box (enc_eInst x0)]=asD [DV.box (enc_eInst (learnI x f))] else(0:Nat)=(0:Nat)∧asD []=asD []∧asD [DV.box [CL .eItem (assertS {Items:={τ:=Cd.eItem,xs:=x.S.Items:Arr UU}.xs,Next:=x.S.Next:DStore} {Kind:=f.Kind,Fields:=f.Fields:DFact}).1.Items,CI ((assertS {Items:={τ:=Cd.eItem,xs:=x.S.Items:Arr UU}.xs,Next:=x.S.Next:DStore} {Kind:=f.Kind,Fields:=f.Fields:DFact}).1.Next),CL .eMatch x.Fired,CL .eTask x.Tasks,CL .eTimer x.Timers,CL .eUndo x.Undos,CI x.State,CI x.Now]]=asD [DV.box (enc_eInst (learnI x f))]) (by kernel_rfl)
 dsimp only
 have hS:(⟨x.S.Items,x.S.Next⟩:DStore)=x.S:=rfl
 have hF:(⟨f.Kind,f.Fields⟩:DFact)=f:=rfl
 simp only[hS,hF]
 refine⟨hp1,hp2,if_num (fun h=> ?_) (fun h=> ?_)⟩
 ·have hz:=assert_zero hp1 h
  have e:learnI x f=turnI x 3:=if_pos h
  rw[e,hz]
  exact⟨hp0,.inl trivial,by trivial,by trivial,rfl⟩
 ·have e:learnI x f=withS x (assertS x.S f).1:=if_neg h
  rw[e]
  exact⟨by trivial,by trivial,rfl⟩
def Zh148:HH:=⟨_,Zo148⟩
open Go.RowKit
def itoaB(n:Int):ByteArray:=⟨(Go.Lib.itoa n).toArray⟩
def joinB(l:List ByteArray)(sep:ByteArray):ByteArray:=⟨(Go.Lib.join (l.map (fun s=>s.data.toList)) sep.data.toList).toArray⟩
theorem grow_upto{w:World}{k:Nat}{os:Array Obj}:Upto (fun _=>False) w (Go.Sort.grow (w.drewN k) os):=by
 refine⟨rfl,rfl,rfl,?_,fun i hi _=> ?_⟩
 ·show w.heap.size≤(w.heap++os).size
  simp
 ·show(w.heap++os)[i]? =_
  rw[Array.getElem?_append_left hi]
def Zk281:Con UU where
 α:=Int
 md:=[.ro]
 of:=o1 oI
 ds:=fun x=>[dI x]
 pre:=fun _=>[]
 res:=fun n=>⟨[dS (itoaB n)],true,[]⟩
 law:=l1 lI
theorem Zo281:Holds EE (281,Zk281):=by
 refine⟨⟨_,func281,by kernel_rfl,by kernel_rfl⟩,?_⟩
 refine sound_lit rfl fun(n:Int) _ w F vs ls hF hlay hra=> ?_
 obtain⟨v,rfl,hv⟩:=rargs1 hra
 obtain⟨_,rfl,hl⟩:=hv.lit_all
 have hb: -9223372036854775808≤n∧n≤9223372036854775807:=hl.2
 refine⟨_,rfl,rfl,rfl,⟨rfl,?_⟩,(strconv_Itoa n hb.1 hb.2 w (tab_is hlay)).mono ?_⟩
 ·have:=Go.Lib.itoa_length_le n hb.1 hb.2
  show(ByteArray.mk _).size≤_
  simp only[itoaB,ByteArray.size,zdj]
  omega
 ·rintro e w' ⟨rfl,k,os,rfl⟩
  exact⟨rfl,grow_upto⟩
def Zh281:HH:=⟨_,Zo281⟩
def Zk268:Con UU where
 α:=(List ByteArray)×ByteArray
 md:=[.ro,.ro]
 of:=oC (oL .str) (o1 oS)
 ds:=fun x=>[dL .str x.1,dS x.2]
 pre:=fun(l,sep)=>[(joinB l sep).size≤140737488355328,l.length≤140737488355328]
 res:=fun(l,sep)=>⟨[dS (joinB l sep)],true,[]⟩
 law:=lC (lL .str) (l1 lS)
theorem Zo268:Holds EE (268,Zk268):=by
 refine⟨⟨_,func268,by kernel_rfl,by kernel_rfl⟩,?_⟩
 refine sound_lit rfl fun(x:List ByteArray×ByteArray) hp w F vs ls hF hlay hra=> ?_
 obtain⟨l,sep⟩:=x
 have hp0:(joinB l sep).size≤140737488355328:=hp _ zab
 have hp1:l.length≤140737488355328:=hp _ (zaa _ zab)
 obtain⟨u,v,rfl,hu,hv⟩:=rargs2 hra
 obtain⟨_,rfl,hl⟩:=hv.lit_all
 refine⟨_,rfl,rfl,rfl,⟨rfl,by omega⟩,?_⟩
 rcases hu.inv with⟨h0,a,c,rfl⟩|⟨b,off,cap,vs,rfl,hb,hc,hcell,hr⟩
 ·subst h0
  refine(strings_Join_none a c sep w).mono ?_
  rintro e w' ⟨rfl,rfl⟩
  exact⟨rfl,Upto.refl _ _⟩
 ·refine(strings_Join b off cap l sep w (fun j x hj=> ?_) (hF b hb) hp1 hc (by simpa[joinB,ByteArray.size] using hp0)).mono ?_
  ·have h1:=hr j x 0 (.lit (.string x)) hj rfl
   have hj':j<l.length:=by
    rcases zba j l.length with h|h
    ·exact h
    ·rw[zaj h] at hj;cases hj
   have h2:=hcell j (by show j<l.length*1;omega)
   have e:j*UU.wd .str+0=j:=by show j*1+0=j;omega
   rw[e] at h1
   rw[h2,(h1.lit_all).2.1]
  ·rintro e w' ⟨rfl,hbe⟩
   exact⟨rfl,Upto.below hbe⟩
def Zh268:HH:=⟨_,Zo268⟩
def mkB(l:List UInt8):ByteArray:=⟨l.toArray⟩
theorem mkB_app(a b:List UInt8):mkB a++mkB b=mkB (a++b):=by
 apply ByteArray.ext
 simp[mkB]
theorem mkB_bs(s:ByteArray):mkB (bs s)=s:=by
 apply ByteArray.ext
 simp[mkB,bs]
theorem bs_mkB(l:List UInt8):bs (mkB l)=l:=by simp[mkB,bs]
theorem mkB_size(l:List UInt8):(mkB l).size=l.length:=by simp[mkB,ByteArray.size]
theorem app_mkB(s:ByteArray)(l:List UInt8):s++mkB l=mkB (bs s++l):=by rw[←mkB_app,mkB_bs]
def valT(v:DVal):List UInt8:=if v.K=1 then Go.Lib.itoa v.N else 39::(bs v.S++[39])
def valsT(l:List DVal):List UInt8:=40::(Go.Lib.join (l.map valT) [44]++[41])
def valText(v:DVal):ByteArray:=if valOk v=true then mkB (valT v) else noBytes
def factText(f:DFact):ByteArray:=if factOk f=true then mkB (bs f.Kind++valsT f.Fields) else noBytes
theorem joinB_eq(l:List ByteArray)(s:ByteArray):joinB l s=mkB (Go.Lib.join (l.map bs) (bs s)):=rfl
theorem itoaB_eq(n:Int):itoaB n=mkB (Go.Lib.itoa n):=rfl
theorem join_snoc(l:List (List UInt8))(x sep:List UInt8):Go.Lib.join (l++[x]) sep=if l=[] then x else Go.Lib.join l sep++(sep++x):=by
 cases l with
 |nil=>simp[Go.Lib.join_one]
 |cons y r=>
  rw[zex,Go.Lib.join_cons,Go.Lib.join_cons,if_neg (by simp)]
  simp[Go.Lib.joinTail]
theorem valOk_cases{v:DVal}(h:valOk v=true):(v.K=1∧-1000000000≤v.N∧v.N≤1000000000)∨(v.K=2∧v.S.size≤20):=by
 simp only[valOk] at h
 by_cases h1:v.K=1
 ·simp[h1] at h;exact .inl ⟨h1,h.1.1,h.1.2⟩
 ·by_cases h2:v.K=2
  ·simp[h2] at h;exact .inr ⟨h2,h.1.2⟩
  ·simp[h1,h2] at h
theorem valT_len{v:DVal}(h:valOk v=true):(valT v).length≤22:=by
 rcases valOk_cases h with⟨h1,h2,h3⟩|⟨h1,h2⟩
 ·have:=Go.Lib.itoa_length_le v.N (by omega) (by omega)
  simp only[valT,if_pos h1];omega
 ·simp only[valT,if_neg (show¬v.K=1 by omega),zbq,zce,bs_len,zbo];omega
theorem join_len:∀(l:List DVal),l.all valOk=true→(Go.Lib.join (l.map valT) [44]).length≤23*l.length
 |[],_=>by simp[Go.Lib.join_nil]
 |x::r,h=>by
  rw[zbt,Go.Lib.join_cons]
  simp only[zdr,zaf] at h
  have h1:=valT_len h.1
  have h2:∀r:List DVal,r.all valOk=true→(Go.Lib.joinTail [44] (r.map valT)).length≤23*r.length:=by
   intro r
   induction r with
   |nil=>intro _;simp[Go.Lib.joinTail]
   |cons y r ih=>
    intro h
    simp only[zdr,zaf] at h
    have h3:=valT_len h.1
    have h4:=ih h.2
    simp only[Go.Lib.joinTail,zbt,zbz,zce,zbq,zbo] at h4⊢
    omega
  have h3:=h2 r h.2
  simp only[zce,zbq]
  omega
theorem factOk_fields{f:DFact}(h:factOk f=true):f.Fields.length≤5∧f.Fields.all valOk=true∧nameOk f.Kind=true∧f.Kind.size≤12:=by
 simp only[factOk,zaf,decide_eq_true_eq] at h
 have h2:=h.1.1
 simp only[nameOk,zaf,decide_eq_true_eq] at h2
 exact⟨h.1.2,h.2,h.1.1,h2.1.1.2⟩
theorem all_getD{α:Type}{p:α→Bool}{l:List α}(h:l.all p=true)(z:α){i:Int}(h0:0≤i)(hi:i<l.length):p (List.getD l i.toNat z)=true:=
 zcb.1 h _ (getD_mem l z h0 hi)
theorem all_take{α:Type}{p:α→Bool}{l:List α}(h:l.all p=true)(n:Nat):(l.take n).all p=true:=by
 rw[zcb] at h⊢
 exact fun x hx=>h x (List.mem_of_mem_take hx)
theorem dec_step{n:Int}(h:10≤n):Go.Lib.itoa n=Go.Lib.itoa (n/10)++[UInt8.ofNat (48+n.toNat%10)]:=by
 simp only[Go.Lib.itoa]
 rw[if_neg (by omega),if_neg (by omega)]
 have e:(n/10).toNat=n.toNat/10:=by omega
 rw[e,Go.Lib.decDigits,dif_neg (by omega)]
theorem dec_one{n:Int}(h0:0≤n)(h:n<10):Go.Lib.itoa n=[UInt8.ofNat (48+n.toNat)]:=by
 simp only[Go.Lib.itoa]
 rw[if_neg (by omega),Go.Lib.decDigits_one (by omega)]
theorem dec_neg{n:Int}(h:n<0):Go.Lib.itoa n=45::Go.Lib.itoa (-n):=by
 simp only[Go.Lib.itoa]
 rw[if_pos h,if_neg (by omega)]
 have e:(-n).toNat=n.natAbs:=by omega
 rw[e]
theorem chr_eq{n:Int}(h0:0≤n)(h:n≤255):strOfNums (List.map (fun(x:Int)=>x) [n])=mkB [UInt8.ofNat n.toNat]:=by
 simp[strOfNums,mkB]
theorem wrap_u8'{n:Int}(h:0≤n)(h':n≤255):IntKind.wrap .u8 n=n:=by
 simp only[IntKind.wrap]
 simp[IntKind.bits,IntKind.signed]
 omega
def taskAtKey(l:List DTask)(key:ByteArray):Int:=idxI l.length fun k=>decide (factText (List.getD l k zTask).F=key)
def Zk288:Con UU where
 α:=Int
 md:=[.ro]
 of:=o1 oI
 ds:=fun x=>[dI x]
 pre:=fun n=>[-1000000000≤n∧n≤1000000000]
 res:=fun n=>⟨[dS (itoaB n)],true,[]⟩
 law:=l1 lI
def Za288:Zk288.α→Nat→Option (Ann UU):=fun n=>annL []
def Zy288:Int→Nat:=fun n=>if n<0 then n.natAbs+1 else n.natAbs
def Zu288(rn:Nat):List (FuncId×Con UU):=[(288,Zk288.below Zy288 rn)]
theorem Zo288:Holds EE (288,Zk288):=by
 refine holds_rec (k:=Zk288) func288 (by kernel_rfl) Zy288 (fun rn ih=> ?_)
 refine holds_of EE_ok func288 (Zk288.below Zy288 (rn+1)) (by kernel_rfl) (Zu288 rn) (all_cons ih all_nil) Za288 (fun(n:Int) hp hb=> ?_)
 have hrec:Zy288 n<rn+1:=hp _ m0
 have hl_n:=bdI (n:=n) (hb _ m0)
 have hp0: -1000000000≤n∧n≤1000000000:=hp _ m1
 clear hp hb
 apply @ve _ (let x0:Int:=IntKind.wrap IntKind.i64 ((0:Int)-n);let x1:ByteArray:=strOfNums (List.map (fun(x:Cd.T Cd.byte)=>x) [IntKind.wrap IntKind.u8 (IntKind.wrap IntKind.i64 ((48:Int)+Int.tmod n (10:Int)))]);let x2:Int:=IntKind.wrap IntKind.i64 (Int.tdiv n (10:Int));bif decide (n<(0:Int)) then Zy288 x0<rn∧((-1000000000:Int)≤x0∧x0≤(1000000000:Int))∧ByteArray.size {data:= #[(45:UInt8)]:ByteArray}+ByteArray.size (itoaB x0)≤(4611686018427387904:Nat)∧Lf [VS ({data:= #[(45:UInt8)]:ByteArray}++itoaB x0)] [VS (itoaB n)] else bif decide (n<(10:Int)) then Lf [VS (strOfNums (List.map (fun(x:Cd.T Cd.byte)=>x) [IntKind.wrap IntKind.u8 (IntKind.wrap IntKind.i64 ((48:Int)+n))]))] [VS (itoaB n)] else(10:Int)≠(0:Int)∧Zy288 x2<rn∧((-1000000000:Int)≤x2∧x2≤(1000000000:Int))∧(10:Int)≠(0:Int)∧ByteArray.size (itoaB x2)+ByteArray.size x1≤(4611686018427387904:Nat)∧Lf [VS (itoaB x2++x1)] [VS (itoaB n)]) (by kernel_rfl)
 dsimp only
 simp only[Zy288] at hrec
 refine if_cond (fun h=> ?_) (fun h=>if_cond (fun h'=>Lf_s ?_) (fun h'=> ?_))
 ·have h:=of_decide_eq_true h
  rw[if_pos h] at hrec
  rw[wrap_i64 (by omega) (by omega)]
  have e:(0:Int)-n= -n:=by omega
  rw[e]
  have hl:=Go.Lib.itoa_length_le (-n) (by omega) (by omega)
  refine⟨?_,⟨by omega,by omega⟩,?_,Lf_s ?_⟩
  ·simp only[Zy288];rw[if_neg (by omega)];omega
  ·rw[itoaB_eq,mkB_size];show 1+_≤_;omega
  ·rw[itoaB_eq,itoaB_eq,dec_neg h];exact mkB_app [45] _
 ·have h:=of_decide_eq_false h
  have h':=of_decide_eq_true h'
  rw[wrap_i64 (by omega) (by omega),wrap_u8' (by omega) (by omega),itoaB_eq,dec_one (by omega) h']
  refine(chr_eq (n:=48+n) (by omega) (by omega)).trans ?_
  have e:(48+n).toNat=48+n.toNat:=by omega
  rw[e]
 ·have h:=of_decide_eq_false h
  have h':=of_decide_eq_false h'
  rw[if_neg h] at hrec
  have t1:Int.tdiv n 10=n/10:=Int.tdiv_eq_ediv_of_nonneg (by omega)
  have t2:Int.tmod n 10=n%10:=zbp (by omega)
  rw[t1,t2,wrap_i64 (by omega) (by omega),wrap_i64 (by omega) (by omega),wrap_u8' (by omega) (by omega)]
  have hl:=Go.Lib.itoa_length_le (n/10) (by omega) (by omega)
  have hc:strOfNums (List.map (fun(x:Cd.T Cd.byte)=>x) [(48:Int)+n%10])=mkB [UInt8.ofNat (48+n%10).toNat]:=chr_eq (n:=48+n%10) (by omega) (by omega)
  rw[hc]
  refine⟨by omega,?_,⟨by omega,by omega⟩,by omega,?_,Lf_s ?_⟩
  ·simp only[Zy288];rw[if_neg (by omega)];omega
  ·rw[itoaB_eq,mkB_size,mkB_size];simp only[zbq,zbo];omega
  ·rw[itoaB_eq,itoaB_eq,dec_step (n:=n) (by omega),mkB_app]
   have e:(48+n%10).toNat=48+n.toNat%10:=by omega
   rw[e]
def Zh288:HH:=⟨_,Zo288⟩
def Zk275:Con UU where
 α:=DVal
 md:=[.ro]
 of:=o1 (oA .eVal)
 ds:=fun x=>[dA .eVal x]
 pre:=fun v=>[valOk v=true]
 res:=fun v=>⟨[dS (mkB (valT v))],true,[]⟩
 law:=l1 (lA .eVal)
def Za275:Zk275.α→Nat→Option (Ann UU):=fun v=>annL []
def Zu275:=us [Zh288]
theorem Zo275:Holds EE (275,Zk275):=by
 refine holds_of EE_ok func275 Zk275 (by kernel_rfl) Zu275 (us_ok _) Za275 (fun(v:DVal) hp hb=> ?_)
 have hl_v_S:=bd_eVal (x:=v) (hb _ m0)
 have hp0:valOk v=true:=hp _ m0
 clear hp hb
 apply @ve _ (let x0:ByteArray:={data:= #[(39:UInt8)]:ByteArray};bif v.K==(1:Int) then((-1000000000:Int)≤v.N∧v.N≤(1000000000:Int))∧Lf [VS (itoaB v.N)] [VS (mkB (valT v))] else ByteArray.size x0+ByteArray.size v.S≤(4611686018427387904:Nat)∧ByteArray.size (x0++v.S)+ByteArray.size x0≤(4611686018427387904:Nat)∧Lf [VS (x0++v.S++x0)] [VS (mkB (valT v))]) (by kernel_rfl)
 dsimp only
 rcases valOk_cases hp0 with⟨h1,h2,h3⟩|⟨h1,h2⟩
 ·refine if_cond (fun h=>⟨⟨h2,h3⟩,Lf_s ?_⟩) (fun h=>absurd h (by simp[h1]))
  simp only[valT,if_pos h1];rfl
 ·refine if_cond (fun h=>absurd h (by simp[h1])) (fun h=> ?_)
  have e:({data:= #[(39:UInt8)]:ByteArray}++v.S)=mkB (39::bs v.S):=by
   conv=>lhs;rw[←mkB_bs v.S]
   exact mkB_app [39] _
  rw[e]
  refine⟨?_,?_,Lf_s ?_⟩
  ·show 1+_≤_;omega
  ·rw[mkB_size];show _+1≤_;simp only[zbq,bs_len];omega
  ·simp only[valT,if_neg (show¬v.K=1 by omega)];exact mkB_app (39::bs v.S) [39]
def Zh275:HH:=⟨_,Zo275⟩
def Zk255:Con UU where
 α:=(List DVal)
 md:=[.ro]
 of:=o1 (oL .eVal)
 ds:=fun x=>[dL .eVal x]
 pre:=fun l=>[l.length≤5,l.all valOk=true]
 res:=fun l=>⟨[dS (mkB (valsT l))],true,[]⟩
 law:=l1 (lL .eVal)
def Zi255_3(l:(List DVal)):ByteArray×Int×Unit→Prop:=fun(s,i,_)=>0≤i∧i≤l.length∧s=mkB (40::Go.Lib.join ((l.take i.toNat).map valT) [44])
def Zm255_3(l:(List DVal)):ByteArray×Int×Unit→Nat:=fun(s,i,_)=>l.length-i.toNat
def Za255:Zk255.α→Nat→Option (Ann UU):=fun l=>annL [(3,annOf [.slot 3 (3,1024) (.lit .str),.slot 4 (4,1024) (.lit (.int .i64))] (fun _=>Zi255_3 l) (Zm255_3 l))]
def Zu255:=us [Zh275]
theorem Zo255:Holds EE (255,Zk255):=by
 refine holds_of EE_ok func255 Zk255 (by kernel_rfl) Zu255 (us_ok _) Za255 (fun(l:(List DVal)) hp hb=> ?_)
 have hl_l:l.length≤9223372036854775807:=bdL (hb _ m0)
 have hp0:l.length≤5:=hp _ m0
 have hp1:l.all valOk=true:=hp _ m1
 clear hp hb
 apply @ve _ (Zi255_3 l ({data:= #[(40:UInt8)]:ByteArray},(0:Int),())∧∀(y:ByteArray×Int×PUnit),let x2:Nat:=y.2.1.toNat;let x3:ByteArray:=y.1++{data:= #[(44:UInt8)]:ByteArray};let x1:DVal:=List.getD l x2 zVal;let x0:ByteArray:=mkB (valT x1);Zi255_3 l y→bif decide (y.2.1<(l.length:Int)) then bif decide (y.2.1>(0:Int)) then ByteArray.size y.1+ByteArray.size {data:= #[(44:UInt8)]:ByteArray}≤(4611686018427387904:Nat)∧(0:Int)≤y.2.1∧x2<l.length∧valOk x1=true∧ByteArray.size x3+ByteArray.size x0≤(4611686018427387904:Nat)∧Zi255_3 l (x3++x0,IntKind.wrap IntKind.i64 (y.2.1+(1:Int)),())∧Zm255_3 l (x3++x0,IntKind.wrap IntKind.i64 (y.2.1+(1:Int)),())<Zm255_3 l y else(0:Int)≤y.2.1∧x2<l.length∧valOk x1=true∧ByteArray.size y.1+ByteArray.size x0≤(4611686018427387904:Nat)∧Zi255_3 l (y.1++x0,IntKind.wrap IntKind.i64 (y.2.1+(1:Int)),())∧Zm255_3 l (y.1++x0,IntKind.wrap IntKind.i64 (y.2.1+(1:Int)),())<Zm255_3 l y else ByteArray.size y.1+ByteArray.size {data:= #[(41:UInt8)]:ByteArray}≤(4611686018427387904:Nat)∧Lf [VS (y.1++{data:= #[(41:UInt8)]:ByteArray})] [VS (mkB (valsT l))]) (by kernel_rfl)
 dsimp only
 refine⟨⟨by omega,by omega,rfl⟩,?_⟩
 rintro⟨s,i,⟨⟩⟩ ⟨h1,h2,rfl⟩
 simp only
 have hj:=join_len (l.take i.toNat) (all_take hp1 _)
 rw[zaw] at hj
 refine if_cond (fun hc=> ?_) (fun hc=> ?_)
 ·have hc:i<l.length:=of_decide_eq_true hc
  have hv:=all_getD hp1 zVal h1 hc
  have hvl:=valT_len hv
  rw[wrap_i64 (by omega) (by omega)]
  have ht:(l.take (i+1).toNat).map valT=(l.take i.toNat).map valT++[valT (List.getD l i.toNat zVal)]:=by rw[←take_step l zVal h1 hc,zef];rfl
  refine if_cond (fun h=> ?_) (fun h=> ?_)
  ·have h:=of_decide_eq_true h
   have e:(mkB (40::Go.Lib.join ((l.take i.toNat).map valT) [44])++{data:= #[(44:UInt8)]:ByteArray})=mkB (40::(Go.Lib.join ((l.take i.toNat).map valT) [44]++[44])):=mkB_app _ [44]
   rw[e,mkB_app]
   have hn:¬(l.take i.toNat).map valT=[]:=by
    intro h0
    have:=congrArg List.length h0
    rw[zco,zaw,zbo] at this
    omega
   refine⟨?_,h1,by omega,hv,?_,⟨by omega,by omega,?_⟩,by simp only[Zm255_3];omega⟩
   ·rw[mkB_size];show _+1≤_;simp only[zbq];omega
   ·rw[mkB_size,mkB_size];simp only[zbq,zce,zbo];omega
   ·rw[ht,join_snoc,if_neg hn];simp
  ·have h:=of_decide_eq_false h
   have h0:i=0:=by omega
   subst h0
   rw[mkB_app]
   refine⟨by omega,by omega,hv,?_,⟨by omega,by omega,?_⟩,by simp only[Zm255_3];omega⟩
   ·rw[mkB_size,mkB_size];simp only[zbq];omega
   ·rw[ht,join_snoc];simp[Go.Lib.join_nil]
 ·have hc:¬i<l.length:=of_decide_eq_false hc
  rw[take_all l (by omega)]
  refine⟨?_,Lf_s ?_⟩
  ·rw[mkB_size];show _+1≤_;simp only[zbq];rw[take_all l (by omega)] at hj;omega
  ·exact mkB_app _ [41]
def Zh255:HH:=⟨_,Zo255⟩
def Zk208:Con UU where
 α:=DFact
 md:=[.ro]
 of:=o1 (oA .eFact)
 ds:=fun x=>[dA .eFact x]
 pre:=fun _=>[]
 res:=fun f=>⟨[dS (factText f)],true,[]⟩
 law:=l1 (lA .eFact)
def Za208:Zk208.α→Nat→Option (Ann UU):=fun f=>annL []
def Zu208:=us [Zh136,Zh255]
theorem Zo208:Holds EE (208,Zk208):=by
 refine holds_of EE_ok func208 Zk208 (by kernel_rfl) Zu208 (us_ok _) Za208 (fun(f:DFact) hp hb=> ?_)
 have hz0:=bd_eFact (x:=f) (hb _ m0)
 have hl_f_Kind:=hz0.1
 have hl_f_Fields:=hz0.2
 clear hp hb
 apply @ve _ (bif !factOk f then Lf [VS ({data:= #[]:ByteArray})] [VS (factText f)] else f.Fields.length≤(5:Nat)∧List.all f.Fields valOk=true∧ByteArray.size f.Kind+ByteArray.size (mkB (valsT f.Fields))≤(4611686018427387904:Nat)∧Lf [VS (f.Kind++mkB (valsT f.Fields))] [VS (factText f)]) (by kernel_rfl)
 refine if_cond (fun h=>Lf_s ?_) (fun h=> ?_)
 ·have h:factOk f=false:=by simpa using h
  simp only[factText,h];rfl
 ·have h:factOk f=true:=by simpa using h
  obtain⟨h1,h2,h3,h4⟩:=factOk_fields h
  have hj:=join_len f.Fields h2
  refine⟨h1,h2,?_,Lf_s ?_⟩
  ·rw[mkB_size];simp only[valsT,zbq,zce,zbo];omega
  ·simp only[factText,h,if_true];exact app_mkB _ _
def Zh208:HH:=⟨_,Zo208⟩
def Zk150:Con UU where
 α:=DFact
 md:=[.ro]
 of:=o1 (oA .eFact)
 ds:=fun x=>[dA .eFact x]
 pre:=fun _=>[]
 res:=fun f=>⟨[dS (factText f)],true,[]⟩
 law:=l1 (lA .eFact)
def Za150:Zk150.α→Nat→Option (Ann UU):=fun f=>annL []
def Zu150:=us [Zh208]
theorem Zo150:Holds EE (150,Zk150):=by
 refine holds_of EE_ok func150 Zk150 (by kernel_rfl) Zu150 (us_ok _) Za150 (fun(f:DFact) hp hb=> ?_)
 have hz0:=bd_eFact (x:=f) (hb _ m0)
 have hl_f_Kind:=hz0.1
 have hl_f_Fields:=hz0.2
 clear hp hb
 apply @ve _ (Lf [VS (factText f)] [VS (factText f)]) (by kernel_rfl)
 exact Lf_rfl _
def Zh150:HH:=⟨_,Zo150⟩
def Zk267:Con UU where
 α:=DVal
 md:=[.ro]
 of:=o1 (oA .eVal)
 ds:=fun x=>[dA .eVal x]
 pre:=fun _=>[]
 res:=fun v=>⟨[dS (valText v)],true,[]⟩
 law:=l1 (lA .eVal)
def Za267:Zk267.α→Nat→Option (Ann UU):=fun v=>annL []
def Zu267:=us [Zh174,Zh281]
theorem Zo267:Holds EE (267,Zk267):=by
 refine holds_of EE_ok func267 Zk267 (by kernel_rfl) Zu267 (us_ok _) Za267 (fun(v:DVal) hp hb=> ?_)
 have hl_v_S:=bd_eVal (x:=v) (hb _ m0)
 clear hp hb
 apply @ve _ (let x0:ByteArray:={data:= #[(39:UInt8)]:ByteArray};bif !valOk v then Lf [VS ({data:= #[]:ByteArray})] [VS (valText v)] else bif v.K==(1:Int) then Lf [VS (itoaB v.N)] [VS (valText v)] else ByteArray.size x0+ByteArray.size v.S≤(4611686018427387904:Nat)∧ByteArray.size (x0++v.S)+ByteArray.size x0≤(4611686018427387904:Nat)∧Lf [VS (x0++v.S++x0)] [VS (valText v)]) (by kernel_rfl)
 dsimp only
 refine if_cond (fun h=>Lf_s ?_) (fun h=> ?_)
 ·have h:valOk v=false:=by simpa using h
  simp only[valText,h];rfl
 ·have h:valOk v=true:=by simpa using h
  have ev:valText v=mkB (valT v):=by simp only[valText,h,if_true]
  rw[ev]
  rcases valOk_cases h with⟨h1,h2,h3⟩|⟨h1,h2⟩
  ·refine if_cond (fun h=>Lf_s ?_) (fun h=>absurd h (by simp[h1]))
   simp only[valT,if_pos h1];rfl
  ·refine if_cond (fun h=>absurd h (by simp[h1])) (fun h=> ?_)
   have e:({data:= #[(39:UInt8)]:ByteArray}++v.S)=mkB (39::bs v.S):=by
    conv=>lhs;rw[←mkB_bs v.S]
    exact mkB_app [39] _
   rw[e]
   refine⟨?_,?_,Lf_s ?_⟩
   ·show 1+_≤_;omega
   ·rw[mkB_size];show _+1≤_;simp only[zbq,bs_len];omega
   ·simp only[valT,if_neg (show¬v.K=1 by omega)];exact mkB_app (39::bs v.S) [39]
def Zh267:HH:=⟨_,Zo267⟩
def Zk236:Con UU where
 α:=DFact
 md:=[.ro]
 of:=o1 (oA .eFact)
 ds:=fun x=>[dA .eFact x]
 pre:=fun _=>[]
 res:=fun f=>⟨[dS (factText f)],true,[]⟩
 law:=l1 (lA .eFact)
def Zi236_5(f:DFact):List ByteArray×Int×(ByteArray×List DVal×Unit)×Unit→Prop:=fun(out,i,fb,_)=>fb=(f.Kind,f.Fields,())∧factOk f=true∧0≤i∧i≤f.Fields.length∧out=(f.Fields.take i.toNat).map valText
def Zm236_5(f:DFact):List ByteArray×Int×(ByteArray×List DVal×Unit)×Unit→Nat:=fun(out,i,fb,_)=>f.Fields.length-i.toNat
def Za236:Zk236.α→Nat→Option (Ann UU):=fun f=>annL [(5,annOf [.slot 3 (3,1024) (.own .str true),.slot 12 (12,1024) (.lit (.int .i64)),.box 1 (1,1024) [.lit .str,.shr .eVal]] (fun _=>Zi236_5 f) (Zm236_5 f))]
def Zu236:=us [Zh163,Zh267,Zh268]
theorem Zo236:Holds EE (236,Zk236):=by
 refine holds_of EE_ok func236 Zk236 (by kernel_rfl) Zu236 (us_ok _) Za236 (fun(f:DFact) hp hb=> ?_)
 have hz0:=bd_eFact (x:=f) (hb _ m0)
 have hl_f_Kind:=hz0.1
 have hl_f_Fields:=hz0.2
 clear hp hb
 apply @ve _ (bif !factOk f then Lf [VS ({data:= #[]:ByteArray})] [VS (factText f)] else Zi236_5 f ([],(0:Int),(f.Kind,f.Fields,()),())∧∀(y:List ByteArray×Int×(ByteArray×List DVal×PUnit)×PUnit),let x1:ByteArray:=y.2.2.1.1++{data:= #[(40:UInt8)]:ByteArray};let x3:Nat:=y.2.1.toNat;let x5:ByteArray:=joinB y.1 {data:= #[(44:UInt8)]:ByteArray};let x0:ByteArray:=x1++x5;let x2:List ByteArray:=[valText (List.getD f.Fields x3 zVal)];let x4:Nat:=ByteArray.size x5;Zi236_5 f y→bif decide (y.2.1<(f.Fields.length:Int)) then(0:Int)≤y.2.1∧x3<f.Fields.length∧y.1.length+x2.length≤(4294967296:Nat)∧Zi236_5 f (y.1++x2,IntKind.wrap IntKind.i64 (y.2.1+(1:Int)),(y.2.2.1.1,y.2.2.1.2.1,()),())∧Zm236_5 f (y.1++x2,IntKind.wrap IntKind.i64 (y.2.1+(1:Int)),(y.2.2.1.1,y.2.2.1.2.1,()),())<Zm236_5 f y else ByteArray.size y.2.2.1.1+ByteArray.size {data:= #[(40:UInt8)]:ByteArray}≤(4611686018427387904:Nat)∧x4≤(140737488355328:Nat)∧y.1.length≤(140737488355328:Nat)∧ByteArray.size x1+x4≤(4611686018427387904:Nat)∧ByteArray.size x0+ByteArray.size {data:= #[(41:UInt8)]:ByteArray}≤(4611686018427387904:Nat)∧Lf [VS (x0++{data:= #[(41:UInt8)]:ByteArray})] [VS (factText f)]) (by kernel_rfl)
 dsimp only
 refine if_cond (fun h=>Lf_s ?_) (fun h=> ?_)
 ·have h:factOk f=false:=by simpa using h
  simp only[factText,h];rfl
 have h:factOk f=true:=by simpa using h
 refine⟨⟨rfl,h,by omega,by omega,rfl⟩,?_⟩
 rintro⟨out,i,fb,⟨⟩⟩ ⟨rfl,_,h1,h2,rfl⟩
 obtain⟨g1,g2,g3,g4⟩:=factOk_fields h
 simp only
 refine if_cond (fun hc=> ?_) (fun hc=> ?_)
 ·have hc:i<f.Fields.length:=of_decide_eq_true hc
  rw[wrap_i64 (by omega) (by omega)]
  refine⟨h1,by omega,by simp;omega,⟨rfl,h,by omega,by omega,?_⟩,by simp only[Zm236_5];omega⟩
  rw[←take_step f.Fields zVal h1 hc,zef];rfl
 ·have hc:¬i<f.Fields.length:=of_decide_eq_false hc
  rw[take_all f.Fields (by omega)]
  have em:f.Fields.map valText=(f.Fields.map valT).map mkB:=by
   rw[List.map_map]
   exact zcr fun v hv=>by
    have:=zcb.1 g2 v hv
    simp only[valText,this,if_true,Function.comp]
  have ej:joinB (f.Fields.map valText) {data:= #[(44:UInt8)]:ByteArray}=mkB (Go.Lib.join (f.Fields.map valT) [44]):=by
   rw[em,joinB_eq,List.map_map]
   have:(bs∘mkB)=id:=funext fun l=>bs_mkB l
   rw[this,List.map_id]
   rfl
  rw[ej]
  have hj:=join_len f.Fields g2
  have e1:(f.Kind++{data:= #[(40:UInt8)]:ByteArray})=mkB (bs f.Kind++[40]):=app_mkB _ [40]
  rw[e1,mkB_app]
  refine⟨?_,?_,by simp;omega,?_,?_,Lf_s ?_⟩
  ·show _+1≤_;omega
  ·rw[mkB_size];omega
  ·rw[mkB_size,mkB_size];simp only[zce,bs_len,zbq,zbo];omega
  ·rw[mkB_size];show _+1≤_;simp only[zce,bs_len,zbq,zbo];omega
  ·simp only[factText,h,if_true]
   refine(mkB_app _ [41]).trans ?_
   simp[valsT]
def Zh236:HH:=⟨_,Zo236⟩
def Zk178:Con UU where
 α:=DFact
 md:=[.ro]
 of:=o1 (oA .eFact)
 ds:=fun x=>[dA .eFact x]
 pre:=fun _=>[]
 res:=fun f=>⟨[dS (factText f)],true,[]⟩
 law:=l1 (lA .eFact)
def Za178:Zk178.α→Nat→Option (Ann UU):=fun f=>annL []
def Zu178:=us [Zh236]
theorem Zo178:Holds EE (178,Zk178):=by
 refine holds_of EE_ok func178 Zk178 (by kernel_rfl) Zu178 (us_ok _) Za178 (fun(f:DFact) hp hb=> ?_)
 have hz0:=bd_eFact (x:=f) (hb _ m0)
 have hl_f_Kind:=hz0.1
 have hl_f_Fields:=hz0.2
 clear hp hb
 apply @ve _ (Lf [VS (factText f)] [VS (factText f)]) (by kernel_rfl)
 exact Lf_rfl _
def Zh178:HH:=⟨_,Zo178⟩
def Zk77:Con UU where
 α:=(List DTask)×ByteArray
 md:=[.ro,.ro]
 of:=oC (oL .eTask) (o1 oS)
 ds:=fun x=>[dL .eTask x.1,dS x.2]
 pre:=fun _=>[]
 res:=fun(l,key)=>⟨[dI (taskAtKey l key)],true,[]⟩
 law:=lC (lL .eTask) (l1 lS)
def Zi77_2(l:(List DTask))(key:ByteArray):Int×Unit→Prop:=fun(i,_)=>0≤i∧i≤l.length∧∀j:Nat,(j:Int)<i→decide (factText (List.getD l j zTask).F=key)=false
def Zm77_2(l:(List DTask))(key:ByteArray):Int×Unit→Nat:=fun(i,_)=>l.length-i.toNat
def Za77:Zk77.α→Nat→Option (Ann UU):=fun(l,key)=>annL [(2,annOf [.slot 5 (5,1024) (.lit (.int .i64))] (fun _=>Zi77_2 l key) (Zm77_2 l key))]
def Zu77:=us [Zh150]
theorem Zo77:Holds EE (77,Zk77):=by
 refine holds_of EE_ok func77 Zk77 (by kernel_rfl) Zu77 (us_ok _) Za77 (fun x hp hb=> ?_)
 obtain⟨l,key⟩:=x
 have hl_l:l.length≤9223372036854775807:=bdL (hb _ m0)
 have hl_key:=bdS (s:=key) (hb _ m1)
 clear hp hb
 apply @ve _ (Zi77_2 l key ((0:Int),())∧∀(y:Int×PUnit),Zi77_2 l key y→bif decide (y.1<(l.length:Int)) then(0:Int)≤y.1∧y.1.toNat<l.length∧bif ByteArray.toList (factText (List.getD l y.1.toNat zTask).F)==ByteArray.toList key then Li y.1 (taskAtKey l key) else Zi77_2 l key (IntKind.wrap IntKind.i64 (y.1+(1:Int)),())∧Zm77_2 l key (IntKind.wrap IntKind.i64 (y.1+(1:Int)),())<Zm77_2 l key y else Li (-1:Int) (taskAtKey l key)) (by kernel_rfl)
 refine⟨⟨by omega,by omega,by intro j hj;omega⟩,?_⟩
 rintro⟨i,⟨⟩⟩ ⟨h1,h2,hR⟩
 simp only
 refine if_cond (fun hc=> ?_) (fun hc=> ?_)
 ·have hc:i<l.length:=of_decide_eq_true hc
  simp(disch:=omega) only[wrap_i64,toList_beq]
  refine⟨by omega,by omega,if_cond (fun h=>Lf_i ?_) (fun h=>⟨⟨by omega,by omega,upto_no (p:=fun j=>decide (factText (List.getD l j zTask).F=key)) h1 hR h⟩,by simp only[Zm77_2];omega⟩)⟩
  rw[taskAtKey,idxI_found (i:=i.toNat) (by omega) h (fun j hj=>hR j (by omega))]
  omega
 ·have hc:¬i<l.length:=of_decide_eq_false hc
  exact Lf_i (idxI_none (fun j hj=>hR j (by omega))).symm
def Zh77:HH:=⟨_,Zo77⟩
def Zk177:Con UU where
 α:=DTask×ByteArray
 md:=[.ro,.ro]
 of:=fun|[.agg [.lit (.string a0),.sl .eVal a1,.lit (.string a2),.lit (.int .i64 a3),.lit (.int .i64 a4),.lit (.int .i64 a5),.lit (.int .i64 a6),.lit (.int .i64 a7),.lit (.string a8)],.ptr [.lit (.string a9)]]=>some (⟨⟨a0,a1⟩,a2,a3,a4,a5,⟨a6,a7,a8⟩⟩,a9)|_=>none
 ds:=fun(t,key)=>[.agg [.lit (.string t.F.Kind),.sl .eVal t.F.Fields,.lit (.string t.Undo),.lit (.int .i64 t.State),.lit (.int .i64 t.Tries),.lit (.int .i64 t.Due),.lit (.int .i64 t.V.K),.lit (.int .i64 t.V.N),.lit (.string t.V.S)],.ptr [.lit (.string key)]]
 pre:=fun(t,key)=>[]
 res:=fun(t,key)=>⟨[.one (.lit (.bool (decide (factText t.F=key))))],true,[]⟩
 law:=by intro l x h;(try simp only at h);split at h<;>cases h;rfl
def Za177:Zk177.α→Nat→Option (Ann UU):=fun(t,key)=>annL []
def Zu177:=us [Zh178]
theorem Zo177:Holds EE (177,Zk177):=by
 refine holds_of EE_ok func177 Zk177 (by kernel_rfl) Zu177 (us_ok _) Za177 (fun x hp hb=> ?_)
 obtain⟨t,key⟩:=x
 have hb_t:BdDV (U:=UU) (.agg [.lit (.string t.F.Kind),.sl .eVal t.F.Fields,.lit (.string t.Undo),.lit (.int .i64 t.State),.lit (.int .i64 t.Tries),.lit (.int .i64 t.Due),.lit (.int .i64 t.V.K),.lit (.int .i64 t.V.N),.lit (.string t.V.S)]):=hb _ (zab)
 have hl_t_F_Kind:t.F.Kind.size≤9223372036854775807:=Bd.str (hb_t _ (by simp))
 have hl_t_F_Fields:t.F.Fields.length≤9223372036854775807:=Bd.len (U:=UU) (τ:=.eVal) (xs:=t.F.Fields) (hb_t _ (by simp))
 have hl_t_Undo:t.Undo.size≤9223372036854775807:=Bd.str (hb_t _ (by simp))
 have hl_t_V_S:t.V.S.size≤9223372036854775807:=Bd.str (hb_t _ (by simp))
 have hb_key:BdDV (U:=UU) (.ptr [.lit (.string key)]):=hb _ (zaa _ (zab))
 have hl_key:key.size≤9223372036854775807:=Bd.str (hb_key _ (by simp))
 clear hp hb
 apply @ve _ (Lb (ByteArray.toList (factText t.F)==ByteArray.toList key) (decide (factText t.F=key))) (by kernel_rfl)
 rw[toList_beq]
 exact Lf_rfl _
def Zh177:HH:=⟨_,Zo177⟩
def Zk102:Con UU where
 α:=(List DTask)×ByteArray
 md:=[.ro,.ro]
 of:=oC (oL .eTask) (o1 oS)
 ds:=fun x=>[dL .eTask x.1,dS x.2]
 pre:=fun _=>[]
 res:=fun(l,key)=>⟨[dI (taskAtKey l key)],true,[]⟩
 law:=lC (lL .eTask) (l1 lS)
def Za102:Zk102.α→Nat→Option (Ann UU):=fun(l,key)=>annL []
def Zu102:=us [Zh173,Zh177]
theorem Zo102:Holds EE (102,Zk102):=by
 refine holds_of EE_ok func102 Zk102 (by kernel_rfl) Zu102 (us_ok _) Za102 (fun x hp hb=> ?_)
 obtain⟨l,key⟩:=x
 have hl_l:l.length≤9223372036854775807:=bdL (hb _ m0)
 have hl_key:=bdS (s:=key) (hb _ m1)
 clear hp hb
 apply @ve _ ((∀(j:Nat),j<l.length→closP Zk177 [DV.ptr [CS key]] [daTask (List.getD l j zTask)]=some (Value.bool (boolOf (closP Zk177 [DV.ptr [CS key]] [daTask (List.getD l j zTask)]))))∧Li (idxI (l.length) fun(j:Nat)=>boolOf (closP Zk177 [DV.ptr [CS key]] [daTask (List.getD l j zTask)])) (taskAtKey l key)) (by kernel_rfl)
 have hc:∀x:DTask,closP Zk177 [.ptr [.lit (.string key)]] [daTask x]=some (.bool (decide (factText x.F=key))):=fun x=>closP_of (x:=(x,key)) rfl rfl rfl rfl (by simp[Zk177])
 refine⟨fun j hj=> ?_,Lf_i ?_⟩
 ·show closP Zk177 [.ptr [.lit (.string key)]] [daTask (List.getD l j zTask)]=_
  rw[hc];rfl
 ·exact idxI_congr fun j hj=>by
   show boolOf (closP Zk177 [.ptr [.lit (.string key)]] [daTask (List.getD l j zTask)])=_
   rw[hc];rfl
def Zh102:HH:=⟨_,Zo102⟩
def canPush(l:List DUndo)(t:DTask):Bool:=undosOk l&&factOk t.F&&nameOk t.Undo&& !hasKey l (factText t.F)&& !decide (30≤l.length)
def pushUndo(l:List DUndo)(t:DTask):List DUndo×Bool:=if canPush l t=true then(l++[⟨factText t.F,⟨t.Undo,t.F.Fields⟩⟩],true) else(l,false)
def replied(ok:Bool)(v:DVal)(t:DTask):DTask:=⟨t.F,t.Undo,if ok=true then 3 else 4,t.Tries,t.Due,v⟩
def replyTask(l:List DTask)(key:ByteArray)(ok:Bool)(v:DVal):List DTask×Int:=
 if tasksOk l=true∧valOk v=true∧0≤taskAtKey l key∧(List.getD l (taskAtKey l key).toNat zTask).State≠1 then
  (if(List.getD l (taskAtKey l key).toNat zTask).State=2 then(l.modify (taskAtKey l key).toNat (replied ok v),1) else(l,2)) else(l,3)
theorem undosOk_len{l:List DUndo}(h:undosOk l=true):l.length≤30:=by
 simp only[undosOk,zaf,decide_eq_true_eq] at h;exact h.1
theorem tasksOk_at{l:List DTask}(h:tasksOk l=true){k:Nat}(hk:k<l.length):taskOk (List.getD l k zTask)=true:=by
 simp only[tasksOk,zaf] at h
 have:=allI_iff.1 h.2 k hk
 simp only[taskAt,zaf] at this
 exact this.1
theorem taskOk_st{t:DTask}(h:taskOk t=true):(1≤t.State∧t.State≤4)∧(0≤t.Tries∧t.Tries≤4)∧(0≤t.Due∧t.Due≤1000001000)∧((t.State=1→t.Tries=0)∧(t.State=2→t.Tries≠0))∧t.F.Fields.length≤5:=by
 simp only[taskOk,zaf,decide_eq_true_eq] at h
 obtain⟨⟨⟨⟨⟨⟨h1,h2⟩,h3⟩,h4⟩,h5⟩,h6⟩,h7⟩:=h
 refine⟨h3,h4,h5,h7,?_⟩
 simp only[factOk,zaf,decide_eq_true_eq] at h1
 first|exact h1.1.2|exact h1.2.1|omega
theorem taskAtKey_lt{l:List DTask}{key:ByteArray}(h:0≤taskAtKey l key):(taskAtKey l key).toNat<l.length:=by
 unfold taskAtKey at*
 rcases idxI_cases l.length (fun k=>decide (factText (List.getD l k zTask).F=key)) with⟨h1,h2⟩|⟨i,h1,h2,h3,h4⟩
 ·rw[h1] at h;omega
 ·rw[h2];omega
theorem reply_none{l:List DTask}{key:ByteArray}{ok:Bool}{v:DVal}(h:¬(tasksOk l=true∧valOk v=true∧0≤taskAtKey l key∧(List.getD l (taskAtKey l key).toNat zTask).State≠1)):replyTask l key ok v=(l,3):=if_neg h
theorem reply_old{l:List DTask}{key:ByteArray}{ok:Bool}{v:DVal}(h:tasksOk l=true∧valOk v=true∧0≤taskAtKey l key∧(List.getD l (taskAtKey l key).toNat zTask).State≠1)(h2:(List.getD l (taskAtKey l key).toNat zTask).State≠2):replyTask l key ok v=(l,2):=by rw[replyTask,if_pos h,if_neg h2]
theorem reply_new{l:List DTask}{key:ByteArray}{ok:Bool}{v:DVal}(h:tasksOk l=true∧valOk v=true∧0≤taskAtKey l key∧(List.getD l (taskAtKey l key).toNat zTask).State≠1)(h2:(List.getD l (taskAtKey l key).toNat zTask).State=2):replyTask l key ok v=(l.modify (taskAtKey l key).toNat (replied ok v),1):=by rw[replyTask,if_pos h,if_pos h2]
theorem reply_t(l:List DTask)(k:Nat)(v:DVal):(((l.modify k fun x=>⟨x.F,x.Undo,4,x.Tries,x.Due,x.V⟩).modify k fun x=>⟨x.F,x.Undo,3,x.Tries,x.Due,x.V⟩).modify k fun x=>⟨x.F,x.Undo,x.State,x.Tries,x.Due,v⟩)=l.modify k (replied true v):=by
 rw[modify_modify,modify_modify];rfl
theorem reply_f(l:List DTask)(k:Nat)(v:DVal):((l.modify k fun x=>⟨x.F,x.Undo,4,x.Tries,x.Due,x.V⟩).modify k fun x=>⟨x.F,x.Undo,x.State,x.Tries,x.Due,v⟩)=l.modify k (replied false v):=by
 rw[modify_modify];rfl
theorem Lf_row{a a':List DTask}{n:Int}(h:a=a'):Lf [.one (.sl .eTask a),.one (.lit (.int .i64 n))] [.one (.sl .eTask a'),.one (.lit (.int .i64 n))]:=by
 subst h;exact Lf_rfl _
theorem asD_row{a a':List DTask}(h:a=a'):asD ([DV.one (Cell.sl Cd.eTask a)]:List (DV UU))=asD ([DV.one (Cell.sl Cd.eTask a')]:List (DV UU)):=by rw[h]
def Zk146:Con UU where
 α:=(List DUndo)×DTask
 md:=[.ro,.ro]
 of:=oC (oL .eUndo) (o1 (oA .eTask))
 ds:=fun x=>[dL .eUndo x.1,dA .eTask x.2]
 pre:=fun(l,t)=>[sizeUndoS l≤4294967296,t.F.Fields.length≤4294967296]
 res:=fun(l,t)=>⟨[dL .eUndo ((pushUndo l t).1),dO ((pushUndo l t).2)],true,[]⟩
 law:=lC (lL .eUndo) (l1 (lA .eTask))
def Zi146_6(l:(List DUndo))(t:DTask):List DUndo×Int×(ByteArray×List DVal×ByteArray×Int×Int×Int×Int×Int×ByteArray×Unit)×Unit→Prop:=fun(row,i,fb,_)=>row=l∧fb=(t.F.Kind,t.F.Fields,t.Undo,t.State,t.Tries,t.Due,t.V.K,t.V.N,t.V.S,())∧0≤i∧i≤l.length∧∀j:Nat,(j:Int)<i→decide ((List.getD l j zUndo).Key=factText t.F)=false
def Zm146_6(l:(List DUndo))(t:DTask):List DUndo×Int×(ByteArray×List DVal×ByteArray×Int×Int×Int×Int×Int×ByteArray×Unit)×Unit→Nat:=fun(row,i,fb,_)=>l.length-i.toNat
def Za146:Zk146.α→Nat→Option (Ann UU):=fun(l,t)=>annL [(6,annOf [.slot 6 (6,1024) (.own .eUndo true),.slot 8 (8,1024) (.lit (.int .i64)),.box 3 (3,1024) [.lit .str,.shr .eVal,.lit .str,.lit (.int .i64),.lit (.int .i64),.lit (.int .i64),.lit (.int .i64),.lit (.int .i64),.lit .str]] (fun _=>Zi146_6 l t) (Zm146_6 l t))]
def Zu146:=us [Zh63,Zh68,Zh136,Zh135,Zh150]
theorem Zo146:Holds EE (146,Zk146):=by
 refine holds_of EE_ok func146 Zk146 (by kernel_rfl) Zu146 (us_ok _) Za146 (fun x hp hb=> ?_)
 obtain⟨l,t⟩:=x
 have hl_l:l.length≤9223372036854775807:=bdL (hb _ m0)
 have hz1:=bd_eTask (x:=t) (hb _ m1)
 have hl_t_F_Kind:=hz1.1
 have hl_t_F_Fields:=hz1.2.1
 have hl_t_Undo:=hz1.2.2.1
 have hl_t_V_S:=hz1.2.2.2
 have hp0:sizeUndoS l≤4294967296:=hp _ m0
 have hp1:t.F.Fields.length≤4294967296:=hp _ m1
 clear hp hb
 apply @ve _ (let x0:Int:=(l.length:Int);sizeUndoS l≤(4294967296:Nat)∧bif !undosOk l then Lf [VL .eUndo l,VB false] [VL .eUndo ((pushUndo l t).1),VB ((pushUndo l t).2)] else bif !factOk t.F then Lf [VL .eUndo l,VB false] [VL .eUndo ((pushUndo l t).1),VB ((pushUndo l t).2)] else bif !nameOk t.Undo then Lf [VL .eUndo l,VB false] [VL .eUndo ((pushUndo l t).1),VB ((pushUndo l t).2)] else bif decide (x0≥(30:Int)) then Lf [VL .eUndo l,VB false] [VL .eUndo ((pushUndo l t).1),VB ((pushUndo l t).2)] else Zi146_6 l t (l,(0:Int),(t.F.Kind,t.F.Fields,t.Undo,t.State,t.Tries,t.Due,t.V.K,t.V.N,t.V.S,()),())∧∀(y:List DUndo×Int×(ByteArray×List DVal×ByteArray×Int×Int×Int×Int×Int×ByteArray×PUnit)×PUnit),let x1:List DUndo:=[{Key:=factText t.F,F:={Kind:=y.2.2.1.2.2.1,Fields:=[]++y.2.2.1.2.1:DFact}:DUndo}];let x2:Nat:=y.2.1.toNat;Zi146_6 l t y→bif decide (y.2.1<x0) then(0:Int)≤y.2.1∧x2<l.length∧bif ByteArray.toList (List.getD l x2 zUndo).Key==ByteArray.toList (factText t.F) then Lf [VL .eUndo y.1,VB false] [VL .eUndo ((pushUndo l t).1),VB ((pushUndo l t).2)] else Zi146_6 l t (y.1,IntKind.wrap IntKind.i64 (y.2.1+(1:Int)),(y.2.2.1.1,y.2.2.1.2.1,y.2.2.1.2.2.1,y.2.2.1.2.2.2.1,y.2.2.1.2.2.2.2.1,y.2.2.1.2.2.2.2.2.1,y.2.2.1.2.2.2.2.2.2.1,y.2.2.1.2.2.2.2.2.2.2.1,y.2.2.1.2.2.2.2.2.2.2.2.1,()),())∧Zm146_6 l t (y.1,IntKind.wrap IntKind.i64 (y.2.1+(1:Int)),(y.2.2.1.1,y.2.2.1.2.1,y.2.2.1.2.2.1,y.2.2.1.2.2.2.1,y.2.2.1.2.2.2.2.1,y.2.2.1.2.2.2.2.2.1,y.2.2.1.2.2.2.2.2.2.1,y.2.2.1.2.2.2.2.2.2.2.1,y.2.2.1.2.2.2.2.2.2.2.2.1,()),())<Zm146_6 l t y else(0:Nat)+y.2.2.1.2.1.length≤(4294967296:Nat)∧y.1.length+x1.length≤(4294967296:Nat)∧Lf [VL .eUndo (y.1++x1),VB true] [VL .eUndo ((pushUndo l t).1),VB ((pushUndo l t).2)]) (by kernel_rfl)
 dsimp only
 have hN:canPush l t=false→Lf [.one (.sl .eUndo l),.one (.lit (.bool false))] [.one (.sl .eUndo (pushUndo l t).1),.one (.lit (.bool (pushUndo l t).2))]:=fun h=>by
  simp only[pushUndo,h];exact Lf_rfl _
 have hlen:undosOk l=true→l.length≤30:=undosOk_len
 refine⟨hp0,if_cond (fun h1=>hN ?_) (fun h1=>if_cond (fun h2=>hN ?_) (fun h2=>if_cond (fun h3=>hN ?_) (fun h3=>if_cond (fun h4=>hN ?_) (fun h4=>⟨⟨rfl,rfl,by omega,by omega,by intro j hj;omega⟩,?_⟩))))⟩
 ·simp only[canPush];grind
 ·simp only[canPush];grind
 ·simp only[canPush];grind
 ·simp only[canPush];grind
 rintro⟨row,i,fb,⟨⟩⟩ ⟨rfl,rfl,h5,h6,hR⟩
 have h4:=of_decide_eq_false h4
 simp only
 refine if_cond (fun hc=> ?_) (fun hc=> ?_)
 ·have hc:i<row.length:=of_decide_eq_true hc
  simp(disch:=omega) only[wrap_i64,toList_beq]
  refine⟨by omega,by omega,if_cond (fun h=> ?_) (fun h=>⟨⟨rfl,rfl,by omega,by omega,upto_no (p:=fun j=>decide ((List.getD row j zUndo).Key=factText t.F)) h5 hR h⟩,by simp only[Zm146_6];omega⟩)⟩
  have ha:hasKey row (factText t.F)=true:=anyI_true (j:=i.toNat) (by omega) h
  exact hN (by simp only[canPush,ha];simp)
 ·have hc:¬i<row.length:=of_decide_eq_false hc
  have ha:hasKey row (factText t.F)=false:=anyI_false fun j hj=>hR j (by omega)
  have hy:canPush row t=true:=by simp only[canPush,ha];grind
  refine⟨by simpa using hp1,by simp;omega,?_⟩
  simp only[pushUndo,hy,if_true,List.nil_append];exact Lf_rfl _
def Zh146:HH:=⟨_,Zo146⟩
def Zk103:Con UU where
 α:=(List DUndo)×DTask
 md:=[.ro,.ro]
 of:=oC (oL .eUndo) (o1 (oA .eTask))
 ds:=fun x=>[dL .eUndo x.1,dA .eTask x.2]
 pre:=fun(l,t)=>[sizeUndoS l≤4294967296,t.F.Fields.length≤4294967296]
 res:=fun(l,t)=>⟨[dL .eUndo ((pushUndo l t).1),dO ((pushUndo l t).2)],true,[]⟩
 law:=lC (lL .eUndo) (l1 (lA .eTask))
def Za103:Zk103.α→Nat→Option (Ann UU):=fun(l,t)=>annL []
def Zu103:=us [Zh88,Zh178,Zh93,Zh163,Zh160,Zh169,Zh179]
theorem Zo103:Holds EE (103,Zk103):=by
 refine holds_of EE_ok func103 Zk103 (by kernel_rfl) Zu103 (us_ok _) Za103 (fun x hp hb=> ?_)
 obtain⟨l,t⟩:=x
 have hl_l:l.length≤9223372036854775807:=bdL (hb _ m0)
 have hz1:=bd_eTask (x:=t) (hb _ m1)
 have hl_t_F_Kind:=hz1.1
 have hl_t_F_Fields:=hz1.2.1
 have hl_t_Undo:=hz1.2.2.1
 have hl_t_V_S:=hz1.2.2.2
 have hp0:sizeUndoS l≤4294967296:=hp _ m0
 have hp1:t.F.Fields.length≤4294967296:=hp _ m1
 clear hp hb
 apply @ve _ (let x0:List DUndo:=[{Key:=factText t.F,F:={Kind:=t.Undo,Fields:=t.F.Fields:DFact}:DUndo}];sizeUndoS l≤(4294967296:Nat)∧bif !undosOk l then Lf [VL .eUndo l,VB false] [VL .eUndo ((pushUndo l t).1),VB ((pushUndo l t).2)] else bif !factOk t.F then Lf [VL .eUndo l,VB false] [VL .eUndo ((pushUndo l t).1),VB ((pushUndo l t).2)] else bif !nameOk t.Undo then Lf [VL .eUndo l,VB false] [VL .eUndo ((pushUndo l t).1),VB ((pushUndo l t).2)] else bif hasKey l (factText t.F) then Lf [VL .eUndo l,VB false] [VL .eUndo ((pushUndo l t).1),VB ((pushUndo l t).2)] else bif (l.length:Int)==(30:Int) then Lf [VL .eUndo l,VB false] [VL .eUndo ((pushUndo l t).1),VB ((pushUndo l t).2)] else t.F.Fields.length≤(4294967296:Nat)∧l.length+x0.length≤(4294967296:Nat)∧Lf [VL .eUndo (l++x0),VB true] [VL .eUndo ((pushUndo l t).1),VB ((pushUndo l t).2)]) (by kernel_rfl)
 dsimp only
 have hN:canPush l t=false→Lf [.one (.sl .eUndo l),.one (.lit (.bool false))] [.one (.sl .eUndo (pushUndo l t).1),.one (.lit (.bool (pushUndo l t).2))]:=fun h=>by
  simp only[pushUndo,h];exact Lf_rfl _
 have hlen:undosOk l=true→l.length≤30:=undosOk_len
 refine⟨hp0,if_cond (fun h1=>hN ?_) (fun h1=>if_cond (fun h2=>hN ?_) (fun h2=>if_cond (fun h3=>hN ?_) (fun h3=>if_cond (fun h4=>hN ?_) (fun h4=>if_cond (fun h5=>hN ?_) (fun h5=> ?_)))))⟩
 ·simp only[canPush];grind
 ·simp only[canPush];grind
 ·simp only[canPush];grind
 ·simp only[canPush];grind
 ·simp only[canPush];simp at h5;grind
 have hl:=hlen (by simpa using h1)
 have h5:l.length≠30:=by simp at h5;omega
 have hy:canPush l t=true:=by simp only[canPush];grind
 refine⟨hp1,by simp;omega,?_⟩
 simp only[pushUndo,hy,if_true];exact Lf_rfl _
def Zh103:HH:=⟨_,Zo103⟩
def Zk75:Con UU where
 α:=(List DTask)×ByteArray×Bool×DVal
 md:=[.wr,.ro,.ro,.ro]
 of:=oC (oL .eTask) (oC oS (oC oO (o1 (oA .eVal))))
 ds:=fun x=>[dL .eTask x.1,dS x.2.1,dO x.2.2.1,dA .eVal x.2.2.2]
 pre:=fun(l,key,ok,v)=>[tasksOk l=true,valOk v=true]
 res:=fun(l,key,ok,v)=>⟨[dI ((replyTask l key ok v).2)],true,[dL .eTask ((replyTask l key ok v).1)]⟩
 law:=lC (lL .eTask) (lC lS (lC lO (l1 (lA .eVal))))
def Za75:Zk75.α→Nat→Option (Ann UU):=fun(l,key,ok,v)=>annL []
def Zu75:=us [Zh77]
theorem Zo75:Holds EE (75,Zk75):=by
 refine holds_of EE_ok func75 Zk75 (by kernel_rfl) Zu75 (us_ok _) Za75 (fun x hp hb=> ?_)
 obtain⟨l,key,ok,v⟩:=x
 have hl_l:l.length≤9223372036854775807:=bdL (hb _ m0)
 have hl_key:=bdS (s:=key) (hb _ m1)
 have hl_v_S:=bd_eVal (x:=v) (hb _ m3)
 have hp0:tasksOk l=true:=hp _ m0
 have hp1:valOk v=true:=hp _ m1
 clear hp hb
 apply @ve _ (let x0:List DTask:=List.modify l (Int.toNat (taskAtKey l key)) fun(x:DTask)=>{F:=x.F,Undo:=x.Undo,State:=(4:Int),Tries:=x.Tries,Due:=x.Due,V:=x.V:DTask};let x1:List DTask:=List.modify x0 (Int.toNat (taskAtKey l key)) fun(x:DTask)=>{F:=x.F,Undo:=x.Undo,State:=(3:Int),Tries:=x.Tries,Due:=x.Due,V:=x.V:DTask};bif decide (taskAtKey l key<(0:Int)) then asD [VI (3:Int)]=asD [VI ((replyTask l key ok v).2)]∧asD [VL .eTask l]=asD [VL .eTask ((replyTask l key ok v).1)] else(0:Int)≤taskAtKey l key∧Int.toNat (taskAtKey l key)<l.length∧Int.toNat (taskAtKey l key)<l.length∧bif (List.getD l (Int.toNat (taskAtKey l key)) zTask).State==(3:Int) then asD [VI (2:Int)]=asD [VI ((replyTask l key ok v).2)]∧asD [VL .eTask l]=asD [VL .eTask ((replyTask l key ok v).1)] else Int.toNat (taskAtKey l key)<l.length∧bif (List.getD l (Int.toNat (taskAtKey l key)) zTask).State==(4:Int) then asD [VI (2:Int)]=asD [VI ((replyTask l key ok v).2)]∧asD [VL .eTask l]=asD [VL .eTask ((replyTask l key ok v).1)] else Int.toNat (taskAtKey l key)<l.length∧bif (List.getD l (Int.toNat (taskAtKey l key)) zTask).Tries==(0:Int) then asD [VI (3:Int)]=asD [VI ((replyTask l key ok v).2)]∧asD [VL .eTask l]=asD [VL .eTask ((replyTask l key ok v).1)] else Int.toNat (taskAtKey l key)<l.length∧bif ok then Int.toNat (taskAtKey l key)<x0.length∧Int.toNat (taskAtKey l key)<x1.length∧asD [VI (1:Int)]=asD [VI ((replyTask l key ok v).2)]∧asD [VL .eTask (List.modify x1 (Int.toNat (taskAtKey l key)) fun(x:DTask)=>{F:=x.F,Undo:=x.Undo,State:=x.State,Tries:=x.Tries,Due:=x.Due,V:=v:DTask})]=asD [VL .eTask ((replyTask l key ok v).1)] else Int.toNat (taskAtKey l key)<x0.length∧asD [VI (1:Int)]=asD [VI ((replyTask l key ok v).2)]∧asD [VL .eTask (List.modify x0 (Int.toNat (taskAtKey l key)) fun(x:DTask)=>{F:=x.F,Undo:=x.Undo,State:=x.State,Tries:=x.Tries,Due:=x.Due,V:=v:DTask})]=asD [VL .eTask ((replyTask l key ok v).1)]) (by kernel_rfl)
 dsimp only
 refine if_cond (fun h=> ?_) (fun h=> ?_)
 ·have h:=of_decide_eq_true h
  rw[reply_none (fun hh=>absurd hh.2.2.1 (by omega))];exact⟨rfl,rfl⟩
 have h:=of_decide_eq_false h
 have hk:=taskAtKey_lt (l:=l) (key:=key) (by omega)
 obtain⟨s1,s2,s3,s4,s5⟩:=taskOk_st (tasksOk_at hp0 hk)
 refine⟨by omega,hk,hk,if_cond (fun h1=> ?_) (fun h1=>⟨hk,if_cond (fun h2=> ?_) (fun h2=>⟨hk,if_cond (fun h3=> ?_) (fun h3=>⟨hk,if_cond (fun h4=> ?_) (fun h4=> ?_)⟩)⟩)⟩)⟩
 ·have h1:=eq_of_beq h1
  rw[reply_old ⟨hp0,hp1,by omega,by omega⟩ (by omega)];exact⟨rfl,rfl⟩
 ·have h2:=eq_of_beq h2
  rw[reply_old ⟨hp0,hp1,by omega,by omega⟩ (by omega)];exact⟨rfl,rfl⟩
 ·have h3:=eq_of_beq h3
  simp only[beq_eq_false_iff_ne,ne_eq] at h1 h2
  rw[reply_none (fun hh=>absurd hh.2.2.2 (by omega))];exact⟨rfl,rfl⟩
 ·subst h4
  simp only[beq_eq_false_iff_ne,ne_eq] at h1 h2 h3
  rw[reply_new ⟨hp0,hp1,by omega,by omega⟩ (by omega)]
  exact⟨by simp only[zbf];exact hk,by simp only[zbf];exact hk,rfl,asD_row (reply_t _ _ _)⟩
 ·subst h4
  simp only[beq_eq_false_iff_ne,ne_eq] at h1 h2 h3
  rw[reply_new ⟨hp0,hp1,by omega,by omega⟩ (by omega)]
  exact⟨by simp only[zbf];exact hk,rfl,asD_row (reply_f _ _ _)⟩
def Zh75:HH:=⟨_,Zo75⟩
def Zk100:Con UU where
 α:=(List DTask)×ByteArray×Bool×DVal
 md:=[.ro,.ro,.ro,.ro]
 of:=oC (oL .eTask) (oC oS (oC oO (o1 (oA .eVal))))
 ds:=fun x=>[dL .eTask x.1,dS x.2.1,dO x.2.2.1,dA .eVal x.2.2.2]
 pre:=fun(l,key,ok,v)=>[sizeTaskS l≤4294967296]
 res:=fun(l,key,ok,v)=>⟨[dL .eTask ((replyTask l key ok v).1),dI ((replyTask l key ok v).2)],true,[]⟩
 law:=lC (lL .eTask) (lC lS (lC lO (l1 (lA .eVal))))
def Za100:Zk100.α→Nat→Option (Ann UU):=fun(l,key,ok,v)=>annL []
def Zu100:=us [Zh86,Zh102,Zh91,Zh174]
theorem Zo100:Holds EE (100,Zk100):=by
 refine holds_of EE_ok func100 Zk100 (by kernel_rfl) Zu100 (us_ok _) Za100 (fun x hp hb=> ?_)
 obtain⟨l,key,ok,v⟩:=x
 have hl_l:l.length≤9223372036854775807:=bdL (hb _ m0)
 have hl_key:=bdS (s:=key) (hb _ m1)
 have hl_v_S:=bd_eVal (x:=v) (hb _ m3)
 have hp0:sizeTaskS l≤4294967296:=hp _ m0
 clear hp hb
 apply @ve _ (let x0:List DTask:=List.modify l (Int.toNat (taskAtKey l key)) fun(x:DTask)=>{F:=x.F,Undo:=x.Undo,State:=(4:Int),Tries:=x.Tries,Due:=x.Due,V:=x.V:DTask};let x1:List DTask:=List.modify x0 (Int.toNat (taskAtKey l key)) fun(x:DTask)=>{F:=x.F,Undo:=x.Undo,State:=(3:Int),Tries:=x.Tries,Due:=x.Due,V:=x.V:DTask};sizeTaskS l≤(4294967296:Nat)∧bif !tasksOk l then Lf [VL .eTask l,VI (3:Int)] [VL .eTask ((replyTask l key ok v).1),VI ((replyTask l key ok v).2)] else bif !valOk v then Lf [VL .eTask l,VI (3:Int)] [VL .eTask ((replyTask l key ok v).1),VI ((replyTask l key ok v).2)] else bif decide (taskAtKey l key<(0:Int)) then Lf [VL .eTask l,VI (3:Int)] [VL .eTask ((replyTask l key ok v).1),VI ((replyTask l key ok v).2)] else(0:Int)≤taskAtKey l key∧Int.toNat (taskAtKey l key)<l.length∧bif (List.getD l (Int.toNat (taskAtKey l key)) zTask).State==(1:Int) then Lf [VL .eTask l,VI (3:Int)] [VL .eTask ((replyTask l key ok v).1),VI ((replyTask l key ok v).2)] else(0:Int)≤taskAtKey l key∧Int.toNat (taskAtKey l key)<l.length∧Int.toNat (taskAtKey l key)<l.length∧bif (List.getD l (Int.toNat (taskAtKey l key)) zTask).State !=(2:Int) then Lf [VL .eTask l,VI (2:Int)] [VL .eTask ((replyTask l key ok v).1),VI ((replyTask l key ok v).2)] else Int.toNat (taskAtKey l key)<l.length∧bif ok then Int.toNat (taskAtKey l key)<x0.length∧Int.toNat (taskAtKey l key)<x1.length∧Lf [VL .eTask (List.modify x1 (Int.toNat (taskAtKey l key)) fun(x:DTask)=>{F:=x.F,Undo:=x.Undo,State:=x.State,Tries:=x.Tries,Due:=x.Due,V:=v:DTask}),VI (1:Int)] [VL .eTask ((replyTask l key ok v).1),VI ((replyTask l key ok v).2)] else Int.toNat (taskAtKey l key)<x0.length∧Lf [VL .eTask (List.modify x0 (Int.toNat (taskAtKey l key)) fun(x:DTask)=>{F:=x.F,Undo:=x.Undo,State:=x.State,Tries:=x.Tries,Due:=x.Due,V:=v:DTask}),VI (1:Int)] [VL .eTask ((replyTask l key ok v).1),VI ((replyTask l key ok v).2)]) (by kernel_rfl)
 dsimp only
 refine⟨hp0,if_cond (fun h=> ?_) (fun h=>if_cond (fun h2=> ?_) (fun h2=>if_cond (fun h3=> ?_) (fun h3=> ?_)))⟩
 ·rw[reply_none (fun hh=>by rw[hh.1] at h;simp at h)];exact Lf_rfl _
 ·rw[reply_none (fun hh=>by rw[hh.2.1] at h2;simp at h2)];exact Lf_rfl _
 ·have h3:=of_decide_eq_true h3
  rw[reply_none (fun hh=>absurd hh.2.2.1 (by omega))];exact Lf_rfl _
 have h:tasksOk l=true:=by simpa using h
 have h2:valOk v=true:=by simpa using h2
 have h3:=of_decide_eq_false h3
 have hk:=taskAtKey_lt (l:=l) (key:=key) (by omega)
 refine⟨by omega,hk,if_cond (fun h4=> ?_) (fun h4=>⟨by omega,hk,hk,if_cond (fun h5=> ?_) (fun h5=>⟨hk,if_cond (fun h6=> ?_) (fun h6=> ?_)⟩)⟩)⟩
 ·have h4:=eq_of_beq h4
  rw[reply_none (fun hh=>absurd hh.2.2.2 (by omega))];exact Lf_rfl _
 ·simp only[bne_iff_ne,beq_eq_false_iff_ne,ne_eq] at h4 h5
  rw[reply_old ⟨h,h2,by omega,h4⟩ h5];exact Lf_rfl _
 ·subst h6
  simp only[bne_iff_ne,bne_eq_false_iff_eq,beq_eq_false_iff_ne,ne_eq] at h4 h5
  rw[reply_new ⟨h,h2,by omega,h4⟩ h5]
  exact⟨by simp only[zbf];exact hk,by simp only[zbf];exact hk,Lf_row (reply_t _ _ _)⟩
 ·subst h6
  simp only[bne_iff_ne,bne_eq_false_iff_eq,beq_eq_false_iff_ne,ne_eq] at h4 h5
  rw[reply_new ⟨h,h2,by omega,h4⟩ h5]
  exact⟨by simp only[zbf];exact hk,Lf_row (reply_f _ _ _)⟩
def Zh100:HH:=⟨_,Zo100⟩
theorem tasksOk_modify{l:List DTask}{f:DTask→DTask}{k:Nat}(hF:∀t,(f t).F=t.F)(hk:k<l.length)(hf:taskOk (f (List.getD l k zTask))=true)(h:tasksOk l=true):tasksOk (l.modify k f)=true:=by
 rw[tasksOk_iff] at h⊢
 refine⟨by simpa using h.1,fun t ht=> ?_,by rw[map_modify_same _ _ hF];exact h.2.2⟩
 obtain⟨i,hi,rfl⟩:=zbk ht
 have hi':i<l.length:=by simpa using hi
 rw[List.getElem_modify]
 split
 ·rename_i hki
  subst hki
  rw[zac,zad hk] at hf
  exact hf
 ·exact h.2.1 _ (zda hi')
theorem tasksOk_reply{l:List DTask}{key:ByteArray}{ok:Bool}{v:DVal}(h:tasksOk l=true):tasksOk (replyTask l key ok v).1=true:=by
 unfold replyTask;split
 ·rename_i hc
  split
  ·have hk:=taskAtKey_lt (l:=l) (key:=key) hc.2.2.1
   refine tasksOk_modify (fun _=>rfl) hk ?_ h
   obtain⟨a1,a2,a3,a4,a5,a6,a7⟩:=taskOk_iff.1 (tasksOk_at h hk)
   refine taskOk_iff.2 ⟨a1,a2,?_,a4,a5,.inr hc.2.1,?_⟩
   ·simp only[replied];split<;>omega
   ·simp only[replied];split<;>simp
  ·exact h
 ·exact h
theorem factText_size(f:DFact):(factText f).size≤200:=by
 unfold factText;split
 ·rename_i h
  obtain⟨h1,h2,h3,h4⟩:=factOk_fields h
  have:=join_len f.Fields h2
  rw[mkB_size];simp only[zce,bs_len,valsT,zbq,zbo];omega
 ·simp[noBytes]
theorem undo_snoc{l:List DUndo}{u:DUndo}(h:undosOk l=true)(hl:l.length<30)(hk:1≤u.Key.size∧u.Key.size≤200)(hf:factOk u.F=true)(hn:hasKey l u.Key=false):undosOk (l++[u])=true:=by
 simp only[undosOk,zaf,decide_eq_true_eq] at h⊢
 have hlen:(l++[u]).length=l.length+1:=by simp
 refine⟨by omega,allI_iff.2 fun j hj=> ?_⟩
 have g:∀k,k<l.length→List.getD (l++[u]) k zUndo=List.getD l k zUndo:=fun k hk=>by rw[zac,zac,zaq hk]
 rcases zba j l.length with hjl|hjl
 ·have:=allI_iff.1 h.2 j hjl
  unfold undoAt at this⊢
  rw[g j hjl]
  rw[←this]
  congr 2
  exact anyI_congr fun k hk=>by rw[g k (by omega)]
 ·have:j=l.length:=by omega
  subst this
  have gl:List.getD (l++[u]) l.length zUndo=u:=by rw[zac,zap (zca _)];simp
  unfold undoAt
  rw[gl,hf]
  have:(anyI l.length fun k=>decide ((List.getD (l++[u]) k zUndo).Key=u.Key))=false:=by
   rw[←hn]
   exact anyI_congr fun k hk=>by rw[g k hk]
  rw[this]
  simp only[zea,zdb,decide_eq_true_eq];exact hk
theorem factText_pos{f:DFact}(h:factOk f=true):1≤(factText f).size:=by
 rw[factText,if_pos h,mkB_size];simp only[zce,valsT,zbq];omega
theorem pushUndo_ok{l:List DUndo}{t:DTask}(h:canPush l t=true):undosOk (pushUndo l t).1=true:=by
 rw[pushUndo,if_pos h]
 simp only[canPush,zaf,zbd,decide_eq_false_iff_not] at h
 obtain⟨⟨⟨⟨h1,h2⟩,h3⟩,h4⟩,h5⟩:=h
 have:=factText_size t.F
 have:=factText_pos h2
 refine undo_snoc h1 (by omega) ⟨by assumption,by assumption⟩ ?_ h4
 have h6:=h2
 simp only[factOk,zaf] at h6⊢
 exact⟨⟨h3,h6.1.2⟩,h6.2⟩
theorem undosOk_take{l:List DUndo}(n:Nat)(h:undosOk l=true):undosOk (l.take n)=true:=by
 simp only[undosOk,zaf,decide_eq_true_eq] at h⊢
 have hg:∀k,k<(l.take n).length→List.getD (l.take n) k zUndo=List.getD l k zUndo:=fun k hk=>by
  rw[zac,zac,zan,if_pos (by simp at hk;omega)]
 refine⟨by have:=h.1;simp only[zaw];omega,allI_all.2 fun i hi=> ?_⟩
 have h2:=allI_all.1 h.2 i (by simp at hi;omega)
 simp only[undoAt] at h2⊢
 rw[hg i hi,anyI_congr (q:=fun k=>decide ((List.getD l k zUndo).Key=(List.getD l i zUndo).Key)) fun k hk=>by rw[hg k (by omega)]]
 exact h2
def goesI(x:DInst):DInst:=beginI ⟨x.S,x.Fired,x.Tasks,x.Timers,x.Undos.take (x.Undos.length-1),x.State,x.Now⟩
theorem goodX_pop{x:DInst}(h:goodX x):goodX ⟨x.S,x.Fired,x.Tasks,x.Timers,x.Undos.take (x.Undos.length-1),x.State,x.Now⟩:=⟨h.1,undosOk_take _ h.2.1,h.2.2⟩
def ansF(f:DFact)(word:ByteArray)(v:DVal):DFact:=⟨f.Kind,[⟨2,0,word⟩,v]⟩
def bOk:ByteArray:=⟨#[111,107]⟩
def bNo:ByteArray:=⟨#[110,111]⟩
def wordO(ok:Bool):ByteArray:=if ok=true then bOk else bNo
def withT(x:DInst)(l:List DTask):DInst:=⟨x.S,x.Fired,l,x.Timers,x.Undos,x.State,x.Now⟩
def withU(x:DInst)(l:List DUndo):DInst:=⟨x.S,x.Fired,x.Tasks,x.Timers,l,x.State,x.Now⟩
def ansI(x:DInst)(k:Nat)(ok:Bool)(v:DVal):DInst:=
 if x.State≠1 then goesI x
 else if ok=true∧(List.getD x.Tasks k zTask).Undo≠noBytes then
  (if(pushUndo x.Undos (List.getD x.Tasks k zTask)).2=true then learnI (withU x (pushUndo x.Undos (List.getD x.Tasks k zTask)).1) (ansF (List.getD x.Tasks k zTask).F (wordO ok) v) else turnI x 3)
 else learnI x (ansF (List.getD x.Tasks k zTask).F (wordO ok) v)
def replyI(x:DInst)(key:ByteArray)(ok:Bool)(v:DVal):DInst×Int:=
 if(replyTask x.Tasks key ok v).2=1 then(ansI (withT x (replyTask x.Tasks key ok v).1) (taskAtKey (replyTask x.Tasks key ok v).1 key).toNat ok v,1) else(x,(replyTask x.Tasks key ok v).2)
theorem ans_run{x:DInst}{k:Nat}{ok:Bool}{v:DVal}(h:x.State=1):ansI x k ok v=if ok=true∧(List.getD x.Tasks k zTask).Undo≠noBytes then
  (if(pushUndo x.Undos (List.getD x.Tasks k zTask)).2=true then learnI (withU x (pushUndo x.Undos (List.getD x.Tasks k zTask)).1) (ansF (List.getD x.Tasks k zTask).F (wordO ok) v) else turnI x 3)
 else learnI x (ansF (List.getD x.Tasks k zTask).F (wordO ok) v):=if_neg (by omega)
theorem goodX_push{x:DInst}(h:goodX x){t:DTask}(hp:(pushUndo x.Undos t).2=true):goodX (withU x (pushUndo x.Undos t).1):=by
 refine⟨h.1,?_,h.2.2⟩
 by_cases hc:canPush x.Undos t=true
 ·exact pushUndo_ok hc
 ·rw[pushUndo,if_neg hc] at hp;cases hp
theorem goodX_reply{x:DInst}{key:ByteArray}{ok:Bool}{v:DVal}(h:goodX x):goodX (withT x (replyTask x.Tasks key ok v).1):=⟨tasksOk_reply h.1,h.2⟩
theorem reply_same{l:List DTask}{key:ByteArray}{ok:Bool}{v:DVal}(h:¬(replyTask l key ok v).2=1):(replyTask l key ok v).1=l:=by
 unfold replyTask at h⊢
 split
 ·rename_i h1
  rw[if_pos h1] at h
  split
  ·rename_i h2
   rw[if_pos h2] at h;exact absurd rfl h
  ·rfl
 ·rfl
theorem reply_at{l:List DTask}{key:ByteArray}{ok:Bool}{v:DVal}(h:(replyTask l key ok v).2=1):0≤taskAtKey (replyTask l key ok v).1 key∧taskAtKey (replyTask l key ok v).1 key<((replyTask l key ok v).1.length:Int):=by
 have h1:tasksOk l=true∧valOk v=true∧0≤taskAtKey l key∧(List.getD l (taskAtKey l key).toNat zTask).State≠1:=Classical.byContradiction fun c=>by rw[reply_none c] at h;simp at h
 have h2:(List.getD l (taskAtKey l key).toNat zTask).State=2:=Classical.byContradiction fun c=>by rw[reply_old h1 c] at h;simp at h
 have e:=congrArg Prod.fst (reply_new (key:=key) (ok:=ok) (v:=v) h1 h2)
 have hk:=taskAtKey_lt (l:=l) (key:=key) h1.2.2.1
 have e3:taskAtKey (replyTask l key ok v).1 key=taskAtKey l key:=by
  rw[e];unfold taskAtKey
  rw[zbf]
  refine idxI_congr fun j hj=> ?_
  congr 2
  rw[zac,zac,zei,zad hj]
  show factText (((if _=j then replied ok v l[j] else l[j])).F)=factText (l[j]).F
  split<;>rfl
 rw[e3,e,zbf];omega
def Zk106:Con UU where
 α:=DFact×ByteArray×DVal
 md:=[.ro,.ro,.ro]
 of:=oC (oA .eFact) (oC oS (o1 (oA .eVal)))
 ds:=fun x=>[dA .eFact x.1,dS x.2.1,dA .eVal x.2.2]
 pre:=fun _=>[]
 res:=fun(f,word,v)=>⟨[dA .eFact (ansF f word v)],true,[]⟩
 law:=lC (lA .eFact) (lC lS (l1 (lA .eVal)))
def Za106:Zk106.α→Nat→Option (Ann UU):=fun(f,word,v)=>annL []
def Zu106:List (FuncId×Con UU):=[]
theorem Zo106:Holds EE (106,Zk106):=by
 refine holds_of EE_ok func106 Zk106 (by kernel_rfl) Zu106 all_nil Za106 (fun x hp hb=> ?_)
 obtain⟨f,word,v⟩:=x
 have hz0:=bd_eFact (x:=f) (hb _ m0)
 have hl_f_Kind:=hz0.1
 have hl_f_Fields:=hz0.2
 have hl_word:=bdS (s:=word) (hb _ m1)
 have hl_v_S:=bd_eVal (x:=v) (hb _ m2)
 clear hp hb
 apply @ve _ (Lf [DV.agg [CS f.Kind,CL .eVal [{K:=(2:Int),N:=(0:Int),S:=word:DVal},v]]] [DV.agg [CS ((ansF f word v).Kind),CL .eVal (ansF f word v).Fields]]) (by kernel_rfl)
 exact Lf_rfl _
def Zh106:HH:=⟨_,Zo106⟩
def Zk149:Con UU where
 α:=DFact×ByteArray×DVal
 md:=[.ro,.ro,.ro]
 of:=oC (oA .eFact) (oC oS (o1 (oA .eVal)))
 ds:=fun x=>[dA .eFact x.1,dS x.2.1,dA .eVal x.2.2]
 pre:=fun _=>[]
 res:=fun(f,word,v)=>⟨[dA .eFact (ansF f word v)],true,[]⟩
 law:=lC (lA .eFact) (lC lS (l1 (lA .eVal)))
def Za149:Zk149.α→Nat→Option (Ann UU):=fun(f,word,v)=>annL []
def Zu149:List (FuncId×Con UU):=[]
theorem Zo149:Holds EE (149,Zk149):=by
 refine holds_of EE_ok func149 Zk149 (by kernel_rfl) Zu149 all_nil Za149 (fun x hp hb=> ?_)
 obtain⟨f,word,v⟩:=x
 have hz0:=bd_eFact (x:=f) (hb _ m0)
 have hl_f_Kind:=hz0.1
 have hl_f_Fields:=hz0.2
 have hl_word:=bdS (s:=word) (hb _ m1)
 have hl_v_S:=bd_eVal (x:=v) (hb _ m2)
 clear hp hb
 apply @ve _ (Lf [DV.agg [CS f.Kind,CL .eVal [{K:=(2:Int),N:=(0:Int),S:=word:DVal},v]]] [DV.agg [CS ((ansF f word v).Kind),CL .eVal (ansF f word v).Fields]]) (by kernel_rfl)
 exact Lf_rfl _
def Zh149:HH:=⟨_,Zo149⟩
def Zk101:Con UU where
 α:=DInst
 md:=[.box true]
 of:=o1 (oX .eInst)
 ds:=fun x=>[dX .eInst x]
 pre:=fun x=>[goodX x,x.State=3∨x.State=5]
 res:=fun x=>⟨[],true,[dX .eInst (goesI x)]⟩
 law:=l1 (lX .eInst)
def Za101:Zk101.α→Nat→Option (Ann UU):=fun x=>annL []
def Zu101:=us [Zh175,Zh176]
theorem Zo101:Holds EE (101,Zk101):=by
 refine holds_of EE_ok func101 Zk101 (by kernel_rfl) Zu101 (us_ok _) Za101 (fun(x:DInst) hp hb=> ?_)
 have hz0:=bdX_eInst (x:=x) (hb _ m0)
 have hl_x_S_Items:=hz0.1
 have hl_x_Fired:=hz0.2.1
 have hl_x_Tasks:=hz0.2.2.1
 have hl_x_Timers:=hz0.2.2.2.1
 have hl_x_Undos:=hz0.2.2.2.2
 have hp0:goodX x:=hp _ m0
 have hp1:x.State=3∨x.State=5:=hp _ m1
 clear hp hb
 apply @ve _ (let x1:DInst:={S:=x.S,Fired:=x.Fired,Tasks:=x.Tasks,Timers:=x.Timers,Undos:=List.take (x.Undos.length-(1:Nat)) x.Undos,State:=x.State,Now:=x.Now:DInst};let x0:DInst:=beginI x1;sizeUndoS x.Undos≤(4294967296:Nat)∧goodX x1∧(x.State=(3:Int)∨x.State=(5:Int))∧(0:Nat)=(0:Nat)∧asD []=asD []∧asD [DV.box (enc_eInst x0)]=asD [DV.box (enc_eInst (goesI x))]) (by kernel_rfl)
 dsimp only
 have:=(undosK hp0.2.1).2.2
 exact⟨by omega,goodX_pop hp0,hp1,rfl,rfl,rfl⟩
def Zh101:HH:=⟨_,Zo101⟩
def Zk145:Con UU where
 α:=DInst
 md:=[.box true]
 of:=o1 (oX .eInst)
 ds:=fun x=>[dX .eInst x]
 pre:=fun x=>[goodX x,x.State=3∨x.State=5]
 res:=fun x=>⟨[],true,[dX .eInst (goesI x)]⟩
 law:=l1 (lX .eInst)
def Za145:Zk145.α→Nat→Option (Ann UU):=fun x=>annL []
def Zu145:=us [Zh204,Zh205]
theorem Zo145:Holds EE (145,Zk145):=by
 refine holds_of EE_ok func145 Zk145 (by kernel_rfl) Zu145 (us_ok _) Za145 (fun(x:DInst) hp hb=> ?_)
 have hz0:=bdX_eInst (x:=x) (hb _ m0)
 have hl_x_S_Items:=hz0.1
 have hl_x_Fired:=hz0.2.1
 have hl_x_Tasks:=hz0.2.2.1
 have hl_x_Timers:=hz0.2.2.2.1
 have hl_x_Undos:=hz0.2.2.2.2
 have hp0:goodX x:=hp _ m0
 have hp1:x.State=3∨x.State=5:=hp _ m1
 clear hp hb
 apply @ve _ (let x1:DInst:={S:=x.S,Fired:=x.Fired,Tasks:=x.Tasks,Timers:=x.Timers,Undos:=List.take (x.Undos.length-(1:Nat)) x.Undos,State:=x.State,Now:=x.Now:DInst};let x0:DInst:=beginI x1;sizeUndoS x.Undos≤(4294967296:Nat)∧goodX x1∧(x.State=(3:Int)∨x.State=(5:Int))∧(0:Nat)=(0:Nat)∧asD []=asD []∧asD [DV.box (enc_eInst x0)]=asD [DV.box (enc_eInst (goesI x))]) (by kernel_rfl)
 dsimp only
 have:=(undosK hp0.2.1).2.2
 exact⟨by omega,goodX_pop hp0,hp1,rfl,rfl,rfl⟩
def Zh145:HH:=⟨_,Zo145⟩
end
end AM
