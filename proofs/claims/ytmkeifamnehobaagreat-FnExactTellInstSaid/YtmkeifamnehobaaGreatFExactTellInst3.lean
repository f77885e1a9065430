/- Functions of the program with their contracts: put together by gen/link.py for FnExactTellInst. -/
import Derived.Test.YtmkeifamnehobaaGreatAmLib
import Derived.Test.YtmkeifamnehobaaGreatFExactTellInst2
namespace AM
open Go
set_option linter.unusedVariables false
set_option linter.unusedSimpArgs false
set_option maxRecDepth 100000
noncomputable section
def Zk251:Con UU where
 α:=DArg×DArg
 md:=[.ro,.ro]
 of:=oC (oA .eArg) (o1 (oA .eArg))
 ds:=fun x=>[dA .eArg x.1,dA .eArg x.2]
 pre:=fun _=>[]
 res:=fun(a,b)=>⟨[.one (.lit (.bool (decide (a=b))))],true,[]⟩
 law:=lC (lA .eArg) (l1 (lA .eArg))
def Za251:Zk251.α→Nat→Option (Ann UU):=fun(a,b)=>annL []
def Zu251:=us [Zh138]
theorem Zv251(a:DArg)(b:DArg):goal EE Zu251 Go.Proofs.Tryz.f251 Zk251 Za251 (a,b)=(bif a.K !=b.K then Lb false (decide (a=b)) else bif !ByteArray.toList a.S==ByteArray.toList b.S then Lb false (decide (a=b)) else bif !decide (a.V=b.V) then Lb false (decide (a=b)) else Lb true (decide (a=b))):=by kernel_rfl
theorem Zo251:Holds EE (251,Zk251):=by
 refine holds_of EE_ok Go.Proofs.Tryz.func251 Zk251 (by kernel_rfl) Zu251 (us_ok _) Za251 (fun x hp hb=> ?_)
 obtain⟨a,b⟩:=x
 have hz0:=bd_eArg (x:=a) (hb _ m0)
 have hl_a_S:=hz0.1
 have hl_a_V_S:=hz0.2
 have hz1:=bd_eArg (x:=b) (hb _ m1)
 have hl_b_S:=hz1.1
 have hl_b_V_S:=hz1.2
 clear hp hb
 rw[Zv251 a b]
 obtain⟨aK,aS,aV⟩:=a
 obtain⟨bK,bS,bV⟩:=b
 repeat' (apply if_cond<;>intro _)
 all_goals (first|apply Lf_t|apply Lf_f)<;>simp_all
def Zh251:HH:=⟨_,Zo251⟩
def Zk232:Con UU where
 α:=(List DArg)×Int
 md:=[.ro,.ro]
 of:=oC (oL .lArg) (o1 oI)
 ds:=fun x=>[dL .lArg x.1,dI x.2]
 pre:=fun(a,left)=>[0≤left]
 res:=fun(a,left)=>⟨[.one (.lit (.int .i64 (szr left (sizeArgS a))))],true,[]⟩
 law:=lC (lL .lArg) (l1 lI)
def Zi232_5(a:(List DArg))(left:Int):Int×Int×Unit→Prop:=szI sizeArg a (sizeArgS a) left
def Zm232_5(a:(List DArg))(left:Int):Int×Int×Unit→Nat:=rM2 a
def Za232:Zk232.α→Nat→Option (Ann UU):=fun(a,left)=>annL [(5,annOf [.slot 1 (1,1024) (.lit (.int .i64)),.slot 5 (5,1024) (.lit (.int .i64))] (fun _=>Zi232_5 a left) (Zm232_5 a left))]
def Zu232:=us [Zh233]
theorem Zv232(a:(List DArg))(left:Int):goal EE Zu232 Go.Proofs.Tryz.f232 Zk232 Za232 (a,left)=(szV sizeArg zArg a (sizeArgS a) left):=by kernel_rfl
theorem Zo232:Holds EE (232,Zk232):=by
 refine holds_of EE_ok Go.Proofs.Tryz.func232 Zk232 (by kernel_rfl) Zu232 (us_ok _) Za232 (fun x hp hb=> ?_)
 obtain⟨a,left⟩:=x
 have hl_a:a.length≤9223372036854775807:=bdL (hb _ m0)
 have hl_left:=bdI (n:=left) (hb _ m1)
 have hp0:0≤left:=hp _ m0
 clear hp hb
 rw[Zv232 a left]
 exact szV_ok rfl hp0 hl_left hl_a
def Zh232:HH:=⟨_,Zo232⟩
def Zk241:Con UU where
 α:=(List DArg)
 md:=[.ro]
 of:=o1 (oL .lArg)
 ds:=fun x=>[dL .lArg x]
 pre:=fun a=>[sizeArgS a≤4294967296]
 res:=fun a=>⟨[.one (.sl .eArg a)],true,[]⟩
 law:=l1 (lL .lArg)
def Zi241_3(a:(List DArg)):List DArg×Int×Unit→Prop:=toI zArg a
def Zm241_3(a:(List DArg)):List DArg×Int×Unit→Nat:=rM2 a
def Za241:Zk241.α→Nat→Option (Ann UU):=fun a=>annL [(3,annOf [.slot 3 (3,1024) (.own .eArg true),.slot 4 (4,1024) (.lit (.int .i64))] (fun _=>Zi241_3 a) (Zm241_3 a))]
def Zu241:=us [Zh242]
theorem Zv241(a:(List DArg)):goal EE Zu241 Go.Proofs.Tryz.f241 Zk241 Za241 a=(toV sizeArg zArg a fun y=>Lf [.one (.sl .eArg y)] [.one (.sl .eArg a)]):=by kernel_rfl
theorem Zo241:Holds EE (241,Zk241):=by
 refine holds_of EE_ok Go.Proofs.Tryz.func241 Zk241 (by kernel_rfl) Zu241 (us_ok _) Za241 (fun(a:(List DArg)) hp hb=> ?_)
 have hl_a:a.length≤9223372036854775807:=bdL (hb _ m0)
 have hp0:sizeArgS a≤4294967296:=hp _ m0
 clear hp hb
 rw[Zv241 a]
 exact toV_ok hp0 (Lf_rfl _)
def Zh241:HH:=⟨_,Zo241⟩
def Zk250:Con UU where
 α:=(List DArg)×(List DArg)
 md:=[.ro,.ro]
 of:=oC (oL .eArg) (o1 (oL .eArg))
 ds:=fun x=>[dL .eArg x.1,dL .eArg x.2]
 pre:=fun _=>[]
 res:=fun(a,b)=>⟨[.one (.lit (.bool (decide (a=b))))],true,[]⟩
 law:=lC (lL .eArg) (l1 (lL .eArg))
def Zi250_4(a:(List DArg))(b:(List DArg)):Int×Unit→Prop:=eqI a b
def Zm250_4(a:(List DArg))(b:(List DArg)):Int×Unit→Nat:=rM1 a
def Za250:Zk250.α→Nat→Option (Ann UU):=fun(a,b)=>annL [(4,annOf [.slot 5 (5,1024) (.lit (.int .i64))] (fun _=>Zi250_4 a b) (Zm250_4 a b))]
def Zu250:=us [Zh251]
theorem Zv250(a:(List DArg))(b:(List DArg)):goal EE Zu250 Go.Proofs.Tryz.f250 Zk250 Za250 (a,b)=(eqV zArg a b):=by kernel_rfl
theorem Zo250:Holds EE (250,Zk250):=by
 refine holds_of EE_ok Go.Proofs.Tryz.func250 Zk250 (by kernel_rfl) Zu250 (us_ok _) Za250 (fun x hp hb=> ?_)
 obtain⟨a,b⟩:=x
 have hl_a:a.length≤9223372036854775807:=bdL (hb _ m0)
 have hl_b:b.length≤9223372036854775807:=bdL (hb _ m1)
 clear hp hb
 rw[Zv250 a b]
 exact eqV_ok hl_a
def Zh250:HH:=⟨_,Zo250⟩
def Zk189:Con UU where
 α:=(List DArg)×Int
 md:=[.wr,.ro]
 of:=oC (oL .eArg) (o1 oI)
 ds:=fun x=>[dL .eArg x.1,dI x.2]
 pre:=fun(a,k)=>[0≤k,k+cntArgS a≤4611686018427387904]
 res:=fun(a,k)=>⟨[.one (.lit (.int .i64 (k+cntArgS a)))],true,[.one (.sl .eArg (markArgS a k))]⟩
 law:=lC (lL .eArg) (l1 lI)
def Zi189_2(a:(List DArg))(k:Int):List DArg×Int×Int×Unit→Prop:=fun(row,kk,i,_)=>0≤i∧i≤a.length∧row=(mkS markArg cntArg a k).take i.toNat++a.drop i.toNat∧kk=k+ctS cntArg (a.take i.toNat)
def Zm189_2(a:(List DArg))(k:Int):List DArg×Int×Int×Unit→Nat:=fun(row,kk,i,_)=>a.length-i.toNat
def Za189:Zk189.α→Nat→Option (Ann UU):=fun(a,k)=>annL [(2,annOf [.slot 0 (2000000,0) (.own .eArg true),.slot 1 (1,1024) (.lit (.int .i64)),.slot 5 (5,1024) (.lit (.int .i64))] (fun _=>Zi189_2 a k) (Zm189_2 a k))]
def Zu189:=us [Zh118]
theorem Zv189(a:(List DArg))(k:Int):goal EE Zu189 Go.Proofs.Tryz.f189 Zk189 Za189 (a,k)=(Zi189_2 a k (a,k,(0:Int),())∧
 ∀(y:List DArg×Int×Int×PUnit),
  let x0:Nat:=Int.toNat y.2.2.1;
  let x5:Int:=IntKind.wrap IntKind.i64 (y.2.1+(1:Int));
  let x6:List DArg:=List.modify y.1 x0 fun(x:DArg)=>{K:=y.2.1,S:=x.S,V:=x.V:DArg};
  let x7:Int:=IntKind.wrap IntKind.i64 (IntKind.wrap IntKind.i64 (x5+(1:Int))+(1:Int));
  let x3:Int:=IntKind.wrap IntKind.i64 (x7+(1:Int));
  let x4:List DArg:=List.modify x6 x0 fun(x:DArg)=>{K:=x.K,S:=markText x5,V:=x.V:DArg};
  let x2:List DArg:=List.modify x4 x0 fun(x:DArg)=>{K:=x.K,S:=x.S,V:={K:=IntKind.wrap IntKind.i64 (x5+(1:Int)),N:=x.V.N,S:=x.V.S:DVal}:DArg};
  let x1:List DArg:=List.modify x2 x0 fun(x:DArg)=>{K:=x.K,S:=x.S,V:={K:=x.V.K,N:=x7,S:=x.V.S:DVal}:DArg};
  Zi189_2 a k y→bif decide (y.2.2.1<(↑(List.length y.1):Int)) then(0:Int)≤y.2.2.1∧x0<List.length y.1∧x0<List.length y.1∧x5≤(4611686018427387903:Int)∧(0:Int)≤y.2.2.1∧x0<List.length x6∧x0<List.length x6∧(0:Int)≤y.2.2.1∧x0<List.length x4∧x0<List.length x4∧(0:Int)≤y.2.2.1∧x0<List.length x2∧x0<List.length x2∧x3≤(4611686018427387903:Int)∧(0:Int)≤y.2.2.1∧x0<List.length x1∧x0<List.length x1∧Zi189_2 a k (List.modify x1 x0 fun(x:DArg)=>{K:=x.K,S:=x.S,V:={K:=x.V.K,N:=x.V.N,S:=markText x3:DVal}:DArg},IntKind.wrap IntKind.i64 (x3+(1:Int)),IntKind.wrap IntKind.i64 (y.2.2.1+(1:Int)),PUnit.unit)∧Zm189_2 a k (List.modify x1 x0 fun(x:DArg)=>{K:=x.K,S:=x.S,V:={K:=x.V.K,N:=x.V.N,S:=markText x3:DVal}:DArg},IntKind.wrap IntKind.i64 (x3+(1:Int)),IntKind.wrap IntKind.i64 (y.2.2.1+(1:Int)),PUnit.unit)<Zm189_2 a k y else asD [DV.one (Cell.lit (Value.int IntKind.i64 y.2.1))]=asD [DV.one (Cell.lit (Value.int IntKind.i64 (k+(↑(cntArgS a):Int))))]∧asD [DV.one (Cell.sl Cd.eArg y.1)]=asD [DV.one (Cell.sl Cd.eArg (markArgS a k))]):=by kernel_rfl
theorem Zo189:Holds EE (189,Zk189):=by
 refine holds_of EE_ok Go.Proofs.Tryz.func189 Zk189 (by kernel_rfl) Zu189 (us_ok _) Za189 (fun x hp hb=> ?_)
 obtain⟨a,k⟩:=x
 have hl_a:a.length≤9223372036854775807:=bdL (hb _ m0)
 have hl_k:=bdI (n:=k) (hb _ m1)
 have hp0:0≤k:=hp _ m0
 have hp1:k+cntArgS a≤4611686018427387904:=hp _ m1
 clear hp hb
 rw[Zv189 a k]
 dsimp only
 refine⟨⟨by omega,by omega,by simp,by simp[ctS]⟩,?_⟩
 rintro⟨row,kk,i,⟨⟩⟩ ⟨h1,h2,rfl,rfl⟩
 simp only
 have hl:=mk_rl markArg cntArg a k h1 h2
 refine if_cond (fun hc=> ?_) (fun hc=> ?_)
 ·have hc:i<a.length:=by have hc:=of_decide_eq_true hc;omega
  have hct:=ctS_take cntArg a zArg h1 hc
  have hle:=ctS_take_le cntArg a (i+1).toNat
  have hg:=mk_getD _ a zArg (mk_tl markArg cntArg a k h1 h2) h1 hc
  have hM:=fun F hF=>mkS_mod markArg cntArg a zArg k (i:=i) F h1 hc hF
  have hq:(cntArgS a:Int)=ctS cntArg a:=rfl
  generalize List.getD a i.toNat zArg=x at*
  generalize hkk:k+(ctS cntArg (a.take i.toNat):Int)=kk at*
  generalize List.take i.toNat (mkS markArg cntArg a k)++List.drop i.toNat a=R at*
  simp only[cntArg] at hct
  simp(disch:=first|omega|(simp only[zbf];omega)) only[zbf,wrap_i64,getD_modify,modify_modify,hg,hl]
  repeat' (first|refine And.intro (by omega) ?_|fail)
  exact⟨⟨by omega,by omega,hM _ (by first|rfl|(simp only[markArg,markBool];rw[zbp (by omega)];rfl)),by omega⟩,by simp only[Zm189_2];omega⟩
 ·have hc:a.length≤i:=by have hc:=of_decide_eq_false hc;omega
  rw[mk_done markArg cntArg a k hc,ct_done cntArg a hc]
  exact⟨rfl,rfl⟩
def Zh189:HH:=⟨_,Zo189⟩
def Zk196:Con UU where
 α:=DPat×Int
 md:=[.ro,.ro]
 of:=oC (oA .lPat) (o1 oI)
 ds:=fun x=>[dA .lPat x.1,dI x.2]
 pre:=fun(a,left)=>[0≤left]
 res:=fun(a,left)=>⟨[.one (.lit (.int .i64 (szr left (sizePat a))))],true,[]⟩
 law:=lC (lA .lPat) (l1 lI)
def Za196:Zk196.α→Nat→Option (Ann UU):=fun(a,left)=>annL []
def Zu196:=us [Zh232]
theorem Zv196(a:DPat)(left:Int):goal EE Zu196 Go.Proofs.Tryz.f196 Zk196 Za196 (a,left)=(let x0:Int:=IntKind.wrap IntKind.i64 (left-(↑(ByteArray.size a.Kind):Int));
bif decide (x0<(0:Int)) then Lf [DV.one (Cell.lit (Value.int IntKind.i64 (-1:Int)))] [DV.one (Cell.lit (Value.int IntKind.i64 (szr left (sizePat a))))] else(0:Int)≤x0∧bif decide (szr x0 (sizeArgS a.Args)<(0:Int)) then Lf [DV.one (Cell.lit (Value.int IntKind.i64 (-1:Int)))] [DV.one (Cell.lit (Value.int IntKind.i64 (szr left (sizePat a))))] else Lf [DV.one (Cell.lit (Value.int IntKind.i64 (szr x0 (sizeArgS a.Args))))] [DV.one (Cell.lit (Value.int IntKind.i64 (szr left (sizePat a))))]):=by kernel_rfl
theorem Zo196:Holds EE (196,Zk196):=by
 refine holds_of EE_ok Go.Proofs.Tryz.func196 Zk196 (by kernel_rfl) Zu196 (us_ok _) Za196 (fun x hp hb=> ?_)
 obtain⟨a,left⟩:=x
 have hz0:=bd_lPat (x:=a) (hb _ m0)
 have hl_a_Kind:=hz0.1
 have hl_a_Args:=hz0.2
 have hl_left:=bdI (n:=left) (hb _ m1)
 have hp0:0≤left:=hp _ m0
 clear hp hb
 rw[Zv196 a left]
 dsimp only
 rw[wrap_i64 (by omega) (by omega)]
 refine if_cond (fun h=>Lf_i (szr_bad' ?_)) (fun h=> ?_)
 ·have h:=of_decide_eq_true h;simp only[sizePat];omega
 have h0:=of_decide_eq_false h
 refine⟨by omega,if_cond (fun h=>Lf_i (szr_bad' ?_)) (fun h=> ?_)⟩
 ·have h:=szr_neg h;simp only[sizePat];omega
 obtain⟨e1,h1⟩:=szr_pos h
 rw[e1]
 exact Lf_i (by rw[←szr_ok' (by simp only[sizePat];omega)];simp only[sizePat];try omega)
def Zh196:HH:=⟨_,Zo196⟩
def Zk206:Con UU where
 α:=DPat
 md:=[.ro]
 of:=o1 (oA .lPat)
 ds:=fun x=>[dA .lPat x]
 pre:=fun a=>[sizePat a≤4294967296]
 res:=fun a=>⟨[.agg [.lit (.string a.Kind),.sl .eArg a.Args,.lit (.bool a.Not)]],true,[]⟩
 law:=l1 (lA .lPat)
def Za206:Zk206.α→Nat→Option (Ann UU):=fun a=>annL []
def Zu206:=us [Zh241]
theorem Zv206(a:DPat):goal EE Zu206 Go.Proofs.Tryz.f206 Zk206 Za206 a=(sizeArgS a.Args≤(4294967296:Nat)∧Lf [DV.agg [Cell.lit (Value.string a.Kind),Cell.sl Cd.eArg a.Args,Cell.lit (Value.bool a.Not)]] [DV.agg [Cell.lit (Value.string a.Kind),Cell.sl Cd.eArg a.Args,Cell.lit (Value.bool a.Not)]]):=by kernel_rfl
theorem Zo206:Holds EE (206,Zk206):=by
 refine holds_of EE_ok Go.Proofs.Tryz.func206 Zk206 (by kernel_rfl) Zu206 (us_ok _) Za206 (fun(a:DPat) hp hb=> ?_)
 have hz0:=bd_lPat (x:=a) (hb _ m0)
 have hl_a_Kind:=hz0.1
 have hl_a_Args:=hz0.2
 have hp0:sizePat a≤4294967296:=hp _ m0
 clear hp hb
 rw[Zv206 a]
 simp only[sizePat] at hp0
 repeat' (first|exact Lf_rfl _|(refine And.intro (by omega) ?_))
def Zh206:HH:=⟨_,Zo206⟩
def Zk227:Con UU where
 α:=DPat×DPat
 md:=[.ro,.ro]
 of:=oC (oA .ePat) (o1 (oA .ePat))
 ds:=fun x=>[dA .ePat x.1,dA .ePat x.2]
 pre:=fun _=>[]
 res:=fun(a,b)=>⟨[.one (.lit (.bool (decide (a=b))))],true,[]⟩
 law:=lC (lA .ePat) (l1 (lA .ePat))
def Za227:Zk227.α→Nat→Option (Ann UU):=fun(a,b)=>annL []
def Zu227:=us [Zh250]
theorem Zv227(a:DPat)(b:DPat):goal EE Zu227 Go.Proofs.Tryz.f227 Zk227 Za227 (a,b)=(bif !ByteArray.toList a.Kind==ByteArray.toList b.Kind then Lb false (decide (a=b)) else bif !decide (a.Args=b.Args) then Lb false (decide (a=b)) else bif !a.Not==b.Not then Lb false (decide (a=b)) else Lb true (decide (a=b))):=by kernel_rfl
theorem Zo227:Holds EE (227,Zk227):=by
 refine holds_of EE_ok Go.Proofs.Tryz.func227 Zk227 (by kernel_rfl) Zu227 (us_ok _) Za227 (fun x hp hb=> ?_)
 obtain⟨a,b⟩:=x
 have hz0:=bd_ePat (x:=a) (hb _ m0)
 have hl_a_Kind:=hz0.1
 have hl_a_Args:=hz0.2
 have hz1:=bd_ePat (x:=b) (hb _ m1)
 have hl_b_Kind:=hz1.1
 have hl_b_Args:=hz1.2
 clear hp hb
 rw[Zv227 a b]
 obtain⟨aKind,aArgs,aNot⟩:=a
 obtain⟨bKind,bArgs,bNot⟩:=b
 repeat' (apply if_cond<;>intro _)
 all_goals (first|apply Lf_t|apply Lf_f)<;>simp_all
def Zh227:HH:=⟨_,Zo227⟩
def Zk139:Con UU where
 α:=(List DPat)×Int
 md:=[.ro,.ro]
 of:=oC (oL .lPat) (o1 oI)
 ds:=fun x=>[dL .lPat x.1,dI x.2]
 pre:=fun(a,left)=>[0≤left]
 res:=fun(a,left)=>⟨[.one (.lit (.int .i64 (szr left (sizePatS a))))],true,[]⟩
 law:=lC (lL .lPat) (l1 lI)
def Zi139_5(a:(List DPat))(left:Int):Int×Int×Unit→Prop:=szI sizePat a (sizePatS a) left
def Zm139_5(a:(List DPat))(left:Int):Int×Int×Unit→Nat:=rM2 a
def Za139:Zk139.α→Nat→Option (Ann UU):=fun(a,left)=>annL [(5,annOf [.slot 1 (1,1024) (.lit (.int .i64)),.slot 5 (5,1024) (.lit (.int .i64))] (fun _=>Zi139_5 a left) (Zm139_5 a left))]
def Zu139:=us [Zh196]
theorem Zv139(a:(List DPat))(left:Int):goal EE Zu139 Go.Proofs.Tryz.f139 Zk139 Za139 (a,left)=(szV sizePat zPat a (sizePatS a) left):=by kernel_rfl
theorem Zo139:Holds EE (139,Zk139):=by
 refine holds_of EE_ok Go.Proofs.Tryz.func139 Zk139 (by kernel_rfl) Zu139 (us_ok _) Za139 (fun x hp hb=> ?_)
 obtain⟨a,left⟩:=x
 have hl_a:a.length≤9223372036854775807:=bdL (hb _ m0)
 have hl_left:=bdI (n:=left) (hb _ m1)
 have hp0:0≤left:=hp _ m0
 clear hp hb
 rw[Zv139 a left]
 exact szV_ok rfl hp0 hl_left hl_a
def Zh139:HH:=⟨_,Zo139⟩
def Zk158:Con UU where
 α:=(List DPat)
 md:=[.ro]
 of:=o1 (oL .lPat)
 ds:=fun x=>[dL .lPat x]
 pre:=fun a=>[sizePatS a≤4294967296]
 res:=fun a=>⟨[.one (.sl .ePat a)],true,[]⟩
 law:=l1 (lL .lPat)
def Zi158_3(a:(List DPat)):List DPat×Int×Unit→Prop:=toI zPat a
def Zm158_3(a:(List DPat)):List DPat×Int×Unit→Nat:=rM2 a
def Za158:Zk158.α→Nat→Option (Ann UU):=fun a=>annL [(3,annOf [.slot 3 (3,1024) (.own .ePat true),.slot 4 (4,1024) (.lit (.int .i64))] (fun _=>Zi158_3 a) (Zm158_3 a))]
def Zu158:=us [Zh206]
theorem Zv158(a:(List DPat)):goal EE Zu158 Go.Proofs.Tryz.f158 Zk158 Za158 a=(toV sizePat zPat a fun y=>Lf [.one (.sl .ePat y)] [.one (.sl .ePat a)]):=by kernel_rfl
theorem Zo158:Holds EE (158,Zk158):=by
 refine holds_of EE_ok Go.Proofs.Tryz.func158 Zk158 (by kernel_rfl) Zu158 (us_ok _) Za158 (fun(a:(List DPat)) hp hb=> ?_)
 have hl_a:a.length≤9223372036854775807:=bdL (hb _ m0)
 have hp0:sizePatS a≤4294967296:=hp _ m0
 clear hp hb
 rw[Zv158 a]
 exact toV_ok hp0 (Lf_rfl _)
def Zh158:HH:=⟨_,Zo158⟩
def Zk186:Con UU where
 α:=(List DPat)×(List DPat)
 md:=[.ro,.ro]
 of:=oC (oL .ePat) (o1 (oL .ePat))
 ds:=fun x=>[dL .ePat x.1,dL .ePat x.2]
 pre:=fun _=>[]
 res:=fun(a,b)=>⟨[.one (.lit (.bool (decide (a=b))))],true,[]⟩
 law:=lC (lL .ePat) (l1 (lL .ePat))
def Zi186_4(a:(List DPat))(b:(List DPat)):Int×Unit→Prop:=eqI a b
def Zm186_4(a:(List DPat))(b:(List DPat)):Int×Unit→Nat:=rM1 a
def Za186:Zk186.α→Nat→Option (Ann UU):=fun(a,b)=>annL [(4,annOf [.slot 5 (5,1024) (.lit (.int .i64))] (fun _=>Zi186_4 a b) (Zm186_4 a b))]
def Zu186:=us [Zh227]
theorem Zv186(a:(List DPat))(b:(List DPat)):goal EE Zu186 Go.Proofs.Tryz.f186 Zk186 Za186 (a,b)=(eqV zPat a b):=by kernel_rfl
theorem Zo186:Holds EE (186,Zk186):=by
 refine holds_of EE_ok Go.Proofs.Tryz.func186 Zk186 (by kernel_rfl) Zu186 (us_ok _) Za186 (fun x hp hb=> ?_)
 obtain⟨a,b⟩:=x
 have hl_a:a.length≤9223372036854775807:=bdL (hb _ m0)
 have hl_b:b.length≤9223372036854775807:=bdL (hb _ m1)
 clear hp hb
 rw[Zv186 a b]
 exact eqV_ok hl_a
def Zh186:HH:=⟨_,Zo186⟩
def Zk119:Con UU where
 α:=(List DPat)×Int
 md:=[.wr,.ro]
 of:=oC (oL .ePat) (o1 oI)
 ds:=fun x=>[dL .ePat x.1,dI x.2]
 pre:=fun(a,k)=>[0≤k,k+cntPatS a≤4611686018427387904]
 res:=fun(a,k)=>⟨[.one (.lit (.int .i64 (k+cntPatS a)))],true,[.one (.sl .ePat (markPatS a k))]⟩
 law:=lC (lL .ePat) (l1 lI)
def Zi119_2(a:(List DPat))(k:Int):List DPat×Int×Int×Unit→Prop:=fun(row,kk,i,_)=>0≤i∧i≤a.length∧row=(mkS markPat cntPat a k).take i.toNat++a.drop i.toNat∧kk=k+ctS cntPat (a.take i.toNat)
def Zm119_2(a:(List DPat))(k:Int):List DPat×Int×Int×Unit→Nat:=fun(row,kk,i,_)=>a.length-i.toNat
def Za119:Zk119.α→Nat→Option (Ann UU):=fun(a,k)=>annL [(2,annOf [.slot 0 (2000000,0) (.own .ePat true),.slot 1 (1,1024) (.lit (.int .i64)),.slot 5 (5,1024) (.lit (.int .i64))] (fun _=>Zi119_2 a k) (Zm119_2 a k))]
def Zu119:=us [Zh118,Zh189]
theorem Zv119(a:(List DPat))(k:Int):goal EE Zu119 Go.Proofs.Tryz.f119 Zk119 Za119 (a,k)=(Zi119_2 a k (a,k,(0:Int),())∧
 ∀(y:List DPat×Int×Int×PUnit),
  let x2:Nat:=Int.toNat y.2.2.1;
  let x3:List DPat:=List.modify y.1 x2 fun(x:DPat)=>{Kind:=markText y.2.1,Args:=x.Args,Not:=x.Not:DPat};
  let x4:Int:=IntKind.wrap IntKind.i64 (y.2.1+(1:Int));
  let x0:Int:=x4+(↑(cntArgS (List.getD x3 x2 zPat).Args):Int);
  let x1:List DPat:=List.modify x3 x2 fun(x:DPat)=>{Kind:=x.Kind,Args:=markArgS (List.getD x3 x2 zPat).Args x4,Not:=x.Not:DPat};
  Zi119_2 a k y→bif decide (y.2.2.1<(↑(List.length y.1):Int)) then y.2.1≤(4611686018427387903:Int)∧(0:Int)≤y.2.2.1∧x2<List.length y.1∧x2<List.length y.1∧(0:Int)≤y.2.2.1∧x2<List.length x3∧x2<List.length x3∧x2<List.length x3∧(0:Int)≤x4∧x0≤(4611686018427387904:Int)∧(3:Int)≠(0:Int)∧(0:Int)≤y.2.2.1∧x2<List.length x1∧x2<List.length x1∧Zi119_2 a k (List.modify x1 x2 fun(x:DPat)=>{Kind:=x.Kind,Args:=x.Args,Not:=Int.tmod x0 (3:Int)==(0:Int):DPat},IntKind.wrap IntKind.i64 (x0+(1:Int)),IntKind.wrap IntKind.i64 (y.2.2.1+(1:Int)),PUnit.unit)∧Zm119_2 a k (List.modify x1 x2 fun(x:DPat)=>{Kind:=x.Kind,Args:=x.Args,Not:=Int.tmod x0 (3:Int)==(0:Int):DPat},IntKind.wrap IntKind.i64 (x0+(1:Int)),IntKind.wrap IntKind.i64 (y.2.2.1+(1:Int)),PUnit.unit)<Zm119_2 a k y else asD [DV.one (Cell.lit (Value.int IntKind.i64 y.2.1))]=asD [DV.one (Cell.lit (Value.int IntKind.i64 (k+(↑(cntPatS a):Int))))]∧asD [DV.one (Cell.sl Cd.ePat y.1)]=asD [DV.one (Cell.sl Cd.ePat (markPatS a k))]):=by kernel_rfl
theorem Zo119:Holds EE (119,Zk119):=by
 refine holds_of EE_ok Go.Proofs.Tryz.func119 Zk119 (by kernel_rfl) Zu119 (us_ok _) Za119 (fun x hp hb=> ?_)
 obtain⟨a,k⟩:=x
 have hl_a:a.length≤9223372036854775807:=bdL (hb _ m0)
 have hl_k:=bdI (n:=k) (hb _ m1)
 have hp0:0≤k:=hp _ m0
 have hp1:k+cntPatS a≤4611686018427387904:=hp _ m1
 clear hp hb
 rw[Zv119 a k]
 dsimp only
 refine⟨⟨by omega,by omega,by simp,by simp[ctS]⟩,?_⟩
 rintro⟨row,kk,i,⟨⟩⟩ ⟨h1,h2,rfl,rfl⟩
 simp only
 have hl:=mk_rl markPat cntPat a k h1 h2
 refine if_cond (fun hc=> ?_) (fun hc=> ?_)
 ·have hc:i<a.length:=by have hc:=of_decide_eq_true hc;omega
  have hct:=ctS_take cntPat a zPat h1 hc
  have hle:=ctS_take_le cntPat a (i+1).toNat
  have hg:=mk_getD _ a zPat (mk_tl markPat cntPat a k h1 h2) h1 hc
  have hM:=fun F hF=>mkS_mod markPat cntPat a zPat k (i:=i) F h1 hc hF
  have hq:(cntPatS a:Int)=ctS cntPat a:=rfl
  generalize List.getD a i.toNat zPat=x at*
  generalize hkk:k+(ctS cntPat (a.take i.toNat):Int)=kk at*
  generalize List.take i.toNat (mkS markPat cntPat a k)++List.drop i.toNat a=R at*
  simp only[cntPat] at hct
  simp(disch:=first|omega|(simp only[zbf];omega)) only[zbf,wrap_i64,getD_modify,modify_modify,hg,hl]
  repeat' (first|refine And.intro (by omega) ?_|fail)
  exact⟨⟨by omega,by omega,hM _ (by first|rfl|(simp only[markPat,markBool];rw[zbp (by omega)];rfl)),by omega⟩,by simp only[Zm119_2];omega⟩
 ·have hc:a.length≤i:=by have hc:=of_decide_eq_false hc;omega
  rw[mk_done markPat cntPat a k hc,ct_done cntPat a hc]
  exact⟨rfl,rfl⟩
def Zh119:HH:=⟨_,Zo119⟩
def Zk199:Con UU where
 α:=DBind×Int
 md:=[.ro,.ro]
 of:=oC (oA .lBind) (o1 oI)
 ds:=fun x=>[dA .lBind x.1,dI x.2]
 pre:=fun(a,left)=>[0≤left]
 res:=fun(a,left)=>⟨[.one (.lit (.int .i64 (szr left (sizeBind a))))],true,[]⟩
 law:=lC (lA .lBind) (l1 lI)
def Za199:Zk199.α→Nat→Option (Ann UU):=fun(a,left)=>annL []
def Zu199:=us [Zh129]
theorem Zv199(a:DBind)(left:Int):goal EE Zu199 Go.Proofs.Tryz.f199 Zk199 Za199 (a,left)=(let x0:Int:=IntKind.wrap IntKind.i64 (left-(↑(ByteArray.size a.Name):Int));
bif decide (x0<(0:Int)) then Lf [DV.one (Cell.lit (Value.int IntKind.i64 (-1:Int)))] [DV.one (Cell.lit (Value.int IntKind.i64 (szr left (sizeBind a))))] else(0:Int)≤x0∧bif decide (szr x0 (sizeVal a.V)<(0:Int)) then Lf [DV.one (Cell.lit (Value.int IntKind.i64 (-1:Int)))] [DV.one (Cell.lit (Value.int IntKind.i64 (szr left (sizeBind a))))] else Lf [DV.one (Cell.lit (Value.int IntKind.i64 (szr x0 (sizeVal a.V))))] [DV.one (Cell.lit (Value.int IntKind.i64 (szr left (sizeBind a))))]):=by kernel_rfl
theorem Zo199:Holds EE (199,Zk199):=by
 refine holds_of EE_ok Go.Proofs.Tryz.func199 Zk199 (by kernel_rfl) Zu199 (us_ok _) Za199 (fun x hp hb=> ?_)
 obtain⟨a,left⟩:=x
 have hz0:=bd_lBind (x:=a) (hb _ m0)
 have hl_a_Name:=hz0.1
 have hl_a_V_S:=hz0.2
 have hl_left:=bdI (n:=left) (hb _ m1)
 have hp0:0≤left:=hp _ m0
 clear hp hb
 rw[Zv199 a left]
 dsimp only
 rw[wrap_i64 (by omega) (by omega)]
 refine if_cond (fun h=>Lf_i (szr_bad' ?_)) (fun h=> ?_)
 ·have h:=of_decide_eq_true h;simp only[sizeBind];omega
 have h0:=of_decide_eq_false h
 refine⟨by omega,if_cond (fun h=>Lf_i (szr_bad' ?_)) (fun h=> ?_)⟩
 ·have h:=szr_neg h;simp only[sizeBind];omega
 obtain⟨e1,h1⟩:=szr_pos h
 rw[e1]
 exact Lf_i (by rw[←szr_ok' (by simp only[sizeBind];omega)];simp only[sizeBind];try omega)
def Zh199:HH:=⟨_,Zo199⟩
def Zk209:Con UU where
 α:=DBind
 md:=[.ro]
 of:=o1 (oA .lBind)
 ds:=fun x=>[dA .lBind x]
 pre:=fun a=>[sizeBind a≤4294967296]
 res:=fun a=>⟨[.agg [.lit (.string a.Name),.lit (.int .i64 a.V.K),.lit (.int .i64 a.V.N),.lit (.string a.V.S)]],true,[]⟩
 law:=l1 (lA .lBind)
def Za209:Zk209.α→Nat→Option (Ann UU):=fun a=>annL []
def Zu209:=us [Zh133]
theorem Zv209(a:DBind):goal EE Zu209 Go.Proofs.Tryz.f209 Zk209 Za209 a=(sizeVal a.V≤(4294967296:Nat)∧Lf [DV.agg [Cell.lit (Value.string a.Name),Cell.lit (Value.int IntKind.i64 a.V.K),Cell.lit (Value.int IntKind.i64 a.V.N),Cell.lit (Value.string a.V.S)]] [DV.agg [Cell.lit (Value.string a.Name),Cell.lit (Value.int IntKind.i64 a.V.K),Cell.lit (Value.int IntKind.i64 a.V.N),Cell.lit (Value.string a.V.S)]]):=by kernel_rfl
theorem Zo209:Holds EE (209,Zk209):=by
 refine holds_of EE_ok Go.Proofs.Tryz.func209 Zk209 (by kernel_rfl) Zu209 (us_ok _) Za209 (fun(a:DBind) hp hb=> ?_)
 have hz0:=bd_lBind (x:=a) (hb _ m0)
 have hl_a_Name:=hz0.1
 have hl_a_V_S:=hz0.2
 have hp0:sizeBind a≤4294967296:=hp _ m0
 clear hp hb
 rw[Zv209 a]
 simp only[sizeBind] at hp0
 repeat' (first|exact Lf_rfl _|(refine And.intro (by omega) ?_))
def Zh209:HH:=⟨_,Zo209⟩
def Zk226:Con UU where
 α:=DBind×DBind
 md:=[.ro,.ro]
 of:=oC (oA .eBind) (o1 (oA .eBind))
 ds:=fun x=>[dA .eBind x.1,dA .eBind x.2]
 pre:=fun _=>[]
 res:=fun(a,b)=>⟨[.one (.lit (.bool (decide (a=b))))],true,[]⟩
 law:=lC (lA .eBind) (l1 (lA .eBind))
def Za226:Zk226.α→Nat→Option (Ann UU):=fun(a,b)=>annL []
def Zu226:=us [Zh138]
theorem Zv226(a:DBind)(b:DBind):goal EE Zu226 Go.Proofs.Tryz.f226 Zk226 Za226 (a,b)=(bif !ByteArray.toList a.Name==ByteArray.toList b.Name then Lb false (decide (a=b)) else bif !decide (a.V=b.V) then Lb false (decide (a=b)) else Lb true (decide (a=b))):=by kernel_rfl
theorem Zo226:Holds EE (226,Zk226):=by
 refine holds_of EE_ok Go.Proofs.Tryz.func226 Zk226 (by kernel_rfl) Zu226 (us_ok _) Za226 (fun x hp hb=> ?_)
 obtain⟨a,b⟩:=x
 have hz0:=bd_eBind (x:=a) (hb _ m0)
 have hl_a_Name:=hz0.1
 have hl_a_V_S:=hz0.2
 have hz1:=bd_eBind (x:=b) (hb _ m1)
 have hl_b_Name:=hz1.1
 have hl_b_V_S:=hz1.2
 clear hp hb
 rw[Zv226 a b]
 obtain⟨aName,aV⟩:=a
 obtain⟨bName,bV⟩:=b
 repeat' (apply if_cond<;>intro _)
 all_goals (first|apply Lf_t|apply Lf_f)<;>simp_all
def Zh226:HH:=⟨_,Zo226⟩
def Zk144:Con UU where
 α:=(List DBind)×Int
 md:=[.ro,.ro]
 of:=oC (oL .lBind) (o1 oI)
 ds:=fun x=>[dL .lBind x.1,dI x.2]
 pre:=fun(a,left)=>[0≤left]
 res:=fun(a,left)=>⟨[.one (.lit (.int .i64 (szr left (sizeBindS a))))],true,[]⟩
 law:=lC (lL .lBind) (l1 lI)
def Zi144_5(a:(List DBind))(left:Int):Int×Int×Unit→Prop:=szI sizeBind a (sizeBindS a) left
def Zm144_5(a:(List DBind))(left:Int):Int×Int×Unit→Nat:=rM2 a
def Za144:Zk144.α→Nat→Option (Ann UU):=fun(a,left)=>annL [(5,annOf [.slot 1 (1,1024) (.lit (.int .i64)),.slot 5 (5,1024) (.lit (.int .i64))] (fun _=>Zi144_5 a left) (Zm144_5 a left))]
def Zu144:=us [Zh199]
theorem Zv144(a:(List DBind))(left:Int):goal EE Zu144 Go.Proofs.Tryz.f144 Zk144 Za144 (a,left)=(szV sizeBind zBind a (sizeBindS a) left):=by kernel_rfl
theorem Zo144:Holds EE (144,Zk144):=by
 refine holds_of EE_ok Go.Proofs.Tryz.func144 Zk144 (by kernel_rfl) Zu144 (us_ok _) Za144 (fun x hp hb=> ?_)
 obtain⟨a,left⟩:=x
 have hl_a:a.length≤9223372036854775807:=bdL (hb _ m0)
 have hl_left:=bdI (n:=left) (hb _ m1)
 have hp0:0≤left:=hp _ m0
 clear hp hb
 rw[Zv144 a left]
 exact szV_ok rfl hp0 hl_left hl_a
def Zh144:HH:=⟨_,Zo144⟩
def Zk163:Con UU where
 α:=(List DBind)
 md:=[.ro]
 of:=o1 (oL .lBind)
 ds:=fun x=>[dL .lBind x]
 pre:=fun a=>[sizeBindS a≤4294967296]
 res:=fun a=>⟨[.one (.sl .eBind a)],true,[]⟩
 law:=l1 (lL .lBind)
def Zi163_3(a:(List DBind)):List DBind×Int×Unit→Prop:=toI zBind a
def Zm163_3(a:(List DBind)):List DBind×Int×Unit→Nat:=rM2 a
def Za163:Zk163.α→Nat→Option (Ann UU):=fun a=>annL [(3,annOf [.slot 3 (3,1024) (.own .eBind true),.slot 4 (4,1024) (.lit (.int .i64))] (fun _=>Zi163_3 a) (Zm163_3 a))]
def Zu163:=us [Zh209]
theorem Zv163(a:(List DBind)):goal EE Zu163 Go.Proofs.Tryz.f163 Zk163 Za163 a=(toV sizeBind zBind a fun y=>Lf [.one (.sl .eBind y)] [.one (.sl .eBind a)]):=by kernel_rfl
theorem Zo163:Holds EE (163,Zk163):=by
 refine holds_of EE_ok Go.Proofs.Tryz.func163 Zk163 (by kernel_rfl) Zu163 (us_ok _) Za163 (fun(a:(List DBind)) hp hb=> ?_)
 have hl_a:a.length≤9223372036854775807:=bdL (hb _ m0)
 have hp0:sizeBindS a≤4294967296:=hp _ m0
 clear hp hb
 rw[Zv163 a]
 exact toV_ok hp0 (Lf_rfl _)
def Zh163:HH:=⟨_,Zo163⟩
def Zk185:Con UU where
 α:=(List DBind)×(List DBind)
 md:=[.ro,.ro]
 of:=oC (oL .eBind) (o1 (oL .eBind))
 ds:=fun x=>[dL .eBind x.1,dL .eBind x.2]
 pre:=fun _=>[]
 res:=fun(a,b)=>⟨[.one (.lit (.bool (decide (a=b))))],true,[]⟩
 law:=lC (lL .eBind) (l1 (lL .eBind))
def Zi185_4(a:(List DBind))(b:(List DBind)):Int×Unit→Prop:=eqI a b
def Zm185_4(a:(List DBind))(b:(List DBind)):Int×Unit→Nat:=rM1 a
def Za185:Zk185.α→Nat→Option (Ann UU):=fun(a,b)=>annL [(4,annOf [.slot 5 (5,1024) (.lit (.int .i64))] (fun _=>Zi185_4 a b) (Zm185_4 a b))]
def Zu185:=us [Zh226]
theorem Zv185(a:(List DBind))(b:(List DBind)):goal EE Zu185 Go.Proofs.Tryz.f185 Zk185 Za185 (a,b)=(eqV zBind a b):=by kernel_rfl
theorem Zo185:Holds EE (185,Zk185):=by
 refine holds_of EE_ok Go.Proofs.Tryz.func185 Zk185 (by kernel_rfl) Zu185 (us_ok _) Za185 (fun x hp hb=> ?_)
 obtain⟨a,b⟩:=x
 have hl_a:a.length≤9223372036854775807:=bdL (hb _ m0)
 have hl_b:b.length≤9223372036854775807:=bdL (hb _ m1)
 clear hp hb
 rw[Zv185 a b]
 exact eqV_ok hl_a
def Zh185:HH:=⟨_,Zo185⟩
def Zk124:Con UU where
 α:=(List DBind)×Int
 md:=[.wr,.ro]
 of:=oC (oL .eBind) (o1 oI)
 ds:=fun x=>[dL .eBind x.1,dI x.2]
 pre:=fun(a,k)=>[0≤k,k+cntBindS a≤4611686018427387904]
 res:=fun(a,k)=>⟨[.one (.lit (.int .i64 (k+cntBindS a)))],true,[.one (.sl .eBind (markBindS a k))]⟩
 law:=lC (lL .eBind) (l1 lI)
def Zi124_2(a:(List DBind))(k:Int):List DBind×Int×Int×Unit→Prop:=fun(row,kk,i,_)=>0≤i∧i≤a.length∧row=(mkS markBind cntBind a k).take i.toNat++a.drop i.toNat∧kk=k+ctS cntBind (a.take i.toNat)
def Zm124_2(a:(List DBind))(k:Int):List DBind×Int×Int×Unit→Nat:=fun(row,kk,i,_)=>a.length-i.toNat
def Za124:Zk124.α→Nat→Option (Ann UU):=fun(a,k)=>annL [(2,annOf [.slot 0 (2000000,0) (.own .eBind true),.slot 1 (1,1024) (.lit (.int .i64)),.slot 5 (5,1024) (.lit (.int .i64))] (fun _=>Zi124_2 a k) (Zm124_2 a k))]
def Zu124:=us [Zh118]
theorem Zv124(a:(List DBind))(k:Int):goal EE Zu124 Go.Proofs.Tryz.f124 Zk124 Za124 (a,k)=(Zi124_2 a k (a,k,(0:Int),())∧
 ∀(y:List DBind×Int×Int×PUnit),
  let x0:Nat:=Int.toNat y.2.2.1;
  let x5:Int:=IntKind.wrap IntKind.i64 (y.2.1+(1:Int));
  let x6:List DBind:=List.modify y.1 x0 fun(x:DBind)=>{Name:=markText y.2.1,V:=x.V:DBind};
  let x3:List DBind:=List.modify x6 x0 fun(x:DBind)=>{Name:=x.Name,V:={K:=x5,N:=x.V.N,S:=x.V.S:DVal}:DBind};
  let x4:Int:=IntKind.wrap IntKind.i64 (x5+(1:Int));
  let x1:List DBind:=List.modify x3 x0 fun(x:DBind)=>{Name:=x.Name,V:={K:=x.V.K,N:=x4,S:=x.V.S:DVal}:DBind};
  let x2:Int:=IntKind.wrap IntKind.i64 (x4+(1:Int));
  Zi124_2 a k y→bif decide (y.2.2.1<(↑(List.length y.1):Int)) then y.2.1≤(4611686018427387903:Int)∧(0:Int)≤y.2.2.1∧x0<List.length y.1∧x0<List.length y.1∧(0:Int)≤y.2.2.1∧x0<List.length x6∧x0<List.length x6∧(0:Int)≤y.2.2.1∧x0<List.length x3∧x0<List.length x3∧x2≤(4611686018427387903:Int)∧(0:Int)≤y.2.2.1∧x0<List.length x1∧x0<List.length x1∧Zi124_2 a k (List.modify x1 x0 fun(x:DBind)=>{Name:=x.Name,V:={K:=x.V.K,N:=x.V.N,S:=markText x2:DVal}:DBind},IntKind.wrap IntKind.i64 (x2+(1:Int)),IntKind.wrap IntKind.i64 (y.2.2.1+(1:Int)),PUnit.unit)∧Zm124_2 a k (List.modify x1 x0 fun(x:DBind)=>{Name:=x.Name,V:={K:=x.V.K,N:=x.V.N,S:=markText x2:DVal}:DBind},IntKind.wrap IntKind.i64 (x2+(1:Int)),IntKind.wrap IntKind.i64 (y.2.2.1+(1:Int)),PUnit.unit)<Zm124_2 a k y else asD [DV.one (Cell.lit (Value.int IntKind.i64 y.2.1))]=asD [DV.one (Cell.lit (Value.int IntKind.i64 (k+(↑(cntBindS a):Int))))]∧asD [DV.one (Cell.sl Cd.eBind y.1)]=asD [DV.one (Cell.sl Cd.eBind (markBindS a k))]):=by kernel_rfl
theorem Zo124:Holds EE (124,Zk124):=by
 refine holds_of EE_ok Go.Proofs.Tryz.func124 Zk124 (by kernel_rfl) Zu124 (us_ok _) Za124 (fun x hp hb=> ?_)
 obtain⟨a,k⟩:=x
 have hl_a:a.length≤9223372036854775807:=bdL (hb _ m0)
 have hl_k:=bdI (n:=k) (hb _ m1)
 have hp0:0≤k:=hp _ m0
 have hp1:k+cntBindS a≤4611686018427387904:=hp _ m1
 clear hp hb
 rw[Zv124 a k]
 dsimp only
 refine⟨⟨by omega,by omega,by simp,by simp[ctS]⟩,?_⟩
 rintro⟨row,kk,i,⟨⟩⟩ ⟨h1,h2,rfl,rfl⟩
 simp only
 have hl:=mk_rl markBind cntBind a k h1 h2
 refine if_cond (fun hc=> ?_) (fun hc=> ?_)
 ·have hc:i<a.length:=by have hc:=of_decide_eq_true hc;omega
  have hct:=ctS_take cntBind a zBind h1 hc
  have hle:=ctS_take_le cntBind a (i+1).toNat
  have hg:=mk_getD _ a zBind (mk_tl markBind cntBind a k h1 h2) h1 hc
  have hM:=fun F hF=>mkS_mod markBind cntBind a zBind k (i:=i) F h1 hc hF
  have hq:(cntBindS a:Int)=ctS cntBind a:=rfl
  generalize List.getD a i.toNat zBind=x at*
  generalize hkk:k+(ctS cntBind (a.take i.toNat):Int)=kk at*
  generalize List.take i.toNat (mkS markBind cntBind a k)++List.drop i.toNat a=R at*
  simp only[cntBind] at hct
  simp(disch:=first|omega|(simp only[zbf];omega)) only[zbf,wrap_i64,getD_modify,modify_modify,hg,hl]
  repeat' (first|refine And.intro (by omega) ?_|fail)
  exact⟨⟨by omega,by omega,hM _ (by first|rfl|(simp only[markBind,markBool];rw[zbp (by omega)];rfl)),by omega⟩,by simp only[Zm124_2];omega⟩
 ·have hc:a.length≤i:=by have hc:=of_decide_eq_false hc;omega
  rw[mk_done markBind cntBind a k hc,ct_done cntBind a hc]
  exact⟨rfl,rfl⟩
def Zh124:HH:=⟨_,Zo124⟩
def Zk127:Con UU where
 α:=(List DBind)×Int
 md:=[.ro,.ro]
 of:=oC (oL .eBind) (o1 oI)
 ds:=fun x=>[dL .eBind x.1,dI x.2]
 pre:=fun(a,k)=>[0≤k,k+cntBindS a≤4611686018427387904]
 res:=fun(a,k)=>⟨[.one (.lit (.int .i64 (if markBindS a k=a then k+cntBindS a else-1)))],true,[]⟩
 law:=lC (lL .eBind) (l1 lI)
def Zi127_2(a:(List DBind))(k:Int):Int×Int×Unit→Prop:=fun(kk,i,_)=>0≤i∧i≤a.length∧kk=k+ctS cntBind (a.take i.toNat)∧(mkS markBind cntBind (a.drop i.toNat) kk=a.drop i.toNat↔mkS markBind cntBind a k=a)
def Zm127_2(a:(List DBind))(k:Int):Int×Int×Unit→Nat:=fun(kk,i,_)=>a.length-i.toNat
def Za127:Zk127.α→Nat→Option (Ann UU):=fun(a,k)=>annL [(2,annOf [.slot 1 (1,1024) (.lit (.int .i64)),.slot 5 (5,1024) (.lit (.int .i64))] (fun _=>Zi127_2 a k) (Zm127_2 a k))]
def Zu127:=us [Zh118]
theorem Zv127(a:(List DBind))(k:Int):goal EE Zu127 Go.Proofs.Tryz.f127 Zk127 Za127 (a,k)=(Zi127_2 a k (k,(0:Int),())∧
 ∀(y:Int×Int×PUnit),
  let x3:Nat:=Int.toNat y.2.1;
  let x4:Int:=IntKind.wrap IntKind.i64 (IntKind.wrap IntKind.i64 (y.1+(1:Int))+(1:Int));
  let x1:Int:=IntKind.wrap IntKind.i64 (x4+(1:Int));
  let x2:DBind:=List.getD a x3 zBind;
  let x0:DVal:=x2.V;
  Zi127_2 a k y→bif decide (y.2.1<(↑(List.length a):Int)) then(0:Int)≤y.2.1∧x3<List.length a∧y.1≤(4611686018427387903:Int)∧bif !ByteArray.toList x2.Name==ByteArray.toList (markText y.1) then Lf [DV.one (Cell.lit (Value.int IntKind.i64 (-1:Int)))] [DV.one (Cell.lit (Value.int IntKind.i64 (if markBindS a k=a then k+(↑(cntBindS a):Int) else(-1:Int))))] else(0:Int)≤y.2.1∧x3<List.length a∧bif x0.K !=IntKind.wrap IntKind.i64 (y.1+(1:Int)) then Lf [DV.one (Cell.lit (Value.int IntKind.i64 (-1:Int)))] [DV.one (Cell.lit (Value.int IntKind.i64 (if markBindS a k=a then k+(↑(cntBindS a):Int) else(-1:Int))))] else(0:Int)≤y.2.1∧x3<List.length a∧bif x0.N !=x4 then Lf [DV.one (Cell.lit (Value.int IntKind.i64 (-1:Int)))] [DV.one (Cell.lit (Value.int IntKind.i64 (if markBindS a k=a then k+(↑(cntBindS a):Int) else(-1:Int))))] else(0:Int)≤y.2.1∧x3<List.length a∧x1≤(4611686018427387903:Int)∧bif !ByteArray.toList x0.S==ByteArray.toList (markText x1) then Lf [DV.one (Cell.lit (Value.int IntKind.i64 (-1:Int)))] [DV.one (Cell.lit (Value.int IntKind.i64 (if markBindS a k=a then k+(↑(cntBindS a):Int) else(-1:Int))))] else Zi127_2 a k (IntKind.wrap IntKind.i64 (x1+(1:Int)),IntKind.wrap IntKind.i64 (y.2.1+(1:Int)),PUnit.unit)∧Zm127_2 a k (IntKind.wrap IntKind.i64 (x1+(1:Int)),IntKind.wrap IntKind.i64 (y.2.1+(1:Int)),PUnit.unit)<Zm127_2 a k y else Lf [DV.one (Cell.lit (Value.int IntKind.i64 y.1))] [DV.one (Cell.lit (Value.int IntKind.i64 (if markBindS a k=a then k+(↑(cntBindS a):Int) else(-1:Int))))]):=by kernel_rfl
theorem Zo127:Holds EE (127,Zk127):=by
 refine holds_of EE_ok Go.Proofs.Tryz.func127 Zk127 (by kernel_rfl) Zu127 (us_ok _) Za127 (fun x hp hb=> ?_)
 obtain⟨a,k⟩:=x
 have hl_a:a.length≤9223372036854775807:=bdL (hb _ m0)
 have hl_k:=bdI (n:=k) (hb _ m1)
 have hp0:0≤k:=hp _ m0
 have hp1:k+cntBindS a≤4611686018427387904:=hp _ m1
 clear hp hb
 rw[Zv127 a k]
 dsimp only
 refine⟨⟨by omega,by omega,by simp[ctS],by simp⟩,?_⟩
 rintro⟨kk,i,⟨⟩⟩ ⟨h1,h2,hkk,hR⟩
 simp only
 simp only[markBindS]
 refine if_cond (fun hc=> ?_) (fun hc=> ?_)
 ·have hc:i<a.length:=by have hc:=of_decide_eq_true hc;omega
  have hct:=ctS_take cntBind a zBind h1 hc
  have hle:=ctS_take_le cntBind a (i+1).toNat
  have hq:(cntBindS a:Int)=ctS cntBind a:=rfl
  rw[drop_step a zBind h1 hc] at hR
  generalize List.getD a i.toNat zBind=x at*
  simp only[mkS,zdd] at hR
  have e:kk+(cntBind x:Int)=kk+1+1+1+1:=by first|(simp only[cntBind];done)|(simp only[cntBind];omega)
  rw[e] at hR
  simp only[markBind,cntBind] at hR hct
  simp(disch:=omega) only[wrap_i64,bne_int,toList_beq]
  obtain⟨x_Name,⟨x_V_K,x_V_N,x_V_S⟩⟩:=x
  simp only[DBind.mk.injEq,DVal.mk.injEq] at*
  repeat' (first|refine And.intro (by omega) ?_|fail)
  refine if_cond (fun h=>Lf_no (fun hh=> ?_)) (fun h=> ?_)
  ·have hh:=hR.2 hh;simp_all
  have h:x_Name=markText (kk):=by simpa using h
  subst x_Name
  repeat' (first|refine And.intro (by omega) ?_|fail)
  refine if_cond (fun h=>Lf_no (fun hh=> ?_)) (fun h=> ?_)
  ·have hh:=hR.2 hh;simp_all
  have h:x_V_K=kk+1:=by simpa using h
  subst x_V_K
  repeat' (first|refine And.intro (by omega) ?_|fail)
  refine if_cond (fun h=>Lf_no (fun hh=> ?_)) (fun h=> ?_)
  ·have hh:=hR.2 hh;simp_all
  have h:x_V_N=kk+1+1:=by simpa using h
  subst x_V_N
  repeat' (first|refine And.intro (by omega) ?_|fail)
  refine if_cond (fun h=>Lf_no (fun hh=> ?_)) (fun h=> ?_)
  ·have hh:=hR.2 hh;simp_all
  have h:x_V_S=markText (kk+1+1+1):=by simpa using h
  subst x_V_S
  exact⟨⟨by omega,by omega,by omega,by simpa using hR⟩,by simp only[Zm127_2];omega⟩
 ·have hc:a.length≤i:=by have hc:=of_decide_eq_false hc;omega
  rw[drop_end a hc] at hR
  exact Lf_yes (hR.1 rfl) (by rw[hkk,ct_done _ _ hc];rfl)
def Zh127:HH:=⟨_,Zo127⟩
def Zk197:Con UU where
 α:=DCond×Int
 md:=[.ro,.ro]
 of:=oC (oA .lCond) (o1 oI)
 ds:=fun x=>[dA .lCond x.1,dI x.2]
 pre:=fun(a,left)=>[0≤left]
 res:=fun(a,left)=>⟨[.one (.lit (.int .i64 (szr left (sizeCond a))))],true,[]⟩
 law:=lC (lA .lCond) (l1 lI)
def Za197:Zk197.α→Nat→Option (Ann UU):=fun(a,left)=>annL []
def Zu197:=us [Zh233]
theorem Zv197(a:DCond)(left:Int):goal EE Zu197 Go.Proofs.Tryz.f197 Zk197 Za197 (a,left)=(let x0:Int:=szr (szr left (sizeArg a.L)) (sizeArg a.R);
(0:Int)≤left∧bif decide (szr left (sizeArg a.L)<(0:Int)) then Lf [DV.one (Cell.lit (Value.int IntKind.i64 (-1:Int)))] [DV.one (Cell.lit (Value.int IntKind.i64 (szr left (sizeCond a))))] else(0:Int)≤szr left (sizeArg a.L)∧bif decide (x0<(0:Int)) then Lf [DV.one (Cell.lit (Value.int IntKind.i64 (-1:Int)))] [DV.one (Cell.lit (Value.int IntKind.i64 (szr left (sizeCond a))))] else Lf [DV.one (Cell.lit (Value.int IntKind.i64 x0))] [DV.one (Cell.lit (Value.int IntKind.i64 (szr left (sizeCond a))))]):=by kernel_rfl
theorem Zo197:Holds EE (197,Zk197):=by
 refine holds_of EE_ok Go.Proofs.Tryz.func197 Zk197 (by kernel_rfl) Zu197 (us_ok _) Za197 (fun x hp hb=> ?_)
 obtain⟨a,left⟩:=x
 have hz0:=bd_lCond (x:=a) (hb _ m0)
 have hl_a_L_S:=hz0.1
 have hl_a_L_V_S:=hz0.2.1
 have hl_a_R_S:=hz0.2.2.1
 have hl_a_R_V_S:=hz0.2.2.2
 have hl_left:=bdI (n:=left) (hb _ m1)
 have hp0:0≤left:=hp _ m0
 clear hp hb
 rw[Zv197 a left]
 dsimp only
 refine⟨by omega,if_cond (fun h=>Lf_i (szr_bad' ?_)) (fun h=> ?_)⟩
 ·have h:=szr_neg h;simp only[sizeCond];omega
 obtain⟨e0,h0⟩:=szr_pos h
 rw[e0]
 refine⟨by omega,if_cond (fun h=>Lf_i (szr_bad' ?_)) (fun h=> ?_)⟩
 ·have h:=szr_neg h;simp only[sizeCond];omega
 obtain⟨e1,h1⟩:=szr_pos h
 rw[e1]
 exact Lf_i (by rw[←szr_ok' (by simp only[sizeCond];omega)];simp only[sizeCond];try omega)
def Zh197:HH:=⟨_,Zo197⟩
def Zk207:Con UU where
 α:=DCond
 md:=[.ro]
 of:=o1 (oA .lCond)
 ds:=fun x=>[dA .lCond x]
 pre:=fun a=>[sizeCond a≤4294967296]
 res:=fun a=>⟨[.agg [.lit (.int .i64 a.Op),.lit (.int .i64 a.L.K),.lit (.string a.L.S),.lit (.int .i64 a.L.V.K),.lit (.int .i64 a.L.V.N),.lit (.string a.L.V.S),.lit (.int .i64 a.R.K),.lit (.string a.R.S),.lit (.int .i64 a.R.V.K),.lit (.int .i64 a.R.V.N),.lit (.string a.R.V.S)]],true,[]⟩
 law:=l1 (lA .lCond)
def Za207:Zk207.α→Nat→Option (Ann UU):=fun a=>annL []
def Zu207:=us [Zh242]
theorem Zv207(a:DCond):goal EE Zu207 Go.Proofs.Tryz.f207 Zk207 Za207 a=(sizeArg a.L≤(4294967296:Nat)∧sizeArg a.R≤(4294967296:Nat)∧Lf [DV.agg [Cell.lit (Value.int IntKind.i64 a.Op),Cell.lit (Value.int IntKind.i64 a.L.K),Cell.lit (Value.string a.L.S),Cell.lit (Value.int IntKind.i64 a.L.V.K),Cell.lit (Value.int IntKind.i64 a.L.V.N),Cell.lit (Value.string a.L.V.S),Cell.lit (Value.int IntKind.i64 a.R.K),Cell.lit (Value.string a.R.S),Cell.lit (Value.int IntKind.i64 a.R.V.K),Cell.lit (Value.int IntKind.i64 a.R.V.N),Cell.lit (Value.string a.R.V.S)]] [DV.agg [Cell.lit (Value.int IntKind.i64 a.Op),Cell.lit (Value.int IntKind.i64 a.L.K),Cell.lit (Value.string a.L.S),Cell.lit (Value.int IntKind.i64 a.L.V.K),Cell.lit (Value.int IntKind.i64 a.L.V.N),Cell.lit (Value.string a.L.V.S),Cell.lit (Value.int IntKind.i64 a.R.K),Cell.lit (Value.string a.R.S),Cell.lit (Value.int IntKind.i64 a.R.V.K),Cell.lit (Value.int IntKind.i64 a.R.V.N),Cell.lit (Value.string a.R.V.S)]]):=by kernel_rfl
theorem Zo207:Holds EE (207,Zk207):=by
 refine holds_of EE_ok Go.Proofs.Tryz.func207 Zk207 (by kernel_rfl) Zu207 (us_ok _) Za207 (fun(a:DCond) hp hb=> ?_)
 have hz0:=bd_lCond (x:=a) (hb _ m0)
 have hl_a_L_S:=hz0.1
 have hl_a_L_V_S:=hz0.2.1
 have hl_a_R_S:=hz0.2.2.1
 have hl_a_R_V_S:=hz0.2.2.2
 have hp0:sizeCond a≤4294967296:=hp _ m0
 clear hp hb
 rw[Zv207 a]
 simp only[sizeCond] at hp0
 repeat' (first|exact Lf_rfl _|(refine And.intro (by omega) ?_))
def Zh207:HH:=⟨_,Zo207⟩
def Zk228:Con UU where
 α:=DCond×DCond
 md:=[.ro,.ro]
 of:=oC (oA .eCond) (o1 (oA .eCond))
 ds:=fun x=>[dA .eCond x.1,dA .eCond x.2]
 pre:=fun _=>[]
 res:=fun(a,b)=>⟨[.one (.lit (.bool (decide (a=b))))],true,[]⟩
 law:=lC (lA .eCond) (l1 (lA .eCond))
def Za228:Zk228.α→Nat→Option (Ann UU):=fun(a,b)=>annL []
def Zu228:=us [Zh251]
theorem Zv228(a:DCond)(b:DCond):goal EE Zu228 Go.Proofs.Tryz.f228 Zk228 Za228 (a,b)=(bif a.Op !=b.Op then Lb false (decide (a=b)) else bif !decide (a.L=b.L) then Lb false (decide (a=b)) else bif !decide (a.R=b.R) then Lb false (decide (a=b)) else Lb true (decide (a=b))):=by kernel_rfl
theorem Zo228:Holds EE (228,Zk228):=by
 refine holds_of EE_ok Go.Proofs.Tryz.func228 Zk228 (by kernel_rfl) Zu228 (us_ok _) Za228 (fun x hp hb=> ?_)
 obtain⟨a,b⟩:=x
 have hz0:=bd_eCond (x:=a) (hb _ m0)
 have hl_a_L_S:=hz0.1
 have hl_a_L_V_S:=hz0.2.1
 have hl_a_R_S:=hz0.2.2.1
 have hl_a_R_V_S:=hz0.2.2.2
 have hz1:=bd_eCond (x:=b) (hb _ m1)
 have hl_b_L_S:=hz1.1
 have hl_b_L_V_S:=hz1.2.1
 have hl_b_R_S:=hz1.2.2.1
 have hl_b_R_V_S:=hz1.2.2.2
 clear hp hb
 rw[Zv228 a b]
 obtain⟨aOp,aL,aR⟩:=a
 obtain⟨bOp,bL,bR⟩:=b
 repeat' (apply if_cond<;>intro _)
 all_goals (first|apply Lf_t|apply Lf_f)<;>simp_all
def Zh228:HH:=⟨_,Zo228⟩
def Zk140:Con UU where
 α:=(List DCond)×Int
 md:=[.ro,.ro]
 of:=oC (oL .lCond) (o1 oI)
 ds:=fun x=>[dL .lCond x.1,dI x.2]
 pre:=fun(a,left)=>[0≤left]
 res:=fun(a,left)=>⟨[.one (.lit (.int .i64 (szr left (sizeCondS a))))],true,[]⟩
 law:=lC (lL .lCond) (l1 lI)
def Zi140_5(a:(List DCond))(left:Int):Int×Int×Unit→Prop:=szI sizeCond a (sizeCondS a) left
def Zm140_5(a:(List DCond))(left:Int):Int×Int×Unit→Nat:=rM2 a
def Za140:Zk140.α→Nat→Option (Ann UU):=fun(a,left)=>annL [(5,annOf [.slot 1 (1,1024) (.lit (.int .i64)),.slot 5 (5,1024) (.lit (.int .i64))] (fun _=>Zi140_5 a left) (Zm140_5 a left))]
def Zu140:=us [Zh197]
theorem Zv140(a:(List DCond))(left:Int):goal EE Zu140 Go.Proofs.Tryz.f140 Zk140 Za140 (a,left)=(szV sizeCond zCond a (sizeCondS a) left):=by kernel_rfl
theorem Zo140:Holds EE (140,Zk140):=by
 refine holds_of EE_ok Go.Proofs.Tryz.func140 Zk140 (by kernel_rfl) Zu140 (us_ok _) Za140 (fun x hp hb=> ?_)
 obtain⟨a,left⟩:=x
 have hl_a:a.length≤9223372036854775807:=bdL (hb _ m0)
 have hl_left:=bdI (n:=left) (hb _ m1)
 have hp0:0≤left:=hp _ m0
 clear hp hb
 rw[Zv140 a left]
 exact szV_ok rfl hp0 hl_left hl_a
def Zh140:HH:=⟨_,Zo140⟩
def Zk159:Con UU where
 α:=(List DCond)
 md:=[.ro]
 of:=o1 (oL .lCond)
 ds:=fun x=>[dL .lCond x]
 pre:=fun a=>[sizeCondS a≤4294967296]
 res:=fun a=>⟨[.one (.sl .eCond a)],true,[]⟩
 law:=l1 (lL .lCond)
def Zi159_3(a:(List DCond)):List DCond×Int×Unit→Prop:=toI zCond a
def Zm159_3(a:(List DCond)):List DCond×Int×Unit→Nat:=rM2 a
def Za159:Zk159.α→Nat→Option (Ann UU):=fun a=>annL [(3,annOf [.slot 3 (3,1024) (.own .eCond true),.slot 4 (4,1024) (.lit (.int .i64))] (fun _=>Zi159_3 a) (Zm159_3 a))]
def Zu159:=us [Zh207]
theorem Zv159(a:(List DCond)):goal EE Zu159 Go.Proofs.Tryz.f159 Zk159 Za159 a=(toV sizeCond zCond a fun y=>Lf [.one (.sl .eCond y)] [.one (.sl .eCond a)]):=by kernel_rfl
theorem Zo159:Holds EE (159,Zk159):=by
 refine holds_of EE_ok Go.Proofs.Tryz.func159 Zk159 (by kernel_rfl) Zu159 (us_ok _) Za159 (fun(a:(List DCond)) hp hb=> ?_)
 have hl_a:a.length≤9223372036854775807:=bdL (hb _ m0)
 have hp0:sizeCondS a≤4294967296:=hp _ m0
 clear hp hb
 rw[Zv159 a]
 exact toV_ok hp0 (Lf_rfl _)
def Zh159:HH:=⟨_,Zo159⟩
def Zk187:Con UU where
 α:=(List DCond)×(List DCond)
 md:=[.ro,.ro]
 of:=oC (oL .eCond) (o1 (oL .eCond))
 ds:=fun x=>[dL .eCond x.1,dL .eCond x.2]
 pre:=fun _=>[]
 res:=fun(a,b)=>⟨[.one (.lit (.bool (decide (a=b))))],true,[]⟩
 law:=lC (lL .eCond) (l1 (lL .eCond))
def Zi187_4(a:(List DCond))(b:(List DCond)):Int×Unit→Prop:=eqI a b
def Zm187_4(a:(List DCond))(b:(List DCond)):Int×Unit→Nat:=rM1 a
def Za187:Zk187.α→Nat→Option (Ann UU):=fun(a,b)=>annL [(4,annOf [.slot 5 (5,1024) (.lit (.int .i64))] (fun _=>Zi187_4 a b) (Zm187_4 a b))]
def Zu187:=us [Zh228]
theorem Zv187(a:(List DCond))(b:(List DCond)):goal EE Zu187 Go.Proofs.Tryz.f187 Zk187 Za187 (a,b)=(eqV zCond a b):=by kernel_rfl
theorem Zo187:Holds EE (187,Zk187):=by
 refine holds_of EE_ok Go.Proofs.Tryz.func187 Zk187 (by kernel_rfl) Zu187 (us_ok _) Za187 (fun x hp hb=> ?_)
 obtain⟨a,b⟩:=x
 have hl_a:a.length≤9223372036854775807:=bdL (hb _ m0)
 have hl_b:b.length≤9223372036854775807:=bdL (hb _ m1)
 clear hp hb
 rw[Zv187 a b]
 exact eqV_ok hl_a
def Zh187:HH:=⟨_,Zo187⟩
def Zk120:Con UU where
 α:=(List DCond)×Int
 md:=[.wr,.ro]
 of:=oC (oL .eCond) (o1 oI)
 ds:=fun x=>[dL .eCond x.1,dI x.2]
 pre:=fun(a,k)=>[0≤k,k+cntCondS a≤4611686018427387904]
 res:=fun(a,k)=>⟨[.one (.lit (.int .i64 (k+cntCondS a)))],true,[.one (.sl .eCond (markCondS a k))]⟩
 law:=lC (lL .eCond) (l1 lI)
def Zi120_2(a:(List DCond))(k:Int):List DCond×Int×Int×Unit→Prop:=fun(row,kk,i,_)=>0≤i∧i≤a.length∧row=(mkS markCond cntCond a k).take i.toNat++a.drop i.toNat∧kk=k+ctS cntCond (a.take i.toNat)
def Zm120_2(a:(List DCond))(k:Int):List DCond×Int×Int×Unit→Nat:=fun(row,kk,i,_)=>a.length-i.toNat
def Za120:Zk120.α→Nat→Option (Ann UU):=fun(a,k)=>annL [(2,annOf [.slot 0 (2000000,0) (.own .eCond true),.slot 1 (1,1024) (.lit (.int .i64)),.slot 5 (5,1024) (.lit (.int .i64))] (fun _=>Zi120_2 a k) (Zm120_2 a k))]
def Zu120:=us [Zh118]
theorem Zv120(a:(List DCond))(k:Int):goal EE Zu120 Go.Proofs.Tryz.f120 Zk120 Za120 (a,k)=(Zi120_2 a k (a,k,(0:Int),())∧
 ∀(y:List DCond×Int×Int×PUnit),
  let x0:Nat:=Int.toNat y.2.2.1;
  let x14:Int:=IntKind.wrap IntKind.i64 (y.2.1+(1:Int));
  let x15:List DCond:=List.modify y.1 x0 fun(x:DCond)=>{Op:=y.2.1,L:=x.L,R:=x.R:DCond};
  let x12:Int:=IntKind.wrap IntKind.i64 (x14+(1:Int));
  let x13:List DCond:=List.modify x15 x0 fun(x:DCond)=>{Op:=x.Op,L:={K:=x14,S:=x.L.S,V:=x.L.V:DArg},R:=x.R:DCond};
  let x17:Int:=IntKind.wrap IntKind.i64 (IntKind.wrap IntKind.i64 (x12+(1:Int))+(1:Int));
  let x9:List DCond:=List.modify x13 x0 fun(x:DCond)=>{Op:=x.Op,L:={K:=x.L.K,S:=markText x12,V:=x.L.V:DArg},R:=x.R:DCond};
  let x11:Int:=IntKind.wrap IntKind.i64 (x17+(1:Int));
  let x7:List DCond:=List.modify x9 x0 fun(x:DCond)=>{Op:=x.Op,L:={K:=x.L.K,S:=x.L.S,V:={K:=IntKind.wrap IntKind.i64 (x12+(1:Int)),N:=x.L.V.N,S:=x.L.V.S:DVal}:DArg},R:=x.R:DCond};
  let x10:Int:=IntKind.wrap IntKind.i64 (IntKind.wrap IntKind.i64 (x11+(1:Int))+(1:Int));
  let x16:Int:=IntKind.wrap IntKind.i64 (IntKind.wrap IntKind.i64 (x10+(1:Int))+(1:Int));
  let x6:List DCond:=List.modify x7 x0 fun(x:DCond)=>{Op:=x.Op,L:={K:=x.L.K,S:=x.L.S,V:={K:=x.L.V.K,N:=x17,S:=x.L.V.S:DVal}:DArg},R:=x.R:DCond};
  let x8:Int:=IntKind.wrap IntKind.i64 (x16+(1:Int));
  let x5:List DCond:=List.modify x6 x0 fun(x:DCond)=>{Op:=x.Op,L:={K:=x.L.K,S:=x.L.S,V:={K:=x.L.V.K,N:=x.L.V.N,S:=markText x11:DVal}:DArg},R:=x.R:DCond};
  let x4:List DCond:=List.modify x5 x0 fun(x:DCond)=>{Op:=x.Op,L:=x.L,R:={K:=IntKind.wrap IntKind.i64 (x11+(1:Int)),S:=x.R.S,V:=x.R.V:DArg}:DCond};
  let x3:List DCond:=List.modify x4 x0 fun(x:DCond)=>{Op:=x.Op,L:=x.L,R:={K:=x.R.K,S:=markText x10,V:=x.R.V:DArg}:DCond};
  let x2:List DCond:=List.modify x3 x0 fun(x:DCond)=>{Op:=x.Op,L:=x.L,R:={K:=x.R.K,S:=x.R.S,V:={K:=IntKind.wrap IntKind.i64 (x10+(1:Int)),N:=x.R.V.N,S:=x.R.V.S:DVal}:DArg}:DCond};
  let x1:List DCond:=List.modify x2 x0 fun(x:DCond)=>{Op:=x.Op,L:=x.L,R:={K:=x.R.K,S:=x.R.S,V:={K:=x.R.V.K,N:=x16,S:=x.R.V.S:DVal}:DArg}:DCond};
  Zi120_2 a k y→bif decide (y.2.2.1<(↑(List.length y.1):Int)) then(0:Int)≤y.2.2.1∧x0<List.length y.1∧x0<List.length y.1∧(0:Int)≤y.2.2.1∧x0<List.length x15∧x0<List.length x15∧x12≤(4611686018427387903:Int)∧(0:Int)≤y.2.2.1∧x0<List.length x13∧x0<List.length x13∧(0:Int)≤y.2.2.1∧x0<List.length x9∧x0<List.length x9∧(0:Int)≤y.2.2.1∧x0<List.length x7∧x0<List.length x7∧x11≤(4611686018427387903:Int)∧(0:Int)≤y.2.2.1∧x0<List.length x6∧x0<List.length x6∧(0:Int)≤y.2.2.1∧x0<List.length x5∧x0<List.length x5∧x10≤(4611686018427387903:Int)∧(0:Int)≤y.2.2.1∧x0<List.length x4∧x0<List.length x4∧(0:Int)≤y.2.2.1∧x0<List.length x3∧x0<List.length x3∧(0:Int)≤y.2.2.1∧x0<List.length x2∧x0<List.length x2∧x8≤(4611686018427387903:Int)∧(0:Int)≤y.2.2.1∧x0<List.length x1∧x0<List.length x1∧Zi120_2 a k (List.modify x1 x0 fun(x:DCond)=>{Op:=x.Op,L:=x.L,R:={K:=x.R.K,S:=x.R.S,V:={K:=x.R.V.K,N:=x.R.V.N,S:=markText x8:DVal}:DArg}:DCond},IntKind.wrap IntKind.i64 (x8+(1:Int)),IntKind.wrap IntKind.i64 (y.2.2.1+(1:Int)),PUnit.unit)∧Zm120_2 a k (List.modify x1 x0 fun(x:DCond)=>{Op:=x.Op,L:=x.L,R:={K:=x.R.K,S:=x.R.S,V:={K:=x.R.V.K,N:=x.R.V.N,S:=markText x8:DVal}:DArg}:DCond},IntKind.wrap IntKind.i64 (x8+(1:Int)),IntKind.wrap IntKind.i64 (y.2.2.1+(1:Int)),PUnit.unit)<Zm120_2 a k y else asD [DV.one (Cell.lit (Value.int IntKind.i64 y.2.1))]=asD [DV.one (Cell.lit (Value.int IntKind.i64 (k+(↑(cntCondS a):Int))))]∧asD [DV.one (Cell.sl Cd.eCond y.1)]=asD [DV.one (Cell.sl Cd.eCond (markCondS a k))]):=by kernel_rfl
theorem Zo120:Holds EE (120,Zk120):=by
 refine holds_of EE_ok Go.Proofs.Tryz.func120 Zk120 (by kernel_rfl) Zu120 (us_ok _) Za120 (fun x hp hb=> ?_)
 obtain⟨a,k⟩:=x
 have hl_a:a.length≤9223372036854775807:=bdL (hb _ m0)
 have hl_k:=bdI (n:=k) (hb _ m1)
 have hp0:0≤k:=hp _ m0
 have hp1:k+cntCondS a≤4611686018427387904:=hp _ m1
 clear hp hb
 rw[Zv120 a k]
 dsimp only
 refine⟨⟨by omega,by omega,by simp,by simp[ctS]⟩,?_⟩
 rintro⟨row,kk,i,⟨⟩⟩ ⟨h1,h2,rfl,rfl⟩
 simp only
 have hl:=mk_rl markCond cntCond a k h1 h2
 refine if_cond (fun hc=> ?_) (fun hc=> ?_)
 ·have hc:i<a.length:=by have hc:=of_decide_eq_true hc;omega
  have hct:=ctS_take cntCond a zCond h1 hc
  have hle:=ctS_take_le cntCond a (i+1).toNat
  have hg:=mk_getD _ a zCond (mk_tl markCond cntCond a k h1 h2) h1 hc
  have hM:=fun F hF=>mkS_mod markCond cntCond a zCond k (i:=i) F h1 hc hF
  have hq:(cntCondS a:Int)=ctS cntCond a:=rfl
  generalize List.getD a i.toNat zCond=x at*
  generalize hkk:k+(ctS cntCond (a.take i.toNat):Int)=kk at*
  generalize List.take i.toNat (mkS markCond cntCond a k)++List.drop i.toNat a=R at*
  simp only[cntCond] at hct
  simp(disch:=first|omega|(simp only[zbf];omega)) only[zbf,wrap_i64,getD_modify,modify_modify,hg,hl]
  repeat' (first|refine And.intro (by omega) ?_|fail)
  exact⟨⟨by omega,by omega,hM _ (by first|rfl|(simp only[markCond,markBool];rw[zbp (by omega)];rfl)),by omega⟩,by simp only[Zm120_2];omega⟩
 ·have hc:a.length≤i:=by have hc:=of_decide_eq_false hc;omega
  rw[mk_done markCond cntCond a k hc,ct_done cntCond a hc]
  exact⟨rfl,rfl⟩
def Zh120:HH:=⟨_,Zo120⟩
def Zk254:Con UU where
 α:=DExpr×Int
 md:=[.ro,.ro]
 of:=oC (oA .lExpr) (o1 oI)
 ds:=fun x=>[dA .lExpr x.1,dI x.2]
 pre:=fun(a,left)=>[0≤left]
 res:=fun(a,left)=>⟨[.one (.lit (.int .i64 (szr left (sizeExpr a))))],true,[]⟩
 law:=lC (lA .lExpr) (l1 lI)
def Za254:Zk254.α→Nat→Option (Ann UU):=fun(a,left)=>annL []
def Zu254:=us [Zh233]
theorem Zv254(a:DExpr)(left:Int):goal EE Zu254 Go.Proofs.Tryz.f254 Zk254 Za254 (a,left)=(let x1:Int:=IntKind.wrap IntKind.i64 (left-(↑(ByteArray.size a.Op):Int));
let x0:Int:=szr x1 (sizeArg a.L);
bif decide (x1<(0:Int)) then Lf [DV.one (Cell.lit (Value.int IntKind.i64 (-1:Int)))] [DV.one (Cell.lit (Value.int IntKind.i64 (szr left (sizeExpr a))))] else(0:Int)≤x1∧bif decide (x0<(0:Int)) then Lf [DV.one (Cell.lit (Value.int IntKind.i64 (-1:Int)))] [DV.one (Cell.lit (Value.int IntKind.i64 (szr left (sizeExpr a))))] else(0:Int)≤x0∧bif decide (szr x0 (sizeArg a.R)<(0:Int)) then Lf [DV.one (Cell.lit (Value.int IntKind.i64 (-1:Int)))] [DV.one (Cell.lit (Value.int IntKind.i64 (szr left (sizeExpr a))))] else Lf [DV.one (Cell.lit (Value.int IntKind.i64 (szr x0 (sizeArg a.R))))] [DV.one (Cell.lit (Value.int IntKind.i64 (szr left (sizeExpr a))))]):=by kernel_rfl
theorem Zo254:Holds EE (254,Zk254):=by
 refine holds_of EE_ok Go.Proofs.Tryz.func254 Zk254 (by kernel_rfl) Zu254 (us_ok _) Za254 (fun x hp hb=> ?_)
 obtain⟨a,left⟩:=x
 have hz0:=bd_lExpr (x:=a) (hb _ m0)
 have hl_a_Op:=hz0.1
 have hl_a_L_S:=hz0.2.1
 have hl_a_L_V_S:=hz0.2.2.1
 have hl_a_R_S:=hz0.2.2.2.1
 have hl_a_R_V_S:=hz0.2.2.2.2
 have hl_left:=bdI (n:=left) (hb _ m1)
 have hp0:0≤left:=hp _ m0
 clear hp hb
 rw[Zv254 a left]
 dsimp only
 rw[wrap_i64 (by omega) (by omega)]
 refine if_cond (fun h=>Lf_i (szr_bad' ?_)) (fun h=> ?_)
 ·have h:=of_decide_eq_true h;simp only[sizeExpr];omega
 have h0:=of_decide_eq_false h
 refine⟨by omega,if_cond (fun h=>Lf_i (szr_bad' ?_)) (fun h=> ?_)⟩
 ·have h:=szr_neg h;simp only[sizeExpr];omega
 obtain⟨e1,h1⟩:=szr_pos h
 rw[e1]
 refine⟨by omega,if_cond (fun h=>Lf_i (szr_bad' ?_)) (fun h=> ?_)⟩
 ·have h:=szr_neg h;simp only[sizeExpr];omega
 obtain⟨e2,h2⟩:=szr_pos h
 rw[e2]
 exact Lf_i (by rw[←szr_ok' (by simp only[sizeExpr];omega)];simp only[sizeExpr];try omega)
def Zh254:HH:=⟨_,Zo254⟩
def Zk257:Con UU where
 α:=DExpr
 md:=[.ro]
 of:=o1 (oA .lExpr)
 ds:=fun x=>[dA .lExpr x]
 pre:=fun a=>[sizeExpr a≤4294967296]
 res:=fun a=>⟨[.agg [.lit (.string a.Op),.lit (.int .i64 a.L.K),.lit (.string a.L.S),.lit (.int .i64 a.L.V.K),.lit (.int .i64 a.L.V.N),.lit (.string a.L.V.S),.lit (.int .i64 a.R.K),.lit (.string a.R.S),.lit (.int .i64 a.R.V.K),.lit (.int .i64 a.R.V.N),.lit (.string a.R.V.S)]],true,[]⟩
 law:=l1 (lA .lExpr)
def Za257:Zk257.α→Nat→Option (Ann UU):=fun a=>annL []
def Zu257:=us [Zh242]
theorem Zv257(a:DExpr):goal EE Zu257 Go.Proofs.Tryz.f257 Zk257 Za257 a=(sizeArg a.L≤(4294967296:Nat)∧sizeArg a.R≤(4294967296:Nat)∧Lf [DV.agg [Cell.lit (Value.string a.Op),Cell.lit (Value.int IntKind.i64 a.L.K),Cell.lit (Value.string a.L.S),Cell.lit (Value.int IntKind.i64 a.L.V.K),Cell.lit (Value.int IntKind.i64 a.L.V.N),Cell.lit (Value.string a.L.V.S),Cell.lit (Value.int IntKind.i64 a.R.K),Cell.lit (Value.string a.R.S),Cell.lit (Value.int IntKind.i64 a.R.V.K),Cell.lit (Value.int IntKind.i64 a.R.V.N),Cell.lit (Value.string a.R.V.S)]] [DV.agg [Cell.lit (Value.string a.Op),Cell.lit (Value.int IntKind.i64 a.L.K),Cell.lit (Value.string a.L.S),Cell.lit (Value.int IntKind.i64 a.L.V.K),Cell.lit (Value.int IntKind.i64 a.L.V.N),Cell.lit (Value.string a.L.V.S),Cell.lit (Value.int IntKind.i64 a.R.K),Cell.lit (Value.string a.R.S),Cell.lit (Value.int IntKind.i64 a.R.V.K),Cell.lit (Value.int IntKind.i64 a.R.V.N),Cell.lit (Value.string a.R.V.S)]]):=by kernel_rfl
theorem Zo257:Holds EE (257,Zk257):=by
 refine holds_of EE_ok Go.Proofs.Tryz.func257 Zk257 (by kernel_rfl) Zu257 (us_ok _) Za257 (fun(a:DExpr) hp hb=> ?_)
 have hz0:=bd_lExpr (x:=a) (hb _ m0)
 have hl_a_Op:=hz0.1
 have hl_a_L_S:=hz0.2.1
 have hl_a_L_V_S:=hz0.2.2.1
 have hl_a_R_S:=hz0.2.2.2.1
 have hl_a_R_V_S:=hz0.2.2.2.2
 have hp0:sizeExpr a≤4294967296:=hp _ m0
 clear hp hb
 rw[Zv257 a]
 simp only[sizeExpr] at hp0
 repeat' (first|exact Lf_rfl _|(refine And.intro (by omega) ?_))
def Zh257:HH:=⟨_,Zo257⟩
def Zk261:Con UU where
 α:=DExpr×DExpr
 md:=[.ro,.ro]
 of:=oC (oA .eExpr) (o1 (oA .eExpr))
 ds:=fun x=>[dA .eExpr x.1,dA .eExpr x.2]
 pre:=fun _=>[]
 res:=fun(a,b)=>⟨[.one (.lit (.bool (decide (a=b))))],true,[]⟩
 law:=lC (lA .eExpr) (l1 (lA .eExpr))
def Za261:Zk261.α→Nat→Option (Ann UU):=fun(a,b)=>annL []
def Zu261:=us [Zh251]
theorem Zv261(a:DExpr)(b:DExpr):goal EE Zu261 Go.Proofs.Tryz.f261 Zk261 Za261 (a,b)=(bif !ByteArray.toList a.Op==ByteArray.toList b.Op then Lb false (decide (a=b)) else bif !decide (a.L=b.L) then Lb false (decide (a=b)) else bif !decide (a.R=b.R) then Lb false (decide (a=b)) else Lb true (decide (a=b))):=by kernel_rfl
theorem Zo261:Holds EE (261,Zk261):=by
 refine holds_of EE_ok Go.Proofs.Tryz.func261 Zk261 (by kernel_rfl) Zu261 (us_ok _) Za261 (fun x hp hb=> ?_)
 obtain⟨a,b⟩:=x
 have hz0:=bd_eExpr (x:=a) (hb _ m0)
 have hl_a_Op:=hz0.1
 have hl_a_L_S:=hz0.2.1
 have hl_a_L_V_S:=hz0.2.2.1
 have hl_a_R_S:=hz0.2.2.2.1
 have hl_a_R_V_S:=hz0.2.2.2.2
 have hz1:=bd_eExpr (x:=b) (hb _ m1)
 have hl_b_Op:=hz1.1
 have hl_b_L_S:=hz1.2.1
 have hl_b_L_V_S:=hz1.2.2.1
 have hl_b_R_S:=hz1.2.2.2.1
 have hl_b_R_V_S:=hz1.2.2.2.2
 clear hp hb
 rw[Zv261 a b]
 obtain⟨aOp,aL,aR⟩:=a
 obtain⟨bOp,bL,bR⟩:=b
 repeat' (apply if_cond<;>intro _)
 all_goals (first|apply Lf_t|apply Lf_f)<;>simp_all
def Zh261:HH:=⟨_,Zo261⟩
def Zk234:Con UU where
 α:=(List DExpr)×Int
 md:=[.ro,.ro]
 of:=oC (oL .lExpr) (o1 oI)
 ds:=fun x=>[dL .lExpr x.1,dI x.2]
 pre:=fun(a,left)=>[0≤left]
 res:=fun(a,left)=>⟨[.one (.lit (.int .i64 (szr left (sizeExprS a))))],true,[]⟩
 law:=lC (lL .lExpr) (l1 lI)
def Zi234_5(a:(List DExpr))(left:Int):Int×Int×Unit→Prop:=szI sizeExpr a (sizeExprS a) left
def Zm234_5(a:(List DExpr))(left:Int):Int×Int×Unit→Nat:=rM2 a
def Za234:Zk234.α→Nat→Option (Ann UU):=fun(a,left)=>annL [(5,annOf [.slot 1 (1,1024) (.lit (.int .i64)),.slot 5 (5,1024) (.lit (.int .i64))] (fun _=>Zi234_5 a left) (Zm234_5 a left))]
def Zu234:=us [Zh254]
theorem Zv234(a:(List DExpr))(left:Int):goal EE Zu234 Go.Proofs.Tryz.f234 Zk234 Za234 (a,left)=(szV sizeExpr zExpr a (sizeExprS a) left):=by kernel_rfl
theorem Zo234:Holds EE (234,Zk234):=by
 refine holds_of EE_ok Go.Proofs.Tryz.func234 Zk234 (by kernel_rfl) Zu234 (us_ok _) Za234 (fun x hp hb=> ?_)
 obtain⟨a,left⟩:=x
 have hl_a:a.length≤9223372036854775807:=bdL (hb _ m0)
 have hl_left:=bdI (n:=left) (hb _ m1)
 have hp0:0≤left:=hp _ m0
 clear hp hb
 rw[Zv234 a left]
 exact szV_ok rfl hp0 hl_left hl_a
def Zh234:HH:=⟨_,Zo234⟩
def Zk243:Con UU where
 α:=(List DExpr)
 md:=[.ro]
 of:=o1 (oL .lExpr)
 ds:=fun x=>[dL .lExpr x]
 pre:=fun a=>[sizeExprS a≤4294967296]
 res:=fun a=>⟨[.one (.sl .eExpr a)],true,[]⟩
 law:=l1 (lL .lExpr)
def Zi243_3(a:(List DExpr)):List DExpr×Int×Unit→Prop:=toI zExpr a
def Zm243_3(a:(List DExpr)):List DExpr×Int×Unit→Nat:=rM2 a
def Za243:Zk243.α→Nat→Option (Ann UU):=fun a=>annL [(3,annOf [.slot 3 (3,1024) (.own .eExpr true),.slot 4 (4,1024) (.lit (.int .i64))] (fun _=>Zi243_3 a) (Zm243_3 a))]
def Zu243:=us [Zh257]
theorem Zv243(a:(List DExpr)):goal EE Zu243 Go.Proofs.Tryz.f243 Zk243 Za243 a=(toV sizeExpr zExpr a fun y=>Lf [.one (.sl .eExpr y)] [.one (.sl .eExpr a)]):=by kernel_rfl
theorem Zo243:Holds EE (243,Zk243):=by
 refine holds_of EE_ok Go.Proofs.Tryz.func243 Zk243 (by kernel_rfl) Zu243 (us_ok _) Za243 (fun(a:(List DExpr)) hp hb=> ?_)
 have hl_a:a.length≤9223372036854775807:=bdL (hb _ m0)
 have hp0:sizeExprS a≤4294967296:=hp _ m0
 clear hp hb
 rw[Zv243 a]
 exact toV_ok hp0 (Lf_rfl _)
def Zh243:HH:=⟨_,Zo243⟩
def Zk252:Con UU where
 α:=(List DExpr)×(List DExpr)
 md:=[.ro,.ro]
 of:=oC (oL .eExpr) (o1 (oL .eExpr))
 ds:=fun x=>[dL .eExpr x.1,dL .eExpr x.2]
 pre:=fun _=>[]
 res:=fun(a,b)=>⟨[.one (.lit (.bool (decide (a=b))))],true,[]⟩
 law:=lC (lL .eExpr) (l1 (lL .eExpr))
def Zi252_4(a:(List DExpr))(b:(List DExpr)):Int×Unit→Prop:=eqI a b
def Zm252_4(a:(List DExpr))(b:(List DExpr)):Int×Unit→Nat:=rM1 a
def Za252:Zk252.α→Nat→Option (Ann UU):=fun(a,b)=>annL [(4,annOf [.slot 5 (5,1024) (.lit (.int .i64))] (fun _=>Zi252_4 a b) (Zm252_4 a b))]
def Zu252:=us [Zh261]
theorem Zv252(a:(List DExpr))(b:(List DExpr)):goal EE Zu252 Go.Proofs.Tryz.f252 Zk252 Za252 (a,b)=(eqV zExpr a b):=by kernel_rfl
theorem Zo252:Holds EE (252,Zk252):=by
 refine holds_of EE_ok Go.Proofs.Tryz.func252 Zk252 (by kernel_rfl) Zu252 (us_ok _) Za252 (fun x hp hb=> ?_)
 obtain⟨a,b⟩:=x
 have hl_a:a.length≤9223372036854775807:=bdL (hb _ m0)
 have hl_b:b.length≤9223372036854775807:=bdL (hb _ m1)
 clear hp hb
 rw[Zv252 a b]
 exact eqV_ok hl_a
def Zh252:HH:=⟨_,Zo252⟩
def Zk190:Con UU where
 α:=(List DExpr)×Int
 md:=[.wr,.ro]
 of:=oC (oL .eExpr) (o1 oI)
 ds:=fun x=>[dL .eExpr x.1,dI x.2]
 pre:=fun(a,k)=>[0≤k,k+cntExprS a≤4611686018427387904]
 res:=fun(a,k)=>⟨[.one (.lit (.int .i64 (k+cntExprS a)))],true,[.one (.sl .eExpr (markExprS a k))]⟩
 law:=lC (lL .eExpr) (l1 lI)
def Zi190_2(a:(List DExpr))(k:Int):List DExpr×Int×Int×Unit→Prop:=fun(row,kk,i,_)=>0≤i∧i≤a.length∧row=(mkS markExpr cntExpr a k).take i.toNat++a.drop i.toNat∧kk=k+ctS cntExpr (a.take i.toNat)
def Zm190_2(a:(List DExpr))(k:Int):List DExpr×Int×Int×Unit→Nat:=fun(row,kk,i,_)=>a.length-i.toNat
def Za190:Zk190.α→Nat→Option (Ann UU):=fun(a,k)=>annL [(2,annOf [.slot 0 (2000000,0) (.own .eExpr true),.slot 1 (1,1024) (.lit (.int .i64)),.slot 5 (5,1024) (.lit (.int .i64))] (fun _=>Zi190_2 a k) (Zm190_2 a k))]
def Zu190:=us [Zh118]
theorem Zv190(a:(List DExpr))(k:Int):goal EE Zu190 Go.Proofs.Tryz.f190 Zk190 Za190 (a,k)=(Zi190_2 a k (a,k,(0:Int),())∧
 ∀(y:List DExpr×Int×Int×PUnit),
  let x0:Nat:=Int.toNat y.2.2.1;
  let x14:List DExpr:=List.modify y.1 x0 fun(x:DExpr)=>{Op:=markText y.2.1,L:=x.L,R:=x.R:DExpr};
  let x15:Int:=IntKind.wrap IntKind.i64 (y.2.1+(1:Int));
  let x12:Int:=IntKind.wrap IntKind.i64 (x15+(1:Int));
  let x13:List DExpr:=List.modify x14 x0 fun(x:DExpr)=>{Op:=x.Op,L:={K:=x15,S:=x.L.S,V:=x.L.V:DArg},R:=x.R:DExpr};
  let x16:Int:=IntKind.wrap IntKind.i64 (IntKind.wrap IntKind.i64 (x12+(1:Int))+(1:Int));
  let x9:List DExpr:=List.modify x13 x0 fun(x:DExpr)=>{Op:=x.Op,L:={K:=x.L.K,S:=markText x12,V:=x.L.V:DArg},R:=x.R:DExpr};
  let x11:Int:=IntKind.wrap IntKind.i64 (x16+(1:Int));
  let x7:List DExpr:=List.modify x9 x0 fun(x:DExpr)=>{Op:=x.Op,L:={K:=x.L.K,S:=x.L.S,V:={K:=IntKind.wrap IntKind.i64 (x12+(1:Int)),N:=x.L.V.N,S:=x.L.V.S:DVal}:DArg},R:=x.R:DExpr};
  let x10:Int:=IntKind.wrap IntKind.i64 (IntKind.wrap IntKind.i64 (x11+(1:Int))+(1:Int));
  let x17:Int:=IntKind.wrap IntKind.i64 (IntKind.wrap IntKind.i64 (x10+(1:Int))+(1:Int));
  let x6:List DExpr:=List.modify x7 x0 fun(x:DExpr)=>{Op:=x.Op,L:={K:=x.L.K,S:=x.L.S,V:={K:=x.L.V.K,N:=x16,S:=x.L.V.S:DVal}:DArg},R:=x.R:DExpr};
  let x8:Int:=IntKind.wrap IntKind.i64 (x17+(1:Int));
  let x5:List DExpr:=List.modify x6 x0 fun(x:DExpr)=>{Op:=x.Op,L:={K:=x.L.K,S:=x.L.S,V:={K:=x.L.V.K,N:=x.L.V.N,S:=markText x11:DVal}:DArg},R:=x.R:DExpr};
  let x4:List DExpr:=List.modify x5 x0 fun(x:DExpr)=>{Op:=x.Op,L:=x.L,R:={K:=IntKind.wrap IntKind.i64 (x11+(1:Int)),S:=x.R.S,V:=x.R.V:DArg}:DExpr};
  let x3:List DExpr:=List.modify x4 x0 fun(x:DExpr)=>{Op:=x.Op,L:=x.L,R:={K:=x.R.K,S:=markText x10,V:=x.R.V:DArg}:DExpr};
  let x2:List DExpr:=List.modify x3 x0 fun(x:DExpr)=>{Op:=x.Op,L:=x.L,R:={K:=x.R.K,S:=x.R.S,V:={K:=IntKind.wrap IntKind.i64 (x10+(1:Int)),N:=x.R.V.N,S:=x.R.V.S:DVal}:DArg}:DExpr};
  let x1:List DExpr:=List.modify x2 x0 fun(x:DExpr)=>{Op:=x.Op,L:=x.L,R:={K:=x.R.K,S:=x.R.S,V:={K:=x.R.V.K,N:=x17,S:=x.R.V.S:DVal}:DArg}:DExpr};
  Zi190_2 a k y→bif decide (y.2.2.1<(↑(List.length y.1):Int)) then y.2.1≤(4611686018427387903:Int)∧(0:Int)≤y.2.2.1∧x0<List.length y.1∧x0<List.length y.1∧(0:Int)≤y.2.2.1∧x0<List.length x14∧x0<List.length x14∧x12≤(4611686018427387903:Int)∧(0:Int)≤y.2.2.1∧x0<List.length x13∧x0<List.length x13∧(0:Int)≤y.2.2.1∧x0<List.length x9∧x0<List.length x9∧(0:Int)≤y.2.2.1∧x0<List.length x7∧x0<List.length x7∧x11≤(4611686018427387903:Int)∧(0:Int)≤y.2.2.1∧x0<List.length x6∧x0<List.length x6∧(0:Int)≤y.2.2.1∧x0<List.length x5∧x0<List.length x5∧x10≤(4611686018427387903:Int)∧(0:Int)≤y.2.2.1∧x0<List.length x4∧x0<List.length x4∧(0:Int)≤y.2.2.1∧x0<List.length x3∧x0<List.length x3∧(0:Int)≤y.2.2.1∧x0<List.length x2∧x0<List.length x2∧x8≤(4611686018427387903:Int)∧(0:Int)≤y.2.2.1∧x0<List.length x1∧x0<List.length x1∧Zi190_2 a k (List.modify x1 x0 fun(x:DExpr)=>{Op:=x.Op,L:=x.L,R:={K:=x.R.K,S:=x.R.S,V:={K:=x.R.V.K,N:=x.R.V.N,S:=markText x8:DVal}:DArg}:DExpr},IntKind.wrap IntKind.i64 (x8+(1:Int)),IntKind.wrap IntKind.i64 (y.2.2.1+(1:Int)),PUnit.unit)∧Zm190_2 a k (List.modify x1 x0 fun(x:DExpr)=>{Op:=x.Op,L:=x.L,R:={K:=x.R.K,S:=x.R.S,V:={K:=x.R.V.K,N:=x.R.V.N,S:=markText x8:DVal}:DArg}:DExpr},IntKind.wrap IntKind.i64 (x8+(1:Int)),IntKind.wrap IntKind.i64 (y.2.2.1+(1:Int)),PUnit.unit)<Zm190_2 a k y else asD [DV.one (Cell.lit (Value.int IntKind.i64 y.2.1))]=asD [DV.one (Cell.lit (Value.int IntKind.i64 (k+(↑(cntExprS a):Int))))]∧asD [DV.one (Cell.sl Cd.eExpr y.1)]=asD [DV.one (Cell.sl Cd.eExpr (markExprS a k))]):=by kernel_rfl
theorem Zo190:Holds EE (190,Zk190):=by
 refine holds_of EE_ok Go.Proofs.Tryz.func190 Zk190 (by kernel_rfl) Zu190 (us_ok _) Za190 (fun x hp hb=> ?_)
 obtain⟨a,k⟩:=x
 have hl_a:a.length≤9223372036854775807:=bdL (hb _ m0)
 have hl_k:=bdI (n:=k) (hb _ m1)
 have hp0:0≤k:=hp _ m0
 have hp1:k+cntExprS a≤4611686018427387904:=hp _ m1
 clear hp hb
 rw[Zv190 a k]
 dsimp only
 refine⟨⟨by omega,by omega,by simp,by simp[ctS]⟩,?_⟩
 rintro⟨row,kk,i,⟨⟩⟩ ⟨h1,h2,rfl,rfl⟩
 simp only
 have hl:=mk_rl markExpr cntExpr a k h1 h2
 refine if_cond (fun hc=> ?_) (fun hc=> ?_)
 ·have hc:i<a.length:=by have hc:=of_decide_eq_true hc;omega
  have hct:=ctS_take cntExpr a zExpr h1 hc
  have hle:=ctS_take_le cntExpr a (i+1).toNat
  have hg:=mk_getD _ a zExpr (mk_tl markExpr cntExpr a k h1 h2) h1 hc
  have hM:=fun F hF=>mkS_mod markExpr cntExpr a zExpr k (i:=i) F h1 hc hF
  have hq:(cntExprS a:Int)=ctS cntExpr a:=rfl
  generalize List.getD a i.toNat zExpr=x at*
  generalize hkk:k+(ctS cntExpr (a.take i.toNat):Int)=kk at*
  generalize List.take i.toNat (mkS markExpr cntExpr a k)++List.drop i.toNat a=R at*
  simp only[cntExpr] at hct
  simp(disch:=first|omega|(simp only[zbf];omega)) only[zbf,wrap_i64,getD_modify,modify_modify,hg,hl]
  repeat' (first|refine And.intro (by omega) ?_|fail)
  exact⟨⟨by omega,by omega,hM _ (by first|rfl|(simp only[markExpr,markBool];rw[zbp (by omega)];rfl)),by omega⟩,by simp only[Zm190_2];omega⟩
 ·have hc:a.length≤i:=by have hc:=of_decide_eq_false hc;omega
  rw[mk_done markExpr cntExpr a k hc,ct_done cntExpr a hc]
  exact⟨rfl,rfl⟩
def Zh190:HH:=⟨_,Zo190⟩
def Zk198:Con UU where
 α:=DAct×Int
 md:=[.ro,.ro]
 of:=oC (oA .lAct) (o1 oI)
 ds:=fun x=>[dA .lAct x.1,dI x.2]
 pre:=fun(a,left)=>[0≤left]
 res:=fun(a,left)=>⟨[.one (.lit (.int .i64 (szr left (sizeAct a))))],true,[]⟩
 law:=lC (lA .lAct) (l1 lI)
def Za198:Zk198.α→Nat→Option (Ann UU):=fun(a,left)=>annL []
def Zu198:=us [Zh234]
theorem Zv198(a:DAct)(left:Int):goal EE Zu198 Go.Proofs.Tryz.f198 Zk198 Za198 (a,left)=(let x1:Int:=IntKind.wrap IntKind.i64 (left-(↑(ByteArray.size a.Name):Int));
let x0:Int:=IntKind.wrap IntKind.i64 (szr x1 (sizeExprS a.Args)-(↑(ByteArray.size a.Undo):Int));
bif decide (x1<(0:Int)) then Lf [DV.one (Cell.lit (Value.int IntKind.i64 (-1:Int)))] [DV.one (Cell.lit (Value.int IntKind.i64 (szr left (sizeAct a))))] else(0:Int)≤x1∧bif decide (szr x1 (sizeExprS a.Args)<(0:Int)) then Lf [DV.one (Cell.lit (Value.int IntKind.i64 (-1:Int)))] [DV.one (Cell.lit (Value.int IntKind.i64 (szr left (sizeAct a))))] else bif decide (x0<(0:Int)) then Lf [DV.one (Cell.lit (Value.int IntKind.i64 (-1:Int)))] [DV.one (Cell.lit (Value.int IntKind.i64 (szr left (sizeAct a))))] else Lf [DV.one (Cell.lit (Value.int IntKind.i64 x0))] [DV.one (Cell.lit (Value.int IntKind.i64 (szr left (sizeAct a))))]):=by kernel_rfl
theorem Zo198:Holds EE (198,Zk198):=by
 refine holds_of EE_ok Go.Proofs.Tryz.func198 Zk198 (by kernel_rfl) Zu198 (us_ok _) Za198 (fun x hp hb=> ?_)
 obtain⟨a,left⟩:=x
 have hz0:=bd_lAct (x:=a) (hb _ m0)
 have hl_a_Name:=hz0.1
 have hl_a_Args:=hz0.2.1
 have hl_a_Undo:=hz0.2.2
 have hl_left:=bdI (n:=left) (hb _ m1)
 have hp0:0≤left:=hp _ m0
 clear hp hb
 rw[Zv198 a left]
 dsimp only
 rw[wrap_i64 (by omega) (by omega)]
 refine if_cond (fun h=>Lf_i (szr_bad' ?_)) (fun h=> ?_)
 ·have h:=of_decide_eq_true h;simp only[sizeAct];omega
 have h0:=of_decide_eq_false h
 refine⟨by omega,if_cond (fun h=>Lf_i (szr_bad' ?_)) (fun h=> ?_)⟩
 ·have h:=szr_neg h;simp only[sizeAct];omega
 obtain⟨e1,h1⟩:=szr_pos h
 rw[e1]
 rw[wrap_i64 (by omega) (by omega)]
 refine if_cond (fun h=>Lf_i (szr_bad' ?_)) (fun h=> ?_)
 ·have h:=of_decide_eq_true h;simp only[sizeAct];omega
 have h2:=of_decide_eq_false h
 exact Lf_i (by rw[←szr_ok' (by simp only[sizeAct];omega)];simp only[sizeAct];try omega)
def Zh198:HH:=⟨_,Zo198⟩
def Zk208:Con UU where
 α:=DAct
 md:=[.ro]
 of:=o1 (oA .lAct)
 ds:=fun x=>[dA .lAct x]
 pre:=fun a=>[sizeAct a≤4294967296]
 res:=fun a=>⟨[.agg [.lit (.int .i64 a.Kind),.lit (.string a.Name),.sl .eExpr a.Args,.lit (.int .i64 a.N),.lit (.string a.Undo)]],true,[]⟩
 law:=l1 (lA .lAct)
def Za208:Zk208.α→Nat→Option (Ann UU):=fun a=>annL []
def Zu208:=us [Zh243]
theorem Zv208(a:DAct):goal EE Zu208 Go.Proofs.Tryz.f208 Zk208 Za208 a=(sizeExprS a.Args≤(4294967296:Nat)∧Lf [DV.agg [Cell.lit (Value.int IntKind.i64 a.Kind),Cell.lit (Value.string a.Name),Cell.sl Cd.eExpr a.Args,Cell.lit (Value.int IntKind.i64 a.N),Cell.lit (Value.string a.Undo)]] [DV.agg [Cell.lit (Value.int IntKind.i64 a.Kind),Cell.lit (Value.string a.Name),Cell.sl Cd.eExpr a.Args,Cell.lit (Value.int IntKind.i64 a.N),Cell.lit (Value.string a.Undo)]]):=by kernel_rfl
theorem Zo208:Holds EE (208,Zk208):=by
 refine holds_of EE_ok Go.Proofs.Tryz.func208 Zk208 (by kernel_rfl) Zu208 (us_ok _) Za208 (fun(a:DAct) hp hb=> ?_)
 have hz0:=bd_lAct (x:=a) (hb _ m0)
 have hl_a_Name:=hz0.1
 have hl_a_Args:=hz0.2.1
 have hl_a_Undo:=hz0.2.2
 have hp0:sizeAct a≤4294967296:=hp _ m0
 clear hp hb
 rw[Zv208 a]
 simp only[sizeAct] at hp0
 repeat' (first|exact Lf_rfl _|(refine And.intro (by omega) ?_))
def Zh208:HH:=⟨_,Zo208⟩
def Zk229:Con UU where
 α:=DAct×DAct
 md:=[.ro,.ro]
 of:=oC (oA .eAct) (o1 (oA .eAct))
 ds:=fun x=>[dA .eAct x.1,dA .eAct x.2]
 pre:=fun _=>[]
 res:=fun(a,b)=>⟨[.one (.lit (.bool (decide (a=b))))],true,[]⟩
 law:=lC (lA .eAct) (l1 (lA .eAct))
def Za229:Zk229.α→Nat→Option (Ann UU):=fun(a,b)=>annL []
def Zu229:=us [Zh252]
theorem Zv229(a:DAct)(b:DAct):goal EE Zu229 Go.Proofs.Tryz.f229 Zk229 Za229 (a,b)=(bif a.Kind !=b.Kind then Lb false (decide (a=b)) else bif !ByteArray.toList a.Name==ByteArray.toList b.Name then Lb false (decide (a=b)) else bif !decide (a.Args=b.Args) then Lb false (decide (a=b)) else bif a.N !=b.N then Lb false (decide (a=b)) else bif !ByteArray.toList a.Undo==ByteArray.toList b.Undo then Lb false (decide (a=b)) else Lb true (decide (a=b))):=by kernel_rfl
theorem Zo229:Holds EE (229,Zk229):=by
 refine holds_of EE_ok Go.Proofs.Tryz.func229 Zk229 (by kernel_rfl) Zu229 (us_ok _) Za229 (fun x hp hb=> ?_)
 obtain⟨a,b⟩:=x
 have hz0:=bd_eAct (x:=a) (hb _ m0)
 have hl_a_Name:=hz0.1
 have hl_a_Args:=hz0.2.1
 have hl_a_Undo:=hz0.2.2
 have hz1:=bd_eAct (x:=b) (hb _ m1)
 have hl_b_Name:=hz1.1
 have hl_b_Args:=hz1.2.1
 have hl_b_Undo:=hz1.2.2
 clear hp hb
 rw[Zv229 a b]
 obtain⟨aKind,aName,aArgs,aN,aUndo⟩:=a
 obtain⟨bKind,bName,bArgs,bN,bUndo⟩:=b
 repeat' (apply if_cond<;>intro _)
 all_goals (first|apply Lf_t|apply Lf_f)<;>simp_all
def Zh229:HH:=⟨_,Zo229⟩
def Zk141:Con UU where
 α:=(List DAct)×Int
 md:=[.ro,.ro]
 of:=oC (oL .lAct) (o1 oI)
 ds:=fun x=>[dL .lAct x.1,dI x.2]
 pre:=fun(a,left)=>[0≤left]
 res:=fun(a,left)=>⟨[.one (.lit (.int .i64 (szr left (sizeActS a))))],true,[]⟩
 law:=lC (lL .lAct) (l1 lI)
def Zi141_5(a:(List DAct))(left:Int):Int×Int×Unit→Prop:=szI sizeAct a (sizeActS a) left
def Zm141_5(a:(List DAct))(left:Int):Int×Int×Unit→Nat:=rM2 a
def Za141:Zk141.α→Nat→Option (Ann UU):=fun(a,left)=>annL [(5,annOf [.slot 1 (1,1024) (.lit (.int .i64)),.slot 5 (5,1024) (.lit (.int .i64))] (fun _=>Zi141_5 a left) (Zm141_5 a left))]
def Zu141:=us [Zh198]
theorem Zv141(a:(List DAct))(left:Int):goal EE Zu141 Go.Proofs.Tryz.f141 Zk141 Za141 (a,left)=(szV sizeAct zAct a (sizeActS a) left):=by kernel_rfl
theorem Zo141:Holds EE (141,Zk141):=by
 refine holds_of EE_ok Go.Proofs.Tryz.func141 Zk141 (by kernel_rfl) Zu141 (us_ok _) Za141 (fun x hp hb=> ?_)
 obtain⟨a,left⟩:=x
 have hl_a:a.length≤9223372036854775807:=bdL (hb _ m0)
 have hl_left:=bdI (n:=left) (hb _ m1)
 have hp0:0≤left:=hp _ m0
 clear hp hb
 rw[Zv141 a left]
 exact szV_ok rfl hp0 hl_left hl_a
def Zh141:HH:=⟨_,Zo141⟩
def Zk160:Con UU where
 α:=(List DAct)
 md:=[.ro]
 of:=o1 (oL .lAct)
 ds:=fun x=>[dL .lAct x]
 pre:=fun a=>[sizeActS a≤4294967296]
 res:=fun a=>⟨[.one (.sl .eAct a)],true,[]⟩
 law:=l1 (lL .lAct)
def Zi160_3(a:(List DAct)):List DAct×Int×Unit→Prop:=toI zAct a
def Zm160_3(a:(List DAct)):List DAct×Int×Unit→Nat:=rM2 a
def Za160:Zk160.α→Nat→Option (Ann UU):=fun a=>annL [(3,annOf [.slot 3 (3,1024) (.own .eAct true),.slot 4 (4,1024) (.lit (.int .i64))] (fun _=>Zi160_3 a) (Zm160_3 a))]
def Zu160:=us [Zh208]
theorem Zv160(a:(List DAct)):goal EE Zu160 Go.Proofs.Tryz.f160 Zk160 Za160 a=(toV sizeAct zAct a fun y=>Lf [.one (.sl .eAct y)] [.one (.sl .eAct a)]):=by kernel_rfl
theorem Zo160:Holds EE (160,Zk160):=by
 refine holds_of EE_ok Go.Proofs.Tryz.func160 Zk160 (by kernel_rfl) Zu160 (us_ok _) Za160 (fun(a:(List DAct)) hp hb=> ?_)
 have hl_a:a.length≤9223372036854775807:=bdL (hb _ m0)
 have hp0:sizeActS a≤4294967296:=hp _ m0
 clear hp hb
 rw[Zv160 a]
 exact toV_ok hp0 (Lf_rfl _)
def Zh160:HH:=⟨_,Zo160⟩
def Zk188:Con UU where
 α:=(List DAct)×(List DAct)
 md:=[.ro,.ro]
 of:=oC (oL .eAct) (o1 (oL .eAct))
 ds:=fun x=>[dL .eAct x.1,dL .eAct x.2]
 pre:=fun _=>[]
 res:=fun(a,b)=>⟨[.one (.lit (.bool (decide (a=b))))],true,[]⟩
 law:=lC (lL .eAct) (l1 (lL .eAct))
def Zi188_4(a:(List DAct))(b:(List DAct)):Int×Unit→Prop:=eqI a b
def Zm188_4(a:(List DAct))(b:(List DAct)):Int×Unit→Nat:=rM1 a
def Za188:Zk188.α→Nat→Option (Ann UU):=fun(a,b)=>annL [(4,annOf [.slot 5 (5,1024) (.lit (.int .i64))] (fun _=>Zi188_4 a b) (Zm188_4 a b))]
def Zu188:=us [Zh229]
theorem Zv188(a:(List DAct))(b:(List DAct)):goal EE Zu188 Go.Proofs.Tryz.f188 Zk188 Za188 (a,b)=(eqV zAct a b):=by kernel_rfl
theorem Zo188:Holds EE (188,Zk188):=by
 refine holds_of EE_ok Go.Proofs.Tryz.func188 Zk188 (by kernel_rfl) Zu188 (us_ok _) Za188 (fun x hp hb=> ?_)
 obtain⟨a,b⟩:=x
 have hl_a:a.length≤9223372036854775807:=bdL (hb _ m0)
 have hl_b:b.length≤9223372036854775807:=bdL (hb _ m1)
 clear hp hb
 rw[Zv188 a b]
 exact eqV_ok hl_a
def Zh188:HH:=⟨_,Zo188⟩
def Zk121:Con UU where
 α:=(List DAct)×Int
 md:=[.wr,.ro]
 of:=oC (oL .eAct) (o1 oI)
 ds:=fun x=>[dL .eAct x.1,dI x.2]
 pre:=fun(a,k)=>[0≤k,k+cntActS a≤4611686018427387904]
 res:=fun(a,k)=>⟨[.one (.lit (.int .i64 (k+cntActS a)))],true,[.one (.sl .eAct (markActS a k))]⟩
 law:=lC (lL .eAct) (l1 lI)
def Zi121_2(a:(List DAct))(k:Int):List DAct×Int×Int×Unit→Prop:=fun(row,kk,i,_)=>0≤i∧i≤a.length∧row=(mkS markAct cntAct a k).take i.toNat++a.drop i.toNat∧kk=k+ctS cntAct (a.take i.toNat)
def Zm121_2(a:(List DAct))(k:Int):List DAct×Int×Int×Unit→Nat:=fun(row,kk,i,_)=>a.length-i.toNat
def Za121:Zk121.α→Nat→Option (Ann UU):=fun(a,k)=>annL [(2,annOf [.slot 0 (2000000,0) (.own .eAct true),.slot 1 (1,1024) (.lit (.int .i64)),.slot 5 (5,1024) (.lit (.int .i64))] (fun _=>Zi121_2 a k) (Zm121_2 a k))]
def Zu121:=us [Zh118,Zh190]
theorem Zv121(a:(List DAct))(k:Int):goal EE Zu121 Go.Proofs.Tryz.f121 Zk121 Za121 (a,k)=(Zi121_2 a k (a,k,(0:Int),())∧
 ∀(y:List DAct×Int×Int×PUnit),
  let x3:Nat:=Int.toNat y.2.2.1;
  let x7:Int:=IntKind.wrap IntKind.i64 (y.2.1+(1:Int));
  let x8:List DAct:=List.modify y.1 x3 fun(x:DAct)=>{Kind:=y.2.1,Name:=x.Name,Args:=x.Args,N:=x.N,Undo:=x.Undo:DAct};
  let x5:List DAct:=List.modify x8 x3 fun(x:DAct)=>{Kind:=x.Kind,Name:=markText x7,Args:=x.Args,N:=x.N,Undo:=x.Undo:DAct};
  let x6:Int:=IntKind.wrap IntKind.i64 (x7+(1:Int));
  let x2:Int:=x6+(↑(cntExprS (List.getD x5 x3 zAct).Args):Int);
  let x4:List DAct:=List.modify x5 x3 fun(x:DAct)=>{Kind:=x.Kind,Name:=x.Name,Args:=markExprS (List.getD x5 x3 zAct).Args x6,N:=x.N,Undo:=x.Undo:DAct};
  let x0:List DAct:=List.modify x4 x3 fun(x:DAct)=>{Kind:=x.Kind,Name:=x.Name,Args:=x.Args,N:=x2,Undo:=x.Undo:DAct};
  let x1:Int:=IntKind.wrap IntKind.i64 (x2+(1:Int));
  Zi121_2 a k y→bif decide (y.2.2.1<(↑(List.length y.1):Int)) then(0:Int)≤y.2.2.1∧x3<List.length y.1∧x3<List.length y.1∧x7≤(4611686018427387903:Int)∧(0:Int)≤y.2.2.1∧x3<List.length x8∧x3<List.length x8∧(0:Int)≤y.2.2.1∧x3<List.length x5∧x3<List.length x5∧x3<List.length x5∧(0:Int)≤x6∧x2≤(4611686018427387904:Int)∧(0:Int)≤y.2.2.1∧x3<List.length x4∧x3<List.length x4∧x1≤(4611686018427387903:Int)∧(0:Int)≤y.2.2.1∧x3<List.length x0∧x3<List.length x0∧Zi121_2 a k (List.modify x0 x3 fun(x:DAct)=>{Kind:=x.Kind,Name:=x.Name,Args:=x.Args,N:=x.N,Undo:=markText x1:DAct},IntKind.wrap IntKind.i64 (x1+(1:Int)),IntKind.wrap IntKind.i64 (y.2.2.1+(1:Int)),PUnit.unit)∧Zm121_2 a k (List.modify x0 x3 fun(x:DAct)=>{Kind:=x.Kind,Name:=x.Name,Args:=x.Args,N:=x.N,Undo:=markText x1:DAct},IntKind.wrap IntKind.i64 (x1+(1:Int)),IntKind.wrap IntKind.i64 (y.2.2.1+(1:Int)),PUnit.unit)<Zm121_2 a k y else asD [DV.one (Cell.lit (Value.int IntKind.i64 y.2.1))]=asD [DV.one (Cell.lit (Value.int IntKind.i64 (k+(↑(cntActS a):Int))))]∧asD [DV.one (Cell.sl Cd.eAct y.1)]=asD [DV.one (Cell.sl Cd.eAct (markActS a k))]):=by kernel_rfl
theorem Zo121:Holds EE (121,Zk121):=by
 refine holds_of EE_ok Go.Proofs.Tryz.func121 Zk121 (by kernel_rfl) Zu121 (us_ok _) Za121 (fun x hp hb=> ?_)
 obtain⟨a,k⟩:=x
 have hl_a:a.length≤9223372036854775807:=bdL (hb _ m0)
 have hl_k:=bdI (n:=k) (hb _ m1)
 have hp0:0≤k:=hp _ m0
 have hp1:k+cntActS a≤4611686018427387904:=hp _ m1
 clear hp hb
 rw[Zv121 a k]
 dsimp only
 refine⟨⟨by omega,by omega,by simp,by simp[ctS]⟩,?_⟩
 rintro⟨row,kk,i,⟨⟩⟩ ⟨h1,h2,rfl,rfl⟩
 simp only
 have hl:=mk_rl markAct cntAct a k h1 h2
 refine if_cond (fun hc=> ?_) (fun hc=> ?_)
 ·have hc:i<a.length:=by have hc:=of_decide_eq_true hc;omega
  have hct:=ctS_take cntAct a zAct h1 hc
  have hle:=ctS_take_le cntAct a (i+1).toNat
  have hg:=mk_getD _ a zAct (mk_tl markAct cntAct a k h1 h2) h1 hc
  have hM:=fun F hF=>mkS_mod markAct cntAct a zAct k (i:=i) F h1 hc hF
  have hq:(cntActS a:Int)=ctS cntAct a:=rfl
  generalize List.getD a i.toNat zAct=x at*
  generalize hkk:k+(ctS cntAct (a.take i.toNat):Int)=kk at*
  generalize List.take i.toNat (mkS markAct cntAct a k)++List.drop i.toNat a=R at*
  simp only[cntAct] at hct
  simp(disch:=first|omega|(simp only[zbf];omega)) only[zbf,wrap_i64,getD_modify,modify_modify,hg,hl]
  repeat' (first|refine And.intro (by omega) ?_|fail)
  exact⟨⟨by omega,by omega,hM _ (by first|rfl|(simp only[markAct,markBool];rw[zbp (by omega)];rfl)),by omega⟩,by simp only[Zm121_2];omega⟩
 ·have hc:a.length≤i:=by have hc:=of_decide_eq_false hc;omega
  rw[mk_done markAct cntAct a k hc,ct_done cntAct a hc]
  exact⟨rfl,rfl⟩
def Zh121:HH:=⟨_,Zo121⟩
def Zk65:Con UU where
 α:=DRule×Int
 md:=[.ro,.ro]
 of:=oC (oA .lRule) (o1 oI)
 ds:=fun x=>[dA .lRule x.1,dI x.2]
 pre:=fun(a,left)=>[0≤left]
 res:=fun(a,left)=>⟨[.one (.lit (.int .i64 (szr left (sizeRule a))))],true,[]⟩
 law:=lC (lA .lRule) (l1 lI)
def Za65:Zk65.α→Nat→Option (Ann UU):=fun(a,left)=>annL []
def Zu65:=us [Zh139,Zh140,Zh141]
theorem Zv65(a:DRule)(left:Int):goal EE Zu65 Go.Proofs.Tryz.f65 Zk65 Za65 (a,left)=(let x2:Int:=IntKind.wrap IntKind.i64 (left-(↑(ByteArray.size a.Name):Int));
let x1:Int:=szr x2 (sizePatS a.Pats);
let x0:Int:=szr x1 (sizeCondS a.Conds);
bif decide (x2<(0:Int)) then Lf [DV.one (Cell.lit (Value.int IntKind.i64 (-1:Int)))] [DV.one (Cell.lit (Value.int IntKind.i64 (szr left (sizeRule a))))] else(0:Int)≤x2∧bif decide (x1<(0:Int)) then Lf [DV.one (Cell.lit (Value.int IntKind.i64 (-1:Int)))] [DV.one (Cell.lit (Value.int IntKind.i64 (szr left (sizeRule a))))] else(0:Int)≤x1∧bif decide (x0<(0:Int)) then Lf [DV.one (Cell.lit (Value.int IntKind.i64 (-1:Int)))] [DV.one (Cell.lit (Value.int IntKind.i64 (szr left (sizeRule a))))] else(0:Int)≤x0∧bif decide (szr x0 (sizeActS a.Acts)<(0:Int)) then Lf [DV.one (Cell.lit (Value.int IntKind.i64 (-1:Int)))] [DV.one (Cell.lit (Value.int IntKind.i64 (szr left (sizeRule a))))] else Lf [DV.one (Cell.lit (Value.int IntKind.i64 (szr x0 (sizeActS a.Acts))))] [DV.one (Cell.lit (Value.int IntKind.i64 (szr left (sizeRule a))))]):=by kernel_rfl
theorem Zo65:Holds EE (65,Zk65):=by
 refine holds_of EE_ok Go.Proofs.Tryz.func65 Zk65 (by kernel_rfl) Zu65 (us_ok _) Za65 (fun x hp hb=> ?_)
 obtain⟨a,left⟩:=x
 have hz0:=bd_lRule (x:=a) (hb _ m0)
 have hl_a_Name:=hz0.1
 have hl_a_Pats:=hz0.2.1
 have hl_a_Conds:=hz0.2.2.1
 have hl_a_Acts:=hz0.2.2.2
 have hl_left:=bdI (n:=left) (hb _ m1)
 have hp0:0≤left:=hp _ m0
 clear hp hb
 rw[Zv65 a left]
 dsimp only
 rw[wrap_i64 (by omega) (by omega)]
 refine if_cond (fun h=>Lf_i (szr_bad' ?_)) (fun h=> ?_)
 ·have h:=of_decide_eq_true h;simp only[sizeRule];omega
 have h0:=of_decide_eq_false h
 refine⟨by omega,if_cond (fun h=>Lf_i (szr_bad' ?_)) (fun h=> ?_)⟩
 ·have h:=szr_neg h;simp only[sizeRule];omega
 obtain⟨e1,h1⟩:=szr_pos h
 rw[e1]
 refine⟨by omega,if_cond (fun h=>Lf_i (szr_bad' ?_)) (fun h=> ?_)⟩
 ·have h:=szr_neg h;simp only[sizeRule];omega
 obtain⟨e2,h2⟩:=szr_pos h
 rw[e2]
 refine⟨by omega,if_cond (fun h=>Lf_i (szr_bad' ?_)) (fun h=> ?_)⟩
 ·have h:=szr_neg h;simp only[sizeRule];omega
 obtain⟨e3,h3⟩:=szr_pos h
 rw[e3]
 exact Lf_i (by rw[←szr_ok' (by simp only[sizeRule];omega)];simp only[sizeRule];try omega)
def Zh65:HH:=⟨_,Zo65⟩
def Zk88:Con UU where
 α:=DRule
 md:=[.ro]
 of:=o1 (oA .lRule)
 ds:=fun x=>[dA .lRule x]
 pre:=fun a=>[sizeRule a≤4294967296]
 res:=fun a=>⟨[.agg [.lit (.string a.Name),.lit (.int .i64 a.Sal),.sl .ePat a.Pats,.sl .eCond a.Conds,.sl .eAct a.Acts]],true,[]⟩
 law:=l1 (lA .lRule)
def Za88:Zk88.α→Nat→Option (Ann UU):=fun a=>annL []
def Zu88:=us [Zh158,Zh159,Zh160]
theorem Zv88(a:DRule):goal EE Zu88 Go.Proofs.Tryz.f88 Zk88 Za88 a=(sizePatS a.Pats≤(4294967296:Nat)∧sizeCondS a.Conds≤(4294967296:Nat)∧sizeActS a.Acts≤(4294967296:Nat)∧Lf [DV.agg [Cell.lit (Value.string a.Name),Cell.lit (Value.int IntKind.i64 a.Sal),Cell.sl Cd.ePat a.Pats,Cell.sl Cd.eCond a.Conds,Cell.sl Cd.eAct a.Acts]] [DV.agg [Cell.lit (Value.string a.Name),Cell.lit (Value.int IntKind.i64 a.Sal),Cell.sl Cd.ePat a.Pats,Cell.sl Cd.eCond a.Conds,Cell.sl Cd.eAct a.Acts]]):=by kernel_rfl
theorem Zo88:Holds EE (88,Zk88):=by
 refine holds_of EE_ok Go.Proofs.Tryz.func88 Zk88 (by kernel_rfl) Zu88 (us_ok _) Za88 (fun(a:DRule) hp hb=> ?_)
 have hz0:=bd_lRule (x:=a) (hb _ m0)
 have hl_a_Name:=hz0.1
 have hl_a_Pats:=hz0.2.1
 have hl_a_Conds:=hz0.2.2.1
 have hl_a_Acts:=hz0.2.2.2
 have hp0:sizeRule a≤4294967296:=hp _ m0
 clear hp hb
 rw[Zv88 a]
 simp only[sizeRule] at hp0
 repeat' (first|exact Lf_rfl _|(refine And.intro (by omega) ?_))
def Zh88:HH:=⟨_,Zo88⟩
def Zk117:Con UU where
 α:=DRule×DRule
 md:=[.ro,.ro]
 of:=oC (oA .eRule) (o1 (oA .eRule))
 ds:=fun x=>[dA .eRule x.1,dA .eRule x.2]
 pre:=fun _=>[]
 res:=fun(a,b)=>⟨[.one (.lit (.bool (decide (a=b))))],true,[]⟩
 law:=lC (lA .eRule) (l1 (lA .eRule))
def Za117:Zk117.α→Nat→Option (Ann UU):=fun(a,b)=>annL []
def Zu117:=us [Zh186,Zh187,Zh188]
theorem Zv117(a:DRule)(b:DRule):goal EE Zu117 Go.Proofs.Tryz.f117 Zk117 Za117 (a,b)=(bif !ByteArray.toList a.Name==ByteArray.toList b.Name then Lb false (decide (a=b)) else bif a.Sal !=b.Sal then Lb false (decide (a=b)) else bif !decide (a.Pats=b.Pats) then Lb false (decide (a=b)) else bif !decide (a.Conds=b.Conds) then Lb false (decide (a=b)) else bif !decide (a.Acts=b.Acts) then Lb false (decide (a=b)) else Lb true (decide (a=b))):=by kernel_rfl
theorem Zo117:Holds EE (117,Zk117):=by
 refine holds_of EE_ok Go.Proofs.Tryz.func117 Zk117 (by kernel_rfl) Zu117 (us_ok _) Za117 (fun x hp hb=> ?_)
 obtain⟨a,b⟩:=x
 have hz0:=bd_eRule (x:=a) (hb _ m0)
 have hl_a_Name:=hz0.1
 have hl_a_Pats:=hz0.2.1
 have hl_a_Conds:=hz0.2.2.1
 have hl_a_Acts:=hz0.2.2.2
 have hz1:=bd_eRule (x:=b) (hb _ m1)
 have hl_b_Name:=hz1.1
 have hl_b_Pats:=hz1.2.1
 have hl_b_Conds:=hz1.2.2.1
 have hl_b_Acts:=hz1.2.2.2
 clear hp hb
 rw[Zv117 a b]
 obtain⟨aName,aSal,aPats,aConds,aActs⟩:=a
 obtain⟨bName,bSal,bPats,bConds,bActs⟩:=b
 repeat' (apply if_cond<;>intro _)
 all_goals (first|apply Lf_t|apply Lf_f)<;>simp_all
def Zh117:HH:=⟨_,Zo117⟩
def Zk22:Con UU where
 α:=(List DRule)×Int
 md:=[.ro,.ro]
 of:=oC (oL .lRule) (o1 oI)
 ds:=fun x=>[dL .lRule x.1,dI x.2]
 pre:=fun(a,left)=>[0≤left]
 res:=fun(a,left)=>⟨[.one (.lit (.int .i64 (szr left (sizeRuleS a))))],true,[]⟩
 law:=lC (lL .lRule) (l1 lI)
def Zi22_5(a:(List DRule))(left:Int):Int×Int×Unit→Prop:=szI sizeRule a (sizeRuleS a) left
def Zm22_5(a:(List DRule))(left:Int):Int×Int×Unit→Nat:=rM2 a
def Za22:Zk22.α→Nat→Option (Ann UU):=fun(a,left)=>annL [(5,annOf [.slot 1 (1,1024) (.lit (.int .i64)),.slot 5 (5,1024) (.lit (.int .i64))] (fun _=>Zi22_5 a left) (Zm22_5 a left))]
def Zu22:=us [Zh65]
theorem Zv22(a:(List DRule))(left:Int):goal EE Zu22 Go.Proofs.Tryz.f22 Zk22 Za22 (a,left)=(szV sizeRule zRule a (sizeRuleS a) left):=by kernel_rfl
theorem Zo22:Holds EE (22,Zk22):=by
 refine holds_of EE_ok Go.Proofs.Tryz.func22 Zk22 (by kernel_rfl) Zu22 (us_ok _) Za22 (fun x hp hb=> ?_)
 obtain⟨a,left⟩:=x
 have hl_a:a.length≤9223372036854775807:=bdL (hb _ m0)
 have hl_left:=bdI (n:=left) (hb _ m1)
 have hp0:0≤left:=hp _ m0
 clear hp hb
 rw[Zv22 a left]
 exact szV_ok rfl hp0 hl_left hl_a
def Zh22:HH:=⟨_,Zo22⟩
def Zk31:Con UU where
 α:=(List DRule)
 md:=[.ro]
 of:=o1 (oL .lRule)
 ds:=fun x=>[dL .lRule x]
 pre:=fun a=>[sizeRuleS a≤4294967296]
 res:=fun a=>⟨[.one (.sl .eRule a)],true,[]⟩
 law:=l1 (lL .lRule)
def Zi31_3(a:(List DRule)):List DRule×Int×Unit→Prop:=toI zRule a
def Zm31_3(a:(List DRule)):List DRule×Int×Unit→Nat:=rM2 a
def Za31:Zk31.α→Nat→Option (Ann UU):=fun a=>annL [(3,annOf [.slot 3 (3,1024) (.own .eRule true),.slot 4 (4,1024) (.lit (.int .i64))] (fun _=>Zi31_3 a) (Zm31_3 a))]
def Zu31:=us [Zh88]
theorem Zv31(a:(List DRule)):goal EE Zu31 Go.Proofs.Tryz.f31 Zk31 Za31 a=(toV sizeRule zRule a fun y=>Lf [.one (.sl .eRule y)] [.one (.sl .eRule a)]):=by kernel_rfl
theorem Zo31:Holds EE (31,Zk31):=by
 refine holds_of EE_ok Go.Proofs.Tryz.func31 Zk31 (by kernel_rfl) Zu31 (us_ok _) Za31 (fun(a:(List DRule)) hp hb=> ?_)
 have hl_a:a.length≤9223372036854775807:=bdL (hb _ m0)
 have hp0:sizeRuleS a≤4294967296:=hp _ m0
 clear hp hb
 rw[Zv31 a]
 exact toV_ok hp0 (Lf_rfl _)
def Zh31:HH:=⟨_,Zo31⟩
def Zk45:Con UU where
 α:=(List DRule)×(List DRule)
 md:=[.ro,.ro]
 of:=oC (oL .eRule) (o1 (oL .eRule))
 ds:=fun x=>[dL .eRule x.1,dL .eRule x.2]
 pre:=fun _=>[]
 res:=fun(a,b)=>⟨[.one (.lit (.bool (decide (a=b))))],true,[]⟩
 law:=lC (lL .eRule) (l1 (lL .eRule))
def Zi45_4(a:(List DRule))(b:(List DRule)):Int×Unit→Prop:=eqI a b
def Zm45_4(a:(List DRule))(b:(List DRule)):Int×Unit→Nat:=rM1 a
def Za45:Zk45.α→Nat→Option (Ann UU):=fun(a,b)=>annL [(4,annOf [.slot 5 (5,1024) (.lit (.int .i64))] (fun _=>Zi45_4 a b) (Zm45_4 a b))]
def Zu45:=us [Zh117]
theorem Zv45(a:(List DRule))(b:(List DRule)):goal EE Zu45 Go.Proofs.Tryz.f45 Zk45 Za45 (a,b)=(eqV zRule a b):=by kernel_rfl
theorem Zo45:Holds EE (45,Zk45):=by
 refine holds_of EE_ok Go.Proofs.Tryz.func45 Zk45 (by kernel_rfl) Zu45 (us_ok _) Za45 (fun x hp hb=> ?_)
 obtain⟨a,b⟩:=x
 have hl_a:a.length≤9223372036854775807:=bdL (hb _ m0)
 have hl_b:b.length≤9223372036854775807:=bdL (hb _ m1)
 clear hp hb
 rw[Zv45 a b]
 exact eqV_ok hl_a
def Zh45:HH:=⟨_,Zo45⟩
def Zk46:Con UU where
 α:=(List DRule)×Int
 md:=[.wr,.ro]
 of:=oC (oL .eRule) (o1 oI)
 ds:=fun x=>[dL .eRule x.1,dI x.2]
 pre:=fun(a,k)=>[0≤k,k+cntRuleS a≤4611686018427387904]
 res:=fun(a,k)=>⟨[.one (.lit (.int .i64 (k+cntRuleS a)))],true,[.one (.sl .eRule (markRuleS a k))]⟩
 law:=lC (lL .eRule) (l1 lI)
def Zi46_2(a:(List DRule))(k:Int):List DRule×Int×Int×Unit→Prop:=fun(row,kk,i,_)=>0≤i∧i≤a.length∧row=(mkS markRule cntRule a k).take i.toNat++a.drop i.toNat∧kk=k+ctS cntRule (a.take i.toNat)
def Zm46_2(a:(List DRule))(k:Int):List DRule×Int×Int×Unit→Nat:=fun(row,kk,i,_)=>a.length-i.toNat
def Za46:Zk46.α→Nat→Option (Ann UU):=fun(a,k)=>annL [(2,annOf [.slot 0 (2000000,0) (.own .eRule true),.slot 1 (1,1024) (.lit (.int .i64)),.slot 5 (5,1024) (.lit (.int .i64))] (fun _=>Zi46_2 a k) (Zm46_2 a k))]
def Zu46:=us [Zh118,Zh119,Zh120,Zh121]
theorem Zv46(a:(List DRule))(k:Int):goal EE Zu46 Go.Proofs.Tryz.f46 Zk46 Za46 (a,k)=(Zi46_2 a k (a,k,(0:Int),())∧
 ∀(y:List DRule×Int×Int×PUnit),
  let x4:Nat:=Int.toNat y.2.2.1;
  let x7:List DRule:=List.modify y.1 x4 fun(x:DRule)=>{Name:=markText y.2.1,Sal:=x.Sal,Pats:=x.Pats,Conds:=x.Conds,Acts:=x.Acts:DRule};
  let x8:Int:=IntKind.wrap IntKind.i64 (y.2.1+(1:Int));
  let x5:List DRule:=List.modify x7 x4 fun(x:DRule)=>{Name:=x.Name,Sal:=x8,Pats:=x.Pats,Conds:=x.Conds,Acts:=x.Acts:DRule};
  let x6:Int:=IntKind.wrap IntKind.i64 (x8+(1:Int));
  let x2:List DRule:=List.modify x5 x4 fun(x:DRule)=>{Name:=x.Name,Sal:=x.Sal,Pats:=markPatS (List.getD x5 x4 zRule).Pats x6,Conds:=x.Conds,Acts:=x.Acts:DRule};
  let x3:Int:=x6+(↑(cntPatS (List.getD x5 x4 zRule).Pats):Int);
  let x0:List DRule:=List.modify x2 x4 fun(x:DRule)=>{Name:=x.Name,Sal:=x.Sal,Pats:=x.Pats,Conds:=markCondS (List.getD x2 x4 zRule).Conds x3,Acts:=x.Acts:DRule};
  let x1:Int:=x3+(↑(cntCondS (List.getD x2 x4 zRule).Conds):Int);
  let x9:Int:=x1+(↑(cntActS (List.getD x0 x4 zRule).Acts):Int);
  Zi46_2 a k y→bif decide (y.2.2.1<(↑(List.length y.1):Int)) then y.2.1≤(4611686018427387903:Int)∧(0:Int)≤y.2.2.1∧x4<List.length y.1∧x4<List.length y.1∧(0:Int)≤y.2.2.1∧x4<List.length x7∧x4<List.length x7∧(0:Int)≤y.2.2.1∧x4<List.length x5∧x4<List.length x5∧x4<List.length x5∧(0:Int)≤x6∧x3≤(4611686018427387904:Int)∧(0:Int)≤y.2.2.1∧x4<List.length x2∧x4<List.length x2∧x4<List.length x2∧(0:Int)≤x3∧x1≤(4611686018427387904:Int)∧(0:Int)≤y.2.2.1∧x4<List.length x0∧x4<List.length x0∧x4<List.length x0∧(0:Int)≤x1∧x9≤(4611686018427387904:Int)∧Zi46_2 a k (List.modify x0 x4 fun(x:DRule)=>{Name:=x.Name,Sal:=x.Sal,Pats:=x.Pats,Conds:=x.Conds,Acts:=markActS (List.getD x0 x4 zRule).Acts x1:DRule},x9,IntKind.wrap IntKind.i64 (y.2.2.1+(1:Int)),PUnit.unit)∧Zm46_2 a k (List.modify x0 x4 fun(x:DRule)=>{Name:=x.Name,Sal:=x.Sal,Pats:=x.Pats,Conds:=x.Conds,Acts:=markActS (List.getD x0 x4 zRule).Acts x1:DRule},x9,IntKind.wrap IntKind.i64 (y.2.2.1+(1:Int)),PUnit.unit)<Zm46_2 a k y else asD [DV.one (Cell.lit (Value.int IntKind.i64 y.2.1))]=asD [DV.one (Cell.lit (Value.int IntKind.i64 (k+(↑(cntRuleS a):Int))))]∧asD [DV.one (Cell.sl Cd.eRule y.1)]=asD [DV.one (Cell.sl Cd.eRule (markRuleS a k))]):=by kernel_rfl
theorem Zo46:Holds EE (46,Zk46):=by
 refine holds_of EE_ok Go.Proofs.Tryz.func46 Zk46 (by kernel_rfl) Zu46 (us_ok _) Za46 (fun x hp hb=> ?_)
 obtain⟨a,k⟩:=x
 have hl_a:a.length≤9223372036854775807:=bdL (hb _ m0)
 have hl_k:=bdI (n:=k) (hb _ m1)
 have hp0:0≤k:=hp _ m0
 have hp1:k+cntRuleS a≤4611686018427387904:=hp _ m1
 clear hp hb
 rw[Zv46 a k]
 dsimp only
 refine⟨⟨by omega,by omega,by simp,by simp[ctS]⟩,?_⟩
 rintro⟨row,kk,i,⟨⟩⟩ ⟨h1,h2,rfl,rfl⟩
 simp only
 have hl:=mk_rl markRule cntRule a k h1 h2
 refine if_cond (fun hc=> ?_) (fun hc=> ?_)
 ·have hc:i<a.length:=by have hc:=of_decide_eq_true hc;omega
  have hct:=ctS_take cntRule a zRule h1 hc
  have hle:=ctS_take_le cntRule a (i+1).toNat
  have hg:=mk_getD _ a zRule (mk_tl markRule cntRule a k h1 h2) h1 hc
  have hM:=fun F hF=>mkS_mod markRule cntRule a zRule k (i:=i) F h1 hc hF
  have hq:(cntRuleS a:Int)=ctS cntRule a:=rfl
  generalize List.getD a i.toNat zRule=x at*
  generalize hkk:k+(ctS cntRule (a.take i.toNat):Int)=kk at*
  generalize List.take i.toNat (mkS markRule cntRule a k)++List.drop i.toNat a=R at*
  simp only[cntRule] at hct
  simp(disch:=first|omega|(simp only[zbf];omega)) only[zbf,wrap_i64,getD_modify,modify_modify,hg,hl]
  repeat' (first|refine And.intro (by omega) ?_|fail)
  exact⟨⟨by omega,by omega,hM _ (by first|rfl|(simp only[markRule,markBool];rw[zbp (by omega)];rfl)),by omega⟩,by simp only[Zm46_2];omega⟩
 ·have hc:a.length≤i:=by have hc:=of_decide_eq_false hc;omega
  rw[mk_done markRule cntRule a k hc,ct_done cntRule a hc]
  exact⟨rfl,rfl⟩
def Zh46:HH:=⟨_,Zo46⟩
def Zk5:Con UU where
 α:=DDef×Int
 md:=[.ro,.ro]
 of:=oC (oA .lDef) (o1 oI)
 ds:=fun x=>[dA .lDef x.1,dI x.2]
 pre:=fun(a,left)=>[0≤left]
 res:=fun(a,left)=>⟨[.one (.lit (.int .i64 (szr left (sizeDef a))))],true,[]⟩
 law:=lC (lA .lDef) (l1 lI)
def Za5:Zk5.α→Nat→Option (Ann UU):=fun(a,left)=>annL []
def Zu5:=us [Zh22]
theorem Zv5(a:DDef)(left:Int):goal EE Zu5 Go.Proofs.Tryz.f5 Zk5 Za5 (a,left)=(let x0:Int:=IntKind.wrap IntKind.i64 (left-(↑(ByteArray.size a.Name):Int));
bif decide (x0<(0:Int)) then Lf [DV.one (Cell.lit (Value.int IntKind.i64 (-1:Int)))] [DV.one (Cell.lit (Value.int IntKind.i64 (szr left (sizeDef a))))] else(0:Int)≤x0∧bif decide (szr x0 (sizeRuleS a.Rules)<(0:Int)) then Lf [DV.one (Cell.lit (Value.int IntKind.i64 (-1:Int)))] [DV.one (Cell.lit (Value.int IntKind.i64 (szr left (sizeDef a))))] else Lf [DV.one (Cell.lit (Value.int IntKind.i64 (szr x0 (sizeRuleS a.Rules))))] [DV.one (Cell.lit (Value.int IntKind.i64 (szr left (sizeDef a))))]):=by kernel_rfl
theorem Zo5:Holds EE (5,Zk5):=by
 refine holds_of EE_ok Go.Proofs.Tryz.func5 Zk5 (by kernel_rfl) Zu5 (us_ok _) Za5 (fun x hp hb=> ?_)
 obtain⟨a,left⟩:=x
 have hz0:=bd_lDef (x:=a) (hb _ m0)
 have hl_a_Name:=hz0.1
 have hl_a_Rules:=hz0.2
 have hl_left:=bdI (n:=left) (hb _ m1)
 have hp0:0≤left:=hp _ m0
 clear hp hb
 rw[Zv5 a left]
 dsimp only
 rw[wrap_i64 (by omega) (by omega)]
 refine if_cond (fun h=>Lf_i (szr_bad' ?_)) (fun h=> ?_)
 ·have h:=of_decide_eq_true h;simp only[sizeDef];omega
 have h0:=of_decide_eq_false h
 refine⟨by omega,if_cond (fun h=>Lf_i (szr_bad' ?_)) (fun h=> ?_)⟩
 ·have h:=szr_neg h;simp only[sizeDef];omega
 obtain⟨e1,h1⟩:=szr_pos h
 rw[e1]
 exact Lf_i (by rw[←szr_ok' (by simp only[sizeDef];omega)];simp only[sizeDef];try omega)
def Zh5:HH:=⟨_,Zo5⟩
def Zk8:Con UU where
 α:=DDef
 md:=[.ro]
 of:=o1 (oA .lDef)
 ds:=fun x=>[dA .lDef x]
 pre:=fun a=>[sizeDef a≤4294967296]
 res:=fun a=>⟨[.agg [.lit (.string a.Name),.sl .eRule a.Rules]],true,[]⟩
 law:=l1 (lA .lDef)
def Za8:Zk8.α→Nat→Option (Ann UU):=fun a=>annL []
def Zu8:=us [Zh31]
theorem Zv8(a:DDef):goal EE Zu8 Go.Proofs.Tryz.f8 Zk8 Za8 a=(sizeRuleS a.Rules≤(4294967296:Nat)∧Lf [DV.agg [Cell.lit (Value.string a.Name),Cell.sl Cd.eRule a.Rules]] [DV.agg [Cell.lit (Value.string a.Name),Cell.sl Cd.eRule a.Rules]]):=by kernel_rfl
theorem Zo8:Holds EE (8,Zk8):=by
 refine holds_of EE_ok Go.Proofs.Tryz.func8 Zk8 (by kernel_rfl) Zu8 (us_ok _) Za8 (fun(a:DDef) hp hb=> ?_)
 have hz0:=bd_lDef (x:=a) (hb _ m0)
 have hl_a_Name:=hz0.1
 have hl_a_Rules:=hz0.2
 have hp0:sizeDef a≤4294967296:=hp _ m0
 clear hp hb
 rw[Zv8 a]
 simp only[sizeDef] at hp0
 repeat' (first|exact Lf_rfl _|(refine And.intro (by omega) ?_))
def Zh8:HH:=⟨_,Zo8⟩
def Zk12:Con UU where
 α:=DDef×DDef
 md:=[.ro,.ro]
 of:=oC (oA .eDef) (o1 (oA .eDef))
 ds:=fun x=>[dA .eDef x.1,dA .eDef x.2]
 pre:=fun _=>[]
 res:=fun(a,b)=>⟨[.one (.lit (.bool (decide (a=b))))],true,[]⟩
 law:=lC (lA .eDef) (l1 (lA .eDef))
def Za12:Zk12.α→Nat→Option (Ann UU):=fun(a,b)=>annL []
def Zu12:=us [Zh45]
theorem Zv12(a:DDef)(b:DDef):goal EE Zu12 Go.Proofs.Tryz.f12 Zk12 Za12 (a,b)=(bif !ByteArray.toList a.Name==ByteArray.toList b.Name then Lb false (decide (a=b)) else bif !decide (a.Rules=b.Rules) then Lb false (decide (a=b)) else Lb true (decide (a=b))):=by kernel_rfl
theorem Zo12:Holds EE (12,Zk12):=by
 refine holds_of EE_ok Go.Proofs.Tryz.func12 Zk12 (by kernel_rfl) Zu12 (us_ok _) Za12 (fun x hp hb=> ?_)
 obtain⟨a,b⟩:=x
 have hz0:=bd_eDef (x:=a) (hb _ m0)
 have hl_a_Name:=hz0.1
 have hl_a_Rules:=hz0.2
 have hz1:=bd_eDef (x:=b) (hb _ m1)
 have hl_b_Name:=hz1.1
 have hl_b_Rules:=hz1.2
 clear hp hb
 rw[Zv12 a b]
 obtain⟨aName,aRules⟩:=a
 obtain⟨bName,bRules⟩:=b
 repeat' (apply if_cond<;>intro _)
 all_goals (first|apply Lf_t|apply Lf_f)<;>simp_all
def Zh12:HH:=⟨_,Zo12⟩
def Zk13:Con UU where
 α:=DDef×Int
 md:=[.wr,.ro]
 of:=oC (oA .eDef) (o1 oI)
 ds:=fun x=>[dA .eDef x.1,dI x.2]
 pre:=fun(a,k)=>[0≤k,k+ctDef a≤4611686018427387904]
 res:=fun(a,k)=>⟨[.one (.lit (.int .i64 (k+ctDef a)))],true,[.agg [.lit (.string ((mkDef a k)).Name),.sl .eRule ((mkDef a k)).Rules]]⟩
 law:=lC (lA .eDef) (l1 lI)
def Za13:Zk13.α→Nat→Option (Ann UU):=fun(a,k)=>annL []
def Zu13:=us [Zh46]
theorem Zv13(a:DDef)(k:Int):goal EE Zu13 Go.Proofs.Tryz.f13 Zk13 Za13 (a,k)=((0:Int)≤k∧k+(↑(cntRuleS a.Rules):Int)≤(4611686018427387904:Int)∧asD [DV.one (Cell.lit (Value.int IntKind.i64 (k+(↑(cntRuleS a.Rules):Int))))]=asD [DV.one (Cell.lit (Value.int IntKind.i64 (k+(↑(ctDef a):Int))))]∧asD [DV.agg [Cell.lit (Value.string a.Name),Cell.sl Cd.eRule (markRuleS a.Rules k)]]=asD [DV.agg [Cell.lit (Value.string (mkDef a k).Name),Cell.sl Cd.eRule (mkDef a k).Rules]]):=by kernel_rfl
theorem Zo13:Holds EE (13,Zk13):=by
 refine holds_of EE_ok Go.Proofs.Tryz.func13 Zk13 (by kernel_rfl) Zu13 (us_ok _) Za13 (fun x hp hb=> ?_)
 obtain⟨a,k⟩:=x
 have hz0:=bd_eDef (x:=a) (hb _ m0)
 have hl_a_Name:=hz0.1
 have hl_a_Rules:=hz0.2
 have hl_k:=bdI (n:=k) (hb _ m1)
 have hp0:0≤k:=hp _ m0
 have hp1:k+ctDef a≤4611686018427387904:=hp _ m1
 clear hp hb
 rw[Zv13 a k]
 simp only[ctDef] at hp1
 repeat' (first|refine And.intro (by omega) ?_|fail)
 exact⟨by simp only[ctDef,Int.natCast_add,Int.add_assoc],rfl⟩
def Zh13:HH:=⟨_,Zo13⟩
def Zk67:Con UU where
 α:=DMatch×Int
 md:=[.ro,.ro]
 of:=oC (oA .lMatch) (o1 oI)
 ds:=fun x=>[dA .lMatch x.1,dI x.2]
 pre:=fun(a,left)=>[0≤left]
 res:=fun(a,left)=>⟨[.one (.lit (.int .i64 (szr left (sizeMatch a))))],true,[]⟩
 law:=lC (lA .lMatch) (l1 lI)
def Za67:Zk67.α→Nat→Option (Ann UU):=fun(a,left)=>annL []
def Zu67:=us [Zh143,Zh144]
theorem Zv67(a:DMatch)(left:Int):goal EE Zu67 Go.Proofs.Tryz.f67 Zk67 Za67 (a,left)=(let x0:Int:=szr (szr left (sizeIntS a.Ids)) (sizeBindS a.Binds);
(0:Int)≤left∧bif decide (szr left (sizeIntS a.Ids)<(0:Int)) then Lf [DV.one (Cell.lit (Value.int IntKind.i64 (-1:Int)))] [DV.one (Cell.lit (Value.int IntKind.i64 (szr left (sizeMatch a))))] else(0:Int)≤szr left (sizeIntS a.Ids)∧bif decide (x0<(0:Int)) then Lf [DV.one (Cell.lit (Value.int IntKind.i64 (-1:Int)))] [DV.one (Cell.lit (Value.int IntKind.i64 (szr left (sizeMatch a))))] else Lf [DV.one (Cell.lit (Value.int IntKind.i64 x0))] [DV.one (Cell.lit (Value.int IntKind.i64 (szr left (sizeMatch a))))]):=by kernel_rfl
theorem Zo67:Holds EE (67,Zk67):=by
 refine holds_of EE_ok Go.Proofs.Tryz.func67 Zk67 (by kernel_rfl) Zu67 (us_ok _) Za67 (fun x hp hb=> ?_)
 obtain⟨a,left⟩:=x
 have hz0:=bd_lMatch (x:=a) (hb _ m0)
 have hl_a_Ids:=hz0.1
 have hl_a_Binds:=hz0.2
 have hl_left:=bdI (n:=left) (hb _ m1)
 have hp0:0≤left:=hp _ m0
 clear hp hb
 rw[Zv67 a left]
 dsimp only
 refine⟨by omega,if_cond (fun h=>Lf_i (szr_bad' ?_)) (fun h=> ?_)⟩
 ·have h:=szr_neg h;simp only[sizeMatch];omega
 obtain⟨e0,h0⟩:=szr_pos h
 rw[e0]
 refine⟨by omega,if_cond (fun h=>Lf_i (szr_bad' ?_)) (fun h=> ?_)⟩
 ·have h:=szr_neg h;simp only[sizeMatch];omega
 obtain⟨e1,h1⟩:=szr_pos h
 rw[e1]
 exact Lf_i (by rw[←szr_ok' (by simp only[sizeMatch];omega)];simp only[sizeMatch];try omega)
def Zh67:HH:=⟨_,Zo67⟩
def Zk90:Con UU where
 α:=DMatch
 md:=[.ro]
 of:=o1 (oA .lMatch)
 ds:=fun x=>[dA .lMatch x]
 pre:=fun a=>[sizeMatch a≤4294967296]
 res:=fun a=>⟨[.agg [.lit (.int .i64 a.Rule),.sl .int a.Ids,.sl .eBind a.Binds]],true,[]⟩
 law:=l1 (lA .lMatch)
def Za90:Zk90.α→Nat→Option (Ann UU):=fun a=>annL []
def Zu90:=us [Zh162,Zh163]
theorem Zv90(a:DMatch):goal EE Zu90 Go.Proofs.Tryz.f90 Zk90 Za90 a=(sizeIntS a.Ids≤(4294967296:Nat)∧sizeBindS a.Binds≤(4294967296:Nat)∧Lf [DV.agg [Cell.lit (Value.int IntKind.i64 a.Rule),Cell.sl Cd.int a.Ids,Cell.sl Cd.eBind a.Binds]] [DV.agg [Cell.lit (Value.int IntKind.i64 a.Rule),Cell.sl Cd.int a.Ids,Cell.sl Cd.eBind a.Binds]]):=by kernel_rfl
theorem Zo90:Holds EE (90,Zk90):=by
 refine holds_of EE_ok Go.Proofs.Tryz.func90 Zk90 (by kernel_rfl) Zu90 (us_ok _) Za90 (fun(a:DMatch) hp hb=> ?_)
 have hz0:=bd_lMatch (x:=a) (hb _ m0)
 have hl_a_Ids:=hz0.1
 have hl_a_Binds:=hz0.2
 have hp0:sizeMatch a≤4294967296:=hp _ m0
 clear hp hb
 rw[Zv90 a]
 simp only[sizeMatch] at hp0
 repeat' (first|exact Lf_rfl _|(refine And.intro (by omega) ?_))
def Zh90:HH:=⟨_,Zo90⟩
def Zk113:Con UU where
 α:=DMatch×DMatch
 md:=[.ro,.ro]
 of:=oC (oA .eMatch) (o1 (oA .eMatch))
 ds:=fun x=>[dA .eMatch x.1,dA .eMatch x.2]
 pre:=fun _=>[]
 res:=fun(a,b)=>⟨[.one (.lit (.bool (decide (a=b))))],true,[]⟩
 law:=lC (lA .eMatch) (l1 (lA .eMatch))
def Za113:Zk113.α→Nat→Option (Ann UU):=fun(a,b)=>annL []
def Zu113:=us [Zh184,Zh185]
theorem Zv113(a:DMatch)(b:DMatch):goal EE Zu113 Go.Proofs.Tryz.f113 Zk113 Za113 (a,b)=(bif a.Rule !=b.Rule then Lb false (decide (a=b)) else bif !decide (a.Ids=b.Ids) then Lb false (decide (a=b)) else bif !decide (a.Binds=b.Binds) then Lb false (decide (a=b)) else Lb true (decide (a=b))):=by kernel_rfl
theorem Zo113:Holds EE (113,Zk113):=by
 refine holds_of EE_ok Go.Proofs.Tryz.func113 Zk113 (by kernel_rfl) Zu113 (us_ok _) Za113 (fun x hp hb=> ?_)
 obtain⟨a,b⟩:=x
 have hz0:=bd_eMatch (x:=a) (hb _ m0)
 have hl_a_Ids:=hz0.1
 have hl_a_Binds:=hz0.2
 have hz1:=bd_eMatch (x:=b) (hb _ m1)
 have hl_b_Ids:=hz1.1
 have hl_b_Binds:=hz1.2
 clear hp hb
 rw[Zv113 a b]
 obtain⟨aRule,aIds,aBinds⟩:=a
 obtain⟨bRule,bIds,bBinds⟩:=b
 repeat' (apply if_cond<;>intro _)
 all_goals (first|apply Lf_t|apply Lf_f)<;>simp_all
def Zh113:HH:=⟨_,Zo113⟩
def Zk24:Con UU where
 α:=(List DMatch)×Int
 md:=[.ro,.ro]
 of:=oC (oL .lMatch) (o1 oI)
 ds:=fun x=>[dL .lMatch x.1,dI x.2]
 pre:=fun(a,left)=>[0≤left]
 res:=fun(a,left)=>⟨[.one (.lit (.int .i64 (szr left (sizeMatchS a))))],true,[]⟩
 law:=lC (lL .lMatch) (l1 lI)
def Zi24_5(a:(List DMatch))(left:Int):Int×Int×Unit→Prop:=szI sizeMatch a (sizeMatchS a) left
def Zm24_5(a:(List DMatch))(left:Int):Int×Int×Unit→Nat:=rM2 a
def Za24:Zk24.α→Nat→Option (Ann UU):=fun(a,left)=>annL [(5,annOf [.slot 1 (1,1024) (.lit (.int .i64)),.slot 5 (5,1024) (.lit (.int .i64))] (fun _=>Zi24_5 a left) (Zm24_5 a left))]
def Zu24:=us [Zh67]
theorem Zv24(a:(List DMatch))(left:Int):goal EE Zu24 Go.Proofs.Tryz.f24 Zk24 Za24 (a,left)=(szV sizeMatch zMatch a (sizeMatchS a) left):=by kernel_rfl
theorem Zo24:Holds EE (24,Zk24):=by
 refine holds_of EE_ok Go.Proofs.Tryz.func24 Zk24 (by kernel_rfl) Zu24 (us_ok _) Za24 (fun x hp hb=> ?_)
 obtain⟨a,left⟩:=x
 have hl_a:a.length≤9223372036854775807:=bdL (hb _ m0)
 have hl_left:=bdI (n:=left) (hb _ m1)
 have hp0:0≤left:=hp _ m0
 clear hp hb
 rw[Zv24 a left]
 exact szV_ok rfl hp0 hl_left hl_a
def Zh24:HH:=⟨_,Zo24⟩
def Zk33:Con UU where
 α:=(List DMatch)
 md:=[.ro]
 of:=o1 (oL .lMatch)
 ds:=fun x=>[dL .lMatch x]
 pre:=fun a=>[sizeMatchS a≤4294967296]
 res:=fun a=>⟨[.one (.sl .eMatch a)],true,[]⟩
 law:=l1 (lL .lMatch)
def Zi33_3(a:(List DMatch)):List DMatch×Int×Unit→Prop:=toI zMatch a
def Zm33_3(a:(List DMatch)):List DMatch×Int×Unit→Nat:=rM2 a
def Za33:Zk33.α→Nat→Option (Ann UU):=fun a=>annL [(3,annOf [.slot 3 (3,1024) (.own .eMatch true),.slot 4 (4,1024) (.lit (.int .i64))] (fun _=>Zi33_3 a) (Zm33_3 a))]
def Zu33:=us [Zh90]
theorem Zv33(a:(List DMatch)):goal EE Zu33 Go.Proofs.Tryz.f33 Zk33 Za33 a=(toV sizeMatch zMatch a fun y=>Lf [.one (.sl .eMatch y)] [.one (.sl .eMatch a)]):=by kernel_rfl
theorem Zo33:Holds EE (33,Zk33):=by
 refine holds_of EE_ok Go.Proofs.Tryz.func33 Zk33 (by kernel_rfl) Zu33 (us_ok _) Za33 (fun(a:(List DMatch)) hp hb=> ?_)
 have hl_a:a.length≤9223372036854775807:=bdL (hb _ m0)
 have hp0:sizeMatchS a≤4294967296:=hp _ m0
 clear hp hb
 rw[Zv33 a]
 exact toV_ok hp0 (Lf_rfl _)
def Zh33:HH:=⟨_,Zo33⟩
def Zk41:Con UU where
 α:=(List DMatch)×(List DMatch)
 md:=[.ro,.ro]
 of:=oC (oL .eMatch) (o1 (oL .eMatch))
 ds:=fun x=>[dL .eMatch x.1,dL .eMatch x.2]
 pre:=fun _=>[]
 res:=fun(a,b)=>⟨[.one (.lit (.bool (decide (a=b))))],true,[]⟩
 law:=lC (lL .eMatch) (l1 (lL .eMatch))
def Zi41_4(a:(List DMatch))(b:(List DMatch)):Int×Unit→Prop:=eqI a b
def Zm41_4(a:(List DMatch))(b:(List DMatch)):Int×Unit→Nat:=rM1 a
def Za41:Zk41.α→Nat→Option (Ann UU):=fun(a,b)=>annL [(4,annOf [.slot 5 (5,1024) (.lit (.int .i64))] (fun _=>Zi41_4 a b) (Zm41_4 a b))]
def Zu41:=us [Zh113]
theorem Zv41(a:(List DMatch))(b:(List DMatch)):goal EE Zu41 Go.Proofs.Tryz.f41 Zk41 Za41 (a,b)=(eqV zMatch a b):=by kernel_rfl
theorem Zo41:Holds EE (41,Zk41):=by
 refine holds_of EE_ok Go.Proofs.Tryz.func41 Zk41 (by kernel_rfl) Zu41 (us_ok _) Za41 (fun x hp hb=> ?_)
 obtain⟨a,b⟩:=x
 have hl_a:a.length≤9223372036854775807:=bdL (hb _ m0)
 have hl_b:b.length≤9223372036854775807:=bdL (hb _ m1)
 clear hp hb
 rw[Zv41 a b]
 exact eqV_ok hl_a
def Zh41:HH:=⟨_,Zo41⟩
def Zk48:Con UU where
 α:=(List DMatch)×Int
 md:=[.wr,.ro]
 of:=oC (oL .eMatch) (o1 oI)
 ds:=fun x=>[dL .eMatch x.1,dI x.2]
 pre:=fun(a,k)=>[0≤k,k+cntMatchS a≤4611686018427387904]
 res:=fun(a,k)=>⟨[.one (.lit (.int .i64 (k+cntMatchS a)))],true,[.one (.sl .eMatch (markMatchS a k))]⟩
 law:=lC (lL .eMatch) (l1 lI)
def Zi48_2(a:(List DMatch))(k:Int):List DMatch×Int×Int×Unit→Prop:=fun(row,kk,i,_)=>0≤i∧i≤a.length∧row=(mkS markMatch cntMatch a k).take i.toNat++a.drop i.toNat∧kk=k+ctS cntMatch (a.take i.toNat)
def Zm48_2(a:(List DMatch))(k:Int):List DMatch×Int×Int×Unit→Nat:=fun(row,kk,i,_)=>a.length-i.toNat
def Za48:Zk48.α→Nat→Option (Ann UU):=fun(a,k)=>annL [(2,annOf [.slot 0 (2000000,0) (.own .eMatch true),.slot 1 (1,1024) (.lit (.int .i64)),.slot 5 (5,1024) (.lit (.int .i64))] (fun _=>Zi48_2 a k) (Zm48_2 a k))]
def Zu48:=us [Zh123,Zh124]
theorem Zv48(a:(List DMatch))(k:Int):goal EE Zu48 Go.Proofs.Tryz.f48 Zk48 Za48 (a,k)=(Zi48_2 a k (a,k,(0:Int),())∧
 ∀(y:List DMatch×Int×Int×PUnit),
  let x2:Nat:=Int.toNat y.2.2.1;
  let x3:Int:=IntKind.wrap IntKind.i64 (y.2.1+(1:Int));
  let x4:List DMatch:=List.modify y.1 x2 fun(x:DMatch)=>{Rule:=y.2.1,Ids:=x.Ids,Binds:=x.Binds:DMatch};
  let x0:List DMatch:=List.modify x4 x2 fun(x:DMatch)=>{Rule:=x.Rule,Ids:=markIntS (List.getD x4 x2 zMatch).Ids x3,Binds:=x.Binds:DMatch};
  let x1:Int:=x3+(↑(cntIntS (List.getD x4 x2 zMatch).Ids):Int);
  let x5:Int:=x1+(↑(cntBindS (List.getD x0 x2 zMatch).Binds):Int);
  Zi48_2 a k y→bif decide (y.2.2.1<(↑(List.length y.1):Int)) then(0:Int)≤y.2.2.1∧x2<List.length y.1∧x2<List.length y.1∧(0:Int)≤y.2.2.1∧x2<List.length x4∧x2<List.length x4∧x2<List.length x4∧(0:Int)≤x3∧x1≤(4611686018427387904:Int)∧(0:Int)≤y.2.2.1∧x2<List.length x0∧x2<List.length x0∧x2<List.length x0∧(0:Int)≤x1∧x5≤(4611686018427387904:Int)∧Zi48_2 a k (List.modify x0 x2 fun(x:DMatch)=>{Rule:=x.Rule,Ids:=x.Ids,Binds:=markBindS (List.getD x0 x2 zMatch).Binds x1:DMatch},x5,IntKind.wrap IntKind.i64 (y.2.2.1+(1:Int)),PUnit.unit)∧Zm48_2 a k (List.modify x0 x2 fun(x:DMatch)=>{Rule:=x.Rule,Ids:=x.Ids,Binds:=markBindS (List.getD x0 x2 zMatch).Binds x1:DMatch},x5,IntKind.wrap IntKind.i64 (y.2.2.1+(1:Int)),PUnit.unit)<Zm48_2 a k y else asD [DV.one (Cell.lit (Value.int IntKind.i64 y.2.1))]=asD [DV.one (Cell.lit (Value.int IntKind.i64 (k+(↑(cntMatchS a):Int))))]∧asD [DV.one (Cell.sl Cd.eMatch y.1)]=asD [DV.one (Cell.sl Cd.eMatch (markMatchS a k))]):=by kernel_rfl
theorem Zo48:Holds EE (48,Zk48):=by
 refine holds_of EE_ok Go.Proofs.Tryz.func48 Zk48 (by kernel_rfl) Zu48 (us_ok _) Za48 (fun x hp hb=> ?_)
 obtain⟨a,k⟩:=x
 have hl_a:a.length≤9223372036854775807:=bdL (hb _ m0)
 have hl_k:=bdI (n:=k) (hb _ m1)
 have hp0:0≤k:=hp _ m0
 have hp1:k+cntMatchS a≤4611686018427387904:=hp _ m1
 clear hp hb
 rw[Zv48 a k]
 dsimp only
 refine⟨⟨by omega,by omega,by simp,by simp[ctS]⟩,?_⟩
 rintro⟨row,kk,i,⟨⟩⟩ ⟨h1,h2,rfl,rfl⟩
 simp only
 have hl:=mk_rl markMatch cntMatch a k h1 h2
 refine if_cond (fun hc=> ?_) (fun hc=> ?_)
 ·have hc:i<a.length:=by have hc:=of_decide_eq_true hc;omega
  have hct:=ctS_take cntMatch a zMatch h1 hc
  have hle:=ctS_take_le cntMatch a (i+1).toNat
  have hg:=mk_getD _ a zMatch (mk_tl markMatch cntMatch a k h1 h2) h1 hc
  have hM:=fun F hF=>mkS_mod markMatch cntMatch a zMatch k (i:=i) F h1 hc hF
  have hq:(cntMatchS a:Int)=ctS cntMatch a:=rfl
  generalize List.getD a i.toNat zMatch=x at*
  generalize hkk:k+(ctS cntMatch (a.take i.toNat):Int)=kk at*
  generalize List.take i.toNat (mkS markMatch cntMatch a k)++List.drop i.toNat a=R at*
  simp only[cntMatch] at hct
  simp(disch:=first|omega|(simp only[zbf];omega)) only[zbf,wrap_i64,getD_modify,modify_modify,hg,hl]
  repeat' (first|refine And.intro (by omega) ?_|fail)
  exact⟨⟨by omega,by omega,hM _ (by first|rfl|(simp only[markMatch,markBool];rw[zbp (by omega)];rfl)),by omega⟩,by simp only[Zm48_2];omega⟩
 ·have hc:a.length≤i:=by have hc:=of_decide_eq_false hc;omega
  rw[mk_done markMatch cntMatch a k hc,ct_done cntMatch a hc]
  exact⟨rfl,rfl⟩
def Zh48:HH:=⟨_,Zo48⟩
def Zk53:Con UU where
 α:=(List DMatch)×Int
 md:=[.ro,.ro]
 of:=oC (oL .eMatch) (o1 oI)
 ds:=fun x=>[dL .eMatch x.1,dI x.2]
 pre:=fun(a,k)=>[0≤k,k+cntMatchS a≤4611686018427387904]
 res:=fun(a,k)=>⟨[.one (.lit (.int .i64 (if markMatchS a k=a then k+cntMatchS a else-1)))],true,[]⟩
 law:=lC (lL .eMatch) (l1 lI)
def Zi53_2(a:(List DMatch))(k:Int):Int×Int×Unit→Prop:=fun(kk,i,_)=>0≤i∧i≤a.length∧kk=k+ctS cntMatch (a.take i.toNat)∧(mkS markMatch cntMatch (a.drop i.toNat) kk=a.drop i.toNat↔mkS markMatch cntMatch a k=a)
def Zm53_2(a:(List DMatch))(k:Int):Int×Int×Unit→Nat:=fun(kk,i,_)=>a.length-i.toNat
def Za53:Zk53.α→Nat→Option (Ann UU):=fun(a,k)=>annL [(2,annOf [.slot 1 (1,1024) (.lit (.int .i64)),.slot 5 (5,1024) (.lit (.int .i64))] (fun _=>Zi53_2 a k) (Zm53_2 a k))]
def Zu53:=us [Zh126,Zh127]
theorem Zv53(a:(List DMatch))(k:Int):goal EE Zu53 Go.Proofs.Tryz.f53 Zk53 Za53 (a,k)=(let x0:Int:=(-1:Int);
Zi53_2 a k (k,(0:Int),PUnit.unit)∧
 ∀(y:Int×Int×PUnit),
  let x6:Nat:=Int.toNat y.2.1;
  let x7:Int:=IntKind.wrap IntKind.i64 (y.1+(1:Int));
  let x5:DMatch:=List.getD a x6 zMatch;
  let x3:List DBind:=x5.Binds;
  let x4:List Int:=x5.Ids;
  let x2:Int:=if markIntS x4 x7=x4 then x7+(↑(cntIntS x4):Int) else x0;
  let x1:Int:=if markBindS x3 x2=x3 then x2+(↑(cntBindS x3):Int) else x0;
  Zi53_2 a k y→bif decide (y.2.1<(↑(List.length a):Int)) then(0:Int)≤y.2.1∧x6<List.length a∧bif x5.Rule !=y.1 then Lf [DV.one (Cell.lit (Value.int IntKind.i64 x0))] [DV.one (Cell.lit (Value.int IntKind.i64 (if markMatchS a k=a then k+(↑(cntMatchS a):Int) else x0)))] else(0:Int)≤y.2.1∧x6<List.length a∧(0:Int)≤x7∧x7+(↑(cntIntS x4):Int)≤(4611686018427387904:Int)∧bif decide (x2<(0:Int)) then Lf [DV.one (Cell.lit (Value.int IntKind.i64 x0))] [DV.one (Cell.lit (Value.int IntKind.i64 (if markMatchS a k=a then k+(↑(cntMatchS a):Int) else x0)))] else(0:Int)≤y.2.1∧x6<List.length a∧(0:Int)≤x2∧x2+(↑(cntBindS x3):Int)≤(4611686018427387904:Int)∧bif decide (x1<(0:Int)) then Lf [DV.one (Cell.lit (Value.int IntKind.i64 x0))] [DV.one (Cell.lit (Value.int IntKind.i64 (if markMatchS a k=a then k+(↑(cntMatchS a):Int) else x0)))] else Zi53_2 a k (x1,IntKind.wrap IntKind.i64 (y.2.1+(1:Int)),PUnit.unit)∧Zm53_2 a k (x1,IntKind.wrap IntKind.i64 (y.2.1+(1:Int)),PUnit.unit)<Zm53_2 a k y else Lf [DV.one (Cell.lit (Value.int IntKind.i64 y.1))] [DV.one (Cell.lit (Value.int IntKind.i64 (if markMatchS a k=a then k+(↑(cntMatchS a):Int) else x0)))]):=by kernel_rfl
theorem Zo53:Holds EE (53,Zk53):=by
 refine holds_of EE_ok Go.Proofs.Tryz.func53 Zk53 (by kernel_rfl) Zu53 (us_ok _) Za53 (fun x hp hb=> ?_)
 obtain⟨a,k⟩:=x
 have hl_a:a.length≤9223372036854775807:=bdL (hb _ m0)
 have hl_k:=bdI (n:=k) (hb _ m1)
 have hp0:0≤k:=hp _ m0
 have hp1:k+cntMatchS a≤4611686018427387904:=hp _ m1
 clear hp hb
 rw[Zv53 a k]
 dsimp only
 refine⟨⟨by omega,by omega,by simp[ctS],by simp⟩,?_⟩
 rintro⟨kk,i,⟨⟩⟩ ⟨h1,h2,hkk,hR⟩
 simp only
 simp only[markMatchS]
 refine if_cond (fun hc=> ?_) (fun hc=> ?_)
 ·have hc:i<a.length:=by have hc:=of_decide_eq_true hc;omega
  have hct:=ctS_take cntMatch a zMatch h1 hc
  have hle:=ctS_take_le cntMatch a (i+1).toNat
  have hq:(cntMatchS a:Int)=ctS cntMatch a:=rfl
  rw[drop_step a zMatch h1 hc] at hR
  generalize List.getD a i.toNat zMatch=x at*
  simp only[mkS,zdd] at hR
  have e:kk+(cntMatch x:Int)=kk+1+(cntIntS x.Ids:Int)+(cntBindS x.Binds:Int):=by first|(simp only[cntMatch];done)|(simp only[cntMatch];omega)
  rw[e] at hR
  simp only[markMatch,cntMatch] at hR hct
  simp(disch:=omega) only[wrap_i64,bne_int,toList_beq]
  obtain⟨x_Rule,x_Ids,x_Binds⟩:=x
  simp only[DMatch.mk.injEq] at*
  repeat' (first|refine And.intro (by omega) ?_|fail)
  refine if_cond (fun h=>Lf_no (fun hh=> ?_)) (fun h=> ?_)
  ·have hh:=hR.2 hh;simp_all
  have h:x_Rule=kk:=by simpa using h
  subst x_Rule
  repeat' (first|refine And.intro (by omega) ?_|fail)
  by_cases hm:markIntS x_Ids (kk+1)=x_Ids
  rotate_left
  ·simp only[if_neg hm];rw[cond_yes (by decide)]
   exact Lf_no (fun hh=>hm (by have hh:=hR.2 hh;simp_all))
  simp only[if_pos hm]
  refine if_cond (fun h=>absurd (of_decide_eq_true h) (by omega)) (fun h=> ?_)
  simp only[hm] at hR
  clear hm
  repeat' (first|refine And.intro (by omega) ?_|fail)
  by_cases hm:markBindS x_Binds (kk+1+cntIntS x_Ids)=x_Binds
  rotate_left
  ·simp only[if_neg hm];rw[cond_yes (by decide)]
   exact Lf_no (fun hh=>hm (by have hh:=hR.2 hh;simp_all))
  simp only[if_pos hm]
  refine if_cond (fun h=>absurd (of_decide_eq_true h) (by omega)) (fun h=> ?_)
  simp only[hm] at hR
  clear hm
  exact⟨⟨by omega,by omega,by omega,by simpa using hR⟩,by simp only[Zm53_2];omega⟩
 ·have hc:a.length≤i:=by have hc:=of_decide_eq_false hc;omega
  rw[drop_end a hc] at hR
  exact Lf_yes (hR.1 rfl) (by rw[hkk,ct_done _ _ hc];rfl)
def Zh53:HH:=⟨_,Zo53⟩
def Zk6:Con UU where
 α:=DInst×Int
 md:=[.ro,.ro]
 of:=oC (oA .lInst) (o1 oI)
 ds:=fun x=>[dA .lInst x.1,dI x.2]
 pre:=fun(a,left)=>[0≤left]
 res:=fun(a,left)=>⟨[.one (.lit (.int .i64 (szr left (sizeInst a))))],true,[]⟩
 law:=lC (lA .lInst) (l1 lI)
def Za6:Zk6.α→Nat→Option (Ann UU):=fun(a,left)=>annL []
def Zu6:=us [Zh23,Zh24,Zh25,Zh26,Zh27]
theorem Zv6(a:DInst)(left:Int):goal EE Zu6 Go.Proofs.Tryz.f6 Zk6 Za6 (a,left)=(let x2:Int:=szr (szr left (sizeStore a.S)) (sizeMatchS a.Fired);
let x1:Int:=szr x2 (sizeTaskS a.Tasks);
let x0:Int:=szr x1 (sizeTimerS a.Timers);
(0:Int)≤left∧bif decide (szr left (sizeStore a.S)<(0:Int)) then Lf [DV.one (Cell.lit (Value.int IntKind.i64 (-1:Int)))] [DV.one (Cell.lit (Value.int IntKind.i64 (szr left (sizeInst a))))] else(0:Int)≤szr left (sizeStore a.S)∧bif decide (x2<(0:Int)) then Lf [DV.one (Cell.lit (Value.int IntKind.i64 (-1:Int)))] [DV.one (Cell.lit (Value.int IntKind.i64 (szr left (sizeInst a))))] else(0:Int)≤x2∧bif decide (x1<(0:Int)) then Lf [DV.one (Cell.lit (Value.int IntKind.i64 (-1:Int)))] [DV.one (Cell.lit (Value.int IntKind.i64 (szr left (sizeInst a))))] else(0:Int)≤x1∧bif decide (x0<(0:Int)) then Lf [DV.one (Cell.lit (Value.int IntKind.i64 (-1:Int)))] [DV.one (Cell.lit (Value.int IntKind.i64 (szr left (sizeInst a))))] else(0:Int)≤x0∧bif decide (szr x0 (sizeUndoS a.Undos)<(0:Int)) then Lf [DV.one (Cell.lit (Value.int IntKind.i64 (-1:Int)))] [DV.one (Cell.lit (Value.int IntKind.i64 (szr left (sizeInst a))))] else Lf [DV.one (Cell.lit (Value.int IntKind.i64 (szr x0 (sizeUndoS a.Undos))))] [DV.one (Cell.lit (Value.int IntKind.i64 (szr left (sizeInst a))))]):=by kernel_rfl
theorem Zo6:Holds EE (6,Zk6):=by
 refine holds_of EE_ok Go.Proofs.Tryz.func6 Zk6 (by kernel_rfl) Zu6 (us_ok _) Za6 (fun x hp hb=> ?_)
 obtain⟨a,left⟩:=x
 have hz0:=bd_lInst (x:=a) (hb _ m0)
 have hl_a_S_Items:=hz0.1
 have hl_a_Fired:=hz0.2.1
 have hl_a_Tasks:=hz0.2.2.1
 have hl_a_Timers:=hz0.2.2.2.1
 have hl_a_Undos:=hz0.2.2.2.2
 have hl_left:=bdI (n:=left) (hb _ m1)
 have hp0:0≤left:=hp _ m0
 clear hp hb
 rw[Zv6 a left]
 dsimp only
 refine⟨by omega,if_cond (fun h=>Lf_i (szr_bad' ?_)) (fun h=> ?_)⟩
 ·have h:=szr_neg h;simp only[sizeInst];omega
 obtain⟨e0,h0⟩:=szr_pos h
 rw[e0]
 refine⟨by omega,if_cond (fun h=>Lf_i (szr_bad' ?_)) (fun h=> ?_)⟩
 ·have h:=szr_neg h;simp only[sizeInst];omega
 obtain⟨e1,h1⟩:=szr_pos h
 rw[e1]
 refine⟨by omega,if_cond (fun h=>Lf_i (szr_bad' ?_)) (fun h=> ?_)⟩
 ·have h:=szr_neg h;simp only[sizeInst];omega
 obtain⟨e2,h2⟩:=szr_pos h
 rw[e2]
 refine⟨by omega,if_cond (fun h=>Lf_i (szr_bad' ?_)) (fun h=> ?_)⟩
 ·have h:=szr_neg h;simp only[sizeInst];omega
 obtain⟨e3,h3⟩:=szr_pos h
 rw[e3]
 refine⟨by omega,if_cond (fun h=>Lf_i (szr_bad' ?_)) (fun h=> ?_)⟩
 ·have h:=szr_neg h;simp only[sizeInst];omega
 obtain⟨e4,h4⟩:=szr_pos h
 rw[e4]
 exact Lf_i (by rw[←szr_ok' (by simp only[sizeInst];omega)];simp only[sizeInst];try omega)
def Zh6:HH:=⟨_,Zo6⟩
def Zk9:Con UU where
 α:=DInst
 md:=[.ro]
 of:=o1 (oA .lInst)
 ds:=fun x=>[dA .lInst x]
 pre:=fun a=>[sizeInst a≤4294967296]
 res:=fun a=>⟨[.agg [.sl .eItem a.S.Items,.lit (.int .i64 a.S.Next),.sl .eMatch a.Fired,.sl .eTask a.Tasks,.sl .eTimer a.Timers,.sl .eUndo a.Undos,.lit (.int .i64 a.State),.lit (.int .i64 a.Now)]],true,[]⟩
 law:=l1 (lA .lInst)
def Za9:Zk9.α→Nat→Option (Ann UU):=fun a=>annL []
def Zu9:=us [Zh32,Zh33,Zh34,Zh35,Zh36]
theorem Zv9(a:DInst):goal EE Zu9 Go.Proofs.Tryz.f9 Zk9 Za9 a=(sizeStore a.S≤(4294967296:Nat)∧sizeMatchS a.Fired≤(4294967296:Nat)∧sizeTaskS a.Tasks≤(4294967296:Nat)∧sizeTimerS a.Timers≤(4294967296:Nat)∧sizeUndoS a.Undos≤(4294967296:Nat)∧Lf [DV.agg [Cell.sl Cd.eItem a.S.Items,Cell.lit (Value.int IntKind.i64 a.S.Next),Cell.sl Cd.eMatch a.Fired,Cell.sl Cd.eTask a.Tasks,Cell.sl Cd.eTimer a.Timers,Cell.sl Cd.eUndo a.Undos,Cell.lit (Value.int IntKind.i64 a.State),Cell.lit (Value.int IntKind.i64 a.Now)]] [DV.agg [Cell.sl Cd.eItem a.S.Items,Cell.lit (Value.int IntKind.i64 a.S.Next),Cell.sl Cd.eMatch a.Fired,Cell.sl Cd.eTask a.Tasks,Cell.sl Cd.eTimer a.Timers,Cell.sl Cd.eUndo a.Undos,Cell.lit (Value.int IntKind.i64 a.State),Cell.lit (Value.int IntKind.i64 a.Now)]]):=by kernel_rfl
theorem Zo9:Holds EE (9,Zk9):=by
 refine holds_of EE_ok Go.Proofs.Tryz.func9 Zk9 (by kernel_rfl) Zu9 (us_ok _) Za9 (fun(a:DInst) hp hb=> ?_)
 have hz0:=bd_lInst (x:=a) (hb _ m0)
 have hl_a_S_Items:=hz0.1
 have hl_a_Fired:=hz0.2.1
 have hl_a_Tasks:=hz0.2.2.1
 have hl_a_Timers:=hz0.2.2.2.1
 have hl_a_Undos:=hz0.2.2.2.2
 have hp0:sizeInst a≤4294967296:=hp _ m0
 clear hp hb
 rw[Zv9 a]
 simp only[sizeInst] at hp0
 repeat' (first|exact Lf_rfl _|(refine And.intro (by omega) ?_))
def Zh9:HH:=⟨_,Zo9⟩
def Zk11:Con UU where
 α:=DInst×DInst
 md:=[.ro,.ro]
 of:=oC (oA .eInst) (o1 (oA .eInst))
 ds:=fun x=>[dA .eInst x.1,dA .eInst x.2]
 pre:=fun _=>[]
 res:=fun(a,b)=>⟨[.one (.lit (.bool (decide (a=b))))],true,[]⟩
 law:=lC (lA .eInst) (l1 (lA .eInst))
def Za11:Zk11.α→Nat→Option (Ann UU):=fun(a,b)=>annL []
def Zu11:=us [Zh40,Zh41,Zh42,Zh43,Zh44]
theorem Zv11(a:DInst)(b:DInst):goal EE Zu11 Go.Proofs.Tryz.f11 Zk11 Za11 (a,b)=(bif !decide (a.S=b.S) then Lb false (decide (a=b)) else bif !decide (a.Fired=b.Fired) then Lb false (decide (a=b)) else bif !decide (a.Tasks=b.Tasks) then Lb false (decide (a=b)) else bif !decide (a.Timers=b.Timers) then Lb false (decide (a=b)) else bif !decide (a.Undos=b.Undos) then Lb false (decide (a=b)) else bif a.State !=b.State then Lb false (decide (a=b)) else bif a.Now !=b.Now then Lb false (decide (a=b)) else Lb true (decide (a=b))):=by kernel_rfl
theorem Zo11:Holds EE (11,Zk11):=by
 refine holds_of EE_ok Go.Proofs.Tryz.func11 Zk11 (by kernel_rfl) Zu11 (us_ok _) Za11 (fun x hp hb=> ?_)
 obtain⟨a,b⟩:=x
 have hz0:=bd_eInst (x:=a) (hb _ m0)
 have hl_a_S_Items:=hz0.1
 have hl_a_Fired:=hz0.2.1
 have hl_a_Tasks:=hz0.2.2.1
 have hl_a_Timers:=hz0.2.2.2.1
 have hl_a_Undos:=hz0.2.2.2.2
 have hz1:=bd_eInst (x:=b) (hb _ m1)
 have hl_b_S_Items:=hz1.1
 have hl_b_Fired:=hz1.2.1
 have hl_b_Tasks:=hz1.2.2.1
 have hl_b_Timers:=hz1.2.2.2.1
 have hl_b_Undos:=hz1.2.2.2.2
 clear hp hb
 rw[Zv11 a b]
 obtain⟨aS,aFired,aTasks,aTimers,aUndos,aState,aNow⟩:=a
 obtain⟨bS,bFired,bTasks,bTimers,bUndos,bState,bNow⟩:=b
 repeat' (apply if_cond<;>intro _)
 all_goals (first|apply Lf_t|apply Lf_f)<;>simp_all
def Zh11:HH:=⟨_,Zo11⟩
def Zk14:Con UU where
 α:=DInst×Int
 md:=[.wr,.ro]
 of:=oC (oA .eInst) (o1 oI)
 ds:=fun x=>[dA .eInst x.1,dI x.2]
 pre:=fun(a,k)=>[0≤k,k+ctInst a≤4611686018427387904]
 res:=fun(a,k)=>⟨[.one (.lit (.int .i64 (k+ctInst a)))],true,[.agg [.sl .eItem (((mkInst a k)).S).Items,.lit (.int .i64 (((mkInst a k)).S).Next),.sl .eMatch ((mkInst a k)).Fired,.sl .eTask ((mkInst a k)).Tasks,.sl .eTimer ((mkInst a k)).Timers,.sl .eUndo ((mkInst a k)).Undos,.lit (.int .i64 ((mkInst a k)).State),.lit (.int .i64 ((mkInst a k)).Now)]]⟩
 law:=lC (lA .eInst) (l1 lI)
def Za14:Zk14.α→Nat→Option (Ann UU):=fun(a,k)=>annL []
def Zu14:=us [Zh47,Zh48,Zh49,Zh50,Zh51]
theorem Zv14(a:DInst)(k:Int):goal EE Zu14 Go.Proofs.Tryz.f14 Zk14 Za14 (a,k)=(let x3:Int:=k+(↑(ctStore a.S):Int);
let x2:Int:=x3+(↑(cntMatchS a.Fired):Int);
let x1:Int:=x2+(↑(cntTaskS a.Tasks):Int);
let x0:Int:=x1+(↑(cntTimerS a.Timers):Int);
(0:Int)≤k∧x3≤(4611686018427387904:Int)∧(0:Int)≤x3∧x2≤(4611686018427387904:Int)∧(0:Int)≤x2∧x1≤(4611686018427387904:Int)∧(0:Int)≤x1∧x0≤(4611686018427387904:Int)∧(0:Int)≤x0∧x0+(↑(cntUndoS a.Undos):Int)≤(4611686018427387904:Int)∧asD [DV.one (Cell.lit (Value.int IntKind.i64 (x0+(↑(cntUndoS a.Undos):Int))))]=asD [DV.one (Cell.lit (Value.int IntKind.i64 (k+(↑(ctInst a):Int))))]∧asD [DV.agg [Cell.sl Cd.eItem (mkStore a.S k).Items,Cell.lit (Value.int IntKind.i64 a.S.Next),Cell.sl Cd.eMatch (markMatchS a.Fired x3),Cell.sl Cd.eTask (markTaskS a.Tasks x2),Cell.sl Cd.eTimer (markTimerS a.Timers x1),Cell.sl Cd.eUndo (markUndoS a.Undos x0),Cell.lit (Value.int IntKind.i64 a.State),Cell.lit (Value.int IntKind.i64 a.Now)]]=asD [DV.agg [Cell.sl Cd.eItem (mkInst a k).S.Items,Cell.lit (Value.int IntKind.i64 (mkInst a k).S.Next),Cell.sl Cd.eMatch (mkInst a k).Fired,Cell.sl Cd.eTask (mkInst a k).Tasks,Cell.sl Cd.eTimer (mkInst a k).Timers,Cell.sl Cd.eUndo (mkInst a k).Undos,Cell.lit (Value.int IntKind.i64 (mkInst a k).State),Cell.lit (Value.int IntKind.i64 (mkInst a k).Now)]]):=by kernel_rfl
theorem Zo14:Holds EE (14,Zk14):=by
 refine holds_of EE_ok Go.Proofs.Tryz.func14 Zk14 (by kernel_rfl) Zu14 (us_ok _) Za14 (fun x hp hb=> ?_)
 obtain⟨a,k⟩:=x
 have hz0:=bd_eInst (x:=a) (hb _ m0)
 have hl_a_S_Items:=hz0.1
 have hl_a_Fired:=hz0.2.1
 have hl_a_Tasks:=hz0.2.2.1
 have hl_a_Timers:=hz0.2.2.2.1
 have hl_a_Undos:=hz0.2.2.2.2
 have hl_k:=bdI (n:=k) (hb _ m1)
 have hp0:0≤k:=hp _ m0
 have hp1:k+ctInst a≤4611686018427387904:=hp _ m1
 clear hp hb
 rw[Zv14 a k]
 dsimp only
 simp only[ctInst] at hp1
 repeat' (first|refine And.intro (by omega) ?_|fail)
 exact⟨by simp only[ctInst,Int.natCast_add,Int.add_assoc],rfl⟩
def Zh14:HH:=⟨_,Zo14⟩
def Zk15:Con UU where
 α:=DInst×Int
 md:=[.ro,.ro]
 of:=oC (oA .eInst) (o1 oI)
 ds:=fun x=>[dA .eInst x.1,dI x.2]
 pre:=fun(a,k)=>[0≤k,k+ctInst a≤4611686018427387904]
 res:=fun(a,k)=>⟨[.one (.lit (.int .i64 (if mkInst a k=a then k+ctInst a else-1)))],true,[]⟩
 law:=lC (lA .eInst) (l1 lI)
def Za15:Zk15.α→Nat→Option (Ann UU):=fun(a,k)=>annL []
def Zu15:=us [Zh52,Zh53,Zh54,Zh55,Zh56]
theorem Zv15(a:DInst)(k:Int):goal EE Zu15 Go.Proofs.Tryz.f15 Zk15 Za15 (a,k)=(let x5:Int:=(-1:Int);
let x4:Int:=if mkStore a.S k=a.S then k+(↑(ctStore a.S):Int) else x5;
let x3:Int:=if markMatchS a.Fired x4=a.Fired then x4+(↑(cntMatchS a.Fired):Int) else x5;
let x2:Int:=if markTaskS a.Tasks x3=a.Tasks then x3+(↑(cntTaskS a.Tasks):Int) else x5;
let x1:Int:=if markTimerS a.Timers x2=a.Timers then x2+(↑(cntTimerS a.Timers):Int) else x5;
let x0:Int:=if markUndoS a.Undos x1=a.Undos then x1+(↑(cntUndoS a.Undos):Int) else x5;
(0:Int)≤k∧k+(↑(ctStore a.S):Int)≤(4611686018427387904:Int)∧bif decide (x4<(0:Int)) then Lf [DV.one (Cell.lit (Value.int IntKind.i64 x5))] [DV.one (Cell.lit (Value.int IntKind.i64 (if mkInst a k=a then k+(↑(ctInst a):Int) else x5)))] else(0:Int)≤x4∧x4+(↑(cntMatchS a.Fired):Int)≤(4611686018427387904:Int)∧bif decide (x3<(0:Int)) then Lf [DV.one (Cell.lit (Value.int IntKind.i64 x5))] [DV.one (Cell.lit (Value.int IntKind.i64 (if mkInst a k=a then k+(↑(ctInst a):Int) else x5)))] else(0:Int)≤x3∧x3+(↑(cntTaskS a.Tasks):Int)≤(4611686018427387904:Int)∧bif decide (x2<(0:Int)) then Lf [DV.one (Cell.lit (Value.int IntKind.i64 x5))] [DV.one (Cell.lit (Value.int IntKind.i64 (if mkInst a k=a then k+(↑(ctInst a):Int) else x5)))] else(0:Int)≤x2∧x2+(↑(cntTimerS a.Timers):Int)≤(4611686018427387904:Int)∧bif decide (x1<(0:Int)) then Lf [DV.one (Cell.lit (Value.int IntKind.i64 x5))] [DV.one (Cell.lit (Value.int IntKind.i64 (if mkInst a k=a then k+(↑(ctInst a):Int) else x5)))] else(0:Int)≤x1∧x1+(↑(cntUndoS a.Undos):Int)≤(4611686018427387904:Int)∧bif decide (x0<(0:Int)) then Lf [DV.one (Cell.lit (Value.int IntKind.i64 x5))] [DV.one (Cell.lit (Value.int IntKind.i64 (if mkInst a k=a then k+(↑(ctInst a):Int) else x5)))] else Lf [DV.one (Cell.lit (Value.int IntKind.i64 x0))] [DV.one (Cell.lit (Value.int IntKind.i64 (if mkInst a k=a then k+(↑(ctInst a):Int) else x5)))]):=by kernel_rfl
theorem Zo15:Holds EE (15,Zk15):=by
 refine holds_of EE_ok Go.Proofs.Tryz.func15 Zk15 (by kernel_rfl) Zu15 (us_ok _) Za15 (fun x hp hb=> ?_)
 obtain⟨a,k⟩:=x
 have hz0:=bd_eInst (x:=a) (hb _ m0)
 have hl_a_S_Items:=hz0.1
 have hl_a_Fired:=hz0.2.1
 have hl_a_Tasks:=hz0.2.2.1
 have hl_a_Timers:=hz0.2.2.2.1
 have hl_a_Undos:=hz0.2.2.2.2
 have hl_k:=bdI (n:=k) (hb _ m1)
 have hp0:0≤k:=hp _ m0
 have hp1:k+ctInst a≤4611686018427387904:=hp _ m1
 clear hp hb
 rw[Zv15 a k]
 dsimp only
 simp only[ctInst] at hp1
 repeat' (first|refine And.intro (by omega) ?_|fail)
 by_cases hm1:mkStore a.S (k)=a.S
 rotate_left
 ·simp only[if_neg hm1];rw[cond_yes (by decide)]
  exact Lf_no (fun hh=>hm1 (congrArg (fun t:DInst=>t.S) hh))
 simp only[if_pos hm1]
 refine if_cond (fun h=>absurd (of_decide_eq_true h) (by omega)) (fun h=> ?_)
 repeat' (first|refine And.intro (by omega) ?_|fail)
 by_cases hm2:markMatchS a.Fired (k+ctStore a.S)=a.Fired
 rotate_left
 ·simp only[if_neg hm2];rw[cond_yes (by decide)]
  exact Lf_no (fun hh=>hm2 (congrArg (fun t:DInst=>t.Fired) hh))
 simp only[if_pos hm2]
 refine if_cond (fun h=>absurd (of_decide_eq_true h) (by omega)) (fun h=> ?_)
 repeat' (first|refine And.intro (by omega) ?_|fail)
 by_cases hm3:markTaskS a.Tasks (k+ctStore a.S+cntMatchS a.Fired)=a.Tasks
 rotate_left
 ·simp only[if_neg hm3];rw[cond_yes (by decide)]
  exact Lf_no (fun hh=>hm3 (congrArg (fun t:DInst=>t.Tasks) hh))
 simp only[if_pos hm3]
 refine if_cond (fun h=>absurd (of_decide_eq_true h) (by omega)) (fun h=> ?_)
 repeat' (first|refine And.intro (by omega) ?_|fail)
 by_cases hm4:markTimerS a.Timers (k+ctStore a.S+cntMatchS a.Fired+cntTaskS a.Tasks)=a.Timers
 rotate_left
 ·simp only[if_neg hm4];rw[cond_yes (by decide)]
  exact Lf_no (fun hh=>hm4 (congrArg (fun t:DInst=>t.Timers) hh))
 simp only[if_pos hm4]
 refine if_cond (fun h=>absurd (of_decide_eq_true h) (by omega)) (fun h=> ?_)
 repeat' (first|refine And.intro (by omega) ?_|fail)
 by_cases hm5:markUndoS a.Undos (k+ctStore a.S+cntMatchS a.Fired+cntTaskS a.Tasks+cntTimerS a.Timers)=a.Undos
 rotate_left
 ·simp only[if_neg hm5];rw[cond_yes (by decide)]
  exact Lf_no (fun hh=>hm5 (congrArg (fun t:DInst=>t.Undos) hh))
 simp only[if_pos hm5]
 refine if_cond (fun h=>absurd (of_decide_eq_true h) (by omega)) (fun h=> ?_)
 exact Lf_yes (by simp only[mkInst,hm1,hm2,hm3,hm4,hm5]) (by simp only[ctInst];try omega)
def Zh15:HH:=⟨_,Zo15⟩
theorem firedM_ids{d:DDef}{s:List DItem}{m:DMatch}(h1:hasR d m=true)(h2:m.Binds.length=0)(h3:m.Ids.length=posN (List.getD d.Rules m.Rule.toNat zRule).Pats):firedM d s m=m.Ids.all (hasId s):=by
 simp only[firedM,h1,decide_eq_true h2,decide_eq_true h3,zck]
theorem ctInst_items(x:DInst):sizeItemS x.S.Items≤sizeInst x:=by
 simp only[sizeInst,sizeStore];omega
theorem hasR_iff{d:DDef}{m:DMatch}(h:hasR d m=true):0≤m.Rule∧m.Rule<(d.Rules.length:Int):=by
 simpa[hasR] using h
theorem posN_size{d:DDef}{m:DMatch}(h:hasR d m=true):posN (List.getD d.Rules m.Rule.toNat zRule).Pats≤sizeDef d:=by
 obtain⟨h1,h2⟩:=hasR_iff h
 have hs:=sum_getD_le sizeRule d.Rules zRule h1 h2
 have hle:posN (List.getD d.Rules m.Rule.toNat zRule).Pats≤(List.getD d.Rules m.Rule.toNat zRule).Pats.length:=zdt _ _
 simp only[sizeRule,sizePatS] at hs
 simp only[sizeDef,sizeRuleS,sizeRule,sizePatS];omega
def Zk152:Con UU where
 α:=DDef×DMatch
 md:=[.ro,.ro]
 of:=oC (oA .eDef) (o1 (oA .eMatch))
 ds:=fun x=>[dA .eDef x.1,dA .eMatch x.2]
 pre:=fun _=>[]
 res:=fun(d,m)=>⟨[.one (.lit (.bool (hasR d m)))],true,[]⟩
 law:=lC (lA .eDef) (l1 (lA .eMatch))
def Za152:Zk152.α→Nat→Option (Ann UU):=fun(d,m)=>annL []
def Zu152:List (FuncId×Con UU):=[]
theorem Zv152(d:DDef)(m:DMatch):goal EE Zu152 Go.Proofs.Tryz.f152 Zk152 Za152 (d,m)=(bif decide (m.Rule≥(0:Int)) then Lb (decide (m.Rule<(d.Rules.length:Int))) (hasR d m) else Lb false (hasR d m)):=by kernel_rfl
theorem Zo152:Holds EE (152,Zk152):=by
 refine holds_of EE_ok Go.Proofs.Tryz.func152 Zk152 (by kernel_rfl) Zu152 all_nil Za152 (fun x hp hb=> ?_)
 obtain⟨d,m⟩:=x
 have hz0:=bd_eDef (x:=d) (hb _ m0)
 have hl_d_Name:=hz0.1
 have hl_d_Rules:=hz0.2
 have hz1:=bd_eMatch (x:=m) (hb _ m1)
 have hl_m_Ids:=hz1.1
 have hl_m_Binds:=hz1.2
 clear hp hb
 rw[Zv152 d m]
 simp only[hasR]
 refine if_dec (fun h=>Lf_b ?_) (fun h=>Lf_b ?_)
 ·rw[decide_eq_true (show 0≤m.Rule from h),zck]
 ·rw[decide_eq_false (show¬0≤m.Rule from h),zbi]
def Zh152:HH:=⟨_,Zo152⟩
def Zk174:Con UU where
 α:=DDef×DMatch
 md:=[.ro,.ro]
 of:=oC (oA .eDef) (o1 (oA .eMatch))
 ds:=fun x=>[dA .eDef x.1,dA .eMatch x.2]
 pre:=fun _=>[]
 res:=fun(d,m)=>⟨[.one (.lit (.bool (hasR d m)))],true,[]⟩
 law:=lC (lA .eDef) (l1 (lA .eMatch))
def Za174:Zk174.α→Nat→Option (Ann UU):=fun(d,m)=>annL []
def Zu174:List (FuncId×Con UU):=[]
theorem Zv174(d:DDef)(m:DMatch):goal EE Zu174 Go.Proofs.Tryz.f174 Zk174 Za174 (d,m)=(bif decide (m.Rule≥(0:Int)) then Lb (decide (m.Rule<(d.Rules.length:Int))) (hasR d m) else Lb false (hasR d m)):=by kernel_rfl
theorem Zo174:Holds EE (174,Zk174):=by
 refine holds_of EE_ok Go.Proofs.Tryz.func174 Zk174 (by kernel_rfl) Zu174 all_nil Za174 (fun x hp hb=> ?_)
 obtain⟨d,m⟩:=x
 have hz0:=bd_eDef (x:=d) (hb _ m0)
 have hl_d_Name:=hz0.1
 have hl_d_Rules:=hz0.2
 have hz1:=bd_eMatch (x:=m) (hb _ m1)
 have hl_m_Ids:=hz1.1
 have hl_m_Binds:=hz1.2
 clear hp hb
 rw[Zv174 d m]
 simp only[hasR]
 refine if_dec (fun h=>Lf_b ?_) (fun h=>Lf_b ?_)
 ·rw[decide_eq_true (show 0≤m.Rule from h),zck]
 ·rw[decide_eq_false (show¬0≤m.Rule from h),zbi]
def Zh174:HH:=⟨_,Zo174⟩
def Zk82:Con UU where
 α:=DDef×DInst
 md:=[.ro,.ro]
 of:=oC (oA .eDef) (o1 (oA .eInst))
 ds:=fun x=>[dA .eDef x.1,dA .eInst x.2]
 pre:=fun(d,x)=>[sizeDef d≤4294967295,sizeItemS x.S.Items≤4294967296]
 res:=fun(d,x)=>⟨[.one (.lit (.bool (firedOk d x)))],true,[]⟩
 law:=lC (lA .eDef) (l1 (lA .eInst))
def Zi82_2(d:DDef)(x:DInst):Int×(ByteArray×List DRule×Unit)×(List DItem×Int×List DMatch×List DTask×List DTimer×List DUndo×Int×Int×Unit)×Unit→Prop:=fun(i,b,g,_)=>b=(d.Name,d.Rules,())∧g=(x.S.Items,x.S.Next,x.Fired,x.Tasks,x.Timers,x.Undos,x.State,x.Now,())∧0≤i∧i≤x.Fired.length∧(x.Fired.drop i.toNat).all (firedM d x.S.Items)=x.Fired.all (firedM d x.S.Items)
def Zm82_2(d:DDef)(x:DInst):Int×(ByteArray×List DRule×Unit)×(List DItem×Int×List DMatch×List DTask×List DTimer×List DUndo×Int×Int×Unit)×Unit→Nat:=fun(i,b,g,_)=>x.Fired.length-i.toNat
def Zi82_8(d:DDef)(x:DInst):Int×Int×(ByteArray×List DRule×Unit)×(List DItem×Int×List DMatch×List DTask×List DTimer×List DUndo×Int×Int×Unit)×(Int×List Int×List DBind×Unit)×Unit→Int×Int×(ByteArray×List DRule×Unit)×(List DItem×Int×List DMatch×List DTask×List DTimer×List DUndo×Int×Int×Unit)×(Int×List Int×List DBind×Unit)×Unit→Prop:=fun(i0,k0,b0,g0,m0,_) (i,k,b,g,m,_)=>i=i0∧b=b0∧g=g0∧m=m0∧0≤k∧k≤(List.getD x.Fired i.toNat zMatch).Ids.length∧((List.getD x.Fired i.toNat zMatch).Ids.drop k.toNat).all (hasId x.S.Items)=(List.getD x.Fired i.toNat zMatch).Ids.all (hasId x.S.Items)
def Zm82_8(d:DDef)(x:DInst):Int×Int×(ByteArray×List DRule×Unit)×(List DItem×Int×List DMatch×List DTask×List DTimer×List DUndo×Int×Int×Unit)×(Int×List Int×List DBind×Unit)×Unit→Nat:=fun(i,k,b,g,m,_)=>(List.getD x.Fired i.toNat zMatch).Ids.length-k.toNat
def Za82:Zk82.α→Nat→Option (Ann UU):=fun(d,x)=>annL [(2,annOf [.slot 5 (5,1024) (.lit (.int .i64)),.box 2 (2,1024) [.lit .str,.shr .eRule],.box 3 (3,1024) [.shr .eItem,.lit (.int .i64),.shr .eMatch,.shr .eTask,.shr .eTimer,.shr .eUndo,.lit (.int .i64),.lit (.int .i64)]] (fun _=>Zi82_2 d x) (Zm82_2 d x)),(8,annOf [.slot 5 (5,1024) (.lit (.int .i64)),.slot 7 (7,1024) (.lit (.int .i64)),.box 2 (2,1024) [.lit .str,.shr .eRule],.box 3 (3,1024) [.shr .eItem,.lit (.int .i64),.shr .eMatch,.shr .eTask,.shr .eTimer,.shr .eUndo,.lit (.int .i64),.lit (.int .i64)],.box 6 (6,1024) [.lit (.int .i64),.shr .int,.shr .eBind]] (Zi82_8 d x) (Zm82_8 d x))]
def Zu82:=us [Zh152,Zh153,Zh154]
theorem Zv82(d:DDef)(x:DInst):goal EE Zu82 Go.Proofs.Tryz.f82 Zk82 Za82 (d,x)=(Zi82_2 d x ((0:Int),(d.Name,d.Rules,()),(x.S.Items,x.S.Next,x.Fired,x.Tasks,x.Timers,x.Undos,x.State,x.Now,()),())∧
 ∀(y:Int×(ByteArray×List DRule×PUnit)×(List DItem×Int×List DMatch×List DTask×List DTimer×List DUndo×Int×Int×PUnit)×PUnit),
  let x0:DMatch:=List.getD y.2.2.1.2.2.1 (Int.toNat y.1) zMatch;
  let x2:Nat:=List.length y.2.2.1.2.2.1;
  let x1:Int:=(↑x2:Int);
  Zi82_2 d x y→
   bif decide (y.1<x1) then
    (0:Int)≤y.1∧
     Int.toNat y.1<x2∧
      bif !hasR {Name:=y.2.1.1,Rules:=y.2.1.2.1:DDef} x0 then Lf [DV.one (Cell.lit (Value.bool false))] [DV.one (Cell.lit (Value.bool (firedOk d x)))]
      else
       bif (↑(List.length x0.Binds):Int) !=(0:Int) then Lf [DV.one (Cell.lit (Value.bool false))] [DV.one (Cell.lit (Value.bool (firedOk d x)))]
       else
        (0:Int)≤x0.Rule∧
         Int.toNat x0.Rule<List.length y.2.1.2.1∧
          bif (↑(List.length x0.Ids):Int) !=(↑(posN (List.getD y.2.1.2.1 (Int.toNat x0.Rule) zRule).Pats):Int) then Lf [DV.one (Cell.lit (Value.bool false))] [DV.one (Cell.lit (Value.bool (firedOk d x)))]
          else
           Zi82_8 d x (y.1,(0:Int),(y.2.1.1,y.2.1.2.1,PUnit.unit),(y.2.2.1.1,y.2.2.1.2.1,y.2.2.1.2.2.1,y.2.2.1.2.2.2.1,y.2.2.1.2.2.2.2.1,y.2.2.1.2.2.2.2.2.1,y.2.2.1.2.2.2.2.2.2.1,y.2.2.1.2.2.2.2.2.2.2.1,PUnit.unit),(x0.Rule,x0.Ids,x0.Binds,PUnit.unit),PUnit.unit) (y.1,(0:Int),(y.2.1.1,y.2.1.2.1,PUnit.unit),(y.2.2.1.1,y.2.2.1.2.1,y.2.2.1.2.2.1,y.2.2.1.2.2.2.1,y.2.2.1.2.2.2.2.1,y.2.2.1.2.2.2.2.2.1,y.2.2.1.2.2.2.2.2.2.1,y.2.2.1.2.2.2.2.2.2.2.1,PUnit.unit),(x0.Rule,x0.Ids,x0.Binds,PUnit.unit),PUnit.unit)∧
            ∀(y_1:Int×Int×(ByteArray×List DRule×PUnit)×(List DItem×Int×List DMatch×List DTask×List DTimer×List DUndo×Int×Int×PUnit)×(Int×List Int×List DBind×PUnit)×PUnit),
             let x4:Nat:=List.length y_1.2.2.2.2.1.2.1;
             let x5:Nat:=Int.toNat y_1.2.1;
             let x3:Int:=(↑x4:Int);
             Zi82_8 d x (y.1,(0:Int),(y.2.1.1,y.2.1.2.1,PUnit.unit),(y.2.2.1.1,y.2.2.1.2.1,y.2.2.1.2.2.1,y.2.2.1.2.2.2.1,y.2.2.1.2.2.2.2.1,y.2.2.1.2.2.2.2.2.1,y.2.2.1.2.2.2.2.2.2.1,y.2.2.1.2.2.2.2.2.2.2.1,PUnit.unit),(x0.Rule,x0.Ids,x0.Binds,PUnit.unit),PUnit.unit) y_1→bif decide (y_1.2.1<x3) then(0:Int)≤y_1.2.1∧x5<x4∧sizeItemS y_1.2.2.2.1.1≤(4294967296:Nat)∧bif !hasId y_1.2.2.2.1.1 (List.getD y_1.2.2.2.2.1.2.1 x5 (0:Int)) then Lf [DV.one (Cell.lit (Value.bool false))] [DV.one (Cell.lit (Value.bool (firedOk d x)))] else Zi82_8 d x (y.1,(0:Int),(y.2.1.1,y.2.1.2.1,PUnit.unit),(y.2.2.1.1,y.2.2.1.2.1,y.2.2.1.2.2.1,y.2.2.1.2.2.2.1,y.2.2.1.2.2.2.2.1,y.2.2.1.2.2.2.2.2.1,y.2.2.1.2.2.2.2.2.2.1,y.2.2.1.2.2.2.2.2.2.2.1,PUnit.unit),(x0.Rule,x0.Ids,x0.Binds,PUnit.unit),PUnit.unit) (y_1.1,IntKind.wrap IntKind.i64 (y_1.2.1+(1:Int)),(y_1.2.2.1.1,y_1.2.2.1.2.1,PUnit.unit),(y_1.2.2.2.1.1,y_1.2.2.2.1.2.1,y_1.2.2.2.1.2.2.1,y_1.2.2.2.1.2.2.2.1,y_1.2.2.2.1.2.2.2.2.1,y_1.2.2.2.1.2.2.2.2.2.1,y_1.2.2.2.1.2.2.2.2.2.2.1,y_1.2.2.2.1.2.2.2.2.2.2.2.1,PUnit.unit),(y_1.2.2.2.2.1.1,y_1.2.2.2.2.1.2.1,y_1.2.2.2.2.1.2.2.1,PUnit.unit),PUnit.unit)∧Zm82_8 d x (y_1.1,IntKind.wrap IntKind.i64 (y_1.2.1+(1:Int)),(y_1.2.2.1.1,y_1.2.2.1.2.1,PUnit.unit),(y_1.2.2.2.1.1,y_1.2.2.2.1.2.1,y_1.2.2.2.1.2.2.1,y_1.2.2.2.1.2.2.2.1,y_1.2.2.2.1.2.2.2.2.1,y_1.2.2.2.1.2.2.2.2.2.1,y_1.2.2.2.1.2.2.2.2.2.2.1,y_1.2.2.2.1.2.2.2.2.2.2.2.1,PUnit.unit),(y_1.2.2.2.2.1.1,y_1.2.2.2.2.1.2.1,y_1.2.2.2.2.1.2.2.1,PUnit.unit),PUnit.unit)<Zm82_8 d x y_1 else Zi82_2 d x (IntKind.wrap IntKind.i64 (y_1.1+(1:Int)),(y_1.2.2.1.1,y_1.2.2.1.2.1,PUnit.unit),(y_1.2.2.2.1.1,y_1.2.2.2.1.2.1,y_1.2.2.2.1.2.2.1,y_1.2.2.2.1.2.2.2.1,y_1.2.2.2.1.2.2.2.2.1,y_1.2.2.2.1.2.2.2.2.2.1,y_1.2.2.2.1.2.2.2.2.2.2.1,y_1.2.2.2.1.2.2.2.2.2.2.2.1,PUnit.unit),PUnit.unit)∧Zm82_2 d x (IntKind.wrap IntKind.i64 (y_1.1+(1:Int)),(y_1.2.2.1.1,y_1.2.2.1.2.1,PUnit.unit),(y_1.2.2.2.1.1,y_1.2.2.2.1.2.1,y_1.2.2.2.1.2.2.1,y_1.2.2.2.1.2.2.2.1,y_1.2.2.2.1.2.2.2.2.1,y_1.2.2.2.1.2.2.2.2.2.1,y_1.2.2.2.1.2.2.2.2.2.2.1,y_1.2.2.2.1.2.2.2.2.2.2.2.1,PUnit.unit),PUnit.unit)<Zm82_2 d x y
   else Lf [DV.one (Cell.lit (Value.bool (decide (x1≤(1000:Int)))))] [DV.one (Cell.lit (Value.bool (firedOk d x)))]):=by kernel_rfl
theorem Zo82:Holds EE (82,Zk82):=by
 refine holds_of EE_ok Go.Proofs.Tryz.func82 Zk82 (by kernel_rfl) Zu82 (us_ok _) Za82 (fun x hp hb=> ?_)
 obtain⟨d,x⟩:=x
 have hz0:=bd_eDef (x:=d) (hb _ m0)
 have hl_d_Name:=hz0.1
 have hl_d_Rules:=hz0.2
 have hz1:=bd_eInst (x:=x) (hb _ m1)
 have hl_x_S_Items:=hz1.1
 have hl_x_Fired:=hz1.2.1
 have hl_x_Tasks:=hz1.2.2.1
 have hl_x_Timers:=hz1.2.2.2.1
 have hl_x_Undos:=hz1.2.2.2.2
 have hp0:sizeDef d≤4294967295:=hp _ m0
 have hp1:sizeItemS x.S.Items≤4294967296:=hp _ m1
 clear hp hb
 rw[Zv82 d x]
 dsimp only
 refine⟨⟨rfl,rfl,by omega,by omega,rfl⟩,?_⟩
 rintro⟨i,⟨b1,b2,⟨⟩⟩,⟨g1,g2,g3,g4,g5,g6,g7,g8,⟨⟩⟩,⟨⟩⟩ ⟨hb,hg,h1,h2,hR⟩
 cases hb
 cases hg
 simp only
 refine if_dec (fun hc=> ?_) (fun hc=> ?_)
 ·rw[all_step _ _ zMatch h1 hc] at hR
  have hN:firedM d x.S.Items (List.getD x.Fired i.toNat zMatch)=false→firedOk d x=false:=fun h=>by simp only[firedOk,←hR,h,zbi,zbs]
  refine⟨by omega,by omega,if_not (fun a=>Lf_ff (hN ?_)) (fun a=>if_not (fun b=>Lf_ff (hN ?_)) (fun b=> ?_))⟩
  ·have a:hasR d (List.getD x.Fired i.toNat zMatch)=false:=a
   simp only[firedM,a,zbi]
  ·have b:¬(List.getD x.Fired i.toNat zMatch).Binds.length=0:=by simpa using b
   simp only[firedM,decide_eq_false b,zbi,zbs]
  have a:hasR d (List.getD x.Fired i.toNat zMatch)=true:=a
  have b:(List.getD x.Fired i.toNat zMatch).Binds.length=0:=by simpa using b
  obtain⟨r1,r2⟩:=hasR_iff a
  have hz:=posN_size a
  refine⟨r1,by omega,if_not (fun c=>Lf_ff (hN ?_)) (fun c=>⟨⟨rfl,rfl,rfl,rfl,by omega,by omega,rfl⟩,?_⟩)⟩
  ·have c:¬(List.getD x.Fired i.toNat zMatch).Ids.length=posN (List.getD d.Rules (List.getD x.Fired i.toNat zMatch).Rule.toNat zRule).Pats:=fun e=>by rw[e] at c;simp at c
   simp only[firedM,decide_eq_false c,zbi,zbs]
  have c:(List.getD x.Fired i.toNat zMatch).Ids.length=posN (List.getD d.Rules (List.getD x.Fired i.toNat zMatch).Rule.toNat zRule).Pats:=by
   have c:=eq_of_beq c
   omega
  have hM:=firedM_ids (s:=x.S.Items) a b c
  rintro⟨i',k,⟨b1,b2,⟨⟩⟩,⟨g1,g2,g3,g4,g5,g6,g7,g8,⟨⟩⟩,⟨m1,m2,m3,⟨⟩⟩,⟨⟩⟩ ⟨rfl,hb,hg,hm,k1,k2,kR⟩
  cases hb
  cases hg
  cases hm
  simp only
  refine if_dec (fun hk=> ?_) (fun hk=> ?_)
  ·rw[all_step _ _ 0 k1 hk] at kR
   rw[wrap_i64 (n:=k+1) (by omega) (by omega)]
   exact⟨by omega,by omega,hp1,if_not (fun e=>Lf_ff (hN (by rw[hM,←kR,e,zbi]))) (fun e=>⟨⟨rfl,rfl,rfl,rfl,by omega,by omega,by rw[←kR,e,zck]⟩,by simp only[Zm82_8];omega⟩)⟩
  ·rw[drop_end _ (by omega)] at kR
   rw[wrap_i64 (n:=i'+1) (by omega) (by omega)]
   exact⟨⟨rfl,rfl,by omega,by omega,by rw[←hR,hM,←kR];rfl⟩,by simp only[Zm82_2];omega⟩
 ·rw[drop_end _ (by omega)] at hR
  refine Lf_b ?_
  simp only[firedOk,←hR,zes,zdb];exact decide_eq_decide.2 (by omega)
def Zh82:HH:=⟨_,Zo82⟩
def Zk106:Con UU where
 α:=DDef×DInst
 md:=[.ro,.ro]
 of:=oC (oA .eDef) (o1 (oA .eInst))
 ds:=fun x=>[dA .eDef x.1,dA .eInst x.2]
 pre:=fun(d,x)=>[sizeDef d≤4294967295,sizeItemS x.S.Items≤4294967296]
 res:=fun(d,x)=>⟨[.one (.lit (.bool (firedOk d x)))],true,[]⟩
 law:=lC (lA .eDef) (l1 (lA .eInst))
def Zi106_4(d:DDef)(x:DInst):Int×(ByteArray×List DRule×Unit)×(List DItem×Int×List DMatch×List DTask×List DTimer×List DUndo×Int×Int×Unit)×Unit→Prop:=fun(i,b,g,_)=>b=(d.Name,d.Rules,())∧g=(x.S.Items,x.S.Next,x.Fired,x.Tasks,x.Timers,x.Undos,x.State,x.Now,())∧x.Fired.length≤1000∧0≤i∧i≤x.Fired.length∧(x.Fired.drop i.toNat).all (firedM d x.S.Items)=x.Fired.all (firedM d x.S.Items)
def Zm106_4(d:DDef)(x:DInst):Int×(ByteArray×List DRule×Unit)×(List DItem×Int×List DMatch×List DTask×List DTimer×List DUndo×Int×Int×Unit)×Unit→Nat:=fun(i,b,g,_)=>x.Fired.length-i.toNat
def Zi106_9(d:DDef)(x:DInst):Int×Int×(ByteArray×List DRule×Unit)×(List DItem×Int×List DMatch×List DTask×List DTimer×List DUndo×Int×Int×Unit)×Unit→Int×Int×(ByteArray×List DRule×Unit)×(List DItem×Int×List DMatch×List DTask×List DTimer×List DUndo×Int×Int×Unit)×Unit→Prop:=fun(i0,k0,b0,g0,_) (i,k,b,g,_)=>i=i0∧b=b0∧g=g0∧0≤k∧k≤(List.getD x.Fired i.toNat zMatch).Ids.length∧((List.getD x.Fired i.toNat zMatch).Ids.drop k.toNat).all (hasId x.S.Items)=(List.getD x.Fired i.toNat zMatch).Ids.all (hasId x.S.Items)
def Zm106_9(d:DDef)(x:DInst):Int×Int×(ByteArray×List DRule×Unit)×(List DItem×Int×List DMatch×List DTask×List DTimer×List DUndo×Int×Int×Unit)×Unit→Nat:=fun(i,k,b,g,_)=>(List.getD x.Fired i.toNat zMatch).Ids.length-k.toNat
def Za106:Zk106.α→Nat→Option (Ann UU):=fun(d,x)=>annL [(4,annOf [.slot 18 (18,1024) (.lit (.int .i64)),.box 2 (2,1024) [.lit .str,.shr .eRule],.box 3 (3,1024) [.shr .eItem,.lit (.int .i64),.shr .eMatch,.shr .eTask,.shr .eTimer,.shr .eUndo,.lit (.int .i64),.lit (.int .i64)]] (fun _=>Zi106_4 d x) (Zm106_4 d x)),(9,annOf [.slot 18 (18,1024) (.lit (.int .i64)),.slot 48 (48,1024) (.lit (.int .i64)),.box 2 (2,1024) [.lit .str,.shr .eRule],.box 3 (3,1024) [.shr .eItem,.lit (.int .i64),.shr .eMatch,.shr .eTask,.shr .eTimer,.shr .eUndo,.lit (.int .i64),.lit (.int .i64)]] (Zi106_9 d x) (Zm106_9 d x))]
def Zu106:=us [Zh174,Zh175,Zh176]
theorem Zv106(d:DDef)(x:DInst):goal EE Zu106 Go.Proofs.Tryz.f106 Zk106 Za106 (d,x)=(let x0:Int:=(x.Fired.length:Int);
bif decide (x0>(1000:Int)) then Lf [DV.one (Cell.lit (Value.bool false))] [DV.one (Cell.lit (Value.bool (firedOk d x)))]
else
 Zi106_4 d x ((0:Int),(d.Name,d.Rules,PUnit.unit),(x.S.Items,x.S.Next,x.Fired,x.Tasks,x.Timers,x.Undos,x.State,x.Now,PUnit.unit),PUnit.unit)∧
  ∀(y:Int×(ByteArray×List DRule×PUnit)×(List DItem×Int×List DMatch×List DTask×List DTimer×List DUndo×Int×Int×PUnit)×PUnit),
   let x2:DMatch:=List.getD x.Fired (Int.toNat y.1) zMatch;
   let x1:Int:=(↑(List.length x2.Ids):Int);
   Zi106_4 d x y→
    bif decide (y.1<x0) then
     (0:Int)≤y.1∧
      Int.toNat y.1<List.length x.Fired∧
       bif !hasR {Name:=y.2.1.1,Rules:=y.2.1.2.1:DDef} x2 then Lf [DV.one (Cell.lit (Value.bool false))] [DV.one (Cell.lit (Value.bool (firedOk d x)))]
       else
        bif (↑(List.length x2.Binds):Int) !=(0:Int) then Lf [DV.one (Cell.lit (Value.bool false))] [DV.one (Cell.lit (Value.bool (firedOk d x)))]
        else
         (0:Int)≤x2.Rule∧
          Int.toNat x2.Rule<List.length y.2.1.2.1∧
           bif x1 !=(↑(posN (List.getD y.2.1.2.1 (Int.toNat x2.Rule) zRule).Pats):Int) then Lf [DV.one (Cell.lit (Value.bool false))] [DV.one (Cell.lit (Value.bool (firedOk d x)))]
           else
            Zi106_9 d x (y.1,(0:Int),(y.2.1.1,y.2.1.2.1,PUnit.unit),(y.2.2.1.1,y.2.2.1.2.1,y.2.2.1.2.2.1,y.2.2.1.2.2.2.1,y.2.2.1.2.2.2.2.1,y.2.2.1.2.2.2.2.2.1,y.2.2.1.2.2.2.2.2.2.1,y.2.2.1.2.2.2.2.2.2.2.1,PUnit.unit),PUnit.unit) (y.1,(0:Int),(y.2.1.1,y.2.1.2.1,PUnit.unit),(y.2.2.1.1,y.2.2.1.2.1,y.2.2.1.2.2.1,y.2.2.1.2.2.2.1,y.2.2.1.2.2.2.2.1,y.2.2.1.2.2.2.2.2.1,y.2.2.1.2.2.2.2.2.2.1,y.2.2.1.2.2.2.2.2.2.2.1,PUnit.unit),PUnit.unit)∧
             ∀(y_1:Int×Int×(ByteArray×List DRule×PUnit)×(List DItem×Int×List DMatch×List DTask×List DTimer×List DUndo×Int×Int×PUnit)×PUnit),
              let x3:Nat:=Int.toNat y_1.2.1;
              Zi106_9 d x (y.1,(0:Int),(y.2.1.1,y.2.1.2.1,PUnit.unit),(y.2.2.1.1,y.2.2.1.2.1,y.2.2.1.2.2.1,y.2.2.1.2.2.2.1,y.2.2.1.2.2.2.2.1,y.2.2.1.2.2.2.2.2.1,y.2.2.1.2.2.2.2.2.2.1,y.2.2.1.2.2.2.2.2.2.2.1,PUnit.unit),PUnit.unit) y_1→bif decide (y_1.2.1<x1) then(0:Int)≤y_1.2.1∧x3<List.length x2.Ids∧sizeItemS y_1.2.2.2.1.1≤(4294967296:Nat)∧bif !hasId y_1.2.2.2.1.1 (List.getD x2.Ids x3 (0:Int)) then Lf [DV.one (Cell.lit (Value.bool false))] [DV.one (Cell.lit (Value.bool (firedOk d x)))] else Zi106_9 d x (y.1,(0:Int),(y.2.1.1,y.2.1.2.1,PUnit.unit),(y.2.2.1.1,y.2.2.1.2.1,y.2.2.1.2.2.1,y.2.2.1.2.2.2.1,y.2.2.1.2.2.2.2.1,y.2.2.1.2.2.2.2.2.1,y.2.2.1.2.2.2.2.2.2.1,y.2.2.1.2.2.2.2.2.2.2.1,PUnit.unit),PUnit.unit) (y_1.1,IntKind.wrap IntKind.i64 (y_1.2.1+(1:Int)),(y_1.2.2.1.1,y_1.2.2.1.2.1,PUnit.unit),(y_1.2.2.2.1.1,y_1.2.2.2.1.2.1,y_1.2.2.2.1.2.2.1,y_1.2.2.2.1.2.2.2.1,y_1.2.2.2.1.2.2.2.2.1,y_1.2.2.2.1.2.2.2.2.2.1,y_1.2.2.2.1.2.2.2.2.2.2.1,y_1.2.2.2.1.2.2.2.2.2.2.2.1,PUnit.unit),PUnit.unit)∧Zm106_9 d x (y_1.1,IntKind.wrap IntKind.i64 (y_1.2.1+(1:Int)),(y_1.2.2.1.1,y_1.2.2.1.2.1,PUnit.unit),(y_1.2.2.2.1.1,y_1.2.2.2.1.2.1,y_1.2.2.2.1.2.2.1,y_1.2.2.2.1.2.2.2.1,y_1.2.2.2.1.2.2.2.2.1,y_1.2.2.2.1.2.2.2.2.2.1,y_1.2.2.2.1.2.2.2.2.2.2.1,y_1.2.2.2.1.2.2.2.2.2.2.2.1,PUnit.unit),PUnit.unit)<Zm106_9 d x y_1 else Zi106_4 d x (IntKind.wrap IntKind.i64 (y_1.1+(1:Int)),(y_1.2.2.1.1,y_1.2.2.1.2.1,PUnit.unit),(y_1.2.2.2.1.1,y_1.2.2.2.1.2.1,y_1.2.2.2.1.2.2.1,y_1.2.2.2.1.2.2.2.1,y_1.2.2.2.1.2.2.2.2.1,y_1.2.2.2.1.2.2.2.2.2.1,y_1.2.2.2.1.2.2.2.2.2.2.1,y_1.2.2.2.1.2.2.2.2.2.2.2.1,PUnit.unit),PUnit.unit)∧Zm106_4 d x (IntKind.wrap IntKind.i64 (y_1.1+(1:Int)),(y_1.2.2.1.1,y_1.2.2.1.2.1,PUnit.unit),(y_1.2.2.2.1.1,y_1.2.2.2.1.2.1,y_1.2.2.2.1.2.2.1,y_1.2.2.2.1.2.2.2.1,y_1.2.2.2.1.2.2.2.2.1,y_1.2.2.2.1.2.2.2.2.2.1,y_1.2.2.2.1.2.2.2.2.2.2.1,y_1.2.2.2.1.2.2.2.2.2.2.2.1,PUnit.unit),PUnit.unit)<Zm106_4 d x y
    else Lf [DV.one (Cell.lit (Value.bool true))] [DV.one (Cell.lit (Value.bool (firedOk d x)))]):=by kernel_rfl
theorem Zo106:Holds EE (106,Zk106):=by
 refine holds_of EE_ok Go.Proofs.Tryz.func106 Zk106 (by kernel_rfl) Zu106 (us_ok _) Za106 (fun x hp hb=> ?_)
 obtain⟨d,x⟩:=x
 have hz0:=bd_eDef (x:=d) (hb _ m0)
 have hl_d_Name:=hz0.1
 have hl_d_Rules:=hz0.2
 have hz1:=bd_eInst (x:=x) (hb _ m1)
 have hl_x_S_Items:=hz1.1
 have hl_x_Fired:=hz1.2.1
 have hl_x_Tasks:=hz1.2.2.1
 have hl_x_Timers:=hz1.2.2.2.1
 have hl_x_Undos:=hz1.2.2.2.2
 have hp0:sizeDef d≤4294967295:=hp _ m0
 have hp1:sizeItemS x.S.Items≤4294967296:=hp _ m1
 clear hp hb
 rw[Zv106 d x]
 dsimp only
 refine if_dec (fun a=>Lf_ff ?_) (fun a=>⟨⟨rfl,rfl,by omega,by omega,by omega,rfl⟩,?_⟩)
 ·simp only[firedOk];rw[decide_eq_false (p:=x.Fired.length≤1000) (by omega),zbi]
 rintro⟨i,⟨b1,b2,⟨⟩⟩,⟨g1,g2,g3,g4,g5,g6,g7,g8,⟨⟩⟩,⟨⟩⟩ ⟨hb,hg,a0,h1,h2,hR⟩
 cases hb
 cases hg
 simp only
 refine if_dec (fun hc=> ?_) (fun hc=> ?_)
 ·rw[all_step _ _ zMatch h1 hc] at hR
  have hN:firedM d x.S.Items (List.getD x.Fired i.toNat zMatch)=false→firedOk d x=false:=fun h=>by simp only[firedOk,←hR,h,zbi,zbs]
  refine⟨by omega,by omega,if_not (fun a=>Lf_ff (hN ?_)) (fun a=>if_not (fun b=>Lf_ff (hN ?_)) (fun b=> ?_))⟩
  ·have a:hasR d (List.getD x.Fired i.toNat zMatch)=false:=a
   simp only[firedM,a,zbi]
  ·have b:¬(List.getD x.Fired i.toNat zMatch).Binds.length=0:=by simpa using b
   simp only[firedM,decide_eq_false b,zbi,zbs]
  have a:hasR d (List.getD x.Fired i.toNat zMatch)=true:=a
  have b:(List.getD x.Fired i.toNat zMatch).Binds.length=0:=by simpa using b
  obtain⟨r1,r2⟩:=hasR_iff a
  have hz:=posN_size a
  refine⟨r1,by omega,if_not (fun c=>Lf_ff (hN ?_)) (fun c=>⟨⟨rfl,rfl,rfl,by omega,by omega,rfl⟩,?_⟩)⟩
  ·have c:¬(List.getD x.Fired i.toNat zMatch).Ids.length=posN (List.getD d.Rules (List.getD x.Fired i.toNat zMatch).Rule.toNat zRule).Pats:=fun e=>by rw[e] at c;simp at c
   simp only[firedM,decide_eq_false c,zbi,zbs]
  have c:(List.getD x.Fired i.toNat zMatch).Ids.length=posN (List.getD d.Rules (List.getD x.Fired i.toNat zMatch).Rule.toNat zRule).Pats:=by
   have c:=eq_of_beq c
   omega
  have hM:=firedM_ids (s:=x.S.Items) a b c
  rintro⟨i',k,⟨b1,b2,⟨⟩⟩,⟨g1,g2,g3,g4,g5,g6,g7,g8,⟨⟩⟩,⟨⟩⟩ ⟨rfl,hb,hg,k1,k2,kR⟩
  cases hb
  cases hg
  simp only
  refine if_dec (fun hk=> ?_) (fun hk=> ?_)
  ·rw[all_step _ _ 0 k1 hk] at kR
   rw[wrap_i64 (n:=k+1) (by omega) (by omega)]
   exact⟨by omega,by omega,hp1,if_not (fun e=>Lf_ff (hN (by rw[hM,←kR,e,zbi]))) (fun e=>⟨⟨rfl,rfl,rfl,by omega,by omega,by rw[←kR,e,zck]⟩,by simp only[Zm106_9];omega⟩)⟩
  ·rw[drop_end _ (by omega)] at kR
   rw[wrap_i64 (n:=i'+1) (by omega) (by omega)]
   exact⟨⟨rfl,rfl,a0,by omega,by omega,by rw[←hR,hM,←kR];rfl⟩,by simp only[Zm106_4];omega⟩
 ·rw[drop_end _ (by omega)] at hR
  refine Lf_tt ?_
  simp only[firedOk,←hR,decide_eq_true a0];rfl
def Zh106:HH:=⟨_,Zo106⟩
def Zk108:Con UU where
 α:=(List DTask)×(List (DA UU)→Option Value)
 md:=[.ro,.ro]
 of:=oC (oL .eTask) (o1 oF)
 ds:=fun x=>[dL .eTask x.1,dF x.2]
 pre:=fun(l,p)=>[∀j:Nat,j<l.length→p [daTask (List.getD l j zTask)]=some (.bool (boolOf (p [daTask (List.getD l j zTask)])))]
 res:=fun(l,p)=>⟨[.one (.lit (.bool (anyI l.length (fun j=>boolOf (p [daTask (List.getD l j zTask)])))))],true,[]⟩
 law:=lC (lL .eTask) (l1 lF)
def Za108:Zk108.α→Nat→Option (Ann UU):=fun(l,p)=>annL []
def Zu108:=us [Zh177]
theorem Zv108(l:(List DTask))(p:(List (DA UU)→Option Value)):goal EE Zu108 Go.Proofs.Tryz.f108 Zk108 Za108 (l,p)=(let x0:Int:=idxI (l.length) fun(j:Nat)=>boolOf (p [daTask (List.getD l j zTask)]);
(∀(j:Nat),j<List.length l→p [daTask (List.getD l j zTask)]=some (Value.bool (boolOf (p [daTask (List.getD l j zTask)]))))∧Lf [DV.one (Cell.lit (Value.bool (decide (x0≥(0:Int)))))] [DV.one (Cell.lit (Value.bool (anyI (List.length l) fun(j:Nat)=>boolOf (p [daTask (List.getD l j zTask)]))))]):=by kernel_rfl
theorem Zo108:Holds EE (108,Zk108):=by
 refine holds_of EE_ok Go.Proofs.Tryz.func108 Zk108 (by kernel_rfl) Zu108 (us_ok _) Za108 (fun x hp hb=> ?_)
 obtain⟨l,p⟩:=x
 have hl_l:l.length≤9223372036854775807:=bdL (hb _ m0)
 have hp0:∀j:Nat,j<l.length→p [daTask (List.getD l j zTask)]=some (.bool (boolOf (p [daTask (List.getD l j zTask)]))):=hp _ m0
 clear hp hb
 rw[Zv108 l p]
 dsimp only
 exact⟨hp0,Lf_b (by rw[←idxI_ge])⟩
def Zh108:HH:=⟨_,Zo108⟩
def Zk84:Con UU where
 α:=(List DTask)
 md:=[.ro]
 of:=o1 (oL .eTask)
 ds:=fun x=>[dL .eTask x]
 pre:=fun _=>[]
 res:=fun l=>⟨[.one (.lit (.bool (liveT l)))],true,[]⟩
 law:=l1 (lL .eTask)
def Zi84_2(l:(List DTask)):Int×Unit→Prop:=fun(i,_)=>0≤i∧i≤l.length∧∀j:Nat,(j:Int)<i→isOpen (List.getD l j zTask)=false
def Zm84_2(l:(List DTask)):Int×Unit→Nat:=fun(i,_)=>l.length-i.toNat
def Za84:Zk84.α→Nat→Option (Ann UU):=fun l=>annL [(2,annOf [.slot 3 (3,1024) (.lit (.int .i64))] (fun _=>Zi84_2 l) (Zm84_2 l))]
def Zu84:List (FuncId×Con UU):=[]
theorem Zv84(l:(List DTask)):goal EE Zu84 Go.Proofs.Tryz.f84 Zk84 Za84 l=(Zi84_2 l ((0:Int),())∧∀(y:Int×PUnit),Zi84_2 l y→bif decide (y.1<(l.length:Int)) then(0:Int)≤y.1∧y.1.toNat<l.length∧bif (List.getD l y.1.toNat zTask).State==(1:Int) then Lb true (liveT l) else(0:Int)≤y.1∧y.1.toNat<l.length∧bif (List.getD l y.1.toNat zTask).State==(2:Int) then Lb true (liveT l) else Zi84_2 l (IntKind.wrap IntKind.i64 (y.1+(1:Int)),())∧Zm84_2 l (IntKind.wrap IntKind.i64 (y.1+(1:Int)),())<Zm84_2 l y else Lb false (liveT l)):=by kernel_rfl
theorem Zo84:Holds EE (84,Zk84):=by
 refine holds_of EE_ok Go.Proofs.Tryz.func84 Zk84 (by kernel_rfl) Zu84 all_nil Za84 (fun(l:(List DTask)) hp hb=> ?_)
 have hl_l:l.length≤9223372036854775807:=bdL (hb _ m0)
 clear hp hb
 rw[Zv84 l]
 refine⟨⟨by omega,by omega,by intro j hj;omega⟩,?_⟩
 rintro⟨i,⟨⟩⟩ ⟨h1,h2,hR⟩
 simp only
 refine if_dec (fun hc=> ?_) (fun hc=> ?_)
 ·rw[wrap_i64 (by omega) (by omega)]
  have hY:isOpen (List.getD l i.toNat zTask)=true→liveT l=true:=fun h=>anyI_true (j:=i.toNat) (by omega) h
  refine⟨by omega,by omega,if_num (fun h=>Lf_tt (hY (by simp only[isOpen];grind))) (fun h=>⟨by omega,by omega,if_num (fun g=>Lf_tt (hY (by simp only[isOpen];grind))) (fun g=>⟨⟨by omega,by omega,upto_no (p:=fun j=>isOpen (List.getD l j zTask)) h1 hR (by simp only[isOpen];grind)⟩,by simp only[Zm84_2];omega⟩)⟩)⟩
 ·exact Lf_ff (anyI_false fun j hj=>hR j (by omega))
def Zh84:HH:=⟨_,Zo84⟩
def Zk85:Con UU where
 α:=DInst
 md:=[.ro]
 of:=o1 (oA .eInst)
 ds:=fun x=>[dA .eInst x]
 pre:=fun _=>[]
 res:=fun x=>⟨[.one (.lit (.bool (undoingX x)))],true,[]⟩
 law:=l1 (lA .eInst)
def Za85:Zk85.α→Nat→Option (Ann UU):=fun x=>annL []
def Zu85:List (FuncId×Con UU):=[]
theorem Zv85(x:DInst):goal EE Zu85 Go.Proofs.Tryz.f85 Zk85 Za85 x=(bif x.State==(3:Int) then Lb true (undoingX x) else Lb (x.State==(5:Int)) (undoingX x)):=by kernel_rfl
theorem Zo85:Holds EE (85,Zk85):=by
 refine holds_of EE_ok Go.Proofs.Tryz.func85 Zk85 (by kernel_rfl) Zu85 all_nil Za85 (fun(x:DInst) hp hb=> ?_)
 have hz0:=bd_eInst (x:=x) (hb _ m0)
 have hl_x_S_Items:=hz0.1
 have hl_x_Fired:=hz0.2.1
 have hl_x_Tasks:=hz0.2.2.1
 have hl_x_Timers:=hz0.2.2.2.1
 have hl_x_Undos:=hz0.2.2.2.2
 clear hp hb
 rw[Zv85 x]
 simp only[undoingX]
 refine if_num (fun h=>Lf_b ?_) (fun h=>Lf_b ?_)
 ·rw[decide_eq_true h,Bool.true_or]
 ·rw[decide_eq_false h,zcw]
  rw[zcm];simp
def Zh85:HH:=⟨_,Zo85⟩
def Zk29:Con UU where
 α:=DDef×DInst
 md:=[.ro,.ro]
 of:=oC (oA .eDef) (o1 (oA .eInst))
 ds:=fun x=>[dA .eDef x.1,dA .eInst x.2]
 pre:=fun(d,x)=>[sizeDef d≤4294967295,sizeItemS x.S.Items≤4294967296]
 res:=fun(d,x)=>⟨[.one (.lit (.bool (instOk d x)))],true,[]⟩
 law:=lC (lA .eDef) (l1 (lA .eInst))
def Za29:Zk29.α→Nat→Option (Ann UU):=fun(d,x)=>annL []
def Zu29:=us [Zh76,Zh77,Zh78,Zh79,Zh80,Zh81,Zh82,Zh83,Zh84,Zh85]
theorem Zv29(d:DDef)(x:DInst):goal EE Zu29 Go.Proofs.Tryz.f29 Zk29 Za29 (d,x)=(sizeDef d≤(4294967295:Nat)∧bif !defOk d then Lb false (instOk d x) else bif !storeOk x.S then Lb false (instOk d x) else bif !tasksOk x.Tasks then Lb false (instOk d x) else bif !timersOk x.Timers then Lb false (instOk d x) else bif !undosOk x.Undos then Lb false (instOk d x) else bif !decide ((1:Int)≤x.State∧x.State≤(6:Int)) then Lb false (instOk d x) else bif !decide ((0:Int)≤x.Now∧x.Now≤(1000000000:Int)) then Lb false (instOk d x) else sizeDef d≤(4294967295:Nat)∧sizeItemS x.S.Items≤(4294967296:Nat)∧bif !firedOk d x then Lb false (instOk d x) else bif decide (x.State=(2:Int)∨x.State=(4:Int)∨x.State=(6:Int)) then bif liveT x.Tasks then Lb false (instOk d x) else bif decide ((x.Timers.length:Int)>(0:Int)) then Lb false (instOk d x) else bif !undoingX x then Lb true (instOk d x) else Lb (decide ((x.Undos.length:Int)>(0:Int))) (instOk d x) else bif !undoingX x then Lb true (instOk d x) else Lb (decide ((x.Undos.length:Int)>(0:Int))) (instOk d x)):=by kernel_rfl
theorem Zo29:Holds EE (29,Zk29):=by
 refine holds_of EE_ok Go.Proofs.Tryz.func29 Zk29 (by kernel_rfl) Zu29 (us_ok _) Za29 (fun x hp hb=> ?_)
 obtain⟨d,x⟩:=x
 have hz0:=bd_eDef (x:=d) (hb _ m0)
 have hl_d_Name:=hz0.1
 have hl_d_Rules:=hz0.2
 have hz1:=bd_eInst (x:=x) (hb _ m1)
 have hl_x_S_Items:=hz1.1
 have hl_x_Fired:=hz1.2.1
 have hl_x_Tasks:=hz1.2.2.1
 have hl_x_Timers:=hz1.2.2.2.1
 have hl_x_Undos:=hz1.2.2.2.2
 have hp0:sizeDef d≤4294967295:=hp _ m0
 have hp1:sizeItemS x.S.Items≤4294967296:=hp _ m1
 clear hp hb
 rw[Zv29 d x]
 refine⟨hp0,?_⟩
 have ht:decide ((x.Timers.length:Int)>0)=decide (0<x.Timers.length):=decide_eq_decide.2 (by omega)
 have hu:decide ((x.Undos.length:Int)>0)=decide (0<x.Undos.length):=decide_eq_decide.2 (by omega)
 simp only[instOk,endedX,ht,hu]
 repeat' (first|refine And.intro hp1 ?_|refine And.intro hp0 (And.intro hp1 ?_)|refine if_cond (fun h=> ?_) (fun h=> ?_))
 all_goals (refine Lf_b ?_;grind)
def Zh29:HH:=⟨_,Zo29⟩
def Zk38:Con UU where
 α:=DDef×DInst
 md:=[.ro,.ro]
 of:=oC (oA .eDef) (o1 (oA .eInst))
 ds:=fun x=>[dA .eDef x.1,dA .eInst x.2]
 pre:=fun(d,x)=>[sizeDef d≤4294967295,sizeItemS x.S.Items≤4294967296]
 res:=fun(d,x)=>⟨[.one (.lit (.bool (instOk d x)))],true,[]⟩
 law:=lC (lA .eDef) (l1 (lA .eInst))
def Za38:Zk38.α→Nat→Option (Ann UU):=fun(d,x)=>annL []
def Zu38:=us [Zh99,Zh100,Zh101,Zh102,Zh103,Zh104,Zh105,Zh106,Zh107,Zh108,Zh109]
theorem Zv38(d:DDef)(x:DInst):goal EE Zu38 Go.Proofs.Tryz.f38 Zk38 Za38 (d,x)=(bif !defOk d then Lb false (instOk d x) else bif !storeOk x.S then Lb false (instOk d x) else bif !tasksOk x.Tasks then Lb false (instOk d x) else bif !timersOk x.Timers then Lb false (instOk d x) else bif !undosOk x.Undos then Lb false (instOk d x) else bif !decide ((1:Int)≤x.State∧x.State≤(6:Int)) then Lb false (instOk d x) else bif !decide ((0:Int)≤x.Now∧x.Now≤(1000000000:Int)) then Lb false (instOk d x) else sizeDef d≤(4294967295:Nat)∧sizeItemS x.S.Items≤(4294967296:Nat)∧bif !firedOk d x then Lb false (instOk d x) else bif x.State==(3:Int) then Lb (decide ((x.Undos.length:Int)>(0:Int))) (instOk d x) else bif x.State==(5:Int) then Lb (decide ((x.Undos.length:Int)>(0:Int))) (instOk d x) else bif !decide (x.State=(2:Int)∨x.State=(4:Int)∨x.State=(6:Int)) then Lb true (instOk d x) else bif (x.Timers.length:Int)==(0:Int) then(∀(j:Nat),j<x.Tasks.length→closP Zk109 [] [daTask (List.getD x.Tasks j zTask)]=some (Value.bool (boolOf (closP Zk109 [] [daTask (List.getD x.Tasks j zTask)]))))∧Lb (!anyI (x.Tasks.length) fun(j:Nat)=>boolOf (closP Zk109 [] [daTask (List.getD x.Tasks j zTask)])) (instOk d x) else Lb false (instOk d x)):=by kernel_rfl
theorem Zo38:Holds EE (38,Zk38):=by
 refine holds_of EE_ok Go.Proofs.Tryz.func38 Zk38 (by kernel_rfl) Zu38 (us_ok _) Za38 (fun x hp hb=> ?_)
 obtain⟨d,x⟩:=x
 have hb_d:BdDV (U:=UU) (.agg [.lit (.string d.Name),.sl .eRule d.Rules]):=hb _ m0
 have hz0:=bd_eDef (x:=d) (hb _ m0)
 have hl_d_Name:=hz0.1
 have hl_d_Rules:=hz0.2
 have hb_x:BdDV (U:=UU) (.agg [.sl .eItem x.S.Items,.lit (.int .i64 x.S.Next),.sl .eMatch x.Fired,.sl .eTask x.Tasks,.sl .eTimer x.Timers,.sl .eUndo x.Undos,.lit (.int .i64 x.State),.lit (.int .i64 x.Now)]):=hb _ m1
 have hz1:=bd_eInst (x:=x) (hb _ m1)
 have hl_x_S_Items:=hz1.1
 have hl_x_Fired:=hz1.2.1
 have hl_x_Tasks:=hz1.2.2.1
 have hl_x_Timers:=hz1.2.2.2.1
 have hl_x_Undos:=hz1.2.2.2.2
 have hp0:sizeDef d≤4294967295:=hp _ m0
 have hp1:sizeItemS x.S.Items≤4294967296:=hp _ m1
 clear hp hb
 rw[Zv38 d x]
 have hc:∀t:DTask,closP Zk109 [] [daTask t]=some (.bool (isOpen t)):=fun t=>closP_of (x:=t) rfl rfl rfl rfl (by simp[Zk109])
 have hl:(anyI x.Tasks.length fun j=>boolOf (closP Zk109 [] [daTask (List.getD x.Tasks j zTask)]))=liveT x.Tasks:=anyI_congr fun j hj=>by rw[hc];rfl
 have hcl:∀j:Nat,j<x.Tasks.length→closP Zk109 [] [daTask (List.getD x.Tasks j zTask)]=some (.bool (boolOf (closP Zk109 [] [daTask (List.getD x.Tasks j zTask)]))):=fun j hj=>by rw[hc];rfl
 have ht:((x.Timers.length:Int)==0)= !decide (0<x.Timers.length):=by rw[zcm];simp
 have hu:decide ((x.Undos.length:Int)>0)=decide (0<x.Undos.length):=decide_eq_decide.2 (by omega)
 have h3:(x.State==3)=decide (x.State=3):=by rw[zcm];simp
 have h5:(x.State==5)=decide (x.State=5):=by rw[zcm];simp
 simp only[instOk,endedX,undoingX,ht,hu,h3,h5,hl]
 repeat' (first|refine And.intro hcl ?_|refine And.intro hp0 (And.intro hp1 ?_)|refine And.intro hp1 ?_|refine if_cond (fun h=> ?_) (fun h=> ?_))
 all_goals (refine Lf_b ?_;clear hcl hc hl ht hu h3 h5 hb_d hb_x;grind)
def Zh38:HH:=⟨_,Zo38⟩
theorem valK{v:DVal}(h:valOk v=true):v.S.size≤21:=by
 simp only[valOk] at h
 by_cases h1:v.K=1
 ·simp[h1] at h;rw[h.2];simp[noBytes]
 ·by_cases h2:v.K=2
  ·simp[h2] at h;omega
  ·simp[h1,h2] at h
theorem valsK:∀{l:List DVal},l.all valOk=true→sizeValS l≤22*l.length
 |[],_=>by simp[sizeValS]
 |x::l,h=>by
  simp only[zdr,zaf] at h
  have h1:=valsK h.2
  have h2:=valK h.1
  simp only[sizeValS,zbq,zbt,zdc,sizeVal] at h1⊢
  omega
theorem factK{f:DFact}(h:factOk f=true):f.Fields.length≤5∧sizeFact f≤145:=by
 simp only[factOk,nameOk,zaf,decide_eq_true_eq] at h
 obtain⟨⟨⟨⟨⟨_,h1⟩,_⟩,_⟩,h2⟩,h3⟩:=h
 have:=valsK h3
 simp only[sizeFact];omega
theorem sumK{α:Type}(f:α→Nat)(B:Nat):∀(l:List α),(∀x∈l,f x≤B)→(l.map f).sum≤l.length*B
 |[],_=>by simp
 |x::l,h=>by
  have h1:=sumK f B l (fun y hy=>h y (zaa _ hy))
  have h2:=h x zab
  simp only[zbt,zdc,zbq,zci];omega
theorem allI_mem{α:Type}{l:List α}{z:α}{p:Nat→Bool}{q:α→Prop}(h:allI l.length p=true)(hq:∀i,p i=true→q (List.getD l i z)):∀x∈l,q x:=fun x hx=>by
 obtain⟨i,hi,rfl⟩:=zbk hx
 have:=hq i (allI_all.1 h i hi)
 rwa[zac,zad hi] at this
theorem undoK{u:ByteArray}(h:undoOk u=true):u.size≤12:=by
 simp only[undoOk,nameOk,zcn,zaf,decide_eq_true_eq] at h
 rcases h with rfl|h
 ·simp[noBytes]
 ·exact h.1.1.2
theorem if_neq{a b:Int}{P Q:Prop}(h1:¬a=b→P)(h2:a=b→Q):bif a !=b then P else Q:=if_cond (fun h=>h1 (by simpa using h)) (fun h=>h2 (by simpa using h))
def newTask(f:DFact)(undo:ByteArray)(now:Int):DTask:=⟨f,undo,1,0,now,zVal⟩
def hasTask(l:List DTask)(f:DFact):Bool:=anyI l.length fun k=>decide ((List.getD l k zTask).F=f)
def startL(l:List DTask)(f:DFact)(undo:ByteArray)(now:Int):List DTask×Bool:=
 if hasTask l f=true then(l,true) else if 30≤l.length then(l,false) else(l++[newTask f undo now],true)
def canStart(l:List DTask)(f:DFact)(undo:ByteArray)(now:Int):Bool:=tasksOk l&&factOk f&&undoOk undo&&decide (0≤now∧now≤1000000000)
def startTask(l:List DTask)(f:DFact)(undo:ByteArray)(now:Int):List DTask×Bool:=if canStart l f undo now=true then startL l f undo now else(l,false)
theorem placeOf_ge(l:List DTask)(f:DFact):decide (0≤placeOf l f)=hasTask l f:=idxI_ge
theorem tasksOk_len{l:List DTask}(h:tasksOk l=true):l.length≤30:=by
 simp only[tasksOk,zaf,decide_eq_true_eq] at h;exact h.1
def Zk157:Con UU where
 α:=(List DTask)×DFact×ByteArray×Int
 md:=[.mv,.ro,.ro,.ro]
 of:=oC (oL .eTask) (oC (oA .eFact) (oC oS (o1 oI)))
 ds:=fun x=>[dL .eTask x.1,dA .eFact x.2.1,dS x.2.2.1,dI x.2.2.2]
 pre:=fun(l,f,undo,now)=>[f.Fields.length≤4294967296]
 res:=fun(l,f,undo,now)=>⟨[.one (.sl .eTask ((startL l f undo now).1)),.one (.lit (.bool ((startL l f undo now).2)))],true,[]⟩
 law:=lC (lL .eTask) (lC (lA .eFact) (lC lS (l1 lI)))
def Zi157_2(l:(List DTask))(f:DFact)(undo:ByteArray)(now:Int):List DTask×Int×(ByteArray×List DVal×Unit)×Unit→Prop:=fun(row,i,fb,_)=>row=l∧fb=(f.Kind,f.Fields,())∧0≤i∧i≤l.length∧∀j:Nat,(j:Int)<i→decide ((List.getD l j zTask).F=f)=false
def Zm157_2(l:(List DTask))(f:DFact)(undo:ByteArray)(now:Int):List DTask×Int×(ByteArray×List DVal×Unit)×Unit→Nat:=fun(row,i,fb,_)=>l.length-i.toNat
def Za157:Zk157.α→Nat→Option (Ann UU):=fun(l,f,undo,now)=>annL [(2,annOf [.slot 0 (0,1024) (.own .eTask true),.slot 10 (10,1024) (.lit (.int .i64)),.box 5 (5,1024) [.lit .str,.shr .eVal]] (fun _=>Zi157_2 l f undo now) (Zm157_2 l f undo now))]
def Zu157:=us [Zh150,Zh145]
theorem Zv157(l:(List DTask))(f:DFact)(undo:ByteArray)(now:Int):goal EE Zu157 Go.Proofs.Tryz.f157 Zk157 Za157 (l,f,undo,now)=(Zi157_2 l f undo now (l,(0:Int),(f.Kind,f.Fields,()),())∧
 ∀(y:List DTask×Int×(ByteArray×List DVal×PUnit)×PUnit),
  let x1:DFact:={Kind:=y.2.2.1.1,Fields:=y.2.2.1.2.1:DFact};
  let x2:Nat:=Int.toNat y.2.1;
  let x3:Int:=(↑(List.length y.1):Int);
  let x0:List DTask:=[{F:=x1,Undo:=undo,State:=(1:Int),Tries:=(0:Int),Due:=now,V:={K:=(0:Int),N:=(0:Int),S:={data:= #[]:ByteArray}:DVal}:DTask}];
  Zi157_2 l f undo now y→bif decide (y.2.1<x3) then(0:Int)≤y.2.1∧x2<List.length y.1∧x2<List.length y.1∧x2<List.length y.1∧bif decide ((List.getD y.1 x2 zTask).F=x1) then Lf [DV.one (Cell.sl Cd.eTask y.1),DV.one (Cell.lit (Value.bool true))] [DV.one (Cell.sl Cd.eTask (startL l f undo now).1),DV.one (Cell.lit (Value.bool (startL l f undo now).2))] else Zi157_2 l f undo now (y.1,IntKind.wrap IntKind.i64 (y.2.1+(1:Int)),(y.2.2.1.1,y.2.2.1.2.1,PUnit.unit),PUnit.unit)∧Zm157_2 l f undo now (y.1,IntKind.wrap IntKind.i64 (y.2.1+(1:Int)),(y.2.2.1.1,y.2.2.1.2.1,PUnit.unit),PUnit.unit)<Zm157_2 l f undo now y else bif decide (x3≥(30:Int)) then Lf [DV.one (Cell.sl Cd.eTask y.1),DV.one (Cell.lit (Value.bool false))] [DV.one (Cell.sl Cd.eTask (startL l f undo now).1),DV.one (Cell.lit (Value.bool (startL l f undo now).2))] else List.length y.2.2.1.2.1≤(4294967296:Nat)∧List.length y.1+List.length x0≤(4294967296:Nat)∧Lf [DV.one (Cell.sl Cd.eTask (y.1++x0)),DV.one (Cell.lit (Value.bool true))] [DV.one (Cell.sl Cd.eTask (startL l f undo now).1),DV.one (Cell.lit (Value.bool (startL l f undo now).2))]):=by kernel_rfl
theorem Zo157:Holds EE (157,Zk157):=by
 refine holds_of EE_ok Go.Proofs.Tryz.func157 Zk157 (by kernel_rfl) Zu157 (us_ok _) Za157 (fun x hp hb=> ?_)
 obtain⟨l,f,undo,now⟩:=x
 have hl_l:l.length≤9223372036854775807:=bdL (hb _ m0)
 have hz1:=bd_eFact (x:=f) (hb _ m1)
 have hl_f_Kind:=hz1.1
 have hl_f_Fields:=hz1.2
 have hl_undo:=bdS (s:=undo) (hb _ m2)
 have hl_now:=bdI (n:=now) (hb _ m3)
 have hp0:f.Fields.length≤4294967296:=hp _ m0
 clear hp hb
 rw[Zv157 l f undo now]
 dsimp only
 refine⟨⟨rfl,rfl,by omega,by omega,by intro j hj;omega⟩,?_⟩
 rintro⟨row,i,fb,⟨⟩⟩ ⟨rfl,rfl,h1,h2,hR⟩
 simp only
 refine if_cond (fun hc=> ?_) (fun hc=> ?_)
 ·have hc:=of_decide_eq_true hc
  rw[wrap_i64 (by omega) (by omega)]
  repeat' (first|refine And.intro (by omega) ?_|refine if_cond (fun h=> ?_) (fun h=> ?_)|fail)
  ·have ha:hasTask row f=true:=anyI_true (j:=i.toNat) (by omega) h
   simp only[startL,if_pos ha];exact Lf_rfl _
  ·exact⟨⟨rfl,rfl,by omega,by omega,upto_no h1 hR h⟩,by simp only[Zm157_2];omega⟩
 ·have hc:=of_decide_eq_false hc
  have ha:¬hasTask row f=true:=by
   rw[zbj];exact anyI_false fun j hj=>hR j (by omega)
  refine if_cond (fun h=> ?_) (fun h=> ?_)
  ·have h:=of_decide_eq_true h
   simp only[startL,if_neg ha,if_pos (show 30≤row.length by omega)];exact Lf_rfl _
  ·have h:=of_decide_eq_false h
   repeat' (first|refine And.intro (by first|omega|(simp;omega)) ?_|fail)
   simp only[startL,if_neg ha,if_neg (show¬30≤row.length by omega)];exact Lf_rfl _
def Zh157:HH:=⟨_,Zo157⟩
def Zk182:Con UU where
 α:=(List DTask)×DFact×ByteArray×Int
 md:=[.ro,.ro,.ro,.ro]
 of:=oC (oL .eTask) (oC (oA .eFact) (oC oS (o1 oI)))
 ds:=fun x=>[dL .eTask x.1,dA .eFact x.2.1,dS x.2.2.1,dI x.2.2.2]
 pre:=fun(l,f,undo,now)=>[sizeTaskS l≤4294967296,f.Fields.length≤4294967296]
 res:=fun(l,f,undo,now)=>⟨[.one (.sl .eTask ((startTask l f undo now).1)),.one (.lit (.bool ((startTask l f undo now).2)))],true,[]⟩
 law:=lC (lL .eTask) (lC (lA .eFact) (lC lS (l1 lI)))
def Za182:Zk182.α→Nat→Option (Ann UU):=fun(l,f,undo,now)=>annL []
def Zu182:=us [Zh96,Zh101,Zh61,Zh222,Zh105,Zh170,Zh164]
theorem Zv182(l:(List DTask))(f:DFact)(undo:ByteArray)(now:Int):goal EE Zu182 Go.Proofs.Tryz.f182 Zk182 Za182 (l,f,undo,now)=(let x0:List DTask:=[{F:=f,Undo:=undo,State:=(1:Int),Tries:=(0:Int),Due:=now,V:={K:=(0:Int),N:=(0:Int),S:={data:= #[]:ByteArray}:DVal}:DTask}];
sizeTaskS l≤(4294967296:Nat)∧bif !tasksOk l then Lf [DV.one (Cell.sl Cd.eTask l),DV.one (Cell.lit (Value.bool false))] [DV.one (Cell.sl Cd.eTask (startTask l f undo now).1),DV.one (Cell.lit (Value.bool (startTask l f undo now).2))] else bif !factOk f then Lf [DV.one (Cell.sl Cd.eTask l),DV.one (Cell.lit (Value.bool false))] [DV.one (Cell.sl Cd.eTask (startTask l f undo now).1),DV.one (Cell.lit (Value.bool (startTask l f undo now).2))] else bif !undoOk undo then Lf [DV.one (Cell.sl Cd.eTask l),DV.one (Cell.lit (Value.bool false))] [DV.one (Cell.sl Cd.eTask (startTask l f undo now).1),DV.one (Cell.lit (Value.bool (startTask l f undo now).2))] else bif !decide ((0:Int)≤now∧now≤(1000000000:Int)) then Lf [DV.one (Cell.sl Cd.eTask l),DV.one (Cell.lit (Value.bool false))] [DV.one (Cell.sl Cd.eTask (startTask l f undo now).1),DV.one (Cell.lit (Value.bool (startTask l f undo now).2))] else bif decide (placeOf l f≥(0:Int)) then Lf [DV.one (Cell.sl Cd.eTask l),DV.one (Cell.lit (Value.bool true))] [DV.one (Cell.sl Cd.eTask (startTask l f undo now).1),DV.one (Cell.lit (Value.bool (startTask l f undo now).2))] else bif (↑(List.length l):Int)==(30:Int) then Lf [DV.one (Cell.sl Cd.eTask l),DV.one (Cell.lit (Value.bool false))] [DV.one (Cell.sl Cd.eTask (startTask l f undo now).1),DV.one (Cell.lit (Value.bool (startTask l f undo now).2))] else List.length f.Fields≤(4294967296:Nat)∧List.length l+List.length x0≤(4294967296:Nat)∧Lf [DV.one (Cell.sl Cd.eTask (l++x0)),DV.one (Cell.lit (Value.bool true))] [DV.one (Cell.sl Cd.eTask (startTask l f undo now).1),DV.one (Cell.lit (Value.bool (startTask l f undo now).2))]):=by kernel_rfl
theorem Zo182:Holds EE (182,Zk182):=by
 refine holds_of EE_ok Go.Proofs.Tryz.func182 Zk182 (by kernel_rfl) Zu182 (us_ok _) Za182 (fun x hp hb=> ?_)
 obtain⟨l,f,undo,now⟩:=x
 have hl_l:l.length≤9223372036854775807:=bdL (hb _ m0)
 have hz1:=bd_eFact (x:=f) (hb _ m1)
 have hl_f_Kind:=hz1.1
 have hl_f_Fields:=hz1.2
 have hl_undo:=bdS (s:=undo) (hb _ m2)
 have hl_now:=bdI (n:=now) (hb _ m3)
 have hp0:sizeTaskS l≤4294967296:=hp _ m0
 have hp1:f.Fields.length≤4294967296:=hp _ m1
 clear hp hb
 rw[Zv182 l f undo now]
 dsimp only
 refine⟨hp0,?_⟩
 have hN:canStart l f undo now=false→Lf [.one (.sl .eTask l),.one (.lit (.bool false))] [.one (.sl .eTask (startTask l f undo now).1),.one (.lit (.bool (startTask l f undo now).2))]:=fun h=>by
  simp only[startTask,h];exact Lf_rfl _
 have hpl:decide (placeOf l f≥0)=hasTask l f:=placeOf_ge l f
 rw[hpl]
 repeat' (first|refine And.intro (by first|omega|(simp;omega)) ?_|refine if_cond (fun h=> ?_) (fun h=> ?_)|fail)
 all_goals first
  |(refine hN ?_;simp only[canStart];grind)
  |(have hy:canStart l f undo now=true:=by simp only[canStart];grind
    have hlen:=tasksOk_len (l:=l) (by simp only[canStart] at hy;grind)
    simp only[startTask,hy,if_true,startL]
    first
     |(rw[if_pos (by assumption)];exact Lf_rfl _)
     |(rw[if_neg (by simp_all),if_pos (by(try simp_all);omega)];exact Lf_rfl _)
     |(rw[if_neg (by simp_all),if_neg (by simp_all;omega)];exact⟨by simp;omega,Lf_rfl _⟩))
def Zh182:HH:=⟨_,Zo182⟩
theorem tasksOk_iff{l:List DTask}:tasksOk l=true↔l.length≤30∧(∀t∈l,taskOk t=true)∧(l.map DTask.F).Nodup:=by
 have hg:∀{i:Nat}(h:i<l.length),List.getD l i zTask=l[i]:=fun{i} h=>by rw[zac,zad h];rfl
 simp only[tasksOk,zaf,decide_eq_true_eq]
 refine and_congr_right fun _=> ?_
 rw[allI_iff]
 constructor
 ·intro h
  refine⟨fun t ht=> ?_,?_⟩
  ·obtain⟨i,hi,rfl⟩:=zbk ht
   have:=h i hi
   simp only[taskAt,zaf] at this
   rw[←hg hi];exact this.1
  ·rw[List.Nodup,zdv]
   intro i j hi hj hij
   simp only[zco] at hi hj
   have:=h j hj
   simp only[taskAt,zaf,zbd] at this
   have:=anyI_not.1 this.2 i hij
   simp only[decide_eq_false_iff_not] at this
   rw[hg hi,hg hj] at this
   simpa using this
 ·rintro⟨h1,h2⟩ j hj
  simp only[taskAt,zaf,zbd]
  refine⟨by rw[hg hj];exact h1 _ (zda hj),anyI_not.2 fun i hij=> ?_⟩
  have hi:i<l.length:=by omega
  rw[List.Nodup,zdv] at h2
  have:=h2 i j (by simpa using hi) (by simpa using hj) hij
  simp only[decide_eq_false_iff_not]
  rw[hg hi,hg hj]
  simpa using this
theorem tasksOk_map{l:List DTask}{f:DTask→DTask}(hF:∀t,(f t).F=t.F)(hf:∀t,taskOk t=true→taskOk (f t)=true)(h:tasksOk l=true):tasksOk (l.map f)=true:=by
 rw[tasksOk_iff] at h⊢
 refine⟨by simpa using h.1,fun t ht=> ?_,?_⟩
 ·obtain⟨t0,h0,rfl⟩:=zaz.1 ht
  exact hf _ (h.2.1 _ h0)
 ·rw[List.map_map]
  have:DTask.F∘f=DTask.F:=funext hF
  rw[this];exact h.2.2
theorem taskOk_iff{t:DTask}:taskOk t=true↔factOk t.F=true∧undoOk t.Undo=true∧(1≤t.State∧t.State≤4)∧(0≤t.Tries∧t.Tries≤4)∧(0≤t.Due∧t.Due≤1000001000)∧(t.V=zVal∨valOk t.V=true)∧((t.State=1→t.Tries=0)∧(t.State=2→t.Tries≠0)):=by
 simp only[taskOk,zaf,zcn,decide_eq_true_eq]
 constructor
 ·rintro⟨⟨⟨⟨⟨⟨h1,h2⟩,h3⟩,h4⟩,h5⟩,h6⟩,h7⟩;exact⟨h1,h2,h3,h4,h5,h6,h7⟩
 ·rintro⟨h1,h2,h3,h4,h5,h6,h7⟩;exact⟨⟨⟨⟨⟨⟨h1,h2⟩,h3⟩,h4⟩,h5⟩,h6⟩,h7⟩
theorem giveUp1_F(t:DTask):(giveUp1 t).F=t.F:=by unfold giveUp1;split<;>rfl
theorem tasksOk_giveUp{l:List DTask}(h:tasksOk l=true):tasksOk (giveUp l)=true:=by
 refine tasksOk_map giveUp1_F (fun t h=> ?_) h
 obtain⟨a1,a2,a3,a4,a5,a6,a7⟩:=taskOk_iff.1 h
 unfold giveUp1;split
 ·exact taskOk_iff.2 ⟨a1,a2,by simp,a4,a5,a6,by simp⟩
 ·exact h
theorem hasTask_mem{l:List DTask}{f:DFact}:hasTask l f=true↔f∈l.map DTask.F:=by
 simp only[hasTask,anyI_iff,decide_eq_true_eq,zaz]
 constructor
 ·rintro⟨j,hj,rfl⟩
  rw[zac,zad hj]
  exact⟨l[j],zda hj,rfl⟩
 ·rintro⟨t,ht,rfl⟩
  obtain⟨i,hi,rfl⟩:=zbk ht
  exact⟨i,hi,by rw[zac,zad hi];rfl⟩
theorem tasksOk_start{l:List DTask}{f:DFact}{u:ByteArray}{now:Int}(h:tasksOk l=true)(hf:factOk f=true)(hu:undoOk u=true)(h0:0≤now)(h1:now≤1000001000):tasksOk (startL l f u now).1=true:=by
 unfold startL;split
 ·exact h
 ·rename_i hn
  split
  ·exact h
  ·rename_i hl
   rw[tasksOk_iff] at h⊢
   refine⟨by simp only[zce,zbq,zbo];omega,fun t ht=> ?_,?_⟩
   ·rcases zao.1 ht with ht|ht
    ·exact h.2.1 t ht
    ·rw[zau.1 ht]
     exact taskOk_iff.2 ⟨hf,hu,by simp[newTask],by simp[newTask],by simp only[newTask];omega,.inl rfl,by simp[newTask]⟩
   ·rw[zef,zav]
    refine⟨h.2.2,by simp,?_⟩
    intro x hx y hy e
    rw[hasTask_mem] at hn
    simp only[zbt,List.map_nil,zau] at hy
    rw[hy] at e;rw[e] at hx;exact hn hx
theorem tasksK{l:List DTask}(h:tasksOk l=true):l.length≤30∧sizeTaskS l≤6000:=by
 obtain⟨h1,h2,_⟩:=tasksOk_iff.1 h
 have:=sumK sizeTask 180 l (fun t ht=>by
  obtain⟨a1,a2,_,_,_,a6,_⟩:=taskOk_iff.1 (h2 t ht)
  have b1:=(factK a1).2
  have b2:=undoK a2
  have b3:sizeVal t.V≤21:=by
   rcases a6 with e|e
   ·rw[e];decide
   ·exact valK e
  simp only[sizeTask];omega)
 simp only[sizeTaskS];omega
theorem undosK{l:List DUndo}(h:undosOk l=true):l.length≤30∧(∀u∈l,factOk u.F=true)∧sizeUndoS l≤20000:=by
 simp only[undosOk,zaf,decide_eq_true_eq] at h
 have hf:∀u∈l,factOk u.F=true:=allI_mem (z:=zUndo) h.2 fun i hi=>by
  simp only[undoAt,zaf] at hi;exact hi.1.2
 have:=sumK sizeUndo 345 l (allI_mem (z:=zUndo) h.2 fun i hi=>by
  simp only[undoAt,zaf,decide_eq_true_eq] at hi
  have:=(factK hi.1.2).2
  simp only[sizeUndo];omega)
 refine⟨h.1,hf,?_⟩
 simp only[sizeUndoS];omega
theorem undoLast_ok{l:List DUndo}(h:undosOk l=true)(hl:l≠[]):factOk (undoLast l)=true:=by
 rw[undoLast,if_neg hl]
 have h0:l.length-1<l.length:=by have:=List.length_pos_iff.2 hl;omega
 rw[zac,zad h0]
 exact(undosK h).2.1 _ (zda h0)
def endI(x:DInst)(st:Int):DInst:=⟨x.S,x.Fired,giveUp x.Tasks,[],x.Undos,st,x.Now⟩
def restF(l:List DTask)(f:DFact):List DTask:=l.filter fun t=> !decide (t.F=f)
def freeF(l:List DTask)(f:DFact):List DTask:=if 30≤(restF l f).length then[] else restF l f
def startU(x:DInst):List DTask:=(startL (freeF x.Tasks (undoLast x.Undos)) (undoLast x.Undos) noBytes x.Now).1
def beginI(x:DInst):DInst:=if x.Undos=[] then endI x (if x.State=5 then 6 else 4) else⟨x.S,x.Fired,startU x,x.Timers,x.Undos,x.State,x.Now⟩
def turnI(x:DInst)(st:Int):DInst:=beginI (endI x st)
def goodX(x:DInst):Prop:=tasksOk x.Tasks=true∧undosOk x.Undos=true∧0≤x.Now∧x.Now≤1000000000
theorem goodX_end{x:DInst}(h:goodX x)(st:Int):goodX (endI x st):=⟨tasksOk_giveUp h.1,h.2⟩
theorem tasksOk_filter{l:List DTask}(p:DTask→Bool)(h:tasksOk l=true):tasksOk (l.filter p)=true:=by
 rw[tasksOk_iff] at h⊢
 refine⟨zde (zdt _ _) h.1,fun t ht=>h.2.1 t (zcg.1 ht).1,?_⟩
 exact(List.filter_sublist.map DTask.F).nodup h.2.2
theorem tasksOk_free{l:List DTask}(h:tasksOk l=true)(f:DFact):tasksOk (freeF l f)=true:=by
 unfold freeF;split
 ·rfl
 ·exact tasksOk_filter _ h
theorem startU_eq{x:DInst}(h:goodX x)(hu:x.Undos≠[]):(startTask (freeF x.Tasks (undoLast x.Undos)) (undoLast x.Undos) noBytes x.Now).1=startU x:=by
 have hc:canStart (freeF x.Tasks (undoLast x.Undos)) (undoLast x.Undos) noBytes x.Now=true:=by
  simp only[canStart,tasksOk_free h.1,undoLast_ok h.2.1 hu,zck,zaf,decide_eq_true_eq]
  exact⟨rfl,h.2.2⟩
 unfold startTask startU;rw[if_pos hc]
theorem tasksOk_startU{x:DInst}(h:goodX x)(hu:x.Undos≠[]):tasksOk (startU x)=true:=
 tasksOk_start (tasksOk_free h.1 _) (undoLast_ok h.2.1 hu) rfl h.2.2.1 (by have:=h.2.2.2;omega)
theorem goodX_begin{x:DInst}(h:goodX x):goodX (beginI x):=by
 unfold beginI;split
 ·exact goodX_end h _
 ·rename_i hu;exact⟨tasksOk_startU h hu,h.2⟩
theorem takeStep{α:Type}{l:List α}{i:Nat}(z:α)(h:i<l.length):l.take (i+1)=l.take i++[List.getD l i z]:=by
 rw[zcz h,zac,zad h];rfl
theorem filterStep{α:Type}(q:α→Bool){l:List α}{i:Nat}(z:α)(h:i<l.length):(l.take (i+1)).filter q=(l.take i).filter q++(if q (List.getD l i z)=true then[List.getD l i z] else[]):=by
 rw[takeStep z h,List.filter_append]
 congr 1
 generalize List.getD l i z=x
 by_cases hq:q x=true<;>simp[hq]
theorem size_items(s:List DItem){i:Int}(h1:0≤i)(h2:i<s.length):(List.getD s i.toNat zItem).F.Fields.length≤sizeItemS s∧s.length≤sizeItemS s:=by
 have hs:=sum_getD_le sizeItem s zItem h1 h2
 simp only[sizeItem,sizeFact,sizeValS] at hs
 simp only[sizeItemS,sizeItem,sizeFact,sizeValS];omega
theorem size_match(l:List DMatch){i:Int}(h1:0≤i)(h2:i<l.length):(List.getD l i.toNat zMatch).Ids.length≤sizeMatchS l∧(List.getD l i.toNat zMatch).Binds.length≤sizeMatchS l∧l.length≤sizeMatchS l:=by
 have hs:=sum_getD_le sizeMatch l zMatch h1 h2
 simp only[sizeMatch,sizeIntS,sizeBindS] at hs
 simp only[sizeMatchS,sizeMatch,sizeIntS,sizeBindS];omega
def Zk211:Con UU where
 α:=(List Int)
 md:=[.ro]
 of:=o1 (oL .int)
 ds:=fun x=>[dL .int x]
 pre:=fun l=>[l.length≤4294967296]
 res:=fun l=>⟨[.one (.sl .int l)],true,[]⟩
 law:=l1 (lL .int)
def Za211:Zk211.α→Nat→Option (Ann UU):=fun l=>annL []
def Zu211:List (FuncId×Con UU):=[]
theorem Zv211(l:(List Int)):goalN EE Zu211 Go.Proofs.Tryz.f211 Zk211 Za211 l .int l false=((0:Nat)+l.length≤(4294967296:Nat)∧Lf [DV.one (Cell.sl Cd.int ([]++l))] [DV.one (Cell.sl Cd.int l)]):=by kernel_rfl
theorem Zw211:goalN EE Zu211 Go.Proofs.Tryz.f211 Zk211 Za211 [] .int [] true=(Lf [DV.one (Cell.sl Cd.int [])] [DV.one (Cell.sl Cd.int [])]):=by kernel_rfl
theorem Zx211:goalN EE Zu211 Go.Proofs.Tryz.f211 Zk211 Za211 [] .int [] true:=by
 rw[Zw211]
 exact Lf_rfl _
theorem Zo211:Holds EE (211,Zk211):=by
 refine holds_ofN EE_ok Go.Proofs.Tryz.func211 Zk211 (by kernel_rfl) rfl .int (fun x=>x) (fun _=>rfl) Zu211 all_nil Za211 (fun(l:(List Int)) hp hb=> ?_)
 have hl_l:l.length≤9223372036854775807:=bdL (hb _ m0)
 have hp0:l.length≤4294967296:=hp _ m0
 clear hp hb
 refine⟨?_,fun h0=> ?_⟩
 rotate_left
 ·subst h0;exact Zx211
 rw[Zv211 l]
 exact⟨by simp;omega,Lf_rfl _⟩
def Zh211:HH:=⟨_,Zo211⟩
def Zk212:Con UU where
 α:=(List DBind)
 md:=[.ro]
 of:=o1 (oL .eBind)
 ds:=fun x=>[dL .eBind x]
 pre:=fun l=>[l.length≤4294967296]
 res:=fun l=>⟨[.one (.sl .eBind l)],true,[]⟩
 law:=l1 (lL .eBind)
def Za212:Zk212.α→Nat→Option (Ann UU):=fun l=>annL []
def Zu212:List (FuncId×Con UU):=[]
theorem Zv212(l:(List DBind)):goalN EE Zu212 Go.Proofs.Tryz.f212 Zk212 Za212 l .eBind l false=((0:Nat)+l.length≤(4294967296:Nat)∧Lf [DV.one (Cell.sl Cd.eBind ([]++l))] [DV.one (Cell.sl Cd.eBind l)]):=by kernel_rfl
theorem Zw212:goalN EE Zu212 Go.Proofs.Tryz.f212 Zk212 Za212 [] .eBind [] true=(Lf [DV.one (Cell.sl Cd.eBind [])] [DV.one (Cell.sl Cd.eBind [])]):=by kernel_rfl
theorem Zx212:goalN EE Zu212 Go.Proofs.Tryz.f212 Zk212 Za212 [] .eBind [] true:=by
 rw[Zw212]
 exact Lf_rfl _
theorem Zo212:Holds EE (212,Zk212):=by
 refine holds_ofN EE_ok Go.Proofs.Tryz.func212 Zk212 (by kernel_rfl) rfl .eBind (fun x=>x) (fun _=>rfl) Zu212 all_nil Za212 (fun(l:(List DBind)) hp hb=> ?_)
 have hl_l:l.length≤9223372036854775807:=bdL (hb _ m0)
 have hp0:l.length≤4294967296:=hp _ m0
 clear hp hb
 refine⟨?_,fun h0=> ?_⟩
 rotate_left
 ·subst h0;exact Zx212
 rw[Zv212 l]
 exact⟨by simp;omega,Lf_rfl _⟩
def Zh212:HH:=⟨_,Zo212⟩
def Zk165:Con UU where
 α:=DMatch
 md:=[.ro]
 of:=o1 (oA .eMatch)
 ds:=fun x=>[dA .eMatch x]
 pre:=fun m=>[m.Ids.length≤4294967296,m.Binds.length≤4294967296]
 res:=fun m=>⟨[.agg [.lit (.int .i64 m.Rule),.sl .int m.Ids,.sl .eBind m.Binds]],true,[]⟩
 law:=l1 (lA .eMatch)
def Za165:Zk165.α→Nat→Option (Ann UU):=fun m=>annL []
def Zu165:=us [Zh211,Zh212]
theorem Zv165(m:DMatch):goal EE Zu165 Go.Proofs.Tryz.f165 Zk165 Za165 m=(m.Ids.length≤(4294967296:Nat)∧m.Binds.length≤(4294967296:Nat)∧Lf [DV.agg [Cell.lit (Value.int IntKind.i64 m.Rule),Cell.sl Cd.int m.Ids,Cell.sl Cd.eBind m.Binds]] [DV.agg [Cell.lit (Value.int IntKind.i64 m.Rule),Cell.sl Cd.int m.Ids,Cell.sl Cd.eBind m.Binds]]):=by kernel_rfl
theorem Zo165:Holds EE (165,Zk165):=by
 refine holds_of EE_ok Go.Proofs.Tryz.func165 Zk165 (by kernel_rfl) Zu165 (us_ok _) Za165 (fun(m:DMatch) hp hb=> ?_)
 have hz0:=bd_eMatch (x:=m) (hb _ m0)
 have hl_m_Ids:=hz0.1
 have hl_m_Binds:=hz0.2
 have hp0:m.Ids.length≤4294967296:=hp _ m0
 have hp1:m.Binds.length≤4294967296:=hp _ m1
 clear hp hb
 rw[Zv165 m]
 exact⟨hp0,hp1,Lf_rfl _⟩
def Zh165:HH:=⟨_,Zo165⟩
def Zk95:Con UU where
 α:=(List DMatch)
 md:=[.ro]
 of:=o1 (oL .eMatch)
 ds:=fun x=>[dL .eMatch x]
 pre:=fun l=>[sizeMatchS l≤4294967296]
 res:=fun l=>⟨[.one (.sl .eMatch l)],true,[]⟩
 law:=l1 (lL .eMatch)
def Zi95_3(l:(List DMatch)):List DMatch×Int×Unit→Prop:=fun(out,i,_)=>0≤i∧i≤l.length∧out=l.take i.toNat
def Zm95_3(l:(List DMatch)):List DMatch×Int×Unit→Nat:=fun(out,i,_)=>l.length-i.toNat
def Za95:Zk95.α→Nat→Option (Ann UU):=fun l=>annL [(3,annOf [.slot 3 (3,1024) (.own .eMatch true),.slot 8 (8,1024) (.lit (.int .i64))] (fun _=>Zi95_3 l) (Zm95_3 l))]
def Zu95:=us [Zh165]
theorem Zv95(l:(List DMatch)):goal EE Zu95 Go.Proofs.Tryz.f95 Zk95 Za95 l=(Zi95_3 l ([],(0:Int),())∧
 ∀(y:List DMatch×Int×PUnit),
  let x1:Nat:=Int.toNat y.2.1;
  let x0:DMatch:=List.getD l x1 zMatch;
  Zi95_3 l y→bif decide (y.2.1<(↑(List.length l):Int)) then(0:Int)≤y.2.1∧x1<List.length l∧List.length x0.Ids≤(4294967296:Nat)∧List.length x0.Binds≤(4294967296:Nat)∧List.length y.1+List.length [x0]≤(4294967296:Nat)∧Zi95_3 l (y.1++[x0],IntKind.wrap IntKind.i64 (y.2.1+(1:Int)),PUnit.unit)∧Zm95_3 l (y.1++[x0],IntKind.wrap IntKind.i64 (y.2.1+(1:Int)),PUnit.unit)<Zm95_3 l y else Lf [DV.one (Cell.sl Cd.eMatch y.1)] [DV.one (Cell.sl Cd.eMatch l)]):=by kernel_rfl
theorem Zo95:Holds EE (95,Zk95):=by
 refine holds_of EE_ok Go.Proofs.Tryz.func95 Zk95 (by kernel_rfl) Zu95 (us_ok _) Za95 (fun(l:(List DMatch)) hp hb=> ?_)
 have hl_l:l.length≤9223372036854775807:=bdL (hb _ m0)
 have hp0:sizeMatchS l≤4294967296:=hp _ m0
 clear hp hb
 rw[Zv95 l]
 dsimp only
 refine⟨⟨by omega,by omega,by simp⟩,?_⟩
 rintro⟨out,i,⟨⟩⟩ ⟨h1,h2,rfl⟩
 simp only
 refine if_dec (fun hc=> ?_) (fun hc=> ?_)
 ·obtain⟨s1,s2,s3⟩:=size_match l h1 hc
  have hk:=take_step l zMatch h1 hc
  rw[wrap_i64 (by omega) (by omega)]
  repeat' (first|refine And.intro (by first|omega|(simp only[zbo];omega)) ?_|fail)
  exact⟨by simp only[zaw,zbq,zbo];omega,⟨by omega,by omega,hk⟩,by simp only[Zm95_3];omega⟩
 ·rw[take_all l (by omega)]
  exact Lf_rfl _
def Zh95:HH:=⟨_,Zo95⟩
def Zk72:Con UU where
 α:=(List DMatch)
 md:=[.ro]
 of:=o1 (oL .eMatch)
 ds:=fun x=>[dL .eMatch x]
 pre:=fun l=>[sizeMatchS l≤4294967296]
 res:=fun l=>⟨[.one (.sl .eMatch l)],true,[]⟩
 law:=l1 (lL .eMatch)
def Zi72_3(l:(List DMatch)):List DMatch×Int×Unit→Prop:=fun(out,i,_)=>0≤i∧i≤l.length∧out=l.take i.toNat
def Zm72_3(l:(List DMatch)):List DMatch×Int×Unit→Nat:=fun(out,i,_)=>l.length-i.toNat
def Za72:Zk72.α→Nat→Option (Ann UU):=fun l=>annL [(3,annOf [.slot 3 (3,1024) (.own .eMatch true),.slot 4 (4,1024) (.lit (.int .i64))] (fun _=>Zi72_3 l) (Zm72_3 l))]
def Zu72:List (FuncId×Con UU):=[]
theorem Zv72(l:(List DMatch)):goal EE Zu72 Go.Proofs.Tryz.f72 Zk72 Za72 l=(Zi72_3 l ([],(0:Int),())∧
 ∀(y:List DMatch×Int×PUnit),
  let x2:Nat:=Int.toNat y.2.1;
  let x1:DMatch:=List.getD l x2 zMatch;
  let x0:List DMatch:=[{Rule:=x1.Rule,Ids:=[]++x1.Ids,Binds:=[]++x1.Binds:DMatch}];
  Zi72_3 l y→bif decide (y.2.1<(↑(List.length l):Int)) then(0:Int)≤y.2.1∧x2<List.length l∧(0:Int)≤y.2.1∧x2<List.length l∧(0:Nat)+List.length x1.Ids≤(4294967296:Nat)∧(0:Int)≤y.2.1∧x2<List.length l∧(0:Nat)+List.length x1.Binds≤(4294967296:Nat)∧List.length y.1+List.length x0≤(4294967296:Nat)∧Zi72_3 l (y.1++x0,IntKind.wrap IntKind.i64 (y.2.1+(1:Int)),PUnit.unit)∧Zm72_3 l (y.1++x0,IntKind.wrap IntKind.i64 (y.2.1+(1:Int)),PUnit.unit)<Zm72_3 l y else Lf [DV.one (Cell.sl Cd.eMatch y.1)] [DV.one (Cell.sl Cd.eMatch l)]):=by kernel_rfl
theorem Zo72:Holds EE (72,Zk72):=by
 refine holds_of EE_ok Go.Proofs.Tryz.func72 Zk72 (by kernel_rfl) Zu72 all_nil Za72 (fun(l:(List DMatch)) hp hb=> ?_)
 have hl_l:l.length≤9223372036854775807:=bdL (hb _ m0)
 have hp0:sizeMatchS l≤4294967296:=hp _ m0
 clear hp hb
 rw[Zv72 l]
 dsimp only
 refine⟨⟨by omega,by omega,by simp⟩,?_⟩
 rintro⟨out,i,⟨⟩⟩ ⟨h1,h2,rfl⟩
 simp only
 refine if_dec (fun hc=> ?_) (fun hc=> ?_)
 ·obtain⟨s1,s2,s3⟩:=size_match l h1 hc
  have hk:=take_step l zMatch h1 hc
  rw[wrap_i64 (by omega) (by omega)]
  repeat' (first|refine And.intro (by first|omega|(simp only[zbo];omega)) ?_|fail)
  exact⟨by simp only[zaw,zbq,zbo];omega,⟨by omega,by omega,hk⟩,by simp only[Zm72_3];omega⟩
 ·rw[take_all l (by omega)]
  exact Lf_rfl _
def Zh72:HH:=⟨_,Zo72⟩
def Zk94:Con UU where
 α:=DStore
 md:=[.ro]
 of:=o1 (oA .eStore)
 ds:=fun x=>[dA .eStore x]
 pre:=fun s=>[sizeItemS s.Items≤4294967296]
 res:=fun s=>⟨[.agg [.sl .eItem s.Items,.lit (.int .i64 s.Next)]],true,[]⟩
 law:=l1 (lA .eStore)
def Zi94_3(s:DStore):Int×(List DItem×Int×Unit)×(List DItem×Int×Unit)×(List DItem×Int×Unit)×Unit→Prop:=fun(i,b,r,g,_)=>b=(s.Items,s.Next,())∧r=([],0,())∧0≤i∧i≤s.Items.length∧g=(s.Items.take i.toNat,s.Next,())
def Zm94_3(s:DStore):Int×(List DItem×Int×Unit)×(List DItem×Int×Unit)×(List DItem×Int×Unit)×Unit→Nat:=fun(i,b,r,g,_)=>s.Items.length-i.toNat
def Za94:Zk94.α→Nat→Option (Ann UU):=fun s=>annL [(3,annOf [.slot 12 (12,1024) (.lit (.int .i64)),.box 1 (1,1024) [.shr .eItem,.lit (.int .i64)],.box 2 (2,1024) [.own .eItem true,.lit (.int .i64)],.box 3 (3,1024) [.own .eItem true,.lit (.int .i64)]] (fun _=>Zi94_3 s) (Zm94_3 s))]
def Zu94:=us [Zh164]
theorem Zv94(s:DStore):goal EE Zu94 Go.Proofs.Tryz.f94 Zk94 Za94 s=(Zi94_3 s ((0:Int),(s.Items,s.Next,()),([],(0:Int),()),([],s.Next,()),())∧
 ∀(y:Int×(List DItem×Int×PUnit)×(List DItem×Int×PUnit)×(List DItem×Int×PUnit)×PUnit),
  let x0:List DItem:=[List.getD s.Items (Int.toNat y.1) zItem];
  Zi94_3 s y→bif decide (y.1<(↑(List.length s.Items):Int)) then(0:Int)≤y.1∧Int.toNat y.1<List.length s.Items∧List.length (List.getD s.Items (Int.toNat y.1) zItem).F.Fields≤(4294967296:Nat)∧List.length y.2.2.2.1.1+List.length x0≤(4294967296:Nat)∧Zi94_3 s (IntKind.wrap IntKind.i64 (y.1+(1:Int)),(y.2.1.1,y.2.1.2.1,PUnit.unit),(y.2.2.1.1,y.2.2.1.2.1,PUnit.unit),(y.2.2.2.1.1++x0,y.2.2.2.1.2.1,PUnit.unit),PUnit.unit)∧Zm94_3 s (IntKind.wrap IntKind.i64 (y.1+(1:Int)),(y.2.1.1,y.2.1.2.1,PUnit.unit),(y.2.2.1.1,y.2.2.1.2.1,PUnit.unit),(y.2.2.2.1.1++x0,y.2.2.2.1.2.1,PUnit.unit),PUnit.unit)<Zm94_3 s y else Lf [DV.agg [Cell.sl Cd.eItem y.2.2.2.1.1,Cell.lit (Value.int IntKind.i64 y.2.2.2.1.2.1)]] [DV.agg [Cell.sl Cd.eItem s.Items,Cell.lit (Value.int IntKind.i64 s.Next)]]):=by kernel_rfl
theorem Zo94:Holds EE (94,Zk94):=by
 refine holds_of EE_ok Go.Proofs.Tryz.func94 Zk94 (by kernel_rfl) Zu94 (us_ok _) Za94 (fun(s:DStore) hp hb=> ?_)
 have hl_s_Items:=bd_eStore (x:=s) (hb _ m0)
 have hp0:sizeItemS s.Items≤4294967296:=hp _ m0
 clear hp hb
 rw[Zv94 s]
 dsimp only
 refine⟨⟨rfl,rfl,by omega,by omega,rfl⟩,?_⟩
 rintro⟨i,⟨b1,b2,⟨⟩⟩,⟨r1,r2,⟨⟩⟩,⟨g1,g2,⟨⟩⟩,⟨⟩⟩ ⟨hb,hr,h1,h2,hg⟩
 cases hb
 cases hr
 cases hg
 simp only
 refine if_dec (fun hc=> ?_) (fun hc=> ?_)
 ·obtain⟨s1,s2⟩:=size_items s.Items h1 hc
  have hk:=take_step s.Items zItem h1 hc
  rw[wrap_i64 (by omega) (by omega)]
  repeat' (first|refine And.intro (by omega) ?_|fail)
  exact⟨by simp only[zaw,zbq,zbo];omega,⟨rfl,rfl,by omega,by omega,by rw[←hk]⟩,by simp only[Zm94_3];omega⟩
 ·rw[take_all s.Items (by omega)]
  exact Lf_rfl _
def Zh94:HH:=⟨_,Zo94⟩
def Zk71:Con UU where
 α:=DStore
 md:=[.ro]
 of:=o1 (oA .eStore)
 ds:=fun x=>[dA .eStore x]
 pre:=fun s=>[sizeItemS s.Items≤4294967296]
 res:=fun s=>⟨[.agg [.sl .eItem s.Items,.lit (.int .i64 s.Next)]],true,[]⟩
 law:=l1 (lA .eStore)
def Zi71_3(s:DStore):Int×(List DItem×Int×Unit)×(List DItem×Int×Unit)×(List DItem×Int×Unit)×Unit→Prop:=fun(i,b,r,g,_)=>b=(s.Items,s.Next,())∧r=([],0,())∧0≤i∧i≤s.Items.length∧g=(s.Items.take i.toNat,s.Next,())
def Zm71_3(s:DStore):Int×(List DItem×Int×Unit)×(List DItem×Int×Unit)×(List DItem×Int×Unit)×Unit→Nat:=fun(i,b,r,g,_)=>s.Items.length-i.toNat
def Za71:Zk71.α→Nat→Option (Ann UU):=fun s=>annL [(3,annOf [.slot 4 (4,1024) (.lit (.int .i64)),.box 1 (1,1024) [.shr .eItem,.lit (.int .i64)],.box 2 (2,1024) [.own .eItem true,.lit (.int .i64)],.box 3 (3,1024) [.own .eItem true,.lit (.int .i64)]] (fun _=>Zi71_3 s) (Zm71_3 s))]
def Zu71:=us [Zh145]
theorem Zv71(s:DStore):goal EE Zu71 Go.Proofs.Tryz.f71 Zk71 Za71 s=(Zi71_3 s ((0:Int),(s.Items,s.Next,()),([],(0:Int),()),([],s.Next,()),())∧
 ∀(y:Int×(List DItem×Int×PUnit)×(List DItem×Int×PUnit)×(List DItem×Int×PUnit)×PUnit),
  let x1:DItem:=List.getD y.2.1.1 (Int.toNat y.1) zItem;
  let x3:Nat:=List.length y.2.1.1;
  let x0:List DItem:=[x1];
  let x2:Int:=(↑x3:Int);
  Zi71_3 s y→bif decide (y.1<x2) then(0:Int)≤y.1∧Int.toNat y.1<x3∧(0:Int)≤y.1∧Int.toNat y.1<x3∧List.length x1.F.Fields≤(4294967296:Nat)∧List.length y.2.2.2.1.1+List.length x0≤(4294967296:Nat)∧Zi71_3 s (IntKind.wrap IntKind.i64 (y.1+(1:Int)),(y.2.1.1,y.2.1.2.1,PUnit.unit),(y.2.2.1.1,y.2.2.1.2.1,PUnit.unit),(y.2.2.2.1.1++x0,y.2.2.2.1.2.1,PUnit.unit),PUnit.unit)∧Zm71_3 s (IntKind.wrap IntKind.i64 (y.1+(1:Int)),(y.2.1.1,y.2.1.2.1,PUnit.unit),(y.2.2.1.1,y.2.2.1.2.1,PUnit.unit),(y.2.2.2.1.1++x0,y.2.2.2.1.2.1,PUnit.unit),PUnit.unit)<Zm71_3 s y else Lf [DV.agg [Cell.sl Cd.eItem y.2.2.2.1.1,Cell.lit (Value.int IntKind.i64 y.2.2.2.1.2.1)]] [DV.agg [Cell.sl Cd.eItem s.Items,Cell.lit (Value.int IntKind.i64 s.Next)]]):=by kernel_rfl
theorem Zo71:Holds EE (71,Zk71):=by
 refine holds_of EE_ok Go.Proofs.Tryz.func71 Zk71 (by kernel_rfl) Zu71 (us_ok _) Za71 (fun(s:DStore) hp hb=> ?_)
 have hl_s_Items:=bd_eStore (x:=s) (hb _ m0)
 have hp0:sizeItemS s.Items≤4294967296:=hp _ m0
 clear hp hb
 rw[Zv71 s]
 dsimp only
 refine⟨⟨rfl,rfl,by omega,by omega,rfl⟩,?_⟩
 rintro⟨i,⟨b1,b2,⟨⟩⟩,⟨r1,r2,⟨⟩⟩,⟨g1,g2,⟨⟩⟩,⟨⟩⟩ ⟨hb,hr,h1,h2,hg⟩
 cases hb
 cases hr
 cases hg
 simp only
 refine if_dec (fun hc=> ?_) (fun hc=> ?_)
 ·obtain⟨s1,s2⟩:=size_items s.Items h1 hc
  have hk:=take_step s.Items zItem h1 hc
  rw[wrap_i64 (by omega) (by omega)]
  repeat' (first|refine And.intro (by omega) ?_|fail)
  exact⟨by simp only[zaw,zbq,zbo];omega,⟨rfl,rfl,by omega,by omega,by rw[←hk]⟩,by simp only[Zm71_3];omega⟩
 ·rw[take_all s.Items (by omega)]
  exact Lf_rfl _
def Zh71:HH:=⟨_,Zo71⟩
def Zk37:Con UU where
 α:=DInst
 md:=[.ro]
 of:=o1 (oA .eInst)
 ds:=fun x=>[dA .eInst x]
 pre:=fun x=>[sizeInst x≤4294967296]
 res:=fun x=>⟨[.agg [.sl .eItem x.S.Items,.lit (.int .i64 x.S.Next),.sl .eMatch x.Fired,.sl .eTask x.Tasks,.sl .eTimer x.Timers,.sl .eUndo x.Undos,.lit (.int .i64 x.State),.lit (.int .i64 x.Now)]],true,[]⟩
 law:=l1 (lA .eInst)
def Za37:Zk37.α→Nat→Option (Ann UU):=fun x=>annL []
def Zu37:=us [Zh94,Zh95,Zh96,Zh97,Zh98]
theorem Zv37(x:DInst):goal EE Zu37 Go.Proofs.Tryz.f37 Zk37 Za37 x=(sizeItemS x.S.Items≤(4294967296:Nat)∧sizeMatchS x.Fired≤(4294967296:Nat)∧sizeTaskS x.Tasks≤(4294967296:Nat)∧sizeTimerS x.Timers≤(4294967296:Nat)∧sizeUndoS x.Undos≤(4294967296:Nat)∧Lf [DV.agg [Cell.sl Cd.eItem x.S.Items,Cell.lit (Value.int IntKind.i64 x.S.Next),Cell.sl Cd.eMatch x.Fired,Cell.sl Cd.eTask x.Tasks,Cell.sl Cd.eTimer x.Timers,Cell.sl Cd.eUndo x.Undos,Cell.lit (Value.int IntKind.i64 x.State),Cell.lit (Value.int IntKind.i64 x.Now)]] [DV.agg [Cell.sl Cd.eItem x.S.Items,Cell.lit (Value.int IntKind.i64 x.S.Next),Cell.sl Cd.eMatch x.Fired,Cell.sl Cd.eTask x.Tasks,Cell.sl Cd.eTimer x.Timers,Cell.sl Cd.eUndo x.Undos,Cell.lit (Value.int IntKind.i64 x.State),Cell.lit (Value.int IntKind.i64 x.Now)]]):=by kernel_rfl
theorem Zo37:Holds EE (37,Zk37):=by
 refine holds_of EE_ok Go.Proofs.Tryz.func37 Zk37 (by kernel_rfl) Zu37 (us_ok _) Za37 (fun(x:DInst) hp hb=> ?_)
 have hz0:=bd_eInst (x:=x) (hb _ m0)
 have hl_x_S_Items:=hz0.1
 have hl_x_Fired:=hz0.2.1
 have hl_x_Tasks:=hz0.2.2.1
 have hl_x_Timers:=hz0.2.2.2.1
 have hl_x_Undos:=hz0.2.2.2.2
 have hp0:sizeInst x≤4294967296:=hp _ m0
 clear hp hb
 rw[Zv37 x]
 simp only[sizeInst,sizeStore] at hp0
 repeat' (first|refine And.intro (by omega) ?_|fail)
 exact Lf_rfl _
def Zh37:HH:=⟨_,Zo37⟩
def Zk28:Con UU where
 α:=DInst
 md:=[.ro]
 of:=o1 (oA .eInst)
 ds:=fun x=>[dA .eInst x]
 pre:=fun x=>[sizeInst x≤4294967296]
 res:=fun x=>⟨[.agg [.sl .eItem x.S.Items,.lit (.int .i64 x.S.Next),.sl .eMatch x.Fired,.sl .eTask x.Tasks,.sl .eTimer x.Timers,.sl .eUndo x.Undos,.lit (.int .i64 x.State),.lit (.int .i64 x.Now)]],true,[]⟩
 law:=l1 (lA .eInst)
def Za28:Zk28.α→Nat→Option (Ann UU):=fun x=>annL []
def Zu28:=us [Zh71,Zh72,Zh73,Zh74,Zh75]
theorem Zv28(x:DInst):goal EE Zu28 Go.Proofs.Tryz.f28 Zk28 Za28 x=(sizeItemS x.S.Items≤(4294967296:Nat)∧sizeMatchS x.Fired≤(4294967296:Nat)∧sizeTaskS x.Tasks≤(4294967296:Nat)∧sizeTimerS x.Timers≤(4294967296:Nat)∧sizeUndoS x.Undos≤(4294967296:Nat)∧Lf [DV.agg [Cell.sl Cd.eItem x.S.Items,Cell.lit (Value.int IntKind.i64 x.S.Next),Cell.sl Cd.eMatch x.Fired,Cell.sl Cd.eTask x.Tasks,Cell.sl Cd.eTimer x.Timers,Cell.sl Cd.eUndo x.Undos,Cell.lit (Value.int IntKind.i64 x.State),Cell.lit (Value.int IntKind.i64 x.Now)]] [DV.agg [Cell.sl Cd.eItem x.S.Items,Cell.lit (Value.int IntKind.i64 x.S.Next),Cell.sl Cd.eMatch x.Fired,Cell.sl Cd.eTask x.Tasks,Cell.sl Cd.eTimer x.Timers,Cell.sl Cd.eUndo x.Undos,Cell.lit (Value.int IntKind.i64 x.State),Cell.lit (Value.int IntKind.i64 x.Now)]]):=by kernel_rfl
theorem Zo28:Holds EE (28,Zk28):=by
 refine holds_of EE_ok Go.Proofs.Tryz.func28 Zk28 (by kernel_rfl) Zu28 (us_ok _) Za28 (fun(x:DInst) hp hb=> ?_)
 have hz0:=bd_eInst (x:=x) (hb _ m0)
 have hl_x_S_Items:=hz0.1
 have hl_x_Fired:=hz0.2.1
 have hl_x_Tasks:=hz0.2.2.1
 have hl_x_Timers:=hz0.2.2.2.1
 have hl_x_Undos:=hz0.2.2.2.2
 have hp0:sizeInst x≤4294967296:=hp _ m0
 clear hp hb
 rw[Zv28 x]
 simp only[sizeInst,sizeStore] at hp0
 repeat' (first|refine And.intro (by omega) ?_|fail)
 exact Lf_rfl _
def Zh28:HH:=⟨_,Zo28⟩
theorem outI{a b:DInst}(h:a=b):asD [DV.box [.sl .eItem a.S.Items,.lit (.int .i64 a.S.Next),.sl .eMatch a.Fired,.sl .eTask a.Tasks,.sl .eTimer a.Timers,.sl .eUndo a.Undos,.lit (.int .i64 a.State),.lit (.int .i64 a.Now)]]=asD [DV.box [.sl .eItem b.S.Items,.lit (.int .i64 b.S.Next),.sl .eMatch b.Fired,.sl .eTask b.Tasks,.sl .eTimer b.Timers,.sl .eUndo b.Undos,.lit (.int .i64 b.State),.lit (.int .i64 b.Now)]]:=by rw[h]
theorem LfX{a a':DInst}{b b':Bool}(h1:a=a')(h2:b=b'):Lf [.agg [.sl .eItem a.S.Items,.lit (.int .i64 a.S.Next),.sl .eMatch a.Fired,.sl .eTask a.Tasks,.sl .eTimer a.Timers,.sl .eUndo a.Undos,.lit (.int .i64 a.State),.lit (.int .i64 a.Now)],.one (.lit (.bool b))] [.agg [.sl .eItem a'.S.Items,.lit (.int .i64 a'.S.Next),.sl .eMatch a'.Fired,.sl .eTask a'.Tasks,.sl .eTimer a'.Timers,.sl .eUndo a'.Undos,.lit (.int .i64 a'.State),.lit (.int .i64 a'.Now)],.one (.lit (.bool b'))]:=by
 subst h1 h2;exact Lf_rfl _
theorem LfTk{a a':List DTask}(h:a=a'):Lf [.one (.sl .eTask a)] [.one (.sl .eTask a')]:=by subst h;exact Lf_rfl _
def keepQ(p:List (DA UU)→Option Value)(t:DTask):Bool:= !boolOf (p [daTask t])
def delI(l:List DTask)(q:DTask→Bool)(xs:List DTask)(dd:Nat→Bool)(i j:Int):Prop:=0≤i∧i<j∧j≤l.length∧xs.length=l.length∧xs.take i.toNat=(l.take j.toNat).filter q∧(∀k,j.toNat≤k→k<l.length→List.getD xs k zTask=List.getD l k zTask)∧(∀k,k<i.toNat→dd k=false)∧(∀k,j.toNat≤k→dd k=false)
theorem filter_all{α:Type}(q:α→Bool)(l:List α)(z:α)(n:Nat)(h:∀k,k<n→k<l.length→q (List.getD l k z)=true):(l.take n).filter q=l.take n:=by
 rw[List.filter_eq_self]
 intro a ha
 obtain⟨j,hj,rfl⟩:=List.mem_take_iff_getElem.1 ha
 have:=h j (by omega) (by omega)
 rwa[zac,zad (by omega)] at this
theorem del_init{l:List DTask}{p:List (DA UU)→Option Value}(h:¬(idxI l.length fun j=>boolOf (p [daTask (List.getD l j zTask)]))= -1):delI l (keepQ p) l (fun _=>false) (idxI l.length fun j=>boolOf (p [daTask (List.getD l j zTask)])) ((idxI l.length fun j=>boolOf (p [daTask (List.getD l j zTask)]))+1):=by
 rcases idxI_cases l.length (fun j=>boolOf (p [daTask (List.getD l j zTask)])) with⟨h1,_⟩|⟨i,h2,h1,h3,h4⟩
 ·exact absurd h1 h
 ·rw[h1]
  have e:((i:Int)+1).toNat=i+1:=by omega
  refine⟨by omega,by omega,by omega,rfl,?_,fun _ _ _=>rfl,fun _ _=>rfl,fun _ _=>rfl⟩
  rw[e,zeu,filterStep _ zTask h2]
  have hk:keepQ p (List.getD l i zTask)=false:=by simp only[keepQ];rw[h3];rfl
  rw[hk,filter_all (keepQ p) l zTask i (fun k hk _=>by simp only[keepQ];rw[h4 k hk];rfl)];simp
theorem del_none{l:List DTask}{p:List (DA UU)→Option Value}(h:(idxI l.length fun j=>boolOf (p [daTask (List.getD l j zTask)]))= -1):l.filter (keepQ p)=l:=by
 rcases idxI_cases l.length (fun j=>boolOf (p [daTask (List.getD l j zTask)])) with⟨_,h1⟩|⟨i,_,h1,_⟩
 ·have:=filter_all (keepQ p) l zTask l.length (fun k hk _=>by simp only[keepQ];rw[h1 k hk];rfl)
  rwa[List.take_length] at this
 ·omega
theorem del_keep{l:List DTask}{q:DTask→Bool}{xs:List DTask}{dd:Nat→Bool}{i j:Int}(h:delI l q xs dd i j)(hj:j<l.length)(hq:q (List.getD l j.toNat zTask)=true):delI l q (xs.set i.toNat (List.getD l j.toNat zTask)) (fun k=> !Nat.beq k i.toNat&&(Nat.beq k j.toNat||dd k)) (i+1) (j+1):=by
 obtain⟨g1,g2,g3,g4,g5,g6,g7,g8⟩:=h
 have ei:(i+1).toNat=i.toNat+1:=by omega
 have ej:(j+1).toNat=j.toNat+1:=by omega
 refine⟨by omega,by omega,by omega,by rw[zcu];exact g4,?_,fun k h1 h2=> ?_,fun k hk=> ?_,fun k hk=> ?_⟩
 ·rw[ei,ej,filterStep _ zTask (by omega),←g5,hq,if_pos rfl,takeStep zTask (by rw[zcu];omega)]
  congr 1
  ·rw[List.take_set_of_le (by omega)]
  ·rw[zac,zdp (by omega)];rfl
 ·rw[zac,zek (by omega),←zac]
  exact g6 k (by omega) h2
 ·show(!Nat.beq k i.toNat&&(Nat.beq k j.toNat||dd k))=false
  by_cases hki:k=i.toNat
  ·rw[hki];simp
  ·rw[g7 k (by omega),zeh,show Nat.beq k j.toNat=false by rw[←zbj,zdn];omega,zbs]
 ·show(!Nat.beq k i.toNat&&(Nat.beq k j.toNat||dd k))=false
  rw[g8 k (by omega),zeh,show Nat.beq k j.toNat=false by rw[←zbj,zdn];omega,zbs]
theorem del_skip{l:List DTask}{q:DTask→Bool}{xs:List DTask}{dd:Nat→Bool}{i j:Int}(h:delI l q xs dd i j)(hj:j<l.length)(hq:q (List.getD l j.toNat zTask)=false):delI l q xs (fun k=>Nat.beq k j.toNat||dd k) i (j+1):=by
 obtain⟨g1,g2,g3,g4,g5,g6,g7,g8⟩:=h
 have ej:(j+1).toNat=j.toNat+1:=by omega
 refine⟨by omega,by omega,by omega,g4,?_,fun k h1 h2=>g6 k (by omega) h2,fun k hk=> ?_,fun k hk=> ?_⟩
 ·rw[ej,filterStep _ zTask (by omega),←g5,hq];simp
 ·show(Nat.beq k j.toNat||dd k)=false
  rw[g7 k hk,zeh,show Nat.beq k j.toNat=false by rw[←zbj,zdn];omega]
 ·show(Nat.beq k j.toNat||dd k)=false
  rw[g8 k (by omega),zeh,show Nat.beq k j.toNat=false by rw[←zbj,zdn];omega]
theorem good_inst{d:DDef}{x:DInst}(h:instOk d x=true):goodX x:=by
 simp only[instOk,zaf,decide_eq_true_eq] at h
 exact⟨h.1.1.1.1.1.1.1.2,h.1.1.1.1.1.2,h.1.1.1.2⟩
def Zk180:Con UU where
 α:=(List DTask)×(List (DA UU)→Option Value)
 md:=[.mv,.ro]
 of:=oC (oL .eTask) (o1 oF)
 ds:=fun x=>[dL .eTask x.1,dF x.2]
 pre:=fun(l,p)=>[∀j:Nat,j<l.length→p [daTask (List.getD l j zTask)]=some (.bool (boolOf (p [daTask (List.getD l j zTask)])))]
 res:=fun(l,p)=>⟨[.one (.sl .eTask (l.filter (keepQ p)))],true,[]⟩
 law:=lC (lL .eTask) (l1 lF)
def Zi180_5(l:(List DTask))(p:(List (DA UU)→Option Value)):(List DTask×(Nat→Bool))×Int×Int×Unit→Prop:=fun((xs,dd),i,j,_)=>delI l (keepQ p) xs dd i j
def Zm180_5(l:(List DTask))(p:(List (DA UU)→Option Value)):(List DTask×(Nat→Bool))×Int×Int×Unit→Nat:=fun((xs,dd),i,j,_)=>l.length-j.toNat
def Za180:Zk180.α→Nat→Option (Ann UU):=fun(l,p)=>annL [(5,annOf [.slot 0 (0,1024) (.part .eTask),.slot 5 (5,1024) (.lit (.int .i64)),.slot 6 (6,1024) (.lit (.int .i64))] (fun _=>Zi180_5 l p) (Zm180_5 l p))]
def Zu180:=us [Zh177]
theorem Zv180(l:(List DTask))(p:(List (DA UU)→Option Value)):goal EE Zu180 Go.Proofs.Tryz.f180 Zk180 Za180 (l,p)=(let x0:Int:=idxI (l.length) fun(j:Nat)=>boolOf (p [daTask (List.getD l j zTask)]);
(∀(j:Nat),j<List.length l→p [daTask (List.getD l j zTask)]=some (Value.bool (boolOf (p [daTask (List.getD l j zTask)]))))∧
 bif x0==(-1:Int) then Lf [DV.one (Cell.sl Cd.eTask l)] [DV.one (Cell.sl Cd.eTask (List.filter (keepQ p) l))]
 else
  Zi180_5 l p ((l,fun(x:Nat)=>false),x0,IntKind.wrap IntKind.i64 (x0+(1:Int)),PUnit.unit)∧
   ∀(y:(List DTask×(Nat→Bool))×Int×Int×PUnit),
    let x4:Nat:=Int.toNat y.2.2.1;
    let x5:Nat:=List.length y.fst.1;
    let x6:Int:=Option.getD (some y.2.1) (0:Int);
    let x9:Nat:=Int.toNat y.2.1;
    let x2:DTask:=List.getD y.fst.1 x4 zTask;
    let x3:Int:=(↑x5:Int);
    let x8:Int:=Option.getD (some y.2.1) x3;
    let x1:Bool:=boolOf (p [{agg:=true,cs:=[Cell.lit (Value.string x2.F.Kind),Cell.sl Cd.eVal x2.F.Fields,Cell.lit (Value.string x2.Undo),Cell.lit (Value.int IntKind.i64 x2.State),Cell.lit (Value.int IntKind.i64 x2.Tries),Cell.lit (Value.int IntKind.i64 x2.Due),Cell.lit (Value.int IntKind.i64 x2.V.K),Cell.lit (Value.int IntKind.i64 x2.V.N),Cell.lit (Value.string x2.V.S)]:DA UU}]);
    let x7:Nat:=Int.toNat x8;
    Zi180_5 l p y→bif decide (y.2.2.1<x3) then(0:Int)≤y.2.2.1∧x4<x5∧x4<x5∧y.fst.2 x4=false∧p [{agg:=true,cs:=[Cell.lit (Value.string x2.F.Kind),Cell.sl Cd.eVal x2.F.Fields,Cell.lit (Value.string x2.Undo),Cell.lit (Value.int IntKind.i64 x2.State),Cell.lit (Value.int IntKind.i64 x2.Tries),Cell.lit (Value.int IntKind.i64 x2.Due),Cell.lit (Value.int IntKind.i64 x2.V.K),Cell.lit (Value.int IntKind.i64 x2.V.N),Cell.lit (Value.string x2.V.S)]:DA UU}]=some (Value.bool x1)∧bif !x1 then(0:Int)≤y.2.1∧x9<x5∧x9<x5∧Zi180_5 l p ((List.set y.fst.1 x9 x2,fun(j:Nat)=> !Nat.beq j x9&&(Nat.beq j x4||y.fst.2 j)),IntKind.wrap IntKind.i64 (y.2.1+(1:Int)),IntKind.wrap IntKind.i64 (y.2.2.1+(1:Int)),PUnit.unit)∧Zm180_5 l p ((List.set y.fst.1 x9 x2,fun(j:Nat)=> !Nat.beq j x9&&(Nat.beq j x4||y.fst.2 j)),IntKind.wrap IntKind.i64 (y.2.1+(1:Int)),IntKind.wrap IntKind.i64 (y.2.2.1+(1:Int)),PUnit.unit)<Zm180_5 l p y else Zi180_5 l p ((y.fst.1,fun(j:Nat)=>Nat.beq j x4||y.fst.2 j),y.2.1,IntKind.wrap IntKind.i64 (y.2.2.1+(1:Int)),PUnit.unit)∧Zm180_5 l p ((y.fst.1,fun(j:Nat)=>Nat.beq j x4||y.fst.2 j),y.2.1,IntKind.wrap IntKind.i64 (y.2.2.1+(1:Int)),PUnit.unit)<Zm180_5 l p y else(0:Int)≤x6∧x6≤Option.getD none x3∧Option.getD none x3≤x3∧Int.toNat x6≤Int.toNat (Option.getD none x3)∧Int.toNat (Option.getD none x3)=x5∧(0:Int)≤Option.getD none (0:Int)∧Option.getD none (0:Int)≤x8∧x8≤x3∧Nat.le x7 x5∧(∀(i:Nat),i<x7→(y.fst.2 i||Nat.ble (Int.toNat x6) i)=false)∧Lf [DV.one (Cell.sl Cd.eTask (List.take x7 y.fst.1))] [DV.one (Cell.sl Cd.eTask (List.filter (keepQ p) l))]):=by kernel_rfl
theorem Zo180:Holds EE (180,Zk180):=by
 refine holds_of EE_ok Go.Proofs.Tryz.func180 Zk180 (by kernel_rfl) Zu180 (us_ok _) Za180 (fun x hp hb=> ?_)
 obtain⟨l,p⟩:=x
 have hl_l:l.length≤9223372036854775807:=bdL (hb _ m0)
 have hp0:∀j:Nat,j<l.length→p [daTask (List.getD l j zTask)]=some (.bool (boolOf (p [daTask (List.getD l j zTask)]))):=hp _ m0
 clear hp hb
 rw[Zv180 l p]
 dsimp only
 refine⟨hp0,if_num (fun h=> ?_) (fun h=> ?_)⟩
 ·exact LfTk (del_none h).symm
 have hI:=del_init h
 have hI2:=hI
 obtain⟨h1,_,h2,_⟩:=hI2
 rw[wrap_i64 (by omega) (by omega)]
 refine⟨hI,?_⟩
 clear hI h1 h2 h
 rintro⟨⟨xs,dd⟩,i,j,⟨⟩⟩ hI
 have hI:delI l (keepQ p) xs dd i j:=hI
 have hI2:=hI
 obtain⟨g1,g2,g3,g4,g5,g6,g7,g8⟩:=hI2
 simp only[zcj,zdf]
 refine if_dec (fun hc=> ?_) (fun hc=> ?_)
 ·have ej:List.getD xs j.toNat zTask=List.getD l j.toNat zTask:=g6 _ (zca _) (by omega)
  rw[ej,wrap_i64 (n:=i+1) (by omega) (by omega),wrap_i64 (n:=j+1) (by omega) (by omega)]
  refine⟨by omega,by omega,by omega,g8 _ (zca _),hp0 j.toNat (by omega),if_not (fun g=> ?_) (fun g=> ?_)⟩
  ·have hq:keepQ p (List.getD l j.toNat zTask)=true:=by
    show(!boolOf (p [daTask (List.getD l j.toNat zTask)]))=true
    rw[show boolOf (p [daTask (List.getD l j.toNat zTask)])=false from g];rfl
   exact⟨g1,by omega,by omega,del_keep hI (by omega) hq,by simp only[Zm180_5];omega⟩
  ·have hq:keepQ p (List.getD l j.toNat zTask)=false:=by
    show(!boolOf (p [daTask (List.getD l j.toNat zTask)]))=false
    rw[show boolOf (p [daTask (List.getD l j.toNat zTask)])=true from g];rfl
   exact⟨del_skip hI (by omega) hq,by simp only[Zm180_5];omega⟩
 ·have e:l.take j.toNat=l:=zcy (by omega)
  rw[e] at g5
  refine⟨by omega,by omega,by omega,by omega,by omega,by omega,by omega,by omega,(show i.toNat≤xs.length by omega),fun k hk=> ?_,LfTk g5⟩
  rw[g7 k hk,zcw,←zbj,zeq];omega
def Zh180:HH:=⟨_,Zo180⟩
def Zk110:Con UU where
 α:=DInst×Int
 md:=[.box true,.ro]
 of:=oC (oX .eInst) (o1 oI)
 ds:=fun x=>[dX .eInst x.1,dI x.2]
 pre:=fun(x,state)=>[tasksOk x.Tasks=true]
 res:=fun(x,state)=>⟨[],true,[.box [.sl .eItem (((endI x state)).S).Items,.lit (.int .i64 (((endI x state)).S).Next),.sl .eMatch ((endI x state)).Fired,.sl .eTask ((endI x state)).Tasks,.sl .eTimer ((endI x state)).Timers,.sl .eUndo ((endI x state)).Undos,.lit (.int .i64 ((endI x state)).State),.lit (.int .i64 ((endI x state)).Now)]]⟩
 law:=lC (lX .eInst) (l1 lI)
def Za110:Zk110.α→Nat→Option (Ann UU):=fun(x,state)=>annL []
def Zu110:=us [Zh178]
theorem Zv110(x:DInst)(state:Int):goal EE Zu110 Go.Proofs.Tryz.f110 Zk110 Za110 (x,state)=(sizeTaskS x.Tasks≤(4294967296:Nat)∧(0:Nat)=(0:Nat)∧asD []=asD []∧asD [DV.box [Cell.sl Cd.eItem x.S.Items,Cell.lit (Value.int IntKind.i64 x.S.Next),Cell.sl Cd.eMatch x.Fired,Cell.sl Cd.eTask (giveUp x.Tasks),Cell.sl Cd.eTimer [],Cell.sl Cd.eUndo x.Undos,Cell.lit (Value.int IntKind.i64 state),Cell.lit (Value.int IntKind.i64 x.Now)]]=asD [DV.box [Cell.sl Cd.eItem (endI x state).S.Items,Cell.lit (Value.int IntKind.i64 (endI x state).S.Next),Cell.sl Cd.eMatch (endI x state).Fired,Cell.sl Cd.eTask (endI x state).Tasks,Cell.sl Cd.eTimer (endI x state).Timers,Cell.sl Cd.eUndo (endI x state).Undos,Cell.lit (Value.int IntKind.i64 (endI x state).State),Cell.lit (Value.int IntKind.i64 (endI x state).Now)]]):=by kernel_rfl
theorem Zo110:Holds EE (110,Zk110):=by
 refine holds_of EE_ok Go.Proofs.Tryz.func110 Zk110 (by kernel_rfl) Zu110 (us_ok _) Za110 (fun x hp hb=> ?_)
 obtain⟨x,state⟩:=x
 have hz0:=bdX_eInst (x:=x) (hb _ m0)
 have hl_x_S_Items:=hz0.1
 have hl_x_Fired:=hz0.2.1
 have hl_x_Tasks:=hz0.2.2.1
 have hl_x_Timers:=hz0.2.2.2.1
 have hl_x_Undos:=hz0.2.2.2.2
 have hl_state:=bdI (n:=state) (hb _ m1)
 have hp0:tasksOk x.Tasks=true:=hp _ m0
 clear hp hb
 rw[Zv110 x state]
 have:=(tasksK hp0).2
 exact⟨by omega,rfl,rfl,rfl⟩
def Zh110:HH:=⟨_,Zo110⟩
def Zk181:Con UU where
 α:=DTask×DFact
 md:=[.ro,.ro]
 of:=oC (oA .eTask) (o1 (oP .eFact))
 ds:=fun x=>[dA .eTask x.1,dP .eFact x.2]
 pre:=fun _=>[]
 res:=fun(t,f)=>⟨[.one (.lit (.bool (decide (t.F=f))))],true,[]⟩
 law:=lC (lA .eTask) (l1 (lP .eFact))
def Za181:Zk181.α→Nat→Option (Ann UU):=fun(t,f)=>annL []
def Zu181:=us [Zh168]
theorem Zv181(t:DTask)(f:DFact):goal EE Zu181 Go.Proofs.Tryz.f181 Zk181 Za181 (t,f)=(Lb (decide (t.F=f)) (decide (t.F=f))):=by kernel_rfl
theorem Zo181:Holds EE (181,Zk181):=by
 refine holds_of EE_ok Go.Proofs.Tryz.func181 Zk181 (by kernel_rfl) Zu181 (us_ok _) Za181 (fun x hp hb=> ?_)
 obtain⟨t,f⟩:=x
 have hz0:=bd_eTask (x:=t) (hb _ m0)
 have hl_t_F_Kind:=hz0.1
 have hl_t_F_Fields:=hz0.2.1
 have hl_t_Undo:=hz0.2.2.1
 have hl_t_V_S:=hz0.2.2.2
 have hz1:=bdP_eFact (x:=f) (hb _ m1)
 have hl_f_Kind:=hz1.1
 have hl_f_Fields:=hz1.2
 clear hp hb
 rw[Zv181 t f]
 exact Lf_rfl _
def Zh181:HH:=⟨_,Zo181⟩
def Zk111:Con UU where
 α:=DInst
 md:=[.box true]
 of:=o1 (oX .eInst)
 ds:=fun x=>[dX .eInst x]
 pre:=fun x=>[goodX x,x.State=3∨x.State=5]
 res:=fun x=>⟨[],true,[.box [.sl .eItem (((beginI x)).S).Items,.lit (.int .i64 (((beginI x)).S).Next),.sl .eMatch ((beginI x)).Fired,.sl .eTask ((beginI x)).Tasks,.sl .eTimer ((beginI x)).Timers,.sl .eUndo ((beginI x)).Undos,.lit (.int .i64 ((beginI x)).State),.lit (.int .i64 ((beginI x)).Now)]]⟩
 law:=l1 (lX .eInst)
def Za111:Zk111.α→Nat→Option (Ann UU):=fun x=>annL []
def Zu111:=us [Zh179,Zh110,Zh180,Zh181,Zh182]
theorem Zv111(x:DInst):goal EE Zu111 Go.Proofs.Tryz.f111 Zk111 Za111 x=(let x0:List DTask:=List.filter (keepQ (closP Zk181 [DV.ptr [Cell.lit (Value.string (undoLast x.Undos).Kind),Cell.sl Cd.eVal (undoLast x.Undos).Fields]])) x.Tasks;
sizeUndoS x.Undos≤(4294967296:Nat)∧bif !decide ¬x.Undos=[] then bif x.State==(5:Int) then tasksOk x.Tasks=true∧(0:Nat)=(0:Nat)∧asD []=asD []∧asD [DV.box [Cell.sl Cd.eItem (endI x (6:Int)).S.Items,Cell.lit (Value.int IntKind.i64 (endI x (6:Int)).S.Next),Cell.sl Cd.eMatch (endI x (6:Int)).Fired,Cell.sl Cd.eTask (endI x (6:Int)).Tasks,Cell.sl Cd.eTimer (endI x (6:Int)).Timers,Cell.sl Cd.eUndo (endI x (6:Int)).Undos,Cell.lit (Value.int IntKind.i64 (endI x (6:Int)).State),Cell.lit (Value.int IntKind.i64 (endI x (6:Int)).Now)]]=asD [DV.box [Cell.sl Cd.eItem (beginI x).S.Items,Cell.lit (Value.int IntKind.i64 (beginI x).S.Next),Cell.sl Cd.eMatch (beginI x).Fired,Cell.sl Cd.eTask (beginI x).Tasks,Cell.sl Cd.eTimer (beginI x).Timers,Cell.sl Cd.eUndo (beginI x).Undos,Cell.lit (Value.int IntKind.i64 (beginI x).State),Cell.lit (Value.int IntKind.i64 (beginI x).Now)]] else tasksOk x.Tasks=true∧(0:Nat)=(0:Nat)∧asD []=asD []∧asD [DV.box [Cell.sl Cd.eItem (endI x (4:Int)).S.Items,Cell.lit (Value.int IntKind.i64 (endI x (4:Int)).S.Next),Cell.sl Cd.eMatch (endI x (4:Int)).Fired,Cell.sl Cd.eTask (endI x (4:Int)).Tasks,Cell.sl Cd.eTimer (endI x (4:Int)).Timers,Cell.sl Cd.eUndo (endI x (4:Int)).Undos,Cell.lit (Value.int IntKind.i64 (endI x (4:Int)).State),Cell.lit (Value.int IntKind.i64 (endI x (4:Int)).Now)]]=asD [DV.box [Cell.sl Cd.eItem (beginI x).S.Items,Cell.lit (Value.int IntKind.i64 (beginI x).S.Next),Cell.sl Cd.eMatch (beginI x).Fired,Cell.sl Cd.eTask (beginI x).Tasks,Cell.sl Cd.eTimer (beginI x).Timers,Cell.sl Cd.eUndo (beginI x).Undos,Cell.lit (Value.int IntKind.i64 (beginI x).State),Cell.lit (Value.int IntKind.i64 (beginI x).Now)]] else(∀(j:Nat),j<List.length x.Tasks→closP Zk181 [DV.ptr [Cell.lit (Value.string (undoLast x.Undos).Kind),Cell.sl Cd.eVal (undoLast x.Undos).Fields]] [daTask (List.getD x.Tasks j zTask)]=some (Value.bool (boolOf (closP Zk181 [DV.ptr [Cell.lit (Value.string (undoLast x.Undos).Kind),Cell.sl Cd.eVal (undoLast x.Undos).Fields]] [daTask (List.getD x.Tasks j zTask)]))))∧bif decide ((↑(List.length x0):Int)≥(30:Int)) then sizeTaskS []≤(4294967296:Nat)∧List.length (undoLast x.Undos).Fields≤(4294967296:Nat)∧(0:Nat)=(0:Nat)∧asD []=asD []∧asD [DV.box [Cell.sl Cd.eItem x.S.Items,Cell.lit (Value.int IntKind.i64 x.S.Next),Cell.sl Cd.eMatch x.Fired,Cell.sl Cd.eTask (startTask [] {Kind:=(undoLast x.Undos).Kind,Fields:=(undoLast x.Undos).Fields:DFact} {data:= #[]:ByteArray} x.Now).1,Cell.sl Cd.eTimer x.Timers,Cell.sl Cd.eUndo x.Undos,Cell.lit (Value.int IntKind.i64 x.State),Cell.lit (Value.int IntKind.i64 x.Now)]]=asD [DV.box [Cell.sl Cd.eItem (beginI x).S.Items,Cell.lit (Value.int IntKind.i64 (beginI x).S.Next),Cell.sl Cd.eMatch (beginI x).Fired,Cell.sl Cd.eTask (beginI x).Tasks,Cell.sl Cd.eTimer (beginI x).Timers,Cell.sl Cd.eUndo (beginI x).Undos,Cell.lit (Value.int IntKind.i64 (beginI x).State),Cell.lit (Value.int IntKind.i64 (beginI x).Now)]] else sizeTaskS x0≤(4294967296:Nat)∧List.length (undoLast x.Undos).Fields≤(4294967296:Nat)∧(0:Nat)=(0:Nat)∧asD []=asD []∧asD [DV.box [Cell.sl Cd.eItem x.S.Items,Cell.lit (Value.int IntKind.i64 x.S.Next),Cell.sl Cd.eMatch x.Fired,Cell.sl Cd.eTask (startTask {τ:=Cd.eTask,xs:=x0:Arr UU}.xs {Kind:=(undoLast x.Undos).Kind,Fields:=(undoLast x.Undos).Fields:DFact} {data:= #[]:ByteArray} x.Now).1,Cell.sl Cd.eTimer x.Timers,Cell.sl Cd.eUndo x.Undos,Cell.lit (Value.int IntKind.i64 x.State),Cell.lit (Value.int IntKind.i64 x.Now)]]=asD [DV.box [Cell.sl Cd.eItem (beginI x).S.Items,Cell.lit (Value.int IntKind.i64 (beginI x).S.Next),Cell.sl Cd.eMatch (beginI x).Fired,Cell.sl Cd.eTask (beginI x).Tasks,Cell.sl Cd.eTimer (beginI x).Timers,Cell.sl Cd.eUndo (beginI x).Undos,Cell.lit (Value.int IntKind.i64 (beginI x).State),Cell.lit (Value.int IntKind.i64 (beginI x).Now)]]):=by kernel_rfl
theorem Zo111:Holds EE (111,Zk111):=by
 refine holds_of EE_ok Go.Proofs.Tryz.func111 Zk111 (by kernel_rfl) Zu111 (us_ok _) Za111 (fun(x:DInst) hp hb=> ?_)
 have hz0:=bdX_eInst (x:=x) (hb _ m0)
 have hl_x_S_Items:=hz0.1
 have hl_x_Fired:=hz0.2.1
 have hl_x_Tasks:=hz0.2.2.1
 have hl_x_Timers:=hz0.2.2.2.1
 have hl_x_Undos:=hz0.2.2.2.2
 have hp0:goodX x:=hp _ m0
 have hp1:x.State=3∨x.State=5:=hp _ m1
 clear hp hb
 rw[Zv111 x]
 dsimp only
 have hgx:=hp0
 obtain⟨q1,q2,q3,q4⟩:=hp0
 have k3:=(undosK q2).2.2
 have hc:∀t:DTask,closP Zk181 [.ptr [.lit (.string (undoLast x.Undos).Kind),.sl .eVal (undoLast x.Undos).Fields]] [daTask t]=some (.bool (decide (t.F=undoLast x.Undos))):=fun t=>closP_of (x:=(t,undoLast x.Undos)) rfl rfl rfl rfl (by simp[Zk181])
 have hx:List.filter (keepQ (closP Zk181 [.ptr [.lit (.string (undoLast x.Undos).Kind),.sl .eVal (undoLast x.Undos).Fields]])) x.Tasks=restF x.Tasks (undoLast x.Undos):=by
  unfold restF;congr 1;funext t;unfold keepQ;rw[hc];rfl
 simp only[hx]
 have hs:=(tasksK (tasksOk_filter (fun t=> !decide (t.F=undoLast x.Undos)) q1)).2
 have hs:sizeTaskS (restF x.Tasks (undoLast x.Undos))≤6000:=hs
 refine⟨by omega,if_not (fun h=> ?_) (fun h=> ?_)⟩
 ·have hu:x.Undos=[]:=by simpa using h
  refine if_num (fun g=>⟨q1,by trivial,by trivial,outI ?_⟩) (fun g=>⟨q1,by trivial,by trivial,outI ?_⟩)
  ·rw[beginI,if_pos hu,if_pos g]
  ·rw[beginI,if_pos hu,if_neg g]
 ·have hu:¬x.Undos=[]:=by simpa using h
  have hf:=(factK (undoLast_ok q2 hu)).1
  have e:=startU_eq hgx hu
  have eb:beginI x=⟨x.S,x.Fired,startU x,x.Timers,x.Undos,x.State,x.Now⟩:=if_neg hu
  refine⟨fun j hj=>by rw[hc];rfl,if_dec (fun g=> ?_) (fun g=> ?_)⟩
  ·rw[show freeF x.Tasks (undoLast x.Undos)=[] from if_pos (by omega)] at e
   exact⟨by simp[sizeTaskS],by omega,by trivial,by trivial,outI (a:=⟨x.S,x.Fired,(startTask [] (undoLast x.Undos) noBytes x.Now).1,x.Timers,x.Undos,x.State,x.Now⟩) (by rw[e,eb])⟩
  ·rw[show freeF x.Tasks (undoLast x.Undos)=restF x.Tasks (undoLast x.Undos) from if_neg (by omega)] at e
   exact⟨by omega,by omega,by trivial,by trivial,outI (a:=⟨x.S,x.Fired,(startTask (restF x.Tasks (undoLast x.Undos)) (undoLast x.Undos) noBytes x.Now).1,x.Timers,x.Undos,x.State,x.Now⟩) (by rw[e,eb])⟩
def Zh111:HH:=⟨_,Zo111⟩
def Zk39:Con UU where
 α:=DInst×Int
 md:=[.box true,.ro]
 of:=oC (oX .eInst) (o1 oI)
 ds:=fun x=>[dX .eInst x.1,dI x.2]
 pre:=fun(x,state)=>[goodX x,state=3∨state=5]
 res:=fun(x,state)=>⟨[],true,[.box [.sl .eItem (((turnI x state)).S).Items,.lit (.int .i64 (((turnI x state)).S).Next),.sl .eMatch ((turnI x state)).Fired,.sl .eTask ((turnI x state)).Tasks,.sl .eTimer ((turnI x state)).Timers,.sl .eUndo ((turnI x state)).Undos,.lit (.int .i64 ((turnI x state)).State),.lit (.int .i64 ((turnI x state)).Now)]]⟩
 law:=lC (lX .eInst) (l1 lI)
def Za39:Zk39.α→Nat→Option (Ann UU):=fun(x,state)=>annL []
def Zu39:=us [Zh110,Zh111]
theorem Zv39(x:DInst)(state:Int):goal EE Zu39 Go.Proofs.Tryz.f39 Zk39 Za39 (x,state)=(tasksOk x.Tasks=true∧goodX (endI x state)∧((endI x state).State=(3:Int)∨(endI x state).State=(5:Int))∧(0:Nat)=(0:Nat)∧asD []=asD []∧asD [DV.box [Cell.sl Cd.eItem (beginI (endI x state)).S.Items,Cell.lit (Value.int IntKind.i64 (beginI (endI x state)).S.Next),Cell.sl Cd.eMatch (beginI (endI x state)).Fired,Cell.sl Cd.eTask (beginI (endI x state)).Tasks,Cell.sl Cd.eTimer (beginI (endI x state)).Timers,Cell.sl Cd.eUndo (beginI (endI x state)).Undos,Cell.lit (Value.int IntKind.i64 (beginI (endI x state)).State),Cell.lit (Value.int IntKind.i64 (beginI (endI x state)).Now)]]=asD [DV.box [Cell.sl Cd.eItem (turnI x state).S.Items,Cell.lit (Value.int IntKind.i64 (turnI x state).S.Next),Cell.sl Cd.eMatch (turnI x state).Fired,Cell.sl Cd.eTask (turnI x state).Tasks,Cell.sl Cd.eTimer (turnI x state).Timers,Cell.sl Cd.eUndo (turnI x state).Undos,Cell.lit (Value.int IntKind.i64 (turnI x state).State),Cell.lit (Value.int IntKind.i64 (turnI x state).Now)]]):=by kernel_rfl
theorem Zo39:Holds EE (39,Zk39):=by
 refine holds_of EE_ok Go.Proofs.Tryz.func39 Zk39 (by kernel_rfl) Zu39 (us_ok _) Za39 (fun x hp hb=> ?_)
 obtain⟨x,state⟩:=x
 have hz0:=bdX_eInst (x:=x) (hb _ m0)
 have hl_x_S_Items:=hz0.1
 have hl_x_Fired:=hz0.2.1
 have hl_x_Tasks:=hz0.2.2.1
 have hl_x_Timers:=hz0.2.2.2.1
 have hl_x_Undos:=hz0.2.2.2.2
 have hl_state:=bdI (n:=state) (hb _ m1)
 have hp0:goodX x:=hp _ m0
 have hp1:state=3∨state=5:=hp _ m1
 clear hp hb
 rw[Zv39 x state]
 exact⟨hp0.1,goodX_end hp0 _,hp1,rfl,rfl,rfl⟩
def Zh39:HH:=⟨_,Zo39⟩
def Zk137:Con UU where
 α:=DInst
 md:=[.box true]
 of:=o1 (oX .eInst)
 ds:=fun x=>[dX .eInst x]
 pre:=fun x=>[goodX x]
 res:=fun x=>⟨[],true,[.box [.sl .eItem (((turnI x 3)).S).Items,.lit (.int .i64 (((turnI x 3)).S).Next),.sl .eMatch ((turnI x 3)).Fired,.sl .eTask ((turnI x 3)).Tasks,.sl .eTimer ((turnI x 3)).Timers,.sl .eUndo ((turnI x 3)).Undos,.lit (.int .i64 ((turnI x 3)).State),.lit (.int .i64 ((turnI x 3)).Now)]]⟩
 law:=l1 (lX .eInst)
def Za137:Zk137.α→Nat→Option (Ann UU):=fun x=>annL []
def Zu137:=us [Zh39]
theorem Zv137(x:DInst):goal EE Zu137 Go.Proofs.Tryz.f137 Zk137 Za137 x=(goodX x∧((3:Int)=(3:Int)∨(3:Int)=(5:Int))∧(0:Nat)=(0:Nat)∧asD []=asD []∧asD [DV.box [Cell.sl Cd.eItem (turnI x (3:Int)).S.Items,Cell.lit (Value.int IntKind.i64 (turnI x (3:Int)).S.Next),Cell.sl Cd.eMatch (turnI x (3:Int)).Fired,Cell.sl Cd.eTask (turnI x (3:Int)).Tasks,Cell.sl Cd.eTimer (turnI x (3:Int)).Timers,Cell.sl Cd.eUndo (turnI x (3:Int)).Undos,Cell.lit (Value.int IntKind.i64 (turnI x (3:Int)).State),Cell.lit (Value.int IntKind.i64 (turnI x (3:Int)).Now)]]=asD [DV.box [Cell.sl Cd.eItem (turnI x (3:Int)).S.Items,Cell.lit (Value.int IntKind.i64 (turnI x (3:Int)).S.Next),Cell.sl Cd.eMatch (turnI x (3:Int)).Fired,Cell.sl Cd.eTask (turnI x (3:Int)).Tasks,Cell.sl Cd.eTimer (turnI x (3:Int)).Timers,Cell.sl Cd.eUndo (turnI x (3:Int)).Undos,Cell.lit (Value.int IntKind.i64 (turnI x (3:Int)).State),Cell.lit (Value.int IntKind.i64 (turnI x (3:Int)).Now)]]):=by kernel_rfl
theorem Zo137:Holds EE (137,Zk137):=by
 refine holds_of EE_ok Go.Proofs.Tryz.func137 Zk137 (by kernel_rfl) Zu137 (us_ok _) Za137 (fun(x:DInst) hp hb=> ?_)
 have hz0:=bdX_eInst (x:=x) (hb _ m0)
 have hl_x_S_Items:=hz0.1
 have hl_x_Fired:=hz0.2.1
 have hl_x_Tasks:=hz0.2.2.1
 have hl_x_Timers:=hz0.2.2.2.1
 have hl_x_Undos:=hz0.2.2.2.2
 have hp0:goodX x:=hp _ m0
 clear hp hb
 rw[Zv137 x]
 exact⟨hp0,.inl rfl,rfl,rfl,rfl⟩
def Zh137:HH:=⟨_,Zo137⟩
def Zk156:Con UU where
 α:=DInst×Int
 md:=[.box true,.ro]
 of:=oC (oX .eInst) (o1 oI)
 ds:=fun x=>[dX .eInst x.1,dI x.2]
 pre:=fun(x,state)=>[tasksOk x.Tasks=true]
 res:=fun(x,state)=>⟨[],true,[.box [.sl .eItem (((endI x state)).S).Items,.lit (.int .i64 (((endI x state)).S).Next),.sl .eMatch ((endI x state)).Fired,.sl .eTask ((endI x state)).Tasks,.sl .eTimer ((endI x state)).Timers,.sl .eUndo ((endI x state)).Undos,.lit (.int .i64 ((endI x state)).State),.lit (.int .i64 ((endI x state)).Now)]]⟩
 law:=lC (lX .eInst) (l1 lI)
def Za156:Zk156.α→Nat→Option (Ann UU):=fun(x,state)=>annL []
def Zu156:=us [Zh86]
theorem Zv156(x:DInst)(state:Int):goal EE Zu156 Go.Proofs.Tryz.f156 Zk156 Za156 (x,state)=(sizeTaskS x.Tasks≤(4294967296:Nat)∧(0:Nat)=(0:Nat)∧asD []=asD []∧asD [DV.box [Cell.sl Cd.eItem x.S.Items,Cell.lit (Value.int IntKind.i64 x.S.Next),Cell.sl Cd.eMatch x.Fired,Cell.sl Cd.eTask (giveUp x.Tasks),Cell.sl Cd.eTimer [],Cell.sl Cd.eUndo x.Undos,Cell.lit (Value.int IntKind.i64 state),Cell.lit (Value.int IntKind.i64 x.Now)]]=asD [DV.box [Cell.sl Cd.eItem (endI x state).S.Items,Cell.lit (Value.int IntKind.i64 (endI x state).S.Next),Cell.sl Cd.eMatch (endI x state).Fired,Cell.sl Cd.eTask (endI x state).Tasks,Cell.sl Cd.eTimer (endI x state).Timers,Cell.sl Cd.eUndo (endI x state).Undos,Cell.lit (Value.int IntKind.i64 (endI x state).State),Cell.lit (Value.int IntKind.i64 (endI x state).Now)]]):=by kernel_rfl
theorem Zo156:Holds EE (156,Zk156):=by
 refine holds_of EE_ok Go.Proofs.Tryz.func156 Zk156 (by kernel_rfl) Zu156 (us_ok _) Za156 (fun x hp hb=> ?_)
 obtain⟨x,state⟩:=x
 have hz0:=bdX_eInst (x:=x) (hb _ m0)
 have hl_x_S_Items:=hz0.1
 have hl_x_Fired:=hz0.2.1
 have hl_x_Tasks:=hz0.2.2.1
 have hl_x_Timers:=hz0.2.2.2.1
 have hl_x_Undos:=hz0.2.2.2.2
 have hl_state:=bdI (n:=state) (hb _ m1)
 have hp0:tasksOk x.Tasks=true:=hp _ m0
 clear hp hb
 rw[Zv156 x state]
 have:=(tasksK hp0).2
 exact⟨by omega,rfl,rfl,rfl⟩
def Zh156:HH:=⟨_,Zo156⟩
end
end AM
