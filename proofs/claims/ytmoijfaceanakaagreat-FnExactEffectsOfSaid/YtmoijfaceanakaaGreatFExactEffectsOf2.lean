/- Functions of the program with their contracts: put together by gen/link.py for FnExactEffectsOf. -/
import Derived.Test.YtmoijfaceanakaaGreatAmLib
import Derived.Test.YtmoijfaceanakaaGreatFExactEffectsOf
namespace AM
open Go
set_option linter.unusedVariables false
set_option linter.unusedSimpArgs false
set_option maxRecDepth 100000
noncomputable section
def Zk180:Con UU where
 α:=(List DRule)×(List (DA UU)→Option Value)
 md:=[.ro,.ro]
 of:=oC (oL .eRule) (o1 oF)
 ds:=fun x=>[dL .eRule x.1,dF x.2]
 pre:=fun(l,p)=>[∀j:Nat,j<l.length→p [daRule (List.getD l j zRule)]=some (.bool (boolOf (p [daRule (List.getD l j zRule)])))]
 res:=fun(l,p)=>⟨[.one (.lit (.int .i64 (idxI l.length (fun j=>boolOf (p [daRule (List.getD l j zRule)])))))],true,[]⟩
 law:=lC (lL .eRule) (l1 lF)
def Zi180_2(l:(List DRule))(p:(List (DA UU)→Option Value)):Int×Unit→Prop:=fun(i,_)=>0≤i∧i≤l.length∧∀j:Nat,(j:Int)<i→boolOf (p [daRule (List.getD l j zRule)])=false
def Zm180_2(l:(List DRule))(p:(List (DA UU)→Option Value)):Int×Unit→Nat:=fun(i,_)=>l.length-i.toNat
def Za180:Zk180.α→Nat→Option (Ann UU):=fun(l,p)=>annL [(2,annOf [.slot 8 (8,1024) (.lit (.int .i64))] (fun _=>Zi180_2 l p) (Zm180_2 l p))]
def Zu180:List (FuncId×Con UU):=[]
theorem Zv180(l:(List DRule))(p:(List (DA UU)→Option Value)):goal EE Zu180 Go.Proofs.Tryz.f180 Zk180 Za180 (l,p)=(Zi180_2 l p ((0:Int),())∧
 ∀(y:Int×PUnit),
  let x1:DRule:=List.getD l (Int.toNat y.1) zRule;
  let x0:Bool:=boolOf (p [{agg:=true,cs:=[Cell.lit (Value.string x1.Name),Cell.lit (Value.int IntKind.i64 x1.Sal),Cell.sl Cd.ePat x1.Pats,Cell.sl Cd.eCond x1.Conds,Cell.sl Cd.eAct x1.Acts]:DA UU}]);
  Zi180_2 l p y→bif decide (y.1<(↑(List.length l):Int)) then(0:Int)≤y.1∧Int.toNat y.1<List.length l∧p [{agg:=true,cs:=[Cell.lit (Value.string x1.Name),Cell.lit (Value.int IntKind.i64 x1.Sal),Cell.sl Cd.ePat x1.Pats,Cell.sl Cd.eCond x1.Conds,Cell.sl Cd.eAct x1.Acts]:DA UU}]=some (Value.bool x0)∧bif x0 then Lf [DV.one (Cell.lit (Value.int IntKind.i64 y.1))] [DV.one (Cell.lit (Value.int IntKind.i64 (idxI (List.length l) fun(j:Nat)=>boolOf (p [daRule (List.getD l j zRule)]))))] else Zi180_2 l p (IntKind.wrap IntKind.i64 (y.1+(1:Int)),PUnit.unit)∧Zm180_2 l p (IntKind.wrap IntKind.i64 (y.1+(1:Int)),PUnit.unit)<Zm180_2 l p y else Lf [DV.one (Cell.lit (Value.int IntKind.i64 (-1:Int)))] [DV.one (Cell.lit (Value.int IntKind.i64 (idxI (List.length l) fun(j:Nat)=>boolOf (p [daRule (List.getD l j zRule)]))))]):=by kernel_rfl
theorem Zo180:Holds EE (180,Zk180):=by
 refine holds_of EE_ok Go.Proofs.Tryz.func180 Zk180 (by kernel_rfl) Zu180 all_nil Za180 (fun x hp hb=> ?_)
 obtain⟨l,p⟩:=x
 have hl_l:l.length≤9223372036854775807:=bdL (hb _ m0)
 have hp0:∀j:Nat,j<l.length→p [daRule (List.getD l j zRule)]=some (.bool (boolOf (p [daRule (List.getD l j zRule)]))):=hp _ m0
 clear hp hb
 rw[Zv180 l p]
 dsimp only
 refine⟨⟨by omega,by omega,by intro j hj;omega⟩,?_⟩
 rintro⟨i,⟨⟩⟩ ⟨h1,h2,hR⟩
 simp only[daRule] at*
 refine if_cond (fun hc=> ?_) (fun hc=> ?_)
 ·have hc:=of_decide_eq_true hc
  rw[wrap_i64 (by omega) (by omega)]
  refine⟨by omega,by omega,hp0 i.toNat (by omega),if_cond (fun h=>Lf_i ?_) (fun h=>⟨⟨by omega,by omega,upto_no (p:=fun j=>boolOf (p [daRule (List.getD l j zRule)])) h1 hR h⟩,by simp only[Zm180_2];omega⟩)⟩
  rw[idxI_found (i:=i.toNat) (by omega) h (fun j hj=>hR j (by omega))]
  omega
 ·have hc:=of_decide_eq_false hc
  exact Lf_i (idxI_none (fun j hj=>hR j (by omega))).symm
def Zh180:HH:=⟨_,Zo180⟩
def Zk181:Con UU where
 α:=DRule×ByteArray
 md:=[.ro,.ro]
 of:=fun|[.agg [.lit (.string a0),.lit (.int .i64 a1),.sl .ePat a2,.sl .eCond a3,.sl .eAct a4],.ptr [.lit (.string a5)]]=>some (⟨a0,a1,a2,a3,a4⟩,a5)|_=>none
 ds:=fun(r,name)=>[.agg [.lit (.string r.Name),.lit (.int .i64 r.Sal),.sl .ePat r.Pats,.sl .eCond r.Conds,.sl .eAct r.Acts],.ptr [.lit (.string name)]]
 pre:=fun(r,name)=>[]
 res:=fun(r,name)=>⟨[.one (.lit (.bool (decide (r.Name=name))))],true,[]⟩
 law:=by intro l x h;(try simp only at h);split at h<;>cases h;rfl
def Za181:Zk181.α→Nat→Option (Ann UU):=fun(r,name)=>annL []
def Zu181:List (FuncId×Con UU):=[]
theorem Zv181(r:DRule)(name:ByteArray):goal EE Zu181 Go.Proofs.Tryz.f181 Zk181 Za181 (r,name)=(Lb (ByteArray.toList r.Name==ByteArray.toList name) (decide (r.Name=name))):=by kernel_rfl
theorem Zo181:Holds EE (181,Zk181):=by
 refine holds_of EE_ok Go.Proofs.Tryz.func181 Zk181 (by kernel_rfl) Zu181 all_nil Za181 (fun x hp hb=> ?_)
 obtain⟨r,name⟩:=x
 have hb_r:BdDV (U:=UU) (.agg [.lit (.string r.Name),.lit (.int .i64 r.Sal),.sl .ePat r.Pats,.sl .eCond r.Conds,.sl .eAct r.Acts]):=hb _ (List.mem_cons_self)
 have hl_r_Name:r.Name.size≤9223372036854775807:=Bd.str (hb_r _ (by simp))
 have hl_r_Pats:r.Pats.length≤9223372036854775807:=Bd.len (U:=UU) (τ:=.ePat) (xs:=r.Pats) (hb_r _ (by simp))
 have hl_r_Conds:r.Conds.length≤9223372036854775807:=Bd.len (U:=UU) (τ:=.eCond) (xs:=r.Conds) (hb_r _ (by simp))
 have hl_r_Acts:r.Acts.length≤9223372036854775807:=Bd.len (U:=UU) (τ:=.eAct) (xs:=r.Acts) (hb_r _ (by simp))
 have hb_name:BdDV (U:=UU) (.ptr [.lit (.string name)]):=hb _ (List.mem_cons_of_mem _ (List.mem_cons_self))
 have hl_name:name.size≤9223372036854775807:=Bd.str (hb_name _ (by simp))
 clear hp hb
 rw[Zv181 r name]
 rw[toList_beq]
 exact Lf_rfl _
def Zh181:HH:=⟨_,Zo181⟩
def Zk116:Con UU where
 α:=DDef×ByteArray
 md:=[.ro,.ro]
 of:=oC (oA .eDef) (o1 oS)
 ds:=fun x=>[dA .eDef x.1,dS x.2]
 pre:=fun _=>[]
 res:=fun(d,name)=>⟨[.one (.lit (.int .i64 (ruleAt d.Rules name)))],true,[]⟩
 law:=lC (lA .eDef) (l1 lS)
def Za116:Zk116.α→Nat→Option (Ann UU):=fun(d,name)=>annL []
def Zu116:=us [Zh180,Zh181]
theorem Zv116(d:DDef)(name:ByteArray):goal EE Zu116 Go.Proofs.Tryz.f116 Zk116 Za116 (d,name)=((∀(j:Nat),j<d.Rules.length→closP Zk181 [DV.ptr [Cell.lit (Value.string name)]] [daRule (List.getD d.Rules j zRule)]=some (Value.bool (boolOf (closP Zk181 [DV.ptr [Cell.lit (Value.string name)]] [daRule (List.getD d.Rules j zRule)]))))∧Li (idxI (d.Rules.length) fun(j:Nat)=>boolOf (closP Zk181 [DV.ptr [Cell.lit (Value.string name)]] [daRule (List.getD d.Rules j zRule)])) (ruleAt d.Rules name)):=by kernel_rfl
theorem Zo116:Holds EE (116,Zk116):=by
 refine holds_of EE_ok Go.Proofs.Tryz.func116 Zk116 (by kernel_rfl) Zu116 (us_ok _) Za116 (fun x hp hb=> ?_)
 obtain⟨d,name⟩:=x
 have hz0:=bd_eDef (x:=d) (hb _ m0)
 have hl_d_Name:=hz0.1
 have hl_d_Rules:=hz0.2
 have hl_name:=bdS (s:=name) (hb _ m1)
 clear hp hb
 rw[Zv116 d name]
 have hc:∀x:DRule,closP Zk181 [.ptr [.lit (.string name)]] [daRule x]=some (.bool (decide (x.Name=name))):=fun x=>closP_of (x:=(x,name)) rfl rfl rfl rfl (by simp[Zk181])
 refine⟨fun j hj=> ?_,Lf_i ?_⟩
 ·show closP Zk181 [.ptr [.lit (.string name)]] [daRule (List.getD d.Rules j zRule)]=_
  rw[hc];rfl
 ·exact idxI_congr fun j hj=>by
   show boolOf (closP Zk181 [.ptr [.lit (.string name)]] [daRule (List.getD d.Rules j zRule)])=_
   rw[hc];rfl
def Zh116:HH:=⟨_,Zo116⟩
def Zk103:Con UU where
 α:=DDef×ByteArray
 md:=[.ro,.ro]
 of:=oC (oA .eDef) (o1 oS)
 ds:=fun x=>[dA .eDef x.1,dS x.2]
 pre:=fun _=>[]
 res:=fun(d,name)=>⟨[.one (.lit (.int .i64 (ruleAt d.Rules name)))],true,[]⟩
 law:=lC (lA .eDef) (l1 lS)
def Zi103_2(d:DDef)(name:ByteArray):Int×(ByteArray×List DRule×Unit)×Unit→Prop:=fun(i,fb,_)=>fb=(d.Name,d.Rules,())∧0≤i∧i≤d.Rules.length∧∀j:Nat,(j:Int)<i→decide ((List.getD d.Rules j zRule).Name=name)=false
def Zm103_2(d:DDef)(name:ByteArray):Int×(ByteArray×List DRule×Unit)×Unit→Nat:=fun(i,fb,_)=>d.Rules.length-i.toNat
def Za103:Zk103.α→Nat→Option (Ann UU):=fun(d,name)=>annL [(2,annOf [.slot 5 (5,1024) (.lit (.int .i64)),.box 2 (2,1024) [.lit .str,.shr .eRule]] (fun _=>Zi103_2 d name) (Zm103_2 d name))]
def Zu103:List (FuncId×Con UU):=[]
theorem Zv103(d:DDef)(name:ByteArray):goal EE Zu103 Go.Proofs.Tryz.f103 Zk103 Za103 (d,name)=(Zi103_2 d name ((0:Int),(d.Name,d.Rules,()),())∧
 ∀(y:Int×(ByteArray×List DRule×PUnit)×PUnit),
  let x1:Nat:=List.length y.2.1.2.1;
  let x0:Int:=(↑x1:Int);
  Zi103_2 d name y→bif decide (y.1<x0) then(0:Int)≤y.1∧Int.toNat y.1<x1∧bif ByteArray.toList (List.getD y.2.1.2.1 (Int.toNat y.1) zRule).Name==ByteArray.toList name then Lf [DV.one (Cell.lit (Value.int IntKind.i64 y.1))] [DV.one (Cell.lit (Value.int IntKind.i64 (ruleAt d.Rules name)))] else Zi103_2 d name (IntKind.wrap IntKind.i64 (y.1+(1:Int)),(y.2.1.1,y.2.1.2.1,PUnit.unit),PUnit.unit)∧Zm103_2 d name (IntKind.wrap IntKind.i64 (y.1+(1:Int)),(y.2.1.1,y.2.1.2.1,PUnit.unit),PUnit.unit)<Zm103_2 d name y else Lf [DV.one (Cell.lit (Value.int IntKind.i64 (-1:Int)))] [DV.one (Cell.lit (Value.int IntKind.i64 (ruleAt d.Rules name)))]):=by kernel_rfl
theorem Zo103:Holds EE (103,Zk103):=by
 refine holds_of EE_ok Go.Proofs.Tryz.func103 Zk103 (by kernel_rfl) Zu103 all_nil Za103 (fun x hp hb=> ?_)
 obtain⟨d,name⟩:=x
 have hz0:=bd_eDef (x:=d) (hb _ m0)
 have hl_d_Name:=hz0.1
 have hl_d_Rules:=hz0.2
 have hl_name:=bdS (s:=name) (hb _ m1)
 clear hp hb
 rw[Zv103 d name]
 dsimp only
 refine⟨⟨rfl,by omega,by omega,by intro j hj;omega⟩,?_⟩
 rintro⟨i,fb,⟨⟩⟩ ⟨rfl,h1,h2,hR⟩
 simp only
 refine if_cond (fun hc=> ?_) (fun hc=> ?_)
 ·have hc:i<d.Rules.length:=of_decide_eq_true hc
  simp(disch:=omega) only[wrap_i64,toList_beq]
  refine⟨by omega,by omega,if_cond (fun h=>Lf_i ?_) (fun h=>⟨⟨rfl,by omega,by omega,upto_no (p:=fun j=>decide ((List.getD d.Rules j zRule).Name=name)) h1 hR h⟩,by simp only[Zm103_2];omega⟩)⟩
  rw[ruleAt,idxI_found (i:=i.toNat) (by omega) h (fun j hj=>hR j (by omega))]
  omega
 ·have hc:¬i<d.Rules.length:=of_decide_eq_false hc
  exact Lf_i (idxI_none (fun j hj=>hR j (by omega))).symm
def Zh103:HH:=⟨_,Zo103⟩
def Zk35:Con UU where
 α:=DDef
 md:=[.ro]
 of:=o1 (oA .eDef)
 ds:=fun x=>[dA .eDef x]
 pre:=fun d=>[sizeDef d≤4294967295]
 res:=fun d=>⟨[.one (.lit (.bool (defOk d)))],true,[]⟩
 law:=l1 (lA .eDef)
def Zi35_2(d:DDef):Int×(ByteArray×List DRule×Unit)×Unit→Prop:=fun(i,b,_)=>b=(d.Name,d.Rules,())∧0≤i∧i≤d.Rules.length∧∀j:Nat,(j:Int)<i→defAtR d.Rules j=true
def Zm35_2(d:DDef):Int×(ByteArray×List DRule×Unit)×Unit→Nat:=fun(i,b,_)=>d.Rules.length-i.toNat
def Za35:Zk35.α→Nat→Option (Ann UU):=fun d=>annL [(2,annOf [.slot 3 (3,1024) (.lit (.int .i64)),.box 1 (1,1024) [.lit .str,.shr .eRule]] (fun _=>Zi35_2 d) (Zm35_2 d))]
def Zu35:=us [Zh102,Zh103,Zh71,Zh40]
theorem Zv35(d:DDef):goal EE Zu35 Go.Proofs.Tryz.f35 Zk35 Za35 d=(Zi35_2 d ((0:Int),(d.Name,d.Rules,()),())∧
 ∀(y:Int×(ByteArray×List DRule×PUnit)×PUnit),
  let x1:DRule:=List.getD y.2.1.2.1 (Int.toNat y.1) zRule;
  let x2:Nat:=List.length y.2.1.2.1;
  let x0:Int:=(↑x2:Int);
  Zi35_2 d y→bif decide (y.1<x0) then(0:Int)≤y.1∧Int.toNat y.1<x2∧patArgs x1.Pats≤(4294967295:Nat)∧bif !ruleOk x1 then Lf [DV.one (Cell.lit (Value.bool false))] [DV.one (Cell.lit (Value.bool (defOk d)))] else(0:Int)≤y.1∧Int.toNat y.1<x2∧bif ruleAt y.2.1.2.1 x1.Name !=y.1 then Lf [DV.one (Cell.lit (Value.bool false))] [DV.one (Cell.lit (Value.bool (defOk d)))] else Zi35_2 d (IntKind.wrap IntKind.i64 (y.1+(1:Int)),(y.2.1.1,y.2.1.2.1,PUnit.unit),PUnit.unit)∧Zm35_2 d (IntKind.wrap IntKind.i64 (y.1+(1:Int)),(y.2.1.1,y.2.1.2.1,PUnit.unit),PUnit.unit)<Zm35_2 d y else bif nameOk y.2.1.1 then Lf [DV.one (Cell.lit (Value.bool (decide ((1:Int)≤x0∧x0≤(12:Int)))))] [DV.one (Cell.lit (Value.bool (defOk d)))] else Lf [DV.one (Cell.lit (Value.bool false))] [DV.one (Cell.lit (Value.bool (defOk d)))]):=by kernel_rfl
theorem Zo35:Holds EE (35,Zk35):=by
 refine holds_of EE_ok Go.Proofs.Tryz.func35 Zk35 (by kernel_rfl) Zu35 (us_ok _) Za35 (fun(d:DDef) hp hb=> ?_)
 have hz0:=bd_eDef (x:=d) (hb _ m0)
 have hl_d_Name:=hz0.1
 have hl_d_Rules:=hz0.2
 have hp0:sizeDef d≤4294967295:=hp _ m0
 clear hp hb
 rw[Zv35 d]
 dsimp only
 refine⟨⟨rfl,by omega,by omega,by intro j hj;omega⟩,?_⟩
 rintro⟨i,⟨b1,b2,⟨⟩⟩,⟨⟩⟩ ⟨hbx,h1,h2,hR⟩
 cases hbx
 simp only
 refine if_dec (fun hc=> ?_) (fun hc=> ?_)
 ·have hN:defAtR d.Rules i.toNat=false→defOk d=false:=fun h=>by
   have hf:allI d.Rules.length (defAtR d.Rules)=false:=allI_false (j:=i.toNat) (by omega) h
   simp only[defOk,hf,Bool.and_false]
  have hs:=rule_size h1 hc
  simp only[sizeDef] at hp0
  have ei:((i.toNat:Nat):Int)=i:=by omega
  rw[wrap_i64 (by omega) (by omega)]
  refine⟨by omega,by omega,by omega,if_not (fun g=>Lf_ff (hN (by simp only[defAtR,g,Bool.false_and]))) (fun g=>⟨by omega,by omega,if_not (fun k=>Lf_ff (hN ?_)) (fun k=>⟨⟨rfl,by omega,by omega,upto_step h1 hR ?_⟩,by simp only[Zm35_2];omega⟩)⟩)⟩
  ·simp only[defAtR,ei,g,Bool.true_and];exact decide_eq_false (by simpa using k)
  ·simp only[defAtR,ei,g,Bool.true_and];exact decide_eq_true (eq_of_beq k)
 ·have hA:allI d.Rules.length (defAtR d.Rules)=true:=allI_true fun j hj=>hR j (by omega)
  simp only[defOk,hA,Bool.and_true]
  refine if_cond (fun h=>Lf_b ?_) (fun h=>Lf_b ?_)
  ·rw[h,Bool.true_and];exact decide_eq_decide.2 (by omega)
  ·rw[h,Bool.false_and]
def Zh35:HH:=⟨_,Zo35⟩
def Zk51:Con UU where
 α:=DDef
 md:=[.ro]
 of:=o1 (oA .eDef)
 ds:=fun x=>[dA .eDef x]
 pre:=fun _=>[]
 res:=fun d=>⟨[.one (.lit (.bool (defOk d)))],true,[]⟩
 law:=l1 (lA .eDef)
def Zi51_4(d:DDef):Int×(ByteArray×List DRule×Unit)×Unit→Prop:=fun(i,b,_)=>b=(d.Name,d.Rules,())∧nameOk d.Name=true∧(1≤d.Rules.length∧d.Rules.length≤12)∧0≤i∧i≤d.Rules.length∧∀j:Nat,(j:Int)<i→defAtR d.Rules j=true
def Zm51_4(d:DDef):Int×(ByteArray×List DRule×Unit)×Unit→Nat:=fun(i,b,_)=>d.Rules.length-i.toNat
def Za51:Zk51.α→Nat→Option (Ann UU):=fun d=>annL [(4,annOf [.slot 19 (19,1024) (.lit (.int .i64)),.box 1 (1,1024) [.lit .str,.shr .eRule]] (fun _=>Zi51_4 d) (Zm51_4 d))]
def Zu51:=us [Zh115,Zh116,Zh76,Zh56]
theorem Zv51(d:DDef):goal EE Zu51 Go.Proofs.Tryz.f51 Zk51 Za51 d=(let x0:Int:=(d.Rules.length:Int);
bif !nameOk d.Name then Lf [DV.one (Cell.lit (Value.bool false))] [DV.one (Cell.lit (Value.bool (defOk d)))] else bif !decide ((1:Int)≤x0∧x0≤(12:Int)) then Lf [DV.one (Cell.lit (Value.bool false))] [DV.one (Cell.lit (Value.bool (defOk d)))] else Zi51_4 d ((0:Int),(d.Name,d.Rules,PUnit.unit),PUnit.unit)∧∀(y:Int×(ByteArray×List DRule×PUnit)×PUnit),Zi51_4 d y→bif decide (y.1<x0) then(0:Int)≤y.1∧Int.toNat y.1<List.length d.Rules∧bif !ruleOk (List.getD d.Rules (Int.toNat y.1) zRule) then Lf [DV.one (Cell.lit (Value.bool false))] [DV.one (Cell.lit (Value.bool (defOk d)))] else bif ruleAt y.2.1.2.1 (List.getD d.Rules (Int.toNat y.1) zRule).Name !=y.1 then Lf [DV.one (Cell.lit (Value.bool false))] [DV.one (Cell.lit (Value.bool (defOk d)))] else Zi51_4 d (IntKind.wrap IntKind.i64 (y.1+(1:Int)),(y.2.1.1,y.2.1.2.1,PUnit.unit),PUnit.unit)∧Zm51_4 d (IntKind.wrap IntKind.i64 (y.1+(1:Int)),(y.2.1.1,y.2.1.2.1,PUnit.unit),PUnit.unit)<Zm51_4 d y else Lf [DV.one (Cell.lit (Value.bool true))] [DV.one (Cell.lit (Value.bool (defOk d)))]):=by kernel_rfl
theorem Zo51:Holds EE (51,Zk51):=by
 refine holds_of EE_ok Go.Proofs.Tryz.func51 Zk51 (by kernel_rfl) Zu51 (us_ok _) Za51 (fun(d:DDef) hp hb=> ?_)
 have hz0:=bd_eDef (x:=d) (hb _ m0)
 have hl_d_Name:=hz0.1
 have hl_d_Rules:=hz0.2
 clear hp hb
 rw[Zv51 d]
 dsimp only
 refine if_not (fun a1=>Lf_ff (by simp only[defOk,a1,Bool.false_and])) (fun a1=>if_not (fun a2=>Lf_ff ?_) (fun a2=> ?_))
 ·have a2:=of_decide_eq_false a2
  simp only[defOk];rw[decide_eq_false (p:=1≤d.Rules.length∧d.Rules.length≤12) (by omega),Bool.and_false,Bool.false_and]
 have a2:=of_decide_eq_true a2
 refine⟨⟨rfl,a1,by omega,by omega,by omega,by intro j hj;omega⟩,?_⟩
 rintro⟨i,⟨b1,b2,⟨⟩⟩,⟨⟩⟩ ⟨hbx,a3,a4,h1,h2,hR⟩
 cases hbx
 simp only
 refine if_dec (fun hc=> ?_) (fun hc=> ?_)
 ·have hN:defAtR d.Rules i.toNat=false→defOk d=false:=fun h=>by
   have hf:allI d.Rules.length (defAtR d.Rules)=false:=allI_false (j:=i.toNat) (by omega) h
   simp only[defOk,hf,Bool.and_false]
  have ei:((i.toNat:Nat):Int)=i:=by omega
  rw[wrap_i64 (by omega) (by omega)]
  refine⟨by omega,by omega,if_not (fun g=>Lf_ff (hN (by simp only[defAtR,g,Bool.false_and]))) (fun g=>if_not (fun k=>Lf_ff (hN ?_)) (fun k=>⟨⟨rfl,a3,a4,by omega,by omega,upto_step h1 hR ?_⟩,by simp only[Zm51_4];omega⟩))⟩
  ·simp only[defAtR,ei,g,Bool.true_and];exact decide_eq_false (by simpa using k)
  ·simp only[defAtR,ei,g,Bool.true_and];exact decide_eq_true (eq_of_beq k)
 ·have hA:allI d.Rules.length (defAtR d.Rules)=true:=allI_true fun j hj=>hR j (by omega)
  refine Lf_tt ?_
  simp only[defOk,hA,a3,decide_eq_true a4];rfl
def Zh51:HH:=⟨_,Zo51⟩
def Zk232:Con UU where
 α:=DArg×Int
 md:=[.ro,.ro]
 of:=oC (oA .lArg) (o1 oI)
 ds:=fun x=>[dA .lArg x.1,dI x.2]
 pre:=fun(a,left)=>[0≤left]
 res:=fun(a,left)=>⟨[.one (.lit (.int .i64 (szr left (sizeArg a))))],true,[]⟩
 law:=lC (lA .lArg) (l1 lI)
def Za232:Zk232.α→Nat→Option (Ann UU):=fun(a,left)=>annL []
def Zu232:=us [Zh158]
theorem Zv232(a:DArg)(left:Int):goal EE Zu232 Go.Proofs.Tryz.f232 Zk232 Za232 (a,left)=(let x0:Int:=IntKind.wrap IntKind.i64 (left-(↑(ByteArray.size a.S):Int));
bif decide (x0<(0:Int)) then Lf [DV.one (Cell.lit (Value.int IntKind.i64 (-1:Int)))] [DV.one (Cell.lit (Value.int IntKind.i64 (szr left (sizeArg a))))] else(0:Int)≤x0∧bif decide (szr x0 (sizeVal a.V)<(0:Int)) then Lf [DV.one (Cell.lit (Value.int IntKind.i64 (-1:Int)))] [DV.one (Cell.lit (Value.int IntKind.i64 (szr left (sizeArg a))))] else Lf [DV.one (Cell.lit (Value.int IntKind.i64 (szr x0 (sizeVal a.V))))] [DV.one (Cell.lit (Value.int IntKind.i64 (szr left (sizeArg a))))]):=by kernel_rfl
theorem Zo232:Holds EE (232,Zk232):=by
 refine holds_of EE_ok Go.Proofs.Tryz.func232 Zk232 (by kernel_rfl) Zu232 (us_ok _) Za232 (fun x hp hb=> ?_)
 obtain⟨a,left⟩:=x
 have hz0:=bd_lArg (x:=a) (hb _ m0)
 have hl_a_S:=hz0.1
 have hl_a_V_S:=hz0.2
 have hl_left:=bdI (n:=left) (hb _ m1)
 have hp0:0≤left:=hp _ m0
 clear hp hb
 rw[Zv232 a left]
 dsimp only
 rw[wrap_i64 (by omega) (by omega)]
 refine if_cond (fun h=>Lf_i (szr_bad' ?_)) (fun h=> ?_)
 ·have h:=of_decide_eq_true h;simp only[sizeArg];omega
 have h0:=of_decide_eq_false h
 refine⟨by omega,if_cond (fun h=>Lf_i (szr_bad' ?_)) (fun h=> ?_)⟩
 ·have h:=szr_neg h;simp only[sizeArg];omega
 obtain⟨e1,h1⟩:=szr_pos h
 rw[e1]
 exact Lf_i (by rw[←szr_ok' (by simp only[sizeArg];omega)];simp only[sizeArg];try omega)
def Zh232:HH:=⟨_,Zo232⟩
def Zk237:Con UU where
 α:=DArg
 md:=[.ro]
 of:=o1 (oA .lArg)
 ds:=fun x=>[dA .lArg x]
 pre:=fun a=>[sizeArg a≤4294967296]
 res:=fun a=>⟨[.agg [.lit (.int .i64 a.K),.lit (.string a.S),.lit (.int .i64 a.V.K),.lit (.int .i64 a.V.N),.lit (.string a.V.S)]],true,[]⟩
 law:=l1 (lA .lArg)
def Za237:Zk237.α→Nat→Option (Ann UU):=fun a=>annL []
def Zu237:=us [Zh173]
theorem Zv237(a:DArg):goal EE Zu237 Go.Proofs.Tryz.f237 Zk237 Za237 a=(sizeVal a.V≤(4294967296:Nat)∧Lf [DV.agg [Cell.lit (Value.int IntKind.i64 a.K),Cell.lit (Value.string a.S),Cell.lit (Value.int IntKind.i64 a.V.K),Cell.lit (Value.int IntKind.i64 a.V.N),Cell.lit (Value.string a.V.S)]] [DV.agg [Cell.lit (Value.int IntKind.i64 a.K),Cell.lit (Value.string a.S),Cell.lit (Value.int IntKind.i64 a.V.K),Cell.lit (Value.int IntKind.i64 a.V.N),Cell.lit (Value.string a.V.S)]]):=by kernel_rfl
theorem Zo237:Holds EE (237,Zk237):=by
 refine holds_of EE_ok Go.Proofs.Tryz.func237 Zk237 (by kernel_rfl) Zu237 (us_ok _) Za237 (fun(a:DArg) hp hb=> ?_)
 have hz0:=bd_lArg (x:=a) (hb _ m0)
 have hl_a_S:=hz0.1
 have hl_a_V_S:=hz0.2
 have hp0:sizeArg a≤4294967296:=hp _ m0
 clear hp hb
 rw[Zv237 a]
 simp only[sizeArg] at hp0
 repeat' (first|exact Lf_rfl _|(refine And.intro (by omega) ?_))
def Zh237:HH:=⟨_,Zo237⟩
def Zk243:Con UU where
 α:=DArg×DArg
 md:=[.ro,.ro]
 of:=oC (oA .eArg) (o1 (oA .eArg))
 ds:=fun x=>[dA .eArg x.1,dA .eArg x.2]
 pre:=fun _=>[]
 res:=fun(a,b)=>⟨[.one (.lit (.bool (decide (a=b))))],true,[]⟩
 law:=lC (lA .eArg) (l1 (lA .eArg))
def Za243:Zk243.α→Nat→Option (Ann UU):=fun(a,b)=>annL []
def Zu243:=us [Zh193]
theorem Zv243(a:DArg)(b:DArg):goal EE Zu243 Go.Proofs.Tryz.f243 Zk243 Za243 (a,b)=(bif a.K !=b.K then Lb false (decide (a=b)) else bif !ByteArray.toList a.S==ByteArray.toList b.S then Lb false (decide (a=b)) else bif !decide (a.V=b.V) then Lb false (decide (a=b)) else Lb true (decide (a=b))):=by kernel_rfl
theorem Zo243:Holds EE (243,Zk243):=by
 refine holds_of EE_ok Go.Proofs.Tryz.func243 Zk243 (by kernel_rfl) Zu243 (us_ok _) Za243 (fun x hp hb=> ?_)
 obtain⟨a,b⟩:=x
 have hz0:=bd_eArg (x:=a) (hb _ m0)
 have hl_a_S:=hz0.1
 have hl_a_V_S:=hz0.2
 have hz1:=bd_eArg (x:=b) (hb _ m1)
 have hl_b_S:=hz1.1
 have hl_b_V_S:=hz1.2
 clear hp hb
 rw[Zv243 a b]
 obtain⟨aK,aS,aV⟩:=a
 obtain⟨bK,bS,bV⟩:=b
 repeat' (apply if_cond<;>intro _)
 all_goals (first|apply Lf_t|apply Lf_f)<;>simp_all
def Zh243:HH:=⟨_,Zo243⟩
def Zk231:Con UU where
 α:=(List DArg)×Int
 md:=[.ro,.ro]
 of:=oC (oL .lArg) (o1 oI)
 ds:=fun x=>[dL .lArg x.1,dI x.2]
 pre:=fun(a,left)=>[0≤left]
 res:=fun(a,left)=>⟨[.one (.lit (.int .i64 (szr left (sizeArgS a))))],true,[]⟩
 law:=lC (lL .lArg) (l1 lI)
def Zi231_5(a:(List DArg))(left:Int):Int×Int×Unit→Prop:=szI sizeArg a (sizeArgS a) left
def Zm231_5(a:(List DArg))(left:Int):Int×Int×Unit→Nat:=rM2 a
def Za231:Zk231.α→Nat→Option (Ann UU):=fun(a,left)=>annL [(5,annOf [.slot 1 (1,1024) (.lit (.int .i64)),.slot 5 (5,1024) (.lit (.int .i64))] (fun _=>Zi231_5 a left) (Zm231_5 a left))]
def Zu231:=us [Zh232]
theorem Zv231(a:(List DArg))(left:Int):goal EE Zu231 Go.Proofs.Tryz.f231 Zk231 Za231 (a,left)=(szV sizeArg zArg a (sizeArgS a) left):=by kernel_rfl
theorem Zo231:Holds EE (231,Zk231):=by
 refine holds_of EE_ok Go.Proofs.Tryz.func231 Zk231 (by kernel_rfl) Zu231 (us_ok _) Za231 (fun x hp hb=> ?_)
 obtain⟨a,left⟩:=x
 have hl_a:a.length≤9223372036854775807:=bdL (hb _ m0)
 have hl_left:=bdI (n:=left) (hb _ m1)
 have hp0:0≤left:=hp _ m0
 clear hp hb
 rw[Zv231 a left]
 exact szV_ok rfl hp0 hl_left hl_a
def Zh231:HH:=⟨_,Zo231⟩
def Zk236:Con UU where
 α:=(List DArg)
 md:=[.ro]
 of:=o1 (oL .lArg)
 ds:=fun x=>[dL .lArg x]
 pre:=fun a=>[sizeArgS a≤4294967296]
 res:=fun a=>⟨[.one (.sl .eArg a)],true,[]⟩
 law:=l1 (lL .lArg)
def Zi236_3(a:(List DArg)):List DArg×Int×Unit→Prop:=toI zArg a
def Zm236_3(a:(List DArg)):List DArg×Int×Unit→Nat:=rM2 a
def Za236:Zk236.α→Nat→Option (Ann UU):=fun a=>annL [(3,annOf [.slot 3 (3,1024) (.own .eArg true),.slot 4 (4,1024) (.lit (.int .i64))] (fun _=>Zi236_3 a) (Zm236_3 a))]
def Zu236:=us [Zh237]
theorem Zv236(a:(List DArg)):goal EE Zu236 Go.Proofs.Tryz.f236 Zk236 Za236 a=(toV sizeArg zArg a fun y=>Lf [.one (.sl .eArg y)] [.one (.sl .eArg a)]):=by kernel_rfl
theorem Zo236:Holds EE (236,Zk236):=by
 refine holds_of EE_ok Go.Proofs.Tryz.func236 Zk236 (by kernel_rfl) Zu236 (us_ok _) Za236 (fun(a:(List DArg)) hp hb=> ?_)
 have hl_a:a.length≤9223372036854775807:=bdL (hb _ m0)
 have hp0:sizeArgS a≤4294967296:=hp _ m0
 clear hp hb
 rw[Zv236 a]
 exact toV_ok hp0 (Lf_rfl _)
def Zh236:HH:=⟨_,Zo236⟩
def Zk242:Con UU where
 α:=(List DArg)×(List DArg)
 md:=[.ro,.ro]
 of:=oC (oL .eArg) (o1 (oL .eArg))
 ds:=fun x=>[dL .eArg x.1,dL .eArg x.2]
 pre:=fun _=>[]
 res:=fun(a,b)=>⟨[.one (.lit (.bool (decide (a=b))))],true,[]⟩
 law:=lC (lL .eArg) (l1 (lL .eArg))
def Zi242_4(a:(List DArg))(b:(List DArg)):Int×Unit→Prop:=eqI a b
def Zm242_4(a:(List DArg))(b:(List DArg)):Int×Unit→Nat:=rM1 a
def Za242:Zk242.α→Nat→Option (Ann UU):=fun(a,b)=>annL [(4,annOf [.slot 5 (5,1024) (.lit (.int .i64))] (fun _=>Zi242_4 a b) (Zm242_4 a b))]
def Zu242:=us [Zh243]
theorem Zv242(a:(List DArg))(b:(List DArg)):goal EE Zu242 Go.Proofs.Tryz.f242 Zk242 Za242 (a,b)=(eqV zArg a b):=by kernel_rfl
theorem Zo242:Holds EE (242,Zk242):=by
 refine holds_of EE_ok Go.Proofs.Tryz.func242 Zk242 (by kernel_rfl) Zu242 (us_ok _) Za242 (fun x hp hb=> ?_)
 obtain⟨a,b⟩:=x
 have hl_a:a.length≤9223372036854775807:=bdL (hb _ m0)
 have hl_b:b.length≤9223372036854775807:=bdL (hb _ m1)
 clear hp hb
 rw[Zv242 a b]
 exact eqV_ok hl_a
def Zh242:HH:=⟨_,Zo242⟩
def Zk199:Con UU where
 α:=(List DArg)×Int
 md:=[.wr,.ro]
 of:=oC (oL .eArg) (o1 oI)
 ds:=fun x=>[dL .eArg x.1,dI x.2]
 pre:=fun(a,k)=>[0≤k,k+cntArgS a≤4611686018427387904]
 res:=fun(a,k)=>⟨[.one (.lit (.int .i64 (k+cntArgS a)))],true,[.one (.sl .eArg (markArgS a k))]⟩
 law:=lC (lL .eArg) (l1 lI)
def Zi199_2(a:(List DArg))(k:Int):List DArg×Int×Int×Unit→Prop:=fun(row,kk,i,_)=>0≤i∧i≤a.length∧row=(mkS markArg cntArg a k).take i.toNat++a.drop i.toNat∧kk=k+ctS cntArg (a.take i.toNat)
def Zm199_2(a:(List DArg))(k:Int):List DArg×Int×Int×Unit→Nat:=fun(row,kk,i,_)=>a.length-i.toNat
def Za199:Zk199.α→Nat→Option (Ann UU):=fun(a,k)=>annL [(2,annOf [.slot 0 (2000000,0) (.own .eArg true),.slot 1 (1,1024) (.lit (.int .i64)),.slot 5 (5,1024) (.lit (.int .i64))] (fun _=>Zi199_2 a k) (Zm199_2 a k))]
def Zu199:=us [Zh94]
theorem Zv199(a:(List DArg))(k:Int):goal EE Zu199 Go.Proofs.Tryz.f199 Zk199 Za199 (a,k)=(Zi199_2 a k (a,k,(0:Int),())∧
 ∀(y:List DArg×Int×Int×PUnit),
  let x0:Nat:=Int.toNat y.2.2.1;
  let x5:Int:=IntKind.wrap IntKind.i64 (y.2.1+(1:Int));
  let x6:List DArg:=List.modify y.1 x0 fun(x:DArg)=>{K:=y.2.1,S:=x.S,V:=x.V:DArg};
  let x7:Int:=IntKind.wrap IntKind.i64 (IntKind.wrap IntKind.i64 (x5+(1:Int))+(1:Int));
  let x3:Int:=IntKind.wrap IntKind.i64 (x7+(1:Int));
  let x4:List DArg:=List.modify x6 x0 fun(x:DArg)=>{K:=x.K,S:=markText x5,V:=x.V:DArg};
  let x2:List DArg:=List.modify x4 x0 fun(x:DArg)=>{K:=x.K,S:=x.S,V:={K:=IntKind.wrap IntKind.i64 (x5+(1:Int)),N:=x.V.N,S:=x.V.S:DVal}:DArg};
  let x1:List DArg:=List.modify x2 x0 fun(x:DArg)=>{K:=x.K,S:=x.S,V:={K:=x.V.K,N:=x7,S:=x.V.S:DVal}:DArg};
  Zi199_2 a k y→bif decide (y.2.2.1<(↑(List.length y.1):Int)) then(0:Int)≤y.2.2.1∧x0<List.length y.1∧x0<List.length y.1∧x5≤(4611686018427387903:Int)∧(0:Int)≤y.2.2.1∧x0<List.length x6∧x0<List.length x6∧(0:Int)≤y.2.2.1∧x0<List.length x4∧x0<List.length x4∧(0:Int)≤y.2.2.1∧x0<List.length x2∧x0<List.length x2∧x3≤(4611686018427387903:Int)∧(0:Int)≤y.2.2.1∧x0<List.length x1∧x0<List.length x1∧Zi199_2 a k (List.modify x1 x0 fun(x:DArg)=>{K:=x.K,S:=x.S,V:={K:=x.V.K,N:=x.V.N,S:=markText x3:DVal}:DArg},IntKind.wrap IntKind.i64 (x3+(1:Int)),IntKind.wrap IntKind.i64 (y.2.2.1+(1:Int)),PUnit.unit)∧Zm199_2 a k (List.modify x1 x0 fun(x:DArg)=>{K:=x.K,S:=x.S,V:={K:=x.V.K,N:=x.V.N,S:=markText x3:DVal}:DArg},IntKind.wrap IntKind.i64 (x3+(1:Int)),IntKind.wrap IntKind.i64 (y.2.2.1+(1:Int)),PUnit.unit)<Zm199_2 a k y else asD [DV.one (Cell.lit (Value.int IntKind.i64 y.2.1))]=asD [DV.one (Cell.lit (Value.int IntKind.i64 (k+(↑(cntArgS a):Int))))]∧asD [DV.one (Cell.sl Cd.eArg y.1)]=asD [DV.one (Cell.sl Cd.eArg (markArgS a k))]):=by kernel_rfl
theorem Zo199:Holds EE (199,Zk199):=by
 refine holds_of EE_ok Go.Proofs.Tryz.func199 Zk199 (by kernel_rfl) Zu199 (us_ok _) Za199 (fun x hp hb=> ?_)
 obtain⟨a,k⟩:=x
 have hl_a:a.length≤9223372036854775807:=bdL (hb _ m0)
 have hl_k:=bdI (n:=k) (hb _ m1)
 have hp0:0≤k:=hp _ m0
 have hp1:k+cntArgS a≤4611686018427387904:=hp _ m1
 clear hp hb
 rw[Zv199 a k]
 dsimp only
 refine⟨⟨by omega,by omega,by simp,by simp[ctS]⟩,?_⟩
 rintro⟨row,kk,i,⟨⟩⟩ ⟨h1,h2,rfl,rfl⟩
 simp only
 have hl:=mk_rl markArg cntArg a k h1 h2
 refine if_cond (fun hc=> ?_) (fun hc=> ?_)
 ·have hc:i<a.length:=by have hc:=of_decide_eq_true hc;omega
  have hct:=ctS_take cntArg a zArg h1 hc
  have hle:=ctS_take_le cntArg a (i+1).toNat
  have hg:=mk_getD _ a zArg (mk_tl markArg cntArg a k h1 h2) h1 hc
  have hM:=fun F hF=>mkS_mod markArg cntArg a zArg k (i:=i) F h1 hc hF
  have hq:(cntArgS a:Int)=ctS cntArg a:=rfl
  generalize List.getD a i.toNat zArg=x at*
  generalize hkk:k+(ctS cntArg (a.take i.toNat):Int)=kk at*
  generalize List.take i.toNat (mkS markArg cntArg a k)++List.drop i.toNat a=R at*
  simp only[cntArg] at hct
  simp(disch:=first|omega|(simp only[List.length_modify];omega)) only[List.length_modify,wrap_i64,getD_modify,modify_modify,hg,hl]
  repeat' (first|refine And.intro (by omega) ?_|fail)
  exact⟨⟨by omega,by omega,hM _ (by first|rfl|(simp only[markArg,markBool];rw[Int.tmod_eq_emod_of_nonneg (by omega)];rfl)),by omega⟩,by simp only[Zm199_2];omega⟩
 ·have hc:a.length≤i:=by have hc:=of_decide_eq_false hc;omega
  rw[mk_done markArg cntArg a k hc,ct_done cntArg a hc]
  exact⟨rfl,rfl⟩
def Zh199:HH:=⟨_,Zo199⟩
def Zk201:Con UU where
 α:=DPat×Int
 md:=[.ro,.ro]
 of:=oC (oA .lPat) (o1 oI)
 ds:=fun x=>[dA .lPat x.1,dI x.2]
 pre:=fun(a,left)=>[0≤left]
 res:=fun(a,left)=>⟨[.one (.lit (.int .i64 (szr left (sizePat a))))],true,[]⟩
 law:=lC (lA .lPat) (l1 lI)
def Za201:Zk201.α→Nat→Option (Ann UU):=fun(a,left)=>annL []
def Zu201:=us [Zh231]
theorem Zv201(a:DPat)(left:Int):goal EE Zu201 Go.Proofs.Tryz.f201 Zk201 Za201 (a,left)=(let x0:Int:=IntKind.wrap IntKind.i64 (left-(↑(ByteArray.size a.Kind):Int));
bif decide (x0<(0:Int)) then Lf [DV.one (Cell.lit (Value.int IntKind.i64 (-1:Int)))] [DV.one (Cell.lit (Value.int IntKind.i64 (szr left (sizePat a))))] else(0:Int)≤x0∧bif decide (szr x0 (sizeArgS a.Args)<(0:Int)) then Lf [DV.one (Cell.lit (Value.int IntKind.i64 (-1:Int)))] [DV.one (Cell.lit (Value.int IntKind.i64 (szr left (sizePat a))))] else Lf [DV.one (Cell.lit (Value.int IntKind.i64 (szr x0 (sizeArgS a.Args))))] [DV.one (Cell.lit (Value.int IntKind.i64 (szr left (sizePat a))))]):=by kernel_rfl
theorem Zo201:Holds EE (201,Zk201):=by
 refine holds_of EE_ok Go.Proofs.Tryz.func201 Zk201 (by kernel_rfl) Zu201 (us_ok _) Za201 (fun x hp hb=> ?_)
 obtain⟨a,left⟩:=x
 have hz0:=bd_lPat (x:=a) (hb _ m0)
 have hl_a_Kind:=hz0.1
 have hl_a_Args:=hz0.2
 have hl_left:=bdI (n:=left) (hb _ m1)
 have hp0:0≤left:=hp _ m0
 clear hp hb
 rw[Zv201 a left]
 dsimp only
 rw[wrap_i64 (by omega) (by omega)]
 refine if_cond (fun h=>Lf_i (szr_bad' ?_)) (fun h=> ?_)
 ·have h:=of_decide_eq_true h;simp only[sizePat];omega
 have h0:=of_decide_eq_false h
 refine⟨by omega,if_cond (fun h=>Lf_i (szr_bad' ?_)) (fun h=> ?_)⟩
 ·have h:=szr_neg h;simp only[sizePat];omega
 obtain⟨e1,h1⟩:=szr_pos h
 rw[e1]
 exact Lf_i (by rw[←szr_ok' (by simp only[sizePat];omega)];simp only[sizePat];try omega)
def Zh201:HH:=⟨_,Zo201⟩
def Zk212:Con UU where
 α:=DPat
 md:=[.ro]
 of:=o1 (oA .lPat)
 ds:=fun x=>[dA .lPat x]
 pre:=fun a=>[sizePat a≤4294967296]
 res:=fun a=>⟨[.agg [.lit (.string a.Kind),.sl .eArg a.Args,.lit (.bool a.Not)]],true,[]⟩
 law:=l1 (lA .lPat)
def Za212:Zk212.α→Nat→Option (Ann UU):=fun a=>annL []
def Zu212:=us [Zh236]
theorem Zv212(a:DPat):goal EE Zu212 Go.Proofs.Tryz.f212 Zk212 Za212 a=(sizeArgS a.Args≤(4294967296:Nat)∧Lf [DV.agg [Cell.lit (Value.string a.Kind),Cell.sl Cd.eArg a.Args,Cell.lit (Value.bool a.Not)]] [DV.agg [Cell.lit (Value.string a.Kind),Cell.sl Cd.eArg a.Args,Cell.lit (Value.bool a.Not)]]):=by kernel_rfl
theorem Zo212:Holds EE (212,Zk212):=by
 refine holds_of EE_ok Go.Proofs.Tryz.func212 Zk212 (by kernel_rfl) Zu212 (us_ok _) Za212 (fun(a:DPat) hp hb=> ?_)
 have hz0:=bd_lPat (x:=a) (hb _ m0)
 have hl_a_Kind:=hz0.1
 have hl_a_Args:=hz0.2
 have hp0:sizePat a≤4294967296:=hp _ m0
 clear hp hb
 rw[Zv212 a]
 simp only[sizePat] at hp0
 repeat' (first|exact Lf_rfl _|(refine And.intro (by omega) ?_))
def Zh212:HH:=⟨_,Zo212⟩
def Zk223:Con UU where
 α:=DPat×DPat
 md:=[.ro,.ro]
 of:=oC (oA .ePat) (o1 (oA .ePat))
 ds:=fun x=>[dA .ePat x.1,dA .ePat x.2]
 pre:=fun _=>[]
 res:=fun(a,b)=>⟨[.one (.lit (.bool (decide (a=b))))],true,[]⟩
 law:=lC (lA .ePat) (l1 (lA .ePat))
def Za223:Zk223.α→Nat→Option (Ann UU):=fun(a,b)=>annL []
def Zu223:=us [Zh242]
theorem Zv223(a:DPat)(b:DPat):goal EE Zu223 Go.Proofs.Tryz.f223 Zk223 Za223 (a,b)=(bif !ByteArray.toList a.Kind==ByteArray.toList b.Kind then Lb false (decide (a=b)) else bif !decide (a.Args=b.Args) then Lb false (decide (a=b)) else bif !a.Not==b.Not then Lb false (decide (a=b)) else Lb true (decide (a=b))):=by kernel_rfl
theorem Zo223:Holds EE (223,Zk223):=by
 refine holds_of EE_ok Go.Proofs.Tryz.func223 Zk223 (by kernel_rfl) Zu223 (us_ok _) Za223 (fun x hp hb=> ?_)
 obtain⟨a,b⟩:=x
 have hz0:=bd_ePat (x:=a) (hb _ m0)
 have hl_a_Kind:=hz0.1
 have hl_a_Args:=hz0.2
 have hz1:=bd_ePat (x:=b) (hb _ m1)
 have hl_b_Kind:=hz1.1
 have hl_b_Args:=hz1.2
 clear hp hb
 rw[Zv223 a b]
 obtain⟨aKind,aArgs,aNot⟩:=a
 obtain⟨bKind,bArgs,bNot⟩:=b
 repeat' (apply if_cond<;>intro _)
 all_goals (first|apply Lf_t|apply Lf_f)<;>simp_all
def Zh223:HH:=⟨_,Zo223⟩
def Zk153:Con UU where
 α:=(List DPat)×Int
 md:=[.ro,.ro]
 of:=oC (oL .lPat) (o1 oI)
 ds:=fun x=>[dL .lPat x.1,dI x.2]
 pre:=fun(a,left)=>[0≤left]
 res:=fun(a,left)=>⟨[.one (.lit (.int .i64 (szr left (sizePatS a))))],true,[]⟩
 law:=lC (lL .lPat) (l1 lI)
def Zi153_5(a:(List DPat))(left:Int):Int×Int×Unit→Prop:=szI sizePat a (sizePatS a) left
def Zm153_5(a:(List DPat))(left:Int):Int×Int×Unit→Nat:=rM2 a
def Za153:Zk153.α→Nat→Option (Ann UU):=fun(a,left)=>annL [(5,annOf [.slot 1 (1,1024) (.lit (.int .i64)),.slot 5 (5,1024) (.lit (.int .i64))] (fun _=>Zi153_5 a left) (Zm153_5 a left))]
def Zu153:=us [Zh201]
theorem Zv153(a:(List DPat))(left:Int):goal EE Zu153 Go.Proofs.Tryz.f153 Zk153 Za153 (a,left)=(szV sizePat zPat a (sizePatS a) left):=by kernel_rfl
theorem Zo153:Holds EE (153,Zk153):=by
 refine holds_of EE_ok Go.Proofs.Tryz.func153 Zk153 (by kernel_rfl) Zu153 (us_ok _) Za153 (fun x hp hb=> ?_)
 obtain⟨a,left⟩:=x
 have hl_a:a.length≤9223372036854775807:=bdL (hb _ m0)
 have hl_left:=bdI (n:=left) (hb _ m1)
 have hp0:0≤left:=hp _ m0
 clear hp hb
 rw[Zv153 a left]
 exact szV_ok rfl hp0 hl_left hl_a
def Zh153:HH:=⟨_,Zo153⟩
def Zk168:Con UU where
 α:=(List DPat)
 md:=[.ro]
 of:=o1 (oL .lPat)
 ds:=fun x=>[dL .lPat x]
 pre:=fun a=>[sizePatS a≤4294967296]
 res:=fun a=>⟨[.one (.sl .ePat a)],true,[]⟩
 law:=l1 (lL .lPat)
def Zi168_3(a:(List DPat)):List DPat×Int×Unit→Prop:=toI zPat a
def Zm168_3(a:(List DPat)):List DPat×Int×Unit→Nat:=rM2 a
def Za168:Zk168.α→Nat→Option (Ann UU):=fun a=>annL [(3,annOf [.slot 3 (3,1024) (.own .ePat true),.slot 4 (4,1024) (.lit (.int .i64))] (fun _=>Zi168_3 a) (Zm168_3 a))]
def Zu168:=us [Zh212]
theorem Zv168(a:(List DPat)):goal EE Zu168 Go.Proofs.Tryz.f168 Zk168 Za168 a=(toV sizePat zPat a fun y=>Lf [.one (.sl .ePat y)] [.one (.sl .ePat a)]):=by kernel_rfl
theorem Zo168:Holds EE (168,Zk168):=by
 refine holds_of EE_ok Go.Proofs.Tryz.func168 Zk168 (by kernel_rfl) Zu168 (us_ok _) Za168 (fun(a:(List DPat)) hp hb=> ?_)
 have hl_a:a.length≤9223372036854775807:=bdL (hb _ m0)
 have hp0:sizePatS a≤4294967296:=hp _ m0
 clear hp hb
 rw[Zv168 a]
 exact toV_ok hp0 (Lf_rfl _)
def Zh168:HH:=⟨_,Zo168⟩
def Zk189:Con UU where
 α:=(List DPat)×(List DPat)
 md:=[.ro,.ro]
 of:=oC (oL .ePat) (o1 (oL .ePat))
 ds:=fun x=>[dL .ePat x.1,dL .ePat x.2]
 pre:=fun _=>[]
 res:=fun(a,b)=>⟨[.one (.lit (.bool (decide (a=b))))],true,[]⟩
 law:=lC (lL .ePat) (l1 (lL .ePat))
def Zi189_4(a:(List DPat))(b:(List DPat)):Int×Unit→Prop:=eqI a b
def Zm189_4(a:(List DPat))(b:(List DPat)):Int×Unit→Nat:=rM1 a
def Za189:Zk189.α→Nat→Option (Ann UU):=fun(a,b)=>annL [(4,annOf [.slot 5 (5,1024) (.lit (.int .i64))] (fun _=>Zi189_4 a b) (Zm189_4 a b))]
def Zu189:=us [Zh223]
theorem Zv189(a:(List DPat))(b:(List DPat)):goal EE Zu189 Go.Proofs.Tryz.f189 Zk189 Za189 (a,b)=(eqV zPat a b):=by kernel_rfl
theorem Zo189:Holds EE (189,Zk189):=by
 refine holds_of EE_ok Go.Proofs.Tryz.func189 Zk189 (by kernel_rfl) Zu189 (us_ok _) Za189 (fun x hp hb=> ?_)
 obtain⟨a,b⟩:=x
 have hl_a:a.length≤9223372036854775807:=bdL (hb _ m0)
 have hl_b:b.length≤9223372036854775807:=bdL (hb _ m1)
 clear hp hb
 rw[Zv189 a b]
 exact eqV_ok hl_a
def Zh189:HH:=⟨_,Zo189⟩
def Zk150:Con UU where
 α:=(List DPat)×Int
 md:=[.wr,.ro]
 of:=oC (oL .ePat) (o1 oI)
 ds:=fun x=>[dL .ePat x.1,dI x.2]
 pre:=fun(a,k)=>[0≤k,k+cntPatS a≤4611686018427387904]
 res:=fun(a,k)=>⟨[.one (.lit (.int .i64 (k+cntPatS a)))],true,[.one (.sl .ePat (markPatS a k))]⟩
 law:=lC (lL .ePat) (l1 lI)
def Zi150_2(a:(List DPat))(k:Int):List DPat×Int×Int×Unit→Prop:=fun(row,kk,i,_)=>0≤i∧i≤a.length∧row=(mkS markPat cntPat a k).take i.toNat++a.drop i.toNat∧kk=k+ctS cntPat (a.take i.toNat)
def Zm150_2(a:(List DPat))(k:Int):List DPat×Int×Int×Unit→Nat:=fun(row,kk,i,_)=>a.length-i.toNat
def Za150:Zk150.α→Nat→Option (Ann UU):=fun(a,k)=>annL [(2,annOf [.slot 0 (2000000,0) (.own .ePat true),.slot 1 (1,1024) (.lit (.int .i64)),.slot 5 (5,1024) (.lit (.int .i64))] (fun _=>Zi150_2 a k) (Zm150_2 a k))]
def Zu150:=us [Zh94,Zh199]
theorem Zv150(a:(List DPat))(k:Int):goal EE Zu150 Go.Proofs.Tryz.f150 Zk150 Za150 (a,k)=(Zi150_2 a k (a,k,(0:Int),())∧
 ∀(y:List DPat×Int×Int×PUnit),
  let x2:Nat:=Int.toNat y.2.2.1;
  let x3:List DPat:=List.modify y.1 x2 fun(x:DPat)=>{Kind:=markText y.2.1,Args:=x.Args,Not:=x.Not:DPat};
  let x4:Int:=IntKind.wrap IntKind.i64 (y.2.1+(1:Int));
  let x0:Int:=x4+(↑(cntArgS (List.getD x3 x2 zPat).Args):Int);
  let x1:List DPat:=List.modify x3 x2 fun(x:DPat)=>{Kind:=x.Kind,Args:=markArgS (List.getD x3 x2 zPat).Args x4,Not:=x.Not:DPat};
  Zi150_2 a k y→bif decide (y.2.2.1<(↑(List.length y.1):Int)) then y.2.1≤(4611686018427387903:Int)∧(0:Int)≤y.2.2.1∧x2<List.length y.1∧x2<List.length y.1∧(0:Int)≤y.2.2.1∧x2<List.length x3∧x2<List.length x3∧x2<List.length x3∧(0:Int)≤x4∧x0≤(4611686018427387904:Int)∧(3:Int)≠(0:Int)∧(0:Int)≤y.2.2.1∧x2<List.length x1∧x2<List.length x1∧Zi150_2 a k (List.modify x1 x2 fun(x:DPat)=>{Kind:=x.Kind,Args:=x.Args,Not:=Int.tmod x0 (3:Int)==(0:Int):DPat},IntKind.wrap IntKind.i64 (x0+(1:Int)),IntKind.wrap IntKind.i64 (y.2.2.1+(1:Int)),PUnit.unit)∧Zm150_2 a k (List.modify x1 x2 fun(x:DPat)=>{Kind:=x.Kind,Args:=x.Args,Not:=Int.tmod x0 (3:Int)==(0:Int):DPat},IntKind.wrap IntKind.i64 (x0+(1:Int)),IntKind.wrap IntKind.i64 (y.2.2.1+(1:Int)),PUnit.unit)<Zm150_2 a k y else asD [DV.one (Cell.lit (Value.int IntKind.i64 y.2.1))]=asD [DV.one (Cell.lit (Value.int IntKind.i64 (k+(↑(cntPatS a):Int))))]∧asD [DV.one (Cell.sl Cd.ePat y.1)]=asD [DV.one (Cell.sl Cd.ePat (markPatS a k))]):=by kernel_rfl
theorem Zo150:Holds EE (150,Zk150):=by
 refine holds_of EE_ok Go.Proofs.Tryz.func150 Zk150 (by kernel_rfl) Zu150 (us_ok _) Za150 (fun x hp hb=> ?_)
 obtain⟨a,k⟩:=x
 have hl_a:a.length≤9223372036854775807:=bdL (hb _ m0)
 have hl_k:=bdI (n:=k) (hb _ m1)
 have hp0:0≤k:=hp _ m0
 have hp1:k+cntPatS a≤4611686018427387904:=hp _ m1
 clear hp hb
 rw[Zv150 a k]
 dsimp only
 refine⟨⟨by omega,by omega,by simp,by simp[ctS]⟩,?_⟩
 rintro⟨row,kk,i,⟨⟩⟩ ⟨h1,h2,rfl,rfl⟩
 simp only
 have hl:=mk_rl markPat cntPat a k h1 h2
 refine if_cond (fun hc=> ?_) (fun hc=> ?_)
 ·have hc:i<a.length:=by have hc:=of_decide_eq_true hc;omega
  have hct:=ctS_take cntPat a zPat h1 hc
  have hle:=ctS_take_le cntPat a (i+1).toNat
  have hg:=mk_getD _ a zPat (mk_tl markPat cntPat a k h1 h2) h1 hc
  have hM:=fun F hF=>mkS_mod markPat cntPat a zPat k (i:=i) F h1 hc hF
  have hq:(cntPatS a:Int)=ctS cntPat a:=rfl
  generalize List.getD a i.toNat zPat=x at*
  generalize hkk:k+(ctS cntPat (a.take i.toNat):Int)=kk at*
  generalize List.take i.toNat (mkS markPat cntPat a k)++List.drop i.toNat a=R at*
  simp only[cntPat] at hct
  simp(disch:=first|omega|(simp only[List.length_modify];omega)) only[List.length_modify,wrap_i64,getD_modify,modify_modify,hg,hl]
  repeat' (first|refine And.intro (by omega) ?_|fail)
  exact⟨⟨by omega,by omega,hM _ (by first|rfl|(simp only[markPat,markBool];rw[Int.tmod_eq_emod_of_nonneg (by omega)];rfl)),by omega⟩,by simp only[Zm150_2];omega⟩
 ·have hc:a.length≤i:=by have hc:=of_decide_eq_false hc;omega
  rw[mk_done markPat cntPat a k hc,ct_done cntPat a hc]
  exact⟨rfl,rfl⟩
def Zh150:HH:=⟨_,Zo150⟩
def Zk143:Con UU where
 α:=DBind×Int
 md:=[.ro,.ro]
 of:=oC (oA .lBind) (o1 oI)
 ds:=fun x=>[dA .lBind x.1,dI x.2]
 pre:=fun(a,left)=>[0≤left]
 res:=fun(a,left)=>⟨[.one (.lit (.int .i64 (szr left (sizeBind a))))],true,[]⟩
 law:=lC (lA .lBind) (l1 lI)
def Za143:Zk143.α→Nat→Option (Ann UU):=fun(a,left)=>annL []
def Zu143:=us [Zh158]
theorem Zv143(a:DBind)(left:Int):goal EE Zu143 Go.Proofs.Tryz.f143 Zk143 Za143 (a,left)=(let x0:Int:=IntKind.wrap IntKind.i64 (left-(↑(ByteArray.size a.Name):Int));
bif decide (x0<(0:Int)) then Lf [DV.one (Cell.lit (Value.int IntKind.i64 (-1:Int)))] [DV.one (Cell.lit (Value.int IntKind.i64 (szr left (sizeBind a))))] else(0:Int)≤x0∧bif decide (szr x0 (sizeVal a.V)<(0:Int)) then Lf [DV.one (Cell.lit (Value.int IntKind.i64 (-1:Int)))] [DV.one (Cell.lit (Value.int IntKind.i64 (szr left (sizeBind a))))] else Lf [DV.one (Cell.lit (Value.int IntKind.i64 (szr x0 (sizeVal a.V))))] [DV.one (Cell.lit (Value.int IntKind.i64 (szr left (sizeBind a))))]):=by kernel_rfl
theorem Zo143:Holds EE (143,Zk143):=by
 refine holds_of EE_ok Go.Proofs.Tryz.func143 Zk143 (by kernel_rfl) Zu143 (us_ok _) Za143 (fun x hp hb=> ?_)
 obtain⟨a,left⟩:=x
 have hz0:=bd_lBind (x:=a) (hb _ m0)
 have hl_a_Name:=hz0.1
 have hl_a_V_S:=hz0.2
 have hl_left:=bdI (n:=left) (hb _ m1)
 have hp0:0≤left:=hp _ m0
 clear hp hb
 rw[Zv143 a left]
 dsimp only
 rw[wrap_i64 (by omega) (by omega)]
 refine if_cond (fun h=>Lf_i (szr_bad' ?_)) (fun h=> ?_)
 ·have h:=of_decide_eq_true h;simp only[sizeBind];omega
 have h0:=of_decide_eq_false h
 refine⟨by omega,if_cond (fun h=>Lf_i (szr_bad' ?_)) (fun h=> ?_)⟩
 ·have h:=szr_neg h;simp only[sizeBind];omega
 obtain⟨e1,h1⟩:=szr_pos h
 rw[e1]
 exact Lf_i (by rw[←szr_ok' (by simp only[sizeBind];omega)];simp only[sizeBind];try omega)
def Zh143:HH:=⟨_,Zo143⟩
def Zk146:Con UU where
 α:=DBind
 md:=[.ro]
 of:=o1 (oA .lBind)
 ds:=fun x=>[dA .lBind x]
 pre:=fun a=>[sizeBind a≤4294967296]
 res:=fun a=>⟨[.agg [.lit (.string a.Name),.lit (.int .i64 a.V.K),.lit (.int .i64 a.V.N),.lit (.string a.V.S)]],true,[]⟩
 law:=l1 (lA .lBind)
def Za146:Zk146.α→Nat→Option (Ann UU):=fun a=>annL []
def Zu146:=us [Zh173]
theorem Zv146(a:DBind):goal EE Zu146 Go.Proofs.Tryz.f146 Zk146 Za146 a=(sizeVal a.V≤(4294967296:Nat)∧Lf [DV.agg [Cell.lit (Value.string a.Name),Cell.lit (Value.int IntKind.i64 a.V.K),Cell.lit (Value.int IntKind.i64 a.V.N),Cell.lit (Value.string a.V.S)]] [DV.agg [Cell.lit (Value.string a.Name),Cell.lit (Value.int IntKind.i64 a.V.K),Cell.lit (Value.int IntKind.i64 a.V.N),Cell.lit (Value.string a.V.S)]]):=by kernel_rfl
theorem Zo146:Holds EE (146,Zk146):=by
 refine holds_of EE_ok Go.Proofs.Tryz.func146 Zk146 (by kernel_rfl) Zu146 (us_ok _) Za146 (fun(a:DBind) hp hb=> ?_)
 have hz0:=bd_lBind (x:=a) (hb _ m0)
 have hl_a_Name:=hz0.1
 have hl_a_V_S:=hz0.2
 have hp0:sizeBind a≤4294967296:=hp _ m0
 clear hp hb
 rw[Zv146 a]
 simp only[sizeBind] at hp0
 repeat' (first|exact Lf_rfl _|(refine And.intro (by omega) ?_))
def Zh146:HH:=⟨_,Zo146⟩
def Zk149:Con UU where
 α:=DBind×DBind
 md:=[.ro,.ro]
 of:=oC (oA .eBind) (o1 (oA .eBind))
 ds:=fun x=>[dA .eBind x.1,dA .eBind x.2]
 pre:=fun _=>[]
 res:=fun(a,b)=>⟨[.one (.lit (.bool (decide (a=b))))],true,[]⟩
 law:=lC (lA .eBind) (l1 (lA .eBind))
def Za149:Zk149.α→Nat→Option (Ann UU):=fun(a,b)=>annL []
def Zu149:=us [Zh193]
theorem Zv149(a:DBind)(b:DBind):goal EE Zu149 Go.Proofs.Tryz.f149 Zk149 Za149 (a,b)=(bif !ByteArray.toList a.Name==ByteArray.toList b.Name then Lb false (decide (a=b)) else bif !decide (a.V=b.V) then Lb false (decide (a=b)) else Lb true (decide (a=b))):=by kernel_rfl
theorem Zo149:Holds EE (149,Zk149):=by
 refine holds_of EE_ok Go.Proofs.Tryz.func149 Zk149 (by kernel_rfl) Zu149 (us_ok _) Za149 (fun x hp hb=> ?_)
 obtain⟨a,b⟩:=x
 have hz0:=bd_eBind (x:=a) (hb _ m0)
 have hl_a_Name:=hz0.1
 have hl_a_V_S:=hz0.2
 have hz1:=bd_eBind (x:=b) (hb _ m1)
 have hl_b_Name:=hz1.1
 have hl_b_V_S:=hz1.2
 clear hp hb
 rw[Zv149 a b]
 obtain⟨aName,aV⟩:=a
 obtain⟨bName,bV⟩:=b
 repeat' (apply if_cond<;>intro _)
 all_goals (first|apply Lf_t|apply Lf_f)<;>simp_all
def Zh149:HH:=⟨_,Zo149⟩
def Zk81:Con UU where
 α:=(List DBind)×Int
 md:=[.ro,.ro]
 of:=oC (oL .lBind) (o1 oI)
 ds:=fun x=>[dL .lBind x.1,dI x.2]
 pre:=fun(a,left)=>[0≤left]
 res:=fun(a,left)=>⟨[.one (.lit (.int .i64 (szr left (sizeBindS a))))],true,[]⟩
 law:=lC (lL .lBind) (l1 lI)
def Zi81_5(a:(List DBind))(left:Int):Int×Int×Unit→Prop:=szI sizeBind a (sizeBindS a) left
def Zm81_5(a:(List DBind))(left:Int):Int×Int×Unit→Nat:=rM2 a
def Za81:Zk81.α→Nat→Option (Ann UU):=fun(a,left)=>annL [(5,annOf [.slot 1 (1,1024) (.lit (.int .i64)),.slot 5 (5,1024) (.lit (.int .i64))] (fun _=>Zi81_5 a left) (Zm81_5 a left))]
def Zu81:=us [Zh143]
theorem Zv81(a:(List DBind))(left:Int):goal EE Zu81 Go.Proofs.Tryz.f81 Zk81 Za81 (a,left)=(szV sizeBind zBind a (sizeBindS a) left):=by kernel_rfl
theorem Zo81:Holds EE (81,Zk81):=by
 refine holds_of EE_ok Go.Proofs.Tryz.func81 Zk81 (by kernel_rfl) Zu81 (us_ok _) Za81 (fun x hp hb=> ?_)
 obtain⟨a,left⟩:=x
 have hl_a:a.length≤9223372036854775807:=bdL (hb _ m0)
 have hl_left:=bdI (n:=left) (hb _ m1)
 have hp0:0≤left:=hp _ m0
 clear hp hb
 rw[Zv81 a left]
 exact szV_ok rfl hp0 hl_left hl_a
def Zh81:HH:=⟨_,Zo81⟩
def Zk86:Con UU where
 α:=(List DBind)
 md:=[.ro]
 of:=o1 (oL .lBind)
 ds:=fun x=>[dL .lBind x]
 pre:=fun a=>[sizeBindS a≤4294967296]
 res:=fun a=>⟨[.one (.sl .eBind a)],true,[]⟩
 law:=l1 (lL .lBind)
def Zi86_3(a:(List DBind)):List DBind×Int×Unit→Prop:=toI zBind a
def Zm86_3(a:(List DBind)):List DBind×Int×Unit→Nat:=rM2 a
def Za86:Zk86.α→Nat→Option (Ann UU):=fun a=>annL [(3,annOf [.slot 3 (3,1024) (.own .eBind true),.slot 4 (4,1024) (.lit (.int .i64))] (fun _=>Zi86_3 a) (Zm86_3 a))]
def Zu86:=us [Zh146]
theorem Zv86(a:(List DBind)):goal EE Zu86 Go.Proofs.Tryz.f86 Zk86 Za86 a=(toV sizeBind zBind a fun y=>Lf [.one (.sl .eBind y)] [.one (.sl .eBind a)]):=by kernel_rfl
theorem Zo86:Holds EE (86,Zk86):=by
 refine holds_of EE_ok Go.Proofs.Tryz.func86 Zk86 (by kernel_rfl) Zu86 (us_ok _) Za86 (fun(a:(List DBind)) hp hb=> ?_)
 have hl_a:a.length≤9223372036854775807:=bdL (hb _ m0)
 have hp0:sizeBindS a≤4294967296:=hp _ m0
 clear hp hb
 rw[Zv86 a]
 exact toV_ok hp0 (Lf_rfl _)
def Zh86:HH:=⟨_,Zo86⟩
def Zk90:Con UU where
 α:=(List DBind)×(List DBind)
 md:=[.ro,.ro]
 of:=oC (oL .eBind) (o1 (oL .eBind))
 ds:=fun x=>[dL .eBind x.1,dL .eBind x.2]
 pre:=fun _=>[]
 res:=fun(a,b)=>⟨[.one (.lit (.bool (decide (a=b))))],true,[]⟩
 law:=lC (lL .eBind) (l1 (lL .eBind))
def Zi90_4(a:(List DBind))(b:(List DBind)):Int×Unit→Prop:=eqI a b
def Zm90_4(a:(List DBind))(b:(List DBind)):Int×Unit→Nat:=rM1 a
def Za90:Zk90.α→Nat→Option (Ann UU):=fun(a,b)=>annL [(4,annOf [.slot 5 (5,1024) (.lit (.int .i64))] (fun _=>Zi90_4 a b) (Zm90_4 a b))]
def Zu90:=us [Zh149]
theorem Zv90(a:(List DBind))(b:(List DBind)):goal EE Zu90 Go.Proofs.Tryz.f90 Zk90 Za90 (a,b)=(eqV zBind a b):=by kernel_rfl
theorem Zo90:Holds EE (90,Zk90):=by
 refine holds_of EE_ok Go.Proofs.Tryz.func90 Zk90 (by kernel_rfl) Zu90 (us_ok _) Za90 (fun x hp hb=> ?_)
 obtain⟨a,b⟩:=x
 have hl_a:a.length≤9223372036854775807:=bdL (hb _ m0)
 have hl_b:b.length≤9223372036854775807:=bdL (hb _ m1)
 clear hp hb
 rw[Zv90 a b]
 exact eqV_ok hl_a
def Zh90:HH:=⟨_,Zo90⟩
def Zk93:Con UU where
 α:=(List DBind)×Int
 md:=[.wr,.ro]
 of:=oC (oL .eBind) (o1 oI)
 ds:=fun x=>[dL .eBind x.1,dI x.2]
 pre:=fun(a,k)=>[0≤k,k+cntBindS a≤4611686018427387904]
 res:=fun(a,k)=>⟨[.one (.lit (.int .i64 (k+cntBindS a)))],true,[.one (.sl .eBind (markBindS a k))]⟩
 law:=lC (lL .eBind) (l1 lI)
def Zi93_2(a:(List DBind))(k:Int):List DBind×Int×Int×Unit→Prop:=fun(row,kk,i,_)=>0≤i∧i≤a.length∧row=(mkS markBind cntBind a k).take i.toNat++a.drop i.toNat∧kk=k+ctS cntBind (a.take i.toNat)
def Zm93_2(a:(List DBind))(k:Int):List DBind×Int×Int×Unit→Nat:=fun(row,kk,i,_)=>a.length-i.toNat
def Za93:Zk93.α→Nat→Option (Ann UU):=fun(a,k)=>annL [(2,annOf [.slot 0 (2000000,0) (.own .eBind true),.slot 1 (1,1024) (.lit (.int .i64)),.slot 5 (5,1024) (.lit (.int .i64))] (fun _=>Zi93_2 a k) (Zm93_2 a k))]
def Zu93:=us [Zh94]
theorem Zv93(a:(List DBind))(k:Int):goal EE Zu93 Go.Proofs.Tryz.f93 Zk93 Za93 (a,k)=(Zi93_2 a k (a,k,(0:Int),())∧
 ∀(y:List DBind×Int×Int×PUnit),
  let x0:Nat:=Int.toNat y.2.2.1;
  let x5:Int:=IntKind.wrap IntKind.i64 (y.2.1+(1:Int));
  let x6:List DBind:=List.modify y.1 x0 fun(x:DBind)=>{Name:=markText y.2.1,V:=x.V:DBind};
  let x3:List DBind:=List.modify x6 x0 fun(x:DBind)=>{Name:=x.Name,V:={K:=x5,N:=x.V.N,S:=x.V.S:DVal}:DBind};
  let x4:Int:=IntKind.wrap IntKind.i64 (x5+(1:Int));
  let x1:List DBind:=List.modify x3 x0 fun(x:DBind)=>{Name:=x.Name,V:={K:=x.V.K,N:=x4,S:=x.V.S:DVal}:DBind};
  let x2:Int:=IntKind.wrap IntKind.i64 (x4+(1:Int));
  Zi93_2 a k y→bif decide (y.2.2.1<(↑(List.length y.1):Int)) then y.2.1≤(4611686018427387903:Int)∧(0:Int)≤y.2.2.1∧x0<List.length y.1∧x0<List.length y.1∧(0:Int)≤y.2.2.1∧x0<List.length x6∧x0<List.length x6∧(0:Int)≤y.2.2.1∧x0<List.length x3∧x0<List.length x3∧x2≤(4611686018427387903:Int)∧(0:Int)≤y.2.2.1∧x0<List.length x1∧x0<List.length x1∧Zi93_2 a k (List.modify x1 x0 fun(x:DBind)=>{Name:=x.Name,V:={K:=x.V.K,N:=x.V.N,S:=markText x2:DVal}:DBind},IntKind.wrap IntKind.i64 (x2+(1:Int)),IntKind.wrap IntKind.i64 (y.2.2.1+(1:Int)),PUnit.unit)∧Zm93_2 a k (List.modify x1 x0 fun(x:DBind)=>{Name:=x.Name,V:={K:=x.V.K,N:=x.V.N,S:=markText x2:DVal}:DBind},IntKind.wrap IntKind.i64 (x2+(1:Int)),IntKind.wrap IntKind.i64 (y.2.2.1+(1:Int)),PUnit.unit)<Zm93_2 a k y else asD [DV.one (Cell.lit (Value.int IntKind.i64 y.2.1))]=asD [DV.one (Cell.lit (Value.int IntKind.i64 (k+(↑(cntBindS a):Int))))]∧asD [DV.one (Cell.sl Cd.eBind y.1)]=asD [DV.one (Cell.sl Cd.eBind (markBindS a k))]):=by kernel_rfl
theorem Zo93:Holds EE (93,Zk93):=by
 refine holds_of EE_ok Go.Proofs.Tryz.func93 Zk93 (by kernel_rfl) Zu93 (us_ok _) Za93 (fun x hp hb=> ?_)
 obtain⟨a,k⟩:=x
 have hl_a:a.length≤9223372036854775807:=bdL (hb _ m0)
 have hl_k:=bdI (n:=k) (hb _ m1)
 have hp0:0≤k:=hp _ m0
 have hp1:k+cntBindS a≤4611686018427387904:=hp _ m1
 clear hp hb
 rw[Zv93 a k]
 dsimp only
 refine⟨⟨by omega,by omega,by simp,by simp[ctS]⟩,?_⟩
 rintro⟨row,kk,i,⟨⟩⟩ ⟨h1,h2,rfl,rfl⟩
 simp only
 have hl:=mk_rl markBind cntBind a k h1 h2
 refine if_cond (fun hc=> ?_) (fun hc=> ?_)
 ·have hc:i<a.length:=by have hc:=of_decide_eq_true hc;omega
  have hct:=ctS_take cntBind a zBind h1 hc
  have hle:=ctS_take_le cntBind a (i+1).toNat
  have hg:=mk_getD _ a zBind (mk_tl markBind cntBind a k h1 h2) h1 hc
  have hM:=fun F hF=>mkS_mod markBind cntBind a zBind k (i:=i) F h1 hc hF
  have hq:(cntBindS a:Int)=ctS cntBind a:=rfl
  generalize List.getD a i.toNat zBind=x at*
  generalize hkk:k+(ctS cntBind (a.take i.toNat):Int)=kk at*
  generalize List.take i.toNat (mkS markBind cntBind a k)++List.drop i.toNat a=R at*
  simp only[cntBind] at hct
  simp(disch:=first|omega|(simp only[List.length_modify];omega)) only[List.length_modify,wrap_i64,getD_modify,modify_modify,hg,hl]
  repeat' (first|refine And.intro (by omega) ?_|fail)
  exact⟨⟨by omega,by omega,hM _ (by first|rfl|(simp only[markBind,markBool];rw[Int.tmod_eq_emod_of_nonneg (by omega)];rfl)),by omega⟩,by simp only[Zm93_2];omega⟩
 ·have hc:a.length≤i:=by have hc:=of_decide_eq_false hc;omega
  rw[mk_done markBind cntBind a k hc,ct_done cntBind a hc]
  exact⟨rfl,rfl⟩
def Zh93:HH:=⟨_,Zo93⟩
def Zk202:Con UU where
 α:=DCond×Int
 md:=[.ro,.ro]
 of:=oC (oA .lCond) (o1 oI)
 ds:=fun x=>[dA .lCond x.1,dI x.2]
 pre:=fun(a,left)=>[0≤left]
 res:=fun(a,left)=>⟨[.one (.lit (.int .i64 (szr left (sizeCond a))))],true,[]⟩
 law:=lC (lA .lCond) (l1 lI)
def Za202:Zk202.α→Nat→Option (Ann UU):=fun(a,left)=>annL []
def Zu202:=us [Zh232]
theorem Zv202(a:DCond)(left:Int):goal EE Zu202 Go.Proofs.Tryz.f202 Zk202 Za202 (a,left)=(let x0:Int:=szr (szr left (sizeArg a.L)) (sizeArg a.R);
(0:Int)≤left∧bif decide (szr left (sizeArg a.L)<(0:Int)) then Lf [DV.one (Cell.lit (Value.int IntKind.i64 (-1:Int)))] [DV.one (Cell.lit (Value.int IntKind.i64 (szr left (sizeCond a))))] else(0:Int)≤szr left (sizeArg a.L)∧bif decide (x0<(0:Int)) then Lf [DV.one (Cell.lit (Value.int IntKind.i64 (-1:Int)))] [DV.one (Cell.lit (Value.int IntKind.i64 (szr left (sizeCond a))))] else Lf [DV.one (Cell.lit (Value.int IntKind.i64 x0))] [DV.one (Cell.lit (Value.int IntKind.i64 (szr left (sizeCond a))))]):=by kernel_rfl
theorem Zo202:Holds EE (202,Zk202):=by
 refine holds_of EE_ok Go.Proofs.Tryz.func202 Zk202 (by kernel_rfl) Zu202 (us_ok _) Za202 (fun x hp hb=> ?_)
 obtain⟨a,left⟩:=x
 have hz0:=bd_lCond (x:=a) (hb _ m0)
 have hl_a_L_S:=hz0.1
 have hl_a_L_V_S:=hz0.2.1
 have hl_a_R_S:=hz0.2.2.1
 have hl_a_R_V_S:=hz0.2.2.2
 have hl_left:=bdI (n:=left) (hb _ m1)
 have hp0:0≤left:=hp _ m0
 clear hp hb
 rw[Zv202 a left]
 dsimp only
 refine⟨by omega,if_cond (fun h=>Lf_i (szr_bad' ?_)) (fun h=> ?_)⟩
 ·have h:=szr_neg h;simp only[sizeCond];omega
 obtain⟨e0,h0⟩:=szr_pos h
 rw[e0]
 refine⟨by omega,if_cond (fun h=>Lf_i (szr_bad' ?_)) (fun h=> ?_)⟩
 ·have h:=szr_neg h;simp only[sizeCond];omega
 obtain⟨e1,h1⟩:=szr_pos h
 rw[e1]
 exact Lf_i (by rw[←szr_ok' (by simp only[sizeCond];omega)];simp only[sizeCond];try omega)
def Zh202:HH:=⟨_,Zo202⟩
def Zk213:Con UU where
 α:=DCond
 md:=[.ro]
 of:=o1 (oA .lCond)
 ds:=fun x=>[dA .lCond x]
 pre:=fun a=>[sizeCond a≤4294967296]
 res:=fun a=>⟨[.agg [.lit (.int .i64 a.Op),.lit (.int .i64 a.L.K),.lit (.string a.L.S),.lit (.int .i64 a.L.V.K),.lit (.int .i64 a.L.V.N),.lit (.string a.L.V.S),.lit (.int .i64 a.R.K),.lit (.string a.R.S),.lit (.int .i64 a.R.V.K),.lit (.int .i64 a.R.V.N),.lit (.string a.R.V.S)]],true,[]⟩
 law:=l1 (lA .lCond)
def Za213:Zk213.α→Nat→Option (Ann UU):=fun a=>annL []
def Zu213:=us [Zh237]
theorem Zv213(a:DCond):goal EE Zu213 Go.Proofs.Tryz.f213 Zk213 Za213 a=(sizeArg a.L≤(4294967296:Nat)∧sizeArg a.R≤(4294967296:Nat)∧Lf [DV.agg [Cell.lit (Value.int IntKind.i64 a.Op),Cell.lit (Value.int IntKind.i64 a.L.K),Cell.lit (Value.string a.L.S),Cell.lit (Value.int IntKind.i64 a.L.V.K),Cell.lit (Value.int IntKind.i64 a.L.V.N),Cell.lit (Value.string a.L.V.S),Cell.lit (Value.int IntKind.i64 a.R.K),Cell.lit (Value.string a.R.S),Cell.lit (Value.int IntKind.i64 a.R.V.K),Cell.lit (Value.int IntKind.i64 a.R.V.N),Cell.lit (Value.string a.R.V.S)]] [DV.agg [Cell.lit (Value.int IntKind.i64 a.Op),Cell.lit (Value.int IntKind.i64 a.L.K),Cell.lit (Value.string a.L.S),Cell.lit (Value.int IntKind.i64 a.L.V.K),Cell.lit (Value.int IntKind.i64 a.L.V.N),Cell.lit (Value.string a.L.V.S),Cell.lit (Value.int IntKind.i64 a.R.K),Cell.lit (Value.string a.R.S),Cell.lit (Value.int IntKind.i64 a.R.V.K),Cell.lit (Value.int IntKind.i64 a.R.V.N),Cell.lit (Value.string a.R.V.S)]]):=by kernel_rfl
theorem Zo213:Holds EE (213,Zk213):=by
 refine holds_of EE_ok Go.Proofs.Tryz.func213 Zk213 (by kernel_rfl) Zu213 (us_ok _) Za213 (fun(a:DCond) hp hb=> ?_)
 have hz0:=bd_lCond (x:=a) (hb _ m0)
 have hl_a_L_S:=hz0.1
 have hl_a_L_V_S:=hz0.2.1
 have hl_a_R_S:=hz0.2.2.1
 have hl_a_R_V_S:=hz0.2.2.2
 have hp0:sizeCond a≤4294967296:=hp _ m0
 clear hp hb
 rw[Zv213 a]
 simp only[sizeCond] at hp0
 repeat' (first|exact Lf_rfl _|(refine And.intro (by omega) ?_))
def Zh213:HH:=⟨_,Zo213⟩
def Zk224:Con UU where
 α:=DCond×DCond
 md:=[.ro,.ro]
 of:=oC (oA .eCond) (o1 (oA .eCond))
 ds:=fun x=>[dA .eCond x.1,dA .eCond x.2]
 pre:=fun _=>[]
 res:=fun(a,b)=>⟨[.one (.lit (.bool (decide (a=b))))],true,[]⟩
 law:=lC (lA .eCond) (l1 (lA .eCond))
def Za224:Zk224.α→Nat→Option (Ann UU):=fun(a,b)=>annL []
def Zu224:=us [Zh243]
theorem Zv224(a:DCond)(b:DCond):goal EE Zu224 Go.Proofs.Tryz.f224 Zk224 Za224 (a,b)=(bif a.Op !=b.Op then Lb false (decide (a=b)) else bif !decide (a.L=b.L) then Lb false (decide (a=b)) else bif !decide (a.R=b.R) then Lb false (decide (a=b)) else Lb true (decide (a=b))):=by kernel_rfl
theorem Zo224:Holds EE (224,Zk224):=by
 refine holds_of EE_ok Go.Proofs.Tryz.func224 Zk224 (by kernel_rfl) Zu224 (us_ok _) Za224 (fun x hp hb=> ?_)
 obtain⟨a,b⟩:=x
 have hz0:=bd_eCond (x:=a) (hb _ m0)
 have hl_a_L_S:=hz0.1
 have hl_a_L_V_S:=hz0.2.1
 have hl_a_R_S:=hz0.2.2.1
 have hl_a_R_V_S:=hz0.2.2.2
 have hz1:=bd_eCond (x:=b) (hb _ m1)
 have hl_b_L_S:=hz1.1
 have hl_b_L_V_S:=hz1.2.1
 have hl_b_R_S:=hz1.2.2.1
 have hl_b_R_V_S:=hz1.2.2.2
 clear hp hb
 rw[Zv224 a b]
 obtain⟨aOp,aL,aR⟩:=a
 obtain⟨bOp,bL,bR⟩:=b
 repeat' (apply if_cond<;>intro _)
 all_goals (first|apply Lf_t|apply Lf_f)<;>simp_all
def Zh224:HH:=⟨_,Zo224⟩
def Zk154:Con UU where
 α:=(List DCond)×Int
 md:=[.ro,.ro]
 of:=oC (oL .lCond) (o1 oI)
 ds:=fun x=>[dL .lCond x.1,dI x.2]
 pre:=fun(a,left)=>[0≤left]
 res:=fun(a,left)=>⟨[.one (.lit (.int .i64 (szr left (sizeCondS a))))],true,[]⟩
 law:=lC (lL .lCond) (l1 lI)
def Zi154_5(a:(List DCond))(left:Int):Int×Int×Unit→Prop:=szI sizeCond a (sizeCondS a) left
def Zm154_5(a:(List DCond))(left:Int):Int×Int×Unit→Nat:=rM2 a
def Za154:Zk154.α→Nat→Option (Ann UU):=fun(a,left)=>annL [(5,annOf [.slot 1 (1,1024) (.lit (.int .i64)),.slot 5 (5,1024) (.lit (.int .i64))] (fun _=>Zi154_5 a left) (Zm154_5 a left))]
def Zu154:=us [Zh202]
theorem Zv154(a:(List DCond))(left:Int):goal EE Zu154 Go.Proofs.Tryz.f154 Zk154 Za154 (a,left)=(szV sizeCond zCond a (sizeCondS a) left):=by kernel_rfl
theorem Zo154:Holds EE (154,Zk154):=by
 refine holds_of EE_ok Go.Proofs.Tryz.func154 Zk154 (by kernel_rfl) Zu154 (us_ok _) Za154 (fun x hp hb=> ?_)
 obtain⟨a,left⟩:=x
 have hl_a:a.length≤9223372036854775807:=bdL (hb _ m0)
 have hl_left:=bdI (n:=left) (hb _ m1)
 have hp0:0≤left:=hp _ m0
 clear hp hb
 rw[Zv154 a left]
 exact szV_ok rfl hp0 hl_left hl_a
def Zh154:HH:=⟨_,Zo154⟩
def Zk169:Con UU where
 α:=(List DCond)
 md:=[.ro]
 of:=o1 (oL .lCond)
 ds:=fun x=>[dL .lCond x]
 pre:=fun a=>[sizeCondS a≤4294967296]
 res:=fun a=>⟨[.one (.sl .eCond a)],true,[]⟩
 law:=l1 (lL .lCond)
def Zi169_3(a:(List DCond)):List DCond×Int×Unit→Prop:=toI zCond a
def Zm169_3(a:(List DCond)):List DCond×Int×Unit→Nat:=rM2 a
def Za169:Zk169.α→Nat→Option (Ann UU):=fun a=>annL [(3,annOf [.slot 3 (3,1024) (.own .eCond true),.slot 4 (4,1024) (.lit (.int .i64))] (fun _=>Zi169_3 a) (Zm169_3 a))]
def Zu169:=us [Zh213]
theorem Zv169(a:(List DCond)):goal EE Zu169 Go.Proofs.Tryz.f169 Zk169 Za169 a=(toV sizeCond zCond a fun y=>Lf [.one (.sl .eCond y)] [.one (.sl .eCond a)]):=by kernel_rfl
theorem Zo169:Holds EE (169,Zk169):=by
 refine holds_of EE_ok Go.Proofs.Tryz.func169 Zk169 (by kernel_rfl) Zu169 (us_ok _) Za169 (fun(a:(List DCond)) hp hb=> ?_)
 have hl_a:a.length≤9223372036854775807:=bdL (hb _ m0)
 have hp0:sizeCondS a≤4294967296:=hp _ m0
 clear hp hb
 rw[Zv169 a]
 exact toV_ok hp0 (Lf_rfl _)
def Zh169:HH:=⟨_,Zo169⟩
def Zk190:Con UU where
 α:=(List DCond)×(List DCond)
 md:=[.ro,.ro]
 of:=oC (oL .eCond) (o1 (oL .eCond))
 ds:=fun x=>[dL .eCond x.1,dL .eCond x.2]
 pre:=fun _=>[]
 res:=fun(a,b)=>⟨[.one (.lit (.bool (decide (a=b))))],true,[]⟩
 law:=lC (lL .eCond) (l1 (lL .eCond))
def Zi190_4(a:(List DCond))(b:(List DCond)):Int×Unit→Prop:=eqI a b
def Zm190_4(a:(List DCond))(b:(List DCond)):Int×Unit→Nat:=rM1 a
def Za190:Zk190.α→Nat→Option (Ann UU):=fun(a,b)=>annL [(4,annOf [.slot 5 (5,1024) (.lit (.int .i64))] (fun _=>Zi190_4 a b) (Zm190_4 a b))]
def Zu190:=us [Zh224]
theorem Zv190(a:(List DCond))(b:(List DCond)):goal EE Zu190 Go.Proofs.Tryz.f190 Zk190 Za190 (a,b)=(eqV zCond a b):=by kernel_rfl
theorem Zo190:Holds EE (190,Zk190):=by
 refine holds_of EE_ok Go.Proofs.Tryz.func190 Zk190 (by kernel_rfl) Zu190 (us_ok _) Za190 (fun x hp hb=> ?_)
 obtain⟨a,b⟩:=x
 have hl_a:a.length≤9223372036854775807:=bdL (hb _ m0)
 have hl_b:b.length≤9223372036854775807:=bdL (hb _ m1)
 clear hp hb
 rw[Zv190 a b]
 exact eqV_ok hl_a
def Zh190:HH:=⟨_,Zo190⟩
def Zk151:Con UU where
 α:=(List DCond)×Int
 md:=[.wr,.ro]
 of:=oC (oL .eCond) (o1 oI)
 ds:=fun x=>[dL .eCond x.1,dI x.2]
 pre:=fun(a,k)=>[0≤k,k+cntCondS a≤4611686018427387904]
 res:=fun(a,k)=>⟨[.one (.lit (.int .i64 (k+cntCondS a)))],true,[.one (.sl .eCond (markCondS a k))]⟩
 law:=lC (lL .eCond) (l1 lI)
def Zi151_2(a:(List DCond))(k:Int):List DCond×Int×Int×Unit→Prop:=fun(row,kk,i,_)=>0≤i∧i≤a.length∧row=(mkS markCond cntCond a k).take i.toNat++a.drop i.toNat∧kk=k+ctS cntCond (a.take i.toNat)
def Zm151_2(a:(List DCond))(k:Int):List DCond×Int×Int×Unit→Nat:=fun(row,kk,i,_)=>a.length-i.toNat
def Za151:Zk151.α→Nat→Option (Ann UU):=fun(a,k)=>annL [(2,annOf [.slot 0 (2000000,0) (.own .eCond true),.slot 1 (1,1024) (.lit (.int .i64)),.slot 5 (5,1024) (.lit (.int .i64))] (fun _=>Zi151_2 a k) (Zm151_2 a k))]
def Zu151:=us [Zh94]
theorem Zv151(a:(List DCond))(k:Int):goal EE Zu151 Go.Proofs.Tryz.f151 Zk151 Za151 (a,k)=(Zi151_2 a k (a,k,(0:Int),())∧
 ∀(y:List DCond×Int×Int×PUnit),
  let x0:Nat:=Int.toNat y.2.2.1;
  let x14:Int:=IntKind.wrap IntKind.i64 (y.2.1+(1:Int));
  let x15:List DCond:=List.modify y.1 x0 fun(x:DCond)=>{Op:=y.2.1,L:=x.L,R:=x.R:DCond};
  let x12:Int:=IntKind.wrap IntKind.i64 (x14+(1:Int));
  let x13:List DCond:=List.modify x15 x0 fun(x:DCond)=>{Op:=x.Op,L:={K:=x14,S:=x.L.S,V:=x.L.V:DArg},R:=x.R:DCond};
  let x17:Int:=IntKind.wrap IntKind.i64 (IntKind.wrap IntKind.i64 (x12+(1:Int))+(1:Int));
  let x9:List DCond:=List.modify x13 x0 fun(x:DCond)=>{Op:=x.Op,L:={K:=x.L.K,S:=markText x12,V:=x.L.V:DArg},R:=x.R:DCond};
  let x11:Int:=IntKind.wrap IntKind.i64 (x17+(1:Int));
  let x7:List DCond:=List.modify x9 x0 fun(x:DCond)=>{Op:=x.Op,L:={K:=x.L.K,S:=x.L.S,V:={K:=IntKind.wrap IntKind.i64 (x12+(1:Int)),N:=x.L.V.N,S:=x.L.V.S:DVal}:DArg},R:=x.R:DCond};
  let x10:Int:=IntKind.wrap IntKind.i64 (IntKind.wrap IntKind.i64 (x11+(1:Int))+(1:Int));
  let x16:Int:=IntKind.wrap IntKind.i64 (IntKind.wrap IntKind.i64 (x10+(1:Int))+(1:Int));
  let x6:List DCond:=List.modify x7 x0 fun(x:DCond)=>{Op:=x.Op,L:={K:=x.L.K,S:=x.L.S,V:={K:=x.L.V.K,N:=x17,S:=x.L.V.S:DVal}:DArg},R:=x.R:DCond};
  let x8:Int:=IntKind.wrap IntKind.i64 (x16+(1:Int));
  let x5:List DCond:=List.modify x6 x0 fun(x:DCond)=>{Op:=x.Op,L:={K:=x.L.K,S:=x.L.S,V:={K:=x.L.V.K,N:=x.L.V.N,S:=markText x11:DVal}:DArg},R:=x.R:DCond};
  let x4:List DCond:=List.modify x5 x0 fun(x:DCond)=>{Op:=x.Op,L:=x.L,R:={K:=IntKind.wrap IntKind.i64 (x11+(1:Int)),S:=x.R.S,V:=x.R.V:DArg}:DCond};
  let x3:List DCond:=List.modify x4 x0 fun(x:DCond)=>{Op:=x.Op,L:=x.L,R:={K:=x.R.K,S:=markText x10,V:=x.R.V:DArg}:DCond};
  let x2:List DCond:=List.modify x3 x0 fun(x:DCond)=>{Op:=x.Op,L:=x.L,R:={K:=x.R.K,S:=x.R.S,V:={K:=IntKind.wrap IntKind.i64 (x10+(1:Int)),N:=x.R.V.N,S:=x.R.V.S:DVal}:DArg}:DCond};
  let x1:List DCond:=List.modify x2 x0 fun(x:DCond)=>{Op:=x.Op,L:=x.L,R:={K:=x.R.K,S:=x.R.S,V:={K:=x.R.V.K,N:=x16,S:=x.R.V.S:DVal}:DArg}:DCond};
  Zi151_2 a k y→bif decide (y.2.2.1<(↑(List.length y.1):Int)) then(0:Int)≤y.2.2.1∧x0<List.length y.1∧x0<List.length y.1∧(0:Int)≤y.2.2.1∧x0<List.length x15∧x0<List.length x15∧x12≤(4611686018427387903:Int)∧(0:Int)≤y.2.2.1∧x0<List.length x13∧x0<List.length x13∧(0:Int)≤y.2.2.1∧x0<List.length x9∧x0<List.length x9∧(0:Int)≤y.2.2.1∧x0<List.length x7∧x0<List.length x7∧x11≤(4611686018427387903:Int)∧(0:Int)≤y.2.2.1∧x0<List.length x6∧x0<List.length x6∧(0:Int)≤y.2.2.1∧x0<List.length x5∧x0<List.length x5∧x10≤(4611686018427387903:Int)∧(0:Int)≤y.2.2.1∧x0<List.length x4∧x0<List.length x4∧(0:Int)≤y.2.2.1∧x0<List.length x3∧x0<List.length x3∧(0:Int)≤y.2.2.1∧x0<List.length x2∧x0<List.length x2∧x8≤(4611686018427387903:Int)∧(0:Int)≤y.2.2.1∧x0<List.length x1∧x0<List.length x1∧Zi151_2 a k (List.modify x1 x0 fun(x:DCond)=>{Op:=x.Op,L:=x.L,R:={K:=x.R.K,S:=x.R.S,V:={K:=x.R.V.K,N:=x.R.V.N,S:=markText x8:DVal}:DArg}:DCond},IntKind.wrap IntKind.i64 (x8+(1:Int)),IntKind.wrap IntKind.i64 (y.2.2.1+(1:Int)),PUnit.unit)∧Zm151_2 a k (List.modify x1 x0 fun(x:DCond)=>{Op:=x.Op,L:=x.L,R:={K:=x.R.K,S:=x.R.S,V:={K:=x.R.V.K,N:=x.R.V.N,S:=markText x8:DVal}:DArg}:DCond},IntKind.wrap IntKind.i64 (x8+(1:Int)),IntKind.wrap IntKind.i64 (y.2.2.1+(1:Int)),PUnit.unit)<Zm151_2 a k y else asD [DV.one (Cell.lit (Value.int IntKind.i64 y.2.1))]=asD [DV.one (Cell.lit (Value.int IntKind.i64 (k+(↑(cntCondS a):Int))))]∧asD [DV.one (Cell.sl Cd.eCond y.1)]=asD [DV.one (Cell.sl Cd.eCond (markCondS a k))]):=by kernel_rfl
theorem Zo151:Holds EE (151,Zk151):=by
 refine holds_of EE_ok Go.Proofs.Tryz.func151 Zk151 (by kernel_rfl) Zu151 (us_ok _) Za151 (fun x hp hb=> ?_)
 obtain⟨a,k⟩:=x
 have hl_a:a.length≤9223372036854775807:=bdL (hb _ m0)
 have hl_k:=bdI (n:=k) (hb _ m1)
 have hp0:0≤k:=hp _ m0
 have hp1:k+cntCondS a≤4611686018427387904:=hp _ m1
 clear hp hb
 rw[Zv151 a k]
 dsimp only
 refine⟨⟨by omega,by omega,by simp,by simp[ctS]⟩,?_⟩
 rintro⟨row,kk,i,⟨⟩⟩ ⟨h1,h2,rfl,rfl⟩
 simp only
 have hl:=mk_rl markCond cntCond a k h1 h2
 refine if_cond (fun hc=> ?_) (fun hc=> ?_)
 ·have hc:i<a.length:=by have hc:=of_decide_eq_true hc;omega
  have hct:=ctS_take cntCond a zCond h1 hc
  have hle:=ctS_take_le cntCond a (i+1).toNat
  have hg:=mk_getD _ a zCond (mk_tl markCond cntCond a k h1 h2) h1 hc
  have hM:=fun F hF=>mkS_mod markCond cntCond a zCond k (i:=i) F h1 hc hF
  have hq:(cntCondS a:Int)=ctS cntCond a:=rfl
  generalize List.getD a i.toNat zCond=x at*
  generalize hkk:k+(ctS cntCond (a.take i.toNat):Int)=kk at*
  generalize List.take i.toNat (mkS markCond cntCond a k)++List.drop i.toNat a=R at*
  simp only[cntCond] at hct
  simp(disch:=first|omega|(simp only[List.length_modify];omega)) only[List.length_modify,wrap_i64,getD_modify,modify_modify,hg,hl]
  repeat' (first|refine And.intro (by omega) ?_|fail)
  exact⟨⟨by omega,by omega,hM _ (by first|rfl|(simp only[markCond,markBool];rw[Int.tmod_eq_emod_of_nonneg (by omega)];rfl)),by omega⟩,by simp only[Zm151_2];omega⟩
 ·have hc:a.length≤i:=by have hc:=of_decide_eq_false hc;omega
  rw[mk_done markCond cntCond a k hc,ct_done cntCond a hc]
  exact⟨rfl,rfl⟩
def Zh151:HH:=⟨_,Zo151⟩
def Zk250:Con UU where
 α:=DExpr×Int
 md:=[.ro,.ro]
 of:=oC (oA .lExpr) (o1 oI)
 ds:=fun x=>[dA .lExpr x.1,dI x.2]
 pre:=fun(a,left)=>[0≤left]
 res:=fun(a,left)=>⟨[.one (.lit (.int .i64 (szr left (sizeExpr a))))],true,[]⟩
 law:=lC (lA .lExpr) (l1 lI)
def Za250:Zk250.α→Nat→Option (Ann UU):=fun(a,left)=>annL []
def Zu250:=us [Zh232]
theorem Zv250(a:DExpr)(left:Int):goal EE Zu250 Go.Proofs.Tryz.f250 Zk250 Za250 (a,left)=(let x1:Int:=IntKind.wrap IntKind.i64 (left-(↑(ByteArray.size a.Op):Int));
let x0:Int:=szr x1 (sizeArg a.L);
bif decide (x1<(0:Int)) then Lf [DV.one (Cell.lit (Value.int IntKind.i64 (-1:Int)))] [DV.one (Cell.lit (Value.int IntKind.i64 (szr left (sizeExpr a))))] else(0:Int)≤x1∧bif decide (x0<(0:Int)) then Lf [DV.one (Cell.lit (Value.int IntKind.i64 (-1:Int)))] [DV.one (Cell.lit (Value.int IntKind.i64 (szr left (sizeExpr a))))] else(0:Int)≤x0∧bif decide (szr x0 (sizeArg a.R)<(0:Int)) then Lf [DV.one (Cell.lit (Value.int IntKind.i64 (-1:Int)))] [DV.one (Cell.lit (Value.int IntKind.i64 (szr left (sizeExpr a))))] else Lf [DV.one (Cell.lit (Value.int IntKind.i64 (szr x0 (sizeArg a.R))))] [DV.one (Cell.lit (Value.int IntKind.i64 (szr left (sizeExpr a))))]):=by kernel_rfl
theorem Zo250:Holds EE (250,Zk250):=by
 refine holds_of EE_ok Go.Proofs.Tryz.func250 Zk250 (by kernel_rfl) Zu250 (us_ok _) Za250 (fun x hp hb=> ?_)
 obtain⟨a,left⟩:=x
 have hz0:=bd_lExpr (x:=a) (hb _ m0)
 have hl_a_Op:=hz0.1
 have hl_a_L_S:=hz0.2.1
 have hl_a_L_V_S:=hz0.2.2.1
 have hl_a_R_S:=hz0.2.2.2.1
 have hl_a_R_V_S:=hz0.2.2.2.2
 have hl_left:=bdI (n:=left) (hb _ m1)
 have hp0:0≤left:=hp _ m0
 clear hp hb
 rw[Zv250 a left]
 dsimp only
 rw[wrap_i64 (by omega) (by omega)]
 refine if_cond (fun h=>Lf_i (szr_bad' ?_)) (fun h=> ?_)
 ·have h:=of_decide_eq_true h;simp only[sizeExpr];omega
 have h0:=of_decide_eq_false h
 refine⟨by omega,if_cond (fun h=>Lf_i (szr_bad' ?_)) (fun h=> ?_)⟩
 ·have h:=szr_neg h;simp only[sizeExpr];omega
 obtain⟨e1,h1⟩:=szr_pos h
 rw[e1]
 refine⟨by omega,if_cond (fun h=>Lf_i (szr_bad' ?_)) (fun h=> ?_)⟩
 ·have h:=szr_neg h;simp only[sizeExpr];omega
 obtain⟨e2,h2⟩:=szr_pos h
 rw[e2]
 exact Lf_i (by rw[←szr_ok' (by simp only[sizeExpr];omega)];simp only[sizeExpr];try omega)
def Zh250:HH:=⟨_,Zo250⟩
def Zk253:Con UU where
 α:=DExpr
 md:=[.ro]
 of:=o1 (oA .lExpr)
 ds:=fun x=>[dA .lExpr x]
 pre:=fun a=>[sizeExpr a≤4294967296]
 res:=fun a=>⟨[.agg [.lit (.string a.Op),.lit (.int .i64 a.L.K),.lit (.string a.L.S),.lit (.int .i64 a.L.V.K),.lit (.int .i64 a.L.V.N),.lit (.string a.L.V.S),.lit (.int .i64 a.R.K),.lit (.string a.R.S),.lit (.int .i64 a.R.V.K),.lit (.int .i64 a.R.V.N),.lit (.string a.R.V.S)]],true,[]⟩
 law:=l1 (lA .lExpr)
def Za253:Zk253.α→Nat→Option (Ann UU):=fun a=>annL []
def Zu253:=us [Zh237]
theorem Zv253(a:DExpr):goal EE Zu253 Go.Proofs.Tryz.f253 Zk253 Za253 a=(sizeArg a.L≤(4294967296:Nat)∧sizeArg a.R≤(4294967296:Nat)∧Lf [DV.agg [Cell.lit (Value.string a.Op),Cell.lit (Value.int IntKind.i64 a.L.K),Cell.lit (Value.string a.L.S),Cell.lit (Value.int IntKind.i64 a.L.V.K),Cell.lit (Value.int IntKind.i64 a.L.V.N),Cell.lit (Value.string a.L.V.S),Cell.lit (Value.int IntKind.i64 a.R.K),Cell.lit (Value.string a.R.S),Cell.lit (Value.int IntKind.i64 a.R.V.K),Cell.lit (Value.int IntKind.i64 a.R.V.N),Cell.lit (Value.string a.R.V.S)]] [DV.agg [Cell.lit (Value.string a.Op),Cell.lit (Value.int IntKind.i64 a.L.K),Cell.lit (Value.string a.L.S),Cell.lit (Value.int IntKind.i64 a.L.V.K),Cell.lit (Value.int IntKind.i64 a.L.V.N),Cell.lit (Value.string a.L.V.S),Cell.lit (Value.int IntKind.i64 a.R.K),Cell.lit (Value.string a.R.S),Cell.lit (Value.int IntKind.i64 a.R.V.K),Cell.lit (Value.int IntKind.i64 a.R.V.N),Cell.lit (Value.string a.R.V.S)]]):=by kernel_rfl
theorem Zo253:Holds EE (253,Zk253):=by
 refine holds_of EE_ok Go.Proofs.Tryz.func253 Zk253 (by kernel_rfl) Zu253 (us_ok _) Za253 (fun(a:DExpr) hp hb=> ?_)
 have hz0:=bd_lExpr (x:=a) (hb _ m0)
 have hl_a_Op:=hz0.1
 have hl_a_L_S:=hz0.2.1
 have hl_a_L_V_S:=hz0.2.2.1
 have hl_a_R_S:=hz0.2.2.2.1
 have hl_a_R_V_S:=hz0.2.2.2.2
 have hp0:sizeExpr a≤4294967296:=hp _ m0
 clear hp hb
 rw[Zv253 a]
 simp only[sizeExpr] at hp0
 repeat' (first|exact Lf_rfl _|(refine And.intro (by omega) ?_))
def Zh253:HH:=⟨_,Zo253⟩
def Zk255:Con UU where
 α:=DExpr×DExpr
 md:=[.ro,.ro]
 of:=oC (oA .eExpr) (o1 (oA .eExpr))
 ds:=fun x=>[dA .eExpr x.1,dA .eExpr x.2]
 pre:=fun _=>[]
 res:=fun(a,b)=>⟨[.one (.lit (.bool (decide (a=b))))],true,[]⟩
 law:=lC (lA .eExpr) (l1 (lA .eExpr))
def Za255:Zk255.α→Nat→Option (Ann UU):=fun(a,b)=>annL []
def Zu255:=us [Zh243]
theorem Zv255(a:DExpr)(b:DExpr):goal EE Zu255 Go.Proofs.Tryz.f255 Zk255 Za255 (a,b)=(bif !ByteArray.toList a.Op==ByteArray.toList b.Op then Lb false (decide (a=b)) else bif !decide (a.L=b.L) then Lb false (decide (a=b)) else bif !decide (a.R=b.R) then Lb false (decide (a=b)) else Lb true (decide (a=b))):=by kernel_rfl
theorem Zo255:Holds EE (255,Zk255):=by
 refine holds_of EE_ok Go.Proofs.Tryz.func255 Zk255 (by kernel_rfl) Zu255 (us_ok _) Za255 (fun x hp hb=> ?_)
 obtain⟨a,b⟩:=x
 have hz0:=bd_eExpr (x:=a) (hb _ m0)
 have hl_a_Op:=hz0.1
 have hl_a_L_S:=hz0.2.1
 have hl_a_L_V_S:=hz0.2.2.1
 have hl_a_R_S:=hz0.2.2.2.1
 have hl_a_R_V_S:=hz0.2.2.2.2
 have hz1:=bd_eExpr (x:=b) (hb _ m1)
 have hl_b_Op:=hz1.1
 have hl_b_L_S:=hz1.2.1
 have hl_b_L_V_S:=hz1.2.2.1
 have hl_b_R_S:=hz1.2.2.2.1
 have hl_b_R_V_S:=hz1.2.2.2.2
 clear hp hb
 rw[Zv255 a b]
 obtain⟨aOp,aL,aR⟩:=a
 obtain⟨bOp,bL,bR⟩:=b
 repeat' (apply if_cond<;>intro _)
 all_goals (first|apply Lf_t|apply Lf_f)<;>simp_all
def Zh255:HH:=⟨_,Zo255⟩
def Zk233:Con UU where
 α:=(List DExpr)×Int
 md:=[.ro,.ro]
 of:=oC (oL .lExpr) (o1 oI)
 ds:=fun x=>[dL .lExpr x.1,dI x.2]
 pre:=fun(a,left)=>[0≤left]
 res:=fun(a,left)=>⟨[.one (.lit (.int .i64 (szr left (sizeExprS a))))],true,[]⟩
 law:=lC (lL .lExpr) (l1 lI)
def Zi233_5(a:(List DExpr))(left:Int):Int×Int×Unit→Prop:=szI sizeExpr a (sizeExprS a) left
def Zm233_5(a:(List DExpr))(left:Int):Int×Int×Unit→Nat:=rM2 a
def Za233:Zk233.α→Nat→Option (Ann UU):=fun(a,left)=>annL [(5,annOf [.slot 1 (1,1024) (.lit (.int .i64)),.slot 5 (5,1024) (.lit (.int .i64))] (fun _=>Zi233_5 a left) (Zm233_5 a left))]
def Zu233:=us [Zh250]
theorem Zv233(a:(List DExpr))(left:Int):goal EE Zu233 Go.Proofs.Tryz.f233 Zk233 Za233 (a,left)=(szV sizeExpr zExpr a (sizeExprS a) left):=by kernel_rfl
theorem Zo233:Holds EE (233,Zk233):=by
 refine holds_of EE_ok Go.Proofs.Tryz.func233 Zk233 (by kernel_rfl) Zu233 (us_ok _) Za233 (fun x hp hb=> ?_)
 obtain⟨a,left⟩:=x
 have hl_a:a.length≤9223372036854775807:=bdL (hb _ m0)
 have hl_left:=bdI (n:=left) (hb _ m1)
 have hp0:0≤left:=hp _ m0
 clear hp hb
 rw[Zv233 a left]
 exact szV_ok rfl hp0 hl_left hl_a
def Zh233:HH:=⟨_,Zo233⟩
def Zk238:Con UU where
 α:=(List DExpr)
 md:=[.ro]
 of:=o1 (oL .lExpr)
 ds:=fun x=>[dL .lExpr x]
 pre:=fun a=>[sizeExprS a≤4294967296]
 res:=fun a=>⟨[.one (.sl .eExpr a)],true,[]⟩
 law:=l1 (lL .lExpr)
def Zi238_3(a:(List DExpr)):List DExpr×Int×Unit→Prop:=toI zExpr a
def Zm238_3(a:(List DExpr)):List DExpr×Int×Unit→Nat:=rM2 a
def Za238:Zk238.α→Nat→Option (Ann UU):=fun a=>annL [(3,annOf [.slot 3 (3,1024) (.own .eExpr true),.slot 4 (4,1024) (.lit (.int .i64))] (fun _=>Zi238_3 a) (Zm238_3 a))]
def Zu238:=us [Zh253]
theorem Zv238(a:(List DExpr)):goal EE Zu238 Go.Proofs.Tryz.f238 Zk238 Za238 a=(toV sizeExpr zExpr a fun y=>Lf [.one (.sl .eExpr y)] [.one (.sl .eExpr a)]):=by kernel_rfl
theorem Zo238:Holds EE (238,Zk238):=by
 refine holds_of EE_ok Go.Proofs.Tryz.func238 Zk238 (by kernel_rfl) Zu238 (us_ok _) Za238 (fun(a:(List DExpr)) hp hb=> ?_)
 have hl_a:a.length≤9223372036854775807:=bdL (hb _ m0)
 have hp0:sizeExprS a≤4294967296:=hp _ m0
 clear hp hb
 rw[Zv238 a]
 exact toV_ok hp0 (Lf_rfl _)
def Zh238:HH:=⟨_,Zo238⟩
def Zk244:Con UU where
 α:=(List DExpr)×(List DExpr)
 md:=[.ro,.ro]
 of:=oC (oL .eExpr) (o1 (oL .eExpr))
 ds:=fun x=>[dL .eExpr x.1,dL .eExpr x.2]
 pre:=fun _=>[]
 res:=fun(a,b)=>⟨[.one (.lit (.bool (decide (a=b))))],true,[]⟩
 law:=lC (lL .eExpr) (l1 (lL .eExpr))
def Zi244_4(a:(List DExpr))(b:(List DExpr)):Int×Unit→Prop:=eqI a b
def Zm244_4(a:(List DExpr))(b:(List DExpr)):Int×Unit→Nat:=rM1 a
def Za244:Zk244.α→Nat→Option (Ann UU):=fun(a,b)=>annL [(4,annOf [.slot 5 (5,1024) (.lit (.int .i64))] (fun _=>Zi244_4 a b) (Zm244_4 a b))]
def Zu244:=us [Zh255]
theorem Zv244(a:(List DExpr))(b:(List DExpr)):goal EE Zu244 Go.Proofs.Tryz.f244 Zk244 Za244 (a,b)=(eqV zExpr a b):=by kernel_rfl
theorem Zo244:Holds EE (244,Zk244):=by
 refine holds_of EE_ok Go.Proofs.Tryz.func244 Zk244 (by kernel_rfl) Zu244 (us_ok _) Za244 (fun x hp hb=> ?_)
 obtain⟨a,b⟩:=x
 have hl_a:a.length≤9223372036854775807:=bdL (hb _ m0)
 have hl_b:b.length≤9223372036854775807:=bdL (hb _ m1)
 clear hp hb
 rw[Zv244 a b]
 exact eqV_ok hl_a
def Zh244:HH:=⟨_,Zo244⟩
def Zk200:Con UU where
 α:=(List DExpr)×Int
 md:=[.wr,.ro]
 of:=oC (oL .eExpr) (o1 oI)
 ds:=fun x=>[dL .eExpr x.1,dI x.2]
 pre:=fun(a,k)=>[0≤k,k+cntExprS a≤4611686018427387904]
 res:=fun(a,k)=>⟨[.one (.lit (.int .i64 (k+cntExprS a)))],true,[.one (.sl .eExpr (markExprS a k))]⟩
 law:=lC (lL .eExpr) (l1 lI)
def Zi200_2(a:(List DExpr))(k:Int):List DExpr×Int×Int×Unit→Prop:=fun(row,kk,i,_)=>0≤i∧i≤a.length∧row=(mkS markExpr cntExpr a k).take i.toNat++a.drop i.toNat∧kk=k+ctS cntExpr (a.take i.toNat)
def Zm200_2(a:(List DExpr))(k:Int):List DExpr×Int×Int×Unit→Nat:=fun(row,kk,i,_)=>a.length-i.toNat
def Za200:Zk200.α→Nat→Option (Ann UU):=fun(a,k)=>annL [(2,annOf [.slot 0 (2000000,0) (.own .eExpr true),.slot 1 (1,1024) (.lit (.int .i64)),.slot 5 (5,1024) (.lit (.int .i64))] (fun _=>Zi200_2 a k) (Zm200_2 a k))]
def Zu200:=us [Zh94]
theorem Zv200(a:(List DExpr))(k:Int):goal EE Zu200 Go.Proofs.Tryz.f200 Zk200 Za200 (a,k)=(Zi200_2 a k (a,k,(0:Int),())∧
 ∀(y:List DExpr×Int×Int×PUnit),
  let x0:Nat:=Int.toNat y.2.2.1;
  let x14:List DExpr:=List.modify y.1 x0 fun(x:DExpr)=>{Op:=markText y.2.1,L:=x.L,R:=x.R:DExpr};
  let x15:Int:=IntKind.wrap IntKind.i64 (y.2.1+(1:Int));
  let x12:Int:=IntKind.wrap IntKind.i64 (x15+(1:Int));
  let x13:List DExpr:=List.modify x14 x0 fun(x:DExpr)=>{Op:=x.Op,L:={K:=x15,S:=x.L.S,V:=x.L.V:DArg},R:=x.R:DExpr};
  let x16:Int:=IntKind.wrap IntKind.i64 (IntKind.wrap IntKind.i64 (x12+(1:Int))+(1:Int));
  let x9:List DExpr:=List.modify x13 x0 fun(x:DExpr)=>{Op:=x.Op,L:={K:=x.L.K,S:=markText x12,V:=x.L.V:DArg},R:=x.R:DExpr};
  let x11:Int:=IntKind.wrap IntKind.i64 (x16+(1:Int));
  let x7:List DExpr:=List.modify x9 x0 fun(x:DExpr)=>{Op:=x.Op,L:={K:=x.L.K,S:=x.L.S,V:={K:=IntKind.wrap IntKind.i64 (x12+(1:Int)),N:=x.L.V.N,S:=x.L.V.S:DVal}:DArg},R:=x.R:DExpr};
  let x10:Int:=IntKind.wrap IntKind.i64 (IntKind.wrap IntKind.i64 (x11+(1:Int))+(1:Int));
  let x17:Int:=IntKind.wrap IntKind.i64 (IntKind.wrap IntKind.i64 (x10+(1:Int))+(1:Int));
  let x6:List DExpr:=List.modify x7 x0 fun(x:DExpr)=>{Op:=x.Op,L:={K:=x.L.K,S:=x.L.S,V:={K:=x.L.V.K,N:=x16,S:=x.L.V.S:DVal}:DArg},R:=x.R:DExpr};
  let x8:Int:=IntKind.wrap IntKind.i64 (x17+(1:Int));
  let x5:List DExpr:=List.modify x6 x0 fun(x:DExpr)=>{Op:=x.Op,L:={K:=x.L.K,S:=x.L.S,V:={K:=x.L.V.K,N:=x.L.V.N,S:=markText x11:DVal}:DArg},R:=x.R:DExpr};
  let x4:List DExpr:=List.modify x5 x0 fun(x:DExpr)=>{Op:=x.Op,L:=x.L,R:={K:=IntKind.wrap IntKind.i64 (x11+(1:Int)),S:=x.R.S,V:=x.R.V:DArg}:DExpr};
  let x3:List DExpr:=List.modify x4 x0 fun(x:DExpr)=>{Op:=x.Op,L:=x.L,R:={K:=x.R.K,S:=markText x10,V:=x.R.V:DArg}:DExpr};
  let x2:List DExpr:=List.modify x3 x0 fun(x:DExpr)=>{Op:=x.Op,L:=x.L,R:={K:=x.R.K,S:=x.R.S,V:={K:=IntKind.wrap IntKind.i64 (x10+(1:Int)),N:=x.R.V.N,S:=x.R.V.S:DVal}:DArg}:DExpr};
  let x1:List DExpr:=List.modify x2 x0 fun(x:DExpr)=>{Op:=x.Op,L:=x.L,R:={K:=x.R.K,S:=x.R.S,V:={K:=x.R.V.K,N:=x17,S:=x.R.V.S:DVal}:DArg}:DExpr};
  Zi200_2 a k y→bif decide (y.2.2.1<(↑(List.length y.1):Int)) then y.2.1≤(4611686018427387903:Int)∧(0:Int)≤y.2.2.1∧x0<List.length y.1∧x0<List.length y.1∧(0:Int)≤y.2.2.1∧x0<List.length x14∧x0<List.length x14∧x12≤(4611686018427387903:Int)∧(0:Int)≤y.2.2.1∧x0<List.length x13∧x0<List.length x13∧(0:Int)≤y.2.2.1∧x0<List.length x9∧x0<List.length x9∧(0:Int)≤y.2.2.1∧x0<List.length x7∧x0<List.length x7∧x11≤(4611686018427387903:Int)∧(0:Int)≤y.2.2.1∧x0<List.length x6∧x0<List.length x6∧(0:Int)≤y.2.2.1∧x0<List.length x5∧x0<List.length x5∧x10≤(4611686018427387903:Int)∧(0:Int)≤y.2.2.1∧x0<List.length x4∧x0<List.length x4∧(0:Int)≤y.2.2.1∧x0<List.length x3∧x0<List.length x3∧(0:Int)≤y.2.2.1∧x0<List.length x2∧x0<List.length x2∧x8≤(4611686018427387903:Int)∧(0:Int)≤y.2.2.1∧x0<List.length x1∧x0<List.length x1∧Zi200_2 a k (List.modify x1 x0 fun(x:DExpr)=>{Op:=x.Op,L:=x.L,R:={K:=x.R.K,S:=x.R.S,V:={K:=x.R.V.K,N:=x.R.V.N,S:=markText x8:DVal}:DArg}:DExpr},IntKind.wrap IntKind.i64 (x8+(1:Int)),IntKind.wrap IntKind.i64 (y.2.2.1+(1:Int)),PUnit.unit)∧Zm200_2 a k (List.modify x1 x0 fun(x:DExpr)=>{Op:=x.Op,L:=x.L,R:={K:=x.R.K,S:=x.R.S,V:={K:=x.R.V.K,N:=x.R.V.N,S:=markText x8:DVal}:DArg}:DExpr},IntKind.wrap IntKind.i64 (x8+(1:Int)),IntKind.wrap IntKind.i64 (y.2.2.1+(1:Int)),PUnit.unit)<Zm200_2 a k y else asD [DV.one (Cell.lit (Value.int IntKind.i64 y.2.1))]=asD [DV.one (Cell.lit (Value.int IntKind.i64 (k+(↑(cntExprS a):Int))))]∧asD [DV.one (Cell.sl Cd.eExpr y.1)]=asD [DV.one (Cell.sl Cd.eExpr (markExprS a k))]):=by kernel_rfl
theorem Zo200:Holds EE (200,Zk200):=by
 refine holds_of EE_ok Go.Proofs.Tryz.func200 Zk200 (by kernel_rfl) Zu200 (us_ok _) Za200 (fun x hp hb=> ?_)
 obtain⟨a,k⟩:=x
 have hl_a:a.length≤9223372036854775807:=bdL (hb _ m0)
 have hl_k:=bdI (n:=k) (hb _ m1)
 have hp0:0≤k:=hp _ m0
 have hp1:k+cntExprS a≤4611686018427387904:=hp _ m1
 clear hp hb
 rw[Zv200 a k]
 dsimp only
 refine⟨⟨by omega,by omega,by simp,by simp[ctS]⟩,?_⟩
 rintro⟨row,kk,i,⟨⟩⟩ ⟨h1,h2,rfl,rfl⟩
 simp only
 have hl:=mk_rl markExpr cntExpr a k h1 h2
 refine if_cond (fun hc=> ?_) (fun hc=> ?_)
 ·have hc:i<a.length:=by have hc:=of_decide_eq_true hc;omega
  have hct:=ctS_take cntExpr a zExpr h1 hc
  have hle:=ctS_take_le cntExpr a (i+1).toNat
  have hg:=mk_getD _ a zExpr (mk_tl markExpr cntExpr a k h1 h2) h1 hc
  have hM:=fun F hF=>mkS_mod markExpr cntExpr a zExpr k (i:=i) F h1 hc hF
  have hq:(cntExprS a:Int)=ctS cntExpr a:=rfl
  generalize List.getD a i.toNat zExpr=x at*
  generalize hkk:k+(ctS cntExpr (a.take i.toNat):Int)=kk at*
  generalize List.take i.toNat (mkS markExpr cntExpr a k)++List.drop i.toNat a=R at*
  simp only[cntExpr] at hct
  simp(disch:=first|omega|(simp only[List.length_modify];omega)) only[List.length_modify,wrap_i64,getD_modify,modify_modify,hg,hl]
  repeat' (first|refine And.intro (by omega) ?_|fail)
  exact⟨⟨by omega,by omega,hM _ (by first|rfl|(simp only[markExpr,markBool];rw[Int.tmod_eq_emod_of_nonneg (by omega)];rfl)),by omega⟩,by simp only[Zm200_2];omega⟩
 ·have hc:a.length≤i:=by have hc:=of_decide_eq_false hc;omega
  rw[mk_done markExpr cntExpr a k hc,ct_done cntExpr a hc]
  exact⟨rfl,rfl⟩
def Zh200:HH:=⟨_,Zo200⟩
def Zk203:Con UU where
 α:=DAct×Int
 md:=[.ro,.ro]
 of:=oC (oA .lAct) (o1 oI)
 ds:=fun x=>[dA .lAct x.1,dI x.2]
 pre:=fun(a,left)=>[0≤left]
 res:=fun(a,left)=>⟨[.one (.lit (.int .i64 (szr left (sizeAct a))))],true,[]⟩
 law:=lC (lA .lAct) (l1 lI)
def Za203:Zk203.α→Nat→Option (Ann UU):=fun(a,left)=>annL []
def Zu203:=us [Zh233]
theorem Zv203(a:DAct)(left:Int):goal EE Zu203 Go.Proofs.Tryz.f203 Zk203 Za203 (a,left)=(let x1:Int:=IntKind.wrap IntKind.i64 (left-(↑(ByteArray.size a.Name):Int));
let x0:Int:=IntKind.wrap IntKind.i64 (szr x1 (sizeExprS a.Args)-(↑(ByteArray.size a.Undo):Int));
bif decide (x1<(0:Int)) then Lf [DV.one (Cell.lit (Value.int IntKind.i64 (-1:Int)))] [DV.one (Cell.lit (Value.int IntKind.i64 (szr left (sizeAct a))))] else(0:Int)≤x1∧bif decide (szr x1 (sizeExprS a.Args)<(0:Int)) then Lf [DV.one (Cell.lit (Value.int IntKind.i64 (-1:Int)))] [DV.one (Cell.lit (Value.int IntKind.i64 (szr left (sizeAct a))))] else bif decide (x0<(0:Int)) then Lf [DV.one (Cell.lit (Value.int IntKind.i64 (-1:Int)))] [DV.one (Cell.lit (Value.int IntKind.i64 (szr left (sizeAct a))))] else Lf [DV.one (Cell.lit (Value.int IntKind.i64 x0))] [DV.one (Cell.lit (Value.int IntKind.i64 (szr left (sizeAct a))))]):=by kernel_rfl
theorem Zo203:Holds EE (203,Zk203):=by
 refine holds_of EE_ok Go.Proofs.Tryz.func203 Zk203 (by kernel_rfl) Zu203 (us_ok _) Za203 (fun x hp hb=> ?_)
 obtain⟨a,left⟩:=x
 have hz0:=bd_lAct (x:=a) (hb _ m0)
 have hl_a_Name:=hz0.1
 have hl_a_Args:=hz0.2.1
 have hl_a_Undo:=hz0.2.2
 have hl_left:=bdI (n:=left) (hb _ m1)
 have hp0:0≤left:=hp _ m0
 clear hp hb
 rw[Zv203 a left]
 dsimp only
 rw[wrap_i64 (by omega) (by omega)]
 refine if_cond (fun h=>Lf_i (szr_bad' ?_)) (fun h=> ?_)
 ·have h:=of_decide_eq_true h;simp only[sizeAct];omega
 have h0:=of_decide_eq_false h
 refine⟨by omega,if_cond (fun h=>Lf_i (szr_bad' ?_)) (fun h=> ?_)⟩
 ·have h:=szr_neg h;simp only[sizeAct];omega
 obtain⟨e1,h1⟩:=szr_pos h
 rw[e1]
 rw[wrap_i64 (by omega) (by omega)]
 refine if_cond (fun h=>Lf_i (szr_bad' ?_)) (fun h=> ?_)
 ·have h:=of_decide_eq_true h;simp only[sizeAct];omega
 have h2:=of_decide_eq_false h
 exact Lf_i (by rw[←szr_ok' (by simp only[sizeAct];omega)];simp only[sizeAct];try omega)
def Zh203:HH:=⟨_,Zo203⟩
def Zk214:Con UU where
 α:=DAct
 md:=[.ro]
 of:=o1 (oA .lAct)
 ds:=fun x=>[dA .lAct x]
 pre:=fun a=>[sizeAct a≤4294967296]
 res:=fun a=>⟨[.agg [.lit (.int .i64 a.Kind),.lit (.string a.Name),.sl .eExpr a.Args,.lit (.int .i64 a.N),.lit (.string a.Undo)]],true,[]⟩
 law:=l1 (lA .lAct)
def Za214:Zk214.α→Nat→Option (Ann UU):=fun a=>annL []
def Zu214:=us [Zh238]
theorem Zv214(a:DAct):goal EE Zu214 Go.Proofs.Tryz.f214 Zk214 Za214 a=(sizeExprS a.Args≤(4294967296:Nat)∧Lf [DV.agg [Cell.lit (Value.int IntKind.i64 a.Kind),Cell.lit (Value.string a.Name),Cell.sl Cd.eExpr a.Args,Cell.lit (Value.int IntKind.i64 a.N),Cell.lit (Value.string a.Undo)]] [DV.agg [Cell.lit (Value.int IntKind.i64 a.Kind),Cell.lit (Value.string a.Name),Cell.sl Cd.eExpr a.Args,Cell.lit (Value.int IntKind.i64 a.N),Cell.lit (Value.string a.Undo)]]):=by kernel_rfl
theorem Zo214:Holds EE (214,Zk214):=by
 refine holds_of EE_ok Go.Proofs.Tryz.func214 Zk214 (by kernel_rfl) Zu214 (us_ok _) Za214 (fun(a:DAct) hp hb=> ?_)
 have hz0:=bd_lAct (x:=a) (hb _ m0)
 have hl_a_Name:=hz0.1
 have hl_a_Args:=hz0.2.1
 have hl_a_Undo:=hz0.2.2
 have hp0:sizeAct a≤4294967296:=hp _ m0
 clear hp hb
 rw[Zv214 a]
 simp only[sizeAct] at hp0
 repeat' (first|exact Lf_rfl _|(refine And.intro (by omega) ?_))
def Zh214:HH:=⟨_,Zo214⟩
def Zk225:Con UU where
 α:=DAct×DAct
 md:=[.ro,.ro]
 of:=oC (oA .eAct) (o1 (oA .eAct))
 ds:=fun x=>[dA .eAct x.1,dA .eAct x.2]
 pre:=fun _=>[]
 res:=fun(a,b)=>⟨[.one (.lit (.bool (decide (a=b))))],true,[]⟩
 law:=lC (lA .eAct) (l1 (lA .eAct))
def Za225:Zk225.α→Nat→Option (Ann UU):=fun(a,b)=>annL []
def Zu225:=us [Zh244]
theorem Zv225(a:DAct)(b:DAct):goal EE Zu225 Go.Proofs.Tryz.f225 Zk225 Za225 (a,b)=(bif a.Kind !=b.Kind then Lb false (decide (a=b)) else bif !ByteArray.toList a.Name==ByteArray.toList b.Name then Lb false (decide (a=b)) else bif !decide (a.Args=b.Args) then Lb false (decide (a=b)) else bif a.N !=b.N then Lb false (decide (a=b)) else bif !ByteArray.toList a.Undo==ByteArray.toList b.Undo then Lb false (decide (a=b)) else Lb true (decide (a=b))):=by kernel_rfl
theorem Zo225:Holds EE (225,Zk225):=by
 refine holds_of EE_ok Go.Proofs.Tryz.func225 Zk225 (by kernel_rfl) Zu225 (us_ok _) Za225 (fun x hp hb=> ?_)
 obtain⟨a,b⟩:=x
 have hz0:=bd_eAct (x:=a) (hb _ m0)
 have hl_a_Name:=hz0.1
 have hl_a_Args:=hz0.2.1
 have hl_a_Undo:=hz0.2.2
 have hz1:=bd_eAct (x:=b) (hb _ m1)
 have hl_b_Name:=hz1.1
 have hl_b_Args:=hz1.2.1
 have hl_b_Undo:=hz1.2.2
 clear hp hb
 rw[Zv225 a b]
 obtain⟨aKind,aName,aArgs,aN,aUndo⟩:=a
 obtain⟨bKind,bName,bArgs,bN,bUndo⟩:=b
 repeat' (apply if_cond<;>intro _)
 all_goals (first|apply Lf_t|apply Lf_f)<;>simp_all
def Zh225:HH:=⟨_,Zo225⟩
def Zk155:Con UU where
 α:=(List DAct)×Int
 md:=[.ro,.ro]
 of:=oC (oL .lAct) (o1 oI)
 ds:=fun x=>[dL .lAct x.1,dI x.2]
 pre:=fun(a,left)=>[0≤left]
 res:=fun(a,left)=>⟨[.one (.lit (.int .i64 (szr left (sizeActS a))))],true,[]⟩
 law:=lC (lL .lAct) (l1 lI)
def Zi155_5(a:(List DAct))(left:Int):Int×Int×Unit→Prop:=szI sizeAct a (sizeActS a) left
def Zm155_5(a:(List DAct))(left:Int):Int×Int×Unit→Nat:=rM2 a
def Za155:Zk155.α→Nat→Option (Ann UU):=fun(a,left)=>annL [(5,annOf [.slot 1 (1,1024) (.lit (.int .i64)),.slot 5 (5,1024) (.lit (.int .i64))] (fun _=>Zi155_5 a left) (Zm155_5 a left))]
def Zu155:=us [Zh203]
theorem Zv155(a:(List DAct))(left:Int):goal EE Zu155 Go.Proofs.Tryz.f155 Zk155 Za155 (a,left)=(szV sizeAct zAct a (sizeActS a) left):=by kernel_rfl
theorem Zo155:Holds EE (155,Zk155):=by
 refine holds_of EE_ok Go.Proofs.Tryz.func155 Zk155 (by kernel_rfl) Zu155 (us_ok _) Za155 (fun x hp hb=> ?_)
 obtain⟨a,left⟩:=x
 have hl_a:a.length≤9223372036854775807:=bdL (hb _ m0)
 have hl_left:=bdI (n:=left) (hb _ m1)
 have hp0:0≤left:=hp _ m0
 clear hp hb
 rw[Zv155 a left]
 exact szV_ok rfl hp0 hl_left hl_a
def Zh155:HH:=⟨_,Zo155⟩
def Zk170:Con UU where
 α:=(List DAct)
 md:=[.ro]
 of:=o1 (oL .lAct)
 ds:=fun x=>[dL .lAct x]
 pre:=fun a=>[sizeActS a≤4294967296]
 res:=fun a=>⟨[.one (.sl .eAct a)],true,[]⟩
 law:=l1 (lL .lAct)
def Zi170_3(a:(List DAct)):List DAct×Int×Unit→Prop:=toI zAct a
def Zm170_3(a:(List DAct)):List DAct×Int×Unit→Nat:=rM2 a
def Za170:Zk170.α→Nat→Option (Ann UU):=fun a=>annL [(3,annOf [.slot 3 (3,1024) (.own .eAct true),.slot 4 (4,1024) (.lit (.int .i64))] (fun _=>Zi170_3 a) (Zm170_3 a))]
def Zu170:=us [Zh214]
theorem Zv170(a:(List DAct)):goal EE Zu170 Go.Proofs.Tryz.f170 Zk170 Za170 a=(toV sizeAct zAct a fun y=>Lf [.one (.sl .eAct y)] [.one (.sl .eAct a)]):=by kernel_rfl
theorem Zo170:Holds EE (170,Zk170):=by
 refine holds_of EE_ok Go.Proofs.Tryz.func170 Zk170 (by kernel_rfl) Zu170 (us_ok _) Za170 (fun(a:(List DAct)) hp hb=> ?_)
 have hl_a:a.length≤9223372036854775807:=bdL (hb _ m0)
 have hp0:sizeActS a≤4294967296:=hp _ m0
 clear hp hb
 rw[Zv170 a]
 exact toV_ok hp0 (Lf_rfl _)
def Zh170:HH:=⟨_,Zo170⟩
def Zk191:Con UU where
 α:=(List DAct)×(List DAct)
 md:=[.ro,.ro]
 of:=oC (oL .eAct) (o1 (oL .eAct))
 ds:=fun x=>[dL .eAct x.1,dL .eAct x.2]
 pre:=fun _=>[]
 res:=fun(a,b)=>⟨[.one (.lit (.bool (decide (a=b))))],true,[]⟩
 law:=lC (lL .eAct) (l1 (lL .eAct))
def Zi191_4(a:(List DAct))(b:(List DAct)):Int×Unit→Prop:=eqI a b
def Zm191_4(a:(List DAct))(b:(List DAct)):Int×Unit→Nat:=rM1 a
def Za191:Zk191.α→Nat→Option (Ann UU):=fun(a,b)=>annL [(4,annOf [.slot 5 (5,1024) (.lit (.int .i64))] (fun _=>Zi191_4 a b) (Zm191_4 a b))]
def Zu191:=us [Zh225]
theorem Zv191(a:(List DAct))(b:(List DAct)):goal EE Zu191 Go.Proofs.Tryz.f191 Zk191 Za191 (a,b)=(eqV zAct a b):=by kernel_rfl
theorem Zo191:Holds EE (191,Zk191):=by
 refine holds_of EE_ok Go.Proofs.Tryz.func191 Zk191 (by kernel_rfl) Zu191 (us_ok _) Za191 (fun x hp hb=> ?_)
 obtain⟨a,b⟩:=x
 have hl_a:a.length≤9223372036854775807:=bdL (hb _ m0)
 have hl_b:b.length≤9223372036854775807:=bdL (hb _ m1)
 clear hp hb
 rw[Zv191 a b]
 exact eqV_ok hl_a
def Zh191:HH:=⟨_,Zo191⟩
def Zk152:Con UU where
 α:=(List DAct)×Int
 md:=[.wr,.ro]
 of:=oC (oL .eAct) (o1 oI)
 ds:=fun x=>[dL .eAct x.1,dI x.2]
 pre:=fun(a,k)=>[0≤k,k+cntActS a≤4611686018427387904]
 res:=fun(a,k)=>⟨[.one (.lit (.int .i64 (k+cntActS a)))],true,[.one (.sl .eAct (markActS a k))]⟩
 law:=lC (lL .eAct) (l1 lI)
def Zi152_2(a:(List DAct))(k:Int):List DAct×Int×Int×Unit→Prop:=fun(row,kk,i,_)=>0≤i∧i≤a.length∧row=(mkS markAct cntAct a k).take i.toNat++a.drop i.toNat∧kk=k+ctS cntAct (a.take i.toNat)
def Zm152_2(a:(List DAct))(k:Int):List DAct×Int×Int×Unit→Nat:=fun(row,kk,i,_)=>a.length-i.toNat
def Za152:Zk152.α→Nat→Option (Ann UU):=fun(a,k)=>annL [(2,annOf [.slot 0 (2000000,0) (.own .eAct true),.slot 1 (1,1024) (.lit (.int .i64)),.slot 5 (5,1024) (.lit (.int .i64))] (fun _=>Zi152_2 a k) (Zm152_2 a k))]
def Zu152:=us [Zh94,Zh200]
theorem Zv152(a:(List DAct))(k:Int):goal EE Zu152 Go.Proofs.Tryz.f152 Zk152 Za152 (a,k)=(Zi152_2 a k (a,k,(0:Int),())∧
 ∀(y:List DAct×Int×Int×PUnit),
  let x3:Nat:=Int.toNat y.2.2.1;
  let x7:Int:=IntKind.wrap IntKind.i64 (y.2.1+(1:Int));
  let x8:List DAct:=List.modify y.1 x3 fun(x:DAct)=>{Kind:=y.2.1,Name:=x.Name,Args:=x.Args,N:=x.N,Undo:=x.Undo:DAct};
  let x5:List DAct:=List.modify x8 x3 fun(x:DAct)=>{Kind:=x.Kind,Name:=markText x7,Args:=x.Args,N:=x.N,Undo:=x.Undo:DAct};
  let x6:Int:=IntKind.wrap IntKind.i64 (x7+(1:Int));
  let x2:Int:=x6+(↑(cntExprS (List.getD x5 x3 zAct).Args):Int);
  let x4:List DAct:=List.modify x5 x3 fun(x:DAct)=>{Kind:=x.Kind,Name:=x.Name,Args:=markExprS (List.getD x5 x3 zAct).Args x6,N:=x.N,Undo:=x.Undo:DAct};
  let x0:List DAct:=List.modify x4 x3 fun(x:DAct)=>{Kind:=x.Kind,Name:=x.Name,Args:=x.Args,N:=x2,Undo:=x.Undo:DAct};
  let x1:Int:=IntKind.wrap IntKind.i64 (x2+(1:Int));
  Zi152_2 a k y→bif decide (y.2.2.1<(↑(List.length y.1):Int)) then(0:Int)≤y.2.2.1∧x3<List.length y.1∧x3<List.length y.1∧x7≤(4611686018427387903:Int)∧(0:Int)≤y.2.2.1∧x3<List.length x8∧x3<List.length x8∧(0:Int)≤y.2.2.1∧x3<List.length x5∧x3<List.length x5∧x3<List.length x5∧(0:Int)≤x6∧x2≤(4611686018427387904:Int)∧(0:Int)≤y.2.2.1∧x3<List.length x4∧x3<List.length x4∧x1≤(4611686018427387903:Int)∧(0:Int)≤y.2.2.1∧x3<List.length x0∧x3<List.length x0∧Zi152_2 a k (List.modify x0 x3 fun(x:DAct)=>{Kind:=x.Kind,Name:=x.Name,Args:=x.Args,N:=x.N,Undo:=markText x1:DAct},IntKind.wrap IntKind.i64 (x1+(1:Int)),IntKind.wrap IntKind.i64 (y.2.2.1+(1:Int)),PUnit.unit)∧Zm152_2 a k (List.modify x0 x3 fun(x:DAct)=>{Kind:=x.Kind,Name:=x.Name,Args:=x.Args,N:=x.N,Undo:=markText x1:DAct},IntKind.wrap IntKind.i64 (x1+(1:Int)),IntKind.wrap IntKind.i64 (y.2.2.1+(1:Int)),PUnit.unit)<Zm152_2 a k y else asD [DV.one (Cell.lit (Value.int IntKind.i64 y.2.1))]=asD [DV.one (Cell.lit (Value.int IntKind.i64 (k+(↑(cntActS a):Int))))]∧asD [DV.one (Cell.sl Cd.eAct y.1)]=asD [DV.one (Cell.sl Cd.eAct (markActS a k))]):=by kernel_rfl
theorem Zo152:Holds EE (152,Zk152):=by
 refine holds_of EE_ok Go.Proofs.Tryz.func152 Zk152 (by kernel_rfl) Zu152 (us_ok _) Za152 (fun x hp hb=> ?_)
 obtain⟨a,k⟩:=x
 have hl_a:a.length≤9223372036854775807:=bdL (hb _ m0)
 have hl_k:=bdI (n:=k) (hb _ m1)
 have hp0:0≤k:=hp _ m0
 have hp1:k+cntActS a≤4611686018427387904:=hp _ m1
 clear hp hb
 rw[Zv152 a k]
 dsimp only
 refine⟨⟨by omega,by omega,by simp,by simp[ctS]⟩,?_⟩
 rintro⟨row,kk,i,⟨⟩⟩ ⟨h1,h2,rfl,rfl⟩
 simp only
 have hl:=mk_rl markAct cntAct a k h1 h2
 refine if_cond (fun hc=> ?_) (fun hc=> ?_)
 ·have hc:i<a.length:=by have hc:=of_decide_eq_true hc;omega
  have hct:=ctS_take cntAct a zAct h1 hc
  have hle:=ctS_take_le cntAct a (i+1).toNat
  have hg:=mk_getD _ a zAct (mk_tl markAct cntAct a k h1 h2) h1 hc
  have hM:=fun F hF=>mkS_mod markAct cntAct a zAct k (i:=i) F h1 hc hF
  have hq:(cntActS a:Int)=ctS cntAct a:=rfl
  generalize List.getD a i.toNat zAct=x at*
  generalize hkk:k+(ctS cntAct (a.take i.toNat):Int)=kk at*
  generalize List.take i.toNat (mkS markAct cntAct a k)++List.drop i.toNat a=R at*
  simp only[cntAct] at hct
  simp(disch:=first|omega|(simp only[List.length_modify];omega)) only[List.length_modify,wrap_i64,getD_modify,modify_modify,hg,hl]
  repeat' (first|refine And.intro (by omega) ?_|fail)
  exact⟨⟨by omega,by omega,hM _ (by first|rfl|(simp only[markAct,markBool];rw[Int.tmod_eq_emod_of_nonneg (by omega)];rfl)),by omega⟩,by simp only[Zm152_2];omega⟩
 ·have hc:a.length≤i:=by have hc:=of_decide_eq_false hc;omega
  rw[mk_done markAct cntAct a k hc,ct_done cntAct a hc]
  exact⟨rfl,rfl⟩
def Zh152:HH:=⟨_,Zo152⟩
def Zk97:Con UU where
 α:=DRule×Int
 md:=[.ro,.ro]
 of:=oC (oA .lRule) (o1 oI)
 ds:=fun x=>[dA .lRule x.1,dI x.2]
 pre:=fun(a,left)=>[0≤left]
 res:=fun(a,left)=>⟨[.one (.lit (.int .i64 (szr left (sizeRule a))))],true,[]⟩
 law:=lC (lA .lRule) (l1 lI)
def Za97:Zk97.α→Nat→Option (Ann UU):=fun(a,left)=>annL []
def Zu97:=us [Zh153,Zh154,Zh155]
theorem Zv97(a:DRule)(left:Int):goal EE Zu97 Go.Proofs.Tryz.f97 Zk97 Za97 (a,left)=(let x2:Int:=IntKind.wrap IntKind.i64 (left-(↑(ByteArray.size a.Name):Int));
let x1:Int:=szr x2 (sizePatS a.Pats);
let x0:Int:=szr x1 (sizeCondS a.Conds);
bif decide (x2<(0:Int)) then Lf [DV.one (Cell.lit (Value.int IntKind.i64 (-1:Int)))] [DV.one (Cell.lit (Value.int IntKind.i64 (szr left (sizeRule a))))] else(0:Int)≤x2∧bif decide (x1<(0:Int)) then Lf [DV.one (Cell.lit (Value.int IntKind.i64 (-1:Int)))] [DV.one (Cell.lit (Value.int IntKind.i64 (szr left (sizeRule a))))] else(0:Int)≤x1∧bif decide (x0<(0:Int)) then Lf [DV.one (Cell.lit (Value.int IntKind.i64 (-1:Int)))] [DV.one (Cell.lit (Value.int IntKind.i64 (szr left (sizeRule a))))] else(0:Int)≤x0∧bif decide (szr x0 (sizeActS a.Acts)<(0:Int)) then Lf [DV.one (Cell.lit (Value.int IntKind.i64 (-1:Int)))] [DV.one (Cell.lit (Value.int IntKind.i64 (szr left (sizeRule a))))] else Lf [DV.one (Cell.lit (Value.int IntKind.i64 (szr x0 (sizeActS a.Acts))))] [DV.one (Cell.lit (Value.int IntKind.i64 (szr left (sizeRule a))))]):=by kernel_rfl
theorem Zo97:Holds EE (97,Zk97):=by
 refine holds_of EE_ok Go.Proofs.Tryz.func97 Zk97 (by kernel_rfl) Zu97 (us_ok _) Za97 (fun x hp hb=> ?_)
 obtain⟨a,left⟩:=x
 have hz0:=bd_lRule (x:=a) (hb _ m0)
 have hl_a_Name:=hz0.1
 have hl_a_Pats:=hz0.2.1
 have hl_a_Conds:=hz0.2.2.1
 have hl_a_Acts:=hz0.2.2.2
 have hl_left:=bdI (n:=left) (hb _ m1)
 have hp0:0≤left:=hp _ m0
 clear hp hb
 rw[Zv97 a left]
 dsimp only
 rw[wrap_i64 (by omega) (by omega)]
 refine if_cond (fun h=>Lf_i (szr_bad' ?_)) (fun h=> ?_)
 ·have h:=of_decide_eq_true h;simp only[sizeRule];omega
 have h0:=of_decide_eq_false h
 refine⟨by omega,if_cond (fun h=>Lf_i (szr_bad' ?_)) (fun h=> ?_)⟩
 ·have h:=szr_neg h;simp only[sizeRule];omega
 obtain⟨e1,h1⟩:=szr_pos h
 rw[e1]
 refine⟨by omega,if_cond (fun h=>Lf_i (szr_bad' ?_)) (fun h=> ?_)⟩
 ·have h:=szr_neg h;simp only[sizeRule];omega
 obtain⟨e2,h2⟩:=szr_pos h
 rw[e2]
 refine⟨by omega,if_cond (fun h=>Lf_i (szr_bad' ?_)) (fun h=> ?_)⟩
 ·have h:=szr_neg h;simp only[sizeRule];omega
 obtain⟨e3,h3⟩:=szr_pos h
 rw[e3]
 exact Lf_i (by rw[←szr_ok' (by simp only[sizeRule];omega)];simp only[sizeRule];try omega)
def Zh97:HH:=⟨_,Zo97⟩
def Zk110:Con UU where
 α:=DRule
 md:=[.ro]
 of:=o1 (oA .lRule)
 ds:=fun x=>[dA .lRule x]
 pre:=fun a=>[sizeRule a≤4294967296]
 res:=fun a=>⟨[.agg [.lit (.string a.Name),.lit (.int .i64 a.Sal),.sl .ePat a.Pats,.sl .eCond a.Conds,.sl .eAct a.Acts]],true,[]⟩
 law:=l1 (lA .lRule)
def Za110:Zk110.α→Nat→Option (Ann UU):=fun a=>annL []
def Zu110:=us [Zh168,Zh169,Zh170]
theorem Zv110(a:DRule):goal EE Zu110 Go.Proofs.Tryz.f110 Zk110 Za110 a=(sizePatS a.Pats≤(4294967296:Nat)∧sizeCondS a.Conds≤(4294967296:Nat)∧sizeActS a.Acts≤(4294967296:Nat)∧Lf [DV.agg [Cell.lit (Value.string a.Name),Cell.lit (Value.int IntKind.i64 a.Sal),Cell.sl Cd.ePat a.Pats,Cell.sl Cd.eCond a.Conds,Cell.sl Cd.eAct a.Acts]] [DV.agg [Cell.lit (Value.string a.Name),Cell.lit (Value.int IntKind.i64 a.Sal),Cell.sl Cd.ePat a.Pats,Cell.sl Cd.eCond a.Conds,Cell.sl Cd.eAct a.Acts]]):=by kernel_rfl
theorem Zo110:Holds EE (110,Zk110):=by
 refine holds_of EE_ok Go.Proofs.Tryz.func110 Zk110 (by kernel_rfl) Zu110 (us_ok _) Za110 (fun(a:DRule) hp hb=> ?_)
 have hz0:=bd_lRule (x:=a) (hb _ m0)
 have hl_a_Name:=hz0.1
 have hl_a_Pats:=hz0.2.1
 have hl_a_Conds:=hz0.2.2.1
 have hl_a_Acts:=hz0.2.2.2
 have hp0:sizeRule a≤4294967296:=hp _ m0
 clear hp hb
 rw[Zv110 a]
 simp only[sizeRule] at hp0
 repeat' (first|exact Lf_rfl _|(refine And.intro (by omega) ?_))
def Zh110:HH:=⟨_,Zo110⟩
def Zk128:Con UU where
 α:=DRule×DRule
 md:=[.ro,.ro]
 of:=oC (oA .eRule) (o1 (oA .eRule))
 ds:=fun x=>[dA .eRule x.1,dA .eRule x.2]
 pre:=fun _=>[]
 res:=fun(a,b)=>⟨[.one (.lit (.bool (decide (a=b))))],true,[]⟩
 law:=lC (lA .eRule) (l1 (lA .eRule))
def Za128:Zk128.α→Nat→Option (Ann UU):=fun(a,b)=>annL []
def Zu128:=us [Zh189,Zh190,Zh191]
theorem Zv128(a:DRule)(b:DRule):goal EE Zu128 Go.Proofs.Tryz.f128 Zk128 Za128 (a,b)=(bif !ByteArray.toList a.Name==ByteArray.toList b.Name then Lb false (decide (a=b)) else bif a.Sal !=b.Sal then Lb false (decide (a=b)) else bif !decide (a.Pats=b.Pats) then Lb false (decide (a=b)) else bif !decide (a.Conds=b.Conds) then Lb false (decide (a=b)) else bif !decide (a.Acts=b.Acts) then Lb false (decide (a=b)) else Lb true (decide (a=b))):=by kernel_rfl
theorem Zo128:Holds EE (128,Zk128):=by
 refine holds_of EE_ok Go.Proofs.Tryz.func128 Zk128 (by kernel_rfl) Zu128 (us_ok _) Za128 (fun x hp hb=> ?_)
 obtain⟨a,b⟩:=x
 have hz0:=bd_eRule (x:=a) (hb _ m0)
 have hl_a_Name:=hz0.1
 have hl_a_Pats:=hz0.2.1
 have hl_a_Conds:=hz0.2.2.1
 have hl_a_Acts:=hz0.2.2.2
 have hz1:=bd_eRule (x:=b) (hb _ m1)
 have hl_b_Name:=hz1.1
 have hl_b_Pats:=hz1.2.1
 have hl_b_Conds:=hz1.2.2.1
 have hl_b_Acts:=hz1.2.2.2
 clear hp hb
 rw[Zv128 a b]
 obtain⟨aName,aSal,aPats,aConds,aActs⟩:=a
 obtain⟨bName,bSal,bPats,bConds,bActs⟩:=b
 repeat' (apply if_cond<;>intro _)
 all_goals (first|apply Lf_t|apply Lf_f)<;>simp_all
def Zh128:HH:=⟨_,Zo128⟩
def Zk29:Con UU where
 α:=(List DRule)×Int
 md:=[.ro,.ro]
 of:=oC (oL .lRule) (o1 oI)
 ds:=fun x=>[dL .lRule x.1,dI x.2]
 pre:=fun(a,left)=>[0≤left]
 res:=fun(a,left)=>⟨[.one (.lit (.int .i64 (szr left (sizeRuleS a))))],true,[]⟩
 law:=lC (lL .lRule) (l1 lI)
def Zi29_5(a:(List DRule))(left:Int):Int×Int×Unit→Prop:=szI sizeRule a (sizeRuleS a) left
def Zm29_5(a:(List DRule))(left:Int):Int×Int×Unit→Nat:=rM2 a
def Za29:Zk29.α→Nat→Option (Ann UU):=fun(a,left)=>annL [(5,annOf [.slot 1 (1,1024) (.lit (.int .i64)),.slot 5 (5,1024) (.lit (.int .i64))] (fun _=>Zi29_5 a left) (Zm29_5 a left))]
def Zu29:=us [Zh97]
theorem Zv29(a:(List DRule))(left:Int):goal EE Zu29 Go.Proofs.Tryz.f29 Zk29 Za29 (a,left)=(szV sizeRule zRule a (sizeRuleS a) left):=by kernel_rfl
theorem Zo29:Holds EE (29,Zk29):=by
 refine holds_of EE_ok Go.Proofs.Tryz.func29 Zk29 (by kernel_rfl) Zu29 (us_ok _) Za29 (fun x hp hb=> ?_)
 obtain⟨a,left⟩:=x
 have hl_a:a.length≤9223372036854775807:=bdL (hb _ m0)
 have hl_left:=bdI (n:=left) (hb _ m1)
 have hp0:0≤left:=hp _ m0
 clear hp hb
 rw[Zv29 a left]
 exact szV_ok rfl hp0 hl_left hl_a
def Zh29:HH:=⟨_,Zo29⟩
def Zk45:Con UU where
 α:=(List DRule)
 md:=[.ro]
 of:=o1 (oL .lRule)
 ds:=fun x=>[dL .lRule x]
 pre:=fun a=>[sizeRuleS a≤4294967296]
 res:=fun a=>⟨[.one (.sl .eRule a)],true,[]⟩
 law:=l1 (lL .lRule)
def Zi45_3(a:(List DRule)):List DRule×Int×Unit→Prop:=toI zRule a
def Zm45_3(a:(List DRule)):List DRule×Int×Unit→Nat:=rM2 a
def Za45:Zk45.α→Nat→Option (Ann UU):=fun a=>annL [(3,annOf [.slot 3 (3,1024) (.own .eRule true),.slot 4 (4,1024) (.lit (.int .i64))] (fun _=>Zi45_3 a) (Zm45_3 a))]
def Zu45:=us [Zh110]
theorem Zv45(a:(List DRule)):goal EE Zu45 Go.Proofs.Tryz.f45 Zk45 Za45 a=(toV sizeRule zRule a fun y=>Lf [.one (.sl .eRule y)] [.one (.sl .eRule a)]):=by kernel_rfl
theorem Zo45:Holds EE (45,Zk45):=by
 refine holds_of EE_ok Go.Proofs.Tryz.func45 Zk45 (by kernel_rfl) Zu45 (us_ok _) Za45 (fun(a:(List DRule)) hp hb=> ?_)
 have hl_a:a.length≤9223372036854775807:=bdL (hb _ m0)
 have hp0:sizeRuleS a≤4294967296:=hp _ m0
 clear hp hb
 rw[Zv45 a]
 exact toV_ok hp0 (Lf_rfl _)
def Zh45:HH:=⟨_,Zo45⟩
def Zk62:Con UU where
 α:=(List DRule)×(List DRule)
 md:=[.ro,.ro]
 of:=oC (oL .eRule) (o1 (oL .eRule))
 ds:=fun x=>[dL .eRule x.1,dL .eRule x.2]
 pre:=fun _=>[]
 res:=fun(a,b)=>⟨[.one (.lit (.bool (decide (a=b))))],true,[]⟩
 law:=lC (lL .eRule) (l1 (lL .eRule))
def Zi62_4(a:(List DRule))(b:(List DRule)):Int×Unit→Prop:=eqI a b
def Zm62_4(a:(List DRule))(b:(List DRule)):Int×Unit→Nat:=rM1 a
def Za62:Zk62.α→Nat→Option (Ann UU):=fun(a,b)=>annL [(4,annOf [.slot 5 (5,1024) (.lit (.int .i64))] (fun _=>Zi62_4 a b) (Zm62_4 a b))]
def Zu62:=us [Zh128]
theorem Zv62(a:(List DRule))(b:(List DRule)):goal EE Zu62 Go.Proofs.Tryz.f62 Zk62 Za62 (a,b)=(eqV zRule a b):=by kernel_rfl
theorem Zo62:Holds EE (62,Zk62):=by
 refine holds_of EE_ok Go.Proofs.Tryz.func62 Zk62 (by kernel_rfl) Zu62 (us_ok _) Za62 (fun x hp hb=> ?_)
 obtain⟨a,b⟩:=x
 have hl_a:a.length≤9223372036854775807:=bdL (hb _ m0)
 have hl_b:b.length≤9223372036854775807:=bdL (hb _ m1)
 clear hp hb
 rw[Zv62 a b]
 exact eqV_ok hl_a
def Zh62:HH:=⟨_,Zo62⟩
def Zk91:Con UU where
 α:=(List DRule)×Int
 md:=[.wr,.ro]
 of:=oC (oL .eRule) (o1 oI)
 ds:=fun x=>[dL .eRule x.1,dI x.2]
 pre:=fun(a,k)=>[0≤k,k+cntRuleS a≤4611686018427387904]
 res:=fun(a,k)=>⟨[.one (.lit (.int .i64 (k+cntRuleS a)))],true,[.one (.sl .eRule (markRuleS a k))]⟩
 law:=lC (lL .eRule) (l1 lI)
def Zi91_2(a:(List DRule))(k:Int):List DRule×Int×Int×Unit→Prop:=fun(row,kk,i,_)=>0≤i∧i≤a.length∧row=(mkS markRule cntRule a k).take i.toNat++a.drop i.toNat∧kk=k+ctS cntRule (a.take i.toNat)
def Zm91_2(a:(List DRule))(k:Int):List DRule×Int×Int×Unit→Nat:=fun(row,kk,i,_)=>a.length-i.toNat
def Za91:Zk91.α→Nat→Option (Ann UU):=fun(a,k)=>annL [(2,annOf [.slot 0 (2000000,0) (.own .eRule true),.slot 1 (1,1024) (.lit (.int .i64)),.slot 5 (5,1024) (.lit (.int .i64))] (fun _=>Zi91_2 a k) (Zm91_2 a k))]
def Zu91:=us [Zh94,Zh150,Zh151,Zh152]
theorem Zv91(a:(List DRule))(k:Int):goal EE Zu91 Go.Proofs.Tryz.f91 Zk91 Za91 (a,k)=(Zi91_2 a k (a,k,(0:Int),())∧
 ∀(y:List DRule×Int×Int×PUnit),
  let x4:Nat:=Int.toNat y.2.2.1;
  let x7:List DRule:=List.modify y.1 x4 fun(x:DRule)=>{Name:=markText y.2.1,Sal:=x.Sal,Pats:=x.Pats,Conds:=x.Conds,Acts:=x.Acts:DRule};
  let x8:Int:=IntKind.wrap IntKind.i64 (y.2.1+(1:Int));
  let x5:List DRule:=List.modify x7 x4 fun(x:DRule)=>{Name:=x.Name,Sal:=x8,Pats:=x.Pats,Conds:=x.Conds,Acts:=x.Acts:DRule};
  let x6:Int:=IntKind.wrap IntKind.i64 (x8+(1:Int));
  let x2:List DRule:=List.modify x5 x4 fun(x:DRule)=>{Name:=x.Name,Sal:=x.Sal,Pats:=markPatS (List.getD x5 x4 zRule).Pats x6,Conds:=x.Conds,Acts:=x.Acts:DRule};
  let x3:Int:=x6+(↑(cntPatS (List.getD x5 x4 zRule).Pats):Int);
  let x0:List DRule:=List.modify x2 x4 fun(x:DRule)=>{Name:=x.Name,Sal:=x.Sal,Pats:=x.Pats,Conds:=markCondS (List.getD x2 x4 zRule).Conds x3,Acts:=x.Acts:DRule};
  let x1:Int:=x3+(↑(cntCondS (List.getD x2 x4 zRule).Conds):Int);
  let x9:Int:=x1+(↑(cntActS (List.getD x0 x4 zRule).Acts):Int);
  Zi91_2 a k y→bif decide (y.2.2.1<(↑(List.length y.1):Int)) then y.2.1≤(4611686018427387903:Int)∧(0:Int)≤y.2.2.1∧x4<List.length y.1∧x4<List.length y.1∧(0:Int)≤y.2.2.1∧x4<List.length x7∧x4<List.length x7∧(0:Int)≤y.2.2.1∧x4<List.length x5∧x4<List.length x5∧x4<List.length x5∧(0:Int)≤x6∧x3≤(4611686018427387904:Int)∧(0:Int)≤y.2.2.1∧x4<List.length x2∧x4<List.length x2∧x4<List.length x2∧(0:Int)≤x3∧x1≤(4611686018427387904:Int)∧(0:Int)≤y.2.2.1∧x4<List.length x0∧x4<List.length x0∧x4<List.length x0∧(0:Int)≤x1∧x9≤(4611686018427387904:Int)∧Zi91_2 a k (List.modify x0 x4 fun(x:DRule)=>{Name:=x.Name,Sal:=x.Sal,Pats:=x.Pats,Conds:=x.Conds,Acts:=markActS (List.getD x0 x4 zRule).Acts x1:DRule},x9,IntKind.wrap IntKind.i64 (y.2.2.1+(1:Int)),PUnit.unit)∧Zm91_2 a k (List.modify x0 x4 fun(x:DRule)=>{Name:=x.Name,Sal:=x.Sal,Pats:=x.Pats,Conds:=x.Conds,Acts:=markActS (List.getD x0 x4 zRule).Acts x1:DRule},x9,IntKind.wrap IntKind.i64 (y.2.2.1+(1:Int)),PUnit.unit)<Zm91_2 a k y else asD [DV.one (Cell.lit (Value.int IntKind.i64 y.2.1))]=asD [DV.one (Cell.lit (Value.int IntKind.i64 (k+(↑(cntRuleS a):Int))))]∧asD [DV.one (Cell.sl Cd.eRule y.1)]=asD [DV.one (Cell.sl Cd.eRule (markRuleS a k))]):=by kernel_rfl
theorem Zo91:Holds EE (91,Zk91):=by
 refine holds_of EE_ok Go.Proofs.Tryz.func91 Zk91 (by kernel_rfl) Zu91 (us_ok _) Za91 (fun x hp hb=> ?_)
 obtain⟨a,k⟩:=x
 have hl_a:a.length≤9223372036854775807:=bdL (hb _ m0)
 have hl_k:=bdI (n:=k) (hb _ m1)
 have hp0:0≤k:=hp _ m0
 have hp1:k+cntRuleS a≤4611686018427387904:=hp _ m1
 clear hp hb
 rw[Zv91 a k]
 dsimp only
 refine⟨⟨by omega,by omega,by simp,by simp[ctS]⟩,?_⟩
 rintro⟨row,kk,i,⟨⟩⟩ ⟨h1,h2,rfl,rfl⟩
 simp only
 have hl:=mk_rl markRule cntRule a k h1 h2
 refine if_cond (fun hc=> ?_) (fun hc=> ?_)
 ·have hc:i<a.length:=by have hc:=of_decide_eq_true hc;omega
  have hct:=ctS_take cntRule a zRule h1 hc
  have hle:=ctS_take_le cntRule a (i+1).toNat
  have hg:=mk_getD _ a zRule (mk_tl markRule cntRule a k h1 h2) h1 hc
  have hM:=fun F hF=>mkS_mod markRule cntRule a zRule k (i:=i) F h1 hc hF
  have hq:(cntRuleS a:Int)=ctS cntRule a:=rfl
  generalize List.getD a i.toNat zRule=x at*
  generalize hkk:k+(ctS cntRule (a.take i.toNat):Int)=kk at*
  generalize List.take i.toNat (mkS markRule cntRule a k)++List.drop i.toNat a=R at*
  simp only[cntRule] at hct
  simp(disch:=first|omega|(simp only[List.length_modify];omega)) only[List.length_modify,wrap_i64,getD_modify,modify_modify,hg,hl]
  repeat' (first|refine And.intro (by omega) ?_|fail)
  exact⟨⟨by omega,by omega,hM _ (by first|rfl|(simp only[markRule,markBool];rw[Int.tmod_eq_emod_of_nonneg (by omega)];rfl)),by omega⟩,by simp only[Zm91_2];omega⟩
 ·have hc:a.length≤i:=by have hc:=of_decide_eq_false hc;omega
  rw[mk_done markRule cntRule a k hc,ct_done cntRule a hc]
  exact⟨rfl,rfl⟩
def Zh91:HH:=⟨_,Zo91⟩
def Zk6:Con UU where
 α:=DDef×Int
 md:=[.ro,.ro]
 of:=oC (oA .lDef) (o1 oI)
 ds:=fun x=>[dA .lDef x.1,dI x.2]
 pre:=fun(a,left)=>[0≤left]
 res:=fun(a,left)=>⟨[.one (.lit (.int .i64 (szr left (sizeDef a))))],true,[]⟩
 law:=lC (lA .lDef) (l1 lI)
def Za6:Zk6.α→Nat→Option (Ann UU):=fun(a,left)=>annL []
def Zu6:=us [Zh29]
theorem Zv6(a:DDef)(left:Int):goal EE Zu6 Go.Proofs.Tryz.f6 Zk6 Za6 (a,left)=(let x0:Int:=IntKind.wrap IntKind.i64 (left-(↑(ByteArray.size a.Name):Int));
bif decide (x0<(0:Int)) then Lf [DV.one (Cell.lit (Value.int IntKind.i64 (-1:Int)))] [DV.one (Cell.lit (Value.int IntKind.i64 (szr left (sizeDef a))))] else(0:Int)≤x0∧bif decide (szr x0 (sizeRuleS a.Rules)<(0:Int)) then Lf [DV.one (Cell.lit (Value.int IntKind.i64 (-1:Int)))] [DV.one (Cell.lit (Value.int IntKind.i64 (szr left (sizeDef a))))] else Lf [DV.one (Cell.lit (Value.int IntKind.i64 (szr x0 (sizeRuleS a.Rules))))] [DV.one (Cell.lit (Value.int IntKind.i64 (szr left (sizeDef a))))]):=by kernel_rfl
theorem Zo6:Holds EE (6,Zk6):=by
 refine holds_of EE_ok Go.Proofs.Tryz.func6 Zk6 (by kernel_rfl) Zu6 (us_ok _) Za6 (fun x hp hb=> ?_)
 obtain⟨a,left⟩:=x
 have hz0:=bd_lDef (x:=a) (hb _ m0)
 have hl_a_Name:=hz0.1
 have hl_a_Rules:=hz0.2
 have hl_left:=bdI (n:=left) (hb _ m1)
 have hp0:0≤left:=hp _ m0
 clear hp hb
 rw[Zv6 a left]
 dsimp only
 rw[wrap_i64 (by omega) (by omega)]
 refine if_cond (fun h=>Lf_i (szr_bad' ?_)) (fun h=> ?_)
 ·have h:=of_decide_eq_true h;simp only[sizeDef];omega
 have h0:=of_decide_eq_false h
 refine⟨by omega,if_cond (fun h=>Lf_i (szr_bad' ?_)) (fun h=> ?_)⟩
 ·have h:=szr_neg h;simp only[sizeDef];omega
 obtain⟨e1,h1⟩:=szr_pos h
 rw[e1]
 exact Lf_i (by rw[←szr_ok' (by simp only[sizeDef];omega)];simp only[sizeDef];try omega)
def Zh6:HH:=⟨_,Zo6⟩
def Zk9:Con UU where
 α:=DDef
 md:=[.ro]
 of:=o1 (oA .lDef)
 ds:=fun x=>[dA .lDef x]
 pre:=fun a=>[sizeDef a≤4294967296]
 res:=fun a=>⟨[.agg [.lit (.string a.Name),.sl .eRule a.Rules]],true,[]⟩
 law:=l1 (lA .lDef)
def Za9:Zk9.α→Nat→Option (Ann UU):=fun a=>annL []
def Zu9:=us [Zh45]
theorem Zv9(a:DDef):goal EE Zu9 Go.Proofs.Tryz.f9 Zk9 Za9 a=(sizeRuleS a.Rules≤(4294967296:Nat)∧Lf [DV.agg [Cell.lit (Value.string a.Name),Cell.sl Cd.eRule a.Rules]] [DV.agg [Cell.lit (Value.string a.Name),Cell.sl Cd.eRule a.Rules]]):=by kernel_rfl
theorem Zo9:Holds EE (9,Zk9):=by
 refine holds_of EE_ok Go.Proofs.Tryz.func9 Zk9 (by kernel_rfl) Zu9 (us_ok _) Za9 (fun(a:DDef) hp hb=> ?_)
 have hz0:=bd_lDef (x:=a) (hb _ m0)
 have hl_a_Name:=hz0.1
 have hl_a_Rules:=hz0.2
 have hp0:sizeDef a≤4294967296:=hp _ m0
 clear hp hb
 rw[Zv9 a]
 simp only[sizeDef] at hp0
 repeat' (first|exact Lf_rfl _|(refine And.intro (by omega) ?_))
def Zh9:HH:=⟨_,Zo9⟩
def Zk12:Con UU where
 α:=DDef×DDef
 md:=[.ro,.ro]
 of:=oC (oA .eDef) (o1 (oA .eDef))
 ds:=fun x=>[dA .eDef x.1,dA .eDef x.2]
 pre:=fun _=>[]
 res:=fun(a,b)=>⟨[.one (.lit (.bool (decide (a=b))))],true,[]⟩
 law:=lC (lA .eDef) (l1 (lA .eDef))
def Za12:Zk12.α→Nat→Option (Ann UU):=fun(a,b)=>annL []
def Zu12:=us [Zh62]
theorem Zv12(a:DDef)(b:DDef):goal EE Zu12 Go.Proofs.Tryz.f12 Zk12 Za12 (a,b)=(bif !ByteArray.toList a.Name==ByteArray.toList b.Name then Lb false (decide (a=b)) else bif !decide (a.Rules=b.Rules) then Lb false (decide (a=b)) else Lb true (decide (a=b))):=by kernel_rfl
theorem Zo12:Holds EE (12,Zk12):=by
 refine holds_of EE_ok Go.Proofs.Tryz.func12 Zk12 (by kernel_rfl) Zu12 (us_ok _) Za12 (fun x hp hb=> ?_)
 obtain⟨a,b⟩:=x
 have hz0:=bd_eDef (x:=a) (hb _ m0)
 have hl_a_Name:=hz0.1
 have hl_a_Rules:=hz0.2
 have hz1:=bd_eDef (x:=b) (hb _ m1)
 have hl_b_Name:=hz1.1
 have hl_b_Rules:=hz1.2
 clear hp hb
 rw[Zv12 a b]
 obtain⟨aName,aRules⟩:=a
 obtain⟨bName,bRules⟩:=b
 repeat' (apply if_cond<;>intro _)
 all_goals (first|apply Lf_t|apply Lf_f)<;>simp_all
def Zh12:HH:=⟨_,Zo12⟩
def Zk25:Con UU where
 α:=DDef×Int
 md:=[.wr,.ro]
 of:=oC (oA .eDef) (o1 oI)
 ds:=fun x=>[dA .eDef x.1,dI x.2]
 pre:=fun(a,k)=>[0≤k,k+ctDef a≤4611686018427387904]
 res:=fun(a,k)=>⟨[.one (.lit (.int .i64 (k+ctDef a)))],true,[.agg [.lit (.string ((mkDef a k)).Name),.sl .eRule ((mkDef a k)).Rules]]⟩
 law:=lC (lA .eDef) (l1 lI)
def Za25:Zk25.α→Nat→Option (Ann UU):=fun(a,k)=>annL []
def Zu25:=us [Zh91]
theorem Zv25(a:DDef)(k:Int):goal EE Zu25 Go.Proofs.Tryz.f25 Zk25 Za25 (a,k)=((0:Int)≤k∧k+(↑(cntRuleS a.Rules):Int)≤(4611686018427387904:Int)∧asD [DV.one (Cell.lit (Value.int IntKind.i64 (k+(↑(cntRuleS a.Rules):Int))))]=asD [DV.one (Cell.lit (Value.int IntKind.i64 (k+(↑(ctDef a):Int))))]∧asD [DV.agg [Cell.lit (Value.string a.Name),Cell.sl Cd.eRule (markRuleS a.Rules k)]]=asD [DV.agg [Cell.lit (Value.string (mkDef a k).Name),Cell.sl Cd.eRule (mkDef a k).Rules]]):=by kernel_rfl
theorem Zo25:Holds EE (25,Zk25):=by
 refine holds_of EE_ok Go.Proofs.Tryz.func25 Zk25 (by kernel_rfl) Zu25 (us_ok _) Za25 (fun x hp hb=> ?_)
 obtain⟨a,k⟩:=x
 have hz0:=bd_eDef (x:=a) (hb _ m0)
 have hl_a_Name:=hz0.1
 have hl_a_Rules:=hz0.2
 have hl_k:=bdI (n:=k) (hb _ m1)
 have hp0:0≤k:=hp _ m0
 have hp1:k+ctDef a≤4611686018427387904:=hp _ m1
 clear hp hb
 rw[Zv25 a k]
 simp only[ctDef] at hp1
 repeat' (first|refine And.intro (by omega) ?_|fail)
 exact⟨by simp only[ctDef,Int.natCast_add,Int.add_assoc],rfl⟩
def Zh25:HH:=⟨_,Zo25⟩
def Zk19:Con UU where
 α:=DMatch×Int
 md:=[.ro,.ro]
 of:=oC (oA .lMatch) (o1 oI)
 ds:=fun x=>[dA .lMatch x.1,dI x.2]
 pre:=fun(a,left)=>[0≤left]
 res:=fun(a,left)=>⟨[.one (.lit (.int .i64 (szr left (sizeMatch a))))],true,[]⟩
 law:=lC (lA .lMatch) (l1 lI)
def Za19:Zk19.α→Nat→Option (Ann UU):=fun(a,left)=>annL []
def Zu19:=us [Zh80,Zh81]
theorem Zv19(a:DMatch)(left:Int):goal EE Zu19 Go.Proofs.Tryz.f19 Zk19 Za19 (a,left)=(let x0:Int:=szr (szr left (sizeIntS a.Ids)) (sizeBindS a.Binds);
(0:Int)≤left∧bif decide (szr left (sizeIntS a.Ids)<(0:Int)) then Lf [DV.one (Cell.lit (Value.int IntKind.i64 (-1:Int)))] [DV.one (Cell.lit (Value.int IntKind.i64 (szr left (sizeMatch a))))] else(0:Int)≤szr left (sizeIntS a.Ids)∧bif decide (x0<(0:Int)) then Lf [DV.one (Cell.lit (Value.int IntKind.i64 (-1:Int)))] [DV.one (Cell.lit (Value.int IntKind.i64 (szr left (sizeMatch a))))] else Lf [DV.one (Cell.lit (Value.int IntKind.i64 x0))] [DV.one (Cell.lit (Value.int IntKind.i64 (szr left (sizeMatch a))))]):=by kernel_rfl
theorem Zo19:Holds EE (19,Zk19):=by
 refine holds_of EE_ok Go.Proofs.Tryz.func19 Zk19 (by kernel_rfl) Zu19 (us_ok _) Za19 (fun x hp hb=> ?_)
 obtain⟨a,left⟩:=x
 have hz0:=bd_lMatch (x:=a) (hb _ m0)
 have hl_a_Ids:=hz0.1
 have hl_a_Binds:=hz0.2
 have hl_left:=bdI (n:=left) (hb _ m1)
 have hp0:0≤left:=hp _ m0
 clear hp hb
 rw[Zv19 a left]
 dsimp only
 refine⟨by omega,if_cond (fun h=>Lf_i (szr_bad' ?_)) (fun h=> ?_)⟩
 ·have h:=szr_neg h;simp only[sizeMatch];omega
 obtain⟨e0,h0⟩:=szr_pos h
 rw[e0]
 refine⟨by omega,if_cond (fun h=>Lf_i (szr_bad' ?_)) (fun h=> ?_)⟩
 ·have h:=szr_neg h;simp only[sizeMatch];omega
 obtain⟨e1,h1⟩:=szr_pos h
 rw[e1]
 exact Lf_i (by rw[←szr_ok' (by simp only[sizeMatch];omega)];simp only[sizeMatch];try omega)
def Zh19:HH:=⟨_,Zo19⟩
def Zk21:Con UU where
 α:=DMatch
 md:=[.ro]
 of:=o1 (oA .lMatch)
 ds:=fun x=>[dA .lMatch x]
 pre:=fun a=>[sizeMatch a≤4294967296]
 res:=fun a=>⟨[.agg [.lit (.int .i64 a.Rule),.sl .int a.Ids,.sl .eBind a.Binds]],true,[]⟩
 law:=l1 (lA .lMatch)
def Za21:Zk21.α→Nat→Option (Ann UU):=fun a=>annL []
def Zu21:=us [Zh85,Zh86]
theorem Zv21(a:DMatch):goal EE Zu21 Go.Proofs.Tryz.f21 Zk21 Za21 a=(sizeIntS a.Ids≤(4294967296:Nat)∧sizeBindS a.Binds≤(4294967296:Nat)∧Lf [DV.agg [Cell.lit (Value.int IntKind.i64 a.Rule),Cell.sl Cd.int a.Ids,Cell.sl Cd.eBind a.Binds]] [DV.agg [Cell.lit (Value.int IntKind.i64 a.Rule),Cell.sl Cd.int a.Ids,Cell.sl Cd.eBind a.Binds]]):=by kernel_rfl
theorem Zo21:Holds EE (21,Zk21):=by
 refine holds_of EE_ok Go.Proofs.Tryz.func21 Zk21 (by kernel_rfl) Zu21 (us_ok _) Za21 (fun(a:DMatch) hp hb=> ?_)
 have hz0:=bd_lMatch (x:=a) (hb _ m0)
 have hl_a_Ids:=hz0.1
 have hl_a_Binds:=hz0.2
 have hp0:sizeMatch a≤4294967296:=hp _ m0
 clear hp hb
 rw[Zv21 a]
 simp only[sizeMatch] at hp0
 repeat' (first|exact Lf_rfl _|(refine And.intro (by omega) ?_))
def Zh21:HH:=⟨_,Zo21⟩
def Zk24:Con UU where
 α:=DMatch×DMatch
 md:=[.ro,.ro]
 of:=oC (oA .eMatch) (o1 (oA .eMatch))
 ds:=fun x=>[dA .eMatch x.1,dA .eMatch x.2]
 pre:=fun _=>[]
 res:=fun(a,b)=>⟨[.one (.lit (.bool (decide (a=b))))],true,[]⟩
 law:=lC (lA .eMatch) (l1 (lA .eMatch))
def Za24:Zk24.α→Nat→Option (Ann UU):=fun(a,b)=>annL []
def Zu24:=us [Zh89,Zh90]
theorem Zv24(a:DMatch)(b:DMatch):goal EE Zu24 Go.Proofs.Tryz.f24 Zk24 Za24 (a,b)=(bif a.Rule !=b.Rule then Lb false (decide (a=b)) else bif !decide (a.Ids=b.Ids) then Lb false (decide (a=b)) else bif !decide (a.Binds=b.Binds) then Lb false (decide (a=b)) else Lb true (decide (a=b))):=by kernel_rfl
theorem Zo24:Holds EE (24,Zk24):=by
 refine holds_of EE_ok Go.Proofs.Tryz.func24 Zk24 (by kernel_rfl) Zu24 (us_ok _) Za24 (fun x hp hb=> ?_)
 obtain⟨a,b⟩:=x
 have hz0:=bd_eMatch (x:=a) (hb _ m0)
 have hl_a_Ids:=hz0.1
 have hl_a_Binds:=hz0.2
 have hz1:=bd_eMatch (x:=b) (hb _ m1)
 have hl_b_Ids:=hz1.1
 have hl_b_Binds:=hz1.2
 clear hp hb
 rw[Zv24 a b]
 obtain⟨aRule,aIds,aBinds⟩:=a
 obtain⟨bRule,bIds,bBinds⟩:=b
 repeat' (apply if_cond<;>intro _)
 all_goals (first|apply Lf_t|apply Lf_f)<;>simp_all
def Zh24:HH:=⟨_,Zo24⟩
def Zk26:Con UU where
 α:=DMatch×Int
 md:=[.wr,.ro]
 of:=oC (oA .eMatch) (o1 oI)
 ds:=fun x=>[dA .eMatch x.1,dI x.2]
 pre:=fun(a,k)=>[0≤k,k+ctMatch a≤4611686018427387904]
 res:=fun(a,k)=>⟨[.one (.lit (.int .i64 (k+ctMatch a)))],true,[.agg [.lit (.int .i64 ((mkMatch a k)).Rule),.sl .int ((mkMatch a k)).Ids,.sl .eBind ((mkMatch a k)).Binds]]⟩
 law:=lC (lA .eMatch) (l1 lI)
def Za26:Zk26.α→Nat→Option (Ann UU):=fun(a,k)=>annL []
def Zu26:=us [Zh92,Zh93]
theorem Zv26(a:DMatch)(k:Int):goal EE Zu26 Go.Proofs.Tryz.f26 Zk26 Za26 (a,k)=(let x0:Int:=k+(↑(cntIntS a.Ids):Int);
(0:Int)≤k∧x0≤(4611686018427387904:Int)∧(0:Int)≤x0∧x0+(↑(cntBindS a.Binds):Int)≤(4611686018427387904:Int)∧asD [DV.one (Cell.lit (Value.int IntKind.i64 (x0+(↑(cntBindS a.Binds):Int))))]=asD [DV.one (Cell.lit (Value.int IntKind.i64 (k+(↑(ctMatch a):Int))))]∧asD [DV.agg [Cell.lit (Value.int IntKind.i64 a.Rule),Cell.sl Cd.int (markIntS a.Ids k),Cell.sl Cd.eBind (markBindS a.Binds x0)]]=asD [DV.agg [Cell.lit (Value.int IntKind.i64 (mkMatch a k).Rule),Cell.sl Cd.int (mkMatch a k).Ids,Cell.sl Cd.eBind (mkMatch a k).Binds]]):=by kernel_rfl
theorem Zo26:Holds EE (26,Zk26):=by
 refine holds_of EE_ok Go.Proofs.Tryz.func26 Zk26 (by kernel_rfl) Zu26 (us_ok _) Za26 (fun x hp hb=> ?_)
 obtain⟨a,k⟩:=x
 have hz0:=bd_eMatch (x:=a) (hb _ m0)
 have hl_a_Ids:=hz0.1
 have hl_a_Binds:=hz0.2
 have hl_k:=bdI (n:=k) (hb _ m1)
 have hp0:0≤k:=hp _ m0
 have hp1:k+ctMatch a≤4611686018427387904:=hp _ m1
 clear hp hb
 rw[Zv26 a k]
 dsimp only
 simp only[ctMatch] at hp1
 repeat' (first|refine And.intro (by omega) ?_|fail)
 exact⟨by simp only[ctMatch,Int.natCast_add,Int.add_assoc],rfl⟩
def Zh26:HH:=⟨_,Zo26⟩
def Zk88:Con UU where
 α:=DEffect×DEffect
 md:=[.ro,.ro]
 of:=oC (oA .eEffect) (o1 (oA .eEffect))
 ds:=fun x=>[dA .eEffect x.1,dA .eEffect x.2]
 pre:=fun _=>[]
 res:=fun(a,b)=>⟨[.one (.lit (.bool (decide (a=b))))],true,[]⟩
 law:=lC (lA .eEffect) (l1 (lA .eEffect))
def Za88:Zk88.α→Nat→Option (Ann UU):=fun(a,b)=>annL []
def Zu88:=us [Zh148]
theorem Zv88(a:DEffect)(b:DEffect):goal EE Zu88 Go.Proofs.Tryz.f88 Zk88 Za88 (a,b)=(bif a.Kind !=b.Kind then Lb false (decide (a=b)) else bif !decide (a.F=b.F) then Lb false (decide (a=b)) else bif a.Id !=b.Id then Lb false (decide (a=b)) else bif a.N !=b.N then Lb false (decide (a=b)) else bif !ByteArray.toList a.Undo==ByteArray.toList b.Undo then Lb false (decide (a=b)) else Lb true (decide (a=b))):=by kernel_rfl
theorem Zo88:Holds EE (88,Zk88):=by
 refine holds_of EE_ok Go.Proofs.Tryz.func88 Zk88 (by kernel_rfl) Zu88 (us_ok _) Za88 (fun x hp hb=> ?_)
 obtain⟨a,b⟩:=x
 have hz0:=bd_eEffect (x:=a) (hb _ m0)
 have hl_a_F_Kind:=hz0.1
 have hl_a_F_Fields:=hz0.2.1
 have hl_a_Undo:=hz0.2.2
 have hz1:=bd_eEffect (x:=b) (hb _ m1)
 have hl_b_F_Kind:=hz1.1
 have hl_b_F_Fields:=hz1.2.1
 have hl_b_Undo:=hz1.2.2
 clear hp hb
 rw[Zv88 a b]
 obtain⟨aKind,aF,aId,aN,aUndo⟩:=a
 obtain⟨bKind,bF,bId,bN,bUndo⟩:=b
 repeat' (apply if_cond<;>intro _)
 all_goals (first|apply Lf_t|apply Lf_f)<;>simp_all
def Zh88:HH:=⟨_,Zo88⟩
def Zk23:Con UU where
 α:=(List DEffect)×(List DEffect)
 md:=[.ro,.ro]
 of:=oC (oL .eEffect) (o1 (oL .eEffect))
 ds:=fun x=>[dL .eEffect x.1,dL .eEffect x.2]
 pre:=fun _=>[]
 res:=fun(a,b)=>⟨[.one (.lit (.bool (decide (a=b))))],true,[]⟩
 law:=lC (lL .eEffect) (l1 (lL .eEffect))
def Zi23_4(a:(List DEffect))(b:(List DEffect)):Int×Unit→Prop:=eqI a b
def Zm23_4(a:(List DEffect))(b:(List DEffect)):Int×Unit→Nat:=rM1 a
def Za23:Zk23.α→Nat→Option (Ann UU):=fun(a,b)=>annL [(4,annOf [.slot 5 (5,1024) (.lit (.int .i64))] (fun _=>Zi23_4 a b) (Zm23_4 a b))]
def Zu23:=us [Zh88]
theorem Zv23(a:(List DEffect))(b:(List DEffect)):goal EE Zu23 Go.Proofs.Tryz.f23 Zk23 Za23 (a,b)=(eqV zEffect a b):=by kernel_rfl
theorem Zo23:Holds EE (23,Zk23):=by
 refine holds_of EE_ok Go.Proofs.Tryz.func23 Zk23 (by kernel_rfl) Zu23 (us_ok _) Za23 (fun x hp hb=> ?_)
 obtain⟨a,b⟩:=x
 have hl_a:a.length≤9223372036854775807:=bdL (hb _ m0)
 have hl_b:b.length≤9223372036854775807:=bdL (hb _ m1)
 clear hp hb
 rw[Zv23 a b]
 exact eqV_ok hl_a
def Zh23:HH:=⟨_,Zo23⟩
def Zk27:Con UU where
 α:=(List DEffect)×Int
 md:=[.wr,.ro]
 of:=oC (oL .eEffect) (o1 oI)
 ds:=fun x=>[dL .eEffect x.1,dI x.2]
 pre:=fun(a,k)=>[0≤k,k+cntEffectS a≤4611686018427387904]
 res:=fun(a,k)=>⟨[.one (.lit (.int .i64 (k+cntEffectS a)))],true,[.one (.sl .eEffect (markEffectS a k))]⟩
 law:=lC (lL .eEffect) (l1 lI)
def Zi27_2(a:(List DEffect))(k:Int):List DEffect×Int×Int×Unit→Prop:=fun(row,kk,i,_)=>0≤i∧i≤a.length∧row=(mkS markEffect cntEffect a k).take i.toNat++a.drop i.toNat∧kk=k+ctS cntEffect (a.take i.toNat)
def Zm27_2(a:(List DEffect))(k:Int):List DEffect×Int×Int×Unit→Nat:=fun(row,kk,i,_)=>a.length-i.toNat
def Za27:Zk27.α→Nat→Option (Ann UU):=fun(a,k)=>annL [(2,annOf [.slot 0 (2000000,0) (.own .eEffect true),.slot 1 (1,1024) (.lit (.int .i64)),.slot 5 (5,1024) (.lit (.int .i64))] (fun _=>Zi27_2 a k) (Zm27_2 a k))]
def Zu27:=us [Zh94,Zh95]
theorem Zv27(a:(List DEffect))(k:Int):goal EE Zu27 Go.Proofs.Tryz.f27 Zk27 Za27 (a,k)=(Zi27_2 a k (a,k,(0:Int),())∧
 ∀(y:List DEffect×Int×Int×PUnit),
  let x2:Nat:=Int.toNat y.2.2.1;
  let x8:Int:=IntKind.wrap IntKind.i64 (y.2.1+(1:Int));
  let x9:List DEffect:=List.modify y.1 x2 fun(x:DEffect)=>{Kind:=y.2.1,F:=x.F,Id:=x.Id,N:=x.N,Undo:=x.Undo:DEffect};
  let x6:List DEffect:=List.modify x9 x2 fun(x:DEffect)=>{Kind:=x.Kind,F:={Kind:=markText x8,Fields:=x.F.Fields:DFact},Id:=x.Id,N:=x.N,Undo:=x.Undo:DEffect};
  let x7:Int:=IntKind.wrap IntKind.i64 (x8+(1:Int));
  let x4:Int:=x7+(↑(cntValS (List.getD x6 x2 zEffect).F.Fields):Int);
  let x5:List DEffect:=List.modify x6 x2 fun(x:DEffect)=>{Kind:=x.Kind,F:={Kind:=x.F.Kind,Fields:=markValS (List.getD x6 x2 zEffect).F.Fields x7:DFact},Id:=x.Id,N:=x.N,Undo:=x.Undo:DEffect};
  let x1:List DEffect:=List.modify x5 x2 fun(x:DEffect)=>{Kind:=x.Kind,F:=x.F,Id:=x4,N:=x.N,Undo:=x.Undo:DEffect};
  let x3:Int:=IntKind.wrap IntKind.i64 (IntKind.wrap IntKind.i64 (x4+(1:Int))+(1:Int));
  let x0:List DEffect:=List.modify x1 x2 fun(x:DEffect)=>{Kind:=x.Kind,F:=x.F,Id:=x.Id,N:=IntKind.wrap IntKind.i64 (x4+(1:Int)),Undo:=x.Undo:DEffect};
  Zi27_2 a k y→bif decide (y.2.2.1<(↑(List.length y.1):Int)) then(0:Int)≤y.2.2.1∧x2<List.length y.1∧x2<List.length y.1∧x8≤(4611686018427387903:Int)∧(0:Int)≤y.2.2.1∧x2<List.length x9∧x2<List.length x9∧(0:Int)≤y.2.2.1∧x2<List.length x6∧x2<List.length x6∧x2<List.length x6∧(0:Int)≤x7∧x4≤(4611686018427387904:Int)∧(0:Int)≤y.2.2.1∧x2<List.length x5∧x2<List.length x5∧(0:Int)≤y.2.2.1∧x2<List.length x1∧x2<List.length x1∧x3≤(4611686018427387903:Int)∧(0:Int)≤y.2.2.1∧x2<List.length x0∧x2<List.length x0∧Zi27_2 a k (List.modify x0 x2 fun(x:DEffect)=>{Kind:=x.Kind,F:=x.F,Id:=x.Id,N:=x.N,Undo:=markText x3:DEffect},IntKind.wrap IntKind.i64 (x3+(1:Int)),IntKind.wrap IntKind.i64 (y.2.2.1+(1:Int)),PUnit.unit)∧Zm27_2 a k (List.modify x0 x2 fun(x:DEffect)=>{Kind:=x.Kind,F:=x.F,Id:=x.Id,N:=x.N,Undo:=markText x3:DEffect},IntKind.wrap IntKind.i64 (x3+(1:Int)),IntKind.wrap IntKind.i64 (y.2.2.1+(1:Int)),PUnit.unit)<Zm27_2 a k y else asD [DV.one (Cell.lit (Value.int IntKind.i64 y.2.1))]=asD [DV.one (Cell.lit (Value.int IntKind.i64 (k+(↑(cntEffectS a):Int))))]∧asD [DV.one (Cell.sl Cd.eEffect y.1)]=asD [DV.one (Cell.sl Cd.eEffect (markEffectS a k))]):=by kernel_rfl
theorem Zo27:Holds EE (27,Zk27):=by
 refine holds_of EE_ok Go.Proofs.Tryz.func27 Zk27 (by kernel_rfl) Zu27 (us_ok _) Za27 (fun x hp hb=> ?_)
 obtain⟨a,k⟩:=x
 have hl_a:a.length≤9223372036854775807:=bdL (hb _ m0)
 have hl_k:=bdI (n:=k) (hb _ m1)
 have hp0:0≤k:=hp _ m0
 have hp1:k+cntEffectS a≤4611686018427387904:=hp _ m1
 clear hp hb
 rw[Zv27 a k]
 dsimp only
 refine⟨⟨by omega,by omega,by simp,by simp[ctS]⟩,?_⟩
 rintro⟨row,kk,i,⟨⟩⟩ ⟨h1,h2,rfl,rfl⟩
 simp only
 have hl:=mk_rl markEffect cntEffect a k h1 h2
 refine if_cond (fun hc=> ?_) (fun hc=> ?_)
 ·have hc:i<a.length:=by have hc:=of_decide_eq_true hc;omega
  have hct:=ctS_take cntEffect a zEffect h1 hc
  have hle:=ctS_take_le cntEffect a (i+1).toNat
  have hg:=mk_getD _ a zEffect (mk_tl markEffect cntEffect a k h1 h2) h1 hc
  have hM:=fun F hF=>mkS_mod markEffect cntEffect a zEffect k (i:=i) F h1 hc hF
  have hq:(cntEffectS a:Int)=ctS cntEffect a:=rfl
  generalize List.getD a i.toNat zEffect=x at*
  generalize hkk:k+(ctS cntEffect (a.take i.toNat):Int)=kk at*
  generalize List.take i.toNat (mkS markEffect cntEffect a k)++List.drop i.toNat a=R at*
  simp only[cntEffect] at hct
  simp(disch:=first|omega|(simp only[List.length_modify];omega)) only[List.length_modify,wrap_i64,getD_modify,modify_modify,hg,hl]
  repeat' (first|refine And.intro (by omega) ?_|fail)
  exact⟨⟨by omega,by omega,hM _ (by first|rfl|(simp only[markEffect,markBool];rw[Int.tmod_eq_emod_of_nonneg (by omega)];rfl)),by omega⟩,by simp only[Zm27_2];omega⟩
 ·have hc:a.length≤i:=by have hc:=of_decide_eq_false hc;omega
  rw[mk_done markEffect cntEffect a k hc,ct_done cntEffect a hc]
  exact⟨rfl,rfl⟩
def Zh27:HH:=⟨_,Zo27⟩
def Zk28:Con UU where
 α:=(List DEffect)×Int
 md:=[.ro,.ro]
 of:=oC (oL .eEffect) (o1 oI)
 ds:=fun x=>[dL .eEffect x.1,dI x.2]
 pre:=fun(a,k)=>[0≤k,k+cntEffectS a≤4611686018427387904]
 res:=fun(a,k)=>⟨[.one (.lit (.int .i64 (if markEffectS a k=a then k+cntEffectS a else-1)))],true,[]⟩
 law:=lC (lL .eEffect) (l1 lI)
def Zi28_2(a:(List DEffect))(k:Int):Int×Int×Unit→Prop:=fun(kk,i,_)=>0≤i∧i≤a.length∧kk=k+ctS cntEffect (a.take i.toNat)∧(mkS markEffect cntEffect (a.drop i.toNat) kk=a.drop i.toNat↔mkS markEffect cntEffect a k=a)
def Zm28_2(a:(List DEffect))(k:Int):Int×Int×Unit→Nat:=fun(kk,i,_)=>a.length-i.toNat
def Za28:Zk28.α→Nat→Option (Ann UU):=fun(a,k)=>annL [(2,annOf [.slot 1 (1,1024) (.lit (.int .i64)),.slot 5 (5,1024) (.lit (.int .i64))] (fun _=>Zi28_2 a k) (Zm28_2 a k))]
def Zu28:=us [Zh94,Zh96]
theorem Zv28(a:(List DEffect))(k:Int):goal EE Zu28 Go.Proofs.Tryz.f28 Zk28 Za28 (a,k)=(Zi28_2 a k (k,(0:Int),())∧
 ∀(y:Int×Int×PUnit),
  let x2:Nat:=Int.toNat y.2.1;
  let x5:Int:=IntKind.wrap IntKind.i64 (y.1+(1:Int));
  let x1:DEffect:=List.getD a x2 zEffect;
  let x3:Int:=IntKind.wrap IntKind.i64 (x5+(1:Int));
  let x0:Int:=if markValS x1.F.Fields x3=x1.F.Fields then x3+(↑(cntValS x1.F.Fields):Int) else(-1:Int);
  let x4:Int:=IntKind.wrap IntKind.i64 (IntKind.wrap IntKind.i64 (x0+(1:Int))+(1:Int));
  Zi28_2 a k y→bif decide (y.2.1<(↑(List.length a):Int)) then(0:Int)≤y.2.1∧x2<List.length a∧bif x1.Kind !=y.1 then Lf [DV.one (Cell.lit (Value.int IntKind.i64 (-1:Int)))] [DV.one (Cell.lit (Value.int IntKind.i64 (if markEffectS a k=a then k+(↑(cntEffectS a):Int) else(-1:Int))))] else(0:Int)≤y.2.1∧x2<List.length a∧x5≤(4611686018427387903:Int)∧bif !ByteArray.toList x1.F.Kind==ByteArray.toList (markText x5) then Lf [DV.one (Cell.lit (Value.int IntKind.i64 (-1:Int)))] [DV.one (Cell.lit (Value.int IntKind.i64 (if markEffectS a k=a then k+(↑(cntEffectS a):Int) else(-1:Int))))] else(0:Int)≤y.2.1∧x2<List.length a∧(0:Int)≤x3∧x3+(↑(cntValS x1.F.Fields):Int)≤(4611686018427387904:Int)∧bif decide (x0<(0:Int)) then Lf [DV.one (Cell.lit (Value.int IntKind.i64 (-1:Int)))] [DV.one (Cell.lit (Value.int IntKind.i64 (if markEffectS a k=a then k+(↑(cntEffectS a):Int) else(-1:Int))))] else(0:Int)≤y.2.1∧x2<List.length a∧bif x1.Id !=x0 then Lf [DV.one (Cell.lit (Value.int IntKind.i64 (-1:Int)))] [DV.one (Cell.lit (Value.int IntKind.i64 (if markEffectS a k=a then k+(↑(cntEffectS a):Int) else(-1:Int))))] else(0:Int)≤y.2.1∧x2<List.length a∧bif x1.N !=IntKind.wrap IntKind.i64 (x0+(1:Int)) then Lf [DV.one (Cell.lit (Value.int IntKind.i64 (-1:Int)))] [DV.one (Cell.lit (Value.int IntKind.i64 (if markEffectS a k=a then k+(↑(cntEffectS a):Int) else(-1:Int))))] else(0:Int)≤y.2.1∧x2<List.length a∧x4≤(4611686018427387903:Int)∧bif !ByteArray.toList x1.Undo==ByteArray.toList (markText x4) then Lf [DV.one (Cell.lit (Value.int IntKind.i64 (-1:Int)))] [DV.one (Cell.lit (Value.int IntKind.i64 (if markEffectS a k=a then k+(↑(cntEffectS a):Int) else(-1:Int))))] else Zi28_2 a k (IntKind.wrap IntKind.i64 (x4+(1:Int)),IntKind.wrap IntKind.i64 (y.2.1+(1:Int)),PUnit.unit)∧Zm28_2 a k (IntKind.wrap IntKind.i64 (x4+(1:Int)),IntKind.wrap IntKind.i64 (y.2.1+(1:Int)),PUnit.unit)<Zm28_2 a k y else Lf [DV.one (Cell.lit (Value.int IntKind.i64 y.1))] [DV.one (Cell.lit (Value.int IntKind.i64 (if markEffectS a k=a then k+(↑(cntEffectS a):Int) else(-1:Int))))]):=by kernel_rfl
theorem Zo28:Holds EE (28,Zk28):=by
 refine holds_of EE_ok Go.Proofs.Tryz.func28 Zk28 (by kernel_rfl) Zu28 (us_ok _) Za28 (fun x hp hb=> ?_)
 obtain⟨a,k⟩:=x
 have hl_a:a.length≤9223372036854775807:=bdL (hb _ m0)
 have hl_k:=bdI (n:=k) (hb _ m1)
 have hp0:0≤k:=hp _ m0
 have hp1:k+cntEffectS a≤4611686018427387904:=hp _ m1
 clear hp hb
 rw[Zv28 a k]
 dsimp only
 refine⟨⟨by omega,by omega,by simp[ctS],by simp⟩,?_⟩
 rintro⟨kk,i,⟨⟩⟩ ⟨h1,h2,hkk,hR⟩
 simp only
 simp only[markEffectS]
 refine if_cond (fun hc=> ?_) (fun hc=> ?_)
 ·have hc:i<a.length:=by have hc:=of_decide_eq_true hc;omega
  have hct:=ctS_take cntEffect a zEffect h1 hc
  have hle:=ctS_take_le cntEffect a (i+1).toNat
  have hq:(cntEffectS a:Int)=ctS cntEffect a:=rfl
  rw[drop_step a zEffect h1 hc] at hR
  generalize List.getD a i.toNat zEffect=x at*
  simp only[mkS,List.cons.injEq] at hR
  have e:kk+(cntEffect x:Int)=kk+1+1+(cntValS x.F.Fields:Int)+1+1+1:=by first|(simp only[cntEffect];done)|(simp only[cntEffect];omega)
  rw[e] at hR
  simp only[markEffect,cntEffect] at hR hct
  simp(disch:=omega) only[wrap_i64,bne_int,toList_beq]
  obtain⟨x_Kind,⟨x_F_Kind,x_F_Fields⟩,x_Id,x_N,x_Undo⟩:=x
  simp only[DEffect.mk.injEq,DFact.mk.injEq] at*
  repeat' (first|refine And.intro (by omega) ?_|fail)
  refine if_cond (fun h=>Lf_no (fun hh=> ?_)) (fun h=> ?_)
  ·have hh:=hR.2 hh;simp_all
  have h:x_Kind=kk:=by simpa using h
  subst x_Kind
  repeat' (first|refine And.intro (by omega) ?_|fail)
  refine if_cond (fun h=>Lf_no (fun hh=> ?_)) (fun h=> ?_)
  ·have hh:=hR.2 hh;simp_all
  have h:x_F_Kind=markText (kk+1):=by simpa using h
  subst x_F_Kind
  repeat' (first|refine And.intro (by omega) ?_|fail)
  by_cases hm:markValS x_F_Fields (kk+1+1)=x_F_Fields
  rotate_left
  ·simp only[if_neg hm];rw[cond_yes (by decide)]
   exact Lf_no (fun hh=>hm (by have hh:=hR.2 hh;simp_all))
  simp only[if_pos hm]
  refine if_cond (fun h=>absurd (of_decide_eq_true h) (by omega)) (fun h=> ?_)
  simp only[hm] at hR
  clear hm
  repeat' (first|refine And.intro (by omega) ?_|fail)
  refine if_cond (fun h=>Lf_no (fun hh=> ?_)) (fun h=> ?_)
  ·have hh:=hR.2 hh;simp_all
  have h:x_Id=kk+1+1+cntValS x_F_Fields:=by simpa using h
  subst x_Id
  repeat' (first|refine And.intro (by omega) ?_|fail)
  refine if_cond (fun h=>Lf_no (fun hh=> ?_)) (fun h=> ?_)
  ·have hh:=hR.2 hh;simp_all
  have h:x_N=kk+1+1+cntValS x_F_Fields+1:=by simpa using h
  subst x_N
  repeat' (first|refine And.intro (by omega) ?_|fail)
  refine if_cond (fun h=>Lf_no (fun hh=> ?_)) (fun h=> ?_)
  ·have hh:=hR.2 hh;simp_all
  have h:x_Undo=markText (kk+1+1+cntValS x_F_Fields+1+1):=by simpa using h
  subst x_Undo
  exact⟨⟨by omega,by omega,by omega,by simpa using hR⟩,by simp only[Zm28_2];omega⟩
 ·have hc:a.length≤i:=by have hc:=of_decide_eq_false hc;omega
  rw[drop_end a hc] at hR
  exact Lf_yes (hR.1 rfl) (by rw[hkk,ct_done _ _ hc];rfl)
def Zh28:HH:=⟨_,Zo28⟩
theorem hasR_iff{d:DDef}{m:DMatch}(h:hasR d m=true):0≤m.Rule∧m.Rule<(d.Rules.length:Int):=by
 simpa[hasR] using h
def Zk82:Con UU where
 α:=DDef×DMatch
 md:=[.ro,.ro]
 of:=oC (oA .eDef) (o1 (oA .eMatch))
 ds:=fun x=>[dA .eDef x.1,dA .eMatch x.2]
 pre:=fun _=>[]
 res:=fun(d,m)=>⟨[.one (.lit (.bool (hasR d m)))],true,[]⟩
 law:=lC (lA .eDef) (l1 (lA .eMatch))
def Za82:Zk82.α→Nat→Option (Ann UU):=fun(d,m)=>annL []
def Zu82:List (FuncId×Con UU):=[]
theorem Zv82(d:DDef)(m:DMatch):goal EE Zu82 Go.Proofs.Tryz.f82 Zk82 Za82 (d,m)=(bif decide (m.Rule≥(0:Int)) then Lb (decide (m.Rule<(d.Rules.length:Int))) (hasR d m) else Lb false (hasR d m)):=by kernel_rfl
theorem Zo82:Holds EE (82,Zk82):=by
 refine holds_of EE_ok Go.Proofs.Tryz.func82 Zk82 (by kernel_rfl) Zu82 all_nil Za82 (fun x hp hb=> ?_)
 obtain⟨d,m⟩:=x
 have hz0:=bd_eDef (x:=d) (hb _ m0)
 have hl_d_Name:=hz0.1
 have hl_d_Rules:=hz0.2
 have hz1:=bd_eMatch (x:=m) (hb _ m1)
 have hl_m_Ids:=hz1.1
 have hl_m_Binds:=hz1.2
 clear hp hb
 rw[Zv82 d m]
 simp only[hasR]
 refine if_dec (fun h=>Lf_b ?_) (fun h=>Lf_b ?_)
 ·rw[decide_eq_true (show 0≤m.Rule from h),Bool.true_and]
 ·rw[decide_eq_false (show¬0≤m.Rule from h),Bool.false_and]
def Zh82:HH:=⟨_,Zo82⟩
def Zk124:Con UU where
 α:=DDef×DMatch
 md:=[.ro,.ro]
 of:=oC (oA .eDef) (o1 (oA .eMatch))
 ds:=fun x=>[dA .eDef x.1,dA .eMatch x.2]
 pre:=fun _=>[]
 res:=fun(d,m)=>⟨[.one (.lit (.bool (hasR d m)))],true,[]⟩
 law:=lC (lA .eDef) (l1 (lA .eMatch))
def Za124:Zk124.α→Nat→Option (Ann UU):=fun(d,m)=>annL []
def Zu124:List (FuncId×Con UU):=[]
theorem Zv124(d:DDef)(m:DMatch):goal EE Zu124 Go.Proofs.Tryz.f124 Zk124 Za124 (d,m)=(bif decide (m.Rule≥(0:Int)) then Lb (decide (m.Rule<(d.Rules.length:Int))) (hasR d m) else Lb false (hasR d m)):=by kernel_rfl
theorem Zo124:Holds EE (124,Zk124):=by
 refine holds_of EE_ok Go.Proofs.Tryz.func124 Zk124 (by kernel_rfl) Zu124 all_nil Za124 (fun x hp hb=> ?_)
 obtain⟨d,m⟩:=x
 have hz0:=bd_eDef (x:=d) (hb _ m0)
 have hl_d_Name:=hz0.1
 have hl_d_Rules:=hz0.2
 have hz1:=bd_eMatch (x:=m) (hb _ m1)
 have hl_m_Ids:=hz1.1
 have hl_m_Binds:=hz1.2
 clear hp hb
 rw[Zv124 d m]
 simp only[hasR]
 refine if_dec (fun h=>Lf_b ?_) (fun h=>Lf_b ?_)
 ·rw[decide_eq_true (show 0≤m.Rule from h),Bool.true_and]
 ·rw[decide_eq_false (show¬0≤m.Rule from h),Bool.false_and]
def Zh124:HH:=⟨_,Zo124⟩
def bindOf:List DBind→ByteArray→DVal×Bool
 |[],_=>(zVal,false)
 |b::l,n=>if b.Name=n then(b.V,true) else bindOf l n
theorem bindOf_step(l:List DBind)(n:ByteArray){i:Int}(h0:0≤i)(h:i<l.length):bindOf (l.drop i.toNat) n=if(List.getD l i.toNat zBind).Name=n then((List.getD l i.toNat zBind).V,true) else bindOf (l.drop (i+1).toNat) n:=by
 rw[drop_step l zBind h0 h];rfl
theorem bindOf_no:∀{l:List DBind}{n:ByteArray},(bindOf l n).2=false→(bindOf l n).1=zVal
 |[],_,_=>rfl
 |b::l,n,h=>by
  simp only[bindOf] at h⊢
  split at h
  ·cases h
  ·rename_i g;rw[if_neg g];exact bindOf_no h
def argVal(a:DArg)(l:List DBind):DVal×Bool:=if a.K=2 then(a.V,true) else if a.K=1 then bindOf l a.S else(zVal,false)
theorem argVal_no{a:DArg}{l:List DBind}(h:(argVal a l).2=false):(argVal a l).1=zVal:=by
 unfold argVal at h⊢
 split at h
 ·cases h
 ·rename_i g;rw[if_neg g];split at h
  ·rename_i g';rw[if_pos g'];exact bindOf_no h
  ·rename_i g';rw[if_neg g']
def numV(n:Int):DVal:=⟨1,n,noBytes⟩
def intsOk(a b:DVal):Bool:=decide (a.K=1)&&decide (b.K=1)&&valOk a&&valOk b
def sumOk(a b:DVal)(n:Int):Bool:=intsOk a b&&valOk (numV n)
def sumV(a b:DVal)(n:Int):DVal:=if sumOk a b n then numV n else zVal
theorem ints_lim{a b:DVal}(h:intsOk a b=true):(-1000000000≤a.N∧a.N≤1000000000)∧(-1000000000≤b.N∧b.N≤1000000000):=by
 simp only[intsOk,Bool.and_eq_true,decide_eq_true_eq] at h
 obtain⟨⟨⟨h1,h2⟩,h3⟩,h4⟩:=h
 simp only[valOk,h1,h2,decide_true,cond_true,Bool.and_eq_true,decide_eq_true_eq] at h3 h4
 exact⟨h3.1,h4.1⟩
theorem sumOk_wrap(a b:DVal)(n:Int)(h:intsOk a b=true→IntKind.wrap .i64 n=n):sumOk a b (IntKind.wrap .i64 n)=sumOk a b n:=by
 cases hi:intsOk a b with
 |false=>simp only[sumOk,hi,Bool.false_and]
 |true=>rw[h hi]
theorem sumV_wrap(a b:DVal)(n:Int)(h:intsOk a b=true→IntKind.wrap .i64 n=n):sumV a b (IntKind.wrap .i64 n)=sumV a b n:=by
 cases hi:intsOk a b with
 |false=>simp only[sumV,sumOk,hi,Bool.false_and];rfl
 |true=>rw[h hi]
def compute(e:DExpr)(l:List DBind):DVal×Bool:=
 if(argVal e.L l).2=false then(zVal,false) else if e.Op=noBytes then((argVal e.L l).1,true) else if(argVal e.R l).2=false then(zVal,false)
 else if e.Op=bPlus then(sumV (argVal e.L l).1 (argVal e.R l).1 ((argVal e.L l).1.N+(argVal e.R l).1.N),sumOk (argVal e.L l).1 (argVal e.R l).1 ((argVal e.L l).1.N+(argVal e.R l).1.N))
 else if e.Op=bMinus then(sumV (argVal e.L l).1 (argVal e.R l).1 ((argVal e.L l).1.N-(argVal e.R l).1.N),sumOk (argVal e.L l).1 (argVal e.R l).1 ((argVal e.L l).1.N-(argVal e.R l).1.N)) else(zVal,false)
def compV(l:List DBind)(e:DExpr):DVal:=(compute e l).1
def compB(l:List DBind)(e:DExpr):Bool:=(compute e l).2
def compsB(es:List DExpr)(l:List DBind):Bool:=es.all (compB l)
def compsV(es:List DExpr)(l:List DBind):List DVal:=if compsB es l then es.map (compV l) else[]
theorem LfV{a a':DVal}{b b':Bool}(h1:a=a')(h2:b=b'):Lf [.agg [.lit (.int .i64 a.K),.lit (.int .i64 a.N),.lit (.string a.S)],.one (.lit (.bool b))] [.agg [.lit (.int .i64 a'.K),.lit (.int .i64 a'.N),.lit (.string a'.S)],.one (.lit (.bool b'))]:=by
 subst h1 h2;exact Lf_rfl _
theorem LfVS{a a':List DVal}{b b':Bool}(h1:a=a')(h2:b=b'):Lf [.one (.sl .eVal a),.one (.lit (.bool b))] [.one (.sl .eVal a'),.one (.lit (.bool b'))]:=by
 subst h1 h2;exact Lf_rfl _
theorem if_neq{a b:Int}{P Q:Prop}(h1:¬a=b→P)(h2:a=b→Q):bif a !=b then P else Q:=if_cond (fun h=>h1 (by simpa using h)) (fun h=>h2 (by simpa using h))
theorem sum_no{a b:DVal}{n:Int}(h:sumOk a b n=false):Lf [.agg [.lit (.int .i64 0),.lit (.int .i64 0),.lit (.string ⟨#[]⟩)],.one (.lit (.bool false))] [.agg [.lit (.int .i64 (sumV a b n).K),.lit (.int .i64 (sumV a b n).N),.lit (.string (sumV a b n).S)],.one (.lit (.bool (sumOk a b n)))]:=
 LfV (a:=zVal) (by simp only[sumV,h];rfl) h.symm
theorem sum_yes{a b:DVal}{n:Int}(h:sumOk a b n=true):Lf [.agg [.lit (.int .i64 1),.lit (.int .i64 n),.lit (.string ⟨#[]⟩)],.one (.lit (.bool true))] [.agg [.lit (.int .i64 (sumV a b n).K),.lit (.int .i64 (sumV a b n).N),.lit (.string (sumV a b n).S)],.one (.lit (.bool (sumOk a b n)))]:=
 LfV (a:=numV n) (by simp only[sumV,h];rfl) h.symm
theorem add_wrap{a b:DVal}(h:intsOk a b=true):IntKind.wrap .i64 (a.N+b.N)=a.N+b.N:=by
 have:=ints_lim h
 exact wrap_i64 (by omega) (by omega)
theorem sub_wrap{a b:DVal}(h:intsOk a b=true):IntKind.wrap .i64 (a.N-b.N)=a.N-b.N:=by
 have:=ints_lim h
 exact wrap_i64 (by omega) (by omega)
theorem sum_int{a b:DVal}{n:Int}(h:intsOk a b=true):sumOk a b n=valOk (numV n)∧sumV a b n=if valOk (numV n)=true then numV n else zVal:=by
 simp only[sumV,sumOk,h,Bool.true_and,and_self]
def Zk245:Con UU where
 α:=(List DBind)×ByteArray
 md:=[.ro,.ro]
 of:=oC (oL .eBind) (o1 oS)
 ds:=fun x=>[dL .eBind x.1,dS x.2]
 pre:=fun _=>[]
 res:=fun(l,name)=>⟨[.agg [.lit (.int .i64 (((bindOf l name).1)).K),.lit (.int .i64 (((bindOf l name).1)).N),.lit (.string (((bindOf l name).1)).S)],.one (.lit (.bool ((bindOf l name).2)))],true,[]⟩
 law:=lC (lL .eBind) (l1 lS)
def Zi245_2(l:(List DBind))(name:ByteArray):Int×(Int×Int×ByteArray×Unit)×Unit→Prop:=fun(i,r,_)=>r=(0,0,noBytes,())∧0≤i∧i≤l.length∧bindOf (l.drop i.toNat) name=bindOf l name
def Zm245_2(l:(List DBind))(name:ByteArray):Int×(Int×Int×ByteArray×Unit)×Unit→Nat:=fun(i,r,_)=>l.length-i.toNat
def Za245:Zk245.α→Nat→Option (Ann UU):=fun(l,name)=>annL [(2,annOf [.slot 6 (6,1024) (.lit (.int .i64)),.box 4 (4,1024) [.lit (.int .i64),.lit (.int .i64),.lit .str]] (fun _=>Zi245_2 l name) (Zm245_2 l name))]
def Zu245:List (FuncId×Con UU):=[]
theorem Zv245(l:(List DBind))(name:ByteArray):goal EE Zu245 Go.Proofs.Tryz.f245 Zk245 Za245 (l,name)=(Zi245_2 l name ((0:Int),((0:Int),(0:Int),{data:= #[]:ByteArray},()),())∧
 ∀(y:Int×(Int×Int×ByteArray×PUnit)×PUnit),
  let x0:DVal:=(List.getD l (Int.toNat y.1) zBind).V;
  Zi245_2 l name y→bif decide (y.1<(↑(List.length l):Int)) then(0:Int)≤y.1∧Int.toNat y.1<List.length l∧bif ByteArray.toList (List.getD l (Int.toNat y.1) zBind).Name==ByteArray.toList name then(0:Int)≤y.1∧Int.toNat y.1<List.length l∧Lf [DV.agg [Cell.lit (Value.int IntKind.i64 x0.K),Cell.lit (Value.int IntKind.i64 x0.N),Cell.lit (Value.string x0.S)],DV.one (Cell.lit (Value.bool true))] [DV.agg [Cell.lit (Value.int IntKind.i64 (bindOf l name).1.K),Cell.lit (Value.int IntKind.i64 (bindOf l name).1.N),Cell.lit (Value.string (bindOf l name).1.S)],DV.one (Cell.lit (Value.bool (bindOf l name).2))] else Zi245_2 l name (IntKind.wrap IntKind.i64 (y.1+(1:Int)),(y.2.1.1,y.2.1.2.1,y.2.1.2.2.1,PUnit.unit),PUnit.unit)∧Zm245_2 l name (IntKind.wrap IntKind.i64 (y.1+(1:Int)),(y.2.1.1,y.2.1.2.1,y.2.1.2.2.1,PUnit.unit),PUnit.unit)<Zm245_2 l name y else Lf [DV.agg [Cell.lit (Value.int IntKind.i64 (0:Int)),Cell.lit (Value.int IntKind.i64 (0:Int)),Cell.lit (Value.string {data:= #[]:ByteArray})],DV.one (Cell.lit (Value.bool false))] [DV.agg [Cell.lit (Value.int IntKind.i64 (bindOf l name).1.K),Cell.lit (Value.int IntKind.i64 (bindOf l name).1.N),Cell.lit (Value.string (bindOf l name).1.S)],DV.one (Cell.lit (Value.bool (bindOf l name).2))]):=by kernel_rfl
theorem Zo245:Holds EE (245,Zk245):=by
 refine holds_of EE_ok Go.Proofs.Tryz.func245 Zk245 (by kernel_rfl) Zu245 all_nil Za245 (fun x hp hb=> ?_)
 obtain⟨l,name⟩:=x
 have hl_l:l.length≤9223372036854775807:=bdL (hb _ m0)
 have hl_name:=bdS (s:=name) (hb _ m1)
 clear hp hb
 rw[Zv245 l name]
 dsimp only
 refine⟨⟨rfl,by omega,by omega,rfl⟩,?_⟩
 rintro⟨i,⟨r1,r2,r3,⟨⟩⟩,⟨⟩⟩ ⟨hr,h1,h2,hR⟩
 cases hr
 simp only
 refine if_dec (fun hc=> ?_) (fun hc=> ?_)
 ·rw[bindOf_step l name h1 hc] at hR
  rw[toList_beq]
  refine⟨by omega,by omega,if_dec (fun g=> ?_) (fun g=> ?_)⟩
  ·rw[if_pos g] at hR;rw[←hR];exact⟨by omega,by omega,Lf_rfl _⟩
  ·rw[if_neg g] at hR;rw[wrap_i64 (by omega) (by omega)];exact⟨⟨rfl,by omega,by omega,hR⟩,by simp only[Zm245_2];omega⟩
 ·have e:l.drop i.toNat=[]:=List.drop_eq_nil_of_le (by omega)
  rw[e] at hR;rw[←hR];exact Lf_rfl _
def Zh245:HH:=⟨_,Zo245⟩
def Zk256:Con UU where
 α:=(List DBind)×ByteArray
 md:=[.ro,.ro]
 of:=oC (oL .eBind) (o1 oS)
 ds:=fun x=>[dL .eBind x.1,dS x.2]
 pre:=fun _=>[]
 res:=fun(l,name)=>⟨[.agg [.lit (.int .i64 (((bindOf l name).1)).K),.lit (.int .i64 (((bindOf l name).1)).N),.lit (.string (((bindOf l name).1)).S)],.one (.lit (.bool ((bindOf l name).2)))],true,[]⟩
 law:=lC (lL .eBind) (l1 lS)
def Zi256_2(l:(List DBind))(name:ByteArray):Int×(Int×Int×ByteArray×Unit)×Unit→Prop:=fun(i,r,_)=>r=(0,0,noBytes,())∧0≤i∧i≤l.length∧bindOf (l.drop i.toNat) name=bindOf l name
def Zm256_2(l:(List DBind))(name:ByteArray):Int×(Int×Int×ByteArray×Unit)×Unit→Nat:=fun(i,r,_)=>l.length-i.toNat
def Za256:Zk256.α→Nat→Option (Ann UU):=fun(l,name)=>annL [(2,annOf [.slot 10 (10,1024) (.lit (.int .i64)),.box 4 (4,1024) [.lit (.int .i64),.lit (.int .i64),.lit .str]] (fun _=>Zi256_2 l name) (Zm256_2 l name))]
def Zu256:List (FuncId×Con UU):=[]
theorem Zv256(l:(List DBind))(name:ByteArray):goal EE Zu256 Go.Proofs.Tryz.f256 Zk256 Za256 (l,name)=(Zi256_2 l name ((0:Int),((0:Int),(0:Int),{data:= #[]:ByteArray},()),())∧
 ∀(y:Int×(Int×Int×ByteArray×PUnit)×PUnit),
  let x0:DVal:=(List.getD l (Int.toNat y.1) zBind).V;
  Zi256_2 l name y→bif decide (y.1<(↑(List.length l):Int)) then(0:Int)≤y.1∧Int.toNat y.1<List.length l∧bif ByteArray.toList (List.getD l (Int.toNat y.1) zBind).Name==ByteArray.toList name then Lf [DV.agg [Cell.lit (Value.int IntKind.i64 x0.K),Cell.lit (Value.int IntKind.i64 x0.N),Cell.lit (Value.string x0.S)],DV.one (Cell.lit (Value.bool true))] [DV.agg [Cell.lit (Value.int IntKind.i64 (bindOf l name).1.K),Cell.lit (Value.int IntKind.i64 (bindOf l name).1.N),Cell.lit (Value.string (bindOf l name).1.S)],DV.one (Cell.lit (Value.bool (bindOf l name).2))] else Zi256_2 l name (IntKind.wrap IntKind.i64 (y.1+(1:Int)),(y.2.1.1,y.2.1.2.1,y.2.1.2.2.1,PUnit.unit),PUnit.unit)∧Zm256_2 l name (IntKind.wrap IntKind.i64 (y.1+(1:Int)),(y.2.1.1,y.2.1.2.1,y.2.1.2.2.1,PUnit.unit),PUnit.unit)<Zm256_2 l name y else Lf [DV.agg [Cell.lit (Value.int IntKind.i64 (0:Int)),Cell.lit (Value.int IntKind.i64 (0:Int)),Cell.lit (Value.string {data:= #[]:ByteArray})],DV.one (Cell.lit (Value.bool false))] [DV.agg [Cell.lit (Value.int IntKind.i64 (bindOf l name).1.K),Cell.lit (Value.int IntKind.i64 (bindOf l name).1.N),Cell.lit (Value.string (bindOf l name).1.S)],DV.one (Cell.lit (Value.bool (bindOf l name).2))]):=by kernel_rfl
theorem Zo256:Holds EE (256,Zk256):=by
 refine holds_of EE_ok Go.Proofs.Tryz.func256 Zk256 (by kernel_rfl) Zu256 all_nil Za256 (fun x hp hb=> ?_)
 obtain⟨l,name⟩:=x
 have hl_l:l.length≤9223372036854775807:=bdL (hb _ m0)
 have hl_name:=bdS (s:=name) (hb _ m1)
 clear hp hb
 rw[Zv256 l name]
 dsimp only
 refine⟨⟨rfl,by omega,by omega,rfl⟩,?_⟩
 rintro⟨i,⟨r1,r2,r3,⟨⟩⟩,⟨⟩⟩ ⟨hr,h1,h2,hR⟩
 cases hr
 simp only
 refine if_dec (fun hc=> ?_) (fun hc=> ?_)
 ·rw[bindOf_step l name h1 hc] at hR
  rw[toList_beq]
  refine⟨by omega,by omega,if_dec (fun g=> ?_) (fun g=> ?_)⟩
  ·rw[if_pos g] at hR;rw[←hR];exact Lf_rfl _
  ·rw[if_neg g] at hR;rw[wrap_i64 (by omega) (by omega)];exact⟨⟨rfl,by omega,by omega,hR⟩,by simp only[Zm256_2];omega⟩
 ·have e:l.drop i.toNat=[]:=List.drop_eq_nil_of_le (by omega)
  rw[e] at hR;rw[←hR];exact Lf_rfl _
def Zh256:HH:=⟨_,Zo256⟩
def Zk227:Con UU where
 α:=DArg×(List DBind)
 md:=[.ro,.ro]
 of:=oC (oA .eArg) (o1 (oL .eBind))
 ds:=fun x=>[dA .eArg x.1,dL .eBind x.2]
 pre:=fun _=>[]
 res:=fun(a,l)=>⟨[.agg [.lit (.int .i64 (((argVal a l).1)).K),.lit (.int .i64 (((argVal a l).1)).N),.lit (.string (((argVal a l).1)).S)],.one (.lit (.bool ((argVal a l).2)))],true,[]⟩
 law:=lC (lA .eArg) (l1 (lL .eBind))
def Za227:Zk227.α→Nat→Option (Ann UU):=fun(a,l)=>annL []
def Zu227:=us [Zh245]
theorem Zv227(a:DArg)(l:(List DBind)):goal EE Zu227 Go.Proofs.Tryz.f227 Zk227 Za227 (a,l)=(bif a.K==(2:Int) then Lf [DV.agg [Cell.lit (Value.int IntKind.i64 a.V.K),Cell.lit (Value.int IntKind.i64 a.V.N),Cell.lit (Value.string a.V.S)],DV.one (Cell.lit (Value.bool true))] [DV.agg [Cell.lit (Value.int IntKind.i64 (argVal a l).1.K),Cell.lit (Value.int IntKind.i64 (argVal a l).1.N),Cell.lit (Value.string (argVal a l).1.S)],DV.one (Cell.lit (Value.bool (argVal a l).2))] else bif a.K==(1:Int) then Lf [DV.agg [Cell.lit (Value.int IntKind.i64 (bindOf l a.S).1.K),Cell.lit (Value.int IntKind.i64 (bindOf l a.S).1.N),Cell.lit (Value.string (bindOf l a.S).1.S)],DV.one (Cell.lit (Value.bool (bindOf l a.S).2))] [DV.agg [Cell.lit (Value.int IntKind.i64 (argVal a l).1.K),Cell.lit (Value.int IntKind.i64 (argVal a l).1.N),Cell.lit (Value.string (argVal a l).1.S)],DV.one (Cell.lit (Value.bool (argVal a l).2))] else Lf [DV.agg [Cell.lit (Value.int IntKind.i64 (0:Int)),Cell.lit (Value.int IntKind.i64 (0:Int)),Cell.lit (Value.string {data:= #[]:ByteArray})],DV.one (Cell.lit (Value.bool false))] [DV.agg [Cell.lit (Value.int IntKind.i64 (argVal a l).1.K),Cell.lit (Value.int IntKind.i64 (argVal a l).1.N),Cell.lit (Value.string (argVal a l).1.S)],DV.one (Cell.lit (Value.bool (argVal a l).2))]):=by kernel_rfl
theorem Zo227:Holds EE (227,Zk227):=by
 refine holds_of EE_ok Go.Proofs.Tryz.func227 Zk227 (by kernel_rfl) Zu227 (us_ok _) Za227 (fun x hp hb=> ?_)
 obtain⟨a,l⟩:=x
 have hz0:=bd_eArg (x:=a) (hb _ m0)
 have hl_a_S:=hz0.1
 have hl_a_V_S:=hz0.2
 have hl_l:l.length≤9223372036854775807:=bdL (hb _ m1)
 clear hp hb
 rw[Zv227 a l]
 refine if_num (fun h=> ?_) (fun h=>if_num (fun h'=> ?_) (fun h'=> ?_))
 ·have e:argVal a l=(a.V,true):=if_pos h
  rw[e];exact Lf_rfl _
 ·have e:argVal a l=bindOf l a.S:=(if_neg h).trans (if_pos h')
  rw[e];exact Lf_rfl _
 ·have e:argVal a l=(zVal,false):=(if_neg h).trans (if_neg h')
  rw[e];exact Lf_rfl _
def Zh227:HH:=⟨_,Zo227⟩
def Zk247:Con UU where
 α:=DArg×(List DBind)
 md:=[.ro,.ro]
 of:=oC (oA .eArg) (o1 (oL .eBind))
 ds:=fun x=>[dA .eArg x.1,dL .eBind x.2]
 pre:=fun _=>[]
 res:=fun(a,l)=>⟨[.agg [.lit (.int .i64 (((argVal a l).1)).K),.lit (.int .i64 (((argVal a l).1)).N),.lit (.string (((argVal a l).1)).S)],.one (.lit (.bool ((argVal a l).2)))],true,[]⟩
 law:=lC (lA .eArg) (l1 (lL .eBind))
def Za247:Zk247.α→Nat→Option (Ann UU):=fun(a,l)=>annL []
def Zu247:=us [Zh256]
theorem Zv247(a:DArg)(l:(List DBind)):goal EE Zu247 Go.Proofs.Tryz.f247 Zk247 Za247 (a,l)=(bif a.K==(2:Int) then Lf [DV.agg [Cell.lit (Value.int IntKind.i64 a.V.K),Cell.lit (Value.int IntKind.i64 a.V.N),Cell.lit (Value.string a.V.S)],DV.one (Cell.lit (Value.bool true))] [DV.agg [Cell.lit (Value.int IntKind.i64 (argVal a l).1.K),Cell.lit (Value.int IntKind.i64 (argVal a l).1.N),Cell.lit (Value.string (argVal a l).1.S)],DV.one (Cell.lit (Value.bool (argVal a l).2))] else bif a.K==(1:Int) then Lf [DV.agg [Cell.lit (Value.int IntKind.i64 (bindOf l a.S).1.K),Cell.lit (Value.int IntKind.i64 (bindOf l a.S).1.N),Cell.lit (Value.string (bindOf l a.S).1.S)],DV.one (Cell.lit (Value.bool (bindOf l a.S).2))] [DV.agg [Cell.lit (Value.int IntKind.i64 (argVal a l).1.K),Cell.lit (Value.int IntKind.i64 (argVal a l).1.N),Cell.lit (Value.string (argVal a l).1.S)],DV.one (Cell.lit (Value.bool (argVal a l).2))] else Lf [DV.agg [Cell.lit (Value.int IntKind.i64 (0:Int)),Cell.lit (Value.int IntKind.i64 (0:Int)),Cell.lit (Value.string {data:= #[]:ByteArray})],DV.one (Cell.lit (Value.bool false))] [DV.agg [Cell.lit (Value.int IntKind.i64 (argVal a l).1.K),Cell.lit (Value.int IntKind.i64 (argVal a l).1.N),Cell.lit (Value.string (argVal a l).1.S)],DV.one (Cell.lit (Value.bool (argVal a l).2))]):=by kernel_rfl
theorem Zo247:Holds EE (247,Zk247):=by
 refine holds_of EE_ok Go.Proofs.Tryz.func247 Zk247 (by kernel_rfl) Zu247 (us_ok _) Za247 (fun x hp hb=> ?_)
 obtain⟨a,l⟩:=x
 have hz0:=bd_eArg (x:=a) (hb _ m0)
 have hl_a_S:=hz0.1
 have hl_a_V_S:=hz0.2
 have hl_l:l.length≤9223372036854775807:=bdL (hb _ m1)
 clear hp hb
 rw[Zv247 a l]
 refine if_num (fun h=> ?_) (fun h=>if_num (fun h'=> ?_) (fun h'=> ?_))
 ·have e:argVal a l=(a.V,true):=if_pos h
  rw[e];exact Lf_rfl _
 ·have e:argVal a l=bindOf l a.S:=(if_neg h).trans (if_pos h')
  rw[e];exact Lf_rfl _
 ·have e:argVal a l=(zVal,false):=(if_neg h).trans (if_neg h')
  rw[e];exact Lf_rfl _
def Zh247:HH:=⟨_,Zo247⟩
def Zk246:Con UU where
 α:=DVal×DVal×Int
 md:=[.ro,.ro,.ro]
 of:=oC (oA .eVal) (oC (oA .eVal) (o1 oI))
 ds:=fun x=>[dA .eVal x.1,dA .eVal x.2.1,dI x.2.2]
 pre:=fun _=>[]
 res:=fun(a,b,n)=>⟨[.agg [.lit (.int .i64 ((sumV a b n)).K),.lit (.int .i64 ((sumV a b n)).N),.lit (.string ((sumV a b n)).S)],.one (.lit (.bool (sumOk a b n)))],true,[]⟩
 law:=lC (lA .eVal) (lC (lA .eVal) (l1 lI))
def Za246:Zk246.α→Nat→Option (Ann UU):=fun(a,b,n)=>annL []
def Zu246:=us [Zh165]
theorem Zv246(a:DVal)(b:DVal)(n:Int):goal EE Zu246 Go.Proofs.Tryz.f246 Zk246 Za246 (a,b,n)=(bif a.K !=(1:Int) then Lf [DV.agg [Cell.lit (Value.int IntKind.i64 (0:Int)),Cell.lit (Value.int IntKind.i64 (0:Int)),Cell.lit (Value.string {data:= #[]:ByteArray})],DV.one (Cell.lit (Value.bool false))] [DV.agg [Cell.lit (Value.int IntKind.i64 (sumV a b n).K),Cell.lit (Value.int IntKind.i64 (sumV a b n).N),Cell.lit (Value.string (sumV a b n).S)],DV.one (Cell.lit (Value.bool (sumOk a b n)))] else bif b.K !=(1:Int) then Lf [DV.agg [Cell.lit (Value.int IntKind.i64 (0:Int)),Cell.lit (Value.int IntKind.i64 (0:Int)),Cell.lit (Value.string {data:= #[]:ByteArray})],DV.one (Cell.lit (Value.bool false))] [DV.agg [Cell.lit (Value.int IntKind.i64 (sumV a b n).K),Cell.lit (Value.int IntKind.i64 (sumV a b n).N),Cell.lit (Value.string (sumV a b n).S)],DV.one (Cell.lit (Value.bool (sumOk a b n)))] else bif !valOk a then Lf [DV.agg [Cell.lit (Value.int IntKind.i64 (0:Int)),Cell.lit (Value.int IntKind.i64 (0:Int)),Cell.lit (Value.string {data:= #[]:ByteArray})],DV.one (Cell.lit (Value.bool false))] [DV.agg [Cell.lit (Value.int IntKind.i64 (sumV a b n).K),Cell.lit (Value.int IntKind.i64 (sumV a b n).N),Cell.lit (Value.string (sumV a b n).S)],DV.one (Cell.lit (Value.bool (sumOk a b n)))] else bif !valOk b then Lf [DV.agg [Cell.lit (Value.int IntKind.i64 (0:Int)),Cell.lit (Value.int IntKind.i64 (0:Int)),Cell.lit (Value.string {data:= #[]:ByteArray})],DV.one (Cell.lit (Value.bool false))] [DV.agg [Cell.lit (Value.int IntKind.i64 (sumV a b n).K),Cell.lit (Value.int IntKind.i64 (sumV a b n).N),Cell.lit (Value.string (sumV a b n).S)],DV.one (Cell.lit (Value.bool (sumOk a b n)))] else bif !valOk {K:=(1:Int),N:=n,S:={data:= #[]:ByteArray}:DVal} then Lf [DV.agg [Cell.lit (Value.int IntKind.i64 (0:Int)),Cell.lit (Value.int IntKind.i64 (0:Int)),Cell.lit (Value.string {data:= #[]:ByteArray})],DV.one (Cell.lit (Value.bool false))] [DV.agg [Cell.lit (Value.int IntKind.i64 (sumV a b n).K),Cell.lit (Value.int IntKind.i64 (sumV a b n).N),Cell.lit (Value.string (sumV a b n).S)],DV.one (Cell.lit (Value.bool (sumOk a b n)))] else Lf [DV.agg [Cell.lit (Value.int IntKind.i64 (1:Int)),Cell.lit (Value.int IntKind.i64 n),Cell.lit (Value.string {data:= #[]:ByteArray})],DV.one (Cell.lit (Value.bool true))] [DV.agg [Cell.lit (Value.int IntKind.i64 (sumV a b n).K),Cell.lit (Value.int IntKind.i64 (sumV a b n).N),Cell.lit (Value.string (sumV a b n).S)],DV.one (Cell.lit (Value.bool (sumOk a b n)))]):=by kernel_rfl
theorem Zo246:Holds EE (246,Zk246):=by
 refine holds_of EE_ok Go.Proofs.Tryz.func246 Zk246 (by kernel_rfl) Zu246 (us_ok _) Za246 (fun x hp hb=> ?_)
 obtain⟨a,b,n⟩:=x
 have hl_a_S:=bd_eVal (x:=a) (hb _ m0)
 have hl_b_S:=bd_eVal (x:=b) (hb _ m1)
 have hl_n:=bdI (n:=n) (hb _ m2)
 clear hp hb
 rw[Zv246 a b n]
 refine if_neq (fun h=>sum_no ?_) (fun h1=>if_neq (fun h=>sum_no ?_) (fun h2=>if_not (fun h=>sum_no ?_) (fun h3=>if_not (fun h=>sum_no ?_) (fun h4=>if_not (fun h=>sum_no ?_) (fun h5=>sum_yes ?_)))))
 ·simp only[sumOk,intsOk,decide_eq_false h,Bool.false_and]
 ·simp only[sumOk,intsOk,decide_eq_false h,Bool.false_and,Bool.and_false]
 ·simp only[sumOk,intsOk,show valOk a=false from h,Bool.false_and,Bool.and_false]
 ·simp only[sumOk,intsOk,show valOk b=false from h,Bool.false_and,Bool.and_false]
 ·simp only[sumOk,show valOk (numV n)=false from h,Bool.and_false]
 ·simp only[sumOk,intsOk,show valOk a=true from h3,show valOk b=true from h4,show valOk (numV n)=true from h5,decide_eq_true h1,decide_eq_true h2];rfl
def Zh246:HH:=⟨_,Zo246⟩
def Zk228:Con UU where
 α:=DVal×DVal
 md:=[.ro,.ro]
 of:=oC (oA .eVal) (o1 (oA .eVal))
 ds:=fun x=>[dA .eVal x.1,dA .eVal x.2]
 pre:=fun _=>[]
 res:=fun(a,b)=>⟨[.agg [.lit (.int .i64 ((sumV a b (a.N+b.N))).K),.lit (.int .i64 ((sumV a b (a.N+b.N))).N),.lit (.string ((sumV a b (a.N+b.N))).S)],.one (.lit (.bool (sumOk a b (a.N+b.N))))],true,[]⟩
 law:=lC (lA .eVal) (l1 (lA .eVal))
def Za228:Zk228.α→Nat→Option (Ann UU):=fun(a,b)=>annL []
def Zu228:=us [Zh246]
theorem Zv228(a:DVal)(b:DVal):goal EE Zu228 Go.Proofs.Tryz.f228 Zk228 Za228 (a,b)=(let x2:Int:=a.N+b.N;
let x0:DVal:=sumV a b (IntKind.wrap IntKind.i64 x2);
let x1:DVal:=sumV a b x2;
Lf [DV.agg [Cell.lit (Value.int IntKind.i64 x0.K),Cell.lit (Value.int IntKind.i64 x0.N),Cell.lit (Value.string x0.S)],DV.one (Cell.lit (Value.bool (sumOk a b (IntKind.wrap IntKind.i64 x2))))] [DV.agg [Cell.lit (Value.int IntKind.i64 x1.K),Cell.lit (Value.int IntKind.i64 x1.N),Cell.lit (Value.string x1.S)],DV.one (Cell.lit (Value.bool (sumOk a b x2)))]):=by kernel_rfl
theorem Zo228:Holds EE (228,Zk228):=by
 refine holds_of EE_ok Go.Proofs.Tryz.func228 Zk228 (by kernel_rfl) Zu228 (us_ok _) Za228 (fun x hp hb=> ?_)
 obtain⟨a,b⟩:=x
 have hl_a_S:=bd_eVal (x:=a) (hb _ m0)
 have hl_b_S:=bd_eVal (x:=b) (hb _ m1)
 clear hp hb
 rw[Zv228 a b]
 dsimp only
 rw[sumOk_wrap a b _ add_wrap,sumV_wrap a b _ add_wrap];exact Lf_rfl _
def Zh228:HH:=⟨_,Zo228⟩
def Zk229:Con UU where
 α:=DVal×DVal
 md:=[.ro,.ro]
 of:=oC (oA .eVal) (o1 (oA .eVal))
 ds:=fun x=>[dA .eVal x.1,dA .eVal x.2]
 pre:=fun _=>[]
 res:=fun(a,b)=>⟨[.agg [.lit (.int .i64 ((sumV a b (a.N-b.N))).K),.lit (.int .i64 ((sumV a b (a.N-b.N))).N),.lit (.string ((sumV a b (a.N-b.N))).S)],.one (.lit (.bool (sumOk a b (a.N-b.N))))],true,[]⟩
 law:=lC (lA .eVal) (l1 (lA .eVal))
def Za229:Zk229.α→Nat→Option (Ann UU):=fun(a,b)=>annL []
def Zu229:=us [Zh246]
theorem Zv229(a:DVal)(b:DVal):goal EE Zu229 Go.Proofs.Tryz.f229 Zk229 Za229 (a,b)=(let x2:Int:=a.N-b.N;
let x0:DVal:=sumV a b (IntKind.wrap IntKind.i64 x2);
let x1:DVal:=sumV a b x2;
Lf [DV.agg [Cell.lit (Value.int IntKind.i64 x0.K),Cell.lit (Value.int IntKind.i64 x0.N),Cell.lit (Value.string x0.S)],DV.one (Cell.lit (Value.bool (sumOk a b (IntKind.wrap IntKind.i64 x2))))] [DV.agg [Cell.lit (Value.int IntKind.i64 x1.K),Cell.lit (Value.int IntKind.i64 x1.N),Cell.lit (Value.string x1.S)],DV.one (Cell.lit (Value.bool (sumOk a b x2)))]):=by kernel_rfl
theorem Zo229:Holds EE (229,Zk229):=by
 refine holds_of EE_ok Go.Proofs.Tryz.func229 Zk229 (by kernel_rfl) Zu229 (us_ok _) Za229 (fun x hp hb=> ?_)
 obtain⟨a,b⟩:=x
 have hl_a_S:=bd_eVal (x:=a) (hb _ m0)
 have hl_b_S:=bd_eVal (x:=b) (hb _ m1)
 clear hp hb
 rw[Zv229 a b]
 dsimp only
 rw[sumOk_wrap a b _ sub_wrap,sumV_wrap a b _ sub_wrap];exact Lf_rfl _
def Zh229:HH:=⟨_,Zo229⟩
def Zk257:Con UU where
 α:=DVal×DVal
 md:=[.ro,.ro]
 of:=oC (oA .eVal) (o1 (oA .eVal))
 ds:=fun x=>[dA .eVal x.1,dA .eVal x.2]
 pre:=fun _=>[]
 res:=fun(a,b)=>⟨[.one (.lit (.bool (intsOk a b)))],true,[]⟩
 law:=lC (lA .eVal) (l1 (lA .eVal))
def Za257:Zk257.α→Nat→Option (Ann UU):=fun(a,b)=>annL []
def Zu257:=us [Zh182]
theorem Zv257(a:DVal)(b:DVal):goal EE Zu257 Go.Proofs.Tryz.f257 Zk257 Za257 (a,b)=(bif a.K==(1:Int) then bif b.K==(1:Int) then bif valOk a then Lb (valOk b) (intsOk a b) else Lb false (intsOk a b) else Lb false (intsOk a b) else Lb false (intsOk a b)):=by kernel_rfl
theorem Zo257:Holds EE (257,Zk257):=by
 refine holds_of EE_ok Go.Proofs.Tryz.func257 Zk257 (by kernel_rfl) Zu257 (us_ok _) Za257 (fun x hp hb=> ?_)
 obtain⟨a,b⟩:=x
 have hl_a_S:=bd_eVal (x:=a) (hb _ m0)
 have hl_b_S:=bd_eVal (x:=b) (hb _ m1)
 clear hp hb
 rw[Zv257 a b]
 refine if_num (fun h1=>if_num (fun h2=>if_cond (fun h3=>Lf_b ?_) (fun h3=>Lf_b ?_)) (fun h2=>Lf_b ?_)) (fun h1=>Lf_b ?_)
 ·simp only[intsOk,decide_eq_true h1,decide_eq_true h2,show valOk a=true from h3,Bool.true_and]
 ·simp only[intsOk,show valOk a=false from h3,Bool.false_and,Bool.and_false]
 ·simp only[intsOk,decide_eq_false h2,Bool.false_and,Bool.and_false]
 ·simp only[intsOk,decide_eq_false h1,Bool.false_and]
def Zh257:HH:=⟨_,Zo257⟩
def Zk258:Con UU where
 α:=Int
 md:=[.ro]
 of:=o1 oI
 ds:=fun x=>[dI x]
 pre:=fun _=>[]
 res:=fun n=>⟨[.agg [.lit (.int .i64 ((if valOk (numV n) then numV n else zVal)).K),.lit (.int .i64 ((if valOk (numV n) then numV n else zVal)).N),.lit (.string ((if valOk (numV n) then numV n else zVal)).S)],.one (.lit (.bool (valOk (numV n))))],true,[]⟩
 law:=l1 lI
def Za258:Zk258.α→Nat→Option (Ann UU):=fun n=>annL []
def Zu258:=us [Zh182]
theorem Zv258(n:Int):goal EE Zu258 Go.Proofs.Tryz.f258 Zk258 Za258 n=(let x0:DVal:=if valOk (numV n)=true then numV n else zVal;
bif !valOk {K:=(1:Int),N:=n,S:={data:= #[]:ByteArray}:DVal} then Lf [DV.agg [Cell.lit (Value.int IntKind.i64 (0:Int)),Cell.lit (Value.int IntKind.i64 (0:Int)),Cell.lit (Value.string {data:= #[]:ByteArray})],DV.one (Cell.lit (Value.bool false))] [DV.agg [Cell.lit (Value.int IntKind.i64 x0.K),Cell.lit (Value.int IntKind.i64 x0.N),Cell.lit (Value.string x0.S)],DV.one (Cell.lit (Value.bool (valOk (numV n))))] else Lf [DV.agg [Cell.lit (Value.int IntKind.i64 (1:Int)),Cell.lit (Value.int IntKind.i64 n),Cell.lit (Value.string {data:= #[]:ByteArray})],DV.one (Cell.lit (Value.bool true))] [DV.agg [Cell.lit (Value.int IntKind.i64 x0.K),Cell.lit (Value.int IntKind.i64 x0.N),Cell.lit (Value.string x0.S)],DV.one (Cell.lit (Value.bool (valOk (numV n))))]):=by kernel_rfl
theorem Zo258:Holds EE (258,Zk258):=by
 refine holds_of EE_ok Go.Proofs.Tryz.func258 Zk258 (by kernel_rfl) Zu258 (us_ok _) Za258 (fun(n:Int) hp hb=> ?_)
 have hl_n:=bdI (n:=n) (hb _ m0)
 clear hp hb
 rw[Zv258 n]
 dsimp only
 refine if_not (fun h=> ?_) (fun h=> ?_)
 ·have h:valOk (numV n)=false:=h
  exact LfV (a:=zVal) (by rw[h];rfl) h.symm
 ·have h:valOk (numV n)=true:=h
  exact LfV (a:=numV n) (by rw[h];rfl) h.symm
def Zh258:HH:=⟨_,Zo258⟩
def Zk248:Con UU where
 α:=DVal×DVal
 md:=[.ro,.ro]
 of:=oC (oA .eVal) (o1 (oA .eVal))
 ds:=fun x=>[dA .eVal x.1,dA .eVal x.2]
 pre:=fun _=>[]
 res:=fun(a,b)=>⟨[.agg [.lit (.int .i64 ((sumV a b (a.N+b.N))).K),.lit (.int .i64 ((sumV a b (a.N+b.N))).N),.lit (.string ((sumV a b (a.N+b.N))).S)],.one (.lit (.bool (sumOk a b (a.N+b.N))))],true,[]⟩
 law:=lC (lA .eVal) (l1 (lA .eVal))
def Za248:Zk248.α→Nat→Option (Ann UU):=fun(a,b)=>annL []
def Zu248:=us [Zh257,Zh258]
theorem Zv248(a:DVal)(b:DVal):goal EE Zu248 Go.Proofs.Tryz.f248 Zk248 Za248 (a,b)=(let x2:Int:=a.N+b.N;
let x0:DVal:=if valOk (numV (IntKind.wrap IntKind.i64 x2))=true then numV (IntKind.wrap IntKind.i64 x2) else zVal;
let x1:DVal:=sumV a b x2;
bif !intsOk a b then Lf [DV.agg [Cell.lit (Value.int IntKind.i64 (0:Int)),Cell.lit (Value.int IntKind.i64 (0:Int)),Cell.lit (Value.string {data:= #[]:ByteArray})],DV.one (Cell.lit (Value.bool false))] [DV.agg [Cell.lit (Value.int IntKind.i64 x1.K),Cell.lit (Value.int IntKind.i64 x1.N),Cell.lit (Value.string x1.S)],DV.one (Cell.lit (Value.bool (sumOk a b x2)))] else Lf [DV.agg [Cell.lit (Value.int IntKind.i64 x0.K),Cell.lit (Value.int IntKind.i64 x0.N),Cell.lit (Value.string x0.S)],DV.one (Cell.lit (Value.bool (valOk (numV (IntKind.wrap IntKind.i64 x2)))))] [DV.agg [Cell.lit (Value.int IntKind.i64 x1.K),Cell.lit (Value.int IntKind.i64 x1.N),Cell.lit (Value.string x1.S)],DV.one (Cell.lit (Value.bool (sumOk a b x2)))]):=by kernel_rfl
theorem Zo248:Holds EE (248,Zk248):=by
 refine holds_of EE_ok Go.Proofs.Tryz.func248 Zk248 (by kernel_rfl) Zu248 (us_ok _) Za248 (fun x hp hb=> ?_)
 obtain⟨a,b⟩:=x
 have hl_a_S:=bd_eVal (x:=a) (hb _ m0)
 have hl_b_S:=bd_eVal (x:=b) (hb _ m1)
 clear hp hb
 rw[Zv248 a b]
 dsimp only
 refine if_not (fun h=>sum_no ?_) (fun h=> ?_)
 ·simp only[sumOk,h,Bool.false_and]
 ·rw[add_wrap h]
  obtain⟨e1,e2⟩:=sum_int (n:=a.N+b.N) h
  exact LfV e2.symm e1.symm
def Zh248:HH:=⟨_,Zo248⟩
def Zk249:Con UU where
 α:=DVal×DVal
 md:=[.ro,.ro]
 of:=oC (oA .eVal) (o1 (oA .eVal))
 ds:=fun x=>[dA .eVal x.1,dA .eVal x.2]
 pre:=fun _=>[]
 res:=fun(a,b)=>⟨[.agg [.lit (.int .i64 ((sumV a b (a.N-b.N))).K),.lit (.int .i64 ((sumV a b (a.N-b.N))).N),.lit (.string ((sumV a b (a.N-b.N))).S)],.one (.lit (.bool (sumOk a b (a.N-b.N))))],true,[]⟩
 law:=lC (lA .eVal) (l1 (lA .eVal))
def Za249:Zk249.α→Nat→Option (Ann UU):=fun(a,b)=>annL []
def Zu249:=us [Zh257,Zh258]
theorem Zv249(a:DVal)(b:DVal):goal EE Zu249 Go.Proofs.Tryz.f249 Zk249 Za249 (a,b)=(let x2:Int:=a.N-b.N;
let x0:DVal:=if valOk (numV (IntKind.wrap IntKind.i64 x2))=true then numV (IntKind.wrap IntKind.i64 x2) else zVal;
let x1:DVal:=sumV a b x2;
bif !intsOk a b then Lf [DV.agg [Cell.lit (Value.int IntKind.i64 (0:Int)),Cell.lit (Value.int IntKind.i64 (0:Int)),Cell.lit (Value.string {data:= #[]:ByteArray})],DV.one (Cell.lit (Value.bool false))] [DV.agg [Cell.lit (Value.int IntKind.i64 x1.K),Cell.lit (Value.int IntKind.i64 x1.N),Cell.lit (Value.string x1.S)],DV.one (Cell.lit (Value.bool (sumOk a b x2)))] else Lf [DV.agg [Cell.lit (Value.int IntKind.i64 x0.K),Cell.lit (Value.int IntKind.i64 x0.N),Cell.lit (Value.string x0.S)],DV.one (Cell.lit (Value.bool (valOk (numV (IntKind.wrap IntKind.i64 x2)))))] [DV.agg [Cell.lit (Value.int IntKind.i64 x1.K),Cell.lit (Value.int IntKind.i64 x1.N),Cell.lit (Value.string x1.S)],DV.one (Cell.lit (Value.bool (sumOk a b x2)))]):=by kernel_rfl
theorem Zo249:Holds EE (249,Zk249):=by
 refine holds_of EE_ok Go.Proofs.Tryz.func249 Zk249 (by kernel_rfl) Zu249 (us_ok _) Za249 (fun x hp hb=> ?_)
 obtain⟨a,b⟩:=x
 have hl_a_S:=bd_eVal (x:=a) (hb _ m0)
 have hl_b_S:=bd_eVal (x:=b) (hb _ m1)
 clear hp hb
 rw[Zv249 a b]
 dsimp only
 refine if_not (fun h=>sum_no ?_) (fun h=> ?_)
 ·simp only[sumOk,h,Bool.false_and]
 ·rw[sub_wrap h]
  obtain⟨e1,e2⟩:=sum_int (n:=a.N-b.N) h
  exact LfV e2.symm e1.symm
def Zh249:HH:=⟨_,Zo249⟩
def Zk195:Con UU where
 α:=DExpr×(List DBind)
 md:=[.ro,.ro]
 of:=oC (oA .eExpr) (o1 (oL .eBind))
 ds:=fun x=>[dA .eExpr x.1,dL .eBind x.2]
 pre:=fun _=>[]
 res:=fun(e,l)=>⟨[.agg [.lit (.int .i64 ((compV l e)).K),.lit (.int .i64 ((compV l e)).N),.lit (.string ((compV l e)).S)],.one (.lit (.bool (compB l e)))],true,[]⟩
 law:=lC (lA .eExpr) (l1 (lL .eBind))
def Za195:Zk195.α→Nat→Option (Ann UU):=fun(e,l)=>annL []
def Zu195:=us [Zh227,Zh228,Zh229]
theorem Zv195(e:DExpr)(l:(List DBind)):goal EE Zu195 Go.Proofs.Tryz.f195 Zk195 Za195 (e,l)=(let x4:Int:=(argVal {K:=e.L.K,S:=e.L.S,V:={K:=e.L.V.K,N:=e.L.V.N,S:=e.L.V.S:DVal}:DArg} l).1.N;
let x5:Int:=(argVal {K:=e.R.K,S:=e.R.S,V:={K:=e.R.V.K,N:=e.R.V.N,S:=e.R.V.S:DVal}:DArg} l).1.N;
let x2:Int:=x4-x5;
let x3:Int:=x4+x5;
let x0:DVal:=sumV (argVal {K:=e.L.K,S:=e.L.S,V:={K:=e.L.V.K,N:=e.L.V.N,S:=e.L.V.S:DVal}:DArg} l).1 (argVal {K:=e.R.K,S:=e.R.S,V:={K:=e.R.V.K,N:=e.R.V.N,S:=e.R.V.S:DVal}:DArg} l).1 x2;
let x1:DVal:=sumV (argVal {K:=e.L.K,S:=e.L.S,V:={K:=e.L.V.K,N:=e.L.V.N,S:=e.L.V.S:DVal}:DArg} l).1 (argVal {K:=e.R.K,S:=e.R.S,V:={K:=e.R.V.K,N:=e.R.V.N,S:=e.R.V.S:DVal}:DArg} l).1 x3;
bif !(argVal {K:=e.L.K,S:=e.L.S,V:={K:=e.L.V.K,N:=e.L.V.N,S:=e.L.V.S:DVal}:DArg} l).2 then Lf [DV.agg [Cell.lit (Value.int IntKind.i64 (0:Int)),Cell.lit (Value.int IntKind.i64 (0:Int)),Cell.lit (Value.string {data:= #[]:ByteArray})],DV.one (Cell.lit (Value.bool false))] [DV.agg [Cell.lit (Value.int IntKind.i64 (compV l e).K),Cell.lit (Value.int IntKind.i64 (compV l e).N),Cell.lit (Value.string (compV l e).S)],DV.one (Cell.lit (Value.bool (compB l e)))] else bif ByteArray.toList e.Op==ByteArray.toList {data:= #[]:ByteArray} then Lf [DV.agg [Cell.lit (Value.int IntKind.i64 (argVal {K:=e.L.K,S:=e.L.S,V:={K:=e.L.V.K,N:=e.L.V.N,S:=e.L.V.S:DVal}:DArg} l).1.K),Cell.lit (Value.int IntKind.i64 x4),Cell.lit (Value.string (argVal {K:=e.L.K,S:=e.L.S,V:={K:=e.L.V.K,N:=e.L.V.N,S:=e.L.V.S:DVal}:DArg} l).1.S)],DV.one (Cell.lit (Value.bool true))] [DV.agg [Cell.lit (Value.int IntKind.i64 (compV l e).K),Cell.lit (Value.int IntKind.i64 (compV l e).N),Cell.lit (Value.string (compV l e).S)],DV.one (Cell.lit (Value.bool (compB l e)))] else bif !(argVal {K:=e.R.K,S:=e.R.S,V:={K:=e.R.V.K,N:=e.R.V.N,S:=e.R.V.S:DVal}:DArg} l).2 then Lf [DV.agg [Cell.lit (Value.int IntKind.i64 (0:Int)),Cell.lit (Value.int IntKind.i64 (0:Int)),Cell.lit (Value.string {data:= #[]:ByteArray})],DV.one (Cell.lit (Value.bool false))] [DV.agg [Cell.lit (Value.int IntKind.i64 (compV l e).K),Cell.lit (Value.int IntKind.i64 (compV l e).N),Cell.lit (Value.string (compV l e).S)],DV.one (Cell.lit (Value.bool (compB l e)))] else bif ByteArray.toList e.Op==ByteArray.toList {data:= #[(43:UInt8)]:ByteArray} then Lf [DV.agg [Cell.lit (Value.int IntKind.i64 x1.K),Cell.lit (Value.int IntKind.i64 x1.N),Cell.lit (Value.string x1.S)],DV.one (Cell.lit (Value.bool (sumOk (argVal {K:=e.L.K,S:=e.L.S,V:={K:=e.L.V.K,N:=e.L.V.N,S:=e.L.V.S:DVal}:DArg} l).1 (argVal {K:=e.R.K,S:=e.R.S,V:={K:=e.R.V.K,N:=e.R.V.N,S:=e.R.V.S:DVal}:DArg} l).1 x3)))] [DV.agg [Cell.lit (Value.int IntKind.i64 (compV l e).K),Cell.lit (Value.int IntKind.i64 (compV l e).N),Cell.lit (Value.string (compV l e).S)],DV.one (Cell.lit (Value.bool (compB l e)))] else bif ByteArray.toList e.Op==ByteArray.toList {data:= #[(45:UInt8)]:ByteArray} then Lf [DV.agg [Cell.lit (Value.int IntKind.i64 x0.K),Cell.lit (Value.int IntKind.i64 x0.N),Cell.lit (Value.string x0.S)],DV.one (Cell.lit (Value.bool (sumOk (argVal {K:=e.L.K,S:=e.L.S,V:={K:=e.L.V.K,N:=e.L.V.N,S:=e.L.V.S:DVal}:DArg} l).1 (argVal {K:=e.R.K,S:=e.R.S,V:={K:=e.R.V.K,N:=e.R.V.N,S:=e.R.V.S:DVal}:DArg} l).1 x2)))] [DV.agg [Cell.lit (Value.int IntKind.i64 (compV l e).K),Cell.lit (Value.int IntKind.i64 (compV l e).N),Cell.lit (Value.string (compV l e).S)],DV.one (Cell.lit (Value.bool (compB l e)))] else Lf [DV.agg [Cell.lit (Value.int IntKind.i64 (0:Int)),Cell.lit (Value.int IntKind.i64 (0:Int)),Cell.lit (Value.string {data:= #[]:ByteArray})],DV.one (Cell.lit (Value.bool false))] [DV.agg [Cell.lit (Value.int IntKind.i64 (compV l e).K),Cell.lit (Value.int IntKind.i64 (compV l e).N),Cell.lit (Value.string (compV l e).S)],DV.one (Cell.lit (Value.bool (compB l e)))]):=by kernel_rfl
theorem Zo195:Holds EE (195,Zk195):=by
 refine holds_of EE_ok Go.Proofs.Tryz.func195 Zk195 (by kernel_rfl) Zu195 (us_ok _) Za195 (fun x hp hb=> ?_)
 obtain⟨e,l⟩:=x
 have hz0:=bd_eExpr (x:=e) (hb _ m0)
 have hl_e_Op:=hz0.1
 have hl_e_L_S:=hz0.2.1
 have hl_e_L_V_S:=hz0.2.2.1
 have hl_e_R_S:=hz0.2.2.2.1
 have hl_e_R_V_S:=hz0.2.2.2.2
 have hl_l:l.length≤9223372036854775807:=bdL (hb _ m1)
 clear hp hb
 rw[Zv195 e l]
 dsimp only
 have eL:(⟨e.L.K,e.L.S,⟨e.L.V.K,e.L.V.N,e.L.V.S⟩⟩:DArg)=e.L:=rfl
 have eR:(⟨e.R.K,e.R.S,⟨e.R.V.K,e.R.V.N,e.R.V.S⟩⟩:DArg)=e.R:=rfl
 simp only[eL,eR,toList_beq]
 refine if_not (fun h=> ?_) (fun h=>if_dec (fun h1=> ?_) (fun h1=>if_not (fun h2=> ?_) (fun h2=>if_dec (fun h3=> ?_) (fun h3=>if_dec (fun h4=> ?_) (fun h4=> ?_)))))
 all_goals have hn:(argVal e.L l).2=false→compute e l=(zVal,false):=fun h=>if_pos h
 ·have e1:=hn h
  exact LfV (a:=zVal) (congrArg Prod.fst e1).symm (congrArg Prod.snd e1).symm
 all_goals have h0:¬(argVal e.L l).2=false:=by rw[h];decide
 ·have e1:compute e l=((argVal e.L l).1,true):=(if_neg h0).trans (if_pos h1)
  exact LfV (congrArg Prod.fst e1).symm (congrArg Prod.snd e1).symm
 ·have e1:compute e l=(zVal,false):=(if_neg h0).trans ((if_neg h1).trans (if_pos h2))
  exact LfV (a:=zVal) (congrArg Prod.fst e1).symm (congrArg Prod.snd e1).symm
 all_goals have h5:¬(argVal e.R l).2=false:=by rw[h2];decide
 ·have e1:compute e l=_:=(if_neg h0).trans ((if_neg h1).trans ((if_neg h5).trans (if_pos h3)))
  exact LfV (congrArg Prod.fst e1).symm (congrArg Prod.snd e1).symm
 ·have e1:compute e l=_:=(if_neg h0).trans ((if_neg h1).trans ((if_neg h5).trans ((if_neg h3).trans (if_pos h4))))
  exact LfV (congrArg Prod.fst e1).symm (congrArg Prod.snd e1).symm
 ·have e1:compute e l=(zVal,false):=(if_neg h0).trans ((if_neg h1).trans ((if_neg h5).trans ((if_neg h3).trans (if_neg h4))))
  exact LfV (a:=zVal) (congrArg Prod.fst e1).symm (congrArg Prod.snd e1).symm
def Zh195:HH:=⟨_,Zo195⟩
def Zk230:Con UU where
 α:=DExpr×(List DBind)
 md:=[.ro,.ro]
 of:=oC (oA .eExpr) (o1 (oL .eBind))
 ds:=fun x=>[dA .eExpr x.1,dL .eBind x.2]
 pre:=fun _=>[]
 res:=fun(e,l)=>⟨[.agg [.lit (.int .i64 ((compV l e)).K),.lit (.int .i64 ((compV l e)).N),.lit (.string ((compV l e)).S)],.one (.lit (.bool (compB l e)))],true,[]⟩
 law:=lC (lA .eExpr) (l1 (lL .eBind))
def Za230:Zk230.α→Nat→Option (Ann UU):=fun(e,l)=>annL []
def Zu230:=us [Zh247,Zh248,Zh249]
theorem Zv230(e:DExpr)(l:(List DBind)):goal EE Zu230 Go.Proofs.Tryz.f230 Zk230 Za230 (e,l)=(let x4:Int:=(argVal {K:=e.L.K,S:=e.L.S,V:={K:=e.L.V.K,N:=e.L.V.N,S:=e.L.V.S:DVal}:DArg} l).1.N;
let x5:Int:=(argVal {K:=e.R.K,S:=e.R.S,V:={K:=e.R.V.K,N:=e.R.V.N,S:=e.R.V.S:DVal}:DArg} l).1.N;
let x2:Int:=x4+x5;
let x3:Int:=x4-x5;
let x0:DVal:=sumV (argVal {K:=e.L.K,S:=e.L.S,V:={K:=e.L.V.K,N:=e.L.V.N,S:=e.L.V.S:DVal}:DArg} l).1 (argVal {K:=e.R.K,S:=e.R.S,V:={K:=e.R.V.K,N:=e.R.V.N,S:=e.R.V.S:DVal}:DArg} l).1 x3;
let x1:DVal:=sumV (argVal {K:=e.L.K,S:=e.L.S,V:={K:=e.L.V.K,N:=e.L.V.N,S:=e.L.V.S:DVal}:DArg} l).1 (argVal {K:=e.R.K,S:=e.R.S,V:={K:=e.R.V.K,N:=e.R.V.N,S:=e.R.V.S:DVal}:DArg} l).1 x2;
bif !(argVal {K:=e.L.K,S:=e.L.S,V:={K:=e.L.V.K,N:=e.L.V.N,S:=e.L.V.S:DVal}:DArg} l).2 then Lf [DV.agg [Cell.lit (Value.int IntKind.i64 (argVal {K:=e.L.K,S:=e.L.S,V:={K:=e.L.V.K,N:=e.L.V.N,S:=e.L.V.S:DVal}:DArg} l).1.K),Cell.lit (Value.int IntKind.i64 x4),Cell.lit (Value.string (argVal {K:=e.L.K,S:=e.L.S,V:={K:=e.L.V.K,N:=e.L.V.N,S:=e.L.V.S:DVal}:DArg} l).1.S)],DV.one (Cell.lit (Value.bool (argVal {K:=e.L.K,S:=e.L.S,V:={K:=e.L.V.K,N:=e.L.V.N,S:=e.L.V.S:DVal}:DArg} l).2))] [DV.agg [Cell.lit (Value.int IntKind.i64 (compV l e).K),Cell.lit (Value.int IntKind.i64 (compV l e).N),Cell.lit (Value.string (compV l e).S)],DV.one (Cell.lit (Value.bool (compB l e)))] else bif ByteArray.toList e.Op==ByteArray.toList {data:= #[]:ByteArray} then Lf [DV.agg [Cell.lit (Value.int IntKind.i64 (argVal {K:=e.L.K,S:=e.L.S,V:={K:=e.L.V.K,N:=e.L.V.N,S:=e.L.V.S:DVal}:DArg} l).1.K),Cell.lit (Value.int IntKind.i64 x4),Cell.lit (Value.string (argVal {K:=e.L.K,S:=e.L.S,V:={K:=e.L.V.K,N:=e.L.V.N,S:=e.L.V.S:DVal}:DArg} l).1.S)],DV.one (Cell.lit (Value.bool (argVal {K:=e.L.K,S:=e.L.S,V:={K:=e.L.V.K,N:=e.L.V.N,S:=e.L.V.S:DVal}:DArg} l).2))] [DV.agg [Cell.lit (Value.int IntKind.i64 (compV l e).K),Cell.lit (Value.int IntKind.i64 (compV l e).N),Cell.lit (Value.string (compV l e).S)],DV.one (Cell.lit (Value.bool (compB l e)))] else bif (argVal {K:=e.R.K,S:=e.R.S,V:={K:=e.R.V.K,N:=e.R.V.N,S:=e.R.V.S:DVal}:DArg} l).2 then bif ByteArray.toList e.Op==ByteArray.toList {data:= #[(43:UInt8)]:ByteArray} then Lf [DV.agg [Cell.lit (Value.int IntKind.i64 x1.K),Cell.lit (Value.int IntKind.i64 x1.N),Cell.lit (Value.string x1.S)],DV.one (Cell.lit (Value.bool (sumOk (argVal {K:=e.L.K,S:=e.L.S,V:={K:=e.L.V.K,N:=e.L.V.N,S:=e.L.V.S:DVal}:DArg} l).1 (argVal {K:=e.R.K,S:=e.R.S,V:={K:=e.R.V.K,N:=e.R.V.N,S:=e.R.V.S:DVal}:DArg} l).1 x2)))] [DV.agg [Cell.lit (Value.int IntKind.i64 (compV l e).K),Cell.lit (Value.int IntKind.i64 (compV l e).N),Cell.lit (Value.string (compV l e).S)],DV.one (Cell.lit (Value.bool (compB l e)))] else bif (argVal {K:=e.R.K,S:=e.R.S,V:={K:=e.R.V.K,N:=e.R.V.N,S:=e.R.V.S:DVal}:DArg} l).2 then bif ByteArray.toList e.Op==ByteArray.toList {data:= #[(45:UInt8)]:ByteArray} then Lf [DV.agg [Cell.lit (Value.int IntKind.i64 x0.K),Cell.lit (Value.int IntKind.i64 x0.N),Cell.lit (Value.string x0.S)],DV.one (Cell.lit (Value.bool (sumOk (argVal {K:=e.L.K,S:=e.L.S,V:={K:=e.L.V.K,N:=e.L.V.N,S:=e.L.V.S:DVal}:DArg} l).1 (argVal {K:=e.R.K,S:=e.R.S,V:={K:=e.R.V.K,N:=e.R.V.N,S:=e.R.V.S:DVal}:DArg} l).1 x3)))] [DV.agg [Cell.lit (Value.int IntKind.i64 (compV l e).K),Cell.lit (Value.int IntKind.i64 (compV l e).N),Cell.lit (Value.string (compV l e).S)],DV.one (Cell.lit (Value.bool (compB l e)))] else Lf [DV.agg [Cell.lit (Value.int IntKind.i64 (0:Int)),Cell.lit (Value.int IntKind.i64 (0:Int)),Cell.lit (Value.string {data:= #[]:ByteArray})],DV.one (Cell.lit (Value.bool false))] [DV.agg [Cell.lit (Value.int IntKind.i64 (compV l e).K),Cell.lit (Value.int IntKind.i64 (compV l e).N),Cell.lit (Value.string (compV l e).S)],DV.one (Cell.lit (Value.bool (compB l e)))] else Lf [DV.agg [Cell.lit (Value.int IntKind.i64 (0:Int)),Cell.lit (Value.int IntKind.i64 (0:Int)),Cell.lit (Value.string {data:= #[]:ByteArray})],DV.one (Cell.lit (Value.bool false))] [DV.agg [Cell.lit (Value.int IntKind.i64 (compV l e).K),Cell.lit (Value.int IntKind.i64 (compV l e).N),Cell.lit (Value.string (compV l e).S)],DV.one (Cell.lit (Value.bool (compB l e)))] else bif (argVal {K:=e.R.K,S:=e.R.S,V:={K:=e.R.V.K,N:=e.R.V.N,S:=e.R.V.S:DVal}:DArg} l).2 then bif ByteArray.toList e.Op==ByteArray.toList {data:= #[(45:UInt8)]:ByteArray} then Lf [DV.agg [Cell.lit (Value.int IntKind.i64 x0.K),Cell.lit (Value.int IntKind.i64 x0.N),Cell.lit (Value.string x0.S)],DV.one (Cell.lit (Value.bool (sumOk (argVal {K:=e.L.K,S:=e.L.S,V:={K:=e.L.V.K,N:=e.L.V.N,S:=e.L.V.S:DVal}:DArg} l).1 (argVal {K:=e.R.K,S:=e.R.S,V:={K:=e.R.V.K,N:=e.R.V.N,S:=e.R.V.S:DVal}:DArg} l).1 x3)))] [DV.agg [Cell.lit (Value.int IntKind.i64 (compV l e).K),Cell.lit (Value.int IntKind.i64 (compV l e).N),Cell.lit (Value.string (compV l e).S)],DV.one (Cell.lit (Value.bool (compB l e)))] else Lf [DV.agg [Cell.lit (Value.int IntKind.i64 (0:Int)),Cell.lit (Value.int IntKind.i64 (0:Int)),Cell.lit (Value.string {data:= #[]:ByteArray})],DV.one (Cell.lit (Value.bool false))] [DV.agg [Cell.lit (Value.int IntKind.i64 (compV l e).K),Cell.lit (Value.int IntKind.i64 (compV l e).N),Cell.lit (Value.string (compV l e).S)],DV.one (Cell.lit (Value.bool (compB l e)))] else Lf [DV.agg [Cell.lit (Value.int IntKind.i64 (0:Int)),Cell.lit (Value.int IntKind.i64 (0:Int)),Cell.lit (Value.string {data:= #[]:ByteArray})],DV.one (Cell.lit (Value.bool false))] [DV.agg [Cell.lit (Value.int IntKind.i64 (compV l e).K),Cell.lit (Value.int IntKind.i64 (compV l e).N),Cell.lit (Value.string (compV l e).S)],DV.one (Cell.lit (Value.bool (compB l e)))]):=by kernel_rfl
theorem Zo230:Holds EE (230,Zk230):=by
 refine holds_of EE_ok Go.Proofs.Tryz.func230 Zk230 (by kernel_rfl) Zu230 (us_ok _) Za230 (fun x hp hb=> ?_)
 obtain⟨e,l⟩:=x
 have hz0:=bd_eExpr (x:=e) (hb _ m0)
 have hl_e_Op:=hz0.1
 have hl_e_L_S:=hz0.2.1
 have hl_e_L_V_S:=hz0.2.2.1
 have hl_e_R_S:=hz0.2.2.2.1
 have hl_e_R_V_S:=hz0.2.2.2.2
 have hl_l:l.length≤9223372036854775807:=bdL (hb _ m1)
 clear hp hb
 rw[Zv230 e l]
 dsimp only
 have eL:(⟨e.L.K,e.L.S,⟨e.L.V.K,e.L.V.N,e.L.V.S⟩⟩:DArg)=e.L:=rfl
 have eR:(⟨e.R.K,e.R.S,⟨e.R.V.K,e.R.V.N,e.R.V.S⟩⟩:DArg)=e.R:=rfl
 simp only[eL,eR,toList_beq]
 refine if_not (fun h=> ?_) (fun h=>if_dec (fun h1=> ?_) (fun h1=> ?_))
 ·have e1:compute e l=(zVal,false):=if_pos h
  exact LfV ((argVal_no h).trans (congrArg Prod.fst e1).symm) (h.trans (congrArg Prod.snd e1).symm)
 all_goals have h0:¬(argVal e.L l).2=false:=by rw[h];decide
 ·have e1:compute e l=((argVal e.L l).1,true):=(if_neg h0).trans (if_pos h1)
  exact LfV (congrArg Prod.fst e1).symm (h.trans (congrArg Prod.snd e1).symm)
 cases h2:(argVal e.R l).2
 ·have e1:compute e l=(zVal,false):=(if_neg h0).trans ((if_neg h1).trans (if_pos h2))
  exact LfV (a:=zVal) (congrArg Prod.fst e1).symm (congrArg Prod.snd e1).symm
 ·have h5:¬(argVal e.R l).2=false:=by rw[h2];decide
  simp only[cond_true]
  refine if_dec (fun h3=> ?_) (fun h3=>if_dec (fun h4=> ?_) (fun h4=> ?_))
  ·have e1:compute e l=_:=(if_neg h0).trans ((if_neg h1).trans ((if_neg h5).trans (if_pos h3)))
   exact LfV (congrArg Prod.fst e1).symm (congrArg Prod.snd e1).symm
  ·have e1:compute e l=_:=(if_neg h0).trans ((if_neg h1).trans ((if_neg h5).trans ((if_neg h3).trans (if_pos h4))))
   exact LfV (congrArg Prod.fst e1).symm (congrArg Prod.snd e1).symm
  ·have e1:compute e l=(zVal,false):=(if_neg h0).trans ((if_neg h1).trans ((if_neg h5).trans ((if_neg h3).trans (if_neg h4))))
   exact LfV (a:=zVal) (congrArg Prod.fst e1).symm (congrArg Prod.snd e1).symm
def Zh230:HH:=⟨_,Zo230⟩
def Zk145:Con UU where
 α:=(List DExpr)×(List DBind)
 md:=[.ro,.ro]
 of:=oC (oL .eExpr) (o1 (oL .eBind))
 ds:=fun x=>[dL .eExpr x.1,dL .eBind x.2]
 pre:=fun(es,l)=>[es.length≤4294967295]
 res:=fun(es,l)=>⟨[.one (.sl .eVal (compsV es l)),.one (.lit (.bool (compsB es l)))],true,[]⟩
 law:=lC (lL .eExpr) (l1 (lL .eBind))
def Zi145_3(es:(List DExpr))(l:(List DBind)):List DVal×Int×Unit→Prop:=fun(o,i,_)=>0≤i∧i≤es.length∧o=(es.take i.toNat).map (compV l)∧(es.drop i.toNat).all (compB l)=es.all (compB l)
def Zm145_3(es:(List DExpr))(l:(List DBind)):List DVal×Int×Unit→Nat:=fun(o,i,_)=>es.length-i.toNat
def Za145:Zk145.α→Nat→Option (Ann UU):=fun(es,l)=>annL [(3,annOf [.slot 6 (6,1024) (.own .eVal true),.slot 7 (7,1024) (.lit (.int .i64))] (fun _=>Zi145_3 es l) (Zm145_3 es l))]
def Zu145:=us [Zh195]
theorem Zv145(es:(List DExpr))(l:(List DBind)):goal EE Zu145 Go.Proofs.Tryz.f145 Zk145 Za145 (es,l)=(Zi145_3 es l ([],(0:Int),())∧
 ∀(y:List DVal×Int×PUnit),
  let x2:Nat:=Int.toNat y.2.1;
  let x1:DExpr:=List.getD es x2 zExpr;
  let x0:List DVal:=[compV l x1];
  Zi145_3 es l y→bif decide (y.2.1<(↑(List.length es):Int)) then(0:Int)≤y.2.1∧x2<List.length es∧bif !compB l x1 then Lf [DV.one (Cell.sl Cd.eVal []),DV.one (Cell.lit (Value.bool false))] [DV.one (Cell.sl Cd.eVal (compsV es l)),DV.one (Cell.lit (Value.bool (compsB es l)))] else List.length y.1+List.length x0≤(4294967296:Nat)∧Zi145_3 es l (y.1++x0,IntKind.wrap IntKind.i64 (y.2.1+(1:Int)),PUnit.unit)∧Zm145_3 es l (y.1++x0,IntKind.wrap IntKind.i64 (y.2.1+(1:Int)),PUnit.unit)<Zm145_3 es l y else Lf [DV.one (Cell.sl Cd.eVal y.1),DV.one (Cell.lit (Value.bool true))] [DV.one (Cell.sl Cd.eVal (compsV es l)),DV.one (Cell.lit (Value.bool (compsB es l)))]):=by kernel_rfl
theorem Zo145:Holds EE (145,Zk145):=by
 refine holds_of EE_ok Go.Proofs.Tryz.func145 Zk145 (by kernel_rfl) Zu145 (us_ok _) Za145 (fun x hp hb=> ?_)
 obtain⟨es,l⟩:=x
 have hl_es:es.length≤9223372036854775807:=bdL (hb _ m0)
 have hl_l:l.length≤9223372036854775807:=bdL (hb _ m1)
 have hp0:es.length≤4294967295:=hp _ m0
 clear hp hb
 rw[Zv145 es l]
 dsimp only
 refine⟨⟨by omega,by omega,by simp,rfl⟩,?_⟩
 rintro⟨o,i,⟨⟩⟩ ⟨h1,h2,rfl,hR⟩
 dsimp only
 refine if_dec (fun hc=> ?_) (fun hc=> ?_)
 ·rw[all_step _ _ zExpr h1 hc] at hR
  refine⟨by omega,by omega,if_not (fun g=> ?_) (fun g=> ?_)⟩
  ·have hf:compsB es l=false:=by rw[compsB,←hR,show compB l (List.getD es i.toNat zExpr)=false from g];rfl
   exact LfVS (by rw[compsV,if_neg (by rw[hf];decide)];rfl) hf.symm
  ·rw[show compB l (List.getD es i.toNat zExpr)=true from g,Bool.true_and] at hR
   have hm:(es.take i.toNat).map (compV l)++[compV l (List.getD es i.toNat zExpr)]=(es.take (i+1).toNat).map (compV l):=by rw[←take_step es zExpr h1 hc,List.map_append];rfl
   rw[wrap_i64 (by omega) (by omega)]
   exact⟨by simp only[List.length_map,List.length_take,List.length_cons,List.length_nil];omega,⟨by omega,by omega,hm,hR⟩,by simp only[Zm145_3];omega⟩
 ·have e:es.drop i.toNat=[]:=List.drop_eq_nil_of_le (by omega)
  rw[e] at hR
  have hf:compsB es l=true:=hR.symm
  rw[take_all es (by omega)]
  exact LfVS (by rw[compsV,if_pos hf]) hf.symm
def Zh145:HH:=⟨_,Zo145⟩
def Zk196:Con UU where
 α:=(List DExpr)×(List DBind)
 md:=[.ro,.ro]
 of:=oC (oL .eExpr) (o1 (oL .eBind))
 ds:=fun x=>[dL .eExpr x.1,dL .eBind x.2]
 pre:=fun(es,l)=>[es.length≤4294967295]
 res:=fun(es,l)=>⟨[.one (.sl .eVal (compsV es l)),.one (.lit (.bool (compsB es l)))],true,[]⟩
 law:=lC (lL .eExpr) (l1 (lL .eBind))
def Zi196_3(es:(List DExpr))(l:(List DBind)):List DVal×Int×Unit→Prop:=fun(o,i,_)=>0≤i∧i≤es.length∧o=(es.take i.toNat).map (compV l)∧(es.drop i.toNat).all (compB l)=es.all (compB l)
def Zm196_3(es:(List DExpr))(l:(List DBind)):List DVal×Int×Unit→Nat:=fun(o,i,_)=>es.length-i.toNat
def Za196:Zk196.α→Nat→Option (Ann UU):=fun(es,l)=>annL [(3,annOf [.slot 6 (6,1024) (.own .eVal true),.slot 13 (13,1024) (.lit (.int .i64))] (fun _=>Zi196_3 es l) (Zm196_3 es l))]
def Zu196:=us [Zh230]
theorem Zv196(es:(List DExpr))(l:(List DBind)):goal EE Zu196 Go.Proofs.Tryz.f196 Zk196 Za196 (es,l)=(Zi196_3 es l ([],(0:Int),())∧
 ∀(y:List DVal×Int×PUnit),
  let x2:Nat:=Int.toNat y.2.1;
  let x1:DExpr:=List.getD es x2 zExpr;
  let x0:List DVal:=[compV l x1];
  Zi196_3 es l y→bif decide (y.2.1<(↑(List.length es):Int)) then(0:Int)≤y.2.1∧x2<List.length es∧bif !compB l x1 then Lf [DV.one (Cell.sl Cd.eVal []),DV.one (Cell.lit (Value.bool false))] [DV.one (Cell.sl Cd.eVal (compsV es l)),DV.one (Cell.lit (Value.bool (compsB es l)))] else List.length y.1+List.length x0≤(4294967296:Nat)∧Zi196_3 es l (y.1++x0,IntKind.wrap IntKind.i64 (y.2.1+(1:Int)),PUnit.unit)∧Zm196_3 es l (y.1++x0,IntKind.wrap IntKind.i64 (y.2.1+(1:Int)),PUnit.unit)<Zm196_3 es l y else Lf [DV.one (Cell.sl Cd.eVal y.1),DV.one (Cell.lit (Value.bool true))] [DV.one (Cell.sl Cd.eVal (compsV es l)),DV.one (Cell.lit (Value.bool (compsB es l)))]):=by kernel_rfl
theorem Zo196:Holds EE (196,Zk196):=by
 refine holds_of EE_ok Go.Proofs.Tryz.func196 Zk196 (by kernel_rfl) Zu196 (us_ok _) Za196 (fun x hp hb=> ?_)
 obtain⟨es,l⟩:=x
 have hl_es:es.length≤9223372036854775807:=bdL (hb _ m0)
 have hl_l:l.length≤9223372036854775807:=bdL (hb _ m1)
 have hp0:es.length≤4294967295:=hp _ m0
 clear hp hb
 rw[Zv196 es l]
 dsimp only
 refine⟨⟨by omega,by omega,by simp,rfl⟩,?_⟩
 rintro⟨o,i,⟨⟩⟩ ⟨h1,h2,rfl,hR⟩
 dsimp only
 refine if_dec (fun hc=> ?_) (fun hc=> ?_)
 ·rw[all_step _ _ zExpr h1 hc] at hR
  refine⟨by omega,by omega,if_not (fun g=> ?_) (fun g=> ?_)⟩
  ·have hf:compsB es l=false:=by rw[compsB,←hR,show compB l (List.getD es i.toNat zExpr)=false from g];rfl
   exact LfVS (by rw[compsV,if_neg (by rw[hf];decide)];rfl) hf.symm
  ·rw[show compB l (List.getD es i.toNat zExpr)=true from g,Bool.true_and] at hR
   have hm:(es.take i.toNat).map (compV l)++[compV l (List.getD es i.toNat zExpr)]=(es.take (i+1).toNat).map (compV l):=by rw[←take_step es zExpr h1 hc,List.map_append];rfl
   rw[wrap_i64 (by omega) (by omega)]
   exact⟨by simp only[List.length_map,List.length_take,List.length_cons,List.length_nil];omega,⟨by omega,by omega,hm,hR⟩,by simp only[Zm196_3];omega⟩
 ·have e:es.drop i.toNat=[]:=List.drop_eq_nil_of_le (by omega)
  rw[e] at hR
  have hf:compsB es l=true:=hR.symm
  rw[take_all es (by omega)]
  exact LfVS (by rw[compsV,if_pos hf]) hf.symm
def Zh196:HH:=⟨_,Zo196⟩
def bareF(f:DFact):Bool:=decide (f.Kind=noBytes)&&decide (f.Fields.length=0)
def effectOk(e:DEffect):Bool:=
 bif decide (e.Kind=1) then factOk e.F&&decide (e.Id=0)&&decide (e.N=0)&&decide (e.Undo=noBytes)
 else bif decide (e.Kind=2) then bareF e.F&&decide (1≤e.Id)&&decide (e.N=0)&&decide (e.Undo=noBytes)
 else bif decide (e.Kind=3) then factOk e.F&&decide (e.Id=0)&&decide (e.N=0)&&undoOk e.Undo
 else bif decide (e.Kind=4) then factOk e.F&&decide (e.Id=0)&&decide (0≤e.N∧e.N≤100000)&&decide (e.Undo=noBytes)
 else bif decide (e.Kind=5)||decide (e.Kind=6) then bareF e.F&&decide (e.Id=0)&&decide (e.N=0)&&decide (e.Undo=noBytes) else false
def effS(m:DMatch)(a:DAct):DEffect:=if a.Kind=2 then⟨a.Kind,zFact,List.getD m.Ids a.N.toNat 0,0,a.Undo⟩ else⟨a.Kind,⟨a.Name,compsV a.Args m.Binds⟩,0,if a.Kind=4 then a.N else 0,a.Undo⟩
def okS(m:DMatch)(a:DAct):Bool:=(decide (a.Kind=2)||compsB a.Args m.Binds)&&effectOk (effS m a)
def calcA(a:DAct):Bool:=decide (a.Kind=1)||decide (a.Kind=3)||decide (a.Kind=4)
def effI(m:DMatch)(a:DAct):DEffect:=if a.Kind=2 then⟨a.Kind,zFact,List.getD m.Ids a.N.toNat 0,0,noBytes⟩ else if calcA a then(if compsB a.Args m.Binds then⟨a.Kind,⟨a.Name,compsV a.Args m.Binds⟩,0,a.N,a.Undo⟩ else zEffect) else⟨a.Kind,zFact,0,0,noBytes⟩
def okI(m:DMatch)(a:DAct):Bool:=(!calcA a||compsB a.Args m.Binds)&&effectOk (effI m a)
theorem act_same{m:DMatch}{a:DAct}(h:actOk a=true):okI m a=okS m a∧(okS m a=true→effI m a=effS m a):=by
 obtain⟨K,Nm,As,N,U⟩:=a
 by_cases h1:K=1
 ·subst h1
  simp only[actOk,decide_true,cond_true,Bool.and_eq_true,decide_eq_true_eq] at h
  obtain⟨⟨⟨a1,a2⟩,rfl⟩,rfl⟩:=h
  cases hc:compsB As m.Binds<;>simp[okI,okS,effI,effS,calcA,hc]
 by_cases h2:K=2
 ·subst h2
  simp only[actOk,bareA,show¬((2:Int)=1) by decide,decide_false,cond_false,decide_true,cond_true,Bool.and_eq_true,decide_eq_true_eq] at h
  obtain⟨⟨⟨a1,a2⟩,rfl⟩,a3⟩:=h
  simp[okI,okS,effI,effS,calcA]
 by_cases h3:K=3
 ·subst h3
  simp only[actOk,show¬((3:Int)=1) by decide,show¬((3:Int)=2) by decide,decide_false,cond_false,decide_true,cond_true,Bool.and_eq_true,decide_eq_true_eq] at h
  obtain⟨⟨⟨a1,a2⟩,rfl⟩,a3⟩:=h
  cases hc:compsB As m.Binds<;>simp[okI,okS,effI,effS,calcA,hc]
 by_cases h4:K=4
 ·subst h4
  cases hc:compsB As m.Binds<;>simp[okI,okS,effI,effS,calcA,hc]
 ·have hb:Nm=noBytes∧As.length=0∧U=noBytes∧N=0:=by
   simp only[actOk,bareA] at h
   grind
  obtain⟨rfl,ha,rfl,rfl⟩:=hb
  have ha:As=[]:=List.eq_nil_of_length_eq_zero ha
  subst ha
  have hc:compsB [] m.Binds=true:=rfl
  have hv:compsV [] m.Binds=[]:=rfl
  simp[okI,okS,effI,effS,calcA,hc,hv,h1,h2,h3,h4,zFact]
def actsOf(d:DDef)(m:DMatch):List DAct:=(List.getD d.Rules m.Rule.toNat zRule).Acts
def mayE(d:DDef)(m:DMatch):Bool:=hasR d m&&decide (m.Ids.length=posN (List.getD d.Rules m.Rule.toNat zRule).Pats)
def effOk(d:DDef)(m:DMatch):Bool:=defOk d&&mayE d m&&(actsOf d m).all (okS m)
def effs(d:DDef)(m:DMatch):List DEffect:=if effOk d m then(actsOf d m).map (effS m) else[]
theorem rule_of{d:DDef}{m:DMatch}(h:defOk d=true)(h2:hasR d m=true):ruleOk (List.getD d.Rules m.Rule.toNat zRule)=true:=by
 obtain⟨r1,r2⟩:=hasR_iff h2
 simp only[defOk,Bool.and_eq_true,allI_all] at h
 have:=h.2 m.Rule.toNat (by omega)
 simp only[defAtR,Bool.and_eq_true] at this
 exact this.1
theorem acts_of{d:DDef}{m:DMatch}(h:defOk d=true)(h2:mayE d m=true):(actsOf d m).length≤6∧∀i:Int,0≤i→i<(actsOf d m).length→actOk (List.getD (actsOf d m) i.toNat zAct)=true∧((List.getD (actsOf d m) i.toNat zAct).Kind=2→0≤(List.getD (actsOf d m) i.toNat zAct).N∧(List.getD (actsOf d m) i.toNat zAct).N<m.Ids.length):=by
 simp only[mayE,Bool.and_eq_true,decide_eq_true_eq] at h2
 have hr:=rule_of h h2.1
 simp only[ruleOk,actsIn,Bool.and_eq_true,decide_eq_true_eq] at hr
 obtain⟨⟨_,_⟩,⟨⟨_,hl⟩,ha⟩⟩:=hr
 refine⟨hl,fun i h0 hi=> ?_⟩
 rw[List.all_eq_true] at ha
 have hm:List.getD (actsOf d m) i.toNat zAct∈actsOf d m:=by rw[List.getD_eq_getElem?_getD,List.getElem?_eq_getElem (by omega)];exact List.getElem_mem _
 have hk:=ha _ hm
 generalize List.getD (actsOf d m) i.toNat zAct=a at*
 simp only[actIn,Bool.and_eq_true] at hk
 refine⟨hk.1.1,fun e=> ?_⟩
 have hd:=hk.1.2
 have hp:=hk.1.1
 simp only[dropIn,e,decide_true,Bool.true_and,Bool.not_eq_true',decide_eq_false_iff_not] at hd
 simp only[actOk,e,show¬((2:Int)=1) by decide,decide_false,cond_false,decide_true,cond_true,Bool.and_eq_true,decide_eq_true_eq] at hp
 omega
theorem LfE{a a':DEffect}{b b':Bool}(h1:a=a')(h2:b=b'):Lf [.agg [.lit (.int .i64 a.Kind),.lit (.string a.F.Kind),.sl .eVal a.F.Fields,.lit (.int .i64 a.Id),.lit (.int .i64 a.N),.lit (.string a.Undo)],.one (.lit (.bool b))] [.agg [.lit (.int .i64 a'.Kind),.lit (.string a'.F.Kind),.sl .eVal a'.F.Fields,.lit (.int .i64 a'.Id),.lit (.int .i64 a'.N),.lit (.string a'.Undo)],.one (.lit (.bool b'))]:=by
 subst h1 h2;exact Lf_rfl _
theorem LfES{a a':List DEffect}{b b':Bool}(h1:a=a')(h2:b=b'):Lf [.one (.sl .eEffect a),.one (.lit (.bool b))] [.one (.sl .eEffect a'),.one (.lit (.bool b'))]:=by
 subst h1 h2;exact Lf_rfl _
def Zk144:Con UU where
 α:=DEffect
 md:=[.ro]
 of:=o1 (oA .eEffect)
 ds:=fun x=>[dA .eEffect x]
 pre:=fun _=>[]
 res:=fun e=>⟨[.one (.lit (.bool (effectOk e)))],true,[]⟩
 law:=l1 (lA .eEffect)
def Za144:Zk144.α→Nat→Option (Ann UU):=fun e=>annL []
def Zu144:=us [Zh104,Zh71,Zh40]
theorem Zv144(e:DEffect):goal EE Zu144 Go.Proofs.Tryz.f144 Zk144 Za144 e=(let x0:Bool:=e.Kind==(5:Int);
let x1:Bool:=ByteArray.toList e.Undo==ByteArray.toList {data:= #[]:ByteArray};
let x2:Bool:=e.Id==(0:Int);
let x3:Bool:=(↑(List.length e.F.Fields):Int)==(0:Int);
bif ByteArray.toList e.F.Kind==ByteArray.toList {data:= #[]:ByteArray} then bif e.Kind==(1:Int) then bif factOk e.F then bif x2 then bif e.N==(0:Int) then Lf [DV.one (Cell.lit (Value.bool x1))] [DV.one (Cell.lit (Value.bool (effectOk e)))] else Lf [DV.one (Cell.lit (Value.bool false))] [DV.one (Cell.lit (Value.bool (effectOk e)))] else Lf [DV.one (Cell.lit (Value.bool false))] [DV.one (Cell.lit (Value.bool (effectOk e)))] else Lf [DV.one (Cell.lit (Value.bool false))] [DV.one (Cell.lit (Value.bool (effectOk e)))] else bif e.Kind==(3:Int) then bif factOk e.F then bif x2 then bif e.N==(0:Int) then bif x1 then Lf [DV.one (Cell.lit (Value.bool true))] [DV.one (Cell.lit (Value.bool (effectOk e)))] else Lf [DV.one (Cell.lit (Value.bool (nameOk e.Undo)))] [DV.one (Cell.lit (Value.bool (effectOk e)))] else Lf [DV.one (Cell.lit (Value.bool false))] [DV.one (Cell.lit (Value.bool (effectOk e)))] else Lf [DV.one (Cell.lit (Value.bool false))] [DV.one (Cell.lit (Value.bool (effectOk e)))] else Lf [DV.one (Cell.lit (Value.bool false))] [DV.one (Cell.lit (Value.bool (effectOk e)))] else bif e.Kind==(4:Int) then bif factOk e.F then bif x2 then bif decide ((0:Int)≤e.N∧e.N≤(100000:Int)) then Lf [DV.one (Cell.lit (Value.bool x1))] [DV.one (Cell.lit (Value.bool (effectOk e)))] else Lf [DV.one (Cell.lit (Value.bool false))] [DV.one (Cell.lit (Value.bool (effectOk e)))] else Lf [DV.one (Cell.lit (Value.bool false))] [DV.one (Cell.lit (Value.bool (effectOk e)))] else Lf [DV.one (Cell.lit (Value.bool false))] [DV.one (Cell.lit (Value.bool (effectOk e)))] else bif e.Kind==(2:Int) then bif x3 then bif decide (e.Id≥(1:Int)) then bif e.N==(0:Int) then Lf [DV.one (Cell.lit (Value.bool x1))] [DV.one (Cell.lit (Value.bool (effectOk e)))] else Lf [DV.one (Cell.lit (Value.bool false))] [DV.one (Cell.lit (Value.bool (effectOk e)))] else Lf [DV.one (Cell.lit (Value.bool false))] [DV.one (Cell.lit (Value.bool (effectOk e)))] else Lf [DV.one (Cell.lit (Value.bool false))] [DV.one (Cell.lit (Value.bool (effectOk e)))] else bif x0 then bif x0 then bif x3 then bif x2 then bif e.N==(0:Int) then Lf [DV.one (Cell.lit (Value.bool x1))] [DV.one (Cell.lit (Value.bool (effectOk e)))] else Lf [DV.one (Cell.lit (Value.bool false))] [DV.one (Cell.lit (Value.bool (effectOk e)))] else Lf [DV.one (Cell.lit (Value.bool false))] [DV.one (Cell.lit (Value.bool (effectOk e)))] else Lf [DV.one (Cell.lit (Value.bool false))] [DV.one (Cell.lit (Value.bool (effectOk e)))] else Lf [DV.one (Cell.lit (Value.bool false))] [DV.one (Cell.lit (Value.bool (effectOk e)))] else bif e.Kind==(6:Int) then bif x3 then bif x2 then bif e.N==(0:Int) then Lf [DV.one (Cell.lit (Value.bool x1))] [DV.one (Cell.lit (Value.bool (effectOk e)))] else Lf [DV.one (Cell.lit (Value.bool false))] [DV.one (Cell.lit (Value.bool (effectOk e)))] else Lf [DV.one (Cell.lit (Value.bool false))] [DV.one (Cell.lit (Value.bool (effectOk e)))] else Lf [DV.one (Cell.lit (Value.bool false))] [DV.one (Cell.lit (Value.bool (effectOk e)))] else Lf [DV.one (Cell.lit (Value.bool false))] [DV.one (Cell.lit (Value.bool (effectOk e)))] else bif e.Kind==(1:Int) then bif factOk e.F then bif x2 then bif e.N==(0:Int) then Lf [DV.one (Cell.lit (Value.bool x1))] [DV.one (Cell.lit (Value.bool (effectOk e)))] else Lf [DV.one (Cell.lit (Value.bool false))] [DV.one (Cell.lit (Value.bool (effectOk e)))] else Lf [DV.one (Cell.lit (Value.bool false))] [DV.one (Cell.lit (Value.bool (effectOk e)))] else Lf [DV.one (Cell.lit (Value.bool false))] [DV.one (Cell.lit (Value.bool (effectOk e)))] else bif e.Kind==(3:Int) then bif factOk e.F then bif x2 then bif e.N==(0:Int) then bif x1 then Lf [DV.one (Cell.lit (Value.bool true))] [DV.one (Cell.lit (Value.bool (effectOk e)))] else Lf [DV.one (Cell.lit (Value.bool (nameOk e.Undo)))] [DV.one (Cell.lit (Value.bool (effectOk e)))] else Lf [DV.one (Cell.lit (Value.bool false))] [DV.one (Cell.lit (Value.bool (effectOk e)))] else Lf [DV.one (Cell.lit (Value.bool false))] [DV.one (Cell.lit (Value.bool (effectOk e)))] else Lf [DV.one (Cell.lit (Value.bool false))] [DV.one (Cell.lit (Value.bool (effectOk e)))] else bif e.Kind==(4:Int) then bif factOk e.F then bif x2 then bif decide ((0:Int)≤e.N∧e.N≤(100000:Int)) then Lf [DV.one (Cell.lit (Value.bool x1))] [DV.one (Cell.lit (Value.bool (effectOk e)))] else Lf [DV.one (Cell.lit (Value.bool false))] [DV.one (Cell.lit (Value.bool (effectOk e)))] else Lf [DV.one (Cell.lit (Value.bool false))] [DV.one (Cell.lit (Value.bool (effectOk e)))] else Lf [DV.one (Cell.lit (Value.bool false))] [DV.one (Cell.lit (Value.bool (effectOk e)))] else bif e.Kind==(2:Int) then Lf [DV.one (Cell.lit (Value.bool false))] [DV.one (Cell.lit (Value.bool (effectOk e)))] else bif x0 then bif x0 then Lf [DV.one (Cell.lit (Value.bool false))] [DV.one (Cell.lit (Value.bool (effectOk e)))] else Lf [DV.one (Cell.lit (Value.bool false))] [DV.one (Cell.lit (Value.bool (effectOk e)))] else bif e.Kind==(6:Int) then Lf [DV.one (Cell.lit (Value.bool false))] [DV.one (Cell.lit (Value.bool (effectOk e)))] else Lf [DV.one (Cell.lit (Value.bool false))] [DV.one (Cell.lit (Value.bool (effectOk e)))]):=by kernel_rfl
theorem Zo144:Holds EE (144,Zk144):=by
 refine holds_of EE_ok Go.Proofs.Tryz.func144 Zk144 (by kernel_rfl) Zu144 (us_ok _) Za144 (fun(e:DEffect) hp hb=> ?_)
 have hz0:=bd_eEffect (x:=e) (hb _ m0)
 have hl_e_F_Kind:=hz0.1
 have hl_e_F_Fields:=hz0.2.1
 have hl_e_Undo:=hz0.2.2
 clear hp hb
 rw[Zv144 e]
 dsimp only
 have e1:∀s:ByteArray,(ByteArray.toList s==ByteArray.toList {data:= #[]})=decide (s=noBytes):=fun s=>toList_beq _ _
 have e2:((e.F.Fields.length:Int)==0)=decide (e.F.Fields.length=0):=by rw[Bool.eq_iff_iff];simp
 simp only[e1,e2,effectOk,bareF,undoOk]
 repeat' (refine if_cond (fun h=> ?_) (fun h=> ?_))
 all_goals (refine Lf_b ?_;grind)
def Zh144:HH:=⟨_,Zo144⟩
def Zk197:Con UU where
 α:=DEffect
 md:=[.ro]
 of:=o1 (oA .eEffect)
 ds:=fun x=>[dA .eEffect x]
 pre:=fun _=>[]
 res:=fun e=>⟨[.one (.lit (.bool (effectOk e)))],true,[]⟩
 law:=l1 (lA .eEffect)
def Za197:Zk197.α→Nat→Option (Ann UU):=fun e=>annL []
def Zu197:=us [Zh117,Zh184,Zh56]
theorem Zv197(e:DEffect):goal EE Zu197 Go.Proofs.Tryz.f197 Zk197 Za197 e=(let x0:Bool:=e.Kind==(5:Int);
let x1:Bool:=e.Id==(0:Int);
let x2:Bool:=(↑(List.length e.F.Fields):Int)==(0:Int);
bif ByteArray.toList e.F.Kind==ByteArray.toList {data:= #[]:ByteArray} then bif e.Kind==(1:Int) then bif factOk e.F then bif x1 then bif e.N==(0:Int) then Lf [DV.one (Cell.lit (Value.bool (ByteArray.toList e.Undo==ByteArray.toList {data:= #[]:ByteArray})))] [DV.one (Cell.lit (Value.bool (effectOk e)))] else Lf [DV.one (Cell.lit (Value.bool false))] [DV.one (Cell.lit (Value.bool (effectOk e)))] else Lf [DV.one (Cell.lit (Value.bool false))] [DV.one (Cell.lit (Value.bool (effectOk e)))] else Lf [DV.one (Cell.lit (Value.bool false))] [DV.one (Cell.lit (Value.bool (effectOk e)))] else bif e.Kind==(2:Int) then bif x2 then bif decide (e.Id≥(1:Int)) then bif e.N==(0:Int) then Lf [DV.one (Cell.lit (Value.bool (ByteArray.toList e.Undo==ByteArray.toList {data:= #[]:ByteArray})))] [DV.one (Cell.lit (Value.bool (effectOk e)))] else Lf [DV.one (Cell.lit (Value.bool false))] [DV.one (Cell.lit (Value.bool (effectOk e)))] else Lf [DV.one (Cell.lit (Value.bool false))] [DV.one (Cell.lit (Value.bool (effectOk e)))] else Lf [DV.one (Cell.lit (Value.bool false))] [DV.one (Cell.lit (Value.bool (effectOk e)))] else bif e.Kind==(3:Int) then bif factOk e.F then bif x1 then bif e.N==(0:Int) then Lf [DV.one (Cell.lit (Value.bool (undoOk e.Undo)))] [DV.one (Cell.lit (Value.bool (effectOk e)))] else Lf [DV.one (Cell.lit (Value.bool false))] [DV.one (Cell.lit (Value.bool (effectOk e)))] else Lf [DV.one (Cell.lit (Value.bool false))] [DV.one (Cell.lit (Value.bool (effectOk e)))] else Lf [DV.one (Cell.lit (Value.bool false))] [DV.one (Cell.lit (Value.bool (effectOk e)))] else bif e.Kind==(4:Int) then bif factOk e.F then bif x1 then bif decide ((0:Int)≤e.N∧e.N≤(100000:Int)) then Lf [DV.one (Cell.lit (Value.bool (ByteArray.toList e.Undo==ByteArray.toList {data:= #[]:ByteArray})))] [DV.one (Cell.lit (Value.bool (effectOk e)))] else Lf [DV.one (Cell.lit (Value.bool false))] [DV.one (Cell.lit (Value.bool (effectOk e)))] else Lf [DV.one (Cell.lit (Value.bool false))] [DV.one (Cell.lit (Value.bool (effectOk e)))] else Lf [DV.one (Cell.lit (Value.bool false))] [DV.one (Cell.lit (Value.bool (effectOk e)))] else bif x0 then bif x0 then bif x2 then bif x1 then bif e.N==(0:Int) then Lf [DV.one (Cell.lit (Value.bool (ByteArray.toList e.Undo==ByteArray.toList {data:= #[]:ByteArray})))] [DV.one (Cell.lit (Value.bool (effectOk e)))] else Lf [DV.one (Cell.lit (Value.bool false))] [DV.one (Cell.lit (Value.bool (effectOk e)))] else Lf [DV.one (Cell.lit (Value.bool false))] [DV.one (Cell.lit (Value.bool (effectOk e)))] else Lf [DV.one (Cell.lit (Value.bool false))] [DV.one (Cell.lit (Value.bool (effectOk e)))] else Lf [DV.one (Cell.lit (Value.bool false))] [DV.one (Cell.lit (Value.bool (effectOk e)))] else bif e.Kind==(6:Int) then bif x2 then bif x1 then bif e.N==(0:Int) then Lf [DV.one (Cell.lit (Value.bool (ByteArray.toList e.Undo==ByteArray.toList {data:= #[]:ByteArray})))] [DV.one (Cell.lit (Value.bool (effectOk e)))] else Lf [DV.one (Cell.lit (Value.bool false))] [DV.one (Cell.lit (Value.bool (effectOk e)))] else Lf [DV.one (Cell.lit (Value.bool false))] [DV.one (Cell.lit (Value.bool (effectOk e)))] else Lf [DV.one (Cell.lit (Value.bool false))] [DV.one (Cell.lit (Value.bool (effectOk e)))] else Lf [DV.one (Cell.lit (Value.bool false))] [DV.one (Cell.lit (Value.bool (effectOk e)))] else bif e.Kind==(1:Int) then bif factOk e.F then bif x1 then bif e.N==(0:Int) then Lf [DV.one (Cell.lit (Value.bool (ByteArray.toList e.Undo==ByteArray.toList {data:= #[]:ByteArray})))] [DV.one (Cell.lit (Value.bool (effectOk e)))] else Lf [DV.one (Cell.lit (Value.bool false))] [DV.one (Cell.lit (Value.bool (effectOk e)))] else Lf [DV.one (Cell.lit (Value.bool false))] [DV.one (Cell.lit (Value.bool (effectOk e)))] else Lf [DV.one (Cell.lit (Value.bool false))] [DV.one (Cell.lit (Value.bool (effectOk e)))] else bif e.Kind==(2:Int) then Lf [DV.one (Cell.lit (Value.bool false))] [DV.one (Cell.lit (Value.bool (effectOk e)))] else bif e.Kind==(3:Int) then bif factOk e.F then bif x1 then bif e.N==(0:Int) then Lf [DV.one (Cell.lit (Value.bool (undoOk e.Undo)))] [DV.one (Cell.lit (Value.bool (effectOk e)))] else Lf [DV.one (Cell.lit (Value.bool false))] [DV.one (Cell.lit (Value.bool (effectOk e)))] else Lf [DV.one (Cell.lit (Value.bool false))] [DV.one (Cell.lit (Value.bool (effectOk e)))] else Lf [DV.one (Cell.lit (Value.bool false))] [DV.one (Cell.lit (Value.bool (effectOk e)))] else bif e.Kind==(4:Int) then bif factOk e.F then bif x1 then bif decide ((0:Int)≤e.N∧e.N≤(100000:Int)) then Lf [DV.one (Cell.lit (Value.bool (ByteArray.toList e.Undo==ByteArray.toList {data:= #[]:ByteArray})))] [DV.one (Cell.lit (Value.bool (effectOk e)))] else Lf [DV.one (Cell.lit (Value.bool false))] [DV.one (Cell.lit (Value.bool (effectOk e)))] else Lf [DV.one (Cell.lit (Value.bool false))] [DV.one (Cell.lit (Value.bool (effectOk e)))] else Lf [DV.one (Cell.lit (Value.bool false))] [DV.one (Cell.lit (Value.bool (effectOk e)))] else bif x0 then bif x0 then Lf [DV.one (Cell.lit (Value.bool false))] [DV.one (Cell.lit (Value.bool (effectOk e)))] else Lf [DV.one (Cell.lit (Value.bool false))] [DV.one (Cell.lit (Value.bool (effectOk e)))] else bif e.Kind==(6:Int) then Lf [DV.one (Cell.lit (Value.bool false))] [DV.one (Cell.lit (Value.bool (effectOk e)))] else Lf [DV.one (Cell.lit (Value.bool false))] [DV.one (Cell.lit (Value.bool (effectOk e)))]):=by kernel_rfl
theorem Zo197:Holds EE (197,Zk197):=by
 refine holds_of EE_ok Go.Proofs.Tryz.func197 Zk197 (by kernel_rfl) Zu197 (us_ok _) Za197 (fun(e:DEffect) hp hb=> ?_)
 have hz0:=bd_eEffect (x:=e) (hb _ m0)
 have hl_e_F_Kind:=hz0.1
 have hl_e_F_Fields:=hz0.2.1
 have hl_e_Undo:=hz0.2.2
 clear hp hb
 rw[Zv197 e]
 dsimp only
 have e1:∀s:ByteArray,(ByteArray.toList s==ByteArray.toList {data:= #[]})=decide (s=noBytes):=fun s=>toList_beq _ _
 have e2:((e.F.Fields.length:Int)==0)=decide (e.F.Fields.length=0):=by rw[Bool.eq_iff_iff];simp
 simp only[e1,e2,effectOk,bareF,undoOk]
 repeat' (refine if_cond (fun h=> ?_) (fun h=> ?_))
 all_goals (refine Lf_b ?_;grind)
def Zh197:HH:=⟨_,Zo197⟩
def Zk84:Con UU where
 α:=DAct×DMatch
 md:=[.ro,.ro]
 of:=oC (oA .eAct) (o1 (oA .eMatch))
 ds:=fun x=>[dA .eAct x.1,dA .eMatch x.2]
 pre:=fun(a,m)=>[a.Kind=2→0≤a.N∧a.N<m.Ids.length,a.Args.length≤4294967295]
 res:=fun(a,m)=>⟨[.agg [.lit (.int .i64 ((effS m a)).Kind),.lit (.string (((effS m a)).F).Kind),.sl .eVal (((effS m a)).F).Fields,.lit (.int .i64 ((effS m a)).Id),.lit (.int .i64 ((effS m a)).N),.lit (.string ((effS m a)).Undo)],.one (.lit (.bool (okS m a)))],true,[]⟩
 law:=lC (lA .eAct) (l1 (lA .eMatch))
def Za84:Zk84.α→Nat→Option (Ann UU):=fun(a,m)=>annL []
def Zu84:=us [Zh144,Zh145]
theorem Zv84(a:DAct)(m:DMatch):goal EE Zu84 Go.Proofs.Tryz.f84 Zk84 Za84 (a,m)=(bif a.Kind==(2:Int) then(0:Int)≤a.N∧a.N.toNat<m.Ids.length∧Lf [DV.agg [Cell.lit (Value.int IntKind.i64 a.Kind),Cell.lit (Value.string {data:= #[]:ByteArray}),Cell.sl Cd.eVal [],Cell.lit (Value.int IntKind.i64 (List.getD m.Ids a.N.toNat (0:Int))),Cell.lit (Value.int IntKind.i64 (0:Int)),Cell.lit (Value.string a.Undo)],DV.one (Cell.lit (Value.bool (effectOk {Kind:=a.Kind,F:={Kind:={data:= #[]:ByteArray},Fields:=[]:DFact},Id:=List.getD m.Ids a.N.toNat (0:Int),N:=(0:Int),Undo:=a.Undo:DEffect})))] [DV.agg [Cell.lit (Value.int IntKind.i64 (effS m a).Kind),Cell.lit (Value.string (effS m a).F.Kind),Cell.sl Cd.eVal (effS m a).F.Fields,Cell.lit (Value.int IntKind.i64 (effS m a).Id),Cell.lit (Value.int IntKind.i64 (effS m a).N),Cell.lit (Value.string (effS m a).Undo)],DV.one (Cell.lit (Value.bool (okS m a)))] else bif a.Kind==(4:Int) then a.Args.length≤(4294967295:Nat)∧bif compsB a.Args m.Binds then Lf [DV.agg [Cell.lit (Value.int IntKind.i64 a.Kind),Cell.lit (Value.string a.Name),Cell.sl Cd.eVal (compsV a.Args m.Binds),Cell.lit (Value.int IntKind.i64 (0:Int)),Cell.lit (Value.int IntKind.i64 a.N),Cell.lit (Value.string a.Undo)],DV.one (Cell.lit (Value.bool (effectOk {Kind:=a.Kind,F:={Kind:=a.Name,Fields:=compsV a.Args m.Binds:DFact},Id:=(0:Int),N:=a.N,Undo:=a.Undo:DEffect})))] [DV.agg [Cell.lit (Value.int IntKind.i64 (effS m a).Kind),Cell.lit (Value.string (effS m a).F.Kind),Cell.sl Cd.eVal (effS m a).F.Fields,Cell.lit (Value.int IntKind.i64 (effS m a).Id),Cell.lit (Value.int IntKind.i64 (effS m a).N),Cell.lit (Value.string (effS m a).Undo)],DV.one (Cell.lit (Value.bool (okS m a)))] else Lf [DV.agg [Cell.lit (Value.int IntKind.i64 a.Kind),Cell.lit (Value.string a.Name),Cell.sl Cd.eVal (compsV a.Args m.Binds),Cell.lit (Value.int IntKind.i64 (0:Int)),Cell.lit (Value.int IntKind.i64 a.N),Cell.lit (Value.string a.Undo)],DV.one (Cell.lit (Value.bool false))] [DV.agg [Cell.lit (Value.int IntKind.i64 (effS m a).Kind),Cell.lit (Value.string (effS m a).F.Kind),Cell.sl Cd.eVal (effS m a).F.Fields,Cell.lit (Value.int IntKind.i64 (effS m a).Id),Cell.lit (Value.int IntKind.i64 (effS m a).N),Cell.lit (Value.string (effS m a).Undo)],DV.one (Cell.lit (Value.bool (okS m a)))] else a.Args.length≤(4294967295:Nat)∧bif compsB a.Args m.Binds then Lf [DV.agg [Cell.lit (Value.int IntKind.i64 a.Kind),Cell.lit (Value.string a.Name),Cell.sl Cd.eVal (compsV a.Args m.Binds),Cell.lit (Value.int IntKind.i64 (0:Int)),Cell.lit (Value.int IntKind.i64 (0:Int)),Cell.lit (Value.string a.Undo)],DV.one (Cell.lit (Value.bool (effectOk {Kind:=a.Kind,F:={Kind:=a.Name,Fields:=compsV a.Args m.Binds:DFact},Id:=(0:Int),N:=(0:Int),Undo:=a.Undo:DEffect})))] [DV.agg [Cell.lit (Value.int IntKind.i64 (effS m a).Kind),Cell.lit (Value.string (effS m a).F.Kind),Cell.sl Cd.eVal (effS m a).F.Fields,Cell.lit (Value.int IntKind.i64 (effS m a).Id),Cell.lit (Value.int IntKind.i64 (effS m a).N),Cell.lit (Value.string (effS m a).Undo)],DV.one (Cell.lit (Value.bool (okS m a)))] else Lf [DV.agg [Cell.lit (Value.int IntKind.i64 a.Kind),Cell.lit (Value.string a.Name),Cell.sl Cd.eVal (compsV a.Args m.Binds),Cell.lit (Value.int IntKind.i64 (0:Int)),Cell.lit (Value.int IntKind.i64 (0:Int)),Cell.lit (Value.string a.Undo)],DV.one (Cell.lit (Value.bool false))] [DV.agg [Cell.lit (Value.int IntKind.i64 (effS m a).Kind),Cell.lit (Value.string (effS m a).F.Kind),Cell.sl Cd.eVal (effS m a).F.Fields,Cell.lit (Value.int IntKind.i64 (effS m a).Id),Cell.lit (Value.int IntKind.i64 (effS m a).N),Cell.lit (Value.string (effS m a).Undo)],DV.one (Cell.lit (Value.bool (okS m a)))]):=by kernel_rfl
theorem Zo84:Holds EE (84,Zk84):=by
 refine holds_of EE_ok Go.Proofs.Tryz.func84 Zk84 (by kernel_rfl) Zu84 (us_ok _) Za84 (fun x hp hb=> ?_)
 obtain⟨a,m⟩:=x
 have hz0:=bd_eAct (x:=a) (hb _ m0)
 have hl_a_Name:=hz0.1
 have hl_a_Args:=hz0.2.1
 have hl_a_Undo:=hz0.2.2
 have hz1:=bd_eMatch (x:=m) (hb _ m1)
 have hl_m_Ids:=hz1.1
 have hl_m_Binds:=hz1.2
 have hp0:a.Kind=2→0≤a.N∧a.N<m.Ids.length:=hp _ m0
 have hp1:a.Args.length≤4294967295:=hp _ m1
 clear hp hb
 rw[Zv84 a m]
 refine if_num (fun h=> ?_) (fun h=>if_num (fun h4=>⟨hp1,if_cond (fun g=> ?_) (fun g=> ?_)⟩) (fun h4=>⟨hp1,if_cond (fun g=> ?_) (fun g=> ?_)⟩))
 ·have e:effS m a=⟨a.Kind,zFact,List.getD m.Ids a.N.toNat 0,0,a.Undo⟩:=if_pos h
  exact⟨(hp0 h).1,by have:=hp0 h;omega,LfE (a:=⟨a.Kind,zFact,List.getD m.Ids a.N.toNat 0,0,a.Undo⟩) e.symm (by simp only[okS,decide_eq_true h,Bool.true_or,Bool.true_and,e];rfl)⟩
 all_goals have e0:effS m a=⟨a.Kind,⟨a.Name,compsV a.Args m.Binds⟩,0,if a.Kind=4 then a.N else 0,a.Undo⟩:=if_neg h
 all_goals first|rw[if_pos h4] at e0|rw[if_neg h4] at e0
 ·exact LfE (a:=⟨a.Kind,⟨a.Name,compsV a.Args m.Binds⟩,0,a.N,a.Undo⟩) e0.symm (by simp only[okS,decide_eq_false h,show compsB a.Args m.Binds=true from g,Bool.or_true,Bool.true_and,e0])
 ·exact LfE (a:=⟨a.Kind,⟨a.Name,compsV a.Args m.Binds⟩,0,a.N,a.Undo⟩) e0.symm (by simp only[okS,decide_eq_false h,show compsB a.Args m.Binds=false from g,Bool.or_false,Bool.false_and])
 ·exact LfE (a:=⟨a.Kind,⟨a.Name,compsV a.Args m.Binds⟩,0,0,a.Undo⟩) e0.symm (by simp only[okS,decide_eq_false h,show compsB a.Args m.Binds=true from g,Bool.or_true,Bool.true_and,e0])
 ·exact LfE (a:=⟨a.Kind,⟨a.Name,compsV a.Args m.Binds⟩,0,0,a.Undo⟩) e0.symm (by simp only[okS,decide_eq_false h,show compsB a.Args m.Binds=false from g,Bool.or_false,Bool.false_and])
def Zh84:HH:=⟨_,Zo84⟩
def Zk147:Con UU where
 α:=DAct×DMatch
 md:=[.ro,.ro]
 of:=oC (oA .eAct) (o1 (oA .eMatch))
 ds:=fun x=>[dA .eAct x.1,dA .eMatch x.2]
 pre:=fun(a,m)=>[a.Kind=2→0≤a.N∧a.N<m.Ids.length,a.Args.length≤4294967295]
 res:=fun(a,m)=>⟨[.agg [.lit (.int .i64 ((effI m a)).Kind),.lit (.string (((effI m a)).F).Kind),.sl .eVal (((effI m a)).F).Fields,.lit (.int .i64 ((effI m a)).Id),.lit (.int .i64 ((effI m a)).N),.lit (.string ((effI m a)).Undo)],.one (.lit (.bool (okI m a)))],true,[]⟩
 law:=lC (lA .eAct) (l1 (lA .eMatch))
def Za147:Zk147.α→Nat→Option (Ann UU):=fun(a,m)=>annL []
def Zu147:=us [Zh197,Zh196]
theorem Zv147(a:DAct)(m:DMatch):goal EE Zu147 Go.Proofs.Tryz.f147 Zk147 Za147 (a,m)=(let x0:ByteArray:={data:= #[]:ByteArray};
bif a.Kind==(2:Int) then(0:Int)≤a.N∧Int.toNat a.N<List.length m.Ids∧Lf [DV.agg [Cell.lit (Value.int IntKind.i64 a.Kind),Cell.lit (Value.string x0),Cell.sl Cd.eVal [],Cell.lit (Value.int IntKind.i64 (List.getD m.Ids (Int.toNat a.N) (0:Int))),Cell.lit (Value.int IntKind.i64 (0:Int)),Cell.lit (Value.string x0)],DV.one (Cell.lit (Value.bool (effectOk {Kind:=a.Kind,F:={Kind:=x0,Fields:=[]:DFact},Id:=List.getD m.Ids (Int.toNat a.N) (0:Int),N:=(0:Int),Undo:=x0:DEffect})))] [DV.agg [Cell.lit (Value.int IntKind.i64 (effI m a).Kind),Cell.lit (Value.string (effI m a).F.Kind),Cell.sl Cd.eVal (effI m a).F.Fields,Cell.lit (Value.int IntKind.i64 (effI m a).Id),Cell.lit (Value.int IntKind.i64 (effI m a).N),Cell.lit (Value.string (effI m a).Undo)],DV.one (Cell.lit (Value.bool (okI m a)))] else bif a.Kind==(1:Int) then bif a.Kind==(1:Int) then List.length a.Args≤(4294967295:Nat)∧bif !compsB a.Args m.Binds then Lf [DV.agg [Cell.lit (Value.int IntKind.i64 (0:Int)),Cell.lit (Value.string x0),Cell.sl Cd.eVal [],Cell.lit (Value.int IntKind.i64 (0:Int)),Cell.lit (Value.int IntKind.i64 (0:Int)),Cell.lit (Value.string x0)],DV.one (Cell.lit (Value.bool false))] [DV.agg [Cell.lit (Value.int IntKind.i64 (effI m a).Kind),Cell.lit (Value.string (effI m a).F.Kind),Cell.sl Cd.eVal (effI m a).F.Fields,Cell.lit (Value.int IntKind.i64 (effI m a).Id),Cell.lit (Value.int IntKind.i64 (effI m a).N),Cell.lit (Value.string (effI m a).Undo)],DV.one (Cell.lit (Value.bool (okI m a)))] else Lf [DV.agg [Cell.lit (Value.int IntKind.i64 a.Kind),Cell.lit (Value.string a.Name),Cell.sl Cd.eVal (compsV a.Args m.Binds),Cell.lit (Value.int IntKind.i64 (0:Int)),Cell.lit (Value.int IntKind.i64 a.N),Cell.lit (Value.string a.Undo)],DV.one (Cell.lit (Value.bool (effectOk {Kind:=a.Kind,F:={Kind:=a.Name,Fields:=compsV a.Args m.Binds:DFact},Id:=(0:Int),N:=a.N,Undo:=a.Undo:DEffect})))] [DV.agg [Cell.lit (Value.int IntKind.i64 (effI m a).Kind),Cell.lit (Value.string (effI m a).F.Kind),Cell.sl Cd.eVal (effI m a).F.Fields,Cell.lit (Value.int IntKind.i64 (effI m a).Id),Cell.lit (Value.int IntKind.i64 (effI m a).N),Cell.lit (Value.string (effI m a).Undo)],DV.one (Cell.lit (Value.bool (okI m a)))] else Lf [DV.agg [Cell.lit (Value.int IntKind.i64 a.Kind),Cell.lit (Value.string x0),Cell.sl Cd.eVal [],Cell.lit (Value.int IntKind.i64 (0:Int)),Cell.lit (Value.int IntKind.i64 (0:Int)),Cell.lit (Value.string x0)],DV.one (Cell.lit (Value.bool (effectOk {Kind:=a.Kind,F:={Kind:=x0,Fields:=[]:DFact},Id:=(0:Int),N:=(0:Int),Undo:=x0:DEffect})))] [DV.agg [Cell.lit (Value.int IntKind.i64 (effI m a).Kind),Cell.lit (Value.string (effI m a).F.Kind),Cell.sl Cd.eVal (effI m a).F.Fields,Cell.lit (Value.int IntKind.i64 (effI m a).Id),Cell.lit (Value.int IntKind.i64 (effI m a).N),Cell.lit (Value.string (effI m a).Undo)],DV.one (Cell.lit (Value.bool (okI m a)))] else bif a.Kind==(3:Int) then bif a.Kind==(3:Int) then List.length a.Args≤(4294967295:Nat)∧bif !compsB a.Args m.Binds then Lf [DV.agg [Cell.lit (Value.int IntKind.i64 (0:Int)),Cell.lit (Value.string x0),Cell.sl Cd.eVal [],Cell.lit (Value.int IntKind.i64 (0:Int)),Cell.lit (Value.int IntKind.i64 (0:Int)),Cell.lit (Value.string x0)],DV.one (Cell.lit (Value.bool false))] [DV.agg [Cell.lit (Value.int IntKind.i64 (effI m a).Kind),Cell.lit (Value.string (effI m a).F.Kind),Cell.sl Cd.eVal (effI m a).F.Fields,Cell.lit (Value.int IntKind.i64 (effI m a).Id),Cell.lit (Value.int IntKind.i64 (effI m a).N),Cell.lit (Value.string (effI m a).Undo)],DV.one (Cell.lit (Value.bool (okI m a)))] else Lf [DV.agg [Cell.lit (Value.int IntKind.i64 a.Kind),Cell.lit (Value.string a.Name),Cell.sl Cd.eVal (compsV a.Args m.Binds),Cell.lit (Value.int IntKind.i64 (0:Int)),Cell.lit (Value.int IntKind.i64 a.N),Cell.lit (Value.string a.Undo)],DV.one (Cell.lit (Value.bool (effectOk {Kind:=a.Kind,F:={Kind:=a.Name,Fields:=compsV a.Args m.Binds:DFact},Id:=(0:Int),N:=a.N,Undo:=a.Undo:DEffect})))] [DV.agg [Cell.lit (Value.int IntKind.i64 (effI m a).Kind),Cell.lit (Value.string (effI m a).F.Kind),Cell.sl Cd.eVal (effI m a).F.Fields,Cell.lit (Value.int IntKind.i64 (effI m a).Id),Cell.lit (Value.int IntKind.i64 (effI m a).N),Cell.lit (Value.string (effI m a).Undo)],DV.one (Cell.lit (Value.bool (okI m a)))] else Lf [DV.agg [Cell.lit (Value.int IntKind.i64 a.Kind),Cell.lit (Value.string x0),Cell.sl Cd.eVal [],Cell.lit (Value.int IntKind.i64 (0:Int)),Cell.lit (Value.int IntKind.i64 (0:Int)),Cell.lit (Value.string x0)],DV.one (Cell.lit (Value.bool (effectOk {Kind:=a.Kind,F:={Kind:=x0,Fields:=[]:DFact},Id:=(0:Int),N:=(0:Int),Undo:=x0:DEffect})))] [DV.agg [Cell.lit (Value.int IntKind.i64 (effI m a).Kind),Cell.lit (Value.string (effI m a).F.Kind),Cell.sl Cd.eVal (effI m a).F.Fields,Cell.lit (Value.int IntKind.i64 (effI m a).Id),Cell.lit (Value.int IntKind.i64 (effI m a).N),Cell.lit (Value.string (effI m a).Undo)],DV.one (Cell.lit (Value.bool (okI m a)))] else bif a.Kind==(4:Int) then List.length a.Args≤(4294967295:Nat)∧bif !compsB a.Args m.Binds then Lf [DV.agg [Cell.lit (Value.int IntKind.i64 (0:Int)),Cell.lit (Value.string x0),Cell.sl Cd.eVal [],Cell.lit (Value.int IntKind.i64 (0:Int)),Cell.lit (Value.int IntKind.i64 (0:Int)),Cell.lit (Value.string x0)],DV.one (Cell.lit (Value.bool false))] [DV.agg [Cell.lit (Value.int IntKind.i64 (effI m a).Kind),Cell.lit (Value.string (effI m a).F.Kind),Cell.sl Cd.eVal (effI m a).F.Fields,Cell.lit (Value.int IntKind.i64 (effI m a).Id),Cell.lit (Value.int IntKind.i64 (effI m a).N),Cell.lit (Value.string (effI m a).Undo)],DV.one (Cell.lit (Value.bool (okI m a)))] else Lf [DV.agg [Cell.lit (Value.int IntKind.i64 a.Kind),Cell.lit (Value.string a.Name),Cell.sl Cd.eVal (compsV a.Args m.Binds),Cell.lit (Value.int IntKind.i64 (0:Int)),Cell.lit (Value.int IntKind.i64 a.N),Cell.lit (Value.string a.Undo)],DV.one (Cell.lit (Value.bool (effectOk {Kind:=a.Kind,F:={Kind:=a.Name,Fields:=compsV a.Args m.Binds:DFact},Id:=(0:Int),N:=a.N,Undo:=a.Undo:DEffect})))] [DV.agg [Cell.lit (Value.int IntKind.i64 (effI m a).Kind),Cell.lit (Value.string (effI m a).F.Kind),Cell.sl Cd.eVal (effI m a).F.Fields,Cell.lit (Value.int IntKind.i64 (effI m a).Id),Cell.lit (Value.int IntKind.i64 (effI m a).N),Cell.lit (Value.string (effI m a).Undo)],DV.one (Cell.lit (Value.bool (okI m a)))] else Lf [DV.agg [Cell.lit (Value.int IntKind.i64 a.Kind),Cell.lit (Value.string x0),Cell.sl Cd.eVal [],Cell.lit (Value.int IntKind.i64 (0:Int)),Cell.lit (Value.int IntKind.i64 (0:Int)),Cell.lit (Value.string x0)],DV.one (Cell.lit (Value.bool (effectOk {Kind:=a.Kind,F:={Kind:=x0,Fields:=[]:DFact},Id:=(0:Int),N:=(0:Int),Undo:=x0:DEffect})))] [DV.agg [Cell.lit (Value.int IntKind.i64 (effI m a).Kind),Cell.lit (Value.string (effI m a).F.Kind),Cell.sl Cd.eVal (effI m a).F.Fields,Cell.lit (Value.int IntKind.i64 (effI m a).Id),Cell.lit (Value.int IntKind.i64 (effI m a).N),Cell.lit (Value.string (effI m a).Undo)],DV.one (Cell.lit (Value.bool (okI m a)))]):=by kernel_rfl
theorem Zo147:Holds EE (147,Zk147):=by
 refine holds_of EE_ok Go.Proofs.Tryz.func147 Zk147 (by kernel_rfl) Zu147 (us_ok _) Za147 (fun x hp hb=> ?_)
 obtain⟨a,m⟩:=x
 have hz0:=bd_eAct (x:=a) (hb _ m0)
 have hl_a_Name:=hz0.1
 have hl_a_Args:=hz0.2.1
 have hl_a_Undo:=hz0.2.2
 have hz1:=bd_eMatch (x:=m) (hb _ m1)
 have hl_m_Ids:=hz1.1
 have hl_m_Binds:=hz1.2
 have hp0:a.Kind=2→0≤a.N∧a.N<m.Ids.length:=hp _ m0
 have hp1:a.Args.length≤4294967295:=hp _ m1
 clear hp hb
 rw[Zv147 a m]
 dsimp only
 have hb:∀n:Int,a.Kind=n→(a.Kind==n)=true:=fun n h=>by rw[h];exact beq_self_eq_true n
 have hn:∀n:Int,¬a.Kind=n→(a.Kind==n)=false:=fun n h=>by rw[beq_eq_false_iff_ne];exact h
 by_cases h2:a.Kind=2
 ·have e:effI m a=⟨a.Kind,zFact,List.getD m.Ids a.N.toNat 0,0,noBytes⟩:=if_pos h2
  have hc:calcA a=false:=by simp[calcA,h2]
  simp only[hb 2 h2,cond_true]
  exact⟨(hp0 h2).1,by have:=hp0 h2;omega,LfE (a:=⟨a.Kind,zFact,List.getD m.Ids a.N.toNat 0,0,noBytes⟩) e.symm (by simp only[okI,hc,Bool.not_false,Bool.true_or,Bool.true_and,e];rfl)⟩
 have hN:calcA a=true→compsB a.Args m.Binds=false→effI m a=zEffect∧okI m a=false:=fun hc g=>⟨(if_neg h2).trans ((if_pos hc).trans (if_neg (by rw[g];decide))),by simp only[okI,hc,g];rfl⟩
 have hY:calcA a=true→compsB a.Args m.Binds=true→effI m a=⟨a.Kind,⟨a.Name,compsV a.Args m.Binds⟩,0,a.N,a.Undo⟩∧okI m a=effectOk ⟨a.Kind,⟨a.Name,compsV a.Args m.Binds⟩,0,a.N,a.Undo⟩:=fun hc g=>by
  have e:effI m a=⟨a.Kind,⟨a.Name,compsV a.Args m.Binds⟩,0,a.N,a.Undo⟩:=(if_neg h2).trans ((if_pos hc).trans (if_pos g))
  exact⟨e,by simp only[okI,hc,g,e];rfl⟩
 have fin:calcA a=true→a.Args.length≤4294967295∧bif !compsB a.Args m.Binds then Lf [.agg [.lit (.int .i64 0),.lit (.string ⟨#[]⟩),.sl .eVal [],.lit (.int .i64 0),.lit (.int .i64 0),.lit (.string ⟨#[]⟩)],.one (.lit (.bool false))] [.agg [.lit (.int .i64 (effI m a).Kind),.lit (.string (effI m a).F.Kind),.sl .eVal (effI m a).F.Fields,.lit (.int .i64 (effI m a).Id),.lit (.int .i64 (effI m a).N),.lit (.string (effI m a).Undo)],.one (.lit (.bool (okI m a)))] else Lf [.agg [.lit (.int .i64 a.Kind),.lit (.string a.Name),.sl .eVal (compsV a.Args m.Binds),.lit (.int .i64 0),.lit (.int .i64 a.N),.lit (.string a.Undo)],.one (.lit (.bool (effectOk ⟨a.Kind,⟨a.Name,compsV a.Args m.Binds⟩,0,a.N,a.Undo⟩)))] [.agg [.lit (.int .i64 (effI m a).Kind),.lit (.string (effI m a).F.Kind),.sl .eVal (effI m a).F.Fields,.lit (.int .i64 (effI m a).Id),.lit (.int .i64 (effI m a).N),.lit (.string (effI m a).Undo)],.one (.lit (.bool (okI m a)))]:=fun hc=>
  ⟨hp1,if_not (fun g=>LfE (a:=zEffect) (hN hc g).1.symm (hN hc g).2.symm) (fun g=>LfE (a:=⟨a.Kind,⟨a.Name,compsV a.Args m.Binds⟩,0,a.N,a.Undo⟩) (hY hc g).1.symm (hY hc g).2.symm)⟩
 by_cases h1:a.Kind=1
 ·simp only[hn 2 h2,hb 1 h1,cond_true,cond_false]
  exact fin (by simp[calcA,h1])
 by_cases h3:a.Kind=3
 ·simp only[hn 2 h2,hn 1 h1,hb 3 h3,cond_true,cond_false]
  exact fin (by simp[calcA,h3])
 by_cases h4:a.Kind=4
 ·simp only[hn 2 h2,hn 1 h1,hn 3 h3,hb 4 h4,cond_true,cond_false]
  exact fin (by simp[calcA,h4])
 have hc:calcA a=false:=by simp[calcA,h1,h3,h4]
 have e:effI m a=⟨a.Kind,zFact,0,0,noBytes⟩:=(if_neg h2).trans (if_neg (by rw[hc];decide))
 simp only[hn 2 h2,hn 1 h1,hn 3 h3,hn 4 h4,cond_true,cond_false]
 exact LfE (a:=⟨a.Kind,zFact,0,0,noBytes⟩) e.symm (by simp only[okI,hc,Bool.not_false,Bool.true_or,Bool.true_and,e];rfl)
def Zh147:HH:=⟨_,Zo147⟩
theorem eff_no{d:DDef}{m:DMatch}(h:effOk d m=false):Lf [.one (.sl .eEffect []),.one (.lit (.bool false))] [.one (.sl .eEffect (effs d m)),.one (.lit (.bool (effOk d m)))]:=
 LfES (by rw[effs,h];rfl) h.symm
theorem eff_no1{d:DDef}{m:DMatch}(h:mayE d m=false):effOk d m=false:=by rw[effOk,h];simp
theorem eff_all{d:DDef}{m:DMatch}(h:(actsOf d m).all (okS m)=false):effOk d m=false:=by rw[effOk,h];simp
theorem act_args{d:DDef}{m:DMatch}(h:hasR d m=true){i:Int}(h1:0≤i)(h2:i<(actsOf d m).length):(List.getD (actsOf d m) i.toNat zAct).Args.length≤sizeDef d:=by
 obtain⟨r1,r2⟩:=hasR_iff h
 have hs:=sum_getD_le sizeRule d.Rules zRule r1 r2
 have ht:=sum_getD_le sizeAct (actsOf d m) zAct h1 h2
 have e:(List.getD d.Rules m.Rule.toNat zRule).Acts=actsOf d m:=rfl
 simp only[sizeRule,e] at hs
 simp only[sizeAct,sizeExprS] at ht
 have e2:sizeActS (actsOf d m)=(actsOf d m).length+((actsOf d m).map sizeAct).sum:=rfl
 simp only[sizeDef,sizeRuleS]
 omega
def Zk20:Con UU where
 α:=DDef×DMatch
 md:=[.ro,.ro]
 of:=oC (oA .eDef) (o1 (oA .eMatch))
 ds:=fun x=>[dA .eDef x.1,dA .eMatch x.2]
 pre:=fun(d,m)=>[sizeDef d≤4294967295]
 res:=fun(d,m)=>⟨[.one (.sl .eEffect (effs d m)),.one (.lit (.bool (effOk d m)))],true,[]⟩
 law:=lC (lA .eDef) (l1 (lA .eMatch))
def Zi20_6(d:DDef)(m:DMatch):List DEffect×Int×(ByteArray×List DRule×Unit)×(Int×List Int×List DBind×Unit)×Unit→Prop:=fun(o,i,b,g,_)=>b=(d.Name,d.Rules,())∧g=(m.Rule,m.Ids,m.Binds,())∧mayE d m=true∧0≤i∧i≤(actsOf d m).length∧o=((actsOf d m).take i.toNat).map (effS m)∧((actsOf d m).drop i.toNat).all (okS m)=(actsOf d m).all (okS m)
def Zm20_6(d:DDef)(m:DMatch):List DEffect×Int×(ByteArray×List DRule×Unit)×(Int×List Int×List DBind×Unit)×Unit→Nat:=fun(o,i,b,g,_)=>(actsOf d m).length-i.toNat
def Za20:Zk20.α→Nat→Option (Ann UU):=fun(d,m)=>annL [(6,annOf [.slot 6 (6,1024) (.own .eEffect true),.slot 8 (8,1024) (.lit (.int .i64)),.box 2 (2,1024) [.lit .str,.shr .eRule],.box 3 (3,1024) [.lit (.int .i64),.shr .int,.shr .eBind]] (fun _=>Zi20_6 d m) (Zm20_6 d m))]
def Zu20:=us [Zh35,Zh82,Zh83,Zh84]
theorem Zv20(d:DDef)(m:DMatch):goal EE Zu20 Go.Proofs.Tryz.f20 Zk20 Za20 (d,m)=(let x0:List DAct:=(List.getD d.Rules m.Rule.toNat zRule).Acts;
sizeDef d≤(4294967295:Nat)∧
 bif !defOk d then Lf [DV.one (Cell.sl Cd.eEffect []),DV.one (Cell.lit (Value.bool false))] [DV.one (Cell.sl Cd.eEffect (effs d m)),DV.one (Cell.lit (Value.bool (effOk d m)))]
 else
  bif !hasR d m then Lf [DV.one (Cell.sl Cd.eEffect []),DV.one (Cell.lit (Value.bool false))] [DV.one (Cell.sl Cd.eEffect (effs d m)),DV.one (Cell.lit (Value.bool (effOk d m)))]
  else
   (0:Int)≤m.Rule∧
    Int.toNat m.Rule<List.length d.Rules∧
     bif (↑(List.length m.Ids):Int) !=(↑(posN (List.getD d.Rules (Int.toNat m.Rule) zRule).Pats):Int) then Lf [DV.one (Cell.sl Cd.eEffect []),DV.one (Cell.lit (Value.bool false))] [DV.one (Cell.sl Cd.eEffect (effs d m)),DV.one (Cell.lit (Value.bool (effOk d m)))]
     else
      (0:Int)≤m.Rule∧
       Int.toNat m.Rule<List.length d.Rules∧
        Zi20_6 d m ([],(0:Int),(d.Name,d.Rules,PUnit.unit),(m.Rule,m.Ids,m.Binds,PUnit.unit),PUnit.unit)∧
         ∀(y:List DEffect×Int×(ByteArray×List DRule×PUnit)×(Int×List Int×List DBind×PUnit)×PUnit),
          let x2:DMatch:={Rule:=y.2.2.2.1.1,Ids:=y.2.2.2.1.2.1,Binds:=y.2.2.2.1.2.2.1:DMatch};
          let x4:Nat:=Int.toNat y.2.1;
          let x3:DAct:=List.getD x0 x4 zAct;
          let x1:List DEffect:=[effS x2 x3];
          Zi20_6 d m y→bif decide (y.2.1<(↑(List.length x0):Int)) then(0:Int)≤y.2.1∧x4<List.length x0∧(x3.Kind=(2:Int)→(0:Int)≤x3.N∧x3.N<(↑(List.length y.2.2.2.1.2.1):Int))∧List.length x3.Args≤(4294967295:Nat)∧bif !okS x2 x3 then Lf [DV.one (Cell.sl Cd.eEffect []),DV.one (Cell.lit (Value.bool false))] [DV.one (Cell.sl Cd.eEffect (effs d m)),DV.one (Cell.lit (Value.bool (effOk d m)))] else List.length y.1+List.length x1≤(4294967296:Nat)∧Zi20_6 d m (y.1++x1,IntKind.wrap IntKind.i64 (y.2.1+(1:Int)),(y.2.2.1.1,y.2.2.1.2.1,PUnit.unit),(y.2.2.2.1.1,y.2.2.2.1.2.1,y.2.2.2.1.2.2.1,PUnit.unit),PUnit.unit)∧Zm20_6 d m (y.1++x1,IntKind.wrap IntKind.i64 (y.2.1+(1:Int)),(y.2.2.1.1,y.2.2.1.2.1,PUnit.unit),(y.2.2.2.1.1,y.2.2.2.1.2.1,y.2.2.2.1.2.2.1,PUnit.unit),PUnit.unit)<Zm20_6 d m y else Lf [DV.one (Cell.sl Cd.eEffect y.1),DV.one (Cell.lit (Value.bool true))] [DV.one (Cell.sl Cd.eEffect (effs d m)),DV.one (Cell.lit (Value.bool (effOk d m)))]):=by kernel_rfl
theorem Zo20:Holds EE (20,Zk20):=by
 refine holds_of EE_ok Go.Proofs.Tryz.func20 Zk20 (by kernel_rfl) Zu20 (us_ok _) Za20 (fun x hp hb=> ?_)
 obtain⟨d,m⟩:=x
 have hz0:=bd_eDef (x:=d) (hb _ m0)
 have hl_d_Name:=hz0.1
 have hl_d_Rules:=hz0.2
 have hz1:=bd_eMatch (x:=m) (hb _ m1)
 have hl_m_Ids:=hz1.1
 have hl_m_Binds:=hz1.2
 have hp0:sizeDef d≤4294967295:=hp _ m0
 clear hp hb
 rw[Zv20 d m]
 dsimp only
 refine⟨hp0,if_not (fun h=>eff_no (by rw[effOk,show defOk d=false from h];rfl)) (fun hd=>if_not (fun h=>eff_no (eff_no1 (by rw[mayE,show hasR d m=false from h];rfl))) (fun hr=> ?_))⟩
 obtain⟨r1,r2⟩:=hasR_iff hr
 refine⟨r1,by omega,if_neq (fun h=>eff_no (eff_no1 (by rw[mayE,decide_eq_false (show¬m.Ids.length=posN (List.getD d.Rules m.Rule.toNat zRule).Pats by omega)];simp))) (fun hl=> ?_)⟩
 have hmay:mayE d m=true:=by rw[mayE,show hasR d m=true from hr,decide_eq_true (show m.Ids.length=posN (List.getD d.Rules m.Rule.toNat zRule).Pats by omega)];rfl
 obtain⟨ha1,ha2⟩:=acts_of hd hmay
 refine⟨r1,by omega,⟨rfl,rfl,hmay,by omega,by omega,by simp,rfl⟩,?_⟩
 rintro⟨o,i,⟨b1,b2,⟨⟩⟩,⟨g1,g2,g3,⟨⟩⟩,⟨⟩⟩ ⟨hb,hg,-,h1,h2,rfl,hR⟩
 cases hb
 cases hg
 have hx:(List.getD d.Rules m.Rule.toNat zRule).Acts=actsOf d m:=rfl
 simp only[hx]
 refine if_dec (fun hc=> ?_) (fun hc=> ?_)
 ·obtain⟨a1,a2⟩:=ha2 i h1 hc
  have has:=act_args hr h1 hc
  rw[all_step _ _ zAct h1 hc] at hR
  refine⟨h1,by omega,a2,by omega,if_not (fun g=> ?_) (fun g=> ?_)⟩
  ·exact eff_no (eff_all (by rw[←hR,show okS m (List.getD (actsOf d m) i.toNat zAct)=false from g];rfl))
  ·have g':okS m (List.getD (actsOf d m) i.toNat zAct)=true:=g
   rw[g',Bool.true_and] at hR
   have hm:((actsOf d m).take i.toNat).map (effS m)++[effS m (List.getD (actsOf d m) i.toNat zAct)]=((actsOf d m).take (i+1).toNat).map (effS m):=by rw[←take_step (actsOf d m) zAct h1 hc,List.map_append];rfl
   rw[wrap_i64 (by omega) (by omega)]
   exact⟨by simp only[List.length_map,List.length_take,List.length_cons,List.length_nil];omega,⟨rfl,rfl,hmay,by omega,by omega,hm,hR⟩,by simp only[Zm20_6];omega⟩
 ·have e:(actsOf d m).drop i.toNat=[]:=List.drop_eq_nil_of_le (by omega)
  rw[e] at hR
  have hf:effOk d m=true:=by rw[effOk,hmay,←hR,show defOk d=true from hd];rfl
  rw[take_all (actsOf d m) (by omega)]
  exact LfES (by rw[effs,if_pos hf]) hf.symm
def Zh20:HH:=⟨_,Zo20⟩
end
end AM
