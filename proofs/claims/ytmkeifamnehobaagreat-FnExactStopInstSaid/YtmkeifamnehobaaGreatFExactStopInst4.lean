/- Functions of the program with their contracts: put together by gen/link.py for FnExactStopInst. -/
import Derived.Test.YtmkeifamnehobaaGreatAmLib
import Derived.Test.YtmkeifamnehobaaGreatFExactStopInst3
namespace AM
open Go
set_option linter.unusedVariables false
set_option linter.unusedSimpArgs false
set_option maxRecDepth 100000
noncomputable section
def Zk156:Con UU where
 α:=DInst×Int
 md:=[.box true,.ro]
 of:=oC (oX .eInst) (o1 oI)
 ds:=fun x=>[dX .eInst x.1,dI x.2]
 pre:=fun(x,state)=>[tasksOk x.Tasks=true]
 res:=fun(x,state)=>⟨[],true,[.box [.sl .eItem (((endI x state)).S).Items,.lit (.int .i64 (((endI x state)).S).Next),.sl .eMatch ((endI x state)).Fired,.sl .eTask ((endI x state)).Tasks,.sl .eTimer ((endI x state)).Timers,.sl .eUndo ((endI x state)).Undos,.lit (.int .i64 ((endI x state)).State),.lit (.int .i64 ((endI x state)).Now)]]⟩
 law:=lC (lX .eInst) (l1 lI)
def Za156:Zk156.α→Nat→Option (Ann UU):=fun(x,state)=>annL []
def Zu156:=us [Zh86]
theorem Zv156(x:DInst)(state:Int):goal EE Zu156 Go.Proofs.Tryz.f156 Zk156 Za156 (x,state)=(sizeTaskS x.Tasks≤(4294967296:Nat)∧(0:Nat)=(0:Nat)∧asD []=asD []∧asD [DV.box [Cell.sl Cd.eItem x.S.Items,Cell.lit (Value.int IntKind.i64 x.S.Next),Cell.sl Cd.eMatch x.Fired,Cell.sl Cd.eTask (giveUp x.Tasks),Cell.sl Cd.eTimer [],Cell.sl Cd.eUndo x.Undos,Cell.lit (Value.int IntKind.i64 state),Cell.lit (Value.int IntKind.i64 x.Now)]]=asD [DV.box [Cell.sl Cd.eItem (endI x state).S.Items,Cell.lit (Value.int IntKind.i64 (endI x state).S.Next),Cell.sl Cd.eMatch (endI x state).Fired,Cell.sl Cd.eTask (endI x state).Tasks,Cell.sl Cd.eTimer (endI x state).Timers,Cell.sl Cd.eUndo (endI x state).Undos,Cell.lit (Value.int IntKind.i64 (endI x state).State),Cell.lit (Value.int IntKind.i64 (endI x state).Now)]]):=by kernel_rfl
theorem Zo156:Holds EE (156,Zk156):=by
 refine holds_of EE_ok Go.Proofs.Tryz.func156 Zk156 (by kernel_rfl) Zu156 (us_ok _) Za156 (fun x hp hb=> ?_)
 obtain⟨x,state⟩:=x
 have hz0:=bdX_eInst (x:=x) (hb _ m0)
 have hl_x_S_Items:=hz0.1
 have hl_x_Fired:=hz0.2.1
 have hl_x_Tasks:=hz0.2.2.1
 have hl_x_Timers:=hz0.2.2.2.1
 have hl_x_Undos:=hz0.2.2.2.2
 have hl_state:=bdI (n:=state) (hb _ m1)
 have hp0:tasksOk x.Tasks=true:=hp _ m0
 clear hp hb
 rw[Zv156 x state]
 have:=(tasksK hp0).2
 exact⟨by omega,rfl,rfl,rfl⟩
def Zh156:HH:=⟨_,Zo156⟩
def Zk87:Con UU where
 α:=DInst
 md:=[.box true]
 of:=o1 (oX .eInst)
 ds:=fun x=>[dX .eInst x]
 pre:=fun x=>[goodX x,x.State=3∨x.State=5]
 res:=fun x=>⟨[],true,[.box [.sl .eItem (((beginI x)).S).Items,.lit (.int .i64 (((beginI x)).S).Next),.sl .eMatch ((beginI x)).Fired,.sl .eTask ((beginI x)).Tasks,.sl .eTimer ((beginI x)).Timers,.sl .eUndo ((beginI x)).Undos,.lit (.int .i64 ((beginI x)).State),.lit (.int .i64 ((beginI x)).Now)]]⟩
 law:=l1 (lX .eInst)
def Zi87_7(x:DInst):List DTask×Int×(ByteArray×List DVal×Unit)×(List DItem×Int×List DMatch×(List DTask×(Nat→Bool))×List DTimer×List DUndo×Int×Int×Unit)×Unit→Prop:=fun(l,i,f,(gi,gn,gf,(gt,dd),gm,gu,gs,gw,_),_)=>f=((undoLast x.Undos).Kind,(undoLast x.Undos).Fields,())∧(gi,gn,gf,gt,gm,gu,gs,gw)=(x.S.Items,x.S.Next,x.Fired,x.Tasks,x.Timers,x.Undos,x.State,x.Now)∧¬x.Undos=[]∧0≤i∧i≤x.Tasks.length∧l=restF (x.Tasks.take i.toNat) (undoLast x.Undos)∧∀k,i.toNat≤k→dd k=false
def Zm87_7(x:DInst):List DTask×Int×(ByteArray×List DVal×Unit)×(List DItem×Int×List DMatch×(List DTask×(Nat→Bool))×List DTimer×List DUndo×Int×Int×Unit)×Unit→Nat:=fun(l,i,f,(gi,gn,gf,(gt,dd),gm,gu,gs,gw,_),_)=>x.Tasks.length-i.toNat
def Za87:Zk87.α→Nat→Option (Ann UU):=fun x=>annL [(7,annOf [.slot 4 (4,1024) (.own .eTask true),.slot 5 (5,1024) (.lit (.int .i64)),.box 2 (2,1024) [.lit .str,.own .eVal true],.box 0 (2000000,0) [.own .eItem true,.lit (.int .i64),.own .eMatch true,.part .eTask,.own .eTimer true,.own .eUndo true,.lit (.int .i64),.lit (.int .i64)]] (fun _=>Zi87_7 x) (Zm87_7 x))]
def Zu87:=us [Zh155,Zh156,Zh150,Zh157]
theorem Zv87(x:DInst):goal EE Zu87 Go.Proofs.Tryz.f87 Zk87 Za87 x=(sizeUndoS x.Undos≤(4294967296:Nat)∧
 bif !decide ¬x.Undos=[] then bif x.State==(3:Int) then tasksOk x.Tasks=true∧(0:Nat)=(0:Nat)∧asD []=asD []∧asD [DV.box [Cell.sl Cd.eItem (endI x (4:Int)).S.Items,Cell.lit (Value.int IntKind.i64 (endI x (4:Int)).S.Next),Cell.sl Cd.eMatch (endI x (4:Int)).Fired,Cell.sl Cd.eTask (endI x (4:Int)).Tasks,Cell.sl Cd.eTimer (endI x (4:Int)).Timers,Cell.sl Cd.eUndo (endI x (4:Int)).Undos,Cell.lit (Value.int IntKind.i64 (endI x (4:Int)).State),Cell.lit (Value.int IntKind.i64 (endI x (4:Int)).Now)]]=asD [DV.box [Cell.sl Cd.eItem (beginI x).S.Items,Cell.lit (Value.int IntKind.i64 (beginI x).S.Next),Cell.sl Cd.eMatch (beginI x).Fired,Cell.sl Cd.eTask (beginI x).Tasks,Cell.sl Cd.eTimer (beginI x).Timers,Cell.sl Cd.eUndo (beginI x).Undos,Cell.lit (Value.int IntKind.i64 (beginI x).State),Cell.lit (Value.int IntKind.i64 (beginI x).Now)]] else tasksOk x.Tasks=true∧(0:Nat)=(0:Nat)∧asD []=asD []∧asD [DV.box [Cell.sl Cd.eItem (endI x (6:Int)).S.Items,Cell.lit (Value.int IntKind.i64 (endI x (6:Int)).S.Next),Cell.sl Cd.eMatch (endI x (6:Int)).Fired,Cell.sl Cd.eTask (endI x (6:Int)).Tasks,Cell.sl Cd.eTimer (endI x (6:Int)).Timers,Cell.sl Cd.eUndo (endI x (6:Int)).Undos,Cell.lit (Value.int IntKind.i64 (endI x (6:Int)).State),Cell.lit (Value.int IntKind.i64 (endI x (6:Int)).Now)]]=asD [DV.box [Cell.sl Cd.eItem (beginI x).S.Items,Cell.lit (Value.int IntKind.i64 (beginI x).S.Next),Cell.sl Cd.eMatch (beginI x).Fired,Cell.sl Cd.eTask (beginI x).Tasks,Cell.sl Cd.eTimer (beginI x).Timers,Cell.sl Cd.eUndo (beginI x).Undos,Cell.lit (Value.int IntKind.i64 (beginI x).State),Cell.lit (Value.int IntKind.i64 (beginI x).Now)]]
 else
  Zi87_7 x ([],(0:Int),((undoLast x.Undos).Kind,(undoLast x.Undos).Fields,PUnit.unit),(x.S.Items,x.S.Next,x.Fired,(x.Tasks,fun(x:Nat)=>false),x.Timers,x.Undos,x.State,x.Now,PUnit.unit),PUnit.unit)∧
   ∀(y:List DTask×Int×(ByteArray×List DVal×PUnit)×(List DItem×Int×List DMatch×(List DTask×(Nat→Bool))×List DTimer×List DUndo×Int×Int×PUnit)×PUnit),
    let x0:DFact:={Kind:=y.2.2.1.1,Fields:={τ:=Cd.eVal,xs:=y.2.2.1.2.1:Arr UU}.xs:DFact};
    let x3:Nat:=Int.toNat y.2.1;
    let x5:Nat:=List.length y.2.2.2.1.2.2.2.1.1;
    let x6:Int:=IntKind.wrap IntKind.i64 (y.2.1+(1:Int));
    let x2:DTask:=List.getD y.2.2.2.1.2.2.2.1.1 x3 zTask;
    let x4:Int:=(↑x5:Int);
    let x1:List DTask:=[x2];
    Zi87_7 x y→bif decide (y.2.1<x4) then(0:Int)≤y.2.1∧x3<x5∧x3<x5∧y.2.2.2.1.2.2.2.1.2 x3=false∧y.2.2.2.1.2.2.2.1.2 x3=false∧x3<x5∧bif !decide (x2.F={Kind:=y.2.2.1.1,Fields:=y.2.2.1.2.1:DFact}) then(0:Int)≤y.2.1∧x3<x5∧x3<x5∧y.2.2.2.1.2.2.2.1.2 x3=false∧List.length y.1+List.length x1≤(4294967296:Nat)∧Zi87_7 x (y.1++x1,x6,(y.2.2.1.1,y.2.2.1.2.1,PUnit.unit),(y.2.2.2.1.1,y.2.2.2.1.2.1,y.2.2.2.1.2.2.1,(y.2.2.2.1.2.2.2.1.1,fun(j:Nat)=>Nat.beq j x3||y.2.2.2.1.2.2.2.1.2 j),y.2.2.2.1.2.2.2.2.1,y.2.2.2.1.2.2.2.2.2.1,y.2.2.2.1.2.2.2.2.2.2.1,y.2.2.2.1.2.2.2.2.2.2.2.1,PUnit.unit),PUnit.unit)∧Zm87_7 x (y.1++x1,x6,(y.2.2.1.1,y.2.2.1.2.1,PUnit.unit),(y.2.2.2.1.1,y.2.2.2.1.2.1,y.2.2.2.1.2.2.1,(y.2.2.2.1.2.2.2.1.1,fun(j:Nat)=>Nat.beq j x3||y.2.2.2.1.2.2.2.1.2 j),y.2.2.2.1.2.2.2.2.1,y.2.2.2.1.2.2.2.2.2.1,y.2.2.2.1.2.2.2.2.2.2.1,y.2.2.2.1.2.2.2.2.2.2.2.1,PUnit.unit),PUnit.unit)<Zm87_7 x y else Zi87_7 x (y.1,x6,(y.2.2.1.1,y.2.2.1.2.1,PUnit.unit),(y.2.2.2.1.1,y.2.2.2.1.2.1,y.2.2.2.1.2.2.1,(y.2.2.2.1.2.2.2.1.1,y.2.2.2.1.2.2.2.1.2),y.2.2.2.1.2.2.2.2.1,y.2.2.2.1.2.2.2.2.2.1,y.2.2.2.1.2.2.2.2.2.2.1,y.2.2.2.1.2.2.2.2.2.2.2.1,PUnit.unit),PUnit.unit)∧Zm87_7 x (y.1,x6,(y.2.2.1.1,y.2.2.1.2.1,PUnit.unit),(y.2.2.2.1.1,y.2.2.2.1.2.1,y.2.2.2.1.2.2.1,(y.2.2.2.1.2.2.2.1.1,y.2.2.2.1.2.2.2.1.2),y.2.2.2.1.2.2.2.2.1,y.2.2.2.1.2.2.2.2.2.1,y.2.2.2.1.2.2.2.2.2.2.1,y.2.2.2.1.2.2.2.2.2.2.2.1,PUnit.unit),PUnit.unit)<Zm87_7 x y else bif decide ((↑(List.length y.1):Int)≥(30:Int)) then List.length y.2.2.1.2.1≤(4294967296:Nat)∧(0:Nat)=(0:Nat)∧asD []=asD []∧asD [DV.box [Cell.sl Cd.eItem y.2.2.2.1.1,Cell.lit (Value.int IntKind.i64 y.2.2.2.1.2.1),Cell.sl Cd.eMatch y.2.2.2.1.2.2.1,Cell.sl Cd.eTask (startL {τ:=Cd.eTask,xs:=[]:Arr UU}.xs x0 {data:= #[]:ByteArray} y.2.2.2.1.2.2.2.2.2.2.2.1).1,Cell.sl Cd.eTimer y.2.2.2.1.2.2.2.2.1,Cell.sl Cd.eUndo y.2.2.2.1.2.2.2.2.2.1,Cell.lit (Value.int IntKind.i64 y.2.2.2.1.2.2.2.2.2.2.1),Cell.lit (Value.int IntKind.i64 y.2.2.2.1.2.2.2.2.2.2.2.1)]]=asD [DV.box [Cell.sl Cd.eItem (beginI x).S.Items,Cell.lit (Value.int IntKind.i64 (beginI x).S.Next),Cell.sl Cd.eMatch (beginI x).Fired,Cell.sl Cd.eTask (beginI x).Tasks,Cell.sl Cd.eTimer (beginI x).Timers,Cell.sl Cd.eUndo (beginI x).Undos,Cell.lit (Value.int IntKind.i64 (beginI x).State),Cell.lit (Value.int IntKind.i64 (beginI x).Now)]] else List.length y.2.2.1.2.1≤(4294967296:Nat)∧(0:Nat)=(0:Nat)∧asD []=asD []∧asD [DV.box [Cell.sl Cd.eItem y.2.2.2.1.1,Cell.lit (Value.int IntKind.i64 y.2.2.2.1.2.1),Cell.sl Cd.eMatch y.2.2.2.1.2.2.1,Cell.sl Cd.eTask (startL {τ:=Cd.eTask,xs:=y.1:Arr UU}.xs x0 {data:= #[]:ByteArray} y.2.2.2.1.2.2.2.2.2.2.2.1).1,Cell.sl Cd.eTimer y.2.2.2.1.2.2.2.2.1,Cell.sl Cd.eUndo y.2.2.2.1.2.2.2.2.2.1,Cell.lit (Value.int IntKind.i64 y.2.2.2.1.2.2.2.2.2.2.1),Cell.lit (Value.int IntKind.i64 y.2.2.2.1.2.2.2.2.2.2.2.1)]]=asD [DV.box [Cell.sl Cd.eItem (beginI x).S.Items,Cell.lit (Value.int IntKind.i64 (beginI x).S.Next),Cell.sl Cd.eMatch (beginI x).Fired,Cell.sl Cd.eTask (beginI x).Tasks,Cell.sl Cd.eTimer (beginI x).Timers,Cell.sl Cd.eUndo (beginI x).Undos,Cell.lit (Value.int IntKind.i64 (beginI x).State),Cell.lit (Value.int IntKind.i64 (beginI x).Now)]]):=by kernel_rfl
theorem Zo87:Holds EE (87,Zk87):=by
 refine holds_of EE_ok Go.Proofs.Tryz.func87 Zk87 (by kernel_rfl) Zu87 (us_ok _) Za87 (fun(x:DInst) hp hb=> ?_)
 have hz0:=bdX_eInst (x:=x) (hb _ m0)
 have hl_x_S_Items:=hz0.1
 have hl_x_Fired:=hz0.2.1
 have hl_x_Tasks:=hz0.2.2.1
 have hl_x_Timers:=hz0.2.2.2.1
 have hl_x_Undos:=hz0.2.2.2.2
 have hp0:goodX x:=hp _ m0
 have hp1:x.State=3∨x.State=5:=hp _ m1
 clear hp hb
 rw[Zv87 x]
 dsimp only
 have hgx:=hp0
 obtain⟨q1,q2,q3,q4⟩:=hp0
 have k3:=(undosK q2).2.2
 have k4:=(tasksK q1).1
 refine⟨by omega,if_not (fun h=> ?_) (fun h=> ?_)⟩
 ·have hu:x.Undos=[]:=by simpa using h
  refine if_num (fun g=>⟨q1,by trivial,by trivial,outI ?_⟩) (fun g=>⟨q1,by trivial,by trivial,outI ?_⟩)
  ·rw[beginI,if_pos hu,if_neg (by omega)]
  ·rw[beginI,if_pos hu,if_pos (by omega)]
 have hu:¬x.Undos=[]:=by simpa using h
 have hf:=(factK (undoLast_ok q2 hu)).1
 have eb:beginI x=⟨x.S,x.Fired,startU x,x.Timers,x.Undos,x.State,x.Now⟩:=if_neg hu
 refine⟨⟨rfl,rfl,hu,by omega,by omega,rfl,fun _ _=>rfl⟩,?_⟩
 rintro⟨l,i,⟨f1,f2,⟨⟩⟩,⟨gi,gn,gf,⟨gt,dd⟩,gm,gu,gs,gw,⟨⟩⟩,⟨⟩⟩ ⟨hF,hG,-,h1,h2,hl,hd⟩
 cases hF
 cases hG
 subst hl
 simp only
 refine if_dec (fun hc=> ?_) (fun hc=> ?_)
 ·have hn:i.toNat<x.Tasks.length:=by omega
  have ei:(i+1).toNat=i.toNat+1:=by omega
  have hst:=filterStep (fun t:DTask=> !decide (t.F=undoLast x.Undos)) zTask hn
  have hlen:(restF (x.Tasks.take i.toNat) (undoLast x.Undos)).length≤i.toNat:=Nat.le_trans (List.length_filter_le _ _) (by simp;omega)
  rw[wrap_i64 (n:=i+1) (by omega) (by omega)]
  refine⟨h1,hn,hn,hd _ (Nat.le_refl _),hd _ (Nat.le_refl _),hn,if_not (fun g=> ?_) (fun g=> ?_)⟩
  ·refine⟨h1,hn,hn,hd _ (Nat.le_refl _),by simp only[List.length_cons,List.length_nil];omega,⟨rfl,rfl,hu,by omega,by omega,?_,fun k hk=> ?_⟩,by simp only[Zm87_7];omega⟩
   ·rw[ei];refine Eq.trans ?_ hst.symm
    rw[if_pos (by rw[show decide ((List.getD x.Tasks i.toNat zTask).F=undoLast x.Undos)=false from g];rfl)];rfl
   ·show(Nat.beq k i.toNat||dd k)=false
    rw[hd k (by omega),Bool.or_false,←Bool.not_eq_true,Nat.beq_eq];omega
  ·refine⟨⟨rfl,rfl,hu,by omega,by omega,?_,fun k hk=>hd k (by omega)⟩,by simp only[Zm87_7];omega⟩
   rw[ei];refine Eq.trans ?_ hst.symm
   rw[if_neg (by rw[show decide ((List.getD x.Tasks i.toNat zTask).F=undoLast x.Undos)=true from g];decide),List.append_nil];rfl
 ·rw[take_all x.Tasks (by omega)]
  refine if_dec (fun g=>⟨by omega,by trivial,by trivial,?_⟩) (fun g=>⟨by omega,by trivial,by trivial,?_⟩)
  ·refine outI (a:=⟨x.S,x.Fired,(startL [] (undoLast x.Undos) noBytes x.Now).1,x.Timers,x.Undos,x.State,x.Now⟩) ?_
   rw[eb,startU,show freeF x.Tasks (undoLast x.Undos)=[] from if_pos (by omega)]
  ·refine outI (a:=⟨x.S,x.Fired,(startL (restF x.Tasks (undoLast x.Undos)) (undoLast x.Undos) noBytes x.Now).1,x.Timers,x.Undos,x.State,x.Now⟩) ?_
   rw[eb,startU,show freeF x.Tasks (undoLast x.Undos)=restF x.Tasks (undoLast x.Undos) from if_neg (by omega)]
def Zh87:HH:=⟨_,Zo87⟩
def Zk30:Con UU where
 α:=DInst×Int
 md:=[.box true,.ro]
 of:=oC (oX .eInst) (o1 oI)
 ds:=fun x=>[dX .eInst x.1,dI x.2]
 pre:=fun(x,state)=>[goodX x,state=3∨state=5]
 res:=fun(x,state)=>⟨[],true,[.box [.sl .eItem (((turnI x state)).S).Items,.lit (.int .i64 (((turnI x state)).S).Next),.sl .eMatch ((turnI x state)).Fired,.sl .eTask ((turnI x state)).Tasks,.sl .eTimer ((turnI x state)).Timers,.sl .eUndo ((turnI x state)).Undos,.lit (.int .i64 ((turnI x state)).State),.lit (.int .i64 ((turnI x state)).Now)]]⟩
 law:=lC (lX .eInst) (l1 lI)
def Za30:Zk30.α→Nat→Option (Ann UU):=fun(x,state)=>annL []
def Zu30:=us [Zh86,Zh87]
theorem Zv30(x:DInst)(state:Int):goal EE Zu30 Go.Proofs.Tryz.f30 Zk30 Za30 (x,state)=(let x1:DInst:={S:=x.S,Fired:=x.Fired,Tasks:=giveUp x.Tasks,Timers:=[],Undos:=x.Undos,State:=state,Now:=x.Now:DInst};
let x0:DInst:=beginI x1;
sizeTaskS x.Tasks≤(4294967296:Nat)∧goodX x1∧(state=(3:Int)∨state=(5:Int))∧(0:Nat)=(0:Nat)∧asD []=asD []∧asD [DV.box [Cell.sl Cd.eItem x0.S.Items,Cell.lit (Value.int IntKind.i64 x0.S.Next),Cell.sl Cd.eMatch x0.Fired,Cell.sl Cd.eTask x0.Tasks,Cell.sl Cd.eTimer x0.Timers,Cell.sl Cd.eUndo x0.Undos,Cell.lit (Value.int IntKind.i64 x0.State),Cell.lit (Value.int IntKind.i64 x0.Now)]]=asD [DV.box [Cell.sl Cd.eItem (turnI x state).S.Items,Cell.lit (Value.int IntKind.i64 (turnI x state).S.Next),Cell.sl Cd.eMatch (turnI x state).Fired,Cell.sl Cd.eTask (turnI x state).Tasks,Cell.sl Cd.eTimer (turnI x state).Timers,Cell.sl Cd.eUndo (turnI x state).Undos,Cell.lit (Value.int IntKind.i64 (turnI x state).State),Cell.lit (Value.int IntKind.i64 (turnI x state).Now)]]):=by kernel_rfl
theorem Zo30:Holds EE (30,Zk30):=by
 refine holds_of EE_ok Go.Proofs.Tryz.func30 Zk30 (by kernel_rfl) Zu30 (us_ok _) Za30 (fun x hp hb=> ?_)
 obtain⟨x,state⟩:=x
 have hz0:=bdX_eInst (x:=x) (hb _ m0)
 have hl_x_S_Items:=hz0.1
 have hl_x_Fired:=hz0.2.1
 have hl_x_Tasks:=hz0.2.2.1
 have hl_x_Timers:=hz0.2.2.2.1
 have hl_x_Undos:=hz0.2.2.2.2
 have hl_state:=bdI (n:=state) (hb _ m1)
 have hp0:goodX x:=hp _ m0
 have hp1:state=3∨state=5:=hp _ m1
 clear hp hb
 rw[Zv30 x state]
 dsimp only
 have:=(tasksK hp0.1).2
 exact⟨by omega,goodX_end hp0 state,hp1,rfl,rfl,rfl⟩
def Zh30:HH:=⟨_,Zo30⟩
def Zk10:Con UU where
 α:=DDef×DInst
 md:=[.ro,.ro]
 of:=oC (oA .eDef) (o1 (oA .eInst))
 ds:=fun x=>[dA .eDef x.1,dA .eInst x.2]
 pre:=fun(d,x)=>[sizeDef d≤4294967295,sizeInst x≤4294967295]
 res:=fun(d,x)=>⟨[.agg [.sl .eItem (((stopI d x)).S).Items,.lit (.int .i64 (((stopI d x)).S).Next),.sl .eMatch ((stopI d x)).Fired,.sl .eTask ((stopI d x)).Tasks,.sl .eTimer ((stopI d x)).Timers,.sl .eUndo ((stopI d x)).Undos,.lit (.int .i64 ((stopI d x)).State),.lit (.int .i64 ((stopI d x)).Now)],.one (.lit (.bool (stopOk d x)))],true,[]⟩
 law:=lC (lA .eDef) (l1 (lA .eInst))
def Za10:Zk10.α→Nat→Option (Ann UU):=fun(d,x)=>annL []
def Zu10:=us [Zh37,Zh38,Zh39]
theorem Zv10(d:DDef)(x:DInst):goal EE Zu10 Go.Proofs.Tryz.f10 Zk10 Za10 (d,x)=(sizeInst x≤(4294967296:Nat)∧bif x.State !=(1:Int) then Lf [DV.agg [Cell.sl Cd.eItem x.S.Items,Cell.lit (Value.int IntKind.i64 x.S.Next),Cell.sl Cd.eMatch x.Fired,Cell.sl Cd.eTask x.Tasks,Cell.sl Cd.eTimer x.Timers,Cell.sl Cd.eUndo x.Undos,Cell.lit (Value.int IntKind.i64 x.State),Cell.lit (Value.int IntKind.i64 x.Now)],DV.one (Cell.lit (Value.bool false))] [DV.agg [Cell.sl Cd.eItem (stopI d x).S.Items,Cell.lit (Value.int IntKind.i64 (stopI d x).S.Next),Cell.sl Cd.eMatch (stopI d x).Fired,Cell.sl Cd.eTask (stopI d x).Tasks,Cell.sl Cd.eTimer (stopI d x).Timers,Cell.sl Cd.eUndo (stopI d x).Undos,Cell.lit (Value.int IntKind.i64 (stopI d x).State),Cell.lit (Value.int IntKind.i64 (stopI d x).Now)],DV.one (Cell.lit (Value.bool (stopOk d x)))] else sizeDef d≤(4294967295:Nat)∧sizeItemS x.S.Items≤(4294967296:Nat)∧bif !instOk d x then Lf [DV.agg [Cell.sl Cd.eItem x.S.Items,Cell.lit (Value.int IntKind.i64 x.S.Next),Cell.sl Cd.eMatch x.Fired,Cell.sl Cd.eTask x.Tasks,Cell.sl Cd.eTimer x.Timers,Cell.sl Cd.eUndo x.Undos,Cell.lit (Value.int IntKind.i64 x.State),Cell.lit (Value.int IntKind.i64 x.Now)],DV.one (Cell.lit (Value.bool false))] [DV.agg [Cell.sl Cd.eItem (stopI d x).S.Items,Cell.lit (Value.int IntKind.i64 (stopI d x).S.Next),Cell.sl Cd.eMatch (stopI d x).Fired,Cell.sl Cd.eTask (stopI d x).Tasks,Cell.sl Cd.eTimer (stopI d x).Timers,Cell.sl Cd.eUndo (stopI d x).Undos,Cell.lit (Value.int IntKind.i64 (stopI d x).State),Cell.lit (Value.int IntKind.i64 (stopI d x).Now)],DV.one (Cell.lit (Value.bool (stopOk d x)))] else goodX x∧((5:Int)=(3:Int)∨(5:Int)=(5:Int))∧Lf [DV.agg [Cell.sl Cd.eItem (turnI x (5:Int)).S.Items,Cell.lit (Value.int IntKind.i64 (turnI x (5:Int)).S.Next),Cell.sl Cd.eMatch (turnI x (5:Int)).Fired,Cell.sl Cd.eTask (turnI x (5:Int)).Tasks,Cell.sl Cd.eTimer (turnI x (5:Int)).Timers,Cell.sl Cd.eUndo (turnI x (5:Int)).Undos,Cell.lit (Value.int IntKind.i64 (turnI x (5:Int)).State),Cell.lit (Value.int IntKind.i64 (turnI x (5:Int)).Now)],DV.one (Cell.lit (Value.bool true))] [DV.agg [Cell.sl Cd.eItem (stopI d x).S.Items,Cell.lit (Value.int IntKind.i64 (stopI d x).S.Next),Cell.sl Cd.eMatch (stopI d x).Fired,Cell.sl Cd.eTask (stopI d x).Tasks,Cell.sl Cd.eTimer (stopI d x).Timers,Cell.sl Cd.eUndo (stopI d x).Undos,Cell.lit (Value.int IntKind.i64 (stopI d x).State),Cell.lit (Value.int IntKind.i64 (stopI d x).Now)],DV.one (Cell.lit (Value.bool (stopOk d x)))]):=by kernel_rfl
theorem Zo10:Holds EE (10,Zk10):=by
 refine holds_of EE_ok Go.Proofs.Tryz.func10 Zk10 (by kernel_rfl) Zu10 (us_ok _) Za10 (fun x hp hb=> ?_)
 obtain⟨d,x⟩:=x
 have hz0:=bd_eDef (x:=d) (hb _ m0)
 have hl_d_Name:=hz0.1
 have hl_d_Rules:=hz0.2
 have hz1:=bd_eInst (x:=x) (hb _ m1)
 have hl_x_S_Items:=hz1.1
 have hl_x_Fired:=hz1.2.1
 have hl_x_Tasks:=hz1.2.2.1
 have hl_x_Timers:=hz1.2.2.2.1
 have hl_x_Undos:=hz1.2.2.2.2
 have hp0:sizeDef d≤4294967295:=hp _ m0
 have hp1:sizeInst x≤4294967295:=hp _ m1
 clear hp hb
 rw[Zv10 d x]
 have hi:=ctInst_items x
 refine⟨by omega,if_neq (fun h=>stop_no ?_) (fun h=>⟨hp0,by omega,if_not (fun g=>stop_no ?_) (fun g=>⟨good_inst g,.inr rfl,?_⟩)⟩)⟩
 ·rw[stopOk,decide_eq_false h];rfl
 ·rw[stopOk,show instOk d x=false from g,Bool.and_false]
 ·have e:stopOk d x=true:=by rw[stopOk,decide_eq_true h,show instOk d x=true from g];rfl
  exact LfX (by rw[stopI,if_pos e]) e.symm
def Zh10:HH:=⟨_,Zo10⟩
def Zk7:Con UU where
 α:=DDef×DInst
 md:=[.ro,.ro]
 of:=oC (oA .eDef) (o1 (oA .eInst))
 ds:=fun x=>[dA .eDef x.1,dA .eInst x.2]
 pre:=fun(d,x)=>[sizeDef d≤4294967295,sizeInst x≤4294967295]
 res:=fun(d,x)=>⟨[.agg [.sl .eItem (((stopI d x)).S).Items,.lit (.int .i64 (((stopI d x)).S).Next),.sl .eMatch ((stopI d x)).Fired,.sl .eTask ((stopI d x)).Tasks,.sl .eTimer ((stopI d x)).Timers,.sl .eUndo ((stopI d x)).Undos,.lit (.int .i64 ((stopI d x)).State),.lit (.int .i64 ((stopI d x)).Now)],.one (.lit (.bool (stopOk d x)))],true,[]⟩
 law:=lC (lA .eDef) (l1 (lA .eInst))
def Za7:Zk7.α→Nat→Option (Ann UU):=fun(d,x)=>annL []
def Zu7:=us [Zh28,Zh29,Zh30]
theorem Zv7(d:DDef)(x:DInst):goal EE Zu7 Go.Proofs.Tryz.f7 Zk7 Za7 (d,x)=(sizeInst x≤(4294967296:Nat)∧sizeDef d≤(4294967295:Nat)∧sizeItemS x.S.Items≤(4294967296:Nat)∧bif !instOk d x then Lf [DV.agg [Cell.sl Cd.eItem x.S.Items,Cell.lit (Value.int IntKind.i64 x.S.Next),Cell.sl Cd.eMatch x.Fired,Cell.sl Cd.eTask x.Tasks,Cell.sl Cd.eTimer x.Timers,Cell.sl Cd.eUndo x.Undos,Cell.lit (Value.int IntKind.i64 x.State),Cell.lit (Value.int IntKind.i64 x.Now)],DV.one (Cell.lit (Value.bool false))] [DV.agg [Cell.sl Cd.eItem (stopI d x).S.Items,Cell.lit (Value.int IntKind.i64 (stopI d x).S.Next),Cell.sl Cd.eMatch (stopI d x).Fired,Cell.sl Cd.eTask (stopI d x).Tasks,Cell.sl Cd.eTimer (stopI d x).Timers,Cell.sl Cd.eUndo (stopI d x).Undos,Cell.lit (Value.int IntKind.i64 (stopI d x).State),Cell.lit (Value.int IntKind.i64 (stopI d x).Now)],DV.one (Cell.lit (Value.bool (stopOk d x)))] else bif x.State !=(1:Int) then Lf [DV.agg [Cell.sl Cd.eItem x.S.Items,Cell.lit (Value.int IntKind.i64 x.S.Next),Cell.sl Cd.eMatch x.Fired,Cell.sl Cd.eTask x.Tasks,Cell.sl Cd.eTimer x.Timers,Cell.sl Cd.eUndo x.Undos,Cell.lit (Value.int IntKind.i64 x.State),Cell.lit (Value.int IntKind.i64 x.Now)],DV.one (Cell.lit (Value.bool false))] [DV.agg [Cell.sl Cd.eItem (stopI d x).S.Items,Cell.lit (Value.int IntKind.i64 (stopI d x).S.Next),Cell.sl Cd.eMatch (stopI d x).Fired,Cell.sl Cd.eTask (stopI d x).Tasks,Cell.sl Cd.eTimer (stopI d x).Timers,Cell.sl Cd.eUndo (stopI d x).Undos,Cell.lit (Value.int IntKind.i64 (stopI d x).State),Cell.lit (Value.int IntKind.i64 (stopI d x).Now)],DV.one (Cell.lit (Value.bool (stopOk d x)))] else goodX x∧((5:Int)=(3:Int)∨(5:Int)=(5:Int))∧Lf [DV.agg [Cell.sl Cd.eItem (turnI x (5:Int)).S.Items,Cell.lit (Value.int IntKind.i64 (turnI x (5:Int)).S.Next),Cell.sl Cd.eMatch (turnI x (5:Int)).Fired,Cell.sl Cd.eTask (turnI x (5:Int)).Tasks,Cell.sl Cd.eTimer (turnI x (5:Int)).Timers,Cell.sl Cd.eUndo (turnI x (5:Int)).Undos,Cell.lit (Value.int IntKind.i64 (turnI x (5:Int)).State),Cell.lit (Value.int IntKind.i64 (turnI x (5:Int)).Now)],DV.one (Cell.lit (Value.bool true))] [DV.agg [Cell.sl Cd.eItem (stopI d x).S.Items,Cell.lit (Value.int IntKind.i64 (stopI d x).S.Next),Cell.sl Cd.eMatch (stopI d x).Fired,Cell.sl Cd.eTask (stopI d x).Tasks,Cell.sl Cd.eTimer (stopI d x).Timers,Cell.sl Cd.eUndo (stopI d x).Undos,Cell.lit (Value.int IntKind.i64 (stopI d x).State),Cell.lit (Value.int IntKind.i64 (stopI d x).Now)],DV.one (Cell.lit (Value.bool (stopOk d x)))]):=by kernel_rfl
theorem Zo7:Holds EE (7,Zk7):=by
 refine holds_of EE_ok Go.Proofs.Tryz.func7 Zk7 (by kernel_rfl) Zu7 (us_ok _) Za7 (fun x hp hb=> ?_)
 obtain⟨d,x⟩:=x
 have hz0:=bd_eDef (x:=d) (hb _ m0)
 have hl_d_Name:=hz0.1
 have hl_d_Rules:=hz0.2
 have hz1:=bd_eInst (x:=x) (hb _ m1)
 have hl_x_S_Items:=hz1.1
 have hl_x_Fired:=hz1.2.1
 have hl_x_Tasks:=hz1.2.2.1
 have hl_x_Timers:=hz1.2.2.2.1
 have hl_x_Undos:=hz1.2.2.2.2
 have hp0:sizeDef d≤4294967295:=hp _ m0
 have hp1:sizeInst x≤4294967295:=hp _ m1
 clear hp hb
 rw[Zv7 d x]
 have hi:=ctInst_items x
 refine⟨by omega,hp0,by omega,if_not (fun g=>stop_no ?_) (fun g=>if_neq (fun h=>stop_no ?_) (fun h=>⟨good_inst g,.inr rfl,?_⟩))⟩
 ·rw[stopOk,show instOk d x=false from g,Bool.and_false]
 ·rw[stopOk,decide_eq_false h];rfl
 ·have e:stopOk d x=true:=by rw[stopOk,decide_eq_true h,show instOk d x=true from g];rfl
  exact LfX (by rw[stopI,if_pos e]) e.symm
def Zh7:HH:=⟨_,Zo7⟩
theorem begin_size{x:DInst}(h:goodX x):sizeInst (beginI x)≤sizeInst x+6000∧goodX (beginI x):=by
 have hb:=goodX_begin h
 have ht:=(tasksK hb.1).2
 refine⟨?_,hb⟩
 unfold beginI at ht⊢
 split at ht<;>rename_i hu
 ·rw[if_pos hu]
  have e:sizeTimerS []=0:=rfl
  simp only[sizeInst,endI,e] at ht⊢
  omega
 ·rw[if_neg hu]
  simp only[sizeInst] at ht⊢
  omega
theorem turn_size{x:DInst}(h:goodX x)(st:Int):sizeInst (turnI x st)≤sizeInst x+12000∧goodX (turnI x st):=by
 have h1:=goodX_end h st
 have ht:=(tasksK h1.1).2
 obtain⟨h2,h3⟩:=begin_size h1
 refine⟨?_,h3⟩
 have e:sizeTimerS []=0:=rfl
 have h4:sizeInst (endI x st)≤sizeInst x+6000:=by
  simp only[sizeInst,endI,e] at ht⊢
  omega
 unfold turnI;omega
theorem stop_size(d:DDef)(x:DInst):sizeInst (stopI d x)≤sizeInst x+12000:=by
 unfold stopI;split
 ·rename_i h
  simp only[stopOk,Bool.and_eq_true] at h
  exact(turn_size (good_inst h.2) 5).1
 ·omega
theorem mkInst_eta3(y:DInst)(k:Int):(⟨⟨(mkInst y k).S.Items,y.S.Next⟩,(mkInst y k).Fired,(mkInst y k).Tasks,(mkInst y k).Timers,(mkInst y k).Undos,y.State,y.Now⟩:DInst)=mkInst y k:=rfl
def con_laws_FnExactStopInst:Con UU where
 α:=DDef×DInst
 md:=[.ro,.ro]
 of:=oC (oA .lDef) (o1 (oA .lInst))
 ds:=fun x=>[dA .lDef x.1,dA .lInst x.2]
 pre:=fun _=>[]
 res:=fun(aD,aX)=>⟨[.one (.lit (.bool true))],true,[]⟩
 law:=lC (lA .lDef) (l1 (lA .lInst))
def ann_laws_FnExactStopInst:con_laws_FnExactStopInst.α→Nat→Option (Ann UU):=fun(aD,aX)=>annL []
def use_laws_FnExactStopInst:=us [Zh5,Zh6,Zh8,Zh9,Zh7,Zh10,Zh11,Zh12,Zh13,Zh14,Zh15]
theorem vc_laws_FnExactStopInst(aD:DDef)(aX:DInst):goal EE use_laws_FnExactStopInst Go.Proofs.Tryz.f3 con_laws_FnExactStopInst ann_laws_FnExactStopInst (aD,aX)=(let x3:DInst:=mkInst (stopI aD aX) (1:Int);
let x4:Int:=(1:Int)+(↑(ctDef aD):Int);
let x5:Bool:= !decide (stopI aD aX=stopI aD aX);
let x6:Int:=szr (1048576:Int) (sizeDef aD);
let x8:Bool:= !stopOk aD aX==stopOk aD aX;
let x9:Int:=(1:Int)+(↑(ctInst (stopI aD aX)):Int);
let x2:DInst:={S:={Items:=x3.S.Items,Next:=(stopI aD aX).S.Next:DStore},Fired:=x3.Fired,Tasks:=x3.Tasks,Timers:=x3.Timers,Undos:=x3.Undos,State:=(stopI aD aX).State,Now:=(stopI aD aX).Now:DInst};
let x1:Int:=if mkInst x2 (1:Int)=x2 then(1:Int)+(↑(ctInst x2):Int) else(-1:Int);
let x7:Bool:=x1 !=x9;
let x0:Bool:=decide (x1<(0:Int));
(0:Int)≤(1048576:Int)∧bif decide (x6<(0:Int)) then Lf [DV.one (Cell.lit (Value.bool true))] [DV.one (Cell.lit (Value.bool true))] else(0:Int)≤x6∧bif decide (szr x6 (sizeInst aX)<(0:Int)) then Lf [DV.one (Cell.lit (Value.bool true))] [DV.one (Cell.lit (Value.bool true))] else sizeDef aD≤(4294967296:Nat)∧sizeInst aX≤(4294967296:Nat)∧sizeDef aD≤(4294967295:Nat)∧sizeInst aX≤(4294967295:Nat)∧sizeDef aD≤(4294967296:Nat)∧sizeInst aX≤(4294967296:Nat)∧sizeDef aD≤(4294967295:Nat)∧sizeInst aX≤(4294967295:Nat)∧bif x5 then Lf [DV.one (Cell.lit (Value.bool false))] [DV.one (Cell.lit (Value.bool true))] else bif x8 then Lf [DV.one (Cell.lit (Value.bool false))] [DV.one (Cell.lit (Value.bool true))] else sizeDef aD≤(4294967296:Nat)∧bif !decide (aD=aD) then Lf [DV.one (Cell.lit (Value.bool false))] [DV.one (Cell.lit (Value.bool true))] else sizeInst aX≤(4294967296:Nat)∧bif !decide (aX=aX) then Lf [DV.one (Cell.lit (Value.bool false))] [DV.one (Cell.lit (Value.bool true))] else(0:Int)≤(1:Int)∧x4≤(4611686018427387904:Int)∧(0:Int)≤x4∧x4+(↑(ctInst aX):Int)≤(4611686018427387904:Int)∧bif x5 then Lf [DV.one (Cell.lit (Value.bool false))] [DV.one (Cell.lit (Value.bool true))] else bif x8 then Lf [DV.one (Cell.lit (Value.bool false))] [DV.one (Cell.lit (Value.bool true))] else(0:Int)≤(1:Int)∧x9≤(4611686018427387904:Int)∧(0:Int)≤(1:Int)∧(1:Int)+(↑(ctInst x2):Int)≤(4611686018427387904:Int)∧bif x0 then Lf [DV.one (Cell.lit (Value.bool false))] [DV.one (Cell.lit (Value.bool true))] else bif x7 then Lf [DV.one (Cell.lit (Value.bool false))] [DV.one (Cell.lit (Value.bool true))] else sizeDef aD≤(4294967296:Nat)∧sizeInst aX≤(4294967296:Nat)∧sizeDef aD≤(4294967295:Nat)∧sizeInst aX≤(4294967295:Nat)∧bif x5 then Lf [DV.one (Cell.lit (Value.bool false))] [DV.one (Cell.lit (Value.bool true))] else bif x8 then Lf [DV.one (Cell.lit (Value.bool false))] [DV.one (Cell.lit (Value.bool true))] else(0:Int)≤(1:Int)∧(1:Int)+(↑(ctInst x2):Int)≤(4611686018427387904:Int)∧bif x0 then Lf [DV.one (Cell.lit (Value.bool false))] [DV.one (Cell.lit (Value.bool true))] else bif x7 then Lf [DV.one (Cell.lit (Value.bool false))] [DV.one (Cell.lit (Value.bool true))] else Lf [DV.one (Cell.lit (Value.bool true))] [DV.one (Cell.lit (Value.bool true))]):=by kernel_rfl
theorem ok_laws_FnExactStopInst:Holds EE (3,con_laws_FnExactStopInst):=by
 refine holds_of EE_ok Go.Proofs.Tryz.func3 con_laws_FnExactStopInst (by kernel_rfl) use_laws_FnExactStopInst (us_ok _) ann_laws_FnExactStopInst (fun x hp hb=> ?_)
 obtain⟨aD,aX⟩:=x
 have hz0:=bd_lDef (x:=aD) (hb _ m0)
 have hl_aD_Name:=hz0.1
 have hl_aD_Rules:=hz0.2
 have hz1:=bd_lInst (x:=aX) (hb _ m1)
 have hl_aX_S_Items:=hz1.1
 have hl_aX_Fired:=hz1.2.1
 have hl_aX_Tasks:=hz1.2.2.1
 have hl_aX_Timers:=hz1.2.2.2.1
 have hl_aX_Undos:=hz1.2.2.2.2
 clear hp hb
 rw[vc_laws_FnExactStopInst aD aX]
 dsimp only
 refine⟨by omega,if_cond (fun h=>Lf_rfl _) (fun h=> ?_)⟩
 obtain⟨e0,h0⟩:=szr_pos h
 refine⟨by omega,if_cond (fun h=>Lf_rfl _) (fun h=> ?_)⟩
 obtain⟨e1,h1⟩:=szr_pos h
 have hc:=ctDef_le aD
 have hc1:=ctInst_le aX
 have hc2:=ctInst_le (stopI aD aX)
 have hc3:=stop_size aD aX
 simp only[mkInst_eta3,mkInst_idem,mkInst_ct,if_true]
 repeat' (first|exact Lf_rfl _|refine And.intro (by omega) ?_|refine if_cond (fun h=>absurd h (by first|(simp;done)|(simp;omega))) (fun h=> ?_)|fail)
def h_laws_FnExactStopInst:HH:=⟨_,ok_laws_FnExactStopInst⟩
end
end AM
