/- Functions of the program with their contracts: put together by gen/link.py for FnExactTellInst. -/
import Derived.Test.YtmkeifamnehobaaGreatAmLib
import Derived.Test.YtmkeifamnehobaaGreatFExactTellInst3
namespace AM
open Go
set_option linter.unusedVariables false
set_option linter.unusedSimpArgs false
set_option maxRecDepth 100000
noncomputable section
def Zk87:Con UU where
 α:=DInst
 md:=[.box true]
 of:=o1 (oX .eInst)
 ds:=fun x=>[dX .eInst x]
 pre:=fun x=>[goodX x,x.State=3∨x.State=5]
 res:=fun x=>⟨[],true,[.box [.sl .eItem (((beginI x)).S).Items,.lit (.int .i64 (((beginI x)).S).Next),.sl .eMatch ((beginI x)).Fired,.sl .eTask ((beginI x)).Tasks,.sl .eTimer ((beginI x)).Timers,.sl .eUndo ((beginI x)).Undos,.lit (.int .i64 ((beginI x)).State),.lit (.int .i64 ((beginI x)).Now)]]⟩
 law:=l1 (lX .eInst)
def Zi87_7(x:DInst):List DTask×Int×(ByteArray×List DVal×Unit)×(List DItem×Int×List DMatch×(List DTask×(Nat→Bool))×List DTimer×List DUndo×Int×Int×Unit)×Unit→Prop:=fun(l,i,f,(gi,gn,gf,(gt,dd),gm,gu,gs,gw,_),_)=>f=((undoLast x.Undos).Kind,(undoLast x.Undos).Fields,())∧(gi,gn,gf,gt,gm,gu,gs,gw)=(x.S.Items,x.S.Next,x.Fired,x.Tasks,x.Timers,x.Undos,x.State,x.Now)∧¬x.Undos=[]∧0≤i∧i≤x.Tasks.length∧l=restF (x.Tasks.take i.toNat) (undoLast x.Undos)∧∀k,i.toNat≤k→dd k=false
def Zm87_7(x:DInst):List DTask×Int×(ByteArray×List DVal×Unit)×(List DItem×Int×List DMatch×(List DTask×(Nat→Bool))×List DTimer×List DUndo×Int×Int×Unit)×Unit→Nat:=fun(l,i,f,(gi,gn,gf,(gt,dd),gm,gu,gs,gw,_),_)=>x.Tasks.length-i.toNat
def Za87:Zk87.α→Nat→Option (Ann UU):=fun x=>annL [(7,annOf [.slot 4 (4,1024) (.own .eTask true),.slot 5 (5,1024) (.lit (.int .i64)),.box 2 (2,1024) [.lit .str,.own .eVal true],.box 0 (2000000,0) [.own .eItem true,.lit (.int .i64),.own .eMatch true,.part .eTask,.own .eTimer true,.own .eUndo true,.lit (.int .i64),.lit (.int .i64)]] (fun _=>Zi87_7 x) (Zm87_7 x))]
def Zu87:=us [Zh155,Zh156,Zh150,Zh157]
theorem Zv87(x:DInst):goal EE Zu87 Go.Proofs.Tryz.f87 Zk87 Za87 x=(sizeUndoS x.Undos≤(4294967296:Nat)∧
 bif !decide ¬x.Undos=[] then bif x.State==(3:Int) then tasksOk x.Tasks=true∧(0:Nat)=(0:Nat)∧asD []=asD []∧asD [DV.box [Cell.sl Cd.eItem (endI x (4:Int)).S.Items,Cell.lit (Value.int IntKind.i64 (endI x (4:Int)).S.Next),Cell.sl Cd.eMatch (endI x (4:Int)).Fired,Cell.sl Cd.eTask (endI x (4:Int)).Tasks,Cell.sl Cd.eTimer (endI x (4:Int)).Timers,Cell.sl Cd.eUndo (endI x (4:Int)).Undos,Cell.lit (Value.int IntKind.i64 (endI x (4:Int)).State),Cell.lit (Value.int IntKind.i64 (endI x (4:Int)).Now)]]=asD [DV.box [Cell.sl Cd.eItem (beginI x).S.Items,Cell.lit (Value.int IntKind.i64 (beginI x).S.Next),Cell.sl Cd.eMatch (beginI x).Fired,Cell.sl Cd.eTask (beginI x).Tasks,Cell.sl Cd.eTimer (beginI x).Timers,Cell.sl Cd.eUndo (beginI x).Undos,Cell.lit (Value.int IntKind.i64 (beginI x).State),Cell.lit (Value.int IntKind.i64 (beginI x).Now)]] else tasksOk x.Tasks=true∧(0:Nat)=(0:Nat)∧asD []=asD []∧asD [DV.box [Cell.sl Cd.eItem (endI x (6:Int)).S.Items,Cell.lit (Value.int IntKind.i64 (endI x (6:Int)).S.Next),Cell.sl Cd.eMatch (endI x (6:Int)).Fired,Cell.sl Cd.eTask (endI x (6:Int)).Tasks,Cell.sl Cd.eTimer (endI x (6:Int)).Timers,Cell.sl Cd.eUndo (endI x (6:Int)).Undos,Cell.lit (Value.int IntKind.i64 (endI x (6:Int)).State),Cell.lit (Value.int IntKind.i64 (endI x (6:Int)).Now)]]=asD [DV.box [Cell.sl Cd.eItem (beginI x).S.Items,Cell.lit (Value.int IntKind.i64 (beginI x).S.Next),Cell.sl Cd.eMatch (beginI x).Fired,Cell.sl Cd.eTask (beginI x).Tasks,Cell.sl Cd.eTimer (beginI x).Timers,Cell.sl Cd.eUndo (beginI x).Undos,Cell.lit (Value.int IntKind.i64 (beginI x).State),Cell.lit (Value.int IntKind.i64 (beginI x).Now)]]
 else
  Zi87_7 x ([],(0:Int),((undoLast x.Undos).Kind,(undoLast x.Undos).Fields,PUnit.unit),(x.S.Items,x.S.Next,x.Fired,(x.Tasks,fun(x:Nat)=>false),x.Timers,x.Undos,x.State,x.Now,PUnit.unit),PUnit.unit)∧
   ∀(y:List DTask×Int×(ByteArray×List DVal×PUnit)×(List DItem×Int×List DMatch×(List DTask×(Nat→Bool))×List DTimer×List DUndo×Int×Int×PUnit)×PUnit),
    let x0:DFact:={Kind:=y.2.2.1.1,Fields:={τ:=Cd.eVal,xs:=y.2.2.1.2.1:Arr UU}.xs:DFact};
    let x3:Nat:=Int.toNat y.2.1;
    let x5:Nat:=List.length y.2.2.2.1.2.2.2.1.1;
    let x6:Int:=IntKind.wrap IntKind.i64 (y.2.1+(1:Int));
    let x2:DTask:=List.getD y.2.2.2.1.2.2.2.1.1 x3 zTask;
    let x4:Int:=(↑x5:Int);
    let x1:List DTask:=[x2];
    Zi87_7 x y→bif decide (y.2.1<x4) then(0:Int)≤y.2.1∧x3<x5∧x3<x5∧y.2.2.2.1.2.2.2.1.2 x3=false∧y.2.2.2.1.2.2.2.1.2 x3=false∧x3<x5∧bif !decide (x2.F={Kind:=y.2.2.1.1,Fields:=y.2.2.1.2.1:DFact}) then(0:Int)≤y.2.1∧x3<x5∧x3<x5∧y.2.2.2.1.2.2.2.1.2 x3=false∧List.length y.1+List.length x1≤(4294967296:Nat)∧Zi87_7 x (y.1++x1,x6,(y.2.2.1.1,y.2.2.1.2.1,PUnit.unit),(y.2.2.2.1.1,y.2.2.2.1.2.1,y.2.2.2.1.2.2.1,(y.2.2.2.1.2.2.2.1.1,fun(j:Nat)=>Nat.beq j x3||y.2.2.2.1.2.2.2.1.2 j),y.2.2.2.1.2.2.2.2.1,y.2.2.2.1.2.2.2.2.2.1,y.2.2.2.1.2.2.2.2.2.2.1,y.2.2.2.1.2.2.2.2.2.2.2.1,PUnit.unit),PUnit.unit)∧Zm87_7 x (y.1++x1,x6,(y.2.2.1.1,y.2.2.1.2.1,PUnit.unit),(y.2.2.2.1.1,y.2.2.2.1.2.1,y.2.2.2.1.2.2.1,(y.2.2.2.1.2.2.2.1.1,fun(j:Nat)=>Nat.beq j x3||y.2.2.2.1.2.2.2.1.2 j),y.2.2.2.1.2.2.2.2.1,y.2.2.2.1.2.2.2.2.2.1,y.2.2.2.1.2.2.2.2.2.2.1,y.2.2.2.1.2.2.2.2.2.2.2.1,PUnit.unit),PUnit.unit)<Zm87_7 x y else Zi87_7 x (y.1,x6,(y.2.2.1.1,y.2.2.1.2.1,PUnit.unit),(y.2.2.2.1.1,y.2.2.2.1.2.1,y.2.2.2.1.2.2.1,(y.2.2.2.1.2.2.2.1.1,y.2.2.2.1.2.2.2.1.2),y.2.2.2.1.2.2.2.2.1,y.2.2.2.1.2.2.2.2.2.1,y.2.2.2.1.2.2.2.2.2.2.1,y.2.2.2.1.2.2.2.2.2.2.2.1,PUnit.unit),PUnit.unit)∧Zm87_7 x (y.1,x6,(y.2.2.1.1,y.2.2.1.2.1,PUnit.unit),(y.2.2.2.1.1,y.2.2.2.1.2.1,y.2.2.2.1.2.2.1,(y.2.2.2.1.2.2.2.1.1,y.2.2.2.1.2.2.2.1.2),y.2.2.2.1.2.2.2.2.1,y.2.2.2.1.2.2.2.2.2.1,y.2.2.2.1.2.2.2.2.2.2.1,y.2.2.2.1.2.2.2.2.2.2.2.1,PUnit.unit),PUnit.unit)<Zm87_7 x y else bif decide ((↑(List.length y.1):Int)≥(30:Int)) then List.length y.2.2.1.2.1≤(4294967296:Nat)∧(0:Nat)=(0:Nat)∧asD []=asD []∧asD [DV.box [Cell.sl Cd.eItem y.2.2.2.1.1,Cell.lit (Value.int IntKind.i64 y.2.2.2.1.2.1),Cell.sl Cd.eMatch y.2.2.2.1.2.2.1,Cell.sl Cd.eTask (startL {τ:=Cd.eTask,xs:=[]:Arr UU}.xs x0 {data:= #[]:ByteArray} y.2.2.2.1.2.2.2.2.2.2.2.1).1,Cell.sl Cd.eTimer y.2.2.2.1.2.2.2.2.1,Cell.sl Cd.eUndo y.2.2.2.1.2.2.2.2.2.1,Cell.lit (Value.int IntKind.i64 y.2.2.2.1.2.2.2.2.2.2.1),Cell.lit (Value.int IntKind.i64 y.2.2.2.1.2.2.2.2.2.2.2.1)]]=asD [DV.box [Cell.sl Cd.eItem (beginI x).S.Items,Cell.lit (Value.int IntKind.i64 (beginI x).S.Next),Cell.sl Cd.eMatch (beginI x).Fired,Cell.sl Cd.eTask (beginI x).Tasks,Cell.sl Cd.eTimer (beginI x).Timers,Cell.sl Cd.eUndo (beginI x).Undos,Cell.lit (Value.int IntKind.i64 (beginI x).State),Cell.lit (Value.int IntKind.i64 (beginI x).Now)]] else List.length y.2.2.1.2.1≤(4294967296:Nat)∧(0:Nat)=(0:Nat)∧asD []=asD []∧asD [DV.box [Cell.sl Cd.eItem y.2.2.2.1.1,Cell.lit (Value.int IntKind.i64 y.2.2.2.1.2.1),Cell.sl Cd.eMatch y.2.2.2.1.2.2.1,Cell.sl Cd.eTask (startL {τ:=Cd.eTask,xs:=y.1:Arr UU}.xs x0 {data:= #[]:ByteArray} y.2.2.2.1.2.2.2.2.2.2.2.1).1,Cell.sl Cd.eTimer y.2.2.2.1.2.2.2.2.1,Cell.sl Cd.eUndo y.2.2.2.1.2.2.2.2.2.1,Cell.lit (Value.int IntKind.i64 y.2.2.2.1.2.2.2.2.2.2.1),Cell.lit (Value.int IntKind.i64 y.2.2.2.1.2.2.2.2.2.2.2.1)]]=asD [DV.box [Cell.sl Cd.eItem (beginI x).S.Items,Cell.lit (Value.int IntKind.i64 (beginI x).S.Next),Cell.sl Cd.eMatch (beginI x).Fired,Cell.sl Cd.eTask (beginI x).Tasks,Cell.sl Cd.eTimer (beginI x).Timers,Cell.sl Cd.eUndo (beginI x).Undos,Cell.lit (Value.int IntKind.i64 (beginI x).State),Cell.lit (Value.int IntKind.i64 (beginI x).Now)]]):=by kernel_rfl
theorem Zo87:Holds EE (87,Zk87):=by
 refine holds_of EE_ok Go.Proofs.Tryz.func87 Zk87 (by kernel_rfl) Zu87 (us_ok _) Za87 (fun(x:DInst) hp hb=> ?_)
 have hz0:=bdX_eInst (x:=x) (hb _ m0)
 have hl_x_S_Items:=hz0.1
 have hl_x_Fired:=hz0.2.1
 have hl_x_Tasks:=hz0.2.2.1
 have hl_x_Timers:=hz0.2.2.2.1
 have hl_x_Undos:=hz0.2.2.2.2
 have hp0:goodX x:=hp _ m0
 have hp1:x.State=3∨x.State=5:=hp _ m1
 clear hp hb
 rw[Zv87 x]
 dsimp only
 have hgx:=hp0
 obtain⟨q1,q2,q3,q4⟩:=hp0
 have k3:=(undosK q2).2.2
 have k4:=(tasksK q1).1
 refine⟨by omega,if_not (fun h=> ?_) (fun h=> ?_)⟩
 ·have hu:x.Undos=[]:=by simpa using h
  refine if_num (fun g=>⟨q1,by trivial,by trivial,outI ?_⟩) (fun g=>⟨q1,by trivial,by trivial,outI ?_⟩)
  ·rw[beginI,if_pos hu,if_neg (by omega)]
  ·rw[beginI,if_pos hu,if_pos (by omega)]
 have hu:¬x.Undos=[]:=by simpa using h
 have hf:=(factK (undoLast_ok q2 hu)).1
 have eb:beginI x=⟨x.S,x.Fired,startU x,x.Timers,x.Undos,x.State,x.Now⟩:=if_neg hu
 refine⟨⟨rfl,rfl,hu,by omega,by omega,rfl,fun _ _=>rfl⟩,?_⟩
 rintro⟨l,i,⟨f1,f2,⟨⟩⟩,⟨gi,gn,gf,⟨gt,dd⟩,gm,gu,gs,gw,⟨⟩⟩,⟨⟩⟩ ⟨hF,hG,-,h1,h2,hl,hd⟩
 cases hF
 cases hG
 subst hl
 simp only
 refine if_dec (fun hc=> ?_) (fun hc=> ?_)
 ·have hn:i.toNat<x.Tasks.length:=by omega
  have ei:(i+1).toNat=i.toNat+1:=by omega
  have hst:=filterStep (fun t:DTask=> !decide (t.F=undoLast x.Undos)) zTask hn
  have hlen:(restF (x.Tasks.take i.toNat) (undoLast x.Undos)).length≤i.toNat:=zde (zdt _ _) (by simp;omega)
  rw[wrap_i64 (n:=i+1) (by omega) (by omega)]
  refine⟨h1,hn,hn,hd _ (zca _),hd _ (zca _),hn,if_not (fun g=> ?_) (fun g=> ?_)⟩
  ·refine⟨h1,hn,hn,hd _ (zca _),by simp only[zbq,zbo];omega,⟨rfl,rfl,hu,by omega,by omega,?_,fun k hk=> ?_⟩,by simp only[Zm87_7];omega⟩
   ·rw[ei];refine Eq.trans ?_ hst.symm
    rw[if_pos (by rw[show decide ((List.getD x.Tasks i.toNat zTask).F=undoLast x.Undos)=false from g];rfl)];rfl
   ·show(Nat.beq k i.toNat||dd k)=false
    rw[hd k (by omega),zeh,←zbj,zdn];omega
  ·refine⟨⟨rfl,rfl,hu,by omega,by omega,?_,fun k hk=>hd k (by omega)⟩,by simp only[Zm87_7];omega⟩
   rw[ei];refine Eq.trans ?_ hst.symm
   rw[if_neg (by rw[show decide ((List.getD x.Tasks i.toNat zTask).F=undoLast x.Undos)=true from g];decide),zch];rfl
 ·rw[take_all x.Tasks (by omega)]
  refine if_dec (fun g=>⟨by omega,by trivial,by trivial,?_⟩) (fun g=>⟨by omega,by trivial,by trivial,?_⟩)
  ·refine outI (a:=⟨x.S,x.Fired,(startL [] (undoLast x.Undos) noBytes x.Now).1,x.Timers,x.Undos,x.State,x.Now⟩) ?_
   rw[eb,startU,show freeF x.Tasks (undoLast x.Undos)=[] from if_pos (by omega)]
  ·refine outI (a:=⟨x.S,x.Fired,(startL (restF x.Tasks (undoLast x.Undos)) (undoLast x.Undos) noBytes x.Now).1,x.Timers,x.Undos,x.State,x.Now⟩) ?_
   rw[eb,startU,show freeF x.Tasks (undoLast x.Undos)=restF x.Tasks (undoLast x.Undos) from if_neg (by omega)]
def Zh87:HH:=⟨_,Zo87⟩
def Zk30:Con UU where
 α:=DInst×Int
 md:=[.box true,.ro]
 of:=oC (oX .eInst) (o1 oI)
 ds:=fun x=>[dX .eInst x.1,dI x.2]
 pre:=fun(x,state)=>[goodX x,state=3∨state=5]
 res:=fun(x,state)=>⟨[],true,[.box [.sl .eItem (((turnI x state)).S).Items,.lit (.int .i64 (((turnI x state)).S).Next),.sl .eMatch ((turnI x state)).Fired,.sl .eTask ((turnI x state)).Tasks,.sl .eTimer ((turnI x state)).Timers,.sl .eUndo ((turnI x state)).Undos,.lit (.int .i64 ((turnI x state)).State),.lit (.int .i64 ((turnI x state)).Now)]]⟩
 law:=lC (lX .eInst) (l1 lI)
def Za30:Zk30.α→Nat→Option (Ann UU):=fun(x,state)=>annL []
def Zu30:=us [Zh86,Zh87]
theorem Zv30(x:DInst)(state:Int):goal EE Zu30 Go.Proofs.Tryz.f30 Zk30 Za30 (x,state)=(let x1:DInst:={S:=x.S,Fired:=x.Fired,Tasks:=giveUp x.Tasks,Timers:=[],Undos:=x.Undos,State:=state,Now:=x.Now:DInst};
let x0:DInst:=beginI x1;
sizeTaskS x.Tasks≤(4294967296:Nat)∧goodX x1∧(state=(3:Int)∨state=(5:Int))∧(0:Nat)=(0:Nat)∧asD []=asD []∧asD [DV.box [Cell.sl Cd.eItem x0.S.Items,Cell.lit (Value.int IntKind.i64 x0.S.Next),Cell.sl Cd.eMatch x0.Fired,Cell.sl Cd.eTask x0.Tasks,Cell.sl Cd.eTimer x0.Timers,Cell.sl Cd.eUndo x0.Undos,Cell.lit (Value.int IntKind.i64 x0.State),Cell.lit (Value.int IntKind.i64 x0.Now)]]=asD [DV.box [Cell.sl Cd.eItem (turnI x state).S.Items,Cell.lit (Value.int IntKind.i64 (turnI x state).S.Next),Cell.sl Cd.eMatch (turnI x state).Fired,Cell.sl Cd.eTask (turnI x state).Tasks,Cell.sl Cd.eTimer (turnI x state).Timers,Cell.sl Cd.eUndo (turnI x state).Undos,Cell.lit (Value.int IntKind.i64 (turnI x state).State),Cell.lit (Value.int IntKind.i64 (turnI x state).Now)]]):=by kernel_rfl
theorem Zo30:Holds EE (30,Zk30):=by
 refine holds_of EE_ok Go.Proofs.Tryz.func30 Zk30 (by kernel_rfl) Zu30 (us_ok _) Za30 (fun x hp hb=> ?_)
 obtain⟨x,state⟩:=x
 have hz0:=bdX_eInst (x:=x) (hb _ m0)
 have hl_x_S_Items:=hz0.1
 have hl_x_Fired:=hz0.2.1
 have hl_x_Tasks:=hz0.2.2.1
 have hl_x_Timers:=hz0.2.2.2.1
 have hl_x_Undos:=hz0.2.2.2.2
 have hl_state:=bdI (n:=state) (hb _ m1)
 have hp0:goodX x:=hp _ m0
 have hp1:state=3∨state=5:=hp _ m1
 clear hp hb
 rw[Zv30 x state]
 dsimp only
 have:=(tasksK hp0.1).2
 exact⟨by omega,goodX_end hp0 state,hp1,rfl,rfl,rfl⟩
def Zh30:HH:=⟨_,Zo30⟩
theorem begin_size{x:DInst}(h:goodX x):sizeInst (beginI x)≤sizeInst x+6000∧goodX (beginI x):=by
 have hb:=goodX_begin h
 have ht:=(tasksK hb.1).2
 refine⟨?_,hb⟩
 unfold beginI at ht⊢
 split at ht<;>rename_i hu
 ·rw[if_pos hu]
  have e:sizeTimerS []=0:=rfl
  simp only[sizeInst,endI,e] at ht⊢
  omega
 ·rw[if_neg hu]
  simp only[sizeInst] at ht⊢
  omega
theorem turn_size{x:DInst}(h:goodX x)(st:Int):sizeInst (turnI x st)≤sizeInst x+12000∧goodX (turnI x st):=by
 have h1:=goodX_end h st
 have ht:=(tasksK h1.1).2
 obtain⟨h2,h3⟩:=begin_size h1
 refine⟨?_,h3⟩
 have e:sizeTimerS []=0:=rfl
 have h4:sizeInst (endI x st)≤sizeInst x+6000:=by
  simp only[sizeInst,endI,e] at ht⊢
  omega
 unfold turnI;omega
def rcs(l:List Value):List (AC UU):=l.map fun v=> .c (.lit v)
def assertS(s:DStore)(f:DFact):DStore×Int:=if¬idOf s.Items f=0 then(s,idOf s.Items f) else if 40≤s.Items.length∨s.Next=1000000 then(s,0) else(⟨s.Items++[⟨s.Next,f⟩],s.Next+1⟩,s.Next)
theorem store_facts{s:DStore}(h:storeOk s=true):1≤s.Next∧s.Next≤1000000∧s.Items.length≤40∧(∀x∈s.Items,factOk x.F=true∧1≤x.Id):=by
 simp only[storeOk,zaf,decide_eq_true_eq] at h
 refine⟨h.1.1.1,h.1.1.2,h.1.2,allI_mem (z:=zItem) h.2 fun i hi=> ?_⟩
 simp only[itemAt,baseAt,zaf,decide_eq_true_eq] at hi
 exact⟨hi.1.1.1.1,hi.1.1.1.2⟩
theorem idOf_nn{s:DStore}(h:storeOk s=true)(f:DFact):0≤idOf s.Items f:=by
 unfold idOf;split
 ·omega
 ·rename_i hn
  rcases idxI_cases s.Items.length (fun k=>decide ((List.getD s.Items k zItem).F=f)) with⟨h1,_⟩|⟨i,h2,h1,_,_⟩
  ·exact absurd h1 hn
  ·have e:idAt s.Items f=(i:Int):=h1
   rw[e,zeu,zac,zad h2]
   have:=((store_facts h).2.2.2 _ (zda h2)).2
   show 0≤(s.Items[i]).Id
   omega
theorem assert_zero{s:DStore}(h:storeOk s=true){f:DFact}(h0:(assertS s f).2=0):(assertS s f).1=s:=by
 unfold assertS at h0⊢
 split
 ·rfl
 ·rename_i h1
  rw[if_neg h1] at h0
  split
  ·rfl
  ·rename_i h2
   rw[if_neg h2] at h0
   have:=(store_facts h).1
   simp only at h0;omega
theorem assert_size{s:DStore}(h:storeOk s=true){f:DFact}:sizeItemS (assertS s f).1.Items≤sizeItemS s.Items+1+sizeFact f:=by
 unfold assertS;split
 ·show sizeItemS s.Items≤_;omega
 ·split
  ·show sizeItemS s.Items≤_;omega
  ·simp only[sizeItemS,sizeItem,zce,zbq,zbo,zef,zbt,List.map_nil,zet,zdc,List.sum_nil];omega
def withS(x:DInst)(s:DStore):DInst:=⟨s,x.Fired,x.Tasks,x.Timers,x.Undos,x.State,x.Now⟩
def learnI(x:DInst)(f:DFact):DInst:=if(assertS x.S f).2=0 then turnI x 3 else withS x (assertS x.S f).1
theorem learn_size{x:DInst}(h:goodX x)(hs:storeOk x.S=true)(f:DFact):sizeInst (learnI x f)≤sizeInst x+12000+1+sizeFact f:=by
 unfold learnI;split
 ·have:=(turn_size h 3).1;omega
 ·have:=assert_size hs (f:=f)
  simp only[sizeInst,sizeStore,withS];omega
def tellOk(d:DDef)(x:DInst)(f:DFact):Bool:=decide (x.State=1)&&factOk f&&instOk d x
def tellI(d:DDef)(x:DInst)(f:DFact):DInst:=if tellOk d x f then learnI x f else x
theorem tell_no{d:DDef}{x:DInst}{f:DFact}(h:tellOk d x f=false):Lf [.agg [.sl .eItem x.S.Items,.lit (.int .i64 x.S.Next),.sl .eMatch x.Fired,.sl .eTask x.Tasks,.sl .eTimer x.Timers,.sl .eUndo x.Undos,.lit (.int .i64 x.State),.lit (.int .i64 x.Now)],.one (.lit (.bool false))] [.agg [.sl .eItem (tellI d x f).S.Items,.lit (.int .i64 (tellI d x f).S.Next),.sl .eMatch (tellI d x f).Fired,.sl .eTask (tellI d x f).Tasks,.sl .eTimer (tellI d x f).Timers,.sl .eUndo (tellI d x f).Undos,.lit (.int .i64 (tellI d x f).State),.lit (.int .i64 (tellI d x f).Now)],.one (.lit (.bool (tellOk d x f)))]:=
 LfX (by rw[tellI,h];rfl) h.symm
theorem store_inst{d:DDef}{x:DInst}(h:instOk d x=true):storeOk x.S=true:=by
 simp only[instOk,zaf] at h
 exact h.1.1.1.1.1.1.1.1.2
def Zk195:Con UU where
 α:=DStore×DFact
 md:=[.ro,.ro]
 of:=oC (oA .eStore) (o1 (oA .eFact))
 ds:=fun x=>[dA .eStore x.1,dA .eFact x.2]
 pre:=fun _=>[]
 res:=fun(s,f)=>⟨[.one (.lit (.int .i64 (idOf s.Items f)))],true,[]⟩
 law:=lC (lA .eStore) (l1 (lA .eFact))
def Zi195_2(s:DStore)(f:DFact):Int×(List DItem×Int×Unit)×(ByteArray×List DVal×Unit)×Unit→Prop:=fun(i,b,g,_)=>b=(s.Items,s.Next,())∧g=(f.Kind,f.Fields,())∧0≤i∧i≤s.Items.length∧∀j:Nat,(j:Int)<i→decide ((List.getD s.Items j zItem).F=f)=false
def Zm195_2(s:DStore)(f:DFact):Int×(List DItem×Int×Unit)×(ByteArray×List DVal×Unit)×Unit→Nat:=fun(i,b,g,_)=>s.Items.length-i.toNat
def Za195:Zk195.α→Nat→Option (Ann UU):=fun(s,f)=>annL [(2,annOf [.slot 10 (10,1024) (.lit (.int .i64)),.box 2 (2,1024) [.shr .eItem,.lit (.int .i64)],.box 3 (3,1024) [.lit .str,.shr .eVal]] (fun _=>Zi195_2 s f) (Zm195_2 s f))]
def Zu195:=us [Zh168]
theorem Zv195(s:DStore)(f:DFact):goal EE Zu195 Go.Proofs.Tryz.f195 Zk195 Za195 (s,f)=(Zi195_2 s f ((0:Int),(s.Items,s.Next,()),(f.Kind,f.Fields,()),())∧∀(y:Int×(List DItem×Int×PUnit)×(ByteArray×List DVal×PUnit)×PUnit),Zi195_2 s f y→bif decide (y.1<(s.Items.length:Int)) then(0:Int)≤y.1∧y.1.toNat<s.Items.length∧bif decide ((List.getD s.Items y.1.toNat zItem).F={Kind:=y.2.2.1.1,Fields:=y.2.2.1.2.1:DFact}) then Li ((List.getD s.Items y.1.toNat zItem).Id) (idOf s.Items f) else Zi195_2 s f (IntKind.wrap IntKind.i64 (y.1+(1:Int)),(y.2.1.1,y.2.1.2.1,()),(y.2.2.1.1,y.2.2.1.2.1,()),())∧Zm195_2 s f (IntKind.wrap IntKind.i64 (y.1+(1:Int)),(y.2.1.1,y.2.1.2.1,()),(y.2.2.1.1,y.2.2.1.2.1,()),())<Zm195_2 s f y else Li (0:Int) (idOf s.Items f)):=by kernel_rfl
theorem Zo195:Holds EE (195,Zk195):=by
 refine holds_of EE_ok Go.Proofs.Tryz.func195 Zk195 (by kernel_rfl) Zu195 (us_ok _) Za195 (fun x hp hb=> ?_)
 obtain⟨s,f⟩:=x
 have hl_s_Items:=bd_eStore (x:=s) (hb _ m0)
 have hz1:=bd_eFact (x:=f) (hb _ m1)
 have hl_f_Kind:=hz1.1
 have hl_f_Fields:=hz1.2
 clear hp hb
 rw[Zv195 s f]
 refine⟨⟨rfl,rfl,by omega,by omega,by intro j hj;omega⟩,?_⟩
 rintro⟨i,⟨b1,b2,⟨⟩⟩,⟨g1,g2,⟨⟩⟩,⟨⟩⟩ ⟨hbx,hg,h1,h2,hR⟩
 cases hbx
 cases hg
 simp only
 refine if_dec (fun hc=> ?_) (fun hc=> ?_)
 ·rw[wrap_i64 (by omega) (by omega)]
  refine⟨by omega,by omega,if_dec (fun h=>Lf_i ?_) (fun h=>⟨⟨rfl,rfl,by omega,by omega,upto_no (p:=fun j=>decide ((List.getD s.Items j zItem).F=f)) h1 hR (decide_eq_false h)⟩,by simp only[Zm195_2];omega⟩)⟩
  have e:idAt s.Items f=(i.toNat:Int):=idxI_found (i:=i.toNat) (by omega) (decide_eq_true h) (fun j hj=>hR j (by omega))
  rw[idOf,e,if_neg (by omega),zeu]
 ·refine Lf_i ?_
  have e:idAt s.Items f= -1:=idxI_none (fun j hj=>hR j (by omega))
  rw[idOf,if_pos e]
def Zh195:HH:=⟨_,Zo195⟩
def Zk136:Con UU where
 α:=DStore×DFact
 md:=[.box true,.ro]
 of:=oC (oX .eStore) (o1 (oA .eFact))
 ds:=fun x=>[dX .eStore x.1,dA .eFact x.2]
 pre:=fun(s,f)=>[storeOk s=true,f.Fields.length≤4294967296]
 res:=fun(s,f)=>⟨[.one (.lit (.int .i64 ((assertS s f).2))),.one (.lit (.bool (decide (¬(assertS s f).2=0))))],true,[.box [.sl .eItem (((assertS s f).1)).Items,.lit (.int .i64 (((assertS s f).1)).Next)]]⟩
 rst:=6
 law:=lC (lX .eStore) (l1 (lA .eFact))
def Za136:Zk136.α→Nat→Option (Ann UU):=fun(s,f)=>annL []
def Zu136:=us [Zh195,Zh164]
theorem Zv136(s:DStore)(f:DFact)(r0 r1 r2 r3 r4 r5:Value):goalR [r0,r1,r2,r3,r4,r5] EE Zu136 Go.Proofs.Tryz.f136 Zk136 Za136 (s,f)=(bif idOf s.Items f !=(0:Int) then List.length (rcs [r0,r1,r2,r3,r4,r5])=List.length [r0,r1,r2,r3,r4,r5]∧(rcs [r0,r1,r2,r3,r4,r5])=List.map (fun(v:Value)=>AC.c (Cell.lit v)) [r0,r1,r2,r3,r4,r5]∧asD [DV.one (Cell.lit (Value.int IntKind.i64 (idOf s.Items f))),DV.one (Cell.lit (Value.bool true))]=asD [DV.one (Cell.lit (Value.int IntKind.i64 (assertS s f).2)),DV.one (Cell.lit (Value.bool (decide ¬(assertS s f).2=(0:Int))))]∧asD [DV.box [Cell.sl Cd.eItem s.Items,Cell.lit (Value.int IntKind.i64 s.Next)]]=asD [DV.box [Cell.sl Cd.eItem (assertS s f).1.Items,Cell.lit (Value.int IntKind.i64 (assertS s f).1.Next)]] else bif decide ((s.Items.length:Int)≥(40:Int)) then List.length (rcs [r0,r1,r2,r3,r4,r5])=List.length [r0,r1,r2,r3,r4,r5]∧(rcs [r0,r1,r2,r3,r4,r5])=List.map (fun(v:Value)=>AC.c (Cell.lit v)) [r0,r1,r2,r3,r4,r5]∧asD [DV.one (Cell.lit (Value.int IntKind.i64 (0:Int))),DV.one (Cell.lit (Value.bool false))]=asD [DV.one (Cell.lit (Value.int IntKind.i64 (assertS s f).2)),DV.one (Cell.lit (Value.bool (decide ¬(assertS s f).2=(0:Int))))]∧asD [DV.box [Cell.sl Cd.eItem s.Items,Cell.lit (Value.int IntKind.i64 s.Next)]]=asD [DV.box [Cell.sl Cd.eItem (assertS s f).1.Items,Cell.lit (Value.int IntKind.i64 (assertS s f).1.Next)]] else bif s.Next==(1000000:Int) then List.length (rcs [r0,r1,r2,r3,r4,r5])=List.length [r0,r1,r2,r3,r4,r5]∧(rcs [r0,r1,r2,r3,r4,r5])=List.map (fun(v:Value)=>AC.c (Cell.lit v)) [r0,r1,r2,r3,r4,r5]∧asD [DV.one (Cell.lit (Value.int IntKind.i64 (0:Int))),DV.one (Cell.lit (Value.bool false))]=asD [DV.one (Cell.lit (Value.int IntKind.i64 (assertS s f).2)),DV.one (Cell.lit (Value.bool (decide ¬(assertS s f).2=(0:Int))))]∧asD [DV.box [Cell.sl Cd.eItem s.Items,Cell.lit (Value.int IntKind.i64 s.Next)]]=asD [DV.box [Cell.sl Cd.eItem (assertS s f).1.Items,Cell.lit (Value.int IntKind.i64 (assertS s f).1.Next)]] else f.Fields.length≤(4294967296:Nat)∧s.Items.length+List.length [{Id:=s.Next,F:=f:DItem}]≤(4294967296:Nat)∧List.length (rcs [r0,r1,r2,r3,r4,r5])=List.length [r0,r1,r2,r3,r4,r5]∧(rcs [r0,r1,r2,r3,r4,r5])=List.map (fun(v:Value)=>AC.c (Cell.lit v)) [r0,r1,r2,r3,r4,r5]∧asD [DV.one (Cell.lit (Value.int IntKind.i64 (IntKind.wrap IntKind.i64 (IntKind.wrap IntKind.i64 (s.Next+(1:Int))-(1:Int))))),DV.one (Cell.lit (Value.bool true))]=asD [DV.one (Cell.lit (Value.int IntKind.i64 (assertS s f).2)),DV.one (Cell.lit (Value.bool (decide ¬(assertS s f).2=(0:Int))))]∧asD [DV.box [Cell.sl Cd.eItem (s.Items++[{Id:=s.Next,F:=f:DItem}]),Cell.lit (Value.int IntKind.i64 (IntKind.wrap IntKind.i64 (s.Next+(1:Int))))]]=asD [DV.box [Cell.sl Cd.eItem (assertS s f).1.Items,Cell.lit (Value.int IntKind.i64 (assertS s f).1.Next)]]):=by kernel_rfl
theorem Zo136:Holds EE (136,Zk136):=by
 refine holds_ofX EE_ok Go.Proofs.Tryz.func136 Zk136 (by kernel_rfl) rfl Zu136 (us_ok _) Za136 (fun x hp hb rest hrest=> ?_)
 obtain⟨s,f⟩:=x
 have hl_s_Items:=bdX_eStore (x:=s) (hb _ m0)
 have hz1:=bd_eFact (x:=f) (hb _ m1)
 have hl_f_Kind:=hz1.1
 have hl_f_Fields:=hz1.2
 have hp0:storeOk s=true:=hp _ m0
 have hp1:f.Fields.length≤4294967296:=hp _ m1
 clear hp hb
 have hrest:rest.length=6:=hrest
 match rest,hrest with
 |[r0,r1,r2,r3,r4,r5],_=>
 rw[Zv136 s f r0 r1 r2 r3 r4 r5]
 obtain⟨s1,s2,s3,s4⟩:=store_facts hp0
 refine if_neq (fun h=>⟨rfl,rfl,?_⟩) (fun h=>if_dec (fun h2=>⟨rfl,rfl,?_⟩) (fun h2=>if_num (fun h3=>⟨rfl,rfl,?_⟩) (fun h3=> ?_)))
 ·have e:assertS s f=(s,idOf s.Items f):=if_pos h
  rw[e,decide_eq_true h];exact⟨rfl,rfl⟩
 ·have e:assertS s f=(s,0):=(if_neg (by omega)).trans (if_pos (.inl (by omega)))
  rw[e];exact⟨rfl,rfl⟩
 ·have e:assertS s f=(s,0):=(if_neg (by omega)).trans (if_pos (.inr h3))
  rw[e];exact⟨rfl,rfl⟩
 ·have e:assertS s f=(⟨s.Items++[⟨s.Next,f⟩],s.Next+1⟩,s.Next):=(if_neg (by omega)).trans (if_neg (by omega))
  rw[e,wrap_i64 (n:=s.Next+1) (by omega) (by omega),wrap_i64 (by omega) (by omega),show s.Next+1-1=s.Next by omega,decide_eq_true (show¬(s.Next=0) by omega)]
  exact⟨hp1,by simp only[zbq,zbo];omega,rfl,rfl,rfl,rfl⟩
def Zh136:HH:=⟨_,Zo136⟩
def Zk132:Con UU where
 α:=DStore×DFact
 md:=[.box true,.ro]
 of:=oC (oX .eStore) (o1 (oA .eFact))
 ds:=fun x=>[dX .eStore x.1,dA .eFact x.2]
 pre:=fun(s,f)=>[storeOk s=true,f.Fields.length≤4294967296]
 res:=fun(s,f)=>⟨[.one (.lit (.int .i64 ((assertS s f).2)))],true,[.box [.sl .eItem (((assertS s f).1)).Items,.lit (.int .i64 (((assertS s f).1)).Next)]]⟩
 rst:=6
 law:=lC (lX .eStore) (l1 (lA .eFact))
def Za132:Zk132.α→Nat→Option (Ann UU):=fun(s,f)=>annL []
def Zu132:=us [Zh148,Zh145]
theorem Zv132(s:DStore)(f:DFact)(r0 r1 r2 r3 r4 r5:Value):goalR [r0,r1,r2,r3,r4,r5] EE Zu132 Go.Proofs.Tryz.f132 Zk132 Za132 (s,f)=(bif decide (idOf s.Items f>(0:Int)) then List.length (rcs [r0,r1,r2,r3,r4,r5])=List.length [r0,r1,r2,r3,r4,r5]∧(rcs [r0,r1,r2,r3,r4,r5])=List.map (fun(v:Value)=>AC.c (Cell.lit v)) [r0,r1,r2,r3,r4,r5]∧asD [DV.one (Cell.lit (Value.int IntKind.i64 (idOf s.Items f)))]=asD [DV.one (Cell.lit (Value.int IntKind.i64 (assertS s f).2))]∧asD [DV.box [Cell.sl Cd.eItem s.Items,Cell.lit (Value.int IntKind.i64 s.Next)]]=asD [DV.box [Cell.sl Cd.eItem (assertS s f).1.Items,Cell.lit (Value.int IntKind.i64 (assertS s f).1.Next)]] else bif decide ((s.Items.length:Int)≥(40:Int)) then List.length (rcs [r0,r1,r2,r3,r4,r5])=List.length [r0,r1,r2,r3,r4,r5]∧(rcs [r0,r1,r2,r3,r4,r5])=List.map (fun(v:Value)=>AC.c (Cell.lit v)) [r0,r1,r2,r3,r4,r5]∧asD [DV.one (Cell.lit (Value.int IntKind.i64 (0:Int)))]=asD [DV.one (Cell.lit (Value.int IntKind.i64 (assertS s f).2))]∧asD [DV.box [Cell.sl Cd.eItem s.Items,Cell.lit (Value.int IntKind.i64 s.Next)]]=asD [DV.box [Cell.sl Cd.eItem (assertS s f).1.Items,Cell.lit (Value.int IntKind.i64 (assertS s f).1.Next)]] else bif decide (s.Next≥(1000000:Int)) then List.length (rcs [r0,r1,r2,r3,r4,r5])=List.length [r0,r1,r2,r3,r4,r5]∧(rcs [r0,r1,r2,r3,r4,r5])=List.map (fun(v:Value)=>AC.c (Cell.lit v)) [r0,r1,r2,r3,r4,r5]∧asD [DV.one (Cell.lit (Value.int IntKind.i64 (0:Int)))]=asD [DV.one (Cell.lit (Value.int IntKind.i64 (assertS s f).2))]∧asD [DV.box [Cell.sl Cd.eItem s.Items,Cell.lit (Value.int IntKind.i64 s.Next)]]=asD [DV.box [Cell.sl Cd.eItem (assertS s f).1.Items,Cell.lit (Value.int IntKind.i64 (assertS s f).1.Next)]] else f.Fields.length≤(4294967296:Nat)∧s.Items.length+List.length [{Id:=s.Next,F:=f:DItem}]≤(4294967296:Nat)∧List.length (rcs [r0,r1,r2,r3,r4,r5])=List.length [r0,r1,r2,r3,r4,r5]∧(rcs [r0,r1,r2,r3,r4,r5])=List.map (fun(v:Value)=>AC.c (Cell.lit v)) [r0,r1,r2,r3,r4,r5]∧asD [DV.one (Cell.lit (Value.int IntKind.i64 (IntKind.wrap IntKind.i64 (IntKind.wrap IntKind.i64 (s.Next+(1:Int))-(1:Int)))))]=asD [DV.one (Cell.lit (Value.int IntKind.i64 (assertS s f).2))]∧asD [DV.box [Cell.sl Cd.eItem (s.Items++[{Id:=s.Next,F:=f:DItem}]),Cell.lit (Value.int IntKind.i64 (IntKind.wrap IntKind.i64 (s.Next+(1:Int))))]]=asD [DV.box [Cell.sl Cd.eItem (assertS s f).1.Items,Cell.lit (Value.int IntKind.i64 (assertS s f).1.Next)]]):=by kernel_rfl
theorem Zo132:Holds EE (132,Zk132):=by
 refine holds_ofX EE_ok Go.Proofs.Tryz.func132 Zk132 (by kernel_rfl) rfl Zu132 (us_ok _) Za132 (fun x hp hb rest hrest=> ?_)
 obtain⟨s,f⟩:=x
 have hl_s_Items:=bdX_eStore (x:=s) (hb _ m0)
 have hz1:=bd_eFact (x:=f) (hb _ m1)
 have hl_f_Kind:=hz1.1
 have hl_f_Fields:=hz1.2
 have hp0:storeOk s=true:=hp _ m0
 have hp1:f.Fields.length≤4294967296:=hp _ m1
 clear hp hb
 have hrest:rest.length=6:=hrest
 match rest,hrest with
 |[r0,r1,r2,r3,r4,r5],_=>
 rw[Zv132 s f r0 r1 r2 r3 r4 r5]
 obtain⟨s1,s2,s3,s4⟩:=store_facts hp0
 have h0:=idOf_nn hp0 f
 refine if_dec (fun h=>⟨rfl,rfl,?_⟩) (fun h=>if_dec (fun h2=>⟨rfl,rfl,?_⟩) (fun h2=>if_dec (fun h3=>⟨rfl,rfl,?_⟩) (fun h3=> ?_)))
 ·have e:assertS s f=(s,idOf s.Items f):=if_pos (by omega)
  rw[e];exact⟨rfl,rfl⟩
 ·have e:assertS s f=(s,0):=(if_neg (by omega)).trans (if_pos (.inl (by omega)))
  rw[e];exact⟨rfl,rfl⟩
 ·have e:assertS s f=(s,0):=(if_neg (by omega)).trans (if_pos (.inr (by omega)))
  rw[e];exact⟨rfl,rfl⟩
 ·have e:assertS s f=(⟨s.Items++[⟨s.Next,f⟩],s.Next+1⟩,s.Next):=(if_neg (by omega)).trans (if_neg (by omega))
  rw[e,wrap_i64 (n:=s.Next+1) (by omega) (by omega),wrap_i64 (by omega) (by omega),show s.Next+1-1=s.Next by omega]
  exact⟨hp1,by simp only[zbq,zbo];omega,rfl,rfl,rfl,rfl⟩
def Zh132:HH:=⟨_,Zo132⟩
def Zk62:Con UU where
 α:=DInst×DFact
 md:=[.box true,.ro]
 of:=oC (oX .eInst) (o1 (oA .eFact))
 ds:=fun x=>[dX .eInst x.1,dA .eFact x.2]
 pre:=fun(x,f)=>[goodX x,storeOk x.S=true,f.Fields.length≤4294967296]
 res:=fun(x,f)=>⟨[],true,[.box [.sl .eItem (((learnI x f)).S).Items,.lit (.int .i64 (((learnI x f)).S).Next),.sl .eMatch ((learnI x f)).Fired,.sl .eTask ((learnI x f)).Tasks,.sl .eTimer ((learnI x f)).Timers,.sl .eUndo ((learnI x f)).Undos,.lit (.int .i64 ((learnI x f)).State),.lit (.int .i64 ((learnI x f)).Now)]]⟩
 law:=lC (lX .eInst) (l1 (lA .eFact))
def Za62:Zk62.α→Nat→Option (Ann UU):=fun(x,f)=>annL []
def Zu62:=us [Zh136,Zh137]
theorem Zv62(x:DInst)(f:DFact):goal EE Zu62 Go.Proofs.Tryz.f62 Zk62 Za62 (x,f)=(let x1:DInst:={S:=(assertS {Items:={τ:=Cd.eItem,xs:=x.S.Items:Arr UU}.xs,Next:=x.S.Next:DStore} {Kind:=f.Kind,Fields:=f.Fields:DFact}).1,Fired:=x.Fired,Tasks:=x.Tasks,Timers:=x.Timers,Undos:=x.Undos,State:=x.State,Now:=x.Now:DInst};
let x0:DInst:=turnI x1 (3:Int);
storeOk x.S=true∧List.length f.Fields≤(4294967296:Nat)∧bif !decide ¬(assertS {Items:={τ:=Cd.eItem,xs:=x.S.Items:Arr UU}.xs,Next:=x.S.Next:DStore} {Kind:=f.Kind,Fields:=f.Fields:DFact}).2=(0:Int) then goodX x1∧(0:Nat)=(0:Nat)∧asD []=asD []∧asD [DV.box [Cell.sl Cd.eItem x0.S.Items,Cell.lit (Value.int IntKind.i64 x0.S.Next),Cell.sl Cd.eMatch x0.Fired,Cell.sl Cd.eTask x0.Tasks,Cell.sl Cd.eTimer x0.Timers,Cell.sl Cd.eUndo x0.Undos,Cell.lit (Value.int IntKind.i64 x0.State),Cell.lit (Value.int IntKind.i64 x0.Now)]]=asD [DV.box [Cell.sl Cd.eItem (learnI x f).S.Items,Cell.lit (Value.int IntKind.i64 (learnI x f).S.Next),Cell.sl Cd.eMatch (learnI x f).Fired,Cell.sl Cd.eTask (learnI x f).Tasks,Cell.sl Cd.eTimer (learnI x f).Timers,Cell.sl Cd.eUndo (learnI x f).Undos,Cell.lit (Value.int IntKind.i64 (learnI x f).State),Cell.lit (Value.int IntKind.i64 (learnI x f).Now)]] else(0:Nat)=(0:Nat)∧asD []=asD []∧asD [DV.box [Cell.sl Cd.eItem (assertS {Items:={τ:=Cd.eItem,xs:=x.S.Items:Arr UU}.xs,Next:=x.S.Next:DStore} {Kind:=f.Kind,Fields:=f.Fields:DFact}).1.Items,Cell.lit (Value.int IntKind.i64 (assertS {Items:={τ:=Cd.eItem,xs:=x.S.Items:Arr UU}.xs,Next:=x.S.Next:DStore} {Kind:=f.Kind,Fields:=f.Fields:DFact}).1.Next),Cell.sl Cd.eMatch x.Fired,Cell.sl Cd.eTask x.Tasks,Cell.sl Cd.eTimer x.Timers,Cell.sl Cd.eUndo x.Undos,Cell.lit (Value.int IntKind.i64 x.State),Cell.lit (Value.int IntKind.i64 x.Now)]]=asD [DV.box [Cell.sl Cd.eItem (learnI x f).S.Items,Cell.lit (Value.int IntKind.i64 (learnI x f).S.Next),Cell.sl Cd.eMatch (learnI x f).Fired,Cell.sl Cd.eTask (learnI x f).Tasks,Cell.sl Cd.eTimer (learnI x f).Timers,Cell.sl Cd.eUndo (learnI x f).Undos,Cell.lit (Value.int IntKind.i64 (learnI x f).State),Cell.lit (Value.int IntKind.i64 (learnI x f).Now)]]):=by kernel_rfl
theorem Zo62:Holds EE (62,Zk62):=by
 refine holds_of EE_ok Go.Proofs.Tryz.func62 Zk62 (by kernel_rfl) Zu62 (us_ok _) Za62 (fun x hp hb=> ?_)
 obtain⟨x,f⟩:=x
 have hz0:=bdX_eInst (x:=x) (hb _ m0)
 have hl_x_S_Items:=hz0.1
 have hl_x_Fired:=hz0.2.1
 have hl_x_Tasks:=hz0.2.2.1
 have hl_x_Timers:=hz0.2.2.2.1
 have hl_x_Undos:=hz0.2.2.2.2
 have hz1:=bd_eFact (x:=f) (hb _ m1)
 have hl_f_Kind:=hz1.1
 have hl_f_Fields:=hz1.2
 have hp0:goodX x:=hp _ m0
 have hp1:storeOk x.S=true:=hp _ m1
 have hp2:f.Fields.length≤4294967296:=hp _ m2
 clear hp hb
 rw[Zv62 x f]
 dsimp only
 have hS:(⟨x.S.Items,x.S.Next⟩:DStore)=x.S:=rfl
 have hF:(⟨f.Kind,f.Fields⟩:DFact)=f:=rfl
 simp only[hS,hF]
 refine⟨hp1,hp2,if_not (fun h=> ?_) (fun h=> ?_)⟩
 ·have h:(assertS x.S f).2=0:=by simpa using h
  have hz:=assert_zero hp1 h
  have e:learnI x f=turnI x 3:=if_pos h
  rw[e,hz]
  exact⟨hp0,by trivial,by trivial,rfl⟩
 ·have h:¬(assertS x.S f).2=0:=by simpa using h
  have e:learnI x f=withS x (assertS x.S f).1:=if_neg h
  rw[e]
  exact⟨by trivial,by trivial,rfl⟩
def Zh62:HH:=⟨_,Zo62⟩
def Zk59:Con UU where
 α:=DInst×DFact
 md:=[.box true,.ro]
 of:=oC (oX .eInst) (o1 (oA .eFact))
 ds:=fun x=>[dX .eInst x.1,dA .eFact x.2]
 pre:=fun(x,f)=>[goodX x,storeOk x.S=true,f.Fields.length≤4294967296]
 res:=fun(x,f)=>⟨[],true,[.box [.sl .eItem (((learnI x f)).S).Items,.lit (.int .i64 (((learnI x f)).S).Next),.sl .eMatch ((learnI x f)).Fired,.sl .eTask ((learnI x f)).Tasks,.sl .eTimer ((learnI x f)).Timers,.sl .eUndo ((learnI x f)).Undos,.lit (.int .i64 ((learnI x f)).State),.lit (.int .i64 ((learnI x f)).Now)]]⟩
 law:=lC (lX .eInst) (l1 (lA .eFact))
def Za59:Zk59.α→Nat→Option (Ann UU):=fun(x,f)=>annL []
def Zu59:=us [Zh132,Zh30]
theorem Zv59(x:DInst)(f:DFact):goal EE Zu59 Go.Proofs.Tryz.f59 Zk59 Za59 (x,f)=(let x1:DInst:={S:=(assertS {Items:={τ:=Cd.eItem,xs:=x.S.Items:Arr UU}.xs,Next:=x.S.Next:DStore} {Kind:=f.Kind,Fields:=f.Fields:DFact}).1,Fired:=x.Fired,Tasks:=x.Tasks,Timers:=x.Timers,Undos:=x.Undos,State:=x.State,Now:=x.Now:DInst};
let x0:DInst:=turnI x1 (3:Int);
storeOk x.S=true∧List.length f.Fields≤(4294967296:Nat)∧bif (assertS {Items:={τ:=Cd.eItem,xs:=x.S.Items:Arr UU}.xs,Next:=x.S.Next:DStore} {Kind:=f.Kind,Fields:=f.Fields:DFact}).2==(0:Int) then goodX x1∧((3:Int)=(3:Int)∨(3:Int)=(5:Int))∧(0:Nat)=(0:Nat)∧asD []=asD []∧asD [DV.box [Cell.sl Cd.eItem x0.S.Items,Cell.lit (Value.int IntKind.i64 x0.S.Next),Cell.sl Cd.eMatch x0.Fired,Cell.sl Cd.eTask x0.Tasks,Cell.sl Cd.eTimer x0.Timers,Cell.sl Cd.eUndo x0.Undos,Cell.lit (Value.int IntKind.i64 x0.State),Cell.lit (Value.int IntKind.i64 x0.Now)]]=asD [DV.box [Cell.sl Cd.eItem (learnI x f).S.Items,Cell.lit (Value.int IntKind.i64 (learnI x f).S.Next),Cell.sl Cd.eMatch (learnI x f).Fired,Cell.sl Cd.eTask (learnI x f).Tasks,Cell.sl Cd.eTimer (learnI x f).Timers,Cell.sl Cd.eUndo (learnI x f).Undos,Cell.lit (Value.int IntKind.i64 (learnI x f).State),Cell.lit (Value.int IntKind.i64 (learnI x f).Now)]] else(0:Nat)=(0:Nat)∧asD []=asD []∧asD [DV.box [Cell.sl Cd.eItem (assertS {Items:={τ:=Cd.eItem,xs:=x.S.Items:Arr UU}.xs,Next:=x.S.Next:DStore} {Kind:=f.Kind,Fields:=f.Fields:DFact}).1.Items,Cell.lit (Value.int IntKind.i64 (assertS {Items:={τ:=Cd.eItem,xs:=x.S.Items:Arr UU}.xs,Next:=x.S.Next:DStore} {Kind:=f.Kind,Fields:=f.Fields:DFact}).1.Next),Cell.sl Cd.eMatch x.Fired,Cell.sl Cd.eTask x.Tasks,Cell.sl Cd.eTimer x.Timers,Cell.sl Cd.eUndo x.Undos,Cell.lit (Value.int IntKind.i64 x.State),Cell.lit (Value.int IntKind.i64 x.Now)]]=asD [DV.box [Cell.sl Cd.eItem (learnI x f).S.Items,Cell.lit (Value.int IntKind.i64 (learnI x f).S.Next),Cell.sl Cd.eMatch (learnI x f).Fired,Cell.sl Cd.eTask (learnI x f).Tasks,Cell.sl Cd.eTimer (learnI x f).Timers,Cell.sl Cd.eUndo (learnI x f).Undos,Cell.lit (Value.int IntKind.i64 (learnI x f).State),Cell.lit (Value.int IntKind.i64 (learnI x f).Now)]]):=by kernel_rfl
theorem Zo59:Holds EE (59,Zk59):=by
 refine holds_of EE_ok Go.Proofs.Tryz.func59 Zk59 (by kernel_rfl) Zu59 (us_ok _) Za59 (fun x hp hb=> ?_)
 obtain⟨x,f⟩:=x
 have hz0:=bdX_eInst (x:=x) (hb _ m0)
 have hl_x_S_Items:=hz0.1
 have hl_x_Fired:=hz0.2.1
 have hl_x_Tasks:=hz0.2.2.1
 have hl_x_Timers:=hz0.2.2.2.1
 have hl_x_Undos:=hz0.2.2.2.2
 have hz1:=bd_eFact (x:=f) (hb _ m1)
 have hl_f_Kind:=hz1.1
 have hl_f_Fields:=hz1.2
 have hp0:goodX x:=hp _ m0
 have hp1:storeOk x.S=true:=hp _ m1
 have hp2:f.Fields.length≤4294967296:=hp _ m2
 clear hp hb
 rw[Zv59 x f]
 dsimp only
 have hS:(⟨x.S.Items,x.S.Next⟩:DStore)=x.S:=rfl
 have hF:(⟨f.Kind,f.Fields⟩:DFact)=f:=rfl
 simp only[hS,hF]
 refine⟨hp1,hp2,if_num (fun h=> ?_) (fun h=> ?_)⟩
 ·have hz:=assert_zero hp1 h
  have e:learnI x f=turnI x 3:=if_pos h
  rw[e,hz]
  exact⟨hp0,.inl trivial,by trivial,by trivial,rfl⟩
 ·have e:learnI x f=withS x (assertS x.S f).1:=if_neg h
  rw[e]
  exact⟨by trivial,by trivial,rfl⟩
def Zh59:HH:=⟨_,Zo59⟩
def Zk19:Con UU where
 α:=DDef×DInst×DFact
 md:=[.ro,.ro,.ro]
 of:=oC (oA .eDef) (oC (oA .eInst) (o1 (oA .eFact)))
 ds:=fun x=>[dA .eDef x.1,dA .eInst x.2.1,dA .eFact x.2.2]
 pre:=fun(d,x,f)=>[sizeDef d≤4294967295,sizeInst x≤4294967295]
 res:=fun(d,x,f)=>⟨[.agg [.sl .eItem (((tellI d x f)).S).Items,.lit (.int .i64 (((tellI d x f)).S).Next),.sl .eMatch ((tellI d x f)).Fired,.sl .eTask ((tellI d x f)).Tasks,.sl .eTimer ((tellI d x f)).Timers,.sl .eUndo ((tellI d x f)).Undos,.lit (.int .i64 ((tellI d x f)).State),.lit (.int .i64 ((tellI d x f)).Now)],.one (.lit (.bool (tellOk d x f)))],true,[]⟩
 law:=lC (lA .eDef) (lC (lA .eInst) (l1 (lA .eFact)))
def Za19:Zk19.α→Nat→Option (Ann UU):=fun(d,x,f)=>annL []
def Zu19:=us [Zh37,Zh61,Zh38,Zh62]
theorem Zv19(d:DDef)(x:DInst)(f:DFact):goal EE Zu19 Go.Proofs.Tryz.f19 Zk19 Za19 (d,x,f)=(sizeInst x≤(4294967296:Nat)∧bif x.State !=(1:Int) then Lf [DV.agg [Cell.sl Cd.eItem x.S.Items,Cell.lit (Value.int IntKind.i64 x.S.Next),Cell.sl Cd.eMatch x.Fired,Cell.sl Cd.eTask x.Tasks,Cell.sl Cd.eTimer x.Timers,Cell.sl Cd.eUndo x.Undos,Cell.lit (Value.int IntKind.i64 x.State),Cell.lit (Value.int IntKind.i64 x.Now)],DV.one (Cell.lit (Value.bool false))] [DV.agg [Cell.sl Cd.eItem (tellI d x f).S.Items,Cell.lit (Value.int IntKind.i64 (tellI d x f).S.Next),Cell.sl Cd.eMatch (tellI d x f).Fired,Cell.sl Cd.eTask (tellI d x f).Tasks,Cell.sl Cd.eTimer (tellI d x f).Timers,Cell.sl Cd.eUndo (tellI d x f).Undos,Cell.lit (Value.int IntKind.i64 (tellI d x f).State),Cell.lit (Value.int IntKind.i64 (tellI d x f).Now)],DV.one (Cell.lit (Value.bool (tellOk d x f)))] else bif !factOk f then Lf [DV.agg [Cell.sl Cd.eItem x.S.Items,Cell.lit (Value.int IntKind.i64 x.S.Next),Cell.sl Cd.eMatch x.Fired,Cell.sl Cd.eTask x.Tasks,Cell.sl Cd.eTimer x.Timers,Cell.sl Cd.eUndo x.Undos,Cell.lit (Value.int IntKind.i64 x.State),Cell.lit (Value.int IntKind.i64 x.Now)],DV.one (Cell.lit (Value.bool false))] [DV.agg [Cell.sl Cd.eItem (tellI d x f).S.Items,Cell.lit (Value.int IntKind.i64 (tellI d x f).S.Next),Cell.sl Cd.eMatch (tellI d x f).Fired,Cell.sl Cd.eTask (tellI d x f).Tasks,Cell.sl Cd.eTimer (tellI d x f).Timers,Cell.sl Cd.eUndo (tellI d x f).Undos,Cell.lit (Value.int IntKind.i64 (tellI d x f).State),Cell.lit (Value.int IntKind.i64 (tellI d x f).Now)],DV.one (Cell.lit (Value.bool (tellOk d x f)))] else sizeDef d≤(4294967295:Nat)∧sizeItemS x.S.Items≤(4294967296:Nat)∧bif !instOk d x then Lf [DV.agg [Cell.sl Cd.eItem x.S.Items,Cell.lit (Value.int IntKind.i64 x.S.Next),Cell.sl Cd.eMatch x.Fired,Cell.sl Cd.eTask x.Tasks,Cell.sl Cd.eTimer x.Timers,Cell.sl Cd.eUndo x.Undos,Cell.lit (Value.int IntKind.i64 x.State),Cell.lit (Value.int IntKind.i64 x.Now)],DV.one (Cell.lit (Value.bool false))] [DV.agg [Cell.sl Cd.eItem (tellI d x f).S.Items,Cell.lit (Value.int IntKind.i64 (tellI d x f).S.Next),Cell.sl Cd.eMatch (tellI d x f).Fired,Cell.sl Cd.eTask (tellI d x f).Tasks,Cell.sl Cd.eTimer (tellI d x f).Timers,Cell.sl Cd.eUndo (tellI d x f).Undos,Cell.lit (Value.int IntKind.i64 (tellI d x f).State),Cell.lit (Value.int IntKind.i64 (tellI d x f).Now)],DV.one (Cell.lit (Value.bool (tellOk d x f)))] else goodX x∧storeOk x.S=true∧f.Fields.length≤(4294967296:Nat)∧Lf [DV.agg [Cell.sl Cd.eItem (learnI x f).S.Items,Cell.lit (Value.int IntKind.i64 (learnI x f).S.Next),Cell.sl Cd.eMatch (learnI x f).Fired,Cell.sl Cd.eTask (learnI x f).Tasks,Cell.sl Cd.eTimer (learnI x f).Timers,Cell.sl Cd.eUndo (learnI x f).Undos,Cell.lit (Value.int IntKind.i64 (learnI x f).State),Cell.lit (Value.int IntKind.i64 (learnI x f).Now)],DV.one (Cell.lit (Value.bool true))] [DV.agg [Cell.sl Cd.eItem (tellI d x f).S.Items,Cell.lit (Value.int IntKind.i64 (tellI d x f).S.Next),Cell.sl Cd.eMatch (tellI d x f).Fired,Cell.sl Cd.eTask (tellI d x f).Tasks,Cell.sl Cd.eTimer (tellI d x f).Timers,Cell.sl Cd.eUndo (tellI d x f).Undos,Cell.lit (Value.int IntKind.i64 (tellI d x f).State),Cell.lit (Value.int IntKind.i64 (tellI d x f).Now)],DV.one (Cell.lit (Value.bool (tellOk d x f)))]):=by kernel_rfl
theorem Zo19:Holds EE (19,Zk19):=by
 refine holds_of EE_ok Go.Proofs.Tryz.func19 Zk19 (by kernel_rfl) Zu19 (us_ok _) Za19 (fun x hp hb=> ?_)
 obtain⟨d,x,f⟩:=x
 have hz0:=bd_eDef (x:=d) (hb _ m0)
 have hl_d_Name:=hz0.1
 have hl_d_Rules:=hz0.2
 have hz1:=bd_eInst (x:=x) (hb _ m1)
 have hl_x_S_Items:=hz1.1
 have hl_x_Fired:=hz1.2.1
 have hl_x_Tasks:=hz1.2.2.1
 have hl_x_Timers:=hz1.2.2.2.1
 have hl_x_Undos:=hz1.2.2.2.2
 have hz2:=bd_eFact (x:=f) (hb _ m2)
 have hl_f_Kind:=hz2.1
 have hl_f_Fields:=hz2.2
 have hp0:sizeDef d≤4294967295:=hp _ m0
 have hp1:sizeInst x≤4294967295:=hp _ m1
 clear hp hb
 rw[Zv19 d x f]
 have hi:=ctInst_items x
 refine⟨by omega,if_neq (fun h=>tell_no ?_) (fun h=>if_not (fun g=>tell_no ?_) (fun g=>⟨hp0,by omega,if_not (fun k=>tell_no ?_) (fun k=> ?_)⟩))⟩
 ·rw[tellOk,decide_eq_false h];rfl
 ·rw[tellOk,show factOk f=false from g,zbs];rfl
 ·rw[tellOk,show instOk d x=false from k,zbs]
 ·have e:tellOk d x f=true:=by rw[tellOk,decide_eq_true h,show instOk d x=true from k,show factOk f=true from g];rfl
  exact⟨good_inst k,store_inst k,by have:=(factK g).1;omega,LfX (by rw[tellI,if_pos e]) e.symm⟩
def Zh19:HH:=⟨_,Zo19⟩
def Zk17:Con UU where
 α:=DDef×DInst×DFact
 md:=[.ro,.ro,.ro]
 of:=oC (oA .eDef) (oC (oA .eInst) (o1 (oA .eFact)))
 ds:=fun x=>[dA .eDef x.1,dA .eInst x.2.1,dA .eFact x.2.2]
 pre:=fun(d,x,f)=>[sizeDef d≤4294967295,sizeInst x≤4294967295]
 res:=fun(d,x,f)=>⟨[.agg [.sl .eItem (((tellI d x f)).S).Items,.lit (.int .i64 (((tellI d x f)).S).Next),.sl .eMatch ((tellI d x f)).Fired,.sl .eTask ((tellI d x f)).Tasks,.sl .eTimer ((tellI d x f)).Timers,.sl .eUndo ((tellI d x f)).Undos,.lit (.int .i64 ((tellI d x f)).State),.lit (.int .i64 ((tellI d x f)).Now)],.one (.lit (.bool (tellOk d x f)))],true,[]⟩
 law:=lC (lA .eDef) (lC (lA .eInst) (l1 (lA .eFact)))
def Za17:Zk17.α→Nat→Option (Ann UU):=fun(d,x,f)=>annL []
def Zu17:=us [Zh28,Zh29,Zh58,Zh59]
theorem Zv17(d:DDef)(x:DInst)(f:DFact):goal EE Zu17 Go.Proofs.Tryz.f17 Zk17 Za17 (d,x,f)=(sizeInst x≤(4294967296:Nat)∧sizeDef d≤(4294967295:Nat)∧sizeItemS x.S.Items≤(4294967296:Nat)∧bif !instOk d x then Lf [DV.agg [Cell.sl Cd.eItem x.S.Items,Cell.lit (Value.int IntKind.i64 x.S.Next),Cell.sl Cd.eMatch x.Fired,Cell.sl Cd.eTask x.Tasks,Cell.sl Cd.eTimer x.Timers,Cell.sl Cd.eUndo x.Undos,Cell.lit (Value.int IntKind.i64 x.State),Cell.lit (Value.int IntKind.i64 x.Now)],DV.one (Cell.lit (Value.bool false))] [DV.agg [Cell.sl Cd.eItem (tellI d x f).S.Items,Cell.lit (Value.int IntKind.i64 (tellI d x f).S.Next),Cell.sl Cd.eMatch (tellI d x f).Fired,Cell.sl Cd.eTask (tellI d x f).Tasks,Cell.sl Cd.eTimer (tellI d x f).Timers,Cell.sl Cd.eUndo (tellI d x f).Undos,Cell.lit (Value.int IntKind.i64 (tellI d x f).State),Cell.lit (Value.int IntKind.i64 (tellI d x f).Now)],DV.one (Cell.lit (Value.bool (tellOk d x f)))] else bif x.State !=(1:Int) then Lf [DV.agg [Cell.sl Cd.eItem x.S.Items,Cell.lit (Value.int IntKind.i64 x.S.Next),Cell.sl Cd.eMatch x.Fired,Cell.sl Cd.eTask x.Tasks,Cell.sl Cd.eTimer x.Timers,Cell.sl Cd.eUndo x.Undos,Cell.lit (Value.int IntKind.i64 x.State),Cell.lit (Value.int IntKind.i64 x.Now)],DV.one (Cell.lit (Value.bool false))] [DV.agg [Cell.sl Cd.eItem (tellI d x f).S.Items,Cell.lit (Value.int IntKind.i64 (tellI d x f).S.Next),Cell.sl Cd.eMatch (tellI d x f).Fired,Cell.sl Cd.eTask (tellI d x f).Tasks,Cell.sl Cd.eTimer (tellI d x f).Timers,Cell.sl Cd.eUndo (tellI d x f).Undos,Cell.lit (Value.int IntKind.i64 (tellI d x f).State),Cell.lit (Value.int IntKind.i64 (tellI d x f).Now)],DV.one (Cell.lit (Value.bool (tellOk d x f)))] else bif !factOk f then Lf [DV.agg [Cell.sl Cd.eItem x.S.Items,Cell.lit (Value.int IntKind.i64 x.S.Next),Cell.sl Cd.eMatch x.Fired,Cell.sl Cd.eTask x.Tasks,Cell.sl Cd.eTimer x.Timers,Cell.sl Cd.eUndo x.Undos,Cell.lit (Value.int IntKind.i64 x.State),Cell.lit (Value.int IntKind.i64 x.Now)],DV.one (Cell.lit (Value.bool false))] [DV.agg [Cell.sl Cd.eItem (tellI d x f).S.Items,Cell.lit (Value.int IntKind.i64 (tellI d x f).S.Next),Cell.sl Cd.eMatch (tellI d x f).Fired,Cell.sl Cd.eTask (tellI d x f).Tasks,Cell.sl Cd.eTimer (tellI d x f).Timers,Cell.sl Cd.eUndo (tellI d x f).Undos,Cell.lit (Value.int IntKind.i64 (tellI d x f).State),Cell.lit (Value.int IntKind.i64 (tellI d x f).Now)],DV.one (Cell.lit (Value.bool (tellOk d x f)))] else goodX x∧storeOk x.S=true∧f.Fields.length≤(4294967296:Nat)∧Lf [DV.agg [Cell.sl Cd.eItem (learnI x f).S.Items,Cell.lit (Value.int IntKind.i64 (learnI x f).S.Next),Cell.sl Cd.eMatch (learnI x f).Fired,Cell.sl Cd.eTask (learnI x f).Tasks,Cell.sl Cd.eTimer (learnI x f).Timers,Cell.sl Cd.eUndo (learnI x f).Undos,Cell.lit (Value.int IntKind.i64 (learnI x f).State),Cell.lit (Value.int IntKind.i64 (learnI x f).Now)],DV.one (Cell.lit (Value.bool true))] [DV.agg [Cell.sl Cd.eItem (tellI d x f).S.Items,Cell.lit (Value.int IntKind.i64 (tellI d x f).S.Next),Cell.sl Cd.eMatch (tellI d x f).Fired,Cell.sl Cd.eTask (tellI d x f).Tasks,Cell.sl Cd.eTimer (tellI d x f).Timers,Cell.sl Cd.eUndo (tellI d x f).Undos,Cell.lit (Value.int IntKind.i64 (tellI d x f).State),Cell.lit (Value.int IntKind.i64 (tellI d x f).Now)],DV.one (Cell.lit (Value.bool (tellOk d x f)))]):=by kernel_rfl
theorem Zo17:Holds EE (17,Zk17):=by
 refine holds_of EE_ok Go.Proofs.Tryz.func17 Zk17 (by kernel_rfl) Zu17 (us_ok _) Za17 (fun x hp hb=> ?_)
 obtain⟨d,x,f⟩:=x
 have hz0:=bd_eDef (x:=d) (hb _ m0)
 have hl_d_Name:=hz0.1
 have hl_d_Rules:=hz0.2
 have hz1:=bd_eInst (x:=x) (hb _ m1)
 have hl_x_S_Items:=hz1.1
 have hl_x_Fired:=hz1.2.1
 have hl_x_Tasks:=hz1.2.2.1
 have hl_x_Timers:=hz1.2.2.2.1
 have hl_x_Undos:=hz1.2.2.2.2
 have hz2:=bd_eFact (x:=f) (hb _ m2)
 have hl_f_Kind:=hz2.1
 have hl_f_Fields:=hz2.2
 have hp0:sizeDef d≤4294967295:=hp _ m0
 have hp1:sizeInst x≤4294967295:=hp _ m1
 clear hp hb
 rw[Zv17 d x f]
 have hi:=ctInst_items x
 refine⟨by omega,hp0,by omega,if_not (fun k=>tell_no ?_) (fun k=>if_neq (fun h=>tell_no ?_) (fun h=>if_not (fun g=>tell_no ?_) (fun g=> ?_)))⟩
 ·rw[tellOk,show instOk d x=false from k,zbs]
 ·rw[tellOk,decide_eq_false h];rfl
 ·rw[tellOk,show factOk f=false from g,zbs];rfl
 ·have e:tellOk d x f=true:=by rw[tellOk,decide_eq_true h,show instOk d x=true from k,show factOk f=true from g];rfl
  exact⟨good_inst k,store_inst k,by have:=(factK g).1;omega,LfX (by rw[tellI,if_pos e]) e.symm⟩
def Zh17:HH:=⟨_,Zo17⟩
theorem tell_size(d:DDef)(x:DInst)(f:DFact):sizeInst (tellI d x f)≤sizeInst x+12500:=by
 unfold tellI;split
 ·rename_i h
  simp only[tellOk,zaf] at h
  have h1:=learn_size (good_inst h.2) (store_inst h.2) f
  have h2:=(factK h.1.2).2
  omega
 ·omega
theorem mkInst_eta4(y:DInst)(k:Int):(⟨⟨(mkInst y k).S.Items,y.S.Next⟩,(mkInst y k).Fired,(mkInst y k).Tasks,(mkInst y k).Timers,(mkInst y k).Undos,y.State,y.Now⟩:DInst)=mkInst y k:=rfl
def con_laws_FnExactTellInst:Con UU where
 α:=DDef×DInst×DFact
 md:=[.ro,.ro,.ro]
 of:=oC (oA .lDef) (oC (oA .lInst) (o1 (oA .lFact)))
 ds:=fun x=>[dA .lDef x.1,dA .lInst x.2.1,dA .lFact x.2.2]
 pre:=fun _=>[]
 res:=fun(aD,aX,aF)=>⟨[.one (.lit (.bool true))],true,[]⟩
 law:=lC (lA .lDef) (lC (lA .lInst) (l1 (lA .lFact)))
def ann_laws_FnExactTellInst:con_laws_FnExactTellInst.α→Nat→Option (Ann UU):=fun(aD,aX,aF)=>annL []
def use_laws_FnExactTellInst:=us [Zh5,Zh6,Zh16,Zh8,Zh9,Zh18,Zh17,Zh19,Zh11,Zh12,Zh20,Zh13,Zh14,Zh21,Zh15]
theorem vc_laws_FnExactTellInst(aD:DDef)(aX:DInst)(aF:DFact):goal EE use_laws_FnExactTellInst Go.Proofs.Tryz.f4 con_laws_FnExactTellInst ann_laws_FnExactTellInst (aD,aX,aF)=(let x4:DInst:=mkInst (tellI aD aX aF) (1:Int);
let x6:Int:=(1:Int)+(↑(ctDef aD):Int);
let x7:Bool:= !decide (tellI aD aX aF=tellI aD aX aF);
let x8:Bool:= !tellOk aD aX aF==tellOk aD aX aF;
let x9:Int:=szr (1048576:Int) (sizeDef aD);
let x11:Int:=(1:Int)+(↑(ctInst (tellI aD aX aF)):Int);
let x2:DInst:={S:={Items:=x4.S.Items,Next:=(tellI aD aX aF).S.Next:DStore},Fired:=x4.Fired,Tasks:=x4.Tasks,Timers:=x4.Timers,Undos:=x4.Undos,State:=(tellI aD aX aF).State,Now:=(tellI aD aX aF).Now:DInst};
let x3:Int:=x6+(↑(ctInst aX):Int);
let x5:Int:=szr x9 (sizeInst aX);
let x1:Int:=if mkInst x2 (1:Int)=x2 then(1:Int)+(↑(ctInst x2):Int) else(-1:Int);
let x10:Bool:=x1 !=x11;
let x0:Bool:=decide (x1<(0:Int));
(0:Int)≤(1048576:Int)∧bif decide (x9<(0:Int)) then Lf [DV.one (Cell.lit (Value.bool true))] [DV.one (Cell.lit (Value.bool true))] else(0:Int)≤x9∧bif decide (x5<(0:Int)) then Lf [DV.one (Cell.lit (Value.bool true))] [DV.one (Cell.lit (Value.bool true))] else(0:Int)≤x5∧bif decide (szr x5 (sizeFact aF)<(0:Int)) then Lf [DV.one (Cell.lit (Value.bool true))] [DV.one (Cell.lit (Value.bool true))] else sizeDef aD≤(4294967296:Nat)∧sizeInst aX≤(4294967296:Nat)∧sizeFact aF≤(4294967296:Nat)∧sizeDef aD≤(4294967295:Nat)∧sizeInst aX≤(4294967295:Nat)∧sizeDef aD≤(4294967296:Nat)∧sizeInst aX≤(4294967296:Nat)∧sizeFact aF≤(4294967296:Nat)∧sizeDef aD≤(4294967295:Nat)∧sizeInst aX≤(4294967295:Nat)∧bif x7 then Lf [DV.one (Cell.lit (Value.bool false))] [DV.one (Cell.lit (Value.bool true))] else bif x8 then Lf [DV.one (Cell.lit (Value.bool false))] [DV.one (Cell.lit (Value.bool true))] else sizeDef aD≤(4294967296:Nat)∧bif !decide (aD=aD) then Lf [DV.one (Cell.lit (Value.bool false))] [DV.one (Cell.lit (Value.bool true))] else sizeInst aX≤(4294967296:Nat)∧bif !decide (aX=aX) then Lf [DV.one (Cell.lit (Value.bool false))] [DV.one (Cell.lit (Value.bool true))] else sizeFact aF≤(4294967296:Nat)∧bif !decide (aF=aF) then Lf [DV.one (Cell.lit (Value.bool false))] [DV.one (Cell.lit (Value.bool true))] else(0:Int)≤(1:Int)∧x6≤(4611686018427387904:Int)∧(0:Int)≤x6∧x3≤(4611686018427387904:Int)∧(0:Int)≤x3∧x3+(↑(ctFact aF):Int)≤(4611686018427387904:Int)∧bif x7 then Lf [DV.one (Cell.lit (Value.bool false))] [DV.one (Cell.lit (Value.bool true))] else bif x8 then Lf [DV.one (Cell.lit (Value.bool false))] [DV.one (Cell.lit (Value.bool true))] else(0:Int)≤(1:Int)∧x11≤(4611686018427387904:Int)∧(0:Int)≤(1:Int)∧(1:Int)+(↑(ctInst x2):Int)≤(4611686018427387904:Int)∧bif x0 then Lf [DV.one (Cell.lit (Value.bool false))] [DV.one (Cell.lit (Value.bool true))] else bif x10 then Lf [DV.one (Cell.lit (Value.bool false))] [DV.one (Cell.lit (Value.bool true))] else sizeDef aD≤(4294967296:Nat)∧sizeInst aX≤(4294967296:Nat)∧sizeFact aF≤(4294967296:Nat)∧sizeDef aD≤(4294967295:Nat)∧sizeInst aX≤(4294967295:Nat)∧bif x7 then Lf [DV.one (Cell.lit (Value.bool false))] [DV.one (Cell.lit (Value.bool true))] else bif x8 then Lf [DV.one (Cell.lit (Value.bool false))] [DV.one (Cell.lit (Value.bool true))] else(0:Int)≤(1:Int)∧(1:Int)+(↑(ctInst x2):Int)≤(4611686018427387904:Int)∧bif x0 then Lf [DV.one (Cell.lit (Value.bool false))] [DV.one (Cell.lit (Value.bool true))] else bif x10 then Lf [DV.one (Cell.lit (Value.bool false))] [DV.one (Cell.lit (Value.bool true))] else Lf [DV.one (Cell.lit (Value.bool true))] [DV.one (Cell.lit (Value.bool true))]):=by kernel_rfl
theorem ok_laws_FnExactTellInst:Holds EE (4,con_laws_FnExactTellInst):=by
 refine holds_of EE_ok Go.Proofs.Tryz.func4 con_laws_FnExactTellInst (by kernel_rfl) use_laws_FnExactTellInst (us_ok _) ann_laws_FnExactTellInst (fun x hp hb=> ?_)
 obtain⟨aD,aX,aF⟩:=x
 have hz0:=bd_lDef (x:=aD) (hb _ m0)
 have hl_aD_Name:=hz0.1
 have hl_aD_Rules:=hz0.2
 have hz1:=bd_lInst (x:=aX) (hb _ m1)
 have hl_aX_S_Items:=hz1.1
 have hl_aX_Fired:=hz1.2.1
 have hl_aX_Tasks:=hz1.2.2.1
 have hl_aX_Timers:=hz1.2.2.2.1
 have hl_aX_Undos:=hz1.2.2.2.2
 have hz2:=bd_lFact (x:=aF) (hb _ m2)
 have hl_aF_Kind:=hz2.1
 have hl_aF_Fields:=hz2.2
 clear hp hb
 rw[vc_laws_FnExactTellInst aD aX aF]
 dsimp only
 refine⟨by omega,if_cond (fun h=>Lf_rfl _) (fun h=> ?_)⟩
 obtain⟨e0,h0⟩:=szr_pos h
 refine⟨by omega,if_cond (fun h=>Lf_rfl _) (fun h=> ?_)⟩
 obtain⟨e1,h1⟩:=szr_pos h
 refine⟨by omega,if_cond (fun h=>Lf_rfl _) (fun h=> ?_)⟩
 obtain⟨e2,h2⟩:=szr_pos h
 have hc:=ctDef_le aD
 have hc1:=ctInst_le aX
 have hcf:=ctFact_le aF
 have hc2:=ctInst_le (tellI aD aX aF)
 have hc3:=tell_size aD aX aF
 simp only[mkInst_eta4,mkInst_idem,mkInst_ct,if_true]
 repeat' (first|exact Lf_rfl _|refine And.intro (by omega) ?_|refine if_cond (fun h=>absurd h (by first|(simp;done)|(simp;omega))) (fun h=> ?_)|fail)
def h_laws_FnExactTellInst:HH:=⟨_,ok_laws_FnExactTellInst⟩
end
end AM
