/- Functions of the program with their contracts: put together by gen/link.py for FnExactReplyInst. -/
import Derived.Test.YtmkiahpojiomiaaGreatDoorAmLib
import Derived.Test.YtmkiahpojiomiaaGreatDoorFExactReplyInst3
import Derived.Lib.ItoaLen
import Derived.Lib.Join
import Derived.Test.YtmkiahpojiomiaaGreatDoorShelf
namespace AM
open Go Go.Proofs.Tryz
set_option linter.unusedVariables false
set_option linter.unusedSimpArgs false
set_option maxRecDepth 100000
noncomputable section
def Zk76:Con UU where
 α:=DInst×Int×Bool×DVal
 md:=[.box true,.ro,.ro,.ro]
 of:=oC (oX .eInst) (oC oI (oC oO (o1 (oA .eVal))))
 ds:=fun x=>[dX .eInst x.1,dI x.2.1,dO x.2.2.1,dA .eVal x.2.2.2]
 pre:=fun(x,k,ok,v)=>[goodX x,storeOk x.S=true,0≤k∧k<x.Tasks.length,x.State=1∨x.State=3∨x.State=5]
 res:=fun(x,k,ok,v)=>⟨[],true,[dX .eInst (ansI x k.toNat ok v)]⟩
 law:=lC (lX .eInst) (lC lI (lC lO (l1 (lA .eVal))))
def Za76:Zk76.α→Nat→Option (Ann UU):=fun(x,k,ok,v)=>annL []
def Zu76:=us [Zh145,Zh146,Zh147,Zh149,Zh148]
theorem Zo76:Holds EE (76,Zk76):=by
 refine holds_of EE_ok func76 Zk76 (by kernel_rfl) Zu76 (us_ok _) Za76 (fun x hp hb=> ?_)
 obtain⟨x,k,ok,v⟩:=x
 have hz0:=bdX_eInst (x:=x) (hb _ m0)
 have hl_x_S_Items:=hz0.1
 have hl_x_Fired:=hz0.2.1
 have hl_x_Tasks:=hz0.2.2.1
 have hl_x_Timers:=hz0.2.2.2.1
 have hl_x_Undos:=hz0.2.2.2.2
 have hl_k:=bdI (n:=k) (hb _ m1)
 have hl_v_S:=bd_eVal (x:=v) (hb _ m3)
 have hp0:goodX x:=hp _ m0
 have hp1:storeOk x.S=true:=hp _ m1
 have hp2:0≤k∧k<x.Tasks.length:=hp _ m2
 have hp3:x.State=1∨x.State=3∨x.State=5:=hp _ m3
 clear hp hb
 apply @ve _ (let x8:DTask:=List.getD x.Tasks k.toNat zTask;let x9:Bool:= !ByteArray.toList x8.Undo==ByteArray.toList {data:= #[]:ByteArray};let x2:DInst:={S:=x.S,Fired:=x.Fired,Tasks:=x.Tasks,Timers:=x.Timers,Undos:=(pushUndo {τ:=Cd.eUndo,xs:=x.Undos:Arr UU}.xs {F:={Kind:=x8.F.Kind,Fields:={τ:=Cd.eVal,xs:=(List.getD {τ:=Cd.eTask,xs:=x.Tasks:Arr UU}.xs k.toNat (UU.dflt {τ:=Cd.eTask,xs:=x.Tasks:Arr UU}.τ)).F.Fields:Arr UU}.xs:DFact},Undo:=x8.Undo,State:=x8.State,Tries:=x8.Tries,Due:=x8.Due,V:={K:=x8.V.K,N:=x8.V.N,S:=x8.V.S:DVal}:DTask}).1,State:=x.State,Now:=x.Now:DInst};let x5:Bool:= !(pushUndo {τ:=Cd.eUndo,xs:=x.Undos:Arr UU}.xs {F:={Kind:=x8.F.Kind,Fields:={τ:=Cd.eVal,xs:=(List.getD {τ:=Cd.eTask,xs:=x.Tasks:Arr UU}.xs k.toNat (UU.dflt {τ:=Cd.eTask,xs:=x.Tasks:Arr UU}.τ)).F.Fields:Arr UU}.xs:DFact},Undo:=x8.Undo,State:=x8.State,Tries:=x8.Tries,Due:=x8.Due,V:={K:=x8.V.K,N:=x8.V.N,S:=x8.V.S:DVal}:DTask}).2;let x6:DFact:=ansF x8.F {data:= #[(110:UInt8),(111:UInt8)]:ByteArray} v;let x7:DFact:=ansF x8.F {data:= #[(111:UInt8),(107:UInt8)]:ByteArray} v;let x0:DInst:=learnI x2 x7;let x1:DInst:=learnI x2 x6;let x3:DInst:=learnI x x6;let x4:DInst:=learnI x x7;(0:Int)≤k∧k.toNat<x.Tasks.length∧k.toNat<x.Tasks.length∧bif x.State !=(1:Int) then goodX x∧(x.State=(3:Int)∨x.State=(5:Int))∧(0:Nat)=(0:Nat)∧asD []=asD []∧asD [DV.box (enc_eInst (goesI x))]=asD [DV.box (enc_eInst (ansI x k.toNat ok v))] else bif ok then bif ok then bif x9 then k.toNat<x.Tasks.length∧sizeUndoS x.Undos≤(4294967296:Nat)∧x8.F.Fields.length≤(4294967296:Nat)∧bif x5 then goodX x∧((3:Int)=(3:Int)∨(3:Int)=(5:Int))∧(0:Nat)=(0:Nat)∧asD []=asD []∧asD [DV.box (enc_eInst (turnI x (3:Int)))]=asD [DV.box (enc_eInst (ansI x k.toNat ok v))] else k.toNat<x.Tasks.length∧goodX x2∧storeOk x.S=true∧x7.Fields.length≤(4294967296:Nat)∧(0:Nat)=(0:Nat)∧asD []=asD []∧asD [DV.box (enc_eInst x0)]=asD [DV.box (enc_eInst (ansI x k.toNat ok v))] else k.toNat<x.Tasks.length∧goodX x∧storeOk x.S=true∧x7.Fields.length≤(4294967296:Nat)∧(0:Nat)=(0:Nat)∧asD []=asD []∧asD [DV.box (enc_eInst x4)]=asD [DV.box (enc_eInst (ansI x k.toNat ok v))] else k.toNat<x.Tasks.length∧goodX x∧storeOk x.S=true∧x7.Fields.length≤(4294967296:Nat)∧(0:Nat)=(0:Nat)∧asD []=asD []∧asD [DV.box (enc_eInst x4)]=asD [DV.box (enc_eInst (ansI x k.toNat ok v))] else bif ok then bif x9 then k.toNat<x.Tasks.length∧sizeUndoS x.Undos≤(4294967296:Nat)∧x8.F.Fields.length≤(4294967296:Nat)∧bif x5 then goodX x∧((3:Int)=(3:Int)∨(3:Int)=(5:Int))∧(0:Nat)=(0:Nat)∧asD []=asD []∧asD [DV.box (enc_eInst (turnI x (3:Int)))]=asD [DV.box (enc_eInst (ansI x k.toNat ok v))] else k.toNat<x.Tasks.length∧goodX x2∧storeOk x.S=true∧x6.Fields.length≤(4294967296:Nat)∧(0:Nat)=(0:Nat)∧asD []=asD []∧asD [DV.box (enc_eInst x1)]=asD [DV.box (enc_eInst (ansI x k.toNat ok v))] else k.toNat<x.Tasks.length∧goodX x∧storeOk x.S=true∧x6.Fields.length≤(4294967296:Nat)∧(0:Nat)=(0:Nat)∧asD []=asD []∧asD [DV.box (enc_eInst x3)]=asD [DV.box (enc_eInst (ansI x k.toNat ok v))] else k.toNat<x.Tasks.length∧goodX x∧storeOk x.S=true∧x6.Fields.length≤(4294967296:Nat)∧(0:Nat)=(0:Nat)∧asD []=asD []∧asD [DV.box (enc_eInst x3)]=asD [DV.box (enc_eInst (ansI x k.toNat ok v))]) (by kernel_rfl)
 dsimp only
 have hgx:=hp0
 obtain⟨q1,q2,q3,q4⟩:=hp0
 have hk:k.toNat<x.Tasks.length:=by omega
 have k3:=(undosK q2).2.2
 have hff:=(factK (taskOk_iff.1 (tasksOk_at q1 hk)).1).1
 rw[toList_beq]
 refine⟨hp2.1,hk,hk,if_neq (fun hs=>⟨hgx,by omega,by trivial,by trivial,outI ?_⟩) (fun hs=> ?_)⟩
 ·exact(if_pos hs).symm
 have e0:=ans_run (k:=k.toNat) (ok:=ok) (v:=v) hs
 cases ok with
 |false=>
  simp only[cond_false]
  exact⟨hk,hgx,hp1,by simp[ansF],by trivial,by trivial,outI (e0.trans (if_neg (by simp))).symm⟩
 |true=>
  simp only[cond_true]
  refine if_not (fun g=> ?_) (fun g=> ?_)
  ·have g:¬(List.getD x.Tasks k.toNat zTask).Undo=noBytes:=of_decide_eq_false g
   refine⟨hk,by omega,by omega,if_not (fun p=> ?_) (fun p=> ?_)⟩
   ·have p:(pushUndo x.Undos (List.getD x.Tasks k.toNat zTask)).2=false:=p
    exact⟨hgx,.inl (by trivial),by trivial,by trivial,outI (e0.trans ((if_pos ⟨rfl,g⟩).trans (if_neg (by rw[p];decide)))).symm⟩
   ·have p:(pushUndo x.Undos (List.getD x.Tasks k.toNat zTask)).2=true:=p
    exact⟨hk,goodX_push hgx p,hp1,by simp[ansF],by trivial,by trivial,outI (e0.trans ((if_pos ⟨rfl,g⟩).trans (if_pos p))).symm⟩
  ·have g:(List.getD x.Tasks k.toNat zTask).Undo=noBytes:=of_decide_eq_true g
   exact⟨hk,hgx,hp1,by simp[ansF],by trivial,by trivial,outI (e0.trans (if_neg (fun c=>c.2 g))).symm⟩
def Zh76:HH:=⟨_,Zo76⟩
def Zk26:Con UU where
 α:=DInst×ByteArray×Bool×DVal
 md:=[.box true,.ro,.ro,.ro]
 of:=oC (oX .eInst) (oC oS (oC oO (o1 (oA .eVal))))
 ds:=fun x=>[dX .eInst x.1,dS x.2.1,dO x.2.2.1,dA .eVal x.2.2.2]
 pre:=fun(x,key,ok,v)=>[goodX x,storeOk x.S=true,valOk v=true,(replyTask x.Tasks key ok v).2=1→x.State=1∨x.State=3∨x.State=5]
 res:=fun(x,key,ok,v)=>⟨[dI ((replyI x key ok v).2)],true,[dX .eInst ((replyI x key ok v).1)]⟩
 law:=lC (lX .eInst) (lC lS (lC lO (l1 (lA .eVal))))
def Za26:Zk26.α→Nat→Option (Ann UU):=fun(x,key,ok,v)=>annL []
def Zu26:=us [Zh75,Zh77,Zh76]
theorem Zo26:Holds EE (26,Zk26):=by
 refine holds_of EE_ok func26 Zk26 (by kernel_rfl) Zu26 (us_ok _) Za26 (fun x hp hb=> ?_)
 obtain⟨x,key,ok,v⟩:=x
 have hz0:=bdX_eInst (x:=x) (hb _ m0)
 have hl_x_S_Items:=hz0.1
 have hl_x_Fired:=hz0.2.1
 have hl_x_Tasks:=hz0.2.2.1
 have hl_x_Timers:=hz0.2.2.2.1
 have hl_x_Undos:=hz0.2.2.2.2
 have hl_key:=bdS (s:=key) (hb _ m1)
 have hl_v_S:=bd_eVal (x:=v) (hb _ m3)
 have hp0:goodX x:=hp _ m0
 have hp1:storeOk x.S=true:=hp _ m1
 have hp2:valOk v=true:=hp _ m2
 have hp3:(replyTask x.Tasks key ok v).2=1→x.State=1∨x.State=3∨x.State=5:=hp _ m3
 clear hp hb
 apply @ve _ (let x1:Int:=taskAtKey (replyTask {τ:=Cd.eTask,xs:=x.Tasks:Arr UU}.xs key ok {K:=v.K,N:=v.N,S:=v.S:DVal}).1 key;let x2:DInst:={S:=x.S,Fired:=x.Fired,Tasks:=(replyTask {τ:=Cd.eTask,xs:=x.Tasks:Arr UU}.xs key ok {K:=v.K,N:=v.N,S:=v.S:DVal}).1,Timers:=x.Timers,Undos:=x.Undos,State:=x.State,Now:=x.Now:DInst};let x0:DInst:=ansI x2 x1.toNat ok v;tasksOk x.Tasks=true∧valOk v=true∧bif (replyTask {τ:=Cd.eTask,xs:=x.Tasks:Arr UU}.xs key ok {K:=v.K,N:=v.N,S:=v.S:DVal}).2==(1:Int) then goodX x2∧storeOk x.S=true∧((0:Int)≤x1∧x1<(↑(List.length (replyTask {τ:=Cd.eTask,xs:=x.Tasks:Arr UU}.xs key ok {K:=v.K,N:=v.N,S:=v.S:DVal}).1):Int))∧(x.State=(1:Int)∨x.State=(3:Int)∨x.State=(5:Int))∧(0:Nat)=(0:Nat)∧asD [VI ((replyTask {τ:=Cd.eTask,xs:=x.Tasks:Arr UU}.xs key ok {K:=v.K,N:=v.N,S:=v.S:DVal}).2)]=asD [VI ((replyI x key ok v).2)]∧asD [DV.box (enc_eInst x0)]=asD [DV.box [CL .eItem (replyI x key ok v).1.S.Items,CI ((replyI x key ok v).1.S.Next),CL .eMatch (replyI x key ok v).1.Fired,CL .eTask (replyI x key ok v).1.Tasks,CL .eTimer (replyI x key ok v).1.Timers,CL .eUndo (replyI x key ok v).1.Undos,CI ((replyI x key ok v).1.State),CI ((replyI x key ok v).1.Now)]] else(0:Nat)=(0:Nat)∧asD [VI ((replyTask {τ:=Cd.eTask,xs:=x.Tasks:Arr UU}.xs key ok {K:=v.K,N:=v.N,S:=v.S:DVal}).2)]=asD [VI ((replyI x key ok v).2)]∧asD [DV.box [CL .eItem x.S.Items,CI x.S.Next,CL .eMatch x.Fired,CL .eTask (replyTask {τ:=Cd.eTask,xs:=x.Tasks:Arr UU}.xs key ok {K:=v.K,N:=v.N,S:=v.S:DVal}).1,CL .eTimer x.Timers,CL .eUndo x.Undos,CI x.State,CI x.Now]]=asD [DV.box [CL .eItem (replyI x key ok v).1.S.Items,CI ((replyI x key ok v).1.S.Next),CL .eMatch (replyI x key ok v).1.Fired,CL .eTask (replyI x key ok v).1.Tasks,CL .eTimer (replyI x key ok v).1.Timers,CL .eUndo (replyI x key ok v).1.Undos,CI ((replyI x key ok v).1.State),CI ((replyI x key ok v).1.Now)]]) (by kernel_rfl)
 dsimp only
 have hgx:=hp0
 have hlt:=reply_at (l:=x.Tasks) (key:=key) (ok:=ok) (v:=v)
 refine⟨hp0.1,hp2,if_num (fun h=> ?_) (fun h=> ?_)⟩
 ·have e:replyI x key ok v=(ansI (withT x (replyTask x.Tasks key ok v).1) (taskAtKey (replyTask x.Tasks key ok v).1 key).toNat ok v,1):=if_pos h
  exact⟨goodX_reply hgx,hp1,hlt h,hp3 h,by trivial,Lfii (h.trans (congrArg Prod.snd e).symm),outI (congrArg Prod.fst e).symm⟩
 ·have e:replyI x key ok v=(x,(replyTask x.Tasks key ok v).2):=if_neg h
  have e2:=reply_same (l:=x.Tasks) (key:=key) (ok:=ok) (v:=v) h
  exact⟨by trivial,Lfii (congrArg Prod.snd e).symm,outI (a:=withT x (replyTask x.Tasks key ok v).1) ((congrArg (withT x) e2).trans (congrArg Prod.fst e).symm)⟩
def Zh26:HH:=⟨_,Zo26⟩
def Zk35:Con UU where
 α:=DInst×ByteArray×Bool×DVal
 md:=[.box true,.ro,.ro,.ro]
 of:=oC (oX .eInst) (oC oS (oC oO (o1 (oA .eVal))))
 ds:=fun x=>[dX .eInst x.1,dS x.2.1,dO x.2.2.1,dA .eVal x.2.2.2]
 pre:=fun(x,key,ok,v)=>[goodX x,storeOk x.S=true,(replyTask x.Tasks key ok v).2=1→x.State=1∨x.State=3∨x.State=5]
 res:=fun(x,key,ok,v)=>⟨[dI ((replyI x key ok v).2)],true,[dX .eInst ((replyI x key ok v).1)]⟩
 law:=lC (lX .eInst) (lC lS (lC lO (l1 (lA .eVal))))
def Za35:Zk35.α→Nat→Option (Ann UU):=fun(x,key,ok,v)=>annL []
def Zu35:=us [Zh100,Zh101,Zh102,Zh103,Zh104,Zh106,Zh105]
theorem Zo35:Holds EE (35,Zk35):=by
 refine holds_of EE_ok func35 Zk35 (by kernel_rfl) Zu35 (us_ok _) Za35 (fun x hp hb=> ?_)
 obtain⟨x,key,ok,v⟩:=x
 have hz0:=bdX_eInst (x:=x) (hb _ m0)
 have hl_x_S_Items:=hz0.1
 have hl_x_Fired:=hz0.2.1
 have hl_x_Tasks:=hz0.2.2.1
 have hl_x_Timers:=hz0.2.2.2.1
 have hl_x_Undos:=hz0.2.2.2.2
 have hl_key:=bdS (s:=key) (hb _ m1)
 have hl_v_S:=bd_eVal (x:=v) (hb _ m3)
 have hp0:goodX x:=hp _ m0
 have hp1:storeOk x.S=true:=hp _ m1
 have hp2:(replyTask x.Tasks key ok v).2=1→x.State=1∨x.State=3∨x.State=5:=hp _ m2
 clear hp hb
 apply @ve _ (let x9:DInst:={S:=x.S,Fired:=x.Fired,Tasks:=(replyTask {τ:=Cd.eTask,xs:=x.Tasks:Arr UU}.xs key ok {K:=v.K,N:=v.N,S:=v.S:DVal}).1,Timers:=x.Timers,Undos:=x.Undos,State:=x.State,Now:=x.Now:DInst};let x13:Int:=taskAtKey (replyTask {τ:=Cd.eTask,xs:=x.Tasks:Arr UU}.xs key ok {K:=v.K,N:=v.N,S:=v.S:DVal}).1 key;let x7:DInst:=turnI x9 (3:Int);let x8:DInst:=goesI x9;let x12:Nat:=x13.toNat;let x6:DTask:=List.getD (replyTask {τ:=Cd.eTask,xs:=x.Tasks:Arr UU}.xs key ok {K:=v.K,N:=v.N,S:=v.S:DVal}).1 x12 zTask;let x10:DFact:=ansF x6.F {data:= #[(110:UInt8),(111:UInt8)]:ByteArray} v;let x11:DFact:=ansF x6.F {data:= #[(111:UInt8),(107:UInt8)]:ByteArray} v;let x14:Bool:= !ByteArray.toList x6.Undo==ByteArray.toList {data:= #[]:ByteArray};let x2:DInst:={S:=x.S,Fired:=x.Fired,Tasks:=(replyTask {τ:=Cd.eTask,xs:=x.Tasks:Arr UU}.xs key ok {K:=v.K,N:=v.N,S:=v.S:DVal}).1,Timers:=x.Timers,Undos:=(pushUndo {τ:=Cd.eUndo,xs:=x.Undos:Arr UU}.xs {F:={Kind:=x6.F.Kind,Fields:={τ:=Cd.eVal,xs:=(List.getD {τ:=Cd.eTask,xs:=(replyTask {τ:=Cd.eTask,xs:=x.Tasks:Arr UU}.xs key ok {K:=v.K,N:=v.N,S:=v.S:DVal}).1:Arr UU}.xs x12 (UU.dflt {τ:=Cd.eTask,xs:=(replyTask {τ:=Cd.eTask,xs:=x.Tasks:Arr UU}.xs key ok {K:=v.K,N:=v.N,S:=v.S:DVal}).1:Arr UU}.τ)).F.Fields:Arr UU}.xs:DFact},Undo:=x6.Undo,State:=x6.State,Tries:=x6.Tries,Due:=x6.Due,V:={K:=x6.V.K,N:=x6.V.N,S:=x6.V.S:DVal}:DTask}).1,State:=x.State,Now:=x.Now:DInst};let x3:DInst:=learnI x9 x10;let x4:DInst:=learnI x9 x11;let x5:Bool:= !(pushUndo {τ:=Cd.eUndo,xs:=x.Undos:Arr UU}.xs {F:={Kind:=x6.F.Kind,Fields:={τ:=Cd.eVal,xs:=(List.getD {τ:=Cd.eTask,xs:=(replyTask {τ:=Cd.eTask,xs:=x.Tasks:Arr UU}.xs key ok {K:=v.K,N:=v.N,S:=v.S:DVal}).1:Arr UU}.xs x12 (UU.dflt {τ:=Cd.eTask,xs:=(replyTask {τ:=Cd.eTask,xs:=x.Tasks:Arr UU}.xs key ok {K:=v.K,N:=v.N,S:=v.S:DVal}).1:Arr UU}.τ)).F.Fields:Arr UU}.xs:DFact},Undo:=x6.Undo,State:=x6.State,Tries:=x6.Tries,Due:=x6.Due,V:={K:=x6.V.K,N:=x6.V.N,S:=x6.V.S:DVal}:DTask}).2;let x0:DInst:=learnI x2 x10;let x1:DInst:=learnI x2 x11;sizeTaskS x.Tasks≤(4294967296:Nat)∧bif (replyTask {τ:=Cd.eTask,xs:=x.Tasks:Arr UU}.xs key ok {K:=v.K,N:=v.N,S:=v.S:DVal}).2 !=(1:Int) then(0:Nat)=(0:Nat)∧asD [VI ((replyTask {τ:=Cd.eTask,xs:=x.Tasks:Arr UU}.xs key ok {K:=v.K,N:=v.N,S:=v.S:DVal}).2)]=asD [VI ((replyI x key ok v).2)]∧asD [DV.box (enc_eInst x)]=asD [DV.box [CL .eItem (replyI x key ok v).1.S.Items,CI ((replyI x key ok v).1.S.Next),CL .eMatch (replyI x key ok v).1.Fired,CL .eTask (replyI x key ok v).1.Tasks,CL .eTimer (replyI x key ok v).1.Timers,CL .eUndo (replyI x key ok v).1.Undos,CI ((replyI x key ok v).1.State),CI ((replyI x key ok v).1.Now)]] else bif x.State !=(1:Int) then goodX x9∧(x.State=(3:Int)∨x.State=(5:Int))∧(0:Nat)=(0:Nat)∧asD [VI ((replyTask {τ:=Cd.eTask,xs:=x.Tasks:Arr UU}.xs key ok {K:=v.K,N:=v.N,S:=v.S:DVal}).2)]=asD [VI ((replyI x key ok v).2)]∧asD [DV.box (enc_eInst x8)]=asD [DV.box [CL .eItem (replyI x key ok v).1.S.Items,CI ((replyI x key ok v).1.S.Next),CL .eMatch (replyI x key ok v).1.Fired,CL .eTask (replyI x key ok v).1.Tasks,CL .eTimer (replyI x key ok v).1.Timers,CL .eUndo (replyI x key ok v).1.Undos,CI ((replyI x key ok v).1.State),CI ((replyI x key ok v).1.Now)]] else(0:Int)≤x13∧x12<List.length (replyTask {τ:=Cd.eTask,xs:=x.Tasks:Arr UU}.xs key ok {K:=v.K,N:=v.N,S:=v.S:DVal}).1∧x12<List.length (replyTask {τ:=Cd.eTask,xs:=x.Tasks:Arr UU}.xs key ok {K:=v.K,N:=v.N,S:=v.S:DVal}).1∧bif ok then bif ok then bif x14 then x12<List.length (replyTask {τ:=Cd.eTask,xs:=x.Tasks:Arr UU}.xs key ok {K:=v.K,N:=v.N,S:=v.S:DVal}).1∧sizeUndoS x.Undos≤(4294967296:Nat)∧x6.F.Fields.length≤(4294967296:Nat)∧bif x5 then goodX x9∧(0:Nat)=(0:Nat)∧asD [VI ((replyTask {τ:=Cd.eTask,xs:=x.Tasks:Arr UU}.xs key ok {K:=v.K,N:=v.N,S:=v.S:DVal}).2)]=asD [VI ((replyI x key ok v).2)]∧asD [DV.box (enc_eInst x7)]=asD [DV.box [CL .eItem (replyI x key ok v).1.S.Items,CI ((replyI x key ok v).1.S.Next),CL .eMatch (replyI x key ok v).1.Fired,CL .eTask (replyI x key ok v).1.Tasks,CL .eTimer (replyI x key ok v).1.Timers,CL .eUndo (replyI x key ok v).1.Undos,CI ((replyI x key ok v).1.State),CI ((replyI x key ok v).1.Now)]] else x12<List.length (replyTask {τ:=Cd.eTask,xs:=x.Tasks:Arr UU}.xs key ok {K:=v.K,N:=v.N,S:=v.S:DVal}).1∧goodX x2∧storeOk x.S=true∧x11.Fields.length≤(4294967296:Nat)∧(0:Nat)=(0:Nat)∧asD [VI ((replyTask {τ:=Cd.eTask,xs:=x.Tasks:Arr UU}.xs key ok {K:=v.K,N:=v.N,S:=v.S:DVal}).2)]=asD [VI ((replyI x key ok v).2)]∧asD [DV.box (enc_eInst x1)]=asD [DV.box [CL .eItem (replyI x key ok v).1.S.Items,CI ((replyI x key ok v).1.S.Next),CL .eMatch (replyI x key ok v).1.Fired,CL .eTask (replyI x key ok v).1.Tasks,CL .eTimer (replyI x key ok v).1.Timers,CL .eUndo (replyI x key ok v).1.Undos,CI ((replyI x key ok v).1.State),CI ((replyI x key ok v).1.Now)]] else x12<List.length (replyTask {τ:=Cd.eTask,xs:=x.Tasks:Arr UU}.xs key ok {K:=v.K,N:=v.N,S:=v.S:DVal}).1∧goodX x9∧storeOk x.S=true∧x11.Fields.length≤(4294967296:Nat)∧(0:Nat)=(0:Nat)∧asD [VI ((replyTask {τ:=Cd.eTask,xs:=x.Tasks:Arr UU}.xs key ok {K:=v.K,N:=v.N,S:=v.S:DVal}).2)]=asD [VI ((replyI x key ok v).2)]∧asD [DV.box (enc_eInst x4)]=asD [DV.box [CL .eItem (replyI x key ok v).1.S.Items,CI ((replyI x key ok v).1.S.Next),CL .eMatch (replyI x key ok v).1.Fired,CL .eTask (replyI x key ok v).1.Tasks,CL .eTimer (replyI x key ok v).1.Timers,CL .eUndo (replyI x key ok v).1.Undos,CI ((replyI x key ok v).1.State),CI ((replyI x key ok v).1.Now)]] else x12<List.length (replyTask {τ:=Cd.eTask,xs:=x.Tasks:Arr UU}.xs key ok {K:=v.K,N:=v.N,S:=v.S:DVal}).1∧goodX x9∧storeOk x.S=true∧x11.Fields.length≤(4294967296:Nat)∧(0:Nat)=(0:Nat)∧asD [VI ((replyTask {τ:=Cd.eTask,xs:=x.Tasks:Arr UU}.xs key ok {K:=v.K,N:=v.N,S:=v.S:DVal}).2)]=asD [VI ((replyI x key ok v).2)]∧asD [DV.box (enc_eInst x4)]=asD [DV.box [CL .eItem (replyI x key ok v).1.S.Items,CI ((replyI x key ok v).1.S.Next),CL .eMatch (replyI x key ok v).1.Fired,CL .eTask (replyI x key ok v).1.Tasks,CL .eTimer (replyI x key ok v).1.Timers,CL .eUndo (replyI x key ok v).1.Undos,CI ((replyI x key ok v).1.State),CI ((replyI x key ok v).1.Now)]] else bif ok then bif x14 then x12<List.length (replyTask {τ:=Cd.eTask,xs:=x.Tasks:Arr UU}.xs key ok {K:=v.K,N:=v.N,S:=v.S:DVal}).1∧sizeUndoS x.Undos≤(4294967296:Nat)∧x6.F.Fields.length≤(4294967296:Nat)∧bif x5 then goodX x9∧(0:Nat)=(0:Nat)∧asD [VI ((replyTask {τ:=Cd.eTask,xs:=x.Tasks:Arr UU}.xs key ok {K:=v.K,N:=v.N,S:=v.S:DVal}).2)]=asD [VI ((replyI x key ok v).2)]∧asD [DV.box (enc_eInst x7)]=asD [DV.box [CL .eItem (replyI x key ok v).1.S.Items,CI ((replyI x key ok v).1.S.Next),CL .eMatch (replyI x key ok v).1.Fired,CL .eTask (replyI x key ok v).1.Tasks,CL .eTimer (replyI x key ok v).1.Timers,CL .eUndo (replyI x key ok v).1.Undos,CI ((replyI x key ok v).1.State),CI ((replyI x key ok v).1.Now)]] else x12<List.length (replyTask {τ:=Cd.eTask,xs:=x.Tasks:Arr UU}.xs key ok {K:=v.K,N:=v.N,S:=v.S:DVal}).1∧goodX x2∧storeOk x.S=true∧x10.Fields.length≤(4294967296:Nat)∧(0:Nat)=(0:Nat)∧asD [VI ((replyTask {τ:=Cd.eTask,xs:=x.Tasks:Arr UU}.xs key ok {K:=v.K,N:=v.N,S:=v.S:DVal}).2)]=asD [VI ((replyI x key ok v).2)]∧asD [DV.box (enc_eInst x0)]=asD [DV.box [CL .eItem (replyI x key ok v).1.S.Items,CI ((replyI x key ok v).1.S.Next),CL .eMatch (replyI x key ok v).1.Fired,CL .eTask (replyI x key ok v).1.Tasks,CL .eTimer (replyI x key ok v).1.Timers,CL .eUndo (replyI x key ok v).1.Undos,CI ((replyI x key ok v).1.State),CI ((replyI x key ok v).1.Now)]] else x12<List.length (replyTask {τ:=Cd.eTask,xs:=x.Tasks:Arr UU}.xs key ok {K:=v.K,N:=v.N,S:=v.S:DVal}).1∧goodX x9∧storeOk x.S=true∧x10.Fields.length≤(4294967296:Nat)∧(0:Nat)=(0:Nat)∧asD [VI ((replyTask {τ:=Cd.eTask,xs:=x.Tasks:Arr UU}.xs key ok {K:=v.K,N:=v.N,S:=v.S:DVal}).2)]=asD [VI ((replyI x key ok v).2)]∧asD [DV.box (enc_eInst x3)]=asD [DV.box [CL .eItem (replyI x key ok v).1.S.Items,CI ((replyI x key ok v).1.S.Next),CL .eMatch (replyI x key ok v).1.Fired,CL .eTask (replyI x key ok v).1.Tasks,CL .eTimer (replyI x key ok v).1.Timers,CL .eUndo (replyI x key ok v).1.Undos,CI ((replyI x key ok v).1.State),CI ((replyI x key ok v).1.Now)]] else x12<List.length (replyTask {τ:=Cd.eTask,xs:=x.Tasks:Arr UU}.xs key ok {K:=v.K,N:=v.N,S:=v.S:DVal}).1∧goodX x9∧storeOk x.S=true∧x10.Fields.length≤(4294967296:Nat)∧(0:Nat)=(0:Nat)∧asD [VI ((replyTask {τ:=Cd.eTask,xs:=x.Tasks:Arr UU}.xs key ok {K:=v.K,N:=v.N,S:=v.S:DVal}).2)]=asD [VI ((replyI x key ok v).2)]∧asD [DV.box (enc_eInst x3)]=asD [DV.box [CL .eItem (replyI x key ok v).1.S.Items,CI ((replyI x key ok v).1.S.Next),CL .eMatch (replyI x key ok v).1.Fired,CL .eTask (replyI x key ok v).1.Tasks,CL .eTimer (replyI x key ok v).1.Timers,CL .eUndo (replyI x key ok v).1.Undos,CI ((replyI x key ok v).1.State),CI ((replyI x key ok v).1.Now)]]) (by kernel_rfl)
 dsimp only
 have hgx:=hp0
 have hlt:=reply_at (l:=x.Tasks) (key:=key) (ok:=ok) (v:=v)
 have k3:=(undosK hp0.2.1).2.2
 have kt:=(tasksK hp0.1).2
 have hy:=goodX_reply (key:=key) (ok:=ok) (v:=v) hgx
 rw[toList_beq]
 refine⟨by omega,if_neq (fun h=> ?_) (fun h=> ?_)⟩
 ·have e:replyI x key ok v=(x,(replyTask x.Tasks key ok v).2):=if_neg h
  exact⟨by trivial,Lfii (congrArg Prod.snd e).symm,outI (congrArg Prod.fst e).symm⟩
 have e:replyI x key ok v=(ansI (withT x (replyTask x.Tasks key ok v).1) (taskAtKey (replyTask x.Tasks key ok v).1 key).toNat ok v,1):=if_pos h
 have e1:=Lfii (h.trans (congrArg Prod.snd e).symm)
 have e2:=congrArg Prod.fst e
 obtain⟨l1,l2⟩:=hlt h
 have hk:(taskAtKey (replyTask x.Tasks key ok v).1 key).toNat<(replyTask x.Tasks key ok v).1.length:=by omega
 have hff:(List.getD (replyTask x.Tasks key ok v).1 (taskAtKey (replyTask x.Tasks key ok v).1 key).toNat zTask).F.Fields.length≤5:=(factK (taskOk_iff.1 (tasksOk_at hy.1 hk)).1).1
 refine if_neq (fun hs=>⟨hy,by have:=hp2 h;omega,by trivial,e1,outI (e2.trans (if_pos hs)).symm⟩) (fun hs=>⟨l1,hk,hk,?_⟩)
 have e0:=ans_run (x:=withT x (replyTask x.Tasks key ok v).1) (k:=(taskAtKey (replyTask x.Tasks key ok v).1 key).toNat) (ok:=ok) (v:=v) hs
 have e3:=e2.trans e0
 cases ok with
 |false=>
  simp only[cond_false]
  exact⟨hk,hy,hp1,by simp[ansF],by trivial,e1,outI (e3.trans (if_neg (by simp))).symm⟩
 |true=>
  simp only[cond_true]
  refine if_not (fun g=> ?_) (fun g=> ?_)
  ·have g:¬(List.getD (replyTask x.Tasks key true v).1 (taskAtKey (replyTask x.Tasks key true v).1 key).toNat zTask).Undo=noBytes:=of_decide_eq_false g
   refine⟨hk,by omega,by omega,if_not (fun p=> ?_) (fun p=> ?_)⟩
   ·have p:(pushUndo x.Undos (List.getD (replyTask x.Tasks key true v).1 (taskAtKey (replyTask x.Tasks key true v).1 key).toNat zTask)).2=false:=p
    exact⟨hy,by trivial,e1,outI (e3.trans ((if_pos ⟨rfl,g⟩).trans (if_neg (fun c=>absurd (p.symm.trans c) (by decide))))).symm⟩
   ·have p:(pushUndo x.Undos (List.getD (replyTask x.Tasks key true v).1 (taskAtKey (replyTask x.Tasks key true v).1 key).toNat zTask)).2=true:=p
    exact⟨hk,goodX_push hy p,hp1,by simp[ansF],by trivial,e1,outI (e3.trans ((if_pos ⟨rfl,g⟩).trans (if_pos p))).symm⟩
  ·have g:(List.getD (replyTask x.Tasks key true v).1 (taskAtKey (replyTask x.Tasks key true v).1 key).toNat zTask).Undo=noBytes:=of_decide_eq_true g
   exact⟨hk,hy,hp1,by simp[ansF],by trivial,e1,outI (e3.trans (if_neg (fun c=>c.2 g))).symm⟩
def Zh35:HH:=⟨_,Zo35⟩
theorem LfXi{a a':DInst}{b b':Int}(h1:a=a')(h2:b=b'):Lf [.agg [.sl .eItem a.S.Items,.lit (.int .i64 a.S.Next),.sl .eMatch a.Fired,.sl .eTask a.Tasks,.sl .eTimer a.Timers,.sl .eUndo a.Undos,.lit (.int .i64 a.State),.lit (.int .i64 a.Now)],.one (.lit (.int .i64 b))] [.agg [.sl .eItem a'.S.Items,.lit (.int .i64 a'.S.Next),.sl .eMatch a'.Fired,.sl .eTask a'.Tasks,.sl .eTimer a'.Timers,.sl .eUndo a'.Undos,.lit (.int .i64 a'.State),.lit (.int .i64 a'.Now)],.one (.lit (.int .i64 b'))]:=by
 subst h1 h2;exact Lf_rfl _
def replyO(d:DDef)(x:DInst)(key:ByteArray)(ok:Bool)(v:DVal):DInst×Int:=if instOk d x=true∧valOk v=true then replyI x key ok v else(x,3)
theorem reply_bad{x:DInst}{key:ByteArray}{ok:Bool}{v:DVal}(h:¬valOk v=true):replyI x key ok v=(x,3):=by
 have e:replyTask x.Tasks key ok v=(x.Tasks,3):=reply_none (fun c=>h c.2.1)
 unfold replyI;rw[e];rfl
theorem live_reply{d:DDef}{x:DInst}{key:ByteArray}{ok:Bool}{v:DVal}(h:instOk d x=true)(h0:(replyTask x.Tasks key ok v).2=1):x.State=1∨x.State=3∨x.State=5:=by
 have h1:tasksOk x.Tasks=true∧valOk v=true∧0≤taskAtKey x.Tasks key∧(List.getD x.Tasks (taskAtKey x.Tasks key).toNat zTask).State≠1:=Classical.byContradiction fun c=>by rw[reply_none c] at h0;simp at h0
 have h2:(List.getD x.Tasks (taskAtKey x.Tasks key).toNat zTask).State=2:=Classical.byContradiction fun c=>by rw[reply_old h1 c] at h0;simp at h0
 have hk:=taskAtKey_lt (l:=x.Tasks) (key:=key) h1.2.2.1
 have hl:liveT x.Tasks=true:=anyI_true (j:=(taskAtKey x.Tasks key).toNat) hk (decide_eq_true (Or.inr h2))
 simp only[instOk,zaf,decide_eq_true_eq] at h
 obtain⟨⟨⟨⟨⟨_,hs⟩,_⟩,_⟩,he⟩,_⟩:=h
 rw[hl] at he
 have he:endedX x=false:=by cases hx:endedX x<;>simp[hx] at he⊢
 simp only[endedX,decide_eq_false_iff_not] at he
 omega
theorem ans_size{x:DInst}{k:Nat}{ok:Bool}{v:DVal}(h:goodX x)(hs:storeOk x.S=true)(hk:k<x.Tasks.length)(hv:valOk v=true):sizeInst (ansI x k ok v)≤sizeInst x+40000:=by
 have hf:=(factK (taskOk_iff.1 (tasksOk_at h.1 hk)).1).2
 have hv2:=valK hv
 have hw:(wordO ok).size≤2:=by cases ok<;>decide
 have ha:sizeFact (ansF (List.getD x.Tasks k zTask).F (wordO ok) v)≤200:=by
  simp only[sizeFact] at hf
  simp only[ansF,sizeFact,sizeValS,sizeVal,zbq,zbo,zbt,List.map_nil,zdc,List.sum_nil]
  omega
 unfold ansI
 split
 ·have h1:=(begin_size (goodX_pop h)).1
  have h2:=sizeUndoS_take x.Undos (x.Undos.length-1)
  simp only[goesI] at*
  simp only[sizeInst] at h1⊢
  omega
 ·split
  ·split
   ·rename_i hp
    have hg:=goodX_push h hp
    have h1:=learn_size hg hs (ansF (List.getD x.Tasks k zTask).F (wordO ok) v)
    have h2:=(undosK hg.2.1).2.2
    have h3:sizeInst (withU x (pushUndo x.Undos (List.getD x.Tasks k zTask)).1)≤sizeInst x+20000:=by
     simp only[sizeInst,withU] at h2⊢
     omega
    omega
   ·have:=(turn_size h 3).1;omega
  ·have h1:=learn_size h hs (ansF (List.getD x.Tasks k zTask).F (wordO ok) v)
   omega
theorem reply_size{d:DDef}(x:DInst)(key:ByteArray)(ok:Bool)(v:DVal):sizeInst (replyO d x key ok v).1≤sizeInst x+50000:=by
 unfold replyO;split
 ·rename_i h
  unfold replyI;split
  ·rename_i h1
   have hg:=goodX_reply (key:=key) (ok:=ok) (v:=v) (good_inst h.1)
   obtain⟨l1,l2⟩:=reply_at (l:=x.Tasks) (key:=key) (ok:=ok) (v:=v) h1
   have h2:=ans_size (k:=(taskAtKey (replyTask x.Tasks key ok v).1 key).toNat) (ok:=ok) (v:=v) hg (show storeOk x.S=true from store_inst h.1) (by show _<(replyTask x.Tasks key ok v).1.length;omega) h.2
   have h3:=(tasksK hg.1).2
   have h4:sizeInst (withT x (replyTask x.Tasks key ok v).1)≤sizeInst x+6000:=by
    simp only[sizeInst,withT] at h3⊢
    omega
   show sizeInst (ansI _ _ ok v)≤_
   omega
  ·show sizeInst x≤_;omega
 ·show sizeInst x≤_;omega
def Zk11:Con UU where
 α:=DDef×DInst×ByteArray×Bool×DVal
 md:=[.ro,.ro,.ro,.ro,.ro]
 of:=oC (oA .eDef) (oC (oA .eInst) (oC oS (oC oO (o1 (oA .eVal)))))
 ds:=fun x=>[dA .eDef x.1,dA .eInst x.2.1,dS x.2.2.1,dO x.2.2.2.1,dA .eVal x.2.2.2.2]
 pre:=fun(d,x,key,ok,v)=>[sizeDef d≤4294967295,sizeInst x≤4294967295]
 res:=fun(d,x,key,ok,v)=>⟨[dA .eInst ((replyO d x key ok v).1),dI ((replyO d x key ok v).2)],true,[]⟩
 law:=lC (lA .eDef) (lC (lA .eInst) (lC lS (lC lO (l1 (lA .eVal)))))
def Za11:Zk11.α→Nat→Option (Ann UU):=fun(d,x,key,ok,v)=>annL []
def Zu11:=us [Zh33,Zh34,Zh35]
theorem Zo11:Holds EE (11,Zk11):=by
 refine holds_of EE_ok func11 Zk11 (by kernel_rfl) Zu11 (us_ok _) Za11 (fun x hp hb=> ?_)
 obtain⟨d,x,key,ok,v⟩:=x
 have hz0:=bd_eDef (x:=d) (hb _ m0)
 have hl_d_Name:=hz0.1
 have hl_d_Rules:=hz0.2
 have hz1:=bd_eInst (x:=x) (hb _ m1)
 have hl_x_S_Items:=hz1.1
 have hl_x_Fired:=hz1.2.1
 have hl_x_Tasks:=hz1.2.2.1
 have hl_x_Timers:=hz1.2.2.2.1
 have hl_x_Undos:=hz1.2.2.2.2
 have hl_key:=bdS (s:=key) (hb _ m2)
 have hl_v_S:=bd_eVal (x:=v) (hb _ m4)
 have hp0:sizeDef d≤4294967295:=hp _ m0
 have hp1:sizeInst x≤4294967295:=hp _ m1
 clear hp hb
 apply @ve _ (let x1:DInst:={S:={Items:={τ:=Cd.eItem,xs:=x.S.Items:Arr UU}.xs,Next:=x.S.Next:DStore},Fired:={τ:=Cd.eMatch,xs:=x.Fired:Arr UU}.xs,Tasks:={τ:=Cd.eTask,xs:=x.Tasks:Arr UU}.xs,Timers:={τ:=Cd.eTimer,xs:=x.Timers:Arr UU}.xs,Undos:={τ:=Cd.eUndo,xs:=x.Undos:Arr UU}.xs,State:=x.State,Now:=x.Now:DInst};let x0:DStore:=(replyI x1 key ok {K:=v.K,N:=v.N,S:=v.S:DVal}).1.S;sizeInst x≤(4294967296:Nat)∧sizeDef d≤(4294967295:Nat)∧sizeItemS x.S.Items≤(4294967296:Nat)∧bif !instOk d x then Lf [DV.agg (enc_eInst x),VI (3:Int)] [DV.agg [CL .eItem (replyO d x key ok v).1.S.Items,CI ((replyO d x key ok v).1.S.Next),CL .eMatch (replyO d x key ok v).1.Fired,CL .eTask (replyO d x key ok v).1.Tasks,CL .eTimer (replyO d x key ok v).1.Timers,CL .eUndo (replyO d x key ok v).1.Undos,CI ((replyO d x key ok v).1.State),CI ((replyO d x key ok v).1.Now)],VI ((replyO d x key ok v).2)] else goodX x∧storeOk x.S=true∧((replyTask x1.Tasks key ok {K:=v.K,N:=v.N,S:=v.S:DVal}).2=(1:Int)→x.State=(1:Int)∨x.State=(3:Int)∨x.State=(5:Int))∧Lf [DV.agg [CL .eItem x0.Items,CI x0.Next,CL .eMatch (replyI x1 key ok {K:=v.K,N:=v.N,S:=v.S:DVal}).1.Fired,CL .eTask (replyI x1 key ok {K:=v.K,N:=v.N,S:=v.S:DVal}).1.Tasks,CL .eTimer (replyI x1 key ok {K:=v.K,N:=v.N,S:=v.S:DVal}).1.Timers,CL .eUndo (replyI x1 key ok {K:=v.K,N:=v.N,S:=v.S:DVal}).1.Undos,CI ((replyI x1 key ok {K:=v.K,N:=v.N,S:=v.S:DVal}).1.State),CI ((replyI x1 key ok {K:=v.K,N:=v.N,S:=v.S:DVal}).1.Now)],VI ((replyI x1 key ok {K:=v.K,N:=v.N,S:=v.S:DVal}).2)] [DV.agg [CL .eItem (replyO d x key ok v).1.S.Items,CI ((replyO d x key ok v).1.S.Next),CL .eMatch (replyO d x key ok v).1.Fired,CL .eTask (replyO d x key ok v).1.Tasks,CL .eTimer (replyO d x key ok v).1.Timers,CL .eUndo (replyO d x key ok v).1.Undos,CI ((replyO d x key ok v).1.State),CI ((replyO d x key ok v).1.Now)],VI ((replyO d x key ok v).2)]) (by kernel_rfl)
 dsimp only
 have hi:=ctInst_items x
 refine⟨by omega,hp0,by omega,if_not (fun g=> ?_) (fun g=>⟨good_inst g,store_inst g,live_reply g,?_⟩)⟩
 ·have e:replyO d x key ok v=(x,3):=if_neg (fun c=>absurd (c.1.symm.trans g) (by decide))
  exact LfXi (congrArg Prod.fst e).symm (congrArg Prod.snd e).symm
 ·have e:replyO d x key ok v=replyI x key ok v:=by
   by_cases hv:valOk v=true
   ·exact if_pos ⟨g,hv⟩
   ·rw[reply_bad hv];exact if_neg (fun c=>hv c.2)
  exact LfXi (congrArg Prod.fst e).symm (congrArg Prod.snd e).symm
def Zh11:HH:=⟨_,Zo11⟩
def Zk7:Con UU where
 α:=DDef×DInst×ByteArray×Bool×DVal
 md:=[.ro,.ro,.ro,.ro,.ro]
 of:=oC (oA .eDef) (oC (oA .eInst) (oC oS (oC oO (o1 (oA .eVal)))))
 ds:=fun x=>[dA .eDef x.1,dA .eInst x.2.1,dS x.2.2.1,dO x.2.2.2.1,dA .eVal x.2.2.2.2]
 pre:=fun(d,x,key,ok,v)=>[sizeDef d≤4294967295,sizeInst x≤4294967295]
 res:=fun(d,x,key,ok,v)=>⟨[dA .eInst ((replyO d x key ok v).1),dI ((replyO d x key ok v).2)],true,[]⟩
 law:=lC (lA .eDef) (lC (lA .eInst) (lC lS (lC lO (l1 (lA .eVal)))))
def Za7:Zk7.α→Nat→Option (Ann UU):=fun(d,x,key,ok,v)=>annL []
def Zu7:=us [Zh23,Zh24,Zh25,Zh26]
theorem Zo7:Holds EE (7,Zk7):=by
 refine holds_of EE_ok func7 Zk7 (by kernel_rfl) Zu7 (us_ok _) Za7 (fun x hp hb=> ?_)
 obtain⟨d,x,key,ok,v⟩:=x
 have hz0:=bd_eDef (x:=d) (hb _ m0)
 have hl_d_Name:=hz0.1
 have hl_d_Rules:=hz0.2
 have hz1:=bd_eInst (x:=x) (hb _ m1)
 have hl_x_S_Items:=hz1.1
 have hl_x_Fired:=hz1.2.1
 have hl_x_Tasks:=hz1.2.2.1
 have hl_x_Timers:=hz1.2.2.2.1
 have hl_x_Undos:=hz1.2.2.2.2
 have hl_key:=bdS (s:=key) (hb _ m2)
 have hl_v_S:=bd_eVal (x:=v) (hb _ m4)
 have hp0:sizeDef d≤4294967295:=hp _ m0
 have hp1:sizeInst x≤4294967295:=hp _ m1
 clear hp hb
 apply @ve _ (let x1:DInst:={S:={Items:={τ:=Cd.eItem,xs:=x.S.Items:Arr UU}.xs,Next:=x.S.Next:DStore},Fired:={τ:=Cd.eMatch,xs:=x.Fired:Arr UU}.xs,Tasks:={τ:=Cd.eTask,xs:=x.Tasks:Arr UU}.xs,Timers:={τ:=Cd.eTimer,xs:=x.Timers:Arr UU}.xs,Undos:={τ:=Cd.eUndo,xs:=x.Undos:Arr UU}.xs,State:=x.State,Now:=x.Now:DInst};let x0:DStore:=(replyI x1 key ok {K:=v.K,N:=v.N,S:=v.S:DVal}).1.S;sizeInst x≤(4294967296:Nat)∧sizeDef d≤(4294967295:Nat)∧sizeItemS x.S.Items≤(4294967296:Nat)∧bif !instOk d x then Lf [DV.agg (enc_eInst x),VI (3:Int)] [DV.agg [CL .eItem (replyO d x key ok v).1.S.Items,CI ((replyO d x key ok v).1.S.Next),CL .eMatch (replyO d x key ok v).1.Fired,CL .eTask (replyO d x key ok v).1.Tasks,CL .eTimer (replyO d x key ok v).1.Timers,CL .eUndo (replyO d x key ok v).1.Undos,CI ((replyO d x key ok v).1.State),CI ((replyO d x key ok v).1.Now)],VI ((replyO d x key ok v).2)] else bif !valOk v then Lf [DV.agg (enc_eInst x),VI (3:Int)] [DV.agg [CL .eItem (replyO d x key ok v).1.S.Items,CI ((replyO d x key ok v).1.S.Next),CL .eMatch (replyO d x key ok v).1.Fired,CL .eTask (replyO d x key ok v).1.Tasks,CL .eTimer (replyO d x key ok v).1.Timers,CL .eUndo (replyO d x key ok v).1.Undos,CI ((replyO d x key ok v).1.State),CI ((replyO d x key ok v).1.Now)],VI ((replyO d x key ok v).2)] else goodX x∧storeOk x.S=true∧valOk v=true∧((replyTask x1.Tasks key ok {K:=v.K,N:=v.N,S:=v.S:DVal}).2=(1:Int)→x.State=(1:Int)∨x.State=(3:Int)∨x.State=(5:Int))∧Lf [DV.agg [CL .eItem x0.Items,CI x0.Next,CL .eMatch (replyI x1 key ok {K:=v.K,N:=v.N,S:=v.S:DVal}).1.Fired,CL .eTask (replyI x1 key ok {K:=v.K,N:=v.N,S:=v.S:DVal}).1.Tasks,CL .eTimer (replyI x1 key ok {K:=v.K,N:=v.N,S:=v.S:DVal}).1.Timers,CL .eUndo (replyI x1 key ok {K:=v.K,N:=v.N,S:=v.S:DVal}).1.Undos,CI ((replyI x1 key ok {K:=v.K,N:=v.N,S:=v.S:DVal}).1.State),CI ((replyI x1 key ok {K:=v.K,N:=v.N,S:=v.S:DVal}).1.Now)],VI ((replyI x1 key ok {K:=v.K,N:=v.N,S:=v.S:DVal}).2)] [DV.agg [CL .eItem (replyO d x key ok v).1.S.Items,CI ((replyO d x key ok v).1.S.Next),CL .eMatch (replyO d x key ok v).1.Fired,CL .eTask (replyO d x key ok v).1.Tasks,CL .eTimer (replyO d x key ok v).1.Timers,CL .eUndo (replyO d x key ok v).1.Undos,CI ((replyO d x key ok v).1.State),CI ((replyO d x key ok v).1.Now)],VI ((replyO d x key ok v).2)]) (by kernel_rfl)
 dsimp only
 have hi:=ctInst_items x
 refine⟨by omega,hp0,by omega,if_not (fun g=> ?_) (fun g=>if_not (fun hv=> ?_) (fun hv=>⟨good_inst g,store_inst g,hv,live_reply g,?_⟩))⟩
 ·have e:replyO d x key ok v=(x,3):=if_neg (fun c=>absurd (c.1.symm.trans g) (by decide))
  exact LfXi (congrArg Prod.fst e).symm (congrArg Prod.snd e).symm
 ·have e:replyO d x key ok v=(x,3):=if_neg (fun c=>absurd (c.2.symm.trans hv) (by decide))
  exact LfXi (congrArg Prod.fst e).symm (congrArg Prod.snd e).symm
 ·have e:replyO d x key ok v=replyI x key ok v:=if_pos ⟨g,hv⟩
  exact LfXi (congrArg Prod.fst e).symm (congrArg Prod.snd e).symm
def Zh7:HH:=⟨_,Zo7⟩
theorem mkInst_eta5(y:DInst)(k:Int):(⟨⟨(mkInst y k).S.Items,y.S.Next⟩,(mkInst y k).Fired,(mkInst y k).Tasks,(mkInst y k).Timers,(mkInst y k).Undos,y.State,y.Now⟩:DInst)=mkInst y k:=rfl
def con_laws_FnExactReplyInst:Con UU where
 α:=DDef×DInst×ByteArray×Bool×DVal
 md:=[.ro,.ro,.ro,.ro,.ro]
 of:=oC (oA .lDef) (oC (oA .lInst) (oC oS (oC oO (o1 (oA .lVal)))))
 ds:=fun x=>[dA .lDef x.1,dA .lInst x.2.1,dS x.2.2.1,dO x.2.2.2.1,dA .lVal x.2.2.2.2]
 pre:=fun _=>[]
 res:=fun(aD,aX,aKey,aOk,aV)=>⟨[dO true],true,[]⟩
 law:=lC (lA .lDef) (lC (lA .lInst) (lC lS (lC lO (l1 (lA .lVal)))))
def ann_laws_FnExactReplyInst:con_laws_FnExactReplyInst.α→Nat→Option (Ann UU):=fun(aD,aX,aKey,aOk,aV)=>annL []
def use_laws_FnExactReplyInst:=us [Zh4,Zh5,Zh6,Zh8,Zh9,Zh10,Zh7,Zh11,Zh12,Zh13,Zh14,Zh15,Zh16]
theorem ok_laws_FnExactReplyInst:Holds EE (3,con_laws_FnExactReplyInst):=by
 refine holds_of EE_ok func3 con_laws_FnExactReplyInst (by kernel_rfl) use_laws_FnExactReplyInst (us_ok _) ann_laws_FnExactReplyInst (fun x hp hb=> ?_)
 obtain⟨aD,aX,aKey,aOk,aV⟩:=x
 have hz0:=bd_lDef (x:=aD) (hb _ m0)
 have hl_aD_Name:=hz0.1
 have hl_aD_Rules:=hz0.2
 have hz1:=bd_lInst (x:=aX) (hb _ m1)
 have hl_aX_S_Items:=hz1.1
 have hl_aX_Fired:=hz1.2.1
 have hl_aX_Tasks:=hz1.2.2.1
 have hl_aX_Timers:=hz1.2.2.2.1
 have hl_aX_Undos:=hz1.2.2.2.2
 have hl_aKey:=bdS (s:=aKey) (hb _ m2)
 have hl_aV_S:=bd_lVal (x:=aV) (hb _ m4)
 clear hp hb
 apply @ve _ (let x3:DInst:=mkInst (replyO {Name:=aD.Name,Rules:={τ:=Cd.eRule,xs:=aD.Rules:Arr UU}.xs:DDef} {S:={Items:={τ:=Cd.eItem,xs:=aX.S.Items:Arr UU}.xs,Next:=aX.S.Next:DStore},Fired:={τ:=Cd.eMatch,xs:=aX.Fired:Arr UU}.xs,Tasks:={τ:=Cd.eTask,xs:=aX.Tasks:Arr UU}.xs,Timers:={τ:=Cd.eTimer,xs:=aX.Timers:Arr UU}.xs,Undos:={τ:=Cd.eUndo,xs:=aX.Undos:Arr UU}.xs,State:=aX.State,Now:=aX.Now:DInst} aKey aOk {K:=aV.K,N:=aV.N,S:=aV.S:DVal}).1 (1:Int);let x4:Bool:= !decide ((replyO {Name:=aD.Name,Rules:={τ:=Cd.eRule,xs:=aD.Rules:Arr UU}.xs:DDef} {S:={Items:={τ:=Cd.eItem,xs:=aX.S.Items:Arr UU}.xs,Next:=aX.S.Next:DStore},Fired:={τ:=Cd.eMatch,xs:=aX.Fired:Arr UU}.xs,Tasks:={τ:=Cd.eTask,xs:=aX.Tasks:Arr UU}.xs,Timers:={τ:=Cd.eTimer,xs:=aX.Timers:Arr UU}.xs,Undos:={τ:=Cd.eUndo,xs:=aX.Undos:Arr UU}.xs,State:=aX.State,Now:=aX.Now:DInst} aKey aOk {K:=aV.K,N:=aV.N,S:=aV.S:DVal}).1=(replyO {Name:=aD.Name,Rules:={τ:=Cd.eRule,xs:=aD.Rules:Arr UU}.xs:DDef} {S:={Items:={τ:=Cd.eItem,xs:=aX.S.Items:Arr UU}.xs,Next:=aX.S.Next:DStore},Fired:={τ:=Cd.eMatch,xs:=aX.Fired:Arr UU}.xs,Tasks:={τ:=Cd.eTask,xs:=aX.Tasks:Arr UU}.xs,Timers:={τ:=Cd.eTimer,xs:=aX.Timers:Arr UU}.xs,Undos:={τ:=Cd.eUndo,xs:=aX.Undos:Arr UU}.xs,State:=aX.State,Now:=aX.Now:DInst} aKey aOk {K:=aV.K,N:=aV.N,S:=aV.S:DVal}).1);let x5:Bool:=(replyO {Name:=aD.Name,Rules:={τ:=Cd.eRule,xs:=aD.Rules:Arr UU}.xs:DDef} {S:={Items:={τ:=Cd.eItem,xs:=aX.S.Items:Arr UU}.xs,Next:=aX.S.Next:DStore},Fired:={τ:=Cd.eMatch,xs:=aX.Fired:Arr UU}.xs,Tasks:={τ:=Cd.eTask,xs:=aX.Tasks:Arr UU}.xs,Timers:={τ:=Cd.eTimer,xs:=aX.Timers:Arr UU}.xs,Undos:={τ:=Cd.eUndo,xs:=aX.Undos:Arr UU}.xs,State:=aX.State,Now:=aX.Now:DInst} aKey aOk {K:=aV.K,N:=aV.N,S:=aV.S:DVal}).2 !=(replyO {Name:=aD.Name,Rules:={τ:=Cd.eRule,xs:=aD.Rules:Arr UU}.xs:DDef} {S:={Items:={τ:=Cd.eItem,xs:=aX.S.Items:Arr UU}.xs,Next:=aX.S.Next:DStore},Fired:={τ:=Cd.eMatch,xs:=aX.Fired:Arr UU}.xs,Tasks:={τ:=Cd.eTask,xs:=aX.Tasks:Arr UU}.xs,Timers:={τ:=Cd.eTimer,xs:=aX.Timers:Arr UU}.xs,Undos:={τ:=Cd.eUndo,xs:=aX.Undos:Arr UU}.xs,State:=aX.State,Now:=aX.Now:DInst} aKey aOk {K:=aV.K,N:=aV.N,S:=aV.S:DVal}).2;let x7:Int:=(1:Int)+(↑(ctInst (replyO {Name:=aD.Name,Rules:={τ:=Cd.eRule,xs:=aD.Rules:Arr UU}.xs:DDef} {S:={Items:={τ:=Cd.eItem,xs:=aX.S.Items:Arr UU}.xs,Next:=aX.S.Next:DStore},Fired:={τ:=Cd.eMatch,xs:=aX.Fired:Arr UU}.xs,Tasks:={τ:=Cd.eTask,xs:=aX.Tasks:Arr UU}.xs,Timers:={τ:=Cd.eTimer,xs:=aX.Timers:Arr UU}.xs,Undos:={τ:=Cd.eUndo,xs:=aX.Undos:Arr UU}.xs,State:=aX.State,Now:=aX.Now:DInst} aKey aOk {K:=aV.K,N:=aV.N,S:=aV.S:DVal}).1):Int);let x9:Int:=(1:Int)+(↑(ctDef aD):Int);let x10:Int:=szr (1048576:Int) (sizeDef aD);let x2:DInst:={S:={Items:=x3.S.Items,Next:=(replyO {Name:=aD.Name,Rules:={τ:=Cd.eRule,xs:=aD.Rules:Arr UU}.xs:DDef} {S:={Items:={τ:=Cd.eItem,xs:=aX.S.Items:Arr UU}.xs,Next:=aX.S.Next:DStore},Fired:={τ:=Cd.eMatch,xs:=aX.Fired:Arr UU}.xs,Tasks:={τ:=Cd.eTask,xs:=aX.Tasks:Arr UU}.xs,Timers:={τ:=Cd.eTimer,xs:=aX.Timers:Arr UU}.xs,Undos:={τ:=Cd.eUndo,xs:=aX.Undos:Arr UU}.xs,State:=aX.State,Now:=aX.Now:DInst} aKey aOk {K:=aV.K,N:=aV.N,S:=aV.S:DVal}).1.S.Next:DStore},Fired:=x3.Fired,Tasks:=x3.Tasks,Timers:=x3.Timers,Undos:=x3.Undos,State:=(replyO {Name:=aD.Name,Rules:={τ:=Cd.eRule,xs:=aD.Rules:Arr UU}.xs:DDef} {S:={Items:={τ:=Cd.eItem,xs:=aX.S.Items:Arr UU}.xs,Next:=aX.S.Next:DStore},Fired:={τ:=Cd.eMatch,xs:=aX.Fired:Arr UU}.xs,Tasks:={τ:=Cd.eTask,xs:=aX.Tasks:Arr UU}.xs,Timers:={τ:=Cd.eTimer,xs:=aX.Timers:Arr UU}.xs,Undos:={τ:=Cd.eUndo,xs:=aX.Undos:Arr UU}.xs,State:=aX.State,Now:=aX.Now:DInst} aKey aOk {K:=aV.K,N:=aV.N,S:=aV.S:DVal}).1.State,Now:=(replyO {Name:=aD.Name,Rules:={τ:=Cd.eRule,xs:=aD.Rules:Arr UU}.xs:DDef} {S:={Items:={τ:=Cd.eItem,xs:=aX.S.Items:Arr UU}.xs,Next:=aX.S.Next:DStore},Fired:={τ:=Cd.eMatch,xs:=aX.Fired:Arr UU}.xs,Tasks:={τ:=Cd.eTask,xs:=aX.Tasks:Arr UU}.xs,Timers:={τ:=Cd.eTimer,xs:=aX.Timers:Arr UU}.xs,Undos:={τ:=Cd.eUndo,xs:=aX.Undos:Arr UU}.xs,State:=aX.State,Now:=aX.Now:DInst} aKey aOk {K:=aV.K,N:=aV.N,S:=aV.S:DVal}).1.Now:DInst};let x8:Int:=szr x10 (sizeInst aX);let x1:Int:=if mkInst x2 (1:Int)=x2 then(1:Int)+(↑(ctInst x2):Int) else(-1:Int);let x6:Bool:=x1 !=x7;let x0:Bool:=decide (x1<(0:Int));bif decide ((↑(ByteArray.size aKey):Int)>(1048576:Int)) then Lb true true else(0:Int)≤(1048576:Int)∧bif decide (x10<(0:Int)) then Lb true true else(0:Int)≤x10∧bif decide (x8<(0:Int)) then Lb true true else(0:Int)≤x8∧bif decide (szr x8 (sizeVal aV)<(0:Int)) then Lb true true else sizeDef aD≤(4294967296:Nat)∧sizeInst aX≤(4294967296:Nat)∧sizeVal aV≤(4294967296:Nat)∧sizeDef aD≤(4294967295:Nat)∧sizeInst aX≤(4294967295:Nat)∧sizeDef aD≤(4294967296:Nat)∧sizeInst aX≤(4294967296:Nat)∧sizeVal aV≤(4294967296:Nat)∧sizeDef aD≤(4294967295:Nat)∧sizeInst aX≤(4294967295:Nat)∧bif x4 then Lb false true else bif x5 then Lb false true else sizeDef aD≤(4294967296:Nat)∧bif !decide (aD=aD) then Lb false true else sizeInst aX≤(4294967296:Nat)∧bif !decide (aX=aX) then Lb false true else(0:Int)≤(1:Int)∧x9≤(4611686018427387904:Int)∧(0:Int)≤x9∧x9+(↑(ctInst aX):Int)≤(4611686018427387904:Int)∧bif x4 then Lb false true else bif x5 then Lb false true else(0:Int)≤(1:Int)∧x7≤(4611686018427387904:Int)∧(0:Int)≤(1:Int)∧(1:Int)+(↑(ctInst x2):Int)≤(4611686018427387904:Int)∧bif x0 then Lb false true else bif x6 then Lb false true else sizeDef aD≤(4294967296:Nat)∧sizeInst aX≤(4294967296:Nat)∧sizeVal aV≤(4294967296:Nat)∧sizeDef aD≤(4294967295:Nat)∧sizeInst aX≤(4294967295:Nat)∧bif x4 then Lb false true else bif x5 then Lb false true else(0:Int)≤(1:Int)∧(1:Int)+(↑(ctInst x2):Int)≤(4611686018427387904:Int)∧bif x0 then Lb false true else bif x6 then Lb false true else Lb true true) (by kernel_rfl)
 dsimp only
 refine if_cond (fun h=>Lf_rfl _) (fun h=> ?_)
 have hkey:=of_decide_eq_false h
 refine⟨by omega,if_cond (fun h=>Lf_rfl _) (fun h=> ?_)⟩
 obtain⟨e0,h0⟩:=szr_pos h
 refine⟨by omega,if_cond (fun h=>Lf_rfl _) (fun h=> ?_)⟩
 obtain⟨e1,h1⟩:=szr_pos h
 refine⟨by omega,if_cond (fun h=>Lf_rfl _) (fun h=> ?_)⟩
 obtain⟨e2,h2⟩:=szr_pos h
 have hc:=ctDef_le aD
 have hc1:=ctInst_le aX
 have hc2:=ctInst_le (replyO aD aX aKey aOk aV).1
 have hc3:=reply_size (d:=aD) aX aKey aOk aV
 have eD:(⟨aD.Name,aD.Rules⟩:DDef)=aD:=rfl
 have eX:(⟨⟨aX.S.Items,aX.S.Next⟩,aX.Fired,aX.Tasks,aX.Timers,aX.Undos,aX.State,aX.Now⟩:DInst)=aX:=rfl
 have eV:(⟨aV.K,aV.N,aV.S⟩:DVal)=aV:=rfl
 simp only[eD,eX,eV,mkInst_eta5,mkInst_idem,mkInst_ct,if_true]
 repeat' (first|exact Lf_rfl _|refine And.intro (by omega) ?_|refine if_cond (fun h=>absurd h (by first|(simp;done)|(simp;omega))) (fun h=> ?_)|fail)
def h_laws_FnExactReplyInst:HH:=⟨_,ok_laws_FnExactReplyInst⟩
end
end AM
