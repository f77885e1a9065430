/- Functions of the program with their contracts: put together by gen/link.py for FnExactRunNew. -/
import Derived.Test.YtdbaggndanpjkaaGreatAmLib
import Derived.Test.YtdbaggndanpjkaaGreatFExactRunNew2
namespace AM
open Go
set_option linter.unusedVariables false
set_option linter.unusedSimpArgs false
set_option maxRecDepth 100000
noncomputable section
def Zk22:Con UU where
 α:=DMem×DMem
 md:=[.ro,.ro]
 of:=oC (oA .eMem) (o1 (oA .eMem))
 ds:=fun x=>[dA .eMem x.1,dA .eMem x.2]
 pre:=fun _=>[]
 res:=fun(a,b)=>⟨[.one (.lit (.bool (decide (a=b))))],true,[]⟩
 law:=lC (lA .eMem) (l1 (lA .eMem))
def Za22:Zk22.α→Nat→Option (Ann UU):=fun(a,b)=>annL []
def Zu22:=us [Zh42,Zh43]
theorem Zv22(a:DMem)(b:DMem):goal EE Zu22 Go.Proofs.Tryz.f22 Zk22 Za22 (a,b)=(bif !decide (a.Alphas=b.Alphas) then Lb false (decide (a=b)) else bif !decide (a.Rules=b.Rules) then Lb false (decide (a=b)) else Lb true (decide (a=b))):=by kernel_rfl
theorem Zo22:Holds EE (22,Zk22):=by
 refine holds_of EE_ok Go.Proofs.Tryz.func22 Zk22 (by kernel_rfl) Zu22 (us_ok _) Za22 (fun x hp hb=> ?_)
 obtain⟨a,b⟩:=x
 have hz0:=bd_eMem (x:=a) (hb _ m0)
 have hl_a_Alphas:=hz0.1
 have hl_a_Rules:=hz0.2
 have hz1:=bd_eMem (x:=b) (hb _ m1)
 have hl_b_Alphas:=hz1.1
 have hl_b_Rules:=hz1.2
 clear hp hb
 rw[Zv22 a b]
 obtain⟨aAlphas,aRules⟩:=a
 obtain⟨bAlphas,bRules⟩:=b
 repeat' (apply if_cond<;>intro _)
 all_goals (first|apply Lf_t|apply Lf_f)<;>simp_all
def Zh22:HH:=⟨_,Zo22⟩
def Zk26:Con UU where
 α:=DMem×Int
 md:=[.wr,.ro]
 of:=oC (oA .eMem) (o1 oI)
 ds:=fun x=>[dA .eMem x.1,dI x.2]
 pre:=fun(a,k)=>[0≤k,k+ctMem a≤4611686018427387904]
 res:=fun(a,k)=>⟨[.one (.lit (.int .i64 (k+ctMem a)))],true,[.agg [.sl .eIds ((mkMem a k)).Alphas,.sl .eRow ((mkMem a k)).Rules]]⟩
 law:=lC (lA .eMem) (l1 lI)
def Za26:Zk26.α→Nat→Option (Ann UU):=fun(a,k)=>annL []
def Zu26:=us [Zh54,Zh55]
theorem Zv26(a:DMem)(k:Int):goal EE Zu26 Go.Proofs.Tryz.f26 Zk26 Za26 (a,k)=(let x0:Int:=k+(↑(cntIdsS a.Alphas):Int);
(0:Int)≤k∧x0≤(4611686018427387904:Int)∧(0:Int)≤x0∧x0+(↑(cntRowS a.Rules):Int)≤(4611686018427387904:Int)∧asD [DV.one (Cell.lit (Value.int IntKind.i64 (x0+(↑(cntRowS a.Rules):Int))))]=asD [DV.one (Cell.lit (Value.int IntKind.i64 (k+(↑(ctMem a):Int))))]∧asD [DV.agg [Cell.sl Cd.eIds (markIdsS a.Alphas k),Cell.sl Cd.eRow (markRowS a.Rules x0)]]=asD [DV.agg [Cell.sl Cd.eIds (mkMem a k).Alphas,Cell.sl Cd.eRow (mkMem a k).Rules]]):=by kernel_rfl
theorem Zo26:Holds EE (26,Zk26):=by
 refine holds_of EE_ok Go.Proofs.Tryz.func26 Zk26 (by kernel_rfl) Zu26 (us_ok _) Za26 (fun x hp hb=> ?_)
 obtain⟨a,k⟩:=x
 have hz0:=bd_eMem (x:=a) (hb _ m0)
 have hl_a_Alphas:=hz0.1
 have hl_a_Rules:=hz0.2
 have hl_k:=bdI (n:=k) (hb _ m1)
 have hp0:0≤k:=hp _ m0
 have hp1:k+ctMem a≤4611686018427387904:=hp _ m1
 clear hp hb
 rw[Zv26 a k]
 dsimp only
 simp only[ctMem] at hp1
 repeat' (first|refine And.intro (by omega) ?_|fail)
 exact⟨by simp only[ctMem,Int.natCast_add,Int.add_assoc],rfl⟩
def Zh26:HH:=⟨_,Zo26⟩
def Zk28:Con UU where
 α:=DMem×Int
 md:=[.ro,.ro]
 of:=oC (oA .eMem) (o1 oI)
 ds:=fun x=>[dA .eMem x.1,dI x.2]
 pre:=fun(a,k)=>[0≤k,k+ctMem a≤4611686018427387904]
 res:=fun(a,k)=>⟨[.one (.lit (.int .i64 (if mkMem a k=a then k+ctMem a else-1)))],true,[]⟩
 law:=lC (lA .eMem) (l1 lI)
def Za28:Zk28.α→Nat→Option (Ann UU):=fun(a,k)=>annL []
def Zu28:=us [Zh61,Zh62]
theorem Zv28(a:DMem)(k:Int):goal EE Zu28 Go.Proofs.Tryz.f28 Zk28 Za28 (a,k)=(let x2:Int:=(-1:Int);
let x1:Int:=if markIdsS a.Alphas k=a.Alphas then k+(↑(cntIdsS a.Alphas):Int) else x2;
let x0:Int:=if markRowS a.Rules x1=a.Rules then x1+(↑(cntRowS a.Rules):Int) else x2;
(0:Int)≤k∧k+(↑(cntIdsS a.Alphas):Int)≤(4611686018427387904:Int)∧bif decide (x1<(0:Int)) then Lf [DV.one (Cell.lit (Value.int IntKind.i64 x2))] [DV.one (Cell.lit (Value.int IntKind.i64 (if mkMem a k=a then k+(↑(ctMem a):Int) else x2)))] else(0:Int)≤x1∧x1+(↑(cntRowS a.Rules):Int)≤(4611686018427387904:Int)∧bif decide (x0<(0:Int)) then Lf [DV.one (Cell.lit (Value.int IntKind.i64 x2))] [DV.one (Cell.lit (Value.int IntKind.i64 (if mkMem a k=a then k+(↑(ctMem a):Int) else x2)))] else Lf [DV.one (Cell.lit (Value.int IntKind.i64 x0))] [DV.one (Cell.lit (Value.int IntKind.i64 (if mkMem a k=a then k+(↑(ctMem a):Int) else x2)))]):=by kernel_rfl
theorem Zo28:Holds EE (28,Zk28):=by
 refine holds_of EE_ok Go.Proofs.Tryz.func28 Zk28 (by kernel_rfl) Zu28 (us_ok _) Za28 (fun x hp hb=> ?_)
 obtain⟨a,k⟩:=x
 have hz0:=bd_eMem (x:=a) (hb _ m0)
 have hl_a_Alphas:=hz0.1
 have hl_a_Rules:=hz0.2
 have hl_k:=bdI (n:=k) (hb _ m1)
 have hp0:0≤k:=hp _ m0
 have hp1:k+ctMem a≤4611686018427387904:=hp _ m1
 clear hp hb
 rw[Zv28 a k]
 dsimp only
 simp only[ctMem] at hp1
 repeat' (first|refine And.intro (by omega) ?_|fail)
 by_cases hm1:markIdsS a.Alphas (k)=a.Alphas
 rotate_left
 ·simp only[if_neg hm1];rw[cond_yes (by decide)]
  exact Lf_no (fun hh=>hm1 (congrArg (fun t:DMem=>t.Alphas) hh))
 simp only[if_pos hm1]
 refine if_cond (fun h=>absurd (of_decide_eq_true h) (by omega)) (fun h=> ?_)
 repeat' (first|refine And.intro (by omega) ?_|fail)
 by_cases hm2:markRowS a.Rules (k+cntIdsS a.Alphas)=a.Rules
 rotate_left
 ·simp only[if_neg hm2];rw[cond_yes (by decide)]
  exact Lf_no (fun hh=>hm2 (congrArg (fun t:DMem=>t.Rules) hh))
 simp only[if_pos hm2]
 refine if_cond (fun h=>absurd (of_decide_eq_true h) (by omega)) (fun h=> ?_)
 exact Lf_yes (by simp only[mkMem,hm1,hm2]) (by simp only[ctMem];try omega)
def Zh28:HH:=⟨_,Zo28⟩
def Zk21:Con UU where
 α:=DInst×DInst
 md:=[.ro,.ro]
 of:=oC (oA .eInst) (o1 (oA .eInst))
 ds:=fun x=>[dA .eInst x.1,dA .eInst x.2]
 pre:=fun _=>[]
 res:=fun(a,b)=>⟨[.one (.lit (.bool (decide (a=b))))],true,[]⟩
 law:=lC (lA .eInst) (l1 (lA .eInst))
def Za21:Zk21.α→Nat→Option (Ann UU):=fun(a,b)=>annL []
def Zu21:=us [Zh37,Zh38,Zh39,Zh40,Zh41]
theorem Zv21(a:DInst)(b:DInst):goal EE Zu21 Go.Proofs.Tryz.f21 Zk21 Za21 (a,b)=(bif !decide (a.S=b.S) then Lb false (decide (a=b)) else bif !decide (a.Fired=b.Fired) then Lb false (decide (a=b)) else bif !decide (a.Tasks=b.Tasks) then Lb false (decide (a=b)) else bif !decide (a.Timers=b.Timers) then Lb false (decide (a=b)) else bif !decide (a.Undos=b.Undos) then Lb false (decide (a=b)) else bif a.State !=b.State then Lb false (decide (a=b)) else bif a.Now !=b.Now then Lb false (decide (a=b)) else Lb true (decide (a=b))):=by kernel_rfl
theorem Zo21:Holds EE (21,Zk21):=by
 refine holds_of EE_ok Go.Proofs.Tryz.func21 Zk21 (by kernel_rfl) Zu21 (us_ok _) Za21 (fun x hp hb=> ?_)
 obtain⟨a,b⟩:=x
 have hz0:=bd_eInst (x:=a) (hb _ m0)
 have hl_a_S_Items:=hz0.1
 have hl_a_Fired:=hz0.2.1
 have hl_a_Tasks:=hz0.2.2.1
 have hl_a_Timers:=hz0.2.2.2.1
 have hl_a_Undos:=hz0.2.2.2.2
 have hz1:=bd_eInst (x:=b) (hb _ m1)
 have hl_b_S_Items:=hz1.1
 have hl_b_Fired:=hz1.2.1
 have hl_b_Tasks:=hz1.2.2.1
 have hl_b_Timers:=hz1.2.2.2.1
 have hl_b_Undos:=hz1.2.2.2.2
 clear hp hb
 rw[Zv21 a b]
 obtain⟨aS,aFired,aTasks,aTimers,aUndos,aState,aNow⟩:=a
 obtain⟨bS,bFired,bTasks,bTimers,bUndos,bState,bNow⟩:=b
 repeat' (apply if_cond<;>intro _)
 all_goals (first|apply Lf_t|apply Lf_f)<;>simp_all
def Zh21:HH:=⟨_,Zo21⟩
def Zk25:Con UU where
 α:=DInst×Int
 md:=[.wr,.ro]
 of:=oC (oA .eInst) (o1 oI)
 ds:=fun x=>[dA .eInst x.1,dI x.2]
 pre:=fun(a,k)=>[0≤k,k+ctInst a≤4611686018427387904]
 res:=fun(a,k)=>⟨[.one (.lit (.int .i64 (k+ctInst a)))],true,[.agg [.sl .eItem (((mkInst a k)).S).Items,.lit (.int .i64 (((mkInst a k)).S).Next),.sl .eMatch ((mkInst a k)).Fired,.sl .eTask ((mkInst a k)).Tasks,.sl .eTimer ((mkInst a k)).Timers,.sl .eUndo ((mkInst a k)).Undos,.lit (.int .i64 ((mkInst a k)).State),.lit (.int .i64 ((mkInst a k)).Now)]]⟩
 law:=lC (lA .eInst) (l1 lI)
def Za25:Zk25.α→Nat→Option (Ann UU):=fun(a,k)=>annL []
def Zu25:=us [Zh49,Zh50,Zh51,Zh52,Zh53]
theorem Zv25(a:DInst)(k:Int):goal EE Zu25 Go.Proofs.Tryz.f25 Zk25 Za25 (a,k)=(let x3:Int:=k+(↑(ctStore a.S):Int);
let x2:Int:=x3+(↑(cntMatchS a.Fired):Int);
let x1:Int:=x2+(↑(cntTaskS a.Tasks):Int);
let x0:Int:=x1+(↑(cntTimerS a.Timers):Int);
(0:Int)≤k∧x3≤(4611686018427387904:Int)∧(0:Int)≤x3∧x2≤(4611686018427387904:Int)∧(0:Int)≤x2∧x1≤(4611686018427387904:Int)∧(0:Int)≤x1∧x0≤(4611686018427387904:Int)∧(0:Int)≤x0∧x0+(↑(cntUndoS a.Undos):Int)≤(4611686018427387904:Int)∧asD [DV.one (Cell.lit (Value.int IntKind.i64 (x0+(↑(cntUndoS a.Undos):Int))))]=asD [DV.one (Cell.lit (Value.int IntKind.i64 (k+(↑(ctInst a):Int))))]∧asD [DV.agg [Cell.sl Cd.eItem (mkStore a.S k).Items,Cell.lit (Value.int IntKind.i64 a.S.Next),Cell.sl Cd.eMatch (markMatchS a.Fired x3),Cell.sl Cd.eTask (markTaskS a.Tasks x2),Cell.sl Cd.eTimer (markTimerS a.Timers x1),Cell.sl Cd.eUndo (markUndoS a.Undos x0),Cell.lit (Value.int IntKind.i64 a.State),Cell.lit (Value.int IntKind.i64 a.Now)]]=asD [DV.agg [Cell.sl Cd.eItem (mkInst a k).S.Items,Cell.lit (Value.int IntKind.i64 (mkInst a k).S.Next),Cell.sl Cd.eMatch (mkInst a k).Fired,Cell.sl Cd.eTask (mkInst a k).Tasks,Cell.sl Cd.eTimer (mkInst a k).Timers,Cell.sl Cd.eUndo (mkInst a k).Undos,Cell.lit (Value.int IntKind.i64 (mkInst a k).State),Cell.lit (Value.int IntKind.i64 (mkInst a k).Now)]]):=by kernel_rfl
theorem Zo25:Holds EE (25,Zk25):=by
 refine holds_of EE_ok Go.Proofs.Tryz.func25 Zk25 (by kernel_rfl) Zu25 (us_ok _) Za25 (fun x hp hb=> ?_)
 obtain⟨a,k⟩:=x
 have hz0:=bd_eInst (x:=a) (hb _ m0)
 have hl_a_S_Items:=hz0.1
 have hl_a_Fired:=hz0.2.1
 have hl_a_Tasks:=hz0.2.2.1
 have hl_a_Timers:=hz0.2.2.2.1
 have hl_a_Undos:=hz0.2.2.2.2
 have hl_k:=bdI (n:=k) (hb _ m1)
 have hp0:0≤k:=hp _ m0
 have hp1:k+ctInst a≤4611686018427387904:=hp _ m1
 clear hp hb
 rw[Zv25 a k]
 dsimp only
 simp only[ctInst] at hp1
 repeat' (first|refine And.intro (by omega) ?_|fail)
 exact⟨by simp only[ctInst,Int.natCast_add,Int.add_assoc],rfl⟩
def Zh25:HH:=⟨_,Zo25⟩
def Zk27:Con UU where
 α:=DInst×Int
 md:=[.ro,.ro]
 of:=oC (oA .eInst) (o1 oI)
 ds:=fun x=>[dA .eInst x.1,dI x.2]
 pre:=fun(a,k)=>[0≤k,k+ctInst a≤4611686018427387904]
 res:=fun(a,k)=>⟨[.one (.lit (.int .i64 (if mkInst a k=a then k+ctInst a else-1)))],true,[]⟩
 law:=lC (lA .eInst) (l1 lI)
def Za27:Zk27.α→Nat→Option (Ann UU):=fun(a,k)=>annL []
def Zu27:=us [Zh56,Zh57,Zh58,Zh59,Zh60]
theorem Zv27(a:DInst)(k:Int):goal EE Zu27 Go.Proofs.Tryz.f27 Zk27 Za27 (a,k)=(let x5:Int:=(-1:Int);
let x4:Int:=if mkStore a.S k=a.S then k+(↑(ctStore a.S):Int) else x5;
let x3:Int:=if markMatchS a.Fired x4=a.Fired then x4+(↑(cntMatchS a.Fired):Int) else x5;
let x2:Int:=if markTaskS a.Tasks x3=a.Tasks then x3+(↑(cntTaskS a.Tasks):Int) else x5;
let x1:Int:=if markTimerS a.Timers x2=a.Timers then x2+(↑(cntTimerS a.Timers):Int) else x5;
let x0:Int:=if markUndoS a.Undos x1=a.Undos then x1+(↑(cntUndoS a.Undos):Int) else x5;
(0:Int)≤k∧k+(↑(ctStore a.S):Int)≤(4611686018427387904:Int)∧bif decide (x4<(0:Int)) then Lf [DV.one (Cell.lit (Value.int IntKind.i64 x5))] [DV.one (Cell.lit (Value.int IntKind.i64 (if mkInst a k=a then k+(↑(ctInst a):Int) else x5)))] else(0:Int)≤x4∧x4+(↑(cntMatchS a.Fired):Int)≤(4611686018427387904:Int)∧bif decide (x3<(0:Int)) then Lf [DV.one (Cell.lit (Value.int IntKind.i64 x5))] [DV.one (Cell.lit (Value.int IntKind.i64 (if mkInst a k=a then k+(↑(ctInst a):Int) else x5)))] else(0:Int)≤x3∧x3+(↑(cntTaskS a.Tasks):Int)≤(4611686018427387904:Int)∧bif decide (x2<(0:Int)) then Lf [DV.one (Cell.lit (Value.int IntKind.i64 x5))] [DV.one (Cell.lit (Value.int IntKind.i64 (if mkInst a k=a then k+(↑(ctInst a):Int) else x5)))] else(0:Int)≤x2∧x2+(↑(cntTimerS a.Timers):Int)≤(4611686018427387904:Int)∧bif decide (x1<(0:Int)) then Lf [DV.one (Cell.lit (Value.int IntKind.i64 x5))] [DV.one (Cell.lit (Value.int IntKind.i64 (if mkInst a k=a then k+(↑(ctInst a):Int) else x5)))] else(0:Int)≤x1∧x1+(↑(cntUndoS a.Undos):Int)≤(4611686018427387904:Int)∧bif decide (x0<(0:Int)) then Lf [DV.one (Cell.lit (Value.int IntKind.i64 x5))] [DV.one (Cell.lit (Value.int IntKind.i64 (if mkInst a k=a then k+(↑(ctInst a):Int) else x5)))] else Lf [DV.one (Cell.lit (Value.int IntKind.i64 x0))] [DV.one (Cell.lit (Value.int IntKind.i64 (if mkInst a k=a then k+(↑(ctInst a):Int) else x5)))]):=by kernel_rfl
theorem Zo27:Holds EE (27,Zk27):=by
 refine holds_of EE_ok Go.Proofs.Tryz.func27 Zk27 (by kernel_rfl) Zu27 (us_ok _) Za27 (fun x hp hb=> ?_)
 obtain⟨a,k⟩:=x
 have hz0:=bd_eInst (x:=a) (hb _ m0)
 have hl_a_S_Items:=hz0.1
 have hl_a_Fired:=hz0.2.1
 have hl_a_Tasks:=hz0.2.2.1
 have hl_a_Timers:=hz0.2.2.2.1
 have hl_a_Undos:=hz0.2.2.2.2
 have hl_k:=bdI (n:=k) (hb _ m1)
 have hp0:0≤k:=hp _ m0
 have hp1:k+ctInst a≤4611686018427387904:=hp _ m1
 clear hp hb
 rw[Zv27 a k]
 dsimp only
 simp only[ctInst] at hp1
 repeat' (first|refine And.intro (by omega) ?_|fail)
 by_cases hm1:mkStore a.S (k)=a.S
 rotate_left
 ·simp only[if_neg hm1];rw[cond_yes (by decide)]
  exact Lf_no (fun hh=>hm1 (congrArg (fun t:DInst=>t.S) hh))
 simp only[if_pos hm1]
 refine if_cond (fun h=>absurd (of_decide_eq_true h) (by omega)) (fun h=> ?_)
 repeat' (first|refine And.intro (by omega) ?_|fail)
 by_cases hm2:markMatchS a.Fired (k+ctStore a.S)=a.Fired
 rotate_left
 ·simp only[if_neg hm2];rw[cond_yes (by decide)]
  exact Lf_no (fun hh=>hm2 (congrArg (fun t:DInst=>t.Fired) hh))
 simp only[if_pos hm2]
 refine if_cond (fun h=>absurd (of_decide_eq_true h) (by omega)) (fun h=> ?_)
 repeat' (first|refine And.intro (by omega) ?_|fail)
 by_cases hm3:markTaskS a.Tasks (k+ctStore a.S+cntMatchS a.Fired)=a.Tasks
 rotate_left
 ·simp only[if_neg hm3];rw[cond_yes (by decide)]
  exact Lf_no (fun hh=>hm3 (congrArg (fun t:DInst=>t.Tasks) hh))
 simp only[if_pos hm3]
 refine if_cond (fun h=>absurd (of_decide_eq_true h) (by omega)) (fun h=> ?_)
 repeat' (first|refine And.intro (by omega) ?_|fail)
 by_cases hm4:markTimerS a.Timers (k+ctStore a.S+cntMatchS a.Fired+cntTaskS a.Tasks)=a.Timers
 rotate_left
 ·simp only[if_neg hm4];rw[cond_yes (by decide)]
  exact Lf_no (fun hh=>hm4 (congrArg (fun t:DInst=>t.Timers) hh))
 simp only[if_pos hm4]
 refine if_cond (fun h=>absurd (of_decide_eq_true h) (by omega)) (fun h=> ?_)
 repeat' (first|refine And.intro (by omega) ?_|fail)
 by_cases hm5:markUndoS a.Undos (k+ctStore a.S+cntMatchS a.Fired+cntTaskS a.Tasks+cntTimerS a.Timers)=a.Undos
 rotate_left
 ·simp only[if_neg hm5];rw[cond_yes (by decide)]
  exact Lf_no (fun hh=>hm5 (congrArg (fun t:DInst=>t.Undos) hh))
 simp only[if_pos hm5]
 refine if_cond (fun h=>absurd (of_decide_eq_true h) (by omega)) (fun h=> ?_)
 exact Lf_yes (by simp only[mkInst,hm1,hm2,hm3,hm4,hm5]) (by simp only[ctInst];try omega)
def Zh27:HH:=⟨_,Zo27⟩
def Zk8:Con UU where
 α:=DRun×DRun
 md:=[.ro,.ro]
 of:=oC (oA .eRun) (o1 (oA .eRun))
 ds:=fun x=>[dA .eRun x.1,dA .eRun x.2]
 pre:=fun _=>[]
 res:=fun(a,b)=>⟨[.one (.lit (.bool (decide (a=b))))],true,[]⟩
 law:=lC (lA .eRun) (l1 (lA .eRun))
def Za8:Zk8.α→Nat→Option (Ann UU):=fun(a,b)=>annL []
def Zu8:=us [Zh21,Zh22]
theorem Zv8(a:DRun)(b:DRun):goal EE Zu8 Go.Proofs.Tryz.f8 Zk8 Za8 (a,b)=(bif !decide (a.X=b.X) then Lb false (decide (a=b)) else bif !decide (a.M=b.M) then Lb false (decide (a=b)) else Lb true (decide (a=b))):=by kernel_rfl
theorem Zo8:Holds EE (8,Zk8):=by
 refine holds_of EE_ok Go.Proofs.Tryz.func8 Zk8 (by kernel_rfl) Zu8 (us_ok _) Za8 (fun x hp hb=> ?_)
 obtain⟨a,b⟩:=x
 have hz0:=bd_eRun (x:=a) (hb _ m0)
 have hl_a_X_S_Items:=hz0.1
 have hl_a_X_Fired:=hz0.2.1
 have hl_a_X_Tasks:=hz0.2.2.1
 have hl_a_X_Timers:=hz0.2.2.2.1
 have hl_a_X_Undos:=hz0.2.2.2.2.1
 have hl_a_M_Alphas:=hz0.2.2.2.2.2.1
 have hl_a_M_Rules:=hz0.2.2.2.2.2.2
 have hz1:=bd_eRun (x:=b) (hb _ m1)
 have hl_b_X_S_Items:=hz1.1
 have hl_b_X_Fired:=hz1.2.1
 have hl_b_X_Tasks:=hz1.2.2.1
 have hl_b_X_Timers:=hz1.2.2.2.1
 have hl_b_X_Undos:=hz1.2.2.2.2.1
 have hl_b_M_Alphas:=hz1.2.2.2.2.2.1
 have hl_b_M_Rules:=hz1.2.2.2.2.2.2
 clear hp hb
 rw[Zv8 a b]
 obtain⟨aX,aM⟩:=a
 obtain⟨bX,bM⟩:=b
 repeat' (apply if_cond<;>intro _)
 all_goals (first|apply Lf_t|apply Lf_f)<;>simp_all
def Zh8:HH:=⟨_,Zo8⟩
def Zk11:Con UU where
 α:=DRun×Int
 md:=[.wr,.ro]
 of:=oC (oA .eRun) (o1 oI)
 ds:=fun x=>[dA .eRun x.1,dI x.2]
 pre:=fun(a,k)=>[0≤k,k+ctRun a≤4611686018427387904]
 res:=fun(a,k)=>⟨[.one (.lit (.int .i64 (k+ctRun a)))],true,[.agg [.sl .eItem ((((mkRun a k)).X).S).Items,.lit (.int .i64 ((((mkRun a k)).X).S).Next),.sl .eMatch (((mkRun a k)).X).Fired,.sl .eTask (((mkRun a k)).X).Tasks,.sl .eTimer (((mkRun a k)).X).Timers,.sl .eUndo (((mkRun a k)).X).Undos,.lit (.int .i64 (((mkRun a k)).X).State),.lit (.int .i64 (((mkRun a k)).X).Now),.sl .eIds (((mkRun a k)).M).Alphas,.sl .eRow (((mkRun a k)).M).Rules]]⟩
 law:=lC (lA .eRun) (l1 lI)
def Za11:Zk11.α→Nat→Option (Ann UU):=fun(a,k)=>annL []
def Zu11:=us [Zh25,Zh26]
theorem Zv11(a:DRun)(k:Int):goal EE Zu11 Go.Proofs.Tryz.f11 Zk11 Za11 (a,k)=(let x0:Int:=k+(↑(ctInst a.X):Int);
(0:Int)≤k∧x0≤(4611686018427387904:Int)∧(0:Int)≤x0∧x0+(↑(ctMem a.M):Int)≤(4611686018427387904:Int)∧asD [DV.one (Cell.lit (Value.int IntKind.i64 (x0+(↑(ctMem a.M):Int))))]=asD [DV.one (Cell.lit (Value.int IntKind.i64 (k+(↑(ctRun a):Int))))]∧asD [DV.agg [Cell.sl Cd.eItem (mkInst a.X k).S.Items,Cell.lit (Value.int IntKind.i64 a.X.S.Next),Cell.sl Cd.eMatch (mkInst a.X k).Fired,Cell.sl Cd.eTask (mkInst a.X k).Tasks,Cell.sl Cd.eTimer (mkInst a.X k).Timers,Cell.sl Cd.eUndo (mkInst a.X k).Undos,Cell.lit (Value.int IntKind.i64 a.X.State),Cell.lit (Value.int IntKind.i64 a.X.Now),Cell.sl Cd.eIds (mkMem a.M x0).Alphas,Cell.sl Cd.eRow (mkMem a.M x0).Rules]]=asD [DV.agg [Cell.sl Cd.eItem (mkRun a k).X.S.Items,Cell.lit (Value.int IntKind.i64 (mkRun a k).X.S.Next),Cell.sl Cd.eMatch (mkRun a k).X.Fired,Cell.sl Cd.eTask (mkRun a k).X.Tasks,Cell.sl Cd.eTimer (mkRun a k).X.Timers,Cell.sl Cd.eUndo (mkRun a k).X.Undos,Cell.lit (Value.int IntKind.i64 (mkRun a k).X.State),Cell.lit (Value.int IntKind.i64 (mkRun a k).X.Now),Cell.sl Cd.eIds (mkRun a k).M.Alphas,Cell.sl Cd.eRow (mkRun a k).M.Rules]]):=by kernel_rfl
theorem Zo11:Holds EE (11,Zk11):=by
 refine holds_of EE_ok Go.Proofs.Tryz.func11 Zk11 (by kernel_rfl) Zu11 (us_ok _) Za11 (fun x hp hb=> ?_)
 obtain⟨a,k⟩:=x
 have hz0:=bd_eRun (x:=a) (hb _ m0)
 have hl_a_X_S_Items:=hz0.1
 have hl_a_X_Fired:=hz0.2.1
 have hl_a_X_Tasks:=hz0.2.2.1
 have hl_a_X_Timers:=hz0.2.2.2.1
 have hl_a_X_Undos:=hz0.2.2.2.2.1
 have hl_a_M_Alphas:=hz0.2.2.2.2.2.1
 have hl_a_M_Rules:=hz0.2.2.2.2.2.2
 have hl_k:=bdI (n:=k) (hb _ m1)
 have hp0:0≤k:=hp _ m0
 have hp1:k+ctRun a≤4611686018427387904:=hp _ m1
 clear hp hb
 rw[Zv11 a k]
 dsimp only
 simp only[ctRun] at hp1
 repeat' (first|refine And.intro (by omega) ?_|fail)
 exact⟨by simp only[ctRun,Int.natCast_add,Int.add_assoc],rfl⟩
def Zh11:HH:=⟨_,Zo11⟩
def Zk12:Con UU where
 α:=DRun×Int
 md:=[.ro,.ro]
 of:=oC (oA .eRun) (o1 oI)
 ds:=fun x=>[dA .eRun x.1,dI x.2]
 pre:=fun(a,k)=>[0≤k,k+ctRun a≤4611686018427387904]
 res:=fun(a,k)=>⟨[.one (.lit (.int .i64 (if mkRun a k=a then k+ctRun a else-1)))],true,[]⟩
 law:=lC (lA .eRun) (l1 lI)
def Za12:Zk12.α→Nat→Option (Ann UU):=fun(a,k)=>annL []
def Zu12:=us [Zh27,Zh28]
theorem Zv12(a:DRun)(k:Int):goal EE Zu12 Go.Proofs.Tryz.f12 Zk12 Za12 (a,k)=(let x2:Int:=(-1:Int);
let x1:Int:=if mkInst a.X k=a.X then k+(↑(ctInst a.X):Int) else x2;
let x0:Int:=if mkMem a.M x1=a.M then x1+(↑(ctMem a.M):Int) else x2;
(0:Int)≤k∧k+(↑(ctInst a.X):Int)≤(4611686018427387904:Int)∧bif decide (x1<(0:Int)) then Lf [DV.one (Cell.lit (Value.int IntKind.i64 x2))] [DV.one (Cell.lit (Value.int IntKind.i64 (if mkRun a k=a then k+(↑(ctRun a):Int) else x2)))] else(0:Int)≤x1∧x1+(↑(ctMem a.M):Int)≤(4611686018427387904:Int)∧bif decide (x0<(0:Int)) then Lf [DV.one (Cell.lit (Value.int IntKind.i64 x2))] [DV.one (Cell.lit (Value.int IntKind.i64 (if mkRun a k=a then k+(↑(ctRun a):Int) else x2)))] else Lf [DV.one (Cell.lit (Value.int IntKind.i64 x0))] [DV.one (Cell.lit (Value.int IntKind.i64 (if mkRun a k=a then k+(↑(ctRun a):Int) else x2)))]):=by kernel_rfl
theorem Zo12:Holds EE (12,Zk12):=by
 refine holds_of EE_ok Go.Proofs.Tryz.func12 Zk12 (by kernel_rfl) Zu12 (us_ok _) Za12 (fun x hp hb=> ?_)
 obtain⟨a,k⟩:=x
 have hz0:=bd_eRun (x:=a) (hb _ m0)
 have hl_a_X_S_Items:=hz0.1
 have hl_a_X_Fired:=hz0.2.1
 have hl_a_X_Tasks:=hz0.2.2.1
 have hl_a_X_Timers:=hz0.2.2.2.1
 have hl_a_X_Undos:=hz0.2.2.2.2.1
 have hl_a_M_Alphas:=hz0.2.2.2.2.2.1
 have hl_a_M_Rules:=hz0.2.2.2.2.2.2
 have hl_k:=bdI (n:=k) (hb _ m1)
 have hp0:0≤k:=hp _ m0
 have hp1:k+ctRun a≤4611686018427387904:=hp _ m1
 clear hp hb
 rw[Zv12 a k]
 dsimp only
 simp only[ctRun] at hp1
 repeat' (first|refine And.intro (by omega) ?_|fail)
 by_cases hm1:mkInst a.X (k)=a.X
 rotate_left
 ·simp only[if_neg hm1];rw[cond_yes (by decide)]
  exact Lf_no (fun hh=>hm1 (congrArg (fun t:DRun=>t.X) hh))
 simp only[if_pos hm1]
 refine if_cond (fun h=>absurd (of_decide_eq_true h) (by omega)) (fun h=> ?_)
 repeat' (first|refine And.intro (by omega) ?_|fail)
 by_cases hm2:mkMem a.M (k+ctInst a.X)=a.M
 rotate_left
 ·simp only[if_neg hm2];rw[cond_yes (by decide)]
  exact Lf_no (fun hh=>hm2 (congrArg (fun t:DRun=>t.M) hh))
 simp only[if_pos hm2]
 refine if_cond (fun h=>absurd (of_decide_eq_true h) (by omega)) (fun h=> ?_)
 exact Lf_yes (by simp only[mkRun,hm1,hm2]) (by simp only[ctRun];try omega)
def Zh12:HH:=⟨_,Zo12⟩
def Zk160:Con UU where
 α:=(List Int)×(List Int)
 md:=[.ro,.ro]
 of:=oC (oL .int) (o1 (oL .int))
 ds:=fun x=>[dL .int x.1,dL .int x.2]
 pre:=fun _=>[]
 res:=fun(a,b)=>⟨[.one (.lit (.bool (decide (a=b))))],true,[]⟩
 law:=lC (lL .int) (l1 (lL .int))
def Zi160_4(a:(List Int))(b:(List Int)):Int×Unit→Prop:=fun(i,_)=>0≤i∧i≤a.length∧a.length=b.length∧(a.drop i.toNat=b.drop i.toNat↔a=b)
def Zm160_4(a:(List Int))(b:(List Int)):Int×Unit→Nat:=fun(i,_)=>a.length-i.toNat
def Za160:Zk160.α→Nat→Option (Ann UU):=fun(a,b)=>annL [(4,annOf [.slot 13 (13,1024) (.lit (.int .i64))] (fun _=>Zi160_4 a b) (Zm160_4 a b))]
def Zu160:List (FuncId×Con UU):=[]
theorem Zv160(a:(List Int))(b:(List Int)):goal EE Zu160 Go.Proofs.Tryz.f160 Zk160 Za160 (a,b)=(bif (a.length:Int) !=(b.length:Int) then Lb false (decide (a=b)) else Zi160_4 a b ((0:Int),())∧∀(y:Int×PUnit),Zi160_4 a b y→bif decide (y.1<(a.length:Int)) then(0:Int)≤y.1∧y.1.toNat<a.length∧(0:Int)≤y.1∧y.1.toNat<b.length∧bif List.getD a y.1.toNat (0:Int) !=List.getD b y.1.toNat (0:Int) then Lb false (decide (a=b)) else Zi160_4 a b (IntKind.wrap IntKind.i64 (y.1+(1:Int)),())∧Zm160_4 a b (IntKind.wrap IntKind.i64 (y.1+(1:Int)),())<Zm160_4 a b y else Lb true (decide (a=b))):=by kernel_rfl
theorem Zo160:Holds EE (160,Zk160):=by
 refine holds_of EE_ok Go.Proofs.Tryz.func160 Zk160 (by kernel_rfl) Zu160 all_nil Za160 (fun x hp hb=> ?_)
 obtain⟨a,b⟩:=x
 have hl_a:a.length≤9223372036854775807:=bdL (hb _ m0)
 have hl_b:b.length≤9223372036854775807:=bdL (hb _ m1)
 clear hp hb
 rw[Zv160 a b]
 refine if_cond (fun h=>Lf_f ?_) (fun h=>⟨?_,?_⟩)
 ·rintro rfl;simp at h
 ·simp[Zi160_4] at*;omega
 rintro⟨i,⟨⟩⟩ ⟨h1,h2,h3,hR⟩
 simp only at*
 refine if_cond (fun hc=> ?_) (fun hc=> ?_)
 ·have hc:i<a.length:=by simpa using hc
  rw[drop_step a (0:Int) h1 hc,drop_step b (0:Int) h1 (by omega)] at hR
  rw[wrap_i64 (by omega) (by omega)]
  skip
  refine⟨by omega,by omega,by omega,by omega,if_cond (fun h=>Lf_f ?_) (fun h=>⟨⟨by omega,by omega,h3,?_⟩,?_⟩)⟩
  ·rw[←hR];simp at h;simp[h]
  ·rw[←hR];simp at h;simp[h]
  ·simp only[Zm160_4];omega
 ·have hc:a.length≤i:=by simpa using hc
  rw[drop_end a hc,drop_end b (by omega)] at hR
  exact Lf_t (hR.1 rfl)
def Zh160:HH:=⟨_,Zo160⟩
theorem dr_ne{α:Type}{a b:List α}(z:α){i:Int}(h1:0≤i)(ha:i<a.length)(hb:i<b.length)(hR:a.drop i.toNat=b.drop i.toNat↔a=b)(h:List.getD a i.toNat z≠List.getD b i.toNat z):a≠b:=by
 rw[drop_step a z h1 ha,drop_step b z h1 hb] at hR
 exact fun e=>h (List.cons.inj (hR.2 e)).1
theorem dr_eq{α:Type}{a b:List α}(z:α){i:Int}(h1:0≤i)(ha:i<a.length)(hb:i<b.length)(hR:a.drop i.toNat=b.drop i.toNat↔a=b)(h:List.getD a i.toNat z=List.getD b i.toNat z):(a.drop (i+1).toNat=b.drop (i+1).toNat↔a=b):=by
 rw[drop_step a z h1 ha,drop_step b z h1 hb,h] at hR
 rw[←hR];simp
theorem dr_end{α:Type}{a b:List α}{i:Int}(ha:a.length≤i)(hb:b.length≤i)(hR:a.drop i.toNat=b.drop i.toNat↔a=b):a=b:=by
 rw[drop_end a ha,drop_end b hb] at hR
 exact hR.1 rfl
theorem len_eq{α:Type}{a b:List α}(h:((a.length:Int) !=(b.length:Int))=false):a.length=b.length:=by
 have h:(a.length:Int)=b.length:=by simpa using h
 omega
theorem ne_len{α:Type}{a b:List α}(h:¬(a.length:Int)=b.length):a≠b:=fun e=>h (by rw[e])
def Zk147:Con UU where
 α:=(List Int)×(List Int)
 md:=[.ro,.ro]
 of:=oC (oL .int) (o1 (oL .int))
 ds:=fun x=>[dL .int x.1,dL .int x.2]
 pre:=fun _=>[]
 res:=fun(a,b)=>⟨[.one (.lit (.bool (decide (a=b))))],true,[]⟩
 law:=lC (lL .int) (l1 (lL .int))
def Zi147_4(a:(List Int))(b:(List Int)):Int×Unit→Prop:=fun(i,_)=>0≤i∧i≤a.length∧a.length=b.length∧(a.drop i.toNat=b.drop i.toNat↔a=b)
def Zm147_4(a:(List Int))(b:(List Int)):Int×Unit→Nat:=fun(i,_)=>a.length-i.toNat
def Za147:Zk147.α→Nat→Option (Ann UU):=fun(a,b)=>annL [(4,annOf [.slot 5 (5,1024) (.lit (.int .i64))] (fun _=>Zi147_4 a b) (Zm147_4 a b))]
def Zu147:List (FuncId×Con UU):=[]
theorem Zv147(a:(List Int))(b:(List Int)):goal EE Zu147 Go.Proofs.Tryz.f147 Zk147 Za147 (a,b)=(bif (a.length:Int) !=(b.length:Int) then Lb false (decide (a=b)) else Zi147_4 a b ((0:Int),())∧∀(y:Int×PUnit),Zi147_4 a b y→bif decide (y.1<(a.length:Int)) then(0:Int)≤y.1∧y.1.toNat<a.length∧(0:Int)≤y.1∧y.1.toNat<b.length∧bif List.getD a y.1.toNat (0:Int) !=List.getD b y.1.toNat (0:Int) then Lb false (decide (a=b)) else Zi147_4 a b (IntKind.wrap IntKind.i64 (y.1+(1:Int)),())∧Zm147_4 a b (IntKind.wrap IntKind.i64 (y.1+(1:Int)),())<Zm147_4 a b y else Lb true (decide (a=b))):=by kernel_rfl
theorem Zo147:Holds EE (147,Zk147):=by
 refine holds_of EE_ok Go.Proofs.Tryz.func147 Zk147 (by kernel_rfl) Zu147 all_nil Za147 (fun x hp hb=> ?_)
 obtain⟨a,b⟩:=x
 have hl_a:a.length≤9223372036854775807:=bdL (hb _ m0)
 have hl_b:b.length≤9223372036854775807:=bdL (hb _ m1)
 clear hp hb
 rw[Zv147 a b]
 refine if_cond (fun h=>Lf_f (ne_len (by simpa using h))) (fun h=>⟨⟨by omega,by omega,(len_eq (a:=a) (b:=b) (by assumption)),by simp⟩,?_⟩)
 rintro⟨i,⟨⟩⟩ ⟨h1,h2,h3,hR⟩
 simp only
 refine if_cond (fun hc=> ?_) (fun hc=> ?_)
 ·have hc:i<a.length:=of_decide_eq_true hc
  rw[wrap_i64 (by omega) (by omega)]
  try simp only[val_beq]
  try simp only[toList_beq]
  have hz:True:=trivial
  repeat' (first|refine And.intro (by omega) ?_|refine if_cond (fun h=> ?_) (fun h=> ?_))
  all_goals first|exact Lf_f (dr_ne (0:Int) h1 hc (by omega) hR (by first|grind|(rw[hz];grind)))|exact⟨⟨by omega,by omega,h3,dr_eq (0:Int) h1 hc (by omega) hR (by first|grind|(rw[hz];grind))⟩,by simp only[Zm147_4];omega⟩
 ·have hc:a.length≤i:=by have:=of_decide_eq_false hc;omega
  exact Lf_t (dr_end hc (by omega) hR)
def Zh147:HH:=⟨_,Zo147⟩
theorem eq_Alpha(x y:DAlpha):x=y↔x.Kind=y.Kind∧x.N=y.N∧x.Consts=y.Consts∧x.At=y.At:=by cases x;cases y;simp[DAlpha.mk.injEq]
def constsV(l:List DArg):List DVal:=(l.filter fun a=>decide (a.K=2)).map fun a=>a.V
def atsV(l:List DArg)(n:Nat):List Int:=((List.range n).filter fun i=>decide ((List.getD l i zArg).K=2)).map fun(i:Nat)=>(i:Int)
def alphaM(p:DPat):DAlpha:=⟨p.Kind,p.Args.length,constsV p.Args,atsV p.Args p.Args.length⟩
theorem consts_len(l:List DArg):(constsV l).length≤l.length:=by
 unfold constsV;rw[List.length_map];exact List.length_filter_le _ _
theorem ats_len(l:List DArg)(n:Nat):(atsV l n).length≤n:=by
 unfold atsV;rw[List.length_map]
 exact Nat.le_trans (List.length_filter_le _ _) (by simp)
theorem consts_step{l:List DArg}{i:Int}(h0:0≤i)(h:i<l.length):constsV (l.take (i+1).toNat)=constsV (l.take i.toNat)++(if(List.getD l i.toNat zArg).K=2 then[(List.getD l i.toNat zArg).V] else[]):=by
 have e:(i+1).toNat=i.toNat+1:=by omega
 have hn:i.toNat<l.length:=by omega
 have hg:l[i.toNat]=List.getD l i.toNat zArg:=by rw[List.getD_eq_getElem?_getD,List.getElem?_eq_getElem hn];rfl
 unfold constsV
 rw[e,List.take_succ_eq_append_getElem hn,List.filter_append,List.map_append,hg]
 generalize List.getD l i.toNat zArg=x
 by_cases hk:x.K=2<;>simp[hk]
theorem ats_step{l:List DArg}{i:Int}(h0:0≤i):atsV l (i+1).toNat=atsV l i.toNat++(if(List.getD l i.toNat zArg).K=2 then[i] else[]):=by
 have e:(i+1).toNat=i.toNat+1:=by omega
 unfold atsV
 rw[e,List.range_succ,List.filter_append,List.map_append]
 congr 1
 have e2:((i.toNat:Nat):Int)=i:=by omega
 by_cases hk:(List.getD l i.toNat zArg).K=2
 ·rw[if_pos hk,List.filter_cons_of_pos (by simpa using hk)];simp[e2]
 ·rw[if_neg hk,List.filter_cons_of_neg (by simpa using hk)];rfl
def ixA(l:List DAlpha)(a:DAlpha):Int:=idxI l.length (fun j=>decide (List.getD l j zAlpha=a))
def addA(l:List DAlpha)(a:DAlpha):List DAlpha:=if 0≤ixA l a then l else l++[a]
def placeA(l:List DAlpha)(a:DAlpha):Int:=if 0≤ixA l a then ixA l a else l.length
theorem place_found{l:List DAlpha}{a:DAlpha}{i:Int}(h1:0≤i)(hc:i<l.length)(he:List.getD l i.toNat zAlpha=a)(hR:∀j:Nat,(j:Int)<i→decide (List.getD l j zAlpha=a)=false):placeA l a=i∧addA l a=l:=by
 have h:ixA l a=i:=by
  have:=idxI_found (n:=l.length) (i:=i.toNat) (p:=fun j=>decide (List.getD l j zAlpha=a)) (by omega) (by simpa using he) (fun j hj=>hR j (by omega))
  unfold ixA;rw[this];omega
 unfold placeA addA
 rw[h,if_pos h1,if_pos h1]
 exact⟨rfl,rfl⟩
theorem place_none{l:List DAlpha}{a:DAlpha}(hR:∀j:Nat,j<l.length→decide (List.getD l j zAlpha=a)=false):placeA l a=l.length∧addA l a=l++[a]:=by
 have h:ixA l a= -1:=idxI_none hR
 unfold placeA addA
 rw[h,if_neg (by omega),if_neg (by omega)]
 exact⟨rfl,rfl⟩
theorem addA_len(l:List DAlpha)(a:DAlpha):l.length≤(addA l a).length∧(addA l a).length≤l.length+1:=by
 unfold addA;split<;>simp
def Zk125:Con UU where
 α:=DPat
 md:=[.ro]
 of:=o1 (oA .ePat)
 ds:=fun x=>[dA .ePat x]
 pre:=fun p=>[p.Args.length≤4294967295]
 res:=fun p=>⟨[.agg [.lit (.string ((alphaM p)).Kind),.lit (.int .i64 ((alphaM p)).N),.sl .eVal ((alphaM p)).Consts,.sl .int ((alphaM p)).At]],true,[]⟩
 law:=l1 (lA .ePat)
def Zi125_3(p:DPat):Int×(ByteArray×List DArg×Bool×Unit)×(ByteArray×Int×List DVal×List Int×Unit)×(ByteArray×Int×List DVal×List Int×Unit)×Unit→Prop:=fun(i,b,r,g,_)=>r=(noBytes,0,[],[],())∧b=(p.Kind,p.Args,p.Not,())∧0≤i∧i≤p.Args.length∧g=(p.Kind,(p.Args.length:Int),constsV (p.Args.take i.toNat),atsV p.Args i.toNat,())
def Zm125_3(p:DPat):Int×(ByteArray×List DArg×Bool×Unit)×(ByteArray×Int×List DVal×List Int×Unit)×(ByteArray×Int×List DVal×List Int×Unit)×Unit→Nat:=fun(i,b,r,g,_)=>p.Args.length-i.toNat
def Za125:Zk125.α→Nat→Option (Ann UU):=fun p=>annL [(3,annOf [.slot 15 (15,1024) (.lit (.int .i64)),.box 1 (1,1024) [.lit .str,.shr .eArg,.lit .bool],.box 2 (2,1024) [.lit .str,.lit (.int .i64),.own .eVal true,.own .int true],.box 3 (3,1024) [.lit .str,.lit (.int .i64),.own .eVal true,.own .int true]] (fun _=>Zi125_3 p) (Zm125_3 p))]
def Zu125:List (FuncId×Con UU):=[]
theorem Zv125(p:DPat):goal EE Zu125 Go.Proofs.Tryz.f125 Zk125 Za125 p=(let x0:Int:=(p.Args.length:Int);
Zi125_3 p ((0:Int),(p.Kind,p.Args,p.Not,PUnit.unit),({data:= #[]:ByteArray},(0:Int),[],[],PUnit.unit),(p.Kind,x0,[],[],PUnit.unit),PUnit.unit)∧
 ∀(y:Int×(ByteArray×List DArg×Bool×PUnit)×(ByteArray×Int×List DVal×List Int×PUnit)×(ByteArray×Int×List DVal×List Int×PUnit)×PUnit),
  let x1:List DVal:=[(List.getD p.Args (Int.toNat y.1) zArg).V];
  Zi125_3 p y→bif decide (y.1<x0) then(0:Int)≤y.1∧Int.toNat y.1<List.length p.Args∧bif (List.getD p.Args (Int.toNat y.1) zArg).K==(2:Int) then List.length y.2.2.2.1.2.2.1+List.length x1≤(4294967296:Nat)∧List.length y.2.2.2.1.2.2.2.1+List.length [y.1]≤(4294967296:Nat)∧Zi125_3 p (IntKind.wrap IntKind.i64 (y.1+(1:Int)),(y.2.1.1,y.2.1.2.1,y.2.1.2.2.1,PUnit.unit),(y.2.2.1.1,y.2.2.1.2.1,y.2.2.1.2.2.1,y.2.2.1.2.2.2.1,PUnit.unit),(y.2.2.2.1.1,y.2.2.2.1.2.1,y.2.2.2.1.2.2.1++x1,y.2.2.2.1.2.2.2.1++[y.1],PUnit.unit),PUnit.unit)∧Zm125_3 p (IntKind.wrap IntKind.i64 (y.1+(1:Int)),(y.2.1.1,y.2.1.2.1,y.2.1.2.2.1,PUnit.unit),(y.2.2.1.1,y.2.2.1.2.1,y.2.2.1.2.2.1,y.2.2.1.2.2.2.1,PUnit.unit),(y.2.2.2.1.1,y.2.2.2.1.2.1,y.2.2.2.1.2.2.1++x1,y.2.2.2.1.2.2.2.1++[y.1],PUnit.unit),PUnit.unit)<Zm125_3 p y else Zi125_3 p (IntKind.wrap IntKind.i64 (y.1+(1:Int)),(y.2.1.1,y.2.1.2.1,y.2.1.2.2.1,PUnit.unit),(y.2.2.1.1,y.2.2.1.2.1,y.2.2.1.2.2.1,y.2.2.1.2.2.2.1,PUnit.unit),(y.2.2.2.1.1,y.2.2.2.1.2.1,y.2.2.2.1.2.2.1,y.2.2.2.1.2.2.2.1,PUnit.unit),PUnit.unit)∧Zm125_3 p (IntKind.wrap IntKind.i64 (y.1+(1:Int)),(y.2.1.1,y.2.1.2.1,y.2.1.2.2.1,PUnit.unit),(y.2.2.1.1,y.2.2.1.2.1,y.2.2.1.2.2.1,y.2.2.1.2.2.2.1,PUnit.unit),(y.2.2.2.1.1,y.2.2.2.1.2.1,y.2.2.2.1.2.2.1,y.2.2.2.1.2.2.2.1,PUnit.unit),PUnit.unit)<Zm125_3 p y else Lf [DV.agg [Cell.lit (Value.string y.2.2.2.1.1),Cell.lit (Value.int IntKind.i64 y.2.2.2.1.2.1),Cell.sl Cd.eVal y.2.2.2.1.2.2.1,Cell.sl Cd.int y.2.2.2.1.2.2.2.1]] [DV.agg [Cell.lit (Value.string (alphaM p).Kind),Cell.lit (Value.int IntKind.i64 (alphaM p).N),Cell.sl Cd.eVal (alphaM p).Consts,Cell.sl Cd.int (alphaM p).At]]):=by kernel_rfl
theorem Zo125:Holds EE (125,Zk125):=by
 refine holds_of EE_ok Go.Proofs.Tryz.func125 Zk125 (by kernel_rfl) Zu125 all_nil Za125 (fun(p:DPat) hp hb=> ?_)
 have hz0:=bd_ePat (x:=p) (hb _ m0)
 have hl_p_Kind:=hz0.1
 have hl_p_Args:=hz0.2
 have hp0:p.Args.length≤4294967295:=hp _ m0
 clear hp hb
 rw[Zv125 p]
 dsimp only
 refine⟨⟨rfl,rfl,by omega,by omega,rfl⟩,?_⟩
 rintro⟨i,⟨b1,b2,b3,⟨⟩⟩,⟨r1,r2,r3,r4,⟨⟩⟩,⟨g1,g2,g3,g4,⟨⟩⟩,⟨⟩⟩ ⟨hr,hb,h1,h2,hg⟩
 cases hb
 cases hr
 cases hg
 simp only
 refine if_dec (fun hc=> ?_) (fun hc=> ?_)
 ·have hcs:=consts_step h1 hc
  have has:=ats_step (l:=p.Args) h1
  have hcl:=consts_len (p.Args.take i.toNat)
  have hal:=ats_len p.Args i.toNat
  rw[List.length_take] at hcl
  rw[wrap_i64 (n:=i+1) (by omega) (by omega)]
  refine⟨by omega,by omega,if_num (fun hk=> ?_) (fun hk=> ?_)⟩
  ·rw[if_pos hk] at hcs has
   refine⟨by simp only[List.length_cons,List.length_nil];omega,by simp only[List.length_cons,List.length_nil];omega,⟨rfl,rfl,by omega,by omega,by rw[hcs,has]⟩,by simp only[Zm125_3];omega⟩
  ·rw[if_neg hk,List.append_nil] at hcs has
   exact⟨⟨rfl,rfl,by omega,by omega,by rw[hcs,has]⟩,by simp only[Zm125_3];omega⟩
 ·have e:i.toNat=p.Args.length:=by omega
  rw[e,List.take_length]
  exact Lf_rfl _
def Zh125:HH:=⟨_,Zo125⟩
def Zk70:Con UU where
 α:=DPat
 md:=[.ro]
 of:=o1 (oA .ePat)
 ds:=fun x=>[dA .ePat x]
 pre:=fun p=>[p.Args.length≤4294967295]
 res:=fun p=>⟨[.agg [.lit (.string ((alphaM p)).Kind),.lit (.int .i64 ((alphaM p)).N),.sl .eVal ((alphaM p)).Consts,.sl .int ((alphaM p)).At]],true,[]⟩
 law:=l1 (lA .ePat)
def Zi70_3(p:DPat):Int×(ByteArray×List DArg×Bool×Unit)×(ByteArray×Int×List DVal×List Int×Unit)×(ByteArray×Int×List DVal×List Int×Unit)×Unit→Prop:=fun(i,b,r,g,_)=>r=(noBytes,0,[],[],())∧b=(p.Kind,p.Args,p.Not,())∧0≤i∧i≤p.Args.length∧g=(p.Kind,(p.Args.length:Int),constsV (p.Args.take i.toNat),atsV p.Args i.toNat,())
def Zm70_3(p:DPat):Int×(ByteArray×List DArg×Bool×Unit)×(ByteArray×Int×List DVal×List Int×Unit)×(ByteArray×Int×List DVal×List Int×Unit)×Unit→Nat:=fun(i,b,r,g,_)=>p.Args.length-i.toNat
def Za70:Zk70.α→Nat→Option (Ann UU):=fun p=>annL [(3,annOf [.slot 4 (4,1024) (.lit (.int .i64)),.box 1 (1,1024) [.lit .str,.shr .eArg,.lit .bool],.box 2 (2,1024) [.lit .str,.lit (.int .i64),.own .eVal true,.own .int true],.box 3 (3,1024) [.lit .str,.lit (.int .i64),.own .eVal true,.own .int true]] (fun _=>Zi70_3 p) (Zm70_3 p))]
def Zu70:List (FuncId×Con UU):=[]
theorem Zv70(p:DPat):goal EE Zu70 Go.Proofs.Tryz.f70 Zk70 Za70 p=(Zi70_3 p ((0:Int),(p.Kind,p.Args,p.Not,()),({data:= #[]:ByteArray},(0:Int),[],[],()),(p.Kind,(p.Args.length:Int),[],[],()),())∧
 ∀(y:Int×(ByteArray×List DArg×Bool×PUnit)×(ByteArray×Int×List DVal×List Int×PUnit)×(ByteArray×Int×List DVal×List Int×PUnit)×PUnit),
  let x1:DArg:=List.getD y.2.1.2.1 (Int.toNat y.1) zArg;
  let x3:Nat:=List.length y.2.1.2.1;
  let x0:List DVal:=[x1.V];
  let x2:Int:=(↑x3:Int);
  Zi70_3 p y→bif decide (y.1<x2) then(0:Int)≤y.1∧Int.toNat y.1<x3∧bif x1.K==(2:Int) then(0:Int)≤y.1∧Int.toNat y.1<x3∧List.length y.2.2.2.1.2.2.1+List.length x0≤(4294967296:Nat)∧List.length y.2.2.2.1.2.2.2.1+List.length [y.1]≤(4294967296:Nat)∧Zi70_3 p (IntKind.wrap IntKind.i64 (y.1+(1:Int)),(y.2.1.1,y.2.1.2.1,y.2.1.2.2.1,PUnit.unit),(y.2.2.1.1,y.2.2.1.2.1,y.2.2.1.2.2.1,y.2.2.1.2.2.2.1,PUnit.unit),(y.2.2.2.1.1,y.2.2.2.1.2.1,y.2.2.2.1.2.2.1++x0,y.2.2.2.1.2.2.2.1++[y.1],PUnit.unit),PUnit.unit)∧Zm70_3 p (IntKind.wrap IntKind.i64 (y.1+(1:Int)),(y.2.1.1,y.2.1.2.1,y.2.1.2.2.1,PUnit.unit),(y.2.2.1.1,y.2.2.1.2.1,y.2.2.1.2.2.1,y.2.2.1.2.2.2.1,PUnit.unit),(y.2.2.2.1.1,y.2.2.2.1.2.1,y.2.2.2.1.2.2.1++x0,y.2.2.2.1.2.2.2.1++[y.1],PUnit.unit),PUnit.unit)<Zm70_3 p y else Zi70_3 p (IntKind.wrap IntKind.i64 (y.1+(1:Int)),(y.2.1.1,y.2.1.2.1,y.2.1.2.2.1,PUnit.unit),(y.2.2.1.1,y.2.2.1.2.1,y.2.2.1.2.2.1,y.2.2.1.2.2.2.1,PUnit.unit),(y.2.2.2.1.1,y.2.2.2.1.2.1,y.2.2.2.1.2.2.1,y.2.2.2.1.2.2.2.1,PUnit.unit),PUnit.unit)∧Zm70_3 p (IntKind.wrap IntKind.i64 (y.1+(1:Int)),(y.2.1.1,y.2.1.2.1,y.2.1.2.2.1,PUnit.unit),(y.2.2.1.1,y.2.2.1.2.1,y.2.2.1.2.2.1,y.2.2.1.2.2.2.1,PUnit.unit),(y.2.2.2.1.1,y.2.2.2.1.2.1,y.2.2.2.1.2.2.1,y.2.2.2.1.2.2.2.1,PUnit.unit),PUnit.unit)<Zm70_3 p y else Lf [DV.agg [Cell.lit (Value.string y.2.2.2.1.1),Cell.lit (Value.int IntKind.i64 y.2.2.2.1.2.1),Cell.sl Cd.eVal y.2.2.2.1.2.2.1,Cell.sl Cd.int y.2.2.2.1.2.2.2.1]] [DV.agg [Cell.lit (Value.string (alphaM p).Kind),Cell.lit (Value.int IntKind.i64 (alphaM p).N),Cell.sl Cd.eVal (alphaM p).Consts,Cell.sl Cd.int (alphaM p).At]]):=by kernel_rfl
theorem Zo70:Holds EE (70,Zk70):=by
 refine holds_of EE_ok Go.Proofs.Tryz.func70 Zk70 (by kernel_rfl) Zu70 all_nil Za70 (fun(p:DPat) hp hb=> ?_)
 have hz0:=bd_ePat (x:=p) (hb _ m0)
 have hl_p_Kind:=hz0.1
 have hl_p_Args:=hz0.2
 have hp0:p.Args.length≤4294967295:=hp _ m0
 clear hp hb
 rw[Zv70 p]
 dsimp only
 refine⟨⟨rfl,rfl,by omega,by omega,rfl⟩,?_⟩
 rintro⟨i,⟨b1,b2,b3,⟨⟩⟩,⟨r1,r2,r3,r4,⟨⟩⟩,⟨g1,g2,g3,g4,⟨⟩⟩,⟨⟩⟩ ⟨hr,hb,h1,h2,hg⟩
 cases hb
 cases hr
 cases hg
 simp only
 refine if_dec (fun hc=> ?_) (fun hc=> ?_)
 ·have hcs:=consts_step h1 hc
  have has:=ats_step (l:=p.Args) h1
  have hcl:=consts_len (p.Args.take i.toNat)
  have hal:=ats_len p.Args i.toNat
  rw[List.length_take] at hcl
  rw[wrap_i64 (n:=i+1) (by omega) (by omega)]
  refine⟨by omega,by omega,if_num (fun hk=> ?_) (fun hk=> ?_)⟩
  ·rw[if_pos hk] at hcs has
   refine⟨by omega,by omega,by simp only[List.length_cons,List.length_nil];omega,by simp only[List.length_cons,List.length_nil];omega,⟨rfl,rfl,by omega,by omega,by rw[hcs,has]⟩,by simp only[Zm70_3];omega⟩
  ·rw[if_neg hk,List.append_nil] at hcs has
   exact⟨⟨rfl,rfl,by omega,by omega,by rw[hcs,has]⟩,by simp only[Zm70_3];omega⟩
 ·have e:i.toNat=p.Args.length:=by omega
  rw[e,List.take_length]
  exact Lf_rfl _
def Zh70:HH:=⟨_,Zo70⟩
def Zk126:Con UU where
 α:=DAlpha×DAlpha
 md:=[.ro,.ro]
 of:=oC (oA .eAlpha) (o1 (oA .eAlpha))
 ds:=fun x=>[dA .eAlpha x.1,dA .eAlpha x.2]
 pre:=fun _=>[]
 res:=fun(a,b)=>⟨[.one (.lit (.bool (decide (a=b))))],true,[]⟩
 law:=lC (lA .eAlpha) (l1 (lA .eAlpha))
def Za126:Zk126.α→Nat→Option (Ann UU):=fun(a,b)=>annL []
def Zu126:=us [Zh159,Zh160]
theorem Zv126(a:DAlpha)(b:DAlpha):goal EE Zu126 Go.Proofs.Tryz.f126 Zk126 Za126 (a,b)=(bif ByteArray.toList a.Kind==ByteArray.toList b.Kind then bif a.N==b.N then bif decide (a.Consts=b.Consts) then Lb (decide (a.At=b.At)) (decide (a=b)) else Lb false (decide (a=b)) else Lb false (decide (a=b)) else Lb false (decide (a=b))):=by kernel_rfl
theorem Zo126:Holds EE (126,Zk126):=by
 refine holds_of EE_ok Go.Proofs.Tryz.func126 Zk126 (by kernel_rfl) Zu126 (us_ok _) Za126 (fun x hp hb=> ?_)
 obtain⟨a,b⟩:=x
 have hz0:=bd_eAlpha (x:=a) (hb _ m0)
 have hl_a_Kind:=hz0.1
 have hl_a_Consts:=hz0.2.1
 have hl_a_At:=hz0.2.2
 have hz1:=bd_eAlpha (x:=b) (hb _ m1)
 have hl_b_Kind:=hz1.1
 have hl_b_Consts:=hz1.2.1
 have hl_b_At:=hz1.2.2
 clear hp hb
 rw[Zv126 a b]
 simp only[toList_beq]
 repeat' (first|refine if_cond (fun h=> ?_) (fun h=> ?_)|fail)
 all_goals (refine Lf_b ?_;have he:=eq_Alpha a b;grind)
def Zh126:HH:=⟨_,Zo126⟩
def Zk110:Con UU where
 α:=DAlpha×DAlpha
 md:=[.ro,.ro]
 of:=oC (oA .eAlpha) (o1 (oA .eAlpha))
 ds:=fun x=>[dA .eAlpha x.1,dA .eAlpha x.2]
 pre:=fun _=>[]
 res:=fun(a,b)=>⟨[.one (.lit (.bool (decide (a=b))))],true,[]⟩
 law:=lC (lA .eAlpha) (l1 (lA .eAlpha))
def Za110:Zk110.α→Nat→Option (Ann UU):=fun(a,b)=>annL []
def Zu110:=us [Zh147,Zh148]
theorem Zv110(a:DAlpha)(b:DAlpha):goal EE Zu110 Go.Proofs.Tryz.f110 Zk110 Za110 (a,b)=(bif ByteArray.toList a.Kind==ByteArray.toList b.Kind then bif a.N==b.N then bif decide (a.At=b.At) then Lb (decide (a.Consts=b.Consts)) (decide (a=b)) else Lb false (decide (a=b)) else Lb false (decide (a=b)) else Lb false (decide (a=b))):=by kernel_rfl
theorem Zo110:Holds EE (110,Zk110):=by
 refine holds_of EE_ok Go.Proofs.Tryz.func110 Zk110 (by kernel_rfl) Zu110 (us_ok _) Za110 (fun x hp hb=> ?_)
 obtain⟨a,b⟩:=x
 have hz0:=bd_eAlpha (x:=a) (hb _ m0)
 have hl_a_Kind:=hz0.1
 have hl_a_Consts:=hz0.2.1
 have hl_a_At:=hz0.2.2
 have hz1:=bd_eAlpha (x:=b) (hb _ m1)
 have hl_b_Kind:=hz1.1
 have hl_b_Consts:=hz1.2.1
 have hl_b_At:=hz1.2.2
 clear hp hb
 rw[Zv110 a b]
 simp only[toList_beq]
 repeat' (first|refine if_cond (fun h=> ?_) (fun h=> ?_)|fail)
 all_goals (refine Lf_b ?_;have he:=eq_Alpha a b;grind)
def Zh110:HH:=⟨_,Zo110⟩
def Zk69:Con UU where
 α:=DNet×DAlpha
 md:=[.box true,.mv]
 of:=oC (oX .eNet) (o1 (oA .eAlpha))
 ds:=fun x=>[dX .eNet x.1,dA .eAlpha x.2]
 pre:=fun(n,a)=>[n.Alphas.length≤4294967294]
 res:=fun(n,a)=>⟨[.one (.lit (.int .i64 (placeA n.Alphas a)))],true,[.box [.sl .eAlpha ((⟨addA n.Alphas a,n.Chains⟩:DNet)).Alphas,.sl .eChain ((⟨addA n.Alphas a,n.Chains⟩:DNet)).Chains]]⟩
 law:=lC (lX .eNet) (l1 (lA .eAlpha))
def Zi69_2(n:DNet)(a:DAlpha):Int×(List DAlpha×List DChain×Unit)×(ByteArray×Int×List DVal×List Int×Unit)×Unit→Prop:=fun(i,n1,b,_)=>n1=(n.Alphas,n.Chains,())∧b=(a.Kind,a.N,a.Consts,a.At,())∧0≤i∧i≤n.Alphas.length∧∀j:Nat,(j:Int)<i→decide (List.getD n.Alphas j zAlpha=a)=false
def Zm69_2(n:DNet)(a:DAlpha):Int×(List DAlpha×List DChain×Unit)×(ByteArray×Int×List DVal×List Int×Unit)×Unit→Nat:=fun(i,n1,b,_)=>n.Alphas.length-i.toNat
def Za69:Zk69.α→Nat→Option (Ann UU):=fun(n,a)=>annL [(2,annOf [.slot 5 (5,1024) (.lit (.int .i64)),.box 0 (2000000,0) [.own .eAlpha true,.own .eChain true],.box 3 (3,1024) [.lit .str,.lit (.int .i64),.own .eVal true,.own .int true]] (fun _=>Zi69_2 n a) (Zm69_2 n a))]
def Zu69:=us [Zh110]
theorem Zv69(n:DNet)(a:DAlpha):goal EE Zu69 Go.Proofs.Tryz.f69 Zk69 Za69 (n,a)=(Zi69_2 n a ((0:Int),(n.Alphas,n.Chains,()),(a.Kind,a.N,a.Consts,a.At,()),())∧
 ∀(y:Int×(List DAlpha×List DChain×PUnit)×(ByteArray×Int×List DVal×List Int×PUnit)×PUnit),
  let x2:DAlpha:={Kind:=y.2.2.1.1,N:=y.2.2.1.2.1,Consts:=y.2.2.1.2.2.1,At:=y.2.2.1.2.2.2.1:DAlpha};
  let x3:Nat:=List.length y.2.1.1;
  let x1:List DAlpha:=[x2];
  let x0:List DAlpha:=y.2.1.1++x1;
  Zi69_2 n a y→bif decide (y.1<(↑x3:Int)) then(0:Int)≤y.1∧Int.toNat y.1<x3∧Int.toNat y.1<x3∧Int.toNat y.1<x3∧Int.toNat y.1<x3∧bif decide (List.getD y.2.1.1 (Int.toNat y.1) zAlpha=x2) then(0:Nat)=(0:Nat)∧asD [DV.one (Cell.lit (Value.int IntKind.i64 y.1))]=asD [DV.one (Cell.lit (Value.int IntKind.i64 (placeA n.Alphas a)))]∧asD [DV.box [Cell.sl Cd.eAlpha y.2.1.1,Cell.sl Cd.eChain y.2.1.2.1]]=asD [DV.box [Cell.sl Cd.eAlpha (addA n.Alphas a),Cell.sl Cd.eChain n.Chains]] else Zi69_2 n a (IntKind.wrap IntKind.i64 (y.1+(1:Int)),(y.2.1.1,y.2.1.2.1,PUnit.unit),(y.2.2.1.1,y.2.2.1.2.1,y.2.2.1.2.2.1,y.2.2.1.2.2.2.1,PUnit.unit),PUnit.unit)∧Zm69_2 n a (IntKind.wrap IntKind.i64 (y.1+(1:Int)),(y.2.1.1,y.2.1.2.1,PUnit.unit),(y.2.2.1.1,y.2.2.1.2.1,y.2.2.1.2.2.1,y.2.2.1.2.2.2.1,PUnit.unit),PUnit.unit)<Zm69_2 n a y else x3+List.length x1≤(4294967296:Nat)∧(0:Nat)=(0:Nat)∧asD [DV.one (Cell.lit (Value.int IntKind.i64 (IntKind.wrap IntKind.i64 ((↑(List.length x0):Int)-(1:Int)))))]=asD [DV.one (Cell.lit (Value.int IntKind.i64 (placeA n.Alphas a)))]∧asD [DV.box [Cell.sl Cd.eAlpha x0,Cell.sl Cd.eChain y.2.1.2.1]]=asD [DV.box [Cell.sl Cd.eAlpha (addA n.Alphas a),Cell.sl Cd.eChain n.Chains]]):=by kernel_rfl
theorem Zo69:Holds EE (69,Zk69):=by
 refine holds_of EE_ok Go.Proofs.Tryz.func69 Zk69 (by kernel_rfl) Zu69 (us_ok _) Za69 (fun x hp hb=> ?_)
 obtain⟨n,a⟩:=x
 have hz0:=bdX_eNet (x:=n) (hb _ m0)
 have hl_n_Alphas:=hz0.1
 have hl_n_Chains:=hz0.2
 have hz1:=bd_eAlpha (x:=a) (hb _ m1)
 have hl_a_Kind:=hz1.1
 have hl_a_Consts:=hz1.2.1
 have hl_a_At:=hz1.2.2
 have hp0:n.Alphas.length≤4294967294:=hp _ m0
 clear hp hb
 rw[Zv69 n a]
 dsimp only
 refine⟨⟨rfl,rfl,by omega,by omega,by intro j hj;omega⟩,?_⟩
 rintro⟨i,⟨n1,n2,⟨⟩⟩,⟨b1,b2,b3,b4,⟨⟩⟩,⟨⟩⟩ ⟨hn,hb,h1,h2,hR⟩
 cases hn
 cases hb
 simp only
 refine if_dec (fun hc=> ?_) (fun hc=> ?_)
 ·rw[wrap_i64 (n:=i+1) (by omega) (by omega)]
  refine⟨by omega,by omega,by omega,by omega,by omega,if_dec (fun he=> ?_) (fun he=>⟨⟨rfl,rfl,by omega,by omega,fun j hj=> ?_⟩,by simp only[Zm69_2];omega⟩)⟩
  ·obtain⟨e1,e2⟩:=place_found h1 hc (a:=a) he hR
   rw[e1,e2]
   exact⟨by first|trivial|rfl,rfl,rfl⟩
  ·by_cases hj':(j:Int)<i
   ·exact hR j hj'
   ·have e:j=i.toNat:=by omega
    subst e
    exact decide_eq_false he
 ·obtain⟨e1,e2⟩:=place_none (l:=n.Alphas) (a:=a) (fun j hj=>hR j (by omega))
  rw[e1,e2,wrap_i64 (by simp only[List.length_append,List.length_cons,List.length_nil];omega) (by simp only[List.length_append,List.length_cons,List.length_nil];omega)]
  refine⟨by simp only[List.length_cons,List.length_nil];omega,by first|trivial|rfl,?_,rfl⟩
  have e3:(((n.Alphas++[a]).length:Nat):Int)-1=n.Alphas.length:=by simp only[List.length_append,List.length_cons,List.length_nil];omega
  exact congrArg (fun x:Int=>asD [DV.one (Cell.lit (Value.int .i64 x))]) e3
def Zh69:HH:=⟨_,Zo69⟩
def Zk78:Con UU where
 α:=DNet×DPat
 md:=[.box true,.ro]
 of:=oC (oX .eNet) (o1 (oA .ePat))
 ds:=fun x=>[dX .eNet x.1,dA .ePat x.2]
 pre:=fun(n,p)=>[n.Alphas.length≤4294967294,p.Args.length≤4294967295]
 res:=fun(n,p)=>⟨[.one (.lit (.int .i64 (placeA n.Alphas (alphaM p))))],true,[.box [.sl .eAlpha ((⟨addA n.Alphas (alphaM p),n.Chains⟩:DNet)).Alphas,.sl .eChain ((⟨addA n.Alphas (alphaM p),n.Chains⟩:DNet)).Chains]]⟩
 law:=lC (lX .eNet) (l1 (lA .ePat))
def Zi78_3(n:DNet)(p:DPat):Int×(List DAlpha×List DChain×Unit)×Unit×(ByteArray×Int×List DVal×List Int×Unit)×Unit→Prop:=fun(i,n1,z,b,_)=>n1=(n.Alphas,n.Chains,())∧b=((alphaM p).Kind,(alphaM p).N,(alphaM p).Consts,(alphaM p).At,())∧0≤i∧i≤n.Alphas.length∧∀j:Nat,(j:Int)<i→decide (List.getD n.Alphas j zAlpha=alphaM p)=false
def Zm78_3(n:DNet)(p:DPat):Int×(List DAlpha×List DChain×Unit)×Unit×(ByteArray×Int×List DVal×List Int×Unit)×Unit→Nat:=fun(i,n1,z,b,_)=>n.Alphas.length-i.toNat
def Za78:Zk78.α→Nat→Option (Ann UU):=fun(n,p)=>annL [(3,annOf [.slot 15 (15,1024) (.lit (.int .i64)),.box 0 (2000000,0) [.own .eAlpha true,.own .eChain true],.slot 13 (2000000,4096) .al,.box 5 (5,1024) [.lit .str,.lit (.int .i64),.own .eVal true,.own .int true]] (fun _=>Zi78_3 n p) (Zm78_3 n p))]
def Zu78:=us [Zh125,Zh126]
theorem Zv78(n:DNet)(p:DPat):goal EE Zu78 Go.Proofs.Tryz.f78 Zk78 Za78 (n,p)=(p.Args.length≤(4294967295:Nat)∧
 Zi78_3 n p ((0:Int),(n.Alphas,n.Chains,PUnit.unit),PUnit.unit,((alphaM p).Kind,(alphaM p).N,(alphaM p).Consts,(alphaM p).At,PUnit.unit),PUnit.unit)∧
  ∀(y:Int×(List DAlpha×List DChain×PUnit)×PUnit×(ByteArray×Int×List DVal×List Int×PUnit)×PUnit),
   let x2:DAlpha:={Kind:=y.2.2.2.1.1,N:=y.2.2.2.1.2.1,Consts:=y.2.2.2.1.2.2.1,At:=y.2.2.2.1.2.2.2.1:DAlpha};
   let x3:Nat:=List.length y.2.1.1;
   let x1:List DAlpha:=[x2];
   let x0:List DAlpha:=y.2.1.1++x1;
   Zi78_3 n p y→bif decide (y.1<(↑(List.length n.Alphas):Int)) then(0:Int)≤y.1∧Int.toNat y.1<x3∧Int.toNat y.1<x3∧Int.toNat y.1<x3∧Int.toNat y.1<x3∧bif decide (List.getD y.2.1.1 (Int.toNat y.1) zAlpha=x2) then(0:Nat)=(0:Nat)∧asD [DV.one (Cell.lit (Value.int IntKind.i64 y.1))]=asD [DV.one (Cell.lit (Value.int IntKind.i64 (placeA n.Alphas (alphaM p))))]∧asD [DV.box [Cell.sl Cd.eAlpha y.2.1.1,Cell.sl Cd.eChain y.2.1.2.1]]=asD [DV.box [Cell.sl Cd.eAlpha (addA n.Alphas (alphaM p)),Cell.sl Cd.eChain n.Chains]] else Zi78_3 n p (IntKind.wrap IntKind.i64 (y.1+(1:Int)),(y.2.1.1,y.2.1.2.1,PUnit.unit),PUnit.unit,(y.2.2.2.1.1,y.2.2.2.1.2.1,y.2.2.2.1.2.2.1,y.2.2.2.1.2.2.2.1,PUnit.unit),PUnit.unit)∧Zm78_3 n p (IntKind.wrap IntKind.i64 (y.1+(1:Int)),(y.2.1.1,y.2.1.2.1,PUnit.unit),PUnit.unit,(y.2.2.2.1.1,y.2.2.2.1.2.1,y.2.2.2.1.2.2.1,y.2.2.2.1.2.2.2.1,PUnit.unit),PUnit.unit)<Zm78_3 n p y else x3+List.length x1≤(4294967296:Nat)∧(0:Nat)=(0:Nat)∧asD [DV.one (Cell.lit (Value.int IntKind.i64 (IntKind.wrap IntKind.i64 ((↑(List.length x0):Int)-(1:Int)))))]=asD [DV.one (Cell.lit (Value.int IntKind.i64 (placeA n.Alphas (alphaM p))))]∧asD [DV.box [Cell.sl Cd.eAlpha x0,Cell.sl Cd.eChain y.2.1.2.1]]=asD [DV.box [Cell.sl Cd.eAlpha (addA n.Alphas (alphaM p)),Cell.sl Cd.eChain n.Chains]]):=by kernel_rfl
theorem Zo78:Holds EE (78,Zk78):=by
 refine holds_of EE_ok Go.Proofs.Tryz.func78 Zk78 (by kernel_rfl) Zu78 (us_ok _) Za78 (fun x hp hb=> ?_)
 obtain⟨n,p⟩:=x
 have hz0:=bdX_eNet (x:=n) (hb _ m0)
 have hl_n_Alphas:=hz0.1
 have hl_n_Chains:=hz0.2
 have hz1:=bd_ePat (x:=p) (hb _ m1)
 have hl_p_Kind:=hz1.1
 have hl_p_Args:=hz1.2
 have hp0:n.Alphas.length≤4294967294:=hp _ m0
 have hp1:p.Args.length≤4294967295:=hp _ m1
 clear hp hb
 rw[Zv78 n p]
 dsimp only
 refine⟨hp1,⟨⟨rfl,rfl,by omega,by omega,by intro j hj;omega⟩,?_⟩⟩
 rintro⟨i,⟨n1,n2,⟨⟩⟩,z,⟨b1,b2,b3,b4,⟨⟩⟩,⟨⟩⟩ ⟨hn,hb,h1,h2,hR⟩
 cases hn
 cases hb
 simp only
 refine if_dec (fun hc=> ?_) (fun hc=> ?_)
 ·rw[wrap_i64 (n:=i+1) (by omega) (by omega)]
  refine⟨by omega,by omega,by omega,by omega,by omega,if_dec (fun he=> ?_) (fun he=>⟨⟨rfl,rfl,by omega,by omega,fun j hj=> ?_⟩,by simp only[Zm78_3];omega⟩)⟩
  ·obtain⟨e1,e2⟩:=place_found h1 hc (a:=alphaM p) he hR
   rw[e1,e2]
   exact⟨by first|trivial|rfl,rfl,rfl⟩
  ·by_cases hj':(j:Int)<i
   ·exact hR j hj'
   ·have e:j=i.toNat:=by omega
    subst e
    exact decide_eq_false he
 ·obtain⟨e1,e2⟩:=place_none (l:=n.Alphas) (a:=alphaM p) (fun j hj=>hR j (by omega))
  rw[e1,e2,wrap_i64 (by simp only[List.length_append,List.length_cons,List.length_nil];omega) (by simp only[List.length_append,List.length_cons,List.length_nil];omega)]
  refine⟨by simp only[List.length_cons,List.length_nil];omega,by first|trivial|rfl,?_,rfl⟩
  have e3:(((n.Alphas++[alphaM p]).length:Nat):Int)-1=n.Alphas.length:=by simp only[List.length_append,List.length_cons,List.length_nil];omega
  exact congrArg (fun x:Int=>asD [DV.one (Cell.lit (Value.int .i64 x))]) e3
def Zh78:HH:=⟨_,Zo78⟩
def netP:List DPat→List DAlpha→List Int→List Int→List DAlpha×DChain
 |[],al,ps,ns=>(al,⟨ps,ns⟩)
 |p::r,al,ps,ns=>netP r (addA al (alphaM p)) (if p.Not=true then ps else ps++[placeA al (alphaM p)]) (if p.Not=true then ns++[placeA al (alphaM p)] else ns)
def netR:List DRule→List DAlpha→List DChain→DNet
 |[],al,cs=>⟨al,cs⟩
 |r::rs,al,cs=>netR rs (netP r.Pats al [] []).1 (cs++[(netP r.Pats al [] []).2])
def netOf(d:DDef):DNet:=netR d.Rules [] []
def netM(d:DDef):DNet:=if defOk d then netOf d else⟨[],[]⟩
def patsN(l:List DRule):Nat:=(l.map fun r=>r.Pats.length).sum
theorem netP_len:∀(l:List DPat)(al:List DAlpha)(ps ns:List Int),(netP l al ps ns).1.length≤al.length+l.length∧al.length≤(netP l al ps ns).1.length∧(netP l al ps ns).2.Pos.length+(netP l al ps ns).2.Neg.length=ps.length+ns.length+l.length
 |[],al,ps,ns=>⟨by simp[netP],by simp[netP],by simp[netP]⟩
 |p::r,al,ps,ns=>by
  obtain⟨h1,h2,h3⟩:=netP_len r (addA al (alphaM p)) (if p.Not=true then ps else ps++[placeA al (alphaM p)]) (if p.Not=true then ns++[placeA al (alphaM p)] else ns)
  have h4:=addA_len al (alphaM p)
  unfold netP
  refine⟨by simp only[List.length_cons];omega,by omega,?_⟩
  rw[h3]
  by_cases hn:p.Not=true
  ·simp only[if_pos hn,List.length_append,List.length_cons,List.length_nil];omega
  ·simp only[if_neg hn,List.length_append,List.length_cons,List.length_nil];omega
theorem patsN_drop{l:List DRule}{i:Int}(h0:0≤i)(h:i<l.length):patsN (l.drop i.toNat)=(List.getD l i.toNat zRule).Pats.length+patsN (l.drop (i+1).toNat):=by
 rw[drop_step l zRule h0 h];rfl
theorem sumPat(l:List DPat):l.length≤sizePatS l:=by simp only[sizePatS];omega
theorem patsN_le:∀(l:List DRule),patsN l+l.length≤sizeRuleS l
 |[]=>by simp[patsN,sizeRuleS]
 |r::l=>by
  have h:=patsN_le l
  have h2:=sumPat r.Pats
  simp only[patsN,sizeRuleS,List.map_cons,List.sum_cons,List.length_cons,sizeRule] at h⊢
  omega
theorem arg_size{l:List DRule}{i k:Int}(h0:0≤i)(h:i<l.length)(g0:0≤k)(g:k<(List.getD l i.toNat zRule).Pats.length):(List.getD (List.getD l i.toNat zRule).Pats k.toNat zPat).Args.length≤sizeRuleS l:=by
 have h1:=sum_getD_le sizeRule l zRule h0 h
 have h2:=sum_getD_le sizePat (List.getD l i.toNat zRule).Pats zPat g0 g
 simp only[sizeRule,sizePatS] at h1
 simp only[sizePat,sizeArgS] at h2
 simp only[sizeRuleS]
 omega
def memNew(n:DNet):DMem:=⟨List.replicate n.Alphas.length zIds,n.Chains.map fun c=>(⟨List.replicate c.Pos.length zLevel⟩:DRow)⟩
def chainsOk(n:DNet):Prop:=n.Chains.length≤4294967295∧∀c∈n.Chains,c.Pos.length≤4294967295
theorem netR_ok:∀(l:List DRule)(al:List DAlpha)(cs:List DChain)(B:Nat),(∀c∈cs,c.Pos.length≤B)→patsN l≤B→(netR l al cs).Alphas.length≤al.length+patsN l∧(netR l al cs).Chains.length=cs.length+l.length∧∀c∈(netR l al cs).Chains,c.Pos.length≤B
 |[],al,cs,B,h,_=>⟨by simp[netR,patsN],by simp[netR],h⟩
 |r::l,al,cs,B,h,hb=>by
  obtain⟨h1,h2,h3⟩:=netP_len r.Pats al [] []
  have hp:patsN (r::l)=r.Pats.length+patsN l:=rfl
  obtain⟨g1,g2,g3⟩:=netR_ok l (netP r.Pats al [] []).1 (cs++[(netP r.Pats al [] []).2]) B (fun c hc=>by
   rcases List.mem_append.1 hc with hc|hc
   ·exact h c hc
   ·rw[List.mem_singleton.1 hc];simp only[List.length_nil] at h3;omega) (by omega)
  unfold netR
  exact⟨by omega,by rw[g2];simp;omega,g3⟩
theorem netM_ok{d:DDef}(h:sizeDef d≤4294967295):(netM d).Alphas.length≤4294967295∧chainsOk (netM d):=by
 unfold netM
 split
 ·have h1:=patsN_le d.Rules
  simp only[sizeDef] at h
  obtain⟨g1,g2,g3⟩:=netR_ok d.Rules [] [] 4294967295 (by simp) (by omega)
  simp only[List.length_nil] at g1 g2
  exact⟨by show(netR d.Rules [] []).Alphas.length≤_;omega,by show(netR d.Rules [] []).Chains.length≤_;omega,g3⟩
 ·exact⟨by simp,by simp,by simp⟩
theorem rep_step{α:Type}(z:α){i:Int}(h0:0≤i):List.replicate i.toNat z++[z]=List.replicate (i+1).toNat z:=by
 have e:(i+1).toNat=i.toNat+1:=by omega
 rw[e,List.replicate_succ']
theorem netM_yes{d:DDef}(h:defOk d=true):netM d=netOf d:=if_pos h
theorem netM_no{d:DDef}(h:defOk d=false):netM d=⟨[],[]⟩:=if_neg (by rw[h];exact Bool.false_ne_true)
def Zk36:Con UU where
 α:=DDef
 md:=[.ro]
 of:=o1 (oA .eDef)
 ds:=fun x=>[dA .eDef x]
 pre:=fun d=>[sizeDef d≤4294967295]
 res:=fun d=>⟨[.agg [.sl .eAlpha ((netOf d)).Alphas,.sl .eChain ((netOf d)).Chains]],true,[]⟩
 law:=l1 (lA .eDef)
def Zi36_3(d:DDef):Int×(ByteArray×List DRule×Unit)×(List DAlpha×List DChain×Unit)×(List DAlpha×List DChain×Unit)×Unit→Prop:=fun(i,b,r,n,_)=>b=(d.Name,d.Rules,())∧r=([],[],())∧0≤i∧i≤d.Rules.length∧netR (d.Rules.drop i.toNat) n.1 n.2.1=netR d.Rules [] []∧n.1.length+patsN (d.Rules.drop i.toNat)≤patsN d.Rules∧n.2.1.length≤i
def Zm36_3(d:DDef):Int×(ByteArray×List DRule×Unit)×(List DAlpha×List DChain×Unit)×(List DAlpha×List DChain×Unit)×Unit→Nat:=fun(i,b,r,n,_)=>d.Rules.length-i.toNat
def Zi36_7(d:DDef):Int×Int×(ByteArray×List DRule×Unit)×(List DAlpha×List DChain×Unit)×(List DAlpha×List DChain×Unit)×(ByteArray×Int×List DPat×List DCond×List DAct×Unit)×(List Int×List Int×Unit)×Unit→Int×Int×(ByteArray×List DRule×Unit)×(List DAlpha×List DChain×Unit)×(List DAlpha×List DChain×Unit)×(ByteArray×Int×List DPat×List DCond×List DAct×Unit)×(List Int×List Int×Unit)×Unit→Prop:=fun(i0,k0,b0,r0,n0,u0,c0,_) (i,k,b,r,n,u,c,_)=>i=i0∧b=b0∧r=r0∧u=u0∧n.2.1=n0.2.1∧0≤k∧k≤(List.getD d.Rules i0.toNat zRule).Pats.length∧netP ((List.getD d.Rules i0.toNat zRule).Pats.drop k.toNat) n.1 c.1 c.2.1=netP (List.getD d.Rules i0.toNat zRule).Pats n0.1 [] []∧n.1.length≤n0.1.length+k∧c.1.length≤k∧c.2.1.length≤k
def Zm36_7(d:DDef):Int×Int×(ByteArray×List DRule×Unit)×(List DAlpha×List DChain×Unit)×(List DAlpha×List DChain×Unit)×(ByteArray×Int×List DPat×List DCond×List DAct×Unit)×(List Int×List Int×Unit)×Unit→Nat:=fun(i,k,b,r,n,u,c,_)=>(List.getD d.Rules i.toNat zRule).Pats.length-k.toNat
def Za36:Zk36.α→Nat→Option (Ann UU):=fun d=>annL [(3,annOf [.slot 13 (13,1024) (.lit (.int .i64)),.box 1 (1,1024) [.lit .str,.shr .eRule],.box 2 (2,1024) [.own .eAlpha true,.own .eChain true],.box 3 (3,1024) [.own .eAlpha true,.own .eChain true]] (fun _=>Zi36_3 d) (Zm36_3 d)),(7,annOf [.slot 13 (13,1024) (.lit (.int .i64)),.slot 20 (20,1024) (.lit (.int .i64)),.box 1 (1,1024) [.lit .str,.shr .eRule],.box 2 (2,1024) [.own .eAlpha true,.own .eChain true],.box 3 (3,1024) [.own .eAlpha true,.own .eChain true],.box 5 (5,1024) [.lit .str,.lit (.int .i64),.shr .ePat,.shr .eCond,.shr .eAct],.box 6 (6,1024) [.own .int true,.own .int true]] (Zi36_7 d) (Zm36_7 d))]
def Zu36:=us [Zh78]
theorem Zv36(d:DDef):goal EE Zu36 Go.Proofs.Tryz.f36 Zk36 Za36 d=(Zi36_3 d ((0:Int),(d.Name,d.Rules,()),([],[],()),([],[],()),())∧
 ∀(y:Int×(ByteArray×List DRule×PUnit)×(List DAlpha×List DChain×PUnit)×(List DAlpha×List DChain×PUnit)×PUnit),
  let x0:DRule:=List.getD d.Rules (Int.toNat y.1) zRule;
  Zi36_3 d y→
   bif decide (y.1<(↑(List.length d.Rules):Int)) then
    (0:Int)≤y.1∧
     Int.toNat y.1<List.length d.Rules∧
      Zi36_7 d (y.1,(0:Int),(y.2.1.1,y.2.1.2.1,PUnit.unit),(y.2.2.1.1,y.2.2.1.2.1,PUnit.unit),(y.2.2.2.1.1,y.2.2.2.1.2.1,PUnit.unit),(x0.Name,x0.Sal,x0.Pats,x0.Conds,x0.Acts,PUnit.unit),([],[],PUnit.unit),PUnit.unit) (y.1,(0:Int),(y.2.1.1,y.2.1.2.1,PUnit.unit),(y.2.2.1.1,y.2.2.1.2.1,PUnit.unit),(y.2.2.2.1.1,y.2.2.2.1.2.1,PUnit.unit),(x0.Name,x0.Sal,x0.Pats,x0.Conds,x0.Acts,PUnit.unit),([],[],PUnit.unit),PUnit.unit)∧
       ∀(y_1:Int×Int×(ByteArray×List DRule×PUnit)×(List DAlpha×List DChain×PUnit)×(List DAlpha×List DChain×PUnit)×(ByteArray×Int×List DPat×List DCond×List DAct×PUnit)×(List Int×List Int×PUnit)×PUnit),
        let x2:List DChain:=[{Pos:=y_1.2.2.2.2.2.2.1.1,Neg:=y_1.2.2.2.2.2.2.1.2.1:DChain}];
        let x4:Int:=IntKind.wrap IntKind.i64 (y_1.2.1+(1:Int));
        let x5:Nat:=Int.toNat y_1.2.1;
        let x3:DPat:=List.getD x0.Pats x5 zPat;
        let x1:List Int:=[placeA y_1.2.2.2.2.1.1 (alphaM x3)];
        Zi36_7 d (y.1,(0:Int),(y.2.1.1,y.2.1.2.1,PUnit.unit),(y.2.2.1.1,y.2.2.1.2.1,PUnit.unit),(y.2.2.2.1.1,y.2.2.2.1.2.1,PUnit.unit),(x0.Name,x0.Sal,x0.Pats,x0.Conds,x0.Acts,PUnit.unit),([],[],PUnit.unit),PUnit.unit) y_1→bif decide (y_1.2.1<(↑(List.length x0.Pats):Int)) then(0:Int)≤y_1.2.1∧x5<List.length x0.Pats∧List.length y_1.2.2.2.2.1.1≤(4294967294:Nat)∧List.length x3.Args≤(4294967295:Nat)∧bif x3.Not then List.length y_1.2.2.2.2.2.2.1.2.1+List.length x1≤(4294967296:Nat)∧Zi36_7 d (y.1,(0:Int),(y.2.1.1,y.2.1.2.1,PUnit.unit),(y.2.2.1.1,y.2.2.1.2.1,PUnit.unit),(y.2.2.2.1.1,y.2.2.2.1.2.1,PUnit.unit),(x0.Name,x0.Sal,x0.Pats,x0.Conds,x0.Acts,PUnit.unit),([],[],PUnit.unit),PUnit.unit) (y_1.1,x4,(y_1.2.2.1.1,y_1.2.2.1.2.1,PUnit.unit),(y_1.2.2.2.1.1,y_1.2.2.2.1.2.1,PUnit.unit),(addA y_1.2.2.2.2.1.1 (alphaM x3),y_1.2.2.2.2.1.2.1,PUnit.unit),(y_1.2.2.2.2.2.1.1,y_1.2.2.2.2.2.1.2.1,y_1.2.2.2.2.2.1.2.2.1,y_1.2.2.2.2.2.1.2.2.2.1,y_1.2.2.2.2.2.1.2.2.2.2.1,PUnit.unit),(y_1.2.2.2.2.2.2.1.1,y_1.2.2.2.2.2.2.1.2.1++x1,PUnit.unit),PUnit.unit)∧Zm36_7 d (y_1.1,x4,(y_1.2.2.1.1,y_1.2.2.1.2.1,PUnit.unit),(y_1.2.2.2.1.1,y_1.2.2.2.1.2.1,PUnit.unit),(addA y_1.2.2.2.2.1.1 (alphaM x3),y_1.2.2.2.2.1.2.1,PUnit.unit),(y_1.2.2.2.2.2.1.1,y_1.2.2.2.2.2.1.2.1,y_1.2.2.2.2.2.1.2.2.1,y_1.2.2.2.2.2.1.2.2.2.1,y_1.2.2.2.2.2.1.2.2.2.2.1,PUnit.unit),(y_1.2.2.2.2.2.2.1.1,y_1.2.2.2.2.2.2.1.2.1++x1,PUnit.unit),PUnit.unit)<Zm36_7 d y_1 else List.length y_1.2.2.2.2.2.2.1.1+List.length x1≤(4294967296:Nat)∧Zi36_7 d (y.1,(0:Int),(y.2.1.1,y.2.1.2.1,PUnit.unit),(y.2.2.1.1,y.2.2.1.2.1,PUnit.unit),(y.2.2.2.1.1,y.2.2.2.1.2.1,PUnit.unit),(x0.Name,x0.Sal,x0.Pats,x0.Conds,x0.Acts,PUnit.unit),([],[],PUnit.unit),PUnit.unit) (y_1.1,x4,(y_1.2.2.1.1,y_1.2.2.1.2.1,PUnit.unit),(y_1.2.2.2.1.1,y_1.2.2.2.1.2.1,PUnit.unit),(addA y_1.2.2.2.2.1.1 (alphaM x3),y_1.2.2.2.2.1.2.1,PUnit.unit),(y_1.2.2.2.2.2.1.1,y_1.2.2.2.2.2.1.2.1,y_1.2.2.2.2.2.1.2.2.1,y_1.2.2.2.2.2.1.2.2.2.1,y_1.2.2.2.2.2.1.2.2.2.2.1,PUnit.unit),(y_1.2.2.2.2.2.2.1.1++x1,y_1.2.2.2.2.2.2.1.2.1,PUnit.unit),PUnit.unit)∧Zm36_7 d (y_1.1,x4,(y_1.2.2.1.1,y_1.2.2.1.2.1,PUnit.unit),(y_1.2.2.2.1.1,y_1.2.2.2.1.2.1,PUnit.unit),(addA y_1.2.2.2.2.1.1 (alphaM x3),y_1.2.2.2.2.1.2.1,PUnit.unit),(y_1.2.2.2.2.2.1.1,y_1.2.2.2.2.2.1.2.1,y_1.2.2.2.2.2.1.2.2.1,y_1.2.2.2.2.2.1.2.2.2.1,y_1.2.2.2.2.2.1.2.2.2.2.1,PUnit.unit),(y_1.2.2.2.2.2.2.1.1++x1,y_1.2.2.2.2.2.2.1.2.1,PUnit.unit),PUnit.unit)<Zm36_7 d y_1 else List.length y_1.2.2.2.2.1.2.1+List.length x2≤(4294967296:Nat)∧Zi36_3 d (IntKind.wrap IntKind.i64 (y_1.1+(1:Int)),(y_1.2.2.1.1,y_1.2.2.1.2.1,PUnit.unit),(y_1.2.2.2.1.1,y_1.2.2.2.1.2.1,PUnit.unit),(y_1.2.2.2.2.1.1,y_1.2.2.2.2.1.2.1++x2,PUnit.unit),PUnit.unit)∧Zm36_3 d (IntKind.wrap IntKind.i64 (y_1.1+(1:Int)),(y_1.2.2.1.1,y_1.2.2.1.2.1,PUnit.unit),(y_1.2.2.2.1.1,y_1.2.2.2.1.2.1,PUnit.unit),(y_1.2.2.2.2.1.1,y_1.2.2.2.2.1.2.1++x2,PUnit.unit),PUnit.unit)<Zm36_3 d y
   else Lf [DV.agg [Cell.sl Cd.eAlpha y.2.2.2.1.1,Cell.sl Cd.eChain y.2.2.2.1.2.1]] [DV.agg [Cell.sl Cd.eAlpha (netOf d).Alphas,Cell.sl Cd.eChain (netOf d).Chains]]):=by kernel_rfl
theorem Zo36:Holds EE (36,Zk36):=by
 refine holds_of EE_ok Go.Proofs.Tryz.func36 Zk36 (by kernel_rfl) Zu36 (us_ok _) Za36 (fun(d:DDef) hp hb=> ?_)
 have hz0:=bd_eDef (x:=d) (hb _ m0)
 have hl_d_Name:=hz0.1
 have hl_d_Rules:=hz0.2
 have hp0:sizeDef d≤4294967295:=hp _ m0
 clear hp hb
 rw[Zv36 d]
 dsimp only
 have hpn:=patsN_le d.Rules
 have hsz:patsN d.Rules+d.Rules.length≤4294967295:=by simp only[sizeDef] at hp0;omega
 refine⟨⟨rfl,rfl,by omega,by omega,rfl,by simp,by simp⟩,?_⟩
 rintro⟨i,⟨b1,b2,⟨⟩⟩,⟨r1,r2,⟨⟩⟩,⟨na,nc,⟨⟩⟩,⟨⟩⟩ ⟨hb,hr,h1,h2,h3,h4,h5⟩
 cases hb
 cases hr
 simp only at h3 h4 h5⊢
 refine if_dec (fun hc=> ?_) (fun hc=> ?_)
 ·have hpd:=patsN_drop h1 hc
  refine⟨h1,by omega,⟨rfl,rfl,rfl,rfl,rfl,by omega,by omega,rfl,by simp,by simp,by simp⟩,?_⟩
  rintro⟨i',k,⟨b1,b2,⟨⟩⟩,⟨r1,r2,⟨⟩⟩,⟨ma,mc,⟨⟩⟩,⟨u1,u2,u3,u4,u5,⟨⟩⟩,⟨c1,c2,⟨⟩⟩,⟨⟩⟩ ⟨g0,g1,g2,g3,g4,g5,g6,g7,g8,g9,g10⟩
  replace g0:i'=i:=g0
  subst i'
  cases g1
  cases g2
  cases g3
  replace g4:mc=nc:=g4
  subst mc
  simp only at g5 g6 g7 g8 g9 g10⊢
  refine if_dec (fun hk=> ?_) (fun hk=> ?_)
  ·have ha:=arg_size h1 hc g5 hk
   have hd:=drop_step (List.getD d.Rules i.toNat zRule).Pats zPat g5 hk
   rw[hd,netP] at g7
   have hal:=addA_len ma (alphaM (List.getD (List.getD d.Rules i.toNat zRule).Pats k.toNat zPat))
   have hz:sizeRuleS d.Rules≤4294967295:=by simp only[sizeDef] at hp0;omega
   rw[wrap_i64 (n:=k+1) (by omega) (by omega)]
   refine⟨g5,by omega,by omega,by omega,if_cond (fun hn=> ?_) (fun hn=> ?_)⟩
   ·rw[if_pos hn,if_pos hn] at g7
    exact⟨by simp only[List.length_cons,List.length_nil];omega,⟨rfl,rfl,rfl,rfl,rfl,by omega,by omega,g7,by simp only;omega,by simp only;omega,by simp only[List.length_append,List.length_cons,List.length_nil];omega⟩,by simp only[Zm36_7];omega⟩
   ·have hn':¬(List.getD (List.getD d.Rules i.toNat zRule).Pats k.toNat zPat).Not=true:=by rw[hn];exact Bool.false_ne_true
    rw[if_neg hn',if_neg hn'] at g7
    exact⟨by simp only[List.length_cons,List.length_nil];omega,⟨rfl,rfl,rfl,rfl,rfl,by omega,by omega,g7,by simp only;omega,by simp only[List.length_append,List.length_cons,List.length_nil];omega,by simp only;omega⟩,by simp only[Zm36_7];omega⟩
  ·have e:k.toNat=(List.getD d.Rules i.toNat zRule).Pats.length:=by omega
   rw[e,List.drop_length] at g7
   replace g7:(ma,(⟨c1,c2⟩:DChain))=netP (List.getD d.Rules i.toNat zRule).Pats na [] []:=g7
   have hd:=drop_step d.Rules zRule h1 hc
   rw[hd,netR,←g7] at h3
   rw[wrap_i64 (n:=i+1) (by omega) (by omega)]
   exact⟨by simp only[List.length_cons,List.length_nil];omega,⟨rfl,rfl,by omega,by omega,h3,by simp only;omega,by simp only[List.length_append,List.length_cons,List.length_nil];omega⟩,by simp only[Zm36_3];omega⟩
 ·have e:i.toNat=d.Rules.length:=by omega
  rw[e,List.drop_length] at h3
  replace h3:(⟨na,nc⟩:DNet)=netOf d:=h3
  rw[←h3]
  exact Lf_rfl _
def Zh36:HH:=⟨_,Zo36⟩
def Zk32:Con UU where
 α:=DDef
 md:=[.ro]
 of:=o1 (oA .eDef)
 ds:=fun x=>[dA .eDef x]
 pre:=fun d=>[sizeDef d≤4294967295]
 res:=fun d=>⟨[.agg [.sl .eAlpha ((netOf d)).Alphas,.sl .eChain ((netOf d)).Chains]],true,[]⟩
 law:=l1 (lA .eDef)
def Zi32_3(d:DDef):Int×(ByteArray×List DRule×Unit)×(List DAlpha×List DChain×Unit)×(List DAlpha×List DChain×Unit)×Unit→Prop:=fun(i,b,r,n,_)=>b=(d.Name,d.Rules,())∧r=([],[],())∧0≤i∧i≤d.Rules.length∧netR (d.Rules.drop i.toNat) n.1 n.2.1=netR d.Rules [] []∧n.1.length+patsN (d.Rules.drop i.toNat)≤patsN d.Rules∧n.2.1.length≤i
def Zm32_3(d:DDef):Int×(ByteArray×List DRule×Unit)×(List DAlpha×List DChain×Unit)×(List DAlpha×List DChain×Unit)×Unit→Nat:=fun(i,b,r,n,_)=>d.Rules.length-i.toNat
def Zi32_7(d:DDef):Int×Int×(ByteArray×List DRule×Unit)×(List DAlpha×List DChain×Unit)×(List DAlpha×List DChain×Unit)×(List Int×List Int×Unit)×Unit→Int×Int×(ByteArray×List DRule×Unit)×(List DAlpha×List DChain×Unit)×(List DAlpha×List DChain×Unit)×(List Int×List Int×Unit)×Unit→Prop:=fun(i0,k0,b0,r0,n0,c0,_) (i,k,b,r,n,c,_)=>i=i0∧b=b0∧r=r0∧n.2.1=n0.2.1∧0≤k∧k≤(List.getD d.Rules i0.toNat zRule).Pats.length∧netP ((List.getD d.Rules i0.toNat zRule).Pats.drop k.toNat) n.1 c.1 c.2.1=netP (List.getD d.Rules i0.toNat zRule).Pats n0.1 [] []∧n.1.length≤n0.1.length+k∧c.1.length≤k∧c.2.1.length≤k
def Zm32_7(d:DDef):Int×Int×(ByteArray×List DRule×Unit)×(List DAlpha×List DChain×Unit)×(List DAlpha×List DChain×Unit)×(List Int×List Int×Unit)×Unit→Nat:=fun(i,k,b,r,n,c,_)=>(List.getD d.Rules i.toNat zRule).Pats.length-k.toNat
def Za32:Zk32.α→Nat→Option (Ann UU):=fun d=>annL [(3,annOf [.slot 4 (4,1024) (.lit (.int .i64)),.box 1 (1,1024) [.lit .str,.shr .eRule],.box 2 (2,1024) [.own .eAlpha true,.own .eChain true],.box 3 (3,1024) [.own .eAlpha true,.own .eChain true]] (fun _=>Zi32_3 d) (Zm32_3 d)),(7,annOf [.slot 4 (4,1024) (.lit (.int .i64)),.slot 6 (6,1024) (.lit (.int .i64)),.box 1 (1,1024) [.lit .str,.shr .eRule],.box 2 (2,1024) [.own .eAlpha true,.own .eChain true],.box 3 (3,1024) [.own .eAlpha true,.own .eChain true],.box 5 (5,1024) [.own .int true,.own .int true]] (Zi32_7 d) (Zm32_7 d))]
def Zu32:=us [Zh70,Zh69]
theorem Zv32(d:DDef):goal EE Zu32 Go.Proofs.Tryz.f32 Zk32 Za32 d=(Zi32_3 d ((0:Int),(d.Name,d.Rules,()),([],[],()),([],[],()),())∧
 ∀(y:Int×(ByteArray×List DRule×PUnit)×(List DAlpha×List DChain×PUnit)×(List DAlpha×List DChain×PUnit)×PUnit),
  let x0:Int:=(↑(List.length y.2.1.2.1):Int);
  Zi32_3 d y→
   bif decide (y.1<x0) then
    Zi32_7 d (y.1,(0:Int),(y.2.1.1,y.2.1.2.1,PUnit.unit),(y.2.2.1.1,y.2.2.1.2.1,PUnit.unit),(y.2.2.2.1.1,y.2.2.2.1.2.1,PUnit.unit),([],[],PUnit.unit),PUnit.unit) (y.1,(0:Int),(y.2.1.1,y.2.1.2.1,PUnit.unit),(y.2.2.1.1,y.2.2.1.2.1,PUnit.unit),(y.2.2.2.1.1,y.2.2.2.1.2.1,PUnit.unit),([],[],PUnit.unit),PUnit.unit)∧
     ∀(y_1:Int×Int×(ByteArray×List DRule×PUnit)×(List DAlpha×List DChain×PUnit)×(List DAlpha×List DChain×PUnit)×(List Int×List Int×PUnit)×PUnit),
      let x2:List DChain:=[{Pos:=y_1.2.2.2.2.2.1.1,Neg:=y_1.2.2.2.2.2.1.2.1:DChain}];
      let x6:List DPat:=(List.getD y_1.2.2.1.2.1 (Int.toNat y_1.1) zRule).Pats;
      let x7:Int:=IntKind.wrap IntKind.i64 (y_1.2.1+(1:Int));
      let x8:Nat:=Int.toNat y_1.2.1;
      let x3:DPat:=List.getD x6 x8 zPat;
      let x5:Nat:=List.length x6;
      let x1:List Int:=[placeA y_1.2.2.2.2.1.1 (alphaM x3)];
      let x4:Int:=(↑x5:Int);
      Zi32_7 d (y.1,(0:Int),(y.2.1.1,y.2.1.2.1,PUnit.unit),(y.2.2.1.1,y.2.2.1.2.1,PUnit.unit),(y.2.2.2.1.1,y.2.2.2.1.2.1,PUnit.unit),([],[],PUnit.unit),PUnit.unit) y_1→(0:Int)≤y_1.1∧Int.toNat y_1.1<List.length y_1.2.2.1.2.1∧bif decide (y_1.2.1<x4) then(0:Int)≤y_1.1∧Int.toNat y_1.1<List.length y_1.2.2.1.2.1∧(0:Int)≤y_1.2.1∧x8<x5∧List.length x3.Args≤(4294967295:Nat)∧List.length y_1.2.2.2.2.1.1≤(4294967294:Nat)∧bif x3.Not then List.length y_1.2.2.2.2.2.1.2.1+List.length x1≤(4294967296:Nat)∧Zi32_7 d (y.1,(0:Int),(y.2.1.1,y.2.1.2.1,PUnit.unit),(y.2.2.1.1,y.2.2.1.2.1,PUnit.unit),(y.2.2.2.1.1,y.2.2.2.1.2.1,PUnit.unit),([],[],PUnit.unit),PUnit.unit) (y_1.1,x7,(y_1.2.2.1.1,y_1.2.2.1.2.1,PUnit.unit),(y_1.2.2.2.1.1,y_1.2.2.2.1.2.1,PUnit.unit),(addA y_1.2.2.2.2.1.1 (alphaM x3),y_1.2.2.2.2.1.2.1,PUnit.unit),(y_1.2.2.2.2.2.1.1,y_1.2.2.2.2.2.1.2.1++x1,PUnit.unit),PUnit.unit)∧Zm32_7 d (y_1.1,x7,(y_1.2.2.1.1,y_1.2.2.1.2.1,PUnit.unit),(y_1.2.2.2.1.1,y_1.2.2.2.1.2.1,PUnit.unit),(addA y_1.2.2.2.2.1.1 (alphaM x3),y_1.2.2.2.2.1.2.1,PUnit.unit),(y_1.2.2.2.2.2.1.1,y_1.2.2.2.2.2.1.2.1++x1,PUnit.unit),PUnit.unit)<Zm32_7 d y_1 else List.length y_1.2.2.2.2.2.1.1+List.length x1≤(4294967296:Nat)∧Zi32_7 d (y.1,(0:Int),(y.2.1.1,y.2.1.2.1,PUnit.unit),(y.2.2.1.1,y.2.2.1.2.1,PUnit.unit),(y.2.2.2.1.1,y.2.2.2.1.2.1,PUnit.unit),([],[],PUnit.unit),PUnit.unit) (y_1.1,x7,(y_1.2.2.1.1,y_1.2.2.1.2.1,PUnit.unit),(y_1.2.2.2.1.1,y_1.2.2.2.1.2.1,PUnit.unit),(addA y_1.2.2.2.2.1.1 (alphaM x3),y_1.2.2.2.2.1.2.1,PUnit.unit),(y_1.2.2.2.2.2.1.1++x1,y_1.2.2.2.2.2.1.2.1,PUnit.unit),PUnit.unit)∧Zm32_7 d (y_1.1,x7,(y_1.2.2.1.1,y_1.2.2.1.2.1,PUnit.unit),(y_1.2.2.2.1.1,y_1.2.2.2.1.2.1,PUnit.unit),(addA y_1.2.2.2.2.1.1 (alphaM x3),y_1.2.2.2.2.1.2.1,PUnit.unit),(y_1.2.2.2.2.2.1.1++x1,y_1.2.2.2.2.2.1.2.1,PUnit.unit),PUnit.unit)<Zm32_7 d y_1 else List.length y_1.2.2.2.2.1.2.1+List.length x2≤(4294967296:Nat)∧Zi32_3 d (IntKind.wrap IntKind.i64 (y_1.1+(1:Int)),(y_1.2.2.1.1,y_1.2.2.1.2.1,PUnit.unit),(y_1.2.2.2.1.1,y_1.2.2.2.1.2.1,PUnit.unit),(y_1.2.2.2.2.1.1,y_1.2.2.2.2.1.2.1++x2,PUnit.unit),PUnit.unit)∧Zm32_3 d (IntKind.wrap IntKind.i64 (y_1.1+(1:Int)),(y_1.2.2.1.1,y_1.2.2.1.2.1,PUnit.unit),(y_1.2.2.2.1.1,y_1.2.2.2.1.2.1,PUnit.unit),(y_1.2.2.2.2.1.1,y_1.2.2.2.2.1.2.1++x2,PUnit.unit),PUnit.unit)<Zm32_3 d y
   else Lf [DV.agg [Cell.sl Cd.eAlpha y.2.2.2.1.1,Cell.sl Cd.eChain y.2.2.2.1.2.1]] [DV.agg [Cell.sl Cd.eAlpha (netOf d).Alphas,Cell.sl Cd.eChain (netOf d).Chains]]):=by kernel_rfl
theorem Zo32:Holds EE (32,Zk32):=by
 refine holds_of EE_ok Go.Proofs.Tryz.func32 Zk32 (by kernel_rfl) Zu32 (us_ok _) Za32 (fun(d:DDef) hp hb=> ?_)
 have hz0:=bd_eDef (x:=d) (hb _ m0)
 have hl_d_Name:=hz0.1
 have hl_d_Rules:=hz0.2
 have hp0:sizeDef d≤4294967295:=hp _ m0
 clear hp hb
 rw[Zv32 d]
 dsimp only
 have hpn:=patsN_le d.Rules
 have hsz:patsN d.Rules+d.Rules.length≤4294967295:=by simp only[sizeDef] at hp0;omega
 refine⟨⟨rfl,rfl,by omega,by omega,rfl,by simp,by simp⟩,?_⟩
 rintro⟨i,⟨b1,b2,⟨⟩⟩,⟨r1,r2,⟨⟩⟩,⟨na,nc,⟨⟩⟩,⟨⟩⟩ ⟨hb,hr,h1,h2,h3,h4,h5⟩
 cases hb
 cases hr
 simp only at h3 h4 h5⊢
 refine if_dec (fun hc=> ?_) (fun hc=> ?_)
 ·have hpd:=patsN_drop h1 hc
  refine⟨⟨rfl,rfl,rfl,rfl,by omega,by omega,rfl,by simp,by simp,by simp⟩,?_⟩
  rintro⟨i',k,⟨b1,b2,⟨⟩⟩,⟨r1,r2,⟨⟩⟩,⟨ma,mc,⟨⟩⟩,⟨c1,c2,⟨⟩⟩,⟨⟩⟩ ⟨g0,g1,g2,g4,g5,g6,g7,g8,g9,g10⟩
  replace g0:i'=i:=g0
  subst i'
  cases g1
  cases g2
  replace g4:mc=nc:=g4
  subst mc
  simp only at g5 g6 g7 g8 g9 g10⊢
  refine⟨h1,by omega,if_dec (fun hk=> ?_) (fun hk=> ?_)⟩
  ·have ha:=arg_size h1 hc g5 hk
   have hd:=drop_step (List.getD d.Rules i.toNat zRule).Pats zPat g5 hk
   rw[hd,netP] at g7
   have hal:=addA_len ma (alphaM (List.getD (List.getD d.Rules i.toNat zRule).Pats k.toNat zPat))
   have hz:sizeRuleS d.Rules≤4294967295:=by simp only[sizeDef] at hp0;omega
   rw[wrap_i64 (n:=k+1) (by omega) (by omega)]
   refine⟨h1,by omega,g5,by omega,by omega,by omega,if_cond (fun hn=> ?_) (fun hn=> ?_)⟩
   ·rw[if_pos hn,if_pos hn] at g7
    exact⟨by simp only[List.length_cons,List.length_nil];omega,⟨rfl,rfl,rfl,rfl,by omega,by omega,g7,by simp only;omega,by simp only;omega,by simp only[List.length_append,List.length_cons,List.length_nil];omega⟩,by simp only[Zm32_7];omega⟩
   ·have hn':¬(List.getD (List.getD d.Rules i.toNat zRule).Pats k.toNat zPat).Not=true:=by rw[hn];exact Bool.false_ne_true
    rw[if_neg hn',if_neg hn'] at g7
    exact⟨by simp only[List.length_cons,List.length_nil];omega,⟨rfl,rfl,rfl,rfl,by omega,by omega,g7,by simp only;omega,by simp only[List.length_append,List.length_cons,List.length_nil];omega,by simp only;omega⟩,by simp only[Zm32_7];omega⟩
  ·have e:k.toNat=(List.getD d.Rules i.toNat zRule).Pats.length:=by omega
   rw[e,List.drop_length] at g7
   replace g7:(ma,(⟨c1,c2⟩:DChain))=netP (List.getD d.Rules i.toNat zRule).Pats na [] []:=g7
   have hd:=drop_step d.Rules zRule h1 hc
   rw[hd,netR,←g7] at h3
   rw[wrap_i64 (n:=i+1) (by omega) (by omega)]
   exact⟨by simp only[List.length_cons,List.length_nil];omega,⟨rfl,rfl,by omega,by omega,h3,by simp only;omega,by simp only[List.length_append,List.length_cons,List.length_nil];omega⟩,by simp only[Zm32_3];omega⟩
 ·have e:i.toNat=d.Rules.length:=by omega
  rw[e,List.drop_length] at h3
  replace h3:(⟨na,nc⟩:DNet)=netOf d:=h3
  rw[←h3]
  exact Lf_rfl _
def Zh32:HH:=⟨_,Zo32⟩
def Zk20:Con UU where
 α:=DDef
 md:=[.ro]
 of:=o1 (oA .eDef)
 ds:=fun x=>[dA .eDef x]
 pre:=fun d=>[sizeDef d≤4294967295]
 res:=fun d=>⟨[.agg [.sl .eAlpha ((netM d)).Alphas,.sl .eChain ((netM d)).Chains]],true,[]⟩
 law:=l1 (lA .eDef)
def Za20:Zk20.α→Nat→Option (Ann UU):=fun d=>annL []
def Zu20:=us [Zh35,Zh36]
theorem Zv20(d:DDef):goal EE Zu20 Go.Proofs.Tryz.f20 Zk20 Za20 d=(bif !defOk d then Lf [DV.agg [Cell.sl Cd.eAlpha [],Cell.sl Cd.eChain []]] [DV.agg [Cell.sl Cd.eAlpha (netM d).Alphas,Cell.sl Cd.eChain (netM d).Chains]] else sizeDef d≤(4294967295:Nat)∧Lf [DV.agg [Cell.sl Cd.eAlpha (netOf d).Alphas,Cell.sl Cd.eChain (netOf d).Chains]] [DV.agg [Cell.sl Cd.eAlpha (netM d).Alphas,Cell.sl Cd.eChain (netM d).Chains]]):=by kernel_rfl
theorem Zo20:Holds EE (20,Zk20):=by
 refine holds_of EE_ok Go.Proofs.Tryz.func20 Zk20 (by kernel_rfl) Zu20 (us_ok _) Za20 (fun(d:DDef) hp hb=> ?_)
 have hz0:=bd_eDef (x:=d) (hb _ m0)
 have hl_d_Name:=hz0.1
 have hl_d_Rules:=hz0.2
 have hp0:sizeDef d≤4294967295:=hp _ m0
 clear hp hb
 rw[Zv20 d]
 refine if_cond (fun h=> ?_) (fun h=> ?_)
 ·rw[netM_no (by simpa using h)]
  exact Lf_rfl _
 ·rw[netM_yes (by simpa using h)]
  exact⟨hp0,Lf_rfl _⟩
def Zh20:HH:=⟨_,Zo20⟩
def Zk16:Con UU where
 α:=DDef
 md:=[.ro]
 of:=o1 (oA .eDef)
 ds:=fun x=>[dA .eDef x]
 pre:=fun d=>[sizeDef d≤4294967295]
 res:=fun d=>⟨[.agg [.sl .eAlpha ((netM d)).Alphas,.sl .eChain ((netM d)).Chains]],true,[]⟩
 law:=l1 (lA .eDef)
def Za16:Zk16.α→Nat→Option (Ann UU):=fun d=>annL []
def Zu16:=us [Zh31,Zh32]
theorem Zv16(d:DDef):goal EE Zu16 Go.Proofs.Tryz.f16 Zk16 Za16 d=(sizeDef d≤(4294967295:Nat)∧bif !defOk d then Lf [DV.agg [Cell.sl Cd.eAlpha [],Cell.sl Cd.eChain []]] [DV.agg [Cell.sl Cd.eAlpha (netM d).Alphas,Cell.sl Cd.eChain (netM d).Chains]] else sizeDef d≤(4294967295:Nat)∧Lf [DV.agg [Cell.sl Cd.eAlpha (netOf d).Alphas,Cell.sl Cd.eChain (netOf d).Chains]] [DV.agg [Cell.sl Cd.eAlpha (netM d).Alphas,Cell.sl Cd.eChain (netM d).Chains]]):=by kernel_rfl
theorem Zo16:Holds EE (16,Zk16):=by
 refine holds_of EE_ok Go.Proofs.Tryz.func16 Zk16 (by kernel_rfl) Zu16 (us_ok _) Za16 (fun(d:DDef) hp hb=> ?_)
 have hz0:=bd_eDef (x:=d) (hb _ m0)
 have hl_d_Name:=hz0.1
 have hl_d_Rules:=hz0.2
 have hp0:sizeDef d≤4294967295:=hp _ m0
 clear hp hb
 rw[Zv16 d]
 refine⟨hp0,if_cond (fun h=> ?_) (fun h=> ?_)⟩
 ·rw[netM_no (by simpa using h)]
  exact Lf_rfl _
 ·rw[netM_yes (by simpa using h)]
  exact⟨hp0,Lf_rfl _⟩
def Zh16:HH:=⟨_,Zo16⟩
def Zk19:Con UU where
 α:=DNet
 md:=[.ro]
 of:=o1 (oA .eNet)
 ds:=fun x=>[dA .eNet x]
 pre:=fun n=>[n.Alphas.length≤4294967295,chainsOk n]
 res:=fun n=>⟨[.agg [.sl .eIds ((memNew n)).Alphas,.sl .eRow ((memNew n)).Rules]],true,[]⟩
 law:=l1 (lA .eNet)
def Zi19_3(n:DNet):Int×(List DAlpha×List DChain×Unit)×(List DIds×List DRow×Unit)×(List DIds×List DRow×Unit)×Unit→Prop:=fun(i,b,r,m,_)=>b=(n.Alphas,n.Chains,())∧r=([],[],())∧0≤i∧i≤n.Chains.length∧m=(List.replicate n.Alphas.length zIds,(n.Chains.take i.toNat).map (fun c=>(⟨List.replicate c.Pos.length zLevel⟩:DRow)),())
def Zm19_3(n:DNet):Int×(List DAlpha×List DChain×Unit)×(List DIds×List DRow×Unit)×(List DIds×List DRow×Unit)×Unit→Nat:=fun(i,b,r,m,_)=>n.Chains.length-i.toNat
def Za19:Zk19.α→Nat→Option (Ann UU):=fun n=>annL [(3,annOf [.slot 14 (14,1024) (.lit (.int .i64)),.box 1 (1,1024) [.shr .eAlpha,.shr .eChain],.box 2 (2,1024) [.own .eIds true,.own .eRow true],.box 3 (3,1024) [.own .eIds true,.own .eRow true]] (fun _=>Zi19_3 n) (Zm19_3 n))]
def Zu19:List (FuncId×Con UU):=[]
theorem Zv19(n:DNet):goal EE Zu19 Go.Proofs.Tryz.f19 Zk19 Za19 n=(let x0:Int:=(n.Alphas.length:Int);
(0:Int)≤x0∧
 x0=x0∧
  x0≤(4294967296:Int)∧
   Zi19_3 n ((0:Int),(n.Alphas,n.Chains,PUnit.unit),([],[],PUnit.unit),(List.replicate (Int.toNat x0) zIds,[],PUnit.unit),PUnit.unit)∧
    ∀(y:Int×(List DAlpha×List DChain×PUnit)×(List DIds×List DRow×PUnit)×(List DIds×List DRow×PUnit)×PUnit),
     let x1:Int:=(↑(List.length (List.getD n.Chains (Int.toNat y.1) zChain).Pos):Int);
     Zi19_3 n y→bif decide (y.1<(↑(List.length n.Chains):Int)) then(0:Int)≤y.1∧Int.toNat y.1<List.length n.Chains∧(0:Int)≤x1∧x1=x1∧x1≤(4294967296:Int)∧List.length y.2.2.2.1.2.1+List.length [{Levels:=List.replicate (Int.toNat x1) zLevel:DRow}]≤(4294967296:Nat)∧Zi19_3 n (IntKind.wrap IntKind.i64 (y.1+(1:Int)),(y.2.1.1,y.2.1.2.1,PUnit.unit),(y.2.2.1.1,y.2.2.1.2.1,PUnit.unit),(y.2.2.2.1.1,y.2.2.2.1.2.1++[{Levels:=List.replicate (Int.toNat x1) zLevel:DRow}],PUnit.unit),PUnit.unit)∧Zm19_3 n (IntKind.wrap IntKind.i64 (y.1+(1:Int)),(y.2.1.1,y.2.1.2.1,PUnit.unit),(y.2.2.1.1,y.2.2.1.2.1,PUnit.unit),(y.2.2.2.1.1,y.2.2.2.1.2.1++[{Levels:=List.replicate (Int.toNat x1) zLevel:DRow}],PUnit.unit),PUnit.unit)<Zm19_3 n y else Lf [DV.agg [Cell.sl Cd.eIds y.2.2.2.1.1,Cell.sl Cd.eRow y.2.2.2.1.2.1]] [DV.agg [Cell.sl Cd.eIds (memNew n).Alphas,Cell.sl Cd.eRow (memNew n).Rules]]):=by kernel_rfl
theorem Zo19:Holds EE (19,Zk19):=by
 refine holds_of EE_ok Go.Proofs.Tryz.func19 Zk19 (by kernel_rfl) Zu19 all_nil Za19 (fun(n:DNet) hp hb=> ?_)
 have hz0:=bd_eNet (x:=n) (hb _ m0)
 have hl_n_Alphas:=hz0.1
 have hl_n_Chains:=hz0.2
 have hp0:n.Alphas.length≤4294967295:=hp _ m0
 have hp1:chainsOk n:=hp _ m1
 clear hp hb
 rw[Zv19 n]
 dsimp only
 have hl:∀{i:Int},0≤i→i<n.Chains.length→(List.getD n.Chains i.toNat zChain).Pos.length≤4294967295:=fun h0 h=>hp1.2 _ (getD_mem n.Chains zChain h0 h)
 have hc0:=hp1.1
 refine⟨by omega,rfl,by omega,⟨rfl,rfl,by omega,by omega,rfl⟩,?_⟩
 rintro⟨i,⟨b1,b2,⟨⟩⟩,⟨r1,r2,⟨⟩⟩,⟨m1,m2,⟨⟩⟩,⟨⟩⟩ ⟨hb,hr,h1,h2,hm⟩
 cases hb
 cases hr
 cases hm
 simp only
 refine if_dec (fun hc=> ?_) (fun hc=> ?_)
 ·have hl:=hl h1 hc
  rw[wrap_i64 (n:=i+1) (by omega) (by omega)]
  refine⟨h1,by omega,by omega,trivial,by omega,by simp only[List.length_map,List.length_take,List.length_cons,List.length_nil];omega,⟨rfl,rfl,by omega,by omega,?_⟩,by simp only[Zm19_3];omega⟩
  rw[←take_step n.Chains zChain h1 hc,List.map_append]
  rfl
 ·rw[take_all n.Chains (by omega)]
  exact Lf_rfl _
def Zh19:HH:=⟨_,Zo19⟩
def Zk15:Con UU where
 α:=DNet
 md:=[.ro]
 of:=o1 (oA .eNet)
 ds:=fun x=>[dA .eNet x]
 pre:=fun n=>[n.Alphas.length≤4294967295,chainsOk n]
 res:=fun n=>⟨[.agg [.sl .eIds ((memNew n)).Alphas,.sl .eRow ((memNew n)).Rules]],true,[]⟩
 law:=l1 (lA .eNet)
def Zi15_3(n:DNet):Int×(List DAlpha×List DChain×Unit)×(List DIds×List DRow×Unit)×(List DIds×List DRow×Unit)×Unit→Prop:=fun(i,b,r,m,_)=>b=(n.Alphas,n.Chains,())∧r=([],[],())∧0≤i∧i≤n.Alphas.length∧m=(List.replicate i.toNat zIds,[],())
def Zm15_3(n:DNet):Int×(List DAlpha×List DChain×Unit)×(List DIds×List DRow×Unit)×(List DIds×List DRow×Unit)×Unit→Nat:=fun(i,b,r,m,_)=>n.Alphas.length-i.toNat
def Zi15_7(n:DNet):Int×(List DAlpha×List DChain×Unit)×(List DIds×List DRow×Unit)×(List DIds×List DRow×Unit)×Unit→Prop:=fun(i,b,r,m,_)=>b=(n.Alphas,n.Chains,())∧r=([],[],())∧0≤i∧i≤n.Chains.length∧m=(List.replicate n.Alphas.length zIds,(n.Chains.take i.toNat).map (fun c=>(⟨List.replicate c.Pos.length zLevel⟩:DRow)),())
def Zm15_7(n:DNet):Int×(List DAlpha×List DChain×Unit)×(List DIds×List DRow×Unit)×(List DIds×List DRow×Unit)×Unit→Nat:=fun(i,b,r,m,_)=>n.Chains.length-i.toNat
def Zi15_11(n:DNet):Int×Int×(List DAlpha×List DChain×Unit)×(List DIds×List DRow×Unit)×(List DIds×List DRow×Unit)×(List DLevel×Unit)×Unit→Int×Int×(List DAlpha×List DChain×Unit)×(List DIds×List DRow×Unit)×(List DIds×List DRow×Unit)×(List DLevel×Unit)×Unit→Prop:=fun(i0,k0,b0,r0,m0,v0,_) (i,k,b,r,m,v,_)=>i=i0∧b=b0∧r=r0∧m=m0∧0≤k∧k≤(List.getD n.Chains i.toNat zChain).Pos.length∧v=(List.replicate k.toNat zLevel,())
def Zm15_11(n:DNet):Int×Int×(List DAlpha×List DChain×Unit)×(List DIds×List DRow×Unit)×(List DIds×List DRow×Unit)×(List DLevel×Unit)×Unit→Nat:=fun(i,k,b,r,m,v,_)=>(List.getD n.Chains i.toNat zChain).Pos.length-k.toNat
def Za15:Zk15.α→Nat→Option (Ann UU):=fun n=>annL [(3,annOf [.slot 4 (4,1024) (.lit (.int .i64)),.box 1 (1,1024) [.shr .eAlpha,.shr .eChain],.box 2 (2,1024) [.own .eIds true,.own .eRow true],.box 3 (3,1024) [.own .eIds true,.own .eRow true]] (fun _=>Zi15_3 n) (Zm15_3 n)),(7,annOf [.slot 5 (5,1024) (.lit (.int .i64)),.box 1 (1,1024) [.shr .eAlpha,.shr .eChain],.box 2 (2,1024) [.own .eIds true,.own .eRow true],.box 3 (3,1024) [.own .eIds true,.own .eRow true]] (fun _=>Zi15_7 n) (Zm15_7 n)),(11,annOf [.slot 5 (5,1024) (.lit (.int .i64)),.slot 7 (7,1024) (.lit (.int .i64)),.box 1 (1,1024) [.shr .eAlpha,.shr .eChain],.box 2 (2,1024) [.own .eIds true,.own .eRow true],.box 3 (3,1024) [.own .eIds true,.own .eRow true],.box 6 (6,1024) [.own .eLevel true]] (Zi15_11 n) (Zm15_11 n))]
def Zu15:List (FuncId×Con UU):=[]
theorem Zv15(n:DNet):goal EE Zu15 Go.Proofs.Tryz.f15 Zk15 Za15 n=(Zi15_3 n ((0:Int),(n.Alphas,n.Chains,()),([],[],()),([],[],()),())∧
 ∀(y:Int×(List DAlpha×List DChain×PUnit)×(List DIds×List DRow×PUnit)×(List DIds×List DRow×PUnit)×PUnit),
  let x0:Int:=(↑(List.length y.2.1.1):Int);
  Zi15_3 n y→
   bif decide (y.1<x0) then List.length y.2.2.2.1.1+List.length [{L:=[]:DIds}]≤(4294967296:Nat)∧Zi15_3 n (IntKind.wrap IntKind.i64 (y.1+(1:Int)),(y.2.1.1,y.2.1.2.1,PUnit.unit),(y.2.2.1.1,y.2.2.1.2.1,PUnit.unit),(y.2.2.2.1.1++[{L:=[]:DIds}],y.2.2.2.1.2.1,PUnit.unit),PUnit.unit)∧Zm15_3 n (IntKind.wrap IntKind.i64 (y.1+(1:Int)),(y.2.1.1,y.2.1.2.1,PUnit.unit),(y.2.2.1.1,y.2.2.1.2.1,PUnit.unit),(y.2.2.2.1.1++[{L:=[]:DIds}],y.2.2.2.1.2.1,PUnit.unit),PUnit.unit)<Zm15_3 n y
   else
    Zi15_7 n ((0:Int),(y.2.1.1,y.2.1.2.1,PUnit.unit),(y.2.2.1.1,y.2.2.1.2.1,PUnit.unit),(y.2.2.2.1.1,y.2.2.2.1.2.1,PUnit.unit),PUnit.unit)∧
     ∀(y:Int×(List DAlpha×List DChain×PUnit)×(List DIds×List DRow×PUnit)×(List DIds×List DRow×PUnit)×PUnit),
      let x1:Int:=(↑(List.length y.2.1.2.1):Int);
      Zi15_7 n y→
       bif decide (y.1<x1) then
        Zi15_11 n (y.1,(0:Int),(y.2.1.1,y.2.1.2.1,PUnit.unit),(y.2.2.1.1,y.2.2.1.2.1,PUnit.unit),(y.2.2.2.1.1,y.2.2.2.1.2.1,PUnit.unit),([],PUnit.unit),PUnit.unit) (y.1,(0:Int),(y.2.1.1,y.2.1.2.1,PUnit.unit),(y.2.2.1.1,y.2.2.1.2.1,PUnit.unit),(y.2.2.2.1.1,y.2.2.2.1.2.1,PUnit.unit),([],PUnit.unit),PUnit.unit)∧
         ∀(y_1:Int×Int×(List DAlpha×List DChain×PUnit)×(List DIds×List DRow×PUnit)×(List DIds×List DRow×PUnit)×(List DLevel×PUnit)×PUnit),
          let x2:List DRow:=[{Levels:=y_1.2.2.2.2.2.1.1:DRow}];
          let x3:Int:=(↑(List.length (List.getD y_1.2.2.1.2.1 (Int.toNat y_1.1) zChain).Pos):Int);
          Zi15_11 n (y.1,(0:Int),(y.2.1.1,y.2.1.2.1,PUnit.unit),(y.2.2.1.1,y.2.2.1.2.1,PUnit.unit),(y.2.2.2.1.1,y.2.2.2.1.2.1,PUnit.unit),([],PUnit.unit),PUnit.unit) y_1→(0:Int)≤y_1.1∧Int.toNat y_1.1<List.length y_1.2.2.1.2.1∧bif decide (y_1.2.1<x3) then List.length y_1.2.2.2.2.2.1.1+List.length [{Toks:=[]:DLevel}]≤(4294967296:Nat)∧Zi15_11 n (y.1,(0:Int),(y.2.1.1,y.2.1.2.1,PUnit.unit),(y.2.2.1.1,y.2.2.1.2.1,PUnit.unit),(y.2.2.2.1.1,y.2.2.2.1.2.1,PUnit.unit),([],PUnit.unit),PUnit.unit) (y_1.1,IntKind.wrap IntKind.i64 (y_1.2.1+(1:Int)),(y_1.2.2.1.1,y_1.2.2.1.2.1,PUnit.unit),(y_1.2.2.2.1.1,y_1.2.2.2.1.2.1,PUnit.unit),(y_1.2.2.2.2.1.1,y_1.2.2.2.2.1.2.1,PUnit.unit),(y_1.2.2.2.2.2.1.1++[{Toks:=[]:DLevel}],PUnit.unit),PUnit.unit)∧Zm15_11 n (y_1.1,IntKind.wrap IntKind.i64 (y_1.2.1+(1:Int)),(y_1.2.2.1.1,y_1.2.2.1.2.1,PUnit.unit),(y_1.2.2.2.1.1,y_1.2.2.2.1.2.1,PUnit.unit),(y_1.2.2.2.2.1.1,y_1.2.2.2.2.1.2.1,PUnit.unit),(y_1.2.2.2.2.2.1.1++[{Toks:=[]:DLevel}],PUnit.unit),PUnit.unit)<Zm15_11 n y_1 else List.length y_1.2.2.2.2.1.2.1+List.length x2≤(4294967296:Nat)∧Zi15_7 n (IntKind.wrap IntKind.i64 (y_1.1+(1:Int)),(y_1.2.2.1.1,y_1.2.2.1.2.1,PUnit.unit),(y_1.2.2.2.1.1,y_1.2.2.2.1.2.1,PUnit.unit),(y_1.2.2.2.2.1.1,y_1.2.2.2.2.1.2.1++x2,PUnit.unit),PUnit.unit)∧Zm15_7 n (IntKind.wrap IntKind.i64 (y_1.1+(1:Int)),(y_1.2.2.1.1,y_1.2.2.1.2.1,PUnit.unit),(y_1.2.2.2.1.1,y_1.2.2.2.1.2.1,PUnit.unit),(y_1.2.2.2.2.1.1,y_1.2.2.2.2.1.2.1++x2,PUnit.unit),PUnit.unit)<Zm15_7 n y
       else Lf [DV.agg [Cell.sl Cd.eIds y.2.2.2.1.1,Cell.sl Cd.eRow y.2.2.2.1.2.1]] [DV.agg [Cell.sl Cd.eIds (memNew n).Alphas,Cell.sl Cd.eRow (memNew n).Rules]]):=by kernel_rfl
theorem Zo15:Holds EE (15,Zk15):=by
 refine holds_of EE_ok Go.Proofs.Tryz.func15 Zk15 (by kernel_rfl) Zu15 all_nil Za15 (fun(n:DNet) hp hb=> ?_)
 have hz0:=bd_eNet (x:=n) (hb _ m0)
 have hl_n_Alphas:=hz0.1
 have hl_n_Chains:=hz0.2
 have hp0:n.Alphas.length≤4294967295:=hp _ m0
 have hp1:chainsOk n:=hp _ m1
 clear hp hb
 rw[Zv15 n]
 dsimp only
 have hl:∀{i:Int},0≤i→i<n.Chains.length→(List.getD n.Chains i.toNat zChain).Pos.length≤4294967295:=fun h0 h=>hp1.2 _ (getD_mem n.Chains zChain h0 h)
 have hc0:=hp1.1
 refine⟨⟨rfl,rfl,by omega,by omega,rfl⟩,?_⟩
 rintro⟨i,⟨b1,b2,⟨⟩⟩,⟨r1,r2,⟨⟩⟩,⟨m1,m2,⟨⟩⟩,⟨⟩⟩ ⟨hb,hr,h1,h2,hm⟩
 cases hb
 cases hr
 cases hm
 simp only
 refine if_dec (fun hc=> ?_) (fun hc=> ?_)
 ·rw[wrap_i64 (n:=i+1) (by omega) (by omega)]
  refine⟨by simp only[List.length_replicate,List.length_cons,List.length_nil];omega,⟨rfl,rfl,by omega,by omega,?_⟩,by simp only[Zm15_3];omega⟩
  rw[←rep_step zIds h1]
  rfl
 ·have e:i.toNat=n.Alphas.length:=by omega
  rw[e]
  clear hc e h1 h2
  refine⟨⟨rfl,rfl,by omega,by omega,rfl⟩,?_⟩
  rintro⟨i,⟨b1,b2,⟨⟩⟩,⟨r1,r2,⟨⟩⟩,⟨m1,m2,⟨⟩⟩,⟨⟩⟩ ⟨hb,hr,h1,h2,hm⟩
  cases hb
  cases hr
  cases hm
  simp only
  refine if_dec (fun hc=> ?_) (fun hc=> ?_)
  ·have hl:=hl h1 hc
   refine⟨⟨rfl,rfl,rfl,rfl,by omega,by omega,rfl⟩,?_⟩
   rintro⟨i',k,⟨b1,b2,⟨⟩⟩,⟨r1,r2,⟨⟩⟩,⟨m1,m2,⟨⟩⟩,⟨v,⟨⟩⟩,⟨⟩⟩ ⟨g0,g1,g2,g3,g4,g5,g6⟩
   replace g0:i'=i:=g0
   subst i'
   cases g1
   cases g2
   cases g3
   cases g6
   simp only at g4 g5⊢
   refine⟨h1,by omega,if_dec (fun hk=> ?_) (fun hk=> ?_)⟩
   ·rw[wrap_i64 (n:=k+1) (by omega) (by omega)]
    refine⟨by simp only[List.length_replicate,List.length_cons,List.length_nil];omega,⟨rfl,rfl,rfl,rfl,by omega,by omega,?_⟩,by simp only[Zm15_11];omega⟩
    rw[←rep_step zLevel g4]
    rfl
   ·have e:k.toNat=(List.getD n.Chains i.toNat zChain).Pos.length:=by omega
    rw[wrap_i64 (n:=i+1) (by omega) (by omega),e]
    refine⟨by simp only[List.length_map,List.length_take,List.length_cons,List.length_nil];omega,⟨rfl,rfl,by omega,by omega,?_⟩,by simp only[Zm15_7];omega⟩
    rw[←take_step n.Chains zChain h1 hc,List.map_append]
    rfl
  ·rw[take_all n.Chains (by omega)]
   exact Lf_rfl _
def Zh15:HH:=⟨_,Zo15⟩
def Zk7:Con UU where
 α:=DDef×Int
 md:=[.ro,.ro]
 of:=oC (oA .eDef) (o1 oI)
 ds:=fun x=>[dA .eDef x.1,dI x.2]
 pre:=fun(d,now)=>[sizeDef d≤4294967295]
 res:=fun(d,now)=>⟨[.agg [.sl .eItem ((((⟨instNew now,memNew (netM d)⟩:DRun)).X).S).Items,.lit (.int .i64 ((((⟨instNew now,memNew (netM d)⟩:DRun)).X).S).Next),.sl .eMatch (((⟨instNew now,memNew (netM d)⟩:DRun)).X).Fired,.sl .eTask (((⟨instNew now,memNew (netM d)⟩:DRun)).X).Tasks,.sl .eTimer (((⟨instNew now,memNew (netM d)⟩:DRun)).X).Timers,.sl .eUndo (((⟨instNew now,memNew (netM d)⟩:DRun)).X).Undos,.lit (.int .i64 (((⟨instNew now,memNew (netM d)⟩:DRun)).X).State),.lit (.int .i64 (((⟨instNew now,memNew (netM d)⟩:DRun)).X).Now),.sl .eIds (((⟨instNew now,memNew (netM d)⟩:DRun)).M).Alphas,.sl .eRow (((⟨instNew now,memNew (netM d)⟩:DRun)).M).Rules]],true,[]⟩
 law:=lC (lA .eDef) (l1 lI)
def Za7:Zk7.α→Nat→Option (Ann UU):=fun(d,now)=>annL []
def Zu7:=us [Zh20,Zh19,Zh18]
theorem Zv7(d:DDef)(now:Int):goal EE Zu7 Go.Proofs.Tryz.f7 Zk7 Za7 (d,now)=(sizeDef d≤(4294967295:Nat)∧List.length (netM d).Alphas≤(4294967295:Nat)∧chainsOk (netM d)∧Lf [DV.agg [Cell.sl Cd.eItem (instNew now).S.Items,Cell.lit (Value.int IntKind.i64 (instNew now).S.Next),Cell.sl Cd.eMatch (instNew now).Fired,Cell.sl Cd.eTask (instNew now).Tasks,Cell.sl Cd.eTimer (instNew now).Timers,Cell.sl Cd.eUndo (instNew now).Undos,Cell.lit (Value.int IntKind.i64 (instNew now).State),Cell.lit (Value.int IntKind.i64 (instNew now).Now),Cell.sl Cd.eIds (memNew (netM d)).Alphas,Cell.sl Cd.eRow (memNew (netM d)).Rules]] [DV.agg [Cell.sl Cd.eItem (instNew now).S.Items,Cell.lit (Value.int IntKind.i64 (instNew now).S.Next),Cell.sl Cd.eMatch (instNew now).Fired,Cell.sl Cd.eTask (instNew now).Tasks,Cell.sl Cd.eTimer (instNew now).Timers,Cell.sl Cd.eUndo (instNew now).Undos,Cell.lit (Value.int IntKind.i64 (instNew now).State),Cell.lit (Value.int IntKind.i64 (instNew now).Now),Cell.sl Cd.eIds (memNew (netM d)).Alphas,Cell.sl Cd.eRow (memNew (netM d)).Rules]]):=by kernel_rfl
theorem Zo7:Holds EE (7,Zk7):=by
 refine holds_of EE_ok Go.Proofs.Tryz.func7 Zk7 (by kernel_rfl) Zu7 (us_ok _) Za7 (fun x hp hb=> ?_)
 obtain⟨d,now⟩:=x
 have hz0:=bd_eDef (x:=d) (hb _ m0)
 have hl_d_Name:=hz0.1
 have hl_d_Rules:=hz0.2
 have hl_now:=bdI (n:=now) (hb _ m1)
 have hp0:sizeDef d≤4294967295:=hp _ m0
 clear hp hb
 rw[Zv7 d now]
 have h:=netM_ok hp0
 exact⟨hp0,h.1,h.2,Lf_rfl _⟩
def Zh7:HH:=⟨_,Zo7⟩
def Zk5:Con UU where
 α:=DDef×Int
 md:=[.ro,.ro]
 of:=oC (oA .eDef) (o1 oI)
 ds:=fun x=>[dA .eDef x.1,dI x.2]
 pre:=fun(d,now)=>[sizeDef d≤4294967295]
 res:=fun(d,now)=>⟨[.agg [.sl .eItem ((((⟨instNew now,memNew (netM d)⟩:DRun)).X).S).Items,.lit (.int .i64 ((((⟨instNew now,memNew (netM d)⟩:DRun)).X).S).Next),.sl .eMatch (((⟨instNew now,memNew (netM d)⟩:DRun)).X).Fired,.sl .eTask (((⟨instNew now,memNew (netM d)⟩:DRun)).X).Tasks,.sl .eTimer (((⟨instNew now,memNew (netM d)⟩:DRun)).X).Timers,.sl .eUndo (((⟨instNew now,memNew (netM d)⟩:DRun)).X).Undos,.lit (.int .i64 (((⟨instNew now,memNew (netM d)⟩:DRun)).X).State),.lit (.int .i64 (((⟨instNew now,memNew (netM d)⟩:DRun)).X).Now),.sl .eIds (((⟨instNew now,memNew (netM d)⟩:DRun)).M).Alphas,.sl .eRow (((⟨instNew now,memNew (netM d)⟩:DRun)).M).Rules]],true,[]⟩
 law:=lC (lA .eDef) (l1 lI)
def Za5:Zk5.α→Nat→Option (Ann UU):=fun(d,now)=>annL []
def Zu5:=us [Zh16,Zh15,Zh14]
theorem Zv5(d:DDef)(now:Int):goal EE Zu5 Go.Proofs.Tryz.f5 Zk5 Za5 (d,now)=(sizeDef d≤(4294967295:Nat)∧List.length (netM d).Alphas≤(4294967295:Nat)∧chainsOk (netM d)∧Lf [DV.agg [Cell.sl Cd.eItem (instNew now).S.Items,Cell.lit (Value.int IntKind.i64 (instNew now).S.Next),Cell.sl Cd.eMatch (instNew now).Fired,Cell.sl Cd.eTask (instNew now).Tasks,Cell.sl Cd.eTimer (instNew now).Timers,Cell.sl Cd.eUndo (instNew now).Undos,Cell.lit (Value.int IntKind.i64 (instNew now).State),Cell.lit (Value.int IntKind.i64 (instNew now).Now),Cell.sl Cd.eIds (memNew (netM d)).Alphas,Cell.sl Cd.eRow (memNew (netM d)).Rules]] [DV.agg [Cell.sl Cd.eItem (instNew now).S.Items,Cell.lit (Value.int IntKind.i64 (instNew now).S.Next),Cell.sl Cd.eMatch (instNew now).Fired,Cell.sl Cd.eTask (instNew now).Tasks,Cell.sl Cd.eTimer (instNew now).Timers,Cell.sl Cd.eUndo (instNew now).Undos,Cell.lit (Value.int IntKind.i64 (instNew now).State),Cell.lit (Value.int IntKind.i64 (instNew now).Now),Cell.sl Cd.eIds (memNew (netM d)).Alphas,Cell.sl Cd.eRow (memNew (netM d)).Rules]]):=by kernel_rfl
theorem Zo5:Holds EE (5,Zk5):=by
 refine holds_of EE_ok Go.Proofs.Tryz.func5 Zk5 (by kernel_rfl) Zu5 (us_ok _) Za5 (fun x hp hb=> ?_)
 obtain⟨d,now⟩:=x
 have hz0:=bd_eDef (x:=d) (hb _ m0)
 have hl_d_Name:=hz0.1
 have hl_d_Rules:=hz0.2
 have hl_now:=bdI (n:=now) (hb _ m1)
 have hp0:sizeDef d≤4294967295:=hp _ m0
 clear hp hb
 rw[Zv5 d now]
 have h:=netM_ok hp0
 exact⟨hp0,h.1,h.2,Lf_rfl _⟩
def Zh5:HH:=⟨_,Zo5⟩
theorem ctS_zero{α:Type}{c:α→Nat}:∀{l:List α},(∀x∈l,c x=0)→ctS c l=0
 |[],_=>rfl
 |x::l,h=>by rw[ctS_cons,h x List.mem_cons_self,ctS_zero fun y hy=>h y (List.mem_cons_of_mem _ hy)]
theorem memNew_ct(n:DNet):ctMem (memNew n)=0:=by
 unfold ctMem memNew
 simp only
 have h1:cntIdsS (List.replicate n.Alphas.length zIds)=0:=ctS_zero fun x hx=>by rw[List.eq_of_mem_replicate hx];rfl
 have h2:cntRowS (n.Chains.map fun c=>(⟨List.replicate c.Pos.length zLevel⟩:DRow))=0:=ctS_zero fun x hx=>by
  obtain⟨c,_,rfl⟩:=List.mem_map.1 hx
  exact ctS_zero fun y hy=>by rw[List.eq_of_mem_replicate hy];rfl
 rw[h1,h2]
theorem runNew_ct(now:Int)(n:DNet):ctRun ⟨instNew now,memNew n⟩=0:=by
 unfold ctRun
 rw[instNew_ct,memNew_ct]
theorem mkRun_eta2(x:DInst)(m:DMem)(k:Int):(⟨⟨⟨(mkRun ⟨x,m⟩ k).X.S.Items,x.S.Next⟩,(mkRun ⟨x,m⟩ k).X.Fired,(mkRun ⟨x,m⟩ k).X.Tasks,(mkRun ⟨x,m⟩ k).X.Timers,(mkRun ⟨x,m⟩ k).X.Undos,x.State,x.Now⟩,(mkRun ⟨x,m⟩ k).M⟩:DRun)=mkRun ⟨x,m⟩ k:=rfl
def con_laws_FnExactRunNew:Con UU where
 α:=DDef×Int
 md:=[.ro,.ro]
 of:=oC (oA .lDef) (o1 oI)
 ds:=fun x=>[dA .lDef x.1,dI x.2]
 pre:=fun _=>[]
 res:=fun(aD,aNow)=>⟨[.one (.lit (.bool true))],true,[]⟩
 law:=lC (lA .lDef) (l1 lI)
def ann_laws_FnExactRunNew:con_laws_FnExactRunNew.α→Nat→Option (Ann UU):=fun(aD,aNow)=>annL []
def use_laws_FnExactRunNew:=us [Zh4,Zh6,Zh5,Zh7,Zh9,Zh8,Zh10,Zh11,Zh12]
theorem vc_laws_FnExactRunNew(aD:DDef)(aNow:Int):goal EE use_laws_FnExactRunNew Go.Proofs.Tryz.f3 con_laws_FnExactRunNew ann_laws_FnExactRunNew (aD,aNow)=(let x3:DInst:=(mkRun {X:=instNew aNow,M:=memNew (netM aD):DRun} (1:Int)).X;
let x4:Bool:= !decide ({X:=instNew aNow,M:=memNew (netM aD):DRun}={X:=instNew aNow,M:=memNew (netM aD):DRun});
let x6:Int:=(1:Int)+(↑(ctRun {X:=instNew aNow,M:=memNew (netM aD):DRun}):Int);
let x2:DRun:={X:={S:={Items:=x3.S.Items,Next:=(instNew aNow).S.Next:DStore},Fired:=x3.Fired,Tasks:=x3.Tasks,Timers:=x3.Timers,Undos:=x3.Undos,State:=(instNew aNow).State,Now:=(instNew aNow).Now:DInst},M:=(mkRun {X:=instNew aNow,M:=memNew (netM aD):DRun} (1:Int)).M:DRun};
let x1:Int:=if mkRun x2 (1:Int)=x2 then(1:Int)+(↑(ctRun x2):Int) else(-1:Int);
let x5:Bool:=x1 !=x6;
let x0:Bool:=decide (x1<(0:Int));
(0:Int)≤(1048576:Int)∧bif decide (szr (1048576:Int) (sizeDef aD)<(0:Int)) then Lf [DV.one (Cell.lit (Value.bool true))] [DV.one (Cell.lit (Value.bool true))] else sizeDef aD≤(4294967296:Nat)∧sizeDef aD≤(4294967295:Nat)∧sizeDef aD≤(4294967296:Nat)∧sizeDef aD≤(4294967295:Nat)∧bif x4 then Lf [DV.one (Cell.lit (Value.bool false))] [DV.one (Cell.lit (Value.bool true))] else sizeDef aD≤(4294967296:Nat)∧bif !decide (aD=aD) then Lf [DV.one (Cell.lit (Value.bool false))] [DV.one (Cell.lit (Value.bool true))] else(0:Int)≤(1:Int)∧(1:Int)+(↑(ctDef aD):Int)≤(4611686018427387904:Int)∧bif x4 then Lf [DV.one (Cell.lit (Value.bool false))] [DV.one (Cell.lit (Value.bool true))] else(0:Int)≤(1:Int)∧x6≤(4611686018427387904:Int)∧(0:Int)≤(1:Int)∧(1:Int)+(↑(ctRun x2):Int)≤(4611686018427387904:Int)∧bif x0 then Lf [DV.one (Cell.lit (Value.bool false))] [DV.one (Cell.lit (Value.bool true))] else bif x5 then Lf [DV.one (Cell.lit (Value.bool false))] [DV.one (Cell.lit (Value.bool true))] else sizeDef aD≤(4294967296:Nat)∧sizeDef aD≤(4294967295:Nat)∧bif x4 then Lf [DV.one (Cell.lit (Value.bool false))] [DV.one (Cell.lit (Value.bool true))] else(0:Int)≤(1:Int)∧(1:Int)+(↑(ctRun x2):Int)≤(4611686018427387904:Int)∧bif x0 then Lf [DV.one (Cell.lit (Value.bool false))] [DV.one (Cell.lit (Value.bool true))] else bif x5 then Lf [DV.one (Cell.lit (Value.bool false))] [DV.one (Cell.lit (Value.bool true))] else Lf [DV.one (Cell.lit (Value.bool true))] [DV.one (Cell.lit (Value.bool true))]):=by kernel_rfl
theorem ok_laws_FnExactRunNew:Holds EE (3,con_laws_FnExactRunNew):=by
 refine holds_of EE_ok Go.Proofs.Tryz.func3 con_laws_FnExactRunNew (by kernel_rfl) use_laws_FnExactRunNew (us_ok _) ann_laws_FnExactRunNew (fun x hp hb=> ?_)
 obtain⟨aD,aNow⟩:=x
 have hz0:=bd_lDef (x:=aD) (hb _ m0)
 have hl_aD_Name:=hz0.1
 have hl_aD_Rules:=hz0.2
 have hl_aNow:=bdI (n:=aNow) (hb _ m1)
 clear hp hb
 rw[vc_laws_FnExactRunNew aD aNow]
 dsimp only
 refine⟨by omega,if_cond (fun h=>Lf_rfl _) (fun h=> ?_)⟩
 obtain⟨e0,h0⟩:=szr_pos h
 have hc:=ctDef_le aD
 have e:=runNew_ct aNow (netM aD)
 simp only[mkRun_eta2,mkRun_idem,mkRun_ct,if_true,e]
 repeat' (first|exact Lf_rfl _|refine And.intro (by omega) ?_|refine if_cond (fun h=>absurd h (by first|(simp;done)|(simp;omega))) (fun h=> ?_)|fail)
def h_laws_FnExactRunNew:HH:=⟨_,ok_laws_FnExactRunNew⟩
end
end AM
