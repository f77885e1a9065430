/- Functions of the program with their contracts: put together by gen/link.py for FnExactBookOk. -/
import Derived.Test.YtmoijfaceanakaaGreatAmLib
import Derived.Test.YtmoijfaceanakaaGreatFExactBookOk2
namespace AM
open Go
set_option linter.unusedVariables false
set_option linter.unusedSimpArgs false
set_option maxRecDepth 100000
noncomputable section
def Zk41:Con UU where
 α:=DDef×DInst
 md:=[.ro,.ro]
 of:=oC (oA .eDef) (o1 (oA .eInst))
 ds:=fun x=>[dA .eDef x.1,dA .eInst x.2]
 pre:=fun(d,x)=>[sizeDef d≤4294967295,sizeItemS x.S.Items≤4294967296]
 res:=fun(d,x)=>⟨[.one (.lit (.bool (firedOk d x)))],true,[]⟩
 law:=lC (lA .eDef) (l1 (lA .eInst))
def Zi41_2(d:DDef)(x:DInst):Int×(ByteArray×List DRule×Unit)×(List DItem×Int×List DMatch×List DTask×List DTimer×List DUndo×Int×Int×Unit)×Unit→Prop:=fun(i,b,g,_)=>b=(d.Name,d.Rules,())∧g=(x.S.Items,x.S.Next,x.Fired,x.Tasks,x.Timers,x.Undos,x.State,x.Now,())∧0≤i∧i≤x.Fired.length∧(x.Fired.drop i.toNat).all (firedM d x.S.Items)=x.Fired.all (firedM d x.S.Items)
def Zm41_2(d:DDef)(x:DInst):Int×(ByteArray×List DRule×Unit)×(List DItem×Int×List DMatch×List DTask×List DTimer×List DUndo×Int×Int×Unit)×Unit→Nat:=fun(i,b,g,_)=>x.Fired.length-i.toNat
def Zi41_8(d:DDef)(x:DInst):Int×Int×(ByteArray×List DRule×Unit)×(List DItem×Int×List DMatch×List DTask×List DTimer×List DUndo×Int×Int×Unit)×(Int×List Int×List DBind×Unit)×Unit→Int×Int×(ByteArray×List DRule×Unit)×(List DItem×Int×List DMatch×List DTask×List DTimer×List DUndo×Int×Int×Unit)×(Int×List Int×List DBind×Unit)×Unit→Prop:=fun(i0,k0,b0,g0,m0,_) (i,k,b,g,m,_)=>i=i0∧b=b0∧g=g0∧m=m0∧0≤k∧k≤(List.getD x.Fired i.toNat zMatch).Ids.length∧((List.getD x.Fired i.toNat zMatch).Ids.drop k.toNat).all (hasId x.S.Items)=(List.getD x.Fired i.toNat zMatch).Ids.all (hasId x.S.Items)
def Zm41_8(d:DDef)(x:DInst):Int×Int×(ByteArray×List DRule×Unit)×(List DItem×Int×List DMatch×List DTask×List DTimer×List DUndo×Int×Int×Unit)×(Int×List Int×List DBind×Unit)×Unit→Nat:=fun(i,k,b,g,m,_)=>(List.getD x.Fired i.toNat zMatch).Ids.length-k.toNat
def Za41:Zk41.α→Nat→Option (Ann UU):=fun(d,x)=>annL [(2,annOf [.slot 5 (5,1024) (.lit (.int .i64)),.box 2 (2,1024) [.lit .str,.shr .eRule],.box 3 (3,1024) [.shr .eItem,.lit (.int .i64),.shr .eMatch,.shr .eTask,.shr .eTimer,.shr .eUndo,.lit (.int .i64),.lit (.int .i64)]] (fun _=>Zi41_2 d x) (Zm41_2 d x)),(8,annOf [.slot 5 (5,1024) (.lit (.int .i64)),.slot 7 (7,1024) (.lit (.int .i64)),.box 2 (2,1024) [.lit .str,.shr .eRule],.box 3 (3,1024) [.shr .eItem,.lit (.int .i64),.shr .eMatch,.shr .eTask,.shr .eTimer,.shr .eUndo,.lit (.int .i64),.lit (.int .i64)],.box 6 (6,1024) [.lit (.int .i64),.shr .int,.shr .eBind]] (Zi41_8 d x) (Zm41_8 d x))]
def Zu41:=us [Zh82,Zh83,Zh109]
theorem Zv41(d:DDef)(x:DInst):goal EE Zu41 Go.Proofs.Tryz.f41 Zk41 Za41 (d,x)=(Zi41_2 d x ((0:Int),(d.Name,d.Rules,()),(x.S.Items,x.S.Next,x.Fired,x.Tasks,x.Timers,x.Undos,x.State,x.Now,()),())∧
 ∀(y:Int×(ByteArray×List DRule×PUnit)×(List DItem×Int×List DMatch×List DTask×List DTimer×List DUndo×Int×Int×PUnit)×PUnit),
  let x0:DMatch:=List.getD y.2.2.1.2.2.1 (Int.toNat y.1) zMatch;
  let x2:Nat:=List.length y.2.2.1.2.2.1;
  let x1:Int:=(↑x2:Int);
  Zi41_2 d x y→
   bif decide (y.1<x1) then
    (0:Int)≤y.1∧
     Int.toNat y.1<x2∧
      bif !hasR {Name:=y.2.1.1,Rules:=y.2.1.2.1:DDef} x0 then Lf [DV.one (Cell.lit (Value.bool false))] [DV.one (Cell.lit (Value.bool (firedOk d x)))]
      else
       bif (↑(List.length x0.Binds):Int) !=(0:Int) then Lf [DV.one (Cell.lit (Value.bool false))] [DV.one (Cell.lit (Value.bool (firedOk d x)))]
       else
        (0:Int)≤x0.Rule∧
         Int.toNat x0.Rule<List.length y.2.1.2.1∧
          bif (↑(List.length x0.Ids):Int) !=(↑(posN (List.getD y.2.1.2.1 (Int.toNat x0.Rule) zRule).Pats):Int) then Lf [DV.one (Cell.lit (Value.bool false))] [DV.one (Cell.lit (Value.bool (firedOk d x)))]
          else
           Zi41_8 d x (y.1,(0:Int),(y.2.1.1,y.2.1.2.1,PUnit.unit),(y.2.2.1.1,y.2.2.1.2.1,y.2.2.1.2.2.1,y.2.2.1.2.2.2.1,y.2.2.1.2.2.2.2.1,y.2.2.1.2.2.2.2.2.1,y.2.2.1.2.2.2.2.2.2.1,y.2.2.1.2.2.2.2.2.2.2.1,PUnit.unit),(x0.Rule,x0.Ids,x0.Binds,PUnit.unit),PUnit.unit) (y.1,(0:Int),(y.2.1.1,y.2.1.2.1,PUnit.unit),(y.2.2.1.1,y.2.2.1.2.1,y.2.2.1.2.2.1,y.2.2.1.2.2.2.1,y.2.2.1.2.2.2.2.1,y.2.2.1.2.2.2.2.2.1,y.2.2.1.2.2.2.2.2.2.1,y.2.2.1.2.2.2.2.2.2.2.1,PUnit.unit),(x0.Rule,x0.Ids,x0.Binds,PUnit.unit),PUnit.unit)∧
            ∀(y_1:Int×Int×(ByteArray×List DRule×PUnit)×(List DItem×Int×List DMatch×List DTask×List DTimer×List DUndo×Int×Int×PUnit)×(Int×List Int×List DBind×PUnit)×PUnit),
             let x4:Nat:=List.length y_1.2.2.2.2.1.2.1;
             let x5:Nat:=Int.toNat y_1.2.1;
             let x3:Int:=(↑x4:Int);
             Zi41_8 d x (y.1,(0:Int),(y.2.1.1,y.2.1.2.1,PUnit.unit),(y.2.2.1.1,y.2.2.1.2.1,y.2.2.1.2.2.1,y.2.2.1.2.2.2.1,y.2.2.1.2.2.2.2.1,y.2.2.1.2.2.2.2.2.1,y.2.2.1.2.2.2.2.2.2.1,y.2.2.1.2.2.2.2.2.2.2.1,PUnit.unit),(x0.Rule,x0.Ids,x0.Binds,PUnit.unit),PUnit.unit) y_1→bif decide (y_1.2.1<x3) then(0:Int)≤y_1.2.1∧x5<x4∧sizeItemS y_1.2.2.2.1.1≤(4294967296:Nat)∧bif !hasId y_1.2.2.2.1.1 (List.getD y_1.2.2.2.2.1.2.1 x5 (0:Int)) then Lf [DV.one (Cell.lit (Value.bool false))] [DV.one (Cell.lit (Value.bool (firedOk d x)))] else Zi41_8 d x (y.1,(0:Int),(y.2.1.1,y.2.1.2.1,PUnit.unit),(y.2.2.1.1,y.2.2.1.2.1,y.2.2.1.2.2.1,y.2.2.1.2.2.2.1,y.2.2.1.2.2.2.2.1,y.2.2.1.2.2.2.2.2.1,y.2.2.1.2.2.2.2.2.2.1,y.2.2.1.2.2.2.2.2.2.2.1,PUnit.unit),(x0.Rule,x0.Ids,x0.Binds,PUnit.unit),PUnit.unit) (y_1.1,IntKind.wrap IntKind.i64 (y_1.2.1+(1:Int)),(y_1.2.2.1.1,y_1.2.2.1.2.1,PUnit.unit),(y_1.2.2.2.1.1,y_1.2.2.2.1.2.1,y_1.2.2.2.1.2.2.1,y_1.2.2.2.1.2.2.2.1,y_1.2.2.2.1.2.2.2.2.1,y_1.2.2.2.1.2.2.2.2.2.1,y_1.2.2.2.1.2.2.2.2.2.2.1,y_1.2.2.2.1.2.2.2.2.2.2.2.1,PUnit.unit),(y_1.2.2.2.2.1.1,y_1.2.2.2.2.1.2.1,y_1.2.2.2.2.1.2.2.1,PUnit.unit),PUnit.unit)∧Zm41_8 d x (y_1.1,IntKind.wrap IntKind.i64 (y_1.2.1+(1:Int)),(y_1.2.2.1.1,y_1.2.2.1.2.1,PUnit.unit),(y_1.2.2.2.1.1,y_1.2.2.2.1.2.1,y_1.2.2.2.1.2.2.1,y_1.2.2.2.1.2.2.2.1,y_1.2.2.2.1.2.2.2.2.1,y_1.2.2.2.1.2.2.2.2.2.1,y_1.2.2.2.1.2.2.2.2.2.2.1,y_1.2.2.2.1.2.2.2.2.2.2.2.1,PUnit.unit),(y_1.2.2.2.2.1.1,y_1.2.2.2.2.1.2.1,y_1.2.2.2.2.1.2.2.1,PUnit.unit),PUnit.unit)<Zm41_8 d x y_1 else Zi41_2 d x (IntKind.wrap IntKind.i64 (y_1.1+(1:Int)),(y_1.2.2.1.1,y_1.2.2.1.2.1,PUnit.unit),(y_1.2.2.2.1.1,y_1.2.2.2.1.2.1,y_1.2.2.2.1.2.2.1,y_1.2.2.2.1.2.2.2.1,y_1.2.2.2.1.2.2.2.2.1,y_1.2.2.2.1.2.2.2.2.2.1,y_1.2.2.2.1.2.2.2.2.2.2.1,y_1.2.2.2.1.2.2.2.2.2.2.2.1,PUnit.unit),PUnit.unit)∧Zm41_2 d x (IntKind.wrap IntKind.i64 (y_1.1+(1:Int)),(y_1.2.2.1.1,y_1.2.2.1.2.1,PUnit.unit),(y_1.2.2.2.1.1,y_1.2.2.2.1.2.1,y_1.2.2.2.1.2.2.1,y_1.2.2.2.1.2.2.2.1,y_1.2.2.2.1.2.2.2.2.1,y_1.2.2.2.1.2.2.2.2.2.1,y_1.2.2.2.1.2.2.2.2.2.2.1,y_1.2.2.2.1.2.2.2.2.2.2.2.1,PUnit.unit),PUnit.unit)<Zm41_2 d x y
   else Lf [DV.one (Cell.lit (Value.bool (decide (x1≤(1000:Int)))))] [DV.one (Cell.lit (Value.bool (firedOk d x)))]):=by kernel_rfl
theorem Zo41:Holds EE (41,Zk41):=by
 refine holds_of EE_ok Go.Proofs.Tryz.func41 Zk41 (by kernel_rfl) Zu41 (us_ok _) Za41 (fun x hp hb=> ?_)
 obtain⟨d,x⟩:=x
 have hz0:=bd_eDef (x:=d) (hb _ m0)
 have hl_d_Name:=hz0.1
 have hl_d_Rules:=hz0.2
 have hz1:=bd_eInst (x:=x) (hb _ m1)
 have hl_x_S_Items:=hz1.1
 have hl_x_Fired:=hz1.2.1
 have hl_x_Tasks:=hz1.2.2.1
 have hl_x_Timers:=hz1.2.2.2.1
 have hl_x_Undos:=hz1.2.2.2.2
 have hp0:sizeDef d≤4294967295:=hp _ m0
 have hp1:sizeItemS x.S.Items≤4294967296:=hp _ m1
 clear hp hb
 rw[Zv41 d x]
 dsimp only
 refine⟨⟨rfl,rfl,by omega,by omega,rfl⟩,?_⟩
 rintro⟨i,⟨b1,b2,⟨⟩⟩,⟨g1,g2,g3,g4,g5,g6,g7,g8,⟨⟩⟩,⟨⟩⟩ ⟨hb,hg,h1,h2,hR⟩
 cases hb
 cases hg
 simp only
 refine if_dec (fun hc=> ?_) (fun hc=> ?_)
 ·rw[all_step _ _ zMatch h1 hc] at hR
  have hN:firedM d x.S.Items (List.getD x.Fired i.toNat zMatch)=false→firedOk d x=false:=fun h=>by simp only[firedOk,←hR,h,Bool.false_and,Bool.and_false]
  refine⟨by omega,by omega,if_not (fun a=>Lf_ff (hN ?_)) (fun a=>if_not (fun b=>Lf_ff (hN ?_)) (fun b=> ?_))⟩
  ·have a:hasR d (List.getD x.Fired i.toNat zMatch)=false:=a
   simp only[firedM,a,Bool.false_and]
  ·have b:¬(List.getD x.Fired i.toNat zMatch).Binds.length=0:=by simpa using b
   simp only[firedM,decide_eq_false b,Bool.false_and,Bool.and_false]
  have a:hasR d (List.getD x.Fired i.toNat zMatch)=true:=a
  have b:(List.getD x.Fired i.toNat zMatch).Binds.length=0:=by simpa using b
  obtain⟨r1,r2⟩:=hasR_iff a
  have hz:=posN_size a
  refine⟨r1,by omega,if_not (fun c=>Lf_ff (hN ?_)) (fun c=>⟨⟨rfl,rfl,rfl,rfl,by omega,by omega,rfl⟩,?_⟩)⟩
  ·have c:¬(List.getD x.Fired i.toNat zMatch).Ids.length=posN (List.getD d.Rules (List.getD x.Fired i.toNat zMatch).Rule.toNat zRule).Pats:=fun e=>by rw[e] at c;simp at c
   simp only[firedM,decide_eq_false c,Bool.false_and,Bool.and_false]
  have c:(List.getD x.Fired i.toNat zMatch).Ids.length=posN (List.getD d.Rules (List.getD x.Fired i.toNat zMatch).Rule.toNat zRule).Pats:=by
   have c:=eq_of_beq c
   omega
  have hM:=firedM_ids (s:=x.S.Items) a b c
  rintro⟨i',k,⟨b1,b2,⟨⟩⟩,⟨g1,g2,g3,g4,g5,g6,g7,g8,⟨⟩⟩,⟨m1,m2,m3,⟨⟩⟩,⟨⟩⟩ ⟨rfl,hb,hg,hm,k1,k2,kR⟩
  cases hb
  cases hg
  cases hm
  simp only
  refine if_dec (fun hk=> ?_) (fun hk=> ?_)
  ·rw[all_step _ _ 0 k1 hk] at kR
   rw[wrap_i64 (n:=k+1) (by omega) (by omega)]
   exact⟨by omega,by omega,hp1,if_not (fun e=>Lf_ff (hN (by rw[hM,←kR,e,Bool.false_and]))) (fun e=>⟨⟨rfl,rfl,rfl,rfl,by omega,by omega,by rw[←kR,e,Bool.true_and]⟩,by simp only[Zm41_8];omega⟩)⟩
  ·rw[drop_end _ (by omega)] at kR
   rw[wrap_i64 (n:=i'+1) (by omega) (by omega)]
   exact⟨⟨rfl,rfl,by omega,by omega,by rw[←hR,hM,←kR];rfl⟩,by simp only[Zm41_2];omega⟩
 ·rw[drop_end _ (by omega)] at hR
  refine Lf_b ?_
  simp only[firedOk,←hR,List.all_nil,Bool.and_true];exact decide_eq_decide.2 (by omega)
def Zh41:HH:=⟨_,Zo41⟩
def Zk58:Con UU where
 α:=DDef×DInst
 md:=[.ro,.ro]
 of:=oC (oA .eDef) (o1 (oA .eInst))
 ds:=fun x=>[dA .eDef x.1,dA .eInst x.2]
 pre:=fun(d,x)=>[sizeDef d≤4294967295,sizeItemS x.S.Items≤4294967296]
 res:=fun(d,x)=>⟨[.one (.lit (.bool (firedOk d x)))],true,[]⟩
 law:=lC (lA .eDef) (l1 (lA .eInst))
def Zi58_4(d:DDef)(x:DInst):Int×(ByteArray×List DRule×Unit)×(List DItem×Int×List DMatch×List DTask×List DTimer×List DUndo×Int×Int×Unit)×Unit→Prop:=fun(i,b,g,_)=>b=(d.Name,d.Rules,())∧g=(x.S.Items,x.S.Next,x.Fired,x.Tasks,x.Timers,x.Undos,x.State,x.Now,())∧x.Fired.length≤1000∧0≤i∧i≤x.Fired.length∧(x.Fired.drop i.toNat).all (firedM d x.S.Items)=x.Fired.all (firedM d x.S.Items)
def Zm58_4(d:DDef)(x:DInst):Int×(ByteArray×List DRule×Unit)×(List DItem×Int×List DMatch×List DTask×List DTimer×List DUndo×Int×Int×Unit)×Unit→Nat:=fun(i,b,g,_)=>x.Fired.length-i.toNat
def Zi58_9(d:DDef)(x:DInst):Int×Int×(ByteArray×List DRule×Unit)×(List DItem×Int×List DMatch×List DTask×List DTimer×List DUndo×Int×Int×Unit)×Unit→Int×Int×(ByteArray×List DRule×Unit)×(List DItem×Int×List DMatch×List DTask×List DTimer×List DUndo×Int×Int×Unit)×Unit→Prop:=fun(i0,k0,b0,g0,_) (i,k,b,g,_)=>i=i0∧b=b0∧g=g0∧0≤k∧k≤(List.getD x.Fired i.toNat zMatch).Ids.length∧((List.getD x.Fired i.toNat zMatch).Ids.drop k.toNat).all (hasId x.S.Items)=(List.getD x.Fired i.toNat zMatch).Ids.all (hasId x.S.Items)
def Zm58_9(d:DDef)(x:DInst):Int×Int×(ByteArray×List DRule×Unit)×(List DItem×Int×List DMatch×List DTask×List DTimer×List DUndo×Int×Int×Unit)×Unit→Nat:=fun(i,k,b,g,_)=>(List.getD x.Fired i.toNat zMatch).Ids.length-k.toNat
def Za58:Zk58.α→Nat→Option (Ann UU):=fun(d,x)=>annL [(4,annOf [.slot 18 (18,1024) (.lit (.int .i64)),.box 2 (2,1024) [.lit .str,.shr .eRule],.box 3 (3,1024) [.shr .eItem,.lit (.int .i64),.shr .eMatch,.shr .eTask,.shr .eTimer,.shr .eUndo,.lit (.int .i64),.lit (.int .i64)]] (fun _=>Zi58_4 d x) (Zm58_4 d x)),(9,annOf [.slot 18 (18,1024) (.lit (.int .i64)),.slot 48 (48,1024) (.lit (.int .i64)),.box 2 (2,1024) [.lit .str,.shr .eRule],.box 3 (3,1024) [.shr .eItem,.lit (.int .i64),.shr .eMatch,.shr .eTask,.shr .eTimer,.shr .eUndo,.lit (.int .i64),.lit (.int .i64)]] (Zi58_9 d x) (Zm58_9 d x))]
def Zu58:=us [Zh124,Zh125,Zh126]
theorem Zv58(d:DDef)(x:DInst):goal EE Zu58 Go.Proofs.Tryz.f58 Zk58 Za58 (d,x)=(let x0:Int:=(x.Fired.length:Int);
bif decide (x0>(1000:Int)) then Lf [DV.one (Cell.lit (Value.bool false))] [DV.one (Cell.lit (Value.bool (firedOk d x)))]
else
 Zi58_4 d x ((0:Int),(d.Name,d.Rules,PUnit.unit),(x.S.Items,x.S.Next,x.Fired,x.Tasks,x.Timers,x.Undos,x.State,x.Now,PUnit.unit),PUnit.unit)∧
  ∀(y:Int×(ByteArray×List DRule×PUnit)×(List DItem×Int×List DMatch×List DTask×List DTimer×List DUndo×Int×Int×PUnit)×PUnit),
   let x2:DMatch:=List.getD x.Fired (Int.toNat y.1) zMatch;
   let x1:Int:=(↑(List.length x2.Ids):Int);
   Zi58_4 d x y→
    bif decide (y.1<x0) then
     (0:Int)≤y.1∧
      Int.toNat y.1<List.length x.Fired∧
       bif !hasR {Name:=y.2.1.1,Rules:=y.2.1.2.1:DDef} x2 then Lf [DV.one (Cell.lit (Value.bool false))] [DV.one (Cell.lit (Value.bool (firedOk d x)))]
       else
        bif (↑(List.length x2.Binds):Int) !=(0:Int) then Lf [DV.one (Cell.lit (Value.bool false))] [DV.one (Cell.lit (Value.bool (firedOk d x)))]
        else
         (0:Int)≤x2.Rule∧
          Int.toNat x2.Rule<List.length y.2.1.2.1∧
           bif x1 !=(↑(posN (List.getD y.2.1.2.1 (Int.toNat x2.Rule) zRule).Pats):Int) then Lf [DV.one (Cell.lit (Value.bool false))] [DV.one (Cell.lit (Value.bool (firedOk d x)))]
           else
            Zi58_9 d x (y.1,(0:Int),(y.2.1.1,y.2.1.2.1,PUnit.unit),(y.2.2.1.1,y.2.2.1.2.1,y.2.2.1.2.2.1,y.2.2.1.2.2.2.1,y.2.2.1.2.2.2.2.1,y.2.2.1.2.2.2.2.2.1,y.2.2.1.2.2.2.2.2.2.1,y.2.2.1.2.2.2.2.2.2.2.1,PUnit.unit),PUnit.unit) (y.1,(0:Int),(y.2.1.1,y.2.1.2.1,PUnit.unit),(y.2.2.1.1,y.2.2.1.2.1,y.2.2.1.2.2.1,y.2.2.1.2.2.2.1,y.2.2.1.2.2.2.2.1,y.2.2.1.2.2.2.2.2.1,y.2.2.1.2.2.2.2.2.2.1,y.2.2.1.2.2.2.2.2.2.2.1,PUnit.unit),PUnit.unit)∧
             ∀(y_1:Int×Int×(ByteArray×List DRule×PUnit)×(List DItem×Int×List DMatch×List DTask×List DTimer×List DUndo×Int×Int×PUnit)×PUnit),
              let x3:Nat:=Int.toNat y_1.2.1;
              Zi58_9 d x (y.1,(0:Int),(y.2.1.1,y.2.1.2.1,PUnit.unit),(y.2.2.1.1,y.2.2.1.2.1,y.2.2.1.2.2.1,y.2.2.1.2.2.2.1,y.2.2.1.2.2.2.2.1,y.2.2.1.2.2.2.2.2.1,y.2.2.1.2.2.2.2.2.2.1,y.2.2.1.2.2.2.2.2.2.2.1,PUnit.unit),PUnit.unit) y_1→bif decide (y_1.2.1<x1) then(0:Int)≤y_1.2.1∧x3<List.length x2.Ids∧sizeItemS y_1.2.2.2.1.1≤(4294967296:Nat)∧bif !hasId y_1.2.2.2.1.1 (List.getD x2.Ids x3 (0:Int)) then Lf [DV.one (Cell.lit (Value.bool false))] [DV.one (Cell.lit (Value.bool (firedOk d x)))] else Zi58_9 d x (y.1,(0:Int),(y.2.1.1,y.2.1.2.1,PUnit.unit),(y.2.2.1.1,y.2.2.1.2.1,y.2.2.1.2.2.1,y.2.2.1.2.2.2.1,y.2.2.1.2.2.2.2.1,y.2.2.1.2.2.2.2.2.1,y.2.2.1.2.2.2.2.2.2.1,y.2.2.1.2.2.2.2.2.2.2.1,PUnit.unit),PUnit.unit) (y_1.1,IntKind.wrap IntKind.i64 (y_1.2.1+(1:Int)),(y_1.2.2.1.1,y_1.2.2.1.2.1,PUnit.unit),(y_1.2.2.2.1.1,y_1.2.2.2.1.2.1,y_1.2.2.2.1.2.2.1,y_1.2.2.2.1.2.2.2.1,y_1.2.2.2.1.2.2.2.2.1,y_1.2.2.2.1.2.2.2.2.2.1,y_1.2.2.2.1.2.2.2.2.2.2.1,y_1.2.2.2.1.2.2.2.2.2.2.2.1,PUnit.unit),PUnit.unit)∧Zm58_9 d x (y_1.1,IntKind.wrap IntKind.i64 (y_1.2.1+(1:Int)),(y_1.2.2.1.1,y_1.2.2.1.2.1,PUnit.unit),(y_1.2.2.2.1.1,y_1.2.2.2.1.2.1,y_1.2.2.2.1.2.2.1,y_1.2.2.2.1.2.2.2.1,y_1.2.2.2.1.2.2.2.2.1,y_1.2.2.2.1.2.2.2.2.2.1,y_1.2.2.2.1.2.2.2.2.2.2.1,y_1.2.2.2.1.2.2.2.2.2.2.2.1,PUnit.unit),PUnit.unit)<Zm58_9 d x y_1 else Zi58_4 d x (IntKind.wrap IntKind.i64 (y_1.1+(1:Int)),(y_1.2.2.1.1,y_1.2.2.1.2.1,PUnit.unit),(y_1.2.2.2.1.1,y_1.2.2.2.1.2.1,y_1.2.2.2.1.2.2.1,y_1.2.2.2.1.2.2.2.1,y_1.2.2.2.1.2.2.2.2.1,y_1.2.2.2.1.2.2.2.2.2.1,y_1.2.2.2.1.2.2.2.2.2.2.1,y_1.2.2.2.1.2.2.2.2.2.2.2.1,PUnit.unit),PUnit.unit)∧Zm58_4 d x (IntKind.wrap IntKind.i64 (y_1.1+(1:Int)),(y_1.2.2.1.1,y_1.2.2.1.2.1,PUnit.unit),(y_1.2.2.2.1.1,y_1.2.2.2.1.2.1,y_1.2.2.2.1.2.2.1,y_1.2.2.2.1.2.2.2.1,y_1.2.2.2.1.2.2.2.2.1,y_1.2.2.2.1.2.2.2.2.2.1,y_1.2.2.2.1.2.2.2.2.2.2.1,y_1.2.2.2.1.2.2.2.2.2.2.2.1,PUnit.unit),PUnit.unit)<Zm58_4 d x y
    else Lf [DV.one (Cell.lit (Value.bool true))] [DV.one (Cell.lit (Value.bool (firedOk d x)))]):=by kernel_rfl
theorem Zo58:Holds EE (58,Zk58):=by
 refine holds_of EE_ok Go.Proofs.Tryz.func58 Zk58 (by kernel_rfl) Zu58 (us_ok _) Za58 (fun x hp hb=> ?_)
 obtain⟨d,x⟩:=x
 have hz0:=bd_eDef (x:=d) (hb _ m0)
 have hl_d_Name:=hz0.1
 have hl_d_Rules:=hz0.2
 have hz1:=bd_eInst (x:=x) (hb _ m1)
 have hl_x_S_Items:=hz1.1
 have hl_x_Fired:=hz1.2.1
 have hl_x_Tasks:=hz1.2.2.1
 have hl_x_Timers:=hz1.2.2.2.1
 have hl_x_Undos:=hz1.2.2.2.2
 have hp0:sizeDef d≤4294967295:=hp _ m0
 have hp1:sizeItemS x.S.Items≤4294967296:=hp _ m1
 clear hp hb
 rw[Zv58 d x]
 dsimp only
 refine if_dec (fun a=>Lf_ff ?_) (fun a=>⟨⟨rfl,rfl,by omega,by omega,by omega,rfl⟩,?_⟩)
 ·simp only[firedOk];rw[decide_eq_false (p:=x.Fired.length≤1000) (by omega),Bool.false_and]
 rintro⟨i,⟨b1,b2,⟨⟩⟩,⟨g1,g2,g3,g4,g5,g6,g7,g8,⟨⟩⟩,⟨⟩⟩ ⟨hb,hg,a0,h1,h2,hR⟩
 cases hb
 cases hg
 simp only
 refine if_dec (fun hc=> ?_) (fun hc=> ?_)
 ·rw[all_step _ _ zMatch h1 hc] at hR
  have hN:firedM d x.S.Items (List.getD x.Fired i.toNat zMatch)=false→firedOk d x=false:=fun h=>by simp only[firedOk,←hR,h,Bool.false_and,Bool.and_false]
  refine⟨by omega,by omega,if_not (fun a=>Lf_ff (hN ?_)) (fun a=>if_not (fun b=>Lf_ff (hN ?_)) (fun b=> ?_))⟩
  ·have a:hasR d (List.getD x.Fired i.toNat zMatch)=false:=a
   simp only[firedM,a,Bool.false_and]
  ·have b:¬(List.getD x.Fired i.toNat zMatch).Binds.length=0:=by simpa using b
   simp only[firedM,decide_eq_false b,Bool.false_and,Bool.and_false]
  have a:hasR d (List.getD x.Fired i.toNat zMatch)=true:=a
  have b:(List.getD x.Fired i.toNat zMatch).Binds.length=0:=by simpa using b
  obtain⟨r1,r2⟩:=hasR_iff a
  have hz:=posN_size a
  refine⟨r1,by omega,if_not (fun c=>Lf_ff (hN ?_)) (fun c=>⟨⟨rfl,rfl,rfl,by omega,by omega,rfl⟩,?_⟩)⟩
  ·have c:¬(List.getD x.Fired i.toNat zMatch).Ids.length=posN (List.getD d.Rules (List.getD x.Fired i.toNat zMatch).Rule.toNat zRule).Pats:=fun e=>by rw[e] at c;simp at c
   simp only[firedM,decide_eq_false c,Bool.false_and,Bool.and_false]
  have c:(List.getD x.Fired i.toNat zMatch).Ids.length=posN (List.getD d.Rules (List.getD x.Fired i.toNat zMatch).Rule.toNat zRule).Pats:=by
   have c:=eq_of_beq c
   omega
  have hM:=firedM_ids (s:=x.S.Items) a b c
  rintro⟨i',k,⟨b1,b2,⟨⟩⟩,⟨g1,g2,g3,g4,g5,g6,g7,g8,⟨⟩⟩,⟨⟩⟩ ⟨rfl,hb,hg,k1,k2,kR⟩
  cases hb
  cases hg
  simp only
  refine if_dec (fun hk=> ?_) (fun hk=> ?_)
  ·rw[all_step _ _ 0 k1 hk] at kR
   rw[wrap_i64 (n:=k+1) (by omega) (by omega)]
   exact⟨by omega,by omega,hp1,if_not (fun e=>Lf_ff (hN (by rw[hM,←kR,e,Bool.false_and]))) (fun e=>⟨⟨rfl,rfl,rfl,by omega,by omega,by rw[←kR,e,Bool.true_and]⟩,by simp only[Zm58_9];omega⟩)⟩
  ·rw[drop_end _ (by omega)] at kR
   rw[wrap_i64 (n:=i'+1) (by omega) (by omega)]
   exact⟨⟨rfl,rfl,a0,by omega,by omega,by rw[←hR,hM,←kR];rfl⟩,by simp only[Zm58_4];omega⟩
 ·rw[drop_end _ (by omega)] at hR
  refine Lf_tt ?_
  simp only[firedOk,←hR,decide_eq_true a0];rfl
def Zh58:HH:=⟨_,Zo58⟩
def Zk60:Con UU where
 α:=(List DTask)×(List (DA UU)→Option Value)
 md:=[.ro,.ro]
 of:=oC (oL .eTask) (o1 oF)
 ds:=fun x=>[dL .eTask x.1,dF x.2]
 pre:=fun(l,p)=>[∀j:Nat,j<l.length→p [daTask (List.getD l j zTask)]=some (.bool (boolOf (p [daTask (List.getD l j zTask)])))]
 res:=fun(l,p)=>⟨[.one (.lit (.bool (anyI l.length (fun j=>boolOf (p [daTask (List.getD l j zTask)])))))],true,[]⟩
 law:=lC (lL .eTask) (l1 lF)
def Za60:Zk60.α→Nat→Option (Ann UU):=fun(l,p)=>annL []
def Zu60:=us [Zh127]
theorem Zv60(l:(List DTask))(p:(List (DA UU)→Option Value)):goal EE Zu60 Go.Proofs.Tryz.f60 Zk60 Za60 (l,p)=(let x0:Int:=idxI (l.length) fun(j:Nat)=>boolOf (p [daTask (List.getD l j zTask)]);
(∀(j:Nat),j<List.length l→p [daTask (List.getD l j zTask)]=some (Value.bool (boolOf (p [daTask (List.getD l j zTask)]))))∧Lf [DV.one (Cell.lit (Value.bool (decide (x0≥(0:Int)))))] [DV.one (Cell.lit (Value.bool (anyI (List.length l) fun(j:Nat)=>boolOf (p [daTask (List.getD l j zTask)]))))]):=by kernel_rfl
theorem Zo60:Holds EE (60,Zk60):=by
 refine holds_of EE_ok Go.Proofs.Tryz.func60 Zk60 (by kernel_rfl) Zu60 (us_ok _) Za60 (fun x hp hb=> ?_)
 obtain⟨l,p⟩:=x
 have hl_l:l.length≤9223372036854775807:=bdL (hb _ m0)
 have hp0:∀j:Nat,j<l.length→p [daTask (List.getD l j zTask)]=some (.bool (boolOf (p [daTask (List.getD l j zTask)]))):=hp _ m0
 clear hp hb
 rw[Zv60 l p]
 dsimp only
 exact⟨hp0,Lf_b (by rw[←idxI_ge])⟩
def Zh60:HH:=⟨_,Zo60⟩
def Zk43:Con UU where
 α:=(List DTask)
 md:=[.ro]
 of:=o1 (oL .eTask)
 ds:=fun x=>[dL .eTask x]
 pre:=fun _=>[]
 res:=fun l=>⟨[.one (.lit (.bool (liveT l)))],true,[]⟩
 law:=l1 (lL .eTask)
def Zi43_2(l:(List DTask)):Int×Unit→Prop:=fun(i,_)=>0≤i∧i≤l.length∧∀j:Nat,(j:Int)<i→isOpen (List.getD l j zTask)=false
def Zm43_2(l:(List DTask)):Int×Unit→Nat:=fun(i,_)=>l.length-i.toNat
def Za43:Zk43.α→Nat→Option (Ann UU):=fun l=>annL [(2,annOf [.slot 3 (3,1024) (.lit (.int .i64))] (fun _=>Zi43_2 l) (Zm43_2 l))]
def Zu43:List (FuncId×Con UU):=[]
theorem Zv43(l:(List DTask)):goal EE Zu43 Go.Proofs.Tryz.f43 Zk43 Za43 l=(Zi43_2 l ((0:Int),())∧∀(y:Int×PUnit),Zi43_2 l y→bif decide (y.1<(l.length:Int)) then(0:Int)≤y.1∧y.1.toNat<l.length∧bif (List.getD l y.1.toNat zTask).State==(1:Int) then Lb true (liveT l) else(0:Int)≤y.1∧y.1.toNat<l.length∧bif (List.getD l y.1.toNat zTask).State==(2:Int) then Lb true (liveT l) else Zi43_2 l (IntKind.wrap IntKind.i64 (y.1+(1:Int)),())∧Zm43_2 l (IntKind.wrap IntKind.i64 (y.1+(1:Int)),())<Zm43_2 l y else Lb false (liveT l)):=by kernel_rfl
theorem Zo43:Holds EE (43,Zk43):=by
 refine holds_of EE_ok Go.Proofs.Tryz.func43 Zk43 (by kernel_rfl) Zu43 all_nil Za43 (fun(l:(List DTask)) hp hb=> ?_)
 have hl_l:l.length≤9223372036854775807:=bdL (hb _ m0)
 clear hp hb
 rw[Zv43 l]
 refine⟨⟨by omega,by omega,by intro j hj;omega⟩,?_⟩
 rintro⟨i,⟨⟩⟩ ⟨h1,h2,hR⟩
 simp only
 refine if_dec (fun hc=> ?_) (fun hc=> ?_)
 ·rw[wrap_i64 (by omega) (by omega)]
  have hY:isOpen (List.getD l i.toNat zTask)=true→liveT l=true:=fun h=>anyI_true (j:=i.toNat) (by omega) h
  refine⟨by omega,by omega,if_num (fun h=>Lf_tt (hY (by simp only[isOpen];grind))) (fun h=>⟨by omega,by omega,if_num (fun g=>Lf_tt (hY (by simp only[isOpen];grind))) (fun g=>⟨⟨by omega,by omega,upto_no (p:=fun j=>isOpen (List.getD l j zTask)) h1 hR (by simp only[isOpen];grind)⟩,by simp only[Zm43_2];omega⟩)⟩)⟩
 ·exact Lf_ff (anyI_false fun j hj=>hR j (by omega))
def Zh43:HH:=⟨_,Zo43⟩
def Zk44:Con UU where
 α:=DInst
 md:=[.ro]
 of:=o1 (oA .eInst)
 ds:=fun x=>[dA .eInst x]
 pre:=fun _=>[]
 res:=fun x=>⟨[.one (.lit (.bool (undoingX x)))],true,[]⟩
 law:=l1 (lA .eInst)
def Za44:Zk44.α→Nat→Option (Ann UU):=fun x=>annL []
def Zu44:List (FuncId×Con UU):=[]
theorem Zv44(x:DInst):goal EE Zu44 Go.Proofs.Tryz.f44 Zk44 Za44 x=(bif x.State==(3:Int) then Lb true (undoingX x) else Lb (x.State==(5:Int)) (undoingX x)):=by kernel_rfl
theorem Zo44:Holds EE (44,Zk44):=by
 refine holds_of EE_ok Go.Proofs.Tryz.func44 Zk44 (by kernel_rfl) Zu44 all_nil Za44 (fun(x:DInst) hp hb=> ?_)
 have hz0:=bd_eInst (x:=x) (hb _ m0)
 have hl_x_S_Items:=hz0.1
 have hl_x_Fired:=hz0.2.1
 have hl_x_Tasks:=hz0.2.2.1
 have hl_x_Timers:=hz0.2.2.2.1
 have hl_x_Undos:=hz0.2.2.2.2
 clear hp hb
 rw[Zv44 x]
 simp only[undoingX]
 refine if_num (fun h=>Lf_b ?_) (fun h=>Lf_b ?_)
 ·rw[decide_eq_true h,Bool.true_or]
 ·rw[decide_eq_false h,Bool.false_or]
  rw[Bool.eq_iff_iff];simp
def Zh44:HH:=⟨_,Zo44⟩
def Zk8:Con UU where
 α:=DDef×DInst
 md:=[.ro,.ro]
 of:=oC (oA .eDef) (o1 (oA .eInst))
 ds:=fun x=>[dA .eDef x.1,dA .eInst x.2]
 pre:=fun(d,x)=>[sizeDef d≤4294967295,sizeItemS x.S.Items≤4294967296]
 res:=fun(d,x)=>⟨[.one (.lit (.bool (instOk d x)))],true,[]⟩
 law:=lC (lA .eDef) (l1 (lA .eInst))
def Za8:Zk8.α→Nat→Option (Ann UU):=fun(d,x)=>annL []
def Zu8:=us [Zh35,Zh36,Zh37,Zh38,Zh39,Zh40,Zh41,Zh42,Zh43,Zh44]
theorem Zv8(d:DDef)(x:DInst):goal EE Zu8 Go.Proofs.Tryz.f8 Zk8 Za8 (d,x)=(sizeDef d≤(4294967295:Nat)∧bif !defOk d then Lb false (instOk d x) else bif !storeOk x.S then Lb false (instOk d x) else bif !tasksOk x.Tasks then Lb false (instOk d x) else bif !timersOk x.Timers then Lb false (instOk d x) else bif !undosOk x.Undos then Lb false (instOk d x) else bif !decide ((1:Int)≤x.State∧x.State≤(6:Int)) then Lb false (instOk d x) else bif !decide ((0:Int)≤x.Now∧x.Now≤(1000000000:Int)) then Lb false (instOk d x) else sizeDef d≤(4294967295:Nat)∧sizeItemS x.S.Items≤(4294967296:Nat)∧bif !firedOk d x then Lb false (instOk d x) else bif decide (x.State=(2:Int)∨x.State=(4:Int)∨x.State=(6:Int)) then bif liveT x.Tasks then Lb false (instOk d x) else bif decide ((x.Timers.length:Int)>(0:Int)) then Lb false (instOk d x) else bif !undoingX x then Lb true (instOk d x) else Lb (decide ((x.Undos.length:Int)>(0:Int))) (instOk d x) else bif !undoingX x then Lb true (instOk d x) else Lb (decide ((x.Undos.length:Int)>(0:Int))) (instOk d x)):=by kernel_rfl
theorem Zo8:Holds EE (8,Zk8):=by
 refine holds_of EE_ok Go.Proofs.Tryz.func8 Zk8 (by kernel_rfl) Zu8 (us_ok _) Za8 (fun x hp hb=> ?_)
 obtain⟨d,x⟩:=x
 have hz0:=bd_eDef (x:=d) (hb _ m0)
 have hl_d_Name:=hz0.1
 have hl_d_Rules:=hz0.2
 have hz1:=bd_eInst (x:=x) (hb _ m1)
 have hl_x_S_Items:=hz1.1
 have hl_x_Fired:=hz1.2.1
 have hl_x_Tasks:=hz1.2.2.1
 have hl_x_Timers:=hz1.2.2.2.1
 have hl_x_Undos:=hz1.2.2.2.2
 have hp0:sizeDef d≤4294967295:=hp _ m0
 have hp1:sizeItemS x.S.Items≤4294967296:=hp _ m1
 clear hp hb
 rw[Zv8 d x]
 refine⟨hp0,?_⟩
 have ht:decide ((x.Timers.length:Int)>0)=decide (0<x.Timers.length):=decide_eq_decide.2 (by omega)
 have hu:decide ((x.Undos.length:Int)>0)=decide (0<x.Undos.length):=decide_eq_decide.2 (by omega)
 simp only[instOk,endedX,ht,hu]
 repeat' (first|refine And.intro hp1 ?_|refine And.intro hp0 (And.intro hp1 ?_)|refine if_cond (fun h=> ?_) (fun h=> ?_))
 all_goals (refine Lf_b ?_;grind)
def Zh8:HH:=⟨_,Zo8⟩
def Zk11:Con UU where
 α:=DDef×DInst
 md:=[.ro,.ro]
 of:=oC (oA .eDef) (o1 (oA .eInst))
 ds:=fun x=>[dA .eDef x.1,dA .eInst x.2]
 pre:=fun(d,x)=>[sizeDef d≤4294967295,sizeItemS x.S.Items≤4294967296]
 res:=fun(d,x)=>⟨[.one (.lit (.bool (instOk d x)))],true,[]⟩
 law:=lC (lA .eDef) (l1 (lA .eInst))
def Za11:Zk11.α→Nat→Option (Ann UU):=fun(d,x)=>annL []
def Zu11:=us [Zh51,Zh52,Zh53,Zh54,Zh55,Zh56,Zh57,Zh58,Zh59,Zh60,Zh61]
theorem Zv11(d:DDef)(x:DInst):goal EE Zu11 Go.Proofs.Tryz.f11 Zk11 Za11 (d,x)=(bif !defOk d then Lb false (instOk d x) else bif !storeOk x.S then Lb false (instOk d x) else bif !tasksOk x.Tasks then Lb false (instOk d x) else bif !timersOk x.Timers then Lb false (instOk d x) else bif !undosOk x.Undos then Lb false (instOk d x) else bif !decide ((1:Int)≤x.State∧x.State≤(6:Int)) then Lb false (instOk d x) else bif !decide ((0:Int)≤x.Now∧x.Now≤(1000000000:Int)) then Lb false (instOk d x) else sizeDef d≤(4294967295:Nat)∧sizeItemS x.S.Items≤(4294967296:Nat)∧bif !firedOk d x then Lb false (instOk d x) else bif x.State==(3:Int) then Lb (decide ((x.Undos.length:Int)>(0:Int))) (instOk d x) else bif x.State==(5:Int) then Lb (decide ((x.Undos.length:Int)>(0:Int))) (instOk d x) else bif !decide (x.State=(2:Int)∨x.State=(4:Int)∨x.State=(6:Int)) then Lb true (instOk d x) else bif (x.Timers.length:Int)==(0:Int) then(∀(j:Nat),j<x.Tasks.length→closP Zk61 [] [daTask (List.getD x.Tasks j zTask)]=some (Value.bool (boolOf (closP Zk61 [] [daTask (List.getD x.Tasks j zTask)]))))∧Lb (!anyI (x.Tasks.length) fun(j:Nat)=>boolOf (closP Zk61 [] [daTask (List.getD x.Tasks j zTask)])) (instOk d x) else Lb false (instOk d x)):=by kernel_rfl
theorem Zo11:Holds EE (11,Zk11):=by
 refine holds_of EE_ok Go.Proofs.Tryz.func11 Zk11 (by kernel_rfl) Zu11 (us_ok _) Za11 (fun x hp hb=> ?_)
 obtain⟨d,x⟩:=x
 have hb_d:BdDV (U:=UU) (.agg [.lit (.string d.Name),.sl .eRule d.Rules]):=hb _ m0
 have hz0:=bd_eDef (x:=d) (hb _ m0)
 have hl_d_Name:=hz0.1
 have hl_d_Rules:=hz0.2
 have hb_x:BdDV (U:=UU) (.agg [.sl .eItem x.S.Items,.lit (.int .i64 x.S.Next),.sl .eMatch x.Fired,.sl .eTask x.Tasks,.sl .eTimer x.Timers,.sl .eUndo x.Undos,.lit (.int .i64 x.State),.lit (.int .i64 x.Now)]):=hb _ m1
 have hz1:=bd_eInst (x:=x) (hb _ m1)
 have hl_x_S_Items:=hz1.1
 have hl_x_Fired:=hz1.2.1
 have hl_x_Tasks:=hz1.2.2.1
 have hl_x_Timers:=hz1.2.2.2.1
 have hl_x_Undos:=hz1.2.2.2.2
 have hp0:sizeDef d≤4294967295:=hp _ m0
 have hp1:sizeItemS x.S.Items≤4294967296:=hp _ m1
 clear hp hb
 rw[Zv11 d x]
 have hc:∀t:DTask,closP Zk61 [] [daTask t]=some (.bool (isOpen t)):=fun t=>closP_of (x:=t) rfl rfl rfl rfl (by simp[Zk61])
 have hl:(anyI x.Tasks.length fun j=>boolOf (closP Zk61 [] [daTask (List.getD x.Tasks j zTask)]))=liveT x.Tasks:=anyI_congr fun j hj=>by rw[hc];rfl
 have hcl:∀j:Nat,j<x.Tasks.length→closP Zk61 [] [daTask (List.getD x.Tasks j zTask)]=some (.bool (boolOf (closP Zk61 [] [daTask (List.getD x.Tasks j zTask)]))):=fun j hj=>by rw[hc];rfl
 have ht:((x.Timers.length:Int)==0)= !decide (0<x.Timers.length):=by rw[Bool.eq_iff_iff];simp
 have hu:decide ((x.Undos.length:Int)>0)=decide (0<x.Undos.length):=decide_eq_decide.2 (by omega)
 have h3:(x.State==3)=decide (x.State=3):=by rw[Bool.eq_iff_iff];simp
 have h5:(x.State==5)=decide (x.State=5):=by rw[Bool.eq_iff_iff];simp
 simp only[instOk,endedX,undoingX,ht,hu,h3,h5,hl]
 repeat' (first|refine And.intro hcl ?_|refine And.intro hp0 (And.intro hp1 ?_)|refine And.intro hp1 ?_|refine if_cond (fun h=> ?_) (fun h=> ?_))
 all_goals (refine Lf_b ?_;clear hcl hc hl ht hu h3 h5 hb_d hb_x;grind)
def Zh11:HH:=⟨_,Zo11⟩
def daDef(x:DDef):DA UU:=⟨true,[.lit (.string x.Name),.sl .eRule x.Rules]⟩
def daWork(x:DWork):DA UU:=⟨true,[.lit (.string x.Name),.lit (.string x.Def),.sl .eItem x.X.S.Items,.lit (.int .i64 x.X.S.Next),.sl .eMatch x.X.Fired,.sl .eTask x.X.Tasks,.sl .eTimer x.X.Timers,.sl .eUndo x.X.Undos,.lit (.int .i64 x.X.State),.lit (.int .i64 x.X.Now)]⟩
def defAt(l:List DDef)(name:ByteArray):Int:=idxI l.length fun k=>decide ((List.getD l k zDef).Name=name)
def workAt(l:List DWork)(name:ByteArray):Int:=idxI l.length fun k=>decide ((List.getD l k zWork).Name=name)
def Zk136:Con UU where
 α:=(List DDef)×(List (DA UU)→Option Value)
 md:=[.ro,.ro]
 of:=oC (oL .eDef) (o1 oF)
 ds:=fun x=>[dL .eDef x.1,dF x.2]
 pre:=fun(l,p)=>[∀j:Nat,j<l.length→p [daDef (List.getD l j zDef)]=some (.bool (boolOf (p [daDef (List.getD l j zDef)])))]
 res:=fun(l,p)=>⟨[.one (.lit (.int .i64 (idxI l.length (fun j=>boolOf (p [daDef (List.getD l j zDef)])))))],true,[]⟩
 law:=lC (lL .eDef) (l1 lF)
def Zi136_2(l:(List DDef))(p:(List (DA UU)→Option Value)):Int×Unit→Prop:=fun(i,_)=>0≤i∧i≤l.length∧∀j:Nat,(j:Int)<i→boolOf (p [daDef (List.getD l j zDef)])=false
def Zm136_2(l:(List DDef))(p:(List (DA UU)→Option Value)):Int×Unit→Nat:=fun(i,_)=>l.length-i.toNat
def Za136:Zk136.α→Nat→Option (Ann UU):=fun(l,p)=>annL [(2,annOf [.slot 8 (8,1024) (.lit (.int .i64))] (fun _=>Zi136_2 l p) (Zm136_2 l p))]
def Zu136:List (FuncId×Con UU):=[]
theorem Zv136(l:(List DDef))(p:(List (DA UU)→Option Value)):goal EE Zu136 Go.Proofs.Tryz.f136 Zk136 Za136 (l,p)=(Zi136_2 l p ((0:Int),())∧
 ∀(y:Int×PUnit),
  let x0:Bool:=boolOf (p [{agg:=true,cs:=[Cell.lit (Value.string (List.getD l (Int.toNat y.1) zDef).Name),Cell.sl Cd.eRule (List.getD l (Int.toNat y.1) zDef).Rules]:DA UU}]);
  Zi136_2 l p y→bif decide (y.1<(↑(List.length l):Int)) then(0:Int)≤y.1∧Int.toNat y.1<List.length l∧p [{agg:=true,cs:=[Cell.lit (Value.string (List.getD l (Int.toNat y.1) zDef).Name),Cell.sl Cd.eRule (List.getD l (Int.toNat y.1) zDef).Rules]:DA UU}]=some (Value.bool x0)∧bif x0 then Lf [DV.one (Cell.lit (Value.int IntKind.i64 y.1))] [DV.one (Cell.lit (Value.int IntKind.i64 (idxI (List.length l) fun(j:Nat)=>boolOf (p [daDef (List.getD l j zDef)]))))] else Zi136_2 l p (IntKind.wrap IntKind.i64 (y.1+(1:Int)),PUnit.unit)∧Zm136_2 l p (IntKind.wrap IntKind.i64 (y.1+(1:Int)),PUnit.unit)<Zm136_2 l p y else Lf [DV.one (Cell.lit (Value.int IntKind.i64 (-1:Int)))] [DV.one (Cell.lit (Value.int IntKind.i64 (idxI (List.length l) fun(j:Nat)=>boolOf (p [daDef (List.getD l j zDef)]))))]):=by kernel_rfl
theorem Zo136:Holds EE (136,Zk136):=by
 refine holds_of EE_ok Go.Proofs.Tryz.func136 Zk136 (by kernel_rfl) Zu136 all_nil Za136 (fun x hp hb=> ?_)
 obtain⟨l,p⟩:=x
 have hl_l:l.length≤9223372036854775807:=bdL (hb _ m0)
 have hp0:∀j:Nat,j<l.length→p [daDef (List.getD l j zDef)]=some (.bool (boolOf (p [daDef (List.getD l j zDef)]))):=hp _ m0
 clear hp hb
 rw[Zv136 l p]
 dsimp only
 refine⟨⟨by omega,by omega,by intro j hj;omega⟩,?_⟩
 rintro⟨i,⟨⟩⟩ ⟨h1,h2,hR⟩
 simp only[daDef] at*
 refine if_cond (fun hc=> ?_) (fun hc=> ?_)
 ·have hc:=of_decide_eq_true hc
  rw[wrap_i64 (by omega) (by omega)]
  refine⟨by omega,by omega,hp0 i.toNat (by omega),if_cond (fun h=>Lf_i ?_) (fun h=>⟨⟨by omega,by omega,upto_no (p:=fun j=>boolOf (p [daDef (List.getD l j zDef)])) h1 hR h⟩,by simp only[Zm136_2];omega⟩)⟩
  rw[idxI_found (i:=i.toNat) (by omega) h (fun j hj=>hR j (by omega))]
  omega
 ·have hc:=of_decide_eq_false hc
  exact Lf_i (idxI_none (fun j hj=>hR j (by omega))).symm
def Zh136:HH:=⟨_,Zo136⟩
def Zk137:Con UU where
 α:=DDef×ByteArray
 md:=[.ro,.ro]
 of:=fun|[.agg [.lit (.string a0),.sl .eRule a1],.ptr [.lit (.string a2)]]=>some (⟨a0,a1⟩,a2)|_=>none
 ds:=fun(d,name)=>[.agg [.lit (.string d.Name),.sl .eRule d.Rules],.ptr [.lit (.string name)]]
 pre:=fun(d,name)=>[]
 res:=fun(d,name)=>⟨[.one (.lit (.bool (decide (d.Name=name))))],true,[]⟩
 law:=by intro l x h;(try simp only at h);split at h<;>cases h;rfl
def Za137:Zk137.α→Nat→Option (Ann UU):=fun(d,name)=>annL []
def Zu137:List (FuncId×Con UU):=[]
theorem Zv137(d:DDef)(name:ByteArray):goal EE Zu137 Go.Proofs.Tryz.f137 Zk137 Za137 (d,name)=(Lb (ByteArray.toList d.Name==ByteArray.toList name) (decide (d.Name=name))):=by kernel_rfl
theorem Zo137:Holds EE (137,Zk137):=by
 refine holds_of EE_ok Go.Proofs.Tryz.func137 Zk137 (by kernel_rfl) Zu137 all_nil Za137 (fun x hp hb=> ?_)
 obtain⟨d,name⟩:=x
 have hb_d:BdDV (U:=UU) (.agg [.lit (.string d.Name),.sl .eRule d.Rules]):=hb _ (List.mem_cons_self)
 have hl_d_Name:d.Name.size≤9223372036854775807:=Bd.str (hb_d _ (by simp))
 have hl_d_Rules:d.Rules.length≤9223372036854775807:=Bd.len (U:=UU) (τ:=.eRule) (xs:=d.Rules) (hb_d _ (by simp))
 have hb_name:BdDV (U:=UU) (.ptr [.lit (.string name)]):=hb _ (List.mem_cons_of_mem _ (List.mem_cons_self))
 have hl_name:name.size≤9223372036854775807:=Bd.str (hb_name _ (by simp))
 clear hp hb
 rw[Zv137 d name]
 rw[toList_beq]
 exact Lf_rfl _
def Zh137:HH:=⟨_,Zo137⟩
def Zk75:Con UU where
 α:=DBook×ByteArray
 md:=[.ro,.ro]
 of:=oC (oA .eBook) (o1 oS)
 ds:=fun x=>[dA .eBook x.1,dS x.2]
 pre:=fun _=>[]
 res:=fun(b,name)=>⟨[.one (.lit (.int .i64 (defAt b.Defs name)))],true,[]⟩
 law:=lC (lA .eBook) (l1 lS)
def Za75:Zk75.α→Nat→Option (Ann UU):=fun(b,name)=>annL []
def Zu75:=us [Zh136,Zh137]
theorem Zv75(b:DBook)(name:ByteArray):goal EE Zu75 Go.Proofs.Tryz.f75 Zk75 Za75 (b,name)=((∀(j:Nat),j<b.Defs.length→closP Zk137 [DV.ptr [Cell.lit (Value.string name)]] [daDef (List.getD b.Defs j zDef)]=some (Value.bool (boolOf (closP Zk137 [DV.ptr [Cell.lit (Value.string name)]] [daDef (List.getD b.Defs j zDef)]))))∧Li (idxI (b.Defs.length) fun(j:Nat)=>boolOf (closP Zk137 [DV.ptr [Cell.lit (Value.string name)]] [daDef (List.getD b.Defs j zDef)])) (defAt b.Defs name)):=by kernel_rfl
theorem Zo75:Holds EE (75,Zk75):=by
 refine holds_of EE_ok Go.Proofs.Tryz.func75 Zk75 (by kernel_rfl) Zu75 (us_ok _) Za75 (fun x hp hb=> ?_)
 obtain⟨b,name⟩:=x
 have hz0:=bd_eBook (x:=b) (hb _ m0)
 have hl_b_Defs:=hz0.1
 have hl_b_Works:=hz0.2
 have hl_name:=bdS (s:=name) (hb _ m1)
 clear hp hb
 rw[Zv75 b name]
 have hc:∀x:DDef,closP Zk137 [.ptr [.lit (.string name)]] [daDef x]=some (.bool (decide (x.Name=name))):=fun x=>closP_of (x:=(x,name)) rfl rfl rfl rfl (by simp[Zk137])
 refine⟨fun j hj=> ?_,Lf_i ?_⟩
 ·show closP Zk137 [.ptr [.lit (.string name)]] [daDef (List.getD b.Defs j zDef)]=_
  rw[hc];rfl
 ·exact idxI_congr fun j hj=>by
   show boolOf (closP Zk137 [.ptr [.lit (.string name)]] [daDef (List.getD b.Defs j zDef)])=_
   rw[hc];rfl
def Zh75:HH:=⟨_,Zo75⟩
def Zk70:Con UU where
 α:=DBook×ByteArray
 md:=[.ro,.ro]
 of:=oC (oA .eBook) (o1 oS)
 ds:=fun x=>[dA .eBook x.1,dS x.2]
 pre:=fun _=>[]
 res:=fun(b,name)=>⟨[.one (.lit (.int .i64 (defAt b.Defs name)))],true,[]⟩
 law:=lC (lA .eBook) (l1 lS)
def Zi70_2(b:DBook)(name:ByteArray):Int×(List DDef×List DWork×Int×Int×Unit)×Unit→Prop:=fun(i,fb,_)=>fb=(b.Defs,b.Works,b.Now,b.Ring,())∧0≤i∧i≤b.Defs.length∧∀j:Nat,(j:Int)<i→decide ((List.getD b.Defs j zDef).Name=name)=false
def Zm70_2(b:DBook)(name:ByteArray):Int×(List DDef×List DWork×Int×Int×Unit)×Unit→Nat:=fun(i,fb,_)=>b.Defs.length-i.toNat
def Za70:Zk70.α→Nat→Option (Ann UU):=fun(b,name)=>annL [(2,annOf [.slot 5 (5,1024) (.lit (.int .i64)),.box 2 (2,1024) [.shr .eDef,.shr .eWork,.lit (.int .i64),.lit (.int .i64)]] (fun _=>Zi70_2 b name) (Zm70_2 b name))]
def Zu70:List (FuncId×Con UU):=[]
theorem Zv70(b:DBook)(name:ByteArray):goal EE Zu70 Go.Proofs.Tryz.f70 Zk70 Za70 (b,name)=(Zi70_2 b name ((0:Int),(b.Defs,b.Works,b.Now,b.Ring,()),())∧
 ∀(y:Int×(List DDef×List DWork×Int×Int×PUnit)×PUnit),
  let x1:Nat:=List.length y.2.1.1;
  let x0:Int:=(↑x1:Int);
  Zi70_2 b name y→bif decide (y.1<x0) then(0:Int)≤y.1∧Int.toNat y.1<x1∧bif ByteArray.toList (List.getD y.2.1.1 (Int.toNat y.1) zDef).Name==ByteArray.toList name then Lf [DV.one (Cell.lit (Value.int IntKind.i64 y.1))] [DV.one (Cell.lit (Value.int IntKind.i64 (defAt b.Defs name)))] else Zi70_2 b name (IntKind.wrap IntKind.i64 (y.1+(1:Int)),(y.2.1.1,y.2.1.2.1,y.2.1.2.2.1,y.2.1.2.2.2.1,PUnit.unit),PUnit.unit)∧Zm70_2 b name (IntKind.wrap IntKind.i64 (y.1+(1:Int)),(y.2.1.1,y.2.1.2.1,y.2.1.2.2.1,y.2.1.2.2.2.1,PUnit.unit),PUnit.unit)<Zm70_2 b name y else Lf [DV.one (Cell.lit (Value.int IntKind.i64 (-1:Int)))] [DV.one (Cell.lit (Value.int IntKind.i64 (defAt b.Defs name)))]):=by kernel_rfl
theorem Zo70:Holds EE (70,Zk70):=by
 refine holds_of EE_ok Go.Proofs.Tryz.func70 Zk70 (by kernel_rfl) Zu70 all_nil Za70 (fun x hp hb=> ?_)
 obtain⟨b,name⟩:=x
 have hz0:=bd_eBook (x:=b) (hb _ m0)
 have hl_b_Defs:=hz0.1
 have hl_b_Works:=hz0.2
 have hl_name:=bdS (s:=name) (hb _ m1)
 clear hp hb
 rw[Zv70 b name]
 dsimp only
 refine⟨⟨rfl,by omega,by omega,by intro j hj;omega⟩,?_⟩
 rintro⟨i,fb,⟨⟩⟩ ⟨rfl,h1,h2,hR⟩
 simp only
 refine if_cond (fun hc=> ?_) (fun hc=> ?_)
 ·have hc:i<b.Defs.length:=of_decide_eq_true hc
  simp(disch:=omega) only[wrap_i64,toList_beq]
  refine⟨by omega,by omega,if_cond (fun h=>Lf_i ?_) (fun h=>⟨⟨rfl,by omega,by omega,upto_no (p:=fun j=>decide ((List.getD b.Defs j zDef).Name=name)) h1 hR h⟩,by simp only[Zm70_2];omega⟩)⟩
  rw[defAt,idxI_found (i:=i.toNat) (by omega) h (fun j hj=>hR j (by omega))]
  omega
 ·have hc:¬i<b.Defs.length:=of_decide_eq_false hc
  exact Lf_i (idxI_none (fun j hj=>hR j (by omega))).symm
def Zh70:HH:=⟨_,Zo70⟩
def Zk140:Con UU where
 α:=(List DWork)×(List (DA UU)→Option Value)
 md:=[.ro,.ro]
 of:=oC (oL .eWork) (o1 oF)
 ds:=fun x=>[dL .eWork x.1,dF x.2]
 pre:=fun(l,p)=>[∀j:Nat,j<l.length→p [daWork (List.getD l j zWork)]=some (.bool (boolOf (p [daWork (List.getD l j zWork)])))]
 res:=fun(l,p)=>⟨[.one (.lit (.int .i64 (idxI l.length (fun j=>boolOf (p [daWork (List.getD l j zWork)])))))],true,[]⟩
 law:=lC (lL .eWork) (l1 lF)
def Zi140_2(l:(List DWork))(p:(List (DA UU)→Option Value)):Int×Unit→Prop:=fun(i,_)=>0≤i∧i≤l.length∧∀j:Nat,(j:Int)<i→boolOf (p [daWork (List.getD l j zWork)])=false
def Zm140_2(l:(List DWork))(p:(List (DA UU)→Option Value)):Int×Unit→Nat:=fun(i,_)=>l.length-i.toNat
def Za140:Zk140.α→Nat→Option (Ann UU):=fun(l,p)=>annL [(2,annOf [.slot 8 (8,1024) (.lit (.int .i64))] (fun _=>Zi140_2 l p) (Zm140_2 l p))]
def Zu140:List (FuncId×Con UU):=[]
theorem Zv140(l:(List DWork))(p:(List (DA UU)→Option Value)):goal EE Zu140 Go.Proofs.Tryz.f140 Zk140 Za140 (l,p)=(Zi140_2 l p ((0:Int),())∧
 ∀(y:Int×PUnit),
  let x2:DWork:=List.getD l (Int.toNat y.1) zWork;
  let x1:DInst:=x2.X;
  let x0:Bool:=boolOf (p [{agg:=true,cs:=[Cell.lit (Value.string x2.Name),Cell.lit (Value.string x2.Def),Cell.sl Cd.eItem x1.S.Items,Cell.lit (Value.int IntKind.i64 x1.S.Next),Cell.sl Cd.eMatch x1.Fired,Cell.sl Cd.eTask x1.Tasks,Cell.sl Cd.eTimer x1.Timers,Cell.sl Cd.eUndo x1.Undos,Cell.lit (Value.int IntKind.i64 x1.State),Cell.lit (Value.int IntKind.i64 x1.Now)]:DA UU}]);
  Zi140_2 l p y→bif decide (y.1<(↑(List.length l):Int)) then(0:Int)≤y.1∧Int.toNat y.1<List.length l∧p [{agg:=true,cs:=[Cell.lit (Value.string x2.Name),Cell.lit (Value.string x2.Def),Cell.sl Cd.eItem x1.S.Items,Cell.lit (Value.int IntKind.i64 x1.S.Next),Cell.sl Cd.eMatch x1.Fired,Cell.sl Cd.eTask x1.Tasks,Cell.sl Cd.eTimer x1.Timers,Cell.sl Cd.eUndo x1.Undos,Cell.lit (Value.int IntKind.i64 x1.State),Cell.lit (Value.int IntKind.i64 x1.Now)]:DA UU}]=some (Value.bool x0)∧bif x0 then Lf [DV.one (Cell.lit (Value.int IntKind.i64 y.1))] [DV.one (Cell.lit (Value.int IntKind.i64 (idxI (List.length l) fun(j:Nat)=>boolOf (p [daWork (List.getD l j zWork)]))))] else Zi140_2 l p (IntKind.wrap IntKind.i64 (y.1+(1:Int)),PUnit.unit)∧Zm140_2 l p (IntKind.wrap IntKind.i64 (y.1+(1:Int)),PUnit.unit)<Zm140_2 l p y else Lf [DV.one (Cell.lit (Value.int IntKind.i64 (-1:Int)))] [DV.one (Cell.lit (Value.int IntKind.i64 (idxI (List.length l) fun(j:Nat)=>boolOf (p [daWork (List.getD l j zWork)]))))]):=by kernel_rfl
theorem Zo140:Holds EE (140,Zk140):=by
 refine holds_of EE_ok Go.Proofs.Tryz.func140 Zk140 (by kernel_rfl) Zu140 all_nil Za140 (fun x hp hb=> ?_)
 obtain⟨l,p⟩:=x
 have hl_l:l.length≤9223372036854775807:=bdL (hb _ m0)
 have hp0:∀j:Nat,j<l.length→p [daWork (List.getD l j zWork)]=some (.bool (boolOf (p [daWork (List.getD l j zWork)]))):=hp _ m0
 clear hp hb
 rw[Zv140 l p]
 dsimp only
 refine⟨⟨by omega,by omega,by intro j hj;omega⟩,?_⟩
 rintro⟨i,⟨⟩⟩ ⟨h1,h2,hR⟩
 simp only[daWork] at*
 refine if_cond (fun hc=> ?_) (fun hc=> ?_)
 ·have hc:=of_decide_eq_true hc
  rw[wrap_i64 (by omega) (by omega)]
  refine⟨by omega,by omega,hp0 i.toNat (by omega),if_cond (fun h=>Lf_i ?_) (fun h=>⟨⟨by omega,by omega,upto_no (p:=fun j=>boolOf (p [daWork (List.getD l j zWork)])) h1 hR h⟩,by simp only[Zm140_2];omega⟩)⟩
  rw[idxI_found (i:=i.toNat) (by omega) h (fun j hj=>hR j (by omega))]
  omega
 ·have hc:=of_decide_eq_false hc
  exact Lf_i (idxI_none (fun j hj=>hR j (by omega))).symm
def Zh140:HH:=⟨_,Zo140⟩
def Zk141:Con UU where
 α:=DWork×ByteArray
 md:=[.ro,.ro]
 of:=fun|[.agg [.lit (.string a0),.lit (.string a1),.sl .eItem a2,.lit (.int .i64 a3),.sl .eMatch a4,.sl .eTask a5,.sl .eTimer a6,.sl .eUndo a7,.lit (.int .i64 a8),.lit (.int .i64 a9)],.ptr [.lit (.string a10)]]=>some (⟨a0,a1,⟨⟨a2,a3⟩,a4,a5,a6,a7,a8,a9⟩⟩,a10)|_=>none
 ds:=fun(d,name)=>[.agg [.lit (.string d.Name),.lit (.string d.Def),.sl .eItem d.X.S.Items,.lit (.int .i64 d.X.S.Next),.sl .eMatch d.X.Fired,.sl .eTask d.X.Tasks,.sl .eTimer d.X.Timers,.sl .eUndo d.X.Undos,.lit (.int .i64 d.X.State),.lit (.int .i64 d.X.Now)],.ptr [.lit (.string name)]]
 pre:=fun(d,name)=>[]
 res:=fun(d,name)=>⟨[.one (.lit (.bool (decide (d.Name=name))))],true,[]⟩
 law:=by intro l x h;(try simp only at h);split at h<;>cases h;rfl
def Za141:Zk141.α→Nat→Option (Ann UU):=fun(d,name)=>annL []
def Zu141:List (FuncId×Con UU):=[]
theorem Zv141(d:DWork)(name:ByteArray):goal EE Zu141 Go.Proofs.Tryz.f141 Zk141 Za141 (d,name)=(Lb (ByteArray.toList d.Name==ByteArray.toList name) (decide (d.Name=name))):=by kernel_rfl
theorem Zo141:Holds EE (141,Zk141):=by
 refine holds_of EE_ok Go.Proofs.Tryz.func141 Zk141 (by kernel_rfl) Zu141 all_nil Za141 (fun x hp hb=> ?_)
 obtain⟨d,name⟩:=x
 have hb_d:BdDV (U:=UU) (.agg [.lit (.string d.Name),.lit (.string d.Def),.sl .eItem d.X.S.Items,.lit (.int .i64 d.X.S.Next),.sl .eMatch d.X.Fired,.sl .eTask d.X.Tasks,.sl .eTimer d.X.Timers,.sl .eUndo d.X.Undos,.lit (.int .i64 d.X.State),.lit (.int .i64 d.X.Now)]):=hb _ (List.mem_cons_self)
 have hl_d_Name:d.Name.size≤9223372036854775807:=Bd.str (hb_d _ (by simp))
 have hl_d_Def:d.Def.size≤9223372036854775807:=Bd.str (hb_d _ (by simp))
 have hl_d_X_S_Items:d.X.S.Items.length≤9223372036854775807:=Bd.len (U:=UU) (τ:=.eItem) (xs:=d.X.S.Items) (hb_d _ (by simp))
 have hl_d_X_Fired:d.X.Fired.length≤9223372036854775807:=Bd.len (U:=UU) (τ:=.eMatch) (xs:=d.X.Fired) (hb_d _ (by simp))
 have hl_d_X_Tasks:d.X.Tasks.length≤9223372036854775807:=Bd.len (U:=UU) (τ:=.eTask) (xs:=d.X.Tasks) (hb_d _ (by simp))
 have hl_d_X_Timers:d.X.Timers.length≤9223372036854775807:=Bd.len (U:=UU) (τ:=.eTimer) (xs:=d.X.Timers) (hb_d _ (by simp))
 have hl_d_X_Undos:d.X.Undos.length≤9223372036854775807:=Bd.len (U:=UU) (τ:=.eUndo) (xs:=d.X.Undos) (hb_d _ (by simp))
 have hb_name:BdDV (U:=UU) (.ptr [.lit (.string name)]):=hb _ (List.mem_cons_of_mem _ (List.mem_cons_self))
 have hl_name:name.size≤9223372036854775807:=Bd.str (hb_name _ (by simp))
 clear hp hb
 rw[Zv141 d name]
 rw[toList_beq]
 exact Lf_rfl _
def Zh141:HH:=⟨_,Zo141⟩
def Zk77:Con UU where
 α:=DBook×ByteArray
 md:=[.ro,.ro]
 of:=oC (oA .eBook) (o1 oS)
 ds:=fun x=>[dA .eBook x.1,dS x.2]
 pre:=fun _=>[]
 res:=fun(b,name)=>⟨[.one (.lit (.int .i64 (workAt b.Works name)))],true,[]⟩
 law:=lC (lA .eBook) (l1 lS)
def Za77:Zk77.α→Nat→Option (Ann UU):=fun(b,name)=>annL []
def Zu77:=us [Zh140,Zh141]
theorem Zv77(b:DBook)(name:ByteArray):goal EE Zu77 Go.Proofs.Tryz.f77 Zk77 Za77 (b,name)=((∀(j:Nat),j<b.Works.length→closP Zk141 [DV.ptr [Cell.lit (Value.string name)]] [daWork (List.getD b.Works j zWork)]=some (Value.bool (boolOf (closP Zk141 [DV.ptr [Cell.lit (Value.string name)]] [daWork (List.getD b.Works j zWork)]))))∧Li (idxI (b.Works.length) fun(j:Nat)=>boolOf (closP Zk141 [DV.ptr [Cell.lit (Value.string name)]] [daWork (List.getD b.Works j zWork)])) (workAt b.Works name)):=by kernel_rfl
theorem Zo77:Holds EE (77,Zk77):=by
 refine holds_of EE_ok Go.Proofs.Tryz.func77 Zk77 (by kernel_rfl) Zu77 (us_ok _) Za77 (fun x hp hb=> ?_)
 obtain⟨b,name⟩:=x
 have hz0:=bd_eBook (x:=b) (hb _ m0)
 have hl_b_Defs:=hz0.1
 have hl_b_Works:=hz0.2
 have hl_name:=bdS (s:=name) (hb _ m1)
 clear hp hb
 rw[Zv77 b name]
 have hc:∀x:DWork,closP Zk141 [.ptr [.lit (.string name)]] [daWork x]=some (.bool (decide (x.Name=name))):=fun x=>closP_of (x:=(x,name)) rfl rfl rfl rfl (by simp[Zk141])
 refine⟨fun j hj=> ?_,Lf_i ?_⟩
 ·show closP Zk141 [.ptr [.lit (.string name)]] [daWork (List.getD b.Works j zWork)]=_
  rw[hc];rfl
 ·exact idxI_congr fun j hj=>by
   show boolOf (closP Zk141 [.ptr [.lit (.string name)]] [daWork (List.getD b.Works j zWork)])=_
   rw[hc];rfl
def Zh77:HH:=⟨_,Zo77⟩
def Zk72:Con UU where
 α:=DBook×ByteArray
 md:=[.ro,.ro]
 of:=oC (oA .eBook) (o1 oS)
 ds:=fun x=>[dA .eBook x.1,dS x.2]
 pre:=fun _=>[]
 res:=fun(b,name)=>⟨[.one (.lit (.int .i64 (workAt b.Works name)))],true,[]⟩
 law:=lC (lA .eBook) (l1 lS)
def Zi72_2(b:DBook)(name:ByteArray):Int×(List DDef×List DWork×Int×Int×Unit)×Unit→Prop:=fun(i,fb,_)=>fb=(b.Defs,b.Works,b.Now,b.Ring,())∧0≤i∧i≤b.Works.length∧∀j:Nat,(j:Int)<i→decide ((List.getD b.Works j zWork).Name=name)=false
def Zm72_2(b:DBook)(name:ByteArray):Int×(List DDef×List DWork×Int×Int×Unit)×Unit→Nat:=fun(i,fb,_)=>b.Works.length-i.toNat
def Za72:Zk72.α→Nat→Option (Ann UU):=fun(b,name)=>annL [(2,annOf [.slot 5 (5,1024) (.lit (.int .i64)),.box 2 (2,1024) [.shr .eDef,.shr .eWork,.lit (.int .i64),.lit (.int .i64)]] (fun _=>Zi72_2 b name) (Zm72_2 b name))]
def Zu72:List (FuncId×Con UU):=[]
theorem Zv72(b:DBook)(name:ByteArray):goal EE Zu72 Go.Proofs.Tryz.f72 Zk72 Za72 (b,name)=(Zi72_2 b name ((0:Int),(b.Defs,b.Works,b.Now,b.Ring,()),())∧
 ∀(y:Int×(List DDef×List DWork×Int×Int×PUnit)×PUnit),
  let x1:Nat:=List.length y.2.1.2.1;
  let x0:Int:=(↑x1:Int);
  Zi72_2 b name y→bif decide (y.1<x0) then(0:Int)≤y.1∧Int.toNat y.1<x1∧bif ByteArray.toList (List.getD y.2.1.2.1 (Int.toNat y.1) zWork).Name==ByteArray.toList name then Lf [DV.one (Cell.lit (Value.int IntKind.i64 y.1))] [DV.one (Cell.lit (Value.int IntKind.i64 (workAt b.Works name)))] else Zi72_2 b name (IntKind.wrap IntKind.i64 (y.1+(1:Int)),(y.2.1.1,y.2.1.2.1,y.2.1.2.2.1,y.2.1.2.2.2.1,PUnit.unit),PUnit.unit)∧Zm72_2 b name (IntKind.wrap IntKind.i64 (y.1+(1:Int)),(y.2.1.1,y.2.1.2.1,y.2.1.2.2.1,y.2.1.2.2.2.1,PUnit.unit),PUnit.unit)<Zm72_2 b name y else Lf [DV.one (Cell.lit (Value.int IntKind.i64 (-1:Int)))] [DV.one (Cell.lit (Value.int IntKind.i64 (workAt b.Works name)))]):=by kernel_rfl
theorem Zo72:Holds EE (72,Zk72):=by
 refine holds_of EE_ok Go.Proofs.Tryz.func72 Zk72 (by kernel_rfl) Zu72 all_nil Za72 (fun x hp hb=> ?_)
 obtain⟨b,name⟩:=x
 have hz0:=bd_eBook (x:=b) (hb _ m0)
 have hl_b_Defs:=hz0.1
 have hl_b_Works:=hz0.2
 have hl_name:=bdS (s:=name) (hb _ m1)
 clear hp hb
 rw[Zv72 b name]
 dsimp only
 refine⟨⟨rfl,by omega,by omega,by intro j hj;omega⟩,?_⟩
 rintro⟨i,fb,⟨⟩⟩ ⟨rfl,h1,h2,hR⟩
 simp only
 refine if_cond (fun hc=> ?_) (fun hc=> ?_)
 ·have hc:i<b.Works.length:=of_decide_eq_true hc
  simp(disch:=omega) only[wrap_i64,toList_beq]
  refine⟨by omega,by omega,if_cond (fun h=>Lf_i ?_) (fun h=>⟨⟨rfl,by omega,by omega,upto_no (p:=fun j=>decide ((List.getD b.Works j zWork).Name=name)) h1 hR h⟩,by simp only[Zm72_2];omega⟩)⟩
  rw[workAt,idxI_found (i:=i.toNat) (by omega) h (fun j hj=>hR j (by omega))]
  omega
 ·have hc:¬i<b.Works.length:=of_decide_eq_false hc
  exact Lf_i (idxI_none (fun j hj=>hR j (by omega))).symm
def Zh72:HH:=⟨_,Zo72⟩
def bookDef(b:DBook)(i:Nat):Bool:=defOk (List.getD b.Defs i zDef)&&decide (defAt b.Defs (List.getD b.Defs i zDef).Name=i)
def defIx(b:DBook)(i:Nat):Int:=defAt b.Defs (List.getD b.Works i zWork).Def
def bookWork(b:DBook)(i:Nat):Bool:=nameOk (List.getD b.Works i zWork).Name&&decide (workAt b.Works (List.getD b.Works i zWork).Name=i)&&decide (0≤defIx b i)&&decide ((List.getD b.Works i zWork).X.Now≤b.Now)&&instOk (List.getD b.Defs (defIx b i).toNat zDef) (List.getD b.Works i zWork).X
def bookOk(b:DBook):Bool:=decide (b.Defs.length≤8)&&decide (b.Works.length≤10)&&decide (0≤b.Now∧b.Now≤1000000000)&&decide (0≤b.Ring∧b.Ring≤(b.Works.length:Int))&&allI b.Defs.length (bookDef b)&&allI b.Works.length (bookWork b)
theorem defAt_lt{l:List DDef}{name:ByteArray}(h:0≤defAt l name):(defAt l name).toNat<l.length:=by
 unfold defAt at h⊢
 rcases idxI_cases l.length (fun k=>decide ((List.getD l k zDef).Name=name)) with⟨h1,_⟩|⟨i,h1,h2,_⟩
 ·rw[h1] at h;omega
 ·rw[h2];omega
theorem def_size{b:DBook}{i:Nat}(h:i<b.Defs.length):sizeDef (List.getD b.Defs i zDef)≤sizeDefS b.Defs:=by
 have hs:=sum_getD_le sizeDef b.Defs zDef (i:=i) (by omega) (by omega)
 rw[Int.toNat_natCast] at hs
 simp only[sizeDefS];omega
theorem work_size{b:DBook}{i:Int}(h0:0≤i)(h:i<b.Works.length):sizeItemS (List.getD b.Works i.toNat zWork).X.S.Items≤sizeWorkS b.Works:=by
 have hs:=sum_getD_le sizeWork b.Works zWork h0 h
 have h2:=ctInst_items (List.getD b.Works i.toNat zWork).X
 simp only[sizeWork] at hs
 simp only[sizeWorkS,sizeWork];omega
theorem if_ne{a b:Int}{P Q:Prop}(h1:¬a=b→P)(h2:a=b→Q):bif a !=b then P else Q:=if_cond (fun h=>h1 (by simpa using h)) (fun h=>h2 (by simpa using h))
theorem book_d{b:DBook}(j:Nat)(hj:j<b.Defs.length)(h:bookDef b j=false):bookOk b=false:=by
 simp only[bookOk,allI_false (p:=bookDef b) hj h,Bool.and_false,Bool.false_and]
theorem book_w{b:DBook}(j:Nat)(hj:j<b.Works.length)(h:bookWork b j=false):bookOk b=false:=by
 simp only[bookOk,allI_false (p:=bookWork b) hj h,Bool.and_false]
def Zk15:Con UU where
 α:=DBook
 md:=[.ro]
 of:=o1 (oA .eBook)
 ds:=fun x=>[dA .eBook x]
 pre:=fun b=>[sizeDefS b.Defs≤4294967295,sizeWorkS b.Works≤4294967295]
 res:=fun b=>⟨[.one (.lit (.bool (bookOk b)))],true,[]⟩
 law:=l1 (lA .eBook)
def Zi15_4(b:DBook):Int×(List DDef×List DWork×Int×Int×Unit)×Unit→Prop:=fun(i,g,_)=>g=(b.Defs,b.Works,b.Now,b.Ring,())∧0≤i∧i≤b.Defs.length∧∀j:Nat,(j:Int)<i→bookDef b j=true
def Zm15_4(b:DBook):Int×(List DDef×List DWork×Int×Int×Unit)×Unit→Nat:=fun(i,g,_)=>b.Defs.length-i.toNat
def Zi15_9(b:DBook):Int×(List DDef×List DWork×Int×Int×Unit)×Unit→Prop:=fun(i,g,_)=>g=(b.Defs,b.Works,b.Now,b.Ring,())∧0≤i∧i≤b.Works.length∧∀j:Nat,(j:Int)<i→bookWork b j=true
def Zm15_9(b:DBook):Int×(List DDef×List DWork×Int×Int×Unit)×Unit→Nat:=fun(i,g,_)=>b.Works.length-i.toNat
def Za15:Zk15.α→Nat→Option (Ann UU):=fun b=>annL [(4,annOf [.slot 3 (3,1024) (.lit (.int .i64)),.box 1 (1,1024) [.shr .eDef,.shr .eWork,.lit (.int .i64),.lit (.int .i64)]] (fun _=>Zi15_4 b) (Zm15_4 b)),(9,annOf [.slot 4 (4,1024) (.lit (.int .i64)),.box 1 (1,1024) [.shr .eDef,.shr .eWork,.lit (.int .i64),.lit (.int .i64)]] (fun _=>Zi15_9 b) (Zm15_9 b))]
def Zu15:=us [Zh40,Zh35,Zh70,Zh71,Zh72,Zh8]
theorem Zv15(b:DBook):goal EE Zu15 Go.Proofs.Tryz.f15 Zk15 Za15 b=(let x0:Int:=(b.Works.length:Int);
bif decide ((↑(List.length b.Defs):Int)>(8:Int)) then Lf [DV.one (Cell.lit (Value.bool false))] [DV.one (Cell.lit (Value.bool (bookOk b)))]
else
 bif decide (x0>(10:Int)) then Lf [DV.one (Cell.lit (Value.bool false))] [DV.one (Cell.lit (Value.bool (bookOk b)))]
 else
  bif !decide ((0:Int)≤b.Now∧b.Now≤(1000000000:Int)) then Lf [DV.one (Cell.lit (Value.bool false))] [DV.one (Cell.lit (Value.bool (bookOk b)))]
  else
   bif !decide ((0:Int)≤b.Ring∧b.Ring≤x0) then Lf [DV.one (Cell.lit (Value.bool false))] [DV.one (Cell.lit (Value.bool (bookOk b)))]
   else
    Zi15_4 b ((0:Int),(b.Defs,b.Works,b.Now,b.Ring,PUnit.unit),PUnit.unit)∧
     ∀(y:Int×(List DDef×List DWork×Int×Int×PUnit)×PUnit),
      let x1:DDef:=List.getD y.2.1.1 (Int.toNat y.1) zDef;
      let x3:Nat:=List.length y.2.1.1;
      let x2:Int:=(↑x3:Int);
      Zi15_4 b y→
       bif decide (y.1<x2) then(0:Int)≤y.1∧Int.toNat y.1<x3∧sizeDef x1≤(4294967295:Nat)∧bif !defOk x1 then Lf [DV.one (Cell.lit (Value.bool false))] [DV.one (Cell.lit (Value.bool (bookOk b)))] else(0:Int)≤y.1∧Int.toNat y.1<x3∧bif defAt y.2.1.1 x1.Name !=y.1 then Lf [DV.one (Cell.lit (Value.bool false))] [DV.one (Cell.lit (Value.bool (bookOk b)))] else Zi15_4 b (IntKind.wrap IntKind.i64 (y.1+(1:Int)),(y.2.1.1,y.2.1.2.1,y.2.1.2.2.1,y.2.1.2.2.2.1,PUnit.unit),PUnit.unit)∧Zm15_4 b (IntKind.wrap IntKind.i64 (y.1+(1:Int)),(y.2.1.1,y.2.1.2.1,y.2.1.2.2.1,y.2.1.2.2.2.1,PUnit.unit),PUnit.unit)<Zm15_4 b y
       else
        Zi15_9 b ((0:Int),(y.2.1.1,y.2.1.2.1,y.2.1.2.2.1,y.2.1.2.2.2.1,PUnit.unit),PUnit.unit)∧
         ∀(y:Int×(List DDef×List DWork×Int×Int×PUnit)×PUnit),
          let x5:DWork:=List.getD y.2.1.2.1 (Int.toNat y.1) zWork;
          let x7:Nat:=List.length y.2.1.2.1;
          let x4:Int:=defAt y.2.1.1 x5.Def;
          let x6:Int:=(↑x7:Int);
          Zi15_9 b y→bif decide (y.1<x6) then(0:Int)≤y.1∧Int.toNat y.1<x7∧bif !nameOk x5.Name then Lf [DV.one (Cell.lit (Value.bool false))] [DV.one (Cell.lit (Value.bool (bookOk b)))] else bif workAt y.2.1.2.1 x5.Name !=y.1 then Lf [DV.one (Cell.lit (Value.bool false))] [DV.one (Cell.lit (Value.bool (bookOk b)))] else bif decide (x4<(0:Int)) then Lf [DV.one (Cell.lit (Value.bool false))] [DV.one (Cell.lit (Value.bool (bookOk b)))] else(0:Int)≤x4∧Int.toNat x4<List.length y.2.1.1∧sizeDef (List.getD y.2.1.1 (Int.toNat x4) zDef)≤(4294967295:Nat)∧sizeItemS x5.X.S.Items≤(4294967296:Nat)∧bif !instOk (List.getD y.2.1.1 (Int.toNat x4) zDef) x5.X then Lf [DV.one (Cell.lit (Value.bool false))] [DV.one (Cell.lit (Value.bool (bookOk b)))] else bif decide (x5.X.Now>y.2.1.2.2.1) then Lf [DV.one (Cell.lit (Value.bool false))] [DV.one (Cell.lit (Value.bool (bookOk b)))] else Zi15_9 b (IntKind.wrap IntKind.i64 (y.1+(1:Int)),(y.2.1.1,y.2.1.2.1,y.2.1.2.2.1,y.2.1.2.2.2.1,PUnit.unit),PUnit.unit)∧Zm15_9 b (IntKind.wrap IntKind.i64 (y.1+(1:Int)),(y.2.1.1,y.2.1.2.1,y.2.1.2.2.1,y.2.1.2.2.2.1,PUnit.unit),PUnit.unit)<Zm15_9 b y else Lf [DV.one (Cell.lit (Value.bool true))] [DV.one (Cell.lit (Value.bool (bookOk b)))]):=by kernel_rfl
theorem Zo15:Holds EE (15,Zk15):=by
 refine holds_of EE_ok Go.Proofs.Tryz.func15 Zk15 (by kernel_rfl) Zu15 (us_ok _) Za15 (fun(b:DBook) hp hb=> ?_)
 have hz0:=bd_eBook (x:=b) (hb _ m0)
 have hl_b_Defs:=hz0.1
 have hl_b_Works:=hz0.2
 have hp0:sizeDefS b.Defs≤4294967295:=hp _ m0
 have hp1:sizeWorkS b.Works≤4294967295:=hp _ m1
 clear hp hb
 rw[Zv15 b]
 dsimp only
 refine if_dec (fun h=>Lf_ff ?_) (fun h1=>if_dec (fun h=>Lf_ff ?_) (fun h2=>if_not (fun h=>Lf_ff ?_) (fun h3=>if_not (fun h=>Lf_ff ?_) (fun h4=>⟨⟨rfl,by omega,by omega,by intro j hj;omega⟩,?_⟩))))
 ·rw[bookOk,decide_eq_false (by omega)];simp
 ·rw[bookOk,decide_eq_false (show¬b.Works.length≤10 by omega)];simp
 ·rw[bookOk,h];simp
 ·rw[bookOk,h];simp
 rintro⟨i,⟨b1,b2,b3,b4,⟨⟩⟩,⟨⟩⟩ ⟨hb,g1,g2,hR⟩
 cases hb
 simp only
 refine if_dec (fun hc=> ?_) (fun hc=> ?_)
 ·have hs:=def_size (b:=b) (i:=i.toNat) (by omega)
  have hD:=book_d (b:=b) i.toNat (by omega)
  refine⟨by omega,by omega,by omega,if_not (fun a=>Lf_ff (hD ?_)) (fun a=>⟨by omega,by omega,if_ne (fun e=>Lf_ff (hD ?_)) (fun e=> ?_)⟩)⟩
  ·simp only[bookDef];rw[show defOk (List.getD b.Defs i.toNat zDef)=false from a];rfl
  ·simp only[bookDef];rw[decide_eq_false (show¬defAt b.Defs (List.getD b.Defs i.toNat zDef).Name=(i.toNat:Int) by omega)];simp
  rw[wrap_i64 (by omega) (by omega)]
  have hy:bookDef b i.toNat=true:=by
   simp only[bookDef];rw[show defOk (List.getD b.Defs i.toNat zDef)=true from a,decide_eq_true (show defAt b.Defs (List.getD b.Defs i.toNat zDef).Name=(i.toNat:Int) by omega)];rfl
  exact⟨⟨rfl,by omega,by omega,upto_step g1 hR hy⟩,by simp only[Zm15_4];omega⟩
 refine⟨⟨rfl,by omega,by omega,by intro j hj;omega⟩,?_⟩
 have hDs:allI b.Defs.length (bookDef b)=true:=allI_true fun j hj=>hR j (by omega)
 clear hR hc g1 g2
 rintro⟨i,⟨b1,b2,b3,b4,⟨⟩⟩,⟨⟩⟩ ⟨hb,g1,g2,hR⟩
 cases hb
 simp only
 refine if_dec (fun hc=> ?_) (fun hc=>Lf_tt ?_)
 ·have hW:=book_w (b:=b) i.toNat (by omega)
  have hs:=work_size (b:=b) g1 hc
  have hx:defIx b i.toNat=defAt b.Defs (List.getD b.Works i.toNat zWork).Def:=rfl
  have hlt:=defAt_lt (l:=b.Defs) (name:=(List.getD b.Works i.toNat zWork).Def)
  refine⟨by omega,by omega,if_not (fun a=>Lf_ff (hW ?_)) (fun n1=>if_ne (fun a=>Lf_ff (hW ?_)) (fun n2=>if_dec (fun a=>Lf_ff (hW ?_)) (fun n3=>⟨by omega,hlt (by omega),by have:=def_size (b:=b) (hlt (by omega));omega,by omega,if_not (fun a=>Lf_ff (hW ?_)) (fun n4=>if_dec (fun a=>Lf_ff (hW ?_)) (fun n5=> ?_))⟩)))⟩
  ·simp only[bookWork];rw[show nameOk (List.getD b.Works i.toNat zWork).Name=false from a];rfl
  ·simp only[bookWork];rw[decide_eq_false (show¬workAt b.Works (List.getD b.Works i.toNat zWork).Name=(i.toNat:Int) by omega)];simp
  ·simp only[bookWork];rw[hx,decide_eq_false (show¬0≤defAt b.Defs (List.getD b.Works i.toNat zWork).Def by omega)];simp
  ·simp only[bookWork];rw[hx,show instOk (List.getD b.Defs (defAt b.Defs (List.getD b.Works i.toNat zWork).Def).toNat zDef) (List.getD b.Works i.toNat zWork).X=false from a];simp
  ·simp only[bookWork];rw[decide_eq_false (show¬(List.getD b.Works i.toNat zWork).X.Now≤b.Now by omega)];simp
  rw[wrap_i64 (by omega) (by omega)]
  have hy:bookWork b i.toNat=true:=by
   simp only[bookWork];rw[hx,show nameOk (List.getD b.Works i.toNat zWork).Name=true from n1,show instOk (List.getD b.Defs (defAt b.Defs (List.getD b.Works i.toNat zWork).Def).toNat zDef) (List.getD b.Works i.toNat zWork).X=true from n4,decide_eq_true (show workAt b.Works (List.getD b.Works i.toNat zWork).Name=(i.toNat:Int) by omega),decide_eq_true (show 0≤defAt b.Defs (List.getD b.Works i.toNat zWork).Def by omega),decide_eq_true (show(List.getD b.Works i.toNat zWork).X.Now≤b.Now by omega)];rfl
  exact⟨⟨rfl,by omega,by omega,upto_step g1 hR hy⟩,by simp only[Zm15_9];omega⟩
 ·have hWs:allI b.Works.length (bookWork b)=true:=allI_true fun j hj=>hR j (by omega)
  rw[bookOk,hDs,hWs,show decide (0≤b.Now∧b.Now≤1000000000)=true from h3,show decide (0≤b.Ring∧b.Ring≤(b.Works.length:Int))=true from h4,decide_eq_true (show b.Defs.length≤8 by omega),decide_eq_true (show b.Works.length≤10 by omega)];rfl
def Zh15:HH:=⟨_,Zo15⟩
def Zk17:Con UU where
 α:=DBook
 md:=[.ro]
 of:=o1 (oA .eBook)
 ds:=fun x=>[dA .eBook x]
 pre:=fun b=>[sizeDefS b.Defs≤4294967295,sizeWorkS b.Works≤4294967295]
 res:=fun b=>⟨[.one (.lit (.bool (bookOk b)))],true,[]⟩
 law:=l1 (lA .eBook)
def Zi17_4(b:DBook):Int×(List DDef×List DWork×Int×Int×Unit)×Unit→Prop:=fun(i,g,_)=>g=(b.Defs,b.Works,b.Now,b.Ring,())∧0≤i∧i≤b.Defs.length∧∀j:Nat,(j:Int)<i→bookDef b j=true
def Zm17_4(b:DBook):Int×(List DDef×List DWork×Int×Int×Unit)×Unit→Nat:=fun(i,g,_)=>b.Defs.length-i.toNat
def Zi17_10(b:DBook):Int×(List DDef×List DWork×Int×Int×Unit)×Unit→Prop:=fun(i,g,_)=>g=(b.Defs,b.Works,b.Now,b.Ring,())∧0≤i∧i≤b.Works.length∧∀j:Nat,(j:Int)<i→bookWork b j=true
def Zm17_10(b:DBook):Int×(List DDef×List DWork×Int×Int×Unit)×Unit→Nat:=fun(i,g,_)=>b.Works.length-i.toNat
def Za17:Zk17.α→Nat→Option (Ann UU):=fun b=>annL [(4,annOf [.slot 36 (36,1024) (.lit (.int .i64)),.box 1 (1,1024) [.shr .eDef,.shr .eWork,.lit (.int .i64),.lit (.int .i64)]] (fun _=>Zi17_4 b) (Zm17_4 b)),(10,annOf [.slot 56 (56,1024) (.lit (.int .i64)),.box 1 (1,1024) [.shr .eDef,.shr .eWork,.lit (.int .i64),.lit (.int .i64)]] (fun _=>Zi17_10 b) (Zm17_10 b))]
def Zu17:=us [Zh57,Zh56,Zh51,Zh75,Zh76,Zh77,Zh11]
theorem Zv17(b:DBook):goal EE Zu17 Go.Proofs.Tryz.f17 Zk17 Za17 b=(let x0:Int:=(b.Defs.length:Int);
let x1:Int:=(↑(List.length b.Works):Int);
bif decide (x0>(8:Int)) then Lf [DV.one (Cell.lit (Value.bool false))] [DV.one (Cell.lit (Value.bool (bookOk b)))]
else
 bif decide (x1>(10:Int)) then Lf [DV.one (Cell.lit (Value.bool false))] [DV.one (Cell.lit (Value.bool (bookOk b)))]
 else
  bif !decide ((0:Int)≤b.Now∧b.Now≤(1000000000:Int)) then Lf [DV.one (Cell.lit (Value.bool false))] [DV.one (Cell.lit (Value.bool (bookOk b)))]
  else
   bif !decide ((0:Int)≤b.Ring∧b.Ring≤x1) then Lf [DV.one (Cell.lit (Value.bool false))] [DV.one (Cell.lit (Value.bool (bookOk b)))]
   else
    Zi17_4 b ((0:Int),(b.Defs,b.Works,b.Now,b.Ring,PUnit.unit),PUnit.unit)∧
     ∀(y:Int×(List DDef×List DWork×Int×Int×PUnit)×PUnit),
      let x3:Nat:=List.length y.2.1.2.1;
      let x2:Int:=(↑x3:Int);
      Zi17_4 b y→
       bif decide (y.1<x0) then(0:Int)≤y.1∧Int.toNat y.1<List.length b.Defs∧bif !defOk (List.getD b.Defs (Int.toNat y.1) zDef) then Lf [DV.one (Cell.lit (Value.bool false))] [DV.one (Cell.lit (Value.bool (bookOk b)))] else bif defAt y.2.1.1 (List.getD b.Defs (Int.toNat y.1) zDef).Name !=y.1 then Lf [DV.one (Cell.lit (Value.bool false))] [DV.one (Cell.lit (Value.bool (bookOk b)))] else Zi17_4 b (IntKind.wrap IntKind.i64 (y.1+(1:Int)),(y.2.1.1,y.2.1.2.1,y.2.1.2.2.1,y.2.1.2.2.2.1,PUnit.unit),PUnit.unit)∧Zm17_4 b (IntKind.wrap IntKind.i64 (y.1+(1:Int)),(y.2.1.1,y.2.1.2.1,y.2.1.2.2.1,y.2.1.2.2.2.1,PUnit.unit),PUnit.unit)<Zm17_4 b y
       else
        Zi17_10 b ((0:Int),(y.2.1.1,y.2.1.2.1,y.2.1.2.2.1,y.2.1.2.2.2.1,PUnit.unit),PUnit.unit)∧
         ∀(y_1:Int×(List DDef×List DWork×Int×Int×PUnit)×PUnit),
          let x5:DWork:=List.getD y.2.1.2.1 (Int.toNat y_1.1) zWork;
          let x4:Int:=defAt y_1.2.1.1 x5.Def;
          Zi17_10 b y_1→bif decide (y_1.1<x2) then(0:Int)≤y_1.1∧Int.toNat y_1.1<x3∧bif !nameOk x5.Name then Lf [DV.one (Cell.lit (Value.bool false))] [DV.one (Cell.lit (Value.bool (bookOk b)))] else bif workAt y_1.2.1.2.1 x5.Name !=y_1.1 then Lf [DV.one (Cell.lit (Value.bool false))] [DV.one (Cell.lit (Value.bool (bookOk b)))] else bif decide (x4<(0:Int)) then Lf [DV.one (Cell.lit (Value.bool false))] [DV.one (Cell.lit (Value.bool (bookOk b)))] else bif decide (x5.X.Now>y_1.2.1.2.2.1) then Lf [DV.one (Cell.lit (Value.bool false))] [DV.one (Cell.lit (Value.bool (bookOk b)))] else(0:Int)≤x4∧Int.toNat x4<List.length y_1.2.1.1∧sizeDef (List.getD y_1.2.1.1 (Int.toNat x4) zDef)≤(4294967295:Nat)∧sizeItemS x5.X.S.Items≤(4294967296:Nat)∧bif !instOk (List.getD y_1.2.1.1 (Int.toNat x4) zDef) x5.X then Lf [DV.one (Cell.lit (Value.bool false))] [DV.one (Cell.lit (Value.bool (bookOk b)))] else Zi17_10 b (IntKind.wrap IntKind.i64 (y_1.1+(1:Int)),(y_1.2.1.1,y_1.2.1.2.1,y_1.2.1.2.2.1,y_1.2.1.2.2.2.1,PUnit.unit),PUnit.unit)∧Zm17_10 b (IntKind.wrap IntKind.i64 (y_1.1+(1:Int)),(y_1.2.1.1,y_1.2.1.2.1,y_1.2.1.2.2.1,y_1.2.1.2.2.2.1,PUnit.unit),PUnit.unit)<Zm17_10 b y_1 else Lf [DV.one (Cell.lit (Value.bool true))] [DV.one (Cell.lit (Value.bool (bookOk b)))]):=by kernel_rfl
theorem Zo17:Holds EE (17,Zk17):=by
 refine holds_of EE_ok Go.Proofs.Tryz.func17 Zk17 (by kernel_rfl) Zu17 (us_ok _) Za17 (fun(b:DBook) hp hb=> ?_)
 have hz0:=bd_eBook (x:=b) (hb _ m0)
 have hl_b_Defs:=hz0.1
 have hl_b_Works:=hz0.2
 have hp0:sizeDefS b.Defs≤4294967295:=hp _ m0
 have hp1:sizeWorkS b.Works≤4294967295:=hp _ m1
 clear hp hb
 rw[Zv17 b]
 dsimp only
 refine if_dec (fun h=>Lf_ff ?_) (fun h1=>if_dec (fun h=>Lf_ff ?_) (fun h2=>if_not (fun h=>Lf_ff ?_) (fun h3=>if_not (fun h=>Lf_ff ?_) (fun h4=>⟨⟨rfl,by omega,by omega,by intro j hj;omega⟩,?_⟩))))
 ·rw[bookOk,decide_eq_false (by omega)];simp
 ·rw[bookOk,decide_eq_false (show¬b.Works.length≤10 by omega)];simp
 ·rw[bookOk,h];simp
 ·rw[bookOk,h];simp
 rintro⟨i,⟨b1,b2,b3,b4,⟨⟩⟩,⟨⟩⟩ ⟨hb,g1,g2,hR⟩
 cases hb
 simp only
 refine if_dec (fun hc=> ?_) (fun hc=> ?_)
 ·have hs:=def_size (b:=b) (i:=i.toNat) (by omega)
  have hD:=book_d (b:=b) i.toNat (by omega)
  refine⟨by omega,by omega,if_not (fun a=>Lf_ff (hD ?_)) (fun a=>if_ne (fun e=>Lf_ff (hD ?_)) (fun e=> ?_))⟩
  ·simp only[bookDef];rw[show defOk (List.getD b.Defs i.toNat zDef)=false from a];rfl
  ·simp only[bookDef];rw[decide_eq_false (show¬defAt b.Defs (List.getD b.Defs i.toNat zDef).Name=(i.toNat:Int) by omega)];simp
  rw[wrap_i64 (by omega) (by omega)]
  have hy:bookDef b i.toNat=true:=by
   simp only[bookDef];rw[show defOk (List.getD b.Defs i.toNat zDef)=true from a,decide_eq_true (show defAt b.Defs (List.getD b.Defs i.toNat zDef).Name=(i.toNat:Int) by omega)];rfl
  exact⟨⟨rfl,by omega,by omega,upto_step g1 hR hy⟩,by simp only[Zm17_4];omega⟩
 refine⟨⟨rfl,by omega,by omega,by intro j hj;omega⟩,?_⟩
 have hDs:allI b.Defs.length (bookDef b)=true:=allI_true fun j hj=>hR j (by omega)
 clear hR hc g1 g2
 rintro⟨i,⟨b1,b2,b3,b4,⟨⟩⟩,⟨⟩⟩ ⟨hb,g1,g2,hR⟩
 cases hb
 simp only
 refine if_dec (fun hc=> ?_) (fun hc=>Lf_tt ?_)
 ·have hW:=book_w (b:=b) i.toNat (by omega)
  have hs:=work_size (b:=b) g1 hc
  have hx:defIx b i.toNat=defAt b.Defs (List.getD b.Works i.toNat zWork).Def:=rfl
  have hlt:=defAt_lt (l:=b.Defs) (name:=(List.getD b.Works i.toNat zWork).Def)
  refine⟨by omega,by omega,if_not (fun a=>Lf_ff (hW ?_)) (fun n1=>if_ne (fun a=>Lf_ff (hW ?_)) (fun n2=>if_dec (fun a=>Lf_ff (hW ?_)) (fun n3=>if_dec (fun a=>Lf_ff (hW ?_)) (fun n5=>⟨by omega,hlt (by omega),by have:=def_size (b:=b) (hlt (by omega));omega,by omega,if_not (fun a=>Lf_ff (hW ?_)) (fun n4=> ?_)⟩))))⟩
  ·simp only[bookWork];rw[show nameOk (List.getD b.Works i.toNat zWork).Name=false from a];rfl
  ·simp only[bookWork];rw[decide_eq_false (show¬workAt b.Works (List.getD b.Works i.toNat zWork).Name=(i.toNat:Int) by omega)];simp
  ·simp only[bookWork];rw[hx,decide_eq_false (show¬0≤defAt b.Defs (List.getD b.Works i.toNat zWork).Def by omega)];simp
  ·simp only[bookWork];rw[decide_eq_false (show¬(List.getD b.Works i.toNat zWork).X.Now≤b.Now by omega)];simp
  ·simp only[bookWork];rw[hx,show instOk (List.getD b.Defs (defAt b.Defs (List.getD b.Works i.toNat zWork).Def).toNat zDef) (List.getD b.Works i.toNat zWork).X=false from a];simp
  rw[wrap_i64 (by omega) (by omega)]
  have hy:bookWork b i.toNat=true:=by
   simp only[bookWork];rw[hx,show nameOk (List.getD b.Works i.toNat zWork).Name=true from n1,show instOk (List.getD b.Defs (defAt b.Defs (List.getD b.Works i.toNat zWork).Def).toNat zDef) (List.getD b.Works i.toNat zWork).X=true from n4,decide_eq_true (show workAt b.Works (List.getD b.Works i.toNat zWork).Name=(i.toNat:Int) by omega),decide_eq_true (show 0≤defAt b.Defs (List.getD b.Works i.toNat zWork).Def by omega),decide_eq_true (show(List.getD b.Works i.toNat zWork).X.Now≤b.Now by omega)];rfl
  exact⟨⟨rfl,by omega,by omega,upto_step g1 hR hy⟩,by simp only[Zm17_10];omega⟩
 ·have hWs:allI b.Works.length (bookWork b)=true:=allI_true fun j hj=>hR j (by omega)
  rw[bookOk,hDs,hWs,show decide (0≤b.Now∧b.Now≤1000000000)=true from h3,show decide (0≤b.Ring∧b.Ring≤(b.Works.length:Int))=true from h4,decide_eq_true (show b.Defs.length≤8 by omega),decide_eq_true (show b.Works.length≤10 by omega)];rfl
def Zh17:HH:=⟨_,Zo17⟩
def con_laws_FnExactBookOk:Con UU where
 α:=DBook
 md:=[.ro]
 of:=o1 (oA .lBook)
 ds:=fun x=>[dA .lBook x]
 pre:=fun _=>[]
 res:=fun aB=>⟨[.one (.lit (.bool true))],true,[]⟩
 law:=l1 (lA .lBook)
def ann_laws_FnExactBookOk:con_laws_FnExactBookOk.α→Nat→Option (Ann UU):=fun aB=>annL []
def use_laws_FnExactBookOk:=us [Zh14,Zh16,Zh15,Zh17,Zh18]
theorem vc_laws_FnExactBookOk(aB:DBook):goal EE use_laws_FnExactBookOk Go.Proofs.Tryz.f4 con_laws_FnExactBookOk ann_laws_FnExactBookOk aB=((0:Int)≤(1048576:Int)∧bif decide (szr (1048576:Int) (sizeBook aB)<(0:Int)) then Lb true true else sizeBook aB≤(4294967296:Nat)∧sizeDefS aB.Defs≤(4294967295:Nat)∧sizeWorkS aB.Works≤(4294967295:Nat)∧sizeBook aB≤(4294967296:Nat)∧sizeDefS aB.Defs≤(4294967295:Nat)∧sizeWorkS aB.Works≤(4294967295:Nat)∧bif !bookOk aB==bookOk aB then Lb false true else sizeBook aB≤(4294967296:Nat)∧bif !decide (aB=aB) then Lb false true else Lb true true):=by kernel_rfl
theorem ok_laws_FnExactBookOk:Holds EE (4,con_laws_FnExactBookOk):=by
 refine holds_of EE_ok Go.Proofs.Tryz.func4 con_laws_FnExactBookOk (by kernel_rfl) use_laws_FnExactBookOk (us_ok _) ann_laws_FnExactBookOk (fun(aB:DBook) hp hb=> ?_)
 have hz0:=bd_lBook (x:=aB) (hb _ m0)
 have hl_aB_Defs:=hz0.1
 have hl_aB_Works:=hz0.2
 clear hp hb
 rw[vc_laws_FnExactBookOk aB]
 refine⟨by omega,if_cond (fun h=>Lf_rfl _) (fun h=> ?_)⟩
 obtain⟨e0,h0⟩:=szr_pos h
 have hz:sizeBook aB=sizeDefS aB.Defs+sizeWorkS aB.Works:=rfl
 repeat' (first|exact Lf_rfl _|refine And.intro (by omega) ?_|refine if_cond (fun h=>absurd h (by first|(simp;done)|(simp;omega))) (fun h=> ?_)|fail)
def h_laws_FnExactBookOk:HH:=⟨_,ok_laws_FnExactBookOk⟩
end
end AM
