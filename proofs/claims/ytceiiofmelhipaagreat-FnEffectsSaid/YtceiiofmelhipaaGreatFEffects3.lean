/- Functions of the program with their contracts: put together by gen/link.py for FnEffects. -/
import Derived.Test.YtceiiofmelhipaaGreatAmLib
import Derived.Test.YtceiiofmelhipaaGreatFEffects2
namespace AM
open Go Go.Proofs.Tryz
set_option linter.unusedVariables false
set_option linter.unusedSimpArgs false
set_option maxRecDepth 100000
noncomputable section
def Zk79:Con UU where
 α:=DCur×ByteArray
 md:=[.box false,.ro]
 of:=fun|[.box [.sl .byte a0,.lit (.int .i64 a1),.lit (.int .i64 a2)],.one (.lit (.string a3))]=>some (⟨a0,a1,a2⟩,a3)|_=>none
 ds:=fun(c,name)=>[.box [.sl .byte c.b,.lit (.int .i64 c.i),.lit (.int .i64 c.h)],.one (.lit (.string name))]
 pre:=fun(c,name)=>[cOk c]
 res:=fun(c,name)=>⟨[.agg [.lit (.string ((ruleD name c)).Name),.lit (.int .i64 ((ruleD name c)).Sal),.sl .ePat ((ruleD name c)).Pats,.sl .eCond ((ruleD name c)).Conds,.sl .eAct ((ruleD name c)).Acts]],true,[.box [.sl .byte ((ruC9 c)).b,.lit (.int .i64 ((ruC9 c)).i),.lit (.int .i64 ((ruC9 c)).h)]]⟩
 law:=by intro l x h;(try simp only at h);split at h<;>cases h;rfl
def Zi79_3(c:DCur)(name:ByteArray):Int×(ByteArray×Int×List DPat×List DCond×List DAct×Unit)×(ByteArray×Int×List DPat×List DCond×List DAct×Unit)×(List Int×Int×Int×Unit)×Unit→Prop:=fun(i,q,r,cu,_)=>r=(name,intV c iLsal,r.2.2.1,[],[],())∧0≤i∧i≤3∧r.2.2.1.length+i≤3∧cOk ⟨cu.1,cu.2.1,cu.2.2.1⟩∧iterL (patD false) patDC i.toNat r.2.2.1 ⟨cu.1,cu.2.1,cu.2.2.1⟩=ruP1 c∧iterC patDC i.toNat ⟨cu.1,cu.2.1,cu.2.2.1⟩=ruC3 c
def Zm79_3(c:DCur)(name:ByteArray):Int×(ByteArray×Int×List DPat×List DCond×List DAct×Unit)×(ByteArray×Int×List DPat×List DCond×List DAct×Unit)×(List Int×Int×Int×Unit)×Unit→Nat:=fun(i,q,r,cu,_)=>i.toNat
def Zi79_15(c:DCur)(name:ByteArray):Int×List ByteArray×(ByteArray×Int×List DPat×List DCond×List DAct×Unit)×(ByteArray×Int×List DPat×List DCond×List DAct×Unit)×(List Int×Int×Int×Unit)×Unit→Prop:=fun(i,vs,q,r,cu,_)=>vs=ruVars c∧r=(name,intV c iLsal,ruPats c,ruConds c,r.2.2.2.2.1,())∧0≤i∧i≤3∧r.2.2.2.2.1.length+i≤3∧cOk ⟨cu.1,cu.2.1,cu.2.2.1⟩∧iterL (ruAct c) (ruActC c) i.toNat r.2.2.2.2.1 ⟨cu.1,cu.2.1,cu.2.2.1⟩=ruActs c∧iterC (ruActC c) i.toNat ⟨cu.1,cu.2.1,cu.2.2.1⟩=ruC9 c
def Zm79_15(c:DCur)(name:ByteArray):Int×List ByteArray×(ByteArray×Int×List DPat×List DCond×List DAct×Unit)×(ByteArray×Int×List DPat×List DCond×List DAct×Unit)×(List Int×Int×Int×Unit)×Unit→Nat:=fun(i,vs,q,r,cu,_)=>i.toNat
def Zi79_19(c:DCur)(name:ByteArray):Int×Int×List ByteArray×(Int×ByteArray×List DExpr×Int×ByteArray×Unit)×(ByteArray×Int×List DPat×List DCond×List DAct×Unit)×(ByteArray×Int×List DPat×List DCond×List DAct×Unit)×(List Int×Int×Int×Unit)×Unit→Int×Int×List ByteArray×(Int×ByteArray×List DExpr×Int×ByteArray×Unit)×(ByteArray×Int×List DPat×List DCond×List DAct×Unit)×(ByteArray×Int×List DPat×List DCond×List DAct×Unit)×(List Int×Int×Int×Unit)×Unit→Prop:=fun(i0,k0,vs0,a0,q0,r0,cu0,_) (i,k,vs,a,q,r,cu,_)=>i=i0∧vs=vs0∧a=(a0.1,a0.2.1,a.2.2.1,a0.2.2.2.1,a0.2.2.2.2.1,())∧r=r0∧cu=cu0∧0≤k∧k≤a0.2.2.1.length∧a.2.2.1=fitAt (ruVars c) a0.2.2.1 k.toNat
def Zm79_19(c:DCur)(name:ByteArray):Int×Int×List ByteArray×(Int×ByteArray×List DExpr×Int×ByteArray×Unit)×(ByteArray×Int×List DPat×List DCond×List DAct×Unit)×(ByteArray×Int×List DPat×List DCond×List DAct×Unit)×(List Int×Int×Int×Unit)×Unit→Nat:=fun(i,k,vs,a,q,r,cu,_)=>a.2.2.1.length-k.toNat
def Za79:Zk79.α→Nat→Option (Ann UU):=fun(c,name)=>annL [(3,annOf [.slot 6 (6,1024) (.lit (.int .i64)),.box 4 (4,1024) [.lit .str,.lit (.int .i64),.own .ePat true,.own .eCond true,.own .eAct true],.box 5 (5,1024) [.lit .str,.lit (.int .i64),.own .ePat true,.own .eCond true,.own .eAct true],.box 0 (2000000,0) [.shr .byte,.lit (.int .i64),.lit (.int .i64)]] (fun _=>Zi79_3 c name) (Zm79_3 c name)),(15,annOf [.slot 9 (9,1024) (.lit (.int .i64)),.slot 7 (7,1024) (.own .str true),.box 4 (4,1024) [.lit .str,.lit (.int .i64),.own .ePat true,.own .eCond true,.own .eAct true],.box 5 (5,1024) [.lit .str,.lit (.int .i64),.own .ePat true,.own .eCond true,.own .eAct true],.box 0 (2000000,0) [.shr .byte,.lit (.int .i64),.lit (.int .i64)]] (fun _=>Zi79_15 c name) (Zm79_15 c name)),(19,annOf [.slot 9 (9,1024) (.lit (.int .i64)),.slot 11 (11,1024) (.lit (.int .i64)),.slot 7 (7,1024) (.own .str true),.box 10 (10,1024) [.lit (.int .i64),.lit .str,.own .eExpr true,.lit (.int .i64),.lit .str],.box 4 (4,1024) [.lit .str,.lit (.int .i64),.own .ePat true,.own .eCond true,.own .eAct true],.box 5 (5,1024) [.lit .str,.lit (.int .i64),.own .ePat true,.own .eCond true,.own .eAct true],.box 0 (2000000,0) [.shr .byte,.lit (.int .i64),.lit (.int .i64)]] (Zi79_19 c name) (Zm79_19 c name))]
def Zu79:=us [Zh152,Zh30,Zh153,Zh80,Zh154,Zh155,Zh156,Zh40,Zh157]
def I_spec_l9Draw_cut(c:DCur)(name:ByteArray):List ByteArray×(ByteArray×Int×List DPat×List DCond×List DAct×Unit)×(ByteArray×Int×List DPat×List DCond×List DAct×Unit)×(List Int×Int×Int×Unit)×Unit→Prop:=fun(vs,q,r,cu,_)=>vs=ruVars c∧r=(name,intV c iLsal,ruPats c,ruConds c,[],())∧cOk ⟨cu.1,cu.2.1,cu.2.2.1⟩∧(⟨cu.1,cu.2.1,cu.2.2.1⟩:DCur)=ruC7 c
def cut_spec_l9Draw:Zk79.α→Ann UU:=fun(c,name)=>annOf [.slot 7 (7,1024) (.own .str true),.box 4 (4,1024) [.lit .str,.lit (.int .i64),.own .ePat true,.own .eCond true,.own .eAct true],.box 5 (5,1024) [.lit .str,.lit (.int .i64),.own .ePat true,.own .eCond true,.own .eAct true],.box 0 (2000000,0) [.shr .byte,.lit (.int .i64),.lit (.int .i64)]] (fun _=>I_spec_l9Draw_cut c name) (fun _=>0)
theorem Zw79(c:DCur)(name:ByteArray)(y:List ByteArray×(ByteArray×Int×List DPat×List DCond×List DAct×Unit)×(ByteArray×Int×List DPat×List DCond×List DAct×Unit)×(List Int×Int×Int×Unit)×Unit):goalCB EE Zu79 f79 Zk79 Za79 (c,name) 14 (cut_spec_l9Draw (c,name)) y=(let x1:DCur:={b:=y.2.2.2.1.1,i:=y.2.2.2.1.2.1,h:=y.2.2.2.1.2.2.1:DCur};
let x0:DCur:=belowC x1 (3:Int);
(0:Int)≤y.2.2.2.1.2.1∧
 List.length y.2.2.2.1.1≤(4294967296:Nat)∧
  Zi79_15 c name (IntKind.wrap IntKind.i64 ((1:Int)+belowV x1 (3:Int)),y.1,(y.2.1.1,y.2.1.2.1,y.2.1.2.2.1,y.2.1.2.2.2.1,y.2.1.2.2.2.2.1,PUnit.unit),(y.2.2.1.1,y.2.2.1.2.1,y.2.2.1.2.2.1,y.2.2.1.2.2.2.1,y.2.2.1.2.2.2.2.1,PUnit.unit),(x0.b,x0.i,x0.h,PUnit.unit),PUnit.unit)∧
   ∀(y:Int×List ByteArray×(ByteArray×Int×List DPat×List DCond×List DAct×PUnit)×(ByteArray×Int×List DPat×List DCond×List DAct×PUnit)×(List Int×Int×Int×PUnit)×PUnit),
    let x4:DCur:={b:=y.2.2.2.2.1.1,i:=y.2.2.2.2.1.2.1,h:=y.2.2.2.2.1.2.2.1:DCur};
    let x5:Int:=(↑(posN y.2.2.2.1.2.2.1):Int);
    let x2:DAct:=actD x5 x4;
    let x3:DCur:=actDC x5 x4;
    Zi79_15 c name y→
     bif decide (y.1>(0:Int)) then
      cOk x4∧
       Zi79_19 c name (y.1,(0:Int),y.2.1,(x2.Kind,x2.Name,x2.Args,x2.N,x2.Undo,PUnit.unit),(y.2.2.1.1,y.2.2.1.2.1,y.2.2.1.2.2.1,y.2.2.1.2.2.2.1,y.2.2.1.2.2.2.2.1,PUnit.unit),(y.2.2.2.1.1,y.2.2.2.1.2.1,y.2.2.2.1.2.2.1,y.2.2.2.1.2.2.2.1,y.2.2.2.1.2.2.2.2.1,PUnit.unit),(x3.b,x3.i,x3.h,PUnit.unit),PUnit.unit) (y.1,(0:Int),y.2.1,(x2.Kind,x2.Name,x2.Args,x2.N,x2.Undo,PUnit.unit),(y.2.2.1.1,y.2.2.1.2.1,y.2.2.1.2.2.1,y.2.2.1.2.2.2.1,y.2.2.1.2.2.2.2.1,PUnit.unit),(y.2.2.2.1.1,y.2.2.2.1.2.1,y.2.2.2.1.2.2.1,y.2.2.2.1.2.2.2.1,y.2.2.2.1.2.2.2.2.1,PUnit.unit),(x3.b,x3.i,x3.h,PUnit.unit),PUnit.unit)∧
        ∀(y_1:Int×Int×List ByteArray×(Int×ByteArray×List DExpr×Int×ByteArray×PUnit)×(ByteArray×Int×List DPat×List DCond×List DAct×PUnit)×(ByteArray×Int×List DPat×List DCond×List DAct×PUnit)×(List Int×Int×Int×PUnit)×PUnit),
         let x7:List DAct:=[{Kind:=y_1.2.2.2.1.1,Name:=y_1.2.2.2.1.2.1,Args:=y_1.2.2.2.1.2.2.1,N:=y_1.2.2.2.1.2.2.2.1,Undo:=y_1.2.2.2.1.2.2.2.2.1:DAct}];
         let x8:Nat:=Int.toNat y_1.2.1;
         let x10:Nat:=List.length y_1.2.2.2.1.2.2.1;
         let x11:Int:=IntKind.wrap IntKind.i64 (y_1.2.1+(1:Int));
         let x6:List DExpr:=List.modify y_1.2.2.2.1.2.2.1 x8 fun(x:DExpr)=>{Op:=x.Op,L:=fitT y_1.2.2.1 (List.getD y_1.2.2.2.1.2.2.1 x8 zExpr).L,R:=x.R:DExpr};
         let x9:Int:=(↑x10:Int);
         Zi79_19 c name (y.1,(0:Int),y.2.1,(x2.Kind,x2.Name,x2.Args,x2.N,x2.Undo,PUnit.unit),(y.2.2.1.1,y.2.2.1.2.1,y.2.2.1.2.2.1,y.2.2.1.2.2.2.1,y.2.2.1.2.2.2.2.1,PUnit.unit),(y.2.2.2.1.1,y.2.2.2.1.2.1,y.2.2.2.1.2.2.1,y.2.2.2.1.2.2.2.1,y.2.2.2.1.2.2.2.2.1,PUnit.unit),(x3.b,x3.i,x3.h,PUnit.unit),PUnit.unit) y_1→bif decide (y_1.2.1<x9) then(0:Int)≤y_1.2.1∧x8<x10∧x8<x10∧(0:Int)≤y_1.2.1∧x8<x10∧x8<x10∧(0:Int)≤y_1.2.1∧x8<List.length x6∧x8<List.length x6∧bif !ByteArray.toList (List.getD x6 x8 zExpr).Op==ByteArray.toList {data:= #[]:ByteArray} then(0:Int)≤y_1.2.1∧x8<List.length x6∧x8<List.length x6∧(0:Int)≤y_1.2.1∧x8<List.length x6∧x8<List.length x6∧Zi79_19 c name (y.1,(0:Int),y.2.1,(x2.Kind,x2.Name,x2.Args,x2.N,x2.Undo,PUnit.unit),(y.2.2.1.1,y.2.2.1.2.1,y.2.2.1.2.2.1,y.2.2.1.2.2.2.1,y.2.2.1.2.2.2.2.1,PUnit.unit),(y.2.2.2.1.1,y.2.2.2.1.2.1,y.2.2.2.1.2.2.1,y.2.2.2.1.2.2.2.1,y.2.2.2.1.2.2.2.2.1,PUnit.unit),(x3.b,x3.i,x3.h,PUnit.unit),PUnit.unit) (y_1.1,x11,y_1.2.2.1,(y_1.2.2.2.1.1,y_1.2.2.2.1.2.1,List.modify x6 x8 fun(x:DExpr)=>{Op:=x.Op,L:=x.L,R:=fitT y_1.2.2.1 (List.getD x6 x8 zExpr).R:DExpr},y_1.2.2.2.1.2.2.2.1,y_1.2.2.2.1.2.2.2.2.1,PUnit.unit),(y_1.2.2.2.2.1.1,y_1.2.2.2.2.1.2.1,y_1.2.2.2.2.1.2.2.1,y_1.2.2.2.2.1.2.2.2.1,y_1.2.2.2.2.1.2.2.2.2.1,PUnit.unit),(y_1.2.2.2.2.2.1.1,y_1.2.2.2.2.2.1.2.1,y_1.2.2.2.2.2.1.2.2.1,y_1.2.2.2.2.2.1.2.2.2.1,y_1.2.2.2.2.2.1.2.2.2.2.1,PUnit.unit),(y_1.2.2.2.2.2.2.1.1,y_1.2.2.2.2.2.2.1.2.1,y_1.2.2.2.2.2.2.1.2.2.1,PUnit.unit),PUnit.unit)∧Zm79_19 c name (y_1.1,x11,y_1.2.2.1,(y_1.2.2.2.1.1,y_1.2.2.2.1.2.1,List.modify x6 x8 fun(x:DExpr)=>{Op:=x.Op,L:=x.L,R:=fitT y_1.2.2.1 (List.getD x6 x8 zExpr).R:DExpr},y_1.2.2.2.1.2.2.2.1,y_1.2.2.2.1.2.2.2.2.1,PUnit.unit),(y_1.2.2.2.2.1.1,y_1.2.2.2.2.1.2.1,y_1.2.2.2.2.1.2.2.1,y_1.2.2.2.2.1.2.2.2.1,y_1.2.2.2.2.1.2.2.2.2.1,PUnit.unit),(y_1.2.2.2.2.2.1.1,y_1.2.2.2.2.2.1.2.1,y_1.2.2.2.2.2.1.2.2.1,y_1.2.2.2.2.2.1.2.2.2.1,y_1.2.2.2.2.2.1.2.2.2.2.1,PUnit.unit),(y_1.2.2.2.2.2.2.1.1,y_1.2.2.2.2.2.2.1.2.1,y_1.2.2.2.2.2.2.1.2.2.1,PUnit.unit),PUnit.unit)<Zm79_19 c name y_1 else Zi79_19 c name (y.1,(0:Int),y.2.1,(x2.Kind,x2.Name,x2.Args,x2.N,x2.Undo,PUnit.unit),(y.2.2.1.1,y.2.2.1.2.1,y.2.2.1.2.2.1,y.2.2.1.2.2.2.1,y.2.2.1.2.2.2.2.1,PUnit.unit),(y.2.2.2.1.1,y.2.2.2.1.2.1,y.2.2.2.1.2.2.1,y.2.2.2.1.2.2.2.1,y.2.2.2.1.2.2.2.2.1,PUnit.unit),(x3.b,x3.i,x3.h,PUnit.unit),PUnit.unit) (y_1.1,x11,y_1.2.2.1,(y_1.2.2.2.1.1,y_1.2.2.2.1.2.1,x6,y_1.2.2.2.1.2.2.2.1,y_1.2.2.2.1.2.2.2.2.1,PUnit.unit),(y_1.2.2.2.2.1.1,y_1.2.2.2.2.1.2.1,y_1.2.2.2.2.1.2.2.1,y_1.2.2.2.2.1.2.2.2.1,y_1.2.2.2.2.1.2.2.2.2.1,PUnit.unit),(y_1.2.2.2.2.2.1.1,y_1.2.2.2.2.2.1.2.1,y_1.2.2.2.2.2.1.2.2.1,y_1.2.2.2.2.2.1.2.2.2.1,y_1.2.2.2.2.2.1.2.2.2.2.1,PUnit.unit),(y_1.2.2.2.2.2.2.1.1,y_1.2.2.2.2.2.2.1.2.1,y_1.2.2.2.2.2.2.1.2.2.1,PUnit.unit),PUnit.unit)∧Zm79_19 c name (y_1.1,x11,y_1.2.2.1,(y_1.2.2.2.1.1,y_1.2.2.2.1.2.1,x6,y_1.2.2.2.1.2.2.2.1,y_1.2.2.2.1.2.2.2.2.1,PUnit.unit),(y_1.2.2.2.2.1.1,y_1.2.2.2.2.1.2.1,y_1.2.2.2.2.1.2.2.1,y_1.2.2.2.2.1.2.2.2.1,y_1.2.2.2.2.1.2.2.2.2.1,PUnit.unit),(y_1.2.2.2.2.2.1.1,y_1.2.2.2.2.2.1.2.1,y_1.2.2.2.2.2.1.2.2.1,y_1.2.2.2.2.2.1.2.2.2.1,y_1.2.2.2.2.2.1.2.2.2.2.1,PUnit.unit),(y_1.2.2.2.2.2.2.1.1,y_1.2.2.2.2.2.2.1.2.1,y_1.2.2.2.2.2.2.1.2.2.1,PUnit.unit),PUnit.unit)<Zm79_19 c name y_1 else List.length y_1.2.2.2.2.2.1.2.2.2.2.1+List.length x7≤(4294967296:Nat)∧Zi79_15 c name (IntKind.wrap IntKind.i64 (y_1.1-(1:Int)),y_1.2.2.1,(y_1.2.2.2.2.1.1,y_1.2.2.2.2.1.2.1,y_1.2.2.2.2.1.2.2.1,y_1.2.2.2.2.1.2.2.2.1,y_1.2.2.2.2.1.2.2.2.2.1,PUnit.unit),(y_1.2.2.2.2.2.1.1,y_1.2.2.2.2.2.1.2.1,y_1.2.2.2.2.2.1.2.2.1,y_1.2.2.2.2.2.1.2.2.2.1,y_1.2.2.2.2.2.1.2.2.2.2.1++x7,PUnit.unit),(y_1.2.2.2.2.2.2.1.1,y_1.2.2.2.2.2.2.1.2.1,y_1.2.2.2.2.2.2.1.2.2.1,PUnit.unit),PUnit.unit)∧Zm79_15 c name (IntKind.wrap IntKind.i64 (y_1.1-(1:Int)),y_1.2.2.1,(y_1.2.2.2.2.1.1,y_1.2.2.2.2.1.2.1,y_1.2.2.2.2.1.2.2.1,y_1.2.2.2.2.1.2.2.2.1,y_1.2.2.2.2.1.2.2.2.2.1,PUnit.unit),(y_1.2.2.2.2.2.1.1,y_1.2.2.2.2.2.1.2.1,y_1.2.2.2.2.2.1.2.2.1,y_1.2.2.2.2.2.1.2.2.2.1,y_1.2.2.2.2.2.1.2.2.2.2.1++x7,PUnit.unit),(y_1.2.2.2.2.2.2.1.1,y_1.2.2.2.2.2.2.1.2.1,y_1.2.2.2.2.2.2.1.2.2.1,PUnit.unit),PUnit.unit)<Zm79_15 c name y
     else(0:Nat)=(0:Nat)∧asD [DV.agg [Cell.lit (Value.string y.2.2.2.1.1),Cell.lit (Value.int IntKind.i64 y.2.2.2.1.2.1),Cell.sl Cd.ePat y.2.2.2.1.2.2.1,Cell.sl Cd.eCond y.2.2.2.1.2.2.2.1,Cell.sl Cd.eAct y.2.2.2.1.2.2.2.2.1]]=asD [DV.agg [Cell.lit (Value.string (ruleD name c).Name),Cell.lit (Value.int IntKind.i64 (ruleD name c).Sal),Cell.sl Cd.ePat (ruleD name c).Pats,Cell.sl Cd.eCond (ruleD name c).Conds,Cell.sl Cd.eAct (ruleD name c).Acts]]∧asD [DV.box [Cell.sl Cd.byte y.2.2.2.2.1.1,Cell.lit (Value.int IntKind.i64 y.2.2.2.2.1.2.1),Cell.lit (Value.int IntKind.i64 y.2.2.2.2.1.2.2.1)]]=asD [DV.box [Cell.sl Cd.byte (ruC9 c).b,Cell.lit (Value.int IntKind.i64 (ruC9 c).i),Cell.lit (Value.int IntKind.i64 (ruC9 c).h)]]):=by kernel_rfl
theorem vb_spec_l9Draw(c:DCur)(name:ByteArray)(y:List ByteArray×(ByteArray×Int×List DPat×List DCond×List DAct×Unit)×(ByteArray×Int×List DPat×List DCond×List DAct×Unit)×(List Int×Int×Int×Unit)×Unit)(hp:∀p∈Zk79.pre (c,name),p)(hb:∀d∈Zk79.ds (c,name),BdDV d)(hy:I_spec_l9Draw_cut c name y):goalCB EE Zu79 f79 Zk79 Za79 (c,name) 14 (cut_spec_l9Draw (c,name)) y:=by
 have hb_c:BdDV (U:=UU) (.box [.sl .byte c.b,.lit (.int .i64 c.i),.lit (.int .i64 c.h)]):=hb _ (zab)
 have hl_c_b:c.b.length≤9223372036854775807:=Bd.len (U:=UU) (τ:=.byte) (xs:=c.b) (hb_c _ (by simp))
 have hb_name:BdDV (U:=UU) (.one (.lit (.string name))):=hb _ (zaa _ (zab))
 have hl_name:name.size≤9223372036854775807:=Bd.str hb_name
 have hp0:cOk c:=hp _ (zab)
 clear hp hb
 rw[Zw79 c name y]
 dsimp only
 have hM:=ruM_le c
 have w2:IntKind.wrap .i64 (1+belowV (ruC7 c) 3)=ruM c:=wrap_i64 (n:=ruM c) (by omega) (by omega)
 obtain⟨vs,⟨q1,q2,q3,q4,q5,⟨⟩⟩,⟨r1,r2,r3,r4,r5,⟨⟩⟩,⟨cb,ci,ch,⟨⟩⟩,⟨⟩⟩:=y
 obtain⟨hvs,hr,g4,g7⟩:=hy
 simp only[zax,and_true,true_and] at hvs hr g4 g7
 obtain⟨m1,m2,m3,m4,m5⟩:=hr
 have m1:=m1.symm
 subst m1 hvs m2 m3 m4 m5
 have fin:∀d e:DCur,d=ruC7 c→e=ruC8 c→Zi79_15 c name (IntKind.wrap .i64 (1+belowV d 3),ruVars c,(q1,q2,q3,q4,q5,()),(name,intV c iLsal,ruPats c,ruConds c,[],()),(e.b,e.i,e.h,()),()):=by
  intro d e hd he
  have w3:IntKind.wrap .i64 (1+belowV d 3)=ruM c:=by rw[hd];exact w2
  rw[w3]
  refine⟨rfl,rfl,by omega,by omega,by simp only[zbo];omega,?_,?_,?_⟩
  ·show cOk e
   rw[he];exact cOk_below (cOk_ru7 hp0) 3
  ·show iterL (ruAct c) (ruActC c) (ruM c).toNat [] e=ruActs c
   rw[he,ruActs]
  ·show iterC (ruActC c) (ruM c).toNat e=ruC9 c
   rw[he,ruC9]
 refine⟨g4.1,g4.2,fin ⟨cb,ci,ch⟩ (belowC ⟨cb,ci,ch⟩ 3) g7 (by rw[g7,ruC8]),?_⟩
 clear g7 fin
 clear hM w2 g4
 rintro⟨i,vs,⟨q1,q2,q3,q4,q5,⟨⟩⟩,⟨r1,r2,r3,r4,r5,⟨⟩⟩,⟨cb,ci,ch,⟨⟩⟩,⟨⟩⟩ ⟨hvs,hr,g1,g2,g3,g4,g5,g6⟩
 have m1:name=r1:=(congrArg Prod.fst hr).symm
 have m2:r2=intV c iLsal:=congrArg (fun t=>t.2.1) hr
 have m3:r3=ruPats c:=congrArg (fun t=>t.2.2.1) hr
 have m4:r4=ruConds c:=congrArg (fun t=>t.2.2.2.1) hr
 have hvs:vs=ruVars c:=hvs
 clear hr
 subst m1 hvs m2 m3 m4
 have g1:0≤i:=g1
 have g2:i≤3:=g2
 have g3:(r5.length:Int)+i≤3:=g3
 have g4:cOk ⟨cb,ci,ch⟩:=g4
 have g5:iterL (ruAct c) (ruActC c) i.toNat r5 ⟨cb,ci,ch⟩=ruActs c:=g5
 have g6:iterC (ruActC c) i.toNat ⟨cb,ci,ch⟩=ruC9 c:=g6
 refine if_dec (fun hc=> ?_) (fun hc=>⟨by trivial,?_⟩)
 ·have hc:i>0:=hc
  generalize hp:((posN (ruPats c):Nat):Int)=pn at*
  have hAl:=actD_args pn ⟨cb,ci,ch⟩
  have hact:ruAct c ⟨cb,ci,ch⟩=fitA (ruVars c) (actD pn ⟨cb,ci,ch⟩):=by rw[←hp];rfl
  have hactC:ruActC c ⟨cb,ci,ch⟩=actDC pn ⟨cb,ci,ch⟩:=by rw[←hp];rfl
  have kC:=cOk_actD pn g4
  clear hp
  generalize actD pn ⟨cb,ci,ch⟩=a at*
  generalize actDC pn ⟨cb,ci,ch⟩=d at*
  refine⟨g4,⟨rfl,rfl,rfl,rfl,rfl,by omega,by simp only;omega,rfl⟩,?_⟩
  rintro⟨i',k,vs',⟨a1,a2,a3,a4,a5,⟨⟩⟩,⟨q1',q2',q3',q4',q5',⟨⟩⟩,⟨r1',r2',r3',r4',r5',⟨⟩⟩,⟨cb',ci',ch',⟨⟩⟩,⟨⟩⟩ ⟨hi,hv,ha,hr,hcu,k1,k2,hl⟩
  have hi:i=i':=Eq.symm hi
  have hv:vs'=ruVars c:=hv
  have n1:a1=a.Kind:=congrArg Prod.fst ha
  have n2:a2=a.Name:=congrArg (fun t=>t.2.1) ha
  have n3:a4=a.N:=congrArg (fun t=>t.2.2.2.1) ha
  have n4:a5=a.Undo:=congrArg (fun t=>t.2.2.2.2.1) ha
  have m1:r1'=name:=congrArg Prod.fst hr
  have m2:r2'=intV c iLsal:=congrArg (fun t=>t.2.1) hr
  have m3:r3'=ruPats c:=congrArg (fun t=>t.2.2.1) hr
  have m4:r4'=ruConds c:=congrArg (fun t=>t.2.2.2.1) hr
  have m5:r5=r5':=(congrArg (fun t=>t.2.2.2.2.1) hr).symm
  have u1:cb'=d.b:=congrArg Prod.fst hcu
  have u2:ci'=d.i:=congrArg (fun t=>t.2.1) hcu
  have u3:ch'=d.h:=congrArg (fun t=>t.2.2.1) hcu
  have k1:0≤k:=k1
  have k2:k≤a.Args.length:=k2
  have hl:a3=fitAt (ruVars c) a.Args k.toNat:=hl
  clear ha hr hcu
  have m1:=m1.symm
  subst n1 n2 n3 n4 m2 m3 m4 u1 u2 u3 hl hv hi m5
  subst m1
  have hlen:(fitAt (ruVars c) a.Args k.toNat).length=a.Args.length:=fitAt_len _ _ (by omega)
  refine if_dec (fun hk=> ?_) (fun hk=> ?_)
  ·have hk:k<((fitAt (ruVars c) a.Args k.toNat).length:Int):=hk
   rw[hlen] at hk
   have hkn:k.toNat<a.Args.length:=by omega
   have p1:k.toNat<(fitAt (ruVars c) a.Args k.toNat).length:=by omega
   have p2:∀g,k.toNat<((fitAt (ruVars c) a.Args k.toNat).modify k.toNat g).length:=fun g=>by rw[zbf];exact p1
   have ek:(k+1).toNat=k.toNat+1:=by omega
   have nx:∀l:List DExpr,l=fitAt (ruVars c) a.Args (k.toNat+1)→Zi79_19 c name (i,0,ruVars c,(a.Kind,a.Name,a.Args,a.N,a.Undo,()),(q1,q2,q3,q4,q5,()),(name,intV c iLsal,ruPats c,ruConds c,r5,()),(d.b,d.i,d.h,()),()) (i,IntKind.wrap .i64 (k+1),ruVars c,(a.Kind,a.Name,l,a.N,a.Undo,()),(q1',q2',q3',q4',q5',()),(name,intV c iLsal,ruPats c,ruConds c,r5,()),(d.b,d.i,d.h,()),())∧Zm79_19 c name (i,IntKind.wrap .i64 (k+1),ruVars c,(a.Kind,a.Name,l,a.N,a.Undo,()),(q1',q2',q3',q4',q5',()),(name,intV c iLsal,ruPats c,ruConds c,r5,()),(d.b,d.i,d.h,()),())<Zm79_19 c name (i,k,ruVars c,(a.Kind,a.Name,fitAt (ruVars c) a.Args k.toNat,a.N,a.Undo,()),(q1',q2',q3',q4',q5',()),(name,intV c iLsal,ruPats c,ruConds c,r5,()),(d.b,d.i,d.h,()),()):=by
    rintro l rfl
    have hl2:(fitAt (ruVars c) a.Args (k.toNat+1)).length=a.Args.length:=fitAt_len _ _ (by omega)
    rw[wrap_i64 (n:=k+1) (by omega) (by omega)]
    exact⟨⟨rfl,rfl,rfl,rfl,rfl,by omega,by simp only;omega,by rw[ek]⟩,by simp only[Zm79_19];omega⟩
   refine⟨k1,p1,p1,k1,p1,p1,k1,p2 _,p2 _,if_strn (fun o=>⟨k1,p2 _,p2 _,k1,p2 _,p2 _,nx _ ?_⟩) (fun o=>nx _ ?_)⟩
   ·have o:¬(List.getD a.Args k.toNat zExpr).Op=noBytes:=fun e=>o ((congrArg DExpr.Op (fitAt_getm hkn _)).trans e)
    refine(fitAt_mod2 hkn _ _).trans (Eq.trans ?_ (fitAt_next hkn))
    congr 2
    show(⟨_,_,fitT (ruVars c) (List.getD ((fitAt (ruVars c) a.Args k.toNat).modify k.toNat _) k.toNat zExpr).R⟩:DExpr)=_
    rw[fitAt_getm hkn,fitAt_get hkn]
    simp only[fitE,if_neg o]
   ·have o:(List.getD a.Args k.toNat zExpr).Op=noBytes:=(congrArg DExpr.Op (fitAt_getm hkn _)).symm.trans o
    refine(fitAt_mod hkn _).trans (Eq.trans ?_ (fitAt_next hkn))
    congr 2
    show(⟨_,fitT (ruVars c) (List.getD (fitAt (ruVars c) a.Args k.toNat) k.toNat zExpr).L,_⟩:DExpr)=_
    rw[fitAt_get hkn]
    simp only[fitE,if_pos o]
  ·have hk:¬k<((fitAt (ruVars c) a.Args k.toNat).length:Int):=hk
   rw[hlen] at hk
   have hf:fitAt (ruVars c) a.Args k.toNat=a.Args.map (fitE (ruVars c)):=by
    rw[fitAt,zcy (by omega),List.drop_eq_nil_of_le (by omega),zch]
   have e:i.toNat=(i-1).toNat+1:=by omega
   rw[e] at g5 g6
   simp only[iterL,iterC,hact,hactC] at g5 g6
   have fin:Zi79_15 c name (IntKind.wrap .i64 (i-1),ruVars c,(q1',q2',q3',q4',q5',()),(name,intV c iLsal,ruPats c,ruConds c,r5++[⟨a.Kind,a.Name,fitAt (ruVars c) a.Args k.toNat,a.N,a.Undo⟩],()),(d.b,d.i,d.h,()),())∧Zm79_15 c name (IntKind.wrap .i64 (i-1),ruVars c,(q1',q2',q3',q4',q5',()),(name,intV c iLsal,ruPats c,ruConds c,r5++[⟨a.Kind,a.Name,fitAt (ruVars c) a.Args k.toNat,a.N,a.Undo⟩],()),(d.b,d.i,d.h,()),())<Zm79_15 c name (i,ruVars c,(q1,q2,q3,q4,q5,()),(name,intV c iLsal,ruPats c,ruConds c,r5,()),(cb,ci,ch,()),()):=by
    rw[hf,wrap_i64 (n:=i-1) (by omega) (by omega)]
    exact⟨⟨rfl,rfl,by omega,by omega,by simp only[zce,zbq,zbo];omega,kC,g5,g6⟩,by simp only[Zm79_15];omega⟩
   have hr5:r5.length+1≤4294967296:=by omega
   exact⟨hr5,fin⟩
 ·have hc:¬i>0:=hc
  have e:i.toNat=0:=by omega
  rw[e] at g5 g6
  have g5:r5=ruActs c:=g5
  have g6:(⟨cb,ci,ch⟩:DCur)=ruC9 c:=g6
  exact LdR (a:=⟨name,intV c iLsal,ruPats c,ruConds c,r5⟩) (a':=⟨name,intV c iLsal,ruPats c,ruConds c,ruActs c⟩) (d:=⟨cb,ci,ch⟩) (d':=ruC9 c) (by rw[g5]) g6
theorem vd_spec_l9Draw(c:DCur)(name:ByteArray)(hp:∀p∈Zk79.pre (c,name),p)(hb:∀d∈Zk79.ds (c,name),BdDV d):goalCA EE Zu79 f79 Zk79 Za79 (c,name) 14 (cut_spec_l9Draw (c,name)):=by
 have hb_c:BdDV (U:=UU) (.box [.sl .byte c.b,.lit (.int .i64 c.i),.lit (.int .i64 c.h)]):=hb _ (zab)
 have hl_c_b:c.b.length≤9223372036854775807:=Bd.len (U:=UU) (τ:=.byte) (xs:=c.b) (hb_c _ (by simp))
 have hb_name:BdDV (U:=UU) (.one (.lit (.string name))):=hb _ (zaa _ (zab))
 have hl_name:name.size≤9223372036854775807:=Bd.str hb_name
 have hp0:cOk c:=hp _ (zab)
 clear hp hb
 apply @ve _ (let x3:List Int:=[(0:Int),(0:Int),(5:Int),(-5:Int),(100:Int)];let x2:Nat:=x3.length;let x1:Int:=(↑x2:Int);let x0:DCur:=belowC c x1;(0:Int)≤c.i∧c.b.length≤(4294967296:Nat)∧(1:Nat)≤x2∧(0:Int)≤x0.i∧x0.b.length≤(4294967296:Nat)∧Zi79_3 c name (IntKind.wrap IntKind.i64 ((1:Int)+belowV x0 (3:Int)),({data:= #[]:ByteArray},(0:Int),[],[],[],()),(name,List.getD x3 (Int.toNat (belowV c x1)) (0:Int),[],[],[],()),((belowC x0 (3:Int)).b,(belowC x0 (3:Int)).i,(belowC x0 (3:Int)).h,()),())∧∀(y:Int×(ByteArray×Int×List DPat×List DCond×List DAct×PUnit)×(ByteArray×Int×List DPat×List DCond×List DAct×PUnit)×(List Int×Int×Int×PUnit)×PUnit),let x10:DCur:={b:=y.2.2.2.1.1,i:=y.2.2.2.1.2.1,h:=y.2.2.2.1.2.2.1:DCur};let x11:List ByteArray:=posVarsS y.2.2.1.2.2.1;let x12:Nat:=y.2.2.1.2.2.2.1.length;let x13:Nat:=y.2.2.1.2.2.1.length;let x15:List DPat:=[{Kind:=(patD false x10).Kind,Args:=(patD false x10).Args,Not:=false:DPat}];let x9:DCur:=belowC x10 (3:Int);let x16:List DPat:=[{Kind:=(patD true x9).Kind,Args:=(patD true x9).Args,Not:=true:DPat}];let x6:List DPat:=y.2.2.1.2.2.1++x16;let x7:DCur:=belowC (patDC x9) (3:Int);let x8:DCur:=belowC x9 (3:Int);let x14:List DCond:=[{Op:=(1:Int)+belowV x8 (3:Int),L:=fitT x11 (termD (belowC x8 (3:Int))),R:=fitT x11 (termD (termDC (belowC x8 (3:Int)))):DCond}];let x17:DCur:=termDC (termDC (belowC x7 (3:Int)));let x18:DCur:=termDC (termDC (belowC x8 (3:Int)));let x5:List ByteArray:=posVarsS x6;let x4:List DCond:=[{Op:=(1:Int)+belowV x7 (3:Int),L:=fitT x5 (termD (belowC x7 (3:Int))),R:=fitT x5 (termD (termDC (belowC x7 (3:Int)))):DCond}];Zi79_3 c name y→bif decide (y.1>(0:Int)) then cOk x10∧x13+x15.length≤(4294967296:Nat)∧Zi79_3 c name (IntKind.wrap IntKind.i64 (y.1-(1:Int)),(y.2.1.1,y.2.1.2.1,y.2.1.2.2.1,y.2.1.2.2.2.1,y.2.1.2.2.2.2.1,()),(y.2.2.1.1,y.2.2.1.2.1,y.2.2.1.2.2.1++x15,y.2.2.1.2.2.2.1,y.2.2.1.2.2.2.2.1,()),((patDC x10).b,(patDC x10).i,(patDC x10).h,()),())∧Zm79_3 c name (IntKind.wrap IntKind.i64 (y.1-(1:Int)),(y.2.1.1,y.2.1.2.1,y.2.1.2.2.1,y.2.1.2.2.2.1,y.2.1.2.2.2.2.1,()),(y.2.2.1.1,y.2.2.1.2.1,y.2.2.1.2.2.1++x15,y.2.2.1.2.2.2.1,y.2.2.1.2.2.2.2.1,()),((patDC x10).b,(patDC x10).i,(patDC x10).h,()),())<Zm79_3 c name y else cOk x10∧bif onceV x10 (3:Int) then cOk x9∧x13+x16.length≤(4294967296:Nat)∧patArgs x6≤(4294967296:Nat)∧cOk (patDC x9)∧bif onceV (patDC x9) (3:Int) then cOk x7∧x12+x4.length≤(4294967296:Nat)∧I_spec_l9Draw_cut c name (x5,(y.2.1.1,y.2.1.2.1,y.2.1.2.2.1,y.2.1.2.2.2.1,y.2.1.2.2.2.2.1,()),(y.2.2.1.1,y.2.2.1.2.1,x6,y.2.2.1.2.2.2.1++x4,y.2.2.1.2.2.2.2.1,()),(x17.b,x17.i,x17.h,()),()) else I_spec_l9Draw_cut c name (x5,(y.2.1.1,y.2.1.2.1,y.2.1.2.2.1,y.2.1.2.2.2.1,y.2.1.2.2.2.2.1,()),(y.2.2.1.1,y.2.2.1.2.1,x6,y.2.2.1.2.2.2.1,y.2.2.1.2.2.2.2.1,()),(x7.b,x7.i,x7.h,()),()) else patArgs y.2.2.1.2.2.1≤(4294967296:Nat)∧cOk x9∧bif onceV x9 (3:Int) then cOk x8∧x12+x14.length≤(4294967296:Nat)∧I_spec_l9Draw_cut c name (x11,(y.2.1.1,y.2.1.2.1,y.2.1.2.2.1,y.2.1.2.2.2.1,y.2.1.2.2.2.2.1,()),(y.2.2.1.1,y.2.2.1.2.1,y.2.2.1.2.2.1,y.2.2.1.2.2.2.1++x14,y.2.2.1.2.2.2.2.1,()),(x18.b,x18.i,x18.h,()),()) else I_spec_l9Draw_cut c name (x11,(y.2.1.1,y.2.1.2.1,y.2.1.2.2.1,y.2.1.2.2.2.1,y.2.1.2.2.2.2.1,()),(y.2.2.1.1,y.2.2.1.2.1,y.2.2.1.2.2.1,y.2.2.1.2.2.2.1,y.2.2.1.2.2.2.2.1,()),(x8.b,x8.i,x8.h,()),())) (by kernel_rfl)
 dsimp only
 have hk:=cOk_int hp0 iLsal
 have hN:=ruN_le c
 have hPA:=ruP_args c
 have hpa:patArgs (ruPats c)≤4294967296:=by have:=patArgs_small hPA.1;omega
 have fin:∀(vs:List ByteArray)(q:ByteArray×Int×List DPat×List DCond×List DAct×PUnit)(ps:List DPat)(cs:List DCond)(d:DCur),vs=ruVars c→ps=ruPats c→cs=ruConds c→d=ruC7 c→I_spec_l9Draw_cut c name (vs,q,(name,intV c iLsal,ps,cs,[],()),(d.b,d.i,d.h,()),()):=by
  rintro vs q ps cs d rfl rfl rfl rfl
  exact⟨rfl,rfl,cOk_ru7 hp0,rfl⟩
 have w1:IntKind.wrap .i64 (1+belowV (ruC1 c) 3)=ruN c:=wrap_i64 (n:=ruN c) (by omega) (by omega)
 refine⟨hp0.1,hp0.2,by simp,hk.1,hk.2,?_,?_⟩
 ·show Zi79_3 c name (IntKind.wrap .i64 (1+belowV (ruC1 c) 3),(noBytes,0,[],[],[],()),(name,intV c iLsal,[],[],[],()),((ruC2 c).b,(ruC2 c).i,(ruC2 c).h,()),())
  rw[w1]
  exact⟨rfl,by omega,by omega,by simp only[zbo];omega,cOk_ru2 hp0,rfl,rfl⟩
 rintro⟨i,⟨q1,q2,q3,q4,q5,⟨⟩⟩,⟨r1,r2,r3,r4,r5,⟨⟩⟩,⟨cb,ci,ch,⟨⟩⟩,⟨⟩⟩ ⟨hr,g1,g2,g3,g4,g5,g6⟩
 simp only[zax,and_true,true_and] at hr
 obtain⟨m1,m2,m3,m4⟩:=hr
 subst m1 m2 m3 m4
 simp only at g1 g2 g3 g4 g5 g6⊢
 refine if_dec (fun hc=> ?_) (fun hc=> ?_)
 ·have e:i.toNat=(i-1).toNat+1:=by omega
  rw[e] at g5 g6
  rw[wrap_i64 (by omega) (by omega)]
  exact⟨g4,by simp only[zbq,zbo];omega,⟨rfl,by omega,by omega,by simp only[zce,zbq,zbo];omega,cOk_patD g4,g5,g6⟩,by simp only[Zm79_3];omega⟩
 have e:i.toNat=0:=by omega
 rw[e] at g5 g6
 have g5:r3=ruP1 c:=g5
 have g6:(⟨cb,ci,ch⟩:DCur)=ruC3 c:=g6
 have e1:cb=(ruC3 c).b:=congrArg DCur.b g6
 have e2:ci=(ruC3 c).i:=congrArg DCur.i g6
 have e3:ch=(ruC3 c).h:=congrArg DCur.h g6
 subst g5 e1 e2 e3
 clear g6
 have k4:=cOk_below g4 3
 refine⟨g4,if_cond (fun a=> ?_) (fun a=> ?_)⟩
 ·have aP:ruPats c=ruP1 c++[patD true (ruC4 c)]:=if_pos a
  have a5:ruC5 c=patDC (ruC4 c):=if_pos a
  rw[aP] at hpa
  have k6:=cOk_below (cOk_patD k4) 3
  refine⟨k4,by simp only[zbq,zbo];omega,hpa,cOk_patD k4,if_cond (fun b=> ?_) (fun b=> ?_)⟩
  ·have b':onceV (ruC5 c) 3=true:=by rw[a5];exact b
   have c7:ruC7 c=condDC (ruC6 c):=if_pos b'
   exact⟨k6,by simp,fin _ _ (ruP1 c++[patD true (ruC4 c)]) [fitC (posVarsS (ruP1 c++[patD true (ruC4 c)])) (condD (belowC (patDC (ruC4 c)) 3))] (condDC (belowC (patDC (ruC4 c)) 3)) (by rw[ruVars,aP];rfl) aP.symm (by rw[ruConds,if_pos b',ruVars,aP,ruC6,a5]) (by rw[c7,ruC6,a5])⟩
  ·have b':¬onceV (ruC5 c) 3=true:=by rw[a5];exact fun e=>absurd (b.symm.trans e) (by decide)
   have c7:ruC7 c=ruC6 c:=if_neg b'
   exact fin _ _ (ruP1 c++[patD true (ruC4 c)]) [] (belowC (patDC (ruC4 c)) 3) (by rw[ruVars,aP];rfl) aP.symm (by rw[ruConds,if_neg b']) (by rw[c7,ruC6,a5])
 ·have a':¬onceV (ruC3 c) 3=true:=fun e=>absurd (a.symm.trans e) (by decide)
  have aP:ruPats c=ruP1 c:=if_neg a'
  have a5:ruC5 c=ruC4 c:=if_neg a'
  rw[aP] at hpa
  have k6:=cOk_below k4 3
  refine⟨hpa,k4,if_cond (fun b=> ?_) (fun b=> ?_)⟩
  ·have b':onceV (ruC5 c) 3=true:=by rw[a5];exact b
   have c7:ruC7 c=condDC (ruC6 c):=if_pos b'
   exact⟨k6,by simp,fin _ _ (ruP1 c) [fitC (posVarsS (ruP1 c)) (condD (belowC (ruC4 c) 3))] (condDC (belowC (ruC4 c) 3)) (by rw[ruVars,aP]) aP.symm (by rw[ruConds,if_pos b',ruVars,aP,ruC6,a5]) (by rw[c7,ruC6,a5])⟩
  ·have b':¬onceV (ruC5 c) 3=true:=by rw[a5];exact fun e=>absurd (b.symm.trans e) (by decide)
   have c7:ruC7 c=ruC6 c:=if_neg b'
   exact fin _ _ (ruP1 c) [] (belowC (ruC4 c) 3) (by rw[ruVars,aP]) aP.symm (by rw[ruConds,if_neg b']) (by rw[c7,ruC6,a5])
attribute [local irreducible] goalCA goalCB in
theorem Zo79:Holds EE (79,Zk79):=by
 refine holds_cut EE_ok func79 Zk79 (by kernel_rfl) Zu79 (us_ok _) Za79 14 cut_spec_l9Draw (by kernel_rfl) (fun x hp hb=> ?_)
 obtain⟨c,name⟩:=x
 refine⟨vd_spec_l9Draw c name hp hb,fun(y:List ByteArray×(ByteArray×Int×List DPat×List DCond×List DAct×Unit)×(ByteArray×Int×List DPat×List DCond×List DAct×Unit)×(List Int×Int×Int×Unit)×Unit) hy=> ?_⟩
 have hy:I_spec_l9Draw_cut c name y:=hy
 exact vb_spec_l9Draw c name y hp hb hy
def Zh79:HH:=⟨_,Zo79⟩
def Zk27:Con UU where
 α:=DCur
 md:=[.box false]
 of:=fun|[.box [.sl .byte a0,.lit (.int .i64 a1),.lit (.int .i64 a2)]]=>some ⟨a0,a1,a2⟩|_=>none
 ds:=fun c=>[.box [.sl .byte c.b,.lit (.int .i64 c.i),.lit (.int .i64 c.h)]]
 pre:=fun c=>[cOk c]
 res:=fun c=>⟨[.agg [.lit (.string ((defD c)).Name),.sl .eRule ((defD c)).Rules]],true,[.box [.sl .byte ((defDC c)).b,.lit (.int .i64 ((defDC c)).i),.lit (.int .i64 ((defDC c)).h)]]⟩
 law:=by intro l x h;(try simp only at h);split at h<;>cases h;rfl
def Zi27_4(c:DCur):Int×List ByteArray×(ByteArray×List DRule×Unit)×(ByteArray×List DRule×Unit)×(List Int×Int×Int×Unit)×Unit→Prop:=fun(i,ns,q,d,cu,_)=>ns=sLrule∧d.1=strV c sLdef∧0≤i∧i≤4∧d.2.1.length=i∧cOk ⟨cu.1,cu.2.1,cu.2.2.1⟩∧defL (4-i).toNat i.toNat d.2.1 ⟨cu.1,cu.2.1,cu.2.2.1⟩=(defD c).Rules∧defC (4-i).toNat i.toNat ⟨cu.1,cu.2.1,cu.2.2.1⟩=defDC c
def Zm27_4(c:DCur):Int×List ByteArray×(ByteArray×List DRule×Unit)×(ByteArray×List DRule×Unit)×(List Int×Int×Int×Unit)×Unit→Nat:=fun(i,ns,q,d,cu,_)=>(4-i).toNat
def Za27:Zk27.α→Nat→Option (Ann UU):=fun c=>annL [(4,annOf [.slot 5 (5,1024) (.lit (.int .i64)),.slot 4 (4,1024) (.own .str true),.box 2 (2,1024) [.lit .str,.own .eRule true],.box 3 (3,1024) [.lit .str,.own .eRule true],.box 0 (2000000,0) [.shr .byte,.lit (.int .i64),.lit (.int .i64)]] (fun _=>Zi27_4 c) (Zm27_4 c))]
def Zu27:=us [Zh78,Zh30,Zh79]
theorem Zo27:Holds EE (27,Zk27):=by
 refine holds_of EE_ok func27 Zk27 (by kernel_rfl) Zu27 (us_ok _) Za27 (fun(c:DCur) hp hb=> ?_)
 have hb_c:BdDV (U:=UU) (.box [.sl .byte c.b,.lit (.int .i64 c.i),.lit (.int .i64 c.h)]):=hb _ (zab)
 have hl_c_b:c.b.length≤9223372036854775807:=Bd.len (U:=UU) (τ:=.byte) (xs:=c.b) (hb_c _ (by simp))
 have hp0:cOk c:=hp _ (zab)
 clear hp hb
 apply @ve _ (let x1:List ByteArray:=[{data:= #[(102:UInt8),(108:UInt8),(111:UInt8),(119:UInt8)]:ByteArray},{data:= #[(115:UInt8),(104:UInt8),(105:UInt8),(112:UInt8)]:ByteArray},{data:= #[(120:UInt8)]:ByteArray}];let x0:DCur:=strC c x1;cOk c∧(1:Nat)≤x1.length∧Zi27_4 c ((0:Int),[{data:= #[(114:UInt8),(49:UInt8)]:ByteArray},{data:= #[(114:UInt8),(50:UInt8)]:ByteArray},{data:= #[(114:UInt8),(51:UInt8)]:ByteArray},{data:= #[(114:UInt8),(52:UInt8)]:ByteArray}],({data:= #[]:ByteArray},[],()),(strV c x1,[],()),(x0.b,x0.i,x0.h,()),())∧∀(y:Int×List ByteArray×(ByteArray×List DRule×PUnit)×(ByteArray×List DRule×PUnit)×(List Int×Int×Int×PUnit)×PUnit),let x4:DCur:={b:=y.2.2.2.2.1.1,i:=y.2.2.2.2.1.2.1,h:=y.2.2.2.2.1.2.2.1:DCur};let x2:DCur:=belowC x4 (4:Int);let x3:Int:=IntKind.wrap IntKind.i64 ((1:Int)+belowV x4 (4:Int));let x5:List DRule:=[ruleD (List.getD y.2.1 y.1.toNat noBytes) x2];Zi27_4 c y→(0:Int)≤y.2.2.2.2.1.2.1∧y.2.2.2.2.1.1.length≤(4294967296:Nat)∧bif decide (y.1<x3) then bif decide (y.1<(4:Int)) then(0:Int)≤y.1∧y.1.toNat<y.2.1.length∧y.1.toNat<y.2.1.length∧cOk x2∧y.2.2.2.1.2.1.length+x5.length≤(4294967296:Nat)∧Zi27_4 c (IntKind.wrap IntKind.i64 (y.1+(1:Int)),y.2.1,(y.2.2.1.1,y.2.2.1.2.1,()),(y.2.2.2.1.1,y.2.2.2.1.2.1++x5,()),((ruC9 x2).b,(ruC9 x2).i,(ruC9 x2).h,()),())∧Zm27_4 c (IntKind.wrap IntKind.i64 (y.1+(1:Int)),y.2.1,(y.2.2.1.1,y.2.2.1.2.1,()),(y.2.2.2.1.1,y.2.2.2.1.2.1++x5,()),((ruC9 x2).b,(ruC9 x2).i,(ruC9 x2).h,()),())<Zm27_4 c y else(0:Nat)=(0:Nat)∧asD [DV.agg [CS y.2.2.2.1.1,CL .eRule y.2.2.2.1.2.1]]=asD [DV.agg [CS ((defD c).Name),CL .eRule (defD c).Rules]]∧asD [DV.box [CL .byte x2.b,CI x2.i,CI x2.h]]=asD [DV.box [CL .byte (defDC c).b,CI ((defDC c).i),CI ((defDC c).h)]] else(0:Nat)=(0:Nat)∧asD [DV.agg [CS y.2.2.2.1.1,CL .eRule y.2.2.2.1.2.1]]=asD [DV.agg [CS ((defD c).Name),CL .eRule (defD c).Rules]]∧asD [DV.box [CL .byte x2.b,CI x2.i,CI x2.h]]=asD [DV.box [CL .byte (defDC c).b,CI ((defDC c).i),CI ((defDC c).h)]]) (by kernel_rfl)
 dsimp only
 have hk:=cOk_str hp0 sLdef
 refine⟨hp0,by simp,⟨rfl,rfl,by omega,by omega,rfl,hk,rfl,rfl⟩,?_⟩
 rintro⟨i,ns,⟨q1,q2,⟨⟩⟩,⟨d1,d2,⟨⟩⟩,⟨cb,ci,ch,⟨⟩⟩,⟨⟩⟩ ⟨hns,hd,g1,g2,g3,g4,g5,g6⟩
 simp only at hns hd g1 g2 g3 g4 g5 g6⊢
 subst hns hd
 have hb:=belowV_lt (c:=⟨cb,ci,ch⟩) (n:=4) (by omega)
 have hB:=cOk_below g4 4
 rw[wrap_i64 (n:=1+belowV ⟨cb,ci,ch⟩ 4) (by omega) (by omega)]
 have stop:(defD c).Rules=d2∧defDC c=belowC ⟨cb,ci,ch⟩ 4→asD [DV.agg [.lit (.string (strV c sLdef)),.sl .eRule d2]]=asD [DV.agg [.lit (.string (defD c).Name),.sl .eRule (defD c).Rules]]∧asD [DV.box [.sl .byte (belowC ⟨cb,ci,ch⟩ 4).b,.lit (.int .i64 (belowC ⟨cb,ci,ch⟩ 4).i),.lit (.int .i64 (belowC ⟨cb,ci,ch⟩ 4).h)]]=asD [DV.box [.sl .byte (defDC c).b,.lit (.int .i64 (defDC c).i),.lit (.int .i64 (defDC c).h)]]:=fun e=>by
  rw[e.1,e.2];exact⟨rfl,rfl⟩
 refine⟨g4.1,g4.2,if_dec (fun hc=>if_dec (fun h4=> ?_) (fun h4=>⟨by trivial,stop ?_⟩)) (fun hc=>⟨by trivial,stop ?_⟩)⟩
 ·have e:(4-i).toNat=(4-(i+1)).toNat+1:=by omega
  have e2:(i+1).toNat=i.toNat+1:=by omega
  have e3:((i.toNat:Nat):Int)=i:=by omega
  rw[e] at g5 g6
  simp only[defL,defC,e3,if_pos hc] at g5 g6
  rw[wrap_i64 (n:=i+1) (by omega) (by omega)]
  have hl:sLrule.length=4:=rfl
  refine⟨g1,by omega,by omega,hB,by simp only[zbq,zbo];omega,⟨rfl,rfl,by omega,by omega,?_,cOk_ru9 hB,by simp only[e2];exact g5,by simp only[e2];exact g6⟩,by simp only[Zm27_4];omega⟩
  simp only[zce,zbq,zbo];omega
 ·have e:(4-i).toNat=0:=by omega
  rw[e] at g5 g6
  exact⟨g5.symm,g6.symm⟩
 ·have e3:((i.toNat:Nat):Int)=i:=by omega
  cases hn:(4-i).toNat with
  |zero=>rw[hn] at g5 g6;exact⟨g5.symm,g6.symm⟩
  |succ n=>
   rw[hn] at g5 g6
   simp only[defL,defC,e3,if_neg hc] at g5 g6
   exact⟨g5.symm,g6.symm⟩
def Zh27:HH:=⟨_,Zo27⟩
theorem argD_ok(c:DCur):argOk (argD c)=true:=by
 unfold argD;split
 ·simp[argOk]
 ·split
  ·have h:=smallV_ok (belowC c 6)
   simp[argOk,h]
  ·have h:=strV_all (belowC c 6) (l:=sLxyz) varOk (by decide) (by rfl)
   simp[argOk,h]
theorem termD_ok(c:DCur):termOk (termD c)=true:=by
 unfold termD;split
 ·have h:=smallV_ok (belowC c 3)
  simp[termOk,argOk,h]
 ·have h:=strV_all (belowC c 3) (l:=sLxy) varOk (by decide) (by rfl)
  simp[termOk,argOk,h]
theorem fitT_ok{vars:List ByteArray}(hv:∀s,s∈vars→varOk s=true){a:DArg}(ha:termOk a=true):termOk (fitT vars a)=true∧knownIn vars (fitT vars a)=true:=by
 unfold fitT;split
 ·rename_i h;exact⟨ha,h⟩
 ·split
  ·exact⟨by rfl,by rfl⟩
  ·have hm:List.getD vars 0 noBytes∈vars:=getD_in (by omega)
   have h1:=hv _ hm
   have h2:hasS vars (List.getD vars 0 noBytes)=true:=hasS_iff.2 hm
   exact⟨by simp only[termOk,argOk,h1];simp,by simp only[knownIn,h2,Bool.or_true]⟩
theorem exprD_ok{vars:List ByteArray}(hv:∀s,s∈vars→varOk s=true)(c:DCur):exprOk (fitE vars (exprD c))=true∧exprIn vars (fitE vars (exprD c))=true:=by
 have hz:knownIn vars zArg=true:=by rfl
 have h1:=fitT_ok hv (termD_ok c)
 unfold exprD;split
 ·have h2:=fitT_ok hv (termD_ok (strC (belowC (termDC c) 4) sLop))
  have h3:=strV_all (belowC (termDC c) 4) (l:=sLop) (fun s=> !decide (s=noBytes)&&(decide (s=bPlus)||decide (s=bMinus))) (by decide) (by rfl)
  simp only[zaf,zbd,decide_eq_false_iff_not] at h3
  obtain⟨h4,h5⟩:=h3
  simp only[fitE,exprOk,exprIn,if_neg h4,decide_eq_false h4,cond_false,h5,cond_true,h1.1,h1.2,h2.1,h2.2,Bool.and_self,and_self]
 ·simp only[fitE,exprOk,exprIn,if_true,decide_true,cond_true,h1.1,h1.2,hz,Bool.and_self,and_self]
theorem condD_ok{vars:List ByteArray}(hv:∀s,s∈vars→varOk s=true)(c:DCur):kondIn vars (fitC vars (condD c))=true:=by
 have hb:=belowV_lt (c:=c) (n:=3) (by omega)
 have h1:=fitT_ok hv (termD_ok (belowC c 3))
 have h2:=fitT_ok hv (termD_ok (termDC (belowC c 3)))
 simp only[kondIn,kondOk,fitC,condD,h1.1,h1.2,h2.1,h2.2,zdb]
 exact decide_eq_true ⟨by omega,by omega⟩
theorem actAs_ok{vars:List ByteArray}(hv:∀s,s∈vars→varOk s=true)(c:DCur):exprsOk ((actAs c).map (fitE vars))=true∧((actAs c).map (fitE vars)).all (exprIn vars)=true:=by
 have h:=iterL_all (f:=exprD) (g:=exprDC) (fun e=>exprOk (fitE vars e)=true∧exprIn vars (fitE vars e)=true) (exprD_ok hv) (actN c).toNat [] (actC2 c) (fun x hx=>by cases hx)
 have hl:=actAs_len c
 refine⟨?_,?_⟩
 ·simp only[exprsOk,zaf,decide_eq_true_eq,zcb,zco,zaz]
  exact⟨by omega,fun x ⟨e,he,hx⟩=>hx▸(h e he).1⟩
 ·simp only[zcb,zaz]
  exact fun x ⟨e,he,hx⟩=>hx▸(h e he).2
theorem actK_in(c:DCur):1≤actK c∧actK c≤6:=by
 have h:=intV_all c (l:=iLact) (fun k=>decide (1≤k∧k≤6)) (by decide) (by rfl)
 exact of_decide_eq_true h
theorem actD_ok{vars:List ByteArray}(hv:∀s,s∈vars→varOk s=true){pats:Int}(h0:1≤pats)(h1:pats≤3)(c:DCur):actIn vars pats (fitA vars (actD pats c))=true:=by
 have hb:=belowV_lt (c:=intC c iLact) (n:=pats) (by omega)
 have hn:nameOk (actName c)=true:=strV_all (intC c iLact) (l:=sLname) nameOk (by decide) (by rfl)
 obtain⟨e1,e2⟩:=actAs_ok hv c
 have hK:=actK_in c
 have hT:0≤actT c∧actT c≤100000:=by
  unfold actT;split
  ·have h:=intV_all (actC3 c) (l:=iLtime) (fun k=>decide (0≤k∧k≤100000)) (by decide) (by rfl)
   simpa using h
  ·omega
 unfold actD
 split
 ·rename_i k2
  simp only[actIn,fitA,actOk,bareA,dropIn,k2,List.map_nil,zbo,zes,zdb,decide_true,show¬((2:Int)=1) by decide,decide_false,cond_false,cond_true,zck,zaf,decide_eq_true_eq,zbd,decide_eq_false_iff_not]
  omega
 ·rename_i k2
  split
  ·rename_i k56
   have n1:¬actK c=1:=by omega
   have n3:¬actK c=3:=by omega
   have n4:¬actK c=4:=by omega
   have h5:(decide (actK c=5)||decide (actK c=6))=true:=by simpa using k56
   simp only[actIn,fitA,actOk,bareA,dropIn,decide_eq_false n1,decide_eq_false k2,decide_eq_false n3,decide_eq_false n4,h5,List.map_nil,zbo,zes,decide_true,cond_false,cond_true,zbi,zea,Bool.and_self,zdb]
  ·rename_i k56
   have hd:dropIn pats (fitA vars ⟨actK c,actName c,actAs c,actT c,actU c⟩)=true:=by simp[dropIn,fitA,k2]
   have ha:actOk (fitA vars ⟨actK c,actName c,actAs c,actT c,actU c⟩)=true:=by
    have hc:actK c=1∨actK c=3∨actK c=4:=by omega
    rcases hc with k|k|k
    ·have t0:actT c=0:=if_neg (by omega)
     have u0:actU c=noBytes:=if_neg (fun e=>by have:=e.1;omega)
     simp only[fitA,actOk,k,hn,e1,t0,u0,decide_true,cond_true,Bool.and_self]
    ·have t0:actT c=0:=if_neg (by omega)
     have u0:undoOk (actU c)=true:=by
      unfold actU;split
      ·have h:=strV_all (belowC (actC4 c) 2) (l:=sLundo) undoOk (by decide) (by rfl)
       exact h
      ·rfl
     simp only[fitA,actOk,k,hn,e1,t0,u0,decide_true,cond_true,show¬((3:Int)=1) by decide,show¬((3:Int)=2) by decide,decide_false,cond_false,Bool.and_self]
    ·have u0:actU c=noBytes:=if_neg (fun e=>by have:=e.1;omega)
     simp only[fitA,actOk,k,hn,e1,u0,decide_eq_true hT,decide_true,cond_true,show¬((4:Int)=1) by decide,show¬((4:Int)=2) by decide,show¬((4:Int)=3) by decide,decide_false,cond_false,Bool.and_self]
   simp only[actIn,hd,ha,zck]
   exact e2
theorem patD_ok(b:Bool)(c:DCur):patOk (patD b c)=true:=by
 have h1:nameOk (strV c sLkind)=true:=strV_all c (l:=sLkind) nameOk (by decide) (by rfl)
 have hl:=patN_le c
 have h2:=iterL_all (f:=argD) (g:=argDC) (fun a=>argOk a=true) argD_ok (patN c).toNat [] (strC c sLkind) (fun x hx=>by cases hx)
 have h3:=iterL_len argD argDC (patN c).toNat [] (strC c sLkind)
 simp only[zbo] at h3
 have h4:(patD b c).Args.length≤5:=by
  show(iterL argD argDC (patN c).toNat [] (strC c sLkind)).length≤5
  omega
 simp only[patOk,zaf,decide_eq_true_eq,zcb]
 exact⟨⟨h1,h4⟩,h2⟩
theorem ruP1_facts(c:DCur):(ruP1 c).length=(ruN c).toNat∧∀p,p∈ruP1 c→patOk p=true∧p.Not=false:=by
 refine⟨?_,iterL_all (f:=patD false) (g:=patDC) (fun p=>patOk p=true∧p.Not=false) (fun d=>⟨patD_ok false d,rfl⟩) (ruN c).toNat [] (ruC2 c) (fun x hx=>by cases hx)⟩
 rw[ruP1,iterL_len];simp
theorem posN_pos{ps:List DPat}(h:∀p,p∈ps→p.Not=false):posN ps=ps.length:=by
 rw[posN,List.filter_eq_self.2 (fun p hp=>by rw[h p hp];rfl)]
theorem ruPats_ok(c:DCur):patsOk (ruPats c)=true∧1≤posN (ruPats c)∧posN (ruPats c)≤3∧∀p,p∈ruPats c→patOk p=true:=by
 obtain⟨hl,hp⟩:=ruP1_facts c
 have hN:=ruN_le c
 have hP:=posN_pos (fun p h=>(hp p h).2)
 have main:∀ps:List DPat,(ps=ruP1 c∨∃q,ps=ruP1 c++[q]∧patOk q=true∧q.Not=true)→patsOkI ps=true∧1≤posN ps∧posN ps≤3∧∀p,p∈ps→patOk p=true:=by
  rintro ps (rfl|⟨q,rfl,hq,hn⟩)
  ·refine⟨?_,by omega,by omega,fun p h=>(hp p h).1⟩
   simp only[patsOkI,zaf,decide_eq_true_eq,allI_all,patAtI,beq_iff_eq]
   refine⟨⟨by omega,by omega⟩,fun j hj=> ?_⟩
   have hm:List.getD (ruP1 c) j zPat∈ruP1 c:=getD_in hj
   refine⟨(hp _ hm).1,?_⟩
   rw[notAt,(hp _ hm).2,decide_eq_false (by omega)]
  ·have hQ:posN (ruP1 c++[q])=(ruP1 c).length:=by
    rw[posN,List.filter_append,zce]
    have:(List.filter (fun p:DPat=> !p.Not) [q])=[]:=by simp[hn]
    rw[this];exact hP
   have hall:∀p,p∈ruP1 c++[q]→patOk p=true:=fun p h=>by
    rcases zao.1 h with h|h
    ·exact(hp p h).1
    ·rw[zau] at h;subst h;exact hq
   refine⟨?_,by omega,by omega,hall⟩
   simp only[patsOkI,zaf,decide_eq_true_eq,allI_all,patAtI,beq_iff_eq,zce,zbq,zbo,hQ]
   refine⟨⟨by omega,by omega⟩,fun j hj=> ?_⟩
   have hm:List.getD (ruP1 c++[q]) j zPat∈ruP1 c++[q]:=getD_in (by simp;omega)
   refine⟨hall _ hm,?_⟩
   by_cases h:j<(ruP1 c).length
   ·have e:List.getD (ruP1 c++[q]) j zPat=List.getD (ruP1 c) j zPat:=by
     rw[zac,zac,zaq h]
    have hm':List.getD (ruP1 c) j zPat∈ruP1 c:=getD_in h
    rw[notAt,e,(hp _ hm').2,decide_eq_false (by omega)]
   ·have e:List.getD (ruP1 c++[q]) j zPat=q:=by
     have:j=(ruP1 c).length:=by omega
     rw[zac,this,zap (zca _),zev];rfl
    rw[notAt,e,hn,decide_eq_true (by omega)]
 have:=main (ruPats c) (by
  unfold ruPats;split
  ·exact .inr ⟨_,rfl,patD_ok _ _,rfl⟩
  ·exact .inl rfl)
 rw[patsOkI_eq] at this
 exact this
theorem ruVars_ok(c:DCur):∀s,s∈ruVars c→varOk s=true:=by
 intro s hs
 obtain⟨p,hp,hn,a,ha,hk,rfl⟩:=posVarsS_mem.1 hs
 have h:=(ruPats_ok c).2.2.2 p hp
 simp only[patOk,zaf,zcb] at h
 have:=h.2 a ha
 simp only[argOk,hk,decide_true,cond_true,zaf] at this
 exact this.1
theorem ruleD_ok{name:ByteArray}(hn:nameOk name=true)(c:DCur):ruleOk (ruleD name c)=true:=by
 obtain⟨h1,h2,h3,_⟩:=ruPats_ok c
 have hv:=ruVars_ok c
 have hs:=intV_all c (l:=iLsal) (fun k=>decide (-100≤k∧k≤100)) (by decide) (by rfl)
 have hM:=ruM_le c
 have hk:kondsIn (ruConds c) (posVarsS (ruPats c))=true:=by
  unfold ruConds;split
  ·have:=condD_ok hv (ruC6 c)
   simp only[kondsIn,zbq,zbo,zdr,zes,zdb]
   rw[show kondIn (posVarsS (ruPats c)) (fitC (ruVars c) (condD (ruC6 c)))=true from this];rfl
  ·rfl
 have ha:actsIn (ruActs c) (posVarsS (ruPats c)) (posN (ruPats c))=true:=by
  have h:=iterL_all (f:=ruAct c) (g:=ruActC c) (fun a=>actIn (ruVars c) (posN (ruPats c)) a=true) (fun d=>actD_ok hv (by omega) (by omega) d) (ruM c).toNat [] (ruC8 c) (fun x hx=>by cases hx)
  have hl:(ruActs c).length=(ruM c).toNat:=by rw[ruActs,iterL_len];simp
  simp only[actsIn,zaf,decide_eq_true_eq,zcb]
  exact⟨⟨by omega,by omega⟩,h⟩
 simp only[ruleOk,ruleD,hn,h1,hk,ha,zdb,zck]
 exact hs
theorem nameK{s:ByteArray}(h:nameOk s=true):s.size≤12:=by
 simp only[nameOk,zaf,decide_eq_true_eq] at h
 exact h.1.1.2
theorem argK{a:DArg}(h:argOk a=true):sizeArg a≤40:=by
 have hz:zVal.S.size=0:=rfl
 have hn:noBytes.size=0:=rfl
 simp only[argOk,varOk] at h
 simp only[sizeArg,sizeVal]
 by_cases k1:a.K=1
 ·simp only[decide_eq_true k1,cond_true,zaf,decide_eq_true_eq] at h
  rw[h.2,hz];omega
 ·by_cases k2:a.K=2
  ·simp only[decide_eq_false k1,decide_eq_true k2,cond_true,cond_false,zaf,decide_eq_true_eq] at h
   have:=valK h.1
   rw[h.2,hn];omega
  ·by_cases k3:a.K=3
   ·simp only[decide_eq_false k1,decide_eq_false k2,decide_eq_true k3,cond_true,cond_false,zaf,decide_eq_true_eq] at h
    rw[h.1,h.2,hz,hn];omega
   ·simp only[decide_eq_false k1,decide_eq_false k2,decide_eq_false k3,cond_false] at h
    cases h
theorem termK{a:DArg}(h:termOk a=true):sizeArg a≤40:=by
 simp only[termOk,zaf] at h
 exact argK h.1
theorem patK{p:DPat}(h:patOk p=true):sizePat p≤217:=by
 simp only[patOk,zaf,decide_eq_true_eq,zcb] at h
 have h1:=nameK h.1.1
 have h2:=sumK sizeArg 40 p.Args (fun a ha=>argK (h.2 a ha))
 simp only[sizePat,sizeArgS];omega
theorem kondK{c:DCond}(h:kondOk c=true):sizeCond c≤80:=by
 simp only[kondOk,zaf] at h
 have h1:=termK h.1.2
 have h2:=termK h.2
 simp only[sizeCond];omega
theorem exprK{e:DExpr}(h:exprOk e=true):sizeExpr e≤81:=by
 have hz:sizeArg zArg=0:=rfl
 have hn:noBytes.size=0:=rfl
 have hp:bPlus.size=1:=rfl
 have hm:bMinus.size=1:=rfl
 simp only[exprOk] at h
 simp only[sizeExpr]
 by_cases k:e.Op=noBytes
 ·simp only[decide_eq_true k,cond_true,zaf,decide_eq_true_eq] at h
  have:=termK h.1
  rw[k,h.2,hz,hn];omega
 ·simp only[decide_eq_false k,cond_false] at h
  by_cases k2:e.Op=bPlus
  ·simp only[k2,decide_true,Bool.true_or,cond_true,zaf] at h
   have h1:=termK h.1
   have h2:=termK h.2
   rw[k2,hp];omega
  ·by_cases k3:e.Op=bMinus
   ·simp only[k3,decide_true,Bool.or_true,cond_true,zaf] at h
    have h1:=termK h.1
    have h2:=termK h.2
    rw[k3,hm];omega
   ·simp only[decide_eq_false k2,decide_eq_false k3,Bool.or_self,cond_false] at h
    cases h
theorem exprsK{l:List DExpr}(h:exprsOk l=true):sizeExprS l≤410:=by
 simp only[exprsOk,zaf,decide_eq_true_eq,zcb] at h
 have h2:=sumK sizeExpr 81 l (fun a ha=>exprK (h.2 a ha))
 simp only[sizeExprS];omega
theorem actSizeK{a:DAct}(h:actOk a=true):sizeAct a≤434:=by
 have hn:noBytes.size=0:=rfl
 have h1:(nameOk a.Name=true∨a.Name=noBytes)∧(exprsOk a.Args=true∨a.Args.length=0)∧(undoOk a.Undo=true∨a.Undo=noBytes):=by
  simp only[actOk,bareA] at h
  grind
 obtain⟨g1,g2,g3⟩:=h1
 have e1:a.Name.size≤12:=by
  rcases g1 with g|g
  ·exact nameK g
  ·rw[g,hn];omega
 have e2:sizeExprS a.Args≤410:=by
  rcases g2 with g|g
  ·exact exprsK g
  ·have:a.Args=[]:=List.length_eq_zero_iff.1 g
   rw[this];simp[sizeExprS]
 have e3:a.Undo.size≤12:=by
  rcases g3 with g|g
  ·exact undoK g
  ·rw[g,hn];omega
 simp only[sizeAct];omega
theorem ruleK{r:DRule}(h:ruleOk r=true):sizeRule r≤5000:=by
 have hs:=rule_small h
 have hp:patsOkI r.Pats=true:=by
  simp only[ruleOk,zaf] at h
  rw[patsOkI_eq];exact h.1.1.2
 simp only[patsOkI,zaf,decide_eq_true_eq,allI_all,patAtI] at hp
 simp only[ruleOk,kondsIn,actsIn,zaf,decide_eq_true_eq,zcb,kondIn,actIn] at h
 obtain⟨⟨⟨⟨h1,_⟩,_⟩,⟨h2,h3⟩⟩,⟨⟨_,h4⟩,h5⟩⟩:=h
 have n1:=nameK h1
 have s1:=sumK sizePat 217 r.Pats (fun p hpm=>by
  obtain⟨j,hj,rfl⟩:=zbk hpm
  have:=(hp.2 j hj).1
  rw[zac,zad hj] at this
  exact patK this)
 have s2:=sumK sizeCond 80 r.Conds (fun c hc=>kondK (h3 c hc).1.1)
 have s3:=sumK sizeAct 434 r.Acts (fun a ha=>actSizeK (h5 a ha).1.1)
 have:=hs.1.pats
 simp only[sizeRule,sizePatS,sizeCondS,sizeActS];omega
theorem defK{d:DDef}(h:defOk d=true):sizeDef d≤61000:=by
 simp only[defOk,zaf,decide_eq_true_eq,allI_all,defAtR] at h
 have n1:=nameK h.1.1
 have s1:=sumK sizeRule 5000 d.Rules (fun r hr=>by
  obtain⟨j,hj,rfl⟩:=zbk hr
  have:=(h.2 j hj).1
  rw[zac,zad hj] at this
  exact ruleK this)
 simp only[sizeDef,sizeRuleS];omega
theorem defL_spec:∀(k i:Nat)(l:List DRule)(c:DCur),∃t:List DRule,defL k i l c=l++t∧t.length≤k∧(1≤k→i=0→1≤t.length)∧∀j,j<t.length→∃d,List.getD t j zRule=ruleD (List.getD sLrule (i+j) noBytes) d
 |0,i,l,c=>⟨[],by simp[defL],by simp,by omega,fun j hj=>by simp at hj⟩
 |k+1,i,l,c=>by
  have hb:=belowV_lt (c:=c) (n:=4) (by omega)
  unfold defL
  split
  ·obtain⟨t,h1,h2,_,h4⟩:=defL_spec k (i+1) (l++[ruleD (List.getD sLrule i noBytes) (belowC c 4)]) (ruC9 (belowC c 4))
   refine⟨ruleD (List.getD sLrule i noBytes) (belowC c 4)::t,by rw[h1,zbr];rfl,by simp only[zbq];omega,fun _ _=>by simp only[zbq];omega,fun j hj=> ?_⟩
   cases j with
   |zero=>exact⟨belowC c 4,rfl⟩
   |succ j=>
    obtain⟨d,hd⟩:=h4 j (by simp only[zbq] at hj;omega)
    exact⟨d,by rw[show i+(j+1)=i+1+j by omega];exact hd⟩
  ·rename_i h
   exact⟨[],by simp,by simp,fun _ hi=>by omega,fun j hj=>by simp at hj⟩
theorem sLrule_ok:∀j,j<4→nameOk (List.getD sLrule j noBytes)=true:=by decide
theorem sLrule_ne:∀j,j<4→∀k,k<j→¬List.getD sLrule k noBytes=List.getD sLrule j noBytes:=by decide
theorem defD_ok(c:DCur):defOk (defD c)=true:=by
 obtain⟨t,h1,h2,h3,h4⟩:=defL_spec 4 0 [] (strC c sLdef)
 have e:(defD c).Rules=t:=h1
 have hn:nameOk (defD c).Name=true:=strV_all c (l:=sLdef) nameOk (by decide) (by rfl)
 simp only[defOk,zaf,decide_eq_true_eq,allI_all,defAtR,hn,e,true_and]
 have h3:=h3 (by omega) rfl
 refine⟨⟨by omega,by omega⟩,fun j hj=> ?_⟩
 obtain⟨d,hd⟩:=h4 j hj
 rw[zbw] at hd
 refine⟨by rw[hd];exact ruleD_ok (sLrule_ok j (by omega)) d,?_⟩
 refine idxI_found (i:=j) hj (by simp) (fun k hk=>decide_eq_false fun e=> ?_)
 obtain⟨d',hd'⟩:=h4 k (by omega)
 rw[zbw] at hd'
 rw[hd,hd'] at e
 exact sLrule_ne j (by omega) k hk e
theorem defD_facts(c:DCur):(∀r,r∈(defD c).Rules→smallR r∧firstP r)∧(defD c).Rules.length≤12∧sizeDef (defD c)≤61000:=
 ⟨(def_small (defD_ok c)).1,(def_small (defD_ok c)).2,defK (defD_ok c)⟩
def bareF(f:DFact):Bool:=decide (f.Kind=noBytes)&&decide (f.Fields.length=0)
def effectOk(e:DEffect):Bool:=
 bif decide (e.Kind=1) then factOk e.F&&decide (e.Id=0)&&decide (e.N=0)&&decide (e.Undo=noBytes)
 else bif decide (e.Kind=2) then bareF e.F&&decide (1≤e.Id)&&decide (e.N=0)&&decide (e.Undo=noBytes)
 else bif decide (e.Kind=3) then factOk e.F&&decide (e.Id=0)&&decide (e.N=0)&&undoOk e.Undo
 else bif decide (e.Kind=4) then factOk e.F&&decide (e.Id=0)&&decide (0≤e.N∧e.N≤100000)&&decide (e.Undo=noBytes)
 else bif decide (e.Kind=5)||decide (e.Kind=6) then bareF e.F&&decide (e.Id=0)&&decide (e.N=0)&&decide (e.Undo=noBytes) else false
def effS(m:DMatch)(a:DAct):DEffect:=if a.Kind=2 then⟨a.Kind,zFact,List.getD m.Ids a.N.toNat 0,0,a.Undo⟩ else⟨a.Kind,⟨a.Name,compsV a.Args m.Binds⟩,0,if a.Kind=4 then a.N else 0,a.Undo⟩
def okS(m:DMatch)(a:DAct):Bool:=(decide (a.Kind=2)||compsB a.Args m.Binds)&&effectOk (effS m a)
def calcA(a:DAct):Bool:=decide (a.Kind=1)||decide (a.Kind=3)||decide (a.Kind=4)
def effI(m:DMatch)(a:DAct):DEffect:=if a.Kind=2 then⟨a.Kind,zFact,List.getD m.Ids a.N.toNat 0,0,noBytes⟩ else if calcA a then(if compsB a.Args m.Binds then⟨a.Kind,⟨a.Name,compsV a.Args m.Binds⟩,0,a.N,a.Undo⟩ else zEffect) else⟨a.Kind,zFact,0,0,noBytes⟩
def okI(m:DMatch)(a:DAct):Bool:=(!calcA a||compsB a.Args m.Binds)&&effectOk (effI m a)
theorem act_same{m:DMatch}{a:DAct}(h:actOk a=true):okI m a=okS m a∧(okS m a=true→effI m a=effS m a):=by
 obtain⟨K,Nm,As,N,U⟩:=a
 by_cases h1:K=1
 ·subst h1
  simp only[actOk,decide_true,cond_true,zaf,decide_eq_true_eq] at h
  obtain⟨⟨⟨a1,a2⟩,rfl⟩,rfl⟩:=h
  cases hc:compsB As m.Binds<;>simp[okI,okS,effI,effS,calcA,hc]
 by_cases h2:K=2
 ·subst h2
  simp only[actOk,bareA,show¬((2:Int)=1) by decide,decide_false,cond_false,decide_true,cond_true,zaf,decide_eq_true_eq] at h
  obtain⟨⟨⟨a1,a2⟩,rfl⟩,a3⟩:=h
  simp[okI,okS,effI,effS,calcA]
 by_cases h3:K=3
 ·subst h3
  simp only[actOk,show¬((3:Int)=1) by decide,show¬((3:Int)=2) by decide,decide_false,cond_false,decide_true,cond_true,zaf,decide_eq_true_eq] at h
  obtain⟨⟨⟨a1,a2⟩,rfl⟩,a3⟩:=h
  cases hc:compsB As m.Binds<;>simp[okI,okS,effI,effS,calcA,hc]
 by_cases h4:K=4
 ·subst h4
  cases hc:compsB As m.Binds<;>simp[okI,okS,effI,effS,calcA,hc]
 ·have hb:Nm=noBytes∧As.length=0∧U=noBytes∧N=0:=by
   simp only[actOk,bareA] at h
   grind
  obtain⟨rfl,ha,rfl,rfl⟩:=hb
  have ha:As=[]:=zbh ha
  subst ha
  have hc:compsB [] m.Binds=true:=rfl
  have hv:compsV [] m.Binds=[]:=rfl
  simp[okI,okS,effI,effS,calcA,hc,hv,h1,h2,h3,h4,zFact]
def actsOf(d:DDef)(m:DMatch):List DAct:=(List.getD d.Rules m.Rule.toNat zRule).Acts
def mayE(d:DDef)(m:DMatch):Bool:=hasR d m&&decide (m.Ids.length=posN (List.getD d.Rules m.Rule.toNat zRule).Pats)
def effOk(d:DDef)(m:DMatch):Bool:=defOk d&&mayE d m&&(actsOf d m).all (okS m)
def effs(d:DDef)(m:DMatch):List DEffect:=if effOk d m then(actsOf d m).map (effS m) else[]
theorem rule_of{d:DDef}{m:DMatch}(h:defOk d=true)(h2:hasR d m=true):ruleOk (List.getD d.Rules m.Rule.toNat zRule)=true:=by
 obtain⟨r1,r2⟩:=hasR_iff h2
 simp only[defOk,zaf,allI_all] at h
 have:=h.2 m.Rule.toNat (by omega)
 simp only[defAtR,zaf] at this
 exact this.1
theorem acts_of{d:DDef}{m:DMatch}(h:defOk d=true)(h2:mayE d m=true):(actsOf d m).length≤6∧∀i:Int,0≤i→i<(actsOf d m).length→actOk (List.getD (actsOf d m) i.toNat zAct)=true∧((List.getD (actsOf d m) i.toNat zAct).Kind=2→0≤(List.getD (actsOf d m) i.toNat zAct).N∧(List.getD (actsOf d m) i.toNat zAct).N<m.Ids.length):=by
 simp only[mayE,zaf,decide_eq_true_eq] at h2
 have hr:=rule_of h h2.1
 simp only[ruleOk,actsIn,zaf,decide_eq_true_eq] at hr
 obtain⟨⟨_,_⟩,⟨⟨_,hl⟩,ha⟩⟩:=hr
 refine⟨hl,fun i h0 hi=> ?_⟩
 rw[zcb] at ha
 have hm:List.getD (actsOf d m) i.toNat zAct∈actsOf d m:=by rw[zac,zad (by omega)];exact zda _
 have hk:=ha _ hm
 generalize List.getD (actsOf d m) i.toNat zAct=a at*
 simp only[actIn,zaf] at hk
 refine⟨hk.1.1,fun e=> ?_⟩
 have hd:=hk.1.2
 have hp:=hk.1.1
 simp only[dropIn,e,decide_true,zck,zbd,decide_eq_false_iff_not] at hd
 simp only[actOk,e,show¬((2:Int)=1) by decide,decide_false,cond_false,decide_true,cond_true,zaf,decide_eq_true_eq] at hp
 omega
theorem LfE{a a':DEffect}{b b':Bool}(h1:a=a')(h2:b=b'):Lf [.agg [.lit (.int .i64 a.Kind),.lit (.string a.F.Kind),.sl .eVal a.F.Fields,.lit (.int .i64 a.Id),.lit (.int .i64 a.N),.lit (.string a.Undo)],.one (.lit (.bool b))] [.agg [.lit (.int .i64 a'.Kind),.lit (.string a'.F.Kind),.sl .eVal a'.F.Fields,.lit (.int .i64 a'.Id),.lit (.int .i64 a'.N),.lit (.string a'.Undo)],.one (.lit (.bool b'))]:=by
 subst h1 h2;exact Lf_rfl _
theorem LfES{a a':List DEffect}{b b':Bool}(h1:a=a')(h2:b=b'):Lf [.one (.sl .eEffect a),.one (.lit (.bool b))] [.one (.sl .eEffect a'),.one (.lit (.bool b'))]:=by
 subst h1 h2;exact Lf_rfl _
def Zk105:Con UU where
 α:=DEffect
 md:=[.ro]
 of:=o1 (oA .eEffect)
 ds:=fun x=>[dA .eEffect x]
 pre:=fun _=>[]
 res:=fun e=>⟨[dO (effectOk e)],true,[]⟩
 law:=l1 (lA .eEffect)
def Za105:Zk105.α→Nat→Option (Ann UU):=fun e=>annL []
def Zu105:=us [Zh175,Zh103,Zh104]
theorem Zo105:Holds EE (105,Zk105):=by
 refine holds_of EE_ok func105 Zk105 (by kernel_rfl) Zu105 (us_ok _) Za105 (fun(e:DEffect) hp hb=> ?_)
 have hz0:=bd_eEffect (x:=e) (hb _ m0)
 have hl_e_F_Kind:=hz0.1
 have hl_e_F_Fields:=hz0.2.1
 have hl_e_Undo:=hz0.2.2
 clear hp hb
 apply @ve _ (let x0:Bool:=e.Kind==(5:Int);let x1:Bool:=ByteArray.toList e.Undo==ByteArray.toList {data:= #[]:ByteArray};let x2:Bool:=e.Id==(0:Int);let x3:Bool:=(e.F.Fields.length:Int)==(0:Int);bif ByteArray.toList e.F.Kind==ByteArray.toList {data:= #[]:ByteArray} then bif e.Kind==(1:Int) then bif factOk e.F then bif x2 then bif e.N==(0:Int) then Lb x1 (effectOk e) else Lb false (effectOk e) else Lb false (effectOk e) else Lb false (effectOk e) else bif e.Kind==(3:Int) then bif factOk e.F then bif x2 then bif e.N==(0:Int) then bif x1 then Lb true (effectOk e) else Lb (nameOk e.Undo) (effectOk e) else Lb false (effectOk e) else Lb false (effectOk e) else Lb false (effectOk e) else bif e.Kind==(4:Int) then bif factOk e.F then bif x2 then bif decide ((0:Int)≤e.N∧e.N≤(100000:Int)) then Lb x1 (effectOk e) else Lb false (effectOk e) else Lb false (effectOk e) else Lb false (effectOk e) else bif e.Kind==(2:Int) then bif x3 then bif decide (e.Id≥(1:Int)) then bif e.N==(0:Int) then Lb x1 (effectOk e) else Lb false (effectOk e) else Lb false (effectOk e) else Lb false (effectOk e) else bif x0 then bif x0 then bif x3 then bif x2 then bif e.N==(0:Int) then Lb x1 (effectOk e) else Lb false (effectOk e) else Lb false (effectOk e) else Lb false (effectOk e) else Lb false (effectOk e) else bif e.Kind==(6:Int) then bif x3 then bif x2 then bif e.N==(0:Int) then Lb x1 (effectOk e) else Lb false (effectOk e) else Lb false (effectOk e) else Lb false (effectOk e) else Lb false (effectOk e) else bif e.Kind==(1:Int) then bif factOk e.F then bif x2 then bif e.N==(0:Int) then Lb x1 (effectOk e) else Lb false (effectOk e) else Lb false (effectOk e) else Lb false (effectOk e) else bif e.Kind==(3:Int) then bif factOk e.F then bif x2 then bif e.N==(0:Int) then bif x1 then Lb true (effectOk e) else Lb (nameOk e.Undo) (effectOk e) else Lb false (effectOk e) else Lb false (effectOk e) else Lb false (effectOk e) else bif e.Kind==(4:Int) then bif factOk e.F then bif x2 then bif decide ((0:Int)≤e.N∧e.N≤(100000:Int)) then Lb x1 (effectOk e) else Lb false (effectOk e) else Lb false (effectOk e) else Lb false (effectOk e) else bif e.Kind==(2:Int) then Lb false (effectOk e) else bif x0 then bif x0 then Lb false (effectOk e) else Lb false (effectOk e) else bif e.Kind==(6:Int) then Lb false (effectOk e) else Lb false (effectOk e)) (by kernel_rfl)
 dsimp only
 have e1:∀s:ByteArray,(ByteArray.toList s==ByteArray.toList {data:= #[]})=decide (s=noBytes):=fun s=>toList_beq _ _
 have e2:((e.F.Fields.length:Int)==0)=decide (e.F.Fields.length=0):=by rw[zcm];simp
 simp only[e1,e2,effectOk,bareF,undoOk]
 repeat' (refine if_cond (fun h=> ?_) (fun h=> ?_))
 all_goals (refine Lf_b ?_;grind)
def Zh105:HH:=⟨_,Zo105⟩
def Zk11:Con UU where
 α:=DEffect
 md:=[.ro]
 of:=o1 (oA .eEffect)
 ds:=fun x=>[dA .eEffect x]
 pre:=fun _=>[]
 res:=fun e=>⟨[dO (effectOk e)],true,[]⟩
 law:=l1 (lA .eEffect)
def Za11:Zk11.α→Nat→Option (Ann UU):=fun e=>annL []
def Zu11:=us [Zh42,Zh43,Zh34]
theorem Zo11:Holds EE (11,Zk11):=by
 refine holds_of EE_ok func11 Zk11 (by kernel_rfl) Zu11 (us_ok _) Za11 (fun(e:DEffect) hp hb=> ?_)
 have hz0:=bd_eEffect (x:=e) (hb _ m0)
 have hl_e_F_Kind:=hz0.1
 have hl_e_F_Fields:=hz0.2.1
 have hl_e_Undo:=hz0.2.2
 clear hp hb
 apply @ve _ (let x0:Bool:=e.Kind==(5:Int);let x1:Bool:=e.Id==(0:Int);let x2:Bool:=(e.F.Fields.length:Int)==(0:Int);bif ByteArray.toList e.F.Kind==ByteArray.toList {data:= #[]:ByteArray} then bif e.Kind==(1:Int) then bif factOk e.F then bif x1 then bif e.N==(0:Int) then Lb (ByteArray.toList e.Undo==ByteArray.toList {data:= #[]:ByteArray}) (effectOk e) else Lb false (effectOk e) else Lb false (effectOk e) else Lb false (effectOk e) else bif e.Kind==(2:Int) then bif x2 then bif decide (e.Id≥(1:Int)) then bif e.N==(0:Int) then Lb (ByteArray.toList e.Undo==ByteArray.toList {data:= #[]:ByteArray}) (effectOk e) else Lb false (effectOk e) else Lb false (effectOk e) else Lb false (effectOk e) else bif e.Kind==(3:Int) then bif factOk e.F then bif x1 then bif e.N==(0:Int) then Lb (undoOk e.Undo) (effectOk e) else Lb false (effectOk e) else Lb false (effectOk e) else Lb false (effectOk e) else bif e.Kind==(4:Int) then bif factOk e.F then bif x1 then bif decide ((0:Int)≤e.N∧e.N≤(100000:Int)) then Lb (ByteArray.toList e.Undo==ByteArray.toList {data:= #[]:ByteArray}) (effectOk e) else Lb false (effectOk e) else Lb false (effectOk e) else Lb false (effectOk e) else bif x0 then bif x0 then bif x2 then bif x1 then bif e.N==(0:Int) then Lb (ByteArray.toList e.Undo==ByteArray.toList {data:= #[]:ByteArray}) (effectOk e) else Lb false (effectOk e) else Lb false (effectOk e) else Lb false (effectOk e) else Lb false (effectOk e) else bif e.Kind==(6:Int) then bif x2 then bif x1 then bif e.N==(0:Int) then Lb (ByteArray.toList e.Undo==ByteArray.toList {data:= #[]:ByteArray}) (effectOk e) else Lb false (effectOk e) else Lb false (effectOk e) else Lb false (effectOk e) else Lb false (effectOk e) else bif e.Kind==(1:Int) then bif factOk e.F then bif x1 then bif e.N==(0:Int) then Lb (ByteArray.toList e.Undo==ByteArray.toList {data:= #[]:ByteArray}) (effectOk e) else Lb false (effectOk e) else Lb false (effectOk e) else Lb false (effectOk e) else bif e.Kind==(2:Int) then Lb false (effectOk e) else bif e.Kind==(3:Int) then bif factOk e.F then bif x1 then bif e.N==(0:Int) then Lb (undoOk e.Undo) (effectOk e) else Lb false (effectOk e) else Lb false (effectOk e) else Lb false (effectOk e) else bif e.Kind==(4:Int) then bif factOk e.F then bif x1 then bif decide ((0:Int)≤e.N∧e.N≤(100000:Int)) then Lb (ByteArray.toList e.Undo==ByteArray.toList {data:= #[]:ByteArray}) (effectOk e) else Lb false (effectOk e) else Lb false (effectOk e) else Lb false (effectOk e) else bif x0 then bif x0 then Lb false (effectOk e) else Lb false (effectOk e) else bif e.Kind==(6:Int) then Lb false (effectOk e) else Lb false (effectOk e)) (by kernel_rfl)
 dsimp only
 have e1:∀s:ByteArray,(ByteArray.toList s==ByteArray.toList {data:= #[]})=decide (s=noBytes):=fun s=>toList_beq _ _
 have e2:((e.F.Fields.length:Int)==0)=decide (e.F.Fields.length=0):=by rw[zcm];simp
 simp only[e1,e2,effectOk,bareF,undoOk]
 repeat' (refine if_cond (fun h=> ?_) (fun h=> ?_))
 all_goals (refine Lf_b ?_;grind)
def Zh11:HH:=⟨_,Zo11⟩
def Zk41:Con UU where
 α:=DAct×DMatch
 md:=[.ro,.ro]
 of:=oC (oA .eAct) (o1 (oA .eMatch))
 ds:=fun x=>[dA .eAct x.1,dA .eMatch x.2]
 pre:=fun(a,m)=>[a.Kind=2→0≤a.N∧a.N<m.Ids.length,a.Args.length≤4294967295]
 res:=fun(a,m)=>⟨[dA .eEffect (effS m a),dO (okS m a)],true,[]⟩
 law:=lC (lA .eAct) (l1 (lA .eMatch))
def Za41:Zk41.α→Nat→Option (Ann UU):=fun(a,m)=>annL []
def Zu41:=us [Zh105,Zh106]
theorem Zo41:Holds EE (41,Zk41):=by
 refine holds_of EE_ok func41 Zk41 (by kernel_rfl) Zu41 (us_ok _) Za41 (fun x hp hb=> ?_)
 obtain⟨a,m⟩:=x
 have hz0:=bd_eAct (x:=a) (hb _ m0)
 have hl_a_Name:=hz0.1
 have hl_a_Args:=hz0.2.1
 have hl_a_Undo:=hz0.2.2
 have hz1:=bd_eMatch (x:=m) (hb _ m1)
 have hl_m_Ids:=hz1.1
 have hl_m_Binds:=hz1.2
 have hp0:a.Kind=2→0≤a.N∧a.N<m.Ids.length:=hp _ m0
 have hp1:a.Args.length≤4294967295:=hp _ m1
 clear hp hb
 apply @ve _ (bif a.Kind==(2:Int) then(0:Int)≤a.N∧a.N.toNat<m.Ids.length∧Lf [DV.agg [CI a.Kind,CS ({data:= #[]:ByteArray}),CL .eVal [],CI (List.getD m.Ids a.N.toNat (0:Int)),CI (0:Int),CS a.Undo],VB (effectOk {Kind:=a.Kind,F:={Kind:={data:= #[]:ByteArray},Fields:=[]:DFact},Id:=List.getD m.Ids a.N.toNat (0:Int),N:=(0:Int),Undo:=a.Undo:DEffect})] [DV.agg [CI ((effS m a).Kind),CS ((effS m a).F.Kind),CL .eVal (effS m a).F.Fields,CI ((effS m a).Id),CI ((effS m a).N),CS ((effS m a).Undo)],VB (okS m a)] else bif a.Kind==(4:Int) then a.Args.length≤(4294967295:Nat)∧bif compsB a.Args m.Binds then Lf [DV.agg [CI a.Kind,CS a.Name,CL .eVal (compsV a.Args m.Binds),CI (0:Int),CI a.N,CS a.Undo],VB (effectOk {Kind:=a.Kind,F:={Kind:=a.Name,Fields:=compsV a.Args m.Binds:DFact},Id:=(0:Int),N:=a.N,Undo:=a.Undo:DEffect})] [DV.agg [CI ((effS m a).Kind),CS ((effS m a).F.Kind),CL .eVal (effS m a).F.Fields,CI ((effS m a).Id),CI ((effS m a).N),CS ((effS m a).Undo)],VB (okS m a)] else Lf [DV.agg [CI a.Kind,CS a.Name,CL .eVal (compsV a.Args m.Binds),CI (0:Int),CI a.N,CS a.Undo],VB false] [DV.agg [CI ((effS m a).Kind),CS ((effS m a).F.Kind),CL .eVal (effS m a).F.Fields,CI ((effS m a).Id),CI ((effS m a).N),CS ((effS m a).Undo)],VB (okS m a)] else a.Args.length≤(4294967295:Nat)∧bif compsB a.Args m.Binds then Lf [DV.agg [CI a.Kind,CS a.Name,CL .eVal (compsV a.Args m.Binds),CI (0:Int),CI (0:Int),CS a.Undo],VB (effectOk {Kind:=a.Kind,F:={Kind:=a.Name,Fields:=compsV a.Args m.Binds:DFact},Id:=(0:Int),N:=(0:Int),Undo:=a.Undo:DEffect})] [DV.agg [CI ((effS m a).Kind),CS ((effS m a).F.Kind),CL .eVal (effS m a).F.Fields,CI ((effS m a).Id),CI ((effS m a).N),CS ((effS m a).Undo)],VB (okS m a)] else Lf [DV.agg [CI a.Kind,CS a.Name,CL .eVal (compsV a.Args m.Binds),CI (0:Int),CI (0:Int),CS a.Undo],VB false] [DV.agg [CI ((effS m a).Kind),CS ((effS m a).F.Kind),CL .eVal (effS m a).F.Fields,CI ((effS m a).Id),CI ((effS m a).N),CS ((effS m a).Undo)],VB (okS m a)]) (by kernel_rfl)
 refine if_num (fun h=> ?_) (fun h=>if_num (fun h4=>⟨hp1,if_cond (fun g=> ?_) (fun g=> ?_)⟩) (fun h4=>⟨hp1,if_cond (fun g=> ?_) (fun g=> ?_)⟩))
 ·have e:effS m a=⟨a.Kind,zFact,List.getD m.Ids a.N.toNat 0,0,a.Undo⟩:=if_pos h
  exact⟨(hp0 h).1,by have:=hp0 h;omega,LfE (a:=⟨a.Kind,zFact,List.getD m.Ids a.N.toNat 0,0,a.Undo⟩) e.symm (by simp only[okS,decide_eq_true h,Bool.true_or,zck,e];rfl)⟩
 all_goals have e0:effS m a=⟨a.Kind,⟨a.Name,compsV a.Args m.Binds⟩,0,if a.Kind=4 then a.N else 0,a.Undo⟩:=if_neg h
 all_goals first|rw[if_pos h4] at e0|rw[if_neg h4] at e0
 ·exact LfE (a:=⟨a.Kind,⟨a.Name,compsV a.Args m.Binds⟩,0,a.N,a.Undo⟩) e0.symm (by simp only[okS,decide_eq_false h,show compsB a.Args m.Binds=true from g,Bool.or_true,zck,e0])
 ·exact LfE (a:=⟨a.Kind,⟨a.Name,compsV a.Args m.Binds⟩,0,a.N,a.Undo⟩) e0.symm (by simp only[okS,decide_eq_false h,show compsB a.Args m.Binds=false from g,zeh,zbi])
 ·exact LfE (a:=⟨a.Kind,⟨a.Name,compsV a.Args m.Binds⟩,0,0,a.Undo⟩) e0.symm (by simp only[okS,decide_eq_false h,show compsB a.Args m.Binds=true from g,Bool.or_true,zck,e0])
 ·exact LfE (a:=⟨a.Kind,⟨a.Name,compsV a.Args m.Binds⟩,0,0,a.Undo⟩) e0.symm (by simp only[okS,decide_eq_false h,show compsB a.Args m.Binds=false from g,zeh,zbi])
def Zh41:HH:=⟨_,Zo41⟩
def Zk100:Con UU where
 α:=DAct×DMatch
 md:=[.ro,.ro]
 of:=oC (oA .eAct) (o1 (oA .eMatch))
 ds:=fun x=>[dA .eAct x.1,dA .eMatch x.2]
 pre:=fun(a,m)=>[a.Kind=2→0≤a.N∧a.N<m.Ids.length,a.Args.length≤4294967295]
 res:=fun(a,m)=>⟨[dA .eEffect (effI m a),dO (okI m a)],true,[]⟩
 law:=lC (lA .eAct) (l1 (lA .eMatch))
def Za100:Zk100.α→Nat→Option (Ann UU):=fun(a,m)=>annL []
def Zu100:=us [Zh11,Zh170]
theorem Zo100:Holds EE (100,Zk100):=by
 refine holds_of EE_ok func100 Zk100 (by kernel_rfl) Zu100 (us_ok _) Za100 (fun x hp hb=> ?_)
 obtain⟨a,m⟩:=x
 have hz0:=bd_eAct (x:=a) (hb _ m0)
 have hl_a_Name:=hz0.1
 have hl_a_Args:=hz0.2.1
 have hl_a_Undo:=hz0.2.2
 have hz1:=bd_eMatch (x:=m) (hb _ m1)
 have hl_m_Ids:=hz1.1
 have hl_m_Binds:=hz1.2
 have hp0:a.Kind=2→0≤a.N∧a.N<m.Ids.length:=hp _ m0
 have hp1:a.Args.length≤4294967295:=hp _ m1
 clear hp hb
 apply @ve _ (let x0:ByteArray:={data:= #[]:ByteArray};bif a.Kind==(2:Int) then(0:Int)≤a.N∧a.N.toNat<m.Ids.length∧Lf [DV.agg [CI a.Kind,CS x0,CL .eVal [],CI (List.getD m.Ids a.N.toNat (0:Int)),CI (0:Int),CS x0],VB (effectOk {Kind:=a.Kind,F:={Kind:=x0,Fields:=[]:DFact},Id:=List.getD m.Ids a.N.toNat (0:Int),N:=(0:Int),Undo:=x0:DEffect})] [DV.agg [CI ((effI m a).Kind),CS ((effI m a).F.Kind),CL .eVal (effI m a).F.Fields,CI ((effI m a).Id),CI ((effI m a).N),CS ((effI m a).Undo)],VB (okI m a)] else bif a.Kind==(1:Int) then bif a.Kind==(1:Int) then a.Args.length≤(4294967295:Nat)∧bif !compsB a.Args m.Binds then Lf [DV.agg [CI (0:Int),CS x0,CL .eVal [],CI (0:Int),CI (0:Int),CS x0],VB false] [DV.agg [CI ((effI m a).Kind),CS ((effI m a).F.Kind),CL .eVal (effI m a).F.Fields,CI ((effI m a).Id),CI ((effI m a).N),CS ((effI m a).Undo)],VB (okI m a)] else Lf [DV.agg [CI a.Kind,CS a.Name,CL .eVal (compsV a.Args m.Binds),CI (0:Int),CI a.N,CS a.Undo],VB (effectOk {Kind:=a.Kind,F:={Kind:=a.Name,Fields:=compsV a.Args m.Binds:DFact},Id:=(0:Int),N:=a.N,Undo:=a.Undo:DEffect})] [DV.agg [CI ((effI m a).Kind),CS ((effI m a).F.Kind),CL .eVal (effI m a).F.Fields,CI ((effI m a).Id),CI ((effI m a).N),CS ((effI m a).Undo)],VB (okI m a)] else Lf [DV.agg [CI a.Kind,CS x0,CL .eVal [],CI (0:Int),CI (0:Int),CS x0],VB (effectOk {Kind:=a.Kind,F:={Kind:=x0,Fields:=[]:DFact},Id:=(0:Int),N:=(0:Int),Undo:=x0:DEffect})] [DV.agg [CI ((effI m a).Kind),CS ((effI m a).F.Kind),CL .eVal (effI m a).F.Fields,CI ((effI m a).Id),CI ((effI m a).N),CS ((effI m a).Undo)],VB (okI m a)] else bif a.Kind==(3:Int) then bif a.Kind==(3:Int) then a.Args.length≤(4294967295:Nat)∧bif !compsB a.Args m.Binds then Lf [DV.agg [CI (0:Int),CS x0,CL .eVal [],CI (0:Int),CI (0:Int),CS x0],VB false] [DV.agg [CI ((effI m a).Kind),CS ((effI m a).F.Kind),CL .eVal (effI m a).F.Fields,CI ((effI m a).Id),CI ((effI m a).N),CS ((effI m a).Undo)],VB (okI m a)] else Lf [DV.agg [CI a.Kind,CS a.Name,CL .eVal (compsV a.Args m.Binds),CI (0:Int),CI a.N,CS a.Undo],VB (effectOk {Kind:=a.Kind,F:={Kind:=a.Name,Fields:=compsV a.Args m.Binds:DFact},Id:=(0:Int),N:=a.N,Undo:=a.Undo:DEffect})] [DV.agg [CI ((effI m a).Kind),CS ((effI m a).F.Kind),CL .eVal (effI m a).F.Fields,CI ((effI m a).Id),CI ((effI m a).N),CS ((effI m a).Undo)],VB (okI m a)] else Lf [DV.agg [CI a.Kind,CS x0,CL .eVal [],CI (0:Int),CI (0:Int),CS x0],VB (effectOk {Kind:=a.Kind,F:={Kind:=x0,Fields:=[]:DFact},Id:=(0:Int),N:=(0:Int),Undo:=x0:DEffect})] [DV.agg [CI ((effI m a).Kind),CS ((effI m a).F.Kind),CL .eVal (effI m a).F.Fields,CI ((effI m a).Id),CI ((effI m a).N),CS ((effI m a).Undo)],VB (okI m a)] else bif a.Kind==(4:Int) then a.Args.length≤(4294967295:Nat)∧bif !compsB a.Args m.Binds then Lf [DV.agg [CI (0:Int),CS x0,CL .eVal [],CI (0:Int),CI (0:Int),CS x0],VB false] [DV.agg [CI ((effI m a).Kind),CS ((effI m a).F.Kind),CL .eVal (effI m a).F.Fields,CI ((effI m a).Id),CI ((effI m a).N),CS ((effI m a).Undo)],VB (okI m a)] else Lf [DV.agg [CI a.Kind,CS a.Name,CL .eVal (compsV a.Args m.Binds),CI (0:Int),CI a.N,CS a.Undo],VB (effectOk {Kind:=a.Kind,F:={Kind:=a.Name,Fields:=compsV a.Args m.Binds:DFact},Id:=(0:Int),N:=a.N,Undo:=a.Undo:DEffect})] [DV.agg [CI ((effI m a).Kind),CS ((effI m a).F.Kind),CL .eVal (effI m a).F.Fields,CI ((effI m a).Id),CI ((effI m a).N),CS ((effI m a).Undo)],VB (okI m a)] else Lf [DV.agg [CI a.Kind,CS x0,CL .eVal [],CI (0:Int),CI (0:Int),CS x0],VB (effectOk {Kind:=a.Kind,F:={Kind:=x0,Fields:=[]:DFact},Id:=(0:Int),N:=(0:Int),Undo:=x0:DEffect})] [DV.agg [CI ((effI m a).Kind),CS ((effI m a).F.Kind),CL .eVal (effI m a).F.Fields,CI ((effI m a).Id),CI ((effI m a).N),CS ((effI m a).Undo)],VB (okI m a)]) (by kernel_rfl)
 dsimp only
 have hb:∀n:Int,a.Kind=n→(a.Kind==n)=true:=fun n h=>by rw[h];exact beq_self_eq_true n
 have hn:∀n:Int,¬a.Kind=n→(a.Kind==n)=false:=fun n h=>by rw[beq_eq_false_iff_ne];exact h
 by_cases h2:a.Kind=2
 ·have e:effI m a=⟨a.Kind,zFact,List.getD m.Ids a.N.toNat 0,0,noBytes⟩:=if_pos h2
  have hc:calcA a=false:=by simp[calcA,h2]
  simp only[hb 2 h2,cond_true]
  exact⟨(hp0 h2).1,by have:=hp0 h2;omega,LfE (a:=⟨a.Kind,zFact,List.getD m.Ids a.N.toNat 0,0,noBytes⟩) e.symm (by simp only[okI,hc,zea,Bool.true_or,zck,e];rfl)⟩
 have hN:calcA a=true→compsB a.Args m.Binds=false→effI m a=zEffect∧okI m a=false:=fun hc g=>⟨(if_neg h2).trans ((if_pos hc).trans (if_neg (by rw[g];decide))),by simp only[okI,hc,g];rfl⟩
 have hY:calcA a=true→compsB a.Args m.Binds=true→effI m a=⟨a.Kind,⟨a.Name,compsV a.Args m.Binds⟩,0,a.N,a.Undo⟩∧okI m a=effectOk ⟨a.Kind,⟨a.Name,compsV a.Args m.Binds⟩,0,a.N,a.Undo⟩:=fun hc g=>by
  have e:effI m a=⟨a.Kind,⟨a.Name,compsV a.Args m.Binds⟩,0,a.N,a.Undo⟩:=(if_neg h2).trans ((if_pos hc).trans (if_pos g))
  exact⟨e,by simp only[okI,hc,g,e];rfl⟩
 have fin:calcA a=true→a.Args.length≤4294967295∧bif !compsB a.Args m.Binds then Lf [.agg [.lit (.int .i64 0),.lit (.string ⟨#[]⟩),.sl .eVal [],.lit (.int .i64 0),.lit (.int .i64 0),.lit (.string ⟨#[]⟩)],.one (.lit (.bool false))] [.agg [.lit (.int .i64 (effI m a).Kind),.lit (.string (effI m a).F.Kind),.sl .eVal (effI m a).F.Fields,.lit (.int .i64 (effI m a).Id),.lit (.int .i64 (effI m a).N),.lit (.string (effI m a).Undo)],.one (.lit (.bool (okI m a)))] else Lf [.agg [.lit (.int .i64 a.Kind),.lit (.string a.Name),.sl .eVal (compsV a.Args m.Binds),.lit (.int .i64 0),.lit (.int .i64 a.N),.lit (.string a.Undo)],.one (.lit (.bool (effectOk ⟨a.Kind,⟨a.Name,compsV a.Args m.Binds⟩,0,a.N,a.Undo⟩)))] [.agg [.lit (.int .i64 (effI m a).Kind),.lit (.string (effI m a).F.Kind),.sl .eVal (effI m a).F.Fields,.lit (.int .i64 (effI m a).Id),.lit (.int .i64 (effI m a).N),.lit (.string (effI m a).Undo)],.one (.lit (.bool (okI m a)))]:=fun hc=>
  ⟨hp1,if_not (fun g=>LfE (a:=zEffect) (hN hc g).1.symm (hN hc g).2.symm) (fun g=>LfE (a:=⟨a.Kind,⟨a.Name,compsV a.Args m.Binds⟩,0,a.N,a.Undo⟩) (hY hc g).1.symm (hY hc g).2.symm)⟩
 by_cases h1:a.Kind=1
 ·simp only[hn 2 h2,hb 1 h1,cond_true,cond_false]
  exact fin (by simp[calcA,h1])
 by_cases h3:a.Kind=3
 ·simp only[hn 2 h2,hn 1 h1,hb 3 h3,cond_true,cond_false]
  exact fin (by simp[calcA,h3])
 by_cases h4:a.Kind=4
 ·simp only[hn 2 h2,hn 1 h1,hn 3 h3,hb 4 h4,cond_true,cond_false]
  exact fin (by simp[calcA,h4])
 have hc:calcA a=false:=by simp[calcA,h1,h3,h4]
 have e:effI m a=⟨a.Kind,zFact,0,0,noBytes⟩:=(if_neg h2).trans (if_neg (by rw[hc];decide))
 simp only[hn 2 h2,hn 1 h1,hn 3 h3,hn 4 h4,cond_true,cond_false]
 exact LfE (a:=⟨a.Kind,zFact,0,0,noBytes⟩) e.symm (by simp only[okI,hc,zea,Bool.true_or,zck,e];rfl)
def Zh100:HH:=⟨_,Zo100⟩
theorem eff_no{d:DDef}{m:DMatch}(h:effOk d m=false):Lf [.one (.sl .eEffect []),.one (.lit (.bool false))] [.one (.sl .eEffect (effs d m)),.one (.lit (.bool (effOk d m)))]:=
 LfES (by rw[effs,h];rfl) h.symm
theorem eff_no1{d:DDef}{m:DMatch}(h:mayE d m=false):effOk d m=false:=by rw[effOk,h];simp
theorem eff_all{d:DDef}{m:DMatch}(h:(actsOf d m).all (okS m)=false):effOk d m=false:=by rw[effOk,h];simp
theorem act_args{d:DDef}{m:DMatch}(h:hasR d m=true){i:Int}(h1:0≤i)(h2:i<(actsOf d m).length):(List.getD (actsOf d m) i.toNat zAct).Args.length≤sizeDef d:=by
 obtain⟨r1,r2⟩:=hasR_iff h
 have hs:=sum_getD_le sizeRule d.Rules zRule r1 r2
 have ht:=sum_getD_le sizeAct (actsOf d m) zAct h1 h2
 have e:(List.getD d.Rules m.Rule.toNat zRule).Acts=actsOf d m:=rfl
 simp only[sizeRule,e] at hs
 simp only[sizeAct,sizeExprS] at ht
 have e2:sizeActS (actsOf d m)=(actsOf d m).length+((actsOf d m).map sizeAct).sum:=rfl
 simp only[sizeDef,sizeRuleS]
 omega
def Zk10:Con UU where
 α:=DDef×DMatch
 md:=[.ro,.ro]
 of:=oC (oA .eDef) (o1 (oA .eMatch))
 ds:=fun x=>[dA .eDef x.1,dA .eMatch x.2]
 pre:=fun(d,m)=>[sizeDef d≤4294967295]
 res:=fun(d,m)=>⟨[dL .eEffect (effs d m),dO (effOk d m)],true,[]⟩
 law:=lC (lA .eDef) (l1 (lA .eMatch))
def Zi10_6(d:DDef)(m:DMatch):List DEffect×Int×(ByteArray×List DRule×Unit)×(Int×List Int×List DBind×Unit)×Unit→Prop:=fun(o,i,b,g,_)=>b=(d.Name,d.Rules,())∧g=(m.Rule,m.Ids,m.Binds,())∧mayE d m=true∧0≤i∧i≤(actsOf d m).length∧o=((actsOf d m).take i.toNat).map (effS m)∧((actsOf d m).drop i.toNat).all (okS m)=(actsOf d m).all (okS m)
def Zm10_6(d:DDef)(m:DMatch):List DEffect×Int×(ByteArray×List DRule×Unit)×(Int×List Int×List DBind×Unit)×Unit→Nat:=fun(o,i,b,g,_)=>(actsOf d m).length-i.toNat
def Za10:Zk10.α→Nat→Option (Ann UU):=fun(d,m)=>annL [(6,annOf [.slot 6 (6,1024) (.own .eEffect true),.slot 8 (8,1024) (.lit (.int .i64)),.box 2 (2,1024) [.lit .str,.shr .eRule],.box 3 (3,1024) [.lit (.int .i64),.shr .int,.shr .eBind]] (fun _=>Zi10_6 d m) (Zm10_6 d m))]
def Zu10:=us [Zh38,Zh39,Zh40,Zh41]
theorem Zo10:Holds EE (10,Zk10):=by
 refine holds_of EE_ok func10 Zk10 (by kernel_rfl) Zu10 (us_ok _) Za10 (fun x hp hb=> ?_)
 obtain⟨d,m⟩:=x
 have hz0:=bd_eDef (x:=d) (hb _ m0)
 have hl_d_Name:=hz0.1
 have hl_d_Rules:=hz0.2
 have hz1:=bd_eMatch (x:=m) (hb _ m1)
 have hl_m_Ids:=hz1.1
 have hl_m_Binds:=hz1.2
 have hp0:sizeDef d≤4294967295:=hp _ m0
 clear hp hb
 apply @ve _ (let x0:List DAct:=(List.getD d.Rules m.Rule.toNat zRule).Acts;sizeDef d≤(4294967295:Nat)∧bif !defOk d then Lf [VL .eEffect [],VB false] [VL .eEffect (effs d m),VB (effOk d m)] else bif !hasR d m then Lf [VL .eEffect [],VB false] [VL .eEffect (effs d m),VB (effOk d m)] else(0:Int)≤m.Rule∧m.Rule.toNat<d.Rules.length∧bif (m.Ids.length:Int) !=(↑(posN (List.getD d.Rules m.Rule.toNat zRule).Pats):Int) then Lf [VL .eEffect [],VB false] [VL .eEffect (effs d m),VB (effOk d m)] else(0:Int)≤m.Rule∧m.Rule.toNat<d.Rules.length∧Zi10_6 d m ([],(0:Int),(d.Name,d.Rules,()),(m.Rule,m.Ids,m.Binds,()),())∧∀(y:List DEffect×Int×(ByteArray×List DRule×PUnit)×(Int×List Int×List DBind×PUnit)×PUnit),let x2:DMatch:={Rule:=y.2.2.2.1.1,Ids:=y.2.2.2.1.2.1,Binds:=y.2.2.2.1.2.2.1:DMatch};let x4:Nat:=y.2.1.toNat;let x3:DAct:=List.getD x0 x4 zAct;let x1:List DEffect:=[effS x2 x3];Zi10_6 d m y→bif decide (y.2.1<(x0.length:Int)) then(0:Int)≤y.2.1∧x4<x0.length∧(x3.Kind=(2:Int)→(0:Int)≤x3.N∧x3.N<(y.2.2.2.1.2.1.length:Int))∧x3.Args.length≤(4294967295:Nat)∧bif !okS x2 x3 then Lf [VL .eEffect [],VB false] [VL .eEffect (effs d m),VB (effOk d m)] else y.1.length+x1.length≤(4294967296:Nat)∧Zi10_6 d m (y.1++x1,IntKind.wrap IntKind.i64 (y.2.1+(1:Int)),(y.2.2.1.1,y.2.2.1.2.1,()),(y.2.2.2.1.1,y.2.2.2.1.2.1,y.2.2.2.1.2.2.1,()),())∧Zm10_6 d m (y.1++x1,IntKind.wrap IntKind.i64 (y.2.1+(1:Int)),(y.2.2.1.1,y.2.2.1.2.1,()),(y.2.2.2.1.1,y.2.2.2.1.2.1,y.2.2.2.1.2.2.1,()),())<Zm10_6 d m y else Lf [VL .eEffect y.1,VB true] [VL .eEffect (effs d m),VB (effOk d m)]) (by kernel_rfl)
 dsimp only
 refine⟨hp0,if_not (fun h=>eff_no (by rw[effOk,show defOk d=false from h];rfl)) (fun hd=>if_not (fun h=>eff_no (eff_no1 (by rw[mayE,show hasR d m=false from h];rfl))) (fun hr=> ?_))⟩
 obtain⟨r1,r2⟩:=hasR_iff hr
 refine⟨r1,by omega,if_neq (fun h=>eff_no (eff_no1 (by rw[mayE,decide_eq_false (show¬m.Ids.length=posN (List.getD d.Rules m.Rule.toNat zRule).Pats by omega)];simp))) (fun hl=> ?_)⟩
 have hmay:mayE d m=true:=by rw[mayE,show hasR d m=true from hr,decide_eq_true (show m.Ids.length=posN (List.getD d.Rules m.Rule.toNat zRule).Pats by omega)];rfl
 obtain⟨ha1,ha2⟩:=acts_of hd hmay
 refine⟨r1,by omega,⟨rfl,rfl,hmay,by omega,by omega,by simp,rfl⟩,?_⟩
 rintro⟨o,i,⟨b1,b2,⟨⟩⟩,⟨g1,g2,g3,⟨⟩⟩,⟨⟩⟩ ⟨hb,hg,-,h1,h2,rfl,hR⟩
 cases hb
 cases hg
 have hx:(List.getD d.Rules m.Rule.toNat zRule).Acts=actsOf d m:=rfl
 simp only[hx]
 refine if_dec (fun hc=> ?_) (fun hc=> ?_)
 ·obtain⟨a1,a2⟩:=ha2 i h1 hc
  have has:=act_args hr h1 hc
  rw[all_step _ _ zAct h1 hc] at hR
  refine⟨h1,by omega,a2,by omega,if_not (fun g=> ?_) (fun g=> ?_)⟩
  ·exact eff_no (eff_all (by rw[←hR,show okS m (List.getD (actsOf d m) i.toNat zAct)=false from g];rfl))
  ·have g':okS m (List.getD (actsOf d m) i.toNat zAct)=true:=g
   rw[g',zck] at hR
   have hm:((actsOf d m).take i.toNat).map (effS m)++[effS m (List.getD (actsOf d m) i.toNat zAct)]=((actsOf d m).take (i+1).toNat).map (effS m):=by rw[←take_step (actsOf d m) zAct h1 hc,zef];rfl
   rw[wrap_i64 (by omega) (by omega)]
   exact⟨by simp only[zco,zaw,zbq,zbo];omega,⟨rfl,rfl,hmay,by omega,by omega,hm,hR⟩,by simp only[Zm10_6];omega⟩
 ·have e:(actsOf d m).drop i.toNat=[]:=List.drop_eq_nil_of_le (by omega)
  rw[e] at hR
  have hf:effOk d m=true:=by rw[effOk,hmay,←hR,show defOk d=true from hd];rfl
  rw[take_all (actsOf d m) (by omega)]
  exact LfES (by rw[effs,if_pos hf]) hf.symm
def Zh10:HH:=⟨_,Zo10⟩
def Zk37:Con UU where
 α:=DDef×DMatch
 md:=[.ro,.ro]
 of:=oC (oA .eDef) (o1 (oA .eMatch))
 ds:=fun x=>[dA .eDef x.1,dA .eMatch x.2]
 pre:=fun(d,m)=>[sizeDef d≤4294967295,defOk d=true]
 res:=fun(d,m)=>⟨[dL .eEffect (effs d m),dO (effOk d m)],true,[]⟩
 law:=lC (lA .eDef) (l1 (lA .eMatch))
def Zi37_5(d:DDef)(m:DMatch):List DEffect×Int×(ByteArray×List DRule×Unit)×(Int×List Int×List DBind×Unit)×Unit→Prop:=fun(o,i,b,g,_)=>b=(d.Name,d.Rules,())∧g=(m.Rule,m.Ids,m.Binds,())∧mayE d m=true∧0≤i∧i≤(actsOf d m).length∧o=((actsOf d m).take i.toNat).map (effS m)∧((actsOf d m).drop i.toNat).all (okS m)=(actsOf d m).all (okS m)
def Zm37_5(d:DDef)(m:DMatch):List DEffect×Int×(ByteArray×List DRule×Unit)×(Int×List Int×List DBind×Unit)×Unit→Nat:=fun(o,i,b,g,_)=>(actsOf d m).length-i.toNat
def Za37:Zk37.α→Nat→Option (Ann UU):=fun(d,m)=>annL [(5,annOf [.slot 6 (6,1024) (.own .eEffect true),.slot 36 (36,1024) (.lit (.int .i64)),.box 2 (2,1024) [.lit .str,.shr .eRule],.box 3 (3,1024) [.lit (.int .i64),.shr .int,.shr .eBind]] (fun _=>Zi37_5 d m) (Zm37_5 d m))]
def Zu37:=us [Zh99,Zh93,Zh100]
theorem Zo37:Holds EE (37,Zk37):=by
 refine holds_of EE_ok func37 Zk37 (by kernel_rfl) Zu37 (us_ok _) Za37 (fun x hp hb=> ?_)
 obtain⟨d,m⟩:=x
 have hz0:=bd_eDef (x:=d) (hb _ m0)
 have hl_d_Name:=hz0.1
 have hl_d_Rules:=hz0.2
 have hz1:=bd_eMatch (x:=m) (hb _ m1)
 have hl_m_Ids:=hz1.1
 have hl_m_Binds:=hz1.2
 have hp0:sizeDef d≤4294967295:=hp _ m0
 have hp1:defOk d=true:=hp _ m1
 clear hp hb
 apply @ve _ (let x0:List DAct:=(List.getD d.Rules m.Rule.toNat zRule).Acts;bif !hasR d m then Lf [VL .eEffect [],VB false] [VL .eEffect (effs d m),VB (effOk d m)] else(0:Int)≤m.Rule∧m.Rule.toNat<d.Rules.length∧bif (m.Ids.length:Int) !=(↑(posN (List.getD d.Rules m.Rule.toNat zRule).Pats):Int) then Lf [VL .eEffect [],VB false] [VL .eEffect (effs d m),VB (effOk d m)] else(0:Int)≤m.Rule∧m.Rule.toNat<d.Rules.length∧Zi37_5 d m ([],(0:Int),(d.Name,d.Rules,()),(m.Rule,m.Ids,m.Binds,()),())∧∀(y:List DEffect×Int×(ByteArray×List DRule×PUnit)×(Int×List Int×List DBind×PUnit)×PUnit),let x2:DMatch:={Rule:=y.2.2.2.1.1,Ids:=y.2.2.2.1.2.1,Binds:=y.2.2.2.1.2.2.1:DMatch};let x4:Nat:=y.2.1.toNat;let x3:DAct:=List.getD x0 x4 zAct;let x1:List DEffect:=[effI x2 x3];Zi37_5 d m y→bif decide (y.2.1<(x0.length:Int)) then(0:Int)≤y.2.1∧x4<x0.length∧(x3.Kind=(2:Int)→(0:Int)≤x3.N∧x3.N<(y.2.2.2.1.2.1.length:Int))∧x3.Args.length≤(4294967295:Nat)∧bif !okI x2 x3 then Lf [VL .eEffect [],VB false] [VL .eEffect (effs d m),VB (effOk d m)] else y.1.length+x1.length≤(4294967296:Nat)∧Zi37_5 d m (y.1++x1,IntKind.wrap IntKind.i64 (y.2.1+(1:Int)),(y.2.2.1.1,y.2.2.1.2.1,()),(y.2.2.2.1.1,y.2.2.2.1.2.1,y.2.2.2.1.2.2.1,()),())∧Zm37_5 d m (y.1++x1,IntKind.wrap IntKind.i64 (y.2.1+(1:Int)),(y.2.2.1.1,y.2.2.1.2.1,()),(y.2.2.2.1.1,y.2.2.2.1.2.1,y.2.2.2.1.2.2.1,()),())<Zm37_5 d m y else Lf [VL .eEffect y.1,VB true] [VL .eEffect (effs d m),VB (effOk d m)]) (by kernel_rfl)
 dsimp only
 have hd:=hp1
 refine if_not (fun h=>eff_no (eff_no1 (by rw[mayE,show hasR d m=false from h];rfl))) (fun hr=> ?_)
 obtain⟨r1,r2⟩:=hasR_iff hr
 refine⟨r1,by omega,if_neq (fun h=>eff_no (eff_no1 (by rw[mayE,decide_eq_false (show¬m.Ids.length=posN (List.getD d.Rules m.Rule.toNat zRule).Pats by omega)];simp))) (fun hl=> ?_)⟩
 have hmay:mayE d m=true:=by rw[mayE,show hasR d m=true from hr,decide_eq_true (show m.Ids.length=posN (List.getD d.Rules m.Rule.toNat zRule).Pats by omega)];rfl
 obtain⟨ha1,ha2⟩:=acts_of hd hmay
 refine⟨r1,by omega,⟨rfl,rfl,hmay,by omega,by omega,by simp,rfl⟩,?_⟩
 rintro⟨o,i,⟨b1,b2,⟨⟩⟩,⟨g1,g2,g3,⟨⟩⟩,⟨⟩⟩ ⟨hb,hg,-,h1,h2,rfl,hR⟩
 cases hb
 cases hg
 have hx:(List.getD d.Rules m.Rule.toNat zRule).Acts=actsOf d m:=rfl
 simp only[hx]
 refine if_dec (fun hc=> ?_) (fun hc=> ?_)
 ·obtain⟨a1,a2⟩:=ha2 i h1 hc
  have has:=act_args hr h1 hc
  rw[all_step _ _ zAct h1 hc] at hR
  obtain⟨s1,s2⟩:=act_same (m:=m) a1
  refine⟨h1,by omega,a2,by omega,if_not (fun g=> ?_) (fun g=> ?_)⟩
  ·exact eff_no (eff_all (by rw[←hR,show okS m (List.getD (actsOf d m) i.toNat zAct)=false from(s1.symm.trans g)];rfl))
  ·have g':okS m (List.getD (actsOf d m) i.toNat zAct)=true:=s1.symm.trans g
   rw[g',zck] at hR
   have hm:((actsOf d m).take i.toNat).map (effS m)++[effI m (List.getD (actsOf d m) i.toNat zAct)]=((actsOf d m).take (i+1).toNat).map (effS m):=by rw[←take_step (actsOf d m) zAct h1 hc,zef,s2 g'];rfl
   rw[wrap_i64 (by omega) (by omega)]
   exact⟨by simp only[zco,zaw,zbq,zbo];omega,⟨rfl,rfl,hmay,by omega,by omega,hm,hR⟩,by simp only[Zm37_5];omega⟩
 ·have e:(actsOf d m).drop i.toNat=[]:=List.drop_eq_nil_of_le (by omega)
  rw[e] at hR
  have hf:effOk d m=true:=by rw[effOk,hmay,←hR,show defOk d=true from hd];rfl
  rw[take_all (actsOf d m) (by omega)]
  exact LfES (by rw[effs,if_pos hf]) hf.symm
def Zh37:HH:=⟨_,Zo37⟩
def Zk9:Con UU where
 α:=DDef×DMatch
 md:=[.ro,.ro]
 of:=oC (oA .eDef) (o1 (oA .eMatch))
 ds:=fun x=>[dA .eDef x.1,dA .eMatch x.2]
 pre:=fun(d,m)=>[sizeDef d≤4294967295]
 res:=fun(d,m)=>⟨[dL .eEffect (effs d m),dO (effOk d m)],true,[]⟩
 law:=lC (lA .eDef) (l1 (lA .eMatch))
def Za9:Zk9.α→Nat→Option (Ann UU):=fun(d,m)=>annL []
def Zu9:=us [Zh8,Zh37]
theorem Zo9:Holds EE (9,Zk9):=by
 refine holds_of EE_ok func9 Zk9 (by kernel_rfl) Zu9 (us_ok _) Za9 (fun x hp hb=> ?_)
 obtain⟨d,m⟩:=x
 have hz0:=bd_eDef (x:=d) (hb _ m0)
 have hl_d_Name:=hz0.1
 have hl_d_Rules:=hz0.2
 have hz1:=bd_eMatch (x:=m) (hb _ m1)
 have hl_m_Ids:=hz1.1
 have hl_m_Binds:=hz1.2
 have hp0:sizeDef d≤4294967295:=hp _ m0
 clear hp hb
 apply @ve _ (bif !defOk d then Lf [VL .eEffect [],VB false] [VL .eEffect (effs d m),VB (effOk d m)] else sizeDef d≤(4294967295:Nat)∧defOk d=true∧Lf [VL .eEffect (effs d m),VB (effOk d m)] [VL .eEffect (effs d m),VB (effOk d m)]) (by kernel_rfl)
 refine if_not (fun h=>eff_no (by rw[effOk,show defOk d=false from h];rfl)) (fun h=>⟨hp0,h,Lf_rfl _⟩)
def Zh9:HH:=⟨_,Zo9⟩
def fiD(code:List Int):DDef:=defD (newCur code)
def fiC1(code:List Int):DCur:=defDC (newCur code)
def fiS(code:List Int):DStore:=storeD (fiC1 code)
def fiC2(code:List Int):DCur:=storeDC (fiC1 code)
def fiSet(code:List Int):List DMatch:=allM (fiD code).Rules (fiS code).Items
def fiM(code:List Int):DMatch:=if 0<(fiSet code).length then List.getD (fiSet code) (belowV (fiC2 code) (fiSet code).length).toNat zMatch else zMatch
def fiB(code:List Int):Bool:=decide (0<(fiSet code).length)
def allOk(d:DDef)(s:DStore):List DMatch:=if(defOk d&&storeOk s)=true then allM d.Rules s.Items else[]
def hasI(l:List Int)(n:Int):Bool:=l.any fun x=>decide (x=n)
theorem effS_kind(m:DMatch)(a:DAct):(effS m a).Kind=a.Kind:=by
 unfold effS;split<;>rfl
theorem effS_name{m:DMatch}{a:DAct}(h:¬a.Kind=2):(effS m a).F.Kind=a.Name:=by
 unfold effS;rw[if_neg h]
def Zk12:Con UU where
 α:=(List Int)×Int
 md:=[.ro,.ro]
 of:=oC (oL .int) (o1 oI)
 ds:=fun x=>[dL .int x.1,dI x.2]
 pre:=fun _=>[]
 res:=fun(l,n)=>⟨[dO (hasI l n)],true,[]⟩
 law:=lC (lL .int) (l1 lI)
def Zi12_2(l:(List Int))(n:Int):Int×Unit→Prop:=fun(i,_)=>0≤i∧i≤l.length∧(l.drop i.toNat).any (fun x=>decide (x=n))=hasI l n
def Zm12_2(l:(List Int))(n:Int):Int×Unit→Nat:=fun(i,_)=>l.length-i.toNat
def Za12:Zk12.α→Nat→Option (Ann UU):=fun(l,n)=>annL [(2,annOf [.slot 5 (5,1024) (.lit (.int .i64))] (fun _=>Zi12_2 l n) (Zm12_2 l n))]
def Zu12:List (FuncId×Con UU):=[]
theorem Zo12:Holds EE (12,Zk12):=by
 refine holds_of EE_ok func12 Zk12 (by kernel_rfl) Zu12 all_nil Za12 (fun x hp hb=> ?_)
 obtain⟨l,n⟩:=x
 have hl_l:l.length≤9223372036854775807:=bdL (hb _ m0)
 have hl_n:=bdI (n:=n) (hb _ m1)
 clear hp hb
 apply @ve _ (Zi12_2 l n ((0:Int),())∧∀(y:Int×PUnit),Zi12_2 l n y→bif decide (y.1<(l.length:Int)) then(0:Int)≤y.1∧y.1.toNat<l.length∧bif List.getD l y.1.toNat (0:Int)==n then Lb true (hasI l n) else Zi12_2 l n (IntKind.wrap IntKind.i64 (y.1+(1:Int)),())∧Zm12_2 l n (IntKind.wrap IntKind.i64 (y.1+(1:Int)),())<Zm12_2 l n y else Lb false (hasI l n)) (by kernel_rfl)
 refine⟨⟨by omega,by omega,rfl⟩,?_⟩
 rintro⟨i,⟨⟩⟩ ⟨h1,h2,hR⟩
 simp only
 refine if_dec (fun hc=> ?_) (fun hc=> ?_)
 ·rw[any_step _ _ (0:Int) h1 hc] at hR
  rw[wrap_i64 (by omega) (by omega)]
  refine⟨by omega,by omega,if_num (fun g=>Lf_tt ?_) (fun g=>⟨⟨by omega,by omega,?_⟩,by simp only[Zm12_2];omega⟩)⟩
  ·rw[←hR,decide_eq_true g,Bool.true_or]
  ·rw[←hR,decide_eq_false g,zcw]
 ·rw[drop_end _ (by omega)] at hR
  exact Lf_ff hR.symm
def Zh12:HH:=⟨_,Zo12⟩
def Zk7:Con UU where
 α:=DDef×DStore
 md:=[.ro,.ro]
 of:=oC (oA .eDef) (o1 (oA .eStore))
 ds:=fun x=>[dA .eDef x.1,dA .eStore x.2]
 pre:=fun _=>[]
 res:=fun(d,s)=>⟨[dL .eMatch (allOk d s)],true,[]⟩
 law:=lC (lA .eDef) (l1 (lA .eStore))
def Za7:Zk7.α→Nat→Option (Ann UU):=fun(d,s)=>annL []
def Zu7:=us [Zh8,Zh31,Zh32]
theorem Zo7:Holds EE (7,Zk7):=by
 refine holds_of EE_ok func7 Zk7 (by kernel_rfl) Zu7 (us_ok _) Za7 (fun x hp hb=> ?_)
 obtain⟨d,s⟩:=x
 have hz0:=bd_eDef (x:=d) (hb _ m0)
 have hl_d_Name:=hz0.1
 have hl_d_Rules:=hz0.2
 have hl_s_Items:=bd_eStore (x:=s) (hb _ m1)
 clear hp hb
 apply @ve _ (bif !defOk d then Lf [VL .eMatch []] [VL .eMatch (allOk d s)] else bif !storeOk s then Lf [VL .eMatch []] [VL .eMatch (allOk d s)] else(∀(r:DRule),r∈d.Rules→smallR r)∧(s.Items.length≤(40:Nat)∧d.Rules.length≤(12:Nat))∧Lf [VL .eMatch (allM d.Rules s.Items)] [VL .eMatch (allOk d s)]) (by kernel_rfl)
 refine if_not (fun h=> ?_) (fun h=>if_not (fun g=> ?_) (fun g=> ?_))
 ·have e:allOk d s=[]:=if_neg (by rw[show defOk d=false from h,zbi];decide)
  rw[e];exact Lf_rfl _
 ·have e:allOk d s=[]:=if_neg (by rw[show storeOk s=false from g,zbs];decide)
  rw[e];exact Lf_rfl _
 ·have h:defOk d=true:=h
  have g:storeOk s=true:=g
  have e:allOk d s=allM d.Rules s.Items:=if_pos (by rw[h,g];rfl)
  have hd:=def_small h
  simp only[storeOk,zaf,decide_eq_true_eq] at g
  rw[e]
  exact⟨fun r hr=>(hd.1 r hr).1,⟨g.1.2,hd.2⟩,Lf_rfl _⟩
def Zh7:HH:=⟨_,Zo7⟩
def Zk6:Con UU where
 α:=(List Int)
 md:=[.ro]
 of:=o1 (oL .byte)
 ds:=fun x=>[dL .byte x]
 pre:=fun code=>[code.length≤4294967296]
 res:=fun code=>⟨[dA .eDef (fiD code),dA .eStore (fiS code),dA .eMatch (fiM code),dO (fiB code)],false,[]⟩
 law:=l1 (lL .byte)
def Za6:Zk6.α→Nat→Option (Ann UU):=fun code=>annL []
def Zu6:=us [Zh26,Zh27,Zh28,Zh29,Zh30]
def I_spec_DrawFiring_cut(code:(List Int)):List DMatch×Bool×(List Int×Int×Int×Unit)×(ByteArray×List DRule×Unit)×(List DItem×Int×Unit)×(ByteArray×List DRule×Unit)×(List DItem×Int×Unit)×(Int×List Int×List DBind×Unit)×Unit→Prop:=fun(set,b,cu,d,s,q2,q3,q4,_)=>set=fiSet code∧d=((fiD code).Name,(fiD code).Rules,())∧s=((fiS code).Items,(fiS code).Next,())∧cOk ⟨cu.1,cu.2.1,cu.2.2.1⟩∧(⟨cu.1,cu.2.1,cu.2.2.1⟩:DCur)=fiC2 code
def cut_spec_DrawFiring:Zk6.α→Ann UU:=fun code=>annOf [.slot 9 (9,1024) (.shr .eMatch),.slot 5 (5,1024) (.lit .bool),.box 6 (6,1024) [.shr .byte,.lit (.int .i64),.lit (.int .i64)],.box 7 (7,1024) [.lit .str,.own .eRule true],.box 8 (8,1024) [.own .eItem true,.lit (.int .i64)],.box 2 (2,1024) [.lit .str,.own .eRule true],.box 3 (3,1024) [.own .eItem true,.lit (.int .i64)],.box 4 (4,1024) [.lit (.int .i64),.own .int true,.own .eBind true]] (fun _=>I_spec_DrawFiring_cut code) (fun _=>0)
theorem Zw6(code:(List Int))(y:List DMatch×Bool×(List Int×Int×Int×Unit)×(ByteArray×List DRule×Unit)×(List DItem×Int×Unit)×(ByteArray×List DRule×Unit)×(List DItem×Int×Unit)×(Int×List Int×List DBind×Unit)×Unit):goalCB EE Zu6 f6 Zk6 Za6 code 5 (cut_spec_DrawFiring code) y=(let x2:Int:=belowV {b:=y.2.2.1.1,i:=y.2.2.1.2.1,h:=y.2.2.1.2.2.1:DCur} (y.1.length:Int);
let x1:Nat:=Int.toNat x2;
let x0:DMatch:=List.getD y.1 x1 zMatch;
bif (↑(List.length y.1):Int)==(0:Int) then Lf [DV.agg [Cell.lit (Value.string y.2.2.2.1.1),Cell.sl Cd.eRule y.2.2.2.1.2.1],DV.agg [Cell.sl Cd.eItem y.2.2.2.2.1.1,Cell.lit (Value.int IntKind.i64 y.2.2.2.2.1.2.1)],DV.agg [Cell.lit (Value.int IntKind.i64 (0:Int)),Cell.sl Cd.int [],Cell.sl Cd.eBind []],DV.one (Cell.lit (Value.bool false))] [DV.agg [Cell.lit (Value.string (fiD code).Name),Cell.sl Cd.eRule (fiD code).Rules],DV.agg [Cell.sl Cd.eItem (fiS code).Items,Cell.lit (Value.int IntKind.i64 (fiS code).Next)],DV.agg [Cell.lit (Value.int IntKind.i64 (fiM code).Rule),Cell.sl Cd.int (fiM code).Ids,Cell.sl Cd.eBind (fiM code).Binds],DV.one (Cell.lit (Value.bool (fiB code)))] else(0:Int)≤y.2.2.1.2.1∧List.length y.2.2.1.1≤(4294967296:Nat)∧(0:Int)≤x2∧x1<List.length y.1∧Lf [DV.agg [Cell.lit (Value.string y.2.2.2.1.1),Cell.sl Cd.eRule y.2.2.2.1.2.1],DV.agg [Cell.sl Cd.eItem y.2.2.2.2.1.1,Cell.lit (Value.int IntKind.i64 y.2.2.2.2.1.2.1)],DV.agg [Cell.lit (Value.int IntKind.i64 x0.Rule),Cell.sl Cd.int x0.Ids,Cell.sl Cd.eBind x0.Binds],DV.one (Cell.lit (Value.bool true))] [DV.agg [Cell.lit (Value.string (fiD code).Name),Cell.sl Cd.eRule (fiD code).Rules],DV.agg [Cell.sl Cd.eItem (fiS code).Items,Cell.lit (Value.int IntKind.i64 (fiS code).Next)],DV.agg [Cell.lit (Value.int IntKind.i64 (fiM code).Rule),Cell.sl Cd.int (fiM code).Ids,Cell.sl Cd.eBind (fiM code).Binds],DV.one (Cell.lit (Value.bool (fiB code)))]):=by kernel_rfl
theorem vb_spec_DrawFiring(code:(List Int))(y:List DMatch×Bool×(List Int×Int×Int×Unit)×(ByteArray×List DRule×Unit)×(List DItem×Int×Unit)×(ByteArray×List DRule×Unit)×(List DItem×Int×Unit)×(Int×List Int×List DBind×Unit)×Unit)(hp:∀p∈Zk6.pre code,p)(hb:∀d∈Zk6.ds code,BdDV d)(hy:I_spec_DrawFiring_cut code y):goalCB EE Zu6 f6 Zk6 Za6 code 5 (cut_spec_DrawFiring code) y:=by
 have hl_code:code.length≤9223372036854775807:=bdL (hb _ m0)
 have hp0:code.length≤4294967296:=hp _ m0
 clear hp hb
 rw[Zw6 code y]
 dsimp only
 obtain⟨set,b,⟨cb,ci,ch,⟨⟩⟩,⟨d1,d2,⟨⟩⟩,⟨s1,s2,⟨⟩⟩,⟨q1,q2,⟨⟩⟩,⟨q3,q4,⟨⟩⟩,⟨q5,q6,q7,⟨⟩⟩,⟨⟩⟩:=y
 obtain⟨hset,hd,hs,g4,g7⟩:=hy
 have hset:set=fiSet code:=hset
 have u1:d1=(fiD code).Name:=congrArg Prod.fst hd
 have u2:d2=(fiD code).Rules:=congrArg (fun t=>t.2.1) hd
 have v1:s1=(fiS code).Items:=congrArg Prod.fst hs
 have v2:s2=(fiS code).Next:=congrArg (fun t=>t.2.1) hs
 clear hd hs
 subst hset u1 u2 v1 v2
 have ga:0≤ci∧cb.length≤4294967296:=g4
 have g7:(⟨cb,ci,ch⟩:DCur)=fiC2 code:=g7
 clear g4
 generalize (⟨cb,ci,ch⟩:DCur)=cu at*
 have fin:∀(m:DMatch)(b:Bool),m=fiM code→b=fiB code→Lf [.agg [.lit (.string (fiD code).Name),.sl .eRule (fiD code).Rules],.agg [.sl .eItem (fiS code).Items,.lit (.int .i64 (fiS code).Next)],.agg [.lit (.int .i64 m.Rule),.sl .int m.Ids,.sl .eBind m.Binds],.one (.lit (.bool b))] [.agg [.lit (.string (fiD code).Name),.sl .eRule (fiD code).Rules],.agg [.sl .eItem (fiS code).Items,.lit (.int .i64 (fiS code).Next)],.agg [.lit (.int .i64 (fiM code).Rule),.sl .int (fiM code).Ids,.sl .eBind (fiM code).Binds],.one (.lit (.bool (fiB code)))]:=by
  intro m b e e'
  rw[e,e'];exact Lf_rfl _
 refine if_num (fun h=> ?_) (fun h=> ?_)
 ·have h:((fiSet code).length:Int)=0:=h
  exact fin zMatch false (if_neg (by omega)).symm (decide_eq_false (by omega)).symm
 ·have h:¬((fiSet code).length:Int)=0:=h
  have hb:=belowV_lt (c:=cu) (n:=((fiSet code).length:Int)) (by omega)
  have hbn:Int.toNat (belowV cu ((fiSet code).length:Int))<(fiSet code).length:=by omega
  exact⟨ga.1,ga.2,hb.1,hbn,fin (List.getD (fiSet code) (belowV cu (fiSet code).length).toNat zMatch) true ((if_pos (by omega)).trans (by rw[g7])).symm (decide_eq_true (by omega)).symm⟩
theorem vd_spec_DrawFiring(code:(List Int))(hp:∀p∈Zk6.pre code,p)(hb:∀d∈Zk6.ds code,BdDV d):goalCA EE Zu6 f6 Zk6 Za6 code 5 (cut_spec_DrawFiring code):=by
 have hl_code:code.length≤9223372036854775807:=bdL (hb _ m0)
 have hp0:code.length≤4294967296:=hp _ m0
 clear hp hb
 apply @ve _ (code.length≤(4294967296:Nat)∧cOk (newCur code)∧cOk (defDC (newCur code))∧(∀(r:DRule),r∈(defD (newCur code)).Rules→smallR r)∧(List.length (storeD (defDC (newCur code))).Items≤(40:Nat)∧List.length (defD (newCur code)).Rules≤(12:Nat))∧(∀(r:DRule),r∈(defD (newCur code)).Rules→firstP r)∧I_spec_DrawFiring_cut code (allM (defD (newCur code)).Rules (storeD (defDC (newCur code))).Items,false,((storeDC (defDC (newCur code))).b,(storeDC (defDC (newCur code))).i,(storeDC (defDC (newCur code))).h,()),((defD (newCur code)).Name,(defD (newCur code)).Rules,()),((storeD (defDC (newCur code))).Items,(storeD (defDC (newCur code))).Next,()),({data:= #[]:ByteArray},[],()),([],(0:Int),()),((0:Int),[],[],()),())) (by kernel_rfl)
 have hN:=cOk_new hp0
 have hD:=cOk_defD hN
 have hF:=defD_facts (newCur code)
 have hl:=storeD_len (defDC (newCur code))
 exact⟨hp0,hN,hD,fun r hr=>(hF.1 r hr).1,⟨by omega,hF.2.1⟩,fun r hr=>(hF.1 r hr).2,⟨rfl,rfl,rfl,cOk_storeD hD,by rw[fiC2,fiC1]⟩⟩
attribute [local irreducible] goalCA goalCB in
theorem Zo6:Holds EE (6,Zk6):=by
 refine holds_cut EE_ok func6 Zk6 (by kernel_rfl) Zu6 (us_ok _) Za6 5 cut_spec_DrawFiring (by kernel_rfl) (fun(code:(List Int)) hp hb=> ?_)
 refine⟨vd_spec_DrawFiring code hp hb,fun(y:List DMatch×Bool×(List Int×Int×Int×Unit)×(ByteArray×List DRule×Unit)×(List DItem×Int×Unit)×(ByteArray×List DRule×Unit)×(List DItem×Int×Unit)×(Int×List Int×List DBind×Unit)×Unit) hy=> ?_⟩
 have hy:I_spec_DrawFiring_cut code y:=hy
 exact vb_spec_DrawFiring code y hp hb hy
def Zh6:HH:=⟨_,Zo6⟩
def con_laws_FnEffects:Con UU where
 α:=(List Int)
 md:=[.ro]
 of:=o1 (oL .byte)
 ds:=fun x=>[dL .byte x]
 pre:=fun _=>[]
 res:=fun code=>⟨[dO true],true,[]⟩
 law:=l1 (lL .byte)
def I_laws_FnEffects_14(code:(List Int)):Int×List DEffect×(ByteArray×List DRule×Unit)×(Int×List Int×List DBind×Unit)×Unit→Prop:=fun(i,l,d,m,_)=>l=effs (fiD code) (fiM code)∧d=((fiD code).Name,(fiD code).Rules,())∧m=((fiM code).Rule,(fiM code).Ids,(fiM code).Binds,())∧0≤i∧i≤l.length
def μ_laws_FnEffects_14(code:(List Int)):Int×List DEffect×(ByteArray×List DRule×Unit)×(Int×List Int×List DBind×Unit)×Unit→Nat:=fun(i,l,d,m,_)=>l.length-i.toNat
def ann_laws_FnEffects:con_laws_FnEffects.α→Nat→Option (Ann UU):=fun code=>annL [(14,annOf [.slot 12 (12,1024) (.lit (.int .i64)),.slot 7 (7,1024) (.own .eEffect true),.box 3 (3,1024) [.lit .str,.shr .eRule],.box 5 (5,1024) [.lit (.int .i64),.shr .int,.shr .eBind]] (fun _=>I_laws_FnEffects_14 code) (μ_laws_FnEffects_14 code))]
def use_laws_FnEffects:=us [Zh5,Zh6,Zh7,Zh8,Zh9,Zh10,Zh11,Zh12]
theorem ok_laws_FnEffects:Holds EE (3,con_laws_FnEffects):=by
 refine holds_of EE_ok func3 con_laws_FnEffects (by kernel_rfl) use_laws_FnEffects (us_ok _) ann_laws_FnEffects (fun(code:(List Int)) hp hb=> ?_)
 have hl_code:code.length≤9223372036854775807:=bdL (hb _ m0)
 clear hp hb
 apply @ve _ (let x0:Nat:=List.length (List.getD (fiD code).Rules (Int.toNat (fiM code).Rule) zRule).Acts;bif decide (code.length>(1048576:Nat)) then Lb true true else code.length≤(4294967296:Nat)∧bif !fiB code then bif (↑(List.length (allOk (fiD code) (fiS code))):Int)==(0:Int) then Lb (defOk (fiD code)) true else Lb false true else sizeDef (fiD code)≤(4294967295:Nat)∧sizeDef (fiD code)≤(4294967295:Nat)∧bif !effOk (fiD code) (fiM code)==effOk (fiD code) (fiM code) then bif effOk (fiD code) (fiM code)==effOk (fiD code) (fiM code) then Lb ((↑(List.length (effs (fiD code) (fiM code))):Int)==(0:Int)) true else Lb false true else bif !effOk (fiD code) (fiM code) then bif effOk (fiD code) (fiM code)==effOk (fiD code) (fiM code) then Lb ((↑(List.length (effs (fiD code) (fiM code))):Int)==(0:Int)) true else Lb false true else(0:Int)≤(fiM code).Rule∧Int.toNat (fiM code).Rule<List.length (fiD code).Rules∧bif (↑(List.length (effs (fiD code) (fiM code))):Int) !=(↑x0:Int) then Lb false true else I_laws_FnEffects_14 code ((0:Int),effs (fiD code) (fiM code),((fiD code).Name,(fiD code).Rules,()),((fiM code).Rule,(fiM code).Ids,(fiM code).Binds,()),())∧∀(y:Int×List DEffect×(ByteArray×List DRule×PUnit)×(Int×List Int×List DBind×PUnit)×PUnit),let x1:DEffect:=List.getD y.2.1 y.1.toNat zEffect;let x3:Nat:=y.2.1.length;let x4:DAct:=List.getD (List.getD (fiD code).Rules (Int.toNat (fiM code).Rule) zRule).Acts y.1.toNat zAct;let x2:Int:=(↑x3:Int);I_laws_FnEffects_14 code y→bif decide (y.1<x2) then(0:Int)≤y.1∧y.1.toNat<x3∧y.1.toNat<x3∧y.1.toNat<x3∧bif !effectOk x1 then Lb false true else(0:Int)≤y.1∧y.1.toNat<x3∧y.1.toNat<x3∧(0:Int)≤y.1∧y.1.toNat<x0∧bif x1.Kind !=x4.Kind then Lb false true else(0:Int)≤y.1∧y.1.toNat<x3∧y.1.toNat<x3∧bif x1.Kind==(2:Int) then(0:Int)≤y.1∧y.1.toNat<x3∧y.1.toNat<x3∧bif !hasI y.2.2.2.1.2.1 x1.Id then Lb false true else(0:Int)≤y.1∧y.1.toNat<x3∧y.1.toNat<x3∧(0:Int)≤y.1∧y.1.toNat<x0∧bif !ByteArray.toList x1.F.Kind==ByteArray.toList x4.Name then(0:Int)≤y.1∧y.1.toNat<x3∧y.1.toNat<x3∧bif x1.Kind !=(2:Int) then Lb false true else I_laws_FnEffects_14 code (IntKind.wrap IntKind.i64 (y.1+(1:Int)),y.2.1,(y.2.2.1.1,y.2.2.1.2.1,()),(y.2.2.2.1.1,y.2.2.2.1.2.1,y.2.2.2.1.2.2.1,()),())∧μ_laws_FnEffects_14 code (IntKind.wrap IntKind.i64 (y.1+(1:Int)),y.2.1,(y.2.2.1.1,y.2.2.1.2.1,()),(y.2.2.2.1.1,y.2.2.2.1.2.1,y.2.2.2.1.2.2.1,()),())<μ_laws_FnEffects_14 code y else I_laws_FnEffects_14 code (IntKind.wrap IntKind.i64 (y.1+(1:Int)),y.2.1,(y.2.2.1.1,y.2.2.1.2.1,()),(y.2.2.2.1.1,y.2.2.2.1.2.1,y.2.2.2.1.2.2.1,()),())∧μ_laws_FnEffects_14 code (IntKind.wrap IntKind.i64 (y.1+(1:Int)),y.2.1,(y.2.2.1.1,y.2.2.1.2.1,()),(y.2.2.2.1.1,y.2.2.2.1.2.1,y.2.2.2.1.2.2.1,()),())<μ_laws_FnEffects_14 code y else(0:Int)≤y.1∧y.1.toNat<x3∧y.1.toNat<x3∧(0:Int)≤y.1∧y.1.toNat<x0∧bif !ByteArray.toList x1.F.Kind==ByteArray.toList x4.Name then(0:Int)≤y.1∧y.1.toNat<x3∧y.1.toNat<x3∧bif x1.Kind !=(2:Int) then Lb false true else I_laws_FnEffects_14 code (IntKind.wrap IntKind.i64 (y.1+(1:Int)),y.2.1,(y.2.2.1.1,y.2.2.1.2.1,()),(y.2.2.2.1.1,y.2.2.2.1.2.1,y.2.2.2.1.2.2.1,()),())∧μ_laws_FnEffects_14 code (IntKind.wrap IntKind.i64 (y.1+(1:Int)),y.2.1,(y.2.2.1.1,y.2.2.1.2.1,()),(y.2.2.2.1.1,y.2.2.2.1.2.1,y.2.2.2.1.2.2.1,()),())<μ_laws_FnEffects_14 code y else I_laws_FnEffects_14 code (IntKind.wrap IntKind.i64 (y.1+(1:Int)),y.2.1,(y.2.2.1.1,y.2.2.1.2.1,()),(y.2.2.2.1.1,y.2.2.2.1.2.1,y.2.2.2.1.2.2.1,()),())∧μ_laws_FnEffects_14 code (IntKind.wrap IntKind.i64 (y.1+(1:Int)),y.2.1,(y.2.2.1.1,y.2.2.1.2.1,()),(y.2.2.2.1.1,y.2.2.2.1.2.1,y.2.2.2.1.2.2.1,()),())<μ_laws_FnEffects_14 code y else Lb true true) (by kernel_rfl)
 dsimp only
 refine if_dec (fun h=>Lf_rfl _) (fun h=>⟨by omega,if_not (fun b=> ?_) (fun b=> ?_)⟩)
 ·have e:allOk (fiD code) (fiS code)=[]:=by
   unfold allOk;split
   ·exact zbh (by have:=of_decide_eq_false b;simp only[fiSet] at this;omega)
   ·rfl
  rw[e]
  exact if_num (fun _=>Lf_b (defD_ok _)) (fun e=>absurd rfl e)
 have hz:sizeDef (fiD code)≤61000:=(defD_facts (newCur code)).2.2
 refine⟨by omega,by omega,if_cond (fun e=>absurd e (by simp)) (fun _=>if_not (fun o=> ?_) (fun o=> ?_))⟩
 ·have hE:effs (fiD code) (fiM code)=[]:=if_neg (by rw[show effOk (fiD code) (fiM code)=false from o];decide)
  rw[hE]
  exact if_cond (fun _=>Lf_b (by rfl)) (fun e=>absurd e (by simp))
 have o:effOk (fiD code) (fiM code)=true:=o
 have hE:effs (fiD code) (fiM code)=(actsOf (fiD code) (fiM code)).map (effS (fiM code)):=if_pos o
 simp only[effOk,zaf] at o
 obtain⟨⟨o1,o2⟩,o3⟩:=o
 have hA:=acts_of o1 o2
 have hr:=o2
 simp only[mayE,zaf] at hr
 obtain⟨r1,r2⟩:=hasR_iff hr.1
 have hlen:(effs (fiD code) (fiM code)).length=(actsOf (fiD code) (fiM code)).length:=by rw[hE,zco]
 refine⟨r1,by omega,if_neq (fun e=>absurd (congrArg Nat.cast hlen) e) (fun _=>⟨⟨rfl,rfl,rfl,by omega,by omega⟩,?_⟩)⟩
 rintro⟨i,l,⟨d1,d2,⟨⟩⟩,⟨m1,m2,m3,⟨⟩⟩,⟨⟩⟩ ⟨hl,hd,hm,h1,h2⟩
 have hl:l=effs (fiD code) (fiM code):=hl
 have u1:d1=(fiD code).Name:=congrArg Prod.fst hd
 have u2:d2=(fiD code).Rules:=congrArg (fun t=>t.2.1) hd
 have v1:m1=(fiM code).Rule:=congrArg Prod.fst hm
 have v2:m2=(fiM code).Ids:=congrArg (fun t=>t.2.1) hm
 have v3:m3=(fiM code).Binds:=congrArg (fun t=>t.2.2.1) hm
 clear hd hm
 subst hl u1 u2 v1 v2 v3
 have h1:0≤i:=h1
 have h2:i≤(effs (fiD code) (fiM code)).length:=h2
 refine if_dec (fun hc=> ?_) (fun hc=>Lf_rfl _)
 have hc:i<(effs (fiD code) (fiM code)).length:=hc
 have hi:i.toNat<(actsOf (fiD code) (fiM code)).length:=by omega
 have hx:List.getD (effs (fiD code) (fiM code)) i.toNat zEffect=effS (fiM code) (List.getD (actsOf (fiD code) (fiM code)) i.toNat zAct):=by
  rw[hE,zac,zac,zal,zad hi];rfl
 have hok:=zcb.1 o3 _ (getD_in (z:=zAct) hi)
 simp only[okS,zaf] at hok
 have hN:=(hA.2 i h1 (by omega)).2
 have q1:i.toNat<(effs (fiD code) (fiM code)).length:=by omega
 have q2:i.toNat<(List.getD (fiD code).Rules (Int.toNat (fiM code).Rule) zRule).Acts.length:=hi
 have nxt:I_laws_FnEffects_14 code (IntKind.wrap .i64 (i+1),effs (fiD code) (fiM code),((fiD code).Name,(fiD code).Rules,()),((fiM code).Rule,(fiM code).Ids,(fiM code).Binds,()),())∧μ_laws_FnEffects_14 code (IntKind.wrap .i64 (i+1),effs (fiD code) (fiM code),((fiD code).Name,(fiD code).Rules,()),((fiM code).Rule,(fiM code).Ids,(fiM code).Binds,()),())<μ_laws_FnEffects_14 code (i,effs (fiD code) (fiM code),((fiD code).Name,(fiD code).Rules,()),((fiM code).Rule,(fiM code).Ids,(fiM code).Binds,()),()):=by
  rw[wrap_i64 (by omega) (by omega)]
  exact⟨⟨rfl,rfl,rfl,by omega,by omega⟩,by simp only[μ_laws_FnEffects_14];omega⟩
 simp only[hx]
 refine⟨h1,q1,q1,q1,if_not (fun e=>absurd (hok.2.symm.trans e) (by decide)) (fun _=>⟨h1,q1,q1,h1,q2,if_neq (fun e=>absurd (effS_kind _ _) e) (fun _=>⟨h1,q1,q1,if_num (fun k=>⟨h1,q1,q1,if_not (fun e=> ?_) (fun _=>⟨h1,q1,q1,h1,q2,if_strn (fun _=>⟨h1,q1,q1,if_neq (fun n=>absurd k n) (fun _=>nxt)⟩) (fun _=>nxt)⟩)⟩) (fun k=>⟨h1,q1,q1,h1,q2,if_strn (fun e=>absurd (effS_name (fun e=>k ((effS_kind _ _).trans e))) e) (fun _=>nxt)⟩)⟩)⟩)⟩
 have k2:(List.getD (actsOf (fiD code) (fiM code)) i.toNat zAct).Kind=2:=(effS_kind (fiM code) _).symm.trans k
 have hn:=hN k2
 have hid:(effS (fiM code) (List.getD (actsOf (fiD code) (fiM code)) i.toNat zAct)).Id=List.getD (fiM code).Ids (List.getD (actsOf (fiD code) (fiM code)) i.toNat zAct).N.toNat 0:=by unfold effS;rw[if_pos k2]
 have ht:hasI (fiM code).Ids (effS (fiM code) (List.getD (actsOf (fiD code) (fiM code)) i.toNat zAct)).Id=true:=by
  rw[hid]
  exact zbb.2 ⟨_,getD_in (by omega),decide_eq_true rfl⟩
 exact absurd (ht.symm.trans e) (by decide)
def h_laws_FnEffects:HH:=⟨_,ok_laws_FnEffects⟩
end
end AM
