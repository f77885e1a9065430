/- Functions of the program with their contracts: put together by gen/link.py for FnExactNextOf. -/
import Derived.Test.YtceiiofmelhipaaGreatAmLib
import Derived.Test.YtceiiofmelhipaaGreatFExactNextOf2
namespace AM
open Go Go.Proofs.Tryz
set_option linter.unusedVariables false
set_option linter.unusedSimpArgs false
set_option maxRecDepth 100000
noncomputable section
def Zk23:Con UU where
 α:=DInst×Int
 md:=[.wr,.ro]
 of:=oC (oA .eInst) (o1 oI)
 ds:=fun x=>[dA .eInst x.1,dI x.2]
 pre:=fun(a,k)=>[0≤k,k+ctInst a≤4611686018427387904]
 res:=fun(a,k)=>⟨[dI (k+ctInst a)],true,[dA .eInst (mkInst a k)]⟩
 law:=lC (lA .eInst) (l1 lI)
def Za23:Zk23.α→Nat→Option (Ann UU):=fun(a,k)=>annL []
def Zu23:=us [Zh69,Zh70,Zh71,Zh72,Zh73]
theorem Zo23:Holds EE (23,Zk23):=by
 refine holds_of EE_ok func23 Zk23 (by kernel_rfl) Zu23 (us_ok _) Za23 (fun x hp hb=> ?_)
 obtain⟨a,k⟩:=x
 have hz0:=bd_eInst (x:=a) (hb _ m0)
 have hl_a_S_Items:=hz0.1
 have hl_a_Fired:=hz0.2.1
 have hl_a_Tasks:=hz0.2.2.1
 have hl_a_Timers:=hz0.2.2.2.1
 have hl_a_Undos:=hz0.2.2.2.2
 have hl_k:=bdI (n:=k) (hb _ m1)
 have hp0:0≤k:=hp _ m0
 have hp1:k+ctInst a≤4611686018427387904:=hp _ m1
 clear hp hb
 apply @ve _ (let x3:Int:=k+(↑(ctStore a.S):Int);let x2:Int:=x3+(↑(cntMatchS a.Fired):Int);let x1:Int:=x2+(↑(cntTaskS a.Tasks):Int);let x0:Int:=x1+(↑(cntTimerS a.Timers):Int);(0:Int)≤k∧x3≤(4611686018427387904:Int)∧(0:Int)≤x3∧x2≤(4611686018427387904:Int)∧(0:Int)≤x2∧x1≤(4611686018427387904:Int)∧(0:Int)≤x1∧x0≤(4611686018427387904:Int)∧(0:Int)≤x0∧x0+(↑(cntUndoS a.Undos):Int)≤(4611686018427387904:Int)∧asD [VI (x0+(↑(cntUndoS a.Undos):Int))]=asD [VI (k+(↑(ctInst a):Int))]∧asD [DV.agg [CL .eItem (mkStore a.S k).Items,CI a.S.Next,CL .eMatch (markMatchS a.Fired x3),CL .eTask (markTaskS a.Tasks x2),CL .eTimer (markTimerS a.Timers x1),CL .eUndo (markUndoS a.Undos x0),CI a.State,CI a.Now]]=asD [DV.agg (enc_eInst (mkInst a k))]) (by kernel_rfl)
 dsimp only
 simp only[ctInst] at hp1
 repeat' (first|refine And.intro (by omega) ?_|fail)
 exact⟨by simp only[ctInst,Int.natCast_add,Int.add_assoc],rfl⟩
def Zh23:HH:=⟨_,Zo23⟩
theorem firedM_ids{d:DDef}{s:List DItem}{m:DMatch}(h1:hasR d m=true)(h2:m.Binds.length=0)(h3:m.Ids.length=posN (List.getD d.Rules m.Rule.toNat zRule).Pats):firedM d s m=m.Ids.all (hasId s):=by
 simp only[firedM,h1,decide_eq_true h2,decide_eq_true h3,zck]
theorem ctInst_items(x:DInst):sizeItemS x.S.Items≤sizeInst x:=by
 simp only[sizeInst,sizeStore];omega
theorem hasR_iff{d:DDef}{m:DMatch}(h:hasR d m=true):0≤m.Rule∧m.Rule<(d.Rules.length:Int):=by
 simpa[hasR] using h
theorem posN_size{d:DDef}{m:DMatch}(h:hasR d m=true):posN (List.getD d.Rules m.Rule.toNat zRule).Pats≤sizeDef d:=by
 obtain⟨h1,h2⟩:=hasR_iff h
 have hs:=sum_getD_le sizeRule d.Rules zRule h1 h2
 have hle:posN (List.getD d.Rules m.Rule.toNat zRule).Pats≤(List.getD d.Rules m.Rule.toNat zRule).Pats.length:=zdt _ _
 simp only[sizeRule,sizePatS] at hs
 simp only[sizeDef,sizeRuleS,sizeRule,sizePatS];omega
def Zk39:Con UU where
 α:=DDef×DMatch
 md:=[.ro,.ro]
 of:=oC (oA .eDef) (o1 (oA .eMatch))
 ds:=fun x=>[dA .eDef x.1,dA .eMatch x.2]
 pre:=fun _=>[]
 res:=fun(d,m)=>⟨[dO (hasR d m)],true,[]⟩
 law:=lC (lA .eDef) (l1 (lA .eMatch))
def Za39:Zk39.α→Nat→Option (Ann UU):=fun(d,m)=>annL []
def Zu39:List (FuncId×Con UU):=[]
theorem Zo39:Holds EE (39,Zk39):=by
 refine holds_of EE_ok func39 Zk39 (by kernel_rfl) Zu39 all_nil Za39 (fun x hp hb=> ?_)
 obtain⟨d,m⟩:=x
 have hz0:=bd_eDef (x:=d) (hb _ m0)
 have hl_d_Name:=hz0.1
 have hl_d_Rules:=hz0.2
 have hz1:=bd_eMatch (x:=m) (hb _ m1)
 have hl_m_Ids:=hz1.1
 have hl_m_Binds:=hz1.2
 clear hp hb
 apply @ve _ (bif decide (m.Rule≥(0:Int)) then Lb (decide (m.Rule<(d.Rules.length:Int))) (hasR d m) else Lb false (hasR d m)) (by kernel_rfl)
 simp only[hasR]
 refine if_dec (fun h=>Lf_b ?_) (fun h=>Lf_b ?_)
 ·rw[decide_eq_true (show 0≤m.Rule from h),zck]
 ·rw[decide_eq_false (show¬0≤m.Rule from h),zbi]
def Zh39:HH:=⟨_,Zo39⟩
def Zk99:Con UU where
 α:=DDef×DMatch
 md:=[.ro,.ro]
 of:=oC (oA .eDef) (o1 (oA .eMatch))
 ds:=fun x=>[dA .eDef x.1,dA .eMatch x.2]
 pre:=fun _=>[]
 res:=fun(d,m)=>⟨[dO (hasR d m)],true,[]⟩
 law:=lC (lA .eDef) (l1 (lA .eMatch))
def Za99:Zk99.α→Nat→Option (Ann UU):=fun(d,m)=>annL []
def Zu99:List (FuncId×Con UU):=[]
theorem Zo99:Holds EE (99,Zk99):=by
 refine holds_of EE_ok func99 Zk99 (by kernel_rfl) Zu99 all_nil Za99 (fun x hp hb=> ?_)
 obtain⟨d,m⟩:=x
 have hz0:=bd_eDef (x:=d) (hb _ m0)
 have hl_d_Name:=hz0.1
 have hl_d_Rules:=hz0.2
 have hz1:=bd_eMatch (x:=m) (hb _ m1)
 have hl_m_Ids:=hz1.1
 have hl_m_Binds:=hz1.2
 clear hp hb
 apply @ve _ (bif decide (m.Rule≥(0:Int)) then Lb (decide (m.Rule<(d.Rules.length:Int))) (hasR d m) else Lb false (hasR d m)) (by kernel_rfl)
 simp only[hasR]
 refine if_dec (fun h=>Lf_b ?_) (fun h=>Lf_b ?_)
 ·rw[decide_eq_true (show 0≤m.Rule from h),zck]
 ·rw[decide_eq_false (show¬0≤m.Rule from h),zbi]
def Zh99:HH:=⟨_,Zo99⟩
def Zk118:Con UU where
 α:=DDef×DInst
 md:=[.ro,.ro]
 of:=oC (oA .eDef) (o1 (oA .eInst))
 ds:=fun x=>[dA .eDef x.1,dA .eInst x.2]
 pre:=fun(d,x)=>[sizeDef d≤4294967295,sizeItemS x.S.Items≤4294967296]
 res:=fun(d,x)=>⟨[dO (firedOk d x)],true,[]⟩
 law:=lC (lA .eDef) (l1 (lA .eInst))
def Zi118_2(d:DDef)(x:DInst):Int×(ByteArray×List DRule×Unit)×(List DItem×Int×List DMatch×List DTask×List DTimer×List DUndo×Int×Int×Unit)×Unit→Prop:=fun(i,b,g,_)=>b=(d.Name,d.Rules,())∧g=(x.S.Items,x.S.Next,x.Fired,x.Tasks,x.Timers,x.Undos,x.State,x.Now,())∧0≤i∧i≤x.Fired.length∧(x.Fired.drop i.toNat).all (firedM d x.S.Items)=x.Fired.all (firedM d x.S.Items)
def Zm118_2(d:DDef)(x:DInst):Int×(ByteArray×List DRule×Unit)×(List DItem×Int×List DMatch×List DTask×List DTimer×List DUndo×Int×Int×Unit)×Unit→Nat:=fun(i,b,g,_)=>x.Fired.length-i.toNat
def Zi118_8(d:DDef)(x:DInst):Int×Int×(ByteArray×List DRule×Unit)×(List DItem×Int×List DMatch×List DTask×List DTimer×List DUndo×Int×Int×Unit)×(Int×List Int×List DBind×Unit)×Unit→Int×Int×(ByteArray×List DRule×Unit)×(List DItem×Int×List DMatch×List DTask×List DTimer×List DUndo×Int×Int×Unit)×(Int×List Int×List DBind×Unit)×Unit→Prop:=fun(i0,k0,b0,g0,m0,_) (i,k,b,g,m,_)=>i=i0∧b=b0∧g=g0∧m=m0∧0≤k∧k≤(List.getD x.Fired i.toNat zMatch).Ids.length∧((List.getD x.Fired i.toNat zMatch).Ids.drop k.toNat).all (hasId x.S.Items)=(List.getD x.Fired i.toNat zMatch).Ids.all (hasId x.S.Items)
def Zm118_8(d:DDef)(x:DInst):Int×Int×(ByteArray×List DRule×Unit)×(List DItem×Int×List DMatch×List DTask×List DTimer×List DUndo×Int×Int×Unit)×(Int×List Int×List DBind×Unit)×Unit→Nat:=fun(i,k,b,g,m,_)=>(List.getD x.Fired i.toNat zMatch).Ids.length-k.toNat
def Za118:Zk118.α→Nat→Option (Ann UU):=fun(d,x)=>annL [(2,annOf [.slot 5 (5,1024) (.lit (.int .i64)),.box 2 (2,1024) [.lit .str,.shr .eRule],.box 3 (3,1024) [.shr .eItem,.lit (.int .i64),.shr .eMatch,.shr .eTask,.shr .eTimer,.shr .eUndo,.lit (.int .i64),.lit (.int .i64)]] (fun _=>Zi118_2 d x) (Zm118_2 d x)),(8,annOf [.slot 5 (5,1024) (.lit (.int .i64)),.slot 7 (7,1024) (.lit (.int .i64)),.box 2 (2,1024) [.lit .str,.shr .eRule],.box 3 (3,1024) [.shr .eItem,.lit (.int .i64),.shr .eMatch,.shr .eTask,.shr .eTimer,.shr .eUndo,.lit (.int .i64),.lit (.int .i64)],.box 6 (6,1024) [.lit (.int .i64),.shr .int,.shr .eBind]] (Zi118_8 d x) (Zm118_8 d x))]
def Zu118:=us [Zh39,Zh40,Zh188]
theorem Zo118:Holds EE (118,Zk118):=by
 refine holds_of EE_ok func118 Zk118 (by kernel_rfl) Zu118 (us_ok _) Za118 (fun x hp hb=> ?_)
 obtain⟨d,x⟩:=x
 have hz0:=bd_eDef (x:=d) (hb _ m0)
 have hl_d_Name:=hz0.1
 have hl_d_Rules:=hz0.2
 have hz1:=bd_eInst (x:=x) (hb _ m1)
 have hl_x_S_Items:=hz1.1
 have hl_x_Fired:=hz1.2.1
 have hl_x_Tasks:=hz1.2.2.1
 have hl_x_Timers:=hz1.2.2.2.1
 have hl_x_Undos:=hz1.2.2.2.2
 have hp0:sizeDef d≤4294967295:=hp _ m0
 have hp1:sizeItemS x.S.Items≤4294967296:=hp _ m1
 clear hp hb
 apply @ve _ (Zi118_2 d x ((0:Int),(d.Name,d.Rules,()),(x.S.Items,x.S.Next,x.Fired,x.Tasks,x.Timers,x.Undos,x.State,x.Now,()),())∧∀(y:Int×(ByteArray×List DRule×PUnit)×(List DItem×Int×List DMatch×List DTask×List DTimer×List DUndo×Int×Int×PUnit)×PUnit),let x0:DMatch:=List.getD y.2.2.1.2.2.1 y.1.toNat zMatch;let x2:Nat:=y.2.2.1.2.2.1.length;let x1:Int:=(↑x2:Int);Zi118_2 d x y→bif decide (y.1<x1) then(0:Int)≤y.1∧y.1.toNat<x2∧bif !hasR {Name:=y.2.1.1,Rules:=y.2.1.2.1:DDef} x0 then Lb false (firedOk d x) else bif (x0.Binds.length:Int) !=(0:Int) then Lb false (firedOk d x) else(0:Int)≤x0.Rule∧x0.Rule.toNat<y.2.1.2.1.length∧bif (x0.Ids.length:Int) !=(↑(posN (List.getD y.2.1.2.1 x0.Rule.toNat zRule).Pats):Int) then Lb false (firedOk d x) else Zi118_8 d x (y.1,(0:Int),(y.2.1.1,y.2.1.2.1,()),(y.2.2.1.1,y.2.2.1.2.1,y.2.2.1.2.2.1,y.2.2.1.2.2.2.1,y.2.2.1.2.2.2.2.1,y.2.2.1.2.2.2.2.2.1,y.2.2.1.2.2.2.2.2.2.1,y.2.2.1.2.2.2.2.2.2.2.1,()),(x0.Rule,x0.Ids,x0.Binds,()),()) (y.1,(0:Int),(y.2.1.1,y.2.1.2.1,()),(y.2.2.1.1,y.2.2.1.2.1,y.2.2.1.2.2.1,y.2.2.1.2.2.2.1,y.2.2.1.2.2.2.2.1,y.2.2.1.2.2.2.2.2.1,y.2.2.1.2.2.2.2.2.2.1,y.2.2.1.2.2.2.2.2.2.2.1,()),(x0.Rule,x0.Ids,x0.Binds,()),())∧∀(y_1:Int×Int×(ByteArray×List DRule×PUnit)×(List DItem×Int×List DMatch×List DTask×List DTimer×List DUndo×Int×Int×PUnit)×(Int×List Int×List DBind×PUnit)×PUnit),let x4:Nat:=y_1.2.2.2.2.1.2.1.length;let x5:Nat:=y_1.2.1.toNat;let x3:Int:=(↑x4:Int);Zi118_8 d x (y.1,(0:Int),(y.2.1.1,y.2.1.2.1,()),(y.2.2.1.1,y.2.2.1.2.1,y.2.2.1.2.2.1,y.2.2.1.2.2.2.1,y.2.2.1.2.2.2.2.1,y.2.2.1.2.2.2.2.2.1,y.2.2.1.2.2.2.2.2.2.1,y.2.2.1.2.2.2.2.2.2.2.1,()),(x0.Rule,x0.Ids,x0.Binds,()),()) y_1→bif decide (y_1.2.1<x3) then(0:Int)≤y_1.2.1∧x5<x4∧sizeItemS y_1.2.2.2.1.1≤(4294967296:Nat)∧bif !hasId y_1.2.2.2.1.1 (List.getD y_1.2.2.2.2.1.2.1 x5 (0:Int)) then Lb false (firedOk d x) else Zi118_8 d x (y.1,(0:Int),(y.2.1.1,y.2.1.2.1,()),(y.2.2.1.1,y.2.2.1.2.1,y.2.2.1.2.2.1,y.2.2.1.2.2.2.1,y.2.2.1.2.2.2.2.1,y.2.2.1.2.2.2.2.2.1,y.2.2.1.2.2.2.2.2.2.1,y.2.2.1.2.2.2.2.2.2.2.1,()),(x0.Rule,x0.Ids,x0.Binds,()),()) (y_1.1,IntKind.wrap IntKind.i64 (y_1.2.1+(1:Int)),(y_1.2.2.1.1,y_1.2.2.1.2.1,()),(y_1.2.2.2.1.1,y_1.2.2.2.1.2.1,y_1.2.2.2.1.2.2.1,y_1.2.2.2.1.2.2.2.1,y_1.2.2.2.1.2.2.2.2.1,y_1.2.2.2.1.2.2.2.2.2.1,y_1.2.2.2.1.2.2.2.2.2.2.1,y_1.2.2.2.1.2.2.2.2.2.2.2.1,()),(y_1.2.2.2.2.1.1,y_1.2.2.2.2.1.2.1,y_1.2.2.2.2.1.2.2.1,()),())∧Zm118_8 d x (y_1.1,IntKind.wrap IntKind.i64 (y_1.2.1+(1:Int)),(y_1.2.2.1.1,y_1.2.2.1.2.1,()),(y_1.2.2.2.1.1,y_1.2.2.2.1.2.1,y_1.2.2.2.1.2.2.1,y_1.2.2.2.1.2.2.2.1,y_1.2.2.2.1.2.2.2.2.1,y_1.2.2.2.1.2.2.2.2.2.1,y_1.2.2.2.1.2.2.2.2.2.2.1,y_1.2.2.2.1.2.2.2.2.2.2.2.1,()),(y_1.2.2.2.2.1.1,y_1.2.2.2.2.1.2.1,y_1.2.2.2.2.1.2.2.1,()),())<Zm118_8 d x y_1 else Zi118_2 d x (IntKind.wrap IntKind.i64 (y_1.1+(1:Int)),(y_1.2.2.1.1,y_1.2.2.1.2.1,()),(y_1.2.2.2.1.1,y_1.2.2.2.1.2.1,y_1.2.2.2.1.2.2.1,y_1.2.2.2.1.2.2.2.1,y_1.2.2.2.1.2.2.2.2.1,y_1.2.2.2.1.2.2.2.2.2.1,y_1.2.2.2.1.2.2.2.2.2.2.1,y_1.2.2.2.1.2.2.2.2.2.2.2.1,()),())∧Zm118_2 d x (IntKind.wrap IntKind.i64 (y_1.1+(1:Int)),(y_1.2.2.1.1,y_1.2.2.1.2.1,()),(y_1.2.2.2.1.1,y_1.2.2.2.1.2.1,y_1.2.2.2.1.2.2.1,y_1.2.2.2.1.2.2.2.1,y_1.2.2.2.1.2.2.2.2.1,y_1.2.2.2.1.2.2.2.2.2.1,y_1.2.2.2.1.2.2.2.2.2.2.1,y_1.2.2.2.1.2.2.2.2.2.2.2.1,()),())<Zm118_2 d x y else Lb (decide (x1≤(1000:Int))) (firedOk d x)) (by kernel_rfl)
 dsimp only
 refine⟨⟨rfl,rfl,by omega,by omega,rfl⟩,?_⟩
 rintro⟨i,⟨b1,b2,⟨⟩⟩,⟨g1,g2,g3,g4,g5,g6,g7,g8,⟨⟩⟩,⟨⟩⟩ ⟨hb,hg,h1,h2,hR⟩
 cases hb
 cases hg
 simp only
 refine if_dec (fun hc=> ?_) (fun hc=> ?_)
 ·rw[all_step _ _ zMatch h1 hc] at hR
  have hN:firedM d x.S.Items (List.getD x.Fired i.toNat zMatch)=false→firedOk d x=false:=fun h=>by simp only[firedOk,←hR,h,zbi,zbs]
  refine⟨by omega,by omega,if_not (fun a=>Lf_ff (hN ?_)) (fun a=>if_not (fun b=>Lf_ff (hN ?_)) (fun b=> ?_))⟩
  ·have a:hasR d (List.getD x.Fired i.toNat zMatch)=false:=a
   simp only[firedM,a,zbi]
  ·have b:¬(List.getD x.Fired i.toNat zMatch).Binds.length=0:=by simpa using b
   simp only[firedM,decide_eq_false b,zbi,zbs]
  have a:hasR d (List.getD x.Fired i.toNat zMatch)=true:=a
  have b:(List.getD x.Fired i.toNat zMatch).Binds.length=0:=by simpa using b
  obtain⟨r1,r2⟩:=hasR_iff a
  have hz:=posN_size a
  refine⟨r1,by omega,if_not (fun c=>Lf_ff (hN ?_)) (fun c=>⟨⟨rfl,rfl,rfl,rfl,by omega,by omega,rfl⟩,?_⟩)⟩
  ·have c:¬(List.getD x.Fired i.toNat zMatch).Ids.length=posN (List.getD d.Rules (List.getD x.Fired i.toNat zMatch).Rule.toNat zRule).Pats:=fun e=>by rw[e] at c;simp at c
   simp only[firedM,decide_eq_false c,zbi,zbs]
  have c:(List.getD x.Fired i.toNat zMatch).Ids.length=posN (List.getD d.Rules (List.getD x.Fired i.toNat zMatch).Rule.toNat zRule).Pats:=by
   have c:=eq_of_beq c
   omega
  have hM:=firedM_ids (s:=x.S.Items) a b c
  rintro⟨i',k,⟨b1,b2,⟨⟩⟩,⟨g1,g2,g3,g4,g5,g6,g7,g8,⟨⟩⟩,⟨m1,m2,m3,⟨⟩⟩,⟨⟩⟩ ⟨rfl,hb,hg,hm,k1,k2,kR⟩
  cases hb
  cases hg
  cases hm
  simp only
  refine if_dec (fun hk=> ?_) (fun hk=> ?_)
  ·rw[all_step _ _ 0 k1 hk] at kR
   rw[wrap_i64 (n:=k+1) (by omega) (by omega)]
   exact⟨by omega,by omega,hp1,if_not (fun e=>Lf_ff (hN (by rw[hM,←kR,e,zbi]))) (fun e=>⟨⟨rfl,rfl,rfl,rfl,by omega,by omega,by rw[←kR,e,zck]⟩,by simp only[Zm118_8];omega⟩)⟩
  ·rw[drop_end _ (by omega)] at kR
   rw[wrap_i64 (n:=i'+1) (by omega) (by omega)]
   exact⟨⟨rfl,rfl,by omega,by omega,by rw[←hR,hM,←kR];rfl⟩,by simp only[Zm118_2];omega⟩
 ·rw[drop_end _ (by omega)] at hR
  refine Lf_b ?_
  simp only[firedOk,←hR,zes,zdb];exact decide_eq_decide.2 (by omega)
def Zh118:HH:=⟨_,Zo118⟩
def Zk133:Con UU where
 α:=DDef×DInst
 md:=[.ro,.ro]
 of:=oC (oA .eDef) (o1 (oA .eInst))
 ds:=fun x=>[dA .eDef x.1,dA .eInst x.2]
 pre:=fun(d,x)=>[sizeDef d≤4294967295,sizeItemS x.S.Items≤4294967296]
 res:=fun(d,x)=>⟨[dO (firedOk d x)],true,[]⟩
 law:=lC (lA .eDef) (l1 (lA .eInst))
def Zi133_4(d:DDef)(x:DInst):Int×(ByteArray×List DRule×Unit)×(List DItem×Int×List DMatch×List DTask×List DTimer×List DUndo×Int×Int×Unit)×Unit→Prop:=fun(i,b,g,_)=>b=(d.Name,d.Rules,())∧g=(x.S.Items,x.S.Next,x.Fired,x.Tasks,x.Timers,x.Undos,x.State,x.Now,())∧x.Fired.length≤1000∧0≤i∧i≤x.Fired.length∧(x.Fired.drop i.toNat).all (firedM d x.S.Items)=x.Fired.all (firedM d x.S.Items)
def Zm133_4(d:DDef)(x:DInst):Int×(ByteArray×List DRule×Unit)×(List DItem×Int×List DMatch×List DTask×List DTimer×List DUndo×Int×Int×Unit)×Unit→Nat:=fun(i,b,g,_)=>x.Fired.length-i.toNat
def Zi133_9(d:DDef)(x:DInst):Int×Int×(ByteArray×List DRule×Unit)×(List DItem×Int×List DMatch×List DTask×List DTimer×List DUndo×Int×Int×Unit)×Unit→Int×Int×(ByteArray×List DRule×Unit)×(List DItem×Int×List DMatch×List DTask×List DTimer×List DUndo×Int×Int×Unit)×Unit→Prop:=fun(i0,k0,b0,g0,_) (i,k,b,g,_)=>i=i0∧b=b0∧g=g0∧0≤k∧k≤(List.getD x.Fired i.toNat zMatch).Ids.length∧((List.getD x.Fired i.toNat zMatch).Ids.drop k.toNat).all (hasId x.S.Items)=(List.getD x.Fired i.toNat zMatch).Ids.all (hasId x.S.Items)
def Zm133_9(d:DDef)(x:DInst):Int×Int×(ByteArray×List DRule×Unit)×(List DItem×Int×List DMatch×List DTask×List DTimer×List DUndo×Int×Int×Unit)×Unit→Nat:=fun(i,k,b,g,_)=>(List.getD x.Fired i.toNat zMatch).Ids.length-k.toNat
def Za133:Zk133.α→Nat→Option (Ann UU):=fun(d,x)=>annL [(4,annOf [.slot 18 (18,1024) (.lit (.int .i64)),.box 2 (2,1024) [.lit .str,.shr .eRule],.box 3 (3,1024) [.shr .eItem,.lit (.int .i64),.shr .eMatch,.shr .eTask,.shr .eTimer,.shr .eUndo,.lit (.int .i64),.lit (.int .i64)]] (fun _=>Zi133_4 d x) (Zm133_4 d x)),(9,annOf [.slot 18 (18,1024) (.lit (.int .i64)),.slot 48 (48,1024) (.lit (.int .i64)),.box 2 (2,1024) [.lit .str,.shr .eRule],.box 3 (3,1024) [.shr .eItem,.lit (.int .i64),.shr .eMatch,.shr .eTask,.shr .eTimer,.shr .eUndo,.lit (.int .i64),.lit (.int .i64)]] (Zi133_9 d x) (Zm133_9 d x))]
def Zu133:=us [Zh99,Zh93,Zh205]
theorem Zo133:Holds EE (133,Zk133):=by
 refine holds_of EE_ok func133 Zk133 (by kernel_rfl) Zu133 (us_ok _) Za133 (fun x hp hb=> ?_)
 obtain⟨d,x⟩:=x
 have hz0:=bd_eDef (x:=d) (hb _ m0)
 have hl_d_Name:=hz0.1
 have hl_d_Rules:=hz0.2
 have hz1:=bd_eInst (x:=x) (hb _ m1)
 have hl_x_S_Items:=hz1.1
 have hl_x_Fired:=hz1.2.1
 have hl_x_Tasks:=hz1.2.2.1
 have hl_x_Timers:=hz1.2.2.2.1
 have hl_x_Undos:=hz1.2.2.2.2
 have hp0:sizeDef d≤4294967295:=hp _ m0
 have hp1:sizeItemS x.S.Items≤4294967296:=hp _ m1
 clear hp hb
 apply @ve _ (let x0:Int:=(x.Fired.length:Int);bif decide (x0>(1000:Int)) then Lb false (firedOk d x) else Zi133_4 d x ((0:Int),(d.Name,d.Rules,()),(x.S.Items,x.S.Next,x.Fired,x.Tasks,x.Timers,x.Undos,x.State,x.Now,()),())∧∀(y:Int×(ByteArray×List DRule×PUnit)×(List DItem×Int×List DMatch×List DTask×List DTimer×List DUndo×Int×Int×PUnit)×PUnit),let x2:DMatch:=List.getD x.Fired y.1.toNat zMatch;let x1:Int:=(x2.Ids.length:Int);Zi133_4 d x y→bif decide (y.1<x0) then(0:Int)≤y.1∧y.1.toNat<x.Fired.length∧bif !hasR {Name:=y.2.1.1,Rules:=y.2.1.2.1:DDef} x2 then Lb false (firedOk d x) else bif (x2.Binds.length:Int) !=(0:Int) then Lb false (firedOk d x) else(0:Int)≤x2.Rule∧x2.Rule.toNat<y.2.1.2.1.length∧bif x1 !=(↑(posN (List.getD y.2.1.2.1 x2.Rule.toNat zRule).Pats):Int) then Lb false (firedOk d x) else Zi133_9 d x (y.1,(0:Int),(y.2.1.1,y.2.1.2.1,()),(y.2.2.1.1,y.2.2.1.2.1,y.2.2.1.2.2.1,y.2.2.1.2.2.2.1,y.2.2.1.2.2.2.2.1,y.2.2.1.2.2.2.2.2.1,y.2.2.1.2.2.2.2.2.2.1,y.2.2.1.2.2.2.2.2.2.2.1,()),()) (y.1,(0:Int),(y.2.1.1,y.2.1.2.1,()),(y.2.2.1.1,y.2.2.1.2.1,y.2.2.1.2.2.1,y.2.2.1.2.2.2.1,y.2.2.1.2.2.2.2.1,y.2.2.1.2.2.2.2.2.1,y.2.2.1.2.2.2.2.2.2.1,y.2.2.1.2.2.2.2.2.2.2.1,()),())∧∀(y_1:Int×Int×(ByteArray×List DRule×PUnit)×(List DItem×Int×List DMatch×List DTask×List DTimer×List DUndo×Int×Int×PUnit)×PUnit),let x3:Nat:=y_1.2.1.toNat;Zi133_9 d x (y.1,(0:Int),(y.2.1.1,y.2.1.2.1,()),(y.2.2.1.1,y.2.2.1.2.1,y.2.2.1.2.2.1,y.2.2.1.2.2.2.1,y.2.2.1.2.2.2.2.1,y.2.2.1.2.2.2.2.2.1,y.2.2.1.2.2.2.2.2.2.1,y.2.2.1.2.2.2.2.2.2.2.1,()),()) y_1→bif decide (y_1.2.1<x1) then(0:Int)≤y_1.2.1∧x3<x2.Ids.length∧sizeItemS y_1.2.2.2.1.1≤(4294967296:Nat)∧bif !hasId y_1.2.2.2.1.1 (List.getD x2.Ids x3 (0:Int)) then Lb false (firedOk d x) else Zi133_9 d x (y.1,(0:Int),(y.2.1.1,y.2.1.2.1,()),(y.2.2.1.1,y.2.2.1.2.1,y.2.2.1.2.2.1,y.2.2.1.2.2.2.1,y.2.2.1.2.2.2.2.1,y.2.2.1.2.2.2.2.2.1,y.2.2.1.2.2.2.2.2.2.1,y.2.2.1.2.2.2.2.2.2.2.1,()),()) (y_1.1,IntKind.wrap IntKind.i64 (y_1.2.1+(1:Int)),(y_1.2.2.1.1,y_1.2.2.1.2.1,()),(y_1.2.2.2.1.1,y_1.2.2.2.1.2.1,y_1.2.2.2.1.2.2.1,y_1.2.2.2.1.2.2.2.1,y_1.2.2.2.1.2.2.2.2.1,y_1.2.2.2.1.2.2.2.2.2.1,y_1.2.2.2.1.2.2.2.2.2.2.1,y_1.2.2.2.1.2.2.2.2.2.2.2.1,()),())∧Zm133_9 d x (y_1.1,IntKind.wrap IntKind.i64 (y_1.2.1+(1:Int)),(y_1.2.2.1.1,y_1.2.2.1.2.1,()),(y_1.2.2.2.1.1,y_1.2.2.2.1.2.1,y_1.2.2.2.1.2.2.1,y_1.2.2.2.1.2.2.2.1,y_1.2.2.2.1.2.2.2.2.1,y_1.2.2.2.1.2.2.2.2.2.1,y_1.2.2.2.1.2.2.2.2.2.2.1,y_1.2.2.2.1.2.2.2.2.2.2.2.1,()),())<Zm133_9 d x y_1 else Zi133_4 d x (IntKind.wrap IntKind.i64 (y_1.1+(1:Int)),(y_1.2.2.1.1,y_1.2.2.1.2.1,()),(y_1.2.2.2.1.1,y_1.2.2.2.1.2.1,y_1.2.2.2.1.2.2.1,y_1.2.2.2.1.2.2.2.1,y_1.2.2.2.1.2.2.2.2.1,y_1.2.2.2.1.2.2.2.2.2.1,y_1.2.2.2.1.2.2.2.2.2.2.1,y_1.2.2.2.1.2.2.2.2.2.2.2.1,()),())∧Zm133_4 d x (IntKind.wrap IntKind.i64 (y_1.1+(1:Int)),(y_1.2.2.1.1,y_1.2.2.1.2.1,()),(y_1.2.2.2.1.1,y_1.2.2.2.1.2.1,y_1.2.2.2.1.2.2.1,y_1.2.2.2.1.2.2.2.1,y_1.2.2.2.1.2.2.2.2.1,y_1.2.2.2.1.2.2.2.2.2.1,y_1.2.2.2.1.2.2.2.2.2.2.1,y_1.2.2.2.1.2.2.2.2.2.2.2.1,()),())<Zm133_4 d x y else Lb true (firedOk d x)) (by kernel_rfl)
 dsimp only
 refine if_dec (fun a=>Lf_ff ?_) (fun a=>⟨⟨rfl,rfl,by omega,by omega,by omega,rfl⟩,?_⟩)
 ·simp only[firedOk];rw[decide_eq_false (p:=x.Fired.length≤1000) (by omega),zbi]
 rintro⟨i,⟨b1,b2,⟨⟩⟩,⟨g1,g2,g3,g4,g5,g6,g7,g8,⟨⟩⟩,⟨⟩⟩ ⟨hb,hg,a0,h1,h2,hR⟩
 cases hb
 cases hg
 simp only
 refine if_dec (fun hc=> ?_) (fun hc=> ?_)
 ·rw[all_step _ _ zMatch h1 hc] at hR
  have hN:firedM d x.S.Items (List.getD x.Fired i.toNat zMatch)=false→firedOk d x=false:=fun h=>by simp only[firedOk,←hR,h,zbi,zbs]
  refine⟨by omega,by omega,if_not (fun a=>Lf_ff (hN ?_)) (fun a=>if_not (fun b=>Lf_ff (hN ?_)) (fun b=> ?_))⟩
  ·have a:hasR d (List.getD x.Fired i.toNat zMatch)=false:=a
   simp only[firedM,a,zbi]
  ·have b:¬(List.getD x.Fired i.toNat zMatch).Binds.length=0:=by simpa using b
   simp only[firedM,decide_eq_false b,zbi,zbs]
  have a:hasR d (List.getD x.Fired i.toNat zMatch)=true:=a
  have b:(List.getD x.Fired i.toNat zMatch).Binds.length=0:=by simpa using b
  obtain⟨r1,r2⟩:=hasR_iff a
  have hz:=posN_size a
  refine⟨r1,by omega,if_not (fun c=>Lf_ff (hN ?_)) (fun c=>⟨⟨rfl,rfl,rfl,by omega,by omega,rfl⟩,?_⟩)⟩
  ·have c:¬(List.getD x.Fired i.toNat zMatch).Ids.length=posN (List.getD d.Rules (List.getD x.Fired i.toNat zMatch).Rule.toNat zRule).Pats:=fun e=>by rw[e] at c;simp at c
   simp only[firedM,decide_eq_false c,zbi,zbs]
  have c:(List.getD x.Fired i.toNat zMatch).Ids.length=posN (List.getD d.Rules (List.getD x.Fired i.toNat zMatch).Rule.toNat zRule).Pats:=by
   have c:=eq_of_beq c
   omega
  have hM:=firedM_ids (s:=x.S.Items) a b c
  rintro⟨i',k,⟨b1,b2,⟨⟩⟩,⟨g1,g2,g3,g4,g5,g6,g7,g8,⟨⟩⟩,⟨⟩⟩ ⟨rfl,hb,hg,k1,k2,kR⟩
  cases hb
  cases hg
  simp only
  refine if_dec (fun hk=> ?_) (fun hk=> ?_)
  ·rw[all_step _ _ 0 k1 hk] at kR
   rw[wrap_i64 (n:=k+1) (by omega) (by omega)]
   exact⟨by omega,by omega,hp1,if_not (fun e=>Lf_ff (hN (by rw[hM,←kR,e,zbi]))) (fun e=>⟨⟨rfl,rfl,rfl,by omega,by omega,by rw[←kR,e,zck]⟩,by simp only[Zm133_9];omega⟩)⟩
  ·rw[drop_end _ (by omega)] at kR
   rw[wrap_i64 (n:=i'+1) (by omega) (by omega)]
   exact⟨⟨rfl,rfl,a0,by omega,by omega,by rw[←hR,hM,←kR];rfl⟩,by simp only[Zm133_4];omega⟩
 ·rw[drop_end _ (by omega)] at hR
  refine Lf_tt ?_
  simp only[firedOk,←hR,decide_eq_true a0];rfl
def Zh133:HH:=⟨_,Zo133⟩
def Zk135:Con UU where
 α:=(List DTask)×(List (DA UU)→Option Value)
 md:=[.ro,.ro]
 of:=oC (oL .eTask) (o1 oF)
 ds:=fun x=>[dL .eTask x.1,dF x.2]
 pre:=fun(l,p)=>[∀j:Nat,j<l.length→p [daTask (List.getD l j zTask)]=some (.bool (boolOf (p [daTask (List.getD l j zTask)])))]
 res:=fun(l,p)=>⟨[dO (anyI l.length (fun j=>boolOf (p [daTask (List.getD l j zTask)])))],true,[]⟩
 law:=lC (lL .eTask) (l1 lF)
def Za135:Zk135.α→Nat→Option (Ann UU):=fun(l,p)=>annL []
def Zu135:=us [Zh206]
theorem Zo135:Holds EE (135,Zk135):=by
 refine holds_of EE_ok func135 Zk135 (by kernel_rfl) Zu135 (us_ok _) Za135 (fun x hp hb=> ?_)
 obtain⟨l,p⟩:=x
 have hl_l:l.length≤9223372036854775807:=bdL (hb _ m0)
 have hp0:∀j:Nat,j<l.length→p [daTask (List.getD l j zTask)]=some (.bool (boolOf (p [daTask (List.getD l j zTask)]))):=hp _ m0
 clear hp hb
 apply @ve _ (let x0:Int:=idxI (l.length) fun(j:Nat)=>boolOf (p [daTask (List.getD l j zTask)]);(∀(j:Nat),j<l.length→p [daTask (List.getD l j zTask)]=some (Value.bool (boolOf (p [daTask (List.getD l j zTask)]))))∧Lb (decide (x0≥(0:Int))) (anyI (l.length) fun(j:Nat)=>boolOf (p [daTask (List.getD l j zTask)]))) (by kernel_rfl)
 dsimp only
 exact⟨hp0,Lf_b (by rw[←idxI_ge])⟩
def Zh135:HH:=⟨_,Zo135⟩
def Zk120:Con UU where
 α:=(List DTask)
 md:=[.ro]
 of:=o1 (oL .eTask)
 ds:=fun x=>[dL .eTask x]
 pre:=fun _=>[]
 res:=fun l=>⟨[dO (liveT l)],true,[]⟩
 law:=l1 (lL .eTask)
def Zi120_2(l:(List DTask)):Int×Unit→Prop:=fun(i,_)=>0≤i∧i≤l.length∧∀j:Nat,(j:Int)<i→isOpen (List.getD l j zTask)=false
def Zm120_2(l:(List DTask)):Int×Unit→Nat:=fun(i,_)=>l.length-i.toNat
def Za120:Zk120.α→Nat→Option (Ann UU):=fun l=>annL [(2,annOf [.slot 3 (3,1024) (.lit (.int .i64))] (fun _=>Zi120_2 l) (Zm120_2 l))]
def Zu120:List (FuncId×Con UU):=[]
theorem Zo120:Holds EE (120,Zk120):=by
 refine holds_of EE_ok func120 Zk120 (by kernel_rfl) Zu120 all_nil Za120 (fun(l:(List DTask)) hp hb=> ?_)
 have hl_l:l.length≤9223372036854775807:=bdL (hb _ m0)
 clear hp hb
 apply @ve _ (Zi120_2 l ((0:Int),())∧∀(y:Int×PUnit),Zi120_2 l y→bif decide (y.1<(l.length:Int)) then(0:Int)≤y.1∧y.1.toNat<l.length∧bif (List.getD l y.1.toNat zTask).State==(1:Int) then Lb true (liveT l) else(0:Int)≤y.1∧y.1.toNat<l.length∧bif (List.getD l y.1.toNat zTask).State==(2:Int) then Lb true (liveT l) else Zi120_2 l (IntKind.wrap IntKind.i64 (y.1+(1:Int)),())∧Zm120_2 l (IntKind.wrap IntKind.i64 (y.1+(1:Int)),())<Zm120_2 l y else Lb false (liveT l)) (by kernel_rfl)
 refine⟨⟨by omega,by omega,by intro j hj;omega⟩,?_⟩
 rintro⟨i,⟨⟩⟩ ⟨h1,h2,hR⟩
 simp only
 refine if_dec (fun hc=> ?_) (fun hc=> ?_)
 ·rw[wrap_i64 (by omega) (by omega)]
  have hY:isOpen (List.getD l i.toNat zTask)=true→liveT l=true:=fun h=>anyI_true (j:=i.toNat) (by omega) h
  refine⟨by omega,by omega,if_num (fun h=>Lf_tt (hY (by simp only[isOpen];grind))) (fun h=>⟨by omega,by omega,if_num (fun g=>Lf_tt (hY (by simp only[isOpen];grind))) (fun g=>⟨⟨by omega,by omega,upto_no (p:=fun j=>isOpen (List.getD l j zTask)) h1 hR (by simp only[isOpen];grind)⟩,by simp only[Zm120_2];omega⟩)⟩)⟩
 ·exact Lf_ff (anyI_false fun j hj=>hR j (by omega))
def Zh120:HH:=⟨_,Zo120⟩
def Zk121:Con UU where
 α:=DInst
 md:=[.ro]
 of:=o1 (oA .eInst)
 ds:=fun x=>[dA .eInst x]
 pre:=fun _=>[]
 res:=fun x=>⟨[dO (undoingX x)],true,[]⟩
 law:=l1 (lA .eInst)
def Za121:Zk121.α→Nat→Option (Ann UU):=fun x=>annL []
def Zu121:List (FuncId×Con UU):=[]
theorem Zo121:Holds EE (121,Zk121):=by
 refine holds_of EE_ok func121 Zk121 (by kernel_rfl) Zu121 all_nil Za121 (fun(x:DInst) hp hb=> ?_)
 have hz0:=bd_eInst (x:=x) (hb _ m0)
 have hl_x_S_Items:=hz0.1
 have hl_x_Fired:=hz0.2.1
 have hl_x_Tasks:=hz0.2.2.1
 have hl_x_Timers:=hz0.2.2.2.1
 have hl_x_Undos:=hz0.2.2.2.2
 clear hp hb
 apply @ve _ (bif x.State==(3:Int) then Lb true (undoingX x) else Lb (x.State==(5:Int)) (undoingX x)) (by kernel_rfl)
 simp only[undoingX]
 refine if_num (fun h=>Lf_b ?_) (fun h=>Lf_b ?_)
 ·rw[decide_eq_true h,Bool.true_or]
 ·rw[decide_eq_false h,zcw]
  rw[zcm];simp
def Zh121:HH:=⟨_,Zo121⟩
def Zk50:Con UU where
 α:=DDef×DInst
 md:=[.ro,.ro]
 of:=oC (oA .eDef) (o1 (oA .eInst))
 ds:=fun x=>[dA .eDef x.1,dA .eInst x.2]
 pre:=fun(d,x)=>[sizeDef d≤4294967295,sizeItemS x.S.Items≤4294967296]
 res:=fun(d,x)=>⟨[dO (instOk d x)],true,[]⟩
 law:=lC (lA .eDef) (l1 (lA .eInst))
def Za50:Zk50.α→Nat→Option (Ann UU):=fun(d,x)=>annL []
def Zu50:=us [Zh38,Zh114,Zh115,Zh116,Zh117,Zh104,Zh118,Zh119,Zh120,Zh121]
theorem Zo50:Holds EE (50,Zk50):=by
 refine holds_of EE_ok func50 Zk50 (by kernel_rfl) Zu50 (us_ok _) Za50 (fun x hp hb=> ?_)
 obtain⟨d,x⟩:=x
 have hz0:=bd_eDef (x:=d) (hb _ m0)
 have hl_d_Name:=hz0.1
 have hl_d_Rules:=hz0.2
 have hz1:=bd_eInst (x:=x) (hb _ m1)
 have hl_x_S_Items:=hz1.1
 have hl_x_Fired:=hz1.2.1
 have hl_x_Tasks:=hz1.2.2.1
 have hl_x_Timers:=hz1.2.2.2.1
 have hl_x_Undos:=hz1.2.2.2.2
 have hp0:sizeDef d≤4294967295:=hp _ m0
 have hp1:sizeItemS x.S.Items≤4294967296:=hp _ m1
 clear hp hb
 apply @ve _ (sizeDef d≤(4294967295:Nat)∧bif !defOk d then Lb false (instOk d x) else bif !storeOk x.S then Lb false (instOk d x) else bif !tasksOk x.Tasks then Lb false (instOk d x) else bif !timersOk x.Timers then Lb false (instOk d x) else bif !undosOk x.Undos then Lb false (instOk d x) else bif !decide ((1:Int)≤x.State∧x.State≤(6:Int)) then Lb false (instOk d x) else bif !decide ((0:Int)≤x.Now∧x.Now≤(1000000000:Int)) then Lb false (instOk d x) else sizeDef d≤(4294967295:Nat)∧sizeItemS x.S.Items≤(4294967296:Nat)∧bif !firedOk d x then Lb false (instOk d x) else bif decide (x.State=(2:Int)∨x.State=(4:Int)∨x.State=(6:Int)) then bif liveT x.Tasks then Lb false (instOk d x) else bif decide ((x.Timers.length:Int)>(0:Int)) then Lb false (instOk d x) else bif !undoingX x then Lb true (instOk d x) else Lb (decide ((x.Undos.length:Int)>(0:Int))) (instOk d x) else bif !undoingX x then Lb true (instOk d x) else Lb (decide ((x.Undos.length:Int)>(0:Int))) (instOk d x)) (by kernel_rfl)
 refine⟨hp0,?_⟩
 have ht:decide ((x.Timers.length:Int)>0)=decide (0<x.Timers.length):=decide_eq_decide.2 (by omega)
 have hu:decide ((x.Undos.length:Int)>0)=decide (0<x.Undos.length):=decide_eq_decide.2 (by omega)
 simp only[instOk,endedX,ht,hu]
 repeat' (first|refine And.intro hp1 ?_|refine And.intro hp0 (And.intro hp1 ?_)|refine if_cond (fun h=> ?_) (fun h=> ?_))
 all_goals (refine Lf_b ?_;grind)
def Zh50:HH:=⟨_,Zo50⟩
def Zk58:Con UU where
 α:=DDef×DInst
 md:=[.ro,.ro]
 of:=oC (oA .eDef) (o1 (oA .eInst))
 ds:=fun x=>[dA .eDef x.1,dA .eInst x.2]
 pre:=fun(d,x)=>[sizeDef d≤4294967295,sizeItemS x.S.Items≤4294967296]
 res:=fun(d,x)=>⟨[dO (instOk d x)],true,[]⟩
 law:=lC (lA .eDef) (l1 (lA .eInst))
def Za58:Zk58.α→Nat→Option (Ann UU):=fun(d,x)=>annL []
def Zu58:=us [Zh8,Zh31,Zh129,Zh130,Zh131,Zh34,Zh132,Zh133,Zh134,Zh135,Zh136]
theorem Zo58:Holds EE (58,Zk58):=by
 refine holds_of EE_ok func58 Zk58 (by kernel_rfl) Zu58 (us_ok _) Za58 (fun x hp hb=> ?_)
 obtain⟨d,x⟩:=x
 have hb_d:BdDV (U:=UU) (.agg [.lit (.string d.Name),.sl .eRule d.Rules]):=hb _ m0
 have hz0:=bd_eDef (x:=d) (hb _ m0)
 have hl_d_Name:=hz0.1
 have hl_d_Rules:=hz0.2
 have hb_x:BdDV (U:=UU) (.agg [.sl .eItem x.S.Items,.lit (.int .i64 x.S.Next),.sl .eMatch x.Fired,.sl .eTask x.Tasks,.sl .eTimer x.Timers,.sl .eUndo x.Undos,.lit (.int .i64 x.State),.lit (.int .i64 x.Now)]):=hb _ m1
 have hz1:=bd_eInst (x:=x) (hb _ m1)
 have hl_x_S_Items:=hz1.1
 have hl_x_Fired:=hz1.2.1
 have hl_x_Tasks:=hz1.2.2.1
 have hl_x_Timers:=hz1.2.2.2.1
 have hl_x_Undos:=hz1.2.2.2.2
 have hp0:sizeDef d≤4294967295:=hp _ m0
 have hp1:sizeItemS x.S.Items≤4294967296:=hp _ m1
 clear hp hb
 apply @ve _ (bif !defOk d then Lb false (instOk d x) else bif !storeOk x.S then Lb false (instOk d x) else bif !tasksOk x.Tasks then Lb false (instOk d x) else bif !timersOk x.Timers then Lb false (instOk d x) else bif !undosOk x.Undos then Lb false (instOk d x) else bif !decide ((1:Int)≤x.State∧x.State≤(6:Int)) then Lb false (instOk d x) else bif !decide ((0:Int)≤x.Now∧x.Now≤(1000000000:Int)) then Lb false (instOk d x) else sizeDef d≤(4294967295:Nat)∧sizeItemS x.S.Items≤(4294967296:Nat)∧bif !firedOk d x then Lb false (instOk d x) else bif x.State==(3:Int) then Lb (decide ((x.Undos.length:Int)>(0:Int))) (instOk d x) else bif x.State==(5:Int) then Lb (decide ((x.Undos.length:Int)>(0:Int))) (instOk d x) else bif !decide (x.State=(2:Int)∨x.State=(4:Int)∨x.State=(6:Int)) then Lb true (instOk d x) else bif (x.Timers.length:Int)==(0:Int) then(∀(j:Nat),j<x.Tasks.length→closP Zk136 [] [daTask (List.getD x.Tasks j zTask)]=some (Value.bool (boolOf (closP Zk136 [] [daTask (List.getD x.Tasks j zTask)]))))∧Lb (!anyI (x.Tasks.length) fun(j:Nat)=>boolOf (closP Zk136 [] [daTask (List.getD x.Tasks j zTask)])) (instOk d x) else Lb false (instOk d x)) (by kernel_rfl)
 have hc:∀t:DTask,closP Zk136 [] [daTask t]=some (.bool (isOpen t)):=fun t=>closP_of (x:=t) rfl rfl rfl rfl (by simp[Zk136])
 have hl:(anyI x.Tasks.length fun j=>boolOf (closP Zk136 [] [daTask (List.getD x.Tasks j zTask)]))=liveT x.Tasks:=anyI_congr fun j hj=>by rw[hc];rfl
 have hcl:∀j:Nat,j<x.Tasks.length→closP Zk136 [] [daTask (List.getD x.Tasks j zTask)]=some (.bool (boolOf (closP Zk136 [] [daTask (List.getD x.Tasks j zTask)]))):=fun j hj=>by rw[hc];rfl
 have ht:((x.Timers.length:Int)==0)= !decide (0<x.Timers.length):=by rw[zcm];simp
 have hu:decide ((x.Undos.length:Int)>0)=decide (0<x.Undos.length):=decide_eq_decide.2 (by omega)
 have h3:(x.State==3)=decide (x.State=3):=by rw[zcm];simp
 have h5:(x.State==5)=decide (x.State=5):=by rw[zcm];simp
 simp only[instOk,endedX,undoingX,ht,hu,h3,h5,hl]
 repeat' (first|refine And.intro hcl ?_|refine And.intro hp0 (And.intro hp1 ?_)|refine And.intro hp1 ?_|refine if_cond (fun h=> ?_) (fun h=> ?_))
 all_goals (refine Lf_b ?_;clear hcl hc hl ht hu h3 h5 hb_d hb_x;grind)
def Zh58:HH:=⟨_,Zo58⟩
theorem if_neq{a b:Int}{P Q:Prop}(h1:¬a=b→P)(h2:a=b→Q):bif a !=b then P else Q:=if_cond (fun h=>h1 (by simpa using h)) (fun h=>h2 (by simpa using h))
def bindOf:List DBind→ByteArray→DVal×Bool
 |[],_=>(zVal,false)
 |b::l,n=>if b.Name=n then(b.V,true) else bindOf l n
theorem bindOf_step(l:List DBind)(n:ByteArray){i:Int}(h0:0≤i)(h:i<l.length):bindOf (l.drop i.toNat) n=if(List.getD l i.toNat zBind).Name=n then((List.getD l i.toNat zBind).V,true) else bindOf (l.drop (i+1).toNat) n:=by
 rw[drop_step l zBind h0 h];rfl
def argVal(a:DArg)(l:List DBind):DVal×Bool:=if a.K=2 then(a.V,true) else if a.K=1 then bindOf l a.S else(zVal,false)
def Zk275:Con UU where
 α:=(List DBind)×ByteArray
 md:=[.ro,.ro]
 of:=oC (oL .eBind) (o1 oS)
 ds:=fun x=>[dL .eBind x.1,dS x.2]
 pre:=fun _=>[]
 res:=fun(l,name)=>⟨[dA .eVal ((bindOf l name).1),dO ((bindOf l name).2)],true,[]⟩
 law:=lC (lL .eBind) (l1 lS)
def Zi275_2(l:(List DBind))(name:ByteArray):Int×(Int×Int×ByteArray×Unit)×Unit→Prop:=fun(i,r,_)=>r=(0,0,noBytes,())∧0≤i∧i≤l.length∧bindOf (l.drop i.toNat) name=bindOf l name
def Zm275_2(l:(List DBind))(name:ByteArray):Int×(Int×Int×ByteArray×Unit)×Unit→Nat:=fun(i,r,_)=>l.length-i.toNat
def Za275:Zk275.α→Nat→Option (Ann UU):=fun(l,name)=>annL [(2,annOf [.slot 6 (6,1024) (.lit (.int .i64)),.box 4 (4,1024) [.lit (.int .i64),.lit (.int .i64),.lit .str]] (fun _=>Zi275_2 l name) (Zm275_2 l name))]
def Zu275:List (FuncId×Con UU):=[]
theorem Zo275:Holds EE (275,Zk275):=by
 refine holds_of EE_ok func275 Zk275 (by kernel_rfl) Zu275 all_nil Za275 (fun x hp hb=> ?_)
 obtain⟨l,name⟩:=x
 have hl_l:l.length≤9223372036854775807:=bdL (hb _ m0)
 have hl_name:=bdS (s:=name) (hb _ m1)
 clear hp hb
 apply @ve _ (Zi275_2 l name ((0:Int),((0:Int),(0:Int),{data:= #[]:ByteArray},()),())∧∀(y:Int×(Int×Int×ByteArray×PUnit)×PUnit),let x0:DVal:=(List.getD l y.1.toNat zBind).V;Zi275_2 l name y→bif decide (y.1<(l.length:Int)) then(0:Int)≤y.1∧y.1.toNat<l.length∧bif ByteArray.toList (List.getD l y.1.toNat zBind).Name==ByteArray.toList name then(0:Int)≤y.1∧y.1.toNat<l.length∧Lf [DV.agg [CI x0.K,CI x0.N,CS x0.S],VB true] [DV.agg [CI ((bindOf l name).1.K),CI ((bindOf l name).1.N),CS ((bindOf l name).1.S)],VB ((bindOf l name).2)] else Zi275_2 l name (IntKind.wrap IntKind.i64 (y.1+(1:Int)),(y.2.1.1,y.2.1.2.1,y.2.1.2.2.1,()),())∧Zm275_2 l name (IntKind.wrap IntKind.i64 (y.1+(1:Int)),(y.2.1.1,y.2.1.2.1,y.2.1.2.2.1,()),())<Zm275_2 l name y else Lf [DV.agg [CI (0:Int),CI (0:Int),CS ({data:= #[]:ByteArray})],VB false] [DV.agg [CI ((bindOf l name).1.K),CI ((bindOf l name).1.N),CS ((bindOf l name).1.S)],VB ((bindOf l name).2)]) (by kernel_rfl)
 dsimp only
 refine⟨⟨rfl,by omega,by omega,rfl⟩,?_⟩
 rintro⟨i,⟨r1,r2,r3,⟨⟩⟩,⟨⟩⟩ ⟨hr,h1,h2,hR⟩
 cases hr
 simp only
 refine if_dec (fun hc=> ?_) (fun hc=> ?_)
 ·rw[bindOf_step l name h1 hc] at hR
  rw[toList_beq]
  refine⟨by omega,by omega,if_dec (fun g=> ?_) (fun g=> ?_)⟩
  ·rw[if_pos g] at hR;rw[←hR];exact⟨by omega,by omega,Lf_rfl _⟩
  ·rw[if_neg g] at hR;rw[wrap_i64 (by omega) (by omega)];exact⟨⟨rfl,by omega,by omega,hR⟩,by simp only[Zm275_2];omega⟩
 ·have e:l.drop i.toNat=[]:=List.drop_eq_nil_of_le (by omega)
  rw[e] at hR;rw[←hR];exact Lf_rfl _
def Zh275:HH:=⟨_,Zo275⟩
def Zk278:Con UU where
 α:=(List DBind)×ByteArray
 md:=[.ro,.ro]
 of:=oC (oL .eBind) (o1 oS)
 ds:=fun x=>[dL .eBind x.1,dS x.2]
 pre:=fun _=>[]
 res:=fun(l,name)=>⟨[dA .eVal ((bindOf l name).1),dO ((bindOf l name).2)],true,[]⟩
 law:=lC (lL .eBind) (l1 lS)
def Zi278_2(l:(List DBind))(name:ByteArray):Int×(Int×Int×ByteArray×Unit)×Unit→Prop:=fun(i,r,_)=>r=(0,0,noBytes,())∧0≤i∧i≤l.length∧bindOf (l.drop i.toNat) name=bindOf l name
def Zm278_2(l:(List DBind))(name:ByteArray):Int×(Int×Int×ByteArray×Unit)×Unit→Nat:=fun(i,r,_)=>l.length-i.toNat
def Za278:Zk278.α→Nat→Option (Ann UU):=fun(l,name)=>annL [(2,annOf [.slot 10 (10,1024) (.lit (.int .i64)),.box 4 (4,1024) [.lit (.int .i64),.lit (.int .i64),.lit .str]] (fun _=>Zi278_2 l name) (Zm278_2 l name))]
def Zu278:List (FuncId×Con UU):=[]
theorem Zo278:Holds EE (278,Zk278):=by
 refine holds_of EE_ok func278 Zk278 (by kernel_rfl) Zu278 all_nil Za278 (fun x hp hb=> ?_)
 obtain⟨l,name⟩:=x
 have hl_l:l.length≤9223372036854775807:=bdL (hb _ m0)
 have hl_name:=bdS (s:=name) (hb _ m1)
 clear hp hb
 apply @ve _ (Zi278_2 l name ((0:Int),((0:Int),(0:Int),{data:= #[]:ByteArray},()),())∧∀(y:Int×(Int×Int×ByteArray×PUnit)×PUnit),let x0:DVal:=(List.getD l y.1.toNat zBind).V;Zi278_2 l name y→bif decide (y.1<(l.length:Int)) then(0:Int)≤y.1∧y.1.toNat<l.length∧bif ByteArray.toList (List.getD l y.1.toNat zBind).Name==ByteArray.toList name then Lf [DV.agg [CI x0.K,CI x0.N,CS x0.S],VB true] [DV.agg [CI ((bindOf l name).1.K),CI ((bindOf l name).1.N),CS ((bindOf l name).1.S)],VB ((bindOf l name).2)] else Zi278_2 l name (IntKind.wrap IntKind.i64 (y.1+(1:Int)),(y.2.1.1,y.2.1.2.1,y.2.1.2.2.1,()),())∧Zm278_2 l name (IntKind.wrap IntKind.i64 (y.1+(1:Int)),(y.2.1.1,y.2.1.2.1,y.2.1.2.2.1,()),())<Zm278_2 l name y else Lf [DV.agg [CI (0:Int),CI (0:Int),CS ({data:= #[]:ByteArray})],VB false] [DV.agg [CI ((bindOf l name).1.K),CI ((bindOf l name).1.N),CS ((bindOf l name).1.S)],VB ((bindOf l name).2)]) (by kernel_rfl)
 dsimp only
 refine⟨⟨rfl,by omega,by omega,rfl⟩,?_⟩
 rintro⟨i,⟨r1,r2,r3,⟨⟩⟩,⟨⟩⟩ ⟨hr,h1,h2,hR⟩
 cases hr
 simp only
 refine if_dec (fun hc=> ?_) (fun hc=> ?_)
 ·rw[bindOf_step l name h1 hc] at hR
  rw[toList_beq]
  refine⟨by omega,by omega,if_dec (fun g=> ?_) (fun g=> ?_)⟩
  ·rw[if_pos g] at hR;rw[←hR];exact Lf_rfl _
  ·rw[if_neg g] at hR;rw[wrap_i64 (by omega) (by omega)];exact⟨⟨rfl,by omega,by omega,hR⟩,by simp only[Zm278_2];omega⟩
 ·have e:l.drop i.toNat=[]:=List.drop_eq_nil_of_le (by omega)
  rw[e] at hR;rw[←hR];exact Lf_rfl _
def Zh278:HH:=⟨_,Zo278⟩
def Zk245:Con UU where
 α:=DArg×(List DBind)
 md:=[.ro,.ro]
 of:=oC (oA .eArg) (o1 (oL .eBind))
 ds:=fun x=>[dA .eArg x.1,dL .eBind x.2]
 pre:=fun _=>[]
 res:=fun(a,l)=>⟨[dA .eVal ((argVal a l).1),dO ((argVal a l).2)],true,[]⟩
 law:=lC (lA .eArg) (l1 (lL .eBind))
def Za245:Zk245.α→Nat→Option (Ann UU):=fun(a,l)=>annL []
def Zu245:=us [Zh275]
theorem Zo245:Holds EE (245,Zk245):=by
 refine holds_of EE_ok func245 Zk245 (by kernel_rfl) Zu245 (us_ok _) Za245 (fun x hp hb=> ?_)
 obtain⟨a,l⟩:=x
 have hz0:=bd_eArg (x:=a) (hb _ m0)
 have hl_a_S:=hz0.1
 have hl_a_V_S:=hz0.2
 have hl_l:l.length≤9223372036854775807:=bdL (hb _ m1)
 clear hp hb
 apply @ve _ (bif a.K==(2:Int) then Lf [DV.agg [CI a.V.K,CI a.V.N,CS a.V.S],VB true] [DV.agg [CI ((argVal a l).1.K),CI ((argVal a l).1.N),CS ((argVal a l).1.S)],VB ((argVal a l).2)] else bif a.K==(1:Int) then Lf [DV.agg [CI ((bindOf l a.S).1.K),CI ((bindOf l a.S).1.N),CS ((bindOf l a.S).1.S)],VB ((bindOf l a.S).2)] [DV.agg [CI ((argVal a l).1.K),CI ((argVal a l).1.N),CS ((argVal a l).1.S)],VB ((argVal a l).2)] else Lf [DV.agg [CI (0:Int),CI (0:Int),CS ({data:= #[]:ByteArray})],VB false] [DV.agg [CI ((argVal a l).1.K),CI ((argVal a l).1.N),CS ((argVal a l).1.S)],VB ((argVal a l).2)]) (by kernel_rfl)
 refine if_num (fun h=> ?_) (fun h=>if_num (fun h'=> ?_) (fun h'=> ?_))
 ·have e:argVal a l=(a.V,true):=if_pos h
  rw[e];exact Lf_rfl _
 ·have e:argVal a l=bindOf l a.S:=(if_neg h).trans (if_pos h')
  rw[e];exact Lf_rfl _
 ·have e:argVal a l=(zVal,false):=(if_neg h).trans (if_neg h')
  rw[e];exact Lf_rfl _
def Zh245:HH:=⟨_,Zo245⟩
def Zk280:Con UU where
 α:=DArg×(List DBind)
 md:=[.ro,.ro]
 of:=oC (oA .eArg) (o1 (oL .eBind))
 ds:=fun x=>[dA .eArg x.1,dL .eBind x.2]
 pre:=fun _=>[]
 res:=fun(a,l)=>⟨[dA .eVal ((argVal a l).1),dO ((argVal a l).2)],true,[]⟩
 law:=lC (lA .eArg) (l1 (lL .eBind))
def Za280:Zk280.α→Nat→Option (Ann UU):=fun(a,l)=>annL []
def Zu280:=us [Zh278]
theorem Zo280:Holds EE (280,Zk280):=by
 refine holds_of EE_ok func280 Zk280 (by kernel_rfl) Zu280 (us_ok _) Za280 (fun x hp hb=> ?_)
 obtain⟨a,l⟩:=x
 have hz0:=bd_eArg (x:=a) (hb _ m0)
 have hl_a_S:=hz0.1
 have hl_a_V_S:=hz0.2
 have hl_l:l.length≤9223372036854775807:=bdL (hb _ m1)
 clear hp hb
 apply @ve _ (bif a.K==(2:Int) then Lf [DV.agg [CI a.V.K,CI a.V.N,CS a.V.S],VB true] [DV.agg [CI ((argVal a l).1.K),CI ((argVal a l).1.N),CS ((argVal a l).1.S)],VB ((argVal a l).2)] else bif a.K==(1:Int) then Lf [DV.agg [CI ((bindOf l a.S).1.K),CI ((bindOf l a.S).1.N),CS ((bindOf l a.S).1.S)],VB ((bindOf l a.S).2)] [DV.agg [CI ((argVal a l).1.K),CI ((argVal a l).1.N),CS ((argVal a l).1.S)],VB ((argVal a l).2)] else Lf [DV.agg [CI (0:Int),CI (0:Int),CS ({data:= #[]:ByteArray})],VB false] [DV.agg [CI ((argVal a l).1.K),CI ((argVal a l).1.N),CS ((argVal a l).1.S)],VB ((argVal a l).2)]) (by kernel_rfl)
 refine if_num (fun h=> ?_) (fun h=>if_num (fun h'=> ?_) (fun h'=> ?_))
 ·have e:argVal a l=(a.V,true):=if_pos h
  rw[e];exact Lf_rfl _
 ·have e:argVal a l=bindOf l a.S:=(if_neg h).trans (if_pos h')
  rw[e];exact Lf_rfl _
 ·have e:argVal a l=(zVal,false):=(if_neg h).trans (if_neg h')
  rw[e];exact Lf_rfl _
def Zh280:HH:=⟨_,Zo280⟩
theorem takeStep{α:Type}{l:List α}{i:Nat}(z:α)(h:i<l.length):l.take (i+1)=l.take i++[List.getD l i z]:=by
 rw[zcz h,zac,zad h];rfl
theorem filterStep{α:Type}(q:α→Bool){l:List α}{i:Nat}(z:α)(h:i<l.length):(l.take (i+1)).filter q=(l.take i).filter q++(if q (List.getD l i z)=true then[List.getD l i z] else[]):=by
 rw[takeStep z h,List.filter_append]
 congr 1
 generalize List.getD l i z=x
 by_cases hq:q x=true<;>simp[hq]
def Zk211:Con UU where
 α:=(List Int)
 md:=[.ro]
 of:=o1 (oL .int)
 ds:=fun x=>[dL .int x]
 pre:=fun l=>[l.length≤4294967296]
 res:=fun l=>⟨[dL .int l],true,[]⟩
 law:=l1 (lL .int)
def Za211:Zk211.α→Nat→Option (Ann UU):=fun l=>annL []
def Zu211:List (FuncId×Con UU):=[]
theorem Zw211:goalN EE Zu211 f211 Zk211 Za211 [] .int [] true=(Lf [VL .int []] [VL .int []]):=by kernel_rfl
theorem Zx211:goalN EE Zu211 f211 Zk211 Za211 [] .int [] true:=by
 rw[Zw211]
 exact Lf_rfl _
theorem Zo211:Holds EE (211,Zk211):=by
 refine holds_ofN EE_ok func211 Zk211 (by kernel_rfl) rfl .int (fun x=>x) (fun _=>rfl) Zu211 all_nil Za211 (fun(l:(List Int)) hp hb=> ?_)
 have hl_l:l.length≤9223372036854775807:=bdL (hb _ m0)
 have hp0:l.length≤4294967296:=hp _ m0
 clear hp hb
 refine⟨?_,fun h0=> ?_⟩
 rotate_left
 ·subst h0;exact Zx211
 apply @ve _ ((0:Nat)+l.length≤(4294967296:Nat)∧Lf [VL .int ([]++l)] [VL .int l]) (by kernel_rfl)
 exact⟨by simp;omega,Lf_rfl _⟩
def Zh211:HH:=⟨_,Zo211⟩
def Zk212:Con UU where
 α:=(List DBind)
 md:=[.ro]
 of:=o1 (oL .eBind)
 ds:=fun x=>[dL .eBind x]
 pre:=fun l=>[l.length≤4294967296]
 res:=fun l=>⟨[dL .eBind l],true,[]⟩
 law:=l1 (lL .eBind)
def Za212:Zk212.α→Nat→Option (Ann UU):=fun l=>annL []
def Zu212:List (FuncId×Con UU):=[]
theorem Zw212:goalN EE Zu212 f212 Zk212 Za212 [] .eBind [] true=(Lf [VL .eBind []] [VL .eBind []]):=by kernel_rfl
theorem Zx212:goalN EE Zu212 f212 Zk212 Za212 [] .eBind [] true:=by
 rw[Zw212]
 exact Lf_rfl _
theorem Zo212:Holds EE (212,Zk212):=by
 refine holds_ofN EE_ok func212 Zk212 (by kernel_rfl) rfl .eBind (fun x=>x) (fun _=>rfl) Zu212 all_nil Za212 (fun(l:(List DBind)) hp hb=> ?_)
 have hl_l:l.length≤9223372036854775807:=bdL (hb _ m0)
 have hp0:l.length≤4294967296:=hp _ m0
 clear hp hb
 refine⟨?_,fun h0=> ?_⟩
 rotate_left
 ·subst h0;exact Zx212
 apply @ve _ ((0:Nat)+l.length≤(4294967296:Nat)∧Lf [VL .eBind ([]++l)] [VL .eBind l]) (by kernel_rfl)
 exact⟨by simp;omega,Lf_rfl _⟩
def Zh212:HH:=⟨_,Zo212⟩
def Zk139:Con UU where
 α:=DMatch
 md:=[.ro]
 of:=o1 (oA .eMatch)
 ds:=fun x=>[dA .eMatch x]
 pre:=fun m=>[m.Ids.length≤4294967296,m.Binds.length≤4294967296]
 res:=fun m=>⟨[dA .eMatch m],true,[]⟩
 law:=l1 (lA .eMatch)
def Za139:Zk139.α→Nat→Option (Ann UU):=fun m=>annL []
def Zu139:=us [Zh211,Zh212]
theorem Zo139:Holds EE (139,Zk139):=by
 refine holds_of EE_ok func139 Zk139 (by kernel_rfl) Zu139 (us_ok _) Za139 (fun(m:DMatch) hp hb=> ?_)
 have hz0:=bd_eMatch (x:=m) (hb _ m0)
 have hl_m_Ids:=hz0.1
 have hl_m_Binds:=hz0.2
 have hp0:m.Ids.length≤4294967296:=hp _ m0
 have hp1:m.Binds.length≤4294967296:=hp _ m1
 clear hp hb
 apply @ve _ (m.Ids.length≤(4294967296:Nat)∧m.Binds.length≤(4294967296:Nat)∧Lf [DV.agg [CI m.Rule,CL .int m.Ids,CL .eBind m.Binds]] [DV.agg [CI m.Rule,CL .int m.Ids,CL .eBind m.Binds]]) (by kernel_rfl)
 exact⟨hp0,hp1,Lf_rfl _⟩
def Zh139:HH:=⟨_,Zo139⟩
def cmpI(a b:Int):Int:=if a<b then-1 else if b<a then 1 else 0
def cmpS(a b:ByteArray):Int:=if Op.bytesLess a.toList b.toList=true then-1 else if a=b then 0 else 1
def orI:List Int→Int
 |[]=>0
 |x::l=>if x=0 then orI l else x
def lessVal(a b:DVal):Bool:=if a.K=b.K then(if a.N=b.N then Op.bytesLess a.S.toList b.S.toList else decide (a.N<b.N)) else decide (a.K<b.K)
theorem cmpI_zero{a b:Int}:cmpI a b=0↔a=b:=by
 simp only[cmpI];split<;>(try split)<;>omega
theorem cmpI_neg{a b:Int}:cmpI a b<0↔a<b:=by
 simp only[cmpI];split<;>(try split)<;>omega
theorem cmpS_neg{a b:ByteArray}:cmpS a b<0↔Op.bytesLess a.toList b.toList=true:=by
 simp only[cmpS]
 split
 ·rename_i h;simp[h]
 ·rename_i h;split<;>simp[h]
theorem lessVal_cmp(a b:DVal):decide (orI [cmpI a.K b.K,cmpI a.N b.N,cmpS a.S b.S]<0)=lessVal a b:=by
 simp only[orI,lessVal,cmpI_zero]
 split
 ·split
  ·split
   ·rename_i h;have:=cmpS_neg (a:=a.S) (b:=b.S);rw[h] at this;rw[←Bool.coe_iff_coe];simpa using this
   ·rw[←Bool.coe_iff_coe];simpa using cmpS_neg (a:=a.S) (b:=b.S)
  ·rw[decide_eq_decide];exact cmpI_neg
 ·rw[decide_eq_decide];exact cmpI_neg
theorem orI_step(l:List Int){i:Int}(h0:0≤i)(h:i<l.length):orI (l.drop i.toNat)=if List.getD l i.toNat 0=0 then orI (l.drop (i+1).toNat) else List.getD l i.toNat 0:=by
 rw[drop_step l 0 h0 h];rfl
def holdsC(l:List DBind)(c:DCond):Bool:=(argVal c.L l).2&&(argVal c.R l).2&&(if c.Op=1 then decide ((argVal c.L l).1=(argVal c.R l).1) else if c.Op=2 then !decide ((argVal c.L l).1=(argVal c.R l).1) else if c.Op=3 then lessVal (argVal c.L l).1 (argVal c.R l).1 else false)
def holdAll(cs:List DCond)(l:List DBind):Bool:=cs.all (holdsC l)
def matchStep(out:List DBind)(a:DArg)(v:DVal):Option (List DBind):=
 if a.K=2 then(if a.V=v then some out else none) else if a.K=1 then(if(bindOf out a.S).2=true then(if(bindOf out a.S).1=v then some out else none) else some (out++[⟨a.S,v⟩])) else some out
def matchArgs:List DArg→List DVal→List DBind→Option (List DBind)
 |[],_,out=>some out
 |a::al,v::vs,out=>match matchStep out a v with|some o=>matchArgs al vs o|none=>none
 |_::_,[],_=>none
def matchP(p:DPat)(f:DFact)(l:List DBind):Option (List DBind):=if f.Kind=p.Kind∧f.Fields.length=p.Args.length then matchArgs p.Args f.Fields l else none
def hitP(p:DPat)(l:List DBind)(x:DItem):Bool:=(matchP p x.F l).isSome
def hits(p:DPat)(s:List DItem)(l:List DBind):Nat:=(s.filter (hitP p l)).length
def blockP(s:List DItem)(l:List DBind)(p:DPat):Bool:=p.Not&&s.any (hitP p l)
def blockedR(r:DRule)(s:List DItem)(l:List DBind):Bool:=r.Pats.any (blockP s l)
theorem matchStep_len{out:List DBind}{a:DArg}{v:DVal}{o:List DBind}(h:matchStep out a v=some o):o.length≤out.length+1:=by
 simp only[matchStep] at h
 repeat' (split at h)
 all_goals first|(cases h;simp)|cases h
theorem matchArgs_len:∀{al:List DArg}{vs:List DVal}{out o:List DBind},matchArgs al vs out=some o→o.length≤out.length+al.length
 |[],_,out,o,h=>by simp only[matchArgs,zae] at h;subst h;simp
 |a::al,v::vs,out,o,h=>by
  simp only[matchArgs] at h
  split at h
  ·rename_i o' he
   have:=matchStep_len he
   have:=matchArgs_len h
   simp only[zbq];omega
  ·cases h
 |_::_,[],_,_,h=>by simp[matchArgs] at h
theorem matchP_len{p:DPat}{f:DFact}{l o:List DBind}(h:matchP p f l=some o):o.length≤l.length+p.Args.length:=by
 simp only[matchP] at h
 split at h
 ·exact matchArgs_len h
 ·cases h
theorem matchArgs_step{al:List DArg}{vs:List DVal}(o:List DBind){i:Int}(h0:0≤i)(h:i<al.length)(hl:vs.length=al.length):matchArgs (al.drop i.toNat) (vs.drop i.toNat) o=match matchStep o (List.getD al i.toNat zArg) (List.getD vs i.toNat zVal) with|some o'=>matchArgs (al.drop (i+1).toNat) (vs.drop (i+1).toNat) o'|none=>none:=by
 rw[drop_step al zArg h0 h,drop_step vs zVal h0 (by omega)];rfl
theorem hits_step(p:DPat)(s:List DItem)(l:List DBind){i:Int}(h0:0≤i)(h:i<s.length):hits p (s.take (i+1).toNat) l=hits p (s.take i.toNat) l+(if hitP p l (List.getD s i.toNat zItem)=true then 1 else 0):=by
 rw[←take_step s zItem h0 h]
 simp only[hits,List.filter_append,zce,List.filter_cons,List.filter_nil]
 split<;>simp
theorem hits_le(p:DPat)(s:List DItem)(l:List DBind)(n:Nat):hits p (s.take n) l≤n:=zde (zdt _ _) (by simp;omega)
theorem hits_any(p:DPat)(s:List DItem)(l:List DBind):decide ((0:Int)<(hits p s l:Int))=s.any (hitP p l):=by
 have e:(0:Int)<(hits p s l:Int)↔0<hits p s l:=by omega
 rw[←Bool.coe_iff_coe,decide_eq_true_iff,e,hits,List.length_pos_iff_exists_mem,zbb]
 simp only[zcg]
def patsR(r:DRule)(not:Bool):List DPat:=r.Pats.filter fun p=>p.Not==not
theorem if_valn{a b:DVal}{P Q:Prop}(h1:¬a=b→P)(h2:a=b→Q):bif !(a.K==b.K&&(a.N==b.N&&(ByteArray.toList a.S==ByteArray.toList b.S&&true))) then P else Q:=by
 rw[val_beq];exact if_not (fun h=>h1 (of_decide_eq_false h)) (fun h=>h2 (of_decide_eq_true h))
theorem if_strn{a b:ByteArray}{P Q:Prop}(h1:¬a=b→P)(h2:a=b→Q):bif !(ByteArray.toList a==ByteArray.toList b) then P else Q:=by
 rw[toList_beq];exact if_not (fun h=>h1 (of_decide_eq_false h)) (fun h=>h2 (of_decide_eq_true h))
def Zk311:Con UU where
 α:=Int
 md:=[.ro]
 of:=o1 oI
 ds:=fun x=>[dI x]
 pre:=fun _=>[]
 res:=fun x=>⟨[dO false],true,[]⟩
 law:=l1 lI
def Za311:Zk311.α→Nat→Option (Ann UU):=fun x=>annL []
def Zu311:List (FuncId×Con UU):=[]
theorem Zo311:Holds EE (311,Zk311):=by
 refine holds_of EE_ok func311 Zk311 (by kernel_rfl) Zu311 all_nil Za311 (fun(x:Int) hp hb=> ?_)
 have hl_x:=bdI (n:=x) (hb _ m0)
 clear hp hb
 apply @ve _ (Lb (x !=x) false) (by kernel_rfl)
 exact Lf_b (by simp)
def Zh311:HH:=⟨_,Zo311⟩
def Zk317:Con UU where
 α:=ByteArray
 md:=[.ro]
 of:=o1 oS
 ds:=fun x=>[dS x]
 pre:=fun _=>[]
 res:=fun x=>⟨[dO false],true,[]⟩
 law:=l1 lS
def Za317:Zk317.α→Nat→Option (Ann UU):=fun x=>annL []
def Zu317:List (FuncId×Con UU):=[]
theorem Zo317:Holds EE (317,Zk317):=by
 refine holds_of EE_ok func317 Zk317 (by kernel_rfl) Zu317 all_nil Za317 (fun(x:ByteArray) hp hb=> ?_)
 have hl_x:=bdS (s:=x) (hb _ m0)
 clear hp hb
 apply @ve _ (Lb (!ByteArray.toList x==ByteArray.toList x) false) (by kernel_rfl)
 exact Lf_b (by simp)
def Zh317:HH:=⟨_,Zo317⟩
def Zk297:Con UU where
 α:=Int×Int
 md:=[.ro,.ro]
 of:=oC oI (o1 oI)
 ds:=fun x=>[dI x.1,dI x.2]
 pre:=fun _=>[]
 res:=fun(x,y)=>⟨[dI (cmpI x y)],true,[]⟩
 law:=lC lI (l1 lI)
def Za297:Zk297.α→Nat→Option (Ann UU):=fun(x,y)=>annL []
def Zu297:=us [Zh311]
theorem Zo297:Holds EE (297,Zk297):=by
 refine holds_of EE_ok func297 Zk297 (by kernel_rfl) Zu297 (us_ok _) Za297 (fun x hp hb=> ?_)
 obtain⟨x,y⟩:=x
 have hl_x:=bdI (n:=x) (hb _ m0)
 have hl_y:=bdI (n:=y) (hb _ m1)
 clear hp hb
 apply @ve _ (bif decide (x<y) then Li (-1:Int) (cmpI x y) else bif decide (x>y) then Li (1:Int) (cmpI x y) else Li (0:Int) (cmpI x y)) (by kernel_rfl)
 refine if_dec (fun h=>Lf_i ?_) (fun h=>if_dec (fun g=>Lf_i ?_) (fun g=>Lf_i ?_))
 ·exact(if_pos h).symm
 ·exact((if_neg h).trans (if_pos g)).symm
 ·exact((if_neg h).trans (if_neg g)).symm
def Zh297:HH:=⟨_,Zo297⟩
def Zk316:Con UU where
 α:=ByteArray×ByteArray
 md:=[.ro,.ro]
 of:=oC oS (o1 oS)
 ds:=fun x=>[dS x.1,dS x.2]
 pre:=fun _=>[]
 res:=fun(x,y)=>⟨[dI (cmpS x y)],true,[]⟩
 law:=lC lS (l1 lS)
def Za316:Zk316.α→Nat→Option (Ann UU):=fun(x,y)=>annL []
def Zu316:=us [Zh317]
theorem Zo316:Holds EE (316,Zk316):=by
 refine holds_of EE_ok func316 Zk316 (by kernel_rfl) Zu316 (us_ok _) Za316 (fun x hp hb=> ?_)
 obtain⟨x,y⟩:=x
 have hl_x:=bdS (s:=x) (hb _ m0)
 have hl_y:=bdS (s:=y) (hb _ m1)
 clear hp hb
 apply @ve _ (bif Op.bytesLess (ByteArray.toList x) (ByteArray.toList y) then Li (-1:Int) (cmpS x y) else bif !(Op.bytesLess (ByteArray.toList x) (ByteArray.toList y)||ByteArray.toList x==ByteArray.toList y) then Li (1:Int) (cmpS x y) else Li (0:Int) (cmpS x y)) (by kernel_rfl)
 refine if_cond (fun h=>Lf_i (if_pos h).symm) (fun h=> ?_)
 have h':¬Op.bytesLess (ByteArray.toList x) (ByteArray.toList y)=true:=by rw[h];decide
 rw[h,zcw,toList_beq]
 refine if_not (fun g=>Lf_i ?_) (fun g=>Lf_i ?_)
 ·exact((if_neg h').trans (if_neg (of_decide_eq_false g))).symm
 ·exact((if_neg h').trans (if_pos (of_decide_eq_true g))).symm
def Zh316:HH:=⟨_,Zo316⟩
def Zk296:Con UU where
 α:=(List Int)
 md:=[.ro]
 of:=o1 (oL .int)
 ds:=fun x=>[dL .int x]
 pre:=fun _=>[]
 res:=fun l=>⟨[dI (orI l)],true,[]⟩
 law:=l1 (lL .int)
def Zi296_3(l:(List Int)):Int×Int×Unit→Prop:=fun(i,z,_)=>z=0∧0≤i∧i≤l.length∧orI (l.drop i.toNat)=orI l
def Zm296_3(l:(List Int)):Int×Int×Unit→Nat:=fun(i,z,_)=>l.length-i.toNat
def Za296:Zk296.α→Nat→Option (Ann UU):=fun l=>annL [(3,annOf [.slot 8 (8,1024) (.lit (.int .i64)),.slot 3 (3,1024) (.lit (.int .i64))] (fun _=>Zi296_3 l) (Zm296_3 l))]
def Zu296:List (FuncId×Con UU):=[]
theorem Zo296:Holds EE (296,Zk296):=by
 refine holds_of EE_ok func296 Zk296 (by kernel_rfl) Zu296 all_nil Za296 (fun(l:(List Int)) hp hb=> ?_)
 have hl_l:l.length≤9223372036854775807:=bdL (hb _ m0)
 clear hp hb
 apply @ve _ (Zi296_3 l ((0:Int),(0:Int),())∧∀(y:Int×Int×PUnit),Zi296_3 l y→bif decide (y.1<(l.length:Int)) then(0:Int)≤y.1∧y.1.toNat<l.length∧bif List.getD l y.1.toNat (0:Int) !=y.2.1 then Li (List.getD l y.1.toNat (0:Int)) (orI l) else Zi296_3 l (IntKind.wrap IntKind.i64 (y.1+(1:Int)),y.2.1,())∧Zm296_3 l (IntKind.wrap IntKind.i64 (y.1+(1:Int)),y.2.1,())<Zm296_3 l y else Li y.2.1 (orI l)) (by kernel_rfl)
 refine⟨⟨rfl,by omega,by omega,rfl⟩,?_⟩
 rintro⟨i,z,⟨⟩⟩ ⟨rfl,h1,h2,hR⟩
 simp only
 refine if_dec (fun hc=> ?_) (fun hc=> ?_)
 ·rw[orI_step l h1 hc] at hR
  rw[wrap_i64 (by omega) (by omega)]
  refine⟨by omega,by omega,if_neq (fun g=> ?_) (fun g=> ?_)⟩
  ·rw[if_neg g] at hR;exact Lf_i hR
  ·rw[if_pos g] at hR;exact⟨⟨rfl,by omega,by omega,hR⟩,by simp only[Zm296_3];omega⟩
 ·rw[drop_end l (by omega)] at hR
  exact Lf_i hR
def Zh296:HH:=⟨_,Zo296⟩
def Zk313:Con UU where
 α:=DVal×DVal
 md:=[.ro,.ro]
 of:=oC (oA .eVal) (o1 (oA .eVal))
 ds:=fun x=>[dA .eVal x.1,dA .eVal x.2]
 pre:=fun _=>[]
 res:=fun(a,b)=>⟨[dI (orI [cmpI a.K b.K,cmpI a.N b.N,cmpS a.S b.S])],true,[]⟩
 law:=lC (lA .eVal) (l1 (lA .eVal))
def Za313:Zk313.α→Nat→Option (Ann UU):=fun(a,b)=>annL []
def Zu313:=us [Zh297,Zh316,Zh296]
theorem Zo313:Holds EE (313,Zk313):=by
 refine holds_of EE_ok func313 Zk313 (by kernel_rfl) Zu313 (us_ok _) Za313 (fun x hp hb=> ?_)
 obtain⟨a,b⟩:=x
 have hl_a_S:=bd_eVal (x:=a) (hb _ m0)
 have hl_b_S:=bd_eVal (x:=b) (hb _ m1)
 clear hp hb
 apply @ve _ (Li (orI [cmpI a.K b.K,cmpI a.N b.N,cmpS a.S b.S]) (orI [cmpI a.K b.K,cmpI a.N b.N,cmpS a.S b.S])) (by kernel_rfl)
 exact Lf_rfl _
def Zh313:HH:=⟨_,Zo313⟩
def Zk303:Con UU where
 α:=DVal×DVal
 md:=[.ro,.ro]
 of:=oC (oA .eVal) (o1 (oA .eVal))
 ds:=fun x=>[dA .eVal x.1,dA .eVal x.2]
 pre:=fun _=>[]
 res:=fun(a,b)=>⟨[dO (lessVal a b)],true,[]⟩
 law:=lC (lA .eVal) (l1 (lA .eVal))
def Za303:Zk303.α→Nat→Option (Ann UU):=fun(a,b)=>annL []
def Zu303:=us [Zh313]
theorem Zo303:Holds EE (303,Zk303):=by
 refine holds_of EE_ok func303 Zk303 (by kernel_rfl) Zu303 (us_ok _) Za303 (fun x hp hb=> ?_)
 obtain⟨a,b⟩:=x
 have hl_a_S:=bd_eVal (x:=a) (hb _ m0)
 have hl_b_S:=bd_eVal (x:=b) (hb _ m1)
 clear hp hb
 apply @ve _ (let x0:Int:=orI [cmpI a.K b.K,cmpI a.N b.N,cmpS a.S b.S];Lb (decide (x0<(0:Int))) (lessVal a b)) (by kernel_rfl)
 dsimp only
 exact Lf_b (lessVal_cmp a b)
def Zh303:HH:=⟨_,Zo303⟩
def Zk302:Con UU where
 α:=DVal×DVal
 md:=[.ro,.ro]
 of:=oC (oA .eVal) (o1 (oA .eVal))
 ds:=fun x=>[dA .eVal x.1,dA .eVal x.2]
 pre:=fun _=>[]
 res:=fun(a,b)=>⟨[dO (lessVal a b)],true,[]⟩
 law:=lC (lA .eVal) (l1 (lA .eVal))
def Za302:Zk302.α→Nat→Option (Ann UU):=fun(a,b)=>annL []
def Zu302:List (FuncId×Con UU):=[]
theorem Zo302:Holds EE (302,Zk302):=by
 refine holds_of EE_ok func302 Zk302 (by kernel_rfl) Zu302 all_nil Za302 (fun x hp hb=> ?_)
 obtain⟨a,b⟩:=x
 have hl_a_S:=bd_eVal (x:=a) (hb _ m0)
 have hl_b_S:=bd_eVal (x:=b) (hb _ m1)
 clear hp hb
 apply @ve _ (bif a.K !=b.K then Lb (decide (a.K<b.K)) (lessVal a b) else bif a.N !=b.N then Lb (decide (a.N<b.N)) (lessVal a b) else Lb (Op.bytesLess (ByteArray.toList a.S) (ByteArray.toList b.S)) (lessVal a b)) (by kernel_rfl)
 refine if_neq (fun h=>Lf_b (if_neg h).symm) (fun h=>if_neq (fun g=>Lf_b ?_) (fun g=>Lf_b ?_))
 ·exact((if_pos h).trans (if_neg g)).symm
 ·exact((if_pos h).trans (if_pos g)).symm
def Zh302:HH:=⟨_,Zo302⟩
def Zk277:Con UU where
 α:=DCond×(List DBind)
 md:=[.ro,.ro]
 of:=oC (oA .eCond) (o1 (oL .eBind))
 ds:=fun x=>[dA .eCond x.1,dL .eBind x.2]
 pre:=fun _=>[]
 res:=fun(c,l)=>⟨[dO (holdsC l c)],true,[]⟩
 law:=lC (lA .eCond) (l1 (lL .eBind))
def Za277:Zk277.α→Nat→Option (Ann UU):=fun(c,l)=>annL []
def Zu277:=us [Zh280,Zh303]
theorem Zo277:Holds EE (277,Zk277):=by
 refine holds_of EE_ok func277 Zk277 (by kernel_rfl) Zu277 (us_ok _) Za277 (fun x hp hb=> ?_)
 obtain⟨c,l⟩:=x
 have hz0:=bd_eCond (x:=c) (hb _ m0)
 have hl_c_L_S:=hz0.1
 have hl_c_L_V_S:=hz0.2.1
 have hl_c_R_S:=hz0.2.2.1
 have hl_c_R_V_S:=hz0.2.2.2
 have hl_l:l.length≤9223372036854775807:=bdL (hb _ m1)
 clear hp hb
 apply @ve _ (let x0:Bool:=(argVal {K:=c.L.K,S:=c.L.S,V:={K:=c.L.V.K,N:=c.L.V.N,S:=c.L.V.S:DVal}:DArg} l).1.K==(argVal {K:=c.R.K,S:=c.R.S,V:={K:=c.R.V.K,N:=c.R.V.N,S:=c.R.V.S:DVal}:DArg} l).1.K&&((argVal {K:=c.L.K,S:=c.L.S,V:={K:=c.L.V.K,N:=c.L.V.N,S:=c.L.V.S:DVal}:DArg} l).1.N==(argVal {K:=c.R.K,S:=c.R.S,V:={K:=c.R.V.K,N:=c.R.V.N,S:=c.R.V.S:DVal}:DArg} l).1.N&&(ByteArray.toList (argVal {K:=c.L.K,S:=c.L.S,V:={K:=c.L.V.K,N:=c.L.V.N,S:=c.L.V.S:DVal}:DArg} l).1.S==ByteArray.toList (argVal {K:=c.R.K,S:=c.R.S,V:={K:=c.R.V.K,N:=c.R.V.N,S:=c.R.V.S:DVal}:DArg} l).1.S&&true));bif !(argVal {K:=c.L.K,S:=c.L.S,V:={K:=c.L.V.K,N:=c.L.V.N,S:=c.L.V.S:DVal}:DArg} l).2 then Lb false (holdsC l c) else bif !(argVal {K:=c.R.K,S:=c.R.S,V:={K:=c.R.V.K,N:=c.R.V.N,S:=c.R.V.S:DVal}:DArg} l).2 then Lb false (holdsC l c) else bif c.Op==(1:Int) then Lb x0 (holdsC l c) else bif c.Op==(2:Int) then Lb (!x0) (holdsC l c) else bif c.Op==(3:Int) then Lb (lessVal (argVal {K:=c.L.K,S:=c.L.S,V:={K:=c.L.V.K,N:=c.L.V.N,S:=c.L.V.S:DVal}:DArg} l).1 (argVal {K:=c.R.K,S:=c.R.S,V:={K:=c.R.V.K,N:=c.R.V.N,S:=c.R.V.S:DVal}:DArg} l).1) (holdsC l c) else Lb false (holdsC l c)) (by kernel_rfl)
 dsimp only
 have eL:(⟨c.L.K,c.L.S,⟨c.L.V.K,c.L.V.N,c.L.V.S⟩⟩:DArg)=c.L:=rfl
 have eR:(⟨c.R.K,c.R.S,⟨c.R.V.K,c.R.V.N,c.R.V.S⟩⟩:DArg)=c.R:=rfl
 simp only[eL,eR,val_beq]
 refine if_not (fun h=>Lf_b ?_) (fun h=>if_not (fun h1=>Lf_b ?_) (fun h1=>if_num (fun h2=>Lf_b ?_) (fun h2=>if_num (fun h3=>Lf_b ?_) (fun h3=>if_num (fun h4=>Lf_b ?_) (fun h4=>Lf_b ?_)))))
 all_goals (simp only[holdsC];grind)
def Zh277:HH:=⟨_,Zo277⟩
def Zk274:Con UU where
 α:=DCond×(List DBind)
 md:=[.ro,.ro]
 of:=oC (oA .eCond) (o1 (oL .eBind))
 ds:=fun x=>[dA .eCond x.1,dL .eBind x.2]
 pre:=fun _=>[]
 res:=fun(c,l)=>⟨[dO (holdsC l c)],true,[]⟩
 law:=lC (lA .eCond) (l1 (lL .eBind))
def Za274:Zk274.α→Nat→Option (Ann UU):=fun(c,l)=>annL []
def Zu274:=us [Zh245,Zh302]
theorem Zo274:Holds EE (274,Zk274):=by
 refine holds_of EE_ok func274 Zk274 (by kernel_rfl) Zu274 (us_ok _) Za274 (fun x hp hb=> ?_)
 obtain⟨c,l⟩:=x
 have hz0:=bd_eCond (x:=c) (hb _ m0)
 have hl_c_L_S:=hz0.1
 have hl_c_L_V_S:=hz0.2.1
 have hl_c_R_S:=hz0.2.2.1
 have hl_c_R_V_S:=hz0.2.2.2
 have hl_l:l.length≤9223372036854775807:=bdL (hb _ m1)
 clear hp hb
 apply @ve _ (let x0:Bool:=(argVal {K:=c.L.K,S:=c.L.S,V:={K:=c.L.V.K,N:=c.L.V.N,S:=c.L.V.S:DVal}:DArg} l).1.K==(argVal {K:=c.R.K,S:=c.R.S,V:={K:=c.R.V.K,N:=c.R.V.N,S:=c.R.V.S:DVal}:DArg} l).1.K&&((argVal {K:=c.L.K,S:=c.L.S,V:={K:=c.L.V.K,N:=c.L.V.N,S:=c.L.V.S:DVal}:DArg} l).1.N==(argVal {K:=c.R.K,S:=c.R.S,V:={K:=c.R.V.K,N:=c.R.V.N,S:=c.R.V.S:DVal}:DArg} l).1.N&&(ByteArray.toList (argVal {K:=c.L.K,S:=c.L.S,V:={K:=c.L.V.K,N:=c.L.V.N,S:=c.L.V.S:DVal}:DArg} l).1.S==ByteArray.toList (argVal {K:=c.R.K,S:=c.R.S,V:={K:=c.R.V.K,N:=c.R.V.N,S:=c.R.V.S:DVal}:DArg} l).1.S&&true));bif !(argVal {K:=c.L.K,S:=c.L.S,V:={K:=c.L.V.K,N:=c.L.V.N,S:=c.L.V.S:DVal}:DArg} l).2 then Lb false (holdsC l c) else bif !(argVal {K:=c.R.K,S:=c.R.S,V:={K:=c.R.V.K,N:=c.R.V.N,S:=c.R.V.S:DVal}:DArg} l).2 then Lb false (holdsC l c) else bif c.Op==(1:Int) then Lb x0 (holdsC l c) else bif c.Op==(2:Int) then Lb (!x0) (holdsC l c) else bif c.Op==(3:Int) then Lb (lessVal (argVal {K:=c.L.K,S:=c.L.S,V:={K:=c.L.V.K,N:=c.L.V.N,S:=c.L.V.S:DVal}:DArg} l).1 (argVal {K:=c.R.K,S:=c.R.S,V:={K:=c.R.V.K,N:=c.R.V.N,S:=c.R.V.S:DVal}:DArg} l).1) (holdsC l c) else Lb false (holdsC l c)) (by kernel_rfl)
 dsimp only
 have eL:(⟨c.L.K,c.L.S,⟨c.L.V.K,c.L.V.N,c.L.V.S⟩⟩:DArg)=c.L:=rfl
 have eR:(⟨c.R.K,c.R.S,⟨c.R.V.K,c.R.V.N,c.R.V.S⟩⟩:DArg)=c.R:=rfl
 simp only[eL,eR,val_beq]
 refine if_not (fun h=>Lf_b ?_) (fun h=>if_not (fun h1=>Lf_b ?_) (fun h1=>if_num (fun h2=>Lf_b ?_) (fun h2=>if_num (fun h3=>Lf_b ?_) (fun h3=>if_num (fun h4=>Lf_b ?_) (fun h4=>Lf_b ?_)))))
 all_goals (simp only[holdsC];grind)
def Zh274:HH:=⟨_,Zo274⟩
def Zk234:Con UU where
 α:=(List DCond)×(List DBind)
 md:=[.ro,.ro]
 of:=oC (oL .eCond) (o1 (oL .eBind))
 ds:=fun x=>[dL .eCond x.1,dL .eBind x.2]
 pre:=fun _=>[]
 res:=fun(cs,l)=>⟨[dO (holdAll cs l)],true,[]⟩
 law:=lC (lL .eCond) (l1 (lL .eBind))
def Zi234_2(cs:(List DCond))(l:(List DBind)):Int×Unit→Prop:=fun(i,_)=>0≤i∧i≤cs.length∧(cs.drop i.toNat).all (holdsC l)=holdAll cs l
def Zm234_2(cs:(List DCond))(l:(List DBind)):Int×Unit→Nat:=fun(i,_)=>cs.length-i.toNat
def Za234:Zk234.α→Nat→Option (Ann UU):=fun(cs,l)=>annL [(2,annOf [.slot 9 (9,1024) (.lit (.int .i64))] (fun _=>Zi234_2 cs l) (Zm234_2 cs l))]
def Zu234:=us [Zh277]
theorem Zo234:Holds EE (234,Zk234):=by
 refine holds_of EE_ok func234 Zk234 (by kernel_rfl) Zu234 (us_ok _) Za234 (fun x hp hb=> ?_)
 obtain⟨cs,l⟩:=x
 have hl_cs:cs.length≤9223372036854775807:=bdL (hb _ m0)
 have hl_l:l.length≤9223372036854775807:=bdL (hb _ m1)
 clear hp hb
 apply @ve _ (Zi234_2 cs l ((0:Int),())∧∀(y:Int×PUnit),Zi234_2 cs l y→bif decide (y.1<(cs.length:Int)) then(0:Int)≤y.1∧y.1.toNat<cs.length∧bif !holdsC l (List.getD cs y.1.toNat zCond) then Lb false (holdAll cs l) else Zi234_2 cs l (IntKind.wrap IntKind.i64 (y.1+(1:Int)),())∧Zm234_2 cs l (IntKind.wrap IntKind.i64 (y.1+(1:Int)),())<Zm234_2 cs l y else Lb true (holdAll cs l)) (by kernel_rfl)
 refine⟨⟨by omega,by omega,rfl⟩,?_⟩
 rintro⟨i,⟨⟩⟩ ⟨h1,h2,hR⟩
 simp only
 refine if_dec (fun hc=> ?_) (fun hc=> ?_)
 ·rw[all_step _ _ zCond h1 hc] at hR
  rw[wrap_i64 (by omega) (by omega)]
  refine⟨by omega,by omega,if_not (fun g=>Lf_ff (by rw[←hR,g];rfl)) (fun g=>⟨⟨by omega,by omega,by rw[←hR,g,zck]⟩,by simp only[Zm234_2];omega⟩)⟩
 ·rw[drop_end _ (by omega)] at hR
  exact Lf_tt hR.symm
def Zh234:HH:=⟨_,Zo234⟩
def Zk230:Con UU where
 α:=(List DCond)×(List DBind)
 md:=[.ro,.ro]
 of:=oC (oL .eCond) (o1 (oL .eBind))
 ds:=fun x=>[dL .eCond x.1,dL .eBind x.2]
 pre:=fun _=>[]
 res:=fun(cs,l)=>⟨[dO (holdAll cs l)],true,[]⟩
 law:=lC (lL .eCond) (l1 (lL .eBind))
def Zi230_2(cs:(List DCond))(l:(List DBind)):Int×Unit→Prop:=fun(i,_)=>0≤i∧i≤cs.length∧(cs.drop i.toNat).all (holdsC l)=holdAll cs l
def Zm230_2(cs:(List DCond))(l:(List DBind)):Int×Unit→Nat:=fun(i,_)=>cs.length-i.toNat
def Za230:Zk230.α→Nat→Option (Ann UU):=fun(cs,l)=>annL [(2,annOf [.slot 5 (5,1024) (.lit (.int .i64))] (fun _=>Zi230_2 cs l) (Zm230_2 cs l))]
def Zu230:=us [Zh274]
theorem Zo230:Holds EE (230,Zk230):=by
 refine holds_of EE_ok func230 Zk230 (by kernel_rfl) Zu230 (us_ok _) Za230 (fun x hp hb=> ?_)
 obtain⟨cs,l⟩:=x
 have hl_cs:cs.length≤9223372036854775807:=bdL (hb _ m0)
 have hl_l:l.length≤9223372036854775807:=bdL (hb _ m1)
 clear hp hb
 apply @ve _ (Zi230_2 cs l ((0:Int),())∧∀(y:Int×PUnit),Zi230_2 cs l y→bif decide (y.1<(cs.length:Int)) then(0:Int)≤y.1∧y.1.toNat<cs.length∧bif !holdsC l (List.getD cs y.1.toNat zCond) then Lb false (holdAll cs l) else Zi230_2 cs l (IntKind.wrap IntKind.i64 (y.1+(1:Int)),())∧Zm230_2 cs l (IntKind.wrap IntKind.i64 (y.1+(1:Int)),())<Zm230_2 cs l y else Lb true (holdAll cs l)) (by kernel_rfl)
 refine⟨⟨by omega,by omega,rfl⟩,?_⟩
 rintro⟨i,⟨⟩⟩ ⟨h1,h2,hR⟩
 simp only
 refine if_dec (fun hc=> ?_) (fun hc=> ?_)
 ·rw[all_step _ _ zCond h1 hc] at hR
  rw[wrap_i64 (by omega) (by omega)]
  refine⟨by omega,by omega,if_not (fun g=>Lf_ff (by rw[←hR,g];rfl)) (fun g=>⟨⟨by omega,by omega,by rw[←hR,g,zck]⟩,by simp only[Zm230_2];omega⟩)⟩
 ·rw[drop_end _ (by omega)] at hR
  exact Lf_tt hR.symm
def Zh230:HH:=⟨_,Zo230⟩
def Zk231:Con UU where
 α:=DPat×DFact×(List DBind)
 md:=[.ro,.ro,.ro]
 of:=oC (oA .ePat) (oC (oA .eFact) (o1 (oL .eBind)))
 ds:=fun x=>[dA .ePat x.1,dA .eFact x.2.1,dL .eBind x.2.2]
 pre:=fun(p,f,l)=>[l.length+p.Args.length≤4294967295]
 res:=fun(p,f,l)=>⟨[dL .eBind ((matchP p f l).getD l),dO ((matchP p f l).isSome)],true,[]⟩
 law:=lC (lA .ePat) (lC (lA .eFact) (l1 (lL .eBind)))
def Zi231_5(p:DPat)(f:DFact)(l:(List DBind)):List DBind×Int×(ByteArray×List DArg×Bool×Unit)×(ByteArray×List DVal×Unit)×Unit→Prop:=fun(o,i,b,g,_)=>b=(p.Kind,p.Args,p.Not,())∧g=(f.Kind,f.Fields,())∧0≤i∧i≤p.Args.length∧o.length≤l.length+i∧matchArgs (p.Args.drop i.toNat) (f.Fields.drop i.toNat) o=matchP p f l
def Zm231_5(p:DPat)(f:DFact)(l:(List DBind)):List DBind×Int×(ByteArray×List DArg×Bool×Unit)×(ByteArray×List DVal×Unit)×Unit→Nat:=fun(o,i,b,g,_)=>p.Args.length-i.toNat
def Za231:Zk231.α→Nat→Option (Ann UU):=fun(p,f,l)=>annL [(5,annOf [.slot 8 (8,1024) (.own .eBind true),.slot 9 (9,1024) (.lit (.int .i64)),.box 3 (3,1024) [.lit .str,.shr .eArg,.lit .bool],.box 4 (4,1024) [.lit .str,.shr .eVal]] (fun _=>Zi231_5 p f l) (Zm231_5 p f l))]
def Zu231:=us [Zh275]
theorem Zo231:Holds EE (231,Zk231):=by
 refine holds_of EE_ok func231 Zk231 (by kernel_rfl) Zu231 (us_ok _) Za231 (fun x hp hb=> ?_)
 obtain⟨p,f,l⟩:=x
 have hz0:=bd_ePat (x:=p) (hb _ m0)
 have hl_p_Kind:=hz0.1
 have hl_p_Args:=hz0.2
 have hz1:=bd_eFact (x:=f) (hb _ m1)
 have hl_f_Kind:=hz1.1
 have hl_f_Fields:=hz1.2
 have hl_l:l.length≤9223372036854775807:=bdL (hb _ m2)
 have hp0:l.length+p.Args.length≤4294967295:=hp _ m0
 clear hp hb
 apply @ve _ ((0:Nat)+l.length≤(4294967296:Nat)∧bif !ByteArray.toList p.Kind==ByteArray.toList f.Kind then Lf [VL .eBind ([]++l),VB false] [VL .eBind (Option.getD (matchP p f l) l),VB (Option.isSome (matchP p f l))] else bif (p.Args.length:Int) !=(f.Fields.length:Int) then Lf [VL .eBind ([]++l),VB false] [VL .eBind (Option.getD (matchP p f l) l),VB (Option.isSome (matchP p f l))] else Zi231_5 p f l ([]++l,(0:Int),(p.Kind,p.Args,p.Not,()),(f.Kind,f.Fields,()),())∧∀(y:List DBind×Int×(ByteArray×List DArg×Bool×PUnit)×(ByteArray×List DVal×PUnit)×PUnit),let x3:Nat:=y.2.1.toNat;let x5:Nat:=y.2.2.1.2.1.length;let x0:DVal:=List.getD y.2.2.2.1.2.1 x3 zVal;let x2:DArg:=List.getD y.2.2.1.2.1 x3 zArg;let x4:Int:=(↑x5:Int);let x1:DVal:=x2.V;Zi231_5 p f l y→bif decide (y.2.1<x4) then(0:Int)≤y.2.1∧x3<x5∧bif x2.K==(2:Int) then(0:Int)≤y.2.1∧x3<y.2.2.2.1.2.1.length∧bif !(x1.K==x0.K&&(x1.N==x0.N&&(ByteArray.toList x1.S==ByteArray.toList x0.S&&true))) then(0:Nat)+l.length≤(4294967296:Nat)∧Lf [VL .eBind ([]++l),VB false] [VL .eBind (Option.getD (matchP p f l) l),VB (Option.isSome (matchP p f l))] else bif x2.K==(1:Int) then bif (bindOf {τ:=Cd.eBind,xs:=y.1:Arr UU}.xs x2.S).2 then(0:Int)≤y.2.1∧x3<y.2.2.2.1.2.1.length∧bif !((bindOf {τ:=Cd.eBind,xs:=y.1:Arr UU}.xs x2.S).1.K==x0.K&&((bindOf {τ:=Cd.eBind,xs:=y.1:Arr UU}.xs x2.S).1.N==x0.N&&(ByteArray.toList (bindOf {τ:=Cd.eBind,xs:=y.1:Arr UU}.xs x2.S).1.S==ByteArray.toList x0.S&&true))) then(0:Nat)+l.length≤(4294967296:Nat)∧Lf [VL .eBind ([]++l),VB false] [VL .eBind (Option.getD (matchP p f l) l),VB (Option.isSome (matchP p f l))] else bif x2.K==(1:Int) then bif !(bindOf {τ:=Cd.eBind,xs:=y.1:Arr UU}.xs x2.S).2 then(0:Int)≤y.2.1∧x3<y.2.2.2.1.2.1.length∧y.1.length+List.length [{Name:=x2.S,V:=x0:DBind}]≤(4294967296:Nat)∧Zi231_5 p f l (y.1++[{Name:=x2.S,V:=x0:DBind}],IntKind.wrap IntKind.i64 (y.2.1+(1:Int)),(y.2.2.1.1,y.2.2.1.2.1,y.2.2.1.2.2.1,()),(y.2.2.2.1.1,y.2.2.2.1.2.1,()),())∧Zm231_5 p f l (y.1++[{Name:=x2.S,V:=x0:DBind}],IntKind.wrap IntKind.i64 (y.2.1+(1:Int)),(y.2.2.1.1,y.2.2.1.2.1,y.2.2.1.2.2.1,()),(y.2.2.2.1.1,y.2.2.2.1.2.1,()),())<Zm231_5 p f l y else Zi231_5 p f l (y.1,IntKind.wrap IntKind.i64 (y.2.1+(1:Int)),(y.2.2.1.1,y.2.2.1.2.1,y.2.2.1.2.2.1,()),(y.2.2.2.1.1,y.2.2.2.1.2.1,()),())∧Zm231_5 p f l (y.1,IntKind.wrap IntKind.i64 (y.2.1+(1:Int)),(y.2.2.1.1,y.2.2.1.2.1,y.2.2.1.2.2.1,()),(y.2.2.2.1.1,y.2.2.2.1.2.1,()),())<Zm231_5 p f l y else Zi231_5 p f l (y.1,IntKind.wrap IntKind.i64 (y.2.1+(1:Int)),(y.2.2.1.1,y.2.2.1.2.1,y.2.2.1.2.2.1,()),(y.2.2.2.1.1,y.2.2.2.1.2.1,()),())∧Zm231_5 p f l (y.1,IntKind.wrap IntKind.i64 (y.2.1+(1:Int)),(y.2.2.1.1,y.2.2.1.2.1,y.2.2.1.2.2.1,()),(y.2.2.2.1.1,y.2.2.2.1.2.1,()),())<Zm231_5 p f l y else bif x2.K==(1:Int) then bif !(bindOf {τ:=Cd.eBind,xs:=y.1:Arr UU}.xs x2.S).2 then(0:Int)≤y.2.1∧x3<y.2.2.2.1.2.1.length∧y.1.length+List.length [{Name:=x2.S,V:=x0:DBind}]≤(4294967296:Nat)∧Zi231_5 p f l (y.1++[{Name:=x2.S,V:=x0:DBind}],IntKind.wrap IntKind.i64 (y.2.1+(1:Int)),(y.2.2.1.1,y.2.2.1.2.1,y.2.2.1.2.2.1,()),(y.2.2.2.1.1,y.2.2.2.1.2.1,()),())∧Zm231_5 p f l (y.1++[{Name:=x2.S,V:=x0:DBind}],IntKind.wrap IntKind.i64 (y.2.1+(1:Int)),(y.2.2.1.1,y.2.2.1.2.1,y.2.2.1.2.2.1,()),(y.2.2.2.1.1,y.2.2.2.1.2.1,()),())<Zm231_5 p f l y else Zi231_5 p f l (y.1,IntKind.wrap IntKind.i64 (y.2.1+(1:Int)),(y.2.2.1.1,y.2.2.1.2.1,y.2.2.1.2.2.1,()),(y.2.2.2.1.1,y.2.2.2.1.2.1,()),())∧Zm231_5 p f l (y.1,IntKind.wrap IntKind.i64 (y.2.1+(1:Int)),(y.2.2.1.1,y.2.2.1.2.1,y.2.2.1.2.2.1,()),(y.2.2.2.1.1,y.2.2.2.1.2.1,()),())<Zm231_5 p f l y else Zi231_5 p f l (y.1,IntKind.wrap IntKind.i64 (y.2.1+(1:Int)),(y.2.2.1.1,y.2.2.1.2.1,y.2.2.1.2.2.1,()),(y.2.2.2.1.1,y.2.2.2.1.2.1,()),())∧Zm231_5 p f l (y.1,IntKind.wrap IntKind.i64 (y.2.1+(1:Int)),(y.2.2.1.1,y.2.2.1.2.1,y.2.2.1.2.2.1,()),(y.2.2.2.1.1,y.2.2.2.1.2.1,()),())<Zm231_5 p f l y else bif x2.K==(1:Int) then bif !(bindOf {τ:=Cd.eBind,xs:=y.1:Arr UU}.xs x2.S).2 then(0:Int)≤y.2.1∧x3<y.2.2.2.1.2.1.length∧y.1.length+List.length [{Name:=x2.S,V:=x0:DBind}]≤(4294967296:Nat)∧Zi231_5 p f l (y.1++[{Name:=x2.S,V:=x0:DBind}],IntKind.wrap IntKind.i64 (y.2.1+(1:Int)),(y.2.2.1.1,y.2.2.1.2.1,y.2.2.1.2.2.1,()),(y.2.2.2.1.1,y.2.2.2.1.2.1,()),())∧Zm231_5 p f l (y.1++[{Name:=x2.S,V:=x0:DBind}],IntKind.wrap IntKind.i64 (y.2.1+(1:Int)),(y.2.2.1.1,y.2.2.1.2.1,y.2.2.1.2.2.1,()),(y.2.2.2.1.1,y.2.2.2.1.2.1,()),())<Zm231_5 p f l y else Zi231_5 p f l (y.1,IntKind.wrap IntKind.i64 (y.2.1+(1:Int)),(y.2.2.1.1,y.2.2.1.2.1,y.2.2.1.2.2.1,()),(y.2.2.2.1.1,y.2.2.2.1.2.1,()),())∧Zm231_5 p f l (y.1,IntKind.wrap IntKind.i64 (y.2.1+(1:Int)),(y.2.2.1.1,y.2.2.1.2.1,y.2.2.1.2.2.1,()),(y.2.2.2.1.1,y.2.2.2.1.2.1,()),())<Zm231_5 p f l y else Zi231_5 p f l (y.1,IntKind.wrap IntKind.i64 (y.2.1+(1:Int)),(y.2.2.1.1,y.2.2.1.2.1,y.2.2.1.2.2.1,()),(y.2.2.2.1.1,y.2.2.2.1.2.1,()),())∧Zm231_5 p f l (y.1,IntKind.wrap IntKind.i64 (y.2.1+(1:Int)),(y.2.2.1.1,y.2.2.1.2.1,y.2.2.1.2.2.1,()),(y.2.2.2.1.1,y.2.2.2.1.2.1,()),())<Zm231_5 p f l y else bif x2.K==(1:Int) then bif (bindOf {τ:=Cd.eBind,xs:=y.1:Arr UU}.xs x2.S).2 then(0:Int)≤y.2.1∧x3<y.2.2.2.1.2.1.length∧bif !((bindOf {τ:=Cd.eBind,xs:=y.1:Arr UU}.xs x2.S).1.K==x0.K&&((bindOf {τ:=Cd.eBind,xs:=y.1:Arr UU}.xs x2.S).1.N==x0.N&&(ByteArray.toList (bindOf {τ:=Cd.eBind,xs:=y.1:Arr UU}.xs x2.S).1.S==ByteArray.toList x0.S&&true))) then(0:Nat)+l.length≤(4294967296:Nat)∧Lf [VL .eBind ([]++l),VB false] [VL .eBind (Option.getD (matchP p f l) l),VB (Option.isSome (matchP p f l))] else bif x2.K==(1:Int) then bif !(bindOf {τ:=Cd.eBind,xs:=y.1:Arr UU}.xs x2.S).2 then(0:Int)≤y.2.1∧x3<y.2.2.2.1.2.1.length∧y.1.length+List.length [{Name:=x2.S,V:=x0:DBind}]≤(4294967296:Nat)∧Zi231_5 p f l (y.1++[{Name:=x2.S,V:=x0:DBind}],IntKind.wrap IntKind.i64 (y.2.1+(1:Int)),(y.2.2.1.1,y.2.2.1.2.1,y.2.2.1.2.2.1,()),(y.2.2.2.1.1,y.2.2.2.1.2.1,()),())∧Zm231_5 p f l (y.1++[{Name:=x2.S,V:=x0:DBind}],IntKind.wrap IntKind.i64 (y.2.1+(1:Int)),(y.2.2.1.1,y.2.2.1.2.1,y.2.2.1.2.2.1,()),(y.2.2.2.1.1,y.2.2.2.1.2.1,()),())<Zm231_5 p f l y else Zi231_5 p f l (y.1,IntKind.wrap IntKind.i64 (y.2.1+(1:Int)),(y.2.2.1.1,y.2.2.1.2.1,y.2.2.1.2.2.1,()),(y.2.2.2.1.1,y.2.2.2.1.2.1,()),())∧Zm231_5 p f l (y.1,IntKind.wrap IntKind.i64 (y.2.1+(1:Int)),(y.2.2.1.1,y.2.2.1.2.1,y.2.2.1.2.2.1,()),(y.2.2.2.1.1,y.2.2.2.1.2.1,()),())<Zm231_5 p f l y else Zi231_5 p f l (y.1,IntKind.wrap IntKind.i64 (y.2.1+(1:Int)),(y.2.2.1.1,y.2.2.1.2.1,y.2.2.1.2.2.1,()),(y.2.2.2.1.1,y.2.2.2.1.2.1,()),())∧Zm231_5 p f l (y.1,IntKind.wrap IntKind.i64 (y.2.1+(1:Int)),(y.2.2.1.1,y.2.2.1.2.1,y.2.2.1.2.2.1,()),(y.2.2.2.1.1,y.2.2.2.1.2.1,()),())<Zm231_5 p f l y else bif x2.K==(1:Int) then bif !(bindOf {τ:=Cd.eBind,xs:=y.1:Arr UU}.xs x2.S).2 then(0:Int)≤y.2.1∧x3<y.2.2.2.1.2.1.length∧y.1.length+List.length [{Name:=x2.S,V:=x0:DBind}]≤(4294967296:Nat)∧Zi231_5 p f l (y.1++[{Name:=x2.S,V:=x0:DBind}],IntKind.wrap IntKind.i64 (y.2.1+(1:Int)),(y.2.2.1.1,y.2.2.1.2.1,y.2.2.1.2.2.1,()),(y.2.2.2.1.1,y.2.2.2.1.2.1,()),())∧Zm231_5 p f l (y.1++[{Name:=x2.S,V:=x0:DBind}],IntKind.wrap IntKind.i64 (y.2.1+(1:Int)),(y.2.2.1.1,y.2.2.1.2.1,y.2.2.1.2.2.1,()),(y.2.2.2.1.1,y.2.2.2.1.2.1,()),())<Zm231_5 p f l y else Zi231_5 p f l (y.1,IntKind.wrap IntKind.i64 (y.2.1+(1:Int)),(y.2.2.1.1,y.2.2.1.2.1,y.2.2.1.2.2.1,()),(y.2.2.2.1.1,y.2.2.2.1.2.1,()),())∧Zm231_5 p f l (y.1,IntKind.wrap IntKind.i64 (y.2.1+(1:Int)),(y.2.2.1.1,y.2.2.1.2.1,y.2.2.1.2.2.1,()),(y.2.2.2.1.1,y.2.2.2.1.2.1,()),())<Zm231_5 p f l y else Zi231_5 p f l (y.1,IntKind.wrap IntKind.i64 (y.2.1+(1:Int)),(y.2.2.1.1,y.2.2.1.2.1,y.2.2.1.2.2.1,()),(y.2.2.2.1.1,y.2.2.2.1.2.1,()),())∧Zm231_5 p f l (y.1,IntKind.wrap IntKind.i64 (y.2.1+(1:Int)),(y.2.2.1.1,y.2.2.1.2.1,y.2.2.1.2.2.1,()),(y.2.2.2.1.1,y.2.2.2.1.2.1,()),())<Zm231_5 p f l y else bif x2.K==(1:Int) then bif !(bindOf {τ:=Cd.eBind,xs:=y.1:Arr UU}.xs x2.S).2 then(0:Int)≤y.2.1∧x3<y.2.2.2.1.2.1.length∧y.1.length+List.length [{Name:=x2.S,V:=x0:DBind}]≤(4294967296:Nat)∧Zi231_5 p f l (y.1++[{Name:=x2.S,V:=x0:DBind}],IntKind.wrap IntKind.i64 (y.2.1+(1:Int)),(y.2.2.1.1,y.2.2.1.2.1,y.2.2.1.2.2.1,()),(y.2.2.2.1.1,y.2.2.2.1.2.1,()),())∧Zm231_5 p f l (y.1++[{Name:=x2.S,V:=x0:DBind}],IntKind.wrap IntKind.i64 (y.2.1+(1:Int)),(y.2.2.1.1,y.2.2.1.2.1,y.2.2.1.2.2.1,()),(y.2.2.2.1.1,y.2.2.2.1.2.1,()),())<Zm231_5 p f l y else Zi231_5 p f l (y.1,IntKind.wrap IntKind.i64 (y.2.1+(1:Int)),(y.2.2.1.1,y.2.2.1.2.1,y.2.2.1.2.2.1,()),(y.2.2.2.1.1,y.2.2.2.1.2.1,()),())∧Zm231_5 p f l (y.1,IntKind.wrap IntKind.i64 (y.2.1+(1:Int)),(y.2.2.1.1,y.2.2.1.2.1,y.2.2.1.2.2.1,()),(y.2.2.2.1.1,y.2.2.2.1.2.1,()),())<Zm231_5 p f l y else Zi231_5 p f l (y.1,IntKind.wrap IntKind.i64 (y.2.1+(1:Int)),(y.2.2.1.1,y.2.2.1.2.1,y.2.2.1.2.2.1,()),(y.2.2.2.1.1,y.2.2.2.1.2.1,()),())∧Zm231_5 p f l (y.1,IntKind.wrap IntKind.i64 (y.2.1+(1:Int)),(y.2.2.1.1,y.2.2.1.2.1,y.2.2.1.2.2.1,()),(y.2.2.2.1.1,y.2.2.2.1.2.1,()),())<Zm231_5 p f l y else Lf [VL .eBind y.1,VB true] [VL .eBind (Option.getD (matchP p f l) l),VB (Option.isSome (matchP p f l))]) (by kernel_rfl)
 dsimp only
 have hF:matchP p f l=none→Lf [.one (.sl .eBind l),.one (.lit (.bool false))] [.one (.sl .eBind ((matchP p f l).getD l)),.one (.lit (.bool (matchP p f l).isSome))]:=fun e=>by rw[e];exact Lf_rfl _
 refine⟨by show 0+l.length≤_;omega,if_strn (fun hk=>hF (if_neg (fun e=>hk e.1.symm))) (fun hk=>if_neq (fun hl=>hF (if_neg (by omega))) (fun hl=> ?_))⟩
 have hl:f.Fields.length=p.Args.length:=by omega
 have hM:matchP p f l=matchArgs p.Args f.Fields l:=if_pos ⟨hk.symm,hl⟩
 refine⟨⟨rfl,rfl,by omega,by omega,by show((l.length:Nat):Int)≤_;omega,hM.symm⟩,?_⟩
 rintro⟨o,i,⟨b1,b2,b3,⟨⟩⟩,⟨g1,g2,⟨⟩⟩,⟨⟩⟩
 rintro⟨hb,hg,h1,h2,h3,hR⟩
 cases hb
 cases hg
 refine if_dec (fun hc=> ?_) (fun hc=> ?_)
 ·have hc:i<p.Args.length:=hc
  rw[matchArgs_step o h1 hc hl] at hR
  have hN:matchStep o (List.getD p.Args i.toNat zArg) (List.getD f.Fields i.toNat zVal)=none→matchP p f l=none:=fun e=>by rw[←hR,e]
  have hS:∀o',matchStep o (List.getD p.Args i.toNat zArg) (List.getD f.Fields i.toNat zVal)=some o'→matchArgs (p.Args.drop (i+1).toNat) (f.Fields.drop (i+1).toNat) o'=matchP p f l:=fun o' e=>by rw[←hR,e]
  clear hR
  have hs:∀o',o'.length≤o.length+1→matchStep o (List.getD p.Args i.toNat zArg) (List.getD f.Fields i.toNat zVal)=some o'→Zi231_5 p f l (o',IntKind.wrap .i64 (i+1),(p.Kind,p.Args,p.Not,()),(f.Kind,f.Fields,()),())∧Zm231_5 p f l (o',IntKind.wrap .i64 (i+1),(p.Kind,p.Args,p.Not,()),(f.Kind,f.Fields,()),())<Zm231_5 p f l (o,i,(p.Kind,p.Args,p.Not,()),(f.Kind,f.Fields,()),()):=fun o' h4 e=>by
   rw[wrap_i64 (by omega) (by omega)]
   exact⟨⟨rfl,rfl,by omega,by omega,by omega,hS o' e⟩,by simp only[Zm231_5];omega⟩
  clear hS
  have q1:(0:Int)≤i∧i.toNat<p.Args.length:=by omega
  have q2:(0:Int)≤i∧i.toNat<f.Fields.length:=by omega
  have q3:l.length≤4294967296:=by omega
  have q4:o.length+1≤4294967296:=by omega
  have q5:(0:Nat)+l.length≤4294967296:=by omega
  refine⟨q1.1,q1.2,?_⟩
  repeat' (first|refine And.intro q2.1 (And.intro q2.2 ?_)|refine And.intro q5 ?_|refine And.intro q4 ?_|refine if_num (fun _=> ?_) (fun _=> ?_)|refine if_valn (fun _=> ?_) (fun _=> ?_)|refine if_not (fun _=> ?_) (fun _=> ?_)|refine if_cond (fun _=> ?_) (fun _=> ?_))
  all_goals first|exact hF (hN (by(try simp only at*);simp only[matchStep];grind))|exact hs _ (by simp) (by(try simp only at*);simp only[matchStep];grind)
 ·rw[drop_end p.Args (by have hc:¬i<p.Args.length:=hc;omega)] at hR
  have hR:matchP p f l=some o:=hR.symm
  rw[hR];exact Lf_rfl _
def Zh231:HH:=⟨_,Zo231⟩
def Zk235:Con UU where
 α:=DPat×DFact×(List DBind)
 md:=[.ro,.ro,.ro]
 of:=oC (oA .ePat) (oC (oA .eFact) (o1 (oL .eBind)))
 ds:=fun x=>[dA .ePat x.1,dA .eFact x.2.1,dL .eBind x.2.2]
 pre:=fun(p,f,l)=>[l.length+p.Args.length≤4294967295]
 res:=fun(p,f,l)=>⟨[dL .eBind ((matchP p f l).getD l),dO ((matchP p f l).isSome)],true,[]⟩
 law:=lC (lA .ePat) (lC (lA .eFact) (l1 (lL .eBind)))
def Zi235_5(p:DPat)(f:DFact)(l:(List DBind)):List DBind×Int×(ByteArray×List DVal×Unit)×Unit→Prop:=fun(o,i,g,_)=>g=(f.Kind,f.Fields,())∧0≤i∧i≤p.Args.length∧o.length≤l.length+i∧matchArgs (p.Args.drop i.toNat) (f.Fields.drop i.toNat) o=matchP p f l
def Zm235_5(p:DPat)(f:DFact)(l:(List DBind)):List DBind×Int×(ByteArray×List DVal×Unit)×Unit→Nat:=fun(o,i,g,_)=>p.Args.length-i.toNat
def Za235:Zk235.α→Nat→Option (Ann UU):=fun(p,f,l)=>annL [(5,annOf [.slot 8 (8,1024) (.own .eBind true),.slot 35 (35,1024) (.lit (.int .i64)),.box 4 (4,1024) [.lit .str,.shr .eVal]] (fun _=>Zi235_5 p f l) (Zm235_5 p f l))]
def Zu235:=us [Zh278,Zh212]
theorem Zo235:Holds EE (235,Zk235):=by
 refine holds_of EE_ok func235 Zk235 (by kernel_rfl) Zu235 (us_ok _) Za235 (fun x hp hb=> ?_)
 obtain⟨p,f,l⟩:=x
 have hz0:=bd_ePat (x:=p) (hb _ m0)
 have hl_p_Kind:=hz0.1
 have hl_p_Args:=hz0.2
 have hz1:=bd_eFact (x:=f) (hb _ m1)
 have hl_f_Kind:=hz1.1
 have hl_f_Fields:=hz1.2
 have hl_l:l.length≤9223372036854775807:=bdL (hb _ m2)
 have hp0:l.length+p.Args.length≤4294967295:=hp _ m0
 clear hp hb
 apply @ve _ (let x0:Int:=(p.Args.length:Int);bif !ByteArray.toList f.Kind==ByteArray.toList p.Kind then l.length≤(4294967296:Nat)∧Lf [VL .eBind l,VB false] [VL .eBind (Option.getD (matchP p f l) l),VB (Option.isSome (matchP p f l))] else bif (f.Fields.length:Int) !=x0 then l.length≤(4294967296:Nat)∧Lf [VL .eBind l,VB false] [VL .eBind (Option.getD (matchP p f l) l),VB (Option.isSome (matchP p f l))] else l.length≤(4294967296:Nat)∧Zi235_5 p f l (l,(0:Int),(f.Kind,f.Fields,()),())∧∀(y:List DBind×Int×(ByteArray×List DVal×PUnit)×PUnit),let x2:Nat:=y.2.1.toNat;let x3:DVal:=(List.getD p.Args x2 zArg).V;let x1:DVal:=List.getD y.2.2.1.2.1 x2 zVal;let x4:List DBind:=[{Name:=(List.getD p.Args x2 zArg).S,V:=x1:DBind}];Zi235_5 p f l y→bif decide (y.2.1<x0) then(0:Int)≤y.2.1∧x2<p.Args.length∧(0:Int)≤y.2.1∧x2<y.2.2.1.2.1.length∧bif (List.getD p.Args x2 zArg).K==(2:Int) then bif !(x3.K==x1.K&&(x3.N==x1.N&&(ByteArray.toList x3.S==ByteArray.toList x1.S&&true))) then l.length≤(4294967296:Nat)∧Lf [VL .eBind l,VB false] [VL .eBind (Option.getD (matchP p f l) l),VB (Option.isSome (matchP p f l))] else Zi235_5 p f l (y.1,IntKind.wrap IntKind.i64 (y.2.1+(1:Int)),(y.2.2.1.1,y.2.2.1.2.1,()),())∧Zm235_5 p f l (y.1,IntKind.wrap IntKind.i64 (y.2.1+(1:Int)),(y.2.2.1.1,y.2.2.1.2.1,()),())<Zm235_5 p f l y else bif (List.getD p.Args x2 zArg).K==(1:Int) then bif (bindOf {τ:=Cd.eBind,xs:=y.1:Arr UU}.xs (List.getD p.Args x2 zArg).S).2 then bif !((bindOf {τ:=Cd.eBind,xs:=y.1:Arr UU}.xs (List.getD p.Args x2 zArg).S).1.K==x1.K&&((bindOf {τ:=Cd.eBind,xs:=y.1:Arr UU}.xs (List.getD p.Args x2 zArg).S).1.N==x1.N&&(ByteArray.toList (bindOf {τ:=Cd.eBind,xs:=y.1:Arr UU}.xs (List.getD p.Args x2 zArg).S).1.S==ByteArray.toList x1.S&&true))) then l.length≤(4294967296:Nat)∧Lf [VL .eBind l,VB false] [VL .eBind (Option.getD (matchP p f l) l),VB (Option.isSome (matchP p f l))] else bif !(bindOf {τ:=Cd.eBind,xs:=y.1:Arr UU}.xs (List.getD p.Args x2 zArg).S).2 then y.1.length+x4.length≤(4294967296:Nat)∧Zi235_5 p f l (y.1++x4,IntKind.wrap IntKind.i64 (y.2.1+(1:Int)),(y.2.2.1.1,y.2.2.1.2.1,()),())∧Zm235_5 p f l (y.1++x4,IntKind.wrap IntKind.i64 (y.2.1+(1:Int)),(y.2.2.1.1,y.2.2.1.2.1,()),())<Zm235_5 p f l y else Zi235_5 p f l (y.1,IntKind.wrap IntKind.i64 (y.2.1+(1:Int)),(y.2.2.1.1,y.2.2.1.2.1,()),())∧Zm235_5 p f l (y.1,IntKind.wrap IntKind.i64 (y.2.1+(1:Int)),(y.2.2.1.1,y.2.2.1.2.1,()),())<Zm235_5 p f l y else bif !(bindOf {τ:=Cd.eBind,xs:=y.1:Arr UU}.xs (List.getD p.Args x2 zArg).S).2 then y.1.length+x4.length≤(4294967296:Nat)∧Zi235_5 p f l (y.1++x4,IntKind.wrap IntKind.i64 (y.2.1+(1:Int)),(y.2.2.1.1,y.2.2.1.2.1,()),())∧Zm235_5 p f l (y.1++x4,IntKind.wrap IntKind.i64 (y.2.1+(1:Int)),(y.2.2.1.1,y.2.2.1.2.1,()),())<Zm235_5 p f l y else Zi235_5 p f l (y.1,IntKind.wrap IntKind.i64 (y.2.1+(1:Int)),(y.2.2.1.1,y.2.2.1.2.1,()),())∧Zm235_5 p f l (y.1,IntKind.wrap IntKind.i64 (y.2.1+(1:Int)),(y.2.2.1.1,y.2.2.1.2.1,()),())<Zm235_5 p f l y else Zi235_5 p f l (y.1,IntKind.wrap IntKind.i64 (y.2.1+(1:Int)),(y.2.2.1.1,y.2.2.1.2.1,()),())∧Zm235_5 p f l (y.1,IntKind.wrap IntKind.i64 (y.2.1+(1:Int)),(y.2.2.1.1,y.2.2.1.2.1,()),())<Zm235_5 p f l y else Lf [VL .eBind y.1,VB true] [VL .eBind (Option.getD (matchP p f l) l),VB (Option.isSome (matchP p f l))]) (by kernel_rfl)
 dsimp only
 have hF:matchP p f l=none→Lf [.one (.sl .eBind l),.one (.lit (.bool false))] [.one (.sl .eBind ((matchP p f l).getD l)),.one (.lit (.bool (matchP p f l).isSome))]:=fun e=>by rw[e];exact Lf_rfl _
 simp only[val_beq]
 simp only[toList_beq]
 refine if_not (fun hk=>⟨by omega,hF (if_neg (fun e=>(of_decide_eq_false hk) e.1))⟩) (fun hk=>if_neq (fun hl=>⟨by omega,hF (if_neg (by omega))⟩) (fun hl=>⟨by omega,?_⟩))
 have hk:=of_decide_eq_true hk
 have hl:f.Fields.length=p.Args.length:=by omega
 have hM:matchP p f l=matchArgs p.Args f.Fields l:=if_pos ⟨hk,hl⟩
 refine⟨⟨rfl,by omega,by omega,by omega,hM.symm⟩,?_⟩
 rintro⟨o,i,⟨g1,g2,⟨⟩⟩,⟨⟩⟩ ⟨hg,h1,h2,h3,hR⟩
 cases hg
 simp only
 refine if_dec (fun hc=> ?_) (fun hc=> ?_)
 ·rw[matchArgs_step o h1 hc hl] at hR
  have hN:matchStep o (List.getD p.Args i.toNat zArg) (List.getD f.Fields i.toNat zVal)=none→matchP p f l=none:=fun e=>by rw[←hR,e]
  have hS:∀o',matchStep o (List.getD p.Args i.toNat zArg) (List.getD f.Fields i.toNat zVal)=some o'→matchArgs (p.Args.drop (i+1).toNat) (f.Fields.drop (i+1).toNat) o'=matchP p f l:=fun o' e=>by rw[←hR,e]
  clear hR
  generalize List.getD p.Args i.toNat zArg=a at*
  generalize List.getD f.Fields i.toNat zVal=v at*
  rw[wrap_i64 (by omega) (by omega)]
  simp only[zbq,zbo]
  have hs:∀o',o'.length≤o.length+1→matchStep o a v=some o'→Zi235_5 p f l (o',i+1,(f.Kind,f.Fields,()),())∧Zm235_5 p f l (o',i+1,(f.Kind,f.Fields,()),())<Zm235_5 p f l (o,i,(f.Kind,f.Fields,()),()):=fun o' h4 e=>⟨⟨rfl,by omega,by omega,by omega,hS o' e⟩,by simp only[Zm235_5];omega⟩
  clear hS
  refine⟨by omega,by omega,by omega,by omega,?_⟩
  repeat' (first|refine And.intro (by omega) ?_|refine if_num (fun _=> ?_) (fun _=> ?_)|refine if_not (fun _=> ?_) (fun _=> ?_)|refine if_cond (fun _=> ?_) (fun _=> ?_))
  all_goals first|exact hF (hN (by simp only[matchStep];grind))|exact hs _ (by simp) (by simp only[matchStep];grind)
 ·rw[drop_end p.Args (by omega)] at hR
  have hR:matchP p f l=some o:=hR.symm
  rw[hR];exact Lf_rfl _
def Zh235:HH:=⟨_,Zo235⟩
def Zk276:Con UU where
 α:=DPat×DStore×(List DBind)
 md:=[.ro,.ro,.ro]
 of:=oC (oA .ePat) (oC (oA .eStore) (o1 (oL .eBind)))
 ds:=fun x=>[dA .ePat x.1,dA .eStore x.2.1,dL .eBind x.2.2]
 pre:=fun(p,s,l)=>[l.length+p.Args.length≤4294967295]
 res:=fun(p,s,l)=>⟨[dI (hits p s.Items l:Int)],true,[]⟩
 law:=lC (lA .ePat) (lC (lA .eStore) (l1 (lL .eBind)))
def Zi276_3(p:DPat)(s:DStore)(l:(List DBind)):Int×Int×(ByteArray×List DArg×Bool×Unit)×Unit→Prop:=fun(n,i,b,_)=>b=(p.Kind,p.Args,p.Not,())∧0≤i∧i≤s.Items.length∧n=hits p (s.Items.take i.toNat) l
def Zm276_3(p:DPat)(s:DStore)(l:(List DBind)):Int×Int×(ByteArray×List DArg×Bool×Unit)×Unit→Nat:=fun(n,i,b,_)=>s.Items.length-i.toNat
def Za276:Zk276.α→Nat→Option (Ann UU):=fun(p,s,l)=>annL [(3,annOf [.slot 7 (7,1024) (.lit (.int .i64)),.slot 15 (15,1024) (.lit (.int .i64)),.box 3 (3,1024) [.lit .str,.shr .eArg,.lit .bool]] (fun _=>Zi276_3 p s l) (Zm276_3 p s l))]
def Zu276:=us [Zh235]
theorem Zo276:Holds EE (276,Zk276):=by
 refine holds_of EE_ok func276 Zk276 (by kernel_rfl) Zu276 (us_ok _) Za276 (fun x hp hb=> ?_)
 obtain⟨p,s,l⟩:=x
 have hz0:=bd_ePat (x:=p) (hb _ m0)
 have hl_p_Kind:=hz0.1
 have hl_p_Args:=hz0.2
 have hl_s_Items:=bd_eStore (x:=s) (hb _ m1)
 have hl_l:l.length≤9223372036854775807:=bdL (hb _ m2)
 have hp0:l.length+p.Args.length≤4294967295:=hp _ m0
 clear hp hb
 apply @ve _ (Zi276_3 p s l ((0:Int),(0:Int),(p.Kind,p.Args,p.Not,()),())∧∀(y:Int×Int×(ByteArray×List DArg×Bool×PUnit)×PUnit),let x0:Nat:=y.2.1.toNat;Zi276_3 p s l y→bif decide (y.2.1<(s.Items.length:Int)) then(0:Int)≤y.2.1∧x0<s.Items.length∧l.length+y.2.2.1.2.1.length≤(4294967295:Nat)∧bif Option.isSome (matchP {Kind:=y.2.2.1.1,Args:=y.2.2.1.2.1,Not:=y.2.2.1.2.2.1:DPat} (List.getD s.Items x0 zItem).F l) then Zi276_3 p s l (IntKind.wrap IntKind.i64 (y.1+(1:Int)),IntKind.wrap IntKind.i64 (y.2.1+(1:Int)),(y.2.2.1.1,y.2.2.1.2.1,y.2.2.1.2.2.1,()),())∧Zm276_3 p s l (IntKind.wrap IntKind.i64 (y.1+(1:Int)),IntKind.wrap IntKind.i64 (y.2.1+(1:Int)),(y.2.2.1.1,y.2.2.1.2.1,y.2.2.1.2.2.1,()),())<Zm276_3 p s l y else Zi276_3 p s l (y.1,IntKind.wrap IntKind.i64 (y.2.1+(1:Int)),(y.2.2.1.1,y.2.2.1.2.1,y.2.2.1.2.2.1,()),())∧Zm276_3 p s l (y.1,IntKind.wrap IntKind.i64 (y.2.1+(1:Int)),(y.2.2.1.1,y.2.2.1.2.1,y.2.2.1.2.2.1,()),())<Zm276_3 p s l y else Li y.1 (↑(hits p s.Items l):Int)) (by kernel_rfl)
 dsimp only
 refine⟨⟨rfl,by omega,by omega,rfl⟩,?_⟩
 rintro⟨n,i,⟨b1,b2,b3,⟨⟩⟩,⟨⟩⟩ ⟨hb,h1,h2,rfl⟩
 cases hb
 simp only
 refine if_dec (fun hc=> ?_) (fun hc=> ?_)
 ·have hs:=hits_step p s.Items l h1 hc
  have hle:=hits_le p s.Items l i.toNat
  rw[wrap_i64 (n:=i+1) (by omega) (by omega),wrap_i64 (n:=(hits p (s.Items.take i.toNat) l:Int)+1) (by omega) (by omega)]
  refine⟨by omega,by omega,hp0,if_cond (fun g=>⟨⟨rfl,by omega,by omega,?_⟩,by simp only[Zm276_3];omega⟩) (fun g=>⟨⟨rfl,by omega,by omega,?_⟩,by simp only[Zm276_3];omega⟩)⟩
  ·rw[hs,if_pos (show hitP p l (List.getD s.Items i.toNat zItem)=true from g)];omega
  ·rw[hs,if_neg (show¬hitP p l (List.getD s.Items i.toNat zItem)=true by rw[show hitP p l (List.getD s.Items i.toNat zItem)=false from g];decide)];omega
 ·rw[take_all s.Items (by omega)]
  exact Lf_rfl _
def Zh276:HH:=⟨_,Zo276⟩
def Zk233:Con UU where
 α:=DRule×DStore×(List DBind)
 md:=[.ro,.ro,.ro]
 of:=oC (oA .eRule) (oC (oA .eStore) (o1 (oL .eBind)))
 ds:=fun x=>[dA .eRule x.1,dA .eStore x.2.1,dL .eBind x.2.2]
 pre:=fun(r,s,l)=>[∀p,p∈r.Pats→l.length+p.Args.length≤4294967295]
 res:=fun(r,s,l)=>⟨[dO (blockedR r s.Items l)],true,[]⟩
 law:=lC (lA .eRule) (lC (lA .eStore) (l1 (lL .eBind)))
def Zi233_2(r:DRule)(s:DStore)(l:(List DBind)):Int×(List DItem×Int×Unit)×Unit→Prop:=fun(i,g,_)=>g=(s.Items,s.Next,())∧0≤i∧i≤r.Pats.length∧(r.Pats.drop i.toNat).any (blockP s.Items l)=blockedR r s.Items l
def Zm233_2(r:DRule)(s:DStore)(l:(List DBind)):Int×(List DItem×Int×Unit)×Unit→Nat:=fun(i,g,_)=>r.Pats.length-i.toNat
def Za233:Zk233.α→Nat→Option (Ann UU):=fun(r,s,l)=>annL [(2,annOf [.slot 12 (12,1024) (.lit (.int .i64)),.box 4 (4,1024) [.shr .eItem,.lit (.int .i64)]] (fun _=>Zi233_2 r s l) (Zm233_2 r s l))]
def Zu233:=us [Zh276]
theorem Zo233:Holds EE (233,Zk233):=by
 refine holds_of EE_ok func233 Zk233 (by kernel_rfl) Zu233 (us_ok _) Za233 (fun x hp hb=> ?_)
 obtain⟨r,s,l⟩:=x
 have hz0:=bd_eRule (x:=r) (hb _ m0)
 have hl_r_Name:=hz0.1
 have hl_r_Pats:=hz0.2.1
 have hl_r_Conds:=hz0.2.2.1
 have hl_r_Acts:=hz0.2.2.2
 have hl_s_Items:=bd_eStore (x:=s) (hb _ m1)
 have hl_l:l.length≤9223372036854775807:=bdL (hb _ m2)
 have hp0:∀p,p∈r.Pats→l.length+p.Args.length≤4294967295:=hp _ m0
 clear hp hb
 apply @ve _ (Zi233_2 r s l ((0:Int),(s.Items,s.Next,()),())∧∀(y:Int×(List DItem×Int×PUnit)×PUnit),let x1:DPat:=List.getD r.Pats y.1.toNat zPat;let x0:Int:=(↑(hits x1 y.2.1.1 l):Int);Zi233_2 r s l y→bif decide (y.1<(r.Pats.length:Int)) then(0:Int)≤y.1∧y.1.toNat<r.Pats.length∧bif x1.Not then l.length+x1.Args.length≤(4294967295:Nat)∧bif decide (x0>(0:Int)) then Lb true (blockedR r s.Items l) else Zi233_2 r s l (IntKind.wrap IntKind.i64 (y.1+(1:Int)),(y.2.1.1,y.2.1.2.1,()),())∧Zm233_2 r s l (IntKind.wrap IntKind.i64 (y.1+(1:Int)),(y.2.1.1,y.2.1.2.1,()),())<Zm233_2 r s l y else Zi233_2 r s l (IntKind.wrap IntKind.i64 (y.1+(1:Int)),(y.2.1.1,y.2.1.2.1,()),())∧Zm233_2 r s l (IntKind.wrap IntKind.i64 (y.1+(1:Int)),(y.2.1.1,y.2.1.2.1,()),())<Zm233_2 r s l y else Lb false (blockedR r s.Items l)) (by kernel_rfl)
 dsimp only
 refine⟨⟨rfl,by omega,by omega,rfl⟩,?_⟩
 rintro⟨i,⟨g1,g2,⟨⟩⟩,⟨⟩⟩ ⟨hg,h1,h2,hR⟩
 cases hg
 simp only
 refine if_dec (fun hc=> ?_) (fun hc=> ?_)
 ·rw[any_step _ _ zPat h1 hc] at hR
  have hm:List.getD r.Pats i.toNat zPat∈r.Pats:=by rw[zac,zad (by omega)];exact zda _
  have hp:=hp0 _ hm
  have hh:=hits_any (List.getD r.Pats i.toNat zPat) s.Items l
  rw[wrap_i64 (by omega) (by omega)]
  have next:blockP s.Items l (List.getD r.Pats i.toNat zPat)=false→Zi233_2 r s l (i+1,(s.Items,s.Next,()),())∧Zm233_2 r s l (i+1,(s.Items,s.Next,()),())<Zm233_2 r s l (i,(s.Items,s.Next,()),()):=fun e=>⟨⟨rfl,by omega,by omega,by rw[←hR,e,zcw]⟩,by simp only[Zm233_2];omega⟩
  refine⟨by omega,by omega,if_cond (fun g=>⟨hp,if_cond (fun g'=>Lf_tt ?_) (fun g'=>next ?_)⟩) (fun g=>next ?_)⟩
  ·have g':s.Items.any (hitP (List.getD r.Pats i.toNat zPat) l)=true:=hh.symm.trans g'
   rw[←hR,blockP,g,g'];rfl
  ·have g':s.Items.any (hitP (List.getD r.Pats i.toNat zPat) l)=false:=hh.symm.trans g'
   rw[blockP,g'];exact zbs _
  ·rw[blockP,g];rfl
 ·rw[drop_end _ (by omega)] at hR
  exact Lf_ff hR.symm
def Zh233:HH:=⟨_,Zo233⟩
def Zk229:Con UU where
 α:=DRule×DStore×(List DBind)
 md:=[.ro,.ro,.ro]
 of:=oC (oA .eRule) (oC (oA .eStore) (o1 (oL .eBind)))
 ds:=fun x=>[dA .eRule x.1,dA .eStore x.2.1,dL .eBind x.2.2]
 pre:=fun(r,s,l)=>[∀p,p∈r.Pats→l.length+p.Args.length≤4294967295]
 res:=fun(r,s,l)=>⟨[dO (blockedR r s.Items l)],true,[]⟩
 law:=lC (lA .eRule) (lC (lA .eStore) (l1 (lL .eBind)))
def Zi229_2(r:DRule)(s:DStore)(l:(List DBind)):Int×(ByteArray×Int×List DPat×List DCond×List DAct×Unit)×(List DItem×Int×Unit)×Unit→Prop:=fun(i,b,g,_)=>b=(r.Name,r.Sal,r.Pats,r.Conds,r.Acts,())∧g=(s.Items,s.Next,())∧0≤i∧i≤r.Pats.length∧(r.Pats.drop i.toNat).any (blockP s.Items l)=blockedR r s.Items l
def Zm229_2(r:DRule)(s:DStore)(l:(List DBind)):Int×(ByteArray×Int×List DPat×List DCond×List DAct×Unit)×(List DItem×Int×Unit)×Unit→Nat:=fun(i,b,g,_)=>r.Pats.length-i.toNat
def Zi229_5(r:DRule)(s:DStore)(l:(List DBind)):Int×Int×(ByteArray×Int×List DPat×List DCond×List DAct×Unit)×(List DItem×Int×Unit)×Unit→Int×Int×(ByteArray×Int×List DPat×List DCond×List DAct×Unit)×(List DItem×Int×Unit)×Unit→Prop:=fun(i0,k0,b0,g0,_) (i,k,b,g,_)=>i=i0∧b=b0∧g=g0∧0≤k∧k≤s.Items.length∧((List.getD r.Pats i.toNat zPat).Not=false→k=0)∧(s.Items.drop k.toNat).any (hitP (List.getD r.Pats i.toNat zPat) l)=s.Items.any (hitP (List.getD r.Pats i.toNat zPat) l)
def Zm229_5(r:DRule)(s:DStore)(l:(List DBind)):Int×Int×(ByteArray×Int×List DPat×List DCond×List DAct×Unit)×(List DItem×Int×Unit)×Unit→Nat:=fun(i,k,b,g,_)=>s.Items.length-k.toNat
def Za229:Zk229.α→Nat→Option (Ann UU):=fun(r,s,l)=>annL [(2,annOf [.slot 7 (7,1024) (.lit (.int .i64)),.box 3 (3,1024) [.lit .str,.lit (.int .i64),.shr .ePat,.shr .eCond,.shr .eAct],.box 4 (4,1024) [.shr .eItem,.lit (.int .i64)]] (fun _=>Zi229_2 r s l) (Zm229_2 r s l)),(5,annOf [.slot 7 (7,1024) (.lit (.int .i64)),.slot 8 (8,1024) (.lit (.int .i64)),.box 3 (3,1024) [.lit .str,.lit (.int .i64),.shr .ePat,.shr .eCond,.shr .eAct],.box 4 (4,1024) [.shr .eItem,.lit (.int .i64)]] (Zi229_5 r s l) (Zm229_5 r s l))]
def Zu229:=us [Zh231]
theorem Zo229:Holds EE (229,Zk229):=by
 refine holds_of EE_ok func229 Zk229 (by kernel_rfl) Zu229 (us_ok _) Za229 (fun x hp hb=> ?_)
 obtain⟨r,s,l⟩:=x
 have hz0:=bd_eRule (x:=r) (hb _ m0)
 have hl_r_Name:=hz0.1
 have hl_r_Pats:=hz0.2.1
 have hl_r_Conds:=hz0.2.2.1
 have hl_r_Acts:=hz0.2.2.2
 have hl_s_Items:=bd_eStore (x:=s) (hb _ m1)
 have hl_l:l.length≤9223372036854775807:=bdL (hb _ m2)
 have hp0:∀p,p∈r.Pats→l.length+p.Args.length≤4294967295:=hp _ m0
 clear hp hb
 apply @ve _ (Zi229_2 r s l ((0:Int),(r.Name,r.Sal,r.Pats,r.Conds,r.Acts,()),(s.Items,s.Next,()),())∧∀(y:Int×(ByteArray×Int×List DPat×List DCond×List DAct×PUnit)×(List DItem×Int×PUnit)×PUnit),let x0:Int:=(y.2.1.2.2.1.length:Int);Zi229_2 r s l y→bif decide (y.1<x0) then Zi229_5 r s l (y.1,(0:Int),(y.2.1.1,y.2.1.2.1,y.2.1.2.2.1,y.2.1.2.2.2.1,y.2.1.2.2.2.2.1,()),(y.2.2.1.1,y.2.2.1.2.1,()),()) (y.1,(0:Int),(y.2.1.1,y.2.1.2.1,y.2.1.2.2.1,y.2.1.2.2.2.1,y.2.1.2.2.2.2.1,()),(y.2.2.1.1,y.2.2.1.2.1,()),())∧∀(y_1:Int×Int×(ByteArray×Int×List DPat×List DCond×List DAct×PUnit)×(List DItem×Int×PUnit)×PUnit),let x1:DPat:=List.getD y_1.2.2.1.2.2.1 y_1.1.toNat zPat;let x3:Nat:=y_1.2.2.2.1.1.length;let x4:Nat:=y_1.2.1.toNat;let x2:Int:=(↑x3:Int);Zi229_5 r s l (y.1,(0:Int),(y.2.1.1,y.2.1.2.1,y.2.1.2.2.1,y.2.1.2.2.2.1,y.2.1.2.2.2.2.1,()),(y.2.2.1.1,y.2.2.1.2.1,()),()) y_1→bif decide (y_1.2.1<x2) then(0:Int)≤y_1.1∧y_1.1.toNat<y_1.2.2.1.2.2.1.length∧bif x1.Not then(0:Int)≤y_1.1∧y_1.1.toNat<y_1.2.2.1.2.2.1.length∧(0:Int)≤y_1.2.1∧x4<x3∧l.length+x1.Args.length≤(4294967295:Nat)∧bif Option.isSome (matchP x1 (List.getD y_1.2.2.2.1.1 x4 zItem).F l) then Lb true (blockedR r s.Items l) else Zi229_5 r s l (y.1,(0:Int),(y.2.1.1,y.2.1.2.1,y.2.1.2.2.1,y.2.1.2.2.2.1,y.2.1.2.2.2.2.1,()),(y.2.2.1.1,y.2.2.1.2.1,()),()) (y_1.1,IntKind.wrap IntKind.i64 (y_1.2.1+(1:Int)),(y_1.2.2.1.1,y_1.2.2.1.2.1,y_1.2.2.1.2.2.1,y_1.2.2.1.2.2.2.1,y_1.2.2.1.2.2.2.2.1,()),(y_1.2.2.2.1.1,y_1.2.2.2.1.2.1,()),())∧Zm229_5 r s l (y_1.1,IntKind.wrap IntKind.i64 (y_1.2.1+(1:Int)),(y_1.2.2.1.1,y_1.2.2.1.2.1,y_1.2.2.1.2.2.1,y_1.2.2.1.2.2.2.1,y_1.2.2.1.2.2.2.2.1,()),(y_1.2.2.2.1.1,y_1.2.2.2.1.2.1,()),())<Zm229_5 r s l y_1 else Zi229_2 r s l (IntKind.wrap IntKind.i64 (y_1.1+(1:Int)),(y_1.2.2.1.1,y_1.2.2.1.2.1,y_1.2.2.1.2.2.1,y_1.2.2.1.2.2.2.1,y_1.2.2.1.2.2.2.2.1,()),(y_1.2.2.2.1.1,y_1.2.2.2.1.2.1,()),())∧Zm229_2 r s l (IntKind.wrap IntKind.i64 (y_1.1+(1:Int)),(y_1.2.2.1.1,y_1.2.2.1.2.1,y_1.2.2.1.2.2.1,y_1.2.2.1.2.2.2.1,y_1.2.2.1.2.2.2.2.1,()),(y_1.2.2.2.1.1,y_1.2.2.2.1.2.1,()),())<Zm229_2 r s l y else Zi229_2 r s l (IntKind.wrap IntKind.i64 (y_1.1+(1:Int)),(y_1.2.2.1.1,y_1.2.2.1.2.1,y_1.2.2.1.2.2.1,y_1.2.2.1.2.2.2.1,y_1.2.2.1.2.2.2.2.1,()),(y_1.2.2.2.1.1,y_1.2.2.2.1.2.1,()),())∧Zm229_2 r s l (IntKind.wrap IntKind.i64 (y_1.1+(1:Int)),(y_1.2.2.1.1,y_1.2.2.1.2.1,y_1.2.2.1.2.2.1,y_1.2.2.1.2.2.2.1,y_1.2.2.1.2.2.2.2.1,()),(y_1.2.2.2.1.1,y_1.2.2.2.1.2.1,()),())<Zm229_2 r s l y else Lb false (blockedR r s.Items l)) (by kernel_rfl)
 dsimp only
 refine⟨⟨rfl,rfl,by omega,by omega,rfl⟩,?_⟩
 rintro⟨i,⟨b1,b2,b3,b4,b5,⟨⟩⟩,⟨g1,g2,⟨⟩⟩,⟨⟩⟩ ⟨hb,hg,h1,h2,hR⟩
 cases hb
 cases hg
 simp only
 refine if_dec (fun hc=> ?_) (fun hc=> ?_)
 ·rw[any_step _ _ zPat h1 hc] at hR
  have hm:List.getD r.Pats i.toNat zPat∈r.Pats:=by rw[zac,zad (by omega)];exact zda _
  have hp:=hp0 _ hm
  refine⟨⟨rfl,rfl,rfl,by omega,by omega,fun _=>rfl,rfl⟩,?_⟩
  rintro⟨i',k,⟨b1,b2,b3,b4,b5,⟨⟩⟩,⟨g1,g2,⟨⟩⟩,⟨⟩⟩ ⟨rfl,hb,hg,k1,k2,k3,kR⟩
  cases hb
  cases hg
  simp only
  have next:blockP s.Items l (List.getD r.Pats i'.toNat zPat)=false→Zi229_2 r s l (IntKind.wrap IntKind.i64 (i'+1),(r.Name,r.Sal,r.Pats,r.Conds,r.Acts,()),(s.Items,s.Next,()),())∧Zm229_2 r s l (IntKind.wrap IntKind.i64 (i'+1),(r.Name,r.Sal,r.Pats,r.Conds,r.Acts,()),(s.Items,s.Next,()),())<Zm229_2 r s l (i',(r.Name,r.Sal,r.Pats,r.Conds,r.Acts,()),(s.Items,s.Next,()),()):=fun e=>by
   rw[wrap_i64 (by omega) (by omega)]
   exact⟨⟨rfl,rfl,by omega,by omega,by rw[←hR,e,zcw]⟩,by simp only[Zm229_2];omega⟩
  refine if_dec (fun hk=>⟨by omega,by omega,if_cond (fun g=>⟨by omega,by omega,by omega,by omega,hp,if_cond (fun g'=>Lf_tt ?_) (fun g'=> ?_)⟩) (fun g=>next (by rw[blockP,g];rfl))⟩) (fun hk=>next ?_)
  ·rw[any_step _ _ zItem k1 hk,show hitP (List.getD r.Pats i'.toNat zPat) l (List.getD s.Items k.toNat zItem)=true from g'] at kR
   rw[←hR,blockP,g,←kR];rfl
  ·rw[any_step _ _ zItem k1 hk,show hitP (List.getD r.Pats i'.toNat zPat) l (List.getD s.Items k.toNat zItem)=false from g',zcw] at kR
   rw[wrap_i64 (n:=k+1) (by omega) (by omega)]
   exact⟨⟨rfl,rfl,rfl,by omega,by omega,fun e=>absurd g (by rw[e];decide),kR⟩,by simp only[Zm229_5];omega⟩
  ·rw[drop_end _ (by omega)] at kR
   rw[blockP,←kR];exact zbs _
 ·rw[drop_end _ (by omega)] at hR
  exact Lf_ff hR.symm
def Zh229:HH:=⟨_,Zo229⟩
def Zk232:Con UU where
 α:=DRule×Bool
 md:=[.ro,.ro]
 of:=oC (oA .eRule) (o1 oO)
 ds:=fun x=>[dA .eRule x.1,dO x.2]
 pre:=fun(r,not)=>[r.Pats.length≤4294967295]
 res:=fun(r,not)=>⟨[dL .ePat (patsR r not)],false,[]⟩
 law:=lC (lA .eRule) (l1 lO)
def Zi232_3(r:DRule)(not:Bool):List DPat×Int×Unit→Prop:=fun(o,i,_)=>0≤i∧i≤r.Pats.length∧o=(r.Pats.take i.toNat).filter (fun p=>p.Not==not)
def Zm232_3(r:DRule)(not:Bool):List DPat×Int×Unit→Nat:=fun(o,i,_)=>r.Pats.length-i.toNat
def Za232:Zk232.α→Nat→Option (Ann UU):=fun(r,not)=>annL [(3,annOf [.slot 5 (5,1024) (.own .ePat false),.slot 11 (11,1024) (.lit (.int .i64))] (fun _=>Zi232_3 r not) (Zm232_3 r not))]
def Zu232:List (FuncId×Con UU):=[]
theorem Zo232:Holds EE (232,Zk232):=by
 refine holds_of EE_ok func232 Zk232 (by kernel_rfl) Zu232 all_nil Za232 (fun x hp hb=> ?_)
 obtain⟨r,not⟩:=x
 have hz0:=bd_eRule (x:=r) (hb _ m0)
 have hl_r_Name:=hz0.1
 have hl_r_Pats:=hz0.2.1
 have hl_r_Conds:=hz0.2.2.1
 have hl_r_Acts:=hz0.2.2.2
 have hp0:r.Pats.length≤4294967295:=hp _ m0
 clear hp hb
 apply @ve _ (Zi232_3 r not ([],(0:Int),())∧∀(y:List DPat×Int×PUnit),let x2:Nat:=y.2.1.toNat;let x1:DPat:=List.getD r.Pats x2 zPat;let x0:List DPat:=[x1];Zi232_3 r not y→bif decide (y.2.1<(r.Pats.length:Int)) then(0:Int)≤y.2.1∧x2<r.Pats.length∧bif x1.Not==not then y.1.length+x0.length≤(4294967296:Nat)∧Zi232_3 r not (y.1++x0,IntKind.wrap IntKind.i64 (y.2.1+(1:Int)),())∧Zm232_3 r not (y.1++x0,IntKind.wrap IntKind.i64 (y.2.1+(1:Int)),())<Zm232_3 r not y else Zi232_3 r not (y.1,IntKind.wrap IntKind.i64 (y.2.1+(1:Int)),())∧Zm232_3 r not (y.1,IntKind.wrap IntKind.i64 (y.2.1+(1:Int)),())<Zm232_3 r not y else Lf [VL .ePat y.1] [VL .ePat (patsR r not)]) (by kernel_rfl)
 dsimp only
 refine⟨⟨by omega,by omega,by simp⟩,?_⟩
 rintro⟨o,i,⟨⟩⟩ ⟨h1,h2,rfl⟩
 simp only
 refine if_dec (fun hc=> ?_) (fun hc=> ?_)
 ·have hs:=filterStep (fun p:DPat=>p.Not==not) (l:=r.Pats) (i:=i.toNat) zPat (by omega)
  have hle:((r.Pats.take i.toNat).filter fun p:DPat=>p.Not==not).length≤(r.Pats.take i.toNat).length:=zdt _ _
  rw[zaw] at hle
  have e:(i+1).toNat=i.toNat+1:=by omega
  rw[wrap_i64 (by omega) (by omega)]
  refine⟨by omega,by omega,if_cond (fun g=>⟨by simp only[zbq,zbo];omega,⟨by omega,by omega,?_⟩,by simp only[Zm232_3];omega⟩) (fun g=>⟨⟨by omega,by omega,?_⟩,by simp only[Zm232_3];omega⟩)⟩
  ·rw[e,hs,if_pos g]
  ·rw[e,hs,if_neg (by rw[g];decide),zch]
 ·rw[take_all r.Pats (by omega)]
  exact Lf_rfl _
def Zh232:HH:=⟨_,Zo232⟩
def posR(r:DRule):List DPat:=r.Pats.filter fun p=> !p.Not
def rowsR(r:DRule)(s:List DItem):List DPat→List Int→List DBind→List DMatch
 |[],ids,l=>if(!blockedR r s l&&holdAll r.Conds l)=true then[⟨0,ids,l⟩] else[]
 |p::ps,ids,l=>s.flatMap fun x=>match matchP p x.F l with|some more=>rowsR r s ps (ids++[x.Id]) more|none=>[]
def rowsAt(r:DRule)(s:List DItem)(ids:List Int)(l:List DBind):List DMatch:=rowsR r s ((posR r).drop ids.length) ids l
def rowsI(r:DRule)(s:List DItem)(ids:List Int)(l:List DBind)(x:DItem):List DMatch:=match matchP (List.getD (posR r) ids.length zPat) x.F l with|some more=>rowsAt r s (ids++[x.Id]) more|none=>[]
theorem rowsAt_end{r:DRule}(s:List DItem){ids:List Int}(l:List DBind)(h:ids.length=posN r.Pats):rowsAt r s ids l=if(!blockedR r s l&&holdAll r.Conds l)=true then[⟨0,ids,l⟩] else[]:=by
 have e:(posR r).drop ids.length=[]:=List.drop_eq_nil_of_le (by rw[h];exact zca _)
 simp only[rowsAt,e,rowsR]
theorem rowsAt_step{r:DRule}(s:List DItem){ids:List Int}(l:List DBind)(h:ids.length<posN r.Pats):rowsAt r s ids l=s.flatMap (rowsI r s ids l):=by
 have h:ids.length<(posR r).length:=h
 have e:(posR r).drop ids.length=List.getD (posR r) ids.length zPat::(posR r).drop (ids.length+1):=by
  rw[zel h,zac,zad h];rfl
 simp only[rowsAt,e,rowsR]
 congr 1
 funext x
 simp only[rowsI,rowsAt,zce,zbq,zbo,zbw]
theorem flatStep{α β:Type}(q:α→List β)(l:List α)(z:α){i:Int}(h0:0≤i)(h:i<l.length):(l.take (i+1).toNat).flatMap q=(l.take i.toNat).flatMap q++q (List.getD l i.toNat z):=by
 rw[←take_step l z h0 h,zep];simp
theorem flat_le{α β:Type}(q:α→List β)(l:List α)(n:Nat):((l.take n).flatMap q).length≤(l.flatMap q).length:=by
 conv=>rhs;rw[←zcq n l,zep,zce]
 exact Nat.le_add_right _ _
theorem flat_len{α β:Type}(q:α→List β)(c:Nat):∀(l:List α),(∀x,x∈l→(q x).length≤c)→(l.flatMap q).length≤l.length*c
 |[],_=>by simp
 |x::l,h=>by
  have h1:=h x (by simp)
  have h2:=flat_len q c l (fun y hy=>h y (by simp[hy]))
  rw[zbm,zce,zbq,Nat.succ_mul];omega
theorem rowsR_len(r:DRule)(s:List DItem):∀(ps:List DPat)(ids:List Int)(l:List DBind),(rowsR r s ps ids l).length≤s.length^ps.length
 |[],ids,l=>by simp only[rowsR];split<;>simp
 |p::ps,ids,l=>by
  simp only[rowsR,zbq,Nat.pow_succ]
  rw[zec]
  refine flat_len _ _ _ (fun x _=> ?_)
  split
  ·exact rowsR_len r s ps _ _
  ·simp
structure rowsOk(r:DRule)(s:List DItem)(n:Nat)(ids:List Int)(l:List DBind):Prop where
 le:ids.length≤posN r.Pats
 three:posN r.Pats≤3
 pats:r.Pats.length≤6
 args:∀p,p∈r.Pats→p.Args.length≤5
 items:s.length≤40
 binds:l.length≤5*ids.length
 room:n+(rowsAt r s ids l).length≤4294967295
theorem posR_mem{r:DRule}{k:Nat}(h:k<posN r.Pats):List.getD (posR r) k zPat∈r.Pats:=by
 have h:k<(posR r).length:=h
 rw[zac,zad h]
 exact(zcg.1 (zda h)).1
theorem rowsOk_step{r:DRule}{s:List DItem}{n:Nat}{ids:List Int}{l more:List DBind}{i:Int}(h:rowsOk r s n ids l)(hk:ids.length<posN r.Pats)(h0:0≤i)(hi:i<s.length)(hm:matchP (List.getD (posR r) ids.length zPat) (List.getD s i.toNat zItem).F l=some more):rowsOk r s (n+((s.take i.toNat).flatMap (rowsI r s ids l)).length) (ids++[(List.getD s i.toNat zItem).Id]) more where
 le:=by rw[zce];simp only[zbq,zbo];omega
 three:=h.three
 pats:=h.pats
 args:=h.args
 items:=h.items
 binds:=by
  have h1:=matchP_len hm
  have h2:=h.args _ (posR_mem hk)
  have h3:=h.binds
  rw[zce];simp only[zbq,zbo];omega
 room:=by
  have h1:=h.room
  rw[rowsAt_step s l hk] at h1
  have h2:=flat_le (rowsI r s ids l) s (i+1).toNat
  rw[flatStep _ s zItem h0 hi,zce] at h2
  have e:rowsI r s ids l (List.getD s i.toNat zItem)=rowsAt r s (ids++[(List.getD s i.toNat zItem).Id]) more:=by simp only[rowsI,hm]
  rw[e] at h2;omega
theorem outMs{a b:List DMatch}(h:a=b):asD [DV.box [.sl .eMatch a]]=asD [DV.box [.sl .eMatch b]]:=by subst h;rfl
theorem posR_eq(r:DRule):patsR r false=posR r:=by
 unfold posR patsR;congr 1;funext p;cases p.Not<;>rfl
theorem rowsI_some{r:DRule}{s:List DItem}{ids:List Int}{l more:List DBind}{x:DItem}(hm:matchP (List.getD (posR r) ids.length zPat) x.F l=some more):rowsI r s ids l x=rowsAt r s (ids++[x.Id]) more:=by simp only[rowsI,hm]
theorem rowsI_none{r:DRule}{s:List DItem}{ids:List Int}{l:List DBind}{x:DItem}(hm:matchP (List.getD (posR r) ids.length zPat) x.F l=none):rowsI r s ids l x=[]:=by simp only[rowsI,hm]
def matchesR(r:DRule)(s:List DItem):List DMatch:=rowsAt r s [] []
def ruled(i:Int)(m:DMatch):DMatch:=⟨i,m.Ids,m.Binds⟩
def allN(rs:List DRule)(s:List DItem)(n:Nat):List DMatch:=(List.range n).flatMap fun i=>(matchesR (List.getD rs i zRule) s).map (ruled i)
def allM(rs:List DRule)(s:List DItem):List DMatch:=allN rs s rs.length
theorem allN_step(rs:List DRule)(s:List DItem){i:Int}(h0:0≤i):allN rs s (i+1).toNat=allN rs s i.toNat++(matchesR (List.getD rs i.toNat zRule) s).map (ruled i):=by
 have e:(i+1).toNat=i.toNat+1:=by omega
 have e2:((i.toNat:Nat):Int)=i:=by omega
 rw[e]
 simp only[allN,List.range_succ,zep,zbm,zen,zch,e2]
structure smallR(r:DRule):Prop where
 three:posN r.Pats≤3
 pats:r.Pats.length≤6
 args:∀p,p∈r.Pats→p.Args.length≤5
def firstP(r:DRule):Prop:=∀k,k<posN r.Pats→List.getD r.Pats k zPat=List.getD (posR r) k zPat
theorem matches_ok{r:DRule}{s:List DItem}(h:smallR r)(hs:s.length≤40):rowsOk r s 0 [] [] where
 le:=Nat.zero_le _
 three:=h.three
 pats:=h.pats
 args:=h.args
 items:=hs
 binds:=Nat.zero_le _
 room:=by
  have h1:=rowsR_len r s (posR r) [] []
  have h2:(posR r).length≤3:=h.three
  have h3:s.length^(posR r).length≤40^3:=zde (Nat.pow_le_pow_left hs _) (Nat.pow_le_pow_right (by omega) h2)
  show 0+(rowsR r s (posR r) [] []).length≤_
  have:(40:Nat)^3=64000:=rfl
  omega
theorem matches_len{r:DRule}{s:List DItem}(h:smallR r)(hs:s.length≤40):(matchesR r s).length≤64000:=by
 have h1:=rowsR_len r s (posR r) [] []
 have h2:(posR r).length≤3:=h.three
 have h3:s.length^(posR r).length≤40^3:=zde (Nat.pow_le_pow_left hs _) (Nat.pow_le_pow_right (by omega) h2)
 show(rowsR r s (posR r) [] []).length≤_
 have:(40:Nat)^3=64000:=rfl
 omega
theorem getD_in{α:Type}{l:List α}{z:α}{i:Nat}(h:i<l.length):List.getD l i z∈l:=by
 rw[zac,zad h];exact zda _
theorem allN_len{rs:List DRule}{s:List DItem}(h:∀r,r∈rs→smallR r)(hs:s.length≤40){n:Nat}(hn:n≤rs.length):(allN rs s n).length≤n*64000:=by
 have:=flat_len (fun i:Nat=>(matchesR (List.getD rs i zRule) s).map (ruled i)) 64000 (List.range n) (fun x hx=>by
  rw[zco];exact matches_len (h _ (getD_in (by have:=zay.1 hx;omega))) hs)
 rwa[List.length_range] at this
theorem mod_self{α:Type}{l:List α}{k:Nat}(f:α→α){z:α}(h:k<l.length):List.getD (l.modify k f) k z=f (List.getD l k z):=by
 rw[zac,zac,zei,zad h];simp
theorem mod_ne{α:Type}{l:List α}{k j:Nat}(f:α→α){z:α}(h:k≠j):List.getD (l.modify k f) j z=List.getD l j z:=by
 rw[zac,zac,zei];simp[h]
theorem dead_step{dd:Nat→Bool}{k:Int}(h0:0≤k)(h:∀j:Nat,k≤(j:Int)→dd j=false):∀j:Nat,k+1≤(j:Int)→(Nat.beq j k.toNat||dd j)=false:=fun j hj=>by
 rw[h j (by omega),zeh,←zbj,zdn];omega
def Zk163:Con UU where
 α:=(List DMatch)×DRule×DStore×(List Int)×(List DBind)
 md:=[.box true,.ro,.ro,.ro,.ro]
 of:=fun|[.box [.sl .eMatch a0],.agg [.lit (.string a1),.lit (.int .i64 a2),.sl .ePat a3,.sl .eCond a4,.sl .eAct a5],.agg [.sl .eItem a6,.lit (.int .i64 a7)],.one (.sl .int a8),.one (.sl .eBind a9)]=>some (a0,⟨a1,a2,a3,a4,a5⟩,⟨a6,a7⟩,a8,a9)|_=>none
 ds:=fun(out,r,s,ids,l)=>[.box [.sl .eMatch out],.agg [.lit (.string r.Name),.lit (.int .i64 r.Sal),.sl .ePat r.Pats,.sl .eCond r.Conds,.sl .eAct r.Acts],.agg [.sl .eItem s.Items,.lit (.int .i64 s.Next)],.one (.sl .int ids),.one (.sl .eBind l)]
 pre:=fun(out,r,s,ids,l)=>[rowsOk r s.Items out.length ids l]
 res:=fun(out,r,s,ids,l)=>⟨[],true,[.box [.sl .eMatch (out++rowsAt r s.Items ids l)]]⟩
 law:=by intro l x h;(try simp only at h);split at h<;>cases h;rfl
def Zi163_6(out:(List DMatch))(r:DRule)(s:DStore)(ids:(List Int))(l:(List DBind)):Int×List DPat×(ByteArray×Int×List DPat×List DCond×List DAct×Unit)×(List DItem×Int×Unit)×(List DMatch×Unit)×Unit→Prop:=fun(i,q,b,g,o,_)=>q=posR r∧b=(r.Name,r.Sal,r.Pats,r.Conds,r.Acts,())∧g=(s.Items,s.Next,())∧0≤i∧i≤s.Items.length∧o=(out++(s.Items.take i.toNat).flatMap (rowsI r s.Items ids l),())
def Zm163_6(out:(List DMatch))(r:DRule)(s:DStore)(ids:(List Int))(l:(List DBind)):Int×List DPat×(ByteArray×Int×List DPat×List DCond×List DAct×Unit)×(List DItem×Int×Unit)×(List DMatch×Unit)×Unit→Nat:=fun(i,q,b,g,o,_)=>s.Items.length-i.toNat
def Za163:Zk163.α→Nat→Option (Ann UU):=fun(out,r,s,ids,l)=>annL [(6,annOf [.slot 48 (48,1024) (.lit (.int .i64)),.slot 10 (10,1024) (.shr .ePat),.box 6 (6,1024) [.lit .str,.lit (.int .i64),.shr .ePat,.shr .eCond,.shr .eAct],.box 7 (7,1024) [.shr .eItem,.lit (.int .i64)],.box 0 (2000000,0) [.own .eMatch true]] (fun _=>Zi163_6 out r s ids l) (Zm163_6 out r s ids l))]
def Zy163:(List DMatch)×DRule×DStore×(List Int)×(List DBind)→Nat:=fun(out,r,s,ids,l)=>posN r.Pats-ids.length
def Zu163(rn:Nat):List (FuncId×Con UU):=(163,Zk163.below Zy163 rn)::us [Zh232,Zh233,Zh234,Zh235,Zh211,Zh212]
theorem Zo163:Holds EE (163,Zk163):=by
 refine holds_rec (k:=Zk163) func163 (by kernel_rfl) Zy163 (fun rn ih=> ?_)
 refine holds_of EE_ok func163 (Zk163.below Zy163 (rn+1)) (by kernel_rfl) (Zu163 rn) (all_cons ih (us_ok _)) Za163 (fun x hp hb=> ?_)
 obtain⟨out,r,s,ids,l⟩:=x
 have hrec:Zy163 (out,r,s,ids,l)<rn+1:=hp _ zab
 have hb_out:BdDV (U:=UU) (.box [.sl .eMatch out]):=hb _ (zab)
 have hl_out:out.length≤9223372036854775807:=Bd.len (U:=UU) (τ:=.eMatch) (xs:=out) (hb_out _ (by simp))
 have hb_r:BdDV (U:=UU) (.agg [.lit (.string r.Name),.lit (.int .i64 r.Sal),.sl .ePat r.Pats,.sl .eCond r.Conds,.sl .eAct r.Acts]):=hb _ (zaa _ (zab))
 have hl_r_Name:r.Name.size≤9223372036854775807:=Bd.str (hb_r _ (by simp))
 have hl_r_Pats:r.Pats.length≤9223372036854775807:=Bd.len (U:=UU) (τ:=.ePat) (xs:=r.Pats) (hb_r _ (by simp))
 have hl_r_Conds:r.Conds.length≤9223372036854775807:=Bd.len (U:=UU) (τ:=.eCond) (xs:=r.Conds) (hb_r _ (by simp))
 have hl_r_Acts:r.Acts.length≤9223372036854775807:=Bd.len (U:=UU) (τ:=.eAct) (xs:=r.Acts) (hb_r _ (by simp))
 have hb_s:BdDV (U:=UU) (.agg [.sl .eItem s.Items,.lit (.int .i64 s.Next)]):=hb _ (zaa _ (zaa _ (zab)))
 have hl_s_Items:s.Items.length≤9223372036854775807:=Bd.len (U:=UU) (τ:=.eItem) (xs:=s.Items) (hb_s _ (by simp))
 have hb_ids:BdDV (U:=UU) (.one (.sl .int ids)):=hb _ (zaa _ (zaa _ (zaa _ (zab))))
 have hl_ids:ids.length≤9223372036854775807:=Bd.len hb_ids
 have hb_l:BdDV (U:=UU) (.one (.sl .eBind l)):=hb _ (zaa _ (zaa _ (zaa _ (zaa _ (zab)))))
 have hl_l:l.length≤9223372036854775807:=Bd.len hb_l
 have hp0:rowsOk r s.Items out.length ids l:=hp _ (zaa _ (zab))
 clear hp hb
 apply @ve _ (r.Pats.length≤(4294967295:Nat)∧bif (ids.length:Int)==(↑(List.length (patsR r false)):Int) then(∀(p:DPat),p∈r.Pats→l.length+p.Args.length≤(4294967295:Nat))∧bif !blockedR r s.Items l then bif holdAll r.Conds l then ids.length≤(4294967296:Nat)∧l.length≤(4294967296:Nat)∧out.length+List.length [{Rule:=(0:Int),Ids:=ids,Binds:=l:DMatch}]≤(4294967296:Nat)∧(0:Nat)=(0:Nat)∧asD []=asD []∧asD [DV.box [CL .eMatch (out++[{Rule:=(0:Int),Ids:=ids,Binds:=l:DMatch}])]]=asD [DV.box [CL .eMatch (out++rowsAt r s.Items ids l)]] else(0:Nat)=(0:Nat)∧asD []=asD []∧asD [DV.box [CL .eMatch out]]=asD [DV.box [CL .eMatch (out++rowsAt r s.Items ids l)]] else(0:Nat)=(0:Nat)∧asD []=asD []∧asD [DV.box [CL .eMatch out]]=asD [DV.box [CL .eMatch (out++rowsAt r s.Items ids l)]] else Zi163_6 out r s ids l ((0:Int),patsR r false,(r.Name,r.Sal,r.Pats,r.Conds,r.Acts,()),(s.Items,s.Next,()),(out,()),())∧∀(y:Int×List DPat×(ByteArray×Int×List DPat×List DCond×List DAct×PUnit)×(List DItem×Int×PUnit)×(List DMatch×PUnit)×PUnit),let x0:DRule:={Name:=y.2.2.1.1,Sal:=y.2.2.1.2.1,Pats:=y.2.2.1.2.2.1,Conds:=y.2.2.1.2.2.2.1,Acts:=y.2.2.1.2.2.2.2.1:DRule};let x2:DPat:=List.getD y.2.1 (Int.toNat (ids.length:Int)) zPat;let x4:List Int:=[(List.getD s.Items y.1.toNat zItem).Id];let x1:List DBind:=Option.getD (matchP x2 (List.getD s.Items y.1.toNat zItem).F l) l;let x3:List Int:=ids++x4;Zi163_6 out r s ids l y→bif decide (y.1<(s.Items.length:Int)) then(0:Int)≤y.1∧y.1.toNat<s.Items.length∧(0:Int)≤(ids.length:Int)∧Int.toNat (ids.length:Int)<y.2.1.length∧l.length+x2.Args.length≤(4294967295:Nat)∧bif Option.isSome (matchP x2 (List.getD s.Items y.1.toNat zItem).F l) then ids.length≤(4294967296:Nat)∧ids.length+x4.length≤(4294967296:Nat)∧Zy163 (y.2.2.2.2.1.1,x0,{Items:=y.2.2.2.1.1,Next:=y.2.2.2.1.2.1:DStore},x3,x1)<rn∧rowsOk x0 y.2.2.2.1.1 (y.2.2.2.2.1.1.length) x3 x1∧Zi163_6 out r s ids l (IntKind.wrap IntKind.i64 (y.1+(1:Int)),y.2.1,(y.2.2.1.1,y.2.2.1.2.1,y.2.2.1.2.2.1,y.2.2.1.2.2.2.1,y.2.2.1.2.2.2.2.1,()),(y.2.2.2.1.1,y.2.2.2.1.2.1,()),(y.2.2.2.2.1.1++rowsAt x0 y.2.2.2.1.1 x3 x1,()),())∧Zm163_6 out r s ids l (IntKind.wrap IntKind.i64 (y.1+(1:Int)),y.2.1,(y.2.2.1.1,y.2.2.1.2.1,y.2.2.1.2.2.1,y.2.2.1.2.2.2.1,y.2.2.1.2.2.2.2.1,()),(y.2.2.2.1.1,y.2.2.2.1.2.1,()),(y.2.2.2.2.1.1++rowsAt x0 y.2.2.2.1.1 x3 x1,()),())<Zm163_6 out r s ids l y else Zi163_6 out r s ids l (IntKind.wrap IntKind.i64 (y.1+(1:Int)),y.2.1,(y.2.2.1.1,y.2.2.1.2.1,y.2.2.1.2.2.1,y.2.2.1.2.2.2.1,y.2.2.1.2.2.2.2.1,()),(y.2.2.2.1.1,y.2.2.2.1.2.1,()),(y.2.2.2.2.1.1,()),())∧Zm163_6 out r s ids l (IntKind.wrap IntKind.i64 (y.1+(1:Int)),y.2.1,(y.2.2.1.1,y.2.2.1.2.1,y.2.2.1.2.2.1,y.2.2.1.2.2.2.1,y.2.2.1.2.2.2.2.1,()),(y.2.2.2.1.1,y.2.2.2.1.2.1,()),(y.2.2.2.2.1.1,()),())<Zm163_6 out r s ids l y else(0:Nat)=(0:Nat)∧asD []=asD []∧asD [DV.box [CL .eMatch y.2.2.2.2.1.1]]=asD [DV.box [CL .eMatch (out++rowsAt r s.Items ids l)]]) (by kernel_rfl)
 dsimp only
 simp only[Zy163] at hrec
 have hle:=hp0.le
 have h3:=hp0.three
 have hpt:=hp0.pats
 have hbd:=hp0.binds
 have hA:∀p,p∈r.Pats→l.length+p.Args.length≤4294967295:=fun p hm=>by have:=hp0.args p hm;omega
 have hrm:=hp0.room
 rw[posR_eq]
 have hpl:(posR r).length=posN r.Pats:=rfl
 refine⟨by omega,if_num (fun h=>⟨hA,?_⟩) (fun h=> ?_)⟩
 ·have h:ids.length=posN r.Pats:=by omega
  have e:=rowsAt_end s.Items l h
  refine if_not (fun g=>if_cond (fun g'=>⟨by omega,by omega,?_,rfl,by trivial,outMs ?_⟩) (fun g'=>⟨rfl,by trivial,outMs ?_⟩)) (fun g=>⟨rfl,by trivial,outMs ?_⟩)
  ·rw[e,g,g'] at hrm;simp at hrm;simp only[zbq,zbo];omega
  ·rw[e,g,g'];rfl
  ·rw[e,g,g'];simp
  ·rw[e,g];simp
 ·have h:ids.length<posN r.Pats:=by omega
  have e:=rowsAt_step s.Items l h
  refine⟨⟨rfl,rfl,rfl,by omega,by omega,by simp⟩,?_⟩
  rintro⟨i,q,⟨b1,b2,b3,b4,b5,⟨⟩⟩,⟨g1,g2,⟨⟩⟩,⟨o,⟨⟩⟩,⟨⟩⟩ ⟨rfl,hb,hg,h1,h2,ho⟩
  cases hb
  cases hg
  cases ho
  simp only
  refine if_dec (fun hc=> ?_) (fun hc=>⟨by trivial,by trivial,outMs ?_⟩)
  ·have hs:=flatStep (rowsI r s.Items ids l) s.Items zItem h1 hc
   have hi:ids.length<(posR r).length:=h
   have hm:=hA _ (posR_mem h)
   have et:Int.toNat (ids.length:Int)=ids.length:=by omega
   have eR:(⟨r.Name,r.Sal,r.Pats,r.Conds,r.Acts⟩:DRule)=r:=rfl
   rw[wrap_i64 (by omega) (by omega)]
   simp only[et,eR]
   refine⟨by omega,by omega,by omega,by omega,hm,if_cond (fun g=> ?_) (fun g=> ?_)⟩
   ·obtain⟨more,hM⟩:=zag.1 g
    have hst:=rowsOk_step hp0 h h1 hc hM
    rw[hM,zcj]
    rw[rowsI_some hM] at hs
    refine⟨by omega,by simp only[zbq,zbo];omega,?_,?_,⟨rfl,rfl,rfl,by omega,by omega,?_⟩,by simp only[Zm163_6];omega⟩
    ·simp only[Zy163,zce,zbq,zbo];omega
    ·rw[zce];exact hst
    ·rw[hs,zbr]
   ·have hM:matchP (List.getD (posR r) ids.length zPat) (List.getD s.Items i.toNat zItem).F l=none:=Option.isNone_iff_eq_none.1 (by rw[←Option.not_isSome,show Option.isSome (matchP (List.getD (posR r) ids.length zPat) (List.getD s.Items i.toNat zItem).F l)=false from g];rfl)
    rw[rowsI_none hM,zch] at hs
    exact⟨⟨rfl,rfl,rfl,by omega,by omega,by rw[hs]⟩,by simp only[Zm163_6];omega⟩
  ·rw[take_all s.Items (by omega),e]
def Zh163:HH:=⟨_,Zo163⟩
def Zk161:Con UU where
 α:=(List DMatch)×DRule×DStore×(List Int)×(List DBind)
 md:=[.box true,.ro,.ro,.ro,.ro]
 of:=fun|[.box [.sl .eMatch a0],.agg [.lit (.string a1),.lit (.int .i64 a2),.sl .ePat a3,.sl .eCond a4,.sl .eAct a5],.agg [.sl .eItem a6,.lit (.int .i64 a7)],.one (.sl .int a8),.one (.sl .eBind a9)]=>some (a0,⟨a1,a2,a3,a4,a5⟩,⟨a6,a7⟩,a8,a9)|_=>none
 ds:=fun(out,r,s,ids,l)=>[.box [.sl .eMatch out],.agg [.lit (.string r.Name),.lit (.int .i64 r.Sal),.sl .ePat r.Pats,.sl .eCond r.Conds,.sl .eAct r.Acts],.agg [.sl .eItem s.Items,.lit (.int .i64 s.Next)],.one (.sl .int ids),.one (.sl .eBind l)]
 pre:=fun(out,r,s,ids,l)=>[rowsOk r s.Items out.length ids l,firstP r]
 res:=fun(out,r,s,ids,l)=>⟨[],true,[.box [.sl .eMatch (out++rowsAt r s.Items ids l)]]⟩
 law:=by intro l x h;(try simp only at h);split at h<;>cases h;rfl
def Zi161_5(out:(List DMatch))(r:DRule)(s:DStore)(ids:(List Int))(l:(List DBind)):Int×(ByteArray×Int×List DPat×List DCond×List DAct×Unit)×(List DItem×Int×Unit)×(List DMatch×Unit)×Unit→Prop:=fun(i,b,g,o,_)=>b=(r.Name,r.Sal,r.Pats,r.Conds,r.Acts,())∧g=(s.Items,s.Next,())∧0≤i∧i≤s.Items.length∧o=(out++(s.Items.take i.toNat).flatMap (rowsI r s.Items ids l),())
def Zm161_5(out:(List DMatch))(r:DRule)(s:DStore)(ids:(List Int))(l:(List DBind)):Int×(ByteArray×Int×List DPat×List DCond×List DAct×Unit)×(List DItem×Int×Unit)×(List DMatch×Unit)×Unit→Nat:=fun(i,b,g,o,_)=>s.Items.length-i.toNat
def Za161:Zk161.α→Nat→Option (Ann UU):=fun(out,r,s,ids,l)=>annL [(5,annOf [.slot 10 (10,1024) (.lit (.int .i64)),.box 6 (6,1024) [.lit .str,.lit (.int .i64),.shr .ePat,.shr .eCond,.shr .eAct],.box 7 (7,1024) [.shr .eItem,.lit (.int .i64)],.box 0 (2000000,0) [.own .eMatch true]] (fun _=>Zi161_5 out r s ids l) (Zm161_5 out r s ids l))]
def Zy161:(List DMatch)×DRule×DStore×(List Int)×(List DBind)→Nat:=fun(out,r,s,ids,l)=>posN r.Pats-ids.length
def Zu161(rn:Nat):List (FuncId×Con UU):=(161,Zk161.below Zy161 rn)::us [Zh40,Zh229,Zh230,Zh231]
theorem Zo161:Holds EE (161,Zk161):=by
 refine holds_rec (k:=Zk161) func161 (by kernel_rfl) Zy161 (fun rn ih=> ?_)
 refine holds_of EE_ok func161 (Zk161.below Zy161 (rn+1)) (by kernel_rfl) (Zu161 rn) (all_cons ih (us_ok _)) Za161 (fun x hp hb=> ?_)
 obtain⟨out,r,s,ids,l⟩:=x
 have hrec:Zy161 (out,r,s,ids,l)<rn+1:=hp _ zab
 have hb_out:BdDV (U:=UU) (.box [.sl .eMatch out]):=hb _ (zab)
 have hl_out:out.length≤9223372036854775807:=Bd.len (U:=UU) (τ:=.eMatch) (xs:=out) (hb_out _ (by simp))
 have hb_r:BdDV (U:=UU) (.agg [.lit (.string r.Name),.lit (.int .i64 r.Sal),.sl .ePat r.Pats,.sl .eCond r.Conds,.sl .eAct r.Acts]):=hb _ (zaa _ (zab))
 have hl_r_Name:r.Name.size≤9223372036854775807:=Bd.str (hb_r _ (by simp))
 have hl_r_Pats:r.Pats.length≤9223372036854775807:=Bd.len (U:=UU) (τ:=.ePat) (xs:=r.Pats) (hb_r _ (by simp))
 have hl_r_Conds:r.Conds.length≤9223372036854775807:=Bd.len (U:=UU) (τ:=.eCond) (xs:=r.Conds) (hb_r _ (by simp))
 have hl_r_Acts:r.Acts.length≤9223372036854775807:=Bd.len (U:=UU) (τ:=.eAct) (xs:=r.Acts) (hb_r _ (by simp))
 have hb_s:BdDV (U:=UU) (.agg [.sl .eItem s.Items,.lit (.int .i64 s.Next)]):=hb _ (zaa _ (zaa _ (zab)))
 have hl_s_Items:s.Items.length≤9223372036854775807:=Bd.len (U:=UU) (τ:=.eItem) (xs:=s.Items) (hb_s _ (by simp))
 have hb_ids:BdDV (U:=UU) (.one (.sl .int ids)):=hb _ (zaa _ (zaa _ (zaa _ (zab))))
 have hl_ids:ids.length≤9223372036854775807:=Bd.len hb_ids
 have hb_l:BdDV (U:=UU) (.one (.sl .eBind l)):=hb _ (zaa _ (zaa _ (zaa _ (zaa _ (zab)))))
 have hl_l:l.length≤9223372036854775807:=Bd.len hb_l
 have hp0:rowsOk r s.Items out.length ids l:=hp _ (zaa _ (zab))
 have hp1:firstP r:=hp _ (zaa _ (zaa _ (zab)))
 clear hp hb
 apply @ve _ (let x1:List Int:=[]++ids;let x0:List DMatch:=[{Rule:=(0:Int),Ids:=x1,Binds:=[]++l:DMatch}];bif (ids.length:Int)==(↑(posN r.Pats):Int) then(∀(p:DPat),p∈r.Pats→l.length+p.Args.length≤(4294967295:Nat))∧bif !blockedR r s.Items l then bif holdAll r.Conds l then(0:Nat)+ids.length≤(4294967296:Nat)∧(0:Nat)+l.length≤(4294967296:Nat)∧out.length+x0.length≤(4294967296:Nat)∧(0:Nat)=(0:Nat)∧asD []=asD []∧asD [DV.box [CL .eMatch (out++x0)]]=asD [DV.box [CL .eMatch (out++rowsAt r s.Items ids l)]] else(0:Nat)=(0:Nat)∧asD []=asD []∧asD [DV.box [CL .eMatch out]]=asD [DV.box [CL .eMatch (out++rowsAt r s.Items ids l)]] else(0:Nat)=(0:Nat)∧asD []=asD []∧asD [DV.box [CL .eMatch out]]=asD [DV.box [CL .eMatch (out++rowsAt r s.Items ids l)]] else Zi161_5 out r s ids l ((0:Int),(r.Name,r.Sal,r.Pats,r.Conds,r.Acts,()),(s.Items,s.Next,()),(out,()),())∧∀(y:Int×(ByteArray×Int×List DPat×List DCond×List DAct×PUnit)×(List DItem×Int×PUnit)×(List DMatch×PUnit)×PUnit),let x2:DRule:={Name:=y.2.1.1,Sal:=y.2.1.2.1,Pats:=y.2.1.2.2.1,Conds:=y.2.1.2.2.2.1,Acts:=y.2.1.2.2.2.2.1:DRule};let x6:DItem:=List.getD y.2.2.1.1 y.1.toNat zItem;let x8:Nat:=y.2.2.1.1.length;let x9:DPat:=List.getD y.2.1.2.2.1 (Int.toNat (ids.length:Int)) zPat;let x3:List DBind:=Option.getD (matchP x9 x6.F l) l;let x5:List Int:=[x6.Id];let x7:Int:=(↑x8:Int);let x4:List Int:=x1++x5;Zi161_5 out r s ids l y→bif decide (y.1<x7) then(0:Int)≤(ids.length:Int)∧Int.toNat (ids.length:Int)<y.2.1.2.2.1.length∧(0:Int)≤y.1∧y.1.toNat<x8∧l.length+x9.Args.length≤(4294967295:Nat)∧bif Option.isSome (matchP x9 x6.F l) then(0:Nat)+ids.length≤(4294967296:Nat)∧(0:Int)≤y.1∧y.1.toNat<x8∧x1.length+x5.length≤(4294967296:Nat)∧Zy161 (y.2.2.2.1.1,x2,{Items:=y.2.2.1.1,Next:=y.2.2.1.2.1:DStore},x4,x3)<rn∧rowsOk x2 y.2.2.1.1 (y.2.2.2.1.1.length) x4 x3∧firstP x2∧Zi161_5 out r s ids l (IntKind.wrap IntKind.i64 (y.1+(1:Int)),(y.2.1.1,y.2.1.2.1,y.2.1.2.2.1,y.2.1.2.2.2.1,y.2.1.2.2.2.2.1,()),(y.2.2.1.1,y.2.2.1.2.1,()),(y.2.2.2.1.1++rowsAt x2 y.2.2.1.1 x4 x3,()),())∧Zm161_5 out r s ids l (IntKind.wrap IntKind.i64 (y.1+(1:Int)),(y.2.1.1,y.2.1.2.1,y.2.1.2.2.1,y.2.1.2.2.2.1,y.2.1.2.2.2.2.1,()),(y.2.2.1.1,y.2.2.1.2.1,()),(y.2.2.2.1.1++rowsAt x2 y.2.2.1.1 x4 x3,()),())<Zm161_5 out r s ids l y else Zi161_5 out r s ids l (IntKind.wrap IntKind.i64 (y.1+(1:Int)),(y.2.1.1,y.2.1.2.1,y.2.1.2.2.1,y.2.1.2.2.2.1,y.2.1.2.2.2.2.1,()),(y.2.2.1.1,y.2.2.1.2.1,()),(y.2.2.2.1.1,()),())∧Zm161_5 out r s ids l (IntKind.wrap IntKind.i64 (y.1+(1:Int)),(y.2.1.1,y.2.1.2.1,y.2.1.2.2.1,y.2.1.2.2.2.1,y.2.1.2.2.2.2.1,()),(y.2.2.1.1,y.2.2.1.2.1,()),(y.2.2.2.1.1,()),())<Zm161_5 out r s ids l y else(0:Nat)=(0:Nat)∧asD []=asD []∧asD [DV.box [CL .eMatch y.2.2.2.1.1]]=asD [DV.box [CL .eMatch (out++rowsAt r s.Items ids l)]]) (by kernel_rfl)
 dsimp only
 simp only[Zy161] at hrec
 have hle:=hp0.le
 have h3:=hp0.three
 have hpt:=hp0.pats
 have hbd:=hp0.binds
 have hA:∀p,p∈r.Pats→l.length+p.Args.length≤4294967295:=fun p hm=>by have:=hp0.args p hm;omega
 have hrm:=hp0.room
 have hpl:(posR r).length=posN r.Pats:=rfl
 have hpn:posN r.Pats≤r.Pats.length:=zdt _ _
 refine if_num (fun h=>⟨hA,?_⟩) (fun h=> ?_)
 ·have h:ids.length=posN r.Pats:=by omega
  have e:=rowsAt_end s.Items l h
  have q1:(0:Nat)+ids.length≤4294967296:=by omega
  have q2:(0:Nat)+l.length≤4294967296:=by omega
  refine if_not (fun g=>if_cond (fun g'=>⟨q1,q2,?_,rfl,by trivial,outMs ?_⟩) (fun g'=>⟨rfl,by trivial,outMs ?_⟩)) (fun g=>⟨rfl,by trivial,outMs ?_⟩)
  ·rw[e,g,g'] at hrm;simp at hrm;simp only[zbq,zbo];omega
  ·rw[e,g,g'];rfl
  ·rw[e,g,g'];simp
  ·rw[e,g];simp
 ·have h:ids.length<posN r.Pats:=by omega
  have e:=rowsAt_step s.Items l h
  refine⟨⟨rfl,rfl,by omega,by omega,by simp⟩,?_⟩
  rintro⟨i,⟨b1,b2,b3,b4,b5,⟨⟩⟩,⟨g1,g2,⟨⟩⟩,⟨o,⟨⟩⟩,⟨⟩⟩ ⟨hb,hg,h1,h2,ho⟩
  cases hb
  cases hg
  cases ho
  refine if_dec (fun hc=> ?_) (fun hc=>⟨by trivial,by trivial,outMs ?_⟩)
  ·have hc:i<s.Items.length:=hc
   have hs:=flatStep (rowsI r s.Items ids l) s.Items zItem h1 hc
   have hi:ids.length<(posR r).length:=h
   have hm:=hA _ (posR_mem h)
   have et:Int.toNat (ids.length:Int)=ids.length:=by omega
   have eP:List.getD r.Pats (Int.toNat (ids.length:Int)) zPat=List.getD (posR r) ids.length zPat:=by rw[et];exact hp1 _ h
   have q0:(0:Int)≤(ids.length:Int)∧Int.toNat (ids.length:Int)<r.Pats.length:=by omega
   have q1:(0:Int)≤i∧i.toNat<s.Items.length:=by omega
   have q2:(0:Nat)+ids.length≤4294967296:=by omega
   have q3:ids.length+1≤4294967296:=by omega
   refine⟨q0.1,q0.2,q1.1,q1.2,by rw[eP];exact hm,?_⟩
   simp only[eP]
   refine if_cond (fun g=> ?_) (fun g=> ?_)
   ·obtain⟨more,hM⟩:=zag.1 g
    have hst:=rowsOk_step hp0 h h1 hc hM
    rw[rowsI_some hM] at hs
    have hw:IntKind.wrap .i64 (i+1)=i+1:=wrap_i64 (by omega) (by omega)
    have hst':rowsOk r s.Items (out++(s.Items.take i.toNat).flatMap (rowsI r s.Items ids l)).length (ids++[(List.getD s.Items i.toNat zItem).Id]) ((matchP (List.getD (posR r) ids.length zPat) (List.getD s.Items i.toNat zItem).F l).getD l):=by rw[hM,zcj,zce];exact hst
    have hmu:posN r.Pats-(ids++[(List.getD s.Items i.toNat zItem).Id]).length<rn:=by rw[zce];simp only[zbq,zbo];omega
    have hI:Zi161_5 out r s ids l (IntKind.wrap .i64 (i+1),(r.Name,r.Sal,r.Pats,r.Conds,r.Acts,()),(s.Items,s.Next,()),((out++(s.Items.take i.toNat).flatMap (rowsI r s.Items ids l))++rowsAt r s.Items (ids++[(List.getD s.Items i.toNat zItem).Id]) ((matchP (List.getD (posR r) ids.length zPat) (List.getD s.Items i.toNat zItem).F l).getD l),()),()):=by
     rw[hw,hM,zcj]
     exact⟨rfl,rfl,by omega,by omega,by rw[hs,zbr]⟩
    have hd:s.Items.length-(IntKind.wrap .i64 (i+1)).toNat<s.Items.length-i.toNat:=by rw[hw];omega
    exact⟨q2,q1.1,q1.2,q3,hmu,hst',hp1,hI,hd⟩
   ·have hM:matchP (List.getD (posR r) ids.length zPat) (List.getD s.Items i.toNat zItem).F l=none:=Option.isNone_iff_eq_none.1 (by rw[←Option.not_isSome,show Option.isSome (matchP (List.getD (posR r) ids.length zPat) (List.getD s.Items i.toNat zItem).F l)=false from g];rfl)
    rw[rowsI_none hM,zch] at hs
    have hw:IntKind.wrap .i64 (i+1)=i+1:=wrap_i64 (by omega) (by omega)
    have hI:Zi161_5 out r s ids l (IntKind.wrap .i64 (i+1),(r.Name,r.Sal,r.Pats,r.Conds,r.Acts,()),(s.Items,s.Next,()),(out++(s.Items.take i.toNat).flatMap (rowsI r s.Items ids l),()),()):=by
     rw[hw];exact⟨rfl,rfl,by omega,by omega,by rw[hs]⟩
    have hd:s.Items.length-(IntKind.wrap .i64 (i+1)).toNat<s.Items.length-i.toNat:=by rw[hw];omega
    exact⟨hI,hd⟩
  ·have hc:¬i<(s.Items.length:Int):=hc
   rw[take_all s.Items (by omega),e]
def Zh161:HH:=⟨_,Zo161⟩
def Zk87:Con UU where
 α:=DRule×DStore
 md:=[.ro,.ro]
 of:=oC (oA .eRule) (o1 (oA .eStore))
 ds:=fun x=>[dA .eRule x.1,dA .eStore x.2]
 pre:=fun(r,s)=>[smallR r,s.Items.length≤40]
 res:=fun(r,s)=>⟨[dL .eMatch (matchesR r s.Items)],true,[]⟩
 law:=lC (lA .eRule) (l1 (lA .eStore))
def Za87:Zk87.α→Nat→Option (Ann UU):=fun(r,s)=>annL []
def Zu87:=us [Zh163]
theorem Zo87:Holds EE (87,Zk87):=by
 refine holds_of EE_ok func87 Zk87 (by kernel_rfl) Zu87 (us_ok _) Za87 (fun x hp hb=> ?_)
 obtain⟨r,s⟩:=x
 have hz0:=bd_eRule (x:=r) (hb _ m0)
 have hl_r_Name:=hz0.1
 have hl_r_Pats:=hz0.2.1
 have hl_r_Conds:=hz0.2.2.1
 have hl_r_Acts:=hz0.2.2.2
 have hl_s_Items:=bd_eStore (x:=s) (hb _ m1)
 have hp0:smallR r:=hp _ m0
 have hp1:s.Items.length≤40:=hp _ m1
 clear hp hb
 apply @ve _ (rowsOk r s.Items ((0:Nat)) [] []∧Lf [VL .eMatch ([]++rowsAt r s.Items [] [])] [VL .eMatch (matchesR r s.Items)]) (by kernel_rfl)
 exact⟨matches_ok hp0 hp1,Lf_rfl _⟩
def Zh87:HH:=⟨_,Zo87⟩
def Zk84:Con UU where
 α:=DRule×DStore
 md:=[.ro,.ro]
 of:=oC (oA .eRule) (o1 (oA .eStore))
 ds:=fun x=>[dA .eRule x.1,dA .eStore x.2]
 pre:=fun(r,s)=>[smallR r,s.Items.length≤40,firstP r]
 res:=fun(r,s)=>⟨[dL .eMatch (matchesR r s.Items)],true,[]⟩
 law:=lC (lA .eRule) (l1 (lA .eStore))
def Za84:Zk84.α→Nat→Option (Ann UU):=fun(r,s)=>annL []
def Zu84:=us [Zh161]
theorem Zo84:Holds EE (84,Zk84):=by
 refine holds_of EE_ok func84 Zk84 (by kernel_rfl) Zu84 (us_ok _) Za84 (fun x hp hb=> ?_)
 obtain⟨r,s⟩:=x
 have hz0:=bd_eRule (x:=r) (hb _ m0)
 have hl_r_Name:=hz0.1
 have hl_r_Pats:=hz0.2.1
 have hl_r_Conds:=hz0.2.2.1
 have hl_r_Acts:=hz0.2.2.2
 have hl_s_Items:=bd_eStore (x:=s) (hb _ m1)
 have hp0:smallR r:=hp _ m0
 have hp1:s.Items.length≤40:=hp _ m1
 have hp2:firstP r:=hp _ m2
 clear hp hb
 apply @ve _ (rowsOk r s.Items ((0:Nat)) [] []∧firstP r∧Lf [VL .eMatch ([]++rowsAt r s.Items [] [])] [VL .eMatch (matchesR r s.Items)]) (by kernel_rfl)
 exact⟨matches_ok hp0 hp1,hp2,Lf_rfl _⟩
def Zh84:HH:=⟨_,Zo84⟩
def Zk32:Con UU where
 α:=DDef×DStore
 md:=[.ro,.ro]
 of:=oC (oA .eDef) (o1 (oA .eStore))
 ds:=fun x=>[dA .eDef x.1,dA .eStore x.2]
 pre:=fun(d,s)=>[∀r,r∈d.Rules→smallR r,s.Items.length≤40∧d.Rules.length≤12]
 res:=fun(d,s)=>⟨[dL .eMatch (allM d.Rules s.Items)],true,[]⟩
 law:=lC (lA .eDef) (l1 (lA .eStore))
def Zi32_3(d:DDef)(s:DStore):List DMatch×Int×(List DItem×Int×Unit)×Unit→Prop:=fun(o,i,g,_)=>g=(s.Items,s.Next,())∧0≤i∧i≤d.Rules.length∧o=allN d.Rules s.Items i.toNat
def Zm32_3(d:DDef)(s:DStore):List DMatch×Int×(List DItem×Int×Unit)×Unit→Nat:=fun(o,i,g,_)=>d.Rules.length-i.toNat
def Zi32_6(d:DDef)(s:DStore):List DMatch×Int×Int×Int×(List DMatch×(Nat→Bool))×(List DItem×Int×Unit)×Unit→List DMatch×Int×Int×Int×(List DMatch×(Nat→Bool))×(List DItem×Int×Unit)×Unit→Prop:=fun(o0,i0,n0,k0,p0,g0,_) (o,i,n,k,p,g,_)=>i=i0∧n=n0∧g=g0∧p.1=p0.1∧0≤k∧k≤p0.1.length∧(∀j:Nat,k≤(j:Int)→p.2 j=false)∧o=o0++(p0.1.take k.toNat).map (ruled i)
def Zm32_6(d:DDef)(s:DStore):List DMatch×Int×Int×Int×(List DMatch×(Nat→Bool))×(List DItem×Int×Unit)×Unit→Nat:=fun(o,i,n,k,p,g,_)=>p.1.length-k.toNat
def Za32:Zk32.α→Nat→Option (Ann UU):=fun(d,s)=>annL [(3,annOf [.slot 5 (5,1024) (.own .eMatch true),.slot 13 (13,1024) (.lit (.int .i64)),.box 3 (3,1024) [.shr .eItem,.lit (.int .i64)]] (fun _=>Zi32_3 d s) (Zm32_3 d s)),(6,annOf [.slot 5 (5,1024) (.own .eMatch true),.slot 13 (13,1024) (.lit (.int .i64)),.slot 6 (6,1024) (.lit (.int .i64)),.slot 22 (22,1024) (.lit (.int .i64)),.slot 20 (20,1024) (.part .eMatch),.box 3 (3,1024) [.shr .eItem,.lit (.int .i64)]] (Zi32_6 d s) (Zm32_6 d s))]
def Zu32:=us [Zh87]
theorem Zo32:Holds EE (32,Zk32):=by
 refine holds_of EE_ok func32 Zk32 (by kernel_rfl) Zu32 (us_ok _) Za32 (fun x hp hb=> ?_)
 obtain⟨d,s⟩:=x
 have hz0:=bd_eDef (x:=d) (hb _ m0)
 have hl_d_Name:=hz0.1
 have hl_d_Rules:=hz0.2
 have hl_s_Items:=bd_eStore (x:=s) (hb _ m1)
 have hp0:∀r,r∈d.Rules→smallR r:=hp _ m0
 have hp1:s.Items.length≤40∧d.Rules.length≤12:=hp _ m1
 clear hp hb
 apply @ve _ (Zi32_3 d s ([],(0:Int),(s.Items,s.Next,()),())∧∀(y:List DMatch×Int×(List DItem×Int×PUnit)×PUnit),let x3:Nat:=y.2.1.toNat;let x2:DRule:=List.getD d.Rules x3 zRule;let x1:List DMatch:=matchesR x2 y.2.2.1.1;let x0:Int:=(x1.length:Int);Zi32_3 d s y→bif decide (y.2.1<(d.Rules.length:Int)) then(0:Int)≤y.2.1∧x3<d.Rules.length∧smallR x2∧y.2.2.1.1.length≤(40:Nat)∧Zi32_6 d s (y.1,y.2.1,y.2.1,(0:Int),(x1,fun(x:Nat)=>false),(y.2.2.1.1,y.2.2.1.2.1,()),()) (y.1,y.2.1,y.2.1,(0:Int),(x1,fun(x:Nat)=>false),(y.2.2.1.1,y.2.2.1.2.1,()),())∧∀(y_1:List DMatch×Int×Int×Int×(List DMatch×(Nat→Bool))×(List DItem×Int×PUnit)×PUnit),let x5:Nat:=y_1.2.2.2.1.toNat;let x6:DMatch:=List.getD y_1.2.2.2.2.fst.1 x5 zMatch;let x4:List DMatch:=[{Rule:=y_1.2.2.1,Ids:=x6.Ids,Binds:=x6.Binds:DMatch}];Zi32_6 d s (y.1,y.2.1,y.2.1,(0:Int),(x1,fun(x:Nat)=>false),(y.2.2.1.1,y.2.2.1.2.1,()),()) y_1→bif decide (y_1.2.2.2.1<x0) then(0:Int)≤y_1.2.2.2.1∧x5<y_1.2.2.2.2.fst.1.length∧x5<y_1.2.2.2.2.fst.1.length∧y_1.2.2.2.2.fst.2 x5=false∧y_1.1.length+x4.length≤(4294967296:Nat)∧Zi32_6 d s (y.1,y.2.1,y.2.1,(0:Int),(x1,fun(x:Nat)=>false),(y.2.2.1.1,y.2.2.1.2.1,()),()) (y_1.1++x4,y_1.2.1,y_1.2.2.1,IntKind.wrap IntKind.i64 (y_1.2.2.2.1+(1:Int)),(y_1.2.2.2.2.fst.1,fun(j:Nat)=>Nat.beq j x5||y_1.2.2.2.2.fst.2 j),(y_1.2.2.2.2.2.1.1,y_1.2.2.2.2.2.1.2.1,()),())∧Zm32_6 d s (y_1.1++x4,y_1.2.1,y_1.2.2.1,IntKind.wrap IntKind.i64 (y_1.2.2.2.1+(1:Int)),(y_1.2.2.2.2.fst.1,fun(j:Nat)=>Nat.beq j x5||y_1.2.2.2.2.fst.2 j),(y_1.2.2.2.2.2.1.1,y_1.2.2.2.2.2.1.2.1,()),())<Zm32_6 d s y_1 else Zi32_3 d s (y_1.1,IntKind.wrap IntKind.i64 (y_1.2.1+(1:Int)),(y_1.2.2.2.2.2.1.1,y_1.2.2.2.2.2.1.2.1,()),())∧Zm32_3 d s (y_1.1,IntKind.wrap IntKind.i64 (y_1.2.1+(1:Int)),(y_1.2.2.2.2.2.1.1,y_1.2.2.2.2.2.1.2.1,()),())<Zm32_3 d s y else Lf [VL .eMatch y.1] [VL .eMatch (allM d.Rules s.Items)]) (by kernel_rfl)
 dsimp only
 obtain⟨hS,hD⟩:=hp1
 refine⟨⟨rfl,by omega,by omega,rfl⟩,?_⟩
 rintro⟨o,i,⟨g1,g2,⟨⟩⟩,⟨⟩⟩ ⟨hg,h1,h2,rfl⟩
 cases hg
 simp only
 refine if_dec (fun hc=> ?_) (fun hc=> ?_)
 ·have hm:List.getD d.Rules i.toNat zRule∈d.Rules:=getD_in (by omega)
  have hs:=hp0 _ hm
  have hl:=matches_len hs hS
  have hn:=allN_len hp0 hS (n:=i.toNat) (by omega)
  have hst:=allN_step d.Rules s.Items h1
  refine⟨by omega,by omega,hs,hS,⟨rfl,rfl,rfl,rfl,by omega,by omega,fun _ _=>rfl,by simp⟩,?_⟩
  rintro⟨o',i',n',k,⟨xs,dd⟩,⟨g1,g2,⟨⟩⟩,⟨⟩⟩ ⟨hi,hn',hg,hx,k1,k2,kd,ho⟩
  cases hg
  cases hi
  cases hn'
  have hx:xs=matchesR (List.getD d.Rules i.toNat zRule) s.Items:=hx
  subst hx
  cases ho
  simp only at k2 kd⊢
  refine if_dec (fun hk=> ?_) (fun hk=> ?_)
  ·have ht:=take_step (matchesR (List.getD d.Rules i.toNat zRule) s.Items) zMatch k1 hk
   rw[wrap_i64 (n:=k+1) (by omega) (by omega)]
   refine⟨k1,by omega,by omega,kd _ (by omega),?_,⟨rfl,rfl,rfl,rfl,by omega,by simp only;omega,dead_step k1 kd,?_⟩,by simp only[Zm32_6];omega⟩
   ·simp only[zce,zco,zaw,zbq,zbo];omega
   ·simp only[←ht,zef,zbr];rfl
  ·rw[take_all _ (by omega),←hst,wrap_i64 (n:=i+1) (by omega) (by omega)]
   exact⟨⟨rfl,by omega,by omega,rfl⟩,by simp only[Zm32_3];omega⟩
 ·have e:i.toNat=d.Rules.length:=by omega
  rw[e];exact Lf_rfl _
def Zh32:HH:=⟨_,Zo32⟩
def Zk29:Con UU where
 α:=DDef×DStore
 md:=[.ro,.ro]
 of:=oC (oA .eDef) (o1 (oA .eStore))
 ds:=fun x=>[dA .eDef x.1,dA .eStore x.2]
 pre:=fun(d,s)=>[∀r,r∈d.Rules→smallR r,s.Items.length≤40∧d.Rules.length≤12,∀r,r∈d.Rules→firstP r]
 res:=fun(d,s)=>⟨[dL .eMatch (allM d.Rules s.Items)],true,[]⟩
 law:=lC (lA .eDef) (l1 (lA .eStore))
def Zi29_3(d:DDef)(s:DStore):List DMatch×Int×(ByteArray×List DRule×Unit)×(List DItem×Int×Unit)×Unit→Prop:=fun(o,i,b,g,_)=>b=(d.Name,d.Rules,())∧g=(s.Items,s.Next,())∧0≤i∧i≤d.Rules.length∧o=allN d.Rules s.Items i.toNat
def Zm29_3(d:DDef)(s:DStore):List DMatch×Int×(ByteArray×List DRule×Unit)×(List DItem×Int×Unit)×Unit→Nat:=fun(o,i,b,g,_)=>d.Rules.length-i.toNat
def Zi29_7(d:DDef)(s:DStore):List DMatch×Int×Int×(List DMatch×(Nat→Bool))×(ByteArray×List DRule×Unit)×(List DItem×Int×Unit)×Unit→List DMatch×Int×Int×(List DMatch×(Nat→Bool))×(ByteArray×List DRule×Unit)×(List DItem×Int×Unit)×Unit→Prop:=fun(o0,i0,k0,p0,b0,g0,_) (o,i,k,p,b,g,_)=>i=i0∧b=b0∧g=g0∧p.1.length=p0.1.length∧0≤k∧k≤p0.1.length∧(∀j:Nat,k≤(j:Int)→p.2 j=false∧List.getD p.1 j zMatch=List.getD p0.1 j zMatch)∧o=o0++(p0.1.take k.toNat).map (ruled i)
def Zm29_7(d:DDef)(s:DStore):List DMatch×Int×Int×(List DMatch×(Nat→Bool))×(ByteArray×List DRule×Unit)×(List DItem×Int×Unit)×Unit→Nat:=fun(o,i,k,p,b,g,_)=>p.1.length-k.toNat
def Za29:Zk29.α→Nat→Option (Ann UU):=fun(d,s)=>annL [(3,annOf [.slot 5 (5,1024) (.own .eMatch true),.slot 6 (6,1024) (.lit (.int .i64)),.box 2 (2,1024) [.lit .str,.shr .eRule],.box 3 (3,1024) [.shr .eItem,.lit (.int .i64)]] (fun _=>Zi29_3 d s) (Zm29_3 d s)),(7,annOf [.slot 5 (5,1024) (.own .eMatch true),.slot 6 (6,1024) (.lit (.int .i64)),.slot 8 (8,1024) (.lit (.int .i64)),.slot 7 (7,1024) (.part .eMatch),.box 2 (2,1024) [.lit .str,.shr .eRule],.box 3 (3,1024) [.shr .eItem,.lit (.int .i64)]] (Zi29_7 d s) (Zm29_7 d s))]
def Zu29:=us [Zh84]
theorem Zo29:Holds EE (29,Zk29):=by
 refine holds_of EE_ok func29 Zk29 (by kernel_rfl) Zu29 (us_ok _) Za29 (fun x hp hb=> ?_)
 obtain⟨d,s⟩:=x
 have hz0:=bd_eDef (x:=d) (hb _ m0)
 have hl_d_Name:=hz0.1
 have hl_d_Rules:=hz0.2
 have hl_s_Items:=bd_eStore (x:=s) (hb _ m1)
 have hp0:∀r,r∈d.Rules→smallR r:=hp _ m0
 have hp1:s.Items.length≤40∧d.Rules.length≤12:=hp _ m1
 have hp2:∀r,r∈d.Rules→firstP r:=hp _ m2
 clear hp hb
 apply @ve _ (Zi29_3 d s ([],(0:Int),(d.Name,d.Rules,()),(s.Items,s.Next,()),())∧∀(y:List DMatch×Int×(ByteArray×List DRule×PUnit)×(List DItem×Int×PUnit)×PUnit),let x2:Nat:=y.2.2.1.2.1.length;let x3:Nat:=y.2.1.toNat;let x0:DRule:=List.getD y.2.2.1.2.1 x3 zRule;let x1:Int:=(↑x2:Int);Zi29_3 d s y→bif decide (y.2.1<x1) then(0:Int)≤y.2.1∧x3<x2∧smallR x0∧y.2.2.2.1.1.length≤(40:Nat)∧firstP x0∧Zi29_7 d s (y.1,y.2.1,(0:Int),(matchesR x0 y.2.2.2.1.1,fun(x:Nat)=>false),(y.2.2.1.1,y.2.2.1.2.1,()),(y.2.2.2.1.1,y.2.2.2.1.2.1,()),()) (y.1,y.2.1,(0:Int),(matchesR x0 y.2.2.2.1.1,fun(x:Nat)=>false),(y.2.2.1.1,y.2.2.1.2.1,()),(y.2.2.2.1.1,y.2.2.2.1.2.1,()),())∧∀(y_1:List DMatch×Int×Int×(List DMatch×(Nat→Bool))×(ByteArray×List DRule×PUnit)×(List DItem×Int×PUnit)×PUnit),let x5:Nat:=y_1.2.2.1.toNat;let x7:Nat:=y_1.2.2.2.fst.1.length;let x4:List DMatch:=List.modify y_1.2.2.2.fst.1 x5 fun(x:DMatch)=>{Rule:=y_1.2.1,Ids:=x.Ids,Binds:=x.Binds:DMatch};let x6:Int:=(↑x7:Int);Zi29_7 d s (y.1,y.2.1,(0:Int),(matchesR x0 y.2.2.2.1.1,fun(x:Nat)=>false),(y.2.2.1.1,y.2.2.1.2.1,()),(y.2.2.2.1.1,y.2.2.2.1.2.1,()),()) y_1→bif decide (y_1.2.2.1<x6) then(0:Int)≤y_1.2.2.1∧x5<x7∧x5<x7∧y_1.2.2.2.fst.2 x5=false∧(0:Int)≤y_1.2.2.1∧x5<x4.length∧x5<x4.length∧y_1.2.2.2.fst.2 x5=false∧y_1.1.length+List.length [List.getD x4 x5 zMatch]≤(4294967296:Nat)∧Zi29_7 d s (y.1,y.2.1,(0:Int),(matchesR x0 y.2.2.2.1.1,fun(x:Nat)=>false),(y.2.2.1.1,y.2.2.1.2.1,()),(y.2.2.2.1.1,y.2.2.2.1.2.1,()),()) (y_1.1++[List.getD x4 x5 zMatch],y_1.2.1,IntKind.wrap IntKind.i64 (y_1.2.2.1+(1:Int)),(x4,fun(j:Nat)=>Nat.beq j x5||y_1.2.2.2.fst.2 j),(y_1.2.2.2.2.1.1,y_1.2.2.2.2.1.2.1,()),(y_1.2.2.2.2.2.1.1,y_1.2.2.2.2.2.1.2.1,()),())∧Zm29_7 d s (y_1.1++[List.getD x4 x5 zMatch],y_1.2.1,IntKind.wrap IntKind.i64 (y_1.2.2.1+(1:Int)),(x4,fun(j:Nat)=>Nat.beq j x5||y_1.2.2.2.fst.2 j),(y_1.2.2.2.2.1.1,y_1.2.2.2.2.1.2.1,()),(y_1.2.2.2.2.2.1.1,y_1.2.2.2.2.2.1.2.1,()),())<Zm29_7 d s y_1 else Zi29_3 d s (y_1.1,IntKind.wrap IntKind.i64 (y_1.2.1+(1:Int)),(y_1.2.2.2.2.1.1,y_1.2.2.2.2.1.2.1,()),(y_1.2.2.2.2.2.1.1,y_1.2.2.2.2.2.1.2.1,()),())∧Zm29_3 d s (y_1.1,IntKind.wrap IntKind.i64 (y_1.2.1+(1:Int)),(y_1.2.2.2.2.1.1,y_1.2.2.2.2.1.2.1,()),(y_1.2.2.2.2.2.1.1,y_1.2.2.2.2.2.1.2.1,()),())<Zm29_3 d s y else Lf [VL .eMatch y.1] [VL .eMatch (allM d.Rules s.Items)]) (by kernel_rfl)
 dsimp only
 obtain⟨hS,hD⟩:=hp1
 refine⟨⟨rfl,rfl,by omega,by omega,rfl⟩,?_⟩
 rintro⟨o,i,⟨b1,b2,⟨⟩⟩,⟨g1,g2,⟨⟩⟩,⟨⟩⟩ ⟨hb,hg,h1,h2,rfl⟩
 cases hb
 cases hg
 simp only
 refine if_dec (fun hc=> ?_) (fun hc=> ?_)
 ·have hm:List.getD d.Rules i.toNat zRule∈d.Rules:=getD_in (by omega)
  have hs:=hp0 _ hm
  have hl:=matches_len hs hS
  have hn:=allN_len hp0 hS (n:=i.toNat) (by omega)
  have hst:=allN_step d.Rules s.Items h1
  refine⟨by omega,by omega,hs,hS,hp2 _ hm,⟨rfl,rfl,rfl,rfl,by omega,by omega,fun _ _=>⟨rfl,rfl⟩,by simp⟩,?_⟩
  rintro⟨o',i',k,⟨xs,dd⟩,⟨b1,b2,⟨⟩⟩,⟨g1,g2,⟨⟩⟩,⟨⟩⟩ ⟨hi,hb,hg,hx,k1,k2,kd,ho⟩
  cases hb
  cases hg
  cases hi
  cases ho
  simp only at k2 kd hx⊢
  refine if_dec (fun hk=> ?_) (fun hk=> ?_)
  ·have ht:=take_step (matchesR (List.getD d.Rules i.toNat zRule) s.Items) zMatch k1 (by omega)
   have hd:=kd k.toNat (by omega)
   rw[wrap_i64 (n:=k+1) (by omega) (by omega)]
   refine⟨k1,by omega,by omega,hd.1,k1,by rw[zbf];omega,by rw[zbf];omega,hd.1,?_,⟨rfl,rfl,rfl,by rw[zbf];exact hx,by omega,by simp only;omega,fun j hj=>⟨dead_step k1 (fun j hj=>(kd j hj).1) j hj,?_⟩,?_⟩,by simp only[Zm29_7,zbf];omega⟩
   ·simp only[zce,zco,zaw,zbq,zbo];omega
   ·rw[mod_ne _ (by omega)];exact(kd j (by omega)).2
   ·rw[mod_self _ (by omega),hd.2]
    simp only[←ht,zef,zbr];rfl
  ·rw[take_all _ (by omega),←hst,wrap_i64 (n:=i+1) (by omega) (by omega)]
   exact⟨⟨rfl,rfl,by omega,by omega,rfl⟩,by simp only[Zm29_3];omega⟩
 ·have e:i.toNat=d.Rules.length:=by omega
  rw[e];exact Lf_rfl _
def Zh29:HH:=⟨_,Zo29⟩
theorem dr_ne{α:Type}{a b:List α}(z:α){i:Int}(h1:0≤i)(ha:i<a.length)(hb:i<b.length)(hR:a.drop i.toNat=b.drop i.toNat↔a=b)(h:List.getD a i.toNat z≠List.getD b i.toNat z):a≠b:=by
 rw[drop_step a z h1 ha,drop_step b z h1 hb] at hR
 exact fun e=>h (List.cons.inj (hR.2 e)).1
theorem dr_eq{α:Type}{a b:List α}(z:α){i:Int}(h1:0≤i)(ha:i<a.length)(hb:i<b.length)(hR:a.drop i.toNat=b.drop i.toNat↔a=b)(h:List.getD a i.toNat z=List.getD b i.toNat z):(a.drop (i+1).toNat=b.drop (i+1).toNat↔a=b):=by
 rw[drop_step a z h1 ha,drop_step b z h1 hb,h] at hR
 rw[←hR];simp
theorem dr_end{α:Type}{a b:List α}{i:Int}(ha:a.length≤i)(hb:b.length≤i)(hR:a.drop i.toNat=b.drop i.toNat↔a=b):a=b:=by
 rw[drop_end a ha,drop_end b hb] at hR
 exact hR.1 rfl
theorem len_eq{α:Type}{a b:List α}(h:((a.length:Int) !=(b.length:Int))=false):a.length=b.length:=by
 have h:(a.length:Int)=b.length:=by simpa using h
 omega
theorem ne_len{α:Type}{a b:List α}(h:¬(a.length:Int)=b.length):a≠b:=fun e=>h (by rw[e])
def lessL:List Int→List Int→Bool
 |a::l,b::m=>if a=b then lessL l m else decide (a<b)
 |_,_=>false
def cmpL:List Int→List Int→Int
 |[],[]=>0
 |[],_::_=> -1
 |_::_,[]=>1
 |a::l,b::m=>if cmpI a b=0 then cmpL l m else cmpI a b
def lessM(a b:DMatch):Bool:=if a.Rule=b.Rule then(if a.Ids.length=b.Ids.length then lessL a.Ids b.Ids else decide (a.Ids.length<b.Ids.length)) else decide (a.Rule<b.Rule)
def headM(a b:DMatch):Int:=orI [cmpI a.Rule b.Rule,cmpI a.Ids.length b.Ids.length]
def cmpM(a b:DMatch):Int:=if headM a b=0 then cmpL a.Ids b.Ids else headM a b
theorem cmpL_less:∀{a b:List Int},a.length=b.length→(cmpL a b<0↔lessL a b=true)
 |[],[],_=>by simp[cmpL,lessL]
 |a::l,b::m,h=>by
  simp only[cmpL,lessL,cmpI_zero]
  split
  ·exact cmpL_less (by simpa using h)
  ·rw[cmpI_neg];simp
theorem cmpM_less(a b:DMatch):decide (cmpM a b<0)=lessM a b:=by
 have e:headM a b=if a.Rule=b.Rule then(if a.Ids.length=b.Ids.length then 0 else cmpI a.Ids.length b.Ids.length) else cmpI a.Rule b.Rule:=by
  simp only[headM,orI,cmpI_zero,Int.natCast_inj]
 simp only[cmpM,lessM,e]
 by_cases h:a.Rule=b.Rule
 ·simp only[if_pos h]
  by_cases g:a.Ids.length=b.Ids.length
  ·simp only[if_pos g,if_true]
   rw[←Bool.coe_iff_coe,decide_eq_true_iff,cmpL_less g]
  ·simp only[if_neg g]
   have g':¬cmpI a.Ids.length b.Ids.length=0:=by rw[cmpI_zero];omega
   rw[if_neg g',decide_eq_decide,cmpI_neg];omega
 ·have h':¬cmpI a.Rule b.Rule=0:=by rw[cmpI_zero];exact h
  simp only[if_neg h,if_neg h']
  rw[decide_eq_decide,cmpI_neg]
def salOf(d:DDef)(m:DMatch):Int:=(List.getD d.Rules m.Rule.toNat zRule).Sal
def urgentM(d:DDef)(a b:DMatch):Bool:=hasR d a&&hasR d b&&(decide (salOf d b<salOf d a)||(decide (salOf d a=salOf d b)&&lessM a b))
def sameM(m x:DMatch):Bool:=decide (x.Rule=m.Rule∧x.Ids=m.Ids)
def firedHas(l:List DMatch)(m:DMatch):Bool:=l.any (sameM m)
def freshM(d:DDef)(fired:List DMatch)(m:DMatch):Bool:=hasR d m&& !firedHas fired m
def pickStep(d:DDef)(fired:List DMatch)(o:Option DMatch)(m:DMatch):Option DMatch:=
 if(freshM d fired m&&(match o with|none=>true|some b=>urgentM d m b))=true then some m else o
def pickM(d:DDef)(set fired:List DMatch):Option DMatch:=set.foldl (pickStep d fired) none
def pickV(o:Option DMatch):DMatch:=match o with|some m=>m|none=>zMatch
theorem pick_step(d:DDef)(fired l:List DMatch)(o:Option DMatch){i:Int}(h0:0≤i)(h:i<l.length):(l.drop i.toNat).foldl (pickStep d fired) o=(l.drop (i+1).toNat).foldl (pickStep d fired) (pickStep d fired o (List.getD l i.toNat zMatch)):=by
 rw[drop_step l zMatch h0 h];rfl
def daMatch(x:DMatch):DA UU:=⟨true,[.lit (.int .i64 x.Rule),.sl .int x.Ids,.sl .eBind x.Binds]⟩
theorem anyI_any{α:Type}(q:α→Bool)(l:List α)(z:α):anyI l.length (fun j=>q (List.getD l j z))=l.any q:=by
 cases h:l.any q with
 |false=>
  refine anyI_false fun j hj=> ?_
  rw[List.any_eq_false] at h
  simpa using h _ (getD_in (z:=z) hj)
 |true=>
  obtain⟨x,hx,hq⟩:=zbb.1 h
  obtain⟨j,hj,rfl⟩:=zbk hx
  exact anyI_true hj (by rw[zac,zad hj];exact hq)
theorem pick_old{d:DDef}{fired:List DMatch}{o:Option DMatch}{m:DMatch}(h:freshM d fired m=false):pickStep d fired o m=o:=by unfold pickStep;rw[h,zbi];rfl
theorem pick_first{d:DDef}{fired:List DMatch}{m:DMatch}(h:freshM d fired m=true):pickStep d fired none m=some m:=by unfold pickStep;rw[h];rfl
theorem pick_more{d:DDef}{fired:List DMatch}{m b:DMatch}(h:freshM d fired m=true)(g:urgentM d m b=true):pickStep d fired (some b) m=some m:=by simp only[pickStep,h,g];rfl
theorem pick_less{d:DDef}{fired:List DMatch}{m b:DMatch}(g:urgentM d m b=false):pickStep d fired (some b) m=some b:=by simp only[pickStep,g,zbs];rfl
def Zk268:Con UU where
 α:=(List Int)×(List Int)
 md:=[.ro,.ro]
 of:=oC (oL .int) (o1 (oL .int))
 ds:=fun x=>[dL .int x.1,dL .int x.2]
 pre:=fun _=>[]
 res:=fun(a,b)=>⟨[dO (decide (a=b))],true,[]⟩
 law:=lC (lL .int) (l1 (lL .int))
def Zi268_4(a:(List Int))(b:(List Int)):Int×Unit→Prop:=fun(i,_)=>0≤i∧i≤a.length∧a.length=b.length∧(a.drop i.toNat=b.drop i.toNat↔a=b)
def Zm268_4(a:(List Int))(b:(List Int)):Int×Unit→Nat:=fun(i,_)=>a.length-i.toNat
def Za268:Zk268.α→Nat→Option (Ann UU):=fun(a,b)=>annL [(4,annOf [.slot 13 (13,1024) (.lit (.int .i64))] (fun _=>Zi268_4 a b) (Zm268_4 a b))]
def Zu268:List (FuncId×Con UU):=[]
theorem Zo268:Holds EE (268,Zk268):=by
 refine holds_of EE_ok func268 Zk268 (by kernel_rfl) Zu268 all_nil Za268 (fun x hp hb=> ?_)
 obtain⟨a,b⟩:=x
 have hl_a:a.length≤9223372036854775807:=bdL (hb _ m0)
 have hl_b:b.length≤9223372036854775807:=bdL (hb _ m1)
 clear hp hb
 apply @ve _ (bif (a.length:Int) !=(b.length:Int) then Lb false (decide (a=b)) else Zi268_4 a b ((0:Int),())∧∀(y:Int×PUnit),Zi268_4 a b y→bif decide (y.1<(a.length:Int)) then(0:Int)≤y.1∧y.1.toNat<a.length∧(0:Int)≤y.1∧y.1.toNat<b.length∧bif List.getD a y.1.toNat (0:Int) !=List.getD b y.1.toNat (0:Int) then Lb false (decide (a=b)) else Zi268_4 a b (IntKind.wrap IntKind.i64 (y.1+(1:Int)),())∧Zm268_4 a b (IntKind.wrap IntKind.i64 (y.1+(1:Int)),())<Zm268_4 a b y else Lb true (decide (a=b))) (by kernel_rfl)
 refine if_cond (fun h=>Lf_f ?_) (fun h=>⟨?_,?_⟩)
 ·rintro rfl;simp at h
 ·simp[Zi268_4] at*;omega
 rintro⟨i,⟨⟩⟩ ⟨h1,h2,h3,hR⟩
 simp only at*
 refine if_cond (fun hc=> ?_) (fun hc=> ?_)
 ·have hc:i<a.length:=by simpa using hc
  rw[drop_step a (0:Int) h1 hc,drop_step b (0:Int) h1 (by omega)] at hR
  rw[wrap_i64 (by omega) (by omega)]
  skip
  refine⟨by omega,by omega,by omega,by omega,if_cond (fun h=>Lf_f ?_) (fun h=>⟨⟨by omega,by omega,h3,?_⟩,?_⟩)⟩
  ·rw[←hR];simp at h;simp[h]
  ·rw[←hR];simp at h;simp[h]
  ·simp only[Zm268_4];omega
 ·have hc:a.length≤i:=by simpa using hc
  rw[drop_end a hc,drop_end b (by omega)] at hR
  exact Lf_t (hR.1 rfl)
def Zh268:HH:=⟨_,Zo268⟩
def Zk209:Con UU where
 α:=DMatch×DMatch
 md:=[.ro,.ro]
 of:=oC (oA .eMatch) (o1 (oA .eMatch))
 ds:=fun x=>[dA .eMatch x.1,dA .eMatch x.2]
 pre:=fun _=>[]
 res:=fun(a,b)=>⟨[dO (decide (a.Rule=b.Rule∧a.Ids=b.Ids))],true,[]⟩
 law:=lC (lA .eMatch) (l1 (lA .eMatch))
def Za209:Zk209.α→Nat→Option (Ann UU):=fun(a,b)=>annL []
def Zu209:=us [Zh268]
theorem Zo209:Holds EE (209,Zk209):=by
 refine holds_of EE_ok func209 Zk209 (by kernel_rfl) Zu209 (us_ok _) Za209 (fun x hp hb=> ?_)
 obtain⟨a,b⟩:=x
 have hz0:=bd_eMatch (x:=a) (hb _ m0)
 have hl_a_Ids:=hz0.1
 have hl_a_Binds:=hz0.2
 have hz1:=bd_eMatch (x:=b) (hb _ m1)
 have hl_b_Ids:=hz1.1
 have hl_b_Binds:=hz1.2
 clear hp hb
 apply @ve _ (bif a.Rule==b.Rule then Lb (decide (a.Ids=b.Ids)) (decide (a.Rule=b.Rule∧a.Ids=b.Ids)) else Lb false (decide (a.Rule=b.Rule∧a.Ids=b.Ids))) (by kernel_rfl)
 refine if_cond (fun h=>Lf_b ?_) (fun h=>Lf_b ?_)<;>grind
def Zh209:HH:=⟨_,Zo209⟩
def Zk290:Con UU where
 α:=(List Int)×(List Int)
 md:=[.ro,.ro]
 of:=oC (oL .int) (o1 (oL .int))
 ds:=fun x=>[dL .int x.1,dL .int x.2]
 pre:=fun _=>[]
 res:=fun(a,b)=>⟨[dO (decide (a=b))],true,[]⟩
 law:=lC (lL .int) (l1 (lL .int))
def Zi290_4(a:(List Int))(b:(List Int)):Int×Unit→Prop:=fun(i,_)=>0≤i∧i≤a.length∧a.length=b.length∧(a.drop i.toNat=b.drop i.toNat↔a=b)
def Zm290_4(a:(List Int))(b:(List Int)):Int×Unit→Nat:=fun(i,_)=>a.length-i.toNat
def Za290:Zk290.α→Nat→Option (Ann UU):=fun(a,b)=>annL [(4,annOf [.slot 5 (5,1024) (.lit (.int .i64))] (fun _=>Zi290_4 a b) (Zm290_4 a b))]
def Zu290:List (FuncId×Con UU):=[]
theorem Zo290:Holds EE (290,Zk290):=by
 refine holds_of EE_ok func290 Zk290 (by kernel_rfl) Zu290 all_nil Za290 (fun x hp hb=> ?_)
 obtain⟨a,b⟩:=x
 have hl_a:a.length≤9223372036854775807:=bdL (hb _ m0)
 have hl_b:b.length≤9223372036854775807:=bdL (hb _ m1)
 clear hp hb
 apply @ve _ (bif (a.length:Int) !=(b.length:Int) then Lb false (decide (a=b)) else Zi290_4 a b ((0:Int),())∧∀(y:Int×PUnit),Zi290_4 a b y→bif decide (y.1<(a.length:Int)) then(0:Int)≤y.1∧y.1.toNat<a.length∧(0:Int)≤y.1∧y.1.toNat<b.length∧bif List.getD a y.1.toNat (0:Int) !=List.getD b y.1.toNat (0:Int) then Lb false (decide (a=b)) else Zi290_4 a b (IntKind.wrap IntKind.i64 (y.1+(1:Int)),())∧Zm290_4 a b (IntKind.wrap IntKind.i64 (y.1+(1:Int)),())<Zm290_4 a b y else Lb true (decide (a=b))) (by kernel_rfl)
 refine if_cond (fun h=>Lf_f (ne_len (by simpa using h))) (fun h=>⟨⟨by omega,by omega,(len_eq (a:=a) (b:=b) (by assumption)),by simp⟩,?_⟩)
 rintro⟨i,⟨⟩⟩ ⟨h1,h2,h3,hR⟩
 simp only
 refine if_cond (fun hc=> ?_) (fun hc=> ?_)
 ·have hc:i<a.length:=of_decide_eq_true hc
  rw[wrap_i64 (by omega) (by omega)]
  try simp only[val_beq]
  try simp only[toList_beq]
  have hz:True:=trivial
  repeat' (first|refine And.intro (by omega) ?_|refine if_cond (fun h=> ?_) (fun h=> ?_))
  all_goals first|exact Lf_f (dr_ne (0:Int) h1 hc (by omega) hR (by first|grind|(rw[hz];grind)))|exact⟨⟨by omega,by omega,h3,dr_eq (0:Int) h1 hc (by omega) hR (by first|grind|(rw[hz];grind))⟩,by simp only[Zm290_4];omega⟩
 ·have hc:a.length≤i:=by have:=of_decide_eq_false hc;omega
  exact Lf_t (dr_end hc (by omega) hR)
def Zh290:HH:=⟨_,Zo290⟩
def Zk256:Con UU where
 α:=DMatch×DMatch
 md:=[.ro,.ro]
 of:=oC (oA .eMatch) (o1 (oA .eMatch))
 ds:=fun x=>[dA .eMatch x.1,dA .eMatch x.2]
 pre:=fun _=>[]
 res:=fun(a,b)=>⟨[dO (decide (a.Rule=b.Rule∧a.Ids=b.Ids))],true,[]⟩
 law:=lC (lA .eMatch) (l1 (lA .eMatch))
def Za256:Zk256.α→Nat→Option (Ann UU):=fun(a,b)=>annL []
def Zu256:=us [Zh290]
theorem Zo256:Holds EE (256,Zk256):=by
 refine holds_of EE_ok func256 Zk256 (by kernel_rfl) Zu256 (us_ok _) Za256 (fun x hp hb=> ?_)
 obtain⟨a,b⟩:=x
 have hz0:=bd_eMatch (x:=a) (hb _ m0)
 have hl_a_Ids:=hz0.1
 have hl_a_Binds:=hz0.2
 have hz1:=bd_eMatch (x:=b) (hb _ m1)
 have hl_b_Ids:=hz1.1
 have hl_b_Binds:=hz1.2
 clear hp hb
 apply @ve _ (bif a.Rule==b.Rule then Lb (decide (a.Ids=b.Ids)) (decide (a.Rule=b.Rule∧a.Ids=b.Ids)) else Lb false (decide (a.Rule=b.Rule∧a.Ids=b.Ids))) (by kernel_rfl)
 refine if_cond (fun h=>Lf_b ?_) (fun h=>Lf_b ?_)<;>grind
def Zh256:HH:=⟨_,Zo256⟩
def Zk298:Con UU where
 α:=(List Int)×(List Int)
 md:=[.ro,.ro]
 of:=oC (oL .int) (o1 (oL .int))
 ds:=fun x=>[dL .int x.1,dL .int x.2]
 pre:=fun _=>[]
 res:=fun(a,b)=>⟨[dI (cmpL a b)],true,[]⟩
 law:=lC (lL .int) (l1 (lL .int))
def Zi298_2(a:(List Int))(b:(List Int)):Int×Unit→Prop:=fun(i,_)=>0≤i∧i≤a.length∧(i≤b.length∧cmpL (a.drop i.toNat) (b.drop i.toNat)=cmpL a b)
def Zm298_2(a:(List Int))(b:(List Int)):Int×Unit→Nat:=fun(i,_)=>a.length-i.toNat
def Za298:Zk298.α→Nat→Option (Ann UU):=fun(a,b)=>annL [(2,annOf [.slot 11 (11,1024) (.lit (.int .i64))] (fun _=>Zi298_2 a b) (Zm298_2 a b))]
def Zu298:=us [Zh297]
theorem Zo298:Holds EE (298,Zk298):=by
 refine holds_of EE_ok func298 Zk298 (by kernel_rfl) Zu298 (us_ok _) Za298 (fun x hp hb=> ?_)
 obtain⟨a,b⟩:=x
 have hl_a:a.length≤9223372036854775807:=bdL (hb _ m0)
 have hl_b:b.length≤9223372036854775807:=bdL (hb _ m1)
 clear hp hb
 apply @ve _ (let x0:Int:=(b.length:Int);let x1:Int:=(a.length:Int);Zi298_2 a b ((0:Int),())∧∀(y:Int×PUnit),let x2:Int:=cmpI (List.getD a y.1.toNat (0:Int)) (List.getD b y.1.toNat (0:Int));Zi298_2 a b y→bif decide (y.1<x1) then(0:Int)≤y.1∧y.1.toNat<a.length∧bif decide (y.1≥x0) then Li (1:Int) (cmpL a b) else(0:Int)≤y.1∧y.1.toNat<b.length∧bif x2 !=(0:Int) then Li x2 (cmpL a b) else Zi298_2 a b (IntKind.wrap IntKind.i64 (y.1+(1:Int)),())∧Zm298_2 a b (IntKind.wrap IntKind.i64 (y.1+(1:Int)),())<Zm298_2 a b y else bif decide (x1<x0) then Li (-1:Int) (cmpL a b) else Li (0:Int) (cmpL a b)) (by kernel_rfl)
 dsimp only
 refine⟨⟨by omega,by omega,by omega,rfl⟩,?_⟩
 rintro⟨i,⟨⟩⟩ ⟨h1,h2,h3,hR⟩
 simp only
 refine if_dec (fun hc=> ?_) (fun hc=> ?_)
 ·rw[wrap_i64 (by omega) (by omega)]
  rw[drop_step a (0:Int) h1 hc] at hR
  refine⟨by omega,by omega,if_dec (fun g=> ?_) (fun g=>⟨by omega,by omega,?_⟩)⟩
  ·rw[drop_end b (by omega)] at hR;exact Lf_i hR
  ·rw[drop_step b (0:Int) h1 (by omega)] at hR
   simp only[cmpL] at hR
   refine if_neq (fun e=> ?_) (fun e=> ?_)
   ·rw[if_neg e] at hR;exact Lf_i hR
   ·rw[if_pos e] at hR;exact⟨⟨by omega,by omega,by omega,hR⟩,by simp only[Zm298_2];omega⟩
 ·rw[drop_end a (by omega)] at hR
  refine if_dec (fun g=> ?_) (fun g=> ?_)
  ·rw[drop_step b (0:Int) h1 (by omega)] at hR;exact Lf_i hR
  ·rw[drop_end b (by omega)] at hR;exact Lf_i hR
def Zh298:HH:=⟨_,Zo298⟩
def Zk269:Con UU where
 α:=DMatch×DMatch
 md:=[.ro,.ro]
 of:=oC (oA .eMatch) (o1 (oA .eMatch))
 ds:=fun x=>[dA .eMatch x.1,dA .eMatch x.2]
 pre:=fun _=>[]
 res:=fun(a,b)=>⟨[dI (cmpM a b)],true,[]⟩
 law:=lC (lA .eMatch) (l1 (lA .eMatch))
def Za269:Zk269.α→Nat→Option (Ann UU):=fun(a,b)=>annL []
def Zu269:=us [Zh297,Zh296,Zh298]
theorem Zo269:Holds EE (269,Zk269):=by
 refine holds_of EE_ok func269 Zk269 (by kernel_rfl) Zu269 (us_ok _) Za269 (fun x hp hb=> ?_)
 obtain⟨a,b⟩:=x
 have hz0:=bd_eMatch (x:=a) (hb _ m0)
 have hl_a_Ids:=hz0.1
 have hl_a_Binds:=hz0.2
 have hz1:=bd_eMatch (x:=b) (hb _ m1)
 have hl_b_Ids:=hz1.1
 have hl_b_Binds:=hz1.2
 clear hp hb
 apply @ve _ (let x0:Int:=orI [cmpI a.Rule b.Rule,cmpI (a.Ids.length:Int) (b.Ids.length:Int)];bif x0==(0:Int) then Li (cmpL a.Ids b.Ids) (cmpM a b) else Li x0 (cmpM a b)) (by kernel_rfl)
 dsimp only
 refine if_num (fun h=>Lf_i ?_) (fun h=>Lf_i ?_)
 ·exact(if_pos (show headM a b=0 from h)).symm
 ·exact(if_neg (show¬headM a b=0 from h)).symm
def Zh269:HH:=⟨_,Zo269⟩
def Zk210:Con UU where
 α:=DMatch×DMatch
 md:=[.ro,.ro]
 of:=oC (oA .eMatch) (o1 (oA .eMatch))
 ds:=fun x=>[dA .eMatch x.1,dA .eMatch x.2]
 pre:=fun _=>[]
 res:=fun(a,b)=>⟨[dO (lessM a b)],true,[]⟩
 law:=lC (lA .eMatch) (l1 (lA .eMatch))
def Za210:Zk210.α→Nat→Option (Ann UU):=fun(a,b)=>annL []
def Zu210:=us [Zh269]
theorem Zo210:Holds EE (210,Zk210):=by
 refine holds_of EE_ok func210 Zk210 (by kernel_rfl) Zu210 (us_ok _) Za210 (fun x hp hb=> ?_)
 obtain⟨a,b⟩:=x
 have hz0:=bd_eMatch (x:=a) (hb _ m0)
 have hl_a_Ids:=hz0.1
 have hl_a_Binds:=hz0.2
 have hz1:=bd_eMatch (x:=b) (hb _ m1)
 have hl_b_Ids:=hz1.1
 have hl_b_Binds:=hz1.2
 clear hp hb
 apply @ve _ (Lb (decide (cmpM a b<(0:Int))) (lessM a b)) (by kernel_rfl)
 exact Lf_b (cmpM_less a b)
def Zh210:HH:=⟨_,Zo210⟩
def Zk257:Con UU where
 α:=DMatch×DMatch
 md:=[.ro,.ro]
 of:=oC (oA .eMatch) (o1 (oA .eMatch))
 ds:=fun x=>[dA .eMatch x.1,dA .eMatch x.2]
 pre:=fun _=>[]
 res:=fun(a,b)=>⟨[dO (lessM a b)],true,[]⟩
 law:=lC (lA .eMatch) (l1 (lA .eMatch))
def Zi257_6(a:DMatch)(b:DMatch):Int×(Int×List Int×List DBind×Unit)×(Int×List Int×List DBind×Unit)×Unit→Prop:=fun(i,p,q,_)=>p=(a.Rule,a.Ids,a.Binds,())∧q=(b.Rule,b.Ids,b.Binds,())∧0≤i∧i≤a.Ids.length∧a.Ids.length=b.Ids.length∧lessL (a.Ids.drop i.toNat) (b.Ids.drop i.toNat)=lessL a.Ids b.Ids
def Zm257_6(a:DMatch)(b:DMatch):Int×(Int×List Int×List DBind×Unit)×(Int×List Int×List DBind×Unit)×Unit→Nat:=fun(i,p,q,_)=>a.Ids.length-i.toNat
def Za257:Zk257.α→Nat→Option (Ann UU):=fun(a,b)=>annL [(6,annOf [.slot 5 (5,1024) (.lit (.int .i64)),.box 2 (2,1024) [.lit (.int .i64),.shr .int,.shr .eBind],.box 3 (3,1024) [.lit (.int .i64),.shr .int,.shr .eBind]] (fun _=>Zi257_6 a b) (Zm257_6 a b))]
def Zu257:List (FuncId×Con UU):=[]
theorem Zo257:Holds EE (257,Zk257):=by
 refine holds_of EE_ok func257 Zk257 (by kernel_rfl) Zu257 all_nil Za257 (fun x hp hb=> ?_)
 obtain⟨a,b⟩:=x
 have hz0:=bd_eMatch (x:=a) (hb _ m0)
 have hl_a_Ids:=hz0.1
 have hl_a_Binds:=hz0.2
 have hz1:=bd_eMatch (x:=b) (hb _ m1)
 have hl_b_Ids:=hz1.1
 have hl_b_Binds:=hz1.2
 clear hp hb
 apply @ve _ (let x0:Int:=(a.Ids.length:Int);let x1:Int:=(b.Ids.length:Int);bif a.Rule !=b.Rule then Lb (decide (a.Rule<b.Rule)) (lessM a b) else bif x0 !=x1 then Lb (decide (x0<x1)) (lessM a b) else Zi257_6 a b ((0:Int),(a.Rule,a.Ids,a.Binds,()),(b.Rule,b.Ids,b.Binds,()),())∧∀(y:Int×(Int×List Int×List DBind×PUnit)×(Int×List Int×List DBind×PUnit)×PUnit),let x2:Int:=List.getD y.2.2.1.2.1 y.1.toNat (0:Int);let x3:Int:=List.getD y.2.1.2.1 y.1.toNat (0:Int);let x5:Nat:=y.2.1.2.1.length;let x4:Int:=(↑x5:Int);Zi257_6 a b y→bif decide (y.1<x4) then(0:Int)≤y.1∧y.1.toNat<x5∧(0:Int)≤y.1∧y.1.toNat<y.2.2.1.2.1.length∧bif x3 !=x2 then(0:Int)≤y.1∧y.1.toNat<x5∧(0:Int)≤y.1∧y.1.toNat<y.2.2.1.2.1.length∧Lb (decide (x3<x2)) (lessM a b) else Zi257_6 a b (IntKind.wrap IntKind.i64 (y.1+(1:Int)),(y.2.1.1,y.2.1.2.1,y.2.1.2.2.1,()),(y.2.2.1.1,y.2.2.1.2.1,y.2.2.1.2.2.1,()),())∧Zm257_6 a b (IntKind.wrap IntKind.i64 (y.1+(1:Int)),(y.2.1.1,y.2.1.2.1,y.2.1.2.2.1,()),(y.2.2.1.1,y.2.2.1.2.1,y.2.2.1.2.2.1,()),())<Zm257_6 a b y else Lb false (lessM a b)) (by kernel_rfl)
 dsimp only
 refine if_neq (fun h=>Lf_b (if_neg h).symm) (fun h=>if_neq (fun g=>Lf_b ?_) (fun g=> ?_))
 ·rw[lessM,if_pos h,if_neg (by omega),decide_eq_decide];omega
 have g:a.Ids.length=b.Ids.length:=by omega
 have eM:lessM a b=lessL a.Ids b.Ids:=by rw[lessM,if_pos h,if_pos g]
 refine⟨⟨rfl,rfl,by omega,by omega,g,rfl⟩,?_⟩
 rintro⟨i,⟨p1,p2,p3,⟨⟩⟩,⟨q1,q2,q3,⟨⟩⟩,⟨⟩⟩ ⟨hp,hq,h1,h2,h3,hR⟩
 cases hp
 cases hq
 simp only
 rw[eM]
 refine if_dec (fun hc=> ?_) (fun hc=> ?_)
 ·rw[drop_step a.Ids (0:Int) h1 hc,drop_step b.Ids (0:Int) h1 (by omega)] at hR
  simp only[lessL] at hR
  rw[wrap_i64 (by omega) (by omega)]
  refine⟨by omega,by omega,by omega,by omega,if_neq (fun e=>⟨by omega,by omega,by omega,by omega,Lf_b ?_⟩) (fun e=> ?_)⟩
  ·rw[if_neg e] at hR;exact hR
  ·rw[if_pos e] at hR;exact⟨⟨rfl,rfl,by omega,by omega,h3,hR⟩,by simp only[Zm257_6];omega⟩
 ·rw[drop_end a.Ids (by omega)] at hR
  exact Lf_ff hR.symm
def Zh257:HH:=⟨_,Zo257⟩
def Zk138:Con UU where
 α:=DDef×DMatch×DMatch
 md:=[.ro,.ro,.ro]
 of:=oC (oA .eDef) (oC (oA .eMatch) (o1 (oA .eMatch)))
 ds:=fun x=>[dA .eDef x.1,dA .eMatch x.2.1,dA .eMatch x.2.2]
 pre:=fun _=>[]
 res:=fun(d,a,b)=>⟨[dO (urgentM d a b)],true,[]⟩
 law:=lC (lA .eDef) (lC (lA .eMatch) (l1 (lA .eMatch)))
def Za138:Zk138.α→Nat→Option (Ann UU):=fun(d,a,b)=>annL []
def Zu138:=us [Zh99,Zh210]
theorem Zo138:Holds EE (138,Zk138):=by
 refine holds_of EE_ok func138 Zk138 (by kernel_rfl) Zu138 (us_ok _) Za138 (fun x hp hb=> ?_)
 obtain⟨d,a,b⟩:=x
 have hz0:=bd_eDef (x:=d) (hb _ m0)
 have hl_d_Name:=hz0.1
 have hl_d_Rules:=hz0.2
 have hz1:=bd_eMatch (x:=a) (hb _ m1)
 have hl_a_Ids:=hz1.1
 have hl_a_Binds:=hz1.2
 have hz2:=bd_eMatch (x:=b) (hb _ m2)
 have hl_b_Ids:=hz2.1
 have hl_b_Binds:=hz2.2
 clear hp hb
 apply @ve _ (let x0:Int:=(List.getD d.Rules a.Rule.toNat zRule).Sal;let x1:Int:=(List.getD d.Rules b.Rule.toNat zRule).Sal;bif !hasR d a then Lb false (urgentM d a b) else bif !hasR d b then Lb false (urgentM d a b) else(0:Int)≤a.Rule∧a.Rule.toNat<d.Rules.length∧(0:Int)≤b.Rule∧b.Rule.toNat<d.Rules.length∧bif decide (x0>x1) then Lb true (urgentM d a b) else bif x0==x1 then Lb (lessM a b) (urgentM d a b) else Lb false (urgentM d a b)) (by kernel_rfl)
 dsimp only
 refine if_not (fun h=>Lf_ff ?_) (fun h=>if_not (fun h'=>Lf_ff ?_) (fun h'=> ?_))
 ·have h:hasR d a=false:=h
  rw[urgentM,h];rfl
 ·have h':hasR d b=false:=h'
  rw[urgentM,h',zbs];rfl
 have h:hasR d a=true:=h
 have h':hasR d b=true:=h'
 obtain⟨a1,a2⟩:=hasR_iff h
 obtain⟨b1,b2⟩:=hasR_iff h'
 have e:urgentM d a b=(decide (salOf d b<salOf d a)||(decide (salOf d a=salOf d b)&&lessM a b)):=by rw[urgentM,h,h'];rfl
 refine⟨a1,by omega,b1,by omega,if_dec (fun g=>Lf_tt ?_) (fun g=>if_num (fun g'=>Lf_b ?_) (fun g'=>Lf_ff ?_))⟩
 ·rw[e,decide_eq_true (show salOf d b<salOf d a from g)];rfl
 ·rw[e,decide_eq_false (show¬salOf d b<salOf d a from g),decide_eq_true (show salOf d a=salOf d b from g')];rfl
 ·rw[e,decide_eq_false (show¬salOf d b<salOf d a from g),decide_eq_false (show¬salOf d a=salOf d b from g')];rfl
def Zh138:HH:=⟨_,Zo138⟩
def Zk190:Con UU where
 α:=DDef×DMatch×DMatch
 md:=[.ro,.ro,.ro]
 of:=oC (oA .eDef) (oC (oA .eMatch) (o1 (oA .eMatch)))
 ds:=fun x=>[dA .eDef x.1,dA .eMatch x.2.1,dA .eMatch x.2.2]
 pre:=fun _=>[]
 res:=fun(d,a,b)=>⟨[dO (urgentM d a b)],true,[]⟩
 law:=lC (lA .eDef) (lC (lA .eMatch) (l1 (lA .eMatch)))
def Za190:Zk190.α→Nat→Option (Ann UU):=fun(d,a,b)=>annL []
def Zu190:=us [Zh39,Zh257]
theorem Zo190:Holds EE (190,Zk190):=by
 refine holds_of EE_ok func190 Zk190 (by kernel_rfl) Zu190 (us_ok _) Za190 (fun x hp hb=> ?_)
 obtain⟨d,a,b⟩:=x
 have hz0:=bd_eDef (x:=d) (hb _ m0)
 have hl_d_Name:=hz0.1
 have hl_d_Rules:=hz0.2
 have hz1:=bd_eMatch (x:=a) (hb _ m1)
 have hl_a_Ids:=hz1.1
 have hl_a_Binds:=hz1.2
 have hz2:=bd_eMatch (x:=b) (hb _ m2)
 have hl_b_Ids:=hz2.1
 have hl_b_Binds:=hz2.2
 clear hp hb
 apply @ve _ (let x0:Int:=(List.getD d.Rules b.Rule.toNat zRule).Sal;let x1:Int:=(List.getD d.Rules a.Rule.toNat zRule).Sal;bif !hasR d a then Lb false (urgentM d a b) else bif !hasR d b then Lb false (urgentM d a b) else(0:Int)≤a.Rule∧a.Rule.toNat<d.Rules.length∧(0:Int)≤b.Rule∧b.Rule.toNat<d.Rules.length∧bif decide (x1>x0) then Lb true (urgentM d a b) else bif x1==x0 then Lb (lessM a b) (urgentM d a b) else Lb false (urgentM d a b)) (by kernel_rfl)
 dsimp only
 refine if_not (fun h=>Lf_ff ?_) (fun h=>if_not (fun h'=>Lf_ff ?_) (fun h'=> ?_))
 ·have h:hasR d a=false:=h
  rw[urgentM,h];rfl
 ·have h':hasR d b=false:=h'
  rw[urgentM,h',zbs];rfl
 have h:hasR d a=true:=h
 have h':hasR d b=true:=h'
 obtain⟨a1,a2⟩:=hasR_iff h
 obtain⟨b1,b2⟩:=hasR_iff h'
 have e:urgentM d a b=(decide (salOf d b<salOf d a)||(decide (salOf d a=salOf d b)&&lessM a b)):=by rw[urgentM,h,h'];rfl
 refine⟨a1,by omega,b1,by omega,if_dec (fun g=>Lf_tt ?_) (fun g=>if_num (fun g'=>Lf_b ?_) (fun g'=>Lf_ff ?_))⟩
 ·rw[e,decide_eq_true (show salOf d b<salOf d a from g)];rfl
 ·rw[e,decide_eq_false (show¬salOf d b<salOf d a from g),decide_eq_true (show salOf d a=salOf d b from g')];rfl
 ·rw[e,decide_eq_false (show¬salOf d b<salOf d a from g),decide_eq_false (show¬salOf d a=salOf d b from g')];rfl
def Zh190:HH:=⟨_,Zo190⟩
def Zk208:Con UU where
 α:=DMatch×DMatch
 md:=[.ro,.ro]
 of:=oC (oA .eMatch) (o1 (oP .eMatch))
 ds:=fun x=>[dA .eMatch x.1,dP .eMatch x.2]
 pre:=fun _=>[]
 res:=fun(x,m)=>⟨[dO (sameM m x)],true,[]⟩
 law:=lC (lA .eMatch) (l1 (lP .eMatch))
def Za208:Zk208.α→Nat→Option (Ann UU):=fun(x,m)=>annL []
def Zu208:=us [Zh209]
theorem Zo208:Holds EE (208,Zk208):=by
 refine holds_of EE_ok func208 Zk208 (by kernel_rfl) Zu208 (us_ok _) Za208 (fun x hp hb=> ?_)
 obtain⟨x,m⟩:=x
 have hz0:=bd_eMatch (x:=x) (hb _ m0)
 have hl_x_Ids:=hz0.1
 have hl_x_Binds:=hz0.2
 have hz1:=bdP_eMatch (x:=m) (hb _ m1)
 have hl_m_Ids:=hz1.1
 have hl_m_Binds:=hz1.2
 clear hp hb
 apply @ve _ (Lb (decide (x.Rule=m.Rule∧x.Ids=m.Ids)) (sameM m x)) (by kernel_rfl)
 exact Lf_rfl _
def Zh208:HH:=⟨_,Zo208⟩
def Zk267:Con UU where
 α:=(List DMatch)×(List (DA UU)→Option Value)
 md:=[.ro,.ro]
 of:=oC (oL .eMatch) (o1 oF)
 ds:=fun x=>[dL .eMatch x.1,dF x.2]
 pre:=fun(l,p)=>[∀j:Nat,j<l.length→p [daMatch (List.getD l j zMatch)]=some (.bool (boolOf (p [daMatch (List.getD l j zMatch)])))]
 res:=fun(l,p)=>⟨[dI (idxI l.length (fun j=>boolOf (p [daMatch (List.getD l j zMatch)])))],true,[]⟩
 law:=lC (lL .eMatch) (l1 lF)
def Zi267_2(l:(List DMatch))(p:(List (DA UU)→Option Value)):Int×Unit→Prop:=fun(i,_)=>0≤i∧i≤l.length∧∀j:Nat,(j:Int)<i→boolOf (p [daMatch (List.getD l j zMatch)])=false
def Zm267_2(l:(List DMatch))(p:(List (DA UU)→Option Value)):Int×Unit→Nat:=fun(i,_)=>l.length-i.toNat
def Za267:Zk267.α→Nat→Option (Ann UU):=fun(l,p)=>annL [(2,annOf [.slot 8 (8,1024) (.lit (.int .i64))] (fun _=>Zi267_2 l p) (Zm267_2 l p))]
def Zu267:List (FuncId×Con UU):=[]
theorem Zo267:Holds EE (267,Zk267):=by
 refine holds_of EE_ok func267 Zk267 (by kernel_rfl) Zu267 all_nil Za267 (fun x hp hb=> ?_)
 obtain⟨l,p⟩:=x
 have hl_l:l.length≤9223372036854775807:=bdL (hb _ m0)
 have hp0:∀j:Nat,j<l.length→p [daMatch (List.getD l j zMatch)]=some (.bool (boolOf (p [daMatch (List.getD l j zMatch)]))):=hp _ m0
 clear hp hb
 apply @ve _ (Zi267_2 l p ((0:Int),())∧∀(y:Int×PUnit),let x1:DMatch:=List.getD l y.1.toNat zMatch;let x0:Bool:=boolOf (p [{agg:=true,cs:=[CI x1.Rule,CL .int x1.Ids,CL .eBind x1.Binds]:DA UU}]);Zi267_2 l p y→bif decide (y.1<(l.length:Int)) then(0:Int)≤y.1∧y.1.toNat<l.length∧p [{agg:=true,cs:=[CI x1.Rule,CL .int x1.Ids,CL .eBind x1.Binds]:DA UU}]=some (Value.bool x0)∧bif x0 then Li y.1 (idxI (l.length) fun(j:Nat)=>boolOf (p [daMatch (List.getD l j zMatch)])) else Zi267_2 l p (IntKind.wrap IntKind.i64 (y.1+(1:Int)),())∧Zm267_2 l p (IntKind.wrap IntKind.i64 (y.1+(1:Int)),())<Zm267_2 l p y else Li (-1:Int) (idxI (l.length) fun(j:Nat)=>boolOf (p [daMatch (List.getD l j zMatch)]))) (by kernel_rfl)
 dsimp only
 refine⟨⟨by omega,by omega,by intro j hj;omega⟩,?_⟩
 rintro⟨i,⟨⟩⟩ ⟨h1,h2,hR⟩
 simp only[daMatch] at*
 refine if_cond (fun hc=> ?_) (fun hc=> ?_)
 ·have hc:=of_decide_eq_true hc
  rw[wrap_i64 (by omega) (by omega)]
  refine⟨by omega,by omega,hp0 i.toNat (by omega),if_cond (fun h=>Lf_i ?_) (fun h=>⟨⟨by omega,by omega,upto_no (p:=fun j=>boolOf (p [daMatch (List.getD l j zMatch)])) h1 hR h⟩,by simp only[Zm267_2];omega⟩)⟩
  rw[idxI_found (i:=i.toNat) (by omega) h (fun j hj=>hR j (by omega))]
  omega
 ·have hc:=of_decide_eq_false hc
  exact Lf_i (idxI_none (fun j hj=>hR j (by omega))).symm
def Zh267:HH:=⟨_,Zo267⟩
def Zk207:Con UU where
 α:=(List DMatch)×(List (DA UU)→Option Value)
 md:=[.ro,.ro]
 of:=oC (oL .eMatch) (o1 oF)
 ds:=fun x=>[dL .eMatch x.1,dF x.2]
 pre:=fun(l,p)=>[∀j:Nat,j<l.length→p [daMatch (List.getD l j zMatch)]=some (.bool (boolOf (p [daMatch (List.getD l j zMatch)])))]
 res:=fun(l,p)=>⟨[dO (anyI l.length (fun j=>boolOf (p [daMatch (List.getD l j zMatch)])))],true,[]⟩
 law:=lC (lL .eMatch) (l1 lF)
def Za207:Zk207.α→Nat→Option (Ann UU):=fun(l,p)=>annL []
def Zu207:=us [Zh267]
theorem Zo207:Holds EE (207,Zk207):=by
 refine holds_of EE_ok func207 Zk207 (by kernel_rfl) Zu207 (us_ok _) Za207 (fun x hp hb=> ?_)
 obtain⟨l,p⟩:=x
 have hl_l:l.length≤9223372036854775807:=bdL (hb _ m0)
 have hp0:∀j:Nat,j<l.length→p [daMatch (List.getD l j zMatch)]=some (.bool (boolOf (p [daMatch (List.getD l j zMatch)]))):=hp _ m0
 clear hp hb
 apply @ve _ (let x0:Int:=idxI (l.length) fun(j:Nat)=>boolOf (p [daMatch (List.getD l j zMatch)]);(∀(j:Nat),j<l.length→p [daMatch (List.getD l j zMatch)]=some (Value.bool (boolOf (p [daMatch (List.getD l j zMatch)]))))∧Lb (decide (x0≥(0:Int))) (anyI (l.length) fun(j:Nat)=>boolOf (p [daMatch (List.getD l j zMatch)]))) (by kernel_rfl)
 dsimp only
 exact⟨hp0,Lf_b (by rw[←idxI_ge])⟩
def Zh207:HH:=⟨_,Zo207⟩
def Zk137:Con UU where
 α:=(List DMatch)×DMatch
 md:=[.ro,.ro]
 of:=oC (oL .eMatch) (o1 (oA .eMatch))
 ds:=fun x=>[dL .eMatch x.1,dA .eMatch x.2]
 pre:=fun _=>[]
 res:=fun(l,m)=>⟨[dO (firedHas l m)],true,[]⟩
 law:=lC (lL .eMatch) (l1 (lA .eMatch))
def Za137:Zk137.α→Nat→Option (Ann UU):=fun(l,m)=>annL []
def Zu137:=us [Zh207,Zh208]
theorem Zo137:Holds EE (137,Zk137):=by
 refine holds_of EE_ok func137 Zk137 (by kernel_rfl) Zu137 (us_ok _) Za137 (fun x hp hb=> ?_)
 obtain⟨l,m⟩:=x
 have hl_l:l.length≤9223372036854775807:=bdL (hb _ m0)
 have hz1:=bd_eMatch (x:=m) (hb _ m1)
 have hl_m_Ids:=hz1.1
 have hl_m_Binds:=hz1.2
 clear hp hb
 apply @ve _ ((∀(j:Nat),j<l.length→closP Zk208 [DV.ptr [CI m.Rule,CL .int m.Ids,CL .eBind m.Binds]] [daMatch (List.getD l j zMatch)]=some (Value.bool (boolOf (closP Zk208 [DV.ptr [CI m.Rule,CL .int m.Ids,CL .eBind m.Binds]] [daMatch (List.getD l j zMatch)]))))∧Lb (anyI (l.length) fun(j:Nat)=>boolOf (closP Zk208 [DV.ptr [CI m.Rule,CL .int m.Ids,CL .eBind m.Binds]] [daMatch (List.getD l j zMatch)])) (firedHas l m)) (by kernel_rfl)
 have hc:∀x:DMatch,closP Zk208 [.ptr [.lit (.int .i64 m.Rule),.sl .int m.Ids,.sl .eBind m.Binds]] [daMatch x]=some (.bool (sameM m x)):=fun x=>closP_of (x:=(x,m)) rfl rfl rfl rfl (by simp[Zk208])
 refine⟨fun j hj=> ?_,Lf_b ?_⟩
 ·show closP Zk208 [.ptr [.lit (.int .i64 m.Rule),.sl .int m.Ids,.sl .eBind m.Binds]] [daMatch (List.getD l j zMatch)]=_
  rw[hc];rfl
 ·refine(anyI_congr fun j hj=> ?_).trans (anyI_any (sameM m) l zMatch)
  show boolOf (closP Zk208 [.ptr [.lit (.int .i64 m.Rule),.sl .int m.Ids,.sl .eBind m.Binds]] [daMatch (List.getD l j zMatch)])=_
  rw[hc];rfl
def Zh137:HH:=⟨_,Zo137⟩
def Zk189:Con UU where
 α:=(List DMatch)×DMatch
 md:=[.ro,.ro]
 of:=oC (oL .eMatch) (o1 (oA .eMatch))
 ds:=fun x=>[dL .eMatch x.1,dA .eMatch x.2]
 pre:=fun _=>[]
 res:=fun(l,m)=>⟨[dO (firedHas l m)],true,[]⟩
 law:=lC (lL .eMatch) (l1 (lA .eMatch))
def Zi189_2(l:(List DMatch))(m:DMatch):Int×(Int×List Int×List DBind×Unit)×Unit→Prop:=fun(i,b,_)=>b=(m.Rule,m.Ids,m.Binds,())∧0≤i∧i≤l.length∧(l.drop i.toNat).any (sameM m)=firedHas l m
def Zm189_2(l:(List DMatch))(m:DMatch):Int×(Int×List Int×List DBind×Unit)×Unit→Nat:=fun(i,b,_)=>l.length-i.toNat
def Za189:Zk189.α→Nat→Option (Ann UU):=fun(l,m)=>annL [(2,annOf [.slot 5 (5,1024) (.lit (.int .i64)),.box 3 (3,1024) [.lit (.int .i64),.shr .int,.shr .eBind]] (fun _=>Zi189_2 l m) (Zm189_2 l m))]
def Zu189:=us [Zh256]
theorem Zo189:Holds EE (189,Zk189):=by
 refine holds_of EE_ok func189 Zk189 (by kernel_rfl) Zu189 (us_ok _) Za189 (fun x hp hb=> ?_)
 obtain⟨l,m⟩:=x
 have hl_l:l.length≤9223372036854775807:=bdL (hb _ m0)
 have hz1:=bd_eMatch (x:=m) (hb _ m1)
 have hl_m_Ids:=hz1.1
 have hl_m_Binds:=hz1.2
 clear hp hb
 apply @ve _ (Zi189_2 l m ((0:Int),(m.Rule,m.Ids,m.Binds,()),())∧∀(y:Int×(Int×List Int×List DBind×PUnit)×PUnit),Zi189_2 l m y→bif decide (y.1<(l.length:Int)) then(0:Int)≤y.1∧y.1.toNat<l.length∧bif decide ((List.getD l y.1.toNat zMatch).Rule=y.2.1.1∧(List.getD l y.1.toNat zMatch).Ids=y.2.1.2.1) then Lb true (firedHas l m) else Zi189_2 l m (IntKind.wrap IntKind.i64 (y.1+(1:Int)),(y.2.1.1,y.2.1.2.1,y.2.1.2.2.1,()),())∧Zm189_2 l m (IntKind.wrap IntKind.i64 (y.1+(1:Int)),(y.2.1.1,y.2.1.2.1,y.2.1.2.2.1,()),())<Zm189_2 l m y else Lb false (firedHas l m)) (by kernel_rfl)
 refine⟨⟨rfl,by omega,by omega,rfl⟩,?_⟩
 rintro⟨i,⟨b1,b2,b3,⟨⟩⟩,⟨⟩⟩ ⟨hb,h1,h2,hR⟩
 cases hb
 simp only
 refine if_dec (fun hc=> ?_) (fun hc=> ?_)
 ·rw[any_step _ _ zMatch h1 hc] at hR
  rw[wrap_i64 (by omega) (by omega)]
  refine⟨by omega,by omega,if_cond (fun g=>Lf_tt ?_) (fun g=>⟨⟨rfl,by omega,by omega,?_⟩,by simp only[Zm189_2];omega⟩)⟩
  ·rw[←hR,show sameM m (List.getD l i.toNat zMatch)=true from g,Bool.true_or]
  ·rw[←hR,show sameM m (List.getD l i.toNat zMatch)=false from g,zcw]
 ·rw[drop_end _ (by omega)] at hR
  exact Lf_ff hR.symm
def Zh189:HH:=⟨_,Zo189⟩
def Zk191:Con UU where
 α:=DMatch
 md:=[.ro]
 of:=o1 (oA .eMatch)
 ds:=fun x=>[dA .eMatch x]
 pre:=fun m=>[m.Ids.length≤4294967296,m.Binds.length≤4294967296]
 res:=fun m=>⟨[dA .eMatch m],true,[]⟩
 law:=l1 (lA .eMatch)
def Za191:Zk191.α→Nat→Option (Ann UU):=fun m=>annL []
def Zu191:List (FuncId×Con UU):=[]
theorem Zo191:Holds EE (191,Zk191):=by
 refine holds_of EE_ok func191 Zk191 (by kernel_rfl) Zu191 all_nil Za191 (fun(m:DMatch) hp hb=> ?_)
 have hz0:=bd_eMatch (x:=m) (hb _ m0)
 have hl_m_Ids:=hz0.1
 have hl_m_Binds:=hz0.2
 have hp0:m.Ids.length≤4294967296:=hp _ m0
 have hp1:m.Binds.length≤4294967296:=hp _ m1
 clear hp hb
 apply @ve _ ((0:Nat)+m.Ids.length≤(4294967296:Nat)∧(0:Nat)+m.Binds.length≤(4294967296:Nat)∧Lf [DV.agg [CI m.Rule,CL .int ([]++m.Ids),CL .eBind ([]++m.Binds)]] [DV.agg [CI m.Rule,CL .int m.Ids,CL .eBind m.Binds]]) (by kernel_rfl)
 have q1:(0:Nat)+m.Ids.length≤4294967296:=by omega
 have q2:(0:Nat)+m.Binds.length≤4294967296:=by omega
 exact⟨q1,q2,Lf_rfl _⟩
def Zh191:HH:=⟨_,Zo191⟩
def Zk59:Con UU where
 α:=DDef×(List DMatch)×(List DMatch)
 md:=[.ro,.ro,.ro]
 of:=oC (oA .eDef) (oC (oL .eMatch) (o1 (oL .eMatch)))
 ds:=fun x=>[dA .eDef x.1,dL .eMatch x.2.1,dL .eMatch x.2.2]
 pre:=fun(d,set,fired)=>[∀m,m∈set→m.Ids.length≤4294967296∧m.Binds.length≤4294967296]
 res:=fun(d,set,fired)=>⟨[dA .eMatch (pickV (pickM d set fired)),dO ((pickM d set fired).isSome)],true,[]⟩
 law:=lC (lA .eDef) (lC (lL .eMatch) (l1 (lL .eMatch)))
def Zi59_4(d:DDef)(set:(List DMatch))(fired:(List DMatch)):Bool×Int×(ByteArray×List DRule×Unit)×(Int×List Int×List DBind×Unit)×(Int×List Int×List DBind×Unit)×Unit→Prop:=fun(f,i,b,q,o,_)=>b=(d.Name,d.Rules,())∧0≤i∧i≤set.length∧∃c:Option DMatch,f=c.isSome∧o=((pickV c).Rule,(pickV c).Ids,(pickV c).Binds,())∧(∀m,c=some m→m∈set)∧(set.drop i.toNat).foldl (pickStep d fired) c=pickM d set fired
def Zm59_4(d:DDef)(set:(List DMatch))(fired:(List DMatch)):Bool×Int×(ByteArray×List DRule×Unit)×(Int×List Int×List DBind×Unit)×(Int×List Int×List DBind×Unit)×Unit→Nat:=fun(f,i,b,q,o,_)=>set.length-i.toNat
def Za59:Zk59.α→Nat→Option (Ann UU):=fun(d,set,fired)=>annL [(4,annOf [.slot 9 (9,1024) (.lit .bool),.slot 14 (14,1024) (.lit (.int .i64)),.box 3 (3,1024) [.lit .str,.shr .eRule],.box 6 (6,1024) [.lit (.int .i64),.own .int true,.own .eBind true],.box 8 (8,1024) [.lit (.int .i64),.shr .int,.shr .eBind]] (fun _=>Zi59_4 d set fired) (Zm59_4 d set fired))]
def Zu59:=us [Zh99,Zh137,Zh138,Zh139]
theorem Zo59:Holds EE (59,Zk59):=by
 refine holds_of EE_ok func59 Zk59 (by kernel_rfl) Zu59 (us_ok _) Za59 (fun x hp hb=> ?_)
 obtain⟨d,set,fired⟩:=x
 have hz0:=bd_eDef (x:=d) (hb _ m0)
 have hl_d_Name:=hz0.1
 have hl_d_Rules:=hz0.2
 have hl_set:set.length≤9223372036854775807:=bdL (hb _ m1)
 have hl_fired:fired.length≤9223372036854775807:=bdL (hb _ m2)
 have hp0:∀m,m∈set→m.Ids.length≤4294967296∧m.Binds.length≤4294967296:=hp _ m0
 clear hp hb
 apply @ve _ (Zi59_4 d set fired (false,(0:Int),(d.Name,d.Rules,()),((0:Int),[],[],()),((0:Int),[],[],()),())∧∀(y:Bool×Int×(ByteArray×List DRule×PUnit)×(Int×List Int×List DBind×PUnit)×(Int×List Int×List DBind×PUnit)×PUnit),let x1:DDef:={Name:=y.2.2.1.1,Rules:=y.2.2.1.2.1:DDef};let x2:Int:=IntKind.wrap IntKind.i64 (y.2.1+(1:Int));let x3:Nat:=y.2.1.toNat;let x0:DMatch:=List.getD set x3 zMatch;Zi59_4 d set fired y→bif decide (y.2.1<(set.length:Int)) then(0:Int)≤y.2.1∧x3<set.length∧bif !hasR x1 x0 then Zi59_4 d set fired (y.1,x2,(y.2.2.1.1,y.2.2.1.2.1,()),(y.2.2.2.1.1,y.2.2.2.1.2.1,y.2.2.2.1.2.2.1,()),(y.2.2.2.2.1.1,y.2.2.2.2.1.2.1,y.2.2.2.2.1.2.2.1,()),())∧Zm59_4 d set fired (y.1,x2,(y.2.2.1.1,y.2.2.1.2.1,()),(y.2.2.2.1.1,y.2.2.2.1.2.1,y.2.2.2.1.2.2.1,()),(y.2.2.2.2.1.1,y.2.2.2.2.1.2.1,y.2.2.2.2.1.2.2.1,()),())<Zm59_4 d set fired y else bif firedHas fired x0 then Zi59_4 d set fired (y.1,x2,(y.2.2.1.1,y.2.2.1.2.1,()),(y.2.2.2.1.1,y.2.2.2.1.2.1,y.2.2.2.1.2.2.1,()),(y.2.2.2.2.1.1,y.2.2.2.2.1.2.1,y.2.2.2.2.1.2.2.1,()),())∧Zm59_4 d set fired (y.1,x2,(y.2.2.1.1,y.2.2.1.2.1,()),(y.2.2.2.1.1,y.2.2.2.1.2.1,y.2.2.2.1.2.2.1,()),(y.2.2.2.2.1.1,y.2.2.2.2.1.2.1,y.2.2.2.2.1.2.2.1,()),())<Zm59_4 d set fired y else bif !y.1 then Zi59_4 d set fired (true,x2,(y.2.2.1.1,y.2.2.1.2.1,()),(y.2.2.2.1.1,y.2.2.2.1.2.1,y.2.2.2.1.2.2.1,()),(x0.Rule,x0.Ids,x0.Binds,()),())∧Zm59_4 d set fired (true,x2,(y.2.2.1.1,y.2.2.1.2.1,()),(y.2.2.2.1.1,y.2.2.2.1.2.1,y.2.2.2.1.2.2.1,()),(x0.Rule,x0.Ids,x0.Binds,()),())<Zm59_4 d set fired y else bif urgentM x1 x0 {Rule:=y.2.2.2.2.1.1,Ids:=y.2.2.2.2.1.2.1,Binds:=y.2.2.2.2.1.2.2.1:DMatch} then Zi59_4 d set fired (true,x2,(y.2.2.1.1,y.2.2.1.2.1,()),(y.2.2.2.1.1,y.2.2.2.1.2.1,y.2.2.2.1.2.2.1,()),(x0.Rule,x0.Ids,x0.Binds,()),())∧Zm59_4 d set fired (true,x2,(y.2.2.1.1,y.2.2.1.2.1,()),(y.2.2.2.1.1,y.2.2.2.1.2.1,y.2.2.2.1.2.2.1,()),(x0.Rule,x0.Ids,x0.Binds,()),())<Zm59_4 d set fired y else Zi59_4 d set fired (y.1,x2,(y.2.2.1.1,y.2.2.1.2.1,()),(y.2.2.2.1.1,y.2.2.2.1.2.1,y.2.2.2.1.2.2.1,()),(y.2.2.2.2.1.1,y.2.2.2.2.1.2.1,y.2.2.2.2.1.2.2.1,()),())∧Zm59_4 d set fired (y.1,x2,(y.2.2.1.1,y.2.2.1.2.1,()),(y.2.2.2.1.1,y.2.2.2.1.2.1,y.2.2.2.1.2.2.1,()),(y.2.2.2.2.1.1,y.2.2.2.2.1.2.1,y.2.2.2.2.1.2.2.1,()),())<Zm59_4 d set fired y else y.2.2.2.2.1.2.1.length≤(4294967296:Nat)∧y.2.2.2.2.1.2.2.1.length≤(4294967296:Nat)∧Lf [DV.agg [CI y.2.2.2.2.1.1,CL .int y.2.2.2.2.1.2.1,CL .eBind y.2.2.2.2.1.2.2.1],VB y.1] [DV.agg [CI ((pickV (pickM d set fired)).Rule),CL .int (pickV (pickM d set fired)).Ids,CL .eBind (pickV (pickM d set fired)).Binds],VB (Option.isSome (pickM d set fired))]) (by kernel_rfl)
 dsimp only
 refine⟨⟨rfl,by omega,by omega,none,rfl,rfl,(fun _ h=>by cases h),rfl⟩,?_⟩
 rintro⟨f,i,⟨b1,b2,⟨⟩⟩,⟨q1,q2,q3,⟨⟩⟩,⟨o1,o2,o3,⟨⟩⟩,⟨⟩⟩ ⟨hb,h1,h2,c,hf,ho,hm,hR⟩
 cases hb
 cases hf
 cases ho
 simp only at h1 h2 hR⊢
 refine if_dec (fun hc=> ?_) (fun hc=> ?_)
 ·rw[pick_step d fired set c h1 hc] at hR
  have hin:List.getD set i.toNat zMatch∈set:=getD_in (by omega)
  have nxt:∀c',pickStep d fired c (List.getD set i.toNat zMatch)=c'→(∀m,c'=some m→m∈set)→Zi59_4 d set fired (c'.isSome,IntKind.wrap .i64 (i+1),(d.Name,d.Rules,()),(q1,q2,q3,()),((pickV c').Rule,(pickV c').Ids,(pickV c').Binds,()),())∧Zm59_4 d set fired (c'.isSome,IntKind.wrap .i64 (i+1),(d.Name,d.Rules,()),(q1,q2,q3,()),((pickV c').Rule,(pickV c').Ids,(pickV c').Binds,()),())<Zm59_4 d set fired (c.isSome,i,(d.Name,d.Rules,()),(q1,q2,q3,()),((pickV c).Rule,(pickV c).Ids,(pickV c).Binds,()),()):=fun c' e g=>by
   rw[wrap_i64 (by omega) (by omega)]
   exact⟨⟨rfl,by omega,by omega,c',rfl,rfl,g,by rw[←e];exact hR⟩,by simp only[Zm59_4];omega⟩
  have hown:∀m,some (List.getD set i.toNat zMatch)=some m→m∈set:=fun m e=>by cases e;exact hin
  refine⟨h1,by omega,if_not (fun g=>nxt c (pick_old (by rw[freshM,show hasR d (List.getD set i.toNat zMatch)=false from g];rfl)) hm) (fun g=>if_cond (fun g'=>nxt c (pick_old (by rw[freshM,g',zfa,zbs])) hm) (fun g'=> ?_))⟩
  have hfr:freshM d fired (List.getD set i.toNat zMatch)=true:=by rw[freshM,show hasR d (List.getD set i.toNat zMatch)=true from g,g'];rfl
  cases c with
  |none=>exact if_not (fun _=>nxt _ (pick_first hfr) hown) (fun e=>by cases e)
  |some b=>exact if_not (fun e=>by cases e) (fun _=>if_cond (fun g3=>nxt _ (pick_more hfr g3) hown) (fun g3=>nxt _ (pick_less g3) hm))
 ·rw[drop_end _ (by omega)] at hR
  have hR:c=pickM d set fired:=hR
  rw[←hR]
  cases c with
  |none=>exact⟨Nat.zero_le _,Nat.zero_le _,Lf_rfl _⟩
  |some b=>exact⟨(hp0 b (hm b rfl)).1,(hp0 b (hm b rfl)).2,Lf_rfl _⟩
def Zh59:HH:=⟨_,Zo59⟩
def Zk122:Con UU where
 α:=DDef×(List DMatch)×(List DMatch)
 md:=[.ro,.ro,.ro]
 of:=oC (oA .eDef) (oC (oL .eMatch) (o1 (oL .eMatch)))
 ds:=fun x=>[dA .eDef x.1,dL .eMatch x.2.1,dL .eMatch x.2.2]
 pre:=fun(d,set,fired)=>[∀m,m∈set→m.Ids.length≤4294967296∧m.Binds.length≤4294967296]
 res:=fun(d,set,fired)=>⟨[dA .eMatch (pickV (pickM d set fired)),dO ((pickM d set fired).isSome)],true,[]⟩
 law:=lC (lA .eDef) (lC (lL .eMatch) (l1 (lL .eMatch)))
def Zi122_3(d:DDef)(set:(List DMatch))(fired:(List DMatch)):Int×Int×(ByteArray×List DRule×Unit)×(Int×List Int×List DBind×Unit)×Unit→Prop:=fun(e,i,b,q,_)=>b=(d.Name,d.Rules,())∧0≤i∧i≤set.length∧e<set.length∧-1≤e∧(set.drop i.toNat).foldl (pickStep d fired) (if e<0 then none else some (List.getD set e.toNat zMatch))=pickM d set fired
def Zm122_3(d:DDef)(set:(List DMatch))(fired:(List DMatch)):Int×Int×(ByteArray×List DRule×Unit)×(Int×List Int×List DBind×Unit)×Unit→Nat:=fun(e,i,b,q,_)=>set.length-i.toNat
def Za122:Zk122.α→Nat→Option (Ann UU):=fun(d,set,fired)=>annL [(3,annOf [.slot 8 (8,1024) (.lit (.int .i64)),.slot 9 (9,1024) (.lit (.int .i64)),.box 3 (3,1024) [.lit .str,.shr .eRule],.box 6 (6,1024) [.lit (.int .i64),.own .int true,.own .eBind true]] (fun _=>Zi122_3 d set fired) (Zm122_3 d set fired))]
def Zu122:=us [Zh39,Zh189,Zh190,Zh191]
theorem Zo122:Holds EE (122,Zk122):=by
 refine holds_of EE_ok func122 Zk122 (by kernel_rfl) Zu122 (us_ok _) Za122 (fun x hp hb=> ?_)
 obtain⟨d,set,fired⟩:=x
 have hz0:=bd_eDef (x:=d) (hb _ m0)
 have hl_d_Name:=hz0.1
 have hl_d_Rules:=hz0.2
 have hl_set:set.length≤9223372036854775807:=bdL (hb _ m1)
 have hl_fired:fired.length≤9223372036854775807:=bdL (hb _ m2)
 have hp0:∀m,m∈set→m.Ids.length≤4294967296∧m.Binds.length≤4294967296:=hp _ m0
 clear hp hb
 apply @ve _ (Zi122_3 d set fired ((-1:Int),(0:Int),(d.Name,d.Rules,()),((0:Int),[],[],()),())∧∀(y:Int×Int×(ByteArray×List DRule×PUnit)×(Int×List Int×List DBind×PUnit)×PUnit),let x0:DDef:={Name:=y.2.2.1.1,Rules:=y.2.2.1.2.1:DDef};let x2:Nat:=y.2.1.toNat;let x3:DMatch:=List.getD set y.1.toNat zMatch;let x4:Bool:=decide (y.1<(0:Int));let x1:DMatch:=List.getD set x2 zMatch;Zi122_3 d set fired y→bif decide (y.2.1<(set.length:Int)) then(0:Int)≤y.2.1∧x2<set.length∧bif hasR x0 x1 then(0:Int)≤y.2.1∧x2<set.length∧bif !firedHas fired x1 then bif x4 then Zi122_3 d set fired (y.2.1,IntKind.wrap IntKind.i64 (y.2.1+(1:Int)),(y.2.2.1.1,y.2.2.1.2.1,()),(y.2.2.2.1.1,y.2.2.2.1.2.1,y.2.2.2.1.2.2.1,()),())∧Zm122_3 d set fired (y.2.1,IntKind.wrap IntKind.i64 (y.2.1+(1:Int)),(y.2.2.1.1,y.2.2.1.2.1,()),(y.2.2.2.1.1,y.2.2.2.1.2.1,y.2.2.2.1.2.2.1,()),())<Zm122_3 d set fired y else(0:Int)≤y.2.1∧x2<set.length∧(0:Int)≤y.1∧y.1.toNat<set.length∧bif urgentM x0 x1 x3 then Zi122_3 d set fired (y.2.1,IntKind.wrap IntKind.i64 (y.2.1+(1:Int)),(y.2.2.1.1,y.2.2.1.2.1,()),(y.2.2.2.1.1,y.2.2.2.1.2.1,y.2.2.2.1.2.2.1,()),())∧Zm122_3 d set fired (y.2.1,IntKind.wrap IntKind.i64 (y.2.1+(1:Int)),(y.2.2.1.1,y.2.2.1.2.1,()),(y.2.2.2.1.1,y.2.2.2.1.2.1,y.2.2.2.1.2.2.1,()),())<Zm122_3 d set fired y else Zi122_3 d set fired (y.1,IntKind.wrap IntKind.i64 (y.2.1+(1:Int)),(y.2.2.1.1,y.2.2.1.2.1,()),(y.2.2.2.1.1,y.2.2.2.1.2.1,y.2.2.2.1.2.2.1,()),())∧Zm122_3 d set fired (y.1,IntKind.wrap IntKind.i64 (y.2.1+(1:Int)),(y.2.2.1.1,y.2.2.1.2.1,()),(y.2.2.2.1.1,y.2.2.2.1.2.1,y.2.2.2.1.2.2.1,()),())<Zm122_3 d set fired y else Zi122_3 d set fired (y.1,IntKind.wrap IntKind.i64 (y.2.1+(1:Int)),(y.2.2.1.1,y.2.2.1.2.1,()),(y.2.2.2.1.1,y.2.2.2.1.2.1,y.2.2.2.1.2.2.1,()),())∧Zm122_3 d set fired (y.1,IntKind.wrap IntKind.i64 (y.2.1+(1:Int)),(y.2.2.1.1,y.2.2.1.2.1,()),(y.2.2.2.1.1,y.2.2.2.1.2.1,y.2.2.2.1.2.2.1,()),())<Zm122_3 d set fired y else Zi122_3 d set fired (y.1,IntKind.wrap IntKind.i64 (y.2.1+(1:Int)),(y.2.2.1.1,y.2.2.1.2.1,()),(y.2.2.2.1.1,y.2.2.2.1.2.1,y.2.2.2.1.2.2.1,()),())∧Zm122_3 d set fired (y.1,IntKind.wrap IntKind.i64 (y.2.1+(1:Int)),(y.2.2.1.1,y.2.2.1.2.1,()),(y.2.2.2.1.1,y.2.2.2.1.2.1,y.2.2.2.1.2.2.1,()),())<Zm122_3 d set fired y else bif x4 then Lf [DV.agg [CI (0:Int),CL .int [],CL .eBind []],VB false] [DV.agg [CI ((pickV (pickM d set fired)).Rule),CL .int (pickV (pickM d set fired)).Ids,CL .eBind (pickV (pickM d set fired)).Binds],VB (Option.isSome (pickM d set fired))] else(0:Int)≤y.1∧y.1.toNat<set.length∧x3.Ids.length≤(4294967296:Nat)∧x3.Binds.length≤(4294967296:Nat)∧Lf [DV.agg [CI x3.Rule,CL .int x3.Ids,CL .eBind x3.Binds],VB true] [DV.agg [CI ((pickV (pickM d set fired)).Rule),CL .int (pickV (pickM d set fired)).Ids,CL .eBind (pickV (pickM d set fired)).Binds],VB (Option.isSome (pickM d set fired))]) (by kernel_rfl)
 dsimp only
 refine⟨⟨rfl,by omega,by omega,by omega,by omega,rfl⟩,?_⟩
 rintro⟨e,i,⟨b1,b2,⟨⟩⟩,⟨q1,q2,q3,⟨⟩⟩,⟨⟩⟩ ⟨hb,h1,h2,h3,h4,hR⟩
 cases hb
 simp only at h1 h2 h3 h4 hR⊢
 refine if_dec (fun hc=> ?_) (fun hc=> ?_)
 ·rw[pick_step d fired set _ h1 hc] at hR
  have nxt:∀e':Int,e'<set.length→-1≤e'→pickStep d fired (if e<0 then none else some (List.getD set e.toNat zMatch)) (List.getD set i.toNat zMatch)=(if e'<0 then none else some (List.getD set e'.toNat zMatch))→Zi122_3 d set fired (e',IntKind.wrap .i64 (i+1),(d.Name,d.Rules,()),(q1,q2,q3,()),())∧Zm122_3 d set fired (e',IntKind.wrap .i64 (i+1),(d.Name,d.Rules,()),(q1,q2,q3,()),())<Zm122_3 d set fired (e,i,(d.Name,d.Rules,()),(q1,q2,q3,()),()):=fun e' k1 k2 g=>by
   rw[wrap_i64 (by omega) (by omega)]
   exact⟨⟨rfl,by omega,by omega,k1,k2,by rw[←g];exact hR⟩,by simp only[Zm122_3];omega⟩
  have own:(if i<0 then none else some (List.getD set i.toNat zMatch))=some (List.getD set i.toNat zMatch):=if_neg (by omega)
  refine⟨h1,by omega,if_cond (fun g=>⟨h1,by omega,if_not (fun g'=> ?_) (fun g'=>nxt e h3 h4 (pick_old (by rw[freshM,show firedHas fired (List.getD set i.toNat zMatch)=true from g',zfa,zbs])))⟩) (fun g=>nxt e h3 h4 (pick_old (by rw[freshM,show hasR d (List.getD set i.toNat zMatch)=false from g];rfl)))⟩
  have hfr:freshM d fired (List.getD set i.toNat zMatch)=true:=by rw[freshM,show hasR d (List.getD set i.toNat zMatch)=true from g,show firedHas fired (List.getD set i.toNat zMatch)=false from g'];rfl
  refine if_dec (fun k=>nxt i (by omega) (by omega) ?_) (fun k=>⟨h1,by omega,by omega,by omega,if_cond (fun g3=>nxt i (by omega) (by omega) ?_) (fun g3=>nxt e h3 h4 ?_)⟩)
  ·rw[own,if_pos k,pick_first hfr]
  ·rw[own,if_neg k,pick_more hfr g3]
  ·rw[if_neg k,pick_less g3]
 ·rw[drop_end _ (by omega)] at hR
  refine if_dec (fun k=> ?_) (fun k=> ?_)
  ·rw[if_pos k] at hR
   have hR:none=pickM d set fired:=hR
   rw[←hR];exact Lf_rfl _
  ·rw[if_neg k] at hR
   have hR:some (List.getD set e.toNat zMatch)=pickM d set fired:=hR
   have hin:List.getD set e.toNat zMatch∈set:=getD_in (by omega)
   rw[←hR]
   exact⟨by omega,by omega,(hp0 _ hin).1,(hp0 _ hin).2,Lf_rfl _⟩
def Zh122:HH:=⟨_,Zo122⟩
theorem filter_take:∀(ps:List DPat),(∀i,i<ps.length→notAt ps i=decide (posN ps≤i))→∀k,k<posN ps→List.getD ps k zPat=List.getD (ps.filter fun p=> !p.Not) k zPat
 |[],_,k,hk=>by simp[posN] at hk
 |p::ps,h,k,hk=>by
  have h0:=h 0 (by simp)
  have e0:notAt (p::ps) 0=p.Not:=rfl
  rw[e0,posN_cons] at h0
  cases hp:p.Not with
  |true=>
   rw[hp] at h0
   have h0:=of_decide_eq_true h0.symm
   rw[posN_cons,hp] at hk
   simp only[if_true] at h0 hk;omega
  |false=>
   have ef:(p::ps).filter (fun p=> !p.Not)=p::ps.filter fun p=> !p.Not:=by rw[List.filter_cons,hp];rfl
   rw[ef]
   cases k with
   |zero=>rfl
   |succ k=>
    rw[posN_cons,hp] at hk
    refine filter_take ps (fun i hi=> ?_) k (by simp only[zbg,if_false] at hk;omega)
    have:=h (i+1) (by simpa using hi)
    rw[posN_cons,hp] at this
    show notAt ps i=_
    refine(show notAt ps i=notAt (p::ps) (i+1) from rfl).trans (this.trans ?_)
    rw[decide_eq_decide];simp only[zbg,if_false];omega
theorem rule_small{r:DRule}(h:ruleOk r=true):smallR r∧firstP r:=by
 simp only[ruleOk,zaf] at h
 have hp:patsOkI r.Pats=true:=by rw[patsOkI_eq];exact h.1.1.2
 simp only[patsOkI,zaf,decide_eq_true_eq,allI_all,patAtI,patOk,beq_iff_eq] at hp
 obtain⟨⟨h1,h2⟩,h3⟩:=hp
 refine⟨⟨h2.2,h1.2,fun p hp=> ?_⟩,fun k hk=>filter_take r.Pats (fun i hi=>(h3 i hi).2) k hk⟩
 obtain⟨j,hj,rfl⟩:=zbk hp
 have:=(h3 j hj).1.1.2
 rwa[zac,zad hj] at this
theorem def_small{d:DDef}(h:defOk d=true):(∀r,r∈d.Rules→smallR r∧firstP r)∧d.Rules.length≤12:=by
 simp only[defOk,zaf,decide_eq_true_eq,allI_all,defAtR] at h
 refine⟨fun r hr=> ?_,h.1.2.2⟩
 obtain⟨j,hj,rfl⟩:=zbk hr
 have:=(h.2 j hj).1
 rw[zac,zad hj] at this
 exact rule_small this
theorem rowsR_small(r:DRule)(s:List DItem):∀(ps:List DPat)(ids:List Int)(l:List DBind),(∀p,p∈ps→p.Args.length≤5)→∀m,m∈rowsR r s ps ids l→m.Ids.length=ids.length+ps.length∧m.Binds.length≤l.length+5*ps.length
 |[],ids,l,_,m,hm=>by
  simp only[rowsR] at hm
  split at hm
  ·rw[zau] at hm;subst hm;simp
  ·cases hm
 |p::ps,ids,l,h,m,hm=>by
  simp only[rowsR,zat] at hm
  obtain⟨x,hx,hm⟩:=hm
  split at hm
  ·rename_i more he
   have h1:=rowsR_small r s ps _ _ (fun q hq=>h q (by simp[hq])) m hm
   have h2:=matchP_len he
   have h3:=h p (by simp)
   simp only[zce,zbq,zbo] at h1⊢
   omega
  ·cases hm
theorem matches_small{r:DRule}{s:List DItem}(h:smallR r){m:DMatch}(hm:m∈matchesR r s):m.Ids.length≤3∧m.Binds.length≤15:=by
 have h2:(posR r).length≤3:=h.three
 have h1:=rowsR_small r s (posR r) [] [] (fun p hp=>h.args p (zcg.1 hp).1) m hm
 simp only[zbo] at h1
 omega
theorem all_small{rs:List DRule}{s:List DItem}(h:∀r,r∈rs→smallR r){m:DMatch}(hm:m∈allM rs s):m.Ids.length≤3∧m.Binds.length≤15:=by
 simp only[allM,allN,zat,zaz,zay] at hm
 obtain⟨i,hi,m',hm',rfl⟩:=hm
 exact matches_small (m:=m') (h _ (getD_in hi)) hm'
theorem pick_or(d:DDef)(fired:List DMatch)(o:Option DMatch)(x:DMatch):pickStep d fired o x=o∨pickStep d fired o x=some x:=by
 unfold pickStep
 generalize (freshM d fired x&&_)=b
 cases b<;>simp
theorem pick_mem{d:DDef}{fired:List DMatch}:∀{l:List DMatch}{o:Option DMatch}{m:DMatch},l.foldl (pickStep d fired) o=some m→m∈l∨o=some m
 |[],o,m,h=> .inr h
 |x::l,o,m,h=>by
  rcases pick_mem (l:=l) h with h|h
  ·exact .inl (by simp[h])
  ·rcases pick_or d fired o x with e|e
   ·exact .inr (e.symm.trans h)
   ·rw[e] at h;cases h;exact .inl (by simp)
theorem pickM_mem{d:DDef}{set fired:List DMatch}{m:DMatch}(h:pickM d set fired=some m):m∈set:=by
 rcases pick_mem h with h|h
 ·exact h
 ·cases h
def nextOk(d:DDef)(x:DInst):Bool:=decide (x.State=1)&&instOk d x
def nextM(d:DDef)(x:DInst):Option DMatch:=if nextOk d x=true then pickM d (allM d.Rules x.S.Items) x.Fired else none
theorem inst_parts{d:DDef}{x:DInst}(h:instOk d x=true):defOk d=true∧x.S.Items.length≤40:=by
 simp only[instOk,zaf] at h
 refine⟨h.1.1.1.1.1.1.1.1.1,?_⟩
 have hs:=h.1.1.1.1.1.1.1.1.2
 simp only[storeOk,zaf,decide_eq_true_eq] at hs
 exact hs.1.2
theorem next_small{d:DDef}{x:DInst}{m:DMatch}(h:nextM d x=some m):m.Ids.length≤3∧m.Binds.length≤15:=by
 unfold nextM at h
 split at h
 ·rename_i g
  simp only[nextOk,zaf] at g
  exact all_small (fun r hr=>((def_small (inst_parts g.2).1).1 r hr).1) (pickM_mem h)
 ·cases h
theorem next_no{d:DDef}{x:DInst}(h:nextOk d x=false):Lf [.agg [.lit (.int .i64 0),.sl .int [],.sl .eBind []],.one (.lit (.bool false))] [.agg [.lit (.int .i64 (pickV (nextM d x)).Rule),.sl .int (pickV (nextM d x)).Ids,.sl .eBind (pickV (nextM d x)).Binds],.one (.lit (.bool (nextM d x).isSome))]:=by
 have e:nextM d x=none:=if_neg (by rw[h];decide)
 rw[e];exact Lf_rfl _
def Zk51:Con UU where
 α:=DDef×DInst
 md:=[.ro,.ro]
 of:=oC (oA .eDef) (o1 (oA .eInst))
 ds:=fun x=>[dA .eDef x.1,dA .eInst x.2]
 pre:=fun(d,x)=>[defOk d=true,x.S.Items.length≤40]
 res:=fun(d,x)=>⟨[dA .eMatch (pickV (pickM d (allM d.Rules x.S.Items) x.Fired)),dO ((pickM d (allM d.Rules x.S.Items) x.Fired).isSome)],true,[]⟩
 law:=lC (lA .eDef) (l1 (lA .eInst))
def Za51:Zk51.α→Nat→Option (Ann UU):=fun(d,x)=>annL []
def Zu51:=us [Zh29,Zh122]
theorem Zo51:Holds EE (51,Zk51):=by
 refine holds_of EE_ok func51 Zk51 (by kernel_rfl) Zu51 (us_ok _) Za51 (fun x hp hb=> ?_)
 obtain⟨d,x⟩:=x
 have hz0:=bd_eDef (x:=d) (hb _ m0)
 have hl_d_Name:=hz0.1
 have hl_d_Rules:=hz0.2
 have hz1:=bd_eInst (x:=x) (hb _ m1)
 have hl_x_S_Items:=hz1.1
 have hl_x_Fired:=hz1.2.1
 have hl_x_Tasks:=hz1.2.2.1
 have hl_x_Timers:=hz1.2.2.2.1
 have hl_x_Undos:=hz1.2.2.2.2
 have hp0:defOk d=true:=hp _ m0
 have hp1:x.S.Items.length≤40:=hp _ m1
 clear hp hb
 apply @ve _ (let x0:DMatch:=pickV (pickM d (allM d.Rules x.S.Items) x.Fired);(∀(r:DRule),r∈d.Rules→smallR r)∧(x.S.Items.length≤(40:Nat)∧d.Rules.length≤(12:Nat))∧(∀(r:DRule),r∈d.Rules→firstP r)∧(∀(m:DMatch),m∈allM d.Rules x.S.Items→m.Ids.length≤(4294967296:Nat)∧m.Binds.length≤(4294967296:Nat))∧Lf [DV.agg [CI x0.Rule,CL .int x0.Ids,CL .eBind x0.Binds],VB (Option.isSome (pickM d (allM d.Rules x.S.Items) x.Fired))] [DV.agg [CI x0.Rule,CL .int x0.Ids,CL .eBind x0.Binds],VB (Option.isSome (pickM d (allM d.Rules x.S.Items) x.Fired))]) (by kernel_rfl)
 dsimp only
 have h:=def_small hp0
 exact⟨fun r hr=>(h.1 r hr).1,⟨hp1,h.2⟩,fun r hr=>(h.1 r hr).2,fun m hm=>by have:=all_small (fun r hr=>(h.1 r hr).1) hm;omega,Lf_rfl _⟩
def Zh51:HH:=⟨_,Zo51⟩
def Zk15:Con UU where
 α:=DDef×DInst
 md:=[.ro,.ro]
 of:=oC (oA .eDef) (o1 (oA .eInst))
 ds:=fun x=>[dA .eDef x.1,dA .eInst x.2]
 pre:=fun(d,x)=>[sizeDef d≤4294967295,sizeItemS x.S.Items≤4294967296]
 res:=fun(d,x)=>⟨[dA .eMatch (pickV (nextM d x)),dO ((nextM d x).isSome)],true,[]⟩
 law:=lC (lA .eDef) (l1 (lA .eInst))
def Za15:Zk15.α→Nat→Option (Ann UU):=fun(d,x)=>annL []
def Zu15:=us [Zh50,Zh51]
theorem Zo15:Holds EE (15,Zk15):=by
 refine holds_of EE_ok func15 Zk15 (by kernel_rfl) Zu15 (us_ok _) Za15 (fun x hp hb=> ?_)
 obtain⟨d,x⟩:=x
 have hz0:=bd_eDef (x:=d) (hb _ m0)
 have hl_d_Name:=hz0.1
 have hl_d_Rules:=hz0.2
 have hz1:=bd_eInst (x:=x) (hb _ m1)
 have hl_x_S_Items:=hz1.1
 have hl_x_Fired:=hz1.2.1
 have hl_x_Tasks:=hz1.2.2.1
 have hl_x_Timers:=hz1.2.2.2.1
 have hl_x_Undos:=hz1.2.2.2.2
 have hp0:sizeDef d≤4294967295:=hp _ m0
 have hp1:sizeItemS x.S.Items≤4294967296:=hp _ m1
 clear hp hb
 apply @ve _ (let x0:DMatch:=pickV (pickM d (allM d.Rules x.S.Items) x.Fired);sizeDef d≤(4294967295:Nat)∧sizeItemS x.S.Items≤(4294967296:Nat)∧bif !instOk d x then Lf [DV.agg [CI (0:Int),CL .int [],CL .eBind []],VB false] [DV.agg [CI ((pickV (nextM d x)).Rule),CL .int (pickV (nextM d x)).Ids,CL .eBind (pickV (nextM d x)).Binds],VB (Option.isSome (nextM d x))] else bif x.State !=(1:Int) then Lf [DV.agg [CI (0:Int),CL .int [],CL .eBind []],VB false] [DV.agg [CI ((pickV (nextM d x)).Rule),CL .int (pickV (nextM d x)).Ids,CL .eBind (pickV (nextM d x)).Binds],VB (Option.isSome (nextM d x))] else defOk d=true∧x.S.Items.length≤(40:Nat)∧Lf [DV.agg [CI x0.Rule,CL .int x0.Ids,CL .eBind x0.Binds],VB (Option.isSome (pickM d (allM d.Rules x.S.Items) x.Fired))] [DV.agg [CI ((pickV (nextM d x)).Rule),CL .int (pickV (nextM d x)).Ids,CL .eBind (pickV (nextM d x)).Binds],VB (Option.isSome (nextM d x))]) (by kernel_rfl)
 dsimp only
 refine⟨hp0,hp1,if_not (fun h=>next_no ?_) (fun h=>if_neq (fun g=>next_no ?_) (fun g=> ?_))⟩
 ·rw[nextOk,show instOk d x=false from h,zbs]
 ·rw[nextOk,decide_eq_false g];rfl
 ·have h:instOk d x=true:=h
  have e:nextM d x=pickM d (allM d.Rules x.S.Items) x.Fired:=if_pos (by rw[nextOk,h,decide_eq_true g];rfl)
  rw[e]
  exact⟨(inst_parts h).1,(inst_parts h).2,Lf_rfl _⟩
def Zh15:HH:=⟨_,Zo15⟩
def Zk18:Con UU where
 α:=DDef×DInst
 md:=[.ro,.ro]
 of:=oC (oA .eDef) (o1 (oA .eInst))
 ds:=fun x=>[dA .eDef x.1,dA .eInst x.2]
 pre:=fun(d,x)=>[sizeDef d≤4294967295,sizeItemS x.S.Items≤4294967296]
 res:=fun(d,x)=>⟨[dA .eMatch (pickV (nextM d x)),dO ((nextM d x).isSome)],true,[]⟩
 law:=lC (lA .eDef) (l1 (lA .eInst))
def Za18:Zk18.α→Nat→Option (Ann UU):=fun(d,x)=>annL []
def Zu18:=us [Zh58,Zh32,Zh59]
theorem Zo18:Holds EE (18,Zk18):=by
 refine holds_of EE_ok func18 Zk18 (by kernel_rfl) Zu18 (us_ok _) Za18 (fun x hp hb=> ?_)
 obtain⟨d,x⟩:=x
 have hz0:=bd_eDef (x:=d) (hb _ m0)
 have hl_d_Name:=hz0.1
 have hl_d_Rules:=hz0.2
 have hz1:=bd_eInst (x:=x) (hb _ m1)
 have hl_x_S_Items:=hz1.1
 have hl_x_Fired:=hz1.2.1
 have hl_x_Tasks:=hz1.2.2.1
 have hl_x_Timers:=hz1.2.2.2.1
 have hl_x_Undos:=hz1.2.2.2.2
 have hp0:sizeDef d≤4294967295:=hp _ m0
 have hp1:sizeItemS x.S.Items≤4294967296:=hp _ m1
 clear hp hb
 apply @ve _ (let x0:DMatch:=pickV (pickM d (allM d.Rules x.S.Items) x.Fired);bif x.State !=(1:Int) then Lf [DV.agg [CI (0:Int),CL .int [],CL .eBind []],VB false] [DV.agg [CI ((pickV (nextM d x)).Rule),CL .int (pickV (nextM d x)).Ids,CL .eBind (pickV (nextM d x)).Binds],VB (Option.isSome (nextM d x))] else sizeDef d≤(4294967295:Nat)∧sizeItemS x.S.Items≤(4294967296:Nat)∧bif !instOk d x then Lf [DV.agg [CI (0:Int),CL .int [],CL .eBind []],VB false] [DV.agg [CI ((pickV (nextM d x)).Rule),CL .int (pickV (nextM d x)).Ids,CL .eBind (pickV (nextM d x)).Binds],VB (Option.isSome (nextM d x))] else(∀(r:DRule),r∈d.Rules→smallR r)∧(x.S.Items.length≤(40:Nat)∧d.Rules.length≤(12:Nat))∧(∀(m:DMatch),m∈allM d.Rules x.S.Items→m.Ids.length≤(4294967296:Nat)∧m.Binds.length≤(4294967296:Nat))∧Lf [DV.agg [CI x0.Rule,CL .int x0.Ids,CL .eBind x0.Binds],VB (Option.isSome (pickM d (allM d.Rules x.S.Items) x.Fired))] [DV.agg [CI ((pickV (nextM d x)).Rule),CL .int (pickV (nextM d x)).Ids,CL .eBind (pickV (nextM d x)).Binds],VB (Option.isSome (nextM d x))]) (by kernel_rfl)
 dsimp only
 refine if_neq (fun g=>next_no ?_) (fun g=>⟨hp0,hp1,if_not (fun h=>next_no ?_) (fun h=> ?_)⟩)
 ·rw[nextOk,decide_eq_false g];rfl
 ·rw[nextOk,show instOk d x=false from h,zbs]
 ·have h:instOk d x=true:=h
  have e:nextM d x=pickM d (allM d.Rules x.S.Items) x.Fired:=if_pos (by rw[nextOk,h,decide_eq_true g];rfl)
  have hd:=def_small (inst_parts h).1
  rw[e]
  exact⟨fun r hr=>(hd.1 r hr).1,⟨(inst_parts h).2,hd.2⟩,fun m hm=>by have:=all_small (fun r hr=>(hd.1 r hr).1) hm;omega,Lf_rfl _⟩
def Zh18:HH:=⟨_,Zo18⟩
theorem ctS_const{α:Type}(c:α→Nat)(n:Nat)(h:∀x,c x=n)(l:List α):ctS c l=l.length*n:=by
 induction l with
 |nil=>simp[ctS]
 |cons x l ih=>
  simp only[ctS,zbt,zdc,zbq] at ih⊢
  rw[ih,h,Nat.succ_mul];omega
theorem next_ct(d:DDef)(x:DInst):ctMatch (pickV (nextM d x))≤100:=by
 cases h:nextM d x with
 |none=>decide
 |some m=>
  have hs:=next_small h
  have h1:=ctS_const (fun _:Int=>1) 1 (fun _=>rfl) m.Ids
  have h2:=ctS_const cntBind 4 (fun _=>rfl) m.Binds
  simp only[pickV,ctMatch,cntIntS,cntBindS]
  omega
def con_laws_FnExactNextOf:Con UU where
 α:=DDef×DInst
 md:=[.ro,.ro]
 of:=oC (oA .lDef) (o1 (oA .lInst))
 ds:=fun x=>[dA .lDef x.1,dA .lInst x.2]
 pre:=fun _=>[]
 res:=fun(aD,aX)=>⟨[dO true],true,[]⟩
 law:=lC (lA .lDef) (l1 (lA .lInst))
def ann_laws_FnExactNextOf:con_laws_FnExactNextOf.α→Nat→Option (Ann UU):=fun(aD,aX)=>annL []
def use_laws_FnExactNextOf:=us [Zh13,Zh14,Zh16,Zh17,Zh15,Zh18,Zh19,Zh20,Zh21,Zh22,Zh23,Zh24,Zh25]
theorem ok_laws_FnExactNextOf:Holds EE (4,con_laws_FnExactNextOf):=by
 refine holds_of EE_ok func4 con_laws_FnExactNextOf (by kernel_rfl) use_laws_FnExactNextOf (us_ok _) ann_laws_FnExactNextOf (fun x hp hb=> ?_)
 obtain⟨aD,aX⟩:=x
 have hz0:=bd_lDef (x:=aD) (hb _ m0)
 have hl_aD_Name:=hz0.1
 have hl_aD_Rules:=hz0.2
 have hz1:=bd_lInst (x:=aX) (hb _ m1)
 have hl_aX_S_Items:=hz1.1
 have hl_aX_Fired:=hz1.2.1
 have hl_aX_Tasks:=hz1.2.2.1
 have hl_aX_Timers:=hz1.2.2.2.1
 have hl_aX_Undos:=hz1.2.2.2.2
 clear hp hb
 apply @ve _ (let x2:DMatch:={Rule:=(pickV (nextM aD aX)).Rule,Ids:=(mkMatch (pickV (nextM aD aX)) (1:Int)).Ids,Binds:=(mkMatch (pickV (nextM aD aX)) (1:Int)).Binds:DMatch};let x3:Bool:= !Option.isSome (nextM aD aX)==Option.isSome (nextM aD aX);let x4:Int:=(1:Int)+(↑(ctDef aD):Int);let x5:Bool:= !decide (pickV (nextM aD aX)=pickV (nextM aD aX));let x7:Int:=szr (1048576:Int) (sizeDef aD);let x8:Int:=(1:Int)+(↑(ctMatch (pickV (nextM aD aX))):Int);let x1:Int:=if mkMatch x2 (1:Int)=x2 then(1:Int)+(↑(ctMatch x2):Int) else(-1:Int);let x6:Bool:=x1 !=x8;let x0:Bool:=decide (x1<(0:Int));(0:Int)≤(1048576:Int)∧bif decide (x7<(0:Int)) then Lb true true else(0:Int)≤x7∧bif decide (szr x7 (sizeInst aX)<(0:Int)) then Lb true true else sizeDef aD≤(4294967296:Nat)∧sizeInst aX≤(4294967296:Nat)∧sizeDef aD≤(4294967295:Nat)∧sizeItemS aX.S.Items≤(4294967296:Nat)∧sizeDef aD≤(4294967296:Nat)∧sizeInst aX≤(4294967296:Nat)∧sizeDef aD≤(4294967295:Nat)∧sizeItemS aX.S.Items≤(4294967296:Nat)∧bif x5 then Lb false true else bif x3 then Lb false true else sizeDef aD≤(4294967296:Nat)∧bif !decide (aD=aD) then Lb false true else sizeInst aX≤(4294967296:Nat)∧bif !decide (aX=aX) then Lb false true else(0:Int)≤(1:Int)∧x4≤(4611686018427387904:Int)∧(0:Int)≤x4∧x4+(↑(ctInst aX):Int)≤(4611686018427387904:Int)∧bif x5 then Lb false true else bif x3 then Lb false true else(0:Int)≤(1:Int)∧x8≤(4611686018427387904:Int)∧(0:Int)≤(1:Int)∧(1:Int)+(↑(ctMatch x2):Int)≤(4611686018427387904:Int)∧bif x0 then Lb false true else bif x6 then Lb false true else sizeDef aD≤(4294967296:Nat)∧sizeInst aX≤(4294967296:Nat)∧sizeDef aD≤(4294967295:Nat)∧sizeItemS aX.S.Items≤(4294967296:Nat)∧bif x5 then Lb false true else bif x3 then Lb false true else(0:Int)≤(1:Int)∧(1:Int)+(↑(ctMatch x2):Int)≤(4611686018427387904:Int)∧bif x0 then Lb false true else bif x6 then Lb false true else Lb true true) (by kernel_rfl)
 dsimp only
 refine⟨by omega,if_cond (fun h=>Lf_rfl _) (fun h=> ?_)⟩
 obtain⟨e0,h0⟩:=szr_pos h
 refine⟨by omega,if_cond (fun h=>Lf_rfl _) (fun h=> ?_)⟩
 obtain⟨e1,h1⟩:=szr_pos h
 have hc:=ctDef_le aD
 have hc1:=ctInst_le aX
 have hc2:=next_ct aD aX
 have hs:=ctInst_items aX
 simp only[mkMatch_eta,mkMatch_idem,mkMatch_ct,if_true]
 repeat' (first|exact Lf_rfl _|refine And.intro (by omega) ?_|refine if_cond (fun h=>absurd h (by first|(simp;done)|(simp;omega))) (fun h=> ?_)|fail)
def h_laws_FnExactNextOf:HH:=⟨_,ok_laws_FnExactNextOf⟩
end
end AM
