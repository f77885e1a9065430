/- Functions of the program with their contracts: put together by gen/link.py for FnExactReplyInst. -/
import Derived.Test.YtmkiahpojiomiaaGreatDoorAmLib
import Derived.Test.YtmkiahpojiomiaaGreatDoorFExactReplyInst
import Derived.Lib.ItoaLen
import Derived.Lib.Join
import Derived.Test.YtmkiahpojiomiaaGreatDoorShelf
namespace AM
open Go Go.Proofs.Tryz
set_option linter.unusedVariables false
set_option linter.unusedSimpArgs false
set_option maxRecDepth 100000
noncomputable section
def Zk249:Con UU where
 α:=DCond
 md:=[.ro]
 of:=o1 (oA .eCond)
 ds:=fun x=>[dA .eCond x]
 pre:=fun _=>[]
 res:=fun c=>⟨[dO (kondOk c)],true,[]⟩
 law:=l1 (lA .eCond)
def Za249:Zk249.α→Nat→Option (Ann UU):=fun c=>annL []
def Zu249:=us [Zh69,Zh273]
theorem Zo249:Holds EE (249,Zk249):=by
 refine holds_of EE_ok func249 Zk249 (by kernel_rfl) Zu249 (us_ok _) Za249 (fun(c:DCond) hp hb=> ?_)
 have hz0:=bd_eCond (x:=c) (hb _ m0)
 have hl_c_L_S:=hz0.1
 have hl_c_L_V_S:=hz0.2.1
 have hl_c_R_S:=hz0.2.2.1
 have hl_c_R_V_S:=hz0.2.2.2
 clear hp hb
 apply @ve _ (bif decide ((1:Int)≤c.Op∧c.Op≤(3:Int)) then bif argOk c.L then bif argOk c.R then bif c.L.K !=(3:Int) then Lb (c.R.K !=(3:Int)) (kondOk c) else Lb false (kondOk c) else Lb false (kondOk c) else Lb false (kondOk c) else Lb false (kondOk c)) (by kernel_rfl)
 simp only[kondOk,termOk]
 repeat' (refine if_cond (fun h=> ?_) (fun h=> ?_))
 all_goals (refine Lf_b ?_;grind)
def Zh249:HH:=⟨_,Zo249⟩
def Zk219:Con UU where
 α:=DCond
 md:=[.ro]
 of:=o1 (oA .eCond)
 ds:=fun x=>[dA .eCond x]
 pre:=fun _=>[]
 res:=fun c=>⟨[dO (kondOk c)],true,[]⟩
 law:=l1 (lA .eCond)
def Za219:Zk219.α→Nat→Option (Ann UU):=fun c=>annL []
def Zu219:=us [Zh94,Zh261]
theorem Zo219:Holds EE (219,Zk219):=by
 refine holds_of EE_ok func219 Zk219 (by kernel_rfl) Zu219 (us_ok _) Za219 (fun(c:DCond) hp hb=> ?_)
 have hz0:=bd_eCond (x:=c) (hb _ m0)
 have hl_c_L_S:=hz0.1
 have hl_c_L_V_S:=hz0.2.1
 have hl_c_R_S:=hz0.2.2.1
 have hl_c_R_V_S:=hz0.2.2.2
 clear hp hb
 apply @ve _ (bif decide ((1:Int)≤c.Op∧c.Op≤(3:Int)) then bif termOk c.L then Lb (termOk c.R) (kondOk c) else Lb false (kondOk c) else Lb false (kondOk c)) (by kernel_rfl)
 simp only[kondOk]
 repeat' (refine if_cond (fun h=> ?_) (fun h=> ?_))
 all_goals (refine Lf_b ?_;grind)
def Zh219:HH:=⟨_,Zo219⟩
def Zk287:Con UU where
 α:=DExpr
 md:=[.ro]
 of:=o1 (oA .eExpr)
 ds:=fun x=>[dA .eExpr x]
 pre:=fun _=>[]
 res:=fun e=>⟨[dO (exprOk e)],true,[]⟩
 law:=l1 (lA .eExpr)
def Za287:Zk287.α→Nat→Option (Ann UU):=fun e=>annL []
def Zu287:=us [Zh294]
theorem Zo287:Holds EE (287,Zk287):=by
 refine holds_of EE_ok func287 Zk287 (by kernel_rfl) Zu287 (us_ok _) Za287 (fun(e:DExpr) hp hb=> ?_)
 have hz0:=bd_eExpr (x:=e) (hb _ m0)
 have hl_e_Op:=hz0.1
 have hl_e_L_S:=hz0.2.1
 have hl_e_L_V_S:=hz0.2.2.1
 have hl_e_R_S:=hz0.2.2.2.1
 have hl_e_R_V_S:=hz0.2.2.2.2
 clear hp hb
 apply @ve _ (let x0:Bool:=ByteArray.toList e.Op==ByteArray.toList {data:= #[(43:UInt8)]:ByteArray};bif ByteArray.toList e.Op==ByteArray.toList {data:= #[]:ByteArray} then bif termOk e.L then Lb (e.R.K==(0:Int)&&(ByteArray.toList e.R.S==ByteArray.toList {data:= #[]:ByteArray}&&(e.R.V.K==(0:Int)&&(e.R.V.N==(0:Int)&&(ByteArray.toList e.R.V.S==ByteArray.toList {data:= #[]:ByteArray}&&true))&&true))) (exprOk e) else Lb false (exprOk e) else bif x0 then bif x0 then bif termOk e.L then Lb (termOk e.R) (exprOk e) else Lb false (exprOk e) else Lb false (exprOk e) else bif ByteArray.toList e.Op==ByteArray.toList {data:= #[(45:UInt8)]:ByteArray} then bif termOk e.L then Lb (termOk e.R) (exprOk e) else Lb false (exprOk e) else Lb false (exprOk e)) (by kernel_rfl)
 dsimp only
 have e:∀s:ByteArray,(ByteArray.toList s==ByteArray.toList {data:= #[]})=decide (s=noBytes):=fun s=>toList_beq _ _
 have ea:∀a:DArg,(a.K==0&&(ByteArray.toList a.S==ByteArray.toList {data:= #[]}&&(a.V.K==0&&(a.V.N==0&&(ByteArray.toList a.V.S==ByteArray.toList {data:= #[]}&&true))&&true)))=decide (a=zArg):=fun a=>argR_beq a zArg
 have e1:∀s:ByteArray,(ByteArray.toList s==ByteArray.toList {data:= #[43]})=decide (s=bPlus):=fun s=>toList_beq _ _
 have e2:∀s:ByteArray,(ByteArray.toList s==ByteArray.toList {data:= #[45]})=decide (s=bMinus):=fun s=>toList_beq _ _
 simp only[ea]
 simp only[e,e1,e2,exprOk]
 repeat' (refine if_cond (fun h=> ?_) (fun h=> ?_))
 all_goals (refine Lf_b ?_;grind)
def Zh287:HH:=⟨_,Zo287⟩
def Zk279:Con UU where
 α:=DExpr
 md:=[.ro]
 of:=o1 (oA .eExpr)
 ds:=fun x=>[dA .eExpr x]
 pre:=fun _=>[]
 res:=fun e=>⟨[dO (exprOk e)],true,[]⟩
 law:=l1 (lA .eExpr)
def Za279:Zk279.α→Nat→Option (Ann UU):=fun e=>annL []
def Zu279:=us [Zh261]
theorem Zo279:Holds EE (279,Zk279):=by
 refine holds_of EE_ok func279 Zk279 (by kernel_rfl) Zu279 (us_ok _) Za279 (fun(e:DExpr) hp hb=> ?_)
 have hz0:=bd_eExpr (x:=e) (hb _ m0)
 have hl_e_Op:=hz0.1
 have hl_e_L_S:=hz0.2.1
 have hl_e_L_V_S:=hz0.2.2.1
 have hl_e_R_S:=hz0.2.2.2.1
 have hl_e_R_V_S:=hz0.2.2.2.2
 clear hp hb
 apply @ve _ (let x0:Bool:=ByteArray.toList e.Op==ByteArray.toList {data:= #[(43:UInt8)]:ByteArray};bif ByteArray.toList e.Op==ByteArray.toList {data:= #[]:ByteArray} then bif termOk e.L then Lb (e.R.K==(0:Int)&&(ByteArray.toList e.R.S==ByteArray.toList {data:= #[]:ByteArray}&&(e.R.V.K==(0:Int)&&(e.R.V.N==(0:Int)&&(ByteArray.toList e.R.V.S==ByteArray.toList {data:= #[]:ByteArray}&&true))&&true))) (exprOk e) else Lb false (exprOk e) else bif x0 then bif x0 then bif termOk e.L then Lb (termOk e.R) (exprOk e) else Lb false (exprOk e) else Lb false (exprOk e) else bif ByteArray.toList e.Op==ByteArray.toList {data:= #[(45:UInt8)]:ByteArray} then bif termOk e.L then Lb (termOk e.R) (exprOk e) else Lb false (exprOk e) else Lb false (exprOk e)) (by kernel_rfl)
 dsimp only
 have e:∀s:ByteArray,(ByteArray.toList s==ByteArray.toList {data:= #[]})=decide (s=noBytes):=fun s=>toList_beq _ _
 have ea:∀a:DArg,(a.K==0&&(ByteArray.toList a.S==ByteArray.toList {data:= #[]}&&(a.V.K==0&&(a.V.N==0&&(ByteArray.toList a.V.S==ByteArray.toList {data:= #[]}&&true))&&true)))=decide (a=zArg):=fun a=>argR_beq a zArg
 have e1:∀s:ByteArray,(ByteArray.toList s==ByteArray.toList {data:= #[43]})=decide (s=bPlus):=fun s=>toList_beq _ _
 have e2:∀s:ByteArray,(ByteArray.toList s==ByteArray.toList {data:= #[45]})=decide (s=bMinus):=fun s=>toList_beq _ _
 simp only[ea]
 simp only[e,e1,e2,exprOk]
 repeat' (refine if_cond (fun h=> ?_) (fun h=> ?_))
 all_goals (refine Lf_b ?_;grind)
def Zh279:HH:=⟨_,Zo279⟩
def Zk274:Con UU where
 α:=(List DExpr)
 md:=[.ro]
 of:=o1 (oL .eExpr)
 ds:=fun x=>[dL .eExpr x]
 pre:=fun _=>[]
 res:=fun es=>⟨[dO (exprsOk es)],true,[]⟩
 law:=l1 (lL .eExpr)
def Zi274_2(es:(List DExpr)):Int×Unit→Prop:=fun(i,_)=>0≤i∧i≤es.length∧(es.drop i.toNat).all exprOk=es.all exprOk
def Zm274_2(es:(List DExpr)):Int×Unit→Nat:=fun(i,_)=>es.length-i.toNat
def Za274:Zk274.α→Nat→Option (Ann UU):=fun es=>annL [(2,annOf [.slot 3 (3,1024) (.lit (.int .i64))] (fun _=>Zi274_2 es) (Zm274_2 es))]
def Zu274:=us [Zh287]
theorem Zo274:Holds EE (274,Zk274):=by
 refine holds_of EE_ok func274 Zk274 (by kernel_rfl) Zu274 (us_ok _) Za274 (fun(es:(List DExpr)) hp hb=> ?_)
 have hl_es:es.length≤9223372036854775807:=bdL (hb _ m0)
 clear hp hb
 apply @ve _ (let x0:Int:=(es.length:Int);Zi274_2 es ((0:Int),())∧∀(y:Int×PUnit),Zi274_2 es y→bif decide (y.1<x0) then(0:Int)≤y.1∧y.1.toNat<es.length∧bif !exprOk (List.getD es y.1.toNat zExpr) then Lb false (exprsOk es) else Zi274_2 es (IntKind.wrap IntKind.i64 (y.1+(1:Int)),())∧Zm274_2 es (IntKind.wrap IntKind.i64 (y.1+(1:Int)),())<Zm274_2 es y else Lb (decide (x0≤(5:Int))) (exprsOk es)) (by kernel_rfl)
 dsimp only
 refine⟨⟨by omega,by omega,rfl⟩,?_⟩
 rintro⟨i,⟨⟩⟩ ⟨h1,h2,hR⟩
 simp only
 refine if_cond (fun hc=> ?_) (fun hc=> ?_)
 ·have hc:=of_decide_eq_true hc
  rw[all_step _ _ zExpr h1 (by omega)] at hR
  rw[wrap_i64 (by omega) (by omega)]
  refine⟨by omega,by omega,if_cond (fun h=>Lf_ff ?_) (fun h=>⟨⟨by omega,by omega,?_⟩,?_⟩)⟩
  ·simp only[exprsOk,←hR];simp at h;simp[h]
  ·rw[←hR];simp at h;simp[h]
  ·simp only[Zm274_2];omega
 ·have hc:=of_decide_eq_false hc
  rw[drop_end _ (by omega)] at hR
  refine Lf_b ?_
  simp only[exprsOk,←hR];simp;omega
def Zh274:HH:=⟨_,Zo274⟩
def Zk262:Con UU where
 α:=DAct
 md:=[.ro]
 of:=o1 (oA .eAct)
 ds:=fun x=>[dA .eAct x]
 pre:=fun _=>[]
 res:=fun a=>⟨[dO (nameOk a.Name&&exprsOk a.Args)],true,[]⟩
 law:=l1 (lA .eAct)
def Zi262_4(a:DAct):Int×Unit→Prop:=fun(i,_)=>0≤i∧i≤a.Args.length∧a.Args.length≤5∧nameOk a.Name=true∧(a.Args.drop i.toNat).all exprOk=a.Args.all exprOk
def Zm262_4(a:DAct):Int×Unit→Nat:=fun(i,_)=>a.Args.length-i.toNat
def Za262:Zk262.α→Nat→Option (Ann UU):=fun a=>annL [(4,annOf [.slot 18 (18,1024) (.lit (.int .i64))] (fun _=>Zi262_4 a) (Zm262_4 a))]
def Zu262:=us [Zh279,Zh160]
theorem Zo262:Holds EE (262,Zk262):=by
 refine holds_of EE_ok func262 Zk262 (by kernel_rfl) Zu262 (us_ok _) Za262 (fun(a:DAct) hp hb=> ?_)
 have hz0:=bd_eAct (x:=a) (hb _ m0)
 have hl_a_Name:=hz0.1
 have hl_a_Args:=hz0.2.1
 have hl_a_Undo:=hz0.2.2
 clear hp hb
 apply @ve _ (let x0:Int:=(a.Args.length:Int);bif !nameOk a.Name then Lb false (nameOk a.Name&&exprsOk a.Args) else bif decide (x0>(5:Int)) then Lb false (nameOk a.Name&&exprsOk a.Args) else Zi262_4 a ((0:Int),())∧∀(y:Int×PUnit),Zi262_4 a y→bif decide (y.1<x0) then(0:Int)≤y.1∧y.1.toNat<a.Args.length∧bif !exprOk (List.getD a.Args y.1.toNat zExpr) then Lb false (nameOk a.Name&&exprsOk a.Args) else Zi262_4 a (IntKind.wrap IntKind.i64 (y.1+(1:Int)),())∧Zm262_4 a (IntKind.wrap IntKind.i64 (y.1+(1:Int)),())<Zm262_4 a y else Lb true (nameOk a.Name&&exprsOk a.Args)) (by kernel_rfl)
 dsimp only
 refine if_cond (fun h=>Lf_ff ?_) (fun h=>if_cond (fun h'=>Lf_ff ?_) (fun h'=> ?_))
 ·simp at h;simp[h]
 ·have h':=of_decide_eq_true h';simp only[exprsOk];rw[decide_eq_false (show¬a.Args.length≤5 by omega)];simp
 have h':=of_decide_eq_false h'
 refine⟨⟨by omega,by omega,by omega,by simpa using h,rfl⟩,?_⟩
 rintro⟨i,⟨⟩⟩ ⟨h1,h2,h3,h4,hR⟩
 simp only
 refine if_cond (fun hc=> ?_) (fun hc=> ?_)
 ·have hc:=of_decide_eq_true hc
  rw[all_step _ _ zExpr h1 (by omega)] at hR
  rw[wrap_i64 (by omega) (by omega)]
  refine⟨by omega,by omega,if_cond (fun h=>Lf_ff ?_) (fun h=>⟨⟨by omega,by omega,h3,h4,?_⟩,?_⟩)⟩
  ·simp only[exprsOk,←hR];simp at h;simp[h]
  ·rw[←hR];simp at h;simp[h]
  ·simp only[Zm262_4];omega
 ·have hc:=of_decide_eq_false hc
  rw[drop_end _ (by omega)] at hR
  refine Lf_tt ?_
  simp only[exprsOk,←hR,h4,decide_eq_true h3];rfl
def Zh262:HH:=⟨_,Zo262⟩
def Zk251:Con UU where
 α:=DAct
 md:=[.ro]
 of:=o1 (oA .eAct)
 ds:=fun x=>[dA .eAct x]
 pre:=fun _=>[]
 res:=fun a=>⟨[dO (actOk a)],true,[]⟩
 law:=l1 (lA .eAct)
def Za251:Zk251.α→Nat→Option (Ann UU):=fun a=>annL []
def Zu251:=us [Zh69,Zh135,Zh274]
theorem Zo251:Holds EE (251,Zk251):=by
 refine holds_of EE_ok func251 Zk251 (by kernel_rfl) Zu251 (us_ok _) Za251 (fun(a:DAct) hp hb=> ?_)
 have hz0:=bd_eAct (x:=a) (hb _ m0)
 have hl_a_Name:=hz0.1
 have hl_a_Args:=hz0.2.1
 have hl_a_Undo:=hz0.2.2
 clear hp hb
 apply @ve _ (let x0:Bool:=ByteArray.toList a.Undo==ByteArray.toList {data:= #[]:ByteArray};let x1:Bool:=a.Kind==(5:Int);let x2:Bool:=a.N==(0:Int);bif ByteArray.toList a.Name==ByteArray.toList {data:= #[]:ByteArray} then bif (a.Args.length:Int)==(0:Int) then bif a.Kind==(1:Int) then bif nameOk a.Name then bif exprsOk a.Args then bif x2 then Lb x0 (actOk a) else Lb false (actOk a) else Lb false (actOk a) else Lb false (actOk a) else bif a.Kind==(3:Int) then bif nameOk a.Name then bif exprsOk a.Args then bif x2 then bif x0 then Lb true (actOk a) else Lb (nameOk a.Undo) (actOk a) else Lb false (actOk a) else Lb false (actOk a) else Lb false (actOk a) else bif a.Kind==(4:Int) then bif nameOk a.Name then bif exprsOk a.Args then bif decide ((0:Int)≤a.N∧a.N≤(100000:Int)) then Lb x0 (actOk a) else Lb false (actOk a) else Lb false (actOk a) else Lb false (actOk a) else bif a.Kind==(2:Int) then bif x0 then Lb (decide ((0:Int)≤a.N∧a.N≤(7:Int))) (actOk a) else Lb false (actOk a) else bif x1 then bif x1 then bif x0 then Lb x2 (actOk a) else Lb false (actOk a) else Lb false (actOk a) else bif a.Kind==(6:Int) then bif x0 then Lb x2 (actOk a) else Lb false (actOk a) else Lb false (actOk a) else bif a.Kind==(1:Int) then bif nameOk a.Name then bif exprsOk a.Args then bif x2 then Lb x0 (actOk a) else Lb false (actOk a) else Lb false (actOk a) else Lb false (actOk a) else bif a.Kind==(3:Int) then bif nameOk a.Name then bif exprsOk a.Args then bif x2 then bif x0 then Lb true (actOk a) else Lb (nameOk a.Undo) (actOk a) else Lb false (actOk a) else Lb false (actOk a) else Lb false (actOk a) else bif a.Kind==(4:Int) then bif nameOk a.Name then bif exprsOk a.Args then bif decide ((0:Int)≤a.N∧a.N≤(100000:Int)) then Lb x0 (actOk a) else Lb false (actOk a) else Lb false (actOk a) else Lb false (actOk a) else bif a.Kind==(2:Int) then Lb false (actOk a) else bif x1 then bif x1 then Lb false (actOk a) else Lb false (actOk a) else bif a.Kind==(6:Int) then Lb false (actOk a) else Lb false (actOk a) else bif a.Kind==(1:Int) then bif nameOk a.Name then bif exprsOk a.Args then bif x2 then Lb x0 (actOk a) else Lb false (actOk a) else Lb false (actOk a) else Lb false (actOk a) else bif a.Kind==(3:Int) then bif nameOk a.Name then bif exprsOk a.Args then bif x2 then bif x0 then Lb true (actOk a) else Lb (nameOk a.Undo) (actOk a) else Lb false (actOk a) else Lb false (actOk a) else Lb false (actOk a) else bif a.Kind==(4:Int) then bif nameOk a.Name then bif exprsOk a.Args then bif decide ((0:Int)≤a.N∧a.N≤(100000:Int)) then Lb x0 (actOk a) else Lb false (actOk a) else Lb false (actOk a) else Lb false (actOk a) else bif a.Kind==(2:Int) then Lb false (actOk a) else bif x1 then bif x1 then Lb false (actOk a) else Lb false (actOk a) else bif a.Kind==(6:Int) then Lb false (actOk a) else Lb false (actOk a)) (by kernel_rfl)
 dsimp only
 have e:∀s:ByteArray,(ByteArray.toList s==ByteArray.toList {data:= #[]})=decide (s=noBytes):=fun s=>toList_beq _ _
 simp only[e,actOk,bareA,undoOk]
 repeat' (refine if_cond (fun h=> ?_) (fun h=> ?_))
 all_goals (refine Lf_b ?_;grind)
def Zh251:HH:=⟨_,Zo251⟩
def Zk220:Con UU where
 α:=DAct
 md:=[.ro]
 of:=o1 (oA .eAct)
 ds:=fun x=>[dA .eAct x]
 pre:=fun _=>[]
 res:=fun a=>⟨[dO (actOk a)],true,[]⟩
 law:=l1 (lA .eAct)
def Za220:Zk220.α→Nat→Option (Ann UU):=fun a=>annL []
def Zu220:=us [Zh94,Zh262,Zh227]
theorem Zo220:Holds EE (220,Zk220):=by
 refine holds_of EE_ok func220 Zk220 (by kernel_rfl) Zu220 (us_ok _) Za220 (fun(a:DAct) hp hb=> ?_)
 have hz0:=bd_eAct (x:=a) (hb _ m0)
 have hl_a_Name:=hz0.1
 have hl_a_Args:=hz0.2.1
 have hl_a_Undo:=hz0.2.2
 clear hp hb
 apply @ve _ (let x0:Bool:=a.Kind==(5:Int);let x1:Bool:=nameOk a.Name&&exprsOk a.Args;bif ByteArray.toList a.Name==ByteArray.toList {data:= #[]:ByteArray} then bif a.Kind==(1:Int) then bif x1 then bif a.N==(0:Int) then Lb (ByteArray.toList a.Undo==ByteArray.toList {data:= #[]:ByteArray}) (actOk a) else Lb false (actOk a) else Lb false (actOk a) else bif a.Kind==(2:Int) then bif (a.Args.length:Int)==(0:Int) then bif decide ((0:Int)≤a.N∧a.N≤(7:Int)) then Lb (ByteArray.toList a.Undo==ByteArray.toList {data:= #[]:ByteArray}) (actOk a) else Lb false (actOk a) else Lb false (actOk a) else bif a.Kind==(3:Int) then bif x1 then bif a.N==(0:Int) then Lb (undoOk a.Undo) (actOk a) else Lb false (actOk a) else Lb false (actOk a) else bif a.Kind==(4:Int) then bif x1 then bif decide ((0:Int)≤a.N∧a.N≤(100000:Int)) then Lb (ByteArray.toList a.Undo==ByteArray.toList {data:= #[]:ByteArray}) (actOk a) else Lb false (actOk a) else Lb false (actOk a) else bif x0 then bif x0 then bif (a.Args.length:Int)==(0:Int) then bif a.N==(0:Int) then Lb (ByteArray.toList a.Undo==ByteArray.toList {data:= #[]:ByteArray}) (actOk a) else Lb false (actOk a) else Lb false (actOk a) else Lb false (actOk a) else bif a.Kind==(6:Int) then bif (a.Args.length:Int)==(0:Int) then bif a.N==(0:Int) then Lb (ByteArray.toList a.Undo==ByteArray.toList {data:= #[]:ByteArray}) (actOk a) else Lb false (actOk a) else Lb false (actOk a) else Lb false (actOk a) else bif a.Kind==(1:Int) then bif x1 then bif a.N==(0:Int) then Lb (ByteArray.toList a.Undo==ByteArray.toList {data:= #[]:ByteArray}) (actOk a) else Lb false (actOk a) else Lb false (actOk a) else bif a.Kind==(2:Int) then Lb false (actOk a) else bif a.Kind==(3:Int) then bif x1 then bif a.N==(0:Int) then Lb (undoOk a.Undo) (actOk a) else Lb false (actOk a) else Lb false (actOk a) else bif a.Kind==(4:Int) then bif x1 then bif decide ((0:Int)≤a.N∧a.N≤(100000:Int)) then Lb (ByteArray.toList a.Undo==ByteArray.toList {data:= #[]:ByteArray}) (actOk a) else Lb false (actOk a) else Lb false (actOk a) else bif x0 then bif x0 then Lb false (actOk a) else Lb false (actOk a) else bif a.Kind==(6:Int) then Lb false (actOk a) else Lb false (actOk a)) (by kernel_rfl)
 dsimp only
 have e:∀s:ByteArray,(ByteArray.toList s==ByteArray.toList {data:= #[]})=decide (s=noBytes):=fun s=>toList_beq _ _
 simp only[e,actOk,bareA,undoOk]
 repeat' (refine if_cond (fun h=> ?_) (fun h=> ?_))
 all_goals (refine Lf_b ?_;grind)
def Zh220:HH:=⟨_,Zo220⟩
def hasS(l:List ByteArray)(s:ByteArray):Bool:=l.any fun t=>decide (t=s)
theorem hasS_iff{l:List ByteArray}{s:ByteArray}:hasS l s=true↔s∈l:=by
 simp only[hasS,zbb,decide_eq_true_eq]
 exact⟨fun⟨t,h1,h2⟩=>h2▸h1,fun h=>⟨s,h,rfl⟩⟩
def addOnce(l:List ByteArray)(s:ByteArray):List ByteArray:=if hasS l s then l else l++[s]
def addVar(l:List ByteArray)(a:DArg):List ByteArray:=if a.K=1 then addOnce l a.S else l
def addVars(l:List ByteArray)(xs:List DArg):List ByteArray:=xs.foldl addVar l
theorem addOnce_mem{l:List ByteArray}{s t:ByteArray}:t∈addOnce l s↔t∈l∨t=s:=by
 unfold addOnce;split
 ·rename_i h
  exact⟨.inl,fun h'=>h'.elim id (fun e=>e▸hasS_iff.1 h)⟩
 ·simp
theorem addOnce_len(l:List ByteArray)(s:ByteArray):(addOnce l s).length≤l.length+1:=by
 unfold addOnce;split
 ·omega
 ·simp
theorem addVar_mem{l:List ByteArray}{a:DArg}{t:ByteArray}:t∈addVar l a↔t∈l∨(a.K=1∧t=a.S):=by
 unfold addVar;split
 ·rename_i h;rw[addOnce_mem];simp[h]
 ·rename_i h;simp[h]
theorem addVar_len(l:List ByteArray)(a:DArg):(addVar l a).length≤l.length+1:=by
 unfold addVar;split
 ·exact addOnce_len _ _
 ·omega
theorem addVars_mem{t:ByteArray}:∀{xs:List DArg}{l:List ByteArray},t∈addVars l xs↔t∈l∨∃a∈xs,a.K=1∧t=a.S
 |[],l=>by simp[addVars]
 |a::xs,l=>by
  show t∈addVars (addVar l a) xs↔_
  rw[addVars_mem,addVar_mem]
  simp only[zak,exists_eq_or_imp,or_assoc]
theorem addVars_len:∀(xs:List DArg)(l:List ByteArray),(addVars l xs).length≤l.length+xs.length
 |[],l=>zca _
 |a::xs,l=>by
  have h1:=addVars_len xs (addVar l a)
  have h2:=addVar_len l a
  show(addVars (addVar l a) xs).length≤_
  simp only[zbq];omega
theorem addVars_step(l:List ByteArray)(xs:List DArg){i:Int}(h0:0≤i)(h:i<xs.length):addVars l (xs.take (i+1).toNat)=addVar (addVars l (xs.take i.toNat)) (List.getD xs i.toNat zArg):=by
 rw[←take_step xs zArg h0 h]
 simp only[addVars,List.foldl_append,List.foldl_cons,List.foldl_nil]
def posVar(l:List ByteArray)(p:DPat):List ByteArray:=if p.Not then l else addVars l p.Args
def posVars(ps:List DPat):List ByteArray:=ps.foldl posVar []
theorem foldl_step{α β:Type}(f:β→α→β)(b:β)(l:List α)(z:α){i:Int}(h0:0≤i)(h:i<l.length):(l.take (i+1).toNat).foldl f b=f ((l.take i.toNat).foldl f b) (List.getD l i.toNat z):=by
 rw[←take_step l z h0 h]
 simp only[List.foldl_append,List.foldl_cons,List.foldl_nil]
def patArgs(ps:List DPat):Nat:=(ps.map fun p=>p.Args.length).sum
def isBound(ps:List DPat)(t:ByteArray):Prop:=∃p∈ps,p.Not=false∧∃a∈p.Args,a.K=1∧t=a.S
theorem posVar_mem{l:List ByteArray}{p:DPat}{t:ByteArray}:t∈posVar l p↔t∈l∨(p.Not=false∧∃a∈p.Args,a.K=1∧t=a.S):=by
 unfold posVar
 cases h:p.Not
 ·simp only[zbg,if_false];rw[addVars_mem];simp
 ·simp
theorem posVars_mem0{t:ByteArray}:∀{ps:List DPat}{l:List ByteArray},t∈ps.foldl posVar l↔t∈l∨isBound ps t
 |[],l=>by simp[isBound]
 |p::ps,l=>by
  show t∈ps.foldl posVar (posVar l p)↔_
  rw[posVars_mem0,posVar_mem]
  simp only[isBound,zak,exists_eq_or_imp,or_assoc]
theorem posVars_mem{ps:List DPat}{t:ByteArray}:t∈posVars ps↔isBound ps t:=by
 unfold posVars;rw[posVars_mem0];simp
theorem posVars_len0:∀(ps:List DPat)(l:List ByteArray),(ps.foldl posVar l).length≤l.length+patArgs ps
 |[],l=>zca _
 |p::ps,l=>by
  have h1:=posVars_len0 ps (posVar l p)
  have h2:(posVar l p).length≤l.length+p.Args.length:=by
   unfold posVar;split
   ·omega
   ·exact addVars_len _ _
  show(ps.foldl posVar (posVar l p)).length≤_
  simp only[patArgs,zbt,zdc] at h1⊢;omega
def posVarS(l:List ByteArray)(p:DPat):List ByteArray:=if p.Not then l else(addVars [] p.Args).foldl addOnce l
def posVarsS(ps:List DPat):List ByteArray:=ps.foldl posVarS []
theorem foldOnce_mem{t:ByteArray}:∀{xs l:List ByteArray},t∈xs.foldl addOnce l↔t∈l∨t∈xs
 |[],l=>by simp
 |a::xs,l=>by
  show t∈xs.foldl addOnce (addOnce l a)↔_
  rw[foldOnce_mem,addOnce_mem,zak,or_assoc]
theorem foldOnce_len:∀(xs l:List ByteArray),(xs.foldl addOnce l).length≤l.length+xs.length
 |[],l=>zca _
 |a::xs,l=>by
  have h1:=foldOnce_len xs (addOnce l a)
  have h2:=addOnce_len l a
  show(xs.foldl addOnce (addOnce l a)).length≤_
  simp only[zbq];omega
theorem posVarS_mem{l:List ByteArray}{p:DPat}{t:ByteArray}:t∈posVarS l p↔t∈l∨(p.Not=false∧∃a∈p.Args,a.K=1∧t=a.S):=by
 unfold posVarS
 cases h:p.Not
 ·simp only[zbg,if_false];rw[foldOnce_mem,addVars_mem];simp
 ·simp
theorem posVarsS_mem0{t:ByteArray}:∀{ps:List DPat}{l:List ByteArray},t∈ps.foldl posVarS l↔t∈l∨isBound ps t
 |[],l=>by simp[isBound]
 |p::ps,l=>by
  show t∈ps.foldl posVarS (posVarS l p)↔_
  rw[posVarsS_mem0,posVarS_mem]
  simp only[isBound,zak,exists_eq_or_imp,or_assoc]
theorem posVarsS_mem{ps:List DPat}{t:ByteArray}:t∈posVarsS ps↔isBound ps t:=by
 unfold posVarsS;rw[posVarsS_mem0];simp
theorem posVarsS_len0:∀(ps:List DPat)(l:List ByteArray),(ps.foldl posVarS l).length≤l.length+patArgs ps
 |[],l=>zca _
 |p::ps,l=>by
  have h1:=posVarsS_len0 ps (posVarS l p)
  have h2:(posVarS l p).length≤l.length+p.Args.length:=by
   unfold posVarS;split
   ·omega
   ·have g1:=foldOnce_len (addVars [] p.Args) l
    have g2:=addVars_len p.Args []
    simp only[zbo] at g2;omega
  show(ps.foldl posVarS (posVarS l p)).length≤_
  simp only[patArgs,zbt,zdc] at h1⊢;omega
theorem patArgs_take(ps:List DPat)(n:Nat):patArgs (ps.take n)≤patArgs ps:=by
 have h:=congrArg (fun q=>(q.map fun p:DPat=>p.Args.length).sum) (zcq n ps)
 simp only[zef,zet] at h
 simp only[patArgs];omega
theorem patArgs_at(ps:List DPat){i:Int}(h0:0≤i)(h:i<ps.length):patArgs (ps.take i.toNat)+(List.getD ps i.toNat zPat).Args.length≤patArgs ps:=by
 have h1:=patArgs_take ps (i+1).toNat
 rw[←take_step ps zPat h0 h] at h1
 simp only[patArgs,zef,zet,zbt,List.map_nil,zdc,List.sum_nil] at h1⊢
 omega
def posN(ps:List DPat):Nat:=(ps.filter fun p=> !p.Not).length
theorem hasS_step{l:List ByteArray}{s:ByteArray}{i:Int}(h0:0≤i)(hl:i<l.length)(h:∀j:Nat,(j:Int)<i→¬List.getD l j noBytes=s)(hi:¬List.getD l i.toNat noBytes=s):∀j:Nat,(j:Int)<i+1→¬List.getD l j noBytes=s:=by
 intro j hj
 by_cases hji:(j:Int)<i
 ·exact h j hji
 ·have:j=i.toNat:=by omega
  subst this;exact hi
theorem hasS_no{l:List ByteArray}{s:ByteArray}(h:∀j:Nat,j<l.length→¬List.getD l j noBytes=s):hasS l s=false:=by
 rw[←zbj,hasS_iff]
 intro hm
 obtain⟨j,hj,rfl⟩:=zbk hm
 exact h j hj (by rw[zac,zad hj];rfl)
theorem hasS_yes{l:List ByteArray}{s:ByteArray}{j:Nat}(hj:j<l.length)(h:List.getD l j noBytes=s):hasS l s=true:=by
 rw[hasS_iff,←h,zac,zad hj]
 exact zda hj
theorem posN_step(ps:List DPat){i:Int}(h0:0≤i)(h:i<ps.length):posN (ps.take (i+1).toNat)=posN (ps.take i.toNat)+(if(!(List.getD ps i.toNat zPat).Not)=true then 1 else 0):=by
 rw[←take_step ps zPat h0 h]
 simp only[posN,List.filter_append,zce,List.filter_cons,List.filter_nil]
 split<;>simp
theorem posN_le(ps:List DPat)(n:Nat):posN (ps.take n)≤n:=zde (zdt _ _) (by simp;omega)
def Zk247:Con UU where
 α:=(List ByteArray)×ByteArray
 md:=[.ro,.ro]
 of:=oC (oL .str) (o1 oS)
 ds:=fun x=>[dL .str x.1,dS x.2]
 pre:=fun _=>[]
 res:=fun(l,s)=>⟨[dO (hasS l s)],true,[]⟩
 law:=lC (lL .str) (l1 lS)
def Zi247_2(l:(List ByteArray))(s:ByteArray):Int×Unit→Prop:=fun(i,_)=>0≤i∧i≤l.length∧∀j:Nat,(j:Int)<i→¬List.getD l j noBytes=s
def Zm247_2(l:(List ByteArray))(s:ByteArray):Int×Unit→Nat:=fun(i,_)=>l.length-i.toNat
def Za247:Zk247.α→Nat→Option (Ann UU):=fun(l,s)=>annL [(2,annOf [.slot 5 (5,1024) (.lit (.int .i64))] (fun _=>Zi247_2 l s) (Zm247_2 l s))]
def Zu247:List (FuncId×Con UU):=[]
theorem Zo247:Holds EE (247,Zk247):=by
 refine holds_of EE_ok func247 Zk247 (by kernel_rfl) Zu247 all_nil Za247 (fun x hp hb=> ?_)
 obtain⟨l,s⟩:=x
 have hl_l:l.length≤9223372036854775807:=bdL (hb _ m0)
 have hl_s:=bdS (s:=s) (hb _ m1)
 clear hp hb
 apply @ve _ (Zi247_2 l s ((0:Int),())∧∀(y:Int×PUnit),Zi247_2 l s y→bif decide (y.1<(l.length:Int)) then(0:Int)≤y.1∧y.1.toNat<l.length∧bif ByteArray.toList (List.getD l y.1.toNat noBytes)==ByteArray.toList s then Lb true (hasS l s) else Zi247_2 l s (IntKind.wrap IntKind.i64 (y.1+(1:Int)),())∧Zm247_2 l s (IntKind.wrap IntKind.i64 (y.1+(1:Int)),())<Zm247_2 l s y else Lb false (hasS l s)) (by kernel_rfl)
 refine⟨⟨by omega,by omega,by intro j hj;omega⟩,?_⟩
 rintro⟨i,⟨⟩⟩ ⟨h1,h2,hR⟩
 simp only[toList_beq]
 refine if_cond (fun hc=> ?_) (fun hc=> ?_)
 ·have hc:=of_decide_eq_true hc
  rw[wrap_i64 (by omega) (by omega)]
  refine⟨by omega,by omega,if_cond (fun h=>Lf_tt (hasS_yes (j:=i.toNat) (by omega) (of_decide_eq_true h))) (fun h=>⟨⟨by omega,by omega,hasS_step h1 hc hR (of_decide_eq_false h)⟩,by simp only[Zm247_2];omega⟩)⟩
 ·have hc:=of_decide_eq_false hc
  exact Lf_ff (hasS_no fun j hj=>hR j (by omega))
def Zh247:HH:=⟨_,Zo247⟩
def Zk264:Con UU where
 α:=(List ByteArray)×ByteArray
 md:=[.ro,.ro]
 of:=oC (oL .str) (o1 oS)
 ds:=fun x=>[dL .str x.1,dS x.2]
 pre:=fun _=>[]
 res:=fun(l,s)=>⟨[dI (idxI l.length (fun j=>decide (List.getD l j noBytes=s)))],true,[]⟩
 law:=lC (lL .str) (l1 lS)
def Zi264_2(l:(List ByteArray))(s:ByteArray):Int×Unit→Prop:=fun(i,_)=>0≤i∧i≤l.length∧∀j:Nat,(j:Int)<i→¬List.getD l j noBytes=s
def Zm264_2(l:(List ByteArray))(s:ByteArray):Int×Unit→Nat:=fun(i,_)=>l.length-i.toNat
def Za264:Zk264.α→Nat→Option (Ann UU):=fun(l,s)=>annL [(2,annOf [.slot 8 (8,1024) (.lit (.int .i64))] (fun _=>Zi264_2 l s) (Zm264_2 l s))]
def Zu264:List (FuncId×Con UU):=[]
theorem Zo264:Holds EE (264,Zk264):=by
 refine holds_of EE_ok func264 Zk264 (by kernel_rfl) Zu264 all_nil Za264 (fun x hp hb=> ?_)
 obtain⟨l,s⟩:=x
 have hl_l:l.length≤9223372036854775807:=bdL (hb _ m0)
 have hl_s:=bdS (s:=s) (hb _ m1)
 clear hp hb
 apply @ve _ (Zi264_2 l s ((0:Int),())∧∀(y:Int×PUnit),Zi264_2 l s y→bif decide (y.1<(l.length:Int)) then(0:Int)≤y.1∧y.1.toNat<l.length∧bif ByteArray.toList s==ByteArray.toList (List.getD l y.1.toNat noBytes) then Li y.1 (idxI (l.length) fun(j:Nat)=>decide (List.getD l j noBytes=s)) else Zi264_2 l s (IntKind.wrap IntKind.i64 (y.1+(1:Int)),())∧Zm264_2 l s (IntKind.wrap IntKind.i64 (y.1+(1:Int)),())<Zm264_2 l s y else Li (-1:Int) (idxI (l.length) fun(j:Nat)=>decide (List.getD l j noBytes=s))) (by kernel_rfl)
 refine⟨⟨by omega,by omega,by intro j hj;omega⟩,?_⟩
 rintro⟨i,⟨⟩⟩ ⟨h1,h2,hR⟩
 simp only[toList_beq]
 refine if_cond (fun hc=> ?_) (fun hc=> ?_)
 ·have hc:=of_decide_eq_true hc
  rw[wrap_i64 (by omega) (by omega)]
  refine⟨by omega,by omega,if_cond (fun h=>Lf_i ?_) (fun h=>⟨⟨by omega,by omega,hasS_step h1 hc hR (fun e=>of_decide_eq_false h e.symm)⟩,by simp only[Zm264_2];omega⟩)⟩
  rw[idxI_found (i:=i.toNat) (by omega) (decide_eq_true (of_decide_eq_true h).symm) (fun j hj=>decide_eq_false (hR j (by omega)))]
  omega
 ·have hc:=of_decide_eq_false hc
  exact Lf_i (idxI_none (fun j hj=>decide_eq_false (hR j (by omega)))).symm
def Zh264:HH:=⟨_,Zo264⟩
def Zk223:Con UU where
 α:=(List ByteArray)×ByteArray
 md:=[.ro,.ro]
 of:=oC (oL .str) (o1 oS)
 ds:=fun x=>[dL .str x.1,dS x.2]
 pre:=fun _=>[]
 res:=fun(l,s)=>⟨[dO (hasS l s)],true,[]⟩
 law:=lC (lL .str) (l1 lS)
def Za223:Zk223.α→Nat→Option (Ann UU):=fun(l,s)=>annL []
def Zu223:=us [Zh264]
theorem Zo223:Holds EE (223,Zk223):=by
 refine holds_of EE_ok func223 Zk223 (by kernel_rfl) Zu223 (us_ok _) Za223 (fun x hp hb=> ?_)
 obtain⟨l,s⟩:=x
 have hl_l:l.length≤9223372036854775807:=bdL (hb _ m0)
 have hl_s:=bdS (s:=s) (hb _ m1)
 clear hp hb
 apply @ve _ (let x0:Int:=idxI (l.length) fun(j:Nat)=>decide (List.getD l j noBytes=s);Lb (decide (x0≥(0:Int))) (hasS l s)) (by kernel_rfl)
 dsimp only
 refine Lf_b ?_
 show decide (0≤idxI l.length (fun j=>decide (List.getD l j noBytes=s)))=_
 rw[idxI_ge]
 by_cases h:hasS l s=true
 ·rw[h]
  obtain⟨j,hj,hs⟩:=zbk (hasS_iff.1 h)
  exact anyI_true hj (decide_eq_true (by rw[zac,zad hj];exact hs))
 ·rw[zbj] at h
  rw[h]
  exact anyI_false fun j hj=>decide_eq_false fun e=>absurd (hasS_yes hj e) (by rw[h];decide)
def Zh223:HH:=⟨_,Zo223⟩
def Zk142:Con UU where
 α:=DRule
 md:=[.ro]
 of:=o1 (oA .eRule)
 ds:=fun x=>[dA .eRule x]
 pre:=fun _=>[]
 res:=fun r=>⟨[dI (posN r.Pats:Int)],true,[]⟩
 law:=l1 (lA .eRule)
def Zi142_3(r:DRule):Int×Int×(ByteArray×Int×List DPat×List DCond×List DAct×Unit)×Unit→Prop:=fun(n,i,b,_)=>b=(r.Name,r.Sal,r.Pats,r.Conds,r.Acts,())∧0≤i∧i≤r.Pats.length∧n=posN (r.Pats.take i.toNat)
def Zm142_3(r:DRule):Int×Int×(ByteArray×Int×List DPat×List DCond×List DAct×Unit)×Unit→Nat:=fun(n,i,b,_)=>r.Pats.length-i.toNat
def Za142:Zk142.α→Nat→Option (Ann UU):=fun r=>annL [(3,annOf [.slot 3 (3,1024) (.lit (.int .i64)),.slot 4 (4,1024) (.lit (.int .i64)),.box 1 (1,1024) [.lit .str,.lit (.int .i64),.shr .ePat,.shr .eCond,.shr .eAct]] (fun _=>Zi142_3 r) (Zm142_3 r))]
def Zu142:List (FuncId×Con UU):=[]
theorem Zo142:Holds EE (142,Zk142):=by
 refine holds_of EE_ok func142 Zk142 (by kernel_rfl) Zu142 all_nil Za142 (fun(r:DRule) hp hb=> ?_)
 have hz0:=bd_eRule (x:=r) (hb _ m0)
 have hl_r_Name:=hz0.1
 have hl_r_Pats:=hz0.2.1
 have hl_r_Conds:=hz0.2.2.1
 have hl_r_Acts:=hz0.2.2.2
 clear hp hb
 apply @ve _ (Zi142_3 r ((0:Int),(0:Int),(r.Name,r.Sal,r.Pats,r.Conds,r.Acts,()),())∧∀(y:Int×Int×(ByteArray×Int×List DPat×List DCond×List DAct×PUnit)×PUnit),let x1:Nat:=y.2.2.1.2.2.1.length;let x2:Nat:=y.2.1.toNat;let x0:Int:=(↑x1:Int);Zi142_3 r y→bif decide (y.2.1<x0) then(0:Int)≤y.2.1∧x2<x1∧bif !(List.getD y.2.2.1.2.2.1 x2 zPat).Not then Zi142_3 r (IntKind.wrap IntKind.i64 (y.1+(1:Int)),IntKind.wrap IntKind.i64 (y.2.1+(1:Int)),(y.2.2.1.1,y.2.2.1.2.1,y.2.2.1.2.2.1,y.2.2.1.2.2.2.1,y.2.2.1.2.2.2.2.1,()),())∧Zm142_3 r (IntKind.wrap IntKind.i64 (y.1+(1:Int)),IntKind.wrap IntKind.i64 (y.2.1+(1:Int)),(y.2.2.1.1,y.2.2.1.2.1,y.2.2.1.2.2.1,y.2.2.1.2.2.2.1,y.2.2.1.2.2.2.2.1,()),())<Zm142_3 r y else Zi142_3 r (y.1,IntKind.wrap IntKind.i64 (y.2.1+(1:Int)),(y.2.2.1.1,y.2.2.1.2.1,y.2.2.1.2.2.1,y.2.2.1.2.2.2.1,y.2.2.1.2.2.2.2.1,()),())∧Zm142_3 r (y.1,IntKind.wrap IntKind.i64 (y.2.1+(1:Int)),(y.2.2.1.1,y.2.2.1.2.1,y.2.2.1.2.2.1,y.2.2.1.2.2.2.1,y.2.2.1.2.2.2.2.1,()),())<Zm142_3 r y else Li y.1 (↑(posN r.Pats):Int)) (by kernel_rfl)
 dsimp only
 refine⟨⟨rfl,by omega,by omega,rfl⟩,?_⟩
 rintro⟨n,i,⟨b1,b2,b3,b4,b5,⟨⟩⟩,⟨⟩⟩ ⟨hbx,h1,h2,rfl⟩
 cases hbx
 simp only
 refine if_cond (fun hc=> ?_) (fun hc=> ?_)
 ·have hc:=of_decide_eq_true hc
  have hs:=posN_step r.Pats h1 hc
  have hle:posN (r.Pats.take i.toNat)≤i.toNat:=posN_le _ _
  rw[wrap_i64 (n:=i+1) (by omega) (by omega),wrap_i64 (n:=(posN (r.Pats.take i.toNat):Int)+1) (by omega) (by omega)]
  have hm:i.toNat<r.Pats.length:=by omega
  refine⟨by omega,by omega,if_cond (fun h=>⟨⟨rfl,by omega,by omega,?_⟩,by simp only[Zm142_3];omega⟩) (fun h=>⟨⟨rfl,by omega,by omega,?_⟩,by simp only[Zm142_3];omega⟩)⟩
  ·rw[hs,if_pos h];omega
  ·rw[hs,if_neg (by rw[h];decide)];omega
 ·have hc:=of_decide_eq_false hc
  rw[take_all r.Pats (by omega)]
  exact Lf_rfl _
def Zh142:HH:=⟨_,Zo142⟩
def Zk171:Con UU where
 α:=DRule
 md:=[.ro]
 of:=o1 (oA .eRule)
 ds:=fun x=>[dA .eRule x]
 pre:=fun _=>[]
 res:=fun r=>⟨[dI (posN r.Pats:Int)],true,[]⟩
 law:=l1 (lA .eRule)
def Zi171_3(r:DRule):Int×Int×Unit→Prop:=fun(n,i,_)=>0≤i∧i≤r.Pats.length∧n=posN (r.Pats.take i.toNat)
def Zm171_3(r:DRule):Int×Int×Unit→Nat:=fun(n,i,_)=>r.Pats.length-i.toNat
def Za171:Zk171.α→Nat→Option (Ann UU):=fun r=>annL [(3,annOf [.slot 3 (3,1024) (.lit (.int .i64)),.slot 9 (9,1024) (.lit (.int .i64))] (fun _=>Zi171_3 r) (Zm171_3 r))]
def Zu171:List (FuncId×Con UU):=[]
theorem Zo171:Holds EE (171,Zk171):=by
 refine holds_of EE_ok func171 Zk171 (by kernel_rfl) Zu171 all_nil Za171 (fun(r:DRule) hp hb=> ?_)
 have hz0:=bd_eRule (x:=r) (hb _ m0)
 have hl_r_Name:=hz0.1
 have hl_r_Pats:=hz0.2.1
 have hl_r_Conds:=hz0.2.2.1
 have hl_r_Acts:=hz0.2.2.2
 clear hp hb
 apply @ve _ (Zi171_3 r ((0:Int),(0:Int),())∧∀(y:Int×Int×PUnit),let x0:Nat:=y.2.1.toNat;Zi171_3 r y→bif decide (y.2.1<(r.Pats.length:Int)) then(0:Int)≤y.2.1∧x0<r.Pats.length∧bif !(List.getD r.Pats x0 zPat).Not then Zi171_3 r (IntKind.wrap IntKind.i64 (y.1+(1:Int)),IntKind.wrap IntKind.i64 (y.2.1+(1:Int)),())∧Zm171_3 r (IntKind.wrap IntKind.i64 (y.1+(1:Int)),IntKind.wrap IntKind.i64 (y.2.1+(1:Int)),())<Zm171_3 r y else Zi171_3 r (y.1,IntKind.wrap IntKind.i64 (y.2.1+(1:Int)),())∧Zm171_3 r (y.1,IntKind.wrap IntKind.i64 (y.2.1+(1:Int)),())<Zm171_3 r y else Li y.1 (↑(posN r.Pats):Int)) (by kernel_rfl)
 dsimp only
 refine⟨⟨by omega,by omega,rfl⟩,?_⟩
 rintro⟨n,i,⟨⟩⟩ ⟨h1,h2,rfl⟩
 simp only
 refine if_cond (fun hc=> ?_) (fun hc=> ?_)
 ·have hc:=of_decide_eq_true hc
  have hs:=posN_step r.Pats h1 hc
  have hle:posN (r.Pats.take i.toNat)≤i.toNat:=posN_le _ _
  rw[wrap_i64 (n:=i+1) (by omega) (by omega),wrap_i64 (n:=(posN (r.Pats.take i.toNat):Int)+1) (by omega) (by omega)]
  have hm:i.toNat<r.Pats.length:=by omega
  refine⟨by omega,by omega,if_cond (fun h=>⟨⟨by omega,by omega,?_⟩,by simp only[Zm171_3];omega⟩) (fun h=>⟨⟨by omega,by omega,?_⟩,by simp only[Zm171_3];omega⟩)⟩
  ·rw[hs,if_pos h];omega
  ·rw[hs,if_neg (by rw[h];decide)];omega
 ·have hc:=of_decide_eq_false hc
  rw[take_all r.Pats (by omega)]
  exact Lf_rfl _
def Zh171:HH:=⟨_,Zo171⟩
def Zk246:Con UU where
 α:=DPat
 md:=[.ro]
 of:=o1 (oA .ePat)
 ds:=fun x=>[dA .ePat x]
 pre:=fun p=>[p.Args.length≤4294967296]
 res:=fun p=>⟨[dL .str (addVars [] p.Args)],true,[]⟩
 law:=l1 (lA .ePat)
def Zi246_3(p:DPat):List ByteArray×Int×(ByteArray×List DArg×Bool×Unit)×Unit→Prop:=fun(l,i,b,_)=>b=(p.Kind,p.Args,p.Not,())∧0≤i∧i≤p.Args.length∧l=addVars [] (p.Args.take i.toNat)
def Zm246_3(p:DPat):List ByteArray×Int×(ByteArray×List DArg×Bool×Unit)×Unit→Nat:=fun(l,i,b,_)=>p.Args.length-i.toNat
def Za246:Zk246.α→Nat→Option (Ann UU):=fun p=>annL [(3,annOf [.slot 3 (3,1024) (.own .str true),.slot 4 (4,1024) (.lit (.int .i64)),.box 1 (1,1024) [.lit .str,.shr .eArg,.lit .bool]] (fun _=>Zi246_3 p) (Zm246_3 p))]
def Zu246:=us [Zh247]
theorem Zo246:Holds EE (246,Zk246):=by
 refine holds_of EE_ok func246 Zk246 (by kernel_rfl) Zu246 (us_ok _) Za246 (fun(p:DPat) hp hb=> ?_)
 have hz0:=bd_ePat (x:=p) (hb _ m0)
 have hl_p_Kind:=hz0.1
 have hl_p_Args:=hz0.2
 have hp0:p.Args.length≤4294967296:=hp _ m0
 clear hp hb
 apply @ve _ (Zi246_3 p ([],(0:Int),(p.Kind,p.Args,p.Not,()),())∧∀(y:List ByteArray×Int×(ByteArray×List DArg×Bool×PUnit)×PUnit),let x4:Nat:=y.2.2.1.2.1.length;let x5:Nat:=y.2.1.toNat;let x2:DArg:=List.getD y.2.2.1.2.1 x5 zArg;let x3:Int:=(↑x4:Int);let x1:ByteArray:=x2.S;let x0:List ByteArray:=[x1];Zi246_3 p y→bif decide (y.2.1<x3) then(0:Int)≤y.2.1∧x5<x4∧bif x2.K==(1:Int) then(0:Int)≤y.2.1∧x5<x4∧bif !hasS y.1 x1 then(0:Int)≤y.2.1∧x5<x4∧y.1.length+x0.length≤(4294967296:Nat)∧Zi246_3 p (y.1++x0,IntKind.wrap IntKind.i64 (y.2.1+(1:Int)),(y.2.2.1.1,y.2.2.1.2.1,y.2.2.1.2.2.1,()),())∧Zm246_3 p (y.1++x0,IntKind.wrap IntKind.i64 (y.2.1+(1:Int)),(y.2.2.1.1,y.2.2.1.2.1,y.2.2.1.2.2.1,()),())<Zm246_3 p y else Zi246_3 p (y.1,IntKind.wrap IntKind.i64 (y.2.1+(1:Int)),(y.2.2.1.1,y.2.2.1.2.1,y.2.2.1.2.2.1,()),())∧Zm246_3 p (y.1,IntKind.wrap IntKind.i64 (y.2.1+(1:Int)),(y.2.2.1.1,y.2.2.1.2.1,y.2.2.1.2.2.1,()),())<Zm246_3 p y else Zi246_3 p (y.1,IntKind.wrap IntKind.i64 (y.2.1+(1:Int)),(y.2.2.1.1,y.2.2.1.2.1,y.2.2.1.2.2.1,()),())∧Zm246_3 p (y.1,IntKind.wrap IntKind.i64 (y.2.1+(1:Int)),(y.2.2.1.1,y.2.2.1.2.1,y.2.2.1.2.2.1,()),())<Zm246_3 p y else Lf [VL .str y.1] [VL .str (addVars [] p.Args)]) (by kernel_rfl)
 dsimp only
 refine⟨⟨rfl,by omega,by omega,rfl⟩,?_⟩
 rintro⟨l,i,⟨b1,b2,b3,⟨⟩⟩,⟨⟩⟩ ⟨hbx,h1,h2,rfl⟩
 cases hbx
 simp only
 refine if_cond (fun hc=> ?_) (fun hc=> ?_)
 ·have hc:=of_decide_eq_true hc
  have hs:=addVars_step [] p.Args h1 hc
  have hl:=addVars_len (p.Args.take i.toNat) []
  have hl2:(p.Args.take i.toNat).length≤i.toNat:=by rw[zaw];omega
  simp only[zbo] at hl
  rw[wrap_i64 (by omega) (by omega)]
  have hm:∀x:List ByteArray,Zm246_3 p (x,i+1,(p.Kind,p.Args,p.Not,PUnit.unit),PUnit.unit)<Zm246_3 p (addVars [] (p.Args.take i.toNat),i,(p.Kind,p.Args,p.Not,PUnit.unit),PUnit.unit):=fun x=>by simp only[Zm246_3];omega
  refine⟨by omega,by omega,if_cond (fun h=>⟨by omega,by omega,if_cond (fun g=>⟨by omega,by omega,by simp;omega,⟨rfl,by omega,by omega,?_⟩,hm _⟩) (fun g=>⟨⟨rfl,by omega,by omega,?_⟩,hm _⟩)⟩) (fun h=>⟨⟨rfl,by omega,by omega,?_⟩,hm _⟩)⟩
  ·rw[hs,addVar,if_pos (eq_of_beq h),addOnce,if_neg (by simpa using g)]
  ·rw[hs,addVar,if_pos (eq_of_beq h),addOnce,if_pos (by simpa using g)]
  ·rw[hs,addVar,if_neg (fun e=>by rw[e] at h;simp at h)]
 ·have hc:=of_decide_eq_false hc
  rw[take_all p.Args (by omega)]
  exact Lf_rfl _
def Zh246:HH:=⟨_,Zo246⟩
def Zk197:Con UU where
 α:=DRule
 md:=[.ro]
 of:=o1 (oA .eRule)
 ds:=fun x=>[dA .eRule x]
 pre:=fun r=>[patArgs r.Pats≤4294967296]
 res:=fun r=>⟨[dL .str (posVarsS r.Pats)],true,[]⟩
 law:=l1 (lA .eRule)
def Zi197_3(r:DRule):List ByteArray×Int×(ByteArray×Int×List DPat×List DCond×List DAct×Unit)×Unit→Prop:=fun(l,i,b,_)=>b=(r.Name,r.Sal,r.Pats,r.Conds,r.Acts,())∧0≤i∧i≤r.Pats.length∧l=posVarsS (r.Pats.take i.toNat)
def Zm197_3(r:DRule):List ByteArray×Int×(ByteArray×Int×List DPat×List DCond×List DAct×Unit)×Unit→Nat:=fun(l,i,b,_)=>r.Pats.length-i.toNat
def Zi197_7(r:DRule):List ByteArray×Int×List ByteArray×Int×(ByteArray×Int×List DPat×List DCond×List DAct×Unit)×Unit→List ByteArray×Int×List ByteArray×Int×(ByteArray×Int×List DPat×List DCond×List DAct×Unit)×Unit→Prop:=fun(l0,i0,v0,k0,b0,_) (l,i,v,k,b,_)=>b=(r.Name,r.Sal,r.Pats,r.Conds,r.Acts,())∧i=i0∧v=v0∧0≤k∧k≤v.length∧l=(v.take k.toNat).foldl addOnce l0∧(k=0∨(List.getD r.Pats i.toNat zPat).Not=false)
def Zm197_7(r:DRule):List ByteArray×Int×List ByteArray×Int×(ByteArray×Int×List DPat×List DCond×List DAct×Unit)×Unit→Nat:=fun(l,i,v,k,b,_)=>v.length-k.toNat
def Za197:Zk197.α→Nat→Option (Ann UU):=fun r=>annL [(3,annOf [.slot 3 (3,1024) (.own .str true),.slot 4 (4,1024) (.lit (.int .i64)),.box 1 (1,1024) [.lit .str,.lit (.int .i64),.shr .ePat,.shr .eCond,.shr .eAct]] (fun _=>Zi197_3 r) (Zm197_3 r)),(7,annOf [.slot 3 (3,1024) (.own .str true),.slot 4 (4,1024) (.lit (.int .i64)),.slot 5 (5,1024) (.own .str true),.slot 6 (6,1024) (.lit (.int .i64)),.box 1 (1,1024) [.lit .str,.lit (.int .i64),.shr .ePat,.shr .eCond,.shr .eAct]] (Zi197_7 r) (Zm197_7 r))]
def Zu197:=us [Zh246,Zh247]
theorem Zo197:Holds EE (197,Zk197):=by
 refine holds_of EE_ok func197 Zk197 (by kernel_rfl) Zu197 (us_ok _) Za197 (fun(r:DRule) hp hb=> ?_)
 have hz0:=bd_eRule (x:=r) (hb _ m0)
 have hl_r_Name:=hz0.1
 have hl_r_Pats:=hz0.2.1
 have hl_r_Conds:=hz0.2.2.1
 have hl_r_Acts:=hz0.2.2.2
 have hp0:patArgs r.Pats≤4294967296:=hp _ m0
 clear hp hb
 apply @ve _ (Zi197_3 r ([],(0:Int),(r.Name,r.Sal,r.Pats,r.Conds,r.Acts,()),())∧∀(y:List ByteArray×Int×(ByteArray×Int×List DPat×List DCond×List DAct×PUnit)×PUnit),let x2:Nat:=y.2.2.1.2.2.1.length;let x3:Nat:=y.2.1.toNat;let x0:List DArg:=(List.getD y.2.2.1.2.2.1 x3 zPat).Args;let x1:Int:=(↑x2:Int);Zi197_3 r y→bif decide (y.2.1<x1) then(0:Int)≤y.2.1∧x3<x2∧x0.length≤(4294967296:Nat)∧Zi197_7 r (y.1,y.2.1,addVars [] x0,(0:Int),(y.2.2.1.1,y.2.2.1.2.1,y.2.2.1.2.2.1,y.2.2.1.2.2.2.1,y.2.2.1.2.2.2.2.1,()),()) (y.1,y.2.1,addVars [] x0,(0:Int),(y.2.2.1.1,y.2.2.1.2.1,y.2.2.1.2.2.1,y.2.2.1.2.2.2.1,y.2.2.1.2.2.2.2.1,()),())∧∀(y_1:List ByteArray×Int×List ByteArray×Int×(ByteArray×Int×List DPat×List DCond×List DAct×PUnit)×PUnit),let x6:Nat:=y_1.2.2.2.1.toNat;let x8:Nat:=y_1.2.2.1.length;let x9:Nat:=y_1.2.1.toNat;let x5:ByteArray:=List.getD y_1.2.2.1 x6 noBytes;let x7:Int:=(↑x8:Int);let x4:List ByteArray:=[x5];Zi197_7 r (y.1,y.2.1,addVars [] x0,(0:Int),(y.2.2.1.1,y.2.2.1.2.1,y.2.2.1.2.2.1,y.2.2.1.2.2.2.1,y.2.2.1.2.2.2.2.1,()),()) y_1→bif decide (y_1.2.2.2.1<x7) then(0:Int)≤y_1.2.1∧x9<y_1.2.2.2.2.1.2.2.1.length∧bif !(List.getD y_1.2.2.2.2.1.2.2.1 x9 zPat).Not then(0:Int)≤y_1.2.2.2.1∧x6<x8∧x6<x8∧bif !hasS y_1.1 x5 then(0:Int)≤y_1.2.2.2.1∧x6<x8∧x6<x8∧y_1.1.length+x4.length≤(4294967296:Nat)∧Zi197_7 r (y.1,y.2.1,addVars [] x0,(0:Int),(y.2.2.1.1,y.2.2.1.2.1,y.2.2.1.2.2.1,y.2.2.1.2.2.2.1,y.2.2.1.2.2.2.2.1,()),()) (y_1.1++x4,y_1.2.1,y_1.2.2.1,IntKind.wrap IntKind.i64 (y_1.2.2.2.1+(1:Int)),(y_1.2.2.2.2.1.1,y_1.2.2.2.2.1.2.1,y_1.2.2.2.2.1.2.2.1,y_1.2.2.2.2.1.2.2.2.1,y_1.2.2.2.2.1.2.2.2.2.1,()),())∧Zm197_7 r (y_1.1++x4,y_1.2.1,y_1.2.2.1,IntKind.wrap IntKind.i64 (y_1.2.2.2.1+(1:Int)),(y_1.2.2.2.2.1.1,y_1.2.2.2.2.1.2.1,y_1.2.2.2.2.1.2.2.1,y_1.2.2.2.2.1.2.2.2.1,y_1.2.2.2.2.1.2.2.2.2.1,()),())<Zm197_7 r y_1 else Zi197_7 r (y.1,y.2.1,addVars [] x0,(0:Int),(y.2.2.1.1,y.2.2.1.2.1,y.2.2.1.2.2.1,y.2.2.1.2.2.2.1,y.2.2.1.2.2.2.2.1,()),()) (y_1.1,y_1.2.1,y_1.2.2.1,IntKind.wrap IntKind.i64 (y_1.2.2.2.1+(1:Int)),(y_1.2.2.2.2.1.1,y_1.2.2.2.2.1.2.1,y_1.2.2.2.2.1.2.2.1,y_1.2.2.2.2.1.2.2.2.1,y_1.2.2.2.2.1.2.2.2.2.1,()),())∧Zm197_7 r (y_1.1,y_1.2.1,y_1.2.2.1,IntKind.wrap IntKind.i64 (y_1.2.2.2.1+(1:Int)),(y_1.2.2.2.2.1.1,y_1.2.2.2.2.1.2.1,y_1.2.2.2.2.1.2.2.1,y_1.2.2.2.2.1.2.2.2.1,y_1.2.2.2.2.1.2.2.2.2.1,()),())<Zm197_7 r y_1 else Zi197_3 r (y_1.1,IntKind.wrap IntKind.i64 (y_1.2.1+(1:Int)),(y_1.2.2.2.2.1.1,y_1.2.2.2.2.1.2.1,y_1.2.2.2.2.1.2.2.1,y_1.2.2.2.2.1.2.2.2.1,y_1.2.2.2.2.1.2.2.2.2.1,()),())∧Zm197_3 r (y_1.1,IntKind.wrap IntKind.i64 (y_1.2.1+(1:Int)),(y_1.2.2.2.2.1.1,y_1.2.2.2.2.1.2.1,y_1.2.2.2.2.1.2.2.1,y_1.2.2.2.2.1.2.2.2.1,y_1.2.2.2.2.1.2.2.2.2.1,()),())<Zm197_3 r y else Zi197_3 r (y_1.1,IntKind.wrap IntKind.i64 (y_1.2.1+(1:Int)),(y_1.2.2.2.2.1.1,y_1.2.2.2.2.1.2.1,y_1.2.2.2.2.1.2.2.1,y_1.2.2.2.2.1.2.2.2.1,y_1.2.2.2.2.1.2.2.2.2.1,()),())∧Zm197_3 r (y_1.1,IntKind.wrap IntKind.i64 (y_1.2.1+(1:Int)),(y_1.2.2.2.2.1.1,y_1.2.2.2.2.1.2.1,y_1.2.2.2.2.1.2.2.1,y_1.2.2.2.2.1.2.2.2.1,y_1.2.2.2.2.1.2.2.2.2.1,()),())<Zm197_3 r y else Lf [VL .str y.1] [VL .str (posVarsS r.Pats)]) (by kernel_rfl)
 dsimp only
 refine⟨⟨rfl,by omega,by omega,rfl⟩,?_⟩
 rintro⟨l,i,⟨b1,b2,b3,b4,b5,⟨⟩⟩,⟨⟩⟩ ⟨hbx,h1,h2,rfl⟩
 cases hbx
 simp only
 refine if_cond (fun hc=> ?_) (fun hc=> ?_)
 ·have hc:=of_decide_eq_true hc
  have hs:posVarsS (r.Pats.take (i+1).toNat)=posVarS (posVarsS (r.Pats.take i.toNat)) (List.getD r.Pats i.toNat zPat):=foldl_step posVarS [] r.Pats zPat h1 hc
  have ha:=patArgs_at r.Pats h1 hc
  have hl:=posVarsS_len0 (r.Pats.take i.toNat) []
  simp only[zbo,zbw] at hl
  have hv:=addVars_len (List.getD r.Pats i.toNat zPat).Args []
  simp only[zbo,zbw] at hv
  refine⟨by omega,by omega,by omega,⟨rfl,rfl,rfl,by omega,by omega,rfl,.inl rfl⟩,?_⟩
  rintro⟨l',i',v,k,⟨b1,b2,b3,b4,b5,⟨⟩⟩,⟨⟩⟩ ⟨hbx,rfl,rfl,g1,g2,rfl,g3⟩
  cases hbx
  simp only
  have hfl:=foldOnce_len ((addVars [] (List.getD r.Pats i'.toNat zPat).Args).take k.toNat) (posVarsS (r.Pats.take i'.toNat))
  have hfl2:((addVars [] (List.getD r.Pats i'.toNat zPat).Args).take k.toNat).length≤k.toNat:=by rw[zaw];omega
  have hl':(posVarsS (r.Pats.take i'.toNat)).length≤patArgs (r.Pats.take i'.toNat):=hl
  have hin:(addVars [] (List.getD r.Pats i'.toNat zPat).Args).length≤(List.getD r.Pats i'.toNat zPat).Args.length:=hv
  refine if_cond (fun hk=> ?_) (fun hk=> ?_)
  ·have hk:=of_decide_eq_true hk
   have hf:=foldl_step addOnce (posVarsS (r.Pats.take i'.toNat)) (addVars [] (List.getD r.Pats i'.toNat zPat).Args) noBytes g1 hk
   rw[wrap_i64 (n:=k+1) (by omega) (by omega),wrap_i64 (n:=i'+1) (by omega) (by omega)]
   refine⟨by omega,by omega,if_cond (fun hn=> ?_) (fun hn=> ?_)⟩
   ·have hn:(List.getD r.Pats i'.toNat zPat).Not=false:=by simpa using hn
    have hkl:k.toNat<(addVars [] (List.getD r.Pats i'.toNat zPat).Args).length:=by omega
    refine⟨g1,hkl,hkl,if_cond (fun g=>⟨g1,hkl,hkl,by simp only[zbq,zbo];omega,⟨rfl,rfl,rfl,by omega,by omega,?_,.inr hn⟩,by simp only[Zm197_7];omega⟩) (fun g=>⟨⟨rfl,rfl,rfl,by omega,by omega,?_,.inr hn⟩,by simp only[Zm197_7];omega⟩)⟩
    ·rw[hf,addOnce,if_neg (by simpa using g)]
    ·rw[hf,addOnce,if_pos (by simpa using g)]
   ·have hn:(List.getD r.Pats i'.toNat zPat).Not=true:=by simpa using hn
    have hk0:k=0:=g3.resolve_right (by rw[hn];decide)
    subst hk0
    refine⟨⟨rfl,by omega,by omega,?_⟩,by simp only[Zm197_3];omega⟩
    rw[hs,posVarS,if_pos hn]
    rfl
  ·have hk:=of_decide_eq_false hk
   rw[wrap_i64 (n:=i'+1) (by omega) (by omega)]
   refine⟨⟨rfl,by omega,by omega,?_⟩,by simp only[Zm197_3];omega⟩
   rw[hs,posVarS]
   by_cases hn:(List.getD r.Pats i'.toNat zPat).Not=true
   ·have hk0:k=0:=g3.resolve_right (by rw[hn];decide)
    subst hk0
    rw[if_pos hn];rfl
   ·rw[if_neg hn,take_all (addVars [] (List.getD r.Pats i'.toNat zPat).Args) (by omega)]
 ·have hc:=of_decide_eq_false hc
  rw[take_all r.Pats (by omega)]
  exact Lf_rfl _
def Zh197:HH:=⟨_,Zo197⟩
def Zk280:Con UU where
 α:=(List ByteArray)×ByteArray
 md:=[.mv,.ro]
 of:=oC (oL .str) (o1 oS)
 ds:=fun x=>[dL .str x.1,dS x.2]
 pre:=fun(l,name)=>[l.length≤4294967295]
 res:=fun(l,name)=>⟨[dL .str (addOnce l name)],true,[]⟩
 law:=lC (lL .str) (l1 lS)
def Za280:Zk280.α→Nat→Option (Ann UU):=fun(l,name)=>annL []
def Zu280:=us [Zh223]
theorem Zo280:Holds EE (280,Zk280):=by
 refine holds_of EE_ok func280 Zk280 (by kernel_rfl) Zu280 (us_ok _) Za280 (fun x hp hb=> ?_)
 obtain⟨l,name⟩:=x
 have hl_l:l.length≤9223372036854775807:=bdL (hb _ m0)
 have hl_name:=bdS (s:=name) (hb _ m1)
 have hp0:l.length≤4294967295:=hp _ m0
 clear hp hb
 apply @ve _ (bif hasS l name then Lf [VL .str l] [VL .str (addOnce l name)] else l.length+List.length [name]≤(4294967296:Nat)∧Lf [VL .str (l++[name])] [VL .str (addOnce l name)]) (by kernel_rfl)
 refine if_cond (fun h=> ?_) (fun h=>⟨by simp;omega,?_⟩)
 ·rw[addOnce,if_pos h];exact Lf_rfl _
 ·rw[addOnce,if_neg (by rw[h];decide)];exact Lf_rfl _
def Zh280:HH:=⟨_,Zo280⟩
def Zk263:Con UU where
 α:=(List ByteArray)×(List DArg)
 md:=[.mv,.ro]
 of:=oC (oL .str) (o1 (oL .eArg))
 ds:=fun x=>[dL .str x.1,dL .eArg x.2]
 pre:=fun(l,args)=>[l.length+args.length≤4294967295]
 res:=fun(l,args)=>⟨[dL .str (addVars l args)],true,[]⟩
 law:=lC (lL .str) (l1 (lL .eArg))
def Zi263_2(l:(List ByteArray))(args:(List DArg)):List ByteArray×Int×Unit→Prop:=fun(v,i,_)=>0≤i∧i≤args.length∧v=addVars l (args.take i.toNat)
def Zm263_2(l:(List ByteArray))(args:(List DArg)):List ByteArray×Int×Unit→Nat:=fun(v,i,_)=>args.length-i.toNat
def Za263:Zk263.α→Nat→Option (Ann UU):=fun(l,args)=>annL [(2,annOf [.slot 0 (0,1024) (.own .str true),.slot 9 (9,1024) (.lit (.int .i64))] (fun _=>Zi263_2 l args) (Zm263_2 l args))]
def Zu263:=us [Zh280]
theorem Zo263:Holds EE (263,Zk263):=by
 refine holds_of EE_ok func263 Zk263 (by kernel_rfl) Zu263 (us_ok _) Za263 (fun x hp hb=> ?_)
 obtain⟨l,args⟩:=x
 have hl_l:l.length≤9223372036854775807:=bdL (hb _ m0)
 have hl_args:args.length≤9223372036854775807:=bdL (hb _ m1)
 have hp0:l.length+args.length≤4294967295:=hp _ m0
 clear hp hb
 apply @ve _ (Zi263_2 l args (l,(0:Int),())∧∀(y:List ByteArray×Int×PUnit),let x1:Nat:=y.2.1.toNat;let x0:DArg:=List.getD args x1 zArg;Zi263_2 l args y→bif decide (y.2.1<(args.length:Int)) then(0:Int)≤y.2.1∧x1<args.length∧bif x0.K==(1:Int) then y.1.length≤(4294967295:Nat)∧Zi263_2 l args (addOnce y.1 x0.S,IntKind.wrap IntKind.i64 (y.2.1+(1:Int)),())∧Zm263_2 l args (addOnce y.1 x0.S,IntKind.wrap IntKind.i64 (y.2.1+(1:Int)),())<Zm263_2 l args y else Zi263_2 l args (y.1,IntKind.wrap IntKind.i64 (y.2.1+(1:Int)),())∧Zm263_2 l args (y.1,IntKind.wrap IntKind.i64 (y.2.1+(1:Int)),())<Zm263_2 l args y else Lf [VL .str y.1] [VL .str (addVars l args)]) (by kernel_rfl)
 dsimp only
 refine⟨⟨by omega,by omega,rfl⟩,?_⟩
 rintro⟨v,i,⟨⟩⟩ ⟨h1,h2,rfl⟩
 simp only
 refine if_cond (fun hc=> ?_) (fun hc=> ?_)
 ·have hc:=of_decide_eq_true hc
  have hs:=addVars_step l args h1 hc
  have hl:=addVars_len (args.take i.toNat) l
  have hl2:(args.take i.toNat).length≤i.toNat:=by rw[zaw];omega
  rw[wrap_i64 (by omega) (by omega)]
  refine⟨by omega,by omega,if_cond (fun h=>⟨by omega,⟨by omega,by omega,?_⟩,by simp only[Zm263_2];omega⟩) (fun h=>⟨⟨by omega,by omega,?_⟩,by simp only[Zm263_2];omega⟩)⟩
  ·rw[hs,addVar,if_pos (eq_of_beq h)]
  ·rw[hs,addVar,if_neg (fun e=>by rw[e] at h;simp at h)]
 ·have hc:=of_decide_eq_false hc
  rw[take_all args (by omega)]
  exact Lf_rfl _
def Zh263:HH:=⟨_,Zo263⟩
def Zk221:Con UU where
 α:=DRule
 md:=[.ro]
 of:=o1 (oA .eRule)
 ds:=fun x=>[dA .eRule x]
 pre:=fun r=>[patArgs r.Pats≤4294967295]
 res:=fun r=>⟨[dL .str (posVars r.Pats)],true,[]⟩
 law:=l1 (lA .eRule)
def Zi221_3(r:DRule):List ByteArray×Int×Unit→Prop:=fun(v,i,_)=>0≤i∧i≤r.Pats.length∧v=posVars (r.Pats.take i.toNat)
def Zm221_3(r:DRule):List ByteArray×Int×Unit→Nat:=fun(v,i,_)=>r.Pats.length-i.toNat
def Za221:Zk221.α→Nat→Option (Ann UU):=fun r=>annL [(3,annOf [.slot 3 (3,1024) (.own .str true),.slot 9 (9,1024) (.lit (.int .i64))] (fun _=>Zi221_3 r) (Zm221_3 r))]
def Zu221:=us [Zh263]
theorem Zo221:Holds EE (221,Zk221):=by
 refine holds_of EE_ok func221 Zk221 (by kernel_rfl) Zu221 (us_ok _) Za221 (fun(r:DRule) hp hb=> ?_)
 have hz0:=bd_eRule (x:=r) (hb _ m0)
 have hl_r_Name:=hz0.1
 have hl_r_Pats:=hz0.2.1
 have hl_r_Conds:=hz0.2.2.1
 have hl_r_Acts:=hz0.2.2.2
 have hp0:patArgs r.Pats≤4294967295:=hp _ m0
 clear hp hb
 apply @ve _ (Zi221_3 r ([],(0:Int),())∧∀(y:List ByteArray×Int×PUnit),let x2:Nat:=y.2.1.toNat;let x1:DPat:=List.getD r.Pats x2 zPat;let x0:List DArg:=x1.Args;Zi221_3 r y→bif decide (y.2.1<(r.Pats.length:Int)) then(0:Int)≤y.2.1∧x2<r.Pats.length∧bif !x1.Not then y.1.length+x0.length≤(4294967295:Nat)∧Zi221_3 r (addVars y.1 x0,IntKind.wrap IntKind.i64 (y.2.1+(1:Int)),())∧Zm221_3 r (addVars y.1 x0,IntKind.wrap IntKind.i64 (y.2.1+(1:Int)),())<Zm221_3 r y else Zi221_3 r (y.1,IntKind.wrap IntKind.i64 (y.2.1+(1:Int)),())∧Zm221_3 r (y.1,IntKind.wrap IntKind.i64 (y.2.1+(1:Int)),())<Zm221_3 r y else Lf [VL .str y.1] [VL .str (posVars r.Pats)]) (by kernel_rfl)
 dsimp only
 refine⟨⟨by omega,by omega,rfl⟩,?_⟩
 rintro⟨v,i,⟨⟩⟩ ⟨h1,h2,rfl⟩
 simp only
 refine if_cond (fun hc=> ?_) (fun hc=> ?_)
 ·have hc:=of_decide_eq_true hc
  have hs:posVars (r.Pats.take (i+1).toNat)=posVar (posVars (r.Pats.take i.toNat)) (List.getD r.Pats i.toNat zPat):=foldl_step posVar [] r.Pats zPat h1 hc
  have ha:=patArgs_at r.Pats h1 hc
  have hl:=posVars_len0 (r.Pats.take i.toNat) []
  simp only[zbo,zbw] at hl
  have hl':(posVars (r.Pats.take i.toNat)).length≤patArgs (r.Pats.take i.toNat):=hl
  rw[wrap_i64 (by omega) (by omega)]
  refine⟨by omega,by omega,if_cond (fun h=>⟨by omega,⟨by omega,by omega,?_⟩,by simp only[Zm221_3];omega⟩) (fun h=>⟨⟨by omega,by omega,?_⟩,by simp only[Zm221_3];omega⟩)⟩
  ·rw[hs,posVar,if_neg (by simpa using h)]
  ·rw[hs,posVar,if_pos (by simpa using h)]
 ·have hc:=of_decide_eq_false hc
  rw[take_all r.Pats (by omega)]
  exact Lf_rfl _
def Zh221:HH:=⟨_,Zo221⟩
def notAt(ps:List DPat)(i:Nat):Bool:=(List.getD ps i zPat).Not
def patAt(ps:List DPat)(i:Nat):Bool:=patOk (List.getD ps i zPat)&& !(decide (2<i)&& !notAt ps i)&& !(decide (i=0)&&notAt ps i)&& !(decide (0<i)&&notAt ps (i-1)&& !notAt ps i)
def patsOk(ps:List DPat):Bool:=decide (1≤ps.length∧ps.length≤6)&&allI ps.length (patAt ps)
def patAtI(ps:List DPat)(i:Nat):Bool:=patOk (List.getD ps i zPat)&&(notAt ps i==decide (posN ps≤i))
def patsOkI(ps:List DPat):Bool:=decide (1≤ps.length∧ps.length≤6)&&decide (1≤posN ps∧posN ps≤3)&&allI ps.length (patAtI ps)
theorem allI_all{n:Nat}{p:Nat→Bool}:allI n p=true↔∀j,j<n→p j=true:=by simp[allI]
theorem posN_cons(p:DPat)(ps:List DPat):posN (p::ps)=(if p.Not then 0 else 1)+posN ps:=by
 simp only[posN,List.filter_cons]
 cases p.Not<;>simp<;>omega
theorem not_mono:∀{ps:List DPat},(∀i,i+1<ps.length→notAt ps i=true→notAt ps (i+1)=true)→∀i,i<ps.length→notAt ps i=decide (posN ps≤i)
 |[],_,i,hi=>by simp at hi
 |p::ps,h,i,hi=>by
  have ih:=not_mono (ps:=ps) (fun j hj hn=>h (j+1) (by simpa using hj) hn)
  rw[posN_cons]
  cases hp:p.Not with
  |false=>
   cases i with
   |zero=>show p.Not=_;rw[hp];simp
   |succ i=>
    show notAt ps i=_
    rw[ih i (by simpa using hi)]
    simp only[zbg,if_false,decide_eq_decide];omega
  |true=>
   have hall:∀j,j<(p::ps).length→notAt (p::ps) j=true:=by
    intro j
    induction j with
    |zero=>intro _;exact hp
    |succ j ihj=>intro hj;exact h j hj (ihj (by omega))
   have h0:posN ps=0:=by
    cases ps with
    |nil=>rfl
    |cons q qs=>
     have h1:=ih 0 (by simp)
     have h2:notAt (q::qs) 0=true:=hall 1 (by simp)
     rw[h2] at h1
     have:=of_decide_eq_true h1.symm
     omega
   rw[hall i hi,h0];simp
theorem patsOkI_eq(ps:List DPat):patsOkI ps=patsOk ps:=by
 rw[zcm]
 simp only[patsOkI,patsOk,zaf,decide_eq_true_eq,allI_all]
 constructor
 ·rintro⟨⟨h1,h2⟩,h3⟩
  have hN:∀j,j<ps.length→notAt ps j=decide (posN ps≤j):=fun j hj=>by
   have:=h3 j hj
   simp only[patAtI,zaf,beq_iff_eq] at this
   exact this.2
  refine⟨h1,fun j hj=> ?_⟩
  have hk:=h3 j hj
  simp only[patAtI,zaf] at hk
  simp only[patAt,hk.1,hN j hj,zck,zaf,zbd,Bool.and_eq_false_iff,decide_eq_false_iff_not,Bool.not_eq_false',decide_eq_true_eq]
  refine⟨⟨by omega,by omega⟩,?_⟩
  by_cases h0:0<j
  ·rw[hN (j-1) (by omega)];simp only[decide_eq_false_iff_not];omega
  ·exact .inl (.inl h0)
 ·rintro⟨h1,h2⟩
  have hA:∀j,j<ps.length→patOk (List.getD ps j zPat)=true∧(2<j→notAt ps j=true)∧(j=0→notAt ps j=false)∧(0<j→notAt ps (j-1)=true→notAt ps j=true):=fun j hj=>by
   have:=h2 j hj
   simp only[patAt,zaf,zbd,Bool.and_eq_false_iff,decide_eq_false_iff_not,Bool.not_eq_false'] at this
   obtain⟨⟨⟨a1,a2⟩,a3⟩,a4⟩:=this
   refine⟨a1,fun h=>a2.resolve_left (fun e=>e h),fun h=>a3.resolve_left (fun e=>e h),fun h hn=>a4.resolve_left (fun e=> ?_)⟩
   rcases e with e|e
   ·exact e h
   ·rw[hn] at e;cases e
  have hN:=not_mono (ps:=ps) (fun i hi hn=>(hA (i+1) hi).2.2.2 (by omega) (by simpa using hn))
  have hz:=(hA 0 (by omega)).2.2.1 rfl
  rw[hN 0 (by omega)] at hz
  have hz:=of_decide_eq_false hz
  have hle:posN ps≤ps.length:=zdt _ _
  refine⟨⟨h1,by omega,?_⟩,fun j hj=> ?_⟩
  ·by_cases h4:3<ps.length
   ·have:=(hA 3 h4).2.1 (by omega)
    rw[hN 3 h4] at this
    exact of_decide_eq_true this
   ·omega
  ·simp only[patAtI,(hA j hj).1,hN j hj];simp
def knownIn(vars:List ByteArray)(a:DArg):Bool:= !decide (a.K=1)||hasS vars a.S
def kondIn(vars:List ByteArray)(c:DCond):Bool:=kondOk c&&knownIn vars c.L&&knownIn vars c.R
def kondsIn(l:List DCond)(vars:List ByteArray):Bool:=decide (l.length≤6)&&l.all (kondIn vars)
def exprIn(vars:List ByteArray)(e:DExpr):Bool:=knownIn vars e.L&&knownIn vars e.R
def dropIn(pos:Int)(a:DAct):Bool:= !(decide (a.Kind=2)&&decide (pos≤a.N))
def actIn(vars:List ByteArray)(pos:Int)(a:DAct):Bool:=actOk a&&dropIn pos a&&a.Args.all (exprIn vars)
def actsIn(l:List DAct)(vars:List ByteArray)(pos:Int):Bool:=decide (1≤l.length∧l.length≤6)&&l.all (actIn vars pos)
def ruleOk(r:DRule):Bool:=nameOk r.Name&&decide (-100≤r.Sal∧r.Sal≤100)&&patsOk r.Pats&&kondsIn r.Conds (posVarsS r.Pats)&&actsIn r.Acts (posVarsS r.Pats) (posN r.Pats)
theorem patArgs_size(ps:List DPat):patArgs ps≤sizePatS ps:=by
 simp only[patArgs,sizePatS]
 have:∀l:List DPat,(l.map fun p=>p.Args.length).sum≤(l.map sizePat).sum:=by
  intro l
  induction l with
  |nil=>exact zca _
  |cons p l ih=>simp only[zbt,zdc,sizePat,sizeArgS] at ih⊢;omega
 have:=this ps;omega
theorem has_same(ps:List DPat)(t:ByteArray):hasS (posVars ps) t=hasS (posVarsS ps) t:=by
 rw[zcm,hasS_iff,hasS_iff,posVars_mem,posVarsS_mem]
def usedC(l:List ByteArray)(c:DCond):List ByteArray:=addVars l [c.L,c.R]
def usedE(l:List ByteArray)(e:DExpr):List ByteArray:=addVars l [e.L,e.R]
def usedA(l:List ByteArray)(a:DAct):List ByteArray:=a.Args.foldl usedE l
def usedV(r:DRule):List ByteArray:=r.Acts.foldl usedA (r.Conds.foldl usedC [])
def usedN(l:List DAct):Nat:=(l.map fun a=>2*a.Args.length).sum
theorem usedC_len(l:List ByteArray)(c:DCond):(usedC l c).length≤l.length+2:=addVars_len _ _
theorem usedE_len:∀(es:List DExpr)(l:List ByteArray),(es.foldl usedE l).length≤l.length+2*es.length
 |[],l=>zca _
 |e::es,l=>by
  have h1:=usedE_len es (usedE l e)
  have h2:(usedE l e).length≤l.length+2:=addVars_len _ _
  show(es.foldl usedE (usedE l e)).length≤_
  simp only[zbq];omega
theorem usedCs_len:∀(cs:List DCond)(l:List ByteArray),(cs.foldl usedC l).length≤l.length+2*cs.length
 |[],l=>zca _
 |c::cs,l=>by
  have h1:=usedCs_len cs (usedC l c)
  have h2:=usedC_len l c
  show(cs.foldl usedC (usedC l c)).length≤_
  simp only[zbq];omega
theorem usedAs_len:∀(xs:List DAct)(l:List ByteArray),(xs.foldl usedA l).length≤l.length+usedN xs
 |[],l=>zca _
 |a::xs,l=>by
  have h1:=usedAs_len xs (usedA l a)
  have h2:(usedA l a).length≤l.length+2*a.Args.length:=usedE_len _ _
  show(xs.foldl usedA (usedA l a)).length≤_
  simp only[usedN,zbt,zdc] at h1⊢;omega
theorem usedN_at(l:List DAct){i:Int}(h0:0≤i)(h:i<l.length):usedN (l.take i.toNat)+2*(List.getD l i.toNat zAct).Args.length≤usedN l:=by
 have h1:usedN (l.take (i+1).toNat)≤usedN l:=by
  have h:=congrArg (fun q=>(q.map fun a:DAct=>2*a.Args.length).sum) (zcq (i+1).toNat l)
  simp only[zef,zet] at h
  simp only[usedN];omega
 rw[←take_step l zAct h0 h] at h1
 simp only[usedN,zef,zet,zbt,List.map_nil,zdc,List.sum_nil] at h1⊢
 omega
def names(t:ByteArray)(a:DArg):Prop:=a.K=1∧t=a.S
theorem used2_mem{l:List ByteArray}{a b:DArg}{t:ByteArray}:t∈addVars l [a,b]↔t∈l∨names t a∨names t b:=by
 rw[addVars_mem];simp[names]
theorem usedE_mem{t:ByteArray}:∀{es:List DExpr}{l:List ByteArray},t∈es.foldl usedE l↔t∈l∨∃e∈es,names t e.L∨names t e.R
 |[],l=>by simp
 |e::es,l=>by
  show t∈es.foldl usedE (usedE l e)↔_
  rw[usedE_mem,usedE,used2_mem]
  simp only[zak,exists_eq_or_imp,or_assoc]
theorem usedCs_mem{t:ByteArray}:∀{cs:List DCond}{l:List ByteArray},t∈cs.foldl usedC l↔t∈l∨∃c∈cs,names t c.L∨names t c.R
 |[],l=>by simp
 |c::cs,l=>by
  show t∈cs.foldl usedC (usedC l c)↔_
  rw[usedCs_mem,usedC,used2_mem]
  simp only[zak,exists_eq_or_imp,or_assoc]
theorem usedAs_mem{t:ByteArray}:∀{xs:List DAct}{l:List ByteArray},t∈xs.foldl usedA l↔t∈l∨∃a∈xs,∃e∈a.Args,names t e.L∨names t e.R
 |[],l=>by simp
 |a::xs,l=>by
  show t∈xs.foldl usedA (usedA l a)↔_
  rw[usedAs_mem,usedA,usedE_mem]
  simp only[zak,exists_eq_or_imp,or_assoc]
theorem knownIn_iff{vars:List ByteArray}{a:DArg}:knownIn vars a=true↔∀t,names t a→hasS vars t=true:=by
 simp only[knownIn,zcn,zbd,decide_eq_false_iff_not,names]
 constructor
 ·rintro(h|h) t ⟨h1,rfl⟩
  ·exact absurd h1 h
  ·exact h
 ·intro h
  by_cases h1:a.K=1
  ·exact .inr (h a.S ⟨h1,rfl⟩)
  ·exact .inl h1
theorem used_all(r:DRule)(vars:List ByteArray):(usedV r).all (hasS vars)=(r.Conds.all (fun c=>knownIn vars c.L&&knownIn vars c.R)&&r.Acts.all fun a=>a.Args.all (exprIn vars)):=by
 rw[zcm]
 simp only[zaf,zcb,exprIn,knownIn_iff,usedV]
 constructor
 ·intro h
  refine⟨fun c hc=>⟨fun t ht=>h t ?_,fun t ht=>h t ?_⟩,fun a ha e he=>⟨fun t ht=>h t ?_,fun t ht=>h t ?_⟩⟩
  ·rw[usedAs_mem,usedCs_mem];exact .inl (.inr ⟨c,hc,.inl ht⟩)
  ·rw[usedAs_mem,usedCs_mem];exact .inl (.inr ⟨c,hc,.inr ht⟩)
  ·rw[usedAs_mem];exact .inr ⟨a,ha,e,he,.inl ht⟩
  ·rw[usedAs_mem];exact .inr ⟨a,ha,e,he,.inr ht⟩
 ·rintro⟨h1,h2⟩ t ht
  rw[usedAs_mem,usedCs_mem] at ht
  rcases ht with(ht|⟨c,hc,ht|ht⟩)|⟨a,ha,e,he,ht|ht⟩
  ·cases ht
  ·exact(h1 c hc).1 t ht
  ·exact(h1 c hc).2 t ht
  ·exact(h2 a ha e he).1 t ht
  ·exact(h2 a ha e he).2 t ht
def ruleOkI(r:DRule):Bool:=nameOk r.Name&&decide (-100≤r.Sal∧r.Sal≤100)&&patsOk r.Pats&&decide (r.Conds.length≤6)&&decide (1≤r.Acts.length∧r.Acts.length≤6)&&r.Conds.all kondOk&&r.Acts.all (fun a=>actOk a&&dropIn (posN r.Pats) a)&&(usedV r).all (hasS (posVars r.Pats))
theorem all_and{α:Type}(p q:α→Bool)(l:List α):l.all (fun x=>p x&&q x)=(l.all p&&l.all q):=by
 induction l with
 |nil=>rfl
 |cons x l ih=>simp only[zdr,ih];cases p x<;>cases q x<;>simp
theorem ruleOkI_eq(r:DRule):ruleOkI r=ruleOk r:=by
 have e1:(usedV r).all (hasS (posVars r.Pats))=(usedV r).all (hasS (posVarsS r.Pats)):=by
  have:hasS (posVars r.Pats)=hasS (posVarsS r.Pats):=funext fun t=>has_same _ _
  rw[this]
 have e2:r.Conds.all (kondIn (posVarsS r.Pats))=(r.Conds.all kondOk&&r.Conds.all (fun c=>knownIn (posVarsS r.Pats) c.L&&knownIn (posVarsS r.Pats) c.R)):=by
  rw[←all_and]
  congr 1;funext c;simp only[kondIn,Bool.and_assoc]
 have e3:r.Acts.all (actIn (posVarsS r.Pats) (posN r.Pats))=(r.Acts.all (fun a=>actOk a&&dropIn (posN r.Pats) a)&&r.Acts.all (fun a=>a.Args.all (exprIn (posVarsS r.Pats)))):=by
  rw[←all_and];rfl
 simp only[ruleOkI,ruleOk,kondsIn,actsIn,e1,e2,e3,used_all]
 rw[zcm]
 simp only[zaf]
 constructor
 ·rintro⟨⟨⟨⟨⟨⟨⟨a1,a2⟩,a3⟩,a4⟩,a5⟩,a6⟩,a7⟩,a8,a9⟩
  exact⟨⟨⟨⟨a1,a2⟩,a3⟩,a4,a6,a8⟩,a5,a7,a9⟩
 ·rintro⟨⟨⟨⟨a1,a2⟩,a3⟩,a4,a6,a8⟩,a5,a7,a9⟩
  exact⟨⟨⟨⟨⟨⟨⟨a1,a2⟩,a3⟩,a4⟩,a5⟩,a6⟩,a7⟩,a8,a9⟩
theorem if_dec{p:Prop}[Decidable p]{P Q:Prop}(h1:p→P)(h2:¬p→Q):bif decide p then P else Q:=if_cond (fun h=>h1 (of_decide_eq_true h)) (fun h=>h2 (of_decide_eq_false h))
theorem if_not{b:Bool}{P Q:Prop}(h1:b=false→P)(h2:b=true→Q):bif !b then P else Q:=if_cond (fun h=>h1 (by simpa using h)) (fun h=>h2 (by simpa using h))
theorem if_num{a b:Int}{P Q:Prop}(h1:a=b→P)(h2:¬a=b→Q):bif a==b then P else Q:=if_cond (fun h=>h1 (eq_of_beq h)) (fun h=>h2 (fun e=>by rw[e] at h;simp at h))
theorem sumC{α:Type}(f:α→Nat)(B:Nat):∀(l:List α),(∀x∈l,f x≤B)→(l.map f).sum≤l.length*B
 |[],_=>by simp
 |x::l,h=>by
  have h1:=sumC f B l (fun y hy=>h y (zaa _ hy))
  have h2:=h x zab
  simp only[zbt,zdc,zbq,zci];omega
theorem patsOk_args{ps:List DPat}(h:patsOk ps=true):patArgs ps≤30:=by
 simp only[patsOk,zaf,decide_eq_true_eq,allI_all] at h
 have:=sumC (fun p:DPat=>p.Args.length) 5 ps (fun p hp=>by
  obtain⟨i,hi,rfl⟩:=zbk hp
  have hk:=h.2 i hi
  simp only[patAt,zaf,zac,zad hi,zcj] at hk
  have hk:=hk.1.1.1
  simp only[patOk,zaf,decide_eq_true_eq] at hk
  exact hk.1.2)
 simp only[patArgs];omega
theorem actOk_args{a:DAct}(h:actOk a=true):a.Args.length≤5:=by
 simp only[actOk,bareA,exprsOk] at h
 grind
theorem actsOk_used{l:List DAct}(hl:l.length≤6)(h:∀a∈l,actOk a=true):usedN l≤60:=by
 have:=sumC (fun a:DAct=>2*a.Args.length) 10 l (fun a ha=>by have:=actOk_args (h a ha);omega)
 simp only[usedN];omega
def Zk250:Con UU where
 α:=DArg×(List ByteArray)
 md:=[.ro,.ro]
 of:=oC (oA .eArg) (o1 (oL .str))
 ds:=fun x=>[dA .eArg x.1,dL .str x.2]
 pre:=fun _=>[]
 res:=fun(a,vars)=>⟨[dO (knownIn vars a)],true,[]⟩
 law:=lC (lA .eArg) (l1 (lL .str))
def Za250:Zk250.α→Nat→Option (Ann UU):=fun(a,vars)=>annL []
def Zu250:=us [Zh247]
theorem Zo250:Holds EE (250,Zk250):=by
 refine holds_of EE_ok func250 Zk250 (by kernel_rfl) Zu250 (us_ok _) Za250 (fun x hp hb=> ?_)
 obtain⟨a,vars⟩:=x
 have hz0:=bd_eArg (x:=a) (hb _ m0)
 have hl_a_S:=hz0.1
 have hl_a_V_S:=hz0.2
 have hl_vars:vars.length≤9223372036854775807:=bdL (hb _ m1)
 clear hp hb
 apply @ve _ (bif a.K !=(1:Int) then Lb true (knownIn vars a) else Lb (hasS vars a.S) (knownIn vars a)) (by kernel_rfl)
 simp only[knownIn]
 refine if_cond (fun h=>Lf_b ?_) (fun h=>Lf_b ?_)<;>grind
def Zh250:HH:=⟨_,Zo250⟩
def Zk199:Con UU where
 α:=(List DCond)×(List ByteArray)
 md:=[.ro,.ro]
 of:=oC (oL .eCond) (o1 (oL .str))
 ds:=fun x=>[dL .eCond x.1,dL .str x.2]
 pre:=fun _=>[]
 res:=fun(l,vars)=>⟨[dO (kondsIn l vars)],true,[]⟩
 law:=lC (lL .eCond) (l1 (lL .str))
def Zi199_2(l:(List DCond))(vars:(List ByteArray)):Int×Unit→Prop:=fun(i,_)=>0≤i∧i≤l.length∧(l.drop i.toNat).all (kondIn vars)=l.all (kondIn vars)
def Zm199_2(l:(List DCond))(vars:(List ByteArray)):Int×Unit→Nat:=fun(i,_)=>l.length-i.toNat
def Za199:Zk199.α→Nat→Option (Ann UU):=fun(l,vars)=>annL [(2,annOf [.slot 5 (5,1024) (.lit (.int .i64))] (fun _=>Zi199_2 l vars) (Zm199_2 l vars))]
def Zu199:=us [Zh249,Zh250]
theorem Zo199:Holds EE (199,Zk199):=by
 refine holds_of EE_ok func199 Zk199 (by kernel_rfl) Zu199 (us_ok _) Za199 (fun x hp hb=> ?_)
 obtain⟨l,vars⟩:=x
 have hl_l:l.length≤9223372036854775807:=bdL (hb _ m0)
 have hl_vars:vars.length≤9223372036854775807:=bdL (hb _ m1)
 clear hp hb
 apply @ve _ (let x0:Int:=(l.length:Int);Zi199_2 l vars ((0:Int),())∧∀(y:Int×PUnit),let x1:DCond:=List.getD l y.1.toNat zCond;Zi199_2 l vars y→bif decide (y.1<x0) then(0:Int)≤y.1∧y.1.toNat<l.length∧bif !kondOk x1 then Lb false (kondsIn l vars) else(0:Int)≤y.1∧y.1.toNat<l.length∧bif !knownIn vars x1.L then Lb false (kondsIn l vars) else(0:Int)≤y.1∧y.1.toNat<l.length∧bif !knownIn vars x1.R then Lb false (kondsIn l vars) else Zi199_2 l vars (IntKind.wrap IntKind.i64 (y.1+(1:Int)),())∧Zm199_2 l vars (IntKind.wrap IntKind.i64 (y.1+(1:Int)),())<Zm199_2 l vars y else Lb (decide (x0≤(6:Int))) (kondsIn l vars)) (by kernel_rfl)
 dsimp only
 refine⟨⟨by omega,by omega,rfl⟩,?_⟩
 rintro⟨i,⟨⟩⟩ ⟨h1,h2,hR⟩
 simp only
 refine if_dec (fun hc=> ?_) (fun hc=> ?_)
 ·rw[all_step _ _ zCond h1 (by omega)] at hR
  rw[wrap_i64 (by omega) (by omega)]
  have hN:kondIn vars (List.getD l i.toNat zCond)=false→kondsIn l vars=false:=fun h=>by simp only[kondsIn,←hR,h];simp
  refine⟨by omega,by omega,if_not (fun h=>Lf_ff (hN ?_)) (fun h=>⟨by omega,by omega,if_not (fun g=>Lf_ff (hN ?_)) (fun g=>⟨by omega,by omega,if_not (fun k=>Lf_ff (hN ?_)) (fun k=>⟨⟨by omega,by omega,?_⟩,by simp only[Zm199_2];omega⟩)⟩)⟩)⟩
  ·simp only[kondIn,h,zbi]
  ·simp only[kondIn,g,zbs,zbi]
  ·simp only[kondIn,k,zbs]
  ·rw[←hR];simp only[kondIn,h,g,k,zck]
 ·rw[drop_end _ (by omega)] at hR
  refine Lf_b ?_
  simp only[kondsIn,←hR];simp;omega
def Zh199:HH:=⟨_,Zo199⟩
def Zk200:Con UU where
 α:=(List DAct)×(List ByteArray)×Int
 md:=[.ro,.ro,.ro]
 of:=oC (oL .eAct) (oC (oL .str) (o1 oI))
 ds:=fun x=>[dL .eAct x.1,dL .str x.2.1,dI x.2.2]
 pre:=fun _=>[]
 res:=fun(l,vars,pos)=>⟨[dO (actsIn l vars pos)],true,[]⟩
 law:=lC (lL .eAct) (lC (lL .str) (l1 lI))
def Zi200_2(l:(List DAct))(vars:(List ByteArray))(pos:Int):Int×Unit→Prop:=fun(i,_)=>0≤i∧i≤l.length∧(l.drop i.toNat).all (actIn vars pos)=l.all (actIn vars pos)
def Zm200_2(l:(List DAct))(vars:(List ByteArray))(pos:Int):Int×Unit→Nat:=fun(i,_)=>l.length-i.toNat
def Zi200_7(l:(List DAct))(vars:(List ByteArray))(pos:Int):Int×Int×Unit→Int×Int×Unit→Prop:=fun(i0,k0,_) (i,k,_)=>i=i0∧0≤k∧k≤(List.getD l i.toNat zAct).Args.length∧((List.getD l i.toNat zAct).Args.drop k.toNat).all (exprIn vars)=(List.getD l i.toNat zAct).Args.all (exprIn vars)
def Zm200_7(l:(List DAct))(vars:(List ByteArray))(pos:Int):Int×Int×Unit→Nat:=fun(i,k,_)=>(List.getD l i.toNat zAct).Args.length-k.toNat
def Za200:Zk200.α→Nat→Option (Ann UU):=fun(l,vars,pos)=>annL [(2,annOf [.slot 7 (7,1024) (.lit (.int .i64))] (fun _=>Zi200_2 l vars pos) (Zm200_2 l vars pos)),(7,annOf [.slot 7 (7,1024) (.lit (.int .i64)),.slot 8 (8,1024) (.lit (.int .i64))] (Zi200_7 l vars pos) (Zm200_7 l vars pos))]
def Zu200:=us [Zh251,Zh250,Zh69]
theorem Zo200:Holds EE (200,Zk200):=by
 refine holds_of EE_ok func200 Zk200 (by kernel_rfl) Zu200 (us_ok _) Za200 (fun x hp hb=> ?_)
 obtain⟨l,vars,pos⟩:=x
 have hl_l:l.length≤9223372036854775807:=bdL (hb _ m0)
 have hl_vars:vars.length≤9223372036854775807:=bdL (hb _ m1)
 have hl_pos:=bdI (n:=pos) (hb _ m2)
 clear hp hb
 apply @ve _ (let x0:Int:=(l.length:Int);Zi200_2 l vars pos ((0:Int),())∧∀(y:Int×PUnit),let x1:DAct:=List.getD l y.1.toNat zAct;Zi200_2 l vars pos y→bif decide (y.1<x0) then(0:Int)≤y.1∧y.1.toNat<l.length∧bif !actOk x1 then Lb false (actsIn l vars pos) else(0:Int)≤y.1∧y.1.toNat<l.length∧bif x1.Kind==(2:Int) then(0:Int)≤y.1∧y.1.toNat<l.length∧bif decide (x1.N≥pos) then Lb false (actsIn l vars pos) else Zi200_7 l vars pos (y.1,(0:Int),()) (y.1,(0:Int),())∧∀(y_1:Int×Int×PUnit),let x3:Nat:=y_1.2.1.toNat;let x4:Int:=(↑(List.length (List.getD l y_1.1.toNat zAct).Args):Int);let x2:DExpr:=List.getD (List.getD l y_1.1.toNat zAct).Args x3 zExpr;Zi200_7 l vars pos (y.1,(0:Int),()) y_1→(0:Int)≤y_1.1∧y_1.1.toNat<l.length∧bif decide (y_1.2.1<x4) then(0:Int)≤y_1.1∧y_1.1.toNat<l.length∧(0:Int)≤y_1.2.1∧x3<List.length (List.getD l y_1.1.toNat zAct).Args∧bif !knownIn vars x2.L then Lb false (actsIn l vars pos) else(0:Int)≤y_1.1∧y_1.1.toNat<l.length∧(0:Int)≤y_1.2.1∧x3<List.length (List.getD l y_1.1.toNat zAct).Args∧bif !knownIn vars x2.R then Lb false (actsIn l vars pos) else Zi200_7 l vars pos (y.1,(0:Int),()) (y_1.1,IntKind.wrap IntKind.i64 (y_1.2.1+(1:Int)),())∧Zm200_7 l vars pos (y_1.1,IntKind.wrap IntKind.i64 (y_1.2.1+(1:Int)),())<Zm200_7 l vars pos y_1 else Zi200_2 l vars pos (IntKind.wrap IntKind.i64 (y_1.1+(1:Int)),())∧Zm200_2 l vars pos (IntKind.wrap IntKind.i64 (y_1.1+(1:Int)),())<Zm200_2 l vars pos y else Zi200_7 l vars pos (y.1,(0:Int),()) (y.1,(0:Int),())∧∀(y_1:Int×Int×PUnit),let x3:Nat:=y_1.2.1.toNat;let x4:Int:=(↑(List.length (List.getD l y_1.1.toNat zAct).Args):Int);let x2:DExpr:=List.getD (List.getD l y_1.1.toNat zAct).Args x3 zExpr;Zi200_7 l vars pos (y.1,(0:Int),()) y_1→(0:Int)≤y_1.1∧y_1.1.toNat<l.length∧bif decide (y_1.2.1<x4) then(0:Int)≤y_1.1∧y_1.1.toNat<l.length∧(0:Int)≤y_1.2.1∧x3<List.length (List.getD l y_1.1.toNat zAct).Args∧bif !knownIn vars x2.L then Lb false (actsIn l vars pos) else(0:Int)≤y_1.1∧y_1.1.toNat<l.length∧(0:Int)≤y_1.2.1∧x3<List.length (List.getD l y_1.1.toNat zAct).Args∧bif !knownIn vars x2.R then Lb false (actsIn l vars pos) else Zi200_7 l vars pos (y.1,(0:Int),()) (y_1.1,IntKind.wrap IntKind.i64 (y_1.2.1+(1:Int)),())∧Zm200_7 l vars pos (y_1.1,IntKind.wrap IntKind.i64 (y_1.2.1+(1:Int)),())<Zm200_7 l vars pos y_1 else Zi200_2 l vars pos (IntKind.wrap IntKind.i64 (y_1.1+(1:Int)),())∧Zm200_2 l vars pos (IntKind.wrap IntKind.i64 (y_1.1+(1:Int)),())<Zm200_2 l vars pos y else Lb (decide ((1:Int)≤x0∧x0≤(6:Int))) (actsIn l vars pos)) (by kernel_rfl)
 dsimp only
 refine⟨⟨by omega,by omega,rfl⟩,?_⟩
 rintro⟨i,⟨⟩⟩ ⟨h1,h2,hR⟩
 simp only
 refine if_dec (fun hc=> ?_) (fun hc=> ?_)
 ·rw[all_step _ _ zAct h1 (by omega)] at hR
  have hN:actIn vars pos (List.getD l i.toNat zAct)=false→actsIn l vars pos=false:=fun h=>by simp only[actsIn,←hR,h];simp
  refine⟨by omega,by omega,if_not (fun ha=>Lf_ff (hN (by simp only[actIn,ha,zbi]))) (fun ha=>⟨by omega,by omega,if_num (fun hk2=>⟨by omega,by omega,if_dec (fun hp=>Lf_ff (hN ?_)) (fun hp=> ?_)⟩) (fun hk2=> ?_)⟩)⟩
  ·have:dropIn pos (List.getD l i.toNat zAct)=false:=by simp only[dropIn,hk2,decide_eq_true (show pos≤(List.getD l i.toNat zAct).N from hp)];simp
   simp only[actIn,this,zbs,zbi]
  ·have hd:dropIn pos (List.getD l i.toNat zAct)=true:=by simp only[dropIn,decide_eq_false (show¬pos≤(List.getD l i.toNat zAct).N from hp)];simp
   have h5:=actOk_args ha
   refine⟨⟨rfl,by omega,by omega,rfl⟩,?_⟩
   rintro⟨i',k,⟨⟩⟩ ⟨rfl,g1,g2,gR⟩
   simp only
   refine⟨by omega,by omega,if_dec (fun hk=> ?_) (fun hk=> ?_)⟩
   ·rw[all_step _ _ zExpr g1 (by omega)] at gR
    rw[wrap_i64 (n:=k+1) (by omega) (by omega)]
    have hM:exprIn vars (List.getD (List.getD l i'.toNat zAct).Args k.toNat zExpr)=false→actsIn l vars pos=false:=fun h=>hN (by simp only[actIn,←gR,h];simp)
    refine⟨by omega,by omega,g1,by omega,if_not (fun e=>Lf_ff (hM ?_)) (fun e=>⟨by omega,by omega,g1,by omega,if_not (fun f=>Lf_ff (hM ?_)) (fun f=>⟨⟨rfl,by omega,by omega,?_⟩,by simp only[Zm200_7];omega⟩)⟩)⟩
    ·simp only[exprIn,e,zbi]
    ·simp only[exprIn,f,zbs]
    ·rw[←gR];simp only[exprIn,e,f,zck]
   ·rw[drop_end _ (by omega)] at gR
    rw[wrap_i64 (n:=i'+1) (by omega) (by omega)]
    refine⟨⟨by omega,by omega,?_⟩,by simp only[Zm200_2];omega⟩
    rw[←hR];simp only[actIn,←gR,hd,ha,zes,zck]
  ·have hd:dropIn pos (List.getD l i.toNat zAct)=true:=by simp only[dropIn,decide_eq_false hk2];simp
   have h5:=actOk_args ha
   refine⟨⟨rfl,by omega,by omega,rfl⟩,?_⟩
   rintro⟨i',k,⟨⟩⟩ ⟨rfl,g1,g2,gR⟩
   simp only
   refine⟨by omega,by omega,if_dec (fun hk=> ?_) (fun hk=> ?_)⟩
   ·rw[all_step _ _ zExpr g1 (by omega)] at gR
    rw[wrap_i64 (n:=k+1) (by omega) (by omega)]
    have hM:exprIn vars (List.getD (List.getD l i'.toNat zAct).Args k.toNat zExpr)=false→actsIn l vars pos=false:=fun h=>hN (by simp only[actIn,←gR,h];simp)
    refine⟨by omega,by omega,g1,by omega,if_not (fun e=>Lf_ff (hM ?_)) (fun e=>⟨by omega,by omega,g1,by omega,if_not (fun f=>Lf_ff (hM ?_)) (fun f=>⟨⟨rfl,by omega,by omega,?_⟩,by simp only[Zm200_7];omega⟩)⟩)⟩
    ·simp only[exprIn,e,zbi]
    ·simp only[exprIn,f,zbs]
    ·rw[←gR];simp only[exprIn,e,f,zck]
   ·rw[drop_end _ (by omega)] at gR
    rw[wrap_i64 (n:=i'+1) (by omega) (by omega)]
    refine⟨⟨by omega,by omega,?_⟩,by simp only[Zm200_2];omega⟩
    rw[←hR];simp only[actIn,←gR,hd,ha,zes,zck]
 ·rw[drop_end _ (by omega)] at hR
  refine Lf_b ?_
  simp only[actsIn,←hR,zes,zdb];exact decide_eq_decide.2 (by omega)
def Zh200:HH:=⟨_,Zo200⟩
def Zk198:Con UU where
 α:=(List DPat)
 md:=[.ro]
 of:=o1 (oL .ePat)
 ds:=fun x=>[dL .ePat x]
 pre:=fun _=>[]
 res:=fun l=>⟨[dO (patsOk l)],true,[]⟩
 law:=l1 (lL .ePat)
def Zi198_2(l:(List DPat)):Int×Unit→Prop:=fun(i,_)=>0≤i∧i≤l.length∧∀j:Nat,(j:Int)<i→patAt l j=true
def Zm198_2(l:(List DPat)):Int×Unit→Nat:=fun(i,_)=>l.length-i.toNat
def Za198:Zk198.α→Nat→Option (Ann UU):=fun l=>annL [(2,annOf [.slot 3 (3,1024) (.lit (.int .i64))] (fun _=>Zi198_2 l) (Zm198_2 l))]
def Zu198:=us [Zh248,Zh69]
theorem Zo198:Holds EE (198,Zk198):=by
 refine holds_of EE_ok func198 Zk198 (by kernel_rfl) Zu198 (us_ok _) Za198 (fun(l:(List DPat)) hp hb=> ?_)
 have hl_l:l.length≤9223372036854775807:=bdL (hb _ m0)
 clear hp hb
 apply @ve _ (let x0:Int:=(l.length:Int);Zi198_2 l ((0:Int),())∧∀(y:Int×PUnit),let x1:Nat:=Int.toNat (IntKind.wrap IntKind.i64 (y.1-(1:Int)));Zi198_2 l y→bif decide (y.1<x0) then bif decide (y.1>(2:Int)) then(0:Int)≤y.1∧y.1.toNat<l.length∧bif !(List.getD l y.1.toNat zPat).Not then Lb false (patsOk l) else(0:Int)≤y.1∧y.1.toNat<l.length∧bif !patOk (List.getD l y.1.toNat zPat) then Lb false (patsOk l) else bif y.1==(0:Int) then(0:Int)≤y.1∧y.1.toNat<l.length∧bif (List.getD l y.1.toNat zPat).Not then Lb false (patsOk l) else bif decide (y.1>(0:Int)) then(0:Int)≤IntKind.wrap IntKind.i64 (y.1-(1:Int))∧x1<l.length∧bif (List.getD l x1 zPat).Not then(0:Int)≤y.1∧y.1.toNat<l.length∧bif !(List.getD l y.1.toNat zPat).Not then Lb false (patsOk l) else Zi198_2 l (IntKind.wrap IntKind.i64 (y.1+(1:Int)),())∧Zm198_2 l (IntKind.wrap IntKind.i64 (y.1+(1:Int)),())<Zm198_2 l y else Zi198_2 l (IntKind.wrap IntKind.i64 (y.1+(1:Int)),())∧Zm198_2 l (IntKind.wrap IntKind.i64 (y.1+(1:Int)),())<Zm198_2 l y else Zi198_2 l (IntKind.wrap IntKind.i64 (y.1+(1:Int)),())∧Zm198_2 l (IntKind.wrap IntKind.i64 (y.1+(1:Int)),())<Zm198_2 l y else bif decide (y.1>(0:Int)) then(0:Int)≤IntKind.wrap IntKind.i64 (y.1-(1:Int))∧x1<l.length∧bif (List.getD l x1 zPat).Not then(0:Int)≤y.1∧y.1.toNat<l.length∧bif !(List.getD l y.1.toNat zPat).Not then Lb false (patsOk l) else Zi198_2 l (IntKind.wrap IntKind.i64 (y.1+(1:Int)),())∧Zm198_2 l (IntKind.wrap IntKind.i64 (y.1+(1:Int)),())<Zm198_2 l y else Zi198_2 l (IntKind.wrap IntKind.i64 (y.1+(1:Int)),())∧Zm198_2 l (IntKind.wrap IntKind.i64 (y.1+(1:Int)),())<Zm198_2 l y else Zi198_2 l (IntKind.wrap IntKind.i64 (y.1+(1:Int)),())∧Zm198_2 l (IntKind.wrap IntKind.i64 (y.1+(1:Int)),())<Zm198_2 l y else(0:Int)≤y.1∧y.1.toNat<l.length∧bif !patOk (List.getD l y.1.toNat zPat) then Lb false (patsOk l) else bif y.1==(0:Int) then(0:Int)≤y.1∧y.1.toNat<l.length∧bif (List.getD l y.1.toNat zPat).Not then Lb false (patsOk l) else bif decide (y.1>(0:Int)) then(0:Int)≤IntKind.wrap IntKind.i64 (y.1-(1:Int))∧x1<l.length∧bif (List.getD l x1 zPat).Not then(0:Int)≤y.1∧y.1.toNat<l.length∧bif !(List.getD l y.1.toNat zPat).Not then Lb false (patsOk l) else Zi198_2 l (IntKind.wrap IntKind.i64 (y.1+(1:Int)),())∧Zm198_2 l (IntKind.wrap IntKind.i64 (y.1+(1:Int)),())<Zm198_2 l y else Zi198_2 l (IntKind.wrap IntKind.i64 (y.1+(1:Int)),())∧Zm198_2 l (IntKind.wrap IntKind.i64 (y.1+(1:Int)),())<Zm198_2 l y else Zi198_2 l (IntKind.wrap IntKind.i64 (y.1+(1:Int)),())∧Zm198_2 l (IntKind.wrap IntKind.i64 (y.1+(1:Int)),())<Zm198_2 l y else bif decide (y.1>(0:Int)) then(0:Int)≤IntKind.wrap IntKind.i64 (y.1-(1:Int))∧x1<l.length∧bif (List.getD l x1 zPat).Not then(0:Int)≤y.1∧y.1.toNat<l.length∧bif !(List.getD l y.1.toNat zPat).Not then Lb false (patsOk l) else Zi198_2 l (IntKind.wrap IntKind.i64 (y.1+(1:Int)),())∧Zm198_2 l (IntKind.wrap IntKind.i64 (y.1+(1:Int)),())<Zm198_2 l y else Zi198_2 l (IntKind.wrap IntKind.i64 (y.1+(1:Int)),())∧Zm198_2 l (IntKind.wrap IntKind.i64 (y.1+(1:Int)),())<Zm198_2 l y else Zi198_2 l (IntKind.wrap IntKind.i64 (y.1+(1:Int)),())∧Zm198_2 l (IntKind.wrap IntKind.i64 (y.1+(1:Int)),())<Zm198_2 l y else Lb (decide ((1:Int)≤x0∧x0≤(6:Int))) (patsOk l)) (by kernel_rfl)
 dsimp only
 refine⟨⟨by omega,by omega,by intro j hj;omega⟩,?_⟩
 rintro⟨i,⟨⟩⟩ ⟨h1,h2,hR⟩
 simp only
 refine if_dec (fun hc=> ?_) (fun hc=> ?_)
 ·have hN:patAt l i.toNat=false→patsOk l=false:=fun h=>by
   have hf:allI l.length (patAt l)=false:=allI_false (j:=i.toNat) (by omega) h
   simp only[patsOk,hf];simp
  have hm:Zm198_2 l (i+1,PUnit.unit)<Zm198_2 l (i,()):=by simp only[Zm198_2];omega
  have e1:(i-1).toNat=i.toNat-1:=by omega
  simp(disch:=omega) only[wrap_i64]
  simp only[e1]
  have c1:decide (2<i.toNat)=decide (i>2):=decide_eq_decide.2 (by omega)
  have c2:decide (i.toNat=0)=decide (i=0):=decide_eq_decide.2 (by omega)
  have c3:decide (0<i.toNat)=decide (i>0):=decide_eq_decide.2 (by omega)
  have hA:patAt l i.toNat=(patOk (List.getD l i.toNat zPat)&& !(decide (i>2)&& !(List.getD l i.toNat zPat).Not)&& !(decide (i=0)&&(List.getD l i.toNat zPat).Not)&& !(decide (i>0)&&(List.getD l (i.toNat-1) zPat).Not&& !(List.getD l i.toNat zPat).Not)):=by
   simp only[patAt,notAt,c1,c2,c3]
  have hgo:patAt l i.toNat=true→Zi198_2 l (i+1,PUnit.unit)∧Zm198_2 l (i+1,PUnit.unit)<Zm198_2 l (i,()):=fun h=>⟨⟨by omega,by omega,upto_step h1 hR h⟩,hm⟩
  rw[hA] at hN hgo
  generalize (List.getD l (i.toNat-1) zPat).Not=q at*
  generalize (List.getD l i.toNat zPat).Not=r at*
  generalize patOk (List.getD l i.toNat zPat)=s at*
  clear hA c1 c2 c3 hR
  have hlt:i.toNat<l.length:=by omega
  have hlt':i.toNat-1<l.length:=by omega
  have hi1:i>0→0≤i-1:=fun h=>by omega
  repeat' (first|refine Lf_ff (hN ?_)|refine hgo ?_|refine if_dec (fun h=> ?_) (fun h=> ?_)|refine if_num (fun h=> ?_) (fun h=> ?_)|refine if_cond (fun h=> ?_) (fun h=> ?_)|refine And.intro h1 ?_|refine And.intro hlt ?_|refine And.intro hlt' ?_|refine And.intro (hi1 (by assumption)) ?_)
  all_goals (cases q<;>cases r<;>cases s<;>simp at* <;>omega)
 ·have hA:allI l.length (patAt l)=true:=allI_true fun j hj=>hR j (by omega)
  refine Lf_b ?_
  simp only[patsOk,hA,zdb];exact decide_eq_decide.2 (by omega)
def Zh198:HH:=⟨_,Zo198⟩
def Zk133:Con UU where
 α:=DRule
 md:=[.ro]
 of:=o1 (oA .eRule)
 ds:=fun x=>[dA .eRule x]
 pre:=fun r=>[patArgs r.Pats≤4294967295]
 res:=fun r=>⟨[dO (ruleOk r)],true,[]⟩
 law:=l1 (lA .eRule)
def Za133:Zk133.α→Nat→Option (Ann UU):=fun r=>annL []
def Zu133:=us [Zh197,Zh135,Zh69,Zh198,Zh199,Zh200,Zh142]
theorem Zo133:Holds EE (133,Zk133):=by
 refine holds_of EE_ok func133 Zk133 (by kernel_rfl) Zu133 (us_ok _) Za133 (fun(r:DRule) hp hb=> ?_)
 have hz0:=bd_eRule (x:=r) (hb _ m0)
 have hl_r_Name:=hz0.1
 have hl_r_Pats:=hz0.2.1
 have hl_r_Conds:=hz0.2.2.1
 have hl_r_Acts:=hz0.2.2.2
 have hp0:patArgs r.Pats≤4294967295:=hp _ m0
 clear hp hb
 apply @ve _ (patArgs r.Pats≤(4294967296:Nat)∧bif nameOk r.Name then bif decide ((-100:Int)≤r.Sal∧r.Sal≤(100:Int)) then bif patsOk r.Pats then bif kondsIn r.Conds (posVarsS r.Pats) then Lb (actsIn r.Acts (posVarsS r.Pats) (↑(posN r.Pats):Int)) (ruleOk r) else Lb false (ruleOk r) else Lb false (ruleOk r) else Lb false (ruleOk r) else Lb false (ruleOk r)) (by kernel_rfl)
 refine⟨by omega,?_⟩
 simp only[ruleOk]
 repeat' (refine if_cond (fun h=> ?_) (fun h=> ?_))
 all_goals (refine Lf_b ?_;grind)
def Zh133:HH:=⟨_,Zo133⟩
def Zk218:Con UU where
 α:=DRule
 md:=[.ro]
 of:=o1 (oA .eRule)
 ds:=fun x=>[dA .eRule x]
 pre:=fun _=>[]
 res:=fun r=>⟨[dO (patsOkI r.Pats)],true,[]⟩
 law:=l1 (lA .eRule)
def Zi218_4(r:DRule):Int×(ByteArray×Int×List DPat×List DCond×List DAct×Unit)×Unit→Prop:=fun(i,b,_)=>b=(r.Name,r.Sal,r.Pats,r.Conds,r.Acts,())∧0≤i∧i≤r.Pats.length∧(1≤r.Pats.length∧r.Pats.length≤6)∧(1≤posN r.Pats∧posN r.Pats≤3)∧∀j:Nat,(j:Int)<i→patAtI r.Pats j=true
def Zm218_4(r:DRule):Int×(ByteArray×Int×List DPat×List DCond×List DAct×Unit)×Unit→Nat:=fun(i,b,_)=>r.Pats.length-i.toNat
def Za218:Zk218.α→Nat→Option (Ann UU):=fun r=>annL [(4,annOf [.slot 19 (19,1024) (.lit (.int .i64)),.box 1 (1,1024) [.lit .str,.lit (.int .i64),.shr .ePat,.shr .eCond,.shr .eAct]] (fun _=>Zi218_4 r) (Zm218_4 r))]
def Zu218:=us [Zh94,Zh171,Zh260]
theorem Zo218:Holds EE (218,Zk218):=by
 refine holds_of EE_ok func218 Zk218 (by kernel_rfl) Zu218 (us_ok _) Za218 (fun(r:DRule) hp hb=> ?_)
 have hz0:=bd_eRule (x:=r) (hb _ m0)
 have hl_r_Name:=hz0.1
 have hl_r_Pats:=hz0.2.1
 have hl_r_Conds:=hz0.2.2.1
 have hl_r_Acts:=hz0.2.2.2
 clear hp hb
 apply @ve _ (let x0:Int:=(r.Pats.length:Int);bif !decide ((1:Int)≤x0∧x0≤(6:Int)) then Lb false (patsOkI r.Pats) else bif !decide ((1:Int)≤(↑(posN r.Pats):Int)∧(↑(posN r.Pats):Int)≤(3:Int)) then Lb false (patsOkI r.Pats) else Zi218_4 r ((0:Int),(r.Name,r.Sal,r.Pats,r.Conds,r.Acts,()),())∧∀(y:Int×(ByteArray×Int×List DPat×List DCond×List DAct×PUnit)×PUnit),let x1:Int:=(↑(posN y.2.1.2.2.1):Int);Zi218_4 r y→bif decide (y.1<x0) then(0:Int)≤y.1∧y.1.toNat<r.Pats.length∧bif !patOk (List.getD r.Pats y.1.toNat zPat) then Lb false (patsOkI r.Pats) else bif !(List.getD r.Pats y.1.toNat zPat).Not==decide (y.1≥x1) then Lb false (patsOkI r.Pats) else Zi218_4 r (IntKind.wrap IntKind.i64 (y.1+(1:Int)),(y.2.1.1,y.2.1.2.1,y.2.1.2.2.1,y.2.1.2.2.2.1,y.2.1.2.2.2.2.1,()),())∧Zm218_4 r (IntKind.wrap IntKind.i64 (y.1+(1:Int)),(y.2.1.1,y.2.1.2.1,y.2.1.2.2.1,y.2.1.2.2.2.1,y.2.1.2.2.2.2.1,()),())<Zm218_4 r y else Lb true (patsOkI r.Pats)) (by kernel_rfl)
 dsimp only
 refine if_not (fun h=>Lf_ff ?_) (fun h=>if_not (fun h'=>Lf_ff ?_) (fun h'=> ?_))
 ·have h:=of_decide_eq_false h
  simp only[patsOkI];rw[decide_eq_false (by omega)];rfl
 ·have h':=of_decide_eq_false h'
  simp only[patsOkI];rw[decide_eq_false (p:=1≤posN r.Pats∧posN r.Pats≤3) (by omega)];simp
 have h:=of_decide_eq_true h
 have h':=of_decide_eq_true h'
 refine⟨⟨rfl,by omega,by omega,by omega,by omega,by intro j hj;omega⟩,?_⟩
 rintro⟨i,⟨b1,b2,b3,b4,b5,⟨⟩⟩,⟨⟩⟩ ⟨hbx,h1,h2,h3,h4,hR⟩
 cases hbx
 simp only
 refine if_dec (fun hc=> ?_) (fun hc=> ?_)
 ·have hN:patAtI r.Pats i.toNat=false→patsOkI r.Pats=false:=fun h=>by
   have hf:allI r.Pats.length (patAtI r.Pats)=false:=allI_false (j:=i.toNat) (by omega) h
   simp only[patsOkI,hf];simp
  rw[wrap_i64 (by omega) (by omega)]
  have c1:decide (posN r.Pats≤i.toNat)=decide (i≥(posN r.Pats:Int)):=decide_eq_decide.2 (by omega)
  refine⟨by omega,by omega,if_not (fun g=>Lf_ff (hN (by simp only[patAtI,g,zbi]))) (fun g=>if_not (fun k=>Lf_ff (hN ?_)) (fun k=>⟨⟨rfl,by omega,by omega,h3,h4,upto_step h1 hR ?_⟩,by simp only[Zm218_4];omega⟩))⟩
  ·simp only[patAtI,notAt,c1,k];simp
  ·simp only[patAtI,notAt,c1,k,g];rfl
 ·have hA:allI r.Pats.length (patAtI r.Pats)=true:=allI_true fun j hj=>hR j (by omega)
  refine Lf_tt ?_
  simp only[patsOkI,hA,decide_eq_true h3,decide_eq_true h4];rfl
def Zh218:HH:=⟨_,Zo218⟩
def Zk222:Con UU where
 α:=DRule
 md:=[.ro]
 of:=o1 (oA .eRule)
 ds:=fun x=>[dA .eRule x]
 pre:=fun r=>[2*r.Conds.length+usedN r.Acts≤4294967295]
 res:=fun r=>⟨[dL .str (usedV r)],true,[]⟩
 law:=l1 (lA .eRule)
def Zi222_3(r:DRule):List ByteArray×Int×(ByteArray×Int×List DPat×List DCond×List DAct×Unit)×Unit→Prop:=fun(v,i,b,_)=>b=(r.Name,r.Sal,r.Pats,r.Conds,r.Acts,())∧0≤i∧i≤r.Conds.length∧v=(r.Conds.take i.toNat).foldl usedC []
def Zm222_3(r:DRule):List ByteArray×Int×(ByteArray×Int×List DPat×List DCond×List DAct×Unit)×Unit→Nat:=fun(v,i,b,_)=>r.Conds.length-i.toNat
def Zi222_8(r:DRule):List ByteArray×Int×Unit→Prop:=fun(v,i,_)=>0≤i∧i≤r.Acts.length∧v=(r.Acts.take i.toNat).foldl usedA (r.Conds.foldl usedC [])
def Zm222_8(r:DRule):List ByteArray×Int×Unit→Nat:=fun(v,i,_)=>r.Acts.length-i.toNat
def Zi222_11(r:DRule):List ByteArray×Int×Int×Unit→List ByteArray×Int×Int×Unit→Prop:=fun(v0,i0,k0,_) (v,i,k,_)=>i=i0∧0≤k∧k≤(List.getD r.Acts i.toNat zAct).Args.length∧v=((List.getD r.Acts i.toNat zAct).Args.take k.toNat).foldl usedE v0
def Zm222_11(r:DRule):List ByteArray×Int×Int×Unit→Nat:=fun(v,i,k,_)=>(List.getD r.Acts i.toNat zAct).Args.length-k.toNat
def Za222:Zk222.α→Nat→Option (Ann UU):=fun r=>annL [(3,annOf [.slot 3 (3,1024) (.own .str true),.slot 13 (13,1024) (.lit (.int .i64)),.box 1 (1,1024) [.lit .str,.lit (.int .i64),.shr .ePat,.shr .eCond,.shr .eAct]] (fun _=>Zi222_3 r) (Zm222_3 r)),(8,annOf [.slot 3 (3,1024) (.own .str true),.slot 28 (28,1024) (.lit (.int .i64))] (fun _=>Zi222_8 r) (Zm222_8 r)),(11,annOf [.slot 3 (3,1024) (.own .str true),.slot 28 (28,1024) (.lit (.int .i64)),.slot 35 (35,1024) (.lit (.int .i64))] (Zi222_11 r) (Zm222_11 r))]
def Zu222:=us [Zh263]
theorem Zo222:Holds EE (222,Zk222):=by
 refine holds_of EE_ok func222 Zk222 (by kernel_rfl) Zu222 (us_ok _) Za222 (fun(r:DRule) hp hb=> ?_)
 have hz0:=bd_eRule (x:=r) (hb _ m0)
 have hl_r_Name:=hz0.1
 have hl_r_Pats:=hz0.2.1
 have hl_r_Conds:=hz0.2.2.1
 have hl_r_Acts:=hz0.2.2.2
 have hp0:2*r.Conds.length+usedN r.Acts≤4294967295:=hp _ m0
 clear hp hb
 apply @ve _ (Zi222_3 r ([],(0:Int),(r.Name,r.Sal,r.Pats,r.Conds,r.Acts,()),())∧∀(y:List ByteArray×Int×(ByteArray×Int×List DPat×List DCond×List DAct×PUnit)×PUnit),let x2:Nat:=y.2.2.1.2.2.2.2.1.length;let x4:Nat:=y.2.1.toNat;let x1:Int:=(↑x2:Int);let x3:DCond:=List.getD r.Conds x4 zCond;let x0:List DArg:=[x3.L,x3.R];Zi222_3 r y→bif decide (y.2.1<(r.Conds.length:Int)) then(0:Int)≤y.2.1∧x4<r.Conds.length∧y.1.length+x0.length≤(4294967295:Nat)∧Zi222_3 r (addVars y.1 x0,IntKind.wrap IntKind.i64 (y.2.1+(1:Int)),(y.2.2.1.1,y.2.2.1.2.1,y.2.2.1.2.2.1,y.2.2.1.2.2.2.1,y.2.2.1.2.2.2.2.1,()),())∧Zm222_3 r (addVars y.1 x0,IntKind.wrap IntKind.i64 (y.2.1+(1:Int)),(y.2.2.1.1,y.2.2.1.2.1,y.2.2.1.2.2.1,y.2.2.1.2.2.2.1,y.2.2.1.2.2.2.2.1,()),())<Zm222_3 r y else Zi222_8 r (y.1,(0:Int),())∧∀(y_1:List ByteArray×Int×PUnit),let x8:Nat:=y_1.2.1.toNat;let x7:List DExpr:=(List.getD y.2.2.1.2.2.2.2.1 x8 zAct).Args;let x6:Nat:=x7.length;let x5:Int:=(↑x6:Int);Zi222_8 r y_1→bif decide (y_1.2.1<x1) then(0:Int)≤y_1.2.1∧x8<x2∧Zi222_11 r (y_1.1,y_1.2.1,(0:Int),()) (y_1.1,y_1.2.1,(0:Int),())∧∀(y:List ByteArray×Int×Int×PUnit),let x11:Nat:=y.2.2.1.toNat;let x10:DExpr:=List.getD x7 x11 zExpr;let x9:List DArg:=[x10.L,x10.R];Zi222_11 r (y_1.1,y_1.2.1,(0:Int),()) y→bif decide (y.2.2.1<x5) then(0:Int)≤y.2.2.1∧x11<x6∧y.1.length+x9.length≤(4294967295:Nat)∧Zi222_11 r (y_1.1,y_1.2.1,(0:Int),()) (addVars y.1 x9,y.2.1,IntKind.wrap IntKind.i64 (y.2.2.1+(1:Int)),())∧Zm222_11 r (addVars y.1 x9,y.2.1,IntKind.wrap IntKind.i64 (y.2.2.1+(1:Int)),())<Zm222_11 r y else Zi222_8 r (y.1,IntKind.wrap IntKind.i64 (y.2.1+(1:Int)),())∧Zm222_8 r (y.1,IntKind.wrap IntKind.i64 (y.2.1+(1:Int)),())<Zm222_8 r y_1 else Lf [VL .str y_1.1] [VL .str (usedV r)]) (by kernel_rfl)
 dsimp only
 refine⟨⟨rfl,by omega,by omega,rfl⟩,?_⟩
 rintro⟨v,i,⟨b1,b2,b3,b4,b5,⟨⟩⟩,⟨⟩⟩ ⟨hbx,h1,h2,rfl⟩
 cases hbx
 simp only
 refine if_dec (fun hc=> ?_) (fun hc=> ?_)
 ·have hs:=foldl_step usedC [] r.Conds zCond h1 hc
  have hl:=usedCs_len (r.Conds.take i.toNat) []
  have hl2:(r.Conds.take i.toNat).length≤i.toNat:=by rw[zaw];omega
  simp only[zbo] at hl
  rw[wrap_i64 (by omega) (by omega)]
  refine⟨by omega,by omega,by simp only[zbq,zbo];omega,⟨rfl,by omega,by omega,hs.symm⟩,by simp only[Zm222_3];omega⟩
 rw[take_all r.Conds (by omega)]
 have hl0:=usedCs_len r.Conds []
 simp only[zbo] at hl0
 refine⟨⟨by omega,by omega,rfl⟩,?_⟩
 rintro⟨v,i,⟨⟩⟩ ⟨g1,g2,rfl⟩
 simp only
 refine if_dec (fun hc=> ?_) (fun hc=> ?_)
 ·have hs:=foldl_step usedA (r.Conds.foldl usedC []) r.Acts zAct g1 hc
  have ha:=usedN_at r.Acts g1 hc
  have hl:=usedAs_len (r.Acts.take i.toNat) (r.Conds.foldl usedC [])
  refine⟨by omega,by omega,⟨rfl,by omega,by omega,rfl⟩,?_⟩
  rintro⟨v,i',k,⟨⟩⟩ ⟨rfl,k1,k2,rfl⟩
  simp only
  have hle:=usedE_len ((List.getD r.Acts i'.toNat zAct).Args.take k.toNat) ((r.Acts.take i'.toNat).foldl usedA (r.Conds.foldl usedC []))
  have hl2:((List.getD r.Acts i'.toNat zAct).Args.take k.toNat).length≤k.toNat:=by rw[zaw];omega
  refine if_dec (fun hk=> ?_) (fun hk=> ?_)
  ·have hf:=foldl_step usedE ((r.Acts.take i'.toNat).foldl usedA (r.Conds.foldl usedC [])) (List.getD r.Acts i'.toNat zAct).Args zExpr k1 hk
   rw[wrap_i64 (by omega) (by omega)]
   exact⟨by omega,by omega,by simp only[zbq,zbo];omega,⟨rfl,by omega,by omega,hf.symm⟩,by simp only[Zm222_11];omega⟩
  ·rw[wrap_i64 (by omega) (by omega)]
   refine⟨⟨by omega,by omega,?_⟩,by simp only[Zm222_8];omega⟩
   rw[hs,take_all (List.getD r.Acts i'.toNat zAct).Args (by omega)];rfl
 ·rw[take_all r.Acts (by omega)]
  exact Lf_rfl _
def Zh222:HH:=⟨_,Zo222⟩
def Zk161:Con UU where
 α:=DRule
 md:=[.ro]
 of:=o1 (oA .eRule)
 ds:=fun x=>[dA .eRule x]
 pre:=fun _=>[]
 res:=fun r=>⟨[dO (ruleOk r)],true,[]⟩
 law:=l1 (lA .eRule)
def Zi161_6(r:DRule):Int×(ByteArray×Int×List DPat×List DCond×List DAct×Unit)×Unit→Prop:=fun(i,b,_)=>b=(r.Name,r.Sal,r.Pats,r.Conds,r.Acts,())∧0≤i∧i≤r.Conds.length∧(r.Conds.drop i.toNat).all kondOk=r.Conds.all kondOk
def Zm161_6(r:DRule):Int×(ByteArray×Int×List DPat×List DCond×List DAct×Unit)×Unit→Nat:=fun(i,b,_)=>r.Conds.length-i.toNat
def Zi161_12(r:DRule):Int×(ByteArray×Int×List DPat×List DCond×List DAct×Unit)×Unit→Prop:=fun(i,b,_)=>b=(r.Name,r.Sal,r.Pats,r.Conds,r.Acts,())∧0≤i∧i≤r.Acts.length∧(r.Acts.drop i.toNat).all (fun a=>actOk a&&dropIn (posN r.Pats) a)=r.Acts.all (fun a=>actOk a&&dropIn (posN r.Pats) a)
def Zm161_12(r:DRule):Int×(ByteArray×Int×List DPat×List DCond×List DAct×Unit)×Unit→Nat:=fun(i,b,_)=>r.Acts.length-i.toNat
def Zi161_19(r:DRule):Int×List ByteArray×List ByteArray×Unit→Prop:=fun(i,v,u,_)=>v=posVars r.Pats∧u=usedV r∧0≤i∧i≤(usedV r).length∧((usedV r).drop i.toNat).all (hasS (posVars r.Pats))=(usedV r).all (hasS (posVars r.Pats))
def Zm161_19(r:DRule):Int×List ByteArray×List ByteArray×Unit→Nat:=fun(i,v,u,_)=>(usedV r).length-i.toNat
def Za161:Zk161.α→Nat→Option (Ann UU):=fun r=>annL [(6,annOf [.slot 39 (39,1024) (.lit (.int .i64)),.box 1 (1,1024) [.lit .str,.lit (.int .i64),.shr .ePat,.shr .eCond,.shr .eAct]] (fun _=>Zi161_6 r) (Zm161_6 r)),(12,annOf [.slot 50 (50,1024) (.lit (.int .i64)),.box 1 (1,1024) [.lit .str,.lit (.int .i64),.shr .ePat,.shr .eCond,.shr .eAct]] (fun _=>Zi161_12 r) (Zm161_12 r)),(19,annOf [.slot 75 (75,1024) (.lit (.int .i64)),.slot 7 (7,1024) (.own .str true),.slot 73 (73,1024) (.own .str true)] (fun _=>Zi161_19 r) (Zm161_19 r))]
def Zu161:=us [Zh160,Zh94,Zh218,Zh219,Zh220,Zh171,Zh221,Zh222,Zh223]
theorem Zo161:Holds EE (161,Zk161):=by
 refine holds_of EE_ok func161 Zk161 (by kernel_rfl) Zu161 (us_ok _) Za161 (fun(r:DRule) hp hb=> ?_)
 have hz0:=bd_eRule (x:=r) (hb _ m0)
 have hl_r_Name:=hz0.1
 have hl_r_Pats:=hz0.2.1
 have hl_r_Conds:=hz0.2.2.1
 have hl_r_Acts:=hz0.2.2.2
 clear hp hb
 apply @ve _ (let x0:Int:=(r.Conds.length:Int);bif !nameOk r.Name then Lb false (ruleOk r) else bif !decide ((-100:Int)≤r.Sal∧r.Sal≤(100:Int)) then Lb false (ruleOk r) else bif !patsOkI r.Pats then Lb false (ruleOk r) else bif decide (x0>(6:Int)) then Lb false (ruleOk r) else bif !decide ((1:Int)≤(r.Acts.length:Int)∧(r.Acts.length:Int)≤(6:Int)) then Lb false (ruleOk r) else Zi161_6 r ((0:Int),(r.Name,r.Sal,r.Pats,r.Conds,r.Acts,()),())∧∀(y:Int×(ByteArray×Int×List DPat×List DCond×List DAct×PUnit)×PUnit),let x2:Nat:=y.2.1.2.2.2.2.1.length;let x1:Int:=(↑x2:Int);Zi161_6 r y→bif decide (y.1<x0) then(0:Int)≤y.1∧y.1.toNat<r.Conds.length∧bif !kondOk (List.getD r.Conds y.1.toNat zCond) then Lb false (ruleOk r) else Zi161_6 r (IntKind.wrap IntKind.i64 (y.1+(1:Int)),(y.2.1.1,y.2.1.2.1,y.2.1.2.2.1,y.2.1.2.2.2.1,y.2.1.2.2.2.2.1,()),())∧Zm161_6 r (IntKind.wrap IntKind.i64 (y.1+(1:Int)),(y.2.1.1,y.2.1.2.1,y.2.1.2.2.1,y.2.1.2.2.2.1,y.2.1.2.2.2.2.1,()),())<Zm161_6 r y else Zi161_12 r ((0:Int),(y.2.1.1,y.2.1.2.1,y.2.1.2.2.1,y.2.1.2.2.2.1,y.2.1.2.2.2.2.1,()),())∧∀(y_1:Int×(ByteArray×Int×List DPat×List DCond×List DAct×PUnit)×PUnit),let x4:List ByteArray:=usedV {Name:=y_1.2.1.1,Sal:=y_1.2.1.2.1,Pats:=y_1.2.1.2.2.1,Conds:=y_1.2.1.2.2.2.1,Acts:=y_1.2.1.2.2.2.2.1:DRule};let x5:DAct:=List.getD y.2.1.2.2.2.2.1 y_1.1.toNat zAct;let x6:Int:=(↑(posN y_1.2.1.2.2.1):Int);let x3:Int:=(x4.length:Int);Zi161_12 r y_1→bif decide (y_1.1<x1) then(0:Int)≤y_1.1∧y_1.1.toNat<x2∧bif !actOk x5 then Lb false (ruleOk r) else bif x5.Kind==(2:Int) then bif decide (x5.N≥x6) then Lb false (ruleOk r) else Zi161_12 r (IntKind.wrap IntKind.i64 (y_1.1+(1:Int)),(y_1.2.1.1,y_1.2.1.2.1,y_1.2.1.2.2.1,y_1.2.1.2.2.2.1,y_1.2.1.2.2.2.2.1,()),())∧Zm161_12 r (IntKind.wrap IntKind.i64 (y_1.1+(1:Int)),(y_1.2.1.1,y_1.2.1.2.1,y_1.2.1.2.2.1,y_1.2.1.2.2.2.1,y_1.2.1.2.2.2.2.1,()),())<Zm161_12 r y_1 else Zi161_12 r (IntKind.wrap IntKind.i64 (y_1.1+(1:Int)),(y_1.2.1.1,y_1.2.1.2.1,y_1.2.1.2.2.1,y_1.2.1.2.2.2.1,y_1.2.1.2.2.2.2.1,()),())∧Zm161_12 r (IntKind.wrap IntKind.i64 (y_1.1+(1:Int)),(y_1.2.1.1,y_1.2.1.2.1,y_1.2.1.2.2.1,y_1.2.1.2.2.2.1,y_1.2.1.2.2.2.2.1,()),())<Zm161_12 r y_1 else patArgs y_1.2.1.2.2.1≤(4294967295:Nat)∧(2:Nat)*y_1.2.1.2.2.2.1.length+usedN y_1.2.1.2.2.2.2.1≤(4294967295:Nat)∧Zi161_19 r ((0:Int),posVars y_1.2.1.2.2.1,x4,())∧∀(y:Int×List ByteArray×List ByteArray×PUnit),Zi161_19 r y→bif decide (y.1<x3) then(0:Int)≤y.1∧y.1.toNat<y.2.2.1.length∧y.1.toNat<y.2.2.1.length∧bif !hasS y.2.1 (List.getD y.2.2.1 y.1.toNat noBytes) then Lb false (ruleOk r) else Zi161_19 r (IntKind.wrap IntKind.i64 (y.1+(1:Int)),y.2.1,y.2.2.1,())∧Zm161_19 r (IntKind.wrap IntKind.i64 (y.1+(1:Int)),y.2.1,y.2.2.1,())<Zm161_19 r y else Lb true (ruleOk r)) (by kernel_rfl)
 dsimp only
 have hF:ruleOkI r=false→ruleOk r=false:=fun h=>by rw[←ruleOkI_eq];exact h
 refine if_not (fun a1=>Lf_ff (hF (by simp[ruleOkI,a1]))) (fun a1=>if_not (fun a2=>Lf_ff (hF (by simp only[ruleOkI,a2];simp))) (fun a2=>if_not (fun a3=>Lf_ff (hF ?_)) (fun a3=>if_dec (fun a4=>Lf_ff (hF ?_)) (fun a4=>if_not (fun a5=>Lf_ff (hF ?_)) (fun a5=> ?_)))))
 ·rw[patsOkI_eq] at a3;simp[ruleOkI,a3]
 ·simp only[ruleOkI];rw[decide_eq_false (p:=r.Conds.length≤6) (by omega)];simp
 ·have a5:=of_decide_eq_false a5
  simp only[ruleOkI];rw[decide_eq_false (p:=1≤r.Acts.length∧r.Acts.length≤6) (by omega)];simp
 rw[patsOkI_eq] at a3
 have a5:=of_decide_eq_true a5
 refine⟨⟨rfl,by omega,by omega,rfl⟩,?_⟩
 rintro⟨i,⟨b1,b2,b3,b4,b5,⟨⟩⟩,⟨⟩⟩ ⟨hbx,h1,h2,hR⟩
 cases hbx
 simp only
 refine if_dec (fun hc=> ?_) (fun hc=> ?_)
 ·rw[all_step _ _ zCond h1 (by omega)] at hR
  rw[wrap_i64 (by omega) (by omega)]
  refine⟨by omega,by omega,if_not (fun g=>Lf_ff (hF ?_)) (fun g=>⟨⟨rfl,by omega,by omega,?_⟩,by simp only[Zm161_6];omega⟩)⟩
  ·simp only[ruleOkI,←hR,g];simp
  ·rw[←hR,g];rfl
 rw[drop_end _ (by omega)] at hR
 have a6:r.Conds.all kondOk=true:=hR.symm
 refine⟨⟨rfl,by omega,by omega,rfl⟩,?_⟩
 rintro⟨i,⟨b1,b2,b3,b4,b5,⟨⟩⟩,⟨⟩⟩ ⟨hbx,g1,g2,gR⟩
 cases hbx
 simp only
 refine if_dec (fun hc=> ?_) (fun hc=> ?_)
 ·rw[all_step _ _ zAct g1 (by omega)] at gR
  rw[wrap_i64 (by omega) (by omega)]
  have hN:(actOk (List.getD r.Acts i.toNat zAct)&&dropIn (posN r.Pats) (List.getD r.Acts i.toNat zAct))=false→ruleOk r=false:=fun h=>hF (by simp only[ruleOkI,←gR,h];simp)
  have hgo:actOk (List.getD r.Acts i.toNat zAct)=true→dropIn (posN r.Pats) (List.getD r.Acts i.toNat zAct)=true→(r.Acts.drop (i+1).toNat).all (fun a=>actOk a&&dropIn (posN r.Pats) a)=r.Acts.all (fun a=>actOk a&&dropIn (posN r.Pats) a):=fun e1 e2=>by rw[←gR,e1,e2];rfl
  refine⟨by omega,by omega,if_not (fun ha=>Lf_ff (hN (by rw[ha];rfl))) (fun ha=>if_num (fun hk2=>if_dec (fun hp=>Lf_ff (hN ?_)) (fun hp=>⟨⟨rfl,by omega,by omega,hgo ha ?_⟩,by simp only[Zm161_12];omega⟩)) (fun hk2=>⟨⟨rfl,by omega,by omega,hgo ha ?_⟩,by simp only[Zm161_12];omega⟩))⟩
  ·simp only[dropIn,hk2,decide_eq_true (show(posN r.Pats:Int)≤(List.getD r.Acts i.toNat zAct).N from hp)];simp
  ·simp only[dropIn,decide_eq_false (show¬(posN r.Pats:Int)≤(List.getD r.Acts i.toNat zAct).N from hp)];simp
  ·simp only[dropIn,decide_eq_false hk2];simp
 rw[drop_end _ (by omega)] at gR
 have a7:r.Acts.all (fun a=>actOk a&&dropIn (posN r.Pats) a)=true:=gR.symm
 have hpa:=patsOk_args a3
 have hus:=actsOk_used (l:=r.Acts) (by omega) (fun a ha=>by
  have:=zcb.1 a7 a ha
  simp only[zaf] at this
  exact this.1)
 have hul:(usedV r).length≤2*r.Conds.length+usedN r.Acts:=by
  have q1:=usedAs_len r.Acts (r.Conds.foldl usedC [])
  have q2:=usedCs_len r.Conds []
  simp only[zbo] at q2
  simp only[usedV];omega
 refine⟨by omega,by omega,⟨rfl,rfl,by omega,by omega,rfl⟩,?_⟩
 rintro⟨i,v,u,⟨⟩⟩ ⟨rfl,rfl,k1,k2,kR⟩
 simp only
 refine if_dec (fun hk=> ?_) (fun hk=> ?_)
 ·rw[all_step _ _ noBytes k1 hk] at kR
  rw[wrap_i64 (by omega) (by omega)]
  have hk':i<(usedV r).length:=hk
  refine⟨by omega,by omega,by omega,if_not (fun g=>Lf_ff (hF ?_)) (fun g=>⟨⟨rfl,rfl,by omega,by omega,?_⟩,by simp only[Zm161_19];omega⟩)⟩
  ·simp only[ruleOkI,←kR,g];simp
  ·rw[←kR,g];rfl
 ·have hk':¬i<(usedV r).length:=hk
  rw[drop_end _ (by omega)] at kR
  refine Lf_tt ?_
  rw[←ruleOkI_eq]
  simp only[ruleOkI,a1,a2,a3,a6,a7,←kR,decide_eq_true (show r.Conds.length≤6 by omega),decide_eq_true (show 1≤r.Acts.length∧r.Acts.length≤6 by omega)];rfl
def Zh161:HH:=⟨_,Zo161⟩
def Zk61:Con UU where
 α:=(List DTask)
 md:=[.ro]
 of:=o1 (oL .eTask)
 ds:=fun x=>[dL .eTask x]
 pre:=fun l=>[sizeTaskS l≤4294967296]
 res:=fun l=>⟨[dL .eTask l],true,[]⟩
 law:=l1 (lL .eTask)
def Zi61_3(l:(List DTask)):List DTask×Int×Unit→Prop:=fun(out,i,_)=>0≤i∧i≤l.length∧out=l.take i.toNat
def Zm61_3(l:(List DTask)):List DTask×Int×Unit→Nat:=fun(out,i,_)=>l.length-i.toNat
def Za61:Zk61.α→Nat→Option (Ann UU):=fun l=>annL [(3,annOf [.slot 3 (3,1024) (.own .eTask true),.slot 4 (4,1024) (.lit (.int .i64))] (fun _=>Zi61_3 l) (Zm61_3 l))]
def Zu61:=us [Zh132]
theorem Zo61:Holds EE (61,Zk61):=by
 refine holds_of EE_ok func61 Zk61 (by kernel_rfl) Zu61 (us_ok _) Za61 (fun(l:(List DTask)) hp hb=> ?_)
 have hl_l:l.length≤9223372036854775807:=bdL (hb _ m0)
 have hp0:sizeTaskS l≤4294967296:=hp _ m0
 clear hp hb
 apply @ve _ (Zi61_3 l ([],(0:Int),())∧∀(y:List DTask×Int×PUnit),let x2:Nat:=y.2.1.toNat;let x1:DTask:=List.getD l x2 zTask;let x0:List DTask:=[x1];Zi61_3 l y→bif decide (y.2.1<(l.length:Int)) then(0:Int)≤y.2.1∧x2<l.length∧x1.F.Fields.length≤(4294967296:Nat)∧y.1.length+x0.length≤(4294967296:Nat)∧Zi61_3 l (y.1++x0,IntKind.wrap IntKind.i64 (y.2.1+(1:Int)),())∧Zm61_3 l (y.1++x0,IntKind.wrap IntKind.i64 (y.2.1+(1:Int)),())<Zm61_3 l y else Lf [VL .eTask y.1] [VL .eTask l]) (by kernel_rfl)
 dsimp only
 refine⟨⟨by omega,by omega,by simp⟩,?_⟩
 rintro⟨out,i,⟨⟩⟩ ⟨h1,h2,rfl⟩
 simp only
 refine if_cond (fun hc=> ?_) (fun hc=> ?_)
 ·have hc:=of_decide_eq_true hc
  have hs:=sum_getD_le sizeTask l zTask h1 hc
  simp only[sizeTaskS] at hp0
  have hx:=hs
  simp only[sizeTask,sizeFact,sizeValS] at hx
  rw[take_step l zTask h1 hc,wrap_i64 (by omega) (by omega)]
  repeat' (first|refine And.intro (by omega) ?_|fail)
  refine⟨by simp;omega,⟨by omega,by omega,rfl⟩,by simp only[Zm61_3];omega⟩
 ·have hc:=of_decide_eq_false hc
  rw[take_all l (by omega)]
  exact Lf_rfl _
def Zh61:HH:=⟨_,Zo61⟩
def Zk86:Con UU where
 α:=(List DTask)
 md:=[.ro]
 of:=o1 (oL .eTask)
 ds:=fun x=>[dL .eTask x]
 pre:=fun l=>[sizeTaskS l≤4294967296]
 res:=fun l=>⟨[dL .eTask l],true,[]⟩
 law:=l1 (lL .eTask)
def Zi86_3(l:(List DTask)):List DTask×Int×Unit→Prop:=fun(out,i,_)=>0≤i∧i≤l.length∧out=l.take i.toNat
def Zm86_3(l:(List DTask)):List DTask×Int×Unit→Nat:=fun(out,i,_)=>l.length-i.toNat
def Za86:Zk86.α→Nat→Option (Ann UU):=fun l=>annL [(3,annOf [.slot 3 (3,1024) (.own .eTask true),.slot 8 (8,1024) (.lit (.int .i64))] (fun _=>Zi86_3 l) (Zm86_3 l))]
def Zu86:=us [Zh158]
theorem Zo86:Holds EE (86,Zk86):=by
 refine holds_of EE_ok func86 Zk86 (by kernel_rfl) Zu86 (us_ok _) Za86 (fun(l:(List DTask)) hp hb=> ?_)
 have hl_l:l.length≤9223372036854775807:=bdL (hb _ m0)
 have hp0:sizeTaskS l≤4294967296:=hp _ m0
 clear hp hb
 apply @ve _ (Zi86_3 l ([],(0:Int),())∧∀(y:List DTask×Int×PUnit),let x2:Nat:=y.2.1.toNat;let x1:DTask:=List.getD l x2 zTask;let x0:List DTask:=[x1];Zi86_3 l y→bif decide (y.2.1<(l.length:Int)) then(0:Int)≤y.2.1∧x2<l.length∧x1.F.Fields.length≤(4294967296:Nat)∧y.1.length+x0.length≤(4294967296:Nat)∧Zi86_3 l (y.1++x0,IntKind.wrap IntKind.i64 (y.2.1+(1:Int)),())∧Zm86_3 l (y.1++x0,IntKind.wrap IntKind.i64 (y.2.1+(1:Int)),())<Zm86_3 l y else Lf [VL .eTask y.1] [VL .eTask l]) (by kernel_rfl)
 dsimp only
 refine⟨⟨by omega,by omega,by simp⟩,?_⟩
 rintro⟨out,i,⟨⟩⟩ ⟨h1,h2,rfl⟩
 simp only
 refine if_cond (fun hc=> ?_) (fun hc=> ?_)
 ·have hc:=of_decide_eq_true hc
  have hs:=sum_getD_le sizeTask l zTask h1 hc
  simp only[sizeTaskS] at hp0
  have hx:=hs
  simp only[sizeTask,sizeFact,sizeValS] at hx
  rw[take_step l zTask h1 hc,wrap_i64 (by omega) (by omega)]
  repeat' (first|refine And.intro (by omega) ?_|fail)
  refine⟨by simp;omega,⟨by omega,by omega,rfl⟩,by simp only[Zm86_3];omega⟩
 ·have hc:=of_decide_eq_false hc
  rw[take_all l (by omega)]
  exact Lf_rfl _
def Zh86:HH:=⟨_,Zo86⟩
def Zk99:Con UU where
 α:=DTask
 md:=[.ro]
 of:=o1 (oA .eTask)
 ds:=fun x=>[dA .eTask x]
 pre:=fun _=>[]
 res:=fun t=>⟨[dO (isOpen t)],true,[]⟩
 law:=l1 (lA .eTask)
def Za99:Zk99.α→Nat→Option (Ann UU):=fun t=>annL []
def Zu99:List (FuncId×Con UU):=[]
theorem Zo99:Holds EE (99,Zk99):=by
 refine holds_of EE_ok func99 Zk99 (by kernel_rfl) Zu99 all_nil Za99 (fun(t:DTask) hp hb=> ?_)
 have hz0:=bd_eTask (x:=t) (hb _ m0)
 have hl_t_F_Kind:=hz0.1
 have hl_t_F_Fields:=hz0.2.1
 have hl_t_Undo:=hz0.2.2.1
 have hl_t_V_S:=hz0.2.2.2
 clear hp hb
 apply @ve _ (bif t.State==(1:Int) then Lb true (isOpen t) else Lb (t.State==(2:Int)) (isOpen t)) (by kernel_rfl)
 simp only[isOpen]
 refine if_cond (fun h=>Lf_b ?_) (fun h=>Lf_b ?_)<;>grind
def Zh99:HH:=⟨_,Zo99⟩
def Zk206:Con UU where
 α:=(List DTask)
 md:=[.ro]
 of:=o1 (oL .eTask)
 ds:=fun x=>[dL .eTask x]
 pre:=fun l=>[sizeTaskS l≤4294967296]
 res:=fun l=>⟨[dL .eTask (giveUp l)],true,[]⟩
 law:=l1 (lL .eTask)
def Zi206_3(l:(List DTask)):List DTask×Int×Unit→Prop:=fun(out,i,_)=>0≤i∧i≤l.length∧out=(l.map giveUp1).take i.toNat++l.drop i.toNat
def Zm206_3(l:(List DTask)):List DTask×Int×Unit→Nat:=fun(out,i,_)=>l.length-i.toNat
def Za206:Zk206.α→Nat→Option (Ann UU):=fun l=>annL [(3,annOf [.slot 3 (3,1024) (.own .eTask true),.slot 4 (4,1024) (.lit (.int .i64))] (fun _=>Zi206_3 l) (Zm206_3 l))]
def Zu206:=us [Zh61]
theorem Zo206:Holds EE (206,Zk206):=by
 refine holds_of EE_ok func206 Zk206 (by kernel_rfl) Zu206 (us_ok _) Za206 (fun(l:(List DTask)) hp hb=> ?_)
 have hl_l:l.length≤9223372036854775807:=bdL (hb _ m0)
 have hp0:sizeTaskS l≤4294967296:=hp _ m0
 clear hp hb
 apply @ve _ (sizeTaskS l≤(4294967296:Nat)∧Zi206_3 l (l,(0:Int),())∧∀(y:List DTask×Int×PUnit),let x0:Nat:=y.2.1.toNat;Zi206_3 l y→bif decide (y.2.1<(y.1.length:Int)) then(0:Int)≤y.2.1∧x0<y.1.length∧x0<y.1.length∧bif (List.getD y.1 x0 zTask).State==(1:Int) then(0:Int)≤y.2.1∧x0<y.1.length∧x0<y.1.length∧Zi206_3 l (List.modify y.1 x0 fun(x:DTask)=>{F:=x.F,Undo:=x.Undo,State:=(4:Int),Tries:=x.Tries,Due:=x.Due,V:=x.V:DTask},IntKind.wrap IntKind.i64 (y.2.1+(1:Int)),())∧Zm206_3 l (List.modify y.1 x0 fun(x:DTask)=>{F:=x.F,Undo:=x.Undo,State:=(4:Int),Tries:=x.Tries,Due:=x.Due,V:=x.V:DTask},IntKind.wrap IntKind.i64 (y.2.1+(1:Int)),())<Zm206_3 l y else(0:Int)≤y.2.1∧x0<y.1.length∧x0<y.1.length∧bif (List.getD y.1 x0 zTask).State==(2:Int) then(0:Int)≤y.2.1∧x0<y.1.length∧x0<y.1.length∧Zi206_3 l (List.modify y.1 x0 fun(x:DTask)=>{F:=x.F,Undo:=x.Undo,State:=(4:Int),Tries:=x.Tries,Due:=x.Due,V:=x.V:DTask},IntKind.wrap IntKind.i64 (y.2.1+(1:Int)),())∧Zm206_3 l (List.modify y.1 x0 fun(x:DTask)=>{F:=x.F,Undo:=x.Undo,State:=(4:Int),Tries:=x.Tries,Due:=x.Due,V:=x.V:DTask},IntKind.wrap IntKind.i64 (y.2.1+(1:Int)),())<Zm206_3 l y else Zi206_3 l (y.1,IntKind.wrap IntKind.i64 (y.2.1+(1:Int)),())∧Zm206_3 l (y.1,IntKind.wrap IntKind.i64 (y.2.1+(1:Int)),())<Zm206_3 l y else Lf [VL .eTask y.1] [VL .eTask (giveUp l)]) (by kernel_rfl)
 dsimp only
 refine⟨hp0,⟨by omega,by omega,by simp⟩,?_⟩
 rintro⟨out,i,⟨⟩⟩ ⟨h1,h2,rfl⟩
 have hl:=map_row giveUp1 l h1 h2
 simp only
 refine if_cond (fun hc=> ?_) (fun hc=> ?_)
 ·have hc:=of_decide_eq_true hc
  have hc:i<l.length:=by omega
  have hg:=mk_getD _ l zTask (map_tl giveUp1 l h1 h2) h1 hc
  rw[hg,wrap_i64 (by omega) (by omega),hl]
  repeat' (first|refine And.intro (by omega) ?_|refine if_cond (fun h=> ?_) (fun h=> ?_)|fail)
  all_goals first
   |(rw[map_mod giveUp1 l zTask _ h1 hc (by simp only[giveUp1];grind)];exact⟨⟨by omega,by omega,rfl⟩,by simp only[Zm206_3];omega⟩)
   |(have hs:=map_skip giveUp1 l zTask h1 hc (by simp only[giveUp1];grind);exact⟨⟨by omega,by omega,hs⟩,by simp only[Zm206_3];omega⟩)
 ·have hc:=of_decide_eq_false hc
  rw[map_done giveUp1 l (by omega)]
  exact Lf_rfl _
def Zh206:HH:=⟨_,Zo206⟩
def Zk266:Con UU where
 α:=(List DTask)
 md:=[.ro]
 of:=o1 (oL .eTask)
 ds:=fun x=>[dL .eTask x]
 pre:=fun l=>[sizeTaskS l≤4294967296]
 res:=fun l=>⟨[dL .eTask (giveUp l)],true,[]⟩
 law:=l1 (lL .eTask)
def Zi266_3(l:(List DTask)):List DTask×Int×Unit→Prop:=fun(out,i,_)=>0≤i∧i≤l.length∧out=(l.map giveUp1).take i.toNat++l.drop i.toNat
def Zm266_3(l:(List DTask)):List DTask×Int×Unit→Nat:=fun(out,i,_)=>l.length-i.toNat
def Za266:Zk266.α→Nat→Option (Ann UU):=fun l=>annL [(3,annOf [.slot 3 (3,1024) (.own .eTask true),.slot 9 (9,1024) (.lit (.int .i64))] (fun _=>Zi266_3 l) (Zm266_3 l))]
def Zu266:=us [Zh86,Zh99]
theorem Zo266:Holds EE (266,Zk266):=by
 refine holds_of EE_ok func266 Zk266 (by kernel_rfl) Zu266 (us_ok _) Za266 (fun(l:(List DTask)) hp hb=> ?_)
 have hl_l:l.length≤9223372036854775807:=bdL (hb _ m0)
 have hp0:sizeTaskS l≤4294967296:=hp _ m0
 clear hp hb
 apply @ve _ (sizeTaskS l≤(4294967296:Nat)∧Zi266_3 l (l,(0:Int),())∧∀(y:List DTask×Int×PUnit),let x0:Nat:=y.2.1.toNat;Zi266_3 l y→bif decide (y.2.1<(l.length:Int)) then(0:Int)≤y.2.1∧x0<y.1.length∧x0<y.1.length∧x0<y.1.length∧bif isOpen (List.getD y.1 x0 zTask) then(0:Int)≤y.2.1∧x0<y.1.length∧x0<y.1.length∧Zi266_3 l (List.modify y.1 x0 fun(x:DTask)=>{F:=x.F,Undo:=x.Undo,State:=(4:Int),Tries:=x.Tries,Due:=x.Due,V:=x.V:DTask},IntKind.wrap IntKind.i64 (y.2.1+(1:Int)),())∧Zm266_3 l (List.modify y.1 x0 fun(x:DTask)=>{F:=x.F,Undo:=x.Undo,State:=(4:Int),Tries:=x.Tries,Due:=x.Due,V:=x.V:DTask},IntKind.wrap IntKind.i64 (y.2.1+(1:Int)),())<Zm266_3 l y else Zi266_3 l (y.1,IntKind.wrap IntKind.i64 (y.2.1+(1:Int)),())∧Zm266_3 l (y.1,IntKind.wrap IntKind.i64 (y.2.1+(1:Int)),())<Zm266_3 l y else Lf [VL .eTask y.1] [VL .eTask (giveUp l)]) (by kernel_rfl)
 dsimp only
 refine⟨hp0,⟨by omega,by omega,by simp⟩,?_⟩
 rintro⟨out,i,⟨⟩⟩ ⟨h1,h2,rfl⟩
 have hl:=map_row giveUp1 l h1 h2
 simp only
 refine if_cond (fun hc=> ?_) (fun hc=> ?_)
 ·have hc:=of_decide_eq_true hc
  have hc:i<l.length:=by omega
  have hg:=mk_getD _ l zTask (map_tl giveUp1 l h1 h2) h1 hc
  rw[hg,wrap_i64 (by omega) (by omega),hl]
  have hio:isOpen (List.getD l i.toNat zTask)=decide ((List.getD l i.toNat zTask).State=1∨(List.getD l i.toNat zTask).State=2):=rfl
  rw[hio]
  repeat' (first|refine And.intro (by omega) ?_|refine if_cond (fun h=> ?_) (fun h=> ?_)|fail)
  all_goals first
   |(rw[map_mod giveUp1 l zTask _ h1 hc (by simp only[giveUp1];grind)];exact⟨⟨by omega,by omega,rfl⟩,by simp only[Zm266_3];omega⟩)
   |(have hs:=map_skip giveUp1 l zTask h1 hc (by simp only[giveUp1];grind);exact⟨⟨by omega,by omega,hs⟩,by simp only[Zm266_3];omega⟩)
 ·have hc:=of_decide_eq_false hc
  rw[map_done giveUp1 l (by omega)]
  exact Lf_rfl _
def Zh266:HH:=⟨_,Zo266⟩
def Zk71:Con UU where
 α:=DInst
 md:=[.ro]
 of:=o1 (oA .eInst)
 ds:=fun x=>[dA .eInst x]
 pre:=fun _=>[]
 res:=fun x=>⟨[dO (decide (x.State=2∨x.State=4∨x.State=6))],true,[]⟩
 law:=l1 (lA .eInst)
def Za71:Zk71.α→Nat→Option (Ann UU):=fun x=>annL []
def Zu71:List (FuncId×Con UU):=[]
theorem Zo71:Holds EE (71,Zk71):=by
 refine holds_of EE_ok func71 Zk71 (by kernel_rfl) Zu71 all_nil Za71 (fun(x:DInst) hp hb=> ?_)
 have hz0:=bd_eInst (x:=x) (hb _ m0)
 have hl_x_S_Items:=hz0.1
 have hl_x_Fired:=hz0.2.1
 have hl_x_Tasks:=hz0.2.2.1
 have hl_x_Timers:=hz0.2.2.2.1
 have hl_x_Undos:=hz0.2.2.2.2
 clear hp hb
 apply @ve _ (bif x.State==(2:Int) then Lb true (decide (x.State=(2:Int)∨x.State=(4:Int)∨x.State=(6:Int))) else bif x.State==(4:Int) then Lb true (decide (x.State=(2:Int)∨x.State=(4:Int)∨x.State=(6:Int))) else Lb (x.State==(6:Int)) (decide (x.State=(2:Int)∨x.State=(4:Int)∨x.State=(6:Int)))) (by kernel_rfl)
 repeat' (refine if_cond (fun h=> ?_) (fun h=> ?_))
 all_goals (refine Lf_b ?_;grind)
def Zh71:HH:=⟨_,Zo71⟩
def Zk97:Con UU where
 α:=DInst
 md:=[.ro]
 of:=o1 (oA .eInst)
 ds:=fun x=>[dA .eInst x]
 pre:=fun _=>[]
 res:=fun x=>⟨[dO (decide (x.State=2∨x.State=4∨x.State=6))],true,[]⟩
 law:=l1 (lA .eInst)
def Za97:Zk97.α→Nat→Option (Ann UU):=fun x=>annL []
def Zu97:List (FuncId×Con UU):=[]
theorem Zo97:Holds EE (97,Zk97):=by
 refine holds_of EE_ok func97 Zk97 (by kernel_rfl) Zu97 all_nil Za97 (fun(x:DInst) hp hb=> ?_)
 have hz0:=bd_eInst (x:=x) (hb _ m0)
 have hl_x_S_Items:=hz0.1
 have hl_x_Fired:=hz0.2.1
 have hl_x_Tasks:=hz0.2.2.1
 have hl_x_Timers:=hz0.2.2.2.1
 have hl_x_Undos:=hz0.2.2.2.2
 clear hp hb
 apply @ve _ (bif x.State==(2:Int) then Lb true (decide (x.State=(2:Int)∨x.State=(4:Int)∨x.State=(6:Int))) else bif x.State==(4:Int) then Lb true (decide (x.State=(2:Int)∨x.State=(4:Int)∨x.State=(6:Int))) else Lb (x.State==(6:Int)) (decide (x.State=(2:Int)∨x.State=(4:Int)∨x.State=(6:Int)))) (by kernel_rfl)
 repeat' (refine if_cond (fun h=> ?_) (fun h=> ?_))
 all_goals (refine Lf_b ?_;grind)
def Zh97:HH:=⟨_,Zo97⟩
def daRule(x:DRule):DA UU:=⟨true,[.lit (.string x.Name),.lit (.int .i64 x.Sal),.sl .ePat x.Pats,.sl .eCond x.Conds,.sl .eAct x.Acts]⟩
def ruleAt(l:List DRule)(name:ByteArray):Int:=idxI l.length fun k=>decide ((List.getD l k zRule).Name=name)
def defAtR(l:List DRule)(i:Nat):Bool:=ruleOk (List.getD l i zRule)&&decide (ruleAt l (List.getD l i zRule).Name=i)
def defOk(d:DDef):Bool:=nameOk d.Name&&decide (1≤d.Rules.length∧d.Rules.length≤12)&&allI d.Rules.length (defAtR d.Rules)
theorem rule_size{l:List DRule}{i:Int}(h0:0≤i)(h:i<l.length):patArgs (List.getD l i.toNat zRule).Pats≤sizeRuleS l:=by
 have hs:=sum_getD_le sizeRule l zRule h0 h
 have hp:=patArgs_size (List.getD l i.toNat zRule).Pats
 simp only[sizeRule] at hs
 simp only[sizeRuleS,sizeRule];omega
def idAt(l:List DItem)(f:DFact):Int:=idxI l.length fun k=>decide ((List.getD l k zItem).F=f)
def idOf(l:List DItem)(f:DFact):Int:=if idAt l f= -1 then 0 else(List.getD l (idAt l f).toNat zItem).Id
def placeId(l:List DItem)(id:Int):Int:=idxI l.length fun k=>decide ((List.getD l k zItem).Id=id)
def factOf(l:List DItem)(id:Int):DFact:=if placeId l id= -1 then zFact else(List.getD l (placeId l id).toNat zItem).F
def hasId(l:List DItem)(id:Int):Bool:=anyI l.length fun k=>decide ((List.getD l k zItem).Id=id)
def baseAt(s:DStore)(i:Nat):Bool:=factOk (List.getD s.Items i zItem).F&&decide (1≤(List.getD s.Items i zItem).Id)&&decide ((List.getD s.Items i zItem).Id<s.Next)&& !(decide (0<i)&&decide ((List.getD s.Items i zItem).Id≤(List.getD s.Items (i-1) zItem).Id))
def itemAt(s:DStore)(i:Nat):Bool:=baseAt s i&&decide (idOf s.Items (List.getD s.Items i zItem).F=(List.getD s.Items i zItem).Id)
def itemAtI(s:DStore)(i:Nat):Bool:=baseAt s i&& !(anyI i fun k=>decide ((List.getD s.Items i zItem).F=(List.getD s.Items k zItem).F))
def storeOk(s:DStore):Bool:=decide (1≤s.Next∧s.Next≤1000000)&&decide (s.Items.length≤40)&&allI s.Items.length (itemAt s)
theorem base_ids{s:DStore}(h:∀i,i<s.Items.length→baseAt s i=true):∀j i,j<i→i<s.Items.length→(List.getD s.Items j zItem).Id<(List.getD s.Items i zItem).Id:=by
 intro j i hij hi
 have step:∀m,m+1<s.Items.length→(List.getD s.Items m zItem).Id<(List.getD s.Items (m+1) zItem).Id:=fun m hm=>by
  have:=h (m+1) hm
  simp only[baseAt,zaf,zbd,Bool.and_eq_false_iff,decide_eq_false_iff_not,decide_eq_true_eq,Nat.add_sub_cancel] at this
  have:=this.2
  omega
 obtain⟨k,rfl⟩:∃k,i=j+1+k:=⟨i-j-1,by omega⟩
 clear hij
 induction k with
 |zero=>exact step j hi
 |succ k ih=>exact Int.lt_trans (ih (by omega)) (step (j+1+k) hi)
theorem store_same(s:DStore):allI s.Items.length (itemAtI s)=allI s.Items.length (itemAt s):=by
 rw[zcm,allI_all,allI_all]
 have hfst:∀i,i<s.Items.length→∃m,m≤i∧idAt s.Items (List.getD s.Items i zItem).F=(m:Int)∧(List.getD s.Items m zItem).F=(List.getD s.Items i zItem).F∧∀j,j<m→¬(List.getD s.Items j zItem).F=(List.getD s.Items i zItem).F:=by
  intro i hi
  rcases idxI_cases s.Items.length (fun k=>decide ((List.getD s.Items k zItem).F=(List.getD s.Items i zItem).F)) with⟨_,h2⟩|⟨m,g1,g2,g3,g4⟩
  ·have:=h2 i hi;simp at this
  ·refine⟨m,?_,g2,of_decide_eq_true g3,fun j hj=>of_decide_eq_false (g4 j hj)⟩
   rcases zba i m with g|g
   ·have:=g4 i g;simp at this
   ·exact g
 have hid:∀i m:Nat,idAt s.Items (List.getD s.Items i zItem).F=(m:Int)→idOf s.Items (List.getD s.Items i zItem).F=(List.getD s.Items m zItem).Id:=fun i m h=>by
  rw[idOf,h,if_neg (by omega)];simp
 constructor
 ·intro h i hi
  have hi2:=h i hi
  simp only[itemAtI,zaf,zbd] at hi2
  obtain⟨m,m1,m2,m3,m4⟩:=hfst i hi
  have:m=i:=by
   rcases zba m i with g|g
   ·have:=anyI_not.1 hi2.2 m g
    exact absurd m3.symm (of_decide_eq_false this)
   ·omega
  subst this
  simp only[itemAt,hi2.1,hid m m m2,decide_true,zdb]
 ·intro h i hi
  have hb:∀i,i<s.Items.length→baseAt s i=true:=fun i hi=>by
   have:=h i hi
   simp only[itemAt,zaf] at this
   exact this.1
  have hi2:=h i hi
  simp only[itemAt,zaf,decide_eq_true_eq] at hi2
  have hno:(anyI i fun k=>decide ((List.getD s.Items i zItem).F=(List.getD s.Items k zItem).F))=false:=anyI_false fun k hk=>decide_eq_false fun e=>by
   obtain⟨m,m1,m2,m3,m4⟩:=hfst i hi
   have hmk:m≤k:=by
    rcases zba k m with g|g
    ·exact absurd e.symm (m4 k g)
    ·exact g
   have:=base_ids hb m i (by omega) hi
   rw[hid i m m2] at hi2
   omega
  simp only[itemAtI,hi2.1,hno];rfl
def hasR(d:DDef)(m:DMatch):Bool:=decide (0≤m.Rule)&&decide (m.Rule<(d.Rules.length:Int))
def firedM(d:DDef)(s:List DItem)(m:DMatch):Bool:=hasR d m&&decide (m.Binds.length=0)&&decide (m.Ids.length=posN (List.getD d.Rules m.Rule.toNat zRule).Pats)&&m.Ids.all (hasId s)
def firedOk(d:DDef)(x:DInst):Bool:=decide (x.Fired.length≤1000)&&x.Fired.all (firedM d x.S.Items)
def liveT(l:List DTask):Bool:=anyI l.length fun k=>isOpen (List.getD l k zTask)
def endedX(x:DInst):Bool:=decide (x.State=2∨x.State=4∨x.State=6)
def undoingX(x:DInst):Bool:=decide (x.State=3)||decide (x.State=5)
def instOk(d:DDef)(x:DInst):Bool:=defOk d&&storeOk x.S&&tasksOk x.Tasks&&timersOk x.Timers&&undosOk x.Undos&&decide (1≤x.State∧x.State≤6)&&decide (0≤x.Now∧x.Now≤1000000000)&&firedOk d x&& !(endedX x&&(liveT x.Tasks||decide (0<x.Timers.length)))&&(!undoingX x||decide (0<x.Undos.length))
def Zk224:Con UU where
 α:=(List DRule)×(List (DA UU)→Option Value)
 md:=[.ro,.ro]
 of:=oC (oL .eRule) (o1 oF)
 ds:=fun x=>[dL .eRule x.1,dF x.2]
 pre:=fun(l,p)=>[∀j:Nat,j<l.length→p [daRule (List.getD l j zRule)]=some (.bool (boolOf (p [daRule (List.getD l j zRule)])))]
 res:=fun(l,p)=>⟨[dI (idxI l.length (fun j=>boolOf (p [daRule (List.getD l j zRule)])))],true,[]⟩
 law:=lC (lL .eRule) (l1 lF)
def Zi224_2(l:(List DRule))(p:(List (DA UU)→Option Value)):Int×Unit→Prop:=fun(i,_)=>0≤i∧i≤l.length∧∀j:Nat,(j:Int)<i→boolOf (p [daRule (List.getD l j zRule)])=false
def Zm224_2(l:(List DRule))(p:(List (DA UU)→Option Value)):Int×Unit→Nat:=fun(i,_)=>l.length-i.toNat
def Za224:Zk224.α→Nat→Option (Ann UU):=fun(l,p)=>annL [(2,annOf [.slot 8 (8,1024) (.lit (.int .i64))] (fun _=>Zi224_2 l p) (Zm224_2 l p))]
def Zu224:List (FuncId×Con UU):=[]
theorem Zo224:Holds EE (224,Zk224):=by
 refine holds_of EE_ok func224 Zk224 (by kernel_rfl) Zu224 all_nil Za224 (fun x hp hb=> ?_)
 obtain⟨l,p⟩:=x
 have hl_l:l.length≤9223372036854775807:=bdL (hb _ m0)
 have hp0:∀j:Nat,j<l.length→p [daRule (List.getD l j zRule)]=some (.bool (boolOf (p [daRule (List.getD l j zRule)]))):=hp _ m0
 clear hp hb
 apply @ve _ (Zi224_2 l p ((0:Int),())∧∀(y:Int×PUnit),let x1:DRule:=List.getD l y.1.toNat zRule;let x0:Bool:=boolOf (p [{agg:=true,cs:=[CS x1.Name,CI x1.Sal,CL .ePat x1.Pats,CL .eCond x1.Conds,CL .eAct x1.Acts]:DA UU}]);Zi224_2 l p y→bif decide (y.1<(l.length:Int)) then(0:Int)≤y.1∧y.1.toNat<l.length∧p [{agg:=true,cs:=[CS x1.Name,CI x1.Sal,CL .ePat x1.Pats,CL .eCond x1.Conds,CL .eAct x1.Acts]:DA UU}]=some (Value.bool x0)∧bif x0 then Li y.1 (idxI (l.length) fun(j:Nat)=>boolOf (p [daRule (List.getD l j zRule)])) else Zi224_2 l p (IntKind.wrap IntKind.i64 (y.1+(1:Int)),())∧Zm224_2 l p (IntKind.wrap IntKind.i64 (y.1+(1:Int)),())<Zm224_2 l p y else Li (-1:Int) (idxI (l.length) fun(j:Nat)=>boolOf (p [daRule (List.getD l j zRule)]))) (by kernel_rfl)
 dsimp only
 refine⟨⟨by omega,by omega,by intro j hj;omega⟩,?_⟩
 rintro⟨i,⟨⟩⟩ ⟨h1,h2,hR⟩
 simp only[daRule] at*
 refine if_cond (fun hc=> ?_) (fun hc=> ?_)
 ·have hc:=of_decide_eq_true hc
  rw[wrap_i64 (by omega) (by omega)]
  refine⟨by omega,by omega,hp0 i.toNat (by omega),if_cond (fun h=>Lf_i ?_) (fun h=>⟨⟨by omega,by omega,upto_no (p:=fun j=>boolOf (p [daRule (List.getD l j zRule)])) h1 hR h⟩,by simp only[Zm224_2];omega⟩)⟩
  rw[idxI_found (i:=i.toNat) (by omega) h (fun j hj=>hR j (by omega))]
  omega
 ·have hc:=of_decide_eq_false hc
  exact Lf_i (idxI_none (fun j hj=>hR j (by omega))).symm
def Zh224:HH:=⟨_,Zo224⟩
def Zk225:Con UU where
 α:=DRule×ByteArray
 md:=[.ro,.ro]
 of:=fun|[.agg [.lit (.string a0),.lit (.int .i64 a1),.sl .ePat a2,.sl .eCond a3,.sl .eAct a4],.ptr [.lit (.string a5)]]=>some (⟨a0,a1,a2,a3,a4⟩,a5)|_=>none
 ds:=fun(r,name)=>[.agg [.lit (.string r.Name),.lit (.int .i64 r.Sal),.sl .ePat r.Pats,.sl .eCond r.Conds,.sl .eAct r.Acts],.ptr [.lit (.string name)]]
 pre:=fun(r,name)=>[]
 res:=fun(r,name)=>⟨[.one (.lit (.bool (decide (r.Name=name))))],true,[]⟩
 law:=by intro l x h;(try simp only at h);split at h<;>cases h;rfl
def Za225:Zk225.α→Nat→Option (Ann UU):=fun(r,name)=>annL []
def Zu225:List (FuncId×Con UU):=[]
theorem Zo225:Holds EE (225,Zk225):=by
 refine holds_of EE_ok func225 Zk225 (by kernel_rfl) Zu225 all_nil Za225 (fun x hp hb=> ?_)
 obtain⟨r,name⟩:=x
 have hb_r:BdDV (U:=UU) (.agg [.lit (.string r.Name),.lit (.int .i64 r.Sal),.sl .ePat r.Pats,.sl .eCond r.Conds,.sl .eAct r.Acts]):=hb _ (zab)
 have hl_r_Name:r.Name.size≤9223372036854775807:=Bd.str (hb_r _ (by simp))
 have hl_r_Pats:r.Pats.length≤9223372036854775807:=Bd.len (U:=UU) (τ:=.ePat) (xs:=r.Pats) (hb_r _ (by simp))
 have hl_r_Conds:r.Conds.length≤9223372036854775807:=Bd.len (U:=UU) (τ:=.eCond) (xs:=r.Conds) (hb_r _ (by simp))
 have hl_r_Acts:r.Acts.length≤9223372036854775807:=Bd.len (U:=UU) (τ:=.eAct) (xs:=r.Acts) (hb_r _ (by simp))
 have hb_name:BdDV (U:=UU) (.ptr [.lit (.string name)]):=hb _ (zaa _ (zab))
 have hl_name:name.size≤9223372036854775807:=Bd.str (hb_name _ (by simp))
 clear hp hb
 apply @ve _ (Lb (ByteArray.toList r.Name==ByteArray.toList name) (decide (r.Name=name))) (by kernel_rfl)
 rw[toList_beq]
 exact Lf_rfl _
def Zh225:HH:=⟨_,Zo225⟩
def Zk162:Con UU where
 α:=DDef×ByteArray
 md:=[.ro,.ro]
 of:=oC (oA .eDef) (o1 oS)
 ds:=fun x=>[dA .eDef x.1,dS x.2]
 pre:=fun _=>[]
 res:=fun(d,name)=>⟨[dI (ruleAt d.Rules name)],true,[]⟩
 law:=lC (lA .eDef) (l1 lS)
def Za162:Zk162.α→Nat→Option (Ann UU):=fun(d,name)=>annL []
def Zu162:=us [Zh224,Zh225]
theorem Zo162:Holds EE (162,Zk162):=by
 refine holds_of EE_ok func162 Zk162 (by kernel_rfl) Zu162 (us_ok _) Za162 (fun x hp hb=> ?_)
 obtain⟨d,name⟩:=x
 have hz0:=bd_eDef (x:=d) (hb _ m0)
 have hl_d_Name:=hz0.1
 have hl_d_Rules:=hz0.2
 have hl_name:=bdS (s:=name) (hb _ m1)
 clear hp hb
 apply @ve _ ((∀(j:Nat),j<d.Rules.length→closP Zk225 [DV.ptr [CS name]] [daRule (List.getD d.Rules j zRule)]=some (Value.bool (boolOf (closP Zk225 [DV.ptr [CS name]] [daRule (List.getD d.Rules j zRule)]))))∧Li (idxI (d.Rules.length) fun(j:Nat)=>boolOf (closP Zk225 [DV.ptr [CS name]] [daRule (List.getD d.Rules j zRule)])) (ruleAt d.Rules name)) (by kernel_rfl)
 have hc:∀x:DRule,closP Zk225 [.ptr [.lit (.string name)]] [daRule x]=some (.bool (decide (x.Name=name))):=fun x=>closP_of (x:=(x,name)) rfl rfl rfl rfl (by simp[Zk225])
 refine⟨fun j hj=> ?_,Lf_i ?_⟩
 ·show closP Zk225 [.ptr [.lit (.string name)]] [daRule (List.getD d.Rules j zRule)]=_
  rw[hc];rfl
 ·exact idxI_congr fun j hj=>by
   show boolOf (closP Zk225 [.ptr [.lit (.string name)]] [daRule (List.getD d.Rules j zRule)])=_
   rw[hc];rfl
def Zh162:HH:=⟨_,Zo162⟩
def Zk134:Con UU where
 α:=DDef×ByteArray
 md:=[.ro,.ro]
 of:=oC (oA .eDef) (o1 oS)
 ds:=fun x=>[dA .eDef x.1,dS x.2]
 pre:=fun _=>[]
 res:=fun(d,name)=>⟨[dI (ruleAt d.Rules name)],true,[]⟩
 law:=lC (lA .eDef) (l1 lS)
def Zi134_2(d:DDef)(name:ByteArray):Int×(ByteArray×List DRule×Unit)×Unit→Prop:=fun(i,fb,_)=>fb=(d.Name,d.Rules,())∧0≤i∧i≤d.Rules.length∧∀j:Nat,(j:Int)<i→decide ((List.getD d.Rules j zRule).Name=name)=false
def Zm134_2(d:DDef)(name:ByteArray):Int×(ByteArray×List DRule×Unit)×Unit→Nat:=fun(i,fb,_)=>d.Rules.length-i.toNat
def Za134:Zk134.α→Nat→Option (Ann UU):=fun(d,name)=>annL [(2,annOf [.slot 5 (5,1024) (.lit (.int .i64)),.box 2 (2,1024) [.lit .str,.shr .eRule]] (fun _=>Zi134_2 d name) (Zm134_2 d name))]
def Zu134:List (FuncId×Con UU):=[]
theorem Zo134:Holds EE (134,Zk134):=by
 refine holds_of EE_ok func134 Zk134 (by kernel_rfl) Zu134 all_nil Za134 (fun x hp hb=> ?_)
 obtain⟨d,name⟩:=x
 have hz0:=bd_eDef (x:=d) (hb _ m0)
 have hl_d_Name:=hz0.1
 have hl_d_Rules:=hz0.2
 have hl_name:=bdS (s:=name) (hb _ m1)
 clear hp hb
 apply @ve _ (Zi134_2 d name ((0:Int),(d.Name,d.Rules,()),())∧∀(y:Int×(ByteArray×List DRule×PUnit)×PUnit),let x1:Nat:=y.2.1.2.1.length;let x0:Int:=(↑x1:Int);Zi134_2 d name y→bif decide (y.1<x0) then(0:Int)≤y.1∧y.1.toNat<x1∧bif ByteArray.toList (List.getD y.2.1.2.1 y.1.toNat zRule).Name==ByteArray.toList name then Li y.1 (ruleAt d.Rules name) else Zi134_2 d name (IntKind.wrap IntKind.i64 (y.1+(1:Int)),(y.2.1.1,y.2.1.2.1,()),())∧Zm134_2 d name (IntKind.wrap IntKind.i64 (y.1+(1:Int)),(y.2.1.1,y.2.1.2.1,()),())<Zm134_2 d name y else Li (-1:Int) (ruleAt d.Rules name)) (by kernel_rfl)
 dsimp only
 refine⟨⟨rfl,by omega,by omega,by intro j hj;omega⟩,?_⟩
 rintro⟨i,fb,⟨⟩⟩ ⟨rfl,h1,h2,hR⟩
 simp only
 refine if_cond (fun hc=> ?_) (fun hc=> ?_)
 ·have hc:i<d.Rules.length:=of_decide_eq_true hc
  simp(disch:=omega) only[wrap_i64,toList_beq]
  refine⟨by omega,by omega,if_cond (fun h=>Lf_i ?_) (fun h=>⟨⟨rfl,by omega,by omega,upto_no (p:=fun j=>decide ((List.getD d.Rules j zRule).Name=name)) h1 hR h⟩,by simp only[Zm134_2];omega⟩)⟩
  rw[ruleAt,idxI_found (i:=i.toNat) (by omega) h (fun j hj=>hR j (by omega))]
  omega
 ·have hc:¬i<d.Rules.length:=of_decide_eq_false hc
  exact Lf_i (idxI_none (fun j hj=>hR j (by omega))).symm
def Zh134:HH:=⟨_,Zo134⟩
def Zk64:Con UU where
 α:=DDef
 md:=[.ro]
 of:=o1 (oA .eDef)
 ds:=fun x=>[dA .eDef x]
 pre:=fun d=>[sizeDef d≤4294967295]
 res:=fun d=>⟨[dO (defOk d)],true,[]⟩
 law:=l1 (lA .eDef)
def Zi64_2(d:DDef):Int×(ByteArray×List DRule×Unit)×Unit→Prop:=fun(i,b,_)=>b=(d.Name,d.Rules,())∧0≤i∧i≤d.Rules.length∧∀j:Nat,(j:Int)<i→defAtR d.Rules j=true
def Zm64_2(d:DDef):Int×(ByteArray×List DRule×Unit)×Unit→Nat:=fun(i,b,_)=>d.Rules.length-i.toNat
def Za64:Zk64.α→Nat→Option (Ann UU):=fun d=>annL [(2,annOf [.slot 3 (3,1024) (.lit (.int .i64)),.box 1 (1,1024) [.lit .str,.shr .eRule]] (fun _=>Zi64_2 d) (Zm64_2 d))]
def Zu64:=us [Zh133,Zh134,Zh135,Zh69]
theorem Zo64:Holds EE (64,Zk64):=by
 refine holds_of EE_ok func64 Zk64 (by kernel_rfl) Zu64 (us_ok _) Za64 (fun(d:DDef) hp hb=> ?_)
 have hz0:=bd_eDef (x:=d) (hb _ m0)
 have hl_d_Name:=hz0.1
 have hl_d_Rules:=hz0.2
 have hp0:sizeDef d≤4294967295:=hp _ m0
 clear hp hb
 apply @ve _ (Zi64_2 d ((0:Int),(d.Name,d.Rules,()),())∧∀(y:Int×(ByteArray×List DRule×PUnit)×PUnit),let x1:DRule:=List.getD y.2.1.2.1 y.1.toNat zRule;let x2:Nat:=y.2.1.2.1.length;let x0:Int:=(↑x2:Int);Zi64_2 d y→bif decide (y.1<x0) then(0:Int)≤y.1∧y.1.toNat<x2∧patArgs x1.Pats≤(4294967295:Nat)∧bif !ruleOk x1 then Lb false (defOk d) else(0:Int)≤y.1∧y.1.toNat<x2∧bif ruleAt y.2.1.2.1 x1.Name !=y.1 then Lb false (defOk d) else Zi64_2 d (IntKind.wrap IntKind.i64 (y.1+(1:Int)),(y.2.1.1,y.2.1.2.1,()),())∧Zm64_2 d (IntKind.wrap IntKind.i64 (y.1+(1:Int)),(y.2.1.1,y.2.1.2.1,()),())<Zm64_2 d y else bif nameOk y.2.1.1 then Lb (decide ((1:Int)≤x0∧x0≤(12:Int))) (defOk d) else Lb false (defOk d)) (by kernel_rfl)
 dsimp only
 refine⟨⟨rfl,by omega,by omega,by intro j hj;omega⟩,?_⟩
 rintro⟨i,⟨b1,b2,⟨⟩⟩,⟨⟩⟩ ⟨hbx,h1,h2,hR⟩
 cases hbx
 simp only
 refine if_dec (fun hc=> ?_) (fun hc=> ?_)
 ·have hN:defAtR d.Rules i.toNat=false→defOk d=false:=fun h=>by
   have hf:allI d.Rules.length (defAtR d.Rules)=false:=allI_false (j:=i.toNat) (by omega) h
   simp only[defOk,hf,zbs]
  have hs:=rule_size h1 hc
  simp only[sizeDef] at hp0
  have ei:((i.toNat:Nat):Int)=i:=by omega
  rw[wrap_i64 (by omega) (by omega)]
  refine⟨by omega,by omega,by omega,if_not (fun g=>Lf_ff (hN (by simp only[defAtR,g,zbi]))) (fun g=>⟨by omega,by omega,if_not (fun k=>Lf_ff (hN ?_)) (fun k=>⟨⟨rfl,by omega,by omega,upto_step h1 hR ?_⟩,by simp only[Zm64_2];omega⟩)⟩)⟩
  ·simp only[defAtR,ei,g,zck];exact decide_eq_false (by simpa using k)
  ·simp only[defAtR,ei,g,zck];exact decide_eq_true (eq_of_beq k)
 ·have hA:allI d.Rules.length (defAtR d.Rules)=true:=allI_true fun j hj=>hR j (by omega)
  simp only[defOk,hA,zdb]
  refine if_cond (fun h=>Lf_b ?_) (fun h=>Lf_b ?_)
  ·rw[h,zck];exact decide_eq_decide.2 (by omega)
  ·rw[h,zbi]
def Zh64:HH:=⟨_,Zo64⟩
def Zk89:Con UU where
 α:=DDef
 md:=[.ro]
 of:=o1 (oA .eDef)
 ds:=fun x=>[dA .eDef x]
 pre:=fun _=>[]
 res:=fun d=>⟨[dO (defOk d)],true,[]⟩
 law:=l1 (lA .eDef)
def Zi89_4(d:DDef):Int×(ByteArray×List DRule×Unit)×Unit→Prop:=fun(i,b,_)=>b=(d.Name,d.Rules,())∧nameOk d.Name=true∧(1≤d.Rules.length∧d.Rules.length≤12)∧0≤i∧i≤d.Rules.length∧∀j:Nat,(j:Int)<i→defAtR d.Rules j=true
def Zm89_4(d:DDef):Int×(ByteArray×List DRule×Unit)×Unit→Nat:=fun(i,b,_)=>d.Rules.length-i.toNat
def Za89:Zk89.α→Nat→Option (Ann UU):=fun d=>annL [(4,annOf [.slot 19 (19,1024) (.lit (.int .i64)),.box 1 (1,1024) [.lit .str,.shr .eRule]] (fun _=>Zi89_4 d) (Zm89_4 d))]
def Zu89:=us [Zh161,Zh162,Zh160,Zh94]
theorem Zo89:Holds EE (89,Zk89):=by
 refine holds_of EE_ok func89 Zk89 (by kernel_rfl) Zu89 (us_ok _) Za89 (fun(d:DDef) hp hb=> ?_)
 have hz0:=bd_eDef (x:=d) (hb _ m0)
 have hl_d_Name:=hz0.1
 have hl_d_Rules:=hz0.2
 clear hp hb
 apply @ve _ (let x0:Int:=(d.Rules.length:Int);bif !nameOk d.Name then Lb false (defOk d) else bif !decide ((1:Int)≤x0∧x0≤(12:Int)) then Lb false (defOk d) else Zi89_4 d ((0:Int),(d.Name,d.Rules,()),())∧∀(y:Int×(ByteArray×List DRule×PUnit)×PUnit),Zi89_4 d y→bif decide (y.1<x0) then(0:Int)≤y.1∧y.1.toNat<d.Rules.length∧bif !ruleOk (List.getD d.Rules y.1.toNat zRule) then Lb false (defOk d) else bif ruleAt y.2.1.2.1 (List.getD d.Rules y.1.toNat zRule).Name !=y.1 then Lb false (defOk d) else Zi89_4 d (IntKind.wrap IntKind.i64 (y.1+(1:Int)),(y.2.1.1,y.2.1.2.1,()),())∧Zm89_4 d (IntKind.wrap IntKind.i64 (y.1+(1:Int)),(y.2.1.1,y.2.1.2.1,()),())<Zm89_4 d y else Lb true (defOk d)) (by kernel_rfl)
 dsimp only
 refine if_not (fun a1=>Lf_ff (by simp only[defOk,a1,zbi])) (fun a1=>if_not (fun a2=>Lf_ff ?_) (fun a2=> ?_))
 ·have a2:=of_decide_eq_false a2
  simp only[defOk];rw[decide_eq_false (p:=1≤d.Rules.length∧d.Rules.length≤12) (by omega),zbs,zbi]
 have a2:=of_decide_eq_true a2
 refine⟨⟨rfl,a1,by omega,by omega,by omega,by intro j hj;omega⟩,?_⟩
 rintro⟨i,⟨b1,b2,⟨⟩⟩,⟨⟩⟩ ⟨hbx,a3,a4,h1,h2,hR⟩
 cases hbx
 simp only
 refine if_dec (fun hc=> ?_) (fun hc=> ?_)
 ·have hN:defAtR d.Rules i.toNat=false→defOk d=false:=fun h=>by
   have hf:allI d.Rules.length (defAtR d.Rules)=false:=allI_false (j:=i.toNat) (by omega) h
   simp only[defOk,hf,zbs]
  have ei:((i.toNat:Nat):Int)=i:=by omega
  rw[wrap_i64 (by omega) (by omega)]
  refine⟨by omega,by omega,if_not (fun g=>Lf_ff (hN (by simp only[defAtR,g,zbi]))) (fun g=>if_not (fun k=>Lf_ff (hN ?_)) (fun k=>⟨⟨rfl,a3,a4,by omega,by omega,upto_step h1 hR ?_⟩,by simp only[Zm89_4];omega⟩))⟩
  ·simp only[defAtR,ei,g,zck];exact decide_eq_false (by simpa using k)
  ·simp only[defAtR,ei,g,zck];exact decide_eq_true (eq_of_beq k)
 ·have hA:allI d.Rules.length (defAtR d.Rules)=true:=allI_true fun j hj=>hR j (by omega)
  refine Lf_tt ?_
  simp only[defOk,hA,a3,decide_eq_true a4];rfl
def Zh89:HH:=⟨_,Zo89⟩
def Zk137:Con UU where
 α:=DStore×DFact
 md:=[.ro,.ro]
 of:=oC (oA .eStore) (o1 (oA .eFact))
 ds:=fun x=>[dA .eStore x.1,dA .eFact x.2]
 pre:=fun _=>[]
 res:=fun(s,f)=>⟨[dI (idOf s.Items f)],true,[]⟩
 law:=lC (lA .eStore) (l1 (lA .eFact))
def Zi137_2(s:DStore)(f:DFact):Int×(List DItem×Int×Unit)×(ByteArray×List DVal×Unit)×Unit→Prop:=fun(i,b,g,_)=>b=(s.Items,s.Next,())∧g=(f.Kind,f.Fields,())∧0≤i∧i≤s.Items.length∧∀j:Nat,(j:Int)<i→decide ((List.getD s.Items j zItem).F=f)=false
def Zm137_2(s:DStore)(f:DFact):Int×(List DItem×Int×Unit)×(ByteArray×List DVal×Unit)×Unit→Nat:=fun(i,b,g,_)=>s.Items.length-i.toNat
def Za137:Zk137.α→Nat→Option (Ann UU):=fun(s,f)=>annL [(2,annOf [.slot 5 (5,1024) (.lit (.int .i64)),.box 2 (2,1024) [.shr .eItem,.lit (.int .i64)],.box 3 (3,1024) [.lit .str,.shr .eVal]] (fun _=>Zi137_2 s f) (Zm137_2 s f))]
def Zu137:=us [Zh139]
theorem Zo137:Holds EE (137,Zk137):=by
 refine holds_of EE_ok func137 Zk137 (by kernel_rfl) Zu137 (us_ok _) Za137 (fun x hp hb=> ?_)
 obtain⟨s,f⟩:=x
 have hl_s_Items:=bd_eStore (x:=s) (hb _ m0)
 have hz1:=bd_eFact (x:=f) (hb _ m1)
 have hl_f_Kind:=hz1.1
 have hl_f_Fields:=hz1.2
 clear hp hb
 apply @ve _ (Zi137_2 s f ((0:Int),(s.Items,s.Next,()),(f.Kind,f.Fields,()),())∧∀(y:Int×(List DItem×Int×PUnit)×(ByteArray×List DVal×PUnit)×PUnit),let x0:DItem:=List.getD y.2.1.1 y.1.toNat zItem;let x2:Nat:=y.2.1.1.length;let x1:Int:=(↑x2:Int);Zi137_2 s f y→bif decide (y.1<x1) then(0:Int)≤y.1∧y.1.toNat<x2∧bif decide (x0.F={Kind:=y.2.2.1.1,Fields:=y.2.2.1.2.1:DFact}) then(0:Int)≤y.1∧y.1.toNat<x2∧Li x0.Id (idOf s.Items f) else Zi137_2 s f (IntKind.wrap IntKind.i64 (y.1+(1:Int)),(y.2.1.1,y.2.1.2.1,()),(y.2.2.1.1,y.2.2.1.2.1,()),())∧Zm137_2 s f (IntKind.wrap IntKind.i64 (y.1+(1:Int)),(y.2.1.1,y.2.1.2.1,()),(y.2.2.1.1,y.2.2.1.2.1,()),())<Zm137_2 s f y else Li (0:Int) (idOf s.Items f)) (by kernel_rfl)
 dsimp only
 refine⟨⟨rfl,rfl,by omega,by omega,by intro j hj;omega⟩,?_⟩
 rintro⟨i,⟨b1,b2,⟨⟩⟩,⟨g1,g2,⟨⟩⟩,⟨⟩⟩ ⟨hbx,hg,h1,h2,hR⟩
 cases hbx
 cases hg
 simp only
 refine if_dec (fun hc=> ?_) (fun hc=> ?_)
 ·rw[wrap_i64 (by omega) (by omega)]
  refine⟨by omega,by omega,if_dec (fun h=>⟨by omega,by omega,Lf_i ?_⟩) (fun h=>⟨⟨rfl,rfl,by omega,by omega,upto_no (p:=fun j=>decide ((List.getD s.Items j zItem).F=f)) h1 hR (decide_eq_false h)⟩,by simp only[Zm137_2];omega⟩)⟩
  have e:idAt s.Items f=(i.toNat:Int):=idxI_found (i:=i.toNat) (by omega) (decide_eq_true h) (fun j hj=>hR j (by omega))
  rw[idOf,e,if_neg (by omega),zeu]
 ·refine Lf_i ?_
  have e:idAt s.Items f= -1:=idxI_none (fun j hj=>hR j (by omega))
  rw[idOf,if_pos e]
def Zh137:HH:=⟨_,Zo137⟩
def Zk143:Con UU where
 α:=DStore×Int
 md:=[.ro,.ro]
 of:=oC (oA .eStore) (o1 oI)
 ds:=fun x=>[dA .eStore x.1,dI x.2]
 pre:=fun(s,id)=>[sizeItemS s.Items≤4294967296]
 res:=fun(s,id)=>⟨[dA .eFact (factOf s.Items id),dO (hasId s.Items id)],true,[]⟩
 law:=lC (lA .eStore) (l1 lI)
def Zi143_2(s:DStore)(id:Int):Int×(List DItem×Int×Unit)×(ByteArray×List DVal×Unit)×Unit→Prop:=fun(i,b,g,_)=>b=(s.Items,s.Next,())∧0≤i∧i≤s.Items.length∧∀j:Nat,(j:Int)<i→decide ((List.getD s.Items j zItem).Id=id)=false
def Zm143_2(s:DStore)(id:Int):Int×(List DItem×Int×Unit)×(ByteArray×List DVal×Unit)×Unit→Nat:=fun(i,b,g,_)=>s.Items.length-i.toNat
def Za143:Zk143.α→Nat→Option (Ann UU):=fun(s,id)=>annL [(2,annOf [.slot 6 (6,1024) (.lit (.int .i64)),.box 2 (2,1024) [.shr .eItem,.lit (.int .i64)],.box 4 (4,1024) [.lit .str,.own .eVal true]] (fun _=>Zi143_2 s id) (Zm143_2 s id))]
def Zu143:=us [Zh132]
theorem Zo143:Holds EE (143,Zk143):=by
 refine holds_of EE_ok func143 Zk143 (by kernel_rfl) Zu143 (us_ok _) Za143 (fun x hp hb=> ?_)
 obtain⟨s,id⟩:=x
 have hl_s_Items:=bd_eStore (x:=s) (hb _ m0)
 have hl_id:=bdI (n:=id) (hb _ m1)
 have hp0:sizeItemS s.Items≤4294967296:=hp _ m0
 clear hp hb
 apply @ve _ (Zi143_2 s id ((0:Int),(s.Items,s.Next,()),({data:= #[]:ByteArray},[],()),())∧∀(y:Int×(List DItem×Int×PUnit)×(ByteArray×List DVal×PUnit)×PUnit),let x2:DItem:=List.getD y.2.1.1 y.1.toNat zItem;let x4:Nat:=y.2.1.1.length;let x1:DFact:=x2.F;let x3:Int:=(↑x4:Int);let x0:List DVal:=x1.Fields;Zi143_2 s id y→bif decide (y.1<x3) then(0:Int)≤y.1∧y.1.toNat<x4∧bif x2.Id==id then(0:Int)≤y.1∧y.1.toNat<x4∧x0.length≤(4294967296:Nat)∧Lf [DV.agg [CS x1.Kind,CL .eVal x0],VB true] [DV.agg [CS ((factOf s.Items id).Kind),CL .eVal (factOf s.Items id).Fields],VB (hasId s.Items id)] else Zi143_2 s id (IntKind.wrap IntKind.i64 (y.1+(1:Int)),(y.2.1.1,y.2.1.2.1,()),(y.2.2.1.1,y.2.2.1.2.1,()),())∧Zm143_2 s id (IntKind.wrap IntKind.i64 (y.1+(1:Int)),(y.2.1.1,y.2.1.2.1,()),(y.2.2.1.1,y.2.2.1.2.1,()),())<Zm143_2 s id y else Lf [DV.agg [CS ({data:= #[]:ByteArray}),CL .eVal []],VB false] [DV.agg [CS ((factOf s.Items id).Kind),CL .eVal (factOf s.Items id).Fields],VB (hasId s.Items id)]) (by kernel_rfl)
 dsimp only
 refine⟨⟨rfl,by omega,by omega,by intro j hj;omega⟩,?_⟩
 rintro⟨i,⟨b1,b2,⟨⟩⟩,⟨g1,g2,⟨⟩⟩,⟨⟩⟩ ⟨hbx,h1,h2,hR⟩
 cases hbx
 simp only
 refine if_dec (fun hc=> ?_) (fun hc=> ?_)
 ·rw[wrap_i64 (by omega) (by omega)]
  have hs:=sum_getD_le sizeItem s.Items zItem h1 hc
  simp only[sizeItem,sizeFact,sizeValS] at hs
  simp only[sizeItemS,sizeItem,sizeFact,sizeValS] at hp0
  refine⟨by omega,by omega,if_num (fun h=>⟨by omega,by omega,by omega,?_⟩) (fun h=>⟨⟨rfl,by omega,by omega,upto_no (p:=fun j=>decide ((List.getD s.Items j zItem).Id=id)) h1 hR (decide_eq_false h)⟩,by simp only[Zm143_2];omega⟩)⟩
  have e:placeId s.Items id=(i.toNat:Int):=idxI_found (i:=i.toNat) (by omega) (decide_eq_true h) (fun j hj=>hR j (by omega))
  have e1:factOf s.Items id=(List.getD s.Items i.toNat zItem).F:=by rw[factOf,e,if_neg (by omega),zeu]
  have e2:hasId s.Items id=true:=anyI_true (j:=i.toNat) (by omega) (decide_eq_true h)
  rw[e1,e2];exact Lf_rfl _
 ·have e:placeId s.Items id= -1:=idxI_none (fun j hj=>hR j (by omega))
  have e1:factOf s.Items id=zFact:=by rw[factOf,if_pos e]
  have e2:hasId s.Items id=false:=anyI_false fun j hj=>hR j (by omega)
  rw[e1,e2];exact Lf_rfl _
def Zh143:HH:=⟨_,Zo143⟩
def Zk172:Con UU where
 α:=DStore×Int
 md:=[.ro,.ro]
 of:=oC (oA .eStore) (o1 oI)
 ds:=fun x=>[dA .eStore x.1,dI x.2]
 pre:=fun(s,id)=>[sizeItemS s.Items≤4294967296]
 res:=fun(s,id)=>⟨[dA .eFact (factOf s.Items id),dO (hasId s.Items id)],true,[]⟩
 law:=lC (lA .eStore) (l1 lI)
def Zi172_2(s:DStore)(id:Int):Int×(ByteArray×List DVal×Unit)×Unit→Prop:=fun(i,g,_)=>0≤i∧i≤s.Items.length∧∀j:Nat,(j:Int)<i→decide ((List.getD s.Items j zItem).Id=id)=false
def Zm172_2(s:DStore)(id:Int):Int×(ByteArray×List DVal×Unit)×Unit→Nat:=fun(i,g,_)=>s.Items.length-i.toNat
def Za172:Zk172.α→Nat→Option (Ann UU):=fun(s,id)=>annL [(2,annOf [.slot 11 (11,1024) (.lit (.int .i64)),.box 4 (4,1024) [.lit .str,.own .eVal true]] (fun _=>Zi172_2 s id) (Zm172_2 s id))]
def Zu172:=us [Zh158]
theorem Zo172:Holds EE (172,Zk172):=by
 refine holds_of EE_ok func172 Zk172 (by kernel_rfl) Zu172 (us_ok _) Za172 (fun x hp hb=> ?_)
 obtain⟨s,id⟩:=x
 have hl_s_Items:=bd_eStore (x:=s) (hb _ m0)
 have hl_id:=bdI (n:=id) (hb _ m1)
 have hp0:sizeItemS s.Items≤4294967296:=hp _ m0
 clear hp hb
 apply @ve _ (Zi172_2 s id ((0:Int),({data:= #[]:ByteArray},[],()),())∧∀(y:Int×(ByteArray×List DVal×PUnit)×PUnit),Zi172_2 s id y→bif decide (y.1<(s.Items.length:Int)) then(0:Int)≤y.1∧y.1.toNat<s.Items.length∧bif (List.getD s.Items y.1.toNat zItem).Id==id then List.length (List.getD s.Items y.1.toNat zItem).F.Fields≤(4294967296:Nat)∧Lf [DV.agg [CS ((List.getD s.Items y.1.toNat zItem).F.Kind),CL .eVal (List.getD s.Items y.1.toNat zItem).F.Fields],VB true] [DV.agg [CS ((factOf s.Items id).Kind),CL .eVal (factOf s.Items id).Fields],VB (hasId s.Items id)] else Zi172_2 s id (IntKind.wrap IntKind.i64 (y.1+(1:Int)),(y.2.1.1,y.2.1.2.1,()),())∧Zm172_2 s id (IntKind.wrap IntKind.i64 (y.1+(1:Int)),(y.2.1.1,y.2.1.2.1,()),())<Zm172_2 s id y else Lf [DV.agg [CS ({data:= #[]:ByteArray}),CL .eVal []],VB false] [DV.agg [CS ((factOf s.Items id).Kind),CL .eVal (factOf s.Items id).Fields],VB (hasId s.Items id)]) (by kernel_rfl)
 refine⟨⟨by omega,by omega,by intro j hj;omega⟩,?_⟩
 rintro⟨i,⟨g1,g2,⟨⟩⟩,⟨⟩⟩ ⟨h1,h2,hR⟩
 simp only
 refine if_dec (fun hc=> ?_) (fun hc=> ?_)
 ·rw[wrap_i64 (by omega) (by omega)]
  have hs:=sum_getD_le sizeItem s.Items zItem h1 hc
  simp only[sizeItem,sizeFact,sizeValS] at hs
  simp only[sizeItemS,sizeItem,sizeFact,sizeValS] at hp0
  refine⟨by omega,by omega,if_num (fun h=>⟨by omega,?_⟩) (fun h=>⟨⟨by omega,by omega,upto_no (p:=fun j=>decide ((List.getD s.Items j zItem).Id=id)) h1 hR (decide_eq_false h)⟩,by simp only[Zm172_2];omega⟩)⟩
  have e:placeId s.Items id=(i.toNat:Int):=idxI_found (i:=i.toNat) (by omega) (decide_eq_true h) (fun j hj=>hR j (by omega))
  have e1:factOf s.Items id=(List.getD s.Items i.toNat zItem).F:=by rw[factOf,e,if_neg (by omega),zeu]
  have e2:hasId s.Items id=true:=anyI_true (j:=i.toNat) (by omega) (decide_eq_true h)
  rw[e1,e2];exact Lf_rfl _
 ·have e:placeId s.Items id= -1:=idxI_none (fun j hj=>hR j (by omega))
  have e1:factOf s.Items id=zFact:=by rw[factOf,if_pos e]
  have e2:hasId s.Items id=false:=anyI_false fun j hj=>hR j (by omega)
  rw[e1,e2];exact Lf_rfl _
def Zh172:HH:=⟨_,Zo172⟩
def Zk65:Con UU where
 α:=DStore
 md:=[.ro]
 of:=o1 (oA .eStore)
 ds:=fun x=>[dA .eStore x]
 pre:=fun _=>[]
 res:=fun s=>⟨[dO (storeOk s)],true,[]⟩
 law:=l1 (lA .eStore)
def Zi65_4(s:DStore):Int×(List DItem×Int×Unit)×Unit→Prop:=fun(i,b,_)=>b=(s.Items,s.Next,())∧0≤i∧i≤s.Items.length∧∀j:Nat,(j:Int)<i→itemAt s j=true
def Zm65_4(s:DStore):Int×(List DItem×Int×Unit)×Unit→Nat:=fun(i,b,_)=>s.Items.length-i.toNat
def Za65:Zk65.α→Nat→Option (Ann UU):=fun s=>annL [(4,annOf [.slot 3 (3,1024) (.lit (.int .i64)),.box 1 (1,1024) [.shr .eItem,.lit (.int .i64)]] (fun _=>Zi65_4 s) (Zm65_4 s))]
def Zu65:=us [Zh69,Zh136,Zh137]
theorem Zo65:Holds EE (65,Zk65):=by
 refine holds_of EE_ok func65 Zk65 (by kernel_rfl) Zu65 (us_ok _) Za65 (fun(s:DStore) hp hb=> ?_)
 have hl_s_Items:=bd_eStore (x:=s) (hb _ m0)
 clear hp hb
 apply @ve _ (bif !decide ((1:Int)≤s.Next∧s.Next≤(1000000:Int)) then Lb false (storeOk s) else bif decide ((s.Items.length:Int)>(40:Int)) then Lb false (storeOk s) else Zi65_4 s ((0:Int),(s.Items,s.Next,()),())∧∀(y:Int×(List DItem×Int×PUnit)×PUnit),let x1:Nat:=y.2.1.1.length;let x4:DItem:=List.getD y.2.1.1 y.1.toNat zItem;let x5:Nat:=Int.toNat (IntKind.wrap IntKind.i64 (y.1-(1:Int)));let x0:Int:=x4.Id;let x2:Int:=(List.getD y.2.1.1 x5 zItem).Id;let x3:DFact:=x4.F;Zi65_4 s y→bif decide (y.1<(↑x1:Int)) then(0:Int)≤y.1∧y.1.toNat<x1∧bif !factOk x3 then Lb false (storeOk s) else bif decide (x0<(1:Int)) then Lb false (storeOk s) else bif decide (x0≥y.2.1.2.1) then Lb false (storeOk s) else bif decide (y.1>(0:Int)) then(0:Int)≤IntKind.wrap IntKind.i64 (y.1-(1:Int))∧x5<x1∧bif decide (x2≥x0) then Lb false (storeOk s) else bif idOf y.2.1.1 x3 !=x0 then Lb false (storeOk s) else Zi65_4 s (IntKind.wrap IntKind.i64 (y.1+(1:Int)),(y.2.1.1,y.2.1.2.1,()),())∧Zm65_4 s (IntKind.wrap IntKind.i64 (y.1+(1:Int)),(y.2.1.1,y.2.1.2.1,()),())<Zm65_4 s y else bif idOf y.2.1.1 x3 !=x0 then Lb false (storeOk s) else Zi65_4 s (IntKind.wrap IntKind.i64 (y.1+(1:Int)),(y.2.1.1,y.2.1.2.1,()),())∧Zm65_4 s (IntKind.wrap IntKind.i64 (y.1+(1:Int)),(y.2.1.1,y.2.1.2.1,()),())<Zm65_4 s y else Lb true (storeOk s)) (by kernel_rfl)
 dsimp only
 refine if_not (fun a1=>Lf_ff (by simp only[storeOk,a1,zbi])) (fun a1=>if_dec (fun a2=>Lf_ff ?_) (fun a2=> ?_))
 ·simp only[storeOk];rw[decide_eq_false (p:=s.Items.length≤40) (by omega),zbs,zbi]
 refine⟨⟨rfl,by omega,by omega,by intro j hj;omega⟩,?_⟩
 rintro⟨i,⟨b1,b2,⟨⟩⟩,⟨⟩⟩ ⟨hbx,h1,h2,hR⟩
 cases hbx
 simp only
 refine if_dec (fun hc=> ?_) (fun hc=> ?_)
 ·have hN:itemAt s i.toNat=false→storeOk s=false:=fun h=>by
   have hf:allI s.Items.length (itemAt s)=false:=allI_false (j:=i.toNat) (by omega) h
   simp only[storeOk,hf,zbs]
  have e1:(i-1).toNat=i.toNat-1:=by omega
  simp(disch:=omega) only[wrap_i64]
  simp only[e1]
  have hi1:i>0→0≤i-1:=fun h=>by omega
  have hlt:i.toNat<s.Items.length:=by omega
  have hlt':i.toNat-1<s.Items.length:=by omega
  have hgo:itemAt s i.toNat=true→Zi65_4 s (i+1,(s.Items,s.Next,PUnit.unit),PUnit.unit)∧Zm65_4 s (i+1,(s.Items,s.Next,PUnit.unit),PUnit.unit)<Zm65_4 s (i,(s.Items,s.Next,PUnit.unit),PUnit.unit):=fun h=>⟨⟨rfl,by omega,by omega,upto_step h1 hR h⟩,by simp only[Zm65_4];omega⟩
  have c3:decide (0<i.toNat)=decide (i>0):=decide_eq_decide.2 (by omega)
  simp only[itemAt,baseAt,c3] at hN hgo
  generalize hA:List.getD s.Items i.toNat zItem=a at*
  generalize hB:List.getD s.Items (i.toNat-1) zItem=b at*
  generalize hQ:idOf s.Items a.F=q at*
  generalize hO:factOk a.F=o at*
  refine And.intro h1 (And.intro hlt ?_)
  repeat' (first|refine Lf_ff (hN ?_)|refine hgo ?_|refine if_dec (fun h=> ?_) (fun h=> ?_)|refine if_not (fun h=> ?_) (fun h=> ?_)|refine And.intro hlt' ?_|refine And.intro (hi1 (by assumption)) ?_)
  all_goals (cases o<;>simp at* <;>omega)
 ·have hA:allI s.Items.length (itemAt s)=true:=allI_true fun j hj=>hR j (by omega)
  refine Lf_tt ?_
  simp only[storeOk,hA,a1,decide_eq_true (show s.Items.length≤40 by omega)];rfl
def Zh65:HH:=⟨_,Zo65⟩
def Zk90:Con UU where
 α:=DStore
 md:=[.ro]
 of:=o1 (oA .eStore)
 ds:=fun x=>[dA .eStore x]
 pre:=fun _=>[]
 res:=fun s=>⟨[dO (storeOk s)],true,[]⟩
 law:=l1 (lA .eStore)
def Zi90_4(s:DStore):Int×(List DItem×Int×Unit)×Unit→Prop:=fun(i,b,_)=>b=(s.Items,s.Next,())∧0≤i∧i≤s.Items.length∧∀j:Nat,(j:Int)<i→itemAtI s j=true
def Zm90_4(s:DStore):Int×(List DItem×Int×Unit)×Unit→Nat:=fun(i,b,_)=>s.Items.length-i.toNat
def Zi90_9(s:DStore):Int×Int×(Int×ByteArray×List DVal×Unit)×(List DItem×Int×Unit)×Unit→Int×Int×(Int×ByteArray×List DVal×Unit)×(List DItem×Int×Unit)×Unit→Prop:=fun(i0,k0,x0,b0,_) (i,k,x,b,_)=>i=i0∧x=x0∧b=b0∧0≤k∧k≤i∧∀j:Nat,(j:Int)<k→decide ((List.getD s.Items i.toNat zItem).F=(List.getD s.Items j zItem).F)=false
def Zm90_9(s:DStore):Int×Int×(Int×ByteArray×List DVal×Unit)×(List DItem×Int×Unit)×Unit→Nat:=fun(i,k,x,b,_)=>i.toNat-k.toNat
def Za90:Zk90.α→Nat→Option (Ann UU):=fun s=>annL [(4,annOf [.slot 20 (20,1024) (.lit (.int .i64)),.box 1 (1,1024) [.shr .eItem,.lit (.int .i64)]] (fun _=>Zi90_4 s) (Zm90_4 s)),(9,annOf [.slot 20 (20,1024) (.lit (.int .i64)),.slot 59 (59,1024) (.lit (.int .i64)),.box 4 (4,1024) [.lit (.int .i64),.lit .str,.shr .eVal],.box 1 (1,1024) [.shr .eItem,.lit (.int .i64)]] (Zi90_9 s) (Zm90_9 s))]
def Zu90:=us [Zh94,Zh163,Zh164]
theorem Zo90:Holds EE (90,Zk90):=by
 refine holds_of EE_ok func90 Zk90 (by kernel_rfl) Zu90 (us_ok _) Za90 (fun(s:DStore) hp hb=> ?_)
 have hl_s_Items:=bd_eStore (x:=s) (hb _ m0)
 clear hp hb
 apply @ve _ (let x0:Int:=(s.Items.length:Int);let x1:Int:=Option.getD none (0:Int);bif decide (x0>(40:Int)) then Lb false (storeOk s) else bif !decide ((1:Int)≤s.Next∧s.Next≤(1000000:Int)) then Lb false (storeOk s) else Zi90_4 s ((0:Int),(s.Items,s.Next,()),())∧∀(y:Int×(List DItem×Int×PUnit)×PUnit),let x8:Nat:=y.2.1.1.length;let x9:Int:=(List.getD s.Items y.1.toNat zItem).Id;let x10:DFact:=(List.getD s.Items y.1.toNat zItem).F;let x11:Nat:=Int.toNat (IntKind.wrap IntKind.i64 (y.1-(1:Int)));let x4:Int:=(List.getD y.2.1.1 x11 zItem).Id;let x7:Int:=(↑x8:Int);let x3:Int:=Option.getD (some y.1) x7;let x6:List DItem:=List.drop x1.toNat (List.take x3.toNat y.2.1.1);let x5:Nat:=x6.length;let x2:Int:=(↑x5:Int);Zi90_4 s y→bif decide (y.1<x0) then(0:Int)≤y.1∧y.1.toNat<s.Items.length∧bif !factOk x10 then Lb false (storeOk s) else bif !decide ((1:Int)≤x9∧x9≤IntKind.wrap IntKind.i64 (y.2.1.2.1-(1:Int))) then Lb false (storeOk s) else bif decide (y.1>(0:Int)) then(0:Int)≤IntKind.wrap IntKind.i64 (y.1-(1:Int))∧x11<x8∧bif decide (x9≤x4) then Lb false (storeOk s) else(0:Int)≤x1∧x1≤x3∧x3≤x7∧Zi90_9 s (y.1,(0:Int),(x9,x10.Kind,x10.Fields,()),(y.2.1.1,y.2.1.2.1,()),()) (y.1,(0:Int),(x9,x10.Kind,x10.Fields,()),(y.2.1.1,y.2.1.2.1,()),())∧∀(y_1:Int×Int×(Int×ByteArray×List DVal×PUnit)×(List DItem×Int×PUnit)×PUnit),let x12:Nat:=y_1.2.1.toNat;Zi90_9 s (y.1,(0:Int),(x9,x10.Kind,x10.Fields,()),(y.2.1.1,y.2.1.2.1,()),()) y_1→bif decide (y_1.2.1<x2) then(0:Int)≤y_1.2.1∧x12<x5∧bif decide ({Kind:=y_1.2.2.1.2.1,Fields:=y_1.2.2.1.2.2.1:DFact}=(List.getD x6 x12 zItem).F) then Lb false (storeOk s) else Zi90_9 s (y.1,(0:Int),(x9,x10.Kind,x10.Fields,()),(y.2.1.1,y.2.1.2.1,()),()) (y_1.1,IntKind.wrap IntKind.i64 (y_1.2.1+(1:Int)),(y_1.2.2.1.1,y_1.2.2.1.2.1,y_1.2.2.1.2.2.1,()),(y_1.2.2.2.1.1,y_1.2.2.2.1.2.1,()),())∧Zm90_9 s (y_1.1,IntKind.wrap IntKind.i64 (y_1.2.1+(1:Int)),(y_1.2.2.1.1,y_1.2.2.1.2.1,y_1.2.2.1.2.2.1,()),(y_1.2.2.2.1.1,y_1.2.2.2.1.2.1,()),())<Zm90_9 s y_1 else Zi90_4 s (IntKind.wrap IntKind.i64 (y_1.1+(1:Int)),(y_1.2.2.2.1.1,y_1.2.2.2.1.2.1,()),())∧Zm90_4 s (IntKind.wrap IntKind.i64 (y_1.1+(1:Int)),(y_1.2.2.2.1.1,y_1.2.2.2.1.2.1,()),())<Zm90_4 s y else(0:Int)≤x1∧x1≤x3∧x3≤x7∧Zi90_9 s (y.1,(0:Int),(x9,x10.Kind,x10.Fields,()),(y.2.1.1,y.2.1.2.1,()),()) (y.1,(0:Int),(x9,x10.Kind,x10.Fields,()),(y.2.1.1,y.2.1.2.1,()),())∧∀(y_1:Int×Int×(Int×ByteArray×List DVal×PUnit)×(List DItem×Int×PUnit)×PUnit),let x12:Nat:=y_1.2.1.toNat;Zi90_9 s (y.1,(0:Int),(x9,x10.Kind,x10.Fields,()),(y.2.1.1,y.2.1.2.1,()),()) y_1→bif decide (y_1.2.1<x2) then(0:Int)≤y_1.2.1∧x12<x5∧bif decide ({Kind:=y_1.2.2.1.2.1,Fields:=y_1.2.2.1.2.2.1:DFact}=(List.getD x6 x12 zItem).F) then Lb false (storeOk s) else Zi90_9 s (y.1,(0:Int),(x9,x10.Kind,x10.Fields,()),(y.2.1.1,y.2.1.2.1,()),()) (y_1.1,IntKind.wrap IntKind.i64 (y_1.2.1+(1:Int)),(y_1.2.2.1.1,y_1.2.2.1.2.1,y_1.2.2.1.2.2.1,()),(y_1.2.2.2.1.1,y_1.2.2.2.1.2.1,()),())∧Zm90_9 s (y_1.1,IntKind.wrap IntKind.i64 (y_1.2.1+(1:Int)),(y_1.2.2.1.1,y_1.2.2.1.2.1,y_1.2.2.1.2.2.1,()),(y_1.2.2.2.1.1,y_1.2.2.2.1.2.1,()),())<Zm90_9 s y_1 else Zi90_4 s (IntKind.wrap IntKind.i64 (y_1.1+(1:Int)),(y_1.2.2.2.1.1,y_1.2.2.2.1.2.1,()),())∧Zm90_4 s (IntKind.wrap IntKind.i64 (y_1.1+(1:Int)),(y_1.2.2.2.1.1,y_1.2.2.2.1.2.1,()),())<Zm90_4 s y else Lb true (storeOk s)) (by kernel_rfl)
 dsimp only
 have hF:(decide (1≤s.Next∧s.Next≤1000000)&&decide (s.Items.length≤40)&&allI s.Items.length (itemAtI s))=storeOk s:=by rw[store_same];rfl
 refine if_dec (fun a2=>Lf_ff ?_) (fun a2=>if_not (fun a1=>Lf_ff (by simp only[storeOk,a1,zbi])) (fun a1=> ?_))
 ·simp only[storeOk];rw[decide_eq_false (p:=s.Items.length≤40) (by omega),zbs,zbi]
 have a3:=of_decide_eq_true a1
 refine⟨⟨rfl,by omega,by omega,by intro j hj;omega⟩,?_⟩
 rintro⟨i,⟨b1,b2,⟨⟩⟩,⟨⟩⟩ ⟨hbx,h1,h2,hR⟩
 cases hbx
 simp only
 refine if_dec (fun hc=> ?_) (fun hc=> ?_)
 ·have hN:itemAtI s i.toNat=false→storeOk s=false:=fun h=>by
   have hf:allI s.Items.length (itemAtI s)=false:=allI_false (j:=i.toNat) (by omega) h
   rw[←hF,hf,zbs]
  have e1:(i-1).toNat=i.toNat-1:=by omega
  have c3:decide (0<i.toNat)=decide (i>0):=decide_eq_decide.2 (by omega)
  rw[wrap_i64 (n:=s.Next-1) (by omega) (by omega),wrap_i64 (n:=i-1) (by omega) (by omega),e1]
  have hnb:baseAt s i.toNat=false→storeOk s=false:=fun h=>hN (by simp only[itemAtI,h,zbi])
  refine⟨by omega,by omega,if_not (fun a=>Lf_ff (hnb (by simp only[baseAt,a,zbi]))) (fun a=>if_not (fun a'=>Lf_ff (hnb ?_)) (fun a'=>if_dec (fun p=>⟨by omega,by omega,if_dec (fun q=>Lf_ff (hnb ?_)) (fun q=> ?_)⟩) (fun p=> ?_)))⟩
  ·have a':=of_decide_eq_false a'
   by_cases g:1≤(List.getD s.Items i.toNat zItem).Id
   ·simp only[baseAt,decide_eq_false (show¬(List.getD s.Items i.toNat zItem).Id<s.Next by omega),zbs,zbi]
   ·simp only[baseAt,decide_eq_false g,zbs,zbi]
  ·simp only[baseAt,c3,decide_eq_true p,decide_eq_true q,zdb,zfa,zbs]
  ·have a':=of_decide_eq_true a'
   have hbase:baseAt s i.toNat=true:=by
    simp only[baseAt,a,decide_eq_true a'.1,decide_eq_true (show(List.getD s.Items i.toNat zItem).Id<s.Next by omega),decide_eq_false q,zbs,zea,zdb]
   refine⟨Int.le_refl 0,by simp only[zdf,zcj];omega,by simp only[zcj];omega,⟨rfl,rfl,rfl,by omega,by omega,by intro j hj;omega⟩,?_⟩
   rintro⟨i',k,⟨x1,x2,x3,⟨⟩⟩,⟨y1,y2,⟨⟩⟩,⟨⟩⟩ ⟨rfl,hx,hy,k1,k2,kR⟩
   cases hx
   cases hy
   simp only[zdf,zcj,show Int.toNat 0=0 from rfl,List.drop_zero]
   have etl:(List.take i'.toNat s.Items).length=i'.toNat:=by rw[zaw];omega
   refine if_dec (fun hk=> ?_) (fun hk=> ?_)
   ·rw[etl] at hk
    rw[getD_take s.Items zItem (show k.toNat<i'.toNat by omega),etl,wrap_i64 (n:=k+1) (by omega) (by omega)]
    refine⟨k1,by omega,if_dec (fun e=>Lf_ff (hN ?_)) (fun e=>⟨⟨rfl,rfl,rfl,by omega,by omega,upto_no (p:=fun j=>decide ((List.getD s.Items i'.toNat zItem).F=(List.getD s.Items j zItem).F)) k1 kR (decide_eq_false e)⟩,by simp only[Zm90_9];omega⟩)⟩
    have ha:(anyI i'.toNat fun k=>decide ((List.getD s.Items i'.toNat zItem).F=(List.getD s.Items k zItem).F))=true:=anyI_true (j:=k.toNat) (by omega) (decide_eq_true e)
    simp only[itemAtI,ha,zfa,zbs]
   ·rw[etl] at hk
    rw[wrap_i64 (n:=i'+1) (by omega) (by omega)]
    refine⟨⟨rfl,by omega,by omega,upto_step h1 hR ?_⟩,by simp only[Zm90_4];omega⟩
    have ha:(anyI i'.toNat fun k=>decide ((List.getD s.Items i'.toNat zItem).F=(List.getD s.Items k zItem).F))=false:=anyI_false fun j hj=>kR j (by omega)
    simp only[itemAtI,ha,hbase,zea,zdb]
  ·have a':=of_decide_eq_true a'
   have hbase:baseAt s i.toNat=true:=by
    simp only[baseAt,c3,a,decide_eq_true a'.1,decide_eq_true (show(List.getD s.Items i.toNat zItem).Id<s.Next by omega),decide_eq_false p,zbi,zea,zdb]
   refine⟨Int.le_refl 0,by simp only[zdf,zcj];omega,by simp only[zcj];omega,⟨rfl,rfl,rfl,by omega,by omega,by intro j hj;omega⟩,?_⟩
   rintro⟨i',k,⟨x1,x2,x3,⟨⟩⟩,⟨y1,y2,⟨⟩⟩,⟨⟩⟩ ⟨rfl,hx,hy,k1,k2,kR⟩
   cases hx
   cases hy
   simp only[zdf,zcj,show Int.toNat 0=0 from rfl,List.drop_zero]
   have etl:(List.take i'.toNat s.Items).length=i'.toNat:=by rw[zaw];omega
   refine if_dec (fun hk=> ?_) (fun hk=> ?_)
   ·rw[etl] at hk
    rw[getD_take s.Items zItem (show k.toNat<i'.toNat by omega),etl,wrap_i64 (n:=k+1) (by omega) (by omega)]
    refine⟨k1,by omega,if_dec (fun e=>Lf_ff (hN ?_)) (fun e=>⟨⟨rfl,rfl,rfl,by omega,by omega,upto_no (p:=fun j=>decide ((List.getD s.Items i'.toNat zItem).F=(List.getD s.Items j zItem).F)) k1 kR (decide_eq_false e)⟩,by simp only[Zm90_9];omega⟩)⟩
    have ha:(anyI i'.toNat fun k=>decide ((List.getD s.Items i'.toNat zItem).F=(List.getD s.Items k zItem).F))=true:=anyI_true (j:=k.toNat) (by omega) (decide_eq_true e)
    simp only[itemAtI,ha,zfa,zbs]
   ·rw[etl] at hk
    rw[wrap_i64 (n:=i'+1) (by omega) (by omega)]
    refine⟨⟨rfl,by omega,by omega,upto_step h1 hR ?_⟩,by simp only[Zm90_4];omega⟩
    have ha:(anyI i'.toNat fun k=>decide ((List.getD s.Items i'.toNat zItem).F=(List.getD s.Items k zItem).F))=false:=anyI_false fun j hj=>kR j (by omega)
    simp only[itemAtI,ha,hbase,zea,zdb]
 ·have hA:allI s.Items.length (itemAtI s)=true:=allI_true fun j hj=>hR j (by omega)
  refine Lf_tt ?_
  rw[←hF,hA,a1,decide_eq_true (show s.Items.length≤40 by omega)];rfl
def Zh90:HH:=⟨_,Zo90⟩
def Zk128:Con UU where
 α:=DItem×Int
 md:=[.ro,.ro]
 of:=oC (oA .lItem) (o1 oI)
 ds:=fun x=>[dA .lItem x.1,dI x.2]
 pre:=fun(a,left)=>[0≤left]
 res:=fun(a,left)=>⟨[dI (szr left (sizeItem a))],true,[]⟩
 law:=lC (lA .lItem) (l1 lI)
def Za128:Zk128.α→Nat→Option (Ann UU):=fun(a,left)=>annL []
def Zu128:=us [Zh131]
theorem Zo128:Holds EE (128,Zk128):=by
 refine holds_of EE_ok func128 Zk128 (by kernel_rfl) Zu128 (us_ok _) Za128 (fun x hp hb=> ?_)
 obtain⟨a,left⟩:=x
 have hz0:=bd_lItem (x:=a) (hb _ m0)
 have hl_a_F_Kind:=hz0.1
 have hl_a_F_Fields:=hz0.2
 have hl_left:=bdI (n:=left) (hb _ m1)
 have hp0:0≤left:=hp _ m0
 clear hp hb
 apply @ve _ ((0:Int)≤left∧bif decide (szr left (sizeFact a.F)<(0:Int)) then Li (-1:Int) (szr left (sizeItem a)) else Li (szr left (sizeFact a.F)) (szr left (sizeItem a))) (by kernel_rfl)
 refine⟨by omega,if_cond (fun h=>Lf_i (szr_bad' ?_)) (fun h=> ?_)⟩
 ·have h:=szr_neg h;simp only[sizeItem];omega
 obtain⟨e0,h0⟩:=szr_pos h
 rw[e0]
 exact Lf_i (by rw[←szr_ok' (by simp only[sizeItem];omega)];simp only[sizeItem];try omega)
def Zh128:HH:=⟨_,Zo128⟩
def Zk154:Con UU where
 α:=DItem
 md:=[.ro]
 of:=o1 (oA .lItem)
 ds:=fun x=>[dA .lItem x]
 pre:=fun a=>[sizeItem a≤4294967296]
 res:=fun a=>⟨[dA .eItem a],true,[]⟩
 law:=l1 (lA .lItem)
def Za154:Zk154.α→Nat→Option (Ann UU):=fun a=>annL []
def Zu154:=us [Zh157]
theorem Zo154:Holds EE (154,Zk154):=by
 refine holds_of EE_ok func154 Zk154 (by kernel_rfl) Zu154 (us_ok _) Za154 (fun(a:DItem) hp hb=> ?_)
 have hz0:=bd_lItem (x:=a) (hb _ m0)
 have hl_a_F_Kind:=hz0.1
 have hl_a_F_Fields:=hz0.2
 have hp0:sizeItem a≤4294967296:=hp _ m0
 clear hp hb
 apply @ve _ (sizeFact a.F≤(4294967296:Nat)∧Lf [DV.agg [CI a.Id,CS a.F.Kind,CL .eVal a.F.Fields]] [DV.agg [CI a.Id,CS a.F.Kind,CL .eVal a.F.Fields]]) (by kernel_rfl)
 simp only[sizeItem] at hp0
 repeat' (first|exact Lf_rfl _|(refine And.intro (by omega) ?_))
def Zh154:HH:=⟨_,Zo154⟩
def Zk182:Con UU where
 α:=DItem×DItem
 md:=[.ro,.ro]
 of:=oC (oA .eItem) (o1 (oA .eItem))
 ds:=fun x=>[dA .eItem x.1,dA .eItem x.2]
 pre:=fun _=>[]
 res:=fun(a,b)=>⟨[dO (decide (a=b))],true,[]⟩
 law:=lC (lA .eItem) (l1 (lA .eItem))
def Za182:Zk182.α→Nat→Option (Ann UU):=fun(a,b)=>annL []
def Zu182:=us [Zh185]
theorem Zo182:Holds EE (182,Zk182):=by
 refine holds_of EE_ok func182 Zk182 (by kernel_rfl) Zu182 (us_ok _) Za182 (fun x hp hb=> ?_)
 obtain⟨a,b⟩:=x
 have hz0:=bd_eItem (x:=a) (hb _ m0)
 have hl_a_F_Kind:=hz0.1
 have hl_a_F_Fields:=hz0.2
 have hz1:=bd_eItem (x:=b) (hb _ m1)
 have hl_b_F_Kind:=hz1.1
 have hl_b_F_Fields:=hz1.2
 clear hp hb
 apply @ve _ (bif a.Id !=b.Id then Lb false (decide (a=b)) else bif !decide (a.F=b.F) then Lb false (decide (a=b)) else Lb true (decide (a=b))) (by kernel_rfl)
 obtain⟨aId,aF⟩:=a
 obtain⟨bId,bF⟩:=b
 repeat' (apply if_cond<;>intro _)
 all_goals (first|apply Lf_t|apply Lf_f)<;>simp_all
def Zh182:HH:=⟨_,Zo182⟩
def Zk54:Con UU where
 α:=(List DItem)×Int
 md:=[.ro,.ro]
 of:=oC (oL .lItem) (o1 oI)
 ds:=fun x=>[dL .lItem x.1,dI x.2]
 pre:=fun(a,left)=>[0≤left]
 res:=fun(a,left)=>⟨[dI (szr left (sizeItemS a))],true,[]⟩
 law:=lC (lL .lItem) (l1 lI)
def Zi54_5(a:(List DItem))(left:Int):Int×Int×Unit→Prop:=szI sizeItem a (sizeItemS a) left
def Zm54_5(a:(List DItem))(left:Int):Int×Int×Unit→Nat:=rM2 a
def Za54:Zk54.α→Nat→Option (Ann UU):=fun(a,left)=>annL [(5,annOf [.slot 1 (1,1024) (.lit (.int .i64)),.slot 5 (5,1024) (.lit (.int .i64))] (fun _=>Zi54_5 a left) (Zm54_5 a left))]
def Zu54:=us [Zh128]
theorem Zo54:Holds EE (54,Zk54):=by
 refine holds_of EE_ok func54 Zk54 (by kernel_rfl) Zu54 (us_ok _) Za54 (fun x hp hb=> ?_)
 obtain⟨a,left⟩:=x
 have hl_a:a.length≤9223372036854775807:=bdL (hb _ m0)
 have hl_left:=bdI (n:=left) (hb _ m1)
 have hp0:0≤left:=hp _ m0
 clear hp hb
 apply @ve _ (szV sizeItem zItem a (sizeItemS a) left) (by kernel_rfl)
 exact szV_ok rfl hp0 hl_left hl_a
def Zh54:HH:=⟨_,Zo54⟩
def Zk79:Con UU where
 α:=(List DItem)
 md:=[.ro]
 of:=o1 (oL .lItem)
 ds:=fun x=>[dL .lItem x]
 pre:=fun a=>[sizeItemS a≤4294967296]
 res:=fun a=>⟨[dL .eItem a],true,[]⟩
 law:=l1 (lL .lItem)
def Zi79_3(a:(List DItem)):List DItem×Int×Unit→Prop:=toI zItem a
def Zm79_3(a:(List DItem)):List DItem×Int×Unit→Nat:=rM2 a
def Za79:Zk79.α→Nat→Option (Ann UU):=fun a=>annL [(3,annOf [.slot 3 (3,1024) (.own .eItem true),.slot 4 (4,1024) (.lit (.int .i64))] (fun _=>Zi79_3 a) (Zm79_3 a))]
def Zu79:=us [Zh154]
theorem Zo79:Holds EE (79,Zk79):=by
 refine holds_of EE_ok func79 Zk79 (by kernel_rfl) Zu79 (us_ok _) Za79 (fun(a:(List DItem)) hp hb=> ?_)
 have hl_a:a.length≤9223372036854775807:=bdL (hb _ m0)
 have hp0:sizeItemS a≤4294967296:=hp _ m0
 clear hp hb
 apply @ve _ (toV sizeItem zItem a fun y=>Lf [.one (.sl .eItem y)] [.one (.sl .eItem a)]) (by kernel_rfl)
 exact toV_ok hp0 (Lf_rfl _)
def Zh79:HH:=⟨_,Zo79⟩
def Zk107:Con UU where
 α:=(List DItem)×(List DItem)
 md:=[.ro,.ro]
 of:=oC (oL .eItem) (o1 (oL .eItem))
 ds:=fun x=>[dL .eItem x.1,dL .eItem x.2]
 pre:=fun _=>[]
 res:=fun(a,b)=>⟨[dO (decide (a=b))],true,[]⟩
 law:=lC (lL .eItem) (l1 (lL .eItem))
def Zi107_4(a:(List DItem))(b:(List DItem)):Int×Unit→Prop:=eqI a b
def Zm107_4(a:(List DItem))(b:(List DItem)):Int×Unit→Nat:=rM1 a
def Za107:Zk107.α→Nat→Option (Ann UU):=fun(a,b)=>annL [(4,annOf [.slot 5 (5,1024) (.lit (.int .i64))] (fun _=>Zi107_4 a b) (Zm107_4 a b))]
def Zu107:=us [Zh182]
theorem Zo107:Holds EE (107,Zk107):=by
 refine holds_of EE_ok func107 Zk107 (by kernel_rfl) Zu107 (us_ok _) Za107 (fun x hp hb=> ?_)
 obtain⟨a,b⟩:=x
 have hl_a:a.length≤9223372036854775807:=bdL (hb _ m0)
 have hl_b:b.length≤9223372036854775807:=bdL (hb _ m1)
 clear hp hb
 apply @ve _ (eqV zItem a b) (by kernel_rfl)
 exact eqV_ok hl_a
def Zh107:HH:=⟨_,Zo107⟩
def Zk117:Con UU where
 α:=(List DItem)×Int
 md:=[.wr,.ro]
 of:=oC (oL .eItem) (o1 oI)
 ds:=fun x=>[dL .eItem x.1,dI x.2]
 pre:=fun(a,k)=>[0≤k,k+cntItemS a≤4611686018427387904]
 res:=fun(a,k)=>⟨[dI (k+cntItemS a)],true,[dL .eItem (markItemS a k)]⟩
 law:=lC (lL .eItem) (l1 lI)
def Zi117_2(a:(List DItem))(k:Int):List DItem×Int×Int×Unit→Prop:=fun(row,kk,i,_)=>0≤i∧i≤a.length∧row=(mkS markItem cntItem a k).take i.toNat++a.drop i.toNat∧kk=k+ctS cntItem (a.take i.toNat)
def Zm117_2(a:(List DItem))(k:Int):List DItem×Int×Int×Unit→Nat:=fun(row,kk,i,_)=>a.length-i.toNat
def Za117:Zk117.α→Nat→Option (Ann UU):=fun(a,k)=>annL [(2,annOf [.slot 0 (2000000,0) (.own .eItem true),.slot 1 (1,1024) (.lit (.int .i64)),.slot 5 (5,1024) (.lit (.int .i64))] (fun _=>Zi117_2 a k) (Zm117_2 a k))]
def Zu117:=us [Zh113,Zh120]
theorem Zo117:Holds EE (117,Zk117):=by
 refine holds_of EE_ok func117 Zk117 (by kernel_rfl) Zu117 (us_ok _) Za117 (fun x hp hb=> ?_)
 obtain⟨a,k⟩:=x
 have hl_a:a.length≤9223372036854775807:=bdL (hb _ m0)
 have hl_k:=bdI (n:=k) (hb _ m1)
 have hp0:0≤k:=hp _ m0
 have hp1:k+cntItemS a≤4611686018427387904:=hp _ m1
 clear hp hb
 apply @ve _ (Zi117_2 a k (a,k,(0:Int),())∧∀(y:List DItem×Int×Int×PUnit),let x1:Nat:=y.2.2.1.toNat;let x3:Int:=IntKind.wrap IntKind.i64 (y.2.1+(1:Int));let x4:List DItem:=List.modify y.1 x1 fun(x:DItem)=>{Id:=y.2.1,F:=x.F:DItem};let x0:List DItem:=List.modify x4 x1 fun(x:DItem)=>{Id:=x.Id,F:={Kind:=markText x3,Fields:=x.F.Fields:DFact}:DItem};let x2:Int:=IntKind.wrap IntKind.i64 (x3+(1:Int));let x5:Int:=x2+(↑(cntValS (List.getD x0 x1 zItem).F.Fields):Int);Zi117_2 a k y→bif decide (y.2.2.1<(y.1.length:Int)) then(0:Int)≤y.2.2.1∧x1<y.1.length∧x1<y.1.length∧x3≤(4611686018427387903:Int)∧(0:Int)≤y.2.2.1∧x1<x4.length∧x1<x4.length∧(0:Int)≤y.2.2.1∧x1<x0.length∧x1<x0.length∧x1<x0.length∧(0:Int)≤x2∧x5≤(4611686018427387904:Int)∧Zi117_2 a k (List.modify x0 x1 fun(x:DItem)=>{Id:=x.Id,F:={Kind:=x.F.Kind,Fields:=markValS (List.getD x0 x1 zItem).F.Fields x2:DFact}:DItem},x5,IntKind.wrap IntKind.i64 (y.2.2.1+(1:Int)),())∧Zm117_2 a k (List.modify x0 x1 fun(x:DItem)=>{Id:=x.Id,F:={Kind:=x.F.Kind,Fields:=markValS (List.getD x0 x1 zItem).F.Fields x2:DFact}:DItem},x5,IntKind.wrap IntKind.i64 (y.2.2.1+(1:Int)),())<Zm117_2 a k y else asD [VI y.2.1]=asD [VI (k+(↑(cntItemS a):Int))]∧asD [VL .eItem y.1]=asD [VL .eItem (markItemS a k)]) (by kernel_rfl)
 dsimp only
 refine⟨⟨by omega,by omega,by simp,by simp[ctS]⟩,?_⟩
 rintro⟨row,kk,i,⟨⟩⟩ ⟨h1,h2,rfl,rfl⟩
 simp only
 have hl:=mk_rl markItem cntItem a k h1 h2
 refine if_cond (fun hc=> ?_) (fun hc=> ?_)
 ·have hc:i<a.length:=by have hc:=of_decide_eq_true hc;omega
  have hct:=ctS_take cntItem a zItem h1 hc
  have hle:=ctS_take_le cntItem a (i+1).toNat
  have hg:=mk_getD _ a zItem (mk_tl markItem cntItem a k h1 h2) h1 hc
  have hM:=fun F hF=>mkS_mod markItem cntItem a zItem k (i:=i) F h1 hc hF
  have hq:(cntItemS a:Int)=ctS cntItem a:=rfl
  generalize List.getD a i.toNat zItem=x at*
  generalize hkk:k+(ctS cntItem (a.take i.toNat):Int)=kk at*
  generalize List.take i.toNat (mkS markItem cntItem a k)++List.drop i.toNat a=R at*
  simp only[cntItem] at hct
  simp(disch:=first|omega|(simp only[zbf];omega)) only[zbf,wrap_i64,getD_modify,modify_modify,hg,hl]
  repeat' (first|refine And.intro (by omega) ?_|fail)
  exact⟨⟨by omega,by omega,hM _ (by first|rfl|(simp only[markItem,markBool];rw[zbp (by omega)];rfl)),by omega⟩,by simp only[Zm117_2];omega⟩
 ·have hc:a.length≤i:=by have hc:=of_decide_eq_false hc;omega
  rw[mk_done markItem cntItem a k hc,ct_done cntItem a hc]
  exact⟨rfl,rfl⟩
def Zh117:HH:=⟨_,Zo117⟩
def Zk121:Con UU where
 α:=(List DItem)×Int
 md:=[.ro,.ro]
 of:=oC (oL .eItem) (o1 oI)
 ds:=fun x=>[dL .eItem x.1,dI x.2]
 pre:=fun(a,k)=>[0≤k,k+cntItemS a≤4611686018427387904]
 res:=fun(a,k)=>⟨[dI (if markItemS a k=a then k+cntItemS a else-1)],true,[]⟩
 law:=lC (lL .eItem) (l1 lI)
def Zi121_2(a:(List DItem))(k:Int):Int×Int×Unit→Prop:=fun(kk,i,_)=>0≤i∧i≤a.length∧kk=k+ctS cntItem (a.take i.toNat)∧(mkS markItem cntItem (a.drop i.toNat) kk=a.drop i.toNat↔mkS markItem cntItem a k=a)
def Zm121_2(a:(List DItem))(k:Int):Int×Int×Unit→Nat:=fun(kk,i,_)=>a.length-i.toNat
def Za121:Zk121.α→Nat→Option (Ann UU):=fun(a,k)=>annL [(2,annOf [.slot 1 (1,1024) (.lit (.int .i64)),.slot 5 (5,1024) (.lit (.int .i64))] (fun _=>Zi121_2 a k) (Zm121_2 a k))]
def Zu121:=us [Zh113,Zh124]
theorem Zo121:Holds EE (121,Zk121):=by
 refine holds_of EE_ok func121 Zk121 (by kernel_rfl) Zu121 (us_ok _) Za121 (fun x hp hb=> ?_)
 obtain⟨a,k⟩:=x
 have hl_a:a.length≤9223372036854775807:=bdL (hb _ m0)
 have hl_k:=bdI (n:=k) (hb _ m1)
 have hp0:0≤k:=hp _ m0
 have hp1:k+cntItemS a≤4611686018427387904:=hp _ m1
 clear hp hb
 apply @ve _ (Zi121_2 a k (k,(0:Int),())∧∀(y:Int×Int×PUnit),let x4:Nat:=y.2.1.toNat;let x6:Int:=IntKind.wrap IntKind.i64 (y.1+(1:Int));let x3:DItem:=List.getD a x4 zItem;let x5:Int:=IntKind.wrap IntKind.i64 (x6+(1:Int));let x2:DFact:=x3.F;let x1:List DVal:=x2.Fields;let x0:Int:=if markValS x1 x5=x1 then x5+(↑(cntValS x1):Int) else(-1:Int);Zi121_2 a k y→bif decide (y.2.1<(a.length:Int)) then(0:Int)≤y.2.1∧x4<a.length∧bif x3.Id !=y.1 then Li (-1:Int) (if markItemS a k=a then k+(↑(cntItemS a):Int) else(-1:Int)) else(0:Int)≤y.2.1∧x4<a.length∧x6≤(4611686018427387903:Int)∧bif !ByteArray.toList x2.Kind==ByteArray.toList (markText x6) then Li (-1:Int) (if markItemS a k=a then k+(↑(cntItemS a):Int) else(-1:Int)) else(0:Int)≤y.2.1∧x4<a.length∧(0:Int)≤x5∧x5+(↑(cntValS x1):Int)≤(4611686018427387904:Int)∧bif decide (x0<(0:Int)) then Li (-1:Int) (if markItemS a k=a then k+(↑(cntItemS a):Int) else(-1:Int)) else Zi121_2 a k (x0,IntKind.wrap IntKind.i64 (y.2.1+(1:Int)),())∧Zm121_2 a k (x0,IntKind.wrap IntKind.i64 (y.2.1+(1:Int)),())<Zm121_2 a k y else Li y.1 (if markItemS a k=a then k+(↑(cntItemS a):Int) else(-1:Int))) (by kernel_rfl)
 dsimp only
 refine⟨⟨by omega,by omega,by simp[ctS],by simp⟩,?_⟩
 rintro⟨kk,i,⟨⟩⟩ ⟨h1,h2,hkk,hR⟩
 simp only
 simp only[markItemS]
 refine if_cond (fun hc=> ?_) (fun hc=> ?_)
 ·have hc:i<a.length:=by have hc:=of_decide_eq_true hc;omega
  have hct:=ctS_take cntItem a zItem h1 hc
  have hle:=ctS_take_le cntItem a (i+1).toNat
  have hq:(cntItemS a:Int)=ctS cntItem a:=rfl
  rw[drop_step a zItem h1 hc] at hR
  generalize List.getD a i.toNat zItem=x at*
  simp only[mkS,zdd] at hR
  have e:kk+(cntItem x:Int)=kk+1+1+(cntValS x.F.Fields:Int):=by first|(simp only[cntItem];done)|(simp only[cntItem];omega)
  rw[e] at hR
  simp only[markItem,cntItem] at hR hct
  simp(disch:=omega) only[wrap_i64,bne_int,toList_beq]
  obtain⟨x_Id,⟨x_F_Kind,x_F_Fields⟩⟩:=x
  simp only[DFact.mk.injEq,DItem.mk.injEq] at*
  repeat' (first|refine And.intro (by omega) ?_|fail)
  refine if_cond (fun h=>Lf_no (fun hh=> ?_)) (fun h=> ?_)
  ·have hh:=hR.2 hh;simp_all
  have h:x_Id=kk:=by simpa using h
  subst x_Id
  repeat' (first|refine And.intro (by omega) ?_|fail)
  refine if_cond (fun h=>Lf_no (fun hh=> ?_)) (fun h=> ?_)
  ·have hh:=hR.2 hh;simp_all
  have h:x_F_Kind=markText (kk+1):=by simpa using h
  subst x_F_Kind
  repeat' (first|refine And.intro (by omega) ?_|fail)
  by_cases hm:markValS x_F_Fields (kk+1+1)=x_F_Fields
  rotate_left
  ·simp only[if_neg hm];rw[cond_yes (by decide)]
   exact Lf_no (fun hh=>hm (by have hh:=hR.2 hh;simp_all))
  simp only[if_pos hm]
  refine if_cond (fun h=>absurd (of_decide_eq_true h) (by omega)) (fun h=> ?_)
  simp only[hm] at hR
  clear hm
  exact⟨⟨by omega,by omega,by omega,by simpa using hR⟩,by simp only[Zm121_2];omega⟩
 ·have hc:a.length≤i:=by have hc:=of_decide_eq_false hc;omega
  rw[drop_end a hc] at hR
  exact Lf_yes (hR.1 rfl) (by rw[hkk,ct_done _ _ hc];rfl)
def Zh121:HH:=⟨_,Zo121⟩
def Zk18:Con UU where
 α:=DStore×Int
 md:=[.ro,.ro]
 of:=oC (oA .lStore) (o1 oI)
 ds:=fun x=>[dA .lStore x.1,dI x.2]
 pre:=fun(a,left)=>[0≤left]
 res:=fun(a,left)=>⟨[dI (szr left (sizeStore a))],true,[]⟩
 law:=lC (lA .lStore) (l1 lI)
def Za18:Zk18.α→Nat→Option (Ann UU):=fun(a,left)=>annL []
def Zu18:=us [Zh54]
theorem Zo18:Holds EE (18,Zk18):=by
 refine holds_of EE_ok func18 Zk18 (by kernel_rfl) Zu18 (us_ok _) Za18 (fun x hp hb=> ?_)
 obtain⟨a,left⟩:=x
 have hl_a_Items:=bd_lStore (x:=a) (hb _ m0)
 have hl_left:=bdI (n:=left) (hb _ m1)
 have hp0:0≤left:=hp _ m0
 clear hp hb
 apply @ve _ ((0:Int)≤left∧bif decide (szr left (sizeItemS a.Items)<(0:Int)) then Li (-1:Int) (szr left (sizeStore a)) else Li (szr left (sizeItemS a.Items)) (szr left (sizeStore a))) (by kernel_rfl)
 refine⟨by omega,if_cond (fun h=>Lf_i (szr_bad' ?_)) (fun h=> ?_)⟩
 ·have h:=szr_neg h;simp only[sizeStore];omega
 obtain⟨e0,h0⟩:=szr_pos h
 rw[e0]
 exact Lf_i (by rw[←szr_ok' (by simp only[sizeStore];omega)];simp only[sizeStore];try omega)
def Zh18:HH:=⟨_,Zo18⟩
def Zk28:Con UU where
 α:=DStore
 md:=[.ro]
 of:=o1 (oA .lStore)
 ds:=fun x=>[dA .lStore x]
 pre:=fun a=>[sizeStore a≤4294967296]
 res:=fun a=>⟨[dA .eStore a],true,[]⟩
 law:=l1 (lA .lStore)
def Za28:Zk28.α→Nat→Option (Ann UU):=fun a=>annL []
def Zu28:=us [Zh79]
theorem Zo28:Holds EE (28,Zk28):=by
 refine holds_of EE_ok func28 Zk28 (by kernel_rfl) Zu28 (us_ok _) Za28 (fun(a:DStore) hp hb=> ?_)
 have hl_a_Items:=bd_lStore (x:=a) (hb _ m0)
 have hp0:sizeStore a≤4294967296:=hp _ m0
 clear hp hb
 apply @ve _ (sizeItemS a.Items≤(4294967296:Nat)∧Lf [DV.agg [CL .eItem a.Items,CI a.Next]] [DV.agg [CL .eItem a.Items,CI a.Next]]) (by kernel_rfl)
 simp only[sizeStore] at hp0
 repeat' (first|exact Lf_rfl _|(refine And.intro (by omega) ?_))
def Zh28:HH:=⟨_,Zo28⟩
def Zk36:Con UU where
 α:=DStore×DStore
 md:=[.ro,.ro]
 of:=oC (oA .eStore) (o1 (oA .eStore))
 ds:=fun x=>[dA .eStore x.1,dA .eStore x.2]
 pre:=fun _=>[]
 res:=fun(a,b)=>⟨[dO (decide (a=b))],true,[]⟩
 law:=lC (lA .eStore) (l1 (lA .eStore))
def Za36:Zk36.α→Nat→Option (Ann UU):=fun(a,b)=>annL []
def Zu36:=us [Zh107]
theorem Zo36:Holds EE (36,Zk36):=by
 refine holds_of EE_ok func36 Zk36 (by kernel_rfl) Zu36 (us_ok _) Za36 (fun x hp hb=> ?_)
 obtain⟨a,b⟩:=x
 have hl_a_Items:=bd_eStore (x:=a) (hb _ m0)
 have hl_b_Items:=bd_eStore (x:=b) (hb _ m1)
 clear hp hb
 apply @ve _ (bif !decide (a.Items=b.Items) then Lb false (decide (a=b)) else bif a.Next !=b.Next then Lb false (decide (a=b)) else Lb true (decide (a=b))) (by kernel_rfl)
 obtain⟨aItems,aNext⟩:=a
 obtain⟨bItems,bNext⟩:=b
 repeat' (apply if_cond<;>intro _)
 all_goals (first|apply Lf_t|apply Lf_f)<;>simp_all
def Zh36:HH:=⟨_,Zo36⟩
def Zk43:Con UU where
 α:=DStore×Int
 md:=[.wr,.ro]
 of:=oC (oA .eStore) (o1 oI)
 ds:=fun x=>[dA .eStore x.1,dI x.2]
 pre:=fun(a,k)=>[0≤k,k+ctStore a≤4611686018427387904]
 res:=fun(a,k)=>⟨[dI (k+ctStore a)],true,[dA .eStore (mkStore a k)]⟩
 law:=lC (lA .eStore) (l1 lI)
def Za43:Zk43.α→Nat→Option (Ann UU):=fun(a,k)=>annL []
def Zu43:=us [Zh117]
theorem Zo43:Holds EE (43,Zk43):=by
 refine holds_of EE_ok func43 Zk43 (by kernel_rfl) Zu43 (us_ok _) Za43 (fun x hp hb=> ?_)
 obtain⟨a,k⟩:=x
 have hl_a_Items:=bd_eStore (x:=a) (hb _ m0)
 have hl_k:=bdI (n:=k) (hb _ m1)
 have hp0:0≤k:=hp _ m0
 have hp1:k+ctStore a≤4611686018427387904:=hp _ m1
 clear hp hb
 apply @ve _ ((0:Int)≤k∧k+(↑(cntItemS a.Items):Int)≤(4611686018427387904:Int)∧asD [VI (k+(↑(cntItemS a.Items):Int))]=asD [VI (k+(↑(ctStore a):Int))]∧asD [DV.agg [CL .eItem (markItemS a.Items k),CI a.Next]]=asD [DV.agg [CL .eItem (mkStore a k).Items,CI ((mkStore a k).Next)]]) (by kernel_rfl)
 simp only[ctStore] at hp1
 repeat' (first|refine And.intro (by omega) ?_|fail)
 exact⟨by simp only[ctStore,Int.natCast_add,Int.add_assoc],rfl⟩
def Zh43:HH:=⟨_,Zo43⟩
def Zk48:Con UU where
 α:=DStore×Int
 md:=[.ro,.ro]
 of:=oC (oA .eStore) (o1 oI)
 ds:=fun x=>[dA .eStore x.1,dI x.2]
 pre:=fun(a,k)=>[0≤k,k+ctStore a≤4611686018427387904]
 res:=fun(a,k)=>⟨[dI (if mkStore a k=a then k+ctStore a else-1)],true,[]⟩
 law:=lC (lA .eStore) (l1 lI)
def Za48:Zk48.α→Nat→Option (Ann UU):=fun(a,k)=>annL []
def Zu48:=us [Zh121]
theorem Zo48:Holds EE (48,Zk48):=by
 refine holds_of EE_ok func48 Zk48 (by kernel_rfl) Zu48 (us_ok _) Za48 (fun x hp hb=> ?_)
 obtain⟨a,k⟩:=x
 have hl_a_Items:=bd_eStore (x:=a) (hb _ m0)
 have hl_k:=bdI (n:=k) (hb _ m1)
 have hp0:0≤k:=hp _ m0
 have hp1:k+ctStore a≤4611686018427387904:=hp _ m1
 clear hp hb
 apply @ve _ (let x0:Int:=if markItemS a.Items k=a.Items then k+(↑(cntItemS a.Items):Int) else(-1:Int);(0:Int)≤k∧k+(↑(cntItemS a.Items):Int)≤(4611686018427387904:Int)∧bif decide (x0<(0:Int)) then Li (-1:Int) (if mkStore a k=a then k+(↑(ctStore a):Int) else(-1:Int)) else Li x0 (if mkStore a k=a then k+(↑(ctStore a):Int) else(-1:Int))) (by kernel_rfl)
 dsimp only
 simp only[ctStore] at hp1
 repeat' (first|refine And.intro (by omega) ?_|fail)
 by_cases hm1:markItemS a.Items (k)=a.Items
 rotate_left
 ·simp only[if_neg hm1];rw[cond_yes (by decide)]
  exact Lf_no (fun hh=>hm1 (congrArg (fun t:DStore=>t.Items) hh))
 simp only[if_pos hm1]
 refine if_cond (fun h=>absurd (of_decide_eq_true h) (by omega)) (fun h=> ?_)
 exact Lf_yes (by simp only[mkStore,hm1]) (by simp only[ctStore];try omega)
def Zh48:HH:=⟨_,Zo48⟩
def Zk244:Con UU where
 α:=DArg×Int
 md:=[.ro,.ro]
 of:=oC (oA .lArg) (o1 oI)
 ds:=fun x=>[dA .lArg x.1,dI x.2]
 pre:=fun(a,left)=>[0≤left]
 res:=fun(a,left)=>⟨[dI (szr left (sizeArg a))],true,[]⟩
 law:=lC (lA .lArg) (l1 lI)
def Za244:Zk244.α→Nat→Option (Ann UU):=fun(a,left)=>annL []
def Zu244:=us [Zh6]
theorem Zo244:Holds EE (244,Zk244):=by
 refine holds_of EE_ok func244 Zk244 (by kernel_rfl) Zu244 (us_ok _) Za244 (fun x hp hb=> ?_)
 obtain⟨a,left⟩:=x
 have hz0:=bd_lArg (x:=a) (hb _ m0)
 have hl_a_S:=hz0.1
 have hl_a_V_S:=hz0.2
 have hl_left:=bdI (n:=left) (hb _ m1)
 have hp0:0≤left:=hp _ m0
 clear hp hb
 apply @ve _ (let x0:Int:=IntKind.wrap IntKind.i64 (left-(↑(ByteArray.size a.S):Int));bif decide (x0<(0:Int)) then Li (-1:Int) (szr left (sizeArg a)) else(0:Int)≤x0∧bif decide (szr x0 (sizeVal a.V)<(0:Int)) then Li (-1:Int) (szr left (sizeArg a)) else Li (szr x0 (sizeVal a.V)) (szr left (sizeArg a))) (by kernel_rfl)
 dsimp only
 rw[wrap_i64 (by omega) (by omega)]
 refine if_cond (fun h=>Lf_i (szr_bad' ?_)) (fun h=> ?_)
 ·have h:=of_decide_eq_true h;simp only[sizeArg];omega
 have h0:=of_decide_eq_false h
 refine⟨by omega,if_cond (fun h=>Lf_i (szr_bad' ?_)) (fun h=> ?_)⟩
 ·have h:=szr_neg h;simp only[sizeArg];omega
 obtain⟨e1,h1⟩:=szr_pos h
 rw[e1]
 exact Lf_i (by rw[←szr_ok' (by simp only[sizeArg];omega)];simp only[sizeArg];try omega)
def Zh244:HH:=⟨_,Zo244⟩
def Zk257:Con UU where
 α:=DArg
 md:=[.ro]
 of:=o1 (oA .lArg)
 ds:=fun x=>[dA .lArg x]
 pre:=fun a=>[sizeArg a≤4294967296]
 res:=fun a=>⟨[dA .eArg a],true,[]⟩
 law:=l1 (lA .lArg)
def Za257:Zk257.α→Nat→Option (Ann UU):=fun a=>annL []
def Zu257:=us [Zh10]
theorem Zo257:Holds EE (257,Zk257):=by
 refine holds_of EE_ok func257 Zk257 (by kernel_rfl) Zu257 (us_ok _) Za257 (fun(a:DArg) hp hb=> ?_)
 have hz0:=bd_lArg (x:=a) (hb _ m0)
 have hl_a_S:=hz0.1
 have hl_a_V_S:=hz0.2
 have hp0:sizeArg a≤4294967296:=hp _ m0
 clear hp hb
 apply @ve _ (sizeVal a.V≤(4294967296:Nat)∧Lf [DV.agg [CI a.K,CS a.S,CI a.V.K,CI a.V.N,CS a.V.S]] [DV.agg [CI a.K,CS a.S,CI a.V.K,CI a.V.N,CS a.V.S]]) (by kernel_rfl)
 simp only[sizeArg] at hp0
 repeat' (first|exact Lf_rfl _|(refine And.intro (by omega) ?_))
def Zh257:HH:=⟨_,Zo257⟩
def Zk270:Con UU where
 α:=DArg×DArg
 md:=[.ro,.ro]
 of:=oC (oA .eArg) (o1 (oA .eArg))
 ds:=fun x=>[dA .eArg x.1,dA .eArg x.2]
 pre:=fun _=>[]
 res:=fun(a,b)=>⟨[dO (decide (a=b))],true,[]⟩
 law:=lC (lA .eArg) (l1 (lA .eArg))
def Za270:Zk270.α→Nat→Option (Ann UU):=fun(a,b)=>annL []
def Zu270:=us [Zh186]
theorem Zo270:Holds EE (270,Zk270):=by
 refine holds_of EE_ok func270 Zk270 (by kernel_rfl) Zu270 (us_ok _) Za270 (fun x hp hb=> ?_)
 obtain⟨a,b⟩:=x
 have hz0:=bd_eArg (x:=a) (hb _ m0)
 have hl_a_S:=hz0.1
 have hl_a_V_S:=hz0.2
 have hz1:=bd_eArg (x:=b) (hb _ m1)
 have hl_b_S:=hz1.1
 have hl_b_V_S:=hz1.2
 clear hp hb
 apply @ve _ (bif a.K !=b.K then Lb false (decide (a=b)) else bif !ByteArray.toList a.S==ByteArray.toList b.S then Lb false (decide (a=b)) else bif !decide (a.V=b.V) then Lb false (decide (a=b)) else Lb true (decide (a=b))) (by kernel_rfl)
 obtain⟨aK,aS,aV⟩:=a
 obtain⟨bK,bS,bV⟩:=b
 repeat' (apply if_cond<;>intro _)
 all_goals (first|apply Lf_t|apply Lf_f)<;>simp_all
def Zh270:HH:=⟨_,Zo270⟩
def Zk243:Con UU where
 α:=(List DArg)×Int
 md:=[.ro,.ro]
 of:=oC (oL .lArg) (o1 oI)
 ds:=fun x=>[dL .lArg x.1,dI x.2]
 pre:=fun(a,left)=>[0≤left]
 res:=fun(a,left)=>⟨[dI (szr left (sizeArgS a))],true,[]⟩
 law:=lC (lL .lArg) (l1 lI)
def Zi243_5(a:(List DArg))(left:Int):Int×Int×Unit→Prop:=szI sizeArg a (sizeArgS a) left
def Zm243_5(a:(List DArg))(left:Int):Int×Int×Unit→Nat:=rM2 a
def Za243:Zk243.α→Nat→Option (Ann UU):=fun(a,left)=>annL [(5,annOf [.slot 1 (1,1024) (.lit (.int .i64)),.slot 5 (5,1024) (.lit (.int .i64))] (fun _=>Zi243_5 a left) (Zm243_5 a left))]
def Zu243:=us [Zh244]
theorem Zo243:Holds EE (243,Zk243):=by
 refine holds_of EE_ok func243 Zk243 (by kernel_rfl) Zu243 (us_ok _) Za243 (fun x hp hb=> ?_)
 obtain⟨a,left⟩:=x
 have hl_a:a.length≤9223372036854775807:=bdL (hb _ m0)
 have hl_left:=bdI (n:=left) (hb _ m1)
 have hp0:0≤left:=hp _ m0
 clear hp hb
 apply @ve _ (szV sizeArg zArg a (sizeArgS a) left) (by kernel_rfl)
 exact szV_ok rfl hp0 hl_left hl_a
def Zh243:HH:=⟨_,Zo243⟩
def Zk256:Con UU where
 α:=(List DArg)
 md:=[.ro]
 of:=o1 (oL .lArg)
 ds:=fun x=>[dL .lArg x]
 pre:=fun a=>[sizeArgS a≤4294967296]
 res:=fun a=>⟨[dL .eArg a],true,[]⟩
 law:=l1 (lL .lArg)
def Zi256_3(a:(List DArg)):List DArg×Int×Unit→Prop:=toI zArg a
def Zm256_3(a:(List DArg)):List DArg×Int×Unit→Nat:=rM2 a
def Za256:Zk256.α→Nat→Option (Ann UU):=fun a=>annL [(3,annOf [.slot 3 (3,1024) (.own .eArg true),.slot 4 (4,1024) (.lit (.int .i64))] (fun _=>Zi256_3 a) (Zm256_3 a))]
def Zu256:=us [Zh257]
theorem Zo256:Holds EE (256,Zk256):=by
 refine holds_of EE_ok func256 Zk256 (by kernel_rfl) Zu256 (us_ok _) Za256 (fun(a:(List DArg)) hp hb=> ?_)
 have hl_a:a.length≤9223372036854775807:=bdL (hb _ m0)
 have hp0:sizeArgS a≤4294967296:=hp _ m0
 clear hp hb
 apply @ve _ (toV sizeArg zArg a fun y=>Lf [.one (.sl .eArg y)] [.one (.sl .eArg a)]) (by kernel_rfl)
 exact toV_ok hp0 (Lf_rfl _)
def Zh256:HH:=⟨_,Zo256⟩
def Zk269:Con UU where
 α:=(List DArg)×(List DArg)
 md:=[.ro,.ro]
 of:=oC (oL .eArg) (o1 (oL .eArg))
 ds:=fun x=>[dL .eArg x.1,dL .eArg x.2]
 pre:=fun _=>[]
 res:=fun(a,b)=>⟨[dO (decide (a=b))],true,[]⟩
 law:=lC (lL .eArg) (l1 (lL .eArg))
def Zi269_4(a:(List DArg))(b:(List DArg)):Int×Unit→Prop:=eqI a b
def Zm269_4(a:(List DArg))(b:(List DArg)):Int×Unit→Nat:=rM1 a
def Za269:Zk269.α→Nat→Option (Ann UU):=fun(a,b)=>annL [(4,annOf [.slot 5 (5,1024) (.lit (.int .i64))] (fun _=>Zi269_4 a b) (Zm269_4 a b))]
def Zu269:=us [Zh270]
theorem Zo269:Holds EE (269,Zk269):=by
 refine holds_of EE_ok func269 Zk269 (by kernel_rfl) Zu269 (us_ok _) Za269 (fun x hp hb=> ?_)
 obtain⟨a,b⟩:=x
 have hl_a:a.length≤9223372036854775807:=bdL (hb _ m0)
 have hl_b:b.length≤9223372036854775807:=bdL (hb _ m1)
 clear hp hb
 apply @ve _ (eqV zArg a b) (by kernel_rfl)
 exact eqV_ok hl_a
def Zh269:HH:=⟨_,Zo269⟩
def Zk190:Con UU where
 α:=(List DArg)×Int
 md:=[.wr,.ro]
 of:=oC (oL .eArg) (o1 oI)
 ds:=fun x=>[dL .eArg x.1,dI x.2]
 pre:=fun(a,k)=>[0≤k,k+cntArgS a≤4611686018427387904]
 res:=fun(a,k)=>⟨[dI (k+cntArgS a)],true,[dL .eArg (markArgS a k)]⟩
 law:=lC (lL .eArg) (l1 lI)
def Zi190_2(a:(List DArg))(k:Int):List DArg×Int×Int×Unit→Prop:=fun(row,kk,i,_)=>0≤i∧i≤a.length∧row=(mkS markArg cntArg a k).take i.toNat++a.drop i.toNat∧kk=k+ctS cntArg (a.take i.toNat)
def Zm190_2(a:(List DArg))(k:Int):List DArg×Int×Int×Unit→Nat:=fun(row,kk,i,_)=>a.length-i.toNat
def Za190:Zk190.α→Nat→Option (Ann UU):=fun(a,k)=>annL [(2,annOf [.slot 0 (2000000,0) (.own .eArg true),.slot 1 (1,1024) (.lit (.int .i64)),.slot 5 (5,1024) (.lit (.int .i64))] (fun _=>Zi190_2 a k) (Zm190_2 a k))]
def Zu190:=us [Zh113]
theorem Zo190:Holds EE (190,Zk190):=by
 refine holds_of EE_ok func190 Zk190 (by kernel_rfl) Zu190 (us_ok _) Za190 (fun x hp hb=> ?_)
 obtain⟨a,k⟩:=x
 have hl_a:a.length≤9223372036854775807:=bdL (hb _ m0)
 have hl_k:=bdI (n:=k) (hb _ m1)
 have hp0:0≤k:=hp _ m0
 have hp1:k+cntArgS a≤4611686018427387904:=hp _ m1
 clear hp hb
 apply @ve _ (Zi190_2 a k (a,k,(0:Int),())∧∀(y:List DArg×Int×Int×PUnit),let x0:Nat:=y.2.2.1.toNat;let x5:Int:=IntKind.wrap IntKind.i64 (y.2.1+(1:Int));let x6:List DArg:=List.modify y.1 x0 fun(x:DArg)=>{K:=y.2.1,S:=x.S,V:=x.V:DArg};let x7:Int:=IntKind.wrap IntKind.i64 (IntKind.wrap IntKind.i64 (x5+(1:Int))+(1:Int));let x3:Int:=IntKind.wrap IntKind.i64 (x7+(1:Int));let x4:List DArg:=List.modify x6 x0 fun(x:DArg)=>{K:=x.K,S:=markText x5,V:=x.V:DArg};let x2:List DArg:=List.modify x4 x0 fun(x:DArg)=>{K:=x.K,S:=x.S,V:={K:=IntKind.wrap IntKind.i64 (x5+(1:Int)),N:=x.V.N,S:=x.V.S:DVal}:DArg};let x1:List DArg:=List.modify x2 x0 fun(x:DArg)=>{K:=x.K,S:=x.S,V:={K:=x.V.K,N:=x7,S:=x.V.S:DVal}:DArg};Zi190_2 a k y→bif decide (y.2.2.1<(y.1.length:Int)) then(0:Int)≤y.2.2.1∧x0<y.1.length∧x0<y.1.length∧x5≤(4611686018427387903:Int)∧(0:Int)≤y.2.2.1∧x0<x6.length∧x0<x6.length∧(0:Int)≤y.2.2.1∧x0<x4.length∧x0<x4.length∧(0:Int)≤y.2.2.1∧x0<x2.length∧x0<x2.length∧x3≤(4611686018427387903:Int)∧(0:Int)≤y.2.2.1∧x0<x1.length∧x0<x1.length∧Zi190_2 a k (List.modify x1 x0 fun(x:DArg)=>{K:=x.K,S:=x.S,V:={K:=x.V.K,N:=x.V.N,S:=markText x3:DVal}:DArg},IntKind.wrap IntKind.i64 (x3+(1:Int)),IntKind.wrap IntKind.i64 (y.2.2.1+(1:Int)),())∧Zm190_2 a k (List.modify x1 x0 fun(x:DArg)=>{K:=x.K,S:=x.S,V:={K:=x.V.K,N:=x.V.N,S:=markText x3:DVal}:DArg},IntKind.wrap IntKind.i64 (x3+(1:Int)),IntKind.wrap IntKind.i64 (y.2.2.1+(1:Int)),())<Zm190_2 a k y else asD [VI y.2.1]=asD [VI (k+(↑(cntArgS a):Int))]∧asD [VL .eArg y.1]=asD [VL .eArg (markArgS a k)]) (by kernel_rfl)
 dsimp only
 refine⟨⟨by omega,by omega,by simp,by simp[ctS]⟩,?_⟩
 rintro⟨row,kk,i,⟨⟩⟩ ⟨h1,h2,rfl,rfl⟩
 simp only
 have hl:=mk_rl markArg cntArg a k h1 h2
 refine if_cond (fun hc=> ?_) (fun hc=> ?_)
 ·have hc:i<a.length:=by have hc:=of_decide_eq_true hc;omega
  have hct:=ctS_take cntArg a zArg h1 hc
  have hle:=ctS_take_le cntArg a (i+1).toNat
  have hg:=mk_getD _ a zArg (mk_tl markArg cntArg a k h1 h2) h1 hc
  have hM:=fun F hF=>mkS_mod markArg cntArg a zArg k (i:=i) F h1 hc hF
  have hq:(cntArgS a:Int)=ctS cntArg a:=rfl
  generalize List.getD a i.toNat zArg=x at*
  generalize hkk:k+(ctS cntArg (a.take i.toNat):Int)=kk at*
  generalize List.take i.toNat (mkS markArg cntArg a k)++List.drop i.toNat a=R at*
  simp only[cntArg] at hct
  simp(disch:=first|omega|(simp only[zbf];omega)) only[zbf,wrap_i64,getD_modify,modify_modify,hg,hl]
  repeat' (first|refine And.intro (by omega) ?_|fail)
  exact⟨⟨by omega,by omega,hM _ (by first|rfl|(simp only[markArg,markBool];rw[zbp (by omega)];rfl)),by omega⟩,by simp only[Zm190_2];omega⟩
 ·have hc:a.length≤i:=by have hc:=of_decide_eq_false hc;omega
  rw[mk_done markArg cntArg a k hc,ct_done cntArg a hc]
  exact⟨rfl,rfl⟩
def Zh190:HH:=⟨_,Zo190⟩
def Zk192:Con UU where
 α:=DPat×Int
 md:=[.ro,.ro]
 of:=oC (oA .lPat) (o1 oI)
 ds:=fun x=>[dA .lPat x.1,dI x.2]
 pre:=fun(a,left)=>[0≤left]
 res:=fun(a,left)=>⟨[dI (szr left (sizePat a))],true,[]⟩
 law:=lC (lA .lPat) (l1 lI)
def Za192:Zk192.α→Nat→Option (Ann UU):=fun(a,left)=>annL []
def Zu192:=us [Zh243]
theorem Zo192:Holds EE (192,Zk192):=by
 refine holds_of EE_ok func192 Zk192 (by kernel_rfl) Zu192 (us_ok _) Za192 (fun x hp hb=> ?_)
 obtain⟨a,left⟩:=x
 have hz0:=bd_lPat (x:=a) (hb _ m0)
 have hl_a_Kind:=hz0.1
 have hl_a_Args:=hz0.2
 have hl_left:=bdI (n:=left) (hb _ m1)
 have hp0:0≤left:=hp _ m0
 clear hp hb
 apply @ve _ (let x0:Int:=IntKind.wrap IntKind.i64 (left-(↑(ByteArray.size a.Kind):Int));bif decide (x0<(0:Int)) then Li (-1:Int) (szr left (sizePat a)) else(0:Int)≤x0∧bif decide (szr x0 (sizeArgS a.Args)<(0:Int)) then Li (-1:Int) (szr left (sizePat a)) else Li (szr x0 (sizeArgS a.Args)) (szr left (sizePat a))) (by kernel_rfl)
 dsimp only
 rw[wrap_i64 (by omega) (by omega)]
 refine if_cond (fun h=>Lf_i (szr_bad' ?_)) (fun h=> ?_)
 ·have h:=of_decide_eq_true h;simp only[sizePat];omega
 have h0:=of_decide_eq_false h
 refine⟨by omega,if_cond (fun h=>Lf_i (szr_bad' ?_)) (fun h=> ?_)⟩
 ·have h:=szr_neg h;simp only[sizePat];omega
 obtain⟨e1,h1⟩:=szr_pos h
 rw[e1]
 exact Lf_i (by rw[←szr_ok' (by simp only[sizePat];omega)];simp only[sizePat];try omega)
def Zh192:HH:=⟨_,Zo192⟩
def Zk209:Con UU where
 α:=DPat
 md:=[.ro]
 of:=o1 (oA .lPat)
 ds:=fun x=>[dA .lPat x]
 pre:=fun a=>[sizePat a≤4294967296]
 res:=fun a=>⟨[dA .ePat a],true,[]⟩
 law:=l1 (lA .lPat)
def Za209:Zk209.α→Nat→Option (Ann UU):=fun a=>annL []
def Zu209:=us [Zh256]
theorem Zo209:Holds EE (209,Zk209):=by
 refine holds_of EE_ok func209 Zk209 (by kernel_rfl) Zu209 (us_ok _) Za209 (fun(a:DPat) hp hb=> ?_)
 have hz0:=bd_lPat (x:=a) (hb _ m0)
 have hl_a_Kind:=hz0.1
 have hl_a_Args:=hz0.2
 have hp0:sizePat a≤4294967296:=hp _ m0
 clear hp hb
 apply @ve _ (sizeArgS a.Args≤(4294967296:Nat)∧Lf [DV.agg [CS a.Kind,CL .eArg a.Args,CO a.Not]] [DV.agg [CS a.Kind,CL .eArg a.Args,CO a.Not]]) (by kernel_rfl)
 simp only[sizePat] at hp0
 repeat' (first|exact Lf_rfl _|(refine And.intro (by omega) ?_))
def Zh209:HH:=⟨_,Zo209⟩
def Zk240:Con UU where
 α:=DPat×DPat
 md:=[.ro,.ro]
 of:=oC (oA .ePat) (o1 (oA .ePat))
 ds:=fun x=>[dA .ePat x.1,dA .ePat x.2]
 pre:=fun _=>[]
 res:=fun(a,b)=>⟨[dO (decide (a=b))],true,[]⟩
 law:=lC (lA .ePat) (l1 (lA .ePat))
def Za240:Zk240.α→Nat→Option (Ann UU):=fun(a,b)=>annL []
def Zu240:=us [Zh269]
theorem Zo240:Holds EE (240,Zk240):=by
 refine holds_of EE_ok func240 Zk240 (by kernel_rfl) Zu240 (us_ok _) Za240 (fun x hp hb=> ?_)
 obtain⟨a,b⟩:=x
 have hz0:=bd_ePat (x:=a) (hb _ m0)
 have hl_a_Kind:=hz0.1
 have hl_a_Args:=hz0.2
 have hz1:=bd_ePat (x:=b) (hb _ m1)
 have hl_b_Kind:=hz1.1
 have hl_b_Args:=hz1.2
 clear hp hb
 apply @ve _ (bif !ByteArray.toList a.Kind==ByteArray.toList b.Kind then Lb false (decide (a=b)) else bif !decide (a.Args=b.Args) then Lb false (decide (a=b)) else bif !a.Not==b.Not then Lb false (decide (a=b)) else Lb true (decide (a=b))) (by kernel_rfl)
 obtain⟨aKind,aArgs,aNot⟩:=a
 obtain⟨bKind,bArgs,bNot⟩:=b
 repeat' (apply if_cond<;>intro _)
 all_goals (first|apply Lf_t|apply Lf_f)<;>simp_all
def Zh240:HH:=⟨_,Zo240⟩
def Zk125:Con UU where
 α:=(List DPat)×Int
 md:=[.ro,.ro]
 of:=oC (oL .lPat) (o1 oI)
 ds:=fun x=>[dL .lPat x.1,dI x.2]
 pre:=fun(a,left)=>[0≤left]
 res:=fun(a,left)=>⟨[dI (szr left (sizePatS a))],true,[]⟩
 law:=lC (lL .lPat) (l1 lI)
def Zi125_5(a:(List DPat))(left:Int):Int×Int×Unit→Prop:=szI sizePat a (sizePatS a) left
def Zm125_5(a:(List DPat))(left:Int):Int×Int×Unit→Nat:=rM2 a
def Za125:Zk125.α→Nat→Option (Ann UU):=fun(a,left)=>annL [(5,annOf [.slot 1 (1,1024) (.lit (.int .i64)),.slot 5 (5,1024) (.lit (.int .i64))] (fun _=>Zi125_5 a left) (Zm125_5 a left))]
def Zu125:=us [Zh192]
theorem Zo125:Holds EE (125,Zk125):=by
 refine holds_of EE_ok func125 Zk125 (by kernel_rfl) Zu125 (us_ok _) Za125 (fun x hp hb=> ?_)
 obtain⟨a,left⟩:=x
 have hl_a:a.length≤9223372036854775807:=bdL (hb _ m0)
 have hl_left:=bdI (n:=left) (hb _ m1)
 have hp0:0≤left:=hp _ m0
 clear hp hb
 apply @ve _ (szV sizePat zPat a (sizePatS a) left) (by kernel_rfl)
 exact szV_ok rfl hp0 hl_left hl_a
def Zh125:HH:=⟨_,Zo125⟩
def Zk151:Con UU where
 α:=(List DPat)
 md:=[.ro]
 of:=o1 (oL .lPat)
 ds:=fun x=>[dL .lPat x]
 pre:=fun a=>[sizePatS a≤4294967296]
 res:=fun a=>⟨[dL .ePat a],true,[]⟩
 law:=l1 (lL .lPat)
def Zi151_3(a:(List DPat)):List DPat×Int×Unit→Prop:=toI zPat a
def Zm151_3(a:(List DPat)):List DPat×Int×Unit→Nat:=rM2 a
def Za151:Zk151.α→Nat→Option (Ann UU):=fun a=>annL [(3,annOf [.slot 3 (3,1024) (.own .ePat true),.slot 4 (4,1024) (.lit (.int .i64))] (fun _=>Zi151_3 a) (Zm151_3 a))]
def Zu151:=us [Zh209]
theorem Zo151:Holds EE (151,Zk151):=by
 refine holds_of EE_ok func151 Zk151 (by kernel_rfl) Zu151 (us_ok _) Za151 (fun(a:(List DPat)) hp hb=> ?_)
 have hl_a:a.length≤9223372036854775807:=bdL (hb _ m0)
 have hp0:sizePatS a≤4294967296:=hp _ m0
 clear hp hb
 apply @ve _ (toV sizePat zPat a fun y=>Lf [.one (.sl .ePat y)] [.one (.sl .ePat a)]) (by kernel_rfl)
 exact toV_ok hp0 (Lf_rfl _)
def Zh151:HH:=⟨_,Zo151⟩
def Zk187:Con UU where
 α:=(List DPat)×(List DPat)
 md:=[.ro,.ro]
 of:=oC (oL .ePat) (o1 (oL .ePat))
 ds:=fun x=>[dL .ePat x.1,dL .ePat x.2]
 pre:=fun _=>[]
 res:=fun(a,b)=>⟨[dO (decide (a=b))],true,[]⟩
 law:=lC (lL .ePat) (l1 (lL .ePat))
def Zi187_4(a:(List DPat))(b:(List DPat)):Int×Unit→Prop:=eqI a b
def Zm187_4(a:(List DPat))(b:(List DPat)):Int×Unit→Nat:=rM1 a
def Za187:Zk187.α→Nat→Option (Ann UU):=fun(a,b)=>annL [(4,annOf [.slot 5 (5,1024) (.lit (.int .i64))] (fun _=>Zi187_4 a b) (Zm187_4 a b))]
def Zu187:=us [Zh240]
theorem Zo187:Holds EE (187,Zk187):=by
 refine holds_of EE_ok func187 Zk187 (by kernel_rfl) Zu187 (us_ok _) Za187 (fun x hp hb=> ?_)
 obtain⟨a,b⟩:=x
 have hl_a:a.length≤9223372036854775807:=bdL (hb _ m0)
 have hl_b:b.length≤9223372036854775807:=bdL (hb _ m1)
 clear hp hb
 apply @ve _ (eqV zPat a b) (by kernel_rfl)
 exact eqV_ok hl_a
def Zh187:HH:=⟨_,Zo187⟩
def Zk114:Con UU where
 α:=(List DPat)×Int
 md:=[.wr,.ro]
 of:=oC (oL .ePat) (o1 oI)
 ds:=fun x=>[dL .ePat x.1,dI x.2]
 pre:=fun(a,k)=>[0≤k,k+cntPatS a≤4611686018427387904]
 res:=fun(a,k)=>⟨[dI (k+cntPatS a)],true,[dL .ePat (markPatS a k)]⟩
 law:=lC (lL .ePat) (l1 lI)
def Zi114_2(a:(List DPat))(k:Int):List DPat×Int×Int×Unit→Prop:=fun(row,kk,i,_)=>0≤i∧i≤a.length∧row=(mkS markPat cntPat a k).take i.toNat++a.drop i.toNat∧kk=k+ctS cntPat (a.take i.toNat)
def Zm114_2(a:(List DPat))(k:Int):List DPat×Int×Int×Unit→Nat:=fun(row,kk,i,_)=>a.length-i.toNat
def Za114:Zk114.α→Nat→Option (Ann UU):=fun(a,k)=>annL [(2,annOf [.slot 0 (2000000,0) (.own .ePat true),.slot 1 (1,1024) (.lit (.int .i64)),.slot 5 (5,1024) (.lit (.int .i64))] (fun _=>Zi114_2 a k) (Zm114_2 a k))]
def Zu114:=us [Zh113,Zh190]
theorem Zo114:Holds EE (114,Zk114):=by
 refine holds_of EE_ok func114 Zk114 (by kernel_rfl) Zu114 (us_ok _) Za114 (fun x hp hb=> ?_)
 obtain⟨a,k⟩:=x
 have hl_a:a.length≤9223372036854775807:=bdL (hb _ m0)
 have hl_k:=bdI (n:=k) (hb _ m1)
 have hp0:0≤k:=hp _ m0
 have hp1:k+cntPatS a≤4611686018427387904:=hp _ m1
 clear hp hb
 apply @ve _ (Zi114_2 a k (a,k,(0:Int),())∧∀(y:List DPat×Int×Int×PUnit),let x2:Nat:=y.2.2.1.toNat;let x3:List DPat:=List.modify y.1 x2 fun(x:DPat)=>{Kind:=markText y.2.1,Args:=x.Args,Not:=x.Not:DPat};let x4:Int:=IntKind.wrap IntKind.i64 (y.2.1+(1:Int));let x0:Int:=x4+(↑(cntArgS (List.getD x3 x2 zPat).Args):Int);let x1:List DPat:=List.modify x3 x2 fun(x:DPat)=>{Kind:=x.Kind,Args:=markArgS (List.getD x3 x2 zPat).Args x4,Not:=x.Not:DPat};Zi114_2 a k y→bif decide (y.2.2.1<(y.1.length:Int)) then y.2.1≤(4611686018427387903:Int)∧(0:Int)≤y.2.2.1∧x2<y.1.length∧x2<y.1.length∧(0:Int)≤y.2.2.1∧x2<x3.length∧x2<x3.length∧x2<x3.length∧(0:Int)≤x4∧x0≤(4611686018427387904:Int)∧(3:Int)≠(0:Int)∧(0:Int)≤y.2.2.1∧x2<x1.length∧x2<x1.length∧Zi114_2 a k (List.modify x1 x2 fun(x:DPat)=>{Kind:=x.Kind,Args:=x.Args,Not:=Int.tmod x0 (3:Int)==(0:Int):DPat},IntKind.wrap IntKind.i64 (x0+(1:Int)),IntKind.wrap IntKind.i64 (y.2.2.1+(1:Int)),())∧Zm114_2 a k (List.modify x1 x2 fun(x:DPat)=>{Kind:=x.Kind,Args:=x.Args,Not:=Int.tmod x0 (3:Int)==(0:Int):DPat},IntKind.wrap IntKind.i64 (x0+(1:Int)),IntKind.wrap IntKind.i64 (y.2.2.1+(1:Int)),())<Zm114_2 a k y else asD [VI y.2.1]=asD [VI (k+(↑(cntPatS a):Int))]∧asD [VL .ePat y.1]=asD [VL .ePat (markPatS a k)]) (by kernel_rfl)
 dsimp only
 refine⟨⟨by omega,by omega,by simp,by simp[ctS]⟩,?_⟩
 rintro⟨row,kk,i,⟨⟩⟩ ⟨h1,h2,rfl,rfl⟩
 simp only
 have hl:=mk_rl markPat cntPat a k h1 h2
 refine if_cond (fun hc=> ?_) (fun hc=> ?_)
 ·have hc:i<a.length:=by have hc:=of_decide_eq_true hc;omega
  have hct:=ctS_take cntPat a zPat h1 hc
  have hle:=ctS_take_le cntPat a (i+1).toNat
  have hg:=mk_getD _ a zPat (mk_tl markPat cntPat a k h1 h2) h1 hc
  have hM:=fun F hF=>mkS_mod markPat cntPat a zPat k (i:=i) F h1 hc hF
  have hq:(cntPatS a:Int)=ctS cntPat a:=rfl
  generalize List.getD a i.toNat zPat=x at*
  generalize hkk:k+(ctS cntPat (a.take i.toNat):Int)=kk at*
  generalize List.take i.toNat (mkS markPat cntPat a k)++List.drop i.toNat a=R at*
  simp only[cntPat] at hct
  simp(disch:=first|omega|(simp only[zbf];omega)) only[zbf,wrap_i64,getD_modify,modify_modify,hg,hl]
  repeat' (first|refine And.intro (by omega) ?_|fail)
  exact⟨⟨by omega,by omega,hM _ (by first|rfl|(simp only[markPat,markBool];rw[zbp (by omega)];rfl)),by omega⟩,by simp only[Zm114_2];omega⟩
 ·have hc:a.length≤i:=by have hc:=of_decide_eq_false hc;omega
  rw[mk_done markPat cntPat a k hc,ct_done cntPat a hc]
  exact⟨rfl,rfl⟩
def Zh114:HH:=⟨_,Zo114⟩
def Zk195:Con UU where
 α:=DBind×Int
 md:=[.ro,.ro]
 of:=oC (oA .lBind) (o1 oI)
 ds:=fun x=>[dA .lBind x.1,dI x.2]
 pre:=fun(a,left)=>[0≤left]
 res:=fun(a,left)=>⟨[dI (szr left (sizeBind a))],true,[]⟩
 law:=lC (lA .lBind) (l1 lI)
def Za195:Zk195.α→Nat→Option (Ann UU):=fun(a,left)=>annL []
def Zu195:=us [Zh6]
theorem Zo195:Holds EE (195,Zk195):=by
 refine holds_of EE_ok func195 Zk195 (by kernel_rfl) Zu195 (us_ok _) Za195 (fun x hp hb=> ?_)
 obtain⟨a,left⟩:=x
 have hz0:=bd_lBind (x:=a) (hb _ m0)
 have hl_a_Name:=hz0.1
 have hl_a_V_S:=hz0.2
 have hl_left:=bdI (n:=left) (hb _ m1)
 have hp0:0≤left:=hp _ m0
 clear hp hb
 apply @ve _ (let x0:Int:=IntKind.wrap IntKind.i64 (left-(↑(ByteArray.size a.Name):Int));bif decide (x0<(0:Int)) then Li (-1:Int) (szr left (sizeBind a)) else(0:Int)≤x0∧bif decide (szr x0 (sizeVal a.V)<(0:Int)) then Li (-1:Int) (szr left (sizeBind a)) else Li (szr x0 (sizeVal a.V)) (szr left (sizeBind a))) (by kernel_rfl)
 dsimp only
 rw[wrap_i64 (by omega) (by omega)]
 refine if_cond (fun h=>Lf_i (szr_bad' ?_)) (fun h=> ?_)
 ·have h:=of_decide_eq_true h;simp only[sizeBind];omega
 have h0:=of_decide_eq_false h
 refine⟨by omega,if_cond (fun h=>Lf_i (szr_bad' ?_)) (fun h=> ?_)⟩
 ·have h:=szr_neg h;simp only[sizeBind];omega
 obtain⟨e1,h1⟩:=szr_pos h
 rw[e1]
 exact Lf_i (by rw[←szr_ok' (by simp only[sizeBind];omega)];simp only[sizeBind];try omega)
def Zh195:HH:=⟨_,Zo195⟩
def Zk212:Con UU where
 α:=DBind
 md:=[.ro]
 of:=o1 (oA .lBind)
 ds:=fun x=>[dA .lBind x]
 pre:=fun a=>[sizeBind a≤4294967296]
 res:=fun a=>⟨[dA .eBind a],true,[]⟩
 law:=l1 (lA .lBind)
def Za212:Zk212.α→Nat→Option (Ann UU):=fun a=>annL []
def Zu212:=us [Zh10]
theorem Zo212:Holds EE (212,Zk212):=by
 refine holds_of EE_ok func212 Zk212 (by kernel_rfl) Zu212 (us_ok _) Za212 (fun(a:DBind) hp hb=> ?_)
 have hz0:=bd_lBind (x:=a) (hb _ m0)
 have hl_a_Name:=hz0.1
 have hl_a_V_S:=hz0.2
 have hp0:sizeBind a≤4294967296:=hp _ m0
 clear hp hb
 apply @ve _ (sizeVal a.V≤(4294967296:Nat)∧Lf [DV.agg [CS a.Name,CI a.V.K,CI a.V.N,CS a.V.S]] [DV.agg [CS a.Name,CI a.V.K,CI a.V.N,CS a.V.S]]) (by kernel_rfl)
 simp only[sizeBind] at hp0
 repeat' (first|exact Lf_rfl _|(refine And.intro (by omega) ?_))
def Zh212:HH:=⟨_,Zo212⟩
def Zk238:Con UU where
 α:=DBind×DBind
 md:=[.ro,.ro]
 of:=oC (oA .eBind) (o1 (oA .eBind))
 ds:=fun x=>[dA .eBind x.1,dA .eBind x.2]
 pre:=fun _=>[]
 res:=fun(a,b)=>⟨[dO (decide (a=b))],true,[]⟩
 law:=lC (lA .eBind) (l1 (lA .eBind))
def Za238:Zk238.α→Nat→Option (Ann UU):=fun(a,b)=>annL []
def Zu238:=us [Zh186]
theorem Zo238:Holds EE (238,Zk238):=by
 refine holds_of EE_ok func238 Zk238 (by kernel_rfl) Zu238 (us_ok _) Za238 (fun x hp hb=> ?_)
 obtain⟨a,b⟩:=x
 have hz0:=bd_eBind (x:=a) (hb _ m0)
 have hl_a_Name:=hz0.1
 have hl_a_V_S:=hz0.2
 have hz1:=bd_eBind (x:=b) (hb _ m1)
 have hl_b_Name:=hz1.1
 have hl_b_V_S:=hz1.2
 clear hp hb
 apply @ve _ (bif !ByteArray.toList a.Name==ByteArray.toList b.Name then Lb false (decide (a=b)) else bif !decide (a.V=b.V) then Lb false (decide (a=b)) else Lb true (decide (a=b))) (by kernel_rfl)
 obtain⟨aName,aV⟩:=a
 obtain⟨bName,bV⟩:=b
 repeat' (apply if_cond<;>intro _)
 all_goals (first|apply Lf_t|apply Lf_f)<;>simp_all
def Zh238:HH:=⟨_,Zo238⟩
def Zk130:Con UU where
 α:=(List DBind)×Int
 md:=[.ro,.ro]
 of:=oC (oL .lBind) (o1 oI)
 ds:=fun x=>[dL .lBind x.1,dI x.2]
 pre:=fun(a,left)=>[0≤left]
 res:=fun(a,left)=>⟨[dI (szr left (sizeBindS a))],true,[]⟩
 law:=lC (lL .lBind) (l1 lI)
def Zi130_5(a:(List DBind))(left:Int):Int×Int×Unit→Prop:=szI sizeBind a (sizeBindS a) left
def Zm130_5(a:(List DBind))(left:Int):Int×Int×Unit→Nat:=rM2 a
def Za130:Zk130.α→Nat→Option (Ann UU):=fun(a,left)=>annL [(5,annOf [.slot 1 (1,1024) (.lit (.int .i64)),.slot 5 (5,1024) (.lit (.int .i64))] (fun _=>Zi130_5 a left) (Zm130_5 a left))]
def Zu130:=us [Zh195]
theorem Zo130:Holds EE (130,Zk130):=by
 refine holds_of EE_ok func130 Zk130 (by kernel_rfl) Zu130 (us_ok _) Za130 (fun x hp hb=> ?_)
 obtain⟨a,left⟩:=x
 have hl_a:a.length≤9223372036854775807:=bdL (hb _ m0)
 have hl_left:=bdI (n:=left) (hb _ m1)
 have hp0:0≤left:=hp _ m0
 clear hp hb
 apply @ve _ (szV sizeBind zBind a (sizeBindS a) left) (by kernel_rfl)
 exact szV_ok rfl hp0 hl_left hl_a
def Zh130:HH:=⟨_,Zo130⟩
def Zk156:Con UU where
 α:=(List DBind)
 md:=[.ro]
 of:=o1 (oL .lBind)
 ds:=fun x=>[dL .lBind x]
 pre:=fun a=>[sizeBindS a≤4294967296]
 res:=fun a=>⟨[dL .eBind a],true,[]⟩
 law:=l1 (lL .lBind)
def Zi156_3(a:(List DBind)):List DBind×Int×Unit→Prop:=toI zBind a
def Zm156_3(a:(List DBind)):List DBind×Int×Unit→Nat:=rM2 a
def Za156:Zk156.α→Nat→Option (Ann UU):=fun a=>annL [(3,annOf [.slot 3 (3,1024) (.own .eBind true),.slot 4 (4,1024) (.lit (.int .i64))] (fun _=>Zi156_3 a) (Zm156_3 a))]
def Zu156:=us [Zh212]
theorem Zo156:Holds EE (156,Zk156):=by
 refine holds_of EE_ok func156 Zk156 (by kernel_rfl) Zu156 (us_ok _) Za156 (fun(a:(List DBind)) hp hb=> ?_)
 have hl_a:a.length≤9223372036854775807:=bdL (hb _ m0)
 have hp0:sizeBindS a≤4294967296:=hp _ m0
 clear hp hb
 apply @ve _ (toV sizeBind zBind a fun y=>Lf [.one (.sl .eBind y)] [.one (.sl .eBind a)]) (by kernel_rfl)
 exact toV_ok hp0 (Lf_rfl _)
def Zh156:HH:=⟨_,Zo156⟩
def Zk184:Con UU where
 α:=(List DBind)×(List DBind)
 md:=[.ro,.ro]
 of:=oC (oL .eBind) (o1 (oL .eBind))
 ds:=fun x=>[dL .eBind x.1,dL .eBind x.2]
 pre:=fun _=>[]
 res:=fun(a,b)=>⟨[dO (decide (a=b))],true,[]⟩
 law:=lC (lL .eBind) (l1 (lL .eBind))
def Zi184_4(a:(List DBind))(b:(List DBind)):Int×Unit→Prop:=eqI a b
def Zm184_4(a:(List DBind))(b:(List DBind)):Int×Unit→Nat:=rM1 a
def Za184:Zk184.α→Nat→Option (Ann UU):=fun(a,b)=>annL [(4,annOf [.slot 5 (5,1024) (.lit (.int .i64))] (fun _=>Zi184_4 a b) (Zm184_4 a b))]
def Zu184:=us [Zh238]
theorem Zo184:Holds EE (184,Zk184):=by
 refine holds_of EE_ok func184 Zk184 (by kernel_rfl) Zu184 (us_ok _) Za184 (fun x hp hb=> ?_)
 obtain⟨a,b⟩:=x
 have hl_a:a.length≤9223372036854775807:=bdL (hb _ m0)
 have hl_b:b.length≤9223372036854775807:=bdL (hb _ m1)
 clear hp hb
 apply @ve _ (eqV zBind a b) (by kernel_rfl)
 exact eqV_ok hl_a
def Zh184:HH:=⟨_,Zo184⟩
def Zk119:Con UU where
 α:=(List DBind)×Int
 md:=[.wr,.ro]
 of:=oC (oL .eBind) (o1 oI)
 ds:=fun x=>[dL .eBind x.1,dI x.2]
 pre:=fun(a,k)=>[0≤k,k+cntBindS a≤4611686018427387904]
 res:=fun(a,k)=>⟨[dI (k+cntBindS a)],true,[dL .eBind (markBindS a k)]⟩
 law:=lC (lL .eBind) (l1 lI)
def Zi119_2(a:(List DBind))(k:Int):List DBind×Int×Int×Unit→Prop:=fun(row,kk,i,_)=>0≤i∧i≤a.length∧row=(mkS markBind cntBind a k).take i.toNat++a.drop i.toNat∧kk=k+ctS cntBind (a.take i.toNat)
def Zm119_2(a:(List DBind))(k:Int):List DBind×Int×Int×Unit→Nat:=fun(row,kk,i,_)=>a.length-i.toNat
def Za119:Zk119.α→Nat→Option (Ann UU):=fun(a,k)=>annL [(2,annOf [.slot 0 (2000000,0) (.own .eBind true),.slot 1 (1,1024) (.lit (.int .i64)),.slot 5 (5,1024) (.lit (.int .i64))] (fun _=>Zi119_2 a k) (Zm119_2 a k))]
def Zu119:=us [Zh113]
theorem Zo119:Holds EE (119,Zk119):=by
 refine holds_of EE_ok func119 Zk119 (by kernel_rfl) Zu119 (us_ok _) Za119 (fun x hp hb=> ?_)
 obtain⟨a,k⟩:=x
 have hl_a:a.length≤9223372036854775807:=bdL (hb _ m0)
 have hl_k:=bdI (n:=k) (hb _ m1)
 have hp0:0≤k:=hp _ m0
 have hp1:k+cntBindS a≤4611686018427387904:=hp _ m1
 clear hp hb
 apply @ve _ (Zi119_2 a k (a,k,(0:Int),())∧∀(y:List DBind×Int×Int×PUnit),let x0:Nat:=y.2.2.1.toNat;let x5:Int:=IntKind.wrap IntKind.i64 (y.2.1+(1:Int));let x6:List DBind:=List.modify y.1 x0 fun(x:DBind)=>{Name:=markText y.2.1,V:=x.V:DBind};let x3:List DBind:=List.modify x6 x0 fun(x:DBind)=>{Name:=x.Name,V:={K:=x5,N:=x.V.N,S:=x.V.S:DVal}:DBind};let x4:Int:=IntKind.wrap IntKind.i64 (x5+(1:Int));let x1:List DBind:=List.modify x3 x0 fun(x:DBind)=>{Name:=x.Name,V:={K:=x.V.K,N:=x4,S:=x.V.S:DVal}:DBind};let x2:Int:=IntKind.wrap IntKind.i64 (x4+(1:Int));Zi119_2 a k y→bif decide (y.2.2.1<(y.1.length:Int)) then y.2.1≤(4611686018427387903:Int)∧(0:Int)≤y.2.2.1∧x0<y.1.length∧x0<y.1.length∧(0:Int)≤y.2.2.1∧x0<x6.length∧x0<x6.length∧(0:Int)≤y.2.2.1∧x0<x3.length∧x0<x3.length∧x2≤(4611686018427387903:Int)∧(0:Int)≤y.2.2.1∧x0<x1.length∧x0<x1.length∧Zi119_2 a k (List.modify x1 x0 fun(x:DBind)=>{Name:=x.Name,V:={K:=x.V.K,N:=x.V.N,S:=markText x2:DVal}:DBind},IntKind.wrap IntKind.i64 (x2+(1:Int)),IntKind.wrap IntKind.i64 (y.2.2.1+(1:Int)),())∧Zm119_2 a k (List.modify x1 x0 fun(x:DBind)=>{Name:=x.Name,V:={K:=x.V.K,N:=x.V.N,S:=markText x2:DVal}:DBind},IntKind.wrap IntKind.i64 (x2+(1:Int)),IntKind.wrap IntKind.i64 (y.2.2.1+(1:Int)),())<Zm119_2 a k y else asD [VI y.2.1]=asD [VI (k+(↑(cntBindS a):Int))]∧asD [VL .eBind y.1]=asD [VL .eBind (markBindS a k)]) (by kernel_rfl)
 dsimp only
 refine⟨⟨by omega,by omega,by simp,by simp[ctS]⟩,?_⟩
 rintro⟨row,kk,i,⟨⟩⟩ ⟨h1,h2,rfl,rfl⟩
 simp only
 have hl:=mk_rl markBind cntBind a k h1 h2
 refine if_cond (fun hc=> ?_) (fun hc=> ?_)
 ·have hc:i<a.length:=by have hc:=of_decide_eq_true hc;omega
  have hct:=ctS_take cntBind a zBind h1 hc
  have hle:=ctS_take_le cntBind a (i+1).toNat
  have hg:=mk_getD _ a zBind (mk_tl markBind cntBind a k h1 h2) h1 hc
  have hM:=fun F hF=>mkS_mod markBind cntBind a zBind k (i:=i) F h1 hc hF
  have hq:(cntBindS a:Int)=ctS cntBind a:=rfl
  generalize List.getD a i.toNat zBind=x at*
  generalize hkk:k+(ctS cntBind (a.take i.toNat):Int)=kk at*
  generalize List.take i.toNat (mkS markBind cntBind a k)++List.drop i.toNat a=R at*
  simp only[cntBind] at hct
  simp(disch:=first|omega|(simp only[zbf];omega)) only[zbf,wrap_i64,getD_modify,modify_modify,hg,hl]
  repeat' (first|refine And.intro (by omega) ?_|fail)
  exact⟨⟨by omega,by omega,hM _ (by first|rfl|(simp only[markBind,markBool];rw[zbp (by omega)];rfl)),by omega⟩,by simp only[Zm119_2];omega⟩
 ·have hc:a.length≤i:=by have hc:=of_decide_eq_false hc;omega
  rw[mk_done markBind cntBind a k hc,ct_done cntBind a hc]
  exact⟨rfl,rfl⟩
def Zh119:HH:=⟨_,Zo119⟩
def Zk123:Con UU where
 α:=(List DBind)×Int
 md:=[.ro,.ro]
 of:=oC (oL .eBind) (o1 oI)
 ds:=fun x=>[dL .eBind x.1,dI x.2]
 pre:=fun(a,k)=>[0≤k,k+cntBindS a≤4611686018427387904]
 res:=fun(a,k)=>⟨[dI (if markBindS a k=a then k+cntBindS a else-1)],true,[]⟩
 law:=lC (lL .eBind) (l1 lI)
def Zi123_2(a:(List DBind))(k:Int):Int×Int×Unit→Prop:=fun(kk,i,_)=>0≤i∧i≤a.length∧kk=k+ctS cntBind (a.take i.toNat)∧(mkS markBind cntBind (a.drop i.toNat) kk=a.drop i.toNat↔mkS markBind cntBind a k=a)
def Zm123_2(a:(List DBind))(k:Int):Int×Int×Unit→Nat:=fun(kk,i,_)=>a.length-i.toNat
def Za123:Zk123.α→Nat→Option (Ann UU):=fun(a,k)=>annL [(2,annOf [.slot 1 (1,1024) (.lit (.int .i64)),.slot 5 (5,1024) (.lit (.int .i64))] (fun _=>Zi123_2 a k) (Zm123_2 a k))]
def Zu123:=us [Zh113]
theorem Zo123:Holds EE (123,Zk123):=by
 refine holds_of EE_ok func123 Zk123 (by kernel_rfl) Zu123 (us_ok _) Za123 (fun x hp hb=> ?_)
 obtain⟨a,k⟩:=x
 have hl_a:a.length≤9223372036854775807:=bdL (hb _ m0)
 have hl_k:=bdI (n:=k) (hb _ m1)
 have hp0:0≤k:=hp _ m0
 have hp1:k+cntBindS a≤4611686018427387904:=hp _ m1
 clear hp hb
 apply @ve _ (Zi123_2 a k (k,(0:Int),())∧∀(y:Int×Int×PUnit),let x3:Nat:=y.2.1.toNat;let x4:Int:=IntKind.wrap IntKind.i64 (IntKind.wrap IntKind.i64 (y.1+(1:Int))+(1:Int));let x1:Int:=IntKind.wrap IntKind.i64 (x4+(1:Int));let x2:DBind:=List.getD a x3 zBind;let x0:DVal:=x2.V;Zi123_2 a k y→bif decide (y.2.1<(a.length:Int)) then(0:Int)≤y.2.1∧x3<a.length∧y.1≤(4611686018427387903:Int)∧bif !ByteArray.toList x2.Name==ByteArray.toList (markText y.1) then Li (-1:Int) (if markBindS a k=a then k+(↑(cntBindS a):Int) else(-1:Int)) else(0:Int)≤y.2.1∧x3<a.length∧bif x0.K !=IntKind.wrap IntKind.i64 (y.1+(1:Int)) then Li (-1:Int) (if markBindS a k=a then k+(↑(cntBindS a):Int) else(-1:Int)) else(0:Int)≤y.2.1∧x3<a.length∧bif x0.N !=x4 then Li (-1:Int) (if markBindS a k=a then k+(↑(cntBindS a):Int) else(-1:Int)) else(0:Int)≤y.2.1∧x3<a.length∧x1≤(4611686018427387903:Int)∧bif !ByteArray.toList x0.S==ByteArray.toList (markText x1) then Li (-1:Int) (if markBindS a k=a then k+(↑(cntBindS a):Int) else(-1:Int)) else Zi123_2 a k (IntKind.wrap IntKind.i64 (x1+(1:Int)),IntKind.wrap IntKind.i64 (y.2.1+(1:Int)),())∧Zm123_2 a k (IntKind.wrap IntKind.i64 (x1+(1:Int)),IntKind.wrap IntKind.i64 (y.2.1+(1:Int)),())<Zm123_2 a k y else Li y.1 (if markBindS a k=a then k+(↑(cntBindS a):Int) else(-1:Int))) (by kernel_rfl)
 dsimp only
 refine⟨⟨by omega,by omega,by simp[ctS],by simp⟩,?_⟩
 rintro⟨kk,i,⟨⟩⟩ ⟨h1,h2,hkk,hR⟩
 simp only
 simp only[markBindS]
 refine if_cond (fun hc=> ?_) (fun hc=> ?_)
 ·have hc:i<a.length:=by have hc:=of_decide_eq_true hc;omega
  have hct:=ctS_take cntBind a zBind h1 hc
  have hle:=ctS_take_le cntBind a (i+1).toNat
  have hq:(cntBindS a:Int)=ctS cntBind a:=rfl
  rw[drop_step a zBind h1 hc] at hR
  generalize List.getD a i.toNat zBind=x at*
  simp only[mkS,zdd] at hR
  have e:kk+(cntBind x:Int)=kk+1+1+1+1:=by first|(simp only[cntBind];done)|(simp only[cntBind];omega)
  rw[e] at hR
  simp only[markBind,cntBind] at hR hct
  simp(disch:=omega) only[wrap_i64,bne_int,toList_beq]
  obtain⟨x_Name,⟨x_V_K,x_V_N,x_V_S⟩⟩:=x
  simp only[DBind.mk.injEq,DVal.mk.injEq] at*
  repeat' (first|refine And.intro (by omega) ?_|fail)
  refine if_cond (fun h=>Lf_no (fun hh=> ?_)) (fun h=> ?_)
  ·have hh:=hR.2 hh;simp_all
  have h:x_Name=markText (kk):=by simpa using h
  subst x_Name
  repeat' (first|refine And.intro (by omega) ?_|fail)
  refine if_cond (fun h=>Lf_no (fun hh=> ?_)) (fun h=> ?_)
  ·have hh:=hR.2 hh;simp_all
  have h:x_V_K=kk+1:=by simpa using h
  subst x_V_K
  repeat' (first|refine And.intro (by omega) ?_|fail)
  refine if_cond (fun h=>Lf_no (fun hh=> ?_)) (fun h=> ?_)
  ·have hh:=hR.2 hh;simp_all
  have h:x_V_N=kk+1+1:=by simpa using h
  subst x_V_N
  repeat' (first|refine And.intro (by omega) ?_|fail)
  refine if_cond (fun h=>Lf_no (fun hh=> ?_)) (fun h=> ?_)
  ·have hh:=hR.2 hh;simp_all
  have h:x_V_S=markText (kk+1+1+1):=by simpa using h
  subst x_V_S
  exact⟨⟨by omega,by omega,by omega,by simpa using hR⟩,by simp only[Zm123_2];omega⟩
 ·have hc:a.length≤i:=by have hc:=of_decide_eq_false hc;omega
  rw[drop_end a hc] at hR
  exact Lf_yes (hR.1 rfl) (by rw[hkk,ct_done _ _ hc];rfl)
def Zh123:HH:=⟨_,Zo123⟩
def Zk193:Con UU where
 α:=DCond×Int
 md:=[.ro,.ro]
 of:=oC (oA .lCond) (o1 oI)
 ds:=fun x=>[dA .lCond x.1,dI x.2]
 pre:=fun(a,left)=>[0≤left]
 res:=fun(a,left)=>⟨[dI (szr left (sizeCond a))],true,[]⟩
 law:=lC (lA .lCond) (l1 lI)
def Za193:Zk193.α→Nat→Option (Ann UU):=fun(a,left)=>annL []
def Zu193:=us [Zh244]
theorem Zo193:Holds EE (193,Zk193):=by
 refine holds_of EE_ok func193 Zk193 (by kernel_rfl) Zu193 (us_ok _) Za193 (fun x hp hb=> ?_)
 obtain⟨a,left⟩:=x
 have hz0:=bd_lCond (x:=a) (hb _ m0)
 have hl_a_L_S:=hz0.1
 have hl_a_L_V_S:=hz0.2.1
 have hl_a_R_S:=hz0.2.2.1
 have hl_a_R_V_S:=hz0.2.2.2
 have hl_left:=bdI (n:=left) (hb _ m1)
 have hp0:0≤left:=hp _ m0
 clear hp hb
 apply @ve _ (let x0:Int:=szr (szr left (sizeArg a.L)) (sizeArg a.R);(0:Int)≤left∧bif decide (szr left (sizeArg a.L)<(0:Int)) then Li (-1:Int) (szr left (sizeCond a)) else(0:Int)≤szr left (sizeArg a.L)∧bif decide (x0<(0:Int)) then Li (-1:Int) (szr left (sizeCond a)) else Li x0 (szr left (sizeCond a))) (by kernel_rfl)
 dsimp only
 refine⟨by omega,if_cond (fun h=>Lf_i (szr_bad' ?_)) (fun h=> ?_)⟩
 ·have h:=szr_neg h;simp only[sizeCond];omega
 obtain⟨e0,h0⟩:=szr_pos h
 rw[e0]
 refine⟨by omega,if_cond (fun h=>Lf_i (szr_bad' ?_)) (fun h=> ?_)⟩
 ·have h:=szr_neg h;simp only[sizeCond];omega
 obtain⟨e1,h1⟩:=szr_pos h
 rw[e1]
 exact Lf_i (by rw[←szr_ok' (by simp only[sizeCond];omega)];simp only[sizeCond];try omega)
def Zh193:HH:=⟨_,Zo193⟩
def Zk210:Con UU where
 α:=DCond
 md:=[.ro]
 of:=o1 (oA .lCond)
 ds:=fun x=>[dA .lCond x]
 pre:=fun a=>[sizeCond a≤4294967296]
 res:=fun a=>⟨[dA .eCond a],true,[]⟩
 law:=l1 (lA .lCond)
def Za210:Zk210.α→Nat→Option (Ann UU):=fun a=>annL []
def Zu210:=us [Zh257]
theorem Zo210:Holds EE (210,Zk210):=by
 refine holds_of EE_ok func210 Zk210 (by kernel_rfl) Zu210 (us_ok _) Za210 (fun(a:DCond) hp hb=> ?_)
 have hz0:=bd_lCond (x:=a) (hb _ m0)
 have hl_a_L_S:=hz0.1
 have hl_a_L_V_S:=hz0.2.1
 have hl_a_R_S:=hz0.2.2.1
 have hl_a_R_V_S:=hz0.2.2.2
 have hp0:sizeCond a≤4294967296:=hp _ m0
 clear hp hb
 apply @ve _ (sizeArg a.L≤(4294967296:Nat)∧sizeArg a.R≤(4294967296:Nat)∧Lf [DV.agg [CI a.Op,CI a.L.K,CS a.L.S,CI a.L.V.K,CI a.L.V.N,CS a.L.V.S,CI a.R.K,CS a.R.S,CI a.R.V.K,CI a.R.V.N,CS a.R.V.S]] [DV.agg [CI a.Op,CI a.L.K,CS a.L.S,CI a.L.V.K,CI a.L.V.N,CS a.L.V.S,CI a.R.K,CS a.R.S,CI a.R.V.K,CI a.R.V.N,CS a.R.V.S]]) (by kernel_rfl)
 simp only[sizeCond] at hp0
 repeat' (first|exact Lf_rfl _|(refine And.intro (by omega) ?_))
def Zh210:HH:=⟨_,Zo210⟩
def Zk241:Con UU where
 α:=DCond×DCond
 md:=[.ro,.ro]
 of:=oC (oA .eCond) (o1 (oA .eCond))
 ds:=fun x=>[dA .eCond x.1,dA .eCond x.2]
 pre:=fun _=>[]
 res:=fun(a,b)=>⟨[dO (decide (a=b))],true,[]⟩
 law:=lC (lA .eCond) (l1 (lA .eCond))
def Za241:Zk241.α→Nat→Option (Ann UU):=fun(a,b)=>annL []
def Zu241:=us [Zh270]
theorem Zo241:Holds EE (241,Zk241):=by
 refine holds_of EE_ok func241 Zk241 (by kernel_rfl) Zu241 (us_ok _) Za241 (fun x hp hb=> ?_)
 obtain⟨a,b⟩:=x
 have hz0:=bd_eCond (x:=a) (hb _ m0)
 have hl_a_L_S:=hz0.1
 have hl_a_L_V_S:=hz0.2.1
 have hl_a_R_S:=hz0.2.2.1
 have hl_a_R_V_S:=hz0.2.2.2
 have hz1:=bd_eCond (x:=b) (hb _ m1)
 have hl_b_L_S:=hz1.1
 have hl_b_L_V_S:=hz1.2.1
 have hl_b_R_S:=hz1.2.2.1
 have hl_b_R_V_S:=hz1.2.2.2
 clear hp hb
 apply @ve _ (bif a.Op !=b.Op then Lb false (decide (a=b)) else bif !decide (a.L=b.L) then Lb false (decide (a=b)) else bif !decide (a.R=b.R) then Lb false (decide (a=b)) else Lb true (decide (a=b))) (by kernel_rfl)
 obtain⟨aOp,aL,aR⟩:=a
 obtain⟨bOp,bL,bR⟩:=b
 repeat' (apply if_cond<;>intro _)
 all_goals (first|apply Lf_t|apply Lf_f)<;>simp_all
def Zh241:HH:=⟨_,Zo241⟩
def Zk126:Con UU where
 α:=(List DCond)×Int
 md:=[.ro,.ro]
 of:=oC (oL .lCond) (o1 oI)
 ds:=fun x=>[dL .lCond x.1,dI x.2]
 pre:=fun(a,left)=>[0≤left]
 res:=fun(a,left)=>⟨[dI (szr left (sizeCondS a))],true,[]⟩
 law:=lC (lL .lCond) (l1 lI)
def Zi126_5(a:(List DCond))(left:Int):Int×Int×Unit→Prop:=szI sizeCond a (sizeCondS a) left
def Zm126_5(a:(List DCond))(left:Int):Int×Int×Unit→Nat:=rM2 a
def Za126:Zk126.α→Nat→Option (Ann UU):=fun(a,left)=>annL [(5,annOf [.slot 1 (1,1024) (.lit (.int .i64)),.slot 5 (5,1024) (.lit (.int .i64))] (fun _=>Zi126_5 a left) (Zm126_5 a left))]
def Zu126:=us [Zh193]
theorem Zo126:Holds EE (126,Zk126):=by
 refine holds_of EE_ok func126 Zk126 (by kernel_rfl) Zu126 (us_ok _) Za126 (fun x hp hb=> ?_)
 obtain⟨a,left⟩:=x
 have hl_a:a.length≤9223372036854775807:=bdL (hb _ m0)
 have hl_left:=bdI (n:=left) (hb _ m1)
 have hp0:0≤left:=hp _ m0
 clear hp hb
 apply @ve _ (szV sizeCond zCond a (sizeCondS a) left) (by kernel_rfl)
 exact szV_ok rfl hp0 hl_left hl_a
def Zh126:HH:=⟨_,Zo126⟩
def Zk152:Con UU where
 α:=(List DCond)
 md:=[.ro]
 of:=o1 (oL .lCond)
 ds:=fun x=>[dL .lCond x]
 pre:=fun a=>[sizeCondS a≤4294967296]
 res:=fun a=>⟨[dL .eCond a],true,[]⟩
 law:=l1 (lL .lCond)
def Zi152_3(a:(List DCond)):List DCond×Int×Unit→Prop:=toI zCond a
def Zm152_3(a:(List DCond)):List DCond×Int×Unit→Nat:=rM2 a
def Za152:Zk152.α→Nat→Option (Ann UU):=fun a=>annL [(3,annOf [.slot 3 (3,1024) (.own .eCond true),.slot 4 (4,1024) (.lit (.int .i64))] (fun _=>Zi152_3 a) (Zm152_3 a))]
def Zu152:=us [Zh210]
theorem Zo152:Holds EE (152,Zk152):=by
 refine holds_of EE_ok func152 Zk152 (by kernel_rfl) Zu152 (us_ok _) Za152 (fun(a:(List DCond)) hp hb=> ?_)
 have hl_a:a.length≤9223372036854775807:=bdL (hb _ m0)
 have hp0:sizeCondS a≤4294967296:=hp _ m0
 clear hp hb
 apply @ve _ (toV sizeCond zCond a fun y=>Lf [.one (.sl .eCond y)] [.one (.sl .eCond a)]) (by kernel_rfl)
 exact toV_ok hp0 (Lf_rfl _)
def Zh152:HH:=⟨_,Zo152⟩
def Zk188:Con UU where
 α:=(List DCond)×(List DCond)
 md:=[.ro,.ro]
 of:=oC (oL .eCond) (o1 (oL .eCond))
 ds:=fun x=>[dL .eCond x.1,dL .eCond x.2]
 pre:=fun _=>[]
 res:=fun(a,b)=>⟨[dO (decide (a=b))],true,[]⟩
 law:=lC (lL .eCond) (l1 (lL .eCond))
def Zi188_4(a:(List DCond))(b:(List DCond)):Int×Unit→Prop:=eqI a b
def Zm188_4(a:(List DCond))(b:(List DCond)):Int×Unit→Nat:=rM1 a
def Za188:Zk188.α→Nat→Option (Ann UU):=fun(a,b)=>annL [(4,annOf [.slot 5 (5,1024) (.lit (.int .i64))] (fun _=>Zi188_4 a b) (Zm188_4 a b))]
def Zu188:=us [Zh241]
theorem Zo188:Holds EE (188,Zk188):=by
 refine holds_of EE_ok func188 Zk188 (by kernel_rfl) Zu188 (us_ok _) Za188 (fun x hp hb=> ?_)
 obtain⟨a,b⟩:=x
 have hl_a:a.length≤9223372036854775807:=bdL (hb _ m0)
 have hl_b:b.length≤9223372036854775807:=bdL (hb _ m1)
 clear hp hb
 apply @ve _ (eqV zCond a b) (by kernel_rfl)
 exact eqV_ok hl_a
def Zh188:HH:=⟨_,Zo188⟩
def Zk115:Con UU where
 α:=(List DCond)×Int
 md:=[.wr,.ro]
 of:=oC (oL .eCond) (o1 oI)
 ds:=fun x=>[dL .eCond x.1,dI x.2]
 pre:=fun(a,k)=>[0≤k,k+cntCondS a≤4611686018427387904]
 res:=fun(a,k)=>⟨[dI (k+cntCondS a)],true,[dL .eCond (markCondS a k)]⟩
 law:=lC (lL .eCond) (l1 lI)
def Zi115_2(a:(List DCond))(k:Int):List DCond×Int×Int×Unit→Prop:=fun(row,kk,i,_)=>0≤i∧i≤a.length∧row=(mkS markCond cntCond a k).take i.toNat++a.drop i.toNat∧kk=k+ctS cntCond (a.take i.toNat)
def Zm115_2(a:(List DCond))(k:Int):List DCond×Int×Int×Unit→Nat:=fun(row,kk,i,_)=>a.length-i.toNat
def Za115:Zk115.α→Nat→Option (Ann UU):=fun(a,k)=>annL [(2,annOf [.slot 0 (2000000,0) (.own .eCond true),.slot 1 (1,1024) (.lit (.int .i64)),.slot 5 (5,1024) (.lit (.int .i64))] (fun _=>Zi115_2 a k) (Zm115_2 a k))]
def Zu115:=us [Zh113]
theorem Zo115:Holds EE (115,Zk115):=by
 refine holds_of EE_ok func115 Zk115 (by kernel_rfl) Zu115 (us_ok _) Za115 (fun x hp hb=> ?_)
 obtain⟨a,k⟩:=x
 have hl_a:a.length≤9223372036854775807:=bdL (hb _ m0)
 have hl_k:=bdI (n:=k) (hb _ m1)
 have hp0:0≤k:=hp _ m0
 have hp1:k+cntCondS a≤4611686018427387904:=hp _ m1
 clear hp hb
 apply @ve _ (Zi115_2 a k (a,k,(0:Int),())∧∀(y:List DCond×Int×Int×PUnit),let x0:Nat:=y.2.2.1.toNat;let x14:Int:=IntKind.wrap IntKind.i64 (y.2.1+(1:Int));let x15:List DCond:=List.modify y.1 x0 fun(x:DCond)=>{Op:=y.2.1,L:=x.L,R:=x.R:DCond};let x12:Int:=IntKind.wrap IntKind.i64 (x14+(1:Int));let x13:List DCond:=List.modify x15 x0 fun(x:DCond)=>{Op:=x.Op,L:={K:=x14,S:=x.L.S,V:=x.L.V:DArg},R:=x.R:DCond};let x17:Int:=IntKind.wrap IntKind.i64 (IntKind.wrap IntKind.i64 (x12+(1:Int))+(1:Int));let x9:List DCond:=List.modify x13 x0 fun(x:DCond)=>{Op:=x.Op,L:={K:=x.L.K,S:=markText x12,V:=x.L.V:DArg},R:=x.R:DCond};let x11:Int:=IntKind.wrap IntKind.i64 (x17+(1:Int));let x7:List DCond:=List.modify x9 x0 fun(x:DCond)=>{Op:=x.Op,L:={K:=x.L.K,S:=x.L.S,V:={K:=IntKind.wrap IntKind.i64 (x12+(1:Int)),N:=x.L.V.N,S:=x.L.V.S:DVal}:DArg},R:=x.R:DCond};let x10:Int:=IntKind.wrap IntKind.i64 (IntKind.wrap IntKind.i64 (x11+(1:Int))+(1:Int));let x16:Int:=IntKind.wrap IntKind.i64 (IntKind.wrap IntKind.i64 (x10+(1:Int))+(1:Int));let x6:List DCond:=List.modify x7 x0 fun(x:DCond)=>{Op:=x.Op,L:={K:=x.L.K,S:=x.L.S,V:={K:=x.L.V.K,N:=x17,S:=x.L.V.S:DVal}:DArg},R:=x.R:DCond};let x8:Int:=IntKind.wrap IntKind.i64 (x16+(1:Int));let x5:List DCond:=List.modify x6 x0 fun(x:DCond)=>{Op:=x.Op,L:={K:=x.L.K,S:=x.L.S,V:={K:=x.L.V.K,N:=x.L.V.N,S:=markText x11:DVal}:DArg},R:=x.R:DCond};let x4:List DCond:=List.modify x5 x0 fun(x:DCond)=>{Op:=x.Op,L:=x.L,R:={K:=IntKind.wrap IntKind.i64 (x11+(1:Int)),S:=x.R.S,V:=x.R.V:DArg}:DCond};let x3:List DCond:=List.modify x4 x0 fun(x:DCond)=>{Op:=x.Op,L:=x.L,R:={K:=x.R.K,S:=markText x10,V:=x.R.V:DArg}:DCond};let x2:List DCond:=List.modify x3 x0 fun(x:DCond)=>{Op:=x.Op,L:=x.L,R:={K:=x.R.K,S:=x.R.S,V:={K:=IntKind.wrap IntKind.i64 (x10+(1:Int)),N:=x.R.V.N,S:=x.R.V.S:DVal}:DArg}:DCond};let x1:List DCond:=List.modify x2 x0 fun(x:DCond)=>{Op:=x.Op,L:=x.L,R:={K:=x.R.K,S:=x.R.S,V:={K:=x.R.V.K,N:=x16,S:=x.R.V.S:DVal}:DArg}:DCond};Zi115_2 a k y→bif decide (y.2.2.1<(y.1.length:Int)) then(0:Int)≤y.2.2.1∧x0<y.1.length∧x0<y.1.length∧(0:Int)≤y.2.2.1∧x0<x15.length∧x0<x15.length∧x12≤(4611686018427387903:Int)∧(0:Int)≤y.2.2.1∧x0<x13.length∧x0<x13.length∧(0:Int)≤y.2.2.1∧x0<x9.length∧x0<x9.length∧(0:Int)≤y.2.2.1∧x0<x7.length∧x0<x7.length∧x11≤(4611686018427387903:Int)∧(0:Int)≤y.2.2.1∧x0<x6.length∧x0<x6.length∧(0:Int)≤y.2.2.1∧x0<x5.length∧x0<x5.length∧x10≤(4611686018427387903:Int)∧(0:Int)≤y.2.2.1∧x0<x4.length∧x0<x4.length∧(0:Int)≤y.2.2.1∧x0<x3.length∧x0<x3.length∧(0:Int)≤y.2.2.1∧x0<x2.length∧x0<x2.length∧x8≤(4611686018427387903:Int)∧(0:Int)≤y.2.2.1∧x0<x1.length∧x0<x1.length∧Zi115_2 a k (List.modify x1 x0 fun(x:DCond)=>{Op:=x.Op,L:=x.L,R:={K:=x.R.K,S:=x.R.S,V:={K:=x.R.V.K,N:=x.R.V.N,S:=markText x8:DVal}:DArg}:DCond},IntKind.wrap IntKind.i64 (x8+(1:Int)),IntKind.wrap IntKind.i64 (y.2.2.1+(1:Int)),())∧Zm115_2 a k (List.modify x1 x0 fun(x:DCond)=>{Op:=x.Op,L:=x.L,R:={K:=x.R.K,S:=x.R.S,V:={K:=x.R.V.K,N:=x.R.V.N,S:=markText x8:DVal}:DArg}:DCond},IntKind.wrap IntKind.i64 (x8+(1:Int)),IntKind.wrap IntKind.i64 (y.2.2.1+(1:Int)),())<Zm115_2 a k y else asD [VI y.2.1]=asD [VI (k+(↑(cntCondS a):Int))]∧asD [VL .eCond y.1]=asD [VL .eCond (markCondS a k)]) (by kernel_rfl)
 dsimp only
 refine⟨⟨by omega,by omega,by simp,by simp[ctS]⟩,?_⟩
 rintro⟨row,kk,i,⟨⟩⟩ ⟨h1,h2,rfl,rfl⟩
 simp only
 have hl:=mk_rl markCond cntCond a k h1 h2
 refine if_cond (fun hc=> ?_) (fun hc=> ?_)
 ·have hc:i<a.length:=by have hc:=of_decide_eq_true hc;omega
  have hct:=ctS_take cntCond a zCond h1 hc
  have hle:=ctS_take_le cntCond a (i+1).toNat
  have hg:=mk_getD _ a zCond (mk_tl markCond cntCond a k h1 h2) h1 hc
  have hM:=fun F hF=>mkS_mod markCond cntCond a zCond k (i:=i) F h1 hc hF
  have hq:(cntCondS a:Int)=ctS cntCond a:=rfl
  generalize List.getD a i.toNat zCond=x at*
  generalize hkk:k+(ctS cntCond (a.take i.toNat):Int)=kk at*
  generalize List.take i.toNat (mkS markCond cntCond a k)++List.drop i.toNat a=R at*
  simp only[cntCond] at hct
  simp(disch:=first|omega|(simp only[zbf];omega)) only[zbf,wrap_i64,getD_modify,modify_modify,hg,hl]
  repeat' (first|refine And.intro (by omega) ?_|fail)
  exact⟨⟨by omega,by omega,hM _ (by first|rfl|(simp only[markCond,markBool];rw[zbp (by omega)];rfl)),by omega⟩,by simp only[Zm115_2];omega⟩
 ·have hc:a.length≤i:=by have hc:=of_decide_eq_false hc;omega
  rw[mk_done markCond cntCond a k hc,ct_done cntCond a hc]
  exact⟨rfl,rfl⟩
def Zh115:HH:=⟨_,Zo115⟩
def Zk272:Con UU where
 α:=DExpr×Int
 md:=[.ro,.ro]
 of:=oC (oA .lExpr) (o1 oI)
 ds:=fun x=>[dA .lExpr x.1,dI x.2]
 pre:=fun(a,left)=>[0≤left]
 res:=fun(a,left)=>⟨[dI (szr left (sizeExpr a))],true,[]⟩
 law:=lC (lA .lExpr) (l1 lI)
def Za272:Zk272.α→Nat→Option (Ann UU):=fun(a,left)=>annL []
def Zu272:=us [Zh244]
theorem Zo272:Holds EE (272,Zk272):=by
 refine holds_of EE_ok func272 Zk272 (by kernel_rfl) Zu272 (us_ok _) Za272 (fun x hp hb=> ?_)
 obtain⟨a,left⟩:=x
 have hz0:=bd_lExpr (x:=a) (hb _ m0)
 have hl_a_Op:=hz0.1
 have hl_a_L_S:=hz0.2.1
 have hl_a_L_V_S:=hz0.2.2.1
 have hl_a_R_S:=hz0.2.2.2.1
 have hl_a_R_V_S:=hz0.2.2.2.2
 have hl_left:=bdI (n:=left) (hb _ m1)
 have hp0:0≤left:=hp _ m0
 clear hp hb
 apply @ve _ (let x1:Int:=IntKind.wrap IntKind.i64 (left-(↑(ByteArray.size a.Op):Int));let x0:Int:=szr x1 (sizeArg a.L);bif decide (x1<(0:Int)) then Li (-1:Int) (szr left (sizeExpr a)) else(0:Int)≤x1∧bif decide (x0<(0:Int)) then Li (-1:Int) (szr left (sizeExpr a)) else(0:Int)≤x0∧bif decide (szr x0 (sizeArg a.R)<(0:Int)) then Li (-1:Int) (szr left (sizeExpr a)) else Li (szr x0 (sizeArg a.R)) (szr left (sizeExpr a))) (by kernel_rfl)
 dsimp only
 rw[wrap_i64 (by omega) (by omega)]
 refine if_cond (fun h=>Lf_i (szr_bad' ?_)) (fun h=> ?_)
 ·have h:=of_decide_eq_true h;simp only[sizeExpr];omega
 have h0:=of_decide_eq_false h
 refine⟨by omega,if_cond (fun h=>Lf_i (szr_bad' ?_)) (fun h=> ?_)⟩
 ·have h:=szr_neg h;simp only[sizeExpr];omega
 obtain⟨e1,h1⟩:=szr_pos h
 rw[e1]
 refine⟨by omega,if_cond (fun h=>Lf_i (szr_bad' ?_)) (fun h=> ?_)⟩
 ·have h:=szr_neg h;simp only[sizeExpr];omega
 obtain⟨e2,h2⟩:=szr_pos h
 rw[e2]
 exact Lf_i (by rw[←szr_ok' (by simp only[sizeExpr];omega)];simp only[sizeExpr];try omega)
def Zh272:HH:=⟨_,Zo272⟩
def Zk276:Con UU where
 α:=DExpr
 md:=[.ro]
 of:=o1 (oA .lExpr)
 ds:=fun x=>[dA .lExpr x]
 pre:=fun a=>[sizeExpr a≤4294967296]
 res:=fun a=>⟨[dA .eExpr a],true,[]⟩
 law:=l1 (lA .lExpr)
def Za276:Zk276.α→Nat→Option (Ann UU):=fun a=>annL []
def Zu276:=us [Zh257]
theorem Zo276:Holds EE (276,Zk276):=by
 refine holds_of EE_ok func276 Zk276 (by kernel_rfl) Zu276 (us_ok _) Za276 (fun(a:DExpr) hp hb=> ?_)
 have hz0:=bd_lExpr (x:=a) (hb _ m0)
 have hl_a_Op:=hz0.1
 have hl_a_L_S:=hz0.2.1
 have hl_a_L_V_S:=hz0.2.2.1
 have hl_a_R_S:=hz0.2.2.2.1
 have hl_a_R_V_S:=hz0.2.2.2.2
 have hp0:sizeExpr a≤4294967296:=hp _ m0
 clear hp hb
 apply @ve _ (sizeArg a.L≤(4294967296:Nat)∧sizeArg a.R≤(4294967296:Nat)∧Lf [DV.agg [CS a.Op,CI a.L.K,CS a.L.S,CI a.L.V.K,CI a.L.V.N,CS a.L.V.S,CI a.R.K,CS a.R.S,CI a.R.V.K,CI a.R.V.N,CS a.R.V.S]] [DV.agg [CS a.Op,CI a.L.K,CS a.L.S,CI a.L.V.K,CI a.L.V.N,CS a.L.V.S,CI a.R.K,CS a.R.S,CI a.R.V.K,CI a.R.V.N,CS a.R.V.S]]) (by kernel_rfl)
 simp only[sizeExpr] at hp0
 repeat' (first|exact Lf_rfl _|(refine And.intro (by omega) ?_))
def Zh276:HH:=⟨_,Zo276⟩
def Zk285:Con UU where
 α:=DExpr×DExpr
 md:=[.ro,.ro]
 of:=oC (oA .eExpr) (o1 (oA .eExpr))
 ds:=fun x=>[dA .eExpr x.1,dA .eExpr x.2]
 pre:=fun _=>[]
 res:=fun(a,b)=>⟨[dO (decide (a=b))],true,[]⟩
 law:=lC (lA .eExpr) (l1 (lA .eExpr))
def Za285:Zk285.α→Nat→Option (Ann UU):=fun(a,b)=>annL []
def Zu285:=us [Zh270]
theorem Zo285:Holds EE (285,Zk285):=by
 refine holds_of EE_ok func285 Zk285 (by kernel_rfl) Zu285 (us_ok _) Za285 (fun x hp hb=> ?_)
 obtain⟨a,b⟩:=x
 have hz0:=bd_eExpr (x:=a) (hb _ m0)
 have hl_a_Op:=hz0.1
 have hl_a_L_S:=hz0.2.1
 have hl_a_L_V_S:=hz0.2.2.1
 have hl_a_R_S:=hz0.2.2.2.1
 have hl_a_R_V_S:=hz0.2.2.2.2
 have hz1:=bd_eExpr (x:=b) (hb _ m1)
 have hl_b_Op:=hz1.1
 have hl_b_L_S:=hz1.2.1
 have hl_b_L_V_S:=hz1.2.2.1
 have hl_b_R_S:=hz1.2.2.2.1
 have hl_b_R_V_S:=hz1.2.2.2.2
 clear hp hb
 apply @ve _ (bif !ByteArray.toList a.Op==ByteArray.toList b.Op then Lb false (decide (a=b)) else bif !decide (a.L=b.L) then Lb false (decide (a=b)) else bif !decide (a.R=b.R) then Lb false (decide (a=b)) else Lb true (decide (a=b))) (by kernel_rfl)
 obtain⟨aOp,aL,aR⟩:=a
 obtain⟨bOp,bL,bR⟩:=b
 repeat' (apply if_cond<;>intro _)
 all_goals (first|apply Lf_t|apply Lf_f)<;>simp_all
def Zh285:HH:=⟨_,Zo285⟩
def Zk245:Con UU where
 α:=(List DExpr)×Int
 md:=[.ro,.ro]
 of:=oC (oL .lExpr) (o1 oI)
 ds:=fun x=>[dL .lExpr x.1,dI x.2]
 pre:=fun(a,left)=>[0≤left]
 res:=fun(a,left)=>⟨[dI (szr left (sizeExprS a))],true,[]⟩
 law:=lC (lL .lExpr) (l1 lI)
def Zi245_5(a:(List DExpr))(left:Int):Int×Int×Unit→Prop:=szI sizeExpr a (sizeExprS a) left
def Zm245_5(a:(List DExpr))(left:Int):Int×Int×Unit→Nat:=rM2 a
def Za245:Zk245.α→Nat→Option (Ann UU):=fun(a,left)=>annL [(5,annOf [.slot 1 (1,1024) (.lit (.int .i64)),.slot 5 (5,1024) (.lit (.int .i64))] (fun _=>Zi245_5 a left) (Zm245_5 a left))]
def Zu245:=us [Zh272]
theorem Zo245:Holds EE (245,Zk245):=by
 refine holds_of EE_ok func245 Zk245 (by kernel_rfl) Zu245 (us_ok _) Za245 (fun x hp hb=> ?_)
 obtain⟨a,left⟩:=x
 have hl_a:a.length≤9223372036854775807:=bdL (hb _ m0)
 have hl_left:=bdI (n:=left) (hb _ m1)
 have hp0:0≤left:=hp _ m0
 clear hp hb
 apply @ve _ (szV sizeExpr zExpr a (sizeExprS a) left) (by kernel_rfl)
 exact szV_ok rfl hp0 hl_left hl_a
def Zh245:HH:=⟨_,Zo245⟩
def Zk258:Con UU where
 α:=(List DExpr)
 md:=[.ro]
 of:=o1 (oL .lExpr)
 ds:=fun x=>[dL .lExpr x]
 pre:=fun a=>[sizeExprS a≤4294967296]
 res:=fun a=>⟨[dL .eExpr a],true,[]⟩
 law:=l1 (lL .lExpr)
def Zi258_3(a:(List DExpr)):List DExpr×Int×Unit→Prop:=toI zExpr a
def Zm258_3(a:(List DExpr)):List DExpr×Int×Unit→Nat:=rM2 a
def Za258:Zk258.α→Nat→Option (Ann UU):=fun a=>annL [(3,annOf [.slot 3 (3,1024) (.own .eExpr true),.slot 4 (4,1024) (.lit (.int .i64))] (fun _=>Zi258_3 a) (Zm258_3 a))]
def Zu258:=us [Zh276]
theorem Zo258:Holds EE (258,Zk258):=by
 refine holds_of EE_ok func258 Zk258 (by kernel_rfl) Zu258 (us_ok _) Za258 (fun(a:(List DExpr)) hp hb=> ?_)
 have hl_a:a.length≤9223372036854775807:=bdL (hb _ m0)
 have hp0:sizeExprS a≤4294967296:=hp _ m0
 clear hp hb
 apply @ve _ (toV sizeExpr zExpr a fun y=>Lf [.one (.sl .eExpr y)] [.one (.sl .eExpr a)]) (by kernel_rfl)
 exact toV_ok hp0 (Lf_rfl _)
def Zh258:HH:=⟨_,Zo258⟩
end
end AM
