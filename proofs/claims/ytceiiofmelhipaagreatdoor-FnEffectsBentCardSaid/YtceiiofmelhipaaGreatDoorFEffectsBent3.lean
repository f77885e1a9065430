/- Functions of the program with their contracts: put together by gen/link.py for FnEffectsBent. -/
import Derived.Test.YtceiiofmelhipaaGreatDoorAmLib
import Derived.Test.YtceiiofmelhipaaGreatDoorFEffectsBent2
import Derived.Lib.ItoaLen
import Derived.Lib.Join
import Derived.Test.YtceiiofmelhipaaGreatDoorShelf
namespace AM
open Go Go.Proofs.Tryz
set_option linter.unusedVariables false
set_option linter.unusedSimpArgs false
set_option maxRecDepth 100000
noncomputable section
theorem rule_of{d:DDef}{m:DMatch}(h:defOk d=true)(h2:hasR d m=true):ruleOk (List.getD d.Rules m.Rule.toNat zRule)=true:=by
 obtain⟨r1,r2⟩:=hasR_iff h2
 simp only[defOk,zaf,allI_all] at h
 have:=h.2 m.Rule.toNat (by omega)
 simp only[defAtR,zaf] at this
 exact this.1
theorem acts_of{d:DDef}{m:DMatch}(h:defOk d=true)(h2:mayE d m=true):(actsOf d m).length≤6∧∀i:Int,0≤i→i<(actsOf d m).length→actOk (List.getD (actsOf d m) i.toNat zAct)=true∧((List.getD (actsOf d m) i.toNat zAct).Kind=2→0≤(List.getD (actsOf d m) i.toNat zAct).N∧(List.getD (actsOf d m) i.toNat zAct).N<m.Ids.length):=by
 simp only[mayE,zaf,decide_eq_true_eq] at h2
 have hr:=rule_of h h2.1
 simp only[ruleOk,actsIn,zaf,decide_eq_true_eq] at hr
 obtain⟨⟨_,_⟩,⟨⟨_,hl⟩,ha⟩⟩:=hr
 refine⟨hl,fun i h0 hi=> ?_⟩
 rw[zcb] at ha
 have hm:List.getD (actsOf d m) i.toNat zAct∈actsOf d m:=by rw[zac,zad (by omega)];exact zda _
 have hk:=ha _ hm
 generalize List.getD (actsOf d m) i.toNat zAct=a at*
 simp only[actIn,zaf] at hk
 refine⟨hk.1.1,fun e=> ?_⟩
 have hd:=hk.1.2
 have hp:=hk.1.1
 simp only[dropIn,e,decide_true,zck,zbd,decide_eq_false_iff_not] at hd
 simp only[actOk,e,show¬((2:Int)=1) by decide,decide_false,cond_false,decide_true,cond_true,zaf,decide_eq_true_eq] at hp
 omega
theorem LfE{a a':DEffect}{b b':Bool}(h1:a=a')(h2:b=b'):Lf [.agg [.lit (.int .i64 a.Kind),.lit (.string a.F.Kind),.sl .eVal a.F.Fields,.lit (.int .i64 a.Id),.lit (.int .i64 a.N),.lit (.string a.Undo)],.one (.lit (.bool b))] [.agg [.lit (.int .i64 a'.Kind),.lit (.string a'.F.Kind),.sl .eVal a'.F.Fields,.lit (.int .i64 a'.Id),.lit (.int .i64 a'.N),.lit (.string a'.Undo)],.one (.lit (.bool b'))]:=by
 subst h1 h2;exact Lf_rfl _
theorem LfES{a a':List DEffect}{b b':Bool}(h1:a=a')(h2:b=b'):Lf [.one (.sl .eEffect a),.one (.lit (.bool b))] [.one (.sl .eEffect a'),.one (.lit (.bool b'))]:=by
 subst h1 h2;exact Lf_rfl _
def Zk11:Con UU where
 α:=DEffect
 md:=[.ro]
 of:=o1 (oA .eEffect)
 ds:=fun x=>[dA .eEffect x]
 pre:=fun _=>[]
 res:=fun e=>⟨[dO (effectOk e)],true,[]⟩
 law:=l1 (lA .eEffect)
def Za11:Zk11.α→Nat→Option (Ann UU):=fun e=>annL []
def Zu11:=us [Zh34,Zh35,Zh36]
theorem Zo11:Holds EE (11,Zk11):=by
 refine holds_of EE_ok func11 Zk11 (by kernel_rfl) Zu11 (us_ok _) Za11 (fun(e:DEffect) hp hb=> ?_)
 have hz0:=bd_eEffect (x:=e) (hb _ m0)
 have hl_e_F_Kind:=hz0.1
 have hl_e_F_Fields:=hz0.2.1
 have hl_e_Undo:=hz0.2.2
 clear hp hb
 apply @ve _ (let x0:Bool:=e.Kind==(5:Int);let x1:Bool:=ByteArray.toList e.Undo==ByteArray.toList {data:= #[]:ByteArray};let x2:Bool:=e.Id==(0:Int);let x3:Bool:=(e.F.Fields.length:Int)==(0:Int);bif ByteArray.toList e.F.Kind==ByteArray.toList {data:= #[]:ByteArray} then bif e.Kind==(1:Int) then bif factOk e.F then bif x2 then bif e.N==(0:Int) then Lb x1 (effectOk e) else Lb false (effectOk e) else Lb false (effectOk e) else Lb false (effectOk e) else bif e.Kind==(3:Int) then bif factOk e.F then bif x2 then bif e.N==(0:Int) then bif x1 then Lb true (effectOk e) else Lb (nameOk e.Undo) (effectOk e) else Lb false (effectOk e) else Lb false (effectOk e) else Lb false (effectOk e) else bif e.Kind==(4:Int) then bif factOk e.F then bif x2 then bif decide ((0:Int)≤e.N∧e.N≤(100000:Int)) then Lb x1 (effectOk e) else Lb false (effectOk e) else Lb false (effectOk e) else Lb false (effectOk e) else bif e.Kind==(2:Int) then bif x3 then bif decide (e.Id≥(1:Int)) then bif e.N==(0:Int) then Lb x1 (effectOk e) else Lb false (effectOk e) else Lb false (effectOk e) else Lb false (effectOk e) else bif x0 then bif x0 then bif x3 then bif x2 then bif e.N==(0:Int) then Lb x1 (effectOk e) else Lb false (effectOk e) else Lb false (effectOk e) else Lb false (effectOk e) else Lb false (effectOk e) else bif e.Kind==(6:Int) then bif x3 then bif x2 then bif e.N==(0:Int) then Lb x1 (effectOk e) else Lb false (effectOk e) else Lb false (effectOk e) else Lb false (effectOk e) else Lb false (effectOk e) else bif e.Kind==(1:Int) then bif factOk e.F then bif x2 then bif e.N==(0:Int) then Lb x1 (effectOk e) else Lb false (effectOk e) else Lb false (effectOk e) else Lb false (effectOk e) else bif e.Kind==(3:Int) then bif factOk e.F then bif x2 then bif e.N==(0:Int) then bif x1 then Lb true (effectOk e) else Lb (nameOk e.Undo) (effectOk e) else Lb false (effectOk e) else Lb false (effectOk e) else Lb false (effectOk e) else bif e.Kind==(4:Int) then bif factOk e.F then bif x2 then bif decide ((0:Int)≤e.N∧e.N≤(100000:Int)) then Lb x1 (effectOk e) else Lb false (effectOk e) else Lb false (effectOk e) else Lb false (effectOk e) else bif e.Kind==(2:Int) then Lb false (effectOk e) else bif x0 then bif x0 then Lb false (effectOk e) else Lb false (effectOk e) else bif e.Kind==(6:Int) then Lb false (effectOk e) else Lb false (effectOk e)) (by kernel_rfl)
 dsimp only
 have e1:∀s:ByteArray,(ByteArray.toList s==ByteArray.toList {data:= #[]})=decide (s=noBytes):=fun s=>toList_beq _ _
 have e2:((e.F.Fields.length:Int)==0)=decide (e.F.Fields.length=0):=by rw[zcm];simp
 simp only[e1,e2,effectOk,bareF,undoOk]
 repeat' (refine if_cond (fun h=> ?_) (fun h=> ?_))
 all_goals (refine Lf_b ?_;grind)
def Zh11:HH:=⟨_,Zo11⟩
def Zk10:Con UU where
 α:=DEffect
 md:=[.ro]
 of:=o1 (oA .eEffect)
 ds:=fun x=>[dA .eEffect x]
 pre:=fun _=>[]
 res:=fun e=>⟨[dO (effectOk e)],true,[]⟩
 law:=l1 (lA .eEffect)
def Za10:Zk10.α→Nat→Option (Ann UU):=fun e=>annL []
def Zu10:=us [Zh31,Zh32,Zh33]
theorem Zo10:Holds EE (10,Zk10):=by
 refine holds_of EE_ok func10 Zk10 (by kernel_rfl) Zu10 (us_ok _) Za10 (fun(e:DEffect) hp hb=> ?_)
 have hz0:=bd_eEffect (x:=e) (hb _ m0)
 have hl_e_F_Kind:=hz0.1
 have hl_e_F_Fields:=hz0.2.1
 have hl_e_Undo:=hz0.2.2
 clear hp hb
 apply @ve _ (let x0:Bool:=e.Kind==(5:Int);let x1:Bool:=e.Id==(0:Int);let x2:Bool:=(e.F.Fields.length:Int)==(0:Int);bif ByteArray.toList e.F.Kind==ByteArray.toList {data:= #[]:ByteArray} then bif e.Kind==(1:Int) then bif factOk e.F then bif x1 then bif e.N==(0:Int) then Lb (ByteArray.toList e.Undo==ByteArray.toList {data:= #[]:ByteArray}) (effectOk e) else Lb false (effectOk e) else Lb false (effectOk e) else Lb false (effectOk e) else bif e.Kind==(2:Int) then bif x2 then bif decide (e.Id≥(1:Int)) then bif e.N==(0:Int) then Lb (ByteArray.toList e.Undo==ByteArray.toList {data:= #[]:ByteArray}) (effectOk e) else Lb false (effectOk e) else Lb false (effectOk e) else Lb false (effectOk e) else bif e.Kind==(3:Int) then bif factOk e.F then bif x1 then bif e.N==(0:Int) then Lb (undoOk e.Undo) (effectOk e) else Lb false (effectOk e) else Lb false (effectOk e) else Lb false (effectOk e) else bif e.Kind==(4:Int) then bif factOk e.F then bif x1 then bif decide ((0:Int)≤e.N∧e.N≤(100000:Int)) then Lb (ByteArray.toList e.Undo==ByteArray.toList {data:= #[]:ByteArray}) (effectOk e) else Lb false (effectOk e) else Lb false (effectOk e) else Lb false (effectOk e) else bif x0 then bif x0 then bif x2 then bif x1 then bif e.N==(0:Int) then Lb (ByteArray.toList e.Undo==ByteArray.toList {data:= #[]:ByteArray}) (effectOk e) else Lb false (effectOk e) else Lb false (effectOk e) else Lb false (effectOk e) else Lb false (effectOk e) else bif e.Kind==(6:Int) then bif x2 then bif x1 then bif e.N==(0:Int) then Lb (ByteArray.toList e.Undo==ByteArray.toList {data:= #[]:ByteArray}) (effectOk e) else Lb false (effectOk e) else Lb false (effectOk e) else Lb false (effectOk e) else Lb false (effectOk e) else bif e.Kind==(1:Int) then bif factOk e.F then bif x1 then bif e.N==(0:Int) then Lb (ByteArray.toList e.Undo==ByteArray.toList {data:= #[]:ByteArray}) (effectOk e) else Lb false (effectOk e) else Lb false (effectOk e) else Lb false (effectOk e) else bif e.Kind==(2:Int) then Lb false (effectOk e) else bif e.Kind==(3:Int) then bif factOk e.F then bif x1 then bif e.N==(0:Int) then Lb (undoOk e.Undo) (effectOk e) else Lb false (effectOk e) else Lb false (effectOk e) else Lb false (effectOk e) else bif e.Kind==(4:Int) then bif factOk e.F then bif x1 then bif decide ((0:Int)≤e.N∧e.N≤(100000:Int)) then Lb (ByteArray.toList e.Undo==ByteArray.toList {data:= #[]:ByteArray}) (effectOk e) else Lb false (effectOk e) else Lb false (effectOk e) else Lb false (effectOk e) else bif x0 then bif x0 then Lb false (effectOk e) else Lb false (effectOk e) else bif e.Kind==(6:Int) then Lb false (effectOk e) else Lb false (effectOk e)) (by kernel_rfl)
 dsimp only
 have e1:∀s:ByteArray,(ByteArray.toList s==ByteArray.toList {data:= #[]})=decide (s=noBytes):=fun s=>toList_beq _ _
 have e2:((e.F.Fields.length:Int)==0)=decide (e.F.Fields.length=0):=by rw[zcm];simp
 simp only[e1,e2,effectOk,bareF,undoOk]
 repeat' (refine if_cond (fun h=> ?_) (fun h=> ?_))
 all_goals (refine Lf_b ?_;grind)
def Zh10:HH:=⟨_,Zo10⟩
def Zk26:Con UU where
 α:=DAct×DMatch
 md:=[.ro,.ro]
 of:=oC (oA .eAct) (o1 (oA .eMatch))
 ds:=fun x=>[dA .eAct x.1,dA .eMatch x.2]
 pre:=fun(a,m)=>[a.Kind=2→0≤a.N∧a.N<m.Ids.length,a.Args.length≤4294967295]
 res:=fun(a,m)=>⟨[dA .eEffect (effS m a),dO (okS m a)],true,[]⟩
 law:=lC (lA .eAct) (l1 (lA .eMatch))
def Za26:Zk26.α→Nat→Option (Ann UU):=fun(a,m)=>annL []
def Zu26:=us [Zh11,Zh52]
theorem Zo26:Holds EE (26,Zk26):=by
 refine holds_of EE_ok func26 Zk26 (by kernel_rfl) Zu26 (us_ok _) Za26 (fun x hp hb=> ?_)
 obtain⟨a,m⟩:=x
 have hz0:=bd_eAct (x:=a) (hb _ m0)
 have hl_a_Name:=hz0.1
 have hl_a_Args:=hz0.2.1
 have hl_a_Undo:=hz0.2.2
 have hz1:=bd_eMatch (x:=m) (hb _ m1)
 have hl_m_Ids:=hz1.1
 have hl_m_Binds:=hz1.2
 have hp0:a.Kind=2→0≤a.N∧a.N<m.Ids.length:=hp _ m0
 have hp1:a.Args.length≤4294967295:=hp _ m1
 clear hp hb
 apply @ve _ (bif a.Kind==(2:Int) then(0:Int)≤a.N∧a.N.toNat<m.Ids.length∧Lf [DV.agg [CI a.Kind,CS ({data:= #[]:ByteArray}),CL .eVal [],CI (List.getD m.Ids a.N.toNat (0:Int)),CI (0:Int),CS a.Undo],VB (effectOk {Kind:=a.Kind,F:={Kind:={data:= #[]:ByteArray},Fields:=[]:DFact},Id:=List.getD m.Ids a.N.toNat (0:Int),N:=(0:Int),Undo:=a.Undo:DEffect})] [DV.agg [CI ((effS m a).Kind),CS ((effS m a).F.Kind),CL .eVal (effS m a).F.Fields,CI ((effS m a).Id),CI ((effS m a).N),CS ((effS m a).Undo)],VB (okS m a)] else bif a.Kind==(4:Int) then a.Args.length≤(4294967295:Nat)∧bif compsB a.Args m.Binds then Lf [DV.agg [CI a.Kind,CS a.Name,CL .eVal (compsV a.Args m.Binds),CI (0:Int),CI a.N,CS a.Undo],VB (effectOk {Kind:=a.Kind,F:={Kind:=a.Name,Fields:=compsV a.Args m.Binds:DFact},Id:=(0:Int),N:=a.N,Undo:=a.Undo:DEffect})] [DV.agg [CI ((effS m a).Kind),CS ((effS m a).F.Kind),CL .eVal (effS m a).F.Fields,CI ((effS m a).Id),CI ((effS m a).N),CS ((effS m a).Undo)],VB (okS m a)] else Lf [DV.agg [CI a.Kind,CS a.Name,CL .eVal (compsV a.Args m.Binds),CI (0:Int),CI a.N,CS a.Undo],VB false] [DV.agg [CI ((effS m a).Kind),CS ((effS m a).F.Kind),CL .eVal (effS m a).F.Fields,CI ((effS m a).Id),CI ((effS m a).N),CS ((effS m a).Undo)],VB (okS m a)] else a.Args.length≤(4294967295:Nat)∧bif compsB a.Args m.Binds then Lf [DV.agg [CI a.Kind,CS a.Name,CL .eVal (compsV a.Args m.Binds),CI (0:Int),CI (0:Int),CS a.Undo],VB (effectOk {Kind:=a.Kind,F:={Kind:=a.Name,Fields:=compsV a.Args m.Binds:DFact},Id:=(0:Int),N:=(0:Int),Undo:=a.Undo:DEffect})] [DV.agg [CI ((effS m a).Kind),CS ((effS m a).F.Kind),CL .eVal (effS m a).F.Fields,CI ((effS m a).Id),CI ((effS m a).N),CS ((effS m a).Undo)],VB (okS m a)] else Lf [DV.agg [CI a.Kind,CS a.Name,CL .eVal (compsV a.Args m.Binds),CI (0:Int),CI (0:Int),CS a.Undo],VB false] [DV.agg [CI ((effS m a).Kind),CS ((effS m a).F.Kind),CL .eVal (effS m a).F.Fields,CI ((effS m a).Id),CI ((effS m a).N),CS ((effS m a).Undo)],VB (okS m a)]) (by kernel_rfl)
 refine if_num (fun h=> ?_) (fun h=>if_num (fun h4=>⟨hp1,if_cond (fun g=> ?_) (fun g=> ?_)⟩) (fun h4=>⟨hp1,if_cond (fun g=> ?_) (fun g=> ?_)⟩))
 ·have e:effS m a=⟨a.Kind,zFact,List.getD m.Ids a.N.toNat 0,0,a.Undo⟩:=if_pos h
  exact⟨(hp0 h).1,by have:=hp0 h;omega,LfE (a:=⟨a.Kind,zFact,List.getD m.Ids a.N.toNat 0,0,a.Undo⟩) e.symm (by simp only[okS,decide_eq_true h,Bool.true_or,zck,e];rfl)⟩
 all_goals have e0:effS m a=⟨a.Kind,⟨a.Name,compsV a.Args m.Binds⟩,0,if a.Kind=4 then a.N else 0,a.Undo⟩:=if_neg h
 all_goals first|rw[if_pos h4] at e0|rw[if_neg h4] at e0
 ·exact LfE (a:=⟨a.Kind,⟨a.Name,compsV a.Args m.Binds⟩,0,a.N,a.Undo⟩) e0.symm (by simp only[okS,decide_eq_false h,show compsB a.Args m.Binds=true from g,Bool.or_true,zck,e0])
 ·exact LfE (a:=⟨a.Kind,⟨a.Name,compsV a.Args m.Binds⟩,0,a.N,a.Undo⟩) e0.symm (by simp only[okS,decide_eq_false h,show compsB a.Args m.Binds=false from g,zeh,zbi])
 ·exact LfE (a:=⟨a.Kind,⟨a.Name,compsV a.Args m.Binds⟩,0,0,a.Undo⟩) e0.symm (by simp only[okS,decide_eq_false h,show compsB a.Args m.Binds=true from g,Bool.or_true,zck,e0])
 ·exact LfE (a:=⟨a.Kind,⟨a.Name,compsV a.Args m.Binds⟩,0,0,a.Undo⟩) e0.symm (by simp only[okS,decide_eq_false h,show compsB a.Args m.Binds=false from g,zeh,zbi])
def Zh26:HH:=⟨_,Zo26⟩
def Zk49:Con UU where
 α:=DAct×DMatch
 md:=[.ro,.ro]
 of:=oC (oA .eAct) (o1 (oA .eMatch))
 ds:=fun x=>[dA .eAct x.1,dA .eMatch x.2]
 pre:=fun(a,m)=>[a.Kind=2→0≤a.N∧a.N<m.Ids.length,a.Args.length≤4294967295]
 res:=fun(a,m)=>⟨[dA .eEffect (effI m a),dO (okI m a)],true,[]⟩
 law:=lC (lA .eAct) (l1 (lA .eMatch))
def Za49:Zk49.α→Nat→Option (Ann UU):=fun(a,m)=>annL []
def Zu49:=us [Zh10,Zh79]
theorem Zo49:Holds EE (49,Zk49):=by
 refine holds_of EE_ok func49 Zk49 (by kernel_rfl) Zu49 (us_ok _) Za49 (fun x hp hb=> ?_)
 obtain⟨a,m⟩:=x
 have hz0:=bd_eAct (x:=a) (hb _ m0)
 have hl_a_Name:=hz0.1
 have hl_a_Args:=hz0.2.1
 have hl_a_Undo:=hz0.2.2
 have hz1:=bd_eMatch (x:=m) (hb _ m1)
 have hl_m_Ids:=hz1.1
 have hl_m_Binds:=hz1.2
 have hp0:a.Kind=2→0≤a.N∧a.N<m.Ids.length:=hp _ m0
 have hp1:a.Args.length≤4294967295:=hp _ m1
 clear hp hb
 apply @ve _ (let x0:ByteArray:={data:= #[]:ByteArray};bif a.Kind==(2:Int) then(0:Int)≤a.N∧a.N.toNat<m.Ids.length∧Lf [DV.agg [CI a.Kind,CS x0,CL .eVal [],CI (List.getD m.Ids a.N.toNat (0:Int)),CI (0:Int),CS x0],VB (effectOk {Kind:=a.Kind,F:={Kind:=x0,Fields:=[]:DFact},Id:=List.getD m.Ids a.N.toNat (0:Int),N:=(0:Int),Undo:=x0:DEffect})] [DV.agg [CI ((effI m a).Kind),CS ((effI m a).F.Kind),CL .eVal (effI m a).F.Fields,CI ((effI m a).Id),CI ((effI m a).N),CS ((effI m a).Undo)],VB (okI m a)] else bif a.Kind==(1:Int) then bif a.Kind==(1:Int) then a.Args.length≤(4294967295:Nat)∧bif !compsB a.Args m.Binds then Lf [DV.agg [CI (0:Int),CS x0,CL .eVal [],CI (0:Int),CI (0:Int),CS x0],VB false] [DV.agg [CI ((effI m a).Kind),CS ((effI m a).F.Kind),CL .eVal (effI m a).F.Fields,CI ((effI m a).Id),CI ((effI m a).N),CS ((effI m a).Undo)],VB (okI m a)] else Lf [DV.agg [CI a.Kind,CS a.Name,CL .eVal (compsV a.Args m.Binds),CI (0:Int),CI a.N,CS a.Undo],VB (effectOk {Kind:=a.Kind,F:={Kind:=a.Name,Fields:=compsV a.Args m.Binds:DFact},Id:=(0:Int),N:=a.N,Undo:=a.Undo:DEffect})] [DV.agg [CI ((effI m a).Kind),CS ((effI m a).F.Kind),CL .eVal (effI m a).F.Fields,CI ((effI m a).Id),CI ((effI m a).N),CS ((effI m a).Undo)],VB (okI m a)] else Lf [DV.agg [CI a.Kind,CS x0,CL .eVal [],CI (0:Int),CI (0:Int),CS x0],VB (effectOk {Kind:=a.Kind,F:={Kind:=x0,Fields:=[]:DFact},Id:=(0:Int),N:=(0:Int),Undo:=x0:DEffect})] [DV.agg [CI ((effI m a).Kind),CS ((effI m a).F.Kind),CL .eVal (effI m a).F.Fields,CI ((effI m a).Id),CI ((effI m a).N),CS ((effI m a).Undo)],VB (okI m a)] else bif a.Kind==(3:Int) then bif a.Kind==(3:Int) then a.Args.length≤(4294967295:Nat)∧bif !compsB a.Args m.Binds then Lf [DV.agg [CI (0:Int),CS x0,CL .eVal [],CI (0:Int),CI (0:Int),CS x0],VB false] [DV.agg [CI ((effI m a).Kind),CS ((effI m a).F.Kind),CL .eVal (effI m a).F.Fields,CI ((effI m a).Id),CI ((effI m a).N),CS ((effI m a).Undo)],VB (okI m a)] else Lf [DV.agg [CI a.Kind,CS a.Name,CL .eVal (compsV a.Args m.Binds),CI (0:Int),CI a.N,CS a.Undo],VB (effectOk {Kind:=a.Kind,F:={Kind:=a.Name,Fields:=compsV a.Args m.Binds:DFact},Id:=(0:Int),N:=a.N,Undo:=a.Undo:DEffect})] [DV.agg [CI ((effI m a).Kind),CS ((effI m a).F.Kind),CL .eVal (effI m a).F.Fields,CI ((effI m a).Id),CI ((effI m a).N),CS ((effI m a).Undo)],VB (okI m a)] else Lf [DV.agg [CI a.Kind,CS x0,CL .eVal [],CI (0:Int),CI (0:Int),CS x0],VB (effectOk {Kind:=a.Kind,F:={Kind:=x0,Fields:=[]:DFact},Id:=(0:Int),N:=(0:Int),Undo:=x0:DEffect})] [DV.agg [CI ((effI m a).Kind),CS ((effI m a).F.Kind),CL .eVal (effI m a).F.Fields,CI ((effI m a).Id),CI ((effI m a).N),CS ((effI m a).Undo)],VB (okI m a)] else bif a.Kind==(4:Int) then a.Args.length≤(4294967295:Nat)∧bif !compsB a.Args m.Binds then Lf [DV.agg [CI (0:Int),CS x0,CL .eVal [],CI (0:Int),CI (0:Int),CS x0],VB false] [DV.agg [CI ((effI m a).Kind),CS ((effI m a).F.Kind),CL .eVal (effI m a).F.Fields,CI ((effI m a).Id),CI ((effI m a).N),CS ((effI m a).Undo)],VB (okI m a)] else Lf [DV.agg [CI a.Kind,CS a.Name,CL .eVal (compsV a.Args m.Binds),CI (0:Int),CI a.N,CS a.Undo],VB (effectOk {Kind:=a.Kind,F:={Kind:=a.Name,Fields:=compsV a.Args m.Binds:DFact},Id:=(0:Int),N:=a.N,Undo:=a.Undo:DEffect})] [DV.agg [CI ((effI m a).Kind),CS ((effI m a).F.Kind),CL .eVal (effI m a).F.Fields,CI ((effI m a).Id),CI ((effI m a).N),CS ((effI m a).Undo)],VB (okI m a)] else Lf [DV.agg [CI a.Kind,CS x0,CL .eVal [],CI (0:Int),CI (0:Int),CS x0],VB (effectOk {Kind:=a.Kind,F:={Kind:=x0,Fields:=[]:DFact},Id:=(0:Int),N:=(0:Int),Undo:=x0:DEffect})] [DV.agg [CI ((effI m a).Kind),CS ((effI m a).F.Kind),CL .eVal (effI m a).F.Fields,CI ((effI m a).Id),CI ((effI m a).N),CS ((effI m a).Undo)],VB (okI m a)]) (by kernel_rfl)
 dsimp only
 have hb:∀n:Int,a.Kind=n→(a.Kind==n)=true:=fun n h=>by rw[h];exact beq_self_eq_true n
 have hn:∀n:Int,¬a.Kind=n→(a.Kind==n)=false:=fun n h=>by rw[beq_eq_false_iff_ne];exact h
 by_cases h2:a.Kind=2
 ·have e:effI m a=⟨a.Kind,zFact,List.getD m.Ids a.N.toNat 0,0,noBytes⟩:=if_pos h2
  have hc:calcA a=false:=by simp[calcA,h2]
  simp only[hb 2 h2,cond_true]
  exact⟨(hp0 h2).1,by have:=hp0 h2;omega,LfE (a:=⟨a.Kind,zFact,List.getD m.Ids a.N.toNat 0,0,noBytes⟩) e.symm (by simp only[okI,hc,zea,Bool.true_or,zck,e];rfl)⟩
 have hN:calcA a=true→compsB a.Args m.Binds=false→effI m a=zEffect∧okI m a=false:=fun hc g=>⟨(if_neg h2).trans ((if_pos hc).trans (if_neg (by rw[g];decide))),by simp only[okI,hc,g];rfl⟩
 have hY:calcA a=true→compsB a.Args m.Binds=true→effI m a=⟨a.Kind,⟨a.Name,compsV a.Args m.Binds⟩,0,a.N,a.Undo⟩∧okI m a=effectOk ⟨a.Kind,⟨a.Name,compsV a.Args m.Binds⟩,0,a.N,a.Undo⟩:=fun hc g=>by
  have e:effI m a=⟨a.Kind,⟨a.Name,compsV a.Args m.Binds⟩,0,a.N,a.Undo⟩:=(if_neg h2).trans ((if_pos hc).trans (if_pos g))
  exact⟨e,by simp only[okI,hc,g,e];rfl⟩
 have fin:calcA a=true→a.Args.length≤4294967295∧bif !compsB a.Args m.Binds then Lf [.agg [.lit (.int .i64 0),.lit (.string ⟨#[]⟩),.sl .eVal [],.lit (.int .i64 0),.lit (.int .i64 0),.lit (.string ⟨#[]⟩)],.one (.lit (.bool false))] [.agg [.lit (.int .i64 (effI m a).Kind),.lit (.string (effI m a).F.Kind),.sl .eVal (effI m a).F.Fields,.lit (.int .i64 (effI m a).Id),.lit (.int .i64 (effI m a).N),.lit (.string (effI m a).Undo)],.one (.lit (.bool (okI m a)))] else Lf [.agg [.lit (.int .i64 a.Kind),.lit (.string a.Name),.sl .eVal (compsV a.Args m.Binds),.lit (.int .i64 0),.lit (.int .i64 a.N),.lit (.string a.Undo)],.one (.lit (.bool (effectOk ⟨a.Kind,⟨a.Name,compsV a.Args m.Binds⟩,0,a.N,a.Undo⟩)))] [.agg [.lit (.int .i64 (effI m a).Kind),.lit (.string (effI m a).F.Kind),.sl .eVal (effI m a).F.Fields,.lit (.int .i64 (effI m a).Id),.lit (.int .i64 (effI m a).N),.lit (.string (effI m a).Undo)],.one (.lit (.bool (okI m a)))]:=fun hc=>
  ⟨hp1,if_not (fun g=>LfE (a:=zEffect) (hN hc g).1.symm (hN hc g).2.symm) (fun g=>LfE (a:=⟨a.Kind,⟨a.Name,compsV a.Args m.Binds⟩,0,a.N,a.Undo⟩) (hY hc g).1.symm (hY hc g).2.symm)⟩
 by_cases h1:a.Kind=1
 ·simp only[hn 2 h2,hb 1 h1,cond_true,cond_false]
  exact fin (by simp[calcA,h1])
 by_cases h3:a.Kind=3
 ·simp only[hn 2 h2,hn 1 h1,hb 3 h3,cond_true,cond_false]
  exact fin (by simp[calcA,h3])
 by_cases h4:a.Kind=4
 ·simp only[hn 2 h2,hn 1 h1,hn 3 h3,hb 4 h4,cond_true,cond_false]
  exact fin (by simp[calcA,h4])
 have hc:calcA a=false:=by simp[calcA,h1,h3,h4]
 have e:effI m a=⟨a.Kind,zFact,0,0,noBytes⟩:=(if_neg h2).trans (if_neg (by rw[hc];decide))
 simp only[hn 2 h2,hn 1 h1,hn 3 h3,hn 4 h4,cond_true,cond_false]
 exact LfE (a:=⟨a.Kind,zFact,0,0,noBytes⟩) e.symm (by simp only[okI,hc,zea,Bool.true_or,zck,e];rfl)
def Zh49:HH:=⟨_,Zo49⟩
theorem eff_no{d:DDef}{m:DMatch}(h:effOk d m=false):Lf [.one (.sl .eEffect []),.one (.lit (.bool false))] [.one (.sl .eEffect (effs d m)),.one (.lit (.bool (effOk d m)))]:=
 LfES (by rw[effs,h];rfl) h.symm
theorem eff_no1{d:DDef}{m:DMatch}(h:mayE d m=false):effOk d m=false:=by rw[effOk,h];simp
theorem eff_all{d:DDef}{m:DMatch}(h:(actsOf d m).all (okS m)=false):effOk d m=false:=by rw[effOk,h];simp
theorem act_args{d:DDef}{m:DMatch}(h:hasR d m=true){i:Int}(h1:0≤i)(h2:i<(actsOf d m).length):(List.getD (actsOf d m) i.toNat zAct).Args.length≤sizeDef d:=by
 obtain⟨r1,r2⟩:=hasR_iff h
 have hs:=sum_getD_le sizeRule d.Rules zRule r1 r2
 have ht:=sum_getD_le sizeAct (actsOf d m) zAct h1 h2
 have e:(List.getD d.Rules m.Rule.toNat zRule).Acts=actsOf d m:=rfl
 simp only[sizeRule,e] at hs
 simp only[sizeAct,sizeExprS] at ht
 have e2:sizeActS (actsOf d m)=(actsOf d m).length+((actsOf d m).map sizeAct).sum:=rfl
 simp only[sizeDef,sizeRuleS]
 omega
def Zk7:Con UU where
 α:=DDef×DMatch
 md:=[.ro,.ro]
 of:=oC (oA .eDef) (o1 (oA .eMatch))
 ds:=fun x=>[dA .eDef x.1,dA .eMatch x.2]
 pre:=fun(d,m)=>[sizeDef d≤4294967295]
 res:=fun(d,m)=>⟨[dL .eEffect (effs d m),dO (effOk d m)],true,[]⟩
 law:=lC (lA .eDef) (l1 (lA .eMatch))
def Zi7_6(d:DDef)(m:DMatch):List DEffect×Int×(ByteArray×List DRule×Unit)×(Int×List Int×List DBind×Unit)×Unit→Prop:=fun(o,i,b,g,_)=>b=(d.Name,d.Rules,())∧g=(m.Rule,m.Ids,m.Binds,())∧mayE d m=true∧0≤i∧i≤(actsOf d m).length∧o=((actsOf d m).take i.toNat).map (effS m)∧((actsOf d m).drop i.toNat).all (okS m)=(actsOf d m).all (okS m)
def Zm7_6(d:DDef)(m:DMatch):List DEffect×Int×(ByteArray×List DRule×Unit)×(Int×List Int×List DBind×Unit)×Unit→Nat:=fun(o,i,b,g,_)=>(actsOf d m).length-i.toNat
def Za7:Zk7.α→Nat→Option (Ann UU):=fun(d,m)=>annL [(6,annOf [.slot 6 (6,1024) (.own .eEffect true),.slot 8 (8,1024) (.lit (.int .i64)),.box 2 (2,1024) [.lit .str,.shr .eRule],.box 3 (3,1024) [.lit (.int .i64),.shr .int,.shr .eBind]] (fun _=>Zi7_6 d m) (Zm7_6 d m))]
def Zu7:=us [Zh23,Zh24,Zh25,Zh26]
theorem Zo7:Holds EE (7,Zk7):=by
 refine holds_of EE_ok func7 Zk7 (by kernel_rfl) Zu7 (us_ok _) Za7 (fun x hp hb=> ?_)
 obtain⟨d,m⟩:=x
 have hz0:=bd_eDef (x:=d) (hb _ m0)
 have hl_d_Name:=hz0.1
 have hl_d_Rules:=hz0.2
 have hz1:=bd_eMatch (x:=m) (hb _ m1)
 have hl_m_Ids:=hz1.1
 have hl_m_Binds:=hz1.2
 have hp0:sizeDef d≤4294967295:=hp _ m0
 clear hp hb
 apply @ve _ (let x0:List DAct:=(List.getD d.Rules m.Rule.toNat zRule).Acts;sizeDef d≤(4294967295:Nat)∧bif !defOk d then Lf [VL .eEffect [],VB false] [VL .eEffect (effs d m),VB (effOk d m)] else bif !hasR d m then Lf [VL .eEffect [],VB false] [VL .eEffect (effs d m),VB (effOk d m)] else(0:Int)≤m.Rule∧m.Rule.toNat<d.Rules.length∧bif (m.Ids.length:Int) !=(↑(posN (List.getD d.Rules m.Rule.toNat zRule).Pats):Int) then Lf [VL .eEffect [],VB false] [VL .eEffect (effs d m),VB (effOk d m)] else(0:Int)≤m.Rule∧m.Rule.toNat<d.Rules.length∧Zi7_6 d m ([],(0:Int),(d.Name,d.Rules,()),(m.Rule,m.Ids,m.Binds,()),())∧∀(y:List DEffect×Int×(ByteArray×List DRule×PUnit)×(Int×List Int×List DBind×PUnit)×PUnit),let x2:DMatch:={Rule:=y.2.2.2.1.1,Ids:=y.2.2.2.1.2.1,Binds:=y.2.2.2.1.2.2.1:DMatch};let x4:Nat:=y.2.1.toNat;let x3:DAct:=List.getD x0 x4 zAct;let x1:List DEffect:=[effS x2 x3];Zi7_6 d m y→bif decide (y.2.1<(x0.length:Int)) then(0:Int)≤y.2.1∧x4<x0.length∧(x3.Kind=(2:Int)→(0:Int)≤x3.N∧x3.N<(y.2.2.2.1.2.1.length:Int))∧x3.Args.length≤(4294967295:Nat)∧bif !okS x2 x3 then Lf [VL .eEffect [],VB false] [VL .eEffect (effs d m),VB (effOk d m)] else y.1.length+x1.length≤(4294967296:Nat)∧Zi7_6 d m (y.1++x1,IntKind.wrap IntKind.i64 (y.2.1+(1:Int)),(y.2.2.1.1,y.2.2.1.2.1,()),(y.2.2.2.1.1,y.2.2.2.1.2.1,y.2.2.2.1.2.2.1,()),())∧Zm7_6 d m (y.1++x1,IntKind.wrap IntKind.i64 (y.2.1+(1:Int)),(y.2.2.1.1,y.2.2.1.2.1,()),(y.2.2.2.1.1,y.2.2.2.1.2.1,y.2.2.2.1.2.2.1,()),())<Zm7_6 d m y else Lf [VL .eEffect y.1,VB true] [VL .eEffect (effs d m),VB (effOk d m)]) (by kernel_rfl)
 dsimp only
 refine⟨hp0,if_not (fun h=>eff_no (by rw[effOk,show defOk d=false from h];rfl)) (fun hd=>if_not (fun h=>eff_no (eff_no1 (by rw[mayE,show hasR d m=false from h];rfl))) (fun hr=> ?_))⟩
 obtain⟨r1,r2⟩:=hasR_iff hr
 refine⟨r1,by omega,if_neq (fun h=>eff_no (eff_no1 (by rw[mayE,decide_eq_false (show¬m.Ids.length=posN (List.getD d.Rules m.Rule.toNat zRule).Pats by omega)];simp))) (fun hl=> ?_)⟩
 have hmay:mayE d m=true:=by rw[mayE,show hasR d m=true from hr,decide_eq_true (show m.Ids.length=posN (List.getD d.Rules m.Rule.toNat zRule).Pats by omega)];rfl
 obtain⟨ha1,ha2⟩:=acts_of hd hmay
 refine⟨r1,by omega,⟨rfl,rfl,hmay,by omega,by omega,by simp,rfl⟩,?_⟩
 rintro⟨o,i,⟨b1,b2,⟨⟩⟩,⟨g1,g2,g3,⟨⟩⟩,⟨⟩⟩ ⟨hb,hg,-,h1,h2,rfl,hR⟩
 cases hb
 cases hg
 have hx:(List.getD d.Rules m.Rule.toNat zRule).Acts=actsOf d m:=rfl
 simp only[hx]
 refine if_dec (fun hc=> ?_) (fun hc=> ?_)
 ·obtain⟨a1,a2⟩:=ha2 i h1 hc
  have has:=act_args hr h1 hc
  rw[all_step _ _ zAct h1 hc] at hR
  refine⟨h1,by omega,a2,by omega,if_not (fun g=> ?_) (fun g=> ?_)⟩
  ·exact eff_no (eff_all (by rw[←hR,show okS m (List.getD (actsOf d m) i.toNat zAct)=false from g];rfl))
  ·have g':okS m (List.getD (actsOf d m) i.toNat zAct)=true:=g
   rw[g',zck] at hR
   have hm:((actsOf d m).take i.toNat).map (effS m)++[effS m (List.getD (actsOf d m) i.toNat zAct)]=((actsOf d m).take (i+1).toNat).map (effS m):=by rw[←take_step (actsOf d m) zAct h1 hc,zef];rfl
   rw[wrap_i64 (by omega) (by omega)]
   exact⟨by simp only[zco,zaw,zbq,zbo];omega,⟨rfl,rfl,hmay,by omega,by omega,hm,hR⟩,by simp only[Zm7_6];omega⟩
 ·have e:(actsOf d m).drop i.toNat=[]:=List.drop_eq_nil_of_le (by omega)
  rw[e] at hR
  have hf:effOk d m=true:=by rw[effOk,hmay,←hR,show defOk d=true from hd];rfl
  rw[take_all (actsOf d m) (by omega)]
  exact LfES (by rw[effs,if_pos hf]) hf.symm
def Zh7:HH:=⟨_,Zo7⟩
def Zk22:Con UU where
 α:=DDef×DMatch
 md:=[.ro,.ro]
 of:=oC (oA .eDef) (o1 (oA .eMatch))
 ds:=fun x=>[dA .eDef x.1,dA .eMatch x.2]
 pre:=fun(d,m)=>[sizeDef d≤4294967295,defOk d=true]
 res:=fun(d,m)=>⟨[dL .eEffect (effs d m),dO (effOk d m)],true,[]⟩
 law:=lC (lA .eDef) (l1 (lA .eMatch))
def Zi22_5(d:DDef)(m:DMatch):List DEffect×Int×(ByteArray×List DRule×Unit)×(Int×List Int×List DBind×Unit)×Unit→Prop:=fun(o,i,b,g,_)=>b=(d.Name,d.Rules,())∧g=(m.Rule,m.Ids,m.Binds,())∧mayE d m=true∧0≤i∧i≤(actsOf d m).length∧o=((actsOf d m).take i.toNat).map (effS m)∧((actsOf d m).drop i.toNat).all (okS m)=(actsOf d m).all (okS m)
def Zm22_5(d:DDef)(m:DMatch):List DEffect×Int×(ByteArray×List DRule×Unit)×(Int×List Int×List DBind×Unit)×Unit→Nat:=fun(o,i,b,g,_)=>(actsOf d m).length-i.toNat
def Za22:Zk22.α→Nat→Option (Ann UU):=fun(d,m)=>annL [(5,annOf [.slot 6 (6,1024) (.own .eEffect true),.slot 36 (36,1024) (.lit (.int .i64)),.box 2 (2,1024) [.lit .str,.shr .eRule],.box 3 (3,1024) [.lit (.int .i64),.shr .int,.shr .eBind]] (fun _=>Zi22_5 d m) (Zm22_5 d m))]
def Zu22:=us [Zh47,Zh48,Zh49]
theorem Zo22:Holds EE (22,Zk22):=by
 refine holds_of EE_ok func22 Zk22 (by kernel_rfl) Zu22 (us_ok _) Za22 (fun x hp hb=> ?_)
 obtain⟨d,m⟩:=x
 have hz0:=bd_eDef (x:=d) (hb _ m0)
 have hl_d_Name:=hz0.1
 have hl_d_Rules:=hz0.2
 have hz1:=bd_eMatch (x:=m) (hb _ m1)
 have hl_m_Ids:=hz1.1
 have hl_m_Binds:=hz1.2
 have hp0:sizeDef d≤4294967295:=hp _ m0
 have hp1:defOk d=true:=hp _ m1
 clear hp hb
 apply @ve _ (let x0:List DAct:=(List.getD d.Rules m.Rule.toNat zRule).Acts;bif !hasR d m then Lf [VL .eEffect [],VB false] [VL .eEffect (effs d m),VB (effOk d m)] else(0:Int)≤m.Rule∧m.Rule.toNat<d.Rules.length∧bif (m.Ids.length:Int) !=(↑(posN (List.getD d.Rules m.Rule.toNat zRule).Pats):Int) then Lf [VL .eEffect [],VB false] [VL .eEffect (effs d m),VB (effOk d m)] else(0:Int)≤m.Rule∧m.Rule.toNat<d.Rules.length∧Zi22_5 d m ([],(0:Int),(d.Name,d.Rules,()),(m.Rule,m.Ids,m.Binds,()),())∧∀(y:List DEffect×Int×(ByteArray×List DRule×PUnit)×(Int×List Int×List DBind×PUnit)×PUnit),let x2:DMatch:={Rule:=y.2.2.2.1.1,Ids:=y.2.2.2.1.2.1,Binds:=y.2.2.2.1.2.2.1:DMatch};let x4:Nat:=y.2.1.toNat;let x3:DAct:=List.getD x0 x4 zAct;let x1:List DEffect:=[effI x2 x3];Zi22_5 d m y→bif decide (y.2.1<(x0.length:Int)) then(0:Int)≤y.2.1∧x4<x0.length∧(x3.Kind=(2:Int)→(0:Int)≤x3.N∧x3.N<(y.2.2.2.1.2.1.length:Int))∧x3.Args.length≤(4294967295:Nat)∧bif !okI x2 x3 then Lf [VL .eEffect [],VB false] [VL .eEffect (effs d m),VB (effOk d m)] else y.1.length+x1.length≤(4294967296:Nat)∧Zi22_5 d m (y.1++x1,IntKind.wrap IntKind.i64 (y.2.1+(1:Int)),(y.2.2.1.1,y.2.2.1.2.1,()),(y.2.2.2.1.1,y.2.2.2.1.2.1,y.2.2.2.1.2.2.1,()),())∧Zm22_5 d m (y.1++x1,IntKind.wrap IntKind.i64 (y.2.1+(1:Int)),(y.2.2.1.1,y.2.2.1.2.1,()),(y.2.2.2.1.1,y.2.2.2.1.2.1,y.2.2.2.1.2.2.1,()),())<Zm22_5 d m y else Lf [VL .eEffect y.1,VB true] [VL .eEffect (effs d m),VB (effOk d m)]) (by kernel_rfl)
 dsimp only
 have hd:=hp1
 refine if_not (fun h=>eff_no (eff_no1 (by rw[mayE,show hasR d m=false from h];rfl))) (fun hr=> ?_)
 obtain⟨r1,r2⟩:=hasR_iff hr
 refine⟨r1,by omega,if_neq (fun h=>eff_no (eff_no1 (by rw[mayE,decide_eq_false (show¬m.Ids.length=posN (List.getD d.Rules m.Rule.toNat zRule).Pats by omega)];simp))) (fun hl=> ?_)⟩
 have hmay:mayE d m=true:=by rw[mayE,show hasR d m=true from hr,decide_eq_true (show m.Ids.length=posN (List.getD d.Rules m.Rule.toNat zRule).Pats by omega)];rfl
 obtain⟨ha1,ha2⟩:=acts_of hd hmay
 refine⟨r1,by omega,⟨rfl,rfl,hmay,by omega,by omega,by simp,rfl⟩,?_⟩
 rintro⟨o,i,⟨b1,b2,⟨⟩⟩,⟨g1,g2,g3,⟨⟩⟩,⟨⟩⟩ ⟨hb,hg,-,h1,h2,rfl,hR⟩
 cases hb
 cases hg
 have hx:(List.getD d.Rules m.Rule.toNat zRule).Acts=actsOf d m:=rfl
 simp only[hx]
 refine if_dec (fun hc=> ?_) (fun hc=> ?_)
 ·obtain⟨a1,a2⟩:=ha2 i h1 hc
  have has:=act_args hr h1 hc
  rw[all_step _ _ zAct h1 hc] at hR
  obtain⟨s1,s2⟩:=act_same (m:=m) a1
  refine⟨h1,by omega,a2,by omega,if_not (fun g=> ?_) (fun g=> ?_)⟩
  ·exact eff_no (eff_all (by rw[←hR,show okS m (List.getD (actsOf d m) i.toNat zAct)=false from(s1.symm.trans g)];rfl))
  ·have g':okS m (List.getD (actsOf d m) i.toNat zAct)=true:=s1.symm.trans g
   rw[g',zck] at hR
   have hm:((actsOf d m).take i.toNat).map (effS m)++[effI m (List.getD (actsOf d m) i.toNat zAct)]=((actsOf d m).take (i+1).toNat).map (effS m):=by rw[←take_step (actsOf d m) zAct h1 hc,zef,s2 g'];rfl
   rw[wrap_i64 (by omega) (by omega)]
   exact⟨by simp only[zco,zaw,zbq,zbo];omega,⟨rfl,rfl,hmay,by omega,by omega,hm,hR⟩,by simp only[Zm22_5];omega⟩
 ·have e:(actsOf d m).drop i.toNat=[]:=List.drop_eq_nil_of_le (by omega)
  rw[e] at hR
  have hf:effOk d m=true:=by rw[effOk,hmay,←hR,show defOk d=true from hd];rfl
  rw[take_all (actsOf d m) (by omega)]
  exact LfES (by rw[effs,if_pos hf]) hf.symm
def Zh22:HH:=⟨_,Zo22⟩
def Zk6:Con UU where
 α:=DDef×DMatch
 md:=[.ro,.ro]
 of:=oC (oA .eDef) (o1 (oA .eMatch))
 ds:=fun x=>[dA .eDef x.1,dA .eMatch x.2]
 pre:=fun(d,m)=>[sizeDef d≤4294967295]
 res:=fun(d,m)=>⟨[dL .eEffect (effs d m),dO (effOk d m)],true,[]⟩
 law:=lC (lA .eDef) (l1 (lA .eMatch))
def Za6:Zk6.α→Nat→Option (Ann UU):=fun(d,m)=>annL []
def Zu6:=us [Zh21,Zh22]
theorem Zo6:Holds EE (6,Zk6):=by
 refine holds_of EE_ok func6 Zk6 (by kernel_rfl) Zu6 (us_ok _) Za6 (fun x hp hb=> ?_)
 obtain⟨d,m⟩:=x
 have hz0:=bd_eDef (x:=d) (hb _ m0)
 have hl_d_Name:=hz0.1
 have hl_d_Rules:=hz0.2
 have hz1:=bd_eMatch (x:=m) (hb _ m1)
 have hl_m_Ids:=hz1.1
 have hl_m_Binds:=hz1.2
 have hp0:sizeDef d≤4294967295:=hp _ m0
 clear hp hb
 apply @ve _ (bif !defOk d then Lf [VL .eEffect [],VB false] [VL .eEffect (effs d m),VB (effOk d m)] else sizeDef d≤(4294967295:Nat)∧defOk d=true∧Lf [VL .eEffect (effs d m),VB (effOk d m)] [VL .eEffect (effs d m),VB (effOk d m)]) (by kernel_rfl)
 refine if_not (fun h=>eff_no (by rw[effOk,show defOk d=false from h];rfl)) (fun h=>⟨hp0,h,Lf_rfl _⟩)
def Zh6:HH:=⟨_,Zo6⟩
def matN(c:DCur):Int:=1+belowV c 3
def matC(c:DCur):DCur:=belowC c 3
def matchD(c:DCur):DMatch:=⟨belowV c 3,iterL matN matC (belowV (belowC c 3) 4).toNat [] (belowC (belowC c 3) 4),[]⟩
def matchDC(c:DCur):DCur:=iterC matC (belowV (belowC c 3) 4).toNat (belowC (belowC c 3) 4)
theorem cOk_mat{c:DCur}(h:cOk c):cOk (matC c):=cOk_below h 3
theorem cOk_matchD{c:DCur}(h:cOk c):cOk (matchDC c):=cOk_iter (fun _=>cOk_mat) (cOk_below (cOk_below h _) _)
def efD(code:List Int):DDef:=defD (newCur code)
def efC1(code:List Int):DCur:=defDC (newCur code)
def efSet(code:List Int):List DMatch:=allM (efD code).Rules (storeD (efC1 code)).Items
def efC2(code:List Int):DCur:=storeDC (efC1 code)
def efC3(code:List Int):DCur:=matchDC (efC2 code)
def efPick(code:List Int):Prop:=0<(efSet code).length∧onceV (efC3 code) 5=false
instance (code:List Int):Decidable (efPick code):=instDecidableAnd
def efC4(code:List Int):DCur:=if 0<(efSet code).length then belowC (efC3 code) 5 else efC3 code
def efM1(code:List Int):DMatch:=if efPick code then List.getD (efSet code) (belowV (efC4 code) (efSet code).length).toNat zMatch else matchD (efC2 code)
def efC5(code:List Int):DCur:=if efPick code then belowC (efC4 code) (efSet code).length else efC4 code
def efM(code:List Int):DMatch:=⟨(efM1 code).Rule,(efM1 code).Ids,if onceV (efC5 code) 8=true∧0<(efM1 code).Binds.length then(efM1 code).Binds.drop 1 else(efM1 code).Binds⟩
theorem LdMt{a a':DMatch}{d d':DCur}(h1:a=a')(h2:d=d'):asD [DV.agg [.lit (.int .i64 a.Rule),.sl .int a.Ids,.sl .eBind a.Binds]]=asD [DV.agg [.lit (.int .i64 a'.Rule),.sl .int a'.Ids,.sl .eBind a'.Binds]]∧asD [DV.box [.sl .byte d.b,.lit (.int .i64 d.i),.lit (.int .i64 d.h)]]=asD [DV.box [.sl .byte d'.b,.lit (.int .i64 d'.i),.lit (.int .i64 d'.h)]]:=by
 subst h1 h2;exact⟨rfl,rfl⟩
theorem efM_plain{code:List Int}(n:¬efPick code):efM code=matchD (efC2 code):=by
 have e:efM1 code=matchD (efC2 code):=if_neg n
 have h:¬(onceV (efC5 code) 8=true∧0<(matchD (efC2 code)).Binds.length):=fun e=>Nat.lt_irrefl 0 e.2
 rw[efM,e,if_neg h]
def Zk18:Con UU where
 α:=DCur
 md:=[.box false]
 of:=fun|[.box [.sl .byte a0,.lit (.int .i64 a1),.lit (.int .i64 a2)]]=>some ⟨a0,a1,a2⟩|_=>none
 ds:=fun c=>[.box [.sl .byte c.b,.lit (.int .i64 c.i),.lit (.int .i64 c.h)]]
 pre:=fun c=>[cOk c]
 res:=fun c=>⟨[.agg [.lit (.int .i64 ((matchD c)).Rule),.sl .int ((matchD c)).Ids,.sl .eBind ((matchD c)).Binds]],true,[.box [.sl .byte ((matchDC c)).b,.lit (.int .i64 ((matchDC c)).i),.lit (.int .i64 ((matchDC c)).h)]]⟩
 law:=by intro l x h;(try simp only at h);split at h<;>cases h;rfl
def Zi18_3(c:DCur):Int×(Int×List Int×List DBind×Unit)×(Int×List Int×List DBind×Unit)×(List Int×Int×Int×Unit)×Unit→Prop:=fun(i,q,m,cu,_)=>m.1=belowV c 3∧m.2.2.1=[]∧0≤i∧i≤3∧m.2.1.length+i≤3∧cOk ⟨cu.1,cu.2.1,cu.2.2.1⟩∧iterL matN matC i.toNat m.2.1 ⟨cu.1,cu.2.1,cu.2.2.1⟩=(matchD c).Ids∧iterC matC i.toNat ⟨cu.1,cu.2.1,cu.2.2.1⟩=matchDC c
def Zm18_3(c:DCur):Int×(Int×List Int×List DBind×Unit)×(Int×List Int×List DBind×Unit)×(List Int×Int×Int×Unit)×Unit→Nat:=fun(i,q,m,cu,_)=>i.toNat
def Za18:Zk18.α→Nat→Option (Ann UU):=fun c=>annL [(3,annOf [.slot 4 (4,1024) (.lit (.int .i64)),.box 2 (2,1024) [.lit (.int .i64),.own .int true,.own .eBind true],.box 3 (3,1024) [.lit (.int .i64),.own .int true,.own .eBind true],.box 0 (2000000,0) [.shr .byte,.lit (.int .i64),.lit (.int .i64)]] (fun _=>Zi18_3 c) (Zm18_3 c))]
def Zu18:=us [Zh20]
theorem Zo18:Holds EE (18,Zk18):=by
 refine holds_of EE_ok func18 Zk18 (by kernel_rfl) Zu18 (us_ok _) Za18 (fun(c:DCur) hp hb=> ?_)
 have hb_c:BdDV (U:=UU) (.box [.sl .byte c.b,.lit (.int .i64 c.i),.lit (.int .i64 c.h)]):=hb _ (zab)
 have hl_c_b:c.b.length≤9223372036854775807:=Bd.len (U:=UU) (τ:=.byte) (xs:=c.b) (hb_c _ (by simp))
 have hp0:cOk c:=hp _ (zab)
 clear hp hb
 apply @ve _ (let x0:DCur:=belowC (belowC c (3:Int)) (4:Int);(0:Int)≤c.i∧c.b.length≤(4294967296:Nat)∧(0:Int)≤(belowC c (3:Int)).i∧List.length (belowC c (3:Int)).b≤(4294967296:Nat)∧Zi18_3 c (belowV (belowC c (3:Int)) (4:Int),((0:Int),[],[],()),(belowV c (3:Int),[],[],()),(x0.b,x0.i,x0.h,()),())∧∀(y:Int×(Int×List Int×List DBind×PUnit)×(Int×List Int×List DBind×PUnit)×(List Int×Int×Int×PUnit)×PUnit),let x3:DCur:={b:=y.2.2.2.1.1,i:=y.2.2.2.1.2.1,h:=y.2.2.2.1.2.2.1:DCur};let x1:DCur:=belowC x3 (3:Int);let x2:List Int:=[IntKind.wrap IntKind.i64 ((1:Int)+belowV x3 (3:Int))];Zi18_3 c y→bif decide (y.1>(0:Int)) then(0:Int)≤y.2.2.2.1.2.1∧y.2.2.2.1.1.length≤(4294967296:Nat)∧y.2.2.1.2.1.length+x2.length≤(4294967296:Nat)∧Zi18_3 c (IntKind.wrap IntKind.i64 (y.1-(1:Int)),(y.2.1.1,y.2.1.2.1,y.2.1.2.2.1,()),(y.2.2.1.1,y.2.2.1.2.1++x2,y.2.2.1.2.2.1,()),(x1.b,x1.i,x1.h,()),())∧Zm18_3 c (IntKind.wrap IntKind.i64 (y.1-(1:Int)),(y.2.1.1,y.2.1.2.1,y.2.1.2.2.1,()),(y.2.2.1.1,y.2.2.1.2.1++x2,y.2.2.1.2.2.1,()),(x1.b,x1.i,x1.h,()),())<Zm18_3 c y else(0:Nat)=(0:Nat)∧asD [DV.agg [CI y.2.2.1.1,CL .int y.2.2.1.2.1,CL .eBind y.2.2.1.2.2.1]]=asD [DV.agg [CI ((matchD c).Rule),CL .int (matchD c).Ids,CL .eBind (matchD c).Binds]]∧asD [DV.box [CL .byte y.2.2.2.1.1,CI y.2.2.2.1.2.1,CI y.2.2.2.1.2.2.1]]=asD [DV.box [CL .byte (matchDC c).b,CI ((matchDC c).i),CI ((matchDC c).h)]]) (by kernel_rfl)
 dsimp only
 have h3:=cOk_below hp0 3
 have hb:=belowV_lt (c:=belowC c 3) (n:=4) (by omega)
 refine⟨hp0.1,hp0.2,h3.1,h3.2,⟨rfl,rfl,by omega,by omega,by simp only[zbo];omega,cOk_below h3 4,rfl,rfl⟩,?_⟩
 rintro⟨i,⟨q1,q2,q3,⟨⟩⟩,⟨m1,m2,m3,⟨⟩⟩,⟨cb,ci,ch,⟨⟩⟩,⟨⟩⟩ ⟨e1,e2,g1,g2,g3,g4,g5,g6⟩
 simp only at e1 e2 g1 g2 g3 g4 g5 g6⊢
 subst e1 e2
 refine if_dec (fun hc=> ?_) (fun hc=> ?_)
 ·have hd:=belowV_lt (c:=⟨cb,ci,ch⟩) (n:=3) (by omega)
  have e:i.toNat=(i-1).toNat+1:=by omega
  rw[e] at g5 g6
  rw[wrap_i64 (n:=1+belowV ⟨cb,ci,ch⟩ 3) (by omega) (by omega),wrap_i64 (n:=i-1) (by omega) (by omega)]
  exact⟨g4.1,g4.2,by simp only[zbq,zbo];omega,⟨rfl,rfl,by omega,by omega,by simp only[zce,zbq,zbo];omega,cOk_mat g4,g5,g6⟩,by simp only[Zm18_3];omega⟩
 ·have e:i.toNat=0:=by omega
  rw[e] at g5 g6
  have g5:m2=(matchD c).Ids:=g5
  have g6:(⟨cb,ci,ch⟩:DCur)=matchDC c:=g6
  exact⟨by trivial,LdMt (a:=⟨belowV c 3,m2,[]⟩) (a':=matchD c) (d:=⟨cb,ci,ch⟩) (d':=matchDC c) (by rw[g5];rfl) g6⟩
def Zh18:HH:=⟨_,Zo18⟩
def Zk9:Con UU where
 α:=(List Int)
 md:=[.ro]
 of:=o1 (oL .byte)
 ds:=fun x=>[dL .byte x]
 pre:=fun code=>[code.length≤4294967296]
 res:=fun code=>⟨[dA .eFact (factV (newCur code)),dA .eFact (factV (factC (newCur code))),dA .eFact (factV (factC (factC (newCur code))))],true,[]⟩
 law:=l1 (lL .byte)
def Za9:Zk9.α→Nat→Option (Ann UU):=fun code=>annL []
def Zu9:=us [Zh14,Zh30]
theorem Zo9:Holds EE (9,Zk9):=by
 refine holds_of EE_ok func9 Zk9 (by kernel_rfl) Zu9 (us_ok _) Za9 (fun(code:(List Int)) hp hb=> ?_)
 have hl_code:code.length≤9223372036854775807:=bdL (hb _ m0)
 have hp0:code.length≤4294967296:=hp _ m0
 clear hp hb
 apply @ve _ (code.length≤(4294967296:Nat)∧cOk (newCur code)∧cOk (factC (newCur code))∧cOk (factC (factC (newCur code)))∧Lf [DV.agg [CS ((factV (newCur code)).Kind),CL .eVal (factV (newCur code)).Fields],DV.agg [CS ((factV (factC (newCur code))).Kind),CL .eVal (factV (factC (newCur code))).Fields],DV.agg [CS ((factV (factC (factC (newCur code)))).Kind),CL .eVal (factV (factC (factC (newCur code)))).Fields]] [DV.agg [CS ((factV (newCur code)).Kind),CL .eVal (factV (newCur code)).Fields],DV.agg [CS ((factV (factC (newCur code))).Kind),CL .eVal (factV (factC (newCur code))).Fields],DV.agg [CS ((factV (factC (factC (newCur code)))).Kind),CL .eVal (factV (factC (factC (newCur code)))).Fields]]) (by kernel_rfl)
 have h1:=cOk_new hp0
 exact⟨hp0,h1,cOk_fact h1,cOk_fact (cOk_fact h1),Lf_rfl _⟩
def Zh9:HH:=⟨_,Zo9⟩
def Zk5:Con UU where
 α:=(List Int)
 md:=[.ro]
 of:=o1 (oL .byte)
 ds:=fun x=>[dL .byte x]
 pre:=fun code=>[code.length≤4294967296]
 res:=fun code=>⟨[dA .eDef (efD code),dA .eMatch (efM code)],false,[]⟩
 law:=l1 (lL .byte)
def Za5:Zk5.α→Nat→Option (Ann UU):=fun code=>annL []
def Zu5:=us [Zh14,Zh15,Zh17,Zh16,Zh18,Zh19,Zh20]
def I_spec_DrawEffectsOf_cut(code:(List Int)):List DMatch×(List Int×Int×Int×Unit)×(ByteArray×List DRule×Unit)×(Int×List Int×List DBind×Unit)×(ByteArray×List DRule×Unit)×(Int×List Int×List DBind×Unit)×Unit→Prop:=fun(set,cu,d,m,q2,q3,_)=>set=efSet code∧d=((efD code).Name,(efD code).Rules,())∧m=((matchD (efC2 code)).Rule,(matchD (efC2 code)).Ids,(matchD (efC2 code)).Binds,())∧cOk ⟨cu.1,cu.2.1,cu.2.2.1⟩∧(⟨cu.1,cu.2.1,cu.2.2.1⟩:DCur)=efC3 code
def cut_spec_DrawEffectsOf:Zk5.α→Ann UU:=fun code=>annOf [.slot 6 (6,1024) (.shr .eMatch),.box 4 (4,1024) [.shr .byte,.lit (.int .i64),.lit (.int .i64)],.box 5 (5,1024) [.lit .str,.own .eRule true],.box 7 (7,1024) [.lit (.int .i64),.own .int true,.own .eBind true],.box 2 (2,1024) [.lit .str,.own .eRule true],.box 3 (3,1024) [.lit (.int .i64),.own .int true,.own .eBind true]] (fun _=>I_spec_DrawEffectsOf_cut code) (fun _=>0)
theorem Zw5(code:(List Int))(y:List DMatch×(List Int×Int×Int×Unit)×(ByteArray×List DRule×Unit)×(Int×List Int×List DBind×Unit)×(ByteArray×List DRule×Unit)×(Int×List Int×List DBind×Unit)×Unit):goalCB EE Zu5 f5 Zk5 Za5 code 5 (cut_spec_DrawEffectsOf code) y=(let x1:DCur:={b:=y.2.1.1,i:=y.2.1.2.1,h:=y.2.1.2.2.1:DCur};
let x3:Nat:=List.length y.2.2.2.1.2.2.1;
let x5:Int:=Option.getD (some (1:Int)) (0:Int);
let x8:Int:=(↑(List.length y.1):Int);
let x0:DCur:=belowC x1 (5:Int);
let x2:Int:=(↑x3:Int);
let x7:DMatch:=List.getD y.1 (Int.toNat (belowV x0 x8)) zMatch;
let x6:List DBind:=x7.Binds;
let x4:Int:=(↑(List.length x6):Int);
bif decide (x8>(0:Int)) then cOk x1∧bif !onceV x1 (5:Int) then(0:Int)≤x0.i∧List.length x0.b≤(4294967296:Nat)∧(0:Int)≤belowV x0 x8∧Int.toNat (belowV x0 x8)<List.length y.1∧cOk (belowC x0 x8)∧bif onceV (belowC x0 x8) (8:Int) then bif decide (x4>(0:Int)) then(0:Int)≤x5∧x5≤Option.getD none x4∧Option.getD none x4≤x4∧Lf [DV.agg [Cell.lit (Value.string y.2.2.1.1),Cell.sl Cd.eRule y.2.2.1.2.1],DV.agg [Cell.lit (Value.int IntKind.i64 x7.Rule),Cell.sl Cd.int x7.Ids,Cell.sl Cd.eBind (List.drop (Int.toNat x5) (List.take (Int.toNat (Option.getD none x4)) x6))]] [DV.agg [Cell.lit (Value.string (efD code).Name),Cell.sl Cd.eRule (efD code).Rules],DV.agg [Cell.lit (Value.int IntKind.i64 (efM code).Rule),Cell.sl Cd.int (efM code).Ids,Cell.sl Cd.eBind (efM code).Binds]] else Lf [DV.agg [Cell.lit (Value.string y.2.2.1.1),Cell.sl Cd.eRule y.2.2.1.2.1],DV.agg [Cell.lit (Value.int IntKind.i64 x7.Rule),Cell.sl Cd.int x7.Ids,Cell.sl Cd.eBind x6]] [DV.agg [Cell.lit (Value.string (efD code).Name),Cell.sl Cd.eRule (efD code).Rules],DV.agg [Cell.lit (Value.int IntKind.i64 (efM code).Rule),Cell.sl Cd.int (efM code).Ids,Cell.sl Cd.eBind (efM code).Binds]] else Lf [DV.agg [Cell.lit (Value.string y.2.2.1.1),Cell.sl Cd.eRule y.2.2.1.2.1],DV.agg [Cell.lit (Value.int IntKind.i64 x7.Rule),Cell.sl Cd.int x7.Ids,Cell.sl Cd.eBind x6]] [DV.agg [Cell.lit (Value.string (efD code).Name),Cell.sl Cd.eRule (efD code).Rules],DV.agg [Cell.lit (Value.int IntKind.i64 (efM code).Rule),Cell.sl Cd.int (efM code).Ids,Cell.sl Cd.eBind (efM code).Binds]] else cOk x0∧bif onceV x0 (8:Int) then bif decide (x2>(0:Int)) then(0:Int)≤x5∧x5≤Option.getD none x2∧Option.getD none x2≤x2∧Nat.le (Int.toNat (Option.getD none x2)) x3∧Lf [DV.agg [Cell.lit (Value.string y.2.2.1.1),Cell.sl Cd.eRule y.2.2.1.2.1],DV.agg [Cell.lit (Value.int IntKind.i64 y.2.2.2.1.1),Cell.sl Cd.int y.2.2.2.1.2.1,Cell.sl Cd.eBind (List.drop (nat_lit 1) (List.take (Int.toNat (Option.getD none x2)) y.2.2.2.1.2.2.1))]] [DV.agg [Cell.lit (Value.string (efD code).Name),Cell.sl Cd.eRule (efD code).Rules],DV.agg [Cell.lit (Value.int IntKind.i64 (efM code).Rule),Cell.sl Cd.int (efM code).Ids,Cell.sl Cd.eBind (efM code).Binds]] else Lf [DV.agg [Cell.lit (Value.string y.2.2.1.1),Cell.sl Cd.eRule y.2.2.1.2.1],DV.agg [Cell.lit (Value.int IntKind.i64 y.2.2.2.1.1),Cell.sl Cd.int y.2.2.2.1.2.1,Cell.sl Cd.eBind y.2.2.2.1.2.2.1]] [DV.agg [Cell.lit (Value.string (efD code).Name),Cell.sl Cd.eRule (efD code).Rules],DV.agg [Cell.lit (Value.int IntKind.i64 (efM code).Rule),Cell.sl Cd.int (efM code).Ids,Cell.sl Cd.eBind (efM code).Binds]] else Lf [DV.agg [Cell.lit (Value.string y.2.2.1.1),Cell.sl Cd.eRule y.2.2.1.2.1],DV.agg [Cell.lit (Value.int IntKind.i64 y.2.2.2.1.1),Cell.sl Cd.int y.2.2.2.1.2.1,Cell.sl Cd.eBind y.2.2.2.1.2.2.1]] [DV.agg [Cell.lit (Value.string (efD code).Name),Cell.sl Cd.eRule (efD code).Rules],DV.agg [Cell.lit (Value.int IntKind.i64 (efM code).Rule),Cell.sl Cd.int (efM code).Ids,Cell.sl Cd.eBind (efM code).Binds]] else cOk x1∧bif onceV x1 (8:Int) then bif decide (x2>(0:Int)) then(0:Int)≤x5∧x5≤Option.getD none x2∧Option.getD none x2≤x2∧Nat.le (Int.toNat (Option.getD none x2)) x3∧Lf [DV.agg [Cell.lit (Value.string y.2.2.1.1),Cell.sl Cd.eRule y.2.2.1.2.1],DV.agg [Cell.lit (Value.int IntKind.i64 y.2.2.2.1.1),Cell.sl Cd.int y.2.2.2.1.2.1,Cell.sl Cd.eBind (List.drop (nat_lit 1) (List.take (Int.toNat (Option.getD none x2)) y.2.2.2.1.2.2.1))]] [DV.agg [Cell.lit (Value.string (efD code).Name),Cell.sl Cd.eRule (efD code).Rules],DV.agg [Cell.lit (Value.int IntKind.i64 (efM code).Rule),Cell.sl Cd.int (efM code).Ids,Cell.sl Cd.eBind (efM code).Binds]] else Lf [DV.agg [Cell.lit (Value.string y.2.2.1.1),Cell.sl Cd.eRule y.2.2.1.2.1],DV.agg [Cell.lit (Value.int IntKind.i64 y.2.2.2.1.1),Cell.sl Cd.int y.2.2.2.1.2.1,Cell.sl Cd.eBind y.2.2.2.1.2.2.1]] [DV.agg [Cell.lit (Value.string (efD code).Name),Cell.sl Cd.eRule (efD code).Rules],DV.agg [Cell.lit (Value.int IntKind.i64 (efM code).Rule),Cell.sl Cd.int (efM code).Ids,Cell.sl Cd.eBind (efM code).Binds]] else Lf [DV.agg [Cell.lit (Value.string y.2.2.1.1),Cell.sl Cd.eRule y.2.2.1.2.1],DV.agg [Cell.lit (Value.int IntKind.i64 y.2.2.2.1.1),Cell.sl Cd.int y.2.2.2.1.2.1,Cell.sl Cd.eBind y.2.2.2.1.2.2.1]] [DV.agg [Cell.lit (Value.string (efD code).Name),Cell.sl Cd.eRule (efD code).Rules],DV.agg [Cell.lit (Value.int IntKind.i64 (efM code).Rule),Cell.sl Cd.int (efM code).Ids,Cell.sl Cd.eBind (efM code).Binds]]):=by kernel_rfl
theorem vb_spec_DrawEffectsOf(code:(List Int))(y:List DMatch×(List Int×Int×Int×Unit)×(ByteArray×List DRule×Unit)×(Int×List Int×List DBind×Unit)×(ByteArray×List DRule×Unit)×(Int×List Int×List DBind×Unit)×Unit)(hp:∀p∈Zk5.pre code,p)(hb:∀d∈Zk5.ds code,BdDV d)(hy:I_spec_DrawEffectsOf_cut code y):goalCB EE Zu5 f5 Zk5 Za5 code 5 (cut_spec_DrawEffectsOf code) y:=by
 have hl_code:code.length≤9223372036854775807:=bdL (hb _ m0)
 have hp0:code.length≤4294967296:=hp _ m0
 clear hp hb
 rw[Zw5 code y]
 dsimp only
 obtain⟨set,⟨cb,ci,ch,⟨⟩⟩,⟨d1,d2,⟨⟩⟩,⟨m1,m2,m3,⟨⟩⟩,⟨q1,q2,⟨⟩⟩,⟨q3,q4,q5,⟨⟩⟩,⟨⟩⟩:=y
 obtain⟨hset,hd,hm,g4,g7⟩:=hy
 have hset:set=efSet code:=hset
 have u1:d1=(efD code).Name:=congrArg Prod.fst hd
 have u2:d2=(efD code).Rules:=congrArg (fun t=>t.2.1) hd
 have v1:m1=(matchD (efC2 code)).Rule:=congrArg Prod.fst hm
 have v2:m2=(matchD (efC2 code)).Ids:=congrArg (fun t=>t.2.1) hm
 have v3:m3=(matchD (efC2 code)).Binds:=congrArg (fun t=>t.2.2.1) hm
 clear hd hm
 subst hset u1 u2 v1 v2 v3
 have g4:cOk ⟨cb,ci,ch⟩:=g4
 have g7:(⟨cb,ci,ch⟩:DCur)=efC3 code:=g7
 generalize (⟨cb,ci,ch⟩:DCur)=cu at*
 have fin:∀m:DMatch,m=efM code→Lf [.agg [.lit (.string (efD code).Name),.sl .eRule (efD code).Rules],.agg [.lit (.int .i64 m.Rule),.sl .int m.Ids,.sl .eBind m.Binds]] [.agg [.lit (.string (efD code).Name),.sl .eRule (efD code).Rules],.agg [.lit (.int .i64 (efM code).Rule),.sl .int (efM code).Ids,.sl .eBind (efM code).Binds]]:=by
  intro m e
  rw[e];exact Lf_rfl _
 have hB:=cOk_below g4 5
 have h0:¬(((matchD (efC2 code)).Binds.length:Nat):Int)>0:=by
  show¬((0:Nat):Int)>0
  omega
 refine if_dec (fun h=>⟨g4,if_not (fun o=> ?_) (fun o=>⟨hB,?_⟩)⟩) (fun h=>⟨g4,?_⟩)
 ·have h:((efSet code).length:Int)>0:=h
  have pk:efPick code:=⟨by omega,by rw[←g7];exact o⟩
  have hb:=belowV_lt (c:=belowC cu 5) (n:=((efSet code).length:Int)) (by omega)
  have e4:efC4 code=belowC cu 5:=(if_pos pk.1).trans (by rw[g7])
  have eM:efM1 code=List.getD (efSet code) (belowV (belowC cu 5) (efSet code).length).toNat zMatch:=(if_pos pk).trans (by rw[e4])
  have e5:efC5 code=belowC (belowC cu 5) (efSet code).length:=(if_pos pk).trans (by rw[e4])
  have hbn:Int.toNat (belowV (belowC cu 5) ((efSet code).length:Int))<(efSet code).length:=by omega
  refine⟨hB.1,hB.2,hb.1,hbn,cOk_below hB _,if_cond (fun w=>if_dec (fun b=>⟨by decide,?_,Int.le_refl _,?_⟩) (fun b=> ?_)) (fun w=> ?_)⟩
  ·show(1:Int)≤((List.getD (efSet code) (belowV (belowC cu 5) (efSet code).length).toNat zMatch).Binds.length:Int)
   have b:((List.getD (efSet code) (belowV (belowC cu 5) (efSet code).length).toNat zMatch).Binds.length:Int)>0:=b
   omega
  ·have b:((List.getD (efSet code) (belowV (belowC cu 5) (efSet code).length).toNat zMatch).Binds.length:Int)>0:=b
   have ht:List.take (Int.toNat ((List.getD (efSet code) (belowV (belowC cu 5) (efSet code).length).toNat zMatch).Binds.length:Int)) (List.getD (efSet code) (belowV (belowC cu 5) (efSet code).length).toNat zMatch).Binds=(List.getD (efSet code) (belowV (belowC cu 5) (efSet code).length).toNat zMatch).Binds:=zcy (by omega)
   refine fin ⟨_,_,List.drop 1 (List.take (Int.toNat ((List.getD (efSet code) (belowV (belowC cu 5) (efSet code).length).toNat zMatch).Binds.length:Int)) (List.getD (efSet code) (belowV (belowC cu 5) (efSet code).length).toNat zMatch).Binds)⟩ ?_
   rw[ht,efM,eM,e5,if_pos ⟨w,by omega⟩]
  ·have b:¬((List.getD (efSet code) (belowV (belowC cu 5) (efSet code).length).toNat zMatch).Binds.length:Int)>0:=b
   refine fin (List.getD (efSet code) (belowV (belowC cu 5) (efSet code).length).toNat zMatch) ?_
   rw[efM,eM,e5,if_neg (fun e=>b (by have:=e.2;omega))]
  ·refine fin (List.getD (efSet code) (belowV (belowC cu 5) (efSet code).length).toNat zMatch) ?_
   rw[efM,eM,e5,if_neg (fun e=>absurd (w.symm.trans e.1) (by decide))]
 ·have o2:onceV (efC3 code) 5=true:=by rw[←g7];exact o
  have n:¬efPick code:=fun e=>absurd (o2.symm.trans e.2) (by decide)
  exact if_cond (fun w=>if_dec (fun b=>absurd b h0) (fun b=>fin (matchD (efC2 code)) (efM_plain n).symm)) (fun w=>fin (matchD (efC2 code)) (efM_plain n).symm)
 ·have h:¬((efSet code).length:Int)>0:=h
  have n:¬efPick code:=fun e=>h (by have:=e.1;omega)
  exact if_cond (fun w=>if_dec (fun b=>absurd b h0) (fun b=>fin (matchD (efC2 code)) (efM_plain n).symm)) (fun w=>fin (matchD (efC2 code)) (efM_plain n).symm)
theorem vd_spec_DrawEffectsOf(code:(List Int))(hp:∀p∈Zk5.pre code,p)(hb:∀d∈Zk5.ds code,BdDV d):goalCA EE Zu5 f5 Zk5 Za5 code 5 (cut_spec_DrawEffectsOf code):=by
 have hl_code:code.length≤9223372036854775807:=bdL (hb _ m0)
 have hp0:code.length≤4294967296:=hp _ m0
 clear hp hb
 apply @ve _ (code.length≤(4294967296:Nat)∧cOk (newCur code)∧cOk (defDC (newCur code))∧(∀(r:DRule),r∈(defD (newCur code)).Rules→smallR r)∧(List.length (storeD (defDC (newCur code))).Items≤(40:Nat)∧List.length (defD (newCur code)).Rules≤(12:Nat))∧(∀(r:DRule),r∈(defD (newCur code)).Rules→firstP r)∧cOk (storeDC (defDC (newCur code)))∧I_spec_DrawEffectsOf_cut code (allM (defD (newCur code)).Rules (storeD (defDC (newCur code))).Items,((matchDC (storeDC (defDC (newCur code)))).b,(matchDC (storeDC (defDC (newCur code)))).i,(matchDC (storeDC (defDC (newCur code)))).h,()),((defD (newCur code)).Name,(defD (newCur code)).Rules,()),((matchD (storeDC (defDC (newCur code)))).Rule,(matchD (storeDC (defDC (newCur code)))).Ids,(matchD (storeDC (defDC (newCur code)))).Binds,()),({data:= #[]:ByteArray},[],()),((0:Int),[],[],()),())) (by kernel_rfl)
 have hN:=cOk_new hp0
 have hD:=cOk_defD hN
 have hS:=cOk_storeD hD
 have hF:=defD_facts (newCur code)
 have hl:=storeD_len (defDC (newCur code))
 exact⟨hp0,hN,hD,fun r hr=>(hF.1 r hr).1,⟨by omega,hF.2.1⟩,fun r hr=>(hF.1 r hr).2,hS,⟨rfl,rfl,rfl,cOk_matchD hS,by rw[efC3,efC2,efC1]⟩⟩
attribute [local irreducible] goalCA goalCB in
theorem Zo5:Holds EE (5,Zk5):=by
 refine holds_cut EE_ok func5 Zk5 (by kernel_rfl) Zu5 (us_ok _) Za5 5 cut_spec_DrawEffectsOf (by kernel_rfl) (fun(code:(List Int)) hp hb=> ?_)
 refine⟨vd_spec_DrawEffectsOf code hp hb,fun(y:List DMatch×(List Int×Int×Int×Unit)×(ByteArray×List DRule×Unit)×(Int×List Int×List DBind×Unit)×(ByteArray×List DRule×Unit)×(Int×List Int×List DBind×Unit)×Unit) hy=> ?_⟩
 have hy:I_spec_DrawEffectsOf_cut code y:=hy
 exact vb_spec_DrawEffectsOf code y hp hb hy
def Zh5:HH:=⟨_,Zo5⟩
open Go.RowKit
def itoaB(n:Int):ByteArray:=⟨(Go.Lib.itoa n).toArray⟩
def joinB(l:List ByteArray)(sep:ByteArray):ByteArray:=⟨(Go.Lib.join (l.map (fun s=>s.data.toList)) sep.data.toList).toArray⟩
theorem grow_upto{w:World}{k:Nat}{os:Array Obj}:Upto (fun _=>False) w (Go.Sort.grow (w.drewN k) os):=by
 refine⟨rfl,rfl,rfl,?_,fun i hi _=> ?_⟩
 ·show w.heap.size≤(w.heap++os).size
  simp
 ·show(w.heap++os)[i]? =_
  rw[Array.getElem?_append_left hi]
def Zk85:Con UU where
 α:=Int
 md:=[.ro]
 of:=o1 oI
 ds:=fun x=>[dI x]
 pre:=fun _=>[]
 res:=fun n=>⟨[dS (itoaB n)],true,[]⟩
 law:=l1 lI
theorem Zo85:Holds EE (85,Zk85):=by
 refine⟨⟨_,func85,by kernel_rfl,by kernel_rfl⟩,?_⟩
 refine sound_lit rfl fun(n:Int) _ w F vs ls hF hlay hra=> ?_
 obtain⟨v,rfl,hv⟩:=rargs1 hra
 obtain⟨_,rfl,hl⟩:=hv.lit_all
 have hb: -9223372036854775808≤n∧n≤9223372036854775807:=hl.2
 refine⟨_,rfl,rfl,rfl,⟨rfl,?_⟩,(strconv_Itoa n hb.1 hb.2 w (tab_is hlay)).mono ?_⟩
 ·have:=Go.Lib.itoa_length_le n hb.1 hb.2
  show(ByteArray.mk _).size≤_
  simp only[itoaB,ByteArray.size,zdj]
  omega
 ·rintro e w' ⟨rfl,k,os,rfl⟩
  exact⟨rfl,grow_upto⟩
def Zh85:HH:=⟨_,Zo85⟩
def Zk60:Con UU where
 α:=(List ByteArray)×ByteArray
 md:=[.ro,.ro]
 of:=oC (oL .str) (o1 oS)
 ds:=fun x=>[dL .str x.1,dS x.2]
 pre:=fun(l,sep)=>[(joinB l sep).size≤140737488355328,l.length≤140737488355328]
 res:=fun(l,sep)=>⟨[dS (joinB l sep)],true,[]⟩
 law:=lC (lL .str) (l1 lS)
theorem Zo60:Holds EE (60,Zk60):=by
 refine⟨⟨_,func60,by kernel_rfl,by kernel_rfl⟩,?_⟩
 refine sound_lit rfl fun(x:List ByteArray×ByteArray) hp w F vs ls hF hlay hra=> ?_
 obtain⟨l,sep⟩:=x
 have hp0:(joinB l sep).size≤140737488355328:=hp _ zab
 have hp1:l.length≤140737488355328:=hp _ (zaa _ zab)
 obtain⟨u,v,rfl,hu,hv⟩:=rargs2 hra
 obtain⟨_,rfl,hl⟩:=hv.lit_all
 refine⟨_,rfl,rfl,rfl,⟨rfl,by omega⟩,?_⟩
 rcases hu.inv with⟨h0,a,c,rfl⟩|⟨b,off,cap,vs,rfl,hb,hc,hcell,hr⟩
 ·subst h0
  refine(strings_Join_none a c sep w).mono ?_
  rintro e w' ⟨rfl,rfl⟩
  exact⟨rfl,Upto.refl _ _⟩
 ·refine(strings_Join b off cap l sep w (fun j x hj=> ?_) (hF b hb) hp1 hc (by simpa[joinB,ByteArray.size] using hp0)).mono ?_
  ·have h1:=hr j x 0 (.lit (.string x)) hj rfl
   have hj':j<l.length:=by
    rcases zba j l.length with h|h
    ·exact h
    ·rw[zaj h] at hj;cases hj
   have h2:=hcell j (by show j<l.length*1;omega)
   have e:j*UU.wd .str+0=j:=by show j*1+0=j;omega
   rw[e] at h1
   rw[h2,(h1.lit_all).2.1]
  ·rintro e w' ⟨rfl,hbe⟩
   exact⟨rfl,Upto.below hbe⟩
def Zh60:HH:=⟨_,Zo60⟩
def mkB(l:List UInt8):ByteArray:=⟨l.toArray⟩
theorem mkB_app(a b:List UInt8):mkB a++mkB b=mkB (a++b):=by
 apply ByteArray.ext
 simp[mkB]
theorem mkB_bs(s:ByteArray):mkB (bs s)=s:=by
 apply ByteArray.ext
 simp[mkB,bs]
theorem bs_mkB(l:List UInt8):bs (mkB l)=l:=by simp[mkB,bs]
theorem mkB_size(l:List UInt8):(mkB l).size=l.length:=by simp[mkB,ByteArray.size]
theorem app_mkB(s:ByteArray)(l:List UInt8):s++mkB l=mkB (bs s++l):=by rw[←mkB_app,mkB_bs]
def valT(v:DVal):List UInt8:=if v.K=1 then Go.Lib.itoa v.N else 39::(bs v.S++[39])
def valsT(l:List DVal):List UInt8:=40::(Go.Lib.join (l.map valT) [44]++[41])
def valText(v:DVal):ByteArray:=if valOk v=true then mkB (valT v) else noBytes
def factText(f:DFact):ByteArray:=if factOk f=true then mkB (bs f.Kind++valsT f.Fields) else noBytes
theorem joinB_eq(l:List ByteArray)(s:ByteArray):joinB l s=mkB (Go.Lib.join (l.map bs) (bs s)):=rfl
theorem valOk_cases{v:DVal}(h:valOk v=true):(v.K=1∧-1000000000≤v.N∧v.N≤1000000000)∨(v.K=2∧v.S.size≤20):=by
 simp only[valOk] at h
 by_cases h1:v.K=1
 ·simp[h1] at h;exact .inl ⟨h1,h.1.1,h.1.2⟩
 ·by_cases h2:v.K=2
  ·simp[h2] at h;exact .inr ⟨h2,h.1.2⟩
  ·simp[h1,h2] at h
theorem valT_len{v:DVal}(h:valOk v=true):(valT v).length≤22:=by
 rcases valOk_cases h with⟨h1,h2,h3⟩|⟨h1,h2⟩
 ·have:=Go.Lib.itoa_length_le v.N (by omega) (by omega)
  simp only[valT,if_pos h1];omega
 ·simp only[valT,if_neg (show¬v.K=1 by omega),zbq,zce,bs_len,zbo];omega
theorem join_len:∀(l:List DVal),l.all valOk=true→(Go.Lib.join (l.map valT) [44]).length≤23*l.length
 |[],_=>by simp[Go.Lib.join_nil]
 |x::r,h=>by
  rw[zbt,Go.Lib.join_cons]
  simp only[zdr,zaf] at h
  have h1:=valT_len h.1
  have h2:∀r:List DVal,r.all valOk=true→(Go.Lib.joinTail [44] (r.map valT)).length≤23*r.length:=by
   intro r
   induction r with
   |nil=>intro _;simp[Go.Lib.joinTail]
   |cons y r ih=>
    intro h
    simp only[zdr,zaf] at h
    have h3:=valT_len h.1
    have h4:=ih h.2
    simp only[Go.Lib.joinTail,zbt,zbz,zce,zbq,zbo] at h4⊢
    omega
  have h3:=h2 r h.2
  simp only[zce,zbq]
  omega
theorem factOk_fields{f:DFact}(h:factOk f=true):f.Fields.length≤5∧f.Fields.all valOk=true∧nameOk f.Kind=true∧f.Kind.size≤12:=by
 simp only[factOk,zaf,decide_eq_true_eq] at h
 have h2:=h.1.1
 simp only[nameOk,zaf,decide_eq_true_eq] at h2
 exact⟨h.1.2,h.2,h.1.1,h2.1.1.2⟩
def Zk59:Con UU where
 α:=DVal
 md:=[.ro]
 of:=o1 (oA .eVal)
 ds:=fun x=>[dA .eVal x]
 pre:=fun _=>[]
 res:=fun v=>⟨[dS (valText v)],true,[]⟩
 law:=l1 (lA .eVal)
def Za59:Zk59.α→Nat→Option (Ann UU):=fun v=>annL []
def Zu59:=us [Zh56,Zh85]
theorem Zo59:Holds EE (59,Zk59):=by
 refine holds_of EE_ok func59 Zk59 (by kernel_rfl) Zu59 (us_ok _) Za59 (fun(v:DVal) hp hb=> ?_)
 have hl_v_S:=bd_eVal (x:=v) (hb _ m0)
 clear hp hb
 apply @ve _ (let x0:ByteArray:={data:= #[(39:UInt8)]:ByteArray};bif !valOk v then Lf [VS ({data:= #[]:ByteArray})] [VS (valText v)] else bif v.K==(1:Int) then Lf [VS (itoaB v.N)] [VS (valText v)] else ByteArray.size x0+ByteArray.size v.S≤(4611686018427387904:Nat)∧ByteArray.size (x0++v.S)+ByteArray.size x0≤(4611686018427387904:Nat)∧Lf [VS (x0++v.S++x0)] [VS (valText v)]) (by kernel_rfl)
 dsimp only
 refine if_cond (fun h=>Lf_s ?_) (fun h=> ?_)
 ·have h:valOk v=false:=by simpa using h
  simp only[valText,h];rfl
 ·have h:valOk v=true:=by simpa using h
  have ev:valText v=mkB (valT v):=by simp only[valText,h,if_true]
  rw[ev]
  rcases valOk_cases h with⟨h1,h2,h3⟩|⟨h1,h2⟩
  ·refine if_cond (fun h=>Lf_s ?_) (fun h=>absurd h (by simp[h1]))
   simp only[valT,if_pos h1];rfl
  ·refine if_cond (fun h=>absurd h (by simp[h1])) (fun h=> ?_)
   have e:({data:= #[(39:UInt8)]:ByteArray}++v.S)=mkB (39::bs v.S):=by
    conv=>lhs;rw[←mkB_bs v.S]
    exact mkB_app [39] _
   rw[e]
   refine⟨?_,?_,Lf_s ?_⟩
   ·show 1+_≤_;omega
   ·rw[mkB_size];show _+1≤_;simp only[zbq,bs_len];omega
   ·simp only[valT,if_neg (show¬v.K=1 by omega)];exact mkB_app (39::bs v.S) [39]
def Zh59:HH:=⟨_,Zo59⟩
def Zk37:Con UU where
 α:=DFact
 md:=[.ro]
 of:=o1 (oA .eFact)
 ds:=fun x=>[dA .eFact x]
 pre:=fun _=>[]
 res:=fun f=>⟨[dS (factText f)],true,[]⟩
 law:=l1 (lA .eFact)
def Zi37_5(f:DFact):List ByteArray×Int×(ByteArray×List DVal×Unit)×Unit→Prop:=fun(out,i,fb,_)=>fb=(f.Kind,f.Fields,())∧factOk f=true∧0≤i∧i≤f.Fields.length∧out=(f.Fields.take i.toNat).map valText
def Zm37_5(f:DFact):List ByteArray×Int×(ByteArray×List DVal×Unit)×Unit→Nat:=fun(out,i,fb,_)=>f.Fields.length-i.toNat
def Za37:Zk37.α→Nat→Option (Ann UU):=fun f=>annL [(5,annOf [.slot 3 (3,1024) (.own .str true),.slot 12 (12,1024) (.lit (.int .i64)),.box 1 (1,1024) [.lit .str,.shr .eVal]] (fun _=>Zi37_5 f) (Zm37_5 f))]
def Zu37:=us [Zh31,Zh59,Zh60]
theorem Zo37:Holds EE (37,Zk37):=by
 refine holds_of EE_ok func37 Zk37 (by kernel_rfl) Zu37 (us_ok _) Za37 (fun(f:DFact) hp hb=> ?_)
 have hz0:=bd_eFact (x:=f) (hb _ m0)
 have hl_f_Kind:=hz0.1
 have hl_f_Fields:=hz0.2
 clear hp hb
 apply @ve _ (bif !factOk f then Lf [VS ({data:= #[]:ByteArray})] [VS (factText f)] else Zi37_5 f ([],(0:Int),(f.Kind,f.Fields,()),())∧∀(y:List ByteArray×Int×(ByteArray×List DVal×PUnit)×PUnit),let x1:ByteArray:=y.2.2.1.1++{data:= #[(40:UInt8)]:ByteArray};let x3:Nat:=y.2.1.toNat;let x5:ByteArray:=joinB y.1 {data:= #[(44:UInt8)]:ByteArray};let x0:ByteArray:=x1++x5;let x2:List ByteArray:=[valText (List.getD f.Fields x3 zVal)];let x4:Nat:=ByteArray.size x5;Zi37_5 f y→bif decide (y.2.1<(f.Fields.length:Int)) then(0:Int)≤y.2.1∧x3<f.Fields.length∧y.1.length+x2.length≤(4294967296:Nat)∧Zi37_5 f (y.1++x2,IntKind.wrap IntKind.i64 (y.2.1+(1:Int)),(y.2.2.1.1,y.2.2.1.2.1,()),())∧Zm37_5 f (y.1++x2,IntKind.wrap IntKind.i64 (y.2.1+(1:Int)),(y.2.2.1.1,y.2.2.1.2.1,()),())<Zm37_5 f y else ByteArray.size y.2.2.1.1+ByteArray.size {data:= #[(40:UInt8)]:ByteArray}≤(4611686018427387904:Nat)∧x4≤(140737488355328:Nat)∧y.1.length≤(140737488355328:Nat)∧ByteArray.size x1+x4≤(4611686018427387904:Nat)∧ByteArray.size x0+ByteArray.size {data:= #[(41:UInt8)]:ByteArray}≤(4611686018427387904:Nat)∧Lf [VS (x0++{data:= #[(41:UInt8)]:ByteArray})] [VS (factText f)]) (by kernel_rfl)
 dsimp only
 refine if_cond (fun h=>Lf_s ?_) (fun h=> ?_)
 ·have h:factOk f=false:=by simpa using h
  simp only[factText,h];rfl
 have h:factOk f=true:=by simpa using h
 refine⟨⟨rfl,h,by omega,by omega,rfl⟩,?_⟩
 rintro⟨out,i,fb,⟨⟩⟩ ⟨rfl,_,h1,h2,rfl⟩
 obtain⟨g1,g2,g3,g4⟩:=factOk_fields h
 simp only
 refine if_cond (fun hc=> ?_) (fun hc=> ?_)
 ·have hc:i<f.Fields.length:=of_decide_eq_true hc
  rw[wrap_i64 (by omega) (by omega)]
  refine⟨h1,by omega,by simp;omega,⟨rfl,h,by omega,by omega,?_⟩,by simp only[Zm37_5];omega⟩
  rw[←take_step f.Fields zVal h1 hc,zef];rfl
 ·have hc:¬i<f.Fields.length:=of_decide_eq_false hc
  rw[take_all f.Fields (by omega)]
  have em:f.Fields.map valText=(f.Fields.map valT).map mkB:=by
   rw[List.map_map]
   exact zcr fun v hv=>by
    have:=zcb.1 g2 v hv
    simp only[valText,this,if_true,Function.comp]
  have ej:joinB (f.Fields.map valText) {data:= #[(44:UInt8)]:ByteArray}=mkB (Go.Lib.join (f.Fields.map valT) [44]):=by
   rw[em,joinB_eq,List.map_map]
   have:(bs∘mkB)=id:=funext fun l=>bs_mkB l
   rw[this,List.map_id]
   rfl
  rw[ej]
  have hj:=join_len f.Fields g2
  have e1:(f.Kind++{data:= #[(40:UInt8)]:ByteArray})=mkB (bs f.Kind++[40]):=app_mkB _ [40]
  rw[e1,mkB_app]
  refine⟨?_,?_,by simp;omega,?_,?_,Lf_s ?_⟩
  ·show _+1≤_;omega
  ·rw[mkB_size];omega
  ·rw[mkB_size,mkB_size];simp only[zce,bs_len,zbq,zbo];omega
  ·rw[mkB_size];show _+1≤_;simp only[zce,bs_len,zbq,zbo];omega
  ·simp only[factText,h,if_true]
   refine(mkB_app _ [41]).trans ?_
   simp[valsT]
def Zh37:HH:=⟨_,Zo37⟩
def Zk12:Con UU where
 α:=DFact
 md:=[.ro]
 of:=o1 (oA .eFact)
 ds:=fun x=>[dA .eFact x]
 pre:=fun _=>[]
 res:=fun f=>⟨[dS (factText f)],true,[]⟩
 law:=l1 (lA .eFact)
def Za12:Zk12.α→Nat→Option (Ann UU):=fun f=>annL []
def Zu12:=us [Zh37]
theorem Zo12:Holds EE (12,Zk12):=by
 refine holds_of EE_ok func12 Zk12 (by kernel_rfl) Zu12 (us_ok _) Za12 (fun(f:DFact) hp hb=> ?_)
 have hz0:=bd_eFact (x:=f) (hb _ m0)
 have hl_f_Kind:=hz0.1
 have hl_f_Fields:=hz0.2
 clear hp hb
 apply @ve _ (Lf [VS (factText f)] [VS (factText f)]) (by kernel_rfl)
 exact Lf_rfl _
def Zh12:HH:=⟨_,Zo12⟩
def digVal(l:List UInt8):Nat:=l.foldl (fun a d=>10*a+(d.toNat-48)) 0
theorem digVal_snoc(l:List UInt8)(d:UInt8):digVal (l++[d])=10*digVal l+(d.toNat-48):=by simp[digVal,List.foldl_append]
theorem dig_toNat{n:Nat}(h:n<10):(UInt8.ofNat (48+n)).toNat=48+n:=by
 rw[UInt8.toNat_ofNat'];omega
theorem digVal_dec:∀u:Nat,digVal (Go.Lib.decDigits u)=u:=by
 intro u
 induction u using Nat.strongRecOn with
 |ind u ih=>
  rw[Go.Lib.decDigits]
  split
  ·rename_i h
   simp only[digVal,List.foldl_cons,List.foldl_nil]
   rw[dig_toNat h];omega
  ·rename_i h
   rw[digVal_snoc,ih (u/10) (by omega),dig_toNat (by omega)];omega
theorem dec_dig:∀u:Nat,∀d∈Go.Lib.decDigits u,48≤d.toNat∧d.toNat≤57:=by
 intro u
 induction u using Nat.strongRecOn with
 |ind u ih=>
  rw[Go.Lib.decDigits]
  split
  ·rename_i h
   intro d hd
   rw[zau.1 hd,dig_toNat h];omega
  ·rename_i h
   intro d hd
   rcases zao.1 hd with hd|hd
   ·exact ih (u/10) (by omega) d hd
   ·rw[zau.1 hd,dig_toNat (by omega)];omega
theorem dec_ne(u:Nat):Go.Lib.decDigits u≠[]:=by
 rw[Go.Lib.decDigits];split<;>simp
theorem itoa_mem{n:Int}{d:UInt8}(h:d∈Go.Lib.itoa n):d.toNat=45∨(48≤d.toNat∧d.toNat≤57):=by
 unfold Go.Lib.itoa at h
 split at h
 ·rcases zak.1 h with rfl|h
  ·exact .inl rfl
  ·exact .inr (dec_dig _ d h)
 ·exact .inr (dec_dig _ d h)
theorem itoa_inj{m n:Int}(h:Go.Lib.itoa m=Go.Lib.itoa n):m=n:=by
 have key:∀(a b:Nat),45::Go.Lib.decDigits a≠Go.Lib.decDigits b:=by
  intro a b e
  have:=dec_dig b 45 (e▸zab)
  exact absurd this.1 (by decide)
 unfold Go.Lib.itoa at h
 split at h<;>split at h
 ·have:=congrArg digVal (List.cons.inj h).2
  rw[digVal_dec,digVal_dec] at this;omega
 ·exact absurd h (key _ _)
 ·exact absurd h.symm (key _ _)
 ·have:=congrArg digVal h
  rw[digVal_dec,digVal_dec] at this;omega
theorem word_mem{s:ByteArray}(h:wordS s=true){d:UInt8}(hd:d∈bs s):d.toNat≠39∧d.toNat≠40∧d.toNat≠44:=by
 have:=zcb.1 h d hd
 simp only[byteP,wordB,smallB,zcn,decide_eq_true_eq] at this
 omega
theorem valT_mem{v:DVal}(h:valOk v=true):∀d∈valT v,d.toNat≠44:=by
 intro d hd
 unfold valT at hd
 split at hd
 ·rcases itoa_mem hd with h|h<;>omega
 ·rename_i h1
  have hw:wordS v.S=true:=by
   simp only[valOk] at h
   by_cases h2:v.K=2
   ·simp[h2] at h;exact h.2
   ·simp[h1,h2] at h
  rcases zak.1 hd with rfl|hd
  ·decide
  ·rcases zao.1 hd with hd|hd
   ·exact(word_mem hw hd).2.2
   ·rw[zau.1 hd];decide
theorem valT_ne(v:DVal):valT v≠[]:=by
 unfold valT;split
 ·unfold Go.Lib.itoa;split
  ·simp
  ·exact dec_ne _
 ·simp
theorem valT_inj{v w:DVal}(hv:valOk v=true)(hw:valOk w=true)(h:valT v=valT w):v=w:=by
 have hcl:∀{u:DVal},valOk u=true→(u.K=1∧u.S=noBytes)∨(u.K=2∧u.N=0):=by
  intro u hu
  simp only[valOk] at hu
  by_cases h1:u.K=1
  ·simp[h1] at hu;exact .inl ⟨h1,hu.2⟩
  ·by_cases h2:u.K=2
   ·simp[h2] at hu;exact .inr ⟨h2,hu.1.1⟩
   ·simp[h1,h2] at hu
 have hno:∀(n:Int)(r:List UInt8),Go.Lib.itoa n≠39::r:=by
  intro n r e
  rcases itoa_mem (n:=n) (d:=39) (by rw[e];exact zab) with h|h
  ·exact absurd h (by decide)
  ·exact absurd h.1 (by decide)
 obtain⟨k,n,s⟩:=v
 obtain⟨k',n',s'⟩:=w
 rcases hcl hv with⟨h1,h2⟩|⟨h1,h2⟩<;>rcases hcl hw with⟨h3,h4⟩|⟨h3,h4⟩<;>simp only at h1 h2 h3 h4<;>subst h1 h2 h3 h4
 ·simp only[valT,if_true] at h
  rw[itoa_inj h]
 ·simp only[valT,if_true] at h
  rw[if_neg (by decide)] at h
  exact absurd h (hno _ _)
 ·simp only[valT,if_true] at h
  rw[if_neg (by decide)] at h
  exact absurd h.symm (hno _ _)
 ·simp only[valT] at h
  rw[if_neg (by decide),if_neg (by decide)] at h
  have:=List.append_cancel_right (List.cons.inj h).2
  have e:s=s':=by rw[←mkB_bs s,←mkB_bs s',this]
  rw[e]
theorem split_at{x:UInt8}:∀{a b r t:List UInt8},(∀d∈a,d≠x)→(∀d∈b,d≠x)→(r=[]∨∃r',r=x::r')→(t=[]∨∃t',t=x::t')→a++r=b++t→a=b∧r=t
 |[],[],r,t,_,_,_,_,h=>⟨rfl,h⟩
 |[],d::b,r,t,_,hb,hr,_,h=>by
  rcases hr with rfl|⟨r',rfl⟩
  ·simp at h
  ·simp only[List.nil_append,zex,zdd] at h
   exact absurd h.1.symm (hb d zab)
 |d::a,[],r,t,ha,_,_,ht,h=>by
  rcases ht with rfl|⟨t',rfl⟩
  ·simp at h
  ·simp only[List.nil_append,zex,zdd] at h
   exact absurd h.1 (ha d zab)
 |d::a,e::b,r,t,ha,hb,hr,ht,h=>by
  simp only[zex,zdd] at h
  obtain⟨h1,h2⟩:=split_at (fun z hz=>ha z (zaa _ hz)) (fun z hz=>hb z (zaa _ hz)) hr ht h.2
  exact⟨by rw[h.1,h1],h2⟩
theorem tail_form(r:List (List UInt8)):Go.Lib.joinTail [44] r=[]∨∃t,Go.Lib.joinTail [44] r=44::t:=by
 cases r with
 |nil=>exact .inl rfl
 |cons x r=>exact .inr ⟨x++Go.Lib.joinTail [44] r,by simp[Go.Lib.joinTail]⟩
theorem tail_inj:∀{l m:List DVal},l.all valOk=true→m.all valOk=true→Go.Lib.joinTail [44] (l.map valT)=Go.Lib.joinTail [44] (m.map valT)→l=m
 |[],[],_,_,_=>rfl
 |[],y::m,_,_,h=>by simp[Go.Lib.joinTail] at h
 |x::l,[],_,_,h=>by simp[Go.Lib.joinTail] at h
 |x::l,y::m,hl,hm,h=>by
  simp only[zdr,zaf] at hl hm
  have e:∀(x:DVal)(l:List DVal),Go.Lib.joinTail [44] ((x::l).map valT)=44::(valT x++Go.Lib.joinTail [44] (l.map valT)):=fun x l=>by simp[Go.Lib.joinTail]
  rw[e,e] at h
  have hne:∀{v:DVal},valOk v=true→∀d∈valT v,d≠44:=fun hv d hd he=>valT_mem hv d hd (by rw[he];rfl)
  obtain⟨h1,h2⟩:=split_at (x:=44) (hne hl.1) (hne hm.1) (tail_form _) (tail_form _) (List.cons.inj h).2
  rw[valT_inj hl.1 hm.1 h1,tail_inj hl.2 hm.2 h2]
theorem join_inj{l m:List DVal}(hl:l.all valOk=true)(hm:m.all valOk=true)(h:Go.Lib.join (l.map valT) [44]=Go.Lib.join (m.map valT) [44]):l=m:=by
 cases l with
 |nil=>
  cases m with
  |nil=>rfl
  |cons y m=>
   rw[List.map_nil,zbt,Go.Lib.join_nil,Go.Lib.join_cons] at h
   exact absurd (List.append_eq_nil_iff.1 h.symm).1 (valT_ne y)
 |cons x l=>
  cases m with
  |nil=>
   rw[List.map_nil,zbt,Go.Lib.join_nil,Go.Lib.join_cons] at h
   exact absurd (List.append_eq_nil_iff.1 h).1 (valT_ne x)
  |cons y m=>
   refine tail_inj hl hm ?_
   rw[zbt,zbt,Go.Lib.join_cons,Go.Lib.join_cons] at h
   have e:∀(x:List UInt8)(l:List (List UInt8)),Go.Lib.joinTail [44] (x::l)=44::(x++Go.Lib.joinTail [44] l):=fun x l=>by simp[Go.Lib.joinTail]
   rw[zbt,zbt,e,e,h]
theorem factText_inj{f g:DFact}(hf:factOk f=true)(hg:factOk g=true)(h:factText f=factText g):f=g:=by
 rw[factText,factText,if_pos hf,if_pos hg] at h
 have h:bs f.Kind++valsT f.Fields=bs g.Kind++valsT g.Fields:=by have:=congrArg bs h;rwa[bs_mkB,bs_mkB] at this
 have hw:∀{f:DFact},factOk f=true→∀d∈bs f.Kind,d≠40:=by
  intro f hf d hd he
  have h3:=(factOk_fields hf).2.2.1
  simp only[nameOk,zaf] at h3
  exact(word_mem h3.2 hd).2.1 (by rw[he];rfl)
 obtain⟨h1,h2⟩:=split_at (x:=40) (hw hf) (hw hg) (.inr ⟨_,rfl⟩) (.inr ⟨_,rfl⟩) h
 have h3:=List.append_cancel_right (List.cons.inj h2).2
 have h4:=join_inj (factOk_fields hf).2.1 (factOk_fields hg).2.1 h3
 obtain⟨k,fs⟩:=f
 obtain⟨k',fs'⟩:=g
 simp only at h1 h4
 have e:k=k':=by rw[←mkB_bs k,←mkB_bs k',h1]
 rw[e,h4]
def iLid:List Int:=[0,1,5,-1]
def iLn:List Int:=[-1,5,100001]
def sLun:List ByteArray:=[⟨#[]⟩,⟨#[117,110,100,111]⟩,⟨#[65]⟩]
def eoK(code:List Int):Int:=belowV (newCur code) 8
def eoC0(code:List Int):DCur:=belowC (newCur code) 8
noncomputable def eoC1(code:List Int):DCur:=anyFC (eoC0 code)
noncomputable def eoS(code:List Int):Int:=belowV (eoC1 code) 5
noncomputable def eoC2(code:List Int):DCur:=belowC (eoC1 code) 5
noncomputable def eoC3(code:List Int):DCur:=if eoS code=0 then intC (eoC2 code) iLid else if eoS code=1 then intC (eoC2 code) iLn else if eoS code=2 then strC (eoC2 code) sLun else eoC2 code
noncomputable def eoF(code:List Int):DFact:=if 4<eoK code then zFact else if eoK code=2 then zFact else anyF (eoC0 code)
noncomputable def eoId0(code:List Int):Int:=if eoS code=0 then intV (eoC2 code) iLid else 0
noncomputable def eoN(code:List Int):Int:=if eoS code=1 then intV (eoC2 code) iLn else 0
noncomputable def eoU(code:List Int):ByteArray:=if eoS code=2 then strV (eoC2 code) sLun else noBytes
noncomputable def eoId(code:List Int):Int:=if eoK code=2 then(if onceV (eoC3 code) 2=true then 3 else eoId0 code) else eoId0 code
noncomputable def eoE(code:List Int):DEffect:=⟨eoK code,eoF code,eoId code,eoN code,eoU code⟩
def Zk8:Con UU where
 α:=(List Int)
 md:=[.ro]
 of:=o1 (oL .byte)
 ds:=fun x=>[dL .byte x]
 pre:=fun code=>[code.length≤4294967296]
 res:=fun code=>⟨[dA .eEffect (eoE code)],true,[]⟩
 law:=l1 (lL .byte)
def Za8:Zk8.α→Nat→Option (Ann UU):=fun code=>annL []
def Zu8:=us [Zh14,Zh20,Zh27,Zh28,Zh29,Zh19]
def I_spec_DrawEffectOk_cut(code:(List Int)):(List Int×Int×Int×Unit)×(Int×ByteArray×List DVal×Int×Int×ByteArray×Unit)×(Int×ByteArray×List DVal×Int×Int×ByteArray×Unit)×Unit→Prop:=fun(cu,e,q,_)=>e=(eoK code,(eoF code).Kind,(eoF code).Fields,0,0,noBytes,())∧cOk ⟨cu.1,cu.2.1,cu.2.2.1⟩∧(⟨cu.1,cu.2.1,cu.2.2.1⟩:DCur)=eoC1 code
def cut_spec_DrawEffectOk:Zk8.α→Ann UU:=fun code=>annOf [.box 3 (3,1024) [.shr .byte,.lit (.int .i64),.lit (.int .i64)],.box 4 (4,1024) [.lit (.int .i64),.lit .str,.own .eVal true,.lit (.int .i64),.lit (.int .i64),.lit .str],.box 2 (2,1024) [.lit (.int .i64),.lit .str,.own .eVal true,.lit (.int .i64),.lit (.int .i64),.lit .str]] (fun _=>I_spec_DrawEffectOk_cut code) (fun _=>0)
theorem Zw8(code:(List Int))(y:(List Int×Int×Int×Unit)×(Int×ByteArray×List DVal×Int×Int×ByteArray×Unit)×(Int×ByteArray×List DVal×Int×Int×ByteArray×Unit)×Unit):goalCB EE Zu8 f8 Zk8 Za8 code 5 (cut_spec_DrawEffectOk code) y=(let x0:Bool:=y.2.1.1==(2:Int);
let x1:List ByteArray:=[{data:= #[]:ByteArray},{data:= #[(117:UInt8),(110:UInt8),(100:UInt8),(111:UInt8)]:ByteArray},{data:= #[(65:UInt8)]:ByteArray}];
let x2:DCur:=belowC {b:=y.1.1,i:=y.1.2.1,h:=y.1.2.2.1:DCur} (5:Int);
let x7:List Int:=[(0:Int),(1:Int),(5:Int),(-1:Int)];
let x10:List Int:=[(-1:Int),(5:Int),(100001:Int)];
let x11:Int:=belowV {b:=y.1.1,i:=y.1.2.1,h:=y.1.2.2.1:DCur} (5:Int);
let x5:Nat:=List.length x7;
let x9:Nat:=List.length x10;
let x4:Int:=(↑x5:Int);
let x8:Int:=(↑x9:Int);
let x3:DCur:=belowC x2 x4;
let x6:DCur:=belowC x2 x8;
(0:Int)≤y.1.2.1∧List.length y.1.1≤(4294967296:Nat)∧bif x11==(0:Int) then(0:Int)≤x2.i∧List.length x2.b≤(4294967296:Nat)∧(1:Nat)≤x5∧bif x0 then cOk x3∧bif onceV x3 (2:Int) then Lf [DV.agg [Cell.lit (Value.int IntKind.i64 y.2.1.1),Cell.lit (Value.string y.2.1.2.1),Cell.sl Cd.eVal y.2.1.2.2.1,Cell.lit (Value.int IntKind.i64 (3:Int)),Cell.lit (Value.int IntKind.i64 y.2.1.2.2.2.2.1),Cell.lit (Value.string y.2.1.2.2.2.2.2.1)]] [DV.agg [Cell.lit (Value.int IntKind.i64 (eoE code).Kind),Cell.lit (Value.string (eoE code).F.Kind),Cell.sl Cd.eVal (eoE code).F.Fields,Cell.lit (Value.int IntKind.i64 (eoE code).Id),Cell.lit (Value.int IntKind.i64 (eoE code).N),Cell.lit (Value.string (eoE code).Undo)]] else Lf [DV.agg [Cell.lit (Value.int IntKind.i64 y.2.1.1),Cell.lit (Value.string y.2.1.2.1),Cell.sl Cd.eVal y.2.1.2.2.1,Cell.lit (Value.int IntKind.i64 (List.getD x7 (Int.toNat (belowV x2 x4)) (0:Int))),Cell.lit (Value.int IntKind.i64 y.2.1.2.2.2.2.1),Cell.lit (Value.string y.2.1.2.2.2.2.2.1)]] [DV.agg [Cell.lit (Value.int IntKind.i64 (eoE code).Kind),Cell.lit (Value.string (eoE code).F.Kind),Cell.sl Cd.eVal (eoE code).F.Fields,Cell.lit (Value.int IntKind.i64 (eoE code).Id),Cell.lit (Value.int IntKind.i64 (eoE code).N),Cell.lit (Value.string (eoE code).Undo)]] else Lf [DV.agg [Cell.lit (Value.int IntKind.i64 y.2.1.1),Cell.lit (Value.string y.2.1.2.1),Cell.sl Cd.eVal y.2.1.2.2.1,Cell.lit (Value.int IntKind.i64 (List.getD x7 (Int.toNat (belowV x2 x4)) (0:Int))),Cell.lit (Value.int IntKind.i64 y.2.1.2.2.2.2.1),Cell.lit (Value.string y.2.1.2.2.2.2.2.1)]] [DV.agg [Cell.lit (Value.int IntKind.i64 (eoE code).Kind),Cell.lit (Value.string (eoE code).F.Kind),Cell.sl Cd.eVal (eoE code).F.Fields,Cell.lit (Value.int IntKind.i64 (eoE code).Id),Cell.lit (Value.int IntKind.i64 (eoE code).N),Cell.lit (Value.string (eoE code).Undo)]] else bif x11==(1:Int) then(0:Int)≤x2.i∧List.length x2.b≤(4294967296:Nat)∧(1:Nat)≤x9∧bif x0 then cOk x6∧bif onceV x6 (2:Int) then Lf [DV.agg [Cell.lit (Value.int IntKind.i64 y.2.1.1),Cell.lit (Value.string y.2.1.2.1),Cell.sl Cd.eVal y.2.1.2.2.1,Cell.lit (Value.int IntKind.i64 (3:Int)),Cell.lit (Value.int IntKind.i64 (List.getD x10 (Int.toNat (belowV x2 x8)) (0:Int))),Cell.lit (Value.string y.2.1.2.2.2.2.2.1)]] [DV.agg [Cell.lit (Value.int IntKind.i64 (eoE code).Kind),Cell.lit (Value.string (eoE code).F.Kind),Cell.sl Cd.eVal (eoE code).F.Fields,Cell.lit (Value.int IntKind.i64 (eoE code).Id),Cell.lit (Value.int IntKind.i64 (eoE code).N),Cell.lit (Value.string (eoE code).Undo)]] else Lf [DV.agg [Cell.lit (Value.int IntKind.i64 y.2.1.1),Cell.lit (Value.string y.2.1.2.1),Cell.sl Cd.eVal y.2.1.2.2.1,Cell.lit (Value.int IntKind.i64 y.2.1.2.2.2.1),Cell.lit (Value.int IntKind.i64 (List.getD x10 (Int.toNat (belowV x2 x8)) (0:Int))),Cell.lit (Value.string y.2.1.2.2.2.2.2.1)]] [DV.agg [Cell.lit (Value.int IntKind.i64 (eoE code).Kind),Cell.lit (Value.string (eoE code).F.Kind),Cell.sl Cd.eVal (eoE code).F.Fields,Cell.lit (Value.int IntKind.i64 (eoE code).Id),Cell.lit (Value.int IntKind.i64 (eoE code).N),Cell.lit (Value.string (eoE code).Undo)]] else Lf [DV.agg [Cell.lit (Value.int IntKind.i64 y.2.1.1),Cell.lit (Value.string y.2.1.2.1),Cell.sl Cd.eVal y.2.1.2.2.1,Cell.lit (Value.int IntKind.i64 y.2.1.2.2.2.1),Cell.lit (Value.int IntKind.i64 (List.getD x10 (Int.toNat (belowV x2 x8)) (0:Int))),Cell.lit (Value.string y.2.1.2.2.2.2.2.1)]] [DV.agg [Cell.lit (Value.int IntKind.i64 (eoE code).Kind),Cell.lit (Value.string (eoE code).F.Kind),Cell.sl Cd.eVal (eoE code).F.Fields,Cell.lit (Value.int IntKind.i64 (eoE code).Id),Cell.lit (Value.int IntKind.i64 (eoE code).N),Cell.lit (Value.string (eoE code).Undo)]] else bif x11==(2:Int) then cOk x2∧(1:Nat)≤List.length x1∧bif x0 then cOk (strC x2 x1)∧bif onceV (strC x2 x1) (2:Int) then Lf [DV.agg [Cell.lit (Value.int IntKind.i64 y.2.1.1),Cell.lit (Value.string y.2.1.2.1),Cell.sl Cd.eVal y.2.1.2.2.1,Cell.lit (Value.int IntKind.i64 (3:Int)),Cell.lit (Value.int IntKind.i64 y.2.1.2.2.2.2.1),Cell.lit (Value.string (strV x2 x1))]] [DV.agg [Cell.lit (Value.int IntKind.i64 (eoE code).Kind),Cell.lit (Value.string (eoE code).F.Kind),Cell.sl Cd.eVal (eoE code).F.Fields,Cell.lit (Value.int IntKind.i64 (eoE code).Id),Cell.lit (Value.int IntKind.i64 (eoE code).N),Cell.lit (Value.string (eoE code).Undo)]] else Lf [DV.agg [Cell.lit (Value.int IntKind.i64 y.2.1.1),Cell.lit (Value.string y.2.1.2.1),Cell.sl Cd.eVal y.2.1.2.2.1,Cell.lit (Value.int IntKind.i64 y.2.1.2.2.2.1),Cell.lit (Value.int IntKind.i64 y.2.1.2.2.2.2.1),Cell.lit (Value.string (strV x2 x1))]] [DV.agg [Cell.lit (Value.int IntKind.i64 (eoE code).Kind),Cell.lit (Value.string (eoE code).F.Kind),Cell.sl Cd.eVal (eoE code).F.Fields,Cell.lit (Value.int IntKind.i64 (eoE code).Id),Cell.lit (Value.int IntKind.i64 (eoE code).N),Cell.lit (Value.string (eoE code).Undo)]] else Lf [DV.agg [Cell.lit (Value.int IntKind.i64 y.2.1.1),Cell.lit (Value.string y.2.1.2.1),Cell.sl Cd.eVal y.2.1.2.2.1,Cell.lit (Value.int IntKind.i64 y.2.1.2.2.2.1),Cell.lit (Value.int IntKind.i64 y.2.1.2.2.2.2.1),Cell.lit (Value.string (strV x2 x1))]] [DV.agg [Cell.lit (Value.int IntKind.i64 (eoE code).Kind),Cell.lit (Value.string (eoE code).F.Kind),Cell.sl Cd.eVal (eoE code).F.Fields,Cell.lit (Value.int IntKind.i64 (eoE code).Id),Cell.lit (Value.int IntKind.i64 (eoE code).N),Cell.lit (Value.string (eoE code).Undo)]] else bif x0 then cOk x2∧bif onceV x2 (2:Int) then Lf [DV.agg [Cell.lit (Value.int IntKind.i64 y.2.1.1),Cell.lit (Value.string y.2.1.2.1),Cell.sl Cd.eVal y.2.1.2.2.1,Cell.lit (Value.int IntKind.i64 (3:Int)),Cell.lit (Value.int IntKind.i64 y.2.1.2.2.2.2.1),Cell.lit (Value.string y.2.1.2.2.2.2.2.1)]] [DV.agg [Cell.lit (Value.int IntKind.i64 (eoE code).Kind),Cell.lit (Value.string (eoE code).F.Kind),Cell.sl Cd.eVal (eoE code).F.Fields,Cell.lit (Value.int IntKind.i64 (eoE code).Id),Cell.lit (Value.int IntKind.i64 (eoE code).N),Cell.lit (Value.string (eoE code).Undo)]] else Lf [DV.agg [Cell.lit (Value.int IntKind.i64 y.2.1.1),Cell.lit (Value.string y.2.1.2.1),Cell.sl Cd.eVal y.2.1.2.2.1,Cell.lit (Value.int IntKind.i64 y.2.1.2.2.2.1),Cell.lit (Value.int IntKind.i64 y.2.1.2.2.2.2.1),Cell.lit (Value.string y.2.1.2.2.2.2.2.1)]] [DV.agg [Cell.lit (Value.int IntKind.i64 (eoE code).Kind),Cell.lit (Value.string (eoE code).F.Kind),Cell.sl Cd.eVal (eoE code).F.Fields,Cell.lit (Value.int IntKind.i64 (eoE code).Id),Cell.lit (Value.int IntKind.i64 (eoE code).N),Cell.lit (Value.string (eoE code).Undo)]] else Lf [DV.agg [Cell.lit (Value.int IntKind.i64 y.2.1.1),Cell.lit (Value.string y.2.1.2.1),Cell.sl Cd.eVal y.2.1.2.2.1,Cell.lit (Value.int IntKind.i64 y.2.1.2.2.2.1),Cell.lit (Value.int IntKind.i64 y.2.1.2.2.2.2.1),Cell.lit (Value.string y.2.1.2.2.2.2.2.1)]] [DV.agg [Cell.lit (Value.int IntKind.i64 (eoE code).Kind),Cell.lit (Value.string (eoE code).F.Kind),Cell.sl Cd.eVal (eoE code).F.Fields,Cell.lit (Value.int IntKind.i64 (eoE code).Id),Cell.lit (Value.int IntKind.i64 (eoE code).N),Cell.lit (Value.string (eoE code).Undo)]]):=by kernel_rfl
theorem vb_spec_DrawEffectOk(code:(List Int))(y:(List Int×Int×Int×Unit)×(Int×ByteArray×List DVal×Int×Int×ByteArray×Unit)×(Int×ByteArray×List DVal×Int×Int×ByteArray×Unit)×Unit)(hp:∀p∈Zk8.pre code,p)(hb:∀d∈Zk8.ds code,BdDV d)(hy:I_spec_DrawEffectOk_cut code y):goalCB EE Zu8 f8 Zk8 Za8 code 5 (cut_spec_DrawEffectOk code) y:=by
 have hl_code:code.length≤9223372036854775807:=bdL (hb _ m0)
 have hp0:code.length≤4294967296:=hp _ m0
 clear hp hb
 rw[Zw8 code y]
 dsimp only
 obtain⟨⟨cb,ci,ch,⟨⟩⟩,⟨k,f1,f2,d,n,u,⟨⟩⟩,⟨q1,q2,q3,q4,q5,q6,⟨⟩⟩,⟨⟩⟩:=y
 obtain⟨he,g4,g7⟩:=hy
 have v1:k=eoK code:=congrArg Prod.fst he
 have v2:f1=(eoF code).Kind:=congrArg (fun t=>t.2.1) he
 have v3:f2=(eoF code).Fields:=congrArg (fun t=>t.2.2.1) he
 have v4:d=0:=congrArg (fun t=>t.2.2.2.1) he
 have v5:n=0:=congrArg (fun t=>t.2.2.2.2.1) he
 have v6:u=noBytes:=congrArg (fun t=>t.2.2.2.2.2.1) he
 clear he
 subst v1 v2 v3 v4 v5 v6
 have g4:cOk ⟨cb,ci,ch⟩:=g4
 have ga:0≤ci∧cb.length≤4294967296:=g4
 have g7:(⟨cb,ci,ch⟩:DCur)=eoC1 code:=g7
 generalize (⟨cb,ci,ch⟩:DCur)=cu at*
 have leaf:∀(a b:Int)(s:ByteArray),eoId code=a→eoN code=b→eoU code=s→Lf [.agg [.lit (.int .i64 (eoK code)),.lit (.string (eoF code).Kind),.sl .eVal (eoF code).Fields,.lit (.int .i64 a),.lit (.int .i64 b),.lit (.string s)]] [.agg [.lit (.int .i64 (eoE code).Kind),.lit (.string (eoE code).F.Kind),.sl .eVal (eoE code).F.Fields,.lit (.int .i64 (eoE code).Id),.lit (.int .i64 (eoE code).N),.lit (.string (eoE code).Undo)]]:=by
  rintro a b s rfl rfl rfl
  exact Lf_rfl _
 have h2:=cOk_below g4 5
 have eS:eoS code=belowV cu 5:=by rw[eoS,g7]
 have c2:eoC2 code=belowC cu 5:=by rw[eoC2,g7]
 refine⟨ga.1,ga.2,if_num (fun s=> ?_) (fun s0=>if_num (fun s=> ?_) (fun s1=>if_num (fun s=> ?_) (fun s2=> ?_)))⟩
 ·have s:eoS code=0:=eS.trans s
  have c3:eoC3 code=intC (belowC cu 5) iLid:=(if_pos s).trans (by rw[c2])
  have i0:eoId0 code=intV (belowC cu 5) iLid:=(if_pos s).trans (by rw[c2])
  have n0:eoN code=0:=if_neg (by omega)
  have u0:eoU code=noBytes:=if_neg (by omega)
  exact⟨h2.1,h2.2,by simp,if_num (fun k=>⟨cOk_int h2 iLid,if_cond (fun o=>leaf 3 0 noBytes ((if_pos k).trans (if_pos (by rw[c3];exact o))) n0 u0) (fun o=>leaf (intV (belowC cu 5) iLid) 0 noBytes ((if_pos k).trans ((if_neg (by rw[c3];exact fun e=>absurd (o.symm.trans e) (by decide))).trans i0)) n0 u0)⟩) (fun k=>leaf (intV (belowC cu 5) iLid) 0 noBytes ((if_neg k).trans i0) n0 u0)⟩
 ·have s:eoS code=1:=eS.trans s
  have c3:eoC3 code=intC (belowC cu 5) iLn:=(if_neg (by omega)).trans ((if_pos s).trans (by rw[c2]))
  have i0:eoId0 code=0:=if_neg (by omega)
  have n0:eoN code=intV (belowC cu 5) iLn:=(if_pos s).trans (by rw[c2])
  have u0:eoU code=noBytes:=if_neg (by omega)
  exact⟨h2.1,h2.2,by simp,if_num (fun k=>⟨cOk_int h2 iLn,if_cond (fun o=>leaf 3 (intV (belowC cu 5) iLn) noBytes ((if_pos k).trans (if_pos (by rw[c3];exact o))) n0 u0) (fun o=>leaf 0 (intV (belowC cu 5) iLn) noBytes ((if_pos k).trans ((if_neg (by rw[c3];exact fun e=>absurd (o.symm.trans e) (by decide))).trans i0)) n0 u0)⟩) (fun k=>leaf 0 (intV (belowC cu 5) iLn) noBytes ((if_neg k).trans i0) n0 u0)⟩
 ·have s:eoS code=2:=eS.trans s
  have c3:eoC3 code=strC (belowC cu 5) sLun:=(if_neg (by omega)).trans ((if_neg (by omega)).trans ((if_pos s).trans (by rw[c2])))
  have i0:eoId0 code=0:=if_neg (by omega)
  have n0:eoN code=0:=if_neg (by omega)
  have u0:eoU code=strV (belowC cu 5) sLun:=(if_pos s).trans (by rw[c2])
  exact⟨h2,by simp,if_num (fun k=>⟨cOk_str h2 sLun,if_cond (fun o=>leaf 3 0 (strV (belowC cu 5) sLun) ((if_pos k).trans (if_pos (by rw[c3];exact o))) n0 u0) (fun o=>leaf 0 0 (strV (belowC cu 5) sLun) ((if_pos k).trans ((if_neg (by rw[c3];exact fun e=>absurd (o.symm.trans e) (by decide))).trans i0)) n0 u0)⟩) (fun k=>leaf 0 0 (strV (belowC cu 5) sLun) ((if_neg k).trans i0) n0 u0)⟩
 ·have t0:¬eoS code=0:=fun e=>s0 (eS.symm.trans e)
  have t1:¬eoS code=1:=fun e=>s1 (eS.symm.trans e)
  have t2:¬eoS code=2:=fun e=>s2 (eS.symm.trans e)
  have c3:eoC3 code=belowC cu 5:=(if_neg t0).trans ((if_neg t1).trans ((if_neg t2).trans c2))
  have i0:eoId0 code=0:=if_neg t0
  have n0:eoN code=0:=if_neg t1
  have u0:eoU code=noBytes:=if_neg t2
  exact if_num (fun k=>⟨h2,if_cond (fun o=>leaf 3 0 noBytes ((if_pos k).trans (if_pos (by rw[c3];exact o))) n0 u0) (fun o=>leaf 0 0 noBytes ((if_pos k).trans ((if_neg (by rw[c3];exact fun e=>absurd (o.symm.trans e) (by decide))).trans i0)) n0 u0)⟩) (fun k=>leaf 0 0 noBytes ((if_neg k).trans i0) n0 u0)
theorem vd_spec_DrawEffectOk(code:(List Int))(hp:∀p∈Zk8.pre code,p)(hb:∀d∈Zk8.ds code,BdDV d):goalCA EE Zu8 f8 Zk8 Za8 code 5 (cut_spec_DrawEffectOk code):=by
 have hl_code:code.length≤9223372036854775807:=bdL (hb _ m0)
 have hp0:code.length≤4294967296:=hp _ m0
 clear hp hb
 apply @ve _ (let x0:Int:=belowV (newCur code) (8:Int);let x1:DCur:=anyFC (belowC (newCur code) (8:Int));code.length≤(4294967296:Nat)∧(0:Int)≤(newCur code).i∧List.length (newCur code).b≤(4294967296:Nat)∧cOk (belowC (newCur code) (8:Int))∧bif decide (x0>(4:Int)) then I_spec_DrawEffectOk_cut code ((x1.b,x1.i,x1.h,()),(x0,{data:= #[]:ByteArray},[],(0:Int),(0:Int),{data:= #[]:ByteArray},()),((0:Int),{data:= #[]:ByteArray},[],(0:Int),(0:Int),{data:= #[]:ByteArray},()),()) else bif x0==(2:Int) then I_spec_DrawEffectOk_cut code ((x1.b,x1.i,x1.h,()),(x0,{data:= #[]:ByteArray},[],(0:Int),(0:Int),{data:= #[]:ByteArray},()),((0:Int),{data:= #[]:ByteArray},[],(0:Int),(0:Int),{data:= #[]:ByteArray},()),()) else I_spec_DrawEffectOk_cut code ((x1.b,x1.i,x1.h,()),(x0,(anyF (belowC (newCur code) (8:Int))).Kind,(anyF (belowC (newCur code) (8:Int))).Fields,(0:Int),(0:Int),{data:= #[]:ByteArray},()),((0:Int),{data:= #[]:ByteArray},[],(0:Int),(0:Int),{data:= #[]:ByteArray},()),())) (by kernel_rfl)
 dsimp only
 have hN:=cOk_new hp0
 have h8:=cOk_below hN 8
 have fin:∀F:DFact,F=eoF code→I_spec_DrawEffectOk_cut code (((eoC1 code).b,(eoC1 code).i,(eoC1 code).h,()),(eoK code,F.Kind,F.Fields,0,0,noBytes,()),(0,noBytes,[],0,0,noBytes,()),()):=by
  rintro F rfl
  exact⟨rfl,cOk_anyF h8,rfl⟩
 exact⟨hp0,hN.1,hN.2,h8,if_dec (fun h=>fin zFact (if_pos h).symm) (fun h=>if_num (fun g=>fin zFact ((if_neg h).trans (if_pos g)).symm) (fun g=>fin (anyF (eoC0 code)) ((if_neg h).trans (if_neg g)).symm))⟩
attribute [local irreducible] goalCA goalCB in
theorem Zo8:Holds EE (8,Zk8):=by
 refine holds_cut EE_ok func8 Zk8 (by kernel_rfl) Zu8 (us_ok _) Za8 5 cut_spec_DrawEffectOk (by kernel_rfl) (fun(code:(List Int)) hp hb=> ?_)
 refine⟨vd_spec_DrawEffectOk code hp hb,fun(y:(List Int×Int×Int×Unit)×(Int×ByteArray×List DVal×Int×Int×ByteArray×Unit)×(Int×ByteArray×List DVal×Int×Int×ByteArray×Unit)×Unit) hy=> ?_⟩
 have hy:I_spec_DrawEffectOk_cut code y:=hy
 exact vb_spec_DrawEffectOk code y hp hb hy
def Zh8:HH:=⟨_,Zo8⟩
def con_laws_FnEffectsBent:Con UU where
 α:=(List Int)
 md:=[.ro]
 of:=o1 (oL .byte)
 ds:=fun x=>[dL .byte x]
 pre:=fun _=>[]
 res:=fun code=>⟨[dO true],true,[]⟩
 law:=l1 (lL .byte)
def ann_laws_FnEffectsBent:con_laws_FnEffectsBent.α→Nat→Option (Ann UU):=fun code=>annL []
def use_laws_FnEffectsBent:=us [Zh4,Zh5,Zh6,Zh7,Zh8,Zh9,Zh10,Zh11,Zh12,Zh13]
theorem ok_laws_FnEffectsBent:Holds EE (3,con_laws_FnEffectsBent):=by
 refine holds_of EE_ok func3 con_laws_FnEffectsBent (by kernel_rfl) use_laws_FnEffectsBent (us_ok _) ann_laws_FnEffectsBent (fun(code:(List Int)) hp hb=> ?_)
 have hl_code:code.length≤9223372036854775807:=bdL (hb _ m0)
 clear hp hb
 apply @ve _ (bif decide (code.length>(1048576:Nat)) then Lb true true else code.length≤(4294967296:Nat)∧sizeDef (efD code)≤(4294967295:Nat)∧sizeDef (efD code)≤(4294967295:Nat)∧code.length≤(4294967296:Nat)∧code.length≤(4294967296:Nat)∧bif effOk (efD code) (efM code)==effOk (efD code) (efM code) then bif effOk (efD code) (efM code) then bif effectOk (eoE code)==effectOk (eoE code) then Lb ((ByteArray.toList (factText (factV (newCur code)))==ByteArray.toList (factText (factV (factC (newCur code)))))==decide (factV (newCur code)=factV (factC (newCur code)))) true else Lb false true else bif (↑(List.length (effs (efD code) (efM code))):Int)==(0:Int) then bif effectOk (eoE code)==effectOk (eoE code) then Lb ((ByteArray.toList (factText (factV (newCur code)))==ByteArray.toList (factText (factV (factC (newCur code)))))==decide (factV (newCur code)=factV (factC (newCur code)))) true else Lb false true else Lb false true else Lb false true) (by kernel_rfl)
 refine if_dec (fun h=>Lf_rfl _) (fun h=> ?_)
 have hd:sizeDef (efD code)≤61000:=(defD_facts (newCur code)).2.2
 have hT:(ByteArray.toList (factText (factV (newCur code)))==ByteArray.toList (factText (factV (factC (newCur code)))))=decide (factV (newCur code)=factV (factC (newCur code))):=by
  rw[toList_beq]
  exact decide_eq_decide.2 ⟨fun e=>factText_inj (factV_ok _) (factV_ok _) e,fun e=>by rw[e]⟩
 rw[hT]
 have fin:Lf [.one (.lit (.bool (decide (factV (newCur code)=factV (factC (newCur code)))==decide (factV (newCur code)=factV (factC (newCur code))))))] [.one (.lit (.bool true))]:=Lf_b (beq_self_eq_true _)
 refine⟨by omega,by omega,by omega,by omega,by omega,if_cond (fun _=>if_cond (fun o=>if_cond (fun _=>fin) (fun e=>absurd e (by simp))) (fun o=> ?_)) (fun e=>absurd e (by simp))⟩
 have hE:effs (efD code) (efM code)=[]:=if_neg (by rw[o];decide)
 rw[hE]
 exact if_num (fun _=>if_cond (fun _=>fin) (fun e=>absurd e (by simp))) (fun e=>absurd rfl e)
def h_laws_FnEffectsBent:HH:=⟨_,ok_laws_FnEffectsBent⟩
end
end AM
