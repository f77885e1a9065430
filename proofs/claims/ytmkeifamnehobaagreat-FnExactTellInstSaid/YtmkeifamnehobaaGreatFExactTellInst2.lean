/- Functions of the program with their contracts: put together by gen/link.py for FnExactTellInst. -/
import Derived.Test.YtmkeifamnehobaaGreatAmLib
import Derived.Test.YtmkeifamnehobaaGreatFExactTellInst
namespace AM
open Go
set_option linter.unusedVariables false
set_option linter.unusedSimpArgs false
set_option maxRecDepth 100000
noncomputable section
def Zk78:Con UU where
 α:=(List DTask)
 md:=[.ro]
 of:=o1 (oL .eTask)
 ds:=fun x=>[dL .eTask x]
 pre:=fun _=>[]
 res:=fun l=>⟨[.one (.lit (.bool (tasksOk l)))],true,[]⟩
 law:=l1 (lL .eTask)
def Zi78_2(l:(List DTask)):Int×Unit→Prop:=fun(i,_)=>0≤i∧i≤l.length∧∀j:Nat,(j:Int)<i→taskAt l j=true
def Zm78_2(l:(List DTask)):Int×Unit→Nat:=fun(i,_)=>l.length-i.toNat
def Zi78_7(l:(List DTask)):Int×Int×Unit→Int×Int×Unit→Prop:=fun(i0,k0,_) (i,k,_)=>i=i0∧0≤k∧k≤i∧∀j:Nat,(j:Int)<k→decide ((List.getD l j zTask).F=(List.getD l i.toNat zTask).F)=false
def Zm78_7(l:(List DTask)):Int×Int×Unit→Nat:=fun(i,k,_)=>i.toNat-k.toNat
def Za78:Zk78.α→Nat→Option (Ann UU):=fun l=>annL [(2,annOf [.slot 3 (3,1024) (.lit (.int .i64))] (fun _=>Zi78_2 l) (Zm78_2 l)),(7,annOf [.slot 3 (3,1024) (.lit (.int .i64)),.slot 4 (4,1024) (.lit (.int .i64))] (Zi78_7 l) (Zm78_7 l))]
def Zu78:=us [Zh149,Zh150]
theorem Zv78(l:(List DTask)):goal EE Zu78 Go.Proofs.Tryz.f78 Zk78 Za78 l=(let x0:Int:=(l.length:Int);
Zi78_2 l ((0:Int),PUnit.unit)∧
 ∀(y:Int×PUnit),
  Zi78_2 l y→
   bif decide (y.1<x0) then
    (0:Int)≤y.1∧
     Int.toNat y.1<List.length l∧
      bif !taskOk (List.getD l (Int.toNat y.1) zTask) then Lf [DV.one (Cell.lit (Value.bool false))] [DV.one (Cell.lit (Value.bool (tasksOk l)))]
      else
       Zi78_7 l (y.1,(0:Int),PUnit.unit) (y.1,(0:Int),PUnit.unit)∧
        ∀(y_1:Int×Int×PUnit),
         let x1:Nat:=Int.toNat y_1.2.1;
         Zi78_7 l (y.1,(0:Int),PUnit.unit) y_1→bif decide (y_1.2.1<y_1.1) then(0:Int)≤y_1.1∧Int.toNat y_1.1<List.length l∧(0:Int)≤y_1.2.1∧x1<List.length l∧bif decide ((List.getD l (Int.toNat y_1.1) zTask).F=(List.getD l x1 zTask).F) then Lf [DV.one (Cell.lit (Value.bool false))] [DV.one (Cell.lit (Value.bool (tasksOk l)))] else Zi78_7 l (y.1,(0:Int),PUnit.unit) (y_1.1,IntKind.wrap IntKind.i64 (y_1.2.1+(1:Int)),PUnit.unit)∧Zm78_7 l (y_1.1,IntKind.wrap IntKind.i64 (y_1.2.1+(1:Int)),PUnit.unit)<Zm78_7 l y_1 else Zi78_2 l (IntKind.wrap IntKind.i64 (y_1.1+(1:Int)),PUnit.unit)∧Zm78_2 l (IntKind.wrap IntKind.i64 (y_1.1+(1:Int)),PUnit.unit)<Zm78_2 l y
   else Lf [DV.one (Cell.lit (Value.bool (decide (x0≤(30:Int)))))] [DV.one (Cell.lit (Value.bool (tasksOk l)))]):=by kernel_rfl
theorem Zo78:Holds EE (78,Zk78):=by
 refine holds_of EE_ok Go.Proofs.Tryz.func78 Zk78 (by kernel_rfl) Zu78 (us_ok _) Za78 (fun(l:(List DTask)) hp hb=> ?_)
 have hl_l:l.length≤9223372036854775807:=bdL (hb _ m0)
 clear hp hb
 rw[Zv78 l]
 dsimp only
 refine⟨⟨by omega,by omega,by intro j hj;omega⟩,?_⟩
 rintro⟨i,⟨⟩⟩ ⟨h1,h2,hR⟩
 simp only
 refine if_cond (fun hc=> ?_) (fun hc=> ?_)
 ·have hc:=of_decide_eq_true hc
  have hN:taskAt l i.toNat=false→tasksOk l=false:=fun h=>by
   have hf:allI l.length (taskAt l)=false:=allI_false (j:=i.toNat) (by omega) h
   simp only[tasksOk,hf];simp
  have hm:Zm78_2 l (i+1,PUnit.unit)<Zm78_2 l (i,()):=by simp only[Zm78_2];omega
  refine⟨by omega,by omega,if_cond (fun h=>Lf_ff (hN ?_)) (fun h=>⟨⟨rfl,by omega,by omega,by intro j hj;omega⟩,?_⟩)⟩
  ·simp only[taskAt];grind
  rintro⟨i,k,⟨⟩⟩ ⟨rfl,g1,g2,gR⟩
  simp only
  refine if_cond (fun hk=> ?_) (fun hk=> ?_)
  ·have hk:=of_decide_eq_true hk
   simp(disch:=omega) only[wrap_i64]
   refine⟨by omega,by omega,by omega,by omega,if_cond (fun h''=>Lf_ff (hN ?_)) (fun h''=>⟨⟨rfl,by omega,by omega,upto_no g1 gR ?_⟩,by simp only[Zm78_7];omega⟩)⟩
   ·have ha:(anyI i.toNat fun k=>decide ((List.getD l k zTask).F=(List.getD l i.toNat zTask).F))=true:=anyI_true (j:=k.toNat) (by omega) (by grind)
    simp only[taskAt,ha];simp
   ·grind
  ·have hk:=of_decide_eq_false hk
   simp(disch:=omega) only[wrap_i64]
   refine⟨⟨by omega,by omega,upto_step h1 hR ?_⟩,hm⟩
   have ha:(anyI i.toNat fun k=>decide ((List.getD l k zTask).F=(List.getD l i.toNat zTask).F))=false:=anyI_false fun j hj=>gR j (by omega)
   simp only[taskAt,ha];grind
 ·have hc:=of_decide_eq_false hc
  have hA:allI l.length (taskAt l)=true:=allI_true fun j hj=>hR j (by omega)
  refine Lf_b ?_
  simp only[tasksOk,hA];grind
def Zh78:HH:=⟨_,Zo78⟩
def largeB(b:Int):Bool:=decide (65≤b∧b≤90)
def varB(b:Int):Bool:=wordB b||largeB b
def varOk(s:ByteArray):Bool:=decide (1≤s.size∧s.size≤12)&&largeB (List.getD (bs s) 0 0).toNat&&(bs s).all (byteP varB)
def argOk(a:DArg):Bool:=bif decide (a.K=1) then varOk a.S&&decide (a.V=zVal) else bif decide (a.K=2) then valOk a.V&&decide (a.S=noBytes) else bif decide (a.K=3) then decide (a.S=noBytes)&&decide (a.V=zVal) else false
def termOk(a:DArg):Bool:=argOk a&& !decide (a.K=3)
def patOk(p:DPat):Bool:=nameOk p.Kind&&decide (p.Args.length≤5)&&p.Args.all argOk
def kondOk(c:DCond):Bool:=decide (1≤c.Op∧c.Op≤3)&&termOk c.L&&termOk c.R
def bPlus:ByteArray:=⟨#[43]⟩
def bMinus:ByteArray:=⟨#[45]⟩
def exprOk(e:DExpr):Bool:=bif decide (e.Op=noBytes) then termOk e.L&&decide (e.R=zArg) else bif decide (e.Op=bPlus)||decide (e.Op=bMinus) then termOk e.L&&termOk e.R else false
def exprsOk(l:List DExpr):Bool:=decide (l.length≤5)&&l.all exprOk
def bareA(a:DAct):Bool:=decide (a.Name=noBytes)&&decide (a.Args.length=0)&&decide (a.Undo=noBytes)
def actOk(a:DAct):Bool:=
 bif decide (a.Kind=1) then nameOk a.Name&&exprsOk a.Args&&decide (a.N=0)&&decide (a.Undo=noBytes)
 else bif decide (a.Kind=2) then bareA a&&decide (0≤a.N∧a.N≤7)
 else bif decide (a.Kind=3) then nameOk a.Name&&exprsOk a.Args&&decide (a.N=0)&&undoOk a.Undo
 else bif decide (a.Kind=4) then nameOk a.Name&&exprsOk a.Args&&decide (0≤a.N∧a.N≤100000)&&decide (a.Undo=noBytes)
 else bif decide (a.Kind=5)||decide (a.Kind=6) then bareA a&&decide (a.N=0) else false
theorem argR_beq(a b:DArg):(a.K==b.K&&(ByteArray.toList a.S==ByteArray.toList b.S&&(a.V.K==b.V.K&&(a.V.N==b.V.N&&(ByteArray.toList a.V.S==ByteArray.toList b.V.S&&true))&&true)))=decide (a=b):=by
 obtain⟨K,S,K2,N2,S2⟩:=a
 obtain⟨K',S',K2',N2',S2'⟩:=b
 simp only[toList_beq,zdb]
 rw[zcm]
 simp only[zaf,beq_iff_eq,decide_eq_true_eq,DArg.mk.injEq,DVal.mk.injEq]
def Zk267:Con UU where
 α:=Int
 md:=[.ro]
 of:=o1 oY
 ds:=fun x=>[dY x]
 pre:=fun _=>[]
 res:=fun b=>⟨[.one (.lit (.bool (largeB b)))],true,[]⟩
 law:=l1 lY
def Za267:Zk267.α→Nat→Option (Ann UU):=fun b=>annL []
def Zu267:List (FuncId×Con UU):=[]
theorem Zv267(b:Int):goal EE Zu267 Go.Proofs.Tryz.f267 Zk267 Za267 b=(bif decide (b≥(65:Int)) then Lb (decide (b≤(90:Int))) (largeB b) else Lb false (largeB b)):=by kernel_rfl
theorem Zo267:Holds EE (267,Zk267):=by
 refine holds_of EE_ok Go.Proofs.Tryz.func267 Zk267 (by kernel_rfl) Zu267 all_nil Za267 (fun(b:Int) hp hb=> ?_)
 skip
 clear hp hb
 rw[Zv267 b]
 refine if_cond (fun h=>Lf_b ?_) (fun h=>Lf_b ?_)<;>grind [largeB]
def Zh267:HH:=⟨_,Zo267⟩
def Zk265:Con UU where
 α:=Int
 md:=[.ro]
 of:=o1 oY
 ds:=fun x=>[dY x]
 pre:=fun c=>[0≤c∧c≤255]
 res:=fun c=>⟨[.one (.lit (.bool (largeB c)))],true,[]⟩
 law:=l1 lY
def Za265:Zk265.α→Nat→Option (Ann UU):=fun c=>annL []
def Zu265:=us [Zh81]
theorem Zv265(c:Int):goal EE Zu265 Go.Proofs.Tryz.f265 Zk265 Za265 c=(Lb (decide ((65:Int)≤IntKind.wrap IntKind.i64 c∧IntKind.wrap IntKind.i64 c≤(90:Int))) (largeB c)):=by kernel_rfl
theorem Zo265:Holds EE (265,Zk265):=by
 refine holds_of EE_ok Go.Proofs.Tryz.func265 Zk265 (by kernel_rfl) Zu265 (us_ok _) Za265 (fun(c:Int) hp hb=> ?_)
 have hp0:0≤c∧c≤255:=hp _ m0
 clear hp hb
 rw[Zv265 c]
 rw[wrap_i64 (by omega) (by omega)]
 exact Lf_b rfl
def Zh265:HH:=⟨_,Zo265⟩
def Zk262:Con UU where
 α:=ByteArray
 md:=[.ro]
 of:=o1 oS
 ds:=fun x=>[dS x]
 pre:=fun _=>[]
 res:=fun s=>⟨[.one (.lit (.bool (varOk s)))],true,[]⟩
 law:=l1 lS
def Zi262_2(s:ByteArray):Int×Unit→Prop:=fun(i,_)=>0≤i∧i≤s.size∧((bs s).drop i.toNat).all (byteP varB)=(bs s).all (byteP varB)∧(0<i→largeB (List.getD (bs s) 0 0).toNat=true)
def Zm262_2(s:ByteArray):Int×Unit→Nat:=fun(i,_)=>s.size-i.toNat
def Za262:Zk262.α→Nat→Option (Ann UU):=fun s=>annL [(2,annOf [.slot 3 (3,1024) (.lit (.int .i64))] (fun _=>Zi262_2 s) (Zm262_2 s))]
def Zu262:=us [Zh265,Zh191,Zh81]
theorem Zv262(s:ByteArray):goal EE Zu262 Go.Proofs.Tryz.f262 Zk262 Za262 s=(Zi262_2 s ((0:Int),())∧
 ∀(y:Int×PUnit),
  let x0:Int:=(↑(UInt8.toNat (List.getD s.data.toList (Int.toNat y.1) (0:UInt8))):Int);
  Zi262_2 s y→bif decide (y.1<(↑(ByteArray.size s):Int)) then(0:Int)≤y.1∧Int.toNat y.1<ByteArray.size s∧((0:Int)≤x0∧x0≤(255:Int))∧bif !largeB x0 then bif y.1==(0:Int) then Lf [DV.one (Cell.lit (Value.bool false))] [DV.one (Cell.lit (Value.bool (varOk s)))] else(0:Int)≤y.1∧Int.toNat y.1<ByteArray.size s∧((0:Int)≤x0∧x0≤(255:Int))∧bif !wordB x0 then Lf [DV.one (Cell.lit (Value.bool false))] [DV.one (Cell.lit (Value.bool (varOk s)))] else Zi262_2 s (IntKind.wrap IntKind.i64 (y.1+(1:Int)),PUnit.unit)∧Zm262_2 s (IntKind.wrap IntKind.i64 (y.1+(1:Int)),PUnit.unit)<Zm262_2 s y else Zi262_2 s (IntKind.wrap IntKind.i64 (y.1+(1:Int)),PUnit.unit)∧Zm262_2 s (IntKind.wrap IntKind.i64 (y.1+(1:Int)),PUnit.unit)<Zm262_2 s y else Lf [DV.one (Cell.lit (Value.bool (decide ((1:Int)≤(↑(ByteArray.size s):Int)∧(↑(ByteArray.size s):Int)≤(12:Int)))))] [DV.one (Cell.lit (Value.bool (varOk s)))]):=by kernel_rfl
theorem Zo262:Holds EE (262,Zk262):=by
 refine holds_of EE_ok Go.Proofs.Tryz.func262 Zk262 (by kernel_rfl) Zu262 (us_ok _) Za262 (fun(s:ByteArray) hp hb=> ?_)
 have hl_s:=bdS (s:=s) (hb _ m0)
 clear hp hb
 rw[Zv262 s]
 dsimp only
 refine⟨⟨by omega,by omega,rfl,by omega⟩,?_⟩
 rintro⟨i,⟨⟩⟩ ⟨h1,h2,hR,hS⟩
 have hl:=bs_len s
 simp only[bs_eq]
 refine if_cond (fun hc=> ?_) (fun hc=> ?_)
 ·have hc:=of_decide_eq_true hc
  have hb:=(List.getD (bs s) i.toNat 0).toNat_lt
  rw[all_step _ _ 0 h1 (by omega)] at hR
  rw[wrap_i64 (by omega) (by omega)]
  have hN:(bs s).all (byteP varB)=false→varOk s=false:=fun h=>by simp[varOk,h]
  have hm:Zm262_2 s (i+1,PUnit.unit)<Zm262_2 s (i,()):=by simp only[Zm262_2];omega
  refine⟨by omega,by omega,⟨by omega,by omega⟩,if_cond (fun h=>if_cond (fun h'=>Lf_ff ?_) (fun h'=>⟨by omega,by omega,⟨by omega,by omega⟩,if_cond (fun h''=>Lf_ff (hN ?_)) (fun h''=>⟨⟨by omega,by omega,?_,fun _=>hS ?_⟩,hm⟩)⟩)) (fun h=>⟨⟨by omega,by omega,?_,fun _=> ?_⟩,hm⟩)⟩
  ·have h':i=0:=by simpa using h'
   subst h'
   have h:largeB ((List.getD (bs s) 0 0).toNat:Int)=false:=by simpa using h
   simp only[varOk,h];simp
  ·rw[←hR];simp only[byteP,varB];simp at h h'';simp[h,h'']
  ·rw[←hR];simp only[byteP,varB];simp at h h'';simp[h,h'']
  ·have h':¬i=0:=by simpa using h'
   omega
  ·rw[←hR];simp only[byteP,varB];simp at h;simp[h]
  ·by_cases hz:i=0
   ·subst hz;simpa using h
   ·exact hS (by omega)
 ·have hc:=of_decide_eq_false hc
  rw[drop_end _ (by omega)] at hR
  refine Lf_b ?_
  simp only[varOk,←hR]
  by_cases hz:0<i
  ·rw[hS hz];simp only[zes];grind
  ·rw[decide_eq_false (by omega),decide_eq_false (by omega)];rfl
def Zh262:HH:=⟨_,Zo262⟩
def Zk264:Con UU where
 α:=ByteArray
 md:=[.ro]
 of:=o1 oS
 ds:=fun x=>[dS x]
 pre:=fun _=>[]
 res:=fun s=>⟨[.one (.lit (.bool (varOk s)))],true,[]⟩
 law:=l1 lS
def Zi264_4(s:ByteArray):Int×Unit→Prop:=fun(i,_)=>0≤i∧i≤s.size∧1≤s.size∧s.size≤12∧largeB (List.getD (bs s) 0 0).toNat=true∧((bs s).drop i.toNat).all (byteP varB)=(bs s).all (byteP varB)
def Zm264_4(s:ByteArray):Int×Unit→Nat:=fun(i,_)=>s.size-i.toNat
def Za264:Zk264.α→Nat→Option (Ann UU):=fun s=>annL [(4,annOf [.slot 3 (3,1024) (.lit (.int .i64))] (fun _=>Zi264_4 s) (Zm264_4 s))]
def Zu264:=us [Zh267,Zh231]
theorem Zv264(s:ByteArray):goal EE Zu264 Go.Proofs.Tryz.f264 Zk264 Za264 s=(bif decide ((↑(ByteArray.size s):Int)<(1:Int)) then Lb false (varOk s)
else
 bif decide ((↑(ByteArray.size s):Int)>(12:Int)) then Lf [DV.one (Cell.lit (Value.bool false))] [DV.one (Cell.lit (Value.bool (varOk s)))]
 else
  (0:Int)≤(0:Int)∧
   Int.toNat (0:Int)<ByteArray.size s∧
    bif !largeB (↑(UInt8.toNat (List.getD s.data.toList (Int.toNat (0:Int)) (0:UInt8))):Int) then Lf [DV.one (Cell.lit (Value.bool false))] [DV.one (Cell.lit (Value.bool (varOk s)))]
    else
     Zi264_4 s ((0:Int),PUnit.unit)∧
      ∀(y:Int×PUnit),
       let x0:Int:=(↑(UInt8.toNat (List.getD s.data.toList (Int.toNat y.1) (0:UInt8))):Int);
       Zi264_4 s y→bif decide (y.1<(↑(ByteArray.size s):Int)) then(0:Int)≤y.1∧Int.toNat y.1<ByteArray.size s∧bif !wordB x0 then(0:Int)≤y.1∧Int.toNat y.1<ByteArray.size s∧bif !largeB x0 then Lf [DV.one (Cell.lit (Value.bool false))] [DV.one (Cell.lit (Value.bool (varOk s)))] else Zi264_4 s (IntKind.wrap IntKind.i64 (y.1+(1:Int)),PUnit.unit)∧Zm264_4 s (IntKind.wrap IntKind.i64 (y.1+(1:Int)),PUnit.unit)<Zm264_4 s y else Zi264_4 s (IntKind.wrap IntKind.i64 (y.1+(1:Int)),PUnit.unit)∧Zm264_4 s (IntKind.wrap IntKind.i64 (y.1+(1:Int)),PUnit.unit)<Zm264_4 s y else Lf [DV.one (Cell.lit (Value.bool true))] [DV.one (Cell.lit (Value.bool (varOk s)))]):=by kernel_rfl
theorem Zo264:Holds EE (264,Zk264):=by
 refine holds_of EE_ok Go.Proofs.Tryz.func264 Zk264 (by kernel_rfl) Zu264 (us_ok _) Za264 (fun(s:ByteArray) hp hb=> ?_)
 have hl_s:=bdS (s:=s) (hb _ m0)
 clear hp hb
 rw[Zv264 s]
 dsimp only
 have hl:=bs_len s
 simp only[bs_eq]
 refine if_cond (fun h=>Lf_ff ?_) (fun h=>if_cond (fun h'=>Lf_ff ?_) (fun h'=> ?_))
 ·have h:=of_decide_eq_true h;simp only[varOk];rw[decide_eq_false (by omega)];rfl
 ·have h':=of_decide_eq_true h';simp only[varOk];rw[decide_eq_false (by omega)];rfl
 have h:=of_decide_eq_false h
 have h':=of_decide_eq_false h'
 refine⟨by omega,by omega,if_cond (fun g=>Lf_ff ?_) (fun g=>⟨⟨by omega,by omega,by omega,by omega,by simpa using g,rfl⟩,?_⟩)⟩
 ·have g:largeB ((List.getD (bs s) 0 0).toNat:Int)=false:=by simpa using g
  simp only[varOk,g];simp
 rintro⟨i,⟨⟩⟩ ⟨h1,h2,h3,h4,hS,hR⟩
 simp only
 refine if_cond (fun hc=> ?_) (fun hc=> ?_)
 ·have hc:=of_decide_eq_true hc
  rw[all_step _ _ 0 h1 (by omega)] at hR
  rw[wrap_i64 (by omega) (by omega)]
  have hN:(bs s).all (byteP varB)=false→varOk s=false:=fun h=>by simp[varOk,h]
  have hm:Zm264_4 s (i+1,PUnit.unit)<Zm264_4 s (i,()):=by simp only[Zm264_4];omega
  refine⟨by omega,by omega,if_cond (fun h=>⟨by omega,by omega,if_cond (fun h''=>Lf_ff (hN ?_)) (fun h''=>⟨⟨by omega,by omega,h3,h4,hS,?_⟩,hm⟩)⟩) (fun h=>⟨⟨by omega,by omega,h3,h4,hS,?_⟩,hm⟩)⟩
  ·rw[←hR];simp only[byteP,varB];simp at h h'';simp[h,h'']
  ·rw[←hR];simp only[byteP,varB];simp at h h'';simp[h,h'']
  ·rw[←hR];simp only[byteP,varB];simp at h;simp[h]
 ·have hc:=of_decide_eq_false hc
  rw[drop_end _ (by omega)] at hR
  refine Lf_tt ?_
  simp only[varOk,←hR,hS,decide_eq_true (show 1≤s.size∧s.size≤12 from⟨h3,h4⟩)];rfl
def Zh264:HH:=⟨_,Zo264⟩
def Zk255:Con UU where
 α:=DArg
 md:=[.ro]
 of:=o1 (oA .eArg)
 ds:=fun x=>[dA .eArg x]
 pre:=fun _=>[]
 res:=fun a=>⟨[.one (.lit (.bool (argOk a)))],true,[]⟩
 law:=l1 (lA .eArg)
def Za255:Zk255.α→Nat→Option (Ann UU):=fun a=>annL []
def Zu255:=us [Zh262,Zh192]
theorem Zv255(a:DArg):goal EE Zu255 Go.Proofs.Tryz.f255 Zk255 Za255 a=(let x0:Bool:=ByteArray.toList a.S==ByteArray.toList {data:= #[]:ByteArray};
bif a.K==(1:Int) then bif varOk a.S then Lf [DV.one (Cell.lit (Value.bool (a.V.K==(0:Int)&&(a.V.N==(0:Int)&&(ByteArray.toList a.V.S==ByteArray.toList {data:= #[]:ByteArray}&&true)))))] [DV.one (Cell.lit (Value.bool (argOk a)))] else Lf [DV.one (Cell.lit (Value.bool false))] [DV.one (Cell.lit (Value.bool (argOk a)))] else bif a.K==(2:Int) then bif valOk a.V then Lf [DV.one (Cell.lit (Value.bool x0))] [DV.one (Cell.lit (Value.bool (argOk a)))] else Lf [DV.one (Cell.lit (Value.bool false))] [DV.one (Cell.lit (Value.bool (argOk a)))] else bif a.K==(3:Int) then bif x0 then Lf [DV.one (Cell.lit (Value.bool (a.V.K==(0:Int)&&(a.V.N==(0:Int)&&(ByteArray.toList a.V.S==ByteArray.toList {data:= #[]:ByteArray}&&true)))))] [DV.one (Cell.lit (Value.bool (argOk a)))] else Lf [DV.one (Cell.lit (Value.bool false))] [DV.one (Cell.lit (Value.bool (argOk a)))] else Lf [DV.one (Cell.lit (Value.bool false))] [DV.one (Cell.lit (Value.bool (argOk a)))]):=by kernel_rfl
theorem Zo255:Holds EE (255,Zk255):=by
 refine holds_of EE_ok Go.Proofs.Tryz.func255 Zk255 (by kernel_rfl) Zu255 (us_ok _) Za255 (fun(a:DArg) hp hb=> ?_)
 have hz0:=bd_eArg (x:=a) (hb _ m0)
 have hl_a_S:=hz0.1
 have hl_a_V_S:=hz0.2
 clear hp hb
 rw[Zv255 a]
 dsimp only
 have ev:∀v:DVal,(v.K==0&&(v.N==0&&(ByteArray.toList v.S==ByteArray.toList {data:= #[]}&&true)))=decide (v=zVal):=fun v=>val_beq v zVal
 have e:∀s:ByteArray,(ByteArray.toList s==ByteArray.toList {data:= #[]})=decide (s=noBytes):=fun s=>toList_beq _ _
 simp only[ev,e,argOk]
 repeat' (refine if_cond (fun h=> ?_) (fun h=> ?_))
 all_goals (refine Lf_b ?_;grind)
def Zh255:HH:=⟨_,Zo255⟩
def Zk258:Con UU where
 α:=DArg
 md:=[.ro]
 of:=o1 (oA .eArg)
 ds:=fun x=>[dA .eArg x]
 pre:=fun _=>[]
 res:=fun a=>⟨[.one (.lit (.bool (argOk a)))],true,[]⟩
 law:=l1 (lA .eArg)
def Za258:Zk258.α→Nat→Option (Ann UU):=fun a=>annL []
def Zu258:=us [Zh264,Zh135]
theorem Zv258(a:DArg):goal EE Zu258 Go.Proofs.Tryz.f258 Zk258 Za258 a=(let x0:Bool:=ByteArray.toList a.S==ByteArray.toList {data:= #[]:ByteArray};
bif a.K==(1:Int) then bif varOk a.S then Lf [DV.one (Cell.lit (Value.bool (a.V.K==(0:Int)&&(a.V.N==(0:Int)&&(ByteArray.toList a.V.S==ByteArray.toList {data:= #[]:ByteArray}&&true)))))] [DV.one (Cell.lit (Value.bool (argOk a)))] else Lf [DV.one (Cell.lit (Value.bool false))] [DV.one (Cell.lit (Value.bool (argOk a)))] else bif a.K==(2:Int) then bif x0 then Lf [DV.one (Cell.lit (Value.bool (valOk a.V)))] [DV.one (Cell.lit (Value.bool (argOk a)))] else Lf [DV.one (Cell.lit (Value.bool false))] [DV.one (Cell.lit (Value.bool (argOk a)))] else bif a.K==(3:Int) then bif x0 then Lf [DV.one (Cell.lit (Value.bool (a.V.K==(0:Int)&&(a.V.N==(0:Int)&&(ByteArray.toList a.V.S==ByteArray.toList {data:= #[]:ByteArray}&&true)))))] [DV.one (Cell.lit (Value.bool (argOk a)))] else Lf [DV.one (Cell.lit (Value.bool false))] [DV.one (Cell.lit (Value.bool (argOk a)))] else Lf [DV.one (Cell.lit (Value.bool false))] [DV.one (Cell.lit (Value.bool (argOk a)))]):=by kernel_rfl
theorem Zo258:Holds EE (258,Zk258):=by
 refine holds_of EE_ok Go.Proofs.Tryz.func258 Zk258 (by kernel_rfl) Zu258 (us_ok _) Za258 (fun(a:DArg) hp hb=> ?_)
 have hz0:=bd_eArg (x:=a) (hb _ m0)
 have hl_a_S:=hz0.1
 have hl_a_V_S:=hz0.2
 clear hp hb
 rw[Zv258 a]
 dsimp only
 have ev:∀v:DVal,(v.K==0&&(v.N==0&&(ByteArray.toList v.S==ByteArray.toList {data:= #[]}&&true)))=decide (v=zVal):=fun v=>val_beq v zVal
 have e:∀s:ByteArray,(ByteArray.toList s==ByteArray.toList {data:= #[]})=decide (s=noBytes):=fun s=>toList_beq _ _
 simp only[ev,e,argOk]
 repeat' (refine if_cond (fun h=> ?_) (fun h=> ?_))
 all_goals (refine Lf_b ?_;grind)
def Zh258:HH:=⟨_,Zo258⟩
def Zk237:Con UU where
 α:=DPat
 md:=[.ro]
 of:=o1 (oA .ePat)
 ds:=fun x=>[dA .ePat x]
 pre:=fun _=>[]
 res:=fun p=>⟨[.one (.lit (.bool (patOk p)))],true,[]⟩
 law:=l1 (lA .ePat)
def Zi237_2(p:DPat):Int×(ByteArray×List DArg×Bool×Unit)×Unit→Prop:=fun(i,b,_)=>b=(p.Kind,p.Args,p.Not,())∧0≤i∧i≤p.Args.length∧(p.Args.drop i.toNat).all argOk=p.Args.all argOk
def Zm237_2(p:DPat):Int×(ByteArray×List DArg×Bool×Unit)×Unit→Nat:=fun(i,b,_)=>p.Args.length-i.toNat
def Za237:Zk237.α→Nat→Option (Ann UU):=fun p=>annL [(2,annOf [.slot 3 (3,1024) (.lit (.int .i64)),.box 1 (1,1024) [.lit .str,.shr .eArg,.lit .bool]] (fun _=>Zi237_2 p) (Zm237_2 p))]
def Zu237:=us [Zh255,Zh130]
theorem Zv237(p:DPat):goal EE Zu237 Go.Proofs.Tryz.f237 Zk237 Za237 p=(Zi237_2 p ((0:Int),(p.Kind,p.Args,p.Not,()),())∧
 ∀(y:Int×(ByteArray×List DArg×Bool×PUnit)×PUnit),
  let x1:Nat:=List.length y.2.1.2.1;
  let x0:Int:=(↑x1:Int);
  Zi237_2 p y→bif decide (y.1<x0) then(0:Int)≤y.1∧Int.toNat y.1<x1∧bif !argOk (List.getD y.2.1.2.1 (Int.toNat y.1) zArg) then Lf [DV.one (Cell.lit (Value.bool false))] [DV.one (Cell.lit (Value.bool (patOk p)))] else Zi237_2 p (IntKind.wrap IntKind.i64 (y.1+(1:Int)),(y.2.1.1,y.2.1.2.1,y.2.1.2.2.1,PUnit.unit),PUnit.unit)∧Zm237_2 p (IntKind.wrap IntKind.i64 (y.1+(1:Int)),(y.2.1.1,y.2.1.2.1,y.2.1.2.2.1,PUnit.unit),PUnit.unit)<Zm237_2 p y else bif nameOk y.2.1.1 then Lf [DV.one (Cell.lit (Value.bool (decide (x0≤(5:Int)))))] [DV.one (Cell.lit (Value.bool (patOk p)))] else Lf [DV.one (Cell.lit (Value.bool false))] [DV.one (Cell.lit (Value.bool (patOk p)))]):=by kernel_rfl
theorem Zo237:Holds EE (237,Zk237):=by
 refine holds_of EE_ok Go.Proofs.Tryz.func237 Zk237 (by kernel_rfl) Zu237 (us_ok _) Za237 (fun(p:DPat) hp hb=> ?_)
 have hz0:=bd_ePat (x:=p) (hb _ m0)
 have hl_p_Kind:=hz0.1
 have hl_p_Args:=hz0.2
 clear hp hb
 rw[Zv237 p]
 dsimp only
 refine⟨⟨rfl,by omega,by omega,rfl⟩,?_⟩
 rintro⟨i,⟨bk,ba,bn,⟨⟩⟩,⟨⟩⟩ ⟨hbx,h1,h2,hR⟩
 cases hbx
 simp only
 refine if_cond (fun hc=> ?_) (fun hc=> ?_)
 ·have hc:=of_decide_eq_true hc
  rw[all_step _ _ zArg h1 (by omega)] at hR
  rw[wrap_i64 (by omega) (by omega)]
  refine⟨by omega,by omega,if_cond (fun h=>Lf_ff ?_) (fun h=>⟨⟨rfl,by omega,by omega,?_⟩,?_⟩)⟩
  ·simp only[patOk,←hR];simp at h;simp[h]
  ·rw[←hR];simp at h;simp[h]
  ·simp only[Zm237_2];omega
 ·have hc:=of_decide_eq_false hc
  rw[drop_end _ (by omega)] at hR
  simp only[patOk,←hR,zes]
  repeat' (refine if_cond (fun h=> ?_) (fun h=> ?_))
  all_goals (refine Lf_b ?_;grind)
def Zh237:HH:=⟨_,Zo237⟩
def Zk244:Con UU where
 α:=DPat
 md:=[.ro]
 of:=o1 (oA .ePat)
 ds:=fun x=>[dA .ePat x]
 pre:=fun _=>[]
 res:=fun p=>⟨[.one (.lit (.bool (patOk p)))],true,[]⟩
 law:=l1 (lA .ePat)
def Zi244_4(p:DPat):Int×Unit→Prop:=fun(i,_)=>0≤i∧i≤p.Args.length∧p.Args.length≤5∧nameOk p.Kind=true∧(p.Args.drop i.toNat).all argOk=p.Args.all argOk
def Zm244_4(p:DPat):Int×Unit→Nat:=fun(i,_)=>p.Args.length-i.toNat
def Za244:Zk244.α→Nat→Option (Ann UU):=fun p=>annL [(4,annOf [.slot 18 (18,1024) (.lit (.int .i64))] (fun _=>Zi244_4 p) (Zm244_4 p))]
def Zu244:=us [Zh258,Zh134]
theorem Zv244(p:DPat):goal EE Zu244 Go.Proofs.Tryz.f244 Zk244 Za244 p=(let x0:Int:=(p.Args.length:Int);
bif !nameOk p.Kind then Lf [DV.one (Cell.lit (Value.bool false))] [DV.one (Cell.lit (Value.bool (patOk p)))] else bif decide (x0>(5:Int)) then Lf [DV.one (Cell.lit (Value.bool false))] [DV.one (Cell.lit (Value.bool (patOk p)))] else Zi244_4 p ((0:Int),PUnit.unit)∧∀(y:Int×PUnit),Zi244_4 p y→bif decide (y.1<x0) then(0:Int)≤y.1∧Int.toNat y.1<List.length p.Args∧bif !argOk (List.getD p.Args (Int.toNat y.1) zArg) then Lf [DV.one (Cell.lit (Value.bool false))] [DV.one (Cell.lit (Value.bool (patOk p)))] else Zi244_4 p (IntKind.wrap IntKind.i64 (y.1+(1:Int)),PUnit.unit)∧Zm244_4 p (IntKind.wrap IntKind.i64 (y.1+(1:Int)),PUnit.unit)<Zm244_4 p y else Lf [DV.one (Cell.lit (Value.bool true))] [DV.one (Cell.lit (Value.bool (patOk p)))]):=by kernel_rfl
theorem Zo244:Holds EE (244,Zk244):=by
 refine holds_of EE_ok Go.Proofs.Tryz.func244 Zk244 (by kernel_rfl) Zu244 (us_ok _) Za244 (fun(p:DPat) hp hb=> ?_)
 have hz0:=bd_ePat (x:=p) (hb _ m0)
 have hl_p_Kind:=hz0.1
 have hl_p_Args:=hz0.2
 clear hp hb
 rw[Zv244 p]
 dsimp only
 refine if_cond (fun h=>Lf_ff ?_) (fun h=>if_cond (fun h'=>Lf_ff ?_) (fun h'=> ?_))
 ·simp only[patOk];simp at h;simp[h]
 ·have h':=of_decide_eq_true h';simp only[patOk];rw[decide_eq_false (show¬p.Args.length≤5 by omega)];simp
 have h':=of_decide_eq_false h'
 refine⟨⟨by omega,by omega,by omega,by simpa using h,rfl⟩,?_⟩
 rintro⟨i,⟨⟩⟩ ⟨h1,h2,h3,h4,hR⟩
 simp only
 refine if_cond (fun hc=> ?_) (fun hc=> ?_)
 ·have hc:=of_decide_eq_true hc
  rw[all_step _ _ zArg h1 (by omega)] at hR
  rw[wrap_i64 (by omega) (by omega)]
  refine⟨by omega,by omega,if_cond (fun h=>Lf_ff ?_) (fun h=>⟨⟨by omega,by omega,h3,h4,?_⟩,?_⟩)⟩
  ·simp only[patOk,←hR];simp at h;simp[h]
  ·rw[←hR];simp at h;simp[h]
  ·simp only[Zm244_4];omega
 ·have hc:=of_decide_eq_false hc
  rw[drop_end _ (by omega)] at hR
  refine Lf_tt ?_
  simp only[patOk,←hR,h4,decide_eq_true h3];rfl
def Zh244:HH:=⟨_,Zo244⟩
def Zk245:Con UU where
 α:=DArg
 md:=[.ro]
 of:=o1 (oA .eArg)
 ds:=fun x=>[dA .eArg x]
 pre:=fun _=>[]
 res:=fun a=>⟨[.one (.lit (.bool (termOk a)))],true,[]⟩
 law:=l1 (lA .eArg)
def Za245:Zk245.α→Nat→Option (Ann UU):=fun a=>annL []
def Zu245:=us [Zh258]
theorem Zv245(a:DArg):goal EE Zu245 Go.Proofs.Tryz.f245 Zk245 Za245 a=(bif a.K !=(3:Int) then Lb (argOk a) (termOk a) else Lb false (termOk a)):=by kernel_rfl
theorem Zo245:Holds EE (245,Zk245):=by
 refine holds_of EE_ok Go.Proofs.Tryz.func245 Zk245 (by kernel_rfl) Zu245 (us_ok _) Za245 (fun(a:DArg) hp hb=> ?_)
 have hz0:=bd_eArg (x:=a) (hb _ m0)
 have hl_a_S:=hz0.1
 have hl_a_V_S:=hz0.2
 clear hp hb
 rw[Zv245 a]
 simp only[termOk]
 repeat' (refine if_cond (fun h=> ?_) (fun h=> ?_))
 all_goals (refine Lf_b ?_;grind)
def Zh245:HH:=⟨_,Zo245⟩
def Zk266:Con UU where
 α:=DArg
 md:=[.ro]
 of:=o1 (oA .eArg)
 ds:=fun x=>[dA .eArg x]
 pre:=fun _=>[]
 res:=fun a=>⟨[.one (.lit (.bool (termOk a)))],true,[]⟩
 law:=l1 (lA .eArg)
def Za266:Zk266.α→Nat→Option (Ann UU):=fun a=>annL []
def Zu266:=us [Zh255]
theorem Zv266(a:DArg):goal EE Zu266 Go.Proofs.Tryz.f266 Zk266 Za266 a=(bif argOk a then Lb (a.K !=(3:Int)) (termOk a) else Lb false (termOk a)):=by kernel_rfl
theorem Zo266:Holds EE (266,Zk266):=by
 refine holds_of EE_ok Go.Proofs.Tryz.func266 Zk266 (by kernel_rfl) Zu266 (us_ok _) Za266 (fun(a:DArg) hp hb=> ?_)
 have hz0:=bd_eArg (x:=a) (hb _ m0)
 have hl_a_S:=hz0.1
 have hl_a_V_S:=hz0.2
 clear hp hb
 rw[Zv266 a]
 simp only[termOk]
 repeat' (refine if_cond (fun h=> ?_) (fun h=> ?_))
 all_goals (refine Lf_b ?_;grind)
def Zh266:HH:=⟨_,Zo266⟩
def Zk238:Con UU where
 α:=DCond
 md:=[.ro]
 of:=o1 (oA .eCond)
 ds:=fun x=>[dA .eCond x]
 pre:=fun _=>[]
 res:=fun c=>⟨[.one (.lit (.bool (kondOk c)))],true,[]⟩
 law:=l1 (lA .eCond)
def Za238:Zk238.α→Nat→Option (Ann UU):=fun c=>annL []
def Zu238:=us [Zh81,Zh255]
theorem Zv238(c:DCond):goal EE Zu238 Go.Proofs.Tryz.f238 Zk238 Za238 c=(bif decide ((1:Int)≤c.Op∧c.Op≤(3:Int)) then bif argOk c.L then bif argOk c.R then bif c.L.K !=(3:Int) then Lb (c.R.K !=(3:Int)) (kondOk c) else Lb false (kondOk c) else Lb false (kondOk c) else Lb false (kondOk c) else Lb false (kondOk c)):=by kernel_rfl
theorem Zo238:Holds EE (238,Zk238):=by
 refine holds_of EE_ok Go.Proofs.Tryz.func238 Zk238 (by kernel_rfl) Zu238 (us_ok _) Za238 (fun(c:DCond) hp hb=> ?_)
 have hz0:=bd_eCond (x:=c) (hb _ m0)
 have hl_c_L_S:=hz0.1
 have hl_c_L_V_S:=hz0.2.1
 have hl_c_R_S:=hz0.2.2.1
 have hl_c_R_V_S:=hz0.2.2.2
 clear hp hb
 rw[Zv238 c]
 simp only[kondOk,termOk]
 repeat' (refine if_cond (fun h=> ?_) (fun h=> ?_))
 all_goals (refine Lf_b ?_;grind)
def Zh238:HH:=⟨_,Zo238⟩
def Zk214:Con UU where
 α:=DCond
 md:=[.ro]
 of:=o1 (oA .eCond)
 ds:=fun x=>[dA .eCond x]
 pre:=fun _=>[]
 res:=fun c=>⟨[.one (.lit (.bool (kondOk c)))],true,[]⟩
 law:=l1 (lA .eCond)
def Za214:Zk214.α→Nat→Option (Ann UU):=fun c=>annL []
def Zu214:=us [Zh104,Zh245]
theorem Zv214(c:DCond):goal EE Zu214 Go.Proofs.Tryz.f214 Zk214 Za214 c=(bif decide ((1:Int)≤c.Op∧c.Op≤(3:Int)) then bif termOk c.L then Lb (termOk c.R) (kondOk c) else Lb false (kondOk c) else Lb false (kondOk c)):=by kernel_rfl
theorem Zo214:Holds EE (214,Zk214):=by
 refine holds_of EE_ok Go.Proofs.Tryz.func214 Zk214 (by kernel_rfl) Zu214 (us_ok _) Za214 (fun(c:DCond) hp hb=> ?_)
 have hz0:=bd_eCond (x:=c) (hb _ m0)
 have hl_c_L_S:=hz0.1
 have hl_c_L_V_S:=hz0.2.1
 have hl_c_R_S:=hz0.2.2.1
 have hl_c_R_V_S:=hz0.2.2.2
 clear hp hb
 rw[Zv214 c]
 simp only[kondOk]
 repeat' (refine if_cond (fun h=> ?_) (fun h=> ?_))
 all_goals (refine Lf_b ?_;grind)
def Zh214:HH:=⟨_,Zo214⟩
def Zk263:Con UU where
 α:=DExpr
 md:=[.ro]
 of:=o1 (oA .eExpr)
 ds:=fun x=>[dA .eExpr x]
 pre:=fun _=>[]
 res:=fun e=>⟨[.one (.lit (.bool (exprOk e)))],true,[]⟩
 law:=l1 (lA .eExpr)
def Za263:Zk263.α→Nat→Option (Ann UU):=fun e=>annL []
def Zu263:=us [Zh266]
theorem Zv263(e:DExpr):goal EE Zu263 Go.Proofs.Tryz.f263 Zk263 Za263 e=(let x0:Bool:=ByteArray.toList e.Op==ByteArray.toList {data:= #[(43:UInt8)]:ByteArray};
bif ByteArray.toList e.Op==ByteArray.toList {data:= #[]:ByteArray} then bif termOk e.L then Lf [DV.one (Cell.lit (Value.bool (e.R.K==(0:Int)&&(ByteArray.toList e.R.S==ByteArray.toList {data:= #[]:ByteArray}&&(e.R.V.K==(0:Int)&&(e.R.V.N==(0:Int)&&(ByteArray.toList e.R.V.S==ByteArray.toList {data:= #[]:ByteArray}&&true))&&true)))))] [DV.one (Cell.lit (Value.bool (exprOk e)))] else Lf [DV.one (Cell.lit (Value.bool false))] [DV.one (Cell.lit (Value.bool (exprOk e)))] else bif x0 then bif x0 then bif termOk e.L then Lf [DV.one (Cell.lit (Value.bool (termOk e.R)))] [DV.one (Cell.lit (Value.bool (exprOk e)))] else Lf [DV.one (Cell.lit (Value.bool false))] [DV.one (Cell.lit (Value.bool (exprOk e)))] else Lf [DV.one (Cell.lit (Value.bool false))] [DV.one (Cell.lit (Value.bool (exprOk e)))] else bif ByteArray.toList e.Op==ByteArray.toList {data:= #[(45:UInt8)]:ByteArray} then bif termOk e.L then Lf [DV.one (Cell.lit (Value.bool (termOk e.R)))] [DV.one (Cell.lit (Value.bool (exprOk e)))] else Lf [DV.one (Cell.lit (Value.bool false))] [DV.one (Cell.lit (Value.bool (exprOk e)))] else Lf [DV.one (Cell.lit (Value.bool false))] [DV.one (Cell.lit (Value.bool (exprOk e)))]):=by kernel_rfl
theorem Zo263:Holds EE (263,Zk263):=by
 refine holds_of EE_ok Go.Proofs.Tryz.func263 Zk263 (by kernel_rfl) Zu263 (us_ok _) Za263 (fun(e:DExpr) hp hb=> ?_)
 have hz0:=bd_eExpr (x:=e) (hb _ m0)
 have hl_e_Op:=hz0.1
 have hl_e_L_S:=hz0.2.1
 have hl_e_L_V_S:=hz0.2.2.1
 have hl_e_R_S:=hz0.2.2.2.1
 have hl_e_R_V_S:=hz0.2.2.2.2
 clear hp hb
 rw[Zv263 e]
 dsimp only
 have e:∀s:ByteArray,(ByteArray.toList s==ByteArray.toList {data:= #[]})=decide (s=noBytes):=fun s=>toList_beq _ _
 have ea:∀a:DArg,(a.K==0&&(ByteArray.toList a.S==ByteArray.toList {data:= #[]}&&(a.V.K==0&&(a.V.N==0&&(ByteArray.toList a.V.S==ByteArray.toList {data:= #[]}&&true))&&true)))=decide (a=zArg):=fun a=>argR_beq a zArg
 have e1:∀s:ByteArray,(ByteArray.toList s==ByteArray.toList {data:= #[43]})=decide (s=bPlus):=fun s=>toList_beq _ _
 have e2:∀s:ByteArray,(ByteArray.toList s==ByteArray.toList {data:= #[45]})=decide (s=bMinus):=fun s=>toList_beq _ _
 simp only[ea]
 simp only[e,e1,e2,exprOk]
 repeat' (refine if_cond (fun h=> ?_) (fun h=> ?_))
 all_goals (refine Lf_b ?_;grind)
def Zh263:HH:=⟨_,Zo263⟩
def Zk259:Con UU where
 α:=DExpr
 md:=[.ro]
 of:=o1 (oA .eExpr)
 ds:=fun x=>[dA .eExpr x]
 pre:=fun _=>[]
 res:=fun e=>⟨[.one (.lit (.bool (exprOk e)))],true,[]⟩
 law:=l1 (lA .eExpr)
def Za259:Zk259.α→Nat→Option (Ann UU):=fun e=>annL []
def Zu259:=us [Zh245]
theorem Zv259(e:DExpr):goal EE Zu259 Go.Proofs.Tryz.f259 Zk259 Za259 e=(let x0:Bool:=ByteArray.toList e.Op==ByteArray.toList {data:= #[(43:UInt8)]:ByteArray};
bif ByteArray.toList e.Op==ByteArray.toList {data:= #[]:ByteArray} then bif termOk e.L then Lf [DV.one (Cell.lit (Value.bool (e.R.K==(0:Int)&&(ByteArray.toList e.R.S==ByteArray.toList {data:= #[]:ByteArray}&&(e.R.V.K==(0:Int)&&(e.R.V.N==(0:Int)&&(ByteArray.toList e.R.V.S==ByteArray.toList {data:= #[]:ByteArray}&&true))&&true)))))] [DV.one (Cell.lit (Value.bool (exprOk e)))] else Lf [DV.one (Cell.lit (Value.bool false))] [DV.one (Cell.lit (Value.bool (exprOk e)))] else bif x0 then bif x0 then bif termOk e.L then Lf [DV.one (Cell.lit (Value.bool (termOk e.R)))] [DV.one (Cell.lit (Value.bool (exprOk e)))] else Lf [DV.one (Cell.lit (Value.bool false))] [DV.one (Cell.lit (Value.bool (exprOk e)))] else Lf [DV.one (Cell.lit (Value.bool false))] [DV.one (Cell.lit (Value.bool (exprOk e)))] else bif ByteArray.toList e.Op==ByteArray.toList {data:= #[(45:UInt8)]:ByteArray} then bif termOk e.L then Lf [DV.one (Cell.lit (Value.bool (termOk e.R)))] [DV.one (Cell.lit (Value.bool (exprOk e)))] else Lf [DV.one (Cell.lit (Value.bool false))] [DV.one (Cell.lit (Value.bool (exprOk e)))] else Lf [DV.one (Cell.lit (Value.bool false))] [DV.one (Cell.lit (Value.bool (exprOk e)))]):=by kernel_rfl
theorem Zo259:Holds EE (259,Zk259):=by
 refine holds_of EE_ok Go.Proofs.Tryz.func259 Zk259 (by kernel_rfl) Zu259 (us_ok _) Za259 (fun(e:DExpr) hp hb=> ?_)
 have hz0:=bd_eExpr (x:=e) (hb _ m0)
 have hl_e_Op:=hz0.1
 have hl_e_L_S:=hz0.2.1
 have hl_e_L_V_S:=hz0.2.2.1
 have hl_e_R_S:=hz0.2.2.2.1
 have hl_e_R_V_S:=hz0.2.2.2.2
 clear hp hb
 rw[Zv259 e]
 dsimp only
 have e:∀s:ByteArray,(ByteArray.toList s==ByteArray.toList {data:= #[]})=decide (s=noBytes):=fun s=>toList_beq _ _
 have ea:∀a:DArg,(a.K==0&&(ByteArray.toList a.S==ByteArray.toList {data:= #[]}&&(a.V.K==0&&(a.V.N==0&&(ByteArray.toList a.V.S==ByteArray.toList {data:= #[]}&&true))&&true)))=decide (a=zArg):=fun a=>argR_beq a zArg
 have e1:∀s:ByteArray,(ByteArray.toList s==ByteArray.toList {data:= #[43]})=decide (s=bPlus):=fun s=>toList_beq _ _
 have e2:∀s:ByteArray,(ByteArray.toList s==ByteArray.toList {data:= #[45]})=decide (s=bMinus):=fun s=>toList_beq _ _
 simp only[ea]
 simp only[e,e1,e2,exprOk]
 repeat' (refine if_cond (fun h=> ?_) (fun h=> ?_))
 all_goals (refine Lf_b ?_;grind)
def Zh259:HH:=⟨_,Zo259⟩
def Zk256:Con UU where
 α:=(List DExpr)
 md:=[.ro]
 of:=o1 (oL .eExpr)
 ds:=fun x=>[dL .eExpr x]
 pre:=fun _=>[]
 res:=fun es=>⟨[.one (.lit (.bool (exprsOk es)))],true,[]⟩
 law:=l1 (lL .eExpr)
def Zi256_2(es:(List DExpr)):Int×Unit→Prop:=fun(i,_)=>0≤i∧i≤es.length∧(es.drop i.toNat).all exprOk=es.all exprOk
def Zm256_2(es:(List DExpr)):Int×Unit→Nat:=fun(i,_)=>es.length-i.toNat
def Za256:Zk256.α→Nat→Option (Ann UU):=fun es=>annL [(2,annOf [.slot 3 (3,1024) (.lit (.int .i64))] (fun _=>Zi256_2 es) (Zm256_2 es))]
def Zu256:=us [Zh263]
theorem Zv256(es:(List DExpr)):goal EE Zu256 Go.Proofs.Tryz.f256 Zk256 Za256 es=(let x0:Int:=(es.length:Int);
Zi256_2 es ((0:Int),PUnit.unit)∧∀(y:Int×PUnit),Zi256_2 es y→bif decide (y.1<x0) then(0:Int)≤y.1∧Int.toNat y.1<List.length es∧bif !exprOk (List.getD es (Int.toNat y.1) zExpr) then Lf [DV.one (Cell.lit (Value.bool false))] [DV.one (Cell.lit (Value.bool (exprsOk es)))] else Zi256_2 es (IntKind.wrap IntKind.i64 (y.1+(1:Int)),PUnit.unit)∧Zm256_2 es (IntKind.wrap IntKind.i64 (y.1+(1:Int)),PUnit.unit)<Zm256_2 es y else Lf [DV.one (Cell.lit (Value.bool (decide (x0≤(5:Int)))))] [DV.one (Cell.lit (Value.bool (exprsOk es)))]):=by kernel_rfl
theorem Zo256:Holds EE (256,Zk256):=by
 refine holds_of EE_ok Go.Proofs.Tryz.func256 Zk256 (by kernel_rfl) Zu256 (us_ok _) Za256 (fun(es:(List DExpr)) hp hb=> ?_)
 have hl_es:es.length≤9223372036854775807:=bdL (hb _ m0)
 clear hp hb
 rw[Zv256 es]
 dsimp only
 refine⟨⟨by omega,by omega,rfl⟩,?_⟩
 rintro⟨i,⟨⟩⟩ ⟨h1,h2,hR⟩
 simp only
 refine if_cond (fun hc=> ?_) (fun hc=> ?_)
 ·have hc:=of_decide_eq_true hc
  rw[all_step _ _ zExpr h1 (by omega)] at hR
  rw[wrap_i64 (by omega) (by omega)]
  refine⟨by omega,by omega,if_cond (fun h=>Lf_ff ?_) (fun h=>⟨⟨by omega,by omega,?_⟩,?_⟩)⟩
  ·simp only[exprsOk,←hR];simp at h;simp[h]
  ·rw[←hR];simp at h;simp[h]
  ·simp only[Zm256_2];omega
 ·have hc:=of_decide_eq_false hc
  rw[drop_end _ (by omega)] at hR
  refine Lf_b ?_
  simp only[exprsOk,←hR];simp;omega
def Zh256:HH:=⟨_,Zo256⟩
def Zk246:Con UU where
 α:=DAct
 md:=[.ro]
 of:=o1 (oA .eAct)
 ds:=fun x=>[dA .eAct x]
 pre:=fun _=>[]
 res:=fun a=>⟨[.one (.lit (.bool (nameOk a.Name&&exprsOk a.Args)))],true,[]⟩
 law:=l1 (lA .eAct)
def Zi246_4(a:DAct):Int×Unit→Prop:=fun(i,_)=>0≤i∧i≤a.Args.length∧a.Args.length≤5∧nameOk a.Name=true∧(a.Args.drop i.toNat).all exprOk=a.Args.all exprOk
def Zm246_4(a:DAct):Int×Unit→Nat:=fun(i,_)=>a.Args.length-i.toNat
def Za246:Zk246.α→Nat→Option (Ann UU):=fun a=>annL [(4,annOf [.slot 18 (18,1024) (.lit (.int .i64))] (fun _=>Zi246_4 a) (Zm246_4 a))]
def Zu246:=us [Zh259,Zh134]
theorem Zv246(a:DAct):goal EE Zu246 Go.Proofs.Tryz.f246 Zk246 Za246 a=(let x0:Int:=(a.Args.length:Int);
bif !nameOk a.Name then Lf [DV.one (Cell.lit (Value.bool false))] [DV.one (Cell.lit (Value.bool (nameOk a.Name&&exprsOk a.Args)))] else bif decide (x0>(5:Int)) then Lf [DV.one (Cell.lit (Value.bool false))] [DV.one (Cell.lit (Value.bool (nameOk a.Name&&exprsOk a.Args)))] else Zi246_4 a ((0:Int),PUnit.unit)∧∀(y:Int×PUnit),Zi246_4 a y→bif decide (y.1<x0) then(0:Int)≤y.1∧Int.toNat y.1<List.length a.Args∧bif !exprOk (List.getD a.Args (Int.toNat y.1) zExpr) then Lf [DV.one (Cell.lit (Value.bool false))] [DV.one (Cell.lit (Value.bool (nameOk a.Name&&exprsOk a.Args)))] else Zi246_4 a (IntKind.wrap IntKind.i64 (y.1+(1:Int)),PUnit.unit)∧Zm246_4 a (IntKind.wrap IntKind.i64 (y.1+(1:Int)),PUnit.unit)<Zm246_4 a y else Lf [DV.one (Cell.lit (Value.bool true))] [DV.one (Cell.lit (Value.bool (nameOk a.Name&&exprsOk a.Args)))]):=by kernel_rfl
theorem Zo246:Holds EE (246,Zk246):=by
 refine holds_of EE_ok Go.Proofs.Tryz.func246 Zk246 (by kernel_rfl) Zu246 (us_ok _) Za246 (fun(a:DAct) hp hb=> ?_)
 have hz0:=bd_eAct (x:=a) (hb _ m0)
 have hl_a_Name:=hz0.1
 have hl_a_Args:=hz0.2.1
 have hl_a_Undo:=hz0.2.2
 clear hp hb
 rw[Zv246 a]
 dsimp only
 refine if_cond (fun h=>Lf_ff ?_) (fun h=>if_cond (fun h'=>Lf_ff ?_) (fun h'=> ?_))
 ·simp at h;simp[h]
 ·have h':=of_decide_eq_true h';simp only[exprsOk];rw[decide_eq_false (show¬a.Args.length≤5 by omega)];simp
 have h':=of_decide_eq_false h'
 refine⟨⟨by omega,by omega,by omega,by simpa using h,rfl⟩,?_⟩
 rintro⟨i,⟨⟩⟩ ⟨h1,h2,h3,h4,hR⟩
 simp only
 refine if_cond (fun hc=> ?_) (fun hc=> ?_)
 ·have hc:=of_decide_eq_true hc
  rw[all_step _ _ zExpr h1 (by omega)] at hR
  rw[wrap_i64 (by omega) (by omega)]
  refine⟨by omega,by omega,if_cond (fun h=>Lf_ff ?_) (fun h=>⟨⟨by omega,by omega,h3,h4,?_⟩,?_⟩)⟩
  ·simp only[exprsOk,←hR];simp at h;simp[h]
  ·rw[←hR];simp at h;simp[h]
  ·simp only[Zm246_4];omega
 ·have hc:=of_decide_eq_false hc
  rw[drop_end _ (by omega)] at hR
  refine Lf_tt ?_
  simp only[exprsOk,←hR,h4,decide_eq_true h3];rfl
def Zh246:HH:=⟨_,Zo246⟩
def Zk240:Con UU where
 α:=DAct
 md:=[.ro]
 of:=o1 (oA .eAct)
 ds:=fun x=>[dA .eAct x]
 pre:=fun _=>[]
 res:=fun a=>⟨[.one (.lit (.bool (actOk a)))],true,[]⟩
 law:=l1 (lA .eAct)
def Za240:Zk240.α→Nat→Option (Ann UU):=fun a=>annL []
def Zu240:=us [Zh81,Zh130,Zh256]
theorem Zv240(a:DAct):goal EE Zu240 Go.Proofs.Tryz.f240 Zk240 Za240 a=(let x0:Bool:=ByteArray.toList a.Undo==ByteArray.toList {data:= #[]:ByteArray};
let x1:Bool:=a.Kind==(5:Int);
let x2:Bool:=a.N==(0:Int);
bif ByteArray.toList a.Name==ByteArray.toList {data:= #[]:ByteArray} then bif (↑(List.length a.Args):Int)==(0:Int) then bif a.Kind==(1:Int) then bif nameOk a.Name then bif exprsOk a.Args then bif x2 then Lf [DV.one (Cell.lit (Value.bool x0))] [DV.one (Cell.lit (Value.bool (actOk a)))] else Lf [DV.one (Cell.lit (Value.bool false))] [DV.one (Cell.lit (Value.bool (actOk a)))] else Lf [DV.one (Cell.lit (Value.bool false))] [DV.one (Cell.lit (Value.bool (actOk a)))] else Lf [DV.one (Cell.lit (Value.bool false))] [DV.one (Cell.lit (Value.bool (actOk a)))] else bif a.Kind==(3:Int) then bif nameOk a.Name then bif exprsOk a.Args then bif x2 then bif x0 then Lf [DV.one (Cell.lit (Value.bool true))] [DV.one (Cell.lit (Value.bool (actOk a)))] else Lf [DV.one (Cell.lit (Value.bool (nameOk a.Undo)))] [DV.one (Cell.lit (Value.bool (actOk a)))] else Lf [DV.one (Cell.lit (Value.bool false))] [DV.one (Cell.lit (Value.bool (actOk a)))] else Lf [DV.one (Cell.lit (Value.bool false))] [DV.one (Cell.lit (Value.bool (actOk a)))] else Lf [DV.one (Cell.lit (Value.bool false))] [DV.one (Cell.lit (Value.bool (actOk a)))] else bif a.Kind==(4:Int) then bif nameOk a.Name then bif exprsOk a.Args then bif decide ((0:Int)≤a.N∧a.N≤(100000:Int)) then Lf [DV.one (Cell.lit (Value.bool x0))] [DV.one (Cell.lit (Value.bool (actOk a)))] else Lf [DV.one (Cell.lit (Value.bool false))] [DV.one (Cell.lit (Value.bool (actOk a)))] else Lf [DV.one (Cell.lit (Value.bool false))] [DV.one (Cell.lit (Value.bool (actOk a)))] else Lf [DV.one (Cell.lit (Value.bool false))] [DV.one (Cell.lit (Value.bool (actOk a)))] else bif a.Kind==(2:Int) then bif x0 then Lf [DV.one (Cell.lit (Value.bool (decide ((0:Int)≤a.N∧a.N≤(7:Int)))))] [DV.one (Cell.lit (Value.bool (actOk a)))] else Lf [DV.one (Cell.lit (Value.bool false))] [DV.one (Cell.lit (Value.bool (actOk a)))] else bif x1 then bif x1 then bif x0 then Lf [DV.one (Cell.lit (Value.bool x2))] [DV.one (Cell.lit (Value.bool (actOk a)))] else Lf [DV.one (Cell.lit (Value.bool false))] [DV.one (Cell.lit (Value.bool (actOk a)))] else Lf [DV.one (Cell.lit (Value.bool false))] [DV.one (Cell.lit (Value.bool (actOk a)))] else bif a.Kind==(6:Int) then bif x0 then Lf [DV.one (Cell.lit (Value.bool x2))] [DV.one (Cell.lit (Value.bool (actOk a)))] else Lf [DV.one (Cell.lit (Value.bool false))] [DV.one (Cell.lit (Value.bool (actOk a)))] else Lf [DV.one (Cell.lit (Value.bool false))] [DV.one (Cell.lit (Value.bool (actOk a)))] else bif a.Kind==(1:Int) then bif nameOk a.Name then bif exprsOk a.Args then bif x2 then Lf [DV.one (Cell.lit (Value.bool x0))] [DV.one (Cell.lit (Value.bool (actOk a)))] else Lf [DV.one (Cell.lit (Value.bool false))] [DV.one (Cell.lit (Value.bool (actOk a)))] else Lf [DV.one (Cell.lit (Value.bool false))] [DV.one (Cell.lit (Value.bool (actOk a)))] else Lf [DV.one (Cell.lit (Value.bool false))] [DV.one (Cell.lit (Value.bool (actOk a)))] else bif a.Kind==(3:Int) then bif nameOk a.Name then bif exprsOk a.Args then bif x2 then bif x0 then Lf [DV.one (Cell.lit (Value.bool true))] [DV.one (Cell.lit (Value.bool (actOk a)))] else Lf [DV.one (Cell.lit (Value.bool (nameOk a.Undo)))] [DV.one (Cell.lit (Value.bool (actOk a)))] else Lf [DV.one (Cell.lit (Value.bool false))] [DV.one (Cell.lit (Value.bool (actOk a)))] else Lf [DV.one (Cell.lit (Value.bool false))] [DV.one (Cell.lit (Value.bool (actOk a)))] else Lf [DV.one (Cell.lit (Value.bool false))] [DV.one (Cell.lit (Value.bool (actOk a)))] else bif a.Kind==(4:Int) then bif nameOk a.Name then bif exprsOk a.Args then bif decide ((0:Int)≤a.N∧a.N≤(100000:Int)) then Lf [DV.one (Cell.lit (Value.bool x0))] [DV.one (Cell.lit (Value.bool (actOk a)))] else Lf [DV.one (Cell.lit (Value.bool false))] [DV.one (Cell.lit (Value.bool (actOk a)))] else Lf [DV.one (Cell.lit (Value.bool false))] [DV.one (Cell.lit (Value.bool (actOk a)))] else Lf [DV.one (Cell.lit (Value.bool false))] [DV.one (Cell.lit (Value.bool (actOk a)))] else bif a.Kind==(2:Int) then Lf [DV.one (Cell.lit (Value.bool false))] [DV.one (Cell.lit (Value.bool (actOk a)))] else bif x1 then bif x1 then Lf [DV.one (Cell.lit (Value.bool false))] [DV.one (Cell.lit (Value.bool (actOk a)))] else Lf [DV.one (Cell.lit (Value.bool false))] [DV.one (Cell.lit (Value.bool (actOk a)))] else bif a.Kind==(6:Int) then Lf [DV.one (Cell.lit (Value.bool false))] [DV.one (Cell.lit (Value.bool (actOk a)))] else Lf [DV.one (Cell.lit (Value.bool false))] [DV.one (Cell.lit (Value.bool (actOk a)))] else bif a.Kind==(1:Int) then bif nameOk a.Name then bif exprsOk a.Args then bif x2 then Lf [DV.one (Cell.lit (Value.bool x0))] [DV.one (Cell.lit (Value.bool (actOk a)))] else Lf [DV.one (Cell.lit (Value.bool false))] [DV.one (Cell.lit (Value.bool (actOk a)))] else Lf [DV.one (Cell.lit (Value.bool false))] [DV.one (Cell.lit (Value.bool (actOk a)))] else Lf [DV.one (Cell.lit (Value.bool false))] [DV.one (Cell.lit (Value.bool (actOk a)))] else bif a.Kind==(3:Int) then bif nameOk a.Name then bif exprsOk a.Args then bif x2 then bif x0 then Lf [DV.one (Cell.lit (Value.bool true))] [DV.one (Cell.lit (Value.bool (actOk a)))] else Lf [DV.one (Cell.lit (Value.bool (nameOk a.Undo)))] [DV.one (Cell.lit (Value.bool (actOk a)))] else Lf [DV.one (Cell.lit (Value.bool false))] [DV.one (Cell.lit (Value.bool (actOk a)))] else Lf [DV.one (Cell.lit (Value.bool false))] [DV.one (Cell.lit (Value.bool (actOk a)))] else Lf [DV.one (Cell.lit (Value.bool false))] [DV.one (Cell.lit (Value.bool (actOk a)))] else bif a.Kind==(4:Int) then bif nameOk a.Name then bif exprsOk a.Args then bif decide ((0:Int)≤a.N∧a.N≤(100000:Int)) then Lf [DV.one (Cell.lit (Value.bool x0))] [DV.one (Cell.lit (Value.bool (actOk a)))] else Lf [DV.one (Cell.lit (Value.bool false))] [DV.one (Cell.lit (Value.bool (actOk a)))] else Lf [DV.one (Cell.lit (Value.bool false))] [DV.one (Cell.lit (Value.bool (actOk a)))] else Lf [DV.one (Cell.lit (Value.bool false))] [DV.one (Cell.lit (Value.bool (actOk a)))] else bif a.Kind==(2:Int) then Lf [DV.one (Cell.lit (Value.bool false))] [DV.one (Cell.lit (Value.bool (actOk a)))] else bif x1 then bif x1 then Lf [DV.one (Cell.lit (Value.bool false))] [DV.one (Cell.lit (Value.bool (actOk a)))] else Lf [DV.one (Cell.lit (Value.bool false))] [DV.one (Cell.lit (Value.bool (actOk a)))] else bif a.Kind==(6:Int) then Lf [DV.one (Cell.lit (Value.bool false))] [DV.one (Cell.lit (Value.bool (actOk a)))] else Lf [DV.one (Cell.lit (Value.bool false))] [DV.one (Cell.lit (Value.bool (actOk a)))]):=by kernel_rfl
theorem Zo240:Holds EE (240,Zk240):=by
 refine holds_of EE_ok Go.Proofs.Tryz.func240 Zk240 (by kernel_rfl) Zu240 (us_ok _) Za240 (fun(a:DAct) hp hb=> ?_)
 have hz0:=bd_eAct (x:=a) (hb _ m0)
 have hl_a_Name:=hz0.1
 have hl_a_Args:=hz0.2.1
 have hl_a_Undo:=hz0.2.2
 clear hp hb
 rw[Zv240 a]
 dsimp only
 have e:∀s:ByteArray,(ByteArray.toList s==ByteArray.toList {data:= #[]})=decide (s=noBytes):=fun s=>toList_beq _ _
 simp only[e,actOk,bareA,undoOk]
 repeat' (refine if_cond (fun h=> ?_) (fun h=> ?_))
 all_goals (refine Lf_b ?_;grind)
def Zh240:HH:=⟨_,Zo240⟩
def Zk215:Con UU where
 α:=DAct
 md:=[.ro]
 of:=o1 (oA .eAct)
 ds:=fun x=>[dA .eAct x]
 pre:=fun _=>[]
 res:=fun a=>⟨[.one (.lit (.bool (actOk a)))],true,[]⟩
 law:=l1 (lA .eAct)
def Za215:Zk215.α→Nat→Option (Ann UU):=fun a=>annL []
def Zu215:=us [Zh104,Zh246,Zh222]
theorem Zv215(a:DAct):goal EE Zu215 Go.Proofs.Tryz.f215 Zk215 Za215 a=(let x0:Bool:=a.Kind==(5:Int);
let x1:Bool:=nameOk a.Name&&exprsOk a.Args;
bif ByteArray.toList a.Name==ByteArray.toList {data:= #[]:ByteArray} then bif a.Kind==(1:Int) then bif x1 then bif a.N==(0:Int) then Lf [DV.one (Cell.lit (Value.bool (ByteArray.toList a.Undo==ByteArray.toList {data:= #[]:ByteArray})))] [DV.one (Cell.lit (Value.bool (actOk a)))] else Lf [DV.one (Cell.lit (Value.bool false))] [DV.one (Cell.lit (Value.bool (actOk a)))] else Lf [DV.one (Cell.lit (Value.bool false))] [DV.one (Cell.lit (Value.bool (actOk a)))] else bif a.Kind==(2:Int) then bif (↑(List.length a.Args):Int)==(0:Int) then bif decide ((0:Int)≤a.N∧a.N≤(7:Int)) then Lf [DV.one (Cell.lit (Value.bool (ByteArray.toList a.Undo==ByteArray.toList {data:= #[]:ByteArray})))] [DV.one (Cell.lit (Value.bool (actOk a)))] else Lf [DV.one (Cell.lit (Value.bool false))] [DV.one (Cell.lit (Value.bool (actOk a)))] else Lf [DV.one (Cell.lit (Value.bool false))] [DV.one (Cell.lit (Value.bool (actOk a)))] else bif a.Kind==(3:Int) then bif x1 then bif a.N==(0:Int) then Lf [DV.one (Cell.lit (Value.bool (undoOk a.Undo)))] [DV.one (Cell.lit (Value.bool (actOk a)))] else Lf [DV.one (Cell.lit (Value.bool false))] [DV.one (Cell.lit (Value.bool (actOk a)))] else Lf [DV.one (Cell.lit (Value.bool false))] [DV.one (Cell.lit (Value.bool (actOk a)))] else bif a.Kind==(4:Int) then bif x1 then bif decide ((0:Int)≤a.N∧a.N≤(100000:Int)) then Lf [DV.one (Cell.lit (Value.bool (ByteArray.toList a.Undo==ByteArray.toList {data:= #[]:ByteArray})))] [DV.one (Cell.lit (Value.bool (actOk a)))] else Lf [DV.one (Cell.lit (Value.bool false))] [DV.one (Cell.lit (Value.bool (actOk a)))] else Lf [DV.one (Cell.lit (Value.bool false))] [DV.one (Cell.lit (Value.bool (actOk a)))] else bif x0 then bif x0 then bif (↑(List.length a.Args):Int)==(0:Int) then bif a.N==(0:Int) then Lf [DV.one (Cell.lit (Value.bool (ByteArray.toList a.Undo==ByteArray.toList {data:= #[]:ByteArray})))] [DV.one (Cell.lit (Value.bool (actOk a)))] else Lf [DV.one (Cell.lit (Value.bool false))] [DV.one (Cell.lit (Value.bool (actOk a)))] else Lf [DV.one (Cell.lit (Value.bool false))] [DV.one (Cell.lit (Value.bool (actOk a)))] else Lf [DV.one (Cell.lit (Value.bool false))] [DV.one (Cell.lit (Value.bool (actOk a)))] else bif a.Kind==(6:Int) then bif (↑(List.length a.Args):Int)==(0:Int) then bif a.N==(0:Int) then Lf [DV.one (Cell.lit (Value.bool (ByteArray.toList a.Undo==ByteArray.toList {data:= #[]:ByteArray})))] [DV.one (Cell.lit (Value.bool (actOk a)))] else Lf [DV.one (Cell.lit (Value.bool false))] [DV.one (Cell.lit (Value.bool (actOk a)))] else Lf [DV.one (Cell.lit (Value.bool false))] [DV.one (Cell.lit (Value.bool (actOk a)))] else Lf [DV.one (Cell.lit (Value.bool false))] [DV.one (Cell.lit (Value.bool (actOk a)))] else bif a.Kind==(1:Int) then bif x1 then bif a.N==(0:Int) then Lf [DV.one (Cell.lit (Value.bool (ByteArray.toList a.Undo==ByteArray.toList {data:= #[]:ByteArray})))] [DV.one (Cell.lit (Value.bool (actOk a)))] else Lf [DV.one (Cell.lit (Value.bool false))] [DV.one (Cell.lit (Value.bool (actOk a)))] else Lf [DV.one (Cell.lit (Value.bool false))] [DV.one (Cell.lit (Value.bool (actOk a)))] else bif a.Kind==(2:Int) then Lf [DV.one (Cell.lit (Value.bool false))] [DV.one (Cell.lit (Value.bool (actOk a)))] else bif a.Kind==(3:Int) then bif x1 then bif a.N==(0:Int) then Lf [DV.one (Cell.lit (Value.bool (undoOk a.Undo)))] [DV.one (Cell.lit (Value.bool (actOk a)))] else Lf [DV.one (Cell.lit (Value.bool false))] [DV.one (Cell.lit (Value.bool (actOk a)))] else Lf [DV.one (Cell.lit (Value.bool false))] [DV.one (Cell.lit (Value.bool (actOk a)))] else bif a.Kind==(4:Int) then bif x1 then bif decide ((0:Int)≤a.N∧a.N≤(100000:Int)) then Lf [DV.one (Cell.lit (Value.bool (ByteArray.toList a.Undo==ByteArray.toList {data:= #[]:ByteArray})))] [DV.one (Cell.lit (Value.bool (actOk a)))] else Lf [DV.one (Cell.lit (Value.bool false))] [DV.one (Cell.lit (Value.bool (actOk a)))] else Lf [DV.one (Cell.lit (Value.bool false))] [DV.one (Cell.lit (Value.bool (actOk a)))] else bif x0 then bif x0 then Lf [DV.one (Cell.lit (Value.bool false))] [DV.one (Cell.lit (Value.bool (actOk a)))] else Lf [DV.one (Cell.lit (Value.bool false))] [DV.one (Cell.lit (Value.bool (actOk a)))] else bif a.Kind==(6:Int) then Lf [DV.one (Cell.lit (Value.bool false))] [DV.one (Cell.lit (Value.bool (actOk a)))] else Lf [DV.one (Cell.lit (Value.bool false))] [DV.one (Cell.lit (Value.bool (actOk a)))]):=by kernel_rfl
theorem Zo215:Holds EE (215,Zk215):=by
 refine holds_of EE_ok Go.Proofs.Tryz.func215 Zk215 (by kernel_rfl) Zu215 (us_ok _) Za215 (fun(a:DAct) hp hb=> ?_)
 have hz0:=bd_eAct (x:=a) (hb _ m0)
 have hl_a_Name:=hz0.1
 have hl_a_Args:=hz0.2.1
 have hl_a_Undo:=hz0.2.2
 clear hp hb
 rw[Zv215 a]
 dsimp only
 have e:∀s:ByteArray,(ByteArray.toList s==ByteArray.toList {data:= #[]})=decide (s=noBytes):=fun s=>toList_beq _ _
 simp only[e,actOk,bareA,undoOk]
 repeat' (refine if_cond (fun h=> ?_) (fun h=> ?_))
 all_goals (refine Lf_b ?_;grind)
def Zh215:HH:=⟨_,Zo215⟩
def hasS(l:List ByteArray)(s:ByteArray):Bool:=l.any fun t=>decide (t=s)
theorem hasS_iff{l:List ByteArray}{s:ByteArray}:hasS l s=true↔s∈l:=by
 simp only[hasS,zbb,decide_eq_true_eq]
 exact⟨fun⟨t,h1,h2⟩=>h2▸h1,fun h=>⟨s,h,rfl⟩⟩
def addOnce(l:List ByteArray)(s:ByteArray):List ByteArray:=if hasS l s then l else l++[s]
def addVar(l:List ByteArray)(a:DArg):List ByteArray:=if a.K=1 then addOnce l a.S else l
def addVars(l:List ByteArray)(xs:List DArg):List ByteArray:=xs.foldl addVar l
theorem addOnce_mem{l:List ByteArray}{s t:ByteArray}:t∈addOnce l s↔t∈l∨t=s:=by
 unfold addOnce;split
 ·rename_i h
  exact⟨.inl,fun h'=>h'.elim id (fun e=>e▸hasS_iff.1 h)⟩
 ·simp
theorem addOnce_len(l:List ByteArray)(s:ByteArray):(addOnce l s).length≤l.length+1:=by
 unfold addOnce;split
 ·omega
 ·simp
theorem addVar_mem{l:List ByteArray}{a:DArg}{t:ByteArray}:t∈addVar l a↔t∈l∨(a.K=1∧t=a.S):=by
 unfold addVar;split
 ·rename_i h;rw[addOnce_mem];simp[h]
 ·rename_i h;simp[h]
theorem addVar_len(l:List ByteArray)(a:DArg):(addVar l a).length≤l.length+1:=by
 unfold addVar;split
 ·exact addOnce_len _ _
 ·omega
theorem addVars_mem{t:ByteArray}:∀{xs:List DArg}{l:List ByteArray},t∈addVars l xs↔t∈l∨∃a∈xs,a.K=1∧t=a.S
 |[],l=>by simp[addVars]
 |a::xs,l=>by
  show t∈addVars (addVar l a) xs↔_
  rw[addVars_mem,addVar_mem]
  simp only[zak,exists_eq_or_imp,or_assoc]
theorem addVars_len:∀(xs:List DArg)(l:List ByteArray),(addVars l xs).length≤l.length+xs.length
 |[],l=>zca _
 |a::xs,l=>by
  have h1:=addVars_len xs (addVar l a)
  have h2:=addVar_len l a
  show(addVars (addVar l a) xs).length≤_
  simp only[zbq];omega
theorem addVars_step(l:List ByteArray)(xs:List DArg){i:Int}(h0:0≤i)(h:i<xs.length):addVars l (xs.take (i+1).toNat)=addVar (addVars l (xs.take i.toNat)) (List.getD xs i.toNat zArg):=by
 rw[←take_step xs zArg h0 h]
 simp only[addVars,List.foldl_append,List.foldl_cons,List.foldl_nil]
def posVar(l:List ByteArray)(p:DPat):List ByteArray:=if p.Not then l else addVars l p.Args
def posVars(ps:List DPat):List ByteArray:=ps.foldl posVar []
theorem foldl_step{α β:Type}(f:β→α→β)(b:β)(l:List α)(z:α){i:Int}(h0:0≤i)(h:i<l.length):(l.take (i+1).toNat).foldl f b=f ((l.take i.toNat).foldl f b) (List.getD l i.toNat z):=by
 rw[←take_step l z h0 h]
 simp only[List.foldl_append,List.foldl_cons,List.foldl_nil]
def patArgs(ps:List DPat):Nat:=(ps.map fun p=>p.Args.length).sum
def isBound(ps:List DPat)(t:ByteArray):Prop:=∃p∈ps,p.Not=false∧∃a∈p.Args,a.K=1∧t=a.S
theorem posVar_mem{l:List ByteArray}{p:DPat}{t:ByteArray}:t∈posVar l p↔t∈l∨(p.Not=false∧∃a∈p.Args,a.K=1∧t=a.S):=by
 unfold posVar
 cases h:p.Not
 ·simp only[zbg,if_false];rw[addVars_mem];simp
 ·simp
theorem posVars_mem0{t:ByteArray}:∀{ps:List DPat}{l:List ByteArray},t∈ps.foldl posVar l↔t∈l∨isBound ps t
 |[],l=>by simp[isBound]
 |p::ps,l=>by
  show t∈ps.foldl posVar (posVar l p)↔_
  rw[posVars_mem0,posVar_mem]
  simp only[isBound,zak,exists_eq_or_imp,or_assoc]
theorem posVars_mem{ps:List DPat}{t:ByteArray}:t∈posVars ps↔isBound ps t:=by
 unfold posVars;rw[posVars_mem0];simp
theorem posVars_len0:∀(ps:List DPat)(l:List ByteArray),(ps.foldl posVar l).length≤l.length+patArgs ps
 |[],l=>zca _
 |p::ps,l=>by
  have h1:=posVars_len0 ps (posVar l p)
  have h2:(posVar l p).length≤l.length+p.Args.length:=by
   unfold posVar;split
   ·omega
   ·exact addVars_len _ _
  show(ps.foldl posVar (posVar l p)).length≤_
  simp only[patArgs,zbt,zdc] at h1⊢;omega
def posVarS(l:List ByteArray)(p:DPat):List ByteArray:=if p.Not then l else(addVars [] p.Args).foldl addOnce l
def posVarsS(ps:List DPat):List ByteArray:=ps.foldl posVarS []
theorem foldOnce_mem{t:ByteArray}:∀{xs l:List ByteArray},t∈xs.foldl addOnce l↔t∈l∨t∈xs
 |[],l=>by simp
 |a::xs,l=>by
  show t∈xs.foldl addOnce (addOnce l a)↔_
  rw[foldOnce_mem,addOnce_mem,zak,or_assoc]
theorem foldOnce_len:∀(xs l:List ByteArray),(xs.foldl addOnce l).length≤l.length+xs.length
 |[],l=>zca _
 |a::xs,l=>by
  have h1:=foldOnce_len xs (addOnce l a)
  have h2:=addOnce_len l a
  show(xs.foldl addOnce (addOnce l a)).length≤_
  simp only[zbq];omega
theorem posVarS_mem{l:List ByteArray}{p:DPat}{t:ByteArray}:t∈posVarS l p↔t∈l∨(p.Not=false∧∃a∈p.Args,a.K=1∧t=a.S):=by
 unfold posVarS
 cases h:p.Not
 ·simp only[zbg,if_false];rw[foldOnce_mem,addVars_mem];simp
 ·simp
theorem posVarsS_mem0{t:ByteArray}:∀{ps:List DPat}{l:List ByteArray},t∈ps.foldl posVarS l↔t∈l∨isBound ps t
 |[],l=>by simp[isBound]
 |p::ps,l=>by
  show t∈ps.foldl posVarS (posVarS l p)↔_
  rw[posVarsS_mem0,posVarS_mem]
  simp only[isBound,zak,exists_eq_or_imp,or_assoc]
theorem posVarsS_mem{ps:List DPat}{t:ByteArray}:t∈posVarsS ps↔isBound ps t:=by
 unfold posVarsS;rw[posVarsS_mem0];simp
theorem posVarsS_len0:∀(ps:List DPat)(l:List ByteArray),(ps.foldl posVarS l).length≤l.length+patArgs ps
 |[],l=>zca _
 |p::ps,l=>by
  have h1:=posVarsS_len0 ps (posVarS l p)
  have h2:(posVarS l p).length≤l.length+p.Args.length:=by
   unfold posVarS;split
   ·omega
   ·have g1:=foldOnce_len (addVars [] p.Args) l
    have g2:=addVars_len p.Args []
    simp only[zbo] at g2;omega
  show(ps.foldl posVarS (posVarS l p)).length≤_
  simp only[patArgs,zbt,zdc] at h1⊢;omega
theorem patArgs_take(ps:List DPat)(n:Nat):patArgs (ps.take n)≤patArgs ps:=by
 have h:=congrArg (fun q=>(q.map fun p:DPat=>p.Args.length).sum) (zcq n ps)
 simp only[zef,zet] at h
 simp only[patArgs];omega
theorem patArgs_at(ps:List DPat){i:Int}(h0:0≤i)(h:i<ps.length):patArgs (ps.take i.toNat)+(List.getD ps i.toNat zPat).Args.length≤patArgs ps:=by
 have h1:=patArgs_take ps (i+1).toNat
 rw[←take_step ps zPat h0 h] at h1
 simp only[patArgs,zef,zet,zbt,List.map_nil,zdc,List.sum_nil] at h1⊢
 omega
def posN(ps:List DPat):Nat:=(ps.filter fun p=> !p.Not).length
theorem hasS_step{l:List ByteArray}{s:ByteArray}{i:Int}(h0:0≤i)(hl:i<l.length)(h:∀j:Nat,(j:Int)<i→¬List.getD l j noBytes=s)(hi:¬List.getD l i.toNat noBytes=s):∀j:Nat,(j:Int)<i+1→¬List.getD l j noBytes=s:=by
 intro j hj
 by_cases hji:(j:Int)<i
 ·exact h j hji
 ·have:j=i.toNat:=by omega
  subst this;exact hi
theorem hasS_no{l:List ByteArray}{s:ByteArray}(h:∀j:Nat,j<l.length→¬List.getD l j noBytes=s):hasS l s=false:=by
 rw[←zbj,hasS_iff]
 intro hm
 obtain⟨j,hj,rfl⟩:=zbk hm
 exact h j hj (by rw[zac,zad hj];rfl)
theorem hasS_yes{l:List ByteArray}{s:ByteArray}{j:Nat}(hj:j<l.length)(h:List.getD l j noBytes=s):hasS l s=true:=by
 rw[hasS_iff,←h,zac,zad hj]
 exact zda hj
theorem posN_step(ps:List DPat){i:Int}(h0:0≤i)(h:i<ps.length):posN (ps.take (i+1).toNat)=posN (ps.take i.toNat)+(if(!(List.getD ps i.toNat zPat).Not)=true then 1 else 0):=by
 rw[←take_step ps zPat h0 h]
 simp only[posN,List.filter_append,zce,List.filter_cons,List.filter_nil]
 split<;>simp
theorem posN_le(ps:List DPat)(n:Nat):posN (ps.take n)≤n:=zde (zdt _ _) (by simp;omega)
def Zk236:Con UU where
 α:=(List ByteArray)×ByteArray
 md:=[.ro,.ro]
 of:=oC (oL .str) (o1 oS)
 ds:=fun x=>[dL .str x.1,dS x.2]
 pre:=fun _=>[]
 res:=fun(l,s)=>⟨[.one (.lit (.bool (hasS l s)))],true,[]⟩
 law:=lC (lL .str) (l1 lS)
def Zi236_2(l:(List ByteArray))(s:ByteArray):Int×Unit→Prop:=fun(i,_)=>0≤i∧i≤l.length∧∀j:Nat,(j:Int)<i→¬List.getD l j noBytes=s
def Zm236_2(l:(List ByteArray))(s:ByteArray):Int×Unit→Nat:=fun(i,_)=>l.length-i.toNat
def Za236:Zk236.α→Nat→Option (Ann UU):=fun(l,s)=>annL [(2,annOf [.slot 5 (5,1024) (.lit (.int .i64))] (fun _=>Zi236_2 l s) (Zm236_2 l s))]
def Zu236:List (FuncId×Con UU):=[]
theorem Zv236(l:(List ByteArray))(s:ByteArray):goal EE Zu236 Go.Proofs.Tryz.f236 Zk236 Za236 (l,s)=(Zi236_2 l s ((0:Int),())∧∀(y:Int×PUnit),Zi236_2 l s y→bif decide (y.1<(l.length:Int)) then(0:Int)≤y.1∧y.1.toNat<l.length∧bif ByteArray.toList (List.getD l y.1.toNat noBytes)==ByteArray.toList s then Lb true (hasS l s) else Zi236_2 l s (IntKind.wrap IntKind.i64 (y.1+(1:Int)),())∧Zm236_2 l s (IntKind.wrap IntKind.i64 (y.1+(1:Int)),())<Zm236_2 l s y else Lb false (hasS l s)):=by kernel_rfl
theorem Zo236:Holds EE (236,Zk236):=by
 refine holds_of EE_ok Go.Proofs.Tryz.func236 Zk236 (by kernel_rfl) Zu236 all_nil Za236 (fun x hp hb=> ?_)
 obtain⟨l,s⟩:=x
 have hl_l:l.length≤9223372036854775807:=bdL (hb _ m0)
 have hl_s:=bdS (s:=s) (hb _ m1)
 clear hp hb
 rw[Zv236 l s]
 refine⟨⟨by omega,by omega,by intro j hj;omega⟩,?_⟩
 rintro⟨i,⟨⟩⟩ ⟨h1,h2,hR⟩
 simp only[toList_beq]
 refine if_cond (fun hc=> ?_) (fun hc=> ?_)
 ·have hc:=of_decide_eq_true hc
  rw[wrap_i64 (by omega) (by omega)]
  refine⟨by omega,by omega,if_cond (fun h=>Lf_tt (hasS_yes (j:=i.toNat) (by omega) (of_decide_eq_true h))) (fun h=>⟨⟨by omega,by omega,hasS_step h1 hc hR (of_decide_eq_false h)⟩,by simp only[Zm236_2];omega⟩)⟩
 ·have hc:=of_decide_eq_false hc
  exact Lf_ff (hasS_no fun j hj=>hR j (by omega))
def Zh236:HH:=⟨_,Zo236⟩
def Zk248:Con UU where
 α:=(List ByteArray)×ByteArray
 md:=[.ro,.ro]
 of:=oC (oL .str) (o1 oS)
 ds:=fun x=>[dL .str x.1,dS x.2]
 pre:=fun _=>[]
 res:=fun(l,s)=>⟨[.one (.lit (.int .i64 (idxI l.length (fun j=>decide (List.getD l j noBytes=s)))))],true,[]⟩
 law:=lC (lL .str) (l1 lS)
def Zi248_2(l:(List ByteArray))(s:ByteArray):Int×Unit→Prop:=fun(i,_)=>0≤i∧i≤l.length∧∀j:Nat,(j:Int)<i→¬List.getD l j noBytes=s
def Zm248_2(l:(List ByteArray))(s:ByteArray):Int×Unit→Nat:=fun(i,_)=>l.length-i.toNat
def Za248:Zk248.α→Nat→Option (Ann UU):=fun(l,s)=>annL [(2,annOf [.slot 8 (8,1024) (.lit (.int .i64))] (fun _=>Zi248_2 l s) (Zm248_2 l s))]
def Zu248:List (FuncId×Con UU):=[]
theorem Zv248(l:(List ByteArray))(s:ByteArray):goal EE Zu248 Go.Proofs.Tryz.f248 Zk248 Za248 (l,s)=(Zi248_2 l s ((0:Int),())∧∀(y:Int×PUnit),Zi248_2 l s y→bif decide (y.1<(l.length:Int)) then(0:Int)≤y.1∧y.1.toNat<l.length∧bif ByteArray.toList s==ByteArray.toList (List.getD l y.1.toNat noBytes) then Li y.1 (idxI (l.length) fun(j:Nat)=>decide (List.getD l j noBytes=s)) else Zi248_2 l s (IntKind.wrap IntKind.i64 (y.1+(1:Int)),())∧Zm248_2 l s (IntKind.wrap IntKind.i64 (y.1+(1:Int)),())<Zm248_2 l s y else Li (-1:Int) (idxI (l.length) fun(j:Nat)=>decide (List.getD l j noBytes=s))):=by kernel_rfl
theorem Zo248:Holds EE (248,Zk248):=by
 refine holds_of EE_ok Go.Proofs.Tryz.func248 Zk248 (by kernel_rfl) Zu248 all_nil Za248 (fun x hp hb=> ?_)
 obtain⟨l,s⟩:=x
 have hl_l:l.length≤9223372036854775807:=bdL (hb _ m0)
 have hl_s:=bdS (s:=s) (hb _ m1)
 clear hp hb
 rw[Zv248 l s]
 refine⟨⟨by omega,by omega,by intro j hj;omega⟩,?_⟩
 rintro⟨i,⟨⟩⟩ ⟨h1,h2,hR⟩
 simp only[toList_beq]
 refine if_cond (fun hc=> ?_) (fun hc=> ?_)
 ·have hc:=of_decide_eq_true hc
  rw[wrap_i64 (by omega) (by omega)]
  refine⟨by omega,by omega,if_cond (fun h=>Lf_i ?_) (fun h=>⟨⟨by omega,by omega,hasS_step h1 hc hR (fun e=>of_decide_eq_false h e.symm)⟩,by simp only[Zm248_2];omega⟩)⟩
  rw[idxI_found (i:=i.toNat) (by omega) (decide_eq_true (of_decide_eq_true h).symm) (fun j hj=>decide_eq_false (hR j (by omega)))]
  omega
 ·have hc:=of_decide_eq_false hc
  exact Lf_i (idxI_none (fun j hj=>decide_eq_false (hR j (by omega)))).symm
def Zh248:HH:=⟨_,Zo248⟩
def Zk218:Con UU where
 α:=(List ByteArray)×ByteArray
 md:=[.ro,.ro]
 of:=oC (oL .str) (o1 oS)
 ds:=fun x=>[dL .str x.1,dS x.2]
 pre:=fun _=>[]
 res:=fun(l,s)=>⟨[.one (.lit (.bool (hasS l s)))],true,[]⟩
 law:=lC (lL .str) (l1 lS)
def Za218:Zk218.α→Nat→Option (Ann UU):=fun(l,s)=>annL []
def Zu218:=us [Zh248]
theorem Zv218(l:(List ByteArray))(s:ByteArray):goal EE Zu218 Go.Proofs.Tryz.f218 Zk218 Za218 (l,s)=(let x0:Int:=idxI (l.length) fun(j:Nat)=>decide (List.getD l j noBytes=s);
Lf [DV.one (Cell.lit (Value.bool (decide (x0≥(0:Int)))))] [DV.one (Cell.lit (Value.bool (hasS l s)))]):=by kernel_rfl
theorem Zo218:Holds EE (218,Zk218):=by
 refine holds_of EE_ok Go.Proofs.Tryz.func218 Zk218 (by kernel_rfl) Zu218 (us_ok _) Za218 (fun x hp hb=> ?_)
 obtain⟨l,s⟩:=x
 have hl_l:l.length≤9223372036854775807:=bdL (hb _ m0)
 have hl_s:=bdS (s:=s) (hb _ m1)
 clear hp hb
 rw[Zv218 l s]
 dsimp only
 refine Lf_b ?_
 show decide (0≤idxI l.length (fun j=>decide (List.getD l j noBytes=s)))=_
 rw[idxI_ge]
 by_cases h:hasS l s=true
 ·rw[h]
  obtain⟨j,hj,hs⟩:=zbk (hasS_iff.1 h)
  exact anyI_true hj (decide_eq_true (by rw[zac,zad hj];exact hs))
 ·rw[zbj] at h
  rw[h]
  exact anyI_false fun j hj=>decide_eq_false fun e=>absurd (hasS_yes hj e) (by rw[h];decide)
def Zh218:HH:=⟨_,Zo218⟩
def Zk153:Con UU where
 α:=DRule
 md:=[.ro]
 of:=o1 (oA .eRule)
 ds:=fun x=>[dA .eRule x]
 pre:=fun _=>[]
 res:=fun r=>⟨[.one (.lit (.int .i64 (posN r.Pats:Int)))],true,[]⟩
 law:=l1 (lA .eRule)
def Zi153_3(r:DRule):Int×Int×(ByteArray×Int×List DPat×List DCond×List DAct×Unit)×Unit→Prop:=fun(n,i,b,_)=>b=(r.Name,r.Sal,r.Pats,r.Conds,r.Acts,())∧0≤i∧i≤r.Pats.length∧n=posN (r.Pats.take i.toNat)
def Zm153_3(r:DRule):Int×Int×(ByteArray×Int×List DPat×List DCond×List DAct×Unit)×Unit→Nat:=fun(n,i,b,_)=>r.Pats.length-i.toNat
def Za153:Zk153.α→Nat→Option (Ann UU):=fun r=>annL [(3,annOf [.slot 3 (3,1024) (.lit (.int .i64)),.slot 4 (4,1024) (.lit (.int .i64)),.box 1 (1,1024) [.lit .str,.lit (.int .i64),.shr .ePat,.shr .eCond,.shr .eAct]] (fun _=>Zi153_3 r) (Zm153_3 r))]
def Zu153:List (FuncId×Con UU):=[]
theorem Zv153(r:DRule):goal EE Zu153 Go.Proofs.Tryz.f153 Zk153 Za153 r=(Zi153_3 r ((0:Int),(0:Int),(r.Name,r.Sal,r.Pats,r.Conds,r.Acts,()),())∧
 ∀(y:Int×Int×(ByteArray×Int×List DPat×List DCond×List DAct×PUnit)×PUnit),
  let x1:Nat:=List.length y.2.2.1.2.2.1;
  let x2:Nat:=Int.toNat y.2.1;
  let x0:Int:=(↑x1:Int);
  Zi153_3 r y→bif decide (y.2.1<x0) then(0:Int)≤y.2.1∧x2<x1∧bif !(List.getD y.2.2.1.2.2.1 x2 zPat).Not then Zi153_3 r (IntKind.wrap IntKind.i64 (y.1+(1:Int)),IntKind.wrap IntKind.i64 (y.2.1+(1:Int)),(y.2.2.1.1,y.2.2.1.2.1,y.2.2.1.2.2.1,y.2.2.1.2.2.2.1,y.2.2.1.2.2.2.2.1,PUnit.unit),PUnit.unit)∧Zm153_3 r (IntKind.wrap IntKind.i64 (y.1+(1:Int)),IntKind.wrap IntKind.i64 (y.2.1+(1:Int)),(y.2.2.1.1,y.2.2.1.2.1,y.2.2.1.2.2.1,y.2.2.1.2.2.2.1,y.2.2.1.2.2.2.2.1,PUnit.unit),PUnit.unit)<Zm153_3 r y else Zi153_3 r (y.1,IntKind.wrap IntKind.i64 (y.2.1+(1:Int)),(y.2.2.1.1,y.2.2.1.2.1,y.2.2.1.2.2.1,y.2.2.1.2.2.2.1,y.2.2.1.2.2.2.2.1,PUnit.unit),PUnit.unit)∧Zm153_3 r (y.1,IntKind.wrap IntKind.i64 (y.2.1+(1:Int)),(y.2.2.1.1,y.2.2.1.2.1,y.2.2.1.2.2.1,y.2.2.1.2.2.2.1,y.2.2.1.2.2.2.2.1,PUnit.unit),PUnit.unit)<Zm153_3 r y else Lf [DV.one (Cell.lit (Value.int IntKind.i64 y.1))] [DV.one (Cell.lit (Value.int IntKind.i64 (↑(posN r.Pats):Int)))]):=by kernel_rfl
theorem Zo153:Holds EE (153,Zk153):=by
 refine holds_of EE_ok Go.Proofs.Tryz.func153 Zk153 (by kernel_rfl) Zu153 all_nil Za153 (fun(r:DRule) hp hb=> ?_)
 have hz0:=bd_eRule (x:=r) (hb _ m0)
 have hl_r_Name:=hz0.1
 have hl_r_Pats:=hz0.2.1
 have hl_r_Conds:=hz0.2.2.1
 have hl_r_Acts:=hz0.2.2.2
 clear hp hb
 rw[Zv153 r]
 dsimp only
 refine⟨⟨rfl,by omega,by omega,rfl⟩,?_⟩
 rintro⟨n,i,⟨b1,b2,b3,b4,b5,⟨⟩⟩,⟨⟩⟩ ⟨hbx,h1,h2,rfl⟩
 cases hbx
 simp only
 refine if_cond (fun hc=> ?_) (fun hc=> ?_)
 ·have hc:=of_decide_eq_true hc
  have hs:=posN_step r.Pats h1 hc
  have hle:posN (r.Pats.take i.toNat)≤i.toNat:=posN_le _ _
  rw[wrap_i64 (n:=i+1) (by omega) (by omega),wrap_i64 (n:=(posN (r.Pats.take i.toNat):Int)+1) (by omega) (by omega)]
  have hm:i.toNat<r.Pats.length:=by omega
  refine⟨by omega,by omega,if_cond (fun h=>⟨⟨rfl,by omega,by omega,?_⟩,by simp only[Zm153_3];omega⟩) (fun h=>⟨⟨rfl,by omega,by omega,?_⟩,by simp only[Zm153_3];omega⟩)⟩
  ·rw[hs,if_pos h];omega
  ·rw[hs,if_neg (by rw[h];decide)];omega
 ·have hc:=of_decide_eq_false hc
  rw[take_all r.Pats (by omega)]
  exact Lf_rfl _
def Zh153:HH:=⟨_,Zo153⟩
def Zk175:Con UU where
 α:=DRule
 md:=[.ro]
 of:=o1 (oA .eRule)
 ds:=fun x=>[dA .eRule x]
 pre:=fun _=>[]
 res:=fun r=>⟨[.one (.lit (.int .i64 (posN r.Pats:Int)))],true,[]⟩
 law:=l1 (lA .eRule)
def Zi175_3(r:DRule):Int×Int×Unit→Prop:=fun(n,i,_)=>0≤i∧i≤r.Pats.length∧n=posN (r.Pats.take i.toNat)
def Zm175_3(r:DRule):Int×Int×Unit→Nat:=fun(n,i,_)=>r.Pats.length-i.toNat
def Za175:Zk175.α→Nat→Option (Ann UU):=fun r=>annL [(3,annOf [.slot 3 (3,1024) (.lit (.int .i64)),.slot 9 (9,1024) (.lit (.int .i64))] (fun _=>Zi175_3 r) (Zm175_3 r))]
def Zu175:List (FuncId×Con UU):=[]
theorem Zv175(r:DRule):goal EE Zu175 Go.Proofs.Tryz.f175 Zk175 Za175 r=(Zi175_3 r ((0:Int),(0:Int),())∧
 ∀(y:Int×Int×PUnit),
  let x0:Nat:=Int.toNat y.2.1;
  Zi175_3 r y→bif decide (y.2.1<(↑(List.length r.Pats):Int)) then(0:Int)≤y.2.1∧x0<List.length r.Pats∧bif !(List.getD r.Pats x0 zPat).Not then Zi175_3 r (IntKind.wrap IntKind.i64 (y.1+(1:Int)),IntKind.wrap IntKind.i64 (y.2.1+(1:Int)),PUnit.unit)∧Zm175_3 r (IntKind.wrap IntKind.i64 (y.1+(1:Int)),IntKind.wrap IntKind.i64 (y.2.1+(1:Int)),PUnit.unit)<Zm175_3 r y else Zi175_3 r (y.1,IntKind.wrap IntKind.i64 (y.2.1+(1:Int)),PUnit.unit)∧Zm175_3 r (y.1,IntKind.wrap IntKind.i64 (y.2.1+(1:Int)),PUnit.unit)<Zm175_3 r y else Lf [DV.one (Cell.lit (Value.int IntKind.i64 y.1))] [DV.one (Cell.lit (Value.int IntKind.i64 (↑(posN r.Pats):Int)))]):=by kernel_rfl
theorem Zo175:Holds EE (175,Zk175):=by
 refine holds_of EE_ok Go.Proofs.Tryz.func175 Zk175 (by kernel_rfl) Zu175 all_nil Za175 (fun(r:DRule) hp hb=> ?_)
 have hz0:=bd_eRule (x:=r) (hb _ m0)
 have hl_r_Name:=hz0.1
 have hl_r_Pats:=hz0.2.1
 have hl_r_Conds:=hz0.2.2.1
 have hl_r_Acts:=hz0.2.2.2
 clear hp hb
 rw[Zv175 r]
 dsimp only
 refine⟨⟨by omega,by omega,rfl⟩,?_⟩
 rintro⟨n,i,⟨⟩⟩ ⟨h1,h2,rfl⟩
 simp only
 refine if_cond (fun hc=> ?_) (fun hc=> ?_)
 ·have hc:=of_decide_eq_true hc
  have hs:=posN_step r.Pats h1 hc
  have hle:posN (r.Pats.take i.toNat)≤i.toNat:=posN_le _ _
  rw[wrap_i64 (n:=i+1) (by omega) (by omega),wrap_i64 (n:=(posN (r.Pats.take i.toNat):Int)+1) (by omega) (by omega)]
  have hm:i.toNat<r.Pats.length:=by omega
  refine⟨by omega,by omega,if_cond (fun h=>⟨⟨by omega,by omega,?_⟩,by simp only[Zm175_3];omega⟩) (fun h=>⟨⟨by omega,by omega,?_⟩,by simp only[Zm175_3];omega⟩)⟩
  ·rw[hs,if_pos h];omega
  ·rw[hs,if_neg (by rw[h];decide)];omega
 ·have hc:=of_decide_eq_false hc
  rw[take_all r.Pats (by omega)]
  exact Lf_rfl _
def Zh175:HH:=⟨_,Zo175⟩
def Zk235:Con UU where
 α:=DPat
 md:=[.ro]
 of:=o1 (oA .ePat)
 ds:=fun x=>[dA .ePat x]
 pre:=fun p=>[p.Args.length≤4294967296]
 res:=fun p=>⟨[.one (.sl .str (addVars [] p.Args))],true,[]⟩
 law:=l1 (lA .ePat)
def Zi235_3(p:DPat):List ByteArray×Int×(ByteArray×List DArg×Bool×Unit)×Unit→Prop:=fun(l,i,b,_)=>b=(p.Kind,p.Args,p.Not,())∧0≤i∧i≤p.Args.length∧l=addVars [] (p.Args.take i.toNat)
def Zm235_3(p:DPat):List ByteArray×Int×(ByteArray×List DArg×Bool×Unit)×Unit→Nat:=fun(l,i,b,_)=>p.Args.length-i.toNat
def Za235:Zk235.α→Nat→Option (Ann UU):=fun p=>annL [(3,annOf [.slot 3 (3,1024) (.own .str true),.slot 4 (4,1024) (.lit (.int .i64)),.box 1 (1,1024) [.lit .str,.shr .eArg,.lit .bool]] (fun _=>Zi235_3 p) (Zm235_3 p))]
def Zu235:=us [Zh236]
theorem Zv235(p:DPat):goal EE Zu235 Go.Proofs.Tryz.f235 Zk235 Za235 p=(Zi235_3 p ([],(0:Int),(p.Kind,p.Args,p.Not,()),())∧
 ∀(y:List ByteArray×Int×(ByteArray×List DArg×Bool×PUnit)×PUnit),
  let x4:Nat:=List.length y.2.2.1.2.1;
  let x5:Nat:=Int.toNat y.2.1;
  let x2:DArg:=List.getD y.2.2.1.2.1 x5 zArg;
  let x3:Int:=(↑x4:Int);
  let x1:ByteArray:=x2.S;
  let x0:List ByteArray:=[x1];
  Zi235_3 p y→bif decide (y.2.1<x3) then(0:Int)≤y.2.1∧x5<x4∧bif x2.K==(1:Int) then(0:Int)≤y.2.1∧x5<x4∧bif !hasS y.1 x1 then(0:Int)≤y.2.1∧x5<x4∧List.length y.1+List.length x0≤(4294967296:Nat)∧Zi235_3 p (y.1++x0,IntKind.wrap IntKind.i64 (y.2.1+(1:Int)),(y.2.2.1.1,y.2.2.1.2.1,y.2.2.1.2.2.1,PUnit.unit),PUnit.unit)∧Zm235_3 p (y.1++x0,IntKind.wrap IntKind.i64 (y.2.1+(1:Int)),(y.2.2.1.1,y.2.2.1.2.1,y.2.2.1.2.2.1,PUnit.unit),PUnit.unit)<Zm235_3 p y else Zi235_3 p (y.1,IntKind.wrap IntKind.i64 (y.2.1+(1:Int)),(y.2.2.1.1,y.2.2.1.2.1,y.2.2.1.2.2.1,PUnit.unit),PUnit.unit)∧Zm235_3 p (y.1,IntKind.wrap IntKind.i64 (y.2.1+(1:Int)),(y.2.2.1.1,y.2.2.1.2.1,y.2.2.1.2.2.1,PUnit.unit),PUnit.unit)<Zm235_3 p y else Zi235_3 p (y.1,IntKind.wrap IntKind.i64 (y.2.1+(1:Int)),(y.2.2.1.1,y.2.2.1.2.1,y.2.2.1.2.2.1,PUnit.unit),PUnit.unit)∧Zm235_3 p (y.1,IntKind.wrap IntKind.i64 (y.2.1+(1:Int)),(y.2.2.1.1,y.2.2.1.2.1,y.2.2.1.2.2.1,PUnit.unit),PUnit.unit)<Zm235_3 p y else Lf [DV.one (Cell.sl Cd.str y.1)] [DV.one (Cell.sl Cd.str (addVars [] p.Args))]):=by kernel_rfl
theorem Zo235:Holds EE (235,Zk235):=by
 refine holds_of EE_ok Go.Proofs.Tryz.func235 Zk235 (by kernel_rfl) Zu235 (us_ok _) Za235 (fun(p:DPat) hp hb=> ?_)
 have hz0:=bd_ePat (x:=p) (hb _ m0)
 have hl_p_Kind:=hz0.1
 have hl_p_Args:=hz0.2
 have hp0:p.Args.length≤4294967296:=hp _ m0
 clear hp hb
 rw[Zv235 p]
 dsimp only
 refine⟨⟨rfl,by omega,by omega,rfl⟩,?_⟩
 rintro⟨l,i,⟨b1,b2,b3,⟨⟩⟩,⟨⟩⟩ ⟨hbx,h1,h2,rfl⟩
 cases hbx
 simp only
 refine if_cond (fun hc=> ?_) (fun hc=> ?_)
 ·have hc:=of_decide_eq_true hc
  have hs:=addVars_step [] p.Args h1 hc
  have hl:=addVars_len (p.Args.take i.toNat) []
  have hl2:(p.Args.take i.toNat).length≤i.toNat:=by rw[zaw];omega
  simp only[zbo] at hl
  rw[wrap_i64 (by omega) (by omega)]
  have hm:∀x:List ByteArray,Zm235_3 p (x,i+1,(p.Kind,p.Args,p.Not,PUnit.unit),PUnit.unit)<Zm235_3 p (addVars [] (p.Args.take i.toNat),i,(p.Kind,p.Args,p.Not,PUnit.unit),PUnit.unit):=fun x=>by simp only[Zm235_3];omega
  refine⟨by omega,by omega,if_cond (fun h=>⟨by omega,by omega,if_cond (fun g=>⟨by omega,by omega,by simp;omega,⟨rfl,by omega,by omega,?_⟩,hm _⟩) (fun g=>⟨⟨rfl,by omega,by omega,?_⟩,hm _⟩)⟩) (fun h=>⟨⟨rfl,by omega,by omega,?_⟩,hm _⟩)⟩
  ·rw[hs,addVar,if_pos (eq_of_beq h),addOnce,if_neg (by simpa using g)]
  ·rw[hs,addVar,if_pos (eq_of_beq h),addOnce,if_pos (by simpa using g)]
  ·rw[hs,addVar,if_neg (fun e=>by rw[e] at h;simp at h)]
 ·have hc:=of_decide_eq_false hc
  rw[take_all p.Args (by omega)]
  exact Lf_rfl _
def Zh235:HH:=⟨_,Zo235⟩
def Zk200:Con UU where
 α:=DRule
 md:=[.ro]
 of:=o1 (oA .eRule)
 ds:=fun x=>[dA .eRule x]
 pre:=fun r=>[patArgs r.Pats≤4294967296]
 res:=fun r=>⟨[.one (.sl .str (posVarsS r.Pats))],true,[]⟩
 law:=l1 (lA .eRule)
def Zi200_3(r:DRule):List ByteArray×Int×(ByteArray×Int×List DPat×List DCond×List DAct×Unit)×Unit→Prop:=fun(l,i,b,_)=>b=(r.Name,r.Sal,r.Pats,r.Conds,r.Acts,())∧0≤i∧i≤r.Pats.length∧l=posVarsS (r.Pats.take i.toNat)
def Zm200_3(r:DRule):List ByteArray×Int×(ByteArray×Int×List DPat×List DCond×List DAct×Unit)×Unit→Nat:=fun(l,i,b,_)=>r.Pats.length-i.toNat
def Zi200_7(r:DRule):List ByteArray×Int×List ByteArray×Int×(ByteArray×Int×List DPat×List DCond×List DAct×Unit)×Unit→List ByteArray×Int×List ByteArray×Int×(ByteArray×Int×List DPat×List DCond×List DAct×Unit)×Unit→Prop:=fun(l0,i0,v0,k0,b0,_) (l,i,v,k,b,_)=>b=(r.Name,r.Sal,r.Pats,r.Conds,r.Acts,())∧i=i0∧v=v0∧0≤k∧k≤v.length∧l=(v.take k.toNat).foldl addOnce l0∧(k=0∨(List.getD r.Pats i.toNat zPat).Not=false)
def Zm200_7(r:DRule):List ByteArray×Int×List ByteArray×Int×(ByteArray×Int×List DPat×List DCond×List DAct×Unit)×Unit→Nat:=fun(l,i,v,k,b,_)=>v.length-k.toNat
def Za200:Zk200.α→Nat→Option (Ann UU):=fun r=>annL [(3,annOf [.slot 3 (3,1024) (.own .str true),.slot 4 (4,1024) (.lit (.int .i64)),.box 1 (1,1024) [.lit .str,.lit (.int .i64),.shr .ePat,.shr .eCond,.shr .eAct]] (fun _=>Zi200_3 r) (Zm200_3 r)),(7,annOf [.slot 3 (3,1024) (.own .str true),.slot 4 (4,1024) (.lit (.int .i64)),.slot 5 (5,1024) (.own .str true),.slot 6 (6,1024) (.lit (.int .i64)),.box 1 (1,1024) [.lit .str,.lit (.int .i64),.shr .ePat,.shr .eCond,.shr .eAct]] (Zi200_7 r) (Zm200_7 r))]
def Zu200:=us [Zh235,Zh236]
theorem Zv200(r:DRule):goal EE Zu200 Go.Proofs.Tryz.f200 Zk200 Za200 r=(Zi200_3 r ([],(0:Int),(r.Name,r.Sal,r.Pats,r.Conds,r.Acts,()),())∧
 ∀(y:List ByteArray×Int×(ByteArray×Int×List DPat×List DCond×List DAct×PUnit)×PUnit),
  let x2:Nat:=List.length y.2.2.1.2.2.1;
  let x3:Nat:=Int.toNat y.2.1;
  let x0:List DArg:=(List.getD y.2.2.1.2.2.1 x3 zPat).Args;
  let x1:Int:=(↑x2:Int);
  Zi200_3 r y→
   bif decide (y.2.1<x1) then
    (0:Int)≤y.2.1∧
     x3<x2∧
      List.length x0≤(4294967296:Nat)∧
       Zi200_7 r (y.1,y.2.1,addVars [] x0,(0:Int),(y.2.2.1.1,y.2.2.1.2.1,y.2.2.1.2.2.1,y.2.2.1.2.2.2.1,y.2.2.1.2.2.2.2.1,PUnit.unit),PUnit.unit) (y.1,y.2.1,addVars [] x0,(0:Int),(y.2.2.1.1,y.2.2.1.2.1,y.2.2.1.2.2.1,y.2.2.1.2.2.2.1,y.2.2.1.2.2.2.2.1,PUnit.unit),PUnit.unit)∧
        ∀(y_1:List ByteArray×Int×List ByteArray×Int×(ByteArray×Int×List DPat×List DCond×List DAct×PUnit)×PUnit),
         let x6:Nat:=Int.toNat y_1.2.2.2.1;
         let x8:Nat:=List.length y_1.2.2.1;
         let x9:Nat:=Int.toNat y_1.2.1;
         let x5:ByteArray:=List.getD y_1.2.2.1 x6 noBytes;
         let x7:Int:=(↑x8:Int);
         let x4:List ByteArray:=[x5];
         Zi200_7 r (y.1,y.2.1,addVars [] x0,(0:Int),(y.2.2.1.1,y.2.2.1.2.1,y.2.2.1.2.2.1,y.2.2.1.2.2.2.1,y.2.2.1.2.2.2.2.1,PUnit.unit),PUnit.unit) y_1→bif decide (y_1.2.2.2.1<x7) then(0:Int)≤y_1.2.1∧x9<List.length y_1.2.2.2.2.1.2.2.1∧bif !(List.getD y_1.2.2.2.2.1.2.2.1 x9 zPat).Not then(0:Int)≤y_1.2.2.2.1∧x6<x8∧x6<x8∧bif !hasS y_1.1 x5 then(0:Int)≤y_1.2.2.2.1∧x6<x8∧x6<x8∧List.length y_1.1+List.length x4≤(4294967296:Nat)∧Zi200_7 r (y.1,y.2.1,addVars [] x0,(0:Int),(y.2.2.1.1,y.2.2.1.2.1,y.2.2.1.2.2.1,y.2.2.1.2.2.2.1,y.2.2.1.2.2.2.2.1,PUnit.unit),PUnit.unit) (y_1.1++x4,y_1.2.1,y_1.2.2.1,IntKind.wrap IntKind.i64 (y_1.2.2.2.1+(1:Int)),(y_1.2.2.2.2.1.1,y_1.2.2.2.2.1.2.1,y_1.2.2.2.2.1.2.2.1,y_1.2.2.2.2.1.2.2.2.1,y_1.2.2.2.2.1.2.2.2.2.1,PUnit.unit),PUnit.unit)∧Zm200_7 r (y_1.1++x4,y_1.2.1,y_1.2.2.1,IntKind.wrap IntKind.i64 (y_1.2.2.2.1+(1:Int)),(y_1.2.2.2.2.1.1,y_1.2.2.2.2.1.2.1,y_1.2.2.2.2.1.2.2.1,y_1.2.2.2.2.1.2.2.2.1,y_1.2.2.2.2.1.2.2.2.2.1,PUnit.unit),PUnit.unit)<Zm200_7 r y_1 else Zi200_7 r (y.1,y.2.1,addVars [] x0,(0:Int),(y.2.2.1.1,y.2.2.1.2.1,y.2.2.1.2.2.1,y.2.2.1.2.2.2.1,y.2.2.1.2.2.2.2.1,PUnit.unit),PUnit.unit) (y_1.1,y_1.2.1,y_1.2.2.1,IntKind.wrap IntKind.i64 (y_1.2.2.2.1+(1:Int)),(y_1.2.2.2.2.1.1,y_1.2.2.2.2.1.2.1,y_1.2.2.2.2.1.2.2.1,y_1.2.2.2.2.1.2.2.2.1,y_1.2.2.2.2.1.2.2.2.2.1,PUnit.unit),PUnit.unit)∧Zm200_7 r (y_1.1,y_1.2.1,y_1.2.2.1,IntKind.wrap IntKind.i64 (y_1.2.2.2.1+(1:Int)),(y_1.2.2.2.2.1.1,y_1.2.2.2.2.1.2.1,y_1.2.2.2.2.1.2.2.1,y_1.2.2.2.2.1.2.2.2.1,y_1.2.2.2.2.1.2.2.2.2.1,PUnit.unit),PUnit.unit)<Zm200_7 r y_1 else Zi200_3 r (y_1.1,IntKind.wrap IntKind.i64 (y_1.2.1+(1:Int)),(y_1.2.2.2.2.1.1,y_1.2.2.2.2.1.2.1,y_1.2.2.2.2.1.2.2.1,y_1.2.2.2.2.1.2.2.2.1,y_1.2.2.2.2.1.2.2.2.2.1,PUnit.unit),PUnit.unit)∧Zm200_3 r (y_1.1,IntKind.wrap IntKind.i64 (y_1.2.1+(1:Int)),(y_1.2.2.2.2.1.1,y_1.2.2.2.2.1.2.1,y_1.2.2.2.2.1.2.2.1,y_1.2.2.2.2.1.2.2.2.1,y_1.2.2.2.2.1.2.2.2.2.1,PUnit.unit),PUnit.unit)<Zm200_3 r y else Zi200_3 r (y_1.1,IntKind.wrap IntKind.i64 (y_1.2.1+(1:Int)),(y_1.2.2.2.2.1.1,y_1.2.2.2.2.1.2.1,y_1.2.2.2.2.1.2.2.1,y_1.2.2.2.2.1.2.2.2.1,y_1.2.2.2.2.1.2.2.2.2.1,PUnit.unit),PUnit.unit)∧Zm200_3 r (y_1.1,IntKind.wrap IntKind.i64 (y_1.2.1+(1:Int)),(y_1.2.2.2.2.1.1,y_1.2.2.2.2.1.2.1,y_1.2.2.2.2.1.2.2.1,y_1.2.2.2.2.1.2.2.2.1,y_1.2.2.2.2.1.2.2.2.2.1,PUnit.unit),PUnit.unit)<Zm200_3 r y
   else Lf [DV.one (Cell.sl Cd.str y.1)] [DV.one (Cell.sl Cd.str (posVarsS r.Pats))]):=by kernel_rfl
theorem Zo200:Holds EE (200,Zk200):=by
 refine holds_of EE_ok Go.Proofs.Tryz.func200 Zk200 (by kernel_rfl) Zu200 (us_ok _) Za200 (fun(r:DRule) hp hb=> ?_)
 have hz0:=bd_eRule (x:=r) (hb _ m0)
 have hl_r_Name:=hz0.1
 have hl_r_Pats:=hz0.2.1
 have hl_r_Conds:=hz0.2.2.1
 have hl_r_Acts:=hz0.2.2.2
 have hp0:patArgs r.Pats≤4294967296:=hp _ m0
 clear hp hb
 rw[Zv200 r]
 dsimp only
 refine⟨⟨rfl,by omega,by omega,rfl⟩,?_⟩
 rintro⟨l,i,⟨b1,b2,b3,b4,b5,⟨⟩⟩,⟨⟩⟩ ⟨hbx,h1,h2,rfl⟩
 cases hbx
 simp only
 refine if_cond (fun hc=> ?_) (fun hc=> ?_)
 ·have hc:=of_decide_eq_true hc
  have hs:posVarsS (r.Pats.take (i+1).toNat)=posVarS (posVarsS (r.Pats.take i.toNat)) (List.getD r.Pats i.toNat zPat):=foldl_step posVarS [] r.Pats zPat h1 hc
  have ha:=patArgs_at r.Pats h1 hc
  have hl:=posVarsS_len0 (r.Pats.take i.toNat) []
  simp only[zbo,zbw] at hl
  have hv:=addVars_len (List.getD r.Pats i.toNat zPat).Args []
  simp only[zbo,zbw] at hv
  refine⟨by omega,by omega,by omega,⟨rfl,rfl,rfl,by omega,by omega,rfl,.inl rfl⟩,?_⟩
  rintro⟨l',i',v,k,⟨b1,b2,b3,b4,b5,⟨⟩⟩,⟨⟩⟩ ⟨hbx,rfl,rfl,g1,g2,rfl,g3⟩
  cases hbx
  simp only
  have hfl:=foldOnce_len ((addVars [] (List.getD r.Pats i'.toNat zPat).Args).take k.toNat) (posVarsS (r.Pats.take i'.toNat))
  have hfl2:((addVars [] (List.getD r.Pats i'.toNat zPat).Args).take k.toNat).length≤k.toNat:=by rw[zaw];omega
  have hl':(posVarsS (r.Pats.take i'.toNat)).length≤patArgs (r.Pats.take i'.toNat):=hl
  have hin:(addVars [] (List.getD r.Pats i'.toNat zPat).Args).length≤(List.getD r.Pats i'.toNat zPat).Args.length:=hv
  refine if_cond (fun hk=> ?_) (fun hk=> ?_)
  ·have hk:=of_decide_eq_true hk
   have hf:=foldl_step addOnce (posVarsS (r.Pats.take i'.toNat)) (addVars [] (List.getD r.Pats i'.toNat zPat).Args) noBytes g1 hk
   rw[wrap_i64 (n:=k+1) (by omega) (by omega),wrap_i64 (n:=i'+1) (by omega) (by omega)]
   refine⟨by omega,by omega,if_cond (fun hn=> ?_) (fun hn=> ?_)⟩
   ·have hn:(List.getD r.Pats i'.toNat zPat).Not=false:=by simpa using hn
    have hkl:k.toNat<(addVars [] (List.getD r.Pats i'.toNat zPat).Args).length:=by omega
    refine⟨g1,hkl,hkl,if_cond (fun g=>⟨g1,hkl,hkl,by simp only[zbq,zbo];omega,⟨rfl,rfl,rfl,by omega,by omega,?_,.inr hn⟩,by simp only[Zm200_7];omega⟩) (fun g=>⟨⟨rfl,rfl,rfl,by omega,by omega,?_,.inr hn⟩,by simp only[Zm200_7];omega⟩)⟩
    ·rw[hf,addOnce,if_neg (by simpa using g)]
    ·rw[hf,addOnce,if_pos (by simpa using g)]
   ·have hn:(List.getD r.Pats i'.toNat zPat).Not=true:=by simpa using hn
    have hk0:k=0:=g3.resolve_right (by rw[hn];decide)
    subst hk0
    refine⟨⟨rfl,by omega,by omega,?_⟩,by simp only[Zm200_3];omega⟩
    rw[hs,posVarS,if_pos hn]
    rfl
  ·have hk:=of_decide_eq_false hk
   rw[wrap_i64 (n:=i'+1) (by omega) (by omega)]
   refine⟨⟨rfl,by omega,by omega,?_⟩,by simp only[Zm200_3];omega⟩
   rw[hs,posVarS]
   by_cases hn:(List.getD r.Pats i'.toNat zPat).Not=true
   ·have hk0:k=0:=g3.resolve_right (by rw[hn];decide)
    subst hk0
    rw[if_pos hn];rfl
   ·rw[if_neg hn,take_all (addVars [] (List.getD r.Pats i'.toNat zPat).Args) (by omega)]
 ·have hc:=of_decide_eq_false hc
  rw[take_all r.Pats (by omega)]
  exact Lf_rfl _
def Zh200:HH:=⟨_,Zo200⟩
def Zk260:Con UU where
 α:=(List ByteArray)×ByteArray
 md:=[.mv,.ro]
 of:=oC (oL .str) (o1 oS)
 ds:=fun x=>[dL .str x.1,dS x.2]
 pre:=fun(l,name)=>[l.length≤4294967295]
 res:=fun(l,name)=>⟨[.one (.sl .str (addOnce l name))],true,[]⟩
 law:=lC (lL .str) (l1 lS)
def Za260:Zk260.α→Nat→Option (Ann UU):=fun(l,name)=>annL []
def Zu260:=us [Zh218]
theorem Zv260(l:(List ByteArray))(name:ByteArray):goal EE Zu260 Go.Proofs.Tryz.f260 Zk260 Za260 (l,name)=(bif hasS l name then Lf [DV.one (Cell.sl Cd.str l)] [DV.one (Cell.sl Cd.str (addOnce l name))] else l.length+List.length [name]≤(4294967296:Nat)∧Lf [DV.one (Cell.sl Cd.str (l++[name]))] [DV.one (Cell.sl Cd.str (addOnce l name))]):=by kernel_rfl
theorem Zo260:Holds EE (260,Zk260):=by
 refine holds_of EE_ok Go.Proofs.Tryz.func260 Zk260 (by kernel_rfl) Zu260 (us_ok _) Za260 (fun x hp hb=> ?_)
 obtain⟨l,name⟩:=x
 have hl_l:l.length≤9223372036854775807:=bdL (hb _ m0)
 have hl_name:=bdS (s:=name) (hb _ m1)
 have hp0:l.length≤4294967295:=hp _ m0
 clear hp hb
 rw[Zv260 l name]
 refine if_cond (fun h=> ?_) (fun h=>⟨by simp;omega,?_⟩)
 ·rw[addOnce,if_pos h];exact Lf_rfl _
 ·rw[addOnce,if_neg (by rw[h];decide)];exact Lf_rfl _
def Zh260:HH:=⟨_,Zo260⟩
def Zk247:Con UU where
 α:=(List ByteArray)×(List DArg)
 md:=[.mv,.ro]
 of:=oC (oL .str) (o1 (oL .eArg))
 ds:=fun x=>[dL .str x.1,dL .eArg x.2]
 pre:=fun(l,args)=>[l.length+args.length≤4294967295]
 res:=fun(l,args)=>⟨[.one (.sl .str (addVars l args))],true,[]⟩
 law:=lC (lL .str) (l1 (lL .eArg))
def Zi247_2(l:(List ByteArray))(args:(List DArg)):List ByteArray×Int×Unit→Prop:=fun(v,i,_)=>0≤i∧i≤args.length∧v=addVars l (args.take i.toNat)
def Zm247_2(l:(List ByteArray))(args:(List DArg)):List ByteArray×Int×Unit→Nat:=fun(v,i,_)=>args.length-i.toNat
def Za247:Zk247.α→Nat→Option (Ann UU):=fun(l,args)=>annL [(2,annOf [.slot 0 (0,1024) (.own .str true),.slot 9 (9,1024) (.lit (.int .i64))] (fun _=>Zi247_2 l args) (Zm247_2 l args))]
def Zu247:=us [Zh260]
theorem Zv247(l:(List ByteArray))(args:(List DArg)):goal EE Zu247 Go.Proofs.Tryz.f247 Zk247 Za247 (l,args)=(Zi247_2 l args (l,(0:Int),())∧
 ∀(y:List ByteArray×Int×PUnit),
  let x1:Nat:=Int.toNat y.2.1;
  let x0:DArg:=List.getD args x1 zArg;
  Zi247_2 l args y→bif decide (y.2.1<(↑(List.length args):Int)) then(0:Int)≤y.2.1∧x1<List.length args∧bif x0.K==(1:Int) then List.length y.1≤(4294967295:Nat)∧Zi247_2 l args (addOnce y.1 x0.S,IntKind.wrap IntKind.i64 (y.2.1+(1:Int)),PUnit.unit)∧Zm247_2 l args (addOnce y.1 x0.S,IntKind.wrap IntKind.i64 (y.2.1+(1:Int)),PUnit.unit)<Zm247_2 l args y else Zi247_2 l args (y.1,IntKind.wrap IntKind.i64 (y.2.1+(1:Int)),PUnit.unit)∧Zm247_2 l args (y.1,IntKind.wrap IntKind.i64 (y.2.1+(1:Int)),PUnit.unit)<Zm247_2 l args y else Lf [DV.one (Cell.sl Cd.str y.1)] [DV.one (Cell.sl Cd.str (addVars l args))]):=by kernel_rfl
theorem Zo247:Holds EE (247,Zk247):=by
 refine holds_of EE_ok Go.Proofs.Tryz.func247 Zk247 (by kernel_rfl) Zu247 (us_ok _) Za247 (fun x hp hb=> ?_)
 obtain⟨l,args⟩:=x
 have hl_l:l.length≤9223372036854775807:=bdL (hb _ m0)
 have hl_args:args.length≤9223372036854775807:=bdL (hb _ m1)
 have hp0:l.length+args.length≤4294967295:=hp _ m0
 clear hp hb
 rw[Zv247 l args]
 dsimp only
 refine⟨⟨by omega,by omega,rfl⟩,?_⟩
 rintro⟨v,i,⟨⟩⟩ ⟨h1,h2,rfl⟩
 simp only
 refine if_cond (fun hc=> ?_) (fun hc=> ?_)
 ·have hc:=of_decide_eq_true hc
  have hs:=addVars_step l args h1 hc
  have hl:=addVars_len (args.take i.toNat) l
  have hl2:(args.take i.toNat).length≤i.toNat:=by rw[zaw];omega
  rw[wrap_i64 (by omega) (by omega)]
  refine⟨by omega,by omega,if_cond (fun h=>⟨by omega,⟨by omega,by omega,?_⟩,by simp only[Zm247_2];omega⟩) (fun h=>⟨⟨by omega,by omega,?_⟩,by simp only[Zm247_2];omega⟩)⟩
  ·rw[hs,addVar,if_pos (eq_of_beq h)]
  ·rw[hs,addVar,if_neg (fun e=>by rw[e] at h;simp at h)]
 ·have hc:=of_decide_eq_false hc
  rw[take_all args (by omega)]
  exact Lf_rfl _
def Zh247:HH:=⟨_,Zo247⟩
def Zk216:Con UU where
 α:=DRule
 md:=[.ro]
 of:=o1 (oA .eRule)
 ds:=fun x=>[dA .eRule x]
 pre:=fun r=>[patArgs r.Pats≤4294967295]
 res:=fun r=>⟨[.one (.sl .str (posVars r.Pats))],true,[]⟩
 law:=l1 (lA .eRule)
def Zi216_3(r:DRule):List ByteArray×Int×Unit→Prop:=fun(v,i,_)=>0≤i∧i≤r.Pats.length∧v=posVars (r.Pats.take i.toNat)
def Zm216_3(r:DRule):List ByteArray×Int×Unit→Nat:=fun(v,i,_)=>r.Pats.length-i.toNat
def Za216:Zk216.α→Nat→Option (Ann UU):=fun r=>annL [(3,annOf [.slot 3 (3,1024) (.own .str true),.slot 9 (9,1024) (.lit (.int .i64))] (fun _=>Zi216_3 r) (Zm216_3 r))]
def Zu216:=us [Zh247]
theorem Zv216(r:DRule):goal EE Zu216 Go.Proofs.Tryz.f216 Zk216 Za216 r=(Zi216_3 r ([],(0:Int),())∧
 ∀(y:List ByteArray×Int×PUnit),
  let x2:Nat:=Int.toNat y.2.1;
  let x1:DPat:=List.getD r.Pats x2 zPat;
  let x0:List DArg:=x1.Args;
  Zi216_3 r y→bif decide (y.2.1<(↑(List.length r.Pats):Int)) then(0:Int)≤y.2.1∧x2<List.length r.Pats∧bif !x1.Not then List.length y.1+List.length x0≤(4294967295:Nat)∧Zi216_3 r (addVars y.1 x0,IntKind.wrap IntKind.i64 (y.2.1+(1:Int)),PUnit.unit)∧Zm216_3 r (addVars y.1 x0,IntKind.wrap IntKind.i64 (y.2.1+(1:Int)),PUnit.unit)<Zm216_3 r y else Zi216_3 r (y.1,IntKind.wrap IntKind.i64 (y.2.1+(1:Int)),PUnit.unit)∧Zm216_3 r (y.1,IntKind.wrap IntKind.i64 (y.2.1+(1:Int)),PUnit.unit)<Zm216_3 r y else Lf [DV.one (Cell.sl Cd.str y.1)] [DV.one (Cell.sl Cd.str (posVars r.Pats))]):=by kernel_rfl
theorem Zo216:Holds EE (216,Zk216):=by
 refine holds_of EE_ok Go.Proofs.Tryz.func216 Zk216 (by kernel_rfl) Zu216 (us_ok _) Za216 (fun(r:DRule) hp hb=> ?_)
 have hz0:=bd_eRule (x:=r) (hb _ m0)
 have hl_r_Name:=hz0.1
 have hl_r_Pats:=hz0.2.1
 have hl_r_Conds:=hz0.2.2.1
 have hl_r_Acts:=hz0.2.2.2
 have hp0:patArgs r.Pats≤4294967295:=hp _ m0
 clear hp hb
 rw[Zv216 r]
 dsimp only
 refine⟨⟨by omega,by omega,rfl⟩,?_⟩
 rintro⟨v,i,⟨⟩⟩ ⟨h1,h2,rfl⟩
 simp only
 refine if_cond (fun hc=> ?_) (fun hc=> ?_)
 ·have hc:=of_decide_eq_true hc
  have hs:posVars (r.Pats.take (i+1).toNat)=posVar (posVars (r.Pats.take i.toNat)) (List.getD r.Pats i.toNat zPat):=foldl_step posVar [] r.Pats zPat h1 hc
  have ha:=patArgs_at r.Pats h1 hc
  have hl:=posVars_len0 (r.Pats.take i.toNat) []
  simp only[zbo,zbw] at hl
  have hl':(posVars (r.Pats.take i.toNat)).length≤patArgs (r.Pats.take i.toNat):=hl
  rw[wrap_i64 (by omega) (by omega)]
  refine⟨by omega,by omega,if_cond (fun h=>⟨by omega,⟨by omega,by omega,?_⟩,by simp only[Zm216_3];omega⟩) (fun h=>⟨⟨by omega,by omega,?_⟩,by simp only[Zm216_3];omega⟩)⟩
  ·rw[hs,posVar,if_neg (by simpa using h)]
  ·rw[hs,posVar,if_pos (by simpa using h)]
 ·have hc:=of_decide_eq_false hc
  rw[take_all r.Pats (by omega)]
  exact Lf_rfl _
def Zh216:HH:=⟨_,Zo216⟩
def notAt(ps:List DPat)(i:Nat):Bool:=(List.getD ps i zPat).Not
def patAt(ps:List DPat)(i:Nat):Bool:=patOk (List.getD ps i zPat)&& !(decide (2<i)&& !notAt ps i)&& !(decide (i=0)&&notAt ps i)&& !(decide (0<i)&&notAt ps (i-1)&& !notAt ps i)
def patsOk(ps:List DPat):Bool:=decide (1≤ps.length∧ps.length≤6)&&allI ps.length (patAt ps)
def patAtI(ps:List DPat)(i:Nat):Bool:=patOk (List.getD ps i zPat)&&(notAt ps i==decide (posN ps≤i))
def patsOkI(ps:List DPat):Bool:=decide (1≤ps.length∧ps.length≤6)&&decide (1≤posN ps∧posN ps≤3)&&allI ps.length (patAtI ps)
theorem allI_all{n:Nat}{p:Nat→Bool}:allI n p=true↔∀j,j<n→p j=true:=by simp[allI]
theorem posN_cons(p:DPat)(ps:List DPat):posN (p::ps)=(if p.Not then 0 else 1)+posN ps:=by
 simp only[posN,List.filter_cons]
 cases p.Not<;>simp<;>omega
theorem not_mono:∀{ps:List DPat},(∀i,i+1<ps.length→notAt ps i=true→notAt ps (i+1)=true)→∀i,i<ps.length→notAt ps i=decide (posN ps≤i)
 |[],_,i,hi=>by simp at hi
 |p::ps,h,i,hi=>by
  have ih:=not_mono (ps:=ps) (fun j hj hn=>h (j+1) (by simpa using hj) hn)
  rw[posN_cons]
  cases hp:p.Not with
  |false=>
   cases i with
   |zero=>show p.Not=_;rw[hp];simp
   |succ i=>
    show notAt ps i=_
    rw[ih i (by simpa using hi)]
    simp only[zbg,if_false,decide_eq_decide];omega
  |true=>
   have hall:∀j,j<(p::ps).length→notAt (p::ps) j=true:=by
    intro j
    induction j with
    |zero=>intro _;exact hp
    |succ j ihj=>intro hj;exact h j hj (ihj (by omega))
   have h0:posN ps=0:=by
    cases ps with
    |nil=>rfl
    |cons q qs=>
     have h1:=ih 0 (by simp)
     have h2:notAt (q::qs) 0=true:=hall 1 (by simp)
     rw[h2] at h1
     have:=of_decide_eq_true h1.symm
     omega
   rw[hall i hi,h0];simp
theorem patsOkI_eq(ps:List DPat):patsOkI ps=patsOk ps:=by
 rw[zcm]
 simp only[patsOkI,patsOk,zaf,decide_eq_true_eq,allI_all]
 constructor
 ·rintro⟨⟨h1,h2⟩,h3⟩
  have hN:∀j,j<ps.length→notAt ps j=decide (posN ps≤j):=fun j hj=>by
   have:=h3 j hj
   simp only[patAtI,zaf,beq_iff_eq] at this
   exact this.2
  refine⟨h1,fun j hj=> ?_⟩
  have hk:=h3 j hj
  simp only[patAtI,zaf] at hk
  simp only[patAt,hk.1,hN j hj,zck,zaf,zbd,Bool.and_eq_false_iff,decide_eq_false_iff_not,Bool.not_eq_false',decide_eq_true_eq]
  refine⟨⟨by omega,by omega⟩,?_⟩
  by_cases h0:0<j
  ·rw[hN (j-1) (by omega)];simp only[decide_eq_false_iff_not];omega
  ·exact .inl (.inl h0)
 ·rintro⟨h1,h2⟩
  have hA:∀j,j<ps.length→patOk (List.getD ps j zPat)=true∧(2<j→notAt ps j=true)∧(j=0→notAt ps j=false)∧(0<j→notAt ps (j-1)=true→notAt ps j=true):=fun j hj=>by
   have:=h2 j hj
   simp only[patAt,zaf,zbd,Bool.and_eq_false_iff,decide_eq_false_iff_not,Bool.not_eq_false'] at this
   obtain⟨⟨⟨a1,a2⟩,a3⟩,a4⟩:=this
   refine⟨a1,fun h=>a2.resolve_left (fun e=>e h),fun h=>a3.resolve_left (fun e=>e h),fun h hn=>a4.resolve_left (fun e=> ?_)⟩
   rcases e with e|e
   ·exact e h
   ·rw[hn] at e;cases e
  have hN:=not_mono (ps:=ps) (fun i hi hn=>(hA (i+1) hi).2.2.2 (by omega) (by simpa using hn))
  have hz:=(hA 0 (by omega)).2.2.1 rfl
  rw[hN 0 (by omega)] at hz
  have hz:=of_decide_eq_false hz
  have hle:posN ps≤ps.length:=zdt _ _
  refine⟨⟨h1,by omega,?_⟩,fun j hj=> ?_⟩
  ·by_cases h4:3<ps.length
   ·have:=(hA 3 h4).2.1 (by omega)
    rw[hN 3 h4] at this
    exact of_decide_eq_true this
   ·omega
  ·simp only[patAtI,(hA j hj).1,hN j hj];simp
def knownIn(vars:List ByteArray)(a:DArg):Bool:= !decide (a.K=1)||hasS vars a.S
def kondIn(vars:List ByteArray)(c:DCond):Bool:=kondOk c&&knownIn vars c.L&&knownIn vars c.R
def kondsIn(l:List DCond)(vars:List ByteArray):Bool:=decide (l.length≤6)&&l.all (kondIn vars)
def exprIn(vars:List ByteArray)(e:DExpr):Bool:=knownIn vars e.L&&knownIn vars e.R
def dropIn(pos:Int)(a:DAct):Bool:= !(decide (a.Kind=2)&&decide (pos≤a.N))
def actIn(vars:List ByteArray)(pos:Int)(a:DAct):Bool:=actOk a&&dropIn pos a&&a.Args.all (exprIn vars)
def actsIn(l:List DAct)(vars:List ByteArray)(pos:Int):Bool:=decide (1≤l.length∧l.length≤6)&&l.all (actIn vars pos)
def ruleOk(r:DRule):Bool:=nameOk r.Name&&decide (-100≤r.Sal∧r.Sal≤100)&&patsOk r.Pats&&kondsIn r.Conds (posVarsS r.Pats)&&actsIn r.Acts (posVarsS r.Pats) (posN r.Pats)
theorem patArgs_size(ps:List DPat):patArgs ps≤sizePatS ps:=by
 simp only[patArgs,sizePatS]
 have:∀l:List DPat,(l.map fun p=>p.Args.length).sum≤(l.map sizePat).sum:=by
  intro l
  induction l with
  |nil=>exact zca _
  |cons p l ih=>simp only[zbt,zdc,sizePat,sizeArgS] at ih⊢;omega
 have:=this ps;omega
theorem has_same(ps:List DPat)(t:ByteArray):hasS (posVars ps) t=hasS (posVarsS ps) t:=by
 rw[zcm,hasS_iff,hasS_iff,posVars_mem,posVarsS_mem]
def usedC(l:List ByteArray)(c:DCond):List ByteArray:=addVars l [c.L,c.R]
def usedE(l:List ByteArray)(e:DExpr):List ByteArray:=addVars l [e.L,e.R]
def usedA(l:List ByteArray)(a:DAct):List ByteArray:=a.Args.foldl usedE l
def usedV(r:DRule):List ByteArray:=r.Acts.foldl usedA (r.Conds.foldl usedC [])
def usedN(l:List DAct):Nat:=(l.map fun a=>2*a.Args.length).sum
theorem usedC_len(l:List ByteArray)(c:DCond):(usedC l c).length≤l.length+2:=addVars_len _ _
theorem usedE_len:∀(es:List DExpr)(l:List ByteArray),(es.foldl usedE l).length≤l.length+2*es.length
 |[],l=>zca _
 |e::es,l=>by
  have h1:=usedE_len es (usedE l e)
  have h2:(usedE l e).length≤l.length+2:=addVars_len _ _
  show(es.foldl usedE (usedE l e)).length≤_
  simp only[zbq];omega
theorem usedCs_len:∀(cs:List DCond)(l:List ByteArray),(cs.foldl usedC l).length≤l.length+2*cs.length
 |[],l=>zca _
 |c::cs,l=>by
  have h1:=usedCs_len cs (usedC l c)
  have h2:=usedC_len l c
  show(cs.foldl usedC (usedC l c)).length≤_
  simp only[zbq];omega
theorem usedAs_len:∀(xs:List DAct)(l:List ByteArray),(xs.foldl usedA l).length≤l.length+usedN xs
 |[],l=>zca _
 |a::xs,l=>by
  have h1:=usedAs_len xs (usedA l a)
  have h2:(usedA l a).length≤l.length+2*a.Args.length:=usedE_len _ _
  show(xs.foldl usedA (usedA l a)).length≤_
  simp only[usedN,zbt,zdc] at h1⊢;omega
theorem usedN_at(l:List DAct){i:Int}(h0:0≤i)(h:i<l.length):usedN (l.take i.toNat)+2*(List.getD l i.toNat zAct).Args.length≤usedN l:=by
 have h1:usedN (l.take (i+1).toNat)≤usedN l:=by
  have h:=congrArg (fun q=>(q.map fun a:DAct=>2*a.Args.length).sum) (zcq (i+1).toNat l)
  simp only[zef,zet] at h
  simp only[usedN];omega
 rw[←take_step l zAct h0 h] at h1
 simp only[usedN,zef,zet,zbt,List.map_nil,zdc,List.sum_nil] at h1⊢
 omega
def names(t:ByteArray)(a:DArg):Prop:=a.K=1∧t=a.S
theorem used2_mem{l:List ByteArray}{a b:DArg}{t:ByteArray}:t∈addVars l [a,b]↔t∈l∨names t a∨names t b:=by
 rw[addVars_mem];simp[names]
theorem usedE_mem{t:ByteArray}:∀{es:List DExpr}{l:List ByteArray},t∈es.foldl usedE l↔t∈l∨∃e∈es,names t e.L∨names t e.R
 |[],l=>by simp
 |e::es,l=>by
  show t∈es.foldl usedE (usedE l e)↔_
  rw[usedE_mem,usedE,used2_mem]
  simp only[zak,exists_eq_or_imp,or_assoc]
theorem usedCs_mem{t:ByteArray}:∀{cs:List DCond}{l:List ByteArray},t∈cs.foldl usedC l↔t∈l∨∃c∈cs,names t c.L∨names t c.R
 |[],l=>by simp
 |c::cs,l=>by
  show t∈cs.foldl usedC (usedC l c)↔_
  rw[usedCs_mem,usedC,used2_mem]
  simp only[zak,exists_eq_or_imp,or_assoc]
theorem usedAs_mem{t:ByteArray}:∀{xs:List DAct}{l:List ByteArray},t∈xs.foldl usedA l↔t∈l∨∃a∈xs,∃e∈a.Args,names t e.L∨names t e.R
 |[],l=>by simp
 |a::xs,l=>by
  show t∈xs.foldl usedA (usedA l a)↔_
  rw[usedAs_mem,usedA,usedE_mem]
  simp only[zak,exists_eq_or_imp,or_assoc]
theorem knownIn_iff{vars:List ByteArray}{a:DArg}:knownIn vars a=true↔∀t,names t a→hasS vars t=true:=by
 simp only[knownIn,zcn,zbd,decide_eq_false_iff_not,names]
 constructor
 ·rintro(h|h) t ⟨h1,rfl⟩
  ·exact absurd h1 h
  ·exact h
 ·intro h
  by_cases h1:a.K=1
  ·exact .inr (h a.S ⟨h1,rfl⟩)
  ·exact .inl h1
theorem used_all(r:DRule)(vars:List ByteArray):(usedV r).all (hasS vars)=(r.Conds.all (fun c=>knownIn vars c.L&&knownIn vars c.R)&&r.Acts.all fun a=>a.Args.all (exprIn vars)):=by
 rw[zcm]
 simp only[zaf,zcb,exprIn,knownIn_iff,usedV]
 constructor
 ·intro h
  refine⟨fun c hc=>⟨fun t ht=>h t ?_,fun t ht=>h t ?_⟩,fun a ha e he=>⟨fun t ht=>h t ?_,fun t ht=>h t ?_⟩⟩
  ·rw[usedAs_mem,usedCs_mem];exact .inl (.inr ⟨c,hc,.inl ht⟩)
  ·rw[usedAs_mem,usedCs_mem];exact .inl (.inr ⟨c,hc,.inr ht⟩)
  ·rw[usedAs_mem];exact .inr ⟨a,ha,e,he,.inl ht⟩
  ·rw[usedAs_mem];exact .inr ⟨a,ha,e,he,.inr ht⟩
 ·rintro⟨h1,h2⟩ t ht
  rw[usedAs_mem,usedCs_mem] at ht
  rcases ht with(ht|⟨c,hc,ht|ht⟩)|⟨a,ha,e,he,ht|ht⟩
  ·cases ht
  ·exact(h1 c hc).1 t ht
  ·exact(h1 c hc).2 t ht
  ·exact(h2 a ha e he).1 t ht
  ·exact(h2 a ha e he).2 t ht
def ruleOkI(r:DRule):Bool:=nameOk r.Name&&decide (-100≤r.Sal∧r.Sal≤100)&&patsOk r.Pats&&decide (r.Conds.length≤6)&&decide (1≤r.Acts.length∧r.Acts.length≤6)&&r.Conds.all kondOk&&r.Acts.all (fun a=>actOk a&&dropIn (posN r.Pats) a)&&(usedV r).all (hasS (posVars r.Pats))
theorem all_and{α:Type}(p q:α→Bool)(l:List α):l.all (fun x=>p x&&q x)=(l.all p&&l.all q):=by
 induction l with
 |nil=>rfl
 |cons x l ih=>simp only[zdr,ih];cases p x<;>cases q x<;>simp
theorem ruleOkI_eq(r:DRule):ruleOkI r=ruleOk r:=by
 have e1:(usedV r).all (hasS (posVars r.Pats))=(usedV r).all (hasS (posVarsS r.Pats)):=by
  have:hasS (posVars r.Pats)=hasS (posVarsS r.Pats):=funext fun t=>has_same _ _
  rw[this]
 have e2:r.Conds.all (kondIn (posVarsS r.Pats))=(r.Conds.all kondOk&&r.Conds.all (fun c=>knownIn (posVarsS r.Pats) c.L&&knownIn (posVarsS r.Pats) c.R)):=by
  rw[←all_and]
  congr 1;funext c;simp only[kondIn,Bool.and_assoc]
 have e3:r.Acts.all (actIn (posVarsS r.Pats) (posN r.Pats))=(r.Acts.all (fun a=>actOk a&&dropIn (posN r.Pats) a)&&r.Acts.all (fun a=>a.Args.all (exprIn (posVarsS r.Pats)))):=by
  rw[←all_and];rfl
 simp only[ruleOkI,ruleOk,kondsIn,actsIn,e1,e2,e3,used_all]
 rw[zcm]
 simp only[zaf]
 constructor
 ·rintro⟨⟨⟨⟨⟨⟨⟨a1,a2⟩,a3⟩,a4⟩,a5⟩,a6⟩,a7⟩,a8,a9⟩
  exact⟨⟨⟨⟨a1,a2⟩,a3⟩,a4,a6,a8⟩,a5,a7,a9⟩
 ·rintro⟨⟨⟨⟨a1,a2⟩,a3⟩,a4,a6,a8⟩,a5,a7,a9⟩
  exact⟨⟨⟨⟨⟨⟨⟨a1,a2⟩,a3⟩,a4⟩,a5⟩,a6⟩,a7⟩,a8,a9⟩
theorem if_dec{p:Prop}[Decidable p]{P Q:Prop}(h1:p→P)(h2:¬p→Q):bif decide p then P else Q:=if_cond (fun h=>h1 (of_decide_eq_true h)) (fun h=>h2 (of_decide_eq_false h))
theorem if_not{b:Bool}{P Q:Prop}(h1:b=false→P)(h2:b=true→Q):bif !b then P else Q:=if_cond (fun h=>h1 (by simpa using h)) (fun h=>h2 (by simpa using h))
theorem if_num{a b:Int}{P Q:Prop}(h1:a=b→P)(h2:¬a=b→Q):bif a==b then P else Q:=if_cond (fun h=>h1 (eq_of_beq h)) (fun h=>h2 (fun e=>by rw[e] at h;simp at h))
theorem sumC{α:Type}(f:α→Nat)(B:Nat):∀(l:List α),(∀x∈l,f x≤B)→(l.map f).sum≤l.length*B
 |[],_=>by simp
 |x::l,h=>by
  have h1:=sumC f B l (fun y hy=>h y (zaa _ hy))
  have h2:=h x zab
  simp only[zbt,zdc,zbq,zci];omega
theorem patsOk_args{ps:List DPat}(h:patsOk ps=true):patArgs ps≤30:=by
 simp only[patsOk,zaf,decide_eq_true_eq,allI_all] at h
 have:=sumC (fun p:DPat=>p.Args.length) 5 ps (fun p hp=>by
  obtain⟨i,hi,rfl⟩:=zbk hp
  have hk:=h.2 i hi
  simp only[patAt,zaf,zac,zad hi,zcj] at hk
  have hk:=hk.1.1.1
  simp only[patOk,zaf,decide_eq_true_eq] at hk
  exact hk.1.2)
 simp only[patArgs];omega
theorem actOk_args{a:DAct}(h:actOk a=true):a.Args.length≤5:=by
 simp only[actOk,bareA,exprsOk] at h
 grind
theorem actsOk_used{l:List DAct}(hl:l.length≤6)(h:∀a∈l,actOk a=true):usedN l≤60:=by
 have:=sumC (fun a:DAct=>2*a.Args.length) 10 l (fun a ha=>by have:=actOk_args (h a ha);omega)
 simp only[usedN];omega
def Zk239:Con UU where
 α:=DArg×(List ByteArray)
 md:=[.ro,.ro]
 of:=oC (oA .eArg) (o1 (oL .str))
 ds:=fun x=>[dA .eArg x.1,dL .str x.2]
 pre:=fun _=>[]
 res:=fun(a,vars)=>⟨[.one (.lit (.bool (knownIn vars a)))],true,[]⟩
 law:=lC (lA .eArg) (l1 (lL .str))
def Za239:Zk239.α→Nat→Option (Ann UU):=fun(a,vars)=>annL []
def Zu239:=us [Zh236]
theorem Zv239(a:DArg)(vars:(List ByteArray)):goal EE Zu239 Go.Proofs.Tryz.f239 Zk239 Za239 (a,vars)=(bif a.K !=(1:Int) then Lb true (knownIn vars a) else Lb (hasS vars a.S) (knownIn vars a)):=by kernel_rfl
theorem Zo239:Holds EE (239,Zk239):=by
 refine holds_of EE_ok Go.Proofs.Tryz.func239 Zk239 (by kernel_rfl) Zu239 (us_ok _) Za239 (fun x hp hb=> ?_)
 obtain⟨a,vars⟩:=x
 have hz0:=bd_eArg (x:=a) (hb _ m0)
 have hl_a_S:=hz0.1
 have hl_a_V_S:=hz0.2
 have hl_vars:vars.length≤9223372036854775807:=bdL (hb _ m1)
 clear hp hb
 rw[Zv239 a vars]
 simp only[knownIn]
 refine if_cond (fun h=>Lf_b ?_) (fun h=>Lf_b ?_)<;>grind
def Zh239:HH:=⟨_,Zo239⟩
def Zk202:Con UU where
 α:=(List DCond)×(List ByteArray)
 md:=[.ro,.ro]
 of:=oC (oL .eCond) (o1 (oL .str))
 ds:=fun x=>[dL .eCond x.1,dL .str x.2]
 pre:=fun _=>[]
 res:=fun(l,vars)=>⟨[.one (.lit (.bool (kondsIn l vars)))],true,[]⟩
 law:=lC (lL .eCond) (l1 (lL .str))
def Zi202_2(l:(List DCond))(vars:(List ByteArray)):Int×Unit→Prop:=fun(i,_)=>0≤i∧i≤l.length∧(l.drop i.toNat).all (kondIn vars)=l.all (kondIn vars)
def Zm202_2(l:(List DCond))(vars:(List ByteArray)):Int×Unit→Nat:=fun(i,_)=>l.length-i.toNat
def Za202:Zk202.α→Nat→Option (Ann UU):=fun(l,vars)=>annL [(2,annOf [.slot 5 (5,1024) (.lit (.int .i64))] (fun _=>Zi202_2 l vars) (Zm202_2 l vars))]
def Zu202:=us [Zh238,Zh239]
theorem Zv202(l:(List DCond))(vars:(List ByteArray)):goal EE Zu202 Go.Proofs.Tryz.f202 Zk202 Za202 (l,vars)=(let x0:Int:=(l.length:Int);
Zi202_2 l vars ((0:Int),PUnit.unit)∧
 ∀(y:Int×PUnit),
  let x1:DCond:=List.getD l (Int.toNat y.1) zCond;
  Zi202_2 l vars y→bif decide (y.1<x0) then(0:Int)≤y.1∧Int.toNat y.1<List.length l∧bif !kondOk x1 then Lf [DV.one (Cell.lit (Value.bool false))] [DV.one (Cell.lit (Value.bool (kondsIn l vars)))] else(0:Int)≤y.1∧Int.toNat y.1<List.length l∧bif !knownIn vars x1.L then Lf [DV.one (Cell.lit (Value.bool false))] [DV.one (Cell.lit (Value.bool (kondsIn l vars)))] else(0:Int)≤y.1∧Int.toNat y.1<List.length l∧bif !knownIn vars x1.R then Lf [DV.one (Cell.lit (Value.bool false))] [DV.one (Cell.lit (Value.bool (kondsIn l vars)))] else Zi202_2 l vars (IntKind.wrap IntKind.i64 (y.1+(1:Int)),PUnit.unit)∧Zm202_2 l vars (IntKind.wrap IntKind.i64 (y.1+(1:Int)),PUnit.unit)<Zm202_2 l vars y else Lf [DV.one (Cell.lit (Value.bool (decide (x0≤(6:Int)))))] [DV.one (Cell.lit (Value.bool (kondsIn l vars)))]):=by kernel_rfl
theorem Zo202:Holds EE (202,Zk202):=by
 refine holds_of EE_ok Go.Proofs.Tryz.func202 Zk202 (by kernel_rfl) Zu202 (us_ok _) Za202 (fun x hp hb=> ?_)
 obtain⟨l,vars⟩:=x
 have hl_l:l.length≤9223372036854775807:=bdL (hb _ m0)
 have hl_vars:vars.length≤9223372036854775807:=bdL (hb _ m1)
 clear hp hb
 rw[Zv202 l vars]
 dsimp only
 refine⟨⟨by omega,by omega,rfl⟩,?_⟩
 rintro⟨i,⟨⟩⟩ ⟨h1,h2,hR⟩
 simp only
 refine if_dec (fun hc=> ?_) (fun hc=> ?_)
 ·rw[all_step _ _ zCond h1 (by omega)] at hR
  rw[wrap_i64 (by omega) (by omega)]
  have hN:kondIn vars (List.getD l i.toNat zCond)=false→kondsIn l vars=false:=fun h=>by simp only[kondsIn,←hR,h];simp
  refine⟨by omega,by omega,if_not (fun h=>Lf_ff (hN ?_)) (fun h=>⟨by omega,by omega,if_not (fun g=>Lf_ff (hN ?_)) (fun g=>⟨by omega,by omega,if_not (fun k=>Lf_ff (hN ?_)) (fun k=>⟨⟨by omega,by omega,?_⟩,by simp only[Zm202_2];omega⟩)⟩)⟩)⟩
  ·simp only[kondIn,h,zbi]
  ·simp only[kondIn,g,zbs,zbi]
  ·simp only[kondIn,k,zbs]
  ·rw[←hR];simp only[kondIn,h,g,k,zck]
 ·rw[drop_end _ (by omega)] at hR
  refine Lf_b ?_
  simp only[kondsIn,←hR];simp;omega
def Zh202:HH:=⟨_,Zo202⟩
def Zk203:Con UU where
 α:=(List DAct)×(List ByteArray)×Int
 md:=[.ro,.ro,.ro]
 of:=oC (oL .eAct) (oC (oL .str) (o1 oI))
 ds:=fun x=>[dL .eAct x.1,dL .str x.2.1,dI x.2.2]
 pre:=fun _=>[]
 res:=fun(l,vars,pos)=>⟨[.one (.lit (.bool (actsIn l vars pos)))],true,[]⟩
 law:=lC (lL .eAct) (lC (lL .str) (l1 lI))
def Zi203_2(l:(List DAct))(vars:(List ByteArray))(pos:Int):Int×Unit→Prop:=fun(i,_)=>0≤i∧i≤l.length∧(l.drop i.toNat).all (actIn vars pos)=l.all (actIn vars pos)
def Zm203_2(l:(List DAct))(vars:(List ByteArray))(pos:Int):Int×Unit→Nat:=fun(i,_)=>l.length-i.toNat
def Zi203_7(l:(List DAct))(vars:(List ByteArray))(pos:Int):Int×Int×Unit→Int×Int×Unit→Prop:=fun(i0,k0,_) (i,k,_)=>i=i0∧0≤k∧k≤(List.getD l i.toNat zAct).Args.length∧((List.getD l i.toNat zAct).Args.drop k.toNat).all (exprIn vars)=(List.getD l i.toNat zAct).Args.all (exprIn vars)
def Zm203_7(l:(List DAct))(vars:(List ByteArray))(pos:Int):Int×Int×Unit→Nat:=fun(i,k,_)=>(List.getD l i.toNat zAct).Args.length-k.toNat
def Za203:Zk203.α→Nat→Option (Ann UU):=fun(l,vars,pos)=>annL [(2,annOf [.slot 7 (7,1024) (.lit (.int .i64))] (fun _=>Zi203_2 l vars pos) (Zm203_2 l vars pos)),(7,annOf [.slot 7 (7,1024) (.lit (.int .i64)),.slot 8 (8,1024) (.lit (.int .i64))] (Zi203_7 l vars pos) (Zm203_7 l vars pos))]
def Zu203:=us [Zh240,Zh239,Zh81]
theorem Zv203(l:(List DAct))(vars:(List ByteArray))(pos:Int):goal EE Zu203 Go.Proofs.Tryz.f203 Zk203 Za203 (l,vars,pos)=(let x0:Int:=(l.length:Int);
Zi203_2 l vars pos ((0:Int),PUnit.unit)∧
 ∀(y:Int×PUnit),
  let x1:DAct:=List.getD l (Int.toNat y.1) zAct;
  Zi203_2 l vars pos y→
   bif decide (y.1<x0) then
    (0:Int)≤y.1∧
     Int.toNat y.1<List.length l∧
      bif !actOk x1 then Lf [DV.one (Cell.lit (Value.bool false))] [DV.one (Cell.lit (Value.bool (actsIn l vars pos)))]
      else
       (0:Int)≤y.1∧
        Int.toNat y.1<List.length l∧
         bif x1.Kind==(2:Int) then
          (0:Int)≤y.1∧
           Int.toNat y.1<List.length l∧
            bif decide (x1.N≥pos) then Lf [DV.one (Cell.lit (Value.bool false))] [DV.one (Cell.lit (Value.bool (actsIn l vars pos)))]
            else
             Zi203_7 l vars pos (y.1,(0:Int),PUnit.unit) (y.1,(0:Int),PUnit.unit)∧
              ∀(y_1:Int×Int×PUnit),
               let x3:Nat:=Int.toNat y_1.2.1;
               let x4:Int:=(↑(List.length (List.getD l (Int.toNat y_1.1) zAct).Args):Int);
               let x2:DExpr:=List.getD (List.getD l (Int.toNat y_1.1) zAct).Args x3 zExpr;
               Zi203_7 l vars pos (y.1,(0:Int),PUnit.unit) y_1→(0:Int)≤y_1.1∧Int.toNat y_1.1<List.length l∧bif decide (y_1.2.1<x4) then(0:Int)≤y_1.1∧Int.toNat y_1.1<List.length l∧(0:Int)≤y_1.2.1∧x3<List.length (List.getD l (Int.toNat y_1.1) zAct).Args∧bif !knownIn vars x2.L then Lf [DV.one (Cell.lit (Value.bool false))] [DV.one (Cell.lit (Value.bool (actsIn l vars pos)))] else(0:Int)≤y_1.1∧Int.toNat y_1.1<List.length l∧(0:Int)≤y_1.2.1∧x3<List.length (List.getD l (Int.toNat y_1.1) zAct).Args∧bif !knownIn vars x2.R then Lf [DV.one (Cell.lit (Value.bool false))] [DV.one (Cell.lit (Value.bool (actsIn l vars pos)))] else Zi203_7 l vars pos (y.1,(0:Int),PUnit.unit) (y_1.1,IntKind.wrap IntKind.i64 (y_1.2.1+(1:Int)),PUnit.unit)∧Zm203_7 l vars pos (y_1.1,IntKind.wrap IntKind.i64 (y_1.2.1+(1:Int)),PUnit.unit)<Zm203_7 l vars pos y_1 else Zi203_2 l vars pos (IntKind.wrap IntKind.i64 (y_1.1+(1:Int)),PUnit.unit)∧Zm203_2 l vars pos (IntKind.wrap IntKind.i64 (y_1.1+(1:Int)),PUnit.unit)<Zm203_2 l vars pos y
         else
          Zi203_7 l vars pos (y.1,(0:Int),PUnit.unit) (y.1,(0:Int),PUnit.unit)∧
           ∀(y_1:Int×Int×PUnit),
            let x3:Nat:=Int.toNat y_1.2.1;
            let x4:Int:=(↑(List.length (List.getD l (Int.toNat y_1.1) zAct).Args):Int);
            let x2:DExpr:=List.getD (List.getD l (Int.toNat y_1.1) zAct).Args x3 zExpr;
            Zi203_7 l vars pos (y.1,(0:Int),PUnit.unit) y_1→(0:Int)≤y_1.1∧Int.toNat y_1.1<List.length l∧bif decide (y_1.2.1<x4) then(0:Int)≤y_1.1∧Int.toNat y_1.1<List.length l∧(0:Int)≤y_1.2.1∧x3<List.length (List.getD l (Int.toNat y_1.1) zAct).Args∧bif !knownIn vars x2.L then Lf [DV.one (Cell.lit (Value.bool false))] [DV.one (Cell.lit (Value.bool (actsIn l vars pos)))] else(0:Int)≤y_1.1∧Int.toNat y_1.1<List.length l∧(0:Int)≤y_1.2.1∧x3<List.length (List.getD l (Int.toNat y_1.1) zAct).Args∧bif !knownIn vars x2.R then Lf [DV.one (Cell.lit (Value.bool false))] [DV.one (Cell.lit (Value.bool (actsIn l vars pos)))] else Zi203_7 l vars pos (y.1,(0:Int),PUnit.unit) (y_1.1,IntKind.wrap IntKind.i64 (y_1.2.1+(1:Int)),PUnit.unit)∧Zm203_7 l vars pos (y_1.1,IntKind.wrap IntKind.i64 (y_1.2.1+(1:Int)),PUnit.unit)<Zm203_7 l vars pos y_1 else Zi203_2 l vars pos (IntKind.wrap IntKind.i64 (y_1.1+(1:Int)),PUnit.unit)∧Zm203_2 l vars pos (IntKind.wrap IntKind.i64 (y_1.1+(1:Int)),PUnit.unit)<Zm203_2 l vars pos y
   else Lf [DV.one (Cell.lit (Value.bool (decide ((1:Int)≤x0∧x0≤(6:Int)))))] [DV.one (Cell.lit (Value.bool (actsIn l vars pos)))]):=by kernel_rfl
theorem Zo203:Holds EE (203,Zk203):=by
 refine holds_of EE_ok Go.Proofs.Tryz.func203 Zk203 (by kernel_rfl) Zu203 (us_ok _) Za203 (fun x hp hb=> ?_)
 obtain⟨l,vars,pos⟩:=x
 have hl_l:l.length≤9223372036854775807:=bdL (hb _ m0)
 have hl_vars:vars.length≤9223372036854775807:=bdL (hb _ m1)
 have hl_pos:=bdI (n:=pos) (hb _ m2)
 clear hp hb
 rw[Zv203 l vars pos]
 dsimp only
 refine⟨⟨by omega,by omega,rfl⟩,?_⟩
 rintro⟨i,⟨⟩⟩ ⟨h1,h2,hR⟩
 simp only
 refine if_dec (fun hc=> ?_) (fun hc=> ?_)
 ·rw[all_step _ _ zAct h1 (by omega)] at hR
  have hN:actIn vars pos (List.getD l i.toNat zAct)=false→actsIn l vars pos=false:=fun h=>by simp only[actsIn,←hR,h];simp
  refine⟨by omega,by omega,if_not (fun ha=>Lf_ff (hN (by simp only[actIn,ha,zbi]))) (fun ha=>⟨by omega,by omega,if_num (fun hk2=>⟨by omega,by omega,if_dec (fun hp=>Lf_ff (hN ?_)) (fun hp=> ?_)⟩) (fun hk2=> ?_)⟩)⟩
  ·have:dropIn pos (List.getD l i.toNat zAct)=false:=by simp only[dropIn,hk2,decide_eq_true (show pos≤(List.getD l i.toNat zAct).N from hp)];simp
   simp only[actIn,this,zbs,zbi]
  ·have hd:dropIn pos (List.getD l i.toNat zAct)=true:=by simp only[dropIn,decide_eq_false (show¬pos≤(List.getD l i.toNat zAct).N from hp)];simp
   have h5:=actOk_args ha
   refine⟨⟨rfl,by omega,by omega,rfl⟩,?_⟩
   rintro⟨i',k,⟨⟩⟩ ⟨rfl,g1,g2,gR⟩
   simp only
   refine⟨by omega,by omega,if_dec (fun hk=> ?_) (fun hk=> ?_)⟩
   ·rw[all_step _ _ zExpr g1 (by omega)] at gR
    rw[wrap_i64 (n:=k+1) (by omega) (by omega)]
    have hM:exprIn vars (List.getD (List.getD l i'.toNat zAct).Args k.toNat zExpr)=false→actsIn l vars pos=false:=fun h=>hN (by simp only[actIn,←gR,h];simp)
    refine⟨by omega,by omega,g1,by omega,if_not (fun e=>Lf_ff (hM ?_)) (fun e=>⟨by omega,by omega,g1,by omega,if_not (fun f=>Lf_ff (hM ?_)) (fun f=>⟨⟨rfl,by omega,by omega,?_⟩,by simp only[Zm203_7];omega⟩)⟩)⟩
    ·simp only[exprIn,e,zbi]
    ·simp only[exprIn,f,zbs]
    ·rw[←gR];simp only[exprIn,e,f,zck]
   ·rw[drop_end _ (by omega)] at gR
    rw[wrap_i64 (n:=i'+1) (by omega) (by omega)]
    refine⟨⟨by omega,by omega,?_⟩,by simp only[Zm203_2];omega⟩
    rw[←hR];simp only[actIn,←gR,hd,ha,zes,zck]
  ·have hd:dropIn pos (List.getD l i.toNat zAct)=true:=by simp only[dropIn,decide_eq_false hk2];simp
   have h5:=actOk_args ha
   refine⟨⟨rfl,by omega,by omega,rfl⟩,?_⟩
   rintro⟨i',k,⟨⟩⟩ ⟨rfl,g1,g2,gR⟩
   simp only
   refine⟨by omega,by omega,if_dec (fun hk=> ?_) (fun hk=> ?_)⟩
   ·rw[all_step _ _ zExpr g1 (by omega)] at gR
    rw[wrap_i64 (n:=k+1) (by omega) (by omega)]
    have hM:exprIn vars (List.getD (List.getD l i'.toNat zAct).Args k.toNat zExpr)=false→actsIn l vars pos=false:=fun h=>hN (by simp only[actIn,←gR,h];simp)
    refine⟨by omega,by omega,g1,by omega,if_not (fun e=>Lf_ff (hM ?_)) (fun e=>⟨by omega,by omega,g1,by omega,if_not (fun f=>Lf_ff (hM ?_)) (fun f=>⟨⟨rfl,by omega,by omega,?_⟩,by simp only[Zm203_7];omega⟩)⟩)⟩
    ·simp only[exprIn,e,zbi]
    ·simp only[exprIn,f,zbs]
    ·rw[←gR];simp only[exprIn,e,f,zck]
   ·rw[drop_end _ (by omega)] at gR
    rw[wrap_i64 (n:=i'+1) (by omega) (by omega)]
    refine⟨⟨by omega,by omega,?_⟩,by simp only[Zm203_2];omega⟩
    rw[←hR];simp only[actIn,←gR,hd,ha,zes,zck]
 ·rw[drop_end _ (by omega)] at hR
  refine Lf_b ?_
  simp only[actsIn,←hR,zes,zdb];exact decide_eq_decide.2 (by omega)
def Zh203:HH:=⟨_,Zo203⟩
def Zk201:Con UU where
 α:=(List DPat)
 md:=[.ro]
 of:=o1 (oL .ePat)
 ds:=fun x=>[dL .ePat x]
 pre:=fun _=>[]
 res:=fun l=>⟨[.one (.lit (.bool (patsOk l)))],true,[]⟩
 law:=l1 (lL .ePat)
def Zi201_2(l:(List DPat)):Int×Unit→Prop:=fun(i,_)=>0≤i∧i≤l.length∧∀j:Nat,(j:Int)<i→patAt l j=true
def Zm201_2(l:(List DPat)):Int×Unit→Nat:=fun(i,_)=>l.length-i.toNat
def Za201:Zk201.α→Nat→Option (Ann UU):=fun l=>annL [(2,annOf [.slot 3 (3,1024) (.lit (.int .i64))] (fun _=>Zi201_2 l) (Zm201_2 l))]
def Zu201:=us [Zh237,Zh81]
theorem Zv201(l:(List DPat)):goal EE Zu201 Go.Proofs.Tryz.f201 Zk201 Za201 l=(let x0:Int:=(l.length:Int);
Zi201_2 l ((0:Int),PUnit.unit)∧
 ∀(y:Int×PUnit),
  let x1:Nat:=Int.toNat (IntKind.wrap IntKind.i64 (y.1-(1:Int)));
  Zi201_2 l y→bif decide (y.1<x0) then bif decide (y.1>(2:Int)) then(0:Int)≤y.1∧Int.toNat y.1<List.length l∧bif !(List.getD l (Int.toNat y.1) zPat).Not then Lf [DV.one (Cell.lit (Value.bool false))] [DV.one (Cell.lit (Value.bool (patsOk l)))] else(0:Int)≤y.1∧Int.toNat y.1<List.length l∧bif !patOk (List.getD l (Int.toNat y.1) zPat) then Lf [DV.one (Cell.lit (Value.bool false))] [DV.one (Cell.lit (Value.bool (patsOk l)))] else bif y.1==(0:Int) then(0:Int)≤y.1∧Int.toNat y.1<List.length l∧bif (List.getD l (Int.toNat y.1) zPat).Not then Lf [DV.one (Cell.lit (Value.bool false))] [DV.one (Cell.lit (Value.bool (patsOk l)))] else bif decide (y.1>(0:Int)) then(0:Int)≤IntKind.wrap IntKind.i64 (y.1-(1:Int))∧x1<List.length l∧bif (List.getD l x1 zPat).Not then(0:Int)≤y.1∧Int.toNat y.1<List.length l∧bif !(List.getD l (Int.toNat y.1) zPat).Not then Lf [DV.one (Cell.lit (Value.bool false))] [DV.one (Cell.lit (Value.bool (patsOk l)))] else Zi201_2 l (IntKind.wrap IntKind.i64 (y.1+(1:Int)),PUnit.unit)∧Zm201_2 l (IntKind.wrap IntKind.i64 (y.1+(1:Int)),PUnit.unit)<Zm201_2 l y else Zi201_2 l (IntKind.wrap IntKind.i64 (y.1+(1:Int)),PUnit.unit)∧Zm201_2 l (IntKind.wrap IntKind.i64 (y.1+(1:Int)),PUnit.unit)<Zm201_2 l y else Zi201_2 l (IntKind.wrap IntKind.i64 (y.1+(1:Int)),PUnit.unit)∧Zm201_2 l (IntKind.wrap IntKind.i64 (y.1+(1:Int)),PUnit.unit)<Zm201_2 l y else bif decide (y.1>(0:Int)) then(0:Int)≤IntKind.wrap IntKind.i64 (y.1-(1:Int))∧x1<List.length l∧bif (List.getD l x1 zPat).Not then(0:Int)≤y.1∧Int.toNat y.1<List.length l∧bif !(List.getD l (Int.toNat y.1) zPat).Not then Lf [DV.one (Cell.lit (Value.bool false))] [DV.one (Cell.lit (Value.bool (patsOk l)))] else Zi201_2 l (IntKind.wrap IntKind.i64 (y.1+(1:Int)),PUnit.unit)∧Zm201_2 l (IntKind.wrap IntKind.i64 (y.1+(1:Int)),PUnit.unit)<Zm201_2 l y else Zi201_2 l (IntKind.wrap IntKind.i64 (y.1+(1:Int)),PUnit.unit)∧Zm201_2 l (IntKind.wrap IntKind.i64 (y.1+(1:Int)),PUnit.unit)<Zm201_2 l y else Zi201_2 l (IntKind.wrap IntKind.i64 (y.1+(1:Int)),PUnit.unit)∧Zm201_2 l (IntKind.wrap IntKind.i64 (y.1+(1:Int)),PUnit.unit)<Zm201_2 l y else(0:Int)≤y.1∧Int.toNat y.1<List.length l∧bif !patOk (List.getD l (Int.toNat y.1) zPat) then Lf [DV.one (Cell.lit (Value.bool false))] [DV.one (Cell.lit (Value.bool (patsOk l)))] else bif y.1==(0:Int) then(0:Int)≤y.1∧Int.toNat y.1<List.length l∧bif (List.getD l (Int.toNat y.1) zPat).Not then Lf [DV.one (Cell.lit (Value.bool false))] [DV.one (Cell.lit (Value.bool (patsOk l)))] else bif decide (y.1>(0:Int)) then(0:Int)≤IntKind.wrap IntKind.i64 (y.1-(1:Int))∧x1<List.length l∧bif (List.getD l x1 zPat).Not then(0:Int)≤y.1∧Int.toNat y.1<List.length l∧bif !(List.getD l (Int.toNat y.1) zPat).Not then Lf [DV.one (Cell.lit (Value.bool false))] [DV.one (Cell.lit (Value.bool (patsOk l)))] else Zi201_2 l (IntKind.wrap IntKind.i64 (y.1+(1:Int)),PUnit.unit)∧Zm201_2 l (IntKind.wrap IntKind.i64 (y.1+(1:Int)),PUnit.unit)<Zm201_2 l y else Zi201_2 l (IntKind.wrap IntKind.i64 (y.1+(1:Int)),PUnit.unit)∧Zm201_2 l (IntKind.wrap IntKind.i64 (y.1+(1:Int)),PUnit.unit)<Zm201_2 l y else Zi201_2 l (IntKind.wrap IntKind.i64 (y.1+(1:Int)),PUnit.unit)∧Zm201_2 l (IntKind.wrap IntKind.i64 (y.1+(1:Int)),PUnit.unit)<Zm201_2 l y else bif decide (y.1>(0:Int)) then(0:Int)≤IntKind.wrap IntKind.i64 (y.1-(1:Int))∧x1<List.length l∧bif (List.getD l x1 zPat).Not then(0:Int)≤y.1∧Int.toNat y.1<List.length l∧bif !(List.getD l (Int.toNat y.1) zPat).Not then Lf [DV.one (Cell.lit (Value.bool false))] [DV.one (Cell.lit (Value.bool (patsOk l)))] else Zi201_2 l (IntKind.wrap IntKind.i64 (y.1+(1:Int)),PUnit.unit)∧Zm201_2 l (IntKind.wrap IntKind.i64 (y.1+(1:Int)),PUnit.unit)<Zm201_2 l y else Zi201_2 l (IntKind.wrap IntKind.i64 (y.1+(1:Int)),PUnit.unit)∧Zm201_2 l (IntKind.wrap IntKind.i64 (y.1+(1:Int)),PUnit.unit)<Zm201_2 l y else Zi201_2 l (IntKind.wrap IntKind.i64 (y.1+(1:Int)),PUnit.unit)∧Zm201_2 l (IntKind.wrap IntKind.i64 (y.1+(1:Int)),PUnit.unit)<Zm201_2 l y else Lf [DV.one (Cell.lit (Value.bool (decide ((1:Int)≤x0∧x0≤(6:Int)))))] [DV.one (Cell.lit (Value.bool (patsOk l)))]):=by kernel_rfl
theorem Zo201:Holds EE (201,Zk201):=by
 refine holds_of EE_ok Go.Proofs.Tryz.func201 Zk201 (by kernel_rfl) Zu201 (us_ok _) Za201 (fun(l:(List DPat)) hp hb=> ?_)
 have hl_l:l.length≤9223372036854775807:=bdL (hb _ m0)
 clear hp hb
 rw[Zv201 l]
 dsimp only
 refine⟨⟨by omega,by omega,by intro j hj;omega⟩,?_⟩
 rintro⟨i,⟨⟩⟩ ⟨h1,h2,hR⟩
 simp only
 refine if_dec (fun hc=> ?_) (fun hc=> ?_)
 ·have hN:patAt l i.toNat=false→patsOk l=false:=fun h=>by
   have hf:allI l.length (patAt l)=false:=allI_false (j:=i.toNat) (by omega) h
   simp only[patsOk,hf];simp
  have hm:Zm201_2 l (i+1,PUnit.unit)<Zm201_2 l (i,()):=by simp only[Zm201_2];omega
  have e1:(i-1).toNat=i.toNat-1:=by omega
  simp(disch:=omega) only[wrap_i64]
  simp only[e1]
  have c1:decide (2<i.toNat)=decide (i>2):=decide_eq_decide.2 (by omega)
  have c2:decide (i.toNat=0)=decide (i=0):=decide_eq_decide.2 (by omega)
  have c3:decide (0<i.toNat)=decide (i>0):=decide_eq_decide.2 (by omega)
  have hA:patAt l i.toNat=(patOk (List.getD l i.toNat zPat)&& !(decide (i>2)&& !(List.getD l i.toNat zPat).Not)&& !(decide (i=0)&&(List.getD l i.toNat zPat).Not)&& !(decide (i>0)&&(List.getD l (i.toNat-1) zPat).Not&& !(List.getD l i.toNat zPat).Not)):=by
   simp only[patAt,notAt,c1,c2,c3]
  have hgo:patAt l i.toNat=true→Zi201_2 l (i+1,PUnit.unit)∧Zm201_2 l (i+1,PUnit.unit)<Zm201_2 l (i,()):=fun h=>⟨⟨by omega,by omega,upto_step h1 hR h⟩,hm⟩
  rw[hA] at hN hgo
  generalize (List.getD l (i.toNat-1) zPat).Not=q at*
  generalize (List.getD l i.toNat zPat).Not=r at*
  generalize patOk (List.getD l i.toNat zPat)=s at*
  clear hA c1 c2 c3 hR
  have hlt:i.toNat<l.length:=by omega
  have hlt':i.toNat-1<l.length:=by omega
  have hi1:i>0→0≤i-1:=fun h=>by omega
  repeat' (first|refine Lf_ff (hN ?_)|refine hgo ?_|refine if_dec (fun h=> ?_) (fun h=> ?_)|refine if_num (fun h=> ?_) (fun h=> ?_)|refine if_cond (fun h=> ?_) (fun h=> ?_)|refine And.intro h1 ?_|refine And.intro hlt ?_|refine And.intro hlt' ?_|refine And.intro (hi1 (by assumption)) ?_)
  all_goals (cases q<;>cases r<;>cases s<;>simp at* <;>omega)
 ·have hA:allI l.length (patAt l)=true:=allI_true fun j hj=>hR j (by omega)
  refine Lf_b ?_
  simp only[patsOk,hA,zdb];exact decide_eq_decide.2 (by omega)
def Zh201:HH:=⟨_,Zo201⟩
def Zk146:Con UU where
 α:=DRule
 md:=[.ro]
 of:=o1 (oA .eRule)
 ds:=fun x=>[dA .eRule x]
 pre:=fun r=>[patArgs r.Pats≤4294967295]
 res:=fun r=>⟨[.one (.lit (.bool (ruleOk r)))],true,[]⟩
 law:=l1 (lA .eRule)
def Za146:Zk146.α→Nat→Option (Ann UU):=fun r=>annL []
def Zu146:=us [Zh200,Zh130,Zh81,Zh201,Zh202,Zh203,Zh153]
theorem Zv146(r:DRule):goal EE Zu146 Go.Proofs.Tryz.f146 Zk146 Za146 r=(patArgs r.Pats≤(4294967296:Nat)∧bif nameOk r.Name then bif decide ((-100:Int)≤r.Sal∧r.Sal≤(100:Int)) then bif patsOk r.Pats then bif kondsIn r.Conds (posVarsS r.Pats) then Lb (actsIn r.Acts (posVarsS r.Pats) (↑(posN r.Pats):Int)) (ruleOk r) else Lb false (ruleOk r) else Lb false (ruleOk r) else Lb false (ruleOk r) else Lb false (ruleOk r)):=by kernel_rfl
theorem Zo146:Holds EE (146,Zk146):=by
 refine holds_of EE_ok Go.Proofs.Tryz.func146 Zk146 (by kernel_rfl) Zu146 (us_ok _) Za146 (fun(r:DRule) hp hb=> ?_)
 have hz0:=bd_eRule (x:=r) (hb _ m0)
 have hl_r_Name:=hz0.1
 have hl_r_Pats:=hz0.2.1
 have hl_r_Conds:=hz0.2.2.1
 have hl_r_Acts:=hz0.2.2.2
 have hp0:patArgs r.Pats≤4294967295:=hp _ m0
 clear hp hb
 rw[Zv146 r]
 refine⟨by omega,?_⟩
 simp only[ruleOk]
 repeat' (refine if_cond (fun h=> ?_) (fun h=> ?_))
 all_goals (refine Lf_b ?_;grind)
def Zh146:HH:=⟨_,Zo146⟩
def Zk213:Con UU where
 α:=DRule
 md:=[.ro]
 of:=o1 (oA .eRule)
 ds:=fun x=>[dA .eRule x]
 pre:=fun _=>[]
 res:=fun r=>⟨[.one (.lit (.bool (patsOkI r.Pats)))],true,[]⟩
 law:=l1 (lA .eRule)
def Zi213_4(r:DRule):Int×(ByteArray×Int×List DPat×List DCond×List DAct×Unit)×Unit→Prop:=fun(i,b,_)=>b=(r.Name,r.Sal,r.Pats,r.Conds,r.Acts,())∧0≤i∧i≤r.Pats.length∧(1≤r.Pats.length∧r.Pats.length≤6)∧(1≤posN r.Pats∧posN r.Pats≤3)∧∀j:Nat,(j:Int)<i→patAtI r.Pats j=true
def Zm213_4(r:DRule):Int×(ByteArray×Int×List DPat×List DCond×List DAct×Unit)×Unit→Nat:=fun(i,b,_)=>r.Pats.length-i.toNat
def Za213:Zk213.α→Nat→Option (Ann UU):=fun r=>annL [(4,annOf [.slot 19 (19,1024) (.lit (.int .i64)),.box 1 (1,1024) [.lit .str,.lit (.int .i64),.shr .ePat,.shr .eCond,.shr .eAct]] (fun _=>Zi213_4 r) (Zm213_4 r))]
def Zu213:=us [Zh104,Zh175,Zh244]
theorem Zv213(r:DRule):goal EE Zu213 Go.Proofs.Tryz.f213 Zk213 Za213 r=(let x0:Int:=(r.Pats.length:Int);
bif !decide ((1:Int)≤x0∧x0≤(6:Int)) then Lf [DV.one (Cell.lit (Value.bool false))] [DV.one (Cell.lit (Value.bool (patsOkI r.Pats)))]
else
 bif !decide ((1:Int)≤(↑(posN r.Pats):Int)∧(↑(posN r.Pats):Int)≤(3:Int)) then Lf [DV.one (Cell.lit (Value.bool false))] [DV.one (Cell.lit (Value.bool (patsOkI r.Pats)))]
 else
  Zi213_4 r ((0:Int),(r.Name,r.Sal,r.Pats,r.Conds,r.Acts,PUnit.unit),PUnit.unit)∧
   ∀(y:Int×(ByteArray×Int×List DPat×List DCond×List DAct×PUnit)×PUnit),
    let x1:Int:=(↑(posN y.2.1.2.2.1):Int);
    Zi213_4 r y→bif decide (y.1<x0) then(0:Int)≤y.1∧Int.toNat y.1<List.length r.Pats∧bif !patOk (List.getD r.Pats (Int.toNat y.1) zPat) then Lf [DV.one (Cell.lit (Value.bool false))] [DV.one (Cell.lit (Value.bool (patsOkI r.Pats)))] else bif !(List.getD r.Pats (Int.toNat y.1) zPat).Not==decide (y.1≥x1) then Lf [DV.one (Cell.lit (Value.bool false))] [DV.one (Cell.lit (Value.bool (patsOkI r.Pats)))] else Zi213_4 r (IntKind.wrap IntKind.i64 (y.1+(1:Int)),(y.2.1.1,y.2.1.2.1,y.2.1.2.2.1,y.2.1.2.2.2.1,y.2.1.2.2.2.2.1,PUnit.unit),PUnit.unit)∧Zm213_4 r (IntKind.wrap IntKind.i64 (y.1+(1:Int)),(y.2.1.1,y.2.1.2.1,y.2.1.2.2.1,y.2.1.2.2.2.1,y.2.1.2.2.2.2.1,PUnit.unit),PUnit.unit)<Zm213_4 r y else Lf [DV.one (Cell.lit (Value.bool true))] [DV.one (Cell.lit (Value.bool (patsOkI r.Pats)))]):=by kernel_rfl
theorem Zo213:Holds EE (213,Zk213):=by
 refine holds_of EE_ok Go.Proofs.Tryz.func213 Zk213 (by kernel_rfl) Zu213 (us_ok _) Za213 (fun(r:DRule) hp hb=> ?_)
 have hz0:=bd_eRule (x:=r) (hb _ m0)
 have hl_r_Name:=hz0.1
 have hl_r_Pats:=hz0.2.1
 have hl_r_Conds:=hz0.2.2.1
 have hl_r_Acts:=hz0.2.2.2
 clear hp hb
 rw[Zv213 r]
 dsimp only
 refine if_not (fun h=>Lf_ff ?_) (fun h=>if_not (fun h'=>Lf_ff ?_) (fun h'=> ?_))
 ·have h:=of_decide_eq_false h
  simp only[patsOkI];rw[decide_eq_false (by omega)];rfl
 ·have h':=of_decide_eq_false h'
  simp only[patsOkI];rw[decide_eq_false (p:=1≤posN r.Pats∧posN r.Pats≤3) (by omega)];simp
 have h:=of_decide_eq_true h
 have h':=of_decide_eq_true h'
 refine⟨⟨rfl,by omega,by omega,by omega,by omega,by intro j hj;omega⟩,?_⟩
 rintro⟨i,⟨b1,b2,b3,b4,b5,⟨⟩⟩,⟨⟩⟩ ⟨hbx,h1,h2,h3,h4,hR⟩
 cases hbx
 simp only
 refine if_dec (fun hc=> ?_) (fun hc=> ?_)
 ·have hN:patAtI r.Pats i.toNat=false→patsOkI r.Pats=false:=fun h=>by
   have hf:allI r.Pats.length (patAtI r.Pats)=false:=allI_false (j:=i.toNat) (by omega) h
   simp only[patsOkI,hf];simp
  rw[wrap_i64 (by omega) (by omega)]
  have c1:decide (posN r.Pats≤i.toNat)=decide (i≥(posN r.Pats:Int)):=decide_eq_decide.2 (by omega)
  refine⟨by omega,by omega,if_not (fun g=>Lf_ff (hN (by simp only[patAtI,g,zbi]))) (fun g=>if_not (fun k=>Lf_ff (hN ?_)) (fun k=>⟨⟨rfl,by omega,by omega,h3,h4,upto_step h1 hR ?_⟩,by simp only[Zm213_4];omega⟩))⟩
  ·simp only[patAtI,notAt,c1,k];simp
  ·simp only[patAtI,notAt,c1,k,g];rfl
 ·have hA:allI r.Pats.length (patAtI r.Pats)=true:=allI_true fun j hj=>hR j (by omega)
  refine Lf_tt ?_
  simp only[patsOkI,hA,decide_eq_true h3,decide_eq_true h4];rfl
def Zh213:HH:=⟨_,Zo213⟩
def Zk217:Con UU where
 α:=DRule
 md:=[.ro]
 of:=o1 (oA .eRule)
 ds:=fun x=>[dA .eRule x]
 pre:=fun r=>[2*r.Conds.length+usedN r.Acts≤4294967295]
 res:=fun r=>⟨[.one (.sl .str (usedV r))],true,[]⟩
 law:=l1 (lA .eRule)
def Zi217_3(r:DRule):List ByteArray×Int×(ByteArray×Int×List DPat×List DCond×List DAct×Unit)×Unit→Prop:=fun(v,i,b,_)=>b=(r.Name,r.Sal,r.Pats,r.Conds,r.Acts,())∧0≤i∧i≤r.Conds.length∧v=(r.Conds.take i.toNat).foldl usedC []
def Zm217_3(r:DRule):List ByteArray×Int×(ByteArray×Int×List DPat×List DCond×List DAct×Unit)×Unit→Nat:=fun(v,i,b,_)=>r.Conds.length-i.toNat
def Zi217_8(r:DRule):List ByteArray×Int×Unit→Prop:=fun(v,i,_)=>0≤i∧i≤r.Acts.length∧v=(r.Acts.take i.toNat).foldl usedA (r.Conds.foldl usedC [])
def Zm217_8(r:DRule):List ByteArray×Int×Unit→Nat:=fun(v,i,_)=>r.Acts.length-i.toNat
def Zi217_11(r:DRule):List ByteArray×Int×Int×Unit→List ByteArray×Int×Int×Unit→Prop:=fun(v0,i0,k0,_) (v,i,k,_)=>i=i0∧0≤k∧k≤(List.getD r.Acts i.toNat zAct).Args.length∧v=((List.getD r.Acts i.toNat zAct).Args.take k.toNat).foldl usedE v0
def Zm217_11(r:DRule):List ByteArray×Int×Int×Unit→Nat:=fun(v,i,k,_)=>(List.getD r.Acts i.toNat zAct).Args.length-k.toNat
def Za217:Zk217.α→Nat→Option (Ann UU):=fun r=>annL [(3,annOf [.slot 3 (3,1024) (.own .str true),.slot 13 (13,1024) (.lit (.int .i64)),.box 1 (1,1024) [.lit .str,.lit (.int .i64),.shr .ePat,.shr .eCond,.shr .eAct]] (fun _=>Zi217_3 r) (Zm217_3 r)),(8,annOf [.slot 3 (3,1024) (.own .str true),.slot 28 (28,1024) (.lit (.int .i64))] (fun _=>Zi217_8 r) (Zm217_8 r)),(11,annOf [.slot 3 (3,1024) (.own .str true),.slot 28 (28,1024) (.lit (.int .i64)),.slot 35 (35,1024) (.lit (.int .i64))] (Zi217_11 r) (Zm217_11 r))]
def Zu217:=us [Zh247]
theorem Zv217(r:DRule):goal EE Zu217 Go.Proofs.Tryz.f217 Zk217 Za217 r=(Zi217_3 r ([],(0:Int),(r.Name,r.Sal,r.Pats,r.Conds,r.Acts,()),())∧
 ∀(y:List ByteArray×Int×(ByteArray×Int×List DPat×List DCond×List DAct×PUnit)×PUnit),
  let x2:Nat:=List.length y.2.2.1.2.2.2.2.1;
  let x4:Nat:=Int.toNat y.2.1;
  let x1:Int:=(↑x2:Int);
  let x3:DCond:=List.getD r.Conds x4 zCond;
  let x0:List DArg:=[x3.L,x3.R];
  Zi217_3 r y→
   bif decide (y.2.1<(↑(List.length r.Conds):Int)) then(0:Int)≤y.2.1∧x4<List.length r.Conds∧List.length y.1+List.length x0≤(4294967295:Nat)∧Zi217_3 r (addVars y.1 x0,IntKind.wrap IntKind.i64 (y.2.1+(1:Int)),(y.2.2.1.1,y.2.2.1.2.1,y.2.2.1.2.2.1,y.2.2.1.2.2.2.1,y.2.2.1.2.2.2.2.1,PUnit.unit),PUnit.unit)∧Zm217_3 r (addVars y.1 x0,IntKind.wrap IntKind.i64 (y.2.1+(1:Int)),(y.2.2.1.1,y.2.2.1.2.1,y.2.2.1.2.2.1,y.2.2.1.2.2.2.1,y.2.2.1.2.2.2.2.1,PUnit.unit),PUnit.unit)<Zm217_3 r y
   else
    Zi217_8 r (y.1,(0:Int),PUnit.unit)∧
     ∀(y_1:List ByteArray×Int×PUnit),
      let x8:Nat:=Int.toNat y_1.2.1;
      let x7:List DExpr:=(List.getD y.2.2.1.2.2.2.2.1 x8 zAct).Args;
      let x6:Nat:=List.length x7;
      let x5:Int:=(↑x6:Int);
      Zi217_8 r y_1→
       bif decide (y_1.2.1<x1) then
        (0:Int)≤y_1.2.1∧
         x8<x2∧
          Zi217_11 r (y_1.1,y_1.2.1,(0:Int),PUnit.unit) (y_1.1,y_1.2.1,(0:Int),PUnit.unit)∧
           ∀(y:List ByteArray×Int×Int×PUnit),
            let x11:Nat:=Int.toNat y.2.2.1;
            let x10:DExpr:=List.getD x7 x11 zExpr;
            let x9:List DArg:=[x10.L,x10.R];
            Zi217_11 r (y_1.1,y_1.2.1,(0:Int),PUnit.unit) y→bif decide (y.2.2.1<x5) then(0:Int)≤y.2.2.1∧x11<x6∧List.length y.1+List.length x9≤(4294967295:Nat)∧Zi217_11 r (y_1.1,y_1.2.1,(0:Int),PUnit.unit) (addVars y.1 x9,y.2.1,IntKind.wrap IntKind.i64 (y.2.2.1+(1:Int)),PUnit.unit)∧Zm217_11 r (addVars y.1 x9,y.2.1,IntKind.wrap IntKind.i64 (y.2.2.1+(1:Int)),PUnit.unit)<Zm217_11 r y else Zi217_8 r (y.1,IntKind.wrap IntKind.i64 (y.2.1+(1:Int)),PUnit.unit)∧Zm217_8 r (y.1,IntKind.wrap IntKind.i64 (y.2.1+(1:Int)),PUnit.unit)<Zm217_8 r y_1
       else Lf [DV.one (Cell.sl Cd.str y_1.1)] [DV.one (Cell.sl Cd.str (usedV r))]):=by kernel_rfl
theorem Zo217:Holds EE (217,Zk217):=by
 refine holds_of EE_ok Go.Proofs.Tryz.func217 Zk217 (by kernel_rfl) Zu217 (us_ok _) Za217 (fun(r:DRule) hp hb=> ?_)
 have hz0:=bd_eRule (x:=r) (hb _ m0)
 have hl_r_Name:=hz0.1
 have hl_r_Pats:=hz0.2.1
 have hl_r_Conds:=hz0.2.2.1
 have hl_r_Acts:=hz0.2.2.2
 have hp0:2*r.Conds.length+usedN r.Acts≤4294967295:=hp _ m0
 clear hp hb
 rw[Zv217 r]
 dsimp only
 refine⟨⟨rfl,by omega,by omega,rfl⟩,?_⟩
 rintro⟨v,i,⟨b1,b2,b3,b4,b5,⟨⟩⟩,⟨⟩⟩ ⟨hbx,h1,h2,rfl⟩
 cases hbx
 simp only
 refine if_dec (fun hc=> ?_) (fun hc=> ?_)
 ·have hs:=foldl_step usedC [] r.Conds zCond h1 hc
  have hl:=usedCs_len (r.Conds.take i.toNat) []
  have hl2:(r.Conds.take i.toNat).length≤i.toNat:=by rw[zaw];omega
  simp only[zbo] at hl
  rw[wrap_i64 (by omega) (by omega)]
  refine⟨by omega,by omega,by simp only[zbq,zbo];omega,⟨rfl,by omega,by omega,hs.symm⟩,by simp only[Zm217_3];omega⟩
 rw[take_all r.Conds (by omega)]
 have hl0:=usedCs_len r.Conds []
 simp only[zbo] at hl0
 refine⟨⟨by omega,by omega,rfl⟩,?_⟩
 rintro⟨v,i,⟨⟩⟩ ⟨g1,g2,rfl⟩
 simp only
 refine if_dec (fun hc=> ?_) (fun hc=> ?_)
 ·have hs:=foldl_step usedA (r.Conds.foldl usedC []) r.Acts zAct g1 hc
  have ha:=usedN_at r.Acts g1 hc
  have hl:=usedAs_len (r.Acts.take i.toNat) (r.Conds.foldl usedC [])
  refine⟨by omega,by omega,⟨rfl,by omega,by omega,rfl⟩,?_⟩
  rintro⟨v,i',k,⟨⟩⟩ ⟨rfl,k1,k2,rfl⟩
  simp only
  have hle:=usedE_len ((List.getD r.Acts i'.toNat zAct).Args.take k.toNat) ((r.Acts.take i'.toNat).foldl usedA (r.Conds.foldl usedC []))
  have hl2:((List.getD r.Acts i'.toNat zAct).Args.take k.toNat).length≤k.toNat:=by rw[zaw];omega
  refine if_dec (fun hk=> ?_) (fun hk=> ?_)
  ·have hf:=foldl_step usedE ((r.Acts.take i'.toNat).foldl usedA (r.Conds.foldl usedC [])) (List.getD r.Acts i'.toNat zAct).Args zExpr k1 hk
   rw[wrap_i64 (by omega) (by omega)]
   exact⟨by omega,by omega,by simp only[zbq,zbo];omega,⟨rfl,by omega,by omega,hf.symm⟩,by simp only[Zm217_11];omega⟩
  ·rw[wrap_i64 (by omega) (by omega)]
   refine⟨⟨by omega,by omega,?_⟩,by simp only[Zm217_8];omega⟩
   rw[hs,take_all (List.getD r.Acts i'.toNat zAct).Args (by omega)];rfl
 ·rw[take_all r.Acts (by omega)]
  exact Lf_rfl _
def Zh217:HH:=⟨_,Zo217⟩
def Zk166:Con UU where
 α:=DRule
 md:=[.ro]
 of:=o1 (oA .eRule)
 ds:=fun x=>[dA .eRule x]
 pre:=fun _=>[]
 res:=fun r=>⟨[.one (.lit (.bool (ruleOk r)))],true,[]⟩
 law:=l1 (lA .eRule)
def Zi166_6(r:DRule):Int×(ByteArray×Int×List DPat×List DCond×List DAct×Unit)×Unit→Prop:=fun(i,b,_)=>b=(r.Name,r.Sal,r.Pats,r.Conds,r.Acts,())∧0≤i∧i≤r.Conds.length∧(r.Conds.drop i.toNat).all kondOk=r.Conds.all kondOk
def Zm166_6(r:DRule):Int×(ByteArray×Int×List DPat×List DCond×List DAct×Unit)×Unit→Nat:=fun(i,b,_)=>r.Conds.length-i.toNat
def Zi166_12(r:DRule):Int×(ByteArray×Int×List DPat×List DCond×List DAct×Unit)×Unit→Prop:=fun(i,b,_)=>b=(r.Name,r.Sal,r.Pats,r.Conds,r.Acts,())∧0≤i∧i≤r.Acts.length∧(r.Acts.drop i.toNat).all (fun a=>actOk a&&dropIn (posN r.Pats) a)=r.Acts.all (fun a=>actOk a&&dropIn (posN r.Pats) a)
def Zm166_12(r:DRule):Int×(ByteArray×Int×List DPat×List DCond×List DAct×Unit)×Unit→Nat:=fun(i,b,_)=>r.Acts.length-i.toNat
def Zi166_19(r:DRule):Int×List ByteArray×List ByteArray×Unit→Prop:=fun(i,v,u,_)=>v=posVars r.Pats∧u=usedV r∧0≤i∧i≤(usedV r).length∧((usedV r).drop i.toNat).all (hasS (posVars r.Pats))=(usedV r).all (hasS (posVars r.Pats))
def Zm166_19(r:DRule):Int×List ByteArray×List ByteArray×Unit→Nat:=fun(i,v,u,_)=>(usedV r).length-i.toNat
def Za166:Zk166.α→Nat→Option (Ann UU):=fun r=>annL [(6,annOf [.slot 39 (39,1024) (.lit (.int .i64)),.box 1 (1,1024) [.lit .str,.lit (.int .i64),.shr .ePat,.shr .eCond,.shr .eAct]] (fun _=>Zi166_6 r) (Zm166_6 r)),(12,annOf [.slot 50 (50,1024) (.lit (.int .i64)),.box 1 (1,1024) [.lit .str,.lit (.int .i64),.shr .ePat,.shr .eCond,.shr .eAct]] (fun _=>Zi166_12 r) (Zm166_12 r)),(19,annOf [.slot 75 (75,1024) (.lit (.int .i64)),.slot 7 (7,1024) (.own .str true),.slot 73 (73,1024) (.own .str true)] (fun _=>Zi166_19 r) (Zm166_19 r))]
def Zu166:=us [Zh134,Zh104,Zh213,Zh214,Zh215,Zh175,Zh216,Zh217,Zh218]
theorem Zv166(r:DRule):goal EE Zu166 Go.Proofs.Tryz.f166 Zk166 Za166 r=(let x0:Int:=(r.Conds.length:Int);
bif !nameOk r.Name then Lf [DV.one (Cell.lit (Value.bool false))] [DV.one (Cell.lit (Value.bool (ruleOk r)))]
else
 bif !decide ((-100:Int)≤r.Sal∧r.Sal≤(100:Int)) then Lf [DV.one (Cell.lit (Value.bool false))] [DV.one (Cell.lit (Value.bool (ruleOk r)))]
 else
  bif !patsOkI r.Pats then Lf [DV.one (Cell.lit (Value.bool false))] [DV.one (Cell.lit (Value.bool (ruleOk r)))]
  else
   bif decide (x0>(6:Int)) then Lf [DV.one (Cell.lit (Value.bool false))] [DV.one (Cell.lit (Value.bool (ruleOk r)))]
   else
    bif !decide ((1:Int)≤(↑(List.length r.Acts):Int)∧(↑(List.length r.Acts):Int)≤(6:Int)) then Lf [DV.one (Cell.lit (Value.bool false))] [DV.one (Cell.lit (Value.bool (ruleOk r)))]
    else
     Zi166_6 r ((0:Int),(r.Name,r.Sal,r.Pats,r.Conds,r.Acts,PUnit.unit),PUnit.unit)∧
      ∀(y:Int×(ByteArray×Int×List DPat×List DCond×List DAct×PUnit)×PUnit),
       let x2:Nat:=List.length y.2.1.2.2.2.2.1;
       let x1:Int:=(↑x2:Int);
       Zi166_6 r y→
        bif decide (y.1<x0) then(0:Int)≤y.1∧Int.toNat y.1<List.length r.Conds∧bif !kondOk (List.getD r.Conds (Int.toNat y.1) zCond) then Lf [DV.one (Cell.lit (Value.bool false))] [DV.one (Cell.lit (Value.bool (ruleOk r)))] else Zi166_6 r (IntKind.wrap IntKind.i64 (y.1+(1:Int)),(y.2.1.1,y.2.1.2.1,y.2.1.2.2.1,y.2.1.2.2.2.1,y.2.1.2.2.2.2.1,PUnit.unit),PUnit.unit)∧Zm166_6 r (IntKind.wrap IntKind.i64 (y.1+(1:Int)),(y.2.1.1,y.2.1.2.1,y.2.1.2.2.1,y.2.1.2.2.2.1,y.2.1.2.2.2.2.1,PUnit.unit),PUnit.unit)<Zm166_6 r y
        else
         Zi166_12 r ((0:Int),(y.2.1.1,y.2.1.2.1,y.2.1.2.2.1,y.2.1.2.2.2.1,y.2.1.2.2.2.2.1,PUnit.unit),PUnit.unit)∧
          ∀(y_1:Int×(ByteArray×Int×List DPat×List DCond×List DAct×PUnit)×PUnit),
           let x4:List ByteArray:=usedV {Name:=y_1.2.1.1,Sal:=y_1.2.1.2.1,Pats:=y_1.2.1.2.2.1,Conds:=y_1.2.1.2.2.2.1,Acts:=y_1.2.1.2.2.2.2.1:DRule};
           let x5:DAct:=List.getD y.2.1.2.2.2.2.1 (Int.toNat y_1.1) zAct;
           let x6:Int:=(↑(posN y_1.2.1.2.2.1):Int);
           let x3:Int:=(↑(List.length x4):Int);
           Zi166_12 r y_1→bif decide (y_1.1<x1) then(0:Int)≤y_1.1∧Int.toNat y_1.1<x2∧bif !actOk x5 then Lf [DV.one (Cell.lit (Value.bool false))] [DV.one (Cell.lit (Value.bool (ruleOk r)))] else bif x5.Kind==(2:Int) then bif decide (x5.N≥x6) then Lf [DV.one (Cell.lit (Value.bool false))] [DV.one (Cell.lit (Value.bool (ruleOk r)))] else Zi166_12 r (IntKind.wrap IntKind.i64 (y_1.1+(1:Int)),(y_1.2.1.1,y_1.2.1.2.1,y_1.2.1.2.2.1,y_1.2.1.2.2.2.1,y_1.2.1.2.2.2.2.1,PUnit.unit),PUnit.unit)∧Zm166_12 r (IntKind.wrap IntKind.i64 (y_1.1+(1:Int)),(y_1.2.1.1,y_1.2.1.2.1,y_1.2.1.2.2.1,y_1.2.1.2.2.2.1,y_1.2.1.2.2.2.2.1,PUnit.unit),PUnit.unit)<Zm166_12 r y_1 else Zi166_12 r (IntKind.wrap IntKind.i64 (y_1.1+(1:Int)),(y_1.2.1.1,y_1.2.1.2.1,y_1.2.1.2.2.1,y_1.2.1.2.2.2.1,y_1.2.1.2.2.2.2.1,PUnit.unit),PUnit.unit)∧Zm166_12 r (IntKind.wrap IntKind.i64 (y_1.1+(1:Int)),(y_1.2.1.1,y_1.2.1.2.1,y_1.2.1.2.2.1,y_1.2.1.2.2.2.1,y_1.2.1.2.2.2.2.1,PUnit.unit),PUnit.unit)<Zm166_12 r y_1 else patArgs y_1.2.1.2.2.1≤(4294967295:Nat)∧(2:Nat)*List.length y_1.2.1.2.2.2.1+usedN y_1.2.1.2.2.2.2.1≤(4294967295:Nat)∧Zi166_19 r ((0:Int),posVars y_1.2.1.2.2.1,x4,PUnit.unit)∧∀(y:Int×List ByteArray×List ByteArray×PUnit),Zi166_19 r y→bif decide (y.1<x3) then(0:Int)≤y.1∧Int.toNat y.1<List.length y.2.2.1∧Int.toNat y.1<List.length y.2.2.1∧bif !hasS y.2.1 (List.getD y.2.2.1 (Int.toNat y.1) noBytes) then Lf [DV.one (Cell.lit (Value.bool false))] [DV.one (Cell.lit (Value.bool (ruleOk r)))] else Zi166_19 r (IntKind.wrap IntKind.i64 (y.1+(1:Int)),y.2.1,y.2.2.1,PUnit.unit)∧Zm166_19 r (IntKind.wrap IntKind.i64 (y.1+(1:Int)),y.2.1,y.2.2.1,PUnit.unit)<Zm166_19 r y else Lf [DV.one (Cell.lit (Value.bool true))] [DV.one (Cell.lit (Value.bool (ruleOk r)))]):=by kernel_rfl
theorem Zo166:Holds EE (166,Zk166):=by
 refine holds_of EE_ok Go.Proofs.Tryz.func166 Zk166 (by kernel_rfl) Zu166 (us_ok _) Za166 (fun(r:DRule) hp hb=> ?_)
 have hz0:=bd_eRule (x:=r) (hb _ m0)
 have hl_r_Name:=hz0.1
 have hl_r_Pats:=hz0.2.1
 have hl_r_Conds:=hz0.2.2.1
 have hl_r_Acts:=hz0.2.2.2
 clear hp hb
 rw[Zv166 r]
 dsimp only
 have hF:ruleOkI r=false→ruleOk r=false:=fun h=>by rw[←ruleOkI_eq];exact h
 refine if_not (fun a1=>Lf_ff (hF (by simp[ruleOkI,a1]))) (fun a1=>if_not (fun a2=>Lf_ff (hF (by simp only[ruleOkI,a2];simp))) (fun a2=>if_not (fun a3=>Lf_ff (hF ?_)) (fun a3=>if_dec (fun a4=>Lf_ff (hF ?_)) (fun a4=>if_not (fun a5=>Lf_ff (hF ?_)) (fun a5=> ?_)))))
 ·rw[patsOkI_eq] at a3;simp[ruleOkI,a3]
 ·simp only[ruleOkI];rw[decide_eq_false (p:=r.Conds.length≤6) (by omega)];simp
 ·have a5:=of_decide_eq_false a5
  simp only[ruleOkI];rw[decide_eq_false (p:=1≤r.Acts.length∧r.Acts.length≤6) (by omega)];simp
 rw[patsOkI_eq] at a3
 have a5:=of_decide_eq_true a5
 refine⟨⟨rfl,by omega,by omega,rfl⟩,?_⟩
 rintro⟨i,⟨b1,b2,b3,b4,b5,⟨⟩⟩,⟨⟩⟩ ⟨hbx,h1,h2,hR⟩
 cases hbx
 simp only
 refine if_dec (fun hc=> ?_) (fun hc=> ?_)
 ·rw[all_step _ _ zCond h1 (by omega)] at hR
  rw[wrap_i64 (by omega) (by omega)]
  refine⟨by omega,by omega,if_not (fun g=>Lf_ff (hF ?_)) (fun g=>⟨⟨rfl,by omega,by omega,?_⟩,by simp only[Zm166_6];omega⟩)⟩
  ·simp only[ruleOkI,←hR,g];simp
  ·rw[←hR,g];rfl
 rw[drop_end _ (by omega)] at hR
 have a6:r.Conds.all kondOk=true:=hR.symm
 refine⟨⟨rfl,by omega,by omega,rfl⟩,?_⟩
 rintro⟨i,⟨b1,b2,b3,b4,b5,⟨⟩⟩,⟨⟩⟩ ⟨hbx,g1,g2,gR⟩
 cases hbx
 simp only
 refine if_dec (fun hc=> ?_) (fun hc=> ?_)
 ·rw[all_step _ _ zAct g1 (by omega)] at gR
  rw[wrap_i64 (by omega) (by omega)]
  have hN:(actOk (List.getD r.Acts i.toNat zAct)&&dropIn (posN r.Pats) (List.getD r.Acts i.toNat zAct))=false→ruleOk r=false:=fun h=>hF (by simp only[ruleOkI,←gR,h];simp)
  have hgo:actOk (List.getD r.Acts i.toNat zAct)=true→dropIn (posN r.Pats) (List.getD r.Acts i.toNat zAct)=true→(r.Acts.drop (i+1).toNat).all (fun a=>actOk a&&dropIn (posN r.Pats) a)=r.Acts.all (fun a=>actOk a&&dropIn (posN r.Pats) a):=fun e1 e2=>by rw[←gR,e1,e2];rfl
  refine⟨by omega,by omega,if_not (fun ha=>Lf_ff (hN (by rw[ha];rfl))) (fun ha=>if_num (fun hk2=>if_dec (fun hp=>Lf_ff (hN ?_)) (fun hp=>⟨⟨rfl,by omega,by omega,hgo ha ?_⟩,by simp only[Zm166_12];omega⟩)) (fun hk2=>⟨⟨rfl,by omega,by omega,hgo ha ?_⟩,by simp only[Zm166_12];omega⟩))⟩
  ·simp only[dropIn,hk2,decide_eq_true (show(posN r.Pats:Int)≤(List.getD r.Acts i.toNat zAct).N from hp)];simp
  ·simp only[dropIn,decide_eq_false (show¬(posN r.Pats:Int)≤(List.getD r.Acts i.toNat zAct).N from hp)];simp
  ·simp only[dropIn,decide_eq_false hk2];simp
 rw[drop_end _ (by omega)] at gR
 have a7:r.Acts.all (fun a=>actOk a&&dropIn (posN r.Pats) a)=true:=gR.symm
 have hpa:=patsOk_args a3
 have hus:=actsOk_used (l:=r.Acts) (by omega) (fun a ha=>by
  have:=zcb.1 a7 a ha
  simp only[zaf] at this
  exact this.1)
 have hul:(usedV r).length≤2*r.Conds.length+usedN r.Acts:=by
  have q1:=usedAs_len r.Acts (r.Conds.foldl usedC [])
  have q2:=usedCs_len r.Conds []
  simp only[zbo] at q2
  simp only[usedV];omega
 refine⟨by omega,by omega,⟨rfl,rfl,by omega,by omega,rfl⟩,?_⟩
 rintro⟨i,v,u,⟨⟩⟩ ⟨rfl,rfl,k1,k2,kR⟩
 simp only
 refine if_dec (fun hk=> ?_) (fun hk=> ?_)
 ·rw[all_step _ _ noBytes k1 hk] at kR
  rw[wrap_i64 (by omega) (by omega)]
  have hk':i<(usedV r).length:=hk
  refine⟨by omega,by omega,by omega,if_not (fun g=>Lf_ff (hF ?_)) (fun g=>⟨⟨rfl,rfl,by omega,by omega,?_⟩,by simp only[Zm166_19];omega⟩)⟩
  ·simp only[ruleOkI,←kR,g];simp
  ·rw[←kR,g];rfl
 ·have hk':¬i<(usedV r).length:=hk
  rw[drop_end _ (by omega)] at kR
  refine Lf_tt ?_
  rw[←ruleOkI_eq]
  simp only[ruleOkI,a1,a2,a3,a6,a7,←kR,decide_eq_true (show r.Conds.length≤6 by omega),decide_eq_true (show 1≤r.Acts.length∧r.Acts.length≤6 by omega)];rfl
def Zh166:HH:=⟨_,Zo166⟩
def Zk73:Con UU where
 α:=(List DTask)
 md:=[.ro]
 of:=o1 (oL .eTask)
 ds:=fun x=>[dL .eTask x]
 pre:=fun l=>[sizeTaskS l≤4294967296]
 res:=fun l=>⟨[.one (.sl .eTask l)],true,[]⟩
 law:=l1 (lL .eTask)
def Zi73_3(l:(List DTask)):List DTask×Int×Unit→Prop:=fun(out,i,_)=>0≤i∧i≤l.length∧out=l.take i.toNat
def Zm73_3(l:(List DTask)):List DTask×Int×Unit→Nat:=fun(out,i,_)=>l.length-i.toNat
def Za73:Zk73.α→Nat→Option (Ann UU):=fun l=>annL [(3,annOf [.slot 3 (3,1024) (.own .eTask true),.slot 4 (4,1024) (.lit (.int .i64))] (fun _=>Zi73_3 l) (Zm73_3 l))]
def Zu73:=us [Zh145]
theorem Zv73(l:(List DTask)):goal EE Zu73 Go.Proofs.Tryz.f73 Zk73 Za73 l=(Zi73_3 l ([],(0:Int),())∧
 ∀(y:List DTask×Int×PUnit),
  let x2:Nat:=Int.toNat y.2.1;
  let x1:DTask:=List.getD l x2 zTask;
  let x0:List DTask:=[x1];
  Zi73_3 l y→bif decide (y.2.1<(↑(List.length l):Int)) then(0:Int)≤y.2.1∧x2<List.length l∧List.length x1.F.Fields≤(4294967296:Nat)∧List.length y.1+List.length x0≤(4294967296:Nat)∧Zi73_3 l (y.1++x0,IntKind.wrap IntKind.i64 (y.2.1+(1:Int)),PUnit.unit)∧Zm73_3 l (y.1++x0,IntKind.wrap IntKind.i64 (y.2.1+(1:Int)),PUnit.unit)<Zm73_3 l y else Lf [DV.one (Cell.sl Cd.eTask y.1)] [DV.one (Cell.sl Cd.eTask l)]):=by kernel_rfl
theorem Zo73:Holds EE (73,Zk73):=by
 refine holds_of EE_ok Go.Proofs.Tryz.func73 Zk73 (by kernel_rfl) Zu73 (us_ok _) Za73 (fun(l:(List DTask)) hp hb=> ?_)
 have hl_l:l.length≤9223372036854775807:=bdL (hb _ m0)
 have hp0:sizeTaskS l≤4294967296:=hp _ m0
 clear hp hb
 rw[Zv73 l]
 dsimp only
 refine⟨⟨by omega,by omega,by simp⟩,?_⟩
 rintro⟨out,i,⟨⟩⟩ ⟨h1,h2,rfl⟩
 simp only
 refine if_cond (fun hc=> ?_) (fun hc=> ?_)
 ·have hc:=of_decide_eq_true hc
  have hs:=sum_getD_le sizeTask l zTask h1 hc
  simp only[sizeTaskS] at hp0
  have hx:=hs
  simp only[sizeTask,sizeFact,sizeValS] at hx
  rw[take_step l zTask h1 hc,wrap_i64 (by omega) (by omega)]
  repeat' (first|refine And.intro (by omega) ?_|fail)
  refine⟨by simp;omega,⟨by omega,by omega,rfl⟩,by simp only[Zm73_3];omega⟩
 ·have hc:=of_decide_eq_false hc
  rw[take_all l (by omega)]
  exact Lf_rfl _
def Zh73:HH:=⟨_,Zo73⟩
def Zk96:Con UU where
 α:=(List DTask)
 md:=[.ro]
 of:=o1 (oL .eTask)
 ds:=fun x=>[dL .eTask x]
 pre:=fun l=>[sizeTaskS l≤4294967296]
 res:=fun l=>⟨[.one (.sl .eTask l)],true,[]⟩
 law:=l1 (lL .eTask)
def Zi96_3(l:(List DTask)):List DTask×Int×Unit→Prop:=fun(out,i,_)=>0≤i∧i≤l.length∧out=l.take i.toNat
def Zm96_3(l:(List DTask)):List DTask×Int×Unit→Nat:=fun(out,i,_)=>l.length-i.toNat
def Za96:Zk96.α→Nat→Option (Ann UU):=fun l=>annL [(3,annOf [.slot 3 (3,1024) (.own .eTask true),.slot 8 (8,1024) (.lit (.int .i64))] (fun _=>Zi96_3 l) (Zm96_3 l))]
def Zu96:=us [Zh164]
theorem Zv96(l:(List DTask)):goal EE Zu96 Go.Proofs.Tryz.f96 Zk96 Za96 l=(Zi96_3 l ([],(0:Int),())∧
 ∀(y:List DTask×Int×PUnit),
  let x2:Nat:=Int.toNat y.2.1;
  let x1:DTask:=List.getD l x2 zTask;
  let x0:List DTask:=[x1];
  Zi96_3 l y→bif decide (y.2.1<(↑(List.length l):Int)) then(0:Int)≤y.2.1∧x2<List.length l∧List.length x1.F.Fields≤(4294967296:Nat)∧List.length y.1+List.length x0≤(4294967296:Nat)∧Zi96_3 l (y.1++x0,IntKind.wrap IntKind.i64 (y.2.1+(1:Int)),PUnit.unit)∧Zm96_3 l (y.1++x0,IntKind.wrap IntKind.i64 (y.2.1+(1:Int)),PUnit.unit)<Zm96_3 l y else Lf [DV.one (Cell.sl Cd.eTask y.1)] [DV.one (Cell.sl Cd.eTask l)]):=by kernel_rfl
theorem Zo96:Holds EE (96,Zk96):=by
 refine holds_of EE_ok Go.Proofs.Tryz.func96 Zk96 (by kernel_rfl) Zu96 (us_ok _) Za96 (fun(l:(List DTask)) hp hb=> ?_)
 have hl_l:l.length≤9223372036854775807:=bdL (hb _ m0)
 have hp0:sizeTaskS l≤4294967296:=hp _ m0
 clear hp hb
 rw[Zv96 l]
 dsimp only
 refine⟨⟨by omega,by omega,by simp⟩,?_⟩
 rintro⟨out,i,⟨⟩⟩ ⟨h1,h2,rfl⟩
 simp only
 refine if_cond (fun hc=> ?_) (fun hc=> ?_)
 ·have hc:=of_decide_eq_true hc
  have hs:=sum_getD_le sizeTask l zTask h1 hc
  simp only[sizeTaskS] at hp0
  have hx:=hs
  simp only[sizeTask,sizeFact,sizeValS] at hx
  rw[take_step l zTask h1 hc,wrap_i64 (by omega) (by omega)]
  repeat' (first|refine And.intro (by omega) ?_|fail)
  refine⟨by simp;omega,⟨by omega,by omega,rfl⟩,by simp only[Zm96_3];omega⟩
 ·have hc:=of_decide_eq_false hc
  rw[take_all l (by omega)]
  exact Lf_rfl _
def Zh96:HH:=⟨_,Zo96⟩
def Zk109:Con UU where
 α:=DTask
 md:=[.ro]
 of:=o1 (oA .eTask)
 ds:=fun x=>[dA .eTask x]
 pre:=fun _=>[]
 res:=fun t=>⟨[.one (.lit (.bool (isOpen t)))],true,[]⟩
 law:=l1 (lA .eTask)
def Za109:Zk109.α→Nat→Option (Ann UU):=fun t=>annL []
def Zu109:List (FuncId×Con UU):=[]
theorem Zv109(t:DTask):goal EE Zu109 Go.Proofs.Tryz.f109 Zk109 Za109 t=(bif t.State==(1:Int) then Lb true (isOpen t) else Lb (t.State==(2:Int)) (isOpen t)):=by kernel_rfl
theorem Zo109:Holds EE (109,Zk109):=by
 refine holds_of EE_ok Go.Proofs.Tryz.func109 Zk109 (by kernel_rfl) Zu109 all_nil Za109 (fun(t:DTask) hp hb=> ?_)
 have hz0:=bd_eTask (x:=t) (hb _ m0)
 have hl_t_F_Kind:=hz0.1
 have hl_t_F_Fields:=hz0.2.1
 have hl_t_Undo:=hz0.2.2.1
 have hl_t_V_S:=hz0.2.2.2
 clear hp hb
 rw[Zv109 t]
 simp only[isOpen]
 refine if_cond (fun h=>Lf_b ?_) (fun h=>Lf_b ?_)<;>grind
def Zh109:HH:=⟨_,Zo109⟩
def Zk86:Con UU where
 α:=(List DTask)
 md:=[.ro]
 of:=o1 (oL .eTask)
 ds:=fun x=>[dL .eTask x]
 pre:=fun l=>[sizeTaskS l≤4294967296]
 res:=fun l=>⟨[.one (.sl .eTask (giveUp l))],true,[]⟩
 law:=l1 (lL .eTask)
def Zi86_3(l:(List DTask)):List DTask×Int×Unit→Prop:=fun(out,i,_)=>0≤i∧i≤l.length∧out=(l.map giveUp1).take i.toNat++l.drop i.toNat
def Zm86_3(l:(List DTask)):List DTask×Int×Unit→Nat:=fun(out,i,_)=>l.length-i.toNat
def Za86:Zk86.α→Nat→Option (Ann UU):=fun l=>annL [(3,annOf [.slot 3 (3,1024) (.own .eTask true),.slot 4 (4,1024) (.lit (.int .i64))] (fun _=>Zi86_3 l) (Zm86_3 l))]
def Zu86:=us [Zh73]
theorem Zv86(l:(List DTask)):goal EE Zu86 Go.Proofs.Tryz.f86 Zk86 Za86 l=(sizeTaskS l≤(4294967296:Nat)∧
 Zi86_3 l (l,(0:Int),PUnit.unit)∧
  ∀(y:List DTask×Int×PUnit),
   let x0:Nat:=Int.toNat y.2.1;
   Zi86_3 l y→bif decide (y.2.1<(↑(List.length y.1):Int)) then(0:Int)≤y.2.1∧x0<List.length y.1∧x0<List.length y.1∧bif (List.getD y.1 x0 zTask).State==(1:Int) then(0:Int)≤y.2.1∧x0<List.length y.1∧x0<List.length y.1∧Zi86_3 l (List.modify y.1 x0 fun(x:DTask)=>{F:=x.F,Undo:=x.Undo,State:=(4:Int),Tries:=x.Tries,Due:=x.Due,V:=x.V:DTask},IntKind.wrap IntKind.i64 (y.2.1+(1:Int)),PUnit.unit)∧Zm86_3 l (List.modify y.1 x0 fun(x:DTask)=>{F:=x.F,Undo:=x.Undo,State:=(4:Int),Tries:=x.Tries,Due:=x.Due,V:=x.V:DTask},IntKind.wrap IntKind.i64 (y.2.1+(1:Int)),PUnit.unit)<Zm86_3 l y else(0:Int)≤y.2.1∧x0<List.length y.1∧x0<List.length y.1∧bif (List.getD y.1 x0 zTask).State==(2:Int) then(0:Int)≤y.2.1∧x0<List.length y.1∧x0<List.length y.1∧Zi86_3 l (List.modify y.1 x0 fun(x:DTask)=>{F:=x.F,Undo:=x.Undo,State:=(4:Int),Tries:=x.Tries,Due:=x.Due,V:=x.V:DTask},IntKind.wrap IntKind.i64 (y.2.1+(1:Int)),PUnit.unit)∧Zm86_3 l (List.modify y.1 x0 fun(x:DTask)=>{F:=x.F,Undo:=x.Undo,State:=(4:Int),Tries:=x.Tries,Due:=x.Due,V:=x.V:DTask},IntKind.wrap IntKind.i64 (y.2.1+(1:Int)),PUnit.unit)<Zm86_3 l y else Zi86_3 l (y.1,IntKind.wrap IntKind.i64 (y.2.1+(1:Int)),PUnit.unit)∧Zm86_3 l (y.1,IntKind.wrap IntKind.i64 (y.2.1+(1:Int)),PUnit.unit)<Zm86_3 l y else Lf [DV.one (Cell.sl Cd.eTask y.1)] [DV.one (Cell.sl Cd.eTask (giveUp l))]):=by kernel_rfl
theorem Zo86:Holds EE (86,Zk86):=by
 refine holds_of EE_ok Go.Proofs.Tryz.func86 Zk86 (by kernel_rfl) Zu86 (us_ok _) Za86 (fun(l:(List DTask)) hp hb=> ?_)
 have hl_l:l.length≤9223372036854775807:=bdL (hb _ m0)
 have hp0:sizeTaskS l≤4294967296:=hp _ m0
 clear hp hb
 rw[Zv86 l]
 dsimp only
 refine⟨hp0,⟨by omega,by omega,by simp⟩,?_⟩
 rintro⟨out,i,⟨⟩⟩ ⟨h1,h2,rfl⟩
 have hl:=map_row giveUp1 l h1 h2
 simp only
 refine if_cond (fun hc=> ?_) (fun hc=> ?_)
 ·have hc:=of_decide_eq_true hc
  have hc:i<l.length:=by omega
  have hg:=mk_getD _ l zTask (map_tl giveUp1 l h1 h2) h1 hc
  rw[hg,wrap_i64 (by omega) (by omega),hl]
  repeat' (first|refine And.intro (by omega) ?_|refine if_cond (fun h=> ?_) (fun h=> ?_)|fail)
  all_goals first
   |(rw[map_mod giveUp1 l zTask _ h1 hc (by simp only[giveUp1];grind)];exact⟨⟨by omega,by omega,rfl⟩,by simp only[Zm86_3];omega⟩)
   |(have hs:=map_skip giveUp1 l zTask h1 hc (by simp only[giveUp1];grind);exact⟨⟨by omega,by omega,hs⟩,by simp only[Zm86_3];omega⟩)
 ·have hc:=of_decide_eq_false hc
  rw[map_done giveUp1 l (by omega)]
  exact Lf_rfl _
def Zh86:HH:=⟨_,Zo86⟩
def Zk178:Con UU where
 α:=(List DTask)
 md:=[.ro]
 of:=o1 (oL .eTask)
 ds:=fun x=>[dL .eTask x]
 pre:=fun l=>[sizeTaskS l≤4294967296]
 res:=fun l=>⟨[.one (.sl .eTask (giveUp l))],true,[]⟩
 law:=l1 (lL .eTask)
def Zi178_3(l:(List DTask)):List DTask×Int×Unit→Prop:=fun(out,i,_)=>0≤i∧i≤l.length∧out=(l.map giveUp1).take i.toNat++l.drop i.toNat
def Zm178_3(l:(List DTask)):List DTask×Int×Unit→Nat:=fun(out,i,_)=>l.length-i.toNat
def Za178:Zk178.α→Nat→Option (Ann UU):=fun l=>annL [(3,annOf [.slot 3 (3,1024) (.own .eTask true),.slot 9 (9,1024) (.lit (.int .i64))] (fun _=>Zi178_3 l) (Zm178_3 l))]
def Zu178:=us [Zh96,Zh109]
theorem Zv178(l:(List DTask)):goal EE Zu178 Go.Proofs.Tryz.f178 Zk178 Za178 l=(sizeTaskS l≤(4294967296:Nat)∧
 Zi178_3 l (l,(0:Int),PUnit.unit)∧
  ∀(y:List DTask×Int×PUnit),
   let x0:Nat:=Int.toNat y.2.1;
   Zi178_3 l y→bif decide (y.2.1<(↑(List.length l):Int)) then(0:Int)≤y.2.1∧x0<List.length y.1∧x0<List.length y.1∧x0<List.length y.1∧bif isOpen (List.getD y.1 x0 zTask) then(0:Int)≤y.2.1∧x0<List.length y.1∧x0<List.length y.1∧Zi178_3 l (List.modify y.1 x0 fun(x:DTask)=>{F:=x.F,Undo:=x.Undo,State:=(4:Int),Tries:=x.Tries,Due:=x.Due,V:=x.V:DTask},IntKind.wrap IntKind.i64 (y.2.1+(1:Int)),PUnit.unit)∧Zm178_3 l (List.modify y.1 x0 fun(x:DTask)=>{F:=x.F,Undo:=x.Undo,State:=(4:Int),Tries:=x.Tries,Due:=x.Due,V:=x.V:DTask},IntKind.wrap IntKind.i64 (y.2.1+(1:Int)),PUnit.unit)<Zm178_3 l y else Zi178_3 l (y.1,IntKind.wrap IntKind.i64 (y.2.1+(1:Int)),PUnit.unit)∧Zm178_3 l (y.1,IntKind.wrap IntKind.i64 (y.2.1+(1:Int)),PUnit.unit)<Zm178_3 l y else Lf [DV.one (Cell.sl Cd.eTask y.1)] [DV.one (Cell.sl Cd.eTask (giveUp l))]):=by kernel_rfl
theorem Zo178:Holds EE (178,Zk178):=by
 refine holds_of EE_ok Go.Proofs.Tryz.func178 Zk178 (by kernel_rfl) Zu178 (us_ok _) Za178 (fun(l:(List DTask)) hp hb=> ?_)
 have hl_l:l.length≤9223372036854775807:=bdL (hb _ m0)
 have hp0:sizeTaskS l≤4294967296:=hp _ m0
 clear hp hb
 rw[Zv178 l]
 dsimp only
 refine⟨hp0,⟨by omega,by omega,by simp⟩,?_⟩
 rintro⟨out,i,⟨⟩⟩ ⟨h1,h2,rfl⟩
 have hl:=map_row giveUp1 l h1 h2
 simp only
 refine if_cond (fun hc=> ?_) (fun hc=> ?_)
 ·have hc:=of_decide_eq_true hc
  have hc:i<l.length:=by omega
  have hg:=mk_getD _ l zTask (map_tl giveUp1 l h1 h2) h1 hc
  rw[hg,wrap_i64 (by omega) (by omega),hl]
  have hio:isOpen (List.getD l i.toNat zTask)=decide ((List.getD l i.toNat zTask).State=1∨(List.getD l i.toNat zTask).State=2):=rfl
  rw[hio]
  repeat' (first|refine And.intro (by omega) ?_|refine if_cond (fun h=> ?_) (fun h=> ?_)|fail)
  all_goals first
   |(rw[map_mod giveUp1 l zTask _ h1 hc (by simp only[giveUp1];grind)];exact⟨⟨by omega,by omega,rfl⟩,by simp only[Zm178_3];omega⟩)
   |(have hs:=map_skip giveUp1 l zTask h1 hc (by simp only[giveUp1];grind);exact⟨⟨by omega,by omega,hs⟩,by simp only[Zm178_3];omega⟩)
 ·have hc:=of_decide_eq_false hc
  rw[map_done giveUp1 l (by omega)]
  exact Lf_rfl _
def Zh178:HH:=⟨_,Zo178⟩
def Zk83:Con UU where
 α:=DInst
 md:=[.ro]
 of:=o1 (oA .eInst)
 ds:=fun x=>[dA .eInst x]
 pre:=fun _=>[]
 res:=fun x=>⟨[.one (.lit (.bool (decide (x.State=2∨x.State=4∨x.State=6))))],true,[]⟩
 law:=l1 (lA .eInst)
def Za83:Zk83.α→Nat→Option (Ann UU):=fun x=>annL []
def Zu83:List (FuncId×Con UU):=[]
theorem Zv83(x:DInst):goal EE Zu83 Go.Proofs.Tryz.f83 Zk83 Za83 x=(bif x.State==(2:Int) then Lb true (decide (x.State=(2:Int)∨x.State=(4:Int)∨x.State=(6:Int))) else bif x.State==(4:Int) then Lb true (decide (x.State=(2:Int)∨x.State=(4:Int)∨x.State=(6:Int))) else Lb (x.State==(6:Int)) (decide (x.State=(2:Int)∨x.State=(4:Int)∨x.State=(6:Int)))):=by kernel_rfl
theorem Zo83:Holds EE (83,Zk83):=by
 refine holds_of EE_ok Go.Proofs.Tryz.func83 Zk83 (by kernel_rfl) Zu83 all_nil Za83 (fun(x:DInst) hp hb=> ?_)
 have hz0:=bd_eInst (x:=x) (hb _ m0)
 have hl_x_S_Items:=hz0.1
 have hl_x_Fired:=hz0.2.1
 have hl_x_Tasks:=hz0.2.2.1
 have hl_x_Timers:=hz0.2.2.2.1
 have hl_x_Undos:=hz0.2.2.2.2
 clear hp hb
 rw[Zv83 x]
 repeat' (refine if_cond (fun h=> ?_) (fun h=> ?_))
 all_goals (refine Lf_b ?_;grind)
def Zh83:HH:=⟨_,Zo83⟩
def Zk107:Con UU where
 α:=DInst
 md:=[.ro]
 of:=o1 (oA .eInst)
 ds:=fun x=>[dA .eInst x]
 pre:=fun _=>[]
 res:=fun x=>⟨[.one (.lit (.bool (decide (x.State=2∨x.State=4∨x.State=6))))],true,[]⟩
 law:=l1 (lA .eInst)
def Za107:Zk107.α→Nat→Option (Ann UU):=fun x=>annL []
def Zu107:List (FuncId×Con UU):=[]
theorem Zv107(x:DInst):goal EE Zu107 Go.Proofs.Tryz.f107 Zk107 Za107 x=(bif x.State==(2:Int) then Lb true (decide (x.State=(2:Int)∨x.State=(4:Int)∨x.State=(6:Int))) else bif x.State==(4:Int) then Lb true (decide (x.State=(2:Int)∨x.State=(4:Int)∨x.State=(6:Int))) else Lb (x.State==(6:Int)) (decide (x.State=(2:Int)∨x.State=(4:Int)∨x.State=(6:Int)))):=by kernel_rfl
theorem Zo107:Holds EE (107,Zk107):=by
 refine holds_of EE_ok Go.Proofs.Tryz.func107 Zk107 (by kernel_rfl) Zu107 all_nil Za107 (fun(x:DInst) hp hb=> ?_)
 have hz0:=bd_eInst (x:=x) (hb _ m0)
 have hl_x_S_Items:=hz0.1
 have hl_x_Fired:=hz0.2.1
 have hl_x_Tasks:=hz0.2.2.1
 have hl_x_Timers:=hz0.2.2.2.1
 have hl_x_Undos:=hz0.2.2.2.2
 clear hp hb
 rw[Zv107 x]
 repeat' (refine if_cond (fun h=> ?_) (fun h=> ?_))
 all_goals (refine Lf_b ?_;grind)
def Zh107:HH:=⟨_,Zo107⟩
def daRule(x:DRule):DA UU:=⟨true,[.lit (.string x.Name),.lit (.int .i64 x.Sal),.sl .ePat x.Pats,.sl .eCond x.Conds,.sl .eAct x.Acts]⟩
def ruleAt(l:List DRule)(name:ByteArray):Int:=idxI l.length fun k=>decide ((List.getD l k zRule).Name=name)
def defAtR(l:List DRule)(i:Nat):Bool:=ruleOk (List.getD l i zRule)&&decide (ruleAt l (List.getD l i zRule).Name=i)
def defOk(d:DDef):Bool:=nameOk d.Name&&decide (1≤d.Rules.length∧d.Rules.length≤12)&&allI d.Rules.length (defAtR d.Rules)
theorem rule_size{l:List DRule}{i:Int}(h0:0≤i)(h:i<l.length):patArgs (List.getD l i.toNat zRule).Pats≤sizeRuleS l:=by
 have hs:=sum_getD_le sizeRule l zRule h0 h
 have hp:=patArgs_size (List.getD l i.toNat zRule).Pats
 simp only[sizeRule] at hs
 simp only[sizeRuleS,sizeRule];omega
def idAt(l:List DItem)(f:DFact):Int:=idxI l.length fun k=>decide ((List.getD l k zItem).F=f)
def idOf(l:List DItem)(f:DFact):Int:=if idAt l f= -1 then 0 else(List.getD l (idAt l f).toNat zItem).Id
def placeId(l:List DItem)(id:Int):Int:=idxI l.length fun k=>decide ((List.getD l k zItem).Id=id)
def factOf(l:List DItem)(id:Int):DFact:=if placeId l id= -1 then zFact else(List.getD l (placeId l id).toNat zItem).F
def hasId(l:List DItem)(id:Int):Bool:=anyI l.length fun k=>decide ((List.getD l k zItem).Id=id)
def baseAt(s:DStore)(i:Nat):Bool:=factOk (List.getD s.Items i zItem).F&&decide (1≤(List.getD s.Items i zItem).Id)&&decide ((List.getD s.Items i zItem).Id<s.Next)&& !(decide (0<i)&&decide ((List.getD s.Items i zItem).Id≤(List.getD s.Items (i-1) zItem).Id))
def itemAt(s:DStore)(i:Nat):Bool:=baseAt s i&&decide (idOf s.Items (List.getD s.Items i zItem).F=(List.getD s.Items i zItem).Id)
def itemAtI(s:DStore)(i:Nat):Bool:=baseAt s i&& !(anyI i fun k=>decide ((List.getD s.Items i zItem).F=(List.getD s.Items k zItem).F))
def storeOk(s:DStore):Bool:=decide (1≤s.Next∧s.Next≤1000000)&&decide (s.Items.length≤40)&&allI s.Items.length (itemAt s)
theorem base_ids{s:DStore}(h:∀i,i<s.Items.length→baseAt s i=true):∀j i,j<i→i<s.Items.length→(List.getD s.Items j zItem).Id<(List.getD s.Items i zItem).Id:=by
 intro j i hij hi
 have step:∀m,m+1<s.Items.length→(List.getD s.Items m zItem).Id<(List.getD s.Items (m+1) zItem).Id:=fun m hm=>by
  have:=h (m+1) hm
  simp only[baseAt,zaf,zbd,Bool.and_eq_false_iff,decide_eq_false_iff_not,decide_eq_true_eq,Nat.add_sub_cancel] at this
  have:=this.2
  omega
 obtain⟨k,rfl⟩:∃k,i=j+1+k:=⟨i-j-1,by omega⟩
 clear hij
 induction k with
 |zero=>exact step j hi
 |succ k ih=>exact Int.lt_trans (ih (by omega)) (step (j+1+k) hi)
theorem store_same(s:DStore):allI s.Items.length (itemAtI s)=allI s.Items.length (itemAt s):=by
 rw[zcm,allI_all,allI_all]
 have hfst:∀i,i<s.Items.length→∃m,m≤i∧idAt s.Items (List.getD s.Items i zItem).F=(m:Int)∧(List.getD s.Items m zItem).F=(List.getD s.Items i zItem).F∧∀j,j<m→¬(List.getD s.Items j zItem).F=(List.getD s.Items i zItem).F:=by
  intro i hi
  rcases idxI_cases s.Items.length (fun k=>decide ((List.getD s.Items k zItem).F=(List.getD s.Items i zItem).F)) with⟨_,h2⟩|⟨m,g1,g2,g3,g4⟩
  ·have:=h2 i hi;simp at this
  ·refine⟨m,?_,g2,of_decide_eq_true g3,fun j hj=>of_decide_eq_false (g4 j hj)⟩
   rcases zba i m with g|g
   ·have:=g4 i g;simp at this
   ·exact g
 have hid:∀i m:Nat,idAt s.Items (List.getD s.Items i zItem).F=(m:Int)→idOf s.Items (List.getD s.Items i zItem).F=(List.getD s.Items m zItem).Id:=fun i m h=>by
  rw[idOf,h,if_neg (by omega)];simp
 constructor
 ·intro h i hi
  have hi2:=h i hi
  simp only[itemAtI,zaf,zbd] at hi2
  obtain⟨m,m1,m2,m3,m4⟩:=hfst i hi
  have:m=i:=by
   rcases zba m i with g|g
   ·have:=anyI_not.1 hi2.2 m g
    exact absurd m3.symm (of_decide_eq_false this)
   ·omega
  subst this
  simp only[itemAt,hi2.1,hid m m m2,decide_true,zdb]
 ·intro h i hi
  have hb:∀i,i<s.Items.length→baseAt s i=true:=fun i hi=>by
   have:=h i hi
   simp only[itemAt,zaf] at this
   exact this.1
  have hi2:=h i hi
  simp only[itemAt,zaf,decide_eq_true_eq] at hi2
  have hno:(anyI i fun k=>decide ((List.getD s.Items i zItem).F=(List.getD s.Items k zItem).F))=false:=anyI_false fun k hk=>decide_eq_false fun e=>by
   obtain⟨m,m1,m2,m3,m4⟩:=hfst i hi
   have hmk:m≤k:=by
    rcases zba k m with g|g
    ·exact absurd e.symm (m4 k g)
    ·exact g
   have:=base_ids hb m i (by omega) hi
   rw[hid i m m2] at hi2
   omega
  simp only[itemAtI,hi2.1,hno];rfl
def hasR(d:DDef)(m:DMatch):Bool:=decide (0≤m.Rule)&&decide (m.Rule<(d.Rules.length:Int))
def firedM(d:DDef)(s:List DItem)(m:DMatch):Bool:=hasR d m&&decide (m.Binds.length=0)&&decide (m.Ids.length=posN (List.getD d.Rules m.Rule.toNat zRule).Pats)&&m.Ids.all (hasId s)
def firedOk(d:DDef)(x:DInst):Bool:=decide (x.Fired.length≤1000)&&x.Fired.all (firedM d x.S.Items)
def liveT(l:List DTask):Bool:=anyI l.length fun k=>isOpen (List.getD l k zTask)
def endedX(x:DInst):Bool:=decide (x.State=2∨x.State=4∨x.State=6)
def undoingX(x:DInst):Bool:=decide (x.State=3)||decide (x.State=5)
def instOk(d:DDef)(x:DInst):Bool:=defOk d&&storeOk x.S&&tasksOk x.Tasks&&timersOk x.Timers&&undosOk x.Undos&&decide (1≤x.State∧x.State≤6)&&decide (0≤x.Now∧x.Now≤1000000000)&&firedOk d x&& !(endedX x&&(liveT x.Tasks||decide (0<x.Timers.length)))&&(!undoingX x||decide (0<x.Undos.length))
def Zk219:Con UU where
 α:=(List DRule)×(List (DA UU)→Option Value)
 md:=[.ro,.ro]
 of:=oC (oL .eRule) (o1 oF)
 ds:=fun x=>[dL .eRule x.1,dF x.2]
 pre:=fun(l,p)=>[∀j:Nat,j<l.length→p [daRule (List.getD l j zRule)]=some (.bool (boolOf (p [daRule (List.getD l j zRule)])))]
 res:=fun(l,p)=>⟨[.one (.lit (.int .i64 (idxI l.length (fun j=>boolOf (p [daRule (List.getD l j zRule)])))))],true,[]⟩
 law:=lC (lL .eRule) (l1 lF)
def Zi219_2(l:(List DRule))(p:(List (DA UU)→Option Value)):Int×Unit→Prop:=fun(i,_)=>0≤i∧i≤l.length∧∀j:Nat,(j:Int)<i→boolOf (p [daRule (List.getD l j zRule)])=false
def Zm219_2(l:(List DRule))(p:(List (DA UU)→Option Value)):Int×Unit→Nat:=fun(i,_)=>l.length-i.toNat
def Za219:Zk219.α→Nat→Option (Ann UU):=fun(l,p)=>annL [(2,annOf [.slot 8 (8,1024) (.lit (.int .i64))] (fun _=>Zi219_2 l p) (Zm219_2 l p))]
def Zu219:List (FuncId×Con UU):=[]
theorem Zv219(l:(List DRule))(p:(List (DA UU)→Option Value)):goal EE Zu219 Go.Proofs.Tryz.f219 Zk219 Za219 (l,p)=(Zi219_2 l p ((0:Int),())∧
 ∀(y:Int×PUnit),
  let x1:DRule:=List.getD l (Int.toNat y.1) zRule;
  let x0:Bool:=boolOf (p [{agg:=true,cs:=[Cell.lit (Value.string x1.Name),Cell.lit (Value.int IntKind.i64 x1.Sal),Cell.sl Cd.ePat x1.Pats,Cell.sl Cd.eCond x1.Conds,Cell.sl Cd.eAct x1.Acts]:DA UU}]);
  Zi219_2 l p y→bif decide (y.1<(↑(List.length l):Int)) then(0:Int)≤y.1∧Int.toNat y.1<List.length l∧p [{agg:=true,cs:=[Cell.lit (Value.string x1.Name),Cell.lit (Value.int IntKind.i64 x1.Sal),Cell.sl Cd.ePat x1.Pats,Cell.sl Cd.eCond x1.Conds,Cell.sl Cd.eAct x1.Acts]:DA UU}]=some (Value.bool x0)∧bif x0 then Lf [DV.one (Cell.lit (Value.int IntKind.i64 y.1))] [DV.one (Cell.lit (Value.int IntKind.i64 (idxI (List.length l) fun(j:Nat)=>boolOf (p [daRule (List.getD l j zRule)]))))] else Zi219_2 l p (IntKind.wrap IntKind.i64 (y.1+(1:Int)),PUnit.unit)∧Zm219_2 l p (IntKind.wrap IntKind.i64 (y.1+(1:Int)),PUnit.unit)<Zm219_2 l p y else Lf [DV.one (Cell.lit (Value.int IntKind.i64 (-1:Int)))] [DV.one (Cell.lit (Value.int IntKind.i64 (idxI (List.length l) fun(j:Nat)=>boolOf (p [daRule (List.getD l j zRule)]))))]):=by kernel_rfl
theorem Zo219:Holds EE (219,Zk219):=by
 refine holds_of EE_ok Go.Proofs.Tryz.func219 Zk219 (by kernel_rfl) Zu219 all_nil Za219 (fun x hp hb=> ?_)
 obtain⟨l,p⟩:=x
 have hl_l:l.length≤9223372036854775807:=bdL (hb _ m0)
 have hp0:∀j:Nat,j<l.length→p [daRule (List.getD l j zRule)]=some (.bool (boolOf (p [daRule (List.getD l j zRule)]))):=hp _ m0
 clear hp hb
 rw[Zv219 l p]
 dsimp only
 refine⟨⟨by omega,by omega,by intro j hj;omega⟩,?_⟩
 rintro⟨i,⟨⟩⟩ ⟨h1,h2,hR⟩
 simp only[daRule] at*
 refine if_cond (fun hc=> ?_) (fun hc=> ?_)
 ·have hc:=of_decide_eq_true hc
  rw[wrap_i64 (by omega) (by omega)]
  refine⟨by omega,by omega,hp0 i.toNat (by omega),if_cond (fun h=>Lf_i ?_) (fun h=>⟨⟨by omega,by omega,upto_no (p:=fun j=>boolOf (p [daRule (List.getD l j zRule)])) h1 hR h⟩,by simp only[Zm219_2];omega⟩)⟩
  rw[idxI_found (i:=i.toNat) (by omega) h (fun j hj=>hR j (by omega))]
  omega
 ·have hc:=of_decide_eq_false hc
  exact Lf_i (idxI_none (fun j hj=>hR j (by omega))).symm
def Zh219:HH:=⟨_,Zo219⟩
def Zk220:Con UU where
 α:=DRule×ByteArray
 md:=[.ro,.ro]
 of:=fun|[.agg [.lit (.string a0),.lit (.int .i64 a1),.sl .ePat a2,.sl .eCond a3,.sl .eAct a4],.ptr [.lit (.string a5)]]=>some (⟨a0,a1,a2,a3,a4⟩,a5)|_=>none
 ds:=fun(r,name)=>[.agg [.lit (.string r.Name),.lit (.int .i64 r.Sal),.sl .ePat r.Pats,.sl .eCond r.Conds,.sl .eAct r.Acts],.ptr [.lit (.string name)]]
 pre:=fun(r,name)=>[]
 res:=fun(r,name)=>⟨[.one (.lit (.bool (decide (r.Name=name))))],true,[]⟩
 law:=by intro l x h;(try simp only at h);split at h<;>cases h;rfl
def Za220:Zk220.α→Nat→Option (Ann UU):=fun(r,name)=>annL []
def Zu220:List (FuncId×Con UU):=[]
theorem Zv220(r:DRule)(name:ByteArray):goal EE Zu220 Go.Proofs.Tryz.f220 Zk220 Za220 (r,name)=(Lb (ByteArray.toList r.Name==ByteArray.toList name) (decide (r.Name=name))):=by kernel_rfl
theorem Zo220:Holds EE (220,Zk220):=by
 refine holds_of EE_ok Go.Proofs.Tryz.func220 Zk220 (by kernel_rfl) Zu220 all_nil Za220 (fun x hp hb=> ?_)
 obtain⟨r,name⟩:=x
 have hb_r:BdDV (U:=UU) (.agg [.lit (.string r.Name),.lit (.int .i64 r.Sal),.sl .ePat r.Pats,.sl .eCond r.Conds,.sl .eAct r.Acts]):=hb _ (zab)
 have hl_r_Name:r.Name.size≤9223372036854775807:=Bd.str (hb_r _ (by simp))
 have hl_r_Pats:r.Pats.length≤9223372036854775807:=Bd.len (U:=UU) (τ:=.ePat) (xs:=r.Pats) (hb_r _ (by simp))
 have hl_r_Conds:r.Conds.length≤9223372036854775807:=Bd.len (U:=UU) (τ:=.eCond) (xs:=r.Conds) (hb_r _ (by simp))
 have hl_r_Acts:r.Acts.length≤9223372036854775807:=Bd.len (U:=UU) (τ:=.eAct) (xs:=r.Acts) (hb_r _ (by simp))
 have hb_name:BdDV (U:=UU) (.ptr [.lit (.string name)]):=hb _ (zaa _ (zab))
 have hl_name:name.size≤9223372036854775807:=Bd.str (hb_name _ (by simp))
 clear hp hb
 rw[Zv220 r name]
 rw[toList_beq]
 exact Lf_rfl _
def Zh220:HH:=⟨_,Zo220⟩
def Zk167:Con UU where
 α:=DDef×ByteArray
 md:=[.ro,.ro]
 of:=oC (oA .eDef) (o1 oS)
 ds:=fun x=>[dA .eDef x.1,dS x.2]
 pre:=fun _=>[]
 res:=fun(d,name)=>⟨[.one (.lit (.int .i64 (ruleAt d.Rules name)))],true,[]⟩
 law:=lC (lA .eDef) (l1 lS)
def Za167:Zk167.α→Nat→Option (Ann UU):=fun(d,name)=>annL []
def Zu167:=us [Zh219,Zh220]
theorem Zv167(d:DDef)(name:ByteArray):goal EE Zu167 Go.Proofs.Tryz.f167 Zk167 Za167 (d,name)=((∀(j:Nat),j<d.Rules.length→closP Zk220 [DV.ptr [Cell.lit (Value.string name)]] [daRule (List.getD d.Rules j zRule)]=some (Value.bool (boolOf (closP Zk220 [DV.ptr [Cell.lit (Value.string name)]] [daRule (List.getD d.Rules j zRule)]))))∧Li (idxI (d.Rules.length) fun(j:Nat)=>boolOf (closP Zk220 [DV.ptr [Cell.lit (Value.string name)]] [daRule (List.getD d.Rules j zRule)])) (ruleAt d.Rules name)):=by kernel_rfl
theorem Zo167:Holds EE (167,Zk167):=by
 refine holds_of EE_ok Go.Proofs.Tryz.func167 Zk167 (by kernel_rfl) Zu167 (us_ok _) Za167 (fun x hp hb=> ?_)
 obtain⟨d,name⟩:=x
 have hz0:=bd_eDef (x:=d) (hb _ m0)
 have hl_d_Name:=hz0.1
 have hl_d_Rules:=hz0.2
 have hl_name:=bdS (s:=name) (hb _ m1)
 clear hp hb
 rw[Zv167 d name]
 have hc:∀x:DRule,closP Zk220 [.ptr [.lit (.string name)]] [daRule x]=some (.bool (decide (x.Name=name))):=fun x=>closP_of (x:=(x,name)) rfl rfl rfl rfl (by simp[Zk220])
 refine⟨fun j hj=> ?_,Lf_i ?_⟩
 ·show closP Zk220 [.ptr [.lit (.string name)]] [daRule (List.getD d.Rules j zRule)]=_
  rw[hc];rfl
 ·exact idxI_congr fun j hj=>by
   show boolOf (closP Zk220 [.ptr [.lit (.string name)]] [daRule (List.getD d.Rules j zRule)])=_
   rw[hc];rfl
def Zh167:HH:=⟨_,Zo167⟩
def Zk147:Con UU where
 α:=DDef×ByteArray
 md:=[.ro,.ro]
 of:=oC (oA .eDef) (o1 oS)
 ds:=fun x=>[dA .eDef x.1,dS x.2]
 pre:=fun _=>[]
 res:=fun(d,name)=>⟨[.one (.lit (.int .i64 (ruleAt d.Rules name)))],true,[]⟩
 law:=lC (lA .eDef) (l1 lS)
def Zi147_2(d:DDef)(name:ByteArray):Int×(ByteArray×List DRule×Unit)×Unit→Prop:=fun(i,fb,_)=>fb=(d.Name,d.Rules,())∧0≤i∧i≤d.Rules.length∧∀j:Nat,(j:Int)<i→decide ((List.getD d.Rules j zRule).Name=name)=false
def Zm147_2(d:DDef)(name:ByteArray):Int×(ByteArray×List DRule×Unit)×Unit→Nat:=fun(i,fb,_)=>d.Rules.length-i.toNat
def Za147:Zk147.α→Nat→Option (Ann UU):=fun(d,name)=>annL [(2,annOf [.slot 5 (5,1024) (.lit (.int .i64)),.box 2 (2,1024) [.lit .str,.shr .eRule]] (fun _=>Zi147_2 d name) (Zm147_2 d name))]
def Zu147:List (FuncId×Con UU):=[]
theorem Zv147(d:DDef)(name:ByteArray):goal EE Zu147 Go.Proofs.Tryz.f147 Zk147 Za147 (d,name)=(Zi147_2 d name ((0:Int),(d.Name,d.Rules,()),())∧
 ∀(y:Int×(ByteArray×List DRule×PUnit)×PUnit),
  let x1:Nat:=List.length y.2.1.2.1;
  let x0:Int:=(↑x1:Int);
  Zi147_2 d name y→bif decide (y.1<x0) then(0:Int)≤y.1∧Int.toNat y.1<x1∧bif ByteArray.toList (List.getD y.2.1.2.1 (Int.toNat y.1) zRule).Name==ByteArray.toList name then Lf [DV.one (Cell.lit (Value.int IntKind.i64 y.1))] [DV.one (Cell.lit (Value.int IntKind.i64 (ruleAt d.Rules name)))] else Zi147_2 d name (IntKind.wrap IntKind.i64 (y.1+(1:Int)),(y.2.1.1,y.2.1.2.1,PUnit.unit),PUnit.unit)∧Zm147_2 d name (IntKind.wrap IntKind.i64 (y.1+(1:Int)),(y.2.1.1,y.2.1.2.1,PUnit.unit),PUnit.unit)<Zm147_2 d name y else Lf [DV.one (Cell.lit (Value.int IntKind.i64 (-1:Int)))] [DV.one (Cell.lit (Value.int IntKind.i64 (ruleAt d.Rules name)))]):=by kernel_rfl
theorem Zo147:Holds EE (147,Zk147):=by
 refine holds_of EE_ok Go.Proofs.Tryz.func147 Zk147 (by kernel_rfl) Zu147 all_nil Za147 (fun x hp hb=> ?_)
 obtain⟨d,name⟩:=x
 have hz0:=bd_eDef (x:=d) (hb _ m0)
 have hl_d_Name:=hz0.1
 have hl_d_Rules:=hz0.2
 have hl_name:=bdS (s:=name) (hb _ m1)
 clear hp hb
 rw[Zv147 d name]
 dsimp only
 refine⟨⟨rfl,by omega,by omega,by intro j hj;omega⟩,?_⟩
 rintro⟨i,fb,⟨⟩⟩ ⟨rfl,h1,h2,hR⟩
 simp only
 refine if_cond (fun hc=> ?_) (fun hc=> ?_)
 ·have hc:i<d.Rules.length:=of_decide_eq_true hc
  simp(disch:=omega) only[wrap_i64,toList_beq]
  refine⟨by omega,by omega,if_cond (fun h=>Lf_i ?_) (fun h=>⟨⟨rfl,by omega,by omega,upto_no (p:=fun j=>decide ((List.getD d.Rules j zRule).Name=name)) h1 hR h⟩,by simp only[Zm147_2];omega⟩)⟩
  rw[ruleAt,idxI_found (i:=i.toNat) (by omega) h (fun j hj=>hR j (by omega))]
  omega
 ·have hc:¬i<d.Rules.length:=of_decide_eq_false hc
  exact Lf_i (idxI_none (fun j hj=>hR j (by omega))).symm
def Zh147:HH:=⟨_,Zo147⟩
def Zk76:Con UU where
 α:=DDef
 md:=[.ro]
 of:=o1 (oA .eDef)
 ds:=fun x=>[dA .eDef x]
 pre:=fun d=>[sizeDef d≤4294967295]
 res:=fun d=>⟨[.one (.lit (.bool (defOk d)))],true,[]⟩
 law:=l1 (lA .eDef)
def Zi76_2(d:DDef):Int×(ByteArray×List DRule×Unit)×Unit→Prop:=fun(i,b,_)=>b=(d.Name,d.Rules,())∧0≤i∧i≤d.Rules.length∧∀j:Nat,(j:Int)<i→defAtR d.Rules j=true
def Zm76_2(d:DDef):Int×(ByteArray×List DRule×Unit)×Unit→Nat:=fun(i,b,_)=>d.Rules.length-i.toNat
def Za76:Zk76.α→Nat→Option (Ann UU):=fun d=>annL [(2,annOf [.slot 3 (3,1024) (.lit (.int .i64)),.box 1 (1,1024) [.lit .str,.shr .eRule]] (fun _=>Zi76_2 d) (Zm76_2 d))]
def Zu76:=us [Zh146,Zh147,Zh130,Zh81]
theorem Zv76(d:DDef):goal EE Zu76 Go.Proofs.Tryz.f76 Zk76 Za76 d=(Zi76_2 d ((0:Int),(d.Name,d.Rules,()),())∧
 ∀(y:Int×(ByteArray×List DRule×PUnit)×PUnit),
  let x1:DRule:=List.getD y.2.1.2.1 (Int.toNat y.1) zRule;
  let x2:Nat:=List.length y.2.1.2.1;
  let x0:Int:=(↑x2:Int);
  Zi76_2 d y→bif decide (y.1<x0) then(0:Int)≤y.1∧Int.toNat y.1<x2∧patArgs x1.Pats≤(4294967295:Nat)∧bif !ruleOk x1 then Lf [DV.one (Cell.lit (Value.bool false))] [DV.one (Cell.lit (Value.bool (defOk d)))] else(0:Int)≤y.1∧Int.toNat y.1<x2∧bif ruleAt y.2.1.2.1 x1.Name !=y.1 then Lf [DV.one (Cell.lit (Value.bool false))] [DV.one (Cell.lit (Value.bool (defOk d)))] else Zi76_2 d (IntKind.wrap IntKind.i64 (y.1+(1:Int)),(y.2.1.1,y.2.1.2.1,PUnit.unit),PUnit.unit)∧Zm76_2 d (IntKind.wrap IntKind.i64 (y.1+(1:Int)),(y.2.1.1,y.2.1.2.1,PUnit.unit),PUnit.unit)<Zm76_2 d y else bif nameOk y.2.1.1 then Lf [DV.one (Cell.lit (Value.bool (decide ((1:Int)≤x0∧x0≤(12:Int)))))] [DV.one (Cell.lit (Value.bool (defOk d)))] else Lf [DV.one (Cell.lit (Value.bool false))] [DV.one (Cell.lit (Value.bool (defOk d)))]):=by kernel_rfl
theorem Zo76:Holds EE (76,Zk76):=by
 refine holds_of EE_ok Go.Proofs.Tryz.func76 Zk76 (by kernel_rfl) Zu76 (us_ok _) Za76 (fun(d:DDef) hp hb=> ?_)
 have hz0:=bd_eDef (x:=d) (hb _ m0)
 have hl_d_Name:=hz0.1
 have hl_d_Rules:=hz0.2
 have hp0:sizeDef d≤4294967295:=hp _ m0
 clear hp hb
 rw[Zv76 d]
 dsimp only
 refine⟨⟨rfl,by omega,by omega,by intro j hj;omega⟩,?_⟩
 rintro⟨i,⟨b1,b2,⟨⟩⟩,⟨⟩⟩ ⟨hbx,h1,h2,hR⟩
 cases hbx
 simp only
 refine if_dec (fun hc=> ?_) (fun hc=> ?_)
 ·have hN:defAtR d.Rules i.toNat=false→defOk d=false:=fun h=>by
   have hf:allI d.Rules.length (defAtR d.Rules)=false:=allI_false (j:=i.toNat) (by omega) h
   simp only[defOk,hf,zbs]
  have hs:=rule_size h1 hc
  simp only[sizeDef] at hp0
  have ei:((i.toNat:Nat):Int)=i:=by omega
  rw[wrap_i64 (by omega) (by omega)]
  refine⟨by omega,by omega,by omega,if_not (fun g=>Lf_ff (hN (by simp only[defAtR,g,zbi]))) (fun g=>⟨by omega,by omega,if_not (fun k=>Lf_ff (hN ?_)) (fun k=>⟨⟨rfl,by omega,by omega,upto_step h1 hR ?_⟩,by simp only[Zm76_2];omega⟩)⟩)⟩
  ·simp only[defAtR,ei,g,zck];exact decide_eq_false (by simpa using k)
  ·simp only[defAtR,ei,g,zck];exact decide_eq_true (eq_of_beq k)
 ·have hA:allI d.Rules.length (defAtR d.Rules)=true:=allI_true fun j hj=>hR j (by omega)
  simp only[defOk,hA,zdb]
  refine if_cond (fun h=>Lf_b ?_) (fun h=>Lf_b ?_)
  ·rw[h,zck];exact decide_eq_decide.2 (by omega)
  ·rw[h,zbi]
def Zh76:HH:=⟨_,Zo76⟩
def Zk99:Con UU where
 α:=DDef
 md:=[.ro]
 of:=o1 (oA .eDef)
 ds:=fun x=>[dA .eDef x]
 pre:=fun _=>[]
 res:=fun d=>⟨[.one (.lit (.bool (defOk d)))],true,[]⟩
 law:=l1 (lA .eDef)
def Zi99_4(d:DDef):Int×(ByteArray×List DRule×Unit)×Unit→Prop:=fun(i,b,_)=>b=(d.Name,d.Rules,())∧nameOk d.Name=true∧(1≤d.Rules.length∧d.Rules.length≤12)∧0≤i∧i≤d.Rules.length∧∀j:Nat,(j:Int)<i→defAtR d.Rules j=true
def Zm99_4(d:DDef):Int×(ByteArray×List DRule×Unit)×Unit→Nat:=fun(i,b,_)=>d.Rules.length-i.toNat
def Za99:Zk99.α→Nat→Option (Ann UU):=fun d=>annL [(4,annOf [.slot 19 (19,1024) (.lit (.int .i64)),.box 1 (1,1024) [.lit .str,.shr .eRule]] (fun _=>Zi99_4 d) (Zm99_4 d))]
def Zu99:=us [Zh166,Zh167,Zh134,Zh104]
theorem Zv99(d:DDef):goal EE Zu99 Go.Proofs.Tryz.f99 Zk99 Za99 d=(let x0:Int:=(d.Rules.length:Int);
bif !nameOk d.Name then Lf [DV.one (Cell.lit (Value.bool false))] [DV.one (Cell.lit (Value.bool (defOk d)))] else bif !decide ((1:Int)≤x0∧x0≤(12:Int)) then Lf [DV.one (Cell.lit (Value.bool false))] [DV.one (Cell.lit (Value.bool (defOk d)))] else Zi99_4 d ((0:Int),(d.Name,d.Rules,PUnit.unit),PUnit.unit)∧∀(y:Int×(ByteArray×List DRule×PUnit)×PUnit),Zi99_4 d y→bif decide (y.1<x0) then(0:Int)≤y.1∧Int.toNat y.1<List.length d.Rules∧bif !ruleOk (List.getD d.Rules (Int.toNat y.1) zRule) then Lf [DV.one (Cell.lit (Value.bool false))] [DV.one (Cell.lit (Value.bool (defOk d)))] else bif ruleAt y.2.1.2.1 (List.getD d.Rules (Int.toNat y.1) zRule).Name !=y.1 then Lf [DV.one (Cell.lit (Value.bool false))] [DV.one (Cell.lit (Value.bool (defOk d)))] else Zi99_4 d (IntKind.wrap IntKind.i64 (y.1+(1:Int)),(y.2.1.1,y.2.1.2.1,PUnit.unit),PUnit.unit)∧Zm99_4 d (IntKind.wrap IntKind.i64 (y.1+(1:Int)),(y.2.1.1,y.2.1.2.1,PUnit.unit),PUnit.unit)<Zm99_4 d y else Lf [DV.one (Cell.lit (Value.bool true))] [DV.one (Cell.lit (Value.bool (defOk d)))]):=by kernel_rfl
theorem Zo99:Holds EE (99,Zk99):=by
 refine holds_of EE_ok Go.Proofs.Tryz.func99 Zk99 (by kernel_rfl) Zu99 (us_ok _) Za99 (fun(d:DDef) hp hb=> ?_)
 have hz0:=bd_eDef (x:=d) (hb _ m0)
 have hl_d_Name:=hz0.1
 have hl_d_Rules:=hz0.2
 clear hp hb
 rw[Zv99 d]
 dsimp only
 refine if_not (fun a1=>Lf_ff (by simp only[defOk,a1,zbi])) (fun a1=>if_not (fun a2=>Lf_ff ?_) (fun a2=> ?_))
 ·have a2:=of_decide_eq_false a2
  simp only[defOk];rw[decide_eq_false (p:=1≤d.Rules.length∧d.Rules.length≤12) (by omega),zbs,zbi]
 have a2:=of_decide_eq_true a2
 refine⟨⟨rfl,a1,by omega,by omega,by omega,by intro j hj;omega⟩,?_⟩
 rintro⟨i,⟨b1,b2,⟨⟩⟩,⟨⟩⟩ ⟨hbx,a3,a4,h1,h2,hR⟩
 cases hbx
 simp only
 refine if_dec (fun hc=> ?_) (fun hc=> ?_)
 ·have hN:defAtR d.Rules i.toNat=false→defOk d=false:=fun h=>by
   have hf:allI d.Rules.length (defAtR d.Rules)=false:=allI_false (j:=i.toNat) (by omega) h
   simp only[defOk,hf,zbs]
  have ei:((i.toNat:Nat):Int)=i:=by omega
  rw[wrap_i64 (by omega) (by omega)]
  refine⟨by omega,by omega,if_not (fun g=>Lf_ff (hN (by simp only[defAtR,g,zbi]))) (fun g=>if_not (fun k=>Lf_ff (hN ?_)) (fun k=>⟨⟨rfl,a3,a4,by omega,by omega,upto_step h1 hR ?_⟩,by simp only[Zm99_4];omega⟩))⟩
  ·simp only[defAtR,ei,g,zck];exact decide_eq_false (by simpa using k)
  ·simp only[defAtR,ei,g,zck];exact decide_eq_true (eq_of_beq k)
 ·have hA:allI d.Rules.length (defAtR d.Rules)=true:=allI_true fun j hj=>hR j (by omega)
  refine Lf_tt ?_
  simp only[defOk,hA,a3,decide_eq_true a4];rfl
def Zh99:HH:=⟨_,Zo99⟩
def Zk148:Con UU where
 α:=DStore×DFact
 md:=[.ro,.ro]
 of:=oC (oA .eStore) (o1 (oA .eFact))
 ds:=fun x=>[dA .eStore x.1,dA .eFact x.2]
 pre:=fun _=>[]
 res:=fun(s,f)=>⟨[.one (.lit (.int .i64 (idOf s.Items f)))],true,[]⟩
 law:=lC (lA .eStore) (l1 (lA .eFact))
def Zi148_2(s:DStore)(f:DFact):Int×(List DItem×Int×Unit)×(ByteArray×List DVal×Unit)×Unit→Prop:=fun(i,b,g,_)=>b=(s.Items,s.Next,())∧g=(f.Kind,f.Fields,())∧0≤i∧i≤s.Items.length∧∀j:Nat,(j:Int)<i→decide ((List.getD s.Items j zItem).F=f)=false
def Zm148_2(s:DStore)(f:DFact):Int×(List DItem×Int×Unit)×(ByteArray×List DVal×Unit)×Unit→Nat:=fun(i,b,g,_)=>s.Items.length-i.toNat
def Za148:Zk148.α→Nat→Option (Ann UU):=fun(s,f)=>annL [(2,annOf [.slot 5 (5,1024) (.lit (.int .i64)),.box 2 (2,1024) [.shr .eItem,.lit (.int .i64)],.box 3 (3,1024) [.lit .str,.shr .eVal]] (fun _=>Zi148_2 s f) (Zm148_2 s f))]
def Zu148:=us [Zh150]
theorem Zv148(s:DStore)(f:DFact):goal EE Zu148 Go.Proofs.Tryz.f148 Zk148 Za148 (s,f)=(Zi148_2 s f ((0:Int),(s.Items,s.Next,()),(f.Kind,f.Fields,()),())∧
 ∀(y:Int×(List DItem×Int×PUnit)×(ByteArray×List DVal×PUnit)×PUnit),
  let x0:DItem:=List.getD y.2.1.1 (Int.toNat y.1) zItem;
  let x2:Nat:=List.length y.2.1.1;
  let x1:Int:=(↑x2:Int);
  Zi148_2 s f y→bif decide (y.1<x1) then(0:Int)≤y.1∧Int.toNat y.1<x2∧bif decide (x0.F={Kind:=y.2.2.1.1,Fields:=y.2.2.1.2.1:DFact}) then(0:Int)≤y.1∧Int.toNat y.1<x2∧Lf [DV.one (Cell.lit (Value.int IntKind.i64 x0.Id))] [DV.one (Cell.lit (Value.int IntKind.i64 (idOf s.Items f)))] else Zi148_2 s f (IntKind.wrap IntKind.i64 (y.1+(1:Int)),(y.2.1.1,y.2.1.2.1,PUnit.unit),(y.2.2.1.1,y.2.2.1.2.1,PUnit.unit),PUnit.unit)∧Zm148_2 s f (IntKind.wrap IntKind.i64 (y.1+(1:Int)),(y.2.1.1,y.2.1.2.1,PUnit.unit),(y.2.2.1.1,y.2.2.1.2.1,PUnit.unit),PUnit.unit)<Zm148_2 s f y else Lf [DV.one (Cell.lit (Value.int IntKind.i64 (0:Int)))] [DV.one (Cell.lit (Value.int IntKind.i64 (idOf s.Items f)))]):=by kernel_rfl
theorem Zo148:Holds EE (148,Zk148):=by
 refine holds_of EE_ok Go.Proofs.Tryz.func148 Zk148 (by kernel_rfl) Zu148 (us_ok _) Za148 (fun x hp hb=> ?_)
 obtain⟨s,f⟩:=x
 have hl_s_Items:=bd_eStore (x:=s) (hb _ m0)
 have hz1:=bd_eFact (x:=f) (hb _ m1)
 have hl_f_Kind:=hz1.1
 have hl_f_Fields:=hz1.2
 clear hp hb
 rw[Zv148 s f]
 dsimp only
 refine⟨⟨rfl,rfl,by omega,by omega,by intro j hj;omega⟩,?_⟩
 rintro⟨i,⟨b1,b2,⟨⟩⟩,⟨g1,g2,⟨⟩⟩,⟨⟩⟩ ⟨hbx,hg,h1,h2,hR⟩
 cases hbx
 cases hg
 simp only
 refine if_dec (fun hc=> ?_) (fun hc=> ?_)
 ·rw[wrap_i64 (by omega) (by omega)]
  refine⟨by omega,by omega,if_dec (fun h=>⟨by omega,by omega,Lf_i ?_⟩) (fun h=>⟨⟨rfl,rfl,by omega,by omega,upto_no (p:=fun j=>decide ((List.getD s.Items j zItem).F=f)) h1 hR (decide_eq_false h)⟩,by simp only[Zm148_2];omega⟩)⟩
  have e:idAt s.Items f=(i.toNat:Int):=idxI_found (i:=i.toNat) (by omega) (decide_eq_true h) (fun j hj=>hR j (by omega))
  rw[idOf,e,if_neg (by omega),zeu]
 ·refine Lf_i ?_
  have e:idAt s.Items f= -1:=idxI_none (fun j hj=>hR j (by omega))
  rw[idOf,if_pos e]
def Zh148:HH:=⟨_,Zo148⟩
def Zk154:Con UU where
 α:=DStore×Int
 md:=[.ro,.ro]
 of:=oC (oA .eStore) (o1 oI)
 ds:=fun x=>[dA .eStore x.1,dI x.2]
 pre:=fun(s,id)=>[sizeItemS s.Items≤4294967296]
 res:=fun(s,id)=>⟨[.agg [.lit (.string ((factOf s.Items id)).Kind),.sl .eVal ((factOf s.Items id)).Fields],.one (.lit (.bool (hasId s.Items id)))],true,[]⟩
 law:=lC (lA .eStore) (l1 lI)
def Zi154_2(s:DStore)(id:Int):Int×(List DItem×Int×Unit)×(ByteArray×List DVal×Unit)×Unit→Prop:=fun(i,b,g,_)=>b=(s.Items,s.Next,())∧0≤i∧i≤s.Items.length∧∀j:Nat,(j:Int)<i→decide ((List.getD s.Items j zItem).Id=id)=false
def Zm154_2(s:DStore)(id:Int):Int×(List DItem×Int×Unit)×(ByteArray×List DVal×Unit)×Unit→Nat:=fun(i,b,g,_)=>s.Items.length-i.toNat
def Za154:Zk154.α→Nat→Option (Ann UU):=fun(s,id)=>annL [(2,annOf [.slot 6 (6,1024) (.lit (.int .i64)),.box 2 (2,1024) [.shr .eItem,.lit (.int .i64)],.box 4 (4,1024) [.lit .str,.own .eVal true]] (fun _=>Zi154_2 s id) (Zm154_2 s id))]
def Zu154:=us [Zh145]
theorem Zv154(s:DStore)(id:Int):goal EE Zu154 Go.Proofs.Tryz.f154 Zk154 Za154 (s,id)=(Zi154_2 s id ((0:Int),(s.Items,s.Next,()),({data:= #[]:ByteArray},[],()),())∧
 ∀(y:Int×(List DItem×Int×PUnit)×(ByteArray×List DVal×PUnit)×PUnit),
  let x2:DItem:=List.getD y.2.1.1 (Int.toNat y.1) zItem;
  let x4:Nat:=List.length y.2.1.1;
  let x1:DFact:=x2.F;
  let x3:Int:=(↑x4:Int);
  let x0:List DVal:=x1.Fields;
  Zi154_2 s id y→bif decide (y.1<x3) then(0:Int)≤y.1∧Int.toNat y.1<x4∧bif x2.Id==id then(0:Int)≤y.1∧Int.toNat y.1<x4∧List.length x0≤(4294967296:Nat)∧Lf [DV.agg [Cell.lit (Value.string x1.Kind),Cell.sl Cd.eVal x0],DV.one (Cell.lit (Value.bool true))] [DV.agg [Cell.lit (Value.string (factOf s.Items id).Kind),Cell.sl Cd.eVal (factOf s.Items id).Fields],DV.one (Cell.lit (Value.bool (hasId s.Items id)))] else Zi154_2 s id (IntKind.wrap IntKind.i64 (y.1+(1:Int)),(y.2.1.1,y.2.1.2.1,PUnit.unit),(y.2.2.1.1,y.2.2.1.2.1,PUnit.unit),PUnit.unit)∧Zm154_2 s id (IntKind.wrap IntKind.i64 (y.1+(1:Int)),(y.2.1.1,y.2.1.2.1,PUnit.unit),(y.2.2.1.1,y.2.2.1.2.1,PUnit.unit),PUnit.unit)<Zm154_2 s id y else Lf [DV.agg [Cell.lit (Value.string {data:= #[]:ByteArray}),Cell.sl Cd.eVal []],DV.one (Cell.lit (Value.bool false))] [DV.agg [Cell.lit (Value.string (factOf s.Items id).Kind),Cell.sl Cd.eVal (factOf s.Items id).Fields],DV.one (Cell.lit (Value.bool (hasId s.Items id)))]):=by kernel_rfl
theorem Zo154:Holds EE (154,Zk154):=by
 refine holds_of EE_ok Go.Proofs.Tryz.func154 Zk154 (by kernel_rfl) Zu154 (us_ok _) Za154 (fun x hp hb=> ?_)
 obtain⟨s,id⟩:=x
 have hl_s_Items:=bd_eStore (x:=s) (hb _ m0)
 have hl_id:=bdI (n:=id) (hb _ m1)
 have hp0:sizeItemS s.Items≤4294967296:=hp _ m0
 clear hp hb
 rw[Zv154 s id]
 dsimp only
 refine⟨⟨rfl,by omega,by omega,by intro j hj;omega⟩,?_⟩
 rintro⟨i,⟨b1,b2,⟨⟩⟩,⟨g1,g2,⟨⟩⟩,⟨⟩⟩ ⟨hbx,h1,h2,hR⟩
 cases hbx
 simp only
 refine if_dec (fun hc=> ?_) (fun hc=> ?_)
 ·rw[wrap_i64 (by omega) (by omega)]
  have hs:=sum_getD_le sizeItem s.Items zItem h1 hc
  simp only[sizeItem,sizeFact,sizeValS] at hs
  simp only[sizeItemS,sizeItem,sizeFact,sizeValS] at hp0
  refine⟨by omega,by omega,if_num (fun h=>⟨by omega,by omega,by omega,?_⟩) (fun h=>⟨⟨rfl,by omega,by omega,upto_no (p:=fun j=>decide ((List.getD s.Items j zItem).Id=id)) h1 hR (decide_eq_false h)⟩,by simp only[Zm154_2];omega⟩)⟩
  have e:placeId s.Items id=(i.toNat:Int):=idxI_found (i:=i.toNat) (by omega) (decide_eq_true h) (fun j hj=>hR j (by omega))
  have e1:factOf s.Items id=(List.getD s.Items i.toNat zItem).F:=by rw[factOf,e,if_neg (by omega),zeu]
  have e2:hasId s.Items id=true:=anyI_true (j:=i.toNat) (by omega) (decide_eq_true h)
  rw[e1,e2];exact Lf_rfl _
 ·have e:placeId s.Items id= -1:=idxI_none (fun j hj=>hR j (by omega))
  have e1:factOf s.Items id=zFact:=by rw[factOf,if_pos e]
  have e2:hasId s.Items id=false:=anyI_false fun j hj=>hR j (by omega)
  rw[e1,e2];exact Lf_rfl _
def Zh154:HH:=⟨_,Zo154⟩
def Zk176:Con UU where
 α:=DStore×Int
 md:=[.ro,.ro]
 of:=oC (oA .eStore) (o1 oI)
 ds:=fun x=>[dA .eStore x.1,dI x.2]
 pre:=fun(s,id)=>[sizeItemS s.Items≤4294967296]
 res:=fun(s,id)=>⟨[.agg [.lit (.string ((factOf s.Items id)).Kind),.sl .eVal ((factOf s.Items id)).Fields],.one (.lit (.bool (hasId s.Items id)))],true,[]⟩
 law:=lC (lA .eStore) (l1 lI)
def Zi176_2(s:DStore)(id:Int):Int×(ByteArray×List DVal×Unit)×Unit→Prop:=fun(i,g,_)=>0≤i∧i≤s.Items.length∧∀j:Nat,(j:Int)<i→decide ((List.getD s.Items j zItem).Id=id)=false
def Zm176_2(s:DStore)(id:Int):Int×(ByteArray×List DVal×Unit)×Unit→Nat:=fun(i,g,_)=>s.Items.length-i.toNat
def Za176:Zk176.α→Nat→Option (Ann UU):=fun(s,id)=>annL [(2,annOf [.slot 11 (11,1024) (.lit (.int .i64)),.box 4 (4,1024) [.lit .str,.own .eVal true]] (fun _=>Zi176_2 s id) (Zm176_2 s id))]
def Zu176:=us [Zh164]
theorem Zv176(s:DStore)(id:Int):goal EE Zu176 Go.Proofs.Tryz.f176 Zk176 Za176 (s,id)=(Zi176_2 s id ((0:Int),({data:= #[]:ByteArray},[],()),())∧∀(y:Int×(ByteArray×List DVal×PUnit)×PUnit),Zi176_2 s id y→bif decide (y.1<(s.Items.length:Int)) then(0:Int)≤y.1∧y.1.toNat<s.Items.length∧bif (List.getD s.Items y.1.toNat zItem).Id==id then List.length (List.getD s.Items y.1.toNat zItem).F.Fields≤(4294967296:Nat)∧Lf [DV.agg [Cell.lit (Value.string (List.getD s.Items y.1.toNat zItem).F.Kind),Cell.sl Cd.eVal (List.getD s.Items y.1.toNat zItem).F.Fields],DV.one (Cell.lit (Value.bool true))] [DV.agg [Cell.lit (Value.string (factOf s.Items id).Kind),Cell.sl Cd.eVal (factOf s.Items id).Fields],DV.one (Cell.lit (Value.bool (hasId s.Items id)))] else Zi176_2 s id (IntKind.wrap IntKind.i64 (y.1+(1:Int)),(y.2.1.1,y.2.1.2.1,()),())∧Zm176_2 s id (IntKind.wrap IntKind.i64 (y.1+(1:Int)),(y.2.1.1,y.2.1.2.1,()),())<Zm176_2 s id y else Lf [DV.agg [Cell.lit (Value.string {data:= #[]:ByteArray}),Cell.sl Cd.eVal []],DV.one (Cell.lit (Value.bool false))] [DV.agg [Cell.lit (Value.string (factOf s.Items id).Kind),Cell.sl Cd.eVal (factOf s.Items id).Fields],DV.one (Cell.lit (Value.bool (hasId s.Items id)))]):=by kernel_rfl
theorem Zo176:Holds EE (176,Zk176):=by
 refine holds_of EE_ok Go.Proofs.Tryz.func176 Zk176 (by kernel_rfl) Zu176 (us_ok _) Za176 (fun x hp hb=> ?_)
 obtain⟨s,id⟩:=x
 have hl_s_Items:=bd_eStore (x:=s) (hb _ m0)
 have hl_id:=bdI (n:=id) (hb _ m1)
 have hp0:sizeItemS s.Items≤4294967296:=hp _ m0
 clear hp hb
 rw[Zv176 s id]
 refine⟨⟨by omega,by omega,by intro j hj;omega⟩,?_⟩
 rintro⟨i,⟨g1,g2,⟨⟩⟩,⟨⟩⟩ ⟨h1,h2,hR⟩
 simp only
 refine if_dec (fun hc=> ?_) (fun hc=> ?_)
 ·rw[wrap_i64 (by omega) (by omega)]
  have hs:=sum_getD_le sizeItem s.Items zItem h1 hc
  simp only[sizeItem,sizeFact,sizeValS] at hs
  simp only[sizeItemS,sizeItem,sizeFact,sizeValS] at hp0
  refine⟨by omega,by omega,if_num (fun h=>⟨by omega,?_⟩) (fun h=>⟨⟨by omega,by omega,upto_no (p:=fun j=>decide ((List.getD s.Items j zItem).Id=id)) h1 hR (decide_eq_false h)⟩,by simp only[Zm176_2];omega⟩)⟩
  have e:placeId s.Items id=(i.toNat:Int):=idxI_found (i:=i.toNat) (by omega) (decide_eq_true h) (fun j hj=>hR j (by omega))
  have e1:factOf s.Items id=(List.getD s.Items i.toNat zItem).F:=by rw[factOf,e,if_neg (by omega),zeu]
  have e2:hasId s.Items id=true:=anyI_true (j:=i.toNat) (by omega) (decide_eq_true h)
  rw[e1,e2];exact Lf_rfl _
 ·have e:placeId s.Items id= -1:=idxI_none (fun j hj=>hR j (by omega))
  have e1:factOf s.Items id=zFact:=by rw[factOf,if_pos e]
  have e2:hasId s.Items id=false:=anyI_false fun j hj=>hR j (by omega)
  rw[e1,e2];exact Lf_rfl _
def Zh176:HH:=⟨_,Zo176⟩
def Zk77:Con UU where
 α:=DStore
 md:=[.ro]
 of:=o1 (oA .eStore)
 ds:=fun x=>[dA .eStore x]
 pre:=fun _=>[]
 res:=fun s=>⟨[.one (.lit (.bool (storeOk s)))],true,[]⟩
 law:=l1 (lA .eStore)
def Zi77_4(s:DStore):Int×(List DItem×Int×Unit)×Unit→Prop:=fun(i,b,_)=>b=(s.Items,s.Next,())∧0≤i∧i≤s.Items.length∧∀j:Nat,(j:Int)<i→itemAt s j=true
def Zm77_4(s:DStore):Int×(List DItem×Int×Unit)×Unit→Nat:=fun(i,b,_)=>s.Items.length-i.toNat
def Za77:Zk77.α→Nat→Option (Ann UU):=fun s=>annL [(4,annOf [.slot 3 (3,1024) (.lit (.int .i64)),.box 1 (1,1024) [.shr .eItem,.lit (.int .i64)]] (fun _=>Zi77_4 s) (Zm77_4 s))]
def Zu77:=us [Zh81,Zh58,Zh148]
theorem Zv77(s:DStore):goal EE Zu77 Go.Proofs.Tryz.f77 Zk77 Za77 s=(bif !decide ((1:Int)≤s.Next∧s.Next≤(1000000:Int)) then Lb false (storeOk s)
else
 bif decide ((↑(List.length s.Items):Int)>(40:Int)) then Lf [DV.one (Cell.lit (Value.bool false))] [DV.one (Cell.lit (Value.bool (storeOk s)))]
 else
  Zi77_4 s ((0:Int),(s.Items,s.Next,PUnit.unit),PUnit.unit)∧
   ∀(y:Int×(List DItem×Int×PUnit)×PUnit),
    let x1:Nat:=List.length y.2.1.1;
    let x4:DItem:=List.getD y.2.1.1 (Int.toNat y.1) zItem;
    let x5:Nat:=Int.toNat (IntKind.wrap IntKind.i64 (y.1-(1:Int)));
    let x0:Int:=x4.Id;
    let x2:Int:=(List.getD y.2.1.1 x5 zItem).Id;
    let x3:DFact:=x4.F;
    Zi77_4 s y→bif decide (y.1<(↑x1:Int)) then(0:Int)≤y.1∧Int.toNat y.1<x1∧bif !factOk x3 then Lf [DV.one (Cell.lit (Value.bool false))] [DV.one (Cell.lit (Value.bool (storeOk s)))] else bif decide (x0<(1:Int)) then Lf [DV.one (Cell.lit (Value.bool false))] [DV.one (Cell.lit (Value.bool (storeOk s)))] else bif decide (x0≥y.2.1.2.1) then Lf [DV.one (Cell.lit (Value.bool false))] [DV.one (Cell.lit (Value.bool (storeOk s)))] else bif decide (y.1>(0:Int)) then(0:Int)≤IntKind.wrap IntKind.i64 (y.1-(1:Int))∧x5<x1∧bif decide (x2≥x0) then Lf [DV.one (Cell.lit (Value.bool false))] [DV.one (Cell.lit (Value.bool (storeOk s)))] else bif idOf y.2.1.1 x3 !=x0 then Lf [DV.one (Cell.lit (Value.bool false))] [DV.one (Cell.lit (Value.bool (storeOk s)))] else Zi77_4 s (IntKind.wrap IntKind.i64 (y.1+(1:Int)),(y.2.1.1,y.2.1.2.1,PUnit.unit),PUnit.unit)∧Zm77_4 s (IntKind.wrap IntKind.i64 (y.1+(1:Int)),(y.2.1.1,y.2.1.2.1,PUnit.unit),PUnit.unit)<Zm77_4 s y else bif idOf y.2.1.1 x3 !=x0 then Lf [DV.one (Cell.lit (Value.bool false))] [DV.one (Cell.lit (Value.bool (storeOk s)))] else Zi77_4 s (IntKind.wrap IntKind.i64 (y.1+(1:Int)),(y.2.1.1,y.2.1.2.1,PUnit.unit),PUnit.unit)∧Zm77_4 s (IntKind.wrap IntKind.i64 (y.1+(1:Int)),(y.2.1.1,y.2.1.2.1,PUnit.unit),PUnit.unit)<Zm77_4 s y else Lf [DV.one (Cell.lit (Value.bool true))] [DV.one (Cell.lit (Value.bool (storeOk s)))]):=by kernel_rfl
theorem Zo77:Holds EE (77,Zk77):=by
 refine holds_of EE_ok Go.Proofs.Tryz.func77 Zk77 (by kernel_rfl) Zu77 (us_ok _) Za77 (fun(s:DStore) hp hb=> ?_)
 have hl_s_Items:=bd_eStore (x:=s) (hb _ m0)
 clear hp hb
 rw[Zv77 s]
 dsimp only
 refine if_not (fun a1=>Lf_ff (by simp only[storeOk,a1,zbi])) (fun a1=>if_dec (fun a2=>Lf_ff ?_) (fun a2=> ?_))
 ·simp only[storeOk];rw[decide_eq_false (p:=s.Items.length≤40) (by omega),zbs,zbi]
 refine⟨⟨rfl,by omega,by omega,by intro j hj;omega⟩,?_⟩
 rintro⟨i,⟨b1,b2,⟨⟩⟩,⟨⟩⟩ ⟨hbx,h1,h2,hR⟩
 cases hbx
 simp only
 refine if_dec (fun hc=> ?_) (fun hc=> ?_)
 ·have hN:itemAt s i.toNat=false→storeOk s=false:=fun h=>by
   have hf:allI s.Items.length (itemAt s)=false:=allI_false (j:=i.toNat) (by omega) h
   simp only[storeOk,hf,zbs]
  have e1:(i-1).toNat=i.toNat-1:=by omega
  simp(disch:=omega) only[wrap_i64]
  simp only[e1]
  have hi1:i>0→0≤i-1:=fun h=>by omega
  have hlt:i.toNat<s.Items.length:=by omega
  have hlt':i.toNat-1<s.Items.length:=by omega
  have hgo:itemAt s i.toNat=true→Zi77_4 s (i+1,(s.Items,s.Next,PUnit.unit),PUnit.unit)∧Zm77_4 s (i+1,(s.Items,s.Next,PUnit.unit),PUnit.unit)<Zm77_4 s (i,(s.Items,s.Next,PUnit.unit),PUnit.unit):=fun h=>⟨⟨rfl,by omega,by omega,upto_step h1 hR h⟩,by simp only[Zm77_4];omega⟩
  have c3:decide (0<i.toNat)=decide (i>0):=decide_eq_decide.2 (by omega)
  simp only[itemAt,baseAt,c3] at hN hgo
  generalize hA:List.getD s.Items i.toNat zItem=a at*
  generalize hB:List.getD s.Items (i.toNat-1) zItem=b at*
  generalize hQ:idOf s.Items a.F=q at*
  generalize hO:factOk a.F=o at*
  refine And.intro h1 (And.intro hlt ?_)
  repeat' (first|refine Lf_ff (hN ?_)|refine hgo ?_|refine if_dec (fun h=> ?_) (fun h=> ?_)|refine if_not (fun h=> ?_) (fun h=> ?_)|refine And.intro hlt' ?_|refine And.intro (hi1 (by assumption)) ?_)
  all_goals (cases o<;>simp at* <;>omega)
 ·have hA:allI s.Items.length (itemAt s)=true:=allI_true fun j hj=>hR j (by omega)
  refine Lf_tt ?_
  simp only[storeOk,hA,a1,decide_eq_true (show s.Items.length≤40 by omega)];rfl
def Zh77:HH:=⟨_,Zo77⟩
def Zk100:Con UU where
 α:=DStore
 md:=[.ro]
 of:=o1 (oA .eStore)
 ds:=fun x=>[dA .eStore x]
 pre:=fun _=>[]
 res:=fun s=>⟨[.one (.lit (.bool (storeOk s)))],true,[]⟩
 law:=l1 (lA .eStore)
def Zi100_4(s:DStore):Int×(List DItem×Int×Unit)×Unit→Prop:=fun(i,b,_)=>b=(s.Items,s.Next,())∧0≤i∧i≤s.Items.length∧∀j:Nat,(j:Int)<i→itemAtI s j=true
def Zm100_4(s:DStore):Int×(List DItem×Int×Unit)×Unit→Nat:=fun(i,b,_)=>s.Items.length-i.toNat
def Zi100_9(s:DStore):Int×Int×(Int×ByteArray×List DVal×Unit)×(List DItem×Int×Unit)×Unit→Int×Int×(Int×ByteArray×List DVal×Unit)×(List DItem×Int×Unit)×Unit→Prop:=fun(i0,k0,x0,b0,_) (i,k,x,b,_)=>i=i0∧x=x0∧b=b0∧0≤k∧k≤i∧∀j:Nat,(j:Int)<k→decide ((List.getD s.Items i.toNat zItem).F=(List.getD s.Items j zItem).F)=false
def Zm100_9(s:DStore):Int×Int×(Int×ByteArray×List DVal×Unit)×(List DItem×Int×Unit)×Unit→Nat:=fun(i,k,x,b,_)=>i.toNat-k.toNat
def Za100:Zk100.α→Nat→Option (Ann UU):=fun s=>annL [(4,annOf [.slot 20 (20,1024) (.lit (.int .i64)),.box 1 (1,1024) [.shr .eItem,.lit (.int .i64)]] (fun _=>Zi100_4 s) (Zm100_4 s)),(9,annOf [.slot 20 (20,1024) (.lit (.int .i64)),.slot 59 (59,1024) (.lit (.int .i64)),.box 4 (4,1024) [.lit (.int .i64),.lit .str,.shr .eVal],.box 1 (1,1024) [.shr .eItem,.lit (.int .i64)]] (Zi100_9 s) (Zm100_9 s))]
def Zu100:=us [Zh104,Zh61,Zh168]
theorem Zv100(s:DStore):goal EE Zu100 Go.Proofs.Tryz.f100 Zk100 Za100 s=(let x0:Int:=(s.Items.length:Int);
let x1:Int:=Option.getD none (0:Int);
bif decide (x0>(40:Int)) then Lf [DV.one (Cell.lit (Value.bool false))] [DV.one (Cell.lit (Value.bool (storeOk s)))]
else
 bif !decide ((1:Int)≤s.Next∧s.Next≤(1000000:Int)) then Lf [DV.one (Cell.lit (Value.bool false))] [DV.one (Cell.lit (Value.bool (storeOk s)))]
 else
  Zi100_4 s ((0:Int),(s.Items,s.Next,PUnit.unit),PUnit.unit)∧
   ∀(y:Int×(List DItem×Int×PUnit)×PUnit),
    let x8:Nat:=List.length y.2.1.1;
    let x9:Int:=(List.getD s.Items (Int.toNat y.1) zItem).Id;
    let x10:DFact:=(List.getD s.Items (Int.toNat y.1) zItem).F;
    let x11:Nat:=Int.toNat (IntKind.wrap IntKind.i64 (y.1-(1:Int)));
    let x4:Int:=(List.getD y.2.1.1 x11 zItem).Id;
    let x7:Int:=(↑x8:Int);
    let x3:Int:=Option.getD (some y.1) x7;
    let x6:List DItem:=List.drop (Int.toNat x1) (List.take (Int.toNat x3) y.2.1.1);
    let x5:Nat:=List.length x6;
    let x2:Int:=(↑x5:Int);
    Zi100_4 s y→
     bif decide (y.1<x0) then
      (0:Int)≤y.1∧
       Int.toNat y.1<List.length s.Items∧
        bif !factOk x10 then Lf [DV.one (Cell.lit (Value.bool false))] [DV.one (Cell.lit (Value.bool (storeOk s)))]
        else
         bif !decide ((1:Int)≤x9∧x9≤IntKind.wrap IntKind.i64 (y.2.1.2.1-(1:Int))) then Lf [DV.one (Cell.lit (Value.bool false))] [DV.one (Cell.lit (Value.bool (storeOk s)))]
         else
          bif decide (y.1>(0:Int)) then
           (0:Int)≤IntKind.wrap IntKind.i64 (y.1-(1:Int))∧
            x11<x8∧
             bif decide (x9≤x4) then Lf [DV.one (Cell.lit (Value.bool false))] [DV.one (Cell.lit (Value.bool (storeOk s)))]
             else
              (0:Int)≤x1∧
               x1≤x3∧
                x3≤x7∧
                 Zi100_9 s (y.1,(0:Int),(x9,x10.Kind,x10.Fields,PUnit.unit),(y.2.1.1,y.2.1.2.1,PUnit.unit),PUnit.unit) (y.1,(0:Int),(x9,x10.Kind,x10.Fields,PUnit.unit),(y.2.1.1,y.2.1.2.1,PUnit.unit),PUnit.unit)∧
                  ∀(y_1:Int×Int×(Int×ByteArray×List DVal×PUnit)×(List DItem×Int×PUnit)×PUnit),
                   let x12:Nat:=Int.toNat y_1.2.1;
                   Zi100_9 s (y.1,(0:Int),(x9,x10.Kind,x10.Fields,PUnit.unit),(y.2.1.1,y.2.1.2.1,PUnit.unit),PUnit.unit) y_1→bif decide (y_1.2.1<x2) then(0:Int)≤y_1.2.1∧x12<x5∧bif decide ({Kind:=y_1.2.2.1.2.1,Fields:=y_1.2.2.1.2.2.1:DFact}=(List.getD x6 x12 zItem).F) then Lf [DV.one (Cell.lit (Value.bool false))] [DV.one (Cell.lit (Value.bool (storeOk s)))] else Zi100_9 s (y.1,(0:Int),(x9,x10.Kind,x10.Fields,PUnit.unit),(y.2.1.1,y.2.1.2.1,PUnit.unit),PUnit.unit) (y_1.1,IntKind.wrap IntKind.i64 (y_1.2.1+(1:Int)),(y_1.2.2.1.1,y_1.2.2.1.2.1,y_1.2.2.1.2.2.1,PUnit.unit),(y_1.2.2.2.1.1,y_1.2.2.2.1.2.1,PUnit.unit),PUnit.unit)∧Zm100_9 s (y_1.1,IntKind.wrap IntKind.i64 (y_1.2.1+(1:Int)),(y_1.2.2.1.1,y_1.2.2.1.2.1,y_1.2.2.1.2.2.1,PUnit.unit),(y_1.2.2.2.1.1,y_1.2.2.2.1.2.1,PUnit.unit),PUnit.unit)<Zm100_9 s y_1 else Zi100_4 s (IntKind.wrap IntKind.i64 (y_1.1+(1:Int)),(y_1.2.2.2.1.1,y_1.2.2.2.1.2.1,PUnit.unit),PUnit.unit)∧Zm100_4 s (IntKind.wrap IntKind.i64 (y_1.1+(1:Int)),(y_1.2.2.2.1.1,y_1.2.2.2.1.2.1,PUnit.unit),PUnit.unit)<Zm100_4 s y
          else
           (0:Int)≤x1∧
            x1≤x3∧
             x3≤x7∧
              Zi100_9 s (y.1,(0:Int),(x9,x10.Kind,x10.Fields,PUnit.unit),(y.2.1.1,y.2.1.2.1,PUnit.unit),PUnit.unit) (y.1,(0:Int),(x9,x10.Kind,x10.Fields,PUnit.unit),(y.2.1.1,y.2.1.2.1,PUnit.unit),PUnit.unit)∧
               ∀(y_1:Int×Int×(Int×ByteArray×List DVal×PUnit)×(List DItem×Int×PUnit)×PUnit),
                let x12:Nat:=Int.toNat y_1.2.1;
                Zi100_9 s (y.1,(0:Int),(x9,x10.Kind,x10.Fields,PUnit.unit),(y.2.1.1,y.2.1.2.1,PUnit.unit),PUnit.unit) y_1→bif decide (y_1.2.1<x2) then(0:Int)≤y_1.2.1∧x12<x5∧bif decide ({Kind:=y_1.2.2.1.2.1,Fields:=y_1.2.2.1.2.2.1:DFact}=(List.getD x6 x12 zItem).F) then Lf [DV.one (Cell.lit (Value.bool false))] [DV.one (Cell.lit (Value.bool (storeOk s)))] else Zi100_9 s (y.1,(0:Int),(x9,x10.Kind,x10.Fields,PUnit.unit),(y.2.1.1,y.2.1.2.1,PUnit.unit),PUnit.unit) (y_1.1,IntKind.wrap IntKind.i64 (y_1.2.1+(1:Int)),(y_1.2.2.1.1,y_1.2.2.1.2.1,y_1.2.2.1.2.2.1,PUnit.unit),(y_1.2.2.2.1.1,y_1.2.2.2.1.2.1,PUnit.unit),PUnit.unit)∧Zm100_9 s (y_1.1,IntKind.wrap IntKind.i64 (y_1.2.1+(1:Int)),(y_1.2.2.1.1,y_1.2.2.1.2.1,y_1.2.2.1.2.2.1,PUnit.unit),(y_1.2.2.2.1.1,y_1.2.2.2.1.2.1,PUnit.unit),PUnit.unit)<Zm100_9 s y_1 else Zi100_4 s (IntKind.wrap IntKind.i64 (y_1.1+(1:Int)),(y_1.2.2.2.1.1,y_1.2.2.2.1.2.1,PUnit.unit),PUnit.unit)∧Zm100_4 s (IntKind.wrap IntKind.i64 (y_1.1+(1:Int)),(y_1.2.2.2.1.1,y_1.2.2.2.1.2.1,PUnit.unit),PUnit.unit)<Zm100_4 s y
     else Lf [DV.one (Cell.lit (Value.bool true))] [DV.one (Cell.lit (Value.bool (storeOk s)))]):=by kernel_rfl
theorem Zo100:Holds EE (100,Zk100):=by
 refine holds_of EE_ok Go.Proofs.Tryz.func100 Zk100 (by kernel_rfl) Zu100 (us_ok _) Za100 (fun(s:DStore) hp hb=> ?_)
 have hl_s_Items:=bd_eStore (x:=s) (hb _ m0)
 clear hp hb
 rw[Zv100 s]
 dsimp only
 have hF:(decide (1≤s.Next∧s.Next≤1000000)&&decide (s.Items.length≤40)&&allI s.Items.length (itemAtI s))=storeOk s:=by rw[store_same];rfl
 refine if_dec (fun a2=>Lf_ff ?_) (fun a2=>if_not (fun a1=>Lf_ff (by simp only[storeOk,a1,zbi])) (fun a1=> ?_))
 ·simp only[storeOk];rw[decide_eq_false (p:=s.Items.length≤40) (by omega),zbs,zbi]
 have a3:=of_decide_eq_true a1
 refine⟨⟨rfl,by omega,by omega,by intro j hj;omega⟩,?_⟩
 rintro⟨i,⟨b1,b2,⟨⟩⟩,⟨⟩⟩ ⟨hbx,h1,h2,hR⟩
 cases hbx
 simp only
 refine if_dec (fun hc=> ?_) (fun hc=> ?_)
 ·have hN:itemAtI s i.toNat=false→storeOk s=false:=fun h=>by
   have hf:allI s.Items.length (itemAtI s)=false:=allI_false (j:=i.toNat) (by omega) h
   rw[←hF,hf,zbs]
  have e1:(i-1).toNat=i.toNat-1:=by omega
  have c3:decide (0<i.toNat)=decide (i>0):=decide_eq_decide.2 (by omega)
  rw[wrap_i64 (n:=s.Next-1) (by omega) (by omega),wrap_i64 (n:=i-1) (by omega) (by omega),e1]
  have hnb:baseAt s i.toNat=false→storeOk s=false:=fun h=>hN (by simp only[itemAtI,h,zbi])
  refine⟨by omega,by omega,if_not (fun a=>Lf_ff (hnb (by simp only[baseAt,a,zbi]))) (fun a=>if_not (fun a'=>Lf_ff (hnb ?_)) (fun a'=>if_dec (fun p=>⟨by omega,by omega,if_dec (fun q=>Lf_ff (hnb ?_)) (fun q=> ?_)⟩) (fun p=> ?_)))⟩
  ·have a':=of_decide_eq_false a'
   by_cases g:1≤(List.getD s.Items i.toNat zItem).Id
   ·simp only[baseAt,decide_eq_false (show¬(List.getD s.Items i.toNat zItem).Id<s.Next by omega),zbs,zbi]
   ·simp only[baseAt,decide_eq_false g,zbs,zbi]
  ·simp only[baseAt,c3,decide_eq_true p,decide_eq_true q,zdb,zfa,zbs]
  ·have a':=of_decide_eq_true a'
   have hbase:baseAt s i.toNat=true:=by
    simp only[baseAt,a,decide_eq_true a'.1,decide_eq_true (show(List.getD s.Items i.toNat zItem).Id<s.Next by omega),decide_eq_false q,zbs,zea,zdb]
   refine⟨Int.le_refl 0,by simp only[zdf,zcj];omega,by simp only[zcj];omega,⟨rfl,rfl,rfl,by omega,by omega,by intro j hj;omega⟩,?_⟩
   rintro⟨i',k,⟨x1,x2,x3,⟨⟩⟩,⟨y1,y2,⟨⟩⟩,⟨⟩⟩ ⟨rfl,hx,hy,k1,k2,kR⟩
   cases hx
   cases hy
   simp only[zdf,zcj,show Int.toNat 0=0 from rfl,List.drop_zero]
   have etl:(List.take i'.toNat s.Items).length=i'.toNat:=by rw[zaw];omega
   refine if_dec (fun hk=> ?_) (fun hk=> ?_)
   ·rw[etl] at hk
    rw[getD_take s.Items zItem (show k.toNat<i'.toNat by omega),etl,wrap_i64 (n:=k+1) (by omega) (by omega)]
    refine⟨k1,by omega,if_dec (fun e=>Lf_ff (hN ?_)) (fun e=>⟨⟨rfl,rfl,rfl,by omega,by omega,upto_no (p:=fun j=>decide ((List.getD s.Items i'.toNat zItem).F=(List.getD s.Items j zItem).F)) k1 kR (decide_eq_false e)⟩,by simp only[Zm100_9];omega⟩)⟩
    have ha:(anyI i'.toNat fun k=>decide ((List.getD s.Items i'.toNat zItem).F=(List.getD s.Items k zItem).F))=true:=anyI_true (j:=k.toNat) (by omega) (decide_eq_true e)
    simp only[itemAtI,ha,zfa,zbs]
   ·rw[etl] at hk
    rw[wrap_i64 (n:=i'+1) (by omega) (by omega)]
    refine⟨⟨rfl,by omega,by omega,upto_step h1 hR ?_⟩,by simp only[Zm100_4];omega⟩
    have ha:(anyI i'.toNat fun k=>decide ((List.getD s.Items i'.toNat zItem).F=(List.getD s.Items k zItem).F))=false:=anyI_false fun j hj=>kR j (by omega)
    simp only[itemAtI,ha,hbase,zea,zdb]
  ·have a':=of_decide_eq_true a'
   have hbase:baseAt s i.toNat=true:=by
    simp only[baseAt,c3,a,decide_eq_true a'.1,decide_eq_true (show(List.getD s.Items i.toNat zItem).Id<s.Next by omega),decide_eq_false p,zbi,zea,zdb]
   refine⟨Int.le_refl 0,by simp only[zdf,zcj];omega,by simp only[zcj];omega,⟨rfl,rfl,rfl,by omega,by omega,by intro j hj;omega⟩,?_⟩
   rintro⟨i',k,⟨x1,x2,x3,⟨⟩⟩,⟨y1,y2,⟨⟩⟩,⟨⟩⟩ ⟨rfl,hx,hy,k1,k2,kR⟩
   cases hx
   cases hy
   simp only[zdf,zcj,show Int.toNat 0=0 from rfl,List.drop_zero]
   have etl:(List.take i'.toNat s.Items).length=i'.toNat:=by rw[zaw];omega
   refine if_dec (fun hk=> ?_) (fun hk=> ?_)
   ·rw[etl] at hk
    rw[getD_take s.Items zItem (show k.toNat<i'.toNat by omega),etl,wrap_i64 (n:=k+1) (by omega) (by omega)]
    refine⟨k1,by omega,if_dec (fun e=>Lf_ff (hN ?_)) (fun e=>⟨⟨rfl,rfl,rfl,by omega,by omega,upto_no (p:=fun j=>decide ((List.getD s.Items i'.toNat zItem).F=(List.getD s.Items j zItem).F)) k1 kR (decide_eq_false e)⟩,by simp only[Zm100_9];omega⟩)⟩
    have ha:(anyI i'.toNat fun k=>decide ((List.getD s.Items i'.toNat zItem).F=(List.getD s.Items k zItem).F))=true:=anyI_true (j:=k.toNat) (by omega) (decide_eq_true e)
    simp only[itemAtI,ha,zfa,zbs]
   ·rw[etl] at hk
    rw[wrap_i64 (n:=i'+1) (by omega) (by omega)]
    refine⟨⟨rfl,by omega,by omega,upto_step h1 hR ?_⟩,by simp only[Zm100_4];omega⟩
    have ha:(anyI i'.toNat fun k=>decide ((List.getD s.Items i'.toNat zItem).F=(List.getD s.Items k zItem).F))=false:=anyI_false fun j hj=>kR j (by omega)
    simp only[itemAtI,ha,hbase,zea,zdb]
 ·have hA:allI s.Items.length (itemAtI s)=true:=allI_true fun j hj=>hR j (by omega)
  refine Lf_tt ?_
  rw[←hF,hA,a1,decide_eq_true (show s.Items.length≤40 by omega)];rfl
def Zh100:HH:=⟨_,Zo100⟩
def Zk142:Con UU where
 α:=DItem×Int
 md:=[.ro,.ro]
 of:=oC (oA .lItem) (o1 oI)
 ds:=fun x=>[dA .lItem x.1,dI x.2]
 pre:=fun(a,left)=>[0≤left]
 res:=fun(a,left)=>⟨[.one (.lit (.int .i64 (szr left (sizeItem a))))],true,[]⟩
 law:=lC (lA .lItem) (l1 lI)
def Za142:Zk142.α→Nat→Option (Ann UU):=fun(a,left)=>annL []
def Zu142:=us [Zh16]
theorem Zv142(a:DItem)(left:Int):goal EE Zu142 Go.Proofs.Tryz.f142 Zk142 Za142 (a,left)=((0:Int)≤left∧bif decide (szr left (sizeFact a.F)<(0:Int)) then Li (-1:Int) (szr left (sizeItem a)) else Li (szr left (sizeFact a.F)) (szr left (sizeItem a))):=by kernel_rfl
theorem Zo142:Holds EE (142,Zk142):=by
 refine holds_of EE_ok Go.Proofs.Tryz.func142 Zk142 (by kernel_rfl) Zu142 (us_ok _) Za142 (fun x hp hb=> ?_)
 obtain⟨a,left⟩:=x
 have hz0:=bd_lItem (x:=a) (hb _ m0)
 have hl_a_F_Kind:=hz0.1
 have hl_a_F_Fields:=hz0.2
 have hl_left:=bdI (n:=left) (hb _ m1)
 have hp0:0≤left:=hp _ m0
 clear hp hb
 rw[Zv142 a left]
 refine⟨by omega,if_cond (fun h=>Lf_i (szr_bad' ?_)) (fun h=> ?_)⟩
 ·have h:=szr_neg h;simp only[sizeItem];omega
 obtain⟨e0,h0⟩:=szr_pos h
 rw[e0]
 exact Lf_i (by rw[←szr_ok' (by simp only[sizeItem];omega)];simp only[sizeItem];try omega)
def Zh142:HH:=⟨_,Zo142⟩
def Zk161:Con UU where
 α:=DItem
 md:=[.ro]
 of:=o1 (oA .lItem)
 ds:=fun x=>[dA .lItem x]
 pre:=fun a=>[sizeItem a≤4294967296]
 res:=fun a=>⟨[.agg [.lit (.int .i64 a.Id),.lit (.string a.F.Kind),.sl .eVal a.F.Fields]],true,[]⟩
 law:=l1 (lA .lItem)
def Za161:Zk161.α→Nat→Option (Ann UU):=fun a=>annL []
def Zu161:=us [Zh18]
theorem Zv161(a:DItem):goal EE Zu161 Go.Proofs.Tryz.f161 Zk161 Za161 a=(sizeFact a.F≤(4294967296:Nat)∧Lf [DV.agg [Cell.lit (Value.int IntKind.i64 a.Id),Cell.lit (Value.string a.F.Kind),Cell.sl Cd.eVal a.F.Fields]] [DV.agg [Cell.lit (Value.int IntKind.i64 a.Id),Cell.lit (Value.string a.F.Kind),Cell.sl Cd.eVal a.F.Fields]]):=by kernel_rfl
theorem Zo161:Holds EE (161,Zk161):=by
 refine holds_of EE_ok Go.Proofs.Tryz.func161 Zk161 (by kernel_rfl) Zu161 (us_ok _) Za161 (fun(a:DItem) hp hb=> ?_)
 have hz0:=bd_lItem (x:=a) (hb _ m0)
 have hl_a_F_Kind:=hz0.1
 have hl_a_F_Fields:=hz0.2
 have hp0:sizeItem a≤4294967296:=hp _ m0
 clear hp hb
 rw[Zv161 a]
 simp only[sizeItem] at hp0
 repeat' (first|exact Lf_rfl _|(refine And.intro (by omega) ?_))
def Zh161:HH:=⟨_,Zo161⟩
def Zk183:Con UU where
 α:=DItem×DItem
 md:=[.ro,.ro]
 of:=oC (oA .eItem) (o1 (oA .eItem))
 ds:=fun x=>[dA .eItem x.1,dA .eItem x.2]
 pre:=fun _=>[]
 res:=fun(a,b)=>⟨[.one (.lit (.bool (decide (a=b))))],true,[]⟩
 law:=lC (lA .eItem) (l1 (lA .eItem))
def Za183:Zk183.α→Nat→Option (Ann UU):=fun(a,b)=>annL []
def Zu183:=us [Zh20]
theorem Zv183(a:DItem)(b:DItem):goal EE Zu183 Go.Proofs.Tryz.f183 Zk183 Za183 (a,b)=(bif a.Id !=b.Id then Lb false (decide (a=b)) else bif !decide (a.F=b.F) then Lb false (decide (a=b)) else Lb true (decide (a=b))):=by kernel_rfl
theorem Zo183:Holds EE (183,Zk183):=by
 refine holds_of EE_ok Go.Proofs.Tryz.func183 Zk183 (by kernel_rfl) Zu183 (us_ok _) Za183 (fun x hp hb=> ?_)
 obtain⟨a,b⟩:=x
 have hz0:=bd_eItem (x:=a) (hb _ m0)
 have hl_a_F_Kind:=hz0.1
 have hl_a_F_Fields:=hz0.2
 have hz1:=bd_eItem (x:=b) (hb _ m1)
 have hl_b_F_Kind:=hz1.1
 have hl_b_F_Fields:=hz1.2
 clear hp hb
 rw[Zv183 a b]
 obtain⟨aId,aF⟩:=a
 obtain⟨bId,bF⟩:=b
 repeat' (apply if_cond<;>intro _)
 all_goals (first|apply Lf_t|apply Lf_f)<;>simp_all
def Zh183:HH:=⟨_,Zo183⟩
def Zk66:Con UU where
 α:=(List DItem)×Int
 md:=[.ro,.ro]
 of:=oC (oL .lItem) (o1 oI)
 ds:=fun x=>[dL .lItem x.1,dI x.2]
 pre:=fun(a,left)=>[0≤left]
 res:=fun(a,left)=>⟨[.one (.lit (.int .i64 (szr left (sizeItemS a))))],true,[]⟩
 law:=lC (lL .lItem) (l1 lI)
def Zi66_5(a:(List DItem))(left:Int):Int×Int×Unit→Prop:=szI sizeItem a (sizeItemS a) left
def Zm66_5(a:(List DItem))(left:Int):Int×Int×Unit→Nat:=rM2 a
def Za66:Zk66.α→Nat→Option (Ann UU):=fun(a,left)=>annL [(5,annOf [.slot 1 (1,1024) (.lit (.int .i64)),.slot 5 (5,1024) (.lit (.int .i64))] (fun _=>Zi66_5 a left) (Zm66_5 a left))]
def Zu66:=us [Zh142]
theorem Zv66(a:(List DItem))(left:Int):goal EE Zu66 Go.Proofs.Tryz.f66 Zk66 Za66 (a,left)=(szV sizeItem zItem a (sizeItemS a) left):=by kernel_rfl
theorem Zo66:Holds EE (66,Zk66):=by
 refine holds_of EE_ok Go.Proofs.Tryz.func66 Zk66 (by kernel_rfl) Zu66 (us_ok _) Za66 (fun x hp hb=> ?_)
 obtain⟨a,left⟩:=x
 have hl_a:a.length≤9223372036854775807:=bdL (hb _ m0)
 have hl_left:=bdI (n:=left) (hb _ m1)
 have hp0:0≤left:=hp _ m0
 clear hp hb
 rw[Zv66 a left]
 exact szV_ok rfl hp0 hl_left hl_a
def Zh66:HH:=⟨_,Zo66⟩
def Zk89:Con UU where
 α:=(List DItem)
 md:=[.ro]
 of:=o1 (oL .lItem)
 ds:=fun x=>[dL .lItem x]
 pre:=fun a=>[sizeItemS a≤4294967296]
 res:=fun a=>⟨[.one (.sl .eItem a)],true,[]⟩
 law:=l1 (lL .lItem)
def Zi89_3(a:(List DItem)):List DItem×Int×Unit→Prop:=toI zItem a
def Zm89_3(a:(List DItem)):List DItem×Int×Unit→Nat:=rM2 a
def Za89:Zk89.α→Nat→Option (Ann UU):=fun a=>annL [(3,annOf [.slot 3 (3,1024) (.own .eItem true),.slot 4 (4,1024) (.lit (.int .i64))] (fun _=>Zi89_3 a) (Zm89_3 a))]
def Zu89:=us [Zh161]
theorem Zv89(a:(List DItem)):goal EE Zu89 Go.Proofs.Tryz.f89 Zk89 Za89 a=(toV sizeItem zItem a fun y=>Lf [.one (.sl .eItem y)] [.one (.sl .eItem a)]):=by kernel_rfl
theorem Zo89:Holds EE (89,Zk89):=by
 refine holds_of EE_ok Go.Proofs.Tryz.func89 Zk89 (by kernel_rfl) Zu89 (us_ok _) Za89 (fun(a:(List DItem)) hp hb=> ?_)
 have hl_a:a.length≤9223372036854775807:=bdL (hb _ m0)
 have hp0:sizeItemS a≤4294967296:=hp _ m0
 clear hp hb
 rw[Zv89 a]
 exact toV_ok hp0 (Lf_rfl _)
def Zh89:HH:=⟨_,Zo89⟩
def Zk112:Con UU where
 α:=(List DItem)×(List DItem)
 md:=[.ro,.ro]
 of:=oC (oL .eItem) (o1 (oL .eItem))
 ds:=fun x=>[dL .eItem x.1,dL .eItem x.2]
 pre:=fun _=>[]
 res:=fun(a,b)=>⟨[.one (.lit (.bool (decide (a=b))))],true,[]⟩
 law:=lC (lL .eItem) (l1 (lL .eItem))
def Zi112_4(a:(List DItem))(b:(List DItem)):Int×Unit→Prop:=eqI a b
def Zm112_4(a:(List DItem))(b:(List DItem)):Int×Unit→Nat:=rM1 a
def Za112:Zk112.α→Nat→Option (Ann UU):=fun(a,b)=>annL [(4,annOf [.slot 5 (5,1024) (.lit (.int .i64))] (fun _=>Zi112_4 a b) (Zm112_4 a b))]
def Zu112:=us [Zh183]
theorem Zv112(a:(List DItem))(b:(List DItem)):goal EE Zu112 Go.Proofs.Tryz.f112 Zk112 Za112 (a,b)=(eqV zItem a b):=by kernel_rfl
theorem Zo112:Holds EE (112,Zk112):=by
 refine holds_of EE_ok Go.Proofs.Tryz.func112 Zk112 (by kernel_rfl) Zu112 (us_ok _) Za112 (fun x hp hb=> ?_)
 obtain⟨a,b⟩:=x
 have hl_a:a.length≤9223372036854775807:=bdL (hb _ m0)
 have hl_b:b.length≤9223372036854775807:=bdL (hb _ m1)
 clear hp hb
 rw[Zv112 a b]
 exact eqV_ok hl_a
def Zh112:HH:=⟨_,Zo112⟩
def Zk122:Con UU where
 α:=(List DItem)×Int
 md:=[.wr,.ro]
 of:=oC (oL .eItem) (o1 oI)
 ds:=fun x=>[dL .eItem x.1,dI x.2]
 pre:=fun(a,k)=>[0≤k,k+cntItemS a≤4611686018427387904]
 res:=fun(a,k)=>⟨[.one (.lit (.int .i64 (k+cntItemS a)))],true,[.one (.sl .eItem (markItemS a k))]⟩
 law:=lC (lL .eItem) (l1 lI)
def Zi122_2(a:(List DItem))(k:Int):List DItem×Int×Int×Unit→Prop:=fun(row,kk,i,_)=>0≤i∧i≤a.length∧row=(mkS markItem cntItem a k).take i.toNat++a.drop i.toNat∧kk=k+ctS cntItem (a.take i.toNat)
def Zm122_2(a:(List DItem))(k:Int):List DItem×Int×Int×Unit→Nat:=fun(row,kk,i,_)=>a.length-i.toNat
def Za122:Zk122.α→Nat→Option (Ann UU):=fun(a,k)=>annL [(2,annOf [.slot 0 (2000000,0) (.own .eItem true),.slot 1 (1,1024) (.lit (.int .i64)),.slot 5 (5,1024) (.lit (.int .i64))] (fun _=>Zi122_2 a k) (Zm122_2 a k))]
def Zu122:=us [Zh118,Zh64]
theorem Zv122(a:(List DItem))(k:Int):goal EE Zu122 Go.Proofs.Tryz.f122 Zk122 Za122 (a,k)=(Zi122_2 a k (a,k,(0:Int),())∧
 ∀(y:List DItem×Int×Int×PUnit),
  let x1:Nat:=Int.toNat y.2.2.1;
  let x3:Int:=IntKind.wrap IntKind.i64 (y.2.1+(1:Int));
  let x4:List DItem:=List.modify y.1 x1 fun(x:DItem)=>{Id:=y.2.1,F:=x.F:DItem};
  let x0:List DItem:=List.modify x4 x1 fun(x:DItem)=>{Id:=x.Id,F:={Kind:=markText x3,Fields:=x.F.Fields:DFact}:DItem};
  let x2:Int:=IntKind.wrap IntKind.i64 (x3+(1:Int));
  let x5:Int:=x2+(↑(cntValS (List.getD x0 x1 zItem).F.Fields):Int);
  Zi122_2 a k y→bif decide (y.2.2.1<(↑(List.length y.1):Int)) then(0:Int)≤y.2.2.1∧x1<List.length y.1∧x1<List.length y.1∧x3≤(4611686018427387903:Int)∧(0:Int)≤y.2.2.1∧x1<List.length x4∧x1<List.length x4∧(0:Int)≤y.2.2.1∧x1<List.length x0∧x1<List.length x0∧x1<List.length x0∧(0:Int)≤x2∧x5≤(4611686018427387904:Int)∧Zi122_2 a k (List.modify x0 x1 fun(x:DItem)=>{Id:=x.Id,F:={Kind:=x.F.Kind,Fields:=markValS (List.getD x0 x1 zItem).F.Fields x2:DFact}:DItem},x5,IntKind.wrap IntKind.i64 (y.2.2.1+(1:Int)),PUnit.unit)∧Zm122_2 a k (List.modify x0 x1 fun(x:DItem)=>{Id:=x.Id,F:={Kind:=x.F.Kind,Fields:=markValS (List.getD x0 x1 zItem).F.Fields x2:DFact}:DItem},x5,IntKind.wrap IntKind.i64 (y.2.2.1+(1:Int)),PUnit.unit)<Zm122_2 a k y else asD [DV.one (Cell.lit (Value.int IntKind.i64 y.2.1))]=asD [DV.one (Cell.lit (Value.int IntKind.i64 (k+(↑(cntItemS a):Int))))]∧asD [DV.one (Cell.sl Cd.eItem y.1)]=asD [DV.one (Cell.sl Cd.eItem (markItemS a k))]):=by kernel_rfl
theorem Zo122:Holds EE (122,Zk122):=by
 refine holds_of EE_ok Go.Proofs.Tryz.func122 Zk122 (by kernel_rfl) Zu122 (us_ok _) Za122 (fun x hp hb=> ?_)
 obtain⟨a,k⟩:=x
 have hl_a:a.length≤9223372036854775807:=bdL (hb _ m0)
 have hl_k:=bdI (n:=k) (hb _ m1)
 have hp0:0≤k:=hp _ m0
 have hp1:k+cntItemS a≤4611686018427387904:=hp _ m1
 clear hp hb
 rw[Zv122 a k]
 dsimp only
 refine⟨⟨by omega,by omega,by simp,by simp[ctS]⟩,?_⟩
 rintro⟨row,kk,i,⟨⟩⟩ ⟨h1,h2,rfl,rfl⟩
 simp only
 have hl:=mk_rl markItem cntItem a k h1 h2
 refine if_cond (fun hc=> ?_) (fun hc=> ?_)
 ·have hc:i<a.length:=by have hc:=of_decide_eq_true hc;omega
  have hct:=ctS_take cntItem a zItem h1 hc
  have hle:=ctS_take_le cntItem a (i+1).toNat
  have hg:=mk_getD _ a zItem (mk_tl markItem cntItem a k h1 h2) h1 hc
  have hM:=fun F hF=>mkS_mod markItem cntItem a zItem k (i:=i) F h1 hc hF
  have hq:(cntItemS a:Int)=ctS cntItem a:=rfl
  generalize List.getD a i.toNat zItem=x at*
  generalize hkk:k+(ctS cntItem (a.take i.toNat):Int)=kk at*
  generalize List.take i.toNat (mkS markItem cntItem a k)++List.drop i.toNat a=R at*
  simp only[cntItem] at hct
  simp(disch:=first|omega|(simp only[zbf];omega)) only[zbf,wrap_i64,getD_modify,modify_modify,hg,hl]
  repeat' (first|refine And.intro (by omega) ?_|fail)
  exact⟨⟨by omega,by omega,hM _ (by first|rfl|(simp only[markItem,markBool];rw[zbp (by omega)];rfl)),by omega⟩,by simp only[Zm122_2];omega⟩
 ·have hc:a.length≤i:=by have hc:=of_decide_eq_false hc;omega
  rw[mk_done markItem cntItem a k hc,ct_done cntItem a hc]
  exact⟨rfl,rfl⟩
def Zh122:HH:=⟨_,Zo122⟩
def Zk125:Con UU where
 α:=(List DItem)×Int
 md:=[.ro,.ro]
 of:=oC (oL .eItem) (o1 oI)
 ds:=fun x=>[dL .eItem x.1,dI x.2]
 pre:=fun(a,k)=>[0≤k,k+cntItemS a≤4611686018427387904]
 res:=fun(a,k)=>⟨[.one (.lit (.int .i64 (if markItemS a k=a then k+cntItemS a else-1)))],true,[]⟩
 law:=lC (lL .eItem) (l1 lI)
def Zi125_2(a:(List DItem))(k:Int):Int×Int×Unit→Prop:=fun(kk,i,_)=>0≤i∧i≤a.length∧kk=k+ctS cntItem (a.take i.toNat)∧(mkS markItem cntItem (a.drop i.toNat) kk=a.drop i.toNat↔mkS markItem cntItem a k=a)
def Zm125_2(a:(List DItem))(k:Int):Int×Int×Unit→Nat:=fun(kk,i,_)=>a.length-i.toNat
def Za125:Zk125.α→Nat→Option (Ann UU):=fun(a,k)=>annL [(2,annOf [.slot 1 (1,1024) (.lit (.int .i64)),.slot 5 (5,1024) (.lit (.int .i64))] (fun _=>Zi125_2 a k) (Zm125_2 a k))]
def Zu125:=us [Zh118,Zh128]
theorem Zv125(a:(List DItem))(k:Int):goal EE Zu125 Go.Proofs.Tryz.f125 Zk125 Za125 (a,k)=(Zi125_2 a k (k,(0:Int),())∧
 ∀(y:Int×Int×PUnit),
  let x4:Nat:=Int.toNat y.2.1;
  let x6:Int:=IntKind.wrap IntKind.i64 (y.1+(1:Int));
  let x3:DItem:=List.getD a x4 zItem;
  let x5:Int:=IntKind.wrap IntKind.i64 (x6+(1:Int));
  let x2:DFact:=x3.F;
  let x1:List DVal:=x2.Fields;
  let x0:Int:=if markValS x1 x5=x1 then x5+(↑(cntValS x1):Int) else(-1:Int);
  Zi125_2 a k y→bif decide (y.2.1<(↑(List.length a):Int)) then(0:Int)≤y.2.1∧x4<List.length a∧bif x3.Id !=y.1 then Lf [DV.one (Cell.lit (Value.int IntKind.i64 (-1:Int)))] [DV.one (Cell.lit (Value.int IntKind.i64 (if markItemS a k=a then k+(↑(cntItemS a):Int) else(-1:Int))))] else(0:Int)≤y.2.1∧x4<List.length a∧x6≤(4611686018427387903:Int)∧bif !ByteArray.toList x2.Kind==ByteArray.toList (markText x6) then Lf [DV.one (Cell.lit (Value.int IntKind.i64 (-1:Int)))] [DV.one (Cell.lit (Value.int IntKind.i64 (if markItemS a k=a then k+(↑(cntItemS a):Int) else(-1:Int))))] else(0:Int)≤y.2.1∧x4<List.length a∧(0:Int)≤x5∧x5+(↑(cntValS x1):Int)≤(4611686018427387904:Int)∧bif decide (x0<(0:Int)) then Lf [DV.one (Cell.lit (Value.int IntKind.i64 (-1:Int)))] [DV.one (Cell.lit (Value.int IntKind.i64 (if markItemS a k=a then k+(↑(cntItemS a):Int) else(-1:Int))))] else Zi125_2 a k (x0,IntKind.wrap IntKind.i64 (y.2.1+(1:Int)),PUnit.unit)∧Zm125_2 a k (x0,IntKind.wrap IntKind.i64 (y.2.1+(1:Int)),PUnit.unit)<Zm125_2 a k y else Lf [DV.one (Cell.lit (Value.int IntKind.i64 y.1))] [DV.one (Cell.lit (Value.int IntKind.i64 (if markItemS a k=a then k+(↑(cntItemS a):Int) else(-1:Int))))]):=by kernel_rfl
theorem Zo125:Holds EE (125,Zk125):=by
 refine holds_of EE_ok Go.Proofs.Tryz.func125 Zk125 (by kernel_rfl) Zu125 (us_ok _) Za125 (fun x hp hb=> ?_)
 obtain⟨a,k⟩:=x
 have hl_a:a.length≤9223372036854775807:=bdL (hb _ m0)
 have hl_k:=bdI (n:=k) (hb _ m1)
 have hp0:0≤k:=hp _ m0
 have hp1:k+cntItemS a≤4611686018427387904:=hp _ m1
 clear hp hb
 rw[Zv125 a k]
 dsimp only
 refine⟨⟨by omega,by omega,by simp[ctS],by simp⟩,?_⟩
 rintro⟨kk,i,⟨⟩⟩ ⟨h1,h2,hkk,hR⟩
 simp only
 simp only[markItemS]
 refine if_cond (fun hc=> ?_) (fun hc=> ?_)
 ·have hc:i<a.length:=by have hc:=of_decide_eq_true hc;omega
  have hct:=ctS_take cntItem a zItem h1 hc
  have hle:=ctS_take_le cntItem a (i+1).toNat
  have hq:(cntItemS a:Int)=ctS cntItem a:=rfl
  rw[drop_step a zItem h1 hc] at hR
  generalize List.getD a i.toNat zItem=x at*
  simp only[mkS,zdd] at hR
  have e:kk+(cntItem x:Int)=kk+1+1+(cntValS x.F.Fields:Int):=by first|(simp only[cntItem];done)|(simp only[cntItem];omega)
  rw[e] at hR
  simp only[markItem,cntItem] at hR hct
  simp(disch:=omega) only[wrap_i64,bne_int,toList_beq]
  obtain⟨x_Id,⟨x_F_Kind,x_F_Fields⟩⟩:=x
  simp only[DFact.mk.injEq,DItem.mk.injEq] at*
  repeat' (first|refine And.intro (by omega) ?_|fail)
  refine if_cond (fun h=>Lf_no (fun hh=> ?_)) (fun h=> ?_)
  ·have hh:=hR.2 hh;simp_all
  have h:x_Id=kk:=by simpa using h
  subst x_Id
  repeat' (first|refine And.intro (by omega) ?_|fail)
  refine if_cond (fun h=>Lf_no (fun hh=> ?_)) (fun h=> ?_)
  ·have hh:=hR.2 hh;simp_all
  have h:x_F_Kind=markText (kk+1):=by simpa using h
  subst x_F_Kind
  repeat' (first|refine And.intro (by omega) ?_|fail)
  by_cases hm:markValS x_F_Fields (kk+1+1)=x_F_Fields
  rotate_left
  ·simp only[if_neg hm];rw[cond_yes (by decide)]
   exact Lf_no (fun hh=>hm (by have hh:=hR.2 hh;simp_all))
  simp only[if_pos hm]
  refine if_cond (fun h=>absurd (of_decide_eq_true h) (by omega)) (fun h=> ?_)
  simp only[hm] at hR
  clear hm
  exact⟨⟨by omega,by omega,by omega,by simpa using hR⟩,by simp only[Zm125_2];omega⟩
 ·have hc:a.length≤i:=by have hc:=of_decide_eq_false hc;omega
  rw[drop_end a hc] at hR
  exact Lf_yes (hR.1 rfl) (by rw[hkk,ct_done _ _ hc];rfl)
def Zh125:HH:=⟨_,Zo125⟩
def Zk23:Con UU where
 α:=DStore×Int
 md:=[.ro,.ro]
 of:=oC (oA .lStore) (o1 oI)
 ds:=fun x=>[dA .lStore x.1,dI x.2]
 pre:=fun(a,left)=>[0≤left]
 res:=fun(a,left)=>⟨[.one (.lit (.int .i64 (szr left (sizeStore a))))],true,[]⟩
 law:=lC (lA .lStore) (l1 lI)
def Za23:Zk23.α→Nat→Option (Ann UU):=fun(a,left)=>annL []
def Zu23:=us [Zh66]
theorem Zv23(a:DStore)(left:Int):goal EE Zu23 Go.Proofs.Tryz.f23 Zk23 Za23 (a,left)=((0:Int)≤left∧bif decide (szr left (sizeItemS a.Items)<(0:Int)) then Li (-1:Int) (szr left (sizeStore a)) else Li (szr left (sizeItemS a.Items)) (szr left (sizeStore a))):=by kernel_rfl
theorem Zo23:Holds EE (23,Zk23):=by
 refine holds_of EE_ok Go.Proofs.Tryz.func23 Zk23 (by kernel_rfl) Zu23 (us_ok _) Za23 (fun x hp hb=> ?_)
 obtain⟨a,left⟩:=x
 have hl_a_Items:=bd_lStore (x:=a) (hb _ m0)
 have hl_left:=bdI (n:=left) (hb _ m1)
 have hp0:0≤left:=hp _ m0
 clear hp hb
 rw[Zv23 a left]
 refine⟨by omega,if_cond (fun h=>Lf_i (szr_bad' ?_)) (fun h=> ?_)⟩
 ·have h:=szr_neg h;simp only[sizeStore];omega
 obtain⟨e0,h0⟩:=szr_pos h
 rw[e0]
 exact Lf_i (by rw[←szr_ok' (by simp only[sizeStore];omega)];simp only[sizeStore];try omega)
def Zh23:HH:=⟨_,Zo23⟩
def Zk32:Con UU where
 α:=DStore
 md:=[.ro]
 of:=o1 (oA .lStore)
 ds:=fun x=>[dA .lStore x]
 pre:=fun a=>[sizeStore a≤4294967296]
 res:=fun a=>⟨[.agg [.sl .eItem a.Items,.lit (.int .i64 a.Next)]],true,[]⟩
 law:=l1 (lA .lStore)
def Za32:Zk32.α→Nat→Option (Ann UU):=fun a=>annL []
def Zu32:=us [Zh89]
theorem Zv32(a:DStore):goal EE Zu32 Go.Proofs.Tryz.f32 Zk32 Za32 a=(sizeItemS a.Items≤(4294967296:Nat)∧Lf [DV.agg [Cell.sl Cd.eItem a.Items,Cell.lit (Value.int IntKind.i64 a.Next)]] [DV.agg [Cell.sl Cd.eItem a.Items,Cell.lit (Value.int IntKind.i64 a.Next)]]):=by kernel_rfl
theorem Zo32:Holds EE (32,Zk32):=by
 refine holds_of EE_ok Go.Proofs.Tryz.func32 Zk32 (by kernel_rfl) Zu32 (us_ok _) Za32 (fun(a:DStore) hp hb=> ?_)
 have hl_a_Items:=bd_lStore (x:=a) (hb _ m0)
 have hp0:sizeStore a≤4294967296:=hp _ m0
 clear hp hb
 rw[Zv32 a]
 simp only[sizeStore] at hp0
 repeat' (first|exact Lf_rfl _|(refine And.intro (by omega) ?_))
def Zh32:HH:=⟨_,Zo32⟩
def Zk40:Con UU where
 α:=DStore×DStore
 md:=[.ro,.ro]
 of:=oC (oA .eStore) (o1 (oA .eStore))
 ds:=fun x=>[dA .eStore x.1,dA .eStore x.2]
 pre:=fun _=>[]
 res:=fun(a,b)=>⟨[.one (.lit (.bool (decide (a=b))))],true,[]⟩
 law:=lC (lA .eStore) (l1 (lA .eStore))
def Za40:Zk40.α→Nat→Option (Ann UU):=fun(a,b)=>annL []
def Zu40:=us [Zh112]
theorem Zv40(a:DStore)(b:DStore):goal EE Zu40 Go.Proofs.Tryz.f40 Zk40 Za40 (a,b)=(bif !decide (a.Items=b.Items) then Lb false (decide (a=b)) else bif a.Next !=b.Next then Lb false (decide (a=b)) else Lb true (decide (a=b))):=by kernel_rfl
theorem Zo40:Holds EE (40,Zk40):=by
 refine holds_of EE_ok Go.Proofs.Tryz.func40 Zk40 (by kernel_rfl) Zu40 (us_ok _) Za40 (fun x hp hb=> ?_)
 obtain⟨a,b⟩:=x
 have hl_a_Items:=bd_eStore (x:=a) (hb _ m0)
 have hl_b_Items:=bd_eStore (x:=b) (hb _ m1)
 clear hp hb
 rw[Zv40 a b]
 obtain⟨aItems,aNext⟩:=a
 obtain⟨bItems,bNext⟩:=b
 repeat' (apply if_cond<;>intro _)
 all_goals (first|apply Lf_t|apply Lf_f)<;>simp_all
def Zh40:HH:=⟨_,Zo40⟩
def Zk47:Con UU where
 α:=DStore×Int
 md:=[.wr,.ro]
 of:=oC (oA .eStore) (o1 oI)
 ds:=fun x=>[dA .eStore x.1,dI x.2]
 pre:=fun(a,k)=>[0≤k,k+ctStore a≤4611686018427387904]
 res:=fun(a,k)=>⟨[.one (.lit (.int .i64 (k+ctStore a)))],true,[.agg [.sl .eItem ((mkStore a k)).Items,.lit (.int .i64 ((mkStore a k)).Next)]]⟩
 law:=lC (lA .eStore) (l1 lI)
def Za47:Zk47.α→Nat→Option (Ann UU):=fun(a,k)=>annL []
def Zu47:=us [Zh122]
theorem Zv47(a:DStore)(k:Int):goal EE Zu47 Go.Proofs.Tryz.f47 Zk47 Za47 (a,k)=((0:Int)≤k∧k+(↑(cntItemS a.Items):Int)≤(4611686018427387904:Int)∧asD [DV.one (Cell.lit (Value.int IntKind.i64 (k+(↑(cntItemS a.Items):Int))))]=asD [DV.one (Cell.lit (Value.int IntKind.i64 (k+(↑(ctStore a):Int))))]∧asD [DV.agg [Cell.sl Cd.eItem (markItemS a.Items k),Cell.lit (Value.int IntKind.i64 a.Next)]]=asD [DV.agg [Cell.sl Cd.eItem (mkStore a k).Items,Cell.lit (Value.int IntKind.i64 (mkStore a k).Next)]]):=by kernel_rfl
theorem Zo47:Holds EE (47,Zk47):=by
 refine holds_of EE_ok Go.Proofs.Tryz.func47 Zk47 (by kernel_rfl) Zu47 (us_ok _) Za47 (fun x hp hb=> ?_)
 obtain⟨a,k⟩:=x
 have hl_a_Items:=bd_eStore (x:=a) (hb _ m0)
 have hl_k:=bdI (n:=k) (hb _ m1)
 have hp0:0≤k:=hp _ m0
 have hp1:k+ctStore a≤4611686018427387904:=hp _ m1
 clear hp hb
 rw[Zv47 a k]
 simp only[ctStore] at hp1
 repeat' (first|refine And.intro (by omega) ?_|fail)
 exact⟨by simp only[ctStore,Int.natCast_add,Int.add_assoc],rfl⟩
def Zh47:HH:=⟨_,Zo47⟩
def Zk52:Con UU where
 α:=DStore×Int
 md:=[.ro,.ro]
 of:=oC (oA .eStore) (o1 oI)
 ds:=fun x=>[dA .eStore x.1,dI x.2]
 pre:=fun(a,k)=>[0≤k,k+ctStore a≤4611686018427387904]
 res:=fun(a,k)=>⟨[.one (.lit (.int .i64 (if mkStore a k=a then k+ctStore a else-1)))],true,[]⟩
 law:=lC (lA .eStore) (l1 lI)
def Za52:Zk52.α→Nat→Option (Ann UU):=fun(a,k)=>annL []
def Zu52:=us [Zh125]
theorem Zv52(a:DStore)(k:Int):goal EE Zu52 Go.Proofs.Tryz.f52 Zk52 Za52 (a,k)=(let x0:Int:=if markItemS a.Items k=a.Items then k+(↑(cntItemS a.Items):Int) else(-1:Int);
(0:Int)≤k∧k+(↑(cntItemS a.Items):Int)≤(4611686018427387904:Int)∧bif decide (x0<(0:Int)) then Lf [DV.one (Cell.lit (Value.int IntKind.i64 (-1:Int)))] [DV.one (Cell.lit (Value.int IntKind.i64 (if mkStore a k=a then k+(↑(ctStore a):Int) else(-1:Int))))] else Lf [DV.one (Cell.lit (Value.int IntKind.i64 x0))] [DV.one (Cell.lit (Value.int IntKind.i64 (if mkStore a k=a then k+(↑(ctStore a):Int) else(-1:Int))))]):=by kernel_rfl
theorem Zo52:Holds EE (52,Zk52):=by
 refine holds_of EE_ok Go.Proofs.Tryz.func52 Zk52 (by kernel_rfl) Zu52 (us_ok _) Za52 (fun x hp hb=> ?_)
 obtain⟨a,k⟩:=x
 have hl_a_Items:=bd_eStore (x:=a) (hb _ m0)
 have hl_k:=bdI (n:=k) (hb _ m1)
 have hp0:0≤k:=hp _ m0
 have hp1:k+ctStore a≤4611686018427387904:=hp _ m1
 clear hp hb
 rw[Zv52 a k]
 dsimp only
 simp only[ctStore] at hp1
 repeat' (first|refine And.intro (by omega) ?_|fail)
 by_cases hm1:markItemS a.Items (k)=a.Items
 rotate_left
 ·simp only[if_neg hm1];rw[cond_yes (by decide)]
  exact Lf_no (fun hh=>hm1 (congrArg (fun t:DStore=>t.Items) hh))
 simp only[if_pos hm1]
 refine if_cond (fun h=>absurd (of_decide_eq_true h) (by omega)) (fun h=> ?_)
 exact Lf_yes (by simp only[mkStore,hm1]) (by simp only[ctStore];try omega)
def Zh52:HH:=⟨_,Zo52⟩
def Zk233:Con UU where
 α:=DArg×Int
 md:=[.ro,.ro]
 of:=oC (oA .lArg) (o1 oI)
 ds:=fun x=>[dA .lArg x.1,dI x.2]
 pre:=fun(a,left)=>[0≤left]
 res:=fun(a,left)=>⟨[.one (.lit (.int .i64 (szr left (sizeArg a))))],true,[]⟩
 law:=lC (lA .lArg) (l1 lI)
def Za233:Zk233.α→Nat→Option (Ann UU):=fun(a,left)=>annL []
def Zu233:=us [Zh129]
theorem Zv233(a:DArg)(left:Int):goal EE Zu233 Go.Proofs.Tryz.f233 Zk233 Za233 (a,left)=(let x0:Int:=IntKind.wrap IntKind.i64 (left-(↑(ByteArray.size a.S):Int));
bif decide (x0<(0:Int)) then Lf [DV.one (Cell.lit (Value.int IntKind.i64 (-1:Int)))] [DV.one (Cell.lit (Value.int IntKind.i64 (szr left (sizeArg a))))] else(0:Int)≤x0∧bif decide (szr x0 (sizeVal a.V)<(0:Int)) then Lf [DV.one (Cell.lit (Value.int IntKind.i64 (-1:Int)))] [DV.one (Cell.lit (Value.int IntKind.i64 (szr left (sizeArg a))))] else Lf [DV.one (Cell.lit (Value.int IntKind.i64 (szr x0 (sizeVal a.V))))] [DV.one (Cell.lit (Value.int IntKind.i64 (szr left (sizeArg a))))]):=by kernel_rfl
theorem Zo233:Holds EE (233,Zk233):=by
 refine holds_of EE_ok Go.Proofs.Tryz.func233 Zk233 (by kernel_rfl) Zu233 (us_ok _) Za233 (fun x hp hb=> ?_)
 obtain⟨a,left⟩:=x
 have hz0:=bd_lArg (x:=a) (hb _ m0)
 have hl_a_S:=hz0.1
 have hl_a_V_S:=hz0.2
 have hl_left:=bdI (n:=left) (hb _ m1)
 have hp0:0≤left:=hp _ m0
 clear hp hb
 rw[Zv233 a left]
 dsimp only
 rw[wrap_i64 (by omega) (by omega)]
 refine if_cond (fun h=>Lf_i (szr_bad' ?_)) (fun h=> ?_)
 ·have h:=of_decide_eq_true h;simp only[sizeArg];omega
 have h0:=of_decide_eq_false h
 refine⟨by omega,if_cond (fun h=>Lf_i (szr_bad' ?_)) (fun h=> ?_)⟩
 ·have h:=szr_neg h;simp only[sizeArg];omega
 obtain⟨e1,h1⟩:=szr_pos h
 rw[e1]
 exact Lf_i (by rw[←szr_ok' (by simp only[sizeArg];omega)];simp only[sizeArg];try omega)
def Zh233:HH:=⟨_,Zo233⟩
def Zk242:Con UU where
 α:=DArg
 md:=[.ro]
 of:=o1 (oA .lArg)
 ds:=fun x=>[dA .lArg x]
 pre:=fun a=>[sizeArg a≤4294967296]
 res:=fun a=>⟨[.agg [.lit (.int .i64 a.K),.lit (.string a.S),.lit (.int .i64 a.V.K),.lit (.int .i64 a.V.N),.lit (.string a.V.S)]],true,[]⟩
 law:=l1 (lA .lArg)
def Za242:Zk242.α→Nat→Option (Ann UU):=fun a=>annL []
def Zu242:=us [Zh133]
theorem Zv242(a:DArg):goal EE Zu242 Go.Proofs.Tryz.f242 Zk242 Za242 a=(sizeVal a.V≤(4294967296:Nat)∧Lf [DV.agg [Cell.lit (Value.int IntKind.i64 a.K),Cell.lit (Value.string a.S),Cell.lit (Value.int IntKind.i64 a.V.K),Cell.lit (Value.int IntKind.i64 a.V.N),Cell.lit (Value.string a.V.S)]] [DV.agg [Cell.lit (Value.int IntKind.i64 a.K),Cell.lit (Value.string a.S),Cell.lit (Value.int IntKind.i64 a.V.K),Cell.lit (Value.int IntKind.i64 a.V.N),Cell.lit (Value.string a.V.S)]]):=by kernel_rfl
theorem Zo242:Holds EE (242,Zk242):=by
 refine holds_of EE_ok Go.Proofs.Tryz.func242 Zk242 (by kernel_rfl) Zu242 (us_ok _) Za242 (fun(a:DArg) hp hb=> ?_)
 have hz0:=bd_lArg (x:=a) (hb _ m0)
 have hl_a_S:=hz0.1
 have hl_a_V_S:=hz0.2
 have hp0:sizeArg a≤4294967296:=hp _ m0
 clear hp hb
 rw[Zv242 a]
 simp only[sizeArg] at hp0
 repeat' (first|exact Lf_rfl _|(refine And.intro (by omega) ?_))
def Zh242:HH:=⟨_,Zo242⟩
end
end AM
