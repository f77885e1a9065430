/- Functions of the program with their contracts: put together by gen/link.py for FnExactBookOk. -/
import Derived.Test.YtmoijfaceanakaaGreatAmLib
import Derived.Test.YtmoijfaceanakaaGreatFExactBookOk
namespace AM
open Go
set_option linter.unusedVariables false
set_option linter.unusedSimpArgs false
set_option maxRecDepth 100000
noncomputable section
def Zk159:Con UU where
 α:=DRule
 md:=[.ro]
 of:=o1 (oA .eRule)
 ds:=fun x=>[dA .eRule x]
 pre:=fun r=>[patArgs r.Pats≤4294967296]
 res:=fun r=>⟨[.one (.sl .str (posVarsS r.Pats))],true,[]⟩
 law:=l1 (lA .eRule)
def Zi159_3(r:DRule):List ByteArray×Int×(ByteArray×Int×List DPat×List DCond×List DAct×Unit)×Unit→Prop:=fun(l,i,b,_)=>b=(r.Name,r.Sal,r.Pats,r.Conds,r.Acts,())∧0≤i∧i≤r.Pats.length∧l=posVarsS (r.Pats.take i.toNat)
def Zm159_3(r:DRule):List ByteArray×Int×(ByteArray×Int×List DPat×List DCond×List DAct×Unit)×Unit→Nat:=fun(l,i,b,_)=>r.Pats.length-i.toNat
def Zi159_7(r:DRule):List ByteArray×Int×List ByteArray×Int×(ByteArray×Int×List DPat×List DCond×List DAct×Unit)×Unit→List ByteArray×Int×List ByteArray×Int×(ByteArray×Int×List DPat×List DCond×List DAct×Unit)×Unit→Prop:=fun(l0,i0,v0,k0,b0,_) (l,i,v,k,b,_)=>b=(r.Name,r.Sal,r.Pats,r.Conds,r.Acts,())∧i=i0∧v=v0∧0≤k∧k≤v.length∧l=(v.take k.toNat).foldl addOnce l0∧(k=0∨(List.getD r.Pats i.toNat zPat).Not=false)
def Zm159_7(r:DRule):List ByteArray×Int×List ByteArray×Int×(ByteArray×Int×List DPat×List DCond×List DAct×Unit)×Unit→Nat:=fun(l,i,v,k,b,_)=>v.length-k.toNat
def Za159:Zk159.α→Nat→Option (Ann UU):=fun r=>annL [(3,annOf [.slot 3 (3,1024) (.own .str true),.slot 4 (4,1024) (.lit (.int .i64)),.box 1 (1,1024) [.lit .str,.lit (.int .i64),.shr .ePat,.shr .eCond,.shr .eAct]] (fun _=>Zi159_3 r) (Zm159_3 r)),(7,annOf [.slot 3 (3,1024) (.own .str true),.slot 4 (4,1024) (.lit (.int .i64)),.slot 5 (5,1024) (.own .str true),.slot 6 (6,1024) (.lit (.int .i64)),.box 1 (1,1024) [.lit .str,.lit (.int .i64),.shr .ePat,.shr .eCond,.shr .eAct]] (Zi159_7 r) (Zm159_7 r))]
def Zu159:=us [Zh205,Zh206]
theorem Zv159(r:DRule):goal EE Zu159 Go.Proofs.Tryz.f159 Zk159 Za159 r=(Zi159_3 r ([],(0:Int),(r.Name,r.Sal,r.Pats,r.Conds,r.Acts,()),())∧
 ∀(y:List ByteArray×Int×(ByteArray×Int×List DPat×List DCond×List DAct×PUnit)×PUnit),
  let x2:Nat:=List.length y.2.2.1.2.2.1;
  let x3:Nat:=Int.toNat y.2.1;
  let x0:List DArg:=(List.getD y.2.2.1.2.2.1 x3 zPat).Args;
  let x1:Int:=(↑x2:Int);
  Zi159_3 r y→
   bif decide (y.2.1<x1) then
    (0:Int)≤y.2.1∧
     x3<x2∧
      List.length x0≤(4294967296:Nat)∧
       Zi159_7 r (y.1,y.2.1,addVars [] x0,(0:Int),(y.2.2.1.1,y.2.2.1.2.1,y.2.2.1.2.2.1,y.2.2.1.2.2.2.1,y.2.2.1.2.2.2.2.1,PUnit.unit),PUnit.unit) (y.1,y.2.1,addVars [] x0,(0:Int),(y.2.2.1.1,y.2.2.1.2.1,y.2.2.1.2.2.1,y.2.2.1.2.2.2.1,y.2.2.1.2.2.2.2.1,PUnit.unit),PUnit.unit)∧
        ∀(y_1:List ByteArray×Int×List ByteArray×Int×(ByteArray×Int×List DPat×List DCond×List DAct×PUnit)×PUnit),
         let x6:Nat:=Int.toNat y_1.2.2.2.1;
         let x8:Nat:=List.length y_1.2.2.1;
         let x9:Nat:=Int.toNat y_1.2.1;
         let x5:ByteArray:=List.getD y_1.2.2.1 x6 noBytes;
         let x7:Int:=(↑x8:Int);
         let x4:List ByteArray:=[x5];
         Zi159_7 r (y.1,y.2.1,addVars [] x0,(0:Int),(y.2.2.1.1,y.2.2.1.2.1,y.2.2.1.2.2.1,y.2.2.1.2.2.2.1,y.2.2.1.2.2.2.2.1,PUnit.unit),PUnit.unit) y_1→bif decide (y_1.2.2.2.1<x7) then(0:Int)≤y_1.2.1∧x9<List.length y_1.2.2.2.2.1.2.2.1∧bif !(List.getD y_1.2.2.2.2.1.2.2.1 x9 zPat).Not then(0:Int)≤y_1.2.2.2.1∧x6<x8∧x6<x8∧bif !hasS y_1.1 x5 then(0:Int)≤y_1.2.2.2.1∧x6<x8∧x6<x8∧List.length y_1.1+List.length x4≤(4294967296:Nat)∧Zi159_7 r (y.1,y.2.1,addVars [] x0,(0:Int),(y.2.2.1.1,y.2.2.1.2.1,y.2.2.1.2.2.1,y.2.2.1.2.2.2.1,y.2.2.1.2.2.2.2.1,PUnit.unit),PUnit.unit) (y_1.1++x4,y_1.2.1,y_1.2.2.1,IntKind.wrap IntKind.i64 (y_1.2.2.2.1+(1:Int)),(y_1.2.2.2.2.1.1,y_1.2.2.2.2.1.2.1,y_1.2.2.2.2.1.2.2.1,y_1.2.2.2.2.1.2.2.2.1,y_1.2.2.2.2.1.2.2.2.2.1,PUnit.unit),PUnit.unit)∧Zm159_7 r (y_1.1++x4,y_1.2.1,y_1.2.2.1,IntKind.wrap IntKind.i64 (y_1.2.2.2.1+(1:Int)),(y_1.2.2.2.2.1.1,y_1.2.2.2.2.1.2.1,y_1.2.2.2.2.1.2.2.1,y_1.2.2.2.2.1.2.2.2.1,y_1.2.2.2.2.1.2.2.2.2.1,PUnit.unit),PUnit.unit)<Zm159_7 r y_1 else Zi159_7 r (y.1,y.2.1,addVars [] x0,(0:Int),(y.2.2.1.1,y.2.2.1.2.1,y.2.2.1.2.2.1,y.2.2.1.2.2.2.1,y.2.2.1.2.2.2.2.1,PUnit.unit),PUnit.unit) (y_1.1,y_1.2.1,y_1.2.2.1,IntKind.wrap IntKind.i64 (y_1.2.2.2.1+(1:Int)),(y_1.2.2.2.2.1.1,y_1.2.2.2.2.1.2.1,y_1.2.2.2.2.1.2.2.1,y_1.2.2.2.2.1.2.2.2.1,y_1.2.2.2.2.1.2.2.2.2.1,PUnit.unit),PUnit.unit)∧Zm159_7 r (y_1.1,y_1.2.1,y_1.2.2.1,IntKind.wrap IntKind.i64 (y_1.2.2.2.1+(1:Int)),(y_1.2.2.2.2.1.1,y_1.2.2.2.2.1.2.1,y_1.2.2.2.2.1.2.2.1,y_1.2.2.2.2.1.2.2.2.1,y_1.2.2.2.2.1.2.2.2.2.1,PUnit.unit),PUnit.unit)<Zm159_7 r y_1 else Zi159_3 r (y_1.1,IntKind.wrap IntKind.i64 (y_1.2.1+(1:Int)),(y_1.2.2.2.2.1.1,y_1.2.2.2.2.1.2.1,y_1.2.2.2.2.1.2.2.1,y_1.2.2.2.2.1.2.2.2.1,y_1.2.2.2.2.1.2.2.2.2.1,PUnit.unit),PUnit.unit)∧Zm159_3 r (y_1.1,IntKind.wrap IntKind.i64 (y_1.2.1+(1:Int)),(y_1.2.2.2.2.1.1,y_1.2.2.2.2.1.2.1,y_1.2.2.2.2.1.2.2.1,y_1.2.2.2.2.1.2.2.2.1,y_1.2.2.2.2.1.2.2.2.2.1,PUnit.unit),PUnit.unit)<Zm159_3 r y else Zi159_3 r (y_1.1,IntKind.wrap IntKind.i64 (y_1.2.1+(1:Int)),(y_1.2.2.2.2.1.1,y_1.2.2.2.2.1.2.1,y_1.2.2.2.2.1.2.2.1,y_1.2.2.2.2.1.2.2.2.1,y_1.2.2.2.2.1.2.2.2.2.1,PUnit.unit),PUnit.unit)∧Zm159_3 r (y_1.1,IntKind.wrap IntKind.i64 (y_1.2.1+(1:Int)),(y_1.2.2.2.2.1.1,y_1.2.2.2.2.1.2.1,y_1.2.2.2.2.1.2.2.1,y_1.2.2.2.2.1.2.2.2.1,y_1.2.2.2.2.1.2.2.2.2.1,PUnit.unit),PUnit.unit)<Zm159_3 r y
   else Lf [DV.one (Cell.sl Cd.str y.1)] [DV.one (Cell.sl Cd.str (posVarsS r.Pats))]):=by kernel_rfl
theorem Zo159:Holds EE (159,Zk159):=by
 refine holds_of EE_ok Go.Proofs.Tryz.func159 Zk159 (by kernel_rfl) Zu159 (us_ok _) Za159 (fun(r:DRule) hp hb=> ?_)
 have hz0:=bd_eRule (x:=r) (hb _ m0)
 have hl_r_Name:=hz0.1
 have hl_r_Pats:=hz0.2.1
 have hl_r_Conds:=hz0.2.2.1
 have hl_r_Acts:=hz0.2.2.2
 have hp0:patArgs r.Pats≤4294967296:=hp _ m0
 clear hp hb
 rw[Zv159 r]
 dsimp only
 refine⟨⟨rfl,by omega,by omega,rfl⟩,?_⟩
 rintro⟨l,i,⟨b1,b2,b3,b4,b5,⟨⟩⟩,⟨⟩⟩ ⟨hbx,h1,h2,rfl⟩
 cases hbx
 simp only
 refine if_cond (fun hc=> ?_) (fun hc=> ?_)
 ·have hc:=of_decide_eq_true hc
  have hs:posVarsS (r.Pats.take (i+1).toNat)=posVarS (posVarsS (r.Pats.take i.toNat)) (List.getD r.Pats i.toNat zPat):=foldl_step posVarS [] r.Pats zPat h1 hc
  have ha:=patArgs_at r.Pats h1 hc
  have hl:=posVarsS_len0 (r.Pats.take i.toNat) []
  simp only[List.length_nil,Nat.zero_add] at hl
  have hv:=addVars_len (List.getD r.Pats i.toNat zPat).Args []
  simp only[List.length_nil,Nat.zero_add] at hv
  refine⟨by omega,by omega,by omega,⟨rfl,rfl,rfl,by omega,by omega,rfl,.inl rfl⟩,?_⟩
  rintro⟨l',i',v,k,⟨b1,b2,b3,b4,b5,⟨⟩⟩,⟨⟩⟩ ⟨hbx,rfl,rfl,g1,g2,rfl,g3⟩
  cases hbx
  simp only
  have hfl:=foldOnce_len ((addVars [] (List.getD r.Pats i'.toNat zPat).Args).take k.toNat) (posVarsS (r.Pats.take i'.toNat))
  have hfl2:((addVars [] (List.getD r.Pats i'.toNat zPat).Args).take k.toNat).length≤k.toNat:=by rw[List.length_take];omega
  have hl':(posVarsS (r.Pats.take i'.toNat)).length≤patArgs (r.Pats.take i'.toNat):=hl
  have hin:(addVars [] (List.getD r.Pats i'.toNat zPat).Args).length≤(List.getD r.Pats i'.toNat zPat).Args.length:=hv
  refine if_cond (fun hk=> ?_) (fun hk=> ?_)
  ·have hk:=of_decide_eq_true hk
   have hf:=foldl_step addOnce (posVarsS (r.Pats.take i'.toNat)) (addVars [] (List.getD r.Pats i'.toNat zPat).Args) noBytes g1 hk
   rw[wrap_i64 (n:=k+1) (by omega) (by omega),wrap_i64 (n:=i'+1) (by omega) (by omega)]
   refine⟨by omega,by omega,if_cond (fun hn=> ?_) (fun hn=> ?_)⟩
   ·have hn:(List.getD r.Pats i'.toNat zPat).Not=false:=by simpa using hn
    have hkl:k.toNat<(addVars [] (List.getD r.Pats i'.toNat zPat).Args).length:=by omega
    refine⟨g1,hkl,hkl,if_cond (fun g=>⟨g1,hkl,hkl,by simp only[List.length_cons,List.length_nil];omega,⟨rfl,rfl,rfl,by omega,by omega,?_,.inr hn⟩,by simp only[Zm159_7];omega⟩) (fun g=>⟨⟨rfl,rfl,rfl,by omega,by omega,?_,.inr hn⟩,by simp only[Zm159_7];omega⟩)⟩
    ·rw[hf,addOnce,if_neg (by simpa using g)]
    ·rw[hf,addOnce,if_pos (by simpa using g)]
   ·have hn:(List.getD r.Pats i'.toNat zPat).Not=true:=by simpa using hn
    have hk0:k=0:=g3.resolve_right (by rw[hn];decide)
    subst hk0
    refine⟨⟨rfl,by omega,by omega,?_⟩,by simp only[Zm159_3];omega⟩
    rw[hs,posVarS,if_pos hn]
    rfl
  ·have hk:=of_decide_eq_false hk
   rw[wrap_i64 (n:=i'+1) (by omega) (by omega)]
   refine⟨⟨rfl,by omega,by omega,?_⟩,by simp only[Zm159_3];omega⟩
   rw[hs,posVarS]
   by_cases hn:(List.getD r.Pats i'.toNat zPat).Not=true
   ·have hk0:k=0:=g3.resolve_right (by rw[hn];decide)
    subst hk0
    rw[if_pos hn];rfl
   ·rw[if_neg hn,take_all (addVars [] (List.getD r.Pats i'.toNat zPat).Args) (by omega)]
 ·have hc:=of_decide_eq_false hc
  rw[take_all r.Pats (by omega)]
  exact Lf_rfl _
def Zh159:HH:=⟨_,Zo159⟩
def Zk241:Con UU where
 α:=(List ByteArray)×ByteArray
 md:=[.mv,.ro]
 of:=oC (oL .str) (o1 oS)
 ds:=fun x=>[dL .str x.1,dS x.2]
 pre:=fun(l,name)=>[l.length≤4294967295]
 res:=fun(l,name)=>⟨[.one (.sl .str (addOnce l name))],true,[]⟩
 law:=lC (lL .str) (l1 lS)
def Za241:Zk241.α→Nat→Option (Ann UU):=fun(l,name)=>annL []
def Zu241:=us [Zh179]
theorem Zv241(l:(List ByteArray))(name:ByteArray):goal EE Zu241 Go.Proofs.Tryz.f241 Zk241 Za241 (l,name)=(bif hasS l name then Lf [DV.one (Cell.sl Cd.str l)] [DV.one (Cell.sl Cd.str (addOnce l name))] else l.length+List.length [name]≤(4294967296:Nat)∧Lf [DV.one (Cell.sl Cd.str (l++[name]))] [DV.one (Cell.sl Cd.str (addOnce l name))]):=by kernel_rfl
theorem Zo241:Holds EE (241,Zk241):=by
 refine holds_of EE_ok Go.Proofs.Tryz.func241 Zk241 (by kernel_rfl) Zu241 (us_ok _) Za241 (fun x hp hb=> ?_)
 obtain⟨l,name⟩:=x
 have hl_l:l.length≤9223372036854775807:=bdL (hb _ m0)
 have hl_name:=bdS (s:=name) (hb _ m1)
 have hp0:l.length≤4294967295:=hp _ m0
 clear hp hb
 rw[Zv241 l name]
 refine if_cond (fun h=> ?_) (fun h=>⟨by simp;omega,?_⟩)
 ·rw[addOnce,if_pos h];exact Lf_rfl _
 ·rw[addOnce,if_neg (by rw[h];decide)];exact Lf_rfl _
def Zh241:HH:=⟨_,Zo241⟩
def Zk219:Con UU where
 α:=(List ByteArray)×(List DArg)
 md:=[.mv,.ro]
 of:=oC (oL .str) (o1 (oL .eArg))
 ds:=fun x=>[dL .str x.1,dL .eArg x.2]
 pre:=fun(l,args)=>[l.length+args.length≤4294967295]
 res:=fun(l,args)=>⟨[.one (.sl .str (addVars l args))],true,[]⟩
 law:=lC (lL .str) (l1 (lL .eArg))
def Zi219_2(l:(List ByteArray))(args:(List DArg)):List ByteArray×Int×Unit→Prop:=fun(v,i,_)=>0≤i∧i≤args.length∧v=addVars l (args.take i.toNat)
def Zm219_2(l:(List ByteArray))(args:(List DArg)):List ByteArray×Int×Unit→Nat:=fun(v,i,_)=>args.length-i.toNat
def Za219:Zk219.α→Nat→Option (Ann UU):=fun(l,args)=>annL [(2,annOf [.slot 0 (0,1024) (.own .str true),.slot 9 (9,1024) (.lit (.int .i64))] (fun _=>Zi219_2 l args) (Zm219_2 l args))]
def Zu219:=us [Zh241]
theorem Zv219(l:(List ByteArray))(args:(List DArg)):goal EE Zu219 Go.Proofs.Tryz.f219 Zk219 Za219 (l,args)=(Zi219_2 l args (l,(0:Int),())∧
 ∀(y:List ByteArray×Int×PUnit),
  let x1:Nat:=Int.toNat y.2.1;
  let x0:DArg:=List.getD args x1 zArg;
  Zi219_2 l args y→bif decide (y.2.1<(↑(List.length args):Int)) then(0:Int)≤y.2.1∧x1<List.length args∧bif x0.K==(1:Int) then List.length y.1≤(4294967295:Nat)∧Zi219_2 l args (addOnce y.1 x0.S,IntKind.wrap IntKind.i64 (y.2.1+(1:Int)),PUnit.unit)∧Zm219_2 l args (addOnce y.1 x0.S,IntKind.wrap IntKind.i64 (y.2.1+(1:Int)),PUnit.unit)<Zm219_2 l args y else Zi219_2 l args (y.1,IntKind.wrap IntKind.i64 (y.2.1+(1:Int)),PUnit.unit)∧Zm219_2 l args (y.1,IntKind.wrap IntKind.i64 (y.2.1+(1:Int)),PUnit.unit)<Zm219_2 l args y else Lf [DV.one (Cell.sl Cd.str y.1)] [DV.one (Cell.sl Cd.str (addVars l args))]):=by kernel_rfl
theorem Zo219:Holds EE (219,Zk219):=by
 refine holds_of EE_ok Go.Proofs.Tryz.func219 Zk219 (by kernel_rfl) Zu219 (us_ok _) Za219 (fun x hp hb=> ?_)
 obtain⟨l,args⟩:=x
 have hl_l:l.length≤9223372036854775807:=bdL (hb _ m0)
 have hl_args:args.length≤9223372036854775807:=bdL (hb _ m1)
 have hp0:l.length+args.length≤4294967295:=hp _ m0
 clear hp hb
 rw[Zv219 l args]
 dsimp only
 refine⟨⟨by omega,by omega,rfl⟩,?_⟩
 rintro⟨v,i,⟨⟩⟩ ⟨h1,h2,rfl⟩
 simp only
 refine if_cond (fun hc=> ?_) (fun hc=> ?_)
 ·have hc:=of_decide_eq_true hc
  have hs:=addVars_step l args h1 hc
  have hl:=addVars_len (args.take i.toNat) l
  have hl2:(args.take i.toNat).length≤i.toNat:=by rw[List.length_take];omega
  rw[wrap_i64 (by omega) (by omega)]
  refine⟨by omega,by omega,if_cond (fun h=>⟨by omega,⟨by omega,by omega,?_⟩,by simp only[Zm219_2];omega⟩) (fun h=>⟨⟨by omega,by omega,?_⟩,by simp only[Zm219_2];omega⟩)⟩
  ·rw[hs,addVar,if_pos (eq_of_beq h)]
  ·rw[hs,addVar,if_neg (fun e=>by rw[e] at h;simp at h)]
 ·have hc:=of_decide_eq_false hc
  rw[take_all args (by omega)]
  exact Lf_rfl _
def Zh219:HH:=⟨_,Zo219⟩
def Zk177:Con UU where
 α:=DRule
 md:=[.ro]
 of:=o1 (oA .eRule)
 ds:=fun x=>[dA .eRule x]
 pre:=fun r=>[patArgs r.Pats≤4294967295]
 res:=fun r=>⟨[.one (.sl .str (posVars r.Pats))],true,[]⟩
 law:=l1 (lA .eRule)
def Zi177_3(r:DRule):List ByteArray×Int×Unit→Prop:=fun(v,i,_)=>0≤i∧i≤r.Pats.length∧v=posVars (r.Pats.take i.toNat)
def Zm177_3(r:DRule):List ByteArray×Int×Unit→Nat:=fun(v,i,_)=>r.Pats.length-i.toNat
def Za177:Zk177.α→Nat→Option (Ann UU):=fun r=>annL [(3,annOf [.slot 3 (3,1024) (.own .str true),.slot 9 (9,1024) (.lit (.int .i64))] (fun _=>Zi177_3 r) (Zm177_3 r))]
def Zu177:=us [Zh219]
theorem Zv177(r:DRule):goal EE Zu177 Go.Proofs.Tryz.f177 Zk177 Za177 r=(Zi177_3 r ([],(0:Int),())∧
 ∀(y:List ByteArray×Int×PUnit),
  let x2:Nat:=Int.toNat y.2.1;
  let x1:DPat:=List.getD r.Pats x2 zPat;
  let x0:List DArg:=x1.Args;
  Zi177_3 r y→bif decide (y.2.1<(↑(List.length r.Pats):Int)) then(0:Int)≤y.2.1∧x2<List.length r.Pats∧bif !x1.Not then List.length y.1+List.length x0≤(4294967295:Nat)∧Zi177_3 r (addVars y.1 x0,IntKind.wrap IntKind.i64 (y.2.1+(1:Int)),PUnit.unit)∧Zm177_3 r (addVars y.1 x0,IntKind.wrap IntKind.i64 (y.2.1+(1:Int)),PUnit.unit)<Zm177_3 r y else Zi177_3 r (y.1,IntKind.wrap IntKind.i64 (y.2.1+(1:Int)),PUnit.unit)∧Zm177_3 r (y.1,IntKind.wrap IntKind.i64 (y.2.1+(1:Int)),PUnit.unit)<Zm177_3 r y else Lf [DV.one (Cell.sl Cd.str y.1)] [DV.one (Cell.sl Cd.str (posVars r.Pats))]):=by kernel_rfl
theorem Zo177:Holds EE (177,Zk177):=by
 refine holds_of EE_ok Go.Proofs.Tryz.func177 Zk177 (by kernel_rfl) Zu177 (us_ok _) Za177 (fun(r:DRule) hp hb=> ?_)
 have hz0:=bd_eRule (x:=r) (hb _ m0)
 have hl_r_Name:=hz0.1
 have hl_r_Pats:=hz0.2.1
 have hl_r_Conds:=hz0.2.2.1
 have hl_r_Acts:=hz0.2.2.2
 have hp0:patArgs r.Pats≤4294967295:=hp _ m0
 clear hp hb
 rw[Zv177 r]
 dsimp only
 refine⟨⟨by omega,by omega,rfl⟩,?_⟩
 rintro⟨v,i,⟨⟩⟩ ⟨h1,h2,rfl⟩
 simp only
 refine if_cond (fun hc=> ?_) (fun hc=> ?_)
 ·have hc:=of_decide_eq_true hc
  have hs:posVars (r.Pats.take (i+1).toNat)=posVar (posVars (r.Pats.take i.toNat)) (List.getD r.Pats i.toNat zPat):=foldl_step posVar [] r.Pats zPat h1 hc
  have ha:=patArgs_at r.Pats h1 hc
  have hl:=posVars_len0 (r.Pats.take i.toNat) []
  simp only[List.length_nil,Nat.zero_add] at hl
  have hl':(posVars (r.Pats.take i.toNat)).length≤patArgs (r.Pats.take i.toNat):=hl
  rw[wrap_i64 (by omega) (by omega)]
  refine⟨by omega,by omega,if_cond (fun h=>⟨by omega,⟨by omega,by omega,?_⟩,by simp only[Zm177_3];omega⟩) (fun h=>⟨⟨by omega,by omega,?_⟩,by simp only[Zm177_3];omega⟩)⟩
  ·rw[hs,posVar,if_neg (by simpa using h)]
  ·rw[hs,posVar,if_pos (by simpa using h)]
 ·have hc:=of_decide_eq_false hc
  rw[take_all r.Pats (by omega)]
  exact Lf_rfl _
def Zh177:HH:=⟨_,Zo177⟩
def notAt(ps:List DPat)(i:Nat):Bool:=(List.getD ps i zPat).Not
def patAt(ps:List DPat)(i:Nat):Bool:=patOk (List.getD ps i zPat)&& !(decide (2<i)&& !notAt ps i)&& !(decide (i=0)&&notAt ps i)&& !(decide (0<i)&&notAt ps (i-1)&& !notAt ps i)
def patsOk(ps:List DPat):Bool:=decide (1≤ps.length∧ps.length≤6)&&allI ps.length (patAt ps)
def patAtI(ps:List DPat)(i:Nat):Bool:=patOk (List.getD ps i zPat)&&(notAt ps i==decide (posN ps≤i))
def patsOkI(ps:List DPat):Bool:=decide (1≤ps.length∧ps.length≤6)&&decide (1≤posN ps∧posN ps≤3)&&allI ps.length (patAtI ps)
theorem allI_all{n:Nat}{p:Nat→Bool}:allI n p=true↔∀j,j<n→p j=true:=by simp[allI]
theorem posN_cons(p:DPat)(ps:List DPat):posN (p::ps)=(if p.Not then 0 else 1)+posN ps:=by
 simp only[posN,List.filter_cons]
 cases p.Not<;>simp<;>omega
theorem not_mono:∀{ps:List DPat},(∀i,i+1<ps.length→notAt ps i=true→notAt ps (i+1)=true)→∀i,i<ps.length→notAt ps i=decide (posN ps≤i)
 |[],_,i,hi=>by simp at hi
 |p::ps,h,i,hi=>by
  have ih:=not_mono (ps:=ps) (fun j hj hn=>h (j+1) (by simpa using hj) hn)
  rw[posN_cons]
  cases hp:p.Not with
  |false=>
   cases i with
   |zero=>show p.Not=_;rw[hp];simp
   |succ i=>
    show notAt ps i=_
    rw[ih i (by simpa using hi)]
    simp only[Bool.false_eq_true,if_false,decide_eq_decide];omega
  |true=>
   have hall:∀j,j<(p::ps).length→notAt (p::ps) j=true:=by
    intro j
    induction j with
    |zero=>intro _;exact hp
    |succ j ihj=>intro hj;exact h j hj (ihj (by omega))
   have h0:posN ps=0:=by
    cases ps with
    |nil=>rfl
    |cons q qs=>
     have h1:=ih 0 (by simp)
     have h2:notAt (q::qs) 0=true:=hall 1 (by simp)
     rw[h2] at h1
     have:=of_decide_eq_true h1.symm
     omega
   rw[hall i hi,h0];simp
theorem patsOkI_eq(ps:List DPat):patsOkI ps=patsOk ps:=by
 rw[Bool.eq_iff_iff]
 simp only[patsOkI,patsOk,Bool.and_eq_true,decide_eq_true_eq,allI_all]
 constructor
 ·rintro⟨⟨h1,h2⟩,h3⟩
  have hN:∀j,j<ps.length→notAt ps j=decide (posN ps≤j):=fun j hj=>by
   have:=h3 j hj
   simp only[patAtI,Bool.and_eq_true,beq_iff_eq] at this
   exact this.2
  refine⟨h1,fun j hj=> ?_⟩
  have hk:=h3 j hj
  simp only[patAtI,Bool.and_eq_true] at hk
  simp only[patAt,hk.1,hN j hj,Bool.true_and,Bool.and_eq_true,Bool.not_eq_true',Bool.and_eq_false_iff,decide_eq_false_iff_not,Bool.not_eq_false',decide_eq_true_eq]
  refine⟨⟨by omega,by omega⟩,?_⟩
  by_cases h0:0<j
  ·rw[hN (j-1) (by omega)];simp only[decide_eq_false_iff_not];omega
  ·exact .inl (.inl h0)
 ·rintro⟨h1,h2⟩
  have hA:∀j,j<ps.length→patOk (List.getD ps j zPat)=true∧(2<j→notAt ps j=true)∧(j=0→notAt ps j=false)∧(0<j→notAt ps (j-1)=true→notAt ps j=true):=fun j hj=>by
   have:=h2 j hj
   simp only[patAt,Bool.and_eq_true,Bool.not_eq_true',Bool.and_eq_false_iff,decide_eq_false_iff_not,Bool.not_eq_false'] at this
   obtain⟨⟨⟨a1,a2⟩,a3⟩,a4⟩:=this
   refine⟨a1,fun h=>a2.resolve_left (fun e=>e h),fun h=>a3.resolve_left (fun e=>e h),fun h hn=>a4.resolve_left (fun e=> ?_)⟩
   rcases e with e|e
   ·exact e h
   ·rw[hn] at e;cases e
  have hN:=not_mono (ps:=ps) (fun i hi hn=>(hA (i+1) hi).2.2.2 (by omega) (by simpa using hn))
  have hz:=(hA 0 (by omega)).2.2.1 rfl
  rw[hN 0 (by omega)] at hz
  have hz:=of_decide_eq_false hz
  have hle:posN ps≤ps.length:=List.length_filter_le _ _
  refine⟨⟨h1,by omega,?_⟩,fun j hj=> ?_⟩
  ·by_cases h4:3<ps.length
   ·have:=(hA 3 h4).2.1 (by omega)
    rw[hN 3 h4] at this
    exact of_decide_eq_true this
   ·omega
  ·simp only[patAtI,(hA j hj).1,hN j hj];simp
def knownIn(vars:List ByteArray)(a:DArg):Bool:= !decide (a.K=1)||hasS vars a.S
def kondIn(vars:List ByteArray)(c:DCond):Bool:=kondOk c&&knownIn vars c.L&&knownIn vars c.R
def kondsIn(l:List DCond)(vars:List ByteArray):Bool:=decide (l.length≤6)&&l.all (kondIn vars)
def exprIn(vars:List ByteArray)(e:DExpr):Bool:=knownIn vars e.L&&knownIn vars e.R
def dropIn(pos:Int)(a:DAct):Bool:= !(decide (a.Kind=2)&&decide (pos≤a.N))
def actIn(vars:List ByteArray)(pos:Int)(a:DAct):Bool:=actOk a&&dropIn pos a&&a.Args.all (exprIn vars)
def actsIn(l:List DAct)(vars:List ByteArray)(pos:Int):Bool:=decide (1≤l.length∧l.length≤6)&&l.all (actIn vars pos)
def ruleOk(r:DRule):Bool:=nameOk r.Name&&decide (-100≤r.Sal∧r.Sal≤100)&&patsOk r.Pats&&kondsIn r.Conds (posVarsS r.Pats)&&actsIn r.Acts (posVarsS r.Pats) (posN r.Pats)
theorem patArgs_size(ps:List DPat):patArgs ps≤sizePatS ps:=by
 simp only[patArgs,sizePatS]
 have:∀l:List DPat,(l.map fun p=>p.Args.length).sum≤(l.map sizePat).sum:=by
  intro l
  induction l with
  |nil=>exact Nat.le_refl _
  |cons p l ih=>simp only[List.map_cons,List.sum_cons,sizePat,sizeArgS] at ih⊢;omega
 have:=this ps;omega
theorem has_same(ps:List DPat)(t:ByteArray):hasS (posVars ps) t=hasS (posVarsS ps) t:=by
 rw[Bool.eq_iff_iff,hasS_iff,hasS_iff,posVars_mem,posVarsS_mem]
def usedC(l:List ByteArray)(c:DCond):List ByteArray:=addVars l [c.L,c.R]
def usedE(l:List ByteArray)(e:DExpr):List ByteArray:=addVars l [e.L,e.R]
def usedA(l:List ByteArray)(a:DAct):List ByteArray:=a.Args.foldl usedE l
def usedV(r:DRule):List ByteArray:=r.Acts.foldl usedA (r.Conds.foldl usedC [])
def usedN(l:List DAct):Nat:=(l.map fun a=>2*a.Args.length).sum
theorem usedC_len(l:List ByteArray)(c:DCond):(usedC l c).length≤l.length+2:=addVars_len _ _
theorem usedE_len:∀(es:List DExpr)(l:List ByteArray),(es.foldl usedE l).length≤l.length+2*es.length
 |[],l=>Nat.le_refl _
 |e::es,l=>by
  have h1:=usedE_len es (usedE l e)
  have h2:(usedE l e).length≤l.length+2:=addVars_len _ _
  show(es.foldl usedE (usedE l e)).length≤_
  simp only[List.length_cons];omega
theorem usedCs_len:∀(cs:List DCond)(l:List ByteArray),(cs.foldl usedC l).length≤l.length+2*cs.length
 |[],l=>Nat.le_refl _
 |c::cs,l=>by
  have h1:=usedCs_len cs (usedC l c)
  have h2:=usedC_len l c
  show(cs.foldl usedC (usedC l c)).length≤_
  simp only[List.length_cons];omega
theorem usedAs_len:∀(xs:List DAct)(l:List ByteArray),(xs.foldl usedA l).length≤l.length+usedN xs
 |[],l=>Nat.le_refl _
 |a::xs,l=>by
  have h1:=usedAs_len xs (usedA l a)
  have h2:(usedA l a).length≤l.length+2*a.Args.length:=usedE_len _ _
  show(xs.foldl usedA (usedA l a)).length≤_
  simp only[usedN,List.map_cons,List.sum_cons] at h1⊢;omega
theorem usedN_at(l:List DAct){i:Int}(h0:0≤i)(h:i<l.length):usedN (l.take i.toNat)+2*(List.getD l i.toNat zAct).Args.length≤usedN l:=by
 have h1:usedN (l.take (i+1).toNat)≤usedN l:=by
  have h:=congrArg (fun q=>(q.map fun a:DAct=>2*a.Args.length).sum) (List.take_append_drop (i+1).toNat l)
  simp only[List.map_append,List.sum_append] at h
  simp only[usedN];omega
 rw[←take_step l zAct h0 h] at h1
 simp only[usedN,List.map_append,List.sum_append,List.map_cons,List.map_nil,List.sum_cons,List.sum_nil] at h1⊢
 omega
def names(t:ByteArray)(a:DArg):Prop:=a.K=1∧t=a.S
theorem used2_mem{l:List ByteArray}{a b:DArg}{t:ByteArray}:t∈addVars l [a,b]↔t∈l∨names t a∨names t b:=by
 rw[addVars_mem];simp[names]
theorem usedE_mem{t:ByteArray}:∀{es:List DExpr}{l:List ByteArray},t∈es.foldl usedE l↔t∈l∨∃e∈es,names t e.L∨names t e.R
 |[],l=>by simp
 |e::es,l=>by
  show t∈es.foldl usedE (usedE l e)↔_
  rw[usedE_mem,usedE,used2_mem]
  simp only[List.mem_cons,exists_eq_or_imp,or_assoc]
theorem usedCs_mem{t:ByteArray}:∀{cs:List DCond}{l:List ByteArray},t∈cs.foldl usedC l↔t∈l∨∃c∈cs,names t c.L∨names t c.R
 |[],l=>by simp
 |c::cs,l=>by
  show t∈cs.foldl usedC (usedC l c)↔_
  rw[usedCs_mem,usedC,used2_mem]
  simp only[List.mem_cons,exists_eq_or_imp,or_assoc]
theorem usedAs_mem{t:ByteArray}:∀{xs:List DAct}{l:List ByteArray},t∈xs.foldl usedA l↔t∈l∨∃a∈xs,∃e∈a.Args,names t e.L∨names t e.R
 |[],l=>by simp
 |a::xs,l=>by
  show t∈xs.foldl usedA (usedA l a)↔_
  rw[usedAs_mem,usedA,usedE_mem]
  simp only[List.mem_cons,exists_eq_or_imp,or_assoc]
theorem knownIn_iff{vars:List ByteArray}{a:DArg}:knownIn vars a=true↔∀t,names t a→hasS vars t=true:=by
 simp only[knownIn,Bool.or_eq_true,Bool.not_eq_true',decide_eq_false_iff_not,names]
 constructor
 ·rintro(h|h) t ⟨h1,rfl⟩
  ·exact absurd h1 h
  ·exact h
 ·intro h
  by_cases h1:a.K=1
  ·exact .inr (h a.S ⟨h1,rfl⟩)
  ·exact .inl h1
theorem used_all(r:DRule)(vars:List ByteArray):(usedV r).all (hasS vars)=(r.Conds.all (fun c=>knownIn vars c.L&&knownIn vars c.R)&&r.Acts.all fun a=>a.Args.all (exprIn vars)):=by
 rw[Bool.eq_iff_iff]
 simp only[Bool.and_eq_true,List.all_eq_true,exprIn,knownIn_iff,usedV]
 constructor
 ·intro h
  refine⟨fun c hc=>⟨fun t ht=>h t ?_,fun t ht=>h t ?_⟩,fun a ha e he=>⟨fun t ht=>h t ?_,fun t ht=>h t ?_⟩⟩
  ·rw[usedAs_mem,usedCs_mem];exact .inl (.inr ⟨c,hc,.inl ht⟩)
  ·rw[usedAs_mem,usedCs_mem];exact .inl (.inr ⟨c,hc,.inr ht⟩)
  ·rw[usedAs_mem];exact .inr ⟨a,ha,e,he,.inl ht⟩
  ·rw[usedAs_mem];exact .inr ⟨a,ha,e,he,.inr ht⟩
 ·rintro⟨h1,h2⟩ t ht
  rw[usedAs_mem,usedCs_mem] at ht
  rcases ht with(ht|⟨c,hc,ht|ht⟩)|⟨a,ha,e,he,ht|ht⟩
  ·cases ht
  ·exact(h1 c hc).1 t ht
  ·exact(h1 c hc).2 t ht
  ·exact(h2 a ha e he).1 t ht
  ·exact(h2 a ha e he).2 t ht
def ruleOkI(r:DRule):Bool:=nameOk r.Name&&decide (-100≤r.Sal∧r.Sal≤100)&&patsOk r.Pats&&decide (r.Conds.length≤6)&&decide (1≤r.Acts.length∧r.Acts.length≤6)&&r.Conds.all kondOk&&r.Acts.all (fun a=>actOk a&&dropIn (posN r.Pats) a)&&(usedV r).all (hasS (posVars r.Pats))
theorem all_and{α:Type}(p q:α→Bool)(l:List α):l.all (fun x=>p x&&q x)=(l.all p&&l.all q):=by
 induction l with
 |nil=>rfl
 |cons x l ih=>simp only[List.all_cons,ih];cases p x<;>cases q x<;>simp
theorem ruleOkI_eq(r:DRule):ruleOkI r=ruleOk r:=by
 have e1:(usedV r).all (hasS (posVars r.Pats))=(usedV r).all (hasS (posVarsS r.Pats)):=by
  have:hasS (posVars r.Pats)=hasS (posVarsS r.Pats):=funext fun t=>has_same _ _
  rw[this]
 have e2:r.Conds.all (kondIn (posVarsS r.Pats))=(r.Conds.all kondOk&&r.Conds.all (fun c=>knownIn (posVarsS r.Pats) c.L&&knownIn (posVarsS r.Pats) c.R)):=by
  rw[←all_and]
  congr 1;funext c;simp only[kondIn,Bool.and_assoc]
 have e3:r.Acts.all (actIn (posVarsS r.Pats) (posN r.Pats))=(r.Acts.all (fun a=>actOk a&&dropIn (posN r.Pats) a)&&r.Acts.all (fun a=>a.Args.all (exprIn (posVarsS r.Pats)))):=by
  rw[←all_and];rfl
 simp only[ruleOkI,ruleOk,kondsIn,actsIn,e1,e2,e3,used_all]
 rw[Bool.eq_iff_iff]
 simp only[Bool.and_eq_true]
 constructor
 ·rintro⟨⟨⟨⟨⟨⟨⟨a1,a2⟩,a3⟩,a4⟩,a5⟩,a6⟩,a7⟩,a8,a9⟩
  exact⟨⟨⟨⟨a1,a2⟩,a3⟩,a4,a6,a8⟩,a5,a7,a9⟩
 ·rintro⟨⟨⟨⟨a1,a2⟩,a3⟩,a4,a6,a8⟩,a5,a7,a9⟩
  exact⟨⟨⟨⟨⟨⟨⟨a1,a2⟩,a3⟩,a4⟩,a5⟩,a6⟩,a7⟩,a8,a9⟩
theorem if_dec{p:Prop}[Decidable p]{P Q:Prop}(h1:p→P)(h2:¬p→Q):bif decide p then P else Q:=if_cond (fun h=>h1 (of_decide_eq_true h)) (fun h=>h2 (of_decide_eq_false h))
theorem if_not{b:Bool}{P Q:Prop}(h1:b=false→P)(h2:b=true→Q):bif !b then P else Q:=if_cond (fun h=>h1 (by simpa using h)) (fun h=>h2 (by simpa using h))
theorem if_num{a b:Int}{P Q:Prop}(h1:a=b→P)(h2:¬a=b→Q):bif a==b then P else Q:=if_cond (fun h=>h1 (eq_of_beq h)) (fun h=>h2 (fun e=>by rw[e] at h;simp at h))
theorem sumC{α:Type}(f:α→Nat)(B:Nat):∀(l:List α),(∀x∈l,f x≤B)→(l.map f).sum≤l.length*B
 |[],_=>by simp
 |x::l,h=>by
  have h1:=sumC f B l (fun y hy=>h y (List.mem_cons_of_mem _ hy))
  have h2:=h x List.mem_cons_self
  simp only[List.map_cons,List.sum_cons,List.length_cons,Nat.add_mul];omega
theorem patsOk_args{ps:List DPat}(h:patsOk ps=true):patArgs ps≤30:=by
 simp only[patsOk,Bool.and_eq_true,decide_eq_true_eq,allI_all] at h
 have:=sumC (fun p:DPat=>p.Args.length) 5 ps (fun p hp=>by
  obtain⟨i,hi,rfl⟩:=List.getElem_of_mem hp
  have hk:=h.2 i hi
  simp only[patAt,Bool.and_eq_true,List.getD_eq_getElem?_getD,List.getElem?_eq_getElem hi,Option.getD_some] at hk
  have hk:=hk.1.1.1
  simp only[patOk,Bool.and_eq_true,decide_eq_true_eq] at hk
  exact hk.1.2)
 simp only[patArgs];omega
theorem actOk_args{a:DAct}(h:actOk a=true):a.Args.length≤5:=by
 simp only[actOk,bareA,exprsOk] at h
 grind
theorem actsOk_used{l:List DAct}(hl:l.length≤6)(h:∀a∈l,actOk a=true):usedN l≤60:=by
 have:=sumC (fun a:DAct=>2*a.Args.length) 10 l (fun a ha=>by have:=actOk_args (h a ha);omega)
 simp only[usedN];omega
def Zk209:Con UU where
 α:=DArg×(List ByteArray)
 md:=[.ro,.ro]
 of:=oC (oA .eArg) (o1 (oL .str))
 ds:=fun x=>[dA .eArg x.1,dL .str x.2]
 pre:=fun _=>[]
 res:=fun(a,vars)=>⟨[.one (.lit (.bool (knownIn vars a)))],true,[]⟩
 law:=lC (lA .eArg) (l1 (lL .str))
def Za209:Zk209.α→Nat→Option (Ann UU):=fun(a,vars)=>annL []
def Zu209:=us [Zh206]
theorem Zv209(a:DArg)(vars:(List ByteArray)):goal EE Zu209 Go.Proofs.Tryz.f209 Zk209 Za209 (a,vars)=(bif a.K !=(1:Int) then Lb true (knownIn vars a) else Lb (hasS vars a.S) (knownIn vars a)):=by kernel_rfl
theorem Zo209:Holds EE (209,Zk209):=by
 refine holds_of EE_ok Go.Proofs.Tryz.func209 Zk209 (by kernel_rfl) Zu209 (us_ok _) Za209 (fun x hp hb=> ?_)
 obtain⟨a,vars⟩:=x
 have hz0:=bd_eArg (x:=a) (hb _ m0)
 have hl_a_S:=hz0.1
 have hl_a_V_S:=hz0.2
 have hl_vars:vars.length≤9223372036854775807:=bdL (hb _ m1)
 clear hp hb
 rw[Zv209 a vars]
 simp only[knownIn]
 refine if_cond (fun h=>Lf_b ?_) (fun h=>Lf_b ?_)<;>grind
def Zh209:HH:=⟨_,Zo209⟩
def Zk161:Con UU where
 α:=(List DCond)×(List ByteArray)
 md:=[.ro,.ro]
 of:=oC (oL .eCond) (o1 (oL .str))
 ds:=fun x=>[dL .eCond x.1,dL .str x.2]
 pre:=fun _=>[]
 res:=fun(l,vars)=>⟨[.one (.lit (.bool (kondsIn l vars)))],true,[]⟩
 law:=lC (lL .eCond) (l1 (lL .str))
def Zi161_2(l:(List DCond))(vars:(List ByteArray)):Int×Unit→Prop:=fun(i,_)=>0≤i∧i≤l.length∧(l.drop i.toNat).all (kondIn vars)=l.all (kondIn vars)
def Zm161_2(l:(List DCond))(vars:(List ByteArray)):Int×Unit→Nat:=fun(i,_)=>l.length-i.toNat
def Za161:Zk161.α→Nat→Option (Ann UU):=fun(l,vars)=>annL [(2,annOf [.slot 5 (5,1024) (.lit (.int .i64))] (fun _=>Zi161_2 l vars) (Zm161_2 l vars))]
def Zu161:=us [Zh208,Zh209]
theorem Zv161(l:(List DCond))(vars:(List ByteArray)):goal EE Zu161 Go.Proofs.Tryz.f161 Zk161 Za161 (l,vars)=(let x0:Int:=(l.length:Int);
Zi161_2 l vars ((0:Int),PUnit.unit)∧
 ∀(y:Int×PUnit),
  let x1:DCond:=List.getD l (Int.toNat y.1) zCond;
  Zi161_2 l vars y→bif decide (y.1<x0) then(0:Int)≤y.1∧Int.toNat y.1<List.length l∧bif !kondOk x1 then Lf [DV.one (Cell.lit (Value.bool false))] [DV.one (Cell.lit (Value.bool (kondsIn l vars)))] else(0:Int)≤y.1∧Int.toNat y.1<List.length l∧bif !knownIn vars x1.L then Lf [DV.one (Cell.lit (Value.bool false))] [DV.one (Cell.lit (Value.bool (kondsIn l vars)))] else(0:Int)≤y.1∧Int.toNat y.1<List.length l∧bif !knownIn vars x1.R then Lf [DV.one (Cell.lit (Value.bool false))] [DV.one (Cell.lit (Value.bool (kondsIn l vars)))] else Zi161_2 l vars (IntKind.wrap IntKind.i64 (y.1+(1:Int)),PUnit.unit)∧Zm161_2 l vars (IntKind.wrap IntKind.i64 (y.1+(1:Int)),PUnit.unit)<Zm161_2 l vars y else Lf [DV.one (Cell.lit (Value.bool (decide (x0≤(6:Int)))))] [DV.one (Cell.lit (Value.bool (kondsIn l vars)))]):=by kernel_rfl
theorem Zo161:Holds EE (161,Zk161):=by
 refine holds_of EE_ok Go.Proofs.Tryz.func161 Zk161 (by kernel_rfl) Zu161 (us_ok _) Za161 (fun x hp hb=> ?_)
 obtain⟨l,vars⟩:=x
 have hl_l:l.length≤9223372036854775807:=bdL (hb _ m0)
 have hl_vars:vars.length≤9223372036854775807:=bdL (hb _ m1)
 clear hp hb
 rw[Zv161 l vars]
 dsimp only
 refine⟨⟨by omega,by omega,rfl⟩,?_⟩
 rintro⟨i,⟨⟩⟩ ⟨h1,h2,hR⟩
 simp only
 refine if_dec (fun hc=> ?_) (fun hc=> ?_)
 ·rw[all_step _ _ zCond h1 (by omega)] at hR
  rw[wrap_i64 (by omega) (by omega)]
  have hN:kondIn vars (List.getD l i.toNat zCond)=false→kondsIn l vars=false:=fun h=>by simp only[kondsIn,←hR,h];simp
  refine⟨by omega,by omega,if_not (fun h=>Lf_ff (hN ?_)) (fun h=>⟨by omega,by omega,if_not (fun g=>Lf_ff (hN ?_)) (fun g=>⟨by omega,by omega,if_not (fun k=>Lf_ff (hN ?_)) (fun k=>⟨⟨by omega,by omega,?_⟩,by simp only[Zm161_2];omega⟩)⟩)⟩)⟩
  ·simp only[kondIn,h,Bool.false_and]
  ·simp only[kondIn,g,Bool.and_false,Bool.false_and]
  ·simp only[kondIn,k,Bool.and_false]
  ·rw[←hR];simp only[kondIn,h,g,k,Bool.true_and]
 ·rw[drop_end _ (by omega)] at hR
  refine Lf_b ?_
  simp only[kondsIn,←hR];simp;omega
def Zh161:HH:=⟨_,Zo161⟩
def Zk162:Con UU where
 α:=(List DAct)×(List ByteArray)×Int
 md:=[.ro,.ro,.ro]
 of:=oC (oL .eAct) (oC (oL .str) (o1 oI))
 ds:=fun x=>[dL .eAct x.1,dL .str x.2.1,dI x.2.2]
 pre:=fun _=>[]
 res:=fun(l,vars,pos)=>⟨[.one (.lit (.bool (actsIn l vars pos)))],true,[]⟩
 law:=lC (lL .eAct) (lC (lL .str) (l1 lI))
def Zi162_2(l:(List DAct))(vars:(List ByteArray))(pos:Int):Int×Unit→Prop:=fun(i,_)=>0≤i∧i≤l.length∧(l.drop i.toNat).all (actIn vars pos)=l.all (actIn vars pos)
def Zm162_2(l:(List DAct))(vars:(List ByteArray))(pos:Int):Int×Unit→Nat:=fun(i,_)=>l.length-i.toNat
def Zi162_7(l:(List DAct))(vars:(List ByteArray))(pos:Int):Int×Int×Unit→Int×Int×Unit→Prop:=fun(i0,k0,_) (i,k,_)=>i=i0∧0≤k∧k≤(List.getD l i.toNat zAct).Args.length∧((List.getD l i.toNat zAct).Args.drop k.toNat).all (exprIn vars)=(List.getD l i.toNat zAct).Args.all (exprIn vars)
def Zm162_7(l:(List DAct))(vars:(List ByteArray))(pos:Int):Int×Int×Unit→Nat:=fun(i,k,_)=>(List.getD l i.toNat zAct).Args.length-k.toNat
def Za162:Zk162.α→Nat→Option (Ann UU):=fun(l,vars,pos)=>annL [(2,annOf [.slot 7 (7,1024) (.lit (.int .i64))] (fun _=>Zi162_2 l vars pos) (Zm162_2 l vars pos)),(7,annOf [.slot 7 (7,1024) (.lit (.int .i64)),.slot 8 (8,1024) (.lit (.int .i64))] (Zi162_7 l vars pos) (Zm162_7 l vars pos))]
def Zu162:=us [Zh210,Zh209,Zh40]
theorem Zv162(l:(List DAct))(vars:(List ByteArray))(pos:Int):goal EE Zu162 Go.Proofs.Tryz.f162 Zk162 Za162 (l,vars,pos)=(let x0:Int:=(l.length:Int);
Zi162_2 l vars pos ((0:Int),PUnit.unit)∧
 ∀(y:Int×PUnit),
  let x1:DAct:=List.getD l (Int.toNat y.1) zAct;
  Zi162_2 l vars pos y→
   bif decide (y.1<x0) then
    (0:Int)≤y.1∧
     Int.toNat y.1<List.length l∧
      bif !actOk x1 then Lf [DV.one (Cell.lit (Value.bool false))] [DV.one (Cell.lit (Value.bool (actsIn l vars pos)))]
      else
       (0:Int)≤y.1∧
        Int.toNat y.1<List.length l∧
         bif x1.Kind==(2:Int) then
          (0:Int)≤y.1∧
           Int.toNat y.1<List.length l∧
            bif decide (x1.N≥pos) then Lf [DV.one (Cell.lit (Value.bool false))] [DV.one (Cell.lit (Value.bool (actsIn l vars pos)))]
            else
             Zi162_7 l vars pos (y.1,(0:Int),PUnit.unit) (y.1,(0:Int),PUnit.unit)∧
              ∀(y_1:Int×Int×PUnit),
               let x3:Nat:=Int.toNat y_1.2.1;
               let x4:Int:=(↑(List.length (List.getD l (Int.toNat y_1.1) zAct).Args):Int);
               let x2:DExpr:=List.getD (List.getD l (Int.toNat y_1.1) zAct).Args x3 zExpr;
               Zi162_7 l vars pos (y.1,(0:Int),PUnit.unit) y_1→(0:Int)≤y_1.1∧Int.toNat y_1.1<List.length l∧bif decide (y_1.2.1<x4) then(0:Int)≤y_1.1∧Int.toNat y_1.1<List.length l∧(0:Int)≤y_1.2.1∧x3<List.length (List.getD l (Int.toNat y_1.1) zAct).Args∧bif !knownIn vars x2.L then Lf [DV.one (Cell.lit (Value.bool false))] [DV.one (Cell.lit (Value.bool (actsIn l vars pos)))] else(0:Int)≤y_1.1∧Int.toNat y_1.1<List.length l∧(0:Int)≤y_1.2.1∧x3<List.length (List.getD l (Int.toNat y_1.1) zAct).Args∧bif !knownIn vars x2.R then Lf [DV.one (Cell.lit (Value.bool false))] [DV.one (Cell.lit (Value.bool (actsIn l vars pos)))] else Zi162_7 l vars pos (y.1,(0:Int),PUnit.unit) (y_1.1,IntKind.wrap IntKind.i64 (y_1.2.1+(1:Int)),PUnit.unit)∧Zm162_7 l vars pos (y_1.1,IntKind.wrap IntKind.i64 (y_1.2.1+(1:Int)),PUnit.unit)<Zm162_7 l vars pos y_1 else Zi162_2 l vars pos (IntKind.wrap IntKind.i64 (y_1.1+(1:Int)),PUnit.unit)∧Zm162_2 l vars pos (IntKind.wrap IntKind.i64 (y_1.1+(1:Int)),PUnit.unit)<Zm162_2 l vars pos y
         else
          Zi162_7 l vars pos (y.1,(0:Int),PUnit.unit) (y.1,(0:Int),PUnit.unit)∧
           ∀(y_1:Int×Int×PUnit),
            let x3:Nat:=Int.toNat y_1.2.1;
            let x4:Int:=(↑(List.length (List.getD l (Int.toNat y_1.1) zAct).Args):Int);
            let x2:DExpr:=List.getD (List.getD l (Int.toNat y_1.1) zAct).Args x3 zExpr;
            Zi162_7 l vars pos (y.1,(0:Int),PUnit.unit) y_1→(0:Int)≤y_1.1∧Int.toNat y_1.1<List.length l∧bif decide (y_1.2.1<x4) then(0:Int)≤y_1.1∧Int.toNat y_1.1<List.length l∧(0:Int)≤y_1.2.1∧x3<List.length (List.getD l (Int.toNat y_1.1) zAct).Args∧bif !knownIn vars x2.L then Lf [DV.one (Cell.lit (Value.bool false))] [DV.one (Cell.lit (Value.bool (actsIn l vars pos)))] else(0:Int)≤y_1.1∧Int.toNat y_1.1<List.length l∧(0:Int)≤y_1.2.1∧x3<List.length (List.getD l (Int.toNat y_1.1) zAct).Args∧bif !knownIn vars x2.R then Lf [DV.one (Cell.lit (Value.bool false))] [DV.one (Cell.lit (Value.bool (actsIn l vars pos)))] else Zi162_7 l vars pos (y.1,(0:Int),PUnit.unit) (y_1.1,IntKind.wrap IntKind.i64 (y_1.2.1+(1:Int)),PUnit.unit)∧Zm162_7 l vars pos (y_1.1,IntKind.wrap IntKind.i64 (y_1.2.1+(1:Int)),PUnit.unit)<Zm162_7 l vars pos y_1 else Zi162_2 l vars pos (IntKind.wrap IntKind.i64 (y_1.1+(1:Int)),PUnit.unit)∧Zm162_2 l vars pos (IntKind.wrap IntKind.i64 (y_1.1+(1:Int)),PUnit.unit)<Zm162_2 l vars pos y
   else Lf [DV.one (Cell.lit (Value.bool (decide ((1:Int)≤x0∧x0≤(6:Int)))))] [DV.one (Cell.lit (Value.bool (actsIn l vars pos)))]):=by kernel_rfl
theorem Zo162:Holds EE (162,Zk162):=by
 refine holds_of EE_ok Go.Proofs.Tryz.func162 Zk162 (by kernel_rfl) Zu162 (us_ok _) Za162 (fun x hp hb=> ?_)
 obtain⟨l,vars,pos⟩:=x
 have hl_l:l.length≤9223372036854775807:=bdL (hb _ m0)
 have hl_vars:vars.length≤9223372036854775807:=bdL (hb _ m1)
 have hl_pos:=bdI (n:=pos) (hb _ m2)
 clear hp hb
 rw[Zv162 l vars pos]
 dsimp only
 refine⟨⟨by omega,by omega,rfl⟩,?_⟩
 rintro⟨i,⟨⟩⟩ ⟨h1,h2,hR⟩
 simp only
 refine if_dec (fun hc=> ?_) (fun hc=> ?_)
 ·rw[all_step _ _ zAct h1 (by omega)] at hR
  have hN:actIn vars pos (List.getD l i.toNat zAct)=false→actsIn l vars pos=false:=fun h=>by simp only[actsIn,←hR,h];simp
  refine⟨by omega,by omega,if_not (fun ha=>Lf_ff (hN (by simp only[actIn,ha,Bool.false_and]))) (fun ha=>⟨by omega,by omega,if_num (fun hk2=>⟨by omega,by omega,if_dec (fun hp=>Lf_ff (hN ?_)) (fun hp=> ?_)⟩) (fun hk2=> ?_)⟩)⟩
  ·have:dropIn pos (List.getD l i.toNat zAct)=false:=by simp only[dropIn,hk2,decide_eq_true (show pos≤(List.getD l i.toNat zAct).N from hp)];simp
   simp only[actIn,this,Bool.and_false,Bool.false_and]
  ·have hd:dropIn pos (List.getD l i.toNat zAct)=true:=by simp only[dropIn,decide_eq_false (show¬pos≤(List.getD l i.toNat zAct).N from hp)];simp
   have h5:=actOk_args ha
   refine⟨⟨rfl,by omega,by omega,rfl⟩,?_⟩
   rintro⟨i',k,⟨⟩⟩ ⟨rfl,g1,g2,gR⟩
   simp only
   refine⟨by omega,by omega,if_dec (fun hk=> ?_) (fun hk=> ?_)⟩
   ·rw[all_step _ _ zExpr g1 (by omega)] at gR
    rw[wrap_i64 (n:=k+1) (by omega) (by omega)]
    have hM:exprIn vars (List.getD (List.getD l i'.toNat zAct).Args k.toNat zExpr)=false→actsIn l vars pos=false:=fun h=>hN (by simp only[actIn,←gR,h];simp)
    refine⟨by omega,by omega,g1,by omega,if_not (fun e=>Lf_ff (hM ?_)) (fun e=>⟨by omega,by omega,g1,by omega,if_not (fun f=>Lf_ff (hM ?_)) (fun f=>⟨⟨rfl,by omega,by omega,?_⟩,by simp only[Zm162_7];omega⟩)⟩)⟩
    ·simp only[exprIn,e,Bool.false_and]
    ·simp only[exprIn,f,Bool.and_false]
    ·rw[←gR];simp only[exprIn,e,f,Bool.true_and]
   ·rw[drop_end _ (by omega)] at gR
    rw[wrap_i64 (n:=i'+1) (by omega) (by omega)]
    refine⟨⟨by omega,by omega,?_⟩,by simp only[Zm162_2];omega⟩
    rw[←hR];simp only[actIn,←gR,hd,ha,List.all_nil,Bool.true_and]
  ·have hd:dropIn pos (List.getD l i.toNat zAct)=true:=by simp only[dropIn,decide_eq_false hk2];simp
   have h5:=actOk_args ha
   refine⟨⟨rfl,by omega,by omega,rfl⟩,?_⟩
   rintro⟨i',k,⟨⟩⟩ ⟨rfl,g1,g2,gR⟩
   simp only
   refine⟨by omega,by omega,if_dec (fun hk=> ?_) (fun hk=> ?_)⟩
   ·rw[all_step _ _ zExpr g1 (by omega)] at gR
    rw[wrap_i64 (n:=k+1) (by omega) (by omega)]
    have hM:exprIn vars (List.getD (List.getD l i'.toNat zAct).Args k.toNat zExpr)=false→actsIn l vars pos=false:=fun h=>hN (by simp only[actIn,←gR,h];simp)
    refine⟨by omega,by omega,g1,by omega,if_not (fun e=>Lf_ff (hM ?_)) (fun e=>⟨by omega,by omega,g1,by omega,if_not (fun f=>Lf_ff (hM ?_)) (fun f=>⟨⟨rfl,by omega,by omega,?_⟩,by simp only[Zm162_7];omega⟩)⟩)⟩
    ·simp only[exprIn,e,Bool.false_and]
    ·simp only[exprIn,f,Bool.and_false]
    ·rw[←gR];simp only[exprIn,e,f,Bool.true_and]
   ·rw[drop_end _ (by omega)] at gR
    rw[wrap_i64 (n:=i'+1) (by omega) (by omega)]
    refine⟨⟨by omega,by omega,?_⟩,by simp only[Zm162_2];omega⟩
    rw[←hR];simp only[actIn,←gR,hd,ha,List.all_nil,Bool.true_and]
 ·rw[drop_end _ (by omega)] at hR
  refine Lf_b ?_
  simp only[actsIn,←hR,List.all_nil,Bool.and_true];exact decide_eq_decide.2 (by omega)
def Zh162:HH:=⟨_,Zo162⟩
def Zk160:Con UU where
 α:=(List DPat)
 md:=[.ro]
 of:=o1 (oL .ePat)
 ds:=fun x=>[dL .ePat x]
 pre:=fun _=>[]
 res:=fun l=>⟨[.one (.lit (.bool (patsOk l)))],true,[]⟩
 law:=l1 (lL .ePat)
def Zi160_2(l:(List DPat)):Int×Unit→Prop:=fun(i,_)=>0≤i∧i≤l.length∧∀j:Nat,(j:Int)<i→patAt l j=true
def Zm160_2(l:(List DPat)):Int×Unit→Nat:=fun(i,_)=>l.length-i.toNat
def Za160:Zk160.α→Nat→Option (Ann UU):=fun l=>annL [(2,annOf [.slot 3 (3,1024) (.lit (.int .i64))] (fun _=>Zi160_2 l) (Zm160_2 l))]
def Zu160:=us [Zh207,Zh40]
theorem Zv160(l:(List DPat)):goal EE Zu160 Go.Proofs.Tryz.f160 Zk160 Za160 l=(let x0:Int:=(l.length:Int);
Zi160_2 l ((0:Int),PUnit.unit)∧
 ∀(y:Int×PUnit),
  let x1:Nat:=Int.toNat (IntKind.wrap IntKind.i64 (y.1-(1:Int)));
  Zi160_2 l y→bif decide (y.1<x0) then bif decide (y.1>(2:Int)) then(0:Int)≤y.1∧Int.toNat y.1<List.length l∧bif !(List.getD l (Int.toNat y.1) zPat).Not then Lf [DV.one (Cell.lit (Value.bool false))] [DV.one (Cell.lit (Value.bool (patsOk l)))] else(0:Int)≤y.1∧Int.toNat y.1<List.length l∧bif !patOk (List.getD l (Int.toNat y.1) zPat) then Lf [DV.one (Cell.lit (Value.bool false))] [DV.one (Cell.lit (Value.bool (patsOk l)))] else bif y.1==(0:Int) then(0:Int)≤y.1∧Int.toNat y.1<List.length l∧bif (List.getD l (Int.toNat y.1) zPat).Not then Lf [DV.one (Cell.lit (Value.bool false))] [DV.one (Cell.lit (Value.bool (patsOk l)))] else bif decide (y.1>(0:Int)) then(0:Int)≤IntKind.wrap IntKind.i64 (y.1-(1:Int))∧x1<List.length l∧bif (List.getD l x1 zPat).Not then(0:Int)≤y.1∧Int.toNat y.1<List.length l∧bif !(List.getD l (Int.toNat y.1) zPat).Not then Lf [DV.one (Cell.lit (Value.bool false))] [DV.one (Cell.lit (Value.bool (patsOk l)))] else Zi160_2 l (IntKind.wrap IntKind.i64 (y.1+(1:Int)),PUnit.unit)∧Zm160_2 l (IntKind.wrap IntKind.i64 (y.1+(1:Int)),PUnit.unit)<Zm160_2 l y else Zi160_2 l (IntKind.wrap IntKind.i64 (y.1+(1:Int)),PUnit.unit)∧Zm160_2 l (IntKind.wrap IntKind.i64 (y.1+(1:Int)),PUnit.unit)<Zm160_2 l y else Zi160_2 l (IntKind.wrap IntKind.i64 (y.1+(1:Int)),PUnit.unit)∧Zm160_2 l (IntKind.wrap IntKind.i64 (y.1+(1:Int)),PUnit.unit)<Zm160_2 l y else bif decide (y.1>(0:Int)) then(0:Int)≤IntKind.wrap IntKind.i64 (y.1-(1:Int))∧x1<List.length l∧bif (List.getD l x1 zPat).Not then(0:Int)≤y.1∧Int.toNat y.1<List.length l∧bif !(List.getD l (Int.toNat y.1) zPat).Not then Lf [DV.one (Cell.lit (Value.bool false))] [DV.one (Cell.lit (Value.bool (patsOk l)))] else Zi160_2 l (IntKind.wrap IntKind.i64 (y.1+(1:Int)),PUnit.unit)∧Zm160_2 l (IntKind.wrap IntKind.i64 (y.1+(1:Int)),PUnit.unit)<Zm160_2 l y else Zi160_2 l (IntKind.wrap IntKind.i64 (y.1+(1:Int)),PUnit.unit)∧Zm160_2 l (IntKind.wrap IntKind.i64 (y.1+(1:Int)),PUnit.unit)<Zm160_2 l y else Zi160_2 l (IntKind.wrap IntKind.i64 (y.1+(1:Int)),PUnit.unit)∧Zm160_2 l (IntKind.wrap IntKind.i64 (y.1+(1:Int)),PUnit.unit)<Zm160_2 l y else(0:Int)≤y.1∧Int.toNat y.1<List.length l∧bif !patOk (List.getD l (Int.toNat y.1) zPat) then Lf [DV.one (Cell.lit (Value.bool false))] [DV.one (Cell.lit (Value.bool (patsOk l)))] else bif y.1==(0:Int) then(0:Int)≤y.1∧Int.toNat y.1<List.length l∧bif (List.getD l (Int.toNat y.1) zPat).Not then Lf [DV.one (Cell.lit (Value.bool false))] [DV.one (Cell.lit (Value.bool (patsOk l)))] else bif decide (y.1>(0:Int)) then(0:Int)≤IntKind.wrap IntKind.i64 (y.1-(1:Int))∧x1<List.length l∧bif (List.getD l x1 zPat).Not then(0:Int)≤y.1∧Int.toNat y.1<List.length l∧bif !(List.getD l (Int.toNat y.1) zPat).Not then Lf [DV.one (Cell.lit (Value.bool false))] [DV.one (Cell.lit (Value.bool (patsOk l)))] else Zi160_2 l (IntKind.wrap IntKind.i64 (y.1+(1:Int)),PUnit.unit)∧Zm160_2 l (IntKind.wrap IntKind.i64 (y.1+(1:Int)),PUnit.unit)<Zm160_2 l y else Zi160_2 l (IntKind.wrap IntKind.i64 (y.1+(1:Int)),PUnit.unit)∧Zm160_2 l (IntKind.wrap IntKind.i64 (y.1+(1:Int)),PUnit.unit)<Zm160_2 l y else Zi160_2 l (IntKind.wrap IntKind.i64 (y.1+(1:Int)),PUnit.unit)∧Zm160_2 l (IntKind.wrap IntKind.i64 (y.1+(1:Int)),PUnit.unit)<Zm160_2 l y else bif decide (y.1>(0:Int)) then(0:Int)≤IntKind.wrap IntKind.i64 (y.1-(1:Int))∧x1<List.length l∧bif (List.getD l x1 zPat).Not then(0:Int)≤y.1∧Int.toNat y.1<List.length l∧bif !(List.getD l (Int.toNat y.1) zPat).Not then Lf [DV.one (Cell.lit (Value.bool false))] [DV.one (Cell.lit (Value.bool (patsOk l)))] else Zi160_2 l (IntKind.wrap IntKind.i64 (y.1+(1:Int)),PUnit.unit)∧Zm160_2 l (IntKind.wrap IntKind.i64 (y.1+(1:Int)),PUnit.unit)<Zm160_2 l y else Zi160_2 l (IntKind.wrap IntKind.i64 (y.1+(1:Int)),PUnit.unit)∧Zm160_2 l (IntKind.wrap IntKind.i64 (y.1+(1:Int)),PUnit.unit)<Zm160_2 l y else Zi160_2 l (IntKind.wrap IntKind.i64 (y.1+(1:Int)),PUnit.unit)∧Zm160_2 l (IntKind.wrap IntKind.i64 (y.1+(1:Int)),PUnit.unit)<Zm160_2 l y else Lf [DV.one (Cell.lit (Value.bool (decide ((1:Int)≤x0∧x0≤(6:Int)))))] [DV.one (Cell.lit (Value.bool (patsOk l)))]):=by kernel_rfl
theorem Zo160:Holds EE (160,Zk160):=by
 refine holds_of EE_ok Go.Proofs.Tryz.func160 Zk160 (by kernel_rfl) Zu160 (us_ok _) Za160 (fun(l:(List DPat)) hp hb=> ?_)
 have hl_l:l.length≤9223372036854775807:=bdL (hb _ m0)
 clear hp hb
 rw[Zv160 l]
 dsimp only
 refine⟨⟨by omega,by omega,by intro j hj;omega⟩,?_⟩
 rintro⟨i,⟨⟩⟩ ⟨h1,h2,hR⟩
 simp only
 refine if_dec (fun hc=> ?_) (fun hc=> ?_)
 ·have hN:patAt l i.toNat=false→patsOk l=false:=fun h=>by
   have hf:allI l.length (patAt l)=false:=allI_false (j:=i.toNat) (by omega) h
   simp only[patsOk,hf];simp
  have hm:Zm160_2 l (i+1,PUnit.unit)<Zm160_2 l (i,()):=by simp only[Zm160_2];omega
  have e1:(i-1).toNat=i.toNat-1:=by omega
  simp(disch:=omega) only[wrap_i64]
  simp only[e1]
  have c1:decide (2<i.toNat)=decide (i>2):=decide_eq_decide.2 (by omega)
  have c2:decide (i.toNat=0)=decide (i=0):=decide_eq_decide.2 (by omega)
  have c3:decide (0<i.toNat)=decide (i>0):=decide_eq_decide.2 (by omega)
  have hA:patAt l i.toNat=(patOk (List.getD l i.toNat zPat)&& !(decide (i>2)&& !(List.getD l i.toNat zPat).Not)&& !(decide (i=0)&&(List.getD l i.toNat zPat).Not)&& !(decide (i>0)&&(List.getD l (i.toNat-1) zPat).Not&& !(List.getD l i.toNat zPat).Not)):=by
   simp only[patAt,notAt,c1,c2,c3]
  have hgo:patAt l i.toNat=true→Zi160_2 l (i+1,PUnit.unit)∧Zm160_2 l (i+1,PUnit.unit)<Zm160_2 l (i,()):=fun h=>⟨⟨by omega,by omega,upto_step h1 hR h⟩,hm⟩
  rw[hA] at hN hgo
  generalize (List.getD l (i.toNat-1) zPat).Not=q at*
  generalize (List.getD l i.toNat zPat).Not=r at*
  generalize patOk (List.getD l i.toNat zPat)=s at*
  clear hA c1 c2 c3 hR
  have hlt:i.toNat<l.length:=by omega
  have hlt':i.toNat-1<l.length:=by omega
  have hi1:i>0→0≤i-1:=fun h=>by omega
  repeat' (first|refine Lf_ff (hN ?_)|refine hgo ?_|refine if_dec (fun h=> ?_) (fun h=> ?_)|refine if_num (fun h=> ?_) (fun h=> ?_)|refine if_cond (fun h=> ?_) (fun h=> ?_)|refine And.intro h1 ?_|refine And.intro hlt ?_|refine And.intro hlt' ?_|refine And.intro (hi1 (by assumption)) ?_)
  all_goals (cases q<;>cases r<;>cases s<;>simp at* <;>omega)
 ·have hA:allI l.length (patAt l)=true:=allI_true fun j hj=>hR j (by omega)
  refine Lf_b ?_
  simp only[patsOk,hA,Bool.and_true];exact decide_eq_decide.2 (by omega)
def Zh160:HH:=⟨_,Zo160⟩
def Zk102:Con UU where
 α:=DRule
 md:=[.ro]
 of:=o1 (oA .eRule)
 ds:=fun x=>[dA .eRule x]
 pre:=fun r=>[patArgs r.Pats≤4294967295]
 res:=fun r=>⟨[.one (.lit (.bool (ruleOk r)))],true,[]⟩
 law:=l1 (lA .eRule)
def Za102:Zk102.α→Nat→Option (Ann UU):=fun r=>annL []
def Zu102:=us [Zh159,Zh71,Zh40,Zh160,Zh161,Zh162,Zh83]
theorem Zv102(r:DRule):goal EE Zu102 Go.Proofs.Tryz.f102 Zk102 Za102 r=(patArgs r.Pats≤(4294967296:Nat)∧bif nameOk r.Name then bif decide ((-100:Int)≤r.Sal∧r.Sal≤(100:Int)) then bif patsOk r.Pats then bif kondsIn r.Conds (posVarsS r.Pats) then Lb (actsIn r.Acts (posVarsS r.Pats) (↑(posN r.Pats):Int)) (ruleOk r) else Lb false (ruleOk r) else Lb false (ruleOk r) else Lb false (ruleOk r) else Lb false (ruleOk r)):=by kernel_rfl
theorem Zo102:Holds EE (102,Zk102):=by
 refine holds_of EE_ok Go.Proofs.Tryz.func102 Zk102 (by kernel_rfl) Zu102 (us_ok _) Za102 (fun(r:DRule) hp hb=> ?_)
 have hz0:=bd_eRule (x:=r) (hb _ m0)
 have hl_r_Name:=hz0.1
 have hl_r_Pats:=hz0.2.1
 have hl_r_Conds:=hz0.2.2.1
 have hl_r_Acts:=hz0.2.2.2
 have hp0:patArgs r.Pats≤4294967295:=hp _ m0
 clear hp hb
 rw[Zv102 r]
 refine⟨by omega,?_⟩
 simp only[ruleOk]
 repeat' (refine if_cond (fun h=> ?_) (fun h=> ?_))
 all_goals (refine Lf_b ?_;grind)
def Zh102:HH:=⟨_,Zo102⟩
def Zk174:Con UU where
 α:=DRule
 md:=[.ro]
 of:=o1 (oA .eRule)
 ds:=fun x=>[dA .eRule x]
 pre:=fun _=>[]
 res:=fun r=>⟨[.one (.lit (.bool (patsOkI r.Pats)))],true,[]⟩
 law:=l1 (lA .eRule)
def Zi174_4(r:DRule):Int×(ByteArray×Int×List DPat×List DCond×List DAct×Unit)×Unit→Prop:=fun(i,b,_)=>b=(r.Name,r.Sal,r.Pats,r.Conds,r.Acts,())∧0≤i∧i≤r.Pats.length∧(1≤r.Pats.length∧r.Pats.length≤6)∧(1≤posN r.Pats∧posN r.Pats≤3)∧∀j:Nat,(j:Int)<i→patAtI r.Pats j=true
def Zm174_4(r:DRule):Int×(ByteArray×Int×List DPat×List DCond×List DAct×Unit)×Unit→Nat:=fun(i,b,_)=>r.Pats.length-i.toNat
def Za174:Zk174.α→Nat→Option (Ann UU):=fun r=>annL [(4,annOf [.slot 19 (19,1024) (.lit (.int .i64)),.box 1 (1,1024) [.lit .str,.lit (.int .i64),.shr .ePat,.shr .eCond,.shr .eAct]] (fun _=>Zi174_4 r) (Zm174_4 r))]
def Zu174:=us [Zh56,Zh125,Zh216]
theorem Zv174(r:DRule):goal EE Zu174 Go.Proofs.Tryz.f174 Zk174 Za174 r=(let x0:Int:=(r.Pats.length:Int);
bif !decide ((1:Int)≤x0∧x0≤(6:Int)) then Lf [DV.one (Cell.lit (Value.bool false))] [DV.one (Cell.lit (Value.bool (patsOkI r.Pats)))]
else
 bif !decide ((1:Int)≤(↑(posN r.Pats):Int)∧(↑(posN r.Pats):Int)≤(3:Int)) then Lf [DV.one (Cell.lit (Value.bool false))] [DV.one (Cell.lit (Value.bool (patsOkI r.Pats)))]
 else
  Zi174_4 r ((0:Int),(r.Name,r.Sal,r.Pats,r.Conds,r.Acts,PUnit.unit),PUnit.unit)∧
   ∀(y:Int×(ByteArray×Int×List DPat×List DCond×List DAct×PUnit)×PUnit),
    let x1:Int:=(↑(posN y.2.1.2.2.1):Int);
    Zi174_4 r y→bif decide (y.1<x0) then(0:Int)≤y.1∧Int.toNat y.1<List.length r.Pats∧bif !patOk (List.getD r.Pats (Int.toNat y.1) zPat) then Lf [DV.one (Cell.lit (Value.bool false))] [DV.one (Cell.lit (Value.bool (patsOkI r.Pats)))] else bif !(List.getD r.Pats (Int.toNat y.1) zPat).Not==decide (y.1≥x1) then Lf [DV.one (Cell.lit (Value.bool false))] [DV.one (Cell.lit (Value.bool (patsOkI r.Pats)))] else Zi174_4 r (IntKind.wrap IntKind.i64 (y.1+(1:Int)),(y.2.1.1,y.2.1.2.1,y.2.1.2.2.1,y.2.1.2.2.2.1,y.2.1.2.2.2.2.1,PUnit.unit),PUnit.unit)∧Zm174_4 r (IntKind.wrap IntKind.i64 (y.1+(1:Int)),(y.2.1.1,y.2.1.2.1,y.2.1.2.2.1,y.2.1.2.2.2.1,y.2.1.2.2.2.2.1,PUnit.unit),PUnit.unit)<Zm174_4 r y else Lf [DV.one (Cell.lit (Value.bool true))] [DV.one (Cell.lit (Value.bool (patsOkI r.Pats)))]):=by kernel_rfl
theorem Zo174:Holds EE (174,Zk174):=by
 refine holds_of EE_ok Go.Proofs.Tryz.func174 Zk174 (by kernel_rfl) Zu174 (us_ok _) Za174 (fun(r:DRule) hp hb=> ?_)
 have hz0:=bd_eRule (x:=r) (hb _ m0)
 have hl_r_Name:=hz0.1
 have hl_r_Pats:=hz0.2.1
 have hl_r_Conds:=hz0.2.2.1
 have hl_r_Acts:=hz0.2.2.2
 clear hp hb
 rw[Zv174 r]
 dsimp only
 refine if_not (fun h=>Lf_ff ?_) (fun h=>if_not (fun h'=>Lf_ff ?_) (fun h'=> ?_))
 ·have h:=of_decide_eq_false h
  simp only[patsOkI];rw[decide_eq_false (by omega)];rfl
 ·have h':=of_decide_eq_false h'
  simp only[patsOkI];rw[decide_eq_false (p:=1≤posN r.Pats∧posN r.Pats≤3) (by omega)];simp
 have h:=of_decide_eq_true h
 have h':=of_decide_eq_true h'
 refine⟨⟨rfl,by omega,by omega,by omega,by omega,by intro j hj;omega⟩,?_⟩
 rintro⟨i,⟨b1,b2,b3,b4,b5,⟨⟩⟩,⟨⟩⟩ ⟨hbx,h1,h2,h3,h4,hR⟩
 cases hbx
 simp only
 refine if_dec (fun hc=> ?_) (fun hc=> ?_)
 ·have hN:patAtI r.Pats i.toNat=false→patsOkI r.Pats=false:=fun h=>by
   have hf:allI r.Pats.length (patAtI r.Pats)=false:=allI_false (j:=i.toNat) (by omega) h
   simp only[patsOkI,hf];simp
  rw[wrap_i64 (by omega) (by omega)]
  have c1:decide (posN r.Pats≤i.toNat)=decide (i≥(posN r.Pats:Int)):=decide_eq_decide.2 (by omega)
  refine⟨by omega,by omega,if_not (fun g=>Lf_ff (hN (by simp only[patAtI,g,Bool.false_and]))) (fun g=>if_not (fun k=>Lf_ff (hN ?_)) (fun k=>⟨⟨rfl,by omega,by omega,h3,h4,upto_step h1 hR ?_⟩,by simp only[Zm174_4];omega⟩))⟩
  ·simp only[patAtI,notAt,c1,k];simp
  ·simp only[patAtI,notAt,c1,k,g];rfl
 ·have hA:allI r.Pats.length (patAtI r.Pats)=true:=allI_true fun j hj=>hR j (by omega)
  refine Lf_tt ?_
  simp only[patsOkI,hA,decide_eq_true h3,decide_eq_true h4];rfl
def Zh174:HH:=⟨_,Zo174⟩
def Zk178:Con UU where
 α:=DRule
 md:=[.ro]
 of:=o1 (oA .eRule)
 ds:=fun x=>[dA .eRule x]
 pre:=fun r=>[2*r.Conds.length+usedN r.Acts≤4294967295]
 res:=fun r=>⟨[.one (.sl .str (usedV r))],true,[]⟩
 law:=l1 (lA .eRule)
def Zi178_3(r:DRule):List ByteArray×Int×(ByteArray×Int×List DPat×List DCond×List DAct×Unit)×Unit→Prop:=fun(v,i,b,_)=>b=(r.Name,r.Sal,r.Pats,r.Conds,r.Acts,())∧0≤i∧i≤r.Conds.length∧v=(r.Conds.take i.toNat).foldl usedC []
def Zm178_3(r:DRule):List ByteArray×Int×(ByteArray×Int×List DPat×List DCond×List DAct×Unit)×Unit→Nat:=fun(v,i,b,_)=>r.Conds.length-i.toNat
def Zi178_8(r:DRule):List ByteArray×Int×Unit→Prop:=fun(v,i,_)=>0≤i∧i≤r.Acts.length∧v=(r.Acts.take i.toNat).foldl usedA (r.Conds.foldl usedC [])
def Zm178_8(r:DRule):List ByteArray×Int×Unit→Nat:=fun(v,i,_)=>r.Acts.length-i.toNat
def Zi178_11(r:DRule):List ByteArray×Int×Int×Unit→List ByteArray×Int×Int×Unit→Prop:=fun(v0,i0,k0,_) (v,i,k,_)=>i=i0∧0≤k∧k≤(List.getD r.Acts i.toNat zAct).Args.length∧v=((List.getD r.Acts i.toNat zAct).Args.take k.toNat).foldl usedE v0
def Zm178_11(r:DRule):List ByteArray×Int×Int×Unit→Nat:=fun(v,i,k,_)=>(List.getD r.Acts i.toNat zAct).Args.length-k.toNat
def Za178:Zk178.α→Nat→Option (Ann UU):=fun r=>annL [(3,annOf [.slot 3 (3,1024) (.own .str true),.slot 13 (13,1024) (.lit (.int .i64)),.box 1 (1,1024) [.lit .str,.lit (.int .i64),.shr .ePat,.shr .eCond,.shr .eAct]] (fun _=>Zi178_3 r) (Zm178_3 r)),(8,annOf [.slot 3 (3,1024) (.own .str true),.slot 28 (28,1024) (.lit (.int .i64))] (fun _=>Zi178_8 r) (Zm178_8 r)),(11,annOf [.slot 3 (3,1024) (.own .str true),.slot 28 (28,1024) (.lit (.int .i64)),.slot 35 (35,1024) (.lit (.int .i64))] (Zi178_11 r) (Zm178_11 r))]
def Zu178:=us [Zh219]
theorem Zv178(r:DRule):goal EE Zu178 Go.Proofs.Tryz.f178 Zk178 Za178 r=(Zi178_3 r ([],(0:Int),(r.Name,r.Sal,r.Pats,r.Conds,r.Acts,()),())∧
 ∀(y:List ByteArray×Int×(ByteArray×Int×List DPat×List DCond×List DAct×PUnit)×PUnit),
  let x2:Nat:=List.length y.2.2.1.2.2.2.2.1;
  let x4:Nat:=Int.toNat y.2.1;
  let x1:Int:=(↑x2:Int);
  let x3:DCond:=List.getD r.Conds x4 zCond;
  let x0:List DArg:=[x3.L,x3.R];
  Zi178_3 r y→
   bif decide (y.2.1<(↑(List.length r.Conds):Int)) then(0:Int)≤y.2.1∧x4<List.length r.Conds∧List.length y.1+List.length x0≤(4294967295:Nat)∧Zi178_3 r (addVars y.1 x0,IntKind.wrap IntKind.i64 (y.2.1+(1:Int)),(y.2.2.1.1,y.2.2.1.2.1,y.2.2.1.2.2.1,y.2.2.1.2.2.2.1,y.2.2.1.2.2.2.2.1,PUnit.unit),PUnit.unit)∧Zm178_3 r (addVars y.1 x0,IntKind.wrap IntKind.i64 (y.2.1+(1:Int)),(y.2.2.1.1,y.2.2.1.2.1,y.2.2.1.2.2.1,y.2.2.1.2.2.2.1,y.2.2.1.2.2.2.2.1,PUnit.unit),PUnit.unit)<Zm178_3 r y
   else
    Zi178_8 r (y.1,(0:Int),PUnit.unit)∧
     ∀(y_1:List ByteArray×Int×PUnit),
      let x8:Nat:=Int.toNat y_1.2.1;
      let x7:List DExpr:=(List.getD y.2.2.1.2.2.2.2.1 x8 zAct).Args;
      let x6:Nat:=List.length x7;
      let x5:Int:=(↑x6:Int);
      Zi178_8 r y_1→
       bif decide (y_1.2.1<x1) then
        (0:Int)≤y_1.2.1∧
         x8<x2∧
          Zi178_11 r (y_1.1,y_1.2.1,(0:Int),PUnit.unit) (y_1.1,y_1.2.1,(0:Int),PUnit.unit)∧
           ∀(y:List ByteArray×Int×Int×PUnit),
            let x11:Nat:=Int.toNat y.2.2.1;
            let x10:DExpr:=List.getD x7 x11 zExpr;
            let x9:List DArg:=[x10.L,x10.R];
            Zi178_11 r (y_1.1,y_1.2.1,(0:Int),PUnit.unit) y→bif decide (y.2.2.1<x5) then(0:Int)≤y.2.2.1∧x11<x6∧List.length y.1+List.length x9≤(4294967295:Nat)∧Zi178_11 r (y_1.1,y_1.2.1,(0:Int),PUnit.unit) (addVars y.1 x9,y.2.1,IntKind.wrap IntKind.i64 (y.2.2.1+(1:Int)),PUnit.unit)∧Zm178_11 r (addVars y.1 x9,y.2.1,IntKind.wrap IntKind.i64 (y.2.2.1+(1:Int)),PUnit.unit)<Zm178_11 r y else Zi178_8 r (y.1,IntKind.wrap IntKind.i64 (y.2.1+(1:Int)),PUnit.unit)∧Zm178_8 r (y.1,IntKind.wrap IntKind.i64 (y.2.1+(1:Int)),PUnit.unit)<Zm178_8 r y_1
       else Lf [DV.one (Cell.sl Cd.str y_1.1)] [DV.one (Cell.sl Cd.str (usedV r))]):=by kernel_rfl
theorem Zo178:Holds EE (178,Zk178):=by
 refine holds_of EE_ok Go.Proofs.Tryz.func178 Zk178 (by kernel_rfl) Zu178 (us_ok _) Za178 (fun(r:DRule) hp hb=> ?_)
 have hz0:=bd_eRule (x:=r) (hb _ m0)
 have hl_r_Name:=hz0.1
 have hl_r_Pats:=hz0.2.1
 have hl_r_Conds:=hz0.2.2.1
 have hl_r_Acts:=hz0.2.2.2
 have hp0:2*r.Conds.length+usedN r.Acts≤4294967295:=hp _ m0
 clear hp hb
 rw[Zv178 r]
 dsimp only
 refine⟨⟨rfl,by omega,by omega,rfl⟩,?_⟩
 rintro⟨v,i,⟨b1,b2,b3,b4,b5,⟨⟩⟩,⟨⟩⟩ ⟨hbx,h1,h2,rfl⟩
 cases hbx
 simp only
 refine if_dec (fun hc=> ?_) (fun hc=> ?_)
 ·have hs:=foldl_step usedC [] r.Conds zCond h1 hc
  have hl:=usedCs_len (r.Conds.take i.toNat) []
  have hl2:(r.Conds.take i.toNat).length≤i.toNat:=by rw[List.length_take];omega
  simp only[List.length_nil] at hl
  rw[wrap_i64 (by omega) (by omega)]
  refine⟨by omega,by omega,by simp only[List.length_cons,List.length_nil];omega,⟨rfl,by omega,by omega,hs.symm⟩,by simp only[Zm178_3];omega⟩
 rw[take_all r.Conds (by omega)]
 have hl0:=usedCs_len r.Conds []
 simp only[List.length_nil] at hl0
 refine⟨⟨by omega,by omega,rfl⟩,?_⟩
 rintro⟨v,i,⟨⟩⟩ ⟨g1,g2,rfl⟩
 simp only
 refine if_dec (fun hc=> ?_) (fun hc=> ?_)
 ·have hs:=foldl_step usedA (r.Conds.foldl usedC []) r.Acts zAct g1 hc
  have ha:=usedN_at r.Acts g1 hc
  have hl:=usedAs_len (r.Acts.take i.toNat) (r.Conds.foldl usedC [])
  refine⟨by omega,by omega,⟨rfl,by omega,by omega,rfl⟩,?_⟩
  rintro⟨v,i',k,⟨⟩⟩ ⟨rfl,k1,k2,rfl⟩
  simp only
  have hle:=usedE_len ((List.getD r.Acts i'.toNat zAct).Args.take k.toNat) ((r.Acts.take i'.toNat).foldl usedA (r.Conds.foldl usedC []))
  have hl2:((List.getD r.Acts i'.toNat zAct).Args.take k.toNat).length≤k.toNat:=by rw[List.length_take];omega
  refine if_dec (fun hk=> ?_) (fun hk=> ?_)
  ·have hf:=foldl_step usedE ((r.Acts.take i'.toNat).foldl usedA (r.Conds.foldl usedC [])) (List.getD r.Acts i'.toNat zAct).Args zExpr k1 hk
   rw[wrap_i64 (by omega) (by omega)]
   exact⟨by omega,by omega,by simp only[List.length_cons,List.length_nil];omega,⟨rfl,by omega,by omega,hf.symm⟩,by simp only[Zm178_11];omega⟩
  ·rw[wrap_i64 (by omega) (by omega)]
   refine⟨⟨by omega,by omega,?_⟩,by simp only[Zm178_8];omega⟩
   rw[hs,take_all (List.getD r.Acts i'.toNat zAct).Args (by omega)];rfl
 ·rw[take_all r.Acts (by omega)]
  exact Lf_rfl _
def Zh178:HH:=⟨_,Zo178⟩
def Zk115:Con UU where
 α:=DRule
 md:=[.ro]
 of:=o1 (oA .eRule)
 ds:=fun x=>[dA .eRule x]
 pre:=fun _=>[]
 res:=fun r=>⟨[.one (.lit (.bool (ruleOk r)))],true,[]⟩
 law:=l1 (lA .eRule)
def Zi115_6(r:DRule):Int×(ByteArray×Int×List DPat×List DCond×List DAct×Unit)×Unit→Prop:=fun(i,b,_)=>b=(r.Name,r.Sal,r.Pats,r.Conds,r.Acts,())∧0≤i∧i≤r.Conds.length∧(r.Conds.drop i.toNat).all kondOk=r.Conds.all kondOk
def Zm115_6(r:DRule):Int×(ByteArray×Int×List DPat×List DCond×List DAct×Unit)×Unit→Nat:=fun(i,b,_)=>r.Conds.length-i.toNat
def Zi115_12(r:DRule):Int×(ByteArray×Int×List DPat×List DCond×List DAct×Unit)×Unit→Prop:=fun(i,b,_)=>b=(r.Name,r.Sal,r.Pats,r.Conds,r.Acts,())∧0≤i∧i≤r.Acts.length∧(r.Acts.drop i.toNat).all (fun a=>actOk a&&dropIn (posN r.Pats) a)=r.Acts.all (fun a=>actOk a&&dropIn (posN r.Pats) a)
def Zm115_12(r:DRule):Int×(ByteArray×Int×List DPat×List DCond×List DAct×Unit)×Unit→Nat:=fun(i,b,_)=>r.Acts.length-i.toNat
def Zi115_19(r:DRule):Int×List ByteArray×List ByteArray×Unit→Prop:=fun(i,v,u,_)=>v=posVars r.Pats∧u=usedV r∧0≤i∧i≤(usedV r).length∧((usedV r).drop i.toNat).all (hasS (posVars r.Pats))=(usedV r).all (hasS (posVars r.Pats))
def Zm115_19(r:DRule):Int×List ByteArray×List ByteArray×Unit→Nat:=fun(i,v,u,_)=>(usedV r).length-i.toNat
def Za115:Zk115.α→Nat→Option (Ann UU):=fun r=>annL [(6,annOf [.slot 39 (39,1024) (.lit (.int .i64)),.box 1 (1,1024) [.lit .str,.lit (.int .i64),.shr .ePat,.shr .eCond,.shr .eAct]] (fun _=>Zi115_6 r) (Zm115_6 r)),(12,annOf [.slot 50 (50,1024) (.lit (.int .i64)),.box 1 (1,1024) [.lit .str,.lit (.int .i64),.shr .ePat,.shr .eCond,.shr .eAct]] (fun _=>Zi115_12 r) (Zm115_12 r)),(19,annOf [.slot 75 (75,1024) (.lit (.int .i64)),.slot 7 (7,1024) (.own .str true),.slot 73 (73,1024) (.own .str true)] (fun _=>Zi115_19 r) (Zm115_19 r))]
def Zu115:=us [Zh76,Zh56,Zh174,Zh175,Zh176,Zh125,Zh177,Zh178,Zh179]
theorem Zv115(r:DRule):goal EE Zu115 Go.Proofs.Tryz.f115 Zk115 Za115 r=(let x0:Int:=(r.Conds.length:Int);
bif !nameOk r.Name then Lf [DV.one (Cell.lit (Value.bool false))] [DV.one (Cell.lit (Value.bool (ruleOk r)))]
else
 bif !decide ((-100:Int)≤r.Sal∧r.Sal≤(100:Int)) then Lf [DV.one (Cell.lit (Value.bool false))] [DV.one (Cell.lit (Value.bool (ruleOk r)))]
 else
  bif !patsOkI r.Pats then Lf [DV.one (Cell.lit (Value.bool false))] [DV.one (Cell.lit (Value.bool (ruleOk r)))]
  else
   bif decide (x0>(6:Int)) then Lf [DV.one (Cell.lit (Value.bool false))] [DV.one (Cell.lit (Value.bool (ruleOk r)))]
   else
    bif !decide ((1:Int)≤(↑(List.length r.Acts):Int)∧(↑(List.length r.Acts):Int)≤(6:Int)) then Lf [DV.one (Cell.lit (Value.bool false))] [DV.one (Cell.lit (Value.bool (ruleOk r)))]
    else
     Zi115_6 r ((0:Int),(r.Name,r.Sal,r.Pats,r.Conds,r.Acts,PUnit.unit),PUnit.unit)∧
      ∀(y:Int×(ByteArray×Int×List DPat×List DCond×List DAct×PUnit)×PUnit),
       let x2:Nat:=List.length y.2.1.2.2.2.2.1;
       let x1:Int:=(↑x2:Int);
       Zi115_6 r y→
        bif decide (y.1<x0) then(0:Int)≤y.1∧Int.toNat y.1<List.length r.Conds∧bif !kondOk (List.getD r.Conds (Int.toNat y.1) zCond) then Lf [DV.one (Cell.lit (Value.bool false))] [DV.one (Cell.lit (Value.bool (ruleOk r)))] else Zi115_6 r (IntKind.wrap IntKind.i64 (y.1+(1:Int)),(y.2.1.1,y.2.1.2.1,y.2.1.2.2.1,y.2.1.2.2.2.1,y.2.1.2.2.2.2.1,PUnit.unit),PUnit.unit)∧Zm115_6 r (IntKind.wrap IntKind.i64 (y.1+(1:Int)),(y.2.1.1,y.2.1.2.1,y.2.1.2.2.1,y.2.1.2.2.2.1,y.2.1.2.2.2.2.1,PUnit.unit),PUnit.unit)<Zm115_6 r y
        else
         Zi115_12 r ((0:Int),(y.2.1.1,y.2.1.2.1,y.2.1.2.2.1,y.2.1.2.2.2.1,y.2.1.2.2.2.2.1,PUnit.unit),PUnit.unit)∧
          ∀(y_1:Int×(ByteArray×Int×List DPat×List DCond×List DAct×PUnit)×PUnit),
           let x4:List ByteArray:=usedV {Name:=y_1.2.1.1,Sal:=y_1.2.1.2.1,Pats:=y_1.2.1.2.2.1,Conds:=y_1.2.1.2.2.2.1,Acts:=y_1.2.1.2.2.2.2.1:DRule};
           let x5:DAct:=List.getD y.2.1.2.2.2.2.1 (Int.toNat y_1.1) zAct;
           let x6:Int:=(↑(posN y_1.2.1.2.2.1):Int);
           let x3:Int:=(↑(List.length x4):Int);
           Zi115_12 r y_1→bif decide (y_1.1<x1) then(0:Int)≤y_1.1∧Int.toNat y_1.1<x2∧bif !actOk x5 then Lf [DV.one (Cell.lit (Value.bool false))] [DV.one (Cell.lit (Value.bool (ruleOk r)))] else bif x5.Kind==(2:Int) then bif decide (x5.N≥x6) then Lf [DV.one (Cell.lit (Value.bool false))] [DV.one (Cell.lit (Value.bool (ruleOk r)))] else Zi115_12 r (IntKind.wrap IntKind.i64 (y_1.1+(1:Int)),(y_1.2.1.1,y_1.2.1.2.1,y_1.2.1.2.2.1,y_1.2.1.2.2.2.1,y_1.2.1.2.2.2.2.1,PUnit.unit),PUnit.unit)∧Zm115_12 r (IntKind.wrap IntKind.i64 (y_1.1+(1:Int)),(y_1.2.1.1,y_1.2.1.2.1,y_1.2.1.2.2.1,y_1.2.1.2.2.2.1,y_1.2.1.2.2.2.2.1,PUnit.unit),PUnit.unit)<Zm115_12 r y_1 else Zi115_12 r (IntKind.wrap IntKind.i64 (y_1.1+(1:Int)),(y_1.2.1.1,y_1.2.1.2.1,y_1.2.1.2.2.1,y_1.2.1.2.2.2.1,y_1.2.1.2.2.2.2.1,PUnit.unit),PUnit.unit)∧Zm115_12 r (IntKind.wrap IntKind.i64 (y_1.1+(1:Int)),(y_1.2.1.1,y_1.2.1.2.1,y_1.2.1.2.2.1,y_1.2.1.2.2.2.1,y_1.2.1.2.2.2.2.1,PUnit.unit),PUnit.unit)<Zm115_12 r y_1 else patArgs y_1.2.1.2.2.1≤(4294967295:Nat)∧(2:Nat)*List.length y_1.2.1.2.2.2.1+usedN y_1.2.1.2.2.2.2.1≤(4294967295:Nat)∧Zi115_19 r ((0:Int),posVars y_1.2.1.2.2.1,x4,PUnit.unit)∧∀(y:Int×List ByteArray×List ByteArray×PUnit),Zi115_19 r y→bif decide (y.1<x3) then(0:Int)≤y.1∧Int.toNat y.1<List.length y.2.2.1∧Int.toNat y.1<List.length y.2.2.1∧bif !hasS y.2.1 (List.getD y.2.2.1 (Int.toNat y.1) noBytes) then Lf [DV.one (Cell.lit (Value.bool false))] [DV.one (Cell.lit (Value.bool (ruleOk r)))] else Zi115_19 r (IntKind.wrap IntKind.i64 (y.1+(1:Int)),y.2.1,y.2.2.1,PUnit.unit)∧Zm115_19 r (IntKind.wrap IntKind.i64 (y.1+(1:Int)),y.2.1,y.2.2.1,PUnit.unit)<Zm115_19 r y else Lf [DV.one (Cell.lit (Value.bool true))] [DV.one (Cell.lit (Value.bool (ruleOk r)))]):=by kernel_rfl
theorem Zo115:Holds EE (115,Zk115):=by
 refine holds_of EE_ok Go.Proofs.Tryz.func115 Zk115 (by kernel_rfl) Zu115 (us_ok _) Za115 (fun(r:DRule) hp hb=> ?_)
 have hz0:=bd_eRule (x:=r) (hb _ m0)
 have hl_r_Name:=hz0.1
 have hl_r_Pats:=hz0.2.1
 have hl_r_Conds:=hz0.2.2.1
 have hl_r_Acts:=hz0.2.2.2
 clear hp hb
 rw[Zv115 r]
 dsimp only
 have hF:ruleOkI r=false→ruleOk r=false:=fun h=>by rw[←ruleOkI_eq];exact h
 refine if_not (fun a1=>Lf_ff (hF (by simp[ruleOkI,a1]))) (fun a1=>if_not (fun a2=>Lf_ff (hF (by simp only[ruleOkI,a2];simp))) (fun a2=>if_not (fun a3=>Lf_ff (hF ?_)) (fun a3=>if_dec (fun a4=>Lf_ff (hF ?_)) (fun a4=>if_not (fun a5=>Lf_ff (hF ?_)) (fun a5=> ?_)))))
 ·rw[patsOkI_eq] at a3;simp[ruleOkI,a3]
 ·simp only[ruleOkI];rw[decide_eq_false (p:=r.Conds.length≤6) (by omega)];simp
 ·have a5:=of_decide_eq_false a5
  simp only[ruleOkI];rw[decide_eq_false (p:=1≤r.Acts.length∧r.Acts.length≤6) (by omega)];simp
 rw[patsOkI_eq] at a3
 have a5:=of_decide_eq_true a5
 refine⟨⟨rfl,by omega,by omega,rfl⟩,?_⟩
 rintro⟨i,⟨b1,b2,b3,b4,b5,⟨⟩⟩,⟨⟩⟩ ⟨hbx,h1,h2,hR⟩
 cases hbx
 simp only
 refine if_dec (fun hc=> ?_) (fun hc=> ?_)
 ·rw[all_step _ _ zCond h1 (by omega)] at hR
  rw[wrap_i64 (by omega) (by omega)]
  refine⟨by omega,by omega,if_not (fun g=>Lf_ff (hF ?_)) (fun g=>⟨⟨rfl,by omega,by omega,?_⟩,by simp only[Zm115_6];omega⟩)⟩
  ·simp only[ruleOkI,←hR,g];simp
  ·rw[←hR,g];rfl
 rw[drop_end _ (by omega)] at hR
 have a6:r.Conds.all kondOk=true:=hR.symm
 refine⟨⟨rfl,by omega,by omega,rfl⟩,?_⟩
 rintro⟨i,⟨b1,b2,b3,b4,b5,⟨⟩⟩,⟨⟩⟩ ⟨hbx,g1,g2,gR⟩
 cases hbx
 simp only
 refine if_dec (fun hc=> ?_) (fun hc=> ?_)
 ·rw[all_step _ _ zAct g1 (by omega)] at gR
  rw[wrap_i64 (by omega) (by omega)]
  have hN:(actOk (List.getD r.Acts i.toNat zAct)&&dropIn (posN r.Pats) (List.getD r.Acts i.toNat zAct))=false→ruleOk r=false:=fun h=>hF (by simp only[ruleOkI,←gR,h];simp)
  have hgo:actOk (List.getD r.Acts i.toNat zAct)=true→dropIn (posN r.Pats) (List.getD r.Acts i.toNat zAct)=true→(r.Acts.drop (i+1).toNat).all (fun a=>actOk a&&dropIn (posN r.Pats) a)=r.Acts.all (fun a=>actOk a&&dropIn (posN r.Pats) a):=fun e1 e2=>by rw[←gR,e1,e2];rfl
  refine⟨by omega,by omega,if_not (fun ha=>Lf_ff (hN (by rw[ha];rfl))) (fun ha=>if_num (fun hk2=>if_dec (fun hp=>Lf_ff (hN ?_)) (fun hp=>⟨⟨rfl,by omega,by omega,hgo ha ?_⟩,by simp only[Zm115_12];omega⟩)) (fun hk2=>⟨⟨rfl,by omega,by omega,hgo ha ?_⟩,by simp only[Zm115_12];omega⟩))⟩
  ·simp only[dropIn,hk2,decide_eq_true (show(posN r.Pats:Int)≤(List.getD r.Acts i.toNat zAct).N from hp)];simp
  ·simp only[dropIn,decide_eq_false (show¬(posN r.Pats:Int)≤(List.getD r.Acts i.toNat zAct).N from hp)];simp
  ·simp only[dropIn,decide_eq_false hk2];simp
 rw[drop_end _ (by omega)] at gR
 have a7:r.Acts.all (fun a=>actOk a&&dropIn (posN r.Pats) a)=true:=gR.symm
 have hpa:=patsOk_args a3
 have hus:=actsOk_used (l:=r.Acts) (by omega) (fun a ha=>by
  have:=List.all_eq_true.1 a7 a ha
  simp only[Bool.and_eq_true] at this
  exact this.1)
 have hul:(usedV r).length≤2*r.Conds.length+usedN r.Acts:=by
  have q1:=usedAs_len r.Acts (r.Conds.foldl usedC [])
  have q2:=usedCs_len r.Conds []
  simp only[List.length_nil] at q2
  simp only[usedV];omega
 refine⟨by omega,by omega,⟨rfl,rfl,by omega,by omega,rfl⟩,?_⟩
 rintro⟨i,v,u,⟨⟩⟩ ⟨rfl,rfl,k1,k2,kR⟩
 simp only
 refine if_dec (fun hk=> ?_) (fun hk=> ?_)
 ·rw[all_step _ _ noBytes k1 hk] at kR
  rw[wrap_i64 (by omega) (by omega)]
  have hk':i<(usedV r).length:=hk
  refine⟨by omega,by omega,by omega,if_not (fun g=>Lf_ff (hF ?_)) (fun g=>⟨⟨rfl,rfl,by omega,by omega,?_⟩,by simp only[Zm115_19];omega⟩)⟩
  ·simp only[ruleOkI,←kR,g];simp
  ·rw[←kR,g];rfl
 ·have hk':¬i<(usedV r).length:=hk
  rw[drop_end _ (by omega)] at kR
  refine Lf_tt ?_
  rw[←ruleOkI_eq]
  simp only[ruleOkI,a1,a2,a3,a6,a7,←kR,decide_eq_true (show r.Conds.length≤6 by omega),decide_eq_true (show 1≤r.Acts.length∧r.Acts.length≤6 by omega)];rfl
def Zh115:HH:=⟨_,Zo115⟩
def Zk61:Con UU where
 α:=DTask
 md:=[.ro]
 of:=o1 (oA .eTask)
 ds:=fun x=>[dA .eTask x]
 pre:=fun _=>[]
 res:=fun t=>⟨[.one (.lit (.bool (isOpen t)))],true,[]⟩
 law:=l1 (lA .eTask)
def Za61:Zk61.α→Nat→Option (Ann UU):=fun t=>annL []
def Zu61:List (FuncId×Con UU):=[]
theorem Zv61(t:DTask):goal EE Zu61 Go.Proofs.Tryz.f61 Zk61 Za61 t=(bif t.State==(1:Int) then Lb true (isOpen t) else Lb (t.State==(2:Int)) (isOpen t)):=by kernel_rfl
theorem Zo61:Holds EE (61,Zk61):=by
 refine holds_of EE_ok Go.Proofs.Tryz.func61 Zk61 (by kernel_rfl) Zu61 all_nil Za61 (fun(t:DTask) hp hb=> ?_)
 have hz0:=bd_eTask (x:=t) (hb _ m0)
 have hl_t_F_Kind:=hz0.1
 have hl_t_F_Fields:=hz0.2.1
 have hl_t_Undo:=hz0.2.2.1
 have hl_t_V_S:=hz0.2.2.2
 clear hp hb
 rw[Zv61 t]
 simp only[isOpen]
 refine if_cond (fun h=>Lf_b ?_) (fun h=>Lf_b ?_)<;>grind
def Zh61:HH:=⟨_,Zo61⟩
def Zk42:Con UU where
 α:=DInst
 md:=[.ro]
 of:=o1 (oA .eInst)
 ds:=fun x=>[dA .eInst x]
 pre:=fun _=>[]
 res:=fun x=>⟨[.one (.lit (.bool (decide (x.State=2∨x.State=4∨x.State=6))))],true,[]⟩
 law:=l1 (lA .eInst)
def Za42:Zk42.α→Nat→Option (Ann UU):=fun x=>annL []
def Zu42:List (FuncId×Con UU):=[]
theorem Zv42(x:DInst):goal EE Zu42 Go.Proofs.Tryz.f42 Zk42 Za42 x=(bif x.State==(2:Int) then Lb true (decide (x.State=(2:Int)∨x.State=(4:Int)∨x.State=(6:Int))) else bif x.State==(4:Int) then Lb true (decide (x.State=(2:Int)∨x.State=(4:Int)∨x.State=(6:Int))) else Lb (x.State==(6:Int)) (decide (x.State=(2:Int)∨x.State=(4:Int)∨x.State=(6:Int)))):=by kernel_rfl
theorem Zo42:Holds EE (42,Zk42):=by
 refine holds_of EE_ok Go.Proofs.Tryz.func42 Zk42 (by kernel_rfl) Zu42 all_nil Za42 (fun(x:DInst) hp hb=> ?_)
 have hz0:=bd_eInst (x:=x) (hb _ m0)
 have hl_x_S_Items:=hz0.1
 have hl_x_Fired:=hz0.2.1
 have hl_x_Tasks:=hz0.2.2.1
 have hl_x_Timers:=hz0.2.2.2.1
 have hl_x_Undos:=hz0.2.2.2.2
 clear hp hb
 rw[Zv42 x]
 repeat' (refine if_cond (fun h=> ?_) (fun h=> ?_))
 all_goals (refine Lf_b ?_;grind)
def Zh42:HH:=⟨_,Zo42⟩
def Zk59:Con UU where
 α:=DInst
 md:=[.ro]
 of:=o1 (oA .eInst)
 ds:=fun x=>[dA .eInst x]
 pre:=fun _=>[]
 res:=fun x=>⟨[.one (.lit (.bool (decide (x.State=2∨x.State=4∨x.State=6))))],true,[]⟩
 law:=l1 (lA .eInst)
def Za59:Zk59.α→Nat→Option (Ann UU):=fun x=>annL []
def Zu59:List (FuncId×Con UU):=[]
theorem Zv59(x:DInst):goal EE Zu59 Go.Proofs.Tryz.f59 Zk59 Za59 x=(bif x.State==(2:Int) then Lb true (decide (x.State=(2:Int)∨x.State=(4:Int)∨x.State=(6:Int))) else bif x.State==(4:Int) then Lb true (decide (x.State=(2:Int)∨x.State=(4:Int)∨x.State=(6:Int))) else Lb (x.State==(6:Int)) (decide (x.State=(2:Int)∨x.State=(4:Int)∨x.State=(6:Int)))):=by kernel_rfl
theorem Zo59:Holds EE (59,Zk59):=by
 refine holds_of EE_ok Go.Proofs.Tryz.func59 Zk59 (by kernel_rfl) Zu59 all_nil Za59 (fun(x:DInst) hp hb=> ?_)
 have hz0:=bd_eInst (x:=x) (hb _ m0)
 have hl_x_S_Items:=hz0.1
 have hl_x_Fired:=hz0.2.1
 have hl_x_Tasks:=hz0.2.2.1
 have hl_x_Timers:=hz0.2.2.2.1
 have hl_x_Undos:=hz0.2.2.2.2
 clear hp hb
 rw[Zv59 x]
 repeat' (refine if_cond (fun h=> ?_) (fun h=> ?_))
 all_goals (refine Lf_b ?_;grind)
def Zh59:HH:=⟨_,Zo59⟩
def daRule(x:DRule):DA UU:=⟨true,[.lit (.string x.Name),.lit (.int .i64 x.Sal),.sl .ePat x.Pats,.sl .eCond x.Conds,.sl .eAct x.Acts]⟩
def ruleAt(l:List DRule)(name:ByteArray):Int:=idxI l.length fun k=>decide ((List.getD l k zRule).Name=name)
def defAtR(l:List DRule)(i:Nat):Bool:=ruleOk (List.getD l i zRule)&&decide (ruleAt l (List.getD l i zRule).Name=i)
def defOk(d:DDef):Bool:=nameOk d.Name&&decide (1≤d.Rules.length∧d.Rules.length≤12)&&allI d.Rules.length (defAtR d.Rules)
theorem rule_size{l:List DRule}{i:Int}(h0:0≤i)(h:i<l.length):patArgs (List.getD l i.toNat zRule).Pats≤sizeRuleS l:=by
 have hs:=sum_getD_le sizeRule l zRule h0 h
 have hp:=patArgs_size (List.getD l i.toNat zRule).Pats
 simp only[sizeRule] at hs
 simp only[sizeRuleS,sizeRule];omega
def idAt(l:List DItem)(f:DFact):Int:=idxI l.length fun k=>decide ((List.getD l k zItem).F=f)
def idOf(l:List DItem)(f:DFact):Int:=if idAt l f= -1 then 0 else(List.getD l (idAt l f).toNat zItem).Id
def placeId(l:List DItem)(id:Int):Int:=idxI l.length fun k=>decide ((List.getD l k zItem).Id=id)
def factOf(l:List DItem)(id:Int):DFact:=if placeId l id= -1 then zFact else(List.getD l (placeId l id).toNat zItem).F
def hasId(l:List DItem)(id:Int):Bool:=anyI l.length fun k=>decide ((List.getD l k zItem).Id=id)
def baseAt(s:DStore)(i:Nat):Bool:=factOk (List.getD s.Items i zItem).F&&decide (1≤(List.getD s.Items i zItem).Id)&&decide ((List.getD s.Items i zItem).Id<s.Next)&& !(decide (0<i)&&decide ((List.getD s.Items i zItem).Id≤(List.getD s.Items (i-1) zItem).Id))
def itemAt(s:DStore)(i:Nat):Bool:=baseAt s i&&decide (idOf s.Items (List.getD s.Items i zItem).F=(List.getD s.Items i zItem).Id)
def itemAtI(s:DStore)(i:Nat):Bool:=baseAt s i&& !(anyI i fun k=>decide ((List.getD s.Items i zItem).F=(List.getD s.Items k zItem).F))
def storeOk(s:DStore):Bool:=decide (1≤s.Next∧s.Next≤1000000)&&decide (s.Items.length≤40)&&allI s.Items.length (itemAt s)
theorem base_ids{s:DStore}(h:∀i,i<s.Items.length→baseAt s i=true):∀j i,j<i→i<s.Items.length→(List.getD s.Items j zItem).Id<(List.getD s.Items i zItem).Id:=by
 intro j i hij hi
 have step:∀m,m+1<s.Items.length→(List.getD s.Items m zItem).Id<(List.getD s.Items (m+1) zItem).Id:=fun m hm=>by
  have:=h (m+1) hm
  simp only[baseAt,Bool.and_eq_true,Bool.not_eq_true',Bool.and_eq_false_iff,decide_eq_false_iff_not,decide_eq_true_eq,Nat.add_sub_cancel] at this
  have:=this.2
  omega
 obtain⟨k,rfl⟩:∃k,i=j+1+k:=⟨i-j-1,by omega⟩
 clear hij
 induction k with
 |zero=>exact step j hi
 |succ k ih=>exact Int.lt_trans (ih (by omega)) (step (j+1+k) hi)
theorem store_same(s:DStore):allI s.Items.length (itemAtI s)=allI s.Items.length (itemAt s):=by
 rw[Bool.eq_iff_iff,allI_all,allI_all]
 have hfst:∀i,i<s.Items.length→∃m,m≤i∧idAt s.Items (List.getD s.Items i zItem).F=(m:Int)∧(List.getD s.Items m zItem).F=(List.getD s.Items i zItem).F∧∀j,j<m→¬(List.getD s.Items j zItem).F=(List.getD s.Items i zItem).F:=by
  intro i hi
  rcases idxI_cases s.Items.length (fun k=>decide ((List.getD s.Items k zItem).F=(List.getD s.Items i zItem).F)) with⟨_,h2⟩|⟨m,g1,g2,g3,g4⟩
  ·have:=h2 i hi;simp at this
  ·refine⟨m,?_,g2,of_decide_eq_true g3,fun j hj=>of_decide_eq_false (g4 j hj)⟩
   rcases Nat.lt_or_ge i m with g|g
   ·have:=g4 i g;simp at this
   ·exact g
 have hid:∀i m:Nat,idAt s.Items (List.getD s.Items i zItem).F=(m:Int)→idOf s.Items (List.getD s.Items i zItem).F=(List.getD s.Items m zItem).Id:=fun i m h=>by
  rw[idOf,h,if_neg (by omega)];simp
 constructor
 ·intro h i hi
  have hi2:=h i hi
  simp only[itemAtI,Bool.and_eq_true,Bool.not_eq_true'] at hi2
  obtain⟨m,m1,m2,m3,m4⟩:=hfst i hi
  have:m=i:=by
   rcases Nat.lt_or_ge m i with g|g
   ·have:=anyI_not.1 hi2.2 m g
    exact absurd m3.symm (of_decide_eq_false this)
   ·omega
  subst this
  simp only[itemAt,hi2.1,hid m m m2,decide_true,Bool.and_true]
 ·intro h i hi
  have hb:∀i,i<s.Items.length→baseAt s i=true:=fun i hi=>by
   have:=h i hi
   simp only[itemAt,Bool.and_eq_true] at this
   exact this.1
  have hi2:=h i hi
  simp only[itemAt,Bool.and_eq_true,decide_eq_true_eq] at hi2
  have hno:(anyI i fun k=>decide ((List.getD s.Items i zItem).F=(List.getD s.Items k zItem).F))=false:=anyI_false fun k hk=>decide_eq_false fun e=>by
   obtain⟨m,m1,m2,m3,m4⟩:=hfst i hi
   have hmk:m≤k:=by
    rcases Nat.lt_or_ge k m with g|g
    ·exact absurd e.symm (m4 k g)
    ·exact g
   have:=base_ids hb m i (by omega) hi
   rw[hid i m m2] at hi2
   omega
  simp only[itemAtI,hi2.1,hno];rfl
def hasR(d:DDef)(m:DMatch):Bool:=decide (0≤m.Rule)&&decide (m.Rule<(d.Rules.length:Int))
def firedM(d:DDef)(s:List DItem)(m:DMatch):Bool:=hasR d m&&decide (m.Binds.length=0)&&decide (m.Ids.length=posN (List.getD d.Rules m.Rule.toNat zRule).Pats)&&m.Ids.all (hasId s)
def firedOk(d:DDef)(x:DInst):Bool:=decide (x.Fired.length≤1000)&&x.Fired.all (firedM d x.S.Items)
def liveT(l:List DTask):Bool:=anyI l.length fun k=>isOpen (List.getD l k zTask)
def endedX(x:DInst):Bool:=decide (x.State=2∨x.State=4∨x.State=6)
def undoingX(x:DInst):Bool:=decide (x.State=3)||decide (x.State=5)
def instOk(d:DDef)(x:DInst):Bool:=defOk d&&storeOk x.S&&tasksOk x.Tasks&&timersOk x.Timers&&undosOk x.Undos&&decide (1≤x.State∧x.State≤6)&&decide (0≤x.Now∧x.Now≤1000000000)&&firedOk d x&& !(endedX x&&(liveT x.Tasks||decide (0<x.Timers.length)))&&(!undoingX x||decide (0<x.Undos.length))
def Zk180:Con UU where
 α:=(List DRule)×(List (DA UU)→Option Value)
 md:=[.ro,.ro]
 of:=oC (oL .eRule) (o1 oF)
 ds:=fun x=>[dL .eRule x.1,dF x.2]
 pre:=fun(l,p)=>[∀j:Nat,j<l.length→p [daRule (List.getD l j zRule)]=some (.bool (boolOf (p [daRule (List.getD l j zRule)])))]
 res:=fun(l,p)=>⟨[.one (.lit (.int .i64 (idxI l.length (fun j=>boolOf (p [daRule (List.getD l j zRule)])))))],true,[]⟩
 law:=lC (lL .eRule) (l1 lF)
def Zi180_2(l:(List DRule))(p:(List (DA UU)→Option Value)):Int×Unit→Prop:=fun(i,_)=>0≤i∧i≤l.length∧∀j:Nat,(j:Int)<i→boolOf (p [daRule (List.getD l j zRule)])=false
def Zm180_2(l:(List DRule))(p:(List (DA UU)→Option Value)):Int×Unit→Nat:=fun(i,_)=>l.length-i.toNat
def Za180:Zk180.α→Nat→Option (Ann UU):=fun(l,p)=>annL [(2,annOf [.slot 8 (8,1024) (.lit (.int .i64))] (fun _=>Zi180_2 l p) (Zm180_2 l p))]
def Zu180:List (FuncId×Con UU):=[]
theorem Zv180(l:(List DRule))(p:(List (DA UU)→Option Value)):goal EE Zu180 Go.Proofs.Tryz.f180 Zk180 Za180 (l,p)=(Zi180_2 l p ((0:Int),())∧
 ∀(y:Int×PUnit),
  let x1:DRule:=List.getD l (Int.toNat y.1) zRule;
  let x0:Bool:=boolOf (p [{agg:=true,cs:=[Cell.lit (Value.string x1.Name),Cell.lit (Value.int IntKind.i64 x1.Sal),Cell.sl Cd.ePat x1.Pats,Cell.sl Cd.eCond x1.Conds,Cell.sl Cd.eAct x1.Acts]:DA UU}]);
  Zi180_2 l p y→bif decide (y.1<(↑(List.length l):Int)) then(0:Int)≤y.1∧Int.toNat y.1<List.length l∧p [{agg:=true,cs:=[Cell.lit (Value.string x1.Name),Cell.lit (Value.int IntKind.i64 x1.Sal),Cell.sl Cd.ePat x1.Pats,Cell.sl Cd.eCond x1.Conds,Cell.sl Cd.eAct x1.Acts]:DA UU}]=some (Value.bool x0)∧bif x0 then Lf [DV.one (Cell.lit (Value.int IntKind.i64 y.1))] [DV.one (Cell.lit (Value.int IntKind.i64 (idxI (List.length l) fun(j:Nat)=>boolOf (p [daRule (List.getD l j zRule)]))))] else Zi180_2 l p (IntKind.wrap IntKind.i64 (y.1+(1:Int)),PUnit.unit)∧Zm180_2 l p (IntKind.wrap IntKind.i64 (y.1+(1:Int)),PUnit.unit)<Zm180_2 l p y else Lf [DV.one (Cell.lit (Value.int IntKind.i64 (-1:Int)))] [DV.one (Cell.lit (Value.int IntKind.i64 (idxI (List.length l) fun(j:Nat)=>boolOf (p [daRule (List.getD l j zRule)]))))]):=by kernel_rfl
theorem Zo180:Holds EE (180,Zk180):=by
 refine holds_of EE_ok Go.Proofs.Tryz.func180 Zk180 (by kernel_rfl) Zu180 all_nil Za180 (fun x hp hb=> ?_)
 obtain⟨l,p⟩:=x
 have hl_l:l.length≤9223372036854775807:=bdL (hb _ m0)
 have hp0:∀j:Nat,j<l.length→p [daRule (List.getD l j zRule)]=some (.bool (boolOf (p [daRule (List.getD l j zRule)]))):=hp _ m0
 clear hp hb
 rw[Zv180 l p]
 dsimp only
 refine⟨⟨by omega,by omega,by intro j hj;omega⟩,?_⟩
 rintro⟨i,⟨⟩⟩ ⟨h1,h2,hR⟩
 simp only[daRule] at*
 refine if_cond (fun hc=> ?_) (fun hc=> ?_)
 ·have hc:=of_decide_eq_true hc
  rw[wrap_i64 (by omega) (by omega)]
  refine⟨by omega,by omega,hp0 i.toNat (by omega),if_cond (fun h=>Lf_i ?_) (fun h=>⟨⟨by omega,by omega,upto_no (p:=fun j=>boolOf (p [daRule (List.getD l j zRule)])) h1 hR h⟩,by simp only[Zm180_2];omega⟩)⟩
  rw[idxI_found (i:=i.toNat) (by omega) h (fun j hj=>hR j (by omega))]
  omega
 ·have hc:=of_decide_eq_false hc
  exact Lf_i (idxI_none (fun j hj=>hR j (by omega))).symm
def Zh180:HH:=⟨_,Zo180⟩
def Zk181:Con UU where
 α:=DRule×ByteArray
 md:=[.ro,.ro]
 of:=fun|[.agg [.lit (.string a0),.lit (.int .i64 a1),.sl .ePat a2,.sl .eCond a3,.sl .eAct a4],.ptr [.lit (.string a5)]]=>some (⟨a0,a1,a2,a3,a4⟩,a5)|_=>none
 ds:=fun(r,name)=>[.agg [.lit (.string r.Name),.lit (.int .i64 r.Sal),.sl .ePat r.Pats,.sl .eCond r.Conds,.sl .eAct r.Acts],.ptr [.lit (.string name)]]
 pre:=fun(r,name)=>[]
 res:=fun(r,name)=>⟨[.one (.lit (.bool (decide (r.Name=name))))],true,[]⟩
 law:=by intro l x h;(try simp only at h);split at h<;>cases h;rfl
def Za181:Zk181.α→Nat→Option (Ann UU):=fun(r,name)=>annL []
def Zu181:List (FuncId×Con UU):=[]
theorem Zv181(r:DRule)(name:ByteArray):goal EE Zu181 Go.Proofs.Tryz.f181 Zk181 Za181 (r,name)=(Lb (ByteArray.toList r.Name==ByteArray.toList name) (decide (r.Name=name))):=by kernel_rfl
theorem Zo181:Holds EE (181,Zk181):=by
 refine holds_of EE_ok Go.Proofs.Tryz.func181 Zk181 (by kernel_rfl) Zu181 all_nil Za181 (fun x hp hb=> ?_)
 obtain⟨r,name⟩:=x
 have hb_r:BdDV (U:=UU) (.agg [.lit (.string r.Name),.lit (.int .i64 r.Sal),.sl .ePat r.Pats,.sl .eCond r.Conds,.sl .eAct r.Acts]):=hb _ (List.mem_cons_self)
 have hl_r_Name:r.Name.size≤9223372036854775807:=Bd.str (hb_r _ (by simp))
 have hl_r_Pats:r.Pats.length≤9223372036854775807:=Bd.len (U:=UU) (τ:=.ePat) (xs:=r.Pats) (hb_r _ (by simp))
 have hl_r_Conds:r.Conds.length≤9223372036854775807:=Bd.len (U:=UU) (τ:=.eCond) (xs:=r.Conds) (hb_r _ (by simp))
 have hl_r_Acts:r.Acts.length≤9223372036854775807:=Bd.len (U:=UU) (τ:=.eAct) (xs:=r.Acts) (hb_r _ (by simp))
 have hb_name:BdDV (U:=UU) (.ptr [.lit (.string name)]):=hb _ (List.mem_cons_of_mem _ (List.mem_cons_self))
 have hl_name:name.size≤9223372036854775807:=Bd.str (hb_name _ (by simp))
 clear hp hb
 rw[Zv181 r name]
 rw[toList_beq]
 exact Lf_rfl _
def Zh181:HH:=⟨_,Zo181⟩
def Zk116:Con UU where
 α:=DDef×ByteArray
 md:=[.ro,.ro]
 of:=oC (oA .eDef) (o1 oS)
 ds:=fun x=>[dA .eDef x.1,dS x.2]
 pre:=fun _=>[]
 res:=fun(d,name)=>⟨[.one (.lit (.int .i64 (ruleAt d.Rules name)))],true,[]⟩
 law:=lC (lA .eDef) (l1 lS)
def Za116:Zk116.α→Nat→Option (Ann UU):=fun(d,name)=>annL []
def Zu116:=us [Zh180,Zh181]
theorem Zv116(d:DDef)(name:ByteArray):goal EE Zu116 Go.Proofs.Tryz.f116 Zk116 Za116 (d,name)=((∀(j:Nat),j<d.Rules.length→closP Zk181 [DV.ptr [Cell.lit (Value.string name)]] [daRule (List.getD d.Rules j zRule)]=some (Value.bool (boolOf (closP Zk181 [DV.ptr [Cell.lit (Value.string name)]] [daRule (List.getD d.Rules j zRule)]))))∧Li (idxI (d.Rules.length) fun(j:Nat)=>boolOf (closP Zk181 [DV.ptr [Cell.lit (Value.string name)]] [daRule (List.getD d.Rules j zRule)])) (ruleAt d.Rules name)):=by kernel_rfl
theorem Zo116:Holds EE (116,Zk116):=by
 refine holds_of EE_ok Go.Proofs.Tryz.func116 Zk116 (by kernel_rfl) Zu116 (us_ok _) Za116 (fun x hp hb=> ?_)
 obtain⟨d,name⟩:=x
 have hz0:=bd_eDef (x:=d) (hb _ m0)
 have hl_d_Name:=hz0.1
 have hl_d_Rules:=hz0.2
 have hl_name:=bdS (s:=name) (hb _ m1)
 clear hp hb
 rw[Zv116 d name]
 have hc:∀x:DRule,closP Zk181 [.ptr [.lit (.string name)]] [daRule x]=some (.bool (decide (x.Name=name))):=fun x=>closP_of (x:=(x,name)) rfl rfl rfl rfl (by simp[Zk181])
 refine⟨fun j hj=> ?_,Lf_i ?_⟩
 ·show closP Zk181 [.ptr [.lit (.string name)]] [daRule (List.getD d.Rules j zRule)]=_
  rw[hc];rfl
 ·exact idxI_congr fun j hj=>by
   show boolOf (closP Zk181 [.ptr [.lit (.string name)]] [daRule (List.getD d.Rules j zRule)])=_
   rw[hc];rfl
def Zh116:HH:=⟨_,Zo116⟩
def Zk103:Con UU where
 α:=DDef×ByteArray
 md:=[.ro,.ro]
 of:=oC (oA .eDef) (o1 oS)
 ds:=fun x=>[dA .eDef x.1,dS x.2]
 pre:=fun _=>[]
 res:=fun(d,name)=>⟨[.one (.lit (.int .i64 (ruleAt d.Rules name)))],true,[]⟩
 law:=lC (lA .eDef) (l1 lS)
def Zi103_2(d:DDef)(name:ByteArray):Int×(ByteArray×List DRule×Unit)×Unit→Prop:=fun(i,fb,_)=>fb=(d.Name,d.Rules,())∧0≤i∧i≤d.Rules.length∧∀j:Nat,(j:Int)<i→decide ((List.getD d.Rules j zRule).Name=name)=false
def Zm103_2(d:DDef)(name:ByteArray):Int×(ByteArray×List DRule×Unit)×Unit→Nat:=fun(i,fb,_)=>d.Rules.length-i.toNat
def Za103:Zk103.α→Nat→Option (Ann UU):=fun(d,name)=>annL [(2,annOf [.slot 5 (5,1024) (.lit (.int .i64)),.box 2 (2,1024) [.lit .str,.shr .eRule]] (fun _=>Zi103_2 d name) (Zm103_2 d name))]
def Zu103:List (FuncId×Con UU):=[]
theorem Zv103(d:DDef)(name:ByteArray):goal EE Zu103 Go.Proofs.Tryz.f103 Zk103 Za103 (d,name)=(Zi103_2 d name ((0:Int),(d.Name,d.Rules,()),())∧
 ∀(y:Int×(ByteArray×List DRule×PUnit)×PUnit),
  let x1:Nat:=List.length y.2.1.2.1;
  let x0:Int:=(↑x1:Int);
  Zi103_2 d name y→bif decide (y.1<x0) then(0:Int)≤y.1∧Int.toNat y.1<x1∧bif ByteArray.toList (List.getD y.2.1.2.1 (Int.toNat y.1) zRule).Name==ByteArray.toList name then Lf [DV.one (Cell.lit (Value.int IntKind.i64 y.1))] [DV.one (Cell.lit (Value.int IntKind.i64 (ruleAt d.Rules name)))] else Zi103_2 d name (IntKind.wrap IntKind.i64 (y.1+(1:Int)),(y.2.1.1,y.2.1.2.1,PUnit.unit),PUnit.unit)∧Zm103_2 d name (IntKind.wrap IntKind.i64 (y.1+(1:Int)),(y.2.1.1,y.2.1.2.1,PUnit.unit),PUnit.unit)<Zm103_2 d name y else Lf [DV.one (Cell.lit (Value.int IntKind.i64 (-1:Int)))] [DV.one (Cell.lit (Value.int IntKind.i64 (ruleAt d.Rules name)))]):=by kernel_rfl
theorem Zo103:Holds EE (103,Zk103):=by
 refine holds_of EE_ok Go.Proofs.Tryz.func103 Zk103 (by kernel_rfl) Zu103 all_nil Za103 (fun x hp hb=> ?_)
 obtain⟨d,name⟩:=x
 have hz0:=bd_eDef (x:=d) (hb _ m0)
 have hl_d_Name:=hz0.1
 have hl_d_Rules:=hz0.2
 have hl_name:=bdS (s:=name) (hb _ m1)
 clear hp hb
 rw[Zv103 d name]
 dsimp only
 refine⟨⟨rfl,by omega,by omega,by intro j hj;omega⟩,?_⟩
 rintro⟨i,fb,⟨⟩⟩ ⟨rfl,h1,h2,hR⟩
 simp only
 refine if_cond (fun hc=> ?_) (fun hc=> ?_)
 ·have hc:i<d.Rules.length:=of_decide_eq_true hc
  simp(disch:=omega) only[wrap_i64,toList_beq]
  refine⟨by omega,by omega,if_cond (fun h=>Lf_i ?_) (fun h=>⟨⟨rfl,by omega,by omega,upto_no (p:=fun j=>decide ((List.getD d.Rules j zRule).Name=name)) h1 hR h⟩,by simp only[Zm103_2];omega⟩)⟩
  rw[ruleAt,idxI_found (i:=i.toNat) (by omega) h (fun j hj=>hR j (by omega))]
  omega
 ·have hc:¬i<d.Rules.length:=of_decide_eq_false hc
  exact Lf_i (idxI_none (fun j hj=>hR j (by omega))).symm
def Zh103:HH:=⟨_,Zo103⟩
def Zk35:Con UU where
 α:=DDef
 md:=[.ro]
 of:=o1 (oA .eDef)
 ds:=fun x=>[dA .eDef x]
 pre:=fun d=>[sizeDef d≤4294967295]
 res:=fun d=>⟨[.one (.lit (.bool (defOk d)))],true,[]⟩
 law:=l1 (lA .eDef)
def Zi35_2(d:DDef):Int×(ByteArray×List DRule×Unit)×Unit→Prop:=fun(i,b,_)=>b=(d.Name,d.Rules,())∧0≤i∧i≤d.Rules.length∧∀j:Nat,(j:Int)<i→defAtR d.Rules j=true
def Zm35_2(d:DDef):Int×(ByteArray×List DRule×Unit)×Unit→Nat:=fun(i,b,_)=>d.Rules.length-i.toNat
def Za35:Zk35.α→Nat→Option (Ann UU):=fun d=>annL [(2,annOf [.slot 3 (3,1024) (.lit (.int .i64)),.box 1 (1,1024) [.lit .str,.shr .eRule]] (fun _=>Zi35_2 d) (Zm35_2 d))]
def Zu35:=us [Zh102,Zh103,Zh71,Zh40]
theorem Zv35(d:DDef):goal EE Zu35 Go.Proofs.Tryz.f35 Zk35 Za35 d=(Zi35_2 d ((0:Int),(d.Name,d.Rules,()),())∧
 ∀(y:Int×(ByteArray×List DRule×PUnit)×PUnit),
  let x1:DRule:=List.getD y.2.1.2.1 (Int.toNat y.1) zRule;
  let x2:Nat:=List.length y.2.1.2.1;
  let x0:Int:=(↑x2:Int);
  Zi35_2 d y→bif decide (y.1<x0) then(0:Int)≤y.1∧Int.toNat y.1<x2∧patArgs x1.Pats≤(4294967295:Nat)∧bif !ruleOk x1 then Lf [DV.one (Cell.lit (Value.bool false))] [DV.one (Cell.lit (Value.bool (defOk d)))] else(0:Int)≤y.1∧Int.toNat y.1<x2∧bif ruleAt y.2.1.2.1 x1.Name !=y.1 then Lf [DV.one (Cell.lit (Value.bool false))] [DV.one (Cell.lit (Value.bool (defOk d)))] else Zi35_2 d (IntKind.wrap IntKind.i64 (y.1+(1:Int)),(y.2.1.1,y.2.1.2.1,PUnit.unit),PUnit.unit)∧Zm35_2 d (IntKind.wrap IntKind.i64 (y.1+(1:Int)),(y.2.1.1,y.2.1.2.1,PUnit.unit),PUnit.unit)<Zm35_2 d y else bif nameOk y.2.1.1 then Lf [DV.one (Cell.lit (Value.bool (decide ((1:Int)≤x0∧x0≤(12:Int)))))] [DV.one (Cell.lit (Value.bool (defOk d)))] else Lf [DV.one (Cell.lit (Value.bool false))] [DV.one (Cell.lit (Value.bool (defOk d)))]):=by kernel_rfl
theorem Zo35:Holds EE (35,Zk35):=by
 refine holds_of EE_ok Go.Proofs.Tryz.func35 Zk35 (by kernel_rfl) Zu35 (us_ok _) Za35 (fun(d:DDef) hp hb=> ?_)
 have hz0:=bd_eDef (x:=d) (hb _ m0)
 have hl_d_Name:=hz0.1
 have hl_d_Rules:=hz0.2
 have hp0:sizeDef d≤4294967295:=hp _ m0
 clear hp hb
 rw[Zv35 d]
 dsimp only
 refine⟨⟨rfl,by omega,by omega,by intro j hj;omega⟩,?_⟩
 rintro⟨i,⟨b1,b2,⟨⟩⟩,⟨⟩⟩ ⟨hbx,h1,h2,hR⟩
 cases hbx
 simp only
 refine if_dec (fun hc=> ?_) (fun hc=> ?_)
 ·have hN:defAtR d.Rules i.toNat=false→defOk d=false:=fun h=>by
   have hf:allI d.Rules.length (defAtR d.Rules)=false:=allI_false (j:=i.toNat) (by omega) h
   simp only[defOk,hf,Bool.and_false]
  have hs:=rule_size h1 hc
  simp only[sizeDef] at hp0
  have ei:((i.toNat:Nat):Int)=i:=by omega
  rw[wrap_i64 (by omega) (by omega)]
  refine⟨by omega,by omega,by omega,if_not (fun g=>Lf_ff (hN (by simp only[defAtR,g,Bool.false_and]))) (fun g=>⟨by omega,by omega,if_not (fun k=>Lf_ff (hN ?_)) (fun k=>⟨⟨rfl,by omega,by omega,upto_step h1 hR ?_⟩,by simp only[Zm35_2];omega⟩)⟩)⟩
  ·simp only[defAtR,ei,g,Bool.true_and];exact decide_eq_false (by simpa using k)
  ·simp only[defAtR,ei,g,Bool.true_and];exact decide_eq_true (eq_of_beq k)
 ·have hA:allI d.Rules.length (defAtR d.Rules)=true:=allI_true fun j hj=>hR j (by omega)
  simp only[defOk,hA,Bool.and_true]
  refine if_cond (fun h=>Lf_b ?_) (fun h=>Lf_b ?_)
  ·rw[h,Bool.true_and];exact decide_eq_decide.2 (by omega)
  ·rw[h,Bool.false_and]
def Zh35:HH:=⟨_,Zo35⟩
def Zk51:Con UU where
 α:=DDef
 md:=[.ro]
 of:=o1 (oA .eDef)
 ds:=fun x=>[dA .eDef x]
 pre:=fun _=>[]
 res:=fun d=>⟨[.one (.lit (.bool (defOk d)))],true,[]⟩
 law:=l1 (lA .eDef)
def Zi51_4(d:DDef):Int×(ByteArray×List DRule×Unit)×Unit→Prop:=fun(i,b,_)=>b=(d.Name,d.Rules,())∧nameOk d.Name=true∧(1≤d.Rules.length∧d.Rules.length≤12)∧0≤i∧i≤d.Rules.length∧∀j:Nat,(j:Int)<i→defAtR d.Rules j=true
def Zm51_4(d:DDef):Int×(ByteArray×List DRule×Unit)×Unit→Nat:=fun(i,b,_)=>d.Rules.length-i.toNat
def Za51:Zk51.α→Nat→Option (Ann UU):=fun d=>annL [(4,annOf [.slot 19 (19,1024) (.lit (.int .i64)),.box 1 (1,1024) [.lit .str,.shr .eRule]] (fun _=>Zi51_4 d) (Zm51_4 d))]
def Zu51:=us [Zh115,Zh116,Zh76,Zh56]
theorem Zv51(d:DDef):goal EE Zu51 Go.Proofs.Tryz.f51 Zk51 Za51 d=(let x0:Int:=(d.Rules.length:Int);
bif !nameOk d.Name then Lf [DV.one (Cell.lit (Value.bool false))] [DV.one (Cell.lit (Value.bool (defOk d)))] else bif !decide ((1:Int)≤x0∧x0≤(12:Int)) then Lf [DV.one (Cell.lit (Value.bool false))] [DV.one (Cell.lit (Value.bool (defOk d)))] else Zi51_4 d ((0:Int),(d.Name,d.Rules,PUnit.unit),PUnit.unit)∧∀(y:Int×(ByteArray×List DRule×PUnit)×PUnit),Zi51_4 d y→bif decide (y.1<x0) then(0:Int)≤y.1∧Int.toNat y.1<List.length d.Rules∧bif !ruleOk (List.getD d.Rules (Int.toNat y.1) zRule) then Lf [DV.one (Cell.lit (Value.bool false))] [DV.one (Cell.lit (Value.bool (defOk d)))] else bif ruleAt y.2.1.2.1 (List.getD d.Rules (Int.toNat y.1) zRule).Name !=y.1 then Lf [DV.one (Cell.lit (Value.bool false))] [DV.one (Cell.lit (Value.bool (defOk d)))] else Zi51_4 d (IntKind.wrap IntKind.i64 (y.1+(1:Int)),(y.2.1.1,y.2.1.2.1,PUnit.unit),PUnit.unit)∧Zm51_4 d (IntKind.wrap IntKind.i64 (y.1+(1:Int)),(y.2.1.1,y.2.1.2.1,PUnit.unit),PUnit.unit)<Zm51_4 d y else Lf [DV.one (Cell.lit (Value.bool true))] [DV.one (Cell.lit (Value.bool (defOk d)))]):=by kernel_rfl
theorem Zo51:Holds EE (51,Zk51):=by
 refine holds_of EE_ok Go.Proofs.Tryz.func51 Zk51 (by kernel_rfl) Zu51 (us_ok _) Za51 (fun(d:DDef) hp hb=> ?_)
 have hz0:=bd_eDef (x:=d) (hb _ m0)
 have hl_d_Name:=hz0.1
 have hl_d_Rules:=hz0.2
 clear hp hb
 rw[Zv51 d]
 dsimp only
 refine if_not (fun a1=>Lf_ff (by simp only[defOk,a1,Bool.false_and])) (fun a1=>if_not (fun a2=>Lf_ff ?_) (fun a2=> ?_))
 ·have a2:=of_decide_eq_false a2
  simp only[defOk];rw[decide_eq_false (p:=1≤d.Rules.length∧d.Rules.length≤12) (by omega),Bool.and_false,Bool.false_and]
 have a2:=of_decide_eq_true a2
 refine⟨⟨rfl,a1,by omega,by omega,by omega,by intro j hj;omega⟩,?_⟩
 rintro⟨i,⟨b1,b2,⟨⟩⟩,⟨⟩⟩ ⟨hbx,a3,a4,h1,h2,hR⟩
 cases hbx
 simp only
 refine if_dec (fun hc=> ?_) (fun hc=> ?_)
 ·have hN:defAtR d.Rules i.toNat=false→defOk d=false:=fun h=>by
   have hf:allI d.Rules.length (defAtR d.Rules)=false:=allI_false (j:=i.toNat) (by omega) h
   simp only[defOk,hf,Bool.and_false]
  have ei:((i.toNat:Nat):Int)=i:=by omega
  rw[wrap_i64 (by omega) (by omega)]
  refine⟨by omega,by omega,if_not (fun g=>Lf_ff (hN (by simp only[defAtR,g,Bool.false_and]))) (fun g=>if_not (fun k=>Lf_ff (hN ?_)) (fun k=>⟨⟨rfl,a3,a4,by omega,by omega,upto_step h1 hR ?_⟩,by simp only[Zm51_4];omega⟩))⟩
  ·simp only[defAtR,ei,g,Bool.true_and];exact decide_eq_false (by simpa using k)
  ·simp only[defAtR,ei,g,Bool.true_and];exact decide_eq_true (eq_of_beq k)
 ·have hA:allI d.Rules.length (defAtR d.Rules)=true:=allI_true fun j hj=>hR j (by omega)
  refine Lf_tt ?_
  simp only[defOk,hA,a3,decide_eq_true a4];rfl
def Zh51:HH:=⟨_,Zo51⟩
def Zk105:Con UU where
 α:=DStore×DFact
 md:=[.ro,.ro]
 of:=oC (oA .eStore) (o1 (oA .eFact))
 ds:=fun x=>[dA .eStore x.1,dA .eFact x.2]
 pre:=fun _=>[]
 res:=fun(s,f)=>⟨[.one (.lit (.int .i64 (idOf s.Items f)))],true,[]⟩
 law:=lC (lA .eStore) (l1 (lA .eFact))
def Zi105_2(s:DStore)(f:DFact):Int×(List DItem×Int×Unit)×(ByteArray×List DVal×Unit)×Unit→Prop:=fun(i,b,g,_)=>b=(s.Items,s.Next,())∧g=(f.Kind,f.Fields,())∧0≤i∧i≤s.Items.length∧∀j:Nat,(j:Int)<i→decide ((List.getD s.Items j zItem).F=f)=false
def Zm105_2(s:DStore)(f:DFact):Int×(List DItem×Int×Unit)×(ByteArray×List DVal×Unit)×Unit→Nat:=fun(i,b,g,_)=>s.Items.length-i.toNat
def Za105:Zk105.α→Nat→Option (Ann UU):=fun(s,f)=>annL [(2,annOf [.slot 5 (5,1024) (.lit (.int .i64)),.box 2 (2,1024) [.shr .eItem,.lit (.int .i64)],.box 3 (3,1024) [.lit .str,.shr .eVal]] (fun _=>Zi105_2 s f) (Zm105_2 s f))]
def Zu105:=us [Zh107]
theorem Zv105(s:DStore)(f:DFact):goal EE Zu105 Go.Proofs.Tryz.f105 Zk105 Za105 (s,f)=(Zi105_2 s f ((0:Int),(s.Items,s.Next,()),(f.Kind,f.Fields,()),())∧
 ∀(y:Int×(List DItem×Int×PUnit)×(ByteArray×List DVal×PUnit)×PUnit),
  let x0:DItem:=List.getD y.2.1.1 (Int.toNat y.1) zItem;
  let x2:Nat:=List.length y.2.1.1;
  let x1:Int:=(↑x2:Int);
  Zi105_2 s f y→bif decide (y.1<x1) then(0:Int)≤y.1∧Int.toNat y.1<x2∧bif decide (x0.F={Kind:=y.2.2.1.1,Fields:=y.2.2.1.2.1:DFact}) then(0:Int)≤y.1∧Int.toNat y.1<x2∧Lf [DV.one (Cell.lit (Value.int IntKind.i64 x0.Id))] [DV.one (Cell.lit (Value.int IntKind.i64 (idOf s.Items f)))] else Zi105_2 s f (IntKind.wrap IntKind.i64 (y.1+(1:Int)),(y.2.1.1,y.2.1.2.1,PUnit.unit),(y.2.2.1.1,y.2.2.1.2.1,PUnit.unit),PUnit.unit)∧Zm105_2 s f (IntKind.wrap IntKind.i64 (y.1+(1:Int)),(y.2.1.1,y.2.1.2.1,PUnit.unit),(y.2.2.1.1,y.2.2.1.2.1,PUnit.unit),PUnit.unit)<Zm105_2 s f y else Lf [DV.one (Cell.lit (Value.int IntKind.i64 (0:Int)))] [DV.one (Cell.lit (Value.int IntKind.i64 (idOf s.Items f)))]):=by kernel_rfl
theorem Zo105:Holds EE (105,Zk105):=by
 refine holds_of EE_ok Go.Proofs.Tryz.func105 Zk105 (by kernel_rfl) Zu105 (us_ok _) Za105 (fun x hp hb=> ?_)
 obtain⟨s,f⟩:=x
 have hl_s_Items:=bd_eStore (x:=s) (hb _ m0)
 have hz1:=bd_eFact (x:=f) (hb _ m1)
 have hl_f_Kind:=hz1.1
 have hl_f_Fields:=hz1.2
 clear hp hb
 rw[Zv105 s f]
 dsimp only
 refine⟨⟨rfl,rfl,by omega,by omega,by intro j hj;omega⟩,?_⟩
 rintro⟨i,⟨b1,b2,⟨⟩⟩,⟨g1,g2,⟨⟩⟩,⟨⟩⟩ ⟨hbx,hg,h1,h2,hR⟩
 cases hbx
 cases hg
 simp only
 refine if_dec (fun hc=> ?_) (fun hc=> ?_)
 ·rw[wrap_i64 (by omega) (by omega)]
  refine⟨by omega,by omega,if_dec (fun h=>⟨by omega,by omega,Lf_i ?_⟩) (fun h=>⟨⟨rfl,rfl,by omega,by omega,upto_no (p:=fun j=>decide ((List.getD s.Items j zItem).F=f)) h1 hR (decide_eq_false h)⟩,by simp only[Zm105_2];omega⟩)⟩
  have e:idAt s.Items f=(i.toNat:Int):=idxI_found (i:=i.toNat) (by omega) (decide_eq_true h) (fun j hj=>hR j (by omega))
  rw[idOf,e,if_neg (by omega),Int.toNat_natCast]
 ·refine Lf_i ?_
  have e:idAt s.Items f= -1:=idxI_none (fun j hj=>hR j (by omega))
  rw[idOf,if_pos e]
def Zh105:HH:=⟨_,Zo105⟩
def Zk109:Con UU where
 α:=DStore×Int
 md:=[.ro,.ro]
 of:=oC (oA .eStore) (o1 oI)
 ds:=fun x=>[dA .eStore x.1,dI x.2]
 pre:=fun(s,id)=>[sizeItemS s.Items≤4294967296]
 res:=fun(s,id)=>⟨[.agg [.lit (.string ((factOf s.Items id)).Kind),.sl .eVal ((factOf s.Items id)).Fields],.one (.lit (.bool (hasId s.Items id)))],true,[]⟩
 law:=lC (lA .eStore) (l1 lI)
def Zi109_2(s:DStore)(id:Int):Int×(List DItem×Int×Unit)×(ByteArray×List DVal×Unit)×Unit→Prop:=fun(i,b,g,_)=>b=(s.Items,s.Next,())∧0≤i∧i≤s.Items.length∧∀j:Nat,(j:Int)<i→decide ((List.getD s.Items j zItem).Id=id)=false
def Zm109_2(s:DStore)(id:Int):Int×(List DItem×Int×Unit)×(ByteArray×List DVal×Unit)×Unit→Nat:=fun(i,b,g,_)=>s.Items.length-i.toNat
def Za109:Zk109.α→Nat→Option (Ann UU):=fun(s,id)=>annL [(2,annOf [.slot 6 (6,1024) (.lit (.int .i64)),.box 2 (2,1024) [.shr .eItem,.lit (.int .i64)],.box 4 (4,1024) [.lit .str,.own .eVal true]] (fun _=>Zi109_2 s id) (Zm109_2 s id))]
def Zu109:=us [Zh167]
theorem Zv109(s:DStore)(id:Int):goal EE Zu109 Go.Proofs.Tryz.f109 Zk109 Za109 (s,id)=(Zi109_2 s id ((0:Int),(s.Items,s.Next,()),({data:= #[]:ByteArray},[],()),())∧
 ∀(y:Int×(List DItem×Int×PUnit)×(ByteArray×List DVal×PUnit)×PUnit),
  let x2:DItem:=List.getD y.2.1.1 (Int.toNat y.1) zItem;
  let x4:Nat:=List.length y.2.1.1;
  let x1:DFact:=x2.F;
  let x3:Int:=(↑x4:Int);
  let x0:List DVal:=x1.Fields;
  Zi109_2 s id y→bif decide (y.1<x3) then(0:Int)≤y.1∧Int.toNat y.1<x4∧bif x2.Id==id then(0:Int)≤y.1∧Int.toNat y.1<x4∧List.length x0≤(4294967296:Nat)∧Lf [DV.agg [Cell.lit (Value.string x1.Kind),Cell.sl Cd.eVal x0],DV.one (Cell.lit (Value.bool true))] [DV.agg [Cell.lit (Value.string (factOf s.Items id).Kind),Cell.sl Cd.eVal (factOf s.Items id).Fields],DV.one (Cell.lit (Value.bool (hasId s.Items id)))] else Zi109_2 s id (IntKind.wrap IntKind.i64 (y.1+(1:Int)),(y.2.1.1,y.2.1.2.1,PUnit.unit),(y.2.2.1.1,y.2.2.1.2.1,PUnit.unit),PUnit.unit)∧Zm109_2 s id (IntKind.wrap IntKind.i64 (y.1+(1:Int)),(y.2.1.1,y.2.1.2.1,PUnit.unit),(y.2.2.1.1,y.2.2.1.2.1,PUnit.unit),PUnit.unit)<Zm109_2 s id y else Lf [DV.agg [Cell.lit (Value.string {data:= #[]:ByteArray}),Cell.sl Cd.eVal []],DV.one (Cell.lit (Value.bool false))] [DV.agg [Cell.lit (Value.string (factOf s.Items id).Kind),Cell.sl Cd.eVal (factOf s.Items id).Fields],DV.one (Cell.lit (Value.bool (hasId s.Items id)))]):=by kernel_rfl
theorem Zo109:Holds EE (109,Zk109):=by
 refine holds_of EE_ok Go.Proofs.Tryz.func109 Zk109 (by kernel_rfl) Zu109 (us_ok _) Za109 (fun x hp hb=> ?_)
 obtain⟨s,id⟩:=x
 have hl_s_Items:=bd_eStore (x:=s) (hb _ m0)
 have hl_id:=bdI (n:=id) (hb _ m1)
 have hp0:sizeItemS s.Items≤4294967296:=hp _ m0
 clear hp hb
 rw[Zv109 s id]
 dsimp only
 refine⟨⟨rfl,by omega,by omega,by intro j hj;omega⟩,?_⟩
 rintro⟨i,⟨b1,b2,⟨⟩⟩,⟨g1,g2,⟨⟩⟩,⟨⟩⟩ ⟨hbx,h1,h2,hR⟩
 cases hbx
 simp only
 refine if_dec (fun hc=> ?_) (fun hc=> ?_)
 ·rw[wrap_i64 (by omega) (by omega)]
  have hs:=sum_getD_le sizeItem s.Items zItem h1 hc
  simp only[sizeItem,sizeFact,sizeValS] at hs
  simp only[sizeItemS,sizeItem,sizeFact,sizeValS] at hp0
  refine⟨by omega,by omega,if_num (fun h=>⟨by omega,by omega,by omega,?_⟩) (fun h=>⟨⟨rfl,by omega,by omega,upto_no (p:=fun j=>decide ((List.getD s.Items j zItem).Id=id)) h1 hR (decide_eq_false h)⟩,by simp only[Zm109_2];omega⟩)⟩
  have e:placeId s.Items id=(i.toNat:Int):=idxI_found (i:=i.toNat) (by omega) (decide_eq_true h) (fun j hj=>hR j (by omega))
  have e1:factOf s.Items id=(List.getD s.Items i.toNat zItem).F:=by rw[factOf,e,if_neg (by omega),Int.toNat_natCast]
  have e2:hasId s.Items id=true:=anyI_true (j:=i.toNat) (by omega) (decide_eq_true h)
  rw[e1,e2];exact Lf_rfl _
 ·have e:placeId s.Items id= -1:=idxI_none (fun j hj=>hR j (by omega))
  have e1:factOf s.Items id=zFact:=by rw[factOf,if_pos e]
  have e2:hasId s.Items id=false:=anyI_false fun j hj=>hR j (by omega)
  rw[e1,e2];exact Lf_rfl _
def Zh109:HH:=⟨_,Zo109⟩
def Zk126:Con UU where
 α:=DStore×Int
 md:=[.ro,.ro]
 of:=oC (oA .eStore) (o1 oI)
 ds:=fun x=>[dA .eStore x.1,dI x.2]
 pre:=fun(s,id)=>[sizeItemS s.Items≤4294967296]
 res:=fun(s,id)=>⟨[.agg [.lit (.string ((factOf s.Items id)).Kind),.sl .eVal ((factOf s.Items id)).Fields],.one (.lit (.bool (hasId s.Items id)))],true,[]⟩
 law:=lC (lA .eStore) (l1 lI)
def Zi126_2(s:DStore)(id:Int):Int×(ByteArray×List DVal×Unit)×Unit→Prop:=fun(i,g,_)=>0≤i∧i≤s.Items.length∧∀j:Nat,(j:Int)<i→decide ((List.getD s.Items j zItem).Id=id)=false
def Zm126_2(s:DStore)(id:Int):Int×(ByteArray×List DVal×Unit)×Unit→Nat:=fun(i,g,_)=>s.Items.length-i.toNat
def Za126:Zk126.α→Nat→Option (Ann UU):=fun(s,id)=>annL [(2,annOf [.slot 11 (11,1024) (.lit (.int .i64)),.box 4 (4,1024) [.lit .str,.own .eVal true]] (fun _=>Zi126_2 s id) (Zm126_2 s id))]
def Zu126:=us [Zh188]
theorem Zv126(s:DStore)(id:Int):goal EE Zu126 Go.Proofs.Tryz.f126 Zk126 Za126 (s,id)=(Zi126_2 s id ((0:Int),({data:= #[]:ByteArray},[],()),())∧∀(y:Int×(ByteArray×List DVal×PUnit)×PUnit),Zi126_2 s id y→bif decide (y.1<(s.Items.length:Int)) then(0:Int)≤y.1∧y.1.toNat<s.Items.length∧bif (List.getD s.Items y.1.toNat zItem).Id==id then List.length (List.getD s.Items y.1.toNat zItem).F.Fields≤(4294967296:Nat)∧Lf [DV.agg [Cell.lit (Value.string (List.getD s.Items y.1.toNat zItem).F.Kind),Cell.sl Cd.eVal (List.getD s.Items y.1.toNat zItem).F.Fields],DV.one (Cell.lit (Value.bool true))] [DV.agg [Cell.lit (Value.string (factOf s.Items id).Kind),Cell.sl Cd.eVal (factOf s.Items id).Fields],DV.one (Cell.lit (Value.bool (hasId s.Items id)))] else Zi126_2 s id (IntKind.wrap IntKind.i64 (y.1+(1:Int)),(y.2.1.1,y.2.1.2.1,()),())∧Zm126_2 s id (IntKind.wrap IntKind.i64 (y.1+(1:Int)),(y.2.1.1,y.2.1.2.1,()),())<Zm126_2 s id y else Lf [DV.agg [Cell.lit (Value.string {data:= #[]:ByteArray}),Cell.sl Cd.eVal []],DV.one (Cell.lit (Value.bool false))] [DV.agg [Cell.lit (Value.string (factOf s.Items id).Kind),Cell.sl Cd.eVal (factOf s.Items id).Fields],DV.one (Cell.lit (Value.bool (hasId s.Items id)))]):=by kernel_rfl
theorem Zo126:Holds EE (126,Zk126):=by
 refine holds_of EE_ok Go.Proofs.Tryz.func126 Zk126 (by kernel_rfl) Zu126 (us_ok _) Za126 (fun x hp hb=> ?_)
 obtain⟨s,id⟩:=x
 have hl_s_Items:=bd_eStore (x:=s) (hb _ m0)
 have hl_id:=bdI (n:=id) (hb _ m1)
 have hp0:sizeItemS s.Items≤4294967296:=hp _ m0
 clear hp hb
 rw[Zv126 s id]
 refine⟨⟨by omega,by omega,by intro j hj;omega⟩,?_⟩
 rintro⟨i,⟨g1,g2,⟨⟩⟩,⟨⟩⟩ ⟨h1,h2,hR⟩
 simp only
 refine if_dec (fun hc=> ?_) (fun hc=> ?_)
 ·rw[wrap_i64 (by omega) (by omega)]
  have hs:=sum_getD_le sizeItem s.Items zItem h1 hc
  simp only[sizeItem,sizeFact,sizeValS] at hs
  simp only[sizeItemS,sizeItem,sizeFact,sizeValS] at hp0
  refine⟨by omega,by omega,if_num (fun h=>⟨by omega,?_⟩) (fun h=>⟨⟨by omega,by omega,upto_no (p:=fun j=>decide ((List.getD s.Items j zItem).Id=id)) h1 hR (decide_eq_false h)⟩,by simp only[Zm126_2];omega⟩)⟩
  have e:placeId s.Items id=(i.toNat:Int):=idxI_found (i:=i.toNat) (by omega) (decide_eq_true h) (fun j hj=>hR j (by omega))
  have e1:factOf s.Items id=(List.getD s.Items i.toNat zItem).F:=by rw[factOf,e,if_neg (by omega),Int.toNat_natCast]
  have e2:hasId s.Items id=true:=anyI_true (j:=i.toNat) (by omega) (decide_eq_true h)
  rw[e1,e2];exact Lf_rfl _
 ·have e:placeId s.Items id= -1:=idxI_none (fun j hj=>hR j (by omega))
  have e1:factOf s.Items id=zFact:=by rw[factOf,if_pos e]
  have e2:hasId s.Items id=false:=anyI_false fun j hj=>hR j (by omega)
  rw[e1,e2];exact Lf_rfl _
def Zh126:HH:=⟨_,Zo126⟩
def Zk36:Con UU where
 α:=DStore
 md:=[.ro]
 of:=o1 (oA .eStore)
 ds:=fun x=>[dA .eStore x]
 pre:=fun _=>[]
 res:=fun s=>⟨[.one (.lit (.bool (storeOk s)))],true,[]⟩
 law:=l1 (lA .eStore)
def Zi36_4(s:DStore):Int×(List DItem×Int×Unit)×Unit→Prop:=fun(i,b,_)=>b=(s.Items,s.Next,())∧0≤i∧i≤s.Items.length∧∀j:Nat,(j:Int)<i→itemAt s j=true
def Zm36_4(s:DStore):Int×(List DItem×Int×Unit)×Unit→Nat:=fun(i,b,_)=>s.Items.length-i.toNat
def Za36:Zk36.α→Nat→Option (Ann UU):=fun s=>annL [(4,annOf [.slot 3 (3,1024) (.lit (.int .i64)),.box 1 (1,1024) [.shr .eItem,.lit (.int .i64)]] (fun _=>Zi36_4 s) (Zm36_4 s))]
def Zu36:=us [Zh40,Zh104,Zh105]
theorem Zv36(s:DStore):goal EE Zu36 Go.Proofs.Tryz.f36 Zk36 Za36 s=(bif !decide ((1:Int)≤s.Next∧s.Next≤(1000000:Int)) then Lb false (storeOk s)
else
 bif decide ((↑(List.length s.Items):Int)>(40:Int)) then Lf [DV.one (Cell.lit (Value.bool false))] [DV.one (Cell.lit (Value.bool (storeOk s)))]
 else
  Zi36_4 s ((0:Int),(s.Items,s.Next,PUnit.unit),PUnit.unit)∧
   ∀(y:Int×(List DItem×Int×PUnit)×PUnit),
    let x1:Nat:=List.length y.2.1.1;
    let x4:DItem:=List.getD y.2.1.1 (Int.toNat y.1) zItem;
    let x5:Nat:=Int.toNat (IntKind.wrap IntKind.i64 (y.1-(1:Int)));
    let x0:Int:=x4.Id;
    let x2:Int:=(List.getD y.2.1.1 x5 zItem).Id;
    let x3:DFact:=x4.F;
    Zi36_4 s y→bif decide (y.1<(↑x1:Int)) then(0:Int)≤y.1∧Int.toNat y.1<x1∧bif !factOk x3 then Lf [DV.one (Cell.lit (Value.bool false))] [DV.one (Cell.lit (Value.bool (storeOk s)))] else bif decide (x0<(1:Int)) then Lf [DV.one (Cell.lit (Value.bool false))] [DV.one (Cell.lit (Value.bool (storeOk s)))] else bif decide (x0≥y.2.1.2.1) then Lf [DV.one (Cell.lit (Value.bool false))] [DV.one (Cell.lit (Value.bool (storeOk s)))] else bif decide (y.1>(0:Int)) then(0:Int)≤IntKind.wrap IntKind.i64 (y.1-(1:Int))∧x5<x1∧bif decide (x2≥x0) then Lf [DV.one (Cell.lit (Value.bool false))] [DV.one (Cell.lit (Value.bool (storeOk s)))] else bif idOf y.2.1.1 x3 !=x0 then Lf [DV.one (Cell.lit (Value.bool false))] [DV.one (Cell.lit (Value.bool (storeOk s)))] else Zi36_4 s (IntKind.wrap IntKind.i64 (y.1+(1:Int)),(y.2.1.1,y.2.1.2.1,PUnit.unit),PUnit.unit)∧Zm36_4 s (IntKind.wrap IntKind.i64 (y.1+(1:Int)),(y.2.1.1,y.2.1.2.1,PUnit.unit),PUnit.unit)<Zm36_4 s y else bif idOf y.2.1.1 x3 !=x0 then Lf [DV.one (Cell.lit (Value.bool false))] [DV.one (Cell.lit (Value.bool (storeOk s)))] else Zi36_4 s (IntKind.wrap IntKind.i64 (y.1+(1:Int)),(y.2.1.1,y.2.1.2.1,PUnit.unit),PUnit.unit)∧Zm36_4 s (IntKind.wrap IntKind.i64 (y.1+(1:Int)),(y.2.1.1,y.2.1.2.1,PUnit.unit),PUnit.unit)<Zm36_4 s y else Lf [DV.one (Cell.lit (Value.bool true))] [DV.one (Cell.lit (Value.bool (storeOk s)))]):=by kernel_rfl
theorem Zo36:Holds EE (36,Zk36):=by
 refine holds_of EE_ok Go.Proofs.Tryz.func36 Zk36 (by kernel_rfl) Zu36 (us_ok _) Za36 (fun(s:DStore) hp hb=> ?_)
 have hl_s_Items:=bd_eStore (x:=s) (hb _ m0)
 clear hp hb
 rw[Zv36 s]
 dsimp only
 refine if_not (fun a1=>Lf_ff (by simp only[storeOk,a1,Bool.false_and])) (fun a1=>if_dec (fun a2=>Lf_ff ?_) (fun a2=> ?_))
 ·simp only[storeOk];rw[decide_eq_false (p:=s.Items.length≤40) (by omega),Bool.and_false,Bool.false_and]
 refine⟨⟨rfl,by omega,by omega,by intro j hj;omega⟩,?_⟩
 rintro⟨i,⟨b1,b2,⟨⟩⟩,⟨⟩⟩ ⟨hbx,h1,h2,hR⟩
 cases hbx
 simp only
 refine if_dec (fun hc=> ?_) (fun hc=> ?_)
 ·have hN:itemAt s i.toNat=false→storeOk s=false:=fun h=>by
   have hf:allI s.Items.length (itemAt s)=false:=allI_false (j:=i.toNat) (by omega) h
   simp only[storeOk,hf,Bool.and_false]
  have e1:(i-1).toNat=i.toNat-1:=by omega
  simp(disch:=omega) only[wrap_i64]
  simp only[e1]
  have hi1:i>0→0≤i-1:=fun h=>by omega
  have hlt:i.toNat<s.Items.length:=by omega
  have hlt':i.toNat-1<s.Items.length:=by omega
  have hgo:itemAt s i.toNat=true→Zi36_4 s (i+1,(s.Items,s.Next,PUnit.unit),PUnit.unit)∧Zm36_4 s (i+1,(s.Items,s.Next,PUnit.unit),PUnit.unit)<Zm36_4 s (i,(s.Items,s.Next,PUnit.unit),PUnit.unit):=fun h=>⟨⟨rfl,by omega,by omega,upto_step h1 hR h⟩,by simp only[Zm36_4];omega⟩
  have c3:decide (0<i.toNat)=decide (i>0):=decide_eq_decide.2 (by omega)
  simp only[itemAt,baseAt,c3] at hN hgo
  generalize hA:List.getD s.Items i.toNat zItem=a at*
  generalize hB:List.getD s.Items (i.toNat-1) zItem=b at*
  generalize hQ:idOf s.Items a.F=q at*
  generalize hO:factOk a.F=o at*
  refine And.intro h1 (And.intro hlt ?_)
  repeat' (first|refine Lf_ff (hN ?_)|refine hgo ?_|refine if_dec (fun h=> ?_) (fun h=> ?_)|refine if_not (fun h=> ?_) (fun h=> ?_)|refine And.intro hlt' ?_|refine And.intro (hi1 (by assumption)) ?_)
  all_goals (cases o<;>simp at* <;>omega)
 ·have hA:allI s.Items.length (itemAt s)=true:=allI_true fun j hj=>hR j (by omega)
  refine Lf_tt ?_
  simp only[storeOk,hA,a1,decide_eq_true (show s.Items.length≤40 by omega)];rfl
def Zh36:HH:=⟨_,Zo36⟩
def Zk52:Con UU where
 α:=DStore
 md:=[.ro]
 of:=o1 (oA .eStore)
 ds:=fun x=>[dA .eStore x]
 pre:=fun _=>[]
 res:=fun s=>⟨[.one (.lit (.bool (storeOk s)))],true,[]⟩
 law:=l1 (lA .eStore)
def Zi52_4(s:DStore):Int×(List DItem×Int×Unit)×Unit→Prop:=fun(i,b,_)=>b=(s.Items,s.Next,())∧0≤i∧i≤s.Items.length∧∀j:Nat,(j:Int)<i→itemAtI s j=true
def Zm52_4(s:DStore):Int×(List DItem×Int×Unit)×Unit→Nat:=fun(i,b,_)=>s.Items.length-i.toNat
def Zi52_9(s:DStore):Int×Int×(Int×ByteArray×List DVal×Unit)×(List DItem×Int×Unit)×Unit→Int×Int×(Int×ByteArray×List DVal×Unit)×(List DItem×Int×Unit)×Unit→Prop:=fun(i0,k0,x0,b0,_) (i,k,x,b,_)=>i=i0∧x=x0∧b=b0∧0≤k∧k≤i∧∀j:Nat,(j:Int)<k→decide ((List.getD s.Items i.toNat zItem).F=(List.getD s.Items j zItem).F)=false
def Zm52_9(s:DStore):Int×Int×(Int×ByteArray×List DVal×Unit)×(List DItem×Int×Unit)×Unit→Nat:=fun(i,k,x,b,_)=>i.toNat-k.toNat
def Za52:Zk52.α→Nat→Option (Ann UU):=fun s=>annL [(4,annOf [.slot 20 (20,1024) (.lit (.int .i64)),.box 1 (1,1024) [.shr .eItem,.lit (.int .i64)]] (fun _=>Zi52_4 s) (Zm52_4 s)),(9,annOf [.slot 20 (20,1024) (.lit (.int .i64)),.slot 59 (59,1024) (.lit (.int .i64)),.box 4 (4,1024) [.lit (.int .i64),.lit .str,.shr .eVal],.box 1 (1,1024) [.shr .eItem,.lit (.int .i64)]] (Zi52_9 s) (Zm52_9 s))]
def Zu52:=us [Zh56,Zh117,Zh118]
theorem Zv52(s:DStore):goal EE Zu52 Go.Proofs.Tryz.f52 Zk52 Za52 s=(let x0:Int:=(s.Items.length:Int);
let x1:Int:=Option.getD none (0:Int);
bif decide (x0>(40:Int)) then Lf [DV.one (Cell.lit (Value.bool false))] [DV.one (Cell.lit (Value.bool (storeOk s)))]
else
 bif !decide ((1:Int)≤s.Next∧s.Next≤(1000000:Int)) then Lf [DV.one (Cell.lit (Value.bool false))] [DV.one (Cell.lit (Value.bool (storeOk s)))]
 else
  Zi52_4 s ((0:Int),(s.Items,s.Next,PUnit.unit),PUnit.unit)∧
   ∀(y:Int×(List DItem×Int×PUnit)×PUnit),
    let x8:Nat:=List.length y.2.1.1;
    let x9:Int:=(List.getD s.Items (Int.toNat y.1) zItem).Id;
    let x10:DFact:=(List.getD s.Items (Int.toNat y.1) zItem).F;
    let x11:Nat:=Int.toNat (IntKind.wrap IntKind.i64 (y.1-(1:Int)));
    let x4:Int:=(List.getD y.2.1.1 x11 zItem).Id;
    let x7:Int:=(↑x8:Int);
    let x3:Int:=Option.getD (some y.1) x7;
    let x6:List DItem:=List.drop (Int.toNat x1) (List.take (Int.toNat x3) y.2.1.1);
    let x5:Nat:=List.length x6;
    let x2:Int:=(↑x5:Int);
    Zi52_4 s y→
     bif decide (y.1<x0) then
      (0:Int)≤y.1∧
       Int.toNat y.1<List.length s.Items∧
        bif !factOk x10 then Lf [DV.one (Cell.lit (Value.bool false))] [DV.one (Cell.lit (Value.bool (storeOk s)))]
        else
         bif !decide ((1:Int)≤x9∧x9≤IntKind.wrap IntKind.i64 (y.2.1.2.1-(1:Int))) then Lf [DV.one (Cell.lit (Value.bool false))] [DV.one (Cell.lit (Value.bool (storeOk s)))]
         else
          bif decide (y.1>(0:Int)) then
           (0:Int)≤IntKind.wrap IntKind.i64 (y.1-(1:Int))∧
            x11<x8∧
             bif decide (x9≤x4) then Lf [DV.one (Cell.lit (Value.bool false))] [DV.one (Cell.lit (Value.bool (storeOk s)))]
             else
              (0:Int)≤x1∧
               x1≤x3∧
                x3≤x7∧
                 Zi52_9 s (y.1,(0:Int),(x9,x10.Kind,x10.Fields,PUnit.unit),(y.2.1.1,y.2.1.2.1,PUnit.unit),PUnit.unit) (y.1,(0:Int),(x9,x10.Kind,x10.Fields,PUnit.unit),(y.2.1.1,y.2.1.2.1,PUnit.unit),PUnit.unit)∧
                  ∀(y_1:Int×Int×(Int×ByteArray×List DVal×PUnit)×(List DItem×Int×PUnit)×PUnit),
                   let x12:Nat:=Int.toNat y_1.2.1;
                   Zi52_9 s (y.1,(0:Int),(x9,x10.Kind,x10.Fields,PUnit.unit),(y.2.1.1,y.2.1.2.1,PUnit.unit),PUnit.unit) y_1→bif decide (y_1.2.1<x2) then(0:Int)≤y_1.2.1∧x12<x5∧bif decide ({Kind:=y_1.2.2.1.2.1,Fields:=y_1.2.2.1.2.2.1:DFact}=(List.getD x6 x12 zItem).F) then Lf [DV.one (Cell.lit (Value.bool false))] [DV.one (Cell.lit (Value.bool (storeOk s)))] else Zi52_9 s (y.1,(0:Int),(x9,x10.Kind,x10.Fields,PUnit.unit),(y.2.1.1,y.2.1.2.1,PUnit.unit),PUnit.unit) (y_1.1,IntKind.wrap IntKind.i64 (y_1.2.1+(1:Int)),(y_1.2.2.1.1,y_1.2.2.1.2.1,y_1.2.2.1.2.2.1,PUnit.unit),(y_1.2.2.2.1.1,y_1.2.2.2.1.2.1,PUnit.unit),PUnit.unit)∧Zm52_9 s (y_1.1,IntKind.wrap IntKind.i64 (y_1.2.1+(1:Int)),(y_1.2.2.1.1,y_1.2.2.1.2.1,y_1.2.2.1.2.2.1,PUnit.unit),(y_1.2.2.2.1.1,y_1.2.2.2.1.2.1,PUnit.unit),PUnit.unit)<Zm52_9 s y_1 else Zi52_4 s (IntKind.wrap IntKind.i64 (y_1.1+(1:Int)),(y_1.2.2.2.1.1,y_1.2.2.2.1.2.1,PUnit.unit),PUnit.unit)∧Zm52_4 s (IntKind.wrap IntKind.i64 (y_1.1+(1:Int)),(y_1.2.2.2.1.1,y_1.2.2.2.1.2.1,PUnit.unit),PUnit.unit)<Zm52_4 s y
          else
           (0:Int)≤x1∧
            x1≤x3∧
             x3≤x7∧
              Zi52_9 s (y.1,(0:Int),(x9,x10.Kind,x10.Fields,PUnit.unit),(y.2.1.1,y.2.1.2.1,PUnit.unit),PUnit.unit) (y.1,(0:Int),(x9,x10.Kind,x10.Fields,PUnit.unit),(y.2.1.1,y.2.1.2.1,PUnit.unit),PUnit.unit)∧
               ∀(y_1:Int×Int×(Int×ByteArray×List DVal×PUnit)×(List DItem×Int×PUnit)×PUnit),
                let x12:Nat:=Int.toNat y_1.2.1;
                Zi52_9 s (y.1,(0:Int),(x9,x10.Kind,x10.Fields,PUnit.unit),(y.2.1.1,y.2.1.2.1,PUnit.unit),PUnit.unit) y_1→bif decide (y_1.2.1<x2) then(0:Int)≤y_1.2.1∧x12<x5∧bif decide ({Kind:=y_1.2.2.1.2.1,Fields:=y_1.2.2.1.2.2.1:DFact}=(List.getD x6 x12 zItem).F) then Lf [DV.one (Cell.lit (Value.bool false))] [DV.one (Cell.lit (Value.bool (storeOk s)))] else Zi52_9 s (y.1,(0:Int),(x9,x10.Kind,x10.Fields,PUnit.unit),(y.2.1.1,y.2.1.2.1,PUnit.unit),PUnit.unit) (y_1.1,IntKind.wrap IntKind.i64 (y_1.2.1+(1:Int)),(y_1.2.2.1.1,y_1.2.2.1.2.1,y_1.2.2.1.2.2.1,PUnit.unit),(y_1.2.2.2.1.1,y_1.2.2.2.1.2.1,PUnit.unit),PUnit.unit)∧Zm52_9 s (y_1.1,IntKind.wrap IntKind.i64 (y_1.2.1+(1:Int)),(y_1.2.2.1.1,y_1.2.2.1.2.1,y_1.2.2.1.2.2.1,PUnit.unit),(y_1.2.2.2.1.1,y_1.2.2.2.1.2.1,PUnit.unit),PUnit.unit)<Zm52_9 s y_1 else Zi52_4 s (IntKind.wrap IntKind.i64 (y_1.1+(1:Int)),(y_1.2.2.2.1.1,y_1.2.2.2.1.2.1,PUnit.unit),PUnit.unit)∧Zm52_4 s (IntKind.wrap IntKind.i64 (y_1.1+(1:Int)),(y_1.2.2.2.1.1,y_1.2.2.2.1.2.1,PUnit.unit),PUnit.unit)<Zm52_4 s y
     else Lf [DV.one (Cell.lit (Value.bool true))] [DV.one (Cell.lit (Value.bool (storeOk s)))]):=by kernel_rfl
theorem Zo52:Holds EE (52,Zk52):=by
 refine holds_of EE_ok Go.Proofs.Tryz.func52 Zk52 (by kernel_rfl) Zu52 (us_ok _) Za52 (fun(s:DStore) hp hb=> ?_)
 have hl_s_Items:=bd_eStore (x:=s) (hb _ m0)
 clear hp hb
 rw[Zv52 s]
 dsimp only
 have hF:(decide (1≤s.Next∧s.Next≤1000000)&&decide (s.Items.length≤40)&&allI s.Items.length (itemAtI s))=storeOk s:=by rw[store_same];rfl
 refine if_dec (fun a2=>Lf_ff ?_) (fun a2=>if_not (fun a1=>Lf_ff (by simp only[storeOk,a1,Bool.false_and])) (fun a1=> ?_))
 ·simp only[storeOk];rw[decide_eq_false (p:=s.Items.length≤40) (by omega),Bool.and_false,Bool.false_and]
 have a3:=of_decide_eq_true a1
 refine⟨⟨rfl,by omega,by omega,by intro j hj;omega⟩,?_⟩
 rintro⟨i,⟨b1,b2,⟨⟩⟩,⟨⟩⟩ ⟨hbx,h1,h2,hR⟩
 cases hbx
 simp only
 refine if_dec (fun hc=> ?_) (fun hc=> ?_)
 ·have hN:itemAtI s i.toNat=false→storeOk s=false:=fun h=>by
   have hf:allI s.Items.length (itemAtI s)=false:=allI_false (j:=i.toNat) (by omega) h
   rw[←hF,hf,Bool.and_false]
  have e1:(i-1).toNat=i.toNat-1:=by omega
  have c3:decide (0<i.toNat)=decide (i>0):=decide_eq_decide.2 (by omega)
  rw[wrap_i64 (n:=s.Next-1) (by omega) (by omega),wrap_i64 (n:=i-1) (by omega) (by omega),e1]
  have hnb:baseAt s i.toNat=false→storeOk s=false:=fun h=>hN (by simp only[itemAtI,h,Bool.false_and])
  refine⟨by omega,by omega,if_not (fun a=>Lf_ff (hnb (by simp only[baseAt,a,Bool.false_and]))) (fun a=>if_not (fun a'=>Lf_ff (hnb ?_)) (fun a'=>if_dec (fun p=>⟨by omega,by omega,if_dec (fun q=>Lf_ff (hnb ?_)) (fun q=> ?_)⟩) (fun p=> ?_)))⟩
  ·have a':=of_decide_eq_false a'
   by_cases g:1≤(List.getD s.Items i.toNat zItem).Id
   ·simp only[baseAt,decide_eq_false (show¬(List.getD s.Items i.toNat zItem).Id<s.Next by omega),Bool.and_false,Bool.false_and]
   ·simp only[baseAt,decide_eq_false g,Bool.and_false,Bool.false_and]
  ·simp only[baseAt,c3,decide_eq_true p,decide_eq_true q,Bool.and_true,Bool.not_true,Bool.and_false]
  ·have a':=of_decide_eq_true a'
   have hbase:baseAt s i.toNat=true:=by
    simp only[baseAt,a,decide_eq_true a'.1,decide_eq_true (show(List.getD s.Items i.toNat zItem).Id<s.Next by omega),decide_eq_false q,Bool.and_false,Bool.not_false,Bool.and_true]
   refine⟨Int.le_refl 0,by simp only[Option.getD_none,Option.getD_some];omega,by simp only[Option.getD_some];omega,⟨rfl,rfl,rfl,by omega,by omega,by intro j hj;omega⟩,?_⟩
   rintro⟨i',k,⟨x1,x2,x3,⟨⟩⟩,⟨y1,y2,⟨⟩⟩,⟨⟩⟩ ⟨rfl,hx,hy,k1,k2,kR⟩
   cases hx
   cases hy
   simp only[Option.getD_none,Option.getD_some,show Int.toNat 0=0 from rfl,List.drop_zero]
   have etl:(List.take i'.toNat s.Items).length=i'.toNat:=by rw[List.length_take];omega
   refine if_dec (fun hk=> ?_) (fun hk=> ?_)
   ·rw[etl] at hk
    rw[getD_take s.Items zItem (show k.toNat<i'.toNat by omega),etl,wrap_i64 (n:=k+1) (by omega) (by omega)]
    refine⟨k1,by omega,if_dec (fun e=>Lf_ff (hN ?_)) (fun e=>⟨⟨rfl,rfl,rfl,by omega,by omega,upto_no (p:=fun j=>decide ((List.getD s.Items i'.toNat zItem).F=(List.getD s.Items j zItem).F)) k1 kR (decide_eq_false e)⟩,by simp only[Zm52_9];omega⟩)⟩
    have ha:(anyI i'.toNat fun k=>decide ((List.getD s.Items i'.toNat zItem).F=(List.getD s.Items k zItem).F))=true:=anyI_true (j:=k.toNat) (by omega) (decide_eq_true e)
    simp only[itemAtI,ha,Bool.not_true,Bool.and_false]
   ·rw[etl] at hk
    rw[wrap_i64 (n:=i'+1) (by omega) (by omega)]
    refine⟨⟨rfl,by omega,by omega,upto_step h1 hR ?_⟩,by simp only[Zm52_4];omega⟩
    have ha:(anyI i'.toNat fun k=>decide ((List.getD s.Items i'.toNat zItem).F=(List.getD s.Items k zItem).F))=false:=anyI_false fun j hj=>kR j (by omega)
    simp only[itemAtI,ha,hbase,Bool.not_false,Bool.and_true]
  ·have a':=of_decide_eq_true a'
   have hbase:baseAt s i.toNat=true:=by
    simp only[baseAt,c3,a,decide_eq_true a'.1,decide_eq_true (show(List.getD s.Items i.toNat zItem).Id<s.Next by omega),decide_eq_false p,Bool.false_and,Bool.not_false,Bool.and_true]
   refine⟨Int.le_refl 0,by simp only[Option.getD_none,Option.getD_some];omega,by simp only[Option.getD_some];omega,⟨rfl,rfl,rfl,by omega,by omega,by intro j hj;omega⟩,?_⟩
   rintro⟨i',k,⟨x1,x2,x3,⟨⟩⟩,⟨y1,y2,⟨⟩⟩,⟨⟩⟩ ⟨rfl,hx,hy,k1,k2,kR⟩
   cases hx
   cases hy
   simp only[Option.getD_none,Option.getD_some,show Int.toNat 0=0 from rfl,List.drop_zero]
   have etl:(List.take i'.toNat s.Items).length=i'.toNat:=by rw[List.length_take];omega
   refine if_dec (fun hk=> ?_) (fun hk=> ?_)
   ·rw[etl] at hk
    rw[getD_take s.Items zItem (show k.toNat<i'.toNat by omega),etl,wrap_i64 (n:=k+1) (by omega) (by omega)]
    refine⟨k1,by omega,if_dec (fun e=>Lf_ff (hN ?_)) (fun e=>⟨⟨rfl,rfl,rfl,by omega,by omega,upto_no (p:=fun j=>decide ((List.getD s.Items i'.toNat zItem).F=(List.getD s.Items j zItem).F)) k1 kR (decide_eq_false e)⟩,by simp only[Zm52_9];omega⟩)⟩
    have ha:(anyI i'.toNat fun k=>decide ((List.getD s.Items i'.toNat zItem).F=(List.getD s.Items k zItem).F))=true:=anyI_true (j:=k.toNat) (by omega) (decide_eq_true e)
    simp only[itemAtI,ha,Bool.not_true,Bool.and_false]
   ·rw[etl] at hk
    rw[wrap_i64 (n:=i'+1) (by omega) (by omega)]
    refine⟨⟨rfl,by omega,by omega,upto_step h1 hR ?_⟩,by simp only[Zm52_4];omega⟩
    have ha:(anyI i'.toNat fun k=>decide ((List.getD s.Items i'.toNat zItem).F=(List.getD s.Items k zItem).F))=false:=anyI_false fun j hj=>kR j (by omega)
    simp only[itemAtI,ha,hbase,Bool.not_false,Bool.and_true]
 ·have hA:allI s.Items.length (itemAtI s)=true:=allI_true fun j hj=>hR j (by omega)
  refine Lf_tt ?_
  rw[←hF,hA,a1,decide_eq_true (show s.Items.length≤40 by omega)];rfl
def Zh52:HH:=⟨_,Zo52⟩
def Zk156:Con UU where
 α:=DItem×Int
 md:=[.ro,.ro]
 of:=oC (oA .lItem) (o1 oI)
 ds:=fun x=>[dA .lItem x.1,dI x.2]
 pre:=fun(a,left)=>[0≤left]
 res:=fun(a,left)=>⟨[.one (.lit (.int .i64 (szr left (sizeItem a))))],true,[]⟩
 law:=lC (lA .lItem) (l1 lI)
def Za156:Zk156.α→Nat→Option (Ann UU):=fun(a,left)=>annL []
def Zu156:=us [Zh157]
theorem Zv156(a:DItem)(left:Int):goal EE Zu156 Go.Proofs.Tryz.f156 Zk156 Za156 (a,left)=((0:Int)≤left∧bif decide (szr left (sizeFact a.F)<(0:Int)) then Li (-1:Int) (szr left (sizeItem a)) else Li (szr left (sizeFact a.F)) (szr left (sizeItem a))):=by kernel_rfl
theorem Zo156:Holds EE (156,Zk156):=by
 refine holds_of EE_ok Go.Proofs.Tryz.func156 Zk156 (by kernel_rfl) Zu156 (us_ok _) Za156 (fun x hp hb=> ?_)
 obtain⟨a,left⟩:=x
 have hz0:=bd_lItem (x:=a) (hb _ m0)
 have hl_a_F_Kind:=hz0.1
 have hl_a_F_Fields:=hz0.2
 have hl_left:=bdI (n:=left) (hb _ m1)
 have hp0:0≤left:=hp _ m0
 clear hp hb
 rw[Zv156 a left]
 refine⟨by omega,if_cond (fun h=>Lf_i (szr_bad' ?_)) (fun h=> ?_)⟩
 ·have h:=szr_neg h;simp only[sizeItem];omega
 obtain⟨e0,h0⟩:=szr_pos h
 rw[e0]
 exact Lf_i (by rw[←szr_ok' (by simp only[sizeItem];omega)];simp only[sizeItem];try omega)
def Zh156:HH:=⟨_,Zo156⟩
def Zk171:Con UU where
 α:=DItem
 md:=[.ro]
 of:=o1 (oA .lItem)
 ds:=fun x=>[dA .lItem x]
 pre:=fun a=>[sizeItem a≤4294967296]
 res:=fun a=>⟨[.agg [.lit (.int .i64 a.Id),.lit (.string a.F.Kind),.sl .eVal a.F.Fields]],true,[]⟩
 law:=l1 (lA .lItem)
def Za171:Zk171.α→Nat→Option (Ann UU):=fun a=>annL []
def Zu171:=us [Zh172]
theorem Zv171(a:DItem):goal EE Zu171 Go.Proofs.Tryz.f171 Zk171 Za171 a=(sizeFact a.F≤(4294967296:Nat)∧Lf [DV.agg [Cell.lit (Value.int IntKind.i64 a.Id),Cell.lit (Value.string a.F.Kind),Cell.sl Cd.eVal a.F.Fields]] [DV.agg [Cell.lit (Value.int IntKind.i64 a.Id),Cell.lit (Value.string a.F.Kind),Cell.sl Cd.eVal a.F.Fields]]):=by kernel_rfl
theorem Zo171:Holds EE (171,Zk171):=by
 refine holds_of EE_ok Go.Proofs.Tryz.func171 Zk171 (by kernel_rfl) Zu171 (us_ok _) Za171 (fun(a:DItem) hp hb=> ?_)
 have hz0:=bd_lItem (x:=a) (hb _ m0)
 have hl_a_F_Kind:=hz0.1
 have hl_a_F_Fields:=hz0.2
 have hp0:sizeItem a≤4294967296:=hp _ m0
 clear hp hb
 rw[Zv171 a]
 simp only[sizeItem] at hp0
 repeat' (first|exact Lf_rfl _|(refine And.intro (by omega) ?_))
def Zh171:HH:=⟨_,Zo171⟩
def Zk192:Con UU where
 α:=DItem×DItem
 md:=[.ro,.ro]
 of:=oC (oA .eItem) (o1 (oA .eItem))
 ds:=fun x=>[dA .eItem x.1,dA .eItem x.2]
 pre:=fun _=>[]
 res:=fun(a,b)=>⟨[.one (.lit (.bool (decide (a=b))))],true,[]⟩
 law:=lC (lA .eItem) (l1 (lA .eItem))
def Za192:Zk192.α→Nat→Option (Ann UU):=fun(a,b)=>annL []
def Zu192:=us [Zh148]
theorem Zv192(a:DItem)(b:DItem):goal EE Zu192 Go.Proofs.Tryz.f192 Zk192 Za192 (a,b)=(bif a.Id !=b.Id then Lb false (decide (a=b)) else bif !decide (a.F=b.F) then Lb false (decide (a=b)) else Lb true (decide (a=b))):=by kernel_rfl
theorem Zo192:Holds EE (192,Zk192):=by
 refine holds_of EE_ok Go.Proofs.Tryz.func192 Zk192 (by kernel_rfl) Zu192 (us_ok _) Za192 (fun x hp hb=> ?_)
 obtain⟨a,b⟩:=x
 have hz0:=bd_eItem (x:=a) (hb _ m0)
 have hl_a_F_Kind:=hz0.1
 have hl_a_F_Fields:=hz0.2
 have hz1:=bd_eItem (x:=b) (hb _ m1)
 have hl_b_F_Kind:=hz1.1
 have hl_b_F_Fields:=hz1.2
 clear hp hb
 rw[Zv192 a b]
 obtain⟨aId,aF⟩:=a
 obtain⟨bId,bF⟩:=b
 repeat' (apply if_cond<;>intro _)
 all_goals (first|apply Lf_t|apply Lf_f)<;>simp_all
def Zh192:HH:=⟨_,Zo192⟩
def Zk98:Con UU where
 α:=(List DItem)×Int
 md:=[.ro,.ro]
 of:=oC (oL .lItem) (o1 oI)
 ds:=fun x=>[dL .lItem x.1,dI x.2]
 pre:=fun(a,left)=>[0≤left]
 res:=fun(a,left)=>⟨[.one (.lit (.int .i64 (szr left (sizeItemS a))))],true,[]⟩
 law:=lC (lL .lItem) (l1 lI)
def Zi98_5(a:(List DItem))(left:Int):Int×Int×Unit→Prop:=szI sizeItem a (sizeItemS a) left
def Zm98_5(a:(List DItem))(left:Int):Int×Int×Unit→Nat:=rM2 a
def Za98:Zk98.α→Nat→Option (Ann UU):=fun(a,left)=>annL [(5,annOf [.slot 1 (1,1024) (.lit (.int .i64)),.slot 5 (5,1024) (.lit (.int .i64))] (fun _=>Zi98_5 a left) (Zm98_5 a left))]
def Zu98:=us [Zh156]
theorem Zv98(a:(List DItem))(left:Int):goal EE Zu98 Go.Proofs.Tryz.f98 Zk98 Za98 (a,left)=(szV sizeItem zItem a (sizeItemS a) left):=by kernel_rfl
theorem Zo98:Holds EE (98,Zk98):=by
 refine holds_of EE_ok Go.Proofs.Tryz.func98 Zk98 (by kernel_rfl) Zu98 (us_ok _) Za98 (fun x hp hb=> ?_)
 obtain⟨a,left⟩:=x
 have hl_a:a.length≤9223372036854775807:=bdL (hb _ m0)
 have hl_left:=bdI (n:=left) (hb _ m1)
 have hp0:0≤left:=hp _ m0
 clear hp hb
 rw[Zv98 a left]
 exact szV_ok rfl hp0 hl_left hl_a
def Zh98:HH:=⟨_,Zo98⟩
def Zk111:Con UU where
 α:=(List DItem)
 md:=[.ro]
 of:=o1 (oL .lItem)
 ds:=fun x=>[dL .lItem x]
 pre:=fun a=>[sizeItemS a≤4294967296]
 res:=fun a=>⟨[.one (.sl .eItem a)],true,[]⟩
 law:=l1 (lL .lItem)
def Zi111_3(a:(List DItem)):List DItem×Int×Unit→Prop:=toI zItem a
def Zm111_3(a:(List DItem)):List DItem×Int×Unit→Nat:=rM2 a
def Za111:Zk111.α→Nat→Option (Ann UU):=fun a=>annL [(3,annOf [.slot 3 (3,1024) (.own .eItem true),.slot 4 (4,1024) (.lit (.int .i64))] (fun _=>Zi111_3 a) (Zm111_3 a))]
def Zu111:=us [Zh171]
theorem Zv111(a:(List DItem)):goal EE Zu111 Go.Proofs.Tryz.f111 Zk111 Za111 a=(toV sizeItem zItem a fun y=>Lf [.one (.sl .eItem y)] [.one (.sl .eItem a)]):=by kernel_rfl
theorem Zo111:Holds EE (111,Zk111):=by
 refine holds_of EE_ok Go.Proofs.Tryz.func111 Zk111 (by kernel_rfl) Zu111 (us_ok _) Za111 (fun(a:(List DItem)) hp hb=> ?_)
 have hl_a:a.length≤9223372036854775807:=bdL (hb _ m0)
 have hp0:sizeItemS a≤4294967296:=hp _ m0
 clear hp hb
 rw[Zv111 a]
 exact toV_ok hp0 (Lf_rfl _)
def Zh111:HH:=⟨_,Zo111⟩
def Zk129:Con UU where
 α:=(List DItem)×(List DItem)
 md:=[.ro,.ro]
 of:=oC (oL .eItem) (o1 (oL .eItem))
 ds:=fun x=>[dL .eItem x.1,dL .eItem x.2]
 pre:=fun _=>[]
 res:=fun(a,b)=>⟨[.one (.lit (.bool (decide (a=b))))],true,[]⟩
 law:=lC (lL .eItem) (l1 (lL .eItem))
def Zi129_4(a:(List DItem))(b:(List DItem)):Int×Unit→Prop:=eqI a b
def Zm129_4(a:(List DItem))(b:(List DItem)):Int×Unit→Nat:=rM1 a
def Za129:Zk129.α→Nat→Option (Ann UU):=fun(a,b)=>annL [(4,annOf [.slot 5 (5,1024) (.lit (.int .i64))] (fun _=>Zi129_4 a b) (Zm129_4 a b))]
def Zu129:=us [Zh192]
theorem Zv129(a:(List DItem))(b:(List DItem)):goal EE Zu129 Go.Proofs.Tryz.f129 Zk129 Za129 (a,b)=(eqV zItem a b):=by kernel_rfl
theorem Zo129:Holds EE (129,Zk129):=by
 refine holds_of EE_ok Go.Proofs.Tryz.func129 Zk129 (by kernel_rfl) Zu129 (us_ok _) Za129 (fun x hp hb=> ?_)
 obtain⟨a,b⟩:=x
 have hl_a:a.length≤9223372036854775807:=bdL (hb _ m0)
 have hl_b:b.length≤9223372036854775807:=bdL (hb _ m1)
 clear hp hb
 rw[Zv129 a b]
 exact eqV_ok hl_a
def Zh129:HH:=⟨_,Zo129⟩
def Zk30:Con UU where
 α:=DStore×Int
 md:=[.ro,.ro]
 of:=oC (oA .lStore) (o1 oI)
 ds:=fun x=>[dA .lStore x.1,dI x.2]
 pre:=fun(a,left)=>[0≤left]
 res:=fun(a,left)=>⟨[.one (.lit (.int .i64 (szr left (sizeStore a))))],true,[]⟩
 law:=lC (lA .lStore) (l1 lI)
def Za30:Zk30.α→Nat→Option (Ann UU):=fun(a,left)=>annL []
def Zu30:=us [Zh98]
theorem Zv30(a:DStore)(left:Int):goal EE Zu30 Go.Proofs.Tryz.f30 Zk30 Za30 (a,left)=((0:Int)≤left∧bif decide (szr left (sizeItemS a.Items)<(0:Int)) then Li (-1:Int) (szr left (sizeStore a)) else Li (szr left (sizeItemS a.Items)) (szr left (sizeStore a))):=by kernel_rfl
theorem Zo30:Holds EE (30,Zk30):=by
 refine holds_of EE_ok Go.Proofs.Tryz.func30 Zk30 (by kernel_rfl) Zu30 (us_ok _) Za30 (fun x hp hb=> ?_)
 obtain⟨a,left⟩:=x
 have hl_a_Items:=bd_lStore (x:=a) (hb _ m0)
 have hl_left:=bdI (n:=left) (hb _ m1)
 have hp0:0≤left:=hp _ m0
 clear hp hb
 rw[Zv30 a left]
 refine⟨by omega,if_cond (fun h=>Lf_i (szr_bad' ?_)) (fun h=> ?_)⟩
 ·have h:=szr_neg h;simp only[sizeStore];omega
 obtain⟨e0,h0⟩:=szr_pos h
 rw[e0]
 exact Lf_i (by rw[←szr_ok' (by simp only[sizeStore];omega)];simp only[sizeStore];try omega)
def Zh30:HH:=⟨_,Zo30⟩
def Zk46:Con UU where
 α:=DStore
 md:=[.ro]
 of:=o1 (oA .lStore)
 ds:=fun x=>[dA .lStore x]
 pre:=fun a=>[sizeStore a≤4294967296]
 res:=fun a=>⟨[.agg [.sl .eItem a.Items,.lit (.int .i64 a.Next)]],true,[]⟩
 law:=l1 (lA .lStore)
def Za46:Zk46.α→Nat→Option (Ann UU):=fun a=>annL []
def Zu46:=us [Zh111]
theorem Zv46(a:DStore):goal EE Zu46 Go.Proofs.Tryz.f46 Zk46 Za46 a=(sizeItemS a.Items≤(4294967296:Nat)∧Lf [DV.agg [Cell.sl Cd.eItem a.Items,Cell.lit (Value.int IntKind.i64 a.Next)]] [DV.agg [Cell.sl Cd.eItem a.Items,Cell.lit (Value.int IntKind.i64 a.Next)]]):=by kernel_rfl
theorem Zo46:Holds EE (46,Zk46):=by
 refine holds_of EE_ok Go.Proofs.Tryz.func46 Zk46 (by kernel_rfl) Zu46 (us_ok _) Za46 (fun(a:DStore) hp hb=> ?_)
 have hl_a_Items:=bd_lStore (x:=a) (hb _ m0)
 have hp0:sizeStore a≤4294967296:=hp _ m0
 clear hp hb
 rw[Zv46 a]
 simp only[sizeStore] at hp0
 repeat' (first|exact Lf_rfl _|(refine And.intro (by omega) ?_))
def Zh46:HH:=⟨_,Zo46⟩
def Zk63:Con UU where
 α:=DStore×DStore
 md:=[.ro,.ro]
 of:=oC (oA .eStore) (o1 (oA .eStore))
 ds:=fun x=>[dA .eStore x.1,dA .eStore x.2]
 pre:=fun _=>[]
 res:=fun(a,b)=>⟨[.one (.lit (.bool (decide (a=b))))],true,[]⟩
 law:=lC (lA .eStore) (l1 (lA .eStore))
def Za63:Zk63.α→Nat→Option (Ann UU):=fun(a,b)=>annL []
def Zu63:=us [Zh129]
theorem Zv63(a:DStore)(b:DStore):goal EE Zu63 Go.Proofs.Tryz.f63 Zk63 Za63 (a,b)=(bif !decide (a.Items=b.Items) then Lb false (decide (a=b)) else bif a.Next !=b.Next then Lb false (decide (a=b)) else Lb true (decide (a=b))):=by kernel_rfl
theorem Zo63:Holds EE (63,Zk63):=by
 refine holds_of EE_ok Go.Proofs.Tryz.func63 Zk63 (by kernel_rfl) Zu63 (us_ok _) Za63 (fun x hp hb=> ?_)
 obtain⟨a,b⟩:=x
 have hl_a_Items:=bd_eStore (x:=a) (hb _ m0)
 have hl_b_Items:=bd_eStore (x:=b) (hb _ m1)
 clear hp hb
 rw[Zv63 a b]
 obtain⟨aItems,aNext⟩:=a
 obtain⟨bItems,bNext⟩:=b
 repeat' (apply if_cond<;>intro _)
 all_goals (first|apply Lf_t|apply Lf_f)<;>simp_all
def Zh63:HH:=⟨_,Zo63⟩
def Zk232:Con UU where
 α:=DArg×Int
 md:=[.ro,.ro]
 of:=oC (oA .lArg) (o1 oI)
 ds:=fun x=>[dA .lArg x.1,dI x.2]
 pre:=fun(a,left)=>[0≤left]
 res:=fun(a,left)=>⟨[.one (.lit (.int .i64 (szr left (sizeArg a))))],true,[]⟩
 law:=lC (lA .lArg) (l1 lI)
def Za232:Zk232.α→Nat→Option (Ann UU):=fun(a,left)=>annL []
def Zu232:=us [Zh158]
theorem Zv232(a:DArg)(left:Int):goal EE Zu232 Go.Proofs.Tryz.f232 Zk232 Za232 (a,left)=(let x0:Int:=IntKind.wrap IntKind.i64 (left-(↑(ByteArray.size a.S):Int));
bif decide (x0<(0:Int)) then Lf [DV.one (Cell.lit (Value.int IntKind.i64 (-1:Int)))] [DV.one (Cell.lit (Value.int IntKind.i64 (szr left (sizeArg a))))] else(0:Int)≤x0∧bif decide (szr x0 (sizeVal a.V)<(0:Int)) then Lf [DV.one (Cell.lit (Value.int IntKind.i64 (-1:Int)))] [DV.one (Cell.lit (Value.int IntKind.i64 (szr left (sizeArg a))))] else Lf [DV.one (Cell.lit (Value.int IntKind.i64 (szr x0 (sizeVal a.V))))] [DV.one (Cell.lit (Value.int IntKind.i64 (szr left (sizeArg a))))]):=by kernel_rfl
theorem Zo232:Holds EE (232,Zk232):=by
 refine holds_of EE_ok Go.Proofs.Tryz.func232 Zk232 (by kernel_rfl) Zu232 (us_ok _) Za232 (fun x hp hb=> ?_)
 obtain⟨a,left⟩:=x
 have hz0:=bd_lArg (x:=a) (hb _ m0)
 have hl_a_S:=hz0.1
 have hl_a_V_S:=hz0.2
 have hl_left:=bdI (n:=left) (hb _ m1)
 have hp0:0≤left:=hp _ m0
 clear hp hb
 rw[Zv232 a left]
 dsimp only
 rw[wrap_i64 (by omega) (by omega)]
 refine if_cond (fun h=>Lf_i (szr_bad' ?_)) (fun h=> ?_)
 ·have h:=of_decide_eq_true h;simp only[sizeArg];omega
 have h0:=of_decide_eq_false h
 refine⟨by omega,if_cond (fun h=>Lf_i (szr_bad' ?_)) (fun h=> ?_)⟩
 ·have h:=szr_neg h;simp only[sizeArg];omega
 obtain⟨e1,h1⟩:=szr_pos h
 rw[e1]
 exact Lf_i (by rw[←szr_ok' (by simp only[sizeArg];omega)];simp only[sizeArg];try omega)
def Zh232:HH:=⟨_,Zo232⟩
def Zk237:Con UU where
 α:=DArg
 md:=[.ro]
 of:=o1 (oA .lArg)
 ds:=fun x=>[dA .lArg x]
 pre:=fun a=>[sizeArg a≤4294967296]
 res:=fun a=>⟨[.agg [.lit (.int .i64 a.K),.lit (.string a.S),.lit (.int .i64 a.V.K),.lit (.int .i64 a.V.N),.lit (.string a.V.S)]],true,[]⟩
 law:=l1 (lA .lArg)
def Za237:Zk237.α→Nat→Option (Ann UU):=fun a=>annL []
def Zu237:=us [Zh173]
theorem Zv237(a:DArg):goal EE Zu237 Go.Proofs.Tryz.f237 Zk237 Za237 a=(sizeVal a.V≤(4294967296:Nat)∧Lf [DV.agg [Cell.lit (Value.int IntKind.i64 a.K),Cell.lit (Value.string a.S),Cell.lit (Value.int IntKind.i64 a.V.K),Cell.lit (Value.int IntKind.i64 a.V.N),Cell.lit (Value.string a.V.S)]] [DV.agg [Cell.lit (Value.int IntKind.i64 a.K),Cell.lit (Value.string a.S),Cell.lit (Value.int IntKind.i64 a.V.K),Cell.lit (Value.int IntKind.i64 a.V.N),Cell.lit (Value.string a.V.S)]]):=by kernel_rfl
theorem Zo237:Holds EE (237,Zk237):=by
 refine holds_of EE_ok Go.Proofs.Tryz.func237 Zk237 (by kernel_rfl) Zu237 (us_ok _) Za237 (fun(a:DArg) hp hb=> ?_)
 have hz0:=bd_lArg (x:=a) (hb _ m0)
 have hl_a_S:=hz0.1
 have hl_a_V_S:=hz0.2
 have hp0:sizeArg a≤4294967296:=hp _ m0
 clear hp hb
 rw[Zv237 a]
 simp only[sizeArg] at hp0
 repeat' (first|exact Lf_rfl _|(refine And.intro (by omega) ?_))
def Zh237:HH:=⟨_,Zo237⟩
def Zk243:Con UU where
 α:=DArg×DArg
 md:=[.ro,.ro]
 of:=oC (oA .eArg) (o1 (oA .eArg))
 ds:=fun x=>[dA .eArg x.1,dA .eArg x.2]
 pre:=fun _=>[]
 res:=fun(a,b)=>⟨[.one (.lit (.bool (decide (a=b))))],true,[]⟩
 law:=lC (lA .eArg) (l1 (lA .eArg))
def Za243:Zk243.α→Nat→Option (Ann UU):=fun(a,b)=>annL []
def Zu243:=us [Zh193]
theorem Zv243(a:DArg)(b:DArg):goal EE Zu243 Go.Proofs.Tryz.f243 Zk243 Za243 (a,b)=(bif a.K !=b.K then Lb false (decide (a=b)) else bif !ByteArray.toList a.S==ByteArray.toList b.S then Lb false (decide (a=b)) else bif !decide (a.V=b.V) then Lb false (decide (a=b)) else Lb true (decide (a=b))):=by kernel_rfl
theorem Zo243:Holds EE (243,Zk243):=by
 refine holds_of EE_ok Go.Proofs.Tryz.func243 Zk243 (by kernel_rfl) Zu243 (us_ok _) Za243 (fun x hp hb=> ?_)
 obtain⟨a,b⟩:=x
 have hz0:=bd_eArg (x:=a) (hb _ m0)
 have hl_a_S:=hz0.1
 have hl_a_V_S:=hz0.2
 have hz1:=bd_eArg (x:=b) (hb _ m1)
 have hl_b_S:=hz1.1
 have hl_b_V_S:=hz1.2
 clear hp hb
 rw[Zv243 a b]
 obtain⟨aK,aS,aV⟩:=a
 obtain⟨bK,bS,bV⟩:=b
 repeat' (apply if_cond<;>intro _)
 all_goals (first|apply Lf_t|apply Lf_f)<;>simp_all
def Zh243:HH:=⟨_,Zo243⟩
def Zk231:Con UU where
 α:=(List DArg)×Int
 md:=[.ro,.ro]
 of:=oC (oL .lArg) (o1 oI)
 ds:=fun x=>[dL .lArg x.1,dI x.2]
 pre:=fun(a,left)=>[0≤left]
 res:=fun(a,left)=>⟨[.one (.lit (.int .i64 (szr left (sizeArgS a))))],true,[]⟩
 law:=lC (lL .lArg) (l1 lI)
def Zi231_5(a:(List DArg))(left:Int):Int×Int×Unit→Prop:=szI sizeArg a (sizeArgS a) left
def Zm231_5(a:(List DArg))(left:Int):Int×Int×Unit→Nat:=rM2 a
def Za231:Zk231.α→Nat→Option (Ann UU):=fun(a,left)=>annL [(5,annOf [.slot 1 (1,1024) (.lit (.int .i64)),.slot 5 (5,1024) (.lit (.int .i64))] (fun _=>Zi231_5 a left) (Zm231_5 a left))]
def Zu231:=us [Zh232]
theorem Zv231(a:(List DArg))(left:Int):goal EE Zu231 Go.Proofs.Tryz.f231 Zk231 Za231 (a,left)=(szV sizeArg zArg a (sizeArgS a) left):=by kernel_rfl
theorem Zo231:Holds EE (231,Zk231):=by
 refine holds_of EE_ok Go.Proofs.Tryz.func231 Zk231 (by kernel_rfl) Zu231 (us_ok _) Za231 (fun x hp hb=> ?_)
 obtain⟨a,left⟩:=x
 have hl_a:a.length≤9223372036854775807:=bdL (hb _ m0)
 have hl_left:=bdI (n:=left) (hb _ m1)
 have hp0:0≤left:=hp _ m0
 clear hp hb
 rw[Zv231 a left]
 exact szV_ok rfl hp0 hl_left hl_a
def Zh231:HH:=⟨_,Zo231⟩
def Zk236:Con UU where
 α:=(List DArg)
 md:=[.ro]
 of:=o1 (oL .lArg)
 ds:=fun x=>[dL .lArg x]
 pre:=fun a=>[sizeArgS a≤4294967296]
 res:=fun a=>⟨[.one (.sl .eArg a)],true,[]⟩
 law:=l1 (lL .lArg)
def Zi236_3(a:(List DArg)):List DArg×Int×Unit→Prop:=toI zArg a
def Zm236_3(a:(List DArg)):List DArg×Int×Unit→Nat:=rM2 a
def Za236:Zk236.α→Nat→Option (Ann UU):=fun a=>annL [(3,annOf [.slot 3 (3,1024) (.own .eArg true),.slot 4 (4,1024) (.lit (.int .i64))] (fun _=>Zi236_3 a) (Zm236_3 a))]
def Zu236:=us [Zh237]
theorem Zv236(a:(List DArg)):goal EE Zu236 Go.Proofs.Tryz.f236 Zk236 Za236 a=(toV sizeArg zArg a fun y=>Lf [.one (.sl .eArg y)] [.one (.sl .eArg a)]):=by kernel_rfl
theorem Zo236:Holds EE (236,Zk236):=by
 refine holds_of EE_ok Go.Proofs.Tryz.func236 Zk236 (by kernel_rfl) Zu236 (us_ok _) Za236 (fun(a:(List DArg)) hp hb=> ?_)
 have hl_a:a.length≤9223372036854775807:=bdL (hb _ m0)
 have hp0:sizeArgS a≤4294967296:=hp _ m0
 clear hp hb
 rw[Zv236 a]
 exact toV_ok hp0 (Lf_rfl _)
def Zh236:HH:=⟨_,Zo236⟩
def Zk242:Con UU where
 α:=(List DArg)×(List DArg)
 md:=[.ro,.ro]
 of:=oC (oL .eArg) (o1 (oL .eArg))
 ds:=fun x=>[dL .eArg x.1,dL .eArg x.2]
 pre:=fun _=>[]
 res:=fun(a,b)=>⟨[.one (.lit (.bool (decide (a=b))))],true,[]⟩
 law:=lC (lL .eArg) (l1 (lL .eArg))
def Zi242_4(a:(List DArg))(b:(List DArg)):Int×Unit→Prop:=eqI a b
def Zm242_4(a:(List DArg))(b:(List DArg)):Int×Unit→Nat:=rM1 a
def Za242:Zk242.α→Nat→Option (Ann UU):=fun(a,b)=>annL [(4,annOf [.slot 5 (5,1024) (.lit (.int .i64))] (fun _=>Zi242_4 a b) (Zm242_4 a b))]
def Zu242:=us [Zh243]
theorem Zv242(a:(List DArg))(b:(List DArg)):goal EE Zu242 Go.Proofs.Tryz.f242 Zk242 Za242 (a,b)=(eqV zArg a b):=by kernel_rfl
theorem Zo242:Holds EE (242,Zk242):=by
 refine holds_of EE_ok Go.Proofs.Tryz.func242 Zk242 (by kernel_rfl) Zu242 (us_ok _) Za242 (fun x hp hb=> ?_)
 obtain⟨a,b⟩:=x
 have hl_a:a.length≤9223372036854775807:=bdL (hb _ m0)
 have hl_b:b.length≤9223372036854775807:=bdL (hb _ m1)
 clear hp hb
 rw[Zv242 a b]
 exact eqV_ok hl_a
def Zh242:HH:=⟨_,Zo242⟩
def Zk201:Con UU where
 α:=DPat×Int
 md:=[.ro,.ro]
 of:=oC (oA .lPat) (o1 oI)
 ds:=fun x=>[dA .lPat x.1,dI x.2]
 pre:=fun(a,left)=>[0≤left]
 res:=fun(a,left)=>⟨[.one (.lit (.int .i64 (szr left (sizePat a))))],true,[]⟩
 law:=lC (lA .lPat) (l1 lI)
def Za201:Zk201.α→Nat→Option (Ann UU):=fun(a,left)=>annL []
def Zu201:=us [Zh231]
theorem Zv201(a:DPat)(left:Int):goal EE Zu201 Go.Proofs.Tryz.f201 Zk201 Za201 (a,left)=(let x0:Int:=IntKind.wrap IntKind.i64 (left-(↑(ByteArray.size a.Kind):Int));
bif decide (x0<(0:Int)) then Lf [DV.one (Cell.lit (Value.int IntKind.i64 (-1:Int)))] [DV.one (Cell.lit (Value.int IntKind.i64 (szr left (sizePat a))))] else(0:Int)≤x0∧bif decide (szr x0 (sizeArgS a.Args)<(0:Int)) then Lf [DV.one (Cell.lit (Value.int IntKind.i64 (-1:Int)))] [DV.one (Cell.lit (Value.int IntKind.i64 (szr left (sizePat a))))] else Lf [DV.one (Cell.lit (Value.int IntKind.i64 (szr x0 (sizeArgS a.Args))))] [DV.one (Cell.lit (Value.int IntKind.i64 (szr left (sizePat a))))]):=by kernel_rfl
theorem Zo201:Holds EE (201,Zk201):=by
 refine holds_of EE_ok Go.Proofs.Tryz.func201 Zk201 (by kernel_rfl) Zu201 (us_ok _) Za201 (fun x hp hb=> ?_)
 obtain⟨a,left⟩:=x
 have hz0:=bd_lPat (x:=a) (hb _ m0)
 have hl_a_Kind:=hz0.1
 have hl_a_Args:=hz0.2
 have hl_left:=bdI (n:=left) (hb _ m1)
 have hp0:0≤left:=hp _ m0
 clear hp hb
 rw[Zv201 a left]
 dsimp only
 rw[wrap_i64 (by omega) (by omega)]
 refine if_cond (fun h=>Lf_i (szr_bad' ?_)) (fun h=> ?_)
 ·have h:=of_decide_eq_true h;simp only[sizePat];omega
 have h0:=of_decide_eq_false h
 refine⟨by omega,if_cond (fun h=>Lf_i (szr_bad' ?_)) (fun h=> ?_)⟩
 ·have h:=szr_neg h;simp only[sizePat];omega
 obtain⟨e1,h1⟩:=szr_pos h
 rw[e1]
 exact Lf_i (by rw[←szr_ok' (by simp only[sizePat];omega)];simp only[sizePat];try omega)
def Zh201:HH:=⟨_,Zo201⟩
def Zk212:Con UU where
 α:=DPat
 md:=[.ro]
 of:=o1 (oA .lPat)
 ds:=fun x=>[dA .lPat x]
 pre:=fun a=>[sizePat a≤4294967296]
 res:=fun a=>⟨[.agg [.lit (.string a.Kind),.sl .eArg a.Args,.lit (.bool a.Not)]],true,[]⟩
 law:=l1 (lA .lPat)
def Za212:Zk212.α→Nat→Option (Ann UU):=fun a=>annL []
def Zu212:=us [Zh236]
theorem Zv212(a:DPat):goal EE Zu212 Go.Proofs.Tryz.f212 Zk212 Za212 a=(sizeArgS a.Args≤(4294967296:Nat)∧Lf [DV.agg [Cell.lit (Value.string a.Kind),Cell.sl Cd.eArg a.Args,Cell.lit (Value.bool a.Not)]] [DV.agg [Cell.lit (Value.string a.Kind),Cell.sl Cd.eArg a.Args,Cell.lit (Value.bool a.Not)]]):=by kernel_rfl
theorem Zo212:Holds EE (212,Zk212):=by
 refine holds_of EE_ok Go.Proofs.Tryz.func212 Zk212 (by kernel_rfl) Zu212 (us_ok _) Za212 (fun(a:DPat) hp hb=> ?_)
 have hz0:=bd_lPat (x:=a) (hb _ m0)
 have hl_a_Kind:=hz0.1
 have hl_a_Args:=hz0.2
 have hp0:sizePat a≤4294967296:=hp _ m0
 clear hp hb
 rw[Zv212 a]
 simp only[sizePat] at hp0
 repeat' (first|exact Lf_rfl _|(refine And.intro (by omega) ?_))
def Zh212:HH:=⟨_,Zo212⟩
def Zk223:Con UU where
 α:=DPat×DPat
 md:=[.ro,.ro]
 of:=oC (oA .ePat) (o1 (oA .ePat))
 ds:=fun x=>[dA .ePat x.1,dA .ePat x.2]
 pre:=fun _=>[]
 res:=fun(a,b)=>⟨[.one (.lit (.bool (decide (a=b))))],true,[]⟩
 law:=lC (lA .ePat) (l1 (lA .ePat))
def Za223:Zk223.α→Nat→Option (Ann UU):=fun(a,b)=>annL []
def Zu223:=us [Zh242]
theorem Zv223(a:DPat)(b:DPat):goal EE Zu223 Go.Proofs.Tryz.f223 Zk223 Za223 (a,b)=(bif !ByteArray.toList a.Kind==ByteArray.toList b.Kind then Lb false (decide (a=b)) else bif !decide (a.Args=b.Args) then Lb false (decide (a=b)) else bif !a.Not==b.Not then Lb false (decide (a=b)) else Lb true (decide (a=b))):=by kernel_rfl
theorem Zo223:Holds EE (223,Zk223):=by
 refine holds_of EE_ok Go.Proofs.Tryz.func223 Zk223 (by kernel_rfl) Zu223 (us_ok _) Za223 (fun x hp hb=> ?_)
 obtain⟨a,b⟩:=x
 have hz0:=bd_ePat (x:=a) (hb _ m0)
 have hl_a_Kind:=hz0.1
 have hl_a_Args:=hz0.2
 have hz1:=bd_ePat (x:=b) (hb _ m1)
 have hl_b_Kind:=hz1.1
 have hl_b_Args:=hz1.2
 clear hp hb
 rw[Zv223 a b]
 obtain⟨aKind,aArgs,aNot⟩:=a
 obtain⟨bKind,bArgs,bNot⟩:=b
 repeat' (apply if_cond<;>intro _)
 all_goals (first|apply Lf_t|apply Lf_f)<;>simp_all
def Zh223:HH:=⟨_,Zo223⟩
def Zk153:Con UU where
 α:=(List DPat)×Int
 md:=[.ro,.ro]
 of:=oC (oL .lPat) (o1 oI)
 ds:=fun x=>[dL .lPat x.1,dI x.2]
 pre:=fun(a,left)=>[0≤left]
 res:=fun(a,left)=>⟨[.one (.lit (.int .i64 (szr left (sizePatS a))))],true,[]⟩
 law:=lC (lL .lPat) (l1 lI)
def Zi153_5(a:(List DPat))(left:Int):Int×Int×Unit→Prop:=szI sizePat a (sizePatS a) left
def Zm153_5(a:(List DPat))(left:Int):Int×Int×Unit→Nat:=rM2 a
def Za153:Zk153.α→Nat→Option (Ann UU):=fun(a,left)=>annL [(5,annOf [.slot 1 (1,1024) (.lit (.int .i64)),.slot 5 (5,1024) (.lit (.int .i64))] (fun _=>Zi153_5 a left) (Zm153_5 a left))]
def Zu153:=us [Zh201]
theorem Zv153(a:(List DPat))(left:Int):goal EE Zu153 Go.Proofs.Tryz.f153 Zk153 Za153 (a,left)=(szV sizePat zPat a (sizePatS a) left):=by kernel_rfl
theorem Zo153:Holds EE (153,Zk153):=by
 refine holds_of EE_ok Go.Proofs.Tryz.func153 Zk153 (by kernel_rfl) Zu153 (us_ok _) Za153 (fun x hp hb=> ?_)
 obtain⟨a,left⟩:=x
 have hl_a:a.length≤9223372036854775807:=bdL (hb _ m0)
 have hl_left:=bdI (n:=left) (hb _ m1)
 have hp0:0≤left:=hp _ m0
 clear hp hb
 rw[Zv153 a left]
 exact szV_ok rfl hp0 hl_left hl_a
def Zh153:HH:=⟨_,Zo153⟩
def Zk168:Con UU where
 α:=(List DPat)
 md:=[.ro]
 of:=o1 (oL .lPat)
 ds:=fun x=>[dL .lPat x]
 pre:=fun a=>[sizePatS a≤4294967296]
 res:=fun a=>⟨[.one (.sl .ePat a)],true,[]⟩
 law:=l1 (lL .lPat)
def Zi168_3(a:(List DPat)):List DPat×Int×Unit→Prop:=toI zPat a
def Zm168_3(a:(List DPat)):List DPat×Int×Unit→Nat:=rM2 a
def Za168:Zk168.α→Nat→Option (Ann UU):=fun a=>annL [(3,annOf [.slot 3 (3,1024) (.own .ePat true),.slot 4 (4,1024) (.lit (.int .i64))] (fun _=>Zi168_3 a) (Zm168_3 a))]
def Zu168:=us [Zh212]
theorem Zv168(a:(List DPat)):goal EE Zu168 Go.Proofs.Tryz.f168 Zk168 Za168 a=(toV sizePat zPat a fun y=>Lf [.one (.sl .ePat y)] [.one (.sl .ePat a)]):=by kernel_rfl
theorem Zo168:Holds EE (168,Zk168):=by
 refine holds_of EE_ok Go.Proofs.Tryz.func168 Zk168 (by kernel_rfl) Zu168 (us_ok _) Za168 (fun(a:(List DPat)) hp hb=> ?_)
 have hl_a:a.length≤9223372036854775807:=bdL (hb _ m0)
 have hp0:sizePatS a≤4294967296:=hp _ m0
 clear hp hb
 rw[Zv168 a]
 exact toV_ok hp0 (Lf_rfl _)
def Zh168:HH:=⟨_,Zo168⟩
def Zk189:Con UU where
 α:=(List DPat)×(List DPat)
 md:=[.ro,.ro]
 of:=oC (oL .ePat) (o1 (oL .ePat))
 ds:=fun x=>[dL .ePat x.1,dL .ePat x.2]
 pre:=fun _=>[]
 res:=fun(a,b)=>⟨[.one (.lit (.bool (decide (a=b))))],true,[]⟩
 law:=lC (lL .ePat) (l1 (lL .ePat))
def Zi189_4(a:(List DPat))(b:(List DPat)):Int×Unit→Prop:=eqI a b
def Zm189_4(a:(List DPat))(b:(List DPat)):Int×Unit→Nat:=rM1 a
def Za189:Zk189.α→Nat→Option (Ann UU):=fun(a,b)=>annL [(4,annOf [.slot 5 (5,1024) (.lit (.int .i64))] (fun _=>Zi189_4 a b) (Zm189_4 a b))]
def Zu189:=us [Zh223]
theorem Zv189(a:(List DPat))(b:(List DPat)):goal EE Zu189 Go.Proofs.Tryz.f189 Zk189 Za189 (a,b)=(eqV zPat a b):=by kernel_rfl
theorem Zo189:Holds EE (189,Zk189):=by
 refine holds_of EE_ok Go.Proofs.Tryz.func189 Zk189 (by kernel_rfl) Zu189 (us_ok _) Za189 (fun x hp hb=> ?_)
 obtain⟨a,b⟩:=x
 have hl_a:a.length≤9223372036854775807:=bdL (hb _ m0)
 have hl_b:b.length≤9223372036854775807:=bdL (hb _ m1)
 clear hp hb
 rw[Zv189 a b]
 exact eqV_ok hl_a
def Zh189:HH:=⟨_,Zo189⟩
def Zk143:Con UU where
 α:=DBind×Int
 md:=[.ro,.ro]
 of:=oC (oA .lBind) (o1 oI)
 ds:=fun x=>[dA .lBind x.1,dI x.2]
 pre:=fun(a,left)=>[0≤left]
 res:=fun(a,left)=>⟨[.one (.lit (.int .i64 (szr left (sizeBind a))))],true,[]⟩
 law:=lC (lA .lBind) (l1 lI)
def Za143:Zk143.α→Nat→Option (Ann UU):=fun(a,left)=>annL []
def Zu143:=us [Zh158]
theorem Zv143(a:DBind)(left:Int):goal EE Zu143 Go.Proofs.Tryz.f143 Zk143 Za143 (a,left)=(let x0:Int:=IntKind.wrap IntKind.i64 (left-(↑(ByteArray.size a.Name):Int));
bif decide (x0<(0:Int)) then Lf [DV.one (Cell.lit (Value.int IntKind.i64 (-1:Int)))] [DV.one (Cell.lit (Value.int IntKind.i64 (szr left (sizeBind a))))] else(0:Int)≤x0∧bif decide (szr x0 (sizeVal a.V)<(0:Int)) then Lf [DV.one (Cell.lit (Value.int IntKind.i64 (-1:Int)))] [DV.one (Cell.lit (Value.int IntKind.i64 (szr left (sizeBind a))))] else Lf [DV.one (Cell.lit (Value.int IntKind.i64 (szr x0 (sizeVal a.V))))] [DV.one (Cell.lit (Value.int IntKind.i64 (szr left (sizeBind a))))]):=by kernel_rfl
theorem Zo143:Holds EE (143,Zk143):=by
 refine holds_of EE_ok Go.Proofs.Tryz.func143 Zk143 (by kernel_rfl) Zu143 (us_ok _) Za143 (fun x hp hb=> ?_)
 obtain⟨a,left⟩:=x
 have hz0:=bd_lBind (x:=a) (hb _ m0)
 have hl_a_Name:=hz0.1
 have hl_a_V_S:=hz0.2
 have hl_left:=bdI (n:=left) (hb _ m1)
 have hp0:0≤left:=hp _ m0
 clear hp hb
 rw[Zv143 a left]
 dsimp only
 rw[wrap_i64 (by omega) (by omega)]
 refine if_cond (fun h=>Lf_i (szr_bad' ?_)) (fun h=> ?_)
 ·have h:=of_decide_eq_true h;simp only[sizeBind];omega
 have h0:=of_decide_eq_false h
 refine⟨by omega,if_cond (fun h=>Lf_i (szr_bad' ?_)) (fun h=> ?_)⟩
 ·have h:=szr_neg h;simp only[sizeBind];omega
 obtain⟨e1,h1⟩:=szr_pos h
 rw[e1]
 exact Lf_i (by rw[←szr_ok' (by simp only[sizeBind];omega)];simp only[sizeBind];try omega)
def Zh143:HH:=⟨_,Zo143⟩
def Zk146:Con UU where
 α:=DBind
 md:=[.ro]
 of:=o1 (oA .lBind)
 ds:=fun x=>[dA .lBind x]
 pre:=fun a=>[sizeBind a≤4294967296]
 res:=fun a=>⟨[.agg [.lit (.string a.Name),.lit (.int .i64 a.V.K),.lit (.int .i64 a.V.N),.lit (.string a.V.S)]],true,[]⟩
 law:=l1 (lA .lBind)
def Za146:Zk146.α→Nat→Option (Ann UU):=fun a=>annL []
def Zu146:=us [Zh173]
theorem Zv146(a:DBind):goal EE Zu146 Go.Proofs.Tryz.f146 Zk146 Za146 a=(sizeVal a.V≤(4294967296:Nat)∧Lf [DV.agg [Cell.lit (Value.string a.Name),Cell.lit (Value.int IntKind.i64 a.V.K),Cell.lit (Value.int IntKind.i64 a.V.N),Cell.lit (Value.string a.V.S)]] [DV.agg [Cell.lit (Value.string a.Name),Cell.lit (Value.int IntKind.i64 a.V.K),Cell.lit (Value.int IntKind.i64 a.V.N),Cell.lit (Value.string a.V.S)]]):=by kernel_rfl
theorem Zo146:Holds EE (146,Zk146):=by
 refine holds_of EE_ok Go.Proofs.Tryz.func146 Zk146 (by kernel_rfl) Zu146 (us_ok _) Za146 (fun(a:DBind) hp hb=> ?_)
 have hz0:=bd_lBind (x:=a) (hb _ m0)
 have hl_a_Name:=hz0.1
 have hl_a_V_S:=hz0.2
 have hp0:sizeBind a≤4294967296:=hp _ m0
 clear hp hb
 rw[Zv146 a]
 simp only[sizeBind] at hp0
 repeat' (first|exact Lf_rfl _|(refine And.intro (by omega) ?_))
def Zh146:HH:=⟨_,Zo146⟩
def Zk149:Con UU where
 α:=DBind×DBind
 md:=[.ro,.ro]
 of:=oC (oA .eBind) (o1 (oA .eBind))
 ds:=fun x=>[dA .eBind x.1,dA .eBind x.2]
 pre:=fun _=>[]
 res:=fun(a,b)=>⟨[.one (.lit (.bool (decide (a=b))))],true,[]⟩
 law:=lC (lA .eBind) (l1 (lA .eBind))
def Za149:Zk149.α→Nat→Option (Ann UU):=fun(a,b)=>annL []
def Zu149:=us [Zh193]
theorem Zv149(a:DBind)(b:DBind):goal EE Zu149 Go.Proofs.Tryz.f149 Zk149 Za149 (a,b)=(bif !ByteArray.toList a.Name==ByteArray.toList b.Name then Lb false (decide (a=b)) else bif !decide (a.V=b.V) then Lb false (decide (a=b)) else Lb true (decide (a=b))):=by kernel_rfl
theorem Zo149:Holds EE (149,Zk149):=by
 refine holds_of EE_ok Go.Proofs.Tryz.func149 Zk149 (by kernel_rfl) Zu149 (us_ok _) Za149 (fun x hp hb=> ?_)
 obtain⟨a,b⟩:=x
 have hz0:=bd_eBind (x:=a) (hb _ m0)
 have hl_a_Name:=hz0.1
 have hl_a_V_S:=hz0.2
 have hz1:=bd_eBind (x:=b) (hb _ m1)
 have hl_b_Name:=hz1.1
 have hl_b_V_S:=hz1.2
 clear hp hb
 rw[Zv149 a b]
 obtain⟨aName,aV⟩:=a
 obtain⟨bName,bV⟩:=b
 repeat' (apply if_cond<;>intro _)
 all_goals (first|apply Lf_t|apply Lf_f)<;>simp_all
def Zh149:HH:=⟨_,Zo149⟩
def Zk81:Con UU where
 α:=(List DBind)×Int
 md:=[.ro,.ro]
 of:=oC (oL .lBind) (o1 oI)
 ds:=fun x=>[dL .lBind x.1,dI x.2]
 pre:=fun(a,left)=>[0≤left]
 res:=fun(a,left)=>⟨[.one (.lit (.int .i64 (szr left (sizeBindS a))))],true,[]⟩
 law:=lC (lL .lBind) (l1 lI)
def Zi81_5(a:(List DBind))(left:Int):Int×Int×Unit→Prop:=szI sizeBind a (sizeBindS a) left
def Zm81_5(a:(List DBind))(left:Int):Int×Int×Unit→Nat:=rM2 a
def Za81:Zk81.α→Nat→Option (Ann UU):=fun(a,left)=>annL [(5,annOf [.slot 1 (1,1024) (.lit (.int .i64)),.slot 5 (5,1024) (.lit (.int .i64))] (fun _=>Zi81_5 a left) (Zm81_5 a left))]
def Zu81:=us [Zh143]
theorem Zv81(a:(List DBind))(left:Int):goal EE Zu81 Go.Proofs.Tryz.f81 Zk81 Za81 (a,left)=(szV sizeBind zBind a (sizeBindS a) left):=by kernel_rfl
theorem Zo81:Holds EE (81,Zk81):=by
 refine holds_of EE_ok Go.Proofs.Tryz.func81 Zk81 (by kernel_rfl) Zu81 (us_ok _) Za81 (fun x hp hb=> ?_)
 obtain⟨a,left⟩:=x
 have hl_a:a.length≤9223372036854775807:=bdL (hb _ m0)
 have hl_left:=bdI (n:=left) (hb _ m1)
 have hp0:0≤left:=hp _ m0
 clear hp hb
 rw[Zv81 a left]
 exact szV_ok rfl hp0 hl_left hl_a
def Zh81:HH:=⟨_,Zo81⟩
def Zk86:Con UU where
 α:=(List DBind)
 md:=[.ro]
 of:=o1 (oL .lBind)
 ds:=fun x=>[dL .lBind x]
 pre:=fun a=>[sizeBindS a≤4294967296]
 res:=fun a=>⟨[.one (.sl .eBind a)],true,[]⟩
 law:=l1 (lL .lBind)
def Zi86_3(a:(List DBind)):List DBind×Int×Unit→Prop:=toI zBind a
def Zm86_3(a:(List DBind)):List DBind×Int×Unit→Nat:=rM2 a
def Za86:Zk86.α→Nat→Option (Ann UU):=fun a=>annL [(3,annOf [.slot 3 (3,1024) (.own .eBind true),.slot 4 (4,1024) (.lit (.int .i64))] (fun _=>Zi86_3 a) (Zm86_3 a))]
def Zu86:=us [Zh146]
theorem Zv86(a:(List DBind)):goal EE Zu86 Go.Proofs.Tryz.f86 Zk86 Za86 a=(toV sizeBind zBind a fun y=>Lf [.one (.sl .eBind y)] [.one (.sl .eBind a)]):=by kernel_rfl
theorem Zo86:Holds EE (86,Zk86):=by
 refine holds_of EE_ok Go.Proofs.Tryz.func86 Zk86 (by kernel_rfl) Zu86 (us_ok _) Za86 (fun(a:(List DBind)) hp hb=> ?_)
 have hl_a:a.length≤9223372036854775807:=bdL (hb _ m0)
 have hp0:sizeBindS a≤4294967296:=hp _ m0
 clear hp hb
 rw[Zv86 a]
 exact toV_ok hp0 (Lf_rfl _)
def Zh86:HH:=⟨_,Zo86⟩
def Zk90:Con UU where
 α:=(List DBind)×(List DBind)
 md:=[.ro,.ro]
 of:=oC (oL .eBind) (o1 (oL .eBind))
 ds:=fun x=>[dL .eBind x.1,dL .eBind x.2]
 pre:=fun _=>[]
 res:=fun(a,b)=>⟨[.one (.lit (.bool (decide (a=b))))],true,[]⟩
 law:=lC (lL .eBind) (l1 (lL .eBind))
def Zi90_4(a:(List DBind))(b:(List DBind)):Int×Unit→Prop:=eqI a b
def Zm90_4(a:(List DBind))(b:(List DBind)):Int×Unit→Nat:=rM1 a
def Za90:Zk90.α→Nat→Option (Ann UU):=fun(a,b)=>annL [(4,annOf [.slot 5 (5,1024) (.lit (.int .i64))] (fun _=>Zi90_4 a b) (Zm90_4 a b))]
def Zu90:=us [Zh149]
theorem Zv90(a:(List DBind))(b:(List DBind)):goal EE Zu90 Go.Proofs.Tryz.f90 Zk90 Za90 (a,b)=(eqV zBind a b):=by kernel_rfl
theorem Zo90:Holds EE (90,Zk90):=by
 refine holds_of EE_ok Go.Proofs.Tryz.func90 Zk90 (by kernel_rfl) Zu90 (us_ok _) Za90 (fun x hp hb=> ?_)
 obtain⟨a,b⟩:=x
 have hl_a:a.length≤9223372036854775807:=bdL (hb _ m0)
 have hl_b:b.length≤9223372036854775807:=bdL (hb _ m1)
 clear hp hb
 rw[Zv90 a b]
 exact eqV_ok hl_a
def Zh90:HH:=⟨_,Zo90⟩
def Zk202:Con UU where
 α:=DCond×Int
 md:=[.ro,.ro]
 of:=oC (oA .lCond) (o1 oI)
 ds:=fun x=>[dA .lCond x.1,dI x.2]
 pre:=fun(a,left)=>[0≤left]
 res:=fun(a,left)=>⟨[.one (.lit (.int .i64 (szr left (sizeCond a))))],true,[]⟩
 law:=lC (lA .lCond) (l1 lI)
def Za202:Zk202.α→Nat→Option (Ann UU):=fun(a,left)=>annL []
def Zu202:=us [Zh232]
theorem Zv202(a:DCond)(left:Int):goal EE Zu202 Go.Proofs.Tryz.f202 Zk202 Za202 (a,left)=(let x0:Int:=szr (szr left (sizeArg a.L)) (sizeArg a.R);
(0:Int)≤left∧bif decide (szr left (sizeArg a.L)<(0:Int)) then Lf [DV.one (Cell.lit (Value.int IntKind.i64 (-1:Int)))] [DV.one (Cell.lit (Value.int IntKind.i64 (szr left (sizeCond a))))] else(0:Int)≤szr left (sizeArg a.L)∧bif decide (x0<(0:Int)) then Lf [DV.one (Cell.lit (Value.int IntKind.i64 (-1:Int)))] [DV.one (Cell.lit (Value.int IntKind.i64 (szr left (sizeCond a))))] else Lf [DV.one (Cell.lit (Value.int IntKind.i64 x0))] [DV.one (Cell.lit (Value.int IntKind.i64 (szr left (sizeCond a))))]):=by kernel_rfl
theorem Zo202:Holds EE (202,Zk202):=by
 refine holds_of EE_ok Go.Proofs.Tryz.func202 Zk202 (by kernel_rfl) Zu202 (us_ok _) Za202 (fun x hp hb=> ?_)
 obtain⟨a,left⟩:=x
 have hz0:=bd_lCond (x:=a) (hb _ m0)
 have hl_a_L_S:=hz0.1
 have hl_a_L_V_S:=hz0.2.1
 have hl_a_R_S:=hz0.2.2.1
 have hl_a_R_V_S:=hz0.2.2.2
 have hl_left:=bdI (n:=left) (hb _ m1)
 have hp0:0≤left:=hp _ m0
 clear hp hb
 rw[Zv202 a left]
 dsimp only
 refine⟨by omega,if_cond (fun h=>Lf_i (szr_bad' ?_)) (fun h=> ?_)⟩
 ·have h:=szr_neg h;simp only[sizeCond];omega
 obtain⟨e0,h0⟩:=szr_pos h
 rw[e0]
 refine⟨by omega,if_cond (fun h=>Lf_i (szr_bad' ?_)) (fun h=> ?_)⟩
 ·have h:=szr_neg h;simp only[sizeCond];omega
 obtain⟨e1,h1⟩:=szr_pos h
 rw[e1]
 exact Lf_i (by rw[←szr_ok' (by simp only[sizeCond];omega)];simp only[sizeCond];try omega)
def Zh202:HH:=⟨_,Zo202⟩
def Zk213:Con UU where
 α:=DCond
 md:=[.ro]
 of:=o1 (oA .lCond)
 ds:=fun x=>[dA .lCond x]
 pre:=fun a=>[sizeCond a≤4294967296]
 res:=fun a=>⟨[.agg [.lit (.int .i64 a.Op),.lit (.int .i64 a.L.K),.lit (.string a.L.S),.lit (.int .i64 a.L.V.K),.lit (.int .i64 a.L.V.N),.lit (.string a.L.V.S),.lit (.int .i64 a.R.K),.lit (.string a.R.S),.lit (.int .i64 a.R.V.K),.lit (.int .i64 a.R.V.N),.lit (.string a.R.V.S)]],true,[]⟩
 law:=l1 (lA .lCond)
def Za213:Zk213.α→Nat→Option (Ann UU):=fun a=>annL []
def Zu213:=us [Zh237]
theorem Zv213(a:DCond):goal EE Zu213 Go.Proofs.Tryz.f213 Zk213 Za213 a=(sizeArg a.L≤(4294967296:Nat)∧sizeArg a.R≤(4294967296:Nat)∧Lf [DV.agg [Cell.lit (Value.int IntKind.i64 a.Op),Cell.lit (Value.int IntKind.i64 a.L.K),Cell.lit (Value.string a.L.S),Cell.lit (Value.int IntKind.i64 a.L.V.K),Cell.lit (Value.int IntKind.i64 a.L.V.N),Cell.lit (Value.string a.L.V.S),Cell.lit (Value.int IntKind.i64 a.R.K),Cell.lit (Value.string a.R.S),Cell.lit (Value.int IntKind.i64 a.R.V.K),Cell.lit (Value.int IntKind.i64 a.R.V.N),Cell.lit (Value.string a.R.V.S)]] [DV.agg [Cell.lit (Value.int IntKind.i64 a.Op),Cell.lit (Value.int IntKind.i64 a.L.K),Cell.lit (Value.string a.L.S),Cell.lit (Value.int IntKind.i64 a.L.V.K),Cell.lit (Value.int IntKind.i64 a.L.V.N),Cell.lit (Value.string a.L.V.S),Cell.lit (Value.int IntKind.i64 a.R.K),Cell.lit (Value.string a.R.S),Cell.lit (Value.int IntKind.i64 a.R.V.K),Cell.lit (Value.int IntKind.i64 a.R.V.N),Cell.lit (Value.string a.R.V.S)]]):=by kernel_rfl
theorem Zo213:Holds EE (213,Zk213):=by
 refine holds_of EE_ok Go.Proofs.Tryz.func213 Zk213 (by kernel_rfl) Zu213 (us_ok _) Za213 (fun(a:DCond) hp hb=> ?_)
 have hz0:=bd_lCond (x:=a) (hb _ m0)
 have hl_a_L_S:=hz0.1
 have hl_a_L_V_S:=hz0.2.1
 have hl_a_R_S:=hz0.2.2.1
 have hl_a_R_V_S:=hz0.2.2.2
 have hp0:sizeCond a≤4294967296:=hp _ m0
 clear hp hb
 rw[Zv213 a]
 simp only[sizeCond] at hp0
 repeat' (first|exact Lf_rfl _|(refine And.intro (by omega) ?_))
def Zh213:HH:=⟨_,Zo213⟩
def Zk224:Con UU where
 α:=DCond×DCond
 md:=[.ro,.ro]
 of:=oC (oA .eCond) (o1 (oA .eCond))
 ds:=fun x=>[dA .eCond x.1,dA .eCond x.2]
 pre:=fun _=>[]
 res:=fun(a,b)=>⟨[.one (.lit (.bool (decide (a=b))))],true,[]⟩
 law:=lC (lA .eCond) (l1 (lA .eCond))
def Za224:Zk224.α→Nat→Option (Ann UU):=fun(a,b)=>annL []
def Zu224:=us [Zh243]
theorem Zv224(a:DCond)(b:DCond):goal EE Zu224 Go.Proofs.Tryz.f224 Zk224 Za224 (a,b)=(bif a.Op !=b.Op then Lb false (decide (a=b)) else bif !decide (a.L=b.L) then Lb false (decide (a=b)) else bif !decide (a.R=b.R) then Lb false (decide (a=b)) else Lb true (decide (a=b))):=by kernel_rfl
theorem Zo224:Holds EE (224,Zk224):=by
 refine holds_of EE_ok Go.Proofs.Tryz.func224 Zk224 (by kernel_rfl) Zu224 (us_ok _) Za224 (fun x hp hb=> ?_)
 obtain⟨a,b⟩:=x
 have hz0:=bd_eCond (x:=a) (hb _ m0)
 have hl_a_L_S:=hz0.1
 have hl_a_L_V_S:=hz0.2.1
 have hl_a_R_S:=hz0.2.2.1
 have hl_a_R_V_S:=hz0.2.2.2
 have hz1:=bd_eCond (x:=b) (hb _ m1)
 have hl_b_L_S:=hz1.1
 have hl_b_L_V_S:=hz1.2.1
 have hl_b_R_S:=hz1.2.2.1
 have hl_b_R_V_S:=hz1.2.2.2
 clear hp hb
 rw[Zv224 a b]
 obtain⟨aOp,aL,aR⟩:=a
 obtain⟨bOp,bL,bR⟩:=b
 repeat' (apply if_cond<;>intro _)
 all_goals (first|apply Lf_t|apply Lf_f)<;>simp_all
def Zh224:HH:=⟨_,Zo224⟩
def Zk154:Con UU where
 α:=(List DCond)×Int
 md:=[.ro,.ro]
 of:=oC (oL .lCond) (o1 oI)
 ds:=fun x=>[dL .lCond x.1,dI x.2]
 pre:=fun(a,left)=>[0≤left]
 res:=fun(a,left)=>⟨[.one (.lit (.int .i64 (szr left (sizeCondS a))))],true,[]⟩
 law:=lC (lL .lCond) (l1 lI)
def Zi154_5(a:(List DCond))(left:Int):Int×Int×Unit→Prop:=szI sizeCond a (sizeCondS a) left
def Zm154_5(a:(List DCond))(left:Int):Int×Int×Unit→Nat:=rM2 a
def Za154:Zk154.α→Nat→Option (Ann UU):=fun(a,left)=>annL [(5,annOf [.slot 1 (1,1024) (.lit (.int .i64)),.slot 5 (5,1024) (.lit (.int .i64))] (fun _=>Zi154_5 a left) (Zm154_5 a left))]
def Zu154:=us [Zh202]
theorem Zv154(a:(List DCond))(left:Int):goal EE Zu154 Go.Proofs.Tryz.f154 Zk154 Za154 (a,left)=(szV sizeCond zCond a (sizeCondS a) left):=by kernel_rfl
theorem Zo154:Holds EE (154,Zk154):=by
 refine holds_of EE_ok Go.Proofs.Tryz.func154 Zk154 (by kernel_rfl) Zu154 (us_ok _) Za154 (fun x hp hb=> ?_)
 obtain⟨a,left⟩:=x
 have hl_a:a.length≤9223372036854775807:=bdL (hb _ m0)
 have hl_left:=bdI (n:=left) (hb _ m1)
 have hp0:0≤left:=hp _ m0
 clear hp hb
 rw[Zv154 a left]
 exact szV_ok rfl hp0 hl_left hl_a
def Zh154:HH:=⟨_,Zo154⟩
def Zk169:Con UU where
 α:=(List DCond)
 md:=[.ro]
 of:=o1 (oL .lCond)
 ds:=fun x=>[dL .lCond x]
 pre:=fun a=>[sizeCondS a≤4294967296]
 res:=fun a=>⟨[.one (.sl .eCond a)],true,[]⟩
 law:=l1 (lL .lCond)
def Zi169_3(a:(List DCond)):List DCond×Int×Unit→Prop:=toI zCond a
def Zm169_3(a:(List DCond)):List DCond×Int×Unit→Nat:=rM2 a
def Za169:Zk169.α→Nat→Option (Ann UU):=fun a=>annL [(3,annOf [.slot 3 (3,1024) (.own .eCond true),.slot 4 (4,1024) (.lit (.int .i64))] (fun _=>Zi169_3 a) (Zm169_3 a))]
def Zu169:=us [Zh213]
theorem Zv169(a:(List DCond)):goal EE Zu169 Go.Proofs.Tryz.f169 Zk169 Za169 a=(toV sizeCond zCond a fun y=>Lf [.one (.sl .eCond y)] [.one (.sl .eCond a)]):=by kernel_rfl
theorem Zo169:Holds EE (169,Zk169):=by
 refine holds_of EE_ok Go.Proofs.Tryz.func169 Zk169 (by kernel_rfl) Zu169 (us_ok _) Za169 (fun(a:(List DCond)) hp hb=> ?_)
 have hl_a:a.length≤9223372036854775807:=bdL (hb _ m0)
 have hp0:sizeCondS a≤4294967296:=hp _ m0
 clear hp hb
 rw[Zv169 a]
 exact toV_ok hp0 (Lf_rfl _)
def Zh169:HH:=⟨_,Zo169⟩
def Zk190:Con UU where
 α:=(List DCond)×(List DCond)
 md:=[.ro,.ro]
 of:=oC (oL .eCond) (o1 (oL .eCond))
 ds:=fun x=>[dL .eCond x.1,dL .eCond x.2]
 pre:=fun _=>[]
 res:=fun(a,b)=>⟨[.one (.lit (.bool (decide (a=b))))],true,[]⟩
 law:=lC (lL .eCond) (l1 (lL .eCond))
def Zi190_4(a:(List DCond))(b:(List DCond)):Int×Unit→Prop:=eqI a b
def Zm190_4(a:(List DCond))(b:(List DCond)):Int×Unit→Nat:=rM1 a
def Za190:Zk190.α→Nat→Option (Ann UU):=fun(a,b)=>annL [(4,annOf [.slot 5 (5,1024) (.lit (.int .i64))] (fun _=>Zi190_4 a b) (Zm190_4 a b))]
def Zu190:=us [Zh224]
theorem Zv190(a:(List DCond))(b:(List DCond)):goal EE Zu190 Go.Proofs.Tryz.f190 Zk190 Za190 (a,b)=(eqV zCond a b):=by kernel_rfl
theorem Zo190:Holds EE (190,Zk190):=by
 refine holds_of EE_ok Go.Proofs.Tryz.func190 Zk190 (by kernel_rfl) Zu190 (us_ok _) Za190 (fun x hp hb=> ?_)
 obtain⟨a,b⟩:=x
 have hl_a:a.length≤9223372036854775807:=bdL (hb _ m0)
 have hl_b:b.length≤9223372036854775807:=bdL (hb _ m1)
 clear hp hb
 rw[Zv190 a b]
 exact eqV_ok hl_a
def Zh190:HH:=⟨_,Zo190⟩
def Zk250:Con UU where
 α:=DExpr×Int
 md:=[.ro,.ro]
 of:=oC (oA .lExpr) (o1 oI)
 ds:=fun x=>[dA .lExpr x.1,dI x.2]
 pre:=fun(a,left)=>[0≤left]
 res:=fun(a,left)=>⟨[.one (.lit (.int .i64 (szr left (sizeExpr a))))],true,[]⟩
 law:=lC (lA .lExpr) (l1 lI)
def Za250:Zk250.α→Nat→Option (Ann UU):=fun(a,left)=>annL []
def Zu250:=us [Zh232]
theorem Zv250(a:DExpr)(left:Int):goal EE Zu250 Go.Proofs.Tryz.f250 Zk250 Za250 (a,left)=(let x1:Int:=IntKind.wrap IntKind.i64 (left-(↑(ByteArray.size a.Op):Int));
let x0:Int:=szr x1 (sizeArg a.L);
bif decide (x1<(0:Int)) then Lf [DV.one (Cell.lit (Value.int IntKind.i64 (-1:Int)))] [DV.one (Cell.lit (Value.int IntKind.i64 (szr left (sizeExpr a))))] else(0:Int)≤x1∧bif decide (x0<(0:Int)) then Lf [DV.one (Cell.lit (Value.int IntKind.i64 (-1:Int)))] [DV.one (Cell.lit (Value.int IntKind.i64 (szr left (sizeExpr a))))] else(0:Int)≤x0∧bif decide (szr x0 (sizeArg a.R)<(0:Int)) then Lf [DV.one (Cell.lit (Value.int IntKind.i64 (-1:Int)))] [DV.one (Cell.lit (Value.int IntKind.i64 (szr left (sizeExpr a))))] else Lf [DV.one (Cell.lit (Value.int IntKind.i64 (szr x0 (sizeArg a.R))))] [DV.one (Cell.lit (Value.int IntKind.i64 (szr left (sizeExpr a))))]):=by kernel_rfl
theorem Zo250:Holds EE (250,Zk250):=by
 refine holds_of EE_ok Go.Proofs.Tryz.func250 Zk250 (by kernel_rfl) Zu250 (us_ok _) Za250 (fun x hp hb=> ?_)
 obtain⟨a,left⟩:=x
 have hz0:=bd_lExpr (x:=a) (hb _ m0)
 have hl_a_Op:=hz0.1
 have hl_a_L_S:=hz0.2.1
 have hl_a_L_V_S:=hz0.2.2.1
 have hl_a_R_S:=hz0.2.2.2.1
 have hl_a_R_V_S:=hz0.2.2.2.2
 have hl_left:=bdI (n:=left) (hb _ m1)
 have hp0:0≤left:=hp _ m0
 clear hp hb
 rw[Zv250 a left]
 dsimp only
 rw[wrap_i64 (by omega) (by omega)]
 refine if_cond (fun h=>Lf_i (szr_bad' ?_)) (fun h=> ?_)
 ·have h:=of_decide_eq_true h;simp only[sizeExpr];omega
 have h0:=of_decide_eq_false h
 refine⟨by omega,if_cond (fun h=>Lf_i (szr_bad' ?_)) (fun h=> ?_)⟩
 ·have h:=szr_neg h;simp only[sizeExpr];omega
 obtain⟨e1,h1⟩:=szr_pos h
 rw[e1]
 refine⟨by omega,if_cond (fun h=>Lf_i (szr_bad' ?_)) (fun h=> ?_)⟩
 ·have h:=szr_neg h;simp only[sizeExpr];omega
 obtain⟨e2,h2⟩:=szr_pos h
 rw[e2]
 exact Lf_i (by rw[←szr_ok' (by simp only[sizeExpr];omega)];simp only[sizeExpr];try omega)
def Zh250:HH:=⟨_,Zo250⟩
def Zk253:Con UU where
 α:=DExpr
 md:=[.ro]
 of:=o1 (oA .lExpr)
 ds:=fun x=>[dA .lExpr x]
 pre:=fun a=>[sizeExpr a≤4294967296]
 res:=fun a=>⟨[.agg [.lit (.string a.Op),.lit (.int .i64 a.L.K),.lit (.string a.L.S),.lit (.int .i64 a.L.V.K),.lit (.int .i64 a.L.V.N),.lit (.string a.L.V.S),.lit (.int .i64 a.R.K),.lit (.string a.R.S),.lit (.int .i64 a.R.V.K),.lit (.int .i64 a.R.V.N),.lit (.string a.R.V.S)]],true,[]⟩
 law:=l1 (lA .lExpr)
def Za253:Zk253.α→Nat→Option (Ann UU):=fun a=>annL []
def Zu253:=us [Zh237]
theorem Zv253(a:DExpr):goal EE Zu253 Go.Proofs.Tryz.f253 Zk253 Za253 a=(sizeArg a.L≤(4294967296:Nat)∧sizeArg a.R≤(4294967296:Nat)∧Lf [DV.agg [Cell.lit (Value.string a.Op),Cell.lit (Value.int IntKind.i64 a.L.K),Cell.lit (Value.string a.L.S),Cell.lit (Value.int IntKind.i64 a.L.V.K),Cell.lit (Value.int IntKind.i64 a.L.V.N),Cell.lit (Value.string a.L.V.S),Cell.lit (Value.int IntKind.i64 a.R.K),Cell.lit (Value.string a.R.S),Cell.lit (Value.int IntKind.i64 a.R.V.K),Cell.lit (Value.int IntKind.i64 a.R.V.N),Cell.lit (Value.string a.R.V.S)]] [DV.agg [Cell.lit (Value.string a.Op),Cell.lit (Value.int IntKind.i64 a.L.K),Cell.lit (Value.string a.L.S),Cell.lit (Value.int IntKind.i64 a.L.V.K),Cell.lit (Value.int IntKind.i64 a.L.V.N),Cell.lit (Value.string a.L.V.S),Cell.lit (Value.int IntKind.i64 a.R.K),Cell.lit (Value.string a.R.S),Cell.lit (Value.int IntKind.i64 a.R.V.K),Cell.lit (Value.int IntKind.i64 a.R.V.N),Cell.lit (Value.string a.R.V.S)]]):=by kernel_rfl
theorem Zo253:Holds EE (253,Zk253):=by
 refine holds_of EE_ok Go.Proofs.Tryz.func253 Zk253 (by kernel_rfl) Zu253 (us_ok _) Za253 (fun(a:DExpr) hp hb=> ?_)
 have hz0:=bd_lExpr (x:=a) (hb _ m0)
 have hl_a_Op:=hz0.1
 have hl_a_L_S:=hz0.2.1
 have hl_a_L_V_S:=hz0.2.2.1
 have hl_a_R_S:=hz0.2.2.2.1
 have hl_a_R_V_S:=hz0.2.2.2.2
 have hp0:sizeExpr a≤4294967296:=hp _ m0
 clear hp hb
 rw[Zv253 a]
 simp only[sizeExpr] at hp0
 repeat' (first|exact Lf_rfl _|(refine And.intro (by omega) ?_))
def Zh253:HH:=⟨_,Zo253⟩
def Zk255:Con UU where
 α:=DExpr×DExpr
 md:=[.ro,.ro]
 of:=oC (oA .eExpr) (o1 (oA .eExpr))
 ds:=fun x=>[dA .eExpr x.1,dA .eExpr x.2]
 pre:=fun _=>[]
 res:=fun(a,b)=>⟨[.one (.lit (.bool (decide (a=b))))],true,[]⟩
 law:=lC (lA .eExpr) (l1 (lA .eExpr))
def Za255:Zk255.α→Nat→Option (Ann UU):=fun(a,b)=>annL []
def Zu255:=us [Zh243]
theorem Zv255(a:DExpr)(b:DExpr):goal EE Zu255 Go.Proofs.Tryz.f255 Zk255 Za255 (a,b)=(bif !ByteArray.toList a.Op==ByteArray.toList b.Op then Lb false (decide (a=b)) else bif !decide (a.L=b.L) then Lb false (decide (a=b)) else bif !decide (a.R=b.R) then Lb false (decide (a=b)) else Lb true (decide (a=b))):=by kernel_rfl
theorem Zo255:Holds EE (255,Zk255):=by
 refine holds_of EE_ok Go.Proofs.Tryz.func255 Zk255 (by kernel_rfl) Zu255 (us_ok _) Za255 (fun x hp hb=> ?_)
 obtain⟨a,b⟩:=x
 have hz0:=bd_eExpr (x:=a) (hb _ m0)
 have hl_a_Op:=hz0.1
 have hl_a_L_S:=hz0.2.1
 have hl_a_L_V_S:=hz0.2.2.1
 have hl_a_R_S:=hz0.2.2.2.1
 have hl_a_R_V_S:=hz0.2.2.2.2
 have hz1:=bd_eExpr (x:=b) (hb _ m1)
 have hl_b_Op:=hz1.1
 have hl_b_L_S:=hz1.2.1
 have hl_b_L_V_S:=hz1.2.2.1
 have hl_b_R_S:=hz1.2.2.2.1
 have hl_b_R_V_S:=hz1.2.2.2.2
 clear hp hb
 rw[Zv255 a b]
 obtain⟨aOp,aL,aR⟩:=a
 obtain⟨bOp,bL,bR⟩:=b
 repeat' (apply if_cond<;>intro _)
 all_goals (first|apply Lf_t|apply Lf_f)<;>simp_all
def Zh255:HH:=⟨_,Zo255⟩
def Zk233:Con UU where
 α:=(List DExpr)×Int
 md:=[.ro,.ro]
 of:=oC (oL .lExpr) (o1 oI)
 ds:=fun x=>[dL .lExpr x.1,dI x.2]
 pre:=fun(a,left)=>[0≤left]
 res:=fun(a,left)=>⟨[.one (.lit (.int .i64 (szr left (sizeExprS a))))],true,[]⟩
 law:=lC (lL .lExpr) (l1 lI)
def Zi233_5(a:(List DExpr))(left:Int):Int×Int×Unit→Prop:=szI sizeExpr a (sizeExprS a) left
def Zm233_5(a:(List DExpr))(left:Int):Int×Int×Unit→Nat:=rM2 a
def Za233:Zk233.α→Nat→Option (Ann UU):=fun(a,left)=>annL [(5,annOf [.slot 1 (1,1024) (.lit (.int .i64)),.slot 5 (5,1024) (.lit (.int .i64))] (fun _=>Zi233_5 a left) (Zm233_5 a left))]
def Zu233:=us [Zh250]
theorem Zv233(a:(List DExpr))(left:Int):goal EE Zu233 Go.Proofs.Tryz.f233 Zk233 Za233 (a,left)=(szV sizeExpr zExpr a (sizeExprS a) left):=by kernel_rfl
theorem Zo233:Holds EE (233,Zk233):=by
 refine holds_of EE_ok Go.Proofs.Tryz.func233 Zk233 (by kernel_rfl) Zu233 (us_ok _) Za233 (fun x hp hb=> ?_)
 obtain⟨a,left⟩:=x
 have hl_a:a.length≤9223372036854775807:=bdL (hb _ m0)
 have hl_left:=bdI (n:=left) (hb _ m1)
 have hp0:0≤left:=hp _ m0
 clear hp hb
 rw[Zv233 a left]
 exact szV_ok rfl hp0 hl_left hl_a
def Zh233:HH:=⟨_,Zo233⟩
def Zk238:Con UU where
 α:=(List DExpr)
 md:=[.ro]
 of:=o1 (oL .lExpr)
 ds:=fun x=>[dL .lExpr x]
 pre:=fun a=>[sizeExprS a≤4294967296]
 res:=fun a=>⟨[.one (.sl .eExpr a)],true,[]⟩
 law:=l1 (lL .lExpr)
def Zi238_3(a:(List DExpr)):List DExpr×Int×Unit→Prop:=toI zExpr a
def Zm238_3(a:(List DExpr)):List DExpr×Int×Unit→Nat:=rM2 a
def Za238:Zk238.α→Nat→Option (Ann UU):=fun a=>annL [(3,annOf [.slot 3 (3,1024) (.own .eExpr true),.slot 4 (4,1024) (.lit (.int .i64))] (fun _=>Zi238_3 a) (Zm238_3 a))]
def Zu238:=us [Zh253]
theorem Zv238(a:(List DExpr)):goal EE Zu238 Go.Proofs.Tryz.f238 Zk238 Za238 a=(toV sizeExpr zExpr a fun y=>Lf [.one (.sl .eExpr y)] [.one (.sl .eExpr a)]):=by kernel_rfl
theorem Zo238:Holds EE (238,Zk238):=by
 refine holds_of EE_ok Go.Proofs.Tryz.func238 Zk238 (by kernel_rfl) Zu238 (us_ok _) Za238 (fun(a:(List DExpr)) hp hb=> ?_)
 have hl_a:a.length≤9223372036854775807:=bdL (hb _ m0)
 have hp0:sizeExprS a≤4294967296:=hp _ m0
 clear hp hb
 rw[Zv238 a]
 exact toV_ok hp0 (Lf_rfl _)
def Zh238:HH:=⟨_,Zo238⟩
def Zk244:Con UU where
 α:=(List DExpr)×(List DExpr)
 md:=[.ro,.ro]
 of:=oC (oL .eExpr) (o1 (oL .eExpr))
 ds:=fun x=>[dL .eExpr x.1,dL .eExpr x.2]
 pre:=fun _=>[]
 res:=fun(a,b)=>⟨[.one (.lit (.bool (decide (a=b))))],true,[]⟩
 law:=lC (lL .eExpr) (l1 (lL .eExpr))
def Zi244_4(a:(List DExpr))(b:(List DExpr)):Int×Unit→Prop:=eqI a b
def Zm244_4(a:(List DExpr))(b:(List DExpr)):Int×Unit→Nat:=rM1 a
def Za244:Zk244.α→Nat→Option (Ann UU):=fun(a,b)=>annL [(4,annOf [.slot 5 (5,1024) (.lit (.int .i64))] (fun _=>Zi244_4 a b) (Zm244_4 a b))]
def Zu244:=us [Zh255]
theorem Zv244(a:(List DExpr))(b:(List DExpr)):goal EE Zu244 Go.Proofs.Tryz.f244 Zk244 Za244 (a,b)=(eqV zExpr a b):=by kernel_rfl
theorem Zo244:Holds EE (244,Zk244):=by
 refine holds_of EE_ok Go.Proofs.Tryz.func244 Zk244 (by kernel_rfl) Zu244 (us_ok _) Za244 (fun x hp hb=> ?_)
 obtain⟨a,b⟩:=x
 have hl_a:a.length≤9223372036854775807:=bdL (hb _ m0)
 have hl_b:b.length≤9223372036854775807:=bdL (hb _ m1)
 clear hp hb
 rw[Zv244 a b]
 exact eqV_ok hl_a
def Zh244:HH:=⟨_,Zo244⟩
def Zk203:Con UU where
 α:=DAct×Int
 md:=[.ro,.ro]
 of:=oC (oA .lAct) (o1 oI)
 ds:=fun x=>[dA .lAct x.1,dI x.2]
 pre:=fun(a,left)=>[0≤left]
 res:=fun(a,left)=>⟨[.one (.lit (.int .i64 (szr left (sizeAct a))))],true,[]⟩
 law:=lC (lA .lAct) (l1 lI)
def Za203:Zk203.α→Nat→Option (Ann UU):=fun(a,left)=>annL []
def Zu203:=us [Zh233]
theorem Zv203(a:DAct)(left:Int):goal EE Zu203 Go.Proofs.Tryz.f203 Zk203 Za203 (a,left)=(let x1:Int:=IntKind.wrap IntKind.i64 (left-(↑(ByteArray.size a.Name):Int));
let x0:Int:=IntKind.wrap IntKind.i64 (szr x1 (sizeExprS a.Args)-(↑(ByteArray.size a.Undo):Int));
bif decide (x1<(0:Int)) then Lf [DV.one (Cell.lit (Value.int IntKind.i64 (-1:Int)))] [DV.one (Cell.lit (Value.int IntKind.i64 (szr left (sizeAct a))))] else(0:Int)≤x1∧bif decide (szr x1 (sizeExprS a.Args)<(0:Int)) then Lf [DV.one (Cell.lit (Value.int IntKind.i64 (-1:Int)))] [DV.one (Cell.lit (Value.int IntKind.i64 (szr left (sizeAct a))))] else bif decide (x0<(0:Int)) then Lf [DV.one (Cell.lit (Value.int IntKind.i64 (-1:Int)))] [DV.one (Cell.lit (Value.int IntKind.i64 (szr left (sizeAct a))))] else Lf [DV.one (Cell.lit (Value.int IntKind.i64 x0))] [DV.one (Cell.lit (Value.int IntKind.i64 (szr left (sizeAct a))))]):=by kernel_rfl
theorem Zo203:Holds EE (203,Zk203):=by
 refine holds_of EE_ok Go.Proofs.Tryz.func203 Zk203 (by kernel_rfl) Zu203 (us_ok _) Za203 (fun x hp hb=> ?_)
 obtain⟨a,left⟩:=x
 have hz0:=bd_lAct (x:=a) (hb _ m0)
 have hl_a_Name:=hz0.1
 have hl_a_Args:=hz0.2.1
 have hl_a_Undo:=hz0.2.2
 have hl_left:=bdI (n:=left) (hb _ m1)
 have hp0:0≤left:=hp _ m0
 clear hp hb
 rw[Zv203 a left]
 dsimp only
 rw[wrap_i64 (by omega) (by omega)]
 refine if_cond (fun h=>Lf_i (szr_bad' ?_)) (fun h=> ?_)
 ·have h:=of_decide_eq_true h;simp only[sizeAct];omega
 have h0:=of_decide_eq_false h
 refine⟨by omega,if_cond (fun h=>Lf_i (szr_bad' ?_)) (fun h=> ?_)⟩
 ·have h:=szr_neg h;simp only[sizeAct];omega
 obtain⟨e1,h1⟩:=szr_pos h
 rw[e1]
 rw[wrap_i64 (by omega) (by omega)]
 refine if_cond (fun h=>Lf_i (szr_bad' ?_)) (fun h=> ?_)
 ·have h:=of_decide_eq_true h;simp only[sizeAct];omega
 have h2:=of_decide_eq_false h
 exact Lf_i (by rw[←szr_ok' (by simp only[sizeAct];omega)];simp only[sizeAct];try omega)
def Zh203:HH:=⟨_,Zo203⟩
def Zk214:Con UU where
 α:=DAct
 md:=[.ro]
 of:=o1 (oA .lAct)
 ds:=fun x=>[dA .lAct x]
 pre:=fun a=>[sizeAct a≤4294967296]
 res:=fun a=>⟨[.agg [.lit (.int .i64 a.Kind),.lit (.string a.Name),.sl .eExpr a.Args,.lit (.int .i64 a.N),.lit (.string a.Undo)]],true,[]⟩
 law:=l1 (lA .lAct)
def Za214:Zk214.α→Nat→Option (Ann UU):=fun a=>annL []
def Zu214:=us [Zh238]
theorem Zv214(a:DAct):goal EE Zu214 Go.Proofs.Tryz.f214 Zk214 Za214 a=(sizeExprS a.Args≤(4294967296:Nat)∧Lf [DV.agg [Cell.lit (Value.int IntKind.i64 a.Kind),Cell.lit (Value.string a.Name),Cell.sl Cd.eExpr a.Args,Cell.lit (Value.int IntKind.i64 a.N),Cell.lit (Value.string a.Undo)]] [DV.agg [Cell.lit (Value.int IntKind.i64 a.Kind),Cell.lit (Value.string a.Name),Cell.sl Cd.eExpr a.Args,Cell.lit (Value.int IntKind.i64 a.N),Cell.lit (Value.string a.Undo)]]):=by kernel_rfl
theorem Zo214:Holds EE (214,Zk214):=by
 refine holds_of EE_ok Go.Proofs.Tryz.func214 Zk214 (by kernel_rfl) Zu214 (us_ok _) Za214 (fun(a:DAct) hp hb=> ?_)
 have hz0:=bd_lAct (x:=a) (hb _ m0)
 have hl_a_Name:=hz0.1
 have hl_a_Args:=hz0.2.1
 have hl_a_Undo:=hz0.2.2
 have hp0:sizeAct a≤4294967296:=hp _ m0
 clear hp hb
 rw[Zv214 a]
 simp only[sizeAct] at hp0
 repeat' (first|exact Lf_rfl _|(refine And.intro (by omega) ?_))
def Zh214:HH:=⟨_,Zo214⟩
def Zk225:Con UU where
 α:=DAct×DAct
 md:=[.ro,.ro]
 of:=oC (oA .eAct) (o1 (oA .eAct))
 ds:=fun x=>[dA .eAct x.1,dA .eAct x.2]
 pre:=fun _=>[]
 res:=fun(a,b)=>⟨[.one (.lit (.bool (decide (a=b))))],true,[]⟩
 law:=lC (lA .eAct) (l1 (lA .eAct))
def Za225:Zk225.α→Nat→Option (Ann UU):=fun(a,b)=>annL []
def Zu225:=us [Zh244]
theorem Zv225(a:DAct)(b:DAct):goal EE Zu225 Go.Proofs.Tryz.f225 Zk225 Za225 (a,b)=(bif a.Kind !=b.Kind then Lb false (decide (a=b)) else bif !ByteArray.toList a.Name==ByteArray.toList b.Name then Lb false (decide (a=b)) else bif !decide (a.Args=b.Args) then Lb false (decide (a=b)) else bif a.N !=b.N then Lb false (decide (a=b)) else bif !ByteArray.toList a.Undo==ByteArray.toList b.Undo then Lb false (decide (a=b)) else Lb true (decide (a=b))):=by kernel_rfl
theorem Zo225:Holds EE (225,Zk225):=by
 refine holds_of EE_ok Go.Proofs.Tryz.func225 Zk225 (by kernel_rfl) Zu225 (us_ok _) Za225 (fun x hp hb=> ?_)
 obtain⟨a,b⟩:=x
 have hz0:=bd_eAct (x:=a) (hb _ m0)
 have hl_a_Name:=hz0.1
 have hl_a_Args:=hz0.2.1
 have hl_a_Undo:=hz0.2.2
 have hz1:=bd_eAct (x:=b) (hb _ m1)
 have hl_b_Name:=hz1.1
 have hl_b_Args:=hz1.2.1
 have hl_b_Undo:=hz1.2.2
 clear hp hb
 rw[Zv225 a b]
 obtain⟨aKind,aName,aArgs,aN,aUndo⟩:=a
 obtain⟨bKind,bName,bArgs,bN,bUndo⟩:=b
 repeat' (apply if_cond<;>intro _)
 all_goals (first|apply Lf_t|apply Lf_f)<;>simp_all
def Zh225:HH:=⟨_,Zo225⟩
def Zk155:Con UU where
 α:=(List DAct)×Int
 md:=[.ro,.ro]
 of:=oC (oL .lAct) (o1 oI)
 ds:=fun x=>[dL .lAct x.1,dI x.2]
 pre:=fun(a,left)=>[0≤left]
 res:=fun(a,left)=>⟨[.one (.lit (.int .i64 (szr left (sizeActS a))))],true,[]⟩
 law:=lC (lL .lAct) (l1 lI)
def Zi155_5(a:(List DAct))(left:Int):Int×Int×Unit→Prop:=szI sizeAct a (sizeActS a) left
def Zm155_5(a:(List DAct))(left:Int):Int×Int×Unit→Nat:=rM2 a
def Za155:Zk155.α→Nat→Option (Ann UU):=fun(a,left)=>annL [(5,annOf [.slot 1 (1,1024) (.lit (.int .i64)),.slot 5 (5,1024) (.lit (.int .i64))] (fun _=>Zi155_5 a left) (Zm155_5 a left))]
def Zu155:=us [Zh203]
theorem Zv155(a:(List DAct))(left:Int):goal EE Zu155 Go.Proofs.Tryz.f155 Zk155 Za155 (a,left)=(szV sizeAct zAct a (sizeActS a) left):=by kernel_rfl
theorem Zo155:Holds EE (155,Zk155):=by
 refine holds_of EE_ok Go.Proofs.Tryz.func155 Zk155 (by kernel_rfl) Zu155 (us_ok _) Za155 (fun x hp hb=> ?_)
 obtain⟨a,left⟩:=x
 have hl_a:a.length≤9223372036854775807:=bdL (hb _ m0)
 have hl_left:=bdI (n:=left) (hb _ m1)
 have hp0:0≤left:=hp _ m0
 clear hp hb
 rw[Zv155 a left]
 exact szV_ok rfl hp0 hl_left hl_a
def Zh155:HH:=⟨_,Zo155⟩
def Zk170:Con UU where
 α:=(List DAct)
 md:=[.ro]
 of:=o1 (oL .lAct)
 ds:=fun x=>[dL .lAct x]
 pre:=fun a=>[sizeActS a≤4294967296]
 res:=fun a=>⟨[.one (.sl .eAct a)],true,[]⟩
 law:=l1 (lL .lAct)
def Zi170_3(a:(List DAct)):List DAct×Int×Unit→Prop:=toI zAct a
def Zm170_3(a:(List DAct)):List DAct×Int×Unit→Nat:=rM2 a
def Za170:Zk170.α→Nat→Option (Ann UU):=fun a=>annL [(3,annOf [.slot 3 (3,1024) (.own .eAct true),.slot 4 (4,1024) (.lit (.int .i64))] (fun _=>Zi170_3 a) (Zm170_3 a))]
def Zu170:=us [Zh214]
theorem Zv170(a:(List DAct)):goal EE Zu170 Go.Proofs.Tryz.f170 Zk170 Za170 a=(toV sizeAct zAct a fun y=>Lf [.one (.sl .eAct y)] [.one (.sl .eAct a)]):=by kernel_rfl
theorem Zo170:Holds EE (170,Zk170):=by
 refine holds_of EE_ok Go.Proofs.Tryz.func170 Zk170 (by kernel_rfl) Zu170 (us_ok _) Za170 (fun(a:(List DAct)) hp hb=> ?_)
 have hl_a:a.length≤9223372036854775807:=bdL (hb _ m0)
 have hp0:sizeActS a≤4294967296:=hp _ m0
 clear hp hb
 rw[Zv170 a]
 exact toV_ok hp0 (Lf_rfl _)
def Zh170:HH:=⟨_,Zo170⟩
def Zk191:Con UU where
 α:=(List DAct)×(List DAct)
 md:=[.ro,.ro]
 of:=oC (oL .eAct) (o1 (oL .eAct))
 ds:=fun x=>[dL .eAct x.1,dL .eAct x.2]
 pre:=fun _=>[]
 res:=fun(a,b)=>⟨[.one (.lit (.bool (decide (a=b))))],true,[]⟩
 law:=lC (lL .eAct) (l1 (lL .eAct))
def Zi191_4(a:(List DAct))(b:(List DAct)):Int×Unit→Prop:=eqI a b
def Zm191_4(a:(List DAct))(b:(List DAct)):Int×Unit→Nat:=rM1 a
def Za191:Zk191.α→Nat→Option (Ann UU):=fun(a,b)=>annL [(4,annOf [.slot 5 (5,1024) (.lit (.int .i64))] (fun _=>Zi191_4 a b) (Zm191_4 a b))]
def Zu191:=us [Zh225]
theorem Zv191(a:(List DAct))(b:(List DAct)):goal EE Zu191 Go.Proofs.Tryz.f191 Zk191 Za191 (a,b)=(eqV zAct a b):=by kernel_rfl
theorem Zo191:Holds EE (191,Zk191):=by
 refine holds_of EE_ok Go.Proofs.Tryz.func191 Zk191 (by kernel_rfl) Zu191 (us_ok _) Za191 (fun x hp hb=> ?_)
 obtain⟨a,b⟩:=x
 have hl_a:a.length≤9223372036854775807:=bdL (hb _ m0)
 have hl_b:b.length≤9223372036854775807:=bdL (hb _ m1)
 clear hp hb
 rw[Zv191 a b]
 exact eqV_ok hl_a
def Zh191:HH:=⟨_,Zo191⟩
def Zk97:Con UU where
 α:=DRule×Int
 md:=[.ro,.ro]
 of:=oC (oA .lRule) (o1 oI)
 ds:=fun x=>[dA .lRule x.1,dI x.2]
 pre:=fun(a,left)=>[0≤left]
 res:=fun(a,left)=>⟨[.one (.lit (.int .i64 (szr left (sizeRule a))))],true,[]⟩
 law:=lC (lA .lRule) (l1 lI)
def Za97:Zk97.α→Nat→Option (Ann UU):=fun(a,left)=>annL []
def Zu97:=us [Zh153,Zh154,Zh155]
theorem Zv97(a:DRule)(left:Int):goal EE Zu97 Go.Proofs.Tryz.f97 Zk97 Za97 (a,left)=(let x2:Int:=IntKind.wrap IntKind.i64 (left-(↑(ByteArray.size a.Name):Int));
let x1:Int:=szr x2 (sizePatS a.Pats);
let x0:Int:=szr x1 (sizeCondS a.Conds);
bif decide (x2<(0:Int)) then Lf [DV.one (Cell.lit (Value.int IntKind.i64 (-1:Int)))] [DV.one (Cell.lit (Value.int IntKind.i64 (szr left (sizeRule a))))] else(0:Int)≤x2∧bif decide (x1<(0:Int)) then Lf [DV.one (Cell.lit (Value.int IntKind.i64 (-1:Int)))] [DV.one (Cell.lit (Value.int IntKind.i64 (szr left (sizeRule a))))] else(0:Int)≤x1∧bif decide (x0<(0:Int)) then Lf [DV.one (Cell.lit (Value.int IntKind.i64 (-1:Int)))] [DV.one (Cell.lit (Value.int IntKind.i64 (szr left (sizeRule a))))] else(0:Int)≤x0∧bif decide (szr x0 (sizeActS a.Acts)<(0:Int)) then Lf [DV.one (Cell.lit (Value.int IntKind.i64 (-1:Int)))] [DV.one (Cell.lit (Value.int IntKind.i64 (szr left (sizeRule a))))] else Lf [DV.one (Cell.lit (Value.int IntKind.i64 (szr x0 (sizeActS a.Acts))))] [DV.one (Cell.lit (Value.int IntKind.i64 (szr left (sizeRule a))))]):=by kernel_rfl
theorem Zo97:Holds EE (97,Zk97):=by
 refine holds_of EE_ok Go.Proofs.Tryz.func97 Zk97 (by kernel_rfl) Zu97 (us_ok _) Za97 (fun x hp hb=> ?_)
 obtain⟨a,left⟩:=x
 have hz0:=bd_lRule (x:=a) (hb _ m0)
 have hl_a_Name:=hz0.1
 have hl_a_Pats:=hz0.2.1
 have hl_a_Conds:=hz0.2.2.1
 have hl_a_Acts:=hz0.2.2.2
 have hl_left:=bdI (n:=left) (hb _ m1)
 have hp0:0≤left:=hp _ m0
 clear hp hb
 rw[Zv97 a left]
 dsimp only
 rw[wrap_i64 (by omega) (by omega)]
 refine if_cond (fun h=>Lf_i (szr_bad' ?_)) (fun h=> ?_)
 ·have h:=of_decide_eq_true h;simp only[sizeRule];omega
 have h0:=of_decide_eq_false h
 refine⟨by omega,if_cond (fun h=>Lf_i (szr_bad' ?_)) (fun h=> ?_)⟩
 ·have h:=szr_neg h;simp only[sizeRule];omega
 obtain⟨e1,h1⟩:=szr_pos h
 rw[e1]
 refine⟨by omega,if_cond (fun h=>Lf_i (szr_bad' ?_)) (fun h=> ?_)⟩
 ·have h:=szr_neg h;simp only[sizeRule];omega
 obtain⟨e2,h2⟩:=szr_pos h
 rw[e2]
 refine⟨by omega,if_cond (fun h=>Lf_i (szr_bad' ?_)) (fun h=> ?_)⟩
 ·have h:=szr_neg h;simp only[sizeRule];omega
 obtain⟨e3,h3⟩:=szr_pos h
 rw[e3]
 exact Lf_i (by rw[←szr_ok' (by simp only[sizeRule];omega)];simp only[sizeRule];try omega)
def Zh97:HH:=⟨_,Zo97⟩
def Zk110:Con UU where
 α:=DRule
 md:=[.ro]
 of:=o1 (oA .lRule)
 ds:=fun x=>[dA .lRule x]
 pre:=fun a=>[sizeRule a≤4294967296]
 res:=fun a=>⟨[.agg [.lit (.string a.Name),.lit (.int .i64 a.Sal),.sl .ePat a.Pats,.sl .eCond a.Conds,.sl .eAct a.Acts]],true,[]⟩
 law:=l1 (lA .lRule)
def Za110:Zk110.α→Nat→Option (Ann UU):=fun a=>annL []
def Zu110:=us [Zh168,Zh169,Zh170]
theorem Zv110(a:DRule):goal EE Zu110 Go.Proofs.Tryz.f110 Zk110 Za110 a=(sizePatS a.Pats≤(4294967296:Nat)∧sizeCondS a.Conds≤(4294967296:Nat)∧sizeActS a.Acts≤(4294967296:Nat)∧Lf [DV.agg [Cell.lit (Value.string a.Name),Cell.lit (Value.int IntKind.i64 a.Sal),Cell.sl Cd.ePat a.Pats,Cell.sl Cd.eCond a.Conds,Cell.sl Cd.eAct a.Acts]] [DV.agg [Cell.lit (Value.string a.Name),Cell.lit (Value.int IntKind.i64 a.Sal),Cell.sl Cd.ePat a.Pats,Cell.sl Cd.eCond a.Conds,Cell.sl Cd.eAct a.Acts]]):=by kernel_rfl
theorem Zo110:Holds EE (110,Zk110):=by
 refine holds_of EE_ok Go.Proofs.Tryz.func110 Zk110 (by kernel_rfl) Zu110 (us_ok _) Za110 (fun(a:DRule) hp hb=> ?_)
 have hz0:=bd_lRule (x:=a) (hb _ m0)
 have hl_a_Name:=hz0.1
 have hl_a_Pats:=hz0.2.1
 have hl_a_Conds:=hz0.2.2.1
 have hl_a_Acts:=hz0.2.2.2
 have hp0:sizeRule a≤4294967296:=hp _ m0
 clear hp hb
 rw[Zv110 a]
 simp only[sizeRule] at hp0
 repeat' (first|exact Lf_rfl _|(refine And.intro (by omega) ?_))
def Zh110:HH:=⟨_,Zo110⟩
def Zk128:Con UU where
 α:=DRule×DRule
 md:=[.ro,.ro]
 of:=oC (oA .eRule) (o1 (oA .eRule))
 ds:=fun x=>[dA .eRule x.1,dA .eRule x.2]
 pre:=fun _=>[]
 res:=fun(a,b)=>⟨[.one (.lit (.bool (decide (a=b))))],true,[]⟩
 law:=lC (lA .eRule) (l1 (lA .eRule))
def Za128:Zk128.α→Nat→Option (Ann UU):=fun(a,b)=>annL []
def Zu128:=us [Zh189,Zh190,Zh191]
theorem Zv128(a:DRule)(b:DRule):goal EE Zu128 Go.Proofs.Tryz.f128 Zk128 Za128 (a,b)=(bif !ByteArray.toList a.Name==ByteArray.toList b.Name then Lb false (decide (a=b)) else bif a.Sal !=b.Sal then Lb false (decide (a=b)) else bif !decide (a.Pats=b.Pats) then Lb false (decide (a=b)) else bif !decide (a.Conds=b.Conds) then Lb false (decide (a=b)) else bif !decide (a.Acts=b.Acts) then Lb false (decide (a=b)) else Lb true (decide (a=b))):=by kernel_rfl
theorem Zo128:Holds EE (128,Zk128):=by
 refine holds_of EE_ok Go.Proofs.Tryz.func128 Zk128 (by kernel_rfl) Zu128 (us_ok _) Za128 (fun x hp hb=> ?_)
 obtain⟨a,b⟩:=x
 have hz0:=bd_eRule (x:=a) (hb _ m0)
 have hl_a_Name:=hz0.1
 have hl_a_Pats:=hz0.2.1
 have hl_a_Conds:=hz0.2.2.1
 have hl_a_Acts:=hz0.2.2.2
 have hz1:=bd_eRule (x:=b) (hb _ m1)
 have hl_b_Name:=hz1.1
 have hl_b_Pats:=hz1.2.1
 have hl_b_Conds:=hz1.2.2.1
 have hl_b_Acts:=hz1.2.2.2
 clear hp hb
 rw[Zv128 a b]
 obtain⟨aName,aSal,aPats,aConds,aActs⟩:=a
 obtain⟨bName,bSal,bPats,bConds,bActs⟩:=b
 repeat' (apply if_cond<;>intro _)
 all_goals (first|apply Lf_t|apply Lf_f)<;>simp_all
def Zh128:HH:=⟨_,Zo128⟩
def Zk29:Con UU where
 α:=(List DRule)×Int
 md:=[.ro,.ro]
 of:=oC (oL .lRule) (o1 oI)
 ds:=fun x=>[dL .lRule x.1,dI x.2]
 pre:=fun(a,left)=>[0≤left]
 res:=fun(a,left)=>⟨[.one (.lit (.int .i64 (szr left (sizeRuleS a))))],true,[]⟩
 law:=lC (lL .lRule) (l1 lI)
def Zi29_5(a:(List DRule))(left:Int):Int×Int×Unit→Prop:=szI sizeRule a (sizeRuleS a) left
def Zm29_5(a:(List DRule))(left:Int):Int×Int×Unit→Nat:=rM2 a
def Za29:Zk29.α→Nat→Option (Ann UU):=fun(a,left)=>annL [(5,annOf [.slot 1 (1,1024) (.lit (.int .i64)),.slot 5 (5,1024) (.lit (.int .i64))] (fun _=>Zi29_5 a left) (Zm29_5 a left))]
def Zu29:=us [Zh97]
theorem Zv29(a:(List DRule))(left:Int):goal EE Zu29 Go.Proofs.Tryz.f29 Zk29 Za29 (a,left)=(szV sizeRule zRule a (sizeRuleS a) left):=by kernel_rfl
theorem Zo29:Holds EE (29,Zk29):=by
 refine holds_of EE_ok Go.Proofs.Tryz.func29 Zk29 (by kernel_rfl) Zu29 (us_ok _) Za29 (fun x hp hb=> ?_)
 obtain⟨a,left⟩:=x
 have hl_a:a.length≤9223372036854775807:=bdL (hb _ m0)
 have hl_left:=bdI (n:=left) (hb _ m1)
 have hp0:0≤left:=hp _ m0
 clear hp hb
 rw[Zv29 a left]
 exact szV_ok rfl hp0 hl_left hl_a
def Zh29:HH:=⟨_,Zo29⟩
def Zk45:Con UU where
 α:=(List DRule)
 md:=[.ro]
 of:=o1 (oL .lRule)
 ds:=fun x=>[dL .lRule x]
 pre:=fun a=>[sizeRuleS a≤4294967296]
 res:=fun a=>⟨[.one (.sl .eRule a)],true,[]⟩
 law:=l1 (lL .lRule)
def Zi45_3(a:(List DRule)):List DRule×Int×Unit→Prop:=toI zRule a
def Zm45_3(a:(List DRule)):List DRule×Int×Unit→Nat:=rM2 a
def Za45:Zk45.α→Nat→Option (Ann UU):=fun a=>annL [(3,annOf [.slot 3 (3,1024) (.own .eRule true),.slot 4 (4,1024) (.lit (.int .i64))] (fun _=>Zi45_3 a) (Zm45_3 a))]
def Zu45:=us [Zh110]
theorem Zv45(a:(List DRule)):goal EE Zu45 Go.Proofs.Tryz.f45 Zk45 Za45 a=(toV sizeRule zRule a fun y=>Lf [.one (.sl .eRule y)] [.one (.sl .eRule a)]):=by kernel_rfl
theorem Zo45:Holds EE (45,Zk45):=by
 refine holds_of EE_ok Go.Proofs.Tryz.func45 Zk45 (by kernel_rfl) Zu45 (us_ok _) Za45 (fun(a:(List DRule)) hp hb=> ?_)
 have hl_a:a.length≤9223372036854775807:=bdL (hb _ m0)
 have hp0:sizeRuleS a≤4294967296:=hp _ m0
 clear hp hb
 rw[Zv45 a]
 exact toV_ok hp0 (Lf_rfl _)
def Zh45:HH:=⟨_,Zo45⟩
def Zk62:Con UU where
 α:=(List DRule)×(List DRule)
 md:=[.ro,.ro]
 of:=oC (oL .eRule) (o1 (oL .eRule))
 ds:=fun x=>[dL .eRule x.1,dL .eRule x.2]
 pre:=fun _=>[]
 res:=fun(a,b)=>⟨[.one (.lit (.bool (decide (a=b))))],true,[]⟩
 law:=lC (lL .eRule) (l1 (lL .eRule))
def Zi62_4(a:(List DRule))(b:(List DRule)):Int×Unit→Prop:=eqI a b
def Zm62_4(a:(List DRule))(b:(List DRule)):Int×Unit→Nat:=rM1 a
def Za62:Zk62.α→Nat→Option (Ann UU):=fun(a,b)=>annL [(4,annOf [.slot 5 (5,1024) (.lit (.int .i64))] (fun _=>Zi62_4 a b) (Zm62_4 a b))]
def Zu62:=us [Zh128]
theorem Zv62(a:(List DRule))(b:(List DRule)):goal EE Zu62 Go.Proofs.Tryz.f62 Zk62 Za62 (a,b)=(eqV zRule a b):=by kernel_rfl
theorem Zo62:Holds EE (62,Zk62):=by
 refine holds_of EE_ok Go.Proofs.Tryz.func62 Zk62 (by kernel_rfl) Zu62 (us_ok _) Za62 (fun x hp hb=> ?_)
 obtain⟨a,b⟩:=x
 have hl_a:a.length≤9223372036854775807:=bdL (hb _ m0)
 have hl_b:b.length≤9223372036854775807:=bdL (hb _ m1)
 clear hp hb
 rw[Zv62 a b]
 exact eqV_ok hl_a
def Zh62:HH:=⟨_,Zo62⟩
def Zk6:Con UU where
 α:=DDef×Int
 md:=[.ro,.ro]
 of:=oC (oA .lDef) (o1 oI)
 ds:=fun x=>[dA .lDef x.1,dI x.2]
 pre:=fun(a,left)=>[0≤left]
 res:=fun(a,left)=>⟨[.one (.lit (.int .i64 (szr left (sizeDef a))))],true,[]⟩
 law:=lC (lA .lDef) (l1 lI)
def Za6:Zk6.α→Nat→Option (Ann UU):=fun(a,left)=>annL []
def Zu6:=us [Zh29]
theorem Zv6(a:DDef)(left:Int):goal EE Zu6 Go.Proofs.Tryz.f6 Zk6 Za6 (a,left)=(let x0:Int:=IntKind.wrap IntKind.i64 (left-(↑(ByteArray.size a.Name):Int));
bif decide (x0<(0:Int)) then Lf [DV.one (Cell.lit (Value.int IntKind.i64 (-1:Int)))] [DV.one (Cell.lit (Value.int IntKind.i64 (szr left (sizeDef a))))] else(0:Int)≤x0∧bif decide (szr x0 (sizeRuleS a.Rules)<(0:Int)) then Lf [DV.one (Cell.lit (Value.int IntKind.i64 (-1:Int)))] [DV.one (Cell.lit (Value.int IntKind.i64 (szr left (sizeDef a))))] else Lf [DV.one (Cell.lit (Value.int IntKind.i64 (szr x0 (sizeRuleS a.Rules))))] [DV.one (Cell.lit (Value.int IntKind.i64 (szr left (sizeDef a))))]):=by kernel_rfl
theorem Zo6:Holds EE (6,Zk6):=by
 refine holds_of EE_ok Go.Proofs.Tryz.func6 Zk6 (by kernel_rfl) Zu6 (us_ok _) Za6 (fun x hp hb=> ?_)
 obtain⟨a,left⟩:=x
 have hz0:=bd_lDef (x:=a) (hb _ m0)
 have hl_a_Name:=hz0.1
 have hl_a_Rules:=hz0.2
 have hl_left:=bdI (n:=left) (hb _ m1)
 have hp0:0≤left:=hp _ m0
 clear hp hb
 rw[Zv6 a left]
 dsimp only
 rw[wrap_i64 (by omega) (by omega)]
 refine if_cond (fun h=>Lf_i (szr_bad' ?_)) (fun h=> ?_)
 ·have h:=of_decide_eq_true h;simp only[sizeDef];omega
 have h0:=of_decide_eq_false h
 refine⟨by omega,if_cond (fun h=>Lf_i (szr_bad' ?_)) (fun h=> ?_)⟩
 ·have h:=szr_neg h;simp only[sizeDef];omega
 obtain⟨e1,h1⟩:=szr_pos h
 rw[e1]
 exact Lf_i (by rw[←szr_ok' (by simp only[sizeDef];omega)];simp only[sizeDef];try omega)
def Zh6:HH:=⟨_,Zo6⟩
def Zk9:Con UU where
 α:=DDef
 md:=[.ro]
 of:=o1 (oA .lDef)
 ds:=fun x=>[dA .lDef x]
 pre:=fun a=>[sizeDef a≤4294967296]
 res:=fun a=>⟨[.agg [.lit (.string a.Name),.sl .eRule a.Rules]],true,[]⟩
 law:=l1 (lA .lDef)
def Za9:Zk9.α→Nat→Option (Ann UU):=fun a=>annL []
def Zu9:=us [Zh45]
theorem Zv9(a:DDef):goal EE Zu9 Go.Proofs.Tryz.f9 Zk9 Za9 a=(sizeRuleS a.Rules≤(4294967296:Nat)∧Lf [DV.agg [Cell.lit (Value.string a.Name),Cell.sl Cd.eRule a.Rules]] [DV.agg [Cell.lit (Value.string a.Name),Cell.sl Cd.eRule a.Rules]]):=by kernel_rfl
theorem Zo9:Holds EE (9,Zk9):=by
 refine holds_of EE_ok Go.Proofs.Tryz.func9 Zk9 (by kernel_rfl) Zu9 (us_ok _) Za9 (fun(a:DDef) hp hb=> ?_)
 have hz0:=bd_lDef (x:=a) (hb _ m0)
 have hl_a_Name:=hz0.1
 have hl_a_Rules:=hz0.2
 have hp0:sizeDef a≤4294967296:=hp _ m0
 clear hp hb
 rw[Zv9 a]
 simp only[sizeDef] at hp0
 repeat' (first|exact Lf_rfl _|(refine And.intro (by omega) ?_))
def Zh9:HH:=⟨_,Zo9⟩
def Zk12:Con UU where
 α:=DDef×DDef
 md:=[.ro,.ro]
 of:=oC (oA .eDef) (o1 (oA .eDef))
 ds:=fun x=>[dA .eDef x.1,dA .eDef x.2]
 pre:=fun _=>[]
 res:=fun(a,b)=>⟨[.one (.lit (.bool (decide (a=b))))],true,[]⟩
 law:=lC (lA .eDef) (l1 (lA .eDef))
def Za12:Zk12.α→Nat→Option (Ann UU):=fun(a,b)=>annL []
def Zu12:=us [Zh62]
theorem Zv12(a:DDef)(b:DDef):goal EE Zu12 Go.Proofs.Tryz.f12 Zk12 Za12 (a,b)=(bif !ByteArray.toList a.Name==ByteArray.toList b.Name then Lb false (decide (a=b)) else bif !decide (a.Rules=b.Rules) then Lb false (decide (a=b)) else Lb true (decide (a=b))):=by kernel_rfl
theorem Zo12:Holds EE (12,Zk12):=by
 refine holds_of EE_ok Go.Proofs.Tryz.func12 Zk12 (by kernel_rfl) Zu12 (us_ok _) Za12 (fun x hp hb=> ?_)
 obtain⟨a,b⟩:=x
 have hz0:=bd_eDef (x:=a) (hb _ m0)
 have hl_a_Name:=hz0.1
 have hl_a_Rules:=hz0.2
 have hz1:=bd_eDef (x:=b) (hb _ m1)
 have hl_b_Name:=hz1.1
 have hl_b_Rules:=hz1.2
 clear hp hb
 rw[Zv12 a b]
 obtain⟨aName,aRules⟩:=a
 obtain⟨bName,bRules⟩:=b
 repeat' (apply if_cond<;>intro _)
 all_goals (first|apply Lf_t|apply Lf_f)<;>simp_all
def Zh12:HH:=⟨_,Zo12⟩
def Zk68:Con UU where
 α:=(List DDef)×Int
 md:=[.ro,.ro]
 of:=oC (oL .lDef) (o1 oI)
 ds:=fun x=>[dL .lDef x.1,dI x.2]
 pre:=fun(a,left)=>[0≤left]
 res:=fun(a,left)=>⟨[.one (.lit (.int .i64 (szr left (sizeDefS a))))],true,[]⟩
 law:=lC (lL .lDef) (l1 lI)
def Zi68_5(a:(List DDef))(left:Int):Int×Int×Unit→Prop:=szI sizeDef a (sizeDefS a) left
def Zm68_5(a:(List DDef))(left:Int):Int×Int×Unit→Nat:=rM2 a
def Za68:Zk68.α→Nat→Option (Ann UU):=fun(a,left)=>annL [(5,annOf [.slot 1 (1,1024) (.lit (.int .i64)),.slot 5 (5,1024) (.lit (.int .i64))] (fun _=>Zi68_5 a left) (Zm68_5 a left))]
def Zu68:=us [Zh6]
theorem Zv68(a:(List DDef))(left:Int):goal EE Zu68 Go.Proofs.Tryz.f68 Zk68 Za68 (a,left)=(szV sizeDef zDef a (sizeDefS a) left):=by kernel_rfl
theorem Zo68:Holds EE (68,Zk68):=by
 refine holds_of EE_ok Go.Proofs.Tryz.func68 Zk68 (by kernel_rfl) Zu68 (us_ok _) Za68 (fun x hp hb=> ?_)
 obtain⟨a,left⟩:=x
 have hl_a:a.length≤9223372036854775807:=bdL (hb _ m0)
 have hl_left:=bdI (n:=left) (hb _ m1)
 have hp0:0≤left:=hp _ m0
 clear hp hb
 rw[Zv68 a left]
 exact szV_ok rfl hp0 hl_left hl_a
def Zh68:HH:=⟨_,Zo68⟩
def Zk73:Con UU where
 α:=(List DDef)
 md:=[.ro]
 of:=o1 (oL .lDef)
 ds:=fun x=>[dL .lDef x]
 pre:=fun a=>[sizeDefS a≤4294967296]
 res:=fun a=>⟨[.one (.sl .eDef a)],true,[]⟩
 law:=l1 (lL .lDef)
def Zi73_3(a:(List DDef)):List DDef×Int×Unit→Prop:=toI zDef a
def Zm73_3(a:(List DDef)):List DDef×Int×Unit→Nat:=rM2 a
def Za73:Zk73.α→Nat→Option (Ann UU):=fun a=>annL [(3,annOf [.slot 3 (3,1024) (.own .eDef true),.slot 4 (4,1024) (.lit (.int .i64))] (fun _=>Zi73_3 a) (Zm73_3 a))]
def Zu73:=us [Zh9]
theorem Zv73(a:(List DDef)):goal EE Zu73 Go.Proofs.Tryz.f73 Zk73 Za73 a=(toV sizeDef zDef a fun y=>Lf [.one (.sl .eDef y)] [.one (.sl .eDef a)]):=by kernel_rfl
theorem Zo73:Holds EE (73,Zk73):=by
 refine holds_of EE_ok Go.Proofs.Tryz.func73 Zk73 (by kernel_rfl) Zu73 (us_ok _) Za73 (fun(a:(List DDef)) hp hb=> ?_)
 have hl_a:a.length≤9223372036854775807:=bdL (hb _ m0)
 have hp0:sizeDefS a≤4294967296:=hp _ m0
 clear hp hb
 rw[Zv73 a]
 exact toV_ok hp0 (Lf_rfl _)
def Zh73:HH:=⟨_,Zo73⟩
def Zk78:Con UU where
 α:=(List DDef)×(List DDef)
 md:=[.ro,.ro]
 of:=oC (oL .eDef) (o1 (oL .eDef))
 ds:=fun x=>[dL .eDef x.1,dL .eDef x.2]
 pre:=fun _=>[]
 res:=fun(a,b)=>⟨[.one (.lit (.bool (decide (a=b))))],true,[]⟩
 law:=lC (lL .eDef) (l1 (lL .eDef))
def Zi78_4(a:(List DDef))(b:(List DDef)):Int×Unit→Prop:=eqI a b
def Zm78_4(a:(List DDef))(b:(List DDef)):Int×Unit→Nat:=rM1 a
def Za78:Zk78.α→Nat→Option (Ann UU):=fun(a,b)=>annL [(4,annOf [.slot 5 (5,1024) (.lit (.int .i64))] (fun _=>Zi78_4 a b) (Zm78_4 a b))]
def Zu78:=us [Zh12]
theorem Zv78(a:(List DDef))(b:(List DDef)):goal EE Zu78 Go.Proofs.Tryz.f78 Zk78 Za78 (a,b)=(eqV zDef a b):=by kernel_rfl
theorem Zo78:Holds EE (78,Zk78):=by
 refine holds_of EE_ok Go.Proofs.Tryz.func78 Zk78 (by kernel_rfl) Zu78 (us_ok _) Za78 (fun x hp hb=> ?_)
 obtain⟨a,b⟩:=x
 have hl_a:a.length≤9223372036854775807:=bdL (hb _ m0)
 have hl_b:b.length≤9223372036854775807:=bdL (hb _ m1)
 clear hp hb
 rw[Zv78 a b]
 exact eqV_ok hl_a
def Zh78:HH:=⟨_,Zo78⟩
def Zk19:Con UU where
 α:=DMatch×Int
 md:=[.ro,.ro]
 of:=oC (oA .lMatch) (o1 oI)
 ds:=fun x=>[dA .lMatch x.1,dI x.2]
 pre:=fun(a,left)=>[0≤left]
 res:=fun(a,left)=>⟨[.one (.lit (.int .i64 (szr left (sizeMatch a))))],true,[]⟩
 law:=lC (lA .lMatch) (l1 lI)
def Za19:Zk19.α→Nat→Option (Ann UU):=fun(a,left)=>annL []
def Zu19:=us [Zh80,Zh81]
theorem Zv19(a:DMatch)(left:Int):goal EE Zu19 Go.Proofs.Tryz.f19 Zk19 Za19 (a,left)=(let x0:Int:=szr (szr left (sizeIntS a.Ids)) (sizeBindS a.Binds);
(0:Int)≤left∧bif decide (szr left (sizeIntS a.Ids)<(0:Int)) then Lf [DV.one (Cell.lit (Value.int IntKind.i64 (-1:Int)))] [DV.one (Cell.lit (Value.int IntKind.i64 (szr left (sizeMatch a))))] else(0:Int)≤szr left (sizeIntS a.Ids)∧bif decide (x0<(0:Int)) then Lf [DV.one (Cell.lit (Value.int IntKind.i64 (-1:Int)))] [DV.one (Cell.lit (Value.int IntKind.i64 (szr left (sizeMatch a))))] else Lf [DV.one (Cell.lit (Value.int IntKind.i64 x0))] [DV.one (Cell.lit (Value.int IntKind.i64 (szr left (sizeMatch a))))]):=by kernel_rfl
theorem Zo19:Holds EE (19,Zk19):=by
 refine holds_of EE_ok Go.Proofs.Tryz.func19 Zk19 (by kernel_rfl) Zu19 (us_ok _) Za19 (fun x hp hb=> ?_)
 obtain⟨a,left⟩:=x
 have hz0:=bd_lMatch (x:=a) (hb _ m0)
 have hl_a_Ids:=hz0.1
 have hl_a_Binds:=hz0.2
 have hl_left:=bdI (n:=left) (hb _ m1)
 have hp0:0≤left:=hp _ m0
 clear hp hb
 rw[Zv19 a left]
 dsimp only
 refine⟨by omega,if_cond (fun h=>Lf_i (szr_bad' ?_)) (fun h=> ?_)⟩
 ·have h:=szr_neg h;simp only[sizeMatch];omega
 obtain⟨e0,h0⟩:=szr_pos h
 rw[e0]
 refine⟨by omega,if_cond (fun h=>Lf_i (szr_bad' ?_)) (fun h=> ?_)⟩
 ·have h:=szr_neg h;simp only[sizeMatch];omega
 obtain⟨e1,h1⟩:=szr_pos h
 rw[e1]
 exact Lf_i (by rw[←szr_ok' (by simp only[sizeMatch];omega)];simp only[sizeMatch];try omega)
def Zh19:HH:=⟨_,Zo19⟩
def Zk21:Con UU where
 α:=DMatch
 md:=[.ro]
 of:=o1 (oA .lMatch)
 ds:=fun x=>[dA .lMatch x]
 pre:=fun a=>[sizeMatch a≤4294967296]
 res:=fun a=>⟨[.agg [.lit (.int .i64 a.Rule),.sl .int a.Ids,.sl .eBind a.Binds]],true,[]⟩
 law:=l1 (lA .lMatch)
def Za21:Zk21.α→Nat→Option (Ann UU):=fun a=>annL []
def Zu21:=us [Zh85,Zh86]
theorem Zv21(a:DMatch):goal EE Zu21 Go.Proofs.Tryz.f21 Zk21 Za21 a=(sizeIntS a.Ids≤(4294967296:Nat)∧sizeBindS a.Binds≤(4294967296:Nat)∧Lf [DV.agg [Cell.lit (Value.int IntKind.i64 a.Rule),Cell.sl Cd.int a.Ids,Cell.sl Cd.eBind a.Binds]] [DV.agg [Cell.lit (Value.int IntKind.i64 a.Rule),Cell.sl Cd.int a.Ids,Cell.sl Cd.eBind a.Binds]]):=by kernel_rfl
theorem Zo21:Holds EE (21,Zk21):=by
 refine holds_of EE_ok Go.Proofs.Tryz.func21 Zk21 (by kernel_rfl) Zu21 (us_ok _) Za21 (fun(a:DMatch) hp hb=> ?_)
 have hz0:=bd_lMatch (x:=a) (hb _ m0)
 have hl_a_Ids:=hz0.1
 have hl_a_Binds:=hz0.2
 have hp0:sizeMatch a≤4294967296:=hp _ m0
 clear hp hb
 rw[Zv21 a]
 simp only[sizeMatch] at hp0
 repeat' (first|exact Lf_rfl _|(refine And.intro (by omega) ?_))
def Zh21:HH:=⟨_,Zo21⟩
def Zk24:Con UU where
 α:=DMatch×DMatch
 md:=[.ro,.ro]
 of:=oC (oA .eMatch) (o1 (oA .eMatch))
 ds:=fun x=>[dA .eMatch x.1,dA .eMatch x.2]
 pre:=fun _=>[]
 res:=fun(a,b)=>⟨[.one (.lit (.bool (decide (a=b))))],true,[]⟩
 law:=lC (lA .eMatch) (l1 (lA .eMatch))
def Za24:Zk24.α→Nat→Option (Ann UU):=fun(a,b)=>annL []
def Zu24:=us [Zh89,Zh90]
theorem Zv24(a:DMatch)(b:DMatch):goal EE Zu24 Go.Proofs.Tryz.f24 Zk24 Za24 (a,b)=(bif a.Rule !=b.Rule then Lb false (decide (a=b)) else bif !decide (a.Ids=b.Ids) then Lb false (decide (a=b)) else bif !decide (a.Binds=b.Binds) then Lb false (decide (a=b)) else Lb true (decide (a=b))):=by kernel_rfl
theorem Zo24:Holds EE (24,Zk24):=by
 refine holds_of EE_ok Go.Proofs.Tryz.func24 Zk24 (by kernel_rfl) Zu24 (us_ok _) Za24 (fun x hp hb=> ?_)
 obtain⟨a,b⟩:=x
 have hz0:=bd_eMatch (x:=a) (hb _ m0)
 have hl_a_Ids:=hz0.1
 have hl_a_Binds:=hz0.2
 have hz1:=bd_eMatch (x:=b) (hb _ m1)
 have hl_b_Ids:=hz1.1
 have hl_b_Binds:=hz1.2
 clear hp hb
 rw[Zv24 a b]
 obtain⟨aRule,aIds,aBinds⟩:=a
 obtain⟨bRule,bIds,bBinds⟩:=b
 repeat' (apply if_cond<;>intro _)
 all_goals (first|apply Lf_t|apply Lf_f)<;>simp_all
def Zh24:HH:=⟨_,Zo24⟩
def Zk31:Con UU where
 α:=(List DMatch)×Int
 md:=[.ro,.ro]
 of:=oC (oL .lMatch) (o1 oI)
 ds:=fun x=>[dL .lMatch x.1,dI x.2]
 pre:=fun(a,left)=>[0≤left]
 res:=fun(a,left)=>⟨[.one (.lit (.int .i64 (szr left (sizeMatchS a))))],true,[]⟩
 law:=lC (lL .lMatch) (l1 lI)
def Zi31_5(a:(List DMatch))(left:Int):Int×Int×Unit→Prop:=szI sizeMatch a (sizeMatchS a) left
def Zm31_5(a:(List DMatch))(left:Int):Int×Int×Unit→Nat:=rM2 a
def Za31:Zk31.α→Nat→Option (Ann UU):=fun(a,left)=>annL [(5,annOf [.slot 1 (1,1024) (.lit (.int .i64)),.slot 5 (5,1024) (.lit (.int .i64))] (fun _=>Zi31_5 a left) (Zm31_5 a left))]
def Zu31:=us [Zh19]
theorem Zv31(a:(List DMatch))(left:Int):goal EE Zu31 Go.Proofs.Tryz.f31 Zk31 Za31 (a,left)=(szV sizeMatch zMatch a (sizeMatchS a) left):=by kernel_rfl
theorem Zo31:Holds EE (31,Zk31):=by
 refine holds_of EE_ok Go.Proofs.Tryz.func31 Zk31 (by kernel_rfl) Zu31 (us_ok _) Za31 (fun x hp hb=> ?_)
 obtain⟨a,left⟩:=x
 have hl_a:a.length≤9223372036854775807:=bdL (hb _ m0)
 have hl_left:=bdI (n:=left) (hb _ m1)
 have hp0:0≤left:=hp _ m0
 clear hp hb
 rw[Zv31 a left]
 exact szV_ok rfl hp0 hl_left hl_a
def Zh31:HH:=⟨_,Zo31⟩
def Zk47:Con UU where
 α:=(List DMatch)
 md:=[.ro]
 of:=o1 (oL .lMatch)
 ds:=fun x=>[dL .lMatch x]
 pre:=fun a=>[sizeMatchS a≤4294967296]
 res:=fun a=>⟨[.one (.sl .eMatch a)],true,[]⟩
 law:=l1 (lL .lMatch)
def Zi47_3(a:(List DMatch)):List DMatch×Int×Unit→Prop:=toI zMatch a
def Zm47_3(a:(List DMatch)):List DMatch×Int×Unit→Nat:=rM2 a
def Za47:Zk47.α→Nat→Option (Ann UU):=fun a=>annL [(3,annOf [.slot 3 (3,1024) (.own .eMatch true),.slot 4 (4,1024) (.lit (.int .i64))] (fun _=>Zi47_3 a) (Zm47_3 a))]
def Zu47:=us [Zh21]
theorem Zv47(a:(List DMatch)):goal EE Zu47 Go.Proofs.Tryz.f47 Zk47 Za47 a=(toV sizeMatch zMatch a fun y=>Lf [.one (.sl .eMatch y)] [.one (.sl .eMatch a)]):=by kernel_rfl
theorem Zo47:Holds EE (47,Zk47):=by
 refine holds_of EE_ok Go.Proofs.Tryz.func47 Zk47 (by kernel_rfl) Zu47 (us_ok _) Za47 (fun(a:(List DMatch)) hp hb=> ?_)
 have hl_a:a.length≤9223372036854775807:=bdL (hb _ m0)
 have hp0:sizeMatchS a≤4294967296:=hp _ m0
 clear hp hb
 rw[Zv47 a]
 exact toV_ok hp0 (Lf_rfl _)
def Zh47:HH:=⟨_,Zo47⟩
def Zk64:Con UU where
 α:=(List DMatch)×(List DMatch)
 md:=[.ro,.ro]
 of:=oC (oL .eMatch) (o1 (oL .eMatch))
 ds:=fun x=>[dL .eMatch x.1,dL .eMatch x.2]
 pre:=fun _=>[]
 res:=fun(a,b)=>⟨[.one (.lit (.bool (decide (a=b))))],true,[]⟩
 law:=lC (lL .eMatch) (l1 (lL .eMatch))
def Zi64_4(a:(List DMatch))(b:(List DMatch)):Int×Unit→Prop:=eqI a b
def Zm64_4(a:(List DMatch))(b:(List DMatch)):Int×Unit→Nat:=rM1 a
def Za64:Zk64.α→Nat→Option (Ann UU):=fun(a,b)=>annL [(4,annOf [.slot 5 (5,1024) (.lit (.int .i64))] (fun _=>Zi64_4 a b) (Zm64_4 a b))]
def Zu64:=us [Zh24]
theorem Zv64(a:(List DMatch))(b:(List DMatch)):goal EE Zu64 Go.Proofs.Tryz.f64 Zk64 Za64 (a,b)=(eqV zMatch a b):=by kernel_rfl
theorem Zo64:Holds EE (64,Zk64):=by
 refine holds_of EE_ok Go.Proofs.Tryz.func64 Zk64 (by kernel_rfl) Zu64 (us_ok _) Za64 (fun x hp hb=> ?_)
 obtain⟨a,b⟩:=x
 have hl_a:a.length≤9223372036854775807:=bdL (hb _ m0)
 have hl_b:b.length≤9223372036854775807:=bdL (hb _ m1)
 clear hp hb
 rw[Zv64 a b]
 exact eqV_ok hl_a
def Zh64:HH:=⟨_,Zo64⟩
def Zk7:Con UU where
 α:=DInst×Int
 md:=[.ro,.ro]
 of:=oC (oA .lInst) (o1 oI)
 ds:=fun x=>[dA .lInst x.1,dI x.2]
 pre:=fun(a,left)=>[0≤left]
 res:=fun(a,left)=>⟨[.one (.lit (.int .i64 (szr left (sizeInst a))))],true,[]⟩
 law:=lC (lA .lInst) (l1 lI)
def Za7:Zk7.α→Nat→Option (Ann UU):=fun(a,left)=>annL []
def Zu7:=us [Zh30,Zh31,Zh32,Zh33,Zh34]
theorem Zv7(a:DInst)(left:Int):goal EE Zu7 Go.Proofs.Tryz.f7 Zk7 Za7 (a,left)=(let x2:Int:=szr (szr left (sizeStore a.S)) (sizeMatchS a.Fired);
let x1:Int:=szr x2 (sizeTaskS a.Tasks);
let x0:Int:=szr x1 (sizeTimerS a.Timers);
(0:Int)≤left∧bif decide (szr left (sizeStore a.S)<(0:Int)) then Lf [DV.one (Cell.lit (Value.int IntKind.i64 (-1:Int)))] [DV.one (Cell.lit (Value.int IntKind.i64 (szr left (sizeInst a))))] else(0:Int)≤szr left (sizeStore a.S)∧bif decide (x2<(0:Int)) then Lf [DV.one (Cell.lit (Value.int IntKind.i64 (-1:Int)))] [DV.one (Cell.lit (Value.int IntKind.i64 (szr left (sizeInst a))))] else(0:Int)≤x2∧bif decide (x1<(0:Int)) then Lf [DV.one (Cell.lit (Value.int IntKind.i64 (-1:Int)))] [DV.one (Cell.lit (Value.int IntKind.i64 (szr left (sizeInst a))))] else(0:Int)≤x1∧bif decide (x0<(0:Int)) then Lf [DV.one (Cell.lit (Value.int IntKind.i64 (-1:Int)))] [DV.one (Cell.lit (Value.int IntKind.i64 (szr left (sizeInst a))))] else(0:Int)≤x0∧bif decide (szr x0 (sizeUndoS a.Undos)<(0:Int)) then Lf [DV.one (Cell.lit (Value.int IntKind.i64 (-1:Int)))] [DV.one (Cell.lit (Value.int IntKind.i64 (szr left (sizeInst a))))] else Lf [DV.one (Cell.lit (Value.int IntKind.i64 (szr x0 (sizeUndoS a.Undos))))] [DV.one (Cell.lit (Value.int IntKind.i64 (szr left (sizeInst a))))]):=by kernel_rfl
theorem Zo7:Holds EE (7,Zk7):=by
 refine holds_of EE_ok Go.Proofs.Tryz.func7 Zk7 (by kernel_rfl) Zu7 (us_ok _) Za7 (fun x hp hb=> ?_)
 obtain⟨a,left⟩:=x
 have hz0:=bd_lInst (x:=a) (hb _ m0)
 have hl_a_S_Items:=hz0.1
 have hl_a_Fired:=hz0.2.1
 have hl_a_Tasks:=hz0.2.2.1
 have hl_a_Timers:=hz0.2.2.2.1
 have hl_a_Undos:=hz0.2.2.2.2
 have hl_left:=bdI (n:=left) (hb _ m1)
 have hp0:0≤left:=hp _ m0
 clear hp hb
 rw[Zv7 a left]
 dsimp only
 refine⟨by omega,if_cond (fun h=>Lf_i (szr_bad' ?_)) (fun h=> ?_)⟩
 ·have h:=szr_neg h;simp only[sizeInst];omega
 obtain⟨e0,h0⟩:=szr_pos h
 rw[e0]
 refine⟨by omega,if_cond (fun h=>Lf_i (szr_bad' ?_)) (fun h=> ?_)⟩
 ·have h:=szr_neg h;simp only[sizeInst];omega
 obtain⟨e1,h1⟩:=szr_pos h
 rw[e1]
 refine⟨by omega,if_cond (fun h=>Lf_i (szr_bad' ?_)) (fun h=> ?_)⟩
 ·have h:=szr_neg h;simp only[sizeInst];omega
 obtain⟨e2,h2⟩:=szr_pos h
 rw[e2]
 refine⟨by omega,if_cond (fun h=>Lf_i (szr_bad' ?_)) (fun h=> ?_)⟩
 ·have h:=szr_neg h;simp only[sizeInst];omega
 obtain⟨e3,h3⟩:=szr_pos h
 rw[e3]
 refine⟨by omega,if_cond (fun h=>Lf_i (szr_bad' ?_)) (fun h=> ?_)⟩
 ·have h:=szr_neg h;simp only[sizeInst];omega
 obtain⟨e4,h4⟩:=szr_pos h
 rw[e4]
 exact Lf_i (by rw[←szr_ok' (by simp only[sizeInst];omega)];simp only[sizeInst];try omega)
def Zh7:HH:=⟨_,Zo7⟩
def Zk10:Con UU where
 α:=DInst
 md:=[.ro]
 of:=o1 (oA .lInst)
 ds:=fun x=>[dA .lInst x]
 pre:=fun a=>[sizeInst a≤4294967296]
 res:=fun a=>⟨[.agg [.sl .eItem a.S.Items,.lit (.int .i64 a.S.Next),.sl .eMatch a.Fired,.sl .eTask a.Tasks,.sl .eTimer a.Timers,.sl .eUndo a.Undos,.lit (.int .i64 a.State),.lit (.int .i64 a.Now)]],true,[]⟩
 law:=l1 (lA .lInst)
def Za10:Zk10.α→Nat→Option (Ann UU):=fun a=>annL []
def Zu10:=us [Zh46,Zh47,Zh48,Zh49,Zh50]
theorem Zv10(a:DInst):goal EE Zu10 Go.Proofs.Tryz.f10 Zk10 Za10 a=(sizeStore a.S≤(4294967296:Nat)∧sizeMatchS a.Fired≤(4294967296:Nat)∧sizeTaskS a.Tasks≤(4294967296:Nat)∧sizeTimerS a.Timers≤(4294967296:Nat)∧sizeUndoS a.Undos≤(4294967296:Nat)∧Lf [DV.agg [Cell.sl Cd.eItem a.S.Items,Cell.lit (Value.int IntKind.i64 a.S.Next),Cell.sl Cd.eMatch a.Fired,Cell.sl Cd.eTask a.Tasks,Cell.sl Cd.eTimer a.Timers,Cell.sl Cd.eUndo a.Undos,Cell.lit (Value.int IntKind.i64 a.State),Cell.lit (Value.int IntKind.i64 a.Now)]] [DV.agg [Cell.sl Cd.eItem a.S.Items,Cell.lit (Value.int IntKind.i64 a.S.Next),Cell.sl Cd.eMatch a.Fired,Cell.sl Cd.eTask a.Tasks,Cell.sl Cd.eTimer a.Timers,Cell.sl Cd.eUndo a.Undos,Cell.lit (Value.int IntKind.i64 a.State),Cell.lit (Value.int IntKind.i64 a.Now)]]):=by kernel_rfl
theorem Zo10:Holds EE (10,Zk10):=by
 refine holds_of EE_ok Go.Proofs.Tryz.func10 Zk10 (by kernel_rfl) Zu10 (us_ok _) Za10 (fun(a:DInst) hp hb=> ?_)
 have hz0:=bd_lInst (x:=a) (hb _ m0)
 have hl_a_S_Items:=hz0.1
 have hl_a_Fired:=hz0.2.1
 have hl_a_Tasks:=hz0.2.2.1
 have hl_a_Timers:=hz0.2.2.2.1
 have hl_a_Undos:=hz0.2.2.2.2
 have hp0:sizeInst a≤4294967296:=hp _ m0
 clear hp hb
 rw[Zv10 a]
 simp only[sizeInst] at hp0
 repeat' (first|exact Lf_rfl _|(refine And.intro (by omega) ?_))
def Zh10:HH:=⟨_,Zo10⟩
def Zk13:Con UU where
 α:=DInst×DInst
 md:=[.ro,.ro]
 of:=oC (oA .eInst) (o1 (oA .eInst))
 ds:=fun x=>[dA .eInst x.1,dA .eInst x.2]
 pre:=fun _=>[]
 res:=fun(a,b)=>⟨[.one (.lit (.bool (decide (a=b))))],true,[]⟩
 law:=lC (lA .eInst) (l1 (lA .eInst))
def Za13:Zk13.α→Nat→Option (Ann UU):=fun(a,b)=>annL []
def Zu13:=us [Zh63,Zh64,Zh65,Zh66,Zh67]
theorem Zv13(a:DInst)(b:DInst):goal EE Zu13 Go.Proofs.Tryz.f13 Zk13 Za13 (a,b)=(bif !decide (a.S=b.S) then Lb false (decide (a=b)) else bif !decide (a.Fired=b.Fired) then Lb false (decide (a=b)) else bif !decide (a.Tasks=b.Tasks) then Lb false (decide (a=b)) else bif !decide (a.Timers=b.Timers) then Lb false (decide (a=b)) else bif !decide (a.Undos=b.Undos) then Lb false (decide (a=b)) else bif a.State !=b.State then Lb false (decide (a=b)) else bif a.Now !=b.Now then Lb false (decide (a=b)) else Lb true (decide (a=b))):=by kernel_rfl
theorem Zo13:Holds EE (13,Zk13):=by
 refine holds_of EE_ok Go.Proofs.Tryz.func13 Zk13 (by kernel_rfl) Zu13 (us_ok _) Za13 (fun x hp hb=> ?_)
 obtain⟨a,b⟩:=x
 have hz0:=bd_eInst (x:=a) (hb _ m0)
 have hl_a_S_Items:=hz0.1
 have hl_a_Fired:=hz0.2.1
 have hl_a_Tasks:=hz0.2.2.1
 have hl_a_Timers:=hz0.2.2.2.1
 have hl_a_Undos:=hz0.2.2.2.2
 have hz1:=bd_eInst (x:=b) (hb _ m1)
 have hl_b_S_Items:=hz1.1
 have hl_b_Fired:=hz1.2.1
 have hl_b_Tasks:=hz1.2.2.1
 have hl_b_Timers:=hz1.2.2.2.1
 have hl_b_Undos:=hz1.2.2.2.2
 clear hp hb
 rw[Zv13 a b]
 obtain⟨aS,aFired,aTasks,aTimers,aUndos,aState,aNow⟩:=a
 obtain⟨bS,bFired,bTasks,bTimers,bUndos,bState,bNow⟩:=b
 repeat' (apply if_cond<;>intro _)
 all_goals (first|apply Lf_t|apply Lf_f)<;>simp_all
def Zh13:HH:=⟨_,Zo13⟩
def Zk133:Con UU where
 α:=DWork×Int
 md:=[.ro,.ro]
 of:=oC (oA .lWork) (o1 oI)
 ds:=fun x=>[dA .lWork x.1,dI x.2]
 pre:=fun(a,left)=>[0≤left]
 res:=fun(a,left)=>⟨[.one (.lit (.int .i64 (szr left (sizeWork a))))],true,[]⟩
 law:=lC (lA .lWork) (l1 lI)
def Za133:Zk133.α→Nat→Option (Ann UU):=fun(a,left)=>annL []
def Zu133:=us [Zh7]
theorem Zv133(a:DWork)(left:Int):goal EE Zu133 Go.Proofs.Tryz.f133 Zk133 Za133 (a,left)=(let x1:Int:=IntKind.wrap IntKind.i64 (left-(↑(ByteArray.size a.Name):Int));
let x0:Int:=IntKind.wrap IntKind.i64 (x1-(↑(ByteArray.size a.Def):Int));
bif decide (x1<(0:Int)) then Lf [DV.one (Cell.lit (Value.int IntKind.i64 (-1:Int)))] [DV.one (Cell.lit (Value.int IntKind.i64 (szr left (sizeWork a))))] else bif decide (x0<(0:Int)) then Lf [DV.one (Cell.lit (Value.int IntKind.i64 (-1:Int)))] [DV.one (Cell.lit (Value.int IntKind.i64 (szr left (sizeWork a))))] else(0:Int)≤x0∧bif decide (szr x0 (sizeInst a.X)<(0:Int)) then Lf [DV.one (Cell.lit (Value.int IntKind.i64 (-1:Int)))] [DV.one (Cell.lit (Value.int IntKind.i64 (szr left (sizeWork a))))] else Lf [DV.one (Cell.lit (Value.int IntKind.i64 (szr x0 (sizeInst a.X))))] [DV.one (Cell.lit (Value.int IntKind.i64 (szr left (sizeWork a))))]):=by kernel_rfl
theorem Zo133:Holds EE (133,Zk133):=by
 refine holds_of EE_ok Go.Proofs.Tryz.func133 Zk133 (by kernel_rfl) Zu133 (us_ok _) Za133 (fun x hp hb=> ?_)
 obtain⟨a,left⟩:=x
 have hz0:=bd_lWork (x:=a) (hb _ m0)
 have hl_a_Name:=hz0.1
 have hl_a_Def:=hz0.2.1
 have hl_a_X_S_Items:=hz0.2.2.1
 have hl_a_X_Fired:=hz0.2.2.2.1
 have hl_a_X_Tasks:=hz0.2.2.2.2.1
 have hl_a_X_Timers:=hz0.2.2.2.2.2.1
 have hl_a_X_Undos:=hz0.2.2.2.2.2.2
 have hl_left:=bdI (n:=left) (hb _ m1)
 have hp0:0≤left:=hp _ m0
 clear hp hb
 rw[Zv133 a left]
 dsimp only
 rw[wrap_i64 (by omega) (by omega)]
 refine if_cond (fun h=>Lf_i (szr_bad' ?_)) (fun h=> ?_)
 ·have h:=of_decide_eq_true h;simp only[sizeWork];omega
 have h0:=of_decide_eq_false h
 rw[wrap_i64 (by omega) (by omega)]
 refine if_cond (fun h=>Lf_i (szr_bad' ?_)) (fun h=> ?_)
 ·have h:=of_decide_eq_true h;simp only[sizeWork];omega
 have h1:=of_decide_eq_false h
 refine⟨by omega,if_cond (fun h=>Lf_i (szr_bad' ?_)) (fun h=> ?_)⟩
 ·have h:=szr_neg h;simp only[sizeWork];omega
 obtain⟨e2,h2⟩:=szr_pos h
 rw[e2]
 exact Lf_i (by rw[←szr_ok' (by simp only[sizeWork];omega)];simp only[sizeWork];try omega)
def Zh133:HH:=⟨_,Zo133⟩
def Zk135:Con UU where
 α:=DWork
 md:=[.ro]
 of:=o1 (oA .lWork)
 ds:=fun x=>[dA .lWork x]
 pre:=fun a=>[sizeWork a≤4294967296]
 res:=fun a=>⟨[.agg [.lit (.string a.Name),.lit (.string a.Def),.sl .eItem a.X.S.Items,.lit (.int .i64 a.X.S.Next),.sl .eMatch a.X.Fired,.sl .eTask a.X.Tasks,.sl .eTimer a.X.Timers,.sl .eUndo a.X.Undos,.lit (.int .i64 a.X.State),.lit (.int .i64 a.X.Now)]],true,[]⟩
 law:=l1 (lA .lWork)
def Za135:Zk135.α→Nat→Option (Ann UU):=fun a=>annL []
def Zu135:=us [Zh10]
theorem Zv135(a:DWork):goal EE Zu135 Go.Proofs.Tryz.f135 Zk135 Za135 a=(sizeInst a.X≤(4294967296:Nat)∧Lf [DV.agg [Cell.lit (Value.string a.Name),Cell.lit (Value.string a.Def),Cell.sl Cd.eItem a.X.S.Items,Cell.lit (Value.int IntKind.i64 a.X.S.Next),Cell.sl Cd.eMatch a.X.Fired,Cell.sl Cd.eTask a.X.Tasks,Cell.sl Cd.eTimer a.X.Timers,Cell.sl Cd.eUndo a.X.Undos,Cell.lit (Value.int IntKind.i64 a.X.State),Cell.lit (Value.int IntKind.i64 a.X.Now)]] [DV.agg [Cell.lit (Value.string a.Name),Cell.lit (Value.string a.Def),Cell.sl Cd.eItem a.X.S.Items,Cell.lit (Value.int IntKind.i64 a.X.S.Next),Cell.sl Cd.eMatch a.X.Fired,Cell.sl Cd.eTask a.X.Tasks,Cell.sl Cd.eTimer a.X.Timers,Cell.sl Cd.eUndo a.X.Undos,Cell.lit (Value.int IntKind.i64 a.X.State),Cell.lit (Value.int IntKind.i64 a.X.Now)]]):=by kernel_rfl
theorem Zo135:Holds EE (135,Zk135):=by
 refine holds_of EE_ok Go.Proofs.Tryz.func135 Zk135 (by kernel_rfl) Zu135 (us_ok _) Za135 (fun(a:DWork) hp hb=> ?_)
 have hz0:=bd_lWork (x:=a) (hb _ m0)
 have hl_a_Name:=hz0.1
 have hl_a_Def:=hz0.2.1
 have hl_a_X_S_Items:=hz0.2.2.1
 have hl_a_X_Fired:=hz0.2.2.2.1
 have hl_a_X_Tasks:=hz0.2.2.2.2.1
 have hl_a_X_Timers:=hz0.2.2.2.2.2.1
 have hl_a_X_Undos:=hz0.2.2.2.2.2.2
 have hp0:sizeWork a≤4294967296:=hp _ m0
 clear hp hb
 rw[Zv135 a]
 simp only[sizeWork] at hp0
 repeat' (first|exact Lf_rfl _|(refine And.intro (by omega) ?_))
def Zh135:HH:=⟨_,Zo135⟩
def Zk142:Con UU where
 α:=DWork×DWork
 md:=[.ro,.ro]
 of:=oC (oA .eWork) (o1 (oA .eWork))
 ds:=fun x=>[dA .eWork x.1,dA .eWork x.2]
 pre:=fun _=>[]
 res:=fun(a,b)=>⟨[.one (.lit (.bool (decide (a=b))))],true,[]⟩
 law:=lC (lA .eWork) (l1 (lA .eWork))
def Za142:Zk142.α→Nat→Option (Ann UU):=fun(a,b)=>annL []
def Zu142:=us [Zh13]
theorem Zv142(a:DWork)(b:DWork):goal EE Zu142 Go.Proofs.Tryz.f142 Zk142 Za142 (a,b)=(bif !ByteArray.toList a.Name==ByteArray.toList b.Name then Lb false (decide (a=b)) else bif !ByteArray.toList a.Def==ByteArray.toList b.Def then Lb false (decide (a=b)) else bif !decide (a.X=b.X) then Lb false (decide (a=b)) else Lb true (decide (a=b))):=by kernel_rfl
theorem Zo142:Holds EE (142,Zk142):=by
 refine holds_of EE_ok Go.Proofs.Tryz.func142 Zk142 (by kernel_rfl) Zu142 (us_ok _) Za142 (fun x hp hb=> ?_)
 obtain⟨a,b⟩:=x
 have hz0:=bd_eWork (x:=a) (hb _ m0)
 have hl_a_Name:=hz0.1
 have hl_a_Def:=hz0.2.1
 have hl_a_X_S_Items:=hz0.2.2.1
 have hl_a_X_Fired:=hz0.2.2.2.1
 have hl_a_X_Tasks:=hz0.2.2.2.2.1
 have hl_a_X_Timers:=hz0.2.2.2.2.2.1
 have hl_a_X_Undos:=hz0.2.2.2.2.2.2
 have hz1:=bd_eWork (x:=b) (hb _ m1)
 have hl_b_Name:=hz1.1
 have hl_b_Def:=hz1.2.1
 have hl_b_X_S_Items:=hz1.2.2.1
 have hl_b_X_Fired:=hz1.2.2.2.1
 have hl_b_X_Tasks:=hz1.2.2.2.2.1
 have hl_b_X_Timers:=hz1.2.2.2.2.2.1
 have hl_b_X_Undos:=hz1.2.2.2.2.2.2
 clear hp hb
 rw[Zv142 a b]
 obtain⟨aName,aDef,aX⟩:=a
 obtain⟨bName,bDef,bX⟩:=b
 repeat' (apply if_cond<;>intro _)
 all_goals (first|apply Lf_t|apply Lf_f)<;>simp_all
def Zh142:HH:=⟨_,Zo142⟩
def Zk69:Con UU where
 α:=(List DWork)×Int
 md:=[.ro,.ro]
 of:=oC (oL .lWork) (o1 oI)
 ds:=fun x=>[dL .lWork x.1,dI x.2]
 pre:=fun(a,left)=>[0≤left]
 res:=fun(a,left)=>⟨[.one (.lit (.int .i64 (szr left (sizeWorkS a))))],true,[]⟩
 law:=lC (lL .lWork) (l1 lI)
def Zi69_5(a:(List DWork))(left:Int):Int×Int×Unit→Prop:=szI sizeWork a (sizeWorkS a) left
def Zm69_5(a:(List DWork))(left:Int):Int×Int×Unit→Nat:=rM2 a
def Za69:Zk69.α→Nat→Option (Ann UU):=fun(a,left)=>annL [(5,annOf [.slot 1 (1,1024) (.lit (.int .i64)),.slot 5 (5,1024) (.lit (.int .i64))] (fun _=>Zi69_5 a left) (Zm69_5 a left))]
def Zu69:=us [Zh133]
theorem Zv69(a:(List DWork))(left:Int):goal EE Zu69 Go.Proofs.Tryz.f69 Zk69 Za69 (a,left)=(szV sizeWork zWork a (sizeWorkS a) left):=by kernel_rfl
theorem Zo69:Holds EE (69,Zk69):=by
 refine holds_of EE_ok Go.Proofs.Tryz.func69 Zk69 (by kernel_rfl) Zu69 (us_ok _) Za69 (fun x hp hb=> ?_)
 obtain⟨a,left⟩:=x
 have hl_a:a.length≤9223372036854775807:=bdL (hb _ m0)
 have hl_left:=bdI (n:=left) (hb _ m1)
 have hp0:0≤left:=hp _ m0
 clear hp hb
 rw[Zv69 a left]
 exact szV_ok rfl hp0 hl_left hl_a
def Zh69:HH:=⟨_,Zo69⟩
def Zk74:Con UU where
 α:=(List DWork)
 md:=[.ro]
 of:=o1 (oL .lWork)
 ds:=fun x=>[dL .lWork x]
 pre:=fun a=>[sizeWorkS a≤4294967296]
 res:=fun a=>⟨[.one (.sl .eWork a)],true,[]⟩
 law:=l1 (lL .lWork)
def Zi74_3(a:(List DWork)):List DWork×Int×Unit→Prop:=toI zWork a
def Zm74_3(a:(List DWork)):List DWork×Int×Unit→Nat:=rM2 a
def Za74:Zk74.α→Nat→Option (Ann UU):=fun a=>annL [(3,annOf [.slot 3 (3,1024) (.own .eWork true),.slot 4 (4,1024) (.lit (.int .i64))] (fun _=>Zi74_3 a) (Zm74_3 a))]
def Zu74:=us [Zh135]
theorem Zv74(a:(List DWork)):goal EE Zu74 Go.Proofs.Tryz.f74 Zk74 Za74 a=(toV sizeWork zWork a fun y=>Lf [.one (.sl .eWork y)] [.one (.sl .eWork a)]):=by kernel_rfl
theorem Zo74:Holds EE (74,Zk74):=by
 refine holds_of EE_ok Go.Proofs.Tryz.func74 Zk74 (by kernel_rfl) Zu74 (us_ok _) Za74 (fun(a:(List DWork)) hp hb=> ?_)
 have hl_a:a.length≤9223372036854775807:=bdL (hb _ m0)
 have hp0:sizeWorkS a≤4294967296:=hp _ m0
 clear hp hb
 rw[Zv74 a]
 exact toV_ok hp0 (Lf_rfl _)
def Zh74:HH:=⟨_,Zo74⟩
def Zk79:Con UU where
 α:=(List DWork)×(List DWork)
 md:=[.ro,.ro]
 of:=oC (oL .eWork) (o1 (oL .eWork))
 ds:=fun x=>[dL .eWork x.1,dL .eWork x.2]
 pre:=fun _=>[]
 res:=fun(a,b)=>⟨[.one (.lit (.bool (decide (a=b))))],true,[]⟩
 law:=lC (lL .eWork) (l1 (lL .eWork))
def Zi79_4(a:(List DWork))(b:(List DWork)):Int×Unit→Prop:=eqI a b
def Zm79_4(a:(List DWork))(b:(List DWork)):Int×Unit→Nat:=rM1 a
def Za79:Zk79.α→Nat→Option (Ann UU):=fun(a,b)=>annL [(4,annOf [.slot 5 (5,1024) (.lit (.int .i64))] (fun _=>Zi79_4 a b) (Zm79_4 a b))]
def Zu79:=us [Zh142]
theorem Zv79(a:(List DWork))(b:(List DWork)):goal EE Zu79 Go.Proofs.Tryz.f79 Zk79 Za79 (a,b)=(eqV zWork a b):=by kernel_rfl
theorem Zo79:Holds EE (79,Zk79):=by
 refine holds_of EE_ok Go.Proofs.Tryz.func79 Zk79 (by kernel_rfl) Zu79 (us_ok _) Za79 (fun x hp hb=> ?_)
 obtain⟨a,b⟩:=x
 have hl_a:a.length≤9223372036854775807:=bdL (hb _ m0)
 have hl_b:b.length≤9223372036854775807:=bdL (hb _ m1)
 clear hp hb
 rw[Zv79 a b]
 exact eqV_ok hl_a
def Zh79:HH:=⟨_,Zo79⟩
def Zk14:Con UU where
 α:=DBook×Int
 md:=[.ro,.ro]
 of:=oC (oA .lBook) (o1 oI)
 ds:=fun x=>[dA .lBook x.1,dI x.2]
 pre:=fun(a,left)=>[0≤left]
 res:=fun(a,left)=>⟨[.one (.lit (.int .i64 (szr left (sizeBook a))))],true,[]⟩
 law:=lC (lA .lBook) (l1 lI)
def Za14:Zk14.α→Nat→Option (Ann UU):=fun(a,left)=>annL []
def Zu14:=us [Zh68,Zh69]
theorem Zv14(a:DBook)(left:Int):goal EE Zu14 Go.Proofs.Tryz.f14 Zk14 Za14 (a,left)=(let x0:Int:=szr (szr left (sizeDefS a.Defs)) (sizeWorkS a.Works);
(0:Int)≤left∧bif decide (szr left (sizeDefS a.Defs)<(0:Int)) then Lf [DV.one (Cell.lit (Value.int IntKind.i64 (-1:Int)))] [DV.one (Cell.lit (Value.int IntKind.i64 (szr left (sizeBook a))))] else(0:Int)≤szr left (sizeDefS a.Defs)∧bif decide (x0<(0:Int)) then Lf [DV.one (Cell.lit (Value.int IntKind.i64 (-1:Int)))] [DV.one (Cell.lit (Value.int IntKind.i64 (szr left (sizeBook a))))] else Lf [DV.one (Cell.lit (Value.int IntKind.i64 x0))] [DV.one (Cell.lit (Value.int IntKind.i64 (szr left (sizeBook a))))]):=by kernel_rfl
theorem Zo14:Holds EE (14,Zk14):=by
 refine holds_of EE_ok Go.Proofs.Tryz.func14 Zk14 (by kernel_rfl) Zu14 (us_ok _) Za14 (fun x hp hb=> ?_)
 obtain⟨a,left⟩:=x
 have hz0:=bd_lBook (x:=a) (hb _ m0)
 have hl_a_Defs:=hz0.1
 have hl_a_Works:=hz0.2
 have hl_left:=bdI (n:=left) (hb _ m1)
 have hp0:0≤left:=hp _ m0
 clear hp hb
 rw[Zv14 a left]
 dsimp only
 refine⟨by omega,if_cond (fun h=>Lf_i (szr_bad' ?_)) (fun h=> ?_)⟩
 ·have h:=szr_neg h;simp only[sizeBook];omega
 obtain⟨e0,h0⟩:=szr_pos h
 rw[e0]
 refine⟨by omega,if_cond (fun h=>Lf_i (szr_bad' ?_)) (fun h=> ?_)⟩
 ·have h:=szr_neg h;simp only[sizeBook];omega
 obtain⟨e1,h1⟩:=szr_pos h
 rw[e1]
 exact Lf_i (by rw[←szr_ok' (by simp only[sizeBook];omega)];simp only[sizeBook];try omega)
def Zh14:HH:=⟨_,Zo14⟩
def Zk16:Con UU where
 α:=DBook
 md:=[.ro]
 of:=o1 (oA .lBook)
 ds:=fun x=>[dA .lBook x]
 pre:=fun a=>[sizeBook a≤4294967296]
 res:=fun a=>⟨[.agg [.sl .eDef a.Defs,.sl .eWork a.Works,.lit (.int .i64 a.Now),.lit (.int .i64 a.Ring)]],true,[]⟩
 law:=l1 (lA .lBook)
def Za16:Zk16.α→Nat→Option (Ann UU):=fun a=>annL []
def Zu16:=us [Zh73,Zh74]
theorem Zv16(a:DBook):goal EE Zu16 Go.Proofs.Tryz.f16 Zk16 Za16 a=(sizeDefS a.Defs≤(4294967296:Nat)∧sizeWorkS a.Works≤(4294967296:Nat)∧Lf [DV.agg [Cell.sl Cd.eDef a.Defs,Cell.sl Cd.eWork a.Works,Cell.lit (Value.int IntKind.i64 a.Now),Cell.lit (Value.int IntKind.i64 a.Ring)]] [DV.agg [Cell.sl Cd.eDef a.Defs,Cell.sl Cd.eWork a.Works,Cell.lit (Value.int IntKind.i64 a.Now),Cell.lit (Value.int IntKind.i64 a.Ring)]]):=by kernel_rfl
theorem Zo16:Holds EE (16,Zk16):=by
 refine holds_of EE_ok Go.Proofs.Tryz.func16 Zk16 (by kernel_rfl) Zu16 (us_ok _) Za16 (fun(a:DBook) hp hb=> ?_)
 have hz0:=bd_lBook (x:=a) (hb _ m0)
 have hl_a_Defs:=hz0.1
 have hl_a_Works:=hz0.2
 have hp0:sizeBook a≤4294967296:=hp _ m0
 clear hp hb
 rw[Zv16 a]
 simp only[sizeBook] at hp0
 repeat' (first|exact Lf_rfl _|(refine And.intro (by omega) ?_))
def Zh16:HH:=⟨_,Zo16⟩
def Zk18:Con UU where
 α:=DBook×DBook
 md:=[.ro,.ro]
 of:=oC (oA .eBook) (o1 (oA .eBook))
 ds:=fun x=>[dA .eBook x.1,dA .eBook x.2]
 pre:=fun _=>[]
 res:=fun(a,b)=>⟨[.one (.lit (.bool (decide (a=b))))],true,[]⟩
 law:=lC (lA .eBook) (l1 (lA .eBook))
def Za18:Zk18.α→Nat→Option (Ann UU):=fun(a,b)=>annL []
def Zu18:=us [Zh78,Zh79]
theorem Zv18(a:DBook)(b:DBook):goal EE Zu18 Go.Proofs.Tryz.f18 Zk18 Za18 (a,b)=(bif !decide (a.Defs=b.Defs) then Lb false (decide (a=b)) else bif !decide (a.Works=b.Works) then Lb false (decide (a=b)) else bif a.Now !=b.Now then Lb false (decide (a=b)) else bif a.Ring !=b.Ring then Lb false (decide (a=b)) else Lb true (decide (a=b))):=by kernel_rfl
theorem Zo18:Holds EE (18,Zk18):=by
 refine holds_of EE_ok Go.Proofs.Tryz.func18 Zk18 (by kernel_rfl) Zu18 (us_ok _) Za18 (fun x hp hb=> ?_)
 obtain⟨a,b⟩:=x
 have hz0:=bd_eBook (x:=a) (hb _ m0)
 have hl_a_Defs:=hz0.1
 have hl_a_Works:=hz0.2
 have hz1:=bd_eBook (x:=b) (hb _ m1)
 have hl_b_Defs:=hz1.1
 have hl_b_Works:=hz1.2
 clear hp hb
 rw[Zv18 a b]
 obtain⟨aDefs,aWorks,aNow,aRing⟩:=a
 obtain⟨bDefs,bWorks,bNow,bRing⟩:=b
 repeat' (apply if_cond<;>intro _)
 all_goals (first|apply Lf_t|apply Lf_f)<;>simp_all
def Zh18:HH:=⟨_,Zo18⟩
theorem firedM_ids{d:DDef}{s:List DItem}{m:DMatch}(h1:hasR d m=true)(h2:m.Binds.length=0)(h3:m.Ids.length=posN (List.getD d.Rules m.Rule.toNat zRule).Pats):firedM d s m=m.Ids.all (hasId s):=by
 simp only[firedM,h1,decide_eq_true h2,decide_eq_true h3,Bool.true_and]
theorem ctInst_items(x:DInst):sizeItemS x.S.Items≤sizeInst x:=by
 simp only[sizeInst,sizeStore];omega
theorem hasR_iff{d:DDef}{m:DMatch}(h:hasR d m=true):0≤m.Rule∧m.Rule<(d.Rules.length:Int):=by
 simpa[hasR] using h
theorem posN_size{d:DDef}{m:DMatch}(h:hasR d m=true):posN (List.getD d.Rules m.Rule.toNat zRule).Pats≤sizeDef d:=by
 obtain⟨h1,h2⟩:=hasR_iff h
 have hs:=sum_getD_le sizeRule d.Rules zRule h1 h2
 have hle:posN (List.getD d.Rules m.Rule.toNat zRule).Pats≤(List.getD d.Rules m.Rule.toNat zRule).Pats.length:=List.length_filter_le _ _
 simp only[sizeRule,sizePatS] at hs
 simp only[sizeDef,sizeRuleS,sizeRule,sizePatS];omega
def Zk82:Con UU where
 α:=DDef×DMatch
 md:=[.ro,.ro]
 of:=oC (oA .eDef) (o1 (oA .eMatch))
 ds:=fun x=>[dA .eDef x.1,dA .eMatch x.2]
 pre:=fun _=>[]
 res:=fun(d,m)=>⟨[.one (.lit (.bool (hasR d m)))],true,[]⟩
 law:=lC (lA .eDef) (l1 (lA .eMatch))
def Za82:Zk82.α→Nat→Option (Ann UU):=fun(d,m)=>annL []
def Zu82:List (FuncId×Con UU):=[]
theorem Zv82(d:DDef)(m:DMatch):goal EE Zu82 Go.Proofs.Tryz.f82 Zk82 Za82 (d,m)=(bif decide (m.Rule≥(0:Int)) then Lb (decide (m.Rule<(d.Rules.length:Int))) (hasR d m) else Lb false (hasR d m)):=by kernel_rfl
theorem Zo82:Holds EE (82,Zk82):=by
 refine holds_of EE_ok Go.Proofs.Tryz.func82 Zk82 (by kernel_rfl) Zu82 all_nil Za82 (fun x hp hb=> ?_)
 obtain⟨d,m⟩:=x
 have hz0:=bd_eDef (x:=d) (hb _ m0)
 have hl_d_Name:=hz0.1
 have hl_d_Rules:=hz0.2
 have hz1:=bd_eMatch (x:=m) (hb _ m1)
 have hl_m_Ids:=hz1.1
 have hl_m_Binds:=hz1.2
 clear hp hb
 rw[Zv82 d m]
 simp only[hasR]
 refine if_dec (fun h=>Lf_b ?_) (fun h=>Lf_b ?_)
 ·rw[decide_eq_true (show 0≤m.Rule from h),Bool.true_and]
 ·rw[decide_eq_false (show¬0≤m.Rule from h),Bool.false_and]
def Zh82:HH:=⟨_,Zo82⟩
def Zk124:Con UU where
 α:=DDef×DMatch
 md:=[.ro,.ro]
 of:=oC (oA .eDef) (o1 (oA .eMatch))
 ds:=fun x=>[dA .eDef x.1,dA .eMatch x.2]
 pre:=fun _=>[]
 res:=fun(d,m)=>⟨[.one (.lit (.bool (hasR d m)))],true,[]⟩
 law:=lC (lA .eDef) (l1 (lA .eMatch))
def Za124:Zk124.α→Nat→Option (Ann UU):=fun(d,m)=>annL []
def Zu124:List (FuncId×Con UU):=[]
theorem Zv124(d:DDef)(m:DMatch):goal EE Zu124 Go.Proofs.Tryz.f124 Zk124 Za124 (d,m)=(bif decide (m.Rule≥(0:Int)) then Lb (decide (m.Rule<(d.Rules.length:Int))) (hasR d m) else Lb false (hasR d m)):=by kernel_rfl
theorem Zo124:Holds EE (124,Zk124):=by
 refine holds_of EE_ok Go.Proofs.Tryz.func124 Zk124 (by kernel_rfl) Zu124 all_nil Za124 (fun x hp hb=> ?_)
 obtain⟨d,m⟩:=x
 have hz0:=bd_eDef (x:=d) (hb _ m0)
 have hl_d_Name:=hz0.1
 have hl_d_Rules:=hz0.2
 have hz1:=bd_eMatch (x:=m) (hb _ m1)
 have hl_m_Ids:=hz1.1
 have hl_m_Binds:=hz1.2
 clear hp hb
 rw[Zv124 d m]
 simp only[hasR]
 refine if_dec (fun h=>Lf_b ?_) (fun h=>Lf_b ?_)
 ·rw[decide_eq_true (show 0≤m.Rule from h),Bool.true_and]
 ·rw[decide_eq_false (show¬0≤m.Rule from h),Bool.false_and]
def Zh124:HH:=⟨_,Zo124⟩
end
end AM
