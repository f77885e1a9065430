/- Functions of the program with their contracts: put together by gen/link.py for FnExactNextOf. -/
import Derived.Test.YtceiiofmelhipaaGreatAmLib
import Derived.Test.YtceiiofmelhipaaGreatFExactNextOf
namespace AM
open Go Go.Proofs.Tryz
set_option linter.unusedVariables false
set_option linter.unusedSimpArgs false
set_option maxRecDepth 100000
noncomputable section
def Zk154:Con UU where
 α:=DRule
 md:=[.ro]
 of:=o1 (oA .eRule)
 ds:=fun x=>[dA .eRule x]
 pre:=fun r=>[patArgs r.Pats≤4294967296]
 res:=fun r=>⟨[dL .str (posVarsS r.Pats)],true,[]⟩
 law:=l1 (lA .eRule)
def Zi154_3(r:DRule):List ByteArray×Int×(ByteArray×Int×List DPat×List DCond×List DAct×Unit)×Unit→Prop:=fun(l,i,b,_)=>b=(r.Name,r.Sal,r.Pats,r.Conds,r.Acts,())∧0≤i∧i≤r.Pats.length∧l=posVarsS (r.Pats.take i.toNat)
def Zm154_3(r:DRule):List ByteArray×Int×(ByteArray×Int×List DPat×List DCond×List DAct×Unit)×Unit→Nat:=fun(l,i,b,_)=>r.Pats.length-i.toNat
def Zi154_7(r:DRule):List ByteArray×Int×List ByteArray×Int×(ByteArray×Int×List DPat×List DCond×List DAct×Unit)×Unit→List ByteArray×Int×List ByteArray×Int×(ByteArray×Int×List DPat×List DCond×List DAct×Unit)×Unit→Prop:=fun(l0,i0,v0,k0,b0,_) (l,i,v,k,b,_)=>b=(r.Name,r.Sal,r.Pats,r.Conds,r.Acts,())∧i=i0∧v=v0∧0≤k∧k≤v.length∧l=(v.take k.toNat).foldl addOnce l0∧(k=0∨(List.getD r.Pats i.toNat zPat).Not=false)
def Zm154_7(r:DRule):List ByteArray×Int×List ByteArray×Int×(ByteArray×Int×List DPat×List DCond×List DAct×Unit)×Unit→Nat:=fun(l,i,v,k,b,_)=>v.length-k.toNat
def Za154:Zk154.α→Nat→Option (Ann UU):=fun r=>annL [(3,annOf [.slot 3 (3,1024) (.own .str true),.slot 4 (4,1024) (.lit (.int .i64)),.box 1 (1,1024) [.lit .str,.lit (.int .i64),.shr .ePat,.shr .eCond,.shr .eAct]] (fun _=>Zi154_3 r) (Zm154_3 r)),(7,annOf [.slot 3 (3,1024) (.own .str true),.slot 4 (4,1024) (.lit (.int .i64)),.slot 5 (5,1024) (.own .str true),.slot 6 (6,1024) (.lit (.int .i64)),.box 1 (1,1024) [.lit .str,.lit (.int .i64),.shr .ePat,.shr .eCond,.shr .eAct]] (Zi154_7 r) (Zm154_7 r))]
def Zu154:=us [Zh222,Zh223]
theorem Zo154:Holds EE (154,Zk154):=by
 refine holds_of EE_ok func154 Zk154 (by kernel_rfl) Zu154 (us_ok _) Za154 (fun(r:DRule) hp hb=> ?_)
 have hz0:=bd_eRule (x:=r) (hb _ m0)
 have hl_r_Name:=hz0.1
 have hl_r_Pats:=hz0.2.1
 have hl_r_Conds:=hz0.2.2.1
 have hl_r_Acts:=hz0.2.2.2
 have hp0:patArgs r.Pats≤4294967296:=hp _ m0
 clear hp hb
 apply @ve _ (Zi154_3 r ([],(0:Int),(r.Name,r.Sal,r.Pats,r.Conds,r.Acts,()),())∧∀(y:List ByteArray×Int×(ByteArray×Int×List DPat×List DCond×List DAct×PUnit)×PUnit),let x2:Nat:=y.2.2.1.2.2.1.length;let x3:Nat:=y.2.1.toNat;let x0:List DArg:=(List.getD y.2.2.1.2.2.1 x3 zPat).Args;let x1:Int:=(↑x2:Int);Zi154_3 r y→bif decide (y.2.1<x1) then(0:Int)≤y.2.1∧x3<x2∧x0.length≤(4294967296:Nat)∧Zi154_7 r (y.1,y.2.1,addVars [] x0,(0:Int),(y.2.2.1.1,y.2.2.1.2.1,y.2.2.1.2.2.1,y.2.2.1.2.2.2.1,y.2.2.1.2.2.2.2.1,()),()) (y.1,y.2.1,addVars [] x0,(0:Int),(y.2.2.1.1,y.2.2.1.2.1,y.2.2.1.2.2.1,y.2.2.1.2.2.2.1,y.2.2.1.2.2.2.2.1,()),())∧∀(y_1:List ByteArray×Int×List ByteArray×Int×(ByteArray×Int×List DPat×List DCond×List DAct×PUnit)×PUnit),let x6:Nat:=y_1.2.2.2.1.toNat;let x8:Nat:=y_1.2.2.1.length;let x9:Nat:=y_1.2.1.toNat;let x5:ByteArray:=List.getD y_1.2.2.1 x6 noBytes;let x7:Int:=(↑x8:Int);let x4:List ByteArray:=[x5];Zi154_7 r (y.1,y.2.1,addVars [] x0,(0:Int),(y.2.2.1.1,y.2.2.1.2.1,y.2.2.1.2.2.1,y.2.2.1.2.2.2.1,y.2.2.1.2.2.2.2.1,()),()) y_1→bif decide (y_1.2.2.2.1<x7) then(0:Int)≤y_1.2.1∧x9<y_1.2.2.2.2.1.2.2.1.length∧bif !(List.getD y_1.2.2.2.2.1.2.2.1 x9 zPat).Not then(0:Int)≤y_1.2.2.2.1∧x6<x8∧x6<x8∧bif !hasS y_1.1 x5 then(0:Int)≤y_1.2.2.2.1∧x6<x8∧x6<x8∧y_1.1.length+x4.length≤(4294967296:Nat)∧Zi154_7 r (y.1,y.2.1,addVars [] x0,(0:Int),(y.2.2.1.1,y.2.2.1.2.1,y.2.2.1.2.2.1,y.2.2.1.2.2.2.1,y.2.2.1.2.2.2.2.1,()),()) (y_1.1++x4,y_1.2.1,y_1.2.2.1,IntKind.wrap IntKind.i64 (y_1.2.2.2.1+(1:Int)),(y_1.2.2.2.2.1.1,y_1.2.2.2.2.1.2.1,y_1.2.2.2.2.1.2.2.1,y_1.2.2.2.2.1.2.2.2.1,y_1.2.2.2.2.1.2.2.2.2.1,()),())∧Zm154_7 r (y_1.1++x4,y_1.2.1,y_1.2.2.1,IntKind.wrap IntKind.i64 (y_1.2.2.2.1+(1:Int)),(y_1.2.2.2.2.1.1,y_1.2.2.2.2.1.2.1,y_1.2.2.2.2.1.2.2.1,y_1.2.2.2.2.1.2.2.2.1,y_1.2.2.2.2.1.2.2.2.2.1,()),())<Zm154_7 r y_1 else Zi154_7 r (y.1,y.2.1,addVars [] x0,(0:Int),(y.2.2.1.1,y.2.2.1.2.1,y.2.2.1.2.2.1,y.2.2.1.2.2.2.1,y.2.2.1.2.2.2.2.1,()),()) (y_1.1,y_1.2.1,y_1.2.2.1,IntKind.wrap IntKind.i64 (y_1.2.2.2.1+(1:Int)),(y_1.2.2.2.2.1.1,y_1.2.2.2.2.1.2.1,y_1.2.2.2.2.1.2.2.1,y_1.2.2.2.2.1.2.2.2.1,y_1.2.2.2.2.1.2.2.2.2.1,()),())∧Zm154_7 r (y_1.1,y_1.2.1,y_1.2.2.1,IntKind.wrap IntKind.i64 (y_1.2.2.2.1+(1:Int)),(y_1.2.2.2.2.1.1,y_1.2.2.2.2.1.2.1,y_1.2.2.2.2.1.2.2.1,y_1.2.2.2.2.1.2.2.2.1,y_1.2.2.2.2.1.2.2.2.2.1,()),())<Zm154_7 r y_1 else Zi154_3 r (y_1.1,IntKind.wrap IntKind.i64 (y_1.2.1+(1:Int)),(y_1.2.2.2.2.1.1,y_1.2.2.2.2.1.2.1,y_1.2.2.2.2.1.2.2.1,y_1.2.2.2.2.1.2.2.2.1,y_1.2.2.2.2.1.2.2.2.2.1,()),())∧Zm154_3 r (y_1.1,IntKind.wrap IntKind.i64 (y_1.2.1+(1:Int)),(y_1.2.2.2.2.1.1,y_1.2.2.2.2.1.2.1,y_1.2.2.2.2.1.2.2.1,y_1.2.2.2.2.1.2.2.2.1,y_1.2.2.2.2.1.2.2.2.2.1,()),())<Zm154_3 r y else Zi154_3 r (y_1.1,IntKind.wrap IntKind.i64 (y_1.2.1+(1:Int)),(y_1.2.2.2.2.1.1,y_1.2.2.2.2.1.2.1,y_1.2.2.2.2.1.2.2.1,y_1.2.2.2.2.1.2.2.2.1,y_1.2.2.2.2.1.2.2.2.2.1,()),())∧Zm154_3 r (y_1.1,IntKind.wrap IntKind.i64 (y_1.2.1+(1:Int)),(y_1.2.2.2.2.1.1,y_1.2.2.2.2.1.2.1,y_1.2.2.2.2.1.2.2.1,y_1.2.2.2.2.1.2.2.2.1,y_1.2.2.2.2.1.2.2.2.2.1,()),())<Zm154_3 r y else Lf [VL .str y.1] [VL .str (posVarsS r.Pats)]) (by kernel_rfl)
 dsimp only
 refine⟨⟨rfl,by omega,by omega,rfl⟩,?_⟩
 rintro⟨l,i,⟨b1,b2,b3,b4,b5,⟨⟩⟩,⟨⟩⟩ ⟨hbx,h1,h2,rfl⟩
 cases hbx
 simp only
 refine if_cond (fun hc=> ?_) (fun hc=> ?_)
 ·have hc:=of_decide_eq_true hc
  have hs:posVarsS (r.Pats.take (i+1).toNat)=posVarS (posVarsS (r.Pats.take i.toNat)) (List.getD r.Pats i.toNat zPat):=foldl_step posVarS [] r.Pats zPat h1 hc
  have ha:=patArgs_at r.Pats h1 hc
  have hl:=posVarsS_len0 (r.Pats.take i.toNat) []
  simp only[zbo,zbw] at hl
  have hv:=addVars_len (List.getD r.Pats i.toNat zPat).Args []
  simp only[zbo,zbw] at hv
  refine⟨by omega,by omega,by omega,⟨rfl,rfl,rfl,by omega,by omega,rfl,.inl rfl⟩,?_⟩
  rintro⟨l',i',v,k,⟨b1,b2,b3,b4,b5,⟨⟩⟩,⟨⟩⟩ ⟨hbx,rfl,rfl,g1,g2,rfl,g3⟩
  cases hbx
  simp only
  have hfl:=foldOnce_len ((addVars [] (List.getD r.Pats i'.toNat zPat).Args).take k.toNat) (posVarsS (r.Pats.take i'.toNat))
  have hfl2:((addVars [] (List.getD r.Pats i'.toNat zPat).Args).take k.toNat).length≤k.toNat:=by rw[zaw];omega
  have hl':(posVarsS (r.Pats.take i'.toNat)).length≤patArgs (r.Pats.take i'.toNat):=hl
  have hin:(addVars [] (List.getD r.Pats i'.toNat zPat).Args).length≤(List.getD r.Pats i'.toNat zPat).Args.length:=hv
  refine if_cond (fun hk=> ?_) (fun hk=> ?_)
  ·have hk:=of_decide_eq_true hk
   have hf:=foldl_step addOnce (posVarsS (r.Pats.take i'.toNat)) (addVars [] (List.getD r.Pats i'.toNat zPat).Args) noBytes g1 hk
   rw[wrap_i64 (n:=k+1) (by omega) (by omega),wrap_i64 (n:=i'+1) (by omega) (by omega)]
   refine⟨by omega,by omega,if_cond (fun hn=> ?_) (fun hn=> ?_)⟩
   ·have hn:(List.getD r.Pats i'.toNat zPat).Not=false:=by simpa using hn
    have hkl:k.toNat<(addVars [] (List.getD r.Pats i'.toNat zPat).Args).length:=by omega
    refine⟨g1,hkl,hkl,if_cond (fun g=>⟨g1,hkl,hkl,by simp only[zbq,zbo];omega,⟨rfl,rfl,rfl,by omega,by omega,?_,.inr hn⟩,by simp only[Zm154_7];omega⟩) (fun g=>⟨⟨rfl,rfl,rfl,by omega,by omega,?_,.inr hn⟩,by simp only[Zm154_7];omega⟩)⟩
    ·rw[hf,addOnce,if_neg (by simpa using g)]
    ·rw[hf,addOnce,if_pos (by simpa using g)]
   ·have hn:(List.getD r.Pats i'.toNat zPat).Not=true:=by simpa using hn
    have hk0:k=0:=g3.resolve_right (by rw[hn];decide)
    subst hk0
    refine⟨⟨rfl,by omega,by omega,?_⟩,by simp only[Zm154_3];omega⟩
    rw[hs,posVarS,if_pos hn]
    rfl
  ·have hk:=of_decide_eq_false hk
   rw[wrap_i64 (n:=i'+1) (by omega) (by omega)]
   refine⟨⟨rfl,by omega,by omega,?_⟩,by simp only[Zm154_3];omega⟩
   rw[hs,posVarS]
   by_cases hn:(List.getD r.Pats i'.toNat zPat).Not=true
   ·have hk0:k=0:=g3.resolve_right (by rw[hn];decide)
    subst hk0
    rw[if_pos hn];rfl
   ·rw[if_neg hn,take_all (addVars [] (List.getD r.Pats i'.toNat zPat).Args) (by omega)]
 ·have hc:=of_decide_eq_false hc
  rw[take_all r.Pats (by omega)]
  exact Lf_rfl _
def Zh154:HH:=⟨_,Zo154⟩
def Zk239:Con UU where
 α:=(List ByteArray)×ByteArray
 md:=[.mv,.ro]
 of:=oC (oL .str) (o1 oS)
 ds:=fun x=>[dL .str x.1,dS x.2]
 pre:=fun(l,name)=>[l.length≤4294967295]
 res:=fun(l,name)=>⟨[dL .str (addOnce l name)],true,[]⟩
 law:=lC (lL .str) (l1 lS)
def Za239:Zk239.α→Nat→Option (Ann UU):=fun(l,name)=>annL []
def Zu239:=us [Zh96]
theorem Zo239:Holds EE (239,Zk239):=by
 refine holds_of EE_ok func239 Zk239 (by kernel_rfl) Zu239 (us_ok _) Za239 (fun x hp hb=> ?_)
 obtain⟨l,name⟩:=x
 have hl_l:l.length≤9223372036854775807:=bdL (hb _ m0)
 have hl_name:=bdS (s:=name) (hb _ m1)
 have hp0:l.length≤4294967295:=hp _ m0
 clear hp hb
 apply @ve _ (bif hasS l name then Lf [VL .str l] [VL .str (addOnce l name)] else l.length+List.length [name]≤(4294967296:Nat)∧Lf [VL .str (l++[name])] [VL .str (addOnce l name)]) (by kernel_rfl)
 refine if_cond (fun h=> ?_) (fun h=>⟨by simp;omega,?_⟩)
 ·rw[addOnce,if_pos h];exact Lf_rfl _
 ·rw[addOnce,if_neg (by rw[h];decide)];exact Lf_rfl _
def Zh239:HH:=⟨_,Zo239⟩
def Zk168:Con UU where
 α:=(List ByteArray)×(List DArg)
 md:=[.mv,.ro]
 of:=oC (oL .str) (o1 (oL .eArg))
 ds:=fun x=>[dL .str x.1,dL .eArg x.2]
 pre:=fun(l,args)=>[l.length+args.length≤4294967295]
 res:=fun(l,args)=>⟨[dL .str (addVars l args)],true,[]⟩
 law:=lC (lL .str) (l1 (lL .eArg))
def Zi168_2(l:(List ByteArray))(args:(List DArg)):List ByteArray×Int×Unit→Prop:=fun(v,i,_)=>0≤i∧i≤args.length∧v=addVars l (args.take i.toNat)
def Zm168_2(l:(List ByteArray))(args:(List DArg)):List ByteArray×Int×Unit→Nat:=fun(v,i,_)=>args.length-i.toNat
def Za168:Zk168.α→Nat→Option (Ann UU):=fun(l,args)=>annL [(2,annOf [.slot 0 (0,1024) (.own .str true),.slot 9 (9,1024) (.lit (.int .i64))] (fun _=>Zi168_2 l args) (Zm168_2 l args))]
def Zu168:=us [Zh239]
theorem Zo168:Holds EE (168,Zk168):=by
 refine holds_of EE_ok func168 Zk168 (by kernel_rfl) Zu168 (us_ok _) Za168 (fun x hp hb=> ?_)
 obtain⟨l,args⟩:=x
 have hl_l:l.length≤9223372036854775807:=bdL (hb _ m0)
 have hl_args:args.length≤9223372036854775807:=bdL (hb _ m1)
 have hp0:l.length+args.length≤4294967295:=hp _ m0
 clear hp hb
 apply @ve _ (Zi168_2 l args (l,(0:Int),())∧∀(y:List ByteArray×Int×PUnit),let x1:Nat:=y.2.1.toNat;let x0:DArg:=List.getD args x1 zArg;Zi168_2 l args y→bif decide (y.2.1<(args.length:Int)) then(0:Int)≤y.2.1∧x1<args.length∧bif x0.K==(1:Int) then y.1.length≤(4294967295:Nat)∧Zi168_2 l args (addOnce y.1 x0.S,IntKind.wrap IntKind.i64 (y.2.1+(1:Int)),())∧Zm168_2 l args (addOnce y.1 x0.S,IntKind.wrap IntKind.i64 (y.2.1+(1:Int)),())<Zm168_2 l args y else Zi168_2 l args (y.1,IntKind.wrap IntKind.i64 (y.2.1+(1:Int)),())∧Zm168_2 l args (y.1,IntKind.wrap IntKind.i64 (y.2.1+(1:Int)),())<Zm168_2 l args y else Lf [VL .str y.1] [VL .str (addVars l args)]) (by kernel_rfl)
 dsimp only
 refine⟨⟨by omega,by omega,rfl⟩,?_⟩
 rintro⟨v,i,⟨⟩⟩ ⟨h1,h2,rfl⟩
 simp only
 refine if_cond (fun hc=> ?_) (fun hc=> ?_)
 ·have hc:=of_decide_eq_true hc
  have hs:=addVars_step l args h1 hc
  have hl:=addVars_len (args.take i.toNat) l
  have hl2:(args.take i.toNat).length≤i.toNat:=by rw[zaw];omega
  rw[wrap_i64 (by omega) (by omega)]
  refine⟨by omega,by omega,if_cond (fun h=>⟨by omega,⟨by omega,by omega,?_⟩,by simp only[Zm168_2];omega⟩) (fun h=>⟨⟨by omega,by omega,?_⟩,by simp only[Zm168_2];omega⟩)⟩
  ·rw[hs,addVar,if_pos (eq_of_beq h)]
  ·rw[hs,addVar,if_neg (fun e=>by rw[e] at h;simp at h)]
 ·have hc:=of_decide_eq_false hc
  rw[take_all args (by omega)]
  exact Lf_rfl _
def Zh168:HH:=⟨_,Zo168⟩
def Zk94:Con UU where
 α:=DRule
 md:=[.ro]
 of:=o1 (oA .eRule)
 ds:=fun x=>[dA .eRule x]
 pre:=fun r=>[patArgs r.Pats≤4294967295]
 res:=fun r=>⟨[dL .str (posVars r.Pats)],true,[]⟩
 law:=l1 (lA .eRule)
def Zi94_3(r:DRule):List ByteArray×Int×Unit→Prop:=fun(v,i,_)=>0≤i∧i≤r.Pats.length∧v=posVars (r.Pats.take i.toNat)
def Zm94_3(r:DRule):List ByteArray×Int×Unit→Nat:=fun(v,i,_)=>r.Pats.length-i.toNat
def Za94:Zk94.α→Nat→Option (Ann UU):=fun r=>annL [(3,annOf [.slot 3 (3,1024) (.own .str true),.slot 9 (9,1024) (.lit (.int .i64))] (fun _=>Zi94_3 r) (Zm94_3 r))]
def Zu94:=us [Zh168]
theorem Zo94:Holds EE (94,Zk94):=by
 refine holds_of EE_ok func94 Zk94 (by kernel_rfl) Zu94 (us_ok _) Za94 (fun(r:DRule) hp hb=> ?_)
 have hz0:=bd_eRule (x:=r) (hb _ m0)
 have hl_r_Name:=hz0.1
 have hl_r_Pats:=hz0.2.1
 have hl_r_Conds:=hz0.2.2.1
 have hl_r_Acts:=hz0.2.2.2
 have hp0:patArgs r.Pats≤4294967295:=hp _ m0
 clear hp hb
 apply @ve _ (Zi94_3 r ([],(0:Int),())∧∀(y:List ByteArray×Int×PUnit),let x2:Nat:=y.2.1.toNat;let x1:DPat:=List.getD r.Pats x2 zPat;let x0:List DArg:=x1.Args;Zi94_3 r y→bif decide (y.2.1<(r.Pats.length:Int)) then(0:Int)≤y.2.1∧x2<r.Pats.length∧bif !x1.Not then y.1.length+x0.length≤(4294967295:Nat)∧Zi94_3 r (addVars y.1 x0,IntKind.wrap IntKind.i64 (y.2.1+(1:Int)),())∧Zm94_3 r (addVars y.1 x0,IntKind.wrap IntKind.i64 (y.2.1+(1:Int)),())<Zm94_3 r y else Zi94_3 r (y.1,IntKind.wrap IntKind.i64 (y.2.1+(1:Int)),())∧Zm94_3 r (y.1,IntKind.wrap IntKind.i64 (y.2.1+(1:Int)),())<Zm94_3 r y else Lf [VL .str y.1] [VL .str (posVars r.Pats)]) (by kernel_rfl)
 dsimp only
 refine⟨⟨by omega,by omega,rfl⟩,?_⟩
 rintro⟨v,i,⟨⟩⟩ ⟨h1,h2,rfl⟩
 simp only
 refine if_cond (fun hc=> ?_) (fun hc=> ?_)
 ·have hc:=of_decide_eq_true hc
  have hs:posVars (r.Pats.take (i+1).toNat)=posVar (posVars (r.Pats.take i.toNat)) (List.getD r.Pats i.toNat zPat):=foldl_step posVar [] r.Pats zPat h1 hc
  have ha:=patArgs_at r.Pats h1 hc
  have hl:=posVars_len0 (r.Pats.take i.toNat) []
  simp only[zbo,zbw] at hl
  have hl':(posVars (r.Pats.take i.toNat)).length≤patArgs (r.Pats.take i.toNat):=hl
  rw[wrap_i64 (by omega) (by omega)]
  refine⟨by omega,by omega,if_cond (fun h=>⟨by omega,⟨by omega,by omega,?_⟩,by simp only[Zm94_3];omega⟩) (fun h=>⟨⟨by omega,by omega,?_⟩,by simp only[Zm94_3];omega⟩)⟩
  ·rw[hs,posVar,if_neg (by simpa using h)]
  ·rw[hs,posVar,if_pos (by simpa using h)]
 ·have hc:=of_decide_eq_false hc
  rw[take_all r.Pats (by omega)]
  exact Lf_rfl _
def Zh94:HH:=⟨_,Zo94⟩
def notAt(ps:List DPat)(i:Nat):Bool:=(List.getD ps i zPat).Not
def patAt(ps:List DPat)(i:Nat):Bool:=patOk (List.getD ps i zPat)&& !(decide (2<i)&& !notAt ps i)&& !(decide (i=0)&&notAt ps i)&& !(decide (0<i)&&notAt ps (i-1)&& !notAt ps i)
def patsOk(ps:List DPat):Bool:=decide (1≤ps.length∧ps.length≤6)&&allI ps.length (patAt ps)
def patAtI(ps:List DPat)(i:Nat):Bool:=patOk (List.getD ps i zPat)&&(notAt ps i==decide (posN ps≤i))
def patsOkI(ps:List DPat):Bool:=decide (1≤ps.length∧ps.length≤6)&&decide (1≤posN ps∧posN ps≤3)&&allI ps.length (patAtI ps)
theorem allI_all{n:Nat}{p:Nat→Bool}:allI n p=true↔∀j,j<n→p j=true:=by simp[allI]
theorem posN_cons(p:DPat)(ps:List DPat):posN (p::ps)=(if p.Not then 0 else 1)+posN ps:=by
 simp only[posN,List.filter_cons]
 cases p.Not<;>simp<;>omega
theorem not_mono:∀{ps:List DPat},(∀i,i+1<ps.length→notAt ps i=true→notAt ps (i+1)=true)→∀i,i<ps.length→notAt ps i=decide (posN ps≤i)
 |[],_,i,hi=>by simp at hi
 |p::ps,h,i,hi=>by
  have ih:=not_mono (ps:=ps) (fun j hj hn=>h (j+1) (by simpa using hj) hn)
  rw[posN_cons]
  cases hp:p.Not with
  |false=>
   cases i with
   |zero=>show p.Not=_;rw[hp];simp
   |succ i=>
    show notAt ps i=_
    rw[ih i (by simpa using hi)]
    simp only[zbg,if_false,decide_eq_decide];omega
  |true=>
   have hall:∀j,j<(p::ps).length→notAt (p::ps) j=true:=by
    intro j
    induction j with
    |zero=>intro _;exact hp
    |succ j ihj=>intro hj;exact h j hj (ihj (by omega))
   have h0:posN ps=0:=by
    cases ps with
    |nil=>rfl
    |cons q qs=>
     have h1:=ih 0 (by simp)
     have h2:notAt (q::qs) 0=true:=hall 1 (by simp)
     rw[h2] at h1
     have:=of_decide_eq_true h1.symm
     omega
   rw[hall i hi,h0];simp
theorem patsOkI_eq(ps:List DPat):patsOkI ps=patsOk ps:=by
 rw[zcm]
 simp only[patsOkI,patsOk,zaf,decide_eq_true_eq,allI_all]
 constructor
 ·rintro⟨⟨h1,h2⟩,h3⟩
  have hN:∀j,j<ps.length→notAt ps j=decide (posN ps≤j):=fun j hj=>by
   have:=h3 j hj
   simp only[patAtI,zaf,beq_iff_eq] at this
   exact this.2
  refine⟨h1,fun j hj=> ?_⟩
  have hk:=h3 j hj
  simp only[patAtI,zaf] at hk
  simp only[patAt,hk.1,hN j hj,zck,zaf,zbd,Bool.and_eq_false_iff,decide_eq_false_iff_not,Bool.not_eq_false',decide_eq_true_eq]
  refine⟨⟨by omega,by omega⟩,?_⟩
  by_cases h0:0<j
  ·rw[hN (j-1) (by omega)];simp only[decide_eq_false_iff_not];omega
  ·exact .inl (.inl h0)
 ·rintro⟨h1,h2⟩
  have hA:∀j,j<ps.length→patOk (List.getD ps j zPat)=true∧(2<j→notAt ps j=true)∧(j=0→notAt ps j=false)∧(0<j→notAt ps (j-1)=true→notAt ps j=true):=fun j hj=>by
   have:=h2 j hj
   simp only[patAt,zaf,zbd,Bool.and_eq_false_iff,decide_eq_false_iff_not,Bool.not_eq_false'] at this
   obtain⟨⟨⟨a1,a2⟩,a3⟩,a4⟩:=this
   refine⟨a1,fun h=>a2.resolve_left (fun e=>e h),fun h=>a3.resolve_left (fun e=>e h),fun h hn=>a4.resolve_left (fun e=> ?_)⟩
   rcases e with e|e
   ·exact e h
   ·rw[hn] at e;cases e
  have hN:=not_mono (ps:=ps) (fun i hi hn=>(hA (i+1) hi).2.2.2 (by omega) (by simpa using hn))
  have hz:=(hA 0 (by omega)).2.2.1 rfl
  rw[hN 0 (by omega)] at hz
  have hz:=of_decide_eq_false hz
  have hle:posN ps≤ps.length:=zdt _ _
  refine⟨⟨h1,by omega,?_⟩,fun j hj=> ?_⟩
  ·by_cases h4:3<ps.length
   ·have:=(hA 3 h4).2.1 (by omega)
    rw[hN 3 h4] at this
    exact of_decide_eq_true this
   ·omega
  ·simp only[patAtI,(hA j hj).1,hN j hj];simp
def knownIn(vars:List ByteArray)(a:DArg):Bool:= !decide (a.K=1)||hasS vars a.S
def kondIn(vars:List ByteArray)(c:DCond):Bool:=kondOk c&&knownIn vars c.L&&knownIn vars c.R
def kondsIn(l:List DCond)(vars:List ByteArray):Bool:=decide (l.length≤6)&&l.all (kondIn vars)
def exprIn(vars:List ByteArray)(e:DExpr):Bool:=knownIn vars e.L&&knownIn vars e.R
def dropIn(pos:Int)(a:DAct):Bool:= !(decide (a.Kind=2)&&decide (pos≤a.N))
def actIn(vars:List ByteArray)(pos:Int)(a:DAct):Bool:=actOk a&&dropIn pos a&&a.Args.all (exprIn vars)
def actsIn(l:List DAct)(vars:List ByteArray)(pos:Int):Bool:=decide (1≤l.length∧l.length≤6)&&l.all (actIn vars pos)
def ruleOk(r:DRule):Bool:=nameOk r.Name&&decide (-100≤r.Sal∧r.Sal≤100)&&patsOk r.Pats&&kondsIn r.Conds (posVarsS r.Pats)&&actsIn r.Acts (posVarsS r.Pats) (posN r.Pats)
theorem patArgs_size(ps:List DPat):patArgs ps≤sizePatS ps:=by
 simp only[patArgs,sizePatS]
 have:∀l:List DPat,(l.map fun p=>p.Args.length).sum≤(l.map sizePat).sum:=by
  intro l
  induction l with
  |nil=>exact zca _
  |cons p l ih=>simp only[zbt,zdc,sizePat,sizeArgS] at ih⊢;omega
 have:=this ps;omega
theorem has_same(ps:List DPat)(t:ByteArray):hasS (posVars ps) t=hasS (posVarsS ps) t:=by
 rw[zcm,hasS_iff,hasS_iff,posVars_mem,posVarsS_mem]
def usedC(l:List ByteArray)(c:DCond):List ByteArray:=addVars l [c.L,c.R]
def usedE(l:List ByteArray)(e:DExpr):List ByteArray:=addVars l [e.L,e.R]
def usedA(l:List ByteArray)(a:DAct):List ByteArray:=a.Args.foldl usedE l
def usedV(r:DRule):List ByteArray:=r.Acts.foldl usedA (r.Conds.foldl usedC [])
def usedN(l:List DAct):Nat:=(l.map fun a=>2*a.Args.length).sum
theorem usedC_len(l:List ByteArray)(c:DCond):(usedC l c).length≤l.length+2:=addVars_len _ _
theorem usedE_len:∀(es:List DExpr)(l:List ByteArray),(es.foldl usedE l).length≤l.length+2*es.length
 |[],l=>zca _
 |e::es,l=>by
  have h1:=usedE_len es (usedE l e)
  have h2:(usedE l e).length≤l.length+2:=addVars_len _ _
  show(es.foldl usedE (usedE l e)).length≤_
  simp only[zbq];omega
theorem usedCs_len:∀(cs:List DCond)(l:List ByteArray),(cs.foldl usedC l).length≤l.length+2*cs.length
 |[],l=>zca _
 |c::cs,l=>by
  have h1:=usedCs_len cs (usedC l c)
  have h2:=usedC_len l c
  show(cs.foldl usedC (usedC l c)).length≤_
  simp only[zbq];omega
theorem usedAs_len:∀(xs:List DAct)(l:List ByteArray),(xs.foldl usedA l).length≤l.length+usedN xs
 |[],l=>zca _
 |a::xs,l=>by
  have h1:=usedAs_len xs (usedA l a)
  have h2:(usedA l a).length≤l.length+2*a.Args.length:=usedE_len _ _
  show(xs.foldl usedA (usedA l a)).length≤_
  simp only[usedN,zbt,zdc] at h1⊢;omega
theorem usedN_at(l:List DAct){i:Int}(h0:0≤i)(h:i<l.length):usedN (l.take i.toNat)+2*(List.getD l i.toNat zAct).Args.length≤usedN l:=by
 have h1:usedN (l.take (i+1).toNat)≤usedN l:=by
  have h:=congrArg (fun q=>(q.map fun a:DAct=>2*a.Args.length).sum) (zcq (i+1).toNat l)
  simp only[zef,zet] at h
  simp only[usedN];omega
 rw[←take_step l zAct h0 h] at h1
 simp only[usedN,zef,zet,zbt,List.map_nil,zdc,List.sum_nil] at h1⊢
 omega
def names(t:ByteArray)(a:DArg):Prop:=a.K=1∧t=a.S
theorem used2_mem{l:List ByteArray}{a b:DArg}{t:ByteArray}:t∈addVars l [a,b]↔t∈l∨names t a∨names t b:=by
 rw[addVars_mem];simp[names]
theorem usedE_mem{t:ByteArray}:∀{es:List DExpr}{l:List ByteArray},t∈es.foldl usedE l↔t∈l∨∃e∈es,names t e.L∨names t e.R
 |[],l=>by simp
 |e::es,l=>by
  show t∈es.foldl usedE (usedE l e)↔_
  rw[usedE_mem,usedE,used2_mem]
  simp only[zak,exists_eq_or_imp,or_assoc]
theorem usedCs_mem{t:ByteArray}:∀{cs:List DCond}{l:List ByteArray},t∈cs.foldl usedC l↔t∈l∨∃c∈cs,names t c.L∨names t c.R
 |[],l=>by simp
 |c::cs,l=>by
  show t∈cs.foldl usedC (usedC l c)↔_
  rw[usedCs_mem,usedC,used2_mem]
  simp only[zak,exists_eq_or_imp,or_assoc]
theorem usedAs_mem{t:ByteArray}:∀{xs:List DAct}{l:List ByteArray},t∈xs.foldl usedA l↔t∈l∨∃a∈xs,∃e∈a.Args,names t e.L∨names t e.R
 |[],l=>by simp
 |a::xs,l=>by
  show t∈xs.foldl usedA (usedA l a)↔_
  rw[usedAs_mem,usedA,usedE_mem]
  simp only[zak,exists_eq_or_imp,or_assoc]
theorem knownIn_iff{vars:List ByteArray}{a:DArg}:knownIn vars a=true↔∀t,names t a→hasS vars t=true:=by
 simp only[knownIn,zcn,zbd,decide_eq_false_iff_not,names]
 constructor
 ·rintro(h|h) t ⟨h1,rfl⟩
  ·exact absurd h1 h
  ·exact h
 ·intro h
  by_cases h1:a.K=1
  ·exact .inr (h a.S ⟨h1,rfl⟩)
  ·exact .inl h1
theorem used_all(r:DRule)(vars:List ByteArray):(usedV r).all (hasS vars)=(r.Conds.all (fun c=>knownIn vars c.L&&knownIn vars c.R)&&r.Acts.all fun a=>a.Args.all (exprIn vars)):=by
 rw[zcm]
 simp only[zaf,zcb,exprIn,knownIn_iff,usedV]
 constructor
 ·intro h
  refine⟨fun c hc=>⟨fun t ht=>h t ?_,fun t ht=>h t ?_⟩,fun a ha e he=>⟨fun t ht=>h t ?_,fun t ht=>h t ?_⟩⟩
  ·rw[usedAs_mem,usedCs_mem];exact .inl (.inr ⟨c,hc,.inl ht⟩)
  ·rw[usedAs_mem,usedCs_mem];exact .inl (.inr ⟨c,hc,.inr ht⟩)
  ·rw[usedAs_mem];exact .inr ⟨a,ha,e,he,.inl ht⟩
  ·rw[usedAs_mem];exact .inr ⟨a,ha,e,he,.inr ht⟩
 ·rintro⟨h1,h2⟩ t ht
  rw[usedAs_mem,usedCs_mem] at ht
  rcases ht with(ht|⟨c,hc,ht|ht⟩)|⟨a,ha,e,he,ht|ht⟩
  ·cases ht
  ·exact(h1 c hc).1 t ht
  ·exact(h1 c hc).2 t ht
  ·exact(h2 a ha e he).1 t ht
  ·exact(h2 a ha e he).2 t ht
def ruleOkI(r:DRule):Bool:=nameOk r.Name&&decide (-100≤r.Sal∧r.Sal≤100)&&patsOk r.Pats&&decide (r.Conds.length≤6)&&decide (1≤r.Acts.length∧r.Acts.length≤6)&&r.Conds.all kondOk&&r.Acts.all (fun a=>actOk a&&dropIn (posN r.Pats) a)&&(usedV r).all (hasS (posVars r.Pats))
theorem all_and{α:Type}(p q:α→Bool)(l:List α):l.all (fun x=>p x&&q x)=(l.all p&&l.all q):=by
 induction l with
 |nil=>rfl
 |cons x l ih=>simp only[zdr,ih];cases p x<;>cases q x<;>simp
theorem ruleOkI_eq(r:DRule):ruleOkI r=ruleOk r:=by
 have e1:(usedV r).all (hasS (posVars r.Pats))=(usedV r).all (hasS (posVarsS r.Pats)):=by
  have:hasS (posVars r.Pats)=hasS (posVarsS r.Pats):=funext fun t=>has_same _ _
  rw[this]
 have e2:r.Conds.all (kondIn (posVarsS r.Pats))=(r.Conds.all kondOk&&r.Conds.all (fun c=>knownIn (posVarsS r.Pats) c.L&&knownIn (posVarsS r.Pats) c.R)):=by
  rw[←all_and]
  congr 1;funext c;simp only[kondIn,Bool.and_assoc]
 have e3:r.Acts.all (actIn (posVarsS r.Pats) (posN r.Pats))=(r.Acts.all (fun a=>actOk a&&dropIn (posN r.Pats) a)&&r.Acts.all (fun a=>a.Args.all (exprIn (posVarsS r.Pats)))):=by
  rw[←all_and];rfl
 simp only[ruleOkI,ruleOk,kondsIn,actsIn,e1,e2,e3,used_all]
 rw[zcm]
 simp only[zaf]
 constructor
 ·rintro⟨⟨⟨⟨⟨⟨⟨a1,a2⟩,a3⟩,a4⟩,a5⟩,a6⟩,a7⟩,a8,a9⟩
  exact⟨⟨⟨⟨a1,a2⟩,a3⟩,a4,a6,a8⟩,a5,a7,a9⟩
 ·rintro⟨⟨⟨⟨a1,a2⟩,a3⟩,a4,a6,a8⟩,a5,a7,a9⟩
  exact⟨⟨⟨⟨⟨⟨⟨a1,a2⟩,a3⟩,a4⟩,a5⟩,a6⟩,a7⟩,a8,a9⟩
theorem if_dec{p:Prop}[Decidable p]{P Q:Prop}(h1:p→P)(h2:¬p→Q):bif decide p then P else Q:=if_cond (fun h=>h1 (of_decide_eq_true h)) (fun h=>h2 (of_decide_eq_false h))
theorem if_not{b:Bool}{P Q:Prop}(h1:b=false→P)(h2:b=true→Q):bif !b then P else Q:=if_cond (fun h=>h1 (by simpa using h)) (fun h=>h2 (by simpa using h))
theorem if_num{a b:Int}{P Q:Prop}(h1:a=b→P)(h2:¬a=b→Q):bif a==b then P else Q:=if_cond (fun h=>h1 (eq_of_beq h)) (fun h=>h2 (fun e=>by rw[e] at h;simp at h))
theorem sumC{α:Type}(f:α→Nat)(B:Nat):∀(l:List α),(∀x∈l,f x≤B)→(l.map f).sum≤l.length*B
 |[],_=>by simp
 |x::l,h=>by
  have h1:=sumC f B l (fun y hy=>h y (zaa _ hy))
  have h2:=h x zab
  simp only[zbt,zdc,zbq,zci];omega
theorem patsOk_args{ps:List DPat}(h:patsOk ps=true):patArgs ps≤30:=by
 simp only[patsOk,zaf,decide_eq_true_eq,allI_all] at h
 have:=sumC (fun p:DPat=>p.Args.length) 5 ps (fun p hp=>by
  obtain⟨i,hi,rfl⟩:=zbk hp
  have hk:=h.2 i hi
  simp only[patAt,zaf,zac,zad hi,zcj] at hk
  have hk:=hk.1.1.1
  simp only[patOk,zaf,decide_eq_true_eq] at hk
  exact hk.1.2)
 simp only[patArgs];omega
theorem actOk_args{a:DAct}(h:actOk a=true):a.Args.length≤5:=by
 simp only[actOk,bareA,exprsOk] at h
 grind
theorem actsOk_used{l:List DAct}(hl:l.length≤6)(h:∀a∈l,actOk a=true):usedN l≤60:=by
 have:=sumC (fun a:DAct=>2*a.Args.length) 10 l (fun a ha=>by have:=actOk_args (h a ha);omega)
 simp only[usedN];omega
def Zk225:Con UU where
 α:=DArg×(List ByteArray)
 md:=[.ro,.ro]
 of:=oC (oA .eArg) (o1 (oL .str))
 ds:=fun x=>[dA .eArg x.1,dL .str x.2]
 pre:=fun _=>[]
 res:=fun(a,vars)=>⟨[dO (knownIn vars a)],true,[]⟩
 law:=lC (lA .eArg) (l1 (lL .str))
def Za225:Zk225.α→Nat→Option (Ann UU):=fun(a,vars)=>annL []
def Zu225:=us [Zh223]
theorem Zo225:Holds EE (225,Zk225):=by
 refine holds_of EE_ok func225 Zk225 (by kernel_rfl) Zu225 (us_ok _) Za225 (fun x hp hb=> ?_)
 obtain⟨a,vars⟩:=x
 have hz0:=bd_eArg (x:=a) (hb _ m0)
 have hl_a_S:=hz0.1
 have hl_a_V_S:=hz0.2
 have hl_vars:vars.length≤9223372036854775807:=bdL (hb _ m1)
 clear hp hb
 apply @ve _ (bif a.K !=(1:Int) then Lb true (knownIn vars a) else Lb (hasS vars a.S) (knownIn vars a)) (by kernel_rfl)
 simp only[knownIn]
 refine if_cond (fun h=>Lf_b ?_) (fun h=>Lf_b ?_)<;>grind
def Zh225:HH:=⟨_,Zo225⟩
def Zk172:Con UU where
 α:=(List DCond)×(List ByteArray)
 md:=[.ro,.ro]
 of:=oC (oL .eCond) (o1 (oL .str))
 ds:=fun x=>[dL .eCond x.1,dL .str x.2]
 pre:=fun _=>[]
 res:=fun(l,vars)=>⟨[dO (kondsIn l vars)],true,[]⟩
 law:=lC (lL .eCond) (l1 (lL .str))
def Zi172_2(l:(List DCond))(vars:(List ByteArray)):Int×Unit→Prop:=fun(i,_)=>0≤i∧i≤l.length∧(l.drop i.toNat).all (kondIn vars)=l.all (kondIn vars)
def Zm172_2(l:(List DCond))(vars:(List ByteArray)):Int×Unit→Nat:=fun(i,_)=>l.length-i.toNat
def Za172:Zk172.α→Nat→Option (Ann UU):=fun(l,vars)=>annL [(2,annOf [.slot 5 (5,1024) (.lit (.int .i64))] (fun _=>Zi172_2 l vars) (Zm172_2 l vars))]
def Zu172:=us [Zh242,Zh225]
theorem Zo172:Holds EE (172,Zk172):=by
 refine holds_of EE_ok func172 Zk172 (by kernel_rfl) Zu172 (us_ok _) Za172 (fun x hp hb=> ?_)
 obtain⟨l,vars⟩:=x
 have hl_l:l.length≤9223372036854775807:=bdL (hb _ m0)
 have hl_vars:vars.length≤9223372036854775807:=bdL (hb _ m1)
 clear hp hb
 apply @ve _ (let x0:Int:=(l.length:Int);Zi172_2 l vars ((0:Int),())∧∀(y:Int×PUnit),let x1:DCond:=List.getD l y.1.toNat zCond;Zi172_2 l vars y→bif decide (y.1<x0) then(0:Int)≤y.1∧y.1.toNat<l.length∧bif !kondOk x1 then Lb false (kondsIn l vars) else(0:Int)≤y.1∧y.1.toNat<l.length∧bif !knownIn vars x1.L then Lb false (kondsIn l vars) else(0:Int)≤y.1∧y.1.toNat<l.length∧bif !knownIn vars x1.R then Lb false (kondsIn l vars) else Zi172_2 l vars (IntKind.wrap IntKind.i64 (y.1+(1:Int)),())∧Zm172_2 l vars (IntKind.wrap IntKind.i64 (y.1+(1:Int)),())<Zm172_2 l vars y else Lb (decide (x0≤(6:Int))) (kondsIn l vars)) (by kernel_rfl)
 dsimp only
 refine⟨⟨by omega,by omega,rfl⟩,?_⟩
 rintro⟨i,⟨⟩⟩ ⟨h1,h2,hR⟩
 simp only
 refine if_dec (fun hc=> ?_) (fun hc=> ?_)
 ·rw[all_step _ _ zCond h1 (by omega)] at hR
  rw[wrap_i64 (by omega) (by omega)]
  have hN:kondIn vars (List.getD l i.toNat zCond)=false→kondsIn l vars=false:=fun h=>by simp only[kondsIn,←hR,h];simp
  refine⟨by omega,by omega,if_not (fun h=>Lf_ff (hN ?_)) (fun h=>⟨by omega,by omega,if_not (fun g=>Lf_ff (hN ?_)) (fun g=>⟨by omega,by omega,if_not (fun k=>Lf_ff (hN ?_)) (fun k=>⟨⟨by omega,by omega,?_⟩,by simp only[Zm172_2];omega⟩)⟩)⟩)⟩
  ·simp only[kondIn,h,zbi]
  ·simp only[kondIn,g,zbs,zbi]
  ·simp only[kondIn,k,zbs]
  ·rw[←hR];simp only[kondIn,h,g,k,zck]
 ·rw[drop_end _ (by omega)] at hR
  refine Lf_b ?_
  simp only[kondsIn,←hR];simp;omega
def Zh172:HH:=⟨_,Zo172⟩
def Zk173:Con UU where
 α:=(List DAct)×(List ByteArray)×Int
 md:=[.ro,.ro,.ro]
 of:=oC (oL .eAct) (oC (oL .str) (o1 oI))
 ds:=fun x=>[dL .eAct x.1,dL .str x.2.1,dI x.2.2]
 pre:=fun _=>[]
 res:=fun(l,vars,pos)=>⟨[dO (actsIn l vars pos)],true,[]⟩
 law:=lC (lL .eAct) (lC (lL .str) (l1 lI))
def Zi173_2(l:(List DAct))(vars:(List ByteArray))(pos:Int):Int×Unit→Prop:=fun(i,_)=>0≤i∧i≤l.length∧(l.drop i.toNat).all (actIn vars pos)=l.all (actIn vars pos)
def Zm173_2(l:(List DAct))(vars:(List ByteArray))(pos:Int):Int×Unit→Nat:=fun(i,_)=>l.length-i.toNat
def Zi173_7(l:(List DAct))(vars:(List ByteArray))(pos:Int):Int×Int×Unit→Int×Int×Unit→Prop:=fun(i0,k0,_) (i,k,_)=>i=i0∧0≤k∧k≤(List.getD l i.toNat zAct).Args.length∧((List.getD l i.toNat zAct).Args.drop k.toNat).all (exprIn vars)=(List.getD l i.toNat zAct).Args.all (exprIn vars)
def Zm173_7(l:(List DAct))(vars:(List ByteArray))(pos:Int):Int×Int×Unit→Nat:=fun(i,k,_)=>(List.getD l i.toNat zAct).Args.length-k.toNat
def Za173:Zk173.α→Nat→Option (Ann UU):=fun(l,vars,pos)=>annL [(2,annOf [.slot 7 (7,1024) (.lit (.int .i64))] (fun _=>Zi173_2 l vars pos) (Zm173_2 l vars pos)),(7,annOf [.slot 7 (7,1024) (.lit (.int .i64)),.slot 8 (8,1024) (.lit (.int .i64))] (Zi173_7 l vars pos) (Zm173_7 l vars pos))]
def Zu173:=us [Zh243,Zh225,Zh104]
theorem Zo173:Holds EE (173,Zk173):=by
 refine holds_of EE_ok func173 Zk173 (by kernel_rfl) Zu173 (us_ok _) Za173 (fun x hp hb=> ?_)
 obtain⟨l,vars,pos⟩:=x
 have hl_l:l.length≤9223372036854775807:=bdL (hb _ m0)
 have hl_vars:vars.length≤9223372036854775807:=bdL (hb _ m1)
 have hl_pos:=bdI (n:=pos) (hb _ m2)
 clear hp hb
 apply @ve _ (let x0:Int:=(l.length:Int);Zi173_2 l vars pos ((0:Int),())∧∀(y:Int×PUnit),let x1:DAct:=List.getD l y.1.toNat zAct;Zi173_2 l vars pos y→bif decide (y.1<x0) then(0:Int)≤y.1∧y.1.toNat<l.length∧bif !actOk x1 then Lb false (actsIn l vars pos) else(0:Int)≤y.1∧y.1.toNat<l.length∧bif x1.Kind==(2:Int) then(0:Int)≤y.1∧y.1.toNat<l.length∧bif decide (x1.N≥pos) then Lb false (actsIn l vars pos) else Zi173_7 l vars pos (y.1,(0:Int),()) (y.1,(0:Int),())∧∀(y_1:Int×Int×PUnit),let x3:Nat:=y_1.2.1.toNat;let x4:Int:=(↑(List.length (List.getD l y_1.1.toNat zAct).Args):Int);let x2:DExpr:=List.getD (List.getD l y_1.1.toNat zAct).Args x3 zExpr;Zi173_7 l vars pos (y.1,(0:Int),()) y_1→(0:Int)≤y_1.1∧y_1.1.toNat<l.length∧bif decide (y_1.2.1<x4) then(0:Int)≤y_1.1∧y_1.1.toNat<l.length∧(0:Int)≤y_1.2.1∧x3<List.length (List.getD l y_1.1.toNat zAct).Args∧bif !knownIn vars x2.L then Lb false (actsIn l vars pos) else(0:Int)≤y_1.1∧y_1.1.toNat<l.length∧(0:Int)≤y_1.2.1∧x3<List.length (List.getD l y_1.1.toNat zAct).Args∧bif !knownIn vars x2.R then Lb false (actsIn l vars pos) else Zi173_7 l vars pos (y.1,(0:Int),()) (y_1.1,IntKind.wrap IntKind.i64 (y_1.2.1+(1:Int)),())∧Zm173_7 l vars pos (y_1.1,IntKind.wrap IntKind.i64 (y_1.2.1+(1:Int)),())<Zm173_7 l vars pos y_1 else Zi173_2 l vars pos (IntKind.wrap IntKind.i64 (y_1.1+(1:Int)),())∧Zm173_2 l vars pos (IntKind.wrap IntKind.i64 (y_1.1+(1:Int)),())<Zm173_2 l vars pos y else Zi173_7 l vars pos (y.1,(0:Int),()) (y.1,(0:Int),())∧∀(y_1:Int×Int×PUnit),let x3:Nat:=y_1.2.1.toNat;let x4:Int:=(↑(List.length (List.getD l y_1.1.toNat zAct).Args):Int);let x2:DExpr:=List.getD (List.getD l y_1.1.toNat zAct).Args x3 zExpr;Zi173_7 l vars pos (y.1,(0:Int),()) y_1→(0:Int)≤y_1.1∧y_1.1.toNat<l.length∧bif decide (y_1.2.1<x4) then(0:Int)≤y_1.1∧y_1.1.toNat<l.length∧(0:Int)≤y_1.2.1∧x3<List.length (List.getD l y_1.1.toNat zAct).Args∧bif !knownIn vars x2.L then Lb false (actsIn l vars pos) else(0:Int)≤y_1.1∧y_1.1.toNat<l.length∧(0:Int)≤y_1.2.1∧x3<List.length (List.getD l y_1.1.toNat zAct).Args∧bif !knownIn vars x2.R then Lb false (actsIn l vars pos) else Zi173_7 l vars pos (y.1,(0:Int),()) (y_1.1,IntKind.wrap IntKind.i64 (y_1.2.1+(1:Int)),())∧Zm173_7 l vars pos (y_1.1,IntKind.wrap IntKind.i64 (y_1.2.1+(1:Int)),())<Zm173_7 l vars pos y_1 else Zi173_2 l vars pos (IntKind.wrap IntKind.i64 (y_1.1+(1:Int)),())∧Zm173_2 l vars pos (IntKind.wrap IntKind.i64 (y_1.1+(1:Int)),())<Zm173_2 l vars pos y else Lb (decide ((1:Int)≤x0∧x0≤(6:Int))) (actsIn l vars pos)) (by kernel_rfl)
 dsimp only
 refine⟨⟨by omega,by omega,rfl⟩,?_⟩
 rintro⟨i,⟨⟩⟩ ⟨h1,h2,hR⟩
 simp only
 refine if_dec (fun hc=> ?_) (fun hc=> ?_)
 ·rw[all_step _ _ zAct h1 (by omega)] at hR
  have hN:actIn vars pos (List.getD l i.toNat zAct)=false→actsIn l vars pos=false:=fun h=>by simp only[actsIn,←hR,h];simp
  refine⟨by omega,by omega,if_not (fun ha=>Lf_ff (hN (by simp only[actIn,ha,zbi]))) (fun ha=>⟨by omega,by omega,if_num (fun hk2=>⟨by omega,by omega,if_dec (fun hp=>Lf_ff (hN ?_)) (fun hp=> ?_)⟩) (fun hk2=> ?_)⟩)⟩
  ·have:dropIn pos (List.getD l i.toNat zAct)=false:=by simp only[dropIn,hk2,decide_eq_true (show pos≤(List.getD l i.toNat zAct).N from hp)];simp
   simp only[actIn,this,zbs,zbi]
  ·have hd:dropIn pos (List.getD l i.toNat zAct)=true:=by simp only[dropIn,decide_eq_false (show¬pos≤(List.getD l i.toNat zAct).N from hp)];simp
   have h5:=actOk_args ha
   refine⟨⟨rfl,by omega,by omega,rfl⟩,?_⟩
   rintro⟨i',k,⟨⟩⟩ ⟨rfl,g1,g2,gR⟩
   simp only
   refine⟨by omega,by omega,if_dec (fun hk=> ?_) (fun hk=> ?_)⟩
   ·rw[all_step _ _ zExpr g1 (by omega)] at gR
    rw[wrap_i64 (n:=k+1) (by omega) (by omega)]
    have hM:exprIn vars (List.getD (List.getD l i'.toNat zAct).Args k.toNat zExpr)=false→actsIn l vars pos=false:=fun h=>hN (by simp only[actIn,←gR,h];simp)
    refine⟨by omega,by omega,g1,by omega,if_not (fun e=>Lf_ff (hM ?_)) (fun e=>⟨by omega,by omega,g1,by omega,if_not (fun f=>Lf_ff (hM ?_)) (fun f=>⟨⟨rfl,by omega,by omega,?_⟩,by simp only[Zm173_7];omega⟩)⟩)⟩
    ·simp only[exprIn,e,zbi]
    ·simp only[exprIn,f,zbs]
    ·rw[←gR];simp only[exprIn,e,f,zck]
   ·rw[drop_end _ (by omega)] at gR
    rw[wrap_i64 (n:=i'+1) (by omega) (by omega)]
    refine⟨⟨by omega,by omega,?_⟩,by simp only[Zm173_2];omega⟩
    rw[←hR];simp only[actIn,←gR,hd,ha,zes,zck]
  ·have hd:dropIn pos (List.getD l i.toNat zAct)=true:=by simp only[dropIn,decide_eq_false hk2];simp
   have h5:=actOk_args ha
   refine⟨⟨rfl,by omega,by omega,rfl⟩,?_⟩
   rintro⟨i',k,⟨⟩⟩ ⟨rfl,g1,g2,gR⟩
   simp only
   refine⟨by omega,by omega,if_dec (fun hk=> ?_) (fun hk=> ?_)⟩
   ·rw[all_step _ _ zExpr g1 (by omega)] at gR
    rw[wrap_i64 (n:=k+1) (by omega) (by omega)]
    have hM:exprIn vars (List.getD (List.getD l i'.toNat zAct).Args k.toNat zExpr)=false→actsIn l vars pos=false:=fun h=>hN (by simp only[actIn,←gR,h];simp)
    refine⟨by omega,by omega,g1,by omega,if_not (fun e=>Lf_ff (hM ?_)) (fun e=>⟨by omega,by omega,g1,by omega,if_not (fun f=>Lf_ff (hM ?_)) (fun f=>⟨⟨rfl,by omega,by omega,?_⟩,by simp only[Zm173_7];omega⟩)⟩)⟩
    ·simp only[exprIn,e,zbi]
    ·simp only[exprIn,f,zbs]
    ·rw[←gR];simp only[exprIn,e,f,zck]
   ·rw[drop_end _ (by omega)] at gR
    rw[wrap_i64 (n:=i'+1) (by omega) (by omega)]
    refine⟨⟨by omega,by omega,?_⟩,by simp only[Zm173_2];omega⟩
    rw[←hR];simp only[actIn,←gR,hd,ha,zes,zck]
 ·rw[drop_end _ (by omega)] at hR
  refine Lf_b ?_
  simp only[actsIn,←hR,zes,zdb];exact decide_eq_decide.2 (by omega)
def Zh173:HH:=⟨_,Zo173⟩
def Zk171:Con UU where
 α:=(List DPat)
 md:=[.ro]
 of:=o1 (oL .ePat)
 ds:=fun x=>[dL .ePat x]
 pre:=fun _=>[]
 res:=fun l=>⟨[dO (patsOk l)],true,[]⟩
 law:=l1 (lL .ePat)
def Zi171_2(l:(List DPat)):Int×Unit→Prop:=fun(i,_)=>0≤i∧i≤l.length∧∀j:Nat,(j:Int)<i→patAt l j=true
def Zm171_2(l:(List DPat)):Int×Unit→Nat:=fun(i,_)=>l.length-i.toNat
def Za171:Zk171.α→Nat→Option (Ann UU):=fun l=>annL [(2,annOf [.slot 3 (3,1024) (.lit (.int .i64))] (fun _=>Zi171_2 l) (Zm171_2 l))]
def Zu171:=us [Zh241,Zh104]
theorem Zo171:Holds EE (171,Zk171):=by
 refine holds_of EE_ok func171 Zk171 (by kernel_rfl) Zu171 (us_ok _) Za171 (fun(l:(List DPat)) hp hb=> ?_)
 have hl_l:l.length≤9223372036854775807:=bdL (hb _ m0)
 clear hp hb
 apply @ve _ (let x0:Int:=(l.length:Int);Zi171_2 l ((0:Int),())∧∀(y:Int×PUnit),let x1:Nat:=Int.toNat (IntKind.wrap IntKind.i64 (y.1-(1:Int)));Zi171_2 l y→bif decide (y.1<x0) then bif decide (y.1>(2:Int)) then(0:Int)≤y.1∧y.1.toNat<l.length∧bif !(List.getD l y.1.toNat zPat).Not then Lb false (patsOk l) else(0:Int)≤y.1∧y.1.toNat<l.length∧bif !patOk (List.getD l y.1.toNat zPat) then Lb false (patsOk l) else bif y.1==(0:Int) then(0:Int)≤y.1∧y.1.toNat<l.length∧bif (List.getD l y.1.toNat zPat).Not then Lb false (patsOk l) else bif decide (y.1>(0:Int)) then(0:Int)≤IntKind.wrap IntKind.i64 (y.1-(1:Int))∧x1<l.length∧bif (List.getD l x1 zPat).Not then(0:Int)≤y.1∧y.1.toNat<l.length∧bif !(List.getD l y.1.toNat zPat).Not then Lb false (patsOk l) else Zi171_2 l (IntKind.wrap IntKind.i64 (y.1+(1:Int)),())∧Zm171_2 l (IntKind.wrap IntKind.i64 (y.1+(1:Int)),())<Zm171_2 l y else Zi171_2 l (IntKind.wrap IntKind.i64 (y.1+(1:Int)),())∧Zm171_2 l (IntKind.wrap IntKind.i64 (y.1+(1:Int)),())<Zm171_2 l y else Zi171_2 l (IntKind.wrap IntKind.i64 (y.1+(1:Int)),())∧Zm171_2 l (IntKind.wrap IntKind.i64 (y.1+(1:Int)),())<Zm171_2 l y else bif decide (y.1>(0:Int)) then(0:Int)≤IntKind.wrap IntKind.i64 (y.1-(1:Int))∧x1<l.length∧bif (List.getD l x1 zPat).Not then(0:Int)≤y.1∧y.1.toNat<l.length∧bif !(List.getD l y.1.toNat zPat).Not then Lb false (patsOk l) else Zi171_2 l (IntKind.wrap IntKind.i64 (y.1+(1:Int)),())∧Zm171_2 l (IntKind.wrap IntKind.i64 (y.1+(1:Int)),())<Zm171_2 l y else Zi171_2 l (IntKind.wrap IntKind.i64 (y.1+(1:Int)),())∧Zm171_2 l (IntKind.wrap IntKind.i64 (y.1+(1:Int)),())<Zm171_2 l y else Zi171_2 l (IntKind.wrap IntKind.i64 (y.1+(1:Int)),())∧Zm171_2 l (IntKind.wrap IntKind.i64 (y.1+(1:Int)),())<Zm171_2 l y else(0:Int)≤y.1∧y.1.toNat<l.length∧bif !patOk (List.getD l y.1.toNat zPat) then Lb false (patsOk l) else bif y.1==(0:Int) then(0:Int)≤y.1∧y.1.toNat<l.length∧bif (List.getD l y.1.toNat zPat).Not then Lb false (patsOk l) else bif decide (y.1>(0:Int)) then(0:Int)≤IntKind.wrap IntKind.i64 (y.1-(1:Int))∧x1<l.length∧bif (List.getD l x1 zPat).Not then(0:Int)≤y.1∧y.1.toNat<l.length∧bif !(List.getD l y.1.toNat zPat).Not then Lb false (patsOk l) else Zi171_2 l (IntKind.wrap IntKind.i64 (y.1+(1:Int)),())∧Zm171_2 l (IntKind.wrap IntKind.i64 (y.1+(1:Int)),())<Zm171_2 l y else Zi171_2 l (IntKind.wrap IntKind.i64 (y.1+(1:Int)),())∧Zm171_2 l (IntKind.wrap IntKind.i64 (y.1+(1:Int)),())<Zm171_2 l y else Zi171_2 l (IntKind.wrap IntKind.i64 (y.1+(1:Int)),())∧Zm171_2 l (IntKind.wrap IntKind.i64 (y.1+(1:Int)),())<Zm171_2 l y else bif decide (y.1>(0:Int)) then(0:Int)≤IntKind.wrap IntKind.i64 (y.1-(1:Int))∧x1<l.length∧bif (List.getD l x1 zPat).Not then(0:Int)≤y.1∧y.1.toNat<l.length∧bif !(List.getD l y.1.toNat zPat).Not then Lb false (patsOk l) else Zi171_2 l (IntKind.wrap IntKind.i64 (y.1+(1:Int)),())∧Zm171_2 l (IntKind.wrap IntKind.i64 (y.1+(1:Int)),())<Zm171_2 l y else Zi171_2 l (IntKind.wrap IntKind.i64 (y.1+(1:Int)),())∧Zm171_2 l (IntKind.wrap IntKind.i64 (y.1+(1:Int)),())<Zm171_2 l y else Zi171_2 l (IntKind.wrap IntKind.i64 (y.1+(1:Int)),())∧Zm171_2 l (IntKind.wrap IntKind.i64 (y.1+(1:Int)),())<Zm171_2 l y else Lb (decide ((1:Int)≤x0∧x0≤(6:Int))) (patsOk l)) (by kernel_rfl)
 dsimp only
 refine⟨⟨by omega,by omega,by intro j hj;omega⟩,?_⟩
 rintro⟨i,⟨⟩⟩ ⟨h1,h2,hR⟩
 simp only
 refine if_dec (fun hc=> ?_) (fun hc=> ?_)
 ·have hN:patAt l i.toNat=false→patsOk l=false:=fun h=>by
   have hf:allI l.length (patAt l)=false:=allI_false (j:=i.toNat) (by omega) h
   simp only[patsOk,hf];simp
  have hm:Zm171_2 l (i+1,PUnit.unit)<Zm171_2 l (i,()):=by simp only[Zm171_2];omega
  have e1:(i-1).toNat=i.toNat-1:=by omega
  simp(disch:=omega) only[wrap_i64]
  simp only[e1]
  have c1:decide (2<i.toNat)=decide (i>2):=decide_eq_decide.2 (by omega)
  have c2:decide (i.toNat=0)=decide (i=0):=decide_eq_decide.2 (by omega)
  have c3:decide (0<i.toNat)=decide (i>0):=decide_eq_decide.2 (by omega)
  have hA:patAt l i.toNat=(patOk (List.getD l i.toNat zPat)&& !(decide (i>2)&& !(List.getD l i.toNat zPat).Not)&& !(decide (i=0)&&(List.getD l i.toNat zPat).Not)&& !(decide (i>0)&&(List.getD l (i.toNat-1) zPat).Not&& !(List.getD l i.toNat zPat).Not)):=by
   simp only[patAt,notAt,c1,c2,c3]
  have hgo:patAt l i.toNat=true→Zi171_2 l (i+1,PUnit.unit)∧Zm171_2 l (i+1,PUnit.unit)<Zm171_2 l (i,()):=fun h=>⟨⟨by omega,by omega,upto_step h1 hR h⟩,hm⟩
  rw[hA] at hN hgo
  generalize (List.getD l (i.toNat-1) zPat).Not=q at*
  generalize (List.getD l i.toNat zPat).Not=r at*
  generalize patOk (List.getD l i.toNat zPat)=s at*
  clear hA c1 c2 c3 hR
  have hlt:i.toNat<l.length:=by omega
  have hlt':i.toNat-1<l.length:=by omega
  have hi1:i>0→0≤i-1:=fun h=>by omega
  repeat' (first|refine Lf_ff (hN ?_)|refine hgo ?_|refine if_dec (fun h=> ?_) (fun h=> ?_)|refine if_num (fun h=> ?_) (fun h=> ?_)|refine if_cond (fun h=> ?_) (fun h=> ?_)|refine And.intro h1 ?_|refine And.intro hlt ?_|refine And.intro hlt' ?_|refine And.intro (hi1 (by assumption)) ?_)
  all_goals (cases q<;>cases r<;>cases s<;>simp at* <;>omega)
 ·have hA:allI l.length (patAt l)=true:=allI_true fun j hj=>hR j (by omega)
  refine Lf_b ?_
  simp only[patsOk,hA,zdb];exact decide_eq_decide.2 (by omega)
def Zh171:HH:=⟨_,Zo171⟩
def Zk101:Con UU where
 α:=DRule
 md:=[.ro]
 of:=o1 (oA .eRule)
 ds:=fun x=>[dA .eRule x]
 pre:=fun r=>[patArgs r.Pats≤4294967295]
 res:=fun r=>⟨[dO (ruleOk r)],true,[]⟩
 law:=l1 (lA .eRule)
def Za101:Zk101.α→Nat→Option (Ann UU):=fun r=>annL []
def Zu101:=us [Zh154,Zh103,Zh104,Zh171,Zh172,Zh173,Zh40]
theorem Zo101:Holds EE (101,Zk101):=by
 refine holds_of EE_ok func101 Zk101 (by kernel_rfl) Zu101 (us_ok _) Za101 (fun(r:DRule) hp hb=> ?_)
 have hz0:=bd_eRule (x:=r) (hb _ m0)
 have hl_r_Name:=hz0.1
 have hl_r_Pats:=hz0.2.1
 have hl_r_Conds:=hz0.2.2.1
 have hl_r_Acts:=hz0.2.2.2
 have hp0:patArgs r.Pats≤4294967295:=hp _ m0
 clear hp hb
 apply @ve _ (patArgs r.Pats≤(4294967296:Nat)∧bif nameOk r.Name then bif decide ((-100:Int)≤r.Sal∧r.Sal≤(100:Int)) then bif patsOk r.Pats then bif kondsIn r.Conds (posVarsS r.Pats) then Lb (actsIn r.Acts (posVarsS r.Pats) (↑(posN r.Pats):Int)) (ruleOk r) else Lb false (ruleOk r) else Lb false (ruleOk r) else Lb false (ruleOk r) else Lb false (ruleOk r)) (by kernel_rfl)
 refine⟨by omega,?_⟩
 simp only[ruleOk]
 repeat' (refine if_cond (fun h=> ?_) (fun h=> ?_))
 all_goals (refine Lf_b ?_;grind)
def Zh101:HH:=⟨_,Zo101⟩
def Zk90:Con UU where
 α:=DRule
 md:=[.ro]
 of:=o1 (oA .eRule)
 ds:=fun x=>[dA .eRule x]
 pre:=fun _=>[]
 res:=fun r=>⟨[dO (patsOkI r.Pats)],true,[]⟩
 law:=l1 (lA .eRule)
def Zi90_4(r:DRule):Int×(ByteArray×Int×List DPat×List DCond×List DAct×Unit)×Unit→Prop:=fun(i,b,_)=>b=(r.Name,r.Sal,r.Pats,r.Conds,r.Acts,())∧0≤i∧i≤r.Pats.length∧(1≤r.Pats.length∧r.Pats.length≤6)∧(1≤posN r.Pats∧posN r.Pats≤3)∧∀j:Nat,(j:Int)<i→patAtI r.Pats j=true
def Zm90_4(r:DRule):Int×(ByteArray×Int×List DPat×List DCond×List DAct×Unit)×Unit→Nat:=fun(i,b,_)=>r.Pats.length-i.toNat
def Za90:Zk90.α→Nat→Option (Ann UU):=fun r=>annL [(4,annOf [.slot 19 (19,1024) (.lit (.int .i64)),.box 1 (1,1024) [.lit .str,.lit (.int .i64),.shr .ePat,.shr .eCond,.shr .eAct]] (fun _=>Zi90_4 r) (Zm90_4 r))]
def Zu90:=us [Zh34,Zh93,Zh165]
theorem Zo90:Holds EE (90,Zk90):=by
 refine holds_of EE_ok func90 Zk90 (by kernel_rfl) Zu90 (us_ok _) Za90 (fun(r:DRule) hp hb=> ?_)
 have hz0:=bd_eRule (x:=r) (hb _ m0)
 have hl_r_Name:=hz0.1
 have hl_r_Pats:=hz0.2.1
 have hl_r_Conds:=hz0.2.2.1
 have hl_r_Acts:=hz0.2.2.2
 clear hp hb
 apply @ve _ (let x0:Int:=(r.Pats.length:Int);bif !decide ((1:Int)≤x0∧x0≤(6:Int)) then Lb false (patsOkI r.Pats) else bif !decide ((1:Int)≤(↑(posN r.Pats):Int)∧(↑(posN r.Pats):Int)≤(3:Int)) then Lb false (patsOkI r.Pats) else Zi90_4 r ((0:Int),(r.Name,r.Sal,r.Pats,r.Conds,r.Acts,()),())∧∀(y:Int×(ByteArray×Int×List DPat×List DCond×List DAct×PUnit)×PUnit),let x1:Int:=(↑(posN y.2.1.2.2.1):Int);Zi90_4 r y→bif decide (y.1<x0) then(0:Int)≤y.1∧y.1.toNat<r.Pats.length∧bif !patOk (List.getD r.Pats y.1.toNat zPat) then Lb false (patsOkI r.Pats) else bif !(List.getD r.Pats y.1.toNat zPat).Not==decide (y.1≥x1) then Lb false (patsOkI r.Pats) else Zi90_4 r (IntKind.wrap IntKind.i64 (y.1+(1:Int)),(y.2.1.1,y.2.1.2.1,y.2.1.2.2.1,y.2.1.2.2.2.1,y.2.1.2.2.2.2.1,()),())∧Zm90_4 r (IntKind.wrap IntKind.i64 (y.1+(1:Int)),(y.2.1.1,y.2.1.2.1,y.2.1.2.2.1,y.2.1.2.2.2.1,y.2.1.2.2.2.2.1,()),())<Zm90_4 r y else Lb true (patsOkI r.Pats)) (by kernel_rfl)
 dsimp only
 refine if_not (fun h=>Lf_ff ?_) (fun h=>if_not (fun h'=>Lf_ff ?_) (fun h'=> ?_))
 ·have h:=of_decide_eq_false h
  simp only[patsOkI];rw[decide_eq_false (by omega)];rfl
 ·have h':=of_decide_eq_false h'
  simp only[patsOkI];rw[decide_eq_false (p:=1≤posN r.Pats∧posN r.Pats≤3) (by omega)];simp
 have h:=of_decide_eq_true h
 have h':=of_decide_eq_true h'
 refine⟨⟨rfl,by omega,by omega,by omega,by omega,by intro j hj;omega⟩,?_⟩
 rintro⟨i,⟨b1,b2,b3,b4,b5,⟨⟩⟩,⟨⟩⟩ ⟨hbx,h1,h2,h3,h4,hR⟩
 cases hbx
 simp only
 refine if_dec (fun hc=> ?_) (fun hc=> ?_)
 ·have hN:patAtI r.Pats i.toNat=false→patsOkI r.Pats=false:=fun h=>by
   have hf:allI r.Pats.length (patAtI r.Pats)=false:=allI_false (j:=i.toNat) (by omega) h
   simp only[patsOkI,hf];simp
  rw[wrap_i64 (by omega) (by omega)]
  have c1:decide (posN r.Pats≤i.toNat)=decide (i≥(posN r.Pats:Int)):=decide_eq_decide.2 (by omega)
  refine⟨by omega,by omega,if_not (fun g=>Lf_ff (hN (by simp only[patAtI,g,zbi]))) (fun g=>if_not (fun k=>Lf_ff (hN ?_)) (fun k=>⟨⟨rfl,by omega,by omega,h3,h4,upto_step h1 hR ?_⟩,by simp only[Zm90_4];omega⟩))⟩
  ·simp only[patAtI,notAt,c1,k];simp
  ·simp only[patAtI,notAt,c1,k,g];rfl
 ·have hA:allI r.Pats.length (patAtI r.Pats)=true:=allI_true fun j hj=>hR j (by omega)
  refine Lf_tt ?_
  simp only[patsOkI,hA,decide_eq_true h3,decide_eq_true h4];rfl
def Zh90:HH:=⟨_,Zo90⟩
def Zk95:Con UU where
 α:=DRule
 md:=[.ro]
 of:=o1 (oA .eRule)
 ds:=fun x=>[dA .eRule x]
 pre:=fun r=>[2*r.Conds.length+usedN r.Acts≤4294967295]
 res:=fun r=>⟨[dL .str (usedV r)],true,[]⟩
 law:=l1 (lA .eRule)
def Zi95_3(r:DRule):List ByteArray×Int×(ByteArray×Int×List DPat×List DCond×List DAct×Unit)×Unit→Prop:=fun(v,i,b,_)=>b=(r.Name,r.Sal,r.Pats,r.Conds,r.Acts,())∧0≤i∧i≤r.Conds.length∧v=(r.Conds.take i.toNat).foldl usedC []
def Zm95_3(r:DRule):List ByteArray×Int×(ByteArray×Int×List DPat×List DCond×List DAct×Unit)×Unit→Nat:=fun(v,i,b,_)=>r.Conds.length-i.toNat
def Zi95_8(r:DRule):List ByteArray×Int×Unit→Prop:=fun(v,i,_)=>0≤i∧i≤r.Acts.length∧v=(r.Acts.take i.toNat).foldl usedA (r.Conds.foldl usedC [])
def Zm95_8(r:DRule):List ByteArray×Int×Unit→Nat:=fun(v,i,_)=>r.Acts.length-i.toNat
def Zi95_11(r:DRule):List ByteArray×Int×Int×Unit→List ByteArray×Int×Int×Unit→Prop:=fun(v0,i0,k0,_) (v,i,k,_)=>i=i0∧0≤k∧k≤(List.getD r.Acts i.toNat zAct).Args.length∧v=((List.getD r.Acts i.toNat zAct).Args.take k.toNat).foldl usedE v0
def Zm95_11(r:DRule):List ByteArray×Int×Int×Unit→Nat:=fun(v,i,k,_)=>(List.getD r.Acts i.toNat zAct).Args.length-k.toNat
def Za95:Zk95.α→Nat→Option (Ann UU):=fun r=>annL [(3,annOf [.slot 3 (3,1024) (.own .str true),.slot 13 (13,1024) (.lit (.int .i64)),.box 1 (1,1024) [.lit .str,.lit (.int .i64),.shr .ePat,.shr .eCond,.shr .eAct]] (fun _=>Zi95_3 r) (Zm95_3 r)),(8,annOf [.slot 3 (3,1024) (.own .str true),.slot 28 (28,1024) (.lit (.int .i64))] (fun _=>Zi95_8 r) (Zm95_8 r)),(11,annOf [.slot 3 (3,1024) (.own .str true),.slot 28 (28,1024) (.lit (.int .i64)),.slot 35 (35,1024) (.lit (.int .i64))] (Zi95_11 r) (Zm95_11 r))]
def Zu95:=us [Zh168]
theorem Zo95:Holds EE (95,Zk95):=by
 refine holds_of EE_ok func95 Zk95 (by kernel_rfl) Zu95 (us_ok _) Za95 (fun(r:DRule) hp hb=> ?_)
 have hz0:=bd_eRule (x:=r) (hb _ m0)
 have hl_r_Name:=hz0.1
 have hl_r_Pats:=hz0.2.1
 have hl_r_Conds:=hz0.2.2.1
 have hl_r_Acts:=hz0.2.2.2
 have hp0:2*r.Conds.length+usedN r.Acts≤4294967295:=hp _ m0
 clear hp hb
 apply @ve _ (Zi95_3 r ([],(0:Int),(r.Name,r.Sal,r.Pats,r.Conds,r.Acts,()),())∧∀(y:List ByteArray×Int×(ByteArray×Int×List DPat×List DCond×List DAct×PUnit)×PUnit),let x2:Nat:=y.2.2.1.2.2.2.2.1.length;let x4:Nat:=y.2.1.toNat;let x1:Int:=(↑x2:Int);let x3:DCond:=List.getD r.Conds x4 zCond;let x0:List DArg:=[x3.L,x3.R];Zi95_3 r y→bif decide (y.2.1<(r.Conds.length:Int)) then(0:Int)≤y.2.1∧x4<r.Conds.length∧y.1.length+x0.length≤(4294967295:Nat)∧Zi95_3 r (addVars y.1 x0,IntKind.wrap IntKind.i64 (y.2.1+(1:Int)),(y.2.2.1.1,y.2.2.1.2.1,y.2.2.1.2.2.1,y.2.2.1.2.2.2.1,y.2.2.1.2.2.2.2.1,()),())∧Zm95_3 r (addVars y.1 x0,IntKind.wrap IntKind.i64 (y.2.1+(1:Int)),(y.2.2.1.1,y.2.2.1.2.1,y.2.2.1.2.2.1,y.2.2.1.2.2.2.1,y.2.2.1.2.2.2.2.1,()),())<Zm95_3 r y else Zi95_8 r (y.1,(0:Int),())∧∀(y_1:List ByteArray×Int×PUnit),let x8:Nat:=y_1.2.1.toNat;let x7:List DExpr:=(List.getD y.2.2.1.2.2.2.2.1 x8 zAct).Args;let x6:Nat:=x7.length;let x5:Int:=(↑x6:Int);Zi95_8 r y_1→bif decide (y_1.2.1<x1) then(0:Int)≤y_1.2.1∧x8<x2∧Zi95_11 r (y_1.1,y_1.2.1,(0:Int),()) (y_1.1,y_1.2.1,(0:Int),())∧∀(y:List ByteArray×Int×Int×PUnit),let x11:Nat:=y.2.2.1.toNat;let x10:DExpr:=List.getD x7 x11 zExpr;let x9:List DArg:=[x10.L,x10.R];Zi95_11 r (y_1.1,y_1.2.1,(0:Int),()) y→bif decide (y.2.2.1<x5) then(0:Int)≤y.2.2.1∧x11<x6∧y.1.length+x9.length≤(4294967295:Nat)∧Zi95_11 r (y_1.1,y_1.2.1,(0:Int),()) (addVars y.1 x9,y.2.1,IntKind.wrap IntKind.i64 (y.2.2.1+(1:Int)),())∧Zm95_11 r (addVars y.1 x9,y.2.1,IntKind.wrap IntKind.i64 (y.2.2.1+(1:Int)),())<Zm95_11 r y else Zi95_8 r (y.1,IntKind.wrap IntKind.i64 (y.2.1+(1:Int)),())∧Zm95_8 r (y.1,IntKind.wrap IntKind.i64 (y.2.1+(1:Int)),())<Zm95_8 r y_1 else Lf [VL .str y_1.1] [VL .str (usedV r)]) (by kernel_rfl)
 dsimp only
 refine⟨⟨rfl,by omega,by omega,rfl⟩,?_⟩
 rintro⟨v,i,⟨b1,b2,b3,b4,b5,⟨⟩⟩,⟨⟩⟩ ⟨hbx,h1,h2,rfl⟩
 cases hbx
 simp only
 refine if_dec (fun hc=> ?_) (fun hc=> ?_)
 ·have hs:=foldl_step usedC [] r.Conds zCond h1 hc
  have hl:=usedCs_len (r.Conds.take i.toNat) []
  have hl2:(r.Conds.take i.toNat).length≤i.toNat:=by rw[zaw];omega
  simp only[zbo] at hl
  rw[wrap_i64 (by omega) (by omega)]
  refine⟨by omega,by omega,by simp only[zbq,zbo];omega,⟨rfl,by omega,by omega,hs.symm⟩,by simp only[Zm95_3];omega⟩
 rw[take_all r.Conds (by omega)]
 have hl0:=usedCs_len r.Conds []
 simp only[zbo] at hl0
 refine⟨⟨by omega,by omega,rfl⟩,?_⟩
 rintro⟨v,i,⟨⟩⟩ ⟨g1,g2,rfl⟩
 simp only
 refine if_dec (fun hc=> ?_) (fun hc=> ?_)
 ·have hs:=foldl_step usedA (r.Conds.foldl usedC []) r.Acts zAct g1 hc
  have ha:=usedN_at r.Acts g1 hc
  have hl:=usedAs_len (r.Acts.take i.toNat) (r.Conds.foldl usedC [])
  refine⟨by omega,by omega,⟨rfl,by omega,by omega,rfl⟩,?_⟩
  rintro⟨v,i',k,⟨⟩⟩ ⟨rfl,k1,k2,rfl⟩
  simp only
  have hle:=usedE_len ((List.getD r.Acts i'.toNat zAct).Args.take k.toNat) ((r.Acts.take i'.toNat).foldl usedA (r.Conds.foldl usedC []))
  have hl2:((List.getD r.Acts i'.toNat zAct).Args.take k.toNat).length≤k.toNat:=by rw[zaw];omega
  refine if_dec (fun hk=> ?_) (fun hk=> ?_)
  ·have hf:=foldl_step usedE ((r.Acts.take i'.toNat).foldl usedA (r.Conds.foldl usedC [])) (List.getD r.Acts i'.toNat zAct).Args zExpr k1 hk
   rw[wrap_i64 (by omega) (by omega)]
   exact⟨by omega,by omega,by simp only[zbq,zbo];omega,⟨rfl,by omega,by omega,hf.symm⟩,by simp only[Zm95_11];omega⟩
  ·rw[wrap_i64 (by omega) (by omega)]
   refine⟨⟨by omega,by omega,?_⟩,by simp only[Zm95_8];omega⟩
   rw[hs,take_all (List.getD r.Acts i'.toNat zAct).Args (by omega)];rfl
 ·rw[take_all r.Acts (by omega)]
  exact Lf_rfl _
def Zh95:HH:=⟨_,Zo95⟩
def Zk35:Con UU where
 α:=DRule
 md:=[.ro]
 of:=o1 (oA .eRule)
 ds:=fun x=>[dA .eRule x]
 pre:=fun _=>[]
 res:=fun r=>⟨[dO (ruleOk r)],true,[]⟩
 law:=l1 (lA .eRule)
def Zi35_6(r:DRule):Int×(ByteArray×Int×List DPat×List DCond×List DAct×Unit)×Unit→Prop:=fun(i,b,_)=>b=(r.Name,r.Sal,r.Pats,r.Conds,r.Acts,())∧0≤i∧i≤r.Conds.length∧(r.Conds.drop i.toNat).all kondOk=r.Conds.all kondOk
def Zm35_6(r:DRule):Int×(ByteArray×Int×List DPat×List DCond×List DAct×Unit)×Unit→Nat:=fun(i,b,_)=>r.Conds.length-i.toNat
def Zi35_12(r:DRule):Int×(ByteArray×Int×List DPat×List DCond×List DAct×Unit)×Unit→Prop:=fun(i,b,_)=>b=(r.Name,r.Sal,r.Pats,r.Conds,r.Acts,())∧0≤i∧i≤r.Acts.length∧(r.Acts.drop i.toNat).all (fun a=>actOk a&&dropIn (posN r.Pats) a)=r.Acts.all (fun a=>actOk a&&dropIn (posN r.Pats) a)
def Zm35_12(r:DRule):Int×(ByteArray×Int×List DPat×List DCond×List DAct×Unit)×Unit→Nat:=fun(i,b,_)=>r.Acts.length-i.toNat
def Zi35_19(r:DRule):Int×List ByteArray×List ByteArray×Unit→Prop:=fun(i,v,u,_)=>v=posVars r.Pats∧u=usedV r∧0≤i∧i≤(usedV r).length∧((usedV r).drop i.toNat).all (hasS (posVars r.Pats))=(usedV r).all (hasS (posVars r.Pats))
def Zm35_19(r:DRule):Int×List ByteArray×List ByteArray×Unit→Nat:=fun(i,v,u,_)=>(usedV r).length-i.toNat
def Za35:Zk35.α→Nat→Option (Ann UU):=fun r=>annL [(6,annOf [.slot 39 (39,1024) (.lit (.int .i64)),.box 1 (1,1024) [.lit .str,.lit (.int .i64),.shr .ePat,.shr .eCond,.shr .eAct]] (fun _=>Zi35_6 r) (Zm35_6 r)),(12,annOf [.slot 50 (50,1024) (.lit (.int .i64)),.box 1 (1,1024) [.lit .str,.lit (.int .i64),.shr .ePat,.shr .eCond,.shr .eAct]] (fun _=>Zi35_12 r) (Zm35_12 r)),(19,annOf [.slot 75 (75,1024) (.lit (.int .i64)),.slot 7 (7,1024) (.own .str true),.slot 73 (73,1024) (.own .str true)] (fun _=>Zi35_19 r) (Zm35_19 r))]
def Zu35:=us [Zh33,Zh34,Zh90,Zh91,Zh92,Zh93,Zh94,Zh95,Zh96]
theorem Zo35:Holds EE (35,Zk35):=by
 refine holds_of EE_ok func35 Zk35 (by kernel_rfl) Zu35 (us_ok _) Za35 (fun(r:DRule) hp hb=> ?_)
 have hz0:=bd_eRule (x:=r) (hb _ m0)
 have hl_r_Name:=hz0.1
 have hl_r_Pats:=hz0.2.1
 have hl_r_Conds:=hz0.2.2.1
 have hl_r_Acts:=hz0.2.2.2
 clear hp hb
 apply @ve _ (let x0:Int:=(r.Conds.length:Int);bif !nameOk r.Name then Lb false (ruleOk r) else bif !decide ((-100:Int)≤r.Sal∧r.Sal≤(100:Int)) then Lb false (ruleOk r) else bif !patsOkI r.Pats then Lb false (ruleOk r) else bif decide (x0>(6:Int)) then Lb false (ruleOk r) else bif !decide ((1:Int)≤(r.Acts.length:Int)∧(r.Acts.length:Int)≤(6:Int)) then Lb false (ruleOk r) else Zi35_6 r ((0:Int),(r.Name,r.Sal,r.Pats,r.Conds,r.Acts,()),())∧∀(y:Int×(ByteArray×Int×List DPat×List DCond×List DAct×PUnit)×PUnit),let x2:Nat:=y.2.1.2.2.2.2.1.length;let x1:Int:=(↑x2:Int);Zi35_6 r y→bif decide (y.1<x0) then(0:Int)≤y.1∧y.1.toNat<r.Conds.length∧bif !kondOk (List.getD r.Conds y.1.toNat zCond) then Lb false (ruleOk r) else Zi35_6 r (IntKind.wrap IntKind.i64 (y.1+(1:Int)),(y.2.1.1,y.2.1.2.1,y.2.1.2.2.1,y.2.1.2.2.2.1,y.2.1.2.2.2.2.1,()),())∧Zm35_6 r (IntKind.wrap IntKind.i64 (y.1+(1:Int)),(y.2.1.1,y.2.1.2.1,y.2.1.2.2.1,y.2.1.2.2.2.1,y.2.1.2.2.2.2.1,()),())<Zm35_6 r y else Zi35_12 r ((0:Int),(y.2.1.1,y.2.1.2.1,y.2.1.2.2.1,y.2.1.2.2.2.1,y.2.1.2.2.2.2.1,()),())∧∀(y_1:Int×(ByteArray×Int×List DPat×List DCond×List DAct×PUnit)×PUnit),let x4:List ByteArray:=usedV {Name:=y_1.2.1.1,Sal:=y_1.2.1.2.1,Pats:=y_1.2.1.2.2.1,Conds:=y_1.2.1.2.2.2.1,Acts:=y_1.2.1.2.2.2.2.1:DRule};let x5:DAct:=List.getD y.2.1.2.2.2.2.1 y_1.1.toNat zAct;let x6:Int:=(↑(posN y_1.2.1.2.2.1):Int);let x3:Int:=(x4.length:Int);Zi35_12 r y_1→bif decide (y_1.1<x1) then(0:Int)≤y_1.1∧y_1.1.toNat<x2∧bif !actOk x5 then Lb false (ruleOk r) else bif x5.Kind==(2:Int) then bif decide (x5.N≥x6) then Lb false (ruleOk r) else Zi35_12 r (IntKind.wrap IntKind.i64 (y_1.1+(1:Int)),(y_1.2.1.1,y_1.2.1.2.1,y_1.2.1.2.2.1,y_1.2.1.2.2.2.1,y_1.2.1.2.2.2.2.1,()),())∧Zm35_12 r (IntKind.wrap IntKind.i64 (y_1.1+(1:Int)),(y_1.2.1.1,y_1.2.1.2.1,y_1.2.1.2.2.1,y_1.2.1.2.2.2.1,y_1.2.1.2.2.2.2.1,()),())<Zm35_12 r y_1 else Zi35_12 r (IntKind.wrap IntKind.i64 (y_1.1+(1:Int)),(y_1.2.1.1,y_1.2.1.2.1,y_1.2.1.2.2.1,y_1.2.1.2.2.2.1,y_1.2.1.2.2.2.2.1,()),())∧Zm35_12 r (IntKind.wrap IntKind.i64 (y_1.1+(1:Int)),(y_1.2.1.1,y_1.2.1.2.1,y_1.2.1.2.2.1,y_1.2.1.2.2.2.1,y_1.2.1.2.2.2.2.1,()),())<Zm35_12 r y_1 else patArgs y_1.2.1.2.2.1≤(4294967295:Nat)∧(2:Nat)*y_1.2.1.2.2.2.1.length+usedN y_1.2.1.2.2.2.2.1≤(4294967295:Nat)∧Zi35_19 r ((0:Int),posVars y_1.2.1.2.2.1,x4,())∧∀(y:Int×List ByteArray×List ByteArray×PUnit),Zi35_19 r y→bif decide (y.1<x3) then(0:Int)≤y.1∧y.1.toNat<y.2.2.1.length∧y.1.toNat<y.2.2.1.length∧bif !hasS y.2.1 (List.getD y.2.2.1 y.1.toNat noBytes) then Lb false (ruleOk r) else Zi35_19 r (IntKind.wrap IntKind.i64 (y.1+(1:Int)),y.2.1,y.2.2.1,())∧Zm35_19 r (IntKind.wrap IntKind.i64 (y.1+(1:Int)),y.2.1,y.2.2.1,())<Zm35_19 r y else Lb true (ruleOk r)) (by kernel_rfl)
 dsimp only
 have hF:ruleOkI r=false→ruleOk r=false:=fun h=>by rw[←ruleOkI_eq];exact h
 refine if_not (fun a1=>Lf_ff (hF (by simp[ruleOkI,a1]))) (fun a1=>if_not (fun a2=>Lf_ff (hF (by simp only[ruleOkI,a2];simp))) (fun a2=>if_not (fun a3=>Lf_ff (hF ?_)) (fun a3=>if_dec (fun a4=>Lf_ff (hF ?_)) (fun a4=>if_not (fun a5=>Lf_ff (hF ?_)) (fun a5=> ?_)))))
 ·rw[patsOkI_eq] at a3;simp[ruleOkI,a3]
 ·simp only[ruleOkI];rw[decide_eq_false (p:=r.Conds.length≤6) (by omega)];simp
 ·have a5:=of_decide_eq_false a5
  simp only[ruleOkI];rw[decide_eq_false (p:=1≤r.Acts.length∧r.Acts.length≤6) (by omega)];simp
 rw[patsOkI_eq] at a3
 have a5:=of_decide_eq_true a5
 refine⟨⟨rfl,by omega,by omega,rfl⟩,?_⟩
 rintro⟨i,⟨b1,b2,b3,b4,b5,⟨⟩⟩,⟨⟩⟩ ⟨hbx,h1,h2,hR⟩
 cases hbx
 simp only
 refine if_dec (fun hc=> ?_) (fun hc=> ?_)
 ·rw[all_step _ _ zCond h1 (by omega)] at hR
  rw[wrap_i64 (by omega) (by omega)]
  refine⟨by omega,by omega,if_not (fun g=>Lf_ff (hF ?_)) (fun g=>⟨⟨rfl,by omega,by omega,?_⟩,by simp only[Zm35_6];omega⟩)⟩
  ·simp only[ruleOkI,←hR,g];simp
  ·rw[←hR,g];rfl
 rw[drop_end _ (by omega)] at hR
 have a6:r.Conds.all kondOk=true:=hR.symm
 refine⟨⟨rfl,by omega,by omega,rfl⟩,?_⟩
 rintro⟨i,⟨b1,b2,b3,b4,b5,⟨⟩⟩,⟨⟩⟩ ⟨hbx,g1,g2,gR⟩
 cases hbx
 simp only
 refine if_dec (fun hc=> ?_) (fun hc=> ?_)
 ·rw[all_step _ _ zAct g1 (by omega)] at gR
  rw[wrap_i64 (by omega) (by omega)]
  have hN:(actOk (List.getD r.Acts i.toNat zAct)&&dropIn (posN r.Pats) (List.getD r.Acts i.toNat zAct))=false→ruleOk r=false:=fun h=>hF (by simp only[ruleOkI,←gR,h];simp)
  have hgo:actOk (List.getD r.Acts i.toNat zAct)=true→dropIn (posN r.Pats) (List.getD r.Acts i.toNat zAct)=true→(r.Acts.drop (i+1).toNat).all (fun a=>actOk a&&dropIn (posN r.Pats) a)=r.Acts.all (fun a=>actOk a&&dropIn (posN r.Pats) a):=fun e1 e2=>by rw[←gR,e1,e2];rfl
  refine⟨by omega,by omega,if_not (fun ha=>Lf_ff (hN (by rw[ha];rfl))) (fun ha=>if_num (fun hk2=>if_dec (fun hp=>Lf_ff (hN ?_)) (fun hp=>⟨⟨rfl,by omega,by omega,hgo ha ?_⟩,by simp only[Zm35_12];omega⟩)) (fun hk2=>⟨⟨rfl,by omega,by omega,hgo ha ?_⟩,by simp only[Zm35_12];omega⟩))⟩
  ·simp only[dropIn,hk2,decide_eq_true (show(posN r.Pats:Int)≤(List.getD r.Acts i.toNat zAct).N from hp)];simp
  ·simp only[dropIn,decide_eq_false (show¬(posN r.Pats:Int)≤(List.getD r.Acts i.toNat zAct).N from hp)];simp
  ·simp only[dropIn,decide_eq_false hk2];simp
 rw[drop_end _ (by omega)] at gR
 have a7:r.Acts.all (fun a=>actOk a&&dropIn (posN r.Pats) a)=true:=gR.symm
 have hpa:=patsOk_args a3
 have hus:=actsOk_used (l:=r.Acts) (by omega) (fun a ha=>by
  have:=zcb.1 a7 a ha
  simp only[zaf] at this
  exact this.1)
 have hul:(usedV r).length≤2*r.Conds.length+usedN r.Acts:=by
  have q1:=usedAs_len r.Acts (r.Conds.foldl usedC [])
  have q2:=usedCs_len r.Conds []
  simp only[zbo] at q2
  simp only[usedV];omega
 refine⟨by omega,by omega,⟨rfl,rfl,by omega,by omega,rfl⟩,?_⟩
 rintro⟨i,v,u,⟨⟩⟩ ⟨rfl,rfl,k1,k2,kR⟩
 simp only
 refine if_dec (fun hk=> ?_) (fun hk=> ?_)
 ·rw[all_step _ _ noBytes k1 hk] at kR
  rw[wrap_i64 (by omega) (by omega)]
  have hk':i<(usedV r).length:=hk
  refine⟨by omega,by omega,by omega,if_not (fun g=>Lf_ff (hF ?_)) (fun g=>⟨⟨rfl,rfl,by omega,by omega,?_⟩,by simp only[Zm35_19];omega⟩)⟩
  ·simp only[ruleOkI,←kR,g];simp
  ·rw[←kR,g];rfl
 ·have hk':¬i<(usedV r).length:=hk
  rw[drop_end _ (by omega)] at kR
  refine Lf_tt ?_
  rw[←ruleOkI_eq]
  simp only[ruleOkI,a1,a2,a3,a6,a7,←kR,decide_eq_true (show r.Conds.length≤6 by omega),decide_eq_true (show 1≤r.Acts.length∧r.Acts.length≤6 by omega)];rfl
def Zh35:HH:=⟨_,Zo35⟩
def Zk136:Con UU where
 α:=DTask
 md:=[.ro]
 of:=o1 (oA .eTask)
 ds:=fun x=>[dA .eTask x]
 pre:=fun _=>[]
 res:=fun t=>⟨[dO (isOpen t)],true,[]⟩
 law:=l1 (lA .eTask)
def Za136:Zk136.α→Nat→Option (Ann UU):=fun t=>annL []
def Zu136:List (FuncId×Con UU):=[]
theorem Zo136:Holds EE (136,Zk136):=by
 refine holds_of EE_ok func136 Zk136 (by kernel_rfl) Zu136 all_nil Za136 (fun(t:DTask) hp hb=> ?_)
 have hz0:=bd_eTask (x:=t) (hb _ m0)
 have hl_t_F_Kind:=hz0.1
 have hl_t_F_Fields:=hz0.2.1
 have hl_t_Undo:=hz0.2.2.1
 have hl_t_V_S:=hz0.2.2.2
 clear hp hb
 apply @ve _ (bif t.State==(1:Int) then Lb true (isOpen t) else Lb (t.State==(2:Int)) (isOpen t)) (by kernel_rfl)
 simp only[isOpen]
 refine if_cond (fun h=>Lf_b ?_) (fun h=>Lf_b ?_)<;>grind
def Zh136:HH:=⟨_,Zo136⟩
def Zk119:Con UU where
 α:=DInst
 md:=[.ro]
 of:=o1 (oA .eInst)
 ds:=fun x=>[dA .eInst x]
 pre:=fun _=>[]
 res:=fun x=>⟨[dO (decide (x.State=2∨x.State=4∨x.State=6))],true,[]⟩
 law:=l1 (lA .eInst)
def Za119:Zk119.α→Nat→Option (Ann UU):=fun x=>annL []
def Zu119:List (FuncId×Con UU):=[]
theorem Zo119:Holds EE (119,Zk119):=by
 refine holds_of EE_ok func119 Zk119 (by kernel_rfl) Zu119 all_nil Za119 (fun(x:DInst) hp hb=> ?_)
 have hz0:=bd_eInst (x:=x) (hb _ m0)
 have hl_x_S_Items:=hz0.1
 have hl_x_Fired:=hz0.2.1
 have hl_x_Tasks:=hz0.2.2.1
 have hl_x_Timers:=hz0.2.2.2.1
 have hl_x_Undos:=hz0.2.2.2.2
 clear hp hb
 apply @ve _ (bif x.State==(2:Int) then Lb true (decide (x.State=(2:Int)∨x.State=(4:Int)∨x.State=(6:Int))) else bif x.State==(4:Int) then Lb true (decide (x.State=(2:Int)∨x.State=(4:Int)∨x.State=(6:Int))) else Lb (x.State==(6:Int)) (decide (x.State=(2:Int)∨x.State=(4:Int)∨x.State=(6:Int)))) (by kernel_rfl)
 repeat' (refine if_cond (fun h=> ?_) (fun h=> ?_))
 all_goals (refine Lf_b ?_;grind)
def Zh119:HH:=⟨_,Zo119⟩
def Zk134:Con UU where
 α:=DInst
 md:=[.ro]
 of:=o1 (oA .eInst)
 ds:=fun x=>[dA .eInst x]
 pre:=fun _=>[]
 res:=fun x=>⟨[dO (decide (x.State=2∨x.State=4∨x.State=6))],true,[]⟩
 law:=l1 (lA .eInst)
def Za134:Zk134.α→Nat→Option (Ann UU):=fun x=>annL []
def Zu134:List (FuncId×Con UU):=[]
theorem Zo134:Holds EE (134,Zk134):=by
 refine holds_of EE_ok func134 Zk134 (by kernel_rfl) Zu134 all_nil Za134 (fun(x:DInst) hp hb=> ?_)
 have hz0:=bd_eInst (x:=x) (hb _ m0)
 have hl_x_S_Items:=hz0.1
 have hl_x_Fired:=hz0.2.1
 have hl_x_Tasks:=hz0.2.2.1
 have hl_x_Timers:=hz0.2.2.2.1
 have hl_x_Undos:=hz0.2.2.2.2
 clear hp hb
 apply @ve _ (bif x.State==(2:Int) then Lb true (decide (x.State=(2:Int)∨x.State=(4:Int)∨x.State=(6:Int))) else bif x.State==(4:Int) then Lb true (decide (x.State=(2:Int)∨x.State=(4:Int)∨x.State=(6:Int))) else Lb (x.State==(6:Int)) (decide (x.State=(2:Int)∨x.State=(4:Int)∨x.State=(6:Int)))) (by kernel_rfl)
 repeat' (refine if_cond (fun h=> ?_) (fun h=> ?_))
 all_goals (refine Lf_b ?_;grind)
def Zh134:HH:=⟨_,Zo134⟩
def daRule(x:DRule):DA UU:=⟨true,[.lit (.string x.Name),.lit (.int .i64 x.Sal),.sl .ePat x.Pats,.sl .eCond x.Conds,.sl .eAct x.Acts]⟩
def ruleAt(l:List DRule)(name:ByteArray):Int:=idxI l.length fun k=>decide ((List.getD l k zRule).Name=name)
def defAtR(l:List DRule)(i:Nat):Bool:=ruleOk (List.getD l i zRule)&&decide (ruleAt l (List.getD l i zRule).Name=i)
def defOk(d:DDef):Bool:=nameOk d.Name&&decide (1≤d.Rules.length∧d.Rules.length≤12)&&allI d.Rules.length (defAtR d.Rules)
theorem rule_size{l:List DRule}{i:Int}(h0:0≤i)(h:i<l.length):patArgs (List.getD l i.toNat zRule).Pats≤sizeRuleS l:=by
 have hs:=sum_getD_le sizeRule l zRule h0 h
 have hp:=patArgs_size (List.getD l i.toNat zRule).Pats
 simp only[sizeRule] at hs
 simp only[sizeRuleS,sizeRule];omega
def idAt(l:List DItem)(f:DFact):Int:=idxI l.length fun k=>decide ((List.getD l k zItem).F=f)
def idOf(l:List DItem)(f:DFact):Int:=if idAt l f= -1 then 0 else(List.getD l (idAt l f).toNat zItem).Id
def placeId(l:List DItem)(id:Int):Int:=idxI l.length fun k=>decide ((List.getD l k zItem).Id=id)
def factOf(l:List DItem)(id:Int):DFact:=if placeId l id= -1 then zFact else(List.getD l (placeId l id).toNat zItem).F
def hasId(l:List DItem)(id:Int):Bool:=anyI l.length fun k=>decide ((List.getD l k zItem).Id=id)
def baseAt(s:DStore)(i:Nat):Bool:=factOk (List.getD s.Items i zItem).F&&decide (1≤(List.getD s.Items i zItem).Id)&&decide ((List.getD s.Items i zItem).Id<s.Next)&& !(decide (0<i)&&decide ((List.getD s.Items i zItem).Id≤(List.getD s.Items (i-1) zItem).Id))
def itemAt(s:DStore)(i:Nat):Bool:=baseAt s i&&decide (idOf s.Items (List.getD s.Items i zItem).F=(List.getD s.Items i zItem).Id)
def itemAtI(s:DStore)(i:Nat):Bool:=baseAt s i&& !(anyI i fun k=>decide ((List.getD s.Items i zItem).F=(List.getD s.Items k zItem).F))
def storeOk(s:DStore):Bool:=decide (1≤s.Next∧s.Next≤1000000)&&decide (s.Items.length≤40)&&allI s.Items.length (itemAt s)
theorem base_ids{s:DStore}(h:∀i,i<s.Items.length→baseAt s i=true):∀j i,j<i→i<s.Items.length→(List.getD s.Items j zItem).Id<(List.getD s.Items i zItem).Id:=by
 intro j i hij hi
 have step:∀m,m+1<s.Items.length→(List.getD s.Items m zItem).Id<(List.getD s.Items (m+1) zItem).Id:=fun m hm=>by
  have:=h (m+1) hm
  simp only[baseAt,zaf,zbd,Bool.and_eq_false_iff,decide_eq_false_iff_not,decide_eq_true_eq,Nat.add_sub_cancel] at this
  have:=this.2
  omega
 obtain⟨k,rfl⟩:∃k,i=j+1+k:=⟨i-j-1,by omega⟩
 clear hij
 induction k with
 |zero=>exact step j hi
 |succ k ih=>exact Int.lt_trans (ih (by omega)) (step (j+1+k) hi)
theorem store_same(s:DStore):allI s.Items.length (itemAtI s)=allI s.Items.length (itemAt s):=by
 rw[zcm,allI_all,allI_all]
 have hfst:∀i,i<s.Items.length→∃m,m≤i∧idAt s.Items (List.getD s.Items i zItem).F=(m:Int)∧(List.getD s.Items m zItem).F=(List.getD s.Items i zItem).F∧∀j,j<m→¬(List.getD s.Items j zItem).F=(List.getD s.Items i zItem).F:=by
  intro i hi
  rcases idxI_cases s.Items.length (fun k=>decide ((List.getD s.Items k zItem).F=(List.getD s.Items i zItem).F)) with⟨_,h2⟩|⟨m,g1,g2,g3,g4⟩
  ·have:=h2 i hi;simp at this
  ·refine⟨m,?_,g2,of_decide_eq_true g3,fun j hj=>of_decide_eq_false (g4 j hj)⟩
   rcases zba i m with g|g
   ·have:=g4 i g;simp at this
   ·exact g
 have hid:∀i m:Nat,idAt s.Items (List.getD s.Items i zItem).F=(m:Int)→idOf s.Items (List.getD s.Items i zItem).F=(List.getD s.Items m zItem).Id:=fun i m h=>by
  rw[idOf,h,if_neg (by omega)];simp
 constructor
 ·intro h i hi
  have hi2:=h i hi
  simp only[itemAtI,zaf,zbd] at hi2
  obtain⟨m,m1,m2,m3,m4⟩:=hfst i hi
  have:m=i:=by
   rcases zba m i with g|g
   ·have:=anyI_not.1 hi2.2 m g
    exact absurd m3.symm (of_decide_eq_false this)
   ·omega
  subst this
  simp only[itemAt,hi2.1,hid m m m2,decide_true,zdb]
 ·intro h i hi
  have hb:∀i,i<s.Items.length→baseAt s i=true:=fun i hi=>by
   have:=h i hi
   simp only[itemAt,zaf] at this
   exact this.1
  have hi2:=h i hi
  simp only[itemAt,zaf,decide_eq_true_eq] at hi2
  have hno:(anyI i fun k=>decide ((List.getD s.Items i zItem).F=(List.getD s.Items k zItem).F))=false:=anyI_false fun k hk=>decide_eq_false fun e=>by
   obtain⟨m,m1,m2,m3,m4⟩:=hfst i hi
   have hmk:m≤k:=by
    rcases zba k m with g|g
    ·exact absurd e.symm (m4 k g)
    ·exact g
   have:=base_ids hb m i (by omega) hi
   rw[hid i m m2] at hi2
   omega
  simp only[itemAtI,hi2.1,hno];rfl
def hasR(d:DDef)(m:DMatch):Bool:=decide (0≤m.Rule)&&decide (m.Rule<(d.Rules.length:Int))
def firedM(d:DDef)(s:List DItem)(m:DMatch):Bool:=hasR d m&&decide (m.Binds.length=0)&&decide (m.Ids.length=posN (List.getD d.Rules m.Rule.toNat zRule).Pats)&&m.Ids.all (hasId s)
def firedOk(d:DDef)(x:DInst):Bool:=decide (x.Fired.length≤1000)&&x.Fired.all (firedM d x.S.Items)
def liveT(l:List DTask):Bool:=anyI l.length fun k=>isOpen (List.getD l k zTask)
def endedX(x:DInst):Bool:=decide (x.State=2∨x.State=4∨x.State=6)
def undoingX(x:DInst):Bool:=decide (x.State=3)||decide (x.State=5)
def instOk(d:DDef)(x:DInst):Bool:=defOk d&&storeOk x.S&&tasksOk x.Tasks&&timersOk x.Timers&&undosOk x.Undos&&decide (1≤x.State∧x.State≤6)&&decide (0≤x.Now∧x.Now≤1000000000)&&firedOk d x&& !(endedX x&&(liveT x.Tasks||decide (0<x.Timers.length)))&&(!undoingX x||decide (0<x.Undos.length))
def Zk97:Con UU where
 α:=(List DRule)×(List (DA UU)→Option Value)
 md:=[.ro,.ro]
 of:=oC (oL .eRule) (o1 oF)
 ds:=fun x=>[dL .eRule x.1,dF x.2]
 pre:=fun(l,p)=>[∀j:Nat,j<l.length→p [daRule (List.getD l j zRule)]=some (.bool (boolOf (p [daRule (List.getD l j zRule)])))]
 res:=fun(l,p)=>⟨[dI (idxI l.length (fun j=>boolOf (p [daRule (List.getD l j zRule)])))],true,[]⟩
 law:=lC (lL .eRule) (l1 lF)
def Zi97_2(l:(List DRule))(p:(List (DA UU)→Option Value)):Int×Unit→Prop:=fun(i,_)=>0≤i∧i≤l.length∧∀j:Nat,(j:Int)<i→boolOf (p [daRule (List.getD l j zRule)])=false
def Zm97_2(l:(List DRule))(p:(List (DA UU)→Option Value)):Int×Unit→Nat:=fun(i,_)=>l.length-i.toNat
def Za97:Zk97.α→Nat→Option (Ann UU):=fun(l,p)=>annL [(2,annOf [.slot 8 (8,1024) (.lit (.int .i64))] (fun _=>Zi97_2 l p) (Zm97_2 l p))]
def Zu97:List (FuncId×Con UU):=[]
theorem Zo97:Holds EE (97,Zk97):=by
 refine holds_of EE_ok func97 Zk97 (by kernel_rfl) Zu97 all_nil Za97 (fun x hp hb=> ?_)
 obtain⟨l,p⟩:=x
 have hl_l:l.length≤9223372036854775807:=bdL (hb _ m0)
 have hp0:∀j:Nat,j<l.length→p [daRule (List.getD l j zRule)]=some (.bool (boolOf (p [daRule (List.getD l j zRule)]))):=hp _ m0
 clear hp hb
 apply @ve _ (Zi97_2 l p ((0:Int),())∧∀(y:Int×PUnit),let x1:DRule:=List.getD l y.1.toNat zRule;let x0:Bool:=boolOf (p [{agg:=true,cs:=[CS x1.Name,CI x1.Sal,CL .ePat x1.Pats,CL .eCond x1.Conds,CL .eAct x1.Acts]:DA UU}]);Zi97_2 l p y→bif decide (y.1<(l.length:Int)) then(0:Int)≤y.1∧y.1.toNat<l.length∧p [{agg:=true,cs:=[CS x1.Name,CI x1.Sal,CL .ePat x1.Pats,CL .eCond x1.Conds,CL .eAct x1.Acts]:DA UU}]=some (Value.bool x0)∧bif x0 then Li y.1 (idxI (l.length) fun(j:Nat)=>boolOf (p [daRule (List.getD l j zRule)])) else Zi97_2 l p (IntKind.wrap IntKind.i64 (y.1+(1:Int)),())∧Zm97_2 l p (IntKind.wrap IntKind.i64 (y.1+(1:Int)),())<Zm97_2 l p y else Li (-1:Int) (idxI (l.length) fun(j:Nat)=>boolOf (p [daRule (List.getD l j zRule)]))) (by kernel_rfl)
 dsimp only
 refine⟨⟨by omega,by omega,by intro j hj;omega⟩,?_⟩
 rintro⟨i,⟨⟩⟩ ⟨h1,h2,hR⟩
 simp only[daRule] at*
 refine if_cond (fun hc=> ?_) (fun hc=> ?_)
 ·have hc:=of_decide_eq_true hc
  rw[wrap_i64 (by omega) (by omega)]
  refine⟨by omega,by omega,hp0 i.toNat (by omega),if_cond (fun h=>Lf_i ?_) (fun h=>⟨⟨by omega,by omega,upto_no (p:=fun j=>boolOf (p [daRule (List.getD l j zRule)])) h1 hR h⟩,by simp only[Zm97_2];omega⟩)⟩
  rw[idxI_found (i:=i.toNat) (by omega) h (fun j hj=>hR j (by omega))]
  omega
 ·have hc:=of_decide_eq_false hc
  exact Lf_i (idxI_none (fun j hj=>hR j (by omega))).symm
def Zh97:HH:=⟨_,Zo97⟩
def Zk98:Con UU where
 α:=DRule×ByteArray
 md:=[.ro,.ro]
 of:=fun|[.agg [.lit (.string a0),.lit (.int .i64 a1),.sl .ePat a2,.sl .eCond a3,.sl .eAct a4],.ptr [.lit (.string a5)]]=>some (⟨a0,a1,a2,a3,a4⟩,a5)|_=>none
 ds:=fun(r,name)=>[.agg [.lit (.string r.Name),.lit (.int .i64 r.Sal),.sl .ePat r.Pats,.sl .eCond r.Conds,.sl .eAct r.Acts],.ptr [.lit (.string name)]]
 pre:=fun(r,name)=>[]
 res:=fun(r,name)=>⟨[.one (.lit (.bool (decide (r.Name=name))))],true,[]⟩
 law:=by intro l x h;(try simp only at h);split at h<;>cases h;rfl
def Za98:Zk98.α→Nat→Option (Ann UU):=fun(r,name)=>annL []
def Zu98:List (FuncId×Con UU):=[]
theorem Zo98:Holds EE (98,Zk98):=by
 refine holds_of EE_ok func98 Zk98 (by kernel_rfl) Zu98 all_nil Za98 (fun x hp hb=> ?_)
 obtain⟨r,name⟩:=x
 have hb_r:BdDV (U:=UU) (.agg [.lit (.string r.Name),.lit (.int .i64 r.Sal),.sl .ePat r.Pats,.sl .eCond r.Conds,.sl .eAct r.Acts]):=hb _ (zab)
 have hl_r_Name:r.Name.size≤9223372036854775807:=Bd.str (hb_r _ (by simp))
 have hl_r_Pats:r.Pats.length≤9223372036854775807:=Bd.len (U:=UU) (τ:=.ePat) (xs:=r.Pats) (hb_r _ (by simp))
 have hl_r_Conds:r.Conds.length≤9223372036854775807:=Bd.len (U:=UU) (τ:=.eCond) (xs:=r.Conds) (hb_r _ (by simp))
 have hl_r_Acts:r.Acts.length≤9223372036854775807:=Bd.len (U:=UU) (τ:=.eAct) (xs:=r.Acts) (hb_r _ (by simp))
 have hb_name:BdDV (U:=UU) (.ptr [.lit (.string name)]):=hb _ (zaa _ (zab))
 have hl_name:name.size≤9223372036854775807:=Bd.str (hb_name _ (by simp))
 clear hp hb
 apply @ve _ (Lb (ByteArray.toList r.Name==ByteArray.toList name) (decide (r.Name=name))) (by kernel_rfl)
 rw[toList_beq]
 exact Lf_rfl _
def Zh98:HH:=⟨_,Zo98⟩
def Zk36:Con UU where
 α:=DDef×ByteArray
 md:=[.ro,.ro]
 of:=oC (oA .eDef) (o1 oS)
 ds:=fun x=>[dA .eDef x.1,dS x.2]
 pre:=fun _=>[]
 res:=fun(d,name)=>⟨[dI (ruleAt d.Rules name)],true,[]⟩
 law:=lC (lA .eDef) (l1 lS)
def Za36:Zk36.α→Nat→Option (Ann UU):=fun(d,name)=>annL []
def Zu36:=us [Zh97,Zh98]
theorem Zo36:Holds EE (36,Zk36):=by
 refine holds_of EE_ok func36 Zk36 (by kernel_rfl) Zu36 (us_ok _) Za36 (fun x hp hb=> ?_)
 obtain⟨d,name⟩:=x
 have hz0:=bd_eDef (x:=d) (hb _ m0)
 have hl_d_Name:=hz0.1
 have hl_d_Rules:=hz0.2
 have hl_name:=bdS (s:=name) (hb _ m1)
 clear hp hb
 apply @ve _ ((∀(j:Nat),j<d.Rules.length→closP Zk98 [DV.ptr [CS name]] [daRule (List.getD d.Rules j zRule)]=some (Value.bool (boolOf (closP Zk98 [DV.ptr [CS name]] [daRule (List.getD d.Rules j zRule)]))))∧Li (idxI (d.Rules.length) fun(j:Nat)=>boolOf (closP Zk98 [DV.ptr [CS name]] [daRule (List.getD d.Rules j zRule)])) (ruleAt d.Rules name)) (by kernel_rfl)
 have hc:∀x:DRule,closP Zk98 [.ptr [.lit (.string name)]] [daRule x]=some (.bool (decide (x.Name=name))):=fun x=>closP_of (x:=(x,name)) rfl rfl rfl rfl (by simp[Zk98])
 refine⟨fun j hj=> ?_,Lf_i ?_⟩
 ·show closP Zk98 [.ptr [.lit (.string name)]] [daRule (List.getD d.Rules j zRule)]=_
  rw[hc];rfl
 ·exact idxI_congr fun j hj=>by
   show boolOf (closP Zk98 [.ptr [.lit (.string name)]] [daRule (List.getD d.Rules j zRule)])=_
   rw[hc];rfl
def Zh36:HH:=⟨_,Zo36⟩
def Zk102:Con UU where
 α:=DDef×ByteArray
 md:=[.ro,.ro]
 of:=oC (oA .eDef) (o1 oS)
 ds:=fun x=>[dA .eDef x.1,dS x.2]
 pre:=fun _=>[]
 res:=fun(d,name)=>⟨[dI (ruleAt d.Rules name)],true,[]⟩
 law:=lC (lA .eDef) (l1 lS)
def Zi102_2(d:DDef)(name:ByteArray):Int×(ByteArray×List DRule×Unit)×Unit→Prop:=fun(i,fb,_)=>fb=(d.Name,d.Rules,())∧0≤i∧i≤d.Rules.length∧∀j:Nat,(j:Int)<i→decide ((List.getD d.Rules j zRule).Name=name)=false
def Zm102_2(d:DDef)(name:ByteArray):Int×(ByteArray×List DRule×Unit)×Unit→Nat:=fun(i,fb,_)=>d.Rules.length-i.toNat
def Za102:Zk102.α→Nat→Option (Ann UU):=fun(d,name)=>annL [(2,annOf [.slot 5 (5,1024) (.lit (.int .i64)),.box 2 (2,1024) [.lit .str,.shr .eRule]] (fun _=>Zi102_2 d name) (Zm102_2 d name))]
def Zu102:List (FuncId×Con UU):=[]
theorem Zo102:Holds EE (102,Zk102):=by
 refine holds_of EE_ok func102 Zk102 (by kernel_rfl) Zu102 all_nil Za102 (fun x hp hb=> ?_)
 obtain⟨d,name⟩:=x
 have hz0:=bd_eDef (x:=d) (hb _ m0)
 have hl_d_Name:=hz0.1
 have hl_d_Rules:=hz0.2
 have hl_name:=bdS (s:=name) (hb _ m1)
 clear hp hb
 apply @ve _ (Zi102_2 d name ((0:Int),(d.Name,d.Rules,()),())∧∀(y:Int×(ByteArray×List DRule×PUnit)×PUnit),let x1:Nat:=y.2.1.2.1.length;let x0:Int:=(↑x1:Int);Zi102_2 d name y→bif decide (y.1<x0) then(0:Int)≤y.1∧y.1.toNat<x1∧bif ByteArray.toList (List.getD y.2.1.2.1 y.1.toNat zRule).Name==ByteArray.toList name then Li y.1 (ruleAt d.Rules name) else Zi102_2 d name (IntKind.wrap IntKind.i64 (y.1+(1:Int)),(y.2.1.1,y.2.1.2.1,()),())∧Zm102_2 d name (IntKind.wrap IntKind.i64 (y.1+(1:Int)),(y.2.1.1,y.2.1.2.1,()),())<Zm102_2 d name y else Li (-1:Int) (ruleAt d.Rules name)) (by kernel_rfl)
 dsimp only
 refine⟨⟨rfl,by omega,by omega,by intro j hj;omega⟩,?_⟩
 rintro⟨i,fb,⟨⟩⟩ ⟨rfl,h1,h2,hR⟩
 simp only
 refine if_cond (fun hc=> ?_) (fun hc=> ?_)
 ·have hc:i<d.Rules.length:=of_decide_eq_true hc
  simp(disch:=omega) only[wrap_i64,toList_beq]
  refine⟨by omega,by omega,if_cond (fun h=>Lf_i ?_) (fun h=>⟨⟨rfl,by omega,by omega,upto_no (p:=fun j=>decide ((List.getD d.Rules j zRule).Name=name)) h1 hR h⟩,by simp only[Zm102_2];omega⟩)⟩
  rw[ruleAt,idxI_found (i:=i.toNat) (by omega) h (fun j hj=>hR j (by omega))]
  omega
 ·have hc:¬i<d.Rules.length:=of_decide_eq_false hc
  exact Lf_i (idxI_none (fun j hj=>hR j (by omega))).symm
def Zh102:HH:=⟨_,Zo102⟩
def Zk38:Con UU where
 α:=DDef
 md:=[.ro]
 of:=o1 (oA .eDef)
 ds:=fun x=>[dA .eDef x]
 pre:=fun d=>[sizeDef d≤4294967295]
 res:=fun d=>⟨[dO (defOk d)],true,[]⟩
 law:=l1 (lA .eDef)
def Zi38_2(d:DDef):Int×(ByteArray×List DRule×Unit)×Unit→Prop:=fun(i,b,_)=>b=(d.Name,d.Rules,())∧0≤i∧i≤d.Rules.length∧∀j:Nat,(j:Int)<i→defAtR d.Rules j=true
def Zm38_2(d:DDef):Int×(ByteArray×List DRule×Unit)×Unit→Nat:=fun(i,b,_)=>d.Rules.length-i.toNat
def Za38:Zk38.α→Nat→Option (Ann UU):=fun d=>annL [(2,annOf [.slot 3 (3,1024) (.lit (.int .i64)),.box 1 (1,1024) [.lit .str,.shr .eRule]] (fun _=>Zi38_2 d) (Zm38_2 d))]
def Zu38:=us [Zh101,Zh102,Zh103,Zh104]
theorem Zo38:Holds EE (38,Zk38):=by
 refine holds_of EE_ok func38 Zk38 (by kernel_rfl) Zu38 (us_ok _) Za38 (fun(d:DDef) hp hb=> ?_)
 have hz0:=bd_eDef (x:=d) (hb _ m0)
 have hl_d_Name:=hz0.1
 have hl_d_Rules:=hz0.2
 have hp0:sizeDef d≤4294967295:=hp _ m0
 clear hp hb
 apply @ve _ (Zi38_2 d ((0:Int),(d.Name,d.Rules,()),())∧∀(y:Int×(ByteArray×List DRule×PUnit)×PUnit),let x1:DRule:=List.getD y.2.1.2.1 y.1.toNat zRule;let x2:Nat:=y.2.1.2.1.length;let x0:Int:=(↑x2:Int);Zi38_2 d y→bif decide (y.1<x0) then(0:Int)≤y.1∧y.1.toNat<x2∧patArgs x1.Pats≤(4294967295:Nat)∧bif !ruleOk x1 then Lb false (defOk d) else(0:Int)≤y.1∧y.1.toNat<x2∧bif ruleAt y.2.1.2.1 x1.Name !=y.1 then Lb false (defOk d) else Zi38_2 d (IntKind.wrap IntKind.i64 (y.1+(1:Int)),(y.2.1.1,y.2.1.2.1,()),())∧Zm38_2 d (IntKind.wrap IntKind.i64 (y.1+(1:Int)),(y.2.1.1,y.2.1.2.1,()),())<Zm38_2 d y else bif nameOk y.2.1.1 then Lb (decide ((1:Int)≤x0∧x0≤(12:Int))) (defOk d) else Lb false (defOk d)) (by kernel_rfl)
 dsimp only
 refine⟨⟨rfl,by omega,by omega,by intro j hj;omega⟩,?_⟩
 rintro⟨i,⟨b1,b2,⟨⟩⟩,⟨⟩⟩ ⟨hbx,h1,h2,hR⟩
 cases hbx
 simp only
 refine if_dec (fun hc=> ?_) (fun hc=> ?_)
 ·have hN:defAtR d.Rules i.toNat=false→defOk d=false:=fun h=>by
   have hf:allI d.Rules.length (defAtR d.Rules)=false:=allI_false (j:=i.toNat) (by omega) h
   simp only[defOk,hf,zbs]
  have hs:=rule_size h1 hc
  simp only[sizeDef] at hp0
  have ei:((i.toNat:Nat):Int)=i:=by omega
  rw[wrap_i64 (by omega) (by omega)]
  refine⟨by omega,by omega,by omega,if_not (fun g=>Lf_ff (hN (by simp only[defAtR,g,zbi]))) (fun g=>⟨by omega,by omega,if_not (fun k=>Lf_ff (hN ?_)) (fun k=>⟨⟨rfl,by omega,by omega,upto_step h1 hR ?_⟩,by simp only[Zm38_2];omega⟩)⟩)⟩
  ·simp only[defAtR,ei,g,zck];exact decide_eq_false (by simpa using k)
  ·simp only[defAtR,ei,g,zck];exact decide_eq_true (eq_of_beq k)
 ·have hA:allI d.Rules.length (defAtR d.Rules)=true:=allI_true fun j hj=>hR j (by omega)
  simp only[defOk,hA,zdb]
  refine if_cond (fun h=>Lf_b ?_) (fun h=>Lf_b ?_)
  ·rw[h,zck];exact decide_eq_decide.2 (by omega)
  ·rw[h,zbi]
def Zh38:HH:=⟨_,Zo38⟩
def Zk8:Con UU where
 α:=DDef
 md:=[.ro]
 of:=o1 (oA .eDef)
 ds:=fun x=>[dA .eDef x]
 pre:=fun _=>[]
 res:=fun d=>⟨[dO (defOk d)],true,[]⟩
 law:=l1 (lA .eDef)
def Zi8_4(d:DDef):Int×(ByteArray×List DRule×Unit)×Unit→Prop:=fun(i,b,_)=>b=(d.Name,d.Rules,())∧nameOk d.Name=true∧(1≤d.Rules.length∧d.Rules.length≤12)∧0≤i∧i≤d.Rules.length∧∀j:Nat,(j:Int)<i→defAtR d.Rules j=true
def Zm8_4(d:DDef):Int×(ByteArray×List DRule×Unit)×Unit→Nat:=fun(i,b,_)=>d.Rules.length-i.toNat
def Za8:Zk8.α→Nat→Option (Ann UU):=fun d=>annL [(4,annOf [.slot 19 (19,1024) (.lit (.int .i64)),.box 1 (1,1024) [.lit .str,.shr .eRule]] (fun _=>Zi8_4 d) (Zm8_4 d))]
def Zu8:=us [Zh35,Zh36,Zh33,Zh34]
theorem Zo8:Holds EE (8,Zk8):=by
 refine holds_of EE_ok func8 Zk8 (by kernel_rfl) Zu8 (us_ok _) Za8 (fun(d:DDef) hp hb=> ?_)
 have hz0:=bd_eDef (x:=d) (hb _ m0)
 have hl_d_Name:=hz0.1
 have hl_d_Rules:=hz0.2
 clear hp hb
 apply @ve _ (let x0:Int:=(d.Rules.length:Int);bif !nameOk d.Name then Lb false (defOk d) else bif !decide ((1:Int)≤x0∧x0≤(12:Int)) then Lb false (defOk d) else Zi8_4 d ((0:Int),(d.Name,d.Rules,()),())∧∀(y:Int×(ByteArray×List DRule×PUnit)×PUnit),Zi8_4 d y→bif decide (y.1<x0) then(0:Int)≤y.1∧y.1.toNat<d.Rules.length∧bif !ruleOk (List.getD d.Rules y.1.toNat zRule) then Lb false (defOk d) else bif ruleAt y.2.1.2.1 (List.getD d.Rules y.1.toNat zRule).Name !=y.1 then Lb false (defOk d) else Zi8_4 d (IntKind.wrap IntKind.i64 (y.1+(1:Int)),(y.2.1.1,y.2.1.2.1,()),())∧Zm8_4 d (IntKind.wrap IntKind.i64 (y.1+(1:Int)),(y.2.1.1,y.2.1.2.1,()),())<Zm8_4 d y else Lb true (defOk d)) (by kernel_rfl)
 dsimp only
 refine if_not (fun a1=>Lf_ff (by simp only[defOk,a1,zbi])) (fun a1=>if_not (fun a2=>Lf_ff ?_) (fun a2=> ?_))
 ·have a2:=of_decide_eq_false a2
  simp only[defOk];rw[decide_eq_false (p:=1≤d.Rules.length∧d.Rules.length≤12) (by omega),zbs,zbi]
 have a2:=of_decide_eq_true a2
 refine⟨⟨rfl,a1,by omega,by omega,by omega,by intro j hj;omega⟩,?_⟩
 rintro⟨i,⟨b1,b2,⟨⟩⟩,⟨⟩⟩ ⟨hbx,a3,a4,h1,h2,hR⟩
 cases hbx
 simp only
 refine if_dec (fun hc=> ?_) (fun hc=> ?_)
 ·have hN:defAtR d.Rules i.toNat=false→defOk d=false:=fun h=>by
   have hf:allI d.Rules.length (defAtR d.Rules)=false:=allI_false (j:=i.toNat) (by omega) h
   simp only[defOk,hf,zbs]
  have ei:((i.toNat:Nat):Int)=i:=by omega
  rw[wrap_i64 (by omega) (by omega)]
  refine⟨by omega,by omega,if_not (fun g=>Lf_ff (hN (by simp only[defAtR,g,zbi]))) (fun g=>if_not (fun k=>Lf_ff (hN ?_)) (fun k=>⟨⟨rfl,a3,a4,by omega,by omega,upto_step h1 hR ?_⟩,by simp only[Zm8_4];omega⟩))⟩
  ·simp only[defAtR,ei,g,zck];exact decide_eq_false (by simpa using k)
  ·simp only[defAtR,ei,g,zck];exact decide_eq_true (eq_of_beq k)
 ·have hA:allI d.Rules.length (defAtR d.Rules)=true:=allI_true fun j hj=>hR j (by omega)
  refine Lf_tt ?_
  simp only[defOk,hA,a3,decide_eq_true a4];rfl
def Zh8:HH:=⟨_,Zo8⟩
def Zk158:Con UU where
 α:=DStore×DFact
 md:=[.ro,.ro]
 of:=oC (oA .eStore) (o1 (oA .eFact))
 ds:=fun x=>[dA .eStore x.1,dA .eFact x.2]
 pre:=fun _=>[]
 res:=fun(s,f)=>⟨[dI (idOf s.Items f)],true,[]⟩
 law:=lC (lA .eStore) (l1 (lA .eFact))
def Zi158_2(s:DStore)(f:DFact):Int×(List DItem×Int×Unit)×(ByteArray×List DVal×Unit)×Unit→Prop:=fun(i,b,g,_)=>b=(s.Items,s.Next,())∧g=(f.Kind,f.Fields,())∧0≤i∧i≤s.Items.length∧∀j:Nat,(j:Int)<i→decide ((List.getD s.Items j zItem).F=f)=false
def Zm158_2(s:DStore)(f:DFact):Int×(List DItem×Int×Unit)×(ByteArray×List DVal×Unit)×Unit→Nat:=fun(i,b,g,_)=>s.Items.length-i.toNat
def Za158:Zk158.α→Nat→Option (Ann UU):=fun(s,f)=>annL [(2,annOf [.slot 5 (5,1024) (.lit (.int .i64)),.box 2 (2,1024) [.shr .eItem,.lit (.int .i64)],.box 3 (3,1024) [.lit .str,.shr .eVal]] (fun _=>Zi158_2 s f) (Zm158_2 s f))]
def Zu158:=us [Zh186]
theorem Zo158:Holds EE (158,Zk158):=by
 refine holds_of EE_ok func158 Zk158 (by kernel_rfl) Zu158 (us_ok _) Za158 (fun x hp hb=> ?_)
 obtain⟨s,f⟩:=x
 have hl_s_Items:=bd_eStore (x:=s) (hb _ m0)
 have hz1:=bd_eFact (x:=f) (hb _ m1)
 have hl_f_Kind:=hz1.1
 have hl_f_Fields:=hz1.2
 clear hp hb
 apply @ve _ (Zi158_2 s f ((0:Int),(s.Items,s.Next,()),(f.Kind,f.Fields,()),())∧∀(y:Int×(List DItem×Int×PUnit)×(ByteArray×List DVal×PUnit)×PUnit),let x0:DItem:=List.getD y.2.1.1 y.1.toNat zItem;let x2:Nat:=y.2.1.1.length;let x1:Int:=(↑x2:Int);Zi158_2 s f y→bif decide (y.1<x1) then(0:Int)≤y.1∧y.1.toNat<x2∧bif decide (x0.F={Kind:=y.2.2.1.1,Fields:=y.2.2.1.2.1:DFact}) then(0:Int)≤y.1∧y.1.toNat<x2∧Li x0.Id (idOf s.Items f) else Zi158_2 s f (IntKind.wrap IntKind.i64 (y.1+(1:Int)),(y.2.1.1,y.2.1.2.1,()),(y.2.2.1.1,y.2.2.1.2.1,()),())∧Zm158_2 s f (IntKind.wrap IntKind.i64 (y.1+(1:Int)),(y.2.1.1,y.2.1.2.1,()),(y.2.2.1.1,y.2.2.1.2.1,()),())<Zm158_2 s f y else Li (0:Int) (idOf s.Items f)) (by kernel_rfl)
 dsimp only
 refine⟨⟨rfl,rfl,by omega,by omega,by intro j hj;omega⟩,?_⟩
 rintro⟨i,⟨b1,b2,⟨⟩⟩,⟨g1,g2,⟨⟩⟩,⟨⟩⟩ ⟨hbx,hg,h1,h2,hR⟩
 cases hbx
 cases hg
 simp only
 refine if_dec (fun hc=> ?_) (fun hc=> ?_)
 ·rw[wrap_i64 (by omega) (by omega)]
  refine⟨by omega,by omega,if_dec (fun h=>⟨by omega,by omega,Lf_i ?_⟩) (fun h=>⟨⟨rfl,rfl,by omega,by omega,upto_no (p:=fun j=>decide ((List.getD s.Items j zItem).F=f)) h1 hR (decide_eq_false h)⟩,by simp only[Zm158_2];omega⟩)⟩
  have e:idAt s.Items f=(i.toNat:Int):=idxI_found (i:=i.toNat) (by omega) (decide_eq_true h) (fun j hj=>hR j (by omega))
  rw[idOf,e,if_neg (by omega),zeu]
 ·refine Lf_i ?_
  have e:idAt s.Items f= -1:=idxI_none (fun j hj=>hR j (by omega))
  rw[idOf,if_pos e]
def Zh158:HH:=⟨_,Zo158⟩
def Zk188:Con UU where
 α:=DStore×Int
 md:=[.ro,.ro]
 of:=oC (oA .eStore) (o1 oI)
 ds:=fun x=>[dA .eStore x.1,dI x.2]
 pre:=fun(s,id)=>[sizeItemS s.Items≤4294967296]
 res:=fun(s,id)=>⟨[dA .eFact (factOf s.Items id),dO (hasId s.Items id)],true,[]⟩
 law:=lC (lA .eStore) (l1 lI)
def Zi188_2(s:DStore)(id:Int):Int×(List DItem×Int×Unit)×(ByteArray×List DVal×Unit)×Unit→Prop:=fun(i,b,g,_)=>b=(s.Items,s.Next,())∧0≤i∧i≤s.Items.length∧∀j:Nat,(j:Int)<i→decide ((List.getD s.Items j zItem).Id=id)=false
def Zm188_2(s:DStore)(id:Int):Int×(List DItem×Int×Unit)×(ByteArray×List DVal×Unit)×Unit→Nat:=fun(i,b,g,_)=>s.Items.length-i.toNat
def Za188:Zk188.α→Nat→Option (Ann UU):=fun(s,id)=>annL [(2,annOf [.slot 6 (6,1024) (.lit (.int .i64)),.box 2 (2,1024) [.shr .eItem,.lit (.int .i64)],.box 4 (4,1024) [.lit .str,.own .eVal true]] (fun _=>Zi188_2 s id) (Zm188_2 s id))]
def Zu188:=us [Zh159]
theorem Zo188:Holds EE (188,Zk188):=by
 refine holds_of EE_ok func188 Zk188 (by kernel_rfl) Zu188 (us_ok _) Za188 (fun x hp hb=> ?_)
 obtain⟨s,id⟩:=x
 have hl_s_Items:=bd_eStore (x:=s) (hb _ m0)
 have hl_id:=bdI (n:=id) (hb _ m1)
 have hp0:sizeItemS s.Items≤4294967296:=hp _ m0
 clear hp hb
 apply @ve _ (Zi188_2 s id ((0:Int),(s.Items,s.Next,()),({data:= #[]:ByteArray},[],()),())∧∀(y:Int×(List DItem×Int×PUnit)×(ByteArray×List DVal×PUnit)×PUnit),let x2:DItem:=List.getD y.2.1.1 y.1.toNat zItem;let x4:Nat:=y.2.1.1.length;let x1:DFact:=x2.F;let x3:Int:=(↑x4:Int);let x0:List DVal:=x1.Fields;Zi188_2 s id y→bif decide (y.1<x3) then(0:Int)≤y.1∧y.1.toNat<x4∧bif x2.Id==id then(0:Int)≤y.1∧y.1.toNat<x4∧x0.length≤(4294967296:Nat)∧Lf [DV.agg [CS x1.Kind,CL .eVal x0],VB true] [DV.agg [CS ((factOf s.Items id).Kind),CL .eVal (factOf s.Items id).Fields],VB (hasId s.Items id)] else Zi188_2 s id (IntKind.wrap IntKind.i64 (y.1+(1:Int)),(y.2.1.1,y.2.1.2.1,()),(y.2.2.1.1,y.2.2.1.2.1,()),())∧Zm188_2 s id (IntKind.wrap IntKind.i64 (y.1+(1:Int)),(y.2.1.1,y.2.1.2.1,()),(y.2.2.1.1,y.2.2.1.2.1,()),())<Zm188_2 s id y else Lf [DV.agg [CS ({data:= #[]:ByteArray}),CL .eVal []],VB false] [DV.agg [CS ((factOf s.Items id).Kind),CL .eVal (factOf s.Items id).Fields],VB (hasId s.Items id)]) (by kernel_rfl)
 dsimp only
 refine⟨⟨rfl,by omega,by omega,by intro j hj;omega⟩,?_⟩
 rintro⟨i,⟨b1,b2,⟨⟩⟩,⟨g1,g2,⟨⟩⟩,⟨⟩⟩ ⟨hbx,h1,h2,hR⟩
 cases hbx
 simp only
 refine if_dec (fun hc=> ?_) (fun hc=> ?_)
 ·rw[wrap_i64 (by omega) (by omega)]
  have hs:=sum_getD_le sizeItem s.Items zItem h1 hc
  simp only[sizeItem,sizeFact,sizeValS] at hs
  simp only[sizeItemS,sizeItem,sizeFact,sizeValS] at hp0
  refine⟨by omega,by omega,if_num (fun h=>⟨by omega,by omega,by omega,?_⟩) (fun h=>⟨⟨rfl,by omega,by omega,upto_no (p:=fun j=>decide ((List.getD s.Items j zItem).Id=id)) h1 hR (decide_eq_false h)⟩,by simp only[Zm188_2];omega⟩)⟩
  have e:placeId s.Items id=(i.toNat:Int):=idxI_found (i:=i.toNat) (by omega) (decide_eq_true h) (fun j hj=>hR j (by omega))
  have e1:factOf s.Items id=(List.getD s.Items i.toNat zItem).F:=by rw[factOf,e,if_neg (by omega),zeu]
  have e2:hasId s.Items id=true:=anyI_true (j:=i.toNat) (by omega) (decide_eq_true h)
  rw[e1,e2];exact Lf_rfl _
 ·have e:placeId s.Items id= -1:=idxI_none (fun j hj=>hR j (by omega))
  have e1:factOf s.Items id=zFact:=by rw[factOf,if_pos e]
  have e2:hasId s.Items id=false:=anyI_false fun j hj=>hR j (by omega)
  rw[e1,e2];exact Lf_rfl _
def Zh188:HH:=⟨_,Zo188⟩
def Zk205:Con UU where
 α:=DStore×Int
 md:=[.ro,.ro]
 of:=oC (oA .eStore) (o1 oI)
 ds:=fun x=>[dA .eStore x.1,dI x.2]
 pre:=fun(s,id)=>[sizeItemS s.Items≤4294967296]
 res:=fun(s,id)=>⟨[dA .eFact (factOf s.Items id),dO (hasId s.Items id)],true,[]⟩
 law:=lC (lA .eStore) (l1 lI)
def Zi205_2(s:DStore)(id:Int):Int×(ByteArray×List DVal×Unit)×Unit→Prop:=fun(i,g,_)=>0≤i∧i≤s.Items.length∧∀j:Nat,(j:Int)<i→decide ((List.getD s.Items j zItem).Id=id)=false
def Zm205_2(s:DStore)(id:Int):Int×(ByteArray×List DVal×Unit)×Unit→Nat:=fun(i,g,_)=>s.Items.length-i.toNat
def Za205:Zk205.α→Nat→Option (Ann UU):=fun(s,id)=>annL [(2,annOf [.slot 11 (11,1024) (.lit (.int .i64)),.box 4 (4,1024) [.lit .str,.own .eVal true]] (fun _=>Zi205_2 s id) (Zm205_2 s id))]
def Zu205:=us [Zh266]
theorem Zo205:Holds EE (205,Zk205):=by
 refine holds_of EE_ok func205 Zk205 (by kernel_rfl) Zu205 (us_ok _) Za205 (fun x hp hb=> ?_)
 obtain⟨s,id⟩:=x
 have hl_s_Items:=bd_eStore (x:=s) (hb _ m0)
 have hl_id:=bdI (n:=id) (hb _ m1)
 have hp0:sizeItemS s.Items≤4294967296:=hp _ m0
 clear hp hb
 apply @ve _ (Zi205_2 s id ((0:Int),({data:= #[]:ByteArray},[],()),())∧∀(y:Int×(ByteArray×List DVal×PUnit)×PUnit),Zi205_2 s id y→bif decide (y.1<(s.Items.length:Int)) then(0:Int)≤y.1∧y.1.toNat<s.Items.length∧bif (List.getD s.Items y.1.toNat zItem).Id==id then List.length (List.getD s.Items y.1.toNat zItem).F.Fields≤(4294967296:Nat)∧Lf [DV.agg [CS ((List.getD s.Items y.1.toNat zItem).F.Kind),CL .eVal (List.getD s.Items y.1.toNat zItem).F.Fields],VB true] [DV.agg [CS ((factOf s.Items id).Kind),CL .eVal (factOf s.Items id).Fields],VB (hasId s.Items id)] else Zi205_2 s id (IntKind.wrap IntKind.i64 (y.1+(1:Int)),(y.2.1.1,y.2.1.2.1,()),())∧Zm205_2 s id (IntKind.wrap IntKind.i64 (y.1+(1:Int)),(y.2.1.1,y.2.1.2.1,()),())<Zm205_2 s id y else Lf [DV.agg [CS ({data:= #[]:ByteArray}),CL .eVal []],VB false] [DV.agg [CS ((factOf s.Items id).Kind),CL .eVal (factOf s.Items id).Fields],VB (hasId s.Items id)]) (by kernel_rfl)
 refine⟨⟨by omega,by omega,by intro j hj;omega⟩,?_⟩
 rintro⟨i,⟨g1,g2,⟨⟩⟩,⟨⟩⟩ ⟨h1,h2,hR⟩
 simp only
 refine if_dec (fun hc=> ?_) (fun hc=> ?_)
 ·rw[wrap_i64 (by omega) (by omega)]
  have hs:=sum_getD_le sizeItem s.Items zItem h1 hc
  simp only[sizeItem,sizeFact,sizeValS] at hs
  simp only[sizeItemS,sizeItem,sizeFact,sizeValS] at hp0
  refine⟨by omega,by omega,if_num (fun h=>⟨by omega,?_⟩) (fun h=>⟨⟨by omega,by omega,upto_no (p:=fun j=>decide ((List.getD s.Items j zItem).Id=id)) h1 hR (decide_eq_false h)⟩,by simp only[Zm205_2];omega⟩)⟩
  have e:placeId s.Items id=(i.toNat:Int):=idxI_found (i:=i.toNat) (by omega) (decide_eq_true h) (fun j hj=>hR j (by omega))
  have e1:factOf s.Items id=(List.getD s.Items i.toNat zItem).F:=by rw[factOf,e,if_neg (by omega),zeu]
  have e2:hasId s.Items id=true:=anyI_true (j:=i.toNat) (by omega) (decide_eq_true h)
  rw[e1,e2];exact Lf_rfl _
 ·have e:placeId s.Items id= -1:=idxI_none (fun j hj=>hR j (by omega))
  have e1:factOf s.Items id=zFact:=by rw[factOf,if_pos e]
  have e2:hasId s.Items id=false:=anyI_false fun j hj=>hR j (by omega)
  rw[e1,e2];exact Lf_rfl _
def Zh205:HH:=⟨_,Zo205⟩
def Zk114:Con UU where
 α:=DStore
 md:=[.ro]
 of:=o1 (oA .eStore)
 ds:=fun x=>[dA .eStore x]
 pre:=fun _=>[]
 res:=fun s=>⟨[dO (storeOk s)],true,[]⟩
 law:=l1 (lA .eStore)
def Zi114_4(s:DStore):Int×(List DItem×Int×Unit)×Unit→Prop:=fun(i,b,_)=>b=(s.Items,s.Next,())∧0≤i∧i≤s.Items.length∧∀j:Nat,(j:Int)<i→itemAt s j=true
def Zm114_4(s:DStore):Int×(List DItem×Int×Unit)×Unit→Nat:=fun(i,b,_)=>s.Items.length-i.toNat
def Za114:Zk114.α→Nat→Option (Ann UU):=fun s=>annL [(4,annOf [.slot 3 (3,1024) (.lit (.int .i64)),.box 1 (1,1024) [.shr .eItem,.lit (.int .i64)]] (fun _=>Zi114_4 s) (Zm114_4 s))]
def Zu114:=us [Zh104,Zh175,Zh158]
theorem Zo114:Holds EE (114,Zk114):=by
 refine holds_of EE_ok func114 Zk114 (by kernel_rfl) Zu114 (us_ok _) Za114 (fun(s:DStore) hp hb=> ?_)
 have hl_s_Items:=bd_eStore (x:=s) (hb _ m0)
 clear hp hb
 apply @ve _ (bif !decide ((1:Int)≤s.Next∧s.Next≤(1000000:Int)) then Lb false (storeOk s) else bif decide ((s.Items.length:Int)>(40:Int)) then Lb false (storeOk s) else Zi114_4 s ((0:Int),(s.Items,s.Next,()),())∧∀(y:Int×(List DItem×Int×PUnit)×PUnit),let x1:Nat:=y.2.1.1.length;let x4:DItem:=List.getD y.2.1.1 y.1.toNat zItem;let x5:Nat:=Int.toNat (IntKind.wrap IntKind.i64 (y.1-(1:Int)));let x0:Int:=x4.Id;let x2:Int:=(List.getD y.2.1.1 x5 zItem).Id;let x3:DFact:=x4.F;Zi114_4 s y→bif decide (y.1<(↑x1:Int)) then(0:Int)≤y.1∧y.1.toNat<x1∧bif !factOk x3 then Lb false (storeOk s) else bif decide (x0<(1:Int)) then Lb false (storeOk s) else bif decide (x0≥y.2.1.2.1) then Lb false (storeOk s) else bif decide (y.1>(0:Int)) then(0:Int)≤IntKind.wrap IntKind.i64 (y.1-(1:Int))∧x5<x1∧bif decide (x2≥x0) then Lb false (storeOk s) else bif idOf y.2.1.1 x3 !=x0 then Lb false (storeOk s) else Zi114_4 s (IntKind.wrap IntKind.i64 (y.1+(1:Int)),(y.2.1.1,y.2.1.2.1,()),())∧Zm114_4 s (IntKind.wrap IntKind.i64 (y.1+(1:Int)),(y.2.1.1,y.2.1.2.1,()),())<Zm114_4 s y else bif idOf y.2.1.1 x3 !=x0 then Lb false (storeOk s) else Zi114_4 s (IntKind.wrap IntKind.i64 (y.1+(1:Int)),(y.2.1.1,y.2.1.2.1,()),())∧Zm114_4 s (IntKind.wrap IntKind.i64 (y.1+(1:Int)),(y.2.1.1,y.2.1.2.1,()),())<Zm114_4 s y else Lb true (storeOk s)) (by kernel_rfl)
 dsimp only
 refine if_not (fun a1=>Lf_ff (by simp only[storeOk,a1,zbi])) (fun a1=>if_dec (fun a2=>Lf_ff ?_) (fun a2=> ?_))
 ·simp only[storeOk];rw[decide_eq_false (p:=s.Items.length≤40) (by omega),zbs,zbi]
 refine⟨⟨rfl,by omega,by omega,by intro j hj;omega⟩,?_⟩
 rintro⟨i,⟨b1,b2,⟨⟩⟩,⟨⟩⟩ ⟨hbx,h1,h2,hR⟩
 cases hbx
 simp only
 refine if_dec (fun hc=> ?_) (fun hc=> ?_)
 ·have hN:itemAt s i.toNat=false→storeOk s=false:=fun h=>by
   have hf:allI s.Items.length (itemAt s)=false:=allI_false (j:=i.toNat) (by omega) h
   simp only[storeOk,hf,zbs]
  have e1:(i-1).toNat=i.toNat-1:=by omega
  simp(disch:=omega) only[wrap_i64]
  simp only[e1]
  have hi1:i>0→0≤i-1:=fun h=>by omega
  have hlt:i.toNat<s.Items.length:=by omega
  have hlt':i.toNat-1<s.Items.length:=by omega
  have hgo:itemAt s i.toNat=true→Zi114_4 s (i+1,(s.Items,s.Next,PUnit.unit),PUnit.unit)∧Zm114_4 s (i+1,(s.Items,s.Next,PUnit.unit),PUnit.unit)<Zm114_4 s (i,(s.Items,s.Next,PUnit.unit),PUnit.unit):=fun h=>⟨⟨rfl,by omega,by omega,upto_step h1 hR h⟩,by simp only[Zm114_4];omega⟩
  have c3:decide (0<i.toNat)=decide (i>0):=decide_eq_decide.2 (by omega)
  simp only[itemAt,baseAt,c3] at hN hgo
  generalize hA:List.getD s.Items i.toNat zItem=a at*
  generalize hB:List.getD s.Items (i.toNat-1) zItem=b at*
  generalize hQ:idOf s.Items a.F=q at*
  generalize hO:factOk a.F=o at*
  refine And.intro h1 (And.intro hlt ?_)
  repeat' (first|refine Lf_ff (hN ?_)|refine hgo ?_|refine if_dec (fun h=> ?_) (fun h=> ?_)|refine if_not (fun h=> ?_) (fun h=> ?_)|refine And.intro hlt' ?_|refine And.intro (hi1 (by assumption)) ?_)
  all_goals (cases o<;>simp at* <;>omega)
 ·have hA:allI s.Items.length (itemAt s)=true:=allI_true fun j hj=>hR j (by omega)
  refine Lf_tt ?_
  simp only[storeOk,hA,a1,decide_eq_true (show s.Items.length≤40 by omega)];rfl
def Zh114:HH:=⟨_,Zo114⟩
def Zk31:Con UU where
 α:=DStore
 md:=[.ro]
 of:=o1 (oA .eStore)
 ds:=fun x=>[dA .eStore x]
 pre:=fun _=>[]
 res:=fun s=>⟨[dO (storeOk s)],true,[]⟩
 law:=l1 (lA .eStore)
def Zi31_4(s:DStore):Int×(List DItem×Int×Unit)×Unit→Prop:=fun(i,b,_)=>b=(s.Items,s.Next,())∧0≤i∧i≤s.Items.length∧∀j:Nat,(j:Int)<i→itemAtI s j=true
def Zm31_4(s:DStore):Int×(List DItem×Int×Unit)×Unit→Nat:=fun(i,b,_)=>s.Items.length-i.toNat
def Zi31_9(s:DStore):Int×Int×(Int×ByteArray×List DVal×Unit)×(List DItem×Int×Unit)×Unit→Int×Int×(Int×ByteArray×List DVal×Unit)×(List DItem×Int×Unit)×Unit→Prop:=fun(i0,k0,x0,b0,_) (i,k,x,b,_)=>i=i0∧x=x0∧b=b0∧0≤k∧k≤i∧∀j:Nat,(j:Int)<k→decide ((List.getD s.Items i.toNat zItem).F=(List.getD s.Items j zItem).F)=false
def Zm31_9(s:DStore):Int×Int×(Int×ByteArray×List DVal×Unit)×(List DItem×Int×Unit)×Unit→Nat:=fun(i,k,x,b,_)=>i.toNat-k.toNat
def Za31:Zk31.α→Nat→Option (Ann UU):=fun s=>annL [(4,annOf [.slot 20 (20,1024) (.lit (.int .i64)),.box 1 (1,1024) [.shr .eItem,.lit (.int .i64)]] (fun _=>Zi31_4 s) (Zm31_4 s)),(9,annOf [.slot 20 (20,1024) (.lit (.int .i64)),.slot 59 (59,1024) (.lit (.int .i64)),.box 4 (4,1024) [.lit (.int .i64),.lit .str,.shr .eVal],.box 1 (1,1024) [.shr .eItem,.lit (.int .i64)]] (Zi31_9 s) (Zm31_9 s))]
def Zu31:=us [Zh34,Zh42,Zh86]
theorem Zo31:Holds EE (31,Zk31):=by
 refine holds_of EE_ok func31 Zk31 (by kernel_rfl) Zu31 (us_ok _) Za31 (fun(s:DStore) hp hb=> ?_)
 have hl_s_Items:=bd_eStore (x:=s) (hb _ m0)
 clear hp hb
 apply @ve _ (let x0:Int:=(s.Items.length:Int);let x1:Int:=Option.getD none (0:Int);bif decide (x0>(40:Int)) then Lb false (storeOk s) else bif !decide ((1:Int)≤s.Next∧s.Next≤(1000000:Int)) then Lb false (storeOk s) else Zi31_4 s ((0:Int),(s.Items,s.Next,()),())∧∀(y:Int×(List DItem×Int×PUnit)×PUnit),let x8:Nat:=y.2.1.1.length;let x9:Int:=(List.getD s.Items y.1.toNat zItem).Id;let x10:DFact:=(List.getD s.Items y.1.toNat zItem).F;let x11:Nat:=Int.toNat (IntKind.wrap IntKind.i64 (y.1-(1:Int)));let x4:Int:=(List.getD y.2.1.1 x11 zItem).Id;let x7:Int:=(↑x8:Int);let x3:Int:=Option.getD (some y.1) x7;let x6:List DItem:=List.drop x1.toNat (List.take x3.toNat y.2.1.1);let x5:Nat:=x6.length;let x2:Int:=(↑x5:Int);Zi31_4 s y→bif decide (y.1<x0) then(0:Int)≤y.1∧y.1.toNat<s.Items.length∧bif !factOk x10 then Lb false (storeOk s) else bif !decide ((1:Int)≤x9∧x9≤IntKind.wrap IntKind.i64 (y.2.1.2.1-(1:Int))) then Lb false (storeOk s) else bif decide (y.1>(0:Int)) then(0:Int)≤IntKind.wrap IntKind.i64 (y.1-(1:Int))∧x11<x8∧bif decide (x9≤x4) then Lb false (storeOk s) else(0:Int)≤x1∧x1≤x3∧x3≤x7∧Zi31_9 s (y.1,(0:Int),(x9,x10.Kind,x10.Fields,()),(y.2.1.1,y.2.1.2.1,()),()) (y.1,(0:Int),(x9,x10.Kind,x10.Fields,()),(y.2.1.1,y.2.1.2.1,()),())∧∀(y_1:Int×Int×(Int×ByteArray×List DVal×PUnit)×(List DItem×Int×PUnit)×PUnit),let x12:Nat:=y_1.2.1.toNat;Zi31_9 s (y.1,(0:Int),(x9,x10.Kind,x10.Fields,()),(y.2.1.1,y.2.1.2.1,()),()) y_1→bif decide (y_1.2.1<x2) then(0:Int)≤y_1.2.1∧x12<x5∧bif decide ({Kind:=y_1.2.2.1.2.1,Fields:=y_1.2.2.1.2.2.1:DFact}=(List.getD x6 x12 zItem).F) then Lb false (storeOk s) else Zi31_9 s (y.1,(0:Int),(x9,x10.Kind,x10.Fields,()),(y.2.1.1,y.2.1.2.1,()),()) (y_1.1,IntKind.wrap IntKind.i64 (y_1.2.1+(1:Int)),(y_1.2.2.1.1,y_1.2.2.1.2.1,y_1.2.2.1.2.2.1,()),(y_1.2.2.2.1.1,y_1.2.2.2.1.2.1,()),())∧Zm31_9 s (y_1.1,IntKind.wrap IntKind.i64 (y_1.2.1+(1:Int)),(y_1.2.2.1.1,y_1.2.2.1.2.1,y_1.2.2.1.2.2.1,()),(y_1.2.2.2.1.1,y_1.2.2.2.1.2.1,()),())<Zm31_9 s y_1 else Zi31_4 s (IntKind.wrap IntKind.i64 (y_1.1+(1:Int)),(y_1.2.2.2.1.1,y_1.2.2.2.1.2.1,()),())∧Zm31_4 s (IntKind.wrap IntKind.i64 (y_1.1+(1:Int)),(y_1.2.2.2.1.1,y_1.2.2.2.1.2.1,()),())<Zm31_4 s y else(0:Int)≤x1∧x1≤x3∧x3≤x7∧Zi31_9 s (y.1,(0:Int),(x9,x10.Kind,x10.Fields,()),(y.2.1.1,y.2.1.2.1,()),()) (y.1,(0:Int),(x9,x10.Kind,x10.Fields,()),(y.2.1.1,y.2.1.2.1,()),())∧∀(y_1:Int×Int×(Int×ByteArray×List DVal×PUnit)×(List DItem×Int×PUnit)×PUnit),let x12:Nat:=y_1.2.1.toNat;Zi31_9 s (y.1,(0:Int),(x9,x10.Kind,x10.Fields,()),(y.2.1.1,y.2.1.2.1,()),()) y_1→bif decide (y_1.2.1<x2) then(0:Int)≤y_1.2.1∧x12<x5∧bif decide ({Kind:=y_1.2.2.1.2.1,Fields:=y_1.2.2.1.2.2.1:DFact}=(List.getD x6 x12 zItem).F) then Lb false (storeOk s) else Zi31_9 s (y.1,(0:Int),(x9,x10.Kind,x10.Fields,()),(y.2.1.1,y.2.1.2.1,()),()) (y_1.1,IntKind.wrap IntKind.i64 (y_1.2.1+(1:Int)),(y_1.2.2.1.1,y_1.2.2.1.2.1,y_1.2.2.1.2.2.1,()),(y_1.2.2.2.1.1,y_1.2.2.2.1.2.1,()),())∧Zm31_9 s (y_1.1,IntKind.wrap IntKind.i64 (y_1.2.1+(1:Int)),(y_1.2.2.1.1,y_1.2.2.1.2.1,y_1.2.2.1.2.2.1,()),(y_1.2.2.2.1.1,y_1.2.2.2.1.2.1,()),())<Zm31_9 s y_1 else Zi31_4 s (IntKind.wrap IntKind.i64 (y_1.1+(1:Int)),(y_1.2.2.2.1.1,y_1.2.2.2.1.2.1,()),())∧Zm31_4 s (IntKind.wrap IntKind.i64 (y_1.1+(1:Int)),(y_1.2.2.2.1.1,y_1.2.2.2.1.2.1,()),())<Zm31_4 s y else Lb true (storeOk s)) (by kernel_rfl)
 dsimp only
 have hF:(decide (1≤s.Next∧s.Next≤1000000)&&decide (s.Items.length≤40)&&allI s.Items.length (itemAtI s))=storeOk s:=by rw[store_same];rfl
 refine if_dec (fun a2=>Lf_ff ?_) (fun a2=>if_not (fun a1=>Lf_ff (by simp only[storeOk,a1,zbi])) (fun a1=> ?_))
 ·simp only[storeOk];rw[decide_eq_false (p:=s.Items.length≤40) (by omega),zbs,zbi]
 have a3:=of_decide_eq_true a1
 refine⟨⟨rfl,by omega,by omega,by intro j hj;omega⟩,?_⟩
 rintro⟨i,⟨b1,b2,⟨⟩⟩,⟨⟩⟩ ⟨hbx,h1,h2,hR⟩
 cases hbx
 simp only
 refine if_dec (fun hc=> ?_) (fun hc=> ?_)
 ·have hN:itemAtI s i.toNat=false→storeOk s=false:=fun h=>by
   have hf:allI s.Items.length (itemAtI s)=false:=allI_false (j:=i.toNat) (by omega) h
   rw[←hF,hf,zbs]
  have e1:(i-1).toNat=i.toNat-1:=by omega
  have c3:decide (0<i.toNat)=decide (i>0):=decide_eq_decide.2 (by omega)
  rw[wrap_i64 (n:=s.Next-1) (by omega) (by omega),wrap_i64 (n:=i-1) (by omega) (by omega),e1]
  have hnb:baseAt s i.toNat=false→storeOk s=false:=fun h=>hN (by simp only[itemAtI,h,zbi])
  refine⟨by omega,by omega,if_not (fun a=>Lf_ff (hnb (by simp only[baseAt,a,zbi]))) (fun a=>if_not (fun a'=>Lf_ff (hnb ?_)) (fun a'=>if_dec (fun p=>⟨by omega,by omega,if_dec (fun q=>Lf_ff (hnb ?_)) (fun q=> ?_)⟩) (fun p=> ?_)))⟩
  ·have a':=of_decide_eq_false a'
   by_cases g:1≤(List.getD s.Items i.toNat zItem).Id
   ·simp only[baseAt,decide_eq_false (show¬(List.getD s.Items i.toNat zItem).Id<s.Next by omega),zbs,zbi]
   ·simp only[baseAt,decide_eq_false g,zbs,zbi]
  ·simp only[baseAt,c3,decide_eq_true p,decide_eq_true q,zdb,zfa,zbs]
  ·have a':=of_decide_eq_true a'
   have hbase:baseAt s i.toNat=true:=by
    simp only[baseAt,a,decide_eq_true a'.1,decide_eq_true (show(List.getD s.Items i.toNat zItem).Id<s.Next by omega),decide_eq_false q,zbs,zea,zdb]
   refine⟨Int.le_refl 0,by simp only[zdf,zcj];omega,by simp only[zcj];omega,⟨rfl,rfl,rfl,by omega,by omega,by intro j hj;omega⟩,?_⟩
   rintro⟨i',k,⟨x1,x2,x3,⟨⟩⟩,⟨y1,y2,⟨⟩⟩,⟨⟩⟩ ⟨rfl,hx,hy,k1,k2,kR⟩
   cases hx
   cases hy
   simp only[zdf,zcj,show Int.toNat 0=0 from rfl,List.drop_zero]
   have etl:(List.take i'.toNat s.Items).length=i'.toNat:=by rw[zaw];omega
   refine if_dec (fun hk=> ?_) (fun hk=> ?_)
   ·rw[etl] at hk
    rw[getD_take s.Items zItem (show k.toNat<i'.toNat by omega),etl,wrap_i64 (n:=k+1) (by omega) (by omega)]
    refine⟨k1,by omega,if_dec (fun e=>Lf_ff (hN ?_)) (fun e=>⟨⟨rfl,rfl,rfl,by omega,by omega,upto_no (p:=fun j=>decide ((List.getD s.Items i'.toNat zItem).F=(List.getD s.Items j zItem).F)) k1 kR (decide_eq_false e)⟩,by simp only[Zm31_9];omega⟩)⟩
    have ha:(anyI i'.toNat fun k=>decide ((List.getD s.Items i'.toNat zItem).F=(List.getD s.Items k zItem).F))=true:=anyI_true (j:=k.toNat) (by omega) (decide_eq_true e)
    simp only[itemAtI,ha,zfa,zbs]
   ·rw[etl] at hk
    rw[wrap_i64 (n:=i'+1) (by omega) (by omega)]
    refine⟨⟨rfl,by omega,by omega,upto_step h1 hR ?_⟩,by simp only[Zm31_4];omega⟩
    have ha:(anyI i'.toNat fun k=>decide ((List.getD s.Items i'.toNat zItem).F=(List.getD s.Items k zItem).F))=false:=anyI_false fun j hj=>kR j (by omega)
    simp only[itemAtI,ha,hbase,zea,zdb]
  ·have a':=of_decide_eq_true a'
   have hbase:baseAt s i.toNat=true:=by
    simp only[baseAt,c3,a,decide_eq_true a'.1,decide_eq_true (show(List.getD s.Items i.toNat zItem).Id<s.Next by omega),decide_eq_false p,zbi,zea,zdb]
   refine⟨Int.le_refl 0,by simp only[zdf,zcj];omega,by simp only[zcj];omega,⟨rfl,rfl,rfl,by omega,by omega,by intro j hj;omega⟩,?_⟩
   rintro⟨i',k,⟨x1,x2,x3,⟨⟩⟩,⟨y1,y2,⟨⟩⟩,⟨⟩⟩ ⟨rfl,hx,hy,k1,k2,kR⟩
   cases hx
   cases hy
   simp only[zdf,zcj,show Int.toNat 0=0 from rfl,List.drop_zero]
   have etl:(List.take i'.toNat s.Items).length=i'.toNat:=by rw[zaw];omega
   refine if_dec (fun hk=> ?_) (fun hk=> ?_)
   ·rw[etl] at hk
    rw[getD_take s.Items zItem (show k.toNat<i'.toNat by omega),etl,wrap_i64 (n:=k+1) (by omega) (by omega)]
    refine⟨k1,by omega,if_dec (fun e=>Lf_ff (hN ?_)) (fun e=>⟨⟨rfl,rfl,rfl,by omega,by omega,upto_no (p:=fun j=>decide ((List.getD s.Items i'.toNat zItem).F=(List.getD s.Items j zItem).F)) k1 kR (decide_eq_false e)⟩,by simp only[Zm31_9];omega⟩)⟩
    have ha:(anyI i'.toNat fun k=>decide ((List.getD s.Items i'.toNat zItem).F=(List.getD s.Items k zItem).F))=true:=anyI_true (j:=k.toNat) (by omega) (decide_eq_true e)
    simp only[itemAtI,ha,zfa,zbs]
   ·rw[etl] at hk
    rw[wrap_i64 (n:=i'+1) (by omega) (by omega)]
    refine⟨⟨rfl,by omega,by omega,upto_step h1 hR ?_⟩,by simp only[Zm31_4];omega⟩
    have ha:(anyI i'.toNat fun k=>decide ((List.getD s.Items i'.toNat zItem).F=(List.getD s.Items k zItem).F))=false:=anyI_false fun j hj=>kR j (by omega)
    simp only[itemAtI,ha,hbase,zea,zdb]
 ·have hA:allI s.Items.length (itemAtI s)=true:=allI_true fun j hj=>hR j (by omega)
  refine Lf_tt ?_
  rw[←hF,hA,a1,decide_eq_true (show s.Items.length≤40 by omega)];rfl
def Zh31:HH:=⟨_,Zo31⟩
def Zk180:Con UU where
 α:=DItem×Int
 md:=[.ro,.ro]
 of:=oC (oA .lItem) (o1 oI)
 ds:=fun x=>[dA .lItem x.1,dI x.2]
 pre:=fun(a,left)=>[0≤left]
 res:=fun(a,left)=>⟨[dI (szr left (sizeItem a))],true,[]⟩
 law:=lC (lA .lItem) (l1 lI)
def Za180:Zk180.α→Nat→Option (Ann UU):=fun(a,left)=>annL []
def Zu180:=us [Zh183]
theorem Zo180:Holds EE (180,Zk180):=by
 refine holds_of EE_ok func180 Zk180 (by kernel_rfl) Zu180 (us_ok _) Za180 (fun x hp hb=> ?_)
 obtain⟨a,left⟩:=x
 have hz0:=bd_lItem (x:=a) (hb _ m0)
 have hl_a_F_Kind:=hz0.1
 have hl_a_F_Fields:=hz0.2
 have hl_left:=bdI (n:=left) (hb _ m1)
 have hp0:0≤left:=hp _ m0
 clear hp hb
 apply @ve _ ((0:Int)≤left∧bif decide (szr left (sizeFact a.F)<(0:Int)) then Li (-1:Int) (szr left (sizeItem a)) else Li (szr left (sizeFact a.F)) (szr left (sizeItem a))) (by kernel_rfl)
 refine⟨by omega,if_cond (fun h=>Lf_i (szr_bad' ?_)) (fun h=> ?_)⟩
 ·have h:=szr_neg h;simp only[sizeItem];omega
 obtain⟨e0,h0⟩:=szr_pos h
 rw[e0]
 exact Lf_i (by rw[←szr_ok' (by simp only[sizeItem];omega)];simp only[sizeItem];try omega)
def Zh180:HH:=⟨_,Zo180⟩
def Zk195:Con UU where
 α:=DItem
 md:=[.ro]
 of:=o1 (oA .lItem)
 ds:=fun x=>[dA .lItem x]
 pre:=fun a=>[sizeItem a≤4294967296]
 res:=fun a=>⟨[dA .eItem a],true,[]⟩
 law:=l1 (lA .lItem)
def Za195:Zk195.α→Nat→Option (Ann UU):=fun a=>annL []
def Zu195:=us [Zh198]
theorem Zo195:Holds EE (195,Zk195):=by
 refine holds_of EE_ok func195 Zk195 (by kernel_rfl) Zu195 (us_ok _) Za195 (fun(a:DItem) hp hb=> ?_)
 have hz0:=bd_lItem (x:=a) (hb _ m0)
 have hl_a_F_Kind:=hz0.1
 have hl_a_F_Fields:=hz0.2
 have hp0:sizeItem a≤4294967296:=hp _ m0
 clear hp hb
 apply @ve _ (sizeFact a.F≤(4294967296:Nat)∧Lf [DV.agg [CI a.Id,CS a.F.Kind,CL .eVal a.F.Fields]] [DV.agg [CI a.Id,CS a.F.Kind,CL .eVal a.F.Fields]]) (by kernel_rfl)
 simp only[sizeItem] at hp0
 repeat' (first|exact Lf_rfl _|(refine And.intro (by omega) ?_))
def Zh195:HH:=⟨_,Zo195⟩
def Zk217:Con UU where
 α:=DItem×DItem
 md:=[.ro,.ro]
 of:=oC (oA .eItem) (o1 (oA .eItem))
 ds:=fun x=>[dA .eItem x.1,dA .eItem x.2]
 pre:=fun _=>[]
 res:=fun(a,b)=>⟨[dO (decide (a=b))],true,[]⟩
 law:=lC (lA .eItem) (l1 (lA .eItem))
def Za217:Zk217.α→Nat→Option (Ann UU):=fun(a,b)=>annL []
def Zu217:=us [Zh218]
theorem Zo217:Holds EE (217,Zk217):=by
 refine holds_of EE_ok func217 Zk217 (by kernel_rfl) Zu217 (us_ok _) Za217 (fun x hp hb=> ?_)
 obtain⟨a,b⟩:=x
 have hz0:=bd_eItem (x:=a) (hb _ m0)
 have hl_a_F_Kind:=hz0.1
 have hl_a_F_Fields:=hz0.2
 have hz1:=bd_eItem (x:=b) (hb _ m1)
 have hl_b_F_Kind:=hz1.1
 have hl_b_F_Fields:=hz1.2
 clear hp hb
 apply @ve _ (bif a.Id !=b.Id then Lb false (decide (a=b)) else bif !decide (a.F=b.F) then Lb false (decide (a=b)) else Lb true (decide (a=b))) (by kernel_rfl)
 obtain⟨aId,aF⟩:=a
 obtain⟨bId,bF⟩:=b
 repeat' (apply if_cond<;>intro _)
 all_goals (first|apply Lf_t|apply Lf_f)<;>simp_all
def Zh217:HH:=⟨_,Zo217⟩
def Zk109:Con UU where
 α:=(List DItem)×Int
 md:=[.ro,.ro]
 of:=oC (oL .lItem) (o1 oI)
 ds:=fun x=>[dL .lItem x.1,dI x.2]
 pre:=fun(a,left)=>[0≤left]
 res:=fun(a,left)=>⟨[dI (szr left (sizeItemS a))],true,[]⟩
 law:=lC (lL .lItem) (l1 lI)
def Zi109_5(a:(List DItem))(left:Int):Int×Int×Unit→Prop:=szI sizeItem a (sizeItemS a) left
def Zm109_5(a:(List DItem))(left:Int):Int×Int×Unit→Nat:=rM2 a
def Za109:Zk109.α→Nat→Option (Ann UU):=fun(a,left)=>annL [(5,annOf [.slot 1 (1,1024) (.lit (.int .i64)),.slot 5 (5,1024) (.lit (.int .i64))] (fun _=>Zi109_5 a left) (Zm109_5 a left))]
def Zu109:=us [Zh180]
theorem Zo109:Holds EE (109,Zk109):=by
 refine holds_of EE_ok func109 Zk109 (by kernel_rfl) Zu109 (us_ok _) Za109 (fun x hp hb=> ?_)
 obtain⟨a,left⟩:=x
 have hl_a:a.length≤9223372036854775807:=bdL (hb _ m0)
 have hl_left:=bdI (n:=left) (hb _ m1)
 have hp0:0≤left:=hp _ m0
 clear hp hb
 apply @ve _ (szV sizeItem zItem a (sizeItemS a) left) (by kernel_rfl)
 exact szV_ok rfl hp0 hl_left hl_a
def Zh109:HH:=⟨_,Zo109⟩
def Zk124:Con UU where
 α:=(List DItem)
 md:=[.ro]
 of:=o1 (oL .lItem)
 ds:=fun x=>[dL .lItem x]
 pre:=fun a=>[sizeItemS a≤4294967296]
 res:=fun a=>⟨[dL .eItem a],true,[]⟩
 law:=l1 (lL .lItem)
def Zi124_3(a:(List DItem)):List DItem×Int×Unit→Prop:=toI zItem a
def Zm124_3(a:(List DItem)):List DItem×Int×Unit→Nat:=rM2 a
def Za124:Zk124.α→Nat→Option (Ann UU):=fun a=>annL [(3,annOf [.slot 3 (3,1024) (.own .eItem true),.slot 4 (4,1024) (.lit (.int .i64))] (fun _=>Zi124_3 a) (Zm124_3 a))]
def Zu124:=us [Zh195]
theorem Zo124:Holds EE (124,Zk124):=by
 refine holds_of EE_ok func124 Zk124 (by kernel_rfl) Zu124 (us_ok _) Za124 (fun(a:(List DItem)) hp hb=> ?_)
 have hl_a:a.length≤9223372036854775807:=bdL (hb _ m0)
 have hp0:sizeItemS a≤4294967296:=hp _ m0
 clear hp hb
 apply @ve _ (toV sizeItem zItem a fun y=>Lf [.one (.sl .eItem y)] [.one (.sl .eItem a)]) (by kernel_rfl)
 exact toV_ok hp0 (Lf_rfl _)
def Zh124:HH:=⟨_,Zo124⟩
def Zk142:Con UU where
 α:=(List DItem)×(List DItem)
 md:=[.ro,.ro]
 of:=oC (oL .eItem) (o1 (oL .eItem))
 ds:=fun x=>[dL .eItem x.1,dL .eItem x.2]
 pre:=fun _=>[]
 res:=fun(a,b)=>⟨[dO (decide (a=b))],true,[]⟩
 law:=lC (lL .eItem) (l1 (lL .eItem))
def Zi142_4(a:(List DItem))(b:(List DItem)):Int×Unit→Prop:=eqI a b
def Zm142_4(a:(List DItem))(b:(List DItem)):Int×Unit→Nat:=rM1 a
def Za142:Zk142.α→Nat→Option (Ann UU):=fun(a,b)=>annL [(4,annOf [.slot 5 (5,1024) (.lit (.int .i64))] (fun _=>Zi142_4 a b) (Zm142_4 a b))]
def Zu142:=us [Zh217]
theorem Zo142:Holds EE (142,Zk142):=by
 refine holds_of EE_ok func142 Zk142 (by kernel_rfl) Zu142 (us_ok _) Za142 (fun x hp hb=> ?_)
 obtain⟨a,b⟩:=x
 have hl_a:a.length≤9223372036854775807:=bdL (hb _ m0)
 have hl_b:b.length≤9223372036854775807:=bdL (hb _ m1)
 clear hp hb
 apply @ve _ (eqV zItem a b) (by kernel_rfl)
 exact eqV_ok hl_a
def Zh142:HH:=⟨_,Zo142⟩
def Zk150:Con UU where
 α:=(List DItem)×Int
 md:=[.wr,.ro]
 of:=oC (oL .eItem) (o1 oI)
 ds:=fun x=>[dL .eItem x.1,dI x.2]
 pre:=fun(a,k)=>[0≤k,k+cntItemS a≤4611686018427387904]
 res:=fun(a,k)=>⟨[dI (k+cntItemS a)],true,[dL .eItem (markItemS a k)]⟩
 law:=lC (lL .eItem) (l1 lI)
def Zi150_2(a:(List DItem))(k:Int):List DItem×Int×Int×Unit→Prop:=fun(row,kk,i,_)=>0≤i∧i≤a.length∧row=(mkS markItem cntItem a k).take i.toNat++a.drop i.toNat∧kk=k+ctS cntItem (a.take i.toNat)
def Zm150_2(a:(List DItem))(k:Int):List DItem×Int×Int×Unit→Nat:=fun(row,kk,i,_)=>a.length-i.toNat
def Za150:Zk150.α→Nat→Option (Ann UU):=fun(a,k)=>annL [(2,annOf [.slot 0 (2000000,0) (.own .eItem true),.slot 1 (1,1024) (.lit (.int .i64)),.slot 5 (5,1024) (.lit (.int .i64))] (fun _=>Zi150_2 a k) (Zm150_2 a k))]
def Zu150:=us [Zh146,Zh151]
theorem Zo150:Holds EE (150,Zk150):=by
 refine holds_of EE_ok func150 Zk150 (by kernel_rfl) Zu150 (us_ok _) Za150 (fun x hp hb=> ?_)
 obtain⟨a,k⟩:=x
 have hl_a:a.length≤9223372036854775807:=bdL (hb _ m0)
 have hl_k:=bdI (n:=k) (hb _ m1)
 have hp0:0≤k:=hp _ m0
 have hp1:k+cntItemS a≤4611686018427387904:=hp _ m1
 clear hp hb
 apply @ve _ (Zi150_2 a k (a,k,(0:Int),())∧∀(y:List DItem×Int×Int×PUnit),let x1:Nat:=y.2.2.1.toNat;let x3:Int:=IntKind.wrap IntKind.i64 (y.2.1+(1:Int));let x4:List DItem:=List.modify y.1 x1 fun(x:DItem)=>{Id:=y.2.1,F:=x.F:DItem};let x0:List DItem:=List.modify x4 x1 fun(x:DItem)=>{Id:=x.Id,F:={Kind:=markText x3,Fields:=x.F.Fields:DFact}:DItem};let x2:Int:=IntKind.wrap IntKind.i64 (x3+(1:Int));let x5:Int:=x2+(↑(cntValS (List.getD x0 x1 zItem).F.Fields):Int);Zi150_2 a k y→bif decide (y.2.2.1<(y.1.length:Int)) then(0:Int)≤y.2.2.1∧x1<y.1.length∧x1<y.1.length∧x3≤(4611686018427387903:Int)∧(0:Int)≤y.2.2.1∧x1<x4.length∧x1<x4.length∧(0:Int)≤y.2.2.1∧x1<x0.length∧x1<x0.length∧x1<x0.length∧(0:Int)≤x2∧x5≤(4611686018427387904:Int)∧Zi150_2 a k (List.modify x0 x1 fun(x:DItem)=>{Id:=x.Id,F:={Kind:=x.F.Kind,Fields:=markValS (List.getD x0 x1 zItem).F.Fields x2:DFact}:DItem},x5,IntKind.wrap IntKind.i64 (y.2.2.1+(1:Int)),())∧Zm150_2 a k (List.modify x0 x1 fun(x:DItem)=>{Id:=x.Id,F:={Kind:=x.F.Kind,Fields:=markValS (List.getD x0 x1 zItem).F.Fields x2:DFact}:DItem},x5,IntKind.wrap IntKind.i64 (y.2.2.1+(1:Int)),())<Zm150_2 a k y else asD [VI y.2.1]=asD [VI (k+(↑(cntItemS a):Int))]∧asD [VL .eItem y.1]=asD [VL .eItem (markItemS a k)]) (by kernel_rfl)
 dsimp only
 refine⟨⟨by omega,by omega,by simp,by simp[ctS]⟩,?_⟩
 rintro⟨row,kk,i,⟨⟩⟩ ⟨h1,h2,rfl,rfl⟩
 simp only
 have hl:=mk_rl markItem cntItem a k h1 h2
 refine if_cond (fun hc=> ?_) (fun hc=> ?_)
 ·have hc:i<a.length:=by have hc:=of_decide_eq_true hc;omega
  have hct:=ctS_take cntItem a zItem h1 hc
  have hle:=ctS_take_le cntItem a (i+1).toNat
  have hg:=mk_getD _ a zItem (mk_tl markItem cntItem a k h1 h2) h1 hc
  have hM:=fun F hF=>mkS_mod markItem cntItem a zItem k (i:=i) F h1 hc hF
  have hq:(cntItemS a:Int)=ctS cntItem a:=rfl
  generalize List.getD a i.toNat zItem=x at*
  generalize hkk:k+(ctS cntItem (a.take i.toNat):Int)=kk at*
  generalize List.take i.toNat (mkS markItem cntItem a k)++List.drop i.toNat a=R at*
  simp only[cntItem] at hct
  simp(disch:=first|omega|(simp only[zbf];omega)) only[zbf,wrap_i64,getD_modify,modify_modify,hg,hl]
  repeat' (first|refine And.intro (by omega) ?_|fail)
  exact⟨⟨by omega,by omega,hM _ (by first|rfl|(simp only[markItem,markBool];rw[zbp (by omega)];rfl)),by omega⟩,by simp only[Zm150_2];omega⟩
 ·have hc:a.length≤i:=by have hc:=of_decide_eq_false hc;omega
  rw[mk_done markItem cntItem a k hc,ct_done cntItem a hc]
  exact⟨rfl,rfl⟩
def Zh150:HH:=⟨_,Zo150⟩
def Zk45:Con UU where
 α:=DStore×Int
 md:=[.ro,.ro]
 of:=oC (oA .lStore) (o1 oI)
 ds:=fun x=>[dA .lStore x.1,dI x.2]
 pre:=fun(a,left)=>[0≤left]
 res:=fun(a,left)=>⟨[dI (szr left (sizeStore a))],true,[]⟩
 law:=lC (lA .lStore) (l1 lI)
def Za45:Zk45.α→Nat→Option (Ann UU):=fun(a,left)=>annL []
def Zu45:=us [Zh109]
theorem Zo45:Holds EE (45,Zk45):=by
 refine holds_of EE_ok func45 Zk45 (by kernel_rfl) Zu45 (us_ok _) Za45 (fun x hp hb=> ?_)
 obtain⟨a,left⟩:=x
 have hl_a_Items:=bd_lStore (x:=a) (hb _ m0)
 have hl_left:=bdI (n:=left) (hb _ m1)
 have hp0:0≤left:=hp _ m0
 clear hp hb
 apply @ve _ ((0:Int)≤left∧bif decide (szr left (sizeItemS a.Items)<(0:Int)) then Li (-1:Int) (szr left (sizeStore a)) else Li (szr left (sizeItemS a.Items)) (szr left (sizeStore a))) (by kernel_rfl)
 refine⟨by omega,if_cond (fun h=>Lf_i (szr_bad' ?_)) (fun h=> ?_)⟩
 ·have h:=szr_neg h;simp only[sizeStore];omega
 obtain⟨e0,h0⟩:=szr_pos h
 rw[e0]
 exact Lf_i (by rw[←szr_ok' (by simp only[sizeStore];omega)];simp only[sizeStore];try omega)
def Zh45:HH:=⟨_,Zo45⟩
def Zk53:Con UU where
 α:=DStore
 md:=[.ro]
 of:=o1 (oA .lStore)
 ds:=fun x=>[dA .lStore x]
 pre:=fun a=>[sizeStore a≤4294967296]
 res:=fun a=>⟨[dA .eStore a],true,[]⟩
 law:=l1 (lA .lStore)
def Za53:Zk53.α→Nat→Option (Ann UU):=fun a=>annL []
def Zu53:=us [Zh124]
theorem Zo53:Holds EE (53,Zk53):=by
 refine holds_of EE_ok func53 Zk53 (by kernel_rfl) Zu53 (us_ok _) Za53 (fun(a:DStore) hp hb=> ?_)
 have hl_a_Items:=bd_lStore (x:=a) (hb _ m0)
 have hp0:sizeStore a≤4294967296:=hp _ m0
 clear hp hb
 apply @ve _ (sizeItemS a.Items≤(4294967296:Nat)∧Lf [DV.agg [CL .eItem a.Items,CI a.Next]] [DV.agg [CL .eItem a.Items,CI a.Next]]) (by kernel_rfl)
 simp only[sizeStore] at hp0
 repeat' (first|exact Lf_rfl _|(refine And.intro (by omega) ?_))
def Zh53:HH:=⟨_,Zo53⟩
def Zk63:Con UU where
 α:=DStore×DStore
 md:=[.ro,.ro]
 of:=oC (oA .eStore) (o1 (oA .eStore))
 ds:=fun x=>[dA .eStore x.1,dA .eStore x.2]
 pre:=fun _=>[]
 res:=fun(a,b)=>⟨[dO (decide (a=b))],true,[]⟩
 law:=lC (lA .eStore) (l1 (lA .eStore))
def Za63:Zk63.α→Nat→Option (Ann UU):=fun(a,b)=>annL []
def Zu63:=us [Zh142]
theorem Zo63:Holds EE (63,Zk63):=by
 refine holds_of EE_ok func63 Zk63 (by kernel_rfl) Zu63 (us_ok _) Za63 (fun x hp hb=> ?_)
 obtain⟨a,b⟩:=x
 have hl_a_Items:=bd_eStore (x:=a) (hb _ m0)
 have hl_b_Items:=bd_eStore (x:=b) (hb _ m1)
 clear hp hb
 apply @ve _ (bif !decide (a.Items=b.Items) then Lb false (decide (a=b)) else bif a.Next !=b.Next then Lb false (decide (a=b)) else Lb true (decide (a=b))) (by kernel_rfl)
 obtain⟨aItems,aNext⟩:=a
 obtain⟨bItems,bNext⟩:=b
 repeat' (apply if_cond<;>intro _)
 all_goals (first|apply Lf_t|apply Lf_f)<;>simp_all
def Zh63:HH:=⟨_,Zo63⟩
def Zk69:Con UU where
 α:=DStore×Int
 md:=[.wr,.ro]
 of:=oC (oA .eStore) (o1 oI)
 ds:=fun x=>[dA .eStore x.1,dI x.2]
 pre:=fun(a,k)=>[0≤k,k+ctStore a≤4611686018427387904]
 res:=fun(a,k)=>⟨[dI (k+ctStore a)],true,[dA .eStore (mkStore a k)]⟩
 law:=lC (lA .eStore) (l1 lI)
def Za69:Zk69.α→Nat→Option (Ann UU):=fun(a,k)=>annL []
def Zu69:=us [Zh150]
theorem Zo69:Holds EE (69,Zk69):=by
 refine holds_of EE_ok func69 Zk69 (by kernel_rfl) Zu69 (us_ok _) Za69 (fun x hp hb=> ?_)
 obtain⟨a,k⟩:=x
 have hl_a_Items:=bd_eStore (x:=a) (hb _ m0)
 have hl_k:=bdI (n:=k) (hb _ m1)
 have hp0:0≤k:=hp _ m0
 have hp1:k+ctStore a≤4611686018427387904:=hp _ m1
 clear hp hb
 apply @ve _ ((0:Int)≤k∧k+(↑(cntItemS a.Items):Int)≤(4611686018427387904:Int)∧asD [VI (k+(↑(cntItemS a.Items):Int))]=asD [VI (k+(↑(ctStore a):Int))]∧asD [DV.agg [CL .eItem (markItemS a.Items k),CI a.Next]]=asD [DV.agg [CL .eItem (mkStore a k).Items,CI ((mkStore a k).Next)]]) (by kernel_rfl)
 simp only[ctStore] at hp1
 repeat' (first|refine And.intro (by omega) ?_|fail)
 exact⟨by simp only[ctStore,Int.natCast_add,Int.add_assoc],rfl⟩
def Zh69:HH:=⟨_,Zo69⟩
def Zk287:Con UU where
 α:=DArg×Int
 md:=[.ro,.ro]
 of:=oC (oA .lArg) (o1 oI)
 ds:=fun x=>[dA .lArg x.1,dI x.2]
 pre:=fun(a,left)=>[0≤left]
 res:=fun(a,left)=>⟨[dI (szr left (sizeArg a))],true,[]⟩
 law:=lC (lA .lArg) (l1 lI)
def Za287:Zk287.α→Nat→Option (Ann UU):=fun(a,left)=>annL []
def Zu287:=us [Zh184]
theorem Zo287:Holds EE (287,Zk287):=by
 refine holds_of EE_ok func287 Zk287 (by kernel_rfl) Zu287 (us_ok _) Za287 (fun x hp hb=> ?_)
 obtain⟨a,left⟩:=x
 have hz0:=bd_lArg (x:=a) (hb _ m0)
 have hl_a_S:=hz0.1
 have hl_a_V_S:=hz0.2
 have hl_left:=bdI (n:=left) (hb _ m1)
 have hp0:0≤left:=hp _ m0
 clear hp hb
 apply @ve _ (let x0:Int:=IntKind.wrap IntKind.i64 (left-(↑(ByteArray.size a.S):Int));bif decide (x0<(0:Int)) then Li (-1:Int) (szr left (sizeArg a)) else(0:Int)≤x0∧bif decide (szr x0 (sizeVal a.V)<(0:Int)) then Li (-1:Int) (szr left (sizeArg a)) else Li (szr x0 (sizeVal a.V)) (szr left (sizeArg a))) (by kernel_rfl)
 dsimp only
 rw[wrap_i64 (by omega) (by omega)]
 refine if_cond (fun h=>Lf_i (szr_bad' ?_)) (fun h=> ?_)
 ·have h:=of_decide_eq_true h;simp only[sizeArg];omega
 have h0:=of_decide_eq_false h
 refine⟨by omega,if_cond (fun h=>Lf_i (szr_bad' ?_)) (fun h=> ?_)⟩
 ·have h:=szr_neg h;simp only[sizeArg];omega
 obtain⟨e1,h1⟩:=szr_pos h
 rw[e1]
 exact Lf_i (by rw[←szr_ok' (by simp only[sizeArg];omega)];simp only[sizeArg];try omega)
def Zh287:HH:=⟨_,Zo287⟩
def Zk292:Con UU where
 α:=DArg
 md:=[.ro]
 of:=o1 (oA .lArg)
 ds:=fun x=>[dA .lArg x]
 pre:=fun a=>[sizeArg a≤4294967296]
 res:=fun a=>⟨[dA .eArg a],true,[]⟩
 law:=l1 (lA .lArg)
def Za292:Zk292.α→Nat→Option (Ann UU):=fun a=>annL []
def Zu292:=us [Zh199]
theorem Zo292:Holds EE (292,Zk292):=by
 refine holds_of EE_ok func292 Zk292 (by kernel_rfl) Zu292 (us_ok _) Za292 (fun(a:DArg) hp hb=> ?_)
 have hz0:=bd_lArg (x:=a) (hb _ m0)
 have hl_a_S:=hz0.1
 have hl_a_V_S:=hz0.2
 have hp0:sizeArg a≤4294967296:=hp _ m0
 clear hp hb
 apply @ve _ (sizeVal a.V≤(4294967296:Nat)∧Lf [DV.agg [CI a.K,CS a.S,CI a.V.K,CI a.V.N,CS a.V.S]] [DV.agg [CI a.K,CS a.S,CI a.V.K,CI a.V.N,CS a.V.S]]) (by kernel_rfl)
 simp only[sizeArg] at hp0
 repeat' (first|exact Lf_rfl _|(refine And.intro (by omega) ?_))
def Zh292:HH:=⟨_,Zo292⟩
def Zk300:Con UU where
 α:=DArg×DArg
 md:=[.ro,.ro]
 of:=oC (oA .eArg) (o1 (oA .eArg))
 ds:=fun x=>[dA .eArg x.1,dA .eArg x.2]
 pre:=fun _=>[]
 res:=fun(a,b)=>⟨[dO (decide (a=b))],true,[]⟩
 law:=lC (lA .eArg) (l1 (lA .eArg))
def Za300:Zk300.α→Nat→Option (Ann UU):=fun(a,b)=>annL []
def Zu300:=us [Zh213]
theorem Zo300:Holds EE (300,Zk300):=by
 refine holds_of EE_ok func300 Zk300 (by kernel_rfl) Zu300 (us_ok _) Za300 (fun x hp hb=> ?_)
 obtain⟨a,b⟩:=x
 have hz0:=bd_eArg (x:=a) (hb _ m0)
 have hl_a_S:=hz0.1
 have hl_a_V_S:=hz0.2
 have hz1:=bd_eArg (x:=b) (hb _ m1)
 have hl_b_S:=hz1.1
 have hl_b_V_S:=hz1.2
 clear hp hb
 apply @ve _ (bif a.K !=b.K then Lb false (decide (a=b)) else bif !ByteArray.toList a.S==ByteArray.toList b.S then Lb false (decide (a=b)) else bif !decide (a.V=b.V) then Lb false (decide (a=b)) else Lb true (decide (a=b))) (by kernel_rfl)
 obtain⟨aK,aS,aV⟩:=a
 obtain⟨bK,bS,bV⟩:=b
 repeat' (apply if_cond<;>intro _)
 all_goals (first|apply Lf_t|apply Lf_f)<;>simp_all
def Zh300:HH:=⟨_,Zo300⟩
def Zk286:Con UU where
 α:=(List DArg)×Int
 md:=[.ro,.ro]
 of:=oC (oL .lArg) (o1 oI)
 ds:=fun x=>[dL .lArg x.1,dI x.2]
 pre:=fun(a,left)=>[0≤left]
 res:=fun(a,left)=>⟨[dI (szr left (sizeArgS a))],true,[]⟩
 law:=lC (lL .lArg) (l1 lI)
def Zi286_5(a:(List DArg))(left:Int):Int×Int×Unit→Prop:=szI sizeArg a (sizeArgS a) left
def Zm286_5(a:(List DArg))(left:Int):Int×Int×Unit→Nat:=rM2 a
def Za286:Zk286.α→Nat→Option (Ann UU):=fun(a,left)=>annL [(5,annOf [.slot 1 (1,1024) (.lit (.int .i64)),.slot 5 (5,1024) (.lit (.int .i64))] (fun _=>Zi286_5 a left) (Zm286_5 a left))]
def Zu286:=us [Zh287]
theorem Zo286:Holds EE (286,Zk286):=by
 refine holds_of EE_ok func286 Zk286 (by kernel_rfl) Zu286 (us_ok _) Za286 (fun x hp hb=> ?_)
 obtain⟨a,left⟩:=x
 have hl_a:a.length≤9223372036854775807:=bdL (hb _ m0)
 have hl_left:=bdI (n:=left) (hb _ m1)
 have hp0:0≤left:=hp _ m0
 clear hp hb
 apply @ve _ (szV sizeArg zArg a (sizeArgS a) left) (by kernel_rfl)
 exact szV_ok rfl hp0 hl_left hl_a
def Zh286:HH:=⟨_,Zo286⟩
def Zk291:Con UU where
 α:=(List DArg)
 md:=[.ro]
 of:=o1 (oL .lArg)
 ds:=fun x=>[dL .lArg x]
 pre:=fun a=>[sizeArgS a≤4294967296]
 res:=fun a=>⟨[dL .eArg a],true,[]⟩
 law:=l1 (lL .lArg)
def Zi291_3(a:(List DArg)):List DArg×Int×Unit→Prop:=toI zArg a
def Zm291_3(a:(List DArg)):List DArg×Int×Unit→Nat:=rM2 a
def Za291:Zk291.α→Nat→Option (Ann UU):=fun a=>annL [(3,annOf [.slot 3 (3,1024) (.own .eArg true),.slot 4 (4,1024) (.lit (.int .i64))] (fun _=>Zi291_3 a) (Zm291_3 a))]
def Zu291:=us [Zh292]
theorem Zo291:Holds EE (291,Zk291):=by
 refine holds_of EE_ok func291 Zk291 (by kernel_rfl) Zu291 (us_ok _) Za291 (fun(a:(List DArg)) hp hb=> ?_)
 have hl_a:a.length≤9223372036854775807:=bdL (hb _ m0)
 have hp0:sizeArgS a≤4294967296:=hp _ m0
 clear hp hb
 apply @ve _ (toV sizeArg zArg a fun y=>Lf [.one (.sl .eArg y)] [.one (.sl .eArg a)]) (by kernel_rfl)
 exact toV_ok hp0 (Lf_rfl _)
def Zh291:HH:=⟨_,Zo291⟩
def Zk299:Con UU where
 α:=(List DArg)×(List DArg)
 md:=[.ro,.ro]
 of:=oC (oL .eArg) (o1 (oL .eArg))
 ds:=fun x=>[dL .eArg x.1,dL .eArg x.2]
 pre:=fun _=>[]
 res:=fun(a,b)=>⟨[dO (decide (a=b))],true,[]⟩
 law:=lC (lL .eArg) (l1 (lL .eArg))
def Zi299_4(a:(List DArg))(b:(List DArg)):Int×Unit→Prop:=eqI a b
def Zm299_4(a:(List DArg))(b:(List DArg)):Int×Unit→Nat:=rM1 a
def Za299:Zk299.α→Nat→Option (Ann UU):=fun(a,b)=>annL [(4,annOf [.slot 5 (5,1024) (.lit (.int .i64))] (fun _=>Zi299_4 a b) (Zm299_4 a b))]
def Zu299:=us [Zh300]
theorem Zo299:Holds EE (299,Zk299):=by
 refine holds_of EE_ok func299 Zk299 (by kernel_rfl) Zu299 (us_ok _) Za299 (fun x hp hb=> ?_)
 obtain⟨a,b⟩:=x
 have hl_a:a.length≤9223372036854775807:=bdL (hb _ m0)
 have hl_b:b.length≤9223372036854775807:=bdL (hb _ m1)
 clear hp hb
 apply @ve _ (eqV zArg a b) (by kernel_rfl)
 exact eqV_ok hl_a
def Zh299:HH:=⟨_,Zo299⟩
def Zk219:Con UU where
 α:=(List DArg)×Int
 md:=[.wr,.ro]
 of:=oC (oL .eArg) (o1 oI)
 ds:=fun x=>[dL .eArg x.1,dI x.2]
 pre:=fun(a,k)=>[0≤k,k+cntArgS a≤4611686018427387904]
 res:=fun(a,k)=>⟨[dI (k+cntArgS a)],true,[dL .eArg (markArgS a k)]⟩
 law:=lC (lL .eArg) (l1 lI)
def Zi219_2(a:(List DArg))(k:Int):List DArg×Int×Int×Unit→Prop:=fun(row,kk,i,_)=>0≤i∧i≤a.length∧row=(mkS markArg cntArg a k).take i.toNat++a.drop i.toNat∧kk=k+ctS cntArg (a.take i.toNat)
def Zm219_2(a:(List DArg))(k:Int):List DArg×Int×Int×Unit→Nat:=fun(row,kk,i,_)=>a.length-i.toNat
def Za219:Zk219.α→Nat→Option (Ann UU):=fun(a,k)=>annL [(2,annOf [.slot 0 (2000000,0) (.own .eArg true),.slot 1 (1,1024) (.lit (.int .i64)),.slot 5 (5,1024) (.lit (.int .i64))] (fun _=>Zi219_2 a k) (Zm219_2 a k))]
def Zu219:=us [Zh146]
theorem Zo219:Holds EE (219,Zk219):=by
 refine holds_of EE_ok func219 Zk219 (by kernel_rfl) Zu219 (us_ok _) Za219 (fun x hp hb=> ?_)
 obtain⟨a,k⟩:=x
 have hl_a:a.length≤9223372036854775807:=bdL (hb _ m0)
 have hl_k:=bdI (n:=k) (hb _ m1)
 have hp0:0≤k:=hp _ m0
 have hp1:k+cntArgS a≤4611686018427387904:=hp _ m1
 clear hp hb
 apply @ve _ (Zi219_2 a k (a,k,(0:Int),())∧∀(y:List DArg×Int×Int×PUnit),let x0:Nat:=y.2.2.1.toNat;let x5:Int:=IntKind.wrap IntKind.i64 (y.2.1+(1:Int));let x6:List DArg:=List.modify y.1 x0 fun(x:DArg)=>{K:=y.2.1,S:=x.S,V:=x.V:DArg};let x7:Int:=IntKind.wrap IntKind.i64 (IntKind.wrap IntKind.i64 (x5+(1:Int))+(1:Int));let x3:Int:=IntKind.wrap IntKind.i64 (x7+(1:Int));let x4:List DArg:=List.modify x6 x0 fun(x:DArg)=>{K:=x.K,S:=markText x5,V:=x.V:DArg};let x2:List DArg:=List.modify x4 x0 fun(x:DArg)=>{K:=x.K,S:=x.S,V:={K:=IntKind.wrap IntKind.i64 (x5+(1:Int)),N:=x.V.N,S:=x.V.S:DVal}:DArg};let x1:List DArg:=List.modify x2 x0 fun(x:DArg)=>{K:=x.K,S:=x.S,V:={K:=x.V.K,N:=x7,S:=x.V.S:DVal}:DArg};Zi219_2 a k y→bif decide (y.2.2.1<(y.1.length:Int)) then(0:Int)≤y.2.2.1∧x0<y.1.length∧x0<y.1.length∧x5≤(4611686018427387903:Int)∧(0:Int)≤y.2.2.1∧x0<x6.length∧x0<x6.length∧(0:Int)≤y.2.2.1∧x0<x4.length∧x0<x4.length∧(0:Int)≤y.2.2.1∧x0<x2.length∧x0<x2.length∧x3≤(4611686018427387903:Int)∧(0:Int)≤y.2.2.1∧x0<x1.length∧x0<x1.length∧Zi219_2 a k (List.modify x1 x0 fun(x:DArg)=>{K:=x.K,S:=x.S,V:={K:=x.V.K,N:=x.V.N,S:=markText x3:DVal}:DArg},IntKind.wrap IntKind.i64 (x3+(1:Int)),IntKind.wrap IntKind.i64 (y.2.2.1+(1:Int)),())∧Zm219_2 a k (List.modify x1 x0 fun(x:DArg)=>{K:=x.K,S:=x.S,V:={K:=x.V.K,N:=x.V.N,S:=markText x3:DVal}:DArg},IntKind.wrap IntKind.i64 (x3+(1:Int)),IntKind.wrap IntKind.i64 (y.2.2.1+(1:Int)),())<Zm219_2 a k y else asD [VI y.2.1]=asD [VI (k+(↑(cntArgS a):Int))]∧asD [VL .eArg y.1]=asD [VL .eArg (markArgS a k)]) (by kernel_rfl)
 dsimp only
 refine⟨⟨by omega,by omega,by simp,by simp[ctS]⟩,?_⟩
 rintro⟨row,kk,i,⟨⟩⟩ ⟨h1,h2,rfl,rfl⟩
 simp only
 have hl:=mk_rl markArg cntArg a k h1 h2
 refine if_cond (fun hc=> ?_) (fun hc=> ?_)
 ·have hc:i<a.length:=by have hc:=of_decide_eq_true hc;omega
  have hct:=ctS_take cntArg a zArg h1 hc
  have hle:=ctS_take_le cntArg a (i+1).toNat
  have hg:=mk_getD _ a zArg (mk_tl markArg cntArg a k h1 h2) h1 hc
  have hM:=fun F hF=>mkS_mod markArg cntArg a zArg k (i:=i) F h1 hc hF
  have hq:(cntArgS a:Int)=ctS cntArg a:=rfl
  generalize List.getD a i.toNat zArg=x at*
  generalize hkk:k+(ctS cntArg (a.take i.toNat):Int)=kk at*
  generalize List.take i.toNat (mkS markArg cntArg a k)++List.drop i.toNat a=R at*
  simp only[cntArg] at hct
  simp(disch:=first|omega|(simp only[zbf];omega)) only[zbf,wrap_i64,getD_modify,modify_modify,hg,hl]
  repeat' (first|refine And.intro (by omega) ?_|fail)
  exact⟨⟨by omega,by omega,hM _ (by first|rfl|(simp only[markArg,markBool];rw[zbp (by omega)];rfl)),by omega⟩,by simp only[Zm219_2];omega⟩
 ·have hc:a.length≤i:=by have hc:=of_decide_eq_false hc;omega
  rw[mk_done markArg cntArg a k hc,ct_done cntArg a hc]
  exact⟨rfl,rfl⟩
def Zh219:HH:=⟨_,Zo219⟩
def Zk248:Con UU where
 α:=DPat×Int
 md:=[.ro,.ro]
 of:=oC (oA .lPat) (o1 oI)
 ds:=fun x=>[dA .lPat x.1,dI x.2]
 pre:=fun(a,left)=>[0≤left]
 res:=fun(a,left)=>⟨[dI (szr left (sizePat a))],true,[]⟩
 law:=lC (lA .lPat) (l1 lI)
def Za248:Zk248.α→Nat→Option (Ann UU):=fun(a,left)=>annL []
def Zu248:=us [Zh286]
theorem Zo248:Holds EE (248,Zk248):=by
 refine holds_of EE_ok func248 Zk248 (by kernel_rfl) Zu248 (us_ok _) Za248 (fun x hp hb=> ?_)
 obtain⟨a,left⟩:=x
 have hz0:=bd_lPat (x:=a) (hb _ m0)
 have hl_a_Kind:=hz0.1
 have hl_a_Args:=hz0.2
 have hl_left:=bdI (n:=left) (hb _ m1)
 have hp0:0≤left:=hp _ m0
 clear hp hb
 apply @ve _ (let x0:Int:=IntKind.wrap IntKind.i64 (left-(↑(ByteArray.size a.Kind):Int));bif decide (x0<(0:Int)) then Li (-1:Int) (szr left (sizePat a)) else(0:Int)≤x0∧bif decide (szr x0 (sizeArgS a.Args)<(0:Int)) then Li (-1:Int) (szr left (sizePat a)) else Li (szr x0 (sizeArgS a.Args)) (szr left (sizePat a))) (by kernel_rfl)
 dsimp only
 rw[wrap_i64 (by omega) (by omega)]
 refine if_cond (fun h=>Lf_i (szr_bad' ?_)) (fun h=> ?_)
 ·have h:=of_decide_eq_true h;simp only[sizePat];omega
 have h0:=of_decide_eq_false h
 refine⟨by omega,if_cond (fun h=>Lf_i (szr_bad' ?_)) (fun h=> ?_)⟩
 ·have h:=szr_neg h;simp only[sizePat];omega
 obtain⟨e1,h1⟩:=szr_pos h
 rw[e1]
 exact Lf_i (by rw[←szr_ok' (by simp only[sizePat];omega)];simp only[sizePat];try omega)
def Zh248:HH:=⟨_,Zo248⟩
def Zk258:Con UU where
 α:=DPat
 md:=[.ro]
 of:=o1 (oA .lPat)
 ds:=fun x=>[dA .lPat x]
 pre:=fun a=>[sizePat a≤4294967296]
 res:=fun a=>⟨[dA .ePat a],true,[]⟩
 law:=l1 (lA .lPat)
def Za258:Zk258.α→Nat→Option (Ann UU):=fun a=>annL []
def Zu258:=us [Zh291]
theorem Zo258:Holds EE (258,Zk258):=by
 refine holds_of EE_ok func258 Zk258 (by kernel_rfl) Zu258 (us_ok _) Za258 (fun(a:DPat) hp hb=> ?_)
 have hz0:=bd_lPat (x:=a) (hb _ m0)
 have hl_a_Kind:=hz0.1
 have hl_a_Args:=hz0.2
 have hp0:sizePat a≤4294967296:=hp _ m0
 clear hp hb
 apply @ve _ (sizeArgS a.Args≤(4294967296:Nat)∧Lf [DV.agg [CS a.Kind,CL .eArg a.Args,CO a.Not]] [DV.agg [CS a.Kind,CL .eArg a.Args,CO a.Not]]) (by kernel_rfl)
 simp only[sizePat] at hp0
 repeat' (first|exact Lf_rfl _|(refine And.intro (by omega) ?_))
def Zh258:HH:=⟨_,Zo258⟩
def Zk270:Con UU where
 α:=DPat×DPat
 md:=[.ro,.ro]
 of:=oC (oA .ePat) (o1 (oA .ePat))
 ds:=fun x=>[dA .ePat x.1,dA .ePat x.2]
 pre:=fun _=>[]
 res:=fun(a,b)=>⟨[dO (decide (a=b))],true,[]⟩
 law:=lC (lA .ePat) (l1 (lA .ePat))
def Za270:Zk270.α→Nat→Option (Ann UU):=fun(a,b)=>annL []
def Zu270:=us [Zh299]
theorem Zo270:Holds EE (270,Zk270):=by
 refine holds_of EE_ok func270 Zk270 (by kernel_rfl) Zu270 (us_ok _) Za270 (fun x hp hb=> ?_)
 obtain⟨a,b⟩:=x
 have hz0:=bd_ePat (x:=a) (hb _ m0)
 have hl_a_Kind:=hz0.1
 have hl_a_Args:=hz0.2
 have hz1:=bd_ePat (x:=b) (hb _ m1)
 have hl_b_Kind:=hz1.1
 have hl_b_Args:=hz1.2
 clear hp hb
 apply @ve _ (bif !ByteArray.toList a.Kind==ByteArray.toList b.Kind then Lb false (decide (a=b)) else bif !decide (a.Args=b.Args) then Lb false (decide (a=b)) else bif !a.Not==b.Not then Lb false (decide (a=b)) else Lb true (decide (a=b))) (by kernel_rfl)
 obtain⟨aKind,aArgs,aNot⟩:=a
 obtain⟨bKind,bArgs,bNot⟩:=b
 repeat' (apply if_cond<;>intro _)
 all_goals (first|apply Lf_t|apply Lf_f)<;>simp_all
def Zh270:HH:=⟨_,Zo270⟩
def Zk177:Con UU where
 α:=(List DPat)×Int
 md:=[.ro,.ro]
 of:=oC (oL .lPat) (o1 oI)
 ds:=fun x=>[dL .lPat x.1,dI x.2]
 pre:=fun(a,left)=>[0≤left]
 res:=fun(a,left)=>⟨[dI (szr left (sizePatS a))],true,[]⟩
 law:=lC (lL .lPat) (l1 lI)
def Zi177_5(a:(List DPat))(left:Int):Int×Int×Unit→Prop:=szI sizePat a (sizePatS a) left
def Zm177_5(a:(List DPat))(left:Int):Int×Int×Unit→Nat:=rM2 a
def Za177:Zk177.α→Nat→Option (Ann UU):=fun(a,left)=>annL [(5,annOf [.slot 1 (1,1024) (.lit (.int .i64)),.slot 5 (5,1024) (.lit (.int .i64))] (fun _=>Zi177_5 a left) (Zm177_5 a left))]
def Zu177:=us [Zh248]
theorem Zo177:Holds EE (177,Zk177):=by
 refine holds_of EE_ok func177 Zk177 (by kernel_rfl) Zu177 (us_ok _) Za177 (fun x hp hb=> ?_)
 obtain⟨a,left⟩:=x
 have hl_a:a.length≤9223372036854775807:=bdL (hb _ m0)
 have hl_left:=bdI (n:=left) (hb _ m1)
 have hp0:0≤left:=hp _ m0
 clear hp hb
 apply @ve _ (szV sizePat zPat a (sizePatS a) left) (by kernel_rfl)
 exact szV_ok rfl hp0 hl_left hl_a
def Zh177:HH:=⟨_,Zo177⟩
def Zk192:Con UU where
 α:=(List DPat)
 md:=[.ro]
 of:=o1 (oL .lPat)
 ds:=fun x=>[dL .lPat x]
 pre:=fun a=>[sizePatS a≤4294967296]
 res:=fun a=>⟨[dL .ePat a],true,[]⟩
 law:=l1 (lL .lPat)
def Zi192_3(a:(List DPat)):List DPat×Int×Unit→Prop:=toI zPat a
def Zm192_3(a:(List DPat)):List DPat×Int×Unit→Nat:=rM2 a
def Za192:Zk192.α→Nat→Option (Ann UU):=fun a=>annL [(3,annOf [.slot 3 (3,1024) (.own .ePat true),.slot 4 (4,1024) (.lit (.int .i64))] (fun _=>Zi192_3 a) (Zm192_3 a))]
def Zu192:=us [Zh258]
theorem Zo192:Holds EE (192,Zk192):=by
 refine holds_of EE_ok func192 Zk192 (by kernel_rfl) Zu192 (us_ok _) Za192 (fun(a:(List DPat)) hp hb=> ?_)
 have hl_a:a.length≤9223372036854775807:=bdL (hb _ m0)
 have hp0:sizePatS a≤4294967296:=hp _ m0
 clear hp hb
 apply @ve _ (toV sizePat zPat a fun y=>Lf [.one (.sl .ePat y)] [.one (.sl .ePat a)]) (by kernel_rfl)
 exact toV_ok hp0 (Lf_rfl _)
def Zh192:HH:=⟨_,Zo192⟩
def Zk214:Con UU where
 α:=(List DPat)×(List DPat)
 md:=[.ro,.ro]
 of:=oC (oL .ePat) (o1 (oL .ePat))
 ds:=fun x=>[dL .ePat x.1,dL .ePat x.2]
 pre:=fun _=>[]
 res:=fun(a,b)=>⟨[dO (decide (a=b))],true,[]⟩
 law:=lC (lL .ePat) (l1 (lL .ePat))
def Zi214_4(a:(List DPat))(b:(List DPat)):Int×Unit→Prop:=eqI a b
def Zm214_4(a:(List DPat))(b:(List DPat)):Int×Unit→Nat:=rM1 a
def Za214:Zk214.α→Nat→Option (Ann UU):=fun(a,b)=>annL [(4,annOf [.slot 5 (5,1024) (.lit (.int .i64))] (fun _=>Zi214_4 a b) (Zm214_4 a b))]
def Zu214:=us [Zh270]
theorem Zo214:Holds EE (214,Zk214):=by
 refine holds_of EE_ok func214 Zk214 (by kernel_rfl) Zu214 (us_ok _) Za214 (fun x hp hb=> ?_)
 obtain⟨a,b⟩:=x
 have hl_a:a.length≤9223372036854775807:=bdL (hb _ m0)
 have hl_b:b.length≤9223372036854775807:=bdL (hb _ m1)
 clear hp hb
 apply @ve _ (eqV zPat a b) (by kernel_rfl)
 exact eqV_ok hl_a
def Zh214:HH:=⟨_,Zo214⟩
def Zk147:Con UU where
 α:=(List DPat)×Int
 md:=[.wr,.ro]
 of:=oC (oL .ePat) (o1 oI)
 ds:=fun x=>[dL .ePat x.1,dI x.2]
 pre:=fun(a,k)=>[0≤k,k+cntPatS a≤4611686018427387904]
 res:=fun(a,k)=>⟨[dI (k+cntPatS a)],true,[dL .ePat (markPatS a k)]⟩
 law:=lC (lL .ePat) (l1 lI)
def Zi147_2(a:(List DPat))(k:Int):List DPat×Int×Int×Unit→Prop:=fun(row,kk,i,_)=>0≤i∧i≤a.length∧row=(mkS markPat cntPat a k).take i.toNat++a.drop i.toNat∧kk=k+ctS cntPat (a.take i.toNat)
def Zm147_2(a:(List DPat))(k:Int):List DPat×Int×Int×Unit→Nat:=fun(row,kk,i,_)=>a.length-i.toNat
def Za147:Zk147.α→Nat→Option (Ann UU):=fun(a,k)=>annL [(2,annOf [.slot 0 (2000000,0) (.own .ePat true),.slot 1 (1,1024) (.lit (.int .i64)),.slot 5 (5,1024) (.lit (.int .i64))] (fun _=>Zi147_2 a k) (Zm147_2 a k))]
def Zu147:=us [Zh146,Zh219]
theorem Zo147:Holds EE (147,Zk147):=by
 refine holds_of EE_ok func147 Zk147 (by kernel_rfl) Zu147 (us_ok _) Za147 (fun x hp hb=> ?_)
 obtain⟨a,k⟩:=x
 have hl_a:a.length≤9223372036854775807:=bdL (hb _ m0)
 have hl_k:=bdI (n:=k) (hb _ m1)
 have hp0:0≤k:=hp _ m0
 have hp1:k+cntPatS a≤4611686018427387904:=hp _ m1
 clear hp hb
 apply @ve _ (Zi147_2 a k (a,k,(0:Int),())∧∀(y:List DPat×Int×Int×PUnit),let x2:Nat:=y.2.2.1.toNat;let x3:List DPat:=List.modify y.1 x2 fun(x:DPat)=>{Kind:=markText y.2.1,Args:=x.Args,Not:=x.Not:DPat};let x4:Int:=IntKind.wrap IntKind.i64 (y.2.1+(1:Int));let x0:Int:=x4+(↑(cntArgS (List.getD x3 x2 zPat).Args):Int);let x1:List DPat:=List.modify x3 x2 fun(x:DPat)=>{Kind:=x.Kind,Args:=markArgS (List.getD x3 x2 zPat).Args x4,Not:=x.Not:DPat};Zi147_2 a k y→bif decide (y.2.2.1<(y.1.length:Int)) then y.2.1≤(4611686018427387903:Int)∧(0:Int)≤y.2.2.1∧x2<y.1.length∧x2<y.1.length∧(0:Int)≤y.2.2.1∧x2<x3.length∧x2<x3.length∧x2<x3.length∧(0:Int)≤x4∧x0≤(4611686018427387904:Int)∧(3:Int)≠(0:Int)∧(0:Int)≤y.2.2.1∧x2<x1.length∧x2<x1.length∧Zi147_2 a k (List.modify x1 x2 fun(x:DPat)=>{Kind:=x.Kind,Args:=x.Args,Not:=Int.tmod x0 (3:Int)==(0:Int):DPat},IntKind.wrap IntKind.i64 (x0+(1:Int)),IntKind.wrap IntKind.i64 (y.2.2.1+(1:Int)),())∧Zm147_2 a k (List.modify x1 x2 fun(x:DPat)=>{Kind:=x.Kind,Args:=x.Args,Not:=Int.tmod x0 (3:Int)==(0:Int):DPat},IntKind.wrap IntKind.i64 (x0+(1:Int)),IntKind.wrap IntKind.i64 (y.2.2.1+(1:Int)),())<Zm147_2 a k y else asD [VI y.2.1]=asD [VI (k+(↑(cntPatS a):Int))]∧asD [VL .ePat y.1]=asD [VL .ePat (markPatS a k)]) (by kernel_rfl)
 dsimp only
 refine⟨⟨by omega,by omega,by simp,by simp[ctS]⟩,?_⟩
 rintro⟨row,kk,i,⟨⟩⟩ ⟨h1,h2,rfl,rfl⟩
 simp only
 have hl:=mk_rl markPat cntPat a k h1 h2
 refine if_cond (fun hc=> ?_) (fun hc=> ?_)
 ·have hc:i<a.length:=by have hc:=of_decide_eq_true hc;omega
  have hct:=ctS_take cntPat a zPat h1 hc
  have hle:=ctS_take_le cntPat a (i+1).toNat
  have hg:=mk_getD _ a zPat (mk_tl markPat cntPat a k h1 h2) h1 hc
  have hM:=fun F hF=>mkS_mod markPat cntPat a zPat k (i:=i) F h1 hc hF
  have hq:(cntPatS a:Int)=ctS cntPat a:=rfl
  generalize List.getD a i.toNat zPat=x at*
  generalize hkk:k+(ctS cntPat (a.take i.toNat):Int)=kk at*
  generalize List.take i.toNat (mkS markPat cntPat a k)++List.drop i.toNat a=R at*
  simp only[cntPat] at hct
  simp(disch:=first|omega|(simp only[zbf];omega)) only[zbf,wrap_i64,getD_modify,modify_modify,hg,hl]
  repeat' (first|refine And.intro (by omega) ?_|fail)
  exact⟨⟨by omega,by omega,hM _ (by first|rfl|(simp only[markPat,markBool];rw[zbp (by omega)];rfl)),by omega⟩,by simp only[Zm147_2];omega⟩
 ·have hc:a.length≤i:=by have hc:=of_decide_eq_false hc;omega
  rw[mk_done markPat cntPat a k hc,ct_done cntPat a hc]
  exact⟨rfl,rfl⟩
def Zh147:HH:=⟨_,Zo147⟩
def Zk251:Con UU where
 α:=DBind×Int
 md:=[.ro,.ro]
 of:=oC (oA .lBind) (o1 oI)
 ds:=fun x=>[dA .lBind x.1,dI x.2]
 pre:=fun(a,left)=>[0≤left]
 res:=fun(a,left)=>⟨[dI (szr left (sizeBind a))],true,[]⟩
 law:=lC (lA .lBind) (l1 lI)
def Za251:Zk251.α→Nat→Option (Ann UU):=fun(a,left)=>annL []
def Zu251:=us [Zh184]
theorem Zo251:Holds EE (251,Zk251):=by
 refine holds_of EE_ok func251 Zk251 (by kernel_rfl) Zu251 (us_ok _) Za251 (fun x hp hb=> ?_)
 obtain⟨a,left⟩:=x
 have hz0:=bd_lBind (x:=a) (hb _ m0)
 have hl_a_Name:=hz0.1
 have hl_a_V_S:=hz0.2
 have hl_left:=bdI (n:=left) (hb _ m1)
 have hp0:0≤left:=hp _ m0
 clear hp hb
 apply @ve _ (let x0:Int:=IntKind.wrap IntKind.i64 (left-(↑(ByteArray.size a.Name):Int));bif decide (x0<(0:Int)) then Li (-1:Int) (szr left (sizeBind a)) else(0:Int)≤x0∧bif decide (szr x0 (sizeVal a.V)<(0:Int)) then Li (-1:Int) (szr left (sizeBind a)) else Li (szr x0 (sizeVal a.V)) (szr left (sizeBind a))) (by kernel_rfl)
 dsimp only
 rw[wrap_i64 (by omega) (by omega)]
 refine if_cond (fun h=>Lf_i (szr_bad' ?_)) (fun h=> ?_)
 ·have h:=of_decide_eq_true h;simp only[sizeBind];omega
 have h0:=of_decide_eq_false h
 refine⟨by omega,if_cond (fun h=>Lf_i (szr_bad' ?_)) (fun h=> ?_)⟩
 ·have h:=szr_neg h;simp only[sizeBind];omega
 obtain⟨e1,h1⟩:=szr_pos h
 rw[e1]
 exact Lf_i (by rw[←szr_ok' (by simp only[sizeBind];omega)];simp only[sizeBind];try omega)
def Zh251:HH:=⟨_,Zo251⟩
def Zk261:Con UU where
 α:=DBind
 md:=[.ro]
 of:=o1 (oA .lBind)
 ds:=fun x=>[dA .lBind x]
 pre:=fun a=>[sizeBind a≤4294967296]
 res:=fun a=>⟨[dA .eBind a],true,[]⟩
 law:=l1 (lA .lBind)
def Za261:Zk261.α→Nat→Option (Ann UU):=fun a=>annL []
def Zu261:=us [Zh199]
theorem Zo261:Holds EE (261,Zk261):=by
 refine holds_of EE_ok func261 Zk261 (by kernel_rfl) Zu261 (us_ok _) Za261 (fun(a:DBind) hp hb=> ?_)
 have hz0:=bd_lBind (x:=a) (hb _ m0)
 have hl_a_Name:=hz0.1
 have hl_a_V_S:=hz0.2
 have hp0:sizeBind a≤4294967296:=hp _ m0
 clear hp hb
 apply @ve _ (sizeVal a.V≤(4294967296:Nat)∧Lf [DV.agg [CS a.Name,CI a.V.K,CI a.V.N,CS a.V.S]] [DV.agg [CS a.Name,CI a.V.K,CI a.V.N,CS a.V.S]]) (by kernel_rfl)
 simp only[sizeBind] at hp0
 repeat' (first|exact Lf_rfl _|(refine And.intro (by omega) ?_))
def Zh261:HH:=⟨_,Zo261⟩
def Zk140:Con UU where
 α:=DBind×DBind
 md:=[.ro,.ro]
 of:=oC (oA .eBind) (o1 (oA .eBind))
 ds:=fun x=>[dA .eBind x.1,dA .eBind x.2]
 pre:=fun _=>[]
 res:=fun(a,b)=>⟨[dO (decide (a=b))],true,[]⟩
 law:=lC (lA .eBind) (l1 (lA .eBind))
def Za140:Zk140.α→Nat→Option (Ann UU):=fun(a,b)=>annL []
def Zu140:=us [Zh213]
theorem Zo140:Holds EE (140,Zk140):=by
 refine holds_of EE_ok func140 Zk140 (by kernel_rfl) Zu140 (us_ok _) Za140 (fun x hp hb=> ?_)
 obtain⟨a,b⟩:=x
 have hz0:=bd_eBind (x:=a) (hb _ m0)
 have hl_a_Name:=hz0.1
 have hl_a_V_S:=hz0.2
 have hz1:=bd_eBind (x:=b) (hb _ m1)
 have hl_b_Name:=hz1.1
 have hl_b_V_S:=hz1.2
 clear hp hb
 apply @ve _ (bif !ByteArray.toList a.Name==ByteArray.toList b.Name then Lb false (decide (a=b)) else bif !decide (a.V=b.V) then Lb false (decide (a=b)) else Lb true (decide (a=b))) (by kernel_rfl)
 obtain⟨aName,aV⟩:=a
 obtain⟨bName,bV⟩:=b
 repeat' (apply if_cond<;>intro _)
 all_goals (first|apply Lf_t|apply Lf_f)<;>simp_all
def Zh140:HH:=⟨_,Zo140⟩
def Zk182:Con UU where
 α:=(List DBind)×Int
 md:=[.ro,.ro]
 of:=oC (oL .lBind) (o1 oI)
 ds:=fun x=>[dL .lBind x.1,dI x.2]
 pre:=fun(a,left)=>[0≤left]
 res:=fun(a,left)=>⟨[dI (szr left (sizeBindS a))],true,[]⟩
 law:=lC (lL .lBind) (l1 lI)
def Zi182_5(a:(List DBind))(left:Int):Int×Int×Unit→Prop:=szI sizeBind a (sizeBindS a) left
def Zm182_5(a:(List DBind))(left:Int):Int×Int×Unit→Nat:=rM2 a
def Za182:Zk182.α→Nat→Option (Ann UU):=fun(a,left)=>annL [(5,annOf [.slot 1 (1,1024) (.lit (.int .i64)),.slot 5 (5,1024) (.lit (.int .i64))] (fun _=>Zi182_5 a left) (Zm182_5 a left))]
def Zu182:=us [Zh251]
theorem Zo182:Holds EE (182,Zk182):=by
 refine holds_of EE_ok func182 Zk182 (by kernel_rfl) Zu182 (us_ok _) Za182 (fun x hp hb=> ?_)
 obtain⟨a,left⟩:=x
 have hl_a:a.length≤9223372036854775807:=bdL (hb _ m0)
 have hl_left:=bdI (n:=left) (hb _ m1)
 have hp0:0≤left:=hp _ m0
 clear hp hb
 apply @ve _ (szV sizeBind zBind a (sizeBindS a) left) (by kernel_rfl)
 exact szV_ok rfl hp0 hl_left hl_a
def Zh182:HH:=⟨_,Zo182⟩
def Zk197:Con UU where
 α:=(List DBind)
 md:=[.ro]
 of:=o1 (oL .lBind)
 ds:=fun x=>[dL .lBind x]
 pre:=fun a=>[sizeBindS a≤4294967296]
 res:=fun a=>⟨[dL .eBind a],true,[]⟩
 law:=l1 (lL .lBind)
def Zi197_3(a:(List DBind)):List DBind×Int×Unit→Prop:=toI zBind a
def Zm197_3(a:(List DBind)):List DBind×Int×Unit→Nat:=rM2 a
def Za197:Zk197.α→Nat→Option (Ann UU):=fun a=>annL [(3,annOf [.slot 3 (3,1024) (.own .eBind true),.slot 4 (4,1024) (.lit (.int .i64))] (fun _=>Zi197_3 a) (Zm197_3 a))]
def Zu197:=us [Zh261]
theorem Zo197:Holds EE (197,Zk197):=by
 refine holds_of EE_ok func197 Zk197 (by kernel_rfl) Zu197 (us_ok _) Za197 (fun(a:(List DBind)) hp hb=> ?_)
 have hl_a:a.length≤9223372036854775807:=bdL (hb _ m0)
 have hp0:sizeBindS a≤4294967296:=hp _ m0
 clear hp hb
 apply @ve _ (toV sizeBind zBind a fun y=>Lf [.one (.sl .eBind y)] [.one (.sl .eBind a)]) (by kernel_rfl)
 exact toV_ok hp0 (Lf_rfl _)
def Zh197:HH:=⟨_,Zo197⟩
def Zk61:Con UU where
 α:=(List DBind)×(List DBind)
 md:=[.ro,.ro]
 of:=oC (oL .eBind) (o1 (oL .eBind))
 ds:=fun x=>[dL .eBind x.1,dL .eBind x.2]
 pre:=fun _=>[]
 res:=fun(a,b)=>⟨[dO (decide (a=b))],true,[]⟩
 law:=lC (lL .eBind) (l1 (lL .eBind))
def Zi61_4(a:(List DBind))(b:(List DBind)):Int×Unit→Prop:=eqI a b
def Zm61_4(a:(List DBind))(b:(List DBind)):Int×Unit→Nat:=rM1 a
def Za61:Zk61.α→Nat→Option (Ann UU):=fun(a,b)=>annL [(4,annOf [.slot 5 (5,1024) (.lit (.int .i64))] (fun _=>Zi61_4 a b) (Zm61_4 a b))]
def Zu61:=us [Zh140]
theorem Zo61:Holds EE (61,Zk61):=by
 refine holds_of EE_ok func61 Zk61 (by kernel_rfl) Zu61 (us_ok _) Za61 (fun x hp hb=> ?_)
 obtain⟨a,b⟩:=x
 have hl_a:a.length≤9223372036854775807:=bdL (hb _ m0)
 have hl_b:b.length≤9223372036854775807:=bdL (hb _ m1)
 clear hp hb
 apply @ve _ (eqV zBind a b) (by kernel_rfl)
 exact eqV_ok hl_a
def Zh61:HH:=⟨_,Zo61⟩
def Zk75:Con UU where
 α:=(List DBind)×Int
 md:=[.wr,.ro]
 of:=oC (oL .eBind) (o1 oI)
 ds:=fun x=>[dL .eBind x.1,dI x.2]
 pre:=fun(a,k)=>[0≤k,k+cntBindS a≤4611686018427387904]
 res:=fun(a,k)=>⟨[dI (k+cntBindS a)],true,[dL .eBind (markBindS a k)]⟩
 law:=lC (lL .eBind) (l1 lI)
def Zi75_2(a:(List DBind))(k:Int):List DBind×Int×Int×Unit→Prop:=fun(row,kk,i,_)=>0≤i∧i≤a.length∧row=(mkS markBind cntBind a k).take i.toNat++a.drop i.toNat∧kk=k+ctS cntBind (a.take i.toNat)
def Zm75_2(a:(List DBind))(k:Int):List DBind×Int×Int×Unit→Nat:=fun(row,kk,i,_)=>a.length-i.toNat
def Za75:Zk75.α→Nat→Option (Ann UU):=fun(a,k)=>annL [(2,annOf [.slot 0 (2000000,0) (.own .eBind true),.slot 1 (1,1024) (.lit (.int .i64)),.slot 5 (5,1024) (.lit (.int .i64))] (fun _=>Zi75_2 a k) (Zm75_2 a k))]
def Zu75:=us [Zh146]
theorem Zo75:Holds EE (75,Zk75):=by
 refine holds_of EE_ok func75 Zk75 (by kernel_rfl) Zu75 (us_ok _) Za75 (fun x hp hb=> ?_)
 obtain⟨a,k⟩:=x
 have hl_a:a.length≤9223372036854775807:=bdL (hb _ m0)
 have hl_k:=bdI (n:=k) (hb _ m1)
 have hp0:0≤k:=hp _ m0
 have hp1:k+cntBindS a≤4611686018427387904:=hp _ m1
 clear hp hb
 apply @ve _ (Zi75_2 a k (a,k,(0:Int),())∧∀(y:List DBind×Int×Int×PUnit),let x0:Nat:=y.2.2.1.toNat;let x5:Int:=IntKind.wrap IntKind.i64 (y.2.1+(1:Int));let x6:List DBind:=List.modify y.1 x0 fun(x:DBind)=>{Name:=markText y.2.1,V:=x.V:DBind};let x3:List DBind:=List.modify x6 x0 fun(x:DBind)=>{Name:=x.Name,V:={K:=x5,N:=x.V.N,S:=x.V.S:DVal}:DBind};let x4:Int:=IntKind.wrap IntKind.i64 (x5+(1:Int));let x1:List DBind:=List.modify x3 x0 fun(x:DBind)=>{Name:=x.Name,V:={K:=x.V.K,N:=x4,S:=x.V.S:DVal}:DBind};let x2:Int:=IntKind.wrap IntKind.i64 (x4+(1:Int));Zi75_2 a k y→bif decide (y.2.2.1<(y.1.length:Int)) then y.2.1≤(4611686018427387903:Int)∧(0:Int)≤y.2.2.1∧x0<y.1.length∧x0<y.1.length∧(0:Int)≤y.2.2.1∧x0<x6.length∧x0<x6.length∧(0:Int)≤y.2.2.1∧x0<x3.length∧x0<x3.length∧x2≤(4611686018427387903:Int)∧(0:Int)≤y.2.2.1∧x0<x1.length∧x0<x1.length∧Zi75_2 a k (List.modify x1 x0 fun(x:DBind)=>{Name:=x.Name,V:={K:=x.V.K,N:=x.V.N,S:=markText x2:DVal}:DBind},IntKind.wrap IntKind.i64 (x2+(1:Int)),IntKind.wrap IntKind.i64 (y.2.2.1+(1:Int)),())∧Zm75_2 a k (List.modify x1 x0 fun(x:DBind)=>{Name:=x.Name,V:={K:=x.V.K,N:=x.V.N,S:=markText x2:DVal}:DBind},IntKind.wrap IntKind.i64 (x2+(1:Int)),IntKind.wrap IntKind.i64 (y.2.2.1+(1:Int)),())<Zm75_2 a k y else asD [VI y.2.1]=asD [VI (k+(↑(cntBindS a):Int))]∧asD [VL .eBind y.1]=asD [VL .eBind (markBindS a k)]) (by kernel_rfl)
 dsimp only
 refine⟨⟨by omega,by omega,by simp,by simp[ctS]⟩,?_⟩
 rintro⟨row,kk,i,⟨⟩⟩ ⟨h1,h2,rfl,rfl⟩
 simp only
 have hl:=mk_rl markBind cntBind a k h1 h2
 refine if_cond (fun hc=> ?_) (fun hc=> ?_)
 ·have hc:i<a.length:=by have hc:=of_decide_eq_true hc;omega
  have hct:=ctS_take cntBind a zBind h1 hc
  have hle:=ctS_take_le cntBind a (i+1).toNat
  have hg:=mk_getD _ a zBind (mk_tl markBind cntBind a k h1 h2) h1 hc
  have hM:=fun F hF=>mkS_mod markBind cntBind a zBind k (i:=i) F h1 hc hF
  have hq:(cntBindS a:Int)=ctS cntBind a:=rfl
  generalize List.getD a i.toNat zBind=x at*
  generalize hkk:k+(ctS cntBind (a.take i.toNat):Int)=kk at*
  generalize List.take i.toNat (mkS markBind cntBind a k)++List.drop i.toNat a=R at*
  simp only[cntBind] at hct
  simp(disch:=first|omega|(simp only[zbf];omega)) only[zbf,wrap_i64,getD_modify,modify_modify,hg,hl]
  repeat' (first|refine And.intro (by omega) ?_|fail)
  exact⟨⟨by omega,by omega,hM _ (by first|rfl|(simp only[markBind,markBool];rw[zbp (by omega)];rfl)),by omega⟩,by simp only[Zm75_2];omega⟩
 ·have hc:a.length≤i:=by have hc:=of_decide_eq_false hc;omega
  rw[mk_done markBind cntBind a k hc,ct_done cntBind a hc]
  exact⟨rfl,rfl⟩
def Zh75:HH:=⟨_,Zo75⟩
def Zk77:Con UU where
 α:=(List DBind)×Int
 md:=[.ro,.ro]
 of:=oC (oL .eBind) (o1 oI)
 ds:=fun x=>[dL .eBind x.1,dI x.2]
 pre:=fun(a,k)=>[0≤k,k+cntBindS a≤4611686018427387904]
 res:=fun(a,k)=>⟨[dI (if markBindS a k=a then k+cntBindS a else-1)],true,[]⟩
 law:=lC (lL .eBind) (l1 lI)
def Zi77_2(a:(List DBind))(k:Int):Int×Int×Unit→Prop:=fun(kk,i,_)=>0≤i∧i≤a.length∧kk=k+ctS cntBind (a.take i.toNat)∧(mkS markBind cntBind (a.drop i.toNat) kk=a.drop i.toNat↔mkS markBind cntBind a k=a)
def Zm77_2(a:(List DBind))(k:Int):Int×Int×Unit→Nat:=fun(kk,i,_)=>a.length-i.toNat
def Za77:Zk77.α→Nat→Option (Ann UU):=fun(a,k)=>annL [(2,annOf [.slot 1 (1,1024) (.lit (.int .i64)),.slot 5 (5,1024) (.lit (.int .i64))] (fun _=>Zi77_2 a k) (Zm77_2 a k))]
def Zu77:=us [Zh146]
theorem Zo77:Holds EE (77,Zk77):=by
 refine holds_of EE_ok func77 Zk77 (by kernel_rfl) Zu77 (us_ok _) Za77 (fun x hp hb=> ?_)
 obtain⟨a,k⟩:=x
 have hl_a:a.length≤9223372036854775807:=bdL (hb _ m0)
 have hl_k:=bdI (n:=k) (hb _ m1)
 have hp0:0≤k:=hp _ m0
 have hp1:k+cntBindS a≤4611686018427387904:=hp _ m1
 clear hp hb
 apply @ve _ (Zi77_2 a k (k,(0:Int),())∧∀(y:Int×Int×PUnit),let x3:Nat:=y.2.1.toNat;let x4:Int:=IntKind.wrap IntKind.i64 (IntKind.wrap IntKind.i64 (y.1+(1:Int))+(1:Int));let x1:Int:=IntKind.wrap IntKind.i64 (x4+(1:Int));let x2:DBind:=List.getD a x3 zBind;let x0:DVal:=x2.V;Zi77_2 a k y→bif decide (y.2.1<(a.length:Int)) then(0:Int)≤y.2.1∧x3<a.length∧y.1≤(4611686018427387903:Int)∧bif !ByteArray.toList x2.Name==ByteArray.toList (markText y.1) then Li (-1:Int) (if markBindS a k=a then k+(↑(cntBindS a):Int) else(-1:Int)) else(0:Int)≤y.2.1∧x3<a.length∧bif x0.K !=IntKind.wrap IntKind.i64 (y.1+(1:Int)) then Li (-1:Int) (if markBindS a k=a then k+(↑(cntBindS a):Int) else(-1:Int)) else(0:Int)≤y.2.1∧x3<a.length∧bif x0.N !=x4 then Li (-1:Int) (if markBindS a k=a then k+(↑(cntBindS a):Int) else(-1:Int)) else(0:Int)≤y.2.1∧x3<a.length∧x1≤(4611686018427387903:Int)∧bif !ByteArray.toList x0.S==ByteArray.toList (markText x1) then Li (-1:Int) (if markBindS a k=a then k+(↑(cntBindS a):Int) else(-1:Int)) else Zi77_2 a k (IntKind.wrap IntKind.i64 (x1+(1:Int)),IntKind.wrap IntKind.i64 (y.2.1+(1:Int)),())∧Zm77_2 a k (IntKind.wrap IntKind.i64 (x1+(1:Int)),IntKind.wrap IntKind.i64 (y.2.1+(1:Int)),())<Zm77_2 a k y else Li y.1 (if markBindS a k=a then k+(↑(cntBindS a):Int) else(-1:Int))) (by kernel_rfl)
 dsimp only
 refine⟨⟨by omega,by omega,by simp[ctS],by simp⟩,?_⟩
 rintro⟨kk,i,⟨⟩⟩ ⟨h1,h2,hkk,hR⟩
 simp only
 simp only[markBindS]
 refine if_cond (fun hc=> ?_) (fun hc=> ?_)
 ·have hc:i<a.length:=by have hc:=of_decide_eq_true hc;omega
  have hct:=ctS_take cntBind a zBind h1 hc
  have hle:=ctS_take_le cntBind a (i+1).toNat
  have hq:(cntBindS a:Int)=ctS cntBind a:=rfl
  rw[drop_step a zBind h1 hc] at hR
  generalize List.getD a i.toNat zBind=x at*
  simp only[mkS,zdd] at hR
  have e:kk+(cntBind x:Int)=kk+1+1+1+1:=by first|(simp only[cntBind];done)|(simp only[cntBind];omega)
  rw[e] at hR
  simp only[markBind,cntBind] at hR hct
  simp(disch:=omega) only[wrap_i64,bne_int,toList_beq]
  obtain⟨x_Name,⟨x_V_K,x_V_N,x_V_S⟩⟩:=x
  simp only[DBind.mk.injEq,DVal.mk.injEq] at*
  repeat' (first|refine And.intro (by omega) ?_|fail)
  refine if_cond (fun h=>Lf_no (fun hh=> ?_)) (fun h=> ?_)
  ·have hh:=hR.2 hh;simp_all
  have h:x_Name=markText (kk):=by simpa using h
  subst x_Name
  repeat' (first|refine And.intro (by omega) ?_|fail)
  refine if_cond (fun h=>Lf_no (fun hh=> ?_)) (fun h=> ?_)
  ·have hh:=hR.2 hh;simp_all
  have h:x_V_K=kk+1:=by simpa using h
  subst x_V_K
  repeat' (first|refine And.intro (by omega) ?_|fail)
  refine if_cond (fun h=>Lf_no (fun hh=> ?_)) (fun h=> ?_)
  ·have hh:=hR.2 hh;simp_all
  have h:x_V_N=kk+1+1:=by simpa using h
  subst x_V_N
  repeat' (first|refine And.intro (by omega) ?_|fail)
  refine if_cond (fun h=>Lf_no (fun hh=> ?_)) (fun h=> ?_)
  ·have hh:=hR.2 hh;simp_all
  have h:x_V_S=markText (kk+1+1+1):=by simpa using h
  subst x_V_S
  exact⟨⟨by omega,by omega,by omega,by simpa using hR⟩,by simp only[Zm77_2];omega⟩
 ·have hc:a.length≤i:=by have hc:=of_decide_eq_false hc;omega
  rw[drop_end a hc] at hR
  exact Lf_yes (hR.1 rfl) (by rw[hkk,ct_done _ _ hc];rfl)
def Zh77:HH:=⟨_,Zo77⟩
def Zk249:Con UU where
 α:=DCond×Int
 md:=[.ro,.ro]
 of:=oC (oA .lCond) (o1 oI)
 ds:=fun x=>[dA .lCond x.1,dI x.2]
 pre:=fun(a,left)=>[0≤left]
 res:=fun(a,left)=>⟨[dI (szr left (sizeCond a))],true,[]⟩
 law:=lC (lA .lCond) (l1 lI)
def Za249:Zk249.α→Nat→Option (Ann UU):=fun(a,left)=>annL []
def Zu249:=us [Zh287]
theorem Zo249:Holds EE (249,Zk249):=by
 refine holds_of EE_ok func249 Zk249 (by kernel_rfl) Zu249 (us_ok _) Za249 (fun x hp hb=> ?_)
 obtain⟨a,left⟩:=x
 have hz0:=bd_lCond (x:=a) (hb _ m0)
 have hl_a_L_S:=hz0.1
 have hl_a_L_V_S:=hz0.2.1
 have hl_a_R_S:=hz0.2.2.1
 have hl_a_R_V_S:=hz0.2.2.2
 have hl_left:=bdI (n:=left) (hb _ m1)
 have hp0:0≤left:=hp _ m0
 clear hp hb
 apply @ve _ (let x0:Int:=szr (szr left (sizeArg a.L)) (sizeArg a.R);(0:Int)≤left∧bif decide (szr left (sizeArg a.L)<(0:Int)) then Li (-1:Int) (szr left (sizeCond a)) else(0:Int)≤szr left (sizeArg a.L)∧bif decide (x0<(0:Int)) then Li (-1:Int) (szr left (sizeCond a)) else Li x0 (szr left (sizeCond a))) (by kernel_rfl)
 dsimp only
 refine⟨by omega,if_cond (fun h=>Lf_i (szr_bad' ?_)) (fun h=> ?_)⟩
 ·have h:=szr_neg h;simp only[sizeCond];omega
 obtain⟨e0,h0⟩:=szr_pos h
 rw[e0]
 refine⟨by omega,if_cond (fun h=>Lf_i (szr_bad' ?_)) (fun h=> ?_)⟩
 ·have h:=szr_neg h;simp only[sizeCond];omega
 obtain⟨e1,h1⟩:=szr_pos h
 rw[e1]
 exact Lf_i (by rw[←szr_ok' (by simp only[sizeCond];omega)];simp only[sizeCond];try omega)
def Zh249:HH:=⟨_,Zo249⟩
def Zk259:Con UU where
 α:=DCond
 md:=[.ro]
 of:=o1 (oA .lCond)
 ds:=fun x=>[dA .lCond x]
 pre:=fun a=>[sizeCond a≤4294967296]
 res:=fun a=>⟨[dA .eCond a],true,[]⟩
 law:=l1 (lA .lCond)
def Za259:Zk259.α→Nat→Option (Ann UU):=fun a=>annL []
def Zu259:=us [Zh292]
theorem Zo259:Holds EE (259,Zk259):=by
 refine holds_of EE_ok func259 Zk259 (by kernel_rfl) Zu259 (us_ok _) Za259 (fun(a:DCond) hp hb=> ?_)
 have hz0:=bd_lCond (x:=a) (hb _ m0)
 have hl_a_L_S:=hz0.1
 have hl_a_L_V_S:=hz0.2.1
 have hl_a_R_S:=hz0.2.2.1
 have hl_a_R_V_S:=hz0.2.2.2
 have hp0:sizeCond a≤4294967296:=hp _ m0
 clear hp hb
 apply @ve _ (sizeArg a.L≤(4294967296:Nat)∧sizeArg a.R≤(4294967296:Nat)∧Lf [DV.agg [CI a.Op,CI a.L.K,CS a.L.S,CI a.L.V.K,CI a.L.V.N,CS a.L.V.S,CI a.R.K,CS a.R.S,CI a.R.V.K,CI a.R.V.N,CS a.R.V.S]] [DV.agg [CI a.Op,CI a.L.K,CS a.L.S,CI a.L.V.K,CI a.L.V.N,CS a.L.V.S,CI a.R.K,CS a.R.S,CI a.R.V.K,CI a.R.V.N,CS a.R.V.S]]) (by kernel_rfl)
 simp only[sizeCond] at hp0
 repeat' (first|exact Lf_rfl _|(refine And.intro (by omega) ?_))
def Zh259:HH:=⟨_,Zo259⟩
def Zk271:Con UU where
 α:=DCond×DCond
 md:=[.ro,.ro]
 of:=oC (oA .eCond) (o1 (oA .eCond))
 ds:=fun x=>[dA .eCond x.1,dA .eCond x.2]
 pre:=fun _=>[]
 res:=fun(a,b)=>⟨[dO (decide (a=b))],true,[]⟩
 law:=lC (lA .eCond) (l1 (lA .eCond))
def Za271:Zk271.α→Nat→Option (Ann UU):=fun(a,b)=>annL []
def Zu271:=us [Zh300]
theorem Zo271:Holds EE (271,Zk271):=by
 refine holds_of EE_ok func271 Zk271 (by kernel_rfl) Zu271 (us_ok _) Za271 (fun x hp hb=> ?_)
 obtain⟨a,b⟩:=x
 have hz0:=bd_eCond (x:=a) (hb _ m0)
 have hl_a_L_S:=hz0.1
 have hl_a_L_V_S:=hz0.2.1
 have hl_a_R_S:=hz0.2.2.1
 have hl_a_R_V_S:=hz0.2.2.2
 have hz1:=bd_eCond (x:=b) (hb _ m1)
 have hl_b_L_S:=hz1.1
 have hl_b_L_V_S:=hz1.2.1
 have hl_b_R_S:=hz1.2.2.1
 have hl_b_R_V_S:=hz1.2.2.2
 clear hp hb
 apply @ve _ (bif a.Op !=b.Op then Lb false (decide (a=b)) else bif !decide (a.L=b.L) then Lb false (decide (a=b)) else bif !decide (a.R=b.R) then Lb false (decide (a=b)) else Lb true (decide (a=b))) (by kernel_rfl)
 obtain⟨aOp,aL,aR⟩:=a
 obtain⟨bOp,bL,bR⟩:=b
 repeat' (apply if_cond<;>intro _)
 all_goals (first|apply Lf_t|apply Lf_f)<;>simp_all
def Zh271:HH:=⟨_,Zo271⟩
def Zk178:Con UU where
 α:=(List DCond)×Int
 md:=[.ro,.ro]
 of:=oC (oL .lCond) (o1 oI)
 ds:=fun x=>[dL .lCond x.1,dI x.2]
 pre:=fun(a,left)=>[0≤left]
 res:=fun(a,left)=>⟨[dI (szr left (sizeCondS a))],true,[]⟩
 law:=lC (lL .lCond) (l1 lI)
def Zi178_5(a:(List DCond))(left:Int):Int×Int×Unit→Prop:=szI sizeCond a (sizeCondS a) left
def Zm178_5(a:(List DCond))(left:Int):Int×Int×Unit→Nat:=rM2 a
def Za178:Zk178.α→Nat→Option (Ann UU):=fun(a,left)=>annL [(5,annOf [.slot 1 (1,1024) (.lit (.int .i64)),.slot 5 (5,1024) (.lit (.int .i64))] (fun _=>Zi178_5 a left) (Zm178_5 a left))]
def Zu178:=us [Zh249]
theorem Zo178:Holds EE (178,Zk178):=by
 refine holds_of EE_ok func178 Zk178 (by kernel_rfl) Zu178 (us_ok _) Za178 (fun x hp hb=> ?_)
 obtain⟨a,left⟩:=x
 have hl_a:a.length≤9223372036854775807:=bdL (hb _ m0)
 have hl_left:=bdI (n:=left) (hb _ m1)
 have hp0:0≤left:=hp _ m0
 clear hp hb
 apply @ve _ (szV sizeCond zCond a (sizeCondS a) left) (by kernel_rfl)
 exact szV_ok rfl hp0 hl_left hl_a
def Zh178:HH:=⟨_,Zo178⟩
def Zk193:Con UU where
 α:=(List DCond)
 md:=[.ro]
 of:=o1 (oL .lCond)
 ds:=fun x=>[dL .lCond x]
 pre:=fun a=>[sizeCondS a≤4294967296]
 res:=fun a=>⟨[dL .eCond a],true,[]⟩
 law:=l1 (lL .lCond)
def Zi193_3(a:(List DCond)):List DCond×Int×Unit→Prop:=toI zCond a
def Zm193_3(a:(List DCond)):List DCond×Int×Unit→Nat:=rM2 a
def Za193:Zk193.α→Nat→Option (Ann UU):=fun a=>annL [(3,annOf [.slot 3 (3,1024) (.own .eCond true),.slot 4 (4,1024) (.lit (.int .i64))] (fun _=>Zi193_3 a) (Zm193_3 a))]
def Zu193:=us [Zh259]
theorem Zo193:Holds EE (193,Zk193):=by
 refine holds_of EE_ok func193 Zk193 (by kernel_rfl) Zu193 (us_ok _) Za193 (fun(a:(List DCond)) hp hb=> ?_)
 have hl_a:a.length≤9223372036854775807:=bdL (hb _ m0)
 have hp0:sizeCondS a≤4294967296:=hp _ m0
 clear hp hb
 apply @ve _ (toV sizeCond zCond a fun y=>Lf [.one (.sl .eCond y)] [.one (.sl .eCond a)]) (by kernel_rfl)
 exact toV_ok hp0 (Lf_rfl _)
def Zh193:HH:=⟨_,Zo193⟩
def Zk215:Con UU where
 α:=(List DCond)×(List DCond)
 md:=[.ro,.ro]
 of:=oC (oL .eCond) (o1 (oL .eCond))
 ds:=fun x=>[dL .eCond x.1,dL .eCond x.2]
 pre:=fun _=>[]
 res:=fun(a,b)=>⟨[dO (decide (a=b))],true,[]⟩
 law:=lC (lL .eCond) (l1 (lL .eCond))
def Zi215_4(a:(List DCond))(b:(List DCond)):Int×Unit→Prop:=eqI a b
def Zm215_4(a:(List DCond))(b:(List DCond)):Int×Unit→Nat:=rM1 a
def Za215:Zk215.α→Nat→Option (Ann UU):=fun(a,b)=>annL [(4,annOf [.slot 5 (5,1024) (.lit (.int .i64))] (fun _=>Zi215_4 a b) (Zm215_4 a b))]
def Zu215:=us [Zh271]
theorem Zo215:Holds EE (215,Zk215):=by
 refine holds_of EE_ok func215 Zk215 (by kernel_rfl) Zu215 (us_ok _) Za215 (fun x hp hb=> ?_)
 obtain⟨a,b⟩:=x
 have hl_a:a.length≤9223372036854775807:=bdL (hb _ m0)
 have hl_b:b.length≤9223372036854775807:=bdL (hb _ m1)
 clear hp hb
 apply @ve _ (eqV zCond a b) (by kernel_rfl)
 exact eqV_ok hl_a
def Zh215:HH:=⟨_,Zo215⟩
def Zk148:Con UU where
 α:=(List DCond)×Int
 md:=[.wr,.ro]
 of:=oC (oL .eCond) (o1 oI)
 ds:=fun x=>[dL .eCond x.1,dI x.2]
 pre:=fun(a,k)=>[0≤k,k+cntCondS a≤4611686018427387904]
 res:=fun(a,k)=>⟨[dI (k+cntCondS a)],true,[dL .eCond (markCondS a k)]⟩
 law:=lC (lL .eCond) (l1 lI)
def Zi148_2(a:(List DCond))(k:Int):List DCond×Int×Int×Unit→Prop:=fun(row,kk,i,_)=>0≤i∧i≤a.length∧row=(mkS markCond cntCond a k).take i.toNat++a.drop i.toNat∧kk=k+ctS cntCond (a.take i.toNat)
def Zm148_2(a:(List DCond))(k:Int):List DCond×Int×Int×Unit→Nat:=fun(row,kk,i,_)=>a.length-i.toNat
def Za148:Zk148.α→Nat→Option (Ann UU):=fun(a,k)=>annL [(2,annOf [.slot 0 (2000000,0) (.own .eCond true),.slot 1 (1,1024) (.lit (.int .i64)),.slot 5 (5,1024) (.lit (.int .i64))] (fun _=>Zi148_2 a k) (Zm148_2 a k))]
def Zu148:=us [Zh146]
theorem Zo148:Holds EE (148,Zk148):=by
 refine holds_of EE_ok func148 Zk148 (by kernel_rfl) Zu148 (us_ok _) Za148 (fun x hp hb=> ?_)
 obtain⟨a,k⟩:=x
 have hl_a:a.length≤9223372036854775807:=bdL (hb _ m0)
 have hl_k:=bdI (n:=k) (hb _ m1)
 have hp0:0≤k:=hp _ m0
 have hp1:k+cntCondS a≤4611686018427387904:=hp _ m1
 clear hp hb
 apply @ve _ (Zi148_2 a k (a,k,(0:Int),())∧∀(y:List DCond×Int×Int×PUnit),let x0:Nat:=y.2.2.1.toNat;let x14:Int:=IntKind.wrap IntKind.i64 (y.2.1+(1:Int));let x15:List DCond:=List.modify y.1 x0 fun(x:DCond)=>{Op:=y.2.1,L:=x.L,R:=x.R:DCond};let x12:Int:=IntKind.wrap IntKind.i64 (x14+(1:Int));let x13:List DCond:=List.modify x15 x0 fun(x:DCond)=>{Op:=x.Op,L:={K:=x14,S:=x.L.S,V:=x.L.V:DArg},R:=x.R:DCond};let x17:Int:=IntKind.wrap IntKind.i64 (IntKind.wrap IntKind.i64 (x12+(1:Int))+(1:Int));let x9:List DCond:=List.modify x13 x0 fun(x:DCond)=>{Op:=x.Op,L:={K:=x.L.K,S:=markText x12,V:=x.L.V:DArg},R:=x.R:DCond};let x11:Int:=IntKind.wrap IntKind.i64 (x17+(1:Int));let x7:List DCond:=List.modify x9 x0 fun(x:DCond)=>{Op:=x.Op,L:={K:=x.L.K,S:=x.L.S,V:={K:=IntKind.wrap IntKind.i64 (x12+(1:Int)),N:=x.L.V.N,S:=x.L.V.S:DVal}:DArg},R:=x.R:DCond};let x10:Int:=IntKind.wrap IntKind.i64 (IntKind.wrap IntKind.i64 (x11+(1:Int))+(1:Int));let x16:Int:=IntKind.wrap IntKind.i64 (IntKind.wrap IntKind.i64 (x10+(1:Int))+(1:Int));let x6:List DCond:=List.modify x7 x0 fun(x:DCond)=>{Op:=x.Op,L:={K:=x.L.K,S:=x.L.S,V:={K:=x.L.V.K,N:=x17,S:=x.L.V.S:DVal}:DArg},R:=x.R:DCond};let x8:Int:=IntKind.wrap IntKind.i64 (x16+(1:Int));let x5:List DCond:=List.modify x6 x0 fun(x:DCond)=>{Op:=x.Op,L:={K:=x.L.K,S:=x.L.S,V:={K:=x.L.V.K,N:=x.L.V.N,S:=markText x11:DVal}:DArg},R:=x.R:DCond};let x4:List DCond:=List.modify x5 x0 fun(x:DCond)=>{Op:=x.Op,L:=x.L,R:={K:=IntKind.wrap IntKind.i64 (x11+(1:Int)),S:=x.R.S,V:=x.R.V:DArg}:DCond};let x3:List DCond:=List.modify x4 x0 fun(x:DCond)=>{Op:=x.Op,L:=x.L,R:={K:=x.R.K,S:=markText x10,V:=x.R.V:DArg}:DCond};let x2:List DCond:=List.modify x3 x0 fun(x:DCond)=>{Op:=x.Op,L:=x.L,R:={K:=x.R.K,S:=x.R.S,V:={K:=IntKind.wrap IntKind.i64 (x10+(1:Int)),N:=x.R.V.N,S:=x.R.V.S:DVal}:DArg}:DCond};let x1:List DCond:=List.modify x2 x0 fun(x:DCond)=>{Op:=x.Op,L:=x.L,R:={K:=x.R.K,S:=x.R.S,V:={K:=x.R.V.K,N:=x16,S:=x.R.V.S:DVal}:DArg}:DCond};Zi148_2 a k y→bif decide (y.2.2.1<(y.1.length:Int)) then(0:Int)≤y.2.2.1∧x0<y.1.length∧x0<y.1.length∧(0:Int)≤y.2.2.1∧x0<x15.length∧x0<x15.length∧x12≤(4611686018427387903:Int)∧(0:Int)≤y.2.2.1∧x0<x13.length∧x0<x13.length∧(0:Int)≤y.2.2.1∧x0<x9.length∧x0<x9.length∧(0:Int)≤y.2.2.1∧x0<x7.length∧x0<x7.length∧x11≤(4611686018427387903:Int)∧(0:Int)≤y.2.2.1∧x0<x6.length∧x0<x6.length∧(0:Int)≤y.2.2.1∧x0<x5.length∧x0<x5.length∧x10≤(4611686018427387903:Int)∧(0:Int)≤y.2.2.1∧x0<x4.length∧x0<x4.length∧(0:Int)≤y.2.2.1∧x0<x3.length∧x0<x3.length∧(0:Int)≤y.2.2.1∧x0<x2.length∧x0<x2.length∧x8≤(4611686018427387903:Int)∧(0:Int)≤y.2.2.1∧x0<x1.length∧x0<x1.length∧Zi148_2 a k (List.modify x1 x0 fun(x:DCond)=>{Op:=x.Op,L:=x.L,R:={K:=x.R.K,S:=x.R.S,V:={K:=x.R.V.K,N:=x.R.V.N,S:=markText x8:DVal}:DArg}:DCond},IntKind.wrap IntKind.i64 (x8+(1:Int)),IntKind.wrap IntKind.i64 (y.2.2.1+(1:Int)),())∧Zm148_2 a k (List.modify x1 x0 fun(x:DCond)=>{Op:=x.Op,L:=x.L,R:={K:=x.R.K,S:=x.R.S,V:={K:=x.R.V.K,N:=x.R.V.N,S:=markText x8:DVal}:DArg}:DCond},IntKind.wrap IntKind.i64 (x8+(1:Int)),IntKind.wrap IntKind.i64 (y.2.2.1+(1:Int)),())<Zm148_2 a k y else asD [VI y.2.1]=asD [VI (k+(↑(cntCondS a):Int))]∧asD [VL .eCond y.1]=asD [VL .eCond (markCondS a k)]) (by kernel_rfl)
 dsimp only
 refine⟨⟨by omega,by omega,by simp,by simp[ctS]⟩,?_⟩
 rintro⟨row,kk,i,⟨⟩⟩ ⟨h1,h2,rfl,rfl⟩
 simp only
 have hl:=mk_rl markCond cntCond a k h1 h2
 refine if_cond (fun hc=> ?_) (fun hc=> ?_)
 ·have hc:i<a.length:=by have hc:=of_decide_eq_true hc;omega
  have hct:=ctS_take cntCond a zCond h1 hc
  have hle:=ctS_take_le cntCond a (i+1).toNat
  have hg:=mk_getD _ a zCond (mk_tl markCond cntCond a k h1 h2) h1 hc
  have hM:=fun F hF=>mkS_mod markCond cntCond a zCond k (i:=i) F h1 hc hF
  have hq:(cntCondS a:Int)=ctS cntCond a:=rfl
  generalize List.getD a i.toNat zCond=x at*
  generalize hkk:k+(ctS cntCond (a.take i.toNat):Int)=kk at*
  generalize List.take i.toNat (mkS markCond cntCond a k)++List.drop i.toNat a=R at*
  simp only[cntCond] at hct
  simp(disch:=first|omega|(simp only[zbf];omega)) only[zbf,wrap_i64,getD_modify,modify_modify,hg,hl]
  repeat' (first|refine And.intro (by omega) ?_|fail)
  exact⟨⟨by omega,by omega,hM _ (by first|rfl|(simp only[markCond,markBool];rw[zbp (by omega)];rfl)),by omega⟩,by simp only[Zm148_2];omega⟩
 ·have hc:a.length≤i:=by have hc:=of_decide_eq_false hc;omega
  rw[mk_done markCond cntCond a k hc,ct_done cntCond a hc]
  exact⟨rfl,rfl⟩
def Zh148:HH:=⟨_,Zo148⟩
def Zk309:Con UU where
 α:=DExpr×Int
 md:=[.ro,.ro]
 of:=oC (oA .lExpr) (o1 oI)
 ds:=fun x=>[dA .lExpr x.1,dI x.2]
 pre:=fun(a,left)=>[0≤left]
 res:=fun(a,left)=>⟨[dI (szr left (sizeExpr a))],true,[]⟩
 law:=lC (lA .lExpr) (l1 lI)
def Za309:Zk309.α→Nat→Option (Ann UU):=fun(a,left)=>annL []
def Zu309:=us [Zh287]
theorem Zo309:Holds EE (309,Zk309):=by
 refine holds_of EE_ok func309 Zk309 (by kernel_rfl) Zu309 (us_ok _) Za309 (fun x hp hb=> ?_)
 obtain⟨a,left⟩:=x
 have hz0:=bd_lExpr (x:=a) (hb _ m0)
 have hl_a_Op:=hz0.1
 have hl_a_L_S:=hz0.2.1
 have hl_a_L_V_S:=hz0.2.2.1
 have hl_a_R_S:=hz0.2.2.2.1
 have hl_a_R_V_S:=hz0.2.2.2.2
 have hl_left:=bdI (n:=left) (hb _ m1)
 have hp0:0≤left:=hp _ m0
 clear hp hb
 apply @ve _ (let x1:Int:=IntKind.wrap IntKind.i64 (left-(↑(ByteArray.size a.Op):Int));let x0:Int:=szr x1 (sizeArg a.L);bif decide (x1<(0:Int)) then Li (-1:Int) (szr left (sizeExpr a)) else(0:Int)≤x1∧bif decide (x0<(0:Int)) then Li (-1:Int) (szr left (sizeExpr a)) else(0:Int)≤x0∧bif decide (szr x0 (sizeArg a.R)<(0:Int)) then Li (-1:Int) (szr left (sizeExpr a)) else Li (szr x0 (sizeArg a.R)) (szr left (sizeExpr a))) (by kernel_rfl)
 dsimp only
 rw[wrap_i64 (by omega) (by omega)]
 refine if_cond (fun h=>Lf_i (szr_bad' ?_)) (fun h=> ?_)
 ·have h:=of_decide_eq_true h;simp only[sizeExpr];omega
 have h0:=of_decide_eq_false h
 refine⟨by omega,if_cond (fun h=>Lf_i (szr_bad' ?_)) (fun h=> ?_)⟩
 ·have h:=szr_neg h;simp only[sizeExpr];omega
 obtain⟨e1,h1⟩:=szr_pos h
 rw[e1]
 refine⟨by omega,if_cond (fun h=>Lf_i (szr_bad' ?_)) (fun h=> ?_)⟩
 ·have h:=szr_neg h;simp only[sizeExpr];omega
 obtain⟨e2,h2⟩:=szr_pos h
 rw[e2]
 exact Lf_i (by rw[←szr_ok' (by simp only[sizeExpr];omega)];simp only[sizeExpr];try omega)
def Zh309:HH:=⟨_,Zo309⟩
def Zk310:Con UU where
 α:=DExpr
 md:=[.ro]
 of:=o1 (oA .lExpr)
 ds:=fun x=>[dA .lExpr x]
 pre:=fun a=>[sizeExpr a≤4294967296]
 res:=fun a=>⟨[dA .eExpr a],true,[]⟩
 law:=l1 (lA .lExpr)
def Za310:Zk310.α→Nat→Option (Ann UU):=fun a=>annL []
def Zu310:=us [Zh292]
theorem Zo310:Holds EE (310,Zk310):=by
 refine holds_of EE_ok func310 Zk310 (by kernel_rfl) Zu310 (us_ok _) Za310 (fun(a:DExpr) hp hb=> ?_)
 have hz0:=bd_lExpr (x:=a) (hb _ m0)
 have hl_a_Op:=hz0.1
 have hl_a_L_S:=hz0.2.1
 have hl_a_L_V_S:=hz0.2.2.1
 have hl_a_R_S:=hz0.2.2.2.1
 have hl_a_R_V_S:=hz0.2.2.2.2
 have hp0:sizeExpr a≤4294967296:=hp _ m0
 clear hp hb
 apply @ve _ (sizeArg a.L≤(4294967296:Nat)∧sizeArg a.R≤(4294967296:Nat)∧Lf [DV.agg [CS a.Op,CI a.L.K,CS a.L.S,CI a.L.V.K,CI a.L.V.N,CS a.L.V.S,CI a.R.K,CS a.R.S,CI a.R.V.K,CI a.R.V.N,CS a.R.V.S]] [DV.agg [CS a.Op,CI a.L.K,CS a.L.S,CI a.L.V.K,CI a.L.V.N,CS a.L.V.S,CI a.R.K,CS a.R.S,CI a.R.V.K,CI a.R.V.N,CS a.R.V.S]]) (by kernel_rfl)
 simp only[sizeExpr] at hp0
 repeat' (first|exact Lf_rfl _|(refine And.intro (by omega) ?_))
def Zh310:HH:=⟨_,Zo310⟩
def Zk312:Con UU where
 α:=DExpr×DExpr
 md:=[.ro,.ro]
 of:=oC (oA .eExpr) (o1 (oA .eExpr))
 ds:=fun x=>[dA .eExpr x.1,dA .eExpr x.2]
 pre:=fun _=>[]
 res:=fun(a,b)=>⟨[dO (decide (a=b))],true,[]⟩
 law:=lC (lA .eExpr) (l1 (lA .eExpr))
def Za312:Zk312.α→Nat→Option (Ann UU):=fun(a,b)=>annL []
def Zu312:=us [Zh300]
theorem Zo312:Holds EE (312,Zk312):=by
 refine holds_of EE_ok func312 Zk312 (by kernel_rfl) Zu312 (us_ok _) Za312 (fun x hp hb=> ?_)
 obtain⟨a,b⟩:=x
 have hz0:=bd_eExpr (x:=a) (hb _ m0)
 have hl_a_Op:=hz0.1
 have hl_a_L_S:=hz0.2.1
 have hl_a_L_V_S:=hz0.2.2.1
 have hl_a_R_S:=hz0.2.2.2.1
 have hl_a_R_V_S:=hz0.2.2.2.2
 have hz1:=bd_eExpr (x:=b) (hb _ m1)
 have hl_b_Op:=hz1.1
 have hl_b_L_S:=hz1.2.1
 have hl_b_L_V_S:=hz1.2.2.1
 have hl_b_R_S:=hz1.2.2.2.1
 have hl_b_R_V_S:=hz1.2.2.2.2
 clear hp hb
 apply @ve _ (bif !ByteArray.toList a.Op==ByteArray.toList b.Op then Lb false (decide (a=b)) else bif !decide (a.L=b.L) then Lb false (decide (a=b)) else bif !decide (a.R=b.R) then Lb false (decide (a=b)) else Lb true (decide (a=b))) (by kernel_rfl)
 obtain⟨aOp,aL,aR⟩:=a
 obtain⟨bOp,bL,bR⟩:=b
 repeat' (apply if_cond<;>intro _)
 all_goals (first|apply Lf_t|apply Lf_f)<;>simp_all
def Zh312:HH:=⟨_,Zo312⟩
def Zk288:Con UU where
 α:=(List DExpr)×Int
 md:=[.ro,.ro]
 of:=oC (oL .lExpr) (o1 oI)
 ds:=fun x=>[dL .lExpr x.1,dI x.2]
 pre:=fun(a,left)=>[0≤left]
 res:=fun(a,left)=>⟨[dI (szr left (sizeExprS a))],true,[]⟩
 law:=lC (lL .lExpr) (l1 lI)
def Zi288_5(a:(List DExpr))(left:Int):Int×Int×Unit→Prop:=szI sizeExpr a (sizeExprS a) left
def Zm288_5(a:(List DExpr))(left:Int):Int×Int×Unit→Nat:=rM2 a
def Za288:Zk288.α→Nat→Option (Ann UU):=fun(a,left)=>annL [(5,annOf [.slot 1 (1,1024) (.lit (.int .i64)),.slot 5 (5,1024) (.lit (.int .i64))] (fun _=>Zi288_5 a left) (Zm288_5 a left))]
def Zu288:=us [Zh309]
theorem Zo288:Holds EE (288,Zk288):=by
 refine holds_of EE_ok func288 Zk288 (by kernel_rfl) Zu288 (us_ok _) Za288 (fun x hp hb=> ?_)
 obtain⟨a,left⟩:=x
 have hl_a:a.length≤9223372036854775807:=bdL (hb _ m0)
 have hl_left:=bdI (n:=left) (hb _ m1)
 have hp0:0≤left:=hp _ m0
 clear hp hb
 apply @ve _ (szV sizeExpr zExpr a (sizeExprS a) left) (by kernel_rfl)
 exact szV_ok rfl hp0 hl_left hl_a
def Zh288:HH:=⟨_,Zo288⟩
def Zk293:Con UU where
 α:=(List DExpr)
 md:=[.ro]
 of:=o1 (oL .lExpr)
 ds:=fun x=>[dL .lExpr x]
 pre:=fun a=>[sizeExprS a≤4294967296]
 res:=fun a=>⟨[dL .eExpr a],true,[]⟩
 law:=l1 (lL .lExpr)
def Zi293_3(a:(List DExpr)):List DExpr×Int×Unit→Prop:=toI zExpr a
def Zm293_3(a:(List DExpr)):List DExpr×Int×Unit→Nat:=rM2 a
def Za293:Zk293.α→Nat→Option (Ann UU):=fun a=>annL [(3,annOf [.slot 3 (3,1024) (.own .eExpr true),.slot 4 (4,1024) (.lit (.int .i64))] (fun _=>Zi293_3 a) (Zm293_3 a))]
def Zu293:=us [Zh310]
theorem Zo293:Holds EE (293,Zk293):=by
 refine holds_of EE_ok func293 Zk293 (by kernel_rfl) Zu293 (us_ok _) Za293 (fun(a:(List DExpr)) hp hb=> ?_)
 have hl_a:a.length≤9223372036854775807:=bdL (hb _ m0)
 have hp0:sizeExprS a≤4294967296:=hp _ m0
 clear hp hb
 apply @ve _ (toV sizeExpr zExpr a fun y=>Lf [.one (.sl .eExpr y)] [.one (.sl .eExpr a)]) (by kernel_rfl)
 exact toV_ok hp0 (Lf_rfl _)
def Zh293:HH:=⟨_,Zo293⟩
def Zk301:Con UU where
 α:=(List DExpr)×(List DExpr)
 md:=[.ro,.ro]
 of:=oC (oL .eExpr) (o1 (oL .eExpr))
 ds:=fun x=>[dL .eExpr x.1,dL .eExpr x.2]
 pre:=fun _=>[]
 res:=fun(a,b)=>⟨[dO (decide (a=b))],true,[]⟩
 law:=lC (lL .eExpr) (l1 (lL .eExpr))
def Zi301_4(a:(List DExpr))(b:(List DExpr)):Int×Unit→Prop:=eqI a b
def Zm301_4(a:(List DExpr))(b:(List DExpr)):Int×Unit→Nat:=rM1 a
def Za301:Zk301.α→Nat→Option (Ann UU):=fun(a,b)=>annL [(4,annOf [.slot 5 (5,1024) (.lit (.int .i64))] (fun _=>Zi301_4 a b) (Zm301_4 a b))]
def Zu301:=us [Zh312]
theorem Zo301:Holds EE (301,Zk301):=by
 refine holds_of EE_ok func301 Zk301 (by kernel_rfl) Zu301 (us_ok _) Za301 (fun x hp hb=> ?_)
 obtain⟨a,b⟩:=x
 have hl_a:a.length≤9223372036854775807:=bdL (hb _ m0)
 have hl_b:b.length≤9223372036854775807:=bdL (hb _ m1)
 clear hp hb
 apply @ve _ (eqV zExpr a b) (by kernel_rfl)
 exact eqV_ok hl_a
def Zh301:HH:=⟨_,Zo301⟩
def Zk220:Con UU where
 α:=(List DExpr)×Int
 md:=[.wr,.ro]
 of:=oC (oL .eExpr) (o1 oI)
 ds:=fun x=>[dL .eExpr x.1,dI x.2]
 pre:=fun(a,k)=>[0≤k,k+cntExprS a≤4611686018427387904]
 res:=fun(a,k)=>⟨[dI (k+cntExprS a)],true,[dL .eExpr (markExprS a k)]⟩
 law:=lC (lL .eExpr) (l1 lI)
def Zi220_2(a:(List DExpr))(k:Int):List DExpr×Int×Int×Unit→Prop:=fun(row,kk,i,_)=>0≤i∧i≤a.length∧row=(mkS markExpr cntExpr a k).take i.toNat++a.drop i.toNat∧kk=k+ctS cntExpr (a.take i.toNat)
def Zm220_2(a:(List DExpr))(k:Int):List DExpr×Int×Int×Unit→Nat:=fun(row,kk,i,_)=>a.length-i.toNat
def Za220:Zk220.α→Nat→Option (Ann UU):=fun(a,k)=>annL [(2,annOf [.slot 0 (2000000,0) (.own .eExpr true),.slot 1 (1,1024) (.lit (.int .i64)),.slot 5 (5,1024) (.lit (.int .i64))] (fun _=>Zi220_2 a k) (Zm220_2 a k))]
def Zu220:=us [Zh146]
theorem Zo220:Holds EE (220,Zk220):=by
 refine holds_of EE_ok func220 Zk220 (by kernel_rfl) Zu220 (us_ok _) Za220 (fun x hp hb=> ?_)
 obtain⟨a,k⟩:=x
 have hl_a:a.length≤9223372036854775807:=bdL (hb _ m0)
 have hl_k:=bdI (n:=k) (hb _ m1)
 have hp0:0≤k:=hp _ m0
 have hp1:k+cntExprS a≤4611686018427387904:=hp _ m1
 clear hp hb
 apply @ve _ (Zi220_2 a k (a,k,(0:Int),())∧∀(y:List DExpr×Int×Int×PUnit),let x0:Nat:=y.2.2.1.toNat;let x14:List DExpr:=List.modify y.1 x0 fun(x:DExpr)=>{Op:=markText y.2.1,L:=x.L,R:=x.R:DExpr};let x15:Int:=IntKind.wrap IntKind.i64 (y.2.1+(1:Int));let x12:Int:=IntKind.wrap IntKind.i64 (x15+(1:Int));let x13:List DExpr:=List.modify x14 x0 fun(x:DExpr)=>{Op:=x.Op,L:={K:=x15,S:=x.L.S,V:=x.L.V:DArg},R:=x.R:DExpr};let x16:Int:=IntKind.wrap IntKind.i64 (IntKind.wrap IntKind.i64 (x12+(1:Int))+(1:Int));let x9:List DExpr:=List.modify x13 x0 fun(x:DExpr)=>{Op:=x.Op,L:={K:=x.L.K,S:=markText x12,V:=x.L.V:DArg},R:=x.R:DExpr};let x11:Int:=IntKind.wrap IntKind.i64 (x16+(1:Int));let x7:List DExpr:=List.modify x9 x0 fun(x:DExpr)=>{Op:=x.Op,L:={K:=x.L.K,S:=x.L.S,V:={K:=IntKind.wrap IntKind.i64 (x12+(1:Int)),N:=x.L.V.N,S:=x.L.V.S:DVal}:DArg},R:=x.R:DExpr};let x10:Int:=IntKind.wrap IntKind.i64 (IntKind.wrap IntKind.i64 (x11+(1:Int))+(1:Int));let x17:Int:=IntKind.wrap IntKind.i64 (IntKind.wrap IntKind.i64 (x10+(1:Int))+(1:Int));let x6:List DExpr:=List.modify x7 x0 fun(x:DExpr)=>{Op:=x.Op,L:={K:=x.L.K,S:=x.L.S,V:={K:=x.L.V.K,N:=x16,S:=x.L.V.S:DVal}:DArg},R:=x.R:DExpr};let x8:Int:=IntKind.wrap IntKind.i64 (x17+(1:Int));let x5:List DExpr:=List.modify x6 x0 fun(x:DExpr)=>{Op:=x.Op,L:={K:=x.L.K,S:=x.L.S,V:={K:=x.L.V.K,N:=x.L.V.N,S:=markText x11:DVal}:DArg},R:=x.R:DExpr};let x4:List DExpr:=List.modify x5 x0 fun(x:DExpr)=>{Op:=x.Op,L:=x.L,R:={K:=IntKind.wrap IntKind.i64 (x11+(1:Int)),S:=x.R.S,V:=x.R.V:DArg}:DExpr};let x3:List DExpr:=List.modify x4 x0 fun(x:DExpr)=>{Op:=x.Op,L:=x.L,R:={K:=x.R.K,S:=markText x10,V:=x.R.V:DArg}:DExpr};let x2:List DExpr:=List.modify x3 x0 fun(x:DExpr)=>{Op:=x.Op,L:=x.L,R:={K:=x.R.K,S:=x.R.S,V:={K:=IntKind.wrap IntKind.i64 (x10+(1:Int)),N:=x.R.V.N,S:=x.R.V.S:DVal}:DArg}:DExpr};let x1:List DExpr:=List.modify x2 x0 fun(x:DExpr)=>{Op:=x.Op,L:=x.L,R:={K:=x.R.K,S:=x.R.S,V:={K:=x.R.V.K,N:=x17,S:=x.R.V.S:DVal}:DArg}:DExpr};Zi220_2 a k y→bif decide (y.2.2.1<(y.1.length:Int)) then y.2.1≤(4611686018427387903:Int)∧(0:Int)≤y.2.2.1∧x0<y.1.length∧x0<y.1.length∧(0:Int)≤y.2.2.1∧x0<x14.length∧x0<x14.length∧x12≤(4611686018427387903:Int)∧(0:Int)≤y.2.2.1∧x0<x13.length∧x0<x13.length∧(0:Int)≤y.2.2.1∧x0<x9.length∧x0<x9.length∧(0:Int)≤y.2.2.1∧x0<x7.length∧x0<x7.length∧x11≤(4611686018427387903:Int)∧(0:Int)≤y.2.2.1∧x0<x6.length∧x0<x6.length∧(0:Int)≤y.2.2.1∧x0<x5.length∧x0<x5.length∧x10≤(4611686018427387903:Int)∧(0:Int)≤y.2.2.1∧x0<x4.length∧x0<x4.length∧(0:Int)≤y.2.2.1∧x0<x3.length∧x0<x3.length∧(0:Int)≤y.2.2.1∧x0<x2.length∧x0<x2.length∧x8≤(4611686018427387903:Int)∧(0:Int)≤y.2.2.1∧x0<x1.length∧x0<x1.length∧Zi220_2 a k (List.modify x1 x0 fun(x:DExpr)=>{Op:=x.Op,L:=x.L,R:={K:=x.R.K,S:=x.R.S,V:={K:=x.R.V.K,N:=x.R.V.N,S:=markText x8:DVal}:DArg}:DExpr},IntKind.wrap IntKind.i64 (x8+(1:Int)),IntKind.wrap IntKind.i64 (y.2.2.1+(1:Int)),())∧Zm220_2 a k (List.modify x1 x0 fun(x:DExpr)=>{Op:=x.Op,L:=x.L,R:={K:=x.R.K,S:=x.R.S,V:={K:=x.R.V.K,N:=x.R.V.N,S:=markText x8:DVal}:DArg}:DExpr},IntKind.wrap IntKind.i64 (x8+(1:Int)),IntKind.wrap IntKind.i64 (y.2.2.1+(1:Int)),())<Zm220_2 a k y else asD [VI y.2.1]=asD [VI (k+(↑(cntExprS a):Int))]∧asD [VL .eExpr y.1]=asD [VL .eExpr (markExprS a k)]) (by kernel_rfl)
 dsimp only
 refine⟨⟨by omega,by omega,by simp,by simp[ctS]⟩,?_⟩
 rintro⟨row,kk,i,⟨⟩⟩ ⟨h1,h2,rfl,rfl⟩
 simp only
 have hl:=mk_rl markExpr cntExpr a k h1 h2
 refine if_cond (fun hc=> ?_) (fun hc=> ?_)
 ·have hc:i<a.length:=by have hc:=of_decide_eq_true hc;omega
  have hct:=ctS_take cntExpr a zExpr h1 hc
  have hle:=ctS_take_le cntExpr a (i+1).toNat
  have hg:=mk_getD _ a zExpr (mk_tl markExpr cntExpr a k h1 h2) h1 hc
  have hM:=fun F hF=>mkS_mod markExpr cntExpr a zExpr k (i:=i) F h1 hc hF
  have hq:(cntExprS a:Int)=ctS cntExpr a:=rfl
  generalize List.getD a i.toNat zExpr=x at*
  generalize hkk:k+(ctS cntExpr (a.take i.toNat):Int)=kk at*
  generalize List.take i.toNat (mkS markExpr cntExpr a k)++List.drop i.toNat a=R at*
  simp only[cntExpr] at hct
  simp(disch:=first|omega|(simp only[zbf];omega)) only[zbf,wrap_i64,getD_modify,modify_modify,hg,hl]
  repeat' (first|refine And.intro (by omega) ?_|fail)
  exact⟨⟨by omega,by omega,hM _ (by first|rfl|(simp only[markExpr,markBool];rw[zbp (by omega)];rfl)),by omega⟩,by simp only[Zm220_2];omega⟩
 ·have hc:a.length≤i:=by have hc:=of_decide_eq_false hc;omega
  rw[mk_done markExpr cntExpr a k hc,ct_done cntExpr a hc]
  exact⟨rfl,rfl⟩
def Zh220:HH:=⟨_,Zo220⟩
def Zk250:Con UU where
 α:=DAct×Int
 md:=[.ro,.ro]
 of:=oC (oA .lAct) (o1 oI)
 ds:=fun x=>[dA .lAct x.1,dI x.2]
 pre:=fun(a,left)=>[0≤left]
 res:=fun(a,left)=>⟨[dI (szr left (sizeAct a))],true,[]⟩
 law:=lC (lA .lAct) (l1 lI)
def Za250:Zk250.α→Nat→Option (Ann UU):=fun(a,left)=>annL []
def Zu250:=us [Zh288]
theorem Zo250:Holds EE (250,Zk250):=by
 refine holds_of EE_ok func250 Zk250 (by kernel_rfl) Zu250 (us_ok _) Za250 (fun x hp hb=> ?_)
 obtain⟨a,left⟩:=x
 have hz0:=bd_lAct (x:=a) (hb _ m0)
 have hl_a_Name:=hz0.1
 have hl_a_Args:=hz0.2.1
 have hl_a_Undo:=hz0.2.2
 have hl_left:=bdI (n:=left) (hb _ m1)
 have hp0:0≤left:=hp _ m0
 clear hp hb
 apply @ve _ (let x1:Int:=IntKind.wrap IntKind.i64 (left-(↑(ByteArray.size a.Name):Int));let x0:Int:=IntKind.wrap IntKind.i64 (szr x1 (sizeExprS a.Args)-(↑(ByteArray.size a.Undo):Int));bif decide (x1<(0:Int)) then Li (-1:Int) (szr left (sizeAct a)) else(0:Int)≤x1∧bif decide (szr x1 (sizeExprS a.Args)<(0:Int)) then Li (-1:Int) (szr left (sizeAct a)) else bif decide (x0<(0:Int)) then Li (-1:Int) (szr left (sizeAct a)) else Li x0 (szr left (sizeAct a))) (by kernel_rfl)
 dsimp only
 rw[wrap_i64 (by omega) (by omega)]
 refine if_cond (fun h=>Lf_i (szr_bad' ?_)) (fun h=> ?_)
 ·have h:=of_decide_eq_true h;simp only[sizeAct];omega
 have h0:=of_decide_eq_false h
 refine⟨by omega,if_cond (fun h=>Lf_i (szr_bad' ?_)) (fun h=> ?_)⟩
 ·have h:=szr_neg h;simp only[sizeAct];omega
 obtain⟨e1,h1⟩:=szr_pos h
 rw[e1]
 rw[wrap_i64 (by omega) (by omega)]
 refine if_cond (fun h=>Lf_i (szr_bad' ?_)) (fun h=> ?_)
 ·have h:=of_decide_eq_true h;simp only[sizeAct];omega
 have h2:=of_decide_eq_false h
 exact Lf_i (by rw[←szr_ok' (by simp only[sizeAct];omega)];simp only[sizeAct];try omega)
def Zh250:HH:=⟨_,Zo250⟩
def Zk260:Con UU where
 α:=DAct
 md:=[.ro]
 of:=o1 (oA .lAct)
 ds:=fun x=>[dA .lAct x]
 pre:=fun a=>[sizeAct a≤4294967296]
 res:=fun a=>⟨[dA .eAct a],true,[]⟩
 law:=l1 (lA .lAct)
def Za260:Zk260.α→Nat→Option (Ann UU):=fun a=>annL []
def Zu260:=us [Zh293]
theorem Zo260:Holds EE (260,Zk260):=by
 refine holds_of EE_ok func260 Zk260 (by kernel_rfl) Zu260 (us_ok _) Za260 (fun(a:DAct) hp hb=> ?_)
 have hz0:=bd_lAct (x:=a) (hb _ m0)
 have hl_a_Name:=hz0.1
 have hl_a_Args:=hz0.2.1
 have hl_a_Undo:=hz0.2.2
 have hp0:sizeAct a≤4294967296:=hp _ m0
 clear hp hb
 apply @ve _ (sizeExprS a.Args≤(4294967296:Nat)∧Lf [DV.agg [CI a.Kind,CS a.Name,CL .eExpr a.Args,CI a.N,CS a.Undo]] [DV.agg [CI a.Kind,CS a.Name,CL .eExpr a.Args,CI a.N,CS a.Undo]]) (by kernel_rfl)
 simp only[sizeAct] at hp0
 repeat' (first|exact Lf_rfl _|(refine And.intro (by omega) ?_))
def Zh260:HH:=⟨_,Zo260⟩
def Zk272:Con UU where
 α:=DAct×DAct
 md:=[.ro,.ro]
 of:=oC (oA .eAct) (o1 (oA .eAct))
 ds:=fun x=>[dA .eAct x.1,dA .eAct x.2]
 pre:=fun _=>[]
 res:=fun(a,b)=>⟨[dO (decide (a=b))],true,[]⟩
 law:=lC (lA .eAct) (l1 (lA .eAct))
def Za272:Zk272.α→Nat→Option (Ann UU):=fun(a,b)=>annL []
def Zu272:=us [Zh301]
theorem Zo272:Holds EE (272,Zk272):=by
 refine holds_of EE_ok func272 Zk272 (by kernel_rfl) Zu272 (us_ok _) Za272 (fun x hp hb=> ?_)
 obtain⟨a,b⟩:=x
 have hz0:=bd_eAct (x:=a) (hb _ m0)
 have hl_a_Name:=hz0.1
 have hl_a_Args:=hz0.2.1
 have hl_a_Undo:=hz0.2.2
 have hz1:=bd_eAct (x:=b) (hb _ m1)
 have hl_b_Name:=hz1.1
 have hl_b_Args:=hz1.2.1
 have hl_b_Undo:=hz1.2.2
 clear hp hb
 apply @ve _ (bif a.Kind !=b.Kind then Lb false (decide (a=b)) else bif !ByteArray.toList a.Name==ByteArray.toList b.Name then Lb false (decide (a=b)) else bif !decide (a.Args=b.Args) then Lb false (decide (a=b)) else bif a.N !=b.N then Lb false (decide (a=b)) else bif !ByteArray.toList a.Undo==ByteArray.toList b.Undo then Lb false (decide (a=b)) else Lb true (decide (a=b))) (by kernel_rfl)
 obtain⟨aKind,aName,aArgs,aN,aUndo⟩:=a
 obtain⟨bKind,bName,bArgs,bN,bUndo⟩:=b
 repeat' (apply if_cond<;>intro _)
 all_goals (first|apply Lf_t|apply Lf_f)<;>simp_all
def Zh272:HH:=⟨_,Zo272⟩
def Zk179:Con UU where
 α:=(List DAct)×Int
 md:=[.ro,.ro]
 of:=oC (oL .lAct) (o1 oI)
 ds:=fun x=>[dL .lAct x.1,dI x.2]
 pre:=fun(a,left)=>[0≤left]
 res:=fun(a,left)=>⟨[dI (szr left (sizeActS a))],true,[]⟩
 law:=lC (lL .lAct) (l1 lI)
def Zi179_5(a:(List DAct))(left:Int):Int×Int×Unit→Prop:=szI sizeAct a (sizeActS a) left
def Zm179_5(a:(List DAct))(left:Int):Int×Int×Unit→Nat:=rM2 a
def Za179:Zk179.α→Nat→Option (Ann UU):=fun(a,left)=>annL [(5,annOf [.slot 1 (1,1024) (.lit (.int .i64)),.slot 5 (5,1024) (.lit (.int .i64))] (fun _=>Zi179_5 a left) (Zm179_5 a left))]
def Zu179:=us [Zh250]
theorem Zo179:Holds EE (179,Zk179):=by
 refine holds_of EE_ok func179 Zk179 (by kernel_rfl) Zu179 (us_ok _) Za179 (fun x hp hb=> ?_)
 obtain⟨a,left⟩:=x
 have hl_a:a.length≤9223372036854775807:=bdL (hb _ m0)
 have hl_left:=bdI (n:=left) (hb _ m1)
 have hp0:0≤left:=hp _ m0
 clear hp hb
 apply @ve _ (szV sizeAct zAct a (sizeActS a) left) (by kernel_rfl)
 exact szV_ok rfl hp0 hl_left hl_a
def Zh179:HH:=⟨_,Zo179⟩
def Zk194:Con UU where
 α:=(List DAct)
 md:=[.ro]
 of:=o1 (oL .lAct)
 ds:=fun x=>[dL .lAct x]
 pre:=fun a=>[sizeActS a≤4294967296]
 res:=fun a=>⟨[dL .eAct a],true,[]⟩
 law:=l1 (lL .lAct)
def Zi194_3(a:(List DAct)):List DAct×Int×Unit→Prop:=toI zAct a
def Zm194_3(a:(List DAct)):List DAct×Int×Unit→Nat:=rM2 a
def Za194:Zk194.α→Nat→Option (Ann UU):=fun a=>annL [(3,annOf [.slot 3 (3,1024) (.own .eAct true),.slot 4 (4,1024) (.lit (.int .i64))] (fun _=>Zi194_3 a) (Zm194_3 a))]
def Zu194:=us [Zh260]
theorem Zo194:Holds EE (194,Zk194):=by
 refine holds_of EE_ok func194 Zk194 (by kernel_rfl) Zu194 (us_ok _) Za194 (fun(a:(List DAct)) hp hb=> ?_)
 have hl_a:a.length≤9223372036854775807:=bdL (hb _ m0)
 have hp0:sizeActS a≤4294967296:=hp _ m0
 clear hp hb
 apply @ve _ (toV sizeAct zAct a fun y=>Lf [.one (.sl .eAct y)] [.one (.sl .eAct a)]) (by kernel_rfl)
 exact toV_ok hp0 (Lf_rfl _)
def Zh194:HH:=⟨_,Zo194⟩
def Zk216:Con UU where
 α:=(List DAct)×(List DAct)
 md:=[.ro,.ro]
 of:=oC (oL .eAct) (o1 (oL .eAct))
 ds:=fun x=>[dL .eAct x.1,dL .eAct x.2]
 pre:=fun _=>[]
 res:=fun(a,b)=>⟨[dO (decide (a=b))],true,[]⟩
 law:=lC (lL .eAct) (l1 (lL .eAct))
def Zi216_4(a:(List DAct))(b:(List DAct)):Int×Unit→Prop:=eqI a b
def Zm216_4(a:(List DAct))(b:(List DAct)):Int×Unit→Nat:=rM1 a
def Za216:Zk216.α→Nat→Option (Ann UU):=fun(a,b)=>annL [(4,annOf [.slot 5 (5,1024) (.lit (.int .i64))] (fun _=>Zi216_4 a b) (Zm216_4 a b))]
def Zu216:=us [Zh272]
theorem Zo216:Holds EE (216,Zk216):=by
 refine holds_of EE_ok func216 Zk216 (by kernel_rfl) Zu216 (us_ok _) Za216 (fun x hp hb=> ?_)
 obtain⟨a,b⟩:=x
 have hl_a:a.length≤9223372036854775807:=bdL (hb _ m0)
 have hl_b:b.length≤9223372036854775807:=bdL (hb _ m1)
 clear hp hb
 apply @ve _ (eqV zAct a b) (by kernel_rfl)
 exact eqV_ok hl_a
def Zh216:HH:=⟨_,Zo216⟩
def Zk149:Con UU where
 α:=(List DAct)×Int
 md:=[.wr,.ro]
 of:=oC (oL .eAct) (o1 oI)
 ds:=fun x=>[dL .eAct x.1,dI x.2]
 pre:=fun(a,k)=>[0≤k,k+cntActS a≤4611686018427387904]
 res:=fun(a,k)=>⟨[dI (k+cntActS a)],true,[dL .eAct (markActS a k)]⟩
 law:=lC (lL .eAct) (l1 lI)
def Zi149_2(a:(List DAct))(k:Int):List DAct×Int×Int×Unit→Prop:=fun(row,kk,i,_)=>0≤i∧i≤a.length∧row=(mkS markAct cntAct a k).take i.toNat++a.drop i.toNat∧kk=k+ctS cntAct (a.take i.toNat)
def Zm149_2(a:(List DAct))(k:Int):List DAct×Int×Int×Unit→Nat:=fun(row,kk,i,_)=>a.length-i.toNat
def Za149:Zk149.α→Nat→Option (Ann UU):=fun(a,k)=>annL [(2,annOf [.slot 0 (2000000,0) (.own .eAct true),.slot 1 (1,1024) (.lit (.int .i64)),.slot 5 (5,1024) (.lit (.int .i64))] (fun _=>Zi149_2 a k) (Zm149_2 a k))]
def Zu149:=us [Zh146,Zh220]
theorem Zo149:Holds EE (149,Zk149):=by
 refine holds_of EE_ok func149 Zk149 (by kernel_rfl) Zu149 (us_ok _) Za149 (fun x hp hb=> ?_)
 obtain⟨a,k⟩:=x
 have hl_a:a.length≤9223372036854775807:=bdL (hb _ m0)
 have hl_k:=bdI (n:=k) (hb _ m1)
 have hp0:0≤k:=hp _ m0
 have hp1:k+cntActS a≤4611686018427387904:=hp _ m1
 clear hp hb
 apply @ve _ (Zi149_2 a k (a,k,(0:Int),())∧∀(y:List DAct×Int×Int×PUnit),let x3:Nat:=y.2.2.1.toNat;let x7:Int:=IntKind.wrap IntKind.i64 (y.2.1+(1:Int));let x8:List DAct:=List.modify y.1 x3 fun(x:DAct)=>{Kind:=y.2.1,Name:=x.Name,Args:=x.Args,N:=x.N,Undo:=x.Undo:DAct};let x5:List DAct:=List.modify x8 x3 fun(x:DAct)=>{Kind:=x.Kind,Name:=markText x7,Args:=x.Args,N:=x.N,Undo:=x.Undo:DAct};let x6:Int:=IntKind.wrap IntKind.i64 (x7+(1:Int));let x2:Int:=x6+(↑(cntExprS (List.getD x5 x3 zAct).Args):Int);let x4:List DAct:=List.modify x5 x3 fun(x:DAct)=>{Kind:=x.Kind,Name:=x.Name,Args:=markExprS (List.getD x5 x3 zAct).Args x6,N:=x.N,Undo:=x.Undo:DAct};let x0:List DAct:=List.modify x4 x3 fun(x:DAct)=>{Kind:=x.Kind,Name:=x.Name,Args:=x.Args,N:=x2,Undo:=x.Undo:DAct};let x1:Int:=IntKind.wrap IntKind.i64 (x2+(1:Int));Zi149_2 a k y→bif decide (y.2.2.1<(y.1.length:Int)) then(0:Int)≤y.2.2.1∧x3<y.1.length∧x3<y.1.length∧x7≤(4611686018427387903:Int)∧(0:Int)≤y.2.2.1∧x3<x8.length∧x3<x8.length∧(0:Int)≤y.2.2.1∧x3<x5.length∧x3<x5.length∧x3<x5.length∧(0:Int)≤x6∧x2≤(4611686018427387904:Int)∧(0:Int)≤y.2.2.1∧x3<x4.length∧x3<x4.length∧x1≤(4611686018427387903:Int)∧(0:Int)≤y.2.2.1∧x3<x0.length∧x3<x0.length∧Zi149_2 a k (List.modify x0 x3 fun(x:DAct)=>{Kind:=x.Kind,Name:=x.Name,Args:=x.Args,N:=x.N,Undo:=markText x1:DAct},IntKind.wrap IntKind.i64 (x1+(1:Int)),IntKind.wrap IntKind.i64 (y.2.2.1+(1:Int)),())∧Zm149_2 a k (List.modify x0 x3 fun(x:DAct)=>{Kind:=x.Kind,Name:=x.Name,Args:=x.Args,N:=x.N,Undo:=markText x1:DAct},IntKind.wrap IntKind.i64 (x1+(1:Int)),IntKind.wrap IntKind.i64 (y.2.2.1+(1:Int)),())<Zm149_2 a k y else asD [VI y.2.1]=asD [VI (k+(↑(cntActS a):Int))]∧asD [VL .eAct y.1]=asD [VL .eAct (markActS a k)]) (by kernel_rfl)
 dsimp only
 refine⟨⟨by omega,by omega,by simp,by simp[ctS]⟩,?_⟩
 rintro⟨row,kk,i,⟨⟩⟩ ⟨h1,h2,rfl,rfl⟩
 simp only
 have hl:=mk_rl markAct cntAct a k h1 h2
 refine if_cond (fun hc=> ?_) (fun hc=> ?_)
 ·have hc:i<a.length:=by have hc:=of_decide_eq_true hc;omega
  have hct:=ctS_take cntAct a zAct h1 hc
  have hle:=ctS_take_le cntAct a (i+1).toNat
  have hg:=mk_getD _ a zAct (mk_tl markAct cntAct a k h1 h2) h1 hc
  have hM:=fun F hF=>mkS_mod markAct cntAct a zAct k (i:=i) F h1 hc hF
  have hq:(cntActS a:Int)=ctS cntAct a:=rfl
  generalize List.getD a i.toNat zAct=x at*
  generalize hkk:k+(ctS cntAct (a.take i.toNat):Int)=kk at*
  generalize List.take i.toNat (mkS markAct cntAct a k)++List.drop i.toNat a=R at*
  simp only[cntAct] at hct
  simp(disch:=first|omega|(simp only[zbf];omega)) only[zbf,wrap_i64,getD_modify,modify_modify,hg,hl]
  repeat' (first|refine And.intro (by omega) ?_|fail)
  exact⟨⟨by omega,by omega,hM _ (by first|rfl|(simp only[markAct,markBool];rw[zbp (by omega)];rfl)),by omega⟩,by simp only[Zm149_2];omega⟩
 ·have hc:a.length≤i:=by have hc:=of_decide_eq_false hc;omega
  rw[mk_done markAct cntAct a k hc,ct_done cntAct a hc]
  exact⟨rfl,rfl⟩
def Zh149:HH:=⟨_,Zo149⟩
def Zk108:Con UU where
 α:=DRule×Int
 md:=[.ro,.ro]
 of:=oC (oA .lRule) (o1 oI)
 ds:=fun x=>[dA .lRule x.1,dI x.2]
 pre:=fun(a,left)=>[0≤left]
 res:=fun(a,left)=>⟨[dI (szr left (sizeRule a))],true,[]⟩
 law:=lC (lA .lRule) (l1 lI)
def Za108:Zk108.α→Nat→Option (Ann UU):=fun(a,left)=>annL []
def Zu108:=us [Zh177,Zh178,Zh179]
theorem Zo108:Holds EE (108,Zk108):=by
 refine holds_of EE_ok func108 Zk108 (by kernel_rfl) Zu108 (us_ok _) Za108 (fun x hp hb=> ?_)
 obtain⟨a,left⟩:=x
 have hz0:=bd_lRule (x:=a) (hb _ m0)
 have hl_a_Name:=hz0.1
 have hl_a_Pats:=hz0.2.1
 have hl_a_Conds:=hz0.2.2.1
 have hl_a_Acts:=hz0.2.2.2
 have hl_left:=bdI (n:=left) (hb _ m1)
 have hp0:0≤left:=hp _ m0
 clear hp hb
 apply @ve _ (let x2:Int:=IntKind.wrap IntKind.i64 (left-(↑(ByteArray.size a.Name):Int));let x1:Int:=szr x2 (sizePatS a.Pats);let x0:Int:=szr x1 (sizeCondS a.Conds);bif decide (x2<(0:Int)) then Li (-1:Int) (szr left (sizeRule a)) else(0:Int)≤x2∧bif decide (x1<(0:Int)) then Li (-1:Int) (szr left (sizeRule a)) else(0:Int)≤x1∧bif decide (x0<(0:Int)) then Li (-1:Int) (szr left (sizeRule a)) else(0:Int)≤x0∧bif decide (szr x0 (sizeActS a.Acts)<(0:Int)) then Li (-1:Int) (szr left (sizeRule a)) else Li (szr x0 (sizeActS a.Acts)) (szr left (sizeRule a))) (by kernel_rfl)
 dsimp only
 rw[wrap_i64 (by omega) (by omega)]
 refine if_cond (fun h=>Lf_i (szr_bad' ?_)) (fun h=> ?_)
 ·have h:=of_decide_eq_true h;simp only[sizeRule];omega
 have h0:=of_decide_eq_false h
 refine⟨by omega,if_cond (fun h=>Lf_i (szr_bad' ?_)) (fun h=> ?_)⟩
 ·have h:=szr_neg h;simp only[sizeRule];omega
 obtain⟨e1,h1⟩:=szr_pos h
 rw[e1]
 refine⟨by omega,if_cond (fun h=>Lf_i (szr_bad' ?_)) (fun h=> ?_)⟩
 ·have h:=szr_neg h;simp only[sizeRule];omega
 obtain⟨e2,h2⟩:=szr_pos h
 rw[e2]
 refine⟨by omega,if_cond (fun h=>Lf_i (szr_bad' ?_)) (fun h=> ?_)⟩
 ·have h:=szr_neg h;simp only[sizeRule];omega
 obtain⟨e3,h3⟩:=szr_pos h
 rw[e3]
 exact Lf_i (by rw[←szr_ok' (by simp only[sizeRule];omega)];simp only[sizeRule];try omega)
def Zh108:HH:=⟨_,Zo108⟩
def Zk123:Con UU where
 α:=DRule
 md:=[.ro]
 of:=o1 (oA .lRule)
 ds:=fun x=>[dA .lRule x]
 pre:=fun a=>[sizeRule a≤4294967296]
 res:=fun a=>⟨[dA .eRule a],true,[]⟩
 law:=l1 (lA .lRule)
def Za123:Zk123.α→Nat→Option (Ann UU):=fun a=>annL []
def Zu123:=us [Zh192,Zh193,Zh194]
theorem Zo123:Holds EE (123,Zk123):=by
 refine holds_of EE_ok func123 Zk123 (by kernel_rfl) Zu123 (us_ok _) Za123 (fun(a:DRule) hp hb=> ?_)
 have hz0:=bd_lRule (x:=a) (hb _ m0)
 have hl_a_Name:=hz0.1
 have hl_a_Pats:=hz0.2.1
 have hl_a_Conds:=hz0.2.2.1
 have hl_a_Acts:=hz0.2.2.2
 have hp0:sizeRule a≤4294967296:=hp _ m0
 clear hp hb
 apply @ve _ (sizePatS a.Pats≤(4294967296:Nat)∧sizeCondS a.Conds≤(4294967296:Nat)∧sizeActS a.Acts≤(4294967296:Nat)∧Lf [DV.agg [CS a.Name,CI a.Sal,CL .ePat a.Pats,CL .eCond a.Conds,CL .eAct a.Acts]] [DV.agg [CS a.Name,CI a.Sal,CL .ePat a.Pats,CL .eCond a.Conds,CL .eAct a.Acts]]) (by kernel_rfl)
 simp only[sizeRule] at hp0
 repeat' (first|exact Lf_rfl _|(refine And.intro (by omega) ?_))
def Zh123:HH:=⟨_,Zo123⟩
def Zk141:Con UU where
 α:=DRule×DRule
 md:=[.ro,.ro]
 of:=oC (oA .eRule) (o1 (oA .eRule))
 ds:=fun x=>[dA .eRule x.1,dA .eRule x.2]
 pre:=fun _=>[]
 res:=fun(a,b)=>⟨[dO (decide (a=b))],true,[]⟩
 law:=lC (lA .eRule) (l1 (lA .eRule))
def Za141:Zk141.α→Nat→Option (Ann UU):=fun(a,b)=>annL []
def Zu141:=us [Zh214,Zh215,Zh216]
theorem Zo141:Holds EE (141,Zk141):=by
 refine holds_of EE_ok func141 Zk141 (by kernel_rfl) Zu141 (us_ok _) Za141 (fun x hp hb=> ?_)
 obtain⟨a,b⟩:=x
 have hz0:=bd_eRule (x:=a) (hb _ m0)
 have hl_a_Name:=hz0.1
 have hl_a_Pats:=hz0.2.1
 have hl_a_Conds:=hz0.2.2.1
 have hl_a_Acts:=hz0.2.2.2
 have hz1:=bd_eRule (x:=b) (hb _ m1)
 have hl_b_Name:=hz1.1
 have hl_b_Pats:=hz1.2.1
 have hl_b_Conds:=hz1.2.2.1
 have hl_b_Acts:=hz1.2.2.2
 clear hp hb
 apply @ve _ (bif !ByteArray.toList a.Name==ByteArray.toList b.Name then Lb false (decide (a=b)) else bif a.Sal !=b.Sal then Lb false (decide (a=b)) else bif !decide (a.Pats=b.Pats) then Lb false (decide (a=b)) else bif !decide (a.Conds=b.Conds) then Lb false (decide (a=b)) else bif !decide (a.Acts=b.Acts) then Lb false (decide (a=b)) else Lb true (decide (a=b))) (by kernel_rfl)
 obtain⟨aName,aSal,aPats,aConds,aActs⟩:=a
 obtain⟨bName,bSal,bPats,bConds,bActs⟩:=b
 repeat' (apply if_cond<;>intro _)
 all_goals (first|apply Lf_t|apply Lf_f)<;>simp_all
def Zh141:HH:=⟨_,Zo141⟩
def Zk44:Con UU where
 α:=(List DRule)×Int
 md:=[.ro,.ro]
 of:=oC (oL .lRule) (o1 oI)
 ds:=fun x=>[dL .lRule x.1,dI x.2]
 pre:=fun(a,left)=>[0≤left]
 res:=fun(a,left)=>⟨[dI (szr left (sizeRuleS a))],true,[]⟩
 law:=lC (lL .lRule) (l1 lI)
def Zi44_5(a:(List DRule))(left:Int):Int×Int×Unit→Prop:=szI sizeRule a (sizeRuleS a) left
def Zm44_5(a:(List DRule))(left:Int):Int×Int×Unit→Nat:=rM2 a
def Za44:Zk44.α→Nat→Option (Ann UU):=fun(a,left)=>annL [(5,annOf [.slot 1 (1,1024) (.lit (.int .i64)),.slot 5 (5,1024) (.lit (.int .i64))] (fun _=>Zi44_5 a left) (Zm44_5 a left))]
def Zu44:=us [Zh108]
theorem Zo44:Holds EE (44,Zk44):=by
 refine holds_of EE_ok func44 Zk44 (by kernel_rfl) Zu44 (us_ok _) Za44 (fun x hp hb=> ?_)
 obtain⟨a,left⟩:=x
 have hl_a:a.length≤9223372036854775807:=bdL (hb _ m0)
 have hl_left:=bdI (n:=left) (hb _ m1)
 have hp0:0≤left:=hp _ m0
 clear hp hb
 apply @ve _ (szV sizeRule zRule a (sizeRuleS a) left) (by kernel_rfl)
 exact szV_ok rfl hp0 hl_left hl_a
def Zh44:HH:=⟨_,Zo44⟩
def Zk52:Con UU where
 α:=(List DRule)
 md:=[.ro]
 of:=o1 (oL .lRule)
 ds:=fun x=>[dL .lRule x]
 pre:=fun a=>[sizeRuleS a≤4294967296]
 res:=fun a=>⟨[dL .eRule a],true,[]⟩
 law:=l1 (lL .lRule)
def Zi52_3(a:(List DRule)):List DRule×Int×Unit→Prop:=toI zRule a
def Zm52_3(a:(List DRule)):List DRule×Int×Unit→Nat:=rM2 a
def Za52:Zk52.α→Nat→Option (Ann UU):=fun a=>annL [(3,annOf [.slot 3 (3,1024) (.own .eRule true),.slot 4 (4,1024) (.lit (.int .i64))] (fun _=>Zi52_3 a) (Zm52_3 a))]
def Zu52:=us [Zh123]
theorem Zo52:Holds EE (52,Zk52):=by
 refine holds_of EE_ok func52 Zk52 (by kernel_rfl) Zu52 (us_ok _) Za52 (fun(a:(List DRule)) hp hb=> ?_)
 have hl_a:a.length≤9223372036854775807:=bdL (hb _ m0)
 have hp0:sizeRuleS a≤4294967296:=hp _ m0
 clear hp hb
 apply @ve _ (toV sizeRule zRule a fun y=>Lf [.one (.sl .eRule y)] [.one (.sl .eRule a)]) (by kernel_rfl)
 exact toV_ok hp0 (Lf_rfl _)
def Zh52:HH:=⟨_,Zo52⟩
def Zk62:Con UU where
 α:=(List DRule)×(List DRule)
 md:=[.ro,.ro]
 of:=oC (oL .eRule) (o1 (oL .eRule))
 ds:=fun x=>[dL .eRule x.1,dL .eRule x.2]
 pre:=fun _=>[]
 res:=fun(a,b)=>⟨[dO (decide (a=b))],true,[]⟩
 law:=lC (lL .eRule) (l1 (lL .eRule))
def Zi62_4(a:(List DRule))(b:(List DRule)):Int×Unit→Prop:=eqI a b
def Zm62_4(a:(List DRule))(b:(List DRule)):Int×Unit→Nat:=rM1 a
def Za62:Zk62.α→Nat→Option (Ann UU):=fun(a,b)=>annL [(4,annOf [.slot 5 (5,1024) (.lit (.int .i64))] (fun _=>Zi62_4 a b) (Zm62_4 a b))]
def Zu62:=us [Zh141]
theorem Zo62:Holds EE (62,Zk62):=by
 refine holds_of EE_ok func62 Zk62 (by kernel_rfl) Zu62 (us_ok _) Za62 (fun x hp hb=> ?_)
 obtain⟨a,b⟩:=x
 have hl_a:a.length≤9223372036854775807:=bdL (hb _ m0)
 have hl_b:b.length≤9223372036854775807:=bdL (hb _ m1)
 clear hp hb
 apply @ve _ (eqV zRule a b) (by kernel_rfl)
 exact eqV_ok hl_a
def Zh62:HH:=⟨_,Zo62⟩
def Zk68:Con UU where
 α:=(List DRule)×Int
 md:=[.wr,.ro]
 of:=oC (oL .eRule) (o1 oI)
 ds:=fun x=>[dL .eRule x.1,dI x.2]
 pre:=fun(a,k)=>[0≤k,k+cntRuleS a≤4611686018427387904]
 res:=fun(a,k)=>⟨[dI (k+cntRuleS a)],true,[dL .eRule (markRuleS a k)]⟩
 law:=lC (lL .eRule) (l1 lI)
def Zi68_2(a:(List DRule))(k:Int):List DRule×Int×Int×Unit→Prop:=fun(row,kk,i,_)=>0≤i∧i≤a.length∧row=(mkS markRule cntRule a k).take i.toNat++a.drop i.toNat∧kk=k+ctS cntRule (a.take i.toNat)
def Zm68_2(a:(List DRule))(k:Int):List DRule×Int×Int×Unit→Nat:=fun(row,kk,i,_)=>a.length-i.toNat
def Za68:Zk68.α→Nat→Option (Ann UU):=fun(a,k)=>annL [(2,annOf [.slot 0 (2000000,0) (.own .eRule true),.slot 1 (1,1024) (.lit (.int .i64)),.slot 5 (5,1024) (.lit (.int .i64))] (fun _=>Zi68_2 a k) (Zm68_2 a k))]
def Zu68:=us [Zh146,Zh147,Zh148,Zh149]
theorem Zo68:Holds EE (68,Zk68):=by
 refine holds_of EE_ok func68 Zk68 (by kernel_rfl) Zu68 (us_ok _) Za68 (fun x hp hb=> ?_)
 obtain⟨a,k⟩:=x
 have hl_a:a.length≤9223372036854775807:=bdL (hb _ m0)
 have hl_k:=bdI (n:=k) (hb _ m1)
 have hp0:0≤k:=hp _ m0
 have hp1:k+cntRuleS a≤4611686018427387904:=hp _ m1
 clear hp hb
 apply @ve _ (Zi68_2 a k (a,k,(0:Int),())∧∀(y:List DRule×Int×Int×PUnit),let x4:Nat:=y.2.2.1.toNat;let x7:List DRule:=List.modify y.1 x4 fun(x:DRule)=>{Name:=markText y.2.1,Sal:=x.Sal,Pats:=x.Pats,Conds:=x.Conds,Acts:=x.Acts:DRule};let x8:Int:=IntKind.wrap IntKind.i64 (y.2.1+(1:Int));let x5:List DRule:=List.modify x7 x4 fun(x:DRule)=>{Name:=x.Name,Sal:=x8,Pats:=x.Pats,Conds:=x.Conds,Acts:=x.Acts:DRule};let x6:Int:=IntKind.wrap IntKind.i64 (x8+(1:Int));let x2:List DRule:=List.modify x5 x4 fun(x:DRule)=>{Name:=x.Name,Sal:=x.Sal,Pats:=markPatS (List.getD x5 x4 zRule).Pats x6,Conds:=x.Conds,Acts:=x.Acts:DRule};let x3:Int:=x6+(↑(cntPatS (List.getD x5 x4 zRule).Pats):Int);let x0:List DRule:=List.modify x2 x4 fun(x:DRule)=>{Name:=x.Name,Sal:=x.Sal,Pats:=x.Pats,Conds:=markCondS (List.getD x2 x4 zRule).Conds x3,Acts:=x.Acts:DRule};let x1:Int:=x3+(↑(cntCondS (List.getD x2 x4 zRule).Conds):Int);let x9:Int:=x1+(↑(cntActS (List.getD x0 x4 zRule).Acts):Int);Zi68_2 a k y→bif decide (y.2.2.1<(y.1.length:Int)) then y.2.1≤(4611686018427387903:Int)∧(0:Int)≤y.2.2.1∧x4<y.1.length∧x4<y.1.length∧(0:Int)≤y.2.2.1∧x4<x7.length∧x4<x7.length∧(0:Int)≤y.2.2.1∧x4<x5.length∧x4<x5.length∧x4<x5.length∧(0:Int)≤x6∧x3≤(4611686018427387904:Int)∧(0:Int)≤y.2.2.1∧x4<x2.length∧x4<x2.length∧x4<x2.length∧(0:Int)≤x3∧x1≤(4611686018427387904:Int)∧(0:Int)≤y.2.2.1∧x4<x0.length∧x4<x0.length∧x4<x0.length∧(0:Int)≤x1∧x9≤(4611686018427387904:Int)∧Zi68_2 a k (List.modify x0 x4 fun(x:DRule)=>{Name:=x.Name,Sal:=x.Sal,Pats:=x.Pats,Conds:=x.Conds,Acts:=markActS (List.getD x0 x4 zRule).Acts x1:DRule},x9,IntKind.wrap IntKind.i64 (y.2.2.1+(1:Int)),())∧Zm68_2 a k (List.modify x0 x4 fun(x:DRule)=>{Name:=x.Name,Sal:=x.Sal,Pats:=x.Pats,Conds:=x.Conds,Acts:=markActS (List.getD x0 x4 zRule).Acts x1:DRule},x9,IntKind.wrap IntKind.i64 (y.2.2.1+(1:Int)),())<Zm68_2 a k y else asD [VI y.2.1]=asD [VI (k+(↑(cntRuleS a):Int))]∧asD [VL .eRule y.1]=asD [VL .eRule (markRuleS a k)]) (by kernel_rfl)
 dsimp only
 refine⟨⟨by omega,by omega,by simp,by simp[ctS]⟩,?_⟩
 rintro⟨row,kk,i,⟨⟩⟩ ⟨h1,h2,rfl,rfl⟩
 simp only
 have hl:=mk_rl markRule cntRule a k h1 h2
 refine if_cond (fun hc=> ?_) (fun hc=> ?_)
 ·have hc:i<a.length:=by have hc:=of_decide_eq_true hc;omega
  have hct:=ctS_take cntRule a zRule h1 hc
  have hle:=ctS_take_le cntRule a (i+1).toNat
  have hg:=mk_getD _ a zRule (mk_tl markRule cntRule a k h1 h2) h1 hc
  have hM:=fun F hF=>mkS_mod markRule cntRule a zRule k (i:=i) F h1 hc hF
  have hq:(cntRuleS a:Int)=ctS cntRule a:=rfl
  generalize List.getD a i.toNat zRule=x at*
  generalize hkk:k+(ctS cntRule (a.take i.toNat):Int)=kk at*
  generalize List.take i.toNat (mkS markRule cntRule a k)++List.drop i.toNat a=R at*
  simp only[cntRule] at hct
  simp(disch:=first|omega|(simp only[zbf];omega)) only[zbf,wrap_i64,getD_modify,modify_modify,hg,hl]
  repeat' (first|refine And.intro (by omega) ?_|fail)
  exact⟨⟨by omega,by omega,hM _ (by first|rfl|(simp only[markRule,markBool];rw[zbp (by omega)];rfl)),by omega⟩,by simp only[Zm68_2];omega⟩
 ·have hc:a.length≤i:=by have hc:=of_decide_eq_false hc;omega
  rw[mk_done markRule cntRule a k hc,ct_done cntRule a hc]
  exact⟨rfl,rfl⟩
def Zh68:HH:=⟨_,Zo68⟩
def Zk13:Con UU where
 α:=DDef×Int
 md:=[.ro,.ro]
 of:=oC (oA .lDef) (o1 oI)
 ds:=fun x=>[dA .lDef x.1,dI x.2]
 pre:=fun(a,left)=>[0≤left]
 res:=fun(a,left)=>⟨[dI (szr left (sizeDef a))],true,[]⟩
 law:=lC (lA .lDef) (l1 lI)
def Za13:Zk13.α→Nat→Option (Ann UU):=fun(a,left)=>annL []
def Zu13:=us [Zh44]
theorem Zo13:Holds EE (13,Zk13):=by
 refine holds_of EE_ok func13 Zk13 (by kernel_rfl) Zu13 (us_ok _) Za13 (fun x hp hb=> ?_)
 obtain⟨a,left⟩:=x
 have hz0:=bd_lDef (x:=a) (hb _ m0)
 have hl_a_Name:=hz0.1
 have hl_a_Rules:=hz0.2
 have hl_left:=bdI (n:=left) (hb _ m1)
 have hp0:0≤left:=hp _ m0
 clear hp hb
 apply @ve _ (let x0:Int:=IntKind.wrap IntKind.i64 (left-(↑(ByteArray.size a.Name):Int));bif decide (x0<(0:Int)) then Li (-1:Int) (szr left (sizeDef a)) else(0:Int)≤x0∧bif decide (szr x0 (sizeRuleS a.Rules)<(0:Int)) then Li (-1:Int) (szr left (sizeDef a)) else Li (szr x0 (sizeRuleS a.Rules)) (szr left (sizeDef a))) (by kernel_rfl)
 dsimp only
 rw[wrap_i64 (by omega) (by omega)]
 refine if_cond (fun h=>Lf_i (szr_bad' ?_)) (fun h=> ?_)
 ·have h:=of_decide_eq_true h;simp only[sizeDef];omega
 have h0:=of_decide_eq_false h
 refine⟨by omega,if_cond (fun h=>Lf_i (szr_bad' ?_)) (fun h=> ?_)⟩
 ·have h:=szr_neg h;simp only[sizeDef];omega
 obtain⟨e1,h1⟩:=szr_pos h
 rw[e1]
 exact Lf_i (by rw[←szr_ok' (by simp only[sizeDef];omega)];simp only[sizeDef];try omega)
def Zh13:HH:=⟨_,Zo13⟩
def Zk16:Con UU where
 α:=DDef
 md:=[.ro]
 of:=o1 (oA .lDef)
 ds:=fun x=>[dA .lDef x]
 pre:=fun a=>[sizeDef a≤4294967296]
 res:=fun a=>⟨[dA .eDef a],true,[]⟩
 law:=l1 (lA .lDef)
def Za16:Zk16.α→Nat→Option (Ann UU):=fun a=>annL []
def Zu16:=us [Zh52]
theorem Zo16:Holds EE (16,Zk16):=by
 refine holds_of EE_ok func16 Zk16 (by kernel_rfl) Zu16 (us_ok _) Za16 (fun(a:DDef) hp hb=> ?_)
 have hz0:=bd_lDef (x:=a) (hb _ m0)
 have hl_a_Name:=hz0.1
 have hl_a_Rules:=hz0.2
 have hp0:sizeDef a≤4294967296:=hp _ m0
 clear hp hb
 apply @ve _ (sizeRuleS a.Rules≤(4294967296:Nat)∧Lf [DV.agg [CS a.Name,CL .eRule a.Rules]] [DV.agg [CS a.Name,CL .eRule a.Rules]]) (by kernel_rfl)
 simp only[sizeDef] at hp0
 repeat' (first|exact Lf_rfl _|(refine And.intro (by omega) ?_))
def Zh16:HH:=⟨_,Zo16⟩
def Zk20:Con UU where
 α:=DDef×DDef
 md:=[.ro,.ro]
 of:=oC (oA .eDef) (o1 (oA .eDef))
 ds:=fun x=>[dA .eDef x.1,dA .eDef x.2]
 pre:=fun _=>[]
 res:=fun(a,b)=>⟨[dO (decide (a=b))],true,[]⟩
 law:=lC (lA .eDef) (l1 (lA .eDef))
def Za20:Zk20.α→Nat→Option (Ann UU):=fun(a,b)=>annL []
def Zu20:=us [Zh62]
theorem Zo20:Holds EE (20,Zk20):=by
 refine holds_of EE_ok func20 Zk20 (by kernel_rfl) Zu20 (us_ok _) Za20 (fun x hp hb=> ?_)
 obtain⟨a,b⟩:=x
 have hz0:=bd_eDef (x:=a) (hb _ m0)
 have hl_a_Name:=hz0.1
 have hl_a_Rules:=hz0.2
 have hz1:=bd_eDef (x:=b) (hb _ m1)
 have hl_b_Name:=hz1.1
 have hl_b_Rules:=hz1.2
 clear hp hb
 apply @ve _ (bif !ByteArray.toList a.Name==ByteArray.toList b.Name then Lb false (decide (a=b)) else bif !decide (a.Rules=b.Rules) then Lb false (decide (a=b)) else Lb true (decide (a=b))) (by kernel_rfl)
 obtain⟨aName,aRules⟩:=a
 obtain⟨bName,bRules⟩:=b
 repeat' (apply if_cond<;>intro _)
 all_goals (first|apply Lf_t|apply Lf_f)<;>simp_all
def Zh20:HH:=⟨_,Zo20⟩
def Zk22:Con UU where
 α:=DDef×Int
 md:=[.wr,.ro]
 of:=oC (oA .eDef) (o1 oI)
 ds:=fun x=>[dA .eDef x.1,dI x.2]
 pre:=fun(a,k)=>[0≤k,k+ctDef a≤4611686018427387904]
 res:=fun(a,k)=>⟨[dI (k+ctDef a)],true,[dA .eDef (mkDef a k)]⟩
 law:=lC (lA .eDef) (l1 lI)
def Za22:Zk22.α→Nat→Option (Ann UU):=fun(a,k)=>annL []
def Zu22:=us [Zh68]
theorem Zo22:Holds EE (22,Zk22):=by
 refine holds_of EE_ok func22 Zk22 (by kernel_rfl) Zu22 (us_ok _) Za22 (fun x hp hb=> ?_)
 obtain⟨a,k⟩:=x
 have hz0:=bd_eDef (x:=a) (hb _ m0)
 have hl_a_Name:=hz0.1
 have hl_a_Rules:=hz0.2
 have hl_k:=bdI (n:=k) (hb _ m1)
 have hp0:0≤k:=hp _ m0
 have hp1:k+ctDef a≤4611686018427387904:=hp _ m1
 clear hp hb
 apply @ve _ ((0:Int)≤k∧k+(↑(cntRuleS a.Rules):Int)≤(4611686018427387904:Int)∧asD [VI (k+(↑(cntRuleS a.Rules):Int))]=asD [VI (k+(↑(ctDef a):Int))]∧asD [DV.agg [CS a.Name,CL .eRule (markRuleS a.Rules k)]]=asD [DV.agg [CS ((mkDef a k).Name),CL .eRule (mkDef a k).Rules]]) (by kernel_rfl)
 simp only[ctDef] at hp1
 repeat' (first|refine And.intro (by omega) ?_|fail)
 exact⟨by simp only[ctDef,Int.natCast_add,Int.add_assoc],rfl⟩
def Zh22:HH:=⟨_,Zo22⟩
def Zk110:Con UU where
 α:=DMatch×Int
 md:=[.ro,.ro]
 of:=oC (oA .lMatch) (o1 oI)
 ds:=fun x=>[dA .lMatch x.1,dI x.2]
 pre:=fun(a,left)=>[0≤left]
 res:=fun(a,left)=>⟨[dI (szr left (sizeMatch a))],true,[]⟩
 law:=lC (lA .lMatch) (l1 lI)
def Za110:Zk110.α→Nat→Option (Ann UU):=fun(a,left)=>annL []
def Zu110:=us [Zh181,Zh182]
theorem Zo110:Holds EE (110,Zk110):=by
 refine holds_of EE_ok func110 Zk110 (by kernel_rfl) Zu110 (us_ok _) Za110 (fun x hp hb=> ?_)
 obtain⟨a,left⟩:=x
 have hz0:=bd_lMatch (x:=a) (hb _ m0)
 have hl_a_Ids:=hz0.1
 have hl_a_Binds:=hz0.2
 have hl_left:=bdI (n:=left) (hb _ m1)
 have hp0:0≤left:=hp _ m0
 clear hp hb
 apply @ve _ (let x0:Int:=szr (szr left (sizeIntS a.Ids)) (sizeBindS a.Binds);(0:Int)≤left∧bif decide (szr left (sizeIntS a.Ids)<(0:Int)) then Li (-1:Int) (szr left (sizeMatch a)) else(0:Int)≤szr left (sizeIntS a.Ids)∧bif decide (x0<(0:Int)) then Li (-1:Int) (szr left (sizeMatch a)) else Li x0 (szr left (sizeMatch a))) (by kernel_rfl)
 dsimp only
 refine⟨by omega,if_cond (fun h=>Lf_i (szr_bad' ?_)) (fun h=> ?_)⟩
 ·have h:=szr_neg h;simp only[sizeMatch];omega
 obtain⟨e0,h0⟩:=szr_pos h
 rw[e0]
 refine⟨by omega,if_cond (fun h=>Lf_i (szr_bad' ?_)) (fun h=> ?_)⟩
 ·have h:=szr_neg h;simp only[sizeMatch];omega
 obtain⟨e1,h1⟩:=szr_pos h
 rw[e1]
 exact Lf_i (by rw[←szr_ok' (by simp only[sizeMatch];omega)];simp only[sizeMatch];try omega)
def Zh110:HH:=⟨_,Zo110⟩
def Zk125:Con UU where
 α:=DMatch
 md:=[.ro]
 of:=o1 (oA .lMatch)
 ds:=fun x=>[dA .lMatch x]
 pre:=fun a=>[sizeMatch a≤4294967296]
 res:=fun a=>⟨[dA .eMatch a],true,[]⟩
 law:=l1 (lA .lMatch)
def Za125:Zk125.α→Nat→Option (Ann UU):=fun a=>annL []
def Zu125:=us [Zh196,Zh197]
theorem Zo125:Holds EE (125,Zk125):=by
 refine holds_of EE_ok func125 Zk125 (by kernel_rfl) Zu125 (us_ok _) Za125 (fun(a:DMatch) hp hb=> ?_)
 have hz0:=bd_lMatch (x:=a) (hb _ m0)
 have hl_a_Ids:=hz0.1
 have hl_a_Binds:=hz0.2
 have hp0:sizeMatch a≤4294967296:=hp _ m0
 clear hp hb
 apply @ve _ (sizeIntS a.Ids≤(4294967296:Nat)∧sizeBindS a.Binds≤(4294967296:Nat)∧Lf [DV.agg [CI a.Rule,CL .int a.Ids,CL .eBind a.Binds]] [DV.agg [CI a.Rule,CL .int a.Ids,CL .eBind a.Binds]]) (by kernel_rfl)
 simp only[sizeMatch] at hp0
 repeat' (first|exact Lf_rfl _|(refine And.intro (by omega) ?_))
def Zh125:HH:=⟨_,Zo125⟩
def Zk19:Con UU where
 α:=DMatch×DMatch
 md:=[.ro,.ro]
 of:=oC (oA .eMatch) (o1 (oA .eMatch))
 ds:=fun x=>[dA .eMatch x.1,dA .eMatch x.2]
 pre:=fun _=>[]
 res:=fun(a,b)=>⟨[dO (decide (a=b))],true,[]⟩
 law:=lC (lA .eMatch) (l1 (lA .eMatch))
def Za19:Zk19.α→Nat→Option (Ann UU):=fun(a,b)=>annL []
def Zu19:=us [Zh60,Zh61]
theorem Zo19:Holds EE (19,Zk19):=by
 refine holds_of EE_ok func19 Zk19 (by kernel_rfl) Zu19 (us_ok _) Za19 (fun x hp hb=> ?_)
 obtain⟨a,b⟩:=x
 have hz0:=bd_eMatch (x:=a) (hb _ m0)
 have hl_a_Ids:=hz0.1
 have hl_a_Binds:=hz0.2
 have hz1:=bd_eMatch (x:=b) (hb _ m1)
 have hl_b_Ids:=hz1.1
 have hl_b_Binds:=hz1.2
 clear hp hb
 apply @ve _ (bif a.Rule !=b.Rule then Lb false (decide (a=b)) else bif !decide (a.Ids=b.Ids) then Lb false (decide (a=b)) else bif !decide (a.Binds=b.Binds) then Lb false (decide (a=b)) else Lb true (decide (a=b))) (by kernel_rfl)
 obtain⟨aRule,aIds,aBinds⟩:=a
 obtain⟨bRule,bIds,bBinds⟩:=b
 repeat' (apply if_cond<;>intro _)
 all_goals (first|apply Lf_t|apply Lf_f)<;>simp_all
def Zh19:HH:=⟨_,Zo19⟩
def Zk46:Con UU where
 α:=(List DMatch)×Int
 md:=[.ro,.ro]
 of:=oC (oL .lMatch) (o1 oI)
 ds:=fun x=>[dL .lMatch x.1,dI x.2]
 pre:=fun(a,left)=>[0≤left]
 res:=fun(a,left)=>⟨[dI (szr left (sizeMatchS a))],true,[]⟩
 law:=lC (lL .lMatch) (l1 lI)
def Zi46_5(a:(List DMatch))(left:Int):Int×Int×Unit→Prop:=szI sizeMatch a (sizeMatchS a) left
def Zm46_5(a:(List DMatch))(left:Int):Int×Int×Unit→Nat:=rM2 a
def Za46:Zk46.α→Nat→Option (Ann UU):=fun(a,left)=>annL [(5,annOf [.slot 1 (1,1024) (.lit (.int .i64)),.slot 5 (5,1024) (.lit (.int .i64))] (fun _=>Zi46_5 a left) (Zm46_5 a left))]
def Zu46:=us [Zh110]
theorem Zo46:Holds EE (46,Zk46):=by
 refine holds_of EE_ok func46 Zk46 (by kernel_rfl) Zu46 (us_ok _) Za46 (fun x hp hb=> ?_)
 obtain⟨a,left⟩:=x
 have hl_a:a.length≤9223372036854775807:=bdL (hb _ m0)
 have hl_left:=bdI (n:=left) (hb _ m1)
 have hp0:0≤left:=hp _ m0
 clear hp hb
 apply @ve _ (szV sizeMatch zMatch a (sizeMatchS a) left) (by kernel_rfl)
 exact szV_ok rfl hp0 hl_left hl_a
def Zh46:HH:=⟨_,Zo46⟩
def Zk54:Con UU where
 α:=(List DMatch)
 md:=[.ro]
 of:=o1 (oL .lMatch)
 ds:=fun x=>[dL .lMatch x]
 pre:=fun a=>[sizeMatchS a≤4294967296]
 res:=fun a=>⟨[dL .eMatch a],true,[]⟩
 law:=l1 (lL .lMatch)
def Zi54_3(a:(List DMatch)):List DMatch×Int×Unit→Prop:=toI zMatch a
def Zm54_3(a:(List DMatch)):List DMatch×Int×Unit→Nat:=rM2 a
def Za54:Zk54.α→Nat→Option (Ann UU):=fun a=>annL [(3,annOf [.slot 3 (3,1024) (.own .eMatch true),.slot 4 (4,1024) (.lit (.int .i64))] (fun _=>Zi54_3 a) (Zm54_3 a))]
def Zu54:=us [Zh125]
theorem Zo54:Holds EE (54,Zk54):=by
 refine holds_of EE_ok func54 Zk54 (by kernel_rfl) Zu54 (us_ok _) Za54 (fun(a:(List DMatch)) hp hb=> ?_)
 have hl_a:a.length≤9223372036854775807:=bdL (hb _ m0)
 have hp0:sizeMatchS a≤4294967296:=hp _ m0
 clear hp hb
 apply @ve _ (toV sizeMatch zMatch a fun y=>Lf [.one (.sl .eMatch y)] [.one (.sl .eMatch a)]) (by kernel_rfl)
 exact toV_ok hp0 (Lf_rfl _)
def Zh54:HH:=⟨_,Zo54⟩
def Zk64:Con UU where
 α:=(List DMatch)×(List DMatch)
 md:=[.ro,.ro]
 of:=oC (oL .eMatch) (o1 (oL .eMatch))
 ds:=fun x=>[dL .eMatch x.1,dL .eMatch x.2]
 pre:=fun _=>[]
 res:=fun(a,b)=>⟨[dO (decide (a=b))],true,[]⟩
 law:=lC (lL .eMatch) (l1 (lL .eMatch))
def Zi64_4(a:(List DMatch))(b:(List DMatch)):Int×Unit→Prop:=eqI a b
def Zm64_4(a:(List DMatch))(b:(List DMatch)):Int×Unit→Nat:=rM1 a
def Za64:Zk64.α→Nat→Option (Ann UU):=fun(a,b)=>annL [(4,annOf [.slot 5 (5,1024) (.lit (.int .i64))] (fun _=>Zi64_4 a b) (Zm64_4 a b))]
def Zu64:=us [Zh19]
theorem Zo64:Holds EE (64,Zk64):=by
 refine holds_of EE_ok func64 Zk64 (by kernel_rfl) Zu64 (us_ok _) Za64 (fun x hp hb=> ?_)
 obtain⟨a,b⟩:=x
 have hl_a:a.length≤9223372036854775807:=bdL (hb _ m0)
 have hl_b:b.length≤9223372036854775807:=bdL (hb _ m1)
 clear hp hb
 apply @ve _ (eqV zMatch a b) (by kernel_rfl)
 exact eqV_ok hl_a
def Zh64:HH:=⟨_,Zo64⟩
def Zk70:Con UU where
 α:=(List DMatch)×Int
 md:=[.wr,.ro]
 of:=oC (oL .eMatch) (o1 oI)
 ds:=fun x=>[dL .eMatch x.1,dI x.2]
 pre:=fun(a,k)=>[0≤k,k+cntMatchS a≤4611686018427387904]
 res:=fun(a,k)=>⟨[dI (k+cntMatchS a)],true,[dL .eMatch (markMatchS a k)]⟩
 law:=lC (lL .eMatch) (l1 lI)
def Zi70_2(a:(List DMatch))(k:Int):List DMatch×Int×Int×Unit→Prop:=fun(row,kk,i,_)=>0≤i∧i≤a.length∧row=(mkS markMatch cntMatch a k).take i.toNat++a.drop i.toNat∧kk=k+ctS cntMatch (a.take i.toNat)
def Zm70_2(a:(List DMatch))(k:Int):List DMatch×Int×Int×Unit→Nat:=fun(row,kk,i,_)=>a.length-i.toNat
def Za70:Zk70.α→Nat→Option (Ann UU):=fun(a,k)=>annL [(2,annOf [.slot 0 (2000000,0) (.own .eMatch true),.slot 1 (1,1024) (.lit (.int .i64)),.slot 5 (5,1024) (.lit (.int .i64))] (fun _=>Zi70_2 a k) (Zm70_2 a k))]
def Zu70:=us [Zh74,Zh75]
theorem Zo70:Holds EE (70,Zk70):=by
 refine holds_of EE_ok func70 Zk70 (by kernel_rfl) Zu70 (us_ok _) Za70 (fun x hp hb=> ?_)
 obtain⟨a,k⟩:=x
 have hl_a:a.length≤9223372036854775807:=bdL (hb _ m0)
 have hl_k:=bdI (n:=k) (hb _ m1)
 have hp0:0≤k:=hp _ m0
 have hp1:k+cntMatchS a≤4611686018427387904:=hp _ m1
 clear hp hb
 apply @ve _ (Zi70_2 a k (a,k,(0:Int),())∧∀(y:List DMatch×Int×Int×PUnit),let x2:Nat:=y.2.2.1.toNat;let x3:Int:=IntKind.wrap IntKind.i64 (y.2.1+(1:Int));let x4:List DMatch:=List.modify y.1 x2 fun(x:DMatch)=>{Rule:=y.2.1,Ids:=x.Ids,Binds:=x.Binds:DMatch};let x0:List DMatch:=List.modify x4 x2 fun(x:DMatch)=>{Rule:=x.Rule,Ids:=markIntS (List.getD x4 x2 zMatch).Ids x3,Binds:=x.Binds:DMatch};let x1:Int:=x3+(↑(cntIntS (List.getD x4 x2 zMatch).Ids):Int);let x5:Int:=x1+(↑(cntBindS (List.getD x0 x2 zMatch).Binds):Int);Zi70_2 a k y→bif decide (y.2.2.1<(y.1.length:Int)) then(0:Int)≤y.2.2.1∧x2<y.1.length∧x2<y.1.length∧(0:Int)≤y.2.2.1∧x2<x4.length∧x2<x4.length∧x2<x4.length∧(0:Int)≤x3∧x1≤(4611686018427387904:Int)∧(0:Int)≤y.2.2.1∧x2<x0.length∧x2<x0.length∧x2<x0.length∧(0:Int)≤x1∧x5≤(4611686018427387904:Int)∧Zi70_2 a k (List.modify x0 x2 fun(x:DMatch)=>{Rule:=x.Rule,Ids:=x.Ids,Binds:=markBindS (List.getD x0 x2 zMatch).Binds x1:DMatch},x5,IntKind.wrap IntKind.i64 (y.2.2.1+(1:Int)),())∧Zm70_2 a k (List.modify x0 x2 fun(x:DMatch)=>{Rule:=x.Rule,Ids:=x.Ids,Binds:=markBindS (List.getD x0 x2 zMatch).Binds x1:DMatch},x5,IntKind.wrap IntKind.i64 (y.2.2.1+(1:Int)),())<Zm70_2 a k y else asD [VI y.2.1]=asD [VI (k+(↑(cntMatchS a):Int))]∧asD [VL .eMatch y.1]=asD [VL .eMatch (markMatchS a k)]) (by kernel_rfl)
 dsimp only
 refine⟨⟨by omega,by omega,by simp,by simp[ctS]⟩,?_⟩
 rintro⟨row,kk,i,⟨⟩⟩ ⟨h1,h2,rfl,rfl⟩
 simp only
 have hl:=mk_rl markMatch cntMatch a k h1 h2
 refine if_cond (fun hc=> ?_) (fun hc=> ?_)
 ·have hc:i<a.length:=by have hc:=of_decide_eq_true hc;omega
  have hct:=ctS_take cntMatch a zMatch h1 hc
  have hle:=ctS_take_le cntMatch a (i+1).toNat
  have hg:=mk_getD _ a zMatch (mk_tl markMatch cntMatch a k h1 h2) h1 hc
  have hM:=fun F hF=>mkS_mod markMatch cntMatch a zMatch k (i:=i) F h1 hc hF
  have hq:(cntMatchS a:Int)=ctS cntMatch a:=rfl
  generalize List.getD a i.toNat zMatch=x at*
  generalize hkk:k+(ctS cntMatch (a.take i.toNat):Int)=kk at*
  generalize List.take i.toNat (mkS markMatch cntMatch a k)++List.drop i.toNat a=R at*
  simp only[cntMatch] at hct
  simp(disch:=first|omega|(simp only[zbf];omega)) only[zbf,wrap_i64,getD_modify,modify_modify,hg,hl]
  repeat' (first|refine And.intro (by omega) ?_|fail)
  exact⟨⟨by omega,by omega,hM _ (by first|rfl|(simp only[markMatch,markBool];rw[zbp (by omega)];rfl)),by omega⟩,by simp only[Zm70_2];omega⟩
 ·have hc:a.length≤i:=by have hc:=of_decide_eq_false hc;omega
  rw[mk_done markMatch cntMatch a k hc,ct_done cntMatch a hc]
  exact⟨rfl,rfl⟩
def Zh70:HH:=⟨_,Zo70⟩
def Zk24:Con UU where
 α:=DMatch×Int
 md:=[.wr,.ro]
 of:=oC (oA .eMatch) (o1 oI)
 ds:=fun x=>[dA .eMatch x.1,dI x.2]
 pre:=fun(a,k)=>[0≤k,k+ctMatch a≤4611686018427387904]
 res:=fun(a,k)=>⟨[dI (k+ctMatch a)],true,[dA .eMatch (mkMatch a k)]⟩
 law:=lC (lA .eMatch) (l1 lI)
def Za24:Zk24.α→Nat→Option (Ann UU):=fun(a,k)=>annL []
def Zu24:=us [Zh74,Zh75]
theorem Zo24:Holds EE (24,Zk24):=by
 refine holds_of EE_ok func24 Zk24 (by kernel_rfl) Zu24 (us_ok _) Za24 (fun x hp hb=> ?_)
 obtain⟨a,k⟩:=x
 have hz0:=bd_eMatch (x:=a) (hb _ m0)
 have hl_a_Ids:=hz0.1
 have hl_a_Binds:=hz0.2
 have hl_k:=bdI (n:=k) (hb _ m1)
 have hp0:0≤k:=hp _ m0
 have hp1:k+ctMatch a≤4611686018427387904:=hp _ m1
 clear hp hb
 apply @ve _ (let x0:Int:=k+(↑(cntIntS a.Ids):Int);(0:Int)≤k∧x0≤(4611686018427387904:Int)∧(0:Int)≤x0∧x0+(↑(cntBindS a.Binds):Int)≤(4611686018427387904:Int)∧asD [VI (x0+(↑(cntBindS a.Binds):Int))]=asD [VI (k+(↑(ctMatch a):Int))]∧asD [DV.agg [CI a.Rule,CL .int (markIntS a.Ids k),CL .eBind (markBindS a.Binds x0)]]=asD [DV.agg [CI ((mkMatch a k).Rule),CL .int (mkMatch a k).Ids,CL .eBind (mkMatch a k).Binds]]) (by kernel_rfl)
 dsimp only
 simp only[ctMatch] at hp1
 repeat' (first|refine And.intro (by omega) ?_|fail)
 exact⟨by simp only[ctMatch,Int.natCast_add,Int.add_assoc],rfl⟩
def Zh24:HH:=⟨_,Zo24⟩
def Zk25:Con UU where
 α:=DMatch×Int
 md:=[.ro,.ro]
 of:=oC (oA .eMatch) (o1 oI)
 ds:=fun x=>[dA .eMatch x.1,dI x.2]
 pre:=fun(a,k)=>[0≤k,k+ctMatch a≤4611686018427387904]
 res:=fun(a,k)=>⟨[dI (if mkMatch a k=a then k+ctMatch a else-1)],true,[]⟩
 law:=lC (lA .eMatch) (l1 lI)
def Za25:Zk25.α→Nat→Option (Ann UU):=fun(a,k)=>annL []
def Zu25:=us [Zh76,Zh77]
theorem Zo25:Holds EE (25,Zk25):=by
 refine holds_of EE_ok func25 Zk25 (by kernel_rfl) Zu25 (us_ok _) Za25 (fun x hp hb=> ?_)
 obtain⟨a,k⟩:=x
 have hz0:=bd_eMatch (x:=a) (hb _ m0)
 have hl_a_Ids:=hz0.1
 have hl_a_Binds:=hz0.2
 have hl_k:=bdI (n:=k) (hb _ m1)
 have hp0:0≤k:=hp _ m0
 have hp1:k+ctMatch a≤4611686018427387904:=hp _ m1
 clear hp hb
 apply @ve _ (let x2:Int:=(-1:Int);let x1:Int:=if markIntS a.Ids k=a.Ids then k+(↑(cntIntS a.Ids):Int) else x2;let x0:Int:=if markBindS a.Binds x1=a.Binds then x1+(↑(cntBindS a.Binds):Int) else x2;(0:Int)≤k∧k+(↑(cntIntS a.Ids):Int)≤(4611686018427387904:Int)∧bif decide (x1<(0:Int)) then Li x2 (if mkMatch a k=a then k+(↑(ctMatch a):Int) else x2) else(0:Int)≤x1∧x1+(↑(cntBindS a.Binds):Int)≤(4611686018427387904:Int)∧bif decide (x0<(0:Int)) then Li x2 (if mkMatch a k=a then k+(↑(ctMatch a):Int) else x2) else Li x0 (if mkMatch a k=a then k+(↑(ctMatch a):Int) else x2)) (by kernel_rfl)
 dsimp only
 simp only[ctMatch] at hp1
 repeat' (first|refine And.intro (by omega) ?_|fail)
 by_cases hm1:markIntS a.Ids (k)=a.Ids
 rotate_left
 ·simp only[if_neg hm1];rw[cond_yes (by decide)]
  exact Lf_no (fun hh=>hm1 (congrArg (fun t:DMatch=>t.Ids) hh))
 simp only[if_pos hm1]
 refine if_cond (fun h=>absurd (of_decide_eq_true h) (by omega)) (fun h=> ?_)
 repeat' (first|refine And.intro (by omega) ?_|fail)
 by_cases hm2:markBindS a.Binds (k+cntIntS a.Ids)=a.Binds
 rotate_left
 ·simp only[if_neg hm2];rw[cond_yes (by decide)]
  exact Lf_no (fun hh=>hm2 (congrArg (fun t:DMatch=>t.Binds) hh))
 simp only[if_pos hm2]
 refine if_cond (fun h=>absurd (of_decide_eq_true h) (by omega)) (fun h=> ?_)
 exact Lf_yes (by simp only[mkMatch,hm1,hm2]) (by simp only[ctMatch];try omega)
def Zh25:HH:=⟨_,Zo25⟩
def Zk14:Con UU where
 α:=DInst×Int
 md:=[.ro,.ro]
 of:=oC (oA .lInst) (o1 oI)
 ds:=fun x=>[dA .lInst x.1,dI x.2]
 pre:=fun(a,left)=>[0≤left]
 res:=fun(a,left)=>⟨[dI (szr left (sizeInst a))],true,[]⟩
 law:=lC (lA .lInst) (l1 lI)
def Za14:Zk14.α→Nat→Option (Ann UU):=fun(a,left)=>annL []
def Zu14:=us [Zh45,Zh46,Zh47,Zh48,Zh49]
theorem Zo14:Holds EE (14,Zk14):=by
 refine holds_of EE_ok func14 Zk14 (by kernel_rfl) Zu14 (us_ok _) Za14 (fun x hp hb=> ?_)
 obtain⟨a,left⟩:=x
 have hz0:=bd_lInst (x:=a) (hb _ m0)
 have hl_a_S_Items:=hz0.1
 have hl_a_Fired:=hz0.2.1
 have hl_a_Tasks:=hz0.2.2.1
 have hl_a_Timers:=hz0.2.2.2.1
 have hl_a_Undos:=hz0.2.2.2.2
 have hl_left:=bdI (n:=left) (hb _ m1)
 have hp0:0≤left:=hp _ m0
 clear hp hb
 apply @ve _ (let x2:Int:=szr (szr left (sizeStore a.S)) (sizeMatchS a.Fired);let x1:Int:=szr x2 (sizeTaskS a.Tasks);let x0:Int:=szr x1 (sizeTimerS a.Timers);(0:Int)≤left∧bif decide (szr left (sizeStore a.S)<(0:Int)) then Li (-1:Int) (szr left (sizeInst a)) else(0:Int)≤szr left (sizeStore a.S)∧bif decide (x2<(0:Int)) then Li (-1:Int) (szr left (sizeInst a)) else(0:Int)≤x2∧bif decide (x1<(0:Int)) then Li (-1:Int) (szr left (sizeInst a)) else(0:Int)≤x1∧bif decide (x0<(0:Int)) then Li (-1:Int) (szr left (sizeInst a)) else(0:Int)≤x0∧bif decide (szr x0 (sizeUndoS a.Undos)<(0:Int)) then Li (-1:Int) (szr left (sizeInst a)) else Li (szr x0 (sizeUndoS a.Undos)) (szr left (sizeInst a))) (by kernel_rfl)
 dsimp only
 refine⟨by omega,if_cond (fun h=>Lf_i (szr_bad' ?_)) (fun h=> ?_)⟩
 ·have h:=szr_neg h;simp only[sizeInst];omega
 obtain⟨e0,h0⟩:=szr_pos h
 rw[e0]
 refine⟨by omega,if_cond (fun h=>Lf_i (szr_bad' ?_)) (fun h=> ?_)⟩
 ·have h:=szr_neg h;simp only[sizeInst];omega
 obtain⟨e1,h1⟩:=szr_pos h
 rw[e1]
 refine⟨by omega,if_cond (fun h=>Lf_i (szr_bad' ?_)) (fun h=> ?_)⟩
 ·have h:=szr_neg h;simp only[sizeInst];omega
 obtain⟨e2,h2⟩:=szr_pos h
 rw[e2]
 refine⟨by omega,if_cond (fun h=>Lf_i (szr_bad' ?_)) (fun h=> ?_)⟩
 ·have h:=szr_neg h;simp only[sizeInst];omega
 obtain⟨e3,h3⟩:=szr_pos h
 rw[e3]
 refine⟨by omega,if_cond (fun h=>Lf_i (szr_bad' ?_)) (fun h=> ?_)⟩
 ·have h:=szr_neg h;simp only[sizeInst];omega
 obtain⟨e4,h4⟩:=szr_pos h
 rw[e4]
 exact Lf_i (by rw[←szr_ok' (by simp only[sizeInst];omega)];simp only[sizeInst];try omega)
def Zh14:HH:=⟨_,Zo14⟩
def Zk17:Con UU where
 α:=DInst
 md:=[.ro]
 of:=o1 (oA .lInst)
 ds:=fun x=>[dA .lInst x]
 pre:=fun a=>[sizeInst a≤4294967296]
 res:=fun a=>⟨[dA .eInst a],true,[]⟩
 law:=l1 (lA .lInst)
def Za17:Zk17.α→Nat→Option (Ann UU):=fun a=>annL []
def Zu17:=us [Zh53,Zh54,Zh55,Zh56,Zh57]
theorem Zo17:Holds EE (17,Zk17):=by
 refine holds_of EE_ok func17 Zk17 (by kernel_rfl) Zu17 (us_ok _) Za17 (fun(a:DInst) hp hb=> ?_)
 have hz0:=bd_lInst (x:=a) (hb _ m0)
 have hl_a_S_Items:=hz0.1
 have hl_a_Fired:=hz0.2.1
 have hl_a_Tasks:=hz0.2.2.1
 have hl_a_Timers:=hz0.2.2.2.1
 have hl_a_Undos:=hz0.2.2.2.2
 have hp0:sizeInst a≤4294967296:=hp _ m0
 clear hp hb
 apply @ve _ (sizeStore a.S≤(4294967296:Nat)∧sizeMatchS a.Fired≤(4294967296:Nat)∧sizeTaskS a.Tasks≤(4294967296:Nat)∧sizeTimerS a.Timers≤(4294967296:Nat)∧sizeUndoS a.Undos≤(4294967296:Nat)∧Lf [DV.agg (enc_eInst a)] [DV.agg (enc_eInst a)]) (by kernel_rfl)
 simp only[sizeInst] at hp0
 repeat' (first|exact Lf_rfl _|(refine And.intro (by omega) ?_))
def Zh17:HH:=⟨_,Zo17⟩
def Zk21:Con UU where
 α:=DInst×DInst
 md:=[.ro,.ro]
 of:=oC (oA .eInst) (o1 (oA .eInst))
 ds:=fun x=>[dA .eInst x.1,dA .eInst x.2]
 pre:=fun _=>[]
 res:=fun(a,b)=>⟨[dO (decide (a=b))],true,[]⟩
 law:=lC (lA .eInst) (l1 (lA .eInst))
def Za21:Zk21.α→Nat→Option (Ann UU):=fun(a,b)=>annL []
def Zu21:=us [Zh63,Zh64,Zh65,Zh66,Zh67]
theorem Zo21:Holds EE (21,Zk21):=by
 refine holds_of EE_ok func21 Zk21 (by kernel_rfl) Zu21 (us_ok _) Za21 (fun x hp hb=> ?_)
 obtain⟨a,b⟩:=x
 have hz0:=bd_eInst (x:=a) (hb _ m0)
 have hl_a_S_Items:=hz0.1
 have hl_a_Fired:=hz0.2.1
 have hl_a_Tasks:=hz0.2.2.1
 have hl_a_Timers:=hz0.2.2.2.1
 have hl_a_Undos:=hz0.2.2.2.2
 have hz1:=bd_eInst (x:=b) (hb _ m1)
 have hl_b_S_Items:=hz1.1
 have hl_b_Fired:=hz1.2.1
 have hl_b_Tasks:=hz1.2.2.1
 have hl_b_Timers:=hz1.2.2.2.1
 have hl_b_Undos:=hz1.2.2.2.2
 clear hp hb
 apply @ve _ (bif !decide (a.S=b.S) then Lb false (decide (a=b)) else bif !decide (a.Fired=b.Fired) then Lb false (decide (a=b)) else bif !decide (a.Tasks=b.Tasks) then Lb false (decide (a=b)) else bif !decide (a.Timers=b.Timers) then Lb false (decide (a=b)) else bif !decide (a.Undos=b.Undos) then Lb false (decide (a=b)) else bif a.State !=b.State then Lb false (decide (a=b)) else bif a.Now !=b.Now then Lb false (decide (a=b)) else Lb true (decide (a=b))) (by kernel_rfl)
 obtain⟨aS,aFired,aTasks,aTimers,aUndos,aState,aNow⟩:=a
 obtain⟨bS,bFired,bTasks,bTimers,bUndos,bState,bNow⟩:=b
 repeat' (apply if_cond<;>intro _)
 all_goals (first|apply Lf_t|apply Lf_f)<;>simp_all
def Zh21:HH:=⟨_,Zo21⟩
end
end AM
