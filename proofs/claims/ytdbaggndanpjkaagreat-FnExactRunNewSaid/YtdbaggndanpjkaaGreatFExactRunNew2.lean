/- Functions of the program with their contracts: put together by gen/link.py for FnExactRunNew. -/
import Derived.Test.YtdbaggndanpjkaaGreatAmLib
import Derived.Test.YtdbaggndanpjkaaGreatFExactRunNew
namespace AM
open Go
set_option linter.unusedVariables false
set_option linter.unusedSimpArgs false
set_option maxRecDepth 100000
noncomputable section
theorem usedN_at(l:List DAct){i:Int}(h0:0≤i)(h:i<l.length):usedN (l.take i.toNat)+2*(List.getD l i.toNat zAct).Args.length≤usedN l:=by
 have h1:usedN (l.take (i+1).toNat)≤usedN l:=by
  have h:=congrArg (fun q=>(q.map fun a:DAct=>2*a.Args.length).sum) (List.take_append_drop (i+1).toNat l)
  simp only[List.map_append,List.sum_append] at h
  simp only[usedN];omega
 rw[←take_step l zAct h0 h] at h1
 simp only[usedN,List.map_append,List.sum_append,List.map_cons,List.map_nil,List.sum_cons,List.sum_nil] at h1⊢
 omega
def names(t:ByteArray)(a:DArg):Prop:=a.K=1∧t=a.S
theorem used2_mem{l:List ByteArray}{a b:DArg}{t:ByteArray}:t∈addVars l [a,b]↔t∈l∨names t a∨names t b:=by
 rw[addVars_mem];simp[names]
theorem usedE_mem{t:ByteArray}:∀{es:List DExpr}{l:List ByteArray},t∈es.foldl usedE l↔t∈l∨∃e∈es,names t e.L∨names t e.R
 |[],l=>by simp
 |e::es,l=>by
  show t∈es.foldl usedE (usedE l e)↔_
  rw[usedE_mem,usedE,used2_mem]
  simp only[List.mem_cons,exists_eq_or_imp,or_assoc]
theorem usedCs_mem{t:ByteArray}:∀{cs:List DCond}{l:List ByteArray},t∈cs.foldl usedC l↔t∈l∨∃c∈cs,names t c.L∨names t c.R
 |[],l=>by simp
 |c::cs,l=>by
  show t∈cs.foldl usedC (usedC l c)↔_
  rw[usedCs_mem,usedC,used2_mem]
  simp only[List.mem_cons,exists_eq_or_imp,or_assoc]
theorem usedAs_mem{t:ByteArray}:∀{xs:List DAct}{l:List ByteArray},t∈xs.foldl usedA l↔t∈l∨∃a∈xs,∃e∈a.Args,names t e.L∨names t e.R
 |[],l=>by simp
 |a::xs,l=>by
  show t∈xs.foldl usedA (usedA l a)↔_
  rw[usedAs_mem,usedA,usedE_mem]
  simp only[List.mem_cons,exists_eq_or_imp,or_assoc]
theorem knownIn_iff{vars:List ByteArray}{a:DArg}:knownIn vars a=true↔∀t,names t a→hasS vars t=true:=by
 simp only[knownIn,Bool.or_eq_true,Bool.not_eq_true',decide_eq_false_iff_not,names]
 constructor
 ·rintro(h|h) t ⟨h1,rfl⟩
  ·exact absurd h1 h
  ·exact h
 ·intro h
  by_cases h1:a.K=1
  ·exact .inr (h a.S ⟨h1,rfl⟩)
  ·exact .inl h1
theorem used_all(r:DRule)(vars:List ByteArray):(usedV r).all (hasS vars)=(r.Conds.all (fun c=>knownIn vars c.L&&knownIn vars c.R)&&r.Acts.all fun a=>a.Args.all (exprIn vars)):=by
 rw[Bool.eq_iff_iff]
 simp only[Bool.and_eq_true,List.all_eq_true,exprIn,knownIn_iff,usedV]
 constructor
 ·intro h
  refine⟨fun c hc=>⟨fun t ht=>h t ?_,fun t ht=>h t ?_⟩,fun a ha e he=>⟨fun t ht=>h t ?_,fun t ht=>h t ?_⟩⟩
  ·rw[usedAs_mem,usedCs_mem];exact .inl (.inr ⟨c,hc,.inl ht⟩)
  ·rw[usedAs_mem,usedCs_mem];exact .inl (.inr ⟨c,hc,.inr ht⟩)
  ·rw[usedAs_mem];exact .inr ⟨a,ha,e,he,.inl ht⟩
  ·rw[usedAs_mem];exact .inr ⟨a,ha,e,he,.inr ht⟩
 ·rintro⟨h1,h2⟩ t ht
  rw[usedAs_mem,usedCs_mem] at ht
  rcases ht with(ht|⟨c,hc,ht|ht⟩)|⟨a,ha,e,he,ht|ht⟩
  ·cases ht
  ·exact(h1 c hc).1 t ht
  ·exact(h1 c hc).2 t ht
  ·exact(h2 a ha e he).1 t ht
  ·exact(h2 a ha e he).2 t ht
def ruleOkI(r:DRule):Bool:=nameOk r.Name&&decide (-100≤r.Sal∧r.Sal≤100)&&patsOk r.Pats&&decide (r.Conds.length≤6)&&decide (1≤r.Acts.length∧r.Acts.length≤6)&&r.Conds.all kondOk&&r.Acts.all (fun a=>actOk a&&dropIn (posN r.Pats) a)&&(usedV r).all (hasS (posVars r.Pats))
theorem all_and{α:Type}(p q:α→Bool)(l:List α):l.all (fun x=>p x&&q x)=(l.all p&&l.all q):=by
 induction l with
 |nil=>rfl
 |cons x l ih=>simp only[List.all_cons,ih];cases p x<;>cases q x<;>simp
theorem ruleOkI_eq(r:DRule):ruleOkI r=ruleOk r:=by
 have e1:(usedV r).all (hasS (posVars r.Pats))=(usedV r).all (hasS (posVarsS r.Pats)):=by
  have:hasS (posVars r.Pats)=hasS (posVarsS r.Pats):=funext fun t=>has_same _ _
  rw[this]
 have e2:r.Conds.all (kondIn (posVarsS r.Pats))=(r.Conds.all kondOk&&r.Conds.all (fun c=>knownIn (posVarsS r.Pats) c.L&&knownIn (posVarsS r.Pats) c.R)):=by
  rw[←all_and]
  congr 1;funext c;simp only[kondIn,Bool.and_assoc]
 have e3:r.Acts.all (actIn (posVarsS r.Pats) (posN r.Pats))=(r.Acts.all (fun a=>actOk a&&dropIn (posN r.Pats) a)&&r.Acts.all (fun a=>a.Args.all (exprIn (posVarsS r.Pats)))):=by
  rw[←all_and];rfl
 simp only[ruleOkI,ruleOk,kondsIn,actsIn,e1,e2,e3,used_all]
 rw[Bool.eq_iff_iff]
 simp only[Bool.and_eq_true]
 constructor
 ·rintro⟨⟨⟨⟨⟨⟨⟨a1,a2⟩,a3⟩,a4⟩,a5⟩,a6⟩,a7⟩,a8,a9⟩
  exact⟨⟨⟨⟨a1,a2⟩,a3⟩,a4,a6,a8⟩,a5,a7,a9⟩
 ·rintro⟨⟨⟨⟨a1,a2⟩,a3⟩,a4,a6,a8⟩,a5,a7,a9⟩
  exact⟨⟨⟨⟨⟨⟨⟨a1,a2⟩,a3⟩,a4⟩,a5⟩,a6⟩,a7⟩,a8,a9⟩
theorem if_dec{p:Prop}[Decidable p]{P Q:Prop}(h1:p→P)(h2:¬p→Q):bif decide p then P else Q:=if_cond (fun h=>h1 (of_decide_eq_true h)) (fun h=>h2 (of_decide_eq_false h))
theorem if_not{b:Bool}{P Q:Prop}(h1:b=false→P)(h2:b=true→Q):bif !b then P else Q:=if_cond (fun h=>h1 (by simpa using h)) (fun h=>h2 (by simpa using h))
theorem if_num{a b:Int}{P Q:Prop}(h1:a=b→P)(h2:¬a=b→Q):bif a==b then P else Q:=if_cond (fun h=>h1 (eq_of_beq h)) (fun h=>h2 (fun e=>by rw[e] at h;simp at h))
theorem sumC{α:Type}(f:α→Nat)(B:Nat):∀(l:List α),(∀x∈l,f x≤B)→(l.map f).sum≤l.length*B
 |[],_=>by simp
 |x::l,h=>by
  have h1:=sumC f B l (fun y hy=>h y (List.mem_cons_of_mem _ hy))
  have h2:=h x List.mem_cons_self
  simp only[List.map_cons,List.sum_cons,List.length_cons,Nat.add_mul];omega
theorem patsOk_args{ps:List DPat}(h:patsOk ps=true):patArgs ps≤30:=by
 simp only[patsOk,Bool.and_eq_true,decide_eq_true_eq,allI_all] at h
 have:=sumC (fun p:DPat=>p.Args.length) 5 ps (fun p hp=>by
  obtain⟨i,hi,rfl⟩:=List.getElem_of_mem hp
  have hk:=h.2 i hi
  simp only[patAt,Bool.and_eq_true,List.getD_eq_getElem?_getD,List.getElem?_eq_getElem hi,Option.getD_some] at hk
  have hk:=hk.1.1.1
  simp only[patOk,Bool.and_eq_true,decide_eq_true_eq] at hk
  exact hk.1.2)
 simp only[patArgs];omega
theorem actOk_args{a:DAct}(h:actOk a=true):a.Args.length≤5:=by
 simp only[actOk,bareA,exprsOk] at h
 grind
theorem actsOk_used{l:List DAct}(hl:l.length≤6)(h:∀a∈l,actOk a=true):usedN l≤60:=by
 have:=sumC (fun a:DAct=>2*a.Args.length) 10 l (fun a ha=>by have:=actOk_args (h a ha);omega)
 simp only[usedN];omega
def Zk145:Con UU where
 α:=DArg×(List ByteArray)
 md:=[.ro,.ro]
 of:=oC (oA .eArg) (o1 (oL .str))
 ds:=fun x=>[dA .eArg x.1,dL .str x.2]
 pre:=fun _=>[]
 res:=fun(a,vars)=>⟨[.one (.lit (.bool (knownIn vars a)))],true,[]⟩
 law:=lC (lA .eArg) (l1 (lL .str))
def Za145:Zk145.α→Nat→Option (Ann UU):=fun(a,vars)=>annL []
def Zu145:=us [Zh142]
theorem Zv145(a:DArg)(vars:(List ByteArray)):goal EE Zu145 Go.Proofs.Tryz.f145 Zk145 Za145 (a,vars)=(bif a.K !=(1:Int) then Lb true (knownIn vars a) else Lb (hasS vars a.S) (knownIn vars a)):=by kernel_rfl
theorem Zo145:Holds EE (145,Zk145):=by
 refine holds_of EE_ok Go.Proofs.Tryz.func145 Zk145 (by kernel_rfl) Zu145 (us_ok _) Za145 (fun x hp hb=> ?_)
 obtain⟨a,vars⟩:=x
 have hz0:=bd_eArg (x:=a) (hb _ m0)
 have hl_a_S:=hz0.1
 have hl_a_V_S:=hz0.2
 have hl_vars:vars.length≤9223372036854775807:=bdL (hb _ m1)
 clear hp hb
 rw[Zv145 a vars]
 simp only[knownIn]
 refine if_cond (fun h=>Lf_b ?_) (fun h=>Lf_b ?_)<;>grind
def Zh145:HH:=⟨_,Zo145⟩
def Zk106:Con UU where
 α:=(List DCond)×(List ByteArray)
 md:=[.ro,.ro]
 of:=oC (oL .eCond) (o1 (oL .str))
 ds:=fun x=>[dL .eCond x.1,dL .str x.2]
 pre:=fun _=>[]
 res:=fun(l,vars)=>⟨[.one (.lit (.bool (kondsIn l vars)))],true,[]⟩
 law:=lC (lL .eCond) (l1 (lL .str))
def Zi106_2(l:(List DCond))(vars:(List ByteArray)):Int×Unit→Prop:=fun(i,_)=>0≤i∧i≤l.length∧(l.drop i.toNat).all (kondIn vars)=l.all (kondIn vars)
def Zm106_2(l:(List DCond))(vars:(List ByteArray)):Int×Unit→Nat:=fun(i,_)=>l.length-i.toNat
def Za106:Zk106.α→Nat→Option (Ann UU):=fun(l,vars)=>annL [(2,annOf [.slot 5 (5,1024) (.lit (.int .i64))] (fun _=>Zi106_2 l vars) (Zm106_2 l vars))]
def Zu106:=us [Zh144,Zh145]
theorem Zv106(l:(List DCond))(vars:(List ByteArray)):goal EE Zu106 Go.Proofs.Tryz.f106 Zk106 Za106 (l,vars)=(let x0:Int:=(l.length:Int);
Zi106_2 l vars ((0:Int),PUnit.unit)∧
 ∀(y:Int×PUnit),
  let x1:DCond:=List.getD l (Int.toNat y.1) zCond;
  Zi106_2 l vars y→bif decide (y.1<x0) then(0:Int)≤y.1∧Int.toNat y.1<List.length l∧bif !kondOk x1 then Lf [DV.one (Cell.lit (Value.bool false))] [DV.one (Cell.lit (Value.bool (kondsIn l vars)))] else(0:Int)≤y.1∧Int.toNat y.1<List.length l∧bif !knownIn vars x1.L then Lf [DV.one (Cell.lit (Value.bool false))] [DV.one (Cell.lit (Value.bool (kondsIn l vars)))] else(0:Int)≤y.1∧Int.toNat y.1<List.length l∧bif !knownIn vars x1.R then Lf [DV.one (Cell.lit (Value.bool false))] [DV.one (Cell.lit (Value.bool (kondsIn l vars)))] else Zi106_2 l vars (IntKind.wrap IntKind.i64 (y.1+(1:Int)),PUnit.unit)∧Zm106_2 l vars (IntKind.wrap IntKind.i64 (y.1+(1:Int)),PUnit.unit)<Zm106_2 l vars y else Lf [DV.one (Cell.lit (Value.bool (decide (x0≤(6:Int)))))] [DV.one (Cell.lit (Value.bool (kondsIn l vars)))]):=by kernel_rfl
theorem Zo106:Holds EE (106,Zk106):=by
 refine holds_of EE_ok Go.Proofs.Tryz.func106 Zk106 (by kernel_rfl) Zu106 (us_ok _) Za106 (fun x hp hb=> ?_)
 obtain⟨l,vars⟩:=x
 have hl_l:l.length≤9223372036854775807:=bdL (hb _ m0)
 have hl_vars:vars.length≤9223372036854775807:=bdL (hb _ m1)
 clear hp hb
 rw[Zv106 l vars]
 dsimp only
 refine⟨⟨by omega,by omega,rfl⟩,?_⟩
 rintro⟨i,⟨⟩⟩ ⟨h1,h2,hR⟩
 simp only
 refine if_dec (fun hc=> ?_) (fun hc=> ?_)
 ·rw[all_step _ _ zCond h1 (by omega)] at hR
  rw[wrap_i64 (by omega) (by omega)]
  have hN:kondIn vars (List.getD l i.toNat zCond)=false→kondsIn l vars=false:=fun h=>by simp only[kondsIn,←hR,h];simp
  refine⟨by omega,by omega,if_not (fun h=>Lf_ff (hN ?_)) (fun h=>⟨by omega,by omega,if_not (fun g=>Lf_ff (hN ?_)) (fun g=>⟨by omega,by omega,if_not (fun k=>Lf_ff (hN ?_)) (fun k=>⟨⟨by omega,by omega,?_⟩,by simp only[Zm106_2];omega⟩)⟩)⟩)⟩
  ·simp only[kondIn,h,Bool.false_and]
  ·simp only[kondIn,g,Bool.and_false,Bool.false_and]
  ·simp only[kondIn,k,Bool.and_false]
  ·rw[←hR];simp only[kondIn,h,g,k,Bool.true_and]
 ·rw[drop_end _ (by omega)] at hR
  refine Lf_b ?_
  simp only[kondsIn,←hR];simp;omega
def Zh106:HH:=⟨_,Zo106⟩
def Zk107:Con UU where
 α:=(List DAct)×(List ByteArray)×Int
 md:=[.ro,.ro,.ro]
 of:=oC (oL .eAct) (oC (oL .str) (o1 oI))
 ds:=fun x=>[dL .eAct x.1,dL .str x.2.1,dI x.2.2]
 pre:=fun _=>[]
 res:=fun(l,vars,pos)=>⟨[.one (.lit (.bool (actsIn l vars pos)))],true,[]⟩
 law:=lC (lL .eAct) (lC (lL .str) (l1 lI))
def Zi107_2(l:(List DAct))(vars:(List ByteArray))(pos:Int):Int×Unit→Prop:=fun(i,_)=>0≤i∧i≤l.length∧(l.drop i.toNat).all (actIn vars pos)=l.all (actIn vars pos)
def Zm107_2(l:(List DAct))(vars:(List ByteArray))(pos:Int):Int×Unit→Nat:=fun(i,_)=>l.length-i.toNat
def Zi107_7(l:(List DAct))(vars:(List ByteArray))(pos:Int):Int×Int×Unit→Int×Int×Unit→Prop:=fun(i0,k0,_) (i,k,_)=>i=i0∧0≤k∧k≤(List.getD l i.toNat zAct).Args.length∧((List.getD l i.toNat zAct).Args.drop k.toNat).all (exprIn vars)=(List.getD l i.toNat zAct).Args.all (exprIn vars)
def Zm107_7(l:(List DAct))(vars:(List ByteArray))(pos:Int):Int×Int×Unit→Nat:=fun(i,k,_)=>(List.getD l i.toNat zAct).Args.length-k.toNat
def Za107:Zk107.α→Nat→Option (Ann UU):=fun(l,vars,pos)=>annL [(2,annOf [.slot 7 (7,1024) (.lit (.int .i64))] (fun _=>Zi107_2 l vars pos) (Zm107_2 l vars pos)),(7,annOf [.slot 7 (7,1024) (.lit (.int .i64)),.slot 8 (8,1024) (.lit (.int .i64))] (Zi107_7 l vars pos) (Zm107_7 l vars pos))]
def Zu107:=us [Zh146,Zh145,Zh30]
theorem Zv107(l:(List DAct))(vars:(List ByteArray))(pos:Int):goal EE Zu107 Go.Proofs.Tryz.f107 Zk107 Za107 (l,vars,pos)=(let x0:Int:=(l.length:Int);
Zi107_2 l vars pos ((0:Int),PUnit.unit)∧
 ∀(y:Int×PUnit),
  let x1:DAct:=List.getD l (Int.toNat y.1) zAct;
  Zi107_2 l vars pos y→
   bif decide (y.1<x0) then
    (0:Int)≤y.1∧
     Int.toNat y.1<List.length l∧
      bif !actOk x1 then Lf [DV.one (Cell.lit (Value.bool false))] [DV.one (Cell.lit (Value.bool (actsIn l vars pos)))]
      else
       (0:Int)≤y.1∧
        Int.toNat y.1<List.length l∧
         bif x1.Kind==(2:Int) then
          (0:Int)≤y.1∧
           Int.toNat y.1<List.length l∧
            bif decide (x1.N≥pos) then Lf [DV.one (Cell.lit (Value.bool false))] [DV.one (Cell.lit (Value.bool (actsIn l vars pos)))]
            else
             Zi107_7 l vars pos (y.1,(0:Int),PUnit.unit) (y.1,(0:Int),PUnit.unit)∧
              ∀(y_1:Int×Int×PUnit),
               let x3:Nat:=Int.toNat y_1.2.1;
               let x4:Int:=(↑(List.length (List.getD l (Int.toNat y_1.1) zAct).Args):Int);
               let x2:DExpr:=List.getD (List.getD l (Int.toNat y_1.1) zAct).Args x3 zExpr;
               Zi107_7 l vars pos (y.1,(0:Int),PUnit.unit) y_1→(0:Int)≤y_1.1∧Int.toNat y_1.1<List.length l∧bif decide (y_1.2.1<x4) then(0:Int)≤y_1.1∧Int.toNat y_1.1<List.length l∧(0:Int)≤y_1.2.1∧x3<List.length (List.getD l (Int.toNat y_1.1) zAct).Args∧bif !knownIn vars x2.L then Lf [DV.one (Cell.lit (Value.bool false))] [DV.one (Cell.lit (Value.bool (actsIn l vars pos)))] else(0:Int)≤y_1.1∧Int.toNat y_1.1<List.length l∧(0:Int)≤y_1.2.1∧x3<List.length (List.getD l (Int.toNat y_1.1) zAct).Args∧bif !knownIn vars x2.R then Lf [DV.one (Cell.lit (Value.bool false))] [DV.one (Cell.lit (Value.bool (actsIn l vars pos)))] else Zi107_7 l vars pos (y.1,(0:Int),PUnit.unit) (y_1.1,IntKind.wrap IntKind.i64 (y_1.2.1+(1:Int)),PUnit.unit)∧Zm107_7 l vars pos (y_1.1,IntKind.wrap IntKind.i64 (y_1.2.1+(1:Int)),PUnit.unit)<Zm107_7 l vars pos y_1 else Zi107_2 l vars pos (IntKind.wrap IntKind.i64 (y_1.1+(1:Int)),PUnit.unit)∧Zm107_2 l vars pos (IntKind.wrap IntKind.i64 (y_1.1+(1:Int)),PUnit.unit)<Zm107_2 l vars pos y
         else
          Zi107_7 l vars pos (y.1,(0:Int),PUnit.unit) (y.1,(0:Int),PUnit.unit)∧
           ∀(y_1:Int×Int×PUnit),
            let x3:Nat:=Int.toNat y_1.2.1;
            let x4:Int:=(↑(List.length (List.getD l (Int.toNat y_1.1) zAct).Args):Int);
            let x2:DExpr:=List.getD (List.getD l (Int.toNat y_1.1) zAct).Args x3 zExpr;
            Zi107_7 l vars pos (y.1,(0:Int),PUnit.unit) y_1→(0:Int)≤y_1.1∧Int.toNat y_1.1<List.length l∧bif decide (y_1.2.1<x4) then(0:Int)≤y_1.1∧Int.toNat y_1.1<List.length l∧(0:Int)≤y_1.2.1∧x3<List.length (List.getD l (Int.toNat y_1.1) zAct).Args∧bif !knownIn vars x2.L then Lf [DV.one (Cell.lit (Value.bool false))] [DV.one (Cell.lit (Value.bool (actsIn l vars pos)))] else(0:Int)≤y_1.1∧Int.toNat y_1.1<List.length l∧(0:Int)≤y_1.2.1∧x3<List.length (List.getD l (Int.toNat y_1.1) zAct).Args∧bif !knownIn vars x2.R then Lf [DV.one (Cell.lit (Value.bool false))] [DV.one (Cell.lit (Value.bool (actsIn l vars pos)))] else Zi107_7 l vars pos (y.1,(0:Int),PUnit.unit) (y_1.1,IntKind.wrap IntKind.i64 (y_1.2.1+(1:Int)),PUnit.unit)∧Zm107_7 l vars pos (y_1.1,IntKind.wrap IntKind.i64 (y_1.2.1+(1:Int)),PUnit.unit)<Zm107_7 l vars pos y_1 else Zi107_2 l vars pos (IntKind.wrap IntKind.i64 (y_1.1+(1:Int)),PUnit.unit)∧Zm107_2 l vars pos (IntKind.wrap IntKind.i64 (y_1.1+(1:Int)),PUnit.unit)<Zm107_2 l vars pos y
   else Lf [DV.one (Cell.lit (Value.bool (decide ((1:Int)≤x0∧x0≤(6:Int)))))] [DV.one (Cell.lit (Value.bool (actsIn l vars pos)))]):=by kernel_rfl
theorem Zo107:Holds EE (107,Zk107):=by
 refine holds_of EE_ok Go.Proofs.Tryz.func107 Zk107 (by kernel_rfl) Zu107 (us_ok _) Za107 (fun x hp hb=> ?_)
 obtain⟨l,vars,pos⟩:=x
 have hl_l:l.length≤9223372036854775807:=bdL (hb _ m0)
 have hl_vars:vars.length≤9223372036854775807:=bdL (hb _ m1)
 have hl_pos:=bdI (n:=pos) (hb _ m2)
 clear hp hb
 rw[Zv107 l vars pos]
 dsimp only
 refine⟨⟨by omega,by omega,rfl⟩,?_⟩
 rintro⟨i,⟨⟩⟩ ⟨h1,h2,hR⟩
 simp only
 refine if_dec (fun hc=> ?_) (fun hc=> ?_)
 ·rw[all_step _ _ zAct h1 (by omega)] at hR
  have hN:actIn vars pos (List.getD l i.toNat zAct)=false→actsIn l vars pos=false:=fun h=>by simp only[actsIn,←hR,h];simp
  refine⟨by omega,by omega,if_not (fun ha=>Lf_ff (hN (by simp only[actIn,ha,Bool.false_and]))) (fun ha=>⟨by omega,by omega,if_num (fun hk2=>⟨by omega,by omega,if_dec (fun hp=>Lf_ff (hN ?_)) (fun hp=> ?_)⟩) (fun hk2=> ?_)⟩)⟩
  ·have:dropIn pos (List.getD l i.toNat zAct)=false:=by simp only[dropIn,hk2,decide_eq_true (show pos≤(List.getD l i.toNat zAct).N from hp)];simp
   simp only[actIn,this,Bool.and_false,Bool.false_and]
  ·have hd:dropIn pos (List.getD l i.toNat zAct)=true:=by simp only[dropIn,decide_eq_false (show¬pos≤(List.getD l i.toNat zAct).N from hp)];simp
   have h5:=actOk_args ha
   refine⟨⟨rfl,by omega,by omega,rfl⟩,?_⟩
   rintro⟨i',k,⟨⟩⟩ ⟨rfl,g1,g2,gR⟩
   simp only
   refine⟨by omega,by omega,if_dec (fun hk=> ?_) (fun hk=> ?_)⟩
   ·rw[all_step _ _ zExpr g1 (by omega)] at gR
    rw[wrap_i64 (n:=k+1) (by omega) (by omega)]
    have hM:exprIn vars (List.getD (List.getD l i'.toNat zAct).Args k.toNat zExpr)=false→actsIn l vars pos=false:=fun h=>hN (by simp only[actIn,←gR,h];simp)
    refine⟨by omega,by omega,g1,by omega,if_not (fun e=>Lf_ff (hM ?_)) (fun e=>⟨by omega,by omega,g1,by omega,if_not (fun f=>Lf_ff (hM ?_)) (fun f=>⟨⟨rfl,by omega,by omega,?_⟩,by simp only[Zm107_7];omega⟩)⟩)⟩
    ·simp only[exprIn,e,Bool.false_and]
    ·simp only[exprIn,f,Bool.and_false]
    ·rw[←gR];simp only[exprIn,e,f,Bool.true_and]
   ·rw[drop_end _ (by omega)] at gR
    rw[wrap_i64 (n:=i'+1) (by omega) (by omega)]
    refine⟨⟨by omega,by omega,?_⟩,by simp only[Zm107_2];omega⟩
    rw[←hR];simp only[actIn,←gR,hd,ha,List.all_nil,Bool.true_and]
  ·have hd:dropIn pos (List.getD l i.toNat zAct)=true:=by simp only[dropIn,decide_eq_false hk2];simp
   have h5:=actOk_args ha
   refine⟨⟨rfl,by omega,by omega,rfl⟩,?_⟩
   rintro⟨i',k,⟨⟩⟩ ⟨rfl,g1,g2,gR⟩
   simp only
   refine⟨by omega,by omega,if_dec (fun hk=> ?_) (fun hk=> ?_)⟩
   ·rw[all_step _ _ zExpr g1 (by omega)] at gR
    rw[wrap_i64 (n:=k+1) (by omega) (by omega)]
    have hM:exprIn vars (List.getD (List.getD l i'.toNat zAct).Args k.toNat zExpr)=false→actsIn l vars pos=false:=fun h=>hN (by simp only[actIn,←gR,h];simp)
    refine⟨by omega,by omega,g1,by omega,if_not (fun e=>Lf_ff (hM ?_)) (fun e=>⟨by omega,by omega,g1,by omega,if_not (fun f=>Lf_ff (hM ?_)) (fun f=>⟨⟨rfl,by omega,by omega,?_⟩,by simp only[Zm107_7];omega⟩)⟩)⟩
    ·simp only[exprIn,e,Bool.false_and]
    ·simp only[exprIn,f,Bool.and_false]
    ·rw[←gR];simp only[exprIn,e,f,Bool.true_and]
   ·rw[drop_end _ (by omega)] at gR
    rw[wrap_i64 (n:=i'+1) (by omega) (by omega)]
    refine⟨⟨by omega,by omega,?_⟩,by simp only[Zm107_2];omega⟩
    rw[←hR];simp only[actIn,←gR,hd,ha,List.all_nil,Bool.true_and]
 ·rw[drop_end _ (by omega)] at hR
  refine Lf_b ?_
  simp only[actsIn,←hR,List.all_nil,Bool.and_true];exact decide_eq_decide.2 (by omega)
def Zh107:HH:=⟨_,Zo107⟩
def Zk105:Con UU where
 α:=(List DPat)
 md:=[.ro]
 of:=o1 (oL .ePat)
 ds:=fun x=>[dL .ePat x]
 pre:=fun _=>[]
 res:=fun l=>⟨[.one (.lit (.bool (patsOk l)))],true,[]⟩
 law:=l1 (lL .ePat)
def Zi105_2(l:(List DPat)):Int×Unit→Prop:=fun(i,_)=>0≤i∧i≤l.length∧∀j:Nat,(j:Int)<i→patAt l j=true
def Zm105_2(l:(List DPat)):Int×Unit→Nat:=fun(i,_)=>l.length-i.toNat
def Za105:Zk105.α→Nat→Option (Ann UU):=fun l=>annL [(2,annOf [.slot 3 (3,1024) (.lit (.int .i64))] (fun _=>Zi105_2 l) (Zm105_2 l))]
def Zu105:=us [Zh143,Zh30]
theorem Zv105(l:(List DPat)):goal EE Zu105 Go.Proofs.Tryz.f105 Zk105 Za105 l=(let x0:Int:=(l.length:Int);
Zi105_2 l ((0:Int),PUnit.unit)∧
 ∀(y:Int×PUnit),
  let x1:Nat:=Int.toNat (IntKind.wrap IntKind.i64 (y.1-(1:Int)));
  Zi105_2 l y→bif decide (y.1<x0) then bif decide (y.1>(2:Int)) then(0:Int)≤y.1∧Int.toNat y.1<List.length l∧bif !(List.getD l (Int.toNat y.1) zPat).Not then Lf [DV.one (Cell.lit (Value.bool false))] [DV.one (Cell.lit (Value.bool (patsOk l)))] else(0:Int)≤y.1∧Int.toNat y.1<List.length l∧bif !patOk (List.getD l (Int.toNat y.1) zPat) then Lf [DV.one (Cell.lit (Value.bool false))] [DV.one (Cell.lit (Value.bool (patsOk l)))] else bif y.1==(0:Int) then(0:Int)≤y.1∧Int.toNat y.1<List.length l∧bif (List.getD l (Int.toNat y.1) zPat).Not then Lf [DV.one (Cell.lit (Value.bool false))] [DV.one (Cell.lit (Value.bool (patsOk l)))] else bif decide (y.1>(0:Int)) then(0:Int)≤IntKind.wrap IntKind.i64 (y.1-(1:Int))∧x1<List.length l∧bif (List.getD l x1 zPat).Not then(0:Int)≤y.1∧Int.toNat y.1<List.length l∧bif !(List.getD l (Int.toNat y.1) zPat).Not then Lf [DV.one (Cell.lit (Value.bool false))] [DV.one (Cell.lit (Value.bool (patsOk l)))] else Zi105_2 l (IntKind.wrap IntKind.i64 (y.1+(1:Int)),PUnit.unit)∧Zm105_2 l (IntKind.wrap IntKind.i64 (y.1+(1:Int)),PUnit.unit)<Zm105_2 l y else Zi105_2 l (IntKind.wrap IntKind.i64 (y.1+(1:Int)),PUnit.unit)∧Zm105_2 l (IntKind.wrap IntKind.i64 (y.1+(1:Int)),PUnit.unit)<Zm105_2 l y else Zi105_2 l (IntKind.wrap IntKind.i64 (y.1+(1:Int)),PUnit.unit)∧Zm105_2 l (IntKind.wrap IntKind.i64 (y.1+(1:Int)),PUnit.unit)<Zm105_2 l y else bif decide (y.1>(0:Int)) then(0:Int)≤IntKind.wrap IntKind.i64 (y.1-(1:Int))∧x1<List.length l∧bif (List.getD l x1 zPat).Not then(0:Int)≤y.1∧Int.toNat y.1<List.length l∧bif !(List.getD l (Int.toNat y.1) zPat).Not then Lf [DV.one (Cell.lit (Value.bool false))] [DV.one (Cell.lit (Value.bool (patsOk l)))] else Zi105_2 l (IntKind.wrap IntKind.i64 (y.1+(1:Int)),PUnit.unit)∧Zm105_2 l (IntKind.wrap IntKind.i64 (y.1+(1:Int)),PUnit.unit)<Zm105_2 l y else Zi105_2 l (IntKind.wrap IntKind.i64 (y.1+(1:Int)),PUnit.unit)∧Zm105_2 l (IntKind.wrap IntKind.i64 (y.1+(1:Int)),PUnit.unit)<Zm105_2 l y else Zi105_2 l (IntKind.wrap IntKind.i64 (y.1+(1:Int)),PUnit.unit)∧Zm105_2 l (IntKind.wrap IntKind.i64 (y.1+(1:Int)),PUnit.unit)<Zm105_2 l y else(0:Int)≤y.1∧Int.toNat y.1<List.length l∧bif !patOk (List.getD l (Int.toNat y.1) zPat) then Lf [DV.one (Cell.lit (Value.bool false))] [DV.one (Cell.lit (Value.bool (patsOk l)))] else bif y.1==(0:Int) then(0:Int)≤y.1∧Int.toNat y.1<List.length l∧bif (List.getD l (Int.toNat y.1) zPat).Not then Lf [DV.one (Cell.lit (Value.bool false))] [DV.one (Cell.lit (Value.bool (patsOk l)))] else bif decide (y.1>(0:Int)) then(0:Int)≤IntKind.wrap IntKind.i64 (y.1-(1:Int))∧x1<List.length l∧bif (List.getD l x1 zPat).Not then(0:Int)≤y.1∧Int.toNat y.1<List.length l∧bif !(List.getD l (Int.toNat y.1) zPat).Not then Lf [DV.one (Cell.lit (Value.bool false))] [DV.one (Cell.lit (Value.bool (patsOk l)))] else Zi105_2 l (IntKind.wrap IntKind.i64 (y.1+(1:Int)),PUnit.unit)∧Zm105_2 l (IntKind.wrap IntKind.i64 (y.1+(1:Int)),PUnit.unit)<Zm105_2 l y else Zi105_2 l (IntKind.wrap IntKind.i64 (y.1+(1:Int)),PUnit.unit)∧Zm105_2 l (IntKind.wrap IntKind.i64 (y.1+(1:Int)),PUnit.unit)<Zm105_2 l y else Zi105_2 l (IntKind.wrap IntKind.i64 (y.1+(1:Int)),PUnit.unit)∧Zm105_2 l (IntKind.wrap IntKind.i64 (y.1+(1:Int)),PUnit.unit)<Zm105_2 l y else bif decide (y.1>(0:Int)) then(0:Int)≤IntKind.wrap IntKind.i64 (y.1-(1:Int))∧x1<List.length l∧bif (List.getD l x1 zPat).Not then(0:Int)≤y.1∧Int.toNat y.1<List.length l∧bif !(List.getD l (Int.toNat y.1) zPat).Not then Lf [DV.one (Cell.lit (Value.bool false))] [DV.one (Cell.lit (Value.bool (patsOk l)))] else Zi105_2 l (IntKind.wrap IntKind.i64 (y.1+(1:Int)),PUnit.unit)∧Zm105_2 l (IntKind.wrap IntKind.i64 (y.1+(1:Int)),PUnit.unit)<Zm105_2 l y else Zi105_2 l (IntKind.wrap IntKind.i64 (y.1+(1:Int)),PUnit.unit)∧Zm105_2 l (IntKind.wrap IntKind.i64 (y.1+(1:Int)),PUnit.unit)<Zm105_2 l y else Zi105_2 l (IntKind.wrap IntKind.i64 (y.1+(1:Int)),PUnit.unit)∧Zm105_2 l (IntKind.wrap IntKind.i64 (y.1+(1:Int)),PUnit.unit)<Zm105_2 l y else Lf [DV.one (Cell.lit (Value.bool (decide ((1:Int)≤x0∧x0≤(6:Int)))))] [DV.one (Cell.lit (Value.bool (patsOk l)))]):=by kernel_rfl
theorem Zo105:Holds EE (105,Zk105):=by
 refine holds_of EE_ok Go.Proofs.Tryz.func105 Zk105 (by kernel_rfl) Zu105 (us_ok _) Za105 (fun(l:(List DPat)) hp hb=> ?_)
 have hl_l:l.length≤9223372036854775807:=bdL (hb _ m0)
 clear hp hb
 rw[Zv105 l]
 dsimp only
 refine⟨⟨by omega,by omega,by intro j hj;omega⟩,?_⟩
 rintro⟨i,⟨⟩⟩ ⟨h1,h2,hR⟩
 simp only
 refine if_dec (fun hc=> ?_) (fun hc=> ?_)
 ·have hN:patAt l i.toNat=false→patsOk l=false:=fun h=>by
   have hf:allI l.length (patAt l)=false:=allI_false (j:=i.toNat) (by omega) h
   simp only[patsOk,hf];simp
  have hm:Zm105_2 l (i+1,PUnit.unit)<Zm105_2 l (i,()):=by simp only[Zm105_2];omega
  have e1:(i-1).toNat=i.toNat-1:=by omega
  simp(disch:=omega) only[wrap_i64]
  simp only[e1]
  have c1:decide (2<i.toNat)=decide (i>2):=decide_eq_decide.2 (by omega)
  have c2:decide (i.toNat=0)=decide (i=0):=decide_eq_decide.2 (by omega)
  have c3:decide (0<i.toNat)=decide (i>0):=decide_eq_decide.2 (by omega)
  have hA:patAt l i.toNat=(patOk (List.getD l i.toNat zPat)&& !(decide (i>2)&& !(List.getD l i.toNat zPat).Not)&& !(decide (i=0)&&(List.getD l i.toNat zPat).Not)&& !(decide (i>0)&&(List.getD l (i.toNat-1) zPat).Not&& !(List.getD l i.toNat zPat).Not)):=by
   simp only[patAt,notAt,c1,c2,c3]
  have hgo:patAt l i.toNat=true→Zi105_2 l (i+1,PUnit.unit)∧Zm105_2 l (i+1,PUnit.unit)<Zm105_2 l (i,()):=fun h=>⟨⟨by omega,by omega,upto_step h1 hR h⟩,hm⟩
  rw[hA] at hN hgo
  generalize (List.getD l (i.toNat-1) zPat).Not=q at*
  generalize (List.getD l i.toNat zPat).Not=r at*
  generalize patOk (List.getD l i.toNat zPat)=s at*
  clear hA c1 c2 c3 hR
  have hlt:i.toNat<l.length:=by omega
  have hlt':i.toNat-1<l.length:=by omega
  have hi1:i>0→0≤i-1:=fun h=>by omega
  repeat' (first|refine Lf_ff (hN ?_)|refine hgo ?_|refine if_dec (fun h=> ?_) (fun h=> ?_)|refine if_num (fun h=> ?_) (fun h=> ?_)|refine if_cond (fun h=> ?_) (fun h=> ?_)|refine And.intro h1 ?_|refine And.intro hlt ?_|refine And.intro hlt' ?_|refine And.intro (hi1 (by assumption)) ?_)
  all_goals (cases q<;>cases r<;>cases s<;>simp at* <;>omega)
 ·have hA:allI l.length (patAt l)=true:=allI_true fun j hj=>hR j (by omega)
  refine Lf_b ?_
  simp only[patsOk,hA,Bool.and_true];exact decide_eq_decide.2 (by omega)
def Zh105:HH:=⟨_,Zo105⟩
def Zk66:Con UU where
 α:=DRule
 md:=[.ro]
 of:=o1 (oA .eRule)
 ds:=fun x=>[dA .eRule x]
 pre:=fun r=>[patArgs r.Pats≤4294967295]
 res:=fun r=>⟨[.one (.lit (.bool (ruleOk r)))],true,[]⟩
 law:=l1 (lA .eRule)
def Za66:Zk66.α→Nat→Option (Ann UU):=fun r=>annL []
def Zu66:=us [Zh104,Zh68,Zh30,Zh105,Zh106,Zh107,Zh108]
theorem Zv66(r:DRule):goal EE Zu66 Go.Proofs.Tryz.f66 Zk66 Za66 r=(patArgs r.Pats≤(4294967296:Nat)∧bif nameOk r.Name then bif decide ((-100:Int)≤r.Sal∧r.Sal≤(100:Int)) then bif patsOk r.Pats then bif kondsIn r.Conds (posVarsS r.Pats) then Lb (actsIn r.Acts (posVarsS r.Pats) (↑(posN r.Pats):Int)) (ruleOk r) else Lb false (ruleOk r) else Lb false (ruleOk r) else Lb false (ruleOk r) else Lb false (ruleOk r)):=by kernel_rfl
theorem Zo66:Holds EE (66,Zk66):=by
 refine holds_of EE_ok Go.Proofs.Tryz.func66 Zk66 (by kernel_rfl) Zu66 (us_ok _) Za66 (fun(r:DRule) hp hb=> ?_)
 have hz0:=bd_eRule (x:=r) (hb _ m0)
 have hl_r_Name:=hz0.1
 have hl_r_Pats:=hz0.2.1
 have hl_r_Conds:=hz0.2.2.1
 have hl_r_Acts:=hz0.2.2.2
 have hp0:patArgs r.Pats≤4294967295:=hp _ m0
 clear hp hb
 rw[Zv66 r]
 refine⟨by omega,?_⟩
 simp only[ruleOk]
 repeat' (refine if_cond (fun h=> ?_) (fun h=> ?_))
 all_goals (refine Lf_b ?_;grind)
def Zh66:HH:=⟨_,Zo66⟩
def Zk116:Con UU where
 α:=DRule
 md:=[.ro]
 of:=o1 (oA .eRule)
 ds:=fun x=>[dA .eRule x]
 pre:=fun _=>[]
 res:=fun r=>⟨[.one (.lit (.bool (patsOkI r.Pats)))],true,[]⟩
 law:=l1 (lA .eRule)
def Zi116_4(r:DRule):Int×(ByteArray×Int×List DPat×List DCond×List DAct×Unit)×Unit→Prop:=fun(i,b,_)=>b=(r.Name,r.Sal,r.Pats,r.Conds,r.Acts,())∧0≤i∧i≤r.Pats.length∧(1≤r.Pats.length∧r.Pats.length≤6)∧(1≤posN r.Pats∧posN r.Pats≤3)∧∀j:Nat,(j:Int)<i→patAtI r.Pats j=true
def Zm116_4(r:DRule):Int×(ByteArray×Int×List DPat×List DCond×List DAct×Unit)×Unit→Nat:=fun(i,b,_)=>r.Pats.length-i.toNat
def Za116:Zk116.α→Nat→Option (Ann UU):=fun r=>annL [(4,annOf [.slot 19 (19,1024) (.lit (.int .i64)),.box 1 (1,1024) [.lit .str,.lit (.int .i64),.shr .ePat,.shr .eCond,.shr .eAct]] (fun _=>Zi116_4 r) (Zm116_4 r))]
def Zu116:=us [Zh74,Zh119,Zh153]
theorem Zv116(r:DRule):goal EE Zu116 Go.Proofs.Tryz.f116 Zk116 Za116 r=(let x0:Int:=(r.Pats.length:Int);
bif !decide ((1:Int)≤x0∧x0≤(6:Int)) then Lf [DV.one (Cell.lit (Value.bool false))] [DV.one (Cell.lit (Value.bool (patsOkI r.Pats)))]
else
 bif !decide ((1:Int)≤(↑(posN r.Pats):Int)∧(↑(posN r.Pats):Int)≤(3:Int)) then Lf [DV.one (Cell.lit (Value.bool false))] [DV.one (Cell.lit (Value.bool (patsOkI r.Pats)))]
 else
  Zi116_4 r ((0:Int),(r.Name,r.Sal,r.Pats,r.Conds,r.Acts,PUnit.unit),PUnit.unit)∧
   ∀(y:Int×(ByteArray×Int×List DPat×List DCond×List DAct×PUnit)×PUnit),
    let x1:Int:=(↑(posN y.2.1.2.2.1):Int);
    Zi116_4 r y→bif decide (y.1<x0) then(0:Int)≤y.1∧Int.toNat y.1<List.length r.Pats∧bif !patOk (List.getD r.Pats (Int.toNat y.1) zPat) then Lf [DV.one (Cell.lit (Value.bool false))] [DV.one (Cell.lit (Value.bool (patsOkI r.Pats)))] else bif !(List.getD r.Pats (Int.toNat y.1) zPat).Not==decide (y.1≥x1) then Lf [DV.one (Cell.lit (Value.bool false))] [DV.one (Cell.lit (Value.bool (patsOkI r.Pats)))] else Zi116_4 r (IntKind.wrap IntKind.i64 (y.1+(1:Int)),(y.2.1.1,y.2.1.2.1,y.2.1.2.2.1,y.2.1.2.2.2.1,y.2.1.2.2.2.2.1,PUnit.unit),PUnit.unit)∧Zm116_4 r (IntKind.wrap IntKind.i64 (y.1+(1:Int)),(y.2.1.1,y.2.1.2.1,y.2.1.2.2.1,y.2.1.2.2.2.1,y.2.1.2.2.2.2.1,PUnit.unit),PUnit.unit)<Zm116_4 r y else Lf [DV.one (Cell.lit (Value.bool true))] [DV.one (Cell.lit (Value.bool (patsOkI r.Pats)))]):=by kernel_rfl
theorem Zo116:Holds EE (116,Zk116):=by
 refine holds_of EE_ok Go.Proofs.Tryz.func116 Zk116 (by kernel_rfl) Zu116 (us_ok _) Za116 (fun(r:DRule) hp hb=> ?_)
 have hz0:=bd_eRule (x:=r) (hb _ m0)
 have hl_r_Name:=hz0.1
 have hl_r_Pats:=hz0.2.1
 have hl_r_Conds:=hz0.2.2.1
 have hl_r_Acts:=hz0.2.2.2
 clear hp hb
 rw[Zv116 r]
 dsimp only
 refine if_not (fun h=>Lf_ff ?_) (fun h=>if_not (fun h'=>Lf_ff ?_) (fun h'=> ?_))
 ·have h:=of_decide_eq_false h
  simp only[patsOkI];rw[decide_eq_false (by omega)];rfl
 ·have h':=of_decide_eq_false h'
  simp only[patsOkI];rw[decide_eq_false (p:=1≤posN r.Pats∧posN r.Pats≤3) (by omega)];simp
 have h:=of_decide_eq_true h
 have h':=of_decide_eq_true h'
 refine⟨⟨rfl,by omega,by omega,by omega,by omega,by intro j hj;omega⟩,?_⟩
 rintro⟨i,⟨b1,b2,b3,b4,b5,⟨⟩⟩,⟨⟩⟩ ⟨hbx,h1,h2,h3,h4,hR⟩
 cases hbx
 simp only
 refine if_dec (fun hc=> ?_) (fun hc=> ?_)
 ·have hN:patAtI r.Pats i.toNat=false→patsOkI r.Pats=false:=fun h=>by
   have hf:allI r.Pats.length (patAtI r.Pats)=false:=allI_false (j:=i.toNat) (by omega) h
   simp only[patsOkI,hf];simp
  rw[wrap_i64 (by omega) (by omega)]
  have c1:decide (posN r.Pats≤i.toNat)=decide (i≥(posN r.Pats:Int)):=decide_eq_decide.2 (by omega)
  refine⟨by omega,by omega,if_not (fun g=>Lf_ff (hN (by simp only[patAtI,g,Bool.false_and]))) (fun g=>if_not (fun k=>Lf_ff (hN ?_)) (fun k=>⟨⟨rfl,by omega,by omega,h3,h4,upto_step h1 hR ?_⟩,by simp only[Zm116_4];omega⟩))⟩
  ·simp only[patAtI,notAt,c1,k];simp
  ·simp only[patAtI,notAt,c1,k,g];rfl
 ·have hA:allI r.Pats.length (patAtI r.Pats)=true:=allI_true fun j hj=>hR j (by omega)
  refine Lf_tt ?_
  simp only[patsOkI,hA,decide_eq_true h3,decide_eq_true h4];rfl
def Zh116:HH:=⟨_,Zo116⟩
def Zk121:Con UU where
 α:=DRule
 md:=[.ro]
 of:=o1 (oA .eRule)
 ds:=fun x=>[dA .eRule x]
 pre:=fun r=>[2*r.Conds.length+usedN r.Acts≤4294967295]
 res:=fun r=>⟨[.one (.sl .str (usedV r))],true,[]⟩
 law:=l1 (lA .eRule)
def Zi121_3(r:DRule):List ByteArray×Int×(ByteArray×Int×List DPat×List DCond×List DAct×Unit)×Unit→Prop:=fun(v,i,b,_)=>b=(r.Name,r.Sal,r.Pats,r.Conds,r.Acts,())∧0≤i∧i≤r.Conds.length∧v=(r.Conds.take i.toNat).foldl usedC []
def Zm121_3(r:DRule):List ByteArray×Int×(ByteArray×Int×List DPat×List DCond×List DAct×Unit)×Unit→Nat:=fun(v,i,b,_)=>r.Conds.length-i.toNat
def Zi121_8(r:DRule):List ByteArray×Int×Unit→Prop:=fun(v,i,_)=>0≤i∧i≤r.Acts.length∧v=(r.Acts.take i.toNat).foldl usedA (r.Conds.foldl usedC [])
def Zm121_8(r:DRule):List ByteArray×Int×Unit→Nat:=fun(v,i,_)=>r.Acts.length-i.toNat
def Zi121_11(r:DRule):List ByteArray×Int×Int×Unit→List ByteArray×Int×Int×Unit→Prop:=fun(v0,i0,k0,_) (v,i,k,_)=>i=i0∧0≤k∧k≤(List.getD r.Acts i.toNat zAct).Args.length∧v=((List.getD r.Acts i.toNat zAct).Args.take k.toNat).foldl usedE v0
def Zm121_11(r:DRule):List ByteArray×Int×Int×Unit→Nat:=fun(v,i,k,_)=>(List.getD r.Acts i.toNat zAct).Args.length-k.toNat
def Za121:Zk121.α→Nat→Option (Ann UU):=fun r=>annL [(3,annOf [.slot 3 (3,1024) (.own .str true),.slot 13 (13,1024) (.lit (.int .i64)),.box 1 (1,1024) [.lit .str,.lit (.int .i64),.shr .ePat,.shr .eCond,.shr .eAct]] (fun _=>Zi121_3 r) (Zm121_3 r)),(8,annOf [.slot 3 (3,1024) (.own .str true),.slot 28 (28,1024) (.lit (.int .i64))] (fun _=>Zi121_8 r) (Zm121_8 r)),(11,annOf [.slot 3 (3,1024) (.own .str true),.slot 28 (28,1024) (.lit (.int .i64)),.slot 35 (35,1024) (.lit (.int .i64))] (Zi121_11 r) (Zm121_11 r))]
def Zu121:=us [Zh157]
theorem Zv121(r:DRule):goal EE Zu121 Go.Proofs.Tryz.f121 Zk121 Za121 r=(Zi121_3 r ([],(0:Int),(r.Name,r.Sal,r.Pats,r.Conds,r.Acts,()),())∧
 ∀(y:List ByteArray×Int×(ByteArray×Int×List DPat×List DCond×List DAct×PUnit)×PUnit),
  let x2:Nat:=List.length y.2.2.1.2.2.2.2.1;
  let x4:Nat:=Int.toNat y.2.1;
  let x1:Int:=(↑x2:Int);
  let x3:DCond:=List.getD r.Conds x4 zCond;
  let x0:List DArg:=[x3.L,x3.R];
  Zi121_3 r y→
   bif decide (y.2.1<(↑(List.length r.Conds):Int)) then(0:Int)≤y.2.1∧x4<List.length r.Conds∧List.length y.1+List.length x0≤(4294967295:Nat)∧Zi121_3 r (addVars y.1 x0,IntKind.wrap IntKind.i64 (y.2.1+(1:Int)),(y.2.2.1.1,y.2.2.1.2.1,y.2.2.1.2.2.1,y.2.2.1.2.2.2.1,y.2.2.1.2.2.2.2.1,PUnit.unit),PUnit.unit)∧Zm121_3 r (addVars y.1 x0,IntKind.wrap IntKind.i64 (y.2.1+(1:Int)),(y.2.2.1.1,y.2.2.1.2.1,y.2.2.1.2.2.1,y.2.2.1.2.2.2.1,y.2.2.1.2.2.2.2.1,PUnit.unit),PUnit.unit)<Zm121_3 r y
   else
    Zi121_8 r (y.1,(0:Int),PUnit.unit)∧
     ∀(y_1:List ByteArray×Int×PUnit),
      let x8:Nat:=Int.toNat y_1.2.1;
      let x7:List DExpr:=(List.getD y.2.2.1.2.2.2.2.1 x8 zAct).Args;
      let x6:Nat:=List.length x7;
      let x5:Int:=(↑x6:Int);
      Zi121_8 r y_1→
       bif decide (y_1.2.1<x1) then
        (0:Int)≤y_1.2.1∧
         x8<x2∧
          Zi121_11 r (y_1.1,y_1.2.1,(0:Int),PUnit.unit) (y_1.1,y_1.2.1,(0:Int),PUnit.unit)∧
           ∀(y:List ByteArray×Int×Int×PUnit),
            let x11:Nat:=Int.toNat y.2.2.1;
            let x10:DExpr:=List.getD x7 x11 zExpr;
            let x9:List DArg:=[x10.L,x10.R];
            Zi121_11 r (y_1.1,y_1.2.1,(0:Int),PUnit.unit) y→bif decide (y.2.2.1<x5) then(0:Int)≤y.2.2.1∧x11<x6∧List.length y.1+List.length x9≤(4294967295:Nat)∧Zi121_11 r (y_1.1,y_1.2.1,(0:Int),PUnit.unit) (addVars y.1 x9,y.2.1,IntKind.wrap IntKind.i64 (y.2.2.1+(1:Int)),PUnit.unit)∧Zm121_11 r (addVars y.1 x9,y.2.1,IntKind.wrap IntKind.i64 (y.2.2.1+(1:Int)),PUnit.unit)<Zm121_11 r y else Zi121_8 r (y.1,IntKind.wrap IntKind.i64 (y.2.1+(1:Int)),PUnit.unit)∧Zm121_8 r (y.1,IntKind.wrap IntKind.i64 (y.2.1+(1:Int)),PUnit.unit)<Zm121_8 r y_1
       else Lf [DV.one (Cell.sl Cd.str y_1.1)] [DV.one (Cell.sl Cd.str (usedV r))]):=by kernel_rfl
theorem Zo121:Holds EE (121,Zk121):=by
 refine holds_of EE_ok Go.Proofs.Tryz.func121 Zk121 (by kernel_rfl) Zu121 (us_ok _) Za121 (fun(r:DRule) hp hb=> ?_)
 have hz0:=bd_eRule (x:=r) (hb _ m0)
 have hl_r_Name:=hz0.1
 have hl_r_Pats:=hz0.2.1
 have hl_r_Conds:=hz0.2.2.1
 have hl_r_Acts:=hz0.2.2.2
 have hp0:2*r.Conds.length+usedN r.Acts≤4294967295:=hp _ m0
 clear hp hb
 rw[Zv121 r]
 dsimp only
 refine⟨⟨rfl,by omega,by omega,rfl⟩,?_⟩
 rintro⟨v,i,⟨b1,b2,b3,b4,b5,⟨⟩⟩,⟨⟩⟩ ⟨hbx,h1,h2,rfl⟩
 cases hbx
 simp only
 refine if_dec (fun hc=> ?_) (fun hc=> ?_)
 ·have hs:=foldl_step usedC [] r.Conds zCond h1 hc
  have hl:=usedCs_len (r.Conds.take i.toNat) []
  have hl2:(r.Conds.take i.toNat).length≤i.toNat:=by rw[List.length_take];omega
  simp only[List.length_nil] at hl
  rw[wrap_i64 (by omega) (by omega)]
  refine⟨by omega,by omega,by simp only[List.length_cons,List.length_nil];omega,⟨rfl,by omega,by omega,hs.symm⟩,by simp only[Zm121_3];omega⟩
 rw[take_all r.Conds (by omega)]
 have hl0:=usedCs_len r.Conds []
 simp only[List.length_nil] at hl0
 refine⟨⟨by omega,by omega,rfl⟩,?_⟩
 rintro⟨v,i,⟨⟩⟩ ⟨g1,g2,rfl⟩
 simp only
 refine if_dec (fun hc=> ?_) (fun hc=> ?_)
 ·have hs:=foldl_step usedA (r.Conds.foldl usedC []) r.Acts zAct g1 hc
  have ha:=usedN_at r.Acts g1 hc
  have hl:=usedAs_len (r.Acts.take i.toNat) (r.Conds.foldl usedC [])
  refine⟨by omega,by omega,⟨rfl,by omega,by omega,rfl⟩,?_⟩
  rintro⟨v,i',k,⟨⟩⟩ ⟨rfl,k1,k2,rfl⟩
  simp only
  have hle:=usedE_len ((List.getD r.Acts i'.toNat zAct).Args.take k.toNat) ((r.Acts.take i'.toNat).foldl usedA (r.Conds.foldl usedC []))
  have hl2:((List.getD r.Acts i'.toNat zAct).Args.take k.toNat).length≤k.toNat:=by rw[List.length_take];omega
  refine if_dec (fun hk=> ?_) (fun hk=> ?_)
  ·have hf:=foldl_step usedE ((r.Acts.take i'.toNat).foldl usedA (r.Conds.foldl usedC [])) (List.getD r.Acts i'.toNat zAct).Args zExpr k1 hk
   rw[wrap_i64 (by omega) (by omega)]
   exact⟨by omega,by omega,by simp only[List.length_cons,List.length_nil];omega,⟨rfl,by omega,by omega,hf.symm⟩,by simp only[Zm121_11];omega⟩
  ·rw[wrap_i64 (by omega) (by omega)]
   refine⟨⟨by omega,by omega,?_⟩,by simp only[Zm121_8];omega⟩
   rw[hs,take_all (List.getD r.Acts i'.toNat zAct).Args (by omega)];rfl
 ·rw[take_all r.Acts (by omega)]
  exact Lf_rfl _
def Zh121:HH:=⟨_,Zo121⟩
def Zk76:Con UU where
 α:=DRule
 md:=[.ro]
 of:=o1 (oA .eRule)
 ds:=fun x=>[dA .eRule x]
 pre:=fun _=>[]
 res:=fun r=>⟨[.one (.lit (.bool (ruleOk r)))],true,[]⟩
 law:=l1 (lA .eRule)
def Zi76_6(r:DRule):Int×(ByteArray×Int×List DPat×List DCond×List DAct×Unit)×Unit→Prop:=fun(i,b,_)=>b=(r.Name,r.Sal,r.Pats,r.Conds,r.Acts,())∧0≤i∧i≤r.Conds.length∧(r.Conds.drop i.toNat).all kondOk=r.Conds.all kondOk
def Zm76_6(r:DRule):Int×(ByteArray×Int×List DPat×List DCond×List DAct×Unit)×Unit→Nat:=fun(i,b,_)=>r.Conds.length-i.toNat
def Zi76_12(r:DRule):Int×(ByteArray×Int×List DPat×List DCond×List DAct×Unit)×Unit→Prop:=fun(i,b,_)=>b=(r.Name,r.Sal,r.Pats,r.Conds,r.Acts,())∧0≤i∧i≤r.Acts.length∧(r.Acts.drop i.toNat).all (fun a=>actOk a&&dropIn (posN r.Pats) a)=r.Acts.all (fun a=>actOk a&&dropIn (posN r.Pats) a)
def Zm76_12(r:DRule):Int×(ByteArray×Int×List DPat×List DCond×List DAct×Unit)×Unit→Nat:=fun(i,b,_)=>r.Acts.length-i.toNat
def Zi76_19(r:DRule):Int×List ByteArray×List ByteArray×Unit→Prop:=fun(i,v,u,_)=>v=posVars r.Pats∧u=usedV r∧0≤i∧i≤(usedV r).length∧((usedV r).drop i.toNat).all (hasS (posVars r.Pats))=(usedV r).all (hasS (posVars r.Pats))
def Zm76_19(r:DRule):Int×List ByteArray×List ByteArray×Unit→Nat:=fun(i,v,u,_)=>(usedV r).length-i.toNat
def Za76:Zk76.α→Nat→Option (Ann UU):=fun r=>annL [(6,annOf [.slot 39 (39,1024) (.lit (.int .i64)),.box 1 (1,1024) [.lit .str,.lit (.int .i64),.shr .ePat,.shr .eCond,.shr .eAct]] (fun _=>Zi76_6 r) (Zm76_6 r)),(12,annOf [.slot 50 (50,1024) (.lit (.int .i64)),.box 1 (1,1024) [.lit .str,.lit (.int .i64),.shr .ePat,.shr .eCond,.shr .eAct]] (fun _=>Zi76_12 r) (Zm76_12 r)),(19,annOf [.slot 75 (75,1024) (.lit (.int .i64)),.slot 7 (7,1024) (.own .str true),.slot 73 (73,1024) (.own .str true)] (fun _=>Zi76_19 r) (Zm76_19 r))]
def Zu76:=us [Zh75,Zh74,Zh116,Zh117,Zh118,Zh119,Zh120,Zh121,Zh122]
theorem Zv76(r:DRule):goal EE Zu76 Go.Proofs.Tryz.f76 Zk76 Za76 r=(let x0:Int:=(r.Conds.length:Int);
bif !nameOk r.Name then Lf [DV.one (Cell.lit (Value.bool false))] [DV.one (Cell.lit (Value.bool (ruleOk r)))]
else
 bif !decide ((-100:Int)≤r.Sal∧r.Sal≤(100:Int)) then Lf [DV.one (Cell.lit (Value.bool false))] [DV.one (Cell.lit (Value.bool (ruleOk r)))]
 else
  bif !patsOkI r.Pats then Lf [DV.one (Cell.lit (Value.bool false))] [DV.one (Cell.lit (Value.bool (ruleOk r)))]
  else
   bif decide (x0>(6:Int)) then Lf [DV.one (Cell.lit (Value.bool false))] [DV.one (Cell.lit (Value.bool (ruleOk r)))]
   else
    bif !decide ((1:Int)≤(↑(List.length r.Acts):Int)∧(↑(List.length r.Acts):Int)≤(6:Int)) then Lf [DV.one (Cell.lit (Value.bool false))] [DV.one (Cell.lit (Value.bool (ruleOk r)))]
    else
     Zi76_6 r ((0:Int),(r.Name,r.Sal,r.Pats,r.Conds,r.Acts,PUnit.unit),PUnit.unit)∧
      ∀(y:Int×(ByteArray×Int×List DPat×List DCond×List DAct×PUnit)×PUnit),
       let x2:Nat:=List.length y.2.1.2.2.2.2.1;
       let x1:Int:=(↑x2:Int);
       Zi76_6 r y→
        bif decide (y.1<x0) then(0:Int)≤y.1∧Int.toNat y.1<List.length r.Conds∧bif !kondOk (List.getD r.Conds (Int.toNat y.1) zCond) then Lf [DV.one (Cell.lit (Value.bool false))] [DV.one (Cell.lit (Value.bool (ruleOk r)))] else Zi76_6 r (IntKind.wrap IntKind.i64 (y.1+(1:Int)),(y.2.1.1,y.2.1.2.1,y.2.1.2.2.1,y.2.1.2.2.2.1,y.2.1.2.2.2.2.1,PUnit.unit),PUnit.unit)∧Zm76_6 r (IntKind.wrap IntKind.i64 (y.1+(1:Int)),(y.2.1.1,y.2.1.2.1,y.2.1.2.2.1,y.2.1.2.2.2.1,y.2.1.2.2.2.2.1,PUnit.unit),PUnit.unit)<Zm76_6 r y
        else
         Zi76_12 r ((0:Int),(y.2.1.1,y.2.1.2.1,y.2.1.2.2.1,y.2.1.2.2.2.1,y.2.1.2.2.2.2.1,PUnit.unit),PUnit.unit)∧
          ∀(y_1:Int×(ByteArray×Int×List DPat×List DCond×List DAct×PUnit)×PUnit),
           let x4:List ByteArray:=usedV {Name:=y_1.2.1.1,Sal:=y_1.2.1.2.1,Pats:=y_1.2.1.2.2.1,Conds:=y_1.2.1.2.2.2.1,Acts:=y_1.2.1.2.2.2.2.1:DRule};
           let x5:DAct:=List.getD y.2.1.2.2.2.2.1 (Int.toNat y_1.1) zAct;
           let x6:Int:=(↑(posN y_1.2.1.2.2.1):Int);
           let x3:Int:=(↑(List.length x4):Int);
           Zi76_12 r y_1→bif decide (y_1.1<x1) then(0:Int)≤y_1.1∧Int.toNat y_1.1<x2∧bif !actOk x5 then Lf [DV.one (Cell.lit (Value.bool false))] [DV.one (Cell.lit (Value.bool (ruleOk r)))] else bif x5.Kind==(2:Int) then bif decide (x5.N≥x6) then Lf [DV.one (Cell.lit (Value.bool false))] [DV.one (Cell.lit (Value.bool (ruleOk r)))] else Zi76_12 r (IntKind.wrap IntKind.i64 (y_1.1+(1:Int)),(y_1.2.1.1,y_1.2.1.2.1,y_1.2.1.2.2.1,y_1.2.1.2.2.2.1,y_1.2.1.2.2.2.2.1,PUnit.unit),PUnit.unit)∧Zm76_12 r (IntKind.wrap IntKind.i64 (y_1.1+(1:Int)),(y_1.2.1.1,y_1.2.1.2.1,y_1.2.1.2.2.1,y_1.2.1.2.2.2.1,y_1.2.1.2.2.2.2.1,PUnit.unit),PUnit.unit)<Zm76_12 r y_1 else Zi76_12 r (IntKind.wrap IntKind.i64 (y_1.1+(1:Int)),(y_1.2.1.1,y_1.2.1.2.1,y_1.2.1.2.2.1,y_1.2.1.2.2.2.1,y_1.2.1.2.2.2.2.1,PUnit.unit),PUnit.unit)∧Zm76_12 r (IntKind.wrap IntKind.i64 (y_1.1+(1:Int)),(y_1.2.1.1,y_1.2.1.2.1,y_1.2.1.2.2.1,y_1.2.1.2.2.2.1,y_1.2.1.2.2.2.2.1,PUnit.unit),PUnit.unit)<Zm76_12 r y_1 else patArgs y_1.2.1.2.2.1≤(4294967295:Nat)∧(2:Nat)*List.length y_1.2.1.2.2.2.1+usedN y_1.2.1.2.2.2.2.1≤(4294967295:Nat)∧Zi76_19 r ((0:Int),posVars y_1.2.1.2.2.1,x4,PUnit.unit)∧∀(y:Int×List ByteArray×List ByteArray×PUnit),Zi76_19 r y→bif decide (y.1<x3) then(0:Int)≤y.1∧Int.toNat y.1<List.length y.2.2.1∧Int.toNat y.1<List.length y.2.2.1∧bif !hasS y.2.1 (List.getD y.2.2.1 (Int.toNat y.1) noBytes) then Lf [DV.one (Cell.lit (Value.bool false))] [DV.one (Cell.lit (Value.bool (ruleOk r)))] else Zi76_19 r (IntKind.wrap IntKind.i64 (y.1+(1:Int)),y.2.1,y.2.2.1,PUnit.unit)∧Zm76_19 r (IntKind.wrap IntKind.i64 (y.1+(1:Int)),y.2.1,y.2.2.1,PUnit.unit)<Zm76_19 r y else Lf [DV.one (Cell.lit (Value.bool true))] [DV.one (Cell.lit (Value.bool (ruleOk r)))]):=by kernel_rfl
theorem Zo76:Holds EE (76,Zk76):=by
 refine holds_of EE_ok Go.Proofs.Tryz.func76 Zk76 (by kernel_rfl) Zu76 (us_ok _) Za76 (fun(r:DRule) hp hb=> ?_)
 have hz0:=bd_eRule (x:=r) (hb _ m0)
 have hl_r_Name:=hz0.1
 have hl_r_Pats:=hz0.2.1
 have hl_r_Conds:=hz0.2.2.1
 have hl_r_Acts:=hz0.2.2.2
 clear hp hb
 rw[Zv76 r]
 dsimp only
 have hF:ruleOkI r=false→ruleOk r=false:=fun h=>by rw[←ruleOkI_eq];exact h
 refine if_not (fun a1=>Lf_ff (hF (by simp[ruleOkI,a1]))) (fun a1=>if_not (fun a2=>Lf_ff (hF (by simp only[ruleOkI,a2];simp))) (fun a2=>if_not (fun a3=>Lf_ff (hF ?_)) (fun a3=>if_dec (fun a4=>Lf_ff (hF ?_)) (fun a4=>if_not (fun a5=>Lf_ff (hF ?_)) (fun a5=> ?_)))))
 ·rw[patsOkI_eq] at a3;simp[ruleOkI,a3]
 ·simp only[ruleOkI];rw[decide_eq_false (p:=r.Conds.length≤6) (by omega)];simp
 ·have a5:=of_decide_eq_false a5
  simp only[ruleOkI];rw[decide_eq_false (p:=1≤r.Acts.length∧r.Acts.length≤6) (by omega)];simp
 rw[patsOkI_eq] at a3
 have a5:=of_decide_eq_true a5
 refine⟨⟨rfl,by omega,by omega,rfl⟩,?_⟩
 rintro⟨i,⟨b1,b2,b3,b4,b5,⟨⟩⟩,⟨⟩⟩ ⟨hbx,h1,h2,hR⟩
 cases hbx
 simp only
 refine if_dec (fun hc=> ?_) (fun hc=> ?_)
 ·rw[all_step _ _ zCond h1 (by omega)] at hR
  rw[wrap_i64 (by omega) (by omega)]
  refine⟨by omega,by omega,if_not (fun g=>Lf_ff (hF ?_)) (fun g=>⟨⟨rfl,by omega,by omega,?_⟩,by simp only[Zm76_6];omega⟩)⟩
  ·simp only[ruleOkI,←hR,g];simp
  ·rw[←hR,g];rfl
 rw[drop_end _ (by omega)] at hR
 have a6:r.Conds.all kondOk=true:=hR.symm
 refine⟨⟨rfl,by omega,by omega,rfl⟩,?_⟩
 rintro⟨i,⟨b1,b2,b3,b4,b5,⟨⟩⟩,⟨⟩⟩ ⟨hbx,g1,g2,gR⟩
 cases hbx
 simp only
 refine if_dec (fun hc=> ?_) (fun hc=> ?_)
 ·rw[all_step _ _ zAct g1 (by omega)] at gR
  rw[wrap_i64 (by omega) (by omega)]
  have hN:(actOk (List.getD r.Acts i.toNat zAct)&&dropIn (posN r.Pats) (List.getD r.Acts i.toNat zAct))=false→ruleOk r=false:=fun h=>hF (by simp only[ruleOkI,←gR,h];simp)
  have hgo:actOk (List.getD r.Acts i.toNat zAct)=true→dropIn (posN r.Pats) (List.getD r.Acts i.toNat zAct)=true→(r.Acts.drop (i+1).toNat).all (fun a=>actOk a&&dropIn (posN r.Pats) a)=r.Acts.all (fun a=>actOk a&&dropIn (posN r.Pats) a):=fun e1 e2=>by rw[←gR,e1,e2];rfl
  refine⟨by omega,by omega,if_not (fun ha=>Lf_ff (hN (by rw[ha];rfl))) (fun ha=>if_num (fun hk2=>if_dec (fun hp=>Lf_ff (hN ?_)) (fun hp=>⟨⟨rfl,by omega,by omega,hgo ha ?_⟩,by simp only[Zm76_12];omega⟩)) (fun hk2=>⟨⟨rfl,by omega,by omega,hgo ha ?_⟩,by simp only[Zm76_12];omega⟩))⟩
  ·simp only[dropIn,hk2,decide_eq_true (show(posN r.Pats:Int)≤(List.getD r.Acts i.toNat zAct).N from hp)];simp
  ·simp only[dropIn,decide_eq_false (show¬(posN r.Pats:Int)≤(List.getD r.Acts i.toNat zAct).N from hp)];simp
  ·simp only[dropIn,decide_eq_false hk2];simp
 rw[drop_end _ (by omega)] at gR
 have a7:r.Acts.all (fun a=>actOk a&&dropIn (posN r.Pats) a)=true:=gR.symm
 have hpa:=patsOk_args a3
 have hus:=actsOk_used (l:=r.Acts) (by omega) (fun a ha=>by
  have:=List.all_eq_true.1 a7 a ha
  simp only[Bool.and_eq_true] at this
  exact this.1)
 have hul:(usedV r).length≤2*r.Conds.length+usedN r.Acts:=by
  have q1:=usedAs_len r.Acts (r.Conds.foldl usedC [])
  have q2:=usedCs_len r.Conds []
  simp only[List.length_nil] at q2
  simp only[usedV];omega
 refine⟨by omega,by omega,⟨rfl,rfl,by omega,by omega,rfl⟩,?_⟩
 rintro⟨i,v,u,⟨⟩⟩ ⟨rfl,rfl,k1,k2,kR⟩
 simp only
 refine if_dec (fun hk=> ?_) (fun hk=> ?_)
 ·rw[all_step _ _ noBytes k1 hk] at kR
  rw[wrap_i64 (by omega) (by omega)]
  have hk':i<(usedV r).length:=hk
  refine⟨by omega,by omega,by omega,if_not (fun g=>Lf_ff (hF ?_)) (fun g=>⟨⟨rfl,rfl,by omega,by omega,?_⟩,by simp only[Zm76_19];omega⟩)⟩
  ·simp only[ruleOkI,←kR,g];simp
  ·rw[←kR,g];rfl
 ·have hk':¬i<(usedV r).length:=hk
  rw[drop_end _ (by omega)] at kR
  refine Lf_tt ?_
  rw[←ruleOkI_eq]
  simp only[ruleOkI,a1,a2,a3,a6,a7,←kR,decide_eq_true (show r.Conds.length≤6 by omega),decide_eq_true (show 1≤r.Acts.length∧r.Acts.length≤6 by omega)];rfl
def Zh76:HH:=⟨_,Zo76⟩
def instNew(now:Int):DInst:=if 0≤now∧now≤1000000000 then⟨⟨[],1⟩,[],[],[],[],1,now⟩ else zInst
theorem instNew_ct(n:Int):ctInst (instNew n)=0:=by unfold instNew;split<;>rfl
def Zk14:Con UU where
 α:=Int
 md:=[.ro]
 of:=o1 oI
 ds:=fun x=>[dI x]
 pre:=fun _=>[]
 res:=fun now=>⟨[.agg [.sl .eItem (((instNew now)).S).Items,.lit (.int .i64 (((instNew now)).S).Next),.sl .eMatch ((instNew now)).Fired,.sl .eTask ((instNew now)).Tasks,.sl .eTimer ((instNew now)).Timers,.sl .eUndo ((instNew now)).Undos,.lit (.int .i64 ((instNew now)).State),.lit (.int .i64 ((instNew now)).Now)]],true,[]⟩
 law:=l1 lI
def Za14:Zk14.α→Nat→Option (Ann UU):=fun now=>annL []
def Zu14:=us [Zh30]
theorem Zv14(now:Int):goal EE Zu14 Go.Proofs.Tryz.f14 Zk14 Za14 now=(bif !decide ((0:Int)≤now∧now≤(1000000000:Int)) then Lf [DV.agg [Cell.sl Cd.eItem [],Cell.lit (Value.int IntKind.i64 (0:Int)),Cell.sl Cd.eMatch [],Cell.sl Cd.eTask [],Cell.sl Cd.eTimer [],Cell.sl Cd.eUndo [],Cell.lit (Value.int IntKind.i64 (0:Int)),Cell.lit (Value.int IntKind.i64 (0:Int))]] [DV.agg [Cell.sl Cd.eItem (instNew now).S.Items,Cell.lit (Value.int IntKind.i64 (instNew now).S.Next),Cell.sl Cd.eMatch (instNew now).Fired,Cell.sl Cd.eTask (instNew now).Tasks,Cell.sl Cd.eTimer (instNew now).Timers,Cell.sl Cd.eUndo (instNew now).Undos,Cell.lit (Value.int IntKind.i64 (instNew now).State),Cell.lit (Value.int IntKind.i64 (instNew now).Now)]] else Lf [DV.agg [Cell.sl Cd.eItem [],Cell.lit (Value.int IntKind.i64 (1:Int)),Cell.sl Cd.eMatch [],Cell.sl Cd.eTask [],Cell.sl Cd.eTimer [],Cell.sl Cd.eUndo [],Cell.lit (Value.int IntKind.i64 (1:Int)),Cell.lit (Value.int IntKind.i64 now)]] [DV.agg [Cell.sl Cd.eItem (instNew now).S.Items,Cell.lit (Value.int IntKind.i64 (instNew now).S.Next),Cell.sl Cd.eMatch (instNew now).Fired,Cell.sl Cd.eTask (instNew now).Tasks,Cell.sl Cd.eTimer (instNew now).Timers,Cell.sl Cd.eUndo (instNew now).Undos,Cell.lit (Value.int IntKind.i64 (instNew now).State),Cell.lit (Value.int IntKind.i64 (instNew now).Now)]]):=by kernel_rfl
theorem Zo14:Holds EE (14,Zk14):=by
 refine holds_of EE_ok Go.Proofs.Tryz.func14 Zk14 (by kernel_rfl) Zu14 (us_ok _) Za14 (fun(now:Int) hp hb=> ?_)
 have hl_now:=bdI (n:=now) (hb _ m0)
 clear hp hb
 rw[Zv14 now]
 unfold instNew
 refine if_cond (fun h=>Lf_r ?_) (fun h=>Lf_r ?_)
 ·rw[if_neg (by grind)];rfl
 ·rw[if_pos (by grind)];rfl
def Zh14:HH:=⟨_,Zo14⟩
def Zk18:Con UU where
 α:=Int
 md:=[.ro]
 of:=o1 oI
 ds:=fun x=>[dI x]
 pre:=fun _=>[]
 res:=fun now=>⟨[.agg [.sl .eItem (((instNew now)).S).Items,.lit (.int .i64 (((instNew now)).S).Next),.sl .eMatch ((instNew now)).Fired,.sl .eTask ((instNew now)).Tasks,.sl .eTimer ((instNew now)).Timers,.sl .eUndo ((instNew now)).Undos,.lit (.int .i64 ((instNew now)).State),.lit (.int .i64 ((instNew now)).Now)]],true,[]⟩
 law:=l1 lI
def Za18:Zk18.α→Nat→Option (Ann UU):=fun now=>annL []
def Zu18:=us [Zh34]
theorem Zv18(now:Int):goal EE Zu18 Go.Proofs.Tryz.f18 Zk18 Za18 now=(bif !decide ((0:Int)≤now∧now≤(1000000000:Int)) then Lf [DV.agg [Cell.sl Cd.eItem [],Cell.lit (Value.int IntKind.i64 (0:Int)),Cell.sl Cd.eMatch [],Cell.sl Cd.eTask [],Cell.sl Cd.eTimer [],Cell.sl Cd.eUndo [],Cell.lit (Value.int IntKind.i64 (0:Int)),Cell.lit (Value.int IntKind.i64 (0:Int))]] [DV.agg [Cell.sl Cd.eItem (instNew now).S.Items,Cell.lit (Value.int IntKind.i64 (instNew now).S.Next),Cell.sl Cd.eMatch (instNew now).Fired,Cell.sl Cd.eTask (instNew now).Tasks,Cell.sl Cd.eTimer (instNew now).Timers,Cell.sl Cd.eUndo (instNew now).Undos,Cell.lit (Value.int IntKind.i64 (instNew now).State),Cell.lit (Value.int IntKind.i64 (instNew now).Now)]] else Lf [DV.agg [Cell.sl Cd.eItem [],Cell.lit (Value.int IntKind.i64 (1:Int)),Cell.sl Cd.eMatch [],Cell.sl Cd.eTask [],Cell.sl Cd.eTimer [],Cell.sl Cd.eUndo [],Cell.lit (Value.int IntKind.i64 (1:Int)),Cell.lit (Value.int IntKind.i64 now)]] [DV.agg [Cell.sl Cd.eItem (instNew now).S.Items,Cell.lit (Value.int IntKind.i64 (instNew now).S.Next),Cell.sl Cd.eMatch (instNew now).Fired,Cell.sl Cd.eTask (instNew now).Tasks,Cell.sl Cd.eTimer (instNew now).Timers,Cell.sl Cd.eUndo (instNew now).Undos,Cell.lit (Value.int IntKind.i64 (instNew now).State),Cell.lit (Value.int IntKind.i64 (instNew now).Now)]]):=by kernel_rfl
theorem Zo18:Holds EE (18,Zk18):=by
 refine holds_of EE_ok Go.Proofs.Tryz.func18 Zk18 (by kernel_rfl) Zu18 (us_ok _) Za18 (fun(now:Int) hp hb=> ?_)
 have hl_now:=bdI (n:=now) (hb _ m0)
 clear hp hb
 rw[Zv18 now]
 unfold instNew
 refine if_cond (fun h=>Lf_r ?_) (fun h=>Lf_r ?_)
 ·rw[if_neg (by grind)];rfl
 ·rw[if_pos (by grind)];rfl
def Zh18:HH:=⟨_,Zo18⟩
def daRule(x:DRule):DA UU:=⟨true,[.lit (.string x.Name),.lit (.int .i64 x.Sal),.sl .ePat x.Pats,.sl .eCond x.Conds,.sl .eAct x.Acts]⟩
def ruleAt(l:List DRule)(name:ByteArray):Int:=idxI l.length fun k=>decide ((List.getD l k zRule).Name=name)
def defAtR(l:List DRule)(i:Nat):Bool:=ruleOk (List.getD l i zRule)&&decide (ruleAt l (List.getD l i zRule).Name=i)
def defOk(d:DDef):Bool:=nameOk d.Name&&decide (1≤d.Rules.length∧d.Rules.length≤12)&&allI d.Rules.length (defAtR d.Rules)
theorem rule_size{l:List DRule}{i:Int}(h0:0≤i)(h:i<l.length):patArgs (List.getD l i.toNat zRule).Pats≤sizeRuleS l:=by
 have hs:=sum_getD_le sizeRule l zRule h0 h
 have hp:=patArgs_size (List.getD l i.toNat zRule).Pats
 simp only[sizeRule] at hs
 simp only[sizeRuleS,sizeRule];omega
def Zk123:Con UU where
 α:=(List DRule)×(List (DA UU)→Option Value)
 md:=[.ro,.ro]
 of:=oC (oL .eRule) (o1 oF)
 ds:=fun x=>[dL .eRule x.1,dF x.2]
 pre:=fun(l,p)=>[∀j:Nat,j<l.length→p [daRule (List.getD l j zRule)]=some (.bool (boolOf (p [daRule (List.getD l j zRule)])))]
 res:=fun(l,p)=>⟨[.one (.lit (.int .i64 (idxI l.length (fun j=>boolOf (p [daRule (List.getD l j zRule)])))))],true,[]⟩
 law:=lC (lL .eRule) (l1 lF)
def Zi123_2(l:(List DRule))(p:(List (DA UU)→Option Value)):Int×Unit→Prop:=fun(i,_)=>0≤i∧i≤l.length∧∀j:Nat,(j:Int)<i→boolOf (p [daRule (List.getD l j zRule)])=false
def Zm123_2(l:(List DRule))(p:(List (DA UU)→Option Value)):Int×Unit→Nat:=fun(i,_)=>l.length-i.toNat
def Za123:Zk123.α→Nat→Option (Ann UU):=fun(l,p)=>annL [(2,annOf [.slot 8 (8,1024) (.lit (.int .i64))] (fun _=>Zi123_2 l p) (Zm123_2 l p))]
def Zu123:List (FuncId×Con UU):=[]
theorem Zv123(l:(List DRule))(p:(List (DA UU)→Option Value)):goal EE Zu123 Go.Proofs.Tryz.f123 Zk123 Za123 (l,p)=(Zi123_2 l p ((0:Int),())∧
 ∀(y:Int×PUnit),
  let x1:DRule:=List.getD l (Int.toNat y.1) zRule;
  let x0:Bool:=boolOf (p [{agg:=true,cs:=[Cell.lit (Value.string x1.Name),Cell.lit (Value.int IntKind.i64 x1.Sal),Cell.sl Cd.ePat x1.Pats,Cell.sl Cd.eCond x1.Conds,Cell.sl Cd.eAct x1.Acts]:DA UU}]);
  Zi123_2 l p y→bif decide (y.1<(↑(List.length l):Int)) then(0:Int)≤y.1∧Int.toNat y.1<List.length l∧p [{agg:=true,cs:=[Cell.lit (Value.string x1.Name),Cell.lit (Value.int IntKind.i64 x1.Sal),Cell.sl Cd.ePat x1.Pats,Cell.sl Cd.eCond x1.Conds,Cell.sl Cd.eAct x1.Acts]:DA UU}]=some (Value.bool x0)∧bif x0 then Lf [DV.one (Cell.lit (Value.int IntKind.i64 y.1))] [DV.one (Cell.lit (Value.int IntKind.i64 (idxI (List.length l) fun(j:Nat)=>boolOf (p [daRule (List.getD l j zRule)]))))] else Zi123_2 l p (IntKind.wrap IntKind.i64 (y.1+(1:Int)),PUnit.unit)∧Zm123_2 l p (IntKind.wrap IntKind.i64 (y.1+(1:Int)),PUnit.unit)<Zm123_2 l p y else Lf [DV.one (Cell.lit (Value.int IntKind.i64 (-1:Int)))] [DV.one (Cell.lit (Value.int IntKind.i64 (idxI (List.length l) fun(j:Nat)=>boolOf (p [daRule (List.getD l j zRule)]))))]):=by kernel_rfl
theorem Zo123:Holds EE (123,Zk123):=by
 refine holds_of EE_ok Go.Proofs.Tryz.func123 Zk123 (by kernel_rfl) Zu123 all_nil Za123 (fun x hp hb=> ?_)
 obtain⟨l,p⟩:=x
 have hl_l:l.length≤9223372036854775807:=bdL (hb _ m0)
 have hp0:∀j:Nat,j<l.length→p [daRule (List.getD l j zRule)]=some (.bool (boolOf (p [daRule (List.getD l j zRule)]))):=hp _ m0
 clear hp hb
 rw[Zv123 l p]
 dsimp only
 refine⟨⟨by omega,by omega,by intro j hj;omega⟩,?_⟩
 rintro⟨i,⟨⟩⟩ ⟨h1,h2,hR⟩
 simp only[daRule] at*
 refine if_cond (fun hc=> ?_) (fun hc=> ?_)
 ·have hc:=of_decide_eq_true hc
  rw[wrap_i64 (by omega) (by omega)]
  refine⟨by omega,by omega,hp0 i.toNat (by omega),if_cond (fun h=>Lf_i ?_) (fun h=>⟨⟨by omega,by omega,upto_no (p:=fun j=>boolOf (p [daRule (List.getD l j zRule)])) h1 hR h⟩,by simp only[Zm123_2];omega⟩)⟩
  rw[idxI_found (i:=i.toNat) (by omega) h (fun j hj=>hR j (by omega))]
  omega
 ·have hc:=of_decide_eq_false hc
  exact Lf_i (idxI_none (fun j hj=>hR j (by omega))).symm
def Zh123:HH:=⟨_,Zo123⟩
def Zk124:Con UU where
 α:=DRule×ByteArray
 md:=[.ro,.ro]
 of:=fun|[.agg [.lit (.string a0),.lit (.int .i64 a1),.sl .ePat a2,.sl .eCond a3,.sl .eAct a4],.ptr [.lit (.string a5)]]=>some (⟨a0,a1,a2,a3,a4⟩,a5)|_=>none
 ds:=fun(r,name)=>[.agg [.lit (.string r.Name),.lit (.int .i64 r.Sal),.sl .ePat r.Pats,.sl .eCond r.Conds,.sl .eAct r.Acts],.ptr [.lit (.string name)]]
 pre:=fun(r,name)=>[]
 res:=fun(r,name)=>⟨[.one (.lit (.bool (decide (r.Name=name))))],true,[]⟩
 law:=by intro l x h;(try simp only at h);split at h<;>cases h;rfl
def Za124:Zk124.α→Nat→Option (Ann UU):=fun(r,name)=>annL []
def Zu124:List (FuncId×Con UU):=[]
theorem Zv124(r:DRule)(name:ByteArray):goal EE Zu124 Go.Proofs.Tryz.f124 Zk124 Za124 (r,name)=(Lb (ByteArray.toList r.Name==ByteArray.toList name) (decide (r.Name=name))):=by kernel_rfl
theorem Zo124:Holds EE (124,Zk124):=by
 refine holds_of EE_ok Go.Proofs.Tryz.func124 Zk124 (by kernel_rfl) Zu124 all_nil Za124 (fun x hp hb=> ?_)
 obtain⟨r,name⟩:=x
 have hb_r:BdDV (U:=UU) (.agg [.lit (.string r.Name),.lit (.int .i64 r.Sal),.sl .ePat r.Pats,.sl .eCond r.Conds,.sl .eAct r.Acts]):=hb _ (List.mem_cons_self)
 have hl_r_Name:r.Name.size≤9223372036854775807:=Bd.str (hb_r _ (by simp))
 have hl_r_Pats:r.Pats.length≤9223372036854775807:=Bd.len (U:=UU) (τ:=.ePat) (xs:=r.Pats) (hb_r _ (by simp))
 have hl_r_Conds:r.Conds.length≤9223372036854775807:=Bd.len (U:=UU) (τ:=.eCond) (xs:=r.Conds) (hb_r _ (by simp))
 have hl_r_Acts:r.Acts.length≤9223372036854775807:=Bd.len (U:=UU) (τ:=.eAct) (xs:=r.Acts) (hb_r _ (by simp))
 have hb_name:BdDV (U:=UU) (.ptr [.lit (.string name)]):=hb _ (List.mem_cons_of_mem _ (List.mem_cons_self))
 have hl_name:name.size≤9223372036854775807:=Bd.str (hb_name _ (by simp))
 clear hp hb
 rw[Zv124 r name]
 rw[toList_beq]
 exact Lf_rfl _
def Zh124:HH:=⟨_,Zo124⟩
def Zk77:Con UU where
 α:=DDef×ByteArray
 md:=[.ro,.ro]
 of:=oC (oA .eDef) (o1 oS)
 ds:=fun x=>[dA .eDef x.1,dS x.2]
 pre:=fun _=>[]
 res:=fun(d,name)=>⟨[.one (.lit (.int .i64 (ruleAt d.Rules name)))],true,[]⟩
 law:=lC (lA .eDef) (l1 lS)
def Za77:Zk77.α→Nat→Option (Ann UU):=fun(d,name)=>annL []
def Zu77:=us [Zh123,Zh124]
theorem Zv77(d:DDef)(name:ByteArray):goal EE Zu77 Go.Proofs.Tryz.f77 Zk77 Za77 (d,name)=((∀(j:Nat),j<d.Rules.length→closP Zk124 [DV.ptr [Cell.lit (Value.string name)]] [daRule (List.getD d.Rules j zRule)]=some (Value.bool (boolOf (closP Zk124 [DV.ptr [Cell.lit (Value.string name)]] [daRule (List.getD d.Rules j zRule)]))))∧Li (idxI (d.Rules.length) fun(j:Nat)=>boolOf (closP Zk124 [DV.ptr [Cell.lit (Value.string name)]] [daRule (List.getD d.Rules j zRule)])) (ruleAt d.Rules name)):=by kernel_rfl
theorem Zo77:Holds EE (77,Zk77):=by
 refine holds_of EE_ok Go.Proofs.Tryz.func77 Zk77 (by kernel_rfl) Zu77 (us_ok _) Za77 (fun x hp hb=> ?_)
 obtain⟨d,name⟩:=x
 have hz0:=bd_eDef (x:=d) (hb _ m0)
 have hl_d_Name:=hz0.1
 have hl_d_Rules:=hz0.2
 have hl_name:=bdS (s:=name) (hb _ m1)
 clear hp hb
 rw[Zv77 d name]
 have hc:∀x:DRule,closP Zk124 [.ptr [.lit (.string name)]] [daRule x]=some (.bool (decide (x.Name=name))):=fun x=>closP_of (x:=(x,name)) rfl rfl rfl rfl (by simp[Zk124])
 refine⟨fun j hj=> ?_,Lf_i ?_⟩
 ·show closP Zk124 [.ptr [.lit (.string name)]] [daRule (List.getD d.Rules j zRule)]=_
  rw[hc];rfl
 ·exact idxI_congr fun j hj=>by
   show boolOf (closP Zk124 [.ptr [.lit (.string name)]] [daRule (List.getD d.Rules j zRule)])=_
   rw[hc];rfl
def Zh77:HH:=⟨_,Zo77⟩
def Zk67:Con UU where
 α:=DDef×ByteArray
 md:=[.ro,.ro]
 of:=oC (oA .eDef) (o1 oS)
 ds:=fun x=>[dA .eDef x.1,dS x.2]
 pre:=fun _=>[]
 res:=fun(d,name)=>⟨[.one (.lit (.int .i64 (ruleAt d.Rules name)))],true,[]⟩
 law:=lC (lA .eDef) (l1 lS)
def Zi67_2(d:DDef)(name:ByteArray):Int×(ByteArray×List DRule×Unit)×Unit→Prop:=fun(i,fb,_)=>fb=(d.Name,d.Rules,())∧0≤i∧i≤d.Rules.length∧∀j:Nat,(j:Int)<i→decide ((List.getD d.Rules j zRule).Name=name)=false
def Zm67_2(d:DDef)(name:ByteArray):Int×(ByteArray×List DRule×Unit)×Unit→Nat:=fun(i,fb,_)=>d.Rules.length-i.toNat
def Za67:Zk67.α→Nat→Option (Ann UU):=fun(d,name)=>annL [(2,annOf [.slot 5 (5,1024) (.lit (.int .i64)),.box 2 (2,1024) [.lit .str,.shr .eRule]] (fun _=>Zi67_2 d name) (Zm67_2 d name))]
def Zu67:List (FuncId×Con UU):=[]
theorem Zv67(d:DDef)(name:ByteArray):goal EE Zu67 Go.Proofs.Tryz.f67 Zk67 Za67 (d,name)=(Zi67_2 d name ((0:Int),(d.Name,d.Rules,()),())∧
 ∀(y:Int×(ByteArray×List DRule×PUnit)×PUnit),
  let x1:Nat:=List.length y.2.1.2.1;
  let x0:Int:=(↑x1:Int);
  Zi67_2 d name y→bif decide (y.1<x0) then(0:Int)≤y.1∧Int.toNat y.1<x1∧bif ByteArray.toList (List.getD y.2.1.2.1 (Int.toNat y.1) zRule).Name==ByteArray.toList name then Lf [DV.one (Cell.lit (Value.int IntKind.i64 y.1))] [DV.one (Cell.lit (Value.int IntKind.i64 (ruleAt d.Rules name)))] else Zi67_2 d name (IntKind.wrap IntKind.i64 (y.1+(1:Int)),(y.2.1.1,y.2.1.2.1,PUnit.unit),PUnit.unit)∧Zm67_2 d name (IntKind.wrap IntKind.i64 (y.1+(1:Int)),(y.2.1.1,y.2.1.2.1,PUnit.unit),PUnit.unit)<Zm67_2 d name y else Lf [DV.one (Cell.lit (Value.int IntKind.i64 (-1:Int)))] [DV.one (Cell.lit (Value.int IntKind.i64 (ruleAt d.Rules name)))]):=by kernel_rfl
theorem Zo67:Holds EE (67,Zk67):=by
 refine holds_of EE_ok Go.Proofs.Tryz.func67 Zk67 (by kernel_rfl) Zu67 all_nil Za67 (fun x hp hb=> ?_)
 obtain⟨d,name⟩:=x
 have hz0:=bd_eDef (x:=d) (hb _ m0)
 have hl_d_Name:=hz0.1
 have hl_d_Rules:=hz0.2
 have hl_name:=bdS (s:=name) (hb _ m1)
 clear hp hb
 rw[Zv67 d name]
 dsimp only
 refine⟨⟨rfl,by omega,by omega,by intro j hj;omega⟩,?_⟩
 rintro⟨i,fb,⟨⟩⟩ ⟨rfl,h1,h2,hR⟩
 simp only
 refine if_cond (fun hc=> ?_) (fun hc=> ?_)
 ·have hc:i<d.Rules.length:=of_decide_eq_true hc
  simp(disch:=omega) only[wrap_i64,toList_beq]
  refine⟨by omega,by omega,if_cond (fun h=>Lf_i ?_) (fun h=>⟨⟨rfl,by omega,by omega,upto_no (p:=fun j=>decide ((List.getD d.Rules j zRule).Name=name)) h1 hR h⟩,by simp only[Zm67_2];omega⟩)⟩
  rw[ruleAt,idxI_found (i:=i.toNat) (by omega) h (fun j hj=>hR j (by omega))]
  omega
 ·have hc:¬i<d.Rules.length:=of_decide_eq_false hc
  exact Lf_i (idxI_none (fun j hj=>hR j (by omega))).symm
def Zh67:HH:=⟨_,Zo67⟩
def Zk31:Con UU where
 α:=DDef
 md:=[.ro]
 of:=o1 (oA .eDef)
 ds:=fun x=>[dA .eDef x]
 pre:=fun d=>[sizeDef d≤4294967295]
 res:=fun d=>⟨[.one (.lit (.bool (defOk d)))],true,[]⟩
 law:=l1 (lA .eDef)
def Zi31_2(d:DDef):Int×(ByteArray×List DRule×Unit)×Unit→Prop:=fun(i,b,_)=>b=(d.Name,d.Rules,())∧0≤i∧i≤d.Rules.length∧∀j:Nat,(j:Int)<i→defAtR d.Rules j=true
def Zm31_2(d:DDef):Int×(ByteArray×List DRule×Unit)×Unit→Nat:=fun(i,b,_)=>d.Rules.length-i.toNat
def Za31:Zk31.α→Nat→Option (Ann UU):=fun d=>annL [(2,annOf [.slot 3 (3,1024) (.lit (.int .i64)),.box 1 (1,1024) [.lit .str,.shr .eRule]] (fun _=>Zi31_2 d) (Zm31_2 d))]
def Zu31:=us [Zh66,Zh67,Zh68,Zh30]
theorem Zv31(d:DDef):goal EE Zu31 Go.Proofs.Tryz.f31 Zk31 Za31 d=(Zi31_2 d ((0:Int),(d.Name,d.Rules,()),())∧
 ∀(y:Int×(ByteArray×List DRule×PUnit)×PUnit),
  let x1:DRule:=List.getD y.2.1.2.1 (Int.toNat y.1) zRule;
  let x2:Nat:=List.length y.2.1.2.1;
  let x0:Int:=(↑x2:Int);
  Zi31_2 d y→bif decide (y.1<x0) then(0:Int)≤y.1∧Int.toNat y.1<x2∧patArgs x1.Pats≤(4294967295:Nat)∧bif !ruleOk x1 then Lf [DV.one (Cell.lit (Value.bool false))] [DV.one (Cell.lit (Value.bool (defOk d)))] else(0:Int)≤y.1∧Int.toNat y.1<x2∧bif ruleAt y.2.1.2.1 x1.Name !=y.1 then Lf [DV.one (Cell.lit (Value.bool false))] [DV.one (Cell.lit (Value.bool (defOk d)))] else Zi31_2 d (IntKind.wrap IntKind.i64 (y.1+(1:Int)),(y.2.1.1,y.2.1.2.1,PUnit.unit),PUnit.unit)∧Zm31_2 d (IntKind.wrap IntKind.i64 (y.1+(1:Int)),(y.2.1.1,y.2.1.2.1,PUnit.unit),PUnit.unit)<Zm31_2 d y else bif nameOk y.2.1.1 then Lf [DV.one (Cell.lit (Value.bool (decide ((1:Int)≤x0∧x0≤(12:Int)))))] [DV.one (Cell.lit (Value.bool (defOk d)))] else Lf [DV.one (Cell.lit (Value.bool false))] [DV.one (Cell.lit (Value.bool (defOk d)))]):=by kernel_rfl
theorem Zo31:Holds EE (31,Zk31):=by
 refine holds_of EE_ok Go.Proofs.Tryz.func31 Zk31 (by kernel_rfl) Zu31 (us_ok _) Za31 (fun(d:DDef) hp hb=> ?_)
 have hz0:=bd_eDef (x:=d) (hb _ m0)
 have hl_d_Name:=hz0.1
 have hl_d_Rules:=hz0.2
 have hp0:sizeDef d≤4294967295:=hp _ m0
 clear hp hb
 rw[Zv31 d]
 dsimp only
 refine⟨⟨rfl,by omega,by omega,by intro j hj;omega⟩,?_⟩
 rintro⟨i,⟨b1,b2,⟨⟩⟩,⟨⟩⟩ ⟨hbx,h1,h2,hR⟩
 cases hbx
 simp only
 refine if_dec (fun hc=> ?_) (fun hc=> ?_)
 ·have hN:defAtR d.Rules i.toNat=false→defOk d=false:=fun h=>by
   have hf:allI d.Rules.length (defAtR d.Rules)=false:=allI_false (j:=i.toNat) (by omega) h
   simp only[defOk,hf,Bool.and_false]
  have hs:=rule_size h1 hc
  simp only[sizeDef] at hp0
  have ei:((i.toNat:Nat):Int)=i:=by omega
  rw[wrap_i64 (by omega) (by omega)]
  refine⟨by omega,by omega,by omega,if_not (fun g=>Lf_ff (hN (by simp only[defAtR,g,Bool.false_and]))) (fun g=>⟨by omega,by omega,if_not (fun k=>Lf_ff (hN ?_)) (fun k=>⟨⟨rfl,by omega,by omega,upto_step h1 hR ?_⟩,by simp only[Zm31_2];omega⟩)⟩)⟩
  ·simp only[defAtR,ei,g,Bool.true_and];exact decide_eq_false (by simpa using k)
  ·simp only[defAtR,ei,g,Bool.true_and];exact decide_eq_true (eq_of_beq k)
 ·have hA:allI d.Rules.length (defAtR d.Rules)=true:=allI_true fun j hj=>hR j (by omega)
  simp only[defOk,hA,Bool.and_true]
  refine if_cond (fun h=>Lf_b ?_) (fun h=>Lf_b ?_)
  ·rw[h,Bool.true_and];exact decide_eq_decide.2 (by omega)
  ·rw[h,Bool.false_and]
def Zh31:HH:=⟨_,Zo31⟩
def Zk35:Con UU where
 α:=DDef
 md:=[.ro]
 of:=o1 (oA .eDef)
 ds:=fun x=>[dA .eDef x]
 pre:=fun _=>[]
 res:=fun d=>⟨[.one (.lit (.bool (defOk d)))],true,[]⟩
 law:=l1 (lA .eDef)
def Zi35_4(d:DDef):Int×(ByteArray×List DRule×Unit)×Unit→Prop:=fun(i,b,_)=>b=(d.Name,d.Rules,())∧nameOk d.Name=true∧(1≤d.Rules.length∧d.Rules.length≤12)∧0≤i∧i≤d.Rules.length∧∀j:Nat,(j:Int)<i→defAtR d.Rules j=true
def Zm35_4(d:DDef):Int×(ByteArray×List DRule×Unit)×Unit→Nat:=fun(i,b,_)=>d.Rules.length-i.toNat
def Za35:Zk35.α→Nat→Option (Ann UU):=fun d=>annL [(4,annOf [.slot 19 (19,1024) (.lit (.int .i64)),.box 1 (1,1024) [.lit .str,.shr .eRule]] (fun _=>Zi35_4 d) (Zm35_4 d))]
def Zu35:=us [Zh76,Zh77,Zh75,Zh74]
theorem Zv35(d:DDef):goal EE Zu35 Go.Proofs.Tryz.f35 Zk35 Za35 d=(let x0:Int:=(d.Rules.length:Int);
bif !nameOk d.Name then Lf [DV.one (Cell.lit (Value.bool false))] [DV.one (Cell.lit (Value.bool (defOk d)))] else bif !decide ((1:Int)≤x0∧x0≤(12:Int)) then Lf [DV.one (Cell.lit (Value.bool false))] [DV.one (Cell.lit (Value.bool (defOk d)))] else Zi35_4 d ((0:Int),(d.Name,d.Rules,PUnit.unit),PUnit.unit)∧∀(y:Int×(ByteArray×List DRule×PUnit)×PUnit),Zi35_4 d y→bif decide (y.1<x0) then(0:Int)≤y.1∧Int.toNat y.1<List.length d.Rules∧bif !ruleOk (List.getD d.Rules (Int.toNat y.1) zRule) then Lf [DV.one (Cell.lit (Value.bool false))] [DV.one (Cell.lit (Value.bool (defOk d)))] else bif ruleAt y.2.1.2.1 (List.getD d.Rules (Int.toNat y.1) zRule).Name !=y.1 then Lf [DV.one (Cell.lit (Value.bool false))] [DV.one (Cell.lit (Value.bool (defOk d)))] else Zi35_4 d (IntKind.wrap IntKind.i64 (y.1+(1:Int)),(y.2.1.1,y.2.1.2.1,PUnit.unit),PUnit.unit)∧Zm35_4 d (IntKind.wrap IntKind.i64 (y.1+(1:Int)),(y.2.1.1,y.2.1.2.1,PUnit.unit),PUnit.unit)<Zm35_4 d y else Lf [DV.one (Cell.lit (Value.bool true))] [DV.one (Cell.lit (Value.bool (defOk d)))]):=by kernel_rfl
theorem Zo35:Holds EE (35,Zk35):=by
 refine holds_of EE_ok Go.Proofs.Tryz.func35 Zk35 (by kernel_rfl) Zu35 (us_ok _) Za35 (fun(d:DDef) hp hb=> ?_)
 have hz0:=bd_eDef (x:=d) (hb _ m0)
 have hl_d_Name:=hz0.1
 have hl_d_Rules:=hz0.2
 clear hp hb
 rw[Zv35 d]
 dsimp only
 refine if_not (fun a1=>Lf_ff (by simp only[defOk,a1,Bool.false_and])) (fun a1=>if_not (fun a2=>Lf_ff ?_) (fun a2=> ?_))
 ·have a2:=of_decide_eq_false a2
  simp only[defOk];rw[decide_eq_false (p:=1≤d.Rules.length∧d.Rules.length≤12) (by omega),Bool.and_false,Bool.false_and]
 have a2:=of_decide_eq_true a2
 refine⟨⟨rfl,a1,by omega,by omega,by omega,by intro j hj;omega⟩,?_⟩
 rintro⟨i,⟨b1,b2,⟨⟩⟩,⟨⟩⟩ ⟨hbx,a3,a4,h1,h2,hR⟩
 cases hbx
 simp only
 refine if_dec (fun hc=> ?_) (fun hc=> ?_)
 ·have hN:defAtR d.Rules i.toNat=false→defOk d=false:=fun h=>by
   have hf:allI d.Rules.length (defAtR d.Rules)=false:=allI_false (j:=i.toNat) (by omega) h
   simp only[defOk,hf,Bool.and_false]
  have ei:((i.toNat:Nat):Int)=i:=by omega
  rw[wrap_i64 (by omega) (by omega)]
  refine⟨by omega,by omega,if_not (fun g=>Lf_ff (hN (by simp only[defAtR,g,Bool.false_and]))) (fun g=>if_not (fun k=>Lf_ff (hN ?_)) (fun k=>⟨⟨rfl,a3,a4,by omega,by omega,upto_step h1 hR ?_⟩,by simp only[Zm35_4];omega⟩))⟩
  ·simp only[defAtR,ei,g,Bool.true_and];exact decide_eq_false (by simpa using k)
  ·simp only[defAtR,ei,g,Bool.true_and];exact decide_eq_true (eq_of_beq k)
 ·have hA:allI d.Rules.length (defAtR d.Rules)=true:=allI_true fun j hj=>hR j (by omega)
  refine Lf_tt ?_
  simp only[defOk,hA,a3,decide_eq_true a4];rfl
def Zh35:HH:=⟨_,Zo35⟩
def Zk127:Con UU where
 α:=DItem×DItem
 md:=[.ro,.ro]
 of:=oC (oA .eItem) (o1 (oA .eItem))
 ds:=fun x=>[dA .eItem x.1,dA .eItem x.2]
 pre:=fun _=>[]
 res:=fun(a,b)=>⟨[.one (.lit (.bool (decide (a=b))))],true,[]⟩
 law:=lC (lA .eItem) (l1 (lA .eItem))
def Za127:Zk127.α→Nat→Option (Ann UU):=fun(a,b)=>annL []
def Zu127:=us [Zh130]
theorem Zv127(a:DItem)(b:DItem):goal EE Zu127 Go.Proofs.Tryz.f127 Zk127 Za127 (a,b)=(bif a.Id !=b.Id then Lb false (decide (a=b)) else bif !decide (a.F=b.F) then Lb false (decide (a=b)) else Lb true (decide (a=b))):=by kernel_rfl
theorem Zo127:Holds EE (127,Zk127):=by
 refine holds_of EE_ok Go.Proofs.Tryz.func127 Zk127 (by kernel_rfl) Zu127 (us_ok _) Za127 (fun x hp hb=> ?_)
 obtain⟨a,b⟩:=x
 have hz0:=bd_eItem (x:=a) (hb _ m0)
 have hl_a_F_Kind:=hz0.1
 have hl_a_F_Fields:=hz0.2
 have hz1:=bd_eItem (x:=b) (hb _ m1)
 have hl_b_F_Kind:=hz1.1
 have hl_b_F_Fields:=hz1.2
 clear hp hb
 rw[Zv127 a b]
 obtain⟨aId,aF⟩:=a
 obtain⟨bId,bF⟩:=b
 repeat' (apply if_cond<;>intro _)
 all_goals (first|apply Lf_t|apply Lf_f)<;>simp_all
def Zh127:HH:=⟨_,Zo127⟩
def Zk79:Con UU where
 α:=(List DItem)×(List DItem)
 md:=[.ro,.ro]
 of:=oC (oL .eItem) (o1 (oL .eItem))
 ds:=fun x=>[dL .eItem x.1,dL .eItem x.2]
 pre:=fun _=>[]
 res:=fun(a,b)=>⟨[.one (.lit (.bool (decide (a=b))))],true,[]⟩
 law:=lC (lL .eItem) (l1 (lL .eItem))
def Zi79_4(a:(List DItem))(b:(List DItem)):Int×Unit→Prop:=eqI a b
def Zm79_4(a:(List DItem))(b:(List DItem)):Int×Unit→Nat:=rM1 a
def Za79:Zk79.α→Nat→Option (Ann UU):=fun(a,b)=>annL [(4,annOf [.slot 5 (5,1024) (.lit (.int .i64))] (fun _=>Zi79_4 a b) (Zm79_4 a b))]
def Zu79:=us [Zh127]
theorem Zv79(a:(List DItem))(b:(List DItem)):goal EE Zu79 Go.Proofs.Tryz.f79 Zk79 Za79 (a,b)=(eqV zItem a b):=by kernel_rfl
theorem Zo79:Holds EE (79,Zk79):=by
 refine holds_of EE_ok Go.Proofs.Tryz.func79 Zk79 (by kernel_rfl) Zu79 (us_ok _) Za79 (fun x hp hb=> ?_)
 obtain⟨a,b⟩:=x
 have hl_a:a.length≤9223372036854775807:=bdL (hb _ m0)
 have hl_b:b.length≤9223372036854775807:=bdL (hb _ m1)
 clear hp hb
 rw[Zv79 a b]
 exact eqV_ok hl_a
def Zh79:HH:=⟨_,Zo79⟩
def Zk91:Con UU where
 α:=(List DItem)×Int
 md:=[.wr,.ro]
 of:=oC (oL .eItem) (o1 oI)
 ds:=fun x=>[dL .eItem x.1,dI x.2]
 pre:=fun(a,k)=>[0≤k,k+cntItemS a≤4611686018427387904]
 res:=fun(a,k)=>⟨[.one (.lit (.int .i64 (k+cntItemS a)))],true,[.one (.sl .eItem (markItemS a k))]⟩
 law:=lC (lL .eItem) (l1 lI)
def Zi91_2(a:(List DItem))(k:Int):List DItem×Int×Int×Unit→Prop:=fun(row,kk,i,_)=>0≤i∧i≤a.length∧row=(mkS markItem cntItem a k).take i.toNat++a.drop i.toNat∧kk=k+ctS cntItem (a.take i.toNat)
def Zm91_2(a:(List DItem))(k:Int):List DItem×Int×Int×Unit→Nat:=fun(row,kk,i,_)=>a.length-i.toNat
def Za91:Zk91.α→Nat→Option (Ann UU):=fun(a,k)=>annL [(2,annOf [.slot 0 (2000000,0) (.own .eItem true),.slot 1 (1,1024) (.lit (.int .i64)),.slot 5 (5,1024) (.lit (.int .i64))] (fun _=>Zi91_2 a k) (Zm91_2 a k))]
def Zu91:=us [Zh45,Zh94]
theorem Zv91(a:(List DItem))(k:Int):goal EE Zu91 Go.Proofs.Tryz.f91 Zk91 Za91 (a,k)=(Zi91_2 a k (a,k,(0:Int),())∧
 ∀(y:List DItem×Int×Int×PUnit),
  let x1:Nat:=Int.toNat y.2.2.1;
  let x3:Int:=IntKind.wrap IntKind.i64 (y.2.1+(1:Int));
  let x4:List DItem:=List.modify y.1 x1 fun(x:DItem)=>{Id:=y.2.1,F:=x.F:DItem};
  let x0:List DItem:=List.modify x4 x1 fun(x:DItem)=>{Id:=x.Id,F:={Kind:=markText x3,Fields:=x.F.Fields:DFact}:DItem};
  let x2:Int:=IntKind.wrap IntKind.i64 (x3+(1:Int));
  let x5:Int:=x2+(↑(cntValS (List.getD x0 x1 zItem).F.Fields):Int);
  Zi91_2 a k y→bif decide (y.2.2.1<(↑(List.length y.1):Int)) then(0:Int)≤y.2.2.1∧x1<List.length y.1∧x1<List.length y.1∧x3≤(4611686018427387903:Int)∧(0:Int)≤y.2.2.1∧x1<List.length x4∧x1<List.length x4∧(0:Int)≤y.2.2.1∧x1<List.length x0∧x1<List.length x0∧x1<List.length x0∧(0:Int)≤x2∧x5≤(4611686018427387904:Int)∧Zi91_2 a k (List.modify x0 x1 fun(x:DItem)=>{Id:=x.Id,F:={Kind:=x.F.Kind,Fields:=markValS (List.getD x0 x1 zItem).F.Fields x2:DFact}:DItem},x5,IntKind.wrap IntKind.i64 (y.2.2.1+(1:Int)),PUnit.unit)∧Zm91_2 a k (List.modify x0 x1 fun(x:DItem)=>{Id:=x.Id,F:={Kind:=x.F.Kind,Fields:=markValS (List.getD x0 x1 zItem).F.Fields x2:DFact}:DItem},x5,IntKind.wrap IntKind.i64 (y.2.2.1+(1:Int)),PUnit.unit)<Zm91_2 a k y else asD [DV.one (Cell.lit (Value.int IntKind.i64 y.2.1))]=asD [DV.one (Cell.lit (Value.int IntKind.i64 (k+(↑(cntItemS a):Int))))]∧asD [DV.one (Cell.sl Cd.eItem y.1)]=asD [DV.one (Cell.sl Cd.eItem (markItemS a k))]):=by kernel_rfl
theorem Zo91:Holds EE (91,Zk91):=by
 refine holds_of EE_ok Go.Proofs.Tryz.func91 Zk91 (by kernel_rfl) Zu91 (us_ok _) Za91 (fun x hp hb=> ?_)
 obtain⟨a,k⟩:=x
 have hl_a:a.length≤9223372036854775807:=bdL (hb _ m0)
 have hl_k:=bdI (n:=k) (hb _ m1)
 have hp0:0≤k:=hp _ m0
 have hp1:k+cntItemS a≤4611686018427387904:=hp _ m1
 clear hp hb
 rw[Zv91 a k]
 dsimp only
 refine⟨⟨by omega,by omega,by simp,by simp[ctS]⟩,?_⟩
 rintro⟨row,kk,i,⟨⟩⟩ ⟨h1,h2,rfl,rfl⟩
 simp only
 have hl:=mk_rl markItem cntItem a k h1 h2
 refine if_cond (fun hc=> ?_) (fun hc=> ?_)
 ·have hc:i<a.length:=by have hc:=of_decide_eq_true hc;omega
  have hct:=ctS_take cntItem a zItem h1 hc
  have hle:=ctS_take_le cntItem a (i+1).toNat
  have hg:=mk_getD _ a zItem (mk_tl markItem cntItem a k h1 h2) h1 hc
  have hM:=fun F hF=>mkS_mod markItem cntItem a zItem k (i:=i) F h1 hc hF
  have hq:(cntItemS a:Int)=ctS cntItem a:=rfl
  generalize List.getD a i.toNat zItem=x at*
  generalize hkk:k+(ctS cntItem (a.take i.toNat):Int)=kk at*
  generalize List.take i.toNat (mkS markItem cntItem a k)++List.drop i.toNat a=R at*
  simp only[cntItem] at hct
  simp(disch:=first|omega|(simp only[List.length_modify];omega)) only[List.length_modify,wrap_i64,getD_modify,modify_modify,hg,hl]
  repeat' (first|refine And.intro (by omega) ?_|fail)
  exact⟨⟨by omega,by omega,hM _ (by first|rfl|(simp only[markItem,markBool];rw[Int.tmod_eq_emod_of_nonneg (by omega)];rfl)),by omega⟩,by simp only[Zm91_2];omega⟩
 ·have hc:a.length≤i:=by have hc:=of_decide_eq_false hc;omega
  rw[mk_done markItem cntItem a k hc,ct_done cntItem a hc]
  exact⟨rfl,rfl⟩
def Zh91:HH:=⟨_,Zo91⟩
def Zk96:Con UU where
 α:=(List DItem)×Int
 md:=[.ro,.ro]
 of:=oC (oL .eItem) (o1 oI)
 ds:=fun x=>[dL .eItem x.1,dI x.2]
 pre:=fun(a,k)=>[0≤k,k+cntItemS a≤4611686018427387904]
 res:=fun(a,k)=>⟨[.one (.lit (.int .i64 (if markItemS a k=a then k+cntItemS a else-1)))],true,[]⟩
 law:=lC (lL .eItem) (l1 lI)
def Zi96_2(a:(List DItem))(k:Int):Int×Int×Unit→Prop:=fun(kk,i,_)=>0≤i∧i≤a.length∧kk=k+ctS cntItem (a.take i.toNat)∧(mkS markItem cntItem (a.drop i.toNat) kk=a.drop i.toNat↔mkS markItem cntItem a k=a)
def Zm96_2(a:(List DItem))(k:Int):Int×Int×Unit→Nat:=fun(kk,i,_)=>a.length-i.toNat
def Za96:Zk96.α→Nat→Option (Ann UU):=fun(a,k)=>annL [(2,annOf [.slot 1 (1,1024) (.lit (.int .i64)),.slot 5 (5,1024) (.lit (.int .i64))] (fun _=>Zi96_2 a k) (Zm96_2 a k))]
def Zu96:=us [Zh45,Zh99]
theorem Zv96(a:(List DItem))(k:Int):goal EE Zu96 Go.Proofs.Tryz.f96 Zk96 Za96 (a,k)=(Zi96_2 a k (k,(0:Int),())∧
 ∀(y:Int×Int×PUnit),
  let x4:Nat:=Int.toNat y.2.1;
  let x6:Int:=IntKind.wrap IntKind.i64 (y.1+(1:Int));
  let x3:DItem:=List.getD a x4 zItem;
  let x5:Int:=IntKind.wrap IntKind.i64 (x6+(1:Int));
  let x2:DFact:=x3.F;
  let x1:List DVal:=x2.Fields;
  let x0:Int:=if markValS x1 x5=x1 then x5+(↑(cntValS x1):Int) else(-1:Int);
  Zi96_2 a k y→bif decide (y.2.1<(↑(List.length a):Int)) then(0:Int)≤y.2.1∧x4<List.length a∧bif x3.Id !=y.1 then Lf [DV.one (Cell.lit (Value.int IntKind.i64 (-1:Int)))] [DV.one (Cell.lit (Value.int IntKind.i64 (if markItemS a k=a then k+(↑(cntItemS a):Int) else(-1:Int))))] else(0:Int)≤y.2.1∧x4<List.length a∧x6≤(4611686018427387903:Int)∧bif !ByteArray.toList x2.Kind==ByteArray.toList (markText x6) then Lf [DV.one (Cell.lit (Value.int IntKind.i64 (-1:Int)))] [DV.one (Cell.lit (Value.int IntKind.i64 (if markItemS a k=a then k+(↑(cntItemS a):Int) else(-1:Int))))] else(0:Int)≤y.2.1∧x4<List.length a∧(0:Int)≤x5∧x5+(↑(cntValS x1):Int)≤(4611686018427387904:Int)∧bif decide (x0<(0:Int)) then Lf [DV.one (Cell.lit (Value.int IntKind.i64 (-1:Int)))] [DV.one (Cell.lit (Value.int IntKind.i64 (if markItemS a k=a then k+(↑(cntItemS a):Int) else(-1:Int))))] else Zi96_2 a k (x0,IntKind.wrap IntKind.i64 (y.2.1+(1:Int)),PUnit.unit)∧Zm96_2 a k (x0,IntKind.wrap IntKind.i64 (y.2.1+(1:Int)),PUnit.unit)<Zm96_2 a k y else Lf [DV.one (Cell.lit (Value.int IntKind.i64 y.1))] [DV.one (Cell.lit (Value.int IntKind.i64 (if markItemS a k=a then k+(↑(cntItemS a):Int) else(-1:Int))))]):=by kernel_rfl
theorem Zo96:Holds EE (96,Zk96):=by
 refine holds_of EE_ok Go.Proofs.Tryz.func96 Zk96 (by kernel_rfl) Zu96 (us_ok _) Za96 (fun x hp hb=> ?_)
 obtain⟨a,k⟩:=x
 have hl_a:a.length≤9223372036854775807:=bdL (hb _ m0)
 have hl_k:=bdI (n:=k) (hb _ m1)
 have hp0:0≤k:=hp _ m0
 have hp1:k+cntItemS a≤4611686018427387904:=hp _ m1
 clear hp hb
 rw[Zv96 a k]
 dsimp only
 refine⟨⟨by omega,by omega,by simp[ctS],by simp⟩,?_⟩
 rintro⟨kk,i,⟨⟩⟩ ⟨h1,h2,hkk,hR⟩
 simp only
 simp only[markItemS]
 refine if_cond (fun hc=> ?_) (fun hc=> ?_)
 ·have hc:i<a.length:=by have hc:=of_decide_eq_true hc;omega
  have hct:=ctS_take cntItem a zItem h1 hc
  have hle:=ctS_take_le cntItem a (i+1).toNat
  have hq:(cntItemS a:Int)=ctS cntItem a:=rfl
  rw[drop_step a zItem h1 hc] at hR
  generalize List.getD a i.toNat zItem=x at*
  simp only[mkS,List.cons.injEq] at hR
  have e:kk+(cntItem x:Int)=kk+1+1+(cntValS x.F.Fields:Int):=by first|(simp only[cntItem];done)|(simp only[cntItem];omega)
  rw[e] at hR
  simp only[markItem,cntItem] at hR hct
  simp(disch:=omega) only[wrap_i64,bne_int,toList_beq]
  obtain⟨x_Id,⟨x_F_Kind,x_F_Fields⟩⟩:=x
  simp only[DFact.mk.injEq,DItem.mk.injEq] at*
  repeat' (first|refine And.intro (by omega) ?_|fail)
  refine if_cond (fun h=>Lf_no (fun hh=> ?_)) (fun h=> ?_)
  ·have hh:=hR.2 hh;simp_all
  have h:x_Id=kk:=by simpa using h
  subst x_Id
  repeat' (first|refine And.intro (by omega) ?_|fail)
  refine if_cond (fun h=>Lf_no (fun hh=> ?_)) (fun h=> ?_)
  ·have hh:=hR.2 hh;simp_all
  have h:x_F_Kind=markText (kk+1):=by simpa using h
  subst x_F_Kind
  repeat' (first|refine And.intro (by omega) ?_|fail)
  by_cases hm:markValS x_F_Fields (kk+1+1)=x_F_Fields
  rotate_left
  ·simp only[if_neg hm];rw[cond_yes (by decide)]
   exact Lf_no (fun hh=>hm (by have hh:=hR.2 hh;simp_all))
  simp only[if_pos hm]
  refine if_cond (fun h=>absurd (of_decide_eq_true h) (by omega)) (fun h=> ?_)
  simp only[hm] at hR
  clear hm
  exact⟨⟨by omega,by omega,by omega,by simpa using hR⟩,by simp only[Zm96_2];omega⟩
 ·have hc:a.length≤i:=by have hc:=of_decide_eq_false hc;omega
  rw[drop_end a hc] at hR
  exact Lf_yes (hR.1 rfl) (by rw[hkk,ct_done _ _ hc];rfl)
def Zh96:HH:=⟨_,Zo96⟩
def Zk37:Con UU where
 α:=DStore×DStore
 md:=[.ro,.ro]
 of:=oC (oA .eStore) (o1 (oA .eStore))
 ds:=fun x=>[dA .eStore x.1,dA .eStore x.2]
 pre:=fun _=>[]
 res:=fun(a,b)=>⟨[.one (.lit (.bool (decide (a=b))))],true,[]⟩
 law:=lC (lA .eStore) (l1 (lA .eStore))
def Za37:Zk37.α→Nat→Option (Ann UU):=fun(a,b)=>annL []
def Zu37:=us [Zh79]
theorem Zv37(a:DStore)(b:DStore):goal EE Zu37 Go.Proofs.Tryz.f37 Zk37 Za37 (a,b)=(bif !decide (a.Items=b.Items) then Lb false (decide (a=b)) else bif a.Next !=b.Next then Lb false (decide (a=b)) else Lb true (decide (a=b))):=by kernel_rfl
theorem Zo37:Holds EE (37,Zk37):=by
 refine holds_of EE_ok Go.Proofs.Tryz.func37 Zk37 (by kernel_rfl) Zu37 (us_ok _) Za37 (fun x hp hb=> ?_)
 obtain⟨a,b⟩:=x
 have hl_a_Items:=bd_eStore (x:=a) (hb _ m0)
 have hl_b_Items:=bd_eStore (x:=b) (hb _ m1)
 clear hp hb
 rw[Zv37 a b]
 obtain⟨aItems,aNext⟩:=a
 obtain⟨bItems,bNext⟩:=b
 repeat' (apply if_cond<;>intro _)
 all_goals (first|apply Lf_t|apply Lf_f)<;>simp_all
def Zh37:HH:=⟨_,Zo37⟩
def Zk49:Con UU where
 α:=DStore×Int
 md:=[.wr,.ro]
 of:=oC (oA .eStore) (o1 oI)
 ds:=fun x=>[dA .eStore x.1,dI x.2]
 pre:=fun(a,k)=>[0≤k,k+ctStore a≤4611686018427387904]
 res:=fun(a,k)=>⟨[.one (.lit (.int .i64 (k+ctStore a)))],true,[.agg [.sl .eItem ((mkStore a k)).Items,.lit (.int .i64 ((mkStore a k)).Next)]]⟩
 law:=lC (lA .eStore) (l1 lI)
def Za49:Zk49.α→Nat→Option (Ann UU):=fun(a,k)=>annL []
def Zu49:=us [Zh91]
theorem Zv49(a:DStore)(k:Int):goal EE Zu49 Go.Proofs.Tryz.f49 Zk49 Za49 (a,k)=((0:Int)≤k∧k+(↑(cntItemS a.Items):Int)≤(4611686018427387904:Int)∧asD [DV.one (Cell.lit (Value.int IntKind.i64 (k+(↑(cntItemS a.Items):Int))))]=asD [DV.one (Cell.lit (Value.int IntKind.i64 (k+(↑(ctStore a):Int))))]∧asD [DV.agg [Cell.sl Cd.eItem (markItemS a.Items k),Cell.lit (Value.int IntKind.i64 a.Next)]]=asD [DV.agg [Cell.sl Cd.eItem (mkStore a k).Items,Cell.lit (Value.int IntKind.i64 (mkStore a k).Next)]]):=by kernel_rfl
theorem Zo49:Holds EE (49,Zk49):=by
 refine holds_of EE_ok Go.Proofs.Tryz.func49 Zk49 (by kernel_rfl) Zu49 (us_ok _) Za49 (fun x hp hb=> ?_)
 obtain⟨a,k⟩:=x
 have hl_a_Items:=bd_eStore (x:=a) (hb _ m0)
 have hl_k:=bdI (n:=k) (hb _ m1)
 have hp0:0≤k:=hp _ m0
 have hp1:k+ctStore a≤4611686018427387904:=hp _ m1
 clear hp hb
 rw[Zv49 a k]
 simp only[ctStore] at hp1
 repeat' (first|refine And.intro (by omega) ?_|fail)
 exact⟨by simp only[ctStore,Int.natCast_add,Int.add_assoc],rfl⟩
def Zh49:HH:=⟨_,Zo49⟩
def Zk56:Con UU where
 α:=DStore×Int
 md:=[.ro,.ro]
 of:=oC (oA .eStore) (o1 oI)
 ds:=fun x=>[dA .eStore x.1,dI x.2]
 pre:=fun(a,k)=>[0≤k,k+ctStore a≤4611686018427387904]
 res:=fun(a,k)=>⟨[.one (.lit (.int .i64 (if mkStore a k=a then k+ctStore a else-1)))],true,[]⟩
 law:=lC (lA .eStore) (l1 lI)
def Za56:Zk56.α→Nat→Option (Ann UU):=fun(a,k)=>annL []
def Zu56:=us [Zh96]
theorem Zv56(a:DStore)(k:Int):goal EE Zu56 Go.Proofs.Tryz.f56 Zk56 Za56 (a,k)=(let x0:Int:=if markItemS a.Items k=a.Items then k+(↑(cntItemS a.Items):Int) else(-1:Int);
(0:Int)≤k∧k+(↑(cntItemS a.Items):Int)≤(4611686018427387904:Int)∧bif decide (x0<(0:Int)) then Lf [DV.one (Cell.lit (Value.int IntKind.i64 (-1:Int)))] [DV.one (Cell.lit (Value.int IntKind.i64 (if mkStore a k=a then k+(↑(ctStore a):Int) else(-1:Int))))] else Lf [DV.one (Cell.lit (Value.int IntKind.i64 x0))] [DV.one (Cell.lit (Value.int IntKind.i64 (if mkStore a k=a then k+(↑(ctStore a):Int) else(-1:Int))))]):=by kernel_rfl
theorem Zo56:Holds EE (56,Zk56):=by
 refine holds_of EE_ok Go.Proofs.Tryz.func56 Zk56 (by kernel_rfl) Zu56 (us_ok _) Za56 (fun x hp hb=> ?_)
 obtain⟨a,k⟩:=x
 have hl_a_Items:=bd_eStore (x:=a) (hb _ m0)
 have hl_k:=bdI (n:=k) (hb _ m1)
 have hp0:0≤k:=hp _ m0
 have hp1:k+ctStore a≤4611686018427387904:=hp _ m1
 clear hp hb
 rw[Zv56 a k]
 dsimp only
 simp only[ctStore] at hp1
 repeat' (first|refine And.intro (by omega) ?_|fail)
 by_cases hm1:markItemS a.Items (k)=a.Items
 rotate_left
 ·simp only[if_neg hm1];rw[cond_yes (by decide)]
  exact Lf_no (fun hh=>hm1 (congrArg (fun t:DStore=>t.Items) hh))
 simp only[if_pos hm1]
 refine if_cond (fun h=>absurd (of_decide_eq_true h) (by omega)) (fun h=> ?_)
 exact Lf_yes (by simp only[mkStore,hm1]) (by simp only[ctStore];try omega)
def Zh56:HH:=⟨_,Zo56⟩
def Zk139:Con UU where
 α:=DArg×Int
 md:=[.ro,.ro]
 of:=oC (oA .lArg) (o1 oI)
 ds:=fun x=>[dA .lArg x.1,dI x.2]
 pre:=fun(a,left)=>[0≤left]
 res:=fun(a,left)=>⟨[.one (.lit (.int .i64 (szr left (sizeArg a))))],true,[]⟩
 law:=lC (lA .lArg) (l1 lI)
def Za139:Zk139.α→Nat→Option (Ann UU):=fun(a,left)=>annL []
def Zu139:=us [Zh167]
theorem Zv139(a:DArg)(left:Int):goal EE Zu139 Go.Proofs.Tryz.f139 Zk139 Za139 (a,left)=(let x0:Int:=IntKind.wrap IntKind.i64 (left-(↑(ByteArray.size a.S):Int));
bif decide (x0<(0:Int)) then Lf [DV.one (Cell.lit (Value.int IntKind.i64 (-1:Int)))] [DV.one (Cell.lit (Value.int IntKind.i64 (szr left (sizeArg a))))] else(0:Int)≤x0∧bif decide (szr x0 (sizeVal a.V)<(0:Int)) then Lf [DV.one (Cell.lit (Value.int IntKind.i64 (-1:Int)))] [DV.one (Cell.lit (Value.int IntKind.i64 (szr left (sizeArg a))))] else Lf [DV.one (Cell.lit (Value.int IntKind.i64 (szr x0 (sizeVal a.V))))] [DV.one (Cell.lit (Value.int IntKind.i64 (szr left (sizeArg a))))]):=by kernel_rfl
theorem Zo139:Holds EE (139,Zk139):=by
 refine holds_of EE_ok Go.Proofs.Tryz.func139 Zk139 (by kernel_rfl) Zu139 (us_ok _) Za139 (fun x hp hb=> ?_)
 obtain⟨a,left⟩:=x
 have hz0:=bd_lArg (x:=a) (hb _ m0)
 have hl_a_S:=hz0.1
 have hl_a_V_S:=hz0.2
 have hl_left:=bdI (n:=left) (hb _ m1)
 have hp0:0≤left:=hp _ m0
 clear hp hb
 rw[Zv139 a left]
 dsimp only
 rw[wrap_i64 (by omega) (by omega)]
 refine if_cond (fun h=>Lf_i (szr_bad' ?_)) (fun h=> ?_)
 ·have h:=of_decide_eq_true h;simp only[sizeArg];omega
 have h0:=of_decide_eq_false h
 refine⟨by omega,if_cond (fun h=>Lf_i (szr_bad' ?_)) (fun h=> ?_)⟩
 ·have h:=szr_neg h;simp only[sizeArg];omega
 obtain⟨e1,h1⟩:=szr_pos h
 rw[e1]
 exact Lf_i (by rw[←szr_ok' (by simp only[sizeArg];omega)];simp only[sizeArg];try omega)
def Zh139:HH:=⟨_,Zo139⟩
def Zk150:Con UU where
 α:=DArg
 md:=[.ro]
 of:=o1 (oA .lArg)
 ds:=fun x=>[dA .lArg x]
 pre:=fun a=>[sizeArg a≤4294967296]
 res:=fun a=>⟨[.agg [.lit (.int .i64 a.K),.lit (.string a.S),.lit (.int .i64 a.V.K),.lit (.int .i64 a.V.N),.lit (.string a.V.S)]],true,[]⟩
 law:=l1 (lA .lArg)
def Za150:Zk150.α→Nat→Option (Ann UU):=fun a=>annL []
def Zu150:=us [Zh171]
theorem Zv150(a:DArg):goal EE Zu150 Go.Proofs.Tryz.f150 Zk150 Za150 a=(sizeVal a.V≤(4294967296:Nat)∧Lf [DV.agg [Cell.lit (Value.int IntKind.i64 a.K),Cell.lit (Value.string a.S),Cell.lit (Value.int IntKind.i64 a.V.K),Cell.lit (Value.int IntKind.i64 a.V.N),Cell.lit (Value.string a.V.S)]] [DV.agg [Cell.lit (Value.int IntKind.i64 a.K),Cell.lit (Value.string a.S),Cell.lit (Value.int IntKind.i64 a.V.K),Cell.lit (Value.int IntKind.i64 a.V.N),Cell.lit (Value.string a.V.S)]]):=by kernel_rfl
theorem Zo150:Holds EE (150,Zk150):=by
 refine holds_of EE_ok Go.Proofs.Tryz.func150 Zk150 (by kernel_rfl) Zu150 (us_ok _) Za150 (fun(a:DArg) hp hb=> ?_)
 have hz0:=bd_lArg (x:=a) (hb _ m0)
 have hl_a_S:=hz0.1
 have hl_a_V_S:=hz0.2
 have hp0:sizeArg a≤4294967296:=hp _ m0
 clear hp hb
 rw[Zv150 a]
 simp only[sizeArg] at hp0
 repeat' (first|exact Lf_rfl _|(refine And.intro (by omega) ?_))
def Zh150:HH:=⟨_,Zo150⟩
def Zk165:Con UU where
 α:=DArg×DArg
 md:=[.ro,.ro]
 of:=oC (oA .eArg) (o1 (oA .eArg))
 ds:=fun x=>[dA .eArg x.1,dA .eArg x.2]
 pre:=fun _=>[]
 res:=fun(a,b)=>⟨[.one (.lit (.bool (decide (a=b))))],true,[]⟩
 law:=lC (lA .eArg) (l1 (lA .eArg))
def Za165:Zk165.α→Nat→Option (Ann UU):=fun(a,b)=>annL []
def Zu165:=us [Zh131]
theorem Zv165(a:DArg)(b:DArg):goal EE Zu165 Go.Proofs.Tryz.f165 Zk165 Za165 (a,b)=(bif a.K !=b.K then Lb false (decide (a=b)) else bif !ByteArray.toList a.S==ByteArray.toList b.S then Lb false (decide (a=b)) else bif !decide (a.V=b.V) then Lb false (decide (a=b)) else Lb true (decide (a=b))):=by kernel_rfl
theorem Zo165:Holds EE (165,Zk165):=by
 refine holds_of EE_ok Go.Proofs.Tryz.func165 Zk165 (by kernel_rfl) Zu165 (us_ok _) Za165 (fun x hp hb=> ?_)
 obtain⟨a,b⟩:=x
 have hz0:=bd_eArg (x:=a) (hb _ m0)
 have hl_a_S:=hz0.1
 have hl_a_V_S:=hz0.2
 have hz1:=bd_eArg (x:=b) (hb _ m1)
 have hl_b_S:=hz1.1
 have hl_b_V_S:=hz1.2
 clear hp hb
 rw[Zv165 a b]
 obtain⟨aK,aS,aV⟩:=a
 obtain⟨bK,bS,bV⟩:=b
 repeat' (apply if_cond<;>intro _)
 all_goals (first|apply Lf_t|apply Lf_f)<;>simp_all
def Zh165:HH:=⟨_,Zo165⟩
def Zk138:Con UU where
 α:=(List DArg)×Int
 md:=[.ro,.ro]
 of:=oC (oL .lArg) (o1 oI)
 ds:=fun x=>[dL .lArg x.1,dI x.2]
 pre:=fun(a,left)=>[0≤left]
 res:=fun(a,left)=>⟨[.one (.lit (.int .i64 (szr left (sizeArgS a))))],true,[]⟩
 law:=lC (lL .lArg) (l1 lI)
def Zi138_5(a:(List DArg))(left:Int):Int×Int×Unit→Prop:=szI sizeArg a (sizeArgS a) left
def Zm138_5(a:(List DArg))(left:Int):Int×Int×Unit→Nat:=rM2 a
def Za138:Zk138.α→Nat→Option (Ann UU):=fun(a,left)=>annL [(5,annOf [.slot 1 (1,1024) (.lit (.int .i64)),.slot 5 (5,1024) (.lit (.int .i64))] (fun _=>Zi138_5 a left) (Zm138_5 a left))]
def Zu138:=us [Zh139]
theorem Zv138(a:(List DArg))(left:Int):goal EE Zu138 Go.Proofs.Tryz.f138 Zk138 Za138 (a,left)=(szV sizeArg zArg a (sizeArgS a) left):=by kernel_rfl
theorem Zo138:Holds EE (138,Zk138):=by
 refine holds_of EE_ok Go.Proofs.Tryz.func138 Zk138 (by kernel_rfl) Zu138 (us_ok _) Za138 (fun x hp hb=> ?_)
 obtain⟨a,left⟩:=x
 have hl_a:a.length≤9223372036854775807:=bdL (hb _ m0)
 have hl_left:=bdI (n:=left) (hb _ m1)
 have hp0:0≤left:=hp _ m0
 clear hp hb
 rw[Zv138 a left]
 exact szV_ok rfl hp0 hl_left hl_a
def Zh138:HH:=⟨_,Zo138⟩
def Zk149:Con UU where
 α:=(List DArg)
 md:=[.ro]
 of:=o1 (oL .lArg)
 ds:=fun x=>[dL .lArg x]
 pre:=fun a=>[sizeArgS a≤4294967296]
 res:=fun a=>⟨[.one (.sl .eArg a)],true,[]⟩
 law:=l1 (lL .lArg)
def Zi149_3(a:(List DArg)):List DArg×Int×Unit→Prop:=toI zArg a
def Zm149_3(a:(List DArg)):List DArg×Int×Unit→Nat:=rM2 a
def Za149:Zk149.α→Nat→Option (Ann UU):=fun a=>annL [(3,annOf [.slot 3 (3,1024) (.own .eArg true),.slot 4 (4,1024) (.lit (.int .i64))] (fun _=>Zi149_3 a) (Zm149_3 a))]
def Zu149:=us [Zh150]
theorem Zv149(a:(List DArg)):goal EE Zu149 Go.Proofs.Tryz.f149 Zk149 Za149 a=(toV sizeArg zArg a fun y=>Lf [.one (.sl .eArg y)] [.one (.sl .eArg a)]):=by kernel_rfl
theorem Zo149:Holds EE (149,Zk149):=by
 refine holds_of EE_ok Go.Proofs.Tryz.func149 Zk149 (by kernel_rfl) Zu149 (us_ok _) Za149 (fun(a:(List DArg)) hp hb=> ?_)
 have hl_a:a.length≤9223372036854775807:=bdL (hb _ m0)
 have hp0:sizeArgS a≤4294967296:=hp _ m0
 clear hp hb
 rw[Zv149 a]
 exact toV_ok hp0 (Lf_rfl _)
def Zh149:HH:=⟨_,Zo149⟩
def Zk164:Con UU where
 α:=(List DArg)×(List DArg)
 md:=[.ro,.ro]
 of:=oC (oL .eArg) (o1 (oL .eArg))
 ds:=fun x=>[dL .eArg x.1,dL .eArg x.2]
 pre:=fun _=>[]
 res:=fun(a,b)=>⟨[.one (.lit (.bool (decide (a=b))))],true,[]⟩
 law:=lC (lL .eArg) (l1 (lL .eArg))
def Zi164_4(a:(List DArg))(b:(List DArg)):Int×Unit→Prop:=eqI a b
def Zm164_4(a:(List DArg))(b:(List DArg)):Int×Unit→Nat:=rM1 a
def Za164:Zk164.α→Nat→Option (Ann UU):=fun(a,b)=>annL [(4,annOf [.slot 5 (5,1024) (.lit (.int .i64))] (fun _=>Zi164_4 a b) (Zm164_4 a b))]
def Zu164:=us [Zh165]
theorem Zv164(a:(List DArg))(b:(List DArg)):goal EE Zu164 Go.Proofs.Tryz.f164 Zk164 Za164 (a,b)=(eqV zArg a b):=by kernel_rfl
theorem Zo164:Holds EE (164,Zk164):=by
 refine holds_of EE_ok Go.Proofs.Tryz.func164 Zk164 (by kernel_rfl) Zu164 (us_ok _) Za164 (fun x hp hb=> ?_)
 obtain⟨a,b⟩:=x
 have hl_a:a.length≤9223372036854775807:=bdL (hb _ m0)
 have hl_b:b.length≤9223372036854775807:=bdL (hb _ m1)
 clear hp hb
 rw[Zv164 a b]
 exact eqV_ok hl_a
def Zh164:HH:=⟨_,Zo164⟩
def Zk89:Con UU where
 α:=(List DArg)×Int
 md:=[.wr,.ro]
 of:=oC (oL .eArg) (o1 oI)
 ds:=fun x=>[dL .eArg x.1,dI x.2]
 pre:=fun(a,k)=>[0≤k,k+cntArgS a≤4611686018427387904]
 res:=fun(a,k)=>⟨[.one (.lit (.int .i64 (k+cntArgS a)))],true,[.one (.sl .eArg (markArgS a k))]⟩
 law:=lC (lL .eArg) (l1 lI)
def Zi89_2(a:(List DArg))(k:Int):List DArg×Int×Int×Unit→Prop:=fun(row,kk,i,_)=>0≤i∧i≤a.length∧row=(mkS markArg cntArg a k).take i.toNat++a.drop i.toNat∧kk=k+ctS cntArg (a.take i.toNat)
def Zm89_2(a:(List DArg))(k:Int):List DArg×Int×Int×Unit→Nat:=fun(row,kk,i,_)=>a.length-i.toNat
def Za89:Zk89.α→Nat→Option (Ann UU):=fun(a,k)=>annL [(2,annOf [.slot 0 (2000000,0) (.own .eArg true),.slot 1 (1,1024) (.lit (.int .i64)),.slot 5 (5,1024) (.lit (.int .i64))] (fun _=>Zi89_2 a k) (Zm89_2 a k))]
def Zu89:=us [Zh45]
theorem Zv89(a:(List DArg))(k:Int):goal EE Zu89 Go.Proofs.Tryz.f89 Zk89 Za89 (a,k)=(Zi89_2 a k (a,k,(0:Int),())∧
 ∀(y:List DArg×Int×Int×PUnit),
  let x0:Nat:=Int.toNat y.2.2.1;
  let x5:Int:=IntKind.wrap IntKind.i64 (y.2.1+(1:Int));
  let x6:List DArg:=List.modify y.1 x0 fun(x:DArg)=>{K:=y.2.1,S:=x.S,V:=x.V:DArg};
  let x7:Int:=IntKind.wrap IntKind.i64 (IntKind.wrap IntKind.i64 (x5+(1:Int))+(1:Int));
  let x3:Int:=IntKind.wrap IntKind.i64 (x7+(1:Int));
  let x4:List DArg:=List.modify x6 x0 fun(x:DArg)=>{K:=x.K,S:=markText x5,V:=x.V:DArg};
  let x2:List DArg:=List.modify x4 x0 fun(x:DArg)=>{K:=x.K,S:=x.S,V:={K:=IntKind.wrap IntKind.i64 (x5+(1:Int)),N:=x.V.N,S:=x.V.S:DVal}:DArg};
  let x1:List DArg:=List.modify x2 x0 fun(x:DArg)=>{K:=x.K,S:=x.S,V:={K:=x.V.K,N:=x7,S:=x.V.S:DVal}:DArg};
  Zi89_2 a k y→bif decide (y.2.2.1<(↑(List.length y.1):Int)) then(0:Int)≤y.2.2.1∧x0<List.length y.1∧x0<List.length y.1∧x5≤(4611686018427387903:Int)∧(0:Int)≤y.2.2.1∧x0<List.length x6∧x0<List.length x6∧(0:Int)≤y.2.2.1∧x0<List.length x4∧x0<List.length x4∧(0:Int)≤y.2.2.1∧x0<List.length x2∧x0<List.length x2∧x3≤(4611686018427387903:Int)∧(0:Int)≤y.2.2.1∧x0<List.length x1∧x0<List.length x1∧Zi89_2 a k (List.modify x1 x0 fun(x:DArg)=>{K:=x.K,S:=x.S,V:={K:=x.V.K,N:=x.V.N,S:=markText x3:DVal}:DArg},IntKind.wrap IntKind.i64 (x3+(1:Int)),IntKind.wrap IntKind.i64 (y.2.2.1+(1:Int)),PUnit.unit)∧Zm89_2 a k (List.modify x1 x0 fun(x:DArg)=>{K:=x.K,S:=x.S,V:={K:=x.V.K,N:=x.V.N,S:=markText x3:DVal}:DArg},IntKind.wrap IntKind.i64 (x3+(1:Int)),IntKind.wrap IntKind.i64 (y.2.2.1+(1:Int)),PUnit.unit)<Zm89_2 a k y else asD [DV.one (Cell.lit (Value.int IntKind.i64 y.2.1))]=asD [DV.one (Cell.lit (Value.int IntKind.i64 (k+(↑(cntArgS a):Int))))]∧asD [DV.one (Cell.sl Cd.eArg y.1)]=asD [DV.one (Cell.sl Cd.eArg (markArgS a k))]):=by kernel_rfl
theorem Zo89:Holds EE (89,Zk89):=by
 refine holds_of EE_ok Go.Proofs.Tryz.func89 Zk89 (by kernel_rfl) Zu89 (us_ok _) Za89 (fun x hp hb=> ?_)
 obtain⟨a,k⟩:=x
 have hl_a:a.length≤9223372036854775807:=bdL (hb _ m0)
 have hl_k:=bdI (n:=k) (hb _ m1)
 have hp0:0≤k:=hp _ m0
 have hp1:k+cntArgS a≤4611686018427387904:=hp _ m1
 clear hp hb
 rw[Zv89 a k]
 dsimp only
 refine⟨⟨by omega,by omega,by simp,by simp[ctS]⟩,?_⟩
 rintro⟨row,kk,i,⟨⟩⟩ ⟨h1,h2,rfl,rfl⟩
 simp only
 have hl:=mk_rl markArg cntArg a k h1 h2
 refine if_cond (fun hc=> ?_) (fun hc=> ?_)
 ·have hc:i<a.length:=by have hc:=of_decide_eq_true hc;omega
  have hct:=ctS_take cntArg a zArg h1 hc
  have hle:=ctS_take_le cntArg a (i+1).toNat
  have hg:=mk_getD _ a zArg (mk_tl markArg cntArg a k h1 h2) h1 hc
  have hM:=fun F hF=>mkS_mod markArg cntArg a zArg k (i:=i) F h1 hc hF
  have hq:(cntArgS a:Int)=ctS cntArg a:=rfl
  generalize List.getD a i.toNat zArg=x at*
  generalize hkk:k+(ctS cntArg (a.take i.toNat):Int)=kk at*
  generalize List.take i.toNat (mkS markArg cntArg a k)++List.drop i.toNat a=R at*
  simp only[cntArg] at hct
  simp(disch:=first|omega|(simp only[List.length_modify];omega)) only[List.length_modify,wrap_i64,getD_modify,modify_modify,hg,hl]
  repeat' (first|refine And.intro (by omega) ?_|fail)
  exact⟨⟨by omega,by omega,hM _ (by first|rfl|(simp only[markArg,markBool];rw[Int.tmod_eq_emod_of_nonneg (by omega)];rfl)),by omega⟩,by simp only[Zm89_2];omega⟩
 ·have hc:a.length≤i:=by have hc:=of_decide_eq_false hc;omega
  rw[mk_done markArg cntArg a k hc,ct_done cntArg a hc]
  exact⟨rfl,rfl⟩
def Zh89:HH:=⟨_,Zo89⟩
def Zk101:Con UU where
 α:=DPat×Int
 md:=[.ro,.ro]
 of:=oC (oA .lPat) (o1 oI)
 ds:=fun x=>[dA .lPat x.1,dI x.2]
 pre:=fun(a,left)=>[0≤left]
 res:=fun(a,left)=>⟨[.one (.lit (.int .i64 (szr left (sizePat a))))],true,[]⟩
 law:=lC (lA .lPat) (l1 lI)
def Za101:Zk101.α→Nat→Option (Ann UU):=fun(a,left)=>annL []
def Zu101:=us [Zh138]
theorem Zv101(a:DPat)(left:Int):goal EE Zu101 Go.Proofs.Tryz.f101 Zk101 Za101 (a,left)=(let x0:Int:=IntKind.wrap IntKind.i64 (left-(↑(ByteArray.size a.Kind):Int));
bif decide (x0<(0:Int)) then Lf [DV.one (Cell.lit (Value.int IntKind.i64 (-1:Int)))] [DV.one (Cell.lit (Value.int IntKind.i64 (szr left (sizePat a))))] else(0:Int)≤x0∧bif decide (szr x0 (sizeArgS a.Args)<(0:Int)) then Lf [DV.one (Cell.lit (Value.int IntKind.i64 (-1:Int)))] [DV.one (Cell.lit (Value.int IntKind.i64 (szr left (sizePat a))))] else Lf [DV.one (Cell.lit (Value.int IntKind.i64 (szr x0 (sizeArgS a.Args))))] [DV.one (Cell.lit (Value.int IntKind.i64 (szr left (sizePat a))))]):=by kernel_rfl
theorem Zo101:Holds EE (101,Zk101):=by
 refine holds_of EE_ok Go.Proofs.Tryz.func101 Zk101 (by kernel_rfl) Zu101 (us_ok _) Za101 (fun x hp hb=> ?_)
 obtain⟨a,left⟩:=x
 have hz0:=bd_lPat (x:=a) (hb _ m0)
 have hl_a_Kind:=hz0.1
 have hl_a_Args:=hz0.2
 have hl_left:=bdI (n:=left) (hb _ m1)
 have hp0:0≤left:=hp _ m0
 clear hp hb
 rw[Zv101 a left]
 dsimp only
 rw[wrap_i64 (by omega) (by omega)]
 refine if_cond (fun h=>Lf_i (szr_bad' ?_)) (fun h=> ?_)
 ·have h:=of_decide_eq_true h;simp only[sizePat];omega
 have h0:=of_decide_eq_false h
 refine⟨by omega,if_cond (fun h=>Lf_i (szr_bad' ?_)) (fun h=> ?_)⟩
 ·have h:=szr_neg h;simp only[sizePat];omega
 obtain⟨e1,h1⟩:=szr_pos h
 rw[e1]
 exact Lf_i (by rw[←szr_ok' (by simp only[sizePat];omega)];simp only[sizePat];try omega)
def Zh101:HH:=⟨_,Zo101⟩
def Zk111:Con UU where
 α:=DPat
 md:=[.ro]
 of:=o1 (oA .lPat)
 ds:=fun x=>[dA .lPat x]
 pre:=fun a=>[sizePat a≤4294967296]
 res:=fun a=>⟨[.agg [.lit (.string a.Kind),.sl .eArg a.Args,.lit (.bool a.Not)]],true,[]⟩
 law:=l1 (lA .lPat)
def Za111:Zk111.α→Nat→Option (Ann UU):=fun a=>annL []
def Zu111:=us [Zh149]
theorem Zv111(a:DPat):goal EE Zu111 Go.Proofs.Tryz.f111 Zk111 Za111 a=(sizeArgS a.Args≤(4294967296:Nat)∧Lf [DV.agg [Cell.lit (Value.string a.Kind),Cell.sl Cd.eArg a.Args,Cell.lit (Value.bool a.Not)]] [DV.agg [Cell.lit (Value.string a.Kind),Cell.sl Cd.eArg a.Args,Cell.lit (Value.bool a.Not)]]):=by kernel_rfl
theorem Zo111:Holds EE (111,Zk111):=by
 refine holds_of EE_ok Go.Proofs.Tryz.func111 Zk111 (by kernel_rfl) Zu111 (us_ok _) Za111 (fun(a:DPat) hp hb=> ?_)
 have hz0:=bd_lPat (x:=a) (hb _ m0)
 have hl_a_Kind:=hz0.1
 have hl_a_Args:=hz0.2
 have hp0:sizePat a≤4294967296:=hp _ m0
 clear hp hb
 rw[Zv111 a]
 simp only[sizePat] at hp0
 repeat' (first|exact Lf_rfl _|(refine And.intro (by omega) ?_))
def Zh111:HH:=⟨_,Zo111⟩
def Zk133:Con UU where
 α:=DPat×DPat
 md:=[.ro,.ro]
 of:=oC (oA .ePat) (o1 (oA .ePat))
 ds:=fun x=>[dA .ePat x.1,dA .ePat x.2]
 pre:=fun _=>[]
 res:=fun(a,b)=>⟨[.one (.lit (.bool (decide (a=b))))],true,[]⟩
 law:=lC (lA .ePat) (l1 (lA .ePat))
def Za133:Zk133.α→Nat→Option (Ann UU):=fun(a,b)=>annL []
def Zu133:=us [Zh164]
theorem Zv133(a:DPat)(b:DPat):goal EE Zu133 Go.Proofs.Tryz.f133 Zk133 Za133 (a,b)=(bif !ByteArray.toList a.Kind==ByteArray.toList b.Kind then Lb false (decide (a=b)) else bif !decide (a.Args=b.Args) then Lb false (decide (a=b)) else bif !a.Not==b.Not then Lb false (decide (a=b)) else Lb true (decide (a=b))):=by kernel_rfl
theorem Zo133:Holds EE (133,Zk133):=by
 refine holds_of EE_ok Go.Proofs.Tryz.func133 Zk133 (by kernel_rfl) Zu133 (us_ok _) Za133 (fun x hp hb=> ?_)
 obtain⟨a,b⟩:=x
 have hz0:=bd_ePat (x:=a) (hb _ m0)
 have hl_a_Kind:=hz0.1
 have hl_a_Args:=hz0.2
 have hz1:=bd_ePat (x:=b) (hb _ m1)
 have hl_b_Kind:=hz1.1
 have hl_b_Args:=hz1.2
 clear hp hb
 rw[Zv133 a b]
 obtain⟨aKind,aArgs,aNot⟩:=a
 obtain⟨bKind,bArgs,bNot⟩:=b
 repeat' (apply if_cond<;>intro _)
 all_goals (first|apply Lf_t|apply Lf_f)<;>simp_all
def Zh133:HH:=⟨_,Zo133⟩
def Zk63:Con UU where
 α:=(List DPat)×Int
 md:=[.ro,.ro]
 of:=oC (oL .lPat) (o1 oI)
 ds:=fun x=>[dL .lPat x.1,dI x.2]
 pre:=fun(a,left)=>[0≤left]
 res:=fun(a,left)=>⟨[.one (.lit (.int .i64 (szr left (sizePatS a))))],true,[]⟩
 law:=lC (lL .lPat) (l1 lI)
def Zi63_5(a:(List DPat))(left:Int):Int×Int×Unit→Prop:=szI sizePat a (sizePatS a) left
def Zm63_5(a:(List DPat))(left:Int):Int×Int×Unit→Nat:=rM2 a
def Za63:Zk63.α→Nat→Option (Ann UU):=fun(a,left)=>annL [(5,annOf [.slot 1 (1,1024) (.lit (.int .i64)),.slot 5 (5,1024) (.lit (.int .i64))] (fun _=>Zi63_5 a left) (Zm63_5 a left))]
def Zu63:=us [Zh101]
theorem Zv63(a:(List DPat))(left:Int):goal EE Zu63 Go.Proofs.Tryz.f63 Zk63 Za63 (a,left)=(szV sizePat zPat a (sizePatS a) left):=by kernel_rfl
theorem Zo63:Holds EE (63,Zk63):=by
 refine holds_of EE_ok Go.Proofs.Tryz.func63 Zk63 (by kernel_rfl) Zu63 (us_ok _) Za63 (fun x hp hb=> ?_)
 obtain⟨a,left⟩:=x
 have hl_a:a.length≤9223372036854775807:=bdL (hb _ m0)
 have hl_left:=bdI (n:=left) (hb _ m1)
 have hp0:0≤left:=hp _ m0
 clear hp hb
 rw[Zv63 a left]
 exact szV_ok rfl hp0 hl_left hl_a
def Zh63:HH:=⟨_,Zo63⟩
def Zk71:Con UU where
 α:=(List DPat)
 md:=[.ro]
 of:=o1 (oL .lPat)
 ds:=fun x=>[dL .lPat x]
 pre:=fun a=>[sizePatS a≤4294967296]
 res:=fun a=>⟨[.one (.sl .ePat a)],true,[]⟩
 law:=l1 (lL .lPat)
def Zi71_3(a:(List DPat)):List DPat×Int×Unit→Prop:=toI zPat a
def Zm71_3(a:(List DPat)):List DPat×Int×Unit→Nat:=rM2 a
def Za71:Zk71.α→Nat→Option (Ann UU):=fun a=>annL [(3,annOf [.slot 3 (3,1024) (.own .ePat true),.slot 4 (4,1024) (.lit (.int .i64))] (fun _=>Zi71_3 a) (Zm71_3 a))]
def Zu71:=us [Zh111]
theorem Zv71(a:(List DPat)):goal EE Zu71 Go.Proofs.Tryz.f71 Zk71 Za71 a=(toV sizePat zPat a fun y=>Lf [.one (.sl .ePat y)] [.one (.sl .ePat a)]):=by kernel_rfl
theorem Zo71:Holds EE (71,Zk71):=by
 refine holds_of EE_ok Go.Proofs.Tryz.func71 Zk71 (by kernel_rfl) Zu71 (us_ok _) Za71 (fun(a:(List DPat)) hp hb=> ?_)
 have hl_a:a.length≤9223372036854775807:=bdL (hb _ m0)
 have hp0:sizePatS a≤4294967296:=hp _ m0
 clear hp hb
 rw[Zv71 a]
 exact toV_ok hp0 (Lf_rfl _)
def Zh71:HH:=⟨_,Zo71⟩
def Zk86:Con UU where
 α:=(List DPat)×(List DPat)
 md:=[.ro,.ro]
 of:=oC (oL .ePat) (o1 (oL .ePat))
 ds:=fun x=>[dL .ePat x.1,dL .ePat x.2]
 pre:=fun _=>[]
 res:=fun(a,b)=>⟨[.one (.lit (.bool (decide (a=b))))],true,[]⟩
 law:=lC (lL .ePat) (l1 (lL .ePat))
def Zi86_4(a:(List DPat))(b:(List DPat)):Int×Unit→Prop:=eqI a b
def Zm86_4(a:(List DPat))(b:(List DPat)):Int×Unit→Nat:=rM1 a
def Za86:Zk86.α→Nat→Option (Ann UU):=fun(a,b)=>annL [(4,annOf [.slot 5 (5,1024) (.lit (.int .i64))] (fun _=>Zi86_4 a b) (Zm86_4 a b))]
def Zu86:=us [Zh133]
theorem Zv86(a:(List DPat))(b:(List DPat)):goal EE Zu86 Go.Proofs.Tryz.f86 Zk86 Za86 (a,b)=(eqV zPat a b):=by kernel_rfl
theorem Zo86:Holds EE (86,Zk86):=by
 refine holds_of EE_ok Go.Proofs.Tryz.func86 Zk86 (by kernel_rfl) Zu86 (us_ok _) Za86 (fun x hp hb=> ?_)
 obtain⟨a,b⟩:=x
 have hl_a:a.length≤9223372036854775807:=bdL (hb _ m0)
 have hl_b:b.length≤9223372036854775807:=bdL (hb _ m1)
 clear hp hb
 rw[Zv86 a b]
 exact eqV_ok hl_a
def Zh86:HH:=⟨_,Zo86⟩
def Zk46:Con UU where
 α:=(List DPat)×Int
 md:=[.wr,.ro]
 of:=oC (oL .ePat) (o1 oI)
 ds:=fun x=>[dL .ePat x.1,dI x.2]
 pre:=fun(a,k)=>[0≤k,k+cntPatS a≤4611686018427387904]
 res:=fun(a,k)=>⟨[.one (.lit (.int .i64 (k+cntPatS a)))],true,[.one (.sl .ePat (markPatS a k))]⟩
 law:=lC (lL .ePat) (l1 lI)
def Zi46_2(a:(List DPat))(k:Int):List DPat×Int×Int×Unit→Prop:=fun(row,kk,i,_)=>0≤i∧i≤a.length∧row=(mkS markPat cntPat a k).take i.toNat++a.drop i.toNat∧kk=k+ctS cntPat (a.take i.toNat)
def Zm46_2(a:(List DPat))(k:Int):List DPat×Int×Int×Unit→Nat:=fun(row,kk,i,_)=>a.length-i.toNat
def Za46:Zk46.α→Nat→Option (Ann UU):=fun(a,k)=>annL [(2,annOf [.slot 0 (2000000,0) (.own .ePat true),.slot 1 (1,1024) (.lit (.int .i64)),.slot 5 (5,1024) (.lit (.int .i64))] (fun _=>Zi46_2 a k) (Zm46_2 a k))]
def Zu46:=us [Zh45,Zh89]
theorem Zv46(a:(List DPat))(k:Int):goal EE Zu46 Go.Proofs.Tryz.f46 Zk46 Za46 (a,k)=(Zi46_2 a k (a,k,(0:Int),())∧
 ∀(y:List DPat×Int×Int×PUnit),
  let x2:Nat:=Int.toNat y.2.2.1;
  let x3:List DPat:=List.modify y.1 x2 fun(x:DPat)=>{Kind:=markText y.2.1,Args:=x.Args,Not:=x.Not:DPat};
  let x4:Int:=IntKind.wrap IntKind.i64 (y.2.1+(1:Int));
  let x0:Int:=x4+(↑(cntArgS (List.getD x3 x2 zPat).Args):Int);
  let x1:List DPat:=List.modify x3 x2 fun(x:DPat)=>{Kind:=x.Kind,Args:=markArgS (List.getD x3 x2 zPat).Args x4,Not:=x.Not:DPat};
  Zi46_2 a k y→bif decide (y.2.2.1<(↑(List.length y.1):Int)) then y.2.1≤(4611686018427387903:Int)∧(0:Int)≤y.2.2.1∧x2<List.length y.1∧x2<List.length y.1∧(0:Int)≤y.2.2.1∧x2<List.length x3∧x2<List.length x3∧x2<List.length x3∧(0:Int)≤x4∧x0≤(4611686018427387904:Int)∧(3:Int)≠(0:Int)∧(0:Int)≤y.2.2.1∧x2<List.length x1∧x2<List.length x1∧Zi46_2 a k (List.modify x1 x2 fun(x:DPat)=>{Kind:=x.Kind,Args:=x.Args,Not:=Int.tmod x0 (3:Int)==(0:Int):DPat},IntKind.wrap IntKind.i64 (x0+(1:Int)),IntKind.wrap IntKind.i64 (y.2.2.1+(1:Int)),PUnit.unit)∧Zm46_2 a k (List.modify x1 x2 fun(x:DPat)=>{Kind:=x.Kind,Args:=x.Args,Not:=Int.tmod x0 (3:Int)==(0:Int):DPat},IntKind.wrap IntKind.i64 (x0+(1:Int)),IntKind.wrap IntKind.i64 (y.2.2.1+(1:Int)),PUnit.unit)<Zm46_2 a k y else asD [DV.one (Cell.lit (Value.int IntKind.i64 y.2.1))]=asD [DV.one (Cell.lit (Value.int IntKind.i64 (k+(↑(cntPatS a):Int))))]∧asD [DV.one (Cell.sl Cd.ePat y.1)]=asD [DV.one (Cell.sl Cd.ePat (markPatS a k))]):=by kernel_rfl
theorem Zo46:Holds EE (46,Zk46):=by
 refine holds_of EE_ok Go.Proofs.Tryz.func46 Zk46 (by kernel_rfl) Zu46 (us_ok _) Za46 (fun x hp hb=> ?_)
 obtain⟨a,k⟩:=x
 have hl_a:a.length≤9223372036854775807:=bdL (hb _ m0)
 have hl_k:=bdI (n:=k) (hb _ m1)
 have hp0:0≤k:=hp _ m0
 have hp1:k+cntPatS a≤4611686018427387904:=hp _ m1
 clear hp hb
 rw[Zv46 a k]
 dsimp only
 refine⟨⟨by omega,by omega,by simp,by simp[ctS]⟩,?_⟩
 rintro⟨row,kk,i,⟨⟩⟩ ⟨h1,h2,rfl,rfl⟩
 simp only
 have hl:=mk_rl markPat cntPat a k h1 h2
 refine if_cond (fun hc=> ?_) (fun hc=> ?_)
 ·have hc:i<a.length:=by have hc:=of_decide_eq_true hc;omega
  have hct:=ctS_take cntPat a zPat h1 hc
  have hle:=ctS_take_le cntPat a (i+1).toNat
  have hg:=mk_getD _ a zPat (mk_tl markPat cntPat a k h1 h2) h1 hc
  have hM:=fun F hF=>mkS_mod markPat cntPat a zPat k (i:=i) F h1 hc hF
  have hq:(cntPatS a:Int)=ctS cntPat a:=rfl
  generalize List.getD a i.toNat zPat=x at*
  generalize hkk:k+(ctS cntPat (a.take i.toNat):Int)=kk at*
  generalize List.take i.toNat (mkS markPat cntPat a k)++List.drop i.toNat a=R at*
  simp only[cntPat] at hct
  simp(disch:=first|omega|(simp only[List.length_modify];omega)) only[List.length_modify,wrap_i64,getD_modify,modify_modify,hg,hl]
  repeat' (first|refine And.intro (by omega) ?_|fail)
  exact⟨⟨by omega,by omega,hM _ (by first|rfl|(simp only[markPat,markBool];rw[Int.tmod_eq_emod_of_nonneg (by omega)];rfl)),by omega⟩,by simp only[Zm46_2];omega⟩
 ·have hc:a.length≤i:=by have hc:=of_decide_eq_false hc;omega
  rw[mk_done markPat cntPat a k hc,ct_done cntPat a hc]
  exact⟨rfl,rfl⟩
def Zh46:HH:=⟨_,Zo46⟩
def Zk161:Con UU where
 α:=DBind×DBind
 md:=[.ro,.ro]
 of:=oC (oA .eBind) (o1 (oA .eBind))
 ds:=fun x=>[dA .eBind x.1,dA .eBind x.2]
 pre:=fun _=>[]
 res:=fun(a,b)=>⟨[.one (.lit (.bool (decide (a=b))))],true,[]⟩
 law:=lC (lA .eBind) (l1 (lA .eBind))
def Za161:Zk161.α→Nat→Option (Ann UU):=fun(a,b)=>annL []
def Zu161:=us [Zh131]
theorem Zv161(a:DBind)(b:DBind):goal EE Zu161 Go.Proofs.Tryz.f161 Zk161 Za161 (a,b)=(bif !ByteArray.toList a.Name==ByteArray.toList b.Name then Lb false (decide (a=b)) else bif !decide (a.V=b.V) then Lb false (decide (a=b)) else Lb true (decide (a=b))):=by kernel_rfl
theorem Zo161:Holds EE (161,Zk161):=by
 refine holds_of EE_ok Go.Proofs.Tryz.func161 Zk161 (by kernel_rfl) Zu161 (us_ok _) Za161 (fun x hp hb=> ?_)
 obtain⟨a,b⟩:=x
 have hz0:=bd_eBind (x:=a) (hb _ m0)
 have hl_a_Name:=hz0.1
 have hl_a_V_S:=hz0.2
 have hz1:=bd_eBind (x:=b) (hb _ m1)
 have hl_b_Name:=hz1.1
 have hl_b_V_S:=hz1.2
 clear hp hb
 rw[Zv161 a b]
 obtain⟨aName,aV⟩:=a
 obtain⟨bName,bV⟩:=b
 repeat' (apply if_cond<;>intro _)
 all_goals (first|apply Lf_t|apply Lf_f)<;>simp_all
def Zh161:HH:=⟨_,Zo161⟩
def Zk129:Con UU where
 α:=(List DBind)×(List DBind)
 md:=[.ro,.ro]
 of:=oC (oL .eBind) (o1 (oL .eBind))
 ds:=fun x=>[dL .eBind x.1,dL .eBind x.2]
 pre:=fun _=>[]
 res:=fun(a,b)=>⟨[.one (.lit (.bool (decide (a=b))))],true,[]⟩
 law:=lC (lL .eBind) (l1 (lL .eBind))
def Zi129_4(a:(List DBind))(b:(List DBind)):Int×Unit→Prop:=eqI a b
def Zm129_4(a:(List DBind))(b:(List DBind)):Int×Unit→Nat:=rM1 a
def Za129:Zk129.α→Nat→Option (Ann UU):=fun(a,b)=>annL [(4,annOf [.slot 5 (5,1024) (.lit (.int .i64))] (fun _=>Zi129_4 a b) (Zm129_4 a b))]
def Zu129:=us [Zh161]
theorem Zv129(a:(List DBind))(b:(List DBind)):goal EE Zu129 Go.Proofs.Tryz.f129 Zk129 Za129 (a,b)=(eqV zBind a b):=by kernel_rfl
theorem Zo129:Holds EE (129,Zk129):=by
 refine holds_of EE_ok Go.Proofs.Tryz.func129 Zk129 (by kernel_rfl) Zu129 (us_ok _) Za129 (fun x hp hb=> ?_)
 obtain⟨a,b⟩:=x
 have hl_a:a.length≤9223372036854775807:=bdL (hb _ m0)
 have hl_b:b.length≤9223372036854775807:=bdL (hb _ m1)
 clear hp hb
 rw[Zv129 a b]
 exact eqV_ok hl_a
def Zh129:HH:=⟨_,Zo129⟩
def Zk93:Con UU where
 α:=(List DBind)×Int
 md:=[.wr,.ro]
 of:=oC (oL .eBind) (o1 oI)
 ds:=fun x=>[dL .eBind x.1,dI x.2]
 pre:=fun(a,k)=>[0≤k,k+cntBindS a≤4611686018427387904]
 res:=fun(a,k)=>⟨[.one (.lit (.int .i64 (k+cntBindS a)))],true,[.one (.sl .eBind (markBindS a k))]⟩
 law:=lC (lL .eBind) (l1 lI)
def Zi93_2(a:(List DBind))(k:Int):List DBind×Int×Int×Unit→Prop:=fun(row,kk,i,_)=>0≤i∧i≤a.length∧row=(mkS markBind cntBind a k).take i.toNat++a.drop i.toNat∧kk=k+ctS cntBind (a.take i.toNat)
def Zm93_2(a:(List DBind))(k:Int):List DBind×Int×Int×Unit→Nat:=fun(row,kk,i,_)=>a.length-i.toNat
def Za93:Zk93.α→Nat→Option (Ann UU):=fun(a,k)=>annL [(2,annOf [.slot 0 (2000000,0) (.own .eBind true),.slot 1 (1,1024) (.lit (.int .i64)),.slot 5 (5,1024) (.lit (.int .i64))] (fun _=>Zi93_2 a k) (Zm93_2 a k))]
def Zu93:=us [Zh45]
theorem Zv93(a:(List DBind))(k:Int):goal EE Zu93 Go.Proofs.Tryz.f93 Zk93 Za93 (a,k)=(Zi93_2 a k (a,k,(0:Int),())∧
 ∀(y:List DBind×Int×Int×PUnit),
  let x0:Nat:=Int.toNat y.2.2.1;
  let x5:Int:=IntKind.wrap IntKind.i64 (y.2.1+(1:Int));
  let x6:List DBind:=List.modify y.1 x0 fun(x:DBind)=>{Name:=markText y.2.1,V:=x.V:DBind};
  let x3:List DBind:=List.modify x6 x0 fun(x:DBind)=>{Name:=x.Name,V:={K:=x5,N:=x.V.N,S:=x.V.S:DVal}:DBind};
  let x4:Int:=IntKind.wrap IntKind.i64 (x5+(1:Int));
  let x1:List DBind:=List.modify x3 x0 fun(x:DBind)=>{Name:=x.Name,V:={K:=x.V.K,N:=x4,S:=x.V.S:DVal}:DBind};
  let x2:Int:=IntKind.wrap IntKind.i64 (x4+(1:Int));
  Zi93_2 a k y→bif decide (y.2.2.1<(↑(List.length y.1):Int)) then y.2.1≤(4611686018427387903:Int)∧(0:Int)≤y.2.2.1∧x0<List.length y.1∧x0<List.length y.1∧(0:Int)≤y.2.2.1∧x0<List.length x6∧x0<List.length x6∧(0:Int)≤y.2.2.1∧x0<List.length x3∧x0<List.length x3∧x2≤(4611686018427387903:Int)∧(0:Int)≤y.2.2.1∧x0<List.length x1∧x0<List.length x1∧Zi93_2 a k (List.modify x1 x0 fun(x:DBind)=>{Name:=x.Name,V:={K:=x.V.K,N:=x.V.N,S:=markText x2:DVal}:DBind},IntKind.wrap IntKind.i64 (x2+(1:Int)),IntKind.wrap IntKind.i64 (y.2.2.1+(1:Int)),PUnit.unit)∧Zm93_2 a k (List.modify x1 x0 fun(x:DBind)=>{Name:=x.Name,V:={K:=x.V.K,N:=x.V.N,S:=markText x2:DVal}:DBind},IntKind.wrap IntKind.i64 (x2+(1:Int)),IntKind.wrap IntKind.i64 (y.2.2.1+(1:Int)),PUnit.unit)<Zm93_2 a k y else asD [DV.one (Cell.lit (Value.int IntKind.i64 y.2.1))]=asD [DV.one (Cell.lit (Value.int IntKind.i64 (k+(↑(cntBindS a):Int))))]∧asD [DV.one (Cell.sl Cd.eBind y.1)]=asD [DV.one (Cell.sl Cd.eBind (markBindS a k))]):=by kernel_rfl
theorem Zo93:Holds EE (93,Zk93):=by
 refine holds_of EE_ok Go.Proofs.Tryz.func93 Zk93 (by kernel_rfl) Zu93 (us_ok _) Za93 (fun x hp hb=> ?_)
 obtain⟨a,k⟩:=x
 have hl_a:a.length≤9223372036854775807:=bdL (hb _ m0)
 have hl_k:=bdI (n:=k) (hb _ m1)
 have hp0:0≤k:=hp _ m0
 have hp1:k+cntBindS a≤4611686018427387904:=hp _ m1
 clear hp hb
 rw[Zv93 a k]
 dsimp only
 refine⟨⟨by omega,by omega,by simp,by simp[ctS]⟩,?_⟩
 rintro⟨row,kk,i,⟨⟩⟩ ⟨h1,h2,rfl,rfl⟩
 simp only
 have hl:=mk_rl markBind cntBind a k h1 h2
 refine if_cond (fun hc=> ?_) (fun hc=> ?_)
 ·have hc:i<a.length:=by have hc:=of_decide_eq_true hc;omega
  have hct:=ctS_take cntBind a zBind h1 hc
  have hle:=ctS_take_le cntBind a (i+1).toNat
  have hg:=mk_getD _ a zBind (mk_tl markBind cntBind a k h1 h2) h1 hc
  have hM:=fun F hF=>mkS_mod markBind cntBind a zBind k (i:=i) F h1 hc hF
  have hq:(cntBindS a:Int)=ctS cntBind a:=rfl
  generalize List.getD a i.toNat zBind=x at*
  generalize hkk:k+(ctS cntBind (a.take i.toNat):Int)=kk at*
  generalize List.take i.toNat (mkS markBind cntBind a k)++List.drop i.toNat a=R at*
  simp only[cntBind] at hct
  simp(disch:=first|omega|(simp only[List.length_modify];omega)) only[List.length_modify,wrap_i64,getD_modify,modify_modify,hg,hl]
  repeat' (first|refine And.intro (by omega) ?_|fail)
  exact⟨⟨by omega,by omega,hM _ (by first|rfl|(simp only[markBind,markBool];rw[Int.tmod_eq_emod_of_nonneg (by omega)];rfl)),by omega⟩,by simp only[Zm93_2];omega⟩
 ·have hc:a.length≤i:=by have hc:=of_decide_eq_false hc;omega
  rw[mk_done markBind cntBind a k hc,ct_done cntBind a hc]
  exact⟨rfl,rfl⟩
def Zh93:HH:=⟨_,Zo93⟩
def Zk98:Con UU where
 α:=(List DBind)×Int
 md:=[.ro,.ro]
 of:=oC (oL .eBind) (o1 oI)
 ds:=fun x=>[dL .eBind x.1,dI x.2]
 pre:=fun(a,k)=>[0≤k,k+cntBindS a≤4611686018427387904]
 res:=fun(a,k)=>⟨[.one (.lit (.int .i64 (if markBindS a k=a then k+cntBindS a else-1)))],true,[]⟩
 law:=lC (lL .eBind) (l1 lI)
def Zi98_2(a:(List DBind))(k:Int):Int×Int×Unit→Prop:=fun(kk,i,_)=>0≤i∧i≤a.length∧kk=k+ctS cntBind (a.take i.toNat)∧(mkS markBind cntBind (a.drop i.toNat) kk=a.drop i.toNat↔mkS markBind cntBind a k=a)
def Zm98_2(a:(List DBind))(k:Int):Int×Int×Unit→Nat:=fun(kk,i,_)=>a.length-i.toNat
def Za98:Zk98.α→Nat→Option (Ann UU):=fun(a,k)=>annL [(2,annOf [.slot 1 (1,1024) (.lit (.int .i64)),.slot 5 (5,1024) (.lit (.int .i64))] (fun _=>Zi98_2 a k) (Zm98_2 a k))]
def Zu98:=us [Zh45]
theorem Zv98(a:(List DBind))(k:Int):goal EE Zu98 Go.Proofs.Tryz.f98 Zk98 Za98 (a,k)=(Zi98_2 a k (k,(0:Int),())∧
 ∀(y:Int×Int×PUnit),
  let x3:Nat:=Int.toNat y.2.1;
  let x4:Int:=IntKind.wrap IntKind.i64 (IntKind.wrap IntKind.i64 (y.1+(1:Int))+(1:Int));
  let x1:Int:=IntKind.wrap IntKind.i64 (x4+(1:Int));
  let x2:DBind:=List.getD a x3 zBind;
  let x0:DVal:=x2.V;
  Zi98_2 a k y→bif decide (y.2.1<(↑(List.length a):Int)) then(0:Int)≤y.2.1∧x3<List.length a∧y.1≤(4611686018427387903:Int)∧bif !ByteArray.toList x2.Name==ByteArray.toList (markText y.1) then Lf [DV.one (Cell.lit (Value.int IntKind.i64 (-1:Int)))] [DV.one (Cell.lit (Value.int IntKind.i64 (if markBindS a k=a then k+(↑(cntBindS a):Int) else(-1:Int))))] else(0:Int)≤y.2.1∧x3<List.length a∧bif x0.K !=IntKind.wrap IntKind.i64 (y.1+(1:Int)) then Lf [DV.one (Cell.lit (Value.int IntKind.i64 (-1:Int)))] [DV.one (Cell.lit (Value.int IntKind.i64 (if markBindS a k=a then k+(↑(cntBindS a):Int) else(-1:Int))))] else(0:Int)≤y.2.1∧x3<List.length a∧bif x0.N !=x4 then Lf [DV.one (Cell.lit (Value.int IntKind.i64 (-1:Int)))] [DV.one (Cell.lit (Value.int IntKind.i64 (if markBindS a k=a then k+(↑(cntBindS a):Int) else(-1:Int))))] else(0:Int)≤y.2.1∧x3<List.length a∧x1≤(4611686018427387903:Int)∧bif !ByteArray.toList x0.S==ByteArray.toList (markText x1) then Lf [DV.one (Cell.lit (Value.int IntKind.i64 (-1:Int)))] [DV.one (Cell.lit (Value.int IntKind.i64 (if markBindS a k=a then k+(↑(cntBindS a):Int) else(-1:Int))))] else Zi98_2 a k (IntKind.wrap IntKind.i64 (x1+(1:Int)),IntKind.wrap IntKind.i64 (y.2.1+(1:Int)),PUnit.unit)∧Zm98_2 a k (IntKind.wrap IntKind.i64 (x1+(1:Int)),IntKind.wrap IntKind.i64 (y.2.1+(1:Int)),PUnit.unit)<Zm98_2 a k y else Lf [DV.one (Cell.lit (Value.int IntKind.i64 y.1))] [DV.one (Cell.lit (Value.int IntKind.i64 (if markBindS a k=a then k+(↑(cntBindS a):Int) else(-1:Int))))]):=by kernel_rfl
theorem Zo98:Holds EE (98,Zk98):=by
 refine holds_of EE_ok Go.Proofs.Tryz.func98 Zk98 (by kernel_rfl) Zu98 (us_ok _) Za98 (fun x hp hb=> ?_)
 obtain⟨a,k⟩:=x
 have hl_a:a.length≤9223372036854775807:=bdL (hb _ m0)
 have hl_k:=bdI (n:=k) (hb _ m1)
 have hp0:0≤k:=hp _ m0
 have hp1:k+cntBindS a≤4611686018427387904:=hp _ m1
 clear hp hb
 rw[Zv98 a k]
 dsimp only
 refine⟨⟨by omega,by omega,by simp[ctS],by simp⟩,?_⟩
 rintro⟨kk,i,⟨⟩⟩ ⟨h1,h2,hkk,hR⟩
 simp only
 simp only[markBindS]
 refine if_cond (fun hc=> ?_) (fun hc=> ?_)
 ·have hc:i<a.length:=by have hc:=of_decide_eq_true hc;omega
  have hct:=ctS_take cntBind a zBind h1 hc
  have hle:=ctS_take_le cntBind a (i+1).toNat
  have hq:(cntBindS a:Int)=ctS cntBind a:=rfl
  rw[drop_step a zBind h1 hc] at hR
  generalize List.getD a i.toNat zBind=x at*
  simp only[mkS,List.cons.injEq] at hR
  have e:kk+(cntBind x:Int)=kk+1+1+1+1:=by first|(simp only[cntBind];done)|(simp only[cntBind];omega)
  rw[e] at hR
  simp only[markBind,cntBind] at hR hct
  simp(disch:=omega) only[wrap_i64,bne_int,toList_beq]
  obtain⟨x_Name,⟨x_V_K,x_V_N,x_V_S⟩⟩:=x
  simp only[DBind.mk.injEq,DVal.mk.injEq] at*
  repeat' (first|refine And.intro (by omega) ?_|fail)
  refine if_cond (fun h=>Lf_no (fun hh=> ?_)) (fun h=> ?_)
  ·have hh:=hR.2 hh;simp_all
  have h:x_Name=markText (kk):=by simpa using h
  subst x_Name
  repeat' (first|refine And.intro (by omega) ?_|fail)
  refine if_cond (fun h=>Lf_no (fun hh=> ?_)) (fun h=> ?_)
  ·have hh:=hR.2 hh;simp_all
  have h:x_V_K=kk+1:=by simpa using h
  subst x_V_K
  repeat' (first|refine And.intro (by omega) ?_|fail)
  refine if_cond (fun h=>Lf_no (fun hh=> ?_)) (fun h=> ?_)
  ·have hh:=hR.2 hh;simp_all
  have h:x_V_N=kk+1+1:=by simpa using h
  subst x_V_N
  repeat' (first|refine And.intro (by omega) ?_|fail)
  refine if_cond (fun h=>Lf_no (fun hh=> ?_)) (fun h=> ?_)
  ·have hh:=hR.2 hh;simp_all
  have h:x_V_S=markText (kk+1+1+1):=by simpa using h
  subst x_V_S
  exact⟨⟨by omega,by omega,by omega,by simpa using hR⟩,by simp only[Zm98_2];omega⟩
 ·have hc:a.length≤i:=by have hc:=of_decide_eq_false hc;omega
  rw[drop_end a hc] at hR
  exact Lf_yes (hR.1 rfl) (by rw[hkk,ct_done _ _ hc];rfl)
def Zh98:HH:=⟨_,Zo98⟩
def Zk102:Con UU where
 α:=DCond×Int
 md:=[.ro,.ro]
 of:=oC (oA .lCond) (o1 oI)
 ds:=fun x=>[dA .lCond x.1,dI x.2]
 pre:=fun(a,left)=>[0≤left]
 res:=fun(a,left)=>⟨[.one (.lit (.int .i64 (szr left (sizeCond a))))],true,[]⟩
 law:=lC (lA .lCond) (l1 lI)
def Za102:Zk102.α→Nat→Option (Ann UU):=fun(a,left)=>annL []
def Zu102:=us [Zh139]
theorem Zv102(a:DCond)(left:Int):goal EE Zu102 Go.Proofs.Tryz.f102 Zk102 Za102 (a,left)=(let x0:Int:=szr (szr left (sizeArg a.L)) (sizeArg a.R);
(0:Int)≤left∧bif decide (szr left (sizeArg a.L)<(0:Int)) then Lf [DV.one (Cell.lit (Value.int IntKind.i64 (-1:Int)))] [DV.one (Cell.lit (Value.int IntKind.i64 (szr left (sizeCond a))))] else(0:Int)≤szr left (sizeArg a.L)∧bif decide (x0<(0:Int)) then Lf [DV.one (Cell.lit (Value.int IntKind.i64 (-1:Int)))] [DV.one (Cell.lit (Value.int IntKind.i64 (szr left (sizeCond a))))] else Lf [DV.one (Cell.lit (Value.int IntKind.i64 x0))] [DV.one (Cell.lit (Value.int IntKind.i64 (szr left (sizeCond a))))]):=by kernel_rfl
theorem Zo102:Holds EE (102,Zk102):=by
 refine holds_of EE_ok Go.Proofs.Tryz.func102 Zk102 (by kernel_rfl) Zu102 (us_ok _) Za102 (fun x hp hb=> ?_)
 obtain⟨a,left⟩:=x
 have hz0:=bd_lCond (x:=a) (hb _ m0)
 have hl_a_L_S:=hz0.1
 have hl_a_L_V_S:=hz0.2.1
 have hl_a_R_S:=hz0.2.2.1
 have hl_a_R_V_S:=hz0.2.2.2
 have hl_left:=bdI (n:=left) (hb _ m1)
 have hp0:0≤left:=hp _ m0
 clear hp hb
 rw[Zv102 a left]
 dsimp only
 refine⟨by omega,if_cond (fun h=>Lf_i (szr_bad' ?_)) (fun h=> ?_)⟩
 ·have h:=szr_neg h;simp only[sizeCond];omega
 obtain⟨e0,h0⟩:=szr_pos h
 rw[e0]
 refine⟨by omega,if_cond (fun h=>Lf_i (szr_bad' ?_)) (fun h=> ?_)⟩
 ·have h:=szr_neg h;simp only[sizeCond];omega
 obtain⟨e1,h1⟩:=szr_pos h
 rw[e1]
 exact Lf_i (by rw[←szr_ok' (by simp only[sizeCond];omega)];simp only[sizeCond];try omega)
def Zh102:HH:=⟨_,Zo102⟩
def Zk112:Con UU where
 α:=DCond
 md:=[.ro]
 of:=o1 (oA .lCond)
 ds:=fun x=>[dA .lCond x]
 pre:=fun a=>[sizeCond a≤4294967296]
 res:=fun a=>⟨[.agg [.lit (.int .i64 a.Op),.lit (.int .i64 a.L.K),.lit (.string a.L.S),.lit (.int .i64 a.L.V.K),.lit (.int .i64 a.L.V.N),.lit (.string a.L.V.S),.lit (.int .i64 a.R.K),.lit (.string a.R.S),.lit (.int .i64 a.R.V.K),.lit (.int .i64 a.R.V.N),.lit (.string a.R.V.S)]],true,[]⟩
 law:=l1 (lA .lCond)
def Za112:Zk112.α→Nat→Option (Ann UU):=fun a=>annL []
def Zu112:=us [Zh150]
theorem Zv112(a:DCond):goal EE Zu112 Go.Proofs.Tryz.f112 Zk112 Za112 a=(sizeArg a.L≤(4294967296:Nat)∧sizeArg a.R≤(4294967296:Nat)∧Lf [DV.agg [Cell.lit (Value.int IntKind.i64 a.Op),Cell.lit (Value.int IntKind.i64 a.L.K),Cell.lit (Value.string a.L.S),Cell.lit (Value.int IntKind.i64 a.L.V.K),Cell.lit (Value.int IntKind.i64 a.L.V.N),Cell.lit (Value.string a.L.V.S),Cell.lit (Value.int IntKind.i64 a.R.K),Cell.lit (Value.string a.R.S),Cell.lit (Value.int IntKind.i64 a.R.V.K),Cell.lit (Value.int IntKind.i64 a.R.V.N),Cell.lit (Value.string a.R.V.S)]] [DV.agg [Cell.lit (Value.int IntKind.i64 a.Op),Cell.lit (Value.int IntKind.i64 a.L.K),Cell.lit (Value.string a.L.S),Cell.lit (Value.int IntKind.i64 a.L.V.K),Cell.lit (Value.int IntKind.i64 a.L.V.N),Cell.lit (Value.string a.L.V.S),Cell.lit (Value.int IntKind.i64 a.R.K),Cell.lit (Value.string a.R.S),Cell.lit (Value.int IntKind.i64 a.R.V.K),Cell.lit (Value.int IntKind.i64 a.R.V.N),Cell.lit (Value.string a.R.V.S)]]):=by kernel_rfl
theorem Zo112:Holds EE (112,Zk112):=by
 refine holds_of EE_ok Go.Proofs.Tryz.func112 Zk112 (by kernel_rfl) Zu112 (us_ok _) Za112 (fun(a:DCond) hp hb=> ?_)
 have hz0:=bd_lCond (x:=a) (hb _ m0)
 have hl_a_L_S:=hz0.1
 have hl_a_L_V_S:=hz0.2.1
 have hl_a_R_S:=hz0.2.2.1
 have hl_a_R_V_S:=hz0.2.2.2
 have hp0:sizeCond a≤4294967296:=hp _ m0
 clear hp hb
 rw[Zv112 a]
 simp only[sizeCond] at hp0
 repeat' (first|exact Lf_rfl _|(refine And.intro (by omega) ?_))
def Zh112:HH:=⟨_,Zo112⟩
def Zk134:Con UU where
 α:=DCond×DCond
 md:=[.ro,.ro]
 of:=oC (oA .eCond) (o1 (oA .eCond))
 ds:=fun x=>[dA .eCond x.1,dA .eCond x.2]
 pre:=fun _=>[]
 res:=fun(a,b)=>⟨[.one (.lit (.bool (decide (a=b))))],true,[]⟩
 law:=lC (lA .eCond) (l1 (lA .eCond))
def Za134:Zk134.α→Nat→Option (Ann UU):=fun(a,b)=>annL []
def Zu134:=us [Zh165]
theorem Zv134(a:DCond)(b:DCond):goal EE Zu134 Go.Proofs.Tryz.f134 Zk134 Za134 (a,b)=(bif a.Op !=b.Op then Lb false (decide (a=b)) else bif !decide (a.L=b.L) then Lb false (decide (a=b)) else bif !decide (a.R=b.R) then Lb false (decide (a=b)) else Lb true (decide (a=b))):=by kernel_rfl
theorem Zo134:Holds EE (134,Zk134):=by
 refine holds_of EE_ok Go.Proofs.Tryz.func134 Zk134 (by kernel_rfl) Zu134 (us_ok _) Za134 (fun x hp hb=> ?_)
 obtain⟨a,b⟩:=x
 have hz0:=bd_eCond (x:=a) (hb _ m0)
 have hl_a_L_S:=hz0.1
 have hl_a_L_V_S:=hz0.2.1
 have hl_a_R_S:=hz0.2.2.1
 have hl_a_R_V_S:=hz0.2.2.2
 have hz1:=bd_eCond (x:=b) (hb _ m1)
 have hl_b_L_S:=hz1.1
 have hl_b_L_V_S:=hz1.2.1
 have hl_b_R_S:=hz1.2.2.1
 have hl_b_R_V_S:=hz1.2.2.2
 clear hp hb
 rw[Zv134 a b]
 obtain⟨aOp,aL,aR⟩:=a
 obtain⟨bOp,bL,bR⟩:=b
 repeat' (apply if_cond<;>intro _)
 all_goals (first|apply Lf_t|apply Lf_f)<;>simp_all
def Zh134:HH:=⟨_,Zo134⟩
def Zk64:Con UU where
 α:=(List DCond)×Int
 md:=[.ro,.ro]
 of:=oC (oL .lCond) (o1 oI)
 ds:=fun x=>[dL .lCond x.1,dI x.2]
 pre:=fun(a,left)=>[0≤left]
 res:=fun(a,left)=>⟨[.one (.lit (.int .i64 (szr left (sizeCondS a))))],true,[]⟩
 law:=lC (lL .lCond) (l1 lI)
def Zi64_5(a:(List DCond))(left:Int):Int×Int×Unit→Prop:=szI sizeCond a (sizeCondS a) left
def Zm64_5(a:(List DCond))(left:Int):Int×Int×Unit→Nat:=rM2 a
def Za64:Zk64.α→Nat→Option (Ann UU):=fun(a,left)=>annL [(5,annOf [.slot 1 (1,1024) (.lit (.int .i64)),.slot 5 (5,1024) (.lit (.int .i64))] (fun _=>Zi64_5 a left) (Zm64_5 a left))]
def Zu64:=us [Zh102]
theorem Zv64(a:(List DCond))(left:Int):goal EE Zu64 Go.Proofs.Tryz.f64 Zk64 Za64 (a,left)=(szV sizeCond zCond a (sizeCondS a) left):=by kernel_rfl
theorem Zo64:Holds EE (64,Zk64):=by
 refine holds_of EE_ok Go.Proofs.Tryz.func64 Zk64 (by kernel_rfl) Zu64 (us_ok _) Za64 (fun x hp hb=> ?_)
 obtain⟨a,left⟩:=x
 have hl_a:a.length≤9223372036854775807:=bdL (hb _ m0)
 have hl_left:=bdI (n:=left) (hb _ m1)
 have hp0:0≤left:=hp _ m0
 clear hp hb
 rw[Zv64 a left]
 exact szV_ok rfl hp0 hl_left hl_a
def Zh64:HH:=⟨_,Zo64⟩
def Zk72:Con UU where
 α:=(List DCond)
 md:=[.ro]
 of:=o1 (oL .lCond)
 ds:=fun x=>[dL .lCond x]
 pre:=fun a=>[sizeCondS a≤4294967296]
 res:=fun a=>⟨[.one (.sl .eCond a)],true,[]⟩
 law:=l1 (lL .lCond)
def Zi72_3(a:(List DCond)):List DCond×Int×Unit→Prop:=toI zCond a
def Zm72_3(a:(List DCond)):List DCond×Int×Unit→Nat:=rM2 a
def Za72:Zk72.α→Nat→Option (Ann UU):=fun a=>annL [(3,annOf [.slot 3 (3,1024) (.own .eCond true),.slot 4 (4,1024) (.lit (.int .i64))] (fun _=>Zi72_3 a) (Zm72_3 a))]
def Zu72:=us [Zh112]
theorem Zv72(a:(List DCond)):goal EE Zu72 Go.Proofs.Tryz.f72 Zk72 Za72 a=(toV sizeCond zCond a fun y=>Lf [.one (.sl .eCond y)] [.one (.sl .eCond a)]):=by kernel_rfl
theorem Zo72:Holds EE (72,Zk72):=by
 refine holds_of EE_ok Go.Proofs.Tryz.func72 Zk72 (by kernel_rfl) Zu72 (us_ok _) Za72 (fun(a:(List DCond)) hp hb=> ?_)
 have hl_a:a.length≤9223372036854775807:=bdL (hb _ m0)
 have hp0:sizeCondS a≤4294967296:=hp _ m0
 clear hp hb
 rw[Zv72 a]
 exact toV_ok hp0 (Lf_rfl _)
def Zh72:HH:=⟨_,Zo72⟩
def Zk87:Con UU where
 α:=(List DCond)×(List DCond)
 md:=[.ro,.ro]
 of:=oC (oL .eCond) (o1 (oL .eCond))
 ds:=fun x=>[dL .eCond x.1,dL .eCond x.2]
 pre:=fun _=>[]
 res:=fun(a,b)=>⟨[.one (.lit (.bool (decide (a=b))))],true,[]⟩
 law:=lC (lL .eCond) (l1 (lL .eCond))
def Zi87_4(a:(List DCond))(b:(List DCond)):Int×Unit→Prop:=eqI a b
def Zm87_4(a:(List DCond))(b:(List DCond)):Int×Unit→Nat:=rM1 a
def Za87:Zk87.α→Nat→Option (Ann UU):=fun(a,b)=>annL [(4,annOf [.slot 5 (5,1024) (.lit (.int .i64))] (fun _=>Zi87_4 a b) (Zm87_4 a b))]
def Zu87:=us [Zh134]
theorem Zv87(a:(List DCond))(b:(List DCond)):goal EE Zu87 Go.Proofs.Tryz.f87 Zk87 Za87 (a,b)=(eqV zCond a b):=by kernel_rfl
theorem Zo87:Holds EE (87,Zk87):=by
 refine holds_of EE_ok Go.Proofs.Tryz.func87 Zk87 (by kernel_rfl) Zu87 (us_ok _) Za87 (fun x hp hb=> ?_)
 obtain⟨a,b⟩:=x
 have hl_a:a.length≤9223372036854775807:=bdL (hb _ m0)
 have hl_b:b.length≤9223372036854775807:=bdL (hb _ m1)
 clear hp hb
 rw[Zv87 a b]
 exact eqV_ok hl_a
def Zh87:HH:=⟨_,Zo87⟩
def Zk47:Con UU where
 α:=(List DCond)×Int
 md:=[.wr,.ro]
 of:=oC (oL .eCond) (o1 oI)
 ds:=fun x=>[dL .eCond x.1,dI x.2]
 pre:=fun(a,k)=>[0≤k,k+cntCondS a≤4611686018427387904]
 res:=fun(a,k)=>⟨[.one (.lit (.int .i64 (k+cntCondS a)))],true,[.one (.sl .eCond (markCondS a k))]⟩
 law:=lC (lL .eCond) (l1 lI)
def Zi47_2(a:(List DCond))(k:Int):List DCond×Int×Int×Unit→Prop:=fun(row,kk,i,_)=>0≤i∧i≤a.length∧row=(mkS markCond cntCond a k).take i.toNat++a.drop i.toNat∧kk=k+ctS cntCond (a.take i.toNat)
def Zm47_2(a:(List DCond))(k:Int):List DCond×Int×Int×Unit→Nat:=fun(row,kk,i,_)=>a.length-i.toNat
def Za47:Zk47.α→Nat→Option (Ann UU):=fun(a,k)=>annL [(2,annOf [.slot 0 (2000000,0) (.own .eCond true),.slot 1 (1,1024) (.lit (.int .i64)),.slot 5 (5,1024) (.lit (.int .i64))] (fun _=>Zi47_2 a k) (Zm47_2 a k))]
def Zu47:=us [Zh45]
theorem Zv47(a:(List DCond))(k:Int):goal EE Zu47 Go.Proofs.Tryz.f47 Zk47 Za47 (a,k)=(Zi47_2 a k (a,k,(0:Int),())∧
 ∀(y:List DCond×Int×Int×PUnit),
  let x0:Nat:=Int.toNat y.2.2.1;
  let x14:Int:=IntKind.wrap IntKind.i64 (y.2.1+(1:Int));
  let x15:List DCond:=List.modify y.1 x0 fun(x:DCond)=>{Op:=y.2.1,L:=x.L,R:=x.R:DCond};
  let x12:Int:=IntKind.wrap IntKind.i64 (x14+(1:Int));
  let x13:List DCond:=List.modify x15 x0 fun(x:DCond)=>{Op:=x.Op,L:={K:=x14,S:=x.L.S,V:=x.L.V:DArg},R:=x.R:DCond};
  let x17:Int:=IntKind.wrap IntKind.i64 (IntKind.wrap IntKind.i64 (x12+(1:Int))+(1:Int));
  let x9:List DCond:=List.modify x13 x0 fun(x:DCond)=>{Op:=x.Op,L:={K:=x.L.K,S:=markText x12,V:=x.L.V:DArg},R:=x.R:DCond};
  let x11:Int:=IntKind.wrap IntKind.i64 (x17+(1:Int));
  let x7:List DCond:=List.modify x9 x0 fun(x:DCond)=>{Op:=x.Op,L:={K:=x.L.K,S:=x.L.S,V:={K:=IntKind.wrap IntKind.i64 (x12+(1:Int)),N:=x.L.V.N,S:=x.L.V.S:DVal}:DArg},R:=x.R:DCond};
  let x10:Int:=IntKind.wrap IntKind.i64 (IntKind.wrap IntKind.i64 (x11+(1:Int))+(1:Int));
  let x16:Int:=IntKind.wrap IntKind.i64 (IntKind.wrap IntKind.i64 (x10+(1:Int))+(1:Int));
  let x6:List DCond:=List.modify x7 x0 fun(x:DCond)=>{Op:=x.Op,L:={K:=x.L.K,S:=x.L.S,V:={K:=x.L.V.K,N:=x17,S:=x.L.V.S:DVal}:DArg},R:=x.R:DCond};
  let x8:Int:=IntKind.wrap IntKind.i64 (x16+(1:Int));
  let x5:List DCond:=List.modify x6 x0 fun(x:DCond)=>{Op:=x.Op,L:={K:=x.L.K,S:=x.L.S,V:={K:=x.L.V.K,N:=x.L.V.N,S:=markText x11:DVal}:DArg},R:=x.R:DCond};
  let x4:List DCond:=List.modify x5 x0 fun(x:DCond)=>{Op:=x.Op,L:=x.L,R:={K:=IntKind.wrap IntKind.i64 (x11+(1:Int)),S:=x.R.S,V:=x.R.V:DArg}:DCond};
  let x3:List DCond:=List.modify x4 x0 fun(x:DCond)=>{Op:=x.Op,L:=x.L,R:={K:=x.R.K,S:=markText x10,V:=x.R.V:DArg}:DCond};
  let x2:List DCond:=List.modify x3 x0 fun(x:DCond)=>{Op:=x.Op,L:=x.L,R:={K:=x.R.K,S:=x.R.S,V:={K:=IntKind.wrap IntKind.i64 (x10+(1:Int)),N:=x.R.V.N,S:=x.R.V.S:DVal}:DArg}:DCond};
  let x1:List DCond:=List.modify x2 x0 fun(x:DCond)=>{Op:=x.Op,L:=x.L,R:={K:=x.R.K,S:=x.R.S,V:={K:=x.R.V.K,N:=x16,S:=x.R.V.S:DVal}:DArg}:DCond};
  Zi47_2 a k y→bif decide (y.2.2.1<(↑(List.length y.1):Int)) then(0:Int)≤y.2.2.1∧x0<List.length y.1∧x0<List.length y.1∧(0:Int)≤y.2.2.1∧x0<List.length x15∧x0<List.length x15∧x12≤(4611686018427387903:Int)∧(0:Int)≤y.2.2.1∧x0<List.length x13∧x0<List.length x13∧(0:Int)≤y.2.2.1∧x0<List.length x9∧x0<List.length x9∧(0:Int)≤y.2.2.1∧x0<List.length x7∧x0<List.length x7∧x11≤(4611686018427387903:Int)∧(0:Int)≤y.2.2.1∧x0<List.length x6∧x0<List.length x6∧(0:Int)≤y.2.2.1∧x0<List.length x5∧x0<List.length x5∧x10≤(4611686018427387903:Int)∧(0:Int)≤y.2.2.1∧x0<List.length x4∧x0<List.length x4∧(0:Int)≤y.2.2.1∧x0<List.length x3∧x0<List.length x3∧(0:Int)≤y.2.2.1∧x0<List.length x2∧x0<List.length x2∧x8≤(4611686018427387903:Int)∧(0:Int)≤y.2.2.1∧x0<List.length x1∧x0<List.length x1∧Zi47_2 a k (List.modify x1 x0 fun(x:DCond)=>{Op:=x.Op,L:=x.L,R:={K:=x.R.K,S:=x.R.S,V:={K:=x.R.V.K,N:=x.R.V.N,S:=markText x8:DVal}:DArg}:DCond},IntKind.wrap IntKind.i64 (x8+(1:Int)),IntKind.wrap IntKind.i64 (y.2.2.1+(1:Int)),PUnit.unit)∧Zm47_2 a k (List.modify x1 x0 fun(x:DCond)=>{Op:=x.Op,L:=x.L,R:={K:=x.R.K,S:=x.R.S,V:={K:=x.R.V.K,N:=x.R.V.N,S:=markText x8:DVal}:DArg}:DCond},IntKind.wrap IntKind.i64 (x8+(1:Int)),IntKind.wrap IntKind.i64 (y.2.2.1+(1:Int)),PUnit.unit)<Zm47_2 a k y else asD [DV.one (Cell.lit (Value.int IntKind.i64 y.2.1))]=asD [DV.one (Cell.lit (Value.int IntKind.i64 (k+(↑(cntCondS a):Int))))]∧asD [DV.one (Cell.sl Cd.eCond y.1)]=asD [DV.one (Cell.sl Cd.eCond (markCondS a k))]):=by kernel_rfl
theorem Zo47:Holds EE (47,Zk47):=by
 refine holds_of EE_ok Go.Proofs.Tryz.func47 Zk47 (by kernel_rfl) Zu47 (us_ok _) Za47 (fun x hp hb=> ?_)
 obtain⟨a,k⟩:=x
 have hl_a:a.length≤9223372036854775807:=bdL (hb _ m0)
 have hl_k:=bdI (n:=k) (hb _ m1)
 have hp0:0≤k:=hp _ m0
 have hp1:k+cntCondS a≤4611686018427387904:=hp _ m1
 clear hp hb
 rw[Zv47 a k]
 dsimp only
 refine⟨⟨by omega,by omega,by simp,by simp[ctS]⟩,?_⟩
 rintro⟨row,kk,i,⟨⟩⟩ ⟨h1,h2,rfl,rfl⟩
 simp only
 have hl:=mk_rl markCond cntCond a k h1 h2
 refine if_cond (fun hc=> ?_) (fun hc=> ?_)
 ·have hc:i<a.length:=by have hc:=of_decide_eq_true hc;omega
  have hct:=ctS_take cntCond a zCond h1 hc
  have hle:=ctS_take_le cntCond a (i+1).toNat
  have hg:=mk_getD _ a zCond (mk_tl markCond cntCond a k h1 h2) h1 hc
  have hM:=fun F hF=>mkS_mod markCond cntCond a zCond k (i:=i) F h1 hc hF
  have hq:(cntCondS a:Int)=ctS cntCond a:=rfl
  generalize List.getD a i.toNat zCond=x at*
  generalize hkk:k+(ctS cntCond (a.take i.toNat):Int)=kk at*
  generalize List.take i.toNat (mkS markCond cntCond a k)++List.drop i.toNat a=R at*
  simp only[cntCond] at hct
  simp(disch:=first|omega|(simp only[List.length_modify];omega)) only[List.length_modify,wrap_i64,getD_modify,modify_modify,hg,hl]
  repeat' (first|refine And.intro (by omega) ?_|fail)
  exact⟨⟨by omega,by omega,hM _ (by first|rfl|(simp only[markCond,markBool];rw[Int.tmod_eq_emod_of_nonneg (by omega)];rfl)),by omega⟩,by simp only[Zm47_2];omega⟩
 ·have hc:a.length≤i:=by have hc:=of_decide_eq_false hc;omega
  rw[mk_done markCond cntCond a k hc,ct_done cntCond a hc]
  exact⟨rfl,rfl⟩
def Zh47:HH:=⟨_,Zo47⟩
def Zk168:Con UU where
 α:=DExpr×Int
 md:=[.ro,.ro]
 of:=oC (oA .lExpr) (o1 oI)
 ds:=fun x=>[dA .lExpr x.1,dI x.2]
 pre:=fun(a,left)=>[0≤left]
 res:=fun(a,left)=>⟨[.one (.lit (.int .i64 (szr left (sizeExpr a))))],true,[]⟩
 law:=lC (lA .lExpr) (l1 lI)
def Za168:Zk168.α→Nat→Option (Ann UU):=fun(a,left)=>annL []
def Zu168:=us [Zh139]
theorem Zv168(a:DExpr)(left:Int):goal EE Zu168 Go.Proofs.Tryz.f168 Zk168 Za168 (a,left)=(let x1:Int:=IntKind.wrap IntKind.i64 (left-(↑(ByteArray.size a.Op):Int));
let x0:Int:=szr x1 (sizeArg a.L);
bif decide (x1<(0:Int)) then Lf [DV.one (Cell.lit (Value.int IntKind.i64 (-1:Int)))] [DV.one (Cell.lit (Value.int IntKind.i64 (szr left (sizeExpr a))))] else(0:Int)≤x1∧bif decide (x0<(0:Int)) then Lf [DV.one (Cell.lit (Value.int IntKind.i64 (-1:Int)))] [DV.one (Cell.lit (Value.int IntKind.i64 (szr left (sizeExpr a))))] else(0:Int)≤x0∧bif decide (szr x0 (sizeArg a.R)<(0:Int)) then Lf [DV.one (Cell.lit (Value.int IntKind.i64 (-1:Int)))] [DV.one (Cell.lit (Value.int IntKind.i64 (szr left (sizeExpr a))))] else Lf [DV.one (Cell.lit (Value.int IntKind.i64 (szr x0 (sizeArg a.R))))] [DV.one (Cell.lit (Value.int IntKind.i64 (szr left (sizeExpr a))))]):=by kernel_rfl
theorem Zo168:Holds EE (168,Zk168):=by
 refine holds_of EE_ok Go.Proofs.Tryz.func168 Zk168 (by kernel_rfl) Zu168 (us_ok _) Za168 (fun x hp hb=> ?_)
 obtain⟨a,left⟩:=x
 have hz0:=bd_lExpr (x:=a) (hb _ m0)
 have hl_a_Op:=hz0.1
 have hl_a_L_S:=hz0.2.1
 have hl_a_L_V_S:=hz0.2.2.1
 have hl_a_R_S:=hz0.2.2.2.1
 have hl_a_R_V_S:=hz0.2.2.2.2
 have hl_left:=bdI (n:=left) (hb _ m1)
 have hp0:0≤left:=hp _ m0
 clear hp hb
 rw[Zv168 a left]
 dsimp only
 rw[wrap_i64 (by omega) (by omega)]
 refine if_cond (fun h=>Lf_i (szr_bad' ?_)) (fun h=> ?_)
 ·have h:=of_decide_eq_true h;simp only[sizeExpr];omega
 have h0:=of_decide_eq_false h
 refine⟨by omega,if_cond (fun h=>Lf_i (szr_bad' ?_)) (fun h=> ?_)⟩
 ·have h:=szr_neg h;simp only[sizeExpr];omega
 obtain⟨e1,h1⟩:=szr_pos h
 rw[e1]
 refine⟨by omega,if_cond (fun h=>Lf_i (szr_bad' ?_)) (fun h=> ?_)⟩
 ·have h:=szr_neg h;simp only[sizeExpr];omega
 obtain⟨e2,h2⟩:=szr_pos h
 rw[e2]
 exact Lf_i (by rw[←szr_ok' (by simp only[sizeExpr];omega)];simp only[sizeExpr];try omega)
def Zh168:HH:=⟨_,Zo168⟩
def Zk172:Con UU where
 α:=DExpr
 md:=[.ro]
 of:=o1 (oA .lExpr)
 ds:=fun x=>[dA .lExpr x]
 pre:=fun a=>[sizeExpr a≤4294967296]
 res:=fun a=>⟨[.agg [.lit (.string a.Op),.lit (.int .i64 a.L.K),.lit (.string a.L.S),.lit (.int .i64 a.L.V.K),.lit (.int .i64 a.L.V.N),.lit (.string a.L.V.S),.lit (.int .i64 a.R.K),.lit (.string a.R.S),.lit (.int .i64 a.R.V.K),.lit (.int .i64 a.R.V.N),.lit (.string a.R.V.S)]],true,[]⟩
 law:=l1 (lA .lExpr)
def Za172:Zk172.α→Nat→Option (Ann UU):=fun a=>annL []
def Zu172:=us [Zh150]
theorem Zv172(a:DExpr):goal EE Zu172 Go.Proofs.Tryz.f172 Zk172 Za172 a=(sizeArg a.L≤(4294967296:Nat)∧sizeArg a.R≤(4294967296:Nat)∧Lf [DV.agg [Cell.lit (Value.string a.Op),Cell.lit (Value.int IntKind.i64 a.L.K),Cell.lit (Value.string a.L.S),Cell.lit (Value.int IntKind.i64 a.L.V.K),Cell.lit (Value.int IntKind.i64 a.L.V.N),Cell.lit (Value.string a.L.V.S),Cell.lit (Value.int IntKind.i64 a.R.K),Cell.lit (Value.string a.R.S),Cell.lit (Value.int IntKind.i64 a.R.V.K),Cell.lit (Value.int IntKind.i64 a.R.V.N),Cell.lit (Value.string a.R.V.S)]] [DV.agg [Cell.lit (Value.string a.Op),Cell.lit (Value.int IntKind.i64 a.L.K),Cell.lit (Value.string a.L.S),Cell.lit (Value.int IntKind.i64 a.L.V.K),Cell.lit (Value.int IntKind.i64 a.L.V.N),Cell.lit (Value.string a.L.V.S),Cell.lit (Value.int IntKind.i64 a.R.K),Cell.lit (Value.string a.R.S),Cell.lit (Value.int IntKind.i64 a.R.V.K),Cell.lit (Value.int IntKind.i64 a.R.V.N),Cell.lit (Value.string a.R.V.S)]]):=by kernel_rfl
theorem Zo172:Holds EE (172,Zk172):=by
 refine holds_of EE_ok Go.Proofs.Tryz.func172 Zk172 (by kernel_rfl) Zu172 (us_ok _) Za172 (fun(a:DExpr) hp hb=> ?_)
 have hz0:=bd_lExpr (x:=a) (hb _ m0)
 have hl_a_Op:=hz0.1
 have hl_a_L_S:=hz0.2.1
 have hl_a_L_V_S:=hz0.2.2.1
 have hl_a_R_S:=hz0.2.2.2.1
 have hl_a_R_V_S:=hz0.2.2.2.2
 have hp0:sizeExpr a≤4294967296:=hp _ m0
 clear hp hb
 rw[Zv172 a]
 simp only[sizeExpr] at hp0
 repeat' (first|exact Lf_rfl _|(refine And.intro (by omega) ?_))
def Zh172:HH:=⟨_,Zo172⟩
def Zk178:Con UU where
 α:=DExpr×DExpr
 md:=[.ro,.ro]
 of:=oC (oA .eExpr) (o1 (oA .eExpr))
 ds:=fun x=>[dA .eExpr x.1,dA .eExpr x.2]
 pre:=fun _=>[]
 res:=fun(a,b)=>⟨[.one (.lit (.bool (decide (a=b))))],true,[]⟩
 law:=lC (lA .eExpr) (l1 (lA .eExpr))
def Za178:Zk178.α→Nat→Option (Ann UU):=fun(a,b)=>annL []
def Zu178:=us [Zh165]
theorem Zv178(a:DExpr)(b:DExpr):goal EE Zu178 Go.Proofs.Tryz.f178 Zk178 Za178 (a,b)=(bif !ByteArray.toList a.Op==ByteArray.toList b.Op then Lb false (decide (a=b)) else bif !decide (a.L=b.L) then Lb false (decide (a=b)) else bif !decide (a.R=b.R) then Lb false (decide (a=b)) else Lb true (decide (a=b))):=by kernel_rfl
theorem Zo178:Holds EE (178,Zk178):=by
 refine holds_of EE_ok Go.Proofs.Tryz.func178 Zk178 (by kernel_rfl) Zu178 (us_ok _) Za178 (fun x hp hb=> ?_)
 obtain⟨a,b⟩:=x
 have hz0:=bd_eExpr (x:=a) (hb _ m0)
 have hl_a_Op:=hz0.1
 have hl_a_L_S:=hz0.2.1
 have hl_a_L_V_S:=hz0.2.2.1
 have hl_a_R_S:=hz0.2.2.2.1
 have hl_a_R_V_S:=hz0.2.2.2.2
 have hz1:=bd_eExpr (x:=b) (hb _ m1)
 have hl_b_Op:=hz1.1
 have hl_b_L_S:=hz1.2.1
 have hl_b_L_V_S:=hz1.2.2.1
 have hl_b_R_S:=hz1.2.2.2.1
 have hl_b_R_V_S:=hz1.2.2.2.2
 clear hp hb
 rw[Zv178 a b]
 obtain⟨aOp,aL,aR⟩:=a
 obtain⟨bOp,bL,bR⟩:=b
 repeat' (apply if_cond<;>intro _)
 all_goals (first|apply Lf_t|apply Lf_f)<;>simp_all
def Zh178:HH:=⟨_,Zo178⟩
def Zk140:Con UU where
 α:=(List DExpr)×Int
 md:=[.ro,.ro]
 of:=oC (oL .lExpr) (o1 oI)
 ds:=fun x=>[dL .lExpr x.1,dI x.2]
 pre:=fun(a,left)=>[0≤left]
 res:=fun(a,left)=>⟨[.one (.lit (.int .i64 (szr left (sizeExprS a))))],true,[]⟩
 law:=lC (lL .lExpr) (l1 lI)
def Zi140_5(a:(List DExpr))(left:Int):Int×Int×Unit→Prop:=szI sizeExpr a (sizeExprS a) left
def Zm140_5(a:(List DExpr))(left:Int):Int×Int×Unit→Nat:=rM2 a
def Za140:Zk140.α→Nat→Option (Ann UU):=fun(a,left)=>annL [(5,annOf [.slot 1 (1,1024) (.lit (.int .i64)),.slot 5 (5,1024) (.lit (.int .i64))] (fun _=>Zi140_5 a left) (Zm140_5 a left))]
def Zu140:=us [Zh168]
theorem Zv140(a:(List DExpr))(left:Int):goal EE Zu140 Go.Proofs.Tryz.f140 Zk140 Za140 (a,left)=(szV sizeExpr zExpr a (sizeExprS a) left):=by kernel_rfl
theorem Zo140:Holds EE (140,Zk140):=by
 refine holds_of EE_ok Go.Proofs.Tryz.func140 Zk140 (by kernel_rfl) Zu140 (us_ok _) Za140 (fun x hp hb=> ?_)
 obtain⟨a,left⟩:=x
 have hl_a:a.length≤9223372036854775807:=bdL (hb _ m0)
 have hl_left:=bdI (n:=left) (hb _ m1)
 have hp0:0≤left:=hp _ m0
 clear hp hb
 rw[Zv140 a left]
 exact szV_ok rfl hp0 hl_left hl_a
def Zh140:HH:=⟨_,Zo140⟩
def Zk151:Con UU where
 α:=(List DExpr)
 md:=[.ro]
 of:=o1 (oL .lExpr)
 ds:=fun x=>[dL .lExpr x]
 pre:=fun a=>[sizeExprS a≤4294967296]
 res:=fun a=>⟨[.one (.sl .eExpr a)],true,[]⟩
 law:=l1 (lL .lExpr)
def Zi151_3(a:(List DExpr)):List DExpr×Int×Unit→Prop:=toI zExpr a
def Zm151_3(a:(List DExpr)):List DExpr×Int×Unit→Nat:=rM2 a
def Za151:Zk151.α→Nat→Option (Ann UU):=fun a=>annL [(3,annOf [.slot 3 (3,1024) (.own .eExpr true),.slot 4 (4,1024) (.lit (.int .i64))] (fun _=>Zi151_3 a) (Zm151_3 a))]
def Zu151:=us [Zh172]
theorem Zv151(a:(List DExpr)):goal EE Zu151 Go.Proofs.Tryz.f151 Zk151 Za151 a=(toV sizeExpr zExpr a fun y=>Lf [.one (.sl .eExpr y)] [.one (.sl .eExpr a)]):=by kernel_rfl
theorem Zo151:Holds EE (151,Zk151):=by
 refine holds_of EE_ok Go.Proofs.Tryz.func151 Zk151 (by kernel_rfl) Zu151 (us_ok _) Za151 (fun(a:(List DExpr)) hp hb=> ?_)
 have hl_a:a.length≤9223372036854775807:=bdL (hb _ m0)
 have hp0:sizeExprS a≤4294967296:=hp _ m0
 clear hp hb
 rw[Zv151 a]
 exact toV_ok hp0 (Lf_rfl _)
def Zh151:HH:=⟨_,Zo151⟩
def Zk166:Con UU where
 α:=(List DExpr)×(List DExpr)
 md:=[.ro,.ro]
 of:=oC (oL .eExpr) (o1 (oL .eExpr))
 ds:=fun x=>[dL .eExpr x.1,dL .eExpr x.2]
 pre:=fun _=>[]
 res:=fun(a,b)=>⟨[.one (.lit (.bool (decide (a=b))))],true,[]⟩
 law:=lC (lL .eExpr) (l1 (lL .eExpr))
def Zi166_4(a:(List DExpr))(b:(List DExpr)):Int×Unit→Prop:=eqI a b
def Zm166_4(a:(List DExpr))(b:(List DExpr)):Int×Unit→Nat:=rM1 a
def Za166:Zk166.α→Nat→Option (Ann UU):=fun(a,b)=>annL [(4,annOf [.slot 5 (5,1024) (.lit (.int .i64))] (fun _=>Zi166_4 a b) (Zm166_4 a b))]
def Zu166:=us [Zh178]
theorem Zv166(a:(List DExpr))(b:(List DExpr)):goal EE Zu166 Go.Proofs.Tryz.f166 Zk166 Za166 (a,b)=(eqV zExpr a b):=by kernel_rfl
theorem Zo166:Holds EE (166,Zk166):=by
 refine holds_of EE_ok Go.Proofs.Tryz.func166 Zk166 (by kernel_rfl) Zu166 (us_ok _) Za166 (fun x hp hb=> ?_)
 obtain⟨a,b⟩:=x
 have hl_a:a.length≤9223372036854775807:=bdL (hb _ m0)
 have hl_b:b.length≤9223372036854775807:=bdL (hb _ m1)
 clear hp hb
 rw[Zv166 a b]
 exact eqV_ok hl_a
def Zh166:HH:=⟨_,Zo166⟩
def Zk90:Con UU where
 α:=(List DExpr)×Int
 md:=[.wr,.ro]
 of:=oC (oL .eExpr) (o1 oI)
 ds:=fun x=>[dL .eExpr x.1,dI x.2]
 pre:=fun(a,k)=>[0≤k,k+cntExprS a≤4611686018427387904]
 res:=fun(a,k)=>⟨[.one (.lit (.int .i64 (k+cntExprS a)))],true,[.one (.sl .eExpr (markExprS a k))]⟩
 law:=lC (lL .eExpr) (l1 lI)
def Zi90_2(a:(List DExpr))(k:Int):List DExpr×Int×Int×Unit→Prop:=fun(row,kk,i,_)=>0≤i∧i≤a.length∧row=(mkS markExpr cntExpr a k).take i.toNat++a.drop i.toNat∧kk=k+ctS cntExpr (a.take i.toNat)
def Zm90_2(a:(List DExpr))(k:Int):List DExpr×Int×Int×Unit→Nat:=fun(row,kk,i,_)=>a.length-i.toNat
def Za90:Zk90.α→Nat→Option (Ann UU):=fun(a,k)=>annL [(2,annOf [.slot 0 (2000000,0) (.own .eExpr true),.slot 1 (1,1024) (.lit (.int .i64)),.slot 5 (5,1024) (.lit (.int .i64))] (fun _=>Zi90_2 a k) (Zm90_2 a k))]
def Zu90:=us [Zh45]
theorem Zv90(a:(List DExpr))(k:Int):goal EE Zu90 Go.Proofs.Tryz.f90 Zk90 Za90 (a,k)=(Zi90_2 a k (a,k,(0:Int),())∧
 ∀(y:List DExpr×Int×Int×PUnit),
  let x0:Nat:=Int.toNat y.2.2.1;
  let x14:List DExpr:=List.modify y.1 x0 fun(x:DExpr)=>{Op:=markText y.2.1,L:=x.L,R:=x.R:DExpr};
  let x15:Int:=IntKind.wrap IntKind.i64 (y.2.1+(1:Int));
  let x12:Int:=IntKind.wrap IntKind.i64 (x15+(1:Int));
  let x13:List DExpr:=List.modify x14 x0 fun(x:DExpr)=>{Op:=x.Op,L:={K:=x15,S:=x.L.S,V:=x.L.V:DArg},R:=x.R:DExpr};
  let x16:Int:=IntKind.wrap IntKind.i64 (IntKind.wrap IntKind.i64 (x12+(1:Int))+(1:Int));
  let x9:List DExpr:=List.modify x13 x0 fun(x:DExpr)=>{Op:=x.Op,L:={K:=x.L.K,S:=markText x12,V:=x.L.V:DArg},R:=x.R:DExpr};
  let x11:Int:=IntKind.wrap IntKind.i64 (x16+(1:Int));
  let x7:List DExpr:=List.modify x9 x0 fun(x:DExpr)=>{Op:=x.Op,L:={K:=x.L.K,S:=x.L.S,V:={K:=IntKind.wrap IntKind.i64 (x12+(1:Int)),N:=x.L.V.N,S:=x.L.V.S:DVal}:DArg},R:=x.R:DExpr};
  let x10:Int:=IntKind.wrap IntKind.i64 (IntKind.wrap IntKind.i64 (x11+(1:Int))+(1:Int));
  let x17:Int:=IntKind.wrap IntKind.i64 (IntKind.wrap IntKind.i64 (x10+(1:Int))+(1:Int));
  let x6:List DExpr:=List.modify x7 x0 fun(x:DExpr)=>{Op:=x.Op,L:={K:=x.L.K,S:=x.L.S,V:={K:=x.L.V.K,N:=x16,S:=x.L.V.S:DVal}:DArg},R:=x.R:DExpr};
  let x8:Int:=IntKind.wrap IntKind.i64 (x17+(1:Int));
  let x5:List DExpr:=List.modify x6 x0 fun(x:DExpr)=>{Op:=x.Op,L:={K:=x.L.K,S:=x.L.S,V:={K:=x.L.V.K,N:=x.L.V.N,S:=markText x11:DVal}:DArg},R:=x.R:DExpr};
  let x4:List DExpr:=List.modify x5 x0 fun(x:DExpr)=>{Op:=x.Op,L:=x.L,R:={K:=IntKind.wrap IntKind.i64 (x11+(1:Int)),S:=x.R.S,V:=x.R.V:DArg}:DExpr};
  let x3:List DExpr:=List.modify x4 x0 fun(x:DExpr)=>{Op:=x.Op,L:=x.L,R:={K:=x.R.K,S:=markText x10,V:=x.R.V:DArg}:DExpr};
  let x2:List DExpr:=List.modify x3 x0 fun(x:DExpr)=>{Op:=x.Op,L:=x.L,R:={K:=x.R.K,S:=x.R.S,V:={K:=IntKind.wrap IntKind.i64 (x10+(1:Int)),N:=x.R.V.N,S:=x.R.V.S:DVal}:DArg}:DExpr};
  let x1:List DExpr:=List.modify x2 x0 fun(x:DExpr)=>{Op:=x.Op,L:=x.L,R:={K:=x.R.K,S:=x.R.S,V:={K:=x.R.V.K,N:=x17,S:=x.R.V.S:DVal}:DArg}:DExpr};
  Zi90_2 a k y→bif decide (y.2.2.1<(↑(List.length y.1):Int)) then y.2.1≤(4611686018427387903:Int)∧(0:Int)≤y.2.2.1∧x0<List.length y.1∧x0<List.length y.1∧(0:Int)≤y.2.2.1∧x0<List.length x14∧x0<List.length x14∧x12≤(4611686018427387903:Int)∧(0:Int)≤y.2.2.1∧x0<List.length x13∧x0<List.length x13∧(0:Int)≤y.2.2.1∧x0<List.length x9∧x0<List.length x9∧(0:Int)≤y.2.2.1∧x0<List.length x7∧x0<List.length x7∧x11≤(4611686018427387903:Int)∧(0:Int)≤y.2.2.1∧x0<List.length x6∧x0<List.length x6∧(0:Int)≤y.2.2.1∧x0<List.length x5∧x0<List.length x5∧x10≤(4611686018427387903:Int)∧(0:Int)≤y.2.2.1∧x0<List.length x4∧x0<List.length x4∧(0:Int)≤y.2.2.1∧x0<List.length x3∧x0<List.length x3∧(0:Int)≤y.2.2.1∧x0<List.length x2∧x0<List.length x2∧x8≤(4611686018427387903:Int)∧(0:Int)≤y.2.2.1∧x0<List.length x1∧x0<List.length x1∧Zi90_2 a k (List.modify x1 x0 fun(x:DExpr)=>{Op:=x.Op,L:=x.L,R:={K:=x.R.K,S:=x.R.S,V:={K:=x.R.V.K,N:=x.R.V.N,S:=markText x8:DVal}:DArg}:DExpr},IntKind.wrap IntKind.i64 (x8+(1:Int)),IntKind.wrap IntKind.i64 (y.2.2.1+(1:Int)),PUnit.unit)∧Zm90_2 a k (List.modify x1 x0 fun(x:DExpr)=>{Op:=x.Op,L:=x.L,R:={K:=x.R.K,S:=x.R.S,V:={K:=x.R.V.K,N:=x.R.V.N,S:=markText x8:DVal}:DArg}:DExpr},IntKind.wrap IntKind.i64 (x8+(1:Int)),IntKind.wrap IntKind.i64 (y.2.2.1+(1:Int)),PUnit.unit)<Zm90_2 a k y else asD [DV.one (Cell.lit (Value.int IntKind.i64 y.2.1))]=asD [DV.one (Cell.lit (Value.int IntKind.i64 (k+(↑(cntExprS a):Int))))]∧asD [DV.one (Cell.sl Cd.eExpr y.1)]=asD [DV.one (Cell.sl Cd.eExpr (markExprS a k))]):=by kernel_rfl
theorem Zo90:Holds EE (90,Zk90):=by
 refine holds_of EE_ok Go.Proofs.Tryz.func90 Zk90 (by kernel_rfl) Zu90 (us_ok _) Za90 (fun x hp hb=> ?_)
 obtain⟨a,k⟩:=x
 have hl_a:a.length≤9223372036854775807:=bdL (hb _ m0)
 have hl_k:=bdI (n:=k) (hb _ m1)
 have hp0:0≤k:=hp _ m0
 have hp1:k+cntExprS a≤4611686018427387904:=hp _ m1
 clear hp hb
 rw[Zv90 a k]
 dsimp only
 refine⟨⟨by omega,by omega,by simp,by simp[ctS]⟩,?_⟩
 rintro⟨row,kk,i,⟨⟩⟩ ⟨h1,h2,rfl,rfl⟩
 simp only
 have hl:=mk_rl markExpr cntExpr a k h1 h2
 refine if_cond (fun hc=> ?_) (fun hc=> ?_)
 ·have hc:i<a.length:=by have hc:=of_decide_eq_true hc;omega
  have hct:=ctS_take cntExpr a zExpr h1 hc
  have hle:=ctS_take_le cntExpr a (i+1).toNat
  have hg:=mk_getD _ a zExpr (mk_tl markExpr cntExpr a k h1 h2) h1 hc
  have hM:=fun F hF=>mkS_mod markExpr cntExpr a zExpr k (i:=i) F h1 hc hF
  have hq:(cntExprS a:Int)=ctS cntExpr a:=rfl
  generalize List.getD a i.toNat zExpr=x at*
  generalize hkk:k+(ctS cntExpr (a.take i.toNat):Int)=kk at*
  generalize List.take i.toNat (mkS markExpr cntExpr a k)++List.drop i.toNat a=R at*
  simp only[cntExpr] at hct
  simp(disch:=first|omega|(simp only[List.length_modify];omega)) only[List.length_modify,wrap_i64,getD_modify,modify_modify,hg,hl]
  repeat' (first|refine And.intro (by omega) ?_|fail)
  exact⟨⟨by omega,by omega,hM _ (by first|rfl|(simp only[markExpr,markBool];rw[Int.tmod_eq_emod_of_nonneg (by omega)];rfl)),by omega⟩,by simp only[Zm90_2];omega⟩
 ·have hc:a.length≤i:=by have hc:=of_decide_eq_false hc;omega
  rw[mk_done markExpr cntExpr a k hc,ct_done cntExpr a hc]
  exact⟨rfl,rfl⟩
def Zh90:HH:=⟨_,Zo90⟩
def Zk103:Con UU where
 α:=DAct×Int
 md:=[.ro,.ro]
 of:=oC (oA .lAct) (o1 oI)
 ds:=fun x=>[dA .lAct x.1,dI x.2]
 pre:=fun(a,left)=>[0≤left]
 res:=fun(a,left)=>⟨[.one (.lit (.int .i64 (szr left (sizeAct a))))],true,[]⟩
 law:=lC (lA .lAct) (l1 lI)
def Za103:Zk103.α→Nat→Option (Ann UU):=fun(a,left)=>annL []
def Zu103:=us [Zh140]
theorem Zv103(a:DAct)(left:Int):goal EE Zu103 Go.Proofs.Tryz.f103 Zk103 Za103 (a,left)=(let x1:Int:=IntKind.wrap IntKind.i64 (left-(↑(ByteArray.size a.Name):Int));
let x0:Int:=IntKind.wrap IntKind.i64 (szr x1 (sizeExprS a.Args)-(↑(ByteArray.size a.Undo):Int));
bif decide (x1<(0:Int)) then Lf [DV.one (Cell.lit (Value.int IntKind.i64 (-1:Int)))] [DV.one (Cell.lit (Value.int IntKind.i64 (szr left (sizeAct a))))] else(0:Int)≤x1∧bif decide (szr x1 (sizeExprS a.Args)<(0:Int)) then Lf [DV.one (Cell.lit (Value.int IntKind.i64 (-1:Int)))] [DV.one (Cell.lit (Value.int IntKind.i64 (szr left (sizeAct a))))] else bif decide (x0<(0:Int)) then Lf [DV.one (Cell.lit (Value.int IntKind.i64 (-1:Int)))] [DV.one (Cell.lit (Value.int IntKind.i64 (szr left (sizeAct a))))] else Lf [DV.one (Cell.lit (Value.int IntKind.i64 x0))] [DV.one (Cell.lit (Value.int IntKind.i64 (szr left (sizeAct a))))]):=by kernel_rfl
theorem Zo103:Holds EE (103,Zk103):=by
 refine holds_of EE_ok Go.Proofs.Tryz.func103 Zk103 (by kernel_rfl) Zu103 (us_ok _) Za103 (fun x hp hb=> ?_)
 obtain⟨a,left⟩:=x
 have hz0:=bd_lAct (x:=a) (hb _ m0)
 have hl_a_Name:=hz0.1
 have hl_a_Args:=hz0.2.1
 have hl_a_Undo:=hz0.2.2
 have hl_left:=bdI (n:=left) (hb _ m1)
 have hp0:0≤left:=hp _ m0
 clear hp hb
 rw[Zv103 a left]
 dsimp only
 rw[wrap_i64 (by omega) (by omega)]
 refine if_cond (fun h=>Lf_i (szr_bad' ?_)) (fun h=> ?_)
 ·have h:=of_decide_eq_true h;simp only[sizeAct];omega
 have h0:=of_decide_eq_false h
 refine⟨by omega,if_cond (fun h=>Lf_i (szr_bad' ?_)) (fun h=> ?_)⟩
 ·have h:=szr_neg h;simp only[sizeAct];omega
 obtain⟨e1,h1⟩:=szr_pos h
 rw[e1]
 rw[wrap_i64 (by omega) (by omega)]
 refine if_cond (fun h=>Lf_i (szr_bad' ?_)) (fun h=> ?_)
 ·have h:=of_decide_eq_true h;simp only[sizeAct];omega
 have h2:=of_decide_eq_false h
 exact Lf_i (by rw[←szr_ok' (by simp only[sizeAct];omega)];simp only[sizeAct];try omega)
def Zh103:HH:=⟨_,Zo103⟩
def Zk113:Con UU where
 α:=DAct
 md:=[.ro]
 of:=o1 (oA .lAct)
 ds:=fun x=>[dA .lAct x]
 pre:=fun a=>[sizeAct a≤4294967296]
 res:=fun a=>⟨[.agg [.lit (.int .i64 a.Kind),.lit (.string a.Name),.sl .eExpr a.Args,.lit (.int .i64 a.N),.lit (.string a.Undo)]],true,[]⟩
 law:=l1 (lA .lAct)
def Za113:Zk113.α→Nat→Option (Ann UU):=fun a=>annL []
def Zu113:=us [Zh151]
theorem Zv113(a:DAct):goal EE Zu113 Go.Proofs.Tryz.f113 Zk113 Za113 a=(sizeExprS a.Args≤(4294967296:Nat)∧Lf [DV.agg [Cell.lit (Value.int IntKind.i64 a.Kind),Cell.lit (Value.string a.Name),Cell.sl Cd.eExpr a.Args,Cell.lit (Value.int IntKind.i64 a.N),Cell.lit (Value.string a.Undo)]] [DV.agg [Cell.lit (Value.int IntKind.i64 a.Kind),Cell.lit (Value.string a.Name),Cell.sl Cd.eExpr a.Args,Cell.lit (Value.int IntKind.i64 a.N),Cell.lit (Value.string a.Undo)]]):=by kernel_rfl
theorem Zo113:Holds EE (113,Zk113):=by
 refine holds_of EE_ok Go.Proofs.Tryz.func113 Zk113 (by kernel_rfl) Zu113 (us_ok _) Za113 (fun(a:DAct) hp hb=> ?_)
 have hz0:=bd_lAct (x:=a) (hb _ m0)
 have hl_a_Name:=hz0.1
 have hl_a_Args:=hz0.2.1
 have hl_a_Undo:=hz0.2.2
 have hp0:sizeAct a≤4294967296:=hp _ m0
 clear hp hb
 rw[Zv113 a]
 simp only[sizeAct] at hp0
 repeat' (first|exact Lf_rfl _|(refine And.intro (by omega) ?_))
def Zh113:HH:=⟨_,Zo113⟩
def Zk135:Con UU where
 α:=DAct×DAct
 md:=[.ro,.ro]
 of:=oC (oA .eAct) (o1 (oA .eAct))
 ds:=fun x=>[dA .eAct x.1,dA .eAct x.2]
 pre:=fun _=>[]
 res:=fun(a,b)=>⟨[.one (.lit (.bool (decide (a=b))))],true,[]⟩
 law:=lC (lA .eAct) (l1 (lA .eAct))
def Za135:Zk135.α→Nat→Option (Ann UU):=fun(a,b)=>annL []
def Zu135:=us [Zh166]
theorem Zv135(a:DAct)(b:DAct):goal EE Zu135 Go.Proofs.Tryz.f135 Zk135 Za135 (a,b)=(bif a.Kind !=b.Kind then Lb false (decide (a=b)) else bif !ByteArray.toList a.Name==ByteArray.toList b.Name then Lb false (decide (a=b)) else bif !decide (a.Args=b.Args) then Lb false (decide (a=b)) else bif a.N !=b.N then Lb false (decide (a=b)) else bif !ByteArray.toList a.Undo==ByteArray.toList b.Undo then Lb false (decide (a=b)) else Lb true (decide (a=b))):=by kernel_rfl
theorem Zo135:Holds EE (135,Zk135):=by
 refine holds_of EE_ok Go.Proofs.Tryz.func135 Zk135 (by kernel_rfl) Zu135 (us_ok _) Za135 (fun x hp hb=> ?_)
 obtain⟨a,b⟩:=x
 have hz0:=bd_eAct (x:=a) (hb _ m0)
 have hl_a_Name:=hz0.1
 have hl_a_Args:=hz0.2.1
 have hl_a_Undo:=hz0.2.2
 have hz1:=bd_eAct (x:=b) (hb _ m1)
 have hl_b_Name:=hz1.1
 have hl_b_Args:=hz1.2.1
 have hl_b_Undo:=hz1.2.2
 clear hp hb
 rw[Zv135 a b]
 obtain⟨aKind,aName,aArgs,aN,aUndo⟩:=a
 obtain⟨bKind,bName,bArgs,bN,bUndo⟩:=b
 repeat' (apply if_cond<;>intro _)
 all_goals (first|apply Lf_t|apply Lf_f)<;>simp_all
def Zh135:HH:=⟨_,Zo135⟩
def Zk65:Con UU where
 α:=(List DAct)×Int
 md:=[.ro,.ro]
 of:=oC (oL .lAct) (o1 oI)
 ds:=fun x=>[dL .lAct x.1,dI x.2]
 pre:=fun(a,left)=>[0≤left]
 res:=fun(a,left)=>⟨[.one (.lit (.int .i64 (szr left (sizeActS a))))],true,[]⟩
 law:=lC (lL .lAct) (l1 lI)
def Zi65_5(a:(List DAct))(left:Int):Int×Int×Unit→Prop:=szI sizeAct a (sizeActS a) left
def Zm65_5(a:(List DAct))(left:Int):Int×Int×Unit→Nat:=rM2 a
def Za65:Zk65.α→Nat→Option (Ann UU):=fun(a,left)=>annL [(5,annOf [.slot 1 (1,1024) (.lit (.int .i64)),.slot 5 (5,1024) (.lit (.int .i64))] (fun _=>Zi65_5 a left) (Zm65_5 a left))]
def Zu65:=us [Zh103]
theorem Zv65(a:(List DAct))(left:Int):goal EE Zu65 Go.Proofs.Tryz.f65 Zk65 Za65 (a,left)=(szV sizeAct zAct a (sizeActS a) left):=by kernel_rfl
theorem Zo65:Holds EE (65,Zk65):=by
 refine holds_of EE_ok Go.Proofs.Tryz.func65 Zk65 (by kernel_rfl) Zu65 (us_ok _) Za65 (fun x hp hb=> ?_)
 obtain⟨a,left⟩:=x
 have hl_a:a.length≤9223372036854775807:=bdL (hb _ m0)
 have hl_left:=bdI (n:=left) (hb _ m1)
 have hp0:0≤left:=hp _ m0
 clear hp hb
 rw[Zv65 a left]
 exact szV_ok rfl hp0 hl_left hl_a
def Zh65:HH:=⟨_,Zo65⟩
def Zk73:Con UU where
 α:=(List DAct)
 md:=[.ro]
 of:=o1 (oL .lAct)
 ds:=fun x=>[dL .lAct x]
 pre:=fun a=>[sizeActS a≤4294967296]
 res:=fun a=>⟨[.one (.sl .eAct a)],true,[]⟩
 law:=l1 (lL .lAct)
def Zi73_3(a:(List DAct)):List DAct×Int×Unit→Prop:=toI zAct a
def Zm73_3(a:(List DAct)):List DAct×Int×Unit→Nat:=rM2 a
def Za73:Zk73.α→Nat→Option (Ann UU):=fun a=>annL [(3,annOf [.slot 3 (3,1024) (.own .eAct true),.slot 4 (4,1024) (.lit (.int .i64))] (fun _=>Zi73_3 a) (Zm73_3 a))]
def Zu73:=us [Zh113]
theorem Zv73(a:(List DAct)):goal EE Zu73 Go.Proofs.Tryz.f73 Zk73 Za73 a=(toV sizeAct zAct a fun y=>Lf [.one (.sl .eAct y)] [.one (.sl .eAct a)]):=by kernel_rfl
theorem Zo73:Holds EE (73,Zk73):=by
 refine holds_of EE_ok Go.Proofs.Tryz.func73 Zk73 (by kernel_rfl) Zu73 (us_ok _) Za73 (fun(a:(List DAct)) hp hb=> ?_)
 have hl_a:a.length≤9223372036854775807:=bdL (hb _ m0)
 have hp0:sizeActS a≤4294967296:=hp _ m0
 clear hp hb
 rw[Zv73 a]
 exact toV_ok hp0 (Lf_rfl _)
def Zh73:HH:=⟨_,Zo73⟩
def Zk88:Con UU where
 α:=(List DAct)×(List DAct)
 md:=[.ro,.ro]
 of:=oC (oL .eAct) (o1 (oL .eAct))
 ds:=fun x=>[dL .eAct x.1,dL .eAct x.2]
 pre:=fun _=>[]
 res:=fun(a,b)=>⟨[.one (.lit (.bool (decide (a=b))))],true,[]⟩
 law:=lC (lL .eAct) (l1 (lL .eAct))
def Zi88_4(a:(List DAct))(b:(List DAct)):Int×Unit→Prop:=eqI a b
def Zm88_4(a:(List DAct))(b:(List DAct)):Int×Unit→Nat:=rM1 a
def Za88:Zk88.α→Nat→Option (Ann UU):=fun(a,b)=>annL [(4,annOf [.slot 5 (5,1024) (.lit (.int .i64))] (fun _=>Zi88_4 a b) (Zm88_4 a b))]
def Zu88:=us [Zh135]
theorem Zv88(a:(List DAct))(b:(List DAct)):goal EE Zu88 Go.Proofs.Tryz.f88 Zk88 Za88 (a,b)=(eqV zAct a b):=by kernel_rfl
theorem Zo88:Holds EE (88,Zk88):=by
 refine holds_of EE_ok Go.Proofs.Tryz.func88 Zk88 (by kernel_rfl) Zu88 (us_ok _) Za88 (fun x hp hb=> ?_)
 obtain⟨a,b⟩:=x
 have hl_a:a.length≤9223372036854775807:=bdL (hb _ m0)
 have hl_b:b.length≤9223372036854775807:=bdL (hb _ m1)
 clear hp hb
 rw[Zv88 a b]
 exact eqV_ok hl_a
def Zh88:HH:=⟨_,Zo88⟩
def Zk48:Con UU where
 α:=(List DAct)×Int
 md:=[.wr,.ro]
 of:=oC (oL .eAct) (o1 oI)
 ds:=fun x=>[dL .eAct x.1,dI x.2]
 pre:=fun(a,k)=>[0≤k,k+cntActS a≤4611686018427387904]
 res:=fun(a,k)=>⟨[.one (.lit (.int .i64 (k+cntActS a)))],true,[.one (.sl .eAct (markActS a k))]⟩
 law:=lC (lL .eAct) (l1 lI)
def Zi48_2(a:(List DAct))(k:Int):List DAct×Int×Int×Unit→Prop:=fun(row,kk,i,_)=>0≤i∧i≤a.length∧row=(mkS markAct cntAct a k).take i.toNat++a.drop i.toNat∧kk=k+ctS cntAct (a.take i.toNat)
def Zm48_2(a:(List DAct))(k:Int):List DAct×Int×Int×Unit→Nat:=fun(row,kk,i,_)=>a.length-i.toNat
def Za48:Zk48.α→Nat→Option (Ann UU):=fun(a,k)=>annL [(2,annOf [.slot 0 (2000000,0) (.own .eAct true),.slot 1 (1,1024) (.lit (.int .i64)),.slot 5 (5,1024) (.lit (.int .i64))] (fun _=>Zi48_2 a k) (Zm48_2 a k))]
def Zu48:=us [Zh45,Zh90]
theorem Zv48(a:(List DAct))(k:Int):goal EE Zu48 Go.Proofs.Tryz.f48 Zk48 Za48 (a,k)=(Zi48_2 a k (a,k,(0:Int),())∧
 ∀(y:List DAct×Int×Int×PUnit),
  let x3:Nat:=Int.toNat y.2.2.1;
  let x7:Int:=IntKind.wrap IntKind.i64 (y.2.1+(1:Int));
  let x8:List DAct:=List.modify y.1 x3 fun(x:DAct)=>{Kind:=y.2.1,Name:=x.Name,Args:=x.Args,N:=x.N,Undo:=x.Undo:DAct};
  let x5:List DAct:=List.modify x8 x3 fun(x:DAct)=>{Kind:=x.Kind,Name:=markText x7,Args:=x.Args,N:=x.N,Undo:=x.Undo:DAct};
  let x6:Int:=IntKind.wrap IntKind.i64 (x7+(1:Int));
  let x2:Int:=x6+(↑(cntExprS (List.getD x5 x3 zAct).Args):Int);
  let x4:List DAct:=List.modify x5 x3 fun(x:DAct)=>{Kind:=x.Kind,Name:=x.Name,Args:=markExprS (List.getD x5 x3 zAct).Args x6,N:=x.N,Undo:=x.Undo:DAct};
  let x0:List DAct:=List.modify x4 x3 fun(x:DAct)=>{Kind:=x.Kind,Name:=x.Name,Args:=x.Args,N:=x2,Undo:=x.Undo:DAct};
  let x1:Int:=IntKind.wrap IntKind.i64 (x2+(1:Int));
  Zi48_2 a k y→bif decide (y.2.2.1<(↑(List.length y.1):Int)) then(0:Int)≤y.2.2.1∧x3<List.length y.1∧x3<List.length y.1∧x7≤(4611686018427387903:Int)∧(0:Int)≤y.2.2.1∧x3<List.length x8∧x3<List.length x8∧(0:Int)≤y.2.2.1∧x3<List.length x5∧x3<List.length x5∧x3<List.length x5∧(0:Int)≤x6∧x2≤(4611686018427387904:Int)∧(0:Int)≤y.2.2.1∧x3<List.length x4∧x3<List.length x4∧x1≤(4611686018427387903:Int)∧(0:Int)≤y.2.2.1∧x3<List.length x0∧x3<List.length x0∧Zi48_2 a k (List.modify x0 x3 fun(x:DAct)=>{Kind:=x.Kind,Name:=x.Name,Args:=x.Args,N:=x.N,Undo:=markText x1:DAct},IntKind.wrap IntKind.i64 (x1+(1:Int)),IntKind.wrap IntKind.i64 (y.2.2.1+(1:Int)),PUnit.unit)∧Zm48_2 a k (List.modify x0 x3 fun(x:DAct)=>{Kind:=x.Kind,Name:=x.Name,Args:=x.Args,N:=x.N,Undo:=markText x1:DAct},IntKind.wrap IntKind.i64 (x1+(1:Int)),IntKind.wrap IntKind.i64 (y.2.2.1+(1:Int)),PUnit.unit)<Zm48_2 a k y else asD [DV.one (Cell.lit (Value.int IntKind.i64 y.2.1))]=asD [DV.one (Cell.lit (Value.int IntKind.i64 (k+(↑(cntActS a):Int))))]∧asD [DV.one (Cell.sl Cd.eAct y.1)]=asD [DV.one (Cell.sl Cd.eAct (markActS a k))]):=by kernel_rfl
theorem Zo48:Holds EE (48,Zk48):=by
 refine holds_of EE_ok Go.Proofs.Tryz.func48 Zk48 (by kernel_rfl) Zu48 (us_ok _) Za48 (fun x hp hb=> ?_)
 obtain⟨a,k⟩:=x
 have hl_a:a.length≤9223372036854775807:=bdL (hb _ m0)
 have hl_k:=bdI (n:=k) (hb _ m1)
 have hp0:0≤k:=hp _ m0
 have hp1:k+cntActS a≤4611686018427387904:=hp _ m1
 clear hp hb
 rw[Zv48 a k]
 dsimp only
 refine⟨⟨by omega,by omega,by simp,by simp[ctS]⟩,?_⟩
 rintro⟨row,kk,i,⟨⟩⟩ ⟨h1,h2,rfl,rfl⟩
 simp only
 have hl:=mk_rl markAct cntAct a k h1 h2
 refine if_cond (fun hc=> ?_) (fun hc=> ?_)
 ·have hc:i<a.length:=by have hc:=of_decide_eq_true hc;omega
  have hct:=ctS_take cntAct a zAct h1 hc
  have hle:=ctS_take_le cntAct a (i+1).toNat
  have hg:=mk_getD _ a zAct (mk_tl markAct cntAct a k h1 h2) h1 hc
  have hM:=fun F hF=>mkS_mod markAct cntAct a zAct k (i:=i) F h1 hc hF
  have hq:(cntActS a:Int)=ctS cntAct a:=rfl
  generalize List.getD a i.toNat zAct=x at*
  generalize hkk:k+(ctS cntAct (a.take i.toNat):Int)=kk at*
  generalize List.take i.toNat (mkS markAct cntAct a k)++List.drop i.toNat a=R at*
  simp only[cntAct] at hct
  simp(disch:=first|omega|(simp only[List.length_modify];omega)) only[List.length_modify,wrap_i64,getD_modify,modify_modify,hg,hl]
  repeat' (first|refine And.intro (by omega) ?_|fail)
  exact⟨⟨by omega,by omega,hM _ (by first|rfl|(simp only[markAct,markBool];rw[Int.tmod_eq_emod_of_nonneg (by omega)];rfl)),by omega⟩,by simp only[Zm48_2];omega⟩
 ·have hc:a.length≤i:=by have hc:=of_decide_eq_false hc;omega
  rw[mk_done markAct cntAct a k hc,ct_done cntAct a hc]
  exact⟨rfl,rfl⟩
def Zh48:HH:=⟨_,Zo48⟩
def Zk29:Con UU where
 α:=DRule×Int
 md:=[.ro,.ro]
 of:=oC (oA .lRule) (o1 oI)
 ds:=fun x=>[dA .lRule x.1,dI x.2]
 pre:=fun(a,left)=>[0≤left]
 res:=fun(a,left)=>⟨[.one (.lit (.int .i64 (szr left (sizeRule a))))],true,[]⟩
 law:=lC (lA .lRule) (l1 lI)
def Za29:Zk29.α→Nat→Option (Ann UU):=fun(a,left)=>annL []
def Zu29:=us [Zh63,Zh64,Zh65]
theorem Zv29(a:DRule)(left:Int):goal EE Zu29 Go.Proofs.Tryz.f29 Zk29 Za29 (a,left)=(let x2:Int:=IntKind.wrap IntKind.i64 (left-(↑(ByteArray.size a.Name):Int));
let x1:Int:=szr x2 (sizePatS a.Pats);
let x0:Int:=szr x1 (sizeCondS a.Conds);
bif decide (x2<(0:Int)) then Lf [DV.one (Cell.lit (Value.int IntKind.i64 (-1:Int)))] [DV.one (Cell.lit (Value.int IntKind.i64 (szr left (sizeRule a))))] else(0:Int)≤x2∧bif decide (x1<(0:Int)) then Lf [DV.one (Cell.lit (Value.int IntKind.i64 (-1:Int)))] [DV.one (Cell.lit (Value.int IntKind.i64 (szr left (sizeRule a))))] else(0:Int)≤x1∧bif decide (x0<(0:Int)) then Lf [DV.one (Cell.lit (Value.int IntKind.i64 (-1:Int)))] [DV.one (Cell.lit (Value.int IntKind.i64 (szr left (sizeRule a))))] else(0:Int)≤x0∧bif decide (szr x0 (sizeActS a.Acts)<(0:Int)) then Lf [DV.one (Cell.lit (Value.int IntKind.i64 (-1:Int)))] [DV.one (Cell.lit (Value.int IntKind.i64 (szr left (sizeRule a))))] else Lf [DV.one (Cell.lit (Value.int IntKind.i64 (szr x0 (sizeActS a.Acts))))] [DV.one (Cell.lit (Value.int IntKind.i64 (szr left (sizeRule a))))]):=by kernel_rfl
theorem Zo29:Holds EE (29,Zk29):=by
 refine holds_of EE_ok Go.Proofs.Tryz.func29 Zk29 (by kernel_rfl) Zu29 (us_ok _) Za29 (fun x hp hb=> ?_)
 obtain⟨a,left⟩:=x
 have hz0:=bd_lRule (x:=a) (hb _ m0)
 have hl_a_Name:=hz0.1
 have hl_a_Pats:=hz0.2.1
 have hl_a_Conds:=hz0.2.2.1
 have hl_a_Acts:=hz0.2.2.2
 have hl_left:=bdI (n:=left) (hb _ m1)
 have hp0:0≤left:=hp _ m0
 clear hp hb
 rw[Zv29 a left]
 dsimp only
 rw[wrap_i64 (by omega) (by omega)]
 refine if_cond (fun h=>Lf_i (szr_bad' ?_)) (fun h=> ?_)
 ·have h:=of_decide_eq_true h;simp only[sizeRule];omega
 have h0:=of_decide_eq_false h
 refine⟨by omega,if_cond (fun h=>Lf_i (szr_bad' ?_)) (fun h=> ?_)⟩
 ·have h:=szr_neg h;simp only[sizeRule];omega
 obtain⟨e1,h1⟩:=szr_pos h
 rw[e1]
 refine⟨by omega,if_cond (fun h=>Lf_i (szr_bad' ?_)) (fun h=> ?_)⟩
 ·have h:=szr_neg h;simp only[sizeRule];omega
 obtain⟨e2,h2⟩:=szr_pos h
 rw[e2]
 refine⟨by omega,if_cond (fun h=>Lf_i (szr_bad' ?_)) (fun h=> ?_)⟩
 ·have h:=szr_neg h;simp only[sizeRule];omega
 obtain⟨e3,h3⟩:=szr_pos h
 rw[e3]
 exact Lf_i (by rw[←szr_ok' (by simp only[sizeRule];omega)];simp only[sizeRule];try omega)
def Zh29:HH:=⟨_,Zo29⟩
def Zk33:Con UU where
 α:=DRule
 md:=[.ro]
 of:=o1 (oA .lRule)
 ds:=fun x=>[dA .lRule x]
 pre:=fun a=>[sizeRule a≤4294967296]
 res:=fun a=>⟨[.agg [.lit (.string a.Name),.lit (.int .i64 a.Sal),.sl .ePat a.Pats,.sl .eCond a.Conds,.sl .eAct a.Acts]],true,[]⟩
 law:=l1 (lA .lRule)
def Za33:Zk33.α→Nat→Option (Ann UU):=fun a=>annL []
def Zu33:=us [Zh71,Zh72,Zh73]
theorem Zv33(a:DRule):goal EE Zu33 Go.Proofs.Tryz.f33 Zk33 Za33 a=(sizePatS a.Pats≤(4294967296:Nat)∧sizeCondS a.Conds≤(4294967296:Nat)∧sizeActS a.Acts≤(4294967296:Nat)∧Lf [DV.agg [Cell.lit (Value.string a.Name),Cell.lit (Value.int IntKind.i64 a.Sal),Cell.sl Cd.ePat a.Pats,Cell.sl Cd.eCond a.Conds,Cell.sl Cd.eAct a.Acts]] [DV.agg [Cell.lit (Value.string a.Name),Cell.lit (Value.int IntKind.i64 a.Sal),Cell.sl Cd.ePat a.Pats,Cell.sl Cd.eCond a.Conds,Cell.sl Cd.eAct a.Acts]]):=by kernel_rfl
theorem Zo33:Holds EE (33,Zk33):=by
 refine holds_of EE_ok Go.Proofs.Tryz.func33 Zk33 (by kernel_rfl) Zu33 (us_ok _) Za33 (fun(a:DRule) hp hb=> ?_)
 have hz0:=bd_lRule (x:=a) (hb _ m0)
 have hl_a_Name:=hz0.1
 have hl_a_Pats:=hz0.2.1
 have hl_a_Conds:=hz0.2.2.1
 have hl_a_Acts:=hz0.2.2.2
 have hp0:sizeRule a≤4294967296:=hp _ m0
 clear hp hb
 rw[Zv33 a]
 simp only[sizeRule] at hp0
 repeat' (first|exact Lf_rfl _|(refine And.intro (by omega) ?_))
def Zh33:HH:=⟨_,Zo33⟩
def Zk44:Con UU where
 α:=DRule×DRule
 md:=[.ro,.ro]
 of:=oC (oA .eRule) (o1 (oA .eRule))
 ds:=fun x=>[dA .eRule x.1,dA .eRule x.2]
 pre:=fun _=>[]
 res:=fun(a,b)=>⟨[.one (.lit (.bool (decide (a=b))))],true,[]⟩
 law:=lC (lA .eRule) (l1 (lA .eRule))
def Za44:Zk44.α→Nat→Option (Ann UU):=fun(a,b)=>annL []
def Zu44:=us [Zh86,Zh87,Zh88]
theorem Zv44(a:DRule)(b:DRule):goal EE Zu44 Go.Proofs.Tryz.f44 Zk44 Za44 (a,b)=(bif !ByteArray.toList a.Name==ByteArray.toList b.Name then Lb false (decide (a=b)) else bif a.Sal !=b.Sal then Lb false (decide (a=b)) else bif !decide (a.Pats=b.Pats) then Lb false (decide (a=b)) else bif !decide (a.Conds=b.Conds) then Lb false (decide (a=b)) else bif !decide (a.Acts=b.Acts) then Lb false (decide (a=b)) else Lb true (decide (a=b))):=by kernel_rfl
theorem Zo44:Holds EE (44,Zk44):=by
 refine holds_of EE_ok Go.Proofs.Tryz.func44 Zk44 (by kernel_rfl) Zu44 (us_ok _) Za44 (fun x hp hb=> ?_)
 obtain⟨a,b⟩:=x
 have hz0:=bd_eRule (x:=a) (hb _ m0)
 have hl_a_Name:=hz0.1
 have hl_a_Pats:=hz0.2.1
 have hl_a_Conds:=hz0.2.2.1
 have hl_a_Acts:=hz0.2.2.2
 have hz1:=bd_eRule (x:=b) (hb _ m1)
 have hl_b_Name:=hz1.1
 have hl_b_Pats:=hz1.2.1
 have hl_b_Conds:=hz1.2.2.1
 have hl_b_Acts:=hz1.2.2.2
 clear hp hb
 rw[Zv44 a b]
 obtain⟨aName,aSal,aPats,aConds,aActs⟩:=a
 obtain⟨bName,bSal,bPats,bConds,bActs⟩:=b
 repeat' (apply if_cond<;>intro _)
 all_goals (first|apply Lf_t|apply Lf_f)<;>simp_all
def Zh44:HH:=⟨_,Zo44⟩
def Zk13:Con UU where
 α:=(List DRule)×Int
 md:=[.ro,.ro]
 of:=oC (oL .lRule) (o1 oI)
 ds:=fun x=>[dL .lRule x.1,dI x.2]
 pre:=fun(a,left)=>[0≤left]
 res:=fun(a,left)=>⟨[.one (.lit (.int .i64 (szr left (sizeRuleS a))))],true,[]⟩
 law:=lC (lL .lRule) (l1 lI)
def Zi13_5(a:(List DRule))(left:Int):Int×Int×Unit→Prop:=szI sizeRule a (sizeRuleS a) left
def Zm13_5(a:(List DRule))(left:Int):Int×Int×Unit→Nat:=rM2 a
def Za13:Zk13.α→Nat→Option (Ann UU):=fun(a,left)=>annL [(5,annOf [.slot 1 (1,1024) (.lit (.int .i64)),.slot 5 (5,1024) (.lit (.int .i64))] (fun _=>Zi13_5 a left) (Zm13_5 a left))]
def Zu13:=us [Zh29]
theorem Zv13(a:(List DRule))(left:Int):goal EE Zu13 Go.Proofs.Tryz.f13 Zk13 Za13 (a,left)=(szV sizeRule zRule a (sizeRuleS a) left):=by kernel_rfl
theorem Zo13:Holds EE (13,Zk13):=by
 refine holds_of EE_ok Go.Proofs.Tryz.func13 Zk13 (by kernel_rfl) Zu13 (us_ok _) Za13 (fun x hp hb=> ?_)
 obtain⟨a,left⟩:=x
 have hl_a:a.length≤9223372036854775807:=bdL (hb _ m0)
 have hl_left:=bdI (n:=left) (hb _ m1)
 have hp0:0≤left:=hp _ m0
 clear hp hb
 rw[Zv13 a left]
 exact szV_ok rfl hp0 hl_left hl_a
def Zh13:HH:=⟨_,Zo13⟩
def Zk17:Con UU where
 α:=(List DRule)
 md:=[.ro]
 of:=o1 (oL .lRule)
 ds:=fun x=>[dL .lRule x]
 pre:=fun a=>[sizeRuleS a≤4294967296]
 res:=fun a=>⟨[.one (.sl .eRule a)],true,[]⟩
 law:=l1 (lL .lRule)
def Zi17_3(a:(List DRule)):List DRule×Int×Unit→Prop:=toI zRule a
def Zm17_3(a:(List DRule)):List DRule×Int×Unit→Nat:=rM2 a
def Za17:Zk17.α→Nat→Option (Ann UU):=fun a=>annL [(3,annOf [.slot 3 (3,1024) (.own .eRule true),.slot 4 (4,1024) (.lit (.int .i64))] (fun _=>Zi17_3 a) (Zm17_3 a))]
def Zu17:=us [Zh33]
theorem Zv17(a:(List DRule)):goal EE Zu17 Go.Proofs.Tryz.f17 Zk17 Za17 a=(toV sizeRule zRule a fun y=>Lf [.one (.sl .eRule y)] [.one (.sl .eRule a)]):=by kernel_rfl
theorem Zo17:Holds EE (17,Zk17):=by
 refine holds_of EE_ok Go.Proofs.Tryz.func17 Zk17 (by kernel_rfl) Zu17 (us_ok _) Za17 (fun(a:(List DRule)) hp hb=> ?_)
 have hl_a:a.length≤9223372036854775807:=bdL (hb _ m0)
 have hp0:sizeRuleS a≤4294967296:=hp _ m0
 clear hp hb
 rw[Zv17 a]
 exact toV_ok hp0 (Lf_rfl _)
def Zh17:HH:=⟨_,Zo17⟩
def Zk23:Con UU where
 α:=(List DRule)×(List DRule)
 md:=[.ro,.ro]
 of:=oC (oL .eRule) (o1 (oL .eRule))
 ds:=fun x=>[dL .eRule x.1,dL .eRule x.2]
 pre:=fun _=>[]
 res:=fun(a,b)=>⟨[.one (.lit (.bool (decide (a=b))))],true,[]⟩
 law:=lC (lL .eRule) (l1 (lL .eRule))
def Zi23_4(a:(List DRule))(b:(List DRule)):Int×Unit→Prop:=eqI a b
def Zm23_4(a:(List DRule))(b:(List DRule)):Int×Unit→Nat:=rM1 a
def Za23:Zk23.α→Nat→Option (Ann UU):=fun(a,b)=>annL [(4,annOf [.slot 5 (5,1024) (.lit (.int .i64))] (fun _=>Zi23_4 a b) (Zm23_4 a b))]
def Zu23:=us [Zh44]
theorem Zv23(a:(List DRule))(b:(List DRule)):goal EE Zu23 Go.Proofs.Tryz.f23 Zk23 Za23 (a,b)=(eqV zRule a b):=by kernel_rfl
theorem Zo23:Holds EE (23,Zk23):=by
 refine holds_of EE_ok Go.Proofs.Tryz.func23 Zk23 (by kernel_rfl) Zu23 (us_ok _) Za23 (fun x hp hb=> ?_)
 obtain⟨a,b⟩:=x
 have hl_a:a.length≤9223372036854775807:=bdL (hb _ m0)
 have hl_b:b.length≤9223372036854775807:=bdL (hb _ m1)
 clear hp hb
 rw[Zv23 a b]
 exact eqV_ok hl_a
def Zh23:HH:=⟨_,Zo23⟩
def Zk24:Con UU where
 α:=(List DRule)×Int
 md:=[.wr,.ro]
 of:=oC (oL .eRule) (o1 oI)
 ds:=fun x=>[dL .eRule x.1,dI x.2]
 pre:=fun(a,k)=>[0≤k,k+cntRuleS a≤4611686018427387904]
 res:=fun(a,k)=>⟨[.one (.lit (.int .i64 (k+cntRuleS a)))],true,[.one (.sl .eRule (markRuleS a k))]⟩
 law:=lC (lL .eRule) (l1 lI)
def Zi24_2(a:(List DRule))(k:Int):List DRule×Int×Int×Unit→Prop:=fun(row,kk,i,_)=>0≤i∧i≤a.length∧row=(mkS markRule cntRule a k).take i.toNat++a.drop i.toNat∧kk=k+ctS cntRule (a.take i.toNat)
def Zm24_2(a:(List DRule))(k:Int):List DRule×Int×Int×Unit→Nat:=fun(row,kk,i,_)=>a.length-i.toNat
def Za24:Zk24.α→Nat→Option (Ann UU):=fun(a,k)=>annL [(2,annOf [.slot 0 (2000000,0) (.own .eRule true),.slot 1 (1,1024) (.lit (.int .i64)),.slot 5 (5,1024) (.lit (.int .i64))] (fun _=>Zi24_2 a k) (Zm24_2 a k))]
def Zu24:=us [Zh45,Zh46,Zh47,Zh48]
theorem Zv24(a:(List DRule))(k:Int):goal EE Zu24 Go.Proofs.Tryz.f24 Zk24 Za24 (a,k)=(Zi24_2 a k (a,k,(0:Int),())∧
 ∀(y:List DRule×Int×Int×PUnit),
  let x4:Nat:=Int.toNat y.2.2.1;
  let x7:List DRule:=List.modify y.1 x4 fun(x:DRule)=>{Name:=markText y.2.1,Sal:=x.Sal,Pats:=x.Pats,Conds:=x.Conds,Acts:=x.Acts:DRule};
  let x8:Int:=IntKind.wrap IntKind.i64 (y.2.1+(1:Int));
  let x5:List DRule:=List.modify x7 x4 fun(x:DRule)=>{Name:=x.Name,Sal:=x8,Pats:=x.Pats,Conds:=x.Conds,Acts:=x.Acts:DRule};
  let x6:Int:=IntKind.wrap IntKind.i64 (x8+(1:Int));
  let x2:List DRule:=List.modify x5 x4 fun(x:DRule)=>{Name:=x.Name,Sal:=x.Sal,Pats:=markPatS (List.getD x5 x4 zRule).Pats x6,Conds:=x.Conds,Acts:=x.Acts:DRule};
  let x3:Int:=x6+(↑(cntPatS (List.getD x5 x4 zRule).Pats):Int);
  let x0:List DRule:=List.modify x2 x4 fun(x:DRule)=>{Name:=x.Name,Sal:=x.Sal,Pats:=x.Pats,Conds:=markCondS (List.getD x2 x4 zRule).Conds x3,Acts:=x.Acts:DRule};
  let x1:Int:=x3+(↑(cntCondS (List.getD x2 x4 zRule).Conds):Int);
  let x9:Int:=x1+(↑(cntActS (List.getD x0 x4 zRule).Acts):Int);
  Zi24_2 a k y→bif decide (y.2.2.1<(↑(List.length y.1):Int)) then y.2.1≤(4611686018427387903:Int)∧(0:Int)≤y.2.2.1∧x4<List.length y.1∧x4<List.length y.1∧(0:Int)≤y.2.2.1∧x4<List.length x7∧x4<List.length x7∧(0:Int)≤y.2.2.1∧x4<List.length x5∧x4<List.length x5∧x4<List.length x5∧(0:Int)≤x6∧x3≤(4611686018427387904:Int)∧(0:Int)≤y.2.2.1∧x4<List.length x2∧x4<List.length x2∧x4<List.length x2∧(0:Int)≤x3∧x1≤(4611686018427387904:Int)∧(0:Int)≤y.2.2.1∧x4<List.length x0∧x4<List.length x0∧x4<List.length x0∧(0:Int)≤x1∧x9≤(4611686018427387904:Int)∧Zi24_2 a k (List.modify x0 x4 fun(x:DRule)=>{Name:=x.Name,Sal:=x.Sal,Pats:=x.Pats,Conds:=x.Conds,Acts:=markActS (List.getD x0 x4 zRule).Acts x1:DRule},x9,IntKind.wrap IntKind.i64 (y.2.2.1+(1:Int)),PUnit.unit)∧Zm24_2 a k (List.modify x0 x4 fun(x:DRule)=>{Name:=x.Name,Sal:=x.Sal,Pats:=x.Pats,Conds:=x.Conds,Acts:=markActS (List.getD x0 x4 zRule).Acts x1:DRule},x9,IntKind.wrap IntKind.i64 (y.2.2.1+(1:Int)),PUnit.unit)<Zm24_2 a k y else asD [DV.one (Cell.lit (Value.int IntKind.i64 y.2.1))]=asD [DV.one (Cell.lit (Value.int IntKind.i64 (k+(↑(cntRuleS a):Int))))]∧asD [DV.one (Cell.sl Cd.eRule y.1)]=asD [DV.one (Cell.sl Cd.eRule (markRuleS a k))]):=by kernel_rfl
theorem Zo24:Holds EE (24,Zk24):=by
 refine holds_of EE_ok Go.Proofs.Tryz.func24 Zk24 (by kernel_rfl) Zu24 (us_ok _) Za24 (fun x hp hb=> ?_)
 obtain⟨a,k⟩:=x
 have hl_a:a.length≤9223372036854775807:=bdL (hb _ m0)
 have hl_k:=bdI (n:=k) (hb _ m1)
 have hp0:0≤k:=hp _ m0
 have hp1:k+cntRuleS a≤4611686018427387904:=hp _ m1
 clear hp hb
 rw[Zv24 a k]
 dsimp only
 refine⟨⟨by omega,by omega,by simp,by simp[ctS]⟩,?_⟩
 rintro⟨row,kk,i,⟨⟩⟩ ⟨h1,h2,rfl,rfl⟩
 simp only
 have hl:=mk_rl markRule cntRule a k h1 h2
 refine if_cond (fun hc=> ?_) (fun hc=> ?_)
 ·have hc:i<a.length:=by have hc:=of_decide_eq_true hc;omega
  have hct:=ctS_take cntRule a zRule h1 hc
  have hle:=ctS_take_le cntRule a (i+1).toNat
  have hg:=mk_getD _ a zRule (mk_tl markRule cntRule a k h1 h2) h1 hc
  have hM:=fun F hF=>mkS_mod markRule cntRule a zRule k (i:=i) F h1 hc hF
  have hq:(cntRuleS a:Int)=ctS cntRule a:=rfl
  generalize List.getD a i.toNat zRule=x at*
  generalize hkk:k+(ctS cntRule (a.take i.toNat):Int)=kk at*
  generalize List.take i.toNat (mkS markRule cntRule a k)++List.drop i.toNat a=R at*
  simp only[cntRule] at hct
  simp(disch:=first|omega|(simp only[List.length_modify];omega)) only[List.length_modify,wrap_i64,getD_modify,modify_modify,hg,hl]
  repeat' (first|refine And.intro (by omega) ?_|fail)
  exact⟨⟨by omega,by omega,hM _ (by first|rfl|(simp only[markRule,markBool];rw[Int.tmod_eq_emod_of_nonneg (by omega)];rfl)),by omega⟩,by simp only[Zm24_2];omega⟩
 ·have hc:a.length≤i:=by have hc:=of_decide_eq_false hc;omega
  rw[mk_done markRule cntRule a k hc,ct_done cntRule a hc]
  exact⟨rfl,rfl⟩
def Zh24:HH:=⟨_,Zo24⟩
def Zk4:Con UU where
 α:=DDef×Int
 md:=[.ro,.ro]
 of:=oC (oA .lDef) (o1 oI)
 ds:=fun x=>[dA .lDef x.1,dI x.2]
 pre:=fun(a,left)=>[0≤left]
 res:=fun(a,left)=>⟨[.one (.lit (.int .i64 (szr left (sizeDef a))))],true,[]⟩
 law:=lC (lA .lDef) (l1 lI)
def Za4:Zk4.α→Nat→Option (Ann UU):=fun(a,left)=>annL []
def Zu4:=us [Zh13]
theorem Zv4(a:DDef)(left:Int):goal EE Zu4 Go.Proofs.Tryz.f4 Zk4 Za4 (a,left)=(let x0:Int:=IntKind.wrap IntKind.i64 (left-(↑(ByteArray.size a.Name):Int));
bif decide (x0<(0:Int)) then Lf [DV.one (Cell.lit (Value.int IntKind.i64 (-1:Int)))] [DV.one (Cell.lit (Value.int IntKind.i64 (szr left (sizeDef a))))] else(0:Int)≤x0∧bif decide (szr x0 (sizeRuleS a.Rules)<(0:Int)) then Lf [DV.one (Cell.lit (Value.int IntKind.i64 (-1:Int)))] [DV.one (Cell.lit (Value.int IntKind.i64 (szr left (sizeDef a))))] else Lf [DV.one (Cell.lit (Value.int IntKind.i64 (szr x0 (sizeRuleS a.Rules))))] [DV.one (Cell.lit (Value.int IntKind.i64 (szr left (sizeDef a))))]):=by kernel_rfl
theorem Zo4:Holds EE (4,Zk4):=by
 refine holds_of EE_ok Go.Proofs.Tryz.func4 Zk4 (by kernel_rfl) Zu4 (us_ok _) Za4 (fun x hp hb=> ?_)
 obtain⟨a,left⟩:=x
 have hz0:=bd_lDef (x:=a) (hb _ m0)
 have hl_a_Name:=hz0.1
 have hl_a_Rules:=hz0.2
 have hl_left:=bdI (n:=left) (hb _ m1)
 have hp0:0≤left:=hp _ m0
 clear hp hb
 rw[Zv4 a left]
 dsimp only
 rw[wrap_i64 (by omega) (by omega)]
 refine if_cond (fun h=>Lf_i (szr_bad' ?_)) (fun h=> ?_)
 ·have h:=of_decide_eq_true h;simp only[sizeDef];omega
 have h0:=of_decide_eq_false h
 refine⟨by omega,if_cond (fun h=>Lf_i (szr_bad' ?_)) (fun h=> ?_)⟩
 ·have h:=szr_neg h;simp only[sizeDef];omega
 obtain⟨e1,h1⟩:=szr_pos h
 rw[e1]
 exact Lf_i (by rw[←szr_ok' (by simp only[sizeDef];omega)];simp only[sizeDef];try omega)
def Zh4:HH:=⟨_,Zo4⟩
def Zk6:Con UU where
 α:=DDef
 md:=[.ro]
 of:=o1 (oA .lDef)
 ds:=fun x=>[dA .lDef x]
 pre:=fun a=>[sizeDef a≤4294967296]
 res:=fun a=>⟨[.agg [.lit (.string a.Name),.sl .eRule a.Rules]],true,[]⟩
 law:=l1 (lA .lDef)
def Za6:Zk6.α→Nat→Option (Ann UU):=fun a=>annL []
def Zu6:=us [Zh17]
theorem Zv6(a:DDef):goal EE Zu6 Go.Proofs.Tryz.f6 Zk6 Za6 a=(sizeRuleS a.Rules≤(4294967296:Nat)∧Lf [DV.agg [Cell.lit (Value.string a.Name),Cell.sl Cd.eRule a.Rules]] [DV.agg [Cell.lit (Value.string a.Name),Cell.sl Cd.eRule a.Rules]]):=by kernel_rfl
theorem Zo6:Holds EE (6,Zk6):=by
 refine holds_of EE_ok Go.Proofs.Tryz.func6 Zk6 (by kernel_rfl) Zu6 (us_ok _) Za6 (fun(a:DDef) hp hb=> ?_)
 have hz0:=bd_lDef (x:=a) (hb _ m0)
 have hl_a_Name:=hz0.1
 have hl_a_Rules:=hz0.2
 have hp0:sizeDef a≤4294967296:=hp _ m0
 clear hp hb
 rw[Zv6 a]
 simp only[sizeDef] at hp0
 repeat' (first|exact Lf_rfl _|(refine And.intro (by omega) ?_))
def Zh6:HH:=⟨_,Zo6⟩
def Zk9:Con UU where
 α:=DDef×DDef
 md:=[.ro,.ro]
 of:=oC (oA .eDef) (o1 (oA .eDef))
 ds:=fun x=>[dA .eDef x.1,dA .eDef x.2]
 pre:=fun _=>[]
 res:=fun(a,b)=>⟨[.one (.lit (.bool (decide (a=b))))],true,[]⟩
 law:=lC (lA .eDef) (l1 (lA .eDef))
def Za9:Zk9.α→Nat→Option (Ann UU):=fun(a,b)=>annL []
def Zu9:=us [Zh23]
theorem Zv9(a:DDef)(b:DDef):goal EE Zu9 Go.Proofs.Tryz.f9 Zk9 Za9 (a,b)=(bif !ByteArray.toList a.Name==ByteArray.toList b.Name then Lb false (decide (a=b)) else bif !decide (a.Rules=b.Rules) then Lb false (decide (a=b)) else Lb true (decide (a=b))):=by kernel_rfl
theorem Zo9:Holds EE (9,Zk9):=by
 refine holds_of EE_ok Go.Proofs.Tryz.func9 Zk9 (by kernel_rfl) Zu9 (us_ok _) Za9 (fun x hp hb=> ?_)
 obtain⟨a,b⟩:=x
 have hz0:=bd_eDef (x:=a) (hb _ m0)
 have hl_a_Name:=hz0.1
 have hl_a_Rules:=hz0.2
 have hz1:=bd_eDef (x:=b) (hb _ m1)
 have hl_b_Name:=hz1.1
 have hl_b_Rules:=hz1.2
 clear hp hb
 rw[Zv9 a b]
 obtain⟨aName,aRules⟩:=a
 obtain⟨bName,bRules⟩:=b
 repeat' (apply if_cond<;>intro _)
 all_goals (first|apply Lf_t|apply Lf_f)<;>simp_all
def Zh9:HH:=⟨_,Zo9⟩
def Zk10:Con UU where
 α:=DDef×Int
 md:=[.wr,.ro]
 of:=oC (oA .eDef) (o1 oI)
 ds:=fun x=>[dA .eDef x.1,dI x.2]
 pre:=fun(a,k)=>[0≤k,k+ctDef a≤4611686018427387904]
 res:=fun(a,k)=>⟨[.one (.lit (.int .i64 (k+ctDef a)))],true,[.agg [.lit (.string ((mkDef a k)).Name),.sl .eRule ((mkDef a k)).Rules]]⟩
 law:=lC (lA .eDef) (l1 lI)
def Za10:Zk10.α→Nat→Option (Ann UU):=fun(a,k)=>annL []
def Zu10:=us [Zh24]
theorem Zv10(a:DDef)(k:Int):goal EE Zu10 Go.Proofs.Tryz.f10 Zk10 Za10 (a,k)=((0:Int)≤k∧k+(↑(cntRuleS a.Rules):Int)≤(4611686018427387904:Int)∧asD [DV.one (Cell.lit (Value.int IntKind.i64 (k+(↑(cntRuleS a.Rules):Int))))]=asD [DV.one (Cell.lit (Value.int IntKind.i64 (k+(↑(ctDef a):Int))))]∧asD [DV.agg [Cell.lit (Value.string a.Name),Cell.sl Cd.eRule (markRuleS a.Rules k)]]=asD [DV.agg [Cell.lit (Value.string (mkDef a k).Name),Cell.sl Cd.eRule (mkDef a k).Rules]]):=by kernel_rfl
theorem Zo10:Holds EE (10,Zk10):=by
 refine holds_of EE_ok Go.Proofs.Tryz.func10 Zk10 (by kernel_rfl) Zu10 (us_ok _) Za10 (fun x hp hb=> ?_)
 obtain⟨a,k⟩:=x
 have hz0:=bd_eDef (x:=a) (hb _ m0)
 have hl_a_Name:=hz0.1
 have hl_a_Rules:=hz0.2
 have hl_k:=bdI (n:=k) (hb _ m1)
 have hp0:0≤k:=hp _ m0
 have hp1:k+ctDef a≤4611686018427387904:=hp _ m1
 clear hp hb
 rw[Zv10 a k]
 simp only[ctDef] at hp1
 repeat' (first|refine And.intro (by omega) ?_|fail)
 exact⟨by simp only[ctDef,Int.natCast_add,Int.add_assoc],rfl⟩
def Zh10:HH:=⟨_,Zo10⟩
def Zk80:Con UU where
 α:=DMatch×DMatch
 md:=[.ro,.ro]
 of:=oC (oA .eMatch) (o1 (oA .eMatch))
 ds:=fun x=>[dA .eMatch x.1,dA .eMatch x.2]
 pre:=fun _=>[]
 res:=fun(a,b)=>⟨[.one (.lit (.bool (decide (a=b))))],true,[]⟩
 law:=lC (lA .eMatch) (l1 (lA .eMatch))
def Za80:Zk80.α→Nat→Option (Ann UU):=fun(a,b)=>annL []
def Zu80:=us [Zh128,Zh129]
theorem Zv80(a:DMatch)(b:DMatch):goal EE Zu80 Go.Proofs.Tryz.f80 Zk80 Za80 (a,b)=(bif a.Rule !=b.Rule then Lb false (decide (a=b)) else bif !decide (a.Ids=b.Ids) then Lb false (decide (a=b)) else bif !decide (a.Binds=b.Binds) then Lb false (decide (a=b)) else Lb true (decide (a=b))):=by kernel_rfl
theorem Zo80:Holds EE (80,Zk80):=by
 refine holds_of EE_ok Go.Proofs.Tryz.func80 Zk80 (by kernel_rfl) Zu80 (us_ok _) Za80 (fun x hp hb=> ?_)
 obtain⟨a,b⟩:=x
 have hz0:=bd_eMatch (x:=a) (hb _ m0)
 have hl_a_Ids:=hz0.1
 have hl_a_Binds:=hz0.2
 have hz1:=bd_eMatch (x:=b) (hb _ m1)
 have hl_b_Ids:=hz1.1
 have hl_b_Binds:=hz1.2
 clear hp hb
 rw[Zv80 a b]
 obtain⟨aRule,aIds,aBinds⟩:=a
 obtain⟨bRule,bIds,bBinds⟩:=b
 repeat' (apply if_cond<;>intro _)
 all_goals (first|apply Lf_t|apply Lf_f)<;>simp_all
def Zh80:HH:=⟨_,Zo80⟩
def Zk38:Con UU where
 α:=(List DMatch)×(List DMatch)
 md:=[.ro,.ro]
 of:=oC (oL .eMatch) (o1 (oL .eMatch))
 ds:=fun x=>[dL .eMatch x.1,dL .eMatch x.2]
 pre:=fun _=>[]
 res:=fun(a,b)=>⟨[.one (.lit (.bool (decide (a=b))))],true,[]⟩
 law:=lC (lL .eMatch) (l1 (lL .eMatch))
def Zi38_4(a:(List DMatch))(b:(List DMatch)):Int×Unit→Prop:=eqI a b
def Zm38_4(a:(List DMatch))(b:(List DMatch)):Int×Unit→Nat:=rM1 a
def Za38:Zk38.α→Nat→Option (Ann UU):=fun(a,b)=>annL [(4,annOf [.slot 5 (5,1024) (.lit (.int .i64))] (fun _=>Zi38_4 a b) (Zm38_4 a b))]
def Zu38:=us [Zh80]
theorem Zv38(a:(List DMatch))(b:(List DMatch)):goal EE Zu38 Go.Proofs.Tryz.f38 Zk38 Za38 (a,b)=(eqV zMatch a b):=by kernel_rfl
theorem Zo38:Holds EE (38,Zk38):=by
 refine holds_of EE_ok Go.Proofs.Tryz.func38 Zk38 (by kernel_rfl) Zu38 (us_ok _) Za38 (fun x hp hb=> ?_)
 obtain⟨a,b⟩:=x
 have hl_a:a.length≤9223372036854775807:=bdL (hb _ m0)
 have hl_b:b.length≤9223372036854775807:=bdL (hb _ m1)
 clear hp hb
 rw[Zv38 a b]
 exact eqV_ok hl_a
def Zh38:HH:=⟨_,Zo38⟩
def Zk50:Con UU where
 α:=(List DMatch)×Int
 md:=[.wr,.ro]
 of:=oC (oL .eMatch) (o1 oI)
 ds:=fun x=>[dL .eMatch x.1,dI x.2]
 pre:=fun(a,k)=>[0≤k,k+cntMatchS a≤4611686018427387904]
 res:=fun(a,k)=>⟨[.one (.lit (.int .i64 (k+cntMatchS a)))],true,[.one (.sl .eMatch (markMatchS a k))]⟩
 law:=lC (lL .eMatch) (l1 lI)
def Zi50_2(a:(List DMatch))(k:Int):List DMatch×Int×Int×Unit→Prop:=fun(row,kk,i,_)=>0≤i∧i≤a.length∧row=(mkS markMatch cntMatch a k).take i.toNat++a.drop i.toNat∧kk=k+ctS cntMatch (a.take i.toNat)
def Zm50_2(a:(List DMatch))(k:Int):List DMatch×Int×Int×Unit→Nat:=fun(row,kk,i,_)=>a.length-i.toNat
def Za50:Zk50.α→Nat→Option (Ann UU):=fun(a,k)=>annL [(2,annOf [.slot 0 (2000000,0) (.own .eMatch true),.slot 1 (1,1024) (.lit (.int .i64)),.slot 5 (5,1024) (.lit (.int .i64))] (fun _=>Zi50_2 a k) (Zm50_2 a k))]
def Zu50:=us [Zh92,Zh93]
theorem Zv50(a:(List DMatch))(k:Int):goal EE Zu50 Go.Proofs.Tryz.f50 Zk50 Za50 (a,k)=(Zi50_2 a k (a,k,(0:Int),())∧
 ∀(y:List DMatch×Int×Int×PUnit),
  let x2:Nat:=Int.toNat y.2.2.1;
  let x3:Int:=IntKind.wrap IntKind.i64 (y.2.1+(1:Int));
  let x4:List DMatch:=List.modify y.1 x2 fun(x:DMatch)=>{Rule:=y.2.1,Ids:=x.Ids,Binds:=x.Binds:DMatch};
  let x0:List DMatch:=List.modify x4 x2 fun(x:DMatch)=>{Rule:=x.Rule,Ids:=markIntS (List.getD x4 x2 zMatch).Ids x3,Binds:=x.Binds:DMatch};
  let x1:Int:=x3+(↑(cntIntS (List.getD x4 x2 zMatch).Ids):Int);
  let x5:Int:=x1+(↑(cntBindS (List.getD x0 x2 zMatch).Binds):Int);
  Zi50_2 a k y→bif decide (y.2.2.1<(↑(List.length y.1):Int)) then(0:Int)≤y.2.2.1∧x2<List.length y.1∧x2<List.length y.1∧(0:Int)≤y.2.2.1∧x2<List.length x4∧x2<List.length x4∧x2<List.length x4∧(0:Int)≤x3∧x1≤(4611686018427387904:Int)∧(0:Int)≤y.2.2.1∧x2<List.length x0∧x2<List.length x0∧x2<List.length x0∧(0:Int)≤x1∧x5≤(4611686018427387904:Int)∧Zi50_2 a k (List.modify x0 x2 fun(x:DMatch)=>{Rule:=x.Rule,Ids:=x.Ids,Binds:=markBindS (List.getD x0 x2 zMatch).Binds x1:DMatch},x5,IntKind.wrap IntKind.i64 (y.2.2.1+(1:Int)),PUnit.unit)∧Zm50_2 a k (List.modify x0 x2 fun(x:DMatch)=>{Rule:=x.Rule,Ids:=x.Ids,Binds:=markBindS (List.getD x0 x2 zMatch).Binds x1:DMatch},x5,IntKind.wrap IntKind.i64 (y.2.2.1+(1:Int)),PUnit.unit)<Zm50_2 a k y else asD [DV.one (Cell.lit (Value.int IntKind.i64 y.2.1))]=asD [DV.one (Cell.lit (Value.int IntKind.i64 (k+(↑(cntMatchS a):Int))))]∧asD [DV.one (Cell.sl Cd.eMatch y.1)]=asD [DV.one (Cell.sl Cd.eMatch (markMatchS a k))]):=by kernel_rfl
theorem Zo50:Holds EE (50,Zk50):=by
 refine holds_of EE_ok Go.Proofs.Tryz.func50 Zk50 (by kernel_rfl) Zu50 (us_ok _) Za50 (fun x hp hb=> ?_)
 obtain⟨a,k⟩:=x
 have hl_a:a.length≤9223372036854775807:=bdL (hb _ m0)
 have hl_k:=bdI (n:=k) (hb _ m1)
 have hp0:0≤k:=hp _ m0
 have hp1:k+cntMatchS a≤4611686018427387904:=hp _ m1
 clear hp hb
 rw[Zv50 a k]
 dsimp only
 refine⟨⟨by omega,by omega,by simp,by simp[ctS]⟩,?_⟩
 rintro⟨row,kk,i,⟨⟩⟩ ⟨h1,h2,rfl,rfl⟩
 simp only
 have hl:=mk_rl markMatch cntMatch a k h1 h2
 refine if_cond (fun hc=> ?_) (fun hc=> ?_)
 ·have hc:i<a.length:=by have hc:=of_decide_eq_true hc;omega
  have hct:=ctS_take cntMatch a zMatch h1 hc
  have hle:=ctS_take_le cntMatch a (i+1).toNat
  have hg:=mk_getD _ a zMatch (mk_tl markMatch cntMatch a k h1 h2) h1 hc
  have hM:=fun F hF=>mkS_mod markMatch cntMatch a zMatch k (i:=i) F h1 hc hF
  have hq:(cntMatchS a:Int)=ctS cntMatch a:=rfl
  generalize List.getD a i.toNat zMatch=x at*
  generalize hkk:k+(ctS cntMatch (a.take i.toNat):Int)=kk at*
  generalize List.take i.toNat (mkS markMatch cntMatch a k)++List.drop i.toNat a=R at*
  simp only[cntMatch] at hct
  simp(disch:=first|omega|(simp only[List.length_modify];omega)) only[List.length_modify,wrap_i64,getD_modify,modify_modify,hg,hl]
  repeat' (first|refine And.intro (by omega) ?_|fail)
  exact⟨⟨by omega,by omega,hM _ (by first|rfl|(simp only[markMatch,markBool];rw[Int.tmod_eq_emod_of_nonneg (by omega)];rfl)),by omega⟩,by simp only[Zm50_2];omega⟩
 ·have hc:a.length≤i:=by have hc:=of_decide_eq_false hc;omega
  rw[mk_done markMatch cntMatch a k hc,ct_done cntMatch a hc]
  exact⟨rfl,rfl⟩
def Zh50:HH:=⟨_,Zo50⟩
def Zk57:Con UU where
 α:=(List DMatch)×Int
 md:=[.ro,.ro]
 of:=oC (oL .eMatch) (o1 oI)
 ds:=fun x=>[dL .eMatch x.1,dI x.2]
 pre:=fun(a,k)=>[0≤k,k+cntMatchS a≤4611686018427387904]
 res:=fun(a,k)=>⟨[.one (.lit (.int .i64 (if markMatchS a k=a then k+cntMatchS a else-1)))],true,[]⟩
 law:=lC (lL .eMatch) (l1 lI)
def Zi57_2(a:(List DMatch))(k:Int):Int×Int×Unit→Prop:=fun(kk,i,_)=>0≤i∧i≤a.length∧kk=k+ctS cntMatch (a.take i.toNat)∧(mkS markMatch cntMatch (a.drop i.toNat) kk=a.drop i.toNat↔mkS markMatch cntMatch a k=a)
def Zm57_2(a:(List DMatch))(k:Int):Int×Int×Unit→Nat:=fun(kk,i,_)=>a.length-i.toNat
def Za57:Zk57.α→Nat→Option (Ann UU):=fun(a,k)=>annL [(2,annOf [.slot 1 (1,1024) (.lit (.int .i64)),.slot 5 (5,1024) (.lit (.int .i64))] (fun _=>Zi57_2 a k) (Zm57_2 a k))]
def Zu57:=us [Zh97,Zh98]
theorem Zv57(a:(List DMatch))(k:Int):goal EE Zu57 Go.Proofs.Tryz.f57 Zk57 Za57 (a,k)=(let x0:Int:=(-1:Int);
Zi57_2 a k (k,(0:Int),PUnit.unit)∧
 ∀(y:Int×Int×PUnit),
  let x6:Nat:=Int.toNat y.2.1;
  let x7:Int:=IntKind.wrap IntKind.i64 (y.1+(1:Int));
  let x5:DMatch:=List.getD a x6 zMatch;
  let x3:List DBind:=x5.Binds;
  let x4:List Int:=x5.Ids;
  let x2:Int:=if markIntS x4 x7=x4 then x7+(↑(cntIntS x4):Int) else x0;
  let x1:Int:=if markBindS x3 x2=x3 then x2+(↑(cntBindS x3):Int) else x0;
  Zi57_2 a k y→bif decide (y.2.1<(↑(List.length a):Int)) then(0:Int)≤y.2.1∧x6<List.length a∧bif x5.Rule !=y.1 then Lf [DV.one (Cell.lit (Value.int IntKind.i64 x0))] [DV.one (Cell.lit (Value.int IntKind.i64 (if markMatchS a k=a then k+(↑(cntMatchS a):Int) else x0)))] else(0:Int)≤y.2.1∧x6<List.length a∧(0:Int)≤x7∧x7+(↑(cntIntS x4):Int)≤(4611686018427387904:Int)∧bif decide (x2<(0:Int)) then Lf [DV.one (Cell.lit (Value.int IntKind.i64 x0))] [DV.one (Cell.lit (Value.int IntKind.i64 (if markMatchS a k=a then k+(↑(cntMatchS a):Int) else x0)))] else(0:Int)≤y.2.1∧x6<List.length a∧(0:Int)≤x2∧x2+(↑(cntBindS x3):Int)≤(4611686018427387904:Int)∧bif decide (x1<(0:Int)) then Lf [DV.one (Cell.lit (Value.int IntKind.i64 x0))] [DV.one (Cell.lit (Value.int IntKind.i64 (if markMatchS a k=a then k+(↑(cntMatchS a):Int) else x0)))] else Zi57_2 a k (x1,IntKind.wrap IntKind.i64 (y.2.1+(1:Int)),PUnit.unit)∧Zm57_2 a k (x1,IntKind.wrap IntKind.i64 (y.2.1+(1:Int)),PUnit.unit)<Zm57_2 a k y else Lf [DV.one (Cell.lit (Value.int IntKind.i64 y.1))] [DV.one (Cell.lit (Value.int IntKind.i64 (if markMatchS a k=a then k+(↑(cntMatchS a):Int) else x0)))]):=by kernel_rfl
theorem Zo57:Holds EE (57,Zk57):=by
 refine holds_of EE_ok Go.Proofs.Tryz.func57 Zk57 (by kernel_rfl) Zu57 (us_ok _) Za57 (fun x hp hb=> ?_)
 obtain⟨a,k⟩:=x
 have hl_a:a.length≤9223372036854775807:=bdL (hb _ m0)
 have hl_k:=bdI (n:=k) (hb _ m1)
 have hp0:0≤k:=hp _ m0
 have hp1:k+cntMatchS a≤4611686018427387904:=hp _ m1
 clear hp hb
 rw[Zv57 a k]
 dsimp only
 refine⟨⟨by omega,by omega,by simp[ctS],by simp⟩,?_⟩
 rintro⟨kk,i,⟨⟩⟩ ⟨h1,h2,hkk,hR⟩
 simp only
 simp only[markMatchS]
 refine if_cond (fun hc=> ?_) (fun hc=> ?_)
 ·have hc:i<a.length:=by have hc:=of_decide_eq_true hc;omega
  have hct:=ctS_take cntMatch a zMatch h1 hc
  have hle:=ctS_take_le cntMatch a (i+1).toNat
  have hq:(cntMatchS a:Int)=ctS cntMatch a:=rfl
  rw[drop_step a zMatch h1 hc] at hR
  generalize List.getD a i.toNat zMatch=x at*
  simp only[mkS,List.cons.injEq] at hR
  have e:kk+(cntMatch x:Int)=kk+1+(cntIntS x.Ids:Int)+(cntBindS x.Binds:Int):=by first|(simp only[cntMatch];done)|(simp only[cntMatch];omega)
  rw[e] at hR
  simp only[markMatch,cntMatch] at hR hct
  simp(disch:=omega) only[wrap_i64,bne_int,toList_beq]
  obtain⟨x_Rule,x_Ids,x_Binds⟩:=x
  simp only[DMatch.mk.injEq] at*
  repeat' (first|refine And.intro (by omega) ?_|fail)
  refine if_cond (fun h=>Lf_no (fun hh=> ?_)) (fun h=> ?_)
  ·have hh:=hR.2 hh;simp_all
  have h:x_Rule=kk:=by simpa using h
  subst x_Rule
  repeat' (first|refine And.intro (by omega) ?_|fail)
  by_cases hm:markIntS x_Ids (kk+1)=x_Ids
  rotate_left
  ·simp only[if_neg hm];rw[cond_yes (by decide)]
   exact Lf_no (fun hh=>hm (by have hh:=hR.2 hh;simp_all))
  simp only[if_pos hm]
  refine if_cond (fun h=>absurd (of_decide_eq_true h) (by omega)) (fun h=> ?_)
  simp only[hm] at hR
  clear hm
  repeat' (first|refine And.intro (by omega) ?_|fail)
  by_cases hm:markBindS x_Binds (kk+1+cntIntS x_Ids)=x_Binds
  rotate_left
  ·simp only[if_neg hm];rw[cond_yes (by decide)]
   exact Lf_no (fun hh=>hm (by have hh:=hR.2 hh;simp_all))
  simp only[if_pos hm]
  refine if_cond (fun h=>absurd (of_decide_eq_true h) (by omega)) (fun h=> ?_)
  simp only[hm] at hR
  clear hm
  exact⟨⟨by omega,by omega,by omega,by simpa using hR⟩,by simp only[Zm57_2];omega⟩
 ·have hc:a.length≤i:=by have hc:=of_decide_eq_false hc;omega
  rw[drop_end a hc] at hR
  exact Lf_yes (hR.1 rfl) (by rw[hkk,ct_done _ _ hc];rfl)
def Zh57:HH:=⟨_,Zo57⟩
def Zk84:Con UU where
 α:=DIds×DIds
 md:=[.ro,.ro]
 of:=oC (oA .eIds) (o1 (oA .eIds))
 ds:=fun x=>[dA .eIds x.1,dA .eIds x.2]
 pre:=fun _=>[]
 res:=fun(a,b)=>⟨[.one (.lit (.bool (decide (a=b))))],true,[]⟩
 law:=lC (lA .eIds) (l1 (lA .eIds))
def Za84:Zk84.α→Nat→Option (Ann UU):=fun(a,b)=>annL []
def Zu84:=us [Zh128]
theorem Zv84(a:DIds)(b:DIds):goal EE Zu84 Go.Proofs.Tryz.f84 Zk84 Za84 (a,b)=(bif !decide (a.L=b.L) then Lb false (decide (a=b)) else Lb true (decide (a=b))):=by kernel_rfl
theorem Zo84:Holds EE (84,Zk84):=by
 refine holds_of EE_ok Go.Proofs.Tryz.func84 Zk84 (by kernel_rfl) Zu84 (us_ok _) Za84 (fun x hp hb=> ?_)
 obtain⟨a,b⟩:=x
 have hl_a_L:=bd_eIds (x:=a) (hb _ m0)
 have hl_b_L:=bd_eIds (x:=b) (hb _ m1)
 clear hp hb
 rw[Zv84 a b]
 obtain⟨aL⟩:=a
 obtain⟨bL⟩:=b
 repeat' (apply if_cond<;>intro _)
 all_goals (first|apply Lf_t|apply Lf_f)<;>simp_all
def Zh84:HH:=⟨_,Zo84⟩
def Zk42:Con UU where
 α:=(List DIds)×(List DIds)
 md:=[.ro,.ro]
 of:=oC (oL .eIds) (o1 (oL .eIds))
 ds:=fun x=>[dL .eIds x.1,dL .eIds x.2]
 pre:=fun _=>[]
 res:=fun(a,b)=>⟨[.one (.lit (.bool (decide (a=b))))],true,[]⟩
 law:=lC (lL .eIds) (l1 (lL .eIds))
def Zi42_4(a:(List DIds))(b:(List DIds)):Int×Unit→Prop:=eqI a b
def Zm42_4(a:(List DIds))(b:(List DIds)):Int×Unit→Nat:=rM1 a
def Za42:Zk42.α→Nat→Option (Ann UU):=fun(a,b)=>annL [(4,annOf [.slot 5 (5,1024) (.lit (.int .i64))] (fun _=>Zi42_4 a b) (Zm42_4 a b))]
def Zu42:=us [Zh84]
theorem Zv42(a:(List DIds))(b:(List DIds)):goal EE Zu42 Go.Proofs.Tryz.f42 Zk42 Za42 (a,b)=(eqV zIds a b):=by kernel_rfl
theorem Zo42:Holds EE (42,Zk42):=by
 refine holds_of EE_ok Go.Proofs.Tryz.func42 Zk42 (by kernel_rfl) Zu42 (us_ok _) Za42 (fun x hp hb=> ?_)
 obtain⟨a,b⟩:=x
 have hl_a:a.length≤9223372036854775807:=bdL (hb _ m0)
 have hl_b:b.length≤9223372036854775807:=bdL (hb _ m1)
 clear hp hb
 rw[Zv42 a b]
 exact eqV_ok hl_a
def Zh42:HH:=⟨_,Zo42⟩
def Zk54:Con UU where
 α:=(List DIds)×Int
 md:=[.wr,.ro]
 of:=oC (oL .eIds) (o1 oI)
 ds:=fun x=>[dL .eIds x.1,dI x.2]
 pre:=fun(a,k)=>[0≤k,k+cntIdsS a≤4611686018427387904]
 res:=fun(a,k)=>⟨[.one (.lit (.int .i64 (k+cntIdsS a)))],true,[.one (.sl .eIds (markIdsS a k))]⟩
 law:=lC (lL .eIds) (l1 lI)
def Zi54_2(a:(List DIds))(k:Int):List DIds×Int×Int×Unit→Prop:=fun(row,kk,i,_)=>0≤i∧i≤a.length∧row=(mkS markIds cntIds a k).take i.toNat++a.drop i.toNat∧kk=k+ctS cntIds (a.take i.toNat)
def Zm54_2(a:(List DIds))(k:Int):List DIds×Int×Int×Unit→Nat:=fun(row,kk,i,_)=>a.length-i.toNat
def Za54:Zk54.α→Nat→Option (Ann UU):=fun(a,k)=>annL [(2,annOf [.slot 0 (2000000,0) (.own .eIds true),.slot 1 (1,1024) (.lit (.int .i64)),.slot 5 (5,1024) (.lit (.int .i64))] (fun _=>Zi54_2 a k) (Zm54_2 a k))]
def Zu54:=us [Zh92]
theorem Zv54(a:(List DIds))(k:Int):goal EE Zu54 Go.Proofs.Tryz.f54 Zk54 Za54 (a,k)=(Zi54_2 a k (a,k,(0:Int),())∧
 ∀(y:List DIds×Int×Int×PUnit),
  let x0:Nat:=Int.toNat y.2.2.1;
  let x1:Int:=y.2.1+(↑(cntIntS (List.getD y.1 x0 zIds).L):Int);
  Zi54_2 a k y→bif decide (y.2.2.1<(↑(List.length y.1):Int)) then(0:Int)≤y.2.2.1∧x0<List.length y.1∧x0<List.length y.1∧x0<List.length y.1∧(0:Int)≤y.2.1∧x1≤(4611686018427387904:Int)∧Zi54_2 a k (List.modify y.1 x0 fun(x:DIds)=>{L:=markIntS (List.getD y.1 x0 zIds).L y.2.1:DIds},x1,IntKind.wrap IntKind.i64 (y.2.2.1+(1:Int)),PUnit.unit)∧Zm54_2 a k (List.modify y.1 x0 fun(x:DIds)=>{L:=markIntS (List.getD y.1 x0 zIds).L y.2.1:DIds},x1,IntKind.wrap IntKind.i64 (y.2.2.1+(1:Int)),PUnit.unit)<Zm54_2 a k y else asD [DV.one (Cell.lit (Value.int IntKind.i64 y.2.1))]=asD [DV.one (Cell.lit (Value.int IntKind.i64 (k+(↑(cntIdsS a):Int))))]∧asD [DV.one (Cell.sl Cd.eIds y.1)]=asD [DV.one (Cell.sl Cd.eIds (markIdsS a k))]):=by kernel_rfl
theorem Zo54:Holds EE (54,Zk54):=by
 refine holds_of EE_ok Go.Proofs.Tryz.func54 Zk54 (by kernel_rfl) Zu54 (us_ok _) Za54 (fun x hp hb=> ?_)
 obtain⟨a,k⟩:=x
 have hl_a:a.length≤9223372036854775807:=bdL (hb _ m0)
 have hl_k:=bdI (n:=k) (hb _ m1)
 have hp0:0≤k:=hp _ m0
 have hp1:k+cntIdsS a≤4611686018427387904:=hp _ m1
 clear hp hb
 rw[Zv54 a k]
 dsimp only
 refine⟨⟨by omega,by omega,by simp,by simp[ctS]⟩,?_⟩
 rintro⟨row,kk,i,⟨⟩⟩ ⟨h1,h2,rfl,rfl⟩
 simp only
 have hl:=mk_rl markIds cntIds a k h1 h2
 refine if_cond (fun hc=> ?_) (fun hc=> ?_)
 ·have hc:i<a.length:=by have hc:=of_decide_eq_true hc;omega
  have hct:=ctS_take cntIds a zIds h1 hc
  have hle:=ctS_take_le cntIds a (i+1).toNat
  have hg:=mk_getD _ a zIds (mk_tl markIds cntIds a k h1 h2) h1 hc
  have hM:=fun F hF=>mkS_mod markIds cntIds a zIds k (i:=i) F h1 hc hF
  have hq:(cntIdsS a:Int)=ctS cntIds a:=rfl
  generalize List.getD a i.toNat zIds=x at*
  generalize hkk:k+(ctS cntIds (a.take i.toNat):Int)=kk at*
  generalize List.take i.toNat (mkS markIds cntIds a k)++List.drop i.toNat a=R at*
  simp only[cntIds] at hct
  simp(disch:=first|omega|(simp only[List.length_modify];omega)) only[List.length_modify,wrap_i64,getD_modify,modify_modify,hg,hl]
  repeat' (first|refine And.intro (by omega) ?_|fail)
  exact⟨⟨by omega,by omega,hM _ (by first|rfl|(simp only[markIds,markBool];rw[Int.tmod_eq_emod_of_nonneg (by omega)];rfl)),by omega⟩,by simp only[Zm54_2];omega⟩
 ·have hc:a.length≤i:=by have hc:=of_decide_eq_false hc;omega
  rw[mk_done markIds cntIds a k hc,ct_done cntIds a hc]
  exact⟨rfl,rfl⟩
def Zh54:HH:=⟨_,Zo54⟩
def Zk61:Con UU where
 α:=(List DIds)×Int
 md:=[.ro,.ro]
 of:=oC (oL .eIds) (o1 oI)
 ds:=fun x=>[dL .eIds x.1,dI x.2]
 pre:=fun(a,k)=>[0≤k,k+cntIdsS a≤4611686018427387904]
 res:=fun(a,k)=>⟨[.one (.lit (.int .i64 (if markIdsS a k=a then k+cntIdsS a else-1)))],true,[]⟩
 law:=lC (lL .eIds) (l1 lI)
def Zi61_2(a:(List DIds))(k:Int):Int×Int×Unit→Prop:=fun(kk,i,_)=>0≤i∧i≤a.length∧kk=k+ctS cntIds (a.take i.toNat)∧(mkS markIds cntIds (a.drop i.toNat) kk=a.drop i.toNat↔mkS markIds cntIds a k=a)
def Zm61_2(a:(List DIds))(k:Int):Int×Int×Unit→Nat:=fun(kk,i,_)=>a.length-i.toNat
def Za61:Zk61.α→Nat→Option (Ann UU):=fun(a,k)=>annL [(2,annOf [.slot 1 (1,1024) (.lit (.int .i64)),.slot 5 (5,1024) (.lit (.int .i64))] (fun _=>Zi61_2 a k) (Zm61_2 a k))]
def Zu61:=us [Zh97]
theorem Zv61(a:(List DIds))(k:Int):goal EE Zu61 Go.Proofs.Tryz.f61 Zk61 Za61 (a,k)=(Zi61_2 a k (k,(0:Int),())∧
 ∀(y:Int×Int×PUnit),
  let x2:Nat:=Int.toNat y.2.1;
  let x1:List Int:=(List.getD a x2 zIds).L;
  let x0:Int:=if markIntS x1 y.1=x1 then y.1+(↑(cntIntS x1):Int) else(-1:Int);
  Zi61_2 a k y→bif decide (y.2.1<(↑(List.length a):Int)) then(0:Int)≤y.2.1∧x2<List.length a∧(0:Int)≤y.1∧y.1+(↑(cntIntS x1):Int)≤(4611686018427387904:Int)∧bif decide (x0<(0:Int)) then Lf [DV.one (Cell.lit (Value.int IntKind.i64 (-1:Int)))] [DV.one (Cell.lit (Value.int IntKind.i64 (if markIdsS a k=a then k+(↑(cntIdsS a):Int) else(-1:Int))))] else Zi61_2 a k (x0,IntKind.wrap IntKind.i64 (y.2.1+(1:Int)),PUnit.unit)∧Zm61_2 a k (x0,IntKind.wrap IntKind.i64 (y.2.1+(1:Int)),PUnit.unit)<Zm61_2 a k y else Lf [DV.one (Cell.lit (Value.int IntKind.i64 y.1))] [DV.one (Cell.lit (Value.int IntKind.i64 (if markIdsS a k=a then k+(↑(cntIdsS a):Int) else(-1:Int))))]):=by kernel_rfl
theorem Zo61:Holds EE (61,Zk61):=by
 refine holds_of EE_ok Go.Proofs.Tryz.func61 Zk61 (by kernel_rfl) Zu61 (us_ok _) Za61 (fun x hp hb=> ?_)
 obtain⟨a,k⟩:=x
 have hl_a:a.length≤9223372036854775807:=bdL (hb _ m0)
 have hl_k:=bdI (n:=k) (hb _ m1)
 have hp0:0≤k:=hp _ m0
 have hp1:k+cntIdsS a≤4611686018427387904:=hp _ m1
 clear hp hb
 rw[Zv61 a k]
 dsimp only
 refine⟨⟨by omega,by omega,by simp[ctS],by simp⟩,?_⟩
 rintro⟨kk,i,⟨⟩⟩ ⟨h1,h2,hkk,hR⟩
 simp only
 simp only[markIdsS]
 refine if_cond (fun hc=> ?_) (fun hc=> ?_)
 ·have hc:i<a.length:=by have hc:=of_decide_eq_true hc;omega
  have hct:=ctS_take cntIds a zIds h1 hc
  have hle:=ctS_take_le cntIds a (i+1).toNat
  have hq:(cntIdsS a:Int)=ctS cntIds a:=rfl
  rw[drop_step a zIds h1 hc] at hR
  generalize List.getD a i.toNat zIds=x at*
  simp only[mkS,List.cons.injEq] at hR
  have e:kk+(cntIds x:Int)=kk+(cntIntS x.L:Int):=by first|(simp only[cntIds];done)|(simp only[cntIds];omega)
  rw[e] at hR
  simp only[markIds,cntIds] at hR hct
  simp(disch:=omega) only[wrap_i64,bne_int,toList_beq]
  obtain⟨x_L⟩:=x
  simp only[DIds.mk.injEq] at*
  repeat' (first|refine And.intro (by omega) ?_|fail)
  by_cases hm:markIntS x_L (kk)=x_L
  rotate_left
  ·simp only[if_neg hm];rw[cond_yes (by decide)]
   exact Lf_no (fun hh=>hm (by have hh:=hR.2 hh;simp_all))
  simp only[if_pos hm]
  refine if_cond (fun h=>absurd (of_decide_eq_true h) (by omega)) (fun h=> ?_)
  simp only[hm] at hR
  clear hm
  exact⟨⟨by omega,by omega,by omega,by simpa using hR⟩,by simp only[Zm61_2];omega⟩
 ·have hc:a.length≤i:=by have hc:=of_decide_eq_false hc;omega
  rw[drop_end a hc] at hR
  exact Lf_yes (hR.1 rfl) (by rw[hkk,ct_done _ _ hc];rfl)
def Zh61:HH:=⟨_,Zo61⟩
def Zk184:Con UU where
 α:=DTok×DTok
 md:=[.ro,.ro]
 of:=oC (oA .eTok) (o1 (oA .eTok))
 ds:=fun x=>[dA .eTok x.1,dA .eTok x.2]
 pre:=fun _=>[]
 res:=fun(a,b)=>⟨[.one (.lit (.bool (decide (a=b))))],true,[]⟩
 law:=lC (lA .eTok) (l1 (lA .eTok))
def Za184:Zk184.α→Nat→Option (Ann UU):=fun(a,b)=>annL []
def Zu184:=us [Zh128]
theorem Zv184(a:DTok)(b:DTok):goal EE Zu184 Go.Proofs.Tryz.f184 Zk184 Za184 (a,b)=(bif !decide (a.Ids=b.Ids) then Lb false (decide (a=b)) else bif !decide (a.Hits=b.Hits) then Lb false (decide (a=b)) else Lb true (decide (a=b))):=by kernel_rfl
theorem Zo184:Holds EE (184,Zk184):=by
 refine holds_of EE_ok Go.Proofs.Tryz.func184 Zk184 (by kernel_rfl) Zu184 (us_ok _) Za184 (fun x hp hb=> ?_)
 obtain⟨a,b⟩:=x
 have hz0:=bd_eTok (x:=a) (hb _ m0)
 have hl_a_Ids:=hz0.1
 have hl_a_Hits:=hz0.2
 have hz1:=bd_eTok (x:=b) (hb _ m1)
 have hl_b_Ids:=hz1.1
 have hl_b_Hits:=hz1.2
 clear hp hb
 rw[Zv184 a b]
 obtain⟨aIds,aHits⟩:=a
 obtain⟨bIds,bHits⟩:=b
 repeat' (apply if_cond<;>intro _)
 all_goals (first|apply Lf_t|apply Lf_f)<;>simp_all
def Zh184:HH:=⟨_,Zo184⟩
def Zk177:Con UU where
 α:=(List DTok)×(List DTok)
 md:=[.ro,.ro]
 of:=oC (oL .eTok) (o1 (oL .eTok))
 ds:=fun x=>[dL .eTok x.1,dL .eTok x.2]
 pre:=fun _=>[]
 res:=fun(a,b)=>⟨[.one (.lit (.bool (decide (a=b))))],true,[]⟩
 law:=lC (lL .eTok) (l1 (lL .eTok))
def Zi177_4(a:(List DTok))(b:(List DTok)):Int×Unit→Prop:=eqI a b
def Zm177_4(a:(List DTok))(b:(List DTok)):Int×Unit→Nat:=rM1 a
def Za177:Zk177.α→Nat→Option (Ann UU):=fun(a,b)=>annL [(4,annOf [.slot 5 (5,1024) (.lit (.int .i64))] (fun _=>Zi177_4 a b) (Zm177_4 a b))]
def Zu177:=us [Zh184]
theorem Zv177(a:(List DTok))(b:(List DTok)):goal EE Zu177 Go.Proofs.Tryz.f177 Zk177 Za177 (a,b)=(eqV zTok a b):=by kernel_rfl
theorem Zo177:Holds EE (177,Zk177):=by
 refine holds_of EE_ok Go.Proofs.Tryz.func177 Zk177 (by kernel_rfl) Zu177 (us_ok _) Za177 (fun x hp hb=> ?_)
 obtain⟨a,b⟩:=x
 have hl_a:a.length≤9223372036854775807:=bdL (hb _ m0)
 have hl_b:b.length≤9223372036854775807:=bdL (hb _ m1)
 clear hp hb
 rw[Zv177 a b]
 exact eqV_ok hl_a
def Zh177:HH:=⟨_,Zo177⟩
def Zk136:Con UU where
 α:=(List DTok)×Int
 md:=[.wr,.ro]
 of:=oC (oL .eTok) (o1 oI)
 ds:=fun x=>[dL .eTok x.1,dI x.2]
 pre:=fun(a,k)=>[0≤k,k+cntTokS a≤4611686018427387904]
 res:=fun(a,k)=>⟨[.one (.lit (.int .i64 (k+cntTokS a)))],true,[.one (.sl .eTok (markTokS a k))]⟩
 law:=lC (lL .eTok) (l1 lI)
def Zi136_2(a:(List DTok))(k:Int):List DTok×Int×Int×Unit→Prop:=fun(row,kk,i,_)=>0≤i∧i≤a.length∧row=(mkS markTok cntTok a k).take i.toNat++a.drop i.toNat∧kk=k+ctS cntTok (a.take i.toNat)
def Zm136_2(a:(List DTok))(k:Int):List DTok×Int×Int×Unit→Nat:=fun(row,kk,i,_)=>a.length-i.toNat
def Za136:Zk136.α→Nat→Option (Ann UU):=fun(a,k)=>annL [(2,annOf [.slot 0 (2000000,0) (.own .eTok true),.slot 1 (1,1024) (.lit (.int .i64)),.slot 5 (5,1024) (.lit (.int .i64))] (fun _=>Zi136_2 a k) (Zm136_2 a k))]
def Zu136:=us [Zh92]
theorem Zv136(a:(List DTok))(k:Int):goal EE Zu136 Go.Proofs.Tryz.f136 Zk136 Za136 (a,k)=(Zi136_2 a k (a,k,(0:Int),())∧
 ∀(y:List DTok×Int×Int×PUnit),
  let x3:Nat:=Int.toNat y.2.2.1;
  let x1:List DTok:=List.modify y.1 x3 fun(x:DTok)=>{Ids:=markIntS (List.getD y.1 x3 zTok).Ids y.2.1,Hits:=x.Hits:DTok};
  let x2:Int:=y.2.1+(↑(cntIntS (List.getD y.1 x3 zTok).Ids):Int);
  let x0:Int:=x2+(↑(cntIntS (List.getD x1 x3 zTok).Hits):Int);
  Zi136_2 a k y→bif decide (y.2.2.1<(↑(List.length y.1):Int)) then(0:Int)≤y.2.2.1∧x3<List.length y.1∧x3<List.length y.1∧x3<List.length y.1∧(0:Int)≤y.2.1∧x2≤(4611686018427387904:Int)∧(0:Int)≤y.2.2.1∧x3<List.length x1∧x3<List.length x1∧x3<List.length x1∧(0:Int)≤x2∧x0≤(4611686018427387904:Int)∧Zi136_2 a k (List.modify x1 x3 fun(x:DTok)=>{Ids:=x.Ids,Hits:=markIntS (List.getD x1 x3 zTok).Hits x2:DTok},x0,IntKind.wrap IntKind.i64 (y.2.2.1+(1:Int)),PUnit.unit)∧Zm136_2 a k (List.modify x1 x3 fun(x:DTok)=>{Ids:=x.Ids,Hits:=markIntS (List.getD x1 x3 zTok).Hits x2:DTok},x0,IntKind.wrap IntKind.i64 (y.2.2.1+(1:Int)),PUnit.unit)<Zm136_2 a k y else asD [DV.one (Cell.lit (Value.int IntKind.i64 y.2.1))]=asD [DV.one (Cell.lit (Value.int IntKind.i64 (k+(↑(cntTokS a):Int))))]∧asD [DV.one (Cell.sl Cd.eTok y.1)]=asD [DV.one (Cell.sl Cd.eTok (markTokS a k))]):=by kernel_rfl
theorem Zo136:Holds EE (136,Zk136):=by
 refine holds_of EE_ok Go.Proofs.Tryz.func136 Zk136 (by kernel_rfl) Zu136 (us_ok _) Za136 (fun x hp hb=> ?_)
 obtain⟨a,k⟩:=x
 have hl_a:a.length≤9223372036854775807:=bdL (hb _ m0)
 have hl_k:=bdI (n:=k) (hb _ m1)
 have hp0:0≤k:=hp _ m0
 have hp1:k+cntTokS a≤4611686018427387904:=hp _ m1
 clear hp hb
 rw[Zv136 a k]
 dsimp only
 refine⟨⟨by omega,by omega,by simp,by simp[ctS]⟩,?_⟩
 rintro⟨row,kk,i,⟨⟩⟩ ⟨h1,h2,rfl,rfl⟩
 simp only
 have hl:=mk_rl markTok cntTok a k h1 h2
 refine if_cond (fun hc=> ?_) (fun hc=> ?_)
 ·have hc:i<a.length:=by have hc:=of_decide_eq_true hc;omega
  have hct:=ctS_take cntTok a zTok h1 hc
  have hle:=ctS_take_le cntTok a (i+1).toNat
  have hg:=mk_getD _ a zTok (mk_tl markTok cntTok a k h1 h2) h1 hc
  have hM:=fun F hF=>mkS_mod markTok cntTok a zTok k (i:=i) F h1 hc hF
  have hq:(cntTokS a:Int)=ctS cntTok a:=rfl
  generalize List.getD a i.toNat zTok=x at*
  generalize hkk:k+(ctS cntTok (a.take i.toNat):Int)=kk at*
  generalize List.take i.toNat (mkS markTok cntTok a k)++List.drop i.toNat a=R at*
  simp only[cntTok] at hct
  simp(disch:=first|omega|(simp only[List.length_modify];omega)) only[List.length_modify,wrap_i64,getD_modify,modify_modify,hg,hl]
  repeat' (first|refine And.intro (by omega) ?_|fail)
  exact⟨⟨by omega,by omega,hM _ (by first|rfl|(simp only[markTok,markBool];rw[Int.tmod_eq_emod_of_nonneg (by omega)];rfl)),by omega⟩,by simp only[Zm136_2];omega⟩
 ·have hc:a.length≤i:=by have hc:=of_decide_eq_false hc;omega
  rw[mk_done markTok cntTok a k hc,ct_done cntTok a hc]
  exact⟨rfl,rfl⟩
def Zh136:HH:=⟨_,Zo136⟩
def Zk137:Con UU where
 α:=(List DTok)×Int
 md:=[.ro,.ro]
 of:=oC (oL .eTok) (o1 oI)
 ds:=fun x=>[dL .eTok x.1,dI x.2]
 pre:=fun(a,k)=>[0≤k,k+cntTokS a≤4611686018427387904]
 res:=fun(a,k)=>⟨[.one (.lit (.int .i64 (if markTokS a k=a then k+cntTokS a else-1)))],true,[]⟩
 law:=lC (lL .eTok) (l1 lI)
def Zi137_2(a:(List DTok))(k:Int):Int×Int×Unit→Prop:=fun(kk,i,_)=>0≤i∧i≤a.length∧kk=k+ctS cntTok (a.take i.toNat)∧(mkS markTok cntTok (a.drop i.toNat) kk=a.drop i.toNat↔mkS markTok cntTok a k=a)
def Zm137_2(a:(List DTok))(k:Int):Int×Int×Unit→Nat:=fun(kk,i,_)=>a.length-i.toNat
def Za137:Zk137.α→Nat→Option (Ann UU):=fun(a,k)=>annL [(2,annOf [.slot 1 (1,1024) (.lit (.int .i64)),.slot 5 (5,1024) (.lit (.int .i64))] (fun _=>Zi137_2 a k) (Zm137_2 a k))]
def Zu137:=us [Zh97]
theorem Zv137(a:(List DTok))(k:Int):goal EE Zu137 Go.Proofs.Tryz.f137 Zk137 Za137 (a,k)=(let x0:Int:=(-1:Int);
Zi137_2 a k (k,(0:Int),PUnit.unit)∧
 ∀(y:Int×Int×PUnit),
  let x6:Nat:=Int.toNat y.2.1;
  let x5:DTok:=List.getD a x6 zTok;
  let x3:List Int:=x5.Ids;
  let x4:List Int:=x5.Hits;
  let x2:Int:=if markIntS x3 y.1=x3 then y.1+(↑(cntIntS x3):Int) else x0;
  let x1:Int:=if markIntS x4 x2=x4 then x2+(↑(cntIntS x4):Int) else x0;
  Zi137_2 a k y→bif decide (y.2.1<(↑(List.length a):Int)) then(0:Int)≤y.2.1∧x6<List.length a∧(0:Int)≤y.1∧y.1+(↑(cntIntS x3):Int)≤(4611686018427387904:Int)∧bif decide (x2<(0:Int)) then Lf [DV.one (Cell.lit (Value.int IntKind.i64 x0))] [DV.one (Cell.lit (Value.int IntKind.i64 (if markTokS a k=a then k+(↑(cntTokS a):Int) else x0)))] else(0:Int)≤y.2.1∧x6<List.length a∧(0:Int)≤x2∧x2+(↑(cntIntS x4):Int)≤(4611686018427387904:Int)∧bif decide (x1<(0:Int)) then Lf [DV.one (Cell.lit (Value.int IntKind.i64 x0))] [DV.one (Cell.lit (Value.int IntKind.i64 (if markTokS a k=a then k+(↑(cntTokS a):Int) else x0)))] else Zi137_2 a k (x1,IntKind.wrap IntKind.i64 (y.2.1+(1:Int)),PUnit.unit)∧Zm137_2 a k (x1,IntKind.wrap IntKind.i64 (y.2.1+(1:Int)),PUnit.unit)<Zm137_2 a k y else Lf [DV.one (Cell.lit (Value.int IntKind.i64 y.1))] [DV.one (Cell.lit (Value.int IntKind.i64 (if markTokS a k=a then k+(↑(cntTokS a):Int) else x0)))]):=by kernel_rfl
theorem Zo137:Holds EE (137,Zk137):=by
 refine holds_of EE_ok Go.Proofs.Tryz.func137 Zk137 (by kernel_rfl) Zu137 (us_ok _) Za137 (fun x hp hb=> ?_)
 obtain⟨a,k⟩:=x
 have hl_a:a.length≤9223372036854775807:=bdL (hb _ m0)
 have hl_k:=bdI (n:=k) (hb _ m1)
 have hp0:0≤k:=hp _ m0
 have hp1:k+cntTokS a≤4611686018427387904:=hp _ m1
 clear hp hb
 rw[Zv137 a k]
 dsimp only
 refine⟨⟨by omega,by omega,by simp[ctS],by simp⟩,?_⟩
 rintro⟨kk,i,⟨⟩⟩ ⟨h1,h2,hkk,hR⟩
 simp only
 simp only[markTokS]
 refine if_cond (fun hc=> ?_) (fun hc=> ?_)
 ·have hc:i<a.length:=by have hc:=of_decide_eq_true hc;omega
  have hct:=ctS_take cntTok a zTok h1 hc
  have hle:=ctS_take_le cntTok a (i+1).toNat
  have hq:(cntTokS a:Int)=ctS cntTok a:=rfl
  rw[drop_step a zTok h1 hc] at hR
  generalize List.getD a i.toNat zTok=x at*
  simp only[mkS,List.cons.injEq] at hR
  have e:kk+(cntTok x:Int)=kk+(cntIntS x.Ids:Int)+(cntIntS x.Hits:Int):=by first|(simp only[cntTok];done)|(simp only[cntTok];omega)
  rw[e] at hR
  simp only[markTok,cntTok] at hR hct
  simp(disch:=omega) only[wrap_i64,bne_int,toList_beq]
  obtain⟨x_Ids,x_Hits⟩:=x
  simp only[DTok.mk.injEq] at*
  repeat' (first|refine And.intro (by omega) ?_|fail)
  by_cases hm:markIntS x_Ids (kk)=x_Ids
  rotate_left
  ·simp only[if_neg hm];rw[cond_yes (by decide)]
   exact Lf_no (fun hh=>hm (by have hh:=hR.2 hh;simp_all))
  simp only[if_pos hm]
  refine if_cond (fun h=>absurd (of_decide_eq_true h) (by omega)) (fun h=> ?_)
  simp only[hm] at hR
  clear hm
  repeat' (first|refine And.intro (by omega) ?_|fail)
  by_cases hm:markIntS x_Hits (kk+cntIntS x_Ids)=x_Hits
  rotate_left
  ·simp only[if_neg hm];rw[cond_yes (by decide)]
   exact Lf_no (fun hh=>hm (by have hh:=hR.2 hh;simp_all))
  simp only[if_pos hm]
  refine if_cond (fun h=>absurd (of_decide_eq_true h) (by omega)) (fun h=> ?_)
  simp only[hm] at hR
  clear hm
  exact⟨⟨by omega,by omega,by omega,by simpa using hR⟩,by simp only[Zm137_2];omega⟩
 ·have hc:a.length≤i:=by have hc:=of_decide_eq_false hc;omega
  rw[drop_end a hc] at hR
  exact Lf_yes (hR.1 rfl) (by rw[hkk,ct_done _ _ hc];rfl)
def Zh137:HH:=⟨_,Zo137⟩
def Zk163:Con UU where
 α:=DLevel×DLevel
 md:=[.ro,.ro]
 of:=oC (oA .eLevel) (o1 (oA .eLevel))
 ds:=fun x=>[dA .eLevel x.1,dA .eLevel x.2]
 pre:=fun _=>[]
 res:=fun(a,b)=>⟨[.one (.lit (.bool (decide (a=b))))],true,[]⟩
 law:=lC (lA .eLevel) (l1 (lA .eLevel))
def Za163:Zk163.α→Nat→Option (Ann UU):=fun(a,b)=>annL []
def Zu163:=us [Zh177]
theorem Zv163(a:DLevel)(b:DLevel):goal EE Zu163 Go.Proofs.Tryz.f163 Zk163 Za163 (a,b)=(bif !decide (a.Toks=b.Toks) then Lb false (decide (a=b)) else Lb true (decide (a=b))):=by kernel_rfl
theorem Zo163:Holds EE (163,Zk163):=by
 refine holds_of EE_ok Go.Proofs.Tryz.func163 Zk163 (by kernel_rfl) Zu163 (us_ok _) Za163 (fun x hp hb=> ?_)
 obtain⟨a,b⟩:=x
 have hl_a_Toks:=bd_eLevel (x:=a) (hb _ m0)
 have hl_b_Toks:=bd_eLevel (x:=b) (hb _ m1)
 clear hp hb
 rw[Zv163 a b]
 obtain⟨aToks⟩:=a
 obtain⟨bToks⟩:=b
 repeat' (apply if_cond<;>intro _)
 all_goals (first|apply Lf_t|apply Lf_f)<;>simp_all
def Zh163:HH:=⟨_,Zo163⟩
def Zk132:Con UU where
 α:=(List DLevel)×(List DLevel)
 md:=[.ro,.ro]
 of:=oC (oL .eLevel) (o1 (oL .eLevel))
 ds:=fun x=>[dL .eLevel x.1,dL .eLevel x.2]
 pre:=fun _=>[]
 res:=fun(a,b)=>⟨[.one (.lit (.bool (decide (a=b))))],true,[]⟩
 law:=lC (lL .eLevel) (l1 (lL .eLevel))
def Zi132_4(a:(List DLevel))(b:(List DLevel)):Int×Unit→Prop:=eqI a b
def Zm132_4(a:(List DLevel))(b:(List DLevel)):Int×Unit→Nat:=rM1 a
def Za132:Zk132.α→Nat→Option (Ann UU):=fun(a,b)=>annL [(4,annOf [.slot 5 (5,1024) (.lit (.int .i64))] (fun _=>Zi132_4 a b) (Zm132_4 a b))]
def Zu132:=us [Zh163]
theorem Zv132(a:(List DLevel))(b:(List DLevel)):goal EE Zu132 Go.Proofs.Tryz.f132 Zk132 Za132 (a,b)=(eqV zLevel a b):=by kernel_rfl
theorem Zo132:Holds EE (132,Zk132):=by
 refine holds_of EE_ok Go.Proofs.Tryz.func132 Zk132 (by kernel_rfl) Zu132 (us_ok _) Za132 (fun x hp hb=> ?_)
 obtain⟨a,b⟩:=x
 have hl_a:a.length≤9223372036854775807:=bdL (hb _ m0)
 have hl_b:b.length≤9223372036854775807:=bdL (hb _ m1)
 clear hp hb
 rw[Zv132 a b]
 exact eqV_ok hl_a
def Zh132:HH:=⟨_,Zo132⟩
def Zk95:Con UU where
 α:=(List DLevel)×Int
 md:=[.wr,.ro]
 of:=oC (oL .eLevel) (o1 oI)
 ds:=fun x=>[dL .eLevel x.1,dI x.2]
 pre:=fun(a,k)=>[0≤k,k+cntLevelS a≤4611686018427387904]
 res:=fun(a,k)=>⟨[.one (.lit (.int .i64 (k+cntLevelS a)))],true,[.one (.sl .eLevel (markLevelS a k))]⟩
 law:=lC (lL .eLevel) (l1 lI)
def Zi95_2(a:(List DLevel))(k:Int):List DLevel×Int×Int×Unit→Prop:=fun(row,kk,i,_)=>0≤i∧i≤a.length∧row=(mkS markLevel cntLevel a k).take i.toNat++a.drop i.toNat∧kk=k+ctS cntLevel (a.take i.toNat)
def Zm95_2(a:(List DLevel))(k:Int):List DLevel×Int×Int×Unit→Nat:=fun(row,kk,i,_)=>a.length-i.toNat
def Za95:Zk95.α→Nat→Option (Ann UU):=fun(a,k)=>annL [(2,annOf [.slot 0 (2000000,0) (.own .eLevel true),.slot 1 (1,1024) (.lit (.int .i64)),.slot 5 (5,1024) (.lit (.int .i64))] (fun _=>Zi95_2 a k) (Zm95_2 a k))]
def Zu95:=us [Zh136]
theorem Zv95(a:(List DLevel))(k:Int):goal EE Zu95 Go.Proofs.Tryz.f95 Zk95 Za95 (a,k)=(Zi95_2 a k (a,k,(0:Int),())∧
 ∀(y:List DLevel×Int×Int×PUnit),
  let x0:Nat:=Int.toNat y.2.2.1;
  let x1:Int:=y.2.1+(↑(cntTokS (List.getD y.1 x0 zLevel).Toks):Int);
  Zi95_2 a k y→bif decide (y.2.2.1<(↑(List.length y.1):Int)) then(0:Int)≤y.2.2.1∧x0<List.length y.1∧x0<List.length y.1∧x0<List.length y.1∧(0:Int)≤y.2.1∧x1≤(4611686018427387904:Int)∧Zi95_2 a k (List.modify y.1 x0 fun(x:DLevel)=>{Toks:=markTokS (List.getD y.1 x0 zLevel).Toks y.2.1:DLevel},x1,IntKind.wrap IntKind.i64 (y.2.2.1+(1:Int)),PUnit.unit)∧Zm95_2 a k (List.modify y.1 x0 fun(x:DLevel)=>{Toks:=markTokS (List.getD y.1 x0 zLevel).Toks y.2.1:DLevel},x1,IntKind.wrap IntKind.i64 (y.2.2.1+(1:Int)),PUnit.unit)<Zm95_2 a k y else asD [DV.one (Cell.lit (Value.int IntKind.i64 y.2.1))]=asD [DV.one (Cell.lit (Value.int IntKind.i64 (k+(↑(cntLevelS a):Int))))]∧asD [DV.one (Cell.sl Cd.eLevel y.1)]=asD [DV.one (Cell.sl Cd.eLevel (markLevelS a k))]):=by kernel_rfl
theorem Zo95:Holds EE (95,Zk95):=by
 refine holds_of EE_ok Go.Proofs.Tryz.func95 Zk95 (by kernel_rfl) Zu95 (us_ok _) Za95 (fun x hp hb=> ?_)
 obtain⟨a,k⟩:=x
 have hl_a:a.length≤9223372036854775807:=bdL (hb _ m0)
 have hl_k:=bdI (n:=k) (hb _ m1)
 have hp0:0≤k:=hp _ m0
 have hp1:k+cntLevelS a≤4611686018427387904:=hp _ m1
 clear hp hb
 rw[Zv95 a k]
 dsimp only
 refine⟨⟨by omega,by omega,by simp,by simp[ctS]⟩,?_⟩
 rintro⟨row,kk,i,⟨⟩⟩ ⟨h1,h2,rfl,rfl⟩
 simp only
 have hl:=mk_rl markLevel cntLevel a k h1 h2
 refine if_cond (fun hc=> ?_) (fun hc=> ?_)
 ·have hc:i<a.length:=by have hc:=of_decide_eq_true hc;omega
  have hct:=ctS_take cntLevel a zLevel h1 hc
  have hle:=ctS_take_le cntLevel a (i+1).toNat
  have hg:=mk_getD _ a zLevel (mk_tl markLevel cntLevel a k h1 h2) h1 hc
  have hM:=fun F hF=>mkS_mod markLevel cntLevel a zLevel k (i:=i) F h1 hc hF
  have hq:(cntLevelS a:Int)=ctS cntLevel a:=rfl
  generalize List.getD a i.toNat zLevel=x at*
  generalize hkk:k+(ctS cntLevel (a.take i.toNat):Int)=kk at*
  generalize List.take i.toNat (mkS markLevel cntLevel a k)++List.drop i.toNat a=R at*
  simp only[cntLevel] at hct
  simp(disch:=first|omega|(simp only[List.length_modify];omega)) only[List.length_modify,wrap_i64,getD_modify,modify_modify,hg,hl]
  repeat' (first|refine And.intro (by omega) ?_|fail)
  exact⟨⟨by omega,by omega,hM _ (by first|rfl|(simp only[markLevel,markBool];rw[Int.tmod_eq_emod_of_nonneg (by omega)];rfl)),by omega⟩,by simp only[Zm95_2];omega⟩
 ·have hc:a.length≤i:=by have hc:=of_decide_eq_false hc;omega
  rw[mk_done markLevel cntLevel a k hc,ct_done cntLevel a hc]
  exact⟨rfl,rfl⟩
def Zh95:HH:=⟨_,Zo95⟩
def Zk100:Con UU where
 α:=(List DLevel)×Int
 md:=[.ro,.ro]
 of:=oC (oL .eLevel) (o1 oI)
 ds:=fun x=>[dL .eLevel x.1,dI x.2]
 pre:=fun(a,k)=>[0≤k,k+cntLevelS a≤4611686018427387904]
 res:=fun(a,k)=>⟨[.one (.lit (.int .i64 (if markLevelS a k=a then k+cntLevelS a else-1)))],true,[]⟩
 law:=lC (lL .eLevel) (l1 lI)
def Zi100_2(a:(List DLevel))(k:Int):Int×Int×Unit→Prop:=fun(kk,i,_)=>0≤i∧i≤a.length∧kk=k+ctS cntLevel (a.take i.toNat)∧(mkS markLevel cntLevel (a.drop i.toNat) kk=a.drop i.toNat↔mkS markLevel cntLevel a k=a)
def Zm100_2(a:(List DLevel))(k:Int):Int×Int×Unit→Nat:=fun(kk,i,_)=>a.length-i.toNat
def Za100:Zk100.α→Nat→Option (Ann UU):=fun(a,k)=>annL [(2,annOf [.slot 1 (1,1024) (.lit (.int .i64)),.slot 5 (5,1024) (.lit (.int .i64))] (fun _=>Zi100_2 a k) (Zm100_2 a k))]
def Zu100:=us [Zh137]
theorem Zv100(a:(List DLevel))(k:Int):goal EE Zu100 Go.Proofs.Tryz.f100 Zk100 Za100 (a,k)=(Zi100_2 a k (k,(0:Int),())∧
 ∀(y:Int×Int×PUnit),
  let x2:Nat:=Int.toNat y.2.1;
  let x1:List DTok:=(List.getD a x2 zLevel).Toks;
  let x0:Int:=if markTokS x1 y.1=x1 then y.1+(↑(cntTokS x1):Int) else(-1:Int);
  Zi100_2 a k y→bif decide (y.2.1<(↑(List.length a):Int)) then(0:Int)≤y.2.1∧x2<List.length a∧(0:Int)≤y.1∧y.1+(↑(cntTokS x1):Int)≤(4611686018427387904:Int)∧bif decide (x0<(0:Int)) then Lf [DV.one (Cell.lit (Value.int IntKind.i64 (-1:Int)))] [DV.one (Cell.lit (Value.int IntKind.i64 (if markLevelS a k=a then k+(↑(cntLevelS a):Int) else(-1:Int))))] else Zi100_2 a k (x0,IntKind.wrap IntKind.i64 (y.2.1+(1:Int)),PUnit.unit)∧Zm100_2 a k (x0,IntKind.wrap IntKind.i64 (y.2.1+(1:Int)),PUnit.unit)<Zm100_2 a k y else Lf [DV.one (Cell.lit (Value.int IntKind.i64 y.1))] [DV.one (Cell.lit (Value.int IntKind.i64 (if markLevelS a k=a then k+(↑(cntLevelS a):Int) else(-1:Int))))]):=by kernel_rfl
theorem Zo100:Holds EE (100,Zk100):=by
 refine holds_of EE_ok Go.Proofs.Tryz.func100 Zk100 (by kernel_rfl) Zu100 (us_ok _) Za100 (fun x hp hb=> ?_)
 obtain⟨a,k⟩:=x
 have hl_a:a.length≤9223372036854775807:=bdL (hb _ m0)
 have hl_k:=bdI (n:=k) (hb _ m1)
 have hp0:0≤k:=hp _ m0
 have hp1:k+cntLevelS a≤4611686018427387904:=hp _ m1
 clear hp hb
 rw[Zv100 a k]
 dsimp only
 refine⟨⟨by omega,by omega,by simp[ctS],by simp⟩,?_⟩
 rintro⟨kk,i,⟨⟩⟩ ⟨h1,h2,hkk,hR⟩
 simp only
 simp only[markLevelS]
 refine if_cond (fun hc=> ?_) (fun hc=> ?_)
 ·have hc:i<a.length:=by have hc:=of_decide_eq_true hc;omega
  have hct:=ctS_take cntLevel a zLevel h1 hc
  have hle:=ctS_take_le cntLevel a (i+1).toNat
  have hq:(cntLevelS a:Int)=ctS cntLevel a:=rfl
  rw[drop_step a zLevel h1 hc] at hR
  generalize List.getD a i.toNat zLevel=x at*
  simp only[mkS,List.cons.injEq] at hR
  have e:kk+(cntLevel x:Int)=kk+(cntTokS x.Toks:Int):=by first|(simp only[cntLevel];done)|(simp only[cntLevel];omega)
  rw[e] at hR
  simp only[markLevel,cntLevel] at hR hct
  simp(disch:=omega) only[wrap_i64,bne_int,toList_beq]
  obtain⟨x_Toks⟩:=x
  simp only[DLevel.mk.injEq] at*
  repeat' (first|refine And.intro (by omega) ?_|fail)
  by_cases hm:markTokS x_Toks (kk)=x_Toks
  rotate_left
  ·simp only[if_neg hm];rw[cond_yes (by decide)]
   exact Lf_no (fun hh=>hm (by have hh:=hR.2 hh;simp_all))
  simp only[if_pos hm]
  refine if_cond (fun h=>absurd (of_decide_eq_true h) (by omega)) (fun h=> ?_)
  simp only[hm] at hR
  clear hm
  exact⟨⟨by omega,by omega,by omega,by simpa using hR⟩,by simp only[Zm100_2];omega⟩
 ·have hc:a.length≤i:=by have hc:=of_decide_eq_false hc;omega
  rw[drop_end a hc] at hR
  exact Lf_yes (hR.1 rfl) (by rw[hkk,ct_done _ _ hc];rfl)
def Zh100:HH:=⟨_,Zo100⟩
def Zk85:Con UU where
 α:=DRow×DRow
 md:=[.ro,.ro]
 of:=oC (oA .eRow) (o1 (oA .eRow))
 ds:=fun x=>[dA .eRow x.1,dA .eRow x.2]
 pre:=fun _=>[]
 res:=fun(a,b)=>⟨[.one (.lit (.bool (decide (a=b))))],true,[]⟩
 law:=lC (lA .eRow) (l1 (lA .eRow))
def Za85:Zk85.α→Nat→Option (Ann UU):=fun(a,b)=>annL []
def Zu85:=us [Zh132]
theorem Zv85(a:DRow)(b:DRow):goal EE Zu85 Go.Proofs.Tryz.f85 Zk85 Za85 (a,b)=(bif !decide (a.Levels=b.Levels) then Lb false (decide (a=b)) else Lb true (decide (a=b))):=by kernel_rfl
theorem Zo85:Holds EE (85,Zk85):=by
 refine holds_of EE_ok Go.Proofs.Tryz.func85 Zk85 (by kernel_rfl) Zu85 (us_ok _) Za85 (fun x hp hb=> ?_)
 obtain⟨a,b⟩:=x
 have hl_a_Levels:=bd_eRow (x:=a) (hb _ m0)
 have hl_b_Levels:=bd_eRow (x:=b) (hb _ m1)
 clear hp hb
 rw[Zv85 a b]
 obtain⟨aLevels⟩:=a
 obtain⟨bLevels⟩:=b
 repeat' (apply if_cond<;>intro _)
 all_goals (first|apply Lf_t|apply Lf_f)<;>simp_all
def Zh85:HH:=⟨_,Zo85⟩
def Zk43:Con UU where
 α:=(List DRow)×(List DRow)
 md:=[.ro,.ro]
 of:=oC (oL .eRow) (o1 (oL .eRow))
 ds:=fun x=>[dL .eRow x.1,dL .eRow x.2]
 pre:=fun _=>[]
 res:=fun(a,b)=>⟨[.one (.lit (.bool (decide (a=b))))],true,[]⟩
 law:=lC (lL .eRow) (l1 (lL .eRow))
def Zi43_4(a:(List DRow))(b:(List DRow)):Int×Unit→Prop:=eqI a b
def Zm43_4(a:(List DRow))(b:(List DRow)):Int×Unit→Nat:=rM1 a
def Za43:Zk43.α→Nat→Option (Ann UU):=fun(a,b)=>annL [(4,annOf [.slot 5 (5,1024) (.lit (.int .i64))] (fun _=>Zi43_4 a b) (Zm43_4 a b))]
def Zu43:=us [Zh85]
theorem Zv43(a:(List DRow))(b:(List DRow)):goal EE Zu43 Go.Proofs.Tryz.f43 Zk43 Za43 (a,b)=(eqV zRow a b):=by kernel_rfl
theorem Zo43:Holds EE (43,Zk43):=by
 refine holds_of EE_ok Go.Proofs.Tryz.func43 Zk43 (by kernel_rfl) Zu43 (us_ok _) Za43 (fun x hp hb=> ?_)
 obtain⟨a,b⟩:=x
 have hl_a:a.length≤9223372036854775807:=bdL (hb _ m0)
 have hl_b:b.length≤9223372036854775807:=bdL (hb _ m1)
 clear hp hb
 rw[Zv43 a b]
 exact eqV_ok hl_a
def Zh43:HH:=⟨_,Zo43⟩
def Zk55:Con UU where
 α:=(List DRow)×Int
 md:=[.wr,.ro]
 of:=oC (oL .eRow) (o1 oI)
 ds:=fun x=>[dL .eRow x.1,dI x.2]
 pre:=fun(a,k)=>[0≤k,k+cntRowS a≤4611686018427387904]
 res:=fun(a,k)=>⟨[.one (.lit (.int .i64 (k+cntRowS a)))],true,[.one (.sl .eRow (markRowS a k))]⟩
 law:=lC (lL .eRow) (l1 lI)
def Zi55_2(a:(List DRow))(k:Int):List DRow×Int×Int×Unit→Prop:=fun(row,kk,i,_)=>0≤i∧i≤a.length∧row=(mkS markRow cntRow a k).take i.toNat++a.drop i.toNat∧kk=k+ctS cntRow (a.take i.toNat)
def Zm55_2(a:(List DRow))(k:Int):List DRow×Int×Int×Unit→Nat:=fun(row,kk,i,_)=>a.length-i.toNat
def Za55:Zk55.α→Nat→Option (Ann UU):=fun(a,k)=>annL [(2,annOf [.slot 0 (2000000,0) (.own .eRow true),.slot 1 (1,1024) (.lit (.int .i64)),.slot 5 (5,1024) (.lit (.int .i64))] (fun _=>Zi55_2 a k) (Zm55_2 a k))]
def Zu55:=us [Zh95]
theorem Zv55(a:(List DRow))(k:Int):goal EE Zu55 Go.Proofs.Tryz.f55 Zk55 Za55 (a,k)=(Zi55_2 a k (a,k,(0:Int),())∧
 ∀(y:List DRow×Int×Int×PUnit),
  let x0:Nat:=Int.toNat y.2.2.1;
  let x1:Int:=y.2.1+(↑(cntLevelS (List.getD y.1 x0 zRow).Levels):Int);
  Zi55_2 a k y→bif decide (y.2.2.1<(↑(List.length y.1):Int)) then(0:Int)≤y.2.2.1∧x0<List.length y.1∧x0<List.length y.1∧x0<List.length y.1∧(0:Int)≤y.2.1∧x1≤(4611686018427387904:Int)∧Zi55_2 a k (List.modify y.1 x0 fun(x:DRow)=>{Levels:=markLevelS (List.getD y.1 x0 zRow).Levels y.2.1:DRow},x1,IntKind.wrap IntKind.i64 (y.2.2.1+(1:Int)),PUnit.unit)∧Zm55_2 a k (List.modify y.1 x0 fun(x:DRow)=>{Levels:=markLevelS (List.getD y.1 x0 zRow).Levels y.2.1:DRow},x1,IntKind.wrap IntKind.i64 (y.2.2.1+(1:Int)),PUnit.unit)<Zm55_2 a k y else asD [DV.one (Cell.lit (Value.int IntKind.i64 y.2.1))]=asD [DV.one (Cell.lit (Value.int IntKind.i64 (k+(↑(cntRowS a):Int))))]∧asD [DV.one (Cell.sl Cd.eRow y.1)]=asD [DV.one (Cell.sl Cd.eRow (markRowS a k))]):=by kernel_rfl
theorem Zo55:Holds EE (55,Zk55):=by
 refine holds_of EE_ok Go.Proofs.Tryz.func55 Zk55 (by kernel_rfl) Zu55 (us_ok _) Za55 (fun x hp hb=> ?_)
 obtain⟨a,k⟩:=x
 have hl_a:a.length≤9223372036854775807:=bdL (hb _ m0)
 have hl_k:=bdI (n:=k) (hb _ m1)
 have hp0:0≤k:=hp _ m0
 have hp1:k+cntRowS a≤4611686018427387904:=hp _ m1
 clear hp hb
 rw[Zv55 a k]
 dsimp only
 refine⟨⟨by omega,by omega,by simp,by simp[ctS]⟩,?_⟩
 rintro⟨row,kk,i,⟨⟩⟩ ⟨h1,h2,rfl,rfl⟩
 simp only
 have hl:=mk_rl markRow cntRow a k h1 h2
 refine if_cond (fun hc=> ?_) (fun hc=> ?_)
 ·have hc:i<a.length:=by have hc:=of_decide_eq_true hc;omega
  have hct:=ctS_take cntRow a zRow h1 hc
  have hle:=ctS_take_le cntRow a (i+1).toNat
  have hg:=mk_getD _ a zRow (mk_tl markRow cntRow a k h1 h2) h1 hc
  have hM:=fun F hF=>mkS_mod markRow cntRow a zRow k (i:=i) F h1 hc hF
  have hq:(cntRowS a:Int)=ctS cntRow a:=rfl
  generalize List.getD a i.toNat zRow=x at*
  generalize hkk:k+(ctS cntRow (a.take i.toNat):Int)=kk at*
  generalize List.take i.toNat (mkS markRow cntRow a k)++List.drop i.toNat a=R at*
  simp only[cntRow] at hct
  simp(disch:=first|omega|(simp only[List.length_modify];omega)) only[List.length_modify,wrap_i64,getD_modify,modify_modify,hg,hl]
  repeat' (first|refine And.intro (by omega) ?_|fail)
  exact⟨⟨by omega,by omega,hM _ (by first|rfl|(simp only[markRow,markBool];rw[Int.tmod_eq_emod_of_nonneg (by omega)];rfl)),by omega⟩,by simp only[Zm55_2];omega⟩
 ·have hc:a.length≤i:=by have hc:=of_decide_eq_false hc;omega
  rw[mk_done markRow cntRow a k hc,ct_done cntRow a hc]
  exact⟨rfl,rfl⟩
def Zh55:HH:=⟨_,Zo55⟩
def Zk62:Con UU where
 α:=(List DRow)×Int
 md:=[.ro,.ro]
 of:=oC (oL .eRow) (o1 oI)
 ds:=fun x=>[dL .eRow x.1,dI x.2]
 pre:=fun(a,k)=>[0≤k,k+cntRowS a≤4611686018427387904]
 res:=fun(a,k)=>⟨[.one (.lit (.int .i64 (if markRowS a k=a then k+cntRowS a else-1)))],true,[]⟩
 law:=lC (lL .eRow) (l1 lI)
def Zi62_2(a:(List DRow))(k:Int):Int×Int×Unit→Prop:=fun(kk,i,_)=>0≤i∧i≤a.length∧kk=k+ctS cntRow (a.take i.toNat)∧(mkS markRow cntRow (a.drop i.toNat) kk=a.drop i.toNat↔mkS markRow cntRow a k=a)
def Zm62_2(a:(List DRow))(k:Int):Int×Int×Unit→Nat:=fun(kk,i,_)=>a.length-i.toNat
def Za62:Zk62.α→Nat→Option (Ann UU):=fun(a,k)=>annL [(2,annOf [.slot 1 (1,1024) (.lit (.int .i64)),.slot 5 (5,1024) (.lit (.int .i64))] (fun _=>Zi62_2 a k) (Zm62_2 a k))]
def Zu62:=us [Zh100]
theorem Zv62(a:(List DRow))(k:Int):goal EE Zu62 Go.Proofs.Tryz.f62 Zk62 Za62 (a,k)=(Zi62_2 a k (k,(0:Int),())∧
 ∀(y:Int×Int×PUnit),
  let x2:Nat:=Int.toNat y.2.1;
  let x1:List DLevel:=(List.getD a x2 zRow).Levels;
  let x0:Int:=if markLevelS x1 y.1=x1 then y.1+(↑(cntLevelS x1):Int) else(-1:Int);
  Zi62_2 a k y→bif decide (y.2.1<(↑(List.length a):Int)) then(0:Int)≤y.2.1∧x2<List.length a∧(0:Int)≤y.1∧y.1+(↑(cntLevelS x1):Int)≤(4611686018427387904:Int)∧bif decide (x0<(0:Int)) then Lf [DV.one (Cell.lit (Value.int IntKind.i64 (-1:Int)))] [DV.one (Cell.lit (Value.int IntKind.i64 (if markRowS a k=a then k+(↑(cntRowS a):Int) else(-1:Int))))] else Zi62_2 a k (x0,IntKind.wrap IntKind.i64 (y.2.1+(1:Int)),PUnit.unit)∧Zm62_2 a k (x0,IntKind.wrap IntKind.i64 (y.2.1+(1:Int)),PUnit.unit)<Zm62_2 a k y else Lf [DV.one (Cell.lit (Value.int IntKind.i64 y.1))] [DV.one (Cell.lit (Value.int IntKind.i64 (if markRowS a k=a then k+(↑(cntRowS a):Int) else(-1:Int))))]):=by kernel_rfl
theorem Zo62:Holds EE (62,Zk62):=by
 refine holds_of EE_ok Go.Proofs.Tryz.func62 Zk62 (by kernel_rfl) Zu62 (us_ok _) Za62 (fun x hp hb=> ?_)
 obtain⟨a,k⟩:=x
 have hl_a:a.length≤9223372036854775807:=bdL (hb _ m0)
 have hl_k:=bdI (n:=k) (hb _ m1)
 have hp0:0≤k:=hp _ m0
 have hp1:k+cntRowS a≤4611686018427387904:=hp _ m1
 clear hp hb
 rw[Zv62 a k]
 dsimp only
 refine⟨⟨by omega,by omega,by simp[ctS],by simp⟩,?_⟩
 rintro⟨kk,i,⟨⟩⟩ ⟨h1,h2,hkk,hR⟩
 simp only
 simp only[markRowS]
 refine if_cond (fun hc=> ?_) (fun hc=> ?_)
 ·have hc:i<a.length:=by have hc:=of_decide_eq_true hc;omega
  have hct:=ctS_take cntRow a zRow h1 hc
  have hle:=ctS_take_le cntRow a (i+1).toNat
  have hq:(cntRowS a:Int)=ctS cntRow a:=rfl
  rw[drop_step a zRow h1 hc] at hR
  generalize List.getD a i.toNat zRow=x at*
  simp only[mkS,List.cons.injEq] at hR
  have e:kk+(cntRow x:Int)=kk+(cntLevelS x.Levels:Int):=by first|(simp only[cntRow];done)|(simp only[cntRow];omega)
  rw[e] at hR
  simp only[markRow,cntRow] at hR hct
  simp(disch:=omega) only[wrap_i64,bne_int,toList_beq]
  obtain⟨x_Levels⟩:=x
  simp only[DRow.mk.injEq] at*
  repeat' (first|refine And.intro (by omega) ?_|fail)
  by_cases hm:markLevelS x_Levels (kk)=x_Levels
  rotate_left
  ·simp only[if_neg hm];rw[cond_yes (by decide)]
   exact Lf_no (fun hh=>hm (by have hh:=hR.2 hh;simp_all))
  simp only[if_pos hm]
  refine if_cond (fun h=>absurd (of_decide_eq_true h) (by omega)) (fun h=> ?_)
  simp only[hm] at hR
  clear hm
  exact⟨⟨by omega,by omega,by omega,by simpa using hR⟩,by simp only[Zm62_2];omega⟩
 ·have hc:a.length≤i:=by have hc:=of_decide_eq_false hc;omega
  rw[drop_end a hc] at hR
  exact Lf_yes (hR.1 rfl) (by rw[hkk,ct_done _ _ hc];rfl)
def Zh62:HH:=⟨_,Zo62⟩
end
end AM
