/- Functions of the program with their contracts: put together by gen/link.py for FnEffects. -/
import Derived.Test.YtceiiofmelhipaaGreatAmLib
import Derived.Test.YtceiiofmelhipaaGreatFEffects
namespace AM
open Go Go.Proofs.Tryz
set_option linter.unusedVariables false
set_option linter.unusedSimpArgs false
set_option maxRecDepth 100000
noncomputable section
def Zk170:Con UU where
 α:=(List DExpr)×(List DBind)
 md:=[.ro,.ro]
 of:=oC (oL .eExpr) (o1 (oL .eBind))
 ds:=fun x=>[dL .eExpr x.1,dL .eBind x.2]
 pre:=fun(es,l)=>[es.length≤4294967295]
 res:=fun(es,l)=>⟨[dL .eVal (compsV es l),dO (compsB es l)],true,[]⟩
 law:=lC (lL .eExpr) (l1 (lL .eBind))
def Zi170_3(es:(List DExpr))(l:(List DBind)):List DVal×Int×Unit→Prop:=fun(o,i,_)=>0≤i∧i≤es.length∧o=(es.take i.toNat).map (compV l)∧(es.drop i.toNat).all (compB l)=es.all (compB l)
def Zm170_3(es:(List DExpr))(l:(List DBind)):List DVal×Int×Unit→Nat:=fun(o,i,_)=>es.length-i.toNat
def Za170:Zk170.α→Nat→Option (Ann UU):=fun(es,l)=>annL [(3,annOf [.slot 6 (6,1024) (.own .eVal true),.slot 13 (13,1024) (.lit (.int .i64))] (fun _=>Zi170_3 es l) (Zm170_3 es l))]
def Zu170:=us [Zh240]
theorem Zo170:Holds EE (170,Zk170):=by
 refine holds_of EE_ok func170 Zk170 (by kernel_rfl) Zu170 (us_ok _) Za170 (fun x hp hb=> ?_)
 obtain⟨es,l⟩:=x
 have hl_es:es.length≤9223372036854775807:=bdL (hb _ m0)
 have hl_l:l.length≤9223372036854775807:=bdL (hb _ m1)
 have hp0:es.length≤4294967295:=hp _ m0
 clear hp hb
 apply @ve _ (Zi170_3 es l ([],(0:Int),())∧∀(y:List DVal×Int×PUnit),let x2:Nat:=y.2.1.toNat;let x1:DExpr:=List.getD es x2 zExpr;let x0:List DVal:=[compV l x1];Zi170_3 es l y→bif decide (y.2.1<(es.length:Int)) then(0:Int)≤y.2.1∧x2<es.length∧bif !compB l x1 then Lf [VL .eVal [],VB false] [VL .eVal (compsV es l),VB (compsB es l)] else y.1.length+x0.length≤(4294967296:Nat)∧Zi170_3 es l (y.1++x0,IntKind.wrap IntKind.i64 (y.2.1+(1:Int)),())∧Zm170_3 es l (y.1++x0,IntKind.wrap IntKind.i64 (y.2.1+(1:Int)),())<Zm170_3 es l y else Lf [VL .eVal y.1,VB true] [VL .eVal (compsV es l),VB (compsB es l)]) (by kernel_rfl)
 dsimp only
 refine⟨⟨by omega,by omega,by simp,rfl⟩,?_⟩
 rintro⟨o,i,⟨⟩⟩ ⟨h1,h2,rfl,hR⟩
 dsimp only
 refine if_dec (fun hc=> ?_) (fun hc=> ?_)
 ·rw[all_step _ _ zExpr h1 hc] at hR
  refine⟨by omega,by omega,if_not (fun g=> ?_) (fun g=> ?_)⟩
  ·have hf:compsB es l=false:=by rw[compsB,←hR,show compB l (List.getD es i.toNat zExpr)=false from g];rfl
   exact LfVS (by rw[compsV,if_neg (by rw[hf];decide)];rfl) hf.symm
  ·rw[show compB l (List.getD es i.toNat zExpr)=true from g,zck] at hR
   have hm:(es.take i.toNat).map (compV l)++[compV l (List.getD es i.toNat zExpr)]=(es.take (i+1).toNat).map (compV l):=by rw[←take_step es zExpr h1 hc,zef];rfl
   rw[wrap_i64 (by omega) (by omega)]
   exact⟨by simp only[zco,zaw,zbq,zbo];omega,⟨by omega,by omega,hm,hR⟩,by simp only[Zm170_3];omega⟩
 ·have e:es.drop i.toNat=[]:=List.drop_eq_nil_of_le (by omega)
  rw[e] at hR
  have hf:compsB es l=true:=hR.symm
  rw[take_all es (by omega)]
  exact LfVS (by rw[compsV,if_pos hf]) hf.symm
def Zh170:HH:=⟨_,Zo170⟩
theorem takeStep{α:Type}{l:List α}{i:Nat}(z:α)(h:i<l.length):l.take (i+1)=l.take i++[List.getD l i z]:=by
 rw[zcz h,zac,zad h];rfl
theorem filterStep{α:Type}(q:α→Bool){l:List α}{i:Nat}(z:α)(h:i<l.length):(l.take (i+1)).filter q=(l.take i).filter q++(if q (List.getD l i z)=true then[List.getD l i z] else[]):=by
 rw[takeStep z h,List.filter_append]
 congr 1
 generalize List.getD l i z=x
 by_cases hq:q x=true<;>simp[hq]
def Zk211:Con UU where
 α:=(List Int)
 md:=[.ro]
 of:=o1 (oL .int)
 ds:=fun x=>[dL .int x]
 pre:=fun l=>[l.length≤4294967296]
 res:=fun l=>⟨[dL .int l],true,[]⟩
 law:=l1 (lL .int)
def Za211:Zk211.α→Nat→Option (Ann UU):=fun l=>annL []
def Zu211:List (FuncId×Con UU):=[]
theorem Zw211:goalN EE Zu211 f211 Zk211 Za211 [] .int [] true=(Lf [VL .int []] [VL .int []]):=by kernel_rfl
theorem Zx211:goalN EE Zu211 f211 Zk211 Za211 [] .int [] true:=by
 rw[Zw211]
 exact Lf_rfl _
theorem Zo211:Holds EE (211,Zk211):=by
 refine holds_ofN EE_ok func211 Zk211 (by kernel_rfl) rfl .int (fun x=>x) (fun _=>rfl) Zu211 all_nil Za211 (fun(l:(List Int)) hp hb=> ?_)
 have hl_l:l.length≤9223372036854775807:=bdL (hb _ m0)
 have hp0:l.length≤4294967296:=hp _ m0
 clear hp hb
 refine⟨?_,fun h0=> ?_⟩
 rotate_left
 ·subst h0;exact Zx211
 apply @ve _ ((0:Nat)+l.length≤(4294967296:Nat)∧Lf [VL .int ([]++l)] [VL .int l]) (by kernel_rfl)
 exact⟨by simp;omega,Lf_rfl _⟩
def Zh211:HH:=⟨_,Zo211⟩
def Zk212:Con UU where
 α:=(List DBind)
 md:=[.ro]
 of:=o1 (oL .eBind)
 ds:=fun x=>[dL .eBind x]
 pre:=fun l=>[l.length≤4294967296]
 res:=fun l=>⟨[dL .eBind l],true,[]⟩
 law:=l1 (lL .eBind)
def Za212:Zk212.α→Nat→Option (Ann UU):=fun l=>annL []
def Zu212:List (FuncId×Con UU):=[]
theorem Zw212:goalN EE Zu212 f212 Zk212 Za212 [] .eBind [] true=(Lf [VL .eBind []] [VL .eBind []]):=by kernel_rfl
theorem Zx212:goalN EE Zu212 f212 Zk212 Za212 [] .eBind [] true:=by
 rw[Zw212]
 exact Lf_rfl _
theorem Zo212:Holds EE (212,Zk212):=by
 refine holds_ofN EE_ok func212 Zk212 (by kernel_rfl) rfl .eBind (fun x=>x) (fun _=>rfl) Zu212 all_nil Za212 (fun(l:(List DBind)) hp hb=> ?_)
 have hl_l:l.length≤9223372036854775807:=bdL (hb _ m0)
 have hp0:l.length≤4294967296:=hp _ m0
 clear hp hb
 refine⟨?_,fun h0=> ?_⟩
 rotate_left
 ·subst h0;exact Zx212
 apply @ve _ ((0:Nat)+l.length≤(4294967296:Nat)∧Lf [VL .eBind ([]++l)] [VL .eBind l]) (by kernel_rfl)
 exact⟨by simp;omega,Lf_rfl _⟩
def Zh212:HH:=⟨_,Zo212⟩
def cmpI(a b:Int):Int:=if a<b then-1 else if b<a then 1 else 0
def cmpS(a b:ByteArray):Int:=if Op.bytesLess a.toList b.toList=true then-1 else if a=b then 0 else 1
def orI:List Int→Int
 |[]=>0
 |x::l=>if x=0 then orI l else x
def lessVal(a b:DVal):Bool:=if a.K=b.K then(if a.N=b.N then Op.bytesLess a.S.toList b.S.toList else decide (a.N<b.N)) else decide (a.K<b.K)
theorem cmpI_zero{a b:Int}:cmpI a b=0↔a=b:=by
 simp only[cmpI];split<;>(try split)<;>omega
theorem cmpI_neg{a b:Int}:cmpI a b<0↔a<b:=by
 simp only[cmpI];split<;>(try split)<;>omega
theorem cmpS_neg{a b:ByteArray}:cmpS a b<0↔Op.bytesLess a.toList b.toList=true:=by
 simp only[cmpS]
 split
 ·rename_i h;simp[h]
 ·rename_i h;split<;>simp[h]
theorem lessVal_cmp(a b:DVal):decide (orI [cmpI a.K b.K,cmpI a.N b.N,cmpS a.S b.S]<0)=lessVal a b:=by
 simp only[orI,lessVal,cmpI_zero]
 split
 ·split
  ·split
   ·rename_i h;have:=cmpS_neg (a:=a.S) (b:=b.S);rw[h] at this;rw[←Bool.coe_iff_coe];simpa using this
   ·rw[←Bool.coe_iff_coe];simpa using cmpS_neg (a:=a.S) (b:=b.S)
  ·rw[decide_eq_decide];exact cmpI_neg
 ·rw[decide_eq_decide];exact cmpI_neg
theorem orI_step(l:List Int){i:Int}(h0:0≤i)(h:i<l.length):orI (l.drop i.toNat)=if List.getD l i.toNat 0=0 then orI (l.drop (i+1).toNat) else List.getD l i.toNat 0:=by
 rw[drop_step l 0 h0 h];rfl
def holdsC(l:List DBind)(c:DCond):Bool:=(argVal c.L l).2&&(argVal c.R l).2&&(if c.Op=1 then decide ((argVal c.L l).1=(argVal c.R l).1) else if c.Op=2 then !decide ((argVal c.L l).1=(argVal c.R l).1) else if c.Op=3 then lessVal (argVal c.L l).1 (argVal c.R l).1 else false)
def holdAll(cs:List DCond)(l:List DBind):Bool:=cs.all (holdsC l)
def matchStep(out:List DBind)(a:DArg)(v:DVal):Option (List DBind):=
 if a.K=2 then(if a.V=v then some out else none) else if a.K=1 then(if(bindOf out a.S).2=true then(if(bindOf out a.S).1=v then some out else none) else some (out++[⟨a.S,v⟩])) else some out
def matchArgs:List DArg→List DVal→List DBind→Option (List DBind)
 |[],_,out=>some out
 |a::al,v::vs,out=>match matchStep out a v with|some o=>matchArgs al vs o|none=>none
 |_::_,[],_=>none
def matchP(p:DPat)(f:DFact)(l:List DBind):Option (List DBind):=if f.Kind=p.Kind∧f.Fields.length=p.Args.length then matchArgs p.Args f.Fields l else none
def hitP(p:DPat)(l:List DBind)(x:DItem):Bool:=(matchP p x.F l).isSome
def hits(p:DPat)(s:List DItem)(l:List DBind):Nat:=(s.filter (hitP p l)).length
def blockP(s:List DItem)(l:List DBind)(p:DPat):Bool:=p.Not&&s.any (hitP p l)
def blockedR(r:DRule)(s:List DItem)(l:List DBind):Bool:=r.Pats.any (blockP s l)
theorem matchStep_len{out:List DBind}{a:DArg}{v:DVal}{o:List DBind}(h:matchStep out a v=some o):o.length≤out.length+1:=by
 simp only[matchStep] at h
 repeat' (split at h)
 all_goals first|(cases h;simp)|cases h
theorem matchArgs_len:∀{al:List DArg}{vs:List DVal}{out o:List DBind},matchArgs al vs out=some o→o.length≤out.length+al.length
 |[],_,out,o,h=>by simp only[matchArgs,zae] at h;subst h;simp
 |a::al,v::vs,out,o,h=>by
  simp only[matchArgs] at h
  split at h
  ·rename_i o' he
   have:=matchStep_len he
   have:=matchArgs_len h
   simp only[zbq];omega
  ·cases h
 |_::_,[],_,_,h=>by simp[matchArgs] at h
theorem matchP_len{p:DPat}{f:DFact}{l o:List DBind}(h:matchP p f l=some o):o.length≤l.length+p.Args.length:=by
 simp only[matchP] at h
 split at h
 ·exact matchArgs_len h
 ·cases h
theorem matchArgs_step{al:List DArg}{vs:List DVal}(o:List DBind){i:Int}(h0:0≤i)(h:i<al.length)(hl:vs.length=al.length):matchArgs (al.drop i.toNat) (vs.drop i.toNat) o=match matchStep o (List.getD al i.toNat zArg) (List.getD vs i.toNat zVal) with|some o'=>matchArgs (al.drop (i+1).toNat) (vs.drop (i+1).toNat) o'|none=>none:=by
 rw[drop_step al zArg h0 h,drop_step vs zVal h0 (by omega)];rfl
theorem hits_step(p:DPat)(s:List DItem)(l:List DBind){i:Int}(h0:0≤i)(h:i<s.length):hits p (s.take (i+1).toNat) l=hits p (s.take i.toNat) l+(if hitP p l (List.getD s i.toNat zItem)=true then 1 else 0):=by
 rw[←take_step s zItem h0 h]
 simp only[hits,List.filter_append,zce,List.filter_cons,List.filter_nil]
 split<;>simp
theorem hits_le(p:DPat)(s:List DItem)(l:List DBind)(n:Nat):hits p (s.take n) l≤n:=zde (zdt _ _) (by simp;omega)
theorem hits_any(p:DPat)(s:List DItem)(l:List DBind):decide ((0:Int)<(hits p s l:Int))=s.any (hitP p l):=by
 have e:(0:Int)<(hits p s l:Int)↔0<hits p s l:=by omega
 rw[←Bool.coe_iff_coe,decide_eq_true_iff,e,hits,List.length_pos_iff_exists_mem,zbb]
 simp only[zcg]
def patsR(r:DRule)(not:Bool):List DPat:=r.Pats.filter fun p=>p.Not==not
theorem if_valn{a b:DVal}{P Q:Prop}(h1:¬a=b→P)(h2:a=b→Q):bif !(a.K==b.K&&(a.N==b.N&&(ByteArray.toList a.S==ByteArray.toList b.S&&true))) then P else Q:=by
 rw[val_beq];exact if_not (fun h=>h1 (of_decide_eq_false h)) (fun h=>h2 (of_decide_eq_true h))
theorem if_strn{a b:ByteArray}{P Q:Prop}(h1:¬a=b→P)(h2:a=b→Q):bif !(ByteArray.toList a==ByteArray.toList b) then P else Q:=by
 rw[toList_beq];exact if_not (fun h=>h1 (of_decide_eq_false h)) (fun h=>h2 (of_decide_eq_true h))
def Zk311:Con UU where
 α:=Int
 md:=[.ro]
 of:=o1 oI
 ds:=fun x=>[dI x]
 pre:=fun _=>[]
 res:=fun x=>⟨[dO false],true,[]⟩
 law:=l1 lI
def Za311:Zk311.α→Nat→Option (Ann UU):=fun x=>annL []
def Zu311:List (FuncId×Con UU):=[]
theorem Zo311:Holds EE (311,Zk311):=by
 refine holds_of EE_ok func311 Zk311 (by kernel_rfl) Zu311 all_nil Za311 (fun(x:Int) hp hb=> ?_)
 have hl_x:=bdI (n:=x) (hb _ m0)
 clear hp hb
 apply @ve _ (Lb (x !=x) false) (by kernel_rfl)
 exact Lf_b (by simp)
def Zh311:HH:=⟨_,Zo311⟩
def Zk317:Con UU where
 α:=ByteArray
 md:=[.ro]
 of:=o1 oS
 ds:=fun x=>[dS x]
 pre:=fun _=>[]
 res:=fun x=>⟨[dO false],true,[]⟩
 law:=l1 lS
def Za317:Zk317.α→Nat→Option (Ann UU):=fun x=>annL []
def Zu317:List (FuncId×Con UU):=[]
theorem Zo317:Holds EE (317,Zk317):=by
 refine holds_of EE_ok func317 Zk317 (by kernel_rfl) Zu317 all_nil Za317 (fun(x:ByteArray) hp hb=> ?_)
 have hl_x:=bdS (s:=x) (hb _ m0)
 clear hp hb
 apply @ve _ (Lb (!ByteArray.toList x==ByteArray.toList x) false) (by kernel_rfl)
 exact Lf_b (by simp)
def Zh317:HH:=⟨_,Zo317⟩
def Zk297:Con UU where
 α:=Int×Int
 md:=[.ro,.ro]
 of:=oC oI (o1 oI)
 ds:=fun x=>[dI x.1,dI x.2]
 pre:=fun _=>[]
 res:=fun(x,y)=>⟨[dI (cmpI x y)],true,[]⟩
 law:=lC lI (l1 lI)
def Za297:Zk297.α→Nat→Option (Ann UU):=fun(x,y)=>annL []
def Zu297:=us [Zh311]
theorem Zo297:Holds EE (297,Zk297):=by
 refine holds_of EE_ok func297 Zk297 (by kernel_rfl) Zu297 (us_ok _) Za297 (fun x hp hb=> ?_)
 obtain⟨x,y⟩:=x
 have hl_x:=bdI (n:=x) (hb _ m0)
 have hl_y:=bdI (n:=y) (hb _ m1)
 clear hp hb
 apply @ve _ (bif decide (x<y) then Li (-1:Int) (cmpI x y) else bif decide (x>y) then Li (1:Int) (cmpI x y) else Li (0:Int) (cmpI x y)) (by kernel_rfl)
 refine if_dec (fun h=>Lf_i ?_) (fun h=>if_dec (fun g=>Lf_i ?_) (fun g=>Lf_i ?_))
 ·exact(if_pos h).symm
 ·exact((if_neg h).trans (if_pos g)).symm
 ·exact((if_neg h).trans (if_neg g)).symm
def Zh297:HH:=⟨_,Zo297⟩
def Zk316:Con UU where
 α:=ByteArray×ByteArray
 md:=[.ro,.ro]
 of:=oC oS (o1 oS)
 ds:=fun x=>[dS x.1,dS x.2]
 pre:=fun _=>[]
 res:=fun(x,y)=>⟨[dI (cmpS x y)],true,[]⟩
 law:=lC lS (l1 lS)
def Za316:Zk316.α→Nat→Option (Ann UU):=fun(x,y)=>annL []
def Zu316:=us [Zh317]
theorem Zo316:Holds EE (316,Zk316):=by
 refine holds_of EE_ok func316 Zk316 (by kernel_rfl) Zu316 (us_ok _) Za316 (fun x hp hb=> ?_)
 obtain⟨x,y⟩:=x
 have hl_x:=bdS (s:=x) (hb _ m0)
 have hl_y:=bdS (s:=y) (hb _ m1)
 clear hp hb
 apply @ve _ (bif Op.bytesLess (ByteArray.toList x) (ByteArray.toList y) then Li (-1:Int) (cmpS x y) else bif !(Op.bytesLess (ByteArray.toList x) (ByteArray.toList y)||ByteArray.toList x==ByteArray.toList y) then Li (1:Int) (cmpS x y) else Li (0:Int) (cmpS x y)) (by kernel_rfl)
 refine if_cond (fun h=>Lf_i (if_pos h).symm) (fun h=> ?_)
 have h':¬Op.bytesLess (ByteArray.toList x) (ByteArray.toList y)=true:=by rw[h];decide
 rw[h,zcw,toList_beq]
 refine if_not (fun g=>Lf_i ?_) (fun g=>Lf_i ?_)
 ·exact((if_neg h').trans (if_neg (of_decide_eq_false g))).symm
 ·exact((if_neg h').trans (if_pos (of_decide_eq_true g))).symm
def Zh316:HH:=⟨_,Zo316⟩
def Zk296:Con UU where
 α:=(List Int)
 md:=[.ro]
 of:=o1 (oL .int)
 ds:=fun x=>[dL .int x]
 pre:=fun _=>[]
 res:=fun l=>⟨[dI (orI l)],true,[]⟩
 law:=l1 (lL .int)
def Zi296_3(l:(List Int)):Int×Int×Unit→Prop:=fun(i,z,_)=>z=0∧0≤i∧i≤l.length∧orI (l.drop i.toNat)=orI l
def Zm296_3(l:(List Int)):Int×Int×Unit→Nat:=fun(i,z,_)=>l.length-i.toNat
def Za296:Zk296.α→Nat→Option (Ann UU):=fun l=>annL [(3,annOf [.slot 8 (8,1024) (.lit (.int .i64)),.slot 3 (3,1024) (.lit (.int .i64))] (fun _=>Zi296_3 l) (Zm296_3 l))]
def Zu296:List (FuncId×Con UU):=[]
theorem Zo296:Holds EE (296,Zk296):=by
 refine holds_of EE_ok func296 Zk296 (by kernel_rfl) Zu296 all_nil Za296 (fun(l:(List Int)) hp hb=> ?_)
 have hl_l:l.length≤9223372036854775807:=bdL (hb _ m0)
 clear hp hb
 apply @ve _ (Zi296_3 l ((0:Int),(0:Int),())∧∀(y:Int×Int×PUnit),Zi296_3 l y→bif decide (y.1<(l.length:Int)) then(0:Int)≤y.1∧y.1.toNat<l.length∧bif List.getD l y.1.toNat (0:Int) !=y.2.1 then Li (List.getD l y.1.toNat (0:Int)) (orI l) else Zi296_3 l (IntKind.wrap IntKind.i64 (y.1+(1:Int)),y.2.1,())∧Zm296_3 l (IntKind.wrap IntKind.i64 (y.1+(1:Int)),y.2.1,())<Zm296_3 l y else Li y.2.1 (orI l)) (by kernel_rfl)
 refine⟨⟨rfl,by omega,by omega,rfl⟩,?_⟩
 rintro⟨i,z,⟨⟩⟩ ⟨rfl,h1,h2,hR⟩
 simp only
 refine if_dec (fun hc=> ?_) (fun hc=> ?_)
 ·rw[orI_step l h1 hc] at hR
  rw[wrap_i64 (by omega) (by omega)]
  refine⟨by omega,by omega,if_neq (fun g=> ?_) (fun g=> ?_)⟩
  ·rw[if_neg g] at hR;exact Lf_i hR
  ·rw[if_pos g] at hR;exact⟨⟨rfl,by omega,by omega,hR⟩,by simp only[Zm296_3];omega⟩
 ·rw[drop_end l (by omega)] at hR
  exact Lf_i hR
def Zh296:HH:=⟨_,Zo296⟩
def Zk313:Con UU where
 α:=DVal×DVal
 md:=[.ro,.ro]
 of:=oC (oA .eVal) (o1 (oA .eVal))
 ds:=fun x=>[dA .eVal x.1,dA .eVal x.2]
 pre:=fun _=>[]
 res:=fun(a,b)=>⟨[dI (orI [cmpI a.K b.K,cmpI a.N b.N,cmpS a.S b.S])],true,[]⟩
 law:=lC (lA .eVal) (l1 (lA .eVal))
def Za313:Zk313.α→Nat→Option (Ann UU):=fun(a,b)=>annL []
def Zu313:=us [Zh297,Zh316,Zh296]
theorem Zo313:Holds EE (313,Zk313):=by
 refine holds_of EE_ok func313 Zk313 (by kernel_rfl) Zu313 (us_ok _) Za313 (fun x hp hb=> ?_)
 obtain⟨a,b⟩:=x
 have hl_a_S:=bd_eVal (x:=a) (hb _ m0)
 have hl_b_S:=bd_eVal (x:=b) (hb _ m1)
 clear hp hb
 apply @ve _ (Li (orI [cmpI a.K b.K,cmpI a.N b.N,cmpS a.S b.S]) (orI [cmpI a.K b.K,cmpI a.N b.N,cmpS a.S b.S])) (by kernel_rfl)
 exact Lf_rfl _
def Zh313:HH:=⟨_,Zo313⟩
def Zk303:Con UU where
 α:=DVal×DVal
 md:=[.ro,.ro]
 of:=oC (oA .eVal) (o1 (oA .eVal))
 ds:=fun x=>[dA .eVal x.1,dA .eVal x.2]
 pre:=fun _=>[]
 res:=fun(a,b)=>⟨[dO (lessVal a b)],true,[]⟩
 law:=lC (lA .eVal) (l1 (lA .eVal))
def Za303:Zk303.α→Nat→Option (Ann UU):=fun(a,b)=>annL []
def Zu303:=us [Zh313]
theorem Zo303:Holds EE (303,Zk303):=by
 refine holds_of EE_ok func303 Zk303 (by kernel_rfl) Zu303 (us_ok _) Za303 (fun x hp hb=> ?_)
 obtain⟨a,b⟩:=x
 have hl_a_S:=bd_eVal (x:=a) (hb _ m0)
 have hl_b_S:=bd_eVal (x:=b) (hb _ m1)
 clear hp hb
 apply @ve _ (let x0:Int:=orI [cmpI a.K b.K,cmpI a.N b.N,cmpS a.S b.S];Lb (decide (x0<(0:Int))) (lessVal a b)) (by kernel_rfl)
 dsimp only
 exact Lf_b (lessVal_cmp a b)
def Zh303:HH:=⟨_,Zo303⟩
def Zk302:Con UU where
 α:=DVal×DVal
 md:=[.ro,.ro]
 of:=oC (oA .eVal) (o1 (oA .eVal))
 ds:=fun x=>[dA .eVal x.1,dA .eVal x.2]
 pre:=fun _=>[]
 res:=fun(a,b)=>⟨[dO (lessVal a b)],true,[]⟩
 law:=lC (lA .eVal) (l1 (lA .eVal))
def Za302:Zk302.α→Nat→Option (Ann UU):=fun(a,b)=>annL []
def Zu302:List (FuncId×Con UU):=[]
theorem Zo302:Holds EE (302,Zk302):=by
 refine holds_of EE_ok func302 Zk302 (by kernel_rfl) Zu302 all_nil Za302 (fun x hp hb=> ?_)
 obtain⟨a,b⟩:=x
 have hl_a_S:=bd_eVal (x:=a) (hb _ m0)
 have hl_b_S:=bd_eVal (x:=b) (hb _ m1)
 clear hp hb
 apply @ve _ (bif a.K !=b.K then Lb (decide (a.K<b.K)) (lessVal a b) else bif a.N !=b.N then Lb (decide (a.N<b.N)) (lessVal a b) else Lb (Op.bytesLess (ByteArray.toList a.S) (ByteArray.toList b.S)) (lessVal a b)) (by kernel_rfl)
 refine if_neq (fun h=>Lf_b (if_neg h).symm) (fun h=>if_neq (fun g=>Lf_b ?_) (fun g=>Lf_b ?_))
 ·exact((if_pos h).trans (if_neg g)).symm
 ·exact((if_pos h).trans (if_pos g)).symm
def Zh302:HH:=⟨_,Zo302⟩
def Zk277:Con UU where
 α:=DCond×(List DBind)
 md:=[.ro,.ro]
 of:=oC (oA .eCond) (o1 (oL .eBind))
 ds:=fun x=>[dA .eCond x.1,dL .eBind x.2]
 pre:=fun _=>[]
 res:=fun(c,l)=>⟨[dO (holdsC l c)],true,[]⟩
 law:=lC (lA .eCond) (l1 (lL .eBind))
def Za277:Zk277.α→Nat→Option (Ann UU):=fun(c,l)=>annL []
def Zu277:=us [Zh280,Zh303]
theorem Zo277:Holds EE (277,Zk277):=by
 refine holds_of EE_ok func277 Zk277 (by kernel_rfl) Zu277 (us_ok _) Za277 (fun x hp hb=> ?_)
 obtain⟨c,l⟩:=x
 have hz0:=bd_eCond (x:=c) (hb _ m0)
 have hl_c_L_S:=hz0.1
 have hl_c_L_V_S:=hz0.2.1
 have hl_c_R_S:=hz0.2.2.1
 have hl_c_R_V_S:=hz0.2.2.2
 have hl_l:l.length≤9223372036854775807:=bdL (hb _ m1)
 clear hp hb
 apply @ve _ (let x0:Bool:=(argVal {K:=c.L.K,S:=c.L.S,V:={K:=c.L.V.K,N:=c.L.V.N,S:=c.L.V.S:DVal}:DArg} l).1.K==(argVal {K:=c.R.K,S:=c.R.S,V:={K:=c.R.V.K,N:=c.R.V.N,S:=c.R.V.S:DVal}:DArg} l).1.K&&((argVal {K:=c.L.K,S:=c.L.S,V:={K:=c.L.V.K,N:=c.L.V.N,S:=c.L.V.S:DVal}:DArg} l).1.N==(argVal {K:=c.R.K,S:=c.R.S,V:={K:=c.R.V.K,N:=c.R.V.N,S:=c.R.V.S:DVal}:DArg} l).1.N&&(ByteArray.toList (argVal {K:=c.L.K,S:=c.L.S,V:={K:=c.L.V.K,N:=c.L.V.N,S:=c.L.V.S:DVal}:DArg} l).1.S==ByteArray.toList (argVal {K:=c.R.K,S:=c.R.S,V:={K:=c.R.V.K,N:=c.R.V.N,S:=c.R.V.S:DVal}:DArg} l).1.S&&true));bif !(argVal {K:=c.L.K,S:=c.L.S,V:={K:=c.L.V.K,N:=c.L.V.N,S:=c.L.V.S:DVal}:DArg} l).2 then Lb false (holdsC l c) else bif !(argVal {K:=c.R.K,S:=c.R.S,V:={K:=c.R.V.K,N:=c.R.V.N,S:=c.R.V.S:DVal}:DArg} l).2 then Lb false (holdsC l c) else bif c.Op==(1:Int) then Lb x0 (holdsC l c) else bif c.Op==(2:Int) then Lb (!x0) (holdsC l c) else bif c.Op==(3:Int) then Lb (lessVal (argVal {K:=c.L.K,S:=c.L.S,V:={K:=c.L.V.K,N:=c.L.V.N,S:=c.L.V.S:DVal}:DArg} l).1 (argVal {K:=c.R.K,S:=c.R.S,V:={K:=c.R.V.K,N:=c.R.V.N,S:=c.R.V.S:DVal}:DArg} l).1) (holdsC l c) else Lb false (holdsC l c)) (by kernel_rfl)
 dsimp only
 have eL:(⟨c.L.K,c.L.S,⟨c.L.V.K,c.L.V.N,c.L.V.S⟩⟩:DArg)=c.L:=rfl
 have eR:(⟨c.R.K,c.R.S,⟨c.R.V.K,c.R.V.N,c.R.V.S⟩⟩:DArg)=c.R:=rfl
 simp only[eL,eR,val_beq]
 refine if_not (fun h=>Lf_b ?_) (fun h=>if_not (fun h1=>Lf_b ?_) (fun h1=>if_num (fun h2=>Lf_b ?_) (fun h2=>if_num (fun h3=>Lf_b ?_) (fun h3=>if_num (fun h4=>Lf_b ?_) (fun h4=>Lf_b ?_)))))
 all_goals (simp only[holdsC];grind)
def Zh277:HH:=⟨_,Zo277⟩
def Zk274:Con UU where
 α:=DCond×(List DBind)
 md:=[.ro,.ro]
 of:=oC (oA .eCond) (o1 (oL .eBind))
 ds:=fun x=>[dA .eCond x.1,dL .eBind x.2]
 pre:=fun _=>[]
 res:=fun(c,l)=>⟨[dO (holdsC l c)],true,[]⟩
 law:=lC (lA .eCond) (l1 (lL .eBind))
def Za274:Zk274.α→Nat→Option (Ann UU):=fun(c,l)=>annL []
def Zu274:=us [Zh245,Zh302]
theorem Zo274:Holds EE (274,Zk274):=by
 refine holds_of EE_ok func274 Zk274 (by kernel_rfl) Zu274 (us_ok _) Za274 (fun x hp hb=> ?_)
 obtain⟨c,l⟩:=x
 have hz0:=bd_eCond (x:=c) (hb _ m0)
 have hl_c_L_S:=hz0.1
 have hl_c_L_V_S:=hz0.2.1
 have hl_c_R_S:=hz0.2.2.1
 have hl_c_R_V_S:=hz0.2.2.2
 have hl_l:l.length≤9223372036854775807:=bdL (hb _ m1)
 clear hp hb
 apply @ve _ (let x0:Bool:=(argVal {K:=c.L.K,S:=c.L.S,V:={K:=c.L.V.K,N:=c.L.V.N,S:=c.L.V.S:DVal}:DArg} l).1.K==(argVal {K:=c.R.K,S:=c.R.S,V:={K:=c.R.V.K,N:=c.R.V.N,S:=c.R.V.S:DVal}:DArg} l).1.K&&((argVal {K:=c.L.K,S:=c.L.S,V:={K:=c.L.V.K,N:=c.L.V.N,S:=c.L.V.S:DVal}:DArg} l).1.N==(argVal {K:=c.R.K,S:=c.R.S,V:={K:=c.R.V.K,N:=c.R.V.N,S:=c.R.V.S:DVal}:DArg} l).1.N&&(ByteArray.toList (argVal {K:=c.L.K,S:=c.L.S,V:={K:=c.L.V.K,N:=c.L.V.N,S:=c.L.V.S:DVal}:DArg} l).1.S==ByteArray.toList (argVal {K:=c.R.K,S:=c.R.S,V:={K:=c.R.V.K,N:=c.R.V.N,S:=c.R.V.S:DVal}:DArg} l).1.S&&true));bif !(argVal {K:=c.L.K,S:=c.L.S,V:={K:=c.L.V.K,N:=c.L.V.N,S:=c.L.V.S:DVal}:DArg} l).2 then Lb false (holdsC l c) else bif !(argVal {K:=c.R.K,S:=c.R.S,V:={K:=c.R.V.K,N:=c.R.V.N,S:=c.R.V.S:DVal}:DArg} l).2 then Lb false (holdsC l c) else bif c.Op==(1:Int) then Lb x0 (holdsC l c) else bif c.Op==(2:Int) then Lb (!x0) (holdsC l c) else bif c.Op==(3:Int) then Lb (lessVal (argVal {K:=c.L.K,S:=c.L.S,V:={K:=c.L.V.K,N:=c.L.V.N,S:=c.L.V.S:DVal}:DArg} l).1 (argVal {K:=c.R.K,S:=c.R.S,V:={K:=c.R.V.K,N:=c.R.V.N,S:=c.R.V.S:DVal}:DArg} l).1) (holdsC l c) else Lb false (holdsC l c)) (by kernel_rfl)
 dsimp only
 have eL:(⟨c.L.K,c.L.S,⟨c.L.V.K,c.L.V.N,c.L.V.S⟩⟩:DArg)=c.L:=rfl
 have eR:(⟨c.R.K,c.R.S,⟨c.R.V.K,c.R.V.N,c.R.V.S⟩⟩:DArg)=c.R:=rfl
 simp only[eL,eR,val_beq]
 refine if_not (fun h=>Lf_b ?_) (fun h=>if_not (fun h1=>Lf_b ?_) (fun h1=>if_num (fun h2=>Lf_b ?_) (fun h2=>if_num (fun h3=>Lf_b ?_) (fun h3=>if_num (fun h4=>Lf_b ?_) (fun h4=>Lf_b ?_)))))
 all_goals (simp only[holdsC];grind)
def Zh274:HH:=⟨_,Zo274⟩
def Zk234:Con UU where
 α:=(List DCond)×(List DBind)
 md:=[.ro,.ro]
 of:=oC (oL .eCond) (o1 (oL .eBind))
 ds:=fun x=>[dL .eCond x.1,dL .eBind x.2]
 pre:=fun _=>[]
 res:=fun(cs,l)=>⟨[dO (holdAll cs l)],true,[]⟩
 law:=lC (lL .eCond) (l1 (lL .eBind))
def Zi234_2(cs:(List DCond))(l:(List DBind)):Int×Unit→Prop:=fun(i,_)=>0≤i∧i≤cs.length∧(cs.drop i.toNat).all (holdsC l)=holdAll cs l
def Zm234_2(cs:(List DCond))(l:(List DBind)):Int×Unit→Nat:=fun(i,_)=>cs.length-i.toNat
def Za234:Zk234.α→Nat→Option (Ann UU):=fun(cs,l)=>annL [(2,annOf [.slot 9 (9,1024) (.lit (.int .i64))] (fun _=>Zi234_2 cs l) (Zm234_2 cs l))]
def Zu234:=us [Zh277]
theorem Zo234:Holds EE (234,Zk234):=by
 refine holds_of EE_ok func234 Zk234 (by kernel_rfl) Zu234 (us_ok _) Za234 (fun x hp hb=> ?_)
 obtain⟨cs,l⟩:=x
 have hl_cs:cs.length≤9223372036854775807:=bdL (hb _ m0)
 have hl_l:l.length≤9223372036854775807:=bdL (hb _ m1)
 clear hp hb
 apply @ve _ (Zi234_2 cs l ((0:Int),())∧∀(y:Int×PUnit),Zi234_2 cs l y→bif decide (y.1<(cs.length:Int)) then(0:Int)≤y.1∧y.1.toNat<cs.length∧bif !holdsC l (List.getD cs y.1.toNat zCond) then Lb false (holdAll cs l) else Zi234_2 cs l (IntKind.wrap IntKind.i64 (y.1+(1:Int)),())∧Zm234_2 cs l (IntKind.wrap IntKind.i64 (y.1+(1:Int)),())<Zm234_2 cs l y else Lb true (holdAll cs l)) (by kernel_rfl)
 refine⟨⟨by omega,by omega,rfl⟩,?_⟩
 rintro⟨i,⟨⟩⟩ ⟨h1,h2,hR⟩
 simp only
 refine if_dec (fun hc=> ?_) (fun hc=> ?_)
 ·rw[all_step _ _ zCond h1 hc] at hR
  rw[wrap_i64 (by omega) (by omega)]
  refine⟨by omega,by omega,if_not (fun g=>Lf_ff (by rw[←hR,g];rfl)) (fun g=>⟨⟨by omega,by omega,by rw[←hR,g,zck]⟩,by simp only[Zm234_2];omega⟩)⟩
 ·rw[drop_end _ (by omega)] at hR
  exact Lf_tt hR.symm
def Zh234:HH:=⟨_,Zo234⟩
def Zk230:Con UU where
 α:=(List DCond)×(List DBind)
 md:=[.ro,.ro]
 of:=oC (oL .eCond) (o1 (oL .eBind))
 ds:=fun x=>[dL .eCond x.1,dL .eBind x.2]
 pre:=fun _=>[]
 res:=fun(cs,l)=>⟨[dO (holdAll cs l)],true,[]⟩
 law:=lC (lL .eCond) (l1 (lL .eBind))
def Zi230_2(cs:(List DCond))(l:(List DBind)):Int×Unit→Prop:=fun(i,_)=>0≤i∧i≤cs.length∧(cs.drop i.toNat).all (holdsC l)=holdAll cs l
def Zm230_2(cs:(List DCond))(l:(List DBind)):Int×Unit→Nat:=fun(i,_)=>cs.length-i.toNat
def Za230:Zk230.α→Nat→Option (Ann UU):=fun(cs,l)=>annL [(2,annOf [.slot 5 (5,1024) (.lit (.int .i64))] (fun _=>Zi230_2 cs l) (Zm230_2 cs l))]
def Zu230:=us [Zh274]
theorem Zo230:Holds EE (230,Zk230):=by
 refine holds_of EE_ok func230 Zk230 (by kernel_rfl) Zu230 (us_ok _) Za230 (fun x hp hb=> ?_)
 obtain⟨cs,l⟩:=x
 have hl_cs:cs.length≤9223372036854775807:=bdL (hb _ m0)
 have hl_l:l.length≤9223372036854775807:=bdL (hb _ m1)
 clear hp hb
 apply @ve _ (Zi230_2 cs l ((0:Int),())∧∀(y:Int×PUnit),Zi230_2 cs l y→bif decide (y.1<(cs.length:Int)) then(0:Int)≤y.1∧y.1.toNat<cs.length∧bif !holdsC l (List.getD cs y.1.toNat zCond) then Lb false (holdAll cs l) else Zi230_2 cs l (IntKind.wrap IntKind.i64 (y.1+(1:Int)),())∧Zm230_2 cs l (IntKind.wrap IntKind.i64 (y.1+(1:Int)),())<Zm230_2 cs l y else Lb true (holdAll cs l)) (by kernel_rfl)
 refine⟨⟨by omega,by omega,rfl⟩,?_⟩
 rintro⟨i,⟨⟩⟩ ⟨h1,h2,hR⟩
 simp only
 refine if_dec (fun hc=> ?_) (fun hc=> ?_)
 ·rw[all_step _ _ zCond h1 hc] at hR
  rw[wrap_i64 (by omega) (by omega)]
  refine⟨by omega,by omega,if_not (fun g=>Lf_ff (by rw[←hR,g];rfl)) (fun g=>⟨⟨by omega,by omega,by rw[←hR,g,zck]⟩,by simp only[Zm230_2];omega⟩)⟩
 ·rw[drop_end _ (by omega)] at hR
  exact Lf_tt hR.symm
def Zh230:HH:=⟨_,Zo230⟩
def Zk231:Con UU where
 α:=DPat×DFact×(List DBind)
 md:=[.ro,.ro,.ro]
 of:=oC (oA .ePat) (oC (oA .eFact) (o1 (oL .eBind)))
 ds:=fun x=>[dA .ePat x.1,dA .eFact x.2.1,dL .eBind x.2.2]
 pre:=fun(p,f,l)=>[l.length+p.Args.length≤4294967295]
 res:=fun(p,f,l)=>⟨[dL .eBind ((matchP p f l).getD l),dO ((matchP p f l).isSome)],true,[]⟩
 law:=lC (lA .ePat) (lC (lA .eFact) (l1 (lL .eBind)))
def Zi231_5(p:DPat)(f:DFact)(l:(List DBind)):List DBind×Int×(ByteArray×List DArg×Bool×Unit)×(ByteArray×List DVal×Unit)×Unit→Prop:=fun(o,i,b,g,_)=>b=(p.Kind,p.Args,p.Not,())∧g=(f.Kind,f.Fields,())∧0≤i∧i≤p.Args.length∧o.length≤l.length+i∧matchArgs (p.Args.drop i.toNat) (f.Fields.drop i.toNat) o=matchP p f l
def Zm231_5(p:DPat)(f:DFact)(l:(List DBind)):List DBind×Int×(ByteArray×List DArg×Bool×Unit)×(ByteArray×List DVal×Unit)×Unit→Nat:=fun(o,i,b,g,_)=>p.Args.length-i.toNat
def Za231:Zk231.α→Nat→Option (Ann UU):=fun(p,f,l)=>annL [(5,annOf [.slot 8 (8,1024) (.own .eBind true),.slot 9 (9,1024) (.lit (.int .i64)),.box 3 (3,1024) [.lit .str,.shr .eArg,.lit .bool],.box 4 (4,1024) [.lit .str,.shr .eVal]] (fun _=>Zi231_5 p f l) (Zm231_5 p f l))]
def Zu231:=us [Zh275]
theorem Zo231:Holds EE (231,Zk231):=by
 refine holds_of EE_ok func231 Zk231 (by kernel_rfl) Zu231 (us_ok _) Za231 (fun x hp hb=> ?_)
 obtain⟨p,f,l⟩:=x
 have hz0:=bd_ePat (x:=p) (hb _ m0)
 have hl_p_Kind:=hz0.1
 have hl_p_Args:=hz0.2
 have hz1:=bd_eFact (x:=f) (hb _ m1)
 have hl_f_Kind:=hz1.1
 have hl_f_Fields:=hz1.2
 have hl_l:l.length≤9223372036854775807:=bdL (hb _ m2)
 have hp0:l.length+p.Args.length≤4294967295:=hp _ m0
 clear hp hb
 apply @ve _ ((0:Nat)+l.length≤(4294967296:Nat)∧bif !ByteArray.toList p.Kind==ByteArray.toList f.Kind then Lf [VL .eBind ([]++l),VB false] [VL .eBind (Option.getD (matchP p f l) l),VB (Option.isSome (matchP p f l))] else bif (p.Args.length:Int) !=(f.Fields.length:Int) then Lf [VL .eBind ([]++l),VB false] [VL .eBind (Option.getD (matchP p f l) l),VB (Option.isSome (matchP p f l))] else Zi231_5 p f l ([]++l,(0:Int),(p.Kind,p.Args,p.Not,()),(f.Kind,f.Fields,()),())∧∀(y:List DBind×Int×(ByteArray×List DArg×Bool×PUnit)×(ByteArray×List DVal×PUnit)×PUnit),let x3:Nat:=y.2.1.toNat;let x5:Nat:=y.2.2.1.2.1.length;let x0:DVal:=List.getD y.2.2.2.1.2.1 x3 zVal;let x2:DArg:=List.getD y.2.2.1.2.1 x3 zArg;let x4:Int:=(↑x5:Int);let x1:DVal:=x2.V;Zi231_5 p f l y→bif decide (y.2.1<x4) then(0:Int)≤y.2.1∧x3<x5∧bif x2.K==(2:Int) then(0:Int)≤y.2.1∧x3<y.2.2.2.1.2.1.length∧bif !(x1.K==x0.K&&(x1.N==x0.N&&(ByteArray.toList x1.S==ByteArray.toList x0.S&&true))) then(0:Nat)+l.length≤(4294967296:Nat)∧Lf [VL .eBind ([]++l),VB false] [VL .eBind (Option.getD (matchP p f l) l),VB (Option.isSome (matchP p f l))] else bif x2.K==(1:Int) then bif (bindOf {τ:=Cd.eBind,xs:=y.1:Arr UU}.xs x2.S).2 then(0:Int)≤y.2.1∧x3<y.2.2.2.1.2.1.length∧bif !((bindOf {τ:=Cd.eBind,xs:=y.1:Arr UU}.xs x2.S).1.K==x0.K&&((bindOf {τ:=Cd.eBind,xs:=y.1:Arr UU}.xs x2.S).1.N==x0.N&&(ByteArray.toList (bindOf {τ:=Cd.eBind,xs:=y.1:Arr UU}.xs x2.S).1.S==ByteArray.toList x0.S&&true))) then(0:Nat)+l.length≤(4294967296:Nat)∧Lf [VL .eBind ([]++l),VB false] [VL .eBind (Option.getD (matchP p f l) l),VB (Option.isSome (matchP p f l))] else bif x2.K==(1:Int) then bif !(bindOf {τ:=Cd.eBind,xs:=y.1:Arr UU}.xs x2.S).2 then(0:Int)≤y.2.1∧x3<y.2.2.2.1.2.1.length∧y.1.length+List.length [{Name:=x2.S,V:=x0:DBind}]≤(4294967296:Nat)∧Zi231_5 p f l (y.1++[{Name:=x2.S,V:=x0:DBind}],IntKind.wrap IntKind.i64 (y.2.1+(1:Int)),(y.2.2.1.1,y.2.2.1.2.1,y.2.2.1.2.2.1,()),(y.2.2.2.1.1,y.2.2.2.1.2.1,()),())∧Zm231_5 p f l (y.1++[{Name:=x2.S,V:=x0:DBind}],IntKind.wrap IntKind.i64 (y.2.1+(1:Int)),(y.2.2.1.1,y.2.2.1.2.1,y.2.2.1.2.2.1,()),(y.2.2.2.1.1,y.2.2.2.1.2.1,()),())<Zm231_5 p f l y else Zi231_5 p f l (y.1,IntKind.wrap IntKind.i64 (y.2.1+(1:Int)),(y.2.2.1.1,y.2.2.1.2.1,y.2.2.1.2.2.1,()),(y.2.2.2.1.1,y.2.2.2.1.2.1,()),())∧Zm231_5 p f l (y.1,IntKind.wrap IntKind.i64 (y.2.1+(1:Int)),(y.2.2.1.1,y.2.2.1.2.1,y.2.2.1.2.2.1,()),(y.2.2.2.1.1,y.2.2.2.1.2.1,()),())<Zm231_5 p f l y else Zi231_5 p f l (y.1,IntKind.wrap IntKind.i64 (y.2.1+(1:Int)),(y.2.2.1.1,y.2.2.1.2.1,y.2.2.1.2.2.1,()),(y.2.2.2.1.1,y.2.2.2.1.2.1,()),())∧Zm231_5 p f l (y.1,IntKind.wrap IntKind.i64 (y.2.1+(1:Int)),(y.2.2.1.1,y.2.2.1.2.1,y.2.2.1.2.2.1,()),(y.2.2.2.1.1,y.2.2.2.1.2.1,()),())<Zm231_5 p f l y else bif x2.K==(1:Int) then bif !(bindOf {τ:=Cd.eBind,xs:=y.1:Arr UU}.xs x2.S).2 then(0:Int)≤y.2.1∧x3<y.2.2.2.1.2.1.length∧y.1.length+List.length [{Name:=x2.S,V:=x0:DBind}]≤(4294967296:Nat)∧Zi231_5 p f l (y.1++[{Name:=x2.S,V:=x0:DBind}],IntKind.wrap IntKind.i64 (y.2.1+(1:Int)),(y.2.2.1.1,y.2.2.1.2.1,y.2.2.1.2.2.1,()),(y.2.2.2.1.1,y.2.2.2.1.2.1,()),())∧Zm231_5 p f l (y.1++[{Name:=x2.S,V:=x0:DBind}],IntKind.wrap IntKind.i64 (y.2.1+(1:Int)),(y.2.2.1.1,y.2.2.1.2.1,y.2.2.1.2.2.1,()),(y.2.2.2.1.1,y.2.2.2.1.2.1,()),())<Zm231_5 p f l y else Zi231_5 p f l (y.1,IntKind.wrap IntKind.i64 (y.2.1+(1:Int)),(y.2.2.1.1,y.2.2.1.2.1,y.2.2.1.2.2.1,()),(y.2.2.2.1.1,y.2.2.2.1.2.1,()),())∧Zm231_5 p f l (y.1,IntKind.wrap IntKind.i64 (y.2.1+(1:Int)),(y.2.2.1.1,y.2.2.1.2.1,y.2.2.1.2.2.1,()),(y.2.2.2.1.1,y.2.2.2.1.2.1,()),())<Zm231_5 p f l y else Zi231_5 p f l (y.1,IntKind.wrap IntKind.i64 (y.2.1+(1:Int)),(y.2.2.1.1,y.2.2.1.2.1,y.2.2.1.2.2.1,()),(y.2.2.2.1.1,y.2.2.2.1.2.1,()),())∧Zm231_5 p f l (y.1,IntKind.wrap IntKind.i64 (y.2.1+(1:Int)),(y.2.2.1.1,y.2.2.1.2.1,y.2.2.1.2.2.1,()),(y.2.2.2.1.1,y.2.2.2.1.2.1,()),())<Zm231_5 p f l y else bif x2.K==(1:Int) then bif !(bindOf {τ:=Cd.eBind,xs:=y.1:Arr UU}.xs x2.S).2 then(0:Int)≤y.2.1∧x3<y.2.2.2.1.2.1.length∧y.1.length+List.length [{Name:=x2.S,V:=x0:DBind}]≤(4294967296:Nat)∧Zi231_5 p f l (y.1++[{Name:=x2.S,V:=x0:DBind}],IntKind.wrap IntKind.i64 (y.2.1+(1:Int)),(y.2.2.1.1,y.2.2.1.2.1,y.2.2.1.2.2.1,()),(y.2.2.2.1.1,y.2.2.2.1.2.1,()),())∧Zm231_5 p f l (y.1++[{Name:=x2.S,V:=x0:DBind}],IntKind.wrap IntKind.i64 (y.2.1+(1:Int)),(y.2.2.1.1,y.2.2.1.2.1,y.2.2.1.2.2.1,()),(y.2.2.2.1.1,y.2.2.2.1.2.1,()),())<Zm231_5 p f l y else Zi231_5 p f l (y.1,IntKind.wrap IntKind.i64 (y.2.1+(1:Int)),(y.2.2.1.1,y.2.2.1.2.1,y.2.2.1.2.2.1,()),(y.2.2.2.1.1,y.2.2.2.1.2.1,()),())∧Zm231_5 p f l (y.1,IntKind.wrap IntKind.i64 (y.2.1+(1:Int)),(y.2.2.1.1,y.2.2.1.2.1,y.2.2.1.2.2.1,()),(y.2.2.2.1.1,y.2.2.2.1.2.1,()),())<Zm231_5 p f l y else Zi231_5 p f l (y.1,IntKind.wrap IntKind.i64 (y.2.1+(1:Int)),(y.2.2.1.1,y.2.2.1.2.1,y.2.2.1.2.2.1,()),(y.2.2.2.1.1,y.2.2.2.1.2.1,()),())∧Zm231_5 p f l (y.1,IntKind.wrap IntKind.i64 (y.2.1+(1:Int)),(y.2.2.1.1,y.2.2.1.2.1,y.2.2.1.2.2.1,()),(y.2.2.2.1.1,y.2.2.2.1.2.1,()),())<Zm231_5 p f l y else bif x2.K==(1:Int) then bif (bindOf {τ:=Cd.eBind,xs:=y.1:Arr UU}.xs x2.S).2 then(0:Int)≤y.2.1∧x3<y.2.2.2.1.2.1.length∧bif !((bindOf {τ:=Cd.eBind,xs:=y.1:Arr UU}.xs x2.S).1.K==x0.K&&((bindOf {τ:=Cd.eBind,xs:=y.1:Arr UU}.xs x2.S).1.N==x0.N&&(ByteArray.toList (bindOf {τ:=Cd.eBind,xs:=y.1:Arr UU}.xs x2.S).1.S==ByteArray.toList x0.S&&true))) then(0:Nat)+l.length≤(4294967296:Nat)∧Lf [VL .eBind ([]++l),VB false] [VL .eBind (Option.getD (matchP p f l) l),VB (Option.isSome (matchP p f l))] else bif x2.K==(1:Int) then bif !(bindOf {τ:=Cd.eBind,xs:=y.1:Arr UU}.xs x2.S).2 then(0:Int)≤y.2.1∧x3<y.2.2.2.1.2.1.length∧y.1.length+List.length [{Name:=x2.S,V:=x0:DBind}]≤(4294967296:Nat)∧Zi231_5 p f l (y.1++[{Name:=x2.S,V:=x0:DBind}],IntKind.wrap IntKind.i64 (y.2.1+(1:Int)),(y.2.2.1.1,y.2.2.1.2.1,y.2.2.1.2.2.1,()),(y.2.2.2.1.1,y.2.2.2.1.2.1,()),())∧Zm231_5 p f l (y.1++[{Name:=x2.S,V:=x0:DBind}],IntKind.wrap IntKind.i64 (y.2.1+(1:Int)),(y.2.2.1.1,y.2.2.1.2.1,y.2.2.1.2.2.1,()),(y.2.2.2.1.1,y.2.2.2.1.2.1,()),())<Zm231_5 p f l y else Zi231_5 p f l (y.1,IntKind.wrap IntKind.i64 (y.2.1+(1:Int)),(y.2.2.1.1,y.2.2.1.2.1,y.2.2.1.2.2.1,()),(y.2.2.2.1.1,y.2.2.2.1.2.1,()),())∧Zm231_5 p f l (y.1,IntKind.wrap IntKind.i64 (y.2.1+(1:Int)),(y.2.2.1.1,y.2.2.1.2.1,y.2.2.1.2.2.1,()),(y.2.2.2.1.1,y.2.2.2.1.2.1,()),())<Zm231_5 p f l y else Zi231_5 p f l (y.1,IntKind.wrap IntKind.i64 (y.2.1+(1:Int)),(y.2.2.1.1,y.2.2.1.2.1,y.2.2.1.2.2.1,()),(y.2.2.2.1.1,y.2.2.2.1.2.1,()),())∧Zm231_5 p f l (y.1,IntKind.wrap IntKind.i64 (y.2.1+(1:Int)),(y.2.2.1.1,y.2.2.1.2.1,y.2.2.1.2.2.1,()),(y.2.2.2.1.1,y.2.2.2.1.2.1,()),())<Zm231_5 p f l y else bif x2.K==(1:Int) then bif !(bindOf {τ:=Cd.eBind,xs:=y.1:Arr UU}.xs x2.S).2 then(0:Int)≤y.2.1∧x3<y.2.2.2.1.2.1.length∧y.1.length+List.length [{Name:=x2.S,V:=x0:DBind}]≤(4294967296:Nat)∧Zi231_5 p f l (y.1++[{Name:=x2.S,V:=x0:DBind}],IntKind.wrap IntKind.i64 (y.2.1+(1:Int)),(y.2.2.1.1,y.2.2.1.2.1,y.2.2.1.2.2.1,()),(y.2.2.2.1.1,y.2.2.2.1.2.1,()),())∧Zm231_5 p f l (y.1++[{Name:=x2.S,V:=x0:DBind}],IntKind.wrap IntKind.i64 (y.2.1+(1:Int)),(y.2.2.1.1,y.2.2.1.2.1,y.2.2.1.2.2.1,()),(y.2.2.2.1.1,y.2.2.2.1.2.1,()),())<Zm231_5 p f l y else Zi231_5 p f l (y.1,IntKind.wrap IntKind.i64 (y.2.1+(1:Int)),(y.2.2.1.1,y.2.2.1.2.1,y.2.2.1.2.2.1,()),(y.2.2.2.1.1,y.2.2.2.1.2.1,()),())∧Zm231_5 p f l (y.1,IntKind.wrap IntKind.i64 (y.2.1+(1:Int)),(y.2.2.1.1,y.2.2.1.2.1,y.2.2.1.2.2.1,()),(y.2.2.2.1.1,y.2.2.2.1.2.1,()),())<Zm231_5 p f l y else Zi231_5 p f l (y.1,IntKind.wrap IntKind.i64 (y.2.1+(1:Int)),(y.2.2.1.1,y.2.2.1.2.1,y.2.2.1.2.2.1,()),(y.2.2.2.1.1,y.2.2.2.1.2.1,()),())∧Zm231_5 p f l (y.1,IntKind.wrap IntKind.i64 (y.2.1+(1:Int)),(y.2.2.1.1,y.2.2.1.2.1,y.2.2.1.2.2.1,()),(y.2.2.2.1.1,y.2.2.2.1.2.1,()),())<Zm231_5 p f l y else bif x2.K==(1:Int) then bif !(bindOf {τ:=Cd.eBind,xs:=y.1:Arr UU}.xs x2.S).2 then(0:Int)≤y.2.1∧x3<y.2.2.2.1.2.1.length∧y.1.length+List.length [{Name:=x2.S,V:=x0:DBind}]≤(4294967296:Nat)∧Zi231_5 p f l (y.1++[{Name:=x2.S,V:=x0:DBind}],IntKind.wrap IntKind.i64 (y.2.1+(1:Int)),(y.2.2.1.1,y.2.2.1.2.1,y.2.2.1.2.2.1,()),(y.2.2.2.1.1,y.2.2.2.1.2.1,()),())∧Zm231_5 p f l (y.1++[{Name:=x2.S,V:=x0:DBind}],IntKind.wrap IntKind.i64 (y.2.1+(1:Int)),(y.2.2.1.1,y.2.2.1.2.1,y.2.2.1.2.2.1,()),(y.2.2.2.1.1,y.2.2.2.1.2.1,()),())<Zm231_5 p f l y else Zi231_5 p f l (y.1,IntKind.wrap IntKind.i64 (y.2.1+(1:Int)),(y.2.2.1.1,y.2.2.1.2.1,y.2.2.1.2.2.1,()),(y.2.2.2.1.1,y.2.2.2.1.2.1,()),())∧Zm231_5 p f l (y.1,IntKind.wrap IntKind.i64 (y.2.1+(1:Int)),(y.2.2.1.1,y.2.2.1.2.1,y.2.2.1.2.2.1,()),(y.2.2.2.1.1,y.2.2.2.1.2.1,()),())<Zm231_5 p f l y else Zi231_5 p f l (y.1,IntKind.wrap IntKind.i64 (y.2.1+(1:Int)),(y.2.2.1.1,y.2.2.1.2.1,y.2.2.1.2.2.1,()),(y.2.2.2.1.1,y.2.2.2.1.2.1,()),())∧Zm231_5 p f l (y.1,IntKind.wrap IntKind.i64 (y.2.1+(1:Int)),(y.2.2.1.1,y.2.2.1.2.1,y.2.2.1.2.2.1,()),(y.2.2.2.1.1,y.2.2.2.1.2.1,()),())<Zm231_5 p f l y else Lf [VL .eBind y.1,VB true] [VL .eBind (Option.getD (matchP p f l) l),VB (Option.isSome (matchP p f l))]) (by kernel_rfl)
 dsimp only
 have hF:matchP p f l=none→Lf [.one (.sl .eBind l),.one (.lit (.bool false))] [.one (.sl .eBind ((matchP p f l).getD l)),.one (.lit (.bool (matchP p f l).isSome))]:=fun e=>by rw[e];exact Lf_rfl _
 refine⟨by show 0+l.length≤_;omega,if_strn (fun hk=>hF (if_neg (fun e=>hk e.1.symm))) (fun hk=>if_neq (fun hl=>hF (if_neg (by omega))) (fun hl=> ?_))⟩
 have hl:f.Fields.length=p.Args.length:=by omega
 have hM:matchP p f l=matchArgs p.Args f.Fields l:=if_pos ⟨hk.symm,hl⟩
 refine⟨⟨rfl,rfl,by omega,by omega,by show((l.length:Nat):Int)≤_;omega,hM.symm⟩,?_⟩
 rintro⟨o,i,⟨b1,b2,b3,⟨⟩⟩,⟨g1,g2,⟨⟩⟩,⟨⟩⟩
 rintro⟨hb,hg,h1,h2,h3,hR⟩
 cases hb
 cases hg
 refine if_dec (fun hc=> ?_) (fun hc=> ?_)
 ·have hc:i<p.Args.length:=hc
  rw[matchArgs_step o h1 hc hl] at hR
  have hN:matchStep o (List.getD p.Args i.toNat zArg) (List.getD f.Fields i.toNat zVal)=none→matchP p f l=none:=fun e=>by rw[←hR,e]
  have hS:∀o',matchStep o (List.getD p.Args i.toNat zArg) (List.getD f.Fields i.toNat zVal)=some o'→matchArgs (p.Args.drop (i+1).toNat) (f.Fields.drop (i+1).toNat) o'=matchP p f l:=fun o' e=>by rw[←hR,e]
  clear hR
  have hs:∀o',o'.length≤o.length+1→matchStep o (List.getD p.Args i.toNat zArg) (List.getD f.Fields i.toNat zVal)=some o'→Zi231_5 p f l (o',IntKind.wrap .i64 (i+1),(p.Kind,p.Args,p.Not,()),(f.Kind,f.Fields,()),())∧Zm231_5 p f l (o',IntKind.wrap .i64 (i+1),(p.Kind,p.Args,p.Not,()),(f.Kind,f.Fields,()),())<Zm231_5 p f l (o,i,(p.Kind,p.Args,p.Not,()),(f.Kind,f.Fields,()),()):=fun o' h4 e=>by
   rw[wrap_i64 (by omega) (by omega)]
   exact⟨⟨rfl,rfl,by omega,by omega,by omega,hS o' e⟩,by simp only[Zm231_5];omega⟩
  clear hS
  have q1:(0:Int)≤i∧i.toNat<p.Args.length:=by omega
  have q2:(0:Int)≤i∧i.toNat<f.Fields.length:=by omega
  have q3:l.length≤4294967296:=by omega
  have q4:o.length+1≤4294967296:=by omega
  have q5:(0:Nat)+l.length≤4294967296:=by omega
  refine⟨q1.1,q1.2,?_⟩
  repeat' (first|refine And.intro q2.1 (And.intro q2.2 ?_)|refine And.intro q5 ?_|refine And.intro q4 ?_|refine if_num (fun _=> ?_) (fun _=> ?_)|refine if_valn (fun _=> ?_) (fun _=> ?_)|refine if_not (fun _=> ?_) (fun _=> ?_)|refine if_cond (fun _=> ?_) (fun _=> ?_))
  all_goals first|exact hF (hN (by(try simp only at*);simp only[matchStep];grind))|exact hs _ (by simp) (by(try simp only at*);simp only[matchStep];grind)
 ·rw[drop_end p.Args (by have hc:¬i<p.Args.length:=hc;omega)] at hR
  have hR:matchP p f l=some o:=hR.symm
  rw[hR];exact Lf_rfl _
def Zh231:HH:=⟨_,Zo231⟩
def Zk235:Con UU where
 α:=DPat×DFact×(List DBind)
 md:=[.ro,.ro,.ro]
 of:=oC (oA .ePat) (oC (oA .eFact) (o1 (oL .eBind)))
 ds:=fun x=>[dA .ePat x.1,dA .eFact x.2.1,dL .eBind x.2.2]
 pre:=fun(p,f,l)=>[l.length+p.Args.length≤4294967295]
 res:=fun(p,f,l)=>⟨[dL .eBind ((matchP p f l).getD l),dO ((matchP p f l).isSome)],true,[]⟩
 law:=lC (lA .ePat) (lC (lA .eFact) (l1 (lL .eBind)))
def Zi235_5(p:DPat)(f:DFact)(l:(List DBind)):List DBind×Int×(ByteArray×List DVal×Unit)×Unit→Prop:=fun(o,i,g,_)=>g=(f.Kind,f.Fields,())∧0≤i∧i≤p.Args.length∧o.length≤l.length+i∧matchArgs (p.Args.drop i.toNat) (f.Fields.drop i.toNat) o=matchP p f l
def Zm235_5(p:DPat)(f:DFact)(l:(List DBind)):List DBind×Int×(ByteArray×List DVal×Unit)×Unit→Nat:=fun(o,i,g,_)=>p.Args.length-i.toNat
def Za235:Zk235.α→Nat→Option (Ann UU):=fun(p,f,l)=>annL [(5,annOf [.slot 8 (8,1024) (.own .eBind true),.slot 35 (35,1024) (.lit (.int .i64)),.box 4 (4,1024) [.lit .str,.shr .eVal]] (fun _=>Zi235_5 p f l) (Zm235_5 p f l))]
def Zu235:=us [Zh278,Zh212]
theorem Zo235:Holds EE (235,Zk235):=by
 refine holds_of EE_ok func235 Zk235 (by kernel_rfl) Zu235 (us_ok _) Za235 (fun x hp hb=> ?_)
 obtain⟨p,f,l⟩:=x
 have hz0:=bd_ePat (x:=p) (hb _ m0)
 have hl_p_Kind:=hz0.1
 have hl_p_Args:=hz0.2
 have hz1:=bd_eFact (x:=f) (hb _ m1)
 have hl_f_Kind:=hz1.1
 have hl_f_Fields:=hz1.2
 have hl_l:l.length≤9223372036854775807:=bdL (hb _ m2)
 have hp0:l.length+p.Args.length≤4294967295:=hp _ m0
 clear hp hb
 apply @ve _ (let x0:Int:=(p.Args.length:Int);bif !ByteArray.toList f.Kind==ByteArray.toList p.Kind then l.length≤(4294967296:Nat)∧Lf [VL .eBind l,VB false] [VL .eBind (Option.getD (matchP p f l) l),VB (Option.isSome (matchP p f l))] else bif (f.Fields.length:Int) !=x0 then l.length≤(4294967296:Nat)∧Lf [VL .eBind l,VB false] [VL .eBind (Option.getD (matchP p f l) l),VB (Option.isSome (matchP p f l))] else l.length≤(4294967296:Nat)∧Zi235_5 p f l (l,(0:Int),(f.Kind,f.Fields,()),())∧∀(y:List DBind×Int×(ByteArray×List DVal×PUnit)×PUnit),let x2:Nat:=y.2.1.toNat;let x3:DVal:=(List.getD p.Args x2 zArg).V;let x1:DVal:=List.getD y.2.2.1.2.1 x2 zVal;let x4:List DBind:=[{Name:=(List.getD p.Args x2 zArg).S,V:=x1:DBind}];Zi235_5 p f l y→bif decide (y.2.1<x0) then(0:Int)≤y.2.1∧x2<p.Args.length∧(0:Int)≤y.2.1∧x2<y.2.2.1.2.1.length∧bif (List.getD p.Args x2 zArg).K==(2:Int) then bif !(x3.K==x1.K&&(x3.N==x1.N&&(ByteArray.toList x3.S==ByteArray.toList x1.S&&true))) then l.length≤(4294967296:Nat)∧Lf [VL .eBind l,VB false] [VL .eBind (Option.getD (matchP p f l) l),VB (Option.isSome (matchP p f l))] else Zi235_5 p f l (y.1,IntKind.wrap IntKind.i64 (y.2.1+(1:Int)),(y.2.2.1.1,y.2.2.1.2.1,()),())∧Zm235_5 p f l (y.1,IntKind.wrap IntKind.i64 (y.2.1+(1:Int)),(y.2.2.1.1,y.2.2.1.2.1,()),())<Zm235_5 p f l y else bif (List.getD p.Args x2 zArg).K==(1:Int) then bif (bindOf {τ:=Cd.eBind,xs:=y.1:Arr UU}.xs (List.getD p.Args x2 zArg).S).2 then bif !((bindOf {τ:=Cd.eBind,xs:=y.1:Arr UU}.xs (List.getD p.Args x2 zArg).S).1.K==x1.K&&((bindOf {τ:=Cd.eBind,xs:=y.1:Arr UU}.xs (List.getD p.Args x2 zArg).S).1.N==x1.N&&(ByteArray.toList (bindOf {τ:=Cd.eBind,xs:=y.1:Arr UU}.xs (List.getD p.Args x2 zArg).S).1.S==ByteArray.toList x1.S&&true))) then l.length≤(4294967296:Nat)∧Lf [VL .eBind l,VB false] [VL .eBind (Option.getD (matchP p f l) l),VB (Option.isSome (matchP p f l))] else bif !(bindOf {τ:=Cd.eBind,xs:=y.1:Arr UU}.xs (List.getD p.Args x2 zArg).S).2 then y.1.length+x4.length≤(4294967296:Nat)∧Zi235_5 p f l (y.1++x4,IntKind.wrap IntKind.i64 (y.2.1+(1:Int)),(y.2.2.1.1,y.2.2.1.2.1,()),())∧Zm235_5 p f l (y.1++x4,IntKind.wrap IntKind.i64 (y.2.1+(1:Int)),(y.2.2.1.1,y.2.2.1.2.1,()),())<Zm235_5 p f l y else Zi235_5 p f l (y.1,IntKind.wrap IntKind.i64 (y.2.1+(1:Int)),(y.2.2.1.1,y.2.2.1.2.1,()),())∧Zm235_5 p f l (y.1,IntKind.wrap IntKind.i64 (y.2.1+(1:Int)),(y.2.2.1.1,y.2.2.1.2.1,()),())<Zm235_5 p f l y else bif !(bindOf {τ:=Cd.eBind,xs:=y.1:Arr UU}.xs (List.getD p.Args x2 zArg).S).2 then y.1.length+x4.length≤(4294967296:Nat)∧Zi235_5 p f l (y.1++x4,IntKind.wrap IntKind.i64 (y.2.1+(1:Int)),(y.2.2.1.1,y.2.2.1.2.1,()),())∧Zm235_5 p f l (y.1++x4,IntKind.wrap IntKind.i64 (y.2.1+(1:Int)),(y.2.2.1.1,y.2.2.1.2.1,()),())<Zm235_5 p f l y else Zi235_5 p f l (y.1,IntKind.wrap IntKind.i64 (y.2.1+(1:Int)),(y.2.2.1.1,y.2.2.1.2.1,()),())∧Zm235_5 p f l (y.1,IntKind.wrap IntKind.i64 (y.2.1+(1:Int)),(y.2.2.1.1,y.2.2.1.2.1,()),())<Zm235_5 p f l y else Zi235_5 p f l (y.1,IntKind.wrap IntKind.i64 (y.2.1+(1:Int)),(y.2.2.1.1,y.2.2.1.2.1,()),())∧Zm235_5 p f l (y.1,IntKind.wrap IntKind.i64 (y.2.1+(1:Int)),(y.2.2.1.1,y.2.2.1.2.1,()),())<Zm235_5 p f l y else Lf [VL .eBind y.1,VB true] [VL .eBind (Option.getD (matchP p f l) l),VB (Option.isSome (matchP p f l))]) (by kernel_rfl)
 dsimp only
 have hF:matchP p f l=none→Lf [.one (.sl .eBind l),.one (.lit (.bool false))] [.one (.sl .eBind ((matchP p f l).getD l)),.one (.lit (.bool (matchP p f l).isSome))]:=fun e=>by rw[e];exact Lf_rfl _
 simp only[val_beq]
 simp only[toList_beq]
 refine if_not (fun hk=>⟨by omega,hF (if_neg (fun e=>(of_decide_eq_false hk) e.1))⟩) (fun hk=>if_neq (fun hl=>⟨by omega,hF (if_neg (by omega))⟩) (fun hl=>⟨by omega,?_⟩))
 have hk:=of_decide_eq_true hk
 have hl:f.Fields.length=p.Args.length:=by omega
 have hM:matchP p f l=matchArgs p.Args f.Fields l:=if_pos ⟨hk,hl⟩
 refine⟨⟨rfl,by omega,by omega,by omega,hM.symm⟩,?_⟩
 rintro⟨o,i,⟨g1,g2,⟨⟩⟩,⟨⟩⟩ ⟨hg,h1,h2,h3,hR⟩
 cases hg
 simp only
 refine if_dec (fun hc=> ?_) (fun hc=> ?_)
 ·rw[matchArgs_step o h1 hc hl] at hR
  have hN:matchStep o (List.getD p.Args i.toNat zArg) (List.getD f.Fields i.toNat zVal)=none→matchP p f l=none:=fun e=>by rw[←hR,e]
  have hS:∀o',matchStep o (List.getD p.Args i.toNat zArg) (List.getD f.Fields i.toNat zVal)=some o'→matchArgs (p.Args.drop (i+1).toNat) (f.Fields.drop (i+1).toNat) o'=matchP p f l:=fun o' e=>by rw[←hR,e]
  clear hR
  generalize List.getD p.Args i.toNat zArg=a at*
  generalize List.getD f.Fields i.toNat zVal=v at*
  rw[wrap_i64 (by omega) (by omega)]
  simp only[zbq,zbo]
  have hs:∀o',o'.length≤o.length+1→matchStep o a v=some o'→Zi235_5 p f l (o',i+1,(f.Kind,f.Fields,()),())∧Zm235_5 p f l (o',i+1,(f.Kind,f.Fields,()),())<Zm235_5 p f l (o,i,(f.Kind,f.Fields,()),()):=fun o' h4 e=>⟨⟨rfl,by omega,by omega,by omega,hS o' e⟩,by simp only[Zm235_5];omega⟩
  clear hS
  refine⟨by omega,by omega,by omega,by omega,?_⟩
  repeat' (first|refine And.intro (by omega) ?_|refine if_num (fun _=> ?_) (fun _=> ?_)|refine if_not (fun _=> ?_) (fun _=> ?_)|refine if_cond (fun _=> ?_) (fun _=> ?_))
  all_goals first|exact hF (hN (by simp only[matchStep];grind))|exact hs _ (by simp) (by simp only[matchStep];grind)
 ·rw[drop_end p.Args (by omega)] at hR
  have hR:matchP p f l=some o:=hR.symm
  rw[hR];exact Lf_rfl _
def Zh235:HH:=⟨_,Zo235⟩
def Zk276:Con UU where
 α:=DPat×DStore×(List DBind)
 md:=[.ro,.ro,.ro]
 of:=oC (oA .ePat) (oC (oA .eStore) (o1 (oL .eBind)))
 ds:=fun x=>[dA .ePat x.1,dA .eStore x.2.1,dL .eBind x.2.2]
 pre:=fun(p,s,l)=>[l.length+p.Args.length≤4294967295]
 res:=fun(p,s,l)=>⟨[dI (hits p s.Items l:Int)],true,[]⟩
 law:=lC (lA .ePat) (lC (lA .eStore) (l1 (lL .eBind)))
def Zi276_3(p:DPat)(s:DStore)(l:(List DBind)):Int×Int×(ByteArray×List DArg×Bool×Unit)×Unit→Prop:=fun(n,i,b,_)=>b=(p.Kind,p.Args,p.Not,())∧0≤i∧i≤s.Items.length∧n=hits p (s.Items.take i.toNat) l
def Zm276_3(p:DPat)(s:DStore)(l:(List DBind)):Int×Int×(ByteArray×List DArg×Bool×Unit)×Unit→Nat:=fun(n,i,b,_)=>s.Items.length-i.toNat
def Za276:Zk276.α→Nat→Option (Ann UU):=fun(p,s,l)=>annL [(3,annOf [.slot 7 (7,1024) (.lit (.int .i64)),.slot 15 (15,1024) (.lit (.int .i64)),.box 3 (3,1024) [.lit .str,.shr .eArg,.lit .bool]] (fun _=>Zi276_3 p s l) (Zm276_3 p s l))]
def Zu276:=us [Zh235]
theorem Zo276:Holds EE (276,Zk276):=by
 refine holds_of EE_ok func276 Zk276 (by kernel_rfl) Zu276 (us_ok _) Za276 (fun x hp hb=> ?_)
 obtain⟨p,s,l⟩:=x
 have hz0:=bd_ePat (x:=p) (hb _ m0)
 have hl_p_Kind:=hz0.1
 have hl_p_Args:=hz0.2
 have hl_s_Items:=bd_eStore (x:=s) (hb _ m1)
 have hl_l:l.length≤9223372036854775807:=bdL (hb _ m2)
 have hp0:l.length+p.Args.length≤4294967295:=hp _ m0
 clear hp hb
 apply @ve _ (Zi276_3 p s l ((0:Int),(0:Int),(p.Kind,p.Args,p.Not,()),())∧∀(y:Int×Int×(ByteArray×List DArg×Bool×PUnit)×PUnit),let x0:Nat:=y.2.1.toNat;Zi276_3 p s l y→bif decide (y.2.1<(s.Items.length:Int)) then(0:Int)≤y.2.1∧x0<s.Items.length∧l.length+y.2.2.1.2.1.length≤(4294967295:Nat)∧bif Option.isSome (matchP {Kind:=y.2.2.1.1,Args:=y.2.2.1.2.1,Not:=y.2.2.1.2.2.1:DPat} (List.getD s.Items x0 zItem).F l) then Zi276_3 p s l (IntKind.wrap IntKind.i64 (y.1+(1:Int)),IntKind.wrap IntKind.i64 (y.2.1+(1:Int)),(y.2.2.1.1,y.2.2.1.2.1,y.2.2.1.2.2.1,()),())∧Zm276_3 p s l (IntKind.wrap IntKind.i64 (y.1+(1:Int)),IntKind.wrap IntKind.i64 (y.2.1+(1:Int)),(y.2.2.1.1,y.2.2.1.2.1,y.2.2.1.2.2.1,()),())<Zm276_3 p s l y else Zi276_3 p s l (y.1,IntKind.wrap IntKind.i64 (y.2.1+(1:Int)),(y.2.2.1.1,y.2.2.1.2.1,y.2.2.1.2.2.1,()),())∧Zm276_3 p s l (y.1,IntKind.wrap IntKind.i64 (y.2.1+(1:Int)),(y.2.2.1.1,y.2.2.1.2.1,y.2.2.1.2.2.1,()),())<Zm276_3 p s l y else Li y.1 (↑(hits p s.Items l):Int)) (by kernel_rfl)
 dsimp only
 refine⟨⟨rfl,by omega,by omega,rfl⟩,?_⟩
 rintro⟨n,i,⟨b1,b2,b3,⟨⟩⟩,⟨⟩⟩ ⟨hb,h1,h2,rfl⟩
 cases hb
 simp only
 refine if_dec (fun hc=> ?_) (fun hc=> ?_)
 ·have hs:=hits_step p s.Items l h1 hc
  have hle:=hits_le p s.Items l i.toNat
  rw[wrap_i64 (n:=i+1) (by omega) (by omega),wrap_i64 (n:=(hits p (s.Items.take i.toNat) l:Int)+1) (by omega) (by omega)]
  refine⟨by omega,by omega,hp0,if_cond (fun g=>⟨⟨rfl,by omega,by omega,?_⟩,by simp only[Zm276_3];omega⟩) (fun g=>⟨⟨rfl,by omega,by omega,?_⟩,by simp only[Zm276_3];omega⟩)⟩
  ·rw[hs,if_pos (show hitP p l (List.getD s.Items i.toNat zItem)=true from g)];omega
  ·rw[hs,if_neg (show¬hitP p l (List.getD s.Items i.toNat zItem)=true by rw[show hitP p l (List.getD s.Items i.toNat zItem)=false from g];decide)];omega
 ·rw[take_all s.Items (by omega)]
  exact Lf_rfl _
def Zh276:HH:=⟨_,Zo276⟩
def Zk233:Con UU where
 α:=DRule×DStore×(List DBind)
 md:=[.ro,.ro,.ro]
 of:=oC (oA .eRule) (oC (oA .eStore) (o1 (oL .eBind)))
 ds:=fun x=>[dA .eRule x.1,dA .eStore x.2.1,dL .eBind x.2.2]
 pre:=fun(r,s,l)=>[∀p,p∈r.Pats→l.length+p.Args.length≤4294967295]
 res:=fun(r,s,l)=>⟨[dO (blockedR r s.Items l)],true,[]⟩
 law:=lC (lA .eRule) (lC (lA .eStore) (l1 (lL .eBind)))
def Zi233_2(r:DRule)(s:DStore)(l:(List DBind)):Int×(List DItem×Int×Unit)×Unit→Prop:=fun(i,g,_)=>g=(s.Items,s.Next,())∧0≤i∧i≤r.Pats.length∧(r.Pats.drop i.toNat).any (blockP s.Items l)=blockedR r s.Items l
def Zm233_2(r:DRule)(s:DStore)(l:(List DBind)):Int×(List DItem×Int×Unit)×Unit→Nat:=fun(i,g,_)=>r.Pats.length-i.toNat
def Za233:Zk233.α→Nat→Option (Ann UU):=fun(r,s,l)=>annL [(2,annOf [.slot 12 (12,1024) (.lit (.int .i64)),.box 4 (4,1024) [.shr .eItem,.lit (.int .i64)]] (fun _=>Zi233_2 r s l) (Zm233_2 r s l))]
def Zu233:=us [Zh276]
theorem Zo233:Holds EE (233,Zk233):=by
 refine holds_of EE_ok func233 Zk233 (by kernel_rfl) Zu233 (us_ok _) Za233 (fun x hp hb=> ?_)
 obtain⟨r,s,l⟩:=x
 have hz0:=bd_eRule (x:=r) (hb _ m0)
 have hl_r_Name:=hz0.1
 have hl_r_Pats:=hz0.2.1
 have hl_r_Conds:=hz0.2.2.1
 have hl_r_Acts:=hz0.2.2.2
 have hl_s_Items:=bd_eStore (x:=s) (hb _ m1)
 have hl_l:l.length≤9223372036854775807:=bdL (hb _ m2)
 have hp0:∀p,p∈r.Pats→l.length+p.Args.length≤4294967295:=hp _ m0
 clear hp hb
 apply @ve _ (Zi233_2 r s l ((0:Int),(s.Items,s.Next,()),())∧∀(y:Int×(List DItem×Int×PUnit)×PUnit),let x1:DPat:=List.getD r.Pats y.1.toNat zPat;let x0:Int:=(↑(hits x1 y.2.1.1 l):Int);Zi233_2 r s l y→bif decide (y.1<(r.Pats.length:Int)) then(0:Int)≤y.1∧y.1.toNat<r.Pats.length∧bif x1.Not then l.length+x1.Args.length≤(4294967295:Nat)∧bif decide (x0>(0:Int)) then Lb true (blockedR r s.Items l) else Zi233_2 r s l (IntKind.wrap IntKind.i64 (y.1+(1:Int)),(y.2.1.1,y.2.1.2.1,()),())∧Zm233_2 r s l (IntKind.wrap IntKind.i64 (y.1+(1:Int)),(y.2.1.1,y.2.1.2.1,()),())<Zm233_2 r s l y else Zi233_2 r s l (IntKind.wrap IntKind.i64 (y.1+(1:Int)),(y.2.1.1,y.2.1.2.1,()),())∧Zm233_2 r s l (IntKind.wrap IntKind.i64 (y.1+(1:Int)),(y.2.1.1,y.2.1.2.1,()),())<Zm233_2 r s l y else Lb false (blockedR r s.Items l)) (by kernel_rfl)
 dsimp only
 refine⟨⟨rfl,by omega,by omega,rfl⟩,?_⟩
 rintro⟨i,⟨g1,g2,⟨⟩⟩,⟨⟩⟩ ⟨hg,h1,h2,hR⟩
 cases hg
 simp only
 refine if_dec (fun hc=> ?_) (fun hc=> ?_)
 ·rw[any_step _ _ zPat h1 hc] at hR
  have hm:List.getD r.Pats i.toNat zPat∈r.Pats:=by rw[zac,zad (by omega)];exact zda _
  have hp:=hp0 _ hm
  have hh:=hits_any (List.getD r.Pats i.toNat zPat) s.Items l
  rw[wrap_i64 (by omega) (by omega)]
  have next:blockP s.Items l (List.getD r.Pats i.toNat zPat)=false→Zi233_2 r s l (i+1,(s.Items,s.Next,()),())∧Zm233_2 r s l (i+1,(s.Items,s.Next,()),())<Zm233_2 r s l (i,(s.Items,s.Next,()),()):=fun e=>⟨⟨rfl,by omega,by omega,by rw[←hR,e,zcw]⟩,by simp only[Zm233_2];omega⟩
  refine⟨by omega,by omega,if_cond (fun g=>⟨hp,if_cond (fun g'=>Lf_tt ?_) (fun g'=>next ?_)⟩) (fun g=>next ?_)⟩
  ·have g':s.Items.any (hitP (List.getD r.Pats i.toNat zPat) l)=true:=hh.symm.trans g'
   rw[←hR,blockP,g,g'];rfl
  ·have g':s.Items.any (hitP (List.getD r.Pats i.toNat zPat) l)=false:=hh.symm.trans g'
   rw[blockP,g'];exact zbs _
  ·rw[blockP,g];rfl
 ·rw[drop_end _ (by omega)] at hR
  exact Lf_ff hR.symm
def Zh233:HH:=⟨_,Zo233⟩
def Zk229:Con UU where
 α:=DRule×DStore×(List DBind)
 md:=[.ro,.ro,.ro]
 of:=oC (oA .eRule) (oC (oA .eStore) (o1 (oL .eBind)))
 ds:=fun x=>[dA .eRule x.1,dA .eStore x.2.1,dL .eBind x.2.2]
 pre:=fun(r,s,l)=>[∀p,p∈r.Pats→l.length+p.Args.length≤4294967295]
 res:=fun(r,s,l)=>⟨[dO (blockedR r s.Items l)],true,[]⟩
 law:=lC (lA .eRule) (lC (lA .eStore) (l1 (lL .eBind)))
def Zi229_2(r:DRule)(s:DStore)(l:(List DBind)):Int×(ByteArray×Int×List DPat×List DCond×List DAct×Unit)×(List DItem×Int×Unit)×Unit→Prop:=fun(i,b,g,_)=>b=(r.Name,r.Sal,r.Pats,r.Conds,r.Acts,())∧g=(s.Items,s.Next,())∧0≤i∧i≤r.Pats.length∧(r.Pats.drop i.toNat).any (blockP s.Items l)=blockedR r s.Items l
def Zm229_2(r:DRule)(s:DStore)(l:(List DBind)):Int×(ByteArray×Int×List DPat×List DCond×List DAct×Unit)×(List DItem×Int×Unit)×Unit→Nat:=fun(i,b,g,_)=>r.Pats.length-i.toNat
def Zi229_5(r:DRule)(s:DStore)(l:(List DBind)):Int×Int×(ByteArray×Int×List DPat×List DCond×List DAct×Unit)×(List DItem×Int×Unit)×Unit→Int×Int×(ByteArray×Int×List DPat×List DCond×List DAct×Unit)×(List DItem×Int×Unit)×Unit→Prop:=fun(i0,k0,b0,g0,_) (i,k,b,g,_)=>i=i0∧b=b0∧g=g0∧0≤k∧k≤s.Items.length∧((List.getD r.Pats i.toNat zPat).Not=false→k=0)∧(s.Items.drop k.toNat).any (hitP (List.getD r.Pats i.toNat zPat) l)=s.Items.any (hitP (List.getD r.Pats i.toNat zPat) l)
def Zm229_5(r:DRule)(s:DStore)(l:(List DBind)):Int×Int×(ByteArray×Int×List DPat×List DCond×List DAct×Unit)×(List DItem×Int×Unit)×Unit→Nat:=fun(i,k,b,g,_)=>s.Items.length-k.toNat
def Za229:Zk229.α→Nat→Option (Ann UU):=fun(r,s,l)=>annL [(2,annOf [.slot 7 (7,1024) (.lit (.int .i64)),.box 3 (3,1024) [.lit .str,.lit (.int .i64),.shr .ePat,.shr .eCond,.shr .eAct],.box 4 (4,1024) [.shr .eItem,.lit (.int .i64)]] (fun _=>Zi229_2 r s l) (Zm229_2 r s l)),(5,annOf [.slot 7 (7,1024) (.lit (.int .i64)),.slot 8 (8,1024) (.lit (.int .i64)),.box 3 (3,1024) [.lit .str,.lit (.int .i64),.shr .ePat,.shr .eCond,.shr .eAct],.box 4 (4,1024) [.shr .eItem,.lit (.int .i64)]] (Zi229_5 r s l) (Zm229_5 r s l))]
def Zu229:=us [Zh231]
theorem Zo229:Holds EE (229,Zk229):=by
 refine holds_of EE_ok func229 Zk229 (by kernel_rfl) Zu229 (us_ok _) Za229 (fun x hp hb=> ?_)
 obtain⟨r,s,l⟩:=x
 have hz0:=bd_eRule (x:=r) (hb _ m0)
 have hl_r_Name:=hz0.1
 have hl_r_Pats:=hz0.2.1
 have hl_r_Conds:=hz0.2.2.1
 have hl_r_Acts:=hz0.2.2.2
 have hl_s_Items:=bd_eStore (x:=s) (hb _ m1)
 have hl_l:l.length≤9223372036854775807:=bdL (hb _ m2)
 have hp0:∀p,p∈r.Pats→l.length+p.Args.length≤4294967295:=hp _ m0
 clear hp hb
 apply @ve _ (Zi229_2 r s l ((0:Int),(r.Name,r.Sal,r.Pats,r.Conds,r.Acts,()),(s.Items,s.Next,()),())∧∀(y:Int×(ByteArray×Int×List DPat×List DCond×List DAct×PUnit)×(List DItem×Int×PUnit)×PUnit),let x0:Int:=(y.2.1.2.2.1.length:Int);Zi229_2 r s l y→bif decide (y.1<x0) then Zi229_5 r s l (y.1,(0:Int),(y.2.1.1,y.2.1.2.1,y.2.1.2.2.1,y.2.1.2.2.2.1,y.2.1.2.2.2.2.1,()),(y.2.2.1.1,y.2.2.1.2.1,()),()) (y.1,(0:Int),(y.2.1.1,y.2.1.2.1,y.2.1.2.2.1,y.2.1.2.2.2.1,y.2.1.2.2.2.2.1,()),(y.2.2.1.1,y.2.2.1.2.1,()),())∧∀(y_1:Int×Int×(ByteArray×Int×List DPat×List DCond×List DAct×PUnit)×(List DItem×Int×PUnit)×PUnit),let x1:DPat:=List.getD y_1.2.2.1.2.2.1 y_1.1.toNat zPat;let x3:Nat:=y_1.2.2.2.1.1.length;let x4:Nat:=y_1.2.1.toNat;let x2:Int:=(↑x3:Int);Zi229_5 r s l (y.1,(0:Int),(y.2.1.1,y.2.1.2.1,y.2.1.2.2.1,y.2.1.2.2.2.1,y.2.1.2.2.2.2.1,()),(y.2.2.1.1,y.2.2.1.2.1,()),()) y_1→bif decide (y_1.2.1<x2) then(0:Int)≤y_1.1∧y_1.1.toNat<y_1.2.2.1.2.2.1.length∧bif x1.Not then(0:Int)≤y_1.1∧y_1.1.toNat<y_1.2.2.1.2.2.1.length∧(0:Int)≤y_1.2.1∧x4<x3∧l.length+x1.Args.length≤(4294967295:Nat)∧bif Option.isSome (matchP x1 (List.getD y_1.2.2.2.1.1 x4 zItem).F l) then Lb true (blockedR r s.Items l) else Zi229_5 r s l (y.1,(0:Int),(y.2.1.1,y.2.1.2.1,y.2.1.2.2.1,y.2.1.2.2.2.1,y.2.1.2.2.2.2.1,()),(y.2.2.1.1,y.2.2.1.2.1,()),()) (y_1.1,IntKind.wrap IntKind.i64 (y_1.2.1+(1:Int)),(y_1.2.2.1.1,y_1.2.2.1.2.1,y_1.2.2.1.2.2.1,y_1.2.2.1.2.2.2.1,y_1.2.2.1.2.2.2.2.1,()),(y_1.2.2.2.1.1,y_1.2.2.2.1.2.1,()),())∧Zm229_5 r s l (y_1.1,IntKind.wrap IntKind.i64 (y_1.2.1+(1:Int)),(y_1.2.2.1.1,y_1.2.2.1.2.1,y_1.2.2.1.2.2.1,y_1.2.2.1.2.2.2.1,y_1.2.2.1.2.2.2.2.1,()),(y_1.2.2.2.1.1,y_1.2.2.2.1.2.1,()),())<Zm229_5 r s l y_1 else Zi229_2 r s l (IntKind.wrap IntKind.i64 (y_1.1+(1:Int)),(y_1.2.2.1.1,y_1.2.2.1.2.1,y_1.2.2.1.2.2.1,y_1.2.2.1.2.2.2.1,y_1.2.2.1.2.2.2.2.1,()),(y_1.2.2.2.1.1,y_1.2.2.2.1.2.1,()),())∧Zm229_2 r s l (IntKind.wrap IntKind.i64 (y_1.1+(1:Int)),(y_1.2.2.1.1,y_1.2.2.1.2.1,y_1.2.2.1.2.2.1,y_1.2.2.1.2.2.2.1,y_1.2.2.1.2.2.2.2.1,()),(y_1.2.2.2.1.1,y_1.2.2.2.1.2.1,()),())<Zm229_2 r s l y else Zi229_2 r s l (IntKind.wrap IntKind.i64 (y_1.1+(1:Int)),(y_1.2.2.1.1,y_1.2.2.1.2.1,y_1.2.2.1.2.2.1,y_1.2.2.1.2.2.2.1,y_1.2.2.1.2.2.2.2.1,()),(y_1.2.2.2.1.1,y_1.2.2.2.1.2.1,()),())∧Zm229_2 r s l (IntKind.wrap IntKind.i64 (y_1.1+(1:Int)),(y_1.2.2.1.1,y_1.2.2.1.2.1,y_1.2.2.1.2.2.1,y_1.2.2.1.2.2.2.1,y_1.2.2.1.2.2.2.2.1,()),(y_1.2.2.2.1.1,y_1.2.2.2.1.2.1,()),())<Zm229_2 r s l y else Lb false (blockedR r s.Items l)) (by kernel_rfl)
 dsimp only
 refine⟨⟨rfl,rfl,by omega,by omega,rfl⟩,?_⟩
 rintro⟨i,⟨b1,b2,b3,b4,b5,⟨⟩⟩,⟨g1,g2,⟨⟩⟩,⟨⟩⟩ ⟨hb,hg,h1,h2,hR⟩
 cases hb
 cases hg
 simp only
 refine if_dec (fun hc=> ?_) (fun hc=> ?_)
 ·rw[any_step _ _ zPat h1 hc] at hR
  have hm:List.getD r.Pats i.toNat zPat∈r.Pats:=by rw[zac,zad (by omega)];exact zda _
  have hp:=hp0 _ hm
  refine⟨⟨rfl,rfl,rfl,by omega,by omega,fun _=>rfl,rfl⟩,?_⟩
  rintro⟨i',k,⟨b1,b2,b3,b4,b5,⟨⟩⟩,⟨g1,g2,⟨⟩⟩,⟨⟩⟩ ⟨rfl,hb,hg,k1,k2,k3,kR⟩
  cases hb
  cases hg
  simp only
  have next:blockP s.Items l (List.getD r.Pats i'.toNat zPat)=false→Zi229_2 r s l (IntKind.wrap IntKind.i64 (i'+1),(r.Name,r.Sal,r.Pats,r.Conds,r.Acts,()),(s.Items,s.Next,()),())∧Zm229_2 r s l (IntKind.wrap IntKind.i64 (i'+1),(r.Name,r.Sal,r.Pats,r.Conds,r.Acts,()),(s.Items,s.Next,()),())<Zm229_2 r s l (i',(r.Name,r.Sal,r.Pats,r.Conds,r.Acts,()),(s.Items,s.Next,()),()):=fun e=>by
   rw[wrap_i64 (by omega) (by omega)]
   exact⟨⟨rfl,rfl,by omega,by omega,by rw[←hR,e,zcw]⟩,by simp only[Zm229_2];omega⟩
  refine if_dec (fun hk=>⟨by omega,by omega,if_cond (fun g=>⟨by omega,by omega,by omega,by omega,hp,if_cond (fun g'=>Lf_tt ?_) (fun g'=> ?_)⟩) (fun g=>next (by rw[blockP,g];rfl))⟩) (fun hk=>next ?_)
  ·rw[any_step _ _ zItem k1 hk,show hitP (List.getD r.Pats i'.toNat zPat) l (List.getD s.Items k.toNat zItem)=true from g'] at kR
   rw[←hR,blockP,g,←kR];rfl
  ·rw[any_step _ _ zItem k1 hk,show hitP (List.getD r.Pats i'.toNat zPat) l (List.getD s.Items k.toNat zItem)=false from g',zcw] at kR
   rw[wrap_i64 (n:=k+1) (by omega) (by omega)]
   exact⟨⟨rfl,rfl,rfl,by omega,by omega,fun e=>absurd g (by rw[e];decide),kR⟩,by simp only[Zm229_5];omega⟩
  ·rw[drop_end _ (by omega)] at kR
   rw[blockP,←kR];exact zbs _
 ·rw[drop_end _ (by omega)] at hR
  exact Lf_ff hR.symm
def Zh229:HH:=⟨_,Zo229⟩
def Zk232:Con UU where
 α:=DRule×Bool
 md:=[.ro,.ro]
 of:=oC (oA .eRule) (o1 oO)
 ds:=fun x=>[dA .eRule x.1,dO x.2]
 pre:=fun(r,not)=>[r.Pats.length≤4294967295]
 res:=fun(r,not)=>⟨[dL .ePat (patsR r not)],false,[]⟩
 law:=lC (lA .eRule) (l1 lO)
def Zi232_3(r:DRule)(not:Bool):List DPat×Int×Unit→Prop:=fun(o,i,_)=>0≤i∧i≤r.Pats.length∧o=(r.Pats.take i.toNat).filter (fun p=>p.Not==not)
def Zm232_3(r:DRule)(not:Bool):List DPat×Int×Unit→Nat:=fun(o,i,_)=>r.Pats.length-i.toNat
def Za232:Zk232.α→Nat→Option (Ann UU):=fun(r,not)=>annL [(3,annOf [.slot 5 (5,1024) (.own .ePat false),.slot 11 (11,1024) (.lit (.int .i64))] (fun _=>Zi232_3 r not) (Zm232_3 r not))]
def Zu232:List (FuncId×Con UU):=[]
theorem Zo232:Holds EE (232,Zk232):=by
 refine holds_of EE_ok func232 Zk232 (by kernel_rfl) Zu232 all_nil Za232 (fun x hp hb=> ?_)
 obtain⟨r,not⟩:=x
 have hz0:=bd_eRule (x:=r) (hb _ m0)
 have hl_r_Name:=hz0.1
 have hl_r_Pats:=hz0.2.1
 have hl_r_Conds:=hz0.2.2.1
 have hl_r_Acts:=hz0.2.2.2
 have hp0:r.Pats.length≤4294967295:=hp _ m0
 clear hp hb
 apply @ve _ (Zi232_3 r not ([],(0:Int),())∧∀(y:List DPat×Int×PUnit),let x2:Nat:=y.2.1.toNat;let x1:DPat:=List.getD r.Pats x2 zPat;let x0:List DPat:=[x1];Zi232_3 r not y→bif decide (y.2.1<(r.Pats.length:Int)) then(0:Int)≤y.2.1∧x2<r.Pats.length∧bif x1.Not==not then y.1.length+x0.length≤(4294967296:Nat)∧Zi232_3 r not (y.1++x0,IntKind.wrap IntKind.i64 (y.2.1+(1:Int)),())∧Zm232_3 r not (y.1++x0,IntKind.wrap IntKind.i64 (y.2.1+(1:Int)),())<Zm232_3 r not y else Zi232_3 r not (y.1,IntKind.wrap IntKind.i64 (y.2.1+(1:Int)),())∧Zm232_3 r not (y.1,IntKind.wrap IntKind.i64 (y.2.1+(1:Int)),())<Zm232_3 r not y else Lf [VL .ePat y.1] [VL .ePat (patsR r not)]) (by kernel_rfl)
 dsimp only
 refine⟨⟨by omega,by omega,by simp⟩,?_⟩
 rintro⟨o,i,⟨⟩⟩ ⟨h1,h2,rfl⟩
 simp only
 refine if_dec (fun hc=> ?_) (fun hc=> ?_)
 ·have hs:=filterStep (fun p:DPat=>p.Not==not) (l:=r.Pats) (i:=i.toNat) zPat (by omega)
  have hle:((r.Pats.take i.toNat).filter fun p:DPat=>p.Not==not).length≤(r.Pats.take i.toNat).length:=zdt _ _
  rw[zaw] at hle
  have e:(i+1).toNat=i.toNat+1:=by omega
  rw[wrap_i64 (by omega) (by omega)]
  refine⟨by omega,by omega,if_cond (fun g=>⟨by simp only[zbq,zbo];omega,⟨by omega,by omega,?_⟩,by simp only[Zm232_3];omega⟩) (fun g=>⟨⟨by omega,by omega,?_⟩,by simp only[Zm232_3];omega⟩)⟩
  ·rw[e,hs,if_pos g]
  ·rw[e,hs,if_neg (by rw[g];decide),zch]
 ·rw[take_all r.Pats (by omega)]
  exact Lf_rfl _
def Zh232:HH:=⟨_,Zo232⟩
def posR(r:DRule):List DPat:=r.Pats.filter fun p=> !p.Not
def rowsR(r:DRule)(s:List DItem):List DPat→List Int→List DBind→List DMatch
 |[],ids,l=>if(!blockedR r s l&&holdAll r.Conds l)=true then[⟨0,ids,l⟩] else[]
 |p::ps,ids,l=>s.flatMap fun x=>match matchP p x.F l with|some more=>rowsR r s ps (ids++[x.Id]) more|none=>[]
def rowsAt(r:DRule)(s:List DItem)(ids:List Int)(l:List DBind):List DMatch:=rowsR r s ((posR r).drop ids.length) ids l
def rowsI(r:DRule)(s:List DItem)(ids:List Int)(l:List DBind)(x:DItem):List DMatch:=match matchP (List.getD (posR r) ids.length zPat) x.F l with|some more=>rowsAt r s (ids++[x.Id]) more|none=>[]
theorem rowsAt_end{r:DRule}(s:List DItem){ids:List Int}(l:List DBind)(h:ids.length=posN r.Pats):rowsAt r s ids l=if(!blockedR r s l&&holdAll r.Conds l)=true then[⟨0,ids,l⟩] else[]:=by
 have e:(posR r).drop ids.length=[]:=List.drop_eq_nil_of_le (by rw[h];exact zca _)
 simp only[rowsAt,e,rowsR]
theorem rowsAt_step{r:DRule}(s:List DItem){ids:List Int}(l:List DBind)(h:ids.length<posN r.Pats):rowsAt r s ids l=s.flatMap (rowsI r s ids l):=by
 have h:ids.length<(posR r).length:=h
 have e:(posR r).drop ids.length=List.getD (posR r) ids.length zPat::(posR r).drop (ids.length+1):=by
  rw[zel h,zac,zad h];rfl
 simp only[rowsAt,e,rowsR]
 congr 1
 funext x
 simp only[rowsI,rowsAt,zce,zbq,zbo,zbw]
theorem flatStep{α β:Type}(q:α→List β)(l:List α)(z:α){i:Int}(h0:0≤i)(h:i<l.length):(l.take (i+1).toNat).flatMap q=(l.take i.toNat).flatMap q++q (List.getD l i.toNat z):=by
 rw[←take_step l z h0 h,zep];simp
theorem flatM_le{α β:Type}(q:α→List β)(l:List α)(n:Nat):((l.take n).flatMap q).length≤(l.flatMap q).length:=by
 conv=>rhs;rw[←zcq n l,zep,zce]
 exact Nat.le_add_right _ _
theorem flatM_len{α β:Type}(q:α→List β)(c:Nat):∀(l:List α),(∀x,x∈l→(q x).length≤c)→(l.flatMap q).length≤l.length*c
 |[],_=>by simp
 |x::l,h=>by
  have h1:=h x (by simp)
  have h2:=flatM_len q c l (fun y hy=>h y (by simp[hy]))
  rw[zbm,zce,zbq,Nat.succ_mul];omega
theorem rowsR_len(r:DRule)(s:List DItem):∀(ps:List DPat)(ids:List Int)(l:List DBind),(rowsR r s ps ids l).length≤s.length^ps.length
 |[],ids,l=>by simp only[rowsR];split<;>simp
 |p::ps,ids,l=>by
  simp only[rowsR,zbq,Nat.pow_succ]
  rw[zec]
  refine flatM_len _ _ _ (fun x _=> ?_)
  split
  ·exact rowsR_len r s ps _ _
  ·simp
structure rowsOk(r:DRule)(s:List DItem)(n:Nat)(ids:List Int)(l:List DBind):Prop where
 le:ids.length≤posN r.Pats
 three:posN r.Pats≤3
 pats:r.Pats.length≤6
 args:∀p,p∈r.Pats→p.Args.length≤5
 items:s.length≤40
 binds:l.length≤5*ids.length
 room:n+(rowsAt r s ids l).length≤4294967295
theorem posR_mem{r:DRule}{k:Nat}(h:k<posN r.Pats):List.getD (posR r) k zPat∈r.Pats:=by
 have h:k<(posR r).length:=h
 rw[zac,zad h]
 exact(zcg.1 (zda h)).1
theorem rowsOk_step{r:DRule}{s:List DItem}{n:Nat}{ids:List Int}{l more:List DBind}{i:Int}(h:rowsOk r s n ids l)(hk:ids.length<posN r.Pats)(h0:0≤i)(hi:i<s.length)(hm:matchP (List.getD (posR r) ids.length zPat) (List.getD s i.toNat zItem).F l=some more):rowsOk r s (n+((s.take i.toNat).flatMap (rowsI r s ids l)).length) (ids++[(List.getD s i.toNat zItem).Id]) more where
 le:=by rw[zce];simp only[zbq,zbo];omega
 three:=h.three
 pats:=h.pats
 args:=h.args
 items:=h.items
 binds:=by
  have h1:=matchP_len hm
  have h2:=h.args _ (posR_mem hk)
  have h3:=h.binds
  rw[zce];simp only[zbq,zbo];omega
 room:=by
  have h1:=h.room
  rw[rowsAt_step s l hk] at h1
  have h2:=flatM_le (rowsI r s ids l) s (i+1).toNat
  rw[flatStep _ s zItem h0 hi,zce] at h2
  have e:rowsI r s ids l (List.getD s i.toNat zItem)=rowsAt r s (ids++[(List.getD s i.toNat zItem).Id]) more:=by simp only[rowsI,hm]
  rw[e] at h2;omega
theorem outMs{a b:List DMatch}(h:a=b):asD [DV.box [.sl .eMatch a]]=asD [DV.box [.sl .eMatch b]]:=by subst h;rfl
theorem posR_eq(r:DRule):patsR r false=posR r:=by
 unfold posR patsR;congr 1;funext p;cases p.Not<;>rfl
theorem rowsI_some{r:DRule}{s:List DItem}{ids:List Int}{l more:List DBind}{x:DItem}(hm:matchP (List.getD (posR r) ids.length zPat) x.F l=some more):rowsI r s ids l x=rowsAt r s (ids++[x.Id]) more:=by simp only[rowsI,hm]
theorem rowsI_none{r:DRule}{s:List DItem}{ids:List Int}{l:List DBind}{x:DItem}(hm:matchP (List.getD (posR r) ids.length zPat) x.F l=none):rowsI r s ids l x=[]:=by simp only[rowsI,hm]
def matchesR(r:DRule)(s:List DItem):List DMatch:=rowsAt r s [] []
def ruled(i:Int)(m:DMatch):DMatch:=⟨i,m.Ids,m.Binds⟩
def allN(rs:List DRule)(s:List DItem)(n:Nat):List DMatch:=(List.range n).flatMap fun i=>(matchesR (List.getD rs i zRule) s).map (ruled i)
def allM(rs:List DRule)(s:List DItem):List DMatch:=allN rs s rs.length
theorem allN_step(rs:List DRule)(s:List DItem){i:Int}(h0:0≤i):allN rs s (i+1).toNat=allN rs s i.toNat++(matchesR (List.getD rs i.toNat zRule) s).map (ruled i):=by
 have e:(i+1).toNat=i.toNat+1:=by omega
 have e2:((i.toNat:Nat):Int)=i:=by omega
 rw[e]
 simp only[allN,List.range_succ,zep,zbm,zen,zch,e2]
structure smallR(r:DRule):Prop where
 three:posN r.Pats≤3
 pats:r.Pats.length≤6
 args:∀p,p∈r.Pats→p.Args.length≤5
def firstP(r:DRule):Prop:=∀k,k<posN r.Pats→List.getD r.Pats k zPat=List.getD (posR r) k zPat
theorem matches_ok{r:DRule}{s:List DItem}(h:smallR r)(hs:s.length≤40):rowsOk r s 0 [] [] where
 le:=Nat.zero_le _
 three:=h.three
 pats:=h.pats
 args:=h.args
 items:=hs
 binds:=Nat.zero_le _
 room:=by
  have h1:=rowsR_len r s (posR r) [] []
  have h2:(posR r).length≤3:=h.three
  have h3:s.length^(posR r).length≤40^3:=zde (Nat.pow_le_pow_left hs _) (Nat.pow_le_pow_right (by omega) h2)
  show 0+(rowsR r s (posR r) [] []).length≤_
  have:(40:Nat)^3=64000:=rfl
  omega
theorem matches_len{r:DRule}{s:List DItem}(h:smallR r)(hs:s.length≤40):(matchesR r s).length≤64000:=by
 have h1:=rowsR_len r s (posR r) [] []
 have h2:(posR r).length≤3:=h.three
 have h3:s.length^(posR r).length≤40^3:=zde (Nat.pow_le_pow_left hs _) (Nat.pow_le_pow_right (by omega) h2)
 show(rowsR r s (posR r) [] []).length≤_
 have:(40:Nat)^3=64000:=rfl
 omega
theorem getD_in{α:Type}{l:List α}{z:α}{i:Nat}(h:i<l.length):List.getD l i z∈l:=by
 rw[zac,zad h];exact zda _
theorem allN_len{rs:List DRule}{s:List DItem}(h:∀r,r∈rs→smallR r)(hs:s.length≤40){n:Nat}(hn:n≤rs.length):(allN rs s n).length≤n*64000:=by
 have:=flatM_len (fun i:Nat=>(matchesR (List.getD rs i zRule) s).map (ruled i)) 64000 (List.range n) (fun x hx=>by
  rw[zco];exact matches_len (h _ (getD_in (by have:=zay.1 hx;omega))) hs)
 rwa[List.length_range] at this
theorem mod_self{α:Type}{l:List α}{k:Nat}(f:α→α){z:α}(h:k<l.length):List.getD (l.modify k f) k z=f (List.getD l k z):=by
 rw[zac,zac,zei,zad h];simp
theorem mod_ne{α:Type}{l:List α}{k j:Nat}(f:α→α){z:α}(h:k≠j):List.getD (l.modify k f) j z=List.getD l j z:=by
 rw[zac,zac,zei];simp[h]
theorem dead_step{dd:Nat→Bool}{k:Int}(h0:0≤k)(h:∀j:Nat,k≤(j:Int)→dd j=false):∀j:Nat,k+1≤(j:Int)→(Nat.beq j k.toNat||dd j)=false:=fun j hj=>by
 rw[h j (by omega),zeh,←zbj,zdn];omega
def Zk163:Con UU where
 α:=(List DMatch)×DRule×DStore×(List Int)×(List DBind)
 md:=[.box true,.ro,.ro,.ro,.ro]
 of:=fun|[.box [.sl .eMatch a0],.agg [.lit (.string a1),.lit (.int .i64 a2),.sl .ePat a3,.sl .eCond a4,.sl .eAct a5],.agg [.sl .eItem a6,.lit (.int .i64 a7)],.one (.sl .int a8),.one (.sl .eBind a9)]=>some (a0,⟨a1,a2,a3,a4,a5⟩,⟨a6,a7⟩,a8,a9)|_=>none
 ds:=fun(out,r,s,ids,l)=>[.box [.sl .eMatch out],.agg [.lit (.string r.Name),.lit (.int .i64 r.Sal),.sl .ePat r.Pats,.sl .eCond r.Conds,.sl .eAct r.Acts],.agg [.sl .eItem s.Items,.lit (.int .i64 s.Next)],.one (.sl .int ids),.one (.sl .eBind l)]
 pre:=fun(out,r,s,ids,l)=>[rowsOk r s.Items out.length ids l]
 res:=fun(out,r,s,ids,l)=>⟨[],true,[.box [.sl .eMatch (out++rowsAt r s.Items ids l)]]⟩
 law:=by intro l x h;(try simp only at h);split at h<;>cases h;rfl
def Zi163_6(out:(List DMatch))(r:DRule)(s:DStore)(ids:(List Int))(l:(List DBind)):Int×List DPat×(ByteArray×Int×List DPat×List DCond×List DAct×Unit)×(List DItem×Int×Unit)×(List DMatch×Unit)×Unit→Prop:=fun(i,q,b,g,o,_)=>q=posR r∧b=(r.Name,r.Sal,r.Pats,r.Conds,r.Acts,())∧g=(s.Items,s.Next,())∧0≤i∧i≤s.Items.length∧o=(out++(s.Items.take i.toNat).flatMap (rowsI r s.Items ids l),())
def Zm163_6(out:(List DMatch))(r:DRule)(s:DStore)(ids:(List Int))(l:(List DBind)):Int×List DPat×(ByteArray×Int×List DPat×List DCond×List DAct×Unit)×(List DItem×Int×Unit)×(List DMatch×Unit)×Unit→Nat:=fun(i,q,b,g,o,_)=>s.Items.length-i.toNat
def Za163:Zk163.α→Nat→Option (Ann UU):=fun(out,r,s,ids,l)=>annL [(6,annOf [.slot 48 (48,1024) (.lit (.int .i64)),.slot 10 (10,1024) (.shr .ePat),.box 6 (6,1024) [.lit .str,.lit (.int .i64),.shr .ePat,.shr .eCond,.shr .eAct],.box 7 (7,1024) [.shr .eItem,.lit (.int .i64)],.box 0 (2000000,0) [.own .eMatch true]] (fun _=>Zi163_6 out r s ids l) (Zm163_6 out r s ids l))]
def Zy163:(List DMatch)×DRule×DStore×(List Int)×(List DBind)→Nat:=fun(out,r,s,ids,l)=>posN r.Pats-ids.length
def Zu163(rn:Nat):List (FuncId×Con UU):=(163,Zk163.below Zy163 rn)::us [Zh232,Zh233,Zh234,Zh235,Zh211,Zh212]
theorem Zo163:Holds EE (163,Zk163):=by
 refine holds_rec (k:=Zk163) func163 (by kernel_rfl) Zy163 (fun rn ih=> ?_)
 refine holds_of EE_ok func163 (Zk163.below Zy163 (rn+1)) (by kernel_rfl) (Zu163 rn) (all_cons ih (us_ok _)) Za163 (fun x hp hb=> ?_)
 obtain⟨out,r,s,ids,l⟩:=x
 have hrec:Zy163 (out,r,s,ids,l)<rn+1:=hp _ zab
 have hb_out:BdDV (U:=UU) (.box [.sl .eMatch out]):=hb _ (zab)
 have hl_out:out.length≤9223372036854775807:=Bd.len (U:=UU) (τ:=.eMatch) (xs:=out) (hb_out _ (by simp))
 have hb_r:BdDV (U:=UU) (.agg [.lit (.string r.Name),.lit (.int .i64 r.Sal),.sl .ePat r.Pats,.sl .eCond r.Conds,.sl .eAct r.Acts]):=hb _ (zaa _ (zab))
 have hl_r_Name:r.Name.size≤9223372036854775807:=Bd.str (hb_r _ (by simp))
 have hl_r_Pats:r.Pats.length≤9223372036854775807:=Bd.len (U:=UU) (τ:=.ePat) (xs:=r.Pats) (hb_r _ (by simp))
 have hl_r_Conds:r.Conds.length≤9223372036854775807:=Bd.len (U:=UU) (τ:=.eCond) (xs:=r.Conds) (hb_r _ (by simp))
 have hl_r_Acts:r.Acts.length≤9223372036854775807:=Bd.len (U:=UU) (τ:=.eAct) (xs:=r.Acts) (hb_r _ (by simp))
 have hb_s:BdDV (U:=UU) (.agg [.sl .eItem s.Items,.lit (.int .i64 s.Next)]):=hb _ (zaa _ (zaa _ (zab)))
 have hl_s_Items:s.Items.length≤9223372036854775807:=Bd.len (U:=UU) (τ:=.eItem) (xs:=s.Items) (hb_s _ (by simp))
 have hb_ids:BdDV (U:=UU) (.one (.sl .int ids)):=hb _ (zaa _ (zaa _ (zaa _ (zab))))
 have hl_ids:ids.length≤9223372036854775807:=Bd.len hb_ids
 have hb_l:BdDV (U:=UU) (.one (.sl .eBind l)):=hb _ (zaa _ (zaa _ (zaa _ (zaa _ (zab)))))
 have hl_l:l.length≤9223372036854775807:=Bd.len hb_l
 have hp0:rowsOk r s.Items out.length ids l:=hp _ (zaa _ (zab))
 clear hp hb
 apply @ve _ (r.Pats.length≤(4294967295:Nat)∧bif (ids.length:Int)==(↑(List.length (patsR r false)):Int) then(∀(p:DPat),p∈r.Pats→l.length+p.Args.length≤(4294967295:Nat))∧bif !blockedR r s.Items l then bif holdAll r.Conds l then ids.length≤(4294967296:Nat)∧l.length≤(4294967296:Nat)∧out.length+List.length [{Rule:=(0:Int),Ids:=ids,Binds:=l:DMatch}]≤(4294967296:Nat)∧(0:Nat)=(0:Nat)∧asD []=asD []∧asD [DV.box [CL .eMatch (out++[{Rule:=(0:Int),Ids:=ids,Binds:=l:DMatch}])]]=asD [DV.box [CL .eMatch (out++rowsAt r s.Items ids l)]] else(0:Nat)=(0:Nat)∧asD []=asD []∧asD [DV.box [CL .eMatch out]]=asD [DV.box [CL .eMatch (out++rowsAt r s.Items ids l)]] else(0:Nat)=(0:Nat)∧asD []=asD []∧asD [DV.box [CL .eMatch out]]=asD [DV.box [CL .eMatch (out++rowsAt r s.Items ids l)]] else Zi163_6 out r s ids l ((0:Int),patsR r false,(r.Name,r.Sal,r.Pats,r.Conds,r.Acts,()),(s.Items,s.Next,()),(out,()),())∧∀(y:Int×List DPat×(ByteArray×Int×List DPat×List DCond×List DAct×PUnit)×(List DItem×Int×PUnit)×(List DMatch×PUnit)×PUnit),let x0:DRule:={Name:=y.2.2.1.1,Sal:=y.2.2.1.2.1,Pats:=y.2.2.1.2.2.1,Conds:=y.2.2.1.2.2.2.1,Acts:=y.2.2.1.2.2.2.2.1:DRule};let x2:DPat:=List.getD y.2.1 (Int.toNat (ids.length:Int)) zPat;let x4:List Int:=[(List.getD s.Items y.1.toNat zItem).Id];let x1:List DBind:=Option.getD (matchP x2 (List.getD s.Items y.1.toNat zItem).F l) l;let x3:List Int:=ids++x4;Zi163_6 out r s ids l y→bif decide (y.1<(s.Items.length:Int)) then(0:Int)≤y.1∧y.1.toNat<s.Items.length∧(0:Int)≤(ids.length:Int)∧Int.toNat (ids.length:Int)<y.2.1.length∧l.length+x2.Args.length≤(4294967295:Nat)∧bif Option.isSome (matchP x2 (List.getD s.Items y.1.toNat zItem).F l) then ids.length≤(4294967296:Nat)∧ids.length+x4.length≤(4294967296:Nat)∧Zy163 (y.2.2.2.2.1.1,x0,{Items:=y.2.2.2.1.1,Next:=y.2.2.2.1.2.1:DStore},x3,x1)<rn∧rowsOk x0 y.2.2.2.1.1 (y.2.2.2.2.1.1.length) x3 x1∧Zi163_6 out r s ids l (IntKind.wrap IntKind.i64 (y.1+(1:Int)),y.2.1,(y.2.2.1.1,y.2.2.1.2.1,y.2.2.1.2.2.1,y.2.2.1.2.2.2.1,y.2.2.1.2.2.2.2.1,()),(y.2.2.2.1.1,y.2.2.2.1.2.1,()),(y.2.2.2.2.1.1++rowsAt x0 y.2.2.2.1.1 x3 x1,()),())∧Zm163_6 out r s ids l (IntKind.wrap IntKind.i64 (y.1+(1:Int)),y.2.1,(y.2.2.1.1,y.2.2.1.2.1,y.2.2.1.2.2.1,y.2.2.1.2.2.2.1,y.2.2.1.2.2.2.2.1,()),(y.2.2.2.1.1,y.2.2.2.1.2.1,()),(y.2.2.2.2.1.1++rowsAt x0 y.2.2.2.1.1 x3 x1,()),())<Zm163_6 out r s ids l y else Zi163_6 out r s ids l (IntKind.wrap IntKind.i64 (y.1+(1:Int)),y.2.1,(y.2.2.1.1,y.2.2.1.2.1,y.2.2.1.2.2.1,y.2.2.1.2.2.2.1,y.2.2.1.2.2.2.2.1,()),(y.2.2.2.1.1,y.2.2.2.1.2.1,()),(y.2.2.2.2.1.1,()),())∧Zm163_6 out r s ids l (IntKind.wrap IntKind.i64 (y.1+(1:Int)),y.2.1,(y.2.2.1.1,y.2.2.1.2.1,y.2.2.1.2.2.1,y.2.2.1.2.2.2.1,y.2.2.1.2.2.2.2.1,()),(y.2.2.2.1.1,y.2.2.2.1.2.1,()),(y.2.2.2.2.1.1,()),())<Zm163_6 out r s ids l y else(0:Nat)=(0:Nat)∧asD []=asD []∧asD [DV.box [CL .eMatch y.2.2.2.2.1.1]]=asD [DV.box [CL .eMatch (out++rowsAt r s.Items ids l)]]) (by kernel_rfl)
 dsimp only
 simp only[Zy163] at hrec
 have hle:=hp0.le
 have h3:=hp0.three
 have hpt:=hp0.pats
 have hbd:=hp0.binds
 have hA:∀p,p∈r.Pats→l.length+p.Args.length≤4294967295:=fun p hm=>by have:=hp0.args p hm;omega
 have hrm:=hp0.room
 rw[posR_eq]
 have hpl:(posR r).length=posN r.Pats:=rfl
 refine⟨by omega,if_num (fun h=>⟨hA,?_⟩) (fun h=> ?_)⟩
 ·have h:ids.length=posN r.Pats:=by omega
  have e:=rowsAt_end s.Items l h
  refine if_not (fun g=>if_cond (fun g'=>⟨by omega,by omega,?_,rfl,by trivial,outMs ?_⟩) (fun g'=>⟨rfl,by trivial,outMs ?_⟩)) (fun g=>⟨rfl,by trivial,outMs ?_⟩)
  ·rw[e,g,g'] at hrm;simp at hrm;simp only[zbq,zbo];omega
  ·rw[e,g,g'];rfl
  ·rw[e,g,g'];simp
  ·rw[e,g];simp
 ·have h:ids.length<posN r.Pats:=by omega
  have e:=rowsAt_step s.Items l h
  refine⟨⟨rfl,rfl,rfl,by omega,by omega,by simp⟩,?_⟩
  rintro⟨i,q,⟨b1,b2,b3,b4,b5,⟨⟩⟩,⟨g1,g2,⟨⟩⟩,⟨o,⟨⟩⟩,⟨⟩⟩ ⟨rfl,hb,hg,h1,h2,ho⟩
  cases hb
  cases hg
  cases ho
  simp only
  refine if_dec (fun hc=> ?_) (fun hc=>⟨by trivial,by trivial,outMs ?_⟩)
  ·have hs:=flatStep (rowsI r s.Items ids l) s.Items zItem h1 hc
   have hi:ids.length<(posR r).length:=h
   have hm:=hA _ (posR_mem h)
   have et:Int.toNat (ids.length:Int)=ids.length:=by omega
   have eR:(⟨r.Name,r.Sal,r.Pats,r.Conds,r.Acts⟩:DRule)=r:=rfl
   rw[wrap_i64 (by omega) (by omega)]
   simp only[et,eR]
   refine⟨by omega,by omega,by omega,by omega,hm,if_cond (fun g=> ?_) (fun g=> ?_)⟩
   ·obtain⟨more,hM⟩:=zag.1 g
    have hst:=rowsOk_step hp0 h h1 hc hM
    rw[hM,zcj]
    rw[rowsI_some hM] at hs
    refine⟨by omega,by simp only[zbq,zbo];omega,?_,?_,⟨rfl,rfl,rfl,by omega,by omega,?_⟩,by simp only[Zm163_6];omega⟩
    ·simp only[Zy163,zce,zbq,zbo];omega
    ·rw[zce];exact hst
    ·rw[hs,zbr]
   ·have hM:matchP (List.getD (posR r) ids.length zPat) (List.getD s.Items i.toNat zItem).F l=none:=Option.isNone_iff_eq_none.1 (by rw[←Option.not_isSome,show Option.isSome (matchP (List.getD (posR r) ids.length zPat) (List.getD s.Items i.toNat zItem).F l)=false from g];rfl)
    rw[rowsI_none hM,zch] at hs
    exact⟨⟨rfl,rfl,rfl,by omega,by omega,by rw[hs]⟩,by simp only[Zm163_6];omega⟩
  ·rw[take_all s.Items (by omega),e]
def Zh163:HH:=⟨_,Zo163⟩
def Zk161:Con UU where
 α:=(List DMatch)×DRule×DStore×(List Int)×(List DBind)
 md:=[.box true,.ro,.ro,.ro,.ro]
 of:=fun|[.box [.sl .eMatch a0],.agg [.lit (.string a1),.lit (.int .i64 a2),.sl .ePat a3,.sl .eCond a4,.sl .eAct a5],.agg [.sl .eItem a6,.lit (.int .i64 a7)],.one (.sl .int a8),.one (.sl .eBind a9)]=>some (a0,⟨a1,a2,a3,a4,a5⟩,⟨a6,a7⟩,a8,a9)|_=>none
 ds:=fun(out,r,s,ids,l)=>[.box [.sl .eMatch out],.agg [.lit (.string r.Name),.lit (.int .i64 r.Sal),.sl .ePat r.Pats,.sl .eCond r.Conds,.sl .eAct r.Acts],.agg [.sl .eItem s.Items,.lit (.int .i64 s.Next)],.one (.sl .int ids),.one (.sl .eBind l)]
 pre:=fun(out,r,s,ids,l)=>[rowsOk r s.Items out.length ids l,firstP r]
 res:=fun(out,r,s,ids,l)=>⟨[],true,[.box [.sl .eMatch (out++rowsAt r s.Items ids l)]]⟩
 law:=by intro l x h;(try simp only at h);split at h<;>cases h;rfl
def Zi161_5(out:(List DMatch))(r:DRule)(s:DStore)(ids:(List Int))(l:(List DBind)):Int×(ByteArray×Int×List DPat×List DCond×List DAct×Unit)×(List DItem×Int×Unit)×(List DMatch×Unit)×Unit→Prop:=fun(i,b,g,o,_)=>b=(r.Name,r.Sal,r.Pats,r.Conds,r.Acts,())∧g=(s.Items,s.Next,())∧0≤i∧i≤s.Items.length∧o=(out++(s.Items.take i.toNat).flatMap (rowsI r s.Items ids l),())
def Zm161_5(out:(List DMatch))(r:DRule)(s:DStore)(ids:(List Int))(l:(List DBind)):Int×(ByteArray×Int×List DPat×List DCond×List DAct×Unit)×(List DItem×Int×Unit)×(List DMatch×Unit)×Unit→Nat:=fun(i,b,g,o,_)=>s.Items.length-i.toNat
def Za161:Zk161.α→Nat→Option (Ann UU):=fun(out,r,s,ids,l)=>annL [(5,annOf [.slot 10 (10,1024) (.lit (.int .i64)),.box 6 (6,1024) [.lit .str,.lit (.int .i64),.shr .ePat,.shr .eCond,.shr .eAct],.box 7 (7,1024) [.shr .eItem,.lit (.int .i64)],.box 0 (2000000,0) [.own .eMatch true]] (fun _=>Zi161_5 out r s ids l) (Zm161_5 out r s ids l))]
def Zy161:(List DMatch)×DRule×DStore×(List Int)×(List DBind)→Nat:=fun(out,r,s,ids,l)=>posN r.Pats-ids.length
def Zu161(rn:Nat):List (FuncId×Con UU):=(161,Zk161.below Zy161 rn)::us [Zh40,Zh229,Zh230,Zh231]
theorem Zo161:Holds EE (161,Zk161):=by
 refine holds_rec (k:=Zk161) func161 (by kernel_rfl) Zy161 (fun rn ih=> ?_)
 refine holds_of EE_ok func161 (Zk161.below Zy161 (rn+1)) (by kernel_rfl) (Zu161 rn) (all_cons ih (us_ok _)) Za161 (fun x hp hb=> ?_)
 obtain⟨out,r,s,ids,l⟩:=x
 have hrec:Zy161 (out,r,s,ids,l)<rn+1:=hp _ zab
 have hb_out:BdDV (U:=UU) (.box [.sl .eMatch out]):=hb _ (zab)
 have hl_out:out.length≤9223372036854775807:=Bd.len (U:=UU) (τ:=.eMatch) (xs:=out) (hb_out _ (by simp))
 have hb_r:BdDV (U:=UU) (.agg [.lit (.string r.Name),.lit (.int .i64 r.Sal),.sl .ePat r.Pats,.sl .eCond r.Conds,.sl .eAct r.Acts]):=hb _ (zaa _ (zab))
 have hl_r_Name:r.Name.size≤9223372036854775807:=Bd.str (hb_r _ (by simp))
 have hl_r_Pats:r.Pats.length≤9223372036854775807:=Bd.len (U:=UU) (τ:=.ePat) (xs:=r.Pats) (hb_r _ (by simp))
 have hl_r_Conds:r.Conds.length≤9223372036854775807:=Bd.len (U:=UU) (τ:=.eCond) (xs:=r.Conds) (hb_r _ (by simp))
 have hl_r_Acts:r.Acts.length≤9223372036854775807:=Bd.len (U:=UU) (τ:=.eAct) (xs:=r.Acts) (hb_r _ (by simp))
 have hb_s:BdDV (U:=UU) (.agg [.sl .eItem s.Items,.lit (.int .i64 s.Next)]):=hb _ (zaa _ (zaa _ (zab)))
 have hl_s_Items:s.Items.length≤9223372036854775807:=Bd.len (U:=UU) (τ:=.eItem) (xs:=s.Items) (hb_s _ (by simp))
 have hb_ids:BdDV (U:=UU) (.one (.sl .int ids)):=hb _ (zaa _ (zaa _ (zaa _ (zab))))
 have hl_ids:ids.length≤9223372036854775807:=Bd.len hb_ids
 have hb_l:BdDV (U:=UU) (.one (.sl .eBind l)):=hb _ (zaa _ (zaa _ (zaa _ (zaa _ (zab)))))
 have hl_l:l.length≤9223372036854775807:=Bd.len hb_l
 have hp0:rowsOk r s.Items out.length ids l:=hp _ (zaa _ (zab))
 have hp1:firstP r:=hp _ (zaa _ (zaa _ (zab)))
 clear hp hb
 apply @ve _ (let x1:List Int:=[]++ids;let x0:List DMatch:=[{Rule:=(0:Int),Ids:=x1,Binds:=[]++l:DMatch}];bif (ids.length:Int)==(↑(posN r.Pats):Int) then(∀(p:DPat),p∈r.Pats→l.length+p.Args.length≤(4294967295:Nat))∧bif !blockedR r s.Items l then bif holdAll r.Conds l then(0:Nat)+ids.length≤(4294967296:Nat)∧(0:Nat)+l.length≤(4294967296:Nat)∧out.length+x0.length≤(4294967296:Nat)∧(0:Nat)=(0:Nat)∧asD []=asD []∧asD [DV.box [CL .eMatch (out++x0)]]=asD [DV.box [CL .eMatch (out++rowsAt r s.Items ids l)]] else(0:Nat)=(0:Nat)∧asD []=asD []∧asD [DV.box [CL .eMatch out]]=asD [DV.box [CL .eMatch (out++rowsAt r s.Items ids l)]] else(0:Nat)=(0:Nat)∧asD []=asD []∧asD [DV.box [CL .eMatch out]]=asD [DV.box [CL .eMatch (out++rowsAt r s.Items ids l)]] else Zi161_5 out r s ids l ((0:Int),(r.Name,r.Sal,r.Pats,r.Conds,r.Acts,()),(s.Items,s.Next,()),(out,()),())∧∀(y:Int×(ByteArray×Int×List DPat×List DCond×List DAct×PUnit)×(List DItem×Int×PUnit)×(List DMatch×PUnit)×PUnit),let x2:DRule:={Name:=y.2.1.1,Sal:=y.2.1.2.1,Pats:=y.2.1.2.2.1,Conds:=y.2.1.2.2.2.1,Acts:=y.2.1.2.2.2.2.1:DRule};let x6:DItem:=List.getD y.2.2.1.1 y.1.toNat zItem;let x8:Nat:=y.2.2.1.1.length;let x9:DPat:=List.getD y.2.1.2.2.1 (Int.toNat (ids.length:Int)) zPat;let x3:List DBind:=Option.getD (matchP x9 x6.F l) l;let x5:List Int:=[x6.Id];let x7:Int:=(↑x8:Int);let x4:List Int:=x1++x5;Zi161_5 out r s ids l y→bif decide (y.1<x7) then(0:Int)≤(ids.length:Int)∧Int.toNat (ids.length:Int)<y.2.1.2.2.1.length∧(0:Int)≤y.1∧y.1.toNat<x8∧l.length+x9.Args.length≤(4294967295:Nat)∧bif Option.isSome (matchP x9 x6.F l) then(0:Nat)+ids.length≤(4294967296:Nat)∧(0:Int)≤y.1∧y.1.toNat<x8∧x1.length+x5.length≤(4294967296:Nat)∧Zy161 (y.2.2.2.1.1,x2,{Items:=y.2.2.1.1,Next:=y.2.2.1.2.1:DStore},x4,x3)<rn∧rowsOk x2 y.2.2.1.1 (y.2.2.2.1.1.length) x4 x3∧firstP x2∧Zi161_5 out r s ids l (IntKind.wrap IntKind.i64 (y.1+(1:Int)),(y.2.1.1,y.2.1.2.1,y.2.1.2.2.1,y.2.1.2.2.2.1,y.2.1.2.2.2.2.1,()),(y.2.2.1.1,y.2.2.1.2.1,()),(y.2.2.2.1.1++rowsAt x2 y.2.2.1.1 x4 x3,()),())∧Zm161_5 out r s ids l (IntKind.wrap IntKind.i64 (y.1+(1:Int)),(y.2.1.1,y.2.1.2.1,y.2.1.2.2.1,y.2.1.2.2.2.1,y.2.1.2.2.2.2.1,()),(y.2.2.1.1,y.2.2.1.2.1,()),(y.2.2.2.1.1++rowsAt x2 y.2.2.1.1 x4 x3,()),())<Zm161_5 out r s ids l y else Zi161_5 out r s ids l (IntKind.wrap IntKind.i64 (y.1+(1:Int)),(y.2.1.1,y.2.1.2.1,y.2.1.2.2.1,y.2.1.2.2.2.1,y.2.1.2.2.2.2.1,()),(y.2.2.1.1,y.2.2.1.2.1,()),(y.2.2.2.1.1,()),())∧Zm161_5 out r s ids l (IntKind.wrap IntKind.i64 (y.1+(1:Int)),(y.2.1.1,y.2.1.2.1,y.2.1.2.2.1,y.2.1.2.2.2.1,y.2.1.2.2.2.2.1,()),(y.2.2.1.1,y.2.2.1.2.1,()),(y.2.2.2.1.1,()),())<Zm161_5 out r s ids l y else(0:Nat)=(0:Nat)∧asD []=asD []∧asD [DV.box [CL .eMatch y.2.2.2.1.1]]=asD [DV.box [CL .eMatch (out++rowsAt r s.Items ids l)]]) (by kernel_rfl)
 dsimp only
 simp only[Zy161] at hrec
 have hle:=hp0.le
 have h3:=hp0.three
 have hpt:=hp0.pats
 have hbd:=hp0.binds
 have hA:∀p,p∈r.Pats→l.length+p.Args.length≤4294967295:=fun p hm=>by have:=hp0.args p hm;omega
 have hrm:=hp0.room
 have hpl:(posR r).length=posN r.Pats:=rfl
 have hpn:posN r.Pats≤r.Pats.length:=zdt _ _
 refine if_num (fun h=>⟨hA,?_⟩) (fun h=> ?_)
 ·have h:ids.length=posN r.Pats:=by omega
  have e:=rowsAt_end s.Items l h
  have q1:(0:Nat)+ids.length≤4294967296:=by omega
  have q2:(0:Nat)+l.length≤4294967296:=by omega
  refine if_not (fun g=>if_cond (fun g'=>⟨q1,q2,?_,rfl,by trivial,outMs ?_⟩) (fun g'=>⟨rfl,by trivial,outMs ?_⟩)) (fun g=>⟨rfl,by trivial,outMs ?_⟩)
  ·rw[e,g,g'] at hrm;simp at hrm;simp only[zbq,zbo];omega
  ·rw[e,g,g'];rfl
  ·rw[e,g,g'];simp
  ·rw[e,g];simp
 ·have h:ids.length<posN r.Pats:=by omega
  have e:=rowsAt_step s.Items l h
  refine⟨⟨rfl,rfl,by omega,by omega,by simp⟩,?_⟩
  rintro⟨i,⟨b1,b2,b3,b4,b5,⟨⟩⟩,⟨g1,g2,⟨⟩⟩,⟨o,⟨⟩⟩,⟨⟩⟩ ⟨hb,hg,h1,h2,ho⟩
  cases hb
  cases hg
  cases ho
  refine if_dec (fun hc=> ?_) (fun hc=>⟨by trivial,by trivial,outMs ?_⟩)
  ·have hc:i<s.Items.length:=hc
   have hs:=flatStep (rowsI r s.Items ids l) s.Items zItem h1 hc
   have hi:ids.length<(posR r).length:=h
   have hm:=hA _ (posR_mem h)
   have et:Int.toNat (ids.length:Int)=ids.length:=by omega
   have eP:List.getD r.Pats (Int.toNat (ids.length:Int)) zPat=List.getD (posR r) ids.length zPat:=by rw[et];exact hp1 _ h
   have q0:(0:Int)≤(ids.length:Int)∧Int.toNat (ids.length:Int)<r.Pats.length:=by omega
   have q1:(0:Int)≤i∧i.toNat<s.Items.length:=by omega
   have q2:(0:Nat)+ids.length≤4294967296:=by omega
   have q3:ids.length+1≤4294967296:=by omega
   refine⟨q0.1,q0.2,q1.1,q1.2,by rw[eP];exact hm,?_⟩
   simp only[eP]
   refine if_cond (fun g=> ?_) (fun g=> ?_)
   ·obtain⟨more,hM⟩:=zag.1 g
    have hst:=rowsOk_step hp0 h h1 hc hM
    rw[rowsI_some hM] at hs
    have hw:IntKind.wrap .i64 (i+1)=i+1:=wrap_i64 (by omega) (by omega)
    have hst':rowsOk r s.Items (out++(s.Items.take i.toNat).flatMap (rowsI r s.Items ids l)).length (ids++[(List.getD s.Items i.toNat zItem).Id]) ((matchP (List.getD (posR r) ids.length zPat) (List.getD s.Items i.toNat zItem).F l).getD l):=by rw[hM,zcj,zce];exact hst
    have hmu:posN r.Pats-(ids++[(List.getD s.Items i.toNat zItem).Id]).length<rn:=by rw[zce];simp only[zbq,zbo];omega
    have hI:Zi161_5 out r s ids l (IntKind.wrap .i64 (i+1),(r.Name,r.Sal,r.Pats,r.Conds,r.Acts,()),(s.Items,s.Next,()),((out++(s.Items.take i.toNat).flatMap (rowsI r s.Items ids l))++rowsAt r s.Items (ids++[(List.getD s.Items i.toNat zItem).Id]) ((matchP (List.getD (posR r) ids.length zPat) (List.getD s.Items i.toNat zItem).F l).getD l),()),()):=by
     rw[hw,hM,zcj]
     exact⟨rfl,rfl,by omega,by omega,by rw[hs,zbr]⟩
    have hd:s.Items.length-(IntKind.wrap .i64 (i+1)).toNat<s.Items.length-i.toNat:=by rw[hw];omega
    exact⟨q2,q1.1,q1.2,q3,hmu,hst',hp1,hI,hd⟩
   ·have hM:matchP (List.getD (posR r) ids.length zPat) (List.getD s.Items i.toNat zItem).F l=none:=Option.isNone_iff_eq_none.1 (by rw[←Option.not_isSome,show Option.isSome (matchP (List.getD (posR r) ids.length zPat) (List.getD s.Items i.toNat zItem).F l)=false from g];rfl)
    rw[rowsI_none hM,zch] at hs
    have hw:IntKind.wrap .i64 (i+1)=i+1:=wrap_i64 (by omega) (by omega)
    have hI:Zi161_5 out r s ids l (IntKind.wrap .i64 (i+1),(r.Name,r.Sal,r.Pats,r.Conds,r.Acts,()),(s.Items,s.Next,()),(out++(s.Items.take i.toNat).flatMap (rowsI r s.Items ids l),()),()):=by
     rw[hw];exact⟨rfl,rfl,by omega,by omega,by rw[hs]⟩
    have hd:s.Items.length-(IntKind.wrap .i64 (i+1)).toNat<s.Items.length-i.toNat:=by rw[hw];omega
    exact⟨hI,hd⟩
  ·have hc:¬i<(s.Items.length:Int):=hc
   rw[take_all s.Items (by omega),e]
def Zh161:HH:=⟨_,Zo161⟩
def Zk87:Con UU where
 α:=DRule×DStore
 md:=[.ro,.ro]
 of:=oC (oA .eRule) (o1 (oA .eStore))
 ds:=fun x=>[dA .eRule x.1,dA .eStore x.2]
 pre:=fun(r,s)=>[smallR r,s.Items.length≤40]
 res:=fun(r,s)=>⟨[dL .eMatch (matchesR r s.Items)],true,[]⟩
 law:=lC (lA .eRule) (l1 (lA .eStore))
def Za87:Zk87.α→Nat→Option (Ann UU):=fun(r,s)=>annL []
def Zu87:=us [Zh163]
theorem Zo87:Holds EE (87,Zk87):=by
 refine holds_of EE_ok func87 Zk87 (by kernel_rfl) Zu87 (us_ok _) Za87 (fun x hp hb=> ?_)
 obtain⟨r,s⟩:=x
 have hz0:=bd_eRule (x:=r) (hb _ m0)
 have hl_r_Name:=hz0.1
 have hl_r_Pats:=hz0.2.1
 have hl_r_Conds:=hz0.2.2.1
 have hl_r_Acts:=hz0.2.2.2
 have hl_s_Items:=bd_eStore (x:=s) (hb _ m1)
 have hp0:smallR r:=hp _ m0
 have hp1:s.Items.length≤40:=hp _ m1
 clear hp hb
 apply @ve _ (rowsOk r s.Items ((0:Nat)) [] []∧Lf [VL .eMatch ([]++rowsAt r s.Items [] [])] [VL .eMatch (matchesR r s.Items)]) (by kernel_rfl)
 exact⟨matches_ok hp0 hp1,Lf_rfl _⟩
def Zh87:HH:=⟨_,Zo87⟩
def Zk84:Con UU where
 α:=DRule×DStore
 md:=[.ro,.ro]
 of:=oC (oA .eRule) (o1 (oA .eStore))
 ds:=fun x=>[dA .eRule x.1,dA .eStore x.2]
 pre:=fun(r,s)=>[smallR r,s.Items.length≤40,firstP r]
 res:=fun(r,s)=>⟨[dL .eMatch (matchesR r s.Items)],true,[]⟩
 law:=lC (lA .eRule) (l1 (lA .eStore))
def Za84:Zk84.α→Nat→Option (Ann UU):=fun(r,s)=>annL []
def Zu84:=us [Zh161]
theorem Zo84:Holds EE (84,Zk84):=by
 refine holds_of EE_ok func84 Zk84 (by kernel_rfl) Zu84 (us_ok _) Za84 (fun x hp hb=> ?_)
 obtain⟨r,s⟩:=x
 have hz0:=bd_eRule (x:=r) (hb _ m0)
 have hl_r_Name:=hz0.1
 have hl_r_Pats:=hz0.2.1
 have hl_r_Conds:=hz0.2.2.1
 have hl_r_Acts:=hz0.2.2.2
 have hl_s_Items:=bd_eStore (x:=s) (hb _ m1)
 have hp0:smallR r:=hp _ m0
 have hp1:s.Items.length≤40:=hp _ m1
 have hp2:firstP r:=hp _ m2
 clear hp hb
 apply @ve _ (rowsOk r s.Items ((0:Nat)) [] []∧firstP r∧Lf [VL .eMatch ([]++rowsAt r s.Items [] [])] [VL .eMatch (matchesR r s.Items)]) (by kernel_rfl)
 exact⟨matches_ok hp0 hp1,hp2,Lf_rfl _⟩
def Zh84:HH:=⟨_,Zo84⟩
def Zk32:Con UU where
 α:=DDef×DStore
 md:=[.ro,.ro]
 of:=oC (oA .eDef) (o1 (oA .eStore))
 ds:=fun x=>[dA .eDef x.1,dA .eStore x.2]
 pre:=fun(d,s)=>[∀r,r∈d.Rules→smallR r,s.Items.length≤40∧d.Rules.length≤12]
 res:=fun(d,s)=>⟨[dL .eMatch (allM d.Rules s.Items)],true,[]⟩
 law:=lC (lA .eDef) (l1 (lA .eStore))
def Zi32_3(d:DDef)(s:DStore):List DMatch×Int×(List DItem×Int×Unit)×Unit→Prop:=fun(o,i,g,_)=>g=(s.Items,s.Next,())∧0≤i∧i≤d.Rules.length∧o=allN d.Rules s.Items i.toNat
def Zm32_3(d:DDef)(s:DStore):List DMatch×Int×(List DItem×Int×Unit)×Unit→Nat:=fun(o,i,g,_)=>d.Rules.length-i.toNat
def Zi32_6(d:DDef)(s:DStore):List DMatch×Int×Int×Int×(List DMatch×(Nat→Bool))×(List DItem×Int×Unit)×Unit→List DMatch×Int×Int×Int×(List DMatch×(Nat→Bool))×(List DItem×Int×Unit)×Unit→Prop:=fun(o0,i0,n0,k0,p0,g0,_) (o,i,n,k,p,g,_)=>i=i0∧n=n0∧g=g0∧p.1=p0.1∧0≤k∧k≤p0.1.length∧(∀j:Nat,k≤(j:Int)→p.2 j=false)∧o=o0++(p0.1.take k.toNat).map (ruled i)
def Zm32_6(d:DDef)(s:DStore):List DMatch×Int×Int×Int×(List DMatch×(Nat→Bool))×(List DItem×Int×Unit)×Unit→Nat:=fun(o,i,n,k,p,g,_)=>p.1.length-k.toNat
def Za32:Zk32.α→Nat→Option (Ann UU):=fun(d,s)=>annL [(3,annOf [.slot 5 (5,1024) (.own .eMatch true),.slot 13 (13,1024) (.lit (.int .i64)),.box 3 (3,1024) [.shr .eItem,.lit (.int .i64)]] (fun _=>Zi32_3 d s) (Zm32_3 d s)),(6,annOf [.slot 5 (5,1024) (.own .eMatch true),.slot 13 (13,1024) (.lit (.int .i64)),.slot 6 (6,1024) (.lit (.int .i64)),.slot 22 (22,1024) (.lit (.int .i64)),.slot 20 (20,1024) (.part .eMatch),.box 3 (3,1024) [.shr .eItem,.lit (.int .i64)]] (Zi32_6 d s) (Zm32_6 d s))]
def Zu32:=us [Zh87]
theorem Zo32:Holds EE (32,Zk32):=by
 refine holds_of EE_ok func32 Zk32 (by kernel_rfl) Zu32 (us_ok _) Za32 (fun x hp hb=> ?_)
 obtain⟨d,s⟩:=x
 have hz0:=bd_eDef (x:=d) (hb _ m0)
 have hl_d_Name:=hz0.1
 have hl_d_Rules:=hz0.2
 have hl_s_Items:=bd_eStore (x:=s) (hb _ m1)
 have hp0:∀r,r∈d.Rules→smallR r:=hp _ m0
 have hp1:s.Items.length≤40∧d.Rules.length≤12:=hp _ m1
 clear hp hb
 apply @ve _ (Zi32_3 d s ([],(0:Int),(s.Items,s.Next,()),())∧∀(y:List DMatch×Int×(List DItem×Int×PUnit)×PUnit),let x3:Nat:=y.2.1.toNat;let x2:DRule:=List.getD d.Rules x3 zRule;let x1:List DMatch:=matchesR x2 y.2.2.1.1;let x0:Int:=(x1.length:Int);Zi32_3 d s y→bif decide (y.2.1<(d.Rules.length:Int)) then(0:Int)≤y.2.1∧x3<d.Rules.length∧smallR x2∧y.2.2.1.1.length≤(40:Nat)∧Zi32_6 d s (y.1,y.2.1,y.2.1,(0:Int),(x1,fun(x:Nat)=>false),(y.2.2.1.1,y.2.2.1.2.1,()),()) (y.1,y.2.1,y.2.1,(0:Int),(x1,fun(x:Nat)=>false),(y.2.2.1.1,y.2.2.1.2.1,()),())∧∀(y_1:List DMatch×Int×Int×Int×(List DMatch×(Nat→Bool))×(List DItem×Int×PUnit)×PUnit),let x5:Nat:=y_1.2.2.2.1.toNat;let x6:DMatch:=List.getD y_1.2.2.2.2.fst.1 x5 zMatch;let x4:List DMatch:=[{Rule:=y_1.2.2.1,Ids:=x6.Ids,Binds:=x6.Binds:DMatch}];Zi32_6 d s (y.1,y.2.1,y.2.1,(0:Int),(x1,fun(x:Nat)=>false),(y.2.2.1.1,y.2.2.1.2.1,()),()) y_1→bif decide (y_1.2.2.2.1<x0) then(0:Int)≤y_1.2.2.2.1∧x5<y_1.2.2.2.2.fst.1.length∧x5<y_1.2.2.2.2.fst.1.length∧y_1.2.2.2.2.fst.2 x5=false∧y_1.1.length+x4.length≤(4294967296:Nat)∧Zi32_6 d s (y.1,y.2.1,y.2.1,(0:Int),(x1,fun(x:Nat)=>false),(y.2.2.1.1,y.2.2.1.2.1,()),()) (y_1.1++x4,y_1.2.1,y_1.2.2.1,IntKind.wrap IntKind.i64 (y_1.2.2.2.1+(1:Int)),(y_1.2.2.2.2.fst.1,fun(j:Nat)=>Nat.beq j x5||y_1.2.2.2.2.fst.2 j),(y_1.2.2.2.2.2.1.1,y_1.2.2.2.2.2.1.2.1,()),())∧Zm32_6 d s (y_1.1++x4,y_1.2.1,y_1.2.2.1,IntKind.wrap IntKind.i64 (y_1.2.2.2.1+(1:Int)),(y_1.2.2.2.2.fst.1,fun(j:Nat)=>Nat.beq j x5||y_1.2.2.2.2.fst.2 j),(y_1.2.2.2.2.2.1.1,y_1.2.2.2.2.2.1.2.1,()),())<Zm32_6 d s y_1 else Zi32_3 d s (y_1.1,IntKind.wrap IntKind.i64 (y_1.2.1+(1:Int)),(y_1.2.2.2.2.2.1.1,y_1.2.2.2.2.2.1.2.1,()),())∧Zm32_3 d s (y_1.1,IntKind.wrap IntKind.i64 (y_1.2.1+(1:Int)),(y_1.2.2.2.2.2.1.1,y_1.2.2.2.2.2.1.2.1,()),())<Zm32_3 d s y else Lf [VL .eMatch y.1] [VL .eMatch (allM d.Rules s.Items)]) (by kernel_rfl)
 dsimp only
 obtain⟨hS,hD⟩:=hp1
 refine⟨⟨rfl,by omega,by omega,rfl⟩,?_⟩
 rintro⟨o,i,⟨g1,g2,⟨⟩⟩,⟨⟩⟩ ⟨hg,h1,h2,rfl⟩
 cases hg
 simp only
 refine if_dec (fun hc=> ?_) (fun hc=> ?_)
 ·have hm:List.getD d.Rules i.toNat zRule∈d.Rules:=getD_in (by omega)
  have hs:=hp0 _ hm
  have hl:=matches_len hs hS
  have hn:=allN_len hp0 hS (n:=i.toNat) (by omega)
  have hst:=allN_step d.Rules s.Items h1
  refine⟨by omega,by omega,hs,hS,⟨rfl,rfl,rfl,rfl,by omega,by omega,fun _ _=>rfl,by simp⟩,?_⟩
  rintro⟨o',i',n',k,⟨xs,dd⟩,⟨g1,g2,⟨⟩⟩,⟨⟩⟩ ⟨hi,hn',hg,hx,k1,k2,kd,ho⟩
  cases hg
  cases hi
  cases hn'
  have hx:xs=matchesR (List.getD d.Rules i.toNat zRule) s.Items:=hx
  subst hx
  cases ho
  simp only at k2 kd⊢
  refine if_dec (fun hk=> ?_) (fun hk=> ?_)
  ·have ht:=take_step (matchesR (List.getD d.Rules i.toNat zRule) s.Items) zMatch k1 hk
   rw[wrap_i64 (n:=k+1) (by omega) (by omega)]
   refine⟨k1,by omega,by omega,kd _ (by omega),?_,⟨rfl,rfl,rfl,rfl,by omega,by simp only;omega,dead_step k1 kd,?_⟩,by simp only[Zm32_6];omega⟩
   ·simp only[zce,zco,zaw,zbq,zbo];omega
   ·simp only[←ht,zef,zbr];rfl
  ·rw[take_all _ (by omega),←hst,wrap_i64 (n:=i+1) (by omega) (by omega)]
   exact⟨⟨rfl,by omega,by omega,rfl⟩,by simp only[Zm32_3];omega⟩
 ·have e:i.toNat=d.Rules.length:=by omega
  rw[e];exact Lf_rfl _
def Zh32:HH:=⟨_,Zo32⟩
def Zk29:Con UU where
 α:=DDef×DStore
 md:=[.ro,.ro]
 of:=oC (oA .eDef) (o1 (oA .eStore))
 ds:=fun x=>[dA .eDef x.1,dA .eStore x.2]
 pre:=fun(d,s)=>[∀r,r∈d.Rules→smallR r,s.Items.length≤40∧d.Rules.length≤12,∀r,r∈d.Rules→firstP r]
 res:=fun(d,s)=>⟨[dL .eMatch (allM d.Rules s.Items)],true,[]⟩
 law:=lC (lA .eDef) (l1 (lA .eStore))
def Zi29_3(d:DDef)(s:DStore):List DMatch×Int×(ByteArray×List DRule×Unit)×(List DItem×Int×Unit)×Unit→Prop:=fun(o,i,b,g,_)=>b=(d.Name,d.Rules,())∧g=(s.Items,s.Next,())∧0≤i∧i≤d.Rules.length∧o=allN d.Rules s.Items i.toNat
def Zm29_3(d:DDef)(s:DStore):List DMatch×Int×(ByteArray×List DRule×Unit)×(List DItem×Int×Unit)×Unit→Nat:=fun(o,i,b,g,_)=>d.Rules.length-i.toNat
def Zi29_7(d:DDef)(s:DStore):List DMatch×Int×Int×(List DMatch×(Nat→Bool))×(ByteArray×List DRule×Unit)×(List DItem×Int×Unit)×Unit→List DMatch×Int×Int×(List DMatch×(Nat→Bool))×(ByteArray×List DRule×Unit)×(List DItem×Int×Unit)×Unit→Prop:=fun(o0,i0,k0,p0,b0,g0,_) (o,i,k,p,b,g,_)=>i=i0∧b=b0∧g=g0∧p.1.length=p0.1.length∧0≤k∧k≤p0.1.length∧(∀j:Nat,k≤(j:Int)→p.2 j=false∧List.getD p.1 j zMatch=List.getD p0.1 j zMatch)∧o=o0++(p0.1.take k.toNat).map (ruled i)
def Zm29_7(d:DDef)(s:DStore):List DMatch×Int×Int×(List DMatch×(Nat→Bool))×(ByteArray×List DRule×Unit)×(List DItem×Int×Unit)×Unit→Nat:=fun(o,i,k,p,b,g,_)=>p.1.length-k.toNat
def Za29:Zk29.α→Nat→Option (Ann UU):=fun(d,s)=>annL [(3,annOf [.slot 5 (5,1024) (.own .eMatch true),.slot 6 (6,1024) (.lit (.int .i64)),.box 2 (2,1024) [.lit .str,.shr .eRule],.box 3 (3,1024) [.shr .eItem,.lit (.int .i64)]] (fun _=>Zi29_3 d s) (Zm29_3 d s)),(7,annOf [.slot 5 (5,1024) (.own .eMatch true),.slot 6 (6,1024) (.lit (.int .i64)),.slot 8 (8,1024) (.lit (.int .i64)),.slot 7 (7,1024) (.part .eMatch),.box 2 (2,1024) [.lit .str,.shr .eRule],.box 3 (3,1024) [.shr .eItem,.lit (.int .i64)]] (Zi29_7 d s) (Zm29_7 d s))]
def Zu29:=us [Zh84]
theorem Zo29:Holds EE (29,Zk29):=by
 refine holds_of EE_ok func29 Zk29 (by kernel_rfl) Zu29 (us_ok _) Za29 (fun x hp hb=> ?_)
 obtain⟨d,s⟩:=x
 have hz0:=bd_eDef (x:=d) (hb _ m0)
 have hl_d_Name:=hz0.1
 have hl_d_Rules:=hz0.2
 have hl_s_Items:=bd_eStore (x:=s) (hb _ m1)
 have hp0:∀r,r∈d.Rules→smallR r:=hp _ m0
 have hp1:s.Items.length≤40∧d.Rules.length≤12:=hp _ m1
 have hp2:∀r,r∈d.Rules→firstP r:=hp _ m2
 clear hp hb
 apply @ve _ (Zi29_3 d s ([],(0:Int),(d.Name,d.Rules,()),(s.Items,s.Next,()),())∧∀(y:List DMatch×Int×(ByteArray×List DRule×PUnit)×(List DItem×Int×PUnit)×PUnit),let x2:Nat:=y.2.2.1.2.1.length;let x3:Nat:=y.2.1.toNat;let x0:DRule:=List.getD y.2.2.1.2.1 x3 zRule;let x1:Int:=(↑x2:Int);Zi29_3 d s y→bif decide (y.2.1<x1) then(0:Int)≤y.2.1∧x3<x2∧smallR x0∧y.2.2.2.1.1.length≤(40:Nat)∧firstP x0∧Zi29_7 d s (y.1,y.2.1,(0:Int),(matchesR x0 y.2.2.2.1.1,fun(x:Nat)=>false),(y.2.2.1.1,y.2.2.1.2.1,()),(y.2.2.2.1.1,y.2.2.2.1.2.1,()),()) (y.1,y.2.1,(0:Int),(matchesR x0 y.2.2.2.1.1,fun(x:Nat)=>false),(y.2.2.1.1,y.2.2.1.2.1,()),(y.2.2.2.1.1,y.2.2.2.1.2.1,()),())∧∀(y_1:List DMatch×Int×Int×(List DMatch×(Nat→Bool))×(ByteArray×List DRule×PUnit)×(List DItem×Int×PUnit)×PUnit),let x5:Nat:=y_1.2.2.1.toNat;let x7:Nat:=y_1.2.2.2.fst.1.length;let x4:List DMatch:=List.modify y_1.2.2.2.fst.1 x5 fun(x:DMatch)=>{Rule:=y_1.2.1,Ids:=x.Ids,Binds:=x.Binds:DMatch};let x6:Int:=(↑x7:Int);Zi29_7 d s (y.1,y.2.1,(0:Int),(matchesR x0 y.2.2.2.1.1,fun(x:Nat)=>false),(y.2.2.1.1,y.2.2.1.2.1,()),(y.2.2.2.1.1,y.2.2.2.1.2.1,()),()) y_1→bif decide (y_1.2.2.1<x6) then(0:Int)≤y_1.2.2.1∧x5<x7∧x5<x7∧y_1.2.2.2.fst.2 x5=false∧(0:Int)≤y_1.2.2.1∧x5<x4.length∧x5<x4.length∧y_1.2.2.2.fst.2 x5=false∧y_1.1.length+List.length [List.getD x4 x5 zMatch]≤(4294967296:Nat)∧Zi29_7 d s (y.1,y.2.1,(0:Int),(matchesR x0 y.2.2.2.1.1,fun(x:Nat)=>false),(y.2.2.1.1,y.2.2.1.2.1,()),(y.2.2.2.1.1,y.2.2.2.1.2.1,()),()) (y_1.1++[List.getD x4 x5 zMatch],y_1.2.1,IntKind.wrap IntKind.i64 (y_1.2.2.1+(1:Int)),(x4,fun(j:Nat)=>Nat.beq j x5||y_1.2.2.2.fst.2 j),(y_1.2.2.2.2.1.1,y_1.2.2.2.2.1.2.1,()),(y_1.2.2.2.2.2.1.1,y_1.2.2.2.2.2.1.2.1,()),())∧Zm29_7 d s (y_1.1++[List.getD x4 x5 zMatch],y_1.2.1,IntKind.wrap IntKind.i64 (y_1.2.2.1+(1:Int)),(x4,fun(j:Nat)=>Nat.beq j x5||y_1.2.2.2.fst.2 j),(y_1.2.2.2.2.1.1,y_1.2.2.2.2.1.2.1,()),(y_1.2.2.2.2.2.1.1,y_1.2.2.2.2.2.1.2.1,()),())<Zm29_7 d s y_1 else Zi29_3 d s (y_1.1,IntKind.wrap IntKind.i64 (y_1.2.1+(1:Int)),(y_1.2.2.2.2.1.1,y_1.2.2.2.2.1.2.1,()),(y_1.2.2.2.2.2.1.1,y_1.2.2.2.2.2.1.2.1,()),())∧Zm29_3 d s (y_1.1,IntKind.wrap IntKind.i64 (y_1.2.1+(1:Int)),(y_1.2.2.2.2.1.1,y_1.2.2.2.2.1.2.1,()),(y_1.2.2.2.2.2.1.1,y_1.2.2.2.2.2.1.2.1,()),())<Zm29_3 d s y else Lf [VL .eMatch y.1] [VL .eMatch (allM d.Rules s.Items)]) (by kernel_rfl)
 dsimp only
 obtain⟨hS,hD⟩:=hp1
 refine⟨⟨rfl,rfl,by omega,by omega,rfl⟩,?_⟩
 rintro⟨o,i,⟨b1,b2,⟨⟩⟩,⟨g1,g2,⟨⟩⟩,⟨⟩⟩ ⟨hb,hg,h1,h2,rfl⟩
 cases hb
 cases hg
 simp only
 refine if_dec (fun hc=> ?_) (fun hc=> ?_)
 ·have hm:List.getD d.Rules i.toNat zRule∈d.Rules:=getD_in (by omega)
  have hs:=hp0 _ hm
  have hl:=matches_len hs hS
  have hn:=allN_len hp0 hS (n:=i.toNat) (by omega)
  have hst:=allN_step d.Rules s.Items h1
  refine⟨by omega,by omega,hs,hS,hp2 _ hm,⟨rfl,rfl,rfl,rfl,by omega,by omega,fun _ _=>⟨rfl,rfl⟩,by simp⟩,?_⟩
  rintro⟨o',i',k,⟨xs,dd⟩,⟨b1,b2,⟨⟩⟩,⟨g1,g2,⟨⟩⟩,⟨⟩⟩ ⟨hi,hb,hg,hx,k1,k2,kd,ho⟩
  cases hb
  cases hg
  cases hi
  cases ho
  simp only at k2 kd hx⊢
  refine if_dec (fun hk=> ?_) (fun hk=> ?_)
  ·have ht:=take_step (matchesR (List.getD d.Rules i.toNat zRule) s.Items) zMatch k1 (by omega)
   have hd:=kd k.toNat (by omega)
   rw[wrap_i64 (n:=k+1) (by omega) (by omega)]
   refine⟨k1,by omega,by omega,hd.1,k1,by rw[zbf];omega,by rw[zbf];omega,hd.1,?_,⟨rfl,rfl,rfl,by rw[zbf];exact hx,by omega,by simp only;omega,fun j hj=>⟨dead_step k1 (fun j hj=>(kd j hj).1) j hj,?_⟩,?_⟩,by simp only[Zm29_7,zbf];omega⟩
   ·simp only[zce,zco,zaw,zbq,zbo];omega
   ·rw[mod_ne _ (by omega)];exact(kd j (by omega)).2
   ·rw[mod_self _ (by omega),hd.2]
    simp only[←ht,zef,zbr];rfl
  ·rw[take_all _ (by omega),←hst,wrap_i64 (n:=i+1) (by omega) (by omega)]
   exact⟨⟨rfl,rfl,by omega,by omega,rfl⟩,by simp only[Zm29_3];omega⟩
 ·have e:i.toNat=d.Rules.length:=by omega
  rw[e];exact Lf_rfl _
def Zh29:HH:=⟨_,Zo29⟩
theorem filter_take:∀(ps:List DPat),(∀i,i<ps.length→notAt ps i=decide (posN ps≤i))→∀k,k<posN ps→List.getD ps k zPat=List.getD (ps.filter fun p=> !p.Not) k zPat
 |[],_,k,hk=>by simp[posN] at hk
 |p::ps,h,k,hk=>by
  have h0:=h 0 (by simp)
  have e0:notAt (p::ps) 0=p.Not:=rfl
  rw[e0,posN_cons] at h0
  cases hp:p.Not with
  |true=>
   rw[hp] at h0
   have h0:=of_decide_eq_true h0.symm
   rw[posN_cons,hp] at hk
   simp only[if_true] at h0 hk;omega
  |false=>
   have ef:(p::ps).filter (fun p=> !p.Not)=p::ps.filter fun p=> !p.Not:=by rw[List.filter_cons,hp];rfl
   rw[ef]
   cases k with
   |zero=>rfl
   |succ k=>
    rw[posN_cons,hp] at hk
    refine filter_take ps (fun i hi=> ?_) k (by simp only[zbg,if_false] at hk;omega)
    have:=h (i+1) (by simpa using hi)
    rw[posN_cons,hp] at this
    show notAt ps i=_
    refine(show notAt ps i=notAt (p::ps) (i+1) from rfl).trans (this.trans ?_)
    rw[decide_eq_decide];simp only[zbg,if_false];omega
theorem rule_small{r:DRule}(h:ruleOk r=true):smallR r∧firstP r:=by
 simp only[ruleOk,zaf] at h
 have hp:patsOkI r.Pats=true:=by rw[patsOkI_eq];exact h.1.1.2
 simp only[patsOkI,zaf,decide_eq_true_eq,allI_all,patAtI,patOk,beq_iff_eq] at hp
 obtain⟨⟨h1,h2⟩,h3⟩:=hp
 refine⟨⟨h2.2,h1.2,fun p hp=> ?_⟩,fun k hk=>filter_take r.Pats (fun i hi=>(h3 i hi).2) k hk⟩
 obtain⟨j,hj,rfl⟩:=zbk hp
 have:=(h3 j hj).1.1.2
 rwa[zac,zad hj] at this
theorem def_small{d:DDef}(h:defOk d=true):(∀r,r∈d.Rules→smallR r∧firstP r)∧d.Rules.length≤12:=by
 simp only[defOk,zaf,decide_eq_true_eq,allI_all,defAtR] at h
 refine⟨fun r hr=> ?_,h.1.2.2⟩
 obtain⟨j,hj,rfl⟩:=zbk hr
 have:=(h.2 j hj).1
 rw[zac,zad hj] at this
 exact rule_small this
structure DCur where
 b:List Int
 i:Int
 h:Int
def mixB(h:Int)(x:Int):Int:=IntKind.wrap .i64 (((BitVec.ofInt (IntKind.bits .i64) (IntKind.wrap .i64 (IntKind.wrap .i64 (IntKind.wrap .i64 (h*137)+IntKind.wrap .i64 x)+11))&&&BitVec.ofInt (IntKind.bits .i64) 1073741823).toNat:Nat):Int)
def seedB(code:List Int):Int:=(code.take 4000).foldl mixB (354354+code.length)
def newCur(code:List Int):DCur:=⟨code,0,seedB code⟩
def nextH(h:Int):Int:=IntKind.wrap .i64 (IntKind.wrap .i64 (h*6364136223846793005)+1442695040888963407)
def and255(x:Int):Int:=IntKind.wrap .i64 (((BitVec.ofInt (IntKind.bits .i64) x&&&BitVec.ofInt (IntKind.bits .i64) 255).toNat:Nat):Int)
def mixX(h:Int):Int:=and255 (IntKind.wrap .i64 (((BitVec.ofInt (IntKind.bits .i64) (Int.fdiv h ((2:Int)^min (Int.toNat 33) (IntKind.bits .i64)))^^^BitVec.ofInt (IntKind.bits .i64) (Int.fdiv h ((2:Int)^min (Int.toNat 47) (IntKind.bits .i64)))).toNat:Nat):Int))
def byteV(c:DCur):Int:=if c.i<c.b.length then and255 (IntKind.wrap .i64 (mixX (nextH c.h)+IntKind.wrap .i64 (List.getD c.b c.i.toNat 0))) else mixX (nextH c.h)
def byteC(c:DCur):DCur:=⟨c.b,if c.i<c.b.length then c.i+1 else c.i,nextH c.h⟩
theorem and255_le(x:Int):0≤and255 x∧and255 x≤255:=by
 unfold and255
 have h:(BitVec.ofInt 64 x&&&BitVec.ofInt 64 255).toNat≤255:=by
  rw[BitVec.toNat_and]
  exact zde Nat.and_le_right (by decide)
 have h':(BitVec.ofInt (IntKind.bits .i64) x&&&BitVec.ofInt (IntKind.bits .i64) 255).toNat≤255:=h
 rw[wrap_i64 (by omega) (by omega)]
 omega
theorem byteV_le(c:DCur):0≤byteV c∧byteV c≤255:=by
 unfold byteV
 split
 ·exact and255_le _
 ·exact and255_le _
theorem byteC_i{c:DCur}(h:0≤c.i):0≤(byteC c).i:=by
 simp only[byteC];split<;>omega
def belowV(c:DCur)(n:Int):Int:=if n≤0 then 0 else if n≤256 then Int.tmod (byteV c) n else Int.tmod (byteV c*65536+byteV (byteC c)*256+byteV (byteC (byteC c))) n
def belowC(c:DCur)(n:Int):DCur:=if n≤0 then c else if n≤256 then byteC c else byteC (byteC (byteC c))
theorem belowC_i{c:DCur}(h:0≤c.i)(n:Int):0≤(belowC c n).i:=by
 unfold belowC
 split
 ·exact h
 ·split
  ·exact byteC_i h
  ·exact byteC_i (byteC_i (byteC_i h))
theorem belowV_lt{c:DCur}{n:Int}(h:0<n):0≤belowV c n∧belowV c n<n:=by
 have h1:=byteV_le c;have h2:=byteV_le (byteC c);have h3:=byteV_le (byteC (byteC c))
 unfold belowV
 rw[if_neg (by omega)]
 split
 ·rw[zbp (by omega)];exact⟨Int.emod_nonneg _ (by omega),Int.emod_lt_of_pos _ h⟩
 ·rw[zbp (by omega)];exact⟨Int.emod_nonneg _ (by omega),Int.emod_lt_of_pos _ h⟩
def Zk26:Con UU where
 α:=(List Int)
 md:=[.ro]
 of:=o1 (oL .byte)
 ds:=fun x=>[dL .byte x]
 pre:=fun code=>[code.length≤4294967296]
 res:=fun code=>⟨[.box [.sl .byte ((newCur code)).b,.lit (.int .i64 ((newCur code)).i),.lit (.int .i64 ((newCur code)).h)]],true,[]⟩
 law:=l1 (lL .byte)
def Zi26_3(code:(List Int)):Int×Int×Unit→Prop:=fun(h,i,_)=>0≤i∧i≤code.length∧i≤4000∧h=(code.take i.toNat).foldl mixB (354354+code.length)
def Zm26_3(code:(List Int)):Int×Int×Unit→Nat:=fun(h,i,_)=>code.length-i.toNat
def Za26:Zk26.α→Nat→Option (Ann UU):=fun code=>annL [(3,annOf [.slot 3 (3,1024) (.lit (.int .i64)),.slot 4 (4,1024) (.lit (.int .i64))] (fun _=>Zi26_3 code) (Zm26_3 code))]
def Zu26:List (FuncId×Con UU):=[]
theorem Zo26:Holds EE (26,Zk26):=by
 refine holds_of EE_ok func26 Zk26 (by kernel_rfl) Zu26 all_nil Za26 (fun(code:(List Int)) hp hb=> ?_)
 have hl_code:code.length≤9223372036854775807:=bdL (hb _ m0)
 have hp0:code.length≤4294967296:=hp _ m0
 clear hp hb
 apply @ve _ (Zi26_3 code (IntKind.wrap IntKind.i64 ((354354:Int)+(code.length:Int)),(0:Int),())∧∀(y:Int×Int×PUnit),let x0:Nat:=y.2.1.toNat;Zi26_3 code y→bif decide (y.2.1<(code.length:Int)) then bif decide (y.2.1<(4000:Int)) then(0:Int)≤y.2.1∧x0<code.length∧Zi26_3 code (IntKind.wrap IntKind.i64 (↑(BitVec.toNat (BitVec.ofInt (IntKind.bits IntKind.i64) (IntKind.wrap IntKind.i64 (IntKind.wrap IntKind.i64 (IntKind.wrap IntKind.i64 (y.1*(137:Int))+IntKind.wrap IntKind.i64 (List.getD code x0 (0:Int)))+(11:Int)))&&&BitVec.ofInt (IntKind.bits IntKind.i64) (1073741823:Int))):Int),IntKind.wrap IntKind.i64 (y.2.1+(1:Int)),())∧Zm26_3 code (IntKind.wrap IntKind.i64 (↑(BitVec.toNat (BitVec.ofInt (IntKind.bits IntKind.i64) (IntKind.wrap IntKind.i64 (IntKind.wrap IntKind.i64 (IntKind.wrap IntKind.i64 (y.1*(137:Int))+IntKind.wrap IntKind.i64 (List.getD code x0 (0:Int)))+(11:Int)))&&&BitVec.ofInt (IntKind.bits IntKind.i64) (1073741823:Int))):Int),IntKind.wrap IntKind.i64 (y.2.1+(1:Int)),())<Zm26_3 code y else Lf [DV.box [CL .byte code,CI (0:Int),CI y.1]] [DV.box [CL .byte (newCur code).b,CI ((newCur code).i),CI ((newCur code).h)]] else Lf [DV.box [CL .byte code,CI (0:Int),CI y.1]] [DV.box [CL .byte (newCur code).b,CI ((newCur code).i),CI ((newCur code).h)]]) (by kernel_rfl)
 dsimp only
 refine⟨⟨by omega,by omega,by omega,by rw[wrap_i64 (by omega) (by omega)];rfl⟩,?_⟩
 rintro⟨h,i,⟨⟩⟩ ⟨h1,h2,h3,rfl⟩
 simp only
 have hE:(i=code.length∨i=4000)→(code.take i.toNat).foldl mixB (354354+code.length)=(newCur code).h:=by
  intro hh
  show _=(code.take 4000).foldl mixB (354354+code.length)
  rcases hh with hh|hh
  ·rw[zcy (by omega),zcy (by omega)]
  ·rw[hh];rfl
 refine if_cond (fun hc=>if_cond (fun hd=> ?_) (fun hd=> ?_)) (fun hc=> ?_)
 ·have hc:=of_decide_eq_true hc;have hd:=of_decide_eq_true hd
  rw[wrap_i64 (n:=i+1) (by omega) (by omega)]
  refine⟨h1,by omega,⟨by omega,by omega,by omega,?_⟩,by simp only[Zm26_3];omega⟩
  rw[←take_step code 0 h1 (by omega),List.foldl_append]
  rfl
 ·have hc:=of_decide_eq_true hc;have hd:=of_decide_eq_false hd
  rw[hE (by omega)];exact Lf_rfl _
 ·have hc:=of_decide_eq_false hc
  rw[hE (by omega)];exact Lf_rfl _
def Zh26:HH:=⟨_,Zo26⟩
def Zk85:Con UU where
 α:=DCur
 md:=[.box false]
 of:=fun|[.box [.sl .byte a0,.lit (.int .i64 a1),.lit (.int .i64 a2)]]=>some ⟨a0,a1,a2⟩|_=>none
 ds:=fun c=>[.box [.sl .byte c.b,.lit (.int .i64 c.i),.lit (.int .i64 c.h)]]
 pre:=fun c=>[0≤c.i,c.b.length≤4294967296]
 res:=fun c=>⟨[.one (.lit (.int .i64 (byteV c)))],true,[.box [.sl .byte ((byteC c)).b,.lit (.int .i64 ((byteC c)).i),.lit (.int .i64 ((byteC c)).h)]]⟩
 law:=by intro l x h;(try simp only at h);split at h<;>cases h;rfl
def Za85:Zk85.α→Nat→Option (Ann UU):=fun c=>annL []
def Zu85:List (FuncId×Con UU):=[]
theorem Zo85:Holds EE (85,Zk85):=by
 refine holds_of EE_ok func85 Zk85 (by kernel_rfl) Zu85 all_nil Za85 (fun(c:DCur) hp hb=> ?_)
 have hb_c:BdDV (U:=UU) (.box [.sl .byte c.b,.lit (.int .i64 c.i),.lit (.int .i64 c.h)]):=hb _ (zab)
 have hl_c_b:c.b.length≤9223372036854775807:=Bd.len (U:=UU) (τ:=.byte) (xs:=c.b) (hb_c _ (by simp))
 have hp0:0≤c.i:=hp _ (zab)
 have hp1:c.b.length≤4294967296:=hp _ (zaa _ (zab))
 clear hp hb
 apply @ve _ (let x1:Int:=IntKind.wrap IntKind.i64 (IntKind.wrap IntKind.i64 (c.h*(6364136223846793005:Int))+(1442695040888963407:Int));let x0:Int:=IntKind.wrap IntKind.i64 (↑(BitVec.toNat (BitVec.ofInt (IntKind.bits IntKind.i64) (IntKind.wrap IntKind.i64 (↑(BitVec.toNat (BitVec.ofInt (IntKind.bits IntKind.i64) (Int.fdiv x1 ((2:Int)^min (Int.toNat (33:Int)) (IntKind.bits IntKind.i64)))^^^BitVec.ofInt (IntKind.bits IntKind.i64) (Int.fdiv x1 ((2:Int)^min (Int.toNat (47:Int)) (IntKind.bits IntKind.i64))))):Int))&&&BitVec.ofInt (IntKind.bits IntKind.i64) (255:Int))):Int);(0:Int)≤(33:Int)∧(0:Int)≤(47:Int)∧bif decide (c.i<(c.b.length:Int)) then(0:Int)≤c.i∧c.i.toNat<c.b.length∧(0:Nat)=(0:Nat)∧asD [VI (IntKind.wrap IntKind.i64 (↑(BitVec.toNat (BitVec.ofInt (IntKind.bits IntKind.i64) (IntKind.wrap IntKind.i64 (x0+IntKind.wrap IntKind.i64 (List.getD c.b c.i.toNat (0:Int))))&&&BitVec.ofInt (IntKind.bits IntKind.i64) (255:Int))):Int))]=asD [VI (byteV c)]∧asD [DV.box [CL .byte c.b,CI (IntKind.wrap IntKind.i64 (c.i+(1:Int))),CI x1]]=asD [DV.box [CL .byte (byteC c).b,CI ((byteC c).i),CI ((byteC c).h)]] else(0:Nat)=(0:Nat)∧asD [VI x0]=asD [VI (byteV c)]∧asD [DV.box [CL .byte c.b,CI c.i,CI x1]]=asD [DV.box [CL .byte (byteC c).b,CI ((byteC c).i),CI ((byteC c).h)]]) (by kernel_rfl)
 dsimp only
 refine⟨by omega,by omega,if_cond (fun h=> ?_) (fun h=> ?_)⟩
 ·have h:=of_decide_eq_true h
  have e1:byteV c=and255 (IntKind.wrap .i64 (mixX (nextH c.h)+IntKind.wrap .i64 (List.getD c.b c.i.toNat 0))):=if_pos h
  have e2:(byteC c).i=c.i+1:=if_pos h
  rw[e1,e2,wrap_i64 (n:=c.i+1) (by omega) (by omega)]
  exact⟨hp0,by omega,rfl,rfl,rfl⟩
 ·have h:=of_decide_eq_false h
  have e1:byteV c=mixX (nextH c.h):=if_neg h
  have e2:(byteC c).i=c.i:=if_neg h
  rw[e1,e2]
  exact⟨rfl,rfl,rfl⟩
def Zh85:HH:=⟨_,Zo85⟩
def Zk30:Con UU where
 α:=DCur×Int
 md:=[.box false,.ro]
 of:=fun|[.box [.sl .byte a0,.lit (.int .i64 a1),.lit (.int .i64 a2)],.one (.lit (.int .i64 a3))]=>some (⟨a0,a1,a2⟩,a3)|_=>none
 ds:=fun(c,n)=>[.box [.sl .byte c.b,.lit (.int .i64 c.i),.lit (.int .i64 c.h)],.one (.lit (.int .i64 n))]
 pre:=fun(c,n)=>[0≤c.i,c.b.length≤4294967296]
 res:=fun(c,n)=>⟨[.one (.lit (.int .i64 (belowV c n)))],true,[.box [.sl .byte ((belowC c n)).b,.lit (.int .i64 ((belowC c n)).i),.lit (.int .i64 ((belowC c n)).h)]]⟩
 law:=by intro l x h;(try simp only at h);split at h<;>cases h;rfl
def Za30:Zk30.α→Nat→Option (Ann UU):=fun(c,n)=>annL []
def Zu30:=us [Zh85]
theorem Zo30:Holds EE (30,Zk30):=by
 refine holds_of EE_ok func30 Zk30 (by kernel_rfl) Zu30 (us_ok _) Za30 (fun x hp hb=> ?_)
 obtain⟨c,n⟩:=x
 have hb_c:BdDV (U:=UU) (.box [.sl .byte c.b,.lit (.int .i64 c.i),.lit (.int .i64 c.h)]):=hb _ (zab)
 have hl_c_b:c.b.length≤9223372036854775807:=Bd.len (U:=UU) (τ:=.byte) (xs:=c.b) (hb_c _ (by simp))
 have hb_n:BdDV (U:=UU) (.one (.lit (.int .i64 n))):=hb _ (zaa _ (zab))
 have hl_n:=Bd.i64 hb_n
 have hp0:0≤c.i:=hp _ (zab)
 have hp1:c.b.length≤4294967296:=hp _ (zaa _ (zab))
 clear hp hb
 apply @ve _ (bif decide (n≤(0:Int)) then(0:Nat)=(0:Nat)∧asD [VI (0:Int)]=asD [VI (belowV c n)]∧asD [DV.box [CL .byte c.b,CI c.i,CI c.h]]=asD [DV.box [CL .byte (belowC c n).b,CI ((belowC c n).i),CI ((belowC c n).h)]] else bif decide (n≤(256:Int)) then(0:Int)≤c.i∧c.b.length≤(4294967296:Nat)∧n≠(0:Int)∧(0:Nat)=(0:Nat)∧asD [VI (Int.tmod (byteV c) n)]=asD [VI (belowV c n)]∧asD [DV.box [CL .byte (byteC c).b,CI ((byteC c).i),CI ((byteC c).h)]]=asD [DV.box [CL .byte (belowC c n).b,CI ((belowC c n).i),CI ((belowC c n).h)]] else(0:Int)≤c.i∧c.b.length≤(4294967296:Nat)∧(0:Int)≤(byteC c).i∧List.length (byteC c).b≤(4294967296:Nat)∧(0:Int)≤(byteC (byteC c)).i∧List.length (byteC (byteC c)).b≤(4294967296:Nat)∧n≠(0:Int)∧(0:Nat)=(0:Nat)∧asD [VI (Int.tmod (IntKind.wrap IntKind.i64 (IntKind.wrap IntKind.i64 (IntKind.wrap IntKind.i64 (byteV c*(65536:Int))+IntKind.wrap IntKind.i64 (byteV (byteC c)*(256:Int)))+byteV (byteC (byteC c)))) n)]=asD [VI (belowV c n)]∧asD [DV.box [CL .byte (byteC (byteC (byteC c))).b,CI ((byteC (byteC (byteC c))).i),CI ((byteC (byteC (byteC c))).h)]]=asD [DV.box [CL .byte (belowC c n).b,CI ((belowC c n).i),CI ((belowC c n).h)]]) (by kernel_rfl)
 have b1:=byteV_le c;have b2:=byteV_le (byteC c);have b3:=byteV_le (byteC (byteC c))
 refine if_cond (fun h=> ?_) (fun h=>if_cond (fun h2=> ?_) (fun h2=> ?_))
 ·have h:=of_decide_eq_true h
  have e1:belowV c n=0:=if_pos h
  have e2:belowC c n=c:=if_pos h
  rw[e1,e2];exact⟨rfl,rfl,rfl⟩
 ·have h:=of_decide_eq_false h;have h2:=of_decide_eq_true h2
  have e1:belowV c n=Int.tmod (byteV c) n:=by rw[belowV,if_neg h,if_pos h2]
  have e2:belowC c n=byteC c:=by rw[belowC,if_neg h,if_pos h2]
  rw[e1,e2];exact⟨hp0,hp1,by omega,rfl,rfl,rfl⟩
 ·have h:=of_decide_eq_false h;have h2:=of_decide_eq_false h2
  have e1:belowV c n=Int.tmod (byteV c*65536+byteV (byteC c)*256+byteV (byteC (byteC c))) n:=by rw[belowV,if_neg h,if_neg h2]
  have e2:belowC c n=byteC (byteC (byteC c)):=by rw[belowC,if_neg h,if_neg h2]
  have w1:IntKind.wrap .i64 (byteV c*65536)=byteV c*65536:=wrap_i64 (by omega) (by omega)
  have w2:IntKind.wrap .i64 (byteV (byteC c)*256)=byteV (byteC c)*256:=wrap_i64 (by omega) (by omega)
  rw[w1,w2,e1,e2,wrap_i64 (n:=byteV c*65536+byteV (byteC c)*256) (by omega) (by omega),wrap_i64 (n:=byteV c*65536+byteV (byteC c)*256+byteV (byteC (byteC c))) (by omega) (by omega)]
  exact⟨hp0,hp1,byteC_i hp0,hp1,byteC_i (byteC_i hp0),hp1,by omega,rfl,rfl,rfl⟩
def Zh30:HH:=⟨_,Zo30⟩
def Zk152:Con UU where
 α:=DCur×(List Int)
 md:=[.box false,.ro]
 of:=fun|[.box [.sl .byte a0,.lit (.int .i64 a1),.lit (.int .i64 a2)],.one (.sl .int a3)]=>some (⟨a0,a1,a2⟩,a3)|_=>none
 ds:=fun(c,list)=>[.box [.sl .byte c.b,.lit (.int .i64 c.i),.lit (.int .i64 c.h)],.one (.sl .int list)]
 pre:=fun(c,list)=>[0≤c.i,c.b.length≤4294967296,1≤list.length]
 res:=fun(c,list)=>⟨[.one (.lit (.int .i64 (List.getD list (belowV c list.length).toNat 0)))],true,[.box [.sl .byte ((belowC c list.length)).b,.lit (.int .i64 ((belowC c list.length)).i),.lit (.int .i64 ((belowC c list.length)).h)]]⟩
 law:=by intro l x h;(try simp only at h);split at h<;>cases h;rfl
def Za152:Zk152.α→Nat→Option (Ann UU):=fun(c,list)=>annL []
def Zu152:=us [Zh30]
theorem Zo152:Holds EE (152,Zk152):=by
 refine holds_of EE_ok func152 Zk152 (by kernel_rfl) Zu152 (us_ok _) Za152 (fun x hp hb=> ?_)
 obtain⟨c,list⟩:=x
 have hb_c:BdDV (U:=UU) (.box [.sl .byte c.b,.lit (.int .i64 c.i),.lit (.int .i64 c.h)]):=hb _ (zab)
 have hl_c_b:c.b.length≤9223372036854775807:=Bd.len (U:=UU) (τ:=.byte) (xs:=c.b) (hb_c _ (by simp))
 have hb_list:BdDV (U:=UU) (.one (.sl .int list)):=hb _ (zaa _ (zab))
 have hl_list:list.length≤9223372036854775807:=Bd.len hb_list
 have hp0:0≤c.i:=hp _ (zab)
 have hp1:c.b.length≤4294967296:=hp _ (zaa _ (zab))
 have hp2:1≤list.length:=hp _ (zaa _ (zaa _ (zab)))
 clear hp hb
 apply @ve _ (let x0:DCur:=belowC c (list.length:Int);(0:Int)≤c.i∧c.b.length≤(4294967296:Nat)∧(0:Int)≤belowV c (list.length:Int)∧Int.toNat (belowV c (list.length:Int))<list.length∧(0:Nat)=(0:Nat)∧asD [VI (List.getD list (Int.toNat (belowV c (list.length:Int))) (0:Int))]=asD [VI (List.getD list (Int.toNat (belowV c (list.length:Int))) (0:Int))]∧asD [DV.box [CL .byte x0.b,CI x0.i,CI x0.h]]=asD [DV.box [CL .byte x0.b,CI x0.i,CI x0.h]]) (by kernel_rfl)
 dsimp only
 have hb:=belowV_lt (c:=c) (n:=list.length) (by omega)
 exact⟨hp0,hp1,hb.1,by omega,rfl,rfl,rfl⟩
def Zh152:HH:=⟨_,Zo152⟩
def cOk(c:DCur):Prop:=0≤c.i∧c.b.length≤4294967296
theorem cOk_below{c:DCur}(h:cOk c)(n:Int):cOk (belowC c n):=by
 refine⟨belowC_i h.1 n,?_⟩
 have:(belowC c n).b=c.b:=by
  unfold belowC
  split
  ·rfl
  ·split<;>rfl
 rw[this];exact h.2
theorem cOk_new{code:List Int}(h:code.length≤4294967296):cOk (newCur code):=⟨Int.le_refl 0,h⟩
def onceV(c:DCur)(n:Int):Bool:=decide (belowV c n=0)
def strV(c:DCur)(l:List ByteArray):ByteArray:=List.getD l (belowV c l.length).toNat noBytes
def strC(c:DCur)(l:List ByteArray):DCur:=belowC c l.length
def intV(c:DCur)(l:List Int):Int:=List.getD l (belowV c l.length).toNat 0
def intC(c:DCur)(l:List Int):DCur:=belowC c l.length
theorem cOk_str{c:DCur}(h:cOk c)(l:List ByteArray):cOk (strC c l):=cOk_below h _
theorem cOk_int{c:DCur}(h:cOk c)(l:List Int):cOk (intC c l):=cOk_below h _
theorem strV_mem(c:DCur){l:List ByteArray}(h:0<l.length):strV c l∈l:=by
 have hb:=belowV_lt (c:=c) (n:=l.length) (by omega)
 have hi:(belowV c l.length).toNat<l.length:=by omega
 rw[strV,zac,zad hi]
 exact zda hi
theorem intV_mem(c:DCur){l:List Int}(h:0<l.length):intV c l∈l:=by
 have hb:=belowV_lt (c:=c) (n:=l.length) (by omega)
 have hi:(belowV c l.length).toNat<l.length:=by omega
 rw[intV,zac,zad hi]
 exact zda hi
theorem strV_all(c:DCur){l:List ByteArray}(p:ByteArray→Bool)(h0:0<l.length)(h:l.all p=true):p (strV c l)=true:=zcb.1 h _ (strV_mem c h0)
theorem intV_all(c:DCur){l:List Int}(p:Int→Bool)(h0:0<l.length)(h:l.all p=true):p (intV c l)=true:=zcb.1 h _ (intV_mem c h0)
def sLsmall:List ByteArray:=[⟨#[97]⟩,⟨#[98]⟩]
def smallV(c:DCur):DVal:=if onceV c 2 then⟨1,1+belowV (belowC c 2) 3,noBytes⟩ else⟨2,0,strV (belowC c 2) sLsmall⟩
def smallC(c:DCur):DCur:=if onceV c 2 then belowC (belowC c 2) 3 else strC (belowC c 2) sLsmall
theorem cOk_small{c:DCur}(h:cOk c):cOk (smallC c):=by
 unfold smallC;split
 ·exact cOk_below (cOk_below h _) _
 ·exact cOk_str (cOk_below h _) _
def sLkind:List ByteArray:=[⟨#[111,114,100,101,114]⟩,⟨#[112,97,105,100]⟩,⟨#[105,116,101,109]⟩,⟨#[111,114,100,101,114]⟩]
def bItem:ByteArray:=⟨#[105,116,101,109]⟩
def smallsL:Nat→List DVal→DCur→List DVal
 |0,l,_=>l
 |k+1,l,c=>smallsL k (l++[smallV c]) (smallC c)
def smallsC:Nat→DCur→DCur
 |0,c=>c
 |k+1,c=>smallsC k (smallC c)
theorem cOk_smalls:∀{k:Nat}{c:DCur},cOk c→cOk (smallsC k c)
 |0,_,h=>h
 |k+1,_,h=>cOk_smalls (k:=k) (cOk_small h)
def factN(c:DCur):Int:=if onceV (strC c sLkind) 12 then belowV (belowC (strC c sLkind) 12) 6 else if strV c sLkind=bItem then 2 else 1
def factD(c:DCur):DCur:=if onceV (strC c sLkind) 12 then belowC (belowC (strC c sLkind) 12) 6 else belowC (strC c sLkind) 12
def factV(c:DCur):DFact:=⟨strV c sLkind,smallsL (factN c).toNat [] (factD c)⟩
def factC(c:DCur):DCur:=smallsC (factN c).toNat (factD c)
theorem cOk_factD{c:DCur}(h:cOk c):cOk (factD c):=by
 have:=cOk_below (cOk_str h sLkind) 12
 unfold factD;split
 ·exact cOk_below this _
 ·exact this
theorem cOk_fact{c:DCur}(h:cOk c):cOk (factC c):=cOk_smalls (cOk_factD h)
theorem smallsL_len:∀(k:Nat)(l:List DVal)(c:DCur),(smallsL k l c).length=l.length+k
 |0,_,_=>rfl
 |k+1,l,c=>by rw[smallsL,smallsL_len k];simp only[zce,zbq,zbo];omega
theorem factV_len(c:DCur):(factV c).Fields.length=(factN c).toNat:=by
 show(smallsL _ _ _).length=_
 rw[smallsL_len];simp
theorem factN_le(c:DCur):0≤factN c∧factN c≤5:=by
 have:=belowV_lt (c:=belowC (strC c sLkind) 12) (n:=6) (by omega)
 unfold factN
 split
 ·omega
 ·split<;>omega
def Zk80:Con UU where
 α:=DCur×Int
 md:=[.box false,.ro]
 of:=fun|[.box [.sl .byte a0,.lit (.int .i64 a1),.lit (.int .i64 a2)],.one (.lit (.int .i64 a3))]=>some (⟨a0,a1,a2⟩,a3)|_=>none
 ds:=fun(c,n)=>[.box [.sl .byte c.b,.lit (.int .i64 c.i),.lit (.int .i64 c.h)],.one (.lit (.int .i64 n))]
 pre:=fun(c,n)=>[cOk c]
 res:=fun(c,n)=>⟨[.one (.lit (.bool (onceV c n)))],true,[.box [.sl .byte ((belowC c n)).b,.lit (.int .i64 ((belowC c n)).i),.lit (.int .i64 ((belowC c n)).h)]]⟩
 law:=by intro l x h;(try simp only at h);split at h<;>cases h;rfl
def Za80:Zk80.α→Nat→Option (Ann UU):=fun(c,n)=>annL []
def Zu80:=us [Zh30]
theorem Zo80:Holds EE (80,Zk80):=by
 refine holds_of EE_ok func80 Zk80 (by kernel_rfl) Zu80 (us_ok _) Za80 (fun x hp hb=> ?_)
 obtain⟨c,n⟩:=x
 have hb_c:BdDV (U:=UU) (.box [.sl .byte c.b,.lit (.int .i64 c.i),.lit (.int .i64 c.h)]):=hb _ (zab)
 have hl_c_b:c.b.length≤9223372036854775807:=Bd.len (U:=UU) (τ:=.byte) (xs:=c.b) (hb_c _ (by simp))
 have hb_n:BdDV (U:=UU) (.one (.lit (.int .i64 n))):=hb _ (zaa _ (zab))
 have hl_n:=Bd.i64 hb_n
 have hp0:cOk c:=hp _ (zab)
 clear hp hb
 apply @ve _ ((0:Int)≤c.i∧c.b.length≤(4294967296:Nat)∧(0:Nat)=(0:Nat)∧asD [VB (belowV c n==(0:Int))]=asD [VB (onceV c n)]∧asD [DV.box [CL .byte (belowC c n).b,CI ((belowC c n).i),CI ((belowC c n).h)]]=asD [DV.box [CL .byte (belowC c n).b,CI ((belowC c n).i),CI ((belowC c n).h)]]) (by kernel_rfl)
 exact⟨hp0.1,hp0.2,rfl,rfl,rfl⟩
def Zh80:HH:=⟨_,Zo80⟩
def Zk78:Con UU where
 α:=DCur×(List ByteArray)
 md:=[.box false,.ro]
 of:=fun|[.box [.sl .byte a0,.lit (.int .i64 a1),.lit (.int .i64 a2)],.one (.sl .str a3)]=>some (⟨a0,a1,a2⟩,a3)|_=>none
 ds:=fun(c,list)=>[.box [.sl .byte c.b,.lit (.int .i64 c.i),.lit (.int .i64 c.h)],.one (.sl .str list)]
 pre:=fun(c,list)=>[cOk c,1≤list.length]
 res:=fun(c,list)=>⟨[.one (.lit (.string (strV c list)))],true,[.box [.sl .byte ((strC c list)).b,.lit (.int .i64 ((strC c list)).i),.lit (.int .i64 ((strC c list)).h)]]⟩
 law:=by intro l x h;(try simp only at h);split at h<;>cases h;rfl
def Za78:Zk78.α→Nat→Option (Ann UU):=fun(c,list)=>annL []
def Zu78:=us [Zh30]
theorem Zo78:Holds EE (78,Zk78):=by
 refine holds_of EE_ok func78 Zk78 (by kernel_rfl) Zu78 (us_ok _) Za78 (fun x hp hb=> ?_)
 obtain⟨c,list⟩:=x
 have hb_c:BdDV (U:=UU) (.box [.sl .byte c.b,.lit (.int .i64 c.i),.lit (.int .i64 c.h)]):=hb _ (zab)
 have hl_c_b:c.b.length≤9223372036854775807:=Bd.len (U:=UU) (τ:=.byte) (xs:=c.b) (hb_c _ (by simp))
 have hb_list:BdDV (U:=UU) (.one (.sl .str list)):=hb _ (zaa _ (zab))
 have hl_list:list.length≤9223372036854775807:=Bd.len hb_list
 have hp0:cOk c:=hp _ (zab)
 have hp1:1≤list.length:=hp _ (zaa _ (zab))
 clear hp hb
 apply @ve _ (let x0:DCur:=belowC c (list.length:Int);(0:Int)≤c.i∧c.b.length≤(4294967296:Nat)∧(0:Int)≤belowV c (list.length:Int)∧Int.toNat (belowV c (list.length:Int))<list.length∧(0:Nat)=(0:Nat)∧asD [VS (List.getD list (Int.toNat (belowV c (list.length:Int))) noBytes)]=asD [VS (strV c list)]∧asD [DV.box [CL .byte x0.b,CI x0.i,CI x0.h]]=asD [DV.box [CL .byte (strC c list).b,CI ((strC c list).i),CI ((strC c list).h)]]) (by kernel_rfl)
 dsimp only
 have hb:=belowV_lt (c:=c) (n:=list.length) (by omega)
 exact⟨hp0.1,hp0.2,hb.1,by omega,rfl,rfl,rfl⟩
def Zh78:HH:=⟨_,Zo78⟩
def Zk160:Con UU where
 α:=DCur
 md:=[.box false]
 of:=fun|[.box [.sl .byte a0,.lit (.int .i64 a1),.lit (.int .i64 a2)]]=>some ⟨a0,a1,a2⟩|_=>none
 ds:=fun c=>[.box [.sl .byte c.b,.lit (.int .i64 c.i),.lit (.int .i64 c.h)]]
 pre:=fun c=>[cOk c]
 res:=fun c=>⟨[.agg [.lit (.int .i64 ((smallV c)).K),.lit (.int .i64 ((smallV c)).N),.lit (.string ((smallV c)).S)]],true,[.box [.sl .byte ((smallC c)).b,.lit (.int .i64 ((smallC c)).i),.lit (.int .i64 ((smallC c)).h)]]⟩
 law:=by intro l x h;(try simp only at h);split at h<;>cases h;rfl
def Za160:Zk160.α→Nat→Option (Ann UU):=fun c=>annL []
def Zu160:=us [Zh80,Zh30,Zh78]
theorem Zo160:Holds EE (160,Zk160):=by
 refine holds_of EE_ok func160 Zk160 (by kernel_rfl) Zu160 (us_ok _) Za160 (fun(c:DCur) hp hb=> ?_)
 have hb_c:BdDV (U:=UU) (.box [.sl .byte c.b,.lit (.int .i64 c.i),.lit (.int .i64 c.h)]):=hb _ (zab)
 have hl_c_b:c.b.length≤9223372036854775807:=Bd.len (U:=UU) (τ:=.byte) (xs:=c.b) (hb_c _ (by simp))
 have hp0:cOk c:=hp _ (zab)
 clear hp hb
 apply @ve _ (let x1:List ByteArray:=[{data:= #[(97:UInt8)]:ByteArray},{data:= #[(98:UInt8)]:ByteArray}];let x2:DCur:=belowC (belowC c (2:Int)) (3:Int);let x0:DCur:=strC (belowC c (2:Int)) x1;cOk c∧bif onceV c (2:Int) then(0:Int)≤(belowC c (2:Int)).i∧List.length (belowC c (2:Int)).b≤(4294967296:Nat)∧(0:Nat)=(0:Nat)∧asD [DV.agg [CI (1:Int),CI (IntKind.wrap IntKind.i64 ((1:Int)+belowV (belowC c (2:Int)) (3:Int))),CS ({data:= #[]:ByteArray})]]=asD [DV.agg [CI ((smallV c).K),CI ((smallV c).N),CS ((smallV c).S)]]∧asD [DV.box [CL .byte x2.b,CI x2.i,CI x2.h]]=asD [DV.box [CL .byte (smallC c).b,CI ((smallC c).i),CI ((smallC c).h)]] else cOk (belowC c (2:Int))∧(1:Nat)≤x1.length∧(0:Nat)=(0:Nat)∧asD [DV.agg [CI (2:Int),CI (0:Int),CS (strV (belowC c (2:Int)) x1)]]=asD [DV.agg [CI ((smallV c).K),CI ((smallV c).N),CS ((smallV c).S)]]∧asD [DV.box [CL .byte x0.b,CI x0.i,CI x0.h]]=asD [DV.box [CL .byte (smallC c).b,CI ((smallC c).i),CI ((smallC c).h)]]) (by kernel_rfl)
 dsimp only
 refine⟨hp0,if_cond (fun h=> ?_) (fun h=> ?_)⟩
 ·have hb:=belowV_lt (c:=belowC c 2) (n:=3) (by omega)
  have h2:=cOk_below hp0 2
  rw[wrap_i64 (by omega) (by omega)]
  rw[smallV,smallC,if_pos h,if_pos h];exact⟨h2.1,h2.2,rfl,rfl,rfl⟩
 ·have h2:=cOk_below hp0 2
  rw[smallV,smallC,if_neg (by simp[h]),if_neg (by simp[h])];exact⟨h2,by simp,rfl,rfl,rfl⟩
def Zh160:HH:=⟨_,Zo160⟩
def Zk83:Con UU where
 α:=DCur
 md:=[.box false]
 of:=fun|[.box [.sl .byte a0,.lit (.int .i64 a1),.lit (.int .i64 a2)]]=>some ⟨a0,a1,a2⟩|_=>none
 ds:=fun c=>[.box [.sl .byte c.b,.lit (.int .i64 c.i),.lit (.int .i64 c.h)]]
 pre:=fun c=>[cOk c]
 res:=fun c=>⟨[.agg [.lit (.string ((factV c)).Kind),.sl .eVal ((factV c)).Fields]],true,[.box [.sl .byte ((factC c)).b,.lit (.int .i64 ((factC c)).i),.lit (.int .i64 ((factC c)).h)]]⟩
 law:=by intro l x h;(try simp only at h);split at h<;>cases h;rfl
def Zi83_8(c:DCur):Int×(ByteArray×List DVal×Unit)×(ByteArray×List DVal×Unit)×(List Int×Int×Int×Unit)×Unit→Prop:=fun(i,r,f,cu,_)=>0≤i∧i≤factN c∧f.1=strV c sLkind∧cOk ⟨cu.1,cu.2.1,cu.2.2.1⟩∧f.2.1.length≤i∧smallsL (factN c-i).toNat f.2.1 ⟨cu.1,cu.2.1,cu.2.2.1⟩=(factV c).Fields∧smallsC (factN c-i).toNat ⟨cu.1,cu.2.1,cu.2.2.1⟩=factC c
def Zm83_8(c:DCur):Int×(ByteArray×List DVal×Unit)×(ByteArray×List DVal×Unit)×(List Int×Int×Int×Unit)×Unit→Nat:=fun(i,r,f,cu,_)=>(factN c-i).toNat
def Za83:Zk83.α→Nat→Option (Ann UU):=fun c=>annL [(8,annOf [.slot 5 (5,1024) (.lit (.int .i64)),.box 2 (2,1024) [.lit .str,.own .eVal true],.box 3 (3,1024) [.lit .str,.own .eVal true],.box 0 (2000000,0) [.shr .byte,.lit (.int .i64),.lit (.int .i64)]] (fun _=>Zi83_8 c) (Zm83_8 c))]
def Zu83:=us [Zh78,Zh80,Zh30,Zh160]
theorem Zo83:Holds EE (83,Zk83):=by
 refine holds_of EE_ok func83 Zk83 (by kernel_rfl) Zu83 (us_ok _) Za83 (fun(c:DCur) hp hb=> ?_)
 have hb_c:BdDV (U:=UU) (.box [.sl .byte c.b,.lit (.int .i64 c.i),.lit (.int .i64 c.h)]):=hb _ (zab)
 have hl_c_b:c.b.length≤9223372036854775807:=Bd.len (U:=UU) (τ:=.byte) (xs:=c.b) (hb_c _ (by simp))
 have hp0:cOk c:=hp _ (zab)
 clear hp hb
 apply @ve _ (let x3:ByteArray:={data:= #[(111:UInt8),(114:UInt8),(100:UInt8),(101:UInt8),(114:UInt8)]:ByteArray};let x4:ByteArray:={data:= #[(105:UInt8),(116:UInt8),(101:UInt8),(109:UInt8)]:ByteArray};let x2:List ByteArray:=[x3,{data:= #[(112:UInt8),(97:UInt8),(105:UInt8),(100:UInt8)]:ByteArray},x4,x3];let x1:DCur:=strC c x2;let x0:DCur:=belowC x1 (12:Int);cOk c∧(1:Nat)≤x2.length∧bif ByteArray.toList (strV c x2)==ByteArray.toList x4 then cOk x1∧bif onceV x1 (12:Int) then(0:Int)≤x0.i∧x0.b.length≤(4294967296:Nat)∧Zi83_8 c ((0:Int),({data:= #[]:ByteArray},[],()),(strV c x2,[],()),((belowC x0 (6:Int)).b,(belowC x0 (6:Int)).i,(belowC x0 (6:Int)).h,()),())∧∀(y:Int×(ByteArray×List DVal×PUnit)×(ByteArray×List DVal×PUnit)×(List Int×Int×Int×PUnit)×PUnit),let x6:DCur:={b:=y.2.2.2.1.1,i:=y.2.2.2.1.2.1,h:=y.2.2.2.1.2.2.1:DCur};let x5:DCur:=smallC x6;Zi83_8 c y→bif decide (y.1<belowV x0 (6:Int)) then cOk x6∧y.2.2.1.2.1.length+List.length [smallV x6]≤(4294967296:Nat)∧Zi83_8 c (IntKind.wrap IntKind.i64 (y.1+(1:Int)),(y.2.1.1,y.2.1.2.1,()),(y.2.2.1.1,y.2.2.1.2.1++[smallV x6],()),(x5.b,x5.i,x5.h,()),())∧Zm83_8 c (IntKind.wrap IntKind.i64 (y.1+(1:Int)),(y.2.1.1,y.2.1.2.1,()),(y.2.2.1.1,y.2.2.1.2.1++[smallV x6],()),(x5.b,x5.i,x5.h,()),())<Zm83_8 c y else(0:Nat)=(0:Nat)∧asD [DV.agg [CS y.2.2.1.1,CL .eVal y.2.2.1.2.1]]=asD [DV.agg [CS ((factV c).Kind),CL .eVal (factV c).Fields]]∧asD [DV.box [CL .byte y.2.2.2.1.1,CI y.2.2.2.1.2.1,CI y.2.2.2.1.2.2.1]]=asD [DV.box [CL .byte (factC c).b,CI ((factC c).i),CI ((factC c).h)]] else Zi83_8 c ((0:Int),({data:= #[]:ByteArray},[],()),(strV c x2,[],()),(x0.b,x0.i,x0.h,()),())∧∀(y:Int×(ByteArray×List DVal×PUnit)×(ByteArray×List DVal×PUnit)×(List Int×Int×Int×PUnit)×PUnit),let x6:DCur:={b:=y.2.2.2.1.1,i:=y.2.2.2.1.2.1,h:=y.2.2.2.1.2.2.1:DCur};let x5:DCur:=smallC x6;Zi83_8 c y→bif decide (y.1<(2:Int)) then cOk x6∧y.2.2.1.2.1.length+List.length [smallV x6]≤(4294967296:Nat)∧Zi83_8 c (IntKind.wrap IntKind.i64 (y.1+(1:Int)),(y.2.1.1,y.2.1.2.1,()),(y.2.2.1.1,y.2.2.1.2.1++[smallV x6],()),(x5.b,x5.i,x5.h,()),())∧Zm83_8 c (IntKind.wrap IntKind.i64 (y.1+(1:Int)),(y.2.1.1,y.2.1.2.1,()),(y.2.2.1.1,y.2.2.1.2.1++[smallV x6],()),(x5.b,x5.i,x5.h,()),())<Zm83_8 c y else(0:Nat)=(0:Nat)∧asD [DV.agg [CS y.2.2.1.1,CL .eVal y.2.2.1.2.1]]=asD [DV.agg [CS ((factV c).Kind),CL .eVal (factV c).Fields]]∧asD [DV.box [CL .byte y.2.2.2.1.1,CI y.2.2.2.1.2.1,CI y.2.2.2.1.2.2.1]]=asD [DV.box [CL .byte (factC c).b,CI ((factC c).i),CI ((factC c).h)]] else cOk x1∧bif onceV x1 (12:Int) then(0:Int)≤x0.i∧x0.b.length≤(4294967296:Nat)∧Zi83_8 c ((0:Int),({data:= #[]:ByteArray},[],()),(strV c x2,[],()),((belowC x0 (6:Int)).b,(belowC x0 (6:Int)).i,(belowC x0 (6:Int)).h,()),())∧∀(y:Int×(ByteArray×List DVal×PUnit)×(ByteArray×List DVal×PUnit)×(List Int×Int×Int×PUnit)×PUnit),let x6:DCur:={b:=y.2.2.2.1.1,i:=y.2.2.2.1.2.1,h:=y.2.2.2.1.2.2.1:DCur};let x5:DCur:=smallC x6;Zi83_8 c y→bif decide (y.1<belowV x0 (6:Int)) then cOk x6∧y.2.2.1.2.1.length+List.length [smallV x6]≤(4294967296:Nat)∧Zi83_8 c (IntKind.wrap IntKind.i64 (y.1+(1:Int)),(y.2.1.1,y.2.1.2.1,()),(y.2.2.1.1,y.2.2.1.2.1++[smallV x6],()),(x5.b,x5.i,x5.h,()),())∧Zm83_8 c (IntKind.wrap IntKind.i64 (y.1+(1:Int)),(y.2.1.1,y.2.1.2.1,()),(y.2.2.1.1,y.2.2.1.2.1++[smallV x6],()),(x5.b,x5.i,x5.h,()),())<Zm83_8 c y else(0:Nat)=(0:Nat)∧asD [DV.agg [CS y.2.2.1.1,CL .eVal y.2.2.1.2.1]]=asD [DV.agg [CS ((factV c).Kind),CL .eVal (factV c).Fields]]∧asD [DV.box [CL .byte y.2.2.2.1.1,CI y.2.2.2.1.2.1,CI y.2.2.2.1.2.2.1]]=asD [DV.box [CL .byte (factC c).b,CI ((factC c).i),CI ((factC c).h)]] else Zi83_8 c ((0:Int),({data:= #[]:ByteArray},[],()),(strV c x2,[],()),(x0.b,x0.i,x0.h,()),())∧∀(y:Int×(ByteArray×List DVal×PUnit)×(ByteArray×List DVal×PUnit)×(List Int×Int×Int×PUnit)×PUnit),let x6:DCur:={b:=y.2.2.2.1.1,i:=y.2.2.2.1.2.1,h:=y.2.2.2.1.2.2.1:DCur};let x5:DCur:=smallC x6;Zi83_8 c y→bif decide (y.1<(1:Int)) then cOk x6∧y.2.2.1.2.1.length+List.length [smallV x6]≤(4294967296:Nat)∧Zi83_8 c (IntKind.wrap IntKind.i64 (y.1+(1:Int)),(y.2.1.1,y.2.1.2.1,()),(y.2.2.1.1,y.2.2.1.2.1++[smallV x6],()),(x5.b,x5.i,x5.h,()),())∧Zm83_8 c (IntKind.wrap IntKind.i64 (y.1+(1:Int)),(y.2.1.1,y.2.1.2.1,()),(y.2.2.1.1,y.2.2.1.2.1++[smallV x6],()),(x5.b,x5.i,x5.h,()),())<Zm83_8 c y else(0:Nat)=(0:Nat)∧asD [DV.agg [CS y.2.2.1.1,CL .eVal y.2.2.1.2.1]]=asD [DV.agg [CS ((factV c).Kind),CL .eVal (factV c).Fields]]∧asD [DV.box [CL .byte y.2.2.2.1.1,CI y.2.2.2.1.2.1,CI y.2.2.2.1.2.2.1]]=asD [DV.box [CL .byte (factC c).b,CI ((factC c).i),CI ((factC c).h)]]) (by kernel_rfl)
 dsimp only
 have hk:=cOk_str hp0 sLkind
 have hd:=cOk_factD hp0
 have hle:=factN_le c
 have fin:∀(n:Int)(d:DCur),factN c=n→factD c=d→
   Zi83_8 c ((0:Int),(noBytes,[],PUnit.unit),(strV c sLkind,[],PUnit.unit),(d.b,d.i,d.h,PUnit.unit),PUnit.unit):=by
  rintro n d rfl rfl
  exact⟨by omega,by omega,rfl,hd,by simp,by simp only[Int.sub_zero];rfl,by simp only[Int.sub_zero];rfl⟩
 refine⟨hp0,by simp,?_⟩
 refine if_cond (fun h=>⟨hk,if_cond (fun h'=>⟨(cOk_below hk 12).1,(cOk_below hk 12).2,?_⟩) (fun h'=> ?_)⟩) (fun h=>⟨hk,if_cond (fun h'=>⟨(cOk_below hk 12).1,(cOk_below hk 12).2,?_⟩) (fun h'=> ?_)⟩)
 ·have hN:factN c=belowV (belowC (strC c sLkind) 12) 6:=if_pos h'
  have hD:factD c=belowC (belowC (strC c sLkind) 12) 6:=if_pos h'
  refine⟨fin _ _ hN hD,?_⟩
  have hN':belowV (belowC (strC c sLkind) 12) 6=factN c:=hN.symm
  rintro⟨i,r,⟨fk,fl,⟨⟩⟩,⟨cb,ci,ch,⟨⟩⟩,⟨⟩⟩ ⟨g1,g2,g3,g4,g5,g6,g7⟩
  simp only at g1 g2 g3 g4 g5 g6 g7⊢
  refine if_cond (fun hc=> ?_) (fun hc=> ?_)
  ·have hc:i<factN c:=by rw[hN];exact of_decide_eq_true hc
   have e:(factN c-i).toNat=(factN c-(i+1)).toNat+1:=by omega
   rw[e] at g6 g7
   rw[wrap_i64 (by omega) (by omega)]
   exact⟨g4,by simp only[zbq,zbo];omega,⟨by omega,by omega,g3,cOk_small g4,by simp only[zce,zbq,zbo];omega,g6,g7⟩,by simp only[Zm83_8];omega⟩
  ·have hc:¬i<factN c:=by rw[hN];exact of_decide_eq_false hc
   have e:(factN c-i).toNat=0:=by omega
   rw[e] at g6 g7
   have g6:fl=(factV c).Fields:=g6
   have g7:(⟨cb,ci,ch⟩:DCur)=factC c:=g7
   have g3:fk=(factV c).Kind:=g3
   rw[←g7,←g6,←g3]
   exact⟨by trivial,rfl,rfl⟩
 ·have h:strV c sLkind=bItem:=by rw[toList_beq] at h;exact of_decide_eq_true h
  have hN:factN c=2:=by rw[factN,if_neg (by rw[show onceV (strC c sLkind) 12=false from h'];simp),if_pos h]
  have hD:factD c=belowC (strC c sLkind) 12:=if_neg (by rw[show onceV (strC c sLkind) 12=false from h'];simp)
  refine⟨fin _ _ hN hD,?_⟩
  rintro⟨i,r,⟨fk,fl,⟨⟩⟩,⟨cb,ci,ch,⟨⟩⟩,⟨⟩⟩ ⟨g1,g2,g3,g4,g5,g6,g7⟩
  simp only at g1 g2 g3 g4 g5 g6 g7⊢
  refine if_cond (fun hc=> ?_) (fun hc=> ?_)
  ·have hc:i<factN c:=by rw[hN];exact of_decide_eq_true hc
   have e:(factN c-i).toNat=(factN c-(i+1)).toNat+1:=by omega
   rw[e] at g6 g7
   rw[wrap_i64 (by omega) (by omega)]
   exact⟨g4,by simp only[zbq,zbo];omega,⟨by omega,by omega,g3,cOk_small g4,by simp only[zce,zbq,zbo];omega,g6,g7⟩,by simp only[Zm83_8];omega⟩
  ·have hc:¬i<factN c:=by rw[hN];exact of_decide_eq_false hc
   have e:(factN c-i).toNat=0:=by omega
   rw[e] at g6 g7
   have g6:fl=(factV c).Fields:=g6
   have g7:(⟨cb,ci,ch⟩:DCur)=factC c:=g7
   have g3:fk=(factV c).Kind:=g3
   rw[←g7,←g6,←g3]
   exact⟨by trivial,rfl,rfl⟩
 ·have hN:factN c=belowV (belowC (strC c sLkind) 12) 6:=if_pos h'
  have hD:factD c=belowC (belowC (strC c sLkind) 12) 6:=if_pos h'
  refine⟨fin _ _ hN hD,?_⟩
  have hN':belowV (belowC (strC c sLkind) 12) 6=factN c:=hN.symm
  rintro⟨i,r,⟨fk,fl,⟨⟩⟩,⟨cb,ci,ch,⟨⟩⟩,⟨⟩⟩ ⟨g1,g2,g3,g4,g5,g6,g7⟩
  simp only at g1 g2 g3 g4 g5 g6 g7⊢
  refine if_cond (fun hc=> ?_) (fun hc=> ?_)
  ·have hc:i<factN c:=by rw[hN];exact of_decide_eq_true hc
   have e:(factN c-i).toNat=(factN c-(i+1)).toNat+1:=by omega
   rw[e] at g6 g7
   rw[wrap_i64 (by omega) (by omega)]
   exact⟨g4,by simp only[zbq,zbo];omega,⟨by omega,by omega,g3,cOk_small g4,by simp only[zce,zbq,zbo];omega,g6,g7⟩,by simp only[Zm83_8];omega⟩
  ·have hc:¬i<factN c:=by rw[hN];exact of_decide_eq_false hc
   have e:(factN c-i).toNat=0:=by omega
   rw[e] at g6 g7
   have g6:fl=(factV c).Fields:=g6
   have g7:(⟨cb,ci,ch⟩:DCur)=factC c:=g7
   have g3:fk=(factV c).Kind:=g3
   rw[←g7,←g6,←g3]
   exact⟨by trivial,rfl,rfl⟩
 ·have h:¬strV c sLkind=bItem:=by rw[toList_beq] at h;exact of_decide_eq_false h
  have hN:factN c=1:=by rw[factN,if_neg (by rw[show onceV (strC c sLkind) 12=false from h'];simp),if_neg h]
  have hD:factD c=belowC (strC c sLkind) 12:=if_neg (by rw[show onceV (strC c sLkind) 12=false from h'];simp)
  refine⟨fin _ _ hN hD,?_⟩
  rintro⟨i,r,⟨fk,fl,⟨⟩⟩,⟨cb,ci,ch,⟨⟩⟩,⟨⟩⟩ ⟨g1,g2,g3,g4,g5,g6,g7⟩
  simp only at g1 g2 g3 g4 g5 g6 g7⊢
  refine if_cond (fun hc=> ?_) (fun hc=> ?_)
  ·have hc:i<factN c:=by rw[hN];exact of_decide_eq_true hc
   have e:(factN c-i).toNat=(factN c-(i+1)).toNat+1:=by omega
   rw[e] at g6 g7
   rw[wrap_i64 (by omega) (by omega)]
   exact⟨g4,by simp only[zbq,zbo];omega,⟨by omega,by omega,g3,cOk_small g4,by simp only[zce,zbq,zbo];omega,g6,g7⟩,by simp only[Zm83_8];omega⟩
  ·have hc:¬i<factN c:=by rw[hN];exact of_decide_eq_false hc
   have e:(factN c-i).toNat=0:=by omega
   rw[e] at g6 g7
   have g6:fl=(factV c).Fields:=g6
   have g7:(⟨cb,ci,ch⟩:DCur)=factC c:=g7
   have g3:fk=(factV c).Kind:=g3
   rw[←g7,←g6,←g3]
   exact⟨by trivial,rfl,rfl⟩
def Zh83:HH:=⟨_,Zo83⟩
def Zk5:Con UU where
 α:=(List Int)
 md:=[.ro]
 of:=o1 (oL .byte)
 ds:=fun x=>[dL .byte x]
 pre:=fun _=>[]
 res:=fun code=>⟨[dO (decide (code.length>1048576))],true,[]⟩
 law:=l1 (lL .byte)
def Za5:Zk5.α→Nat→Option (Ann UU):=fun code=>annL []
def Zu5:List (FuncId×Con UU):=[]
theorem Zo5:Holds EE (5,Zk5):=by
 refine holds_of EE_ok func5 Zk5 (by kernel_rfl) Zu5 all_nil Za5 (fun(code:(List Int)) hp hb=> ?_)
 have hl_code:code.length≤9223372036854775807:=bdL (hb _ m0)
 clear hp hb
 apply @ve _ (Lb (decide ((code.length:Int)>(1048576:Int))) (decide (code.length>(1048576:Nat)))) (by kernel_rfl)
 exact Lf_b (decide_eq_decide.2 (by omega))
def Zh5:HH:=⟨_,Zo5⟩
theorem smallV_ok(c:DCur):valOk (smallV c)=true:=by
 unfold smallV;split
 ·have:=belowV_lt (c:=belowC c 2) (n:=3) (by omega)
  simp only[valOk,decide_true,cond_true,zdb]
  simp only[decide_eq_true_eq];omega
 ·have h:=strV_all (belowC c 2) (l:=sLsmall) (fun s=>decide (s.size≤20)&&wordS s) (by decide) (by rfl)
  simp only[valOk]
  simpa using h
def sLxyz:List ByteArray:=[⟨#[88]⟩,⟨#[89]⟩,⟨#[90]⟩,⟨#[88]⟩]
def sLxy:List ByteArray:=[⟨#[88]⟩,⟨#[89]⟩]
def argD(c:DCur):DArg:=if belowV c 6=0 then⟨3,noBytes,zVal⟩ else if belowV c 6=1 then⟨2,noBytes,smallV (belowC c 6)⟩ else⟨1,strV (belowC c 6) sLxyz,zVal⟩
def argDC(c:DCur):DCur:=if belowV c 6=0 then belowC c 6 else if belowV c 6=1 then smallC (belowC c 6) else strC (belowC c 6) sLxyz
theorem cOk_arg{c:DCur}(h:cOk c):cOk (argDC c):=by
 have:=cOk_below h 6
 unfold argDC;split
 ·exact this
 ·split
  ·exact cOk_small this
  ·exact cOk_str this _
def termD(c:DCur):DArg:=if onceV c 3=true then⟨2,noBytes,smallV (belowC c 3)⟩ else⟨1,strV (belowC c 3) sLxy,zVal⟩
def termDC(c:DCur):DCur:=if onceV c 3=true then smallC (belowC c 3) else strC (belowC c 3) sLxy
theorem cOk_term{c:DCur}(h:cOk c):cOk (termDC c):=by
 have:=cOk_below h 3
 unfold termDC;split
 ·exact cOk_small this
 ·exact cOk_str this _
def iterL{α:Type}(f:DCur→α)(g:DCur→DCur):Nat→List α→DCur→List α
 |0,l,_=>l
 |k+1,l,c=>iterL f g k (l++[f c]) (g c)
def iterC(g:DCur→DCur):Nat→DCur→DCur
 |0,c=>c
 |k+1,c=>iterC g k (g c)
theorem iterL_len{α:Type}(f:DCur→α)(g:DCur→DCur):∀(k:Nat)(l:List α)(c:DCur),(iterL f g k l c).length=l.length+k
 |0,_,_=>rfl
 |k+1,l,c=>by rw[iterL,iterL_len f g k];simp only[zce,zbq,zbo];omega
theorem iterL_all{α:Type}{f:DCur→α}{g:DCur→DCur}(p:α→Prop)(hp:∀c,p (f c)):∀(k:Nat)(l:List α)(c:DCur),(∀x,x∈l→p x)→∀x,x∈iterL f g k l c→p x
 |0,_,_,h=>h
 |k+1,l,c,h=>iterL_all p hp k _ _ fun x hx=>by
  rcases zao.1 hx with hx|hx
  ·exact h x hx
  ·rw[zau] at hx;subst hx;exact hp c
theorem cOk_iter{g:DCur→DCur}(hg:∀c,cOk c→cOk (g c)):∀{k:Nat}{c:DCur},cOk c→cOk (iterC g k c)
 |0,_,h=>h
 |k+1,_,h=>cOk_iter hg (k:=k) (hg _ h)
def patN(c:DCur):Int:=if strV c sLkind=bItem then 2 else 1
def patD(not:Bool)(c:DCur):DPat:=⟨strV c sLkind,iterL argD argDC (patN c).toNat [] (strC c sLkind),not⟩
def patDC(c:DCur):DCur:=iterC argDC (patN c).toNat (strC c sLkind)
theorem cOk_patD{c:DCur}(h:cOk c):cOk (patDC c):=cOk_iter (fun _=>cOk_arg) (cOk_str h _)
theorem patN_le(c:DCur):0≤patN c∧patN c≤2:=by unfold patN;split<;>omega
def condD(c:DCur):DCond:=⟨1+belowV c 3,termD (belowC c 3),termD (termDC (belowC c 3))⟩
def condDC(c:DCur):DCur:=termDC (termDC (belowC c 3))
theorem cOk_condD{c:DCur}(h:cOk c):cOk (condDC c):=cOk_term (cOk_term (cOk_below h _))
def sLop:List ByteArray:=[⟨#[43]⟩,⟨#[45]⟩]
def exprD(c:DCur):DExpr:=if onceV (termDC c) 4=true then⟨strV (belowC (termDC c) 4) sLop,termD c,termD (strC (belowC (termDC c) 4) sLop)⟩ else⟨noBytes,termD c,zArg⟩
def exprDC(c:DCur):DCur:=if onceV (termDC c) 4=true then termDC (strC (belowC (termDC c) 4) sLop) else belowC (termDC c) 4
theorem cOk_expr{c:DCur}(h:cOk c):cOk (exprDC c):=by
 have:=cOk_below (cOk_term h) 4
 unfold exprDC;split
 ·exact cOk_term (cOk_str this _)
 ·exact this
def iLact:List Int:=[1,1,2,3,3,4,5,6]
def sLname:List ByteArray:=[⟨#[111,114,100,101,114]⟩,⟨#[112,97,105,100]⟩,⟨#[105,116,101,109]⟩,⟨#[115,104,105,112]⟩,⟨#[99,104,97,114,103,101]⟩]
def iLtime:List Int:=[0,1,5,100000]
def sLundo:List ByteArray:=[⟨#[114,101,102,117,110,100]⟩,⟨#[99,97,110,99,101,108]⟩]
def actK(c:DCur):Int:=intV c iLact
def actName(c:DCur):ByteArray:=strV (intC c iLact) sLname
def actC2(c:DCur):DCur:=strC (intC c iLact) sLname
def actN(c:DCur):Int:=if actName c=bItem then 2 else 1
def actAs(c:DCur):List DExpr:=iterL exprD exprDC (actN c).toNat [] (actC2 c)
def actC3(c:DCur):DCur:=iterC exprDC (actN c).toNat (actC2 c)
def actC4(c:DCur):DCur:=if actK c=4 then intC (actC3 c) iLtime else actC3 c
def actT(c:DCur):Int:=if actK c=4 then intV (actC3 c) iLtime else 0
def actU(c:DCur):ByteArray:=if actK c=3∧onceV (actC4 c) 2=true then strV (belowC (actC4 c) 2) sLundo else noBytes
def actC5(c:DCur):DCur:=if actK c=3 then(if onceV (actC4 c) 2=true then strC (belowC (actC4 c) 2) sLundo else belowC (actC4 c) 2) else actC4 c
def actD(pats:Int)(c:DCur):DAct:=if actK c=2 then⟨actK c,noBytes,[],belowV (intC c iLact) pats,noBytes⟩ else if actK c=5∨actK c=6 then⟨actK c,noBytes,[],0,noBytes⟩ else⟨actK c,actName c,actAs c,actT c,actU c⟩
def actDC(pats:Int)(c:DCur):DCur:=if actK c=2 then belowC (intC c iLact) pats else if actK c=5∨actK c=6 then intC c iLact else actC5 c
theorem actN_le(c:DCur):0≤actN c∧actN c≤2:=by unfold actN;split<;>omega
theorem cOk_act2{c:DCur}(h:cOk c):cOk (actC2 c):=cOk_str (cOk_int h _) _
theorem cOk_act3{c:DCur}(h:cOk c):cOk (actC3 c):=cOk_iter (fun _=>cOk_expr) (cOk_act2 h)
theorem cOk_act4{c:DCur}(h:cOk c):cOk (actC4 c):=by
 unfold actC4;split
 ·exact cOk_int (cOk_act3 h) _
 ·exact cOk_act3 h
theorem cOk_actD{c:DCur}(pats:Int)(h:cOk c):cOk (actDC pats c):=by
 unfold actDC;split
 ·exact cOk_below (cOk_int h _) _
 ·split
  ·exact cOk_int h _
  ·unfold actC5;split
   ·split
    ·exact cOk_str (cOk_below (cOk_act4 h) _) _
    ·exact cOk_below (cOk_act4 h) _
   ·exact cOk_act4 h
theorem actAs_len(c:DCur):(actAs c).length≤2:=by
 have:=actN_le c
 rw[actAs,iterL_len];simp only[zbo];omega
theorem actD_args(pats:Int)(c:DCur):(actD pats c).Args.length≤2:=by
 have:=actAs_len c
 unfold actD;split
 ·simp
 ·split
  ·simp
  ·exact this
def fitT(vars:List ByteArray)(a:DArg):DArg:=if knownIn vars a=true then a else if vars.length=0 then⟨2,noBytes,⟨1,1,noBytes⟩⟩ else⟨1,List.getD vars 0 noBytes,zVal⟩
def fitC(vars:List ByteArray)(x:DCond):DCond:=⟨x.Op,fitT vars x.L,fitT vars x.R⟩
def fitE(vars:List ByteArray)(e:DExpr):DExpr:=⟨e.Op,fitT vars e.L,if e.Op=noBytes then e.R else fitT vars e.R⟩
def fitA(vars:List ByteArray)(a:DAct):DAct:=⟨a.Kind,a.Name,a.Args.map (fitE vars),a.N,a.Undo⟩
def iLsal:List Int:=[0,0,5,-5,100]
def ruC1(c:DCur):DCur:=intC c iLsal
def ruN(c:DCur):Int:=1+belowV (ruC1 c) 3
def ruC2(c:DCur):DCur:=belowC (ruC1 c) 3
def ruP1(c:DCur):List DPat:=iterL (patD false) patDC (ruN c).toNat [] (ruC2 c)
def ruC3(c:DCur):DCur:=iterC patDC (ruN c).toNat (ruC2 c)
def ruC4(c:DCur):DCur:=belowC (ruC3 c) 3
def ruPats(c:DCur):List DPat:=if onceV (ruC3 c) 3=true then ruP1 c++[patD true (ruC4 c)] else ruP1 c
def ruC5(c:DCur):DCur:=if onceV (ruC3 c) 3=true then patDC (ruC4 c) else ruC4 c
def ruVars(c:DCur):List ByteArray:=posVarsS (ruPats c)
def ruC6(c:DCur):DCur:=belowC (ruC5 c) 3
def ruConds(c:DCur):List DCond:=if onceV (ruC5 c) 3=true then[fitC (ruVars c) (condD (ruC6 c))] else[]
def ruC7(c:DCur):DCur:=if onceV (ruC5 c) 3=true then condDC (ruC6 c) else ruC6 c
def ruM(c:DCur):Int:=1+belowV (ruC7 c) 3
def ruC8(c:DCur):DCur:=belowC (ruC7 c) 3
def ruAct(c:DCur)(d:DCur):DAct:=fitA (ruVars c) (actD (posN (ruPats c)) d)
def ruActC(c:DCur)(d:DCur):DCur:=actDC (posN (ruPats c)) d
def ruActs(c:DCur):List DAct:=iterL (ruAct c) (ruActC c) (ruM c).toNat [] (ruC8 c)
def ruC9(c:DCur):DCur:=iterC (ruActC c) (ruM c).toNat (ruC8 c)
def ruleD(name:ByteArray)(c:DCur):DRule:=⟨name,intV c iLsal,ruPats c,ruConds c,ruActs c⟩
theorem cOk_ru2{c:DCur}(h:cOk c):cOk (ruC2 c):=cOk_below (cOk_int h _) _
theorem cOk_ru3{c:DCur}(h:cOk c):cOk (ruC3 c):=cOk_iter (fun _=>cOk_patD) (cOk_ru2 h)
theorem cOk_ru5{c:DCur}(h:cOk c):cOk (ruC5 c):=by
 unfold ruC5;split
 ·exact cOk_patD (cOk_below (cOk_ru3 h) _)
 ·exact cOk_below (cOk_ru3 h) _
theorem cOk_ru7{c:DCur}(h:cOk c):cOk (ruC7 c):=by
 unfold ruC7;split
 ·exact cOk_condD (cOk_below (cOk_ru5 h) _)
 ·exact cOk_below (cOk_ru5 h) _
theorem cOk_ru9{c:DCur}(h:cOk c):cOk (ruC9 c):=cOk_iter (fun _=>cOk_actD _) (cOk_below (cOk_ru7 h) _)
theorem ruN_le(c:DCur):1≤ruN c∧ruN c≤3:=by
 have:=belowV_lt (c:=ruC1 c) (n:=3) (by omega)
 unfold ruN;omega
theorem ruM_le(c:DCur):1≤ruM c∧ruM c≤3:=by
 have:=belowV_lt (c:=ruC7 c) (n:=3) (by omega)
 unfold ruM;omega
def sLrule:List ByteArray:=[⟨#[114,49]⟩,⟨#[114,50]⟩,⟨#[114,51]⟩,⟨#[114,52]⟩]
def sLdef:List ByteArray:=[⟨#[102,108,111,119]⟩,⟨#[115,104,105,112]⟩,⟨#[120]⟩]
def defL:Nat→Nat→List DRule→DCur→List DRule
 |0,_,l,_=>l
 |k+1,i,l,c=>if(i:Int)<1+belowV c 4 then defL k (i+1) (l++[ruleD (List.getD sLrule i noBytes) (belowC c 4)]) (ruC9 (belowC c 4)) else l
def defC:Nat→Nat→DCur→DCur
 |0,_,c=>belowC c 4
 |k+1,i,c=>if(i:Int)<1+belowV c 4 then defC k (i+1) (ruC9 (belowC c 4)) else belowC c 4
def defD(c:DCur):DDef:=⟨strV c sLdef,defL 4 0 [] (strC c sLdef)⟩
def defDC(c:DCur):DCur:=defC 4 0 (strC c sLdef)
theorem cOk_defC:∀{k i:Nat}{c:DCur},cOk c→cOk (defC k i c)
 |0,_,_,h=>cOk_below h _
 |k+1,i,c,h=>by
  unfold defC;split
  ·exact cOk_defC (k:=k) (cOk_ru9 (cOk_below h _))
  ·exact cOk_below h _
theorem cOk_defD{c:DCur}(h:cOk c):cOk (defDC c):=cOk_defC (cOk_str h _)
theorem LdA{a a':DArg}{d d':DCur}(h1:a=a')(h2:d=d'):asD [DV.agg [.lit (.int .i64 a.K),.lit (.string a.S),.lit (.int .i64 a.V.K),.lit (.int .i64 a.V.N),.lit (.string a.V.S)]]=asD [DV.agg [.lit (.int .i64 a'.K),.lit (.string a'.S),.lit (.int .i64 a'.V.K),.lit (.int .i64 a'.V.N),.lit (.string a'.V.S)]]∧asD [DV.box [.sl .byte d.b,.lit (.int .i64 d.i),.lit (.int .i64 d.h)]]=asD [DV.box [.sl .byte d'.b,.lit (.int .i64 d'.i),.lit (.int .i64 d'.h)]]:=by
 subst h1 h2;exact⟨rfl,rfl⟩
theorem LdP{a a':DPat}{d d':DCur}(h1:a=a')(h2:d=d'):asD [DV.agg [.lit (.string a.Kind),.sl .eArg a.Args,.lit (.bool a.Not)]]=asD [DV.agg [.lit (.string a'.Kind),.sl .eArg a'.Args,.lit (.bool a'.Not)]]∧asD [DV.box [.sl .byte d.b,.lit (.int .i64 d.i),.lit (.int .i64 d.h)]]=asD [DV.box [.sl .byte d'.b,.lit (.int .i64 d'.i),.lit (.int .i64 d'.h)]]:=by
 subst h1 h2;exact⟨rfl,rfl⟩
theorem LdE{a a':DExpr}{d d':DCur}(h1:a=a')(h2:d=d'):asD [DV.agg [.lit (.string a.Op),.lit (.int .i64 a.L.K),.lit (.string a.L.S),.lit (.int .i64 a.L.V.K),.lit (.int .i64 a.L.V.N),.lit (.string a.L.V.S),.lit (.int .i64 a.R.K),.lit (.string a.R.S),.lit (.int .i64 a.R.V.K),.lit (.int .i64 a.R.V.N),.lit (.string a.R.V.S)]]=asD [DV.agg [.lit (.string a'.Op),.lit (.int .i64 a'.L.K),.lit (.string a'.L.S),.lit (.int .i64 a'.L.V.K),.lit (.int .i64 a'.L.V.N),.lit (.string a'.L.V.S),.lit (.int .i64 a'.R.K),.lit (.string a'.R.S),.lit (.int .i64 a'.R.V.K),.lit (.int .i64 a'.R.V.N),.lit (.string a'.R.V.S)]]∧asD [DV.box [.sl .byte d.b,.lit (.int .i64 d.i),.lit (.int .i64 d.h)]]=asD [DV.box [.sl .byte d'.b,.lit (.int .i64 d'.i),.lit (.int .i64 d'.h)]]:=by
 subst h1 h2;exact⟨rfl,rfl⟩
theorem LdAct{a a':DAct}{d d':DCur}(h1:a=a')(h2:d=d'):asD [DV.agg [.lit (.int .i64 a.Kind),.lit (.string a.Name),.sl .eExpr a.Args,.lit (.int .i64 a.N),.lit (.string a.Undo)]]=asD [DV.agg [.lit (.int .i64 a'.Kind),.lit (.string a'.Name),.sl .eExpr a'.Args,.lit (.int .i64 a'.N),.lit (.string a'.Undo)]]∧asD [DV.box [.sl .byte d.b,.lit (.int .i64 d.i),.lit (.int .i64 d.h)]]=asD [DV.box [.sl .byte d'.b,.lit (.int .i64 d'.i),.lit (.int .i64 d'.h)]]:=by
 subst h1 h2;exact⟨rfl,rfl⟩
def Zk226:Con UU where
 α:=DVal
 md:=[.ro]
 of:=o1 (oA .eVal)
 ds:=fun x=>[dA .eVal x]
 pre:=fun _=>[]
 res:=fun v=>⟨[dA .eArg (⟨2,noBytes,v⟩:DArg)],true,[]⟩
 law:=l1 (lA .eVal)
def Za226:Zk226.α→Nat→Option (Ann UU):=fun v=>annL []
def Zu226:List (FuncId×Con UU):=[]
theorem Zo226:Holds EE (226,Zk226):=by
 refine holds_of EE_ok func226 Zk226 (by kernel_rfl) Zu226 all_nil Za226 (fun(v:DVal) hp hb=> ?_)
 have hl_v_S:=bd_eVal (x:=v) (hb _ m0)
 clear hp hb
 apply @ve _ (Lf [DV.agg [CI (2:Int),CS ({data:= #[]:ByteArray}),CI v.K,CI v.N,CS v.S]] [DV.agg [CI (2:Int),CS noBytes,CI v.K,CI v.N,CS v.S]]) (by kernel_rfl)
 exact Lf_rfl _
def Zh226:HH:=⟨_,Zo226⟩
def Zk227:Con UU where
 α:=ByteArray
 md:=[.ro]
 of:=o1 oS
 ds:=fun x=>[dS x]
 pre:=fun _=>[]
 res:=fun s=>⟨[dA .eArg (⟨1,s,zVal⟩:DArg)],true,[]⟩
 law:=l1 lS
def Za227:Zk227.α→Nat→Option (Ann UU):=fun s=>annL []
def Zu227:List (FuncId×Con UU):=[]
theorem Zo227:Holds EE (227,Zk227):=by
 refine holds_of EE_ok func227 Zk227 (by kernel_rfl) Zu227 all_nil Za227 (fun(s:ByteArray) hp hb=> ?_)
 have hl_s:=bdS (s:=s) (hb _ m0)
 clear hp hb
 apply @ve _ (Lf [DV.agg [CI (1:Int),CS s,CI (0:Int),CI (0:Int),CS ({data:= #[]:ByteArray})]] [DV.agg [CI (1:Int),CS s,CI zVal.K,CI zVal.N,CS zVal.S]]) (by kernel_rfl)
 exact Lf_rfl _
def Zh227:HH:=⟨_,Zo227⟩
def Zk221:Con UU where
 α:=DCur
 md:=[.box false]
 of:=fun|[.box [.sl .byte a0,.lit (.int .i64 a1),.lit (.int .i64 a2)]]=>some ⟨a0,a1,a2⟩|_=>none
 ds:=fun c=>[.box [.sl .byte c.b,.lit (.int .i64 c.i),.lit (.int .i64 c.h)]]
 pre:=fun c=>[cOk c]
 res:=fun c=>⟨[.agg [.lit (.int .i64 ((argD c)).K),.lit (.string ((argD c)).S),.lit (.int .i64 (((argD c)).V).K),.lit (.int .i64 (((argD c)).V).N),.lit (.string (((argD c)).V).S)]],true,[.box [.sl .byte ((argDC c)).b,.lit (.int .i64 ((argDC c)).i),.lit (.int .i64 ((argDC c)).h)]]⟩
 law:=by intro l x h;(try simp only at h);split at h<;>cases h;rfl
def Za221:Zk221.α→Nat→Option (Ann UU):=fun c=>annL []
def Zu221:=us [Zh30,Zh160,Zh78,Zh226,Zh227]
theorem Zo221:Holds EE (221,Zk221):=by
 refine holds_of EE_ok func221 Zk221 (by kernel_rfl) Zu221 (us_ok _) Za221 (fun(c:DCur) hp hb=> ?_)
 have hb_c:BdDV (U:=UU) (.box [.sl .byte c.b,.lit (.int .i64 c.i),.lit (.int .i64 c.h)]):=hb _ (zab)
 have hl_c_b:c.b.length≤9223372036854775807:=Bd.len (U:=UU) (τ:=.byte) (xs:=c.b) (hb_c _ (by simp))
 have hp0:cOk c:=hp _ (zab)
 clear hp hb
 apply @ve _ (let x1:List ByteArray:=[{data:= #[(88:UInt8)]:ByteArray},{data:= #[(89:UInt8)]:ByteArray},{data:= #[(90:UInt8)]:ByteArray},{data:= #[(88:UInt8)]:ByteArray}];let x0:DCur:=strC (belowC c (6:Int)) x1;(0:Int)≤c.i∧c.b.length≤(4294967296:Nat)∧bif belowV c (6:Int)==(0:Int) then(0:Nat)=(0:Nat)∧asD [DV.agg [CI (3:Int),CS ({data:= #[]:ByteArray}),CI (0:Int),CI (0:Int),CS ({data:= #[]:ByteArray})]]=asD [DV.agg [CI ((argD c).K),CS ((argD c).S),CI ((argD c).V.K),CI ((argD c).V.N),CS ((argD c).V.S)]]∧asD [DV.box [CL .byte (belowC c (6:Int)).b,CI ((belowC c (6:Int)).i),CI ((belowC c (6:Int)).h)]]=asD [DV.box [CL .byte (argDC c).b,CI ((argDC c).i),CI ((argDC c).h)]] else bif belowV c (6:Int)==(1:Int) then cOk (belowC c (6:Int))∧(0:Nat)=(0:Nat)∧asD [DV.agg [CI (2:Int),CS noBytes,CI ((smallV (belowC c (6:Int))).K),CI ((smallV (belowC c (6:Int))).N),CS ((smallV (belowC c (6:Int))).S)]]=asD [DV.agg [CI ((argD c).K),CS ((argD c).S),CI ((argD c).V.K),CI ((argD c).V.N),CS ((argD c).V.S)]]∧asD [DV.box [CL .byte (smallC (belowC c (6:Int))).b,CI ((smallC (belowC c (6:Int))).i),CI ((smallC (belowC c (6:Int))).h)]]=asD [DV.box [CL .byte (argDC c).b,CI ((argDC c).i),CI ((argDC c).h)]] else cOk (belowC c (6:Int))∧(1:Nat)≤x1.length∧(0:Nat)=(0:Nat)∧asD [DV.agg [CI (1:Int),CS (strV (belowC c (6:Int)) x1),CI zVal.K,CI zVal.N,CS zVal.S]]=asD [DV.agg [CI ((argD c).K),CS ((argD c).S),CI ((argD c).V.K),CI ((argD c).V.N),CS ((argD c).V.S)]]∧asD [DV.box [CL .byte x0.b,CI x0.i,CI x0.h]]=asD [DV.box [CL .byte (argDC c).b,CI ((argDC c).i),CI ((argDC c).h)]]) (by kernel_rfl)
 dsimp only
 have h6:=cOk_below hp0 6
 refine⟨hp0.1,hp0.2,if_num (fun h=>⟨by trivial,?_⟩) (fun h=>if_num (fun h'=>⟨h6,by trivial,?_⟩) (fun h'=>⟨h6,by simp,by trivial,?_⟩))⟩
 ·exact LdA (a:=⟨3,noBytes,zVal⟩) (d:=belowC c 6) (if_pos h).symm (if_pos h).symm
 ·exact LdA (a:=⟨2,noBytes,smallV (belowC c 6)⟩) (d:=smallC (belowC c 6)) ((if_neg h).trans (if_pos h')).symm ((if_neg h).trans (if_pos h')).symm
 ·exact LdA (a:=⟨1,strV (belowC c 6) sLxyz,zVal⟩) (d:=strC (belowC c 6) sLxyz) ((if_neg h).trans (if_neg h')).symm ((if_neg h).trans (if_neg h')).symm
def Zh221:HH:=⟨_,Zo221⟩
def Zk153:Con UU where
 α:=DCur×Bool
 md:=[.box false,.ro]
 of:=fun|[.box [.sl .byte a0,.lit (.int .i64 a1),.lit (.int .i64 a2)],.one (.lit (.bool a3))]=>some (⟨a0,a1,a2⟩,a3)|_=>none
 ds:=fun(c,not)=>[.box [.sl .byte c.b,.lit (.int .i64 c.i),.lit (.int .i64 c.h)],.one (.lit (.bool not))]
 pre:=fun(c,not)=>[cOk c]
 res:=fun(c,not)=>⟨[.agg [.lit (.string ((patD not c)).Kind),.sl .eArg ((patD not c)).Args,.lit (.bool ((patD not c)).Not)]],true,[.box [.sl .byte ((patDC c)).b,.lit (.int .i64 ((patDC c)).i),.lit (.int .i64 ((patDC c)).h)]]⟩
 law:=by intro l x h;(try simp only at h);split at h<;>cases h;rfl
def Zi153_6(c:DCur)(not:Bool):Int×(ByteArray×List DArg×Bool×Unit)×(ByteArray×List DArg×Bool×Unit)×(List Int×Int×Int×Unit)×Unit→Prop:=fun(i,r,p,cu,_)=>0≤i∧i≤patN c∧p.1=strV c sLkind∧p.2.2.1=not∧cOk ⟨cu.1,cu.2.1,cu.2.2.1⟩∧p.2.1.length≤i∧iterL argD argDC (patN c-i).toNat p.2.1 ⟨cu.1,cu.2.1,cu.2.2.1⟩=(patD not c).Args∧iterC argDC (patN c-i).toNat ⟨cu.1,cu.2.1,cu.2.2.1⟩=patDC c
def Zm153_6(c:DCur)(not:Bool):Int×(ByteArray×List DArg×Bool×Unit)×(ByteArray×List DArg×Bool×Unit)×(List Int×Int×Int×Unit)×Unit→Nat:=fun(i,r,p,cu,_)=>(patN c-i).toNat
def Za153:Zk153.α→Nat→Option (Ann UU):=fun(c,not)=>annL [(6,annOf [.slot 7 (7,1024) (.lit (.int .i64)),.box 4 (4,1024) [.lit .str,.own .eArg true,.lit .bool],.box 5 (5,1024) [.lit .str,.own .eArg true,.lit .bool],.box 0 (2000000,0) [.shr .byte,.lit (.int .i64),.lit (.int .i64)]] (fun _=>Zi153_6 c not) (Zm153_6 c not))]
def Zu153:=us [Zh78,Zh221]
theorem Zo153:Holds EE (153,Zk153):=by
 refine holds_of EE_ok func153 Zk153 (by kernel_rfl) Zu153 (us_ok _) Za153 (fun x hp hb=> ?_)
 obtain⟨c,not⟩:=x
 have hb_c:BdDV (U:=UU) (.box [.sl .byte c.b,.lit (.int .i64 c.i),.lit (.int .i64 c.h)]):=hb _ (zab)
 have hl_c_b:c.b.length≤9223372036854775807:=Bd.len (U:=UU) (τ:=.byte) (xs:=c.b) (hb_c _ (by simp))
 have hb_not:BdDV (U:=UU) (.one (.lit (.bool not))):=hb _ (zaa _ (zab))
 have hp0:cOk c:=hp _ (zab)
 clear hp hb
 apply @ve _ (let x2:ByteArray:={data:= #[(111:UInt8),(114:UInt8),(100:UInt8),(101:UInt8),(114:UInt8)]:ByteArray};let x3:ByteArray:={data:= #[(105:UInt8),(116:UInt8),(101:UInt8),(109:UInt8)]:ByteArray};let x1:List ByteArray:=[x2,{data:= #[(112:UInt8),(97:UInt8),(105:UInt8),(100:UInt8)]:ByteArray},x3,x2];let x0:DCur:=strC c x1;cOk c∧(1:Nat)≤x1.length∧bif ByteArray.toList (strV c x1)==ByteArray.toList x3 then Zi153_6 c not ((0:Int),({data:= #[]:ByteArray},[],false,()),(strV c x1,[],not,()),(x0.b,x0.i,x0.h,()),())∧∀(y:Int×(ByteArray×List DArg×Bool×PUnit)×(ByteArray×List DArg×Bool×PUnit)×(List Int×Int×Int×PUnit)×PUnit),let x5:DCur:={b:=y.2.2.2.1.1,i:=y.2.2.2.1.2.1,h:=y.2.2.2.1.2.2.1:DCur};let x4:DCur:=argDC x5;Zi153_6 c not y→bif decide (y.1<(2:Int)) then cOk x5∧y.2.2.1.2.1.length+List.length [argD x5]≤(4294967296:Nat)∧Zi153_6 c not (IntKind.wrap IntKind.i64 (y.1+(1:Int)),(y.2.1.1,y.2.1.2.1,y.2.1.2.2.1,()),(y.2.2.1.1,y.2.2.1.2.1++[argD x5],y.2.2.1.2.2.1,()),(x4.b,x4.i,x4.h,()),())∧Zm153_6 c not (IntKind.wrap IntKind.i64 (y.1+(1:Int)),(y.2.1.1,y.2.1.2.1,y.2.1.2.2.1,()),(y.2.2.1.1,y.2.2.1.2.1++[argD x5],y.2.2.1.2.2.1,()),(x4.b,x4.i,x4.h,()),())<Zm153_6 c not y else(0:Nat)=(0:Nat)∧asD [DV.agg [CS y.2.2.1.1,CL .eArg y.2.2.1.2.1,CO y.2.2.1.2.2.1]]=asD [DV.agg [CS ((patD not c).Kind),CL .eArg (patD not c).Args,CO ((patD not c).Not)]]∧asD [DV.box [CL .byte y.2.2.2.1.1,CI y.2.2.2.1.2.1,CI y.2.2.2.1.2.2.1]]=asD [DV.box [CL .byte (patDC c).b,CI ((patDC c).i),CI ((patDC c).h)]] else Zi153_6 c not ((0:Int),({data:= #[]:ByteArray},[],false,()),(strV c x1,[],not,()),(x0.b,x0.i,x0.h,()),())∧∀(y:Int×(ByteArray×List DArg×Bool×PUnit)×(ByteArray×List DArg×Bool×PUnit)×(List Int×Int×Int×PUnit)×PUnit),let x5:DCur:={b:=y.2.2.2.1.1,i:=y.2.2.2.1.2.1,h:=y.2.2.2.1.2.2.1:DCur};let x4:DCur:=argDC x5;Zi153_6 c not y→bif decide (y.1<(1:Int)) then cOk x5∧y.2.2.1.2.1.length+List.length [argD x5]≤(4294967296:Nat)∧Zi153_6 c not (IntKind.wrap IntKind.i64 (y.1+(1:Int)),(y.2.1.1,y.2.1.2.1,y.2.1.2.2.1,()),(y.2.2.1.1,y.2.2.1.2.1++[argD x5],y.2.2.1.2.2.1,()),(x4.b,x4.i,x4.h,()),())∧Zm153_6 c not (IntKind.wrap IntKind.i64 (y.1+(1:Int)),(y.2.1.1,y.2.1.2.1,y.2.1.2.2.1,()),(y.2.2.1.1,y.2.2.1.2.1++[argD x5],y.2.2.1.2.2.1,()),(x4.b,x4.i,x4.h,()),())<Zm153_6 c not y else(0:Nat)=(0:Nat)∧asD [DV.agg [CS y.2.2.1.1,CL .eArg y.2.2.1.2.1,CO y.2.2.1.2.2.1]]=asD [DV.agg [CS ((patD not c).Kind),CL .eArg (patD not c).Args,CO ((patD not c).Not)]]∧asD [DV.box [CL .byte y.2.2.2.1.1,CI y.2.2.2.1.2.1,CI y.2.2.2.1.2.2.1]]=asD [DV.box [CL .byte (patDC c).b,CI ((patDC c).i),CI ((patDC c).h)]]) (by kernel_rfl)
 dsimp only
 have hk:=cOk_str hp0 sLkind
 have hle:=patN_le c
 have fin:Zi153_6 c not ((0:Int),(noBytes,[],false,()),(strV c sLkind,[],not,()),((strC c sLkind).b,(strC c sLkind).i,(strC c sLkind).h,()),()):=⟨by omega,hle.1,rfl,rfl,hk,by simp,by simp only[Int.sub_zero];rfl,by simp only[Int.sub_zero];rfl⟩
 have h2:∀{b:Bool},(ByteArray.toList (strV c sLkind)==ByteArray.toList bItem)=b→patN c=if b=true then 2 else 1:=fun{b} h=>by
  rw[toList_beq] at h
  unfold patN
  cases b with
  |true=>rw[if_pos (of_decide_eq_true h)];rfl
  |false=>rw[if_neg (of_decide_eq_false h)];rfl
 refine⟨hp0,by simp,if_cond (fun h=> ?_) (fun h=> ?_)⟩
 all_goals
  have hN:=h2 h
  simp only[if_true,zbg,if_false] at hN
  clear h
  refine⟨fin,?_⟩
  rintro⟨i,⟨r1,r2,r3,⟨⟩⟩,⟨p1,p2,p3,⟨⟩⟩,⟨cb,ci,ch,⟨⟩⟩,⟨⟩⟩ ⟨g1,g2,g3,g4,g5,g6,g7,g8⟩
  simp only at g1 g2 g3 g4 g5 g6 g7 g8⊢
  refine if_dec (fun hc=> ?_) (fun hc=>⟨by trivial,?_⟩)
  ·have e:(patN c-i).toNat=(patN c-(i+1)).toNat+1:=by omega
   rw[e] at g7 g8
   rw[wrap_i64 (by omega) (by omega)]
   exact⟨g5,by simp only[zbq,zbo];omega,⟨by omega,by omega,g3,g4,cOk_arg g5,by simp only[zce,zbq,zbo];omega,g7,g8⟩,by simp only[Zm153_6];omega⟩
  ·have e:(patN c-i).toNat=0:=by omega
   rw[e] at g7 g8
   have g7:p2=(patD not c).Args:=g7
   have g8:(⟨cb,ci,ch⟩:DCur)=patDC c:=g8
   subst g3 g4 g7
   exact LdP (a:=⟨strV c sLkind,(patD p3 c).Args,p3⟩) (d:=⟨cb,ci,ch⟩) rfl g8
def Zh153:HH:=⟨_,Zo153⟩
def Zk224:Con UU where
 α:=DCur
 md:=[.box false]
 of:=fun|[.box [.sl .byte a0,.lit (.int .i64 a1),.lit (.int .i64 a2)]]=>some ⟨a0,a1,a2⟩|_=>none
 ds:=fun c=>[.box [.sl .byte c.b,.lit (.int .i64 c.i),.lit (.int .i64 c.h)]]
 pre:=fun c=>[cOk c]
 res:=fun c=>⟨[.agg [.lit (.int .i64 ((termD c)).K),.lit (.string ((termD c)).S),.lit (.int .i64 (((termD c)).V).K),.lit (.int .i64 (((termD c)).V).N),.lit (.string (((termD c)).V).S)]],true,[.box [.sl .byte ((termDC c)).b,.lit (.int .i64 ((termDC c)).i),.lit (.int .i64 ((termDC c)).h)]]⟩
 law:=by intro l x h;(try simp only at h);split at h<;>cases h;rfl
def Za224:Zk224.α→Nat→Option (Ann UU):=fun c=>annL []
def Zu224:=us [Zh80,Zh160,Zh78,Zh226,Zh227]
theorem Zo224:Holds EE (224,Zk224):=by
 refine holds_of EE_ok func224 Zk224 (by kernel_rfl) Zu224 (us_ok _) Za224 (fun(c:DCur) hp hb=> ?_)
 have hb_c:BdDV (U:=UU) (.box [.sl .byte c.b,.lit (.int .i64 c.i),.lit (.int .i64 c.h)]):=hb _ (zab)
 have hl_c_b:c.b.length≤9223372036854775807:=Bd.len (U:=UU) (τ:=.byte) (xs:=c.b) (hb_c _ (by simp))
 have hp0:cOk c:=hp _ (zab)
 clear hp hb
 apply @ve _ (let x1:List ByteArray:=[{data:= #[(88:UInt8)]:ByteArray},{data:= #[(89:UInt8)]:ByteArray}];let x0:DCur:=strC (belowC c (3:Int)) x1;cOk c∧bif onceV c (3:Int) then cOk (belowC c (3:Int))∧(0:Nat)=(0:Nat)∧asD [DV.agg [CI (2:Int),CS noBytes,CI ((smallV (belowC c (3:Int))).K),CI ((smallV (belowC c (3:Int))).N),CS ((smallV (belowC c (3:Int))).S)]]=asD [DV.agg [CI ((termD c).K),CS ((termD c).S),CI ((termD c).V.K),CI ((termD c).V.N),CS ((termD c).V.S)]]∧asD [DV.box [CL .byte (smallC (belowC c (3:Int))).b,CI ((smallC (belowC c (3:Int))).i),CI ((smallC (belowC c (3:Int))).h)]]=asD [DV.box [CL .byte (termDC c).b,CI ((termDC c).i),CI ((termDC c).h)]] else cOk (belowC c (3:Int))∧(1:Nat)≤x1.length∧(0:Nat)=(0:Nat)∧asD [DV.agg [CI (1:Int),CS (strV (belowC c (3:Int)) x1),CI zVal.K,CI zVal.N,CS zVal.S]]=asD [DV.agg [CI ((termD c).K),CS ((termD c).S),CI ((termD c).V.K),CI ((termD c).V.N),CS ((termD c).V.S)]]∧asD [DV.box [CL .byte x0.b,CI x0.i,CI x0.h]]=asD [DV.box [CL .byte (termDC c).b,CI ((termDC c).i),CI ((termDC c).h)]]) (by kernel_rfl)
 dsimp only
 have h6:=cOk_below hp0 3
 refine⟨hp0,if_cond (fun h=>⟨h6,by trivial,?_⟩) (fun h=>⟨h6,by simp,by trivial,?_⟩)⟩
 ·exact LdA (a:=⟨2,noBytes,smallV (belowC c 3)⟩) (d:=smallC (belowC c 3)) (if_pos h).symm (if_pos h).symm
 ·have h:¬onceV c 3=true:=by rw[h];decide
  exact LdA (a:=⟨1,strV (belowC c 3) sLxy,zVal⟩) (d:=strC (belowC c 3) sLxy) (if_neg h).symm (if_neg h).symm
def Zh224:HH:=⟨_,Zo224⟩
def Zk155:Con UU where
 α:=DCur
 md:=[.box false]
 of:=fun|[.box [.sl .byte a0,.lit (.int .i64 a1),.lit (.int .i64 a2)]]=>some ⟨a0,a1,a2⟩|_=>none
 ds:=fun c=>[.box [.sl .byte c.b,.lit (.int .i64 c.i),.lit (.int .i64 c.h)]]
 pre:=fun c=>[cOk c]
 res:=fun c=>⟨[.agg [.lit (.int .i64 ((condD c)).Op),.lit (.int .i64 (((condD c)).L).K),.lit (.string (((condD c)).L).S),.lit (.int .i64 ((((condD c)).L).V).K),.lit (.int .i64 ((((condD c)).L).V).N),.lit (.string ((((condD c)).L).V).S),.lit (.int .i64 (((condD c)).R).K),.lit (.string (((condD c)).R).S),.lit (.int .i64 ((((condD c)).R).V).K),.lit (.int .i64 ((((condD c)).R).V).N),.lit (.string ((((condD c)).R).V).S)]],true,[.box [.sl .byte ((condDC c)).b,.lit (.int .i64 ((condDC c)).i),.lit (.int .i64 ((condDC c)).h)]]⟩
 law:=by intro l x h;(try simp only at h);split at h<;>cases h;rfl
def Za155:Zk155.α→Nat→Option (Ann UU):=fun c=>annL []
def Zu155:=us [Zh30,Zh224]
theorem Zo155:Holds EE (155,Zk155):=by
 refine holds_of EE_ok func155 Zk155 (by kernel_rfl) Zu155 (us_ok _) Za155 (fun(c:DCur) hp hb=> ?_)
 have hb_c:BdDV (U:=UU) (.box [.sl .byte c.b,.lit (.int .i64 c.i),.lit (.int .i64 c.h)]):=hb _ (zab)
 have hl_c_b:c.b.length≤9223372036854775807:=Bd.len (U:=UU) (τ:=.byte) (xs:=c.b) (hb_c _ (by simp))
 have hp0:cOk c:=hp _ (zab)
 clear hp hb
 apply @ve _ (let x1:DCur:=termDC (termDC (belowC c (3:Int)));let x2:DArg:=termD (termDC (belowC c (3:Int)));let x3:DVal:=(termD (belowC c (3:Int))).V;let x4:Int:=(1:Int)+belowV c (3:Int);let x0:DVal:=x2.V;(0:Int)≤c.i∧c.b.length≤(4294967296:Nat)∧cOk (belowC c (3:Int))∧cOk (termDC (belowC c (3:Int)))∧(0:Nat)=(0:Nat)∧asD [DV.agg [CI (IntKind.wrap IntKind.i64 x4),CI ((termD (belowC c (3:Int))).K),CS ((termD (belowC c (3:Int))).S),CI x3.K,CI x3.N,CS x3.S,CI x2.K,CS x2.S,CI x0.K,CI x0.N,CS x0.S]]=asD [DV.agg [CI x4,CI ((termD (belowC c (3:Int))).K),CS ((termD (belowC c (3:Int))).S),CI x3.K,CI x3.N,CS x3.S,CI x2.K,CS x2.S,CI x0.K,CI x0.N,CS x0.S]]∧asD [DV.box [CL .byte x1.b,CI x1.i,CI x1.h]]=asD [DV.box [CL .byte x1.b,CI x1.i,CI x1.h]]) (by kernel_rfl)
 dsimp only
 have hb:=belowV_lt (c:=c) (n:=3) (by omega)
 have h3:=cOk_below hp0 3
 rw[wrap_i64 (by omega) (by omega)]
 exact⟨hp0.1,hp0.2,h3,cOk_term h3,by trivial,rfl,rfl⟩
def Zh155:HH:=⟨_,Zo155⟩
def Zk228:Con UU where
 α:=DCur
 md:=[.box false]
 of:=fun|[.box [.sl .byte a0,.lit (.int .i64 a1),.lit (.int .i64 a2)]]=>some ⟨a0,a1,a2⟩|_=>none
 ds:=fun c=>[.box [.sl .byte c.b,.lit (.int .i64 c.i),.lit (.int .i64 c.h)]]
 pre:=fun c=>[cOk c]
 res:=fun c=>⟨[.agg [.lit (.string ((exprD c)).Op),.lit (.int .i64 (((exprD c)).L).K),.lit (.string (((exprD c)).L).S),.lit (.int .i64 ((((exprD c)).L).V).K),.lit (.int .i64 ((((exprD c)).L).V).N),.lit (.string ((((exprD c)).L).V).S),.lit (.int .i64 (((exprD c)).R).K),.lit (.string (((exprD c)).R).S),.lit (.int .i64 ((((exprD c)).R).V).K),.lit (.int .i64 ((((exprD c)).R).V).N),.lit (.string ((((exprD c)).R).V).S)]],true,[.box [.sl .byte ((exprDC c)).b,.lit (.int .i64 ((exprDC c)).i),.lit (.int .i64 ((exprDC c)).h)]]⟩
 law:=by intro l x h;(try simp only at h);split at h<;>cases h;rfl
def Za228:Zk228.α→Nat→Option (Ann UU):=fun c=>annL []
def Zu228:=us [Zh80,Zh224,Zh78]
theorem Zo228:Holds EE (228,Zk228):=by
 refine holds_of EE_ok func228 Zk228 (by kernel_rfl) Zu228 (us_ok _) Za228 (fun(c:DCur) hp hb=> ?_)
 have hb_c:BdDV (U:=UU) (.box [.sl .byte c.b,.lit (.int .i64 c.i),.lit (.int .i64 c.h)]):=hb _ (zab)
 have hl_c_b:c.b.length≤9223372036854775807:=Bd.len (U:=UU) (τ:=.byte) (xs:=c.b) (hb_c _ (by simp))
 have hp0:cOk c:=hp _ (zab)
 clear hp hb
 apply @ve _ (let x4:List ByteArray:=[{data:= #[(43:UInt8)]:ByteArray},{data:= #[(45:UInt8)]:ByteArray}];let x5:DCur:=belowC (termDC c) (4:Int);let x3:DCur:=strC x5 x4;let x1:DCur:=termDC x3;let x2:DArg:=termD x3;let x0:DVal:=x2.V;cOk c∧cOk (termDC c)∧bif onceV (termDC c) (4:Int) then cOk x5∧(1:Nat)≤x4.length∧cOk x3∧(0:Nat)=(0:Nat)∧asD [DV.agg [CS (strV x5 x4),CI ((termD c).K),CS ((termD c).S),CI ((termD c).V.K),CI ((termD c).V.N),CS ((termD c).V.S),CI x2.K,CS x2.S,CI x0.K,CI x0.N,CS x0.S]]=asD [DV.agg [CS ((exprD c).Op),CI ((exprD c).L.K),CS ((exprD c).L.S),CI ((exprD c).L.V.K),CI ((exprD c).L.V.N),CS ((exprD c).L.V.S),CI ((exprD c).R.K),CS ((exprD c).R.S),CI ((exprD c).R.V.K),CI ((exprD c).R.V.N),CS ((exprD c).R.V.S)]]∧asD [DV.box [CL .byte x1.b,CI x1.i,CI x1.h]]=asD [DV.box [CL .byte (exprDC c).b,CI ((exprDC c).i),CI ((exprDC c).h)]] else(0:Nat)=(0:Nat)∧asD [DV.agg [CS ({data:= #[]:ByteArray}),CI ((termD c).K),CS ((termD c).S),CI ((termD c).V.K),CI ((termD c).V.N),CS ((termD c).V.S),CI (0:Int),CS ({data:= #[]:ByteArray}),CI (0:Int),CI (0:Int),CS ({data:= #[]:ByteArray})]]=asD [DV.agg [CS ((exprD c).Op),CI ((exprD c).L.K),CS ((exprD c).L.S),CI ((exprD c).L.V.K),CI ((exprD c).L.V.N),CS ((exprD c).L.V.S),CI ((exprD c).R.K),CS ((exprD c).R.S),CI ((exprD c).R.V.K),CI ((exprD c).R.V.N),CS ((exprD c).R.V.S)]]∧asD [DV.box [CL .byte x5.b,CI x5.i,CI x5.h]]=asD [DV.box [CL .byte (exprDC c).b,CI ((exprDC c).i),CI ((exprDC c).h)]]) (by kernel_rfl)
 dsimp only
 have h1:=cOk_term hp0
 have h4:=cOk_below h1 4
 refine⟨hp0,h1,if_cond (fun h=>⟨h4,by simp,cOk_str h4 _,by trivial,?_⟩) (fun h=>⟨by trivial,?_⟩)⟩
 ·exact LdE (a:=⟨strV (belowC (termDC c) 4) sLop,termD c,termD (strC (belowC (termDC c) 4) sLop)⟩) (d:=termDC (strC (belowC (termDC c) 4) sLop)) (if_pos h).symm (if_pos h).symm
 ·have h:¬onceV (termDC c) 4=true:=by rw[h];decide
  exact LdE (a:=⟨noBytes,termD c,zArg⟩) (d:=belowC (termDC c) 4) (if_neg h).symm (if_neg h).symm
def Zh228:HH:=⟨_,Zo228⟩
def Zk157:Con UU where
 α:=DCur×Int
 md:=[.box false,.ro]
 of:=fun|[.box [.sl .byte a0,.lit (.int .i64 a1),.lit (.int .i64 a2)],.one (.lit (.int .i64 a3))]=>some (⟨a0,a1,a2⟩,a3)|_=>none
 ds:=fun(c,pats)=>[.box [.sl .byte c.b,.lit (.int .i64 c.i),.lit (.int .i64 c.h)],.one (.lit (.int .i64 pats))]
 pre:=fun(c,pats)=>[cOk c]
 res:=fun(c,pats)=>⟨[.agg [.lit (.int .i64 ((actD pats c)).Kind),.lit (.string ((actD pats c)).Name),.sl .eExpr ((actD pats c)).Args,.lit (.int .i64 ((actD pats c)).N),.lit (.string ((actD pats c)).Undo)]],true,[.box [.sl .byte ((actDC pats c)).b,.lit (.int .i64 ((actDC pats c)).i),.lit (.int .i64 ((actDC pats c)).h)]]⟩
 law:=by intro l x h;(try simp only at h);split at h<;>cases h;rfl
def Zi157_14(c:DCur)(pats:Int):Int×(Int×ByteArray×List DExpr×Int×ByteArray×Unit)×(Int×ByteArray×List DExpr×Int×ByteArray×Unit)×(List Int×Int×Int×Unit)×Unit→Prop:=fun(i,r,p,cu,_)=>0≤i∧i≤actN c∧p.1=actK c∧p.2.1=actName c∧p.2.2.2.1=0∧p.2.2.2.2.1=noBytes∧cOk ⟨cu.1,cu.2.1,cu.2.2.1⟩∧p.2.2.1.length≤i∧iterL exprD exprDC (actN c-i).toNat p.2.2.1 ⟨cu.1,cu.2.1,cu.2.2.1⟩=actAs c∧iterC exprDC (actN c-i).toNat ⟨cu.1,cu.2.1,cu.2.2.1⟩=actC3 c
def Zm157_14(c:DCur)(pats:Int):Int×(Int×ByteArray×List DExpr×Int×ByteArray×Unit)×(Int×ByteArray×List DExpr×Int×ByteArray×Unit)×(List Int×Int×Int×Unit)×Unit→Nat:=fun(i,r,p,cu,_)=>(actN c-i).toNat
def Za157:Zk157.α→Nat→Option (Ann UU):=fun(c,pats)=>annL [(14,annOf [.slot 7 (7,1024) (.lit (.int .i64)),.box 4 (4,1024) [.lit (.int .i64),.lit .str,.own .eExpr true,.lit (.int .i64),.lit .str],.box 5 (5,1024) [.lit (.int .i64),.lit .str,.own .eExpr true,.lit (.int .i64),.lit .str],.box 0 (2000000,0) [.shr .byte,.lit (.int .i64),.lit (.int .i64)]] (fun _=>Zi157_14 c pats) (Zm157_14 c pats))]
def Zu157:=us [Zh152,Zh30,Zh78,Zh228,Zh80]
theorem Zo157:Holds EE (157,Zk157):=by
 refine holds_of EE_ok func157 Zk157 (by kernel_rfl) Zu157 (us_ok _) Za157 (fun x hp hb=> ?_)
 obtain⟨c,pats⟩:=x
 have hb_c:BdDV (U:=UU) (.box [.sl .byte c.b,.lit (.int .i64 c.i),.lit (.int .i64 c.h)]):=hb _ (zab)
 have hl_c_b:c.b.length≤9223372036854775807:=Bd.len (U:=UU) (τ:=.byte) (xs:=c.b) (hb_c _ (by simp))
 have hb_pats:BdDV (U:=UU) (.one (.lit (.int .i64 pats))):=hb _ (zaa _ (zab))
 have hl_pats:=Bd.i64 hb_pats
 have hp0:cOk c:=hp _ (zab)
 clear hp hb
 apply @ve _ (let x4:List ByteArray:=[{data:= #[(114:UInt8),(101:UInt8),(102:UInt8),(117:UInt8),(110:UInt8),(100:UInt8)]:ByteArray},{data:= #[(99:UInt8),(97:UInt8),(110:UInt8),(99:UInt8),(101:UInt8),(108:UInt8)]:ByteArray}];let x7:List Int:=[(1:Int),(1:Int),(2:Int),(3:Int),(3:Int),(4:Int),(5:Int),(6:Int)];let x9:ByteArray:={data:= #[(105:UInt8),(116:UInt8),(101:UInt8),(109:UInt8)]:ByteArray};let x11:List Int:=[(0:Int),(1:Int),(5:Int),(100000:Int)];let x12:ByteArray:={data:= #[]:ByteArray};let x3:List ByteArray:=[{data:= #[(111:UInt8),(114:UInt8),(100:UInt8),(101:UInt8),(114:UInt8)]:ByteArray},{data:= #[(112:UInt8),(97:UInt8),(105:UInt8),(100:UInt8)]:ByteArray},x9,{data:= #[(115:UInt8),(104:UInt8),(105:UInt8),(112:UInt8)]:ByteArray},{data:= #[(99:UInt8),(104:UInt8),(97:UInt8),(114:UInt8),(103:UInt8),(101:UInt8)]:ByteArray}];let x6:Nat:=x7.length;let x10:Nat:=x11.length;let x5:Int:=(↑x6:Int);let x8:Int:=(↑x10:Int);let x1:Int:=List.getD x7 (Int.toNat (belowV c x5)) (0:Int);let x2:DCur:=belowC c x5;let x0:DCur:=strC x2 x3;(0:Int)≤c.i∧c.b.length≤(4294967296:Nat)∧(1:Nat)≤x6∧bif x1==(2:Int) then(0:Int)≤x2.i∧x2.b.length≤(4294967296:Nat)∧(0:Nat)=(0:Nat)∧asD [DV.agg [CI x1,CS x12,CL .eExpr [],CI (belowV x2 pats),CS x12]]=asD [DV.agg [CI ((actD pats c).Kind),CS ((actD pats c).Name),CL .eExpr (actD pats c).Args,CI ((actD pats c).N),CS ((actD pats c).Undo)]]∧asD [DV.box [CL .byte (belowC x2 pats).b,CI ((belowC x2 pats).i),CI ((belowC x2 pats).h)]]=asD [DV.box [CL .byte (actDC pats c).b,CI ((actDC pats c).i),CI ((actDC pats c).h)]] else bif x1==(5:Int) then bif x1==(5:Int) then(0:Nat)=(0:Nat)∧asD [DV.agg [CI x1,CS x12,CL .eExpr [],CI (0:Int),CS x12]]=asD [DV.agg [CI ((actD pats c).Kind),CS ((actD pats c).Name),CL .eExpr (actD pats c).Args,CI ((actD pats c).N),CS ((actD pats c).Undo)]]∧asD [DV.box [CL .byte x2.b,CI x2.i,CI x2.h]]=asD [DV.box [CL .byte (actDC pats c).b,CI ((actDC pats c).i),CI ((actDC pats c).h)]] else cOk x2∧(1:Nat)≤x3.length∧bif ByteArray.toList (strV x2 x3)==ByteArray.toList x9 then Zi157_14 c pats ((0:Int),((0:Int),x12,[],(0:Int),x12,()),(x1,strV x2 x3,[],(0:Int),x12,()),(x0.b,x0.i,x0.h,()),())∧∀(y:Int×(Int×ByteArray×List DExpr×Int×ByteArray×PUnit)×(Int×ByteArray×List DExpr×Int×ByteArray×PUnit)×(List Int×Int×Int×PUnit)×PUnit),let x13:DCur:={b:=y.2.2.2.1.1,i:=y.2.2.2.1.2.1,h:=y.2.2.2.1.2.2.1:DCur};let x14:Bool:=y.2.2.1.1==(3:Int);let x15:DCur:=belowC (belowC x13 x8) (2:Int);let x16:DCur:=strC (belowC x13 (2:Int)) x4;Zi157_14 c pats y→bif decide (y.1<(2:Int)) then cOk x13∧y.2.2.1.2.2.1.length+List.length [exprD x13]≤(4294967296:Nat)∧Zi157_14 c pats (IntKind.wrap IntKind.i64 (y.1+(1:Int)),(y.2.1.1,y.2.1.2.1,y.2.1.2.2.1,y.2.1.2.2.2.1,y.2.1.2.2.2.2.1,()),(y.2.2.1.1,y.2.2.1.2.1,y.2.2.1.2.2.1++[exprD x13],y.2.2.1.2.2.2.1,y.2.2.1.2.2.2.2.1,()),((exprDC x13).b,(exprDC x13).i,(exprDC x13).h,()),())∧Zm157_14 c pats (IntKind.wrap IntKind.i64 (y.1+(1:Int)),(y.2.1.1,y.2.1.2.1,y.2.1.2.2.1,y.2.1.2.2.2.1,y.2.1.2.2.2.2.1,()),(y.2.2.1.1,y.2.2.1.2.1,y.2.2.1.2.2.1++[exprD x13],y.2.2.1.2.2.2.1,y.2.2.1.2.2.2.2.1,()),((exprDC x13).b,(exprDC x13).i,(exprDC x13).h,()),())<Zm157_14 c pats y else bif y.2.2.1.1==(4:Int) then(0:Int)≤y.2.2.2.1.2.1∧y.2.2.2.1.1.length≤(4294967296:Nat)∧(1:Nat)≤x10∧bif x14 then cOk (belowC x13 x8)∧bif onceV (belowC x13 x8) (2:Int) then cOk x15∧(1:Nat)≤x4.length∧(0:Nat)=(0:Nat)∧asD [DV.agg [CI y.2.2.1.1,CS y.2.2.1.2.1,CL .eExpr y.2.2.1.2.2.1,CI (List.getD x11 (Int.toNat (belowV x13 x8)) (0:Int)),CS (strV x15 x4)]]=asD [DV.agg [CI ((actD pats c).Kind),CS ((actD pats c).Name),CL .eExpr (actD pats c).Args,CI ((actD pats c).N),CS ((actD pats c).Undo)]]∧asD [DV.box [CL .byte (strC x15 x4).b,CI ((strC x15 x4).i),CI ((strC x15 x4).h)]]=asD [DV.box [CL .byte (actDC pats c).b,CI ((actDC pats c).i),CI ((actDC pats c).h)]] else(0:Nat)=(0:Nat)∧asD [DV.agg [CI y.2.2.1.1,CS y.2.2.1.2.1,CL .eExpr y.2.2.1.2.2.1,CI (List.getD x11 (Int.toNat (belowV x13 x8)) (0:Int)),CS y.2.2.1.2.2.2.2.1]]=asD [DV.agg [CI ((actD pats c).Kind),CS ((actD pats c).Name),CL .eExpr (actD pats c).Args,CI ((actD pats c).N),CS ((actD pats c).Undo)]]∧asD [DV.box [CL .byte x15.b,CI x15.i,CI x15.h]]=asD [DV.box [CL .byte (actDC pats c).b,CI ((actDC pats c).i),CI ((actDC pats c).h)]] else(0:Nat)=(0:Nat)∧asD [DV.agg [CI y.2.2.1.1,CS y.2.2.1.2.1,CL .eExpr y.2.2.1.2.2.1,CI (List.getD x11 (Int.toNat (belowV x13 x8)) (0:Int)),CS y.2.2.1.2.2.2.2.1]]=asD [DV.agg [CI ((actD pats c).Kind),CS ((actD pats c).Name),CL .eExpr (actD pats c).Args,CI ((actD pats c).N),CS ((actD pats c).Undo)]]∧asD [DV.box [CL .byte (belowC x13 x8).b,CI ((belowC x13 x8).i),CI ((belowC x13 x8).h)]]=asD [DV.box [CL .byte (actDC pats c).b,CI ((actDC pats c).i),CI ((actDC pats c).h)]] else bif x14 then cOk x13∧bif onceV x13 (2:Int) then cOk (belowC x13 (2:Int))∧(1:Nat)≤x4.length∧(0:Nat)=(0:Nat)∧asD [DV.agg [CI y.2.2.1.1,CS y.2.2.1.2.1,CL .eExpr y.2.2.1.2.2.1,CI y.2.2.1.2.2.2.1,CS (strV (belowC x13 (2:Int)) x4)]]=asD [DV.agg [CI ((actD pats c).Kind),CS ((actD pats c).Name),CL .eExpr (actD pats c).Args,CI ((actD pats c).N),CS ((actD pats c).Undo)]]∧asD [DV.box [CL .byte x16.b,CI x16.i,CI x16.h]]=asD [DV.box [CL .byte (actDC pats c).b,CI ((actDC pats c).i),CI ((actDC pats c).h)]] else(0:Nat)=(0:Nat)∧asD [DV.agg [CI y.2.2.1.1,CS y.2.2.1.2.1,CL .eExpr y.2.2.1.2.2.1,CI y.2.2.1.2.2.2.1,CS y.2.2.1.2.2.2.2.1]]=asD [DV.agg [CI ((actD pats c).Kind),CS ((actD pats c).Name),CL .eExpr (actD pats c).Args,CI ((actD pats c).N),CS ((actD pats c).Undo)]]∧asD [DV.box [CL .byte (belowC x13 (2:Int)).b,CI ((belowC x13 (2:Int)).i),CI ((belowC x13 (2:Int)).h)]]=asD [DV.box [CL .byte (actDC pats c).b,CI ((actDC pats c).i),CI ((actDC pats c).h)]] else(0:Nat)=(0:Nat)∧asD [DV.agg [CI y.2.2.1.1,CS y.2.2.1.2.1,CL .eExpr y.2.2.1.2.2.1,CI y.2.2.1.2.2.2.1,CS y.2.2.1.2.2.2.2.1]]=asD [DV.agg [CI ((actD pats c).Kind),CS ((actD pats c).Name),CL .eExpr (actD pats c).Args,CI ((actD pats c).N),CS ((actD pats c).Undo)]]∧asD [DV.box [CL .byte y.2.2.2.1.1,CI y.2.2.2.1.2.1,CI y.2.2.2.1.2.2.1]]=asD [DV.box [CL .byte (actDC pats c).b,CI ((actDC pats c).i),CI ((actDC pats c).h)]] else Zi157_14 c pats ((0:Int),((0:Int),x12,[],(0:Int),x12,()),(x1,strV x2 x3,[],(0:Int),x12,()),(x0.b,x0.i,x0.h,()),())∧∀(y:Int×(Int×ByteArray×List DExpr×Int×ByteArray×PUnit)×(Int×ByteArray×List DExpr×Int×ByteArray×PUnit)×(List Int×Int×Int×PUnit)×PUnit),let x13:DCur:={b:=y.2.2.2.1.1,i:=y.2.2.2.1.2.1,h:=y.2.2.2.1.2.2.1:DCur};let x14:Bool:=y.2.2.1.1==(3:Int);let x15:DCur:=belowC (belowC x13 x8) (2:Int);let x16:DCur:=strC (belowC x13 (2:Int)) x4;Zi157_14 c pats y→bif decide (y.1<(1:Int)) then cOk x13∧y.2.2.1.2.2.1.length+List.length [exprD x13]≤(4294967296:Nat)∧Zi157_14 c pats (IntKind.wrap IntKind.i64 (y.1+(1:Int)),(y.2.1.1,y.2.1.2.1,y.2.1.2.2.1,y.2.1.2.2.2.1,y.2.1.2.2.2.2.1,()),(y.2.2.1.1,y.2.2.1.2.1,y.2.2.1.2.2.1++[exprD x13],y.2.2.1.2.2.2.1,y.2.2.1.2.2.2.2.1,()),((exprDC x13).b,(exprDC x13).i,(exprDC x13).h,()),())∧Zm157_14 c pats (IntKind.wrap IntKind.i64 (y.1+(1:Int)),(y.2.1.1,y.2.1.2.1,y.2.1.2.2.1,y.2.1.2.2.2.1,y.2.1.2.2.2.2.1,()),(y.2.2.1.1,y.2.2.1.2.1,y.2.2.1.2.2.1++[exprD x13],y.2.2.1.2.2.2.1,y.2.2.1.2.2.2.2.1,()),((exprDC x13).b,(exprDC x13).i,(exprDC x13).h,()),())<Zm157_14 c pats y else bif y.2.2.1.1==(4:Int) then(0:Int)≤y.2.2.2.1.2.1∧y.2.2.2.1.1.length≤(4294967296:Nat)∧(1:Nat)≤x10∧bif x14 then cOk (belowC x13 x8)∧bif onceV (belowC x13 x8) (2:Int) then cOk x15∧(1:Nat)≤x4.length∧(0:Nat)=(0:Nat)∧asD [DV.agg [CI y.2.2.1.1,CS y.2.2.1.2.1,CL .eExpr y.2.2.1.2.2.1,CI (List.getD x11 (Int.toNat (belowV x13 x8)) (0:Int)),CS (strV x15 x4)]]=asD [DV.agg [CI ((actD pats c).Kind),CS ((actD pats c).Name),CL .eExpr (actD pats c).Args,CI ((actD pats c).N),CS ((actD pats c).Undo)]]∧asD [DV.box [CL .byte (strC x15 x4).b,CI ((strC x15 x4).i),CI ((strC x15 x4).h)]]=asD [DV.box [CL .byte (actDC pats c).b,CI ((actDC pats c).i),CI ((actDC pats c).h)]] else(0:Nat)=(0:Nat)∧asD [DV.agg [CI y.2.2.1.1,CS y.2.2.1.2.1,CL .eExpr y.2.2.1.2.2.1,CI (List.getD x11 (Int.toNat (belowV x13 x8)) (0:Int)),CS y.2.2.1.2.2.2.2.1]]=asD [DV.agg [CI ((actD pats c).Kind),CS ((actD pats c).Name),CL .eExpr (actD pats c).Args,CI ((actD pats c).N),CS ((actD pats c).Undo)]]∧asD [DV.box [CL .byte x15.b,CI x15.i,CI x15.h]]=asD [DV.box [CL .byte (actDC pats c).b,CI ((actDC pats c).i),CI ((actDC pats c).h)]] else(0:Nat)=(0:Nat)∧asD [DV.agg [CI y.2.2.1.1,CS y.2.2.1.2.1,CL .eExpr y.2.2.1.2.2.1,CI (List.getD x11 (Int.toNat (belowV x13 x8)) (0:Int)),CS y.2.2.1.2.2.2.2.1]]=asD [DV.agg [CI ((actD pats c).Kind),CS ((actD pats c).Name),CL .eExpr (actD pats c).Args,CI ((actD pats c).N),CS ((actD pats c).Undo)]]∧asD [DV.box [CL .byte (belowC x13 x8).b,CI ((belowC x13 x8).i),CI ((belowC x13 x8).h)]]=asD [DV.box [CL .byte (actDC pats c).b,CI ((actDC pats c).i),CI ((actDC pats c).h)]] else bif x14 then cOk x13∧bif onceV x13 (2:Int) then cOk (belowC x13 (2:Int))∧(1:Nat)≤x4.length∧(0:Nat)=(0:Nat)∧asD [DV.agg [CI y.2.2.1.1,CS y.2.2.1.2.1,CL .eExpr y.2.2.1.2.2.1,CI y.2.2.1.2.2.2.1,CS (strV (belowC x13 (2:Int)) x4)]]=asD [DV.agg [CI ((actD pats c).Kind),CS ((actD pats c).Name),CL .eExpr (actD pats c).Args,CI ((actD pats c).N),CS ((actD pats c).Undo)]]∧asD [DV.box [CL .byte x16.b,CI x16.i,CI x16.h]]=asD [DV.box [CL .byte (actDC pats c).b,CI ((actDC pats c).i),CI ((actDC pats c).h)]] else(0:Nat)=(0:Nat)∧asD [DV.agg [CI y.2.2.1.1,CS y.2.2.1.2.1,CL .eExpr y.2.2.1.2.2.1,CI y.2.2.1.2.2.2.1,CS y.2.2.1.2.2.2.2.1]]=asD [DV.agg [CI ((actD pats c).Kind),CS ((actD pats c).Name),CL .eExpr (actD pats c).Args,CI ((actD pats c).N),CS ((actD pats c).Undo)]]∧asD [DV.box [CL .byte (belowC x13 (2:Int)).b,CI ((belowC x13 (2:Int)).i),CI ((belowC x13 (2:Int)).h)]]=asD [DV.box [CL .byte (actDC pats c).b,CI ((actDC pats c).i),CI ((actDC pats c).h)]] else(0:Nat)=(0:Nat)∧asD [DV.agg [CI y.2.2.1.1,CS y.2.2.1.2.1,CL .eExpr y.2.2.1.2.2.1,CI y.2.2.1.2.2.2.1,CS y.2.2.1.2.2.2.2.1]]=asD [DV.agg [CI ((actD pats c).Kind),CS ((actD pats c).Name),CL .eExpr (actD pats c).Args,CI ((actD pats c).N),CS ((actD pats c).Undo)]]∧asD [DV.box [CL .byte y.2.2.2.1.1,CI y.2.2.2.1.2.1,CI y.2.2.2.1.2.2.1]]=asD [DV.box [CL .byte (actDC pats c).b,CI ((actDC pats c).i),CI ((actDC pats c).h)]] else bif x1==(6:Int) then(0:Nat)=(0:Nat)∧asD [DV.agg [CI x1,CS x12,CL .eExpr [],CI (0:Int),CS x12]]=asD [DV.agg [CI ((actD pats c).Kind),CS ((actD pats c).Name),CL .eExpr (actD pats c).Args,CI ((actD pats c).N),CS ((actD pats c).Undo)]]∧asD [DV.box [CL .byte x2.b,CI x2.i,CI x2.h]]=asD [DV.box [CL .byte (actDC pats c).b,CI ((actDC pats c).i),CI ((actDC pats c).h)]] else cOk x2∧(1:Nat)≤x3.length∧bif ByteArray.toList (strV x2 x3)==ByteArray.toList x9 then Zi157_14 c pats ((0:Int),((0:Int),x12,[],(0:Int),x12,()),(x1,strV x2 x3,[],(0:Int),x12,()),(x0.b,x0.i,x0.h,()),())∧∀(y:Int×(Int×ByteArray×List DExpr×Int×ByteArray×PUnit)×(Int×ByteArray×List DExpr×Int×ByteArray×PUnit)×(List Int×Int×Int×PUnit)×PUnit),let x13:DCur:={b:=y.2.2.2.1.1,i:=y.2.2.2.1.2.1,h:=y.2.2.2.1.2.2.1:DCur};let x14:Bool:=y.2.2.1.1==(3:Int);let x15:DCur:=belowC (belowC x13 x8) (2:Int);let x16:DCur:=strC (belowC x13 (2:Int)) x4;Zi157_14 c pats y→bif decide (y.1<(2:Int)) then cOk x13∧y.2.2.1.2.2.1.length+List.length [exprD x13]≤(4294967296:Nat)∧Zi157_14 c pats (IntKind.wrap IntKind.i64 (y.1+(1:Int)),(y.2.1.1,y.2.1.2.1,y.2.1.2.2.1,y.2.1.2.2.2.1,y.2.1.2.2.2.2.1,()),(y.2.2.1.1,y.2.2.1.2.1,y.2.2.1.2.2.1++[exprD x13],y.2.2.1.2.2.2.1,y.2.2.1.2.2.2.2.1,()),((exprDC x13).b,(exprDC x13).i,(exprDC x13).h,()),())∧Zm157_14 c pats (IntKind.wrap IntKind.i64 (y.1+(1:Int)),(y.2.1.1,y.2.1.2.1,y.2.1.2.2.1,y.2.1.2.2.2.1,y.2.1.2.2.2.2.1,()),(y.2.2.1.1,y.2.2.1.2.1,y.2.2.1.2.2.1++[exprD x13],y.2.2.1.2.2.2.1,y.2.2.1.2.2.2.2.1,()),((exprDC x13).b,(exprDC x13).i,(exprDC x13).h,()),())<Zm157_14 c pats y else bif y.2.2.1.1==(4:Int) then(0:Int)≤y.2.2.2.1.2.1∧y.2.2.2.1.1.length≤(4294967296:Nat)∧(1:Nat)≤x10∧bif x14 then cOk (belowC x13 x8)∧bif onceV (belowC x13 x8) (2:Int) then cOk x15∧(1:Nat)≤x4.length∧(0:Nat)=(0:Nat)∧asD [DV.agg [CI y.2.2.1.1,CS y.2.2.1.2.1,CL .eExpr y.2.2.1.2.2.1,CI (List.getD x11 (Int.toNat (belowV x13 x8)) (0:Int)),CS (strV x15 x4)]]=asD [DV.agg [CI ((actD pats c).Kind),CS ((actD pats c).Name),CL .eExpr (actD pats c).Args,CI ((actD pats c).N),CS ((actD pats c).Undo)]]∧asD [DV.box [CL .byte (strC x15 x4).b,CI ((strC x15 x4).i),CI ((strC x15 x4).h)]]=asD [DV.box [CL .byte (actDC pats c).b,CI ((actDC pats c).i),CI ((actDC pats c).h)]] else(0:Nat)=(0:Nat)∧asD [DV.agg [CI y.2.2.1.1,CS y.2.2.1.2.1,CL .eExpr y.2.2.1.2.2.1,CI (List.getD x11 (Int.toNat (belowV x13 x8)) (0:Int)),CS y.2.2.1.2.2.2.2.1]]=asD [DV.agg [CI ((actD pats c).Kind),CS ((actD pats c).Name),CL .eExpr (actD pats c).Args,CI ((actD pats c).N),CS ((actD pats c).Undo)]]∧asD [DV.box [CL .byte x15.b,CI x15.i,CI x15.h]]=asD [DV.box [CL .byte (actDC pats c).b,CI ((actDC pats c).i),CI ((actDC pats c).h)]] else(0:Nat)=(0:Nat)∧asD [DV.agg [CI y.2.2.1.1,CS y.2.2.1.2.1,CL .eExpr y.2.2.1.2.2.1,CI (List.getD x11 (Int.toNat (belowV x13 x8)) (0:Int)),CS y.2.2.1.2.2.2.2.1]]=asD [DV.agg [CI ((actD pats c).Kind),CS ((actD pats c).Name),CL .eExpr (actD pats c).Args,CI ((actD pats c).N),CS ((actD pats c).Undo)]]∧asD [DV.box [CL .byte (belowC x13 x8).b,CI ((belowC x13 x8).i),CI ((belowC x13 x8).h)]]=asD [DV.box [CL .byte (actDC pats c).b,CI ((actDC pats c).i),CI ((actDC pats c).h)]] else bif x14 then cOk x13∧bif onceV x13 (2:Int) then cOk (belowC x13 (2:Int))∧(1:Nat)≤x4.length∧(0:Nat)=(0:Nat)∧asD [DV.agg [CI y.2.2.1.1,CS y.2.2.1.2.1,CL .eExpr y.2.2.1.2.2.1,CI y.2.2.1.2.2.2.1,CS (strV (belowC x13 (2:Int)) x4)]]=asD [DV.agg [CI ((actD pats c).Kind),CS ((actD pats c).Name),CL .eExpr (actD pats c).Args,CI ((actD pats c).N),CS ((actD pats c).Undo)]]∧asD [DV.box [CL .byte x16.b,CI x16.i,CI x16.h]]=asD [DV.box [CL .byte (actDC pats c).b,CI ((actDC pats c).i),CI ((actDC pats c).h)]] else(0:Nat)=(0:Nat)∧asD [DV.agg [CI y.2.2.1.1,CS y.2.2.1.2.1,CL .eExpr y.2.2.1.2.2.1,CI y.2.2.1.2.2.2.1,CS y.2.2.1.2.2.2.2.1]]=asD [DV.agg [CI ((actD pats c).Kind),CS ((actD pats c).Name),CL .eExpr (actD pats c).Args,CI ((actD pats c).N),CS ((actD pats c).Undo)]]∧asD [DV.box [CL .byte (belowC x13 (2:Int)).b,CI ((belowC x13 (2:Int)).i),CI ((belowC x13 (2:Int)).h)]]=asD [DV.box [CL .byte (actDC pats c).b,CI ((actDC pats c).i),CI ((actDC pats c).h)]] else(0:Nat)=(0:Nat)∧asD [DV.agg [CI y.2.2.1.1,CS y.2.2.1.2.1,CL .eExpr y.2.2.1.2.2.1,CI y.2.2.1.2.2.2.1,CS y.2.2.1.2.2.2.2.1]]=asD [DV.agg [CI ((actD pats c).Kind),CS ((actD pats c).Name),CL .eExpr (actD pats c).Args,CI ((actD pats c).N),CS ((actD pats c).Undo)]]∧asD [DV.box [CL .byte y.2.2.2.1.1,CI y.2.2.2.1.2.1,CI y.2.2.2.1.2.2.1]]=asD [DV.box [CL .byte (actDC pats c).b,CI ((actDC pats c).i),CI ((actDC pats c).h)]] else Zi157_14 c pats ((0:Int),((0:Int),x12,[],(0:Int),x12,()),(x1,strV x2 x3,[],(0:Int),x12,()),(x0.b,x0.i,x0.h,()),())∧∀(y:Int×(Int×ByteArray×List DExpr×Int×ByteArray×PUnit)×(Int×ByteArray×List DExpr×Int×ByteArray×PUnit)×(List Int×Int×Int×PUnit)×PUnit),let x13:DCur:={b:=y.2.2.2.1.1,i:=y.2.2.2.1.2.1,h:=y.2.2.2.1.2.2.1:DCur};let x14:Bool:=y.2.2.1.1==(3:Int);let x15:DCur:=belowC (belowC x13 x8) (2:Int);let x16:DCur:=strC (belowC x13 (2:Int)) x4;Zi157_14 c pats y→bif decide (y.1<(1:Int)) then cOk x13∧y.2.2.1.2.2.1.length+List.length [exprD x13]≤(4294967296:Nat)∧Zi157_14 c pats (IntKind.wrap IntKind.i64 (y.1+(1:Int)),(y.2.1.1,y.2.1.2.1,y.2.1.2.2.1,y.2.1.2.2.2.1,y.2.1.2.2.2.2.1,()),(y.2.2.1.1,y.2.2.1.2.1,y.2.2.1.2.2.1++[exprD x13],y.2.2.1.2.2.2.1,y.2.2.1.2.2.2.2.1,()),((exprDC x13).b,(exprDC x13).i,(exprDC x13).h,()),())∧Zm157_14 c pats (IntKind.wrap IntKind.i64 (y.1+(1:Int)),(y.2.1.1,y.2.1.2.1,y.2.1.2.2.1,y.2.1.2.2.2.1,y.2.1.2.2.2.2.1,()),(y.2.2.1.1,y.2.2.1.2.1,y.2.2.1.2.2.1++[exprD x13],y.2.2.1.2.2.2.1,y.2.2.1.2.2.2.2.1,()),((exprDC x13).b,(exprDC x13).i,(exprDC x13).h,()),())<Zm157_14 c pats y else bif y.2.2.1.1==(4:Int) then(0:Int)≤y.2.2.2.1.2.1∧y.2.2.2.1.1.length≤(4294967296:Nat)∧(1:Nat)≤x10∧bif x14 then cOk (belowC x13 x8)∧bif onceV (belowC x13 x8) (2:Int) then cOk x15∧(1:Nat)≤x4.length∧(0:Nat)=(0:Nat)∧asD [DV.agg [CI y.2.2.1.1,CS y.2.2.1.2.1,CL .eExpr y.2.2.1.2.2.1,CI (List.getD x11 (Int.toNat (belowV x13 x8)) (0:Int)),CS (strV x15 x4)]]=asD [DV.agg [CI ((actD pats c).Kind),CS ((actD pats c).Name),CL .eExpr (actD pats c).Args,CI ((actD pats c).N),CS ((actD pats c).Undo)]]∧asD [DV.box [CL .byte (strC x15 x4).b,CI ((strC x15 x4).i),CI ((strC x15 x4).h)]]=asD [DV.box [CL .byte (actDC pats c).b,CI ((actDC pats c).i),CI ((actDC pats c).h)]] else(0:Nat)=(0:Nat)∧asD [DV.agg [CI y.2.2.1.1,CS y.2.2.1.2.1,CL .eExpr y.2.2.1.2.2.1,CI (List.getD x11 (Int.toNat (belowV x13 x8)) (0:Int)),CS y.2.2.1.2.2.2.2.1]]=asD [DV.agg [CI ((actD pats c).Kind),CS ((actD pats c).Name),CL .eExpr (actD pats c).Args,CI ((actD pats c).N),CS ((actD pats c).Undo)]]∧asD [DV.box [CL .byte x15.b,CI x15.i,CI x15.h]]=asD [DV.box [CL .byte (actDC pats c).b,CI ((actDC pats c).i),CI ((actDC pats c).h)]] else(0:Nat)=(0:Nat)∧asD [DV.agg [CI y.2.2.1.1,CS y.2.2.1.2.1,CL .eExpr y.2.2.1.2.2.1,CI (List.getD x11 (Int.toNat (belowV x13 x8)) (0:Int)),CS y.2.2.1.2.2.2.2.1]]=asD [DV.agg [CI ((actD pats c).Kind),CS ((actD pats c).Name),CL .eExpr (actD pats c).Args,CI ((actD pats c).N),CS ((actD pats c).Undo)]]∧asD [DV.box [CL .byte (belowC x13 x8).b,CI ((belowC x13 x8).i),CI ((belowC x13 x8).h)]]=asD [DV.box [CL .byte (actDC pats c).b,CI ((actDC pats c).i),CI ((actDC pats c).h)]] else bif x14 then cOk x13∧bif onceV x13 (2:Int) then cOk (belowC x13 (2:Int))∧(1:Nat)≤x4.length∧(0:Nat)=(0:Nat)∧asD [DV.agg [CI y.2.2.1.1,CS y.2.2.1.2.1,CL .eExpr y.2.2.1.2.2.1,CI y.2.2.1.2.2.2.1,CS (strV (belowC x13 (2:Int)) x4)]]=asD [DV.agg [CI ((actD pats c).Kind),CS ((actD pats c).Name),CL .eExpr (actD pats c).Args,CI ((actD pats c).N),CS ((actD pats c).Undo)]]∧asD [DV.box [CL .byte x16.b,CI x16.i,CI x16.h]]=asD [DV.box [CL .byte (actDC pats c).b,CI ((actDC pats c).i),CI ((actDC pats c).h)]] else(0:Nat)=(0:Nat)∧asD [DV.agg [CI y.2.2.1.1,CS y.2.2.1.2.1,CL .eExpr y.2.2.1.2.2.1,CI y.2.2.1.2.2.2.1,CS y.2.2.1.2.2.2.2.1]]=asD [DV.agg [CI ((actD pats c).Kind),CS ((actD pats c).Name),CL .eExpr (actD pats c).Args,CI ((actD pats c).N),CS ((actD pats c).Undo)]]∧asD [DV.box [CL .byte (belowC x13 (2:Int)).b,CI ((belowC x13 (2:Int)).i),CI ((belowC x13 (2:Int)).h)]]=asD [DV.box [CL .byte (actDC pats c).b,CI ((actDC pats c).i),CI ((actDC pats c).h)]] else(0:Nat)=(0:Nat)∧asD [DV.agg [CI y.2.2.1.1,CS y.2.2.1.2.1,CL .eExpr y.2.2.1.2.2.1,CI y.2.2.1.2.2.2.1,CS y.2.2.1.2.2.2.2.1]]=asD [DV.agg [CI ((actD pats c).Kind),CS ((actD pats c).Name),CL .eExpr (actD pats c).Args,CI ((actD pats c).N),CS ((actD pats c).Undo)]]∧asD [DV.box [CL .byte y.2.2.2.1.1,CI y.2.2.2.1.2.1,CI y.2.2.2.1.2.2.1]]=asD [DV.box [CL .byte (actDC pats c).b,CI ((actDC pats c).i),CI ((actDC pats c).h)]]) (by kernel_rfl)
 dsimp only
 have hk:=cOk_int hp0 iLact
 have hk2:=cOk_act2 hp0
 have hle:=actN_le c
 have fin:Zi157_14 c pats ((0:Int),((0:Int),noBytes,[],(0:Int),noBytes,()),(actK c,actName c,[],(0:Int),noBytes,()),((actC2 c).b,(actC2 c).i,(actC2 c).h,()),()):=⟨by omega,hle.1,rfl,rfl,rfl,rfl,hk2,by simp,by simp only[Int.sub_zero];rfl,by simp only[Int.sub_zero];rfl⟩
 have h2:∀{b:Bool},(ByteArray.toList (actName c)==ByteArray.toList bItem)=b→actN c=if b=true then 2 else 1:=fun{b} h=>by
  rw[toList_beq] at h
  unfold actN
  cases b with
  |true=>rw[if_pos (of_decide_eq_true h)];rfl
  |false=>rw[if_neg (of_decide_eq_false h)];rfl
 have rest:¬actK c=2→¬(actK c=5∨actK c=6)→actD pats c=⟨actK c,actName c,actAs c,actT c,actU c⟩∧actDC pats c=actC5 c:=fun n2 n56=>⟨(if_neg n2).trans (if_neg n56),(if_neg n2).trans (if_neg n56)⟩
 refine⟨hp0.1,hp0.2,by simp,if_num (fun n2=>⟨hk.1,hk.2,by trivial,?_⟩) (fun n2=>if_num (fun n5=>if_num (fun n5'=>⟨by trivial,?_⟩) (fun n5'=>absurd n5 n5')) (fun n5=>if_num (fun n6=>⟨by trivial,?_⟩) (fun n6=>⟨hk,by simp,if_cond (fun h=> ?_) (fun h=> ?_)⟩)))⟩
 ·exact LdAct (a:=⟨actK c,noBytes,[],belowV (intC c iLact) pats,noBytes⟩) (d:=belowC (intC c iLact) pats) (if_pos n2).symm (if_pos n2).symm
 ·exact LdAct (a:=⟨actK c,noBytes,[],0,noBytes⟩) (d:=intC c iLact) ((if_neg n2).trans (if_pos (.inl n5))).symm ((if_neg n2).trans (if_pos (.inl n5))).symm
 ·exact LdAct (a:=⟨actK c,noBytes,[],0,noBytes⟩) (d:=intC c iLact) ((if_neg n2).trans (if_pos (.inr n6))).symm ((if_neg n2).trans (if_pos (.inr n6))).symm
 all_goals
  have hN:=h2 h
  simp only[if_true,zbg,if_false] at hN
  clear h
  have n56:¬(actK c=5∨actK c=6):=fun e=>e.elim n5 n6
  obtain⟨hA,hC⟩:=rest n2 n56
  rw[hA,hC]
  refine⟨fin,?_⟩
  rintro⟨i,⟨r1,r2,r3,r4,r5,⟨⟩⟩,⟨p1,p2,p3,p4,p5,⟨⟩⟩,⟨cb,ci,ch,⟨⟩⟩,⟨⟩⟩ ⟨g1,g2,g3,g4,g5,g6,g7,g8,g9,g10⟩
  simp only at g1 g2 g3 g4 g5 g6 g7 g8 g9 g10⊢
  subst g3 g4 g5 g6
  refine if_dec (fun hc=> ?_) (fun hc=> ?_)
  ·have e:(actN c-i).toNat=(actN c-(i+1)).toNat+1:=by omega
   rw[e] at g9 g10
   rw[wrap_i64 (by omega) (by omega)]
   exact⟨g7,by simp only[zbq,zbo];omega,⟨by omega,by omega,rfl,rfl,rfl,rfl,cOk_expr g7,by simp only[zce,zbq,zbo];omega,g9,g10⟩,by simp only[Zm157_14];omega⟩
  ·have e:(actN c-i).toNat=0:=by omega
   rw[e] at g9 g10
   have g9:p3=actAs c:=g9
   have g10:(⟨cb,ci,ch⟩:DCur)=actC3 c:=g10
   have e1:cb=(actC3 c).b:=congrArg DCur.b g10
   have e2:ci=(actC3 c).i:=congrArg DCur.i g10
   have e3:ch=(actC3 c).h:=congrArg DCur.h g10
   subst g9 e1 e2 e3
   have k3:=cOk_act3 hp0
   refine if_num (fun h4=>⟨k3.1,k3.2,by simp,if_num (fun h3=>absurd (h4.symm.trans h3) (by decide)) (fun h3=>⟨by trivial,?_⟩)⟩) (fun h4=>if_num (fun h3=>⟨k3,if_cond (fun ho=>⟨cOk_below k3 _,by simp,by trivial,?_⟩) (fun ho=>⟨by trivial,?_⟩)⟩) (fun h3=>⟨by trivial,?_⟩))
   ·have eT:actT c=intV (actC3 c) iLtime:=if_pos h4
    have eU:actU c=noBytes:=if_neg (fun e=>h3 e.1)
    have e5:actC5 c=intC (actC3 c) iLtime:=(if_neg h3).trans (if_pos h4)
    exact LdAct (a':=⟨actK c,actName c,actAs c,actT c,actU c⟩) (d':=actC5 c) (a:=⟨actK c,actName c,actAs c,intV (actC3 c) iLtime,noBytes⟩) (d:=intC (actC3 c) iLtime) (by rw[eT,eU]) e5.symm
   ·have eT:actT c=0:=if_neg h4
    have e4:actC4 c=actC3 c:=if_neg h4
    have ho:onceV (actC4 c) 2=true:=by rw[e4];exact ho
    have eU:actU c=strV (belowC (actC4 c) 2) sLundo:=if_pos ⟨h3,ho⟩
    have e5:actC5 c=strC (belowC (actC4 c) 2) sLundo:=(if_pos h3).trans (if_pos ho)
    exact LdAct (a':=⟨actK c,actName c,actAs c,actT c,actU c⟩) (d':=actC5 c) (a:=⟨actK c,actName c,actAs c,0,strV (belowC (actC3 c) 2) sLundo⟩) (d:=strC (belowC (actC3 c) 2) sLundo) (by rw[eT,eU,e4]) (by rw[e5,e4])
   ·have eT:actT c=0:=if_neg h4
    have e4:actC4 c=actC3 c:=if_neg h4
    have ho:¬onceV (actC4 c) 2=true:=by rw[e4,show onceV (actC3 c) 2=false from ho];decide
    have eU:actU c=noBytes:=if_neg (fun e=>ho e.2)
    have e5:actC5 c=belowC (actC4 c) 2:=(if_pos h3).trans (if_neg ho)
    exact LdAct (a':=⟨actK c,actName c,actAs c,actT c,actU c⟩) (d':=actC5 c) (a:=⟨actK c,actName c,actAs c,0,noBytes⟩) (d:=belowC (actC3 c) 2) (by rw[eT,eU]) (by rw[e5,e4])
   ·have eT:actT c=0:=if_neg h4
    have eU:actU c=noBytes:=if_neg (fun e=>h3 e.1)
    have e5:actC5 c=actC3 c:=(if_neg h3).trans (if_neg h4)
    exact LdAct (a':=⟨actK c,actName c,actAs c,actT c,actU c⟩) (d':=actC5 c) (a:=⟨actK c,actName c,actAs c,0,noBytes⟩) (d:=actC3 c) (by rw[eT,eU]) e5.symm
def Zh157:HH:=⟨_,Zo157⟩
def Zk156:Con UU where
 α:=DArg×(List ByteArray)
 md:=[.ro,.ro]
 of:=oC (oA .eArg) (o1 (oL .str))
 ds:=fun x=>[dA .eArg x.1,dL .str x.2]
 pre:=fun _=>[]
 res:=fun(a,vars)=>⟨[dA .eArg (fitT vars a)],true,[]⟩
 law:=lC (lA .eArg) (l1 (lL .str))
def Za156:Zk156.α→Nat→Option (Ann UU):=fun(a,vars)=>annL []
def Zu156:=us [Zh225,Zh226,Zh227]
theorem Zo156:Holds EE (156,Zk156):=by
 refine holds_of EE_ok func156 Zk156 (by kernel_rfl) Zu156 (us_ok _) Za156 (fun x hp hb=> ?_)
 obtain⟨a,vars⟩:=x
 have hz0:=bd_eArg (x:=a) (hb _ m0)
 have hl_a_S:=hz0.1
 have hl_a_V_S:=hz0.2
 have hl_vars:vars.length≤9223372036854775807:=bdL (hb _ m1)
 clear hp hb
 apply @ve _ (bif knownIn vars a then Lf [DV.agg [CI a.K,CS a.S,CI a.V.K,CI a.V.N,CS a.V.S]] [DV.agg [CI ((fitT vars a).K),CS ((fitT vars a).S),CI ((fitT vars a).V.K),CI ((fitT vars a).V.N),CS ((fitT vars a).V.S)]] else bif (vars.length:Int)==(0:Int) then Lf [DV.agg [CI (2:Int),CS noBytes,CI (1:Int),CI (1:Int),CS ({data:= #[]:ByteArray})]] [DV.agg [CI ((fitT vars a).K),CS ((fitT vars a).S),CI ((fitT vars a).V.K),CI ((fitT vars a).V.N),CS ((fitT vars a).V.S)]] else(0:Int)≤(0:Int)∧Int.toNat (0:Int)<vars.length∧Lf [DV.agg [CI (1:Int),CS (List.getD vars (Int.toNat (0:Int)) noBytes),CI zVal.K,CI zVal.N,CS zVal.S]] [DV.agg [CI ((fitT vars a).K),CS ((fitT vars a).S),CI ((fitT vars a).V.K),CI ((fitT vars a).V.N),CS ((fitT vars a).V.S)]]) (by kernel_rfl)
 refine if_cond (fun h=> ?_) (fun h=> ?_)
 ·have e:fitT vars a=a:=if_pos h
  rw[e];exact Lf_rfl _
 have h:¬knownIn vars a=true:=by rw[h];decide
 refine if_num (fun g=> ?_) (fun g=>⟨by omega,?_,?_⟩)
 ·have e:fitT vars a=⟨2,noBytes,⟨1,1,noBytes⟩⟩:=(if_neg h).trans (if_pos (by omega))
  rw[e];exact Lf_rfl _
 ·show 0<vars.length
  omega
 ·have e:fitT vars a=⟨1,List.getD vars 0 noBytes,zVal⟩:=(if_neg h).trans (if_neg (by omega))
  rw[e];exact Lf_rfl _
def Zh156:HH:=⟨_,Zo156⟩
def assertD(s:DStore)(f:DFact):DStore:=if 0<idOf s.Items f then s else⟨s.Items++[⟨s.Next,f⟩],s.Next+1⟩
def assertN(s:DStore)(f:DFact):Int:=if 0<idOf s.Items f then idOf s.Items f else s.Next
def notId(id:Int)(x:DItem):Bool:= !decide (x.Id=id)
def dropS(s:DStore)(id:Int):DStore:=⟨s.Items.filter (notId id),s.Next⟩
def storeL:Nat→DStore→DCur→DStore
 |0,s,_=>s
 |k+1,s,c=>if onceV c 5=true∧0<s.Items.length then storeL k (dropS s (List.getD s.Items (belowV (belowC c 5) s.Items.length).toNat zItem).Id) (belowC (belowC c 5) s.Items.length) else storeL k (assertD s (factV (belowC c 5))) (factC (belowC c 5))
def storeLC:Nat→DStore→DCur→DCur
 |0,_,c=>c
 |k+1,s,c=>if onceV c 5=true∧0<s.Items.length then storeLC k (dropS s (List.getD s.Items (belowV (belowC c 5) s.Items.length).toNat zItem).Id) (belowC (belowC c 5) s.Items.length) else storeLC k (assertD s (factV (belowC c 5))) (factC (belowC c 5))
def storeD(c:DCur):DStore:=storeL (belowV c 9).toNat ⟨[],1⟩ (belowC c 9)
def storeDC(c:DCur):DCur:=storeLC (belowV c 9).toNat ⟨[],1⟩ (belowC c 9)
theorem drop_len(s:DStore)(id:Int):(dropS s id).Items.length≤s.Items.length:=zdt _ _
theorem assertD_len(s:DStore)(f:DFact):(assertD s f).Items.length≤s.Items.length+1∧s.Next≤(assertD s f).Next∧(assertD s f).Next≤s.Next+1:=by
 unfold assertD;split
 ·omega
 ·simp only[zce,zbq,zbo];omega
theorem storeL_len:∀(k:Nat)(s:DStore)(c:DCur),(storeL k s c).Items.length≤s.Items.length+k
 |0,s,c=>by simp[storeL]
 |k+1,s,c=>by
  unfold storeL;split
  ·have:=storeL_len k (dropS s (List.getD s.Items (belowV (belowC c 5) s.Items.length).toNat zItem).Id) (belowC (belowC c 5) s.Items.length)
   have:=drop_len s (List.getD s.Items (belowV (belowC c 5) s.Items.length).toNat zItem).Id
   omega
  ·have:=storeL_len k (assertD s (factV (belowC c 5))) (factC (belowC c 5))
   have:=(assertD_len s (factV (belowC c 5))).1
   omega
theorem storeD_len(c:DCur):(storeD c).Items.length≤8:=by
 have:=storeL_len (belowV c 9).toNat ⟨[],1⟩ (belowC c 9)
 have:=belowV_lt (c:=c) (n:=9) (by omega)
 simp only[zbo] at*
 unfold storeD;omega
theorem cOk_storeL:∀{k:Nat}{s:DStore}{c:DCur},cOk c→cOk (storeLC k s c)
 |0,_,_,h=>h
 |k+1,s,c,h=>by
  unfold storeLC;split
  ·exact cOk_storeL (k:=k) (cOk_below (cOk_below h _) _)
  ·exact cOk_storeL (k:=k) (cOk_fact (cOk_below h _))
theorem cOk_storeD{c:DCur}(h:cOk c):cOk (storeDC c):=cOk_storeL (cOk_below h _)
theorem mod_mid{α:Type}(g:α→α)(e:α)(B:List α):∀A:List α,(A++e::B).modify A.length g=A++g e::B
 |[]=>rfl
 |a::A=>by
  show(a::(A++e::B)).modify (A.length+1) g=a::(A++g e::B)
  rw[List.modify_succ_cons,mod_mid g e B A]
def fitAt(vars:List ByteArray)(xs:List DExpr)(k:Nat):List DExpr:=(xs.take k).map (fitE vars)++xs.drop k
theorem fitAt_len(vars:List ByteArray)(xs:List DExpr){k:Nat}(h:k≤xs.length):(fitAt vars xs k).length=xs.length:=by
 simp only[fitAt,zce,zco,zaw,zcs];omega
theorem fitAt_mid{vars:List ByteArray}{xs:List DExpr}{k:Nat}(h:k<xs.length):fitAt vars xs k=(xs.take k).map (fitE vars)++List.getD xs k zExpr::xs.drop (k+1):=by
 have hd:xs.drop k=List.getD xs k zExpr::xs.drop (k+1):=by
  rw[zel h,zac,zad h];rfl
 rw[fitAt,hd]
theorem fitAt_mod{vars:List ByteArray}{xs:List DExpr}{k:Nat}(h:k<xs.length)(g:DExpr→DExpr):(fitAt vars xs k).modify k g=(xs.take k).map (fitE vars)++g (List.getD xs k zExpr)::xs.drop (k+1):=by
 have hk:((xs.take k).map (fitE vars)).length=k:=by rw[zco,zaw];omega
 rw[fitAt_mid h]
 have:=mod_mid g (List.getD xs k zExpr) (xs.drop (k+1)) ((xs.take k).map (fitE vars))
 rwa[hk] at this
theorem fitAt_mod2{vars:List ByteArray}{xs:List DExpr}{k:Nat}(h:k<xs.length)(g g':DExpr→DExpr):((fitAt vars xs k).modify k g).modify k g'=(xs.take k).map (fitE vars)++g' (g (List.getD xs k zExpr))::xs.drop (k+1):=by
 have hk:((xs.take k).map (fitE vars)).length=k:=by rw[zco,zaw];omega
 rw[fitAt_mod h]
 have:=mod_mid g' (g (List.getD xs k zExpr)) (xs.drop (k+1)) ((xs.take k).map (fitE vars))
 rwa[hk] at this
theorem fitAt_next{vars:List ByteArray}{xs:List DExpr}{k:Nat}(h:k<xs.length):(xs.take k).map (fitE vars)++fitE vars (List.getD xs k zExpr)::xs.drop (k+1)=fitAt vars xs (k+1):=by
 rw[fitAt,takeStep zExpr h,zef];simp
theorem fitAt_get{vars:List ByteArray}{xs:List DExpr}{k:Nat}(h:k<xs.length):List.getD (fitAt vars xs k) k zExpr=List.getD xs k zExpr:=by
 have hk:((xs.take k).map (fitE vars)).length=k:=by rw[zco,zaw];omega
 rw[fitAt_mid h,zac,zap (by omega),hk,zev];rfl
theorem fitAt_getm{vars:List ByteArray}{xs:List DExpr}{k:Nat}(h:k<xs.length)(g:DExpr→DExpr):List.getD ((fitAt vars xs k).modify k g) k zExpr=g (List.getD xs k zExpr):=by
 rw[mod_self _ (by rw[fitAt_len _ _ (by omega)];exact h),fitAt_get h]
theorem ruP_args(c:DCur):(∀p,p∈ruPats c→p.Args.length≤2)∧(ruPats c).length≤4:=by
 have h1:∀(b:Bool)(d:DCur),(patD b d).Args.length≤2:=fun b d=>by
  have:=patN_le d
  show(iterL _ _ _ _ _).length≤2
  rw[iterL_len];simp only[zbo];omega
 have h2:=iterL_all (f:=patD false) (g:=patDC) (fun p=>p.Args.length≤2) (h1 false) (ruN c).toNat [] (ruC2 c) (fun x hx=>by cases hx)
 have h3:=iterL_len (patD false) patDC (ruN c).toNat [] (ruC2 c)
 have h4:=ruN_le c
 unfold ruPats
 split
 ·refine⟨fun p hp=> ?_,?_⟩
  ·rcases zao.1 hp with hp|hp
   ·exact h2 p hp
   ·rw[zau] at hp;subst hp;exact h1 true _
  ·simp only[ruP1,zce,zbq,zbo] at h3⊢;omega
 ·exact⟨h2,by simp only[ruP1,zbo] at h3⊢;omega⟩
theorem patArgs_small:∀{ps:List DPat},(∀p,p∈ps→p.Args.length≤2)→patArgs ps≤2*ps.length
 |[],_=>zca _
 |p::ps,h=>by
  have h1:=h p (by simp)
  have h2:=patArgs_small (ps:=ps) (fun q hq=>h q (by simp[hq]))
  simp only[patArgs,zbt,zdc,zbq] at h2⊢;omega
theorem LdR{a a':DRule}{d d':DCur}(h1:a=a')(h2:d=d'):asD [DV.agg [.lit (.string a.Name),.lit (.int .i64 a.Sal),.sl .ePat a.Pats,.sl .eCond a.Conds,.sl .eAct a.Acts]]=asD [DV.agg [.lit (.string a'.Name),.lit (.int .i64 a'.Sal),.sl .ePat a'.Pats,.sl .eCond a'.Conds,.sl .eAct a'.Acts]]∧asD [DV.box [.sl .byte d.b,.lit (.int .i64 d.i),.lit (.int .i64 d.h)]]=asD [DV.box [.sl .byte d'.b,.lit (.int .i64 d'.i),.lit (.int .i64 d'.h)]]:=by
 subst h1 h2;exact⟨rfl,rfl⟩
theorem LdS{a a':DStore}{d d':DCur}(h1:a=a')(h2:d=d'):asD [DV.agg [.sl .eItem a.Items,.lit (.int .i64 a.Next)]]=asD [DV.agg [.sl .eItem a'.Items,.lit (.int .i64 a'.Next)]]∧asD [DV.box [.sl .byte d.b,.lit (.int .i64 d.i),.lit (.int .i64 d.h)]]=asD [DV.box [.sl .byte d'.b,.lit (.int .i64 d'.i),.lit (.int .i64 d'.h)]]:=by
 subst h1 h2;exact⟨rfl,rfl⟩
def Zk81:Con UU where
 α:=DStore×Int
 md:=[.box true,.ro]
 of:=oC (oX .eStore) (o1 oI)
 ds:=fun x=>[dX .eStore x.1,dI x.2]
 pre:=fun(s,id)=>[s.Items.length≤1000]
 res:=fun(s,id)=>⟨[dO (decide ((dropS s id).Items.length<s.Items.length))],true,[dX .eStore (dropS s id)]⟩
 law:=lC (lX .eStore) (l1 lI)
def Zi81_3(s:DStore)(id:Int):List DItem×Int×((List DItem×(Nat→Bool))×Int×Unit)×Unit→Prop:=fun(o,i,p,_)=>p.1.1=s.Items∧p.2.1=s.Next∧0≤i∧i≤s.Items.length∧(∀j:Nat,i≤(j:Int)→p.1.2 j=false)∧o=(s.Items.take i.toNat).filter (notId id)
def Zm81_3(s:DStore)(id:Int):List DItem×Int×((List DItem×(Nat→Bool))×Int×Unit)×Unit→Nat:=fun(o,i,p,_)=>s.Items.length-i.toNat
def Za81:Zk81.α→Nat→Option (Ann UU):=fun(s,id)=>annL [(3,annOf [.slot 5 (5,1024) (.own .eItem true),.slot 6 (6,1024) (.lit (.int .i64)),.box 0 (2000000,0) [.part .eItem,.lit (.int .i64)]] (fun _=>Zi81_3 s id) (Zm81_3 s id))]
def Zu81:List (FuncId×Con UU):=[]
theorem Zo81:Holds EE (81,Zk81):=by
 refine holds_of EE_ok func81 Zk81 (by kernel_rfl) Zu81 all_nil Za81 (fun x hp hb=> ?_)
 obtain⟨s,id⟩:=x
 have hl_s_Items:=bdX_eStore (x:=s) (hb _ m0)
 have hl_id:=bdI (n:=id) (hb _ m1)
 have hp0:s.Items.length≤1000:=hp _ m0
 clear hp hb
 apply @ve _ (Zi81_3 s id ([],(0:Int),((s.Items,fun(x:Nat)=>false),s.Next,()),())∧∀(y:List DItem×Int×((List DItem×(Nat→Bool))×Int×PUnit)×PUnit),let x1:Nat:=y.2.1.toNat;let x3:DItem:=List.getD y.2.2.1.1.1 x1 zItem;let x4:Nat:=y.2.2.1.1.1.length;let x5:Int:=IntKind.wrap IntKind.i64 (y.2.1+(1:Int));let x0:Int:=(↑x4:Int);let x2:List DItem:=[x3];Zi81_3 s id y→bif decide (y.2.1<x0) then(0:Int)≤y.2.1∧x1<x4∧x1<x4∧y.2.2.1.1.2 x1=false∧bif x3.Id !=id then(0:Int)≤y.2.1∧x1<x4∧x1<x4∧y.2.2.1.1.2 x1=false∧y.1.length+x2.length≤(4294967296:Nat)∧Zi81_3 s id (y.1++x2,x5,((y.2.2.1.1.1,fun(j:Nat)=>Nat.beq j x1||y.2.2.1.1.2 j),y.2.2.1.2.1,()),())∧Zm81_3 s id (y.1++x2,x5,((y.2.2.1.1.1,fun(j:Nat)=>Nat.beq j x1||y.2.2.1.1.2 j),y.2.2.1.2.1,()),())<Zm81_3 s id y else Zi81_3 s id (y.1,x5,((y.2.2.1.1.1,y.2.2.1.1.2),y.2.2.1.2.1,()),())∧Zm81_3 s id (y.1,x5,((y.2.2.1.1.1,y.2.2.1.1.2),y.2.2.1.2.1,()),())<Zm81_3 s id y else(0:Nat)=(0:Nat)∧asD [VB (decide ((y.1.length:Int)<x0))]=asD [VB (decide (List.length (dropS s id).Items<s.Items.length))]∧asD [DV.box [CL .eItem y.1,CI y.2.2.1.2.1]]=asD [DV.box [CL .eItem (dropS s id).Items,CI ((dropS s id).Next)]]) (by kernel_rfl)
 dsimp only
 refine⟨⟨rfl,rfl,by omega,by omega,fun _ _=>rfl,by simp⟩,?_⟩
 rintro⟨o,i,⟨⟨xs,dd⟩,nx,⟨⟩⟩,⟨⟩⟩ ⟨hx,hn,h1,h2,hd,ho⟩
 simp only at hx hn h1 h2 hd ho⊢
 subst hx hn ho
 refine if_dec (fun hc=> ?_) (fun hc=> ?_)
 ·have hs:=filterStep (notId id) (l:=s.Items) (i:=i.toNat) zItem (by omega)
  have e:(i+1).toNat=i.toNat+1:=by omega
  have hdk:=hd i.toNat (by omega)
  have hle:((s.Items.take i.toNat).filter (notId id)).length≤(s.Items.take i.toNat).length:=zdt _ _
  rw[zaw] at hle
  rw[wrap_i64 (by omega) (by omega)]
  refine⟨h1,by omega,by omega,hdk,if_neq (fun g=>⟨h1,by omega,by omega,hdk,by simp only[zbq,zbo];omega,⟨rfl,rfl,by omega,by omega,dead_step h1 hd,?_⟩,by simp only[Zm81_3];omega⟩) (fun g=>⟨⟨rfl,rfl,by omega,by omega,fun j hj=>hd j (by omega),?_⟩,by simp only[Zm81_3];omega⟩)⟩
  ·rw[e,hs,if_pos (show notId id (List.getD s.Items i.toNat zItem)=true by rw[notId,decide_eq_false g];rfl)]
  ·rw[e,hs,if_neg (show¬notId id (List.getD s.Items i.toNat zItem)=true by rw[notId,decide_eq_true g];decide),zch]
 ·rw[take_all s.Items (by omega)]
  have e:decide (((s.Items.filter (notId id)).length:Int)<(s.Items.length:Int))=decide ((dropS s id).Items.length<s.Items.length):=by rw[decide_eq_decide];simp only[dropS];omega
  rw[e];exact⟨by trivial,rfl,rfl⟩
def Zh81:HH:=⟨_,Zo81⟩
def Zk82:Con UU where
 α:=DStore×DFact
 md:=[.box true,.ro]
 of:=oC (oX .eStore) (o1 (oA .eFact))
 ds:=fun x=>[dX .eStore x.1,dA .eFact x.2]
 pre:=fun(s,f)=>[0≤s.Next∧s.Next≤1000∧s.Items.length≤30,f.Fields.length≤4294967296]
 res:=fun(s,f)=>⟨[dI (assertN s f)],true,[dX .eStore (assertD s f)]⟩
 law:=lC (lX .eStore) (l1 (lA .eFact))
def Za82:Zk82.α→Nat→Option (Ann UU):=fun(s,f)=>annL []
def Zu82:=us [Zh158,Zh159]
theorem Zo82:Holds EE (82,Zk82):=by
 refine holds_of EE_ok func82 Zk82 (by kernel_rfl) Zu82 (us_ok _) Za82 (fun x hp hb=> ?_)
 obtain⟨s,f⟩:=x
 have hl_s_Items:=bdX_eStore (x:=s) (hb _ m0)
 have hz1:=bd_eFact (x:=f) (hb _ m1)
 have hl_f_Kind:=hz1.1
 have hl_f_Fields:=hz1.2
 have hp0:0≤s.Next∧s.Next≤1000∧s.Items.length≤30:=hp _ m0
 have hp1:f.Fields.length≤4294967296:=hp _ m1
 clear hp hb
 apply @ve _ (bif decide (idOf s.Items f>(0:Int)) then(0:Nat)=(0:Nat)∧asD [VI (idOf s.Items f)]=asD [VI (assertN s f)]∧asD [DV.box [CL .eItem s.Items,CI s.Next]]=asD [DV.box [CL .eItem (assertD s f).Items,CI ((assertD s f).Next)]] else bif decide ((s.Items.length:Int)≥(40:Int)) then(0:Nat)=(0:Nat)∧asD [VI (0:Int)]=asD [VI (assertN s f)]∧asD [DV.box [CL .eItem s.Items,CI s.Next]]=asD [DV.box [CL .eItem (assertD s f).Items,CI ((assertD s f).Next)]] else bif decide (s.Next≥(1000000:Int)) then(0:Nat)=(0:Nat)∧asD [VI (0:Int)]=asD [VI (assertN s f)]∧asD [DV.box [CL .eItem s.Items,CI s.Next]]=asD [DV.box [CL .eItem (assertD s f).Items,CI ((assertD s f).Next)]] else f.Fields.length≤(4294967296:Nat)∧s.Items.length+List.length [{Id:=s.Next,F:=f:DItem}]≤(4294967296:Nat)∧(0:Nat)=(0:Nat)∧asD [VI (IntKind.wrap IntKind.i64 (IntKind.wrap IntKind.i64 (s.Next+(1:Int))-(1:Int)))]=asD [VI (assertN s f)]∧asD [DV.box [CL .eItem (s.Items++[{Id:=s.Next,F:=f:DItem}]),CI (IntKind.wrap IntKind.i64 (s.Next+(1:Int)))]]=asD [DV.box [CL .eItem (assertD s f).Items,CI ((assertD s f).Next)]]) (by kernel_rfl)
 obtain⟨s1,s2,s3⟩:=hp0
 refine if_dec (fun h=>⟨by trivial,?_⟩) (fun h=>if_dec (fun h2=>absurd h2 (by omega)) (fun h2=>if_dec (fun h3=>absurd h3 (by omega)) (fun h3=> ?_)))
 ·have e1:assertD s f=s:=if_pos h
  have e2:assertN s f=idOf s.Items f:=if_pos h
  rw[e1,e2];exact⟨rfl,rfl⟩
 ·have e1:assertD s f=⟨s.Items++[⟨s.Next,f⟩],s.Next+1⟩:=if_neg h
  have e2:assertN s f=s.Next:=if_neg h
  rw[e1,e2,wrap_i64 (n:=s.Next+1) (by omega) (by omega),wrap_i64 (by omega) (by omega),show s.Next+1-1=s.Next by omega]
  exact⟨hp1,by simp only[zbq,zbo];omega,by trivial,rfl,rfl⟩
def Zh82:HH:=⟨_,Zo82⟩
def Zk28:Con UU where
 α:=DCur
 md:=[.box false]
 of:=fun|[.box [.sl .byte a0,.lit (.int .i64 a1),.lit (.int .i64 a2)]]=>some ⟨a0,a1,a2⟩|_=>none
 ds:=fun c=>[.box [.sl .byte c.b,.lit (.int .i64 c.i),.lit (.int .i64 c.h)]]
 pre:=fun c=>[cOk c]
 res:=fun c=>⟨[.agg [.sl .eItem ((storeD c)).Items,.lit (.int .i64 ((storeD c)).Next)]],true,[.box [.sl .byte ((storeDC c)).b,.lit (.int .i64 ((storeDC c)).i),.lit (.int .i64 ((storeDC c)).h)]]⟩
 law:=by intro l x h;(try simp only at h);split at h<;>cases h;rfl
def Zi28_3(c:DCur):Int×(List DItem×Int×Unit)×(List DItem×Int×Unit)×(List Int×Int×Int×Unit)×Unit→Prop:=fun(i,q,s,cu,_)=>0≤i∧i≤8∧s.1.length+i≤8∧0≤s.2.1∧s.2.1+i≤9∧cOk ⟨cu.1,cu.2.1,cu.2.2.1⟩∧storeL i.toNat ⟨s.1,s.2.1⟩ ⟨cu.1,cu.2.1,cu.2.2.1⟩=storeD c∧storeLC i.toNat ⟨s.1,s.2.1⟩ ⟨cu.1,cu.2.1,cu.2.2.1⟩=storeDC c
def Zm28_3(c:DCur):Int×(List DItem×Int×Unit)×(List DItem×Int×Unit)×(List Int×Int×Int×Unit)×Unit→Nat:=fun(i,q,s,cu,_)=>i.toNat
def Za28:Zk28.α→Nat→Option (Ann UU):=fun c=>annL [(3,annOf [.slot 4 (4,1024) (.lit (.int .i64)),.box 2 (2,1024) [.own .eItem true,.lit (.int .i64)],.box 3 (3,1024) [.own .eItem true,.lit (.int .i64)],.box 0 (2000000,0) [.shr .byte,.lit (.int .i64),.lit (.int .i64)]] (fun _=>Zi28_3 c) (Zm28_3 c))]
def Zu28:=us [Zh30,Zh80,Zh81,Zh82,Zh83]
theorem Zo28:Holds EE (28,Zk28):=by
 refine holds_of EE_ok func28 Zk28 (by kernel_rfl) Zu28 (us_ok _) Za28 (fun(c:DCur) hp hb=> ?_)
 have hb_c:BdDV (U:=UU) (.box [.sl .byte c.b,.lit (.int .i64 c.i),.lit (.int .i64 c.h)]):=hb _ (zab)
 have hl_c_b:c.b.length≤9223372036854775807:=Bd.len (U:=UU) (τ:=.byte) (xs:=c.b) (hb_c _ (by simp))
 have hp0:cOk c:=hp _ (zab)
 clear hp hb
 apply @ve _ ((0:Int)≤c.i∧c.b.length≤(4294967296:Nat)∧Zi28_3 c (belowV c (9:Int),([],(0:Int),()),([],(1:Int),()),((belowC c (9:Int)).b,(belowC c (9:Int)).i,(belowC c (9:Int)).h,()),())∧∀(y:Int×(List DItem×Int×PUnit)×(List DItem×Int×PUnit)×(List Int×Int×Int×PUnit)×PUnit),let x1:DCur:={b:=y.2.2.2.1.1,i:=y.2.2.2.1.2.1,h:=y.2.2.2.1.2.2.1:DCur};let x4:Nat:=y.2.2.1.1.length;let x6:DStore:={Items:=y.2.2.1.1,Next:=y.2.2.1.2.1:DStore};let x0:DCur:=belowC x1 (5:Int);let x3:Int:=(↑x4:Int);let x5:DStore:=assertD x6 (factV x0);let x2:DStore:=dropS x6 (List.getD y.2.2.1.1 (Int.toNat (belowV x0 x3)) zItem).Id;Zi28_3 c y→bif decide (y.1>(0:Int)) then cOk x1∧bif onceV x1 (5:Int) then bif decide (x3>(0:Int)) then(0:Int)≤x0.i∧x0.b.length≤(4294967296:Nat)∧(0:Int)≤belowV x0 x3∧Int.toNat (belowV x0 x3)<x4∧Int.toNat (belowV x0 x3)<x4∧x4≤(1000:Nat)∧Zi28_3 c (IntKind.wrap IntKind.i64 (y.1-(1:Int)),(y.2.1.1,y.2.1.2.1,()),(x2.Items,x2.Next,()),((belowC x0 x3).b,(belowC x0 x3).i,(belowC x0 x3).h,()),())∧Zm28_3 c (IntKind.wrap IntKind.i64 (y.1-(1:Int)),(y.2.1.1,y.2.1.2.1,()),(x2.Items,x2.Next,()),((belowC x0 x3).b,(belowC x0 x3).i,(belowC x0 x3).h,()),())<Zm28_3 c y else cOk x0∧((0:Int)≤y.2.2.1.2.1∧y.2.2.1.2.1≤(1000:Int)∧x4≤(30:Nat))∧List.length (factV x0).Fields≤(4294967296:Nat)∧Zi28_3 c (IntKind.wrap IntKind.i64 (y.1-(1:Int)),(y.2.1.1,y.2.1.2.1,()),(x5.Items,x5.Next,()),((factC x0).b,(factC x0).i,(factC x0).h,()),())∧Zm28_3 c (IntKind.wrap IntKind.i64 (y.1-(1:Int)),(y.2.1.1,y.2.1.2.1,()),(x5.Items,x5.Next,()),((factC x0).b,(factC x0).i,(factC x0).h,()),())<Zm28_3 c y else cOk x0∧((0:Int)≤y.2.2.1.2.1∧y.2.2.1.2.1≤(1000:Int)∧x4≤(30:Nat))∧List.length (factV x0).Fields≤(4294967296:Nat)∧Zi28_3 c (IntKind.wrap IntKind.i64 (y.1-(1:Int)),(y.2.1.1,y.2.1.2.1,()),(x5.Items,x5.Next,()),((factC x0).b,(factC x0).i,(factC x0).h,()),())∧Zm28_3 c (IntKind.wrap IntKind.i64 (y.1-(1:Int)),(y.2.1.1,y.2.1.2.1,()),(x5.Items,x5.Next,()),((factC x0).b,(factC x0).i,(factC x0).h,()),())<Zm28_3 c y else(0:Nat)=(0:Nat)∧asD [DV.agg [CL .eItem y.2.2.1.1,CI y.2.2.1.2.1]]=asD [DV.agg [CL .eItem (storeD c).Items,CI ((storeD c).Next)]]∧asD [DV.box [CL .byte y.2.2.2.1.1,CI y.2.2.2.1.2.1,CI y.2.2.2.1.2.2.1]]=asD [DV.box [CL .byte (storeDC c).b,CI ((storeDC c).i),CI ((storeDC c).h)]]) (by kernel_rfl)
 dsimp only
 have hb:=belowV_lt (c:=c) (n:=9) (by omega)
 refine⟨hp0.1,hp0.2,⟨by omega,by omega,by simp only[zbo];omega,by show(0:Int)≤1;omega,by show(1:Int)+belowV c 9≤9;omega,cOk_below hp0 9,rfl,rfl⟩,?_⟩
 rintro⟨i,⟨q1,q2,⟨⟩⟩,⟨s1,s2,⟨⟩⟩,⟨cb,ci,ch,⟨⟩⟩,⟨⟩⟩ ⟨g1,g2,g3,g4,g5,g6,g7,g8⟩
 simp only at g1 g2 g3 g4 g5 g6 g7 g8⊢
 refine if_dec (fun hc=> ?_) (fun hc=> ?_)
 ·have e:i.toNat=(i-1).toNat+1:=by omega
  rw[e] at g7 g8
  simp only[storeL,storeLC] at g7 g8
  have hB:=cOk_below g6 5
  have hF:=factV_len (belowC ⟨cb,ci,ch⟩ 5)
  have hF2:=factN_le (belowC ⟨cb,ci,ch⟩ 5)
  have hA:=assertD_len ⟨s1,s2⟩ (factV (belowC ⟨cb,ci,ch⟩ 5))
  simp only at hA
  rw[wrap_i64 (by omega) (by omega)]
  refine⟨g6,if_cond (fun a=>if_dec (fun b=> ?_) (fun b=> ?_)) (fun a=> ?_)⟩
  ·rw[if_pos ⟨a,by omega⟩] at g7 g8
   have hk:=belowV_lt (c:=belowC ⟨cb,ci,ch⟩ 5) (n:=(s1.length:Int)) (by omega)
   have hD:=drop_len ⟨s1,s2⟩ (List.getD s1 (belowV (belowC ⟨cb,ci,ch⟩ 5) s1.length).toNat zItem).Id
   simp only at hD
   exact⟨hB.1,hB.2,hk.1,by omega,by omega,by omega,⟨by omega,by omega,by simp only;omega,g4,by simp only[dropS];omega,cOk_below hB _,g7,g8⟩,by simp only[Zm28_3];omega⟩
  ·rw[if_neg (fun e=>b (by omega))] at g7 g8
   exact⟨hB,⟨g4,by omega,by omega⟩,by omega,⟨by omega,by omega,by simp only;omega,by simp only;omega,by simp only;omega,cOk_fact hB,g7,g8⟩,by simp only[Zm28_3];omega⟩
  ·rw[if_neg (fun e=>absurd e.1 (by rw[a];decide))] at g7 g8
   exact⟨hB,⟨g4,by omega,by omega⟩,by omega,⟨by omega,by omega,by simp only;omega,by simp only;omega,by simp only;omega,cOk_fact hB,g7,g8⟩,by simp only[Zm28_3];omega⟩
 ·have e:i.toNat=0:=by omega
  rw[e] at g7 g8
  exact⟨by trivial,LdS (a:=⟨s1,s2⟩) (d:=⟨cb,ci,ch⟩) g7 g8⟩
def Zh28:HH:=⟨_,Zo28⟩
end
end AM
