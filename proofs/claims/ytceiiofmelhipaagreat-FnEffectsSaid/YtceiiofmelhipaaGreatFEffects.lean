/- Functions of the program with their contracts: put together by gen/link.py for FnEffects. -/
import Derived.Test.YtceiiofmelhipaaGreatAmLib
namespace AM
open Go Go.Proofs.Tryz
set_option linter.unusedVariables false
set_option linter.unusedSimpArgs false
set_option maxRecDepth 100000
noncomputable section
theorem ve {p q : Prop} (h : p = q) (x : q) : p := by rw [h]; exact x
abbrev VB (b : Bool) : DV UU := .one (.lit (.bool b))
abbrev VI (n : Int) : DV UU := .one (.lit (.int .i64 n))
abbrev VS (s : ByteArray) : DV UU := .one (.lit (.string s))
abbrev CI (n : Int) : CC := .lit (.int .i64 n)
abbrev CS (s : ByteArray) : CC := .lit (.string s)
abbrev CO (b : Bool) : CC := .lit (.bool b)
abbrev CL (τ : Cd) (xs : List τ.T) : CC := .sl τ xs
abbrev VL (τ : Cd) (xs : List τ.T) : DV UU := .one (.sl τ xs)
instance:DecidableEq DVal:=fun _ _=>Classical.propDecidable _
instance:DecidableEq DFact:=fun _ _=>Classical.propDecidable _
instance:DecidableEq DItem:=fun _ _=>Classical.propDecidable _
instance:DecidableEq DStore:=fun _ _=>Classical.propDecidable _
instance:DecidableEq DArg:=fun _ _=>Classical.propDecidable _
instance:DecidableEq DPat:=fun _ _=>Classical.propDecidable _
instance:DecidableEq DBind:=fun _ _=>Classical.propDecidable _
instance:DecidableEq DCond:=fun _ _=>Classical.propDecidable _
instance:DecidableEq DExpr:=fun _ _=>Classical.propDecidable _
instance:DecidableEq DAct:=fun _ _=>Classical.propDecidable _
instance:DecidableEq DRule:=fun _ _=>Classical.propDecidable _
instance:DecidableEq DDef:=fun _ _=>Classical.propDecidable _
instance:DecidableEq DMatch:=fun _ _=>Classical.propDecidable _
instance:DecidableEq DEffect:=fun _ _=>Classical.propDecidable _
instance:DecidableEq DTimer:=fun _ _=>Classical.propDecidable _
instance:DecidableEq DTask:=fun _ _=>Classical.propDecidable _
instance:DecidableEq DUndo:=fun _ _=>Classical.propDecidable _
instance:DecidableEq DInst:=fun _ _=>Classical.propDecidable _
theorem sum_getD_le{α:Type}(f:α→Nat)(l:List α)(z:α){i:Int}(h0:0≤i)(h:i<l.length):f (List.getD l i.toNat z)≤(l.map f).sum:=by
 have h1:l=l.take i.toNat++List.getD l i.toNat z::l.drop (i+1).toNat:=by rw[←drop_step l z h0 h,zcq]
 have h2:=congrArg (fun q=>(q.map f).sum) h1
 simp only[zef,zbt,zet,zdc] at h2
 omega
theorem all_step{α:Type}(p:α→Bool)(l:List α)(z:α){i:Int}(h0:0≤i)(h:i<l.length):(l.drop i.toNat).all p=(p (List.getD l i.toNat z)&&(l.drop (i+1).toNat).all p):=by
 rw[drop_step l z h0 h,zdr]
theorem any_step{α:Type}(p:α→Bool)(l:List α)(z:α){i:Int}(h0:0≤i)(h:i<l.length):(l.drop i.toNat).any p=(p (List.getD l i.toNat z)||(l.drop (i+1).toNat).any p):=by
 rw[drop_step l z h0 h,zeg]
def bs(s:ByteArray):List UInt8:=s.data.toList
theorem bs_len(s:ByteArray):(bs s).length=s.size:=zbn
theorem bs_eq(s:ByteArray):Array.toList (ByteArray.data s)=bs s:=rfl
def byteP(p:Int→Bool)(b:UInt8):Bool:=p b.toNat
theorem u8_i64(b:UInt8):IntKind.wrap .i64 (b.toNat:Int)=b.toNat:=wrap_i64 (by omega) (by have:=b.toNat_lt;omega)
theorem Lf_tt{y:Bool}(h:y=true):Lf [.one (.lit (.bool true))] [.one (.lit (.bool y))]:=Lf_b h.symm
theorem Lf_ff{y:Bool}(h:y=false):Lf [.one (.lit (.bool false))] [.one (.lit (.bool y))]:=Lf_b h.symm
theorem take_step{α:Type}(l:List α)(z:α){i:Int}(h0:0≤i)(h:i<l.length):l.take i.toNat++[List.getD l i.toNat z]=l.take (i+1).toNat:=by
 have hn:i.toNat<l.length:=by omega
 have e:(i+1).toNat=i.toNat+1:=by omega
 rw[e,zcz hn,zac,zad hn]
 rfl
theorem take_all{α:Type}(l:List α){i:Int}(h:l.length≤i):l.take i.toNat=l:=zcy (by omega)
def sizeVal(a:DVal):Nat:=a.S.size
def sizeArg(a:DArg):Nat:=a.S.size+sizeVal a.V
def sizeArgS(l:List DArg):Nat:=l.length+(l.map sizeArg).sum
def sizePat(a:DPat):Nat:=a.Kind.size+sizeArgS a.Args
def sizePatS(l:List DPat):Nat:=l.length+(l.map sizePat).sum
def sizeCond(a:DCond):Nat:=sizeArg a.L+sizeArg a.R
def sizeCondS(l:List DCond):Nat:=l.length+(l.map sizeCond).sum
def sizeExpr(a:DExpr):Nat:=a.Op.size+sizeArg a.L+sizeArg a.R
def sizeExprS(l:List DExpr):Nat:=l.length+(l.map sizeExpr).sum
def sizeAct(a:DAct):Nat:=a.Name.size+sizeExprS a.Args+a.Undo.size
def sizeActS(l:List DAct):Nat:=l.length+(l.map sizeAct).sum
def sizeRule(a:DRule):Nat:=a.Name.size+sizePatS a.Pats+sizeCondS a.Conds+sizeActS a.Acts
def sizeRuleS(l:List DRule):Nat:=l.length+(l.map sizeRule).sum
def sizeDef(a:DDef):Nat:=a.Name.size+sizeRuleS a.Rules
theorem bd_eVal{x:DVal}(h:BdDV (dA .eVal x)):x.S.size≤9223372036854775807:=Bd.str (U:=UU) (h _ (zaa _ (zaa _ (zab))))
theorem bd_eFact{x:DFact}(h:BdDV (dA .eFact x)):x.Kind.size≤9223372036854775807∧x.Fields.length≤9223372036854775807:=⟨Bd.str (U:=UU) (h _ (zab)),Bd.len (U:=UU) (h _ (zaa _ (zab)))⟩
theorem bd_eStore{x:DStore}(h:BdDV (dA .eStore x)):x.Items.length≤9223372036854775807:=Bd.len (U:=UU) (h _ (zab))
theorem bdX_eStore{x:DStore}(h:BdDV (dX .eStore x)):x.Items.length≤9223372036854775807:=Bd.len (U:=UU) (h _ (zab))
theorem bd_eArg{x:DArg}(h:BdDV (dA .eArg x)):x.S.size≤9223372036854775807∧x.V.S.size≤9223372036854775807:=⟨Bd.str (U:=UU) (h _ (zaa _ (zab))),Bd.str (U:=UU) (h _ (zaa _ (zaa _ (zaa _ (zaa _ (zab))))))⟩
theorem bd_ePat{x:DPat}(h:BdDV (dA .ePat x)):x.Kind.size≤9223372036854775807∧x.Args.length≤9223372036854775807:=⟨Bd.str (U:=UU) (h _ (zab)),Bd.len (U:=UU) (h _ (zaa _ (zab)))⟩
theorem bd_eCond{x:DCond}(h:BdDV (dA .eCond x)):x.L.S.size≤9223372036854775807∧x.L.V.S.size≤9223372036854775807∧x.R.S.size≤9223372036854775807∧x.R.V.S.size≤9223372036854775807:=⟨Bd.str (U:=UU) (h _ (zaa _ (zaa _ (zab)))),Bd.str (U:=UU) (h _ (zaa _ (zaa _ (zaa _ (zaa _ (zaa _ (zab))))))),Bd.str (U:=UU) (h _ (zaa _ (zaa _ (zaa _ (zaa _ (zaa _ (zaa _ (zaa _ (zab))))))))),Bd.str (U:=UU) (h _ (zaa _ (zaa _ (zaa _ (zaa _ (zaa _ (zaa _ (zaa _ (zaa _ (zaa _ (zaa _ (zab))))))))))))⟩
theorem bd_eExpr{x:DExpr}(h:BdDV (dA .eExpr x)):x.Op.size≤9223372036854775807∧x.L.S.size≤9223372036854775807∧x.L.V.S.size≤9223372036854775807∧x.R.S.size≤9223372036854775807∧x.R.V.S.size≤9223372036854775807:=⟨Bd.str (U:=UU) (h _ (zab)),Bd.str (U:=UU) (h _ (zaa _ (zaa _ (zab)))),Bd.str (U:=UU) (h _ (zaa _ (zaa _ (zaa _ (zaa _ (zaa _ (zab))))))),Bd.str (U:=UU) (h _ (zaa _ (zaa _ (zaa _ (zaa _ (zaa _ (zaa _ (zaa _ (zab))))))))),Bd.str (U:=UU) (h _ (zaa _ (zaa _ (zaa _ (zaa _ (zaa _ (zaa _ (zaa _ (zaa _ (zaa _ (zaa _ (zab))))))))))))⟩
theorem bd_eAct{x:DAct}(h:BdDV (dA .eAct x)):x.Name.size≤9223372036854775807∧x.Args.length≤9223372036854775807∧x.Undo.size≤9223372036854775807:=⟨Bd.str (U:=UU) (h _ (zaa _ (zab))),Bd.len (U:=UU) (h _ (zaa _ (zaa _ (zab)))),Bd.str (U:=UU) (h _ (zaa _ (zaa _ (zaa _ (zaa _ (zab))))))⟩
theorem bd_eRule{x:DRule}(h:BdDV (dA .eRule x)):x.Name.size≤9223372036854775807∧x.Pats.length≤9223372036854775807∧x.Conds.length≤9223372036854775807∧x.Acts.length≤9223372036854775807:=⟨Bd.str (U:=UU) (h _ (zab)),Bd.len (U:=UU) (h _ (zaa _ (zaa _ (zab)))),Bd.len (U:=UU) (h _ (zaa _ (zaa _ (zaa _ (zab))))),Bd.len (U:=UU) (h _ (zaa _ (zaa _ (zaa _ (zaa _ (zab))))))⟩
theorem bd_eDef{x:DDef}(h:BdDV (dA .eDef x)):x.Name.size≤9223372036854775807∧x.Rules.length≤9223372036854775807:=⟨Bd.str (U:=UU) (h _ (zab)),Bd.len (U:=UU) (h _ (zaa _ (zab)))⟩
theorem bd_eMatch{x:DMatch}(h:BdDV (dA .eMatch x)):x.Ids.length≤9223372036854775807∧x.Binds.length≤9223372036854775807:=⟨Bd.len (U:=UU) (h _ (zaa _ (zab))),Bd.len (U:=UU) (h _ (zaa _ (zaa _ (zab))))⟩
theorem bd_eEffect{x:DEffect}(h:BdDV (dA .eEffect x)):x.F.Kind.size≤9223372036854775807∧x.F.Fields.length≤9223372036854775807∧x.Undo.size≤9223372036854775807:=⟨Bd.str (U:=UU) (h _ (zaa _ (zab))),Bd.len (U:=UU) (h _ (zaa _ (zaa _ (zab)))),Bd.str (U:=UU) (h _ (zaa _ (zaa _ (zaa _ (zaa _ (zaa _ (zab)))))))⟩
def smallB(b:Int):Bool:=decide (97≤b∧b≤122)
def wordB(b:Int):Bool:=smallB b||decide (48≤b∧b≤57)||decide (b=95)
def wordS(s:ByteArray):Bool:=(bs s).all (byteP wordB)
def nameOk(s:ByteArray):Bool:=decide (1≤s.size∧s.size≤12)&&smallB (List.getD (bs s) 0 0).toNat&&wordS s
def valOk(v:DVal):Bool:=bif decide (v.K=1) then decide (-1000000000≤v.N∧v.N≤1000000000)&&decide (v.S=noBytes) else bif decide (v.K=2) then decide (v.N=0)&&decide (v.S.size≤20)&&wordS v.S else false
def factOk(f:DFact):Bool:=nameOk f.Kind&&decide (f.Fields.length≤5)&&f.Fields.all valOk
def Zk34:Con UU where
 α:=Int×Int×Int
 md:=[.ro,.ro,.ro]
 of:=oC oI (oC oI (o1 oI))
 ds:=fun x=>[dI x.1,dI x.2.1,dI x.2.2]
 pre:=fun _=>[]
 res:=fun(n,least,most)=>⟨[dO (decide (least≤n∧n≤most))],true,[]⟩
 law:=lC lI (lC lI (l1 lI))
def Za34:Zk34.α→Nat→Option (Ann UU):=fun(n,least,most)=>annL []
def Zu34:List (FuncId×Con UU):=[]
theorem Zo34:Holds EE (34,Zk34):=by
 refine holds_of EE_ok func34 Zk34 (by kernel_rfl) Zu34 all_nil Za34 (fun x hp hb=> ?_)
 obtain⟨n,least,most⟩:=x
 have hl_n:=bdI (n:=n) (hb _ m0)
 have hl_least:=bdI (n:=least) (hb _ m1)
 have hl_most:=bdI (n:=most) (hb _ m2)
 clear hp hb
 apply @ve _ (bif decide (n≥least) then Lb (decide (n≤most)) (decide (least≤n∧n≤most)) else Lb false (decide (least≤n∧n≤most))) (by kernel_rfl)
 refine if_cond (fun h=>Lf_b ?_) (fun h=>Lf_b ?_)<;>grind
def Zh34:HH:=⟨_,Zo34⟩
def Zk104:Con UU where
 α:=Int×Int×Int
 md:=[.ro,.ro,.ro]
 of:=oC oI (oC oI (o1 oI))
 ds:=fun x=>[dI x.1,dI x.2.1,dI x.2.2]
 pre:=fun _=>[]
 res:=fun(x,least,most)=>⟨[dO (decide (least≤x∧x≤most))],true,[]⟩
 law:=lC lI (lC lI (l1 lI))
def Za104:Zk104.α→Nat→Option (Ann UU):=fun(x,least,most)=>annL []
def Zu104:List (FuncId×Con UU):=[]
theorem Zo104:Holds EE (104,Zk104):=by
 refine holds_of EE_ok func104 Zk104 (by kernel_rfl) Zu104 all_nil Za104 (fun x hp hb=> ?_)
 obtain⟨x,least,most⟩:=x
 have hl_x:=bdI (n:=x) (hb _ m0)
 have hl_least:=bdI (n:=least) (hb _ m1)
 have hl_most:=bdI (n:=most) (hb _ m2)
 clear hp hb
 apply @ve _ (bif decide (x≥least) then Lb (decide (x≤most)) (decide (least≤x∧x≤most)) else Lb false (decide (least≤x∧x≤most))) (by kernel_rfl)
 refine if_cond (fun h=>Lf_b ?_) (fun h=>Lf_b ?_)<;>grind
def Zh104:HH:=⟨_,Zo104⟩
def Zk88:Con UU where
 α:=Int
 md:=[.ro]
 of:=o1 oY
 ds:=fun x=>[dY x]
 pre:=fun _=>[]
 res:=fun b=>⟨[dO (smallB b)],true,[]⟩
 law:=l1 lY
def Za88:Zk88.α→Nat→Option (Ann UU):=fun b=>annL []
def Zu88:List (FuncId×Con UU):=[]
theorem Zo88:Holds EE (88,Zk88):=by
 refine holds_of EE_ok func88 Zk88 (by kernel_rfl) Zu88 all_nil Za88 (fun(b:Int) hp hb=> ?_)
 skip
 clear hp hb
 apply @ve _ (bif decide (b≥(97:Int)) then Lb (decide (b≤(122:Int))) (smallB b) else Lb false (smallB b)) (by kernel_rfl)
 refine if_cond (fun h=>Lf_b ?_) (fun h=>Lf_b ?_)<;>grind [smallB]
def Zh88:HH:=⟨_,Zo88⟩
def Zk236:Con UU where
 α:=Int
 md:=[.ro]
 of:=o1 oY
 ds:=fun x=>[dY x]
 pre:=fun _=>[]
 res:=fun b=>⟨[dO (decide (48≤b∧b≤57))],true,[]⟩
 law:=l1 lY
def Za236:Zk236.α→Nat→Option (Ann UU):=fun b=>annL []
def Zu236:List (FuncId×Con UU):=[]
theorem Zo236:Holds EE (236,Zk236):=by
 refine holds_of EE_ok func236 Zk236 (by kernel_rfl) Zu236 all_nil Za236 (fun(b:Int) hp hb=> ?_)
 skip
 clear hp hb
 apply @ve _ (bif decide (b≥(48:Int)) then Lb (decide (b≤(57:Int))) (decide ((48:Int)≤b∧b≤(57:Int))) else Lb false (decide ((48:Int)≤b∧b≤(57:Int)))) (by kernel_rfl)
 refine if_cond (fun h=>Lf_b ?_) (fun h=>Lf_b ?_)<;>grind
def Zh236:HH:=⟨_,Zo236⟩
def Zk164:Con UU where
 α:=Int
 md:=[.ro]
 of:=o1 oY
 ds:=fun x=>[dY x]
 pre:=fun _=>[]
 res:=fun b=>⟨[dO (wordB b)],true,[]⟩
 law:=l1 lY
def Za164:Zk164.α→Nat→Option (Ann UU):=fun b=>annL []
def Zu164:=us [Zh88,Zh236]
theorem Zo164:Holds EE (164,Zk164):=by
 refine holds_of EE_ok func164 Zk164 (by kernel_rfl) Zu164 (us_ok _) Za164 (fun(b:Int) hp hb=> ?_)
 skip
 clear hp hb
 apply @ve _ (bif smallB b then Lb true (wordB b) else bif decide ((48:Int)≤b∧b≤(57:Int)) then Lb true (wordB b) else Lb (b==(95:Int)) (wordB b)) (by kernel_rfl)
 refine if_cond (fun h=>Lf_b ?_) (fun h=> ?_)
 ·grind [wordB]
 refine if_cond (fun h=>Lf_b ?_) (fun h=>Lf_b ?_)<;>grind [wordB]
def Zh164:HH:=⟨_,Zo164⟩
def Zk174:Con UU where
 α:=Int
 md:=[.ro]
 of:=o1 oY
 ds:=fun x=>[dY x]
 pre:=fun c=>[0≤c∧c≤255]
 res:=fun c=>⟨[dO (wordB c)],true,[]⟩
 law:=l1 lY
def Za174:Zk174.α→Nat→Option (Ann UU):=fun c=>annL []
def Zu174:=us [Zh104]
theorem Zo174:Holds EE (174,Zk174):=by
 refine holds_of EE_ok func174 Zk174 (by kernel_rfl) Zu174 (us_ok _) Za174 (fun(c:Int) hp hb=> ?_)
 have hp0:0≤c∧c≤255:=hp _ m0
 clear hp hb
 apply @ve _ (bif decide ((97:Int)≤IntKind.wrap IntKind.i64 c∧IntKind.wrap IntKind.i64 c≤(122:Int)) then Lb true (wordB c) else bif decide ((48:Int)≤IntKind.wrap IntKind.i64 c∧IntKind.wrap IntKind.i64 c≤(57:Int)) then Lb true (wordB c) else Lb (c==(95:Int)) (wordB c)) (by kernel_rfl)
 rw[wrap_i64 (by omega) (by omega)]
 refine if_cond (fun h=>Lf_b ?_) (fun h=> ?_)
 ·grind [wordB,smallB]
 refine if_cond (fun h=>Lf_b ?_) (fun h=>Lf_b ?_)<;>grind [wordB,smallB]
def Zh174:HH:=⟨_,Zo174⟩
def Zk89:Con UU where
 α:=ByteArray×Int
 md:=[.ro,.ro]
 of:=oC oS (o1 oI)
 ds:=fun x=>[dS x.1,dI x.2]
 pre:=fun _=>[]
 res:=fun(s,most)=>⟨[dO (decide (s.size≤most)&&wordS s)],true,[]⟩
 law:=lC lS (l1 lI)
def Zi89_4(s:ByteArray)(most:Int):Int×Unit→Prop:=fun(i,_)=>0≤i∧i≤s.size∧s.size≤most∧((bs s).drop i.toNat).all (byteP wordB)=wordS s
def Zm89_4(s:ByteArray)(most:Int):Int×Unit→Nat:=fun(i,_)=>s.size-i.toNat
def Za89:Zk89.α→Nat→Option (Ann UU):=fun(s,most)=>annL [(4,annOf [.slot 5 (5,1024) (.lit (.int .i64))] (fun _=>Zi89_4 s most) (Zm89_4 s most))]
def Zu89:=us [Zh164]
theorem Zo89:Holds EE (89,Zk89):=by
 refine holds_of EE_ok func89 Zk89 (by kernel_rfl) Zu89 (us_ok _) Za89 (fun x hp hb=> ?_)
 obtain⟨s,most⟩:=x
 have hl_s:=bdS (s:=s) (hb _ m0)
 have hl_most:=bdI (n:=most) (hb _ m1)
 clear hp hb
 apply @ve _ (bif decide ((↑(ByteArray.size s):Int)>most) then Lb false (decide ((↑(ByteArray.size s):Int)≤most)&&wordS s) else Zi89_4 s most ((0:Int),())∧∀(y:Int×PUnit),Zi89_4 s most y→bif decide (y.1<(↑(ByteArray.size s):Int)) then(0:Int)≤y.1∧y.1.toNat<ByteArray.size s∧bif !wordB (↑(UInt8.toNat (List.getD s.data.toList y.1.toNat (0:UInt8))):Int) then Lb false (decide ((↑(ByteArray.size s):Int)≤most)&&wordS s) else Zi89_4 s most (IntKind.wrap IntKind.i64 (y.1+(1:Int)),())∧Zm89_4 s most (IntKind.wrap IntKind.i64 (y.1+(1:Int)),())<Zm89_4 s most y else Lb true (decide ((↑(ByteArray.size s):Int)≤most)&&wordS s)) (by kernel_rfl)
 refine if_cond (fun h=>Lf_ff ?_) (fun h=> ?_)
 ·have h:=of_decide_eq_true h;rw[decide_eq_false (by omega)];rfl
 have h0:=of_decide_eq_false h
 refine⟨⟨by omega,by omega,by omega,rfl⟩,?_⟩
 rintro⟨i,⟨⟩⟩ ⟨h1,h2,h3,hR⟩
 have hl:=bs_len s
 simp only[bs_eq]
 refine if_cond (fun hc=> ?_) (fun hc=> ?_)
 ·have hc:=of_decide_eq_true hc
  rw[all_step _ _ 0 h1 (by omega)] at hR
  rw[wrap_i64 (by omega) (by omega)]
  refine⟨by omega,by omega,if_cond (fun h=>Lf_ff ?_) (fun h=>⟨⟨by omega,by omega,by omega,?_⟩,?_⟩)⟩
  ·rw[←hR];simp only[byteP];simp at h;simp[h]
  ·rw[←hR];simp only[byteP];simp at h;simp[h]
  ·simp only[Zm89_4];omega
 ·have hc:=of_decide_eq_false hc
  rw[drop_end _ (by omega)] at hR
  exact Lf_tt (by rw[←hR,decide_eq_true h3];rfl)
def Zh89:HH:=⟨_,Zo89⟩
def Zk33:Con UU where
 α:=ByteArray
 md:=[.ro]
 of:=o1 oS
 ds:=fun x=>[dS x]
 pre:=fun _=>[]
 res:=fun s=>⟨[dO (nameOk s)],true,[]⟩
 law:=l1 lS
def Za33:Zk33.α→Nat→Option (Ann UU):=fun s=>annL []
def Zu33:=us [Zh88,Zh89]
theorem Zo33:Holds EE (33,Zk33):=by
 refine holds_of EE_ok func33 Zk33 (by kernel_rfl) Zu33 (us_ok _) Za33 (fun(s:ByteArray) hp hb=> ?_)
 have hl_s:=bdS (s:=s) (hb _ m0)
 clear hp hb
 apply @ve _ (bif decide ((↑(ByteArray.size s):Int)>(0:Int)) then(0:Int)≤(0:Int)∧Int.toNat (0:Int)<ByteArray.size s∧bif smallB (↑(UInt8.toNat (List.getD s.data.toList (Int.toNat (0:Int)) (0:UInt8))):Int) then Lb (decide ((↑(ByteArray.size s):Int)≤(12:Int))&&wordS s) (nameOk s) else Lb false (nameOk s) else Lb false (nameOk s)) (by kernel_rfl)
 have hl:=bs_len s
 simp only[bs_eq]
 refine if_cond (fun h=> ?_) (fun h=>Lf_ff ?_)
 ·have h:=of_decide_eq_true h
  refine⟨by omega,by omega,if_cond (fun h'=>Lf_b ?_) (fun h'=>Lf_ff ?_)⟩
  ·have h':smallB ((List.getD (bs s) 0 0).toNat:Int)=true:=h'
   simp only[nameOk,h']
   have e:decide (1≤s.size∧s.size≤12)=decide ((s.size:Int)≤12):=by rw[decide_eq_decide];omega
   rw[e];simp
  ·have h':smallB ((List.getD (bs s) 0 0).toNat:Int)=false:=h'
   simp only[nameOk,h'];grind
 ·have h:=of_decide_eq_false h
  simp only[nameOk];rw[decide_eq_false (by omega)];rfl
def Zh33:HH:=⟨_,Zo33⟩
def Zk103:Con UU where
 α:=ByteArray
 md:=[.ro]
 of:=o1 oS
 ds:=fun x=>[dS x]
 pre:=fun _=>[]
 res:=fun s=>⟨[dO (nameOk s)],true,[]⟩
 law:=l1 lS
def Zi103_2(s:ByteArray):Int×Unit→Prop:=fun(i,_)=>0≤i∧i≤s.size∧((bs s).drop i.toNat).all (byteP wordB)=wordS s∧(0<i→smallB (List.getD (bs s) 0 0).toNat=true)
def Zm103_2(s:ByteArray):Int×Unit→Nat:=fun(i,_)=>s.size-i.toNat
def Za103:Zk103.α→Nat→Option (Ann UU):=fun s=>annL [(2,annOf [.slot 3 (3,1024) (.lit (.int .i64))] (fun _=>Zi103_2 s) (Zm103_2 s))]
def Zu103:=us [Zh174,Zh104]
theorem Zo103:Holds EE (103,Zk103):=by
 refine holds_of EE_ok func103 Zk103 (by kernel_rfl) Zu103 (us_ok _) Za103 (fun(s:ByteArray) hp hb=> ?_)
 have hl_s:=bdS (s:=s) (hb _ m0)
 clear hp hb
 apply @ve _ (Zi103_2 s ((0:Int),())∧∀(y:Int×PUnit),let x0:Int:=(↑(UInt8.toNat (List.getD s.data.toList y.1.toNat (0:UInt8))):Int);Zi103_2 s y→bif decide (y.1<(↑(ByteArray.size s):Int)) then(0:Int)≤y.1∧y.1.toNat<ByteArray.size s∧((0:Int)≤x0∧x0≤(255:Int))∧bif !wordB x0 then Lb false (nameOk s) else bif y.1==(0:Int) then(0:Int)≤y.1∧y.1.toNat<ByteArray.size s∧bif !decide ((97:Int)≤IntKind.wrap IntKind.i64 x0∧IntKind.wrap IntKind.i64 x0≤(122:Int)) then Lb false (nameOk s) else Zi103_2 s (IntKind.wrap IntKind.i64 (y.1+(1:Int)),())∧Zm103_2 s (IntKind.wrap IntKind.i64 (y.1+(1:Int)),())<Zm103_2 s y else Zi103_2 s (IntKind.wrap IntKind.i64 (y.1+(1:Int)),())∧Zm103_2 s (IntKind.wrap IntKind.i64 (y.1+(1:Int)),())<Zm103_2 s y else Lb (decide ((1:Int)≤(↑(ByteArray.size s):Int)∧(↑(ByteArray.size s):Int)≤(12:Int))) (nameOk s)) (by kernel_rfl)
 dsimp only
 refine⟨⟨by omega,by omega,rfl,by omega⟩,?_⟩
 rintro⟨i,⟨⟩⟩ ⟨h1,h2,hR,hS⟩
 have hl:=bs_len s
 simp only[bs_eq,u8_i64]
 refine if_cond (fun hc=> ?_) (fun hc=> ?_)
 ·have hc:=of_decide_eq_true hc
  have hb:=(List.getD (bs s) i.toNat 0).toNat_lt
  rw[all_step _ _ 0 h1 (by omega)] at hR
  rw[wrap_i64 (by omega) (by omega)]
  have hN:wordS s=false→nameOk s=false:=fun h=>by simp[nameOk,h]
  refine⟨by omega,by omega,⟨by omega,by omega⟩,if_cond (fun h=>Lf_ff (hN ?_)) (fun h=>if_cond (fun h'=>⟨by omega,by omega,if_cond (fun h''=>Lf_ff ?_) (fun h''=>⟨⟨by omega,by omega,?_,fun _=> ?_⟩,?_⟩)⟩) (fun h'=>⟨⟨by omega,by omega,?_,fun _=>hS ?_⟩,?_⟩))⟩
  ·rw[←hR];simp only[byteP];simp at h;simp[h]
  ·have h':i=0:=by simpa using h'
   subst h'
   have h'':smallB ((List.getD (bs s) 0 0).toNat:Int)=false:=by simp only[smallB];grind
   simp only[nameOk,h''];grind
  ·rw[←hR];simp only[byteP];simp at h;simp[h]
  ·have h':i=0:=by simpa using h'
   subst h'
   simpa[smallB] using h''
  ·simp only[Zm103_2];omega
  ·rw[←hR];simp only[byteP];simp at h;simp[h]
  ·have h':¬i=0:=by simpa using h'
   omega
  ·simp only[Zm103_2];omega
 ·have hc:=of_decide_eq_false hc
  rw[drop_end _ (by omega)] at hR
  refine Lf_b ?_
  simp only[nameOk,←hR]
  by_cases hz:0<i
  ·rw[hS hz];simp only[zes];grind
  ·rw[decide_eq_false (by omega),decide_eq_false (by omega)];rfl
def Zh103:HH:=⟨_,Zo103⟩
def Zk289:Con UU where
 α:=ByteArray
 md:=[.ro]
 of:=o1 oS
 ds:=fun x=>[dS x]
 pre:=fun _=>[]
 res:=fun s=>⟨[dO (decide (s.size≤20)&&wordS s)],true,[]⟩
 law:=l1 lS
def Zi289_2(s:ByteArray):Int×Unit→Prop:=fun(i,_)=>0≤i∧i≤s.size∧((bs s).drop i.toNat).all (byteP wordB)=wordS s
def Zm289_2(s:ByteArray):Int×Unit→Nat:=fun(i,_)=>s.size-i.toNat
def Za289:Zk289.α→Nat→Option (Ann UU):=fun s=>annL [(2,annOf [.slot 3 (3,1024) (.lit (.int .i64))] (fun _=>Zi289_2 s) (Zm289_2 s))]
def Zu289:=us [Zh174]
theorem Zo289:Holds EE (289,Zk289):=by
 refine holds_of EE_ok func289 Zk289 (by kernel_rfl) Zu289 (us_ok _) Za289 (fun(s:ByteArray) hp hb=> ?_)
 have hl_s:=bdS (s:=s) (hb _ m0)
 clear hp hb
 apply @ve _ (Zi289_2 s ((0:Int),())∧∀(y:Int×PUnit),let x0:Int:=(↑(UInt8.toNat (List.getD s.data.toList y.1.toNat (0:UInt8))):Int);Zi289_2 s y→bif decide (y.1<(↑(ByteArray.size s):Int)) then(0:Int)≤y.1∧y.1.toNat<ByteArray.size s∧((0:Int)≤x0∧x0≤(255:Int))∧bif !wordB x0 then Lb false (decide (ByteArray.size s≤(20:Nat))&&wordS s) else Zi289_2 s (IntKind.wrap IntKind.i64 (y.1+(1:Int)),())∧Zm289_2 s (IntKind.wrap IntKind.i64 (y.1+(1:Int)),())<Zm289_2 s y else Lb (decide ((↑(ByteArray.size s):Int)≤(20:Int))) (decide (ByteArray.size s≤(20:Nat))&&wordS s)) (by kernel_rfl)
 dsimp only
 refine⟨⟨by omega,by omega,rfl⟩,?_⟩
 rintro⟨i,⟨⟩⟩ ⟨h1,h2,hR⟩
 have hl:=bs_len s
 simp only[bs_eq]
 refine if_cond (fun hc=> ?_) (fun hc=> ?_)
 ·have hc:=of_decide_eq_true hc
  have hb:=(List.getD (bs s) i.toNat 0).toNat_lt
  rw[all_step _ _ 0 h1 (by omega)] at hR
  rw[wrap_i64 (by omega) (by omega)]
  refine⟨by omega,by omega,⟨by omega,by omega⟩,if_cond (fun h=>Lf_ff ?_) (fun h=>⟨⟨by omega,by omega,?_⟩,?_⟩)⟩
  ·rw[←hR];simp only[byteP];simp at h;simp[h]
  ·rw[←hR];simp only[byteP];simp at h;simp[h]
  ·simp only[Zm289_2];omega
 ·have hc:=of_decide_eq_false hc
  rw[drop_end _ (by omega)] at hR
  refine Lf_b ?_
  rw[←hR];simp;omega
def Zh289:HH:=⟨_,Zo289⟩
def Zk107:Con UU where
 α:=DVal
 md:=[.ro]
 of:=o1 (oA .eVal)
 ds:=fun x=>[dA .eVal x]
 pre:=fun _=>[]
 res:=fun v=>⟨[dO (valOk v)],true,[]⟩
 law:=l1 (lA .eVal)
def Za107:Zk107.α→Nat→Option (Ann UU):=fun v=>annL []
def Zu107:=us [Zh34,Zh89]
theorem Zo107:Holds EE (107,Zk107):=by
 refine holds_of EE_ok func107 Zk107 (by kernel_rfl) Zu107 (us_ok _) Za107 (fun(v:DVal) hp hb=> ?_)
 have hl_v_S:=bd_eVal (x:=v) (hb _ m0)
 clear hp hb
 apply @ve _ (bif v.K==(1:Int) then bif decide ((-1000000000:Int)≤v.N∧v.N≤(1000000000:Int)) then Lb (ByteArray.toList v.S==ByteArray.toList {data:= #[]:ByteArray}) (valOk v) else Lb false (valOk v) else bif v.K==(2:Int) then bif v.N==(0:Int) then Lb (decide ((↑(ByteArray.size v.S):Int)≤(20:Int))&&wordS v.S) (valOk v) else Lb false (valOk v) else Lb false (valOk v)) (by kernel_rfl)
 have e:(ByteArray.toList (DVal.S v)==ByteArray.toList {data:= #[]})=decide (v.S=noBytes):=toList_beq _ _
 simp only[e,valOk]
 repeat' (refine if_cond (fun h=> ?_) (fun h=> ?_))
 all_goals (refine Lf_b ?_;grind)
def Zh107:HH:=⟨_,Zo107⟩
def Zk254:Con UU where
 α:=DVal
 md:=[.ro]
 of:=o1 (oA .eVal)
 ds:=fun x=>[dA .eVal x]
 pre:=fun _=>[]
 res:=fun v=>⟨[dO (valOk v)],true,[]⟩
 law:=l1 (lA .eVal)
def Za254:Zk254.α→Nat→Option (Ann UU):=fun v=>annL []
def Zu254:=us [Zh104,Zh289]
theorem Zo254:Holds EE (254,Zk254):=by
 refine holds_of EE_ok func254 Zk254 (by kernel_rfl) Zu254 (us_ok _) Za254 (fun(v:DVal) hp hb=> ?_)
 have hl_v_S:=bd_eVal (x:=v) (hb _ m0)
 clear hp hb
 apply @ve _ (bif v.K==(1:Int) then bif decide ((-1000000000:Int)≤v.N∧v.N≤(1000000000:Int)) then Lb (ByteArray.toList v.S==ByteArray.toList {data:= #[]:ByteArray}) (valOk v) else Lb false (valOk v) else bif v.K==(2:Int) then bif decide (ByteArray.size v.S≤(20:Nat))&&wordS v.S then Lb (v.N==(0:Int)) (valOk v) else Lb false (valOk v) else Lb false (valOk v)) (by kernel_rfl)
 have e:(ByteArray.toList (DVal.S v)==ByteArray.toList {data:= #[]})=decide (v.S=noBytes):=toList_beq _ _
 simp only[e,valOk]
 repeat' (refine if_cond (fun h=> ?_) (fun h=> ?_))
 all_goals (refine Lf_b ?_;grind)
def Zh254:HH:=⟨_,Zo254⟩
def Zk244:Con UU where
 α:=(List DVal)
 md:=[.ro]
 of:=o1 (oL .eVal)
 ds:=fun x=>[dL .eVal x]
 pre:=fun _=>[]
 res:=fun l=>⟨[dO (decide (l.length≤5)&&l.all valOk)],true,[]⟩
 law:=l1 (lL .eVal)
def Zi244_2(l:(List DVal)):Int×Unit→Prop:=fun(i,_)=>0≤i∧i≤l.length∧(l.drop i.toNat).all valOk=l.all valOk
def Zm244_2(l:(List DVal)):Int×Unit→Nat:=fun(i,_)=>l.length-i.toNat
def Za244:Zk244.α→Nat→Option (Ann UU):=fun l=>annL [(2,annOf [.slot 3 (3,1024) (.lit (.int .i64))] (fun _=>Zi244_2 l) (Zm244_2 l))]
def Zu244:=us [Zh254]
theorem Zo244:Holds EE (244,Zk244):=by
 refine holds_of EE_ok func244 Zk244 (by kernel_rfl) Zu244 (us_ok _) Za244 (fun(l:(List DVal)) hp hb=> ?_)
 have hl_l:l.length≤9223372036854775807:=bdL (hb _ m0)
 clear hp hb
 apply @ve _ (let x0:Int:=(l.length:Int);Zi244_2 l ((0:Int),())∧∀(y:Int×PUnit),Zi244_2 l y→bif decide (y.1<x0) then(0:Int)≤y.1∧y.1.toNat<l.length∧bif !valOk (List.getD l y.1.toNat zVal) then Lb false (decide (l.length≤(5:Nat))&&List.all l valOk) else Zi244_2 l (IntKind.wrap IntKind.i64 (y.1+(1:Int)),())∧Zm244_2 l (IntKind.wrap IntKind.i64 (y.1+(1:Int)),())<Zm244_2 l y else Lb (decide (x0≤(5:Int))) (decide (l.length≤(5:Nat))&&List.all l valOk)) (by kernel_rfl)
 dsimp only
 refine⟨⟨by omega,by omega,rfl⟩,?_⟩
 rintro⟨i,⟨⟩⟩ ⟨h1,h2,hR⟩
 simp only
 refine if_cond (fun hc=> ?_) (fun hc=> ?_)
 ·have hc:=of_decide_eq_true hc
  rw[all_step _ _ zVal h1 (by omega)] at hR
  rw[wrap_i64 (by omega) (by omega)]
  refine⟨by omega,by omega,if_cond (fun h=>Lf_ff ?_) (fun h=>⟨⟨by omega,by omega,?_⟩,?_⟩)⟩
  ·rw[←hR];simp at h;simp[h]
  ·rw[←hR];simp at h;simp[h]
  ·simp only[Zm244_2];omega
 ·have hc:=of_decide_eq_false hc
  rw[drop_end _ (by omega)] at hR
  refine Lf_b ?_
  rw[←hR];simp;omega
def Zh244:HH:=⟨_,Zo244⟩
def Zk175:Con UU where
 α:=DFact
 md:=[.ro]
 of:=o1 (oA .eFact)
 ds:=fun x=>[dA .eFact x]
 pre:=fun _=>[]
 res:=fun f=>⟨[dO (factOk f)],true,[]⟩
 law:=l1 (lA .eFact)
def Za175:Zk175.α→Nat→Option (Ann UU):=fun f=>annL []
def Zu175:=us [Zh103,Zh244]
theorem Zo175:Holds EE (175,Zk175):=by
 refine holds_of EE_ok func175 Zk175 (by kernel_rfl) Zu175 (us_ok _) Za175 (fun(f:DFact) hp hb=> ?_)
 have hz0:=bd_eFact (x:=f) (hb _ m0)
 have hl_f_Kind:=hz0.1
 have hl_f_Fields:=hz0.2
 clear hp hb
 apply @ve _ (bif nameOk f.Kind then Lb (decide (f.Fields.length≤(5:Nat))&&List.all f.Fields valOk) (factOk f) else Lb false (factOk f)) (by kernel_rfl)
 simp only[factOk]
 refine if_cond (fun h=>Lf_b ?_) (fun h=>Lf_b ?_)<;>grind
def Zh175:HH:=⟨_,Zo175⟩
def Zk42:Con UU where
 α:=DFact
 md:=[.ro]
 of:=o1 (oA .eFact)
 ds:=fun x=>[dA .eFact x]
 pre:=fun _=>[]
 res:=fun f=>⟨[dO (factOk f)],true,[]⟩
 law:=l1 (lA .eFact)
def Zi42_4(f:DFact):Int×Unit→Prop:=fun(i,_)=>0≤i∧i≤f.Fields.length∧f.Fields.length≤5∧nameOk f.Kind=true∧(f.Fields.drop i.toNat).all valOk=f.Fields.all valOk
def Zm42_4(f:DFact):Int×Unit→Nat:=fun(i,_)=>f.Fields.length-i.toNat
def Za42:Zk42.α→Nat→Option (Ann UU):=fun f=>annL [(4,annOf [.slot 18 (18,1024) (.lit (.int .i64))] (fun _=>Zi42_4 f) (Zm42_4 f))]
def Zu42:=us [Zh33,Zh107]
theorem Zo42:Holds EE (42,Zk42):=by
 refine holds_of EE_ok func42 Zk42 (by kernel_rfl) Zu42 (us_ok _) Za42 (fun(f:DFact) hp hb=> ?_)
 have hz0:=bd_eFact (x:=f) (hb _ m0)
 have hl_f_Kind:=hz0.1
 have hl_f_Fields:=hz0.2
 clear hp hb
 apply @ve _ (let x0:Int:=(f.Fields.length:Int);bif !nameOk f.Kind then Lb false (factOk f) else bif decide (x0>(5:Int)) then Lb false (factOk f) else Zi42_4 f ((0:Int),())∧∀(y:Int×PUnit),Zi42_4 f y→bif decide (y.1<x0) then(0:Int)≤y.1∧y.1.toNat<f.Fields.length∧bif !valOk (List.getD f.Fields y.1.toNat zVal) then Lb false (factOk f) else Zi42_4 f (IntKind.wrap IntKind.i64 (y.1+(1:Int)),())∧Zm42_4 f (IntKind.wrap IntKind.i64 (y.1+(1:Int)),())<Zm42_4 f y else Lb true (factOk f)) (by kernel_rfl)
 dsimp only
 refine if_cond (fun h=>Lf_b ?_) (fun h=>if_cond (fun h'=>Lf_b ?_) (fun h'=>⟨⟨by omega,by omega,by simp at h';omega,by simpa using h,rfl⟩,?_⟩))
 ·simp only[factOk];grind
 ·simp only[factOk];grind
 rintro⟨i,⟨⟩⟩ ⟨h1,h2,h3,h4,hR⟩
 simp only
 refine if_cond (fun hc=> ?_) (fun hc=> ?_)
 ·have hc:=of_decide_eq_true hc
  rw[all_step _ _ zVal h1 (by omega)] at hR
  rw[wrap_i64 (by omega) (by omega)]
  refine⟨by omega,by omega,if_cond (fun h=>Lf_ff ?_) (fun h=>⟨⟨by omega,by omega,by omega,h4,?_⟩,?_⟩)⟩
  ·simp only[factOk];rw[←hR];simp at h;simp[h]
  ·rw[←hR];simp at h;simp[h]
  ·simp only[Zm42_4];omega
 ·have hc:=of_decide_eq_false hc
  rw[drop_end _ (by omega)] at hR
  refine Lf_b ?_
  simp only[factOk,←hR,h4];simp;omega
def Zh42:HH:=⟨_,Zo42⟩
def allI(n:Nat)(p:Nat→Bool):Bool:=(List.range n).all p
theorem allI_true{n:Nat}{p:Nat→Bool}(h:∀j,j<n→p j=true):allI n p=true:=by simpa[allI] using h
theorem allI_false{n:Nat}{p:Nat→Bool}{j:Nat}(h:j<n)(hj:p j=false):allI n p=false:=by
 simp only[allI,List.all_eq_false,zay]
 exact⟨j,h,by simp[hj]⟩
theorem upto_step{i:Int}{p:Nat→Bool}(h0:0≤i)(h:∀j:Nat,(j:Int)<i→p j=true)(hi:p i.toNat=true):∀j:Nat,(j:Int)<i+1→p j=true:=by
 intro j hj
 by_cases hji:(j:Int)<i
 ·exact h j hji
 ·have:j=i.toNat:=by omega
  subst this;exact hi
def idxI(n:Nat)(p:Nat→Bool):Int:=match(List.range n).find? p with|some i=>i|none=> -1
def anyI(n:Nat)(p:Nat→Bool):Bool:=(List.range n).any p
theorem idxI_found{n i:Nat}{p:Nat→Bool}(h:i<n)(hp:p i=true)(hj:∀j,j<i→p j=false):idxI n p=i:=by
 have:(List.range n).find? p=some i:=by
  rw[List.find?_range_eq_some]
  exact⟨hp,zay.2 h,fun j hj'=>by simp[hj j hj']⟩
 simp[idxI,this]
theorem idxI_none{n:Nat}{p:Nat→Bool}(hj:∀j,j<n→p j=false):idxI n p= -1:=by
 have:(List.range n).find? p=none:=by
  rw[zeb]
  intro j hj'
  simp[hj j (zay.1 hj')]
 simp[idxI,this]
theorem idxI_cases(n:Nat)(p:Nat→Bool):(idxI n p= -1∧∀j,j<n→p j=false)∨∃i,i<n∧idxI n p=(i:Int)∧p i=true∧∀j,j<i→p j=false:=by
 cases h:(List.range n).find? p with
 |none=>
  refine .inl ⟨by simp[idxI,h],fun j hj=> ?_⟩
  have:=zeb.1 h j (zay.2 hj)
  simpa using this
 |some i=>
  rw[List.find?_range_eq_some] at h
  obtain⟨h1,h2,h3⟩:=h
  exact .inr ⟨i,zay.1 h2,idxI_found (zay.1 h2) h1 (fun j hj=>by simpa using h3 j hj),h1,fun j hj=>by simpa using h3 j hj⟩
theorem idxI_congr{n:Nat}{p q:Nat→Bool}(h:∀j,j<n→p j=q j):idxI n p=idxI n q:=by
 rcases idxI_cases n q with⟨h1,h2⟩|⟨i,h1,h2,h3,h4⟩
 ·rw[h1,idxI_none (fun j hj=>by rw[h j hj,h2 j hj])]
 ·rw[h2,idxI_found h1 (by rw[h i h1,h3]) (fun j hj=>by rw[h j (by omega),h4 j hj])]
theorem anyI_true{n j:Nat}{p:Nat→Bool}(h:j<n)(hp:p j=true):anyI n p=true:=by
 simp only[anyI,zbb,zay]
 exact⟨j,h,hp⟩
theorem anyI_false{n:Nat}{p:Nat→Bool}(h:∀j,j<n→p j=false):anyI n p=false:=by
 simp only[anyI,List.any_eq_false,zay]
 exact fun j hj=>by simp[h j hj]
theorem anyI_not{n:Nat}{p:Nat→Bool}:anyI n p=false↔∀j,j<n→p j=false:=by
 simp only[anyI,List.any_eq_false,zay,zbj]
theorem idxI_ge{n:Nat}{p:Nat→Bool}:decide (0≤idxI n p)=anyI n p:=by
 rcases idxI_cases n p with⟨h1,h2⟩|⟨i,h1,h2,h3,h4⟩
 ·rw[h1,anyI_false h2];rfl
 ·rw[h2,anyI_true h1 h3];simp
theorem getD_take{α:Type}(l:List α)(z:α){i j:Nat}(h:j<i):List.getD (l.take i) j z=List.getD l j z:=by
 rw[zac,zac,zan,if_pos h]
theorem closP_of{k:Con UU}{caps:List (DV UU)}{ds:List (DA UU)}{x:k.α}{v:Value}(h:k.of (ds.map DA.dv++caps)=some x)(hv:(k.res x).val=[.one (.lit v)])(hm:(k.res x).muts=[])
  (hl:k.md.length=ds.length+caps.length) (hp:∀p∈k.pre x,p):closP k caps ds=some v:=by
 unfold closP
 simp only[h,hv,hm]
 rw[if_pos ⟨hl,hp⟩]
theorem val_beq(a b:DVal):(a.K==b.K&&(a.N==b.N&&(ByteArray.toList a.S==ByteArray.toList b.S&&true)))=decide (a=b):=by
 obtain⟨K,N,S⟩:=a
 obtain⟨K',N',S'⟩:=b
 simp only[toList_beq,zdb]
 rw[zcm]
 simp only[zaf,beq_iff_eq,decide_eq_true_eq,DVal.mk.injEq]
theorem upto_no{i:Int}{p:Nat→Bool}(h0:0≤i)(h:∀j:Nat,(j:Int)<i→p j=false)(hi:p i.toNat=false):∀j:Nat,(j:Int)<i+1→p j=false:=by
 intro j hj
 by_cases hji:(j:Int)<i
 ·exact h j hji
 ·have:j=i.toNat:=by omega
  subst this;exact hi
def Zk159:Con UU where
 α:=DFact
 md:=[.ro]
 of:=o1 (oA .eFact)
 ds:=fun x=>[dA .eFact x]
 pre:=fun f=>[f.Fields.length≤4294967296]
 res:=fun f=>⟨[dA .eFact f],true,[]⟩
 law:=l1 (lA .eFact)
def Za159:Zk159.α→Nat→Option (Ann UU):=fun f=>annL []
def Zu159:List (FuncId×Con UU):=[]
theorem Zo159:Holds EE (159,Zk159):=by
 refine holds_of EE_ok func159 Zk159 (by kernel_rfl) Zu159 all_nil Za159 (fun(f:DFact) hp hb=> ?_)
 have hz0:=bd_eFact (x:=f) (hb _ m0)
 have hl_f_Kind:=hz0.1
 have hl_f_Fields:=hz0.2
 have hp0:f.Fields.length≤4294967296:=hp _ m0
 clear hp hb
 apply @ve _ ((0:Nat)+f.Fields.length≤(4294967296:Nat)∧Lf [DV.agg [CS f.Kind,CL .eVal ([]++f.Fields)]] [DV.agg [CS f.Kind,CL .eVal f.Fields]]) (by kernel_rfl)
 exact⟨by simp;omega,Lf_rfl _⟩
def Zh159:HH:=⟨_,Zo159⟩
def undoOk(s:ByteArray):Bool:=decide (s=noBytes)||nameOk s
theorem fact_ext{a b:DFact}:a=b↔a.Kind=b.Kind∧a.Fields=b.Fields:=by
 obtain⟨k,f⟩:=a;obtain⟨k',f'⟩:=b;simp
def Zk255:Con UU where
 α:=(List DVal)×(List DVal)
 md:=[.ro,.ro]
 of:=oC (oL .eVal) (o1 (oL .eVal))
 ds:=fun x=>[dL .eVal x.1,dL .eVal x.2]
 pre:=fun _=>[]
 res:=fun(a,b)=>⟨[dO (decide (a=b))],true,[]⟩
 law:=lC (lL .eVal) (l1 (lL .eVal))
def Zi255_4(a:(List DVal))(b:(List DVal)):Int×Unit→Prop:=fun(i,_)=>0≤i∧i≤a.length∧a.length=b.length∧(a.drop i.toNat=b.drop i.toNat↔a=b)
def Zm255_4(a:(List DVal))(b:(List DVal)):Int×Unit→Nat:=fun(i,_)=>a.length-i.toNat
def Za255:Zk255.α→Nat→Option (Ann UU):=fun(a,b)=>annL [(4,annOf [.slot 5 (5,1024) (.lit (.int .i64))] (fun _=>Zi255_4 a b) (Zm255_4 a b))]
def Zu255:List (FuncId×Con UU):=[]
theorem Zo255:Holds EE (255,Zk255):=by
 refine holds_of EE_ok func255 Zk255 (by kernel_rfl) Zu255 all_nil Za255 (fun x hp hb=> ?_)
 obtain⟨a,b⟩:=x
 have hl_a:a.length≤9223372036854775807:=bdL (hb _ m0)
 have hl_b:b.length≤9223372036854775807:=bdL (hb _ m1)
 clear hp hb
 apply @ve _ (bif (a.length:Int) !=(b.length:Int) then Lb false (decide (a=b)) else Zi255_4 a b ((0:Int),())∧∀(y:Int×PUnit),let x0:DVal:=List.getD a y.1.toNat zVal;let x1:DVal:=List.getD b y.1.toNat zVal;Zi255_4 a b y→bif decide (y.1<(a.length:Int)) then(0:Int)≤y.1∧y.1.toNat<a.length∧(0:Int)≤y.1∧y.1.toNat<b.length∧bif !(x0.K==x1.K&&(x0.N==x1.N&&(ByteArray.toList x0.S==ByteArray.toList x1.S&&true))) then Lb false (decide (a=b)) else Zi255_4 a b (IntKind.wrap IntKind.i64 (y.1+(1:Int)),())∧Zm255_4 a b (IntKind.wrap IntKind.i64 (y.1+(1:Int)),())<Zm255_4 a b y else Lb true (decide (a=b))) (by kernel_rfl)
 dsimp only
 refine if_cond (fun h=>Lf_f ?_) (fun h=>⟨?_,?_⟩)
 ·rintro rfl;simp at h
 ·simp[Zi255_4] at*;omega
 rintro⟨i,⟨⟩⟩ ⟨h1,h2,h3,hR⟩
 simp only at*
 refine if_cond (fun hc=> ?_) (fun hc=> ?_)
 ·have hc:i<a.length:=by simpa using hc
  rw[drop_step a zVal h1 hc,drop_step b zVal h1 (by omega)] at hR
  rw[wrap_i64 (by omega) (by omega)]
  simp only[val_beq]
  refine⟨by omega,by omega,by omega,by omega,if_cond (fun h=>Lf_f ?_) (fun h=>⟨⟨by omega,by omega,h3,?_⟩,?_⟩)⟩
  ·rw[←hR];simp at h;simp[h]
  ·rw[←hR];simp at h;simp[h]
  ·simp only[Zm255_4];omega
 ·have hc:a.length≤i:=by simpa using hc
  rw[drop_end a hc,drop_end b (by omega)] at hR
  exact Lf_t (hR.1 rfl)
def Zh255:HH:=⟨_,Zo255⟩
def Zk162:Con UU where
 α:=(List DVal)×(List DVal)
 md:=[.ro,.ro]
 of:=oC (oL .eVal) (o1 (oL .eVal))
 ds:=fun x=>[dL .eVal x.1,dL .eVal x.2]
 pre:=fun _=>[]
 res:=fun(a,b)=>⟨[dO (decide (a=b))],true,[]⟩
 law:=lC (lL .eVal) (l1 (lL .eVal))
def Zi162_4(a:(List DVal))(b:(List DVal)):Int×Unit→Prop:=fun(i,_)=>0≤i∧i≤a.length∧a.length=b.length∧(a.drop i.toNat=b.drop i.toNat↔a=b)
def Zm162_4(a:(List DVal))(b:(List DVal)):Int×Unit→Nat:=fun(i,_)=>a.length-i.toNat
def Za162:Zk162.α→Nat→Option (Ann UU):=fun(a,b)=>annL [(4,annOf [.slot 13 (13,1024) (.lit (.int .i64))] (fun _=>Zi162_4 a b) (Zm162_4 a b))]
def Zu162:List (FuncId×Con UU):=[]
theorem Zo162:Holds EE (162,Zk162):=by
 refine holds_of EE_ok func162 Zk162 (by kernel_rfl) Zu162 all_nil Za162 (fun x hp hb=> ?_)
 obtain⟨a,b⟩:=x
 have hl_a:a.length≤9223372036854775807:=bdL (hb _ m0)
 have hl_b:b.length≤9223372036854775807:=bdL (hb _ m1)
 clear hp hb
 apply @ve _ (bif (a.length:Int) !=(b.length:Int) then Lb false (decide (a=b)) else Zi162_4 a b ((0:Int),())∧∀(y:Int×PUnit),let x0:DVal:=List.getD b y.1.toNat zVal;let x1:DVal:=List.getD a y.1.toNat zVal;Zi162_4 a b y→bif decide (y.1<(a.length:Int)) then(0:Int)≤y.1∧y.1.toNat<a.length∧(0:Int)≤y.1∧y.1.toNat<b.length∧bif !(x1.K==x0.K&&(x1.N==x0.N&&(ByteArray.toList x1.S==ByteArray.toList x0.S&&true))) then Lb false (decide (a=b)) else Zi162_4 a b (IntKind.wrap IntKind.i64 (y.1+(1:Int)),())∧Zm162_4 a b (IntKind.wrap IntKind.i64 (y.1+(1:Int)),())<Zm162_4 a b y else Lb true (decide (a=b))) (by kernel_rfl)
 dsimp only
 refine if_cond (fun h=>Lf_f ?_) (fun h=>⟨?_,?_⟩)
 ·rintro rfl;simp at h
 ·simp[Zi162_4] at*;omega
 rintro⟨i,⟨⟩⟩ ⟨h1,h2,h3,hR⟩
 simp only at*
 refine if_cond (fun hc=> ?_) (fun hc=> ?_)
 ·have hc:i<a.length:=by simpa using hc
  rw[drop_step a zVal h1 hc,drop_step b zVal h1 (by omega)] at hR
  rw[wrap_i64 (by omega) (by omega)]
  simp only[val_beq]
  refine⟨by omega,by omega,by omega,by omega,if_cond (fun h=>Lf_f ?_) (fun h=>⟨⟨by omega,by omega,h3,?_⟩,?_⟩)⟩
  ·rw[←hR];simp at h;simp[h]
  ·rw[←hR];simp at h;simp[h]
  ·simp only[Zm162_4];omega
 ·have hc:a.length≤i:=by simpa using hc
  rw[drop_end a hc,drop_end b (by omega)] at hR
  exact Lf_t (hR.1 rfl)
def Zh162:HH:=⟨_,Zo162⟩
def Zk186:Con UU where
 α:=DFact×DFact
 md:=[.ro,.ro]
 of:=oC (oA .eFact) (o1 (oA .eFact))
 ds:=fun x=>[dA .eFact x.1,dA .eFact x.2]
 pre:=fun _=>[]
 res:=fun(a,b)=>⟨[dO (decide (a=b))],true,[]⟩
 law:=lC (lA .eFact) (l1 (lA .eFact))
def Za186:Zk186.α→Nat→Option (Ann UU):=fun(a,b)=>annL []
def Zu186:=us [Zh255]
theorem Zo186:Holds EE (186,Zk186):=by
 refine holds_of EE_ok func186 Zk186 (by kernel_rfl) Zu186 (us_ok _) Za186 (fun x hp hb=> ?_)
 obtain⟨a,b⟩:=x
 have hz0:=bd_eFact (x:=a) (hb _ m0)
 have hl_a_Kind:=hz0.1
 have hl_a_Fields:=hz0.2
 have hz1:=bd_eFact (x:=b) (hb _ m1)
 have hl_b_Kind:=hz1.1
 have hl_b_Fields:=hz1.2
 clear hp hb
 apply @ve _ (bif ByteArray.toList a.Kind==ByteArray.toList b.Kind then Lb (decide (a.Fields=b.Fields)) (decide (a=b)) else Lb false (decide (a=b))) (by kernel_rfl)
 simp only[toList_beq]
 refine if_cond (fun h=>Lf_b ?_) (fun h=>Lf_b ?_)<;>(simp only[fact_ext];grind)
def Zh186:HH:=⟨_,Zo186⟩
def Zk86:Con UU where
 α:=DFact×DFact
 md:=[.ro,.ro]
 of:=oC (oA .eFact) (o1 (oA .eFact))
 ds:=fun x=>[dA .eFact x.1,dA .eFact x.2]
 pre:=fun _=>[]
 res:=fun(a,b)=>⟨[dO (decide (a=b))],true,[]⟩
 law:=lC (lA .eFact) (l1 (lA .eFact))
def Za86:Zk86.α→Nat→Option (Ann UU):=fun(a,b)=>annL []
def Zu86:=us [Zh162]
theorem Zo86:Holds EE (86,Zk86):=by
 refine holds_of EE_ok func86 Zk86 (by kernel_rfl) Zu86 (us_ok _) Za86 (fun x hp hb=> ?_)
 obtain⟨a,b⟩:=x
 have hz0:=bd_eFact (x:=a) (hb _ m0)
 have hl_a_Kind:=hz0.1
 have hl_a_Fields:=hz0.2
 have hz1:=bd_eFact (x:=b) (hb _ m1)
 have hl_b_Kind:=hz1.1
 have hl_b_Fields:=hz1.2
 clear hp hb
 apply @ve _ (bif ByteArray.toList a.Kind==ByteArray.toList b.Kind then Lb (decide (a.Fields=b.Fields)) (decide (a=b)) else Lb false (decide (a=b))) (by kernel_rfl)
 simp only[toList_beq]
 refine if_cond (fun h=>Lf_b ?_) (fun h=>Lf_b ?_)<;>(simp only[fact_ext];grind)
def Zh86:HH:=⟨_,Zo86⟩
def Zk43:Con UU where
 α:=ByteArray
 md:=[.ro]
 of:=o1 oS
 ds:=fun x=>[dS x]
 pre:=fun _=>[]
 res:=fun s=>⟨[dO (undoOk s)],true,[]⟩
 law:=l1 lS
def Za43:Zk43.α→Nat→Option (Ann UU):=fun s=>annL []
def Zu43:=us [Zh33]
theorem Zo43:Holds EE (43,Zk43):=by
 refine holds_of EE_ok func43 Zk43 (by kernel_rfl) Zu43 (us_ok _) Za43 (fun(s:ByteArray) hp hb=> ?_)
 have hl_s:=bdS (s:=s) (hb _ m0)
 clear hp hb
 apply @ve _ (bif ByteArray.toList s==ByteArray.toList {data:= #[]:ByteArray} then Lb true (undoOk s) else Lb (nameOk s) (undoOk s)) (by kernel_rfl)
 have e:(ByteArray.toList s==ByteArray.toList {data:= #[]})=decide (s=noBytes):=toList_beq _ _
 simp only[e,undoOk]
 refine if_cond (fun h=>Lf_b ?_) (fun h=>Lf_b ?_)<;>grind
def Zh43:HH:=⟨_,Zo43⟩
def largeB(b:Int):Bool:=decide (65≤b∧b≤90)
def varB(b:Int):Bool:=wordB b||largeB b
def varOk(s:ByteArray):Bool:=decide (1≤s.size∧s.size≤12)&&largeB (List.getD (bs s) 0 0).toNat&&(bs s).all (byteP varB)
def argOk(a:DArg):Bool:=bif decide (a.K=1) then varOk a.S&&decide (a.V=zVal) else bif decide (a.K=2) then valOk a.V&&decide (a.S=noBytes) else bif decide (a.K=3) then decide (a.S=noBytes)&&decide (a.V=zVal) else false
def termOk(a:DArg):Bool:=argOk a&& !decide (a.K=3)
def patOk(p:DPat):Bool:=nameOk p.Kind&&decide (p.Args.length≤5)&&p.Args.all argOk
def kondOk(c:DCond):Bool:=decide (1≤c.Op∧c.Op≤3)&&termOk c.L&&termOk c.R
def bPlus:ByteArray:=⟨#[43]⟩
def bMinus:ByteArray:=⟨#[45]⟩
def exprOk(e:DExpr):Bool:=bif decide (e.Op=noBytes) then termOk e.L&&decide (e.R=zArg) else bif decide (e.Op=bPlus)||decide (e.Op=bMinus) then termOk e.L&&termOk e.R else false
def exprsOk(l:List DExpr):Bool:=decide (l.length≤5)&&l.all exprOk
def bareA(a:DAct):Bool:=decide (a.Name=noBytes)&&decide (a.Args.length=0)&&decide (a.Undo=noBytes)
def actOk(a:DAct):Bool:=
 bif decide (a.Kind=1) then nameOk a.Name&&exprsOk a.Args&&decide (a.N=0)&&decide (a.Undo=noBytes)
 else bif decide (a.Kind=2) then bareA a&&decide (0≤a.N∧a.N≤7)
 else bif decide (a.Kind=3) then nameOk a.Name&&exprsOk a.Args&&decide (a.N=0)&&undoOk a.Undo
 else bif decide (a.Kind=4) then nameOk a.Name&&exprsOk a.Args&&decide (0≤a.N∧a.N≤100000)&&decide (a.Undo=noBytes)
 else bif decide (a.Kind=5)||decide (a.Kind=6) then bareA a&&decide (a.N=0) else false
theorem argR_beq(a b:DArg):(a.K==b.K&&(ByteArray.toList a.S==ByteArray.toList b.S&&(a.V.K==b.V.K&&(a.V.N==b.V.N&&(ByteArray.toList a.V.S==ByteArray.toList b.V.S&&true))&&true)))=decide (a=b):=by
 obtain⟨K,S,K2,N2,S2⟩:=a
 obtain⟨K',S',K2',N2',S2'⟩:=b
 simp only[toList_beq,zdb]
 rw[zcm]
 simp only[zaf,beq_iff_eq,decide_eq_true_eq,DArg.mk.injEq,DVal.mk.injEq]
def Zk304:Con UU where
 α:=Int
 md:=[.ro]
 of:=o1 oY
 ds:=fun x=>[dY x]
 pre:=fun _=>[]
 res:=fun b=>⟨[dO (largeB b)],true,[]⟩
 law:=l1 lY
def Za304:Zk304.α→Nat→Option (Ann UU):=fun b=>annL []
def Zu304:List (FuncId×Con UU):=[]
theorem Zo304:Holds EE (304,Zk304):=by
 refine holds_of EE_ok func304 Zk304 (by kernel_rfl) Zu304 all_nil Za304 (fun(b:Int) hp hb=> ?_)
 skip
 clear hp hb
 apply @ve _ (bif decide (b≥(65:Int)) then Lb (decide (b≤(90:Int))) (largeB b) else Lb false (largeB b)) (by kernel_rfl)
 refine if_cond (fun h=>Lf_b ?_) (fun h=>Lf_b ?_)<;>grind [largeB]
def Zh304:HH:=⟨_,Zo304⟩
def Zk314:Con UU where
 α:=Int
 md:=[.ro]
 of:=o1 oY
 ds:=fun x=>[dY x]
 pre:=fun c=>[0≤c∧c≤255]
 res:=fun c=>⟨[dO (largeB c)],true,[]⟩
 law:=l1 lY
def Za314:Zk314.α→Nat→Option (Ann UU):=fun c=>annL []
def Zu314:=us [Zh104]
theorem Zo314:Holds EE (314,Zk314):=by
 refine holds_of EE_ok func314 Zk314 (by kernel_rfl) Zu314 (us_ok _) Za314 (fun(c:Int) hp hb=> ?_)
 have hp0:0≤c∧c≤255:=hp _ m0
 clear hp hb
 apply @ve _ (Lb (decide ((65:Int)≤IntKind.wrap IntKind.i64 c∧IntKind.wrap IntKind.i64 c≤(90:Int))) (largeB c)) (by kernel_rfl)
 rw[wrap_i64 (by omega) (by omega)]
 exact Lf_b rfl
def Zh314:HH:=⟨_,Zo314⟩
def Zk307:Con UU where
 α:=ByteArray
 md:=[.ro]
 of:=o1 oS
 ds:=fun x=>[dS x]
 pre:=fun _=>[]
 res:=fun s=>⟨[dO (varOk s)],true,[]⟩
 law:=l1 lS
def Zi307_2(s:ByteArray):Int×Unit→Prop:=fun(i,_)=>0≤i∧i≤s.size∧((bs s).drop i.toNat).all (byteP varB)=(bs s).all (byteP varB)∧(0<i→largeB (List.getD (bs s) 0 0).toNat=true)
def Zm307_2(s:ByteArray):Int×Unit→Nat:=fun(i,_)=>s.size-i.toNat
def Za307:Zk307.α→Nat→Option (Ann UU):=fun s=>annL [(2,annOf [.slot 3 (3,1024) (.lit (.int .i64))] (fun _=>Zi307_2 s) (Zm307_2 s))]
def Zu307:=us [Zh314,Zh174,Zh104]
theorem Zo307:Holds EE (307,Zk307):=by
 refine holds_of EE_ok func307 Zk307 (by kernel_rfl) Zu307 (us_ok _) Za307 (fun(s:ByteArray) hp hb=> ?_)
 have hl_s:=bdS (s:=s) (hb _ m0)
 clear hp hb
 apply @ve _ (Zi307_2 s ((0:Int),())∧∀(y:Int×PUnit),let x0:Int:=(↑(UInt8.toNat (List.getD s.data.toList y.1.toNat (0:UInt8))):Int);Zi307_2 s y→bif decide (y.1<(↑(ByteArray.size s):Int)) then(0:Int)≤y.1∧y.1.toNat<ByteArray.size s∧((0:Int)≤x0∧x0≤(255:Int))∧bif !largeB x0 then bif y.1==(0:Int) then Lb false (varOk s) else(0:Int)≤y.1∧y.1.toNat<ByteArray.size s∧((0:Int)≤x0∧x0≤(255:Int))∧bif !wordB x0 then Lb false (varOk s) else Zi307_2 s (IntKind.wrap IntKind.i64 (y.1+(1:Int)),())∧Zm307_2 s (IntKind.wrap IntKind.i64 (y.1+(1:Int)),())<Zm307_2 s y else Zi307_2 s (IntKind.wrap IntKind.i64 (y.1+(1:Int)),())∧Zm307_2 s (IntKind.wrap IntKind.i64 (y.1+(1:Int)),())<Zm307_2 s y else Lb (decide ((1:Int)≤(↑(ByteArray.size s):Int)∧(↑(ByteArray.size s):Int)≤(12:Int))) (varOk s)) (by kernel_rfl)
 dsimp only
 refine⟨⟨by omega,by omega,rfl,by omega⟩,?_⟩
 rintro⟨i,⟨⟩⟩ ⟨h1,h2,hR,hS⟩
 have hl:=bs_len s
 simp only[bs_eq]
 refine if_cond (fun hc=> ?_) (fun hc=> ?_)
 ·have hc:=of_decide_eq_true hc
  have hb:=(List.getD (bs s) i.toNat 0).toNat_lt
  rw[all_step _ _ 0 h1 (by omega)] at hR
  rw[wrap_i64 (by omega) (by omega)]
  have hN:(bs s).all (byteP varB)=false→varOk s=false:=fun h=>by simp[varOk,h]
  have hm:Zm307_2 s (i+1,PUnit.unit)<Zm307_2 s (i,()):=by simp only[Zm307_2];omega
  refine⟨by omega,by omega,⟨by omega,by omega⟩,if_cond (fun h=>if_cond (fun h'=>Lf_ff ?_) (fun h'=>⟨by omega,by omega,⟨by omega,by omega⟩,if_cond (fun h''=>Lf_ff (hN ?_)) (fun h''=>⟨⟨by omega,by omega,?_,fun _=>hS ?_⟩,hm⟩)⟩)) (fun h=>⟨⟨by omega,by omega,?_,fun _=> ?_⟩,hm⟩)⟩
  ·have h':i=0:=by simpa using h'
   subst h'
   have h:largeB ((List.getD (bs s) 0 0).toNat:Int)=false:=by simpa using h
   simp only[varOk,h];simp
  ·rw[←hR];simp only[byteP,varB];simp at h h'';simp[h,h'']
  ·rw[←hR];simp only[byteP,varB];simp at h h'';simp[h,h'']
  ·have h':¬i=0:=by simpa using h'
   omega
  ·rw[←hR];simp only[byteP,varB];simp at h;simp[h]
  ·by_cases hz:i=0
   ·subst hz;simpa using h
   ·exact hS (by omega)
 ·have hc:=of_decide_eq_false hc
  rw[drop_end _ (by omega)] at hR
  refine Lf_b ?_
  simp only[varOk,←hR]
  by_cases hz:0<i
  ·rw[hS hz];simp only[zes];grind
  ·rw[decide_eq_false (by omega),decide_eq_false (by omega)];rfl
def Zh307:HH:=⟨_,Zo307⟩
def Zk279:Con UU where
 α:=ByteArray
 md:=[.ro]
 of:=o1 oS
 ds:=fun x=>[dS x]
 pre:=fun _=>[]
 res:=fun s=>⟨[dO (varOk s)],true,[]⟩
 law:=l1 lS
def Zi279_4(s:ByteArray):Int×Unit→Prop:=fun(i,_)=>0≤i∧i≤s.size∧1≤s.size∧s.size≤12∧largeB (List.getD (bs s) 0 0).toNat=true∧((bs s).drop i.toNat).all (byteP varB)=(bs s).all (byteP varB)
def Zm279_4(s:ByteArray):Int×Unit→Nat:=fun(i,_)=>s.size-i.toNat
def Za279:Zk279.α→Nat→Option (Ann UU):=fun s=>annL [(4,annOf [.slot 3 (3,1024) (.lit (.int .i64))] (fun _=>Zi279_4 s) (Zm279_4 s))]
def Zu279:=us [Zh304,Zh164]
theorem Zo279:Holds EE (279,Zk279):=by
 refine holds_of EE_ok func279 Zk279 (by kernel_rfl) Zu279 (us_ok _) Za279 (fun(s:ByteArray) hp hb=> ?_)
 have hl_s:=bdS (s:=s) (hb _ m0)
 clear hp hb
 apply @ve _ (bif decide ((↑(ByteArray.size s):Int)<(1:Int)) then Lb false (varOk s) else bif decide ((↑(ByteArray.size s):Int)>(12:Int)) then Lb false (varOk s) else(0:Int)≤(0:Int)∧Int.toNat (0:Int)<ByteArray.size s∧bif !largeB (↑(UInt8.toNat (List.getD s.data.toList (Int.toNat (0:Int)) (0:UInt8))):Int) then Lb false (varOk s) else Zi279_4 s ((0:Int),())∧∀(y:Int×PUnit),let x0:Int:=(↑(UInt8.toNat (List.getD s.data.toList y.1.toNat (0:UInt8))):Int);Zi279_4 s y→bif decide (y.1<(↑(ByteArray.size s):Int)) then(0:Int)≤y.1∧y.1.toNat<ByteArray.size s∧bif !wordB x0 then(0:Int)≤y.1∧y.1.toNat<ByteArray.size s∧bif !largeB x0 then Lb false (varOk s) else Zi279_4 s (IntKind.wrap IntKind.i64 (y.1+(1:Int)),())∧Zm279_4 s (IntKind.wrap IntKind.i64 (y.1+(1:Int)),())<Zm279_4 s y else Zi279_4 s (IntKind.wrap IntKind.i64 (y.1+(1:Int)),())∧Zm279_4 s (IntKind.wrap IntKind.i64 (y.1+(1:Int)),())<Zm279_4 s y else Lb true (varOk s)) (by kernel_rfl)
 dsimp only
 have hl:=bs_len s
 simp only[bs_eq]
 refine if_cond (fun h=>Lf_ff ?_) (fun h=>if_cond (fun h'=>Lf_ff ?_) (fun h'=> ?_))
 ·have h:=of_decide_eq_true h;simp only[varOk];rw[decide_eq_false (by omega)];rfl
 ·have h':=of_decide_eq_true h';simp only[varOk];rw[decide_eq_false (by omega)];rfl
 have h:=of_decide_eq_false h
 have h':=of_decide_eq_false h'
 refine⟨by omega,by omega,if_cond (fun g=>Lf_ff ?_) (fun g=>⟨⟨by omega,by omega,by omega,by omega,by simpa using g,rfl⟩,?_⟩)⟩
 ·have g:largeB ((List.getD (bs s) 0 0).toNat:Int)=false:=by simpa using g
  simp only[varOk,g];simp
 rintro⟨i,⟨⟩⟩ ⟨h1,h2,h3,h4,hS,hR⟩
 simp only
 refine if_cond (fun hc=> ?_) (fun hc=> ?_)
 ·have hc:=of_decide_eq_true hc
  rw[all_step _ _ 0 h1 (by omega)] at hR
  rw[wrap_i64 (by omega) (by omega)]
  have hN:(bs s).all (byteP varB)=false→varOk s=false:=fun h=>by simp[varOk,h]
  have hm:Zm279_4 s (i+1,PUnit.unit)<Zm279_4 s (i,()):=by simp only[Zm279_4];omega
  refine⟨by omega,by omega,if_cond (fun h=>⟨by omega,by omega,if_cond (fun h''=>Lf_ff (hN ?_)) (fun h''=>⟨⟨by omega,by omega,h3,h4,hS,?_⟩,hm⟩)⟩) (fun h=>⟨⟨by omega,by omega,h3,h4,hS,?_⟩,hm⟩)⟩
  ·rw[←hR];simp only[byteP,varB];simp at h h'';simp[h,h'']
  ·rw[←hR];simp only[byteP,varB];simp at h h'';simp[h,h'']
  ·rw[←hR];simp only[byteP,varB];simp at h;simp[h]
 ·have hc:=of_decide_eq_false hc
  rw[drop_end _ (by omega)] at hR
  refine Lf_tt ?_
  simp only[varOk,←hR,hS,decide_eq_true (show 1≤s.size∧s.size≤12 from⟨h3,h4⟩)];rfl
def Zh279:HH:=⟨_,Zo279⟩
def Zk283:Con UU where
 α:=DArg
 md:=[.ro]
 of:=o1 (oA .eArg)
 ds:=fun x=>[dA .eArg x]
 pre:=fun _=>[]
 res:=fun a=>⟨[dO (argOk a)],true,[]⟩
 law:=l1 (lA .eArg)
def Za283:Zk283.α→Nat→Option (Ann UU):=fun a=>annL []
def Zu283:=us [Zh307,Zh254]
theorem Zo283:Holds EE (283,Zk283):=by
 refine holds_of EE_ok func283 Zk283 (by kernel_rfl) Zu283 (us_ok _) Za283 (fun(a:DArg) hp hb=> ?_)
 have hz0:=bd_eArg (x:=a) (hb _ m0)
 have hl_a_S:=hz0.1
 have hl_a_V_S:=hz0.2
 clear hp hb
 apply @ve _ (let x0:Bool:=ByteArray.toList a.S==ByteArray.toList {data:= #[]:ByteArray};bif a.K==(1:Int) then bif varOk a.S then Lb (a.V.K==(0:Int)&&(a.V.N==(0:Int)&&(ByteArray.toList a.V.S==ByteArray.toList {data:= #[]:ByteArray}&&true))) (argOk a) else Lb false (argOk a) else bif a.K==(2:Int) then bif valOk a.V then Lb x0 (argOk a) else Lb false (argOk a) else bif a.K==(3:Int) then bif x0 then Lb (a.V.K==(0:Int)&&(a.V.N==(0:Int)&&(ByteArray.toList a.V.S==ByteArray.toList {data:= #[]:ByteArray}&&true))) (argOk a) else Lb false (argOk a) else Lb false (argOk a)) (by kernel_rfl)
 dsimp only
 have ev:∀v:DVal,(v.K==0&&(v.N==0&&(ByteArray.toList v.S==ByteArray.toList {data:= #[]}&&true)))=decide (v=zVal):=fun v=>val_beq v zVal
 have e:∀s:ByteArray,(ByteArray.toList s==ByteArray.toList {data:= #[]})=decide (s=noBytes):=fun s=>toList_beq _ _
 simp only[ev,e,argOk]
 repeat' (refine if_cond (fun h=> ?_) (fun h=> ?_))
 all_goals (refine Lf_b ?_;grind)
def Zh283:HH:=⟨_,Zo283⟩
def Zk237:Con UU where
 α:=DArg
 md:=[.ro]
 of:=o1 (oA .eArg)
 ds:=fun x=>[dA .eArg x]
 pre:=fun _=>[]
 res:=fun a=>⟨[dO (argOk a)],true,[]⟩
 law:=l1 (lA .eArg)
def Za237:Zk237.α→Nat→Option (Ann UU):=fun a=>annL []
def Zu237:=us [Zh279,Zh107]
theorem Zo237:Holds EE (237,Zk237):=by
 refine holds_of EE_ok func237 Zk237 (by kernel_rfl) Zu237 (us_ok _) Za237 (fun(a:DArg) hp hb=> ?_)
 have hz0:=bd_eArg (x:=a) (hb _ m0)
 have hl_a_S:=hz0.1
 have hl_a_V_S:=hz0.2
 clear hp hb
 apply @ve _ (let x0:Bool:=ByteArray.toList a.S==ByteArray.toList {data:= #[]:ByteArray};bif a.K==(1:Int) then bif varOk a.S then Lb (a.V.K==(0:Int)&&(a.V.N==(0:Int)&&(ByteArray.toList a.V.S==ByteArray.toList {data:= #[]:ByteArray}&&true))) (argOk a) else Lb false (argOk a) else bif a.K==(2:Int) then bif x0 then Lb (valOk a.V) (argOk a) else Lb false (argOk a) else bif a.K==(3:Int) then bif x0 then Lb (a.V.K==(0:Int)&&(a.V.N==(0:Int)&&(ByteArray.toList a.V.S==ByteArray.toList {data:= #[]:ByteArray}&&true))) (argOk a) else Lb false (argOk a) else Lb false (argOk a)) (by kernel_rfl)
 dsimp only
 have ev:∀v:DVal,(v.K==0&&(v.N==0&&(ByteArray.toList v.S==ByteArray.toList {data:= #[]}&&true)))=decide (v=zVal):=fun v=>val_beq v zVal
 have e:∀s:ByteArray,(ByteArray.toList s==ByteArray.toList {data:= #[]})=decide (s=noBytes):=fun s=>toList_beq _ _
 simp only[ev,e,argOk]
 repeat' (refine if_cond (fun h=> ?_) (fun h=> ?_))
 all_goals (refine Lf_b ?_;grind)
def Zh237:HH:=⟨_,Zo237⟩
def Zk241:Con UU where
 α:=DPat
 md:=[.ro]
 of:=o1 (oA .ePat)
 ds:=fun x=>[dA .ePat x]
 pre:=fun _=>[]
 res:=fun p=>⟨[dO (patOk p)],true,[]⟩
 law:=l1 (lA .ePat)
def Zi241_2(p:DPat):Int×(ByteArray×List DArg×Bool×Unit)×Unit→Prop:=fun(i,b,_)=>b=(p.Kind,p.Args,p.Not,())∧0≤i∧i≤p.Args.length∧(p.Args.drop i.toNat).all argOk=p.Args.all argOk
def Zm241_2(p:DPat):Int×(ByteArray×List DArg×Bool×Unit)×Unit→Nat:=fun(i,b,_)=>p.Args.length-i.toNat
def Za241:Zk241.α→Nat→Option (Ann UU):=fun p=>annL [(2,annOf [.slot 3 (3,1024) (.lit (.int .i64)),.box 1 (1,1024) [.lit .str,.shr .eArg,.lit .bool]] (fun _=>Zi241_2 p) (Zm241_2 p))]
def Zu241:=us [Zh283,Zh103]
theorem Zo241:Holds EE (241,Zk241):=by
 refine holds_of EE_ok func241 Zk241 (by kernel_rfl) Zu241 (us_ok _) Za241 (fun(p:DPat) hp hb=> ?_)
 have hz0:=bd_ePat (x:=p) (hb _ m0)
 have hl_p_Kind:=hz0.1
 have hl_p_Args:=hz0.2
 clear hp hb
 apply @ve _ (Zi241_2 p ((0:Int),(p.Kind,p.Args,p.Not,()),())∧∀(y:Int×(ByteArray×List DArg×Bool×PUnit)×PUnit),let x1:Nat:=y.2.1.2.1.length;let x0:Int:=(↑x1:Int);Zi241_2 p y→bif decide (y.1<x0) then(0:Int)≤y.1∧y.1.toNat<x1∧bif !argOk (List.getD y.2.1.2.1 y.1.toNat zArg) then Lb false (patOk p) else Zi241_2 p (IntKind.wrap IntKind.i64 (y.1+(1:Int)),(y.2.1.1,y.2.1.2.1,y.2.1.2.2.1,()),())∧Zm241_2 p (IntKind.wrap IntKind.i64 (y.1+(1:Int)),(y.2.1.1,y.2.1.2.1,y.2.1.2.2.1,()),())<Zm241_2 p y else bif nameOk y.2.1.1 then Lb (decide (x0≤(5:Int))) (patOk p) else Lb false (patOk p)) (by kernel_rfl)
 dsimp only
 refine⟨⟨rfl,by omega,by omega,rfl⟩,?_⟩
 rintro⟨i,⟨bk,ba,bn,⟨⟩⟩,⟨⟩⟩ ⟨hbx,h1,h2,hR⟩
 cases hbx
 simp only
 refine if_cond (fun hc=> ?_) (fun hc=> ?_)
 ·have hc:=of_decide_eq_true hc
  rw[all_step _ _ zArg h1 (by omega)] at hR
  rw[wrap_i64 (by omega) (by omega)]
  refine⟨by omega,by omega,if_cond (fun h=>Lf_ff ?_) (fun h=>⟨⟨rfl,by omega,by omega,?_⟩,?_⟩)⟩
  ·simp only[patOk,←hR];simp at h;simp[h]
  ·rw[←hR];simp at h;simp[h]
  ·simp only[Zm241_2];omega
 ·have hc:=of_decide_eq_false hc
  rw[drop_end _ (by omega)] at hR
  simp only[patOk,←hR,zes]
  repeat' (refine if_cond (fun h=> ?_) (fun h=> ?_))
  all_goals (refine Lf_b ?_;grind)
def Zh241:HH:=⟨_,Zo241⟩
def Zk165:Con UU where
 α:=DPat
 md:=[.ro]
 of:=o1 (oA .ePat)
 ds:=fun x=>[dA .ePat x]
 pre:=fun _=>[]
 res:=fun p=>⟨[dO (patOk p)],true,[]⟩
 law:=l1 (lA .ePat)
def Zi165_4(p:DPat):Int×Unit→Prop:=fun(i,_)=>0≤i∧i≤p.Args.length∧p.Args.length≤5∧nameOk p.Kind=true∧(p.Args.drop i.toNat).all argOk=p.Args.all argOk
def Zm165_4(p:DPat):Int×Unit→Nat:=fun(i,_)=>p.Args.length-i.toNat
def Za165:Zk165.α→Nat→Option (Ann UU):=fun p=>annL [(4,annOf [.slot 18 (18,1024) (.lit (.int .i64))] (fun _=>Zi165_4 p) (Zm165_4 p))]
def Zu165:=us [Zh237,Zh33]
theorem Zo165:Holds EE (165,Zk165):=by
 refine holds_of EE_ok func165 Zk165 (by kernel_rfl) Zu165 (us_ok _) Za165 (fun(p:DPat) hp hb=> ?_)
 have hz0:=bd_ePat (x:=p) (hb _ m0)
 have hl_p_Kind:=hz0.1
 have hl_p_Args:=hz0.2
 clear hp hb
 apply @ve _ (let x0:Int:=(p.Args.length:Int);bif !nameOk p.Kind then Lb false (patOk p) else bif decide (x0>(5:Int)) then Lb false (patOk p) else Zi165_4 p ((0:Int),())∧∀(y:Int×PUnit),Zi165_4 p y→bif decide (y.1<x0) then(0:Int)≤y.1∧y.1.toNat<p.Args.length∧bif !argOk (List.getD p.Args y.1.toNat zArg) then Lb false (patOk p) else Zi165_4 p (IntKind.wrap IntKind.i64 (y.1+(1:Int)),())∧Zm165_4 p (IntKind.wrap IntKind.i64 (y.1+(1:Int)),())<Zm165_4 p y else Lb true (patOk p)) (by kernel_rfl)
 dsimp only
 refine if_cond (fun h=>Lf_ff ?_) (fun h=>if_cond (fun h'=>Lf_ff ?_) (fun h'=> ?_))
 ·simp only[patOk];simp at h;simp[h]
 ·have h':=of_decide_eq_true h';simp only[patOk];rw[decide_eq_false (show¬p.Args.length≤5 by omega)];simp
 have h':=of_decide_eq_false h'
 refine⟨⟨by omega,by omega,by omega,by simpa using h,rfl⟩,?_⟩
 rintro⟨i,⟨⟩⟩ ⟨h1,h2,h3,h4,hR⟩
 simp only
 refine if_cond (fun hc=> ?_) (fun hc=> ?_)
 ·have hc:=of_decide_eq_true hc
  rw[all_step _ _ zArg h1 (by omega)] at hR
  rw[wrap_i64 (by omega) (by omega)]
  refine⟨by omega,by omega,if_cond (fun h=>Lf_ff ?_) (fun h=>⟨⟨by omega,by omega,h3,h4,?_⟩,?_⟩)⟩
  ·simp only[patOk,←hR];simp at h;simp[h]
  ·rw[←hR];simp at h;simp[h]
  ·simp only[Zm165_4];omega
 ·have hc:=of_decide_eq_false hc
  rw[drop_end _ (by omega)] at hR
  refine Lf_tt ?_
  simp only[patOk,←hR,h4,decide_eq_true h3];rfl
def Zh165:HH:=⟨_,Zo165⟩
def Zk166:Con UU where
 α:=DArg
 md:=[.ro]
 of:=o1 (oA .eArg)
 ds:=fun x=>[dA .eArg x]
 pre:=fun _=>[]
 res:=fun a=>⟨[dO (termOk a)],true,[]⟩
 law:=l1 (lA .eArg)
def Za166:Zk166.α→Nat→Option (Ann UU):=fun a=>annL []
def Zu166:=us [Zh237]
theorem Zo166:Holds EE (166,Zk166):=by
 refine holds_of EE_ok func166 Zk166 (by kernel_rfl) Zu166 (us_ok _) Za166 (fun(a:DArg) hp hb=> ?_)
 have hz0:=bd_eArg (x:=a) (hb _ m0)
 have hl_a_S:=hz0.1
 have hl_a_V_S:=hz0.2
 clear hp hb
 apply @ve _ (bif a.K !=(3:Int) then Lb (argOk a) (termOk a) else Lb false (termOk a)) (by kernel_rfl)
 simp only[termOk]
 repeat' (refine if_cond (fun h=> ?_) (fun h=> ?_))
 all_goals (refine Lf_b ?_;grind)
def Zh166:HH:=⟨_,Zo166⟩
def Zk315:Con UU where
 α:=DArg
 md:=[.ro]
 of:=o1 (oA .eArg)
 ds:=fun x=>[dA .eArg x]
 pre:=fun _=>[]
 res:=fun a=>⟨[dO (termOk a)],true,[]⟩
 law:=l1 (lA .eArg)
def Za315:Zk315.α→Nat→Option (Ann UU):=fun a=>annL []
def Zu315:=us [Zh283]
theorem Zo315:Holds EE (315,Zk315):=by
 refine holds_of EE_ok func315 Zk315 (by kernel_rfl) Zu315 (us_ok _) Za315 (fun(a:DArg) hp hb=> ?_)
 have hz0:=bd_eArg (x:=a) (hb _ m0)
 have hl_a_S:=hz0.1
 have hl_a_V_S:=hz0.2
 clear hp hb
 apply @ve _ (bif argOk a then Lb (a.K !=(3:Int)) (termOk a) else Lb false (termOk a)) (by kernel_rfl)
 simp only[termOk]
 repeat' (refine if_cond (fun h=> ?_) (fun h=> ?_))
 all_goals (refine Lf_b ?_;grind)
def Zh315:HH:=⟨_,Zo315⟩
def Zk242:Con UU where
 α:=DCond
 md:=[.ro]
 of:=o1 (oA .eCond)
 ds:=fun x=>[dA .eCond x]
 pre:=fun _=>[]
 res:=fun c=>⟨[dO (kondOk c)],true,[]⟩
 law:=l1 (lA .eCond)
def Za242:Zk242.α→Nat→Option (Ann UU):=fun c=>annL []
def Zu242:=us [Zh104,Zh283]
theorem Zo242:Holds EE (242,Zk242):=by
 refine holds_of EE_ok func242 Zk242 (by kernel_rfl) Zu242 (us_ok _) Za242 (fun(c:DCond) hp hb=> ?_)
 have hz0:=bd_eCond (x:=c) (hb _ m0)
 have hl_c_L_S:=hz0.1
 have hl_c_L_V_S:=hz0.2.1
 have hl_c_R_S:=hz0.2.2.1
 have hl_c_R_V_S:=hz0.2.2.2
 clear hp hb
 apply @ve _ (bif decide ((1:Int)≤c.Op∧c.Op≤(3:Int)) then bif argOk c.L then bif argOk c.R then bif c.L.K !=(3:Int) then Lb (c.R.K !=(3:Int)) (kondOk c) else Lb false (kondOk c) else Lb false (kondOk c) else Lb false (kondOk c) else Lb false (kondOk c)) (by kernel_rfl)
 simp only[kondOk,termOk]
 repeat' (refine if_cond (fun h=> ?_) (fun h=> ?_))
 all_goals (refine Lf_b ?_;grind)
def Zh242:HH:=⟨_,Zo242⟩
def Zk91:Con UU where
 α:=DCond
 md:=[.ro]
 of:=o1 (oA .eCond)
 ds:=fun x=>[dA .eCond x]
 pre:=fun _=>[]
 res:=fun c=>⟨[dO (kondOk c)],true,[]⟩
 law:=l1 (lA .eCond)
def Za91:Zk91.α→Nat→Option (Ann UU):=fun c=>annL []
def Zu91:=us [Zh34,Zh166]
theorem Zo91:Holds EE (91,Zk91):=by
 refine holds_of EE_ok func91 Zk91 (by kernel_rfl) Zu91 (us_ok _) Za91 (fun(c:DCond) hp hb=> ?_)
 have hz0:=bd_eCond (x:=c) (hb _ m0)
 have hl_c_L_S:=hz0.1
 have hl_c_L_V_S:=hz0.2.1
 have hl_c_R_S:=hz0.2.2.1
 have hl_c_R_V_S:=hz0.2.2.2
 clear hp hb
 apply @ve _ (bif decide ((1:Int)≤c.Op∧c.Op≤(3:Int)) then bif termOk c.L then Lb (termOk c.R) (kondOk c) else Lb false (kondOk c) else Lb false (kondOk c)) (by kernel_rfl)
 simp only[kondOk]
 repeat' (refine if_cond (fun h=> ?_) (fun h=> ?_))
 all_goals (refine Lf_b ?_;grind)
def Zh91:HH:=⟨_,Zo91⟩
def Zk308:Con UU where
 α:=DExpr
 md:=[.ro]
 of:=o1 (oA .eExpr)
 ds:=fun x=>[dA .eExpr x]
 pre:=fun _=>[]
 res:=fun e=>⟨[dO (exprOk e)],true,[]⟩
 law:=l1 (lA .eExpr)
def Za308:Zk308.α→Nat→Option (Ann UU):=fun e=>annL []
def Zu308:=us [Zh315]
theorem Zo308:Holds EE (308,Zk308):=by
 refine holds_of EE_ok func308 Zk308 (by kernel_rfl) Zu308 (us_ok _) Za308 (fun(e:DExpr) hp hb=> ?_)
 have hz0:=bd_eExpr (x:=e) (hb _ m0)
 have hl_e_Op:=hz0.1
 have hl_e_L_S:=hz0.2.1
 have hl_e_L_V_S:=hz0.2.2.1
 have hl_e_R_S:=hz0.2.2.2.1
 have hl_e_R_V_S:=hz0.2.2.2.2
 clear hp hb
 apply @ve _ (let x0:Bool:=ByteArray.toList e.Op==ByteArray.toList {data:= #[(43:UInt8)]:ByteArray};bif ByteArray.toList e.Op==ByteArray.toList {data:= #[]:ByteArray} then bif termOk e.L then Lb (e.R.K==(0:Int)&&(ByteArray.toList e.R.S==ByteArray.toList {data:= #[]:ByteArray}&&(e.R.V.K==(0:Int)&&(e.R.V.N==(0:Int)&&(ByteArray.toList e.R.V.S==ByteArray.toList {data:= #[]:ByteArray}&&true))&&true))) (exprOk e) else Lb false (exprOk e) else bif x0 then bif x0 then bif termOk e.L then Lb (termOk e.R) (exprOk e) else Lb false (exprOk e) else Lb false (exprOk e) else bif ByteArray.toList e.Op==ByteArray.toList {data:= #[(45:UInt8)]:ByteArray} then bif termOk e.L then Lb (termOk e.R) (exprOk e) else Lb false (exprOk e) else Lb false (exprOk e)) (by kernel_rfl)
 dsimp only
 have e:∀s:ByteArray,(ByteArray.toList s==ByteArray.toList {data:= #[]})=decide (s=noBytes):=fun s=>toList_beq _ _
 have ea:∀a:DArg,(a.K==0&&(ByteArray.toList a.S==ByteArray.toList {data:= #[]}&&(a.V.K==0&&(a.V.N==0&&(ByteArray.toList a.V.S==ByteArray.toList {data:= #[]}&&true))&&true)))=decide (a=zArg):=fun a=>argR_beq a zArg
 have e1:∀s:ByteArray,(ByteArray.toList s==ByteArray.toList {data:= #[43]})=decide (s=bPlus):=fun s=>toList_beq _ _
 have e2:∀s:ByteArray,(ByteArray.toList s==ByteArray.toList {data:= #[45]})=decide (s=bMinus):=fun s=>toList_beq _ _
 simp only[ea]
 simp only[e,e1,e2,exprOk]
 repeat' (refine if_cond (fun h=> ?_) (fun h=> ?_))
 all_goals (refine Lf_b ?_;grind)
def Zh308:HH:=⟨_,Zo308⟩
def Zk238:Con UU where
 α:=DExpr
 md:=[.ro]
 of:=o1 (oA .eExpr)
 ds:=fun x=>[dA .eExpr x]
 pre:=fun _=>[]
 res:=fun e=>⟨[dO (exprOk e)],true,[]⟩
 law:=l1 (lA .eExpr)
def Za238:Zk238.α→Nat→Option (Ann UU):=fun e=>annL []
def Zu238:=us [Zh166]
theorem Zo238:Holds EE (238,Zk238):=by
 refine holds_of EE_ok func238 Zk238 (by kernel_rfl) Zu238 (us_ok _) Za238 (fun(e:DExpr) hp hb=> ?_)
 have hz0:=bd_eExpr (x:=e) (hb _ m0)
 have hl_e_Op:=hz0.1
 have hl_e_L_S:=hz0.2.1
 have hl_e_L_V_S:=hz0.2.2.1
 have hl_e_R_S:=hz0.2.2.2.1
 have hl_e_R_V_S:=hz0.2.2.2.2
 clear hp hb
 apply @ve _ (let x0:Bool:=ByteArray.toList e.Op==ByteArray.toList {data:= #[(43:UInt8)]:ByteArray};bif ByteArray.toList e.Op==ByteArray.toList {data:= #[]:ByteArray} then bif termOk e.L then Lb (e.R.K==(0:Int)&&(ByteArray.toList e.R.S==ByteArray.toList {data:= #[]:ByteArray}&&(e.R.V.K==(0:Int)&&(e.R.V.N==(0:Int)&&(ByteArray.toList e.R.V.S==ByteArray.toList {data:= #[]:ByteArray}&&true))&&true))) (exprOk e) else Lb false (exprOk e) else bif x0 then bif x0 then bif termOk e.L then Lb (termOk e.R) (exprOk e) else Lb false (exprOk e) else Lb false (exprOk e) else bif ByteArray.toList e.Op==ByteArray.toList {data:= #[(45:UInt8)]:ByteArray} then bif termOk e.L then Lb (termOk e.R) (exprOk e) else Lb false (exprOk e) else Lb false (exprOk e)) (by kernel_rfl)
 dsimp only
 have e:∀s:ByteArray,(ByteArray.toList s==ByteArray.toList {data:= #[]})=decide (s=noBytes):=fun s=>toList_beq _ _
 have ea:∀a:DArg,(a.K==0&&(ByteArray.toList a.S==ByteArray.toList {data:= #[]}&&(a.V.K==0&&(a.V.N==0&&(ByteArray.toList a.V.S==ByteArray.toList {data:= #[]}&&true))&&true)))=decide (a=zArg):=fun a=>argR_beq a zArg
 have e1:∀s:ByteArray,(ByteArray.toList s==ByteArray.toList {data:= #[43]})=decide (s=bPlus):=fun s=>toList_beq _ _
 have e2:∀s:ByteArray,(ByteArray.toList s==ByteArray.toList {data:= #[45]})=decide (s=bMinus):=fun s=>toList_beq _ _
 simp only[ea]
 simp only[e,e1,e2,exprOk]
 repeat' (refine if_cond (fun h=> ?_) (fun h=> ?_))
 all_goals (refine Lf_b ?_;grind)
def Zh238:HH:=⟨_,Zo238⟩
def Zk284:Con UU where
 α:=(List DExpr)
 md:=[.ro]
 of:=o1 (oL .eExpr)
 ds:=fun x=>[dL .eExpr x]
 pre:=fun _=>[]
 res:=fun es=>⟨[dO (exprsOk es)],true,[]⟩
 law:=l1 (lL .eExpr)
def Zi284_2(es:(List DExpr)):Int×Unit→Prop:=fun(i,_)=>0≤i∧i≤es.length∧(es.drop i.toNat).all exprOk=es.all exprOk
def Zm284_2(es:(List DExpr)):Int×Unit→Nat:=fun(i,_)=>es.length-i.toNat
def Za284:Zk284.α→Nat→Option (Ann UU):=fun es=>annL [(2,annOf [.slot 3 (3,1024) (.lit (.int .i64))] (fun _=>Zi284_2 es) (Zm284_2 es))]
def Zu284:=us [Zh308]
theorem Zo284:Holds EE (284,Zk284):=by
 refine holds_of EE_ok func284 Zk284 (by kernel_rfl) Zu284 (us_ok _) Za284 (fun(es:(List DExpr)) hp hb=> ?_)
 have hl_es:es.length≤9223372036854775807:=bdL (hb _ m0)
 clear hp hb
 apply @ve _ (let x0:Int:=(es.length:Int);Zi284_2 es ((0:Int),())∧∀(y:Int×PUnit),Zi284_2 es y→bif decide (y.1<x0) then(0:Int)≤y.1∧y.1.toNat<es.length∧bif !exprOk (List.getD es y.1.toNat zExpr) then Lb false (exprsOk es) else Zi284_2 es (IntKind.wrap IntKind.i64 (y.1+(1:Int)),())∧Zm284_2 es (IntKind.wrap IntKind.i64 (y.1+(1:Int)),())<Zm284_2 es y else Lb (decide (x0≤(5:Int))) (exprsOk es)) (by kernel_rfl)
 dsimp only
 refine⟨⟨by omega,by omega,rfl⟩,?_⟩
 rintro⟨i,⟨⟩⟩ ⟨h1,h2,hR⟩
 simp only
 refine if_cond (fun hc=> ?_) (fun hc=> ?_)
 ·have hc:=of_decide_eq_true hc
  rw[all_step _ _ zExpr h1 (by omega)] at hR
  rw[wrap_i64 (by omega) (by omega)]
  refine⟨by omega,by omega,if_cond (fun h=>Lf_ff ?_) (fun h=>⟨⟨by omega,by omega,?_⟩,?_⟩)⟩
  ·simp only[exprsOk,←hR];simp at h;simp[h]
  ·rw[←hR];simp at h;simp[h]
  ·simp only[Zm284_2];omega
 ·have hc:=of_decide_eq_false hc
  rw[drop_end _ (by omega)] at hR
  refine Lf_b ?_
  simp only[exprsOk,←hR];simp;omega
def Zh284:HH:=⟨_,Zo284⟩
def Zk167:Con UU where
 α:=DAct
 md:=[.ro]
 of:=o1 (oA .eAct)
 ds:=fun x=>[dA .eAct x]
 pre:=fun _=>[]
 res:=fun a=>⟨[dO (nameOk a.Name&&exprsOk a.Args)],true,[]⟩
 law:=l1 (lA .eAct)
def Zi167_4(a:DAct):Int×Unit→Prop:=fun(i,_)=>0≤i∧i≤a.Args.length∧a.Args.length≤5∧nameOk a.Name=true∧(a.Args.drop i.toNat).all exprOk=a.Args.all exprOk
def Zm167_4(a:DAct):Int×Unit→Nat:=fun(i,_)=>a.Args.length-i.toNat
def Za167:Zk167.α→Nat→Option (Ann UU):=fun a=>annL [(4,annOf [.slot 18 (18,1024) (.lit (.int .i64))] (fun _=>Zi167_4 a) (Zm167_4 a))]
def Zu167:=us [Zh238,Zh33]
theorem Zo167:Holds EE (167,Zk167):=by
 refine holds_of EE_ok func167 Zk167 (by kernel_rfl) Zu167 (us_ok _) Za167 (fun(a:DAct) hp hb=> ?_)
 have hz0:=bd_eAct (x:=a) (hb _ m0)
 have hl_a_Name:=hz0.1
 have hl_a_Args:=hz0.2.1
 have hl_a_Undo:=hz0.2.2
 clear hp hb
 apply @ve _ (let x0:Int:=(a.Args.length:Int);bif !nameOk a.Name then Lb false (nameOk a.Name&&exprsOk a.Args) else bif decide (x0>(5:Int)) then Lb false (nameOk a.Name&&exprsOk a.Args) else Zi167_4 a ((0:Int),())∧∀(y:Int×PUnit),Zi167_4 a y→bif decide (y.1<x0) then(0:Int)≤y.1∧y.1.toNat<a.Args.length∧bif !exprOk (List.getD a.Args y.1.toNat zExpr) then Lb false (nameOk a.Name&&exprsOk a.Args) else Zi167_4 a (IntKind.wrap IntKind.i64 (y.1+(1:Int)),())∧Zm167_4 a (IntKind.wrap IntKind.i64 (y.1+(1:Int)),())<Zm167_4 a y else Lb true (nameOk a.Name&&exprsOk a.Args)) (by kernel_rfl)
 dsimp only
 refine if_cond (fun h=>Lf_ff ?_) (fun h=>if_cond (fun h'=>Lf_ff ?_) (fun h'=> ?_))
 ·simp at h;simp[h]
 ·have h':=of_decide_eq_true h';simp only[exprsOk];rw[decide_eq_false (show¬a.Args.length≤5 by omega)];simp
 have h':=of_decide_eq_false h'
 refine⟨⟨by omega,by omega,by omega,by simpa using h,rfl⟩,?_⟩
 rintro⟨i,⟨⟩⟩ ⟨h1,h2,h3,h4,hR⟩
 simp only
 refine if_cond (fun hc=> ?_) (fun hc=> ?_)
 ·have hc:=of_decide_eq_true hc
  rw[all_step _ _ zExpr h1 (by omega)] at hR
  rw[wrap_i64 (by omega) (by omega)]
  refine⟨by omega,by omega,if_cond (fun h=>Lf_ff ?_) (fun h=>⟨⟨by omega,by omega,h3,h4,?_⟩,?_⟩)⟩
  ·simp only[exprsOk,←hR];simp at h;simp[h]
  ·rw[←hR];simp at h;simp[h]
  ·simp only[Zm167_4];omega
 ·have hc:=of_decide_eq_false hc
  rw[drop_end _ (by omega)] at hR
  refine Lf_tt ?_
  simp only[exprsOk,←hR,h4,decide_eq_true h3];rfl
def Zh167:HH:=⟨_,Zo167⟩
def Zk243:Con UU where
 α:=DAct
 md:=[.ro]
 of:=o1 (oA .eAct)
 ds:=fun x=>[dA .eAct x]
 pre:=fun _=>[]
 res:=fun a=>⟨[dO (actOk a)],true,[]⟩
 law:=l1 (lA .eAct)
def Za243:Zk243.α→Nat→Option (Ann UU):=fun a=>annL []
def Zu243:=us [Zh104,Zh103,Zh284]
theorem Zo243:Holds EE (243,Zk243):=by
 refine holds_of EE_ok func243 Zk243 (by kernel_rfl) Zu243 (us_ok _) Za243 (fun(a:DAct) hp hb=> ?_)
 have hz0:=bd_eAct (x:=a) (hb _ m0)
 have hl_a_Name:=hz0.1
 have hl_a_Args:=hz0.2.1
 have hl_a_Undo:=hz0.2.2
 clear hp hb
 apply @ve _ (let x0:Bool:=ByteArray.toList a.Undo==ByteArray.toList {data:= #[]:ByteArray};let x1:Bool:=a.Kind==(5:Int);let x2:Bool:=a.N==(0:Int);bif ByteArray.toList a.Name==ByteArray.toList {data:= #[]:ByteArray} then bif (a.Args.length:Int)==(0:Int) then bif a.Kind==(1:Int) then bif nameOk a.Name then bif exprsOk a.Args then bif x2 then Lb x0 (actOk a) else Lb false (actOk a) else Lb false (actOk a) else Lb false (actOk a) else bif a.Kind==(3:Int) then bif nameOk a.Name then bif exprsOk a.Args then bif x2 then bif x0 then Lb true (actOk a) else Lb (nameOk a.Undo) (actOk a) else Lb false (actOk a) else Lb false (actOk a) else Lb false (actOk a) else bif a.Kind==(4:Int) then bif nameOk a.Name then bif exprsOk a.Args then bif decide ((0:Int)≤a.N∧a.N≤(100000:Int)) then Lb x0 (actOk a) else Lb false (actOk a) else Lb false (actOk a) else Lb false (actOk a) else bif a.Kind==(2:Int) then bif x0 then Lb (decide ((0:Int)≤a.N∧a.N≤(7:Int))) (actOk a) else Lb false (actOk a) else bif x1 then bif x1 then bif x0 then Lb x2 (actOk a) else Lb false (actOk a) else Lb false (actOk a) else bif a.Kind==(6:Int) then bif x0 then Lb x2 (actOk a) else Lb false (actOk a) else Lb false (actOk a) else bif a.Kind==(1:Int) then bif nameOk a.Name then bif exprsOk a.Args then bif x2 then Lb x0 (actOk a) else Lb false (actOk a) else Lb false (actOk a) else Lb false (actOk a) else bif a.Kind==(3:Int) then bif nameOk a.Name then bif exprsOk a.Args then bif x2 then bif x0 then Lb true (actOk a) else Lb (nameOk a.Undo) (actOk a) else Lb false (actOk a) else Lb false (actOk a) else Lb false (actOk a) else bif a.Kind==(4:Int) then bif nameOk a.Name then bif exprsOk a.Args then bif decide ((0:Int)≤a.N∧a.N≤(100000:Int)) then Lb x0 (actOk a) else Lb false (actOk a) else Lb false (actOk a) else Lb false (actOk a) else bif a.Kind==(2:Int) then Lb false (actOk a) else bif x1 then bif x1 then Lb false (actOk a) else Lb false (actOk a) else bif a.Kind==(6:Int) then Lb false (actOk a) else Lb false (actOk a) else bif a.Kind==(1:Int) then bif nameOk a.Name then bif exprsOk a.Args then bif x2 then Lb x0 (actOk a) else Lb false (actOk a) else Lb false (actOk a) else Lb false (actOk a) else bif a.Kind==(3:Int) then bif nameOk a.Name then bif exprsOk a.Args then bif x2 then bif x0 then Lb true (actOk a) else Lb (nameOk a.Undo) (actOk a) else Lb false (actOk a) else Lb false (actOk a) else Lb false (actOk a) else bif a.Kind==(4:Int) then bif nameOk a.Name then bif exprsOk a.Args then bif decide ((0:Int)≤a.N∧a.N≤(100000:Int)) then Lb x0 (actOk a) else Lb false (actOk a) else Lb false (actOk a) else Lb false (actOk a) else bif a.Kind==(2:Int) then Lb false (actOk a) else bif x1 then bif x1 then Lb false (actOk a) else Lb false (actOk a) else bif a.Kind==(6:Int) then Lb false (actOk a) else Lb false (actOk a)) (by kernel_rfl)
 dsimp only
 have e:∀s:ByteArray,(ByteArray.toList s==ByteArray.toList {data:= #[]})=decide (s=noBytes):=fun s=>toList_beq _ _
 simp only[e,actOk,bareA,undoOk]
 repeat' (refine if_cond (fun h=> ?_) (fun h=> ?_))
 all_goals (refine Lf_b ?_;grind)
def Zh243:HH:=⟨_,Zo243⟩
def Zk92:Con UU where
 α:=DAct
 md:=[.ro]
 of:=o1 (oA .eAct)
 ds:=fun x=>[dA .eAct x]
 pre:=fun _=>[]
 res:=fun a=>⟨[dO (actOk a)],true,[]⟩
 law:=l1 (lA .eAct)
def Za92:Zk92.α→Nat→Option (Ann UU):=fun a=>annL []
def Zu92:=us [Zh34,Zh167,Zh43]
theorem Zo92:Holds EE (92,Zk92):=by
 refine holds_of EE_ok func92 Zk92 (by kernel_rfl) Zu92 (us_ok _) Za92 (fun(a:DAct) hp hb=> ?_)
 have hz0:=bd_eAct (x:=a) (hb _ m0)
 have hl_a_Name:=hz0.1
 have hl_a_Args:=hz0.2.1
 have hl_a_Undo:=hz0.2.2
 clear hp hb
 apply @ve _ (let x0:Bool:=a.Kind==(5:Int);let x1:Bool:=nameOk a.Name&&exprsOk a.Args;bif ByteArray.toList a.Name==ByteArray.toList {data:= #[]:ByteArray} then bif a.Kind==(1:Int) then bif x1 then bif a.N==(0:Int) then Lb (ByteArray.toList a.Undo==ByteArray.toList {data:= #[]:ByteArray}) (actOk a) else Lb false (actOk a) else Lb false (actOk a) else bif a.Kind==(2:Int) then bif (a.Args.length:Int)==(0:Int) then bif decide ((0:Int)≤a.N∧a.N≤(7:Int)) then Lb (ByteArray.toList a.Undo==ByteArray.toList {data:= #[]:ByteArray}) (actOk a) else Lb false (actOk a) else Lb false (actOk a) else bif a.Kind==(3:Int) then bif x1 then bif a.N==(0:Int) then Lb (undoOk a.Undo) (actOk a) else Lb false (actOk a) else Lb false (actOk a) else bif a.Kind==(4:Int) then bif x1 then bif decide ((0:Int)≤a.N∧a.N≤(100000:Int)) then Lb (ByteArray.toList a.Undo==ByteArray.toList {data:= #[]:ByteArray}) (actOk a) else Lb false (actOk a) else Lb false (actOk a) else bif x0 then bif x0 then bif (a.Args.length:Int)==(0:Int) then bif a.N==(0:Int) then Lb (ByteArray.toList a.Undo==ByteArray.toList {data:= #[]:ByteArray}) (actOk a) else Lb false (actOk a) else Lb false (actOk a) else Lb false (actOk a) else bif a.Kind==(6:Int) then bif (a.Args.length:Int)==(0:Int) then bif a.N==(0:Int) then Lb (ByteArray.toList a.Undo==ByteArray.toList {data:= #[]:ByteArray}) (actOk a) else Lb false (actOk a) else Lb false (actOk a) else Lb false (actOk a) else bif a.Kind==(1:Int) then bif x1 then bif a.N==(0:Int) then Lb (ByteArray.toList a.Undo==ByteArray.toList {data:= #[]:ByteArray}) (actOk a) else Lb false (actOk a) else Lb false (actOk a) else bif a.Kind==(2:Int) then Lb false (actOk a) else bif a.Kind==(3:Int) then bif x1 then bif a.N==(0:Int) then Lb (undoOk a.Undo) (actOk a) else Lb false (actOk a) else Lb false (actOk a) else bif a.Kind==(4:Int) then bif x1 then bif decide ((0:Int)≤a.N∧a.N≤(100000:Int)) then Lb (ByteArray.toList a.Undo==ByteArray.toList {data:= #[]:ByteArray}) (actOk a) else Lb false (actOk a) else Lb false (actOk a) else bif x0 then bif x0 then Lb false (actOk a) else Lb false (actOk a) else bif a.Kind==(6:Int) then Lb false (actOk a) else Lb false (actOk a)) (by kernel_rfl)
 dsimp only
 have e:∀s:ByteArray,(ByteArray.toList s==ByteArray.toList {data:= #[]})=decide (s=noBytes):=fun s=>toList_beq _ _
 simp only[e,actOk,bareA,undoOk]
 repeat' (refine if_cond (fun h=> ?_) (fun h=> ?_))
 all_goals (refine Lf_b ?_;grind)
def Zh92:HH:=⟨_,Zo92⟩
def hasS(l:List ByteArray)(s:ByteArray):Bool:=l.any fun t=>decide (t=s)
theorem hasS_iff{l:List ByteArray}{s:ByteArray}:hasS l s=true↔s∈l:=by
 simp only[hasS,zbb,decide_eq_true_eq]
 exact⟨fun⟨t,h1,h2⟩=>h2▸h1,fun h=>⟨s,h,rfl⟩⟩
def addOnce(l:List ByteArray)(s:ByteArray):List ByteArray:=if hasS l s then l else l++[s]
def addVar(l:List ByteArray)(a:DArg):List ByteArray:=if a.K=1 then addOnce l a.S else l
def addVars(l:List ByteArray)(xs:List DArg):List ByteArray:=xs.foldl addVar l
theorem addOnce_mem{l:List ByteArray}{s t:ByteArray}:t∈addOnce l s↔t∈l∨t=s:=by
 unfold addOnce;split
 ·rename_i h
  exact⟨.inl,fun h'=>h'.elim id (fun e=>e▸hasS_iff.1 h)⟩
 ·simp
theorem addOnce_len(l:List ByteArray)(s:ByteArray):(addOnce l s).length≤l.length+1:=by
 unfold addOnce;split
 ·omega
 ·simp
theorem addVar_mem{l:List ByteArray}{a:DArg}{t:ByteArray}:t∈addVar l a↔t∈l∨(a.K=1∧t=a.S):=by
 unfold addVar;split
 ·rename_i h;rw[addOnce_mem];simp[h]
 ·rename_i h;simp[h]
theorem addVar_len(l:List ByteArray)(a:DArg):(addVar l a).length≤l.length+1:=by
 unfold addVar;split
 ·exact addOnce_len _ _
 ·omega
theorem addVars_mem{t:ByteArray}:∀{xs:List DArg}{l:List ByteArray},t∈addVars l xs↔t∈l∨∃a∈xs,a.K=1∧t=a.S
 |[],l=>by simp[addVars]
 |a::xs,l=>by
  show t∈addVars (addVar l a) xs↔_
  rw[addVars_mem,addVar_mem]
  simp only[zak,exists_eq_or_imp,or_assoc]
theorem addVars_len:∀(xs:List DArg)(l:List ByteArray),(addVars l xs).length≤l.length+xs.length
 |[],l=>zca _
 |a::xs,l=>by
  have h1:=addVars_len xs (addVar l a)
  have h2:=addVar_len l a
  show(addVars (addVar l a) xs).length≤_
  simp only[zbq];omega
theorem addVars_step(l:List ByteArray)(xs:List DArg){i:Int}(h0:0≤i)(h:i<xs.length):addVars l (xs.take (i+1).toNat)=addVar (addVars l (xs.take i.toNat)) (List.getD xs i.toNat zArg):=by
 rw[←take_step xs zArg h0 h]
 simp only[addVars,List.foldl_append,List.foldl_cons,List.foldl_nil]
def posVar(l:List ByteArray)(p:DPat):List ByteArray:=if p.Not then l else addVars l p.Args
def posVars(ps:List DPat):List ByteArray:=ps.foldl posVar []
theorem foldl_step{α β:Type}(f:β→α→β)(b:β)(l:List α)(z:α){i:Int}(h0:0≤i)(h:i<l.length):(l.take (i+1).toNat).foldl f b=f ((l.take i.toNat).foldl f b) (List.getD l i.toNat z):=by
 rw[←take_step l z h0 h]
 simp only[List.foldl_append,List.foldl_cons,List.foldl_nil]
def patArgs(ps:List DPat):Nat:=(ps.map fun p=>p.Args.length).sum
def isBound(ps:List DPat)(t:ByteArray):Prop:=∃p∈ps,p.Not=false∧∃a∈p.Args,a.K=1∧t=a.S
theorem posVar_mem{l:List ByteArray}{p:DPat}{t:ByteArray}:t∈posVar l p↔t∈l∨(p.Not=false∧∃a∈p.Args,a.K=1∧t=a.S):=by
 unfold posVar
 cases h:p.Not
 ·simp only[zbg,if_false];rw[addVars_mem];simp
 ·simp
theorem posVars_mem0{t:ByteArray}:∀{ps:List DPat}{l:List ByteArray},t∈ps.foldl posVar l↔t∈l∨isBound ps t
 |[],l=>by simp[isBound]
 |p::ps,l=>by
  show t∈ps.foldl posVar (posVar l p)↔_
  rw[posVars_mem0,posVar_mem]
  simp only[isBound,zak,exists_eq_or_imp,or_assoc]
theorem posVars_mem{ps:List DPat}{t:ByteArray}:t∈posVars ps↔isBound ps t:=by
 unfold posVars;rw[posVars_mem0];simp
theorem posVars_len0:∀(ps:List DPat)(l:List ByteArray),(ps.foldl posVar l).length≤l.length+patArgs ps
 |[],l=>zca _
 |p::ps,l=>by
  have h1:=posVars_len0 ps (posVar l p)
  have h2:(posVar l p).length≤l.length+p.Args.length:=by
   unfold posVar;split
   ·omega
   ·exact addVars_len _ _
  show(ps.foldl posVar (posVar l p)).length≤_
  simp only[patArgs,zbt,zdc] at h1⊢;omega
def posVarS(l:List ByteArray)(p:DPat):List ByteArray:=if p.Not then l else(addVars [] p.Args).foldl addOnce l
def posVarsS(ps:List DPat):List ByteArray:=ps.foldl posVarS []
theorem foldOnce_mem{t:ByteArray}:∀{xs l:List ByteArray},t∈xs.foldl addOnce l↔t∈l∨t∈xs
 |[],l=>by simp
 |a::xs,l=>by
  show t∈xs.foldl addOnce (addOnce l a)↔_
  rw[foldOnce_mem,addOnce_mem,zak,or_assoc]
theorem foldOnce_len:∀(xs l:List ByteArray),(xs.foldl addOnce l).length≤l.length+xs.length
 |[],l=>zca _
 |a::xs,l=>by
  have h1:=foldOnce_len xs (addOnce l a)
  have h2:=addOnce_len l a
  show(xs.foldl addOnce (addOnce l a)).length≤_
  simp only[zbq];omega
theorem posVarS_mem{l:List ByteArray}{p:DPat}{t:ByteArray}:t∈posVarS l p↔t∈l∨(p.Not=false∧∃a∈p.Args,a.K=1∧t=a.S):=by
 unfold posVarS
 cases h:p.Not
 ·simp only[zbg,if_false];rw[foldOnce_mem,addVars_mem];simp
 ·simp
theorem posVarsS_mem0{t:ByteArray}:∀{ps:List DPat}{l:List ByteArray},t∈ps.foldl posVarS l↔t∈l∨isBound ps t
 |[],l=>by simp[isBound]
 |p::ps,l=>by
  show t∈ps.foldl posVarS (posVarS l p)↔_
  rw[posVarsS_mem0,posVarS_mem]
  simp only[isBound,zak,exists_eq_or_imp,or_assoc]
theorem posVarsS_mem{ps:List DPat}{t:ByteArray}:t∈posVarsS ps↔isBound ps t:=by
 unfold posVarsS;rw[posVarsS_mem0];simp
theorem posVarsS_len0:∀(ps:List DPat)(l:List ByteArray),(ps.foldl posVarS l).length≤l.length+patArgs ps
 |[],l=>zca _
 |p::ps,l=>by
  have h1:=posVarsS_len0 ps (posVarS l p)
  have h2:(posVarS l p).length≤l.length+p.Args.length:=by
   unfold posVarS;split
   ·omega
   ·have g1:=foldOnce_len (addVars [] p.Args) l
    have g2:=addVars_len p.Args []
    simp only[zbo] at g2;omega
  show(ps.foldl posVarS (posVarS l p)).length≤_
  simp only[patArgs,zbt,zdc] at h1⊢;omega
theorem patArgs_take(ps:List DPat)(n:Nat):patArgs (ps.take n)≤patArgs ps:=by
 have h:=congrArg (fun q=>(q.map fun p:DPat=>p.Args.length).sum) (zcq n ps)
 simp only[zef,zet] at h
 simp only[patArgs];omega
theorem patArgs_at(ps:List DPat){i:Int}(h0:0≤i)(h:i<ps.length):patArgs (ps.take i.toNat)+(List.getD ps i.toNat zPat).Args.length≤patArgs ps:=by
 have h1:=patArgs_take ps (i+1).toNat
 rw[←take_step ps zPat h0 h] at h1
 simp only[patArgs,zef,zet,zbt,List.map_nil,zdc,List.sum_nil] at h1⊢
 omega
def posN(ps:List DPat):Nat:=(ps.filter fun p=> !p.Not).length
theorem hasS_step{l:List ByteArray}{s:ByteArray}{i:Int}(h0:0≤i)(hl:i<l.length)(h:∀j:Nat,(j:Int)<i→¬List.getD l j noBytes=s)(hi:¬List.getD l i.toNat noBytes=s):∀j:Nat,(j:Int)<i+1→¬List.getD l j noBytes=s:=by
 intro j hj
 by_cases hji:(j:Int)<i
 ·exact h j hji
 ·have:j=i.toNat:=by omega
  subst this;exact hi
theorem hasS_no{l:List ByteArray}{s:ByteArray}(h:∀j:Nat,j<l.length→¬List.getD l j noBytes=s):hasS l s=false:=by
 rw[←zbj,hasS_iff]
 intro hm
 obtain⟨j,hj,rfl⟩:=zbk hm
 exact h j hj (by rw[zac,zad hj];rfl)
theorem hasS_yes{l:List ByteArray}{s:ByteArray}{j:Nat}(hj:j<l.length)(h:List.getD l j noBytes=s):hasS l s=true:=by
 rw[hasS_iff,←h,zac,zad hj]
 exact zda hj
theorem posN_step(ps:List DPat){i:Int}(h0:0≤i)(h:i<ps.length):posN (ps.take (i+1).toNat)=posN (ps.take i.toNat)+(if(!(List.getD ps i.toNat zPat).Not)=true then 1 else 0):=by
 rw[←take_step ps zPat h0 h]
 simp only[posN,List.filter_append,zce,List.filter_cons,List.filter_nil]
 split<;>simp
theorem posN_le(ps:List DPat)(n:Nat):posN (ps.take n)≤n:=zde (zdt _ _) (by simp;omega)
def Zk223:Con UU where
 α:=(List ByteArray)×ByteArray
 md:=[.ro,.ro]
 of:=oC (oL .str) (o1 oS)
 ds:=fun x=>[dL .str x.1,dS x.2]
 pre:=fun _=>[]
 res:=fun(l,s)=>⟨[dO (hasS l s)],true,[]⟩
 law:=lC (lL .str) (l1 lS)
def Zi223_2(l:(List ByteArray))(s:ByteArray):Int×Unit→Prop:=fun(i,_)=>0≤i∧i≤l.length∧∀j:Nat,(j:Int)<i→¬List.getD l j noBytes=s
def Zm223_2(l:(List ByteArray))(s:ByteArray):Int×Unit→Nat:=fun(i,_)=>l.length-i.toNat
def Za223:Zk223.α→Nat→Option (Ann UU):=fun(l,s)=>annL [(2,annOf [.slot 5 (5,1024) (.lit (.int .i64))] (fun _=>Zi223_2 l s) (Zm223_2 l s))]
def Zu223:List (FuncId×Con UU):=[]
theorem Zo223:Holds EE (223,Zk223):=by
 refine holds_of EE_ok func223 Zk223 (by kernel_rfl) Zu223 all_nil Za223 (fun x hp hb=> ?_)
 obtain⟨l,s⟩:=x
 have hl_l:l.length≤9223372036854775807:=bdL (hb _ m0)
 have hl_s:=bdS (s:=s) (hb _ m1)
 clear hp hb
 apply @ve _ (Zi223_2 l s ((0:Int),())∧∀(y:Int×PUnit),Zi223_2 l s y→bif decide (y.1<(l.length:Int)) then(0:Int)≤y.1∧y.1.toNat<l.length∧bif ByteArray.toList (List.getD l y.1.toNat noBytes)==ByteArray.toList s then Lb true (hasS l s) else Zi223_2 l s (IntKind.wrap IntKind.i64 (y.1+(1:Int)),())∧Zm223_2 l s (IntKind.wrap IntKind.i64 (y.1+(1:Int)),())<Zm223_2 l s y else Lb false (hasS l s)) (by kernel_rfl)
 refine⟨⟨by omega,by omega,by intro j hj;omega⟩,?_⟩
 rintro⟨i,⟨⟩⟩ ⟨h1,h2,hR⟩
 simp only[toList_beq]
 refine if_cond (fun hc=> ?_) (fun hc=> ?_)
 ·have hc:=of_decide_eq_true hc
  rw[wrap_i64 (by omega) (by omega)]
  refine⟨by omega,by omega,if_cond (fun h=>Lf_tt (hasS_yes (j:=i.toNat) (by omega) (of_decide_eq_true h))) (fun h=>⟨⟨by omega,by omega,hasS_step h1 hc hR (of_decide_eq_false h)⟩,by simp only[Zm223_2];omega⟩)⟩
 ·have hc:=of_decide_eq_false hc
  exact Lf_ff (hasS_no fun j hj=>hR j (by omega))
def Zh223:HH:=⟨_,Zo223⟩
def Zk169:Con UU where
 α:=(List ByteArray)×ByteArray
 md:=[.ro,.ro]
 of:=oC (oL .str) (o1 oS)
 ds:=fun x=>[dL .str x.1,dS x.2]
 pre:=fun _=>[]
 res:=fun(l,s)=>⟨[dI (idxI l.length (fun j=>decide (List.getD l j noBytes=s)))],true,[]⟩
 law:=lC (lL .str) (l1 lS)
def Zi169_2(l:(List ByteArray))(s:ByteArray):Int×Unit→Prop:=fun(i,_)=>0≤i∧i≤l.length∧∀j:Nat,(j:Int)<i→¬List.getD l j noBytes=s
def Zm169_2(l:(List ByteArray))(s:ByteArray):Int×Unit→Nat:=fun(i,_)=>l.length-i.toNat
def Za169:Zk169.α→Nat→Option (Ann UU):=fun(l,s)=>annL [(2,annOf [.slot 8 (8,1024) (.lit (.int .i64))] (fun _=>Zi169_2 l s) (Zm169_2 l s))]
def Zu169:List (FuncId×Con UU):=[]
theorem Zo169:Holds EE (169,Zk169):=by
 refine holds_of EE_ok func169 Zk169 (by kernel_rfl) Zu169 all_nil Za169 (fun x hp hb=> ?_)
 obtain⟨l,s⟩:=x
 have hl_l:l.length≤9223372036854775807:=bdL (hb _ m0)
 have hl_s:=bdS (s:=s) (hb _ m1)
 clear hp hb
 apply @ve _ (Zi169_2 l s ((0:Int),())∧∀(y:Int×PUnit),Zi169_2 l s y→bif decide (y.1<(l.length:Int)) then(0:Int)≤y.1∧y.1.toNat<l.length∧bif ByteArray.toList s==ByteArray.toList (List.getD l y.1.toNat noBytes) then Li y.1 (idxI (l.length) fun(j:Nat)=>decide (List.getD l j noBytes=s)) else Zi169_2 l s (IntKind.wrap IntKind.i64 (y.1+(1:Int)),())∧Zm169_2 l s (IntKind.wrap IntKind.i64 (y.1+(1:Int)),())<Zm169_2 l s y else Li (-1:Int) (idxI (l.length) fun(j:Nat)=>decide (List.getD l j noBytes=s))) (by kernel_rfl)
 refine⟨⟨by omega,by omega,by intro j hj;omega⟩,?_⟩
 rintro⟨i,⟨⟩⟩ ⟨h1,h2,hR⟩
 simp only[toList_beq]
 refine if_cond (fun hc=> ?_) (fun hc=> ?_)
 ·have hc:=of_decide_eq_true hc
  rw[wrap_i64 (by omega) (by omega)]
  refine⟨by omega,by omega,if_cond (fun h=>Lf_i ?_) (fun h=>⟨⟨by omega,by omega,hasS_step h1 hc hR (fun e=>of_decide_eq_false h e.symm)⟩,by simp only[Zm169_2];omega⟩)⟩
  rw[idxI_found (i:=i.toNat) (by omega) (decide_eq_true (of_decide_eq_true h).symm) (fun j hj=>decide_eq_false (hR j (by omega)))]
  omega
 ·have hc:=of_decide_eq_false hc
  exact Lf_i (idxI_none (fun j hj=>decide_eq_false (hR j (by omega)))).symm
def Zh169:HH:=⟨_,Zo169⟩
def Zk96:Con UU where
 α:=(List ByteArray)×ByteArray
 md:=[.ro,.ro]
 of:=oC (oL .str) (o1 oS)
 ds:=fun x=>[dL .str x.1,dS x.2]
 pre:=fun _=>[]
 res:=fun(l,s)=>⟨[dO (hasS l s)],true,[]⟩
 law:=lC (lL .str) (l1 lS)
def Za96:Zk96.α→Nat→Option (Ann UU):=fun(l,s)=>annL []
def Zu96:=us [Zh169]
theorem Zo96:Holds EE (96,Zk96):=by
 refine holds_of EE_ok func96 Zk96 (by kernel_rfl) Zu96 (us_ok _) Za96 (fun x hp hb=> ?_)
 obtain⟨l,s⟩:=x
 have hl_l:l.length≤9223372036854775807:=bdL (hb _ m0)
 have hl_s:=bdS (s:=s) (hb _ m1)
 clear hp hb
 apply @ve _ (let x0:Int:=idxI (l.length) fun(j:Nat)=>decide (List.getD l j noBytes=s);Lb (decide (x0≥(0:Int))) (hasS l s)) (by kernel_rfl)
 dsimp only
 refine Lf_b ?_
 show decide (0≤idxI l.length (fun j=>decide (List.getD l j noBytes=s)))=_
 rw[idxI_ge]
 by_cases h:hasS l s=true
 ·rw[h]
  obtain⟨j,hj,hs⟩:=zbk (hasS_iff.1 h)
  exact anyI_true hj (decide_eq_true (by rw[zac,zad hj];exact hs))
 ·rw[zbj] at h
  rw[h]
  exact anyI_false fun j hj=>decide_eq_false fun e=>absurd (hasS_yes hj e) (by rw[h];decide)
def Zh96:HH:=⟨_,Zo96⟩
def Zk40:Con UU where
 α:=DRule
 md:=[.ro]
 of:=o1 (oA .eRule)
 ds:=fun x=>[dA .eRule x]
 pre:=fun _=>[]
 res:=fun r=>⟨[dI (posN r.Pats:Int)],true,[]⟩
 law:=l1 (lA .eRule)
def Zi40_3(r:DRule):Int×Int×(ByteArray×Int×List DPat×List DCond×List DAct×Unit)×Unit→Prop:=fun(n,i,b,_)=>b=(r.Name,r.Sal,r.Pats,r.Conds,r.Acts,())∧0≤i∧i≤r.Pats.length∧n=posN (r.Pats.take i.toNat)
def Zm40_3(r:DRule):Int×Int×(ByteArray×Int×List DPat×List DCond×List DAct×Unit)×Unit→Nat:=fun(n,i,b,_)=>r.Pats.length-i.toNat
def Za40:Zk40.α→Nat→Option (Ann UU):=fun r=>annL [(3,annOf [.slot 3 (3,1024) (.lit (.int .i64)),.slot 4 (4,1024) (.lit (.int .i64)),.box 1 (1,1024) [.lit .str,.lit (.int .i64),.shr .ePat,.shr .eCond,.shr .eAct]] (fun _=>Zi40_3 r) (Zm40_3 r))]
def Zu40:List (FuncId×Con UU):=[]
theorem Zo40:Holds EE (40,Zk40):=by
 refine holds_of EE_ok func40 Zk40 (by kernel_rfl) Zu40 all_nil Za40 (fun(r:DRule) hp hb=> ?_)
 have hz0:=bd_eRule (x:=r) (hb _ m0)
 have hl_r_Name:=hz0.1
 have hl_r_Pats:=hz0.2.1
 have hl_r_Conds:=hz0.2.2.1
 have hl_r_Acts:=hz0.2.2.2
 clear hp hb
 apply @ve _ (Zi40_3 r ((0:Int),(0:Int),(r.Name,r.Sal,r.Pats,r.Conds,r.Acts,()),())∧∀(y:Int×Int×(ByteArray×Int×List DPat×List DCond×List DAct×PUnit)×PUnit),let x1:Nat:=y.2.2.1.2.2.1.length;let x2:Nat:=y.2.1.toNat;let x0:Int:=(↑x1:Int);Zi40_3 r y→bif decide (y.2.1<x0) then(0:Int)≤y.2.1∧x2<x1∧bif !(List.getD y.2.2.1.2.2.1 x2 zPat).Not then Zi40_3 r (IntKind.wrap IntKind.i64 (y.1+(1:Int)),IntKind.wrap IntKind.i64 (y.2.1+(1:Int)),(y.2.2.1.1,y.2.2.1.2.1,y.2.2.1.2.2.1,y.2.2.1.2.2.2.1,y.2.2.1.2.2.2.2.1,()),())∧Zm40_3 r (IntKind.wrap IntKind.i64 (y.1+(1:Int)),IntKind.wrap IntKind.i64 (y.2.1+(1:Int)),(y.2.2.1.1,y.2.2.1.2.1,y.2.2.1.2.2.1,y.2.2.1.2.2.2.1,y.2.2.1.2.2.2.2.1,()),())<Zm40_3 r y else Zi40_3 r (y.1,IntKind.wrap IntKind.i64 (y.2.1+(1:Int)),(y.2.2.1.1,y.2.2.1.2.1,y.2.2.1.2.2.1,y.2.2.1.2.2.2.1,y.2.2.1.2.2.2.2.1,()),())∧Zm40_3 r (y.1,IntKind.wrap IntKind.i64 (y.2.1+(1:Int)),(y.2.2.1.1,y.2.2.1.2.1,y.2.2.1.2.2.1,y.2.2.1.2.2.2.1,y.2.2.1.2.2.2.2.1,()),())<Zm40_3 r y else Li y.1 (↑(posN r.Pats):Int)) (by kernel_rfl)
 dsimp only
 refine⟨⟨rfl,by omega,by omega,rfl⟩,?_⟩
 rintro⟨n,i,⟨b1,b2,b3,b4,b5,⟨⟩⟩,⟨⟩⟩ ⟨hbx,h1,h2,rfl⟩
 cases hbx
 simp only
 refine if_cond (fun hc=> ?_) (fun hc=> ?_)
 ·have hc:=of_decide_eq_true hc
  have hs:=posN_step r.Pats h1 hc
  have hle:posN (r.Pats.take i.toNat)≤i.toNat:=posN_le _ _
  rw[wrap_i64 (n:=i+1) (by omega) (by omega),wrap_i64 (n:=(posN (r.Pats.take i.toNat):Int)+1) (by omega) (by omega)]
  have hm:i.toNat<r.Pats.length:=by omega
  refine⟨by omega,by omega,if_cond (fun h=>⟨⟨rfl,by omega,by omega,?_⟩,by simp only[Zm40_3];omega⟩) (fun h=>⟨⟨rfl,by omega,by omega,?_⟩,by simp only[Zm40_3];omega⟩)⟩
  ·rw[hs,if_pos h];omega
  ·rw[hs,if_neg (by rw[h];decide)];omega
 ·have hc:=of_decide_eq_false hc
  rw[take_all r.Pats (by omega)]
  exact Lf_rfl _
def Zh40:HH:=⟨_,Zo40⟩
def Zk93:Con UU where
 α:=DRule
 md:=[.ro]
 of:=o1 (oA .eRule)
 ds:=fun x=>[dA .eRule x]
 pre:=fun _=>[]
 res:=fun r=>⟨[dI (posN r.Pats:Int)],true,[]⟩
 law:=l1 (lA .eRule)
def Zi93_3(r:DRule):Int×Int×Unit→Prop:=fun(n,i,_)=>0≤i∧i≤r.Pats.length∧n=posN (r.Pats.take i.toNat)
def Zm93_3(r:DRule):Int×Int×Unit→Nat:=fun(n,i,_)=>r.Pats.length-i.toNat
def Za93:Zk93.α→Nat→Option (Ann UU):=fun r=>annL [(3,annOf [.slot 3 (3,1024) (.lit (.int .i64)),.slot 9 (9,1024) (.lit (.int .i64))] (fun _=>Zi93_3 r) (Zm93_3 r))]
def Zu93:List (FuncId×Con UU):=[]
theorem Zo93:Holds EE (93,Zk93):=by
 refine holds_of EE_ok func93 Zk93 (by kernel_rfl) Zu93 all_nil Za93 (fun(r:DRule) hp hb=> ?_)
 have hz0:=bd_eRule (x:=r) (hb _ m0)
 have hl_r_Name:=hz0.1
 have hl_r_Pats:=hz0.2.1
 have hl_r_Conds:=hz0.2.2.1
 have hl_r_Acts:=hz0.2.2.2
 clear hp hb
 apply @ve _ (Zi93_3 r ((0:Int),(0:Int),())∧∀(y:Int×Int×PUnit),let x0:Nat:=y.2.1.toNat;Zi93_3 r y→bif decide (y.2.1<(r.Pats.length:Int)) then(0:Int)≤y.2.1∧x0<r.Pats.length∧bif !(List.getD r.Pats x0 zPat).Not then Zi93_3 r (IntKind.wrap IntKind.i64 (y.1+(1:Int)),IntKind.wrap IntKind.i64 (y.2.1+(1:Int)),())∧Zm93_3 r (IntKind.wrap IntKind.i64 (y.1+(1:Int)),IntKind.wrap IntKind.i64 (y.2.1+(1:Int)),())<Zm93_3 r y else Zi93_3 r (y.1,IntKind.wrap IntKind.i64 (y.2.1+(1:Int)),())∧Zm93_3 r (y.1,IntKind.wrap IntKind.i64 (y.2.1+(1:Int)),())<Zm93_3 r y else Li y.1 (↑(posN r.Pats):Int)) (by kernel_rfl)
 dsimp only
 refine⟨⟨by omega,by omega,rfl⟩,?_⟩
 rintro⟨n,i,⟨⟩⟩ ⟨h1,h2,rfl⟩
 simp only
 refine if_cond (fun hc=> ?_) (fun hc=> ?_)
 ·have hc:=of_decide_eq_true hc
  have hs:=posN_step r.Pats h1 hc
  have hle:posN (r.Pats.take i.toNat)≤i.toNat:=posN_le _ _
  rw[wrap_i64 (n:=i+1) (by omega) (by omega),wrap_i64 (n:=(posN (r.Pats.take i.toNat):Int)+1) (by omega) (by omega)]
  have hm:i.toNat<r.Pats.length:=by omega
  refine⟨by omega,by omega,if_cond (fun h=>⟨⟨by omega,by omega,?_⟩,by simp only[Zm93_3];omega⟩) (fun h=>⟨⟨by omega,by omega,?_⟩,by simp only[Zm93_3];omega⟩)⟩
  ·rw[hs,if_pos h];omega
  ·rw[hs,if_neg (by rw[h];decide)];omega
 ·have hc:=of_decide_eq_false hc
  rw[take_all r.Pats (by omega)]
  exact Lf_rfl _
def Zh93:HH:=⟨_,Zo93⟩
def Zk222:Con UU where
 α:=DPat
 md:=[.ro]
 of:=o1 (oA .ePat)
 ds:=fun x=>[dA .ePat x]
 pre:=fun p=>[p.Args.length≤4294967296]
 res:=fun p=>⟨[dL .str (addVars [] p.Args)],true,[]⟩
 law:=l1 (lA .ePat)
def Zi222_3(p:DPat):List ByteArray×Int×(ByteArray×List DArg×Bool×Unit)×Unit→Prop:=fun(l,i,b,_)=>b=(p.Kind,p.Args,p.Not,())∧0≤i∧i≤p.Args.length∧l=addVars [] (p.Args.take i.toNat)
def Zm222_3(p:DPat):List ByteArray×Int×(ByteArray×List DArg×Bool×Unit)×Unit→Nat:=fun(l,i,b,_)=>p.Args.length-i.toNat
def Za222:Zk222.α→Nat→Option (Ann UU):=fun p=>annL [(3,annOf [.slot 3 (3,1024) (.own .str true),.slot 4 (4,1024) (.lit (.int .i64)),.box 1 (1,1024) [.lit .str,.shr .eArg,.lit .bool]] (fun _=>Zi222_3 p) (Zm222_3 p))]
def Zu222:=us [Zh223]
theorem Zo222:Holds EE (222,Zk222):=by
 refine holds_of EE_ok func222 Zk222 (by kernel_rfl) Zu222 (us_ok _) Za222 (fun(p:DPat) hp hb=> ?_)
 have hz0:=bd_ePat (x:=p) (hb _ m0)
 have hl_p_Kind:=hz0.1
 have hl_p_Args:=hz0.2
 have hp0:p.Args.length≤4294967296:=hp _ m0
 clear hp hb
 apply @ve _ (Zi222_3 p ([],(0:Int),(p.Kind,p.Args,p.Not,()),())∧∀(y:List ByteArray×Int×(ByteArray×List DArg×Bool×PUnit)×PUnit),let x4:Nat:=y.2.2.1.2.1.length;let x5:Nat:=y.2.1.toNat;let x2:DArg:=List.getD y.2.2.1.2.1 x5 zArg;let x3:Int:=(↑x4:Int);let x1:ByteArray:=x2.S;let x0:List ByteArray:=[x1];Zi222_3 p y→bif decide (y.2.1<x3) then(0:Int)≤y.2.1∧x5<x4∧bif x2.K==(1:Int) then(0:Int)≤y.2.1∧x5<x4∧bif !hasS y.1 x1 then(0:Int)≤y.2.1∧x5<x4∧y.1.length+x0.length≤(4294967296:Nat)∧Zi222_3 p (y.1++x0,IntKind.wrap IntKind.i64 (y.2.1+(1:Int)),(y.2.2.1.1,y.2.2.1.2.1,y.2.2.1.2.2.1,()),())∧Zm222_3 p (y.1++x0,IntKind.wrap IntKind.i64 (y.2.1+(1:Int)),(y.2.2.1.1,y.2.2.1.2.1,y.2.2.1.2.2.1,()),())<Zm222_3 p y else Zi222_3 p (y.1,IntKind.wrap IntKind.i64 (y.2.1+(1:Int)),(y.2.2.1.1,y.2.2.1.2.1,y.2.2.1.2.2.1,()),())∧Zm222_3 p (y.1,IntKind.wrap IntKind.i64 (y.2.1+(1:Int)),(y.2.2.1.1,y.2.2.1.2.1,y.2.2.1.2.2.1,()),())<Zm222_3 p y else Zi222_3 p (y.1,IntKind.wrap IntKind.i64 (y.2.1+(1:Int)),(y.2.2.1.1,y.2.2.1.2.1,y.2.2.1.2.2.1,()),())∧Zm222_3 p (y.1,IntKind.wrap IntKind.i64 (y.2.1+(1:Int)),(y.2.2.1.1,y.2.2.1.2.1,y.2.2.1.2.2.1,()),())<Zm222_3 p y else Lf [VL .str y.1] [VL .str (addVars [] p.Args)]) (by kernel_rfl)
 dsimp only
 refine⟨⟨rfl,by omega,by omega,rfl⟩,?_⟩
 rintro⟨l,i,⟨b1,b2,b3,⟨⟩⟩,⟨⟩⟩ ⟨hbx,h1,h2,rfl⟩
 cases hbx
 simp only
 refine if_cond (fun hc=> ?_) (fun hc=> ?_)
 ·have hc:=of_decide_eq_true hc
  have hs:=addVars_step [] p.Args h1 hc
  have hl:=addVars_len (p.Args.take i.toNat) []
  have hl2:(p.Args.take i.toNat).length≤i.toNat:=by rw[zaw];omega
  simp only[zbo] at hl
  rw[wrap_i64 (by omega) (by omega)]
  have hm:∀x:List ByteArray,Zm222_3 p (x,i+1,(p.Kind,p.Args,p.Not,PUnit.unit),PUnit.unit)<Zm222_3 p (addVars [] (p.Args.take i.toNat),i,(p.Kind,p.Args,p.Not,PUnit.unit),PUnit.unit):=fun x=>by simp only[Zm222_3];omega
  refine⟨by omega,by omega,if_cond (fun h=>⟨by omega,by omega,if_cond (fun g=>⟨by omega,by omega,by simp;omega,⟨rfl,by omega,by omega,?_⟩,hm _⟩) (fun g=>⟨⟨rfl,by omega,by omega,?_⟩,hm _⟩)⟩) (fun h=>⟨⟨rfl,by omega,by omega,?_⟩,hm _⟩)⟩
  ·rw[hs,addVar,if_pos (eq_of_beq h),addOnce,if_neg (by simpa using g)]
  ·rw[hs,addVar,if_pos (eq_of_beq h),addOnce,if_pos (by simpa using g)]
  ·rw[hs,addVar,if_neg (fun e=>by rw[e] at h;simp at h)]
 ·have hc:=of_decide_eq_false hc
  rw[take_all p.Args (by omega)]
  exact Lf_rfl _
def Zh222:HH:=⟨_,Zo222⟩
def Zk154:Con UU where
 α:=DRule
 md:=[.ro]
 of:=o1 (oA .eRule)
 ds:=fun x=>[dA .eRule x]
 pre:=fun r=>[patArgs r.Pats≤4294967296]
 res:=fun r=>⟨[dL .str (posVarsS r.Pats)],true,[]⟩
 law:=l1 (lA .eRule)
def Zi154_3(r:DRule):List ByteArray×Int×(ByteArray×Int×List DPat×List DCond×List DAct×Unit)×Unit→Prop:=fun(l,i,b,_)=>b=(r.Name,r.Sal,r.Pats,r.Conds,r.Acts,())∧0≤i∧i≤r.Pats.length∧l=posVarsS (r.Pats.take i.toNat)
def Zm154_3(r:DRule):List ByteArray×Int×(ByteArray×Int×List DPat×List DCond×List DAct×Unit)×Unit→Nat:=fun(l,i,b,_)=>r.Pats.length-i.toNat
def Zi154_7(r:DRule):List ByteArray×Int×List ByteArray×Int×(ByteArray×Int×List DPat×List DCond×List DAct×Unit)×Unit→List ByteArray×Int×List ByteArray×Int×(ByteArray×Int×List DPat×List DCond×List DAct×Unit)×Unit→Prop:=fun(l0,i0,v0,k0,b0,_) (l,i,v,k,b,_)=>b=(r.Name,r.Sal,r.Pats,r.Conds,r.Acts,())∧i=i0∧v=v0∧0≤k∧k≤v.length∧l=(v.take k.toNat).foldl addOnce l0∧(k=0∨(List.getD r.Pats i.toNat zPat).Not=false)
def Zm154_7(r:DRule):List ByteArray×Int×List ByteArray×Int×(ByteArray×Int×List DPat×List DCond×List DAct×Unit)×Unit→Nat:=fun(l,i,v,k,b,_)=>v.length-k.toNat
def Za154:Zk154.α→Nat→Option (Ann UU):=fun r=>annL [(3,annOf [.slot 3 (3,1024) (.own .str true),.slot 4 (4,1024) (.lit (.int .i64)),.box 1 (1,1024) [.lit .str,.lit (.int .i64),.shr .ePat,.shr .eCond,.shr .eAct]] (fun _=>Zi154_3 r) (Zm154_3 r)),(7,annOf [.slot 3 (3,1024) (.own .str true),.slot 4 (4,1024) (.lit (.int .i64)),.slot 5 (5,1024) (.own .str true),.slot 6 (6,1024) (.lit (.int .i64)),.box 1 (1,1024) [.lit .str,.lit (.int .i64),.shr .ePat,.shr .eCond,.shr .eAct]] (Zi154_7 r) (Zm154_7 r))]
def Zu154:=us [Zh222,Zh223]
theorem Zo154:Holds EE (154,Zk154):=by
 refine holds_of EE_ok func154 Zk154 (by kernel_rfl) Zu154 (us_ok _) Za154 (fun(r:DRule) hp hb=> ?_)
 have hz0:=bd_eRule (x:=r) (hb _ m0)
 have hl_r_Name:=hz0.1
 have hl_r_Pats:=hz0.2.1
 have hl_r_Conds:=hz0.2.2.1
 have hl_r_Acts:=hz0.2.2.2
 have hp0:patArgs r.Pats≤4294967296:=hp _ m0
 clear hp hb
 apply @ve _ (Zi154_3 r ([],(0:Int),(r.Name,r.Sal,r.Pats,r.Conds,r.Acts,()),())∧∀(y:List ByteArray×Int×(ByteArray×Int×List DPat×List DCond×List DAct×PUnit)×PUnit),let x2:Nat:=y.2.2.1.2.2.1.length;let x3:Nat:=y.2.1.toNat;let x0:List DArg:=(List.getD y.2.2.1.2.2.1 x3 zPat).Args;let x1:Int:=(↑x2:Int);Zi154_3 r y→bif decide (y.2.1<x1) then(0:Int)≤y.2.1∧x3<x2∧x0.length≤(4294967296:Nat)∧Zi154_7 r (y.1,y.2.1,addVars [] x0,(0:Int),(y.2.2.1.1,y.2.2.1.2.1,y.2.2.1.2.2.1,y.2.2.1.2.2.2.1,y.2.2.1.2.2.2.2.1,()),()) (y.1,y.2.1,addVars [] x0,(0:Int),(y.2.2.1.1,y.2.2.1.2.1,y.2.2.1.2.2.1,y.2.2.1.2.2.2.1,y.2.2.1.2.2.2.2.1,()),())∧∀(y_1:List ByteArray×Int×List ByteArray×Int×(ByteArray×Int×List DPat×List DCond×List DAct×PUnit)×PUnit),let x6:Nat:=y_1.2.2.2.1.toNat;let x8:Nat:=y_1.2.2.1.length;let x9:Nat:=y_1.2.1.toNat;let x5:ByteArray:=List.getD y_1.2.2.1 x6 noBytes;let x7:Int:=(↑x8:Int);let x4:List ByteArray:=[x5];Zi154_7 r (y.1,y.2.1,addVars [] x0,(0:Int),(y.2.2.1.1,y.2.2.1.2.1,y.2.2.1.2.2.1,y.2.2.1.2.2.2.1,y.2.2.1.2.2.2.2.1,()),()) y_1→bif decide (y_1.2.2.2.1<x7) then(0:Int)≤y_1.2.1∧x9<y_1.2.2.2.2.1.2.2.1.length∧bif !(List.getD y_1.2.2.2.2.1.2.2.1 x9 zPat).Not then(0:Int)≤y_1.2.2.2.1∧x6<x8∧x6<x8∧bif !hasS y_1.1 x5 then(0:Int)≤y_1.2.2.2.1∧x6<x8∧x6<x8∧y_1.1.length+x4.length≤(4294967296:Nat)∧Zi154_7 r (y.1,y.2.1,addVars [] x0,(0:Int),(y.2.2.1.1,y.2.2.1.2.1,y.2.2.1.2.2.1,y.2.2.1.2.2.2.1,y.2.2.1.2.2.2.2.1,()),()) (y_1.1++x4,y_1.2.1,y_1.2.2.1,IntKind.wrap IntKind.i64 (y_1.2.2.2.1+(1:Int)),(y_1.2.2.2.2.1.1,y_1.2.2.2.2.1.2.1,y_1.2.2.2.2.1.2.2.1,y_1.2.2.2.2.1.2.2.2.1,y_1.2.2.2.2.1.2.2.2.2.1,()),())∧Zm154_7 r (y_1.1++x4,y_1.2.1,y_1.2.2.1,IntKind.wrap IntKind.i64 (y_1.2.2.2.1+(1:Int)),(y_1.2.2.2.2.1.1,y_1.2.2.2.2.1.2.1,y_1.2.2.2.2.1.2.2.1,y_1.2.2.2.2.1.2.2.2.1,y_1.2.2.2.2.1.2.2.2.2.1,()),())<Zm154_7 r y_1 else Zi154_7 r (y.1,y.2.1,addVars [] x0,(0:Int),(y.2.2.1.1,y.2.2.1.2.1,y.2.2.1.2.2.1,y.2.2.1.2.2.2.1,y.2.2.1.2.2.2.2.1,()),()) (y_1.1,y_1.2.1,y_1.2.2.1,IntKind.wrap IntKind.i64 (y_1.2.2.2.1+(1:Int)),(y_1.2.2.2.2.1.1,y_1.2.2.2.2.1.2.1,y_1.2.2.2.2.1.2.2.1,y_1.2.2.2.2.1.2.2.2.1,y_1.2.2.2.2.1.2.2.2.2.1,()),())∧Zm154_7 r (y_1.1,y_1.2.1,y_1.2.2.1,IntKind.wrap IntKind.i64 (y_1.2.2.2.1+(1:Int)),(y_1.2.2.2.2.1.1,y_1.2.2.2.2.1.2.1,y_1.2.2.2.2.1.2.2.1,y_1.2.2.2.2.1.2.2.2.1,y_1.2.2.2.2.1.2.2.2.2.1,()),())<Zm154_7 r y_1 else Zi154_3 r (y_1.1,IntKind.wrap IntKind.i64 (y_1.2.1+(1:Int)),(y_1.2.2.2.2.1.1,y_1.2.2.2.2.1.2.1,y_1.2.2.2.2.1.2.2.1,y_1.2.2.2.2.1.2.2.2.1,y_1.2.2.2.2.1.2.2.2.2.1,()),())∧Zm154_3 r (y_1.1,IntKind.wrap IntKind.i64 (y_1.2.1+(1:Int)),(y_1.2.2.2.2.1.1,y_1.2.2.2.2.1.2.1,y_1.2.2.2.2.1.2.2.1,y_1.2.2.2.2.1.2.2.2.1,y_1.2.2.2.2.1.2.2.2.2.1,()),())<Zm154_3 r y else Zi154_3 r (y_1.1,IntKind.wrap IntKind.i64 (y_1.2.1+(1:Int)),(y_1.2.2.2.2.1.1,y_1.2.2.2.2.1.2.1,y_1.2.2.2.2.1.2.2.1,y_1.2.2.2.2.1.2.2.2.1,y_1.2.2.2.2.1.2.2.2.2.1,()),())∧Zm154_3 r (y_1.1,IntKind.wrap IntKind.i64 (y_1.2.1+(1:Int)),(y_1.2.2.2.2.1.1,y_1.2.2.2.2.1.2.1,y_1.2.2.2.2.1.2.2.1,y_1.2.2.2.2.1.2.2.2.1,y_1.2.2.2.2.1.2.2.2.2.1,()),())<Zm154_3 r y else Lf [VL .str y.1] [VL .str (posVarsS r.Pats)]) (by kernel_rfl)
 dsimp only
 refine⟨⟨rfl,by omega,by omega,rfl⟩,?_⟩
 rintro⟨l,i,⟨b1,b2,b3,b4,b5,⟨⟩⟩,⟨⟩⟩ ⟨hbx,h1,h2,rfl⟩
 cases hbx
 simp only
 refine if_cond (fun hc=> ?_) (fun hc=> ?_)
 ·have hc:=of_decide_eq_true hc
  have hs:posVarsS (r.Pats.take (i+1).toNat)=posVarS (posVarsS (r.Pats.take i.toNat)) (List.getD r.Pats i.toNat zPat):=foldl_step posVarS [] r.Pats zPat h1 hc
  have ha:=patArgs_at r.Pats h1 hc
  have hl:=posVarsS_len0 (r.Pats.take i.toNat) []
  simp only[zbo,zbw] at hl
  have hv:=addVars_len (List.getD r.Pats i.toNat zPat).Args []
  simp only[zbo,zbw] at hv
  refine⟨by omega,by omega,by omega,⟨rfl,rfl,rfl,by omega,by omega,rfl,.inl rfl⟩,?_⟩
  rintro⟨l',i',v,k,⟨b1,b2,b3,b4,b5,⟨⟩⟩,⟨⟩⟩ ⟨hbx,rfl,rfl,g1,g2,rfl,g3⟩
  cases hbx
  simp only
  have hfl:=foldOnce_len ((addVars [] (List.getD r.Pats i'.toNat zPat).Args).take k.toNat) (posVarsS (r.Pats.take i'.toNat))
  have hfl2:((addVars [] (List.getD r.Pats i'.toNat zPat).Args).take k.toNat).length≤k.toNat:=by rw[zaw];omega
  have hl':(posVarsS (r.Pats.take i'.toNat)).length≤patArgs (r.Pats.take i'.toNat):=hl
  have hin:(addVars [] (List.getD r.Pats i'.toNat zPat).Args).length≤(List.getD r.Pats i'.toNat zPat).Args.length:=hv
  refine if_cond (fun hk=> ?_) (fun hk=> ?_)
  ·have hk:=of_decide_eq_true hk
   have hf:=foldl_step addOnce (posVarsS (r.Pats.take i'.toNat)) (addVars [] (List.getD r.Pats i'.toNat zPat).Args) noBytes g1 hk
   rw[wrap_i64 (n:=k+1) (by omega) (by omega),wrap_i64 (n:=i'+1) (by omega) (by omega)]
   refine⟨by omega,by omega,if_cond (fun hn=> ?_) (fun hn=> ?_)⟩
   ·have hn:(List.getD r.Pats i'.toNat zPat).Not=false:=by simpa using hn
    have hkl:k.toNat<(addVars [] (List.getD r.Pats i'.toNat zPat).Args).length:=by omega
    refine⟨g1,hkl,hkl,if_cond (fun g=>⟨g1,hkl,hkl,by simp only[zbq,zbo];omega,⟨rfl,rfl,rfl,by omega,by omega,?_,.inr hn⟩,by simp only[Zm154_7];omega⟩) (fun g=>⟨⟨rfl,rfl,rfl,by omega,by omega,?_,.inr hn⟩,by simp only[Zm154_7];omega⟩)⟩
    ·rw[hf,addOnce,if_neg (by simpa using g)]
    ·rw[hf,addOnce,if_pos (by simpa using g)]
   ·have hn:(List.getD r.Pats i'.toNat zPat).Not=true:=by simpa using hn
    have hk0:k=0:=g3.resolve_right (by rw[hn];decide)
    subst hk0
    refine⟨⟨rfl,by omega,by omega,?_⟩,by simp only[Zm154_3];omega⟩
    rw[hs,posVarS,if_pos hn]
    rfl
  ·have hk:=of_decide_eq_false hk
   rw[wrap_i64 (n:=i'+1) (by omega) (by omega)]
   refine⟨⟨rfl,by omega,by omega,?_⟩,by simp only[Zm154_3];omega⟩
   rw[hs,posVarS]
   by_cases hn:(List.getD r.Pats i'.toNat zPat).Not=true
   ·have hk0:k=0:=g3.resolve_right (by rw[hn];decide)
    subst hk0
    rw[if_pos hn];rfl
   ·rw[if_neg hn,take_all (addVars [] (List.getD r.Pats i'.toNat zPat).Args) (by omega)]
 ·have hc:=of_decide_eq_false hc
  rw[take_all r.Pats (by omega)]
  exact Lf_rfl _
def Zh154:HH:=⟨_,Zo154⟩
def Zk239:Con UU where
 α:=(List ByteArray)×ByteArray
 md:=[.mv,.ro]
 of:=oC (oL .str) (o1 oS)
 ds:=fun x=>[dL .str x.1,dS x.2]
 pre:=fun(l,name)=>[l.length≤4294967295]
 res:=fun(l,name)=>⟨[dL .str (addOnce l name)],true,[]⟩
 law:=lC (lL .str) (l1 lS)
def Za239:Zk239.α→Nat→Option (Ann UU):=fun(l,name)=>annL []
def Zu239:=us [Zh96]
theorem Zo239:Holds EE (239,Zk239):=by
 refine holds_of EE_ok func239 Zk239 (by kernel_rfl) Zu239 (us_ok _) Za239 (fun x hp hb=> ?_)
 obtain⟨l,name⟩:=x
 have hl_l:l.length≤9223372036854775807:=bdL (hb _ m0)
 have hl_name:=bdS (s:=name) (hb _ m1)
 have hp0:l.length≤4294967295:=hp _ m0
 clear hp hb
 apply @ve _ (bif hasS l name then Lf [VL .str l] [VL .str (addOnce l name)] else l.length+List.length [name]≤(4294967296:Nat)∧Lf [VL .str (l++[name])] [VL .str (addOnce l name)]) (by kernel_rfl)
 refine if_cond (fun h=> ?_) (fun h=>⟨by simp;omega,?_⟩)
 ·rw[addOnce,if_pos h];exact Lf_rfl _
 ·rw[addOnce,if_neg (by rw[h];decide)];exact Lf_rfl _
def Zh239:HH:=⟨_,Zo239⟩
def Zk168:Con UU where
 α:=(List ByteArray)×(List DArg)
 md:=[.mv,.ro]
 of:=oC (oL .str) (o1 (oL .eArg))
 ds:=fun x=>[dL .str x.1,dL .eArg x.2]
 pre:=fun(l,args)=>[l.length+args.length≤4294967295]
 res:=fun(l,args)=>⟨[dL .str (addVars l args)],true,[]⟩
 law:=lC (lL .str) (l1 (lL .eArg))
def Zi168_2(l:(List ByteArray))(args:(List DArg)):List ByteArray×Int×Unit→Prop:=fun(v,i,_)=>0≤i∧i≤args.length∧v=addVars l (args.take i.toNat)
def Zm168_2(l:(List ByteArray))(args:(List DArg)):List ByteArray×Int×Unit→Nat:=fun(v,i,_)=>args.length-i.toNat
def Za168:Zk168.α→Nat→Option (Ann UU):=fun(l,args)=>annL [(2,annOf [.slot 0 (0,1024) (.own .str true),.slot 9 (9,1024) (.lit (.int .i64))] (fun _=>Zi168_2 l args) (Zm168_2 l args))]
def Zu168:=us [Zh239]
theorem Zo168:Holds EE (168,Zk168):=by
 refine holds_of EE_ok func168 Zk168 (by kernel_rfl) Zu168 (us_ok _) Za168 (fun x hp hb=> ?_)
 obtain⟨l,args⟩:=x
 have hl_l:l.length≤9223372036854775807:=bdL (hb _ m0)
 have hl_args:args.length≤9223372036854775807:=bdL (hb _ m1)
 have hp0:l.length+args.length≤4294967295:=hp _ m0
 clear hp hb
 apply @ve _ (Zi168_2 l args (l,(0:Int),())∧∀(y:List ByteArray×Int×PUnit),let x1:Nat:=y.2.1.toNat;let x0:DArg:=List.getD args x1 zArg;Zi168_2 l args y→bif decide (y.2.1<(args.length:Int)) then(0:Int)≤y.2.1∧x1<args.length∧bif x0.K==(1:Int) then y.1.length≤(4294967295:Nat)∧Zi168_2 l args (addOnce y.1 x0.S,IntKind.wrap IntKind.i64 (y.2.1+(1:Int)),())∧Zm168_2 l args (addOnce y.1 x0.S,IntKind.wrap IntKind.i64 (y.2.1+(1:Int)),())<Zm168_2 l args y else Zi168_2 l args (y.1,IntKind.wrap IntKind.i64 (y.2.1+(1:Int)),())∧Zm168_2 l args (y.1,IntKind.wrap IntKind.i64 (y.2.1+(1:Int)),())<Zm168_2 l args y else Lf [VL .str y.1] [VL .str (addVars l args)]) (by kernel_rfl)
 dsimp only
 refine⟨⟨by omega,by omega,rfl⟩,?_⟩
 rintro⟨v,i,⟨⟩⟩ ⟨h1,h2,rfl⟩
 simp only
 refine if_cond (fun hc=> ?_) (fun hc=> ?_)
 ·have hc:=of_decide_eq_true hc
  have hs:=addVars_step l args h1 hc
  have hl:=addVars_len (args.take i.toNat) l
  have hl2:(args.take i.toNat).length≤i.toNat:=by rw[zaw];omega
  rw[wrap_i64 (by omega) (by omega)]
  refine⟨by omega,by omega,if_cond (fun h=>⟨by omega,⟨by omega,by omega,?_⟩,by simp only[Zm168_2];omega⟩) (fun h=>⟨⟨by omega,by omega,?_⟩,by simp only[Zm168_2];omega⟩)⟩
  ·rw[hs,addVar,if_pos (eq_of_beq h)]
  ·rw[hs,addVar,if_neg (fun e=>by rw[e] at h;simp at h)]
 ·have hc:=of_decide_eq_false hc
  rw[take_all args (by omega)]
  exact Lf_rfl _
def Zh168:HH:=⟨_,Zo168⟩
def Zk94:Con UU where
 α:=DRule
 md:=[.ro]
 of:=o1 (oA .eRule)
 ds:=fun x=>[dA .eRule x]
 pre:=fun r=>[patArgs r.Pats≤4294967295]
 res:=fun r=>⟨[dL .str (posVars r.Pats)],true,[]⟩
 law:=l1 (lA .eRule)
def Zi94_3(r:DRule):List ByteArray×Int×Unit→Prop:=fun(v,i,_)=>0≤i∧i≤r.Pats.length∧v=posVars (r.Pats.take i.toNat)
def Zm94_3(r:DRule):List ByteArray×Int×Unit→Nat:=fun(v,i,_)=>r.Pats.length-i.toNat
def Za94:Zk94.α→Nat→Option (Ann UU):=fun r=>annL [(3,annOf [.slot 3 (3,1024) (.own .str true),.slot 9 (9,1024) (.lit (.int .i64))] (fun _=>Zi94_3 r) (Zm94_3 r))]
def Zu94:=us [Zh168]
theorem Zo94:Holds EE (94,Zk94):=by
 refine holds_of EE_ok func94 Zk94 (by kernel_rfl) Zu94 (us_ok _) Za94 (fun(r:DRule) hp hb=> ?_)
 have hz0:=bd_eRule (x:=r) (hb _ m0)
 have hl_r_Name:=hz0.1
 have hl_r_Pats:=hz0.2.1
 have hl_r_Conds:=hz0.2.2.1
 have hl_r_Acts:=hz0.2.2.2
 have hp0:patArgs r.Pats≤4294967295:=hp _ m0
 clear hp hb
 apply @ve _ (Zi94_3 r ([],(0:Int),())∧∀(y:List ByteArray×Int×PUnit),let x2:Nat:=y.2.1.toNat;let x1:DPat:=List.getD r.Pats x2 zPat;let x0:List DArg:=x1.Args;Zi94_3 r y→bif decide (y.2.1<(r.Pats.length:Int)) then(0:Int)≤y.2.1∧x2<r.Pats.length∧bif !x1.Not then y.1.length+x0.length≤(4294967295:Nat)∧Zi94_3 r (addVars y.1 x0,IntKind.wrap IntKind.i64 (y.2.1+(1:Int)),())∧Zm94_3 r (addVars y.1 x0,IntKind.wrap IntKind.i64 (y.2.1+(1:Int)),())<Zm94_3 r y else Zi94_3 r (y.1,IntKind.wrap IntKind.i64 (y.2.1+(1:Int)),())∧Zm94_3 r (y.1,IntKind.wrap IntKind.i64 (y.2.1+(1:Int)),())<Zm94_3 r y else Lf [VL .str y.1] [VL .str (posVars r.Pats)]) (by kernel_rfl)
 dsimp only
 refine⟨⟨by omega,by omega,rfl⟩,?_⟩
 rintro⟨v,i,⟨⟩⟩ ⟨h1,h2,rfl⟩
 simp only
 refine if_cond (fun hc=> ?_) (fun hc=> ?_)
 ·have hc:=of_decide_eq_true hc
  have hs:posVars (r.Pats.take (i+1).toNat)=posVar (posVars (r.Pats.take i.toNat)) (List.getD r.Pats i.toNat zPat):=foldl_step posVar [] r.Pats zPat h1 hc
  have ha:=patArgs_at r.Pats h1 hc
  have hl:=posVars_len0 (r.Pats.take i.toNat) []
  simp only[zbo,zbw] at hl
  have hl':(posVars (r.Pats.take i.toNat)).length≤patArgs (r.Pats.take i.toNat):=hl
  rw[wrap_i64 (by omega) (by omega)]
  refine⟨by omega,by omega,if_cond (fun h=>⟨by omega,⟨by omega,by omega,?_⟩,by simp only[Zm94_3];omega⟩) (fun h=>⟨⟨by omega,by omega,?_⟩,by simp only[Zm94_3];omega⟩)⟩
  ·rw[hs,posVar,if_neg (by simpa using h)]
  ·rw[hs,posVar,if_pos (by simpa using h)]
 ·have hc:=of_decide_eq_false hc
  rw[take_all r.Pats (by omega)]
  exact Lf_rfl _
def Zh94:HH:=⟨_,Zo94⟩
def notAt(ps:List DPat)(i:Nat):Bool:=(List.getD ps i zPat).Not
def patAt(ps:List DPat)(i:Nat):Bool:=patOk (List.getD ps i zPat)&& !(decide (2<i)&& !notAt ps i)&& !(decide (i=0)&&notAt ps i)&& !(decide (0<i)&&notAt ps (i-1)&& !notAt ps i)
def patsOk(ps:List DPat):Bool:=decide (1≤ps.length∧ps.length≤6)&&allI ps.length (patAt ps)
def patAtI(ps:List DPat)(i:Nat):Bool:=patOk (List.getD ps i zPat)&&(notAt ps i==decide (posN ps≤i))
def patsOkI(ps:List DPat):Bool:=decide (1≤ps.length∧ps.length≤6)&&decide (1≤posN ps∧posN ps≤3)&&allI ps.length (patAtI ps)
theorem allI_all{n:Nat}{p:Nat→Bool}:allI n p=true↔∀j,j<n→p j=true:=by simp[allI]
theorem posN_cons(p:DPat)(ps:List DPat):posN (p::ps)=(if p.Not then 0 else 1)+posN ps:=by
 simp only[posN,List.filter_cons]
 cases p.Not<;>simp<;>omega
theorem not_mono:∀{ps:List DPat},(∀i,i+1<ps.length→notAt ps i=true→notAt ps (i+1)=true)→∀i,i<ps.length→notAt ps i=decide (posN ps≤i)
 |[],_,i,hi=>by simp at hi
 |p::ps,h,i,hi=>by
  have ih:=not_mono (ps:=ps) (fun j hj hn=>h (j+1) (by simpa using hj) hn)
  rw[posN_cons]
  cases hp:p.Not with
  |false=>
   cases i with
   |zero=>show p.Not=_;rw[hp];simp
   |succ i=>
    show notAt ps i=_
    rw[ih i (by simpa using hi)]
    simp only[zbg,if_false,decide_eq_decide];omega
  |true=>
   have hall:∀j,j<(p::ps).length→notAt (p::ps) j=true:=by
    intro j
    induction j with
    |zero=>intro _;exact hp
    |succ j ihj=>intro hj;exact h j hj (ihj (by omega))
   have h0:posN ps=0:=by
    cases ps with
    |nil=>rfl
    |cons q qs=>
     have h1:=ih 0 (by simp)
     have h2:notAt (q::qs) 0=true:=hall 1 (by simp)
     rw[h2] at h1
     have:=of_decide_eq_true h1.symm
     omega
   rw[hall i hi,h0];simp
theorem patsOkI_eq(ps:List DPat):patsOkI ps=patsOk ps:=by
 rw[zcm]
 simp only[patsOkI,patsOk,zaf,decide_eq_true_eq,allI_all]
 constructor
 ·rintro⟨⟨h1,h2⟩,h3⟩
  have hN:∀j,j<ps.length→notAt ps j=decide (posN ps≤j):=fun j hj=>by
   have:=h3 j hj
   simp only[patAtI,zaf,beq_iff_eq] at this
   exact this.2
  refine⟨h1,fun j hj=> ?_⟩
  have hk:=h3 j hj
  simp only[patAtI,zaf] at hk
  simp only[patAt,hk.1,hN j hj,zck,zaf,zbd,Bool.and_eq_false_iff,decide_eq_false_iff_not,Bool.not_eq_false',decide_eq_true_eq]
  refine⟨⟨by omega,by omega⟩,?_⟩
  by_cases h0:0<j
  ·rw[hN (j-1) (by omega)];simp only[decide_eq_false_iff_not];omega
  ·exact .inl (.inl h0)
 ·rintro⟨h1,h2⟩
  have hA:∀j,j<ps.length→patOk (List.getD ps j zPat)=true∧(2<j→notAt ps j=true)∧(j=0→notAt ps j=false)∧(0<j→notAt ps (j-1)=true→notAt ps j=true):=fun j hj=>by
   have:=h2 j hj
   simp only[patAt,zaf,zbd,Bool.and_eq_false_iff,decide_eq_false_iff_not,Bool.not_eq_false'] at this
   obtain⟨⟨⟨a1,a2⟩,a3⟩,a4⟩:=this
   refine⟨a1,fun h=>a2.resolve_left (fun e=>e h),fun h=>a3.resolve_left (fun e=>e h),fun h hn=>a4.resolve_left (fun e=> ?_)⟩
   rcases e with e|e
   ·exact e h
   ·rw[hn] at e;cases e
  have hN:=not_mono (ps:=ps) (fun i hi hn=>(hA (i+1) hi).2.2.2 (by omega) (by simpa using hn))
  have hz:=(hA 0 (by omega)).2.2.1 rfl
  rw[hN 0 (by omega)] at hz
  have hz:=of_decide_eq_false hz
  have hle:posN ps≤ps.length:=zdt _ _
  refine⟨⟨h1,by omega,?_⟩,fun j hj=> ?_⟩
  ·by_cases h4:3<ps.length
   ·have:=(hA 3 h4).2.1 (by omega)
    rw[hN 3 h4] at this
    exact of_decide_eq_true this
   ·omega
  ·simp only[patAtI,(hA j hj).1,hN j hj];simp
def knownIn(vars:List ByteArray)(a:DArg):Bool:= !decide (a.K=1)||hasS vars a.S
def kondIn(vars:List ByteArray)(c:DCond):Bool:=kondOk c&&knownIn vars c.L&&knownIn vars c.R
def kondsIn(l:List DCond)(vars:List ByteArray):Bool:=decide (l.length≤6)&&l.all (kondIn vars)
def exprIn(vars:List ByteArray)(e:DExpr):Bool:=knownIn vars e.L&&knownIn vars e.R
def dropIn(pos:Int)(a:DAct):Bool:= !(decide (a.Kind=2)&&decide (pos≤a.N))
def actIn(vars:List ByteArray)(pos:Int)(a:DAct):Bool:=actOk a&&dropIn pos a&&a.Args.all (exprIn vars)
def actsIn(l:List DAct)(vars:List ByteArray)(pos:Int):Bool:=decide (1≤l.length∧l.length≤6)&&l.all (actIn vars pos)
def ruleOk(r:DRule):Bool:=nameOk r.Name&&decide (-100≤r.Sal∧r.Sal≤100)&&patsOk r.Pats&&kondsIn r.Conds (posVarsS r.Pats)&&actsIn r.Acts (posVarsS r.Pats) (posN r.Pats)
theorem patArgs_size(ps:List DPat):patArgs ps≤sizePatS ps:=by
 simp only[patArgs,sizePatS]
 have:∀l:List DPat,(l.map fun p=>p.Args.length).sum≤(l.map sizePat).sum:=by
  intro l
  induction l with
  |nil=>exact zca _
  |cons p l ih=>simp only[zbt,zdc,sizePat,sizeArgS] at ih⊢;omega
 have:=this ps;omega
theorem has_same(ps:List DPat)(t:ByteArray):hasS (posVars ps) t=hasS (posVarsS ps) t:=by
 rw[zcm,hasS_iff,hasS_iff,posVars_mem,posVarsS_mem]
def usedC(l:List ByteArray)(c:DCond):List ByteArray:=addVars l [c.L,c.R]
def usedE(l:List ByteArray)(e:DExpr):List ByteArray:=addVars l [e.L,e.R]
def usedA(l:List ByteArray)(a:DAct):List ByteArray:=a.Args.foldl usedE l
def usedV(r:DRule):List ByteArray:=r.Acts.foldl usedA (r.Conds.foldl usedC [])
def usedN(l:List DAct):Nat:=(l.map fun a=>2*a.Args.length).sum
theorem usedC_len(l:List ByteArray)(c:DCond):(usedC l c).length≤l.length+2:=addVars_len _ _
theorem usedE_len:∀(es:List DExpr)(l:List ByteArray),(es.foldl usedE l).length≤l.length+2*es.length
 |[],l=>zca _
 |e::es,l=>by
  have h1:=usedE_len es (usedE l e)
  have h2:(usedE l e).length≤l.length+2:=addVars_len _ _
  show(es.foldl usedE (usedE l e)).length≤_
  simp only[zbq];omega
theorem usedCs_len:∀(cs:List DCond)(l:List ByteArray),(cs.foldl usedC l).length≤l.length+2*cs.length
 |[],l=>zca _
 |c::cs,l=>by
  have h1:=usedCs_len cs (usedC l c)
  have h2:=usedC_len l c
  show(cs.foldl usedC (usedC l c)).length≤_
  simp only[zbq];omega
theorem usedAs_len:∀(xs:List DAct)(l:List ByteArray),(xs.foldl usedA l).length≤l.length+usedN xs
 |[],l=>zca _
 |a::xs,l=>by
  have h1:=usedAs_len xs (usedA l a)
  have h2:(usedA l a).length≤l.length+2*a.Args.length:=usedE_len _ _
  show(xs.foldl usedA (usedA l a)).length≤_
  simp only[usedN,zbt,zdc] at h1⊢;omega
theorem usedN_at(l:List DAct){i:Int}(h0:0≤i)(h:i<l.length):usedN (l.take i.toNat)+2*(List.getD l i.toNat zAct).Args.length≤usedN l:=by
 have h1:usedN (l.take (i+1).toNat)≤usedN l:=by
  have h:=congrArg (fun q=>(q.map fun a:DAct=>2*a.Args.length).sum) (zcq (i+1).toNat l)
  simp only[zef,zet] at h
  simp only[usedN];omega
 rw[←take_step l zAct h0 h] at h1
 simp only[usedN,zef,zet,zbt,List.map_nil,zdc,List.sum_nil] at h1⊢
 omega
def names(t:ByteArray)(a:DArg):Prop:=a.K=1∧t=a.S
theorem used2_mem{l:List ByteArray}{a b:DArg}{t:ByteArray}:t∈addVars l [a,b]↔t∈l∨names t a∨names t b:=by
 rw[addVars_mem];simp[names]
theorem usedE_mem{t:ByteArray}:∀{es:List DExpr}{l:List ByteArray},t∈es.foldl usedE l↔t∈l∨∃e∈es,names t e.L∨names t e.R
 |[],l=>by simp
 |e::es,l=>by
  show t∈es.foldl usedE (usedE l e)↔_
  rw[usedE_mem,usedE,used2_mem]
  simp only[zak,exists_eq_or_imp,or_assoc]
theorem usedCs_mem{t:ByteArray}:∀{cs:List DCond}{l:List ByteArray},t∈cs.foldl usedC l↔t∈l∨∃c∈cs,names t c.L∨names t c.R
 |[],l=>by simp
 |c::cs,l=>by
  show t∈cs.foldl usedC (usedC l c)↔_
  rw[usedCs_mem,usedC,used2_mem]
  simp only[zak,exists_eq_or_imp,or_assoc]
theorem usedAs_mem{t:ByteArray}:∀{xs:List DAct}{l:List ByteArray},t∈xs.foldl usedA l↔t∈l∨∃a∈xs,∃e∈a.Args,names t e.L∨names t e.R
 |[],l=>by simp
 |a::xs,l=>by
  show t∈xs.foldl usedA (usedA l a)↔_
  rw[usedAs_mem,usedA,usedE_mem]
  simp only[zak,exists_eq_or_imp,or_assoc]
theorem knownIn_iff{vars:List ByteArray}{a:DArg}:knownIn vars a=true↔∀t,names t a→hasS vars t=true:=by
 simp only[knownIn,zcn,zbd,decide_eq_false_iff_not,names]
 constructor
 ·rintro(h|h) t ⟨h1,rfl⟩
  ·exact absurd h1 h
  ·exact h
 ·intro h
  by_cases h1:a.K=1
  ·exact .inr (h a.S ⟨h1,rfl⟩)
  ·exact .inl h1
theorem used_all(r:DRule)(vars:List ByteArray):(usedV r).all (hasS vars)=(r.Conds.all (fun c=>knownIn vars c.L&&knownIn vars c.R)&&r.Acts.all fun a=>a.Args.all (exprIn vars)):=by
 rw[zcm]
 simp only[zaf,zcb,exprIn,knownIn_iff,usedV]
 constructor
 ·intro h
  refine⟨fun c hc=>⟨fun t ht=>h t ?_,fun t ht=>h t ?_⟩,fun a ha e he=>⟨fun t ht=>h t ?_,fun t ht=>h t ?_⟩⟩
  ·rw[usedAs_mem,usedCs_mem];exact .inl (.inr ⟨c,hc,.inl ht⟩)
  ·rw[usedAs_mem,usedCs_mem];exact .inl (.inr ⟨c,hc,.inr ht⟩)
  ·rw[usedAs_mem];exact .inr ⟨a,ha,e,he,.inl ht⟩
  ·rw[usedAs_mem];exact .inr ⟨a,ha,e,he,.inr ht⟩
 ·rintro⟨h1,h2⟩ t ht
  rw[usedAs_mem,usedCs_mem] at ht
  rcases ht with(ht|⟨c,hc,ht|ht⟩)|⟨a,ha,e,he,ht|ht⟩
  ·cases ht
  ·exact(h1 c hc).1 t ht
  ·exact(h1 c hc).2 t ht
  ·exact(h2 a ha e he).1 t ht
  ·exact(h2 a ha e he).2 t ht
def ruleOkI(r:DRule):Bool:=nameOk r.Name&&decide (-100≤r.Sal∧r.Sal≤100)&&patsOk r.Pats&&decide (r.Conds.length≤6)&&decide (1≤r.Acts.length∧r.Acts.length≤6)&&r.Conds.all kondOk&&r.Acts.all (fun a=>actOk a&&dropIn (posN r.Pats) a)&&(usedV r).all (hasS (posVars r.Pats))
theorem all_and{α:Type}(p q:α→Bool)(l:List α):l.all (fun x=>p x&&q x)=(l.all p&&l.all q):=by
 induction l with
 |nil=>rfl
 |cons x l ih=>simp only[zdr,ih];cases p x<;>cases q x<;>simp
theorem ruleOkI_eq(r:DRule):ruleOkI r=ruleOk r:=by
 have e1:(usedV r).all (hasS (posVars r.Pats))=(usedV r).all (hasS (posVarsS r.Pats)):=by
  have:hasS (posVars r.Pats)=hasS (posVarsS r.Pats):=funext fun t=>has_same _ _
  rw[this]
 have e2:r.Conds.all (kondIn (posVarsS r.Pats))=(r.Conds.all kondOk&&r.Conds.all (fun c=>knownIn (posVarsS r.Pats) c.L&&knownIn (posVarsS r.Pats) c.R)):=by
  rw[←all_and]
  congr 1;funext c;simp only[kondIn,Bool.and_assoc]
 have e3:r.Acts.all (actIn (posVarsS r.Pats) (posN r.Pats))=(r.Acts.all (fun a=>actOk a&&dropIn (posN r.Pats) a)&&r.Acts.all (fun a=>a.Args.all (exprIn (posVarsS r.Pats)))):=by
  rw[←all_and];rfl
 simp only[ruleOkI,ruleOk,kondsIn,actsIn,e1,e2,e3,used_all]
 rw[zcm]
 simp only[zaf]
 constructor
 ·rintro⟨⟨⟨⟨⟨⟨⟨a1,a2⟩,a3⟩,a4⟩,a5⟩,a6⟩,a7⟩,a8,a9⟩
  exact⟨⟨⟨⟨a1,a2⟩,a3⟩,a4,a6,a8⟩,a5,a7,a9⟩
 ·rintro⟨⟨⟨⟨a1,a2⟩,a3⟩,a4,a6,a8⟩,a5,a7,a9⟩
  exact⟨⟨⟨⟨⟨⟨⟨a1,a2⟩,a3⟩,a4⟩,a5⟩,a6⟩,a7⟩,a8,a9⟩
theorem if_dec{p:Prop}[Decidable p]{P Q:Prop}(h1:p→P)(h2:¬p→Q):bif decide p then P else Q:=if_cond (fun h=>h1 (of_decide_eq_true h)) (fun h=>h2 (of_decide_eq_false h))
theorem if_not{b:Bool}{P Q:Prop}(h1:b=false→P)(h2:b=true→Q):bif !b then P else Q:=if_cond (fun h=>h1 (by simpa using h)) (fun h=>h2 (by simpa using h))
theorem if_num{a b:Int}{P Q:Prop}(h1:a=b→P)(h2:¬a=b→Q):bif a==b then P else Q:=if_cond (fun h=>h1 (eq_of_beq h)) (fun h=>h2 (fun e=>by rw[e] at h;simp at h))
theorem sumC{α:Type}(f:α→Nat)(B:Nat):∀(l:List α),(∀x∈l,f x≤B)→(l.map f).sum≤l.length*B
 |[],_=>by simp
 |x::l,h=>by
  have h1:=sumC f B l (fun y hy=>h y (zaa _ hy))
  have h2:=h x zab
  simp only[zbt,zdc,zbq,zci];omega
theorem patsOk_args{ps:List DPat}(h:patsOk ps=true):patArgs ps≤30:=by
 simp only[patsOk,zaf,decide_eq_true_eq,allI_all] at h
 have:=sumC (fun p:DPat=>p.Args.length) 5 ps (fun p hp=>by
  obtain⟨i,hi,rfl⟩:=zbk hp
  have hk:=h.2 i hi
  simp only[patAt,zaf,zac,zad hi,zcj] at hk
  have hk:=hk.1.1.1
  simp only[patOk,zaf,decide_eq_true_eq] at hk
  exact hk.1.2)
 simp only[patArgs];omega
theorem actOk_args{a:DAct}(h:actOk a=true):a.Args.length≤5:=by
 simp only[actOk,bareA,exprsOk] at h
 grind
theorem actsOk_used{l:List DAct}(hl:l.length≤6)(h:∀a∈l,actOk a=true):usedN l≤60:=by
 have:=sumC (fun a:DAct=>2*a.Args.length) 10 l (fun a ha=>by have:=actOk_args (h a ha);omega)
 simp only[usedN];omega
def Zk225:Con UU where
 α:=DArg×(List ByteArray)
 md:=[.ro,.ro]
 of:=oC (oA .eArg) (o1 (oL .str))
 ds:=fun x=>[dA .eArg x.1,dL .str x.2]
 pre:=fun _=>[]
 res:=fun(a,vars)=>⟨[dO (knownIn vars a)],true,[]⟩
 law:=lC (lA .eArg) (l1 (lL .str))
def Za225:Zk225.α→Nat→Option (Ann UU):=fun(a,vars)=>annL []
def Zu225:=us [Zh223]
theorem Zo225:Holds EE (225,Zk225):=by
 refine holds_of EE_ok func225 Zk225 (by kernel_rfl) Zu225 (us_ok _) Za225 (fun x hp hb=> ?_)
 obtain⟨a,vars⟩:=x
 have hz0:=bd_eArg (x:=a) (hb _ m0)
 have hl_a_S:=hz0.1
 have hl_a_V_S:=hz0.2
 have hl_vars:vars.length≤9223372036854775807:=bdL (hb _ m1)
 clear hp hb
 apply @ve _ (bif a.K !=(1:Int) then Lb true (knownIn vars a) else Lb (hasS vars a.S) (knownIn vars a)) (by kernel_rfl)
 simp only[knownIn]
 refine if_cond (fun h=>Lf_b ?_) (fun h=>Lf_b ?_)<;>grind
def Zh225:HH:=⟨_,Zo225⟩
def Zk172:Con UU where
 α:=(List DCond)×(List ByteArray)
 md:=[.ro,.ro]
 of:=oC (oL .eCond) (o1 (oL .str))
 ds:=fun x=>[dL .eCond x.1,dL .str x.2]
 pre:=fun _=>[]
 res:=fun(l,vars)=>⟨[dO (kondsIn l vars)],true,[]⟩
 law:=lC (lL .eCond) (l1 (lL .str))
def Zi172_2(l:(List DCond))(vars:(List ByteArray)):Int×Unit→Prop:=fun(i,_)=>0≤i∧i≤l.length∧(l.drop i.toNat).all (kondIn vars)=l.all (kondIn vars)
def Zm172_2(l:(List DCond))(vars:(List ByteArray)):Int×Unit→Nat:=fun(i,_)=>l.length-i.toNat
def Za172:Zk172.α→Nat→Option (Ann UU):=fun(l,vars)=>annL [(2,annOf [.slot 5 (5,1024) (.lit (.int .i64))] (fun _=>Zi172_2 l vars) (Zm172_2 l vars))]
def Zu172:=us [Zh242,Zh225]
theorem Zo172:Holds EE (172,Zk172):=by
 refine holds_of EE_ok func172 Zk172 (by kernel_rfl) Zu172 (us_ok _) Za172 (fun x hp hb=> ?_)
 obtain⟨l,vars⟩:=x
 have hl_l:l.length≤9223372036854775807:=bdL (hb _ m0)
 have hl_vars:vars.length≤9223372036854775807:=bdL (hb _ m1)
 clear hp hb
 apply @ve _ (let x0:Int:=(l.length:Int);Zi172_2 l vars ((0:Int),())∧∀(y:Int×PUnit),let x1:DCond:=List.getD l y.1.toNat zCond;Zi172_2 l vars y→bif decide (y.1<x0) then(0:Int)≤y.1∧y.1.toNat<l.length∧bif !kondOk x1 then Lb false (kondsIn l vars) else(0:Int)≤y.1∧y.1.toNat<l.length∧bif !knownIn vars x1.L then Lb false (kondsIn l vars) else(0:Int)≤y.1∧y.1.toNat<l.length∧bif !knownIn vars x1.R then Lb false (kondsIn l vars) else Zi172_2 l vars (IntKind.wrap IntKind.i64 (y.1+(1:Int)),())∧Zm172_2 l vars (IntKind.wrap IntKind.i64 (y.1+(1:Int)),())<Zm172_2 l vars y else Lb (decide (x0≤(6:Int))) (kondsIn l vars)) (by kernel_rfl)
 dsimp only
 refine⟨⟨by omega,by omega,rfl⟩,?_⟩
 rintro⟨i,⟨⟩⟩ ⟨h1,h2,hR⟩
 simp only
 refine if_dec (fun hc=> ?_) (fun hc=> ?_)
 ·rw[all_step _ _ zCond h1 (by omega)] at hR
  rw[wrap_i64 (by omega) (by omega)]
  have hN:kondIn vars (List.getD l i.toNat zCond)=false→kondsIn l vars=false:=fun h=>by simp only[kondsIn,←hR,h];simp
  refine⟨by omega,by omega,if_not (fun h=>Lf_ff (hN ?_)) (fun h=>⟨by omega,by omega,if_not (fun g=>Lf_ff (hN ?_)) (fun g=>⟨by omega,by omega,if_not (fun k=>Lf_ff (hN ?_)) (fun k=>⟨⟨by omega,by omega,?_⟩,by simp only[Zm172_2];omega⟩)⟩)⟩)⟩
  ·simp only[kondIn,h,zbi]
  ·simp only[kondIn,g,zbs,zbi]
  ·simp only[kondIn,k,zbs]
  ·rw[←hR];simp only[kondIn,h,g,k,zck]
 ·rw[drop_end _ (by omega)] at hR
  refine Lf_b ?_
  simp only[kondsIn,←hR];simp;omega
def Zh172:HH:=⟨_,Zo172⟩
def Zk173:Con UU where
 α:=(List DAct)×(List ByteArray)×Int
 md:=[.ro,.ro,.ro]
 of:=oC (oL .eAct) (oC (oL .str) (o1 oI))
 ds:=fun x=>[dL .eAct x.1,dL .str x.2.1,dI x.2.2]
 pre:=fun _=>[]
 res:=fun(l,vars,pos)=>⟨[dO (actsIn l vars pos)],true,[]⟩
 law:=lC (lL .eAct) (lC (lL .str) (l1 lI))
def Zi173_2(l:(List DAct))(vars:(List ByteArray))(pos:Int):Int×Unit→Prop:=fun(i,_)=>0≤i∧i≤l.length∧(l.drop i.toNat).all (actIn vars pos)=l.all (actIn vars pos)
def Zm173_2(l:(List DAct))(vars:(List ByteArray))(pos:Int):Int×Unit→Nat:=fun(i,_)=>l.length-i.toNat
def Zi173_7(l:(List DAct))(vars:(List ByteArray))(pos:Int):Int×Int×Unit→Int×Int×Unit→Prop:=fun(i0,k0,_) (i,k,_)=>i=i0∧0≤k∧k≤(List.getD l i.toNat zAct).Args.length∧((List.getD l i.toNat zAct).Args.drop k.toNat).all (exprIn vars)=(List.getD l i.toNat zAct).Args.all (exprIn vars)
def Zm173_7(l:(List DAct))(vars:(List ByteArray))(pos:Int):Int×Int×Unit→Nat:=fun(i,k,_)=>(List.getD l i.toNat zAct).Args.length-k.toNat
def Za173:Zk173.α→Nat→Option (Ann UU):=fun(l,vars,pos)=>annL [(2,annOf [.slot 7 (7,1024) (.lit (.int .i64))] (fun _=>Zi173_2 l vars pos) (Zm173_2 l vars pos)),(7,annOf [.slot 7 (7,1024) (.lit (.int .i64)),.slot 8 (8,1024) (.lit (.int .i64))] (Zi173_7 l vars pos) (Zm173_7 l vars pos))]
def Zu173:=us [Zh243,Zh225,Zh104]
theorem Zo173:Holds EE (173,Zk173):=by
 refine holds_of EE_ok func173 Zk173 (by kernel_rfl) Zu173 (us_ok _) Za173 (fun x hp hb=> ?_)
 obtain⟨l,vars,pos⟩:=x
 have hl_l:l.length≤9223372036854775807:=bdL (hb _ m0)
 have hl_vars:vars.length≤9223372036854775807:=bdL (hb _ m1)
 have hl_pos:=bdI (n:=pos) (hb _ m2)
 clear hp hb
 apply @ve _ (let x0:Int:=(l.length:Int);Zi173_2 l vars pos ((0:Int),())∧∀(y:Int×PUnit),let x1:DAct:=List.getD l y.1.toNat zAct;Zi173_2 l vars pos y→bif decide (y.1<x0) then(0:Int)≤y.1∧y.1.toNat<l.length∧bif !actOk x1 then Lb false (actsIn l vars pos) else(0:Int)≤y.1∧y.1.toNat<l.length∧bif x1.Kind==(2:Int) then(0:Int)≤y.1∧y.1.toNat<l.length∧bif decide (x1.N≥pos) then Lb false (actsIn l vars pos) else Zi173_7 l vars pos (y.1,(0:Int),()) (y.1,(0:Int),())∧∀(y_1:Int×Int×PUnit),let x3:Nat:=y_1.2.1.toNat;let x4:Int:=(↑(List.length (List.getD l y_1.1.toNat zAct).Args):Int);let x2:DExpr:=List.getD (List.getD l y_1.1.toNat zAct).Args x3 zExpr;Zi173_7 l vars pos (y.1,(0:Int),()) y_1→(0:Int)≤y_1.1∧y_1.1.toNat<l.length∧bif decide (y_1.2.1<x4) then(0:Int)≤y_1.1∧y_1.1.toNat<l.length∧(0:Int)≤y_1.2.1∧x3<List.length (List.getD l y_1.1.toNat zAct).Args∧bif !knownIn vars x2.L then Lb false (actsIn l vars pos) else(0:Int)≤y_1.1∧y_1.1.toNat<l.length∧(0:Int)≤y_1.2.1∧x3<List.length (List.getD l y_1.1.toNat zAct).Args∧bif !knownIn vars x2.R then Lb false (actsIn l vars pos) else Zi173_7 l vars pos (y.1,(0:Int),()) (y_1.1,IntKind.wrap IntKind.i64 (y_1.2.1+(1:Int)),())∧Zm173_7 l vars pos (y_1.1,IntKind.wrap IntKind.i64 (y_1.2.1+(1:Int)),())<Zm173_7 l vars pos y_1 else Zi173_2 l vars pos (IntKind.wrap IntKind.i64 (y_1.1+(1:Int)),())∧Zm173_2 l vars pos (IntKind.wrap IntKind.i64 (y_1.1+(1:Int)),())<Zm173_2 l vars pos y else Zi173_7 l vars pos (y.1,(0:Int),()) (y.1,(0:Int),())∧∀(y_1:Int×Int×PUnit),let x3:Nat:=y_1.2.1.toNat;let x4:Int:=(↑(List.length (List.getD l y_1.1.toNat zAct).Args):Int);let x2:DExpr:=List.getD (List.getD l y_1.1.toNat zAct).Args x3 zExpr;Zi173_7 l vars pos (y.1,(0:Int),()) y_1→(0:Int)≤y_1.1∧y_1.1.toNat<l.length∧bif decide (y_1.2.1<x4) then(0:Int)≤y_1.1∧y_1.1.toNat<l.length∧(0:Int)≤y_1.2.1∧x3<List.length (List.getD l y_1.1.toNat zAct).Args∧bif !knownIn vars x2.L then Lb false (actsIn l vars pos) else(0:Int)≤y_1.1∧y_1.1.toNat<l.length∧(0:Int)≤y_1.2.1∧x3<List.length (List.getD l y_1.1.toNat zAct).Args∧bif !knownIn vars x2.R then Lb false (actsIn l vars pos) else Zi173_7 l vars pos (y.1,(0:Int),()) (y_1.1,IntKind.wrap IntKind.i64 (y_1.2.1+(1:Int)),())∧Zm173_7 l vars pos (y_1.1,IntKind.wrap IntKind.i64 (y_1.2.1+(1:Int)),())<Zm173_7 l vars pos y_1 else Zi173_2 l vars pos (IntKind.wrap IntKind.i64 (y_1.1+(1:Int)),())∧Zm173_2 l vars pos (IntKind.wrap IntKind.i64 (y_1.1+(1:Int)),())<Zm173_2 l vars pos y else Lb (decide ((1:Int)≤x0∧x0≤(6:Int))) (actsIn l vars pos)) (by kernel_rfl)
 dsimp only
 refine⟨⟨by omega,by omega,rfl⟩,?_⟩
 rintro⟨i,⟨⟩⟩ ⟨h1,h2,hR⟩
 simp only
 refine if_dec (fun hc=> ?_) (fun hc=> ?_)
 ·rw[all_step _ _ zAct h1 (by omega)] at hR
  have hN:actIn vars pos (List.getD l i.toNat zAct)=false→actsIn l vars pos=false:=fun h=>by simp only[actsIn,←hR,h];simp
  refine⟨by omega,by omega,if_not (fun ha=>Lf_ff (hN (by simp only[actIn,ha,zbi]))) (fun ha=>⟨by omega,by omega,if_num (fun hk2=>⟨by omega,by omega,if_dec (fun hp=>Lf_ff (hN ?_)) (fun hp=> ?_)⟩) (fun hk2=> ?_)⟩)⟩
  ·have:dropIn pos (List.getD l i.toNat zAct)=false:=by simp only[dropIn,hk2,decide_eq_true (show pos≤(List.getD l i.toNat zAct).N from hp)];simp
   simp only[actIn,this,zbs,zbi]
  ·have hd:dropIn pos (List.getD l i.toNat zAct)=true:=by simp only[dropIn,decide_eq_false (show¬pos≤(List.getD l i.toNat zAct).N from hp)];simp
   have h5:=actOk_args ha
   refine⟨⟨rfl,by omega,by omega,rfl⟩,?_⟩
   rintro⟨i',k,⟨⟩⟩ ⟨rfl,g1,g2,gR⟩
   simp only
   refine⟨by omega,by omega,if_dec (fun hk=> ?_) (fun hk=> ?_)⟩
   ·rw[all_step _ _ zExpr g1 (by omega)] at gR
    rw[wrap_i64 (n:=k+1) (by omega) (by omega)]
    have hM:exprIn vars (List.getD (List.getD l i'.toNat zAct).Args k.toNat zExpr)=false→actsIn l vars pos=false:=fun h=>hN (by simp only[actIn,←gR,h];simp)
    refine⟨by omega,by omega,g1,by omega,if_not (fun e=>Lf_ff (hM ?_)) (fun e=>⟨by omega,by omega,g1,by omega,if_not (fun f=>Lf_ff (hM ?_)) (fun f=>⟨⟨rfl,by omega,by omega,?_⟩,by simp only[Zm173_7];omega⟩)⟩)⟩
    ·simp only[exprIn,e,zbi]
    ·simp only[exprIn,f,zbs]
    ·rw[←gR];simp only[exprIn,e,f,zck]
   ·rw[drop_end _ (by omega)] at gR
    rw[wrap_i64 (n:=i'+1) (by omega) (by omega)]
    refine⟨⟨by omega,by omega,?_⟩,by simp only[Zm173_2];omega⟩
    rw[←hR];simp only[actIn,←gR,hd,ha,zes,zck]
  ·have hd:dropIn pos (List.getD l i.toNat zAct)=true:=by simp only[dropIn,decide_eq_false hk2];simp
   have h5:=actOk_args ha
   refine⟨⟨rfl,by omega,by omega,rfl⟩,?_⟩
   rintro⟨i',k,⟨⟩⟩ ⟨rfl,g1,g2,gR⟩
   simp only
   refine⟨by omega,by omega,if_dec (fun hk=> ?_) (fun hk=> ?_)⟩
   ·rw[all_step _ _ zExpr g1 (by omega)] at gR
    rw[wrap_i64 (n:=k+1) (by omega) (by omega)]
    have hM:exprIn vars (List.getD (List.getD l i'.toNat zAct).Args k.toNat zExpr)=false→actsIn l vars pos=false:=fun h=>hN (by simp only[actIn,←gR,h];simp)
    refine⟨by omega,by omega,g1,by omega,if_not (fun e=>Lf_ff (hM ?_)) (fun e=>⟨by omega,by omega,g1,by omega,if_not (fun f=>Lf_ff (hM ?_)) (fun f=>⟨⟨rfl,by omega,by omega,?_⟩,by simp only[Zm173_7];omega⟩)⟩)⟩
    ·simp only[exprIn,e,zbi]
    ·simp only[exprIn,f,zbs]
    ·rw[←gR];simp only[exprIn,e,f,zck]
   ·rw[drop_end _ (by omega)] at gR
    rw[wrap_i64 (n:=i'+1) (by omega) (by omega)]
    refine⟨⟨by omega,by omega,?_⟩,by simp only[Zm173_2];omega⟩
    rw[←hR];simp only[actIn,←gR,hd,ha,zes,zck]
 ·rw[drop_end _ (by omega)] at hR
  refine Lf_b ?_
  simp only[actsIn,←hR,zes,zdb];exact decide_eq_decide.2 (by omega)
def Zh173:HH:=⟨_,Zo173⟩
def Zk171:Con UU where
 α:=(List DPat)
 md:=[.ro]
 of:=o1 (oL .ePat)
 ds:=fun x=>[dL .ePat x]
 pre:=fun _=>[]
 res:=fun l=>⟨[dO (patsOk l)],true,[]⟩
 law:=l1 (lL .ePat)
def Zi171_2(l:(List DPat)):Int×Unit→Prop:=fun(i,_)=>0≤i∧i≤l.length∧∀j:Nat,(j:Int)<i→patAt l j=true
def Zm171_2(l:(List DPat)):Int×Unit→Nat:=fun(i,_)=>l.length-i.toNat
def Za171:Zk171.α→Nat→Option (Ann UU):=fun l=>annL [(2,annOf [.slot 3 (3,1024) (.lit (.int .i64))] (fun _=>Zi171_2 l) (Zm171_2 l))]
def Zu171:=us [Zh241,Zh104]
theorem Zo171:Holds EE (171,Zk171):=by
 refine holds_of EE_ok func171 Zk171 (by kernel_rfl) Zu171 (us_ok _) Za171 (fun(l:(List DPat)) hp hb=> ?_)
 have hl_l:l.length≤9223372036854775807:=bdL (hb _ m0)
 clear hp hb
 apply @ve _ (let x0:Int:=(l.length:Int);Zi171_2 l ((0:Int),())∧∀(y:Int×PUnit),let x1:Nat:=Int.toNat (IntKind.wrap IntKind.i64 (y.1-(1:Int)));Zi171_2 l y→bif decide (y.1<x0) then bif decide (y.1>(2:Int)) then(0:Int)≤y.1∧y.1.toNat<l.length∧bif !(List.getD l y.1.toNat zPat).Not then Lb false (patsOk l) else(0:Int)≤y.1∧y.1.toNat<l.length∧bif !patOk (List.getD l y.1.toNat zPat) then Lb false (patsOk l) else bif y.1==(0:Int) then(0:Int)≤y.1∧y.1.toNat<l.length∧bif (List.getD l y.1.toNat zPat).Not then Lb false (patsOk l) else bif decide (y.1>(0:Int)) then(0:Int)≤IntKind.wrap IntKind.i64 (y.1-(1:Int))∧x1<l.length∧bif (List.getD l x1 zPat).Not then(0:Int)≤y.1∧y.1.toNat<l.length∧bif !(List.getD l y.1.toNat zPat).Not then Lb false (patsOk l) else Zi171_2 l (IntKind.wrap IntKind.i64 (y.1+(1:Int)),())∧Zm171_2 l (IntKind.wrap IntKind.i64 (y.1+(1:Int)),())<Zm171_2 l y else Zi171_2 l (IntKind.wrap IntKind.i64 (y.1+(1:Int)),())∧Zm171_2 l (IntKind.wrap IntKind.i64 (y.1+(1:Int)),())<Zm171_2 l y else Zi171_2 l (IntKind.wrap IntKind.i64 (y.1+(1:Int)),())∧Zm171_2 l (IntKind.wrap IntKind.i64 (y.1+(1:Int)),())<Zm171_2 l y else bif decide (y.1>(0:Int)) then(0:Int)≤IntKind.wrap IntKind.i64 (y.1-(1:Int))∧x1<l.length∧bif (List.getD l x1 zPat).Not then(0:Int)≤y.1∧y.1.toNat<l.length∧bif !(List.getD l y.1.toNat zPat).Not then Lb false (patsOk l) else Zi171_2 l (IntKind.wrap IntKind.i64 (y.1+(1:Int)),())∧Zm171_2 l (IntKind.wrap IntKind.i64 (y.1+(1:Int)),())<Zm171_2 l y else Zi171_2 l (IntKind.wrap IntKind.i64 (y.1+(1:Int)),())∧Zm171_2 l (IntKind.wrap IntKind.i64 (y.1+(1:Int)),())<Zm171_2 l y else Zi171_2 l (IntKind.wrap IntKind.i64 (y.1+(1:Int)),())∧Zm171_2 l (IntKind.wrap IntKind.i64 (y.1+(1:Int)),())<Zm171_2 l y else(0:Int)≤y.1∧y.1.toNat<l.length∧bif !patOk (List.getD l y.1.toNat zPat) then Lb false (patsOk l) else bif y.1==(0:Int) then(0:Int)≤y.1∧y.1.toNat<l.length∧bif (List.getD l y.1.toNat zPat).Not then Lb false (patsOk l) else bif decide (y.1>(0:Int)) then(0:Int)≤IntKind.wrap IntKind.i64 (y.1-(1:Int))∧x1<l.length∧bif (List.getD l x1 zPat).Not then(0:Int)≤y.1∧y.1.toNat<l.length∧bif !(List.getD l y.1.toNat zPat).Not then Lb false (patsOk l) else Zi171_2 l (IntKind.wrap IntKind.i64 (y.1+(1:Int)),())∧Zm171_2 l (IntKind.wrap IntKind.i64 (y.1+(1:Int)),())<Zm171_2 l y else Zi171_2 l (IntKind.wrap IntKind.i64 (y.1+(1:Int)),())∧Zm171_2 l (IntKind.wrap IntKind.i64 (y.1+(1:Int)),())<Zm171_2 l y else Zi171_2 l (IntKind.wrap IntKind.i64 (y.1+(1:Int)),())∧Zm171_2 l (IntKind.wrap IntKind.i64 (y.1+(1:Int)),())<Zm171_2 l y else bif decide (y.1>(0:Int)) then(0:Int)≤IntKind.wrap IntKind.i64 (y.1-(1:Int))∧x1<l.length∧bif (List.getD l x1 zPat).Not then(0:Int)≤y.1∧y.1.toNat<l.length∧bif !(List.getD l y.1.toNat zPat).Not then Lb false (patsOk l) else Zi171_2 l (IntKind.wrap IntKind.i64 (y.1+(1:Int)),())∧Zm171_2 l (IntKind.wrap IntKind.i64 (y.1+(1:Int)),())<Zm171_2 l y else Zi171_2 l (IntKind.wrap IntKind.i64 (y.1+(1:Int)),())∧Zm171_2 l (IntKind.wrap IntKind.i64 (y.1+(1:Int)),())<Zm171_2 l y else Zi171_2 l (IntKind.wrap IntKind.i64 (y.1+(1:Int)),())∧Zm171_2 l (IntKind.wrap IntKind.i64 (y.1+(1:Int)),())<Zm171_2 l y else Lb (decide ((1:Int)≤x0∧x0≤(6:Int))) (patsOk l)) (by kernel_rfl)
 dsimp only
 refine⟨⟨by omega,by omega,by intro j hj;omega⟩,?_⟩
 rintro⟨i,⟨⟩⟩ ⟨h1,h2,hR⟩
 simp only
 refine if_dec (fun hc=> ?_) (fun hc=> ?_)
 ·have hN:patAt l i.toNat=false→patsOk l=false:=fun h=>by
   have hf:allI l.length (patAt l)=false:=allI_false (j:=i.toNat) (by omega) h
   simp only[patsOk,hf];simp
  have hm:Zm171_2 l (i+1,PUnit.unit)<Zm171_2 l (i,()):=by simp only[Zm171_2];omega
  have e1:(i-1).toNat=i.toNat-1:=by omega
  simp(disch:=omega) only[wrap_i64]
  simp only[e1]
  have c1:decide (2<i.toNat)=decide (i>2):=decide_eq_decide.2 (by omega)
  have c2:decide (i.toNat=0)=decide (i=0):=decide_eq_decide.2 (by omega)
  have c3:decide (0<i.toNat)=decide (i>0):=decide_eq_decide.2 (by omega)
  have hA:patAt l i.toNat=(patOk (List.getD l i.toNat zPat)&& !(decide (i>2)&& !(List.getD l i.toNat zPat).Not)&& !(decide (i=0)&&(List.getD l i.toNat zPat).Not)&& !(decide (i>0)&&(List.getD l (i.toNat-1) zPat).Not&& !(List.getD l i.toNat zPat).Not)):=by
   simp only[patAt,notAt,c1,c2,c3]
  have hgo:patAt l i.toNat=true→Zi171_2 l (i+1,PUnit.unit)∧Zm171_2 l (i+1,PUnit.unit)<Zm171_2 l (i,()):=fun h=>⟨⟨by omega,by omega,upto_step h1 hR h⟩,hm⟩
  rw[hA] at hN hgo
  generalize (List.getD l (i.toNat-1) zPat).Not=q at*
  generalize (List.getD l i.toNat zPat).Not=r at*
  generalize patOk (List.getD l i.toNat zPat)=s at*
  clear hA c1 c2 c3 hR
  have hlt:i.toNat<l.length:=by omega
  have hlt':i.toNat-1<l.length:=by omega
  have hi1:i>0→0≤i-1:=fun h=>by omega
  repeat' (first|refine Lf_ff (hN ?_)|refine hgo ?_|refine if_dec (fun h=> ?_) (fun h=> ?_)|refine if_num (fun h=> ?_) (fun h=> ?_)|refine if_cond (fun h=> ?_) (fun h=> ?_)|refine And.intro h1 ?_|refine And.intro hlt ?_|refine And.intro hlt' ?_|refine And.intro (hi1 (by assumption)) ?_)
  all_goals (cases q<;>cases r<;>cases s<;>simp at* <;>omega)
 ·have hA:allI l.length (patAt l)=true:=allI_true fun j hj=>hR j (by omega)
  refine Lf_b ?_
  simp only[patsOk,hA,zdb];exact decide_eq_decide.2 (by omega)
def Zh171:HH:=⟨_,Zo171⟩
def Zk101:Con UU where
 α:=DRule
 md:=[.ro]
 of:=o1 (oA .eRule)
 ds:=fun x=>[dA .eRule x]
 pre:=fun r=>[patArgs r.Pats≤4294967295]
 res:=fun r=>⟨[dO (ruleOk r)],true,[]⟩
 law:=l1 (lA .eRule)
def Za101:Zk101.α→Nat→Option (Ann UU):=fun r=>annL []
def Zu101:=us [Zh154,Zh103,Zh104,Zh171,Zh172,Zh173,Zh40]
theorem Zo101:Holds EE (101,Zk101):=by
 refine holds_of EE_ok func101 Zk101 (by kernel_rfl) Zu101 (us_ok _) Za101 (fun(r:DRule) hp hb=> ?_)
 have hz0:=bd_eRule (x:=r) (hb _ m0)
 have hl_r_Name:=hz0.1
 have hl_r_Pats:=hz0.2.1
 have hl_r_Conds:=hz0.2.2.1
 have hl_r_Acts:=hz0.2.2.2
 have hp0:patArgs r.Pats≤4294967295:=hp _ m0
 clear hp hb
 apply @ve _ (patArgs r.Pats≤(4294967296:Nat)∧bif nameOk r.Name then bif decide ((-100:Int)≤r.Sal∧r.Sal≤(100:Int)) then bif patsOk r.Pats then bif kondsIn r.Conds (posVarsS r.Pats) then Lb (actsIn r.Acts (posVarsS r.Pats) (↑(posN r.Pats):Int)) (ruleOk r) else Lb false (ruleOk r) else Lb false (ruleOk r) else Lb false (ruleOk r) else Lb false (ruleOk r)) (by kernel_rfl)
 refine⟨by omega,?_⟩
 simp only[ruleOk]
 repeat' (refine if_cond (fun h=> ?_) (fun h=> ?_))
 all_goals (refine Lf_b ?_;grind)
def Zh101:HH:=⟨_,Zo101⟩
def Zk90:Con UU where
 α:=DRule
 md:=[.ro]
 of:=o1 (oA .eRule)
 ds:=fun x=>[dA .eRule x]
 pre:=fun _=>[]
 res:=fun r=>⟨[dO (patsOkI r.Pats)],true,[]⟩
 law:=l1 (lA .eRule)
def Zi90_4(r:DRule):Int×(ByteArray×Int×List DPat×List DCond×List DAct×Unit)×Unit→Prop:=fun(i,b,_)=>b=(r.Name,r.Sal,r.Pats,r.Conds,r.Acts,())∧0≤i∧i≤r.Pats.length∧(1≤r.Pats.length∧r.Pats.length≤6)∧(1≤posN r.Pats∧posN r.Pats≤3)∧∀j:Nat,(j:Int)<i→patAtI r.Pats j=true
def Zm90_4(r:DRule):Int×(ByteArray×Int×List DPat×List DCond×List DAct×Unit)×Unit→Nat:=fun(i,b,_)=>r.Pats.length-i.toNat
def Za90:Zk90.α→Nat→Option (Ann UU):=fun r=>annL [(4,annOf [.slot 19 (19,1024) (.lit (.int .i64)),.box 1 (1,1024) [.lit .str,.lit (.int .i64),.shr .ePat,.shr .eCond,.shr .eAct]] (fun _=>Zi90_4 r) (Zm90_4 r))]
def Zu90:=us [Zh34,Zh93,Zh165]
theorem Zo90:Holds EE (90,Zk90):=by
 refine holds_of EE_ok func90 Zk90 (by kernel_rfl) Zu90 (us_ok _) Za90 (fun(r:DRule) hp hb=> ?_)
 have hz0:=bd_eRule (x:=r) (hb _ m0)
 have hl_r_Name:=hz0.1
 have hl_r_Pats:=hz0.2.1
 have hl_r_Conds:=hz0.2.2.1
 have hl_r_Acts:=hz0.2.2.2
 clear hp hb
 apply @ve _ (let x0:Int:=(r.Pats.length:Int);bif !decide ((1:Int)≤x0∧x0≤(6:Int)) then Lb false (patsOkI r.Pats) else bif !decide ((1:Int)≤(↑(posN r.Pats):Int)∧(↑(posN r.Pats):Int)≤(3:Int)) then Lb false (patsOkI r.Pats) else Zi90_4 r ((0:Int),(r.Name,r.Sal,r.Pats,r.Conds,r.Acts,()),())∧∀(y:Int×(ByteArray×Int×List DPat×List DCond×List DAct×PUnit)×PUnit),let x1:Int:=(↑(posN y.2.1.2.2.1):Int);Zi90_4 r y→bif decide (y.1<x0) then(0:Int)≤y.1∧y.1.toNat<r.Pats.length∧bif !patOk (List.getD r.Pats y.1.toNat zPat) then Lb false (patsOkI r.Pats) else bif !(List.getD r.Pats y.1.toNat zPat).Not==decide (y.1≥x1) then Lb false (patsOkI r.Pats) else Zi90_4 r (IntKind.wrap IntKind.i64 (y.1+(1:Int)),(y.2.1.1,y.2.1.2.1,y.2.1.2.2.1,y.2.1.2.2.2.1,y.2.1.2.2.2.2.1,()),())∧Zm90_4 r (IntKind.wrap IntKind.i64 (y.1+(1:Int)),(y.2.1.1,y.2.1.2.1,y.2.1.2.2.1,y.2.1.2.2.2.1,y.2.1.2.2.2.2.1,()),())<Zm90_4 r y else Lb true (patsOkI r.Pats)) (by kernel_rfl)
 dsimp only
 refine if_not (fun h=>Lf_ff ?_) (fun h=>if_not (fun h'=>Lf_ff ?_) (fun h'=> ?_))
 ·have h:=of_decide_eq_false h
  simp only[patsOkI];rw[decide_eq_false (by omega)];rfl
 ·have h':=of_decide_eq_false h'
  simp only[patsOkI];rw[decide_eq_false (p:=1≤posN r.Pats∧posN r.Pats≤3) (by omega)];simp
 have h:=of_decide_eq_true h
 have h':=of_decide_eq_true h'
 refine⟨⟨rfl,by omega,by omega,by omega,by omega,by intro j hj;omega⟩,?_⟩
 rintro⟨i,⟨b1,b2,b3,b4,b5,⟨⟩⟩,⟨⟩⟩ ⟨hbx,h1,h2,h3,h4,hR⟩
 cases hbx
 simp only
 refine if_dec (fun hc=> ?_) (fun hc=> ?_)
 ·have hN:patAtI r.Pats i.toNat=false→patsOkI r.Pats=false:=fun h=>by
   have hf:allI r.Pats.length (patAtI r.Pats)=false:=allI_false (j:=i.toNat) (by omega) h
   simp only[patsOkI,hf];simp
  rw[wrap_i64 (by omega) (by omega)]
  have c1:decide (posN r.Pats≤i.toNat)=decide (i≥(posN r.Pats:Int)):=decide_eq_decide.2 (by omega)
  refine⟨by omega,by omega,if_not (fun g=>Lf_ff (hN (by simp only[patAtI,g,zbi]))) (fun g=>if_not (fun k=>Lf_ff (hN ?_)) (fun k=>⟨⟨rfl,by omega,by omega,h3,h4,upto_step h1 hR ?_⟩,by simp only[Zm90_4];omega⟩))⟩
  ·simp only[patAtI,notAt,c1,k];simp
  ·simp only[patAtI,notAt,c1,k,g];rfl
 ·have hA:allI r.Pats.length (patAtI r.Pats)=true:=allI_true fun j hj=>hR j (by omega)
  refine Lf_tt ?_
  simp only[patsOkI,hA,decide_eq_true h3,decide_eq_true h4];rfl
def Zh90:HH:=⟨_,Zo90⟩
def Zk95:Con UU where
 α:=DRule
 md:=[.ro]
 of:=o1 (oA .eRule)
 ds:=fun x=>[dA .eRule x]
 pre:=fun r=>[2*r.Conds.length+usedN r.Acts≤4294967295]
 res:=fun r=>⟨[dL .str (usedV r)],true,[]⟩
 law:=l1 (lA .eRule)
def Zi95_3(r:DRule):List ByteArray×Int×(ByteArray×Int×List DPat×List DCond×List DAct×Unit)×Unit→Prop:=fun(v,i,b,_)=>b=(r.Name,r.Sal,r.Pats,r.Conds,r.Acts,())∧0≤i∧i≤r.Conds.length∧v=(r.Conds.take i.toNat).foldl usedC []
def Zm95_3(r:DRule):List ByteArray×Int×(ByteArray×Int×List DPat×List DCond×List DAct×Unit)×Unit→Nat:=fun(v,i,b,_)=>r.Conds.length-i.toNat
def Zi95_8(r:DRule):List ByteArray×Int×Unit→Prop:=fun(v,i,_)=>0≤i∧i≤r.Acts.length∧v=(r.Acts.take i.toNat).foldl usedA (r.Conds.foldl usedC [])
def Zm95_8(r:DRule):List ByteArray×Int×Unit→Nat:=fun(v,i,_)=>r.Acts.length-i.toNat
def Zi95_11(r:DRule):List ByteArray×Int×Int×Unit→List ByteArray×Int×Int×Unit→Prop:=fun(v0,i0,k0,_) (v,i,k,_)=>i=i0∧0≤k∧k≤(List.getD r.Acts i.toNat zAct).Args.length∧v=((List.getD r.Acts i.toNat zAct).Args.take k.toNat).foldl usedE v0
def Zm95_11(r:DRule):List ByteArray×Int×Int×Unit→Nat:=fun(v,i,k,_)=>(List.getD r.Acts i.toNat zAct).Args.length-k.toNat
def Za95:Zk95.α→Nat→Option (Ann UU):=fun r=>annL [(3,annOf [.slot 3 (3,1024) (.own .str true),.slot 13 (13,1024) (.lit (.int .i64)),.box 1 (1,1024) [.lit .str,.lit (.int .i64),.shr .ePat,.shr .eCond,.shr .eAct]] (fun _=>Zi95_3 r) (Zm95_3 r)),(8,annOf [.slot 3 (3,1024) (.own .str true),.slot 28 (28,1024) (.lit (.int .i64))] (fun _=>Zi95_8 r) (Zm95_8 r)),(11,annOf [.slot 3 (3,1024) (.own .str true),.slot 28 (28,1024) (.lit (.int .i64)),.slot 35 (35,1024) (.lit (.int .i64))] (Zi95_11 r) (Zm95_11 r))]
def Zu95:=us [Zh168]
theorem Zo95:Holds EE (95,Zk95):=by
 refine holds_of EE_ok func95 Zk95 (by kernel_rfl) Zu95 (us_ok _) Za95 (fun(r:DRule) hp hb=> ?_)
 have hz0:=bd_eRule (x:=r) (hb _ m0)
 have hl_r_Name:=hz0.1
 have hl_r_Pats:=hz0.2.1
 have hl_r_Conds:=hz0.2.2.1
 have hl_r_Acts:=hz0.2.2.2
 have hp0:2*r.Conds.length+usedN r.Acts≤4294967295:=hp _ m0
 clear hp hb
 apply @ve _ (Zi95_3 r ([],(0:Int),(r.Name,r.Sal,r.Pats,r.Conds,r.Acts,()),())∧∀(y:List ByteArray×Int×(ByteArray×Int×List DPat×List DCond×List DAct×PUnit)×PUnit),let x2:Nat:=y.2.2.1.2.2.2.2.1.length;let x4:Nat:=y.2.1.toNat;let x1:Int:=(↑x2:Int);let x3:DCond:=List.getD r.Conds x4 zCond;let x0:List DArg:=[x3.L,x3.R];Zi95_3 r y→bif decide (y.2.1<(r.Conds.length:Int)) then(0:Int)≤y.2.1∧x4<r.Conds.length∧y.1.length+x0.length≤(4294967295:Nat)∧Zi95_3 r (addVars y.1 x0,IntKind.wrap IntKind.i64 (y.2.1+(1:Int)),(y.2.2.1.1,y.2.2.1.2.1,y.2.2.1.2.2.1,y.2.2.1.2.2.2.1,y.2.2.1.2.2.2.2.1,()),())∧Zm95_3 r (addVars y.1 x0,IntKind.wrap IntKind.i64 (y.2.1+(1:Int)),(y.2.2.1.1,y.2.2.1.2.1,y.2.2.1.2.2.1,y.2.2.1.2.2.2.1,y.2.2.1.2.2.2.2.1,()),())<Zm95_3 r y else Zi95_8 r (y.1,(0:Int),())∧∀(y_1:List ByteArray×Int×PUnit),let x8:Nat:=y_1.2.1.toNat;let x7:List DExpr:=(List.getD y.2.2.1.2.2.2.2.1 x8 zAct).Args;let x6:Nat:=x7.length;let x5:Int:=(↑x6:Int);Zi95_8 r y_1→bif decide (y_1.2.1<x1) then(0:Int)≤y_1.2.1∧x8<x2∧Zi95_11 r (y_1.1,y_1.2.1,(0:Int),()) (y_1.1,y_1.2.1,(0:Int),())∧∀(y:List ByteArray×Int×Int×PUnit),let x11:Nat:=y.2.2.1.toNat;let x10:DExpr:=List.getD x7 x11 zExpr;let x9:List DArg:=[x10.L,x10.R];Zi95_11 r (y_1.1,y_1.2.1,(0:Int),()) y→bif decide (y.2.2.1<x5) then(0:Int)≤y.2.2.1∧x11<x6∧y.1.length+x9.length≤(4294967295:Nat)∧Zi95_11 r (y_1.1,y_1.2.1,(0:Int),()) (addVars y.1 x9,y.2.1,IntKind.wrap IntKind.i64 (y.2.2.1+(1:Int)),())∧Zm95_11 r (addVars y.1 x9,y.2.1,IntKind.wrap IntKind.i64 (y.2.2.1+(1:Int)),())<Zm95_11 r y else Zi95_8 r (y.1,IntKind.wrap IntKind.i64 (y.2.1+(1:Int)),())∧Zm95_8 r (y.1,IntKind.wrap IntKind.i64 (y.2.1+(1:Int)),())<Zm95_8 r y_1 else Lf [VL .str y_1.1] [VL .str (usedV r)]) (by kernel_rfl)
 dsimp only
 refine⟨⟨rfl,by omega,by omega,rfl⟩,?_⟩
 rintro⟨v,i,⟨b1,b2,b3,b4,b5,⟨⟩⟩,⟨⟩⟩ ⟨hbx,h1,h2,rfl⟩
 cases hbx
 simp only
 refine if_dec (fun hc=> ?_) (fun hc=> ?_)
 ·have hs:=foldl_step usedC [] r.Conds zCond h1 hc
  have hl:=usedCs_len (r.Conds.take i.toNat) []
  have hl2:(r.Conds.take i.toNat).length≤i.toNat:=by rw[zaw];omega
  simp only[zbo] at hl
  rw[wrap_i64 (by omega) (by omega)]
  refine⟨by omega,by omega,by simp only[zbq,zbo];omega,⟨rfl,by omega,by omega,hs.symm⟩,by simp only[Zm95_3];omega⟩
 rw[take_all r.Conds (by omega)]
 have hl0:=usedCs_len r.Conds []
 simp only[zbo] at hl0
 refine⟨⟨by omega,by omega,rfl⟩,?_⟩
 rintro⟨v,i,⟨⟩⟩ ⟨g1,g2,rfl⟩
 simp only
 refine if_dec (fun hc=> ?_) (fun hc=> ?_)
 ·have hs:=foldl_step usedA (r.Conds.foldl usedC []) r.Acts zAct g1 hc
  have ha:=usedN_at r.Acts g1 hc
  have hl:=usedAs_len (r.Acts.take i.toNat) (r.Conds.foldl usedC [])
  refine⟨by omega,by omega,⟨rfl,by omega,by omega,rfl⟩,?_⟩
  rintro⟨v,i',k,⟨⟩⟩ ⟨rfl,k1,k2,rfl⟩
  simp only
  have hle:=usedE_len ((List.getD r.Acts i'.toNat zAct).Args.take k.toNat) ((r.Acts.take i'.toNat).foldl usedA (r.Conds.foldl usedC []))
  have hl2:((List.getD r.Acts i'.toNat zAct).Args.take k.toNat).length≤k.toNat:=by rw[zaw];omega
  refine if_dec (fun hk=> ?_) (fun hk=> ?_)
  ·have hf:=foldl_step usedE ((r.Acts.take i'.toNat).foldl usedA (r.Conds.foldl usedC [])) (List.getD r.Acts i'.toNat zAct).Args zExpr k1 hk
   rw[wrap_i64 (by omega) (by omega)]
   exact⟨by omega,by omega,by simp only[zbq,zbo];omega,⟨rfl,by omega,by omega,hf.symm⟩,by simp only[Zm95_11];omega⟩
  ·rw[wrap_i64 (by omega) (by omega)]
   refine⟨⟨by omega,by omega,?_⟩,by simp only[Zm95_8];omega⟩
   rw[hs,take_all (List.getD r.Acts i'.toNat zAct).Args (by omega)];rfl
 ·rw[take_all r.Acts (by omega)]
  exact Lf_rfl _
def Zh95:HH:=⟨_,Zo95⟩
def Zk35:Con UU where
 α:=DRule
 md:=[.ro]
 of:=o1 (oA .eRule)
 ds:=fun x=>[dA .eRule x]
 pre:=fun _=>[]
 res:=fun r=>⟨[dO (ruleOk r)],true,[]⟩
 law:=l1 (lA .eRule)
def Zi35_6(r:DRule):Int×(ByteArray×Int×List DPat×List DCond×List DAct×Unit)×Unit→Prop:=fun(i,b,_)=>b=(r.Name,r.Sal,r.Pats,r.Conds,r.Acts,())∧0≤i∧i≤r.Conds.length∧(r.Conds.drop i.toNat).all kondOk=r.Conds.all kondOk
def Zm35_6(r:DRule):Int×(ByteArray×Int×List DPat×List DCond×List DAct×Unit)×Unit→Nat:=fun(i,b,_)=>r.Conds.length-i.toNat
def Zi35_12(r:DRule):Int×(ByteArray×Int×List DPat×List DCond×List DAct×Unit)×Unit→Prop:=fun(i,b,_)=>b=(r.Name,r.Sal,r.Pats,r.Conds,r.Acts,())∧0≤i∧i≤r.Acts.length∧(r.Acts.drop i.toNat).all (fun a=>actOk a&&dropIn (posN r.Pats) a)=r.Acts.all (fun a=>actOk a&&dropIn (posN r.Pats) a)
def Zm35_12(r:DRule):Int×(ByteArray×Int×List DPat×List DCond×List DAct×Unit)×Unit→Nat:=fun(i,b,_)=>r.Acts.length-i.toNat
def Zi35_19(r:DRule):Int×List ByteArray×List ByteArray×Unit→Prop:=fun(i,v,u,_)=>v=posVars r.Pats∧u=usedV r∧0≤i∧i≤(usedV r).length∧((usedV r).drop i.toNat).all (hasS (posVars r.Pats))=(usedV r).all (hasS (posVars r.Pats))
def Zm35_19(r:DRule):Int×List ByteArray×List ByteArray×Unit→Nat:=fun(i,v,u,_)=>(usedV r).length-i.toNat
def Za35:Zk35.α→Nat→Option (Ann UU):=fun r=>annL [(6,annOf [.slot 39 (39,1024) (.lit (.int .i64)),.box 1 (1,1024) [.lit .str,.lit (.int .i64),.shr .ePat,.shr .eCond,.shr .eAct]] (fun _=>Zi35_6 r) (Zm35_6 r)),(12,annOf [.slot 50 (50,1024) (.lit (.int .i64)),.box 1 (1,1024) [.lit .str,.lit (.int .i64),.shr .ePat,.shr .eCond,.shr .eAct]] (fun _=>Zi35_12 r) (Zm35_12 r)),(19,annOf [.slot 75 (75,1024) (.lit (.int .i64)),.slot 7 (7,1024) (.own .str true),.slot 73 (73,1024) (.own .str true)] (fun _=>Zi35_19 r) (Zm35_19 r))]
def Zu35:=us [Zh33,Zh34,Zh90,Zh91,Zh92,Zh93,Zh94,Zh95,Zh96]
theorem Zo35:Holds EE (35,Zk35):=by
 refine holds_of EE_ok func35 Zk35 (by kernel_rfl) Zu35 (us_ok _) Za35 (fun(r:DRule) hp hb=> ?_)
 have hz0:=bd_eRule (x:=r) (hb _ m0)
 have hl_r_Name:=hz0.1
 have hl_r_Pats:=hz0.2.1
 have hl_r_Conds:=hz0.2.2.1
 have hl_r_Acts:=hz0.2.2.2
 clear hp hb
 apply @ve _ (let x0:Int:=(r.Conds.length:Int);bif !nameOk r.Name then Lb false (ruleOk r) else bif !decide ((-100:Int)≤r.Sal∧r.Sal≤(100:Int)) then Lb false (ruleOk r) else bif !patsOkI r.Pats then Lb false (ruleOk r) else bif decide (x0>(6:Int)) then Lb false (ruleOk r) else bif !decide ((1:Int)≤(r.Acts.length:Int)∧(r.Acts.length:Int)≤(6:Int)) then Lb false (ruleOk r) else Zi35_6 r ((0:Int),(r.Name,r.Sal,r.Pats,r.Conds,r.Acts,()),())∧∀(y:Int×(ByteArray×Int×List DPat×List DCond×List DAct×PUnit)×PUnit),let x2:Nat:=y.2.1.2.2.2.2.1.length;let x1:Int:=(↑x2:Int);Zi35_6 r y→bif decide (y.1<x0) then(0:Int)≤y.1∧y.1.toNat<r.Conds.length∧bif !kondOk (List.getD r.Conds y.1.toNat zCond) then Lb false (ruleOk r) else Zi35_6 r (IntKind.wrap IntKind.i64 (y.1+(1:Int)),(y.2.1.1,y.2.1.2.1,y.2.1.2.2.1,y.2.1.2.2.2.1,y.2.1.2.2.2.2.1,()),())∧Zm35_6 r (IntKind.wrap IntKind.i64 (y.1+(1:Int)),(y.2.1.1,y.2.1.2.1,y.2.1.2.2.1,y.2.1.2.2.2.1,y.2.1.2.2.2.2.1,()),())<Zm35_6 r y else Zi35_12 r ((0:Int),(y.2.1.1,y.2.1.2.1,y.2.1.2.2.1,y.2.1.2.2.2.1,y.2.1.2.2.2.2.1,()),())∧∀(y_1:Int×(ByteArray×Int×List DPat×List DCond×List DAct×PUnit)×PUnit),let x4:List ByteArray:=usedV {Name:=y_1.2.1.1,Sal:=y_1.2.1.2.1,Pats:=y_1.2.1.2.2.1,Conds:=y_1.2.1.2.2.2.1,Acts:=y_1.2.1.2.2.2.2.1:DRule};let x5:DAct:=List.getD y.2.1.2.2.2.2.1 y_1.1.toNat zAct;let x6:Int:=(↑(posN y_1.2.1.2.2.1):Int);let x3:Int:=(x4.length:Int);Zi35_12 r y_1→bif decide (y_1.1<x1) then(0:Int)≤y_1.1∧y_1.1.toNat<x2∧bif !actOk x5 then Lb false (ruleOk r) else bif x5.Kind==(2:Int) then bif decide (x5.N≥x6) then Lb false (ruleOk r) else Zi35_12 r (IntKind.wrap IntKind.i64 (y_1.1+(1:Int)),(y_1.2.1.1,y_1.2.1.2.1,y_1.2.1.2.2.1,y_1.2.1.2.2.2.1,y_1.2.1.2.2.2.2.1,()),())∧Zm35_12 r (IntKind.wrap IntKind.i64 (y_1.1+(1:Int)),(y_1.2.1.1,y_1.2.1.2.1,y_1.2.1.2.2.1,y_1.2.1.2.2.2.1,y_1.2.1.2.2.2.2.1,()),())<Zm35_12 r y_1 else Zi35_12 r (IntKind.wrap IntKind.i64 (y_1.1+(1:Int)),(y_1.2.1.1,y_1.2.1.2.1,y_1.2.1.2.2.1,y_1.2.1.2.2.2.1,y_1.2.1.2.2.2.2.1,()),())∧Zm35_12 r (IntKind.wrap IntKind.i64 (y_1.1+(1:Int)),(y_1.2.1.1,y_1.2.1.2.1,y_1.2.1.2.2.1,y_1.2.1.2.2.2.1,y_1.2.1.2.2.2.2.1,()),())<Zm35_12 r y_1 else patArgs y_1.2.1.2.2.1≤(4294967295:Nat)∧(2:Nat)*y_1.2.1.2.2.2.1.length+usedN y_1.2.1.2.2.2.2.1≤(4294967295:Nat)∧Zi35_19 r ((0:Int),posVars y_1.2.1.2.2.1,x4,())∧∀(y:Int×List ByteArray×List ByteArray×PUnit),Zi35_19 r y→bif decide (y.1<x3) then(0:Int)≤y.1∧y.1.toNat<y.2.2.1.length∧y.1.toNat<y.2.2.1.length∧bif !hasS y.2.1 (List.getD y.2.2.1 y.1.toNat noBytes) then Lb false (ruleOk r) else Zi35_19 r (IntKind.wrap IntKind.i64 (y.1+(1:Int)),y.2.1,y.2.2.1,())∧Zm35_19 r (IntKind.wrap IntKind.i64 (y.1+(1:Int)),y.2.1,y.2.2.1,())<Zm35_19 r y else Lb true (ruleOk r)) (by kernel_rfl)
 dsimp only
 have hF:ruleOkI r=false→ruleOk r=false:=fun h=>by rw[←ruleOkI_eq];exact h
 refine if_not (fun a1=>Lf_ff (hF (by simp[ruleOkI,a1]))) (fun a1=>if_not (fun a2=>Lf_ff (hF (by simp only[ruleOkI,a2];simp))) (fun a2=>if_not (fun a3=>Lf_ff (hF ?_)) (fun a3=>if_dec (fun a4=>Lf_ff (hF ?_)) (fun a4=>if_not (fun a5=>Lf_ff (hF ?_)) (fun a5=> ?_)))))
 ·rw[patsOkI_eq] at a3;simp[ruleOkI,a3]
 ·simp only[ruleOkI];rw[decide_eq_false (p:=r.Conds.length≤6) (by omega)];simp
 ·have a5:=of_decide_eq_false a5
  simp only[ruleOkI];rw[decide_eq_false (p:=1≤r.Acts.length∧r.Acts.length≤6) (by omega)];simp
 rw[patsOkI_eq] at a3
 have a5:=of_decide_eq_true a5
 refine⟨⟨rfl,by omega,by omega,rfl⟩,?_⟩
 rintro⟨i,⟨b1,b2,b3,b4,b5,⟨⟩⟩,⟨⟩⟩ ⟨hbx,h1,h2,hR⟩
 cases hbx
 simp only
 refine if_dec (fun hc=> ?_) (fun hc=> ?_)
 ·rw[all_step _ _ zCond h1 (by omega)] at hR
  rw[wrap_i64 (by omega) (by omega)]
  refine⟨by omega,by omega,if_not (fun g=>Lf_ff (hF ?_)) (fun g=>⟨⟨rfl,by omega,by omega,?_⟩,by simp only[Zm35_6];omega⟩)⟩
  ·simp only[ruleOkI,←hR,g];simp
  ·rw[←hR,g];rfl
 rw[drop_end _ (by omega)] at hR
 have a6:r.Conds.all kondOk=true:=hR.symm
 refine⟨⟨rfl,by omega,by omega,rfl⟩,?_⟩
 rintro⟨i,⟨b1,b2,b3,b4,b5,⟨⟩⟩,⟨⟩⟩ ⟨hbx,g1,g2,gR⟩
 cases hbx
 simp only
 refine if_dec (fun hc=> ?_) (fun hc=> ?_)
 ·rw[all_step _ _ zAct g1 (by omega)] at gR
  rw[wrap_i64 (by omega) (by omega)]
  have hN:(actOk (List.getD r.Acts i.toNat zAct)&&dropIn (posN r.Pats) (List.getD r.Acts i.toNat zAct))=false→ruleOk r=false:=fun h=>hF (by simp only[ruleOkI,←gR,h];simp)
  have hgo:actOk (List.getD r.Acts i.toNat zAct)=true→dropIn (posN r.Pats) (List.getD r.Acts i.toNat zAct)=true→(r.Acts.drop (i+1).toNat).all (fun a=>actOk a&&dropIn (posN r.Pats) a)=r.Acts.all (fun a=>actOk a&&dropIn (posN r.Pats) a):=fun e1 e2=>by rw[←gR,e1,e2];rfl
  refine⟨by omega,by omega,if_not (fun ha=>Lf_ff (hN (by rw[ha];rfl))) (fun ha=>if_num (fun hk2=>if_dec (fun hp=>Lf_ff (hN ?_)) (fun hp=>⟨⟨rfl,by omega,by omega,hgo ha ?_⟩,by simp only[Zm35_12];omega⟩)) (fun hk2=>⟨⟨rfl,by omega,by omega,hgo ha ?_⟩,by simp only[Zm35_12];omega⟩))⟩
  ·simp only[dropIn,hk2,decide_eq_true (show(posN r.Pats:Int)≤(List.getD r.Acts i.toNat zAct).N from hp)];simp
  ·simp only[dropIn,decide_eq_false (show¬(posN r.Pats:Int)≤(List.getD r.Acts i.toNat zAct).N from hp)];simp
  ·simp only[dropIn,decide_eq_false hk2];simp
 rw[drop_end _ (by omega)] at gR
 have a7:r.Acts.all (fun a=>actOk a&&dropIn (posN r.Pats) a)=true:=gR.symm
 have hpa:=patsOk_args a3
 have hus:=actsOk_used (l:=r.Acts) (by omega) (fun a ha=>by
  have:=zcb.1 a7 a ha
  simp only[zaf] at this
  exact this.1)
 have hul:(usedV r).length≤2*r.Conds.length+usedN r.Acts:=by
  have q1:=usedAs_len r.Acts (r.Conds.foldl usedC [])
  have q2:=usedCs_len r.Conds []
  simp only[zbo] at q2
  simp only[usedV];omega
 refine⟨by omega,by omega,⟨rfl,rfl,by omega,by omega,rfl⟩,?_⟩
 rintro⟨i,v,u,⟨⟩⟩ ⟨rfl,rfl,k1,k2,kR⟩
 simp only
 refine if_dec (fun hk=> ?_) (fun hk=> ?_)
 ·rw[all_step _ _ noBytes k1 hk] at kR
  rw[wrap_i64 (by omega) (by omega)]
  have hk':i<(usedV r).length:=hk
  refine⟨by omega,by omega,by omega,if_not (fun g=>Lf_ff (hF ?_)) (fun g=>⟨⟨rfl,rfl,by omega,by omega,?_⟩,by simp only[Zm35_19];omega⟩)⟩
  ·simp only[ruleOkI,←kR,g];simp
  ·rw[←kR,g];rfl
 ·have hk':¬i<(usedV r).length:=hk
  rw[drop_end _ (by omega)] at kR
  refine Lf_tt ?_
  rw[←ruleOkI_eq]
  simp only[ruleOkI,a1,a2,a3,a6,a7,←kR,decide_eq_true (show r.Conds.length≤6 by omega),decide_eq_true (show 1≤r.Acts.length∧r.Acts.length≤6 by omega)];rfl
def Zh35:HH:=⟨_,Zo35⟩
def daRule(x:DRule):DA UU:=⟨true,[.lit (.string x.Name),.lit (.int .i64 x.Sal),.sl .ePat x.Pats,.sl .eCond x.Conds,.sl .eAct x.Acts]⟩
def ruleAt(l:List DRule)(name:ByteArray):Int:=idxI l.length fun k=>decide ((List.getD l k zRule).Name=name)
def defAtR(l:List DRule)(i:Nat):Bool:=ruleOk (List.getD l i zRule)&&decide (ruleAt l (List.getD l i zRule).Name=i)
def defOk(d:DDef):Bool:=nameOk d.Name&&decide (1≤d.Rules.length∧d.Rules.length≤12)&&allI d.Rules.length (defAtR d.Rules)
theorem rule_size{l:List DRule}{i:Int}(h0:0≤i)(h:i<l.length):patArgs (List.getD l i.toNat zRule).Pats≤sizeRuleS l:=by
 have hs:=sum_getD_le sizeRule l zRule h0 h
 have hp:=patArgs_size (List.getD l i.toNat zRule).Pats
 simp only[sizeRule] at hs
 simp only[sizeRuleS,sizeRule];omega
def idAt(l:List DItem)(f:DFact):Int:=idxI l.length fun k=>decide ((List.getD l k zItem).F=f)
def idOf(l:List DItem)(f:DFact):Int:=if idAt l f= -1 then 0 else(List.getD l (idAt l f).toNat zItem).Id
def baseAt(s:DStore)(i:Nat):Bool:=factOk (List.getD s.Items i zItem).F&&decide (1≤(List.getD s.Items i zItem).Id)&&decide ((List.getD s.Items i zItem).Id<s.Next)&& !(decide (0<i)&&decide ((List.getD s.Items i zItem).Id≤(List.getD s.Items (i-1) zItem).Id))
def itemAt(s:DStore)(i:Nat):Bool:=baseAt s i&&decide (idOf s.Items (List.getD s.Items i zItem).F=(List.getD s.Items i zItem).Id)
def itemAtI(s:DStore)(i:Nat):Bool:=baseAt s i&& !(anyI i fun k=>decide ((List.getD s.Items i zItem).F=(List.getD s.Items k zItem).F))
def storeOk(s:DStore):Bool:=decide (1≤s.Next∧s.Next≤1000000)&&decide (s.Items.length≤40)&&allI s.Items.length (itemAt s)
theorem base_ids{s:DStore}(h:∀i,i<s.Items.length→baseAt s i=true):∀j i,j<i→i<s.Items.length→(List.getD s.Items j zItem).Id<(List.getD s.Items i zItem).Id:=by
 intro j i hij hi
 have step:∀m,m+1<s.Items.length→(List.getD s.Items m zItem).Id<(List.getD s.Items (m+1) zItem).Id:=fun m hm=>by
  have:=h (m+1) hm
  simp only[baseAt,zaf,zbd,Bool.and_eq_false_iff,decide_eq_false_iff_not,decide_eq_true_eq,Nat.add_sub_cancel] at this
  have:=this.2
  omega
 obtain⟨k,rfl⟩:∃k,i=j+1+k:=⟨i-j-1,by omega⟩
 clear hij
 induction k with
 |zero=>exact step j hi
 |succ k ih=>exact Int.lt_trans (ih (by omega)) (step (j+1+k) hi)
theorem store_same(s:DStore):allI s.Items.length (itemAtI s)=allI s.Items.length (itemAt s):=by
 rw[zcm,allI_all,allI_all]
 have hfst:∀i,i<s.Items.length→∃m,m≤i∧idAt s.Items (List.getD s.Items i zItem).F=(m:Int)∧(List.getD s.Items m zItem).F=(List.getD s.Items i zItem).F∧∀j,j<m→¬(List.getD s.Items j zItem).F=(List.getD s.Items i zItem).F:=by
  intro i hi
  rcases idxI_cases s.Items.length (fun k=>decide ((List.getD s.Items k zItem).F=(List.getD s.Items i zItem).F)) with⟨_,h2⟩|⟨m,g1,g2,g3,g4⟩
  ·have:=h2 i hi;simp at this
  ·refine⟨m,?_,g2,of_decide_eq_true g3,fun j hj=>of_decide_eq_false (g4 j hj)⟩
   rcases zba i m with g|g
   ·have:=g4 i g;simp at this
   ·exact g
 have hid:∀i m:Nat,idAt s.Items (List.getD s.Items i zItem).F=(m:Int)→idOf s.Items (List.getD s.Items i zItem).F=(List.getD s.Items m zItem).Id:=fun i m h=>by
  rw[idOf,h,if_neg (by omega)];simp
 constructor
 ·intro h i hi
  have hi2:=h i hi
  simp only[itemAtI,zaf,zbd] at hi2
  obtain⟨m,m1,m2,m3,m4⟩:=hfst i hi
  have:m=i:=by
   rcases zba m i with g|g
   ·have:=anyI_not.1 hi2.2 m g
    exact absurd m3.symm (of_decide_eq_false this)
   ·omega
  subst this
  simp only[itemAt,hi2.1,hid m m m2,decide_true,zdb]
 ·intro h i hi
  have hb:∀i,i<s.Items.length→baseAt s i=true:=fun i hi=>by
   have:=h i hi
   simp only[itemAt,zaf] at this
   exact this.1
  have hi2:=h i hi
  simp only[itemAt,zaf,decide_eq_true_eq] at hi2
  have hno:(anyI i fun k=>decide ((List.getD s.Items i zItem).F=(List.getD s.Items k zItem).F))=false:=anyI_false fun k hk=>decide_eq_false fun e=>by
   obtain⟨m,m1,m2,m3,m4⟩:=hfst i hi
   have hmk:m≤k:=by
    rcases zba k m with g|g
    ·exact absurd e.symm (m4 k g)
    ·exact g
   have:=base_ids hb m i (by omega) hi
   rw[hid i m m2] at hi2
   omega
  simp only[itemAtI,hi2.1,hno];rfl
def hasR(d:DDef)(m:DMatch):Bool:=decide (0≤m.Rule)&&decide (m.Rule<(d.Rules.length:Int))
def Zk97:Con UU where
 α:=(List DRule)×(List (DA UU)→Option Value)
 md:=[.ro,.ro]
 of:=oC (oL .eRule) (o1 oF)
 ds:=fun x=>[dL .eRule x.1,dF x.2]
 pre:=fun(l,p)=>[∀j:Nat,j<l.length→p [daRule (List.getD l j zRule)]=some (.bool (boolOf (p [daRule (List.getD l j zRule)])))]
 res:=fun(l,p)=>⟨[dI (idxI l.length (fun j=>boolOf (p [daRule (List.getD l j zRule)])))],true,[]⟩
 law:=lC (lL .eRule) (l1 lF)
def Zi97_2(l:(List DRule))(p:(List (DA UU)→Option Value)):Int×Unit→Prop:=fun(i,_)=>0≤i∧i≤l.length∧∀j:Nat,(j:Int)<i→boolOf (p [daRule (List.getD l j zRule)])=false
def Zm97_2(l:(List DRule))(p:(List (DA UU)→Option Value)):Int×Unit→Nat:=fun(i,_)=>l.length-i.toNat
def Za97:Zk97.α→Nat→Option (Ann UU):=fun(l,p)=>annL [(2,annOf [.slot 8 (8,1024) (.lit (.int .i64))] (fun _=>Zi97_2 l p) (Zm97_2 l p))]
def Zu97:List (FuncId×Con UU):=[]
theorem Zo97:Holds EE (97,Zk97):=by
 refine holds_of EE_ok func97 Zk97 (by kernel_rfl) Zu97 all_nil Za97 (fun x hp hb=> ?_)
 obtain⟨l,p⟩:=x
 have hl_l:l.length≤9223372036854775807:=bdL (hb _ m0)
 have hp0:∀j:Nat,j<l.length→p [daRule (List.getD l j zRule)]=some (.bool (boolOf (p [daRule (List.getD l j zRule)]))):=hp _ m0
 clear hp hb
 apply @ve _ (Zi97_2 l p ((0:Int),())∧∀(y:Int×PUnit),let x1:DRule:=List.getD l y.1.toNat zRule;let x0:Bool:=boolOf (p [{agg:=true,cs:=[CS x1.Name,CI x1.Sal,CL .ePat x1.Pats,CL .eCond x1.Conds,CL .eAct x1.Acts]:DA UU}]);Zi97_2 l p y→bif decide (y.1<(l.length:Int)) then(0:Int)≤y.1∧y.1.toNat<l.length∧p [{agg:=true,cs:=[CS x1.Name,CI x1.Sal,CL .ePat x1.Pats,CL .eCond x1.Conds,CL .eAct x1.Acts]:DA UU}]=some (Value.bool x0)∧bif x0 then Li y.1 (idxI (l.length) fun(j:Nat)=>boolOf (p [daRule (List.getD l j zRule)])) else Zi97_2 l p (IntKind.wrap IntKind.i64 (y.1+(1:Int)),())∧Zm97_2 l p (IntKind.wrap IntKind.i64 (y.1+(1:Int)),())<Zm97_2 l p y else Li (-1:Int) (idxI (l.length) fun(j:Nat)=>boolOf (p [daRule (List.getD l j zRule)]))) (by kernel_rfl)
 dsimp only
 refine⟨⟨by omega,by omega,by intro j hj;omega⟩,?_⟩
 rintro⟨i,⟨⟩⟩ ⟨h1,h2,hR⟩
 simp only[daRule] at*
 refine if_cond (fun hc=> ?_) (fun hc=> ?_)
 ·have hc:=of_decide_eq_true hc
  rw[wrap_i64 (by omega) (by omega)]
  refine⟨by omega,by omega,hp0 i.toNat (by omega),if_cond (fun h=>Lf_i ?_) (fun h=>⟨⟨by omega,by omega,upto_no (p:=fun j=>boolOf (p [daRule (List.getD l j zRule)])) h1 hR h⟩,by simp only[Zm97_2];omega⟩)⟩
  rw[idxI_found (i:=i.toNat) (by omega) h (fun j hj=>hR j (by omega))]
  omega
 ·have hc:=of_decide_eq_false hc
  exact Lf_i (idxI_none (fun j hj=>hR j (by omega))).symm
def Zh97:HH:=⟨_,Zo97⟩
def Zk98:Con UU where
 α:=DRule×ByteArray
 md:=[.ro,.ro]
 of:=fun|[.agg [.lit (.string a0),.lit (.int .i64 a1),.sl .ePat a2,.sl .eCond a3,.sl .eAct a4],.ptr [.lit (.string a5)]]=>some (⟨a0,a1,a2,a3,a4⟩,a5)|_=>none
 ds:=fun(r,name)=>[.agg [.lit (.string r.Name),.lit (.int .i64 r.Sal),.sl .ePat r.Pats,.sl .eCond r.Conds,.sl .eAct r.Acts],.ptr [.lit (.string name)]]
 pre:=fun(r,name)=>[]
 res:=fun(r,name)=>⟨[.one (.lit (.bool (decide (r.Name=name))))],true,[]⟩
 law:=by intro l x h;(try simp only at h);split at h<;>cases h;rfl
def Za98:Zk98.α→Nat→Option (Ann UU):=fun(r,name)=>annL []
def Zu98:List (FuncId×Con UU):=[]
theorem Zo98:Holds EE (98,Zk98):=by
 refine holds_of EE_ok func98 Zk98 (by kernel_rfl) Zu98 all_nil Za98 (fun x hp hb=> ?_)
 obtain⟨r,name⟩:=x
 have hb_r:BdDV (U:=UU) (.agg [.lit (.string r.Name),.lit (.int .i64 r.Sal),.sl .ePat r.Pats,.sl .eCond r.Conds,.sl .eAct r.Acts]):=hb _ (zab)
 have hl_r_Name:r.Name.size≤9223372036854775807:=Bd.str (hb_r _ (by simp))
 have hl_r_Pats:r.Pats.length≤9223372036854775807:=Bd.len (U:=UU) (τ:=.ePat) (xs:=r.Pats) (hb_r _ (by simp))
 have hl_r_Conds:r.Conds.length≤9223372036854775807:=Bd.len (U:=UU) (τ:=.eCond) (xs:=r.Conds) (hb_r _ (by simp))
 have hl_r_Acts:r.Acts.length≤9223372036854775807:=Bd.len (U:=UU) (τ:=.eAct) (xs:=r.Acts) (hb_r _ (by simp))
 have hb_name:BdDV (U:=UU) (.ptr [.lit (.string name)]):=hb _ (zaa _ (zab))
 have hl_name:name.size≤9223372036854775807:=Bd.str (hb_name _ (by simp))
 clear hp hb
 apply @ve _ (Lb (ByteArray.toList r.Name==ByteArray.toList name) (decide (r.Name=name))) (by kernel_rfl)
 rw[toList_beq]
 exact Lf_rfl _
def Zh98:HH:=⟨_,Zo98⟩
def Zk36:Con UU where
 α:=DDef×ByteArray
 md:=[.ro,.ro]
 of:=oC (oA .eDef) (o1 oS)
 ds:=fun x=>[dA .eDef x.1,dS x.2]
 pre:=fun _=>[]
 res:=fun(d,name)=>⟨[dI (ruleAt d.Rules name)],true,[]⟩
 law:=lC (lA .eDef) (l1 lS)
def Za36:Zk36.α→Nat→Option (Ann UU):=fun(d,name)=>annL []
def Zu36:=us [Zh97,Zh98]
theorem Zo36:Holds EE (36,Zk36):=by
 refine holds_of EE_ok func36 Zk36 (by kernel_rfl) Zu36 (us_ok _) Za36 (fun x hp hb=> ?_)
 obtain⟨d,name⟩:=x
 have hz0:=bd_eDef (x:=d) (hb _ m0)
 have hl_d_Name:=hz0.1
 have hl_d_Rules:=hz0.2
 have hl_name:=bdS (s:=name) (hb _ m1)
 clear hp hb
 apply @ve _ ((∀(j:Nat),j<d.Rules.length→closP Zk98 [DV.ptr [CS name]] [daRule (List.getD d.Rules j zRule)]=some (Value.bool (boolOf (closP Zk98 [DV.ptr [CS name]] [daRule (List.getD d.Rules j zRule)]))))∧Li (idxI (d.Rules.length) fun(j:Nat)=>boolOf (closP Zk98 [DV.ptr [CS name]] [daRule (List.getD d.Rules j zRule)])) (ruleAt d.Rules name)) (by kernel_rfl)
 have hc:∀x:DRule,closP Zk98 [.ptr [.lit (.string name)]] [daRule x]=some (.bool (decide (x.Name=name))):=fun x=>closP_of (x:=(x,name)) rfl rfl rfl rfl (by simp[Zk98])
 refine⟨fun j hj=> ?_,Lf_i ?_⟩
 ·show closP Zk98 [.ptr [.lit (.string name)]] [daRule (List.getD d.Rules j zRule)]=_
  rw[hc];rfl
 ·exact idxI_congr fun j hj=>by
   show boolOf (closP Zk98 [.ptr [.lit (.string name)]] [daRule (List.getD d.Rules j zRule)])=_
   rw[hc];rfl
def Zh36:HH:=⟨_,Zo36⟩
def Zk102:Con UU where
 α:=DDef×ByteArray
 md:=[.ro,.ro]
 of:=oC (oA .eDef) (o1 oS)
 ds:=fun x=>[dA .eDef x.1,dS x.2]
 pre:=fun _=>[]
 res:=fun(d,name)=>⟨[dI (ruleAt d.Rules name)],true,[]⟩
 law:=lC (lA .eDef) (l1 lS)
def Zi102_2(d:DDef)(name:ByteArray):Int×(ByteArray×List DRule×Unit)×Unit→Prop:=fun(i,fb,_)=>fb=(d.Name,d.Rules,())∧0≤i∧i≤d.Rules.length∧∀j:Nat,(j:Int)<i→decide ((List.getD d.Rules j zRule).Name=name)=false
def Zm102_2(d:DDef)(name:ByteArray):Int×(ByteArray×List DRule×Unit)×Unit→Nat:=fun(i,fb,_)=>d.Rules.length-i.toNat
def Za102:Zk102.α→Nat→Option (Ann UU):=fun(d,name)=>annL [(2,annOf [.slot 5 (5,1024) (.lit (.int .i64)),.box 2 (2,1024) [.lit .str,.shr .eRule]] (fun _=>Zi102_2 d name) (Zm102_2 d name))]
def Zu102:List (FuncId×Con UU):=[]
theorem Zo102:Holds EE (102,Zk102):=by
 refine holds_of EE_ok func102 Zk102 (by kernel_rfl) Zu102 all_nil Za102 (fun x hp hb=> ?_)
 obtain⟨d,name⟩:=x
 have hz0:=bd_eDef (x:=d) (hb _ m0)
 have hl_d_Name:=hz0.1
 have hl_d_Rules:=hz0.2
 have hl_name:=bdS (s:=name) (hb _ m1)
 clear hp hb
 apply @ve _ (Zi102_2 d name ((0:Int),(d.Name,d.Rules,()),())∧∀(y:Int×(ByteArray×List DRule×PUnit)×PUnit),let x1:Nat:=y.2.1.2.1.length;let x0:Int:=(↑x1:Int);Zi102_2 d name y→bif decide (y.1<x0) then(0:Int)≤y.1∧y.1.toNat<x1∧bif ByteArray.toList (List.getD y.2.1.2.1 y.1.toNat zRule).Name==ByteArray.toList name then Li y.1 (ruleAt d.Rules name) else Zi102_2 d name (IntKind.wrap IntKind.i64 (y.1+(1:Int)),(y.2.1.1,y.2.1.2.1,()),())∧Zm102_2 d name (IntKind.wrap IntKind.i64 (y.1+(1:Int)),(y.2.1.1,y.2.1.2.1,()),())<Zm102_2 d name y else Li (-1:Int) (ruleAt d.Rules name)) (by kernel_rfl)
 dsimp only
 refine⟨⟨rfl,by omega,by omega,by intro j hj;omega⟩,?_⟩
 rintro⟨i,fb,⟨⟩⟩ ⟨rfl,h1,h2,hR⟩
 simp only
 refine if_cond (fun hc=> ?_) (fun hc=> ?_)
 ·have hc:i<d.Rules.length:=of_decide_eq_true hc
  simp(disch:=omega) only[wrap_i64,toList_beq]
  refine⟨by omega,by omega,if_cond (fun h=>Lf_i ?_) (fun h=>⟨⟨rfl,by omega,by omega,upto_no (p:=fun j=>decide ((List.getD d.Rules j zRule).Name=name)) h1 hR h⟩,by simp only[Zm102_2];omega⟩)⟩
  rw[ruleAt,idxI_found (i:=i.toNat) (by omega) h (fun j hj=>hR j (by omega))]
  omega
 ·have hc:¬i<d.Rules.length:=of_decide_eq_false hc
  exact Lf_i (idxI_none (fun j hj=>hR j (by omega))).symm
def Zh102:HH:=⟨_,Zo102⟩
def Zk38:Con UU where
 α:=DDef
 md:=[.ro]
 of:=o1 (oA .eDef)
 ds:=fun x=>[dA .eDef x]
 pre:=fun d=>[sizeDef d≤4294967295]
 res:=fun d=>⟨[dO (defOk d)],true,[]⟩
 law:=l1 (lA .eDef)
def Zi38_2(d:DDef):Int×(ByteArray×List DRule×Unit)×Unit→Prop:=fun(i,b,_)=>b=(d.Name,d.Rules,())∧0≤i∧i≤d.Rules.length∧∀j:Nat,(j:Int)<i→defAtR d.Rules j=true
def Zm38_2(d:DDef):Int×(ByteArray×List DRule×Unit)×Unit→Nat:=fun(i,b,_)=>d.Rules.length-i.toNat
def Za38:Zk38.α→Nat→Option (Ann UU):=fun d=>annL [(2,annOf [.slot 3 (3,1024) (.lit (.int .i64)),.box 1 (1,1024) [.lit .str,.shr .eRule]] (fun _=>Zi38_2 d) (Zm38_2 d))]
def Zu38:=us [Zh101,Zh102,Zh103,Zh104]
theorem Zo38:Holds EE (38,Zk38):=by
 refine holds_of EE_ok func38 Zk38 (by kernel_rfl) Zu38 (us_ok _) Za38 (fun(d:DDef) hp hb=> ?_)
 have hz0:=bd_eDef (x:=d) (hb _ m0)
 have hl_d_Name:=hz0.1
 have hl_d_Rules:=hz0.2
 have hp0:sizeDef d≤4294967295:=hp _ m0
 clear hp hb
 apply @ve _ (Zi38_2 d ((0:Int),(d.Name,d.Rules,()),())∧∀(y:Int×(ByteArray×List DRule×PUnit)×PUnit),let x1:DRule:=List.getD y.2.1.2.1 y.1.toNat zRule;let x2:Nat:=y.2.1.2.1.length;let x0:Int:=(↑x2:Int);Zi38_2 d y→bif decide (y.1<x0) then(0:Int)≤y.1∧y.1.toNat<x2∧patArgs x1.Pats≤(4294967295:Nat)∧bif !ruleOk x1 then Lb false (defOk d) else(0:Int)≤y.1∧y.1.toNat<x2∧bif ruleAt y.2.1.2.1 x1.Name !=y.1 then Lb false (defOk d) else Zi38_2 d (IntKind.wrap IntKind.i64 (y.1+(1:Int)),(y.2.1.1,y.2.1.2.1,()),())∧Zm38_2 d (IntKind.wrap IntKind.i64 (y.1+(1:Int)),(y.2.1.1,y.2.1.2.1,()),())<Zm38_2 d y else bif nameOk y.2.1.1 then Lb (decide ((1:Int)≤x0∧x0≤(12:Int))) (defOk d) else Lb false (defOk d)) (by kernel_rfl)
 dsimp only
 refine⟨⟨rfl,by omega,by omega,by intro j hj;omega⟩,?_⟩
 rintro⟨i,⟨b1,b2,⟨⟩⟩,⟨⟩⟩ ⟨hbx,h1,h2,hR⟩
 cases hbx
 simp only
 refine if_dec (fun hc=> ?_) (fun hc=> ?_)
 ·have hN:defAtR d.Rules i.toNat=false→defOk d=false:=fun h=>by
   have hf:allI d.Rules.length (defAtR d.Rules)=false:=allI_false (j:=i.toNat) (by omega) h
   simp only[defOk,hf,zbs]
  have hs:=rule_size h1 hc
  simp only[sizeDef] at hp0
  have ei:((i.toNat:Nat):Int)=i:=by omega
  rw[wrap_i64 (by omega) (by omega)]
  refine⟨by omega,by omega,by omega,if_not (fun g=>Lf_ff (hN (by simp only[defAtR,g,zbi]))) (fun g=>⟨by omega,by omega,if_not (fun k=>Lf_ff (hN ?_)) (fun k=>⟨⟨rfl,by omega,by omega,upto_step h1 hR ?_⟩,by simp only[Zm38_2];omega⟩)⟩)⟩
  ·simp only[defAtR,ei,g,zck];exact decide_eq_false (by simpa using k)
  ·simp only[defAtR,ei,g,zck];exact decide_eq_true (eq_of_beq k)
 ·have hA:allI d.Rules.length (defAtR d.Rules)=true:=allI_true fun j hj=>hR j (by omega)
  simp only[defOk,hA,zdb]
  refine if_cond (fun h=>Lf_b ?_) (fun h=>Lf_b ?_)
  ·rw[h,zck];exact decide_eq_decide.2 (by omega)
  ·rw[h,zbi]
def Zh38:HH:=⟨_,Zo38⟩
def Zk8:Con UU where
 α:=DDef
 md:=[.ro]
 of:=o1 (oA .eDef)
 ds:=fun x=>[dA .eDef x]
 pre:=fun _=>[]
 res:=fun d=>⟨[dO (defOk d)],true,[]⟩
 law:=l1 (lA .eDef)
def Zi8_4(d:DDef):Int×(ByteArray×List DRule×Unit)×Unit→Prop:=fun(i,b,_)=>b=(d.Name,d.Rules,())∧nameOk d.Name=true∧(1≤d.Rules.length∧d.Rules.length≤12)∧0≤i∧i≤d.Rules.length∧∀j:Nat,(j:Int)<i→defAtR d.Rules j=true
def Zm8_4(d:DDef):Int×(ByteArray×List DRule×Unit)×Unit→Nat:=fun(i,b,_)=>d.Rules.length-i.toNat
def Za8:Zk8.α→Nat→Option (Ann UU):=fun d=>annL [(4,annOf [.slot 19 (19,1024) (.lit (.int .i64)),.box 1 (1,1024) [.lit .str,.shr .eRule]] (fun _=>Zi8_4 d) (Zm8_4 d))]
def Zu8:=us [Zh35,Zh36,Zh33,Zh34]
theorem Zo8:Holds EE (8,Zk8):=by
 refine holds_of EE_ok func8 Zk8 (by kernel_rfl) Zu8 (us_ok _) Za8 (fun(d:DDef) hp hb=> ?_)
 have hz0:=bd_eDef (x:=d) (hb _ m0)
 have hl_d_Name:=hz0.1
 have hl_d_Rules:=hz0.2
 clear hp hb
 apply @ve _ (let x0:Int:=(d.Rules.length:Int);bif !nameOk d.Name then Lb false (defOk d) else bif !decide ((1:Int)≤x0∧x0≤(12:Int)) then Lb false (defOk d) else Zi8_4 d ((0:Int),(d.Name,d.Rules,()),())∧∀(y:Int×(ByteArray×List DRule×PUnit)×PUnit),Zi8_4 d y→bif decide (y.1<x0) then(0:Int)≤y.1∧y.1.toNat<d.Rules.length∧bif !ruleOk (List.getD d.Rules y.1.toNat zRule) then Lb false (defOk d) else bif ruleAt y.2.1.2.1 (List.getD d.Rules y.1.toNat zRule).Name !=y.1 then Lb false (defOk d) else Zi8_4 d (IntKind.wrap IntKind.i64 (y.1+(1:Int)),(y.2.1.1,y.2.1.2.1,()),())∧Zm8_4 d (IntKind.wrap IntKind.i64 (y.1+(1:Int)),(y.2.1.1,y.2.1.2.1,()),())<Zm8_4 d y else Lb true (defOk d)) (by kernel_rfl)
 dsimp only
 refine if_not (fun a1=>Lf_ff (by simp only[defOk,a1,zbi])) (fun a1=>if_not (fun a2=>Lf_ff ?_) (fun a2=> ?_))
 ·have a2:=of_decide_eq_false a2
  simp only[defOk];rw[decide_eq_false (p:=1≤d.Rules.length∧d.Rules.length≤12) (by omega),zbs,zbi]
 have a2:=of_decide_eq_true a2
 refine⟨⟨rfl,a1,by omega,by omega,by omega,by intro j hj;omega⟩,?_⟩
 rintro⟨i,⟨b1,b2,⟨⟩⟩,⟨⟩⟩ ⟨hbx,a3,a4,h1,h2,hR⟩
 cases hbx
 simp only
 refine if_dec (fun hc=> ?_) (fun hc=> ?_)
 ·have hN:defAtR d.Rules i.toNat=false→defOk d=false:=fun h=>by
   have hf:allI d.Rules.length (defAtR d.Rules)=false:=allI_false (j:=i.toNat) (by omega) h
   simp only[defOk,hf,zbs]
  have ei:((i.toNat:Nat):Int)=i:=by omega
  rw[wrap_i64 (by omega) (by omega)]
  refine⟨by omega,by omega,if_not (fun g=>Lf_ff (hN (by simp only[defAtR,g,zbi]))) (fun g=>if_not (fun k=>Lf_ff (hN ?_)) (fun k=>⟨⟨rfl,a3,a4,by omega,by omega,upto_step h1 hR ?_⟩,by simp only[Zm8_4];omega⟩))⟩
  ·simp only[defAtR,ei,g,zck];exact decide_eq_false (by simpa using k)
  ·simp only[defAtR,ei,g,zck];exact decide_eq_true (eq_of_beq k)
 ·have hA:allI d.Rules.length (defAtR d.Rules)=true:=allI_true fun j hj=>hR j (by omega)
  refine Lf_tt ?_
  simp only[defOk,hA,a3,decide_eq_true a4];rfl
def Zh8:HH:=⟨_,Zo8⟩
def Zk158:Con UU where
 α:=DStore×DFact
 md:=[.ro,.ro]
 of:=oC (oA .eStore) (o1 (oA .eFact))
 ds:=fun x=>[dA .eStore x.1,dA .eFact x.2]
 pre:=fun _=>[]
 res:=fun(s,f)=>⟨[dI (idOf s.Items f)],true,[]⟩
 law:=lC (lA .eStore) (l1 (lA .eFact))
def Zi158_2(s:DStore)(f:DFact):Int×(List DItem×Int×Unit)×(ByteArray×List DVal×Unit)×Unit→Prop:=fun(i,b,g,_)=>b=(s.Items,s.Next,())∧g=(f.Kind,f.Fields,())∧0≤i∧i≤s.Items.length∧∀j:Nat,(j:Int)<i→decide ((List.getD s.Items j zItem).F=f)=false
def Zm158_2(s:DStore)(f:DFact):Int×(List DItem×Int×Unit)×(ByteArray×List DVal×Unit)×Unit→Nat:=fun(i,b,g,_)=>s.Items.length-i.toNat
def Za158:Zk158.α→Nat→Option (Ann UU):=fun(s,f)=>annL [(2,annOf [.slot 5 (5,1024) (.lit (.int .i64)),.box 2 (2,1024) [.shr .eItem,.lit (.int .i64)],.box 3 (3,1024) [.lit .str,.shr .eVal]] (fun _=>Zi158_2 s f) (Zm158_2 s f))]
def Zu158:=us [Zh186]
theorem Zo158:Holds EE (158,Zk158):=by
 refine holds_of EE_ok func158 Zk158 (by kernel_rfl) Zu158 (us_ok _) Za158 (fun x hp hb=> ?_)
 obtain⟨s,f⟩:=x
 have hl_s_Items:=bd_eStore (x:=s) (hb _ m0)
 have hz1:=bd_eFact (x:=f) (hb _ m1)
 have hl_f_Kind:=hz1.1
 have hl_f_Fields:=hz1.2
 clear hp hb
 apply @ve _ (Zi158_2 s f ((0:Int),(s.Items,s.Next,()),(f.Kind,f.Fields,()),())∧∀(y:Int×(List DItem×Int×PUnit)×(ByteArray×List DVal×PUnit)×PUnit),let x0:DItem:=List.getD y.2.1.1 y.1.toNat zItem;let x2:Nat:=y.2.1.1.length;let x1:Int:=(↑x2:Int);Zi158_2 s f y→bif decide (y.1<x1) then(0:Int)≤y.1∧y.1.toNat<x2∧bif decide (x0.F={Kind:=y.2.2.1.1,Fields:=y.2.2.1.2.1:DFact}) then(0:Int)≤y.1∧y.1.toNat<x2∧Li x0.Id (idOf s.Items f) else Zi158_2 s f (IntKind.wrap IntKind.i64 (y.1+(1:Int)),(y.2.1.1,y.2.1.2.1,()),(y.2.2.1.1,y.2.2.1.2.1,()),())∧Zm158_2 s f (IntKind.wrap IntKind.i64 (y.1+(1:Int)),(y.2.1.1,y.2.1.2.1,()),(y.2.2.1.1,y.2.2.1.2.1,()),())<Zm158_2 s f y else Li (0:Int) (idOf s.Items f)) (by kernel_rfl)
 dsimp only
 refine⟨⟨rfl,rfl,by omega,by omega,by intro j hj;omega⟩,?_⟩
 rintro⟨i,⟨b1,b2,⟨⟩⟩,⟨g1,g2,⟨⟩⟩,⟨⟩⟩ ⟨hbx,hg,h1,h2,hR⟩
 cases hbx
 cases hg
 simp only
 refine if_dec (fun hc=> ?_) (fun hc=> ?_)
 ·rw[wrap_i64 (by omega) (by omega)]
  refine⟨by omega,by omega,if_dec (fun h=>⟨by omega,by omega,Lf_i ?_⟩) (fun h=>⟨⟨rfl,rfl,by omega,by omega,upto_no (p:=fun j=>decide ((List.getD s.Items j zItem).F=f)) h1 hR (decide_eq_false h)⟩,by simp only[Zm158_2];omega⟩)⟩
  have e:idAt s.Items f=(i.toNat:Int):=idxI_found (i:=i.toNat) (by omega) (decide_eq_true h) (fun j hj=>hR j (by omega))
  rw[idOf,e,if_neg (by omega),zeu]
 ·refine Lf_i ?_
  have e:idAt s.Items f= -1:=idxI_none (fun j hj=>hR j (by omega))
  rw[idOf,if_pos e]
def Zh158:HH:=⟨_,Zo158⟩
def Zk31:Con UU where
 α:=DStore
 md:=[.ro]
 of:=o1 (oA .eStore)
 ds:=fun x=>[dA .eStore x]
 pre:=fun _=>[]
 res:=fun s=>⟨[dO (storeOk s)],true,[]⟩
 law:=l1 (lA .eStore)
def Zi31_4(s:DStore):Int×(List DItem×Int×Unit)×Unit→Prop:=fun(i,b,_)=>b=(s.Items,s.Next,())∧0≤i∧i≤s.Items.length∧∀j:Nat,(j:Int)<i→itemAtI s j=true
def Zm31_4(s:DStore):Int×(List DItem×Int×Unit)×Unit→Nat:=fun(i,b,_)=>s.Items.length-i.toNat
def Zi31_9(s:DStore):Int×Int×(Int×ByteArray×List DVal×Unit)×(List DItem×Int×Unit)×Unit→Int×Int×(Int×ByteArray×List DVal×Unit)×(List DItem×Int×Unit)×Unit→Prop:=fun(i0,k0,x0,b0,_) (i,k,x,b,_)=>i=i0∧x=x0∧b=b0∧0≤k∧k≤i∧∀j:Nat,(j:Int)<k→decide ((List.getD s.Items i.toNat zItem).F=(List.getD s.Items j zItem).F)=false
def Zm31_9(s:DStore):Int×Int×(Int×ByteArray×List DVal×Unit)×(List DItem×Int×Unit)×Unit→Nat:=fun(i,k,x,b,_)=>i.toNat-k.toNat
def Za31:Zk31.α→Nat→Option (Ann UU):=fun s=>annL [(4,annOf [.slot 20 (20,1024) (.lit (.int .i64)),.box 1 (1,1024) [.shr .eItem,.lit (.int .i64)]] (fun _=>Zi31_4 s) (Zm31_4 s)),(9,annOf [.slot 20 (20,1024) (.lit (.int .i64)),.slot 59 (59,1024) (.lit (.int .i64)),.box 4 (4,1024) [.lit (.int .i64),.lit .str,.shr .eVal],.box 1 (1,1024) [.shr .eItem,.lit (.int .i64)]] (Zi31_9 s) (Zm31_9 s))]
def Zu31:=us [Zh34,Zh42,Zh86]
theorem Zo31:Holds EE (31,Zk31):=by
 refine holds_of EE_ok func31 Zk31 (by kernel_rfl) Zu31 (us_ok _) Za31 (fun(s:DStore) hp hb=> ?_)
 have hl_s_Items:=bd_eStore (x:=s) (hb _ m0)
 clear hp hb
 apply @ve _ (let x0:Int:=(s.Items.length:Int);let x1:Int:=Option.getD none (0:Int);bif decide (x0>(40:Int)) then Lb false (storeOk s) else bif !decide ((1:Int)≤s.Next∧s.Next≤(1000000:Int)) then Lb false (storeOk s) else Zi31_4 s ((0:Int),(s.Items,s.Next,()),())∧∀(y:Int×(List DItem×Int×PUnit)×PUnit),let x8:Nat:=y.2.1.1.length;let x9:Int:=(List.getD s.Items y.1.toNat zItem).Id;let x10:DFact:=(List.getD s.Items y.1.toNat zItem).F;let x11:Nat:=Int.toNat (IntKind.wrap IntKind.i64 (y.1-(1:Int)));let x4:Int:=(List.getD y.2.1.1 x11 zItem).Id;let x7:Int:=(↑x8:Int);let x3:Int:=Option.getD (some y.1) x7;let x6:List DItem:=List.drop x1.toNat (List.take x3.toNat y.2.1.1);let x5:Nat:=x6.length;let x2:Int:=(↑x5:Int);Zi31_4 s y→bif decide (y.1<x0) then(0:Int)≤y.1∧y.1.toNat<s.Items.length∧bif !factOk x10 then Lb false (storeOk s) else bif !decide ((1:Int)≤x9∧x9≤IntKind.wrap IntKind.i64 (y.2.1.2.1-(1:Int))) then Lb false (storeOk s) else bif decide (y.1>(0:Int)) then(0:Int)≤IntKind.wrap IntKind.i64 (y.1-(1:Int))∧x11<x8∧bif decide (x9≤x4) then Lb false (storeOk s) else(0:Int)≤x1∧x1≤x3∧x3≤x7∧Zi31_9 s (y.1,(0:Int),(x9,x10.Kind,x10.Fields,()),(y.2.1.1,y.2.1.2.1,()),()) (y.1,(0:Int),(x9,x10.Kind,x10.Fields,()),(y.2.1.1,y.2.1.2.1,()),())∧∀(y_1:Int×Int×(Int×ByteArray×List DVal×PUnit)×(List DItem×Int×PUnit)×PUnit),let x12:Nat:=y_1.2.1.toNat;Zi31_9 s (y.1,(0:Int),(x9,x10.Kind,x10.Fields,()),(y.2.1.1,y.2.1.2.1,()),()) y_1→bif decide (y_1.2.1<x2) then(0:Int)≤y_1.2.1∧x12<x5∧bif decide ({Kind:=y_1.2.2.1.2.1,Fields:=y_1.2.2.1.2.2.1:DFact}=(List.getD x6 x12 zItem).F) then Lb false (storeOk s) else Zi31_9 s (y.1,(0:Int),(x9,x10.Kind,x10.Fields,()),(y.2.1.1,y.2.1.2.1,()),()) (y_1.1,IntKind.wrap IntKind.i64 (y_1.2.1+(1:Int)),(y_1.2.2.1.1,y_1.2.2.1.2.1,y_1.2.2.1.2.2.1,()),(y_1.2.2.2.1.1,y_1.2.2.2.1.2.1,()),())∧Zm31_9 s (y_1.1,IntKind.wrap IntKind.i64 (y_1.2.1+(1:Int)),(y_1.2.2.1.1,y_1.2.2.1.2.1,y_1.2.2.1.2.2.1,()),(y_1.2.2.2.1.1,y_1.2.2.2.1.2.1,()),())<Zm31_9 s y_1 else Zi31_4 s (IntKind.wrap IntKind.i64 (y_1.1+(1:Int)),(y_1.2.2.2.1.1,y_1.2.2.2.1.2.1,()),())∧Zm31_4 s (IntKind.wrap IntKind.i64 (y_1.1+(1:Int)),(y_1.2.2.2.1.1,y_1.2.2.2.1.2.1,()),())<Zm31_4 s y else(0:Int)≤x1∧x1≤x3∧x3≤x7∧Zi31_9 s (y.1,(0:Int),(x9,x10.Kind,x10.Fields,()),(y.2.1.1,y.2.1.2.1,()),()) (y.1,(0:Int),(x9,x10.Kind,x10.Fields,()),(y.2.1.1,y.2.1.2.1,()),())∧∀(y_1:Int×Int×(Int×ByteArray×List DVal×PUnit)×(List DItem×Int×PUnit)×PUnit),let x12:Nat:=y_1.2.1.toNat;Zi31_9 s (y.1,(0:Int),(x9,x10.Kind,x10.Fields,()),(y.2.1.1,y.2.1.2.1,()),()) y_1→bif decide (y_1.2.1<x2) then(0:Int)≤y_1.2.1∧x12<x5∧bif decide ({Kind:=y_1.2.2.1.2.1,Fields:=y_1.2.2.1.2.2.1:DFact}=(List.getD x6 x12 zItem).F) then Lb false (storeOk s) else Zi31_9 s (y.1,(0:Int),(x9,x10.Kind,x10.Fields,()),(y.2.1.1,y.2.1.2.1,()),()) (y_1.1,IntKind.wrap IntKind.i64 (y_1.2.1+(1:Int)),(y_1.2.2.1.1,y_1.2.2.1.2.1,y_1.2.2.1.2.2.1,()),(y_1.2.2.2.1.1,y_1.2.2.2.1.2.1,()),())∧Zm31_9 s (y_1.1,IntKind.wrap IntKind.i64 (y_1.2.1+(1:Int)),(y_1.2.2.1.1,y_1.2.2.1.2.1,y_1.2.2.1.2.2.1,()),(y_1.2.2.2.1.1,y_1.2.2.2.1.2.1,()),())<Zm31_9 s y_1 else Zi31_4 s (IntKind.wrap IntKind.i64 (y_1.1+(1:Int)),(y_1.2.2.2.1.1,y_1.2.2.2.1.2.1,()),())∧Zm31_4 s (IntKind.wrap IntKind.i64 (y_1.1+(1:Int)),(y_1.2.2.2.1.1,y_1.2.2.2.1.2.1,()),())<Zm31_4 s y else Lb true (storeOk s)) (by kernel_rfl)
 dsimp only
 have hF:(decide (1≤s.Next∧s.Next≤1000000)&&decide (s.Items.length≤40)&&allI s.Items.length (itemAtI s))=storeOk s:=by rw[store_same];rfl
 refine if_dec (fun a2=>Lf_ff ?_) (fun a2=>if_not (fun a1=>Lf_ff (by simp only[storeOk,a1,zbi])) (fun a1=> ?_))
 ·simp only[storeOk];rw[decide_eq_false (p:=s.Items.length≤40) (by omega),zbs,zbi]
 have a3:=of_decide_eq_true a1
 refine⟨⟨rfl,by omega,by omega,by intro j hj;omega⟩,?_⟩
 rintro⟨i,⟨b1,b2,⟨⟩⟩,⟨⟩⟩ ⟨hbx,h1,h2,hR⟩
 cases hbx
 simp only
 refine if_dec (fun hc=> ?_) (fun hc=> ?_)
 ·have hN:itemAtI s i.toNat=false→storeOk s=false:=fun h=>by
   have hf:allI s.Items.length (itemAtI s)=false:=allI_false (j:=i.toNat) (by omega) h
   rw[←hF,hf,zbs]
  have e1:(i-1).toNat=i.toNat-1:=by omega
  have c3:decide (0<i.toNat)=decide (i>0):=decide_eq_decide.2 (by omega)
  rw[wrap_i64 (n:=s.Next-1) (by omega) (by omega),wrap_i64 (n:=i-1) (by omega) (by omega),e1]
  have hnb:baseAt s i.toNat=false→storeOk s=false:=fun h=>hN (by simp only[itemAtI,h,zbi])
  refine⟨by omega,by omega,if_not (fun a=>Lf_ff (hnb (by simp only[baseAt,a,zbi]))) (fun a=>if_not (fun a'=>Lf_ff (hnb ?_)) (fun a'=>if_dec (fun p=>⟨by omega,by omega,if_dec (fun q=>Lf_ff (hnb ?_)) (fun q=> ?_)⟩) (fun p=> ?_)))⟩
  ·have a':=of_decide_eq_false a'
   by_cases g:1≤(List.getD s.Items i.toNat zItem).Id
   ·simp only[baseAt,decide_eq_false (show¬(List.getD s.Items i.toNat zItem).Id<s.Next by omega),zbs,zbi]
   ·simp only[baseAt,decide_eq_false g,zbs,zbi]
  ·simp only[baseAt,c3,decide_eq_true p,decide_eq_true q,zdb,zfa,zbs]
  ·have a':=of_decide_eq_true a'
   have hbase:baseAt s i.toNat=true:=by
    simp only[baseAt,a,decide_eq_true a'.1,decide_eq_true (show(List.getD s.Items i.toNat zItem).Id<s.Next by omega),decide_eq_false q,zbs,zea,zdb]
   refine⟨Int.le_refl 0,by simp only[zdf,zcj];omega,by simp only[zcj];omega,⟨rfl,rfl,rfl,by omega,by omega,by intro j hj;omega⟩,?_⟩
   rintro⟨i',k,⟨x1,x2,x3,⟨⟩⟩,⟨y1,y2,⟨⟩⟩,⟨⟩⟩ ⟨rfl,hx,hy,k1,k2,kR⟩
   cases hx
   cases hy
   simp only[zdf,zcj,show Int.toNat 0=0 from rfl,List.drop_zero]
   have etl:(List.take i'.toNat s.Items).length=i'.toNat:=by rw[zaw];omega
   refine if_dec (fun hk=> ?_) (fun hk=> ?_)
   ·rw[etl] at hk
    rw[getD_take s.Items zItem (show k.toNat<i'.toNat by omega),etl,wrap_i64 (n:=k+1) (by omega) (by omega)]
    refine⟨k1,by omega,if_dec (fun e=>Lf_ff (hN ?_)) (fun e=>⟨⟨rfl,rfl,rfl,by omega,by omega,upto_no (p:=fun j=>decide ((List.getD s.Items i'.toNat zItem).F=(List.getD s.Items j zItem).F)) k1 kR (decide_eq_false e)⟩,by simp only[Zm31_9];omega⟩)⟩
    have ha:(anyI i'.toNat fun k=>decide ((List.getD s.Items i'.toNat zItem).F=(List.getD s.Items k zItem).F))=true:=anyI_true (j:=k.toNat) (by omega) (decide_eq_true e)
    simp only[itemAtI,ha,zfa,zbs]
   ·rw[etl] at hk
    rw[wrap_i64 (n:=i'+1) (by omega) (by omega)]
    refine⟨⟨rfl,by omega,by omega,upto_step h1 hR ?_⟩,by simp only[Zm31_4];omega⟩
    have ha:(anyI i'.toNat fun k=>decide ((List.getD s.Items i'.toNat zItem).F=(List.getD s.Items k zItem).F))=false:=anyI_false fun j hj=>kR j (by omega)
    simp only[itemAtI,ha,hbase,zea,zdb]
  ·have a':=of_decide_eq_true a'
   have hbase:baseAt s i.toNat=true:=by
    simp only[baseAt,c3,a,decide_eq_true a'.1,decide_eq_true (show(List.getD s.Items i.toNat zItem).Id<s.Next by omega),decide_eq_false p,zbi,zea,zdb]
   refine⟨Int.le_refl 0,by simp only[zdf,zcj];omega,by simp only[zcj];omega,⟨rfl,rfl,rfl,by omega,by omega,by intro j hj;omega⟩,?_⟩
   rintro⟨i',k,⟨x1,x2,x3,⟨⟩⟩,⟨y1,y2,⟨⟩⟩,⟨⟩⟩ ⟨rfl,hx,hy,k1,k2,kR⟩
   cases hx
   cases hy
   simp only[zdf,zcj,show Int.toNat 0=0 from rfl,List.drop_zero]
   have etl:(List.take i'.toNat s.Items).length=i'.toNat:=by rw[zaw];omega
   refine if_dec (fun hk=> ?_) (fun hk=> ?_)
   ·rw[etl] at hk
    rw[getD_take s.Items zItem (show k.toNat<i'.toNat by omega),etl,wrap_i64 (n:=k+1) (by omega) (by omega)]
    refine⟨k1,by omega,if_dec (fun e=>Lf_ff (hN ?_)) (fun e=>⟨⟨rfl,rfl,rfl,by omega,by omega,upto_no (p:=fun j=>decide ((List.getD s.Items i'.toNat zItem).F=(List.getD s.Items j zItem).F)) k1 kR (decide_eq_false e)⟩,by simp only[Zm31_9];omega⟩)⟩
    have ha:(anyI i'.toNat fun k=>decide ((List.getD s.Items i'.toNat zItem).F=(List.getD s.Items k zItem).F))=true:=anyI_true (j:=k.toNat) (by omega) (decide_eq_true e)
    simp only[itemAtI,ha,zfa,zbs]
   ·rw[etl] at hk
    rw[wrap_i64 (n:=i'+1) (by omega) (by omega)]
    refine⟨⟨rfl,by omega,by omega,upto_step h1 hR ?_⟩,by simp only[Zm31_4];omega⟩
    have ha:(anyI i'.toNat fun k=>decide ((List.getD s.Items i'.toNat zItem).F=(List.getD s.Items k zItem).F))=false:=anyI_false fun j hj=>kR j (by omega)
    simp only[itemAtI,ha,hbase,zea,zdb]
 ·have hA:allI s.Items.length (itemAtI s)=true:=allI_true fun j hj=>hR j (by omega)
  refine Lf_tt ?_
  rw[←hF,hA,a1,decide_eq_true (show s.Items.length≤40 by omega)];rfl
def Zh31:HH:=⟨_,Zo31⟩
theorem hasR_iff{d:DDef}{m:DMatch}(h:hasR d m=true):0≤m.Rule∧m.Rule<(d.Rules.length:Int):=by
 simpa[hasR] using h
def Zk39:Con UU where
 α:=DDef×DMatch
 md:=[.ro,.ro]
 of:=oC (oA .eDef) (o1 (oA .eMatch))
 ds:=fun x=>[dA .eDef x.1,dA .eMatch x.2]
 pre:=fun _=>[]
 res:=fun(d,m)=>⟨[dO (hasR d m)],true,[]⟩
 law:=lC (lA .eDef) (l1 (lA .eMatch))
def Za39:Zk39.α→Nat→Option (Ann UU):=fun(d,m)=>annL []
def Zu39:List (FuncId×Con UU):=[]
theorem Zo39:Holds EE (39,Zk39):=by
 refine holds_of EE_ok func39 Zk39 (by kernel_rfl) Zu39 all_nil Za39 (fun x hp hb=> ?_)
 obtain⟨d,m⟩:=x
 have hz0:=bd_eDef (x:=d) (hb _ m0)
 have hl_d_Name:=hz0.1
 have hl_d_Rules:=hz0.2
 have hz1:=bd_eMatch (x:=m) (hb _ m1)
 have hl_m_Ids:=hz1.1
 have hl_m_Binds:=hz1.2
 clear hp hb
 apply @ve _ (bif decide (m.Rule≥(0:Int)) then Lb (decide (m.Rule<(d.Rules.length:Int))) (hasR d m) else Lb false (hasR d m)) (by kernel_rfl)
 simp only[hasR]
 refine if_dec (fun h=>Lf_b ?_) (fun h=>Lf_b ?_)
 ·rw[decide_eq_true (show 0≤m.Rule from h),zck]
 ·rw[decide_eq_false (show¬0≤m.Rule from h),zbi]
def Zh39:HH:=⟨_,Zo39⟩
def Zk99:Con UU where
 α:=DDef×DMatch
 md:=[.ro,.ro]
 of:=oC (oA .eDef) (o1 (oA .eMatch))
 ds:=fun x=>[dA .eDef x.1,dA .eMatch x.2]
 pre:=fun _=>[]
 res:=fun(d,m)=>⟨[dO (hasR d m)],true,[]⟩
 law:=lC (lA .eDef) (l1 (lA .eMatch))
def Za99:Zk99.α→Nat→Option (Ann UU):=fun(d,m)=>annL []
def Zu99:List (FuncId×Con UU):=[]
theorem Zo99:Holds EE (99,Zk99):=by
 refine holds_of EE_ok func99 Zk99 (by kernel_rfl) Zu99 all_nil Za99 (fun x hp hb=> ?_)
 obtain⟨d,m⟩:=x
 have hz0:=bd_eDef (x:=d) (hb _ m0)
 have hl_d_Name:=hz0.1
 have hl_d_Rules:=hz0.2
 have hz1:=bd_eMatch (x:=m) (hb _ m1)
 have hl_m_Ids:=hz1.1
 have hl_m_Binds:=hz1.2
 clear hp hb
 apply @ve _ (bif decide (m.Rule≥(0:Int)) then Lb (decide (m.Rule<(d.Rules.length:Int))) (hasR d m) else Lb false (hasR d m)) (by kernel_rfl)
 simp only[hasR]
 refine if_dec (fun h=>Lf_b ?_) (fun h=>Lf_b ?_)
 ·rw[decide_eq_true (show 0≤m.Rule from h),zck]
 ·rw[decide_eq_false (show¬0≤m.Rule from h),zbi]
def Zh99:HH:=⟨_,Zo99⟩
theorem valK{v:DVal}(h:valOk v=true):v.S.size≤21:=by
 simp only[valOk] at h
 by_cases h1:v.K=1
 ·simp[h1] at h;rw[h.2];simp[noBytes]
 ·by_cases h2:v.K=2
  ·simp[h2] at h;omega
  ·simp[h1,h2] at h
theorem sumK{α:Type}(f:α→Nat)(B:Nat):∀(l:List α),(∀x∈l,f x≤B)→(l.map f).sum≤l.length*B
 |[],_=>by simp
 |x::l,h=>by
  have h1:=sumK f B l (fun y hy=>h y (zaa _ hy))
  have h2:=h x zab
  simp only[zbt,zdc,zbq,zci];omega
theorem undoK{u:ByteArray}(h:undoOk u=true):u.size≤12:=by
 simp only[undoOk,nameOk,zcn,zaf,decide_eq_true_eq] at h
 rcases h with rfl|h
 ·simp[noBytes]
 ·exact h.1.1.2
theorem if_neq{a b:Int}{P Q:Prop}(h1:¬a=b→P)(h2:a=b→Q):bif a !=b then P else Q:=if_cond (fun h=>h1 (by simpa using h)) (fun h=>h2 (by simpa using h))
def bindOf:List DBind→ByteArray→DVal×Bool
 |[],_=>(zVal,false)
 |b::l,n=>if b.Name=n then(b.V,true) else bindOf l n
theorem bindOf_step(l:List DBind)(n:ByteArray){i:Int}(h0:0≤i)(h:i<l.length):bindOf (l.drop i.toNat) n=if(List.getD l i.toNat zBind).Name=n then((List.getD l i.toNat zBind).V,true) else bindOf (l.drop (i+1).toNat) n:=by
 rw[drop_step l zBind h0 h];rfl
theorem bindOf_no:∀{l:List DBind}{n:ByteArray},(bindOf l n).2=false→(bindOf l n).1=zVal
 |[],_,_=>rfl
 |b::l,n,h=>by
  simp only[bindOf] at h⊢
  split at h
  ·cases h
  ·rename_i g;rw[if_neg g];exact bindOf_no h
def argVal(a:DArg)(l:List DBind):DVal×Bool:=if a.K=2 then(a.V,true) else if a.K=1 then bindOf l a.S else(zVal,false)
theorem argVal_no{a:DArg}{l:List DBind}(h:(argVal a l).2=false):(argVal a l).1=zVal:=by
 unfold argVal at h⊢
 split at h
 ·cases h
 ·rename_i g;rw[if_neg g];split at h
  ·rename_i g';rw[if_pos g'];exact bindOf_no h
  ·rename_i g';rw[if_neg g']
def numV(n:Int):DVal:=⟨1,n,noBytes⟩
def intsOk(a b:DVal):Bool:=decide (a.K=1)&&decide (b.K=1)&&valOk a&&valOk b
def sumOk(a b:DVal)(n:Int):Bool:=intsOk a b&&valOk (numV n)
def sumV(a b:DVal)(n:Int):DVal:=if sumOk a b n then numV n else zVal
theorem ints_lim{a b:DVal}(h:intsOk a b=true):(-1000000000≤a.N∧a.N≤1000000000)∧(-1000000000≤b.N∧b.N≤1000000000):=by
 simp only[intsOk,zaf,decide_eq_true_eq] at h
 obtain⟨⟨⟨h1,h2⟩,h3⟩,h4⟩:=h
 simp only[valOk,h1,h2,decide_true,cond_true,zaf,decide_eq_true_eq] at h3 h4
 exact⟨h3.1,h4.1⟩
theorem sumOk_wrap(a b:DVal)(n:Int)(h:intsOk a b=true→IntKind.wrap .i64 n=n):sumOk a b (IntKind.wrap .i64 n)=sumOk a b n:=by
 cases hi:intsOk a b with
 |false=>simp only[sumOk,hi,zbi]
 |true=>rw[h hi]
theorem sumV_wrap(a b:DVal)(n:Int)(h:intsOk a b=true→IntKind.wrap .i64 n=n):sumV a b (IntKind.wrap .i64 n)=sumV a b n:=by
 cases hi:intsOk a b with
 |false=>simp only[sumV,sumOk,hi,zbi];rfl
 |true=>rw[h hi]
def compute(e:DExpr)(l:List DBind):DVal×Bool:=
 if(argVal e.L l).2=false then(zVal,false) else if e.Op=noBytes then((argVal e.L l).1,true) else if(argVal e.R l).2=false then(zVal,false)
 else if e.Op=bPlus then(sumV (argVal e.L l).1 (argVal e.R l).1 ((argVal e.L l).1.N+(argVal e.R l).1.N),sumOk (argVal e.L l).1 (argVal e.R l).1 ((argVal e.L l).1.N+(argVal e.R l).1.N))
 else if e.Op=bMinus then(sumV (argVal e.L l).1 (argVal e.R l).1 ((argVal e.L l).1.N-(argVal e.R l).1.N),sumOk (argVal e.L l).1 (argVal e.R l).1 ((argVal e.L l).1.N-(argVal e.R l).1.N)) else(zVal,false)
def compV(l:List DBind)(e:DExpr):DVal:=(compute e l).1
def compB(l:List DBind)(e:DExpr):Bool:=(compute e l).2
def compsB(es:List DExpr)(l:List DBind):Bool:=es.all (compB l)
def compsV(es:List DExpr)(l:List DBind):List DVal:=if compsB es l then es.map (compV l) else[]
theorem LfV{a a':DVal}{b b':Bool}(h1:a=a')(h2:b=b'):Lf [.agg [.lit (.int .i64 a.K),.lit (.int .i64 a.N),.lit (.string a.S)],.one (.lit (.bool b))] [.agg [.lit (.int .i64 a'.K),.lit (.int .i64 a'.N),.lit (.string a'.S)],.one (.lit (.bool b'))]:=by
 subst h1 h2;exact Lf_rfl _
theorem LfVS{a a':List DVal}{b b':Bool}(h1:a=a')(h2:b=b'):Lf [.one (.sl .eVal a),.one (.lit (.bool b))] [.one (.sl .eVal a'),.one (.lit (.bool b'))]:=by
 subst h1 h2;exact Lf_rfl _
theorem sum_no{a b:DVal}{n:Int}(h:sumOk a b n=false):Lf [.agg [.lit (.int .i64 0),.lit (.int .i64 0),.lit (.string ⟨#[]⟩)],.one (.lit (.bool false))] [.agg [.lit (.int .i64 (sumV a b n).K),.lit (.int .i64 (sumV a b n).N),.lit (.string (sumV a b n).S)],.one (.lit (.bool (sumOk a b n)))]:=
 LfV (a:=zVal) (by simp only[sumV,h];rfl) h.symm
theorem sum_yes{a b:DVal}{n:Int}(h:sumOk a b n=true):Lf [.agg [.lit (.int .i64 1),.lit (.int .i64 n),.lit (.string ⟨#[]⟩)],.one (.lit (.bool true))] [.agg [.lit (.int .i64 (sumV a b n).K),.lit (.int .i64 (sumV a b n).N),.lit (.string (sumV a b n).S)],.one (.lit (.bool (sumOk a b n)))]:=
 LfV (a:=numV n) (by simp only[sumV,h];rfl) h.symm
theorem add_wrap{a b:DVal}(h:intsOk a b=true):IntKind.wrap .i64 (a.N+b.N)=a.N+b.N:=by
 have:=ints_lim h
 exact wrap_i64 (by omega) (by omega)
theorem sub_wrap{a b:DVal}(h:intsOk a b=true):IntKind.wrap .i64 (a.N-b.N)=a.N-b.N:=by
 have:=ints_lim h
 exact wrap_i64 (by omega) (by omega)
theorem sum_int{a b:DVal}{n:Int}(h:intsOk a b=true):sumOk a b n=valOk (numV n)∧sumV a b n=if valOk (numV n)=true then numV n else zVal:=by
 simp only[sumV,sumOk,h,zck,and_self]
def Zk275:Con UU where
 α:=(List DBind)×ByteArray
 md:=[.ro,.ro]
 of:=oC (oL .eBind) (o1 oS)
 ds:=fun x=>[dL .eBind x.1,dS x.2]
 pre:=fun _=>[]
 res:=fun(l,name)=>⟨[dA .eVal ((bindOf l name).1),dO ((bindOf l name).2)],true,[]⟩
 law:=lC (lL .eBind) (l1 lS)
def Zi275_2(l:(List DBind))(name:ByteArray):Int×(Int×Int×ByteArray×Unit)×Unit→Prop:=fun(i,r,_)=>r=(0,0,noBytes,())∧0≤i∧i≤l.length∧bindOf (l.drop i.toNat) name=bindOf l name
def Zm275_2(l:(List DBind))(name:ByteArray):Int×(Int×Int×ByteArray×Unit)×Unit→Nat:=fun(i,r,_)=>l.length-i.toNat
def Za275:Zk275.α→Nat→Option (Ann UU):=fun(l,name)=>annL [(2,annOf [.slot 6 (6,1024) (.lit (.int .i64)),.box 4 (4,1024) [.lit (.int .i64),.lit (.int .i64),.lit .str]] (fun _=>Zi275_2 l name) (Zm275_2 l name))]
def Zu275:List (FuncId×Con UU):=[]
theorem Zo275:Holds EE (275,Zk275):=by
 refine holds_of EE_ok func275 Zk275 (by kernel_rfl) Zu275 all_nil Za275 (fun x hp hb=> ?_)
 obtain⟨l,name⟩:=x
 have hl_l:l.length≤9223372036854775807:=bdL (hb _ m0)
 have hl_name:=bdS (s:=name) (hb _ m1)
 clear hp hb
 apply @ve _ (Zi275_2 l name ((0:Int),((0:Int),(0:Int),{data:= #[]:ByteArray},()),())∧∀(y:Int×(Int×Int×ByteArray×PUnit)×PUnit),let x0:DVal:=(List.getD l y.1.toNat zBind).V;Zi275_2 l name y→bif decide (y.1<(l.length:Int)) then(0:Int)≤y.1∧y.1.toNat<l.length∧bif ByteArray.toList (List.getD l y.1.toNat zBind).Name==ByteArray.toList name then(0:Int)≤y.1∧y.1.toNat<l.length∧Lf [DV.agg [CI x0.K,CI x0.N,CS x0.S],VB true] [DV.agg [CI ((bindOf l name).1.K),CI ((bindOf l name).1.N),CS ((bindOf l name).1.S)],VB ((bindOf l name).2)] else Zi275_2 l name (IntKind.wrap IntKind.i64 (y.1+(1:Int)),(y.2.1.1,y.2.1.2.1,y.2.1.2.2.1,()),())∧Zm275_2 l name (IntKind.wrap IntKind.i64 (y.1+(1:Int)),(y.2.1.1,y.2.1.2.1,y.2.1.2.2.1,()),())<Zm275_2 l name y else Lf [DV.agg [CI (0:Int),CI (0:Int),CS ({data:= #[]:ByteArray})],VB false] [DV.agg [CI ((bindOf l name).1.K),CI ((bindOf l name).1.N),CS ((bindOf l name).1.S)],VB ((bindOf l name).2)]) (by kernel_rfl)
 dsimp only
 refine⟨⟨rfl,by omega,by omega,rfl⟩,?_⟩
 rintro⟨i,⟨r1,r2,r3,⟨⟩⟩,⟨⟩⟩ ⟨hr,h1,h2,hR⟩
 cases hr
 simp only
 refine if_dec (fun hc=> ?_) (fun hc=> ?_)
 ·rw[bindOf_step l name h1 hc] at hR
  rw[toList_beq]
  refine⟨by omega,by omega,if_dec (fun g=> ?_) (fun g=> ?_)⟩
  ·rw[if_pos g] at hR;rw[←hR];exact⟨by omega,by omega,Lf_rfl _⟩
  ·rw[if_neg g] at hR;rw[wrap_i64 (by omega) (by omega)];exact⟨⟨rfl,by omega,by omega,hR⟩,by simp only[Zm275_2];omega⟩
 ·have e:l.drop i.toNat=[]:=List.drop_eq_nil_of_le (by omega)
  rw[e] at hR;rw[←hR];exact Lf_rfl _
def Zh275:HH:=⟨_,Zo275⟩
def Zk278:Con UU where
 α:=(List DBind)×ByteArray
 md:=[.ro,.ro]
 of:=oC (oL .eBind) (o1 oS)
 ds:=fun x=>[dL .eBind x.1,dS x.2]
 pre:=fun _=>[]
 res:=fun(l,name)=>⟨[dA .eVal ((bindOf l name).1),dO ((bindOf l name).2)],true,[]⟩
 law:=lC (lL .eBind) (l1 lS)
def Zi278_2(l:(List DBind))(name:ByteArray):Int×(Int×Int×ByteArray×Unit)×Unit→Prop:=fun(i,r,_)=>r=(0,0,noBytes,())∧0≤i∧i≤l.length∧bindOf (l.drop i.toNat) name=bindOf l name
def Zm278_2(l:(List DBind))(name:ByteArray):Int×(Int×Int×ByteArray×Unit)×Unit→Nat:=fun(i,r,_)=>l.length-i.toNat
def Za278:Zk278.α→Nat→Option (Ann UU):=fun(l,name)=>annL [(2,annOf [.slot 10 (10,1024) (.lit (.int .i64)),.box 4 (4,1024) [.lit (.int .i64),.lit (.int .i64),.lit .str]] (fun _=>Zi278_2 l name) (Zm278_2 l name))]
def Zu278:List (FuncId×Con UU):=[]
theorem Zo278:Holds EE (278,Zk278):=by
 refine holds_of EE_ok func278 Zk278 (by kernel_rfl) Zu278 all_nil Za278 (fun x hp hb=> ?_)
 obtain⟨l,name⟩:=x
 have hl_l:l.length≤9223372036854775807:=bdL (hb _ m0)
 have hl_name:=bdS (s:=name) (hb _ m1)
 clear hp hb
 apply @ve _ (Zi278_2 l name ((0:Int),((0:Int),(0:Int),{data:= #[]:ByteArray},()),())∧∀(y:Int×(Int×Int×ByteArray×PUnit)×PUnit),let x0:DVal:=(List.getD l y.1.toNat zBind).V;Zi278_2 l name y→bif decide (y.1<(l.length:Int)) then(0:Int)≤y.1∧y.1.toNat<l.length∧bif ByteArray.toList (List.getD l y.1.toNat zBind).Name==ByteArray.toList name then Lf [DV.agg [CI x0.K,CI x0.N,CS x0.S],VB true] [DV.agg [CI ((bindOf l name).1.K),CI ((bindOf l name).1.N),CS ((bindOf l name).1.S)],VB ((bindOf l name).2)] else Zi278_2 l name (IntKind.wrap IntKind.i64 (y.1+(1:Int)),(y.2.1.1,y.2.1.2.1,y.2.1.2.2.1,()),())∧Zm278_2 l name (IntKind.wrap IntKind.i64 (y.1+(1:Int)),(y.2.1.1,y.2.1.2.1,y.2.1.2.2.1,()),())<Zm278_2 l name y else Lf [DV.agg [CI (0:Int),CI (0:Int),CS ({data:= #[]:ByteArray})],VB false] [DV.agg [CI ((bindOf l name).1.K),CI ((bindOf l name).1.N),CS ((bindOf l name).1.S)],VB ((bindOf l name).2)]) (by kernel_rfl)
 dsimp only
 refine⟨⟨rfl,by omega,by omega,rfl⟩,?_⟩
 rintro⟨i,⟨r1,r2,r3,⟨⟩⟩,⟨⟩⟩ ⟨hr,h1,h2,hR⟩
 cases hr
 simp only
 refine if_dec (fun hc=> ?_) (fun hc=> ?_)
 ·rw[bindOf_step l name h1 hc] at hR
  rw[toList_beq]
  refine⟨by omega,by omega,if_dec (fun g=> ?_) (fun g=> ?_)⟩
  ·rw[if_pos g] at hR;rw[←hR];exact Lf_rfl _
  ·rw[if_neg g] at hR;rw[wrap_i64 (by omega) (by omega)];exact⟨⟨rfl,by omega,by omega,hR⟩,by simp only[Zm278_2];omega⟩
 ·have e:l.drop i.toNat=[]:=List.drop_eq_nil_of_le (by omega)
  rw[e] at hR;rw[←hR];exact Lf_rfl _
def Zh278:HH:=⟨_,Zo278⟩
def Zk245:Con UU where
 α:=DArg×(List DBind)
 md:=[.ro,.ro]
 of:=oC (oA .eArg) (o1 (oL .eBind))
 ds:=fun x=>[dA .eArg x.1,dL .eBind x.2]
 pre:=fun _=>[]
 res:=fun(a,l)=>⟨[dA .eVal ((argVal a l).1),dO ((argVal a l).2)],true,[]⟩
 law:=lC (lA .eArg) (l1 (lL .eBind))
def Za245:Zk245.α→Nat→Option (Ann UU):=fun(a,l)=>annL []
def Zu245:=us [Zh275]
theorem Zo245:Holds EE (245,Zk245):=by
 refine holds_of EE_ok func245 Zk245 (by kernel_rfl) Zu245 (us_ok _) Za245 (fun x hp hb=> ?_)
 obtain⟨a,l⟩:=x
 have hz0:=bd_eArg (x:=a) (hb _ m0)
 have hl_a_S:=hz0.1
 have hl_a_V_S:=hz0.2
 have hl_l:l.length≤9223372036854775807:=bdL (hb _ m1)
 clear hp hb
 apply @ve _ (bif a.K==(2:Int) then Lf [DV.agg [CI a.V.K,CI a.V.N,CS a.V.S],VB true] [DV.agg [CI ((argVal a l).1.K),CI ((argVal a l).1.N),CS ((argVal a l).1.S)],VB ((argVal a l).2)] else bif a.K==(1:Int) then Lf [DV.agg [CI ((bindOf l a.S).1.K),CI ((bindOf l a.S).1.N),CS ((bindOf l a.S).1.S)],VB ((bindOf l a.S).2)] [DV.agg [CI ((argVal a l).1.K),CI ((argVal a l).1.N),CS ((argVal a l).1.S)],VB ((argVal a l).2)] else Lf [DV.agg [CI (0:Int),CI (0:Int),CS ({data:= #[]:ByteArray})],VB false] [DV.agg [CI ((argVal a l).1.K),CI ((argVal a l).1.N),CS ((argVal a l).1.S)],VB ((argVal a l).2)]) (by kernel_rfl)
 refine if_num (fun h=> ?_) (fun h=>if_num (fun h'=> ?_) (fun h'=> ?_))
 ·have e:argVal a l=(a.V,true):=if_pos h
  rw[e];exact Lf_rfl _
 ·have e:argVal a l=bindOf l a.S:=(if_neg h).trans (if_pos h')
  rw[e];exact Lf_rfl _
 ·have e:argVal a l=(zVal,false):=(if_neg h).trans (if_neg h')
  rw[e];exact Lf_rfl _
def Zh245:HH:=⟨_,Zo245⟩
def Zk280:Con UU where
 α:=DArg×(List DBind)
 md:=[.ro,.ro]
 of:=oC (oA .eArg) (o1 (oL .eBind))
 ds:=fun x=>[dA .eArg x.1,dL .eBind x.2]
 pre:=fun _=>[]
 res:=fun(a,l)=>⟨[dA .eVal ((argVal a l).1),dO ((argVal a l).2)],true,[]⟩
 law:=lC (lA .eArg) (l1 (lL .eBind))
def Za280:Zk280.α→Nat→Option (Ann UU):=fun(a,l)=>annL []
def Zu280:=us [Zh278]
theorem Zo280:Holds EE (280,Zk280):=by
 refine holds_of EE_ok func280 Zk280 (by kernel_rfl) Zu280 (us_ok _) Za280 (fun x hp hb=> ?_)
 obtain⟨a,l⟩:=x
 have hz0:=bd_eArg (x:=a) (hb _ m0)
 have hl_a_S:=hz0.1
 have hl_a_V_S:=hz0.2
 have hl_l:l.length≤9223372036854775807:=bdL (hb _ m1)
 clear hp hb
 apply @ve _ (bif a.K==(2:Int) then Lf [DV.agg [CI a.V.K,CI a.V.N,CS a.V.S],VB true] [DV.agg [CI ((argVal a l).1.K),CI ((argVal a l).1.N),CS ((argVal a l).1.S)],VB ((argVal a l).2)] else bif a.K==(1:Int) then Lf [DV.agg [CI ((bindOf l a.S).1.K),CI ((bindOf l a.S).1.N),CS ((bindOf l a.S).1.S)],VB ((bindOf l a.S).2)] [DV.agg [CI ((argVal a l).1.K),CI ((argVal a l).1.N),CS ((argVal a l).1.S)],VB ((argVal a l).2)] else Lf [DV.agg [CI (0:Int),CI (0:Int),CS ({data:= #[]:ByteArray})],VB false] [DV.agg [CI ((argVal a l).1.K),CI ((argVal a l).1.N),CS ((argVal a l).1.S)],VB ((argVal a l).2)]) (by kernel_rfl)
 refine if_num (fun h=> ?_) (fun h=>if_num (fun h'=> ?_) (fun h'=> ?_))
 ·have e:argVal a l=(a.V,true):=if_pos h
  rw[e];exact Lf_rfl _
 ·have e:argVal a l=bindOf l a.S:=(if_neg h).trans (if_pos h')
  rw[e];exact Lf_rfl _
 ·have e:argVal a l=(zVal,false):=(if_neg h).trans (if_neg h')
  rw[e];exact Lf_rfl _
def Zh280:HH:=⟨_,Zo280⟩
def Zk285:Con UU where
 α:=DVal×DVal×Int
 md:=[.ro,.ro,.ro]
 of:=oC (oA .eVal) (oC (oA .eVal) (o1 oI))
 ds:=fun x=>[dA .eVal x.1,dA .eVal x.2.1,dI x.2.2]
 pre:=fun _=>[]
 res:=fun(a,b,n)=>⟨[dA .eVal (sumV a b n),dO (sumOk a b n)],true,[]⟩
 law:=lC (lA .eVal) (lC (lA .eVal) (l1 lI))
def Za285:Zk285.α→Nat→Option (Ann UU):=fun(a,b,n)=>annL []
def Zu285:=us [Zh254]
theorem Zo285:Holds EE (285,Zk285):=by
 refine holds_of EE_ok func285 Zk285 (by kernel_rfl) Zu285 (us_ok _) Za285 (fun x hp hb=> ?_)
 obtain⟨a,b,n⟩:=x
 have hl_a_S:=bd_eVal (x:=a) (hb _ m0)
 have hl_b_S:=bd_eVal (x:=b) (hb _ m1)
 have hl_n:=bdI (n:=n) (hb _ m2)
 clear hp hb
 apply @ve _ (bif a.K !=(1:Int) then Lf [DV.agg [CI (0:Int),CI (0:Int),CS ({data:= #[]:ByteArray})],VB false] [DV.agg [CI ((sumV a b n).K),CI ((sumV a b n).N),CS ((sumV a b n).S)],VB (sumOk a b n)] else bif b.K !=(1:Int) then Lf [DV.agg [CI (0:Int),CI (0:Int),CS ({data:= #[]:ByteArray})],VB false] [DV.agg [CI ((sumV a b n).K),CI ((sumV a b n).N),CS ((sumV a b n).S)],VB (sumOk a b n)] else bif !valOk a then Lf [DV.agg [CI (0:Int),CI (0:Int),CS ({data:= #[]:ByteArray})],VB false] [DV.agg [CI ((sumV a b n).K),CI ((sumV a b n).N),CS ((sumV a b n).S)],VB (sumOk a b n)] else bif !valOk b then Lf [DV.agg [CI (0:Int),CI (0:Int),CS ({data:= #[]:ByteArray})],VB false] [DV.agg [CI ((sumV a b n).K),CI ((sumV a b n).N),CS ((sumV a b n).S)],VB (sumOk a b n)] else bif !valOk {K:=(1:Int),N:=n,S:={data:= #[]:ByteArray}:DVal} then Lf [DV.agg [CI (0:Int),CI (0:Int),CS ({data:= #[]:ByteArray})],VB false] [DV.agg [CI ((sumV a b n).K),CI ((sumV a b n).N),CS ((sumV a b n).S)],VB (sumOk a b n)] else Lf [DV.agg [CI (1:Int),CI n,CS ({data:= #[]:ByteArray})],VB true] [DV.agg [CI ((sumV a b n).K),CI ((sumV a b n).N),CS ((sumV a b n).S)],VB (sumOk a b n)]) (by kernel_rfl)
 refine if_neq (fun h=>sum_no ?_) (fun h1=>if_neq (fun h=>sum_no ?_) (fun h2=>if_not (fun h=>sum_no ?_) (fun h3=>if_not (fun h=>sum_no ?_) (fun h4=>if_not (fun h=>sum_no ?_) (fun h5=>sum_yes ?_)))))
 ·simp only[sumOk,intsOk,decide_eq_false h,zbi]
 ·simp only[sumOk,intsOk,decide_eq_false h,zbi,zbs]
 ·simp only[sumOk,intsOk,show valOk a=false from h,zbi,zbs]
 ·simp only[sumOk,intsOk,show valOk b=false from h,zbi,zbs]
 ·simp only[sumOk,show valOk (numV n)=false from h,zbs]
 ·simp only[sumOk,intsOk,show valOk a=true from h3,show valOk b=true from h4,show valOk (numV n)=true from h5,decide_eq_true h1,decide_eq_true h2];rfl
def Zh285:HH:=⟨_,Zo285⟩
def Zk246:Con UU where
 α:=DVal×DVal
 md:=[.ro,.ro]
 of:=oC (oA .eVal) (o1 (oA .eVal))
 ds:=fun x=>[dA .eVal x.1,dA .eVal x.2]
 pre:=fun _=>[]
 res:=fun(a,b)=>⟨[dA .eVal (sumV a b (a.N+b.N)),dO (sumOk a b (a.N+b.N))],true,[]⟩
 law:=lC (lA .eVal) (l1 (lA .eVal))
def Za246:Zk246.α→Nat→Option (Ann UU):=fun(a,b)=>annL []
def Zu246:=us [Zh285]
theorem Zo246:Holds EE (246,Zk246):=by
 refine holds_of EE_ok func246 Zk246 (by kernel_rfl) Zu246 (us_ok _) Za246 (fun x hp hb=> ?_)
 obtain⟨a,b⟩:=x
 have hl_a_S:=bd_eVal (x:=a) (hb _ m0)
 have hl_b_S:=bd_eVal (x:=b) (hb _ m1)
 clear hp hb
 apply @ve _ (let x2:Int:=a.N+b.N;let x0:DVal:=sumV a b (IntKind.wrap IntKind.i64 x2);let x1:DVal:=sumV a b x2;Lf [DV.agg [CI x0.K,CI x0.N,CS x0.S],VB (sumOk a b (IntKind.wrap IntKind.i64 x2))] [DV.agg [CI x1.K,CI x1.N,CS x1.S],VB (sumOk a b x2)]) (by kernel_rfl)
 dsimp only
 rw[sumOk_wrap a b _ add_wrap,sumV_wrap a b _ add_wrap];exact Lf_rfl _
def Zh246:HH:=⟨_,Zo246⟩
def Zk247:Con UU where
 α:=DVal×DVal
 md:=[.ro,.ro]
 of:=oC (oA .eVal) (o1 (oA .eVal))
 ds:=fun x=>[dA .eVal x.1,dA .eVal x.2]
 pre:=fun _=>[]
 res:=fun(a,b)=>⟨[dA .eVal (sumV a b (a.N-b.N)),dO (sumOk a b (a.N-b.N))],true,[]⟩
 law:=lC (lA .eVal) (l1 (lA .eVal))
def Za247:Zk247.α→Nat→Option (Ann UU):=fun(a,b)=>annL []
def Zu247:=us [Zh285]
theorem Zo247:Holds EE (247,Zk247):=by
 refine holds_of EE_ok func247 Zk247 (by kernel_rfl) Zu247 (us_ok _) Za247 (fun x hp hb=> ?_)
 obtain⟨a,b⟩:=x
 have hl_a_S:=bd_eVal (x:=a) (hb _ m0)
 have hl_b_S:=bd_eVal (x:=b) (hb _ m1)
 clear hp hb
 apply @ve _ (let x2:Int:=a.N-b.N;let x0:DVal:=sumV a b (IntKind.wrap IntKind.i64 x2);let x1:DVal:=sumV a b x2;Lf [DV.agg [CI x0.K,CI x0.N,CS x0.S],VB (sumOk a b (IntKind.wrap IntKind.i64 x2))] [DV.agg [CI x1.K,CI x1.N,CS x1.S],VB (sumOk a b x2)]) (by kernel_rfl)
 dsimp only
 rw[sumOk_wrap a b _ sub_wrap,sumV_wrap a b _ sub_wrap];exact Lf_rfl _
def Zh247:HH:=⟨_,Zo247⟩
def Zk305:Con UU where
 α:=DVal×DVal
 md:=[.ro,.ro]
 of:=oC (oA .eVal) (o1 (oA .eVal))
 ds:=fun x=>[dA .eVal x.1,dA .eVal x.2]
 pre:=fun _=>[]
 res:=fun(a,b)=>⟨[dO (intsOk a b)],true,[]⟩
 law:=lC (lA .eVal) (l1 (lA .eVal))
def Za305:Zk305.α→Nat→Option (Ann UU):=fun(a,b)=>annL []
def Zu305:=us [Zh107]
theorem Zo305:Holds EE (305,Zk305):=by
 refine holds_of EE_ok func305 Zk305 (by kernel_rfl) Zu305 (us_ok _) Za305 (fun x hp hb=> ?_)
 obtain⟨a,b⟩:=x
 have hl_a_S:=bd_eVal (x:=a) (hb _ m0)
 have hl_b_S:=bd_eVal (x:=b) (hb _ m1)
 clear hp hb
 apply @ve _ (bif a.K==(1:Int) then bif b.K==(1:Int) then bif valOk a then Lb (valOk b) (intsOk a b) else Lb false (intsOk a b) else Lb false (intsOk a b) else Lb false (intsOk a b)) (by kernel_rfl)
 refine if_num (fun h1=>if_num (fun h2=>if_cond (fun h3=>Lf_b ?_) (fun h3=>Lf_b ?_)) (fun h2=>Lf_b ?_)) (fun h1=>Lf_b ?_)
 ·simp only[intsOk,decide_eq_true h1,decide_eq_true h2,show valOk a=true from h3,zck]
 ·simp only[intsOk,show valOk a=false from h3,zbi,zbs]
 ·simp only[intsOk,decide_eq_false h2,zbi,zbs]
 ·simp only[intsOk,decide_eq_false h1,zbi]
def Zh305:HH:=⟨_,Zo305⟩
def Zk306:Con UU where
 α:=Int
 md:=[.ro]
 of:=o1 oI
 ds:=fun x=>[dI x]
 pre:=fun _=>[]
 res:=fun n=>⟨[dA .eVal (if valOk (numV n) then numV n else zVal),dO (valOk (numV n))],true,[]⟩
 law:=l1 lI
def Za306:Zk306.α→Nat→Option (Ann UU):=fun n=>annL []
def Zu306:=us [Zh107]
theorem Zo306:Holds EE (306,Zk306):=by
 refine holds_of EE_ok func306 Zk306 (by kernel_rfl) Zu306 (us_ok _) Za306 (fun(n:Int) hp hb=> ?_)
 have hl_n:=bdI (n:=n) (hb _ m0)
 clear hp hb
 apply @ve _ (let x0:DVal:=if valOk (numV n)=true then numV n else zVal;bif !valOk {K:=(1:Int),N:=n,S:={data:= #[]:ByteArray}:DVal} then Lf [DV.agg [CI (0:Int),CI (0:Int),CS ({data:= #[]:ByteArray})],VB false] [DV.agg [CI x0.K,CI x0.N,CS x0.S],VB (valOk (numV n))] else Lf [DV.agg [CI (1:Int),CI n,CS ({data:= #[]:ByteArray})],VB true] [DV.agg [CI x0.K,CI x0.N,CS x0.S],VB (valOk (numV n))]) (by kernel_rfl)
 dsimp only
 refine if_not (fun h=> ?_) (fun h=> ?_)
 ·have h:valOk (numV n)=false:=h
  exact LfV (a:=zVal) (by rw[h];rfl) h.symm
 ·have h:valOk (numV n)=true:=h
  exact LfV (a:=numV n) (by rw[h];rfl) h.symm
def Zh306:HH:=⟨_,Zo306⟩
def Zk281:Con UU where
 α:=DVal×DVal
 md:=[.ro,.ro]
 of:=oC (oA .eVal) (o1 (oA .eVal))
 ds:=fun x=>[dA .eVal x.1,dA .eVal x.2]
 pre:=fun _=>[]
 res:=fun(a,b)=>⟨[dA .eVal (sumV a b (a.N+b.N)),dO (sumOk a b (a.N+b.N))],true,[]⟩
 law:=lC (lA .eVal) (l1 (lA .eVal))
def Za281:Zk281.α→Nat→Option (Ann UU):=fun(a,b)=>annL []
def Zu281:=us [Zh305,Zh306]
theorem Zo281:Holds EE (281,Zk281):=by
 refine holds_of EE_ok func281 Zk281 (by kernel_rfl) Zu281 (us_ok _) Za281 (fun x hp hb=> ?_)
 obtain⟨a,b⟩:=x
 have hl_a_S:=bd_eVal (x:=a) (hb _ m0)
 have hl_b_S:=bd_eVal (x:=b) (hb _ m1)
 clear hp hb
 apply @ve _ (let x2:Int:=a.N+b.N;let x0:DVal:=if valOk (numV (IntKind.wrap IntKind.i64 x2))=true then numV (IntKind.wrap IntKind.i64 x2) else zVal;let x1:DVal:=sumV a b x2;bif !intsOk a b then Lf [DV.agg [CI (0:Int),CI (0:Int),CS ({data:= #[]:ByteArray})],VB false] [DV.agg [CI x1.K,CI x1.N,CS x1.S],VB (sumOk a b x2)] else Lf [DV.agg [CI x0.K,CI x0.N,CS x0.S],VB (valOk (numV (IntKind.wrap IntKind.i64 x2)))] [DV.agg [CI x1.K,CI x1.N,CS x1.S],VB (sumOk a b x2)]) (by kernel_rfl)
 dsimp only
 refine if_not (fun h=>sum_no ?_) (fun h=> ?_)
 ·simp only[sumOk,h,zbi]
 ·rw[add_wrap h]
  obtain⟨e1,e2⟩:=sum_int (n:=a.N+b.N) h
  exact LfV e2.symm e1.symm
def Zh281:HH:=⟨_,Zo281⟩
def Zk282:Con UU where
 α:=DVal×DVal
 md:=[.ro,.ro]
 of:=oC (oA .eVal) (o1 (oA .eVal))
 ds:=fun x=>[dA .eVal x.1,dA .eVal x.2]
 pre:=fun _=>[]
 res:=fun(a,b)=>⟨[dA .eVal (sumV a b (a.N-b.N)),dO (sumOk a b (a.N-b.N))],true,[]⟩
 law:=lC (lA .eVal) (l1 (lA .eVal))
def Za282:Zk282.α→Nat→Option (Ann UU):=fun(a,b)=>annL []
def Zu282:=us [Zh305,Zh306]
theorem Zo282:Holds EE (282,Zk282):=by
 refine holds_of EE_ok func282 Zk282 (by kernel_rfl) Zu282 (us_ok _) Za282 (fun x hp hb=> ?_)
 obtain⟨a,b⟩:=x
 have hl_a_S:=bd_eVal (x:=a) (hb _ m0)
 have hl_b_S:=bd_eVal (x:=b) (hb _ m1)
 clear hp hb
 apply @ve _ (let x2:Int:=a.N-b.N;let x0:DVal:=if valOk (numV (IntKind.wrap IntKind.i64 x2))=true then numV (IntKind.wrap IntKind.i64 x2) else zVal;let x1:DVal:=sumV a b x2;bif !intsOk a b then Lf [DV.agg [CI (0:Int),CI (0:Int),CS ({data:= #[]:ByteArray})],VB false] [DV.agg [CI x1.K,CI x1.N,CS x1.S],VB (sumOk a b x2)] else Lf [DV.agg [CI x0.K,CI x0.N,CS x0.S],VB (valOk (numV (IntKind.wrap IntKind.i64 x2)))] [DV.agg [CI x1.K,CI x1.N,CS x1.S],VB (sumOk a b x2)]) (by kernel_rfl)
 dsimp only
 refine if_not (fun h=>sum_no ?_) (fun h=> ?_)
 ·simp only[sumOk,h,zbi]
 ·rw[sub_wrap h]
  obtain⟨e1,e2⟩:=sum_int (n:=a.N-b.N) h
  exact LfV e2.symm e1.symm
def Zh282:HH:=⟨_,Zo282⟩
def Zk176:Con UU where
 α:=DExpr×(List DBind)
 md:=[.ro,.ro]
 of:=oC (oA .eExpr) (o1 (oL .eBind))
 ds:=fun x=>[dA .eExpr x.1,dL .eBind x.2]
 pre:=fun _=>[]
 res:=fun(e,l)=>⟨[dA .eVal (compV l e),dO (compB l e)],true,[]⟩
 law:=lC (lA .eExpr) (l1 (lL .eBind))
def Za176:Zk176.α→Nat→Option (Ann UU):=fun(e,l)=>annL []
def Zu176:=us [Zh245,Zh246,Zh247]
theorem Zo176:Holds EE (176,Zk176):=by
 refine holds_of EE_ok func176 Zk176 (by kernel_rfl) Zu176 (us_ok _) Za176 (fun x hp hb=> ?_)
 obtain⟨e,l⟩:=x
 have hz0:=bd_eExpr (x:=e) (hb _ m0)
 have hl_e_Op:=hz0.1
 have hl_e_L_S:=hz0.2.1
 have hl_e_L_V_S:=hz0.2.2.1
 have hl_e_R_S:=hz0.2.2.2.1
 have hl_e_R_V_S:=hz0.2.2.2.2
 have hl_l:l.length≤9223372036854775807:=bdL (hb _ m1)
 clear hp hb
 apply @ve _ (let x4:Int:=(argVal {K:=e.L.K,S:=e.L.S,V:={K:=e.L.V.K,N:=e.L.V.N,S:=e.L.V.S:DVal}:DArg} l).1.N;let x5:Int:=(argVal {K:=e.R.K,S:=e.R.S,V:={K:=e.R.V.K,N:=e.R.V.N,S:=e.R.V.S:DVal}:DArg} l).1.N;let x2:Int:=x4-x5;let x3:Int:=x4+x5;let x0:DVal:=sumV (argVal {K:=e.L.K,S:=e.L.S,V:={K:=e.L.V.K,N:=e.L.V.N,S:=e.L.V.S:DVal}:DArg} l).1 (argVal {K:=e.R.K,S:=e.R.S,V:={K:=e.R.V.K,N:=e.R.V.N,S:=e.R.V.S:DVal}:DArg} l).1 x2;let x1:DVal:=sumV (argVal {K:=e.L.K,S:=e.L.S,V:={K:=e.L.V.K,N:=e.L.V.N,S:=e.L.V.S:DVal}:DArg} l).1 (argVal {K:=e.R.K,S:=e.R.S,V:={K:=e.R.V.K,N:=e.R.V.N,S:=e.R.V.S:DVal}:DArg} l).1 x3;bif !(argVal {K:=e.L.K,S:=e.L.S,V:={K:=e.L.V.K,N:=e.L.V.N,S:=e.L.V.S:DVal}:DArg} l).2 then Lf [DV.agg [CI (0:Int),CI (0:Int),CS ({data:= #[]:ByteArray})],VB false] [DV.agg [CI ((compV l e).K),CI ((compV l e).N),CS ((compV l e).S)],VB (compB l e)] else bif ByteArray.toList e.Op==ByteArray.toList {data:= #[]:ByteArray} then Lf [DV.agg [CI ((argVal {K:=e.L.K,S:=e.L.S,V:={K:=e.L.V.K,N:=e.L.V.N,S:=e.L.V.S:DVal}:DArg} l).1.K),CI x4,CS ((argVal {K:=e.L.K,S:=e.L.S,V:={K:=e.L.V.K,N:=e.L.V.N,S:=e.L.V.S:DVal}:DArg} l).1.S)],VB true] [DV.agg [CI ((compV l e).K),CI ((compV l e).N),CS ((compV l e).S)],VB (compB l e)] else bif !(argVal {K:=e.R.K,S:=e.R.S,V:={K:=e.R.V.K,N:=e.R.V.N,S:=e.R.V.S:DVal}:DArg} l).2 then Lf [DV.agg [CI (0:Int),CI (0:Int),CS ({data:= #[]:ByteArray})],VB false] [DV.agg [CI ((compV l e).K),CI ((compV l e).N),CS ((compV l e).S)],VB (compB l e)] else bif ByteArray.toList e.Op==ByteArray.toList {data:= #[(43:UInt8)]:ByteArray} then Lf [DV.agg [CI x1.K,CI x1.N,CS x1.S],VB (sumOk (argVal {K:=e.L.K,S:=e.L.S,V:={K:=e.L.V.K,N:=e.L.V.N,S:=e.L.V.S:DVal}:DArg} l).1 (argVal {K:=e.R.K,S:=e.R.S,V:={K:=e.R.V.K,N:=e.R.V.N,S:=e.R.V.S:DVal}:DArg} l).1 x3)] [DV.agg [CI ((compV l e).K),CI ((compV l e).N),CS ((compV l e).S)],VB (compB l e)] else bif ByteArray.toList e.Op==ByteArray.toList {data:= #[(45:UInt8)]:ByteArray} then Lf [DV.agg [CI x0.K,CI x0.N,CS x0.S],VB (sumOk (argVal {K:=e.L.K,S:=e.L.S,V:={K:=e.L.V.K,N:=e.L.V.N,S:=e.L.V.S:DVal}:DArg} l).1 (argVal {K:=e.R.K,S:=e.R.S,V:={K:=e.R.V.K,N:=e.R.V.N,S:=e.R.V.S:DVal}:DArg} l).1 x2)] [DV.agg [CI ((compV l e).K),CI ((compV l e).N),CS ((compV l e).S)],VB (compB l e)] else Lf [DV.agg [CI (0:Int),CI (0:Int),CS ({data:= #[]:ByteArray})],VB false] [DV.agg [CI ((compV l e).K),CI ((compV l e).N),CS ((compV l e).S)],VB (compB l e)]) (by kernel_rfl)
 dsimp only
 have eL:(⟨e.L.K,e.L.S,⟨e.L.V.K,e.L.V.N,e.L.V.S⟩⟩:DArg)=e.L:=rfl
 have eR:(⟨e.R.K,e.R.S,⟨e.R.V.K,e.R.V.N,e.R.V.S⟩⟩:DArg)=e.R:=rfl
 simp only[eL,eR,toList_beq]
 refine if_not (fun h=> ?_) (fun h=>if_dec (fun h1=> ?_) (fun h1=>if_not (fun h2=> ?_) (fun h2=>if_dec (fun h3=> ?_) (fun h3=>if_dec (fun h4=> ?_) (fun h4=> ?_)))))
 all_goals have hn:(argVal e.L l).2=false→compute e l=(zVal,false):=fun h=>if_pos h
 ·have e1:=hn h
  exact LfV (a:=zVal) (congrArg Prod.fst e1).symm (congrArg Prod.snd e1).symm
 all_goals have h0:¬(argVal e.L l).2=false:=by rw[h];decide
 ·have e1:compute e l=((argVal e.L l).1,true):=(if_neg h0).trans (if_pos h1)
  exact LfV (congrArg Prod.fst e1).symm (congrArg Prod.snd e1).symm
 ·have e1:compute e l=(zVal,false):=(if_neg h0).trans ((if_neg h1).trans (if_pos h2))
  exact LfV (a:=zVal) (congrArg Prod.fst e1).symm (congrArg Prod.snd e1).symm
 all_goals have h5:¬(argVal e.R l).2=false:=by rw[h2];decide
 ·have e1:compute e l=_:=(if_neg h0).trans ((if_neg h1).trans ((if_neg h5).trans (if_pos h3)))
  exact LfV (congrArg Prod.fst e1).symm (congrArg Prod.snd e1).symm
 ·have e1:compute e l=_:=(if_neg h0).trans ((if_neg h1).trans ((if_neg h5).trans ((if_neg h3).trans (if_pos h4))))
  exact LfV (congrArg Prod.fst e1).symm (congrArg Prod.snd e1).symm
 ·have e1:compute e l=(zVal,false):=(if_neg h0).trans ((if_neg h1).trans ((if_neg h5).trans ((if_neg h3).trans (if_neg h4))))
  exact LfV (a:=zVal) (congrArg Prod.fst e1).symm (congrArg Prod.snd e1).symm
def Zh176:HH:=⟨_,Zo176⟩
def Zk240:Con UU where
 α:=DExpr×(List DBind)
 md:=[.ro,.ro]
 of:=oC (oA .eExpr) (o1 (oL .eBind))
 ds:=fun x=>[dA .eExpr x.1,dL .eBind x.2]
 pre:=fun _=>[]
 res:=fun(e,l)=>⟨[dA .eVal (compV l e),dO (compB l e)],true,[]⟩
 law:=lC (lA .eExpr) (l1 (lL .eBind))
def Za240:Zk240.α→Nat→Option (Ann UU):=fun(e,l)=>annL []
def Zu240:=us [Zh280,Zh281,Zh282]
theorem Zo240:Holds EE (240,Zk240):=by
 refine holds_of EE_ok func240 Zk240 (by kernel_rfl) Zu240 (us_ok _) Za240 (fun x hp hb=> ?_)
 obtain⟨e,l⟩:=x
 have hz0:=bd_eExpr (x:=e) (hb _ m0)
 have hl_e_Op:=hz0.1
 have hl_e_L_S:=hz0.2.1
 have hl_e_L_V_S:=hz0.2.2.1
 have hl_e_R_S:=hz0.2.2.2.1
 have hl_e_R_V_S:=hz0.2.2.2.2
 have hl_l:l.length≤9223372036854775807:=bdL (hb _ m1)
 clear hp hb
 apply @ve _ (let x4:Int:=(argVal {K:=e.L.K,S:=e.L.S,V:={K:=e.L.V.K,N:=e.L.V.N,S:=e.L.V.S:DVal}:DArg} l).1.N;let x5:Int:=(argVal {K:=e.R.K,S:=e.R.S,V:={K:=e.R.V.K,N:=e.R.V.N,S:=e.R.V.S:DVal}:DArg} l).1.N;let x2:Int:=x4+x5;let x3:Int:=x4-x5;let x0:DVal:=sumV (argVal {K:=e.L.K,S:=e.L.S,V:={K:=e.L.V.K,N:=e.L.V.N,S:=e.L.V.S:DVal}:DArg} l).1 (argVal {K:=e.R.K,S:=e.R.S,V:={K:=e.R.V.K,N:=e.R.V.N,S:=e.R.V.S:DVal}:DArg} l).1 x3;let x1:DVal:=sumV (argVal {K:=e.L.K,S:=e.L.S,V:={K:=e.L.V.K,N:=e.L.V.N,S:=e.L.V.S:DVal}:DArg} l).1 (argVal {K:=e.R.K,S:=e.R.S,V:={K:=e.R.V.K,N:=e.R.V.N,S:=e.R.V.S:DVal}:DArg} l).1 x2;bif !(argVal {K:=e.L.K,S:=e.L.S,V:={K:=e.L.V.K,N:=e.L.V.N,S:=e.L.V.S:DVal}:DArg} l).2 then Lf [DV.agg [CI ((argVal {K:=e.L.K,S:=e.L.S,V:={K:=e.L.V.K,N:=e.L.V.N,S:=e.L.V.S:DVal}:DArg} l).1.K),CI x4,CS ((argVal {K:=e.L.K,S:=e.L.S,V:={K:=e.L.V.K,N:=e.L.V.N,S:=e.L.V.S:DVal}:DArg} l).1.S)],VB ((argVal {K:=e.L.K,S:=e.L.S,V:={K:=e.L.V.K,N:=e.L.V.N,S:=e.L.V.S:DVal}:DArg} l).2)] [DV.agg [CI ((compV l e).K),CI ((compV l e).N),CS ((compV l e).S)],VB (compB l e)] else bif ByteArray.toList e.Op==ByteArray.toList {data:= #[]:ByteArray} then Lf [DV.agg [CI ((argVal {K:=e.L.K,S:=e.L.S,V:={K:=e.L.V.K,N:=e.L.V.N,S:=e.L.V.S:DVal}:DArg} l).1.K),CI x4,CS ((argVal {K:=e.L.K,S:=e.L.S,V:={K:=e.L.V.K,N:=e.L.V.N,S:=e.L.V.S:DVal}:DArg} l).1.S)],VB ((argVal {K:=e.L.K,S:=e.L.S,V:={K:=e.L.V.K,N:=e.L.V.N,S:=e.L.V.S:DVal}:DArg} l).2)] [DV.agg [CI ((compV l e).K),CI ((compV l e).N),CS ((compV l e).S)],VB (compB l e)] else bif (argVal {K:=e.R.K,S:=e.R.S,V:={K:=e.R.V.K,N:=e.R.V.N,S:=e.R.V.S:DVal}:DArg} l).2 then bif ByteArray.toList e.Op==ByteArray.toList {data:= #[(43:UInt8)]:ByteArray} then Lf [DV.agg [CI x1.K,CI x1.N,CS x1.S],VB (sumOk (argVal {K:=e.L.K,S:=e.L.S,V:={K:=e.L.V.K,N:=e.L.V.N,S:=e.L.V.S:DVal}:DArg} l).1 (argVal {K:=e.R.K,S:=e.R.S,V:={K:=e.R.V.K,N:=e.R.V.N,S:=e.R.V.S:DVal}:DArg} l).1 x2)] [DV.agg [CI ((compV l e).K),CI ((compV l e).N),CS ((compV l e).S)],VB (compB l e)] else bif (argVal {K:=e.R.K,S:=e.R.S,V:={K:=e.R.V.K,N:=e.R.V.N,S:=e.R.V.S:DVal}:DArg} l).2 then bif ByteArray.toList e.Op==ByteArray.toList {data:= #[(45:UInt8)]:ByteArray} then Lf [DV.agg [CI x0.K,CI x0.N,CS x0.S],VB (sumOk (argVal {K:=e.L.K,S:=e.L.S,V:={K:=e.L.V.K,N:=e.L.V.N,S:=e.L.V.S:DVal}:DArg} l).1 (argVal {K:=e.R.K,S:=e.R.S,V:={K:=e.R.V.K,N:=e.R.V.N,S:=e.R.V.S:DVal}:DArg} l).1 x3)] [DV.agg [CI ((compV l e).K),CI ((compV l e).N),CS ((compV l e).S)],VB (compB l e)] else Lf [DV.agg [CI (0:Int),CI (0:Int),CS ({data:= #[]:ByteArray})],VB false] [DV.agg [CI ((compV l e).K),CI ((compV l e).N),CS ((compV l e).S)],VB (compB l e)] else Lf [DV.agg [CI (0:Int),CI (0:Int),CS ({data:= #[]:ByteArray})],VB false] [DV.agg [CI ((compV l e).K),CI ((compV l e).N),CS ((compV l e).S)],VB (compB l e)] else bif (argVal {K:=e.R.K,S:=e.R.S,V:={K:=e.R.V.K,N:=e.R.V.N,S:=e.R.V.S:DVal}:DArg} l).2 then bif ByteArray.toList e.Op==ByteArray.toList {data:= #[(45:UInt8)]:ByteArray} then Lf [DV.agg [CI x0.K,CI x0.N,CS x0.S],VB (sumOk (argVal {K:=e.L.K,S:=e.L.S,V:={K:=e.L.V.K,N:=e.L.V.N,S:=e.L.V.S:DVal}:DArg} l).1 (argVal {K:=e.R.K,S:=e.R.S,V:={K:=e.R.V.K,N:=e.R.V.N,S:=e.R.V.S:DVal}:DArg} l).1 x3)] [DV.agg [CI ((compV l e).K),CI ((compV l e).N),CS ((compV l e).S)],VB (compB l e)] else Lf [DV.agg [CI (0:Int),CI (0:Int),CS ({data:= #[]:ByteArray})],VB false] [DV.agg [CI ((compV l e).K),CI ((compV l e).N),CS ((compV l e).S)],VB (compB l e)] else Lf [DV.agg [CI (0:Int),CI (0:Int),CS ({data:= #[]:ByteArray})],VB false] [DV.agg [CI ((compV l e).K),CI ((compV l e).N),CS ((compV l e).S)],VB (compB l e)]) (by kernel_rfl)
 dsimp only
 have eL:(⟨e.L.K,e.L.S,⟨e.L.V.K,e.L.V.N,e.L.V.S⟩⟩:DArg)=e.L:=rfl
 have eR:(⟨e.R.K,e.R.S,⟨e.R.V.K,e.R.V.N,e.R.V.S⟩⟩:DArg)=e.R:=rfl
 simp only[eL,eR,toList_beq]
 refine if_not (fun h=> ?_) (fun h=>if_dec (fun h1=> ?_) (fun h1=> ?_))
 ·have e1:compute e l=(zVal,false):=if_pos h
  exact LfV ((argVal_no h).trans (congrArg Prod.fst e1).symm) (h.trans (congrArg Prod.snd e1).symm)
 all_goals have h0:¬(argVal e.L l).2=false:=by rw[h];decide
 ·have e1:compute e l=((argVal e.L l).1,true):=(if_neg h0).trans (if_pos h1)
  exact LfV (congrArg Prod.fst e1).symm (h.trans (congrArg Prod.snd e1).symm)
 cases h2:(argVal e.R l).2
 ·have e1:compute e l=(zVal,false):=(if_neg h0).trans ((if_neg h1).trans (if_pos h2))
  exact LfV (a:=zVal) (congrArg Prod.fst e1).symm (congrArg Prod.snd e1).symm
 ·have h5:¬(argVal e.R l).2=false:=by rw[h2];decide
  simp only[cond_true]
  refine if_dec (fun h3=> ?_) (fun h3=>if_dec (fun h4=> ?_) (fun h4=> ?_))
  ·have e1:compute e l=_:=(if_neg h0).trans ((if_neg h1).trans ((if_neg h5).trans (if_pos h3)))
   exact LfV (congrArg Prod.fst e1).symm (congrArg Prod.snd e1).symm
  ·have e1:compute e l=_:=(if_neg h0).trans ((if_neg h1).trans ((if_neg h5).trans ((if_neg h3).trans (if_pos h4))))
   exact LfV (congrArg Prod.fst e1).symm (congrArg Prod.snd e1).symm
  ·have e1:compute e l=(zVal,false):=(if_neg h0).trans ((if_neg h1).trans ((if_neg h5).trans ((if_neg h3).trans (if_neg h4))))
   exact LfV (a:=zVal) (congrArg Prod.fst e1).symm (congrArg Prod.snd e1).symm
def Zh240:HH:=⟨_,Zo240⟩
def Zk106:Con UU where
 α:=(List DExpr)×(List DBind)
 md:=[.ro,.ro]
 of:=oC (oL .eExpr) (o1 (oL .eBind))
 ds:=fun x=>[dL .eExpr x.1,dL .eBind x.2]
 pre:=fun(es,l)=>[es.length≤4294967295]
 res:=fun(es,l)=>⟨[dL .eVal (compsV es l),dO (compsB es l)],true,[]⟩
 law:=lC (lL .eExpr) (l1 (lL .eBind))
def Zi106_3(es:(List DExpr))(l:(List DBind)):List DVal×Int×Unit→Prop:=fun(o,i,_)=>0≤i∧i≤es.length∧o=(es.take i.toNat).map (compV l)∧(es.drop i.toNat).all (compB l)=es.all (compB l)
def Zm106_3(es:(List DExpr))(l:(List DBind)):List DVal×Int×Unit→Nat:=fun(o,i,_)=>es.length-i.toNat
def Za106:Zk106.α→Nat→Option (Ann UU):=fun(es,l)=>annL [(3,annOf [.slot 6 (6,1024) (.own .eVal true),.slot 7 (7,1024) (.lit (.int .i64))] (fun _=>Zi106_3 es l) (Zm106_3 es l))]
def Zu106:=us [Zh176]
theorem Zo106:Holds EE (106,Zk106):=by
 refine holds_of EE_ok func106 Zk106 (by kernel_rfl) Zu106 (us_ok _) Za106 (fun x hp hb=> ?_)
 obtain⟨es,l⟩:=x
 have hl_es:es.length≤9223372036854775807:=bdL (hb _ m0)
 have hl_l:l.length≤9223372036854775807:=bdL (hb _ m1)
 have hp0:es.length≤4294967295:=hp _ m0
 clear hp hb
 apply @ve _ (Zi106_3 es l ([],(0:Int),())∧∀(y:List DVal×Int×PUnit),let x2:Nat:=y.2.1.toNat;let x1:DExpr:=List.getD es x2 zExpr;let x0:List DVal:=[compV l x1];Zi106_3 es l y→bif decide (y.2.1<(es.length:Int)) then(0:Int)≤y.2.1∧x2<es.length∧bif !compB l x1 then Lf [VL .eVal [],VB false] [VL .eVal (compsV es l),VB (compsB es l)] else y.1.length+x0.length≤(4294967296:Nat)∧Zi106_3 es l (y.1++x0,IntKind.wrap IntKind.i64 (y.2.1+(1:Int)),())∧Zm106_3 es l (y.1++x0,IntKind.wrap IntKind.i64 (y.2.1+(1:Int)),())<Zm106_3 es l y else Lf [VL .eVal y.1,VB true] [VL .eVal (compsV es l),VB (compsB es l)]) (by kernel_rfl)
 dsimp only
 refine⟨⟨by omega,by omega,by simp,rfl⟩,?_⟩
 rintro⟨o,i,⟨⟩⟩ ⟨h1,h2,rfl,hR⟩
 dsimp only
 refine if_dec (fun hc=> ?_) (fun hc=> ?_)
 ·rw[all_step _ _ zExpr h1 hc] at hR
  refine⟨by omega,by omega,if_not (fun g=> ?_) (fun g=> ?_)⟩
  ·have hf:compsB es l=false:=by rw[compsB,←hR,show compB l (List.getD es i.toNat zExpr)=false from g];rfl
   exact LfVS (by rw[compsV,if_neg (by rw[hf];decide)];rfl) hf.symm
  ·rw[show compB l (List.getD es i.toNat zExpr)=true from g,zck] at hR
   have hm:(es.take i.toNat).map (compV l)++[compV l (List.getD es i.toNat zExpr)]=(es.take (i+1).toNat).map (compV l):=by rw[←take_step es zExpr h1 hc,zef];rfl
   rw[wrap_i64 (by omega) (by omega)]
   exact⟨by simp only[zco,zaw,zbq,zbo];omega,⟨by omega,by omega,hm,hR⟩,by simp only[Zm106_3];omega⟩
 ·have e:es.drop i.toNat=[]:=List.drop_eq_nil_of_le (by omega)
  rw[e] at hR
  have hf:compsB es l=true:=hR.symm
  rw[take_all es (by omega)]
  exact LfVS (by rw[compsV,if_pos hf]) hf.symm
def Zh106:HH:=⟨_,Zo106⟩
end
end AM
