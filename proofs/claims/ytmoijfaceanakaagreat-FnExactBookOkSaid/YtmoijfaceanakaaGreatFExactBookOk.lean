/- Functions of the program with their contracts: put together by gen/link.py for FnExactBookOk. -/
import Derived.Test.YtmoijfaceanakaaGreatAmLib
namespace AM
open Go
set_option linter.unusedVariables false
set_option linter.unusedSimpArgs false
set_option maxRecDepth 100000
noncomputable section
instance:DecidableEq DVal:=fun _ _=>Classical.propDecidable _
instance:DecidableEq DFact:=fun _ _=>Classical.propDecidable _
instance:DecidableEq DItem:=fun _ _=>Classical.propDecidable _
instance:DecidableEq DStore:=fun _ _=>Classical.propDecidable _
instance:DecidableEq DToken:=fun _ _=>Classical.propDecidable _
instance:DecidableEq DArg:=fun _ _=>Classical.propDecidable _
instance:DecidableEq DPat:=fun _ _=>Classical.propDecidable _
instance:DecidableEq DBind:=fun _ _=>Classical.propDecidable _
instance:DecidableEq DCond:=fun _ _=>Classical.propDecidable _
instance:DecidableEq DExpr:=fun _ _=>Classical.propDecidable _
instance:DecidableEq DAct:=fun _ _=>Classical.propDecidable _
instance:DecidableEq DRule:=fun _ _=>Classical.propDecidable _
instance:DecidableEq DDef:=fun _ _=>Classical.propDecidable _
instance:DecidableEq DMatch:=fun _ _=>Classical.propDecidable _
instance:DecidableEq DAlpha:=fun _ _=>Classical.propDecidable _
instance:DecidableEq DChain:=fun _ _=>Classical.propDecidable _
instance:DecidableEq DNet:=fun _ _=>Classical.propDecidable _
instance:DecidableEq DIds:=fun _ _=>Classical.propDecidable _
instance:DecidableEq DTok:=fun _ _=>Classical.propDecidable _
instance:DecidableEq DLevel:=fun _ _=>Classical.propDecidable _
instance:DecidableEq DRow:=fun _ _=>Classical.propDecidable _
instance:DecidableEq DMem:=fun _ _=>Classical.propDecidable _
instance:DecidableEq DEffect:=fun _ _=>Classical.propDecidable _
instance:DecidableEq DTimer:=fun _ _=>Classical.propDecidable _
instance:DecidableEq DTask:=fun _ _=>Classical.propDecidable _
instance:DecidableEq DCall:=fun _ _=>Classical.propDecidable _
instance:DecidableEq DUndo:=fun _ _=>Classical.propDecidable _
instance:DecidableEq DInst:=fun _ _=>Classical.propDecidable _
instance:DecidableEq DRun:=fun _ _=>Classical.propDecidable _
instance:DecidableEq DOp:=fun _ _=>Classical.propDecidable _
instance:DecidableEq DWork:=fun _ _=>Classical.propDecidable _
instance:DecidableEq DBook:=fun _ _=>Classical.propDecidable _
instance:DecidableEq DSent:=fun _ _=>Classical.propDecidable _
theorem sum_getD_le{α:Type}(f:α→Nat)(l:List α)(z:α){i:Int}(h0:0≤i)(h:i<l.length):f (List.getD l i.toNat z)≤(l.map f).sum:=by
 have h1:l=l.take i.toNat++List.getD l i.toNat z::l.drop (i+1).toNat:=by rw[←drop_step l z h0 h,List.take_append_drop]
 have h2:=congrArg (fun q=>(q.map f).sum) h1
 simp only[List.map_append,List.map_cons,List.sum_append,List.sum_cons] at h2
 omega
theorem all_step{α:Type}(p:α→Bool)(l:List α)(z:α){i:Int}(h0:0≤i)(h:i<l.length):(l.drop i.toNat).all p=(p (List.getD l i.toNat z)&&(l.drop (i+1).toNat).all p):=by
 rw[drop_step l z h0 h,List.all_cons]
def bs(s:ByteArray):List UInt8:=s.data.toList
theorem bs_len(s:ByteArray):(bs s).length=s.size:=Array.length_toList
theorem bs_eq(s:ByteArray):Array.toList (ByteArray.data s)=bs s:=rfl
def byteP(p:Int→Bool)(b:UInt8):Bool:=p b.toNat
theorem u8_i64(b:UInt8):IntKind.wrap .i64 (b.toNat:Int)=b.toNat:=wrap_i64 (by omega) (by have:=b.toNat_lt;omega)
theorem Lf_tt{y:Bool}(h:y=true):Lf [.one (.lit (.bool true))] [.one (.lit (.bool y))]:=Lf_b h.symm
theorem Lf_ff{y:Bool}(h:y=false):Lf [.one (.lit (.bool false))] [.one (.lit (.bool y))]:=Lf_b h.symm
theorem take_step{α:Type}(l:List α)(z:α){i:Int}(h0:0≤i)(h:i<l.length):l.take i.toNat++[List.getD l i.toNat z]=l.take (i+1).toNat:=by
 have hn:i.toNat<l.length:=by omega
 have e:(i+1).toNat=i.toNat+1:=by omega
 rw[e,List.take_succ_eq_append_getElem hn,List.getD_eq_getElem?_getD,List.getElem?_eq_getElem hn]
 rfl
theorem take_all{α:Type}(l:List α){i:Int}(h:l.length≤i):l.take i.toNat=l:=List.take_of_length_le (by omega)
theorem szr_neg{a:Int}{n:Nat}(h:decide (szr a n<0)=true):a<n:=by
 have h:=of_decide_eq_true h
 unfold szr at h;split at h<;>omega
theorem szr_pos{a:Int}{n:Nat}(h:decide (szr a n<0)=false):szr a n=a-n∧(n:Int)≤a:=by
 have h:=of_decide_eq_false h
 unfold szr at h⊢;split at h
 ·rename_i g;rw[if_pos g];exact⟨rfl,g⟩
 ·omega
theorem szr_bad'{a:Int}{n:Nat}(h:a<n): -1=szr a n:=by simp only[szr];rw[if_neg (by omega)]
theorem szr_ok'{a:Int}{n:Nat}(h:(n:Int)≤a):a-n=szr a n:=by simp only[szr];rw[if_pos h]
def sizeIntS(l:List Int):Nat:=l.length
def sizeVal(a:DVal):Nat:=a.S.size
def sizeValS(l:List DVal):Nat:=l.length+(l.map sizeVal).sum
def sizeFact(a:DFact):Nat:=a.Kind.size+sizeValS a.Fields
def sizeItem(a:DItem):Nat:=sizeFact a.F
def sizeItemS(l:List DItem):Nat:=l.length+(l.map sizeItem).sum
def sizeStore(a:DStore):Nat:=sizeItemS a.Items
def sizeArg(a:DArg):Nat:=a.S.size+sizeVal a.V
def sizeArgS(l:List DArg):Nat:=l.length+(l.map sizeArg).sum
def sizePat(a:DPat):Nat:=a.Kind.size+sizeArgS a.Args
def sizePatS(l:List DPat):Nat:=l.length+(l.map sizePat).sum
def sizeBind(a:DBind):Nat:=a.Name.size+sizeVal a.V
def sizeBindS(l:List DBind):Nat:=l.length+(l.map sizeBind).sum
def sizeCond(a:DCond):Nat:=sizeArg a.L+sizeArg a.R
def sizeCondS(l:List DCond):Nat:=l.length+(l.map sizeCond).sum
def sizeExpr(a:DExpr):Nat:=a.Op.size+sizeArg a.L+sizeArg a.R
def sizeExprS(l:List DExpr):Nat:=l.length+(l.map sizeExpr).sum
def sizeAct(a:DAct):Nat:=a.Name.size+sizeExprS a.Args+a.Undo.size
def sizeActS(l:List DAct):Nat:=l.length+(l.map sizeAct).sum
def sizeRule(a:DRule):Nat:=a.Name.size+sizePatS a.Pats+sizeCondS a.Conds+sizeActS a.Acts
def sizeRuleS(l:List DRule):Nat:=l.length+(l.map sizeRule).sum
def sizeDef(a:DDef):Nat:=a.Name.size+sizeRuleS a.Rules
def sizeDefS(l:List DDef):Nat:=l.length+(l.map sizeDef).sum
def sizeMatch(a:DMatch):Nat:=sizeIntS a.Ids+sizeBindS a.Binds
def sizeMatchS(l:List DMatch):Nat:=l.length+(l.map sizeMatch).sum
def sizeTimer(a:DTimer):Nat:=sizeFact a.F
def sizeTimerS(l:List DTimer):Nat:=l.length+(l.map sizeTimer).sum
def sizeTask(a:DTask):Nat:=sizeFact a.F+a.Undo.size+sizeVal a.V
def sizeTaskS(l:List DTask):Nat:=l.length+(l.map sizeTask).sum
def sizeUndo(a:DUndo):Nat:=a.Key.size+sizeFact a.F
def sizeUndoS(l:List DUndo):Nat:=l.length+(l.map sizeUndo).sum
def sizeInst(a:DInst):Nat:=sizeStore a.S+sizeMatchS a.Fired+sizeTaskS a.Tasks+sizeTimerS a.Timers+sizeUndoS a.Undos
def sizeWork(a:DWork):Nat:=a.Name.size+a.Def.size+sizeInst a.X
def sizeWorkS(l:List DWork):Nat:=l.length+(l.map sizeWork).sum
def sizeBook(a:DBook):Nat:=sizeDefS a.Defs+sizeWorkS a.Works
theorem bd_eVal{x:DVal}(h:BdDV (dA .eVal x)):x.S.size≤9223372036854775807:=Bd.str (U:=UU) (h _ (List.mem_cons_of_mem _ (List.mem_cons_of_mem _ (List.mem_cons_self))))
theorem bd_lVal{x:DVal}(h:BdDV (dA .lVal x)):x.S.size≤9223372036854775807:=Bd.str (U:=UU) (h _ (List.mem_cons_of_mem _ (List.mem_cons_of_mem _ (List.mem_cons_self))))
theorem bd_eFact{x:DFact}(h:BdDV (dA .eFact x)):x.Kind.size≤9223372036854775807∧x.Fields.length≤9223372036854775807:=⟨Bd.str (U:=UU) (h _ (List.mem_cons_self)),Bd.len (U:=UU) (h _ (List.mem_cons_of_mem _ (List.mem_cons_self)))⟩
theorem bdP_eFact{x:DFact}(h:BdDV (dP .eFact x)):x.Kind.size≤9223372036854775807∧x.Fields.length≤9223372036854775807:=⟨Bd.str (U:=UU) (h _ (List.mem_cons_self)),Bd.len (U:=UU) (h _ (List.mem_cons_of_mem _ (List.mem_cons_self)))⟩
theorem bd_lFact{x:DFact}(h:BdDV (dA .lFact x)):x.Kind.size≤9223372036854775807∧x.Fields.length≤9223372036854775807:=⟨Bd.str (U:=UU) (h _ (List.mem_cons_self)),Bd.len (U:=UU) (h _ (List.mem_cons_of_mem _ (List.mem_cons_self)))⟩
theorem bd_eItem{x:DItem}(h:BdDV (dA .eItem x)):x.F.Kind.size≤9223372036854775807∧x.F.Fields.length≤9223372036854775807:=⟨Bd.str (U:=UU) (h _ (List.mem_cons_of_mem _ (List.mem_cons_self))),Bd.len (U:=UU) (h _ (List.mem_cons_of_mem _ (List.mem_cons_of_mem _ (List.mem_cons_self))))⟩
theorem bd_lItem{x:DItem}(h:BdDV (dA .lItem x)):x.F.Kind.size≤9223372036854775807∧x.F.Fields.length≤9223372036854775807:=⟨Bd.str (U:=UU) (h _ (List.mem_cons_of_mem _ (List.mem_cons_self))),Bd.len (U:=UU) (h _ (List.mem_cons_of_mem _ (List.mem_cons_of_mem _ (List.mem_cons_self))))⟩
theorem bd_eStore{x:DStore}(h:BdDV (dA .eStore x)):x.Items.length≤9223372036854775807:=Bd.len (U:=UU) (h _ (List.mem_cons_self))
theorem bd_lStore{x:DStore}(h:BdDV (dA .lStore x)):x.Items.length≤9223372036854775807:=Bd.len (U:=UU) (h _ (List.mem_cons_self))
theorem bd_eArg{x:DArg}(h:BdDV (dA .eArg x)):x.S.size≤9223372036854775807∧x.V.S.size≤9223372036854775807:=⟨Bd.str (U:=UU) (h _ (List.mem_cons_of_mem _ (List.mem_cons_self))),Bd.str (U:=UU) (h _ (List.mem_cons_of_mem _ (List.mem_cons_of_mem _ (List.mem_cons_of_mem _ (List.mem_cons_of_mem _ (List.mem_cons_self))))))⟩
theorem bd_lArg{x:DArg}(h:BdDV (dA .lArg x)):x.S.size≤9223372036854775807∧x.V.S.size≤9223372036854775807:=⟨Bd.str (U:=UU) (h _ (List.mem_cons_of_mem _ (List.mem_cons_self))),Bd.str (U:=UU) (h _ (List.mem_cons_of_mem _ (List.mem_cons_of_mem _ (List.mem_cons_of_mem _ (List.mem_cons_of_mem _ (List.mem_cons_self))))))⟩
theorem bd_ePat{x:DPat}(h:BdDV (dA .ePat x)):x.Kind.size≤9223372036854775807∧x.Args.length≤9223372036854775807:=⟨Bd.str (U:=UU) (h _ (List.mem_cons_self)),Bd.len (U:=UU) (h _ (List.mem_cons_of_mem _ (List.mem_cons_self)))⟩
theorem bd_lPat{x:DPat}(h:BdDV (dA .lPat x)):x.Kind.size≤9223372036854775807∧x.Args.length≤9223372036854775807:=⟨Bd.str (U:=UU) (h _ (List.mem_cons_self)),Bd.len (U:=UU) (h _ (List.mem_cons_of_mem _ (List.mem_cons_self)))⟩
theorem bd_eBind{x:DBind}(h:BdDV (dA .eBind x)):x.Name.size≤9223372036854775807∧x.V.S.size≤9223372036854775807:=⟨Bd.str (U:=UU) (h _ (List.mem_cons_self)),Bd.str (U:=UU) (h _ (List.mem_cons_of_mem _ (List.mem_cons_of_mem _ (List.mem_cons_of_mem _ (List.mem_cons_self)))))⟩
theorem bd_lBind{x:DBind}(h:BdDV (dA .lBind x)):x.Name.size≤9223372036854775807∧x.V.S.size≤9223372036854775807:=⟨Bd.str (U:=UU) (h _ (List.mem_cons_self)),Bd.str (U:=UU) (h _ (List.mem_cons_of_mem _ (List.mem_cons_of_mem _ (List.mem_cons_of_mem _ (List.mem_cons_self)))))⟩
theorem bd_eCond{x:DCond}(h:BdDV (dA .eCond x)):x.L.S.size≤9223372036854775807∧x.L.V.S.size≤9223372036854775807∧x.R.S.size≤9223372036854775807∧x.R.V.S.size≤9223372036854775807:=⟨Bd.str (U:=UU) (h _ (List.mem_cons_of_mem _ (List.mem_cons_of_mem _ (List.mem_cons_self)))),Bd.str (U:=UU) (h _ (List.mem_cons_of_mem _ (List.mem_cons_of_mem _ (List.mem_cons_of_mem _ (List.mem_cons_of_mem _ (List.mem_cons_of_mem _ (List.mem_cons_self))))))),Bd.str (U:=UU) (h _ (List.mem_cons_of_mem _ (List.mem_cons_of_mem _ (List.mem_cons_of_mem _ (List.mem_cons_of_mem _ (List.mem_cons_of_mem _ (List.mem_cons_of_mem _ (List.mem_cons_of_mem _ (List.mem_cons_self))))))))),Bd.str (U:=UU) (h _ (List.mem_cons_of_mem _ (List.mem_cons_of_mem _ (List.mem_cons_of_mem _ (List.mem_cons_of_mem _ (List.mem_cons_of_mem _ (List.mem_cons_of_mem _ (List.mem_cons_of_mem _ (List.mem_cons_of_mem _ (List.mem_cons_of_mem _ (List.mem_cons_of_mem _ (List.mem_cons_self))))))))))))⟩
theorem bd_lCond{x:DCond}(h:BdDV (dA .lCond x)):x.L.S.size≤9223372036854775807∧x.L.V.S.size≤9223372036854775807∧x.R.S.size≤9223372036854775807∧x.R.V.S.size≤9223372036854775807:=⟨Bd.str (U:=UU) (h _ (List.mem_cons_of_mem _ (List.mem_cons_of_mem _ (List.mem_cons_self)))),Bd.str (U:=UU) (h _ (List.mem_cons_of_mem _ (List.mem_cons_of_mem _ (List.mem_cons_of_mem _ (List.mem_cons_of_mem _ (List.mem_cons_of_mem _ (List.mem_cons_self))))))),Bd.str (U:=UU) (h _ (List.mem_cons_of_mem _ (List.mem_cons_of_mem _ (List.mem_cons_of_mem _ (List.mem_cons_of_mem _ (List.mem_cons_of_mem _ (List.mem_cons_of_mem _ (List.mem_cons_of_mem _ (List.mem_cons_self))))))))),Bd.str (U:=UU) (h _ (List.mem_cons_of_mem _ (List.mem_cons_of_mem _ (List.mem_cons_of_mem _ (List.mem_cons_of_mem _ (List.mem_cons_of_mem _ (List.mem_cons_of_mem _ (List.mem_cons_of_mem _ (List.mem_cons_of_mem _ (List.mem_cons_of_mem _ (List.mem_cons_of_mem _ (List.mem_cons_self))))))))))))⟩
theorem bd_eExpr{x:DExpr}(h:BdDV (dA .eExpr x)):x.Op.size≤9223372036854775807∧x.L.S.size≤9223372036854775807∧x.L.V.S.size≤9223372036854775807∧x.R.S.size≤9223372036854775807∧x.R.V.S.size≤9223372036854775807:=⟨Bd.str (U:=UU) (h _ (List.mem_cons_self)),Bd.str (U:=UU) (h _ (List.mem_cons_of_mem _ (List.mem_cons_of_mem _ (List.mem_cons_self)))),Bd.str (U:=UU) (h _ (List.mem_cons_of_mem _ (List.mem_cons_of_mem _ (List.mem_cons_of_mem _ (List.mem_cons_of_mem _ (List.mem_cons_of_mem _ (List.mem_cons_self))))))),Bd.str (U:=UU) (h _ (List.mem_cons_of_mem _ (List.mem_cons_of_mem _ (List.mem_cons_of_mem _ (List.mem_cons_of_mem _ (List.mem_cons_of_mem _ (List.mem_cons_of_mem _ (List.mem_cons_of_mem _ (List.mem_cons_self))))))))),Bd.str (U:=UU) (h _ (List.mem_cons_of_mem _ (List.mem_cons_of_mem _ (List.mem_cons_of_mem _ (List.mem_cons_of_mem _ (List.mem_cons_of_mem _ (List.mem_cons_of_mem _ (List.mem_cons_of_mem _ (List.mem_cons_of_mem _ (List.mem_cons_of_mem _ (List.mem_cons_of_mem _ (List.mem_cons_self))))))))))))⟩
theorem bd_lExpr{x:DExpr}(h:BdDV (dA .lExpr x)):x.Op.size≤9223372036854775807∧x.L.S.size≤9223372036854775807∧x.L.V.S.size≤9223372036854775807∧x.R.S.size≤9223372036854775807∧x.R.V.S.size≤9223372036854775807:=⟨Bd.str (U:=UU) (h _ (List.mem_cons_self)),Bd.str (U:=UU) (h _ (List.mem_cons_of_mem _ (List.mem_cons_of_mem _ (List.mem_cons_self)))),Bd.str (U:=UU) (h _ (List.mem_cons_of_mem _ (List.mem_cons_of_mem _ (List.mem_cons_of_mem _ (List.mem_cons_of_mem _ (List.mem_cons_of_mem _ (List.mem_cons_self))))))),Bd.str (U:=UU) (h _ (List.mem_cons_of_mem _ (List.mem_cons_of_mem _ (List.mem_cons_of_mem _ (List.mem_cons_of_mem _ (List.mem_cons_of_mem _ (List.mem_cons_of_mem _ (List.mem_cons_of_mem _ (List.mem_cons_self))))))))),Bd.str (U:=UU) (h _ (List.mem_cons_of_mem _ (List.mem_cons_of_mem _ (List.mem_cons_of_mem _ (List.mem_cons_of_mem _ (List.mem_cons_of_mem _ (List.mem_cons_of_mem _ (List.mem_cons_of_mem _ (List.mem_cons_of_mem _ (List.mem_cons_of_mem _ (List.mem_cons_of_mem _ (List.mem_cons_self))))))))))))⟩
theorem bd_eAct{x:DAct}(h:BdDV (dA .eAct x)):x.Name.size≤9223372036854775807∧x.Args.length≤9223372036854775807∧x.Undo.size≤9223372036854775807:=⟨Bd.str (U:=UU) (h _ (List.mem_cons_of_mem _ (List.mem_cons_self))),Bd.len (U:=UU) (h _ (List.mem_cons_of_mem _ (List.mem_cons_of_mem _ (List.mem_cons_self)))),Bd.str (U:=UU) (h _ (List.mem_cons_of_mem _ (List.mem_cons_of_mem _ (List.mem_cons_of_mem _ (List.mem_cons_of_mem _ (List.mem_cons_self))))))⟩
theorem bd_lAct{x:DAct}(h:BdDV (dA .lAct x)):x.Name.size≤9223372036854775807∧x.Args.length≤9223372036854775807∧x.Undo.size≤9223372036854775807:=⟨Bd.str (U:=UU) (h _ (List.mem_cons_of_mem _ (List.mem_cons_self))),Bd.len (U:=UU) (h _ (List.mem_cons_of_mem _ (List.mem_cons_of_mem _ (List.mem_cons_self)))),Bd.str (U:=UU) (h _ (List.mem_cons_of_mem _ (List.mem_cons_of_mem _ (List.mem_cons_of_mem _ (List.mem_cons_of_mem _ (List.mem_cons_self))))))⟩
theorem bd_eRule{x:DRule}(h:BdDV (dA .eRule x)):x.Name.size≤9223372036854775807∧x.Pats.length≤9223372036854775807∧x.Conds.length≤9223372036854775807∧x.Acts.length≤9223372036854775807:=⟨Bd.str (U:=UU) (h _ (List.mem_cons_self)),Bd.len (U:=UU) (h _ (List.mem_cons_of_mem _ (List.mem_cons_of_mem _ (List.mem_cons_self)))),Bd.len (U:=UU) (h _ (List.mem_cons_of_mem _ (List.mem_cons_of_mem _ (List.mem_cons_of_mem _ (List.mem_cons_self))))),Bd.len (U:=UU) (h _ (List.mem_cons_of_mem _ (List.mem_cons_of_mem _ (List.mem_cons_of_mem _ (List.mem_cons_of_mem _ (List.mem_cons_self))))))⟩
theorem bd_lRule{x:DRule}(h:BdDV (dA .lRule x)):x.Name.size≤9223372036854775807∧x.Pats.length≤9223372036854775807∧x.Conds.length≤9223372036854775807∧x.Acts.length≤9223372036854775807:=⟨Bd.str (U:=UU) (h _ (List.mem_cons_self)),Bd.len (U:=UU) (h _ (List.mem_cons_of_mem _ (List.mem_cons_of_mem _ (List.mem_cons_self)))),Bd.len (U:=UU) (h _ (List.mem_cons_of_mem _ (List.mem_cons_of_mem _ (List.mem_cons_of_mem _ (List.mem_cons_self))))),Bd.len (U:=UU) (h _ (List.mem_cons_of_mem _ (List.mem_cons_of_mem _ (List.mem_cons_of_mem _ (List.mem_cons_of_mem _ (List.mem_cons_self))))))⟩
theorem bd_eDef{x:DDef}(h:BdDV (dA .eDef x)):x.Name.size≤9223372036854775807∧x.Rules.length≤9223372036854775807:=⟨Bd.str (U:=UU) (h _ (List.mem_cons_self)),Bd.len (U:=UU) (h _ (List.mem_cons_of_mem _ (List.mem_cons_self)))⟩
theorem bd_lDef{x:DDef}(h:BdDV (dA .lDef x)):x.Name.size≤9223372036854775807∧x.Rules.length≤9223372036854775807:=⟨Bd.str (U:=UU) (h _ (List.mem_cons_self)),Bd.len (U:=UU) (h _ (List.mem_cons_of_mem _ (List.mem_cons_self)))⟩
theorem bd_eMatch{x:DMatch}(h:BdDV (dA .eMatch x)):x.Ids.length≤9223372036854775807∧x.Binds.length≤9223372036854775807:=⟨Bd.len (U:=UU) (h _ (List.mem_cons_of_mem _ (List.mem_cons_self))),Bd.len (U:=UU) (h _ (List.mem_cons_of_mem _ (List.mem_cons_of_mem _ (List.mem_cons_self))))⟩
theorem bd_lMatch{x:DMatch}(h:BdDV (dA .lMatch x)):x.Ids.length≤9223372036854775807∧x.Binds.length≤9223372036854775807:=⟨Bd.len (U:=UU) (h _ (List.mem_cons_of_mem _ (List.mem_cons_self))),Bd.len (U:=UU) (h _ (List.mem_cons_of_mem _ (List.mem_cons_of_mem _ (List.mem_cons_self))))⟩
theorem bd_eTimer{x:DTimer}(h:BdDV (dA .eTimer x)):x.F.Kind.size≤9223372036854775807∧x.F.Fields.length≤9223372036854775807:=⟨Bd.str (U:=UU) (h _ (List.mem_cons_of_mem _ (List.mem_cons_self))),Bd.len (U:=UU) (h _ (List.mem_cons_of_mem _ (List.mem_cons_of_mem _ (List.mem_cons_self))))⟩
theorem bd_lTimer{x:DTimer}(h:BdDV (dA .lTimer x)):x.F.Kind.size≤9223372036854775807∧x.F.Fields.length≤9223372036854775807:=⟨Bd.str (U:=UU) (h _ (List.mem_cons_of_mem _ (List.mem_cons_self))),Bd.len (U:=UU) (h _ (List.mem_cons_of_mem _ (List.mem_cons_of_mem _ (List.mem_cons_self))))⟩
theorem bd_eTask{x:DTask}(h:BdDV (dA .eTask x)):x.F.Kind.size≤9223372036854775807∧x.F.Fields.length≤9223372036854775807∧x.Undo.size≤9223372036854775807∧x.V.S.size≤9223372036854775807:=⟨Bd.str (U:=UU) (h _ (List.mem_cons_self)),Bd.len (U:=UU) (h _ (List.mem_cons_of_mem _ (List.mem_cons_self))),Bd.str (U:=UU) (h _ (List.mem_cons_of_mem _ (List.mem_cons_of_mem _ (List.mem_cons_self)))),Bd.str (U:=UU) (h _ (List.mem_cons_of_mem _ (List.mem_cons_of_mem _ (List.mem_cons_of_mem _ (List.mem_cons_of_mem _ (List.mem_cons_of_mem _ (List.mem_cons_of_mem _ (List.mem_cons_of_mem _ (List.mem_cons_of_mem _ (List.mem_cons_self))))))))))⟩
theorem bd_lTask{x:DTask}(h:BdDV (dA .lTask x)):x.F.Kind.size≤9223372036854775807∧x.F.Fields.length≤9223372036854775807∧x.Undo.size≤9223372036854775807∧x.V.S.size≤9223372036854775807:=⟨Bd.str (U:=UU) (h _ (List.mem_cons_self)),Bd.len (U:=UU) (h _ (List.mem_cons_of_mem _ (List.mem_cons_self))),Bd.str (U:=UU) (h _ (List.mem_cons_of_mem _ (List.mem_cons_of_mem _ (List.mem_cons_self)))),Bd.str (U:=UU) (h _ (List.mem_cons_of_mem _ (List.mem_cons_of_mem _ (List.mem_cons_of_mem _ (List.mem_cons_of_mem _ (List.mem_cons_of_mem _ (List.mem_cons_of_mem _ (List.mem_cons_of_mem _ (List.mem_cons_of_mem _ (List.mem_cons_self))))))))))⟩
theorem bd_eUndo{x:DUndo}(h:BdDV (dA .eUndo x)):x.Key.size≤9223372036854775807∧x.F.Kind.size≤9223372036854775807∧x.F.Fields.length≤9223372036854775807:=⟨Bd.str (U:=UU) (h _ (List.mem_cons_self)),Bd.str (U:=UU) (h _ (List.mem_cons_of_mem _ (List.mem_cons_self))),Bd.len (U:=UU) (h _ (List.mem_cons_of_mem _ (List.mem_cons_of_mem _ (List.mem_cons_self))))⟩
theorem bd_lUndo{x:DUndo}(h:BdDV (dA .lUndo x)):x.Key.size≤9223372036854775807∧x.F.Kind.size≤9223372036854775807∧x.F.Fields.length≤9223372036854775807:=⟨Bd.str (U:=UU) (h _ (List.mem_cons_self)),Bd.str (U:=UU) (h _ (List.mem_cons_of_mem _ (List.mem_cons_self))),Bd.len (U:=UU) (h _ (List.mem_cons_of_mem _ (List.mem_cons_of_mem _ (List.mem_cons_self))))⟩
theorem bd_eInst{x:DInst}(h:BdDV (dA .eInst x)):x.S.Items.length≤9223372036854775807∧x.Fired.length≤9223372036854775807∧x.Tasks.length≤9223372036854775807∧x.Timers.length≤9223372036854775807∧x.Undos.length≤9223372036854775807:=⟨Bd.len (U:=UU) (h _ (List.mem_cons_self)),Bd.len (U:=UU) (h _ (List.mem_cons_of_mem _ (List.mem_cons_of_mem _ (List.mem_cons_self)))),Bd.len (U:=UU) (h _ (List.mem_cons_of_mem _ (List.mem_cons_of_mem _ (List.mem_cons_of_mem _ (List.mem_cons_self))))),Bd.len (U:=UU) (h _ (List.mem_cons_of_mem _ (List.mem_cons_of_mem _ (List.mem_cons_of_mem _ (List.mem_cons_of_mem _ (List.mem_cons_self)))))),Bd.len (U:=UU) (h _ (List.mem_cons_of_mem _ (List.mem_cons_of_mem _ (List.mem_cons_of_mem _ (List.mem_cons_of_mem _ (List.mem_cons_of_mem _ (List.mem_cons_self)))))))⟩
theorem bd_lInst{x:DInst}(h:BdDV (dA .lInst x)):x.S.Items.length≤9223372036854775807∧x.Fired.length≤9223372036854775807∧x.Tasks.length≤9223372036854775807∧x.Timers.length≤9223372036854775807∧x.Undos.length≤9223372036854775807:=⟨Bd.len (U:=UU) (h _ (List.mem_cons_self)),Bd.len (U:=UU) (h _ (List.mem_cons_of_mem _ (List.mem_cons_of_mem _ (List.mem_cons_self)))),Bd.len (U:=UU) (h _ (List.mem_cons_of_mem _ (List.mem_cons_of_mem _ (List.mem_cons_of_mem _ (List.mem_cons_self))))),Bd.len (U:=UU) (h _ (List.mem_cons_of_mem _ (List.mem_cons_of_mem _ (List.mem_cons_of_mem _ (List.mem_cons_of_mem _ (List.mem_cons_self)))))),Bd.len (U:=UU) (h _ (List.mem_cons_of_mem _ (List.mem_cons_of_mem _ (List.mem_cons_of_mem _ (List.mem_cons_of_mem _ (List.mem_cons_of_mem _ (List.mem_cons_self)))))))⟩
theorem bd_eWork{x:DWork}(h:BdDV (dA .eWork x)):x.Name.size≤9223372036854775807∧x.Def.size≤9223372036854775807∧x.X.S.Items.length≤9223372036854775807∧x.X.Fired.length≤9223372036854775807∧x.X.Tasks.length≤9223372036854775807∧x.X.Timers.length≤9223372036854775807∧x.X.Undos.length≤9223372036854775807:=⟨Bd.str (U:=UU) (h _ (List.mem_cons_self)),Bd.str (U:=UU) (h _ (List.mem_cons_of_mem _ (List.mem_cons_self))),Bd.len (U:=UU) (h _ (List.mem_cons_of_mem _ (List.mem_cons_of_mem _ (List.mem_cons_self)))),Bd.len (U:=UU) (h _ (List.mem_cons_of_mem _ (List.mem_cons_of_mem _ (List.mem_cons_of_mem _ (List.mem_cons_of_mem _ (List.mem_cons_self)))))),Bd.len (U:=UU) (h _ (List.mem_cons_of_mem _ (List.mem_cons_of_mem _ (List.mem_cons_of_mem _ (List.mem_cons_of_mem _ (List.mem_cons_of_mem _ (List.mem_cons_self))))))),Bd.len (U:=UU) (h _ (List.mem_cons_of_mem _ (List.mem_cons_of_mem _ (List.mem_cons_of_mem _ (List.mem_cons_of_mem _ (List.mem_cons_of_mem _ (List.mem_cons_of_mem _ (List.mem_cons_self)))))))),Bd.len (U:=UU) (h _ (List.mem_cons_of_mem _ (List.mem_cons_of_mem _ (List.mem_cons_of_mem _ (List.mem_cons_of_mem _ (List.mem_cons_of_mem _ (List.mem_cons_of_mem _ (List.mem_cons_of_mem _ (List.mem_cons_self)))))))))⟩
theorem bd_lWork{x:DWork}(h:BdDV (dA .lWork x)):x.Name.size≤9223372036854775807∧x.Def.size≤9223372036854775807∧x.X.S.Items.length≤9223372036854775807∧x.X.Fired.length≤9223372036854775807∧x.X.Tasks.length≤9223372036854775807∧x.X.Timers.length≤9223372036854775807∧x.X.Undos.length≤9223372036854775807:=⟨Bd.str (U:=UU) (h _ (List.mem_cons_self)),Bd.str (U:=UU) (h _ (List.mem_cons_of_mem _ (List.mem_cons_self))),Bd.len (U:=UU) (h _ (List.mem_cons_of_mem _ (List.mem_cons_of_mem _ (List.mem_cons_self)))),Bd.len (U:=UU) (h _ (List.mem_cons_of_mem _ (List.mem_cons_of_mem _ (List.mem_cons_of_mem _ (List.mem_cons_of_mem _ (List.mem_cons_self)))))),Bd.len (U:=UU) (h _ (List.mem_cons_of_mem _ (List.mem_cons_of_mem _ (List.mem_cons_of_mem _ (List.mem_cons_of_mem _ (List.mem_cons_of_mem _ (List.mem_cons_self))))))),Bd.len (U:=UU) (h _ (List.mem_cons_of_mem _ (List.mem_cons_of_mem _ (List.mem_cons_of_mem _ (List.mem_cons_of_mem _ (List.mem_cons_of_mem _ (List.mem_cons_of_mem _ (List.mem_cons_self)))))))),Bd.len (U:=UU) (h _ (List.mem_cons_of_mem _ (List.mem_cons_of_mem _ (List.mem_cons_of_mem _ (List.mem_cons_of_mem _ (List.mem_cons_of_mem _ (List.mem_cons_of_mem _ (List.mem_cons_of_mem _ (List.mem_cons_self)))))))))⟩
theorem bd_eBook{x:DBook}(h:BdDV (dA .eBook x)):x.Defs.length≤9223372036854775807∧x.Works.length≤9223372036854775807:=⟨Bd.len (U:=UU) (h _ (List.mem_cons_self)),Bd.len (U:=UU) (h _ (List.mem_cons_of_mem _ (List.mem_cons_self)))⟩
theorem bd_lBook{x:DBook}(h:BdDV (dA .lBook x)):x.Defs.length≤9223372036854775807∧x.Works.length≤9223372036854775807:=⟨Bd.len (U:=UU) (h _ (List.mem_cons_self)),Bd.len (U:=UU) (h _ (List.mem_cons_of_mem _ (List.mem_cons_self)))⟩
def rM1{α:Type}(a:List α):Int×Unit→Nat:=fun y=>a.length-y.1.toNat
def rM2{α β:Type}(a:List α):β×Int×Unit→Nat:=fun y=>a.length-y.2.1.toNat
def szI{α:Type}(f:α→Nat)(a:List α)(S:Nat)(left:Int):Int×Int×Unit→Prop:=fun y=>0≤y.1∧0≤y.2.1∧y.2.1≤a.length∧szr y.1 ((a.drop y.2.1.toNat).map f).sum=szr left S
def szV{α:Type}(f:α→Nat)(z:α)(a:List α)(S:Nat)(left:Int):Prop:=
 bif decide (IntKind.wrap .i64 (left-(a.length:Int))<0) then Li (-1) (szr left S)
 else szI f a S left (IntKind.wrap .i64 (left-(a.length:Int)),0,())∧∀y:Int×Int×PUnit,szI f a S left y→
  bif decide (y.2.1<(a.length:Int)) then 0≤y.2.1∧y.2.1.toNat<a.length∧0≤y.1∧
   bif decide (szr y.1 (f (a.getD y.2.1.toNat z))<0) then Li (-1) (szr left S)
   else szI f a S left (szr y.1 (f (a.getD y.2.1.toNat z)),IntKind.wrap .i64 (y.2.1+1),())∧rM2 a (szr y.1 (f (a.getD y.2.1.toNat z)),IntKind.wrap .i64 (y.2.1+1),())<rM2 a y
  else Li y.1 (szr left S)
theorem szV_ok{α:Type}{f:α→Nat}{z:α}{a:List α}{S:Nat}{left:Int}(hS:S=a.length+(a.map f).sum)(hp0:0≤left)(hl: -9223372036854775808≤left∧left≤9223372036854775807)(hla:a.length≤9223372036854775807):szV f z a S left:=by
 subst hS
 unfold szV
 rw[wrap_i64 (by omega) (by omega)]
 refine if_cond (fun h=>Lf_i ?_) (fun h=>⟨?_,?_⟩)
 ·simp[szr] at*;omega
 ·simp at h
  have h':0≤left-a.length:=by omega
  exact⟨h',by show(0:Int)≤0;omega,by show(0:Int)≤a.length;omega,szr_sub h'⟩
 rintro⟨lf,i,⟨⟩⟩ ⟨h0,h1,h2,hR⟩
 refine if_cond (fun hc=> ?_) (fun hc=> ?_)
 ·have hc:i<a.length:=by simpa using hc
  simp only at h0 h1 h2 hR⊢
  rw[drop_step a z h1 hc,List.map_cons,List.sum_cons] at hR
  rw[wrap_i64 (by omega) (by omega)]
  generalize List.getD a i.toNat z=x at*
  refine⟨by omega,by omega,by omega,if_cond (fun h=>Lf_i ?_) (fun h=>⟨⟨?_,by show(0:Int)≤i+1;omega,by show i+1≤a.length;omega,?_⟩,?_⟩)⟩
  ·rw[←hR];exact(szr_bad (of_decide_eq_true h)).symm
  ·simp at h;exact h
  ·show szr (szr lf (f x)) _=_
   rw[←hR];simp at h;exact szr_szr h
  ·simp only[rM2];omega
 ·have hc:a.length≤i:=by simpa using hc
  simp only at h0 h1 h2 hR⊢
  rw[drop_end a hc] at hR
  apply Lf_i;rw[←hR];simp[szr,h0]
def toI{α:Type}(z:α)(a:List α):List α×Int×Unit→Prop:=fun y=>0≤y.2.1∧y.2.1≤a.length∧y.1=a.take y.2.1.toNat++List.replicate (a.length-y.2.1.toNat) z
def toV{α:Type}(f:α→Nat)(z:α)(a:List α)(L:List α→Prop):Prop:=
 0≤(a.length:Int)∧(a.length:Int)=(a.length:Int)∧(a.length:Int)≤4294967296∧toI z a (List.replicate (a.length:Int).toNat z,0,())∧
  ∀y:List α×Int×PUnit,toI z a y→bif decide (y.2.1<(a.length:Int)) then 0≤y.2.1∧y.2.1.toNat<a.length∧f (a.getD y.2.1.toNat z)≤4294967296∧0≤y.2.1∧y.2.1.toNat<y.1.length∧y.2.1.toNat<y.1.length∧
   toI z a (y.1.set y.2.1.toNat (a.getD y.2.1.toNat z),IntKind.wrap .i64 (y.2.1+1),())∧rM2 a (y.1.set y.2.1.toNat (a.getD y.2.1.toNat z),IntKind.wrap .i64 (y.2.1+1),())<rM2 a y
  else L y.1
theorem toV_ok{α:Type}{f:α→Nat}{z:α}{a:List α}{L:List α→Prop}(hp0:a.length+(a.map f).sum≤4294967296)(hL:L a):toV f z a L:=by
 refine⟨by omega,rfl,by omega,⟨by show(0:Int)≤0;omega,by show(0:Int)≤a.length;omega,by simp⟩,?_⟩
 rintro⟨out,i,⟨⟩⟩ ⟨h1,h2,h3⟩
 simp only at h1 h2 h3
 subst h3
 refine if_cond (fun hc=> ?_) (fun hc=> ?_)
 ·have hc:i<a.length:=by simpa using hc
  simp only
  rw[wrap_i64 (by omega) (by omega),set_fill a z h1 hc]
  exact⟨h1,by omega,Nat.le_trans (sum_getD_le f a z h1 hc) (by omega),h1,by simp;omega,by simp;omega,⟨by show(0:Int)≤i+1;omega,by show i+1≤a.length;omega,rfl⟩,by simp only[rM2];omega⟩
 ·have hc:a.length≤i:=by simpa using hc
  have e:i.toNat=a.length:=by omega
  simp only
  rw[e];simpa using hL
def eqI{α:Type}(a b:List α):Int×Unit→Prop:=fun y=>0≤y.1∧y.1≤a.length∧a.length=b.length∧(a.drop y.1.toNat=b.drop y.1.toNat↔a=b)
noncomputable def eqV{α:Type}[DecidableEq α](z:α)(a b:List α):Prop:=
 bif (a.length:Int) !=(b.length:Int) then Lb false (decide (a=b))
 else eqI a b (0,())∧∀y:Int×PUnit,eqI a b y→bif decide (y.1<(a.length:Int)) then 0≤y.1∧y.1.toNat<a.length∧0≤y.1∧y.1.toNat<b.length∧
   bif !decide (a.getD y.1.toNat z=b.getD y.1.toNat z) then Lb false (decide (a=b))
   else eqI a b (IntKind.wrap .i64 (y.1+1),())∧rM1 a (IntKind.wrap .i64 (y.1+1),())<rM1 a y
  else Lb true (decide (a=b))
theorem eqV_ok{α:Type}[DecidableEq α]{z:α}{a b:List α}(hl:a.length≤9223372036854775807):eqV z a b:=by
 unfold eqV
 refine if_cond (fun h=>Lf_f ?_) (fun h=>⟨?_,?_⟩)
 ·rintro rfl;simp at h
 ·have h:(a.length:Int)=b.length:=by simpa using h
  exact⟨by show(0:Int)≤0;omega,by show(0:Int)≤a.length;omega,by omega,by simp⟩
 rintro⟨i,⟨⟩⟩ ⟨h1,h2,h3,hR⟩
 simp only at h1 h2 h3 hR
 refine if_cond (fun hc=> ?_) (fun hc=> ?_)
 ·have hc:i<a.length:=by simpa using hc
  rw[drop_step a z h1 hc,drop_step b z h1 (by omega)] at hR
  simp only
  rw[wrap_i64 (by omega) (by omega)]
  refine⟨by omega,by omega,by omega,by omega,if_cond (fun h=>Lf_f ?_) (fun h=>⟨⟨by show(0:Int)≤i+1;omega,by show i+1≤a.length;omega,h3,?_⟩,?_⟩)⟩
  ·rw[←hR];simp at h;simp[h]
  ·show a.drop (i+1).toNat=b.drop (i+1).toNat↔a=b
   rw[←hR];simp at h;simp[h]
  ·simp only[rM1];omega
 ·have hc:a.length≤i:=by simpa using hc
  rw[drop_end a hc,drop_end b (by omega)] at hR
  exact Lf_t (hR.1 rfl)
def smallB(b:Int):Bool:=decide (97≤b∧b≤122)
def wordB(b:Int):Bool:=smallB b||decide (48≤b∧b≤57)||decide (b=95)
def wordS(s:ByteArray):Bool:=(bs s).all (byteP wordB)
def nameOk(s:ByteArray):Bool:=decide (1≤s.size∧s.size≤12)&&smallB (List.getD (bs s) 0 0).toNat&&wordS s
def valOk(v:DVal):Bool:=bif decide (v.K=1) then decide (-1000000000≤v.N∧v.N≤1000000000)&&decide (v.S=noBytes) else bif decide (v.K=2) then decide (v.N=0)&&decide (v.S.size≤20)&&wordS v.S else false
def factOk(f:DFact):Bool:=nameOk f.Kind&&decide (f.Fields.length≤5)&&f.Fields.all valOk
def Zk56:Con UU where
 α:=Int×Int×Int
 md:=[.ro,.ro,.ro]
 of:=oC oI (oC oI (o1 oI))
 ds:=fun x=>[dI x.1,dI x.2.1,dI x.2.2]
 pre:=fun _=>[]
 res:=fun(n,least,most)=>⟨[.one (.lit (.bool (decide (least≤n∧n≤most))))],true,[]⟩
 law:=lC lI (lC lI (l1 lI))
def Za56:Zk56.α→Nat→Option (Ann UU):=fun(n,least,most)=>annL []
def Zu56:List (FuncId×Con UU):=[]
theorem Zv56(n:Int)(least:Int)(most:Int):goal EE Zu56 Go.Proofs.Tryz.f56 Zk56 Za56 (n,least,most)=(bif decide (n≥least) then Lb (decide (n≤most)) (decide (least≤n∧n≤most)) else Lb false (decide (least≤n∧n≤most))):=by kernel_rfl
theorem Zo56:Holds EE (56,Zk56):=by
 refine holds_of EE_ok Go.Proofs.Tryz.func56 Zk56 (by kernel_rfl) Zu56 all_nil Za56 (fun x hp hb=> ?_)
 obtain⟨n,least,most⟩:=x
 have hl_n:=bdI (n:=n) (hb _ m0)
 have hl_least:=bdI (n:=least) (hb _ m1)
 have hl_most:=bdI (n:=most) (hb _ m2)
 clear hp hb
 rw[Zv56 n least most]
 refine if_cond (fun h=>Lf_b ?_) (fun h=>Lf_b ?_)<;>grind
def Zh56:HH:=⟨_,Zo56⟩
def Zk40:Con UU where
 α:=Int×Int×Int
 md:=[.ro,.ro,.ro]
 of:=oC oI (oC oI (o1 oI))
 ds:=fun x=>[dI x.1,dI x.2.1,dI x.2.2]
 pre:=fun _=>[]
 res:=fun(x,least,most)=>⟨[.one (.lit (.bool (decide (least≤x∧x≤most))))],true,[]⟩
 law:=lC lI (lC lI (l1 lI))
def Za40:Zk40.α→Nat→Option (Ann UU):=fun(x,least,most)=>annL []
def Zu40:List (FuncId×Con UU):=[]
theorem Zv40(x:Int)(least:Int)(most:Int):goal EE Zu40 Go.Proofs.Tryz.f40 Zk40 Za40 (x,least,most)=(bif decide (x≥least) then Lb (decide (x≤most)) (decide (least≤x∧x≤most)) else Lb false (decide (least≤x∧x≤most))):=by kernel_rfl
theorem Zo40:Holds EE (40,Zk40):=by
 refine holds_of EE_ok Go.Proofs.Tryz.func40 Zk40 (by kernel_rfl) Zu40 all_nil Za40 (fun x hp hb=> ?_)
 obtain⟨x,least,most⟩:=x
 have hl_x:=bdI (n:=x) (hb _ m0)
 have hl_least:=bdI (n:=least) (hb _ m1)
 have hl_most:=bdI (n:=most) (hb _ m2)
 clear hp hb
 rw[Zv40 x least most]
 refine if_cond (fun h=>Lf_b ?_) (fun h=>Lf_b ?_)<;>grind
def Zh40:HH:=⟨_,Zo40⟩
def Zk138:Con UU where
 α:=Int
 md:=[.ro]
 of:=o1 oY
 ds:=fun x=>[dY x]
 pre:=fun _=>[]
 res:=fun b=>⟨[.one (.lit (.bool (smallB b)))],true,[]⟩
 law:=l1 lY
def Za138:Zk138.α→Nat→Option (Ann UU):=fun b=>annL []
def Zu138:List (FuncId×Con UU):=[]
theorem Zv138(b:Int):goal EE Zu138 Go.Proofs.Tryz.f138 Zk138 Za138 b=(bif decide (b≥(97:Int)) then Lb (decide (b≤(122:Int))) (smallB b) else Lb false (smallB b)):=by kernel_rfl
theorem Zo138:Holds EE (138,Zk138):=by
 refine holds_of EE_ok Go.Proofs.Tryz.func138 Zk138 (by kernel_rfl) Zu138 all_nil Za138 (fun(b:Int) hp hb=> ?_)
 skip
 clear hp hb
 rw[Zv138 b]
 refine if_cond (fun h=>Lf_b ?_) (fun h=>Lf_b ?_)<;>grind [smallB]
def Zh138:HH:=⟨_,Zo138⟩
def Zk226:Con UU where
 α:=Int
 md:=[.ro]
 of:=o1 oY
 ds:=fun x=>[dY x]
 pre:=fun _=>[]
 res:=fun b=>⟨[.one (.lit (.bool (decide (48≤b∧b≤57))))],true,[]⟩
 law:=l1 lY
def Za226:Zk226.α→Nat→Option (Ann UU):=fun b=>annL []
def Zu226:List (FuncId×Con UU):=[]
theorem Zv226(b:Int):goal EE Zu226 Go.Proofs.Tryz.f226 Zk226 Za226 b=(bif decide (b≥(48:Int)) then Lb (decide (b≤(57:Int))) (decide ((48:Int)≤b∧b≤(57:Int))) else Lb false (decide ((48:Int)≤b∧b≤(57:Int)))):=by kernel_rfl
theorem Zo226:Holds EE (226,Zk226):=by
 refine holds_of EE_ok Go.Proofs.Tryz.func226 Zk226 (by kernel_rfl) Zu226 all_nil Za226 (fun(b:Int) hp hb=> ?_)
 skip
 clear hp hb
 rw[Zv226 b]
 refine if_cond (fun h=>Lf_b ?_) (fun h=>Lf_b ?_)<;>grind
def Zh226:HH:=⟨_,Zo226⟩
def Zk194:Con UU where
 α:=Int
 md:=[.ro]
 of:=o1 oY
 ds:=fun x=>[dY x]
 pre:=fun _=>[]
 res:=fun b=>⟨[.one (.lit (.bool (wordB b)))],true,[]⟩
 law:=l1 lY
def Za194:Zk194.α→Nat→Option (Ann UU):=fun b=>annL []
def Zu194:=us [Zh138,Zh226]
theorem Zv194(b:Int):goal EE Zu194 Go.Proofs.Tryz.f194 Zk194 Za194 b=(bif smallB b then Lb true (wordB b) else bif decide ((48:Int)≤b∧b≤(57:Int)) then Lb true (wordB b) else Lb (b==(95:Int)) (wordB b)):=by kernel_rfl
theorem Zo194:Holds EE (194,Zk194):=by
 refine holds_of EE_ok Go.Proofs.Tryz.func194 Zk194 (by kernel_rfl) Zu194 (us_ok _) Za194 (fun(b:Int) hp hb=> ?_)
 skip
 clear hp hb
 rw[Zv194 b]
 refine if_cond (fun h=>Lf_b ?_) (fun h=> ?_)
 ·grind [wordB]
 refine if_cond (fun h=>Lf_b ?_) (fun h=>Lf_b ?_)<;>grind [wordB]
def Zh194:HH:=⟨_,Zo194⟩
def Zk134:Con UU where
 α:=Int
 md:=[.ro]
 of:=o1 oY
 ds:=fun x=>[dY x]
 pre:=fun c=>[0≤c∧c≤255]
 res:=fun c=>⟨[.one (.lit (.bool (wordB c)))],true,[]⟩
 law:=l1 lY
def Za134:Zk134.α→Nat→Option (Ann UU):=fun c=>annL []
def Zu134:=us [Zh40]
theorem Zv134(c:Int):goal EE Zu134 Go.Proofs.Tryz.f134 Zk134 Za134 c=(bif decide ((97:Int)≤IntKind.wrap IntKind.i64 c∧IntKind.wrap IntKind.i64 c≤(122:Int)) then Lb true (wordB c) else bif decide ((48:Int)≤IntKind.wrap IntKind.i64 c∧IntKind.wrap IntKind.i64 c≤(57:Int)) then Lb true (wordB c) else Lb (c==(95:Int)) (wordB c)):=by kernel_rfl
theorem Zo134:Holds EE (134,Zk134):=by
 refine holds_of EE_ok Go.Proofs.Tryz.func134 Zk134 (by kernel_rfl) Zu134 (us_ok _) Za134 (fun(c:Int) hp hb=> ?_)
 have hp0:0≤c∧c≤255:=hp _ m0
 clear hp hb
 rw[Zv134 c]
 rw[wrap_i64 (by omega) (by omega)]
 refine if_cond (fun h=>Lf_b ?_) (fun h=> ?_)
 ·grind [wordB,smallB]
 refine if_cond (fun h=>Lf_b ?_) (fun h=>Lf_b ?_)<;>grind [wordB,smallB]
def Zh134:HH:=⟨_,Zo134⟩
def Zk139:Con UU where
 α:=ByteArray×Int
 md:=[.ro,.ro]
 of:=oC oS (o1 oI)
 ds:=fun x=>[dS x.1,dI x.2]
 pre:=fun _=>[]
 res:=fun(s,most)=>⟨[.one (.lit (.bool (decide (s.size≤most)&&wordS s)))],true,[]⟩
 law:=lC lS (l1 lI)
def Zi139_4(s:ByteArray)(most:Int):Int×Unit→Prop:=fun(i,_)=>0≤i∧i≤s.size∧s.size≤most∧((bs s).drop i.toNat).all (byteP wordB)=wordS s
def Zm139_4(s:ByteArray)(most:Int):Int×Unit→Nat:=fun(i,_)=>s.size-i.toNat
def Za139:Zk139.α→Nat→Option (Ann UU):=fun(s,most)=>annL [(4,annOf [.slot 5 (5,1024) (.lit (.int .i64))] (fun _=>Zi139_4 s most) (Zm139_4 s most))]
def Zu139:=us [Zh194]
theorem Zv139(s:ByteArray)(most:Int):goal EE Zu139 Go.Proofs.Tryz.f139 Zk139 Za139 (s,most)=(bif decide ((↑(ByteArray.size s):Int)>most) then Lb false (decide ((↑(ByteArray.size s):Int)≤most)&&wordS s) else Zi139_4 s most ((0:Int),())∧∀(y:Int×PUnit),Zi139_4 s most y→bif decide (y.1<(↑(ByteArray.size s):Int)) then(0:Int)≤y.1∧y.1.toNat<ByteArray.size s∧bif !wordB (↑(UInt8.toNat (List.getD s.data.toList y.1.toNat (0:UInt8))):Int) then Lb false (decide ((↑(ByteArray.size s):Int)≤most)&&wordS s) else Zi139_4 s most (IntKind.wrap IntKind.i64 (y.1+(1:Int)),())∧Zm139_4 s most (IntKind.wrap IntKind.i64 (y.1+(1:Int)),())<Zm139_4 s most y else Lb true (decide ((↑(ByteArray.size s):Int)≤most)&&wordS s)):=by kernel_rfl
theorem Zo139:Holds EE (139,Zk139):=by
 refine holds_of EE_ok Go.Proofs.Tryz.func139 Zk139 (by kernel_rfl) Zu139 (us_ok _) Za139 (fun x hp hb=> ?_)
 obtain⟨s,most⟩:=x
 have hl_s:=bdS (s:=s) (hb _ m0)
 have hl_most:=bdI (n:=most) (hb _ m1)
 clear hp hb
 rw[Zv139 s most]
 refine if_cond (fun h=>Lf_ff ?_) (fun h=> ?_)
 ·have h:=of_decide_eq_true h;rw[decide_eq_false (by omega)];rfl
 have h0:=of_decide_eq_false h
 refine⟨⟨by omega,by omega,by omega,rfl⟩,?_⟩
 rintro⟨i,⟨⟩⟩ ⟨h1,h2,h3,hR⟩
 have hl:=bs_len s
 simp only[bs_eq]
 refine if_cond (fun hc=> ?_) (fun hc=> ?_)
 ·have hc:=of_decide_eq_true hc
  rw[all_step _ _ 0 h1 (by omega)] at hR
  rw[wrap_i64 (by omega) (by omega)]
  refine⟨by omega,by omega,if_cond (fun h=>Lf_ff ?_) (fun h=>⟨⟨by omega,by omega,by omega,?_⟩,?_⟩)⟩
  ·rw[←hR];simp only[byteP];simp at h;simp[h]
  ·rw[←hR];simp only[byteP];simp at h;simp[h]
  ·simp only[Zm139_4];omega
 ·have hc:=of_decide_eq_false hc
  rw[drop_end _ (by omega)] at hR
  exact Lf_tt (by rw[←hR,decide_eq_true h3];rfl)
def Zh139:HH:=⟨_,Zo139⟩
def Zk76:Con UU where
 α:=ByteArray
 md:=[.ro]
 of:=o1 oS
 ds:=fun x=>[dS x]
 pre:=fun _=>[]
 res:=fun s=>⟨[.one (.lit (.bool (nameOk s)))],true,[]⟩
 law:=l1 lS
def Za76:Zk76.α→Nat→Option (Ann UU):=fun s=>annL []
def Zu76:=us [Zh138,Zh139]
theorem Zv76(s:ByteArray):goal EE Zu76 Go.Proofs.Tryz.f76 Zk76 Za76 s=(bif decide ((↑(ByteArray.size s):Int)>(0:Int)) then(0:Int)≤(0:Int)∧Int.toNat (0:Int)<ByteArray.size s∧bif smallB (↑(UInt8.toNat (List.getD s.data.toList (Int.toNat (0:Int)) (0:UInt8))):Int) then Lb (decide ((↑(ByteArray.size s):Int)≤(12:Int))&&wordS s) (nameOk s) else Lb false (nameOk s) else Lb false (nameOk s)):=by kernel_rfl
theorem Zo76:Holds EE (76,Zk76):=by
 refine holds_of EE_ok Go.Proofs.Tryz.func76 Zk76 (by kernel_rfl) Zu76 (us_ok _) Za76 (fun(s:ByteArray) hp hb=> ?_)
 have hl_s:=bdS (s:=s) (hb _ m0)
 clear hp hb
 rw[Zv76 s]
 have hl:=bs_len s
 simp only[bs_eq]
 refine if_cond (fun h=> ?_) (fun h=>Lf_ff ?_)
 ·have h:=of_decide_eq_true h
  refine⟨by omega,by omega,if_cond (fun h'=>Lf_b ?_) (fun h'=>Lf_ff ?_)⟩
  ·have h':smallB ((List.getD (bs s) 0 0).toNat:Int)=true:=h'
   simp only[nameOk,h']
   have e:decide (1≤s.size∧s.size≤12)=decide ((s.size:Int)≤12):=by rw[decide_eq_decide];omega
   rw[e];simp
  ·have h':smallB ((List.getD (bs s) 0 0).toNat:Int)=false:=h'
   simp only[nameOk,h'];grind
 ·have h:=of_decide_eq_false h
  simp only[nameOk];rw[decide_eq_false (by omega)];rfl
def Zh76:HH:=⟨_,Zo76⟩
def Zk71:Con UU where
 α:=ByteArray
 md:=[.ro]
 of:=o1 oS
 ds:=fun x=>[dS x]
 pre:=fun _=>[]
 res:=fun s=>⟨[.one (.lit (.bool (nameOk s)))],true,[]⟩
 law:=l1 lS
def Zi71_2(s:ByteArray):Int×Unit→Prop:=fun(i,_)=>0≤i∧i≤s.size∧((bs s).drop i.toNat).all (byteP wordB)=wordS s∧(0<i→smallB (List.getD (bs s) 0 0).toNat=true)
def Zm71_2(s:ByteArray):Int×Unit→Nat:=fun(i,_)=>s.size-i.toNat
def Za71:Zk71.α→Nat→Option (Ann UU):=fun s=>annL [(2,annOf [.slot 3 (3,1024) (.lit (.int .i64))] (fun _=>Zi71_2 s) (Zm71_2 s))]
def Zu71:=us [Zh134,Zh40]
theorem Zv71(s:ByteArray):goal EE Zu71 Go.Proofs.Tryz.f71 Zk71 Za71 s=(Zi71_2 s ((0:Int),())∧
 ∀(y:Int×PUnit),
  let x0:Int:=(↑(UInt8.toNat (List.getD s.data.toList (Int.toNat y.1) (0:UInt8))):Int);
  Zi71_2 s y→bif decide (y.1<(↑(ByteArray.size s):Int)) then(0:Int)≤y.1∧Int.toNat y.1<ByteArray.size s∧((0:Int)≤x0∧x0≤(255:Int))∧bif !wordB x0 then Lf [DV.one (Cell.lit (Value.bool false))] [DV.one (Cell.lit (Value.bool (nameOk s)))] else bif y.1==(0:Int) then(0:Int)≤y.1∧Int.toNat y.1<ByteArray.size s∧bif !decide ((97:Int)≤IntKind.wrap IntKind.i64 x0∧IntKind.wrap IntKind.i64 x0≤(122:Int)) then Lf [DV.one (Cell.lit (Value.bool false))] [DV.one (Cell.lit (Value.bool (nameOk s)))] else Zi71_2 s (IntKind.wrap IntKind.i64 (y.1+(1:Int)),PUnit.unit)∧Zm71_2 s (IntKind.wrap IntKind.i64 (y.1+(1:Int)),PUnit.unit)<Zm71_2 s y else Zi71_2 s (IntKind.wrap IntKind.i64 (y.1+(1:Int)),PUnit.unit)∧Zm71_2 s (IntKind.wrap IntKind.i64 (y.1+(1:Int)),PUnit.unit)<Zm71_2 s y else Lf [DV.one (Cell.lit (Value.bool (decide ((1:Int)≤(↑(ByteArray.size s):Int)∧(↑(ByteArray.size s):Int)≤(12:Int)))))] [DV.one (Cell.lit (Value.bool (nameOk s)))]):=by kernel_rfl
theorem Zo71:Holds EE (71,Zk71):=by
 refine holds_of EE_ok Go.Proofs.Tryz.func71 Zk71 (by kernel_rfl) Zu71 (us_ok _) Za71 (fun(s:ByteArray) hp hb=> ?_)
 have hl_s:=bdS (s:=s) (hb _ m0)
 clear hp hb
 rw[Zv71 s]
 dsimp only
 refine⟨⟨by omega,by omega,rfl,by omega⟩,?_⟩
 rintro⟨i,⟨⟩⟩ ⟨h1,h2,hR,hS⟩
 have hl:=bs_len s
 simp only[bs_eq,u8_i64]
 refine if_cond (fun hc=> ?_) (fun hc=> ?_)
 ·have hc:=of_decide_eq_true hc
  have hb:=(List.getD (bs s) i.toNat 0).toNat_lt
  rw[all_step _ _ 0 h1 (by omega)] at hR
  rw[wrap_i64 (by omega) (by omega)]
  have hN:wordS s=false→nameOk s=false:=fun h=>by simp[nameOk,h]
  refine⟨by omega,by omega,⟨by omega,by omega⟩,if_cond (fun h=>Lf_ff (hN ?_)) (fun h=>if_cond (fun h'=>⟨by omega,by omega,if_cond (fun h''=>Lf_ff ?_) (fun h''=>⟨⟨by omega,by omega,?_,fun _=> ?_⟩,?_⟩)⟩) (fun h'=>⟨⟨by omega,by omega,?_,fun _=>hS ?_⟩,?_⟩))⟩
  ·rw[←hR];simp only[byteP];simp at h;simp[h]
  ·have h':i=0:=by simpa using h'
   subst h'
   have h'':smallB ((List.getD (bs s) 0 0).toNat:Int)=false:=by simp only[smallB];grind
   simp only[nameOk,h''];grind
  ·rw[←hR];simp only[byteP];simp at h;simp[h]
  ·have h':i=0:=by simpa using h'
   subst h'
   simpa[smallB] using h''
  ·simp only[Zm71_2];omega
  ·rw[←hR];simp only[byteP];simp at h;simp[h]
  ·have h':¬i=0:=by simpa using h'
   omega
  ·simp only[Zm71_2];omega
 ·have hc:=of_decide_eq_false hc
  rw[drop_end _ (by omega)] at hR
  refine Lf_b ?_
  simp only[nameOk,←hR]
  by_cases hz:0<i
  ·rw[hS hz];simp only[List.all_nil];grind
  ·rw[decide_eq_false (by omega),decide_eq_false (by omega)];rfl
def Zh71:HH:=⟨_,Zo71⟩
def Zk211:Con UU where
 α:=ByteArray
 md:=[.ro]
 of:=o1 oS
 ds:=fun x=>[dS x]
 pre:=fun _=>[]
 res:=fun s=>⟨[.one (.lit (.bool (decide (s.size≤20)&&wordS s)))],true,[]⟩
 law:=l1 lS
def Zi211_2(s:ByteArray):Int×Unit→Prop:=fun(i,_)=>0≤i∧i≤s.size∧((bs s).drop i.toNat).all (byteP wordB)=wordS s
def Zm211_2(s:ByteArray):Int×Unit→Nat:=fun(i,_)=>s.size-i.toNat
def Za211:Zk211.α→Nat→Option (Ann UU):=fun s=>annL [(2,annOf [.slot 3 (3,1024) (.lit (.int .i64))] (fun _=>Zi211_2 s) (Zm211_2 s))]
def Zu211:=us [Zh134]
theorem Zv211(s:ByteArray):goal EE Zu211 Go.Proofs.Tryz.f211 Zk211 Za211 s=(Zi211_2 s ((0:Int),())∧
 ∀(y:Int×PUnit),
  let x0:Int:=(↑(UInt8.toNat (List.getD s.data.toList (Int.toNat y.1) (0:UInt8))):Int);
  Zi211_2 s y→bif decide (y.1<(↑(ByteArray.size s):Int)) then(0:Int)≤y.1∧Int.toNat y.1<ByteArray.size s∧((0:Int)≤x0∧x0≤(255:Int))∧bif !wordB x0 then Lf [DV.one (Cell.lit (Value.bool false))] [DV.one (Cell.lit (Value.bool (decide (ByteArray.size s≤(20:Nat))&&wordS s)))] else Zi211_2 s (IntKind.wrap IntKind.i64 (y.1+(1:Int)),PUnit.unit)∧Zm211_2 s (IntKind.wrap IntKind.i64 (y.1+(1:Int)),PUnit.unit)<Zm211_2 s y else Lf [DV.one (Cell.lit (Value.bool (decide ((↑(ByteArray.size s):Int)≤(20:Int)))))] [DV.one (Cell.lit (Value.bool (decide (ByteArray.size s≤(20:Nat))&&wordS s)))]):=by kernel_rfl
theorem Zo211:Holds EE (211,Zk211):=by
 refine holds_of EE_ok Go.Proofs.Tryz.func211 Zk211 (by kernel_rfl) Zu211 (us_ok _) Za211 (fun(s:ByteArray) hp hb=> ?_)
 have hl_s:=bdS (s:=s) (hb _ m0)
 clear hp hb
 rw[Zv211 s]
 dsimp only
 refine⟨⟨by omega,by omega,rfl⟩,?_⟩
 rintro⟨i,⟨⟩⟩ ⟨h1,h2,hR⟩
 have hl:=bs_len s
 simp only[bs_eq]
 refine if_cond (fun hc=> ?_) (fun hc=> ?_)
 ·have hc:=of_decide_eq_true hc
  have hb:=(List.getD (bs s) i.toNat 0).toNat_lt
  rw[all_step _ _ 0 h1 (by omega)] at hR
  rw[wrap_i64 (by omega) (by omega)]
  refine⟨by omega,by omega,⟨by omega,by omega⟩,if_cond (fun h=>Lf_ff ?_) (fun h=>⟨⟨by omega,by omega,?_⟩,?_⟩)⟩
  ·rw[←hR];simp only[byteP];simp at h;simp[h]
  ·rw[←hR];simp only[byteP];simp at h;simp[h]
  ·simp only[Zm211_2];omega
 ·have hc:=of_decide_eq_false hc
  rw[drop_end _ (by omega)] at hR
  refine Lf_b ?_
  rw[←hR];simp;omega
def Zh211:HH:=⟨_,Zo211⟩
def Zk182:Con UU where
 α:=DVal
 md:=[.ro]
 of:=o1 (oA .eVal)
 ds:=fun x=>[dA .eVal x]
 pre:=fun _=>[]
 res:=fun v=>⟨[.one (.lit (.bool (valOk v)))],true,[]⟩
 law:=l1 (lA .eVal)
def Za182:Zk182.α→Nat→Option (Ann UU):=fun v=>annL []
def Zu182:=us [Zh56,Zh139]
theorem Zv182(v:DVal):goal EE Zu182 Go.Proofs.Tryz.f182 Zk182 Za182 v=(bif v.K==(1:Int) then bif decide ((-1000000000:Int)≤v.N∧v.N≤(1000000000:Int)) then Lb (ByteArray.toList v.S==ByteArray.toList {data:= #[]:ByteArray}) (valOk v) else Lb false (valOk v) else bif v.K==(2:Int) then bif v.N==(0:Int) then Lb (decide ((↑(ByteArray.size v.S):Int)≤(20:Int))&&wordS v.S) (valOk v) else Lb false (valOk v) else Lb false (valOk v)):=by kernel_rfl
theorem Zo182:Holds EE (182,Zk182):=by
 refine holds_of EE_ok Go.Proofs.Tryz.func182 Zk182 (by kernel_rfl) Zu182 (us_ok _) Za182 (fun(v:DVal) hp hb=> ?_)
 have hl_v_S:=bd_eVal (x:=v) (hb _ m0)
 clear hp hb
 rw[Zv182 v]
 have e:(ByteArray.toList (DVal.S v)==ByteArray.toList {data:= #[]})=decide (v.S=noBytes):=toList_beq _ _
 simp only[e,valOk]
 repeat' (refine if_cond (fun h=> ?_) (fun h=> ?_))
 all_goals (refine Lf_b ?_;grind)
def Zh182:HH:=⟨_,Zo182⟩
def Zk165:Con UU where
 α:=DVal
 md:=[.ro]
 of:=o1 (oA .eVal)
 ds:=fun x=>[dA .eVal x]
 pre:=fun _=>[]
 res:=fun v=>⟨[.one (.lit (.bool (valOk v)))],true,[]⟩
 law:=l1 (lA .eVal)
def Za165:Zk165.α→Nat→Option (Ann UU):=fun v=>annL []
def Zu165:=us [Zh40,Zh211]
theorem Zv165(v:DVal):goal EE Zu165 Go.Proofs.Tryz.f165 Zk165 Za165 v=(bif v.K==(1:Int) then bif decide ((-1000000000:Int)≤v.N∧v.N≤(1000000000:Int)) then Lb (ByteArray.toList v.S==ByteArray.toList {data:= #[]:ByteArray}) (valOk v) else Lb false (valOk v) else bif v.K==(2:Int) then bif decide (ByteArray.size v.S≤(20:Nat))&&wordS v.S then Lb (v.N==(0:Int)) (valOk v) else Lb false (valOk v) else Lb false (valOk v)):=by kernel_rfl
theorem Zo165:Holds EE (165,Zk165):=by
 refine holds_of EE_ok Go.Proofs.Tryz.func165 Zk165 (by kernel_rfl) Zu165 (us_ok _) Za165 (fun(v:DVal) hp hb=> ?_)
 have hl_v_S:=bd_eVal (x:=v) (hb _ m0)
 clear hp hb
 rw[Zv165 v]
 have e:(ByteArray.toList (DVal.S v)==ByteArray.toList {data:= #[]})=decide (v.S=noBytes):=toList_beq _ _
 simp only[e,valOk]
 repeat' (refine if_cond (fun h=> ?_) (fun h=> ?_))
 all_goals (refine Lf_b ?_;grind)
def Zh165:HH:=⟨_,Zo165⟩
def Zk163:Con UU where
 α:=(List DVal)
 md:=[.ro]
 of:=o1 (oL .eVal)
 ds:=fun x=>[dL .eVal x]
 pre:=fun _=>[]
 res:=fun l=>⟨[.one (.lit (.bool (decide (l.length≤5)&&l.all valOk)))],true,[]⟩
 law:=l1 (lL .eVal)
def Zi163_2(l:(List DVal)):Int×Unit→Prop:=fun(i,_)=>0≤i∧i≤l.length∧(l.drop i.toNat).all valOk=l.all valOk
def Zm163_2(l:(List DVal)):Int×Unit→Nat:=fun(i,_)=>l.length-i.toNat
def Za163:Zk163.α→Nat→Option (Ann UU):=fun l=>annL [(2,annOf [.slot 3 (3,1024) (.lit (.int .i64))] (fun _=>Zi163_2 l) (Zm163_2 l))]
def Zu163:=us [Zh165]
theorem Zv163(l:(List DVal)):goal EE Zu163 Go.Proofs.Tryz.f163 Zk163 Za163 l=(let x0:Int:=(l.length:Int);
Zi163_2 l ((0:Int),PUnit.unit)∧∀(y:Int×PUnit),Zi163_2 l y→bif decide (y.1<x0) then(0:Int)≤y.1∧Int.toNat y.1<List.length l∧bif !valOk (List.getD l (Int.toNat y.1) zVal) then Lf [DV.one (Cell.lit (Value.bool false))] [DV.one (Cell.lit (Value.bool (decide (List.length l≤(5:Nat))&&List.all l valOk)))] else Zi163_2 l (IntKind.wrap IntKind.i64 (y.1+(1:Int)),PUnit.unit)∧Zm163_2 l (IntKind.wrap IntKind.i64 (y.1+(1:Int)),PUnit.unit)<Zm163_2 l y else Lf [DV.one (Cell.lit (Value.bool (decide (x0≤(5:Int)))))] [DV.one (Cell.lit (Value.bool (decide (List.length l≤(5:Nat))&&List.all l valOk)))]):=by kernel_rfl
theorem Zo163:Holds EE (163,Zk163):=by
 refine holds_of EE_ok Go.Proofs.Tryz.func163 Zk163 (by kernel_rfl) Zu163 (us_ok _) Za163 (fun(l:(List DVal)) hp hb=> ?_)
 have hl_l:l.length≤9223372036854775807:=bdL (hb _ m0)
 clear hp hb
 rw[Zv163 l]
 dsimp only
 refine⟨⟨by omega,by omega,rfl⟩,?_⟩
 rintro⟨i,⟨⟩⟩ ⟨h1,h2,hR⟩
 simp only
 refine if_cond (fun hc=> ?_) (fun hc=> ?_)
 ·have hc:=of_decide_eq_true hc
  rw[all_step _ _ zVal h1 (by omega)] at hR
  rw[wrap_i64 (by omega) (by omega)]
  refine⟨by omega,by omega,if_cond (fun h=>Lf_ff ?_) (fun h=>⟨⟨by omega,by omega,?_⟩,?_⟩)⟩
  ·rw[←hR];simp at h;simp[h]
  ·rw[←hR];simp at h;simp[h]
  ·simp only[Zm163_2];omega
 ·have hc:=of_decide_eq_false hc
  rw[drop_end _ (by omega)] at hR
  refine Lf_b ?_
  rw[←hR];simp;omega
def Zh163:HH:=⟨_,Zo163⟩
def Zk104:Con UU where
 α:=DFact
 md:=[.ro]
 of:=o1 (oA .eFact)
 ds:=fun x=>[dA .eFact x]
 pre:=fun _=>[]
 res:=fun f=>⟨[.one (.lit (.bool (factOk f)))],true,[]⟩
 law:=l1 (lA .eFact)
def Za104:Zk104.α→Nat→Option (Ann UU):=fun f=>annL []
def Zu104:=us [Zh71,Zh163]
theorem Zv104(f:DFact):goal EE Zu104 Go.Proofs.Tryz.f104 Zk104 Za104 f=(bif nameOk f.Kind then Lb (decide (f.Fields.length≤(5:Nat))&&List.all f.Fields valOk) (factOk f) else Lb false (factOk f)):=by kernel_rfl
theorem Zo104:Holds EE (104,Zk104):=by
 refine holds_of EE_ok Go.Proofs.Tryz.func104 Zk104 (by kernel_rfl) Zu104 (us_ok _) Za104 (fun(f:DFact) hp hb=> ?_)
 have hz0:=bd_eFact (x:=f) (hb _ m0)
 have hl_f_Kind:=hz0.1
 have hl_f_Fields:=hz0.2
 clear hp hb
 rw[Zv104 f]
 simp only[factOk]
 refine if_cond (fun h=>Lf_b ?_) (fun h=>Lf_b ?_)<;>grind
def Zh104:HH:=⟨_,Zo104⟩
def Zk117:Con UU where
 α:=DFact
 md:=[.ro]
 of:=o1 (oA .eFact)
 ds:=fun x=>[dA .eFact x]
 pre:=fun _=>[]
 res:=fun f=>⟨[.one (.lit (.bool (factOk f)))],true,[]⟩
 law:=l1 (lA .eFact)
def Zi117_4(f:DFact):Int×Unit→Prop:=fun(i,_)=>0≤i∧i≤f.Fields.length∧f.Fields.length≤5∧nameOk f.Kind=true∧(f.Fields.drop i.toNat).all valOk=f.Fields.all valOk
def Zm117_4(f:DFact):Int×Unit→Nat:=fun(i,_)=>f.Fields.length-i.toNat
def Za117:Zk117.α→Nat→Option (Ann UU):=fun f=>annL [(4,annOf [.slot 18 (18,1024) (.lit (.int .i64))] (fun _=>Zi117_4 f) (Zm117_4 f))]
def Zu117:=us [Zh76,Zh182]
theorem Zv117(f:DFact):goal EE Zu117 Go.Proofs.Tryz.f117 Zk117 Za117 f=(let x0:Int:=(f.Fields.length:Int);
bif !nameOk f.Kind then Lf [DV.one (Cell.lit (Value.bool false))] [DV.one (Cell.lit (Value.bool (factOk f)))] else bif decide (x0>(5:Int)) then Lf [DV.one (Cell.lit (Value.bool false))] [DV.one (Cell.lit (Value.bool (factOk f)))] else Zi117_4 f ((0:Int),PUnit.unit)∧∀(y:Int×PUnit),Zi117_4 f y→bif decide (y.1<x0) then(0:Int)≤y.1∧Int.toNat y.1<List.length f.Fields∧bif !valOk (List.getD f.Fields (Int.toNat y.1) zVal) then Lf [DV.one (Cell.lit (Value.bool false))] [DV.one (Cell.lit (Value.bool (factOk f)))] else Zi117_4 f (IntKind.wrap IntKind.i64 (y.1+(1:Int)),PUnit.unit)∧Zm117_4 f (IntKind.wrap IntKind.i64 (y.1+(1:Int)),PUnit.unit)<Zm117_4 f y else Lf [DV.one (Cell.lit (Value.bool true))] [DV.one (Cell.lit (Value.bool (factOk f)))]):=by kernel_rfl
theorem Zo117:Holds EE (117,Zk117):=by
 refine holds_of EE_ok Go.Proofs.Tryz.func117 Zk117 (by kernel_rfl) Zu117 (us_ok _) Za117 (fun(f:DFact) hp hb=> ?_)
 have hz0:=bd_eFact (x:=f) (hb _ m0)
 have hl_f_Kind:=hz0.1
 have hl_f_Fields:=hz0.2
 clear hp hb
 rw[Zv117 f]
 dsimp only
 refine if_cond (fun h=>Lf_b ?_) (fun h=>if_cond (fun h'=>Lf_b ?_) (fun h'=>⟨⟨by omega,by omega,by simp at h';omega,by simpa using h,rfl⟩,?_⟩))
 ·simp only[factOk];grind
 ·simp only[factOk];grind
 rintro⟨i,⟨⟩⟩ ⟨h1,h2,h3,h4,hR⟩
 simp only
 refine if_cond (fun hc=> ?_) (fun hc=> ?_)
 ·have hc:=of_decide_eq_true hc
  rw[all_step _ _ zVal h1 (by omega)] at hR
  rw[wrap_i64 (by omega) (by omega)]
  refine⟨by omega,by omega,if_cond (fun h=>Lf_ff ?_) (fun h=>⟨⟨by omega,by omega,by omega,h4,?_⟩,?_⟩)⟩
  ·simp only[factOk];rw[←hR];simp at h;simp[h]
  ·rw[←hR];simp at h;simp[h]
  ·simp only[Zm117_4];omega
 ·have hc:=of_decide_eq_false hc
  rw[drop_end _ (by omega)] at hR
  refine Lf_b ?_
  simp only[factOk,←hR,h4];simp;omega
def Zh117:HH:=⟨_,Zo117⟩
def Zk80:Con UU where
 α:=(List Int)×Int
 md:=[.ro,.ro]
 of:=oC (oL .int) (o1 oI)
 ds:=fun x=>[dL .int x.1,dI x.2]
 pre:=fun(a,left)=>[0≤left]
 res:=fun(a,left)=>⟨[.one (.lit (.int .i64 (szr left (sizeIntS a))))],true,[]⟩
 law:=lC (lL .int) (l1 lI)
def Za80:Zk80.α→Nat→Option (Ann UU):=fun(a,left)=>annL []
def Zu80:List (FuncId×Con UU):=[]
theorem Zv80(a:(List Int))(left:Int):goal EE Zu80 Go.Proofs.Tryz.f80 Zk80 Za80 (a,left)=(let x0:Int:=IntKind.wrap IntKind.i64 (left-(a.length:Int));
bif decide (x0<(0:Int)) then Lf [DV.one (Cell.lit (Value.int IntKind.i64 (-1:Int)))] [DV.one (Cell.lit (Value.int IntKind.i64 (szr left (sizeIntS a))))] else Lf [DV.one (Cell.lit (Value.int IntKind.i64 x0))] [DV.one (Cell.lit (Value.int IntKind.i64 (szr left (sizeIntS a))))]):=by kernel_rfl
theorem Zo80:Holds EE (80,Zk80):=by
 refine holds_of EE_ok Go.Proofs.Tryz.func80 Zk80 (by kernel_rfl) Zu80 all_nil Za80 (fun x hp hb=> ?_)
 obtain⟨a,left⟩:=x
 have hl_a:a.length≤9223372036854775807:=bdL (hb _ m0)
 have hl_left:=bdI (n:=left) (hb _ m1)
 have hp0:0≤left:=hp _ m0
 clear hp hb
 rw[Zv80 a left]
 dsimp only
 rw[wrap_i64 (by omega) (by omega)]
 refine if_cond (fun h=>Lf_i (szr_bad' ?_)) (fun h=> ?_)
 ·have h:=of_decide_eq_true h;simp only[sizeIntS];omega
 have h:=of_decide_eq_false h
 exact Lf_i (by rw[←szr_ok' (by simp only[sizeIntS];omega)];simp only[sizeIntS])
def Zh80:HH:=⟨_,Zo80⟩
def Zk85:Con UU where
 α:=(List Int)
 md:=[.ro]
 of:=o1 (oL .int)
 ds:=fun x=>[dL .int x]
 pre:=fun a=>[sizeIntS a≤4294967296]
 res:=fun a=>⟨[.one (.sl .int a)],true,[]⟩
 law:=l1 (lL .int)
def Zi85_3(a:(List Int)):List Int×Int×Unit→Prop:=fun(out,i,_)=>0≤i∧i≤a.length∧out=a.take i.toNat++List.replicate (a.length-i.toNat) (0:Int)
def Zm85_3(a:(List Int)):List Int×Int×Unit→Nat:=fun(out,i,_)=>a.length-i.toNat
def Za85:Zk85.α→Nat→Option (Ann UU):=fun a=>annL [(3,annOf [.slot 3 (3,1024) (.own .int true),.slot 4 (4,1024) (.lit (.int .i64))] (fun _=>Zi85_3 a) (Zm85_3 a))]
def Zu85:List (FuncId×Con UU):=[]
theorem Zv85(a:(List Int)):goal EE Zu85 Go.Proofs.Tryz.f85 Zk85 Za85 a=(let x0:Int:=(a.length:Int);
(0:Int)≤x0∧
 x0=x0∧
  x0≤(4294967296:Int)∧
   Zi85_3 a (List.replicate (Int.toNat x0) (0:Int),(0:Int),PUnit.unit)∧
    ∀(y:List Int×Int×PUnit),
     let x1:Nat:=Int.toNat y.2.1;
     Zi85_3 a y→bif decide (y.2.1<x0) then(0:Int)≤y.2.1∧x1<List.length a∧(0:Int)≤y.2.1∧x1<List.length y.1∧x1<List.length y.1∧Zi85_3 a (List.set y.1 x1 (List.getD a x1 (0:Int)),IntKind.wrap IntKind.i64 (y.2.1+(1:Int)),PUnit.unit)∧Zm85_3 a (List.set y.1 x1 (List.getD a x1 (0:Int)),IntKind.wrap IntKind.i64 (y.2.1+(1:Int)),PUnit.unit)<Zm85_3 a y else Lf [DV.one (Cell.sl Cd.int y.1)] [DV.one (Cell.sl Cd.int a)]):=by kernel_rfl
theorem Zo85:Holds EE (85,Zk85):=by
 refine holds_of EE_ok Go.Proofs.Tryz.func85 Zk85 (by kernel_rfl) Zu85 all_nil Za85 (fun(a:(List Int)) hp hb=> ?_)
 have hl_a:a.length≤9223372036854775807:=bdL (hb _ m0)
 have hp0:sizeIntS a≤4294967296:=hp _ m0
 clear hp hb
 rw[Zv85 a]
 dsimp only
 have hlen:a.length≤4294967296:=by simp only[sizeIntS] at hp0;omega
 refine⟨by omega,rfl,by omega,?_,?_⟩
 ·simp[Zi85_3]
 rintro⟨out,i,⟨⟩⟩ ⟨h1,h2,rfl⟩
 simp only at*
 refine if_cond (fun hc=> ?_) (fun hc=> ?_)
 ·have hc:i<a.length:=by simpa using hc
  rw[wrap_i64 (by omega) (by omega),set_fill a (0:Int) h1 hc]
  exact⟨h1,by omega,h1,by simp;omega,by simp;omega,⟨by omega,by omega,rfl⟩,by simp only[Zm85_3];omega⟩
 ·have hc:a.length≤i:=by simpa using hc
  have e:i.toNat=a.length:=by omega
  rw[e];simp;exact Lf_rfl _
def Zh85:HH:=⟨_,Zo85⟩
def Zk89:Con UU where
 α:=(List Int)×(List Int)
 md:=[.ro,.ro]
 of:=oC (oL .int) (o1 (oL .int))
 ds:=fun x=>[dL .int x.1,dL .int x.2]
 pre:=fun _=>[]
 res:=fun(a,b)=>⟨[.one (.lit (.bool (decide (a=b))))],true,[]⟩
 law:=lC (lL .int) (l1 (lL .int))
def Zi89_4(a:(List Int))(b:(List Int)):Int×Unit→Prop:=fun(i,_)=>0≤i∧i≤a.length∧a.length=b.length∧(a.drop i.toNat=b.drop i.toNat↔a=b)
def Zm89_4(a:(List Int))(b:(List Int)):Int×Unit→Nat:=fun(i,_)=>a.length-i.toNat
def Za89:Zk89.α→Nat→Option (Ann UU):=fun(a,b)=>annL [(4,annOf [.slot 5 (5,1024) (.lit (.int .i64))] (fun _=>Zi89_4 a b) (Zm89_4 a b))]
def Zu89:List (FuncId×Con UU):=[]
theorem Zv89(a:(List Int))(b:(List Int)):goal EE Zu89 Go.Proofs.Tryz.f89 Zk89 Za89 (a,b)=(bif (a.length:Int) !=(b.length:Int) then Lb false (decide (a=b)) else Zi89_4 a b ((0:Int),())∧∀(y:Int×PUnit),Zi89_4 a b y→bif decide (y.1<(a.length:Int)) then(0:Int)≤y.1∧y.1.toNat<a.length∧(0:Int)≤y.1∧y.1.toNat<b.length∧bif List.getD a y.1.toNat (0:Int) !=List.getD b y.1.toNat (0:Int) then Lb false (decide (a=b)) else Zi89_4 a b (IntKind.wrap IntKind.i64 (y.1+(1:Int)),())∧Zm89_4 a b (IntKind.wrap IntKind.i64 (y.1+(1:Int)),())<Zm89_4 a b y else Lb true (decide (a=b))):=by kernel_rfl
theorem Zo89:Holds EE (89,Zk89):=by
 refine holds_of EE_ok Go.Proofs.Tryz.func89 Zk89 (by kernel_rfl) Zu89 all_nil Za89 (fun x hp hb=> ?_)
 obtain⟨a,b⟩:=x
 have hl_a:a.length≤9223372036854775807:=bdL (hb _ m0)
 have hl_b:b.length≤9223372036854775807:=bdL (hb _ m1)
 clear hp hb
 rw[Zv89 a b]
 refine if_cond (fun h=>Lf_f ?_) (fun h=>⟨?_,?_⟩)
 ·rintro rfl;simp at h
 ·simp[Zi89_4] at*;omega
 rintro⟨i,⟨⟩⟩ ⟨h1,h2,h3,hR⟩
 simp only at*
 refine if_cond (fun hc=> ?_) (fun hc=> ?_)
 ·have hc:i<a.length:=by simpa using hc
  rw[drop_step a (0:Int) h1 hc,drop_step b (0:Int) h1 (by omega)] at hR
  rw[wrap_i64 (by omega) (by omega)]
  refine⟨by omega,by omega,by omega,by omega,if_cond (fun h=>Lf_f ?_) (fun h=>⟨⟨by omega,by omega,h3,?_⟩,?_⟩)⟩
  ·rw[←hR];simp at h;simp[h]
  ·rw[←hR];simp at h;simp[h]
  ·simp only[Zm89_4];omega
 ·have hc:a.length≤i:=by simpa using hc
  rw[drop_end a hc,drop_end b (by omega)] at hR
  exact Lf_t (hR.1 rfl)
def Zh89:HH:=⟨_,Zo89⟩
def Zk158:Con UU where
 α:=DVal×Int
 md:=[.ro,.ro]
 of:=oC (oA .lVal) (o1 oI)
 ds:=fun x=>[dA .lVal x.1,dI x.2]
 pre:=fun(a,left)=>[0≤left]
 res:=fun(a,left)=>⟨[.one (.lit (.int .i64 (szr left (sizeVal a))))],true,[]⟩
 law:=lC (lA .lVal) (l1 lI)
def Za158:Zk158.α→Nat→Option (Ann UU):=fun(a,left)=>annL []
def Zu158:List (FuncId×Con UU):=[]
theorem Zv158(a:DVal)(left:Int):goal EE Zu158 Go.Proofs.Tryz.f158 Zk158 Za158 (a,left)=(let x0:Int:=IntKind.wrap IntKind.i64 (left-(↑(ByteArray.size a.S):Int));
bif decide (x0<(0:Int)) then Lf [DV.one (Cell.lit (Value.int IntKind.i64 (-1:Int)))] [DV.one (Cell.lit (Value.int IntKind.i64 (szr left (sizeVal a))))] else Lf [DV.one (Cell.lit (Value.int IntKind.i64 x0))] [DV.one (Cell.lit (Value.int IntKind.i64 (szr left (sizeVal a))))]):=by kernel_rfl
theorem Zo158:Holds EE (158,Zk158):=by
 refine holds_of EE_ok Go.Proofs.Tryz.func158 Zk158 (by kernel_rfl) Zu158 all_nil Za158 (fun x hp hb=> ?_)
 obtain⟨a,left⟩:=x
 have hl_a_S:=bd_lVal (x:=a) (hb _ m0)
 have hl_left:=bdI (n:=left) (hb _ m1)
 have hp0:0≤left:=hp _ m0
 clear hp hb
 rw[Zv158 a left]
 dsimp only
 rw[wrap_i64 (by omega) (by omega)]
 refine if_cond (fun h=>Lf_i (szr_bad' ?_)) (fun h=> ?_)
 ·have h:=of_decide_eq_true h;simp only[sizeVal];omega
 have h0:=of_decide_eq_false h
 exact Lf_i (by rw[←szr_ok' (by simp only[sizeVal];omega)];simp only[sizeVal];try omega)
def Zh158:HH:=⟨_,Zo158⟩
def Zk173:Con UU where
 α:=DVal
 md:=[.ro]
 of:=o1 (oA .lVal)
 ds:=fun x=>[dA .lVal x]
 pre:=fun a=>[sizeVal a≤4294967296]
 res:=fun a=>⟨[.agg [.lit (.int .i64 a.K),.lit (.int .i64 a.N),.lit (.string a.S)]],true,[]⟩
 law:=l1 (lA .lVal)
def Za173:Zk173.α→Nat→Option (Ann UU):=fun a=>annL []
def Zu173:List (FuncId×Con UU):=[]
theorem Zv173(a:DVal):goal EE Zu173 Go.Proofs.Tryz.f173 Zk173 Za173 a=(Lf [DV.agg [Cell.lit (Value.int IntKind.i64 a.K),Cell.lit (Value.int IntKind.i64 a.N),Cell.lit (Value.string a.S)]] [DV.agg [Cell.lit (Value.int IntKind.i64 a.K),Cell.lit (Value.int IntKind.i64 a.N),Cell.lit (Value.string a.S)]]):=by kernel_rfl
theorem Zo173:Holds EE (173,Zk173):=by
 refine holds_of EE_ok Go.Proofs.Tryz.func173 Zk173 (by kernel_rfl) Zu173 all_nil Za173 (fun(a:DVal) hp hb=> ?_)
 have hl_a_S:=bd_lVal (x:=a) (hb _ m0)
 have hp0:sizeVal a≤4294967296:=hp _ m0
 clear hp hb
 rw[Zv173 a]
 simp only[sizeVal] at hp0
 repeat' (first|exact Lf_rfl _|(refine And.intro (by omega) ?_))
def Zh173:HH:=⟨_,Zo173⟩
def Zk193:Con UU where
 α:=DVal×DVal
 md:=[.ro,.ro]
 of:=oC (oA .eVal) (o1 (oA .eVal))
 ds:=fun x=>[dA .eVal x.1,dA .eVal x.2]
 pre:=fun _=>[]
 res:=fun(a,b)=>⟨[.one (.lit (.bool (decide (a=b))))],true,[]⟩
 law:=lC (lA .eVal) (l1 (lA .eVal))
def Za193:Zk193.α→Nat→Option (Ann UU):=fun(a,b)=>annL []
def Zu193:List (FuncId×Con UU):=[]
theorem Zv193(a:DVal)(b:DVal):goal EE Zu193 Go.Proofs.Tryz.f193 Zk193 Za193 (a,b)=(bif a.K !=b.K then Lb false (decide (a=b)) else bif a.N !=b.N then Lb false (decide (a=b)) else bif !ByteArray.toList a.S==ByteArray.toList b.S then Lb false (decide (a=b)) else Lb true (decide (a=b))):=by kernel_rfl
theorem Zo193:Holds EE (193,Zk193):=by
 refine holds_of EE_ok Go.Proofs.Tryz.func193 Zk193 (by kernel_rfl) Zu193 all_nil Za193 (fun x hp hb=> ?_)
 obtain⟨a,b⟩:=x
 have hl_a_S:=bd_eVal (x:=a) (hb _ m0)
 have hl_b_S:=bd_eVal (x:=b) (hb _ m1)
 clear hp hb
 rw[Zv193 a b]
 obtain⟨aK,aN,aS⟩:=a
 obtain⟨bK,bN,bS⟩:=b
 repeat' (apply if_cond<;>intro _)
 all_goals (first|apply Lf_t|apply Lf_f)<;>simp_all
def Zh193:HH:=⟨_,Zo193⟩
def Zk204:Con UU where
 α:=(List DVal)×Int
 md:=[.ro,.ro]
 of:=oC (oL .lVal) (o1 oI)
 ds:=fun x=>[dL .lVal x.1,dI x.2]
 pre:=fun(a,left)=>[0≤left]
 res:=fun(a,left)=>⟨[.one (.lit (.int .i64 (szr left (sizeValS a))))],true,[]⟩
 law:=lC (lL .lVal) (l1 lI)
def Zi204_5(a:(List DVal))(left:Int):Int×Int×Unit→Prop:=szI sizeVal a (sizeValS a) left
def Zm204_5(a:(List DVal))(left:Int):Int×Int×Unit→Nat:=rM2 a
def Za204:Zk204.α→Nat→Option (Ann UU):=fun(a,left)=>annL [(5,annOf [.slot 1 (1,1024) (.lit (.int .i64)),.slot 5 (5,1024) (.lit (.int .i64))] (fun _=>Zi204_5 a left) (Zm204_5 a left))]
def Zu204:=us [Zh158]
theorem Zv204(a:(List DVal))(left:Int):goal EE Zu204 Go.Proofs.Tryz.f204 Zk204 Za204 (a,left)=(szV sizeVal zVal a (sizeValS a) left):=by kernel_rfl
theorem Zo204:Holds EE (204,Zk204):=by
 refine holds_of EE_ok Go.Proofs.Tryz.func204 Zk204 (by kernel_rfl) Zu204 (us_ok _) Za204 (fun x hp hb=> ?_)
 obtain⟨a,left⟩:=x
 have hl_a:a.length≤9223372036854775807:=bdL (hb _ m0)
 have hl_left:=bdI (n:=left) (hb _ m1)
 have hp0:0≤left:=hp _ m0
 clear hp hb
 rw[Zv204 a left]
 exact szV_ok rfl hp0 hl_left hl_a
def Zh204:HH:=⟨_,Zo204⟩
def Zk215:Con UU where
 α:=(List DVal)
 md:=[.ro]
 of:=o1 (oL .lVal)
 ds:=fun x=>[dL .lVal x]
 pre:=fun a=>[sizeValS a≤4294967296]
 res:=fun a=>⟨[.one (.sl .eVal a)],true,[]⟩
 law:=l1 (lL .lVal)
def Zi215_3(a:(List DVal)):List DVal×Int×Unit→Prop:=toI zVal a
def Zm215_3(a:(List DVal)):List DVal×Int×Unit→Nat:=rM2 a
def Za215:Zk215.α→Nat→Option (Ann UU):=fun a=>annL [(3,annOf [.slot 3 (3,1024) (.own .eVal true),.slot 4 (4,1024) (.lit (.int .i64))] (fun _=>Zi215_3 a) (Zm215_3 a))]
def Zu215:=us [Zh173]
theorem Zv215(a:(List DVal)):goal EE Zu215 Go.Proofs.Tryz.f215 Zk215 Za215 a=(toV sizeVal zVal a fun y=>Lf [.one (.sl .eVal y)] [.one (.sl .eVal a)]):=by kernel_rfl
theorem Zo215:Holds EE (215,Zk215):=by
 refine holds_of EE_ok Go.Proofs.Tryz.func215 Zk215 (by kernel_rfl) Zu215 (us_ok _) Za215 (fun(a:(List DVal)) hp hb=> ?_)
 have hl_a:a.length≤9223372036854775807:=bdL (hb _ m0)
 have hp0:sizeValS a≤4294967296:=hp _ m0
 clear hp hb
 rw[Zv215 a]
 exact toV_ok hp0 (Lf_rfl _)
def Zh215:HH:=⟨_,Zo215⟩
def Zk198:Con UU where
 α:=(List DVal)×(List DVal)
 md:=[.ro,.ro]
 of:=oC (oL .eVal) (o1 (oL .eVal))
 ds:=fun x=>[dL .eVal x.1,dL .eVal x.2]
 pre:=fun _=>[]
 res:=fun(a,b)=>⟨[.one (.lit (.bool (decide (a=b))))],true,[]⟩
 law:=lC (lL .eVal) (l1 (lL .eVal))
def Zi198_4(a:(List DVal))(b:(List DVal)):Int×Unit→Prop:=eqI a b
def Zm198_4(a:(List DVal))(b:(List DVal)):Int×Unit→Nat:=rM1 a
def Za198:Zk198.α→Nat→Option (Ann UU):=fun(a,b)=>annL [(4,annOf [.slot 5 (5,1024) (.lit (.int .i64))] (fun _=>Zi198_4 a b) (Zm198_4 a b))]
def Zu198:=us [Zh193]
theorem Zv198(a:(List DVal))(b:(List DVal)):goal EE Zu198 Go.Proofs.Tryz.f198 Zk198 Za198 (a,b)=(eqV zVal a b):=by kernel_rfl
theorem Zo198:Holds EE (198,Zk198):=by
 refine holds_of EE_ok Go.Proofs.Tryz.func198 Zk198 (by kernel_rfl) Zu198 (us_ok _) Za198 (fun x hp hb=> ?_)
 obtain⟨a,b⟩:=x
 have hl_a:a.length≤9223372036854775807:=bdL (hb _ m0)
 have hl_b:b.length≤9223372036854775807:=bdL (hb _ m1)
 clear hp hb
 rw[Zv198 a b]
 exact eqV_ok hl_a
def Zh198:HH:=⟨_,Zo198⟩
def Zk157:Con UU where
 α:=DFact×Int
 md:=[.ro,.ro]
 of:=oC (oA .lFact) (o1 oI)
 ds:=fun x=>[dA .lFact x.1,dI x.2]
 pre:=fun(a,left)=>[0≤left]
 res:=fun(a,left)=>⟨[.one (.lit (.int .i64 (szr left (sizeFact a))))],true,[]⟩
 law:=lC (lA .lFact) (l1 lI)
def Za157:Zk157.α→Nat→Option (Ann UU):=fun(a,left)=>annL []
def Zu157:=us [Zh204]
theorem Zv157(a:DFact)(left:Int):goal EE Zu157 Go.Proofs.Tryz.f157 Zk157 Za157 (a,left)=(let x0:Int:=IntKind.wrap IntKind.i64 (left-(↑(ByteArray.size a.Kind):Int));
bif decide (x0<(0:Int)) then Lf [DV.one (Cell.lit (Value.int IntKind.i64 (-1:Int)))] [DV.one (Cell.lit (Value.int IntKind.i64 (szr left (sizeFact a))))] else(0:Int)≤x0∧bif decide (szr x0 (sizeValS a.Fields)<(0:Int)) then Lf [DV.one (Cell.lit (Value.int IntKind.i64 (-1:Int)))] [DV.one (Cell.lit (Value.int IntKind.i64 (szr left (sizeFact a))))] else Lf [DV.one (Cell.lit (Value.int IntKind.i64 (szr x0 (sizeValS a.Fields))))] [DV.one (Cell.lit (Value.int IntKind.i64 (szr left (sizeFact a))))]):=by kernel_rfl
theorem Zo157:Holds EE (157,Zk157):=by
 refine holds_of EE_ok Go.Proofs.Tryz.func157 Zk157 (by kernel_rfl) Zu157 (us_ok _) Za157 (fun x hp hb=> ?_)
 obtain⟨a,left⟩:=x
 have hz0:=bd_lFact (x:=a) (hb _ m0)
 have hl_a_Kind:=hz0.1
 have hl_a_Fields:=hz0.2
 have hl_left:=bdI (n:=left) (hb _ m1)
 have hp0:0≤left:=hp _ m0
 clear hp hb
 rw[Zv157 a left]
 dsimp only
 rw[wrap_i64 (by omega) (by omega)]
 refine if_cond (fun h=>Lf_i (szr_bad' ?_)) (fun h=> ?_)
 ·have h:=of_decide_eq_true h;simp only[sizeFact];omega
 have h0:=of_decide_eq_false h
 refine⟨by omega,if_cond (fun h=>Lf_i (szr_bad' ?_)) (fun h=> ?_)⟩
 ·have h:=szr_neg h;simp only[sizeFact];omega
 obtain⟨e1,h1⟩:=szr_pos h
 rw[e1]
 exact Lf_i (by rw[←szr_ok' (by simp only[sizeFact];omega)];simp only[sizeFact];try omega)
def Zh157:HH:=⟨_,Zo157⟩
def Zk172:Con UU where
 α:=DFact
 md:=[.ro]
 of:=o1 (oA .lFact)
 ds:=fun x=>[dA .lFact x]
 pre:=fun a=>[sizeFact a≤4294967296]
 res:=fun a=>⟨[.agg [.lit (.string a.Kind),.sl .eVal a.Fields]],true,[]⟩
 law:=l1 (lA .lFact)
def Za172:Zk172.α→Nat→Option (Ann UU):=fun a=>annL []
def Zu172:=us [Zh215]
theorem Zv172(a:DFact):goal EE Zu172 Go.Proofs.Tryz.f172 Zk172 Za172 a=(sizeValS a.Fields≤(4294967296:Nat)∧Lf [DV.agg [Cell.lit (Value.string a.Kind),Cell.sl Cd.eVal a.Fields]] [DV.agg [Cell.lit (Value.string a.Kind),Cell.sl Cd.eVal a.Fields]]):=by kernel_rfl
theorem Zo172:Holds EE (172,Zk172):=by
 refine holds_of EE_ok Go.Proofs.Tryz.func172 Zk172 (by kernel_rfl) Zu172 (us_ok _) Za172 (fun(a:DFact) hp hb=> ?_)
 have hz0:=bd_lFact (x:=a) (hb _ m0)
 have hl_a_Kind:=hz0.1
 have hl_a_Fields:=hz0.2
 have hp0:sizeFact a≤4294967296:=hp _ m0
 clear hp hb
 rw[Zv172 a]
 simp only[sizeFact] at hp0
 repeat' (first|exact Lf_rfl _|(refine And.intro (by omega) ?_))
def Zh172:HH:=⟨_,Zo172⟩
def Zk148:Con UU where
 α:=DFact×DFact
 md:=[.ro,.ro]
 of:=oC (oA .eFact) (o1 (oA .eFact))
 ds:=fun x=>[dA .eFact x.1,dA .eFact x.2]
 pre:=fun _=>[]
 res:=fun(a,b)=>⟨[.one (.lit (.bool (decide (a=b))))],true,[]⟩
 law:=lC (lA .eFact) (l1 (lA .eFact))
def Za148:Zk148.α→Nat→Option (Ann UU):=fun(a,b)=>annL []
def Zu148:=us [Zh198]
theorem Zv148(a:DFact)(b:DFact):goal EE Zu148 Go.Proofs.Tryz.f148 Zk148 Za148 (a,b)=(bif !ByteArray.toList a.Kind==ByteArray.toList b.Kind then Lb false (decide (a=b)) else bif !decide (a.Fields=b.Fields) then Lb false (decide (a=b)) else Lb true (decide (a=b))):=by kernel_rfl
theorem Zo148:Holds EE (148,Zk148):=by
 refine holds_of EE_ok Go.Proofs.Tryz.func148 Zk148 (by kernel_rfl) Zu148 (us_ok _) Za148 (fun x hp hb=> ?_)
 obtain⟨a,b⟩:=x
 have hz0:=bd_eFact (x:=a) (hb _ m0)
 have hl_a_Kind:=hz0.1
 have hl_a_Fields:=hz0.2
 have hz1:=bd_eFact (x:=b) (hb _ m1)
 have hl_b_Kind:=hz1.1
 have hl_b_Fields:=hz1.2
 clear hp hb
 rw[Zv148 a b]
 obtain⟨aKind,aFields⟩:=a
 obtain⟨bKind,bFields⟩:=b
 repeat' (apply if_cond<;>intro _)
 all_goals (first|apply Lf_t|apply Lf_f)<;>simp_all
def Zh148:HH:=⟨_,Zo148⟩
def Zk100:Con UU where
 α:=DTimer×Int
 md:=[.ro,.ro]
 of:=oC (oA .lTimer) (o1 oI)
 ds:=fun x=>[dA .lTimer x.1,dI x.2]
 pre:=fun(a,left)=>[0≤left]
 res:=fun(a,left)=>⟨[.one (.lit (.int .i64 (szr left (sizeTimer a))))],true,[]⟩
 law:=lC (lA .lTimer) (l1 lI)
def Za100:Zk100.α→Nat→Option (Ann UU):=fun(a,left)=>annL []
def Zu100:=us [Zh157]
theorem Zv100(a:DTimer)(left:Int):goal EE Zu100 Go.Proofs.Tryz.f100 Zk100 Za100 (a,left)=((0:Int)≤left∧bif decide (szr left (sizeFact a.F)<(0:Int)) then Li (-1:Int) (szr left (sizeTimer a)) else Li (szr left (sizeFact a.F)) (szr left (sizeTimer a))):=by kernel_rfl
theorem Zo100:Holds EE (100,Zk100):=by
 refine holds_of EE_ok Go.Proofs.Tryz.func100 Zk100 (by kernel_rfl) Zu100 (us_ok _) Za100 (fun x hp hb=> ?_)
 obtain⟨a,left⟩:=x
 have hz0:=bd_lTimer (x:=a) (hb _ m0)
 have hl_a_F_Kind:=hz0.1
 have hl_a_F_Fields:=hz0.2
 have hl_left:=bdI (n:=left) (hb _ m1)
 have hp0:0≤left:=hp _ m0
 clear hp hb
 rw[Zv100 a left]
 refine⟨by omega,if_cond (fun h=>Lf_i (szr_bad' ?_)) (fun h=> ?_)⟩
 ·have h:=szr_neg h;simp only[sizeTimer];omega
 obtain⟨e0,h0⟩:=szr_pos h
 rw[e0]
 exact Lf_i (by rw[←szr_ok' (by simp only[sizeTimer];omega)];simp only[sizeTimer];try omega)
def Zh100:HH:=⟨_,Zo100⟩
def Zk113:Con UU where
 α:=DTimer
 md:=[.ro]
 of:=o1 (oA .lTimer)
 ds:=fun x=>[dA .lTimer x]
 pre:=fun a=>[sizeTimer a≤4294967296]
 res:=fun a=>⟨[.agg [.lit (.int .i64 a.At),.lit (.string a.F.Kind),.sl .eVal a.F.Fields]],true,[]⟩
 law:=l1 (lA .lTimer)
def Za113:Zk113.α→Nat→Option (Ann UU):=fun a=>annL []
def Zu113:=us [Zh172]
theorem Zv113(a:DTimer):goal EE Zu113 Go.Proofs.Tryz.f113 Zk113 Za113 a=(sizeFact a.F≤(4294967296:Nat)∧Lf [DV.agg [Cell.lit (Value.int IntKind.i64 a.At),Cell.lit (Value.string a.F.Kind),Cell.sl Cd.eVal a.F.Fields]] [DV.agg [Cell.lit (Value.int IntKind.i64 a.At),Cell.lit (Value.string a.F.Kind),Cell.sl Cd.eVal a.F.Fields]]):=by kernel_rfl
theorem Zo113:Holds EE (113,Zk113):=by
 refine holds_of EE_ok Go.Proofs.Tryz.func113 Zk113 (by kernel_rfl) Zu113 (us_ok _) Za113 (fun(a:DTimer) hp hb=> ?_)
 have hz0:=bd_lTimer (x:=a) (hb _ m0)
 have hl_a_F_Kind:=hz0.1
 have hl_a_F_Fields:=hz0.2
 have hp0:sizeTimer a≤4294967296:=hp _ m0
 clear hp hb
 rw[Zv113 a]
 simp only[sizeTimer] at hp0
 repeat' (first|exact Lf_rfl _|(refine And.intro (by omega) ?_))
def Zh113:HH:=⟨_,Zo113⟩
def Zk131:Con UU where
 α:=DTimer×DTimer
 md:=[.ro,.ro]
 of:=oC (oA .eTimer) (o1 (oA .eTimer))
 ds:=fun x=>[dA .eTimer x.1,dA .eTimer x.2]
 pre:=fun _=>[]
 res:=fun(a,b)=>⟨[.one (.lit (.bool (decide (a=b))))],true,[]⟩
 law:=lC (lA .eTimer) (l1 (lA .eTimer))
def Za131:Zk131.α→Nat→Option (Ann UU):=fun(a,b)=>annL []
def Zu131:=us [Zh148]
theorem Zv131(a:DTimer)(b:DTimer):goal EE Zu131 Go.Proofs.Tryz.f131 Zk131 Za131 (a,b)=(bif a.At !=b.At then Lb false (decide (a=b)) else bif !decide (a.F=b.F) then Lb false (decide (a=b)) else Lb true (decide (a=b))):=by kernel_rfl
theorem Zo131:Holds EE (131,Zk131):=by
 refine holds_of EE_ok Go.Proofs.Tryz.func131 Zk131 (by kernel_rfl) Zu131 (us_ok _) Za131 (fun x hp hb=> ?_)
 obtain⟨a,b⟩:=x
 have hz0:=bd_eTimer (x:=a) (hb _ m0)
 have hl_a_F_Kind:=hz0.1
 have hl_a_F_Fields:=hz0.2
 have hz1:=bd_eTimer (x:=b) (hb _ m1)
 have hl_b_F_Kind:=hz1.1
 have hl_b_F_Fields:=hz1.2
 clear hp hb
 rw[Zv131 a b]
 obtain⟨aAt,aF⟩:=a
 obtain⟨bAt,bF⟩:=b
 repeat' (apply if_cond<;>intro _)
 all_goals (first|apply Lf_t|apply Lf_f)<;>simp_all
def Zh131:HH:=⟨_,Zo131⟩
def Zk33:Con UU where
 α:=(List DTimer)×Int
 md:=[.ro,.ro]
 of:=oC (oL .lTimer) (o1 oI)
 ds:=fun x=>[dL .lTimer x.1,dI x.2]
 pre:=fun(a,left)=>[0≤left]
 res:=fun(a,left)=>⟨[.one (.lit (.int .i64 (szr left (sizeTimerS a))))],true,[]⟩
 law:=lC (lL .lTimer) (l1 lI)
def Zi33_5(a:(List DTimer))(left:Int):Int×Int×Unit→Prop:=szI sizeTimer a (sizeTimerS a) left
def Zm33_5(a:(List DTimer))(left:Int):Int×Int×Unit→Nat:=rM2 a
def Za33:Zk33.α→Nat→Option (Ann UU):=fun(a,left)=>annL [(5,annOf [.slot 1 (1,1024) (.lit (.int .i64)),.slot 5 (5,1024) (.lit (.int .i64))] (fun _=>Zi33_5 a left) (Zm33_5 a left))]
def Zu33:=us [Zh100]
theorem Zv33(a:(List DTimer))(left:Int):goal EE Zu33 Go.Proofs.Tryz.f33 Zk33 Za33 (a,left)=(szV sizeTimer zTimer a (sizeTimerS a) left):=by kernel_rfl
theorem Zo33:Holds EE (33,Zk33):=by
 refine holds_of EE_ok Go.Proofs.Tryz.func33 Zk33 (by kernel_rfl) Zu33 (us_ok _) Za33 (fun x hp hb=> ?_)
 obtain⟨a,left⟩:=x
 have hl_a:a.length≤9223372036854775807:=bdL (hb _ m0)
 have hl_left:=bdI (n:=left) (hb _ m1)
 have hp0:0≤left:=hp _ m0
 clear hp hb
 rw[Zv33 a left]
 exact szV_ok rfl hp0 hl_left hl_a
def Zh33:HH:=⟨_,Zo33⟩
def Zk49:Con UU where
 α:=(List DTimer)
 md:=[.ro]
 of:=o1 (oL .lTimer)
 ds:=fun x=>[dL .lTimer x]
 pre:=fun a=>[sizeTimerS a≤4294967296]
 res:=fun a=>⟨[.one (.sl .eTimer a)],true,[]⟩
 law:=l1 (lL .lTimer)
def Zi49_3(a:(List DTimer)):List DTimer×Int×Unit→Prop:=toI zTimer a
def Zm49_3(a:(List DTimer)):List DTimer×Int×Unit→Nat:=rM2 a
def Za49:Zk49.α→Nat→Option (Ann UU):=fun a=>annL [(3,annOf [.slot 3 (3,1024) (.own .eTimer true),.slot 4 (4,1024) (.lit (.int .i64))] (fun _=>Zi49_3 a) (Zm49_3 a))]
def Zu49:=us [Zh113]
theorem Zv49(a:(List DTimer)):goal EE Zu49 Go.Proofs.Tryz.f49 Zk49 Za49 a=(toV sizeTimer zTimer a fun y=>Lf [.one (.sl .eTimer y)] [.one (.sl .eTimer a)]):=by kernel_rfl
theorem Zo49:Holds EE (49,Zk49):=by
 refine holds_of EE_ok Go.Proofs.Tryz.func49 Zk49 (by kernel_rfl) Zu49 (us_ok _) Za49 (fun(a:(List DTimer)) hp hb=> ?_)
 have hl_a:a.length≤9223372036854775807:=bdL (hb _ m0)
 have hp0:sizeTimerS a≤4294967296:=hp _ m0
 clear hp hb
 rw[Zv49 a]
 exact toV_ok hp0 (Lf_rfl _)
def Zh49:HH:=⟨_,Zo49⟩
def Zk66:Con UU where
 α:=(List DTimer)×(List DTimer)
 md:=[.ro,.ro]
 of:=oC (oL .eTimer) (o1 (oL .eTimer))
 ds:=fun x=>[dL .eTimer x.1,dL .eTimer x.2]
 pre:=fun _=>[]
 res:=fun(a,b)=>⟨[.one (.lit (.bool (decide (a=b))))],true,[]⟩
 law:=lC (lL .eTimer) (l1 (lL .eTimer))
def Zi66_4(a:(List DTimer))(b:(List DTimer)):Int×Unit→Prop:=eqI a b
def Zm66_4(a:(List DTimer))(b:(List DTimer)):Int×Unit→Nat:=rM1 a
def Za66:Zk66.α→Nat→Option (Ann UU):=fun(a,b)=>annL [(4,annOf [.slot 5 (5,1024) (.lit (.int .i64))] (fun _=>Zi66_4 a b) (Zm66_4 a b))]
def Zu66:=us [Zh131]
theorem Zv66(a:(List DTimer))(b:(List DTimer)):goal EE Zu66 Go.Proofs.Tryz.f66 Zk66 Za66 (a,b)=(eqV zTimer a b):=by kernel_rfl
theorem Zo66:Holds EE (66,Zk66):=by
 refine holds_of EE_ok Go.Proofs.Tryz.func66 Zk66 (by kernel_rfl) Zu66 (us_ok _) Za66 (fun x hp hb=> ?_)
 obtain⟨a,b⟩:=x
 have hl_a:a.length≤9223372036854775807:=bdL (hb _ m0)
 have hl_b:b.length≤9223372036854775807:=bdL (hb _ m1)
 clear hp hb
 rw[Zv66 a b]
 exact eqV_ok hl_a
def Zh66:HH:=⟨_,Zo66⟩
def Zk99:Con UU where
 α:=DTask×Int
 md:=[.ro,.ro]
 of:=oC (oA .lTask) (o1 oI)
 ds:=fun x=>[dA .lTask x.1,dI x.2]
 pre:=fun(a,left)=>[0≤left]
 res:=fun(a,left)=>⟨[.one (.lit (.int .i64 (szr left (sizeTask a))))],true,[]⟩
 law:=lC (lA .lTask) (l1 lI)
def Za99:Zk99.α→Nat→Option (Ann UU):=fun(a,left)=>annL []
def Zu99:=us [Zh157,Zh158]
theorem Zv99(a:DTask)(left:Int):goal EE Zu99 Go.Proofs.Tryz.f99 Zk99 Za99 (a,left)=(let x0:Int:=IntKind.wrap IntKind.i64 (szr left (sizeFact a.F)-(↑(ByteArray.size a.Undo):Int));
(0:Int)≤left∧bif decide (szr left (sizeFact a.F)<(0:Int)) then Lf [DV.one (Cell.lit (Value.int IntKind.i64 (-1:Int)))] [DV.one (Cell.lit (Value.int IntKind.i64 (szr left (sizeTask a))))] else bif decide (x0<(0:Int)) then Lf [DV.one (Cell.lit (Value.int IntKind.i64 (-1:Int)))] [DV.one (Cell.lit (Value.int IntKind.i64 (szr left (sizeTask a))))] else(0:Int)≤x0∧bif decide (szr x0 (sizeVal a.V)<(0:Int)) then Lf [DV.one (Cell.lit (Value.int IntKind.i64 (-1:Int)))] [DV.one (Cell.lit (Value.int IntKind.i64 (szr left (sizeTask a))))] else Lf [DV.one (Cell.lit (Value.int IntKind.i64 (szr x0 (sizeVal a.V))))] [DV.one (Cell.lit (Value.int IntKind.i64 (szr left (sizeTask a))))]):=by kernel_rfl
theorem Zo99:Holds EE (99,Zk99):=by
 refine holds_of EE_ok Go.Proofs.Tryz.func99 Zk99 (by kernel_rfl) Zu99 (us_ok _) Za99 (fun x hp hb=> ?_)
 obtain⟨a,left⟩:=x
 have hz0:=bd_lTask (x:=a) (hb _ m0)
 have hl_a_F_Kind:=hz0.1
 have hl_a_F_Fields:=hz0.2.1
 have hl_a_Undo:=hz0.2.2.1
 have hl_a_V_S:=hz0.2.2.2
 have hl_left:=bdI (n:=left) (hb _ m1)
 have hp0:0≤left:=hp _ m0
 clear hp hb
 rw[Zv99 a left]
 dsimp only
 refine⟨by omega,if_cond (fun h=>Lf_i (szr_bad' ?_)) (fun h=> ?_)⟩
 ·have h:=szr_neg h;simp only[sizeTask];omega
 obtain⟨e0,h0⟩:=szr_pos h
 rw[e0]
 rw[wrap_i64 (by omega) (by omega)]
 refine if_cond (fun h=>Lf_i (szr_bad' ?_)) (fun h=> ?_)
 ·have h:=of_decide_eq_true h;simp only[sizeTask];omega
 have h1:=of_decide_eq_false h
 refine⟨by omega,if_cond (fun h=>Lf_i (szr_bad' ?_)) (fun h=> ?_)⟩
 ·have h:=szr_neg h;simp only[sizeTask];omega
 obtain⟨e2,h2⟩:=szr_pos h
 rw[e2]
 exact Lf_i (by rw[←szr_ok' (by simp only[sizeTask];omega)];simp only[sizeTask];try omega)
def Zh99:HH:=⟨_,Zo99⟩
def Zk112:Con UU where
 α:=DTask
 md:=[.ro]
 of:=o1 (oA .lTask)
 ds:=fun x=>[dA .lTask x]
 pre:=fun a=>[sizeTask a≤4294967296]
 res:=fun a=>⟨[.agg [.lit (.string a.F.Kind),.sl .eVal a.F.Fields,.lit (.string a.Undo),.lit (.int .i64 a.State),.lit (.int .i64 a.Tries),.lit (.int .i64 a.Due),.lit (.int .i64 a.V.K),.lit (.int .i64 a.V.N),.lit (.string a.V.S)]],true,[]⟩
 law:=l1 (lA .lTask)
def Za112:Zk112.α→Nat→Option (Ann UU):=fun a=>annL []
def Zu112:=us [Zh172,Zh173]
theorem Zv112(a:DTask):goal EE Zu112 Go.Proofs.Tryz.f112 Zk112 Za112 a=(sizeFact a.F≤(4294967296:Nat)∧sizeVal a.V≤(4294967296:Nat)∧Lf [DV.agg [Cell.lit (Value.string a.F.Kind),Cell.sl Cd.eVal a.F.Fields,Cell.lit (Value.string a.Undo),Cell.lit (Value.int IntKind.i64 a.State),Cell.lit (Value.int IntKind.i64 a.Tries),Cell.lit (Value.int IntKind.i64 a.Due),Cell.lit (Value.int IntKind.i64 a.V.K),Cell.lit (Value.int IntKind.i64 a.V.N),Cell.lit (Value.string a.V.S)]] [DV.agg [Cell.lit (Value.string a.F.Kind),Cell.sl Cd.eVal a.F.Fields,Cell.lit (Value.string a.Undo),Cell.lit (Value.int IntKind.i64 a.State),Cell.lit (Value.int IntKind.i64 a.Tries),Cell.lit (Value.int IntKind.i64 a.Due),Cell.lit (Value.int IntKind.i64 a.V.K),Cell.lit (Value.int IntKind.i64 a.V.N),Cell.lit (Value.string a.V.S)]]):=by kernel_rfl
theorem Zo112:Holds EE (112,Zk112):=by
 refine holds_of EE_ok Go.Proofs.Tryz.func112 Zk112 (by kernel_rfl) Zu112 (us_ok _) Za112 (fun(a:DTask) hp hb=> ?_)
 have hz0:=bd_lTask (x:=a) (hb _ m0)
 have hl_a_F_Kind:=hz0.1
 have hl_a_F_Fields:=hz0.2.1
 have hl_a_Undo:=hz0.2.2.1
 have hl_a_V_S:=hz0.2.2.2
 have hp0:sizeTask a≤4294967296:=hp _ m0
 clear hp hb
 rw[Zv112 a]
 simp only[sizeTask] at hp0
 repeat' (first|exact Lf_rfl _|(refine And.intro (by omega) ?_))
def Zh112:HH:=⟨_,Zo112⟩
def Zk130:Con UU where
 α:=DTask×DTask
 md:=[.ro,.ro]
 of:=oC (oA .eTask) (o1 (oA .eTask))
 ds:=fun x=>[dA .eTask x.1,dA .eTask x.2]
 pre:=fun _=>[]
 res:=fun(a,b)=>⟨[.one (.lit (.bool (decide (a=b))))],true,[]⟩
 law:=lC (lA .eTask) (l1 (lA .eTask))
def Za130:Zk130.α→Nat→Option (Ann UU):=fun(a,b)=>annL []
def Zu130:=us [Zh148,Zh193]
theorem Zv130(a:DTask)(b:DTask):goal EE Zu130 Go.Proofs.Tryz.f130 Zk130 Za130 (a,b)=(bif !decide (a.F=b.F) then Lb false (decide (a=b)) else bif !ByteArray.toList a.Undo==ByteArray.toList b.Undo then Lb false (decide (a=b)) else bif a.State !=b.State then Lb false (decide (a=b)) else bif a.Tries !=b.Tries then Lb false (decide (a=b)) else bif a.Due !=b.Due then Lb false (decide (a=b)) else bif !decide (a.V=b.V) then Lb false (decide (a=b)) else Lb true (decide (a=b))):=by kernel_rfl
theorem Zo130:Holds EE (130,Zk130):=by
 refine holds_of EE_ok Go.Proofs.Tryz.func130 Zk130 (by kernel_rfl) Zu130 (us_ok _) Za130 (fun x hp hb=> ?_)
 obtain⟨a,b⟩:=x
 have hz0:=bd_eTask (x:=a) (hb _ m0)
 have hl_a_F_Kind:=hz0.1
 have hl_a_F_Fields:=hz0.2.1
 have hl_a_Undo:=hz0.2.2.1
 have hl_a_V_S:=hz0.2.2.2
 have hz1:=bd_eTask (x:=b) (hb _ m1)
 have hl_b_F_Kind:=hz1.1
 have hl_b_F_Fields:=hz1.2.1
 have hl_b_Undo:=hz1.2.2.1
 have hl_b_V_S:=hz1.2.2.2
 clear hp hb
 rw[Zv130 a b]
 obtain⟨aF,aUndo,aState,aTries,aDue,aV⟩:=a
 obtain⟨bF,bUndo,bState,bTries,bDue,bV⟩:=b
 repeat' (apply if_cond<;>intro _)
 all_goals (first|apply Lf_t|apply Lf_f)<;>simp_all
def Zh130:HH:=⟨_,Zo130⟩
def Zk32:Con UU where
 α:=(List DTask)×Int
 md:=[.ro,.ro]
 of:=oC (oL .lTask) (o1 oI)
 ds:=fun x=>[dL .lTask x.1,dI x.2]
 pre:=fun(a,left)=>[0≤left]
 res:=fun(a,left)=>⟨[.one (.lit (.int .i64 (szr left (sizeTaskS a))))],true,[]⟩
 law:=lC (lL .lTask) (l1 lI)
def Zi32_5(a:(List DTask))(left:Int):Int×Int×Unit→Prop:=szI sizeTask a (sizeTaskS a) left
def Zm32_5(a:(List DTask))(left:Int):Int×Int×Unit→Nat:=rM2 a
def Za32:Zk32.α→Nat→Option (Ann UU):=fun(a,left)=>annL [(5,annOf [.slot 1 (1,1024) (.lit (.int .i64)),.slot 5 (5,1024) (.lit (.int .i64))] (fun _=>Zi32_5 a left) (Zm32_5 a left))]
def Zu32:=us [Zh99]
theorem Zv32(a:(List DTask))(left:Int):goal EE Zu32 Go.Proofs.Tryz.f32 Zk32 Za32 (a,left)=(szV sizeTask zTask a (sizeTaskS a) left):=by kernel_rfl
theorem Zo32:Holds EE (32,Zk32):=by
 refine holds_of EE_ok Go.Proofs.Tryz.func32 Zk32 (by kernel_rfl) Zu32 (us_ok _) Za32 (fun x hp hb=> ?_)
 obtain⟨a,left⟩:=x
 have hl_a:a.length≤9223372036854775807:=bdL (hb _ m0)
 have hl_left:=bdI (n:=left) (hb _ m1)
 have hp0:0≤left:=hp _ m0
 clear hp hb
 rw[Zv32 a left]
 exact szV_ok rfl hp0 hl_left hl_a
def Zh32:HH:=⟨_,Zo32⟩
def Zk48:Con UU where
 α:=(List DTask)
 md:=[.ro]
 of:=o1 (oL .lTask)
 ds:=fun x=>[dL .lTask x]
 pre:=fun a=>[sizeTaskS a≤4294967296]
 res:=fun a=>⟨[.one (.sl .eTask a)],true,[]⟩
 law:=l1 (lL .lTask)
def Zi48_3(a:(List DTask)):List DTask×Int×Unit→Prop:=toI zTask a
def Zm48_3(a:(List DTask)):List DTask×Int×Unit→Nat:=rM2 a
def Za48:Zk48.α→Nat→Option (Ann UU):=fun a=>annL [(3,annOf [.slot 3 (3,1024) (.own .eTask true),.slot 4 (4,1024) (.lit (.int .i64))] (fun _=>Zi48_3 a) (Zm48_3 a))]
def Zu48:=us [Zh112]
theorem Zv48(a:(List DTask)):goal EE Zu48 Go.Proofs.Tryz.f48 Zk48 Za48 a=(toV sizeTask zTask a fun y=>Lf [.one (.sl .eTask y)] [.one (.sl .eTask a)]):=by kernel_rfl
theorem Zo48:Holds EE (48,Zk48):=by
 refine holds_of EE_ok Go.Proofs.Tryz.func48 Zk48 (by kernel_rfl) Zu48 (us_ok _) Za48 (fun(a:(List DTask)) hp hb=> ?_)
 have hl_a:a.length≤9223372036854775807:=bdL (hb _ m0)
 have hp0:sizeTaskS a≤4294967296:=hp _ m0
 clear hp hb
 rw[Zv48 a]
 exact toV_ok hp0 (Lf_rfl _)
def Zh48:HH:=⟨_,Zo48⟩
def Zk65:Con UU where
 α:=(List DTask)×(List DTask)
 md:=[.ro,.ro]
 of:=oC (oL .eTask) (o1 (oL .eTask))
 ds:=fun x=>[dL .eTask x.1,dL .eTask x.2]
 pre:=fun _=>[]
 res:=fun(a,b)=>⟨[.one (.lit (.bool (decide (a=b))))],true,[]⟩
 law:=lC (lL .eTask) (l1 (lL .eTask))
def Zi65_4(a:(List DTask))(b:(List DTask)):Int×Unit→Prop:=eqI a b
def Zm65_4(a:(List DTask))(b:(List DTask)):Int×Unit→Nat:=rM1 a
def Za65:Zk65.α→Nat→Option (Ann UU):=fun(a,b)=>annL [(4,annOf [.slot 5 (5,1024) (.lit (.int .i64))] (fun _=>Zi65_4 a b) (Zm65_4 a b))]
def Zu65:=us [Zh130]
theorem Zv65(a:(List DTask))(b:(List DTask)):goal EE Zu65 Go.Proofs.Tryz.f65 Zk65 Za65 (a,b)=(eqV zTask a b):=by kernel_rfl
theorem Zo65:Holds EE (65,Zk65):=by
 refine holds_of EE_ok Go.Proofs.Tryz.func65 Zk65 (by kernel_rfl) Zu65 (us_ok _) Za65 (fun x hp hb=> ?_)
 obtain⟨a,b⟩:=x
 have hl_a:a.length≤9223372036854775807:=bdL (hb _ m0)
 have hl_b:b.length≤9223372036854775807:=bdL (hb _ m1)
 clear hp hb
 rw[Zv65 a b]
 exact eqV_ok hl_a
def Zh65:HH:=⟨_,Zo65⟩
def Zk101:Con UU where
 α:=DUndo×Int
 md:=[.ro,.ro]
 of:=oC (oA .lUndo) (o1 oI)
 ds:=fun x=>[dA .lUndo x.1,dI x.2]
 pre:=fun(a,left)=>[0≤left]
 res:=fun(a,left)=>⟨[.one (.lit (.int .i64 (szr left (sizeUndo a))))],true,[]⟩
 law:=lC (lA .lUndo) (l1 lI)
def Za101:Zk101.α→Nat→Option (Ann UU):=fun(a,left)=>annL []
def Zu101:=us [Zh157]
theorem Zv101(a:DUndo)(left:Int):goal EE Zu101 Go.Proofs.Tryz.f101 Zk101 Za101 (a,left)=(let x0:Int:=IntKind.wrap IntKind.i64 (left-(↑(ByteArray.size a.Key):Int));
bif decide (x0<(0:Int)) then Lf [DV.one (Cell.lit (Value.int IntKind.i64 (-1:Int)))] [DV.one (Cell.lit (Value.int IntKind.i64 (szr left (sizeUndo a))))] else(0:Int)≤x0∧bif decide (szr x0 (sizeFact a.F)<(0:Int)) then Lf [DV.one (Cell.lit (Value.int IntKind.i64 (-1:Int)))] [DV.one (Cell.lit (Value.int IntKind.i64 (szr left (sizeUndo a))))] else Lf [DV.one (Cell.lit (Value.int IntKind.i64 (szr x0 (sizeFact a.F))))] [DV.one (Cell.lit (Value.int IntKind.i64 (szr left (sizeUndo a))))]):=by kernel_rfl
theorem Zo101:Holds EE (101,Zk101):=by
 refine holds_of EE_ok Go.Proofs.Tryz.func101 Zk101 (by kernel_rfl) Zu101 (us_ok _) Za101 (fun x hp hb=> ?_)
 obtain⟨a,left⟩:=x
 have hz0:=bd_lUndo (x:=a) (hb _ m0)
 have hl_a_Key:=hz0.1
 have hl_a_F_Kind:=hz0.2.1
 have hl_a_F_Fields:=hz0.2.2
 have hl_left:=bdI (n:=left) (hb _ m1)
 have hp0:0≤left:=hp _ m0
 clear hp hb
 rw[Zv101 a left]
 dsimp only
 rw[wrap_i64 (by omega) (by omega)]
 refine if_cond (fun h=>Lf_i (szr_bad' ?_)) (fun h=> ?_)
 ·have h:=of_decide_eq_true h;simp only[sizeUndo];omega
 have h0:=of_decide_eq_false h
 refine⟨by omega,if_cond (fun h=>Lf_i (szr_bad' ?_)) (fun h=> ?_)⟩
 ·have h:=szr_neg h;simp only[sizeUndo];omega
 obtain⟨e1,h1⟩:=szr_pos h
 rw[e1]
 exact Lf_i (by rw[←szr_ok' (by simp only[sizeUndo];omega)];simp only[sizeUndo];try omega)
def Zh101:HH:=⟨_,Zo101⟩
def Zk114:Con UU where
 α:=DUndo
 md:=[.ro]
 of:=o1 (oA .lUndo)
 ds:=fun x=>[dA .lUndo x]
 pre:=fun a=>[sizeUndo a≤4294967296]
 res:=fun a=>⟨[.agg [.lit (.string a.Key),.lit (.string a.F.Kind),.sl .eVal a.F.Fields]],true,[]⟩
 law:=l1 (lA .lUndo)
def Za114:Zk114.α→Nat→Option (Ann UU):=fun a=>annL []
def Zu114:=us [Zh172]
theorem Zv114(a:DUndo):goal EE Zu114 Go.Proofs.Tryz.f114 Zk114 Za114 a=(sizeFact a.F≤(4294967296:Nat)∧Lf [DV.agg [Cell.lit (Value.string a.Key),Cell.lit (Value.string a.F.Kind),Cell.sl Cd.eVal a.F.Fields]] [DV.agg [Cell.lit (Value.string a.Key),Cell.lit (Value.string a.F.Kind),Cell.sl Cd.eVal a.F.Fields]]):=by kernel_rfl
theorem Zo114:Holds EE (114,Zk114):=by
 refine holds_of EE_ok Go.Proofs.Tryz.func114 Zk114 (by kernel_rfl) Zu114 (us_ok _) Za114 (fun(a:DUndo) hp hb=> ?_)
 have hz0:=bd_lUndo (x:=a) (hb _ m0)
 have hl_a_Key:=hz0.1
 have hl_a_F_Kind:=hz0.2.1
 have hl_a_F_Fields:=hz0.2.2
 have hp0:sizeUndo a≤4294967296:=hp _ m0
 clear hp hb
 rw[Zv114 a]
 simp only[sizeUndo] at hp0
 repeat' (first|exact Lf_rfl _|(refine And.intro (by omega) ?_))
def Zh114:HH:=⟨_,Zo114⟩
def Zk132:Con UU where
 α:=DUndo×DUndo
 md:=[.ro,.ro]
 of:=oC (oA .eUndo) (o1 (oA .eUndo))
 ds:=fun x=>[dA .eUndo x.1,dA .eUndo x.2]
 pre:=fun _=>[]
 res:=fun(a,b)=>⟨[.one (.lit (.bool (decide (a=b))))],true,[]⟩
 law:=lC (lA .eUndo) (l1 (lA .eUndo))
def Za132:Zk132.α→Nat→Option (Ann UU):=fun(a,b)=>annL []
def Zu132:=us [Zh148]
theorem Zv132(a:DUndo)(b:DUndo):goal EE Zu132 Go.Proofs.Tryz.f132 Zk132 Za132 (a,b)=(bif !ByteArray.toList a.Key==ByteArray.toList b.Key then Lb false (decide (a=b)) else bif !decide (a.F=b.F) then Lb false (decide (a=b)) else Lb true (decide (a=b))):=by kernel_rfl
theorem Zo132:Holds EE (132,Zk132):=by
 refine holds_of EE_ok Go.Proofs.Tryz.func132 Zk132 (by kernel_rfl) Zu132 (us_ok _) Za132 (fun x hp hb=> ?_)
 obtain⟨a,b⟩:=x
 have hz0:=bd_eUndo (x:=a) (hb _ m0)
 have hl_a_Key:=hz0.1
 have hl_a_F_Kind:=hz0.2.1
 have hl_a_F_Fields:=hz0.2.2
 have hz1:=bd_eUndo (x:=b) (hb _ m1)
 have hl_b_Key:=hz1.1
 have hl_b_F_Kind:=hz1.2.1
 have hl_b_F_Fields:=hz1.2.2
 clear hp hb
 rw[Zv132 a b]
 obtain⟨aKey,aF⟩:=a
 obtain⟨bKey,bF⟩:=b
 repeat' (apply if_cond<;>intro _)
 all_goals (first|apply Lf_t|apply Lf_f)<;>simp_all
def Zh132:HH:=⟨_,Zo132⟩
def Zk34:Con UU where
 α:=(List DUndo)×Int
 md:=[.ro,.ro]
 of:=oC (oL .lUndo) (o1 oI)
 ds:=fun x=>[dL .lUndo x.1,dI x.2]
 pre:=fun(a,left)=>[0≤left]
 res:=fun(a,left)=>⟨[.one (.lit (.int .i64 (szr left (sizeUndoS a))))],true,[]⟩
 law:=lC (lL .lUndo) (l1 lI)
def Zi34_5(a:(List DUndo))(left:Int):Int×Int×Unit→Prop:=szI sizeUndo a (sizeUndoS a) left
def Zm34_5(a:(List DUndo))(left:Int):Int×Int×Unit→Nat:=rM2 a
def Za34:Zk34.α→Nat→Option (Ann UU):=fun(a,left)=>annL [(5,annOf [.slot 1 (1,1024) (.lit (.int .i64)),.slot 5 (5,1024) (.lit (.int .i64))] (fun _=>Zi34_5 a left) (Zm34_5 a left))]
def Zu34:=us [Zh101]
theorem Zv34(a:(List DUndo))(left:Int):goal EE Zu34 Go.Proofs.Tryz.f34 Zk34 Za34 (a,left)=(szV sizeUndo zUndo a (sizeUndoS a) left):=by kernel_rfl
theorem Zo34:Holds EE (34,Zk34):=by
 refine holds_of EE_ok Go.Proofs.Tryz.func34 Zk34 (by kernel_rfl) Zu34 (us_ok _) Za34 (fun x hp hb=> ?_)
 obtain⟨a,left⟩:=x
 have hl_a:a.length≤9223372036854775807:=bdL (hb _ m0)
 have hl_left:=bdI (n:=left) (hb _ m1)
 have hp0:0≤left:=hp _ m0
 clear hp hb
 rw[Zv34 a left]
 exact szV_ok rfl hp0 hl_left hl_a
def Zh34:HH:=⟨_,Zo34⟩
def Zk50:Con UU where
 α:=(List DUndo)
 md:=[.ro]
 of:=o1 (oL .lUndo)
 ds:=fun x=>[dL .lUndo x]
 pre:=fun a=>[sizeUndoS a≤4294967296]
 res:=fun a=>⟨[.one (.sl .eUndo a)],true,[]⟩
 law:=l1 (lL .lUndo)
def Zi50_3(a:(List DUndo)):List DUndo×Int×Unit→Prop:=toI zUndo a
def Zm50_3(a:(List DUndo)):List DUndo×Int×Unit→Nat:=rM2 a
def Za50:Zk50.α→Nat→Option (Ann UU):=fun a=>annL [(3,annOf [.slot 3 (3,1024) (.own .eUndo true),.slot 4 (4,1024) (.lit (.int .i64))] (fun _=>Zi50_3 a) (Zm50_3 a))]
def Zu50:=us [Zh114]
theorem Zv50(a:(List DUndo)):goal EE Zu50 Go.Proofs.Tryz.f50 Zk50 Za50 a=(toV sizeUndo zUndo a fun y=>Lf [.one (.sl .eUndo y)] [.one (.sl .eUndo a)]):=by kernel_rfl
theorem Zo50:Holds EE (50,Zk50):=by
 refine holds_of EE_ok Go.Proofs.Tryz.func50 Zk50 (by kernel_rfl) Zu50 (us_ok _) Za50 (fun(a:(List DUndo)) hp hb=> ?_)
 have hl_a:a.length≤9223372036854775807:=bdL (hb _ m0)
 have hp0:sizeUndoS a≤4294967296:=hp _ m0
 clear hp hb
 rw[Zv50 a]
 exact toV_ok hp0 (Lf_rfl _)
def Zh50:HH:=⟨_,Zo50⟩
def Zk67:Con UU where
 α:=(List DUndo)×(List DUndo)
 md:=[.ro,.ro]
 of:=oC (oL .eUndo) (o1 (oL .eUndo))
 ds:=fun x=>[dL .eUndo x.1,dL .eUndo x.2]
 pre:=fun _=>[]
 res:=fun(a,b)=>⟨[.one (.lit (.bool (decide (a=b))))],true,[]⟩
 law:=lC (lL .eUndo) (l1 (lL .eUndo))
def Zi67_4(a:(List DUndo))(b:(List DUndo)):Int×Unit→Prop:=eqI a b
def Zm67_4(a:(List DUndo))(b:(List DUndo)):Int×Unit→Nat:=rM1 a
def Za67:Zk67.α→Nat→Option (Ann UU):=fun(a,b)=>annL [(4,annOf [.slot 5 (5,1024) (.lit (.int .i64))] (fun _=>Zi67_4 a b) (Zm67_4 a b))]
def Zu67:=us [Zh132]
theorem Zv67(a:(List DUndo))(b:(List DUndo)):goal EE Zu67 Go.Proofs.Tryz.f67 Zk67 Za67 (a,b)=(eqV zUndo a b):=by kernel_rfl
theorem Zo67:Holds EE (67,Zk67):=by
 refine holds_of EE_ok Go.Proofs.Tryz.func67 Zk67 (by kernel_rfl) Zu67 (us_ok _) Za67 (fun x hp hb=> ?_)
 obtain⟨a,b⟩:=x
 have hl_a:a.length≤9223372036854775807:=bdL (hb _ m0)
 have hl_b:b.length≤9223372036854775807:=bdL (hb _ m1)
 clear hp hb
 rw[Zv67 a b]
 exact eqV_ok hl_a
def Zh67:HH:=⟨_,Zo67⟩
def allI(n:Nat)(p:Nat→Bool):Bool:=(List.range n).all p
theorem allI_true{n:Nat}{p:Nat→Bool}(h:∀j,j<n→p j=true):allI n p=true:=by simpa[allI] using h
theorem allI_false{n:Nat}{p:Nat→Bool}{j:Nat}(h:j<n)(hj:p j=false):allI n p=false:=by
 simp only[allI,List.all_eq_false,List.mem_range]
 exact⟨j,h,by simp[hj]⟩
theorem upto_step{i:Int}{p:Nat→Bool}(h0:0≤i)(h:∀j:Nat,(j:Int)<i→p j=true)(hi:p i.toNat=true):∀j:Nat,(j:Int)<i+1→p j=true:=by
 intro j hj
 by_cases hji:(j:Int)<i
 ·exact h j hji
 ·have:j=i.toNat:=by omega
  subst this;exact hi
def timerOk(x:DTimer):Bool:=decide (0≤x.At∧x.At≤1000000000)&&factOk x.F
def timerAt(l:List DTimer)(i:Nat):Bool:=timerOk (List.getD l i zTimer)&&(decide (i=0)||decide ((List.getD l (i-1) zTimer).At≤(List.getD l i zTimer).At))
def timersOk(l:List DTimer):Bool:=decide (l.length≤30)&&allI l.length (timerAt l)
def Zk57:Con UU where
 α:=Int
 md:=[.ro]
 of:=o1 oI
 ds:=fun x=>[dI x]
 pre:=fun _=>[]
 res:=fun n=>⟨[.one (.lit (.bool (decide (0≤n∧n≤1000000000))))],true,[]⟩
 law:=l1 lI
def Za57:Zk57.α→Nat→Option (Ann UU):=fun n=>annL []
def Zu57:=us [Zh56]
theorem Zv57(n:Int):goal EE Zu57 Go.Proofs.Tryz.f57 Zk57 Za57 n=(Lb (decide ((0:Int)≤n∧n≤(1000000000:Int))) (decide ((0:Int)≤n∧n≤(1000000000:Int)))):=by kernel_rfl
theorem Zo57:Holds EE (57,Zk57):=by
 refine holds_of EE_ok Go.Proofs.Tryz.func57 Zk57 (by kernel_rfl) Zu57 (us_ok _) Za57 (fun(n:Int) hp hb=> ?_)
 have hl_n:=bdI (n:=n) (hb _ m0)
 clear hp hb
 rw[Zv57 n]
 exact Lf_rfl _
def Zh57:HH:=⟨_,Zo57⟩
def Zk121:Con UU where
 α:=DTimer
 md:=[.ro]
 of:=o1 (oA .eTimer)
 ds:=fun x=>[dA .eTimer x]
 pre:=fun _=>[]
 res:=fun x=>⟨[.one (.lit (.bool (timerOk x)))],true,[]⟩
 law:=l1 (lA .eTimer)
def Za121:Zk121.α→Nat→Option (Ann UU):=fun x=>annL []
def Zu121:=us [Zh57,Zh117]
theorem Zv121(x:DTimer):goal EE Zu121 Go.Proofs.Tryz.f121 Zk121 Za121 x=(bif decide ((0:Int)≤x.At∧x.At≤(1000000000:Int)) then Lb (factOk x.F) (timerOk x) else Lb false (timerOk x)):=by kernel_rfl
theorem Zo121:Holds EE (121,Zk121):=by
 refine holds_of EE_ok Go.Proofs.Tryz.func121 Zk121 (by kernel_rfl) Zu121 (us_ok _) Za121 (fun(x:DTimer) hp hb=> ?_)
 have hz0:=bd_eTimer (x:=x) (hb _ m0)
 have hl_x_F_Kind:=hz0.1
 have hl_x_F_Fields:=hz0.2
 clear hp hb
 rw[Zv121 x]
 simp only[timerOk]
 refine if_cond (fun h=>Lf_b ?_) (fun h=>Lf_b ?_)<;>grind
def Zh121:HH:=⟨_,Zo121⟩
def Zk108:Con UU where
 α:=DTimer
 md:=[.ro]
 of:=o1 (oA .eTimer)
 ds:=fun x=>[dA .eTimer x]
 pre:=fun _=>[]
 res:=fun x=>⟨[.one (.lit (.bool (timerOk x)))],true,[]⟩
 law:=l1 (lA .eTimer)
def Za108:Zk108.α→Nat→Option (Ann UU):=fun x=>annL []
def Zu108:=us [Zh40,Zh104]
theorem Zv108(x:DTimer):goal EE Zu108 Go.Proofs.Tryz.f108 Zk108 Za108 x=(bif decide ((0:Int)≤x.At∧x.At≤(1000000000:Int)) then Lb (factOk x.F) (timerOk x) else Lb false (timerOk x)):=by kernel_rfl
theorem Zo108:Holds EE (108,Zk108):=by
 refine holds_of EE_ok Go.Proofs.Tryz.func108 Zk108 (by kernel_rfl) Zu108 (us_ok _) Za108 (fun(x:DTimer) hp hb=> ?_)
 have hz0:=bd_eTimer (x:=x) (hb _ m0)
 have hl_x_F_Kind:=hz0.1
 have hl_x_F_Fields:=hz0.2
 clear hp hb
 rw[Zv108 x]
 simp only[timerOk]
 refine if_cond (fun h=>Lf_b ?_) (fun h=>Lf_b ?_)<;>grind
def Zh108:HH:=⟨_,Zo108⟩
def Zk54:Con UU where
 α:=(List DTimer)
 md:=[.ro]
 of:=o1 (oL .eTimer)
 ds:=fun x=>[dL .eTimer x]
 pre:=fun _=>[]
 res:=fun l=>⟨[.one (.lit (.bool (timersOk l)))],true,[]⟩
 law:=l1 (lL .eTimer)
def Zi54_4(l:(List DTimer)):Int×Unit→Prop:=fun(i,_)=>0≤i∧i≤l.length∧l.length≤30∧∀j:Nat,(j:Int)<i→timerAt l j=true
def Zm54_4(l:(List DTimer)):Int×Unit→Nat:=fun(i,_)=>l.length-i.toNat
def Za54:Zk54.α→Nat→Option (Ann UU):=fun l=>annL [(4,annOf [.slot 10 (10,1024) (.lit (.int .i64))] (fun _=>Zi54_4 l) (Zm54_4 l))]
def Zu54:=us [Zh121]
theorem Zv54(l:(List DTimer)):goal EE Zu54 Go.Proofs.Tryz.f54 Zk54 Za54 l=(let x0:Int:=(l.length:Int);
bif decide (x0>(30:Int)) then Lf [DV.one (Cell.lit (Value.bool false))] [DV.one (Cell.lit (Value.bool (timersOk l)))]
else
 Zi54_4 l ((0:Int),PUnit.unit)∧
  ∀(y:Int×PUnit),
   let x2:Nat:=Int.toNat (IntKind.wrap IntKind.i64 (y.1-(1:Int)));
   let x1:Int:=(List.getD l x2 zTimer).At;
   Zi54_4 l y→bif decide (y.1<x0) then(0:Int)≤y.1∧Int.toNat y.1<List.length l∧bif !timerOk (List.getD l (Int.toNat y.1) zTimer) then Lf [DV.one (Cell.lit (Value.bool false))] [DV.one (Cell.lit (Value.bool (timersOk l)))] else bif decide (y.1>(0:Int)) then(0:Int)≤IntKind.wrap IntKind.i64 (y.1-(1:Int))∧x2<List.length l∧bif decide (x1>(List.getD l (Int.toNat y.1) zTimer).At) then Lf [DV.one (Cell.lit (Value.bool false))] [DV.one (Cell.lit (Value.bool (timersOk l)))] else Zi54_4 l (IntKind.wrap IntKind.i64 (y.1+(1:Int)),PUnit.unit)∧Zm54_4 l (IntKind.wrap IntKind.i64 (y.1+(1:Int)),PUnit.unit)<Zm54_4 l y else Zi54_4 l (IntKind.wrap IntKind.i64 (y.1+(1:Int)),PUnit.unit)∧Zm54_4 l (IntKind.wrap IntKind.i64 (y.1+(1:Int)),PUnit.unit)<Zm54_4 l y else Lf [DV.one (Cell.lit (Value.bool true))] [DV.one (Cell.lit (Value.bool (timersOk l)))]):=by kernel_rfl
theorem Zo54:Holds EE (54,Zk54):=by
 refine holds_of EE_ok Go.Proofs.Tryz.func54 Zk54 (by kernel_rfl) Zu54 (us_ok _) Za54 (fun(l:(List DTimer)) hp hb=> ?_)
 have hl_l:l.length≤9223372036854775807:=bdL (hb _ m0)
 clear hp hb
 rw[Zv54 l]
 dsimp only
 refine if_cond (fun h=>Lf_ff ?_) (fun h=>⟨⟨by omega,by omega,by have h:=of_decide_eq_false h;omega,by intro j hj;omega⟩,?_⟩)
 ·have h:=of_decide_eq_true h;simp only[timersOk];rw[decide_eq_false (by omega)];rfl
 rintro⟨i,⟨⟩⟩ ⟨h1,h2,h3,hR⟩
 simp only
 refine if_cond (fun hc=> ?_) (fun hc=> ?_)
 ·have hc:=of_decide_eq_true hc
  have hN:timerAt l i.toNat=false→timersOk l=false:=fun h=>by
   have hf:allI l.length (timerAt l)=false:=allI_false (j:=i.toNat) (by omega) h
   simp only[timersOk,hf];simp
  simp(disch:=omega) only[wrap_i64]
  have e1:(i-1).toNat=i.toNat-1:=by omega
  simp only[e1]
  refine⟨by omega,by omega,if_cond (fun h=>Lf_ff (hN ?_)) (fun h=>if_cond (fun h'=>⟨by have:=of_decide_eq_true h';omega,by have:=of_decide_eq_true h';omega,if_cond (fun h''=>Lf_ff (hN ?_)) (fun h''=>⟨⟨by omega,by omega,h3,upto_step h1 hR ?_⟩,?_⟩)⟩) (fun h'=>⟨⟨by omega,by omega,h3,upto_step h1 hR ?_⟩,?_⟩))⟩
  all_goals (first|(simp only[Zm54_4];omega)|(simp only[timerAt];grind))
 ·have hc:=of_decide_eq_false hc
  have hA:allI l.length (timerAt l)=true:=allI_true fun j hj=>hR j (by omega)
  refine Lf_b ?_
  simp only[timersOk,hA];grind
def Zh54:HH:=⟨_,Zo54⟩
def Zk38:Con UU where
 α:=(List DTimer)
 md:=[.ro]
 of:=o1 (oL .eTimer)
 ds:=fun x=>[dL .eTimer x]
 pre:=fun _=>[]
 res:=fun l=>⟨[.one (.lit (.bool (timersOk l)))],true,[]⟩
 law:=l1 (lL .eTimer)
def Zi38_2(l:(List DTimer)):Int×Unit→Prop:=fun(i,_)=>0≤i∧i≤l.length∧∀j:Nat,(j:Int)<i→timerAt l j=true
def Zm38_2(l:(List DTimer)):Int×Unit→Nat:=fun(i,_)=>l.length-i.toNat
def Za38:Zk38.α→Nat→Option (Ann UU):=fun l=>annL [(2,annOf [.slot 3 (3,1024) (.lit (.int .i64))] (fun _=>Zi38_2 l) (Zm38_2 l))]
def Zu38:=us [Zh108]
theorem Zv38(l:(List DTimer)):goal EE Zu38 Go.Proofs.Tryz.f38 Zk38 Za38 l=(let x0:Int:=(l.length:Int);
Zi38_2 l ((0:Int),PUnit.unit)∧
 ∀(y:Int×PUnit),
  let x2:Nat:=Int.toNat (IntKind.wrap IntKind.i64 (y.1-(1:Int)));
  let x1:Int:=(List.getD l x2 zTimer).At;
  Zi38_2 l y→bif decide (y.1<x0) then(0:Int)≤y.1∧Int.toNat y.1<List.length l∧bif !timerOk (List.getD l (Int.toNat y.1) zTimer) then Lf [DV.one (Cell.lit (Value.bool false))] [DV.one (Cell.lit (Value.bool (timersOk l)))] else bif decide (y.1>(0:Int)) then(0:Int)≤IntKind.wrap IntKind.i64 (y.1-(1:Int))∧x2<List.length l∧(0:Int)≤y.1∧Int.toNat y.1<List.length l∧bif decide (x1>(List.getD l (Int.toNat y.1) zTimer).At) then Lf [DV.one (Cell.lit (Value.bool false))] [DV.one (Cell.lit (Value.bool (timersOk l)))] else Zi38_2 l (IntKind.wrap IntKind.i64 (y.1+(1:Int)),PUnit.unit)∧Zm38_2 l (IntKind.wrap IntKind.i64 (y.1+(1:Int)),PUnit.unit)<Zm38_2 l y else Zi38_2 l (IntKind.wrap IntKind.i64 (y.1+(1:Int)),PUnit.unit)∧Zm38_2 l (IntKind.wrap IntKind.i64 (y.1+(1:Int)),PUnit.unit)<Zm38_2 l y else Lf [DV.one (Cell.lit (Value.bool (decide (x0≤(30:Int)))))] [DV.one (Cell.lit (Value.bool (timersOk l)))]):=by kernel_rfl
theorem Zo38:Holds EE (38,Zk38):=by
 refine holds_of EE_ok Go.Proofs.Tryz.func38 Zk38 (by kernel_rfl) Zu38 (us_ok _) Za38 (fun(l:(List DTimer)) hp hb=> ?_)
 have hl_l:l.length≤9223372036854775807:=bdL (hb _ m0)
 clear hp hb
 rw[Zv38 l]
 dsimp only
 refine⟨⟨by omega,by omega,by intro j hj;omega⟩,?_⟩
 rintro⟨i,⟨⟩⟩ ⟨h1,h2,hR⟩
 simp only
 refine if_cond (fun hc=> ?_) (fun hc=> ?_)
 ·have hc:=of_decide_eq_true hc
  have hN:timerAt l i.toNat=false→timersOk l=false:=fun h=>by
   have hf:allI l.length (timerAt l)=false:=allI_false (j:=i.toNat) (by omega) h
   simp only[timersOk,hf];simp
  simp(disch:=omega) only[wrap_i64]
  have e1:(i-1).toNat=i.toNat-1:=by omega
  simp only[e1]
  refine⟨by omega,by omega,if_cond (fun h=>Lf_ff (hN ?_)) (fun h=>if_cond (fun h'=>⟨by have:=of_decide_eq_true h';omega,by have:=of_decide_eq_true h';omega,by omega,by omega,if_cond (fun h''=>Lf_ff (hN ?_)) (fun h''=>⟨⟨by omega,by omega,upto_step h1 hR ?_⟩,?_⟩)⟩) (fun h'=>⟨⟨by omega,by omega,upto_step h1 hR ?_⟩,?_⟩))⟩
  all_goals (first|(simp only[Zm38_2];omega)|(simp only[timerAt];grind))
 ·have hc:=of_decide_eq_false hc
  have hA:allI l.length (timerAt l)=true:=allI_true fun j hj=>hR j (by omega)
  refine Lf_b ?_
  simp only[timersOk,hA];grind
def Zh38:HH:=⟨_,Zo38⟩
def idxI(n:Nat)(p:Nat→Bool):Int:=match(List.range n).find? p with|some i=>i|none=> -1
def anyI(n:Nat)(p:Nat→Bool):Bool:=(List.range n).any p
theorem idxI_found{n i:Nat}{p:Nat→Bool}(h:i<n)(hp:p i=true)(hj:∀j,j<i→p j=false):idxI n p=i:=by
 have:(List.range n).find? p=some i:=by
  rw[List.find?_range_eq_some]
  exact⟨hp,List.mem_range.2 h,fun j hj'=>by simp[hj j hj']⟩
 simp[idxI,this]
theorem idxI_none{n:Nat}{p:Nat→Bool}(hj:∀j,j<n→p j=false):idxI n p= -1:=by
 have:(List.range n).find? p=none:=by
  rw[List.find?_eq_none]
  intro j hj'
  simp[hj j (List.mem_range.1 hj')]
 simp[idxI,this]
theorem idxI_cases(n:Nat)(p:Nat→Bool):(idxI n p= -1∧∀j,j<n→p j=false)∨∃i,i<n∧idxI n p=(i:Int)∧p i=true∧∀j,j<i→p j=false:=by
 cases h:(List.range n).find? p with
 |none=>
  refine .inl ⟨by simp[idxI,h],fun j hj=> ?_⟩
  have:=List.find?_eq_none.1 h j (List.mem_range.2 hj)
  simpa using this
 |some i=>
  rw[List.find?_range_eq_some] at h
  obtain⟨h1,h2,h3⟩:=h
  exact .inr ⟨i,List.mem_range.1 h2,idxI_found (List.mem_range.1 h2) h1 (fun j hj=>by simpa using h3 j hj),h1,fun j hj=>by simpa using h3 j hj⟩
theorem idxI_congr{n:Nat}{p q:Nat→Bool}(h:∀j,j<n→p j=q j):idxI n p=idxI n q:=by
 rcases idxI_cases n q with⟨h1,h2⟩|⟨i,h1,h2,h3,h4⟩
 ·rw[h1,idxI_none (fun j hj=>by rw[h j hj,h2 j hj])]
 ·rw[h2,idxI_found h1 (by rw[h i h1,h3]) (fun j hj=>by rw[h j (by omega),h4 j hj])]
theorem anyI_true{n j:Nat}{p:Nat→Bool}(h:j<n)(hp:p j=true):anyI n p=true:=by
 simp only[anyI,List.any_eq_true,List.mem_range]
 exact⟨j,h,hp⟩
theorem anyI_false{n:Nat}{p:Nat→Bool}(h:∀j,j<n→p j=false):anyI n p=false:=by
 simp only[anyI,List.any_eq_false,List.mem_range]
 exact fun j hj=>by simp[h j hj]
theorem anyI_iff{n:Nat}{p:Nat→Bool}:anyI n p=true↔∃j,j<n∧p j=true:=by
 simp only[anyI,List.any_eq_true,List.mem_range]
theorem anyI_not{n:Nat}{p:Nat→Bool}:anyI n p=false↔∀j,j<n→p j=false:=by
 simp only[anyI,List.any_eq_false,List.mem_range,Bool.not_eq_true]
theorem anyI_congr{n:Nat}{p q:Nat→Bool}(h:∀j,j<n→p j=q j):anyI n p=anyI n q:=by
 rw[Bool.eq_iff_iff,anyI_iff,anyI_iff]
 exact⟨fun⟨j,h1,h2⟩=>⟨j,h1,by rw[←h j h1];exact h2⟩,fun⟨j,h1,h2⟩=>⟨j,h1,by rw[h j h1];exact h2⟩⟩
theorem idxI_ge{n:Nat}{p:Nat→Bool}:decide (0≤idxI n p)=anyI n p:=by
 rcases idxI_cases n p with⟨h1,h2⟩|⟨i,h1,h2,h3,h4⟩
 ·rw[h1,anyI_false h2];rfl
 ·rw[h2,anyI_true h1 h3];simp
theorem getD_take{α:Type}(l:List α)(z:α){i j:Nat}(h:j<i):List.getD (l.take i) j z=List.getD l j z:=by
 rw[List.getD_eq_getElem?_getD,List.getD_eq_getElem?_getD,List.getElem?_take,if_pos h]
theorem closP_of{k:Con UU}{caps:List (DV UU)}{ds:List (DA UU)}{x:k.α}{v:Value}(h:k.of (ds.map DA.dv++caps)=some x)(hv:(k.res x).val=[.one (.lit v)])(hm:(k.res x).muts=[])
  (hl:k.md.length=ds.length+caps.length) (hp:∀p∈k.pre x,p):closP k caps ds=some v:=by
 unfold closP
 simp only[h,hv,hm]
 rw[if_pos ⟨hl,hp⟩]
theorem val_beq(a b:DVal):(a.K==b.K&&(a.N==b.N&&(ByteArray.toList a.S==ByteArray.toList b.S&&true)))=decide (a=b):=by
 obtain⟨K,N,S⟩:=a
 obtain⟨K',N',S'⟩:=b
 simp only[toList_beq,Bool.and_true]
 rw[Bool.eq_iff_iff]
 simp only[Bool.and_eq_true,beq_iff_eq,decide_eq_true_eq,DVal.mk.injEq]
theorem upto_no{i:Int}{p:Nat→Bool}(h0:0≤i)(h:∀j:Nat,(j:Int)<i→p j=false)(hi:p i.toNat=false):∀j:Nat,(j:Int)<i+1→p j=false:=by
 intro j hj
 by_cases hji:(j:Int)<i
 ·exact h j hji
 ·have:j=i.toNat:=by omega
  subst this;exact hi
def daUndo(x:DUndo):DA UU:=⟨true,[.lit (.string x.Key),.lit (.string x.F.Kind),.sl .eVal x.F.Fields]⟩
def undoAt(l:List DUndo)(i:Nat):Bool:=decide (1≤(List.getD l i zUndo).Key.size∧(List.getD l i zUndo).Key.size≤200)&&factOk (List.getD l i zUndo).F&& !(anyI i fun k=>decide ((List.getD l k zUndo).Key=(List.getD l i zUndo).Key))
def undosOk(l:List DUndo):Bool:=decide (l.length≤30)&&allI l.length (undoAt l)
def hasKey(l:List DUndo)(key:ByteArray):Bool:=anyI l.length fun k=>decide ((List.getD l k zUndo).Key=key)
def Zk221:Con UU where
 α:=(List DUndo)×(List (DA UU)→Option Value)
 md:=[.ro,.ro]
 of:=oC (oL .eUndo) (o1 oF)
 ds:=fun x=>[dL .eUndo x.1,dF x.2]
 pre:=fun(l,p)=>[∀j:Nat,j<l.length→p [daUndo (List.getD l j zUndo)]=some (.bool (boolOf (p [daUndo (List.getD l j zUndo)])))]
 res:=fun(l,p)=>⟨[.one (.lit (.int .i64 (idxI l.length (fun j=>boolOf (p [daUndo (List.getD l j zUndo)])))))],true,[]⟩
 law:=lC (lL .eUndo) (l1 lF)
def Zi221_2(l:(List DUndo))(p:(List (DA UU)→Option Value)):Int×Unit→Prop:=fun(i,_)=>0≤i∧i≤l.length∧∀j:Nat,(j:Int)<i→boolOf (p [daUndo (List.getD l j zUndo)])=false
def Zm221_2(l:(List DUndo))(p:(List (DA UU)→Option Value)):Int×Unit→Nat:=fun(i,_)=>l.length-i.toNat
def Za221:Zk221.α→Nat→Option (Ann UU):=fun(l,p)=>annL [(2,annOf [.slot 8 (8,1024) (.lit (.int .i64))] (fun _=>Zi221_2 l p) (Zm221_2 l p))]
def Zu221:List (FuncId×Con UU):=[]
theorem Zv221(l:(List DUndo))(p:(List (DA UU)→Option Value)):goal EE Zu221 Go.Proofs.Tryz.f221 Zk221 Za221 (l,p)=(Zi221_2 l p ((0:Int),())∧
 ∀(y:Int×PUnit),
  let x0:Bool:=boolOf (p [{agg:=true,cs:=[Cell.lit (Value.string (List.getD l (Int.toNat y.1) zUndo).Key),Cell.lit (Value.string (List.getD l (Int.toNat y.1) zUndo).F.Kind),Cell.sl Cd.eVal (List.getD l (Int.toNat y.1) zUndo).F.Fields]:DA UU}]);
  Zi221_2 l p y→bif decide (y.1<(↑(List.length l):Int)) then(0:Int)≤y.1∧Int.toNat y.1<List.length l∧p [{agg:=true,cs:=[Cell.lit (Value.string (List.getD l (Int.toNat y.1) zUndo).Key),Cell.lit (Value.string (List.getD l (Int.toNat y.1) zUndo).F.Kind),Cell.sl Cd.eVal (List.getD l (Int.toNat y.1) zUndo).F.Fields]:DA UU}]=some (Value.bool x0)∧bif x0 then Lf [DV.one (Cell.lit (Value.int IntKind.i64 y.1))] [DV.one (Cell.lit (Value.int IntKind.i64 (idxI (List.length l) fun(j:Nat)=>boolOf (p [daUndo (List.getD l j zUndo)]))))] else Zi221_2 l p (IntKind.wrap IntKind.i64 (y.1+(1:Int)),PUnit.unit)∧Zm221_2 l p (IntKind.wrap IntKind.i64 (y.1+(1:Int)),PUnit.unit)<Zm221_2 l p y else Lf [DV.one (Cell.lit (Value.int IntKind.i64 (-1:Int)))] [DV.one (Cell.lit (Value.int IntKind.i64 (idxI (List.length l) fun(j:Nat)=>boolOf (p [daUndo (List.getD l j zUndo)]))))]):=by kernel_rfl
theorem Zo221:Holds EE (221,Zk221):=by
 refine holds_of EE_ok Go.Proofs.Tryz.func221 Zk221 (by kernel_rfl) Zu221 all_nil Za221 (fun x hp hb=> ?_)
 obtain⟨l,p⟩:=x
 have hl_l:l.length≤9223372036854775807:=bdL (hb _ m0)
 have hp0:∀j:Nat,j<l.length→p [daUndo (List.getD l j zUndo)]=some (.bool (boolOf (p [daUndo (List.getD l j zUndo)]))):=hp _ m0
 clear hp hb
 rw[Zv221 l p]
 dsimp only
 refine⟨⟨by omega,by omega,by intro j hj;omega⟩,?_⟩
 rintro⟨i,⟨⟩⟩ ⟨h1,h2,hR⟩
 simp only[daUndo] at*
 refine if_cond (fun hc=> ?_) (fun hc=> ?_)
 ·have hc:=of_decide_eq_true hc
  rw[wrap_i64 (by omega) (by omega)]
  refine⟨by omega,by omega,hp0 i.toNat (by omega),if_cond (fun h=>Lf_i ?_) (fun h=>⟨⟨by omega,by omega,upto_no (p:=fun j=>boolOf (p [daUndo (List.getD l j zUndo)])) h1 hR h⟩,by simp only[Zm221_2];omega⟩)⟩
  rw[idxI_found (i:=i.toNat) (by omega) h (fun j hj=>hR j (by omega))]
  omega
 ·have hc:=of_decide_eq_false hc
  exact Lf_i (idxI_none (fun j hj=>hR j (by omega))).symm
def Zh221:HH:=⟨_,Zo221⟩
def Zk186:Con UU where
 α:=(List DUndo)×(List (DA UU)→Option Value)
 md:=[.ro,.ro]
 of:=oC (oL .eUndo) (o1 oF)
 ds:=fun x=>[dL .eUndo x.1,dF x.2]
 pre:=fun(l,p)=>[∀j:Nat,j<l.length→p [daUndo (List.getD l j zUndo)]=some (.bool (boolOf (p [daUndo (List.getD l j zUndo)])))]
 res:=fun(l,p)=>⟨[.one (.lit (.bool (anyI l.length (fun j=>boolOf (p [daUndo (List.getD l j zUndo)])))))],true,[]⟩
 law:=lC (lL .eUndo) (l1 lF)
def Za186:Zk186.α→Nat→Option (Ann UU):=fun(l,p)=>annL []
def Zu186:=us [Zh221]
theorem Zv186(l:(List DUndo))(p:(List (DA UU)→Option Value)):goal EE Zu186 Go.Proofs.Tryz.f186 Zk186 Za186 (l,p)=(let x0:Int:=idxI (l.length) fun(j:Nat)=>boolOf (p [daUndo (List.getD l j zUndo)]);
(∀(j:Nat),j<List.length l→p [daUndo (List.getD l j zUndo)]=some (Value.bool (boolOf (p [daUndo (List.getD l j zUndo)]))))∧Lf [DV.one (Cell.lit (Value.bool (decide (x0≥(0:Int)))))] [DV.one (Cell.lit (Value.bool (anyI (List.length l) fun(j:Nat)=>boolOf (p [daUndo (List.getD l j zUndo)]))))]):=by kernel_rfl
theorem Zo186:Holds EE (186,Zk186):=by
 refine holds_of EE_ok Go.Proofs.Tryz.func186 Zk186 (by kernel_rfl) Zu186 (us_ok _) Za186 (fun x hp hb=> ?_)
 obtain⟨l,p⟩:=x
 have hl_l:l.length≤9223372036854775807:=bdL (hb _ m0)
 have hp0:∀j:Nat,j<l.length→p [daUndo (List.getD l j zUndo)]=some (.bool (boolOf (p [daUndo (List.getD l j zUndo)]))):=hp _ m0
 clear hp hb
 rw[Zv186 l p]
 dsimp only
 exact⟨hp0,Lf_b (by rw[←idxI_ge])⟩
def Zh186:HH:=⟨_,Zo186⟩
def Zk122:Con UU where
 α:=ByteArray
 md:=[.ro]
 of:=o1 oS
 ds:=fun x=>[dS x]
 pre:=fun _=>[]
 res:=fun s=>⟨[.one (.lit (.bool (decide (1≤s.size∧s.size≤200))))],true,[]⟩
 law:=l1 lS
def Za122:Zk122.α→Nat→Option (Ann UU):=fun s=>annL []
def Zu122:=us [Zh56]
theorem Zv122(s:ByteArray):goal EE Zu122 Go.Proofs.Tryz.f122 Zk122 Za122 s=(Lb (decide ((1:Int)≤(↑(ByteArray.size s):Int)∧(↑(ByteArray.size s):Int)≤(200:Int))) (decide ((1:Nat)≤ByteArray.size s∧ByteArray.size s≤(200:Nat)))):=by kernel_rfl
theorem Zo122:Holds EE (122,Zk122):=by
 refine holds_of EE_ok Go.Proofs.Tryz.func122 Zk122 (by kernel_rfl) Zu122 (us_ok _) Za122 (fun(s:ByteArray) hp hb=> ?_)
 have hl_s:=bdS (s:=s) (hb _ m0)
 clear hp hb
 rw[Zv122 s]
 refine Lf_b ?_
 rw[decide_eq_decide];omega
def Zh122:HH:=⟨_,Zo122⟩
def Zk187:Con UU where
 α:=DUndo×ByteArray
 md:=[.ro,.ro]
 of:=fun|[.agg [.lit (.string a0),.lit (.string a1),.sl .eVal a2],.ptr [.lit (.string a3)]]=>some (⟨a0,⟨a1,a2⟩⟩,a3)|_=>none
 ds:=fun(x,c)=>[.agg [.lit (.string x.Key),.lit (.string x.F.Kind),.sl .eVal x.F.Fields],.ptr [.lit (.string c)]]
 pre:=fun(x,c)=>[]
 res:=fun(x,c)=>⟨[.one (.lit (.bool (decide (x.Key=c))))],true,[]⟩
 law:=by intro l x h;(try simp only at h);split at h<;>cases h;rfl
def Za187:Zk187.α→Nat→Option (Ann UU):=fun(x,c)=>annL []
def Zu187:List (FuncId×Con UU):=[]
theorem Zv187(x:DUndo)(c:ByteArray):goal EE Zu187 Go.Proofs.Tryz.f187 Zk187 Za187 (x,c)=(Lb (ByteArray.toList x.Key==ByteArray.toList c) (decide (x.Key=c))):=by kernel_rfl
theorem Zo187:Holds EE (187,Zk187):=by
 refine holds_of EE_ok Go.Proofs.Tryz.func187 Zk187 (by kernel_rfl) Zu187 all_nil Za187 (fun x hp hb=> ?_)
 obtain⟨x,c⟩:=x
 have hb_x:BdDV (U:=UU) (.agg [.lit (.string x.Key),.lit (.string x.F.Kind),.sl .eVal x.F.Fields]):=hb _ (List.mem_cons_self)
 have hl_x_Key:x.Key.size≤9223372036854775807:=Bd.str (hb_x _ (by simp))
 have hl_x_F_Kind:x.F.Kind.size≤9223372036854775807:=Bd.str (hb_x _ (by simp))
 have hl_x_F_Fields:x.F.Fields.length≤9223372036854775807:=Bd.len (U:=UU) (τ:=.eVal) (xs:=x.F.Fields) (hb_x _ (by simp))
 have hb_c:BdDV (U:=UU) (.ptr [.lit (.string c)]):=hb _ (List.mem_cons_of_mem _ (List.mem_cons_self))
 have hl_c:c.size≤9223372036854775807:=Bd.str (hb_c _ (by simp))
 clear hp hb
 rw[Zv187 x c]
 rw[toList_beq]
 exact Lf_rfl _
def Zh187:HH:=⟨_,Zo187⟩
def Zk123:Con UU where
 α:=(List DUndo)×ByteArray
 md:=[.ro,.ro]
 of:=oC (oL .eUndo) (o1 oS)
 ds:=fun x=>[dL .eUndo x.1,dS x.2]
 pre:=fun _=>[]
 res:=fun(l,key)=>⟨[.one (.lit (.bool (hasKey l key)))],true,[]⟩
 law:=lC (lL .eUndo) (l1 lS)
def Za123:Zk123.α→Nat→Option (Ann UU):=fun(l,key)=>annL []
def Zu123:=us [Zh186,Zh187]
theorem Zv123(l:(List DUndo))(key:ByteArray):goal EE Zu123 Go.Proofs.Tryz.f123 Zk123 Za123 (l,key)=((∀(j:Nat),j<l.length→closP Zk187 [DV.ptr [Cell.lit (Value.string key)]] [daUndo (List.getD l j zUndo)]=some (Value.bool (boolOf (closP Zk187 [DV.ptr [Cell.lit (Value.string key)]] [daUndo (List.getD l j zUndo)]))))∧Lb (anyI (l.length) fun(j:Nat)=>boolOf (closP Zk187 [DV.ptr [Cell.lit (Value.string key)]] [daUndo (List.getD l j zUndo)])) (hasKey l key)):=by kernel_rfl
theorem Zo123:Holds EE (123,Zk123):=by
 refine holds_of EE_ok Go.Proofs.Tryz.func123 Zk123 (by kernel_rfl) Zu123 (us_ok _) Za123 (fun x hp hb=> ?_)
 obtain⟨l,key⟩:=x
 have hl_l:l.length≤9223372036854775807:=bdL (hb _ m0)
 have hl_key:=bdS (s:=key) (hb _ m1)
 clear hp hb
 rw[Zv123 l key]
 have hc:∀x:DUndo,closP Zk187 [.ptr [.lit (.string key)]] [daUndo x]=some (.bool (decide (x.Key=key))):=fun x=>closP_of (x:=(x,key)) rfl rfl rfl rfl (by simp[Zk187])
 refine⟨fun j hj=> ?_,Lf_b ?_⟩
 ·show closP Zk187 [.ptr [.lit (.string key)]] [daUndo (List.getD l j zUndo)]=_
  rw[hc];rfl
 ·exact anyI_congr fun j hj=>by
   show boolOf (closP Zk187 [.ptr [.lit (.string key)]] [daUndo (List.getD l j zUndo)])=_
   rw[hc];rfl
def Zh123:HH:=⟨_,Zo123⟩
def Zk55:Con UU where
 α:=(List DUndo)
 md:=[.ro]
 of:=o1 (oL .eUndo)
 ds:=fun x=>[dL .eUndo x]
 pre:=fun _=>[]
 res:=fun l=>⟨[.one (.lit (.bool (undosOk l)))],true,[]⟩
 law:=l1 (lL .eUndo)
def Zi55_4(l:(List DUndo)):Int×Unit→Prop:=fun(i,_)=>0≤i∧i≤l.length∧l.length≤30∧∀j:Nat,(j:Int)<i→undoAt l j=true
def Zm55_4(l:(List DUndo)):Int×Unit→Nat:=fun(i,_)=>l.length-i.toNat
def Za55:Zk55.α→Nat→Option (Ann UU):=fun l=>annL [(4,annOf [.slot 10 (10,1024) (.lit (.int .i64))] (fun _=>Zi55_4 l) (Zm55_4 l))]
def Zu55:=us [Zh122,Zh117,Zh123]
theorem Zv55(l:(List DUndo)):goal EE Zu55 Go.Proofs.Tryz.f55 Zk55 Za55 l=(let x0:Int:=(l.length:Int);
let x1:Int:=Option.getD none (0:Int);
bif decide (x0>(30:Int)) then Lf [DV.one (Cell.lit (Value.bool false))] [DV.one (Cell.lit (Value.bool (undosOk l)))]
else
 Zi55_4 l ((0:Int),PUnit.unit)∧
  ∀(y:Int×PUnit),
   let x2:Int:=Option.getD (some y.1) x0;
   Zi55_4 l y→bif decide (y.1<x0) then(0:Int)≤y.1∧Int.toNat y.1<List.length l∧bif !decide ((1:Nat)≤ByteArray.size (List.getD l (Int.toNat y.1) zUndo).Key∧ByteArray.size (List.getD l (Int.toNat y.1) zUndo).Key≤(200:Nat)) then Lf [DV.one (Cell.lit (Value.bool false))] [DV.one (Cell.lit (Value.bool (undosOk l)))] else bif !factOk (List.getD l (Int.toNat y.1) zUndo).F then Lf [DV.one (Cell.lit (Value.bool false))] [DV.one (Cell.lit (Value.bool (undosOk l)))] else(0:Int)≤x1∧x1≤x2∧x2≤x0∧bif hasKey (List.drop (Int.toNat x1) (List.take (Int.toNat x2) l)) (List.getD l (Int.toNat y.1) zUndo).Key then Lf [DV.one (Cell.lit (Value.bool false))] [DV.one (Cell.lit (Value.bool (undosOk l)))] else Zi55_4 l (IntKind.wrap IntKind.i64 (y.1+(1:Int)),PUnit.unit)∧Zm55_4 l (IntKind.wrap IntKind.i64 (y.1+(1:Int)),PUnit.unit)<Zm55_4 l y else Lf [DV.one (Cell.lit (Value.bool true))] [DV.one (Cell.lit (Value.bool (undosOk l)))]):=by kernel_rfl
theorem Zo55:Holds EE (55,Zk55):=by
 refine holds_of EE_ok Go.Proofs.Tryz.func55 Zk55 (by kernel_rfl) Zu55 (us_ok _) Za55 (fun(l:(List DUndo)) hp hb=> ?_)
 have hl_l:l.length≤9223372036854775807:=bdL (hb _ m0)
 clear hp hb
 rw[Zv55 l]
 dsimp only
 refine if_cond (fun h=>Lf_ff ?_) (fun h=>⟨⟨by omega,by omega,by have h:=of_decide_eq_false h;omega,by intro j hj;omega⟩,?_⟩)
 ·have h:=of_decide_eq_true h;simp only[undosOk];rw[decide_eq_false (by omega)];rfl
 rintro⟨i,⟨⟩⟩ ⟨h1,h2,h3,hR⟩
 simp only
 refine if_cond (fun hc=> ?_) (fun hc=> ?_)
 ·have hc:=of_decide_eq_true hc
  have hN:undoAt l i.toNat=false→undosOk l=false:=fun h=>by
   have hf:allI l.length (undoAt l)=false:=allI_false (j:=i.toNat) (by omega) h
   simp only[undosOk,hf];simp
  have hk:hasKey (List.drop (Int.toNat 0) (List.take i.toNat l)) (List.getD l i.toNat zUndo).Key=anyI i.toNat fun k=>decide ((List.getD l k zUndo).Key=(List.getD l i.toNat zUndo).Key):=by
   show anyI _ _=_
   have e:(List.take i.toNat l).length=i.toNat:=by rw[List.length_take];omega
   rw[show Int.toNat 0=0 from rfl,List.drop_zero,e]
   exact anyI_congr fun j hj=>by rw[getD_take l zUndo hj]
  simp only[Option.getD_none,Option.getD_some,hk]
  simp(disch:=omega) only[wrap_i64]
  have hm:Zm55_4 l (i+1,PUnit.unit)<Zm55_4 l (i,()):=by simp only[Zm55_4];omega
  refine⟨by omega,by omega,if_cond (fun h=>Lf_ff (hN ?_)) (fun h=>if_cond (fun h'=>Lf_ff (hN ?_)) (fun h'=>⟨by omega,by omega,by omega,if_cond (fun h''=>Lf_ff (hN ?_)) (fun h''=>⟨⟨by omega,by omega,h3,upto_step h1 hR ?_⟩,hm⟩)⟩))⟩
  all_goals (simp only[undoAt];grind)
 ·have hc:=of_decide_eq_false hc
  have hA:allI l.length (undoAt l)=true:=allI_true fun j hj=>hR j (by omega)
  refine Lf_b ?_
  simp only[undosOk,hA];grind
def Zh55:HH:=⟨_,Zo55⟩
def Zk39:Con UU where
 α:=(List DUndo)
 md:=[.ro]
 of:=o1 (oL .eUndo)
 ds:=fun x=>[dL .eUndo x]
 pre:=fun _=>[]
 res:=fun l=>⟨[.one (.lit (.bool (undosOk l)))],true,[]⟩
 law:=l1 (lL .eUndo)
def Zi39_2(l:(List DUndo)):Int×Unit→Prop:=fun(i,_)=>0≤i∧i≤l.length∧∀j:Nat,(j:Int)<i→undoAt l j=true
def Zm39_2(l:(List DUndo)):Int×Unit→Nat:=fun(i,_)=>l.length-i.toNat
def Zi39_7(l:(List DUndo)):Int×Int×Unit→Int×Int×Unit→Prop:=fun(i0,k0,_) (i,k,_)=>i=i0∧0≤k∧k≤i∧∀j:Nat,(j:Int)<k→decide ((List.getD l j zUndo).Key=(List.getD l i.toNat zUndo).Key)=false
def Zm39_7(l:(List DUndo)):Int×Int×Unit→Nat:=fun(i,k,_)=>i.toNat-k.toNat
def Za39:Zk39.α→Nat→Option (Ann UU):=fun l=>annL [(2,annOf [.slot 3 (3,1024) (.lit (.int .i64))] (fun _=>Zi39_2 l) (Zm39_2 l)),(7,annOf [.slot 3 (3,1024) (.lit (.int .i64)),.slot 4 (4,1024) (.lit (.int .i64))] (Zi39_7 l) (Zm39_7 l))]
def Zu39:=us [Zh40,Zh104]
theorem Zv39(l:(List DUndo)):goal EE Zu39 Go.Proofs.Tryz.f39 Zk39 Za39 l=(let x0:Int:=(l.length:Int);
Zi39_2 l ((0:Int),PUnit.unit)∧
 ∀(y:Int×PUnit),
  Zi39_2 l y→
   bif decide (y.1<x0) then
    (0:Int)≤y.1∧
     Int.toNat y.1<List.length l∧
      bif !decide ((1:Int)≤(↑(ByteArray.size (List.getD l (Int.toNat y.1) zUndo).Key):Int)∧(↑(ByteArray.size (List.getD l (Int.toNat y.1) zUndo).Key):Int)≤(200:Int)) then Lf [DV.one (Cell.lit (Value.bool false))] [DV.one (Cell.lit (Value.bool (undosOk l)))]
      else
       (0:Int)≤y.1∧
        Int.toNat y.1<List.length l∧
         bif !factOk (List.getD l (Int.toNat y.1) zUndo).F then Lf [DV.one (Cell.lit (Value.bool false))] [DV.one (Cell.lit (Value.bool (undosOk l)))]
         else
          Zi39_7 l (y.1,(0:Int),PUnit.unit) (y.1,(0:Int),PUnit.unit)∧
           ∀(y_1:Int×Int×PUnit),
            let x1:Nat:=Int.toNat y_1.2.1;
            Zi39_7 l (y.1,(0:Int),PUnit.unit) y_1→bif decide (y_1.2.1<y_1.1) then(0:Int)≤y_1.1∧Int.toNat y_1.1<List.length l∧(0:Int)≤y_1.2.1∧x1<List.length l∧bif ByteArray.toList (List.getD l (Int.toNat y_1.1) zUndo).Key==ByteArray.toList (List.getD l x1 zUndo).Key then Lf [DV.one (Cell.lit (Value.bool false))] [DV.one (Cell.lit (Value.bool (undosOk l)))] else Zi39_7 l (y.1,(0:Int),PUnit.unit) (y_1.1,IntKind.wrap IntKind.i64 (y_1.2.1+(1:Int)),PUnit.unit)∧Zm39_7 l (y_1.1,IntKind.wrap IntKind.i64 (y_1.2.1+(1:Int)),PUnit.unit)<Zm39_7 l y_1 else Zi39_2 l (IntKind.wrap IntKind.i64 (y_1.1+(1:Int)),PUnit.unit)∧Zm39_2 l (IntKind.wrap IntKind.i64 (y_1.1+(1:Int)),PUnit.unit)<Zm39_2 l y
   else Lf [DV.one (Cell.lit (Value.bool (decide (x0≤(30:Int)))))] [DV.one (Cell.lit (Value.bool (undosOk l)))]):=by kernel_rfl
theorem Zo39:Holds EE (39,Zk39):=by
 refine holds_of EE_ok Go.Proofs.Tryz.func39 Zk39 (by kernel_rfl) Zu39 (us_ok _) Za39 (fun(l:(List DUndo)) hp hb=> ?_)
 have hl_l:l.length≤9223372036854775807:=bdL (hb _ m0)
 clear hp hb
 rw[Zv39 l]
 dsimp only
 refine⟨⟨by omega,by omega,by intro j hj;omega⟩,?_⟩
 rintro⟨i,⟨⟩⟩ ⟨h1,h2,hR⟩
 simp only
 refine if_cond (fun hc=> ?_) (fun hc=> ?_)
 ·have hc:=of_decide_eq_true hc
  have hN:undoAt l i.toNat=false→undosOk l=false:=fun h=>by
   have hf:allI l.length (undoAt l)=false:=allI_false (j:=i.toNat) (by omega) h
   simp only[undosOk,hf];simp
  have hm:Zm39_2 l (i+1,PUnit.unit)<Zm39_2 l (i,()):=by simp only[Zm39_2];omega
  refine⟨by omega,by omega,if_cond (fun h=>Lf_ff (hN ?_)) (fun h=>⟨by omega,by omega,if_cond (fun h'=>Lf_ff (hN ?_)) (fun h'=>⟨⟨rfl,by omega,by omega,by intro j hj;omega⟩,?_⟩)⟩)⟩
  ·simp only[undoAt];grind
  ·simp only[undoAt];grind
  rintro⟨i,k,⟨⟩⟩ ⟨rfl,g1,g2,gR⟩
  simp only
  refine if_cond (fun hk=> ?_) (fun hk=> ?_)
  ·have hk:=of_decide_eq_true hk
   simp(disch:=omega) only[wrap_i64,toList_beq]
   refine⟨by omega,by omega,by omega,by omega,if_cond (fun h''=>Lf_ff (hN ?_)) (fun h''=>⟨⟨rfl,by omega,by omega,upto_no g1 gR ?_⟩,by simp only[Zm39_7];omega⟩)⟩
   ·have ha:(anyI i.toNat fun k=>decide ((List.getD l k zUndo).Key=(List.getD l i.toNat zUndo).Key))=true:=anyI_true (j:=k.toNat) (by omega) (by grind)
    simp only[undoAt,ha];simp
   ·grind
  ·have hk:=of_decide_eq_false hk
   simp(disch:=omega) only[wrap_i64]
   refine⟨⟨by omega,by omega,upto_step h1 hR ?_⟩,hm⟩
   have ha:(anyI i.toNat fun k=>decide ((List.getD l k zUndo).Key=(List.getD l i.toNat zUndo).Key))=false:=anyI_false fun j hj=>gR j (by omega)
   simp only[undoAt,ha];grind
 ·have hc:=of_decide_eq_false hc
  have hA:allI l.length (undoAt l)=true:=allI_true fun j hj=>hR j (by omega)
  refine Lf_b ?_
  simp only[undosOk,hA];grind
def Zh39:HH:=⟨_,Zo39⟩
def Zk222:Con UU where
 α:=(List DVal)
 md:=[.ro]
 of:=o1 (oL .eVal)
 ds:=fun x=>[dL .eVal x]
 pre:=fun l=>[l.length≤4294967296]
 res:=fun l=>⟨[.one (.sl .eVal l)],true,[]⟩
 law:=l1 (lL .eVal)
def Za222:Zk222.α→Nat→Option (Ann UU):=fun l=>annL []
def Zu222:List (FuncId×Con UU):=[]
theorem Zv222(l:(List DVal)):goalN EE Zu222 Go.Proofs.Tryz.f222 Zk222 Za222 l .eVal l false=((0:Nat)+l.length≤(4294967296:Nat)∧Lf [DV.one (Cell.sl Cd.eVal ([]++l))] [DV.one (Cell.sl Cd.eVal l)]):=by kernel_rfl
theorem Zw222:goalN EE Zu222 Go.Proofs.Tryz.f222 Zk222 Za222 [] .eVal [] true=(Lf [DV.one (Cell.sl Cd.eVal [])] [DV.one (Cell.sl Cd.eVal [])]):=by kernel_rfl
theorem Zx222:goalN EE Zu222 Go.Proofs.Tryz.f222 Zk222 Za222 [] .eVal [] true:=by
 rw[Zw222]
 exact Lf_rfl _
theorem Zo222:Holds EE (222,Zk222):=by
 refine holds_ofN EE_ok Go.Proofs.Tryz.func222 Zk222 (by kernel_rfl) rfl .eVal (fun x=>x) (fun _=>rfl) Zu222 all_nil Za222 (fun(l:(List DVal)) hp hb=> ?_)
 have hl_l:l.length≤9223372036854775807:=bdL (hb _ m0)
 have hp0:l.length≤4294967296:=hp _ m0
 clear hp hb
 refine⟨?_,fun h0=> ?_⟩
 rotate_left
 ·subst h0;exact Zx222
 rw[Zv222 l]
 exact⟨by simp;omega,Lf_rfl _⟩
def Zh222:HH:=⟨_,Zo222⟩
def Zk167:Con UU where
 α:=DFact
 md:=[.ro]
 of:=o1 (oA .eFact)
 ds:=fun x=>[dA .eFact x]
 pre:=fun f=>[f.Fields.length≤4294967296]
 res:=fun f=>⟨[.agg [.lit (.string f.Kind),.sl .eVal f.Fields]],true,[]⟩
 law:=l1 (lA .eFact)
def Za167:Zk167.α→Nat→Option (Ann UU):=fun f=>annL []
def Zu167:List (FuncId×Con UU):=[]
theorem Zv167(f:DFact):goal EE Zu167 Go.Proofs.Tryz.f167 Zk167 Za167 f=((0:Nat)+f.Fields.length≤(4294967296:Nat)∧Lf [DV.agg [Cell.lit (Value.string f.Kind),Cell.sl Cd.eVal ([]++f.Fields)]] [DV.agg [Cell.lit (Value.string f.Kind),Cell.sl Cd.eVal f.Fields]]):=by kernel_rfl
theorem Zo167:Holds EE (167,Zk167):=by
 refine holds_of EE_ok Go.Proofs.Tryz.func167 Zk167 (by kernel_rfl) Zu167 all_nil Za167 (fun(f:DFact) hp hb=> ?_)
 have hz0:=bd_eFact (x:=f) (hb _ m0)
 have hl_f_Kind:=hz0.1
 have hl_f_Fields:=hz0.2
 have hp0:f.Fields.length≤4294967296:=hp _ m0
 clear hp hb
 rw[Zv167 f]
 exact⟨by simp;omega,Lf_rfl _⟩
def Zh167:HH:=⟨_,Zo167⟩
def Zk188:Con UU where
 α:=DFact
 md:=[.ro]
 of:=o1 (oA .eFact)
 ds:=fun x=>[dA .eFact x]
 pre:=fun f=>[f.Fields.length≤4294967296]
 res:=fun f=>⟨[.agg [.lit (.string f.Kind),.sl .eVal f.Fields]],true,[]⟩
 law:=l1 (lA .eFact)
def Za188:Zk188.α→Nat→Option (Ann UU):=fun f=>annL []
def Zu188:=us [Zh222]
theorem Zv188(f:DFact):goal EE Zu188 Go.Proofs.Tryz.f188 Zk188 Za188 f=(f.Fields.length≤(4294967296:Nat)∧Lf [DV.agg [Cell.lit (Value.string f.Kind),Cell.sl Cd.eVal f.Fields]] [DV.agg [Cell.lit (Value.string f.Kind),Cell.sl Cd.eVal f.Fields]]):=by kernel_rfl
theorem Zo188:Holds EE (188,Zk188):=by
 refine holds_of EE_ok Go.Proofs.Tryz.func188 Zk188 (by kernel_rfl) Zu188 (us_ok _) Za188 (fun(f:DFact) hp hb=> ?_)
 have hz0:=bd_eFact (x:=f) (hb _ m0)
 have hl_f_Kind:=hz0.1
 have hl_f_Fields:=hz0.2
 have hp0:f.Fields.length≤4294967296:=hp _ m0
 clear hp hb
 rw[Zv188 f]
 exact⟨hp0,Lf_rfl _⟩
def Zh188:HH:=⟨_,Zo188⟩
def undoOk(s:ByteArray):Bool:=decide (s=noBytes)||nameOk s
def taskOk(t:DTask):Bool:=factOk t.F&&undoOk t.Undo&&decide (1≤t.State∧t.State≤4)&&decide (0≤t.Tries∧t.Tries≤4)&&decide (0≤t.Due∧t.Due≤1000001000)&&(decide (t.V=zVal)||valOk t.V)&&decide ((t.State=1→t.Tries=0)∧(t.State=2→t.Tries≠0))
def taskAt(l:List DTask)(i:Nat):Bool:=taskOk (List.getD l i zTask)&& !(anyI i fun k=>decide ((List.getD l k zTask).F=(List.getD l i zTask).F))
def tasksOk(l:List DTask):Bool:=decide (l.length≤30)&&allI l.length (taskAt l)
def placeOf(l:List DTask)(f:DFact):Int:=idxI l.length fun k=>decide ((List.getD l k zTask).F=f)
def isOpen(t:DTask):Bool:=decide (t.State=1∨t.State=2)
def daTask(x:DTask):DA UU:=⟨true,[.lit (.string x.F.Kind),.sl .eVal x.F.Fields,.lit (.string x.Undo),.lit (.int .i64 x.State),.lit (.int .i64 x.Tries),.lit (.int .i64 x.Due),.lit (.int .i64 x.V.K),.lit (.int .i64 x.V.N),.lit (.string x.V.S)]⟩
theorem fact_ext{a b:DFact}:a=b↔a.Kind=b.Kind∧a.Fields=b.Fields:=by
 obtain⟨k,f⟩:=a;obtain⟨k',f'⟩:=b;simp
def Zk166:Con UU where
 α:=(List DVal)×(List DVal)
 md:=[.ro,.ro]
 of:=oC (oL .eVal) (o1 (oL .eVal))
 ds:=fun x=>[dL .eVal x.1,dL .eVal x.2]
 pre:=fun _=>[]
 res:=fun(a,b)=>⟨[.one (.lit (.bool (decide (a=b))))],true,[]⟩
 law:=lC (lL .eVal) (l1 (lL .eVal))
def Zi166_4(a:(List DVal))(b:(List DVal)):Int×Unit→Prop:=fun(i,_)=>0≤i∧i≤a.length∧a.length=b.length∧(a.drop i.toNat=b.drop i.toNat↔a=b)
def Zm166_4(a:(List DVal))(b:(List DVal)):Int×Unit→Nat:=fun(i,_)=>a.length-i.toNat
def Za166:Zk166.α→Nat→Option (Ann UU):=fun(a,b)=>annL [(4,annOf [.slot 5 (5,1024) (.lit (.int .i64))] (fun _=>Zi166_4 a b) (Zm166_4 a b))]
def Zu166:List (FuncId×Con UU):=[]
theorem Zv166(a:(List DVal))(b:(List DVal)):goal EE Zu166 Go.Proofs.Tryz.f166 Zk166 Za166 (a,b)=(bif (a.length:Int) !=(b.length:Int) then Lb false (decide (a=b))
else
 Zi166_4 a b ((0:Int),PUnit.unit)∧
  ∀(y:Int×PUnit),
   let x0:DVal:=List.getD a (Int.toNat y.1) zVal;
   let x1:DVal:=List.getD b (Int.toNat y.1) zVal;
   Zi166_4 a b y→bif decide (y.1<(↑(List.length a):Int)) then(0:Int)≤y.1∧Int.toNat y.1<List.length a∧(0:Int)≤y.1∧Int.toNat y.1<List.length b∧bif !(x0.K==x1.K&&(x0.N==x1.N&&(ByteArray.toList x0.S==ByteArray.toList x1.S&&true))) then Lf [DV.one (Cell.lit (Value.bool false))] [DV.one (Cell.lit (Value.bool (decide (a=b))))] else Zi166_4 a b (IntKind.wrap IntKind.i64 (y.1+(1:Int)),PUnit.unit)∧Zm166_4 a b (IntKind.wrap IntKind.i64 (y.1+(1:Int)),PUnit.unit)<Zm166_4 a b y else Lf [DV.one (Cell.lit (Value.bool true))] [DV.one (Cell.lit (Value.bool (decide (a=b))))]):=by kernel_rfl
theorem Zo166:Holds EE (166,Zk166):=by
 refine holds_of EE_ok Go.Proofs.Tryz.func166 Zk166 (by kernel_rfl) Zu166 all_nil Za166 (fun x hp hb=> ?_)
 obtain⟨a,b⟩:=x
 have hl_a:a.length≤9223372036854775807:=bdL (hb _ m0)
 have hl_b:b.length≤9223372036854775807:=bdL (hb _ m1)
 clear hp hb
 rw[Zv166 a b]
 dsimp only
 refine if_cond (fun h=>Lf_f ?_) (fun h=>⟨?_,?_⟩)
 ·rintro rfl;simp at h
 ·simp[Zi166_4] at*;omega
 rintro⟨i,⟨⟩⟩ ⟨h1,h2,h3,hR⟩
 simp only at*
 refine if_cond (fun hc=> ?_) (fun hc=> ?_)
 ·have hc:i<a.length:=by simpa using hc
  rw[drop_step a zVal h1 hc,drop_step b zVal h1 (by omega)] at hR
  rw[wrap_i64 (by omega) (by omega)]
  simp only[val_beq]
  refine⟨by omega,by omega,by omega,by omega,if_cond (fun h=>Lf_f ?_) (fun h=>⟨⟨by omega,by omega,h3,?_⟩,?_⟩)⟩
  ·rw[←hR];simp at h;simp[h]
  ·rw[←hR];simp at h;simp[h]
  ·simp only[Zm166_4];omega
 ·have hc:a.length≤i:=by simpa using hc
  rw[drop_end a hc,drop_end b (by omega)] at hR
  exact Lf_t (hR.1 rfl)
def Zh166:HH:=⟨_,Zo166⟩
def Zk183:Con UU where
 α:=(List DVal)×(List DVal)
 md:=[.ro,.ro]
 of:=oC (oL .eVal) (o1 (oL .eVal))
 ds:=fun x=>[dL .eVal x.1,dL .eVal x.2]
 pre:=fun _=>[]
 res:=fun(a,b)=>⟨[.one (.lit (.bool (decide (a=b))))],true,[]⟩
 law:=lC (lL .eVal) (l1 (lL .eVal))
def Zi183_4(a:(List DVal))(b:(List DVal)):Int×Unit→Prop:=fun(i,_)=>0≤i∧i≤a.length∧a.length=b.length∧(a.drop i.toNat=b.drop i.toNat↔a=b)
def Zm183_4(a:(List DVal))(b:(List DVal)):Int×Unit→Nat:=fun(i,_)=>a.length-i.toNat
def Za183:Zk183.α→Nat→Option (Ann UU):=fun(a,b)=>annL [(4,annOf [.slot 13 (13,1024) (.lit (.int .i64))] (fun _=>Zi183_4 a b) (Zm183_4 a b))]
def Zu183:List (FuncId×Con UU):=[]
theorem Zv183(a:(List DVal))(b:(List DVal)):goal EE Zu183 Go.Proofs.Tryz.f183 Zk183 Za183 (a,b)=(bif (a.length:Int) !=(b.length:Int) then Lb false (decide (a=b))
else
 Zi183_4 a b ((0:Int),PUnit.unit)∧
  ∀(y:Int×PUnit),
   let x0:DVal:=List.getD b (Int.toNat y.1) zVal;
   let x1:DVal:=List.getD a (Int.toNat y.1) zVal;
   Zi183_4 a b y→bif decide (y.1<(↑(List.length a):Int)) then(0:Int)≤y.1∧Int.toNat y.1<List.length a∧(0:Int)≤y.1∧Int.toNat y.1<List.length b∧bif !(x1.K==x0.K&&(x1.N==x0.N&&(ByteArray.toList x1.S==ByteArray.toList x0.S&&true))) then Lf [DV.one (Cell.lit (Value.bool false))] [DV.one (Cell.lit (Value.bool (decide (a=b))))] else Zi183_4 a b (IntKind.wrap IntKind.i64 (y.1+(1:Int)),PUnit.unit)∧Zm183_4 a b (IntKind.wrap IntKind.i64 (y.1+(1:Int)),PUnit.unit)<Zm183_4 a b y else Lf [DV.one (Cell.lit (Value.bool true))] [DV.one (Cell.lit (Value.bool (decide (a=b))))]):=by kernel_rfl
theorem Zo183:Holds EE (183,Zk183):=by
 refine holds_of EE_ok Go.Proofs.Tryz.func183 Zk183 (by kernel_rfl) Zu183 all_nil Za183 (fun x hp hb=> ?_)
 obtain⟨a,b⟩:=x
 have hl_a:a.length≤9223372036854775807:=bdL (hb _ m0)
 have hl_b:b.length≤9223372036854775807:=bdL (hb _ m1)
 clear hp hb
 rw[Zv183 a b]
 dsimp only
 refine if_cond (fun h=>Lf_f ?_) (fun h=>⟨?_,?_⟩)
 ·rintro rfl;simp at h
 ·simp[Zi183_4] at*;omega
 rintro⟨i,⟨⟩⟩ ⟨h1,h2,h3,hR⟩
 simp only at*
 refine if_cond (fun hc=> ?_) (fun hc=> ?_)
 ·have hc:i<a.length:=by simpa using hc
  rw[drop_step a zVal h1 hc,drop_step b zVal h1 (by omega)] at hR
  rw[wrap_i64 (by omega) (by omega)]
  simp only[val_beq]
  refine⟨by omega,by omega,by omega,by omega,if_cond (fun h=>Lf_f ?_) (fun h=>⟨⟨by omega,by omega,h3,?_⟩,?_⟩)⟩
  ·rw[←hR];simp at h;simp[h]
  ·rw[←hR];simp at h;simp[h]
  ·simp only[Zm183_4];omega
 ·have hc:a.length≤i:=by simpa using hc
  rw[drop_end a hc,drop_end b (by omega)] at hR
  exact Lf_t (hR.1 rfl)
def Zh183:HH:=⟨_,Zo183⟩
def Zk107:Con UU where
 α:=DFact×DFact
 md:=[.ro,.ro]
 of:=oC (oA .eFact) (o1 (oA .eFact))
 ds:=fun x=>[dA .eFact x.1,dA .eFact x.2]
 pre:=fun _=>[]
 res:=fun(a,b)=>⟨[.one (.lit (.bool (decide (a=b))))],true,[]⟩
 law:=lC (lA .eFact) (l1 (lA .eFact))
def Za107:Zk107.α→Nat→Option (Ann UU):=fun(a,b)=>annL []
def Zu107:=us [Zh166]
theorem Zv107(a:DFact)(b:DFact):goal EE Zu107 Go.Proofs.Tryz.f107 Zk107 Za107 (a,b)=(bif ByteArray.toList a.Kind==ByteArray.toList b.Kind then Lb (decide (a.Fields=b.Fields)) (decide (a=b)) else Lb false (decide (a=b))):=by kernel_rfl
theorem Zo107:Holds EE (107,Zk107):=by
 refine holds_of EE_ok Go.Proofs.Tryz.func107 Zk107 (by kernel_rfl) Zu107 (us_ok _) Za107 (fun x hp hb=> ?_)
 obtain⟨a,b⟩:=x
 have hz0:=bd_eFact (x:=a) (hb _ m0)
 have hl_a_Kind:=hz0.1
 have hl_a_Fields:=hz0.2
 have hz1:=bd_eFact (x:=b) (hb _ m1)
 have hl_b_Kind:=hz1.1
 have hl_b_Fields:=hz1.2
 clear hp hb
 rw[Zv107 a b]
 simp only[toList_beq]
 refine if_cond (fun h=>Lf_b ?_) (fun h=>Lf_b ?_)<;>(simp only[fact_ext];grind)
def Zh107:HH:=⟨_,Zo107⟩
def Zk118:Con UU where
 α:=DFact×DFact
 md:=[.ro,.ro]
 of:=oC (oA .eFact) (o1 (oA .eFact))
 ds:=fun x=>[dA .eFact x.1,dA .eFact x.2]
 pre:=fun _=>[]
 res:=fun(a,b)=>⟨[.one (.lit (.bool (decide (a=b))))],true,[]⟩
 law:=lC (lA .eFact) (l1 (lA .eFact))
def Za118:Zk118.α→Nat→Option (Ann UU):=fun(a,b)=>annL []
def Zu118:=us [Zh183]
theorem Zv118(a:DFact)(b:DFact):goal EE Zu118 Go.Proofs.Tryz.f118 Zk118 Za118 (a,b)=(bif ByteArray.toList a.Kind==ByteArray.toList b.Kind then Lb (decide (a.Fields=b.Fields)) (decide (a=b)) else Lb false (decide (a=b))):=by kernel_rfl
theorem Zo118:Holds EE (118,Zk118):=by
 refine holds_of EE_ok Go.Proofs.Tryz.func118 Zk118 (by kernel_rfl) Zu118 (us_ok _) Za118 (fun x hp hb=> ?_)
 obtain⟨a,b⟩:=x
 have hz0:=bd_eFact (x:=a) (hb _ m0)
 have hl_a_Kind:=hz0.1
 have hl_a_Fields:=hz0.2
 have hz1:=bd_eFact (x:=b) (hb _ m1)
 have hl_b_Kind:=hz1.1
 have hl_b_Fields:=hz1.2
 clear hp hb
 rw[Zv118 a b]
 simp only[toList_beq]
 refine if_cond (fun h=>Lf_b ?_) (fun h=>Lf_b ?_)<;>(simp only[fact_ext];grind)
def Zh118:HH:=⟨_,Zo118⟩
def Zk164:Con UU where
 α:=ByteArray
 md:=[.ro]
 of:=o1 oS
 ds:=fun x=>[dS x]
 pre:=fun _=>[]
 res:=fun s=>⟨[.one (.lit (.bool (undoOk s)))],true,[]⟩
 law:=l1 lS
def Za164:Zk164.α→Nat→Option (Ann UU):=fun s=>annL []
def Zu164:=us [Zh71]
theorem Zv164(s:ByteArray):goal EE Zu164 Go.Proofs.Tryz.f164 Zk164 Za164 s=(bif ByteArray.toList s==ByteArray.toList {data:= #[]:ByteArray} then Lb true (undoOk s) else Lb (nameOk s) (undoOk s)):=by kernel_rfl
theorem Zo164:Holds EE (164,Zk164):=by
 refine holds_of EE_ok Go.Proofs.Tryz.func164 Zk164 (by kernel_rfl) Zu164 (us_ok _) Za164 (fun(s:ByteArray) hp hb=> ?_)
 have hl_s:=bdS (s:=s) (hb _ m0)
 clear hp hb
 rw[Zv164 s]
 have e:(ByteArray.toList s==ByteArray.toList {data:= #[]})=decide (s=noBytes):=toList_beq _ _
 simp only[e,undoOk]
 refine if_cond (fun h=>Lf_b ?_) (fun h=>Lf_b ?_)<;>grind
def Zh164:HH:=⟨_,Zo164⟩
def Zk184:Con UU where
 α:=ByteArray
 md:=[.ro]
 of:=o1 oS
 ds:=fun x=>[dS x]
 pre:=fun _=>[]
 res:=fun s=>⟨[.one (.lit (.bool (undoOk s)))],true,[]⟩
 law:=l1 lS
def Za184:Zk184.α→Nat→Option (Ann UU):=fun s=>annL []
def Zu184:=us [Zh76]
theorem Zv184(s:ByteArray):goal EE Zu184 Go.Proofs.Tryz.f184 Zk184 Za184 s=(bif ByteArray.toList s==ByteArray.toList {data:= #[]:ByteArray} then Lb true (undoOk s) else Lb (nameOk s) (undoOk s)):=by kernel_rfl
theorem Zo184:Holds EE (184,Zk184):=by
 refine holds_of EE_ok Go.Proofs.Tryz.func184 Zk184 (by kernel_rfl) Zu184 (us_ok _) Za184 (fun(s:ByteArray) hp hb=> ?_)
 have hl_s:=bdS (s:=s) (hb _ m0)
 clear hp hb
 rw[Zv184 s]
 have e:(ByteArray.toList s==ByteArray.toList {data:= #[]})=decide (s=noBytes):=toList_beq _ _
 simp only[e,undoOk]
 refine if_cond (fun h=>Lf_b ?_) (fun h=>Lf_b ?_)<;>grind
def Zh184:HH:=⟨_,Zo184⟩
def Zk106:Con UU where
 α:=DTask
 md:=[.ro]
 of:=o1 (oA .eTask)
 ds:=fun x=>[dA .eTask x]
 pre:=fun _=>[]
 res:=fun t=>⟨[.one (.lit (.bool (taskOk t)))],true,[]⟩
 law:=l1 (lA .eTask)
def Za106:Zk106.α→Nat→Option (Ann UU):=fun t=>annL []
def Zu106:=us [Zh104,Zh164,Zh40,Zh165]
theorem Zv106(t:DTask):goal EE Zu106 Go.Proofs.Tryz.f106 Zk106 Za106 t=(bif !factOk t.F then Lb false (taskOk t) else bif !undoOk t.Undo then Lb false (taskOk t) else bif !decide ((1:Int)≤t.State∧t.State≤(4:Int)) then Lb false (taskOk t) else bif !decide ((0:Int)≤t.Tries∧t.Tries≤(4:Int)) then Lb false (taskOk t) else bif !decide ((0:Int)≤t.Due∧t.Due≤(1000001000:Int)) then Lb false (taskOk t) else bif !(t.V.K==(0:Int)&&(t.V.N==(0:Int)&&(ByteArray.toList t.V.S==ByteArray.toList {data:= #[]:ByteArray}&&true))) then bif !valOk t.V then Lb false (taskOk t) else bif t.State !=(1:Int) then bif t.State !=(2:Int) then Lb true (taskOk t) else Lb ((t.State==(1:Int))==(t.Tries==(0:Int))) (taskOk t) else Lb ((t.State==(1:Int))==(t.Tries==(0:Int))) (taskOk t) else bif t.State !=(1:Int) then bif t.State !=(2:Int) then Lb true (taskOk t) else Lb ((t.State==(1:Int))==(t.Tries==(0:Int))) (taskOk t) else Lb ((t.State==(1:Int))==(t.Tries==(0:Int))) (taskOk t)):=by kernel_rfl
theorem Zo106:Holds EE (106,Zk106):=by
 refine holds_of EE_ok Go.Proofs.Tryz.func106 Zk106 (by kernel_rfl) Zu106 (us_ok _) Za106 (fun(t:DTask) hp hb=> ?_)
 have hz0:=bd_eTask (x:=t) (hb _ m0)
 have hl_t_F_Kind:=hz0.1
 have hl_t_F_Fields:=hz0.2.1
 have hl_t_Undo:=hz0.2.2.1
 have hl_t_V_S:=hz0.2.2.2
 clear hp hb
 rw[Zv106 t]
 have e:∀v:DVal,(v.K==0&&(v.N==0&&(ByteArray.toList v.S==ByteArray.toList {data:= #[]}&&true)))=decide (v=zVal):=fun v=>val_beq v zVal
 simp only[e]
 simp only[taskOk]
 repeat' (refine if_cond (fun h=> ?_) (fun h=> ?_))
 all_goals (refine Lf_b ?_;grind)
def Zh106:HH:=⟨_,Zo106⟩
def Zk119:Con UU where
 α:=DTask
 md:=[.ro]
 of:=o1 (oA .eTask)
 ds:=fun x=>[dA .eTask x]
 pre:=fun _=>[]
 res:=fun t=>⟨[.one (.lit (.bool (taskOk t)))],true,[]⟩
 law:=l1 (lA .eTask)
def Za119:Zk119.α→Nat→Option (Ann UU):=fun t=>annL []
def Zu119:=us [Zh117,Zh184,Zh56,Zh182]
theorem Zv119(t:DTask):goal EE Zu119 Go.Proofs.Tryz.f119 Zk119 Za119 t=(bif !factOk t.F then Lb false (taskOk t) else bif !undoOk t.Undo then Lb false (taskOk t) else bif !decide ((1:Int)≤t.State∧t.State≤(4:Int)) then Lb false (taskOk t) else bif !decide ((0:Int)≤t.Tries∧t.Tries≤(4:Int)) then Lb false (taskOk t) else bif t.State==(1:Int) then bif t.Tries !=(0:Int) then Lb false (taskOk t) else bif t.State==(2:Int) then bif t.Tries==(0:Int) then Lb false (taskOk t) else bif decide ((0:Int)≤t.Due∧t.Due≤(1000001000:Int)) then bif t.V.K==(0:Int)&&(t.V.N==(0:Int)&&(ByteArray.toList t.V.S==ByteArray.toList {data:= #[]:ByteArray}&&true)) then Lb true (taskOk t) else Lb (valOk t.V) (taskOk t) else Lb false (taskOk t) else bif decide ((0:Int)≤t.Due∧t.Due≤(1000001000:Int)) then bif t.V.K==(0:Int)&&(t.V.N==(0:Int)&&(ByteArray.toList t.V.S==ByteArray.toList {data:= #[]:ByteArray}&&true)) then Lb true (taskOk t) else Lb (valOk t.V) (taskOk t) else Lb false (taskOk t) else bif t.State==(2:Int) then bif t.Tries==(0:Int) then Lb false (taskOk t) else bif decide ((0:Int)≤t.Due∧t.Due≤(1000001000:Int)) then bif t.V.K==(0:Int)&&(t.V.N==(0:Int)&&(ByteArray.toList t.V.S==ByteArray.toList {data:= #[]:ByteArray}&&true)) then Lb true (taskOk t) else Lb (valOk t.V) (taskOk t) else Lb false (taskOk t) else bif decide ((0:Int)≤t.Due∧t.Due≤(1000001000:Int)) then bif t.V.K==(0:Int)&&(t.V.N==(0:Int)&&(ByteArray.toList t.V.S==ByteArray.toList {data:= #[]:ByteArray}&&true)) then Lb true (taskOk t) else Lb (valOk t.V) (taskOk t) else Lb false (taskOk t)):=by kernel_rfl
theorem Zo119:Holds EE (119,Zk119):=by
 refine holds_of EE_ok Go.Proofs.Tryz.func119 Zk119 (by kernel_rfl) Zu119 (us_ok _) Za119 (fun(t:DTask) hp hb=> ?_)
 have hz0:=bd_eTask (x:=t) (hb _ m0)
 have hl_t_F_Kind:=hz0.1
 have hl_t_F_Fields:=hz0.2.1
 have hl_t_Undo:=hz0.2.2.1
 have hl_t_V_S:=hz0.2.2.2
 clear hp hb
 rw[Zv119 t]
 have e:∀v:DVal,(v.K==0&&(v.N==0&&(ByteArray.toList v.S==ByteArray.toList {data:= #[]}&&true)))=decide (v=zVal):=fun v=>val_beq v zVal
 simp only[e]
 simp only[taskOk]
 repeat' (refine if_cond (fun h=> ?_) (fun h=> ?_))
 all_goals (refine Lf_b ?_;grind)
def Zh119:HH:=⟨_,Zo119⟩
def Zk127:Con UU where
 α:=(List DTask)×(List (DA UU)→Option Value)
 md:=[.ro,.ro]
 of:=oC (oL .eTask) (o1 oF)
 ds:=fun x=>[dL .eTask x.1,dF x.2]
 pre:=fun(l,p)=>[∀j:Nat,j<l.length→p [daTask (List.getD l j zTask)]=some (.bool (boolOf (p [daTask (List.getD l j zTask)])))]
 res:=fun(l,p)=>⟨[.one (.lit (.int .i64 (idxI l.length (fun j=>boolOf (p [daTask (List.getD l j zTask)])))))],true,[]⟩
 law:=lC (lL .eTask) (l1 lF)
def Zi127_2(l:(List DTask))(p:(List (DA UU)→Option Value)):Int×Unit→Prop:=fun(i,_)=>0≤i∧i≤l.length∧∀j:Nat,(j:Int)<i→boolOf (p [daTask (List.getD l j zTask)])=false
def Zm127_2(l:(List DTask))(p:(List (DA UU)→Option Value)):Int×Unit→Nat:=fun(i,_)=>l.length-i.toNat
def Za127:Zk127.α→Nat→Option (Ann UU):=fun(l,p)=>annL [(2,annOf [.slot 8 (8,1024) (.lit (.int .i64))] (fun _=>Zi127_2 l p) (Zm127_2 l p))]
def Zu127:List (FuncId×Con UU):=[]
theorem Zv127(l:(List DTask))(p:(List (DA UU)→Option Value)):goal EE Zu127 Go.Proofs.Tryz.f127 Zk127 Za127 (l,p)=(Zi127_2 l p ((0:Int),())∧
 ∀(y:Int×PUnit),
  let x1:DTask:=List.getD l (Int.toNat y.1) zTask;
  let x0:Bool:=boolOf (p [{agg:=true,cs:=[Cell.lit (Value.string x1.F.Kind),Cell.sl Cd.eVal x1.F.Fields,Cell.lit (Value.string x1.Undo),Cell.lit (Value.int IntKind.i64 x1.State),Cell.lit (Value.int IntKind.i64 x1.Tries),Cell.lit (Value.int IntKind.i64 x1.Due),Cell.lit (Value.int IntKind.i64 x1.V.K),Cell.lit (Value.int IntKind.i64 x1.V.N),Cell.lit (Value.string x1.V.S)]:DA UU}]);
  Zi127_2 l p y→bif decide (y.1<(↑(List.length l):Int)) then(0:Int)≤y.1∧Int.toNat y.1<List.length l∧p [{agg:=true,cs:=[Cell.lit (Value.string x1.F.Kind),Cell.sl Cd.eVal x1.F.Fields,Cell.lit (Value.string x1.Undo),Cell.lit (Value.int IntKind.i64 x1.State),Cell.lit (Value.int IntKind.i64 x1.Tries),Cell.lit (Value.int IntKind.i64 x1.Due),Cell.lit (Value.int IntKind.i64 x1.V.K),Cell.lit (Value.int IntKind.i64 x1.V.N),Cell.lit (Value.string x1.V.S)]:DA UU}]=some (Value.bool x0)∧bif x0 then Lf [DV.one (Cell.lit (Value.int IntKind.i64 y.1))] [DV.one (Cell.lit (Value.int IntKind.i64 (idxI (List.length l) fun(j:Nat)=>boolOf (p [daTask (List.getD l j zTask)]))))] else Zi127_2 l p (IntKind.wrap IntKind.i64 (y.1+(1:Int)),PUnit.unit)∧Zm127_2 l p (IntKind.wrap IntKind.i64 (y.1+(1:Int)),PUnit.unit)<Zm127_2 l p y else Lf [DV.one (Cell.lit (Value.int IntKind.i64 (-1:Int)))] [DV.one (Cell.lit (Value.int IntKind.i64 (idxI (List.length l) fun(j:Nat)=>boolOf (p [daTask (List.getD l j zTask)]))))]):=by kernel_rfl
theorem Zo127:Holds EE (127,Zk127):=by
 refine holds_of EE_ok Go.Proofs.Tryz.func127 Zk127 (by kernel_rfl) Zu127 all_nil Za127 (fun x hp hb=> ?_)
 obtain⟨l,p⟩:=x
 have hl_l:l.length≤9223372036854775807:=bdL (hb _ m0)
 have hp0:∀j:Nat,j<l.length→p [daTask (List.getD l j zTask)]=some (.bool (boolOf (p [daTask (List.getD l j zTask)]))):=hp _ m0
 clear hp hb
 rw[Zv127 l p]
 dsimp only
 refine⟨⟨by omega,by omega,by intro j hj;omega⟩,?_⟩
 rintro⟨i,⟨⟩⟩ ⟨h1,h2,hR⟩
 simp only[daTask] at*
 refine if_cond (fun hc=> ?_) (fun hc=> ?_)
 ·have hc:=of_decide_eq_true hc
  rw[wrap_i64 (by omega) (by omega)]
  refine⟨by omega,by omega,hp0 i.toNat (by omega),if_cond (fun h=>Lf_i ?_) (fun h=>⟨⟨by omega,by omega,upto_no (p:=fun j=>boolOf (p [daTask (List.getD l j zTask)])) h1 hR h⟩,by simp only[Zm127_2];omega⟩)⟩
  rw[idxI_found (i:=i.toNat) (by omega) h (fun j hj=>hR j (by omega))]
  omega
 ·have hc:=of_decide_eq_false hc
  exact Lf_i (idxI_none (fun j hj=>hR j (by omega))).symm
def Zh127:HH:=⟨_,Zo127⟩
def Zk185:Con UU where
 α:=DTask×DFact
 md:=[.ro,.ro]
 of:=oC (oA .eTask) (o1 (oP .eFact))
 ds:=fun x=>[dA .eTask x.1,dP .eFact x.2]
 pre:=fun _=>[]
 res:=fun(t,f)=>⟨[.one (.lit (.bool (decide (t.F=f))))],true,[]⟩
 law:=lC (lA .eTask) (l1 (lP .eFact))
def Za185:Zk185.α→Nat→Option (Ann UU):=fun(t,f)=>annL []
def Zu185:=us [Zh118]
theorem Zv185(t:DTask)(f:DFact):goal EE Zu185 Go.Proofs.Tryz.f185 Zk185 Za185 (t,f)=(Lb (decide (t.F=f)) (decide (t.F=f))):=by kernel_rfl
theorem Zo185:Holds EE (185,Zk185):=by
 refine holds_of EE_ok Go.Proofs.Tryz.func185 Zk185 (by kernel_rfl) Zu185 (us_ok _) Za185 (fun x hp hb=> ?_)
 obtain⟨t,f⟩:=x
 have hz0:=bd_eTask (x:=t) (hb _ m0)
 have hl_t_F_Kind:=hz0.1
 have hl_t_F_Fields:=hz0.2.1
 have hl_t_Undo:=hz0.2.2.1
 have hl_t_V_S:=hz0.2.2.2
 have hz1:=bdP_eFact (x:=f) (hb _ m1)
 have hl_f_Kind:=hz1.1
 have hl_f_Fields:=hz1.2
 clear hp hb
 rw[Zv185 t f]
 exact Lf_rfl _
def Zh185:HH:=⟨_,Zo185⟩
def Zk120:Con UU where
 α:=(List DTask)×DFact
 md:=[.ro,.ro]
 of:=oC (oL .eTask) (o1 (oA .eFact))
 ds:=fun x=>[dL .eTask x.1,dA .eFact x.2]
 pre:=fun _=>[]
 res:=fun(l,f)=>⟨[.one (.lit (.int .i64 (placeOf l f)))],true,[]⟩
 law:=lC (lL .eTask) (l1 (lA .eFact))
def Za120:Zk120.α→Nat→Option (Ann UU):=fun(l,f)=>annL []
def Zu120:=us [Zh127,Zh185]
theorem Zv120(l:(List DTask))(f:DFact):goal EE Zu120 Go.Proofs.Tryz.f120 Zk120 Za120 (l,f)=((∀(j:Nat),j<l.length→closP Zk185 [DV.ptr [Cell.lit (Value.string f.Kind),Cell.sl Cd.eVal f.Fields]] [daTask (List.getD l j zTask)]=some (Value.bool (boolOf (closP Zk185 [DV.ptr [Cell.lit (Value.string f.Kind),Cell.sl Cd.eVal f.Fields]] [daTask (List.getD l j zTask)]))))∧Li (idxI (l.length) fun(j:Nat)=>boolOf (closP Zk185 [DV.ptr [Cell.lit (Value.string f.Kind),Cell.sl Cd.eVal f.Fields]] [daTask (List.getD l j zTask)])) (placeOf l f)):=by kernel_rfl
theorem Zo120:Holds EE (120,Zk120):=by
 refine holds_of EE_ok Go.Proofs.Tryz.func120 Zk120 (by kernel_rfl) Zu120 (us_ok _) Za120 (fun x hp hb=> ?_)
 obtain⟨l,f⟩:=x
 have hl_l:l.length≤9223372036854775807:=bdL (hb _ m0)
 have hz1:=bd_eFact (x:=f) (hb _ m1)
 have hl_f_Kind:=hz1.1
 have hl_f_Fields:=hz1.2
 clear hp hb
 rw[Zv120 l f]
 have hc:∀x:DTask,closP Zk185 [.ptr [.lit (.string f.Kind),.sl .eVal f.Fields]] [daTask x]=some (.bool (decide (x.F=f))):=fun x=>closP_of (x:=(x,f)) rfl rfl rfl rfl (by simp[Zk185])
 refine⟨fun j hj=> ?_,Lf_i ?_⟩
 ·show closP Zk185 [.ptr [.lit (.string f.Kind),.sl .eVal f.Fields]] [daTask (List.getD l j zTask)]=_
  rw[hc];rfl
 ·exact idxI_congr fun j hj=>by
   show boolOf (closP Zk185 [.ptr [.lit (.string f.Kind),.sl .eVal f.Fields]] [daTask (List.getD l j zTask)])=_
   rw[hc];rfl
def Zh120:HH:=⟨_,Zo120⟩
def Zk53:Con UU where
 α:=(List DTask)
 md:=[.ro]
 of:=o1 (oL .eTask)
 ds:=fun x=>[dL .eTask x]
 pre:=fun _=>[]
 res:=fun l=>⟨[.one (.lit (.bool (tasksOk l)))],true,[]⟩
 law:=l1 (lL .eTask)
def Zi53_4(l:(List DTask)):Int×Unit→Prop:=fun(i,_)=>0≤i∧i≤l.length∧l.length≤30∧∀j:Nat,(j:Int)<i→taskAt l j=true
def Zm53_4(l:(List DTask)):Int×Unit→Nat:=fun(i,_)=>l.length-i.toNat
def Za53:Zk53.α→Nat→Option (Ann UU):=fun l=>annL [(4,annOf [.slot 10 (10,1024) (.lit (.int .i64))] (fun _=>Zi53_4 l) (Zm53_4 l))]
def Zu53:=us [Zh119,Zh120]
theorem Zv53(l:(List DTask)):goal EE Zu53 Go.Proofs.Tryz.f53 Zk53 Za53 l=(let x0:Int:=(l.length:Int);
bif decide (x0>(30:Int)) then Lf [DV.one (Cell.lit (Value.bool false))] [DV.one (Cell.lit (Value.bool (tasksOk l)))] else Zi53_4 l ((0:Int),PUnit.unit)∧∀(y:Int×PUnit),Zi53_4 l y→bif decide (y.1<x0) then(0:Int)≤y.1∧Int.toNat y.1<List.length l∧bif !taskOk (List.getD l (Int.toNat y.1) zTask) then Lf [DV.one (Cell.lit (Value.bool false))] [DV.one (Cell.lit (Value.bool (tasksOk l)))] else bif placeOf l (List.getD l (Int.toNat y.1) zTask).F !=y.1 then Lf [DV.one (Cell.lit (Value.bool false))] [DV.one (Cell.lit (Value.bool (tasksOk l)))] else Zi53_4 l (IntKind.wrap IntKind.i64 (y.1+(1:Int)),PUnit.unit)∧Zm53_4 l (IntKind.wrap IntKind.i64 (y.1+(1:Int)),PUnit.unit)<Zm53_4 l y else Lf [DV.one (Cell.lit (Value.bool true))] [DV.one (Cell.lit (Value.bool (tasksOk l)))]):=by kernel_rfl
theorem Zo53:Holds EE (53,Zk53):=by
 refine holds_of EE_ok Go.Proofs.Tryz.func53 Zk53 (by kernel_rfl) Zu53 (us_ok _) Za53 (fun(l:(List DTask)) hp hb=> ?_)
 have hl_l:l.length≤9223372036854775807:=bdL (hb _ m0)
 clear hp hb
 rw[Zv53 l]
 dsimp only
 refine if_cond (fun h=>Lf_ff ?_) (fun h=>⟨⟨by omega,by omega,by have h:=of_decide_eq_false h;omega,by intro j hj;omega⟩,?_⟩)
 ·have h:=of_decide_eq_true h;simp only[tasksOk];rw[decide_eq_false (by omega)];rfl
 rintro⟨i,⟨⟩⟩ ⟨h1,h2,h3,hR⟩
 simp only
 refine if_cond (fun hc=> ?_) (fun hc=> ?_)
 ·have hc:=of_decide_eq_true hc
  have hN:taskAt l i.toNat=false→tasksOk l=false:=fun h=>by
   have hf:allI l.length (taskAt l)=false:=allI_false (j:=i.toNat) (by omega) h
   simp only[tasksOk,hf];simp
  have hpl:(placeOf l (List.getD l i.toNat zTask).F=i)↔(anyI i.toNat fun k=>decide ((List.getD l k zTask).F=(List.getD l i.toNat zTask).F))=false:=by
   rw[anyI_not]
   unfold placeOf
   rcases idxI_cases l.length (fun k=>decide ((List.getD l k zTask).F=(List.getD l i.toNat zTask).F)) with⟨g1,g2⟩|⟨m,g1,g2,g3,g4⟩
   ·have:=g2 i.toNat (by omega);simp at this
   ·rw[g2]
    constructor
    ·intro e j hj;exact g4 j (by omega)
    ·intro e
     by_cases hm:m<i.toNat
     ·have:=e m hm;rw[g3] at this;cases this
     ·by_cases hm':i.toNat<m
      ·have:=g4 i.toNat hm';simp at this
      ·omega
  simp(disch:=omega) only[wrap_i64]
  have hm:Zm53_4 l (i+1,PUnit.unit)<Zm53_4 l (i,()):=by simp only[Zm53_4];omega
  refine⟨by omega,by omega,if_cond (fun h=>Lf_ff (hN ?_)) (fun h=>if_cond (fun h'=>Lf_ff (hN ?_)) (fun h'=>⟨⟨by omega,by omega,h3,upto_step h1 hR ?_⟩,hm⟩))⟩
  ·simp only[taskAt];grind
  ·have:¬(placeOf l (List.getD l i.toNat zTask).F=i):=by simpa using h'
   rw[hpl] at this
   simp only[taskAt];grind
  ·have:placeOf l (List.getD l i.toNat zTask).F=i:=by simpa using h'
   rw[hpl] at this
   simp only[taskAt,this];grind
 ·have hc:=of_decide_eq_false hc
  have hA:allI l.length (taskAt l)=true:=allI_true fun j hj=>hR j (by omega)
  refine Lf_b ?_
  simp only[tasksOk,hA];grind
def Zh53:HH:=⟨_,Zo53⟩
def Zk37:Con UU where
 α:=(List DTask)
 md:=[.ro]
 of:=o1 (oL .eTask)
 ds:=fun x=>[dL .eTask x]
 pre:=fun _=>[]
 res:=fun l=>⟨[.one (.lit (.bool (tasksOk l)))],true,[]⟩
 law:=l1 (lL .eTask)
def Zi37_2(l:(List DTask)):Int×Unit→Prop:=fun(i,_)=>0≤i∧i≤l.length∧∀j:Nat,(j:Int)<i→taskAt l j=true
def Zm37_2(l:(List DTask)):Int×Unit→Nat:=fun(i,_)=>l.length-i.toNat
def Zi37_7(l:(List DTask)):Int×Int×Unit→Int×Int×Unit→Prop:=fun(i0,k0,_) (i,k,_)=>i=i0∧0≤k∧k≤i∧∀j:Nat,(j:Int)<k→decide ((List.getD l j zTask).F=(List.getD l i.toNat zTask).F)=false
def Zm37_7(l:(List DTask)):Int×Int×Unit→Nat:=fun(i,k,_)=>i.toNat-k.toNat
def Za37:Zk37.α→Nat→Option (Ann UU):=fun l=>annL [(2,annOf [.slot 3 (3,1024) (.lit (.int .i64))] (fun _=>Zi37_2 l) (Zm37_2 l)),(7,annOf [.slot 3 (3,1024) (.lit (.int .i64)),.slot 4 (4,1024) (.lit (.int .i64))] (Zi37_7 l) (Zm37_7 l))]
def Zu37:=us [Zh106,Zh107]
theorem Zv37(l:(List DTask)):goal EE Zu37 Go.Proofs.Tryz.f37 Zk37 Za37 l=(let x0:Int:=(l.length:Int);
Zi37_2 l ((0:Int),PUnit.unit)∧
 ∀(y:Int×PUnit),
  Zi37_2 l y→
   bif decide (y.1<x0) then
    (0:Int)≤y.1∧
     Int.toNat y.1<List.length l∧
      bif !taskOk (List.getD l (Int.toNat y.1) zTask) then Lf [DV.one (Cell.lit (Value.bool false))] [DV.one (Cell.lit (Value.bool (tasksOk l)))]
      else
       Zi37_7 l (y.1,(0:Int),PUnit.unit) (y.1,(0:Int),PUnit.unit)∧
        ∀(y_1:Int×Int×PUnit),
         let x1:Nat:=Int.toNat y_1.2.1;
         Zi37_7 l (y.1,(0:Int),PUnit.unit) y_1→bif decide (y_1.2.1<y_1.1) then(0:Int)≤y_1.1∧Int.toNat y_1.1<List.length l∧(0:Int)≤y_1.2.1∧x1<List.length l∧bif decide ((List.getD l (Int.toNat y_1.1) zTask).F=(List.getD l x1 zTask).F) then Lf [DV.one (Cell.lit (Value.bool false))] [DV.one (Cell.lit (Value.bool (tasksOk l)))] else Zi37_7 l (y.1,(0:Int),PUnit.unit) (y_1.1,IntKind.wrap IntKind.i64 (y_1.2.1+(1:Int)),PUnit.unit)∧Zm37_7 l (y_1.1,IntKind.wrap IntKind.i64 (y_1.2.1+(1:Int)),PUnit.unit)<Zm37_7 l y_1 else Zi37_2 l (IntKind.wrap IntKind.i64 (y_1.1+(1:Int)),PUnit.unit)∧Zm37_2 l (IntKind.wrap IntKind.i64 (y_1.1+(1:Int)),PUnit.unit)<Zm37_2 l y
   else Lf [DV.one (Cell.lit (Value.bool (decide (x0≤(30:Int)))))] [DV.one (Cell.lit (Value.bool (tasksOk l)))]):=by kernel_rfl
theorem Zo37:Holds EE (37,Zk37):=by
 refine holds_of EE_ok Go.Proofs.Tryz.func37 Zk37 (by kernel_rfl) Zu37 (us_ok _) Za37 (fun(l:(List DTask)) hp hb=> ?_)
 have hl_l:l.length≤9223372036854775807:=bdL (hb _ m0)
 clear hp hb
 rw[Zv37 l]
 dsimp only
 refine⟨⟨by omega,by omega,by intro j hj;omega⟩,?_⟩
 rintro⟨i,⟨⟩⟩ ⟨h1,h2,hR⟩
 simp only
 refine if_cond (fun hc=> ?_) (fun hc=> ?_)
 ·have hc:=of_decide_eq_true hc
  have hN:taskAt l i.toNat=false→tasksOk l=false:=fun h=>by
   have hf:allI l.length (taskAt l)=false:=allI_false (j:=i.toNat) (by omega) h
   simp only[tasksOk,hf];simp
  have hm:Zm37_2 l (i+1,PUnit.unit)<Zm37_2 l (i,()):=by simp only[Zm37_2];omega
  refine⟨by omega,by omega,if_cond (fun h=>Lf_ff (hN ?_)) (fun h=>⟨⟨rfl,by omega,by omega,by intro j hj;omega⟩,?_⟩)⟩
  ·simp only[taskAt];grind
  rintro⟨i,k,⟨⟩⟩ ⟨rfl,g1,g2,gR⟩
  simp only
  refine if_cond (fun hk=> ?_) (fun hk=> ?_)
  ·have hk:=of_decide_eq_true hk
   simp(disch:=omega) only[wrap_i64]
   refine⟨by omega,by omega,by omega,by omega,if_cond (fun h''=>Lf_ff (hN ?_)) (fun h''=>⟨⟨rfl,by omega,by omega,upto_no g1 gR ?_⟩,by simp only[Zm37_7];omega⟩)⟩
   ·have ha:(anyI i.toNat fun k=>decide ((List.getD l k zTask).F=(List.getD l i.toNat zTask).F))=true:=anyI_true (j:=k.toNat) (by omega) (by grind)
    simp only[taskAt,ha];simp
   ·grind
  ·have hk:=of_decide_eq_false hk
   simp(disch:=omega) only[wrap_i64]
   refine⟨⟨by omega,by omega,upto_step h1 hR ?_⟩,hm⟩
   have ha:(anyI i.toNat fun k=>decide ((List.getD l k zTask).F=(List.getD l i.toNat zTask).F))=false:=anyI_false fun j hj=>gR j (by omega)
   simp only[taskAt,ha];grind
 ·have hc:=of_decide_eq_false hc
  have hA:allI l.length (taskAt l)=true:=allI_true fun j hj=>hR j (by omega)
  refine Lf_b ?_
  simp only[tasksOk,hA];grind
def Zh37:HH:=⟨_,Zo37⟩
def largeB(b:Int):Bool:=decide (65≤b∧b≤90)
def varB(b:Int):Bool:=wordB b||largeB b
def varOk(s:ByteArray):Bool:=decide (1≤s.size∧s.size≤12)&&largeB (List.getD (bs s) 0 0).toNat&&(bs s).all (byteP varB)
def argOk(a:DArg):Bool:=bif decide (a.K=1) then varOk a.S&&decide (a.V=zVal) else bif decide (a.K=2) then valOk a.V&&decide (a.S=noBytes) else bif decide (a.K=3) then decide (a.S=noBytes)&&decide (a.V=zVal) else false
def termOk(a:DArg):Bool:=argOk a&& !decide (a.K=3)
def patOk(p:DPat):Bool:=nameOk p.Kind&&decide (p.Args.length≤5)&&p.Args.all argOk
def kondOk(c:DCond):Bool:=decide (1≤c.Op∧c.Op≤3)&&termOk c.L&&termOk c.R
def bPlus:ByteArray:=⟨#[43]⟩
def bMinus:ByteArray:=⟨#[45]⟩
def exprOk(e:DExpr):Bool:=bif decide (e.Op=noBytes) then termOk e.L&&decide (e.R=zArg) else bif decide (e.Op=bPlus)||decide (e.Op=bMinus) then termOk e.L&&termOk e.R else false
def exprsOk(l:List DExpr):Bool:=decide (l.length≤5)&&l.all exprOk
def bareA(a:DAct):Bool:=decide (a.Name=noBytes)&&decide (a.Args.length=0)&&decide (a.Undo=noBytes)
def actOk(a:DAct):Bool:=
 bif decide (a.Kind=1) then nameOk a.Name&&exprsOk a.Args&&decide (a.N=0)&&decide (a.Undo=noBytes)
 else bif decide (a.Kind=2) then bareA a&&decide (0≤a.N∧a.N≤7)
 else bif decide (a.Kind=3) then nameOk a.Name&&exprsOk a.Args&&decide (a.N=0)&&undoOk a.Undo
 else bif decide (a.Kind=4) then nameOk a.Name&&exprsOk a.Args&&decide (0≤a.N∧a.N≤100000)&&decide (a.Undo=noBytes)
 else bif decide (a.Kind=5)||decide (a.Kind=6) then bareA a&&decide (a.N=0) else false
theorem argR_beq(a b:DArg):(a.K==b.K&&(ByteArray.toList a.S==ByteArray.toList b.S&&(a.V.K==b.V.K&&(a.V.N==b.V.N&&(ByteArray.toList a.V.S==ByteArray.toList b.V.S&&true))&&true)))=decide (a=b):=by
 obtain⟨K,S,K2,N2,S2⟩:=a
 obtain⟨K',S',K2',N2',S2'⟩:=b
 simp only[toList_beq,Bool.and_true]
 rw[Bool.eq_iff_iff]
 simp only[Bool.and_eq_true,beq_iff_eq,decide_eq_true_eq,DArg.mk.injEq,DVal.mk.injEq]
def Zk261:Con UU where
 α:=Int
 md:=[.ro]
 of:=o1 oY
 ds:=fun x=>[dY x]
 pre:=fun _=>[]
 res:=fun b=>⟨[.one (.lit (.bool (largeB b)))],true,[]⟩
 law:=l1 lY
def Za261:Zk261.α→Nat→Option (Ann UU):=fun b=>annL []
def Zu261:List (FuncId×Con UU):=[]
theorem Zv261(b:Int):goal EE Zu261 Go.Proofs.Tryz.f261 Zk261 Za261 b=(bif decide (b≥(65:Int)) then Lb (decide (b≤(90:Int))) (largeB b) else Lb false (largeB b)):=by kernel_rfl
theorem Zo261:Holds EE (261,Zk261):=by
 refine holds_of EE_ok Go.Proofs.Tryz.func261 Zk261 (by kernel_rfl) Zu261 all_nil Za261 (fun(b:Int) hp hb=> ?_)
 skip
 clear hp hb
 rw[Zv261 b]
 refine if_cond (fun h=>Lf_b ?_) (fun h=>Lf_b ?_)<;>grind [largeB]
def Zh261:HH:=⟨_,Zo261⟩
def Zk259:Con UU where
 α:=Int
 md:=[.ro]
 of:=o1 oY
 ds:=fun x=>[dY x]
 pre:=fun c=>[0≤c∧c≤255]
 res:=fun c=>⟨[.one (.lit (.bool (largeB c)))],true,[]⟩
 law:=l1 lY
def Za259:Zk259.α→Nat→Option (Ann UU):=fun c=>annL []
def Zu259:=us [Zh40]
theorem Zv259(c:Int):goal EE Zu259 Go.Proofs.Tryz.f259 Zk259 Za259 c=(Lb (decide ((65:Int)≤IntKind.wrap IntKind.i64 c∧IntKind.wrap IntKind.i64 c≤(90:Int))) (largeB c)):=by kernel_rfl
theorem Zo259:Holds EE (259,Zk259):=by
 refine holds_of EE_ok Go.Proofs.Tryz.func259 Zk259 (by kernel_rfl) Zu259 (us_ok _) Za259 (fun(c:Int) hp hb=> ?_)
 have hp0:0≤c∧c≤255:=hp _ m0
 clear hp hb
 rw[Zv259 c]
 rw[wrap_i64 (by omega) (by omega)]
 exact Lf_b rfl
def Zh259:HH:=⟨_,Zo259⟩
def Zk251:Con UU where
 α:=ByteArray
 md:=[.ro]
 of:=o1 oS
 ds:=fun x=>[dS x]
 pre:=fun _=>[]
 res:=fun s=>⟨[.one (.lit (.bool (varOk s)))],true,[]⟩
 law:=l1 lS
def Zi251_2(s:ByteArray):Int×Unit→Prop:=fun(i,_)=>0≤i∧i≤s.size∧((bs s).drop i.toNat).all (byteP varB)=(bs s).all (byteP varB)∧(0<i→largeB (List.getD (bs s) 0 0).toNat=true)
def Zm251_2(s:ByteArray):Int×Unit→Nat:=fun(i,_)=>s.size-i.toNat
def Za251:Zk251.α→Nat→Option (Ann UU):=fun s=>annL [(2,annOf [.slot 3 (3,1024) (.lit (.int .i64))] (fun _=>Zi251_2 s) (Zm251_2 s))]
def Zu251:=us [Zh259,Zh134,Zh40]
theorem Zv251(s:ByteArray):goal EE Zu251 Go.Proofs.Tryz.f251 Zk251 Za251 s=(Zi251_2 s ((0:Int),())∧
 ∀(y:Int×PUnit),
  let x0:Int:=(↑(UInt8.toNat (List.getD s.data.toList (Int.toNat y.1) (0:UInt8))):Int);
  Zi251_2 s y→bif decide (y.1<(↑(ByteArray.size s):Int)) then(0:Int)≤y.1∧Int.toNat y.1<ByteArray.size s∧((0:Int)≤x0∧x0≤(255:Int))∧bif !largeB x0 then bif y.1==(0:Int) then Lf [DV.one (Cell.lit (Value.bool false))] [DV.one (Cell.lit (Value.bool (varOk s)))] else(0:Int)≤y.1∧Int.toNat y.1<ByteArray.size s∧((0:Int)≤x0∧x0≤(255:Int))∧bif !wordB x0 then Lf [DV.one (Cell.lit (Value.bool false))] [DV.one (Cell.lit (Value.bool (varOk s)))] else Zi251_2 s (IntKind.wrap IntKind.i64 (y.1+(1:Int)),PUnit.unit)∧Zm251_2 s (IntKind.wrap IntKind.i64 (y.1+(1:Int)),PUnit.unit)<Zm251_2 s y else Zi251_2 s (IntKind.wrap IntKind.i64 (y.1+(1:Int)),PUnit.unit)∧Zm251_2 s (IntKind.wrap IntKind.i64 (y.1+(1:Int)),PUnit.unit)<Zm251_2 s y else Lf [DV.one (Cell.lit (Value.bool (decide ((1:Int)≤(↑(ByteArray.size s):Int)∧(↑(ByteArray.size s):Int)≤(12:Int)))))] [DV.one (Cell.lit (Value.bool (varOk s)))]):=by kernel_rfl
theorem Zo251:Holds EE (251,Zk251):=by
 refine holds_of EE_ok Go.Proofs.Tryz.func251 Zk251 (by kernel_rfl) Zu251 (us_ok _) Za251 (fun(s:ByteArray) hp hb=> ?_)
 have hl_s:=bdS (s:=s) (hb _ m0)
 clear hp hb
 rw[Zv251 s]
 dsimp only
 refine⟨⟨by omega,by omega,rfl,by omega⟩,?_⟩
 rintro⟨i,⟨⟩⟩ ⟨h1,h2,hR,hS⟩
 have hl:=bs_len s
 simp only[bs_eq]
 refine if_cond (fun hc=> ?_) (fun hc=> ?_)
 ·have hc:=of_decide_eq_true hc
  have hb:=(List.getD (bs s) i.toNat 0).toNat_lt
  rw[all_step _ _ 0 h1 (by omega)] at hR
  rw[wrap_i64 (by omega) (by omega)]
  have hN:(bs s).all (byteP varB)=false→varOk s=false:=fun h=>by simp[varOk,h]
  have hm:Zm251_2 s (i+1,PUnit.unit)<Zm251_2 s (i,()):=by simp only[Zm251_2];omega
  refine⟨by omega,by omega,⟨by omega,by omega⟩,if_cond (fun h=>if_cond (fun h'=>Lf_ff ?_) (fun h'=>⟨by omega,by omega,⟨by omega,by omega⟩,if_cond (fun h''=>Lf_ff (hN ?_)) (fun h''=>⟨⟨by omega,by omega,?_,fun _=>hS ?_⟩,hm⟩)⟩)) (fun h=>⟨⟨by omega,by omega,?_,fun _=> ?_⟩,hm⟩)⟩
  ·have h':i=0:=by simpa using h'
   subst h'
   have h:largeB ((List.getD (bs s) 0 0).toNat:Int)=false:=by simpa using h
   simp only[varOk,h];simp
  ·rw[←hR];simp only[byteP,varB];simp at h h'';simp[h,h'']
  ·rw[←hR];simp only[byteP,varB];simp at h h'';simp[h,h'']
  ·have h':¬i=0:=by simpa using h'
   omega
  ·rw[←hR];simp only[byteP,varB];simp at h;simp[h]
  ·by_cases hz:i=0
   ·subst hz;simpa using h
   ·exact hS (by omega)
 ·have hc:=of_decide_eq_false hc
  rw[drop_end _ (by omega)] at hR
  refine Lf_b ?_
  simp only[varOk,←hR]
  by_cases hz:0<i
  ·rw[hS hz];simp only[List.all_nil];grind
  ·rw[decide_eq_false (by omega),decide_eq_false (by omega)];rfl
def Zh251:HH:=⟨_,Zo251⟩
def Zk254:Con UU where
 α:=ByteArray
 md:=[.ro]
 of:=o1 oS
 ds:=fun x=>[dS x]
 pre:=fun _=>[]
 res:=fun s=>⟨[.one (.lit (.bool (varOk s)))],true,[]⟩
 law:=l1 lS
def Zi254_4(s:ByteArray):Int×Unit→Prop:=fun(i,_)=>0≤i∧i≤s.size∧1≤s.size∧s.size≤12∧largeB (List.getD (bs s) 0 0).toNat=true∧((bs s).drop i.toNat).all (byteP varB)=(bs s).all (byteP varB)
def Zm254_4(s:ByteArray):Int×Unit→Nat:=fun(i,_)=>s.size-i.toNat
def Za254:Zk254.α→Nat→Option (Ann UU):=fun s=>annL [(4,annOf [.slot 3 (3,1024) (.lit (.int .i64))] (fun _=>Zi254_4 s) (Zm254_4 s))]
def Zu254:=us [Zh261,Zh194]
theorem Zv254(s:ByteArray):goal EE Zu254 Go.Proofs.Tryz.f254 Zk254 Za254 s=(bif decide ((↑(ByteArray.size s):Int)<(1:Int)) then Lb false (varOk s)
else
 bif decide ((↑(ByteArray.size s):Int)>(12:Int)) then Lf [DV.one (Cell.lit (Value.bool false))] [DV.one (Cell.lit (Value.bool (varOk s)))]
 else
  (0:Int)≤(0:Int)∧
   Int.toNat (0:Int)<ByteArray.size s∧
    bif !largeB (↑(UInt8.toNat (List.getD s.data.toList (Int.toNat (0:Int)) (0:UInt8))):Int) then Lf [DV.one (Cell.lit (Value.bool false))] [DV.one (Cell.lit (Value.bool (varOk s)))]
    else
     Zi254_4 s ((0:Int),PUnit.unit)∧
      ∀(y:Int×PUnit),
       let x0:Int:=(↑(UInt8.toNat (List.getD s.data.toList (Int.toNat y.1) (0:UInt8))):Int);
       Zi254_4 s y→bif decide (y.1<(↑(ByteArray.size s):Int)) then(0:Int)≤y.1∧Int.toNat y.1<ByteArray.size s∧bif !wordB x0 then(0:Int)≤y.1∧Int.toNat y.1<ByteArray.size s∧bif !largeB x0 then Lf [DV.one (Cell.lit (Value.bool false))] [DV.one (Cell.lit (Value.bool (varOk s)))] else Zi254_4 s (IntKind.wrap IntKind.i64 (y.1+(1:Int)),PUnit.unit)∧Zm254_4 s (IntKind.wrap IntKind.i64 (y.1+(1:Int)),PUnit.unit)<Zm254_4 s y else Zi254_4 s (IntKind.wrap IntKind.i64 (y.1+(1:Int)),PUnit.unit)∧Zm254_4 s (IntKind.wrap IntKind.i64 (y.1+(1:Int)),PUnit.unit)<Zm254_4 s y else Lf [DV.one (Cell.lit (Value.bool true))] [DV.one (Cell.lit (Value.bool (varOk s)))]):=by kernel_rfl
theorem Zo254:Holds EE (254,Zk254):=by
 refine holds_of EE_ok Go.Proofs.Tryz.func254 Zk254 (by kernel_rfl) Zu254 (us_ok _) Za254 (fun(s:ByteArray) hp hb=> ?_)
 have hl_s:=bdS (s:=s) (hb _ m0)
 clear hp hb
 rw[Zv254 s]
 dsimp only
 have hl:=bs_len s
 simp only[bs_eq]
 refine if_cond (fun h=>Lf_ff ?_) (fun h=>if_cond (fun h'=>Lf_ff ?_) (fun h'=> ?_))
 ·have h:=of_decide_eq_true h;simp only[varOk];rw[decide_eq_false (by omega)];rfl
 ·have h':=of_decide_eq_true h';simp only[varOk];rw[decide_eq_false (by omega)];rfl
 have h:=of_decide_eq_false h
 have h':=of_decide_eq_false h'
 refine⟨by omega,by omega,if_cond (fun g=>Lf_ff ?_) (fun g=>⟨⟨by omega,by omega,by omega,by omega,by simpa using g,rfl⟩,?_⟩)⟩
 ·have g:largeB ((List.getD (bs s) 0 0).toNat:Int)=false:=by simpa using g
  simp only[varOk,g];simp
 rintro⟨i,⟨⟩⟩ ⟨h1,h2,h3,h4,hS,hR⟩
 simp only
 refine if_cond (fun hc=> ?_) (fun hc=> ?_)
 ·have hc:=of_decide_eq_true hc
  rw[all_step _ _ 0 h1 (by omega)] at hR
  rw[wrap_i64 (by omega) (by omega)]
  have hN:(bs s).all (byteP varB)=false→varOk s=false:=fun h=>by simp[varOk,h]
  have hm:Zm254_4 s (i+1,PUnit.unit)<Zm254_4 s (i,()):=by simp only[Zm254_4];omega
  refine⟨by omega,by omega,if_cond (fun h=>⟨by omega,by omega,if_cond (fun h''=>Lf_ff (hN ?_)) (fun h''=>⟨⟨by omega,by omega,h3,h4,hS,?_⟩,hm⟩)⟩) (fun h=>⟨⟨by omega,by omega,h3,h4,hS,?_⟩,hm⟩)⟩
  ·rw[←hR];simp only[byteP,varB];simp at h h'';simp[h,h'']
  ·rw[←hR];simp only[byteP,varB];simp at h h'';simp[h,h'']
  ·rw[←hR];simp only[byteP,varB];simp at h;simp[h]
 ·have hc:=of_decide_eq_false hc
  rw[drop_end _ (by omega)] at hR
  refine Lf_tt ?_
  simp only[varOk,←hR,hS,decide_eq_true (show 1≤s.size∧s.size≤12 from⟨h3,h4⟩)];rfl
def Zh254:HH:=⟨_,Zo254⟩
def Zk234:Con UU where
 α:=DArg
 md:=[.ro]
 of:=o1 (oA .eArg)
 ds:=fun x=>[dA .eArg x]
 pre:=fun _=>[]
 res:=fun a=>⟨[.one (.lit (.bool (argOk a)))],true,[]⟩
 law:=l1 (lA .eArg)
def Za234:Zk234.α→Nat→Option (Ann UU):=fun a=>annL []
def Zu234:=us [Zh251,Zh165]
theorem Zv234(a:DArg):goal EE Zu234 Go.Proofs.Tryz.f234 Zk234 Za234 a=(let x0:Bool:=ByteArray.toList a.S==ByteArray.toList {data:= #[]:ByteArray};
bif a.K==(1:Int) then bif varOk a.S then Lf [DV.one (Cell.lit (Value.bool (a.V.K==(0:Int)&&(a.V.N==(0:Int)&&(ByteArray.toList a.V.S==ByteArray.toList {data:= #[]:ByteArray}&&true)))))] [DV.one (Cell.lit (Value.bool (argOk a)))] else Lf [DV.one (Cell.lit (Value.bool false))] [DV.one (Cell.lit (Value.bool (argOk a)))] else bif a.K==(2:Int) then bif valOk a.V then Lf [DV.one (Cell.lit (Value.bool x0))] [DV.one (Cell.lit (Value.bool (argOk a)))] else Lf [DV.one (Cell.lit (Value.bool false))] [DV.one (Cell.lit (Value.bool (argOk a)))] else bif a.K==(3:Int) then bif x0 then Lf [DV.one (Cell.lit (Value.bool (a.V.K==(0:Int)&&(a.V.N==(0:Int)&&(ByteArray.toList a.V.S==ByteArray.toList {data:= #[]:ByteArray}&&true)))))] [DV.one (Cell.lit (Value.bool (argOk a)))] else Lf [DV.one (Cell.lit (Value.bool false))] [DV.one (Cell.lit (Value.bool (argOk a)))] else Lf [DV.one (Cell.lit (Value.bool false))] [DV.one (Cell.lit (Value.bool (argOk a)))]):=by kernel_rfl
theorem Zo234:Holds EE (234,Zk234):=by
 refine holds_of EE_ok Go.Proofs.Tryz.func234 Zk234 (by kernel_rfl) Zu234 (us_ok _) Za234 (fun(a:DArg) hp hb=> ?_)
 have hz0:=bd_eArg (x:=a) (hb _ m0)
 have hl_a_S:=hz0.1
 have hl_a_V_S:=hz0.2
 clear hp hb
 rw[Zv234 a]
 dsimp only
 have ev:∀v:DVal,(v.K==0&&(v.N==0&&(ByteArray.toList v.S==ByteArray.toList {data:= #[]}&&true)))=decide (v=zVal):=fun v=>val_beq v zVal
 have e:∀s:ByteArray,(ByteArray.toList s==ByteArray.toList {data:= #[]})=decide (s=noBytes):=fun s=>toList_beq _ _
 simp only[ev,e,argOk]
 repeat' (refine if_cond (fun h=> ?_) (fun h=> ?_))
 all_goals (refine Lf_b ?_;grind)
def Zh234:HH:=⟨_,Zo234⟩
def Zk239:Con UU where
 α:=DArg
 md:=[.ro]
 of:=o1 (oA .eArg)
 ds:=fun x=>[dA .eArg x]
 pre:=fun _=>[]
 res:=fun a=>⟨[.one (.lit (.bool (argOk a)))],true,[]⟩
 law:=l1 (lA .eArg)
def Za239:Zk239.α→Nat→Option (Ann UU):=fun a=>annL []
def Zu239:=us [Zh254,Zh182]
theorem Zv239(a:DArg):goal EE Zu239 Go.Proofs.Tryz.f239 Zk239 Za239 a=(let x0:Bool:=ByteArray.toList a.S==ByteArray.toList {data:= #[]:ByteArray};
bif a.K==(1:Int) then bif varOk a.S then Lf [DV.one (Cell.lit (Value.bool (a.V.K==(0:Int)&&(a.V.N==(0:Int)&&(ByteArray.toList a.V.S==ByteArray.toList {data:= #[]:ByteArray}&&true)))))] [DV.one (Cell.lit (Value.bool (argOk a)))] else Lf [DV.one (Cell.lit (Value.bool false))] [DV.one (Cell.lit (Value.bool (argOk a)))] else bif a.K==(2:Int) then bif x0 then Lf [DV.one (Cell.lit (Value.bool (valOk a.V)))] [DV.one (Cell.lit (Value.bool (argOk a)))] else Lf [DV.one (Cell.lit (Value.bool false))] [DV.one (Cell.lit (Value.bool (argOk a)))] else bif a.K==(3:Int) then bif x0 then Lf [DV.one (Cell.lit (Value.bool (a.V.K==(0:Int)&&(a.V.N==(0:Int)&&(ByteArray.toList a.V.S==ByteArray.toList {data:= #[]:ByteArray}&&true)))))] [DV.one (Cell.lit (Value.bool (argOk a)))] else Lf [DV.one (Cell.lit (Value.bool false))] [DV.one (Cell.lit (Value.bool (argOk a)))] else Lf [DV.one (Cell.lit (Value.bool false))] [DV.one (Cell.lit (Value.bool (argOk a)))]):=by kernel_rfl
theorem Zo239:Holds EE (239,Zk239):=by
 refine holds_of EE_ok Go.Proofs.Tryz.func239 Zk239 (by kernel_rfl) Zu239 (us_ok _) Za239 (fun(a:DArg) hp hb=> ?_)
 have hz0:=bd_eArg (x:=a) (hb _ m0)
 have hl_a_S:=hz0.1
 have hl_a_V_S:=hz0.2
 clear hp hb
 rw[Zv239 a]
 dsimp only
 have ev:∀v:DVal,(v.K==0&&(v.N==0&&(ByteArray.toList v.S==ByteArray.toList {data:= #[]}&&true)))=decide (v=zVal):=fun v=>val_beq v zVal
 have e:∀s:ByteArray,(ByteArray.toList s==ByteArray.toList {data:= #[]})=decide (s=noBytes):=fun s=>toList_beq _ _
 simp only[ev,e,argOk]
 repeat' (refine if_cond (fun h=> ?_) (fun h=> ?_))
 all_goals (refine Lf_b ?_;grind)
def Zh239:HH:=⟨_,Zo239⟩
def Zk207:Con UU where
 α:=DPat
 md:=[.ro]
 of:=o1 (oA .ePat)
 ds:=fun x=>[dA .ePat x]
 pre:=fun _=>[]
 res:=fun p=>⟨[.one (.lit (.bool (patOk p)))],true,[]⟩
 law:=l1 (lA .ePat)
def Zi207_2(p:DPat):Int×(ByteArray×List DArg×Bool×Unit)×Unit→Prop:=fun(i,b,_)=>b=(p.Kind,p.Args,p.Not,())∧0≤i∧i≤p.Args.length∧(p.Args.drop i.toNat).all argOk=p.Args.all argOk
def Zm207_2(p:DPat):Int×(ByteArray×List DArg×Bool×Unit)×Unit→Nat:=fun(i,b,_)=>p.Args.length-i.toNat
def Za207:Zk207.α→Nat→Option (Ann UU):=fun p=>annL [(2,annOf [.slot 3 (3,1024) (.lit (.int .i64)),.box 1 (1,1024) [.lit .str,.shr .eArg,.lit .bool]] (fun _=>Zi207_2 p) (Zm207_2 p))]
def Zu207:=us [Zh234,Zh71]
theorem Zv207(p:DPat):goal EE Zu207 Go.Proofs.Tryz.f207 Zk207 Za207 p=(Zi207_2 p ((0:Int),(p.Kind,p.Args,p.Not,()),())∧
 ∀(y:Int×(ByteArray×List DArg×Bool×PUnit)×PUnit),
  let x1:Nat:=List.length y.2.1.2.1;
  let x0:Int:=(↑x1:Int);
  Zi207_2 p y→bif decide (y.1<x0) then(0:Int)≤y.1∧Int.toNat y.1<x1∧bif !argOk (List.getD y.2.1.2.1 (Int.toNat y.1) zArg) then Lf [DV.one (Cell.lit (Value.bool false))] [DV.one (Cell.lit (Value.bool (patOk p)))] else Zi207_2 p (IntKind.wrap IntKind.i64 (y.1+(1:Int)),(y.2.1.1,y.2.1.2.1,y.2.1.2.2.1,PUnit.unit),PUnit.unit)∧Zm207_2 p (IntKind.wrap IntKind.i64 (y.1+(1:Int)),(y.2.1.1,y.2.1.2.1,y.2.1.2.2.1,PUnit.unit),PUnit.unit)<Zm207_2 p y else bif nameOk y.2.1.1 then Lf [DV.one (Cell.lit (Value.bool (decide (x0≤(5:Int)))))] [DV.one (Cell.lit (Value.bool (patOk p)))] else Lf [DV.one (Cell.lit (Value.bool false))] [DV.one (Cell.lit (Value.bool (patOk p)))]):=by kernel_rfl
theorem Zo207:Holds EE (207,Zk207):=by
 refine holds_of EE_ok Go.Proofs.Tryz.func207 Zk207 (by kernel_rfl) Zu207 (us_ok _) Za207 (fun(p:DPat) hp hb=> ?_)
 have hz0:=bd_ePat (x:=p) (hb _ m0)
 have hl_p_Kind:=hz0.1
 have hl_p_Args:=hz0.2
 clear hp hb
 rw[Zv207 p]
 dsimp only
 refine⟨⟨rfl,by omega,by omega,rfl⟩,?_⟩
 rintro⟨i,⟨bk,ba,bn,⟨⟩⟩,⟨⟩⟩ ⟨hbx,h1,h2,hR⟩
 cases hbx
 simp only
 refine if_cond (fun hc=> ?_) (fun hc=> ?_)
 ·have hc:=of_decide_eq_true hc
  rw[all_step _ _ zArg h1 (by omega)] at hR
  rw[wrap_i64 (by omega) (by omega)]
  refine⟨by omega,by omega,if_cond (fun h=>Lf_ff ?_) (fun h=>⟨⟨rfl,by omega,by omega,?_⟩,?_⟩)⟩
  ·simp only[patOk,←hR];simp at h;simp[h]
  ·rw[←hR];simp at h;simp[h]
  ·simp only[Zm207_2];omega
 ·have hc:=of_decide_eq_false hc
  rw[drop_end _ (by omega)] at hR
  simp only[patOk,←hR,List.all_nil]
  repeat' (refine if_cond (fun h=> ?_) (fun h=> ?_))
  all_goals (refine Lf_b ?_;grind)
def Zh207:HH:=⟨_,Zo207⟩
def Zk216:Con UU where
 α:=DPat
 md:=[.ro]
 of:=o1 (oA .ePat)
 ds:=fun x=>[dA .ePat x]
 pre:=fun _=>[]
 res:=fun p=>⟨[.one (.lit (.bool (patOk p)))],true,[]⟩
 law:=l1 (lA .ePat)
def Zi216_4(p:DPat):Int×Unit→Prop:=fun(i,_)=>0≤i∧i≤p.Args.length∧p.Args.length≤5∧nameOk p.Kind=true∧(p.Args.drop i.toNat).all argOk=p.Args.all argOk
def Zm216_4(p:DPat):Int×Unit→Nat:=fun(i,_)=>p.Args.length-i.toNat
def Za216:Zk216.α→Nat→Option (Ann UU):=fun p=>annL [(4,annOf [.slot 18 (18,1024) (.lit (.int .i64))] (fun _=>Zi216_4 p) (Zm216_4 p))]
def Zu216:=us [Zh239,Zh76]
theorem Zv216(p:DPat):goal EE Zu216 Go.Proofs.Tryz.f216 Zk216 Za216 p=(let x0:Int:=(p.Args.length:Int);
bif !nameOk p.Kind then Lf [DV.one (Cell.lit (Value.bool false))] [DV.one (Cell.lit (Value.bool (patOk p)))] else bif decide (x0>(5:Int)) then Lf [DV.one (Cell.lit (Value.bool false))] [DV.one (Cell.lit (Value.bool (patOk p)))] else Zi216_4 p ((0:Int),PUnit.unit)∧∀(y:Int×PUnit),Zi216_4 p y→bif decide (y.1<x0) then(0:Int)≤y.1∧Int.toNat y.1<List.length p.Args∧bif !argOk (List.getD p.Args (Int.toNat y.1) zArg) then Lf [DV.one (Cell.lit (Value.bool false))] [DV.one (Cell.lit (Value.bool (patOk p)))] else Zi216_4 p (IntKind.wrap IntKind.i64 (y.1+(1:Int)),PUnit.unit)∧Zm216_4 p (IntKind.wrap IntKind.i64 (y.1+(1:Int)),PUnit.unit)<Zm216_4 p y else Lf [DV.one (Cell.lit (Value.bool true))] [DV.one (Cell.lit (Value.bool (patOk p)))]):=by kernel_rfl
theorem Zo216:Holds EE (216,Zk216):=by
 refine holds_of EE_ok Go.Proofs.Tryz.func216 Zk216 (by kernel_rfl) Zu216 (us_ok _) Za216 (fun(p:DPat) hp hb=> ?_)
 have hz0:=bd_ePat (x:=p) (hb _ m0)
 have hl_p_Kind:=hz0.1
 have hl_p_Args:=hz0.2
 clear hp hb
 rw[Zv216 p]
 dsimp only
 refine if_cond (fun h=>Lf_ff ?_) (fun h=>if_cond (fun h'=>Lf_ff ?_) (fun h'=> ?_))
 ·simp only[patOk];simp at h;simp[h]
 ·have h':=of_decide_eq_true h';simp only[patOk];rw[decide_eq_false (show¬p.Args.length≤5 by omega)];simp
 have h':=of_decide_eq_false h'
 refine⟨⟨by omega,by omega,by omega,by simpa using h,rfl⟩,?_⟩
 rintro⟨i,⟨⟩⟩ ⟨h1,h2,h3,h4,hR⟩
 simp only
 refine if_cond (fun hc=> ?_) (fun hc=> ?_)
 ·have hc:=of_decide_eq_true hc
  rw[all_step _ _ zArg h1 (by omega)] at hR
  rw[wrap_i64 (by omega) (by omega)]
  refine⟨by omega,by omega,if_cond (fun h=>Lf_ff ?_) (fun h=>⟨⟨by omega,by omega,h3,h4,?_⟩,?_⟩)⟩
  ·simp only[patOk,←hR];simp at h;simp[h]
  ·rw[←hR];simp at h;simp[h]
  ·simp only[Zm216_4];omega
 ·have hc:=of_decide_eq_false hc
  rw[drop_end _ (by omega)] at hR
  refine Lf_tt ?_
  simp only[patOk,←hR,h4,decide_eq_true h3];rfl
def Zh216:HH:=⟨_,Zo216⟩
def Zk217:Con UU where
 α:=DArg
 md:=[.ro]
 of:=o1 (oA .eArg)
 ds:=fun x=>[dA .eArg x]
 pre:=fun _=>[]
 res:=fun a=>⟨[.one (.lit (.bool (termOk a)))],true,[]⟩
 law:=l1 (lA .eArg)
def Za217:Zk217.α→Nat→Option (Ann UU):=fun a=>annL []
def Zu217:=us [Zh239]
theorem Zv217(a:DArg):goal EE Zu217 Go.Proofs.Tryz.f217 Zk217 Za217 a=(bif a.K !=(3:Int) then Lb (argOk a) (termOk a) else Lb false (termOk a)):=by kernel_rfl
theorem Zo217:Holds EE (217,Zk217):=by
 refine holds_of EE_ok Go.Proofs.Tryz.func217 Zk217 (by kernel_rfl) Zu217 (us_ok _) Za217 (fun(a:DArg) hp hb=> ?_)
 have hz0:=bd_eArg (x:=a) (hb _ m0)
 have hl_a_S:=hz0.1
 have hl_a_V_S:=hz0.2
 clear hp hb
 rw[Zv217 a]
 simp only[termOk]
 repeat' (refine if_cond (fun h=> ?_) (fun h=> ?_))
 all_goals (refine Lf_b ?_;grind)
def Zh217:HH:=⟨_,Zo217⟩
def Zk260:Con UU where
 α:=DArg
 md:=[.ro]
 of:=o1 (oA .eArg)
 ds:=fun x=>[dA .eArg x]
 pre:=fun _=>[]
 res:=fun a=>⟨[.one (.lit (.bool (termOk a)))],true,[]⟩
 law:=l1 (lA .eArg)
def Za260:Zk260.α→Nat→Option (Ann UU):=fun a=>annL []
def Zu260:=us [Zh234]
theorem Zv260(a:DArg):goal EE Zu260 Go.Proofs.Tryz.f260 Zk260 Za260 a=(bif argOk a then Lb (a.K !=(3:Int)) (termOk a) else Lb false (termOk a)):=by kernel_rfl
theorem Zo260:Holds EE (260,Zk260):=by
 refine holds_of EE_ok Go.Proofs.Tryz.func260 Zk260 (by kernel_rfl) Zu260 (us_ok _) Za260 (fun(a:DArg) hp hb=> ?_)
 have hz0:=bd_eArg (x:=a) (hb _ m0)
 have hl_a_S:=hz0.1
 have hl_a_V_S:=hz0.2
 clear hp hb
 rw[Zv260 a]
 simp only[termOk]
 repeat' (refine if_cond (fun h=> ?_) (fun h=> ?_))
 all_goals (refine Lf_b ?_;grind)
def Zh260:HH:=⟨_,Zo260⟩
def Zk208:Con UU where
 α:=DCond
 md:=[.ro]
 of:=o1 (oA .eCond)
 ds:=fun x=>[dA .eCond x]
 pre:=fun _=>[]
 res:=fun c=>⟨[.one (.lit (.bool (kondOk c)))],true,[]⟩
 law:=l1 (lA .eCond)
def Za208:Zk208.α→Nat→Option (Ann UU):=fun c=>annL []
def Zu208:=us [Zh40,Zh234]
theorem Zv208(c:DCond):goal EE Zu208 Go.Proofs.Tryz.f208 Zk208 Za208 c=(bif decide ((1:Int)≤c.Op∧c.Op≤(3:Int)) then bif argOk c.L then bif argOk c.R then bif c.L.K !=(3:Int) then Lb (c.R.K !=(3:Int)) (kondOk c) else Lb false (kondOk c) else Lb false (kondOk c) else Lb false (kondOk c) else Lb false (kondOk c)):=by kernel_rfl
theorem Zo208:Holds EE (208,Zk208):=by
 refine holds_of EE_ok Go.Proofs.Tryz.func208 Zk208 (by kernel_rfl) Zu208 (us_ok _) Za208 (fun(c:DCond) hp hb=> ?_)
 have hz0:=bd_eCond (x:=c) (hb _ m0)
 have hl_c_L_S:=hz0.1
 have hl_c_L_V_S:=hz0.2.1
 have hl_c_R_S:=hz0.2.2.1
 have hl_c_R_V_S:=hz0.2.2.2
 clear hp hb
 rw[Zv208 c]
 simp only[kondOk,termOk]
 repeat' (refine if_cond (fun h=> ?_) (fun h=> ?_))
 all_goals (refine Lf_b ?_;grind)
def Zh208:HH:=⟨_,Zo208⟩
def Zk175:Con UU where
 α:=DCond
 md:=[.ro]
 of:=o1 (oA .eCond)
 ds:=fun x=>[dA .eCond x]
 pre:=fun _=>[]
 res:=fun c=>⟨[.one (.lit (.bool (kondOk c)))],true,[]⟩
 law:=l1 (lA .eCond)
def Za175:Zk175.α→Nat→Option (Ann UU):=fun c=>annL []
def Zu175:=us [Zh56,Zh217]
theorem Zv175(c:DCond):goal EE Zu175 Go.Proofs.Tryz.f175 Zk175 Za175 c=(bif decide ((1:Int)≤c.Op∧c.Op≤(3:Int)) then bif termOk c.L then Lb (termOk c.R) (kondOk c) else Lb false (kondOk c) else Lb false (kondOk c)):=by kernel_rfl
theorem Zo175:Holds EE (175,Zk175):=by
 refine holds_of EE_ok Go.Proofs.Tryz.func175 Zk175 (by kernel_rfl) Zu175 (us_ok _) Za175 (fun(c:DCond) hp hb=> ?_)
 have hz0:=bd_eCond (x:=c) (hb _ m0)
 have hl_c_L_S:=hz0.1
 have hl_c_L_V_S:=hz0.2.1
 have hl_c_R_S:=hz0.2.2.1
 have hl_c_R_V_S:=hz0.2.2.2
 clear hp hb
 rw[Zv175 c]
 simp only[kondOk]
 repeat' (refine if_cond (fun h=> ?_) (fun h=> ?_))
 all_goals (refine Lf_b ?_;grind)
def Zh175:HH:=⟨_,Zo175⟩
def Zk252:Con UU where
 α:=DExpr
 md:=[.ro]
 of:=o1 (oA .eExpr)
 ds:=fun x=>[dA .eExpr x]
 pre:=fun _=>[]
 res:=fun e=>⟨[.one (.lit (.bool (exprOk e)))],true,[]⟩
 law:=l1 (lA .eExpr)
def Za252:Zk252.α→Nat→Option (Ann UU):=fun e=>annL []
def Zu252:=us [Zh260]
theorem Zv252(e:DExpr):goal EE Zu252 Go.Proofs.Tryz.f252 Zk252 Za252 e=(let x0:Bool:=ByteArray.toList e.Op==ByteArray.toList {data:= #[(43:UInt8)]:ByteArray};
bif ByteArray.toList e.Op==ByteArray.toList {data:= #[]:ByteArray} then bif termOk e.L then Lf [DV.one (Cell.lit (Value.bool (e.R.K==(0:Int)&&(ByteArray.toList e.R.S==ByteArray.toList {data:= #[]:ByteArray}&&(e.R.V.K==(0:Int)&&(e.R.V.N==(0:Int)&&(ByteArray.toList e.R.V.S==ByteArray.toList {data:= #[]:ByteArray}&&true))&&true)))))] [DV.one (Cell.lit (Value.bool (exprOk e)))] else Lf [DV.one (Cell.lit (Value.bool false))] [DV.one (Cell.lit (Value.bool (exprOk e)))] else bif x0 then bif x0 then bif termOk e.L then Lf [DV.one (Cell.lit (Value.bool (termOk e.R)))] [DV.one (Cell.lit (Value.bool (exprOk e)))] else Lf [DV.one (Cell.lit (Value.bool false))] [DV.one (Cell.lit (Value.bool (exprOk e)))] else Lf [DV.one (Cell.lit (Value.bool false))] [DV.one (Cell.lit (Value.bool (exprOk e)))] else bif ByteArray.toList e.Op==ByteArray.toList {data:= #[(45:UInt8)]:ByteArray} then bif termOk e.L then Lf [DV.one (Cell.lit (Value.bool (termOk e.R)))] [DV.one (Cell.lit (Value.bool (exprOk e)))] else Lf [DV.one (Cell.lit (Value.bool false))] [DV.one (Cell.lit (Value.bool (exprOk e)))] else Lf [DV.one (Cell.lit (Value.bool false))] [DV.one (Cell.lit (Value.bool (exprOk e)))]):=by kernel_rfl
theorem Zo252:Holds EE (252,Zk252):=by
 refine holds_of EE_ok Go.Proofs.Tryz.func252 Zk252 (by kernel_rfl) Zu252 (us_ok _) Za252 (fun(e:DExpr) hp hb=> ?_)
 have hz0:=bd_eExpr (x:=e) (hb _ m0)
 have hl_e_Op:=hz0.1
 have hl_e_L_S:=hz0.2.1
 have hl_e_L_V_S:=hz0.2.2.1
 have hl_e_R_S:=hz0.2.2.2.1
 have hl_e_R_V_S:=hz0.2.2.2.2
 clear hp hb
 rw[Zv252 e]
 dsimp only
 have e:∀s:ByteArray,(ByteArray.toList s==ByteArray.toList {data:= #[]})=decide (s=noBytes):=fun s=>toList_beq _ _
 have ea:∀a:DArg,(a.K==0&&(ByteArray.toList a.S==ByteArray.toList {data:= #[]}&&(a.V.K==0&&(a.V.N==0&&(ByteArray.toList a.V.S==ByteArray.toList {data:= #[]}&&true))&&true)))=decide (a=zArg):=fun a=>argR_beq a zArg
 have e1:∀s:ByteArray,(ByteArray.toList s==ByteArray.toList {data:= #[43]})=decide (s=bPlus):=fun s=>toList_beq _ _
 have e2:∀s:ByteArray,(ByteArray.toList s==ByteArray.toList {data:= #[45]})=decide (s=bMinus):=fun s=>toList_beq _ _
 simp only[ea]
 simp only[e,e1,e2,exprOk]
 repeat' (refine if_cond (fun h=> ?_) (fun h=> ?_))
 all_goals (refine Lf_b ?_;grind)
def Zh252:HH:=⟨_,Zo252⟩
def Zk240:Con UU where
 α:=DExpr
 md:=[.ro]
 of:=o1 (oA .eExpr)
 ds:=fun x=>[dA .eExpr x]
 pre:=fun _=>[]
 res:=fun e=>⟨[.one (.lit (.bool (exprOk e)))],true,[]⟩
 law:=l1 (lA .eExpr)
def Za240:Zk240.α→Nat→Option (Ann UU):=fun e=>annL []
def Zu240:=us [Zh217]
theorem Zv240(e:DExpr):goal EE Zu240 Go.Proofs.Tryz.f240 Zk240 Za240 e=(let x0:Bool:=ByteArray.toList e.Op==ByteArray.toList {data:= #[(43:UInt8)]:ByteArray};
bif ByteArray.toList e.Op==ByteArray.toList {data:= #[]:ByteArray} then bif termOk e.L then Lf [DV.one (Cell.lit (Value.bool (e.R.K==(0:Int)&&(ByteArray.toList e.R.S==ByteArray.toList {data:= #[]:ByteArray}&&(e.R.V.K==(0:Int)&&(e.R.V.N==(0:Int)&&(ByteArray.toList e.R.V.S==ByteArray.toList {data:= #[]:ByteArray}&&true))&&true)))))] [DV.one (Cell.lit (Value.bool (exprOk e)))] else Lf [DV.one (Cell.lit (Value.bool false))] [DV.one (Cell.lit (Value.bool (exprOk e)))] else bif x0 then bif x0 then bif termOk e.L then Lf [DV.one (Cell.lit (Value.bool (termOk e.R)))] [DV.one (Cell.lit (Value.bool (exprOk e)))] else Lf [DV.one (Cell.lit (Value.bool false))] [DV.one (Cell.lit (Value.bool (exprOk e)))] else Lf [DV.one (Cell.lit (Value.bool false))] [DV.one (Cell.lit (Value.bool (exprOk e)))] else bif ByteArray.toList e.Op==ByteArray.toList {data:= #[(45:UInt8)]:ByteArray} then bif termOk e.L then Lf [DV.one (Cell.lit (Value.bool (termOk e.R)))] [DV.one (Cell.lit (Value.bool (exprOk e)))] else Lf [DV.one (Cell.lit (Value.bool false))] [DV.one (Cell.lit (Value.bool (exprOk e)))] else Lf [DV.one (Cell.lit (Value.bool false))] [DV.one (Cell.lit (Value.bool (exprOk e)))]):=by kernel_rfl
theorem Zo240:Holds EE (240,Zk240):=by
 refine holds_of EE_ok Go.Proofs.Tryz.func240 Zk240 (by kernel_rfl) Zu240 (us_ok _) Za240 (fun(e:DExpr) hp hb=> ?_)
 have hz0:=bd_eExpr (x:=e) (hb _ m0)
 have hl_e_Op:=hz0.1
 have hl_e_L_S:=hz0.2.1
 have hl_e_L_V_S:=hz0.2.2.1
 have hl_e_R_S:=hz0.2.2.2.1
 have hl_e_R_V_S:=hz0.2.2.2.2
 clear hp hb
 rw[Zv240 e]
 dsimp only
 have e:∀s:ByteArray,(ByteArray.toList s==ByteArray.toList {data:= #[]})=decide (s=noBytes):=fun s=>toList_beq _ _
 have ea:∀a:DArg,(a.K==0&&(ByteArray.toList a.S==ByteArray.toList {data:= #[]}&&(a.V.K==0&&(a.V.N==0&&(ByteArray.toList a.V.S==ByteArray.toList {data:= #[]}&&true))&&true)))=decide (a=zArg):=fun a=>argR_beq a zArg
 have e1:∀s:ByteArray,(ByteArray.toList s==ByteArray.toList {data:= #[43]})=decide (s=bPlus):=fun s=>toList_beq _ _
 have e2:∀s:ByteArray,(ByteArray.toList s==ByteArray.toList {data:= #[45]})=decide (s=bMinus):=fun s=>toList_beq _ _
 simp only[ea]
 simp only[e,e1,e2,exprOk]
 repeat' (refine if_cond (fun h=> ?_) (fun h=> ?_))
 all_goals (refine Lf_b ?_;grind)
def Zh240:HH:=⟨_,Zo240⟩
def Zk235:Con UU where
 α:=(List DExpr)
 md:=[.ro]
 of:=o1 (oL .eExpr)
 ds:=fun x=>[dL .eExpr x]
 pre:=fun _=>[]
 res:=fun es=>⟨[.one (.lit (.bool (exprsOk es)))],true,[]⟩
 law:=l1 (lL .eExpr)
def Zi235_2(es:(List DExpr)):Int×Unit→Prop:=fun(i,_)=>0≤i∧i≤es.length∧(es.drop i.toNat).all exprOk=es.all exprOk
def Zm235_2(es:(List DExpr)):Int×Unit→Nat:=fun(i,_)=>es.length-i.toNat
def Za235:Zk235.α→Nat→Option (Ann UU):=fun es=>annL [(2,annOf [.slot 3 (3,1024) (.lit (.int .i64))] (fun _=>Zi235_2 es) (Zm235_2 es))]
def Zu235:=us [Zh252]
theorem Zv235(es:(List DExpr)):goal EE Zu235 Go.Proofs.Tryz.f235 Zk235 Za235 es=(let x0:Int:=(es.length:Int);
Zi235_2 es ((0:Int),PUnit.unit)∧∀(y:Int×PUnit),Zi235_2 es y→bif decide (y.1<x0) then(0:Int)≤y.1∧Int.toNat y.1<List.length es∧bif !exprOk (List.getD es (Int.toNat y.1) zExpr) then Lf [DV.one (Cell.lit (Value.bool false))] [DV.one (Cell.lit (Value.bool (exprsOk es)))] else Zi235_2 es (IntKind.wrap IntKind.i64 (y.1+(1:Int)),PUnit.unit)∧Zm235_2 es (IntKind.wrap IntKind.i64 (y.1+(1:Int)),PUnit.unit)<Zm235_2 es y else Lf [DV.one (Cell.lit (Value.bool (decide (x0≤(5:Int)))))] [DV.one (Cell.lit (Value.bool (exprsOk es)))]):=by kernel_rfl
theorem Zo235:Holds EE (235,Zk235):=by
 refine holds_of EE_ok Go.Proofs.Tryz.func235 Zk235 (by kernel_rfl) Zu235 (us_ok _) Za235 (fun(es:(List DExpr)) hp hb=> ?_)
 have hl_es:es.length≤9223372036854775807:=bdL (hb _ m0)
 clear hp hb
 rw[Zv235 es]
 dsimp only
 refine⟨⟨by omega,by omega,rfl⟩,?_⟩
 rintro⟨i,⟨⟩⟩ ⟨h1,h2,hR⟩
 simp only
 refine if_cond (fun hc=> ?_) (fun hc=> ?_)
 ·have hc:=of_decide_eq_true hc
  rw[all_step _ _ zExpr h1 (by omega)] at hR
  rw[wrap_i64 (by omega) (by omega)]
  refine⟨by omega,by omega,if_cond (fun h=>Lf_ff ?_) (fun h=>⟨⟨by omega,by omega,?_⟩,?_⟩)⟩
  ·simp only[exprsOk,←hR];simp at h;simp[h]
  ·rw[←hR];simp at h;simp[h]
  ·simp only[Zm235_2];omega
 ·have hc:=of_decide_eq_false hc
  rw[drop_end _ (by omega)] at hR
  refine Lf_b ?_
  simp only[exprsOk,←hR];simp;omega
def Zh235:HH:=⟨_,Zo235⟩
def Zk218:Con UU where
 α:=DAct
 md:=[.ro]
 of:=o1 (oA .eAct)
 ds:=fun x=>[dA .eAct x]
 pre:=fun _=>[]
 res:=fun a=>⟨[.one (.lit (.bool (nameOk a.Name&&exprsOk a.Args)))],true,[]⟩
 law:=l1 (lA .eAct)
def Zi218_4(a:DAct):Int×Unit→Prop:=fun(i,_)=>0≤i∧i≤a.Args.length∧a.Args.length≤5∧nameOk a.Name=true∧(a.Args.drop i.toNat).all exprOk=a.Args.all exprOk
def Zm218_4(a:DAct):Int×Unit→Nat:=fun(i,_)=>a.Args.length-i.toNat
def Za218:Zk218.α→Nat→Option (Ann UU):=fun a=>annL [(4,annOf [.slot 18 (18,1024) (.lit (.int .i64))] (fun _=>Zi218_4 a) (Zm218_4 a))]
def Zu218:=us [Zh240,Zh76]
theorem Zv218(a:DAct):goal EE Zu218 Go.Proofs.Tryz.f218 Zk218 Za218 a=(let x0:Int:=(a.Args.length:Int);
bif !nameOk a.Name then Lf [DV.one (Cell.lit (Value.bool false))] [DV.one (Cell.lit (Value.bool (nameOk a.Name&&exprsOk a.Args)))] else bif decide (x0>(5:Int)) then Lf [DV.one (Cell.lit (Value.bool false))] [DV.one (Cell.lit (Value.bool (nameOk a.Name&&exprsOk a.Args)))] else Zi218_4 a ((0:Int),PUnit.unit)∧∀(y:Int×PUnit),Zi218_4 a y→bif decide (y.1<x0) then(0:Int)≤y.1∧Int.toNat y.1<List.length a.Args∧bif !exprOk (List.getD a.Args (Int.toNat y.1) zExpr) then Lf [DV.one (Cell.lit (Value.bool false))] [DV.one (Cell.lit (Value.bool (nameOk a.Name&&exprsOk a.Args)))] else Zi218_4 a (IntKind.wrap IntKind.i64 (y.1+(1:Int)),PUnit.unit)∧Zm218_4 a (IntKind.wrap IntKind.i64 (y.1+(1:Int)),PUnit.unit)<Zm218_4 a y else Lf [DV.one (Cell.lit (Value.bool true))] [DV.one (Cell.lit (Value.bool (nameOk a.Name&&exprsOk a.Args)))]):=by kernel_rfl
theorem Zo218:Holds EE (218,Zk218):=by
 refine holds_of EE_ok Go.Proofs.Tryz.func218 Zk218 (by kernel_rfl) Zu218 (us_ok _) Za218 (fun(a:DAct) hp hb=> ?_)
 have hz0:=bd_eAct (x:=a) (hb _ m0)
 have hl_a_Name:=hz0.1
 have hl_a_Args:=hz0.2.1
 have hl_a_Undo:=hz0.2.2
 clear hp hb
 rw[Zv218 a]
 dsimp only
 refine if_cond (fun h=>Lf_ff ?_) (fun h=>if_cond (fun h'=>Lf_ff ?_) (fun h'=> ?_))
 ·simp at h;simp[h]
 ·have h':=of_decide_eq_true h';simp only[exprsOk];rw[decide_eq_false (show¬a.Args.length≤5 by omega)];simp
 have h':=of_decide_eq_false h'
 refine⟨⟨by omega,by omega,by omega,by simpa using h,rfl⟩,?_⟩
 rintro⟨i,⟨⟩⟩ ⟨h1,h2,h3,h4,hR⟩
 simp only
 refine if_cond (fun hc=> ?_) (fun hc=> ?_)
 ·have hc:=of_decide_eq_true hc
  rw[all_step _ _ zExpr h1 (by omega)] at hR
  rw[wrap_i64 (by omega) (by omega)]
  refine⟨by omega,by omega,if_cond (fun h=>Lf_ff ?_) (fun h=>⟨⟨by omega,by omega,h3,h4,?_⟩,?_⟩)⟩
  ·simp only[exprsOk,←hR];simp at h;simp[h]
  ·rw[←hR];simp at h;simp[h]
  ·simp only[Zm218_4];omega
 ·have hc:=of_decide_eq_false hc
  rw[drop_end _ (by omega)] at hR
  refine Lf_tt ?_
  simp only[exprsOk,←hR,h4,decide_eq_true h3];rfl
def Zh218:HH:=⟨_,Zo218⟩
def Zk210:Con UU where
 α:=DAct
 md:=[.ro]
 of:=o1 (oA .eAct)
 ds:=fun x=>[dA .eAct x]
 pre:=fun _=>[]
 res:=fun a=>⟨[.one (.lit (.bool (actOk a)))],true,[]⟩
 law:=l1 (lA .eAct)
def Za210:Zk210.α→Nat→Option (Ann UU):=fun a=>annL []
def Zu210:=us [Zh40,Zh71,Zh235]
theorem Zv210(a:DAct):goal EE Zu210 Go.Proofs.Tryz.f210 Zk210 Za210 a=(let x0:Bool:=ByteArray.toList a.Undo==ByteArray.toList {data:= #[]:ByteArray};
let x1:Bool:=a.Kind==(5:Int);
let x2:Bool:=a.N==(0:Int);
bif ByteArray.toList a.Name==ByteArray.toList {data:= #[]:ByteArray} then bif (↑(List.length a.Args):Int)==(0:Int) then bif a.Kind==(1:Int) then bif nameOk a.Name then bif exprsOk a.Args then bif x2 then Lf [DV.one (Cell.lit (Value.bool x0))] [DV.one (Cell.lit (Value.bool (actOk a)))] else Lf [DV.one (Cell.lit (Value.bool false))] [DV.one (Cell.lit (Value.bool (actOk a)))] else Lf [DV.one (Cell.lit (Value.bool false))] [DV.one (Cell.lit (Value.bool (actOk a)))] else Lf [DV.one (Cell.lit (Value.bool false))] [DV.one (Cell.lit (Value.bool (actOk a)))] else bif a.Kind==(3:Int) then bif nameOk a.Name then bif exprsOk a.Args then bif x2 then bif x0 then Lf [DV.one (Cell.lit (Value.bool true))] [DV.one (Cell.lit (Value.bool (actOk a)))] else Lf [DV.one (Cell.lit (Value.bool (nameOk a.Undo)))] [DV.one (Cell.lit (Value.bool (actOk a)))] else Lf [DV.one (Cell.lit (Value.bool false))] [DV.one (Cell.lit (Value.bool (actOk a)))] else Lf [DV.one (Cell.lit (Value.bool false))] [DV.one (Cell.lit (Value.bool (actOk a)))] else Lf [DV.one (Cell.lit (Value.bool false))] [DV.one (Cell.lit (Value.bool (actOk a)))] else bif a.Kind==(4:Int) then bif nameOk a.Name then bif exprsOk a.Args then bif decide ((0:Int)≤a.N∧a.N≤(100000:Int)) then Lf [DV.one (Cell.lit (Value.bool x0))] [DV.one (Cell.lit (Value.bool (actOk a)))] else Lf [DV.one (Cell.lit (Value.bool false))] [DV.one (Cell.lit (Value.bool (actOk a)))] else Lf [DV.one (Cell.lit (Value.bool false))] [DV.one (Cell.lit (Value.bool (actOk a)))] else Lf [DV.one (Cell.lit (Value.bool false))] [DV.one (Cell.lit (Value.bool (actOk a)))] else bif a.Kind==(2:Int) then bif x0 then Lf [DV.one (Cell.lit (Value.bool (decide ((0:Int)≤a.N∧a.N≤(7:Int)))))] [DV.one (Cell.lit (Value.bool (actOk a)))] else Lf [DV.one (Cell.lit (Value.bool false))] [DV.one (Cell.lit (Value.bool (actOk a)))] else bif x1 then bif x1 then bif x0 then Lf [DV.one (Cell.lit (Value.bool x2))] [DV.one (Cell.lit (Value.bool (actOk a)))] else Lf [DV.one (Cell.lit (Value.bool false))] [DV.one (Cell.lit (Value.bool (actOk a)))] else Lf [DV.one (Cell.lit (Value.bool false))] [DV.one (Cell.lit (Value.bool (actOk a)))] else bif a.Kind==(6:Int) then bif x0 then Lf [DV.one (Cell.lit (Value.bool x2))] [DV.one (Cell.lit (Value.bool (actOk a)))] else Lf [DV.one (Cell.lit (Value.bool false))] [DV.one (Cell.lit (Value.bool (actOk a)))] else Lf [DV.one (Cell.lit (Value.bool false))] [DV.one (Cell.lit (Value.bool (actOk a)))] else bif a.Kind==(1:Int) then bif nameOk a.Name then bif exprsOk a.Args then bif x2 then Lf [DV.one (Cell.lit (Value.bool x0))] [DV.one (Cell.lit (Value.bool (actOk a)))] else Lf [DV.one (Cell.lit (Value.bool false))] [DV.one (Cell.lit (Value.bool (actOk a)))] else Lf [DV.one (Cell.lit (Value.bool false))] [DV.one (Cell.lit (Value.bool (actOk a)))] else Lf [DV.one (Cell.lit (Value.bool false))] [DV.one (Cell.lit (Value.bool (actOk a)))] else bif a.Kind==(3:Int) then bif nameOk a.Name then bif exprsOk a.Args then bif x2 then bif x0 then Lf [DV.one (Cell.lit (Value.bool true))] [DV.one (Cell.lit (Value.bool (actOk a)))] else Lf [DV.one (Cell.lit (Value.bool (nameOk a.Undo)))] [DV.one (Cell.lit (Value.bool (actOk a)))] else Lf [DV.one (Cell.lit (Value.bool false))] [DV.one (Cell.lit (Value.bool (actOk a)))] else Lf [DV.one (Cell.lit (Value.bool false))] [DV.one (Cell.lit (Value.bool (actOk a)))] else Lf [DV.one (Cell.lit (Value.bool false))] [DV.one (Cell.lit (Value.bool (actOk a)))] else bif a.Kind==(4:Int) then bif nameOk a.Name then bif exprsOk a.Args then bif decide ((0:Int)≤a.N∧a.N≤(100000:Int)) then Lf [DV.one (Cell.lit (Value.bool x0))] [DV.one (Cell.lit (Value.bool (actOk a)))] else Lf [DV.one (Cell.lit (Value.bool false))] [DV.one (Cell.lit (Value.bool (actOk a)))] else Lf [DV.one (Cell.lit (Value.bool false))] [DV.one (Cell.lit (Value.bool (actOk a)))] else Lf [DV.one (Cell.lit (Value.bool false))] [DV.one (Cell.lit (Value.bool (actOk a)))] else bif a.Kind==(2:Int) then Lf [DV.one (Cell.lit (Value.bool false))] [DV.one (Cell.lit (Value.bool (actOk a)))] else bif x1 then bif x1 then Lf [DV.one (Cell.lit (Value.bool false))] [DV.one (Cell.lit (Value.bool (actOk a)))] else Lf [DV.one (Cell.lit (Value.bool false))] [DV.one (Cell.lit (Value.bool (actOk a)))] else bif a.Kind==(6:Int) then Lf [DV.one (Cell.lit (Value.bool false))] [DV.one (Cell.lit (Value.bool (actOk a)))] else Lf [DV.one (Cell.lit (Value.bool false))] [DV.one (Cell.lit (Value.bool (actOk a)))] else bif a.Kind==(1:Int) then bif nameOk a.Name then bif exprsOk a.Args then bif x2 then Lf [DV.one (Cell.lit (Value.bool x0))] [DV.one (Cell.lit (Value.bool (actOk a)))] else Lf [DV.one (Cell.lit (Value.bool false))] [DV.one (Cell.lit (Value.bool (actOk a)))] else Lf [DV.one (Cell.lit (Value.bool false))] [DV.one (Cell.lit (Value.bool (actOk a)))] else Lf [DV.one (Cell.lit (Value.bool false))] [DV.one (Cell.lit (Value.bool (actOk a)))] else bif a.Kind==(3:Int) then bif nameOk a.Name then bif exprsOk a.Args then bif x2 then bif x0 then Lf [DV.one (Cell.lit (Value.bool true))] [DV.one (Cell.lit (Value.bool (actOk a)))] else Lf [DV.one (Cell.lit (Value.bool (nameOk a.Undo)))] [DV.one (Cell.lit (Value.bool (actOk a)))] else Lf [DV.one (Cell.lit (Value.bool false))] [DV.one (Cell.lit (Value.bool (actOk a)))] else Lf [DV.one (Cell.lit (Value.bool false))] [DV.one (Cell.lit (Value.bool (actOk a)))] else Lf [DV.one (Cell.lit (Value.bool false))] [DV.one (Cell.lit (Value.bool (actOk a)))] else bif a.Kind==(4:Int) then bif nameOk a.Name then bif exprsOk a.Args then bif decide ((0:Int)≤a.N∧a.N≤(100000:Int)) then Lf [DV.one (Cell.lit (Value.bool x0))] [DV.one (Cell.lit (Value.bool (actOk a)))] else Lf [DV.one (Cell.lit (Value.bool false))] [DV.one (Cell.lit (Value.bool (actOk a)))] else Lf [DV.one (Cell.lit (Value.bool false))] [DV.one (Cell.lit (Value.bool (actOk a)))] else Lf [DV.one (Cell.lit (Value.bool false))] [DV.one (Cell.lit (Value.bool (actOk a)))] else bif a.Kind==(2:Int) then Lf [DV.one (Cell.lit (Value.bool false))] [DV.one (Cell.lit (Value.bool (actOk a)))] else bif x1 then bif x1 then Lf [DV.one (Cell.lit (Value.bool false))] [DV.one (Cell.lit (Value.bool (actOk a)))] else Lf [DV.one (Cell.lit (Value.bool false))] [DV.one (Cell.lit (Value.bool (actOk a)))] else bif a.Kind==(6:Int) then Lf [DV.one (Cell.lit (Value.bool false))] [DV.one (Cell.lit (Value.bool (actOk a)))] else Lf [DV.one (Cell.lit (Value.bool false))] [DV.one (Cell.lit (Value.bool (actOk a)))]):=by kernel_rfl
theorem Zo210:Holds EE (210,Zk210):=by
 refine holds_of EE_ok Go.Proofs.Tryz.func210 Zk210 (by kernel_rfl) Zu210 (us_ok _) Za210 (fun(a:DAct) hp hb=> ?_)
 have hz0:=bd_eAct (x:=a) (hb _ m0)
 have hl_a_Name:=hz0.1
 have hl_a_Args:=hz0.2.1
 have hl_a_Undo:=hz0.2.2
 clear hp hb
 rw[Zv210 a]
 dsimp only
 have e:∀s:ByteArray,(ByteArray.toList s==ByteArray.toList {data:= #[]})=decide (s=noBytes):=fun s=>toList_beq _ _
 simp only[e,actOk,bareA,undoOk]
 repeat' (refine if_cond (fun h=> ?_) (fun h=> ?_))
 all_goals (refine Lf_b ?_;grind)
def Zh210:HH:=⟨_,Zo210⟩
def Zk176:Con UU where
 α:=DAct
 md:=[.ro]
 of:=o1 (oA .eAct)
 ds:=fun x=>[dA .eAct x]
 pre:=fun _=>[]
 res:=fun a=>⟨[.one (.lit (.bool (actOk a)))],true,[]⟩
 law:=l1 (lA .eAct)
def Za176:Zk176.α→Nat→Option (Ann UU):=fun a=>annL []
def Zu176:=us [Zh56,Zh218,Zh184]
theorem Zv176(a:DAct):goal EE Zu176 Go.Proofs.Tryz.f176 Zk176 Za176 a=(let x0:Bool:=a.Kind==(5:Int);
let x1:Bool:=nameOk a.Name&&exprsOk a.Args;
bif ByteArray.toList a.Name==ByteArray.toList {data:= #[]:ByteArray} then bif a.Kind==(1:Int) then bif x1 then bif a.N==(0:Int) then Lf [DV.one (Cell.lit (Value.bool (ByteArray.toList a.Undo==ByteArray.toList {data:= #[]:ByteArray})))] [DV.one (Cell.lit (Value.bool (actOk a)))] else Lf [DV.one (Cell.lit (Value.bool false))] [DV.one (Cell.lit (Value.bool (actOk a)))] else Lf [DV.one (Cell.lit (Value.bool false))] [DV.one (Cell.lit (Value.bool (actOk a)))] else bif a.Kind==(2:Int) then bif (↑(List.length a.Args):Int)==(0:Int) then bif decide ((0:Int)≤a.N∧a.N≤(7:Int)) then Lf [DV.one (Cell.lit (Value.bool (ByteArray.toList a.Undo==ByteArray.toList {data:= #[]:ByteArray})))] [DV.one (Cell.lit (Value.bool (actOk a)))] else Lf [DV.one (Cell.lit (Value.bool false))] [DV.one (Cell.lit (Value.bool (actOk a)))] else Lf [DV.one (Cell.lit (Value.bool false))] [DV.one (Cell.lit (Value.bool (actOk a)))] else bif a.Kind==(3:Int) then bif x1 then bif a.N==(0:Int) then Lf [DV.one (Cell.lit (Value.bool (undoOk a.Undo)))] [DV.one (Cell.lit (Value.bool (actOk a)))] else Lf [DV.one (Cell.lit (Value.bool false))] [DV.one (Cell.lit (Value.bool (actOk a)))] else Lf [DV.one (Cell.lit (Value.bool false))] [DV.one (Cell.lit (Value.bool (actOk a)))] else bif a.Kind==(4:Int) then bif x1 then bif decide ((0:Int)≤a.N∧a.N≤(100000:Int)) then Lf [DV.one (Cell.lit (Value.bool (ByteArray.toList a.Undo==ByteArray.toList {data:= #[]:ByteArray})))] [DV.one (Cell.lit (Value.bool (actOk a)))] else Lf [DV.one (Cell.lit (Value.bool false))] [DV.one (Cell.lit (Value.bool (actOk a)))] else Lf [DV.one (Cell.lit (Value.bool false))] [DV.one (Cell.lit (Value.bool (actOk a)))] else bif x0 then bif x0 then bif (↑(List.length a.Args):Int)==(0:Int) then bif a.N==(0:Int) then Lf [DV.one (Cell.lit (Value.bool (ByteArray.toList a.Undo==ByteArray.toList {data:= #[]:ByteArray})))] [DV.one (Cell.lit (Value.bool (actOk a)))] else Lf [DV.one (Cell.lit (Value.bool false))] [DV.one (Cell.lit (Value.bool (actOk a)))] else Lf [DV.one (Cell.lit (Value.bool false))] [DV.one (Cell.lit (Value.bool (actOk a)))] else Lf [DV.one (Cell.lit (Value.bool false))] [DV.one (Cell.lit (Value.bool (actOk a)))] else bif a.Kind==(6:Int) then bif (↑(List.length a.Args):Int)==(0:Int) then bif a.N==(0:Int) then Lf [DV.one (Cell.lit (Value.bool (ByteArray.toList a.Undo==ByteArray.toList {data:= #[]:ByteArray})))] [DV.one (Cell.lit (Value.bool (actOk a)))] else Lf [DV.one (Cell.lit (Value.bool false))] [DV.one (Cell.lit (Value.bool (actOk a)))] else Lf [DV.one (Cell.lit (Value.bool false))] [DV.one (Cell.lit (Value.bool (actOk a)))] else Lf [DV.one (Cell.lit (Value.bool false))] [DV.one (Cell.lit (Value.bool (actOk a)))] else bif a.Kind==(1:Int) then bif x1 then bif a.N==(0:Int) then Lf [DV.one (Cell.lit (Value.bool (ByteArray.toList a.Undo==ByteArray.toList {data:= #[]:ByteArray})))] [DV.one (Cell.lit (Value.bool (actOk a)))] else Lf [DV.one (Cell.lit (Value.bool false))] [DV.one (Cell.lit (Value.bool (actOk a)))] else Lf [DV.one (Cell.lit (Value.bool false))] [DV.one (Cell.lit (Value.bool (actOk a)))] else bif a.Kind==(2:Int) then Lf [DV.one (Cell.lit (Value.bool false))] [DV.one (Cell.lit (Value.bool (actOk a)))] else bif a.Kind==(3:Int) then bif x1 then bif a.N==(0:Int) then Lf [DV.one (Cell.lit (Value.bool (undoOk a.Undo)))] [DV.one (Cell.lit (Value.bool (actOk a)))] else Lf [DV.one (Cell.lit (Value.bool false))] [DV.one (Cell.lit (Value.bool (actOk a)))] else Lf [DV.one (Cell.lit (Value.bool false))] [DV.one (Cell.lit (Value.bool (actOk a)))] else bif a.Kind==(4:Int) then bif x1 then bif decide ((0:Int)≤a.N∧a.N≤(100000:Int)) then Lf [DV.one (Cell.lit (Value.bool (ByteArray.toList a.Undo==ByteArray.toList {data:= #[]:ByteArray})))] [DV.one (Cell.lit (Value.bool (actOk a)))] else Lf [DV.one (Cell.lit (Value.bool false))] [DV.one (Cell.lit (Value.bool (actOk a)))] else Lf [DV.one (Cell.lit (Value.bool false))] [DV.one (Cell.lit (Value.bool (actOk a)))] else bif x0 then bif x0 then Lf [DV.one (Cell.lit (Value.bool false))] [DV.one (Cell.lit (Value.bool (actOk a)))] else Lf [DV.one (Cell.lit (Value.bool false))] [DV.one (Cell.lit (Value.bool (actOk a)))] else bif a.Kind==(6:Int) then Lf [DV.one (Cell.lit (Value.bool false))] [DV.one (Cell.lit (Value.bool (actOk a)))] else Lf [DV.one (Cell.lit (Value.bool false))] [DV.one (Cell.lit (Value.bool (actOk a)))]):=by kernel_rfl
theorem Zo176:Holds EE (176,Zk176):=by
 refine holds_of EE_ok Go.Proofs.Tryz.func176 Zk176 (by kernel_rfl) Zu176 (us_ok _) Za176 (fun(a:DAct) hp hb=> ?_)
 have hz0:=bd_eAct (x:=a) (hb _ m0)
 have hl_a_Name:=hz0.1
 have hl_a_Args:=hz0.2.1
 have hl_a_Undo:=hz0.2.2
 clear hp hb
 rw[Zv176 a]
 dsimp only
 have e:∀s:ByteArray,(ByteArray.toList s==ByteArray.toList {data:= #[]})=decide (s=noBytes):=fun s=>toList_beq _ _
 simp only[e,actOk,bareA,undoOk]
 repeat' (refine if_cond (fun h=> ?_) (fun h=> ?_))
 all_goals (refine Lf_b ?_;grind)
def Zh176:HH:=⟨_,Zo176⟩
def hasS(l:List ByteArray)(s:ByteArray):Bool:=l.any fun t=>decide (t=s)
theorem hasS_iff{l:List ByteArray}{s:ByteArray}:hasS l s=true↔s∈l:=by
 simp only[hasS,List.any_eq_true,decide_eq_true_eq]
 exact⟨fun⟨t,h1,h2⟩=>h2▸h1,fun h=>⟨s,h,rfl⟩⟩
def addOnce(l:List ByteArray)(s:ByteArray):List ByteArray:=if hasS l s then l else l++[s]
def addVar(l:List ByteArray)(a:DArg):List ByteArray:=if a.K=1 then addOnce l a.S else l
def addVars(l:List ByteArray)(xs:List DArg):List ByteArray:=xs.foldl addVar l
theorem addOnce_mem{l:List ByteArray}{s t:ByteArray}:t∈addOnce l s↔t∈l∨t=s:=by
 unfold addOnce;split
 ·rename_i h
  exact⟨.inl,fun h'=>h'.elim id (fun e=>e▸hasS_iff.1 h)⟩
 ·simp
theorem addOnce_len(l:List ByteArray)(s:ByteArray):(addOnce l s).length≤l.length+1:=by
 unfold addOnce;split
 ·omega
 ·simp
theorem addVar_mem{l:List ByteArray}{a:DArg}{t:ByteArray}:t∈addVar l a↔t∈l∨(a.K=1∧t=a.S):=by
 unfold addVar;split
 ·rename_i h;rw[addOnce_mem];simp[h]
 ·rename_i h;simp[h]
theorem addVar_len(l:List ByteArray)(a:DArg):(addVar l a).length≤l.length+1:=by
 unfold addVar;split
 ·exact addOnce_len _ _
 ·omega
theorem addVars_mem{t:ByteArray}:∀{xs:List DArg}{l:List ByteArray},t∈addVars l xs↔t∈l∨∃a∈xs,a.K=1∧t=a.S
 |[],l=>by simp[addVars]
 |a::xs,l=>by
  show t∈addVars (addVar l a) xs↔_
  rw[addVars_mem,addVar_mem]
  simp only[List.mem_cons,exists_eq_or_imp,or_assoc]
theorem addVars_len:∀(xs:List DArg)(l:List ByteArray),(addVars l xs).length≤l.length+xs.length
 |[],l=>Nat.le_refl _
 |a::xs,l=>by
  have h1:=addVars_len xs (addVar l a)
  have h2:=addVar_len l a
  show(addVars (addVar l a) xs).length≤_
  simp only[List.length_cons];omega
theorem addVars_step(l:List ByteArray)(xs:List DArg){i:Int}(h0:0≤i)(h:i<xs.length):addVars l (xs.take (i+1).toNat)=addVar (addVars l (xs.take i.toNat)) (List.getD xs i.toNat zArg):=by
 rw[←take_step xs zArg h0 h]
 simp only[addVars,List.foldl_append,List.foldl_cons,List.foldl_nil]
def posVar(l:List ByteArray)(p:DPat):List ByteArray:=if p.Not then l else addVars l p.Args
def posVars(ps:List DPat):List ByteArray:=ps.foldl posVar []
theorem foldl_step{α β:Type}(f:β→α→β)(b:β)(l:List α)(z:α){i:Int}(h0:0≤i)(h:i<l.length):(l.take (i+1).toNat).foldl f b=f ((l.take i.toNat).foldl f b) (List.getD l i.toNat z):=by
 rw[←take_step l z h0 h]
 simp only[List.foldl_append,List.foldl_cons,List.foldl_nil]
def patArgs(ps:List DPat):Nat:=(ps.map fun p=>p.Args.length).sum
def isBound(ps:List DPat)(t:ByteArray):Prop:=∃p∈ps,p.Not=false∧∃a∈p.Args,a.K=1∧t=a.S
theorem posVar_mem{l:List ByteArray}{p:DPat}{t:ByteArray}:t∈posVar l p↔t∈l∨(p.Not=false∧∃a∈p.Args,a.K=1∧t=a.S):=by
 unfold posVar
 cases h:p.Not
 ·simp only[Bool.false_eq_true,if_false];rw[addVars_mem];simp
 ·simp
theorem posVars_mem0{t:ByteArray}:∀{ps:List DPat}{l:List ByteArray},t∈ps.foldl posVar l↔t∈l∨isBound ps t
 |[],l=>by simp[isBound]
 |p::ps,l=>by
  show t∈ps.foldl posVar (posVar l p)↔_
  rw[posVars_mem0,posVar_mem]
  simp only[isBound,List.mem_cons,exists_eq_or_imp,or_assoc]
theorem posVars_mem{ps:List DPat}{t:ByteArray}:t∈posVars ps↔isBound ps t:=by
 unfold posVars;rw[posVars_mem0];simp
theorem posVars_len0:∀(ps:List DPat)(l:List ByteArray),(ps.foldl posVar l).length≤l.length+patArgs ps
 |[],l=>Nat.le_refl _
 |p::ps,l=>by
  have h1:=posVars_len0 ps (posVar l p)
  have h2:(posVar l p).length≤l.length+p.Args.length:=by
   unfold posVar;split
   ·omega
   ·exact addVars_len _ _
  show(ps.foldl posVar (posVar l p)).length≤_
  simp only[patArgs,List.map_cons,List.sum_cons] at h1⊢;omega
def posVarS(l:List ByteArray)(p:DPat):List ByteArray:=if p.Not then l else(addVars [] p.Args).foldl addOnce l
def posVarsS(ps:List DPat):List ByteArray:=ps.foldl posVarS []
theorem foldOnce_mem{t:ByteArray}:∀{xs l:List ByteArray},t∈xs.foldl addOnce l↔t∈l∨t∈xs
 |[],l=>by simp
 |a::xs,l=>by
  show t∈xs.foldl addOnce (addOnce l a)↔_
  rw[foldOnce_mem,addOnce_mem,List.mem_cons,or_assoc]
theorem foldOnce_len:∀(xs l:List ByteArray),(xs.foldl addOnce l).length≤l.length+xs.length
 |[],l=>Nat.le_refl _
 |a::xs,l=>by
  have h1:=foldOnce_len xs (addOnce l a)
  have h2:=addOnce_len l a
  show(xs.foldl addOnce (addOnce l a)).length≤_
  simp only[List.length_cons];omega
theorem posVarS_mem{l:List ByteArray}{p:DPat}{t:ByteArray}:t∈posVarS l p↔t∈l∨(p.Not=false∧∃a∈p.Args,a.K=1∧t=a.S):=by
 unfold posVarS
 cases h:p.Not
 ·simp only[Bool.false_eq_true,if_false];rw[foldOnce_mem,addVars_mem];simp
 ·simp
theorem posVarsS_mem0{t:ByteArray}:∀{ps:List DPat}{l:List ByteArray},t∈ps.foldl posVarS l↔t∈l∨isBound ps t
 |[],l=>by simp[isBound]
 |p::ps,l=>by
  show t∈ps.foldl posVarS (posVarS l p)↔_
  rw[posVarsS_mem0,posVarS_mem]
  simp only[isBound,List.mem_cons,exists_eq_or_imp,or_assoc]
theorem posVarsS_mem{ps:List DPat}{t:ByteArray}:t∈posVarsS ps↔isBound ps t:=by
 unfold posVarsS;rw[posVarsS_mem0];simp
theorem posVarsS_len0:∀(ps:List DPat)(l:List ByteArray),(ps.foldl posVarS l).length≤l.length+patArgs ps
 |[],l=>Nat.le_refl _
 |p::ps,l=>by
  have h1:=posVarsS_len0 ps (posVarS l p)
  have h2:(posVarS l p).length≤l.length+p.Args.length:=by
   unfold posVarS;split
   ·omega
   ·have g1:=foldOnce_len (addVars [] p.Args) l
    have g2:=addVars_len p.Args []
    simp only[List.length_nil] at g2;omega
  show(ps.foldl posVarS (posVarS l p)).length≤_
  simp only[patArgs,List.map_cons,List.sum_cons] at h1⊢;omega
theorem patArgs_take(ps:List DPat)(n:Nat):patArgs (ps.take n)≤patArgs ps:=by
 have h:=congrArg (fun q=>(q.map fun p:DPat=>p.Args.length).sum) (List.take_append_drop n ps)
 simp only[List.map_append,List.sum_append] at h
 simp only[patArgs];omega
theorem patArgs_at(ps:List DPat){i:Int}(h0:0≤i)(h:i<ps.length):patArgs (ps.take i.toNat)+(List.getD ps i.toNat zPat).Args.length≤patArgs ps:=by
 have h1:=patArgs_take ps (i+1).toNat
 rw[←take_step ps zPat h0 h] at h1
 simp only[patArgs,List.map_append,List.sum_append,List.map_cons,List.map_nil,List.sum_cons,List.sum_nil] at h1⊢
 omega
def posN(ps:List DPat):Nat:=(ps.filter fun p=> !p.Not).length
theorem hasS_step{l:List ByteArray}{s:ByteArray}{i:Int}(h0:0≤i)(hl:i<l.length)(h:∀j:Nat,(j:Int)<i→¬List.getD l j noBytes=s)(hi:¬List.getD l i.toNat noBytes=s):∀j:Nat,(j:Int)<i+1→¬List.getD l j noBytes=s:=by
 intro j hj
 by_cases hji:(j:Int)<i
 ·exact h j hji
 ·have:j=i.toNat:=by omega
  subst this;exact hi
theorem hasS_no{l:List ByteArray}{s:ByteArray}(h:∀j:Nat,j<l.length→¬List.getD l j noBytes=s):hasS l s=false:=by
 rw[←Bool.not_eq_true,hasS_iff]
 intro hm
 obtain⟨j,hj,rfl⟩:=List.getElem_of_mem hm
 exact h j hj (by rw[List.getD_eq_getElem?_getD,List.getElem?_eq_getElem hj];rfl)
theorem hasS_yes{l:List ByteArray}{s:ByteArray}{j:Nat}(hj:j<l.length)(h:List.getD l j noBytes=s):hasS l s=true:=by
 rw[hasS_iff,←h,List.getD_eq_getElem?_getD,List.getElem?_eq_getElem hj]
 exact List.getElem_mem hj
theorem posN_step(ps:List DPat){i:Int}(h0:0≤i)(h:i<ps.length):posN (ps.take (i+1).toNat)=posN (ps.take i.toNat)+(if(!(List.getD ps i.toNat zPat).Not)=true then 1 else 0):=by
 rw[←take_step ps zPat h0 h]
 simp only[posN,List.filter_append,List.length_append,List.filter_cons,List.filter_nil]
 split<;>simp
theorem posN_le(ps:List DPat)(n:Nat):posN (ps.take n)≤n:=Nat.le_trans (List.length_filter_le _ _) (by simp;omega)
def Zk206:Con UU where
 α:=(List ByteArray)×ByteArray
 md:=[.ro,.ro]
 of:=oC (oL .str) (o1 oS)
 ds:=fun x=>[dL .str x.1,dS x.2]
 pre:=fun _=>[]
 res:=fun(l,s)=>⟨[.one (.lit (.bool (hasS l s)))],true,[]⟩
 law:=lC (lL .str) (l1 lS)
def Zi206_2(l:(List ByteArray))(s:ByteArray):Int×Unit→Prop:=fun(i,_)=>0≤i∧i≤l.length∧∀j:Nat,(j:Int)<i→¬List.getD l j noBytes=s
def Zm206_2(l:(List ByteArray))(s:ByteArray):Int×Unit→Nat:=fun(i,_)=>l.length-i.toNat
def Za206:Zk206.α→Nat→Option (Ann UU):=fun(l,s)=>annL [(2,annOf [.slot 5 (5,1024) (.lit (.int .i64))] (fun _=>Zi206_2 l s) (Zm206_2 l s))]
def Zu206:List (FuncId×Con UU):=[]
theorem Zv206(l:(List ByteArray))(s:ByteArray):goal EE Zu206 Go.Proofs.Tryz.f206 Zk206 Za206 (l,s)=(Zi206_2 l s ((0:Int),())∧∀(y:Int×PUnit),Zi206_2 l s y→bif decide (y.1<(l.length:Int)) then(0:Int)≤y.1∧y.1.toNat<l.length∧bif ByteArray.toList (List.getD l y.1.toNat noBytes)==ByteArray.toList s then Lb true (hasS l s) else Zi206_2 l s (IntKind.wrap IntKind.i64 (y.1+(1:Int)),())∧Zm206_2 l s (IntKind.wrap IntKind.i64 (y.1+(1:Int)),())<Zm206_2 l s y else Lb false (hasS l s)):=by kernel_rfl
theorem Zo206:Holds EE (206,Zk206):=by
 refine holds_of EE_ok Go.Proofs.Tryz.func206 Zk206 (by kernel_rfl) Zu206 all_nil Za206 (fun x hp hb=> ?_)
 obtain⟨l,s⟩:=x
 have hl_l:l.length≤9223372036854775807:=bdL (hb _ m0)
 have hl_s:=bdS (s:=s) (hb _ m1)
 clear hp hb
 rw[Zv206 l s]
 refine⟨⟨by omega,by omega,by intro j hj;omega⟩,?_⟩
 rintro⟨i,⟨⟩⟩ ⟨h1,h2,hR⟩
 simp only[toList_beq]
 refine if_cond (fun hc=> ?_) (fun hc=> ?_)
 ·have hc:=of_decide_eq_true hc
  rw[wrap_i64 (by omega) (by omega)]
  refine⟨by omega,by omega,if_cond (fun h=>Lf_tt (hasS_yes (j:=i.toNat) (by omega) (of_decide_eq_true h))) (fun h=>⟨⟨by omega,by omega,hasS_step h1 hc hR (of_decide_eq_false h)⟩,by simp only[Zm206_2];omega⟩)⟩
 ·have hc:=of_decide_eq_false hc
  exact Lf_ff (hasS_no fun j hj=>hR j (by omega))
def Zh206:HH:=⟨_,Zo206⟩
def Zk220:Con UU where
 α:=(List ByteArray)×ByteArray
 md:=[.ro,.ro]
 of:=oC (oL .str) (o1 oS)
 ds:=fun x=>[dL .str x.1,dS x.2]
 pre:=fun _=>[]
 res:=fun(l,s)=>⟨[.one (.lit (.int .i64 (idxI l.length (fun j=>decide (List.getD l j noBytes=s)))))],true,[]⟩
 law:=lC (lL .str) (l1 lS)
def Zi220_2(l:(List ByteArray))(s:ByteArray):Int×Unit→Prop:=fun(i,_)=>0≤i∧i≤l.length∧∀j:Nat,(j:Int)<i→¬List.getD l j noBytes=s
def Zm220_2(l:(List ByteArray))(s:ByteArray):Int×Unit→Nat:=fun(i,_)=>l.length-i.toNat
def Za220:Zk220.α→Nat→Option (Ann UU):=fun(l,s)=>annL [(2,annOf [.slot 8 (8,1024) (.lit (.int .i64))] (fun _=>Zi220_2 l s) (Zm220_2 l s))]
def Zu220:List (FuncId×Con UU):=[]
theorem Zv220(l:(List ByteArray))(s:ByteArray):goal EE Zu220 Go.Proofs.Tryz.f220 Zk220 Za220 (l,s)=(Zi220_2 l s ((0:Int),())∧∀(y:Int×PUnit),Zi220_2 l s y→bif decide (y.1<(l.length:Int)) then(0:Int)≤y.1∧y.1.toNat<l.length∧bif ByteArray.toList s==ByteArray.toList (List.getD l y.1.toNat noBytes) then Li y.1 (idxI (l.length) fun(j:Nat)=>decide (List.getD l j noBytes=s)) else Zi220_2 l s (IntKind.wrap IntKind.i64 (y.1+(1:Int)),())∧Zm220_2 l s (IntKind.wrap IntKind.i64 (y.1+(1:Int)),())<Zm220_2 l s y else Li (-1:Int) (idxI (l.length) fun(j:Nat)=>decide (List.getD l j noBytes=s))):=by kernel_rfl
theorem Zo220:Holds EE (220,Zk220):=by
 refine holds_of EE_ok Go.Proofs.Tryz.func220 Zk220 (by kernel_rfl) Zu220 all_nil Za220 (fun x hp hb=> ?_)
 obtain⟨l,s⟩:=x
 have hl_l:l.length≤9223372036854775807:=bdL (hb _ m0)
 have hl_s:=bdS (s:=s) (hb _ m1)
 clear hp hb
 rw[Zv220 l s]
 refine⟨⟨by omega,by omega,by intro j hj;omega⟩,?_⟩
 rintro⟨i,⟨⟩⟩ ⟨h1,h2,hR⟩
 simp only[toList_beq]
 refine if_cond (fun hc=> ?_) (fun hc=> ?_)
 ·have hc:=of_decide_eq_true hc
  rw[wrap_i64 (by omega) (by omega)]
  refine⟨by omega,by omega,if_cond (fun h=>Lf_i ?_) (fun h=>⟨⟨by omega,by omega,hasS_step h1 hc hR (fun e=>of_decide_eq_false h e.symm)⟩,by simp only[Zm220_2];omega⟩)⟩
  rw[idxI_found (i:=i.toNat) (by omega) (decide_eq_true (of_decide_eq_true h).symm) (fun j hj=>decide_eq_false (hR j (by omega)))]
  omega
 ·have hc:=of_decide_eq_false hc
  exact Lf_i (idxI_none (fun j hj=>decide_eq_false (hR j (by omega)))).symm
def Zh220:HH:=⟨_,Zo220⟩
def Zk179:Con UU where
 α:=(List ByteArray)×ByteArray
 md:=[.ro,.ro]
 of:=oC (oL .str) (o1 oS)
 ds:=fun x=>[dL .str x.1,dS x.2]
 pre:=fun _=>[]
 res:=fun(l,s)=>⟨[.one (.lit (.bool (hasS l s)))],true,[]⟩
 law:=lC (lL .str) (l1 lS)
def Za179:Zk179.α→Nat→Option (Ann UU):=fun(l,s)=>annL []
def Zu179:=us [Zh220]
theorem Zv179(l:(List ByteArray))(s:ByteArray):goal EE Zu179 Go.Proofs.Tryz.f179 Zk179 Za179 (l,s)=(let x0:Int:=idxI (l.length) fun(j:Nat)=>decide (List.getD l j noBytes=s);
Lf [DV.one (Cell.lit (Value.bool (decide (x0≥(0:Int)))))] [DV.one (Cell.lit (Value.bool (hasS l s)))]):=by kernel_rfl
theorem Zo179:Holds EE (179,Zk179):=by
 refine holds_of EE_ok Go.Proofs.Tryz.func179 Zk179 (by kernel_rfl) Zu179 (us_ok _) Za179 (fun x hp hb=> ?_)
 obtain⟨l,s⟩:=x
 have hl_l:l.length≤9223372036854775807:=bdL (hb _ m0)
 have hl_s:=bdS (s:=s) (hb _ m1)
 clear hp hb
 rw[Zv179 l s]
 dsimp only
 refine Lf_b ?_
 show decide (0≤idxI l.length (fun j=>decide (List.getD l j noBytes=s)))=_
 rw[idxI_ge]
 by_cases h:hasS l s=true
 ·rw[h]
  obtain⟨j,hj,hs⟩:=List.getElem_of_mem (hasS_iff.1 h)
  exact anyI_true hj (decide_eq_true (by rw[List.getD_eq_getElem?_getD,List.getElem?_eq_getElem hj];exact hs))
 ·rw[Bool.not_eq_true] at h
  rw[h]
  exact anyI_false fun j hj=>decide_eq_false fun e=>absurd (hasS_yes hj e) (by rw[h];decide)
def Zh179:HH:=⟨_,Zo179⟩
def Zk83:Con UU where
 α:=DRule
 md:=[.ro]
 of:=o1 (oA .eRule)
 ds:=fun x=>[dA .eRule x]
 pre:=fun _=>[]
 res:=fun r=>⟨[.one (.lit (.int .i64 (posN r.Pats:Int)))],true,[]⟩
 law:=l1 (lA .eRule)
def Zi83_3(r:DRule):Int×Int×(ByteArray×Int×List DPat×List DCond×List DAct×Unit)×Unit→Prop:=fun(n,i,b,_)=>b=(r.Name,r.Sal,r.Pats,r.Conds,r.Acts,())∧0≤i∧i≤r.Pats.length∧n=posN (r.Pats.take i.toNat)
def Zm83_3(r:DRule):Int×Int×(ByteArray×Int×List DPat×List DCond×List DAct×Unit)×Unit→Nat:=fun(n,i,b,_)=>r.Pats.length-i.toNat
def Za83:Zk83.α→Nat→Option (Ann UU):=fun r=>annL [(3,annOf [.slot 3 (3,1024) (.lit (.int .i64)),.slot 4 (4,1024) (.lit (.int .i64)),.box 1 (1,1024) [.lit .str,.lit (.int .i64),.shr .ePat,.shr .eCond,.shr .eAct]] (fun _=>Zi83_3 r) (Zm83_3 r))]
def Zu83:List (FuncId×Con UU):=[]
theorem Zv83(r:DRule):goal EE Zu83 Go.Proofs.Tryz.f83 Zk83 Za83 r=(Zi83_3 r ((0:Int),(0:Int),(r.Name,r.Sal,r.Pats,r.Conds,r.Acts,()),())∧
 ∀(y:Int×Int×(ByteArray×Int×List DPat×List DCond×List DAct×PUnit)×PUnit),
  let x1:Nat:=List.length y.2.2.1.2.2.1;
  let x2:Nat:=Int.toNat y.2.1;
  let x0:Int:=(↑x1:Int);
  Zi83_3 r y→bif decide (y.2.1<x0) then(0:Int)≤y.2.1∧x2<x1∧bif !(List.getD y.2.2.1.2.2.1 x2 zPat).Not then Zi83_3 r (IntKind.wrap IntKind.i64 (y.1+(1:Int)),IntKind.wrap IntKind.i64 (y.2.1+(1:Int)),(y.2.2.1.1,y.2.2.1.2.1,y.2.2.1.2.2.1,y.2.2.1.2.2.2.1,y.2.2.1.2.2.2.2.1,PUnit.unit),PUnit.unit)∧Zm83_3 r (IntKind.wrap IntKind.i64 (y.1+(1:Int)),IntKind.wrap IntKind.i64 (y.2.1+(1:Int)),(y.2.2.1.1,y.2.2.1.2.1,y.2.2.1.2.2.1,y.2.2.1.2.2.2.1,y.2.2.1.2.2.2.2.1,PUnit.unit),PUnit.unit)<Zm83_3 r y else Zi83_3 r (y.1,IntKind.wrap IntKind.i64 (y.2.1+(1:Int)),(y.2.2.1.1,y.2.2.1.2.1,y.2.2.1.2.2.1,y.2.2.1.2.2.2.1,y.2.2.1.2.2.2.2.1,PUnit.unit),PUnit.unit)∧Zm83_3 r (y.1,IntKind.wrap IntKind.i64 (y.2.1+(1:Int)),(y.2.2.1.1,y.2.2.1.2.1,y.2.2.1.2.2.1,y.2.2.1.2.2.2.1,y.2.2.1.2.2.2.2.1,PUnit.unit),PUnit.unit)<Zm83_3 r y else Lf [DV.one (Cell.lit (Value.int IntKind.i64 y.1))] [DV.one (Cell.lit (Value.int IntKind.i64 (↑(posN r.Pats):Int)))]):=by kernel_rfl
theorem Zo83:Holds EE (83,Zk83):=by
 refine holds_of EE_ok Go.Proofs.Tryz.func83 Zk83 (by kernel_rfl) Zu83 all_nil Za83 (fun(r:DRule) hp hb=> ?_)
 have hz0:=bd_eRule (x:=r) (hb _ m0)
 have hl_r_Name:=hz0.1
 have hl_r_Pats:=hz0.2.1
 have hl_r_Conds:=hz0.2.2.1
 have hl_r_Acts:=hz0.2.2.2
 clear hp hb
 rw[Zv83 r]
 dsimp only
 refine⟨⟨rfl,by omega,by omega,rfl⟩,?_⟩
 rintro⟨n,i,⟨b1,b2,b3,b4,b5,⟨⟩⟩,⟨⟩⟩ ⟨hbx,h1,h2,rfl⟩
 cases hbx
 simp only
 refine if_cond (fun hc=> ?_) (fun hc=> ?_)
 ·have hc:=of_decide_eq_true hc
  have hs:=posN_step r.Pats h1 hc
  have hle:posN (r.Pats.take i.toNat)≤i.toNat:=posN_le _ _
  rw[wrap_i64 (n:=i+1) (by omega) (by omega),wrap_i64 (n:=(posN (r.Pats.take i.toNat):Int)+1) (by omega) (by omega)]
  have hm:i.toNat<r.Pats.length:=by omega
  refine⟨by omega,by omega,if_cond (fun h=>⟨⟨rfl,by omega,by omega,?_⟩,by simp only[Zm83_3];omega⟩) (fun h=>⟨⟨rfl,by omega,by omega,?_⟩,by simp only[Zm83_3];omega⟩)⟩
  ·rw[hs,if_pos h];omega
  ·rw[hs,if_neg (by rw[h];decide)];omega
 ·have hc:=of_decide_eq_false hc
  rw[take_all r.Pats (by omega)]
  exact Lf_rfl _
def Zh83:HH:=⟨_,Zo83⟩
def Zk125:Con UU where
 α:=DRule
 md:=[.ro]
 of:=o1 (oA .eRule)
 ds:=fun x=>[dA .eRule x]
 pre:=fun _=>[]
 res:=fun r=>⟨[.one (.lit (.int .i64 (posN r.Pats:Int)))],true,[]⟩
 law:=l1 (lA .eRule)
def Zi125_3(r:DRule):Int×Int×Unit→Prop:=fun(n,i,_)=>0≤i∧i≤r.Pats.length∧n=posN (r.Pats.take i.toNat)
def Zm125_3(r:DRule):Int×Int×Unit→Nat:=fun(n,i,_)=>r.Pats.length-i.toNat
def Za125:Zk125.α→Nat→Option (Ann UU):=fun r=>annL [(3,annOf [.slot 3 (3,1024) (.lit (.int .i64)),.slot 9 (9,1024) (.lit (.int .i64))] (fun _=>Zi125_3 r) (Zm125_3 r))]
def Zu125:List (FuncId×Con UU):=[]
theorem Zv125(r:DRule):goal EE Zu125 Go.Proofs.Tryz.f125 Zk125 Za125 r=(Zi125_3 r ((0:Int),(0:Int),())∧
 ∀(y:Int×Int×PUnit),
  let x0:Nat:=Int.toNat y.2.1;
  Zi125_3 r y→bif decide (y.2.1<(↑(List.length r.Pats):Int)) then(0:Int)≤y.2.1∧x0<List.length r.Pats∧bif !(List.getD r.Pats x0 zPat).Not then Zi125_3 r (IntKind.wrap IntKind.i64 (y.1+(1:Int)),IntKind.wrap IntKind.i64 (y.2.1+(1:Int)),PUnit.unit)∧Zm125_3 r (IntKind.wrap IntKind.i64 (y.1+(1:Int)),IntKind.wrap IntKind.i64 (y.2.1+(1:Int)),PUnit.unit)<Zm125_3 r y else Zi125_3 r (y.1,IntKind.wrap IntKind.i64 (y.2.1+(1:Int)),PUnit.unit)∧Zm125_3 r (y.1,IntKind.wrap IntKind.i64 (y.2.1+(1:Int)),PUnit.unit)<Zm125_3 r y else Lf [DV.one (Cell.lit (Value.int IntKind.i64 y.1))] [DV.one (Cell.lit (Value.int IntKind.i64 (↑(posN r.Pats):Int)))]):=by kernel_rfl
theorem Zo125:Holds EE (125,Zk125):=by
 refine holds_of EE_ok Go.Proofs.Tryz.func125 Zk125 (by kernel_rfl) Zu125 all_nil Za125 (fun(r:DRule) hp hb=> ?_)
 have hz0:=bd_eRule (x:=r) (hb _ m0)
 have hl_r_Name:=hz0.1
 have hl_r_Pats:=hz0.2.1
 have hl_r_Conds:=hz0.2.2.1
 have hl_r_Acts:=hz0.2.2.2
 clear hp hb
 rw[Zv125 r]
 dsimp only
 refine⟨⟨by omega,by omega,rfl⟩,?_⟩
 rintro⟨n,i,⟨⟩⟩ ⟨h1,h2,rfl⟩
 simp only
 refine if_cond (fun hc=> ?_) (fun hc=> ?_)
 ·have hc:=of_decide_eq_true hc
  have hs:=posN_step r.Pats h1 hc
  have hle:posN (r.Pats.take i.toNat)≤i.toNat:=posN_le _ _
  rw[wrap_i64 (n:=i+1) (by omega) (by omega),wrap_i64 (n:=(posN (r.Pats.take i.toNat):Int)+1) (by omega) (by omega)]
  have hm:i.toNat<r.Pats.length:=by omega
  refine⟨by omega,by omega,if_cond (fun h=>⟨⟨by omega,by omega,?_⟩,by simp only[Zm125_3];omega⟩) (fun h=>⟨⟨by omega,by omega,?_⟩,by simp only[Zm125_3];omega⟩)⟩
  ·rw[hs,if_pos h];omega
  ·rw[hs,if_neg (by rw[h];decide)];omega
 ·have hc:=of_decide_eq_false hc
  rw[take_all r.Pats (by omega)]
  exact Lf_rfl _
def Zh125:HH:=⟨_,Zo125⟩
def Zk205:Con UU where
 α:=DPat
 md:=[.ro]
 of:=o1 (oA .ePat)
 ds:=fun x=>[dA .ePat x]
 pre:=fun p=>[p.Args.length≤4294967296]
 res:=fun p=>⟨[.one (.sl .str (addVars [] p.Args))],true,[]⟩
 law:=l1 (lA .ePat)
def Zi205_3(p:DPat):List ByteArray×Int×(ByteArray×List DArg×Bool×Unit)×Unit→Prop:=fun(l,i,b,_)=>b=(p.Kind,p.Args,p.Not,())∧0≤i∧i≤p.Args.length∧l=addVars [] (p.Args.take i.toNat)
def Zm205_3(p:DPat):List ByteArray×Int×(ByteArray×List DArg×Bool×Unit)×Unit→Nat:=fun(l,i,b,_)=>p.Args.length-i.toNat
def Za205:Zk205.α→Nat→Option (Ann UU):=fun p=>annL [(3,annOf [.slot 3 (3,1024) (.own .str true),.slot 4 (4,1024) (.lit (.int .i64)),.box 1 (1,1024) [.lit .str,.shr .eArg,.lit .bool]] (fun _=>Zi205_3 p) (Zm205_3 p))]
def Zu205:=us [Zh206]
theorem Zv205(p:DPat):goal EE Zu205 Go.Proofs.Tryz.f205 Zk205 Za205 p=(Zi205_3 p ([],(0:Int),(p.Kind,p.Args,p.Not,()),())∧
 ∀(y:List ByteArray×Int×(ByteArray×List DArg×Bool×PUnit)×PUnit),
  let x4:Nat:=List.length y.2.2.1.2.1;
  let x5:Nat:=Int.toNat y.2.1;
  let x2:DArg:=List.getD y.2.2.1.2.1 x5 zArg;
  let x3:Int:=(↑x4:Int);
  let x1:ByteArray:=x2.S;
  let x0:List ByteArray:=[x1];
  Zi205_3 p y→bif decide (y.2.1<x3) then(0:Int)≤y.2.1∧x5<x4∧bif x2.K==(1:Int) then(0:Int)≤y.2.1∧x5<x4∧bif !hasS y.1 x1 then(0:Int)≤y.2.1∧x5<x4∧List.length y.1+List.length x0≤(4294967296:Nat)∧Zi205_3 p (y.1++x0,IntKind.wrap IntKind.i64 (y.2.1+(1:Int)),(y.2.2.1.1,y.2.2.1.2.1,y.2.2.1.2.2.1,PUnit.unit),PUnit.unit)∧Zm205_3 p (y.1++x0,IntKind.wrap IntKind.i64 (y.2.1+(1:Int)),(y.2.2.1.1,y.2.2.1.2.1,y.2.2.1.2.2.1,PUnit.unit),PUnit.unit)<Zm205_3 p y else Zi205_3 p (y.1,IntKind.wrap IntKind.i64 (y.2.1+(1:Int)),(y.2.2.1.1,y.2.2.1.2.1,y.2.2.1.2.2.1,PUnit.unit),PUnit.unit)∧Zm205_3 p (y.1,IntKind.wrap IntKind.i64 (y.2.1+(1:Int)),(y.2.2.1.1,y.2.2.1.2.1,y.2.2.1.2.2.1,PUnit.unit),PUnit.unit)<Zm205_3 p y else Zi205_3 p (y.1,IntKind.wrap IntKind.i64 (y.2.1+(1:Int)),(y.2.2.1.1,y.2.2.1.2.1,y.2.2.1.2.2.1,PUnit.unit),PUnit.unit)∧Zm205_3 p (y.1,IntKind.wrap IntKind.i64 (y.2.1+(1:Int)),(y.2.2.1.1,y.2.2.1.2.1,y.2.2.1.2.2.1,PUnit.unit),PUnit.unit)<Zm205_3 p y else Lf [DV.one (Cell.sl Cd.str y.1)] [DV.one (Cell.sl Cd.str (addVars [] p.Args))]):=by kernel_rfl
theorem Zo205:Holds EE (205,Zk205):=by
 refine holds_of EE_ok Go.Proofs.Tryz.func205 Zk205 (by kernel_rfl) Zu205 (us_ok _) Za205 (fun(p:DPat) hp hb=> ?_)
 have hz0:=bd_ePat (x:=p) (hb _ m0)
 have hl_p_Kind:=hz0.1
 have hl_p_Args:=hz0.2
 have hp0:p.Args.length≤4294967296:=hp _ m0
 clear hp hb
 rw[Zv205 p]
 dsimp only
 refine⟨⟨rfl,by omega,by omega,rfl⟩,?_⟩
 rintro⟨l,i,⟨b1,b2,b3,⟨⟩⟩,⟨⟩⟩ ⟨hbx,h1,h2,rfl⟩
 cases hbx
 simp only
 refine if_cond (fun hc=> ?_) (fun hc=> ?_)
 ·have hc:=of_decide_eq_true hc
  have hs:=addVars_step [] p.Args h1 hc
  have hl:=addVars_len (p.Args.take i.toNat) []
  have hl2:(p.Args.take i.toNat).length≤i.toNat:=by rw[List.length_take];omega
  simp only[List.length_nil] at hl
  rw[wrap_i64 (by omega) (by omega)]
  have hm:∀x:List ByteArray,Zm205_3 p (x,i+1,(p.Kind,p.Args,p.Not,PUnit.unit),PUnit.unit)<Zm205_3 p (addVars [] (p.Args.take i.toNat),i,(p.Kind,p.Args,p.Not,PUnit.unit),PUnit.unit):=fun x=>by simp only[Zm205_3];omega
  refine⟨by omega,by omega,if_cond (fun h=>⟨by omega,by omega,if_cond (fun g=>⟨by omega,by omega,by simp;omega,⟨rfl,by omega,by omega,?_⟩,hm _⟩) (fun g=>⟨⟨rfl,by omega,by omega,?_⟩,hm _⟩)⟩) (fun h=>⟨⟨rfl,by omega,by omega,?_⟩,hm _⟩)⟩
  ·rw[hs,addVar,if_pos (eq_of_beq h),addOnce,if_neg (by simpa using g)]
  ·rw[hs,addVar,if_pos (eq_of_beq h),addOnce,if_pos (by simpa using g)]
  ·rw[hs,addVar,if_neg (fun e=>by rw[e] at h;simp at h)]
 ·have hc:=of_decide_eq_false hc
  rw[take_all p.Args (by omega)]
  exact Lf_rfl _
def Zh205:HH:=⟨_,Zo205⟩
end
end AM
