/- Functions of the program with their contracts: put together by gen/link.py for FnExactSendDue. -/
import Derived.Test.YtgpfppbkndgejaaDoorAmLib
import Derived.Test.YtgpfppbkndgejaaDoorAmModels
import Derived.Test.YtgpfppbkndgejaaDoorFExactSendDue
import Derived.Lib.ItoaLen
import Derived.Lib.Join
import Derived.Test.YtgpfppbkndgejaaDoorShelf
namespace AM
open Go
set_option linter.unusedVariables false
set_option linter.unusedSimpArgs false
set_option maxRecDepth 100000
noncomputable section
def con_IndexFuncTask : Con UU where
  α := (List DTask) × (List (DA UU) → Option Value)
  md := [.ro, .ro]
  of := fun | [.one (.sl .eTask a0), .fn a1] => some (a0, a1) | _ => none
  ds := fun (l, p) => [.one (.sl .eTask l), .fn p]
  pre := fun (l, p) => [∀ j : Nat, j < l.length → p [daTask (List.getD l j zTask)] = some (.bool (boolOf (p [daTask (List.getD l j zTask)])))]
  res := fun (l, p) => ⟨[.one (.lit (.int .i64 (idxI l.length (fun j => boolOf (p [daTask (List.getD l j zTask)])))))], true, []⟩
  law := by intro l x h; (try simp only at h); split at h <;> cases h; rfl
def I_IndexFuncTask_2 (l : (List DTask)) (p : (List (DA UU) → Option Value)) : Int × Unit → Prop := fun (i, _) => 0 ≤ i ∧ i ≤ l.length ∧ ∀ j : Nat, (j : Int) < i → boolOf (p [daTask (List.getD l j zTask)]) = false
def μ_IndexFuncTask_2 (l : (List DTask)) (p : (List (DA UU) → Option Value)) : Int × Unit → Nat := fun (i, _) => l.length - i.toNat
def ann_IndexFuncTask : con_IndexFuncTask.α → Nat → Option (Ann UU) := fun (l, p) => annL [(2, annOf [.slot 8 (8, 1024) (.lit (.int .i64))] (fun _ => I_IndexFuncTask_2 l p) (μ_IndexFuncTask_2 l p))]
def use_IndexFuncTask : List (FuncId × Con UU) := []
theorem vc_IndexFuncTask (l : (List DTask)) (p : (List (DA UU) → Option Value)) : goal EE use_IndexFuncTask Go.Proofs.Tryd.f89 con_IndexFuncTask ann_IndexFuncTask (l, p) = (I_IndexFuncTask_2 l p ((0 : Int), PUnit.unit) ∧
  ∀ (y : Int × PUnit),
    let x0 : Bool :=
      boolOf
        (p
          [{ agg := true, cs := [Cell.lit (Value.string (List.getD l (Int.toNat y.1) zTask).F.Kind), Cell.sl Cd.eVal (List.getD l (Int.toNat y.1) zTask).F.Fields, Cell.lit (Value.string (List.getD l (Int.toNat y.1) zTask).Undo), Cell.lit (Value.int IntKind.i64 (List.getD l (Int.toNat y.1) zTask).State), Cell.lit (Value.int IntKind.i64 (List.getD l (Int.toNat y.1) zTask).Tries), Cell.lit (Value.int IntKind.i64 (List.getD l (Int.toNat y.1) zTask).Due), Cell.lit (Value.int IntKind.i64 (List.getD l (Int.toNat y.1) zTask).V.K), Cell.lit (Value.int IntKind.i64 (List.getD l (Int.toNat y.1) zTask).V.N), Cell.lit (Value.string (List.getD l (Int.toNat y.1) zTask).V.S)] :
              DA
                { Ty := Cd,
                  T := fun (x : Cd) =>
                    match x with
                    | Cd.int => Int
                    | Cd.byte => Int
                    | Cd.str => ByteArray
                    | Cd.eVal => DVal
                    | Cd.lVal => DVal
                    | Cd.eFact => DFact
                    | Cd.lFact => DFact
                    | Cd.eItem => DItem
                    | Cd.lItem => DItem
                    | Cd.eStore => DStore
                    | Cd.lStore => DStore
                    | Cd.eToken => DToken
                    | Cd.lToken => DToken
                    | Cd.eArg => DArg
                    | Cd.lArg => DArg
                    | Cd.ePat => DPat
                    | Cd.lPat => DPat
                    | Cd.eBind => DBind
                    | Cd.lBind => DBind
                    | Cd.eCond => DCond
                    | Cd.lCond => DCond
                    | Cd.eExpr => DExpr
                    | Cd.lExpr => DExpr
                    | Cd.eAct => DAct
                    | Cd.lAct => DAct
                    | Cd.eRule => DRule
                    | Cd.lRule => DRule
                    | Cd.eDef => DDef
                    | Cd.lDef => DDef
                    | Cd.eMatch => DMatch
                    | Cd.lMatch => DMatch
                    | Cd.eAlpha => DAlpha
                    | Cd.lAlpha => DAlpha
                    | Cd.eChain => DChain
                    | Cd.lChain => DChain
                    | Cd.eNet => DNet
                    | Cd.lNet => DNet
                    | Cd.eIds => DIds
                    | Cd.lIds => DIds
                    | Cd.eTok => DTok
                    | Cd.lTok => DTok
                    | Cd.eLevel => DLevel
                    | Cd.lLevel => DLevel
                    | Cd.eRow => DRow
                    | Cd.lRow => DRow
                    | Cd.eMem => DMem
                    | Cd.lMem => DMem
                    | Cd.eEffect => DEffect
                    | Cd.lEffect => DEffect
                    | Cd.eTimer => DTimer
                    | Cd.lTimer => DTimer
                    | Cd.eTask => DTask
                    | Cd.lTask => DTask
                    | Cd.eCall => DCall
                    | Cd.lCall => DCall
                    | Cd.eUndo => DUndo
                    | Cd.lUndo => DUndo
                    | Cd.eInst => DInst
                    | Cd.lInst => DInst
                    | Cd.eRun => DRun
                    | Cd.lRun => DRun
                    | Cd.eOp => DOp
                    | Cd.lOp => DOp
                    | Cd.eWork => DWork
                    | Cd.lWork => DWork
                    | Cd.eBook => DBook
                    | Cd.lBook => DBook
                    | Cd.eSent => DSent
                    | Cd.lSent => DSent,
                  deq := inferInstance,
                  wd := fun (x : Cd) =>
                    match x with
                    | Cd.int => (1 : Nat)
                    | Cd.byte => (1 : Nat)
                    | Cd.str => (1 : Nat)
                    | Cd.eVal => (3 : Nat)
                    | Cd.lVal => (3 : Nat)
                    | Cd.eFact => (2 : Nat)
                    | Cd.lFact => (2 : Nat)
                    | Cd.eItem => (3 : Nat)
                    | Cd.lItem => (3 : Nat)
                    | Cd.eStore => (2 : Nat)
                    | Cd.lStore => (2 : Nat)
                    | Cd.eToken => (3 : Nat)
                    | Cd.lToken => (3 : Nat)
                    | Cd.eArg => (5 : Nat)
                    | Cd.lArg => (5 : Nat)
                    | Cd.ePat => (3 : Nat)
                    | Cd.lPat => (3 : Nat)
                    | Cd.eBind => (4 : Nat)
                    | Cd.lBind => (4 : Nat)
                    | Cd.eCond => (11 : Nat)
                    | Cd.lCond => (11 : Nat)
                    | Cd.eExpr => (11 : Nat)
                    | Cd.lExpr => (11 : Nat)
                    | Cd.eAct => (5 : Nat)
                    | Cd.lAct => (5 : Nat)
                    | Cd.eRule => (5 : Nat)
                    | Cd.lRule => (5 : Nat)
                    | Cd.eDef => (2 : Nat)
                    | Cd.lDef => (2 : Nat)
                    | Cd.eMatch => (3 : Nat)
                    | Cd.lMatch => (3 : Nat)
                    | Cd.eAlpha => (4 : Nat)
                    | Cd.lAlpha => (4 : Nat)
                    | Cd.eChain => (2 : Nat)
                    | Cd.lChain => (2 : Nat)
                    | Cd.eNet => (2 : Nat)
                    | Cd.lNet => (2 : Nat)
                    | Cd.eIds => (1 : Nat)
                    | Cd.lIds => (1 : Nat)
                    | Cd.eTok => (2 : Nat)
                    | Cd.lTok => (2 : Nat)
                    | Cd.eLevel => (1 : Nat)
                    | Cd.lLevel => (1 : Nat)
                    | Cd.eRow => (1 : Nat)
                    | Cd.lRow => (1 : Nat)
                    | Cd.eMem => (2 : Nat)
                    | Cd.lMem => (2 : Nat)
                    | Cd.eEffect => (6 : Nat)
                    | Cd.lEffect => (6 : Nat)
                    | Cd.eTimer => (3 : Nat)
                    | Cd.lTimer => (3 : Nat)
                    | Cd.eTask => (9 : Nat)
                    | Cd.lTask => (9 : Nat)
                    | Cd.eCall => (4 : Nat)
                    | Cd.lCall => (4 : Nat)
                    | Cd.eUndo => (3 : Nat)
                    | Cd.lUndo => (3 : Nat)
                    | Cd.eInst => (8 : Nat)
                    | Cd.lInst => (8 : Nat)
                    | Cd.eRun => (10 : Nat)
                    | Cd.lRun => (10 : Nat)
                    | Cd.eOp => (11 : Nat)
                    | Cd.lOp => (11 : Nat)
                    | Cd.eWork => (10 : Nat)
                    | Cd.lWork => (10 : Nat)
                    | Cd.eBook => (4 : Nat)
                    | Cd.lBook => (4 : Nat)
                    | Cd.eSent => (5 : Nat)
                    | Cd.lSent => (5 : Nat),
                  enc := fun (x : Cd) (x_1 : Cd.T x) =>
                    match x, x_1 with
                    | Cd.int, x => enc_int x
                    | Cd.byte, x => enc_byte x
                    | Cd.str, x => enc_str x
                    | Cd.eVal, x => enc_eVal x
                    | Cd.lVal, x => enc_lVal x
                    | Cd.eFact, x => enc_eFact x
                    | Cd.lFact, x => enc_lFact x
                    | Cd.eItem, x => enc_eItem x
                    | Cd.lItem, x => enc_lItem x
                    | Cd.eStore, x => enc_eStore x
                    | Cd.lStore, x => enc_lStore x
                    | Cd.eToken, x => enc_eToken x
                    | Cd.lToken, x => enc_lToken x
                    | Cd.eArg, x => enc_eArg x
                    | Cd.lArg, x => enc_lArg x
                    | Cd.ePat, x => enc_ePat x
                    | Cd.lPat, x => enc_lPat x
                    | Cd.eBind, x => enc_eBind x
                    | Cd.lBind, x => enc_lBind x
                    | Cd.eCond, x => enc_eCond x
                    | Cd.lCond, x => enc_lCond x
                    | Cd.eExpr, x => enc_eExpr x
                    | Cd.lExpr, x => enc_lExpr x
                    | Cd.eAct, x => enc_eAct x
                    | Cd.lAct, x => enc_lAct x
                    | Cd.eRule, x => enc_eRule x
                    | Cd.lRule, x => enc_lRule x
                    | Cd.eDef, x => enc_eDef x
                    | Cd.lDef, x => enc_lDef x
                    | Cd.eMatch, x => enc_eMatch x
                    | Cd.lMatch, x => enc_lMatch x
                    | Cd.eAlpha, x => enc_eAlpha x
                    | Cd.lAlpha, x => enc_lAlpha x
                    | Cd.eChain, x => enc_eChain x
                    | Cd.lChain, x => enc_lChain x
                    | Cd.eNet, x => enc_eNet x
                    | Cd.lNet, x => enc_lNet x
                    | Cd.eIds, x => enc_eIds x
                    | Cd.lIds, x => enc_lIds x
                    | Cd.eTok, x => enc_eTok x
                    | Cd.lTok, x => enc_lTok x
                    | Cd.eLevel, x => enc_eLevel x
                    | Cd.lLevel, x => enc_lLevel x
                    | Cd.eRow, x => enc_eRow x
                    | Cd.lRow, x => enc_lRow x
                    | Cd.eMem, x => enc_eMem x
                    | Cd.lMem, x => enc_lMem x
                    | Cd.eEffect, x => enc_eEffect x
                    | Cd.lEffect, x => enc_lEffect x
                    | Cd.eTimer, x => enc_eTimer x
                    | Cd.lTimer, x => enc_lTimer x
                    | Cd.eTask, x => enc_eTask x
                    | Cd.lTask, x => enc_lTask x
                    | Cd.eCall, x => enc_eCall x
                    | Cd.lCall, x => enc_lCall x
                    | Cd.eUndo, x => enc_eUndo x
                    | Cd.lUndo, x => enc_lUndo x
                    | Cd.eInst, x => enc_eInst x
                    | Cd.lInst, x => enc_lInst x
                    | Cd.eRun, x => enc_eRun x
                    | Cd.lRun, x => enc_lRun x
                    | Cd.eOp, x => enc_eOp x
                    | Cd.lOp, x => enc_lOp x
                    | Cd.eWork, x => enc_eWork x
                    | Cd.lWork, x => enc_lWork x
                    | Cd.eBook, x => enc_eBook x
                    | Cd.lBook, x => enc_lBook x
                    | Cd.eSent, x => enc_eSent x
                    | Cd.lSent, x => enc_lSent x,
                  dec := Cd.dec,
                  dflt := fun (x : Cd) =>
                    match x with
                    | Cd.int => (0 : Int)
                    | Cd.byte => (0 : Int)
                    | Cd.str => noBytes
                    | Cd.eVal => zVal
                    | Cd.lVal => zVal
                    | Cd.eFact => zFact
                    | Cd.lFact => zFact
                    | Cd.eItem => zItem
                    | Cd.lItem => zItem
                    | Cd.eStore => zStore
                    | Cd.lStore => zStore
                    | Cd.eToken => zToken
                    | Cd.lToken => zToken
                    | Cd.eArg => zArg
                    | Cd.lArg => zArg
                    | Cd.ePat => zPat
                    | Cd.lPat => zPat
                    | Cd.eBind => zBind
                    | Cd.lBind => zBind
                    | Cd.eCond => zCond
                    | Cd.lCond => zCond
                    | Cd.eExpr => zExpr
                    | Cd.lExpr => zExpr
                    | Cd.eAct => zAct
                    | Cd.lAct => zAct
                    | Cd.eRule => zRule
                    | Cd.lRule => zRule
                    | Cd.eDef => zDef
                    | Cd.lDef => zDef
                    | Cd.eMatch => zMatch
                    | Cd.lMatch => zMatch
                    | Cd.eAlpha => zAlpha
                    | Cd.lAlpha => zAlpha
                    | Cd.eChain => zChain
                    | Cd.lChain => zChain
                    | Cd.eNet => zNet
                    | Cd.lNet => zNet
                    | Cd.eIds => zIds
                    | Cd.lIds => zIds
                    | Cd.eTok => zTok
                    | Cd.lTok => zTok
                    | Cd.eLevel => zLevel
                    | Cd.lLevel => zLevel
                    | Cd.eRow => zRow
                    | Cd.lRow => zRow
                    | Cd.eMem => zMem
                    | Cd.lMem => zMem
                    | Cd.eEffect => zEffect
                    | Cd.lEffect => zEffect
                    | Cd.eTimer => zTimer
                    | Cd.lTimer => zTimer
                    | Cd.eTask => zTask
                    | Cd.lTask => zTask
                    | Cd.eCall => zCall
                    | Cd.lCall => zCall
                    | Cd.eUndo => zUndo
                    | Cd.lUndo => zUndo
                    | Cd.eInst => zInst
                    | Cd.lInst => zInst
                    | Cd.eRun => zRun
                    | Cd.lRun => zRun
                    | Cd.eOp => zOp
                    | Cd.lOp => zOp
                    | Cd.eWork => zWork
                    | Cd.lWork => zWork
                    | Cd.eBook => zBook
                    | Cd.lBook => zBook
                    | Cd.eSent => zSent
                    | Cd.lSent => zSent,
                  flat := Cd.flat, wd_pos := UU._proof_1, enc_len := UU._proof_2, enc_dec := UU._proof_3, flat_ok := UU._proof_4, bcode := Cd.byte, toB := fun (x : Cd.T Cd.byte) => x, ofB := fun (x : Int) => x, toB_ofB := fun (x : Int) => rfl, enc_b := UU._proof_5 : Uni } }]);
    let x1 : DTask := List.getD l (Int.toNat y.1) zTask;
    I_IndexFuncTask_2 l p y →
      bif decide (y.1 < (↑(List.length l) : Int)) then
        (0 : Int) ≤ y.1 ∧
          Int.toNat y.1 < List.length l ∧
            p
                  [{ agg := true, cs := [Cell.lit (Value.string x1.F.Kind), Cell.sl Cd.eVal x1.F.Fields, Cell.lit (Value.string x1.Undo), Cell.lit (Value.int IntKind.i64 x1.State), Cell.lit (Value.int IntKind.i64 x1.Tries), Cell.lit (Value.int IntKind.i64 x1.Due), Cell.lit (Value.int IntKind.i64 x1.V.K), Cell.lit (Value.int IntKind.i64 x1.V.N), Cell.lit (Value.string x1.V.S)] :
                      DA
                        { Ty := Cd,
                          T := fun (x : Cd) =>
                            match x with
                            | Cd.int => Int
                            | Cd.byte => Int
                            | Cd.str => ByteArray
                            | Cd.eVal => DVal
                            | Cd.lVal => DVal
                            | Cd.eFact => DFact
                            | Cd.lFact => DFact
                            | Cd.eItem => DItem
                            | Cd.lItem => DItem
                            | Cd.eStore => DStore
                            | Cd.lStore => DStore
                            | Cd.eToken => DToken
                            | Cd.lToken => DToken
                            | Cd.eArg => DArg
                            | Cd.lArg => DArg
                            | Cd.ePat => DPat
                            | Cd.lPat => DPat
                            | Cd.eBind => DBind
                            | Cd.lBind => DBind
                            | Cd.eCond => DCond
                            | Cd.lCond => DCond
                            | Cd.eExpr => DExpr
                            | Cd.lExpr => DExpr
                            | Cd.eAct => DAct
                            | Cd.lAct => DAct
                            | Cd.eRule => DRule
                            | Cd.lRule => DRule
                            | Cd.eDef => DDef
                            | Cd.lDef => DDef
                            | Cd.eMatch => DMatch
                            | Cd.lMatch => DMatch
                            | Cd.eAlpha => DAlpha
                            | Cd.lAlpha => DAlpha
                            | Cd.eChain => DChain
                            | Cd.lChain => DChain
                            | Cd.eNet => DNet
                            | Cd.lNet => DNet
                            | Cd.eIds => DIds
                            | Cd.lIds => DIds
                            | Cd.eTok => DTok
                            | Cd.lTok => DTok
                            | Cd.eLevel => DLevel
                            | Cd.lLevel => DLevel
                            | Cd.eRow => DRow
                            | Cd.lRow => DRow
                            | Cd.eMem => DMem
                            | Cd.lMem => DMem
                            | Cd.eEffect => DEffect
                            | Cd.lEffect => DEffect
                            | Cd.eTimer => DTimer
                            | Cd.lTimer => DTimer
                            | Cd.eTask => DTask
                            | Cd.lTask => DTask
                            | Cd.eCall => DCall
                            | Cd.lCall => DCall
                            | Cd.eUndo => DUndo
                            | Cd.lUndo => DUndo
                            | Cd.eInst => DInst
                            | Cd.lInst => DInst
                            | Cd.eRun => DRun
                            | Cd.lRun => DRun
                            | Cd.eOp => DOp
                            | Cd.lOp => DOp
                            | Cd.eWork => DWork
                            | Cd.lWork => DWork
                            | Cd.eBook => DBook
                            | Cd.lBook => DBook
                            | Cd.eSent => DSent
                            | Cd.lSent => DSent,
                          deq := inferInstance,
                          wd := fun (x : Cd) =>
                            match x with
                            | Cd.int => (1 : Nat)
                            | Cd.byte => (1 : Nat)
                            | Cd.str => (1 : Nat)
                            | Cd.eVal => (3 : Nat)
                            | Cd.lVal => (3 : Nat)
                            | Cd.eFact => (2 : Nat)
                            | Cd.lFact => (2 : Nat)
                            | Cd.eItem => (3 : Nat)
                            | Cd.lItem => (3 : Nat)
                            | Cd.eStore => (2 : Nat)
                            | Cd.lStore => (2 : Nat)
                            | Cd.eToken => (3 : Nat)
                            | Cd.lToken => (3 : Nat)
                            | Cd.eArg => (5 : Nat)
                            | Cd.lArg => (5 : Nat)
                            | Cd.ePat => (3 : Nat)
                            | Cd.lPat => (3 : Nat)
                            | Cd.eBind => (4 : Nat)
                            | Cd.lBind => (4 : Nat)
                            | Cd.eCond => (11 : Nat)
                            | Cd.lCond => (11 : Nat)
                            | Cd.eExpr => (11 : Nat)
                            | Cd.lExpr => (11 : Nat)
                            | Cd.eAct => (5 : Nat)
                            | Cd.lAct => (5 : Nat)
                            | Cd.eRule => (5 : Nat)
                            | Cd.lRule => (5 : Nat)
                            | Cd.eDef => (2 : Nat)
                            | Cd.lDef => (2 : Nat)
                            | Cd.eMatch => (3 : Nat)
                            | Cd.lMatch => (3 : Nat)
                            | Cd.eAlpha => (4 : Nat)
                            | Cd.lAlpha => (4 : Nat)
                            | Cd.eChain => (2 : Nat)
                            | Cd.lChain => (2 : Nat)
                            | Cd.eNet => (2 : Nat)
                            | Cd.lNet => (2 : Nat)
                            | Cd.eIds => (1 : Nat)
                            | Cd.lIds => (1 : Nat)
                            | Cd.eTok => (2 : Nat)
                            | Cd.lTok => (2 : Nat)
                            | Cd.eLevel => (1 : Nat)
                            | Cd.lLevel => (1 : Nat)
                            | Cd.eRow => (1 : Nat)
                            | Cd.lRow => (1 : Nat)
                            | Cd.eMem => (2 : Nat)
                            | Cd.lMem => (2 : Nat)
                            | Cd.eEffect => (6 : Nat)
                            | Cd.lEffect => (6 : Nat)
                            | Cd.eTimer => (3 : Nat)
                            | Cd.lTimer => (3 : Nat)
                            | Cd.eTask => (9 : Nat)
                            | Cd.lTask => (9 : Nat)
                            | Cd.eCall => (4 : Nat)
                            | Cd.lCall => (4 : Nat)
                            | Cd.eUndo => (3 : Nat)
                            | Cd.lUndo => (3 : Nat)
                            | Cd.eInst => (8 : Nat)
                            | Cd.lInst => (8 : Nat)
                            | Cd.eRun => (10 : Nat)
                            | Cd.lRun => (10 : Nat)
                            | Cd.eOp => (11 : Nat)
                            | Cd.lOp => (11 : Nat)
                            | Cd.eWork => (10 : Nat)
                            | Cd.lWork => (10 : Nat)
                            | Cd.eBook => (4 : Nat)
                            | Cd.lBook => (4 : Nat)
                            | Cd.eSent => (5 : Nat)
                            | Cd.lSent => (5 : Nat),
                          enc := fun (x : Cd) (x_1 : Cd.T x) =>
                            match x, x_1 with
                            | Cd.int, x => enc_int x
                            | Cd.byte, x => enc_byte x
                            | Cd.str, x => enc_str x
                            | Cd.eVal, x => enc_eVal x
                            | Cd.lVal, x => enc_lVal x
                            | Cd.eFact, x => enc_eFact x
                            | Cd.lFact, x => enc_lFact x
                            | Cd.eItem, x => enc_eItem x
                            | Cd.lItem, x => enc_lItem x
                            | Cd.eStore, x => enc_eStore x
                            | Cd.lStore, x => enc_lStore x
                            | Cd.eToken, x => enc_eToken x
                            | Cd.lToken, x => enc_lToken x
                            | Cd.eArg, x => enc_eArg x
                            | Cd.lArg, x => enc_lArg x
                            | Cd.ePat, x => enc_ePat x
                            | Cd.lPat, x => enc_lPat x
                            | Cd.eBind, x => enc_eBind x
                            | Cd.lBind, x => enc_lBind x
                            | Cd.eCond, x => enc_eCond x
                            | Cd.lCond, x => enc_lCond x
                            | Cd.eExpr, x => enc_eExpr x
                            | Cd.lExpr, x => enc_lExpr x
                            | Cd.eAct, x => enc_eAct x
                            | Cd.lAct, x => enc_lAct x
                            | Cd.eRule, x => enc_eRule x
                            | Cd.lRule, x => enc_lRule x
                            | Cd.eDef, x => enc_eDef x
                            | Cd.lDef, x => enc_lDef x
                            | Cd.eMatch, x => enc_eMatch x
                            | Cd.lMatch, x => enc_lMatch x
                            | Cd.eAlpha, x => enc_eAlpha x
                            | Cd.lAlpha, x => enc_lAlpha x
                            | Cd.eChain, x => enc_eChain x
                            | Cd.lChain, x => enc_lChain x
                            | Cd.eNet, x => enc_eNet x
                            | Cd.lNet, x => enc_lNet x
                            | Cd.eIds, x => enc_eIds x
                            | Cd.lIds, x => enc_lIds x
                            | Cd.eTok, x => enc_eTok x
                            | Cd.lTok, x => enc_lTok x
                            | Cd.eLevel, x => enc_eLevel x
                            | Cd.lLevel, x => enc_lLevel x
                            | Cd.eRow, x => enc_eRow x
                            | Cd.lRow, x => enc_lRow x
                            | Cd.eMem, x => enc_eMem x
                            | Cd.lMem, x => enc_lMem x
                            | Cd.eEffect, x => enc_eEffect x
                            | Cd.lEffect, x => enc_lEffect x
                            | Cd.eTimer, x => enc_eTimer x
                            | Cd.lTimer, x => enc_lTimer x
                            | Cd.eTask, x => enc_eTask x
                            | Cd.lTask, x => enc_lTask x
                            | Cd.eCall, x => enc_eCall x
                            | Cd.lCall, x => enc_lCall x
                            | Cd.eUndo, x => enc_eUndo x
                            | Cd.lUndo, x => enc_lUndo x
                            | Cd.eInst, x => enc_eInst x
                            | Cd.lInst, x => enc_lInst x
                            | Cd.eRun, x => enc_eRun x
                            | Cd.lRun, x => enc_lRun x
                            | Cd.eOp, x => enc_eOp x
                            | Cd.lOp, x => enc_lOp x
                            | Cd.eWork, x => enc_eWork x
                            | Cd.lWork, x => enc_lWork x
                            | Cd.eBook, x => enc_eBook x
                            | Cd.lBook, x => enc_lBook x
                            | Cd.eSent, x => enc_eSent x
                            | Cd.lSent, x => enc_lSent x,
                          dec := Cd.dec,
                          dflt := fun (x : Cd) =>
                            match x with
                            | Cd.int => (0 : Int)
                            | Cd.byte => (0 : Int)
                            | Cd.str => noBytes
                            | Cd.eVal => zVal
                            | Cd.lVal => zVal
                            | Cd.eFact => zFact
                            | Cd.lFact => zFact
                            | Cd.eItem => zItem
                            | Cd.lItem => zItem
                            | Cd.eStore => zStore
                            | Cd.lStore => zStore
                            | Cd.eToken => zToken
                            | Cd.lToken => zToken
                            | Cd.eArg => zArg
                            | Cd.lArg => zArg
                            | Cd.ePat => zPat
                            | Cd.lPat => zPat
                            | Cd.eBind => zBind
                            | Cd.lBind => zBind
                            | Cd.eCond => zCond
                            | Cd.lCond => zCond
                            | Cd.eExpr => zExpr
                            | Cd.lExpr => zExpr
                            | Cd.eAct => zAct
                            | Cd.lAct => zAct
                            | Cd.eRule => zRule
                            | Cd.lRule => zRule
                            | Cd.eDef => zDef
                            | Cd.lDef => zDef
                            | Cd.eMatch => zMatch
                            | Cd.lMatch => zMatch
                            | Cd.eAlpha => zAlpha
                            | Cd.lAlpha => zAlpha
                            | Cd.eChain => zChain
                            | Cd.lChain => zChain
                            | Cd.eNet => zNet
                            | Cd.lNet => zNet
                            | Cd.eIds => zIds
                            | Cd.lIds => zIds
                            | Cd.eTok => zTok
                            | Cd.lTok => zTok
                            | Cd.eLevel => zLevel
                            | Cd.lLevel => zLevel
                            | Cd.eRow => zRow
                            | Cd.lRow => zRow
                            | Cd.eMem => zMem
                            | Cd.lMem => zMem
                            | Cd.eEffect => zEffect
                            | Cd.lEffect => zEffect
                            | Cd.eTimer => zTimer
                            | Cd.lTimer => zTimer
                            | Cd.eTask => zTask
                            | Cd.lTask => zTask
                            | Cd.eCall => zCall
                            | Cd.lCall => zCall
                            | Cd.eUndo => zUndo
                            | Cd.lUndo => zUndo
                            | Cd.eInst => zInst
                            | Cd.lInst => zInst
                            | Cd.eRun => zRun
                            | Cd.lRun => zRun
                            | Cd.eOp => zOp
                            | Cd.lOp => zOp
                            | Cd.eWork => zWork
                            | Cd.lWork => zWork
                            | Cd.eBook => zBook
                            | Cd.lBook => zBook
                            | Cd.eSent => zSent
                            | Cd.lSent => zSent,
                          flat := Cd.flat, wd_pos := UU._proof_1, enc_len := UU._proof_2, enc_dec := UU._proof_3, flat_ok := UU._proof_4, bcode := Cd.byte, toB := fun (x : Cd.T Cd.byte) => x, ofB := fun (x : Int) => x, toB_ofB := fun (x : Int) => rfl, enc_b := UU._proof_5 : Uni } }] =
                some (Value.bool x0) ∧
              bif x0 then Lf [DV.one (Cell.lit (Value.int IntKind.i64 y.1))] [DV.one (Cell.lit (Value.int IntKind.i64 (idxI (List.length l) fun (j : Nat) => boolOf (p [daTask (List.getD l j zTask)]))))] else I_IndexFuncTask_2 l p (IntKind.wrap IntKind.i64 (y.1 + (1 : Int)), PUnit.unit) ∧ μ_IndexFuncTask_2 l p (IntKind.wrap IntKind.i64 (y.1 + (1 : Int)), PUnit.unit) < μ_IndexFuncTask_2 l p y
      else Lf [DV.one (Cell.lit (Value.int IntKind.i64 (-1 : Int)))] [DV.one (Cell.lit (Value.int IntKind.i64 (idxI (List.length l) fun (j : Nat) => boolOf (p [daTask (List.getD l j zTask)]))))]) := by kernel_rfl
theorem ok_IndexFuncTask : Holds EE (89, con_IndexFuncTask) := by
  refine holds_of EE_ok Go.Proofs.Tryd.func89 con_IndexFuncTask (by kernel_rfl) rfl use_IndexFuncTask all_nil ann_IndexFuncTask (fun x hp hb => ?_)
  obtain ⟨l, p⟩ := x
  have hb_l : BdDV (U := UU) (.one (.sl .eTask l)) := hb _ (List.mem_cons_self)
  have hl_l : l.length ≤ 9223372036854775807 := Bd.len hb_l
  have hp0 : ∀ j : Nat, j < l.length → p [daTask (List.getD l j zTask)] = some (.bool (boolOf (p [daTask (List.getD l j zTask)]))) := hp _ (List.mem_cons_self)
  clear hp hb
  rw [vc_IndexFuncTask l p]
  dsimp only
  refine ⟨⟨by omega, by omega, by intro j hj; omega⟩, ?_⟩
  rintro ⟨i, ⟨⟩⟩ ⟨h1, h2, hR⟩
  simp only [daTask] at *
  refine if_cond (fun hc => ?_) (fun hc => ?_)
  · have hc := of_decide_eq_true hc
    rw [wrap_i64 (by omega) (by omega)]
    refine ⟨by omega, by omega, hp0 i.toNat (by omega), if_cond (fun h => Lf_i ?_) (fun h => ⟨⟨by omega, by omega, upto_no (p := fun j => boolOf (p [daTask (List.getD l j zTask)])) h1 hR h⟩, by simp only [μ_IndexFuncTask_2]; omega⟩)⟩
    rw [idxI_found (i := i.toNat) (by omega) h (fun j hj => hR j (by omega))]
    omega
  · have hc := of_decide_eq_false hc
    exact Lf_i (idxI_none (fun j hj => hR j (by omega))).symm
def con_impl_placeOfTask_1 : Con UU where
  α := DTask × DFact
  md := [.ro, .ro]
  of := fun | [.agg [.lit (.string a0), .sl .eVal a1, .lit (.string a2), .lit (.int .i64 a3), .lit (.int .i64 a4), .lit (.int .i64 a5), .lit (.int .i64 a6), .lit (.int .i64 a7), .lit (.string a8)], .ptr [.lit (.string a9), .sl .eVal a10]] => some (⟨⟨a0, a1⟩, a2, a3, a4, a5, ⟨a6, a7, a8⟩⟩, ⟨a9, a10⟩) | _ => none
  ds := fun (t, f) => [.agg [.lit (.string t.F.Kind), .sl .eVal t.F.Fields, .lit (.string t.Undo), .lit (.int .i64 t.State), .lit (.int .i64 t.Tries), .lit (.int .i64 t.Due), .lit (.int .i64 t.V.K), .lit (.int .i64 t.V.N), .lit (.string t.V.S)], .ptr [.lit (.string f.Kind), .sl .eVal f.Fields]]
  pre := fun (t, f) => []
  res := fun (t, f) => ⟨[.one (.lit (.bool (decide (t.F = f))))], true, []⟩
  law := by intro l x h; (try simp only at h); split at h <;> cases h; rfl
def ann_impl_placeOfTask_1 : con_impl_placeOfTask_1.α → Nat → Option (Ann UU) := fun (t, f) => annL []
def use_impl_placeOfTask_1 : List (FuncId × Con UU) := [(105, con_impl_SameFact)]
theorem vc_impl_placeOfTask_1 (t : DTask) (f : DFact) : goal EE use_impl_placeOfTask_1 Go.Proofs.Tryd.f104 con_impl_placeOfTask_1 ann_impl_placeOfTask_1 (t, f) = (Lf [DV.one (Cell.lit (Value.bool (decide (t.F = f))))] [DV.one (Cell.lit (Value.bool (decide (t.F = f))))]) := by kernel_rfl
theorem ok_impl_placeOfTask_1 : Holds EE (104, con_impl_placeOfTask_1) := by
  refine holds_of EE_ok Go.Proofs.Tryd.func104 con_impl_placeOfTask_1 (by kernel_rfl) rfl use_impl_placeOfTask_1 (all_cons ok_impl_SameFact all_nil) ann_impl_placeOfTask_1 (fun x hp hb => ?_)
  obtain ⟨t, f⟩ := x
  have hb_t : BdDV (U := UU) (.agg [.lit (.string t.F.Kind), .sl .eVal t.F.Fields, .lit (.string t.Undo), .lit (.int .i64 t.State), .lit (.int .i64 t.Tries), .lit (.int .i64 t.Due), .lit (.int .i64 t.V.K), .lit (.int .i64 t.V.N), .lit (.string t.V.S)]) := hb _ (List.mem_cons_self)
  have hl_t_F_Kind : t.F.Kind.size ≤ 9223372036854775807 := Bd.str (hb_t _ (by simp))
  have hl_t_F_Fields : t.F.Fields.length ≤ 9223372036854775807 := Bd.len (U := UU) (τ := .eVal) (xs := t.F.Fields) (hb_t _ (by simp))
  have hl_t_Undo : t.Undo.size ≤ 9223372036854775807 := Bd.str (hb_t _ (by simp))
  have hl_t_V_S : t.V.S.size ≤ 9223372036854775807 := Bd.str (hb_t _ (by simp))
  have hb_f : BdDV (U := UU) (.ptr [.lit (.string f.Kind), .sl .eVal f.Fields]) := hb _ (List.mem_cons_of_mem _ (List.mem_cons_self))
  have hl_f_Kind : f.Kind.size ≤ 9223372036854775807 := Bd.str (hb_f _ (by simp))
  have hl_f_Fields : f.Fields.length ≤ 9223372036854775807 := Bd.len (U := UU) (τ := .eVal) (xs := f.Fields) (hb_f _ (by simp))
  clear hp hb
  rw [vc_impl_placeOfTask_1 t f]
  exact Lf_rfl _
def con_impl_placeOfTask : Con UU where
  α := (List DTask) × DFact
  md := [.ro, .ro]
  of := fun | [.one (.sl .eTask a0), .agg [.lit (.string a1), .sl .eVal a2]] => some (a0, ⟨a1, a2⟩) | _ => none
  ds := fun (l, f) => [.one (.sl .eTask l), .agg [.lit (.string f.Kind), .sl .eVal f.Fields]]
  pre := fun (l, f) => []
  res := fun (l, f) => ⟨[.one (.lit (.int .i64 (placeOf l f)))], true, []⟩
  law := by intro l x h; (try simp only at h); split at h <;> cases h; rfl
def ann_impl_placeOfTask : con_impl_placeOfTask.α → Nat → Option (Ann UU) := fun (l, f) => annL []
def use_impl_placeOfTask : List (FuncId × Con UU) := [(89, con_IndexFuncTask), (104, con_impl_placeOfTask_1)]
theorem vc_impl_placeOfTask (l : (List DTask)) (f : DFact) : goal EE use_impl_placeOfTask Go.Proofs.Tryd.f92 con_impl_placeOfTask ann_impl_placeOfTask (l, f) = ((∀ (j : Nat), j < List.length l → closP con_impl_placeOfTask_1 [DV.ptr [Cell.lit (Value.string f.Kind), Cell.sl Cd.eVal f.Fields]] [daTask (List.getD l j zTask)] = some (Value.bool (boolOf (closP con_impl_placeOfTask_1 [DV.ptr [Cell.lit (Value.string f.Kind), Cell.sl Cd.eVal f.Fields]] [daTask (List.getD l j zTask)])))) ∧ Lf [DV.one (Cell.lit (Value.int IntKind.i64 (idxI (List.length l) fun (j : Nat) => boolOf (closP con_impl_placeOfTask_1 [DV.ptr [Cell.lit (Value.string f.Kind), Cell.sl Cd.eVal f.Fields]] [daTask (List.getD l j zTask)]))))] [DV.one (Cell.lit (Value.int IntKind.i64 (placeOf l f)))]) := by kernel_rfl
theorem ok_impl_placeOfTask : Holds EE (92, con_impl_placeOfTask) := by
  refine holds_of EE_ok Go.Proofs.Tryd.func92 con_impl_placeOfTask (by kernel_rfl) rfl use_impl_placeOfTask (all_cons ok_IndexFuncTask (all_cons ok_impl_placeOfTask_1 all_nil)) ann_impl_placeOfTask (fun x hp hb => ?_)
  obtain ⟨l, f⟩ := x
  have hb_l : BdDV (U := UU) (.one (.sl .eTask l)) := hb _ (List.mem_cons_self)
  have hl_l : l.length ≤ 9223372036854775807 := Bd.len hb_l
  have hb_f : BdDV (U := UU) (.agg [.lit (.string f.Kind), .sl .eVal f.Fields]) := hb _ (List.mem_cons_of_mem _ (List.mem_cons_self))
  have hl_f_Kind : f.Kind.size ≤ 9223372036854775807 := Bd.str (hb_f _ (by simp))
  have hl_f_Fields : f.Fields.length ≤ 9223372036854775807 := Bd.len (U := UU) (τ := .eVal) (xs := f.Fields) (hb_f _ (by simp))
  clear hp hb
  rw [vc_impl_placeOfTask l f]
  have hc : ∀ x : DTask, closP con_impl_placeOfTask_1 [.ptr [.lit (.string f.Kind), .sl .eVal f.Fields]] [daTask x] = some (.bool (decide (x.F = f))) := fun x => closP_of (x := (x, f)) rfl rfl rfl rfl (by simp [con_impl_placeOfTask_1])
  refine ⟨fun j hj => ?_, Lf_i ?_⟩
  · show closP con_impl_placeOfTask_1 [.ptr [.lit (.string f.Kind), .sl .eVal f.Fields]] [daTask (List.getD l j zTask)] = _
    rw [hc]; rfl
  · exact idxI_congr fun j hj => by
      show boolOf (closP con_impl_placeOfTask_1 [.ptr [.lit (.string f.Kind), .sl .eVal f.Fields]] [daTask (List.getD l j zTask)]) = _
      rw [hc]; rfl
def con_impl_TasksOk : Con UU where
  α := (List DTask)
  md := [.ro]
  of := fun | [.one (.sl .eTask a0)] => some a0 | _ => none
  ds := fun l => [.one (.sl .eTask l)]
  pre := fun l => []
  res := fun l => ⟨[.one (.lit (.bool (tasksOk l)))], true, []⟩
  law := by intro l x h; (try simp only at h); split at h <;> cases h; rfl
def I_impl_TasksOk_4 (l : (List DTask)) : Int × Unit → Prop := fun (i, _) => 0 ≤ i ∧ i ≤ l.length ∧ l.length ≤ 30 ∧ ∀ j : Nat, (j : Int) < i → taskAt l j = true
def μ_impl_TasksOk_4 (l : (List DTask)) : Int × Unit → Nat := fun (i, _) => l.length - i.toNat
def ann_impl_TasksOk : con_impl_TasksOk.α → Nat → Option (Ann UU) := fun l => annL [(4, annOf [.slot 10 (10, 1024) (.lit (.int .i64))] (fun _ => I_impl_TasksOk_4 l) (μ_impl_TasksOk_4 l))]
def use_impl_TasksOk : List (FuncId × Con UU) := [(91, con_impl_taskOk), (92, con_impl_placeOfTask)]
theorem vc_impl_TasksOk (l : (List DTask)) : goal EE use_impl_TasksOk Go.Proofs.Tryd.f63 con_impl_TasksOk ann_impl_TasksOk l = (let x0 : Int := (↑(List.length l) : Int);
bif decide (x0 > (30 : Int)) then Lf [DV.one (Cell.lit (Value.bool false))] [DV.one (Cell.lit (Value.bool (tasksOk l)))] else I_impl_TasksOk_4 l ((0 : Int), PUnit.unit) ∧ ∀ (y : Int × PUnit), I_impl_TasksOk_4 l y → bif decide (y.1 < x0) then (0 : Int) ≤ y.1 ∧ Int.toNat y.1 < List.length l ∧ bif !taskOk (List.getD l (Int.toNat y.1) zTask) then Lf [DV.one (Cell.lit (Value.bool false))] [DV.one (Cell.lit (Value.bool (tasksOk l)))] else bif placeOf l (List.getD l (Int.toNat y.1) zTask).F != y.1 then Lf [DV.one (Cell.lit (Value.bool false))] [DV.one (Cell.lit (Value.bool (tasksOk l)))] else I_impl_TasksOk_4 l (IntKind.wrap IntKind.i64 (y.1 + (1 : Int)), PUnit.unit) ∧ μ_impl_TasksOk_4 l (IntKind.wrap IntKind.i64 (y.1 + (1 : Int)), PUnit.unit) < μ_impl_TasksOk_4 l y else Lf [DV.one (Cell.lit (Value.bool true))] [DV.one (Cell.lit (Value.bool (tasksOk l)))]) := by kernel_rfl
theorem ok_impl_TasksOk : Holds EE (63, con_impl_TasksOk) := by
  refine holds_of EE_ok Go.Proofs.Tryd.func63 con_impl_TasksOk (by kernel_rfl) rfl use_impl_TasksOk (all_cons ok_impl_taskOk (all_cons ok_impl_placeOfTask all_nil)) ann_impl_TasksOk (fun (l : (List DTask)) hp hb => ?_)
  have hb_l : BdDV (U := UU) (.one (.sl .eTask l)) := hb _ (List.mem_cons_self)
  have hl_l : l.length ≤ 9223372036854775807 := Bd.len hb_l
  clear hp hb
  rw [vc_impl_TasksOk l]
  dsimp only
  refine if_cond (fun h => Lf_ff ?_) (fun h => ⟨⟨by omega, by omega, by have h := of_decide_eq_false h; omega, by intro j hj; omega⟩, ?_⟩)
  · have h := of_decide_eq_true h; simp only [tasksOk]; rw [decide_eq_false (by omega)]; rfl
  rintro ⟨i, ⟨⟩⟩ ⟨h1, h2, h3, hR⟩
  simp only
  refine if_cond (fun hc => ?_) (fun hc => ?_)
  · have hc := of_decide_eq_true hc
    have hN : taskAt l i.toNat = false → tasksOk l = false := fun h => by
      have hf : allI l.length (taskAt l) = false := allI_false (j := i.toNat) (by omega) h
      simp only [tasksOk, hf]; simp
    have hpl : (placeOf l (List.getD l i.toNat zTask).F = i) ↔ (anyI i.toNat fun k => decide ((List.getD l k zTask).F = (List.getD l i.toNat zTask).F)) = false := by
      rw [anyI_not]
      unfold placeOf
      rcases idxI_cases l.length (fun k => decide ((List.getD l k zTask).F = (List.getD l i.toNat zTask).F)) with ⟨g1, g2⟩ | ⟨m, g1, g2, g3, g4⟩
      · have := g2 i.toNat (by omega); simp at this
      · rw [g2]
        constructor
        · intro e j hj; exact g4 j (by omega)
        · intro e
          by_cases hm : m < i.toNat
          · have := e m hm; rw [g3] at this; cases this
          · by_cases hm' : i.toNat < m
            · have := g4 i.toNat hm'; simp at this
            · omega
    simp (disch := omega) only [wrap_i64]
    have hm : μ_impl_TasksOk_4 l (i + 1, PUnit.unit) < μ_impl_TasksOk_4 l (i, ()) := by simp only [μ_impl_TasksOk_4]; omega
    refine ⟨by omega, by omega, if_cond (fun h => Lf_ff (hN ?_)) (fun h => if_cond (fun h' => Lf_ff (hN ?_)) (fun h' => ⟨⟨by omega, by omega, h3, upto_step h1 hR ?_⟩, hm⟩))⟩
    · simp only [taskAt]; grind
    · have : ¬ (placeOf l (List.getD l i.toNat zTask).F = i) := by simpa using h'
      rw [hpl] at this
      simp only [taskAt]; grind
    · have : placeOf l (List.getD l i.toNat zTask).F = i := by simpa using h'
      rw [hpl] at this
      simp only [taskAt, this]; grind
  · have hc := of_decide_eq_false hc
    have hA : allI l.length (taskAt l) = true := allI_true fun j hj => hR j (by omega)
    refine Lf_b ?_
    simp only [tasksOk, hA]; grind
def con_spec_TasksOk : Con UU where
  α := (List DTask)
  md := [.ro]
  of := fun | [.one (.sl .eTask a0)] => some a0 | _ => none
  ds := fun l => [.one (.sl .eTask l)]
  pre := fun l => []
  res := fun l => ⟨[.one (.lit (.bool (tasksOk l)))], true, []⟩
  law := by intro l x h; (try simp only at h); split at h <;> cases h; rfl
def I_spec_TasksOk_2 (l : (List DTask)) : Int × Unit → Prop := fun (i, _) => 0 ≤ i ∧ i ≤ l.length ∧ ∀ j : Nat, (j : Int) < i → taskAt l j = true
def μ_spec_TasksOk_2 (l : (List DTask)) : Int × Unit → Nat := fun (i, _) => l.length - i.toNat
def I_spec_TasksOk_7 (l : (List DTask)) : Int × Int × Unit → Int × Int × Unit → Prop := fun (i0, k0, _) (i, k, _) => i = i0 ∧ 0 ≤ k ∧ k ≤ i ∧ ∀ j : Nat, (j : Int) < k → decide ((List.getD l j zTask).F = (List.getD l i.toNat zTask).F) = false
def μ_spec_TasksOk_7 (l : (List DTask)) : Int × Int × Unit → Nat := fun (i, k, _) => i.toNat - k.toNat
def ann_spec_TasksOk : con_spec_TasksOk.α → Nat → Option (Ann UU) := fun l => annL [(2, annOf [.slot 3 (3, 1024) (.lit (.int .i64))] (fun _ => I_spec_TasksOk_2 l) (μ_spec_TasksOk_2 l)), (7, annOf [.slot 3 (3, 1024) (.lit (.int .i64)), .slot 4 (4, 1024) (.lit (.int .i64))] (I_spec_TasksOk_7 l) (μ_spec_TasksOk_7 l))]
def use_spec_TasksOk : List (FuncId × Con UU) := [(85, con_spec_l18Task), (86, con_spec_SameFact)]
theorem vc_spec_TasksOk (l : (List DTask)) : goal EE use_spec_TasksOk Go.Proofs.Tryd.f58 con_spec_TasksOk ann_spec_TasksOk l = (let x0 : Int := (↑(List.length l) : Int);
I_spec_TasksOk_2 l ((0 : Int), PUnit.unit) ∧
  ∀ (y : Int × PUnit),
    I_spec_TasksOk_2 l y →
      bif decide (y.1 < x0) then
        (0 : Int) ≤ y.1 ∧
          Int.toNat y.1 < List.length l ∧
            bif !taskOk (List.getD l (Int.toNat y.1) zTask) then Lf [DV.one (Cell.lit (Value.bool false))] [DV.one (Cell.lit (Value.bool (tasksOk l)))]
            else
              I_spec_TasksOk_7 l (y.1, (0 : Int), PUnit.unit) (y.1, (0 : Int), PUnit.unit) ∧
                ∀ (y_1 : Int × Int × PUnit),
                  let x1 : Nat := Int.toNat y_1.2.1;
                  I_spec_TasksOk_7 l (y.1, (0 : Int), PUnit.unit) y_1 → bif decide (y_1.2.1 < y_1.1) then (0 : Int) ≤ y_1.1 ∧ Int.toNat y_1.1 < List.length l ∧ (0 : Int) ≤ y_1.2.1 ∧ x1 < List.length l ∧ bif decide ((List.getD l (Int.toNat y_1.1) zTask).F = (List.getD l x1 zTask).F) then Lf [DV.one (Cell.lit (Value.bool false))] [DV.one (Cell.lit (Value.bool (tasksOk l)))] else I_spec_TasksOk_7 l (y.1, (0 : Int), PUnit.unit) (y_1.1, IntKind.wrap IntKind.i64 (y_1.2.1 + (1 : Int)), PUnit.unit) ∧ μ_spec_TasksOk_7 l (y_1.1, IntKind.wrap IntKind.i64 (y_1.2.1 + (1 : Int)), PUnit.unit) < μ_spec_TasksOk_7 l y_1 else I_spec_TasksOk_2 l (IntKind.wrap IntKind.i64 (y_1.1 + (1 : Int)), PUnit.unit) ∧ μ_spec_TasksOk_2 l (IntKind.wrap IntKind.i64 (y_1.1 + (1 : Int)), PUnit.unit) < μ_spec_TasksOk_2 l y
      else Lf [DV.one (Cell.lit (Value.bool (decide (x0 ≤ (30 : Int)))))] [DV.one (Cell.lit (Value.bool (tasksOk l)))]) := by kernel_rfl
theorem ok_spec_TasksOk : Holds EE (58, con_spec_TasksOk) := by
  refine holds_of EE_ok Go.Proofs.Tryd.func58 con_spec_TasksOk (by kernel_rfl) rfl use_spec_TasksOk (all_cons ok_spec_l18Task (all_cons ok_spec_SameFact all_nil)) ann_spec_TasksOk (fun (l : (List DTask)) hp hb => ?_)
  have hb_l : BdDV (U := UU) (.one (.sl .eTask l)) := hb _ (List.mem_cons_self)
  have hl_l : l.length ≤ 9223372036854775807 := Bd.len hb_l
  clear hp hb
  rw [vc_spec_TasksOk l]
  dsimp only
  refine ⟨⟨by omega, by omega, by intro j hj; omega⟩, ?_⟩
  rintro ⟨i, ⟨⟩⟩ ⟨h1, h2, hR⟩
  simp only
  refine if_cond (fun hc => ?_) (fun hc => ?_)
  · have hc := of_decide_eq_true hc
    have hN : taskAt l i.toNat = false → tasksOk l = false := fun h => by
      have hf : allI l.length (taskAt l) = false := allI_false (j := i.toNat) (by omega) h
      simp only [tasksOk, hf]; simp
    have hm : μ_spec_TasksOk_2 l (i + 1, PUnit.unit) < μ_spec_TasksOk_2 l (i, ()) := by simp only [μ_spec_TasksOk_2]; omega
    refine ⟨by omega, by omega, if_cond (fun h => Lf_ff (hN ?_)) (fun h => ⟨⟨rfl, by omega, by omega, by intro j hj; omega⟩, ?_⟩)⟩
    · simp only [taskAt]; grind
    rintro ⟨i, k, ⟨⟩⟩ ⟨rfl, g1, g2, gR⟩
    simp only
    refine if_cond (fun hk => ?_) (fun hk => ?_)
    · have hk := of_decide_eq_true hk
      simp (disch := omega) only [wrap_i64]
      refine ⟨by omega, by omega, by omega, by omega, if_cond (fun h'' => Lf_ff (hN ?_)) (fun h'' => ⟨⟨rfl, by omega, by omega, upto_no g1 gR ?_⟩, by simp only [μ_spec_TasksOk_7]; omega⟩)⟩
      · have ha : (anyI i.toNat fun k => decide ((List.getD l k zTask).F = (List.getD l i.toNat zTask).F)) = true := anyI_true (j := k.toNat) (by omega) (by grind)
        simp only [taskAt, ha]; simp
      · grind
    · have hk := of_decide_eq_false hk
      simp (disch := omega) only [wrap_i64]
      refine ⟨⟨by omega, by omega, upto_step h1 hR ?_⟩, hm⟩
      have ha : (anyI i.toNat fun k => decide ((List.getD l k zTask).F = (List.getD l i.toNat zTask).F)) = false := anyI_false fun j hj => gR j (by omega)
      simp only [taskAt, ha]; grind
  · have hc := of_decide_eq_false hc
    have hA : allI l.length (taskAt l) = true := allI_true fun j hj => hR j (by omega)
    refine Lf_b ?_
    simp only [tasksOk, hA]; grind
open Go.RowKit
def itoaB (n : Int) : ByteArray := ⟨(Go.Lib.itoa n).toArray⟩
def joinB (l : List ByteArray) (sep : ByteArray) : ByteArray := ⟨(Go.Lib.join (l.map (fun s => s.data.toList)) sep.data.toList).toArray⟩
theorem grow_upto {w : World} {k : Nat} {os : Array Obj} : Upto (fun _ => False) w (Go.Sort.grow (w.drewN k) os) := by
  refine ⟨rfl, rfl, rfl, ?_, fun i hi _ => ?_⟩
  · show w.heap.size ≤ (w.heap ++ os).size
    simp
  · show (w.heap ++ os)[i]? = _
    rw [Array.getElem?_append_left hi]
def con_strconv_Itoa : Con UU where
  α := Int
  md := [.ro]
  of := fun | [.one (.lit (.int .i64 a0))] => some a0 | _ => none
  ds := fun n => [.one (.lit (.int .i64 n))]
  pre := fun n => []
  res := fun n => ⟨[.one (.lit (.string (itoaB n)))], true, []⟩
  law := by intro l x h; (try simp only at h); split at h <;> cases h; rfl
theorem ok_strconv_Itoa : Holds EE (107, con_strconv_Itoa) := by
  refine ⟨⟨_, Go.Proofs.Tryd.func107, by kernel_rfl, by kernel_rfl⟩, ?_⟩
  refine sound_lit rfl fun (n : Int) _ w F vs ls hF hlay hra => ?_
  obtain ⟨v, rfl, hv⟩ := rargs1 hra
  obtain ⟨_, rfl, hl⟩ := hv.lit_all
  have hb : -9223372036854775808 ≤ n ∧ n ≤ 9223372036854775807 := hl.2
  refine ⟨_, rfl, rfl, rfl, ⟨rfl, ?_⟩, (Go.Proofs.Tryd.strconv_Itoa n hb.1 hb.2 w (tab_is hlay)).mono ?_⟩
  · have := Go.Lib.itoa_length_le n hb.1 hb.2
    show (ByteArray.mk _).size ≤ _
    simp only [itoaB, ByteArray.size, List.size_toArray]
    omega
  · rintro e w' ⟨rfl, k, os, rfl⟩
    exact ⟨rfl, grow_upto⟩
def con_strings_Join : Con UU where
  α := (List ByteArray) × ByteArray
  md := [.ro, .ro]
  of := fun | [.one (.sl .str a0), .one (.lit (.string a1))] => some (a0, a1) | _ => none
  ds := fun (l, sep) => [.one (.sl .str l), .one (.lit (.string sep))]
  pre := fun (l, sep) => [(joinB l sep).size ≤ 140737488355328, l.length ≤ 140737488355328]
  res := fun (l, sep) => ⟨[.one (.lit (.string (joinB l sep)))], true, []⟩
  law := by intro l x h; (try simp only at h); split at h <;> cases h; rfl
theorem ok_strings_Join : Holds EE (98, con_strings_Join) := by
  refine ⟨⟨_, Go.Proofs.Tryd.func98, by kernel_rfl, by kernel_rfl⟩, ?_⟩
  refine sound_lit rfl fun (x : List ByteArray × ByteArray) hp w F vs ls hF hlay hra => ?_
  obtain ⟨l, sep⟩ := x
  have hp0 : (joinB l sep).size ≤ 140737488355328 := hp _ List.mem_cons_self
  have hp1 : l.length ≤ 140737488355328 := hp _ (List.mem_cons_of_mem _ List.mem_cons_self)
  obtain ⟨u, v, rfl, hu, hv⟩ := rargs2 hra
  obtain ⟨_, rfl, hl⟩ := hv.lit_all
  refine ⟨_, rfl, rfl, rfl, ⟨rfl, by omega⟩, ?_⟩
  rcases hu.inv with ⟨h0, a, c, rfl⟩ | ⟨b, off, cap, vs, rfl, hb, hc, hcell, hr⟩
  · subst h0
    refine (Go.Proofs.Tryd.strings_Join_none a c sep w).mono ?_
    rintro e w' ⟨rfl, rfl⟩
    exact ⟨rfl, Upto.refl _ _⟩
  · refine (Go.Proofs.Tryd.strings_Join b off cap l sep w (fun j x hj => ?_) (hF b hb) hp1 hc (by simpa [joinB, ByteArray.size] using hp0)).mono ?_
    · have h1 := hr j x 0 (.lit (.string x)) hj rfl
      have hj' : j < l.length := by
        rcases Nat.lt_or_ge j l.length with h | h
        · exact h
        · rw [List.getElem?_eq_none h] at hj; cases hj
      have h2 := hcell j (by show j < l.length * 1; omega)
      have e : j * UU.wd .str + 0 = j := by show j * 1 + 0 = j; omega
      rw [e] at h1
      rw [h2, (h1.lit_all).2.1]
    · rintro e w' ⟨rfl, hbe⟩
      exact ⟨rfl, Upto.below hbe⟩
def mkB (l : List UInt8) : ByteArray := ⟨l.toArray⟩
theorem mkB_app (a b : List UInt8) : mkB a ++ mkB b = mkB (a ++ b) := by
  apply ByteArray.ext
  simp [mkB]
theorem mkB_bs (s : ByteArray) : mkB (bs s) = s := by
  apply ByteArray.ext
  simp [mkB, bs]
theorem bs_mkB (l : List UInt8) : bs (mkB l) = l := by simp [mkB, bs]
theorem mkB_size (l : List UInt8) : (mkB l).size = l.length := by simp [mkB, ByteArray.size]
theorem app_mkB (s : ByteArray) (l : List UInt8) : s ++ mkB l = mkB (bs s ++ l) := by rw [← mkB_app, mkB_bs]
def valT (v : DVal) : List UInt8 := if v.K = 1 then Go.Lib.itoa v.N else 39 :: (bs v.S ++ [39])
def valsT (l : List DVal) : List UInt8 := 40 :: (Go.Lib.join (l.map valT) [44] ++ [41])
def valText (v : DVal) : ByteArray := if valOk v = true then mkB (valT v) else noBytes
def factText (f : DFact) : ByteArray := if factOk f = true then mkB (bs f.Kind ++ valsT f.Fields) else noBytes
theorem joinB_eq (l : List ByteArray) (s : ByteArray) : joinB l s = mkB (Go.Lib.join (l.map bs) (bs s)) := rfl
theorem itoaB_eq (n : Int) : itoaB n = mkB (Go.Lib.itoa n) := rfl
theorem join_snoc (l : List (List UInt8)) (x sep : List UInt8) : Go.Lib.join (l ++ [x]) sep = if l = [] then x else Go.Lib.join l sep ++ (sep ++ x) := by
  cases l with
  | nil => simp [Go.Lib.join_one]
  | cons y r =>
    rw [List.cons_append, Go.Lib.join_cons, Go.Lib.join_cons, if_neg (by simp)]
    simp [Go.Lib.joinTail]
theorem valOk_cases {v : DVal} (h : valOk v = true) : (v.K = 1 ∧ -1000000000 ≤ v.N ∧ v.N ≤ 1000000000) ∨ (v.K = 2 ∧ v.S.size ≤ 20) := by
  simp only [valOk] at h
  by_cases h1 : v.K = 1
  · simp [h1] at h; exact .inl ⟨h1, h.1.1, h.1.2⟩
  · by_cases h2 : v.K = 2
    · simp [h2] at h; exact .inr ⟨h2, h.1.2⟩
    · simp [h1, h2] at h
theorem valT_len {v : DVal} (h : valOk v = true) : (valT v).length ≤ 22 := by
  rcases valOk_cases h with ⟨h1, h2, h3⟩ | ⟨h1, h2⟩
  · have := Go.Lib.itoa_length_le v.N (by omega) (by omega)
    simp only [valT, if_pos h1]; omega
  · simp only [valT, if_neg (show ¬ v.K = 1 by omega), List.length_cons, List.length_append, bs_len, List.length_nil]; omega
theorem join_len : ∀ (l : List DVal), l.all valOk = true → (Go.Lib.join (l.map valT) [44]).length ≤ 23 * l.length
  | [], _ => by simp [Go.Lib.join_nil]
  | x :: r, h => by
    rw [List.map_cons, Go.Lib.join_cons]
    simp only [List.all_cons, Bool.and_eq_true] at h
    have h1 := valT_len h.1
    have h2 : ∀ r : List DVal, r.all valOk = true → (Go.Lib.joinTail [44] (r.map valT)).length ≤ 23 * r.length := by
      intro r
      induction r with
      | nil => intro _; simp [Go.Lib.joinTail]
      | cons y r ih =>
        intro h
        simp only [List.all_cons, Bool.and_eq_true] at h
        have h3 := valT_len h.1
        have h4 := ih h.2
        simp only [Go.Lib.joinTail, List.map_cons, List.flatten_cons, List.length_append, List.length_cons, List.length_nil] at h4 ⊢
        omega
    have h3 := h2 r h.2
    simp only [List.length_append, List.length_cons]
    omega
theorem factOk_fields {f : DFact} (h : factOk f = true) : f.Fields.length ≤ 5 ∧ f.Fields.all valOk = true ∧ nameOk f.Kind = true ∧ f.Kind.size ≤ 12 := by
  simp only [factOk, Bool.and_eq_true, decide_eq_true_eq] at h
  have h2 := h.1.1
  simp only [nameOk, Bool.and_eq_true, decide_eq_true_eq] at h2
  exact ⟨h.1.2, h.2, h.1.1, h2.1.1.2⟩
theorem all_getD {α : Type} {p : α → Bool} {l : List α} (h : l.all p = true) (z : α) {i : Int} (h0 : 0 ≤ i) (hi : i < l.length) : p (List.getD l i.toNat z) = true :=
  List.all_eq_true.1 h _ (getD_mem l z h0 hi)
theorem all_take {α : Type} {p : α → Bool} {l : List α} (h : l.all p = true) (n : Nat) : (l.take n).all p = true := by
  rw [List.all_eq_true] at h ⊢
  exact fun x hx => h x (List.mem_of_mem_take hx)
theorem dec_step {n : Int} (h : 10 ≤ n) : Go.Lib.itoa n = Go.Lib.itoa (n / 10) ++ [UInt8.ofNat (48 + n.toNat % 10)] := by
  simp only [Go.Lib.itoa]
  rw [if_neg (by omega), if_neg (by omega)]
  have e : (n / 10).toNat = n.toNat / 10 := by omega
  rw [e, Go.Lib.decDigits, dif_neg (by omega)]
theorem dec_one {n : Int} (h0 : 0 ≤ n) (h : n < 10) : Go.Lib.itoa n = [UInt8.ofNat (48 + n.toNat)] := by
  simp only [Go.Lib.itoa]
  rw [if_neg (by omega), Go.Lib.decDigits_one (by omega)]
theorem dec_neg {n : Int} (h : n < 0) : Go.Lib.itoa n = 45 :: Go.Lib.itoa (-n) := by
  simp only [Go.Lib.itoa]
  rw [if_pos h, if_neg (by omega)]
  have e : (-n).toNat = n.natAbs := by omega
  rw [e]
theorem chr_eq {n : Int} (h0 : 0 ≤ n) (h : n ≤ 255) : strOfNums (List.map (fun (x : Int) => x) [n]) = mkB [UInt8.ofNat n.toNat] := by
  simp [strOfNums, mkB]
theorem wrap_u8' {n : Int} (h : 0 ≤ n) (h' : n ≤ 255) : IntKind.wrap .u8 n = n := by
  simp only [IntKind.wrap]
  simp [IntKind.bits, IntKind.signed]
  omega
def taskAtKey (l : List DTask) (key : ByteArray) : Int := idxI l.length fun k => decide (factText (List.getD l k zTask).F = key)
def con_spec_l2Num : Con UU where
  α := Int
  md := [.ro]
  of := fun | [.one (.lit (.int .i64 a0))] => some a0 | _ => none
  ds := fun n => [.one (.lit (.int .i64 n))]
  pre := fun n => [-1000000000 ≤ n ∧ n ≤ 1000000000]
  res := fun n => ⟨[.one (.lit (.string (itoaB n)))], true, []⟩
  law := by intro l x h; (try simp only at h); split at h <;> cases h; rfl
def ann_spec_l2Num : con_spec_l2Num.α → Nat → Option (Ann UU) := fun n => annL []
def mu_spec_l2Num : Int → Nat := fun n => if n < 0 then n.natAbs + 1 else n.natAbs
def use_spec_l2Num (rn : Nat) : List (FuncId × Con UU) := [(113, con_spec_l2Num.below mu_spec_l2Num rn)]
theorem vc_spec_l2Num (rn : Nat) (n : Int) : goal EE (use_spec_l2Num rn) Go.Proofs.Tryd.f113 (con_spec_l2Num.below mu_spec_l2Num (rn + 1)) ann_spec_l2Num n = (let x0 : Int := IntKind.wrap IntKind.i64 ((0 : Int) - n);
let x1 : ByteArray := strOfNums (List.map (fun (x : Cd.T Cd.byte) => x) [IntKind.wrap IntKind.u8 (IntKind.wrap IntKind.i64 ((48 : Int) + Int.tmod n (10 : Int)))]);
let x2 : Int := IntKind.wrap IntKind.i64 (Int.tdiv n (10 : Int));
bif decide (n < (0 : Int)) then mu_spec_l2Num x0 < rn ∧ ((-1000000000 : Int) ≤ x0 ∧ x0 ≤ (1000000000 : Int)) ∧ ByteArray.size { data := #[(45 : UInt8)] : ByteArray } + ByteArray.size (itoaB x0) ≤ (4611686018427387904 : Nat) ∧ Lf [DV.one (Cell.lit (Value.string ({ data := #[(45 : UInt8)] : ByteArray } ++ itoaB x0)))] [DV.one (Cell.lit (Value.string (itoaB n)))] else bif decide (n < (10 : Int)) then Lf [DV.one (Cell.lit (Value.string (strOfNums (List.map (fun (x : Cd.T Cd.byte) => x) [IntKind.wrap IntKind.u8 (IntKind.wrap IntKind.i64 ((48 : Int) + n))]))))] [DV.one (Cell.lit (Value.string (itoaB n)))] else (10 : Int) ≠ (0 : Int) ∧ mu_spec_l2Num x2 < rn ∧ ((-1000000000 : Int) ≤ x2 ∧ x2 ≤ (1000000000 : Int)) ∧ (10 : Int) ≠ (0 : Int) ∧ ByteArray.size (itoaB x2) + ByteArray.size x1 ≤ (4611686018427387904 : Nat) ∧ Lf [DV.one (Cell.lit (Value.string (itoaB x2 ++ x1)))] [DV.one (Cell.lit (Value.string (itoaB n)))]) := by kernel_rfl
theorem ok_spec_l2Num : Holds EE (113, con_spec_l2Num) := by
  refine holds_rec (k := con_spec_l2Num) Go.Proofs.Tryd.func113 (by kernel_rfl) mu_spec_l2Num (fun rn ih => ?_)
  refine holds_of EE_ok Go.Proofs.Tryd.func113 (con_spec_l2Num.below mu_spec_l2Num (rn + 1)) (by kernel_rfl) rfl (use_spec_l2Num rn) (all_cons ih all_nil) ann_spec_l2Num (fun (n : Int) hp hb => ?_)
  have hrec : mu_spec_l2Num n < rn + 1 := hp _ List.mem_cons_self
  have hb_n : BdDV (U := UU) (.one (.lit (.int .i64 n))) := hb _ (List.mem_cons_self)
  have hl_n := Bd.i64 hb_n
  have hp0 : -1000000000 ≤ n ∧ n ≤ 1000000000 := hp _ (List.mem_cons_of_mem _ (List.mem_cons_self))
  clear hp hb
  rw [vc_spec_l2Num rn n]
  dsimp only
  simp only [mu_spec_l2Num] at hrec
  refine if_cond (fun h => ?_) (fun h => if_cond (fun h' => Lf_s ?_) (fun h' => ?_))
  · have h := of_decide_eq_true h
    rw [if_pos h] at hrec
    rw [wrap_i64 (by omega) (by omega)]
    have e : (0 : Int) - n = -n := by omega
    rw [e]
    have hl := Go.Lib.itoa_length_le (-n) (by omega) (by omega)
    refine ⟨?_, ⟨by omega, by omega⟩, ?_, Lf_s ?_⟩
    · simp only [mu_spec_l2Num]; rw [if_neg (by omega)]; omega
    · rw [itoaB_eq, mkB_size]; show 1 + _ ≤ _; omega
    · rw [itoaB_eq, itoaB_eq, dec_neg h]; exact mkB_app [45] _
  · have h := of_decide_eq_false h
    have h' := of_decide_eq_true h'
    rw [wrap_i64 (by omega) (by omega), wrap_u8' (by omega) (by omega), itoaB_eq, dec_one (by omega) h']
    refine (chr_eq (n := 48 + n) (by omega) (by omega)).trans ?_
    have e : (48 + n).toNat = 48 + n.toNat := by omega
    rw [e]
  · have h := of_decide_eq_false h
    have h' := of_decide_eq_false h'
    rw [if_neg h] at hrec
    have t1 : Int.tdiv n 10 = n / 10 := Int.tdiv_eq_ediv_of_nonneg (by omega)
    have t2 : Int.tmod n 10 = n % 10 := Int.tmod_eq_emod_of_nonneg (by omega)
    rw [t1, t2, wrap_i64 (by omega) (by omega), wrap_i64 (by omega) (by omega), wrap_u8' (by omega) (by omega)]
    have hl := Go.Lib.itoa_length_le (n / 10) (by omega) (by omega)
    have hc : strOfNums (List.map (fun (x : Cd.T Cd.byte) => x) [(48 : Int) + n % 10]) = mkB [UInt8.ofNat (48 + n % 10).toNat] := chr_eq (n := 48 + n % 10) (by omega) (by omega)
    rw [hc]
    refine ⟨by omega, ?_, ⟨by omega, by omega⟩, by omega, ?_, Lf_s ?_⟩
    · simp only [mu_spec_l2Num]; rw [if_neg (by omega)]; omega
    · rw [itoaB_eq, mkB_size, mkB_size]; simp only [List.length_cons, List.length_nil]; omega
    · rw [itoaB_eq, itoaB_eq, dec_step (n := n) (by omega), mkB_app]
      have e : (48 + n % 10).toNat = 48 + n.toNat % 10 := by omega
      rw [e]
def con_spec_l2Text : Con UU where
  α := DVal
  md := [.ro]
  of := fun | [.agg [.lit (.int .i64 a0), .lit (.int .i64 a1), .lit (.string a2)]] => some ⟨a0, a1, a2⟩ | _ => none
  ds := fun v => [.agg [.lit (.int .i64 v.K), .lit (.int .i64 v.N), .lit (.string v.S)]]
  pre := fun v => [valOk v = true]
  res := fun v => ⟨[.one (.lit (.string (mkB (valT v))))], true, []⟩
  law := by intro l x h; (try simp only at h); split at h <;> cases h; rfl
def ann_spec_l2Text : con_spec_l2Text.α → Nat → Option (Ann UU) := fun v => annL []
def use_spec_l2Text : List (FuncId × Con UU) := [(113, con_spec_l2Num)]
theorem vc_spec_l2Text (v : DVal) : goal EE use_spec_l2Text Go.Proofs.Tryd.f106 con_spec_l2Text ann_spec_l2Text v = (let x0 : ByteArray := { data := #[(39 : UInt8)] : ByteArray };
bif v.K == (1 : Int) then ((-1000000000 : Int) ≤ v.N ∧ v.N ≤ (1000000000 : Int)) ∧ Lf [DV.one (Cell.lit (Value.string (itoaB v.N)))] [DV.one (Cell.lit (Value.string (mkB (valT v))))] else ByteArray.size x0 + ByteArray.size v.S ≤ (4611686018427387904 : Nat) ∧ ByteArray.size (x0 ++ v.S) + ByteArray.size x0 ≤ (4611686018427387904 : Nat) ∧ Lf [DV.one (Cell.lit (Value.string (x0 ++ v.S ++ x0)))] [DV.one (Cell.lit (Value.string (mkB (valT v))))]) := by kernel_rfl
theorem ok_spec_l2Text : Holds EE (106, con_spec_l2Text) := by
  refine holds_of EE_ok Go.Proofs.Tryd.func106 con_spec_l2Text (by kernel_rfl) rfl use_spec_l2Text (all_cons ok_spec_l2Num all_nil) ann_spec_l2Text (fun (v : DVal) hp hb => ?_)
  have hb_v : BdDV (U := UU) (.agg [.lit (.int .i64 v.K), .lit (.int .i64 v.N), .lit (.string v.S)]) := hb _ (List.mem_cons_self)
  have hl_v_S : v.S.size ≤ 9223372036854775807 := Bd.str (hb_v _ (by simp))
  have hp0 : valOk v = true := hp _ (List.mem_cons_self)
  clear hp hb
  rw [vc_spec_l2Text v]
  dsimp only
  rcases valOk_cases hp0 with ⟨h1, h2, h3⟩ | ⟨h1, h2⟩
  · refine if_cond (fun h => ⟨⟨h2, h3⟩, Lf_s ?_⟩) (fun h => absurd h (by simp [h1]))
    simp only [valT, if_pos h1]; rfl
  · refine if_cond (fun h => absurd h (by simp [h1])) (fun h => ?_)
    have e : ({ data := #[(39 : UInt8)] : ByteArray } ++ v.S) = mkB (39 :: bs v.S) := by
      conv => lhs; rw [← mkB_bs v.S]
      exact mkB_app [39] _
    rw [e]
    refine ⟨?_, ?_, Lf_s ?_⟩
    · show 1 + _ ≤ _; omega
    · rw [mkB_size]; show _ + 1 ≤ _; simp only [List.length_cons, bs_len]; omega
    · simp only [valT, if_neg (show ¬ v.K = 1 by omega)]; exact mkB_app (39 :: bs v.S) [39]
def con_spec_l3ValsText : Con UU where
  α := (List DVal)
  md := [.ro]
  of := fun | [.one (.sl .eVal a0)] => some a0 | _ => none
  ds := fun l => [.one (.sl .eVal l)]
  pre := fun l => [l.length ≤ 5, l.all valOk = true]
  res := fun l => ⟨[.one (.lit (.string (mkB (valsT l))))], true, []⟩
  law := by intro l x h; (try simp only at h); split at h <;> cases h; rfl
def I_spec_l3ValsText_3 (l : (List DVal)) : ByteArray × Int × Unit → Prop := fun (s, i, _) => 0 ≤ i ∧ i ≤ l.length ∧ s = mkB (40 :: Go.Lib.join ((l.take i.toNat).map valT) [44])
def μ_spec_l3ValsText_3 (l : (List DVal)) : ByteArray × Int × Unit → Nat := fun (s, i, _) => l.length - i.toNat
def ann_spec_l3ValsText : con_spec_l3ValsText.α → Nat → Option (Ann UU) := fun l => annL [(3, annOf [.slot 3 (3, 1024) (.lit .str), .slot 4 (4, 1024) (.lit (.int .i64))] (fun _ => I_spec_l3ValsText_3 l) (μ_spec_l3ValsText_3 l))]
def use_spec_l3ValsText : List (FuncId × Con UU) := [(106, con_spec_l2Text)]
theorem vc_spec_l3ValsText (l : (List DVal)) : goal EE use_spec_l3ValsText Go.Proofs.Tryd.f96 con_spec_l3ValsText ann_spec_l3ValsText l = (I_spec_l3ValsText_3 l ({ data := #[(40 : UInt8)] : ByteArray }, (0 : Int), PUnit.unit) ∧
  ∀ (y : ByteArray × Int × PUnit),
    let x0 : ByteArray := mkB (valT (List.getD l (Int.toNat y.2.1) zVal));
    let x1 : Nat := Int.toNat y.2.1;
    let x2 : ByteArray := y.1 ++ { data := #[(44 : UInt8)] : ByteArray };
    I_spec_l3ValsText_3 l y → bif decide (y.2.1 < (↑(List.length l) : Int)) then bif decide (y.2.1 > (0 : Int)) then ByteArray.size y.1 + ByteArray.size { data := #[(44 : UInt8)] : ByteArray } ≤ (4611686018427387904 : Nat) ∧ (0 : Int) ≤ y.2.1 ∧ x1 < List.length l ∧ valOk (List.getD l x1 zVal) = true ∧ ByteArray.size x2 + ByteArray.size x0 ≤ (4611686018427387904 : Nat) ∧ I_spec_l3ValsText_3 l (x2 ++ x0, IntKind.wrap IntKind.i64 (y.2.1 + (1 : Int)), PUnit.unit) ∧ μ_spec_l3ValsText_3 l (x2 ++ x0, IntKind.wrap IntKind.i64 (y.2.1 + (1 : Int)), PUnit.unit) < μ_spec_l3ValsText_3 l y else (0 : Int) ≤ y.2.1 ∧ x1 < List.length l ∧ valOk (List.getD l x1 zVal) = true ∧ ByteArray.size y.1 + ByteArray.size x0 ≤ (4611686018427387904 : Nat) ∧ I_spec_l3ValsText_3 l (y.1 ++ x0, IntKind.wrap IntKind.i64 (y.2.1 + (1 : Int)), PUnit.unit) ∧ μ_spec_l3ValsText_3 l (y.1 ++ x0, IntKind.wrap IntKind.i64 (y.2.1 + (1 : Int)), PUnit.unit) < μ_spec_l3ValsText_3 l y else ByteArray.size y.1 + ByteArray.size { data := #[(41 : UInt8)] : ByteArray } ≤ (4611686018427387904 : Nat) ∧ Lf [DV.one (Cell.lit (Value.string (y.1 ++ { data := #[(41 : UInt8)] : ByteArray })))] [DV.one (Cell.lit (Value.string (mkB (valsT l))))]) := by kernel_rfl
theorem ok_spec_l3ValsText : Holds EE (96, con_spec_l3ValsText) := by
  refine holds_of EE_ok Go.Proofs.Tryd.func96 con_spec_l3ValsText (by kernel_rfl) rfl use_spec_l3ValsText (all_cons ok_spec_l2Text all_nil) ann_spec_l3ValsText (fun (l : (List DVal)) hp hb => ?_)
  have hb_l : BdDV (U := UU) (.one (.sl .eVal l)) := hb _ (List.mem_cons_self)
  have hl_l : l.length ≤ 9223372036854775807 := Bd.len hb_l
  have hp0 : l.length ≤ 5 := hp _ (List.mem_cons_self)
  have hp1 : l.all valOk = true := hp _ (List.mem_cons_of_mem _ (List.mem_cons_self))
  clear hp hb
  rw [vc_spec_l3ValsText l]
  dsimp only
  refine ⟨⟨by omega, by omega, rfl⟩, ?_⟩
  rintro ⟨s, i, ⟨⟩⟩ ⟨h1, h2, rfl⟩
  simp only
  have hj := join_len (l.take i.toNat) (all_take hp1 _)
  rw [List.length_take] at hj
  refine if_cond (fun hc => ?_) (fun hc => ?_)
  · have hc : i < l.length := of_decide_eq_true hc
    have hv := all_getD hp1 zVal h1 hc
    have hvl := valT_len hv
    rw [wrap_i64 (by omega) (by omega)]
    have ht : (l.take (i + 1).toNat).map valT = (l.take i.toNat).map valT ++ [valT (List.getD l i.toNat zVal)] := by rw [← take_step l zVal h1 hc, List.map_append]; rfl
    refine if_cond (fun h => ?_) (fun h => ?_)
    · have h := of_decide_eq_true h
      have e : (mkB (40 :: Go.Lib.join ((l.take i.toNat).map valT) [44]) ++ { data := #[(44 : UInt8)] : ByteArray }) = mkB (40 :: (Go.Lib.join ((l.take i.toNat).map valT) [44] ++ [44])) := mkB_app _ [44]
      rw [e, mkB_app]
      have hn : ¬ (l.take i.toNat).map valT = [] := by
        intro h0
        have := congrArg List.length h0
        rw [List.length_map, List.length_take, List.length_nil] at this
        omega
      refine ⟨?_, h1, by omega, hv, ?_, ⟨by omega, by omega, ?_⟩, by simp only [μ_spec_l3ValsText_3]; omega⟩
      · rw [mkB_size]; show _ + 1 ≤ _; simp only [List.length_cons]; omega
      · rw [mkB_size, mkB_size]; simp only [List.length_cons, List.length_append, List.length_nil]; omega
      · rw [ht, join_snoc, if_neg hn]; simp
    · have h := of_decide_eq_false h
      have h0 : i = 0 := by omega
      subst h0
      rw [mkB_app]
      refine ⟨by omega, by omega, hv, ?_, ⟨by omega, by omega, ?_⟩, by simp only [μ_spec_l3ValsText_3]; omega⟩
      · rw [mkB_size, mkB_size]; simp only [List.length_cons]; omega
      · rw [ht, join_snoc]; simp [Go.Lib.join_nil]
  · have hc : ¬ i < l.length := of_decide_eq_false hc
    rw [take_all l (by omega)]
    refine ⟨?_, Lf_s ?_⟩
    · rw [mkB_size]; show _ + 1 ≤ _; simp only [List.length_cons]; rw [take_all l (by omega)] at hj; omega
    · exact mkB_app _ [41]
def con_spec_FactText : Con UU where
  α := DFact
  md := [.ro]
  of := fun | [.agg [.lit (.string a0), .sl .eVal a1]] => some ⟨a0, a1⟩ | _ => none
  ds := fun f => [.agg [.lit (.string f.Kind), .sl .eVal f.Fields]]
  pre := fun f => []
  res := fun f => ⟨[.one (.lit (.string (factText f)))], true, []⟩
  law := by intro l x h; (try simp only at h); split at h <;> cases h; rfl
def ann_spec_FactText : con_spec_FactText.α → Nat → Option (Ann UU) := fun f => annL []
def use_spec_FactText : List (FuncId × Con UU) := [(38, con_spec_FactOk), (96, con_spec_l3ValsText)]
theorem vc_spec_FactText (f : DFact) : goal EE use_spec_FactText Go.Proofs.Tryd.f76 con_spec_FactText ann_spec_FactText f = (bif !factOk f then Lf [DV.one (Cell.lit (Value.string { data := #[] : ByteArray }))] [DV.one (Cell.lit (Value.string (factText f)))] else List.length f.Fields ≤ (5 : Nat) ∧ List.all f.Fields valOk = true ∧ ByteArray.size f.Kind + ByteArray.size (mkB (valsT f.Fields)) ≤ (4611686018427387904 : Nat) ∧ Lf [DV.one (Cell.lit (Value.string (f.Kind ++ mkB (valsT f.Fields))))] [DV.one (Cell.lit (Value.string (factText f)))]) := by kernel_rfl
theorem ok_spec_FactText : Holds EE (76, con_spec_FactText) := by
  refine holds_of EE_ok Go.Proofs.Tryd.func76 con_spec_FactText (by kernel_rfl) rfl use_spec_FactText (all_cons ok_spec_FactOk (all_cons ok_spec_l3ValsText all_nil)) ann_spec_FactText (fun (f : DFact) hp hb => ?_)
  have hb_f : BdDV (U := UU) (.agg [.lit (.string f.Kind), .sl .eVal f.Fields]) := hb _ (List.mem_cons_self)
  have hl_f_Kind : f.Kind.size ≤ 9223372036854775807 := Bd.str (hb_f _ (by simp))
  have hl_f_Fields : f.Fields.length ≤ 9223372036854775807 := Bd.len (U := UU) (τ := .eVal) (xs := f.Fields) (hb_f _ (by simp))
  clear hp hb
  rw [vc_spec_FactText f]
  refine if_cond (fun h => Lf_s ?_) (fun h => ?_)
  · have h : factOk f = false := by simpa using h
    simp only [factText, h]; rfl
  · have h : factOk f = true := by simpa using h
    obtain ⟨h1, h2, h3, h4⟩ := factOk_fields h
    have hj := join_len f.Fields h2
    refine ⟨h1, h2, ?_, Lf_s ?_⟩
    · rw [mkB_size]; simp only [valsT, List.length_cons, List.length_append, List.length_nil]; omega
    · simp only [factText, h, if_true]; exact app_mkB _ _
def con_spec_TaskKey : Con UU where
  α := DFact
  md := [.ro]
  of := fun | [.agg [.lit (.string a0), .sl .eVal a1]] => some ⟨a0, a1⟩ | _ => none
  ds := fun f => [.agg [.lit (.string f.Kind), .sl .eVal f.Fields]]
  pre := fun f => []
  res := fun f => ⟨[.one (.lit (.string (factText f)))], true, []⟩
  law := by intro l x h; (try simp only at h); split at h <;> cases h; rfl
def ann_spec_TaskKey : con_spec_TaskKey.α → Nat → Option (Ann UU) := fun f => annL []
def use_spec_TaskKey : List (FuncId × Con UU) := [(76, con_spec_FactText)]
theorem vc_spec_TaskKey (f : DFact) : goal EE use_spec_TaskKey Go.Proofs.Tryd.f40 con_spec_TaskKey ann_spec_TaskKey f = (Lf [DV.one (Cell.lit (Value.string (factText f)))] [DV.one (Cell.lit (Value.string (factText f)))]) := by kernel_rfl
theorem ok_spec_TaskKey : Holds EE (40, con_spec_TaskKey) := by
  refine holds_of EE_ok Go.Proofs.Tryd.func40 con_spec_TaskKey (by kernel_rfl) rfl use_spec_TaskKey (all_cons ok_spec_FactText all_nil) ann_spec_TaskKey (fun (f : DFact) hp hb => ?_)
  have hb_f : BdDV (U := UU) (.agg [.lit (.string f.Kind), .sl .eVal f.Fields]) := hb _ (List.mem_cons_self)
  have hl_f_Kind : f.Kind.size ≤ 9223372036854775807 := Bd.str (hb_f _ (by simp))
  have hl_f_Fields : f.Fields.length ≤ 9223372036854775807 := Bd.len (U := UU) (τ := .eVal) (xs := f.Fields) (hb_f _ (by simp))
  clear hp hb
  rw [vc_spec_TaskKey f]
  exact Lf_rfl _
def con_impl_ValText : Con UU where
  α := DVal
  md := [.ro]
  of := fun | [.agg [.lit (.int .i64 a0), .lit (.int .i64 a1), .lit (.string a2)]] => some ⟨a0, a1, a2⟩ | _ => none
  ds := fun v => [.agg [.lit (.int .i64 v.K), .lit (.int .i64 v.N), .lit (.string v.S)]]
  pre := fun v => []
  res := fun v => ⟨[.one (.lit (.string (valText v)))], true, []⟩
  law := by intro l x h; (try simp only at h); split at h <;> cases h; rfl
def ann_impl_ValText : con_impl_ValText.α → Nat → Option (Ann UU) := fun v => annL []
def use_impl_ValText : List (FuncId × Con UU) := [(64, con_impl_ValOk), (107, con_strconv_Itoa)]
theorem vc_impl_ValText (v : DVal) : goal EE use_impl_ValText Go.Proofs.Tryd.f97 con_impl_ValText ann_impl_ValText v = (let x0 : ByteArray := { data := #[(39 : UInt8)] : ByteArray };
bif !valOk v then Lf [DV.one (Cell.lit (Value.string { data := #[] : ByteArray }))] [DV.one (Cell.lit (Value.string (valText v)))] else bif v.K == (1 : Int) then Lf [DV.one (Cell.lit (Value.string (itoaB v.N)))] [DV.one (Cell.lit (Value.string (valText v)))] else ByteArray.size x0 + ByteArray.size v.S ≤ (4611686018427387904 : Nat) ∧ ByteArray.size (x0 ++ v.S) + ByteArray.size x0 ≤ (4611686018427387904 : Nat) ∧ Lf [DV.one (Cell.lit (Value.string (x0 ++ v.S ++ x0)))] [DV.one (Cell.lit (Value.string (valText v)))]) := by kernel_rfl
theorem ok_impl_ValText : Holds EE (97, con_impl_ValText) := by
  refine holds_of EE_ok Go.Proofs.Tryd.func97 con_impl_ValText (by kernel_rfl) rfl use_impl_ValText (all_cons ok_impl_ValOk (all_cons ok_strconv_Itoa all_nil)) ann_impl_ValText (fun (v : DVal) hp hb => ?_)
  have hb_v : BdDV (U := UU) (.agg [.lit (.int .i64 v.K), .lit (.int .i64 v.N), .lit (.string v.S)]) := hb _ (List.mem_cons_self)
  have hl_v_S : v.S.size ≤ 9223372036854775807 := Bd.str (hb_v _ (by simp))
  clear hp hb
  rw [vc_impl_ValText v]
  dsimp only
  refine if_cond (fun h => Lf_s ?_) (fun h => ?_)
  · have h : valOk v = false := by simpa using h
    simp only [valText, h]; rfl
  · have h : valOk v = true := by simpa using h
    have ev : valText v = mkB (valT v) := by simp only [valText, h, if_true]
    rw [ev]
    rcases valOk_cases h with ⟨h1, h2, h3⟩ | ⟨h1, h2⟩
    · refine if_cond (fun h => Lf_s ?_) (fun h => absurd h (by simp [h1]))
      simp only [valT, if_pos h1]; rfl
    · refine if_cond (fun h => absurd h (by simp [h1])) (fun h => ?_)
      have e : ({ data := #[(39 : UInt8)] : ByteArray } ++ v.S) = mkB (39 :: bs v.S) := by
        conv => lhs; rw [← mkB_bs v.S]
        exact mkB_app [39] _
      rw [e]
      refine ⟨?_, ?_, Lf_s ?_⟩
      · show 1 + _ ≤ _; omega
      · rw [mkB_size]; show _ + 1 ≤ _; simp only [List.length_cons, bs_len]; omega
      · simp only [valT, if_neg (show ¬ v.K = 1 by omega)]; exact mkB_app (39 :: bs v.S) [39]
def con_impl_FactText : Con UU where
  α := DFact
  md := [.ro]
  of := fun | [.agg [.lit (.string a0), .sl .eVal a1]] => some ⟨a0, a1⟩ | _ => none
  ds := fun f => [.agg [.lit (.string f.Kind), .sl .eVal f.Fields]]
  pre := fun f => []
  res := fun f => ⟨[.one (.lit (.string (factText f)))], true, []⟩
  law := by intro l x h; (try simp only at h); split at h <;> cases h; rfl
def I_impl_FactText_5 (f : DFact) : List ByteArray × Int × (ByteArray × List DVal × Unit) × Unit → Prop := fun (out, i, fb, _) => fb = (f.Kind, f.Fields, ()) ∧ factOk f = true ∧ 0 ≤ i ∧ i ≤ f.Fields.length ∧ out = (f.Fields.take i.toNat).map valText
def μ_impl_FactText_5 (f : DFact) : List ByteArray × Int × (ByteArray × List DVal × Unit) × Unit → Nat := fun (out, i, fb, _) => f.Fields.length - i.toNat
def ann_impl_FactText : con_impl_FactText.α → Nat → Option (Ann UU) := fun f => annL [(5, annOf [.slot 3 (3, 1024) (.own .str true), .slot 12 (12, 1024) (.lit (.int .i64)), .box 1 (1, 1024) [.lit .str, .shr .eVal]] (fun _ => I_impl_FactText_5 f) (μ_impl_FactText_5 f))]
def use_impl_FactText : List (FuncId × Con UU) := [(46, con_impl_FactOk), (97, con_impl_ValText), (98, con_strings_Join)]
theorem vc_impl_FactText (f : DFact) : goal EE use_impl_FactText Go.Proofs.Tryd.f78 con_impl_FactText ann_impl_FactText f = (bif !factOk f then Lf [DV.one (Cell.lit (Value.string { data := #[] : ByteArray }))] [DV.one (Cell.lit (Value.string (factText f)))]
else
  I_impl_FactText_5 f ([], (0 : Int), (f.Kind, f.Fields, PUnit.unit), PUnit.unit) ∧
    ∀ (y : List ByteArray × Int × (ByteArray × List DVal × PUnit) × PUnit),
      let x0 : ByteArray := y.2.2.1.1 ++ { data := #[(40 : UInt8)] : ByteArray } ++ joinB y.1 { data := #[(44 : UInt8)] : ByteArray };
      let x1 : List ByteArray := [valText (List.getD f.Fields (Int.toNat y.2.1) zVal)];
      let x2 : Nat := ByteArray.size (joinB y.1 { data := #[(44 : UInt8)] : ByteArray });
      I_impl_FactText_5 f y → bif decide (y.2.1 < (↑(List.length f.Fields) : Int)) then (0 : Int) ≤ y.2.1 ∧ Int.toNat y.2.1 < List.length f.Fields ∧ List.length y.1 + List.length x1 ≤ (4294967296 : Nat) ∧ I_impl_FactText_5 f (y.1 ++ x1, IntKind.wrap IntKind.i64 (y.2.1 + (1 : Int)), (y.2.2.1.1, y.2.2.1.2.1, PUnit.unit), PUnit.unit) ∧ μ_impl_FactText_5 f (y.1 ++ x1, IntKind.wrap IntKind.i64 (y.2.1 + (1 : Int)), (y.2.2.1.1, y.2.2.1.2.1, PUnit.unit), PUnit.unit) < μ_impl_FactText_5 f y else ByteArray.size y.2.2.1.1 + ByteArray.size { data := #[(40 : UInt8)] : ByteArray } ≤ (4611686018427387904 : Nat) ∧ x2 ≤ (140737488355328 : Nat) ∧ List.length y.1 ≤ (140737488355328 : Nat) ∧ ByteArray.size (y.2.2.1.1 ++ { data := #[(40 : UInt8)] : ByteArray }) + x2 ≤ (4611686018427387904 : Nat) ∧ ByteArray.size x0 + ByteArray.size { data := #[(41 : UInt8)] : ByteArray } ≤ (4611686018427387904 : Nat) ∧ Lf [DV.one (Cell.lit (Value.string (x0 ++ { data := #[(41 : UInt8)] : ByteArray })))] [DV.one (Cell.lit (Value.string (factText f)))]) := by kernel_rfl
theorem ok_impl_FactText : Holds EE (78, con_impl_FactText) := by
  refine holds_of EE_ok Go.Proofs.Tryd.func78 con_impl_FactText (by kernel_rfl) rfl use_impl_FactText (all_cons ok_impl_FactOk (all_cons ok_impl_ValText (all_cons ok_strings_Join all_nil))) ann_impl_FactText (fun (f : DFact) hp hb => ?_)
  have hb_f : BdDV (U := UU) (.agg [.lit (.string f.Kind), .sl .eVal f.Fields]) := hb _ (List.mem_cons_self)
  have hl_f_Kind : f.Kind.size ≤ 9223372036854775807 := Bd.str (hb_f _ (by simp))
  have hl_f_Fields : f.Fields.length ≤ 9223372036854775807 := Bd.len (U := UU) (τ := .eVal) (xs := f.Fields) (hb_f _ (by simp))
  clear hp hb
  rw [vc_impl_FactText f]
  dsimp only
  refine if_cond (fun h => Lf_s ?_) (fun h => ?_)
  · have h : factOk f = false := by simpa using h
    simp only [factText, h]; rfl
  have h : factOk f = true := by simpa using h
  refine ⟨⟨rfl, h, by omega, by omega, rfl⟩, ?_⟩
  rintro ⟨out, i, fb, ⟨⟩⟩ ⟨rfl, _, h1, h2, rfl⟩
  obtain ⟨g1, g2, g3, g4⟩ := factOk_fields h
  simp only
  refine if_cond (fun hc => ?_) (fun hc => ?_)
  · have hc : i < f.Fields.length := of_decide_eq_true hc
    rw [wrap_i64 (by omega) (by omega)]
    refine ⟨h1, by omega, by simp; omega, ⟨rfl, h, by omega, by omega, ?_⟩, by simp only [μ_impl_FactText_5]; omega⟩
    rw [← take_step f.Fields zVal h1 hc, List.map_append]; rfl
  · have hc : ¬ i < f.Fields.length := of_decide_eq_false hc
    rw [take_all f.Fields (by omega)]
    have em : f.Fields.map valText = (f.Fields.map valT).map mkB := by
      rw [List.map_map]
      exact List.map_congr_left fun v hv => by
        have := List.all_eq_true.1 g2 v hv
        simp only [valText, this, if_true, Function.comp]
    have ej : joinB (f.Fields.map valText) { data := #[(44 : UInt8)] : ByteArray } = mkB (Go.Lib.join (f.Fields.map valT) [44]) := by
      rw [em, joinB_eq, List.map_map]
      have : (bs ∘ mkB) = id := funext fun l => bs_mkB l
      rw [this, List.map_id]
      rfl
    rw [ej]
    have hj := join_len f.Fields g2
    have e1 : (f.Kind ++ { data := #[(40 : UInt8)] : ByteArray }) = mkB (bs f.Kind ++ [40]) := app_mkB _ [40]
    rw [e1, mkB_app]
    refine ⟨?_, ?_, by simp; omega, ?_, ?_, Lf_s ?_⟩
    · show _ + 1 ≤ _; omega
    · rw [mkB_size]; omega
    · rw [mkB_size, mkB_size]; simp only [List.length_append, bs_len, List.length_cons, List.length_nil]; omega
    · rw [mkB_size]; show _ + 1 ≤ _; simp only [List.length_append, bs_len, List.length_cons, List.length_nil]; omega
    · simp only [factText, h, if_true]
      refine (mkB_app _ [41]).trans ?_
      simp [valsT]
def con_impl_TaskKey : Con UU where
  α := DFact
  md := [.ro]
  of := fun | [.agg [.lit (.string a0), .sl .eVal a1]] => some ⟨a0, a1⟩ | _ => none
  ds := fun f => [.agg [.lit (.string f.Kind), .sl .eVal f.Fields]]
  pre := fun f => []
  res := fun f => ⟨[.one (.lit (.string (factText f)))], true, []⟩
  law := by intro l x h; (try simp only at h); split at h <;> cases h; rfl
def ann_impl_TaskKey : con_impl_TaskKey.α → Nat → Option (Ann UU) := fun f => annL []
def use_impl_TaskKey : List (FuncId × Con UU) := [(78, con_impl_FactText)]
theorem vc_impl_TaskKey (f : DFact) : goal EE use_impl_TaskKey Go.Proofs.Tryd.f44 con_impl_TaskKey ann_impl_TaskKey f = (Lf [DV.one (Cell.lit (Value.string (factText f)))] [DV.one (Cell.lit (Value.string (factText f)))]) := by kernel_rfl
theorem ok_impl_TaskKey : Holds EE (44, con_impl_TaskKey) := by
  refine holds_of EE_ok Go.Proofs.Tryd.func44 con_impl_TaskKey (by kernel_rfl) rfl use_impl_TaskKey (all_cons ok_impl_FactText all_nil) ann_impl_TaskKey (fun (f : DFact) hp hb => ?_)
  have hb_f : BdDV (U := UU) (.agg [.lit (.string f.Kind), .sl .eVal f.Fields]) := hb _ (List.mem_cons_self)
  have hl_f_Kind : f.Kind.size ≤ 9223372036854775807 := Bd.str (hb_f _ (by simp))
  have hl_f_Fields : f.Fields.length ≤ 9223372036854775807 := Bd.len (U := UU) (τ := .eVal) (xs := f.Fields) (hb_f _ (by simp))
  clear hp hb
  rw [vc_impl_TaskKey f]
  exact Lf_rfl _
theorem size_map_giveUp (l : List DTask) : cntTaskS (giveUp l) = cntTaskS l := by
  unfold cntTaskS giveUp ctS
  rw [List.map_map]
  congr 1
  refine List.map_congr_left fun t _ => ?_
  simp only [Function.comp, giveUp1]
  split <;> rfl
def instNew (now : Int) : DInst := if 0 ≤ now ∧ now ≤ 1000000000 then ⟨⟨[], 1⟩, [], [], [], [], 1, now⟩ else zInst
theorem instNew_ct (n : Int) : ctInst (instNew n) = 0 := by unfold instNew; split <;> rfl
def con_spec_l18Copy : Con UU where
  α := (List DTask)
  md := [.ro]
  of := fun | [.one (.sl .eTask a0)] => some a0 | _ => none
  ds := fun l => [.one (.sl .eTask l)]
  pre := fun l => [sizeTaskS l ≤ 4294967296]
  res := fun l => ⟨[.one (.sl .eTask l)], true, []⟩
  law := by intro l x h; (try simp only at h); split at h <;> cases h; rfl
def I_spec_l18Copy_3 (l : (List DTask)) : List DTask × Int × Unit → Prop := fun (out, i, _) => 0 ≤ i ∧ i ≤ l.length ∧ out = l.take i.toNat
def μ_spec_l18Copy_3 (l : (List DTask)) : List DTask × Int × Unit → Nat := fun (out, i, _) => l.length - i.toNat
def ann_spec_l18Copy : con_spec_l18Copy.α → Nat → Option (Ann UU) := fun l => annL [(3, annOf [.slot 3 (3, 1024) (.own .eTask true), .slot 4 (4, 1024) (.lit (.int .i64))] (fun _ => I_spec_l18Copy_3 l) (μ_spec_l18Copy_3 l))]
def use_spec_l18Copy : List (FuncId × Con UU) := [(73, con_spec_l3Copy)]
theorem vc_spec_l18Copy (l : (List DTask)) : goal EE use_spec_l18Copy Go.Proofs.Tryd.f57 con_spec_l18Copy ann_spec_l18Copy l = (I_spec_l18Copy_3 l ([], (0 : Int), PUnit.unit) ∧
  ∀ (y : List DTask × Int × PUnit),
    let x0 : List DTask := [List.getD l (Int.toNat y.2.1) zTask];
    let x1 : Nat := Int.toNat y.2.1;
    I_spec_l18Copy_3 l y → bif decide (y.2.1 < (↑(List.length l) : Int)) then (0 : Int) ≤ y.2.1 ∧ x1 < List.length l ∧ List.length (List.getD l x1 zTask).F.Fields ≤ (4294967296 : Nat) ∧ List.length y.1 + List.length x0 ≤ (4294967296 : Nat) ∧ I_spec_l18Copy_3 l (y.1 ++ x0, IntKind.wrap IntKind.i64 (y.2.1 + (1 : Int)), PUnit.unit) ∧ μ_spec_l18Copy_3 l (y.1 ++ x0, IntKind.wrap IntKind.i64 (y.2.1 + (1 : Int)), PUnit.unit) < μ_spec_l18Copy_3 l y else Lf [DV.one (Cell.sl Cd.eTask y.1)] [DV.one (Cell.sl Cd.eTask l)]) := by kernel_rfl
theorem ok_spec_l18Copy : Holds EE (57, con_spec_l18Copy) := by
  refine holds_of EE_ok Go.Proofs.Tryd.func57 con_spec_l18Copy (by kernel_rfl) rfl use_spec_l18Copy (all_cons ok_spec_l3Copy all_nil) ann_spec_l18Copy (fun (l : (List DTask)) hp hb => ?_)
  have hb_l : BdDV (U := UU) (.one (.sl .eTask l)) := hb _ (List.mem_cons_self)
  have hl_l : l.length ≤ 9223372036854775807 := Bd.len hb_l
  have hp0 : sizeTaskS l ≤ 4294967296 := hp _ (List.mem_cons_self)
  clear hp hb
  rw [vc_spec_l18Copy l]
  dsimp only
  refine ⟨⟨by omega, by omega, by simp⟩, ?_⟩
  rintro ⟨out, i, ⟨⟩⟩ ⟨h1, h2, rfl⟩
  simp only
  refine if_cond (fun hc => ?_) (fun hc => ?_)
  · have hc := of_decide_eq_true hc
    have hs := sum_getD_le sizeTask l zTask h1 hc
    simp only [sizeTaskS] at hp0
    have hx := hs
    simp only [sizeTask, sizeFact, sizeValS] at hx
    rw [take_step l zTask h1 hc, wrap_i64 (by omega) (by omega)]
    repeat' (first | refine And.intro (by omega) ?_ | fail)
    refine ⟨by simp; omega, ⟨by omega, by omega, rfl⟩, by simp only [μ_spec_l18Copy_3]; omega⟩
  · have hc := of_decide_eq_false hc
    rw [take_all l (by omega)]
    exact Lf_rfl _
def con_impl_copyTasks : Con UU where
  α := (List DTask)
  md := [.ro]
  of := fun | [.one (.sl .eTask a0)] => some a0 | _ => none
  ds := fun l => [.one (.sl .eTask l)]
  pre := fun l => [sizeTaskS l ≤ 4294967296]
  res := fun l => ⟨[.one (.sl .eTask l)], true, []⟩
  law := by intro l x h; (try simp only at h); split at h <;> cases h; rfl
def I_impl_copyTasks_3 (l : (List DTask)) : List DTask × Int × Unit → Prop := fun (out, i, _) => 0 ≤ i ∧ i ≤ l.length ∧ out = l.take i.toNat
def μ_impl_copyTasks_3 (l : (List DTask)) : List DTask × Int × Unit → Nat := fun (out, i, _) => l.length - i.toNat
def ann_impl_copyTasks : con_impl_copyTasks.α → Nat → Option (Ann UU) := fun l => annL [(3, annOf [.slot 3 (3, 1024) (.own .eTask true), .slot 8 (8, 1024) (.lit (.int .i64))] (fun _ => I_impl_copyTasks_3 l) (μ_impl_copyTasks_3 l))]
def use_impl_copyTasks : List (FuncId × Con UU) := [(70, con_impl_copyFact)]
theorem vc_impl_copyTasks (l : (List DTask)) : goal EE use_impl_copyTasks Go.Proofs.Tryd.f61 con_impl_copyTasks ann_impl_copyTasks l = (I_impl_copyTasks_3 l ([], (0 : Int), PUnit.unit) ∧
  ∀ (y : List DTask × Int × PUnit),
    let x0 : List DTask := [List.getD l (Int.toNat y.2.1) zTask];
    let x1 : Nat := Int.toNat y.2.1;
    I_impl_copyTasks_3 l y → bif decide (y.2.1 < (↑(List.length l) : Int)) then (0 : Int) ≤ y.2.1 ∧ x1 < List.length l ∧ List.length (List.getD l x1 zTask).F.Fields ≤ (4294967296 : Nat) ∧ List.length y.1 + List.length x0 ≤ (4294967296 : Nat) ∧ I_impl_copyTasks_3 l (y.1 ++ x0, IntKind.wrap IntKind.i64 (y.2.1 + (1 : Int)), PUnit.unit) ∧ μ_impl_copyTasks_3 l (y.1 ++ x0, IntKind.wrap IntKind.i64 (y.2.1 + (1 : Int)), PUnit.unit) < μ_impl_copyTasks_3 l y else Lf [DV.one (Cell.sl Cd.eTask y.1)] [DV.one (Cell.sl Cd.eTask l)]) := by kernel_rfl
theorem ok_impl_copyTasks : Holds EE (61, con_impl_copyTasks) := by
  refine holds_of EE_ok Go.Proofs.Tryd.func61 con_impl_copyTasks (by kernel_rfl) rfl use_impl_copyTasks (all_cons ok_impl_copyFact all_nil) ann_impl_copyTasks (fun (l : (List DTask)) hp hb => ?_)
  have hb_l : BdDV (U := UU) (.one (.sl .eTask l)) := hb _ (List.mem_cons_self)
  have hl_l : l.length ≤ 9223372036854775807 := Bd.len hb_l
  have hp0 : sizeTaskS l ≤ 4294967296 := hp _ (List.mem_cons_self)
  clear hp hb
  rw [vc_impl_copyTasks l]
  dsimp only
  refine ⟨⟨by omega, by omega, by simp⟩, ?_⟩
  rintro ⟨out, i, ⟨⟩⟩ ⟨h1, h2, rfl⟩
  simp only
  refine if_cond (fun hc => ?_) (fun hc => ?_)
  · have hc := of_decide_eq_true hc
    have hs := sum_getD_le sizeTask l zTask h1 hc
    simp only [sizeTaskS] at hp0
    have hx := hs
    simp only [sizeTask, sizeFact, sizeValS] at hx
    rw [take_step l zTask h1 hc, wrap_i64 (by omega) (by omega)]
    repeat' (first | refine And.intro (by omega) ?_ | fail)
    refine ⟨by simp; omega, ⟨by omega, by omega, rfl⟩, by simp only [μ_impl_copyTasks_3]; omega⟩
  · have hc := of_decide_eq_false hc
    rw [take_all l (by omega)]
    exact Lf_rfl _
def con_impl_isOpen : Con UU where
  α := DTask
  md := [.ro]
  of := fun | [.agg [.lit (.string a0), .sl .eVal a1, .lit (.string a2), .lit (.int .i64 a3), .lit (.int .i64 a4), .lit (.int .i64 a5), .lit (.int .i64 a6), .lit (.int .i64 a7), .lit (.string a8)]] => some ⟨⟨a0, a1⟩, a2, a3, a4, a5, ⟨a6, a7, a8⟩⟩ | _ => none
  ds := fun t => [.agg [.lit (.string t.F.Kind), .sl .eVal t.F.Fields, .lit (.string t.Undo), .lit (.int .i64 t.State), .lit (.int .i64 t.Tries), .lit (.int .i64 t.Due), .lit (.int .i64 t.V.K), .lit (.int .i64 t.V.N), .lit (.string t.V.S)]]
  pre := fun t => []
  res := fun t => ⟨[.one (.lit (.bool (isOpen t)))], true, []⟩
  law := by intro l x h; (try simp only at h); split at h <;> cases h; rfl
def ann_impl_isOpen : con_impl_isOpen.α → Nat → Option (Ann UU) := fun t => annL []
def use_impl_isOpen : List (FuncId × Con UU) := []
theorem vc_impl_isOpen (t : DTask) : goal EE use_impl_isOpen Go.Proofs.Tryd.f68 con_impl_isOpen ann_impl_isOpen t = (bif t.State == (1 : Int) then Lf [DV.one (Cell.lit (Value.bool true))] [DV.one (Cell.lit (Value.bool (isOpen t)))] else Lf [DV.one (Cell.lit (Value.bool (t.State == (2 : Int))))] [DV.one (Cell.lit (Value.bool (isOpen t)))]) := by kernel_rfl
theorem ok_impl_isOpen : Holds EE (68, con_impl_isOpen) := by
  refine holds_of EE_ok Go.Proofs.Tryd.func68 con_impl_isOpen (by kernel_rfl) rfl use_impl_isOpen all_nil ann_impl_isOpen (fun (t : DTask) hp hb => ?_)
  have hb_t : BdDV (U := UU) (.agg [.lit (.string t.F.Kind), .sl .eVal t.F.Fields, .lit (.string t.Undo), .lit (.int .i64 t.State), .lit (.int .i64 t.Tries), .lit (.int .i64 t.Due), .lit (.int .i64 t.V.K), .lit (.int .i64 t.V.N), .lit (.string t.V.S)]) := hb _ (List.mem_cons_self)
  have hl_t_F_Kind : t.F.Kind.size ≤ 9223372036854775807 := Bd.str (hb_t _ (by simp))
  have hl_t_F_Fields : t.F.Fields.length ≤ 9223372036854775807 := Bd.len (U := UU) (τ := .eVal) (xs := t.F.Fields) (hb_t _ (by simp))
  have hl_t_Undo : t.Undo.size ≤ 9223372036854775807 := Bd.str (hb_t _ (by simp))
  have hl_t_V_S : t.V.S.size ≤ 9223372036854775807 := Bd.str (hb_t _ (by simp))
  clear hp hb
  rw [vc_impl_isOpen t]
  simp only [isOpen]
  refine if_cond (fun h => Lf_b ?_) (fun h => Lf_b ?_) <;> grind
def backN (most : Int) : Nat → Int → Int
  | 0, n => n
  | k + 1, n => if n < most then backN most k (2 * n) else n
def backoff (base k most : Int) : Int := if 1 ≤ base ∧ base ≤ 100000 ∧ 1 ≤ most ∧ most ≤ 100000 ∧ 0 ≤ k then (if backN most k.toNat base < most then backN most k.toNat base else most) else 0
theorem backN_ge {most n : Int} (h : ¬ n < most) : ∀ k : Nat, backN most k n = n
  | 0 => rfl
  | k + 1 => by rw [backN, if_neg h]
theorem backN_step {most n k i : Int} (h0 : 0 ≤ i) (h : i < k) (hn : n < most) : backN most (k - i).toNat n = backN most (k - (i + 1)).toNat (2 * n) := by
  obtain ⟨m, hm⟩ : ∃ m : Nat, (k - i).toNat = m + 1 := ⟨(k - i).toNat - 1, by omega⟩
  have h2 : (k - (i + 1)).toNat = m := by omega
  rw [hm, h2, backN, if_pos hn]
theorem backN_end {most n k i : Int} (h : ¬ (i < k ∧ n < most)) : backN most (k - i).toNat n = n := by
  by_cases hk : i < k
  · exact backN_ge (fun hn => h ⟨hk, hn⟩) _
  · rw [show (k - i).toNat = 0 by omega]; rfl
def con_spec_Backoff : Con UU where
  α := Int × Int × Int
  md := [.ro, .ro, .ro]
  of := fun | [.one (.lit (.int .i64 a0)), .one (.lit (.int .i64 a1)), .one (.lit (.int .i64 a2))] => some (a0, a1, a2) | _ => none
  ds := fun (base, k, most) => [.one (.lit (.int .i64 base)), .one (.lit (.int .i64 k)), .one (.lit (.int .i64 most))]
  pre := fun (base, k, most) => []
  res := fun (base, k, most) => ⟨[.one (.lit (.int .i64 (backoff base k most)))], true, []⟩
  law := by intro l x h; (try simp only at h); split at h <;> cases h; rfl
def I_spec_Backoff_5 (base : Int) (k : Int) (most : Int) : Int × Int × Unit → Prop := fun (n, i, _) => 0 ≤ i ∧ i ≤ k ∧ 1 ≤ n ∧ n ≤ 200000 ∧ backN most (k - i).toNat n = backN most k.toNat base
def μ_spec_Backoff_5 (base : Int) (k : Int) (most : Int) : Int × Int × Unit → Nat := fun (n, i, _) => (k - i).toNat
def ann_spec_Backoff : con_spec_Backoff.α → Nat → Option (Ann UU) := fun (base, k, most) => annL [(5, annOf [.slot 7 (7, 1024) (.lit (.int .i64)), .slot 8 (8, 1024) (.lit (.int .i64))] (fun _ => I_spec_Backoff_5 base k most) (μ_spec_Backoff_5 base k most))]
def use_spec_Backoff : List (FuncId × Con UU) := [(65, con_spec_l1In)]
theorem vc_spec_Backoff (base : Int) (k : Int) (most : Int) : goal EE use_spec_Backoff Go.Proofs.Tryd.f95 con_spec_Backoff ann_spec_Backoff (base, k, most) = (bif !decide ((1 : Int) ≤ base ∧ base ≤ (100000 : Int)) then Lf [DV.one (Cell.lit (Value.int IntKind.i64 (0 : Int)))] [DV.one (Cell.lit (Value.int IntKind.i64 (backoff base k most)))] else bif !decide ((1 : Int) ≤ most ∧ most ≤ (100000 : Int)) then Lf [DV.one (Cell.lit (Value.int IntKind.i64 (0 : Int)))] [DV.one (Cell.lit (Value.int IntKind.i64 (backoff base k most)))] else bif decide (k < (0 : Int)) then Lf [DV.one (Cell.lit (Value.int IntKind.i64 (0 : Int)))] [DV.one (Cell.lit (Value.int IntKind.i64 (backoff base k most)))] else I_spec_Backoff_5 base k most (base, (0 : Int), PUnit.unit) ∧ ∀ (y : Int × Int × PUnit), I_spec_Backoff_5 base k most y → bif decide (y.2.1 < k) then bif decide (y.1 < most) then I_spec_Backoff_5 base k most (IntKind.wrap IntKind.i64 ((2 : Int) * y.1), IntKind.wrap IntKind.i64 (y.2.1 + (1 : Int)), PUnit.unit) ∧ μ_spec_Backoff_5 base k most (IntKind.wrap IntKind.i64 ((2 : Int) * y.1), IntKind.wrap IntKind.i64 (y.2.1 + (1 : Int)), PUnit.unit) < μ_spec_Backoff_5 base k most y else bif decide (y.1 > most) then Lf [DV.one (Cell.lit (Value.int IntKind.i64 most))] [DV.one (Cell.lit (Value.int IntKind.i64 (backoff base k most)))] else Lf [DV.one (Cell.lit (Value.int IntKind.i64 y.1))] [DV.one (Cell.lit (Value.int IntKind.i64 (backoff base k most)))] else bif decide (y.1 > most) then Lf [DV.one (Cell.lit (Value.int IntKind.i64 most))] [DV.one (Cell.lit (Value.int IntKind.i64 (backoff base k most)))] else Lf [DV.one (Cell.lit (Value.int IntKind.i64 y.1))] [DV.one (Cell.lit (Value.int IntKind.i64 (backoff base k most)))]) := by kernel_rfl
theorem ok_spec_Backoff : Holds EE (95, con_spec_Backoff) := by
  refine holds_of EE_ok Go.Proofs.Tryd.func95 con_spec_Backoff (by kernel_rfl) rfl use_spec_Backoff (all_cons ok_spec_l1In all_nil) ann_spec_Backoff (fun x hp hb => ?_)
  obtain ⟨base, k, most⟩ := x
  have hb_base : BdDV (U := UU) (.one (.lit (.int .i64 base))) := hb _ (List.mem_cons_self)
  have hl_base := Bd.i64 hb_base
  have hb_k : BdDV (U := UU) (.one (.lit (.int .i64 k))) := hb _ (List.mem_cons_of_mem _ (List.mem_cons_self))
  have hl_k := Bd.i64 hb_k
  have hb_most : BdDV (U := UU) (.one (.lit (.int .i64 most))) := hb _ (List.mem_cons_of_mem _ (List.mem_cons_of_mem _ (List.mem_cons_self)))
  have hl_most := Bd.i64 hb_most
  clear hp hb
  rw [vc_spec_Backoff base k most]
  have hN : ¬ (1 ≤ base ∧ base ≤ 100000 ∧ 1 ≤ most ∧ most ≤ 100000 ∧ 0 ≤ k) → Lf [.one (.lit (.int .i64 0))] [.one (.lit (.int .i64 (backoff base k most)))] := fun h => Lf_i (by rw [backoff, if_neg h])
  refine if_cond (fun h => hN ?_) (fun h => if_cond (fun h2 => hN ?_) (fun h2 => if_cond (fun h3 => hN ?_) (fun h3 => ?_)))
  · simp at h; omega
  · simp at h2; omega
  · simp at h3; omega
  have hg : 1 ≤ base ∧ base ≤ 100000 ∧ 1 ≤ most ∧ most ≤ 100000 ∧ 0 ≤ k := by simp at h h2 h3; omega
  have hE : ∀ {n i : Int}, backN most (k - i).toNat n = backN most k.toNat base → ¬ (i < k ∧ n < most) → (if n < most then n else most) = backoff base k most := fun hR hn => by rw [backoff, if_pos hg, ← hR, backN_end hn]
  refine ⟨⟨by omega, by omega, by omega, by omega, by rw [Int.sub_zero]⟩, ?_⟩
  rintro ⟨n, i, ⟨⟩⟩ ⟨h4, h5, h6, h7, hR⟩
  simp only
  refine if_cond (fun hc => if_cond (fun hd => ?_) (fun hd => ?_)) (fun hc => ?_)
  · have hc := of_decide_eq_true hc; have hd := of_decide_eq_true hd
    rw [wrap_i64 (by omega) (by omega), wrap_i64 (by omega) (by omega)]
    refine ⟨⟨by omega, by omega, by omega, by omega, ?_⟩, by simp only [μ_spec_Backoff_5]; omega⟩
    rw [← backN_step h4 hc hd]; exact hR
  · have hd := of_decide_eq_false hd
    have e := hE hR (fun hh => hd hh.2)
    refine if_cond (fun hm => Lf_i ?_) (fun hm => Lf_i ?_)
    · have hm := of_decide_eq_true hm; rw [← e]; split <;> omega
    · have hm := of_decide_eq_false hm; rw [← e]; split <;> omega
  · have hc := of_decide_eq_false hc
    have e := hE hR (fun hh => hc hh.1)
    refine if_cond (fun hm => Lf_i ?_) (fun hm => Lf_i ?_)
    · have hm := of_decide_eq_true hm; rw [← e]; split <;> omega
    · have hm := of_decide_eq_false hm; rw [← e]; split <;> omega
def con_impl_Backoff : Con UU where
  α := Int × Int × Int
  md := [.ro, .ro, .ro]
  of := fun | [.one (.lit (.int .i64 a0)), .one (.lit (.int .i64 a1)), .one (.lit (.int .i64 a2))] => some (a0, a1, a2) | _ => none
  ds := fun (base, k, most) => [.one (.lit (.int .i64 base)), .one (.lit (.int .i64 k)), .one (.lit (.int .i64 most))]
  pre := fun (base, k, most) => []
  res := fun (base, k, most) => ⟨[.one (.lit (.int .i64 (backoff base k most)))], true, []⟩
  law := by intro l x h; (try simp only at h); split at h <;> cases h; rfl
def I_impl_Backoff_4 (base : Int) (k : Int) (most : Int) : Int × Int × Unit → Prop := fun (n, i, _) => 0 ≤ i ∧ i ≤ k ∧ 1 ≤ n ∧ n ≤ 200000 ∧ backN most (k - i).toNat n = backN most k.toNat base
def μ_impl_Backoff_4 (base : Int) (k : Int) (most : Int) : Int × Int × Unit → Nat := fun (n, i, _) => (k - i).toNat
def ann_impl_Backoff : con_impl_Backoff.α → Nat → Option (Ann UU) := fun (base, k, most) => annL [(4, annOf [.slot 0 (0, 1024) (.lit (.int .i64)), .slot 7 (7, 1024) (.lit (.int .i64))] (fun _ => I_impl_Backoff_4 base k most) (μ_impl_Backoff_4 base k most))]
def use_impl_Backoff : List (FuncId × Con UU) := [(93, con_impl_inRange)]
theorem vc_impl_Backoff (base : Int) (k : Int) (most : Int) : goal EE use_impl_Backoff Go.Proofs.Tryd.f69 con_impl_Backoff ann_impl_Backoff (base, k, most) = (bif !decide ((1 : Int) ≤ base ∧ base ≤ (100000 : Int)) then Lf [DV.one (Cell.lit (Value.int IntKind.i64 (0 : Int)))] [DV.one (Cell.lit (Value.int IntKind.i64 (backoff base k most)))] else bif !decide ((1 : Int) ≤ most ∧ most ≤ (100000 : Int)) then Lf [DV.one (Cell.lit (Value.int IntKind.i64 (0 : Int)))] [DV.one (Cell.lit (Value.int IntKind.i64 (backoff base k most)))] else bif decide (k < (0 : Int)) then Lf [DV.one (Cell.lit (Value.int IntKind.i64 (0 : Int)))] [DV.one (Cell.lit (Value.int IntKind.i64 (backoff base k most)))] else I_impl_Backoff_4 base k most (base, (0 : Int), PUnit.unit) ∧ ∀ (y : Int × Int × PUnit), I_impl_Backoff_4 base k most y → bif decide (y.2.1 < k) then bif decide (y.1 < most) then I_impl_Backoff_4 base k most (IntKind.wrap IntKind.i64 (y.1 * (2 : Int)), IntKind.wrap IntKind.i64 (y.2.1 + (1 : Int)), PUnit.unit) ∧ μ_impl_Backoff_4 base k most (IntKind.wrap IntKind.i64 (y.1 * (2 : Int)), IntKind.wrap IntKind.i64 (y.2.1 + (1 : Int)), PUnit.unit) < μ_impl_Backoff_4 base k most y else Lf [DV.one (Cell.lit (Value.int IntKind.i64 (if most < y.1 then most else y.1)))] [DV.one (Cell.lit (Value.int IntKind.i64 (backoff base k most)))] else Lf [DV.one (Cell.lit (Value.int IntKind.i64 (if most < y.1 then most else y.1)))] [DV.one (Cell.lit (Value.int IntKind.i64 (backoff base k most)))]) := by kernel_rfl
theorem ok_impl_Backoff : Holds EE (69, con_impl_Backoff) := by
  refine holds_of EE_ok Go.Proofs.Tryd.func69 con_impl_Backoff (by kernel_rfl) rfl use_impl_Backoff (all_cons ok_impl_inRange all_nil) ann_impl_Backoff (fun x hp hb => ?_)
  obtain ⟨base, k, most⟩ := x
  have hb_base : BdDV (U := UU) (.one (.lit (.int .i64 base))) := hb _ (List.mem_cons_self)
  have hl_base := Bd.i64 hb_base
  have hb_k : BdDV (U := UU) (.one (.lit (.int .i64 k))) := hb _ (List.mem_cons_of_mem _ (List.mem_cons_self))
  have hl_k := Bd.i64 hb_k
  have hb_most : BdDV (U := UU) (.one (.lit (.int .i64 most))) := hb _ (List.mem_cons_of_mem _ (List.mem_cons_of_mem _ (List.mem_cons_self)))
  have hl_most := Bd.i64 hb_most
  clear hp hb
  rw [vc_impl_Backoff base k most]
  have hN : ¬ (1 ≤ base ∧ base ≤ 100000 ∧ 1 ≤ most ∧ most ≤ 100000 ∧ 0 ≤ k) → Lf [.one (.lit (.int .i64 0))] [.one (.lit (.int .i64 (backoff base k most)))] := fun h => Lf_i (by rw [backoff, if_neg h])
  refine if_cond (fun h => hN ?_) (fun h => if_cond (fun h2 => hN ?_) (fun h2 => if_cond (fun h3 => hN ?_) (fun h3 => ?_)))
  · simp at h; omega
  · simp at h2; omega
  · simp at h3; omega
  have hg : 1 ≤ base ∧ base ≤ 100000 ∧ 1 ≤ most ∧ most ≤ 100000 ∧ 0 ≤ k := by simp at h h2 h3; omega
  have hE : ∀ {n i : Int}, backN most (k - i).toNat n = backN most k.toNat base → ¬ (i < k ∧ n < most) → (if n < most then n else most) = backoff base k most := fun hR hn => by rw [backoff, if_pos hg, ← hR, backN_end hn]
  refine ⟨⟨by omega, by omega, by omega, by omega, by rw [Int.sub_zero]⟩, ?_⟩
  rintro ⟨n, i, ⟨⟩⟩ ⟨h4, h5, h6, h7, hR⟩
  simp only
  refine if_cond (fun hc => if_cond (fun hd => ?_) (fun hd => ?_)) (fun hc => ?_)
  · have hc := of_decide_eq_true hc; have hd := of_decide_eq_true hd
    rw [wrap_i64 (by omega) (by omega), wrap_i64 (by omega) (by omega)]
    refine ⟨⟨by omega, by omega, by omega, by omega, ?_⟩, by simp only [μ_impl_Backoff_4]; omega⟩
    rw [Int.mul_comm, ← backN_step h4 hc hd]; exact hR
  · have hd := of_decide_eq_false hd
    have e := hE hR (fun hh => hd hh.2)
    refine Lf_i ?_
    rw [← e]; split <;> (try split) <;> omega
  · have hc := of_decide_eq_false hc
    have e := hE hR (fun hh => hc hh.1)
    refine Lf_i ?_
    rw [← e]; split <;> (try split) <;> omega
def hasUndo (l : List DUndo) (key : ByteArray) : Bool := hasKey l key
def canPush (l : List DUndo) (t : DTask) : Bool := undosOk l && factOk t.F && nameOk t.Undo && !hasKey l (factText t.F) && !decide (30 ≤ l.length)
def pushUndo (l : List DUndo) (t : DTask) : List DUndo × Bool := if canPush l t = true then (l ++ [⟨factText t.F, ⟨t.Undo, t.F.Fields⟩⟩], true) else (l, false)
def replied (ok : Bool) (v : DVal) (t : DTask) : DTask := ⟨t.F, t.Undo, if ok = true then 3 else 4, t.Tries, t.Due, v⟩
def replyTask (l : List DTask) (key : ByteArray) (ok : Bool) (v : DVal) : List DTask × Int :=
  if tasksOk l = true ∧ valOk v = true ∧ 0 ≤ taskAtKey l key ∧ (List.getD l (taskAtKey l key).toNat zTask).State ≠ 1 then
    (if (List.getD l (taskAtKey l key).toNat zTask).State = 2 then (l.modify (taskAtKey l key).toNat (replied ok v), 1) else (l, 2)) else (l, 3)
def due (now : Int) (t : DTask) : Bool := isOpen t && decide (t.Due ≤ now)
def send1 (now : Int) (t : DTask) : DTask := if due now t = true then (if t.Tries = 4 then ⟨t.F, t.Undo, 4, t.Tries, t.Due, t.V⟩ else ⟨t.F, t.Undo, 2, t.Tries + 1, now + backoff 2 (t.Tries + 1) 60, t.V⟩) else t
def call1 (now : Int) (t : DTask) : List DCall := if due now t = true ∧ t.Tries ≠ 4 then [⟨factText t.F, t.F, t.Tries + 1⟩] else []
def fail1 (now : Int) (t : DTask) : List ByteArray := if due now t = true ∧ t.Tries = 4 then [factText t.F] else []
theorem undosOk_len {l : List DUndo} (h : undosOk l = true) : l.length ≤ 30 := by
  simp only [undosOk, Bool.and_eq_true, decide_eq_true_eq] at h; exact h.1
theorem tasksOk_len' {l : List DTask} (h : tasksOk l = true) : l.length ≤ 30 := by
  simp only [tasksOk, Bool.and_eq_true, decide_eq_true_eq] at h; exact h.1
theorem tasksOk_at {l : List DTask} (h : tasksOk l = true) {k : Nat} (hk : k < l.length) : taskOk (List.getD l k zTask) = true := by
  simp only [tasksOk, Bool.and_eq_true] at h
  have := allI_iff.1 h.2 k hk
  simp only [taskAt, Bool.and_eq_true] at this
  exact this.1
theorem taskOk_st {t : DTask} (h : taskOk t = true) : (1 ≤ t.State ∧ t.State ≤ 4) ∧ (0 ≤ t.Tries ∧ t.Tries ≤ 4) ∧ (0 ≤ t.Due ∧ t.Due ≤ 1000001000) ∧ ((t.State = 1 → t.Tries = 0) ∧ (t.State = 2 → t.Tries ≠ 0)) ∧ t.F.Fields.length ≤ 5 := by
  simp only [taskOk, Bool.and_eq_true, decide_eq_true_eq] at h
  obtain ⟨⟨⟨⟨⟨⟨h1, h2⟩, h3⟩, h4⟩, h5⟩, h6⟩, h7⟩ := h
  refine ⟨h3, h4, h5, h7, ?_⟩
  simp only [factOk, Bool.and_eq_true, decide_eq_true_eq] at h1
  first | exact h1.1.2 | exact h1.2.1 | omega
theorem taskAtKey_lt {l : List DTask} {key : ByteArray} (h : 0 ≤ taskAtKey l key) : (taskAtKey l key).toNat < l.length := by
  unfold taskAtKey at *
  rcases idxI_cases l.length (fun k => decide (factText (List.getD l k zTask).F = key)) with ⟨h1, h2⟩ | ⟨i, h1, h2, h3, h4⟩
  · rw [h1] at h; omega
  · rw [h2]; omega
theorem reply_none {l : List DTask} {key : ByteArray} {ok : Bool} {v : DVal} (h : ¬ (tasksOk l = true ∧ valOk v = true ∧ 0 ≤ taskAtKey l key ∧ (List.getD l (taskAtKey l key).toNat zTask).State ≠ 1)) : replyTask l key ok v = (l, 3) := if_neg h
theorem reply_old {l : List DTask} {key : ByteArray} {ok : Bool} {v : DVal} (h : tasksOk l = true ∧ valOk v = true ∧ 0 ≤ taskAtKey l key ∧ (List.getD l (taskAtKey l key).toNat zTask).State ≠ 1) (h2 : (List.getD l (taskAtKey l key).toNat zTask).State ≠ 2) : replyTask l key ok v = (l, 2) := by rw [replyTask, if_pos h, if_neg h2]
theorem reply_new {l : List DTask} {key : ByteArray} {ok : Bool} {v : DVal} (h : tasksOk l = true ∧ valOk v = true ∧ 0 ≤ taskAtKey l key ∧ (List.getD l (taskAtKey l key).toNat zTask).State ≠ 1) (h2 : (List.getD l (taskAtKey l key).toNat zTask).State = 2) : replyTask l key ok v = (l.modify (taskAtKey l key).toNat (replied ok v), 1) := by rw [replyTask, if_pos h, if_pos h2]
theorem reply_t (l : List DTask) (k : Nat) (v : DVal) : (((l.modify k fun x => ⟨x.F, x.Undo, 4, x.Tries, x.Due, x.V⟩).modify k fun x => ⟨x.F, x.Undo, 3, x.Tries, x.Due, x.V⟩).modify k fun x => ⟨x.F, x.Undo, x.State, x.Tries, x.Due, v⟩) = l.modify k (replied true v) := by
  rw [modify_modify, modify_modify]; rfl
theorem reply_f (l : List DTask) (k : Nat) (v : DVal) : ((l.modify k fun x => ⟨x.F, x.Undo, 4, x.Tries, x.Due, x.V⟩).modify k fun x => ⟨x.F, x.Undo, x.State, x.Tries, x.Due, v⟩) = l.modify k (replied false v) := by
  rw [modify_modify]; rfl
theorem Lf3 {a a' : List DTask} {b b' : List DCall} {c c' : List ByteArray} (h1 : a = a') (h2 : b = b') (h3 : c = c') : Lf [.one (.sl .eTask a), .one (.sl .eCall b), .one (.sl .str c)] [.one (.sl .eTask a'), .one (.sl .eCall b'), .one (.sl .str c')] := by
  subst h1 h2 h3; exact Lf_rfl _
theorem Lf_row {a a' : List DTask} {n : Int} (h : a = a') : Lf [.one (.sl .eTask a), .one (.lit (.int .i64 n))] [.one (.sl .eTask a'), .one (.lit (.int .i64 n))] := by
  subst h; exact Lf_rfl _
theorem asD_row {a a' : List DTask} (h : a = a') : asD ([DV.one (Cell.sl Cd.eTask a)] : List (DV UU)) = asD ([DV.one (Cell.sl Cd.eTask a')] : List (DV UU)) := by rw [h]
theorem flat_step {α β : Type} (f : α → List β) (l : List α) (z : α) {i : Int} (h0 : 0 ≤ i) (h : i < l.length) : (l.take i.toNat).flatMap f ++ f (List.getD l i.toNat z) = (l.take (i + 1).toNat).flatMap f := by
  rw [← take_step l z h0 h, List.flatMap_append]; simp
theorem flat_len {α β : Type} (f : α → List β) (hf : ∀ x, (f x).length ≤ 1) : ∀ l : List α, (l.flatMap f).length ≤ l.length
  | [] => by simp
  | x :: l => by
    rw [List.flatMap_cons, List.length_append]
    have h1 := flat_len f hf l
    have h2 := hf x
    simp only [List.length_cons]; omega
theorem call1_len (now : Int) (t : DTask) : (call1 now t).length ≤ 1 := by unfold call1; split <;> simp
theorem fail1_len (now : Int) (t : DTask) : (fail1 now t).length ≤ 1 := by unfold fail1; split <;> simp
theorem backN_pos (most : Int) : ∀ (k : Nat) (n : Int), 0 ≤ n → 0 ≤ backN most k n
  | 0, n, h => h
  | k + 1, n, h => by rw [backN]; split; exact backN_pos most k (2 * n) (by omega); exact h
theorem backoff_le (k : Int) : 0 ≤ backoff 2 k 60 ∧ backoff 2 k 60 ≤ 60 := by
  have := backN_pos 60 k.toNat 2 (by omega)
  unfold backoff
  split
  · split <;> omega
  · omega
def con_spec_l18Due : Con UU where
  α := DTask × Int
  md := [.ro, .ro]
  of := fun | [.agg [.lit (.string a0), .sl .eVal a1, .lit (.string a2), .lit (.int .i64 a3), .lit (.int .i64 a4), .lit (.int .i64 a5), .lit (.int .i64 a6), .lit (.int .i64 a7), .lit (.string a8)], .one (.lit (.int .i64 a9))] => some (⟨⟨a0, a1⟩, a2, a3, a4, a5, ⟨a6, a7, a8⟩⟩, a9) | _ => none
  ds := fun (t, now) => [.agg [.lit (.string t.F.Kind), .sl .eVal t.F.Fields, .lit (.string t.Undo), .lit (.int .i64 t.State), .lit (.int .i64 t.Tries), .lit (.int .i64 t.Due), .lit (.int .i64 t.V.K), .lit (.int .i64 t.V.N), .lit (.string t.V.S)], .one (.lit (.int .i64 now))]
  pre := fun (t, now) => []
  res := fun (t, now) => ⟨[.one (.lit (.bool (due now t)))], true, []⟩
  law := by intro l x h; (try simp only at h); split at h <;> cases h; rfl
def ann_spec_l18Due : con_spec_l18Due.α → Nat → Option (Ann UU) := fun (t, now) => annL []
def use_spec_l18Due : List (FuncId × Con UU) := []
theorem vc_spec_l18Due (t : DTask) (now : Int) : goal EE use_spec_l18Due Go.Proofs.Tryd.f94 con_spec_l18Due ann_spec_l18Due (t, now) = (bif t.State == (1 : Int) then Lf [DV.one (Cell.lit (Value.bool (decide (t.Due ≤ now))))] [DV.one (Cell.lit (Value.bool (due now t)))] else bif t.State == (2 : Int) then Lf [DV.one (Cell.lit (Value.bool (decide (t.Due ≤ now))))] [DV.one (Cell.lit (Value.bool (due now t)))] else Lf [DV.one (Cell.lit (Value.bool false))] [DV.one (Cell.lit (Value.bool (due now t)))]) := by kernel_rfl
theorem ok_spec_l18Due : Holds EE (94, con_spec_l18Due) := by
  refine holds_of EE_ok Go.Proofs.Tryd.func94 con_spec_l18Due (by kernel_rfl) rfl use_spec_l18Due all_nil ann_spec_l18Due (fun x hp hb => ?_)
  obtain ⟨t, now⟩ := x
  have hb_t : BdDV (U := UU) (.agg [.lit (.string t.F.Kind), .sl .eVal t.F.Fields, .lit (.string t.Undo), .lit (.int .i64 t.State), .lit (.int .i64 t.Tries), .lit (.int .i64 t.Due), .lit (.int .i64 t.V.K), .lit (.int .i64 t.V.N), .lit (.string t.V.S)]) := hb _ (List.mem_cons_self)
  have hl_t_F_Kind : t.F.Kind.size ≤ 9223372036854775807 := Bd.str (hb_t _ (by simp))
  have hl_t_F_Fields : t.F.Fields.length ≤ 9223372036854775807 := Bd.len (U := UU) (τ := .eVal) (xs := t.F.Fields) (hb_t _ (by simp))
  have hl_t_Undo : t.Undo.size ≤ 9223372036854775807 := Bd.str (hb_t _ (by simp))
  have hl_t_V_S : t.V.S.size ≤ 9223372036854775807 := Bd.str (hb_t _ (by simp))
  have hb_now : BdDV (U := UU) (.one (.lit (.int .i64 now))) := hb _ (List.mem_cons_of_mem _ (List.mem_cons_self))
  have hl_now := Bd.i64 hb_now
  clear hp hb
  rw [vc_spec_l18Due t now]
  repeat' (refine if_cond (fun h => ?_) (fun h => ?_))
  all_goals (refine Lf_b ?_; simp only [due, isOpen]; grind)
def con_spec_l18Send : Con UU where
  α := (List DTask) × Int
  md := [.wr, .ro]
  of := fun | [.one (.sl .eTask a0), .one (.lit (.int .i64 a1))] => some (a0, a1) | _ => none
  ds := fun (l, now) => [.one (.sl .eTask l), .one (.lit (.int .i64 now))]
  pre := fun (l, now) => [tasksOk l = true, 0 ≤ now ∧ now ≤ 1000000000]
  res := fun (l, now) => ⟨[.one (.sl .eCall (l.flatMap (call1 now))), .one (.sl .str (l.flatMap (fail1 now)))], true, [.one (.sl .eTask (l.map (send1 now)))]⟩
  law := by intro l x h; (try simp only at h); split at h <;> cases h; rfl
def I_spec_l18Send_4 (l : (List DTask)) (now : Int) : List DTask × List DCall × List ByteArray × Int × Unit → Prop := fun (out, calls, failed, i, _) => 0 ≤ i ∧ i ≤ l.length ∧ out = (l.map (send1 now)).take i.toNat ++ l.drop i.toNat ∧ calls = (l.take i.toNat).flatMap (call1 now) ∧ failed = (l.take i.toNat).flatMap (fail1 now)
def μ_spec_l18Send_4 (l : (List DTask)) (now : Int) : List DTask × List DCall × List ByteArray × Int × Unit → Nat := fun (out, calls, failed, i, _) => l.length - i.toNat
def ann_spec_l18Send : con_spec_l18Send.α → Nat → Option (Ann UU) := fun (l, now) => annL [(4, annOf [.slot 0 (2000000, 0) (.own .eTask true), .slot 6 (6, 1024) (.own .eCall true), .slot 7 (7, 1024) (.own .str true), .slot 8 (8, 1024) (.lit (.int .i64))] (fun _ => I_spec_l18Send_4 l now) (μ_spec_l18Send_4 l now))]
def use_spec_l18Send : List (FuncId × Con UU) := [(94, con_spec_l18Due), (40, con_spec_TaskKey), (95, con_spec_Backoff), (73, con_spec_l3Copy)]
theorem vc_spec_l18Send (l : (List DTask)) (now : Int) : goal EE use_spec_l18Send Go.Proofs.Tryd.f66 con_spec_l18Send ann_spec_l18Send (l, now) = (I_spec_l18Send_4 l now (l, [], [], (0 : Int), PUnit.unit) ∧
  ∀ (y : List DTask × List DCall × List ByteArray × Int × PUnit),
    let x0 : List DCall := [{ Key := factText (List.getD (List.modify (List.modify (List.modify y.1 (Int.toNat y.2.2.2.1) fun (x : DTask) => { F := x.F, Undo := x.Undo, State := x.State, Tries := IntKind.wrap IntKind.i64 ((List.getD y.1 (Int.toNat y.2.2.2.1) zTask).Tries + (1 : Int)), Due := x.Due, V := x.V : DTask }) (Int.toNat y.2.2.2.1) fun (x : DTask) => { F := x.F, Undo := x.Undo, State := (2 : Int), Tries := x.Tries, Due := x.Due, V := x.V : DTask }) (Int.toNat y.2.2.2.1) fun (x : DTask) => { F := x.F, Undo := x.Undo, State := x.State, Tries := x.Tries, Due := IntKind.wrap IntKind.i64 (now + backoff (2 : Int) (List.getD (List.modify (List.modify y.1 (Int.toNat y.2.2.2.1) fun (x : DTask) => { F := x.F, Undo := x.Undo, State := x.State, Tries := IntKind.wrap IntKind.i64 ((List.getD y.1 (Int.toNat y.2.2.2.1) zTask).Tries + (1 : Int)), Due := x.Due, V := x.V : DTask }) (Int.toNat y.2.2.2.1) fun (x : DTask) => { F := x.F, Undo := x.Undo, State := (2 : Int), Tries := x.Tries, Due := x.Due, V := x.V : DTask }) (Int.toNat y.2.2.2.1) zTask).Tries (60 : Int)), V := x.V : DTask }) (Int.toNat y.2.2.2.1) zTask).F, F := (List.getD (List.modify (List.modify (List.modify y.1 (Int.toNat y.2.2.2.1) fun (x : DTask) => { F := x.F, Undo := x.Undo, State := x.State, Tries := IntKind.wrap IntKind.i64 ((List.getD y.1 (Int.toNat y.2.2.2.1) zTask).Tries + (1 : Int)), Due := x.Due, V := x.V : DTask }) (Int.toNat y.2.2.2.1) fun (x : DTask) => { F := x.F, Undo := x.Undo, State := (2 : Int), Tries := x.Tries, Due := x.Due, V := x.V : DTask }) (Int.toNat y.2.2.2.1) fun (x : DTask) => { F := x.F, Undo := x.Undo, State := x.State, Tries := x.Tries, Due := IntKind.wrap IntKind.i64 (now + backoff (2 : Int) (List.getD (List.modify (List.modify y.1 (Int.toNat y.2.2.2.1) fun (x : DTask) => { F := x.F, Undo := x.Undo, State := x.State, Tries := IntKind.wrap IntKind.i64 ((List.getD y.1 (Int.toNat y.2.2.2.1) zTask).Tries + (1 : Int)), Due := x.Due, V := x.V : DTask }) (Int.toNat y.2.2.2.1) fun (x : DTask) => { F := x.F, Undo := x.Undo, State := (2 : Int), Tries := x.Tries, Due := x.Due, V := x.V : DTask }) (Int.toNat y.2.2.2.1) zTask).Tries (60 : Int)), V := x.V : DTask }) (Int.toNat y.2.2.2.1) zTask).F, Try := (List.getD (List.modify (List.modify (List.modify y.1 (Int.toNat y.2.2.2.1) fun (x : DTask) => { F := x.F, Undo := x.Undo, State := x.State, Tries := IntKind.wrap IntKind.i64 ((List.getD y.1 (Int.toNat y.2.2.2.1) zTask).Tries + (1 : Int)), Due := x.Due, V := x.V : DTask }) (Int.toNat y.2.2.2.1) fun (x : DTask) => { F := x.F, Undo := x.Undo, State := (2 : Int), Tries := x.Tries, Due := x.Due, V := x.V : DTask }) (Int.toNat y.2.2.2.1) fun (x : DTask) => { F := x.F, Undo := x.Undo, State := x.State, Tries := x.Tries, Due := IntKind.wrap IntKind.i64 (now + backoff (2 : Int) (List.getD (List.modify (List.modify y.1 (Int.toNat y.2.2.2.1) fun (x : DTask) => { F := x.F, Undo := x.Undo, State := x.State, Tries := IntKind.wrap IntKind.i64 ((List.getD y.1 (Int.toNat y.2.2.2.1) zTask).Tries + (1 : Int)), Due := x.Due, V := x.V : DTask }) (Int.toNat y.2.2.2.1) fun (x : DTask) => { F := x.F, Undo := x.Undo, State := (2 : Int), Tries := x.Tries, Due := x.Due, V := x.V : DTask }) (Int.toNat y.2.2.2.1) zTask).Tries (60 : Int)), V := x.V : DTask }) (Int.toNat y.2.2.2.1) zTask).Tries : DCall }];
    let x1 : List DTask := List.modify (List.modify (List.modify y.1 (Int.toNat y.2.2.2.1) fun (x : DTask) => { F := x.F, Undo := x.Undo, State := x.State, Tries := IntKind.wrap IntKind.i64 ((List.getD y.1 (Int.toNat y.2.2.2.1) zTask).Tries + (1 : Int)), Due := x.Due, V := x.V : DTask }) (Int.toNat y.2.2.2.1) fun (x : DTask) => { F := x.F, Undo := x.Undo, State := (2 : Int), Tries := x.Tries, Due := x.Due, V := x.V : DTask }) (Int.toNat y.2.2.2.1) fun (x : DTask) => { F := x.F, Undo := x.Undo, State := x.State, Tries := x.Tries, Due := IntKind.wrap IntKind.i64 (now + backoff (2 : Int) (List.getD (List.modify (List.modify y.1 (Int.toNat y.2.2.2.1) fun (x : DTask) => { F := x.F, Undo := x.Undo, State := x.State, Tries := IntKind.wrap IntKind.i64 ((List.getD y.1 (Int.toNat y.2.2.2.1) zTask).Tries + (1 : Int)), Due := x.Due, V := x.V : DTask }) (Int.toNat y.2.2.2.1) fun (x : DTask) => { F := x.F, Undo := x.Undo, State := (2 : Int), Tries := x.Tries, Due := x.Due, V := x.V : DTask }) (Int.toNat y.2.2.2.1) zTask).Tries (60 : Int)), V := x.V : DTask };
    let x2 : Nat := Int.toNat y.2.2.2.1;
    let x3 : List DTask := List.modify y.1 x2 fun (x : DTask) => { F := x.F, Undo := x.Undo, State := (4 : Int), Tries := x.Tries, Due := x.Due, V := x.V : DTask };
    let x4 : List DTask := List.modify y.1 x2 fun (x : DTask) => { F := x.F, Undo := x.Undo, State := x.State, Tries := IntKind.wrap IntKind.i64 ((List.getD y.1 x2 zTask).Tries + (1 : Int)), Due := x.Due, V := x.V : DTask };
    I_spec_l18Send_4 l now y → bif decide (y.2.2.2.1 < (↑(List.length y.1) : Int)) then (0 : Int) ≤ y.2.2.2.1 ∧ x2 < List.length y.1 ∧ x2 < List.length y.1 ∧ x2 < List.length y.1 ∧ bif !due now (List.getD y.1 x2 zTask) then I_spec_l18Send_4 l now (y.1, y.2.1, y.2.2.1, IntKind.wrap IntKind.i64 (y.2.2.2.1 + (1 : Int)), PUnit.unit) ∧ μ_spec_l18Send_4 l now (y.1, y.2.1, y.2.2.1, IntKind.wrap IntKind.i64 (y.2.2.2.1 + (1 : Int)), PUnit.unit) < μ_spec_l18Send_4 l now y else x2 < List.length y.1 ∧ bif (List.getD y.1 x2 zTask).Tries == (4 : Int) then x2 < List.length y.1 ∧ x2 < List.length x3 ∧ x2 < List.length x3 ∧ List.length y.2.2.1 + List.length [factText (List.getD x3 x2 zTask).F] ≤ (4294967296 : Nat) ∧ I_spec_l18Send_4 l now (x3, y.2.1, y.2.2.1 ++ [factText (List.getD x3 x2 zTask).F], IntKind.wrap IntKind.i64 (y.2.2.2.1 + (1 : Int)), PUnit.unit) ∧ μ_spec_l18Send_4 l now (x3, y.2.1, y.2.2.1 ++ [factText (List.getD x3 x2 zTask).F], IntKind.wrap IntKind.i64 (y.2.2.2.1 + (1 : Int)), PUnit.unit) < μ_spec_l18Send_4 l now y else x2 < List.length y.1 ∧ x2 < List.length y.1 ∧ x2 < List.length x4 ∧ x2 < List.length (List.modify x4 x2 fun (x : DTask) => { F := x.F, Undo := x.Undo, State := (2 : Int), Tries := x.Tries, Due := x.Due, V := x.V : DTask }) ∧ x2 < List.length (List.modify x4 x2 fun (x : DTask) => { F := x.F, Undo := x.Undo, State := (2 : Int), Tries := x.Tries, Due := x.Due, V := x.V : DTask }) ∧ x2 < List.length x1 ∧ x2 < List.length x1 ∧ x2 < List.length x1 ∧ x2 < List.length x1 ∧ List.length (List.getD x1 x2 zTask).F.Fields ≤ (4294967296 : Nat) ∧ x2 < List.length x1 ∧ List.length y.2.1 + List.length x0 ≤ (4294967296 : Nat) ∧ I_spec_l18Send_4 l now (x1, y.2.1 ++ x0, y.2.2.1, IntKind.wrap IntKind.i64 (y.2.2.2.1 + (1 : Int)), PUnit.unit) ∧ μ_spec_l18Send_4 l now (x1, y.2.1 ++ x0, y.2.2.1, IntKind.wrap IntKind.i64 (y.2.2.2.1 + (1 : Int)), PUnit.unit) < μ_spec_l18Send_4 l now y else asD [DV.one (Cell.sl Cd.eCall y.2.1), DV.one (Cell.sl Cd.str y.2.2.1)] = asD [DV.one (Cell.sl Cd.eCall (List.flatMap (call1 now) l)), DV.one (Cell.sl Cd.str (List.flatMap (fail1 now) l))] ∧ asD [DV.one (Cell.sl Cd.eTask y.1)] = asD [DV.one (Cell.sl Cd.eTask (List.map (send1 now) l))]) := by kernel_rfl
theorem ok_spec_l18Send : Holds EE (66, con_spec_l18Send) := by
  refine holds_of EE_ok Go.Proofs.Tryd.func66 con_spec_l18Send (by kernel_rfl) rfl use_spec_l18Send (all_cons ok_spec_l18Due (all_cons ok_spec_TaskKey (all_cons ok_spec_Backoff (all_cons ok_spec_l3Copy all_nil)))) ann_spec_l18Send (fun x hp hb => ?_)
  obtain ⟨l, now⟩ := x
  have hb_l : BdDV (U := UU) (.one (.sl .eTask l)) := hb _ (List.mem_cons_self)
  have hl_l : l.length ≤ 9223372036854775807 := Bd.len hb_l
  have hb_now : BdDV (U := UU) (.one (.lit (.int .i64 now))) := hb _ (List.mem_cons_of_mem _ (List.mem_cons_self))
  have hl_now := Bd.i64 hb_now
  have hp0 : tasksOk l = true := hp _ (List.mem_cons_self)
  have hp1 : 0 ≤ now ∧ now ≤ 1000000000 := hp _ (List.mem_cons_of_mem _ (List.mem_cons_self))
  clear hp hb
  rw [vc_spec_l18Send l now]
  dsimp only
  refine ⟨⟨by omega, by omega, by simp, by simp, by simp⟩, ?_⟩
  rintro ⟨out, calls, failed, i, ⟨⟩⟩ ⟨h1, h2, rfl, rfl, rfl⟩
  have hl := map_row (send1 now) l h1 h2
  have hlen := tasksOk_len' hp0
  have hcl := flat_len (call1 now) (call1_len now) (l.take i.toNat)
  have hfl := flat_len (fail1 now) (fail1_len now) (l.take i.toNat)
  rw [List.length_take] at hcl hfl
  simp only
  refine if_cond (fun hc => ?_) (fun hc => ?_)
  · have hc := of_decide_eq_true hc
    have hc : i < l.length := by omega
    have hi : i.toNat < l.length := by omega
    have hg := mk_getD _ l zTask (map_tl (send1 now) l h1 h2) h1 hc
    obtain ⟨s1, s2, s3, s4, s5⟩ := taskOk_st (tasksOk_at hp0 hi)
    have hct := flat_step (call1 now) l zTask h1 hc
    have hft := flat_step (fail1 now) l zTask h1 hc
    have hM := fun F hF => map_mod (send1 now) l zTask F h1 hc hF
    have hS := fun hF => map_skip (send1 now) l zTask h1 hc hF
    have hb := backoff_le ((List.getD l i.toNat zTask).Tries + 1)
    generalize hRR : (l.map (send1 now)).take i.toNat ++ l.drop i.toNat = R at *
    rw [wrap_i64 (n := i + 1) (by omega) (by omega)]
    simp (disch := first | omega | (simp only [List.length_modify]; omega)) only [getD_modify, modify_modify, List.length_modify, hl, hg]
    generalize hT : List.getD l i.toNat zTask = t at *
    simp (disch := omega) only [wrap_i64, List.length_cons, List.length_nil]
    repeat' (first | refine And.intro (by omega) ?_ | refine if_cond (fun h => ?_) (fun h => ?_) | fail)
    all_goals simp only [Bool.not_eq_true', Bool.not_eq_false', decide_eq_true_eq, decide_eq_false_iff_not, beq_iff_eq, beq_eq_false_iff_ne] at *
    all_goals first
      | (have hd : due now t = true := by first | assumption | (simp only [due]; grind)
         have e1 : call1 now t = [] := by simp only [call1]; exact if_neg (by simp_all)
         have e2 : fail1 now t = [factText t.F] := by simp only [fail1]; exact if_pos ⟨hd, by assumption⟩
         rw [e1, List.append_nil] at hct
         rw [e2] at hft
         rw [hM _ (by simp only [send1, hd, if_true]; rw [if_pos (by assumption)])]
         exact ⟨⟨by omega, by omega, rfl, hct, hft⟩, by simp only [μ_spec_l18Send_4]; omega⟩)
      | (have hd : due now t = true := by first | assumption | (simp only [due]; grind)
         have e1 : call1 now t = [⟨factText t.F, t.F, t.Tries + 1⟩] := by simp only [call1]; exact if_pos ⟨hd, by assumption⟩
         have e2 : fail1 now t = [] := by simp only [fail1]; exact if_neg (by simp_all)
         rw [e2, List.append_nil] at hft
         rw [e1] at hct
         rw [hM _ (by simp only [send1, hd, if_true]; rw [if_neg (by assumption)])]
         exact ⟨⟨by omega, by omega, rfl, hct, hft⟩, by simp only [μ_spec_l18Send_4]; omega⟩)
      | (have hd : due now t = false := by first | assumption | (simp only [due]; grind)
         have e1 : call1 now t = [] := by simp only [call1]; exact if_neg (by simp_all)
         have e2 : fail1 now t = [] := by simp only [fail1]; exact if_neg (by simp_all)
         rw [e1, List.append_nil] at hct
         rw [e2, List.append_nil] at hft
         have hs := hS (by simp only [send1, hd]; rfl)
         exact ⟨⟨by omega, by omega, hs, hct, hft⟩, by simp only [μ_spec_l18Send_4]; omega⟩)
  · have hc := of_decide_eq_false hc
    exact ⟨by rw [take_all l (by omega)]; rfl, asD_row (map_done (i := i) (send1 now) l (by omega))⟩
def con_spec_SendDue : Con UU where
  α := (List DTask) × Int
  md := [.ro, .ro]
  of := fun | [.one (.sl .eTask a0), .one (.lit (.int .i64 a1))] => some (a0, a1) | _ => none
  ds := fun (l, now) => [.one (.sl .eTask l), .one (.lit (.int .i64 now))]
  pre := fun (l, now) => [sizeTaskS l ≤ 4294967296]
  res := fun (l, now) => ⟨[.one (.sl .eTask (if tasksOk l = true ∧ 0 ≤ now ∧ now ≤ 1000000000 then l.map (send1 now) else l)), .one (.sl .eCall (if tasksOk l = true ∧ 0 ≤ now ∧ now ≤ 1000000000 then l.flatMap (call1 now) else [])), .one (.sl .str (if tasksOk l = true ∧ 0 ≤ now ∧ now ≤ 1000000000 then l.flatMap (fail1 now) else []))], true, []⟩
  law := by intro l x h; (try simp only at h); split at h <;> cases h; rfl
def ann_spec_SendDue : con_spec_SendDue.α → Nat → Option (Ann UU) := fun (l, now) => annL []
def use_spec_SendDue : List (FuncId × Con UU) := [(57, con_spec_l18Copy), (58, con_spec_TasksOk), (65, con_spec_l1In), (66, con_spec_l18Send)]
theorem vc_spec_SendDue (l : (List DTask)) (now : Int) : goal EE use_spec_SendDue Go.Proofs.Tryd.f26 con_spec_SendDue ann_spec_SendDue (l, now) = (sizeTaskS l ≤ (4294967296 : Nat) ∧ bif !tasksOk l then Lf [DV.one (Cell.sl Cd.eTask l), DV.one (Cell.sl Cd.eCall []), DV.one (Cell.sl Cd.str [])] [DV.one (Cell.sl Cd.eTask (if tasksOk l = true ∧ (0 : Int) ≤ now ∧ now ≤ (1000000000 : Int) then List.map (send1 now) l else l)), DV.one (Cell.sl Cd.eCall (if tasksOk l = true ∧ (0 : Int) ≤ now ∧ now ≤ (1000000000 : Int) then List.flatMap (call1 now) l else [])), DV.one (Cell.sl Cd.str (if tasksOk l = true ∧ (0 : Int) ≤ now ∧ now ≤ (1000000000 : Int) then List.flatMap (fail1 now) l else []))] else bif !decide ((0 : Int) ≤ now ∧ now ≤ (1000000000 : Int)) then Lf [DV.one (Cell.sl Cd.eTask l), DV.one (Cell.sl Cd.eCall []), DV.one (Cell.sl Cd.str [])] [DV.one (Cell.sl Cd.eTask (if tasksOk l = true ∧ (0 : Int) ≤ now ∧ now ≤ (1000000000 : Int) then List.map (send1 now) l else l)), DV.one (Cell.sl Cd.eCall (if tasksOk l = true ∧ (0 : Int) ≤ now ∧ now ≤ (1000000000 : Int) then List.flatMap (call1 now) l else [])), DV.one (Cell.sl Cd.str (if tasksOk l = true ∧ (0 : Int) ≤ now ∧ now ≤ (1000000000 : Int) then List.flatMap (fail1 now) l else []))] else tasksOk l = true ∧ ((0 : Int) ≤ now ∧ now ≤ (1000000000 : Int)) ∧ Lf [DV.one (Cell.sl Cd.eTask (List.map (send1 now) l)), DV.one (Cell.sl Cd.eCall (List.flatMap (call1 now) l)), DV.one (Cell.sl Cd.str (List.flatMap (fail1 now) l))] [DV.one (Cell.sl Cd.eTask (if tasksOk l = true ∧ (0 : Int) ≤ now ∧ now ≤ (1000000000 : Int) then List.map (send1 now) l else l)), DV.one (Cell.sl Cd.eCall (if tasksOk l = true ∧ (0 : Int) ≤ now ∧ now ≤ (1000000000 : Int) then List.flatMap (call1 now) l else [])), DV.one (Cell.sl Cd.str (if tasksOk l = true ∧ (0 : Int) ≤ now ∧ now ≤ (1000000000 : Int) then List.flatMap (fail1 now) l else []))]) := by kernel_rfl
theorem ok_spec_SendDue : Holds EE (26, con_spec_SendDue) := by
  refine holds_of EE_ok Go.Proofs.Tryd.func26 con_spec_SendDue (by kernel_rfl) rfl use_spec_SendDue (all_cons ok_spec_l18Copy (all_cons ok_spec_TasksOk (all_cons ok_spec_l1In (all_cons ok_spec_l18Send all_nil)))) ann_spec_SendDue (fun x hp hb => ?_)
  obtain ⟨l, now⟩ := x
  have hb_l : BdDV (U := UU) (.one (.sl .eTask l)) := hb _ (List.mem_cons_self)
  have hl_l : l.length ≤ 9223372036854775807 := Bd.len hb_l
  have hb_now : BdDV (U := UU) (.one (.lit (.int .i64 now))) := hb _ (List.mem_cons_of_mem _ (List.mem_cons_self))
  have hl_now := Bd.i64 hb_now
  have hp0 : sizeTaskS l ≤ 4294967296 := hp _ (List.mem_cons_self)
  clear hp hb
  rw [vc_spec_SendDue l now]
  refine ⟨hp0, if_cond (fun h => ?_) (fun h => if_cond (fun h2 => ?_) (fun h2 => ⟨by simpa using h, by simpa using h2, ?_⟩))⟩
  · have hh' : ¬ (tasksOk l = true ∧ 0 ≤ now ∧ now ≤ 1000000000) := fun hh => by rw [hh.1] at h; simp at h
    exact Lf3 (if_neg hh').symm (if_neg hh').symm (if_neg hh').symm
  · have hh' : ¬ (tasksOk l = true ∧ 0 ≤ now ∧ now ≤ 1000000000) := fun hh => by simp [hh.2] at h2
    exact Lf3 (if_neg hh').symm (if_neg hh').symm (if_neg hh').symm
  · have hh' : tasksOk l = true ∧ 0 ≤ now ∧ now ≤ 1000000000 := ⟨by simpa using h, by simpa using h2⟩
    exact Lf3 (if_pos hh').symm (if_pos hh').symm (if_pos hh').symm
def con_impl_SendDue : Con UU where
  α := (List DTask) × Int
  md := [.ro, .ro]
  of := fun | [.one (.sl .eTask a0), .one (.lit (.int .i64 a1))] => some (a0, a1) | _ => none
  ds := fun (l, now) => [.one (.sl .eTask l), .one (.lit (.int .i64 now))]
  pre := fun (l, now) => [sizeTaskS l ≤ 4294967296]
  res := fun (l, now) => ⟨[.one (.sl .eTask (if tasksOk l = true ∧ 0 ≤ now ∧ now ≤ 1000000000 then l.map (send1 now) else l)), .one (.sl .eCall (if tasksOk l = true ∧ 0 ≤ now ∧ now ≤ 1000000000 then l.flatMap (call1 now) else [])), .one (.sl .str (if tasksOk l = true ∧ 0 ≤ now ∧ now ≤ 1000000000 then l.flatMap (fail1 now) else []))], true, []⟩
  law := by intro l x h; (try simp only at h); split at h <;> cases h; rfl
def I_impl_SendDue_7 (l : (List DTask)) (now : Int) : List DTask × List DCall × List ByteArray × Int × Unit → Prop := fun (out, calls, failed, i, _) => 0 ≤ i ∧ i ≤ l.length ∧ out = (l.map (send1 now)).take i.toNat ++ l.drop i.toNat ∧ calls = (l.take i.toNat).flatMap (call1 now) ∧ failed = (l.take i.toNat).flatMap (fail1 now)
def μ_impl_SendDue_7 (l : (List DTask)) (now : Int) : List DTask × List DCall × List ByteArray × Int × Unit → Nat := fun (out, calls, failed, i, _) => l.length - i.toNat
def ann_impl_SendDue : con_impl_SendDue.α → Nat → Option (Ann UU) := fun (l, now) => annL [(7, annOf [.slot 7 (7, 1024) (.own .eTask true), .slot 8 (8, 1024) (.own .eCall true), .slot 9 (9, 1024) (.own .str true), .slot 25 (25, 1024) (.lit (.int .i64))] (fun _ => I_impl_SendDue_7 l now) (μ_impl_SendDue_7 l now))]
def use_impl_SendDue : List (FuncId × Con UU) := [(61, con_impl_copyTasks), (63, con_impl_TasksOk), (67, con_impl_isTime), (68, con_impl_isOpen), (44, con_impl_TaskKey), (69, con_impl_Backoff), (70, con_impl_copyFact)]
theorem vc_impl_SendDue (l : (List DTask)) (now : Int) : goal EE use_impl_SendDue Go.Proofs.Tryd.f27 con_impl_SendDue ann_impl_SendDue (l, now) = (sizeTaskS l ≤ (4294967296 : Nat) ∧
  bif !tasksOk l then Lf [DV.one (Cell.sl Cd.eTask l), DV.one (Cell.sl Cd.eCall []), DV.one (Cell.sl Cd.str [])] [DV.one (Cell.sl Cd.eTask (if tasksOk l = true ∧ (0 : Int) ≤ now ∧ now ≤ (1000000000 : Int) then List.map (send1 now) l else l)), DV.one (Cell.sl Cd.eCall (if tasksOk l = true ∧ (0 : Int) ≤ now ∧ now ≤ (1000000000 : Int) then List.flatMap (call1 now) l else [])), DV.one (Cell.sl Cd.str (if tasksOk l = true ∧ (0 : Int) ≤ now ∧ now ≤ (1000000000 : Int) then List.flatMap (fail1 now) l else []))]
  else
    bif !decide ((0 : Int) ≤ now ∧ now ≤ (1000000000 : Int)) then Lf [DV.one (Cell.sl Cd.eTask l), DV.one (Cell.sl Cd.eCall []), DV.one (Cell.sl Cd.str [])] [DV.one (Cell.sl Cd.eTask (if tasksOk l = true ∧ (0 : Int) ≤ now ∧ now ≤ (1000000000 : Int) then List.map (send1 now) l else l)), DV.one (Cell.sl Cd.eCall (if tasksOk l = true ∧ (0 : Int) ≤ now ∧ now ≤ (1000000000 : Int) then List.flatMap (call1 now) l else [])), DV.one (Cell.sl Cd.str (if tasksOk l = true ∧ (0 : Int) ≤ now ∧ now ≤ (1000000000 : Int) then List.flatMap (fail1 now) l else []))]
    else
      I_impl_SendDue_7 l now (l, [], [], (0 : Int), PUnit.unit) ∧
        ∀ (y : List DTask × List DCall × List ByteArray × Int × PUnit),
          let x0 : List DCall := [{ Key := factText (List.getD (List.modify (List.modify (List.modify y.1 (Int.toNat y.2.2.2.1) fun (x : DTask) => { F := x.F, Undo := x.Undo, State := (2 : Int), Tries := x.Tries, Due := x.Due, V := x.V : DTask }) (Int.toNat y.2.2.2.1) fun (x : DTask) => { F := x.F, Undo := x.Undo, State := x.State, Tries := IntKind.wrap IntKind.i64 ((List.getD (List.modify y.1 (Int.toNat y.2.2.2.1) fun (x : DTask) => { F := x.F, Undo := x.Undo, State := (2 : Int), Tries := x.Tries, Due := x.Due, V := x.V : DTask }) (Int.toNat y.2.2.2.1) zTask).Tries + (1 : Int)), Due := x.Due, V := x.V : DTask }) (Int.toNat y.2.2.2.1) fun (x : DTask) => { F := x.F, Undo := x.Undo, State := x.State, Tries := x.Tries, Due := IntKind.wrap IntKind.i64 (now + backoff (2 : Int) (List.getD (List.modify (List.modify y.1 (Int.toNat y.2.2.2.1) fun (x : DTask) => { F := x.F, Undo := x.Undo, State := (2 : Int), Tries := x.Tries, Due := x.Due, V := x.V : DTask }) (Int.toNat y.2.2.2.1) fun (x : DTask) => { F := x.F, Undo := x.Undo, State := x.State, Tries := IntKind.wrap IntKind.i64 ((List.getD (List.modify y.1 (Int.toNat y.2.2.2.1) fun (x : DTask) => { F := x.F, Undo := x.Undo, State := (2 : Int), Tries := x.Tries, Due := x.Due, V := x.V : DTask }) (Int.toNat y.2.2.2.1) zTask).Tries + (1 : Int)), Due := x.Due, V := x.V : DTask }) (Int.toNat y.2.2.2.1) zTask).Tries (60 : Int)), V := x.V : DTask }) (Int.toNat y.2.2.2.1) zTask).F, F := (List.getD (List.modify (List.modify (List.modify y.1 (Int.toNat y.2.2.2.1) fun (x : DTask) => { F := x.F, Undo := x.Undo, State := (2 : Int), Tries := x.Tries, Due := x.Due, V := x.V : DTask }) (Int.toNat y.2.2.2.1) fun (x : DTask) => { F := x.F, Undo := x.Undo, State := x.State, Tries := IntKind.wrap IntKind.i64 ((List.getD (List.modify y.1 (Int.toNat y.2.2.2.1) fun (x : DTask) => { F := x.F, Undo := x.Undo, State := (2 : Int), Tries := x.Tries, Due := x.Due, V := x.V : DTask }) (Int.toNat y.2.2.2.1) zTask).Tries + (1 : Int)), Due := x.Due, V := x.V : DTask }) (Int.toNat y.2.2.2.1) fun (x : DTask) => { F := x.F, Undo := x.Undo, State := x.State, Tries := x.Tries, Due := IntKind.wrap IntKind.i64 (now + backoff (2 : Int) (List.getD (List.modify (List.modify y.1 (Int.toNat y.2.2.2.1) fun (x : DTask) => { F := x.F, Undo := x.Undo, State := (2 : Int), Tries := x.Tries, Due := x.Due, V := x.V : DTask }) (Int.toNat y.2.2.2.1) fun (x : DTask) => { F := x.F, Undo := x.Undo, State := x.State, Tries := IntKind.wrap IntKind.i64 ((List.getD (List.modify y.1 (Int.toNat y.2.2.2.1) fun (x : DTask) => { F := x.F, Undo := x.Undo, State := (2 : Int), Tries := x.Tries, Due := x.Due, V := x.V : DTask }) (Int.toNat y.2.2.2.1) zTask).Tries + (1 : Int)), Due := x.Due, V := x.V : DTask }) (Int.toNat y.2.2.2.1) zTask).Tries (60 : Int)), V := x.V : DTask }) (Int.toNat y.2.2.2.1) zTask).F, Try := (List.getD (List.modify (List.modify (List.modify y.1 (Int.toNat y.2.2.2.1) fun (x : DTask) => { F := x.F, Undo := x.Undo, State := (2 : Int), Tries := x.Tries, Due := x.Due, V := x.V : DTask }) (Int.toNat y.2.2.2.1) fun (x : DTask) => { F := x.F, Undo := x.Undo, State := x.State, Tries := IntKind.wrap IntKind.i64 ((List.getD (List.modify y.1 (Int.toNat y.2.2.2.1) fun (x : DTask) => { F := x.F, Undo := x.Undo, State := (2 : Int), Tries := x.Tries, Due := x.Due, V := x.V : DTask }) (Int.toNat y.2.2.2.1) zTask).Tries + (1 : Int)), Due := x.Due, V := x.V : DTask }) (Int.toNat y.2.2.2.1) fun (x : DTask) => { F := x.F, Undo := x.Undo, State := x.State, Tries := x.Tries, Due := IntKind.wrap IntKind.i64 (now + backoff (2 : Int) (List.getD (List.modify (List.modify y.1 (Int.toNat y.2.2.2.1) fun (x : DTask) => { F := x.F, Undo := x.Undo, State := (2 : Int), Tries := x.Tries, Due := x.Due, V := x.V : DTask }) (Int.toNat y.2.2.2.1) fun (x : DTask) => { F := x.F, Undo := x.Undo, State := x.State, Tries := IntKind.wrap IntKind.i64 ((List.getD (List.modify y.1 (Int.toNat y.2.2.2.1) fun (x : DTask) => { F := x.F, Undo := x.Undo, State := (2 : Int), Tries := x.Tries, Due := x.Due, V := x.V : DTask }) (Int.toNat y.2.2.2.1) zTask).Tries + (1 : Int)), Due := x.Due, V := x.V : DTask }) (Int.toNat y.2.2.2.1) zTask).Tries (60 : Int)), V := x.V : DTask }) (Int.toNat y.2.2.2.1) zTask).Tries : DCall }];
          let x1 : List DTask := List.modify (List.modify (List.modify y.1 (Int.toNat y.2.2.2.1) fun (x : DTask) => { F := x.F, Undo := x.Undo, State := (2 : Int), Tries := x.Tries, Due := x.Due, V := x.V : DTask }) (Int.toNat y.2.2.2.1) fun (x : DTask) => { F := x.F, Undo := x.Undo, State := x.State, Tries := IntKind.wrap IntKind.i64 ((List.getD (List.modify y.1 (Int.toNat y.2.2.2.1) fun (x : DTask) => { F := x.F, Undo := x.Undo, State := (2 : Int), Tries := x.Tries, Due := x.Due, V := x.V : DTask }) (Int.toNat y.2.2.2.1) zTask).Tries + (1 : Int)), Due := x.Due, V := x.V : DTask }) (Int.toNat y.2.2.2.1) fun (x : DTask) => { F := x.F, Undo := x.Undo, State := x.State, Tries := x.Tries, Due := IntKind.wrap IntKind.i64 (now + backoff (2 : Int) (List.getD (List.modify (List.modify y.1 (Int.toNat y.2.2.2.1) fun (x : DTask) => { F := x.F, Undo := x.Undo, State := (2 : Int), Tries := x.Tries, Due := x.Due, V := x.V : DTask }) (Int.toNat y.2.2.2.1) fun (x : DTask) => { F := x.F, Undo := x.Undo, State := x.State, Tries := IntKind.wrap IntKind.i64 ((List.getD (List.modify y.1 (Int.toNat y.2.2.2.1) fun (x : DTask) => { F := x.F, Undo := x.Undo, State := (2 : Int), Tries := x.Tries, Due := x.Due, V := x.V : DTask }) (Int.toNat y.2.2.2.1) zTask).Tries + (1 : Int)), Due := x.Due, V := x.V : DTask }) (Int.toNat y.2.2.2.1) zTask).Tries (60 : Int)), V := x.V : DTask };
          let x2 : Nat := Int.toNat y.2.2.2.1;
          let x3 : List DTask := List.modify y.1 x2 fun (x : DTask) => { F := x.F, Undo := x.Undo, State := (2 : Int), Tries := x.Tries, Due := x.Due, V := x.V : DTask };
          let x4 : List DTask := List.modify y.1 x2 fun (x : DTask) => { F := x.F, Undo := x.Undo, State := (4 : Int), Tries := x.Tries, Due := x.Due, V := x.V : DTask };
          I_impl_SendDue_7 l now y → bif decide (y.2.2.2.1 < (↑(List.length l) : Int)) then (0 : Int) ≤ y.2.2.2.1 ∧ x2 < List.length y.1 ∧ x2 < List.length y.1 ∧ x2 < List.length y.1 ∧ bif !isOpen (List.getD y.1 x2 zTask) then I_impl_SendDue_7 l now (y.1, y.2.1, y.2.2.1, IntKind.wrap IntKind.i64 (y.2.2.2.1 + (1 : Int)), PUnit.unit) ∧ μ_impl_SendDue_7 l now (y.1, y.2.1, y.2.2.1, IntKind.wrap IntKind.i64 (y.2.2.2.1 + (1 : Int)), PUnit.unit) < μ_impl_SendDue_7 l now y else x2 < List.length y.1 ∧ bif decide ((List.getD y.1 x2 zTask).Due > now) then I_impl_SendDue_7 l now (y.1, y.2.1, y.2.2.1, IntKind.wrap IntKind.i64 (y.2.2.2.1 + (1 : Int)), PUnit.unit) ∧ μ_impl_SendDue_7 l now (y.1, y.2.1, y.2.2.1, IntKind.wrap IntKind.i64 (y.2.2.2.1 + (1 : Int)), PUnit.unit) < μ_impl_SendDue_7 l now y else x2 < List.length y.1 ∧ bif (List.getD y.1 x2 zTask).Tries == (4 : Int) then x2 < List.length y.1 ∧ x2 < List.length x4 ∧ x2 < List.length x4 ∧ List.length y.2.2.1 + List.length [factText (List.getD x4 x2 zTask).F] ≤ (4294967296 : Nat) ∧ I_impl_SendDue_7 l now (x4, y.2.1, y.2.2.1 ++ [factText (List.getD x4 x2 zTask).F], IntKind.wrap IntKind.i64 (y.2.2.2.1 + (1 : Int)), PUnit.unit) ∧ μ_impl_SendDue_7 l now (x4, y.2.1, y.2.2.1 ++ [factText (List.getD x4 x2 zTask).F], IntKind.wrap IntKind.i64 (y.2.2.2.1 + (1 : Int)), PUnit.unit) < μ_impl_SendDue_7 l now y else x2 < List.length y.1 ∧ x2 < List.length x3 ∧ x2 < List.length x3 ∧ x2 < List.length (List.modify x3 x2 fun (x : DTask) => { F := x.F, Undo := x.Undo, State := x.State, Tries := IntKind.wrap IntKind.i64 ((List.getD x3 x2 zTask).Tries + (1 : Int)), Due := x.Due, V := x.V : DTask }) ∧ x2 < List.length (List.modify x3 x2 fun (x : DTask) => { F := x.F, Undo := x.Undo, State := x.State, Tries := IntKind.wrap IntKind.i64 ((List.getD x3 x2 zTask).Tries + (1 : Int)), Due := x.Due, V := x.V : DTask }) ∧ x2 < List.length x1 ∧ x2 < List.length x1 ∧ x2 < List.length x1 ∧ x2 < List.length x1 ∧ List.length (List.getD x1 x2 zTask).F.Fields ≤ (4294967296 : Nat) ∧ x2 < List.length x1 ∧ List.length y.2.1 + List.length x0 ≤ (4294967296 : Nat) ∧ I_impl_SendDue_7 l now (x1, y.2.1 ++ x0, y.2.2.1, IntKind.wrap IntKind.i64 (y.2.2.2.1 + (1 : Int)), PUnit.unit) ∧ μ_impl_SendDue_7 l now (x1, y.2.1 ++ x0, y.2.2.1, IntKind.wrap IntKind.i64 (y.2.2.2.1 + (1 : Int)), PUnit.unit) < μ_impl_SendDue_7 l now y else Lf [DV.one (Cell.sl Cd.eTask y.1), DV.one (Cell.sl Cd.eCall y.2.1), DV.one (Cell.sl Cd.str y.2.2.1)] [DV.one (Cell.sl Cd.eTask (if tasksOk l = true ∧ (0 : Int) ≤ now ∧ now ≤ (1000000000 : Int) then List.map (send1 now) l else l)), DV.one (Cell.sl Cd.eCall (if tasksOk l = true ∧ (0 : Int) ≤ now ∧ now ≤ (1000000000 : Int) then List.flatMap (call1 now) l else [])), DV.one (Cell.sl Cd.str (if tasksOk l = true ∧ (0 : Int) ≤ now ∧ now ≤ (1000000000 : Int) then List.flatMap (fail1 now) l else []))]) := by kernel_rfl
theorem ok_impl_SendDue : Holds EE (27, con_impl_SendDue) := by
  refine holds_of EE_ok Go.Proofs.Tryd.func27 con_impl_SendDue (by kernel_rfl) rfl use_impl_SendDue (all_cons ok_impl_copyTasks (all_cons ok_impl_TasksOk (all_cons ok_impl_isTime (all_cons ok_impl_isOpen (all_cons ok_impl_TaskKey (all_cons ok_impl_Backoff (all_cons ok_impl_copyFact all_nil))))))) ann_impl_SendDue (fun x hp hb => ?_)
  obtain ⟨l, now⟩ := x
  have hb_l : BdDV (U := UU) (.one (.sl .eTask l)) := hb _ (List.mem_cons_self)
  have hl_l : l.length ≤ 9223372036854775807 := Bd.len hb_l
  have hb_now : BdDV (U := UU) (.one (.lit (.int .i64 now))) := hb _ (List.mem_cons_of_mem _ (List.mem_cons_self))
  have hl_now := Bd.i64 hb_now
  have hp0 : sizeTaskS l ≤ 4294967296 := hp _ (List.mem_cons_self)
  clear hp hb
  rw [vc_impl_SendDue l now]
  dsimp only
  refine ⟨hp0, if_cond (fun h => ?_) (fun h => if_cond (fun h2 => ?_) (fun h2 => ?_))⟩
  · have hh' : ¬ (tasksOk l = true ∧ 0 ≤ now ∧ now ≤ 1000000000) := fun hh => by rw [hh.1] at h; simp at h
    exact Lf3 (if_neg hh').symm (if_neg hh').symm (if_neg hh').symm
  · have hh' : ¬ (tasksOk l = true ∧ 0 ≤ now ∧ now ≤ 1000000000) := fun hh => by simp [hh.2] at h2
    exact Lf3 (if_neg hh').symm (if_neg hh').symm (if_neg hh').symm
  have ht : tasksOk l = true := by simpa using h
  have hw : 0 ≤ now ∧ now ≤ 1000000000 := by simpa using h2
  have hh' : tasksOk l = true ∧ 0 ≤ now ∧ now ≤ 1000000000 := ⟨ht, hw⟩
  clear h h2
  refine ⟨⟨by omega, by omega, by simp, by simp, by simp⟩, ?_⟩
  rintro ⟨out, calls, failed, i, ⟨⟩⟩ ⟨h1, h2, rfl, rfl, rfl⟩
  have hl := map_row (send1 now) l h1 h2
  have hlen := tasksOk_len' ht
  have hcl := flat_len (call1 now) (call1_len now) (l.take i.toNat)
  have hfl := flat_len (fail1 now) (fail1_len now) (l.take i.toNat)
  rw [List.length_take] at hcl hfl
  simp only
  refine if_cond (fun hc => ?_) (fun hc => ?_)
  · have hc := of_decide_eq_true hc
    have hc : i < l.length := by omega
    have hi : i.toNat < l.length := by omega
    have hg := mk_getD _ l zTask (map_tl (send1 now) l h1 h2) h1 hc
    obtain ⟨s1, s2, s3, s4, s5⟩ := taskOk_st (tasksOk_at ht hi)
    have hct := flat_step (call1 now) l zTask h1 hc
    have hft := flat_step (fail1 now) l zTask h1 hc
    have hM := fun F hF => map_mod (send1 now) l zTask F h1 hc hF
    have hS := fun hF => map_skip (send1 now) l zTask h1 hc hF
    have hb := backoff_le ((List.getD l i.toNat zTask).Tries + 1)
    generalize hRR : (l.map (send1 now)).take i.toNat ++ l.drop i.toNat = R at *
    rw [wrap_i64 (n := i + 1) (by omega) (by omega)]
    simp (disch := first | omega | (simp only [List.length_modify]; omega)) only [getD_modify, modify_modify, List.length_modify, hl, hg]
    generalize hT : List.getD l i.toNat zTask = t at *
    simp (disch := omega) only [wrap_i64, List.length_cons, List.length_nil]
    repeat' (first | refine And.intro (by omega) ?_ | refine if_cond (fun h => ?_) (fun h => ?_) | fail)
    all_goals simp only [Bool.not_eq_true', Bool.not_eq_false', decide_eq_true_eq, decide_eq_false_iff_not, beq_iff_eq, beq_eq_false_iff_ne] at *
    all_goals first
      | (have hd : due now t = true := by first | assumption | (simp only [due]; grind)
         have e1 : call1 now t = [] := by simp only [call1]; exact if_neg (by simp_all)
         have e2 : fail1 now t = [factText t.F] := by simp only [fail1]; exact if_pos ⟨hd, by assumption⟩
         rw [e1, List.append_nil] at hct
         rw [e2] at hft
         rw [hM _ (by simp only [send1, hd, if_true]; rw [if_pos (by assumption)])]
         exact ⟨⟨by omega, by omega, rfl, hct, hft⟩, by simp only [μ_impl_SendDue_7]; omega⟩)
      | (have hd : due now t = true := by first | assumption | (simp only [due]; grind)
         have e1 : call1 now t = [⟨factText t.F, t.F, t.Tries + 1⟩] := by simp only [call1]; exact if_pos ⟨hd, by assumption⟩
         have e2 : fail1 now t = [] := by simp only [fail1]; exact if_neg (by simp_all)
         rw [e2, List.append_nil] at hft
         rw [e1] at hct
         rw [hM _ (by simp only [send1, hd, if_true]; rw [if_neg (by assumption)])]
         exact ⟨⟨by omega, by omega, rfl, hct, hft⟩, by simp only [μ_impl_SendDue_7]; omega⟩)
      | (have hd : due now t = false := by first | assumption | (simp only [due]; grind)
         have e1 : call1 now t = [] := by simp only [call1]; exact if_neg (by simp_all)
         have e2 : fail1 now t = [] := by simp only [fail1]; exact if_neg (by simp_all)
         rw [e1, List.append_nil] at hct
         rw [e2, List.append_nil] at hft
         have hs := hS (by simp only [send1, hd]; rfl)
         exact ⟨⟨by omega, by omega, hs, hct, hft⟩, by simp only [μ_impl_SendDue_7]; omega⟩)
  · have hc := of_decide_eq_false hc
    rw [take_all l (by omega)]
    exact Lf3 ((map_done (i := i) (send1 now) l (by omega)).trans (if_pos hh').symm) (if_pos hh').symm (if_pos hh').symm
theorem ctS_flat {α β : Type} (c' : β → Nat) (c : α → Nat) (f : α → List β) (h : ∀ x, ctS c' (f x) ≤ c x) : ∀ l : List α, ctS c' (l.flatMap f) ≤ ctS c l
  | [] => by simp [ctS]
  | x :: l => by
    rw [List.flatMap_cons, ctS_append, ctS_cons]
    have h1 := h x
    have h2 := ctS_flat c' c f h l
    omega
theorem ctS_modify {α : Type} (c : α → Nat) (f : α → α) (h : ∀ x, c (f x) = c x) : ∀ (l : List α) (i : Nat), ctS c (l.modify i f) = ctS c l
  | [], i => by simp
  | x :: l, 0 => by rw [List.modify_zero_cons, ctS_cons, ctS_cons, h]
  | x :: l, i + 1 => by rw [List.modify_succ_cons, ctS_cons, ctS_cons, ctS_modify c f h l i]
theorem ctS_mapc {α : Type} (c : α → Nat) (f : α → α) (h : ∀ x, c (f x) = c x) : ∀ l : List α, ctS c (l.map f) = ctS c l
  | [] => rfl
  | x :: l => by rw [List.map_cons, ctS_cons, ctS_cons, h, ctS_mapc c f h l]
theorem pushUndo_ct (l : List DUndo) (t : DTask) : cntUndoS (pushUndo l t).1 ≤ cntUndoS l + 20 * sizeTask t + 20 := by
  unfold pushUndo
  split
  · show ctS cntUndo (l ++ [⟨factText t.F, ⟨t.Undo, t.F.Fields⟩⟩]) ≤ _
    rw [ctS_append]
    have h1 := cntValS_le t.F.Fields
    have h2 : ctS cntUndo [⟨factText t.F, ⟨t.Undo, t.F.Fields⟩⟩] = cntUndo ⟨factText t.F, ⟨t.Undo, t.F.Fields⟩⟩ := by simp [ctS]
    have h3 : cntUndoS l = ctS cntUndo l := rfl
    rw [h2, h3]
    simp only [cntUndo, sizeTask, sizeFact] at *
    omega
  · show cntUndoS l ≤ _; omega
theorem replyTask_ct (l : List DTask) (key : ByteArray) (ok : Bool) (v : DVal) : cntTaskS (replyTask l key ok v).1 = cntTaskS l := by
  unfold replyTask
  split
  · split
    · exact ctS_modify cntTask (replied ok v) (fun _ => rfl) l _
    · rfl
  · rfl
theorem send1_ct (now : Int) (l : List DTask) : cntTaskS (l.map (send1 now)) = cntTaskS l := ctS_mapc cntTask (send1 now) (fun x => by unfold send1; split; split; rfl; rfl; rfl) l
theorem call1_ct (now : Int) (l : List DTask) : cntCallS (l.flatMap (call1 now)) ≤ cntTaskS l := ctS_flat cntCall cntTask (call1 now) (fun x => by
  unfold call1
  split
  · have : ctS cntCall [⟨factText x.F, x.F, x.Tries + 1⟩] = cntCall ⟨factText x.F, x.F, x.Tries + 1⟩ := by simp [ctS]
    rw [this]; simp only [cntCall, cntTask]; omega
  · simp [ctS]) l
theorem fail1_ct (now : Int) (l : List DTask) : cntStringS (l.flatMap (fail1 now)) ≤ cntTaskS l := ctS_flat (fun _ => 1) cntTask (fail1 now) (fun x => by
  unfold fail1
  split
  · have : ctS (fun _ : ByteArray => 1) [factText x.F] = 1 := by simp [ctS]
    rw [this]; simp only [cntTask]; omega
  · simp [ctS]) l
def con_laws_FnExactSendDue : Con UU where
  α := (List DTask) × Int
  md := [.ro, .ro]
  of := fun | [.one (.sl .lTask a0), .one (.lit (.int .i64 a1))] => some (a0, a1) | _ => none
  ds := fun (aL, aNow) => [.one (.sl .lTask aL), .one (.lit (.int .i64 aNow))]
  pre := fun (aL, aNow) => []
  res := fun (aL, aNow) => ⟨[.one (.lit (.bool true))], true, []⟩
  law := by intro l x h; (try simp only at h); split at h <;> cases h; rfl
def ann_laws_FnExactSendDue : con_laws_FnExactSendDue.α → Nat → Option (Ann UU) := fun (aL, aNow) => annL []
def use_laws_FnExactSendDue : List (FuncId × Con UU) := [(17, con_laws_szTaskS), (20, con_laws_toTaskS), (26, con_spec_SendDue), (27, con_impl_SendDue), (23, con_laws_eqTaskS), (28, con_laws_eqCallS), (29, con_laws_eqStringS), (24, con_laws_markTaskS), (30, con_laws_markCallS), (31, con_laws_markStringS), (25, con_laws_heldTaskS), (32, con_laws_heldCallS), (33, con_laws_heldStringS)]
theorem vc_laws_FnExactSendDue (aL : (List DTask)) (aNow : Int) : goal EE use_laws_FnExactSendDue Go.Proofs.Tryd.f5 con_laws_FnExactSendDue ann_laws_FnExactSendDue (aL, aNow) = (let x0 : Bool := decide ((if markStringS (markStringS (if tasksOk aL = true ∧ (0 : Int) ≤ aNow ∧ aNow ≤ (1000000000 : Int) then List.flatMap (fail1 aNow) aL else []) ((1 : Int) + (↑(cntTaskS (if tasksOk aL = true ∧ (0 : Int) ≤ aNow ∧ aNow ≤ (1000000000 : Int) then List.map (send1 aNow) aL else aL)) : Int) + (↑(cntCallS (if tasksOk aL = true ∧ (0 : Int) ≤ aNow ∧ aNow ≤ (1000000000 : Int) then List.flatMap (call1 aNow) aL else [])) : Int))) (if markCallS (markCallS (if tasksOk aL = true ∧ (0 : Int) ≤ aNow ∧ aNow ≤ (1000000000 : Int) then List.flatMap (call1 aNow) aL else []) ((1 : Int) + (↑(cntTaskS (if tasksOk aL = true ∧ (0 : Int) ≤ aNow ∧ aNow ≤ (1000000000 : Int) then List.map (send1 aNow) aL else aL)) : Int))) (if markTaskS (markTaskS (if tasksOk aL = true ∧ (0 : Int) ≤ aNow ∧ aNow ≤ (1000000000 : Int) then List.map (send1 aNow) aL else aL) (1 : Int)) (1 : Int) = markTaskS (if tasksOk aL = true ∧ (0 : Int) ≤ aNow ∧ aNow ≤ (1000000000 : Int) then List.map (send1 aNow) aL else aL) (1 : Int) then (1 : Int) + (↑(cntTaskS (markTaskS (if tasksOk aL = true ∧ (0 : Int) ≤ aNow ∧ aNow ≤ (1000000000 : Int) then List.map (send1 aNow) aL else aL) (1 : Int))) : Int) else (-1 : Int)) = markCallS (if tasksOk aL = true ∧ (0 : Int) ≤ aNow ∧ aNow ≤ (1000000000 : Int) then List.flatMap (call1 aNow) aL else []) ((1 : Int) + (↑(cntTaskS (if tasksOk aL = true ∧ (0 : Int) ≤ aNow ∧ aNow ≤ (1000000000 : Int) then List.map (send1 aNow) aL else aL)) : Int)) then (if markTaskS (markTaskS (if tasksOk aL = true ∧ (0 : Int) ≤ aNow ∧ aNow ≤ (1000000000 : Int) then List.map (send1 aNow) aL else aL) (1 : Int)) (1 : Int) = markTaskS (if tasksOk aL = true ∧ (0 : Int) ≤ aNow ∧ aNow ≤ (1000000000 : Int) then List.map (send1 aNow) aL else aL) (1 : Int) then (1 : Int) + (↑(cntTaskS (markTaskS (if tasksOk aL = true ∧ (0 : Int) ≤ aNow ∧ aNow ≤ (1000000000 : Int) then List.map (send1 aNow) aL else aL) (1 : Int))) : Int) else (-1 : Int)) + (↑(cntCallS (markCallS (if tasksOk aL = true ∧ (0 : Int) ≤ aNow ∧ aNow ≤ (1000000000 : Int) then List.flatMap (call1 aNow) aL else []) ((1 : Int) + (↑(cntTaskS (if tasksOk aL = true ∧ (0 : Int) ≤ aNow ∧ aNow ≤ (1000000000 : Int) then List.map (send1 aNow) aL else aL)) : Int)))) : Int) else (-1 : Int)) = markStringS (if tasksOk aL = true ∧ (0 : Int) ≤ aNow ∧ aNow ≤ (1000000000 : Int) then List.flatMap (fail1 aNow) aL else []) ((1 : Int) + (↑(cntTaskS (if tasksOk aL = true ∧ (0 : Int) ≤ aNow ∧ aNow ≤ (1000000000 : Int) then List.map (send1 aNow) aL else aL)) : Int) + (↑(cntCallS (if tasksOk aL = true ∧ (0 : Int) ≤ aNow ∧ aNow ≤ (1000000000 : Int) then List.flatMap (call1 aNow) aL else [])) : Int)) then (if markCallS (markCallS (if tasksOk aL = true ∧ (0 : Int) ≤ aNow ∧ aNow ≤ (1000000000 : Int) then List.flatMap (call1 aNow) aL else []) ((1 : Int) + (↑(cntTaskS (if tasksOk aL = true ∧ (0 : Int) ≤ aNow ∧ aNow ≤ (1000000000 : Int) then List.map (send1 aNow) aL else aL)) : Int))) (if markTaskS (markTaskS (if tasksOk aL = true ∧ (0 : Int) ≤ aNow ∧ aNow ≤ (1000000000 : Int) then List.map (send1 aNow) aL else aL) (1 : Int)) (1 : Int) = markTaskS (if tasksOk aL = true ∧ (0 : Int) ≤ aNow ∧ aNow ≤ (1000000000 : Int) then List.map (send1 aNow) aL else aL) (1 : Int) then (1 : Int) + (↑(cntTaskS (markTaskS (if tasksOk aL = true ∧ (0 : Int) ≤ aNow ∧ aNow ≤ (1000000000 : Int) then List.map (send1 aNow) aL else aL) (1 : Int))) : Int) else (-1 : Int)) = markCallS (if tasksOk aL = true ∧ (0 : Int) ≤ aNow ∧ aNow ≤ (1000000000 : Int) then List.flatMap (call1 aNow) aL else []) ((1 : Int) + (↑(cntTaskS (if tasksOk aL = true ∧ (0 : Int) ≤ aNow ∧ aNow ≤ (1000000000 : Int) then List.map (send1 aNow) aL else aL)) : Int)) then (if markTaskS (markTaskS (if tasksOk aL = true ∧ (0 : Int) ≤ aNow ∧ aNow ≤ (1000000000 : Int) then List.map (send1 aNow) aL else aL) (1 : Int)) (1 : Int) = markTaskS (if tasksOk aL = true ∧ (0 : Int) ≤ aNow ∧ aNow ≤ (1000000000 : Int) then List.map (send1 aNow) aL else aL) (1 : Int) then (1 : Int) + (↑(cntTaskS (markTaskS (if tasksOk aL = true ∧ (0 : Int) ≤ aNow ∧ aNow ≤ (1000000000 : Int) then List.map (send1 aNow) aL else aL) (1 : Int))) : Int) else (-1 : Int)) + (↑(cntCallS (markCallS (if tasksOk aL = true ∧ (0 : Int) ≤ aNow ∧ aNow ≤ (1000000000 : Int) then List.flatMap (call1 aNow) aL else []) ((1 : Int) + (↑(cntTaskS (if tasksOk aL = true ∧ (0 : Int) ≤ aNow ∧ aNow ≤ (1000000000 : Int) then List.map (send1 aNow) aL else aL)) : Int)))) : Int) else (-1 : Int)) + (↑(cntStringS (markStringS (if tasksOk aL = true ∧ (0 : Int) ≤ aNow ∧ aNow ≤ (1000000000 : Int) then List.flatMap (fail1 aNow) aL else []) ((1 : Int) + (↑(cntTaskS (if tasksOk aL = true ∧ (0 : Int) ≤ aNow ∧ aNow ≤ (1000000000 : Int) then List.map (send1 aNow) aL else aL)) : Int) + (↑(cntCallS (if tasksOk aL = true ∧ (0 : Int) ≤ aNow ∧ aNow ≤ (1000000000 : Int) then List.flatMap (call1 aNow) aL else [])) : Int)))) : Int) else (-1 : Int)) < (0 : Int));
let x1 : Int := if markCallS (markCallS (if tasksOk aL = true ∧ (0 : Int) ≤ aNow ∧ aNow ≤ (1000000000 : Int) then List.flatMap (call1 aNow) aL else []) ((1 : Int) + (↑(cntTaskS (if tasksOk aL = true ∧ (0 : Int) ≤ aNow ∧ aNow ≤ (1000000000 : Int) then List.map (send1 aNow) aL else aL)) : Int))) (if markTaskS (markTaskS (if tasksOk aL = true ∧ (0 : Int) ≤ aNow ∧ aNow ≤ (1000000000 : Int) then List.map (send1 aNow) aL else aL) (1 : Int)) (1 : Int) = markTaskS (if tasksOk aL = true ∧ (0 : Int) ≤ aNow ∧ aNow ≤ (1000000000 : Int) then List.map (send1 aNow) aL else aL) (1 : Int) then (1 : Int) + (↑(cntTaskS (markTaskS (if tasksOk aL = true ∧ (0 : Int) ≤ aNow ∧ aNow ≤ (1000000000 : Int) then List.map (send1 aNow) aL else aL) (1 : Int))) : Int) else (-1 : Int)) = markCallS (if tasksOk aL = true ∧ (0 : Int) ≤ aNow ∧ aNow ≤ (1000000000 : Int) then List.flatMap (call1 aNow) aL else []) ((1 : Int) + (↑(cntTaskS (if tasksOk aL = true ∧ (0 : Int) ≤ aNow ∧ aNow ≤ (1000000000 : Int) then List.map (send1 aNow) aL else aL)) : Int)) then (if markTaskS (markTaskS (if tasksOk aL = true ∧ (0 : Int) ≤ aNow ∧ aNow ≤ (1000000000 : Int) then List.map (send1 aNow) aL else aL) (1 : Int)) (1 : Int) = markTaskS (if tasksOk aL = true ∧ (0 : Int) ≤ aNow ∧ aNow ≤ (1000000000 : Int) then List.map (send1 aNow) aL else aL) (1 : Int) then (1 : Int) + (↑(cntTaskS (markTaskS (if tasksOk aL = true ∧ (0 : Int) ≤ aNow ∧ aNow ≤ (1000000000 : Int) then List.map (send1 aNow) aL else aL) (1 : Int))) : Int) else (-1 : Int)) + (↑(cntCallS (markCallS (if tasksOk aL = true ∧ (0 : Int) ≤ aNow ∧ aNow ≤ (1000000000 : Int) then List.flatMap (call1 aNow) aL else []) ((1 : Int) + (↑(cntTaskS (if tasksOk aL = true ∧ (0 : Int) ≤ aNow ∧ aNow ≤ (1000000000 : Int) then List.map (send1 aNow) aL else aL)) : Int)))) : Int) else (-1 : Int);
let x2 : Bool := (if markStringS (markStringS (if tasksOk aL = true ∧ (0 : Int) ≤ aNow ∧ aNow ≤ (1000000000 : Int) then List.flatMap (fail1 aNow) aL else []) ((1 : Int) + (↑(cntTaskS (if tasksOk aL = true ∧ (0 : Int) ≤ aNow ∧ aNow ≤ (1000000000 : Int) then List.map (send1 aNow) aL else aL)) : Int) + (↑(cntCallS (if tasksOk aL = true ∧ (0 : Int) ≤ aNow ∧ aNow ≤ (1000000000 : Int) then List.flatMap (call1 aNow) aL else [])) : Int))) x1 = markStringS (if tasksOk aL = true ∧ (0 : Int) ≤ aNow ∧ aNow ≤ (1000000000 : Int) then List.flatMap (fail1 aNow) aL else []) ((1 : Int) + (↑(cntTaskS (if tasksOk aL = true ∧ (0 : Int) ≤ aNow ∧ aNow ≤ (1000000000 : Int) then List.map (send1 aNow) aL else aL)) : Int) + (↑(cntCallS (if tasksOk aL = true ∧ (0 : Int) ≤ aNow ∧ aNow ≤ (1000000000 : Int) then List.flatMap (call1 aNow) aL else [])) : Int)) then x1 + (↑(cntStringS (markStringS (if tasksOk aL = true ∧ (0 : Int) ≤ aNow ∧ aNow ≤ (1000000000 : Int) then List.flatMap (fail1 aNow) aL else []) ((1 : Int) + (↑(cntTaskS (if tasksOk aL = true ∧ (0 : Int) ≤ aNow ∧ aNow ≤ (1000000000 : Int) then List.map (send1 aNow) aL else aL)) : Int) + (↑(cntCallS (if tasksOk aL = true ∧ (0 : Int) ≤ aNow ∧ aNow ≤ (1000000000 : Int) then List.flatMap (call1 aNow) aL else [])) : Int)))) : Int) else (-1 : Int)) != (1 : Int) + (↑(cntTaskS (if tasksOk aL = true ∧ (0 : Int) ≤ aNow ∧ aNow ≤ (1000000000 : Int) then List.map (send1 aNow) aL else aL)) : Int) + (↑(cntCallS (if tasksOk aL = true ∧ (0 : Int) ≤ aNow ∧ aNow ≤ (1000000000 : Int) then List.flatMap (call1 aNow) aL else [])) : Int) + (↑(cntStringS (if tasksOk aL = true ∧ (0 : Int) ≤ aNow ∧ aNow ≤ (1000000000 : Int) then List.flatMap (fail1 aNow) aL else [])) : Int);
let x3 : Int := if markTaskS (markTaskS (if tasksOk aL = true ∧ (0 : Int) ≤ aNow ∧ aNow ≤ (1000000000 : Int) then List.map (send1 aNow) aL else aL) (1 : Int)) (1 : Int) = markTaskS (if tasksOk aL = true ∧ (0 : Int) ≤ aNow ∧ aNow ≤ (1000000000 : Int) then List.map (send1 aNow) aL else aL) (1 : Int) then (1 : Int) + (↑(cntTaskS (markTaskS (if tasksOk aL = true ∧ (0 : Int) ≤ aNow ∧ aNow ≤ (1000000000 : Int) then List.map (send1 aNow) aL else aL) (1 : Int))) : Int) else (-1 : Int);
let x4 : Int := (1 : Int) + (↑(cntTaskS (if tasksOk aL = true ∧ (0 : Int) ≤ aNow ∧ aNow ≤ (1000000000 : Int) then List.map (send1 aNow) aL else aL)) : Int) + (↑(cntCallS (if tasksOk aL = true ∧ (0 : Int) ≤ aNow ∧ aNow ≤ (1000000000 : Int) then List.flatMap (call1 aNow) aL else [])) : Int);
let x5 : Bool := !decide ((if tasksOk aL = true ∧ (0 : Int) ≤ aNow ∧ aNow ≤ (1000000000 : Int) then List.flatMap (fail1 aNow) aL else []) = if tasksOk aL = true ∧ (0 : Int) ≤ aNow ∧ aNow ≤ (1000000000 : Int) then List.flatMap (fail1 aNow) aL else []);
let x6 : Bool := !decide ((if tasksOk aL = true ∧ (0 : Int) ≤ aNow ∧ aNow ≤ (1000000000 : Int) then List.flatMap (call1 aNow) aL else []) = if tasksOk aL = true ∧ (0 : Int) ≤ aNow ∧ aNow ≤ (1000000000 : Int) then List.flatMap (call1 aNow) aL else []);
let x7 : Bool := !decide ((if tasksOk aL = true ∧ (0 : Int) ≤ aNow ∧ aNow ≤ (1000000000 : Int) then List.map (send1 aNow) aL else aL) = if tasksOk aL = true ∧ (0 : Int) ≤ aNow ∧ aNow ≤ (1000000000 : Int) then List.map (send1 aNow) aL else aL);
let x8 : Int := (1 : Int) + (↑(cntTaskS (if tasksOk aL = true ∧ (0 : Int) ≤ aNow ∧ aNow ≤ (1000000000 : Int) then List.map (send1 aNow) aL else aL)) : Int);
let x9 : List ByteArray := if tasksOk aL = true ∧ (0 : Int) ≤ aNow ∧ aNow ≤ (1000000000 : Int) then List.flatMap (fail1 aNow) aL else [];
(0 : Int) ≤ (1048576 : Int) ∧ bif decide (szr (1048576 : Int) (sizeTaskS aL) < (0 : Int)) then Lf [DV.one (Cell.lit (Value.bool true))] [DV.one (Cell.lit (Value.bool true))] else sizeTaskS aL ≤ (4294967296 : Nat) ∧ sizeTaskS aL ≤ (4294967296 : Nat) ∧ sizeTaskS aL ≤ (4294967296 : Nat) ∧ sizeTaskS aL ≤ (4294967296 : Nat) ∧ bif x7 then Lf [DV.one (Cell.lit (Value.bool false))] [DV.one (Cell.lit (Value.bool true))] else bif x6 then Lf [DV.one (Cell.lit (Value.bool false))] [DV.one (Cell.lit (Value.bool true))] else bif x5 then Lf [DV.one (Cell.lit (Value.bool false))] [DV.one (Cell.lit (Value.bool true))] else sizeTaskS aL ≤ (4294967296 : Nat) ∧ bif !decide (aL = aL) then Lf [DV.one (Cell.lit (Value.bool false))] [DV.one (Cell.lit (Value.bool true))] else (0 : Int) ≤ (1 : Int) ∧ (1 : Int) + (↑(cntTaskS aL) : Int) ≤ (4611686018427387904 : Int) ∧ bif x7 then Lf [DV.one (Cell.lit (Value.bool false))] [DV.one (Cell.lit (Value.bool true))] else bif x6 then Lf [DV.one (Cell.lit (Value.bool false))] [DV.one (Cell.lit (Value.bool true))] else bif x5 then Lf [DV.one (Cell.lit (Value.bool false))] [DV.one (Cell.lit (Value.bool true))] else (0 : Int) ≤ (1 : Int) ∧ x8 ≤ (4611686018427387904 : Int) ∧ (0 : Int) ≤ x8 ∧ x4 ≤ (4611686018427387904 : Int) ∧ (0 : Int) ≤ x4 ∧ x4 + (↑(cntStringS x9) : Int) ≤ (4611686018427387904 : Int) ∧ (0 : Int) ≤ (1 : Int) ∧ (1 : Int) + (↑(cntTaskS (markTaskS (if tasksOk aL = true ∧ (0 : Int) ≤ aNow ∧ aNow ≤ (1000000000 : Int) then List.map (send1 aNow) aL else aL) (1 : Int))) : Int) ≤ (4611686018427387904 : Int) ∧ bif decide (x3 < (0 : Int)) then Lf [DV.one (Cell.lit (Value.bool false))] [DV.one (Cell.lit (Value.bool true))] else (0 : Int) ≤ x3 ∧ x3 + (↑(cntCallS (markCallS (if tasksOk aL = true ∧ (0 : Int) ≤ aNow ∧ aNow ≤ (1000000000 : Int) then List.flatMap (call1 aNow) aL else []) x8)) : Int) ≤ (4611686018427387904 : Int) ∧ bif decide (x1 < (0 : Int)) then Lf [DV.one (Cell.lit (Value.bool false))] [DV.one (Cell.lit (Value.bool true))] else (0 : Int) ≤ x1 ∧ x1 + (↑(cntStringS (markStringS x9 x4)) : Int) ≤ (4611686018427387904 : Int) ∧ bif x0 then Lf [DV.one (Cell.lit (Value.bool false))] [DV.one (Cell.lit (Value.bool true))] else bif x2 then Lf [DV.one (Cell.lit (Value.bool false))] [DV.one (Cell.lit (Value.bool true))] else sizeTaskS aL ≤ (4294967296 : Nat) ∧ sizeTaskS aL ≤ (4294967296 : Nat) ∧ bif x7 then Lf [DV.one (Cell.lit (Value.bool false))] [DV.one (Cell.lit (Value.bool true))] else bif x6 then Lf [DV.one (Cell.lit (Value.bool false))] [DV.one (Cell.lit (Value.bool true))] else bif x5 then Lf [DV.one (Cell.lit (Value.bool false))] [DV.one (Cell.lit (Value.bool true))] else (0 : Int) ≤ (1 : Int) ∧ (1 : Int) + (↑(cntTaskS (markTaskS (if tasksOk aL = true ∧ (0 : Int) ≤ aNow ∧ aNow ≤ (1000000000 : Int) then List.map (send1 aNow) aL else aL) (1 : Int))) : Int) ≤ (4611686018427387904 : Int) ∧ bif decide (x3 < (0 : Int)) then Lf [DV.one (Cell.lit (Value.bool false))] [DV.one (Cell.lit (Value.bool true))] else (0 : Int) ≤ x3 ∧ x3 + (↑(cntCallS (markCallS (if tasksOk aL = true ∧ (0 : Int) ≤ aNow ∧ aNow ≤ (1000000000 : Int) then List.flatMap (call1 aNow) aL else []) x8)) : Int) ≤ (4611686018427387904 : Int) ∧ bif decide (x1 < (0 : Int)) then Lf [DV.one (Cell.lit (Value.bool false))] [DV.one (Cell.lit (Value.bool true))] else (0 : Int) ≤ x1 ∧ x1 + (↑(cntStringS (markStringS x9 x4)) : Int) ≤ (4611686018427387904 : Int) ∧ bif x0 then Lf [DV.one (Cell.lit (Value.bool false))] [DV.one (Cell.lit (Value.bool true))] else bif x2 then Lf [DV.one (Cell.lit (Value.bool false))] [DV.one (Cell.lit (Value.bool true))] else Lf [DV.one (Cell.lit (Value.bool true))] [DV.one (Cell.lit (Value.bool true))]) := by kernel_rfl
theorem ok_laws_FnExactSendDue : Holds EE (5, con_laws_FnExactSendDue) := by
  refine holds_of EE_ok Go.Proofs.Tryd.func5 con_laws_FnExactSendDue (by kernel_rfl) rfl use_laws_FnExactSendDue (all_cons ok_laws_szTaskS (all_cons ok_laws_toTaskS (all_cons ok_spec_SendDue (all_cons ok_impl_SendDue (all_cons ok_laws_eqTaskS (all_cons ok_laws_eqCallS (all_cons ok_laws_eqStringS (all_cons ok_laws_markTaskS (all_cons ok_laws_markCallS (all_cons ok_laws_markStringS (all_cons ok_laws_heldTaskS (all_cons ok_laws_heldCallS (all_cons ok_laws_heldStringS all_nil))))))))))))) ann_laws_FnExactSendDue (fun x hp hb => ?_)
  obtain ⟨aL, aNow⟩ := x
  have hb_aL : BdDV (U := UU) (.one (.sl .lTask aL)) := hb _ (List.mem_cons_self)
  have hl_aL : aL.length ≤ 9223372036854775807 := Bd.len hb_aL
  have hb_aNow : BdDV (U := UU) (.one (.lit (.int .i64 aNow))) := hb _ (List.mem_cons_of_mem _ (List.mem_cons_self))
  have hl_aNow := Bd.i64 hb_aNow
  clear hp hb
  rw [vc_laws_FnExactSendDue aL aNow]
  dsimp only
  refine ⟨by omega, if_cond (fun h => Lf_rfl _) (fun h => ?_)⟩
  obtain ⟨e0, h0⟩ := szr_pos h
  have hc := cntTaskS_le aL
  have hc2 : cntTaskS (if tasksOk aL = true ∧ 0 ≤ aNow ∧ aNow ≤ 1000000000 then aL.map (send1 aNow) else aL) = cntTaskS aL := by
    split
    · exact send1_ct aNow aL
    · rfl
  have hc3 : cntCallS (if tasksOk aL = true ∧ 0 ≤ aNow ∧ aNow ≤ 1000000000 then aL.flatMap (call1 aNow) else []) ≤ cntTaskS aL := by
    split
    · exact call1_ct aNow aL
    · exact Nat.zero_le _
  have hc4 : cntStringS (if tasksOk aL = true ∧ 0 ≤ aNow ∧ aNow ≤ 1000000000 then aL.flatMap (fail1 aNow) else []) ≤ cntTaskS aL := by
    split
    · exact fail1_ct aNow aL
    · exact Nat.zero_le _
  generalize (if tasksOk aL = true ∧ 0 ≤ aNow ∧ aNow ≤ 1000000000 then aL.map (send1 aNow) else aL) = R at *
  generalize (if tasksOk aL = true ∧ 0 ≤ aNow ∧ aNow ≤ 1000000000 then aL.flatMap (call1 aNow) else []) = C at *
  generalize (if tasksOk aL = true ∧ 0 ≤ aNow ∧ aNow ≤ 1000000000 then aL.flatMap (fail1 aNow) else []) = G at *
  simp only [markTaskS_idem, markTaskS_ct, markCallS_idem, markCallS_ct, markStringS_idem, markStringS_ct, if_true]
  repeat' (first | exact Lf_rfl _ | refine And.intro (by omega) ?_ | refine if_cond (fun h => absurd h (by first | (simp; done) | (simp; omega))) (fun h => ?_) | fail)
end
end AM
