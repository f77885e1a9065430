/- THE DATA TYPES OF THE PROGRAM: written by gen/types.py. A code with an l ahead is the mirror type of the package laws. -/
import Derived.Test.YtmoijfaceanakaaGreatAmCore
namespace AM
open Go
noncomputable section
structure DVal where
 K:Int
 N:Int
 S:ByteArray
structure DFact where
 Kind:ByteArray
 Fields:List DVal
structure DItem where
 Id:Int
 F:DFact
structure DStore where
 Items:List DItem
 Next:Int
structure DToken where
 K:Int
 N:Int
 S:ByteArray
structure DArg where
 K:Int
 S:ByteArray
 V:DVal
structure DPat where
 Kind:ByteArray
 Args:List DArg
 Not:Bool
structure DBind where
 Name:ByteArray
 V:DVal
structure DCond where
 Op:Int
 L:DArg
 R:DArg
structure DExpr where
 Op:ByteArray
 L:DArg
 R:DArg
structure DAct where
 Kind:Int
 Name:ByteArray
 Args:List DExpr
 N:Int
 Undo:ByteArray
structure DRule where
 Name:ByteArray
 Sal:Int
 Pats:List DPat
 Conds:List DCond
 Acts:List DAct
structure DDef where
 Name:ByteArray
 Rules:List DRule
structure DMatch where
 Rule:Int
 Ids:List Int
 Binds:List DBind
structure DAlpha where
 Kind:ByteArray
 N:Int
 Consts:List DVal
 At:List Int
structure DChain where
 Pos:List Int
 Neg:List Int
structure DNet where
 Alphas:List DAlpha
 Chains:List DChain
structure DIds where
 L:List Int
structure DTok where
 Ids:List Int
 Hits:List Int
structure DLevel where
 Toks:List DTok
structure DRow where
 Levels:List DLevel
structure DMem where
 Alphas:List DIds
 Rules:List DRow
structure DEffect where
 Kind:Int
 F:DFact
 Id:Int
 N:Int
 Undo:ByteArray
structure DTimer where
 At:Int
 F:DFact
structure DTask where
 F:DFact
 Undo:ByteArray
 State:Int
 Tries:Int
 Due:Int
 V:DVal
structure DCall where
 Key:ByteArray
 F:DFact
 Try:Int
structure DUndo where
 Key:ByteArray
 F:DFact
structure DInst where
 S:DStore
 Fired:List DMatch
 Tasks:List DTask
 Timers:List DTimer
 Undos:List DUndo
 State:Int
 Now:Int
structure DRun where
 X:DInst
 M:DMem
structure DOp where
 Kind:Int
 Name:ByteArray
 Text:ByteArray
 F:DFact
 Key:ByteArray
 Ok:Bool
 V:DVal
 N:Int
structure DWork where
 Name:ByteArray
 Def:ByteArray
 X:DInst
structure DBook where
 Defs:List DDef
 Works:List DWork
 Now:Int
 Ring:Int
structure DSent where
 Name:ByteArray
 C:DCall
inductive Cd where
 |int|byte|str|eVal|lVal|eFact|lFact|eItem|lItem|eStore|lStore|eToken|lToken|eArg|lArg|ePat|lPat|eBind|lBind|eCond|lCond|eExpr|lExpr|eAct|lAct|eRule|lRule|eDef|lDef|eMatch|lMatch|eAlpha|lAlpha|eChain|lChain|eNet|lNet|eIds|lIds|eTok|lTok|eLevel|lLevel|eRow|lRow|eMem|lMem|eEffect|lEffect|eTimer|lTimer|eTask|lTask|eCall|lCall|eUndo|lUndo|eInst|lInst|eRun|lRun|eOp|lOp|eWork|lWork|eBook|lBook|eSent|lSent
 deriving DecidableEq
noncomputable def Cd.T:Cd→Type
 | .int=>Int
 | .byte=>Int
 | .str=>ByteArray
 | .eVal=>DVal
 | .lVal=>DVal
 | .eFact=>DFact
 | .lFact=>DFact
 | .eItem=>DItem
 | .lItem=>DItem
 | .eStore=>DStore
 | .lStore=>DStore
 | .eToken=>DToken
 | .lToken=>DToken
 | .eArg=>DArg
 | .lArg=>DArg
 | .ePat=>DPat
 | .lPat=>DPat
 | .eBind=>DBind
 | .lBind=>DBind
 | .eCond=>DCond
 | .lCond=>DCond
 | .eExpr=>DExpr
 | .lExpr=>DExpr
 | .eAct=>DAct
 | .lAct=>DAct
 | .eRule=>DRule
 | .lRule=>DRule
 | .eDef=>DDef
 | .lDef=>DDef
 | .eMatch=>DMatch
 | .lMatch=>DMatch
 | .eAlpha=>DAlpha
 | .lAlpha=>DAlpha
 | .eChain=>DChain
 | .lChain=>DChain
 | .eNet=>DNet
 | .lNet=>DNet
 | .eIds=>DIds
 | .lIds=>DIds
 | .eTok=>DTok
 | .lTok=>DTok
 | .eLevel=>DLevel
 | .lLevel=>DLevel
 | .eRow=>DRow
 | .lRow=>DRow
 | .eMem=>DMem
 | .lMem=>DMem
 | .eEffect=>DEffect
 | .lEffect=>DEffect
 | .eTimer=>DTimer
 | .lTimer=>DTimer
 | .eTask=>DTask
 | .lTask=>DTask
 | .eCall=>DCall
 | .lCall=>DCall
 | .eUndo=>DUndo
 | .lUndo=>DUndo
 | .eInst=>DInst
 | .lInst=>DInst
 | .eRun=>DRun
 | .lRun=>DRun
 | .eOp=>DOp
 | .lOp=>DOp
 | .eWork=>DWork
 | .lWork=>DWork
 | .eBook=>DBook
 | .lBook=>DBook
 | .eSent=>DSent
 | .lSent=>DSent
abbrev CC:=Cell Cd Cd.T
noncomputable def noBytes:ByteArray:=ByteArray.empty
noncomputable def Cd.wd:Cd→Nat
 | .int=>1
 | .byte=>1
 | .str=>1
 | .eVal=>3
 | .lVal=>3
 | .eFact=>2
 | .lFact=>2
 | .eItem=>3
 | .lItem=>3
 | .eStore=>2
 | .lStore=>2
 | .eToken=>3
 | .lToken=>3
 | .eArg=>5
 | .lArg=>5
 | .ePat=>3
 | .lPat=>3
 | .eBind=>4
 | .lBind=>4
 | .eCond=>11
 | .lCond=>11
 | .eExpr=>11
 | .lExpr=>11
 | .eAct=>5
 | .lAct=>5
 | .eRule=>5
 | .lRule=>5
 | .eDef=>2
 | .lDef=>2
 | .eMatch=>3
 | .lMatch=>3
 | .eAlpha=>4
 | .lAlpha=>4
 | .eChain=>2
 | .lChain=>2
 | .eNet=>2
 | .lNet=>2
 | .eIds=>1
 | .lIds=>1
 | .eTok=>2
 | .lTok=>2
 | .eLevel=>1
 | .lLevel=>1
 | .eRow=>1
 | .lRow=>1
 | .eMem=>2
 | .lMem=>2
 | .eEffect=>6
 | .lEffect=>6
 | .eTimer=>3
 | .lTimer=>3
 | .eTask=>9
 | .lTask=>9
 | .eCall=>4
 | .lCall=>4
 | .eUndo=>3
 | .lUndo=>3
 | .eInst=>8
 | .lInst=>8
 | .eRun=>10
 | .lRun=>10
 | .eOp=>11
 | .lOp=>11
 | .eWork=>10
 | .lWork=>10
 | .eBook=>4
 | .lBook=>4
 | .eSent=>5
 | .lSent=>5
noncomputable def enc_int(x:Int):List CC:=[.lit (.int .i64 x)]
noncomputable def dec_int(cs:List CC):Option (Int):=match cs with
 |[.lit (.int .i64 a0)]=>some a0
 |_=>none
theorem ok_int(cs:List CC)(x:Int)(h:dec_int cs=some x):enc_int x=cs:=by
 unfold dec_int at h;split at h<;>cases h;rfl
noncomputable def enc_byte(x:Int):List CC:=[.lit (.int .u8 x)]
noncomputable def dec_byte(cs:List CC):Option (Int):=match cs with
 |[.lit (.int .u8 a0)]=>some a0
 |_=>none
theorem ok_byte(cs:List CC)(x:Int)(h:dec_byte cs=some x):enc_byte x=cs:=by
 unfold dec_byte at h;split at h<;>cases h;rfl
noncomputable def enc_str(x:ByteArray):List CC:=[.lit (.string x)]
noncomputable def dec_str(cs:List CC):Option (ByteArray):=match cs with
 |[.lit (.string a0)]=>some a0
 |_=>none
theorem ok_str(cs:List CC)(x:ByteArray)(h:dec_str cs=some x):enc_str x=cs:=by
 unfold dec_str at h;split at h<;>cases h;rfl
noncomputable def enc_eVal(x:DVal):List CC:=[.lit (.int .i64 x.K),.lit (.int .i64 x.N),.lit (.string x.S)]
noncomputable def dec_eVal(cs:List CC):Option (DVal):=match cs with
 |[.lit (.int .i64 a0),.lit (.int .i64 a1),.lit (.string a2)]=>some ⟨a0,a1,a2⟩
 |_=>none
theorem ok_eVal(cs:List CC)(x:DVal)(h:dec_eVal cs=some x):enc_eVal x=cs:=by
 unfold dec_eVal at h;split at h<;>cases h;rfl
noncomputable def enc_lVal(x:DVal):List CC:=[.lit (.int .i64 x.K),.lit (.int .i64 x.N),.lit (.string x.S)]
noncomputable def dec_lVal(cs:List CC):Option (DVal):=match cs with
 |[.lit (.int .i64 a0),.lit (.int .i64 a1),.lit (.string a2)]=>some ⟨a0,a1,a2⟩
 |_=>none
theorem ok_lVal(cs:List CC)(x:DVal)(h:dec_lVal cs=some x):enc_lVal x=cs:=by
 unfold dec_lVal at h;split at h<;>cases h;rfl
noncomputable def enc_eFact(x:DFact):List CC:=[.lit (.string x.Kind),.sl .eVal x.Fields]
noncomputable def dec_eFact(cs:List CC):Option (DFact):=match cs with
 |[.lit (.string a0),.sl .eVal a1]=>some ⟨a0,a1⟩
 |_=>none
theorem ok_eFact(cs:List CC)(x:DFact)(h:dec_eFact cs=some x):enc_eFact x=cs:=by
 unfold dec_eFact at h;split at h<;>cases h;rfl
noncomputable def enc_lFact(x:DFact):List CC:=[.lit (.string x.Kind),.sl .lVal x.Fields]
noncomputable def dec_lFact(cs:List CC):Option (DFact):=match cs with
 |[.lit (.string a0),.sl .lVal a1]=>some ⟨a0,a1⟩
 |_=>none
theorem ok_lFact(cs:List CC)(x:DFact)(h:dec_lFact cs=some x):enc_lFact x=cs:=by
 unfold dec_lFact at h;split at h<;>cases h;rfl
noncomputable def enc_eItem(x:DItem):List CC:=[.lit (.int .i64 x.Id),.lit (.string x.F.Kind),.sl .eVal x.F.Fields]
noncomputable def dec_eItem(cs:List CC):Option (DItem):=match cs with
 |[.lit (.int .i64 a0),.lit (.string a1),.sl .eVal a2]=>some ⟨a0,⟨a1,a2⟩⟩
 |_=>none
theorem ok_eItem(cs:List CC)(x:DItem)(h:dec_eItem cs=some x):enc_eItem x=cs:=by
 unfold dec_eItem at h;split at h<;>cases h;rfl
noncomputable def enc_lItem(x:DItem):List CC:=[.lit (.int .i64 x.Id),.lit (.string x.F.Kind),.sl .lVal x.F.Fields]
noncomputable def dec_lItem(cs:List CC):Option (DItem):=match cs with
 |[.lit (.int .i64 a0),.lit (.string a1),.sl .lVal a2]=>some ⟨a0,⟨a1,a2⟩⟩
 |_=>none
theorem ok_lItem(cs:List CC)(x:DItem)(h:dec_lItem cs=some x):enc_lItem x=cs:=by
 unfold dec_lItem at h;split at h<;>cases h;rfl
noncomputable def enc_eStore(x:DStore):List CC:=[.sl .eItem x.Items,.lit (.int .i64 x.Next)]
noncomputable def dec_eStore(cs:List CC):Option (DStore):=match cs with
 |[.sl .eItem a0,.lit (.int .i64 a1)]=>some ⟨a0,a1⟩
 |_=>none
theorem ok_eStore(cs:List CC)(x:DStore)(h:dec_eStore cs=some x):enc_eStore x=cs:=by
 unfold dec_eStore at h;split at h<;>cases h;rfl
noncomputable def enc_lStore(x:DStore):List CC:=[.sl .lItem x.Items,.lit (.int .i64 x.Next)]
noncomputable def dec_lStore(cs:List CC):Option (DStore):=match cs with
 |[.sl .lItem a0,.lit (.int .i64 a1)]=>some ⟨a0,a1⟩
 |_=>none
theorem ok_lStore(cs:List CC)(x:DStore)(h:dec_lStore cs=some x):enc_lStore x=cs:=by
 unfold dec_lStore at h;split at h<;>cases h;rfl
noncomputable def enc_eToken(x:DToken):List CC:=[.lit (.int .i64 x.K),.lit (.int .i64 x.N),.lit (.string x.S)]
noncomputable def dec_eToken(cs:List CC):Option (DToken):=match cs with
 |[.lit (.int .i64 a0),.lit (.int .i64 a1),.lit (.string a2)]=>some ⟨a0,a1,a2⟩
 |_=>none
theorem ok_eToken(cs:List CC)(x:DToken)(h:dec_eToken cs=some x):enc_eToken x=cs:=by
 unfold dec_eToken at h;split at h<;>cases h;rfl
noncomputable def enc_lToken(x:DToken):List CC:=[.lit (.int .i64 x.K),.lit (.int .i64 x.N),.lit (.string x.S)]
noncomputable def dec_lToken(cs:List CC):Option (DToken):=match cs with
 |[.lit (.int .i64 a0),.lit (.int .i64 a1),.lit (.string a2)]=>some ⟨a0,a1,a2⟩
 |_=>none
theorem ok_lToken(cs:List CC)(x:DToken)(h:dec_lToken cs=some x):enc_lToken x=cs:=by
 unfold dec_lToken at h;split at h<;>cases h;rfl
noncomputable def enc_eArg(x:DArg):List CC:=[.lit (.int .i64 x.K),.lit (.string x.S),.lit (.int .i64 x.V.K),.lit (.int .i64 x.V.N),.lit (.string x.V.S)]
noncomputable def dec_eArg(cs:List CC):Option (DArg):=match cs with
 |[.lit (.int .i64 a0),.lit (.string a1),.lit (.int .i64 a2),.lit (.int .i64 a3),.lit (.string a4)]=>some ⟨a0,a1,⟨a2,a3,a4⟩⟩
 |_=>none
theorem ok_eArg(cs:List CC)(x:DArg)(h:dec_eArg cs=some x):enc_eArg x=cs:=by
 unfold dec_eArg at h;split at h<;>cases h;rfl
noncomputable def enc_lArg(x:DArg):List CC:=[.lit (.int .i64 x.K),.lit (.string x.S),.lit (.int .i64 x.V.K),.lit (.int .i64 x.V.N),.lit (.string x.V.S)]
noncomputable def dec_lArg(cs:List CC):Option (DArg):=match cs with
 |[.lit (.int .i64 a0),.lit (.string a1),.lit (.int .i64 a2),.lit (.int .i64 a3),.lit (.string a4)]=>some ⟨a0,a1,⟨a2,a3,a4⟩⟩
 |_=>none
theorem ok_lArg(cs:List CC)(x:DArg)(h:dec_lArg cs=some x):enc_lArg x=cs:=by
 unfold dec_lArg at h;split at h<;>cases h;rfl
noncomputable def enc_ePat(x:DPat):List CC:=[.lit (.string x.Kind),.sl .eArg x.Args,.lit (.bool x.Not)]
noncomputable def dec_ePat(cs:List CC):Option (DPat):=match cs with
 |[.lit (.string a0),.sl .eArg a1,.lit (.bool a2)]=>some ⟨a0,a1,a2⟩
 |_=>none
theorem ok_ePat(cs:List CC)(x:DPat)(h:dec_ePat cs=some x):enc_ePat x=cs:=by
 unfold dec_ePat at h;split at h<;>cases h;rfl
noncomputable def enc_lPat(x:DPat):List CC:=[.lit (.string x.Kind),.sl .lArg x.Args,.lit (.bool x.Not)]
noncomputable def dec_lPat(cs:List CC):Option (DPat):=match cs with
 |[.lit (.string a0),.sl .lArg a1,.lit (.bool a2)]=>some ⟨a0,a1,a2⟩
 |_=>none
theorem ok_lPat(cs:List CC)(x:DPat)(h:dec_lPat cs=some x):enc_lPat x=cs:=by
 unfold dec_lPat at h;split at h<;>cases h;rfl
noncomputable def enc_eBind(x:DBind):List CC:=[.lit (.string x.Name),.lit (.int .i64 x.V.K),.lit (.int .i64 x.V.N),.lit (.string x.V.S)]
noncomputable def dec_eBind(cs:List CC):Option (DBind):=match cs with
 |[.lit (.string a0),.lit (.int .i64 a1),.lit (.int .i64 a2),.lit (.string a3)]=>some ⟨a0,⟨a1,a2,a3⟩⟩
 |_=>none
theorem ok_eBind(cs:List CC)(x:DBind)(h:dec_eBind cs=some x):enc_eBind x=cs:=by
 unfold dec_eBind at h;split at h<;>cases h;rfl
noncomputable def enc_lBind(x:DBind):List CC:=[.lit (.string x.Name),.lit (.int .i64 x.V.K),.lit (.int .i64 x.V.N),.lit (.string x.V.S)]
noncomputable def dec_lBind(cs:List CC):Option (DBind):=match cs with
 |[.lit (.string a0),.lit (.int .i64 a1),.lit (.int .i64 a2),.lit (.string a3)]=>some ⟨a0,⟨a1,a2,a3⟩⟩
 |_=>none
theorem ok_lBind(cs:List CC)(x:DBind)(h:dec_lBind cs=some x):enc_lBind x=cs:=by
 unfold dec_lBind at h;split at h<;>cases h;rfl
noncomputable def enc_eCond(x:DCond):List CC:=[.lit (.int .i64 x.Op),.lit (.int .i64 x.L.K),.lit (.string x.L.S),.lit (.int .i64 x.L.V.K),.lit (.int .i64 x.L.V.N),.lit (.string x.L.V.S),.lit (.int .i64 x.R.K),.lit (.string x.R.S),.lit (.int .i64 x.R.V.K),.lit (.int .i64 x.R.V.N),.lit (.string x.R.V.S)]
noncomputable def dec_eCond(cs:List CC):Option (DCond):=match cs with
 |[.lit (.int .i64 a0),.lit (.int .i64 a1),.lit (.string a2),.lit (.int .i64 a3),.lit (.int .i64 a4),.lit (.string a5),.lit (.int .i64 a6),.lit (.string a7),.lit (.int .i64 a8),.lit (.int .i64 a9),.lit (.string a10)]=>some ⟨a0,⟨a1,a2,⟨a3,a4,a5⟩⟩,⟨a6,a7,⟨a8,a9,a10⟩⟩⟩
 |_=>none
theorem ok_eCond(cs:List CC)(x:DCond)(h:dec_eCond cs=some x):enc_eCond x=cs:=by
 unfold dec_eCond at h;split at h<;>cases h;rfl
noncomputable def enc_lCond(x:DCond):List CC:=[.lit (.int .i64 x.Op),.lit (.int .i64 x.L.K),.lit (.string x.L.S),.lit (.int .i64 x.L.V.K),.lit (.int .i64 x.L.V.N),.lit (.string x.L.V.S),.lit (.int .i64 x.R.K),.lit (.string x.R.S),.lit (.int .i64 x.R.V.K),.lit (.int .i64 x.R.V.N),.lit (.string x.R.V.S)]
noncomputable def dec_lCond(cs:List CC):Option (DCond):=match cs with
 |[.lit (.int .i64 a0),.lit (.int .i64 a1),.lit (.string a2),.lit (.int .i64 a3),.lit (.int .i64 a4),.lit (.string a5),.lit (.int .i64 a6),.lit (.string a7),.lit (.int .i64 a8),.lit (.int .i64 a9),.lit (.string a10)]=>some ⟨a0,⟨a1,a2,⟨a3,a4,a5⟩⟩,⟨a6,a7,⟨a8,a9,a10⟩⟩⟩
 |_=>none
theorem ok_lCond(cs:List CC)(x:DCond)(h:dec_lCond cs=some x):enc_lCond x=cs:=by
 unfold dec_lCond at h;split at h<;>cases h;rfl
noncomputable def enc_eExpr(x:DExpr):List CC:=[.lit (.string x.Op),.lit (.int .i64 x.L.K),.lit (.string x.L.S),.lit (.int .i64 x.L.V.K),.lit (.int .i64 x.L.V.N),.lit (.string x.L.V.S),.lit (.int .i64 x.R.K),.lit (.string x.R.S),.lit (.int .i64 x.R.V.K),.lit (.int .i64 x.R.V.N),.lit (.string x.R.V.S)]
noncomputable def dec_eExpr(cs:List CC):Option (DExpr):=match cs with
 |[.lit (.string a0),.lit (.int .i64 a1),.lit (.string a2),.lit (.int .i64 a3),.lit (.int .i64 a4),.lit (.string a5),.lit (.int .i64 a6),.lit (.string a7),.lit (.int .i64 a8),.lit (.int .i64 a9),.lit (.string a10)]=>some ⟨a0,⟨a1,a2,⟨a3,a4,a5⟩⟩,⟨a6,a7,⟨a8,a9,a10⟩⟩⟩
 |_=>none
theorem ok_eExpr(cs:List CC)(x:DExpr)(h:dec_eExpr cs=some x):enc_eExpr x=cs:=by
 unfold dec_eExpr at h;split at h<;>cases h;rfl
noncomputable def enc_lExpr(x:DExpr):List CC:=[.lit (.string x.Op),.lit (.int .i64 x.L.K),.lit (.string x.L.S),.lit (.int .i64 x.L.V.K),.lit (.int .i64 x.L.V.N),.lit (.string x.L.V.S),.lit (.int .i64 x.R.K),.lit (.string x.R.S),.lit (.int .i64 x.R.V.K),.lit (.int .i64 x.R.V.N),.lit (.string x.R.V.S)]
noncomputable def dec_lExpr(cs:List CC):Option (DExpr):=match cs with
 |[.lit (.string a0),.lit (.int .i64 a1),.lit (.string a2),.lit (.int .i64 a3),.lit (.int .i64 a4),.lit (.string a5),.lit (.int .i64 a6),.lit (.string a7),.lit (.int .i64 a8),.lit (.int .i64 a9),.lit (.string a10)]=>some ⟨a0,⟨a1,a2,⟨a3,a4,a5⟩⟩,⟨a6,a7,⟨a8,a9,a10⟩⟩⟩
 |_=>none
theorem ok_lExpr(cs:List CC)(x:DExpr)(h:dec_lExpr cs=some x):enc_lExpr x=cs:=by
 unfold dec_lExpr at h;split at h<;>cases h;rfl
noncomputable def enc_eAct(x:DAct):List CC:=[.lit (.int .i64 x.Kind),.lit (.string x.Name),.sl .eExpr x.Args,.lit (.int .i64 x.N),.lit (.string x.Undo)]
noncomputable def dec_eAct(cs:List CC):Option (DAct):=match cs with
 |[.lit (.int .i64 a0),.lit (.string a1),.sl .eExpr a2,.lit (.int .i64 a3),.lit (.string a4)]=>some ⟨a0,a1,a2,a3,a4⟩
 |_=>none
theorem ok_eAct(cs:List CC)(x:DAct)(h:dec_eAct cs=some x):enc_eAct x=cs:=by
 unfold dec_eAct at h;split at h<;>cases h;rfl
noncomputable def enc_lAct(x:DAct):List CC:=[.lit (.int .i64 x.Kind),.lit (.string x.Name),.sl .lExpr x.Args,.lit (.int .i64 x.N),.lit (.string x.Undo)]
noncomputable def dec_lAct(cs:List CC):Option (DAct):=match cs with
 |[.lit (.int .i64 a0),.lit (.string a1),.sl .lExpr a2,.lit (.int .i64 a3),.lit (.string a4)]=>some ⟨a0,a1,a2,a3,a4⟩
 |_=>none
theorem ok_lAct(cs:List CC)(x:DAct)(h:dec_lAct cs=some x):enc_lAct x=cs:=by
 unfold dec_lAct at h;split at h<;>cases h;rfl
noncomputable def enc_eRule(x:DRule):List CC:=[.lit (.string x.Name),.lit (.int .i64 x.Sal),.sl .ePat x.Pats,.sl .eCond x.Conds,.sl .eAct x.Acts]
noncomputable def dec_eRule(cs:List CC):Option (DRule):=match cs with
 |[.lit (.string a0),.lit (.int .i64 a1),.sl .ePat a2,.sl .eCond a3,.sl .eAct a4]=>some ⟨a0,a1,a2,a3,a4⟩
 |_=>none
theorem ok_eRule(cs:List CC)(x:DRule)(h:dec_eRule cs=some x):enc_eRule x=cs:=by
 unfold dec_eRule at h;split at h<;>cases h;rfl
noncomputable def enc_lRule(x:DRule):List CC:=[.lit (.string x.Name),.lit (.int .i64 x.Sal),.sl .lPat x.Pats,.sl .lCond x.Conds,.sl .lAct x.Acts]
noncomputable def dec_lRule(cs:List CC):Option (DRule):=match cs with
 |[.lit (.string a0),.lit (.int .i64 a1),.sl .lPat a2,.sl .lCond a3,.sl .lAct a4]=>some ⟨a0,a1,a2,a3,a4⟩
 |_=>none
theorem ok_lRule(cs:List CC)(x:DRule)(h:dec_lRule cs=some x):enc_lRule x=cs:=by
 unfold dec_lRule at h;split at h<;>cases h;rfl
noncomputable def enc_eDef(x:DDef):List CC:=[.lit (.string x.Name),.sl .eRule x.Rules]
noncomputable def dec_eDef(cs:List CC):Option (DDef):=match cs with
 |[.lit (.string a0),.sl .eRule a1]=>some ⟨a0,a1⟩
 |_=>none
theorem ok_eDef(cs:List CC)(x:DDef)(h:dec_eDef cs=some x):enc_eDef x=cs:=by
 unfold dec_eDef at h;split at h<;>cases h;rfl
noncomputable def enc_lDef(x:DDef):List CC:=[.lit (.string x.Name),.sl .lRule x.Rules]
noncomputable def dec_lDef(cs:List CC):Option (DDef):=match cs with
 |[.lit (.string a0),.sl .lRule a1]=>some ⟨a0,a1⟩
 |_=>none
theorem ok_lDef(cs:List CC)(x:DDef)(h:dec_lDef cs=some x):enc_lDef x=cs:=by
 unfold dec_lDef at h;split at h<;>cases h;rfl
noncomputable def enc_eMatch(x:DMatch):List CC:=[.lit (.int .i64 x.Rule),.sl .int x.Ids,.sl .eBind x.Binds]
noncomputable def dec_eMatch(cs:List CC):Option (DMatch):=match cs with
 |[.lit (.int .i64 a0),.sl .int a1,.sl .eBind a2]=>some ⟨a0,a1,a2⟩
 |_=>none
theorem ok_eMatch(cs:List CC)(x:DMatch)(h:dec_eMatch cs=some x):enc_eMatch x=cs:=by
 unfold dec_eMatch at h;split at h<;>cases h;rfl
noncomputable def enc_lMatch(x:DMatch):List CC:=[.lit (.int .i64 x.Rule),.sl .int x.Ids,.sl .lBind x.Binds]
noncomputable def dec_lMatch(cs:List CC):Option (DMatch):=match cs with
 |[.lit (.int .i64 a0),.sl .int a1,.sl .lBind a2]=>some ⟨a0,a1,a2⟩
 |_=>none
theorem ok_lMatch(cs:List CC)(x:DMatch)(h:dec_lMatch cs=some x):enc_lMatch x=cs:=by
 unfold dec_lMatch at h;split at h<;>cases h;rfl
noncomputable def enc_eAlpha(x:DAlpha):List CC:=[.lit (.string x.Kind),.lit (.int .i64 x.N),.sl .eVal x.Consts,.sl .int x.At]
noncomputable def dec_eAlpha(cs:List CC):Option (DAlpha):=match cs with
 |[.lit (.string a0),.lit (.int .i64 a1),.sl .eVal a2,.sl .int a3]=>some ⟨a0,a1,a2,a3⟩
 |_=>none
theorem ok_eAlpha(cs:List CC)(x:DAlpha)(h:dec_eAlpha cs=some x):enc_eAlpha x=cs:=by
 unfold dec_eAlpha at h;split at h<;>cases h;rfl
noncomputable def enc_lAlpha(x:DAlpha):List CC:=[.lit (.string x.Kind),.lit (.int .i64 x.N),.sl .lVal x.Consts,.sl .int x.At]
noncomputable def dec_lAlpha(cs:List CC):Option (DAlpha):=match cs with
 |[.lit (.string a0),.lit (.int .i64 a1),.sl .lVal a2,.sl .int a3]=>some ⟨a0,a1,a2,a3⟩
 |_=>none
theorem ok_lAlpha(cs:List CC)(x:DAlpha)(h:dec_lAlpha cs=some x):enc_lAlpha x=cs:=by
 unfold dec_lAlpha at h;split at h<;>cases h;rfl
noncomputable def enc_eChain(x:DChain):List CC:=[.sl .int x.Pos,.sl .int x.Neg]
noncomputable def dec_eChain(cs:List CC):Option (DChain):=match cs with
 |[.sl .int a0,.sl .int a1]=>some ⟨a0,a1⟩
 |_=>none
theorem ok_eChain(cs:List CC)(x:DChain)(h:dec_eChain cs=some x):enc_eChain x=cs:=by
 unfold dec_eChain at h;split at h<;>cases h;rfl
noncomputable def enc_lChain(x:DChain):List CC:=[.sl .int x.Pos,.sl .int x.Neg]
noncomputable def dec_lChain(cs:List CC):Option (DChain):=match cs with
 |[.sl .int a0,.sl .int a1]=>some ⟨a0,a1⟩
 |_=>none
theorem ok_lChain(cs:List CC)(x:DChain)(h:dec_lChain cs=some x):enc_lChain x=cs:=by
 unfold dec_lChain at h;split at h<;>cases h;rfl
noncomputable def enc_eNet(x:DNet):List CC:=[.sl .eAlpha x.Alphas,.sl .eChain x.Chains]
noncomputable def dec_eNet(cs:List CC):Option (DNet):=match cs with
 |[.sl .eAlpha a0,.sl .eChain a1]=>some ⟨a0,a1⟩
 |_=>none
theorem ok_eNet(cs:List CC)(x:DNet)(h:dec_eNet cs=some x):enc_eNet x=cs:=by
 unfold dec_eNet at h;split at h<;>cases h;rfl
noncomputable def enc_lNet(x:DNet):List CC:=[.sl .lAlpha x.Alphas,.sl .lChain x.Chains]
noncomputable def dec_lNet(cs:List CC):Option (DNet):=match cs with
 |[.sl .lAlpha a0,.sl .lChain a1]=>some ⟨a0,a1⟩
 |_=>none
theorem ok_lNet(cs:List CC)(x:DNet)(h:dec_lNet cs=some x):enc_lNet x=cs:=by
 unfold dec_lNet at h;split at h<;>cases h;rfl
noncomputable def enc_eIds(x:DIds):List CC:=[.sl .int x.L]
noncomputable def dec_eIds(cs:List CC):Option (DIds):=match cs with
 |[.sl .int a0]=>some ⟨a0⟩
 |_=>none
theorem ok_eIds(cs:List CC)(x:DIds)(h:dec_eIds cs=some x):enc_eIds x=cs:=by
 unfold dec_eIds at h;split at h<;>cases h;rfl
noncomputable def enc_lIds(x:DIds):List CC:=[.sl .int x.L]
noncomputable def dec_lIds(cs:List CC):Option (DIds):=match cs with
 |[.sl .int a0]=>some ⟨a0⟩
 |_=>none
theorem ok_lIds(cs:List CC)(x:DIds)(h:dec_lIds cs=some x):enc_lIds x=cs:=by
 unfold dec_lIds at h;split at h<;>cases h;rfl
noncomputable def enc_eTok(x:DTok):List CC:=[.sl .int x.Ids,.sl .int x.Hits]
noncomputable def dec_eTok(cs:List CC):Option (DTok):=match cs with
 |[.sl .int a0,.sl .int a1]=>some ⟨a0,a1⟩
 |_=>none
theorem ok_eTok(cs:List CC)(x:DTok)(h:dec_eTok cs=some x):enc_eTok x=cs:=by
 unfold dec_eTok at h;split at h<;>cases h;rfl
noncomputable def enc_lTok(x:DTok):List CC:=[.sl .int x.Ids,.sl .int x.Hits]
noncomputable def dec_lTok(cs:List CC):Option (DTok):=match cs with
 |[.sl .int a0,.sl .int a1]=>some ⟨a0,a1⟩
 |_=>none
theorem ok_lTok(cs:List CC)(x:DTok)(h:dec_lTok cs=some x):enc_lTok x=cs:=by
 unfold dec_lTok at h;split at h<;>cases h;rfl
noncomputable def enc_eLevel(x:DLevel):List CC:=[.sl .eTok x.Toks]
noncomputable def dec_eLevel(cs:List CC):Option (DLevel):=match cs with
 |[.sl .eTok a0]=>some ⟨a0⟩
 |_=>none
theorem ok_eLevel(cs:List CC)(x:DLevel)(h:dec_eLevel cs=some x):enc_eLevel x=cs:=by
 unfold dec_eLevel at h;split at h<;>cases h;rfl
noncomputable def enc_lLevel(x:DLevel):List CC:=[.sl .lTok x.Toks]
noncomputable def dec_lLevel(cs:List CC):Option (DLevel):=match cs with
 |[.sl .lTok a0]=>some ⟨a0⟩
 |_=>none
theorem ok_lLevel(cs:List CC)(x:DLevel)(h:dec_lLevel cs=some x):enc_lLevel x=cs:=by
 unfold dec_lLevel at h;split at h<;>cases h;rfl
noncomputable def enc_eRow(x:DRow):List CC:=[.sl .eLevel x.Levels]
noncomputable def dec_eRow(cs:List CC):Option (DRow):=match cs with
 |[.sl .eLevel a0]=>some ⟨a0⟩
 |_=>none
theorem ok_eRow(cs:List CC)(x:DRow)(h:dec_eRow cs=some x):enc_eRow x=cs:=by
 unfold dec_eRow at h;split at h<;>cases h;rfl
noncomputable def enc_lRow(x:DRow):List CC:=[.sl .lLevel x.Levels]
noncomputable def dec_lRow(cs:List CC):Option (DRow):=match cs with
 |[.sl .lLevel a0]=>some ⟨a0⟩
 |_=>none
theorem ok_lRow(cs:List CC)(x:DRow)(h:dec_lRow cs=some x):enc_lRow x=cs:=by
 unfold dec_lRow at h;split at h<;>cases h;rfl
noncomputable def enc_eMem(x:DMem):List CC:=[.sl .eIds x.Alphas,.sl .eRow x.Rules]
noncomputable def dec_eMem(cs:List CC):Option (DMem):=match cs with
 |[.sl .eIds a0,.sl .eRow a1]=>some ⟨a0,a1⟩
 |_=>none
theorem ok_eMem(cs:List CC)(x:DMem)(h:dec_eMem cs=some x):enc_eMem x=cs:=by
 unfold dec_eMem at h;split at h<;>cases h;rfl
noncomputable def enc_lMem(x:DMem):List CC:=[.sl .lIds x.Alphas,.sl .lRow x.Rules]
noncomputable def dec_lMem(cs:List CC):Option (DMem):=match cs with
 |[.sl .lIds a0,.sl .lRow a1]=>some ⟨a0,a1⟩
 |_=>none
theorem ok_lMem(cs:List CC)(x:DMem)(h:dec_lMem cs=some x):enc_lMem x=cs:=by
 unfold dec_lMem at h;split at h<;>cases h;rfl
noncomputable def enc_eEffect(x:DEffect):List CC:=[.lit (.int .i64 x.Kind),.lit (.string x.F.Kind),.sl .eVal x.F.Fields,.lit (.int .i64 x.Id),.lit (.int .i64 x.N),.lit (.string x.Undo)]
noncomputable def dec_eEffect(cs:List CC):Option (DEffect):=match cs with
 |[.lit (.int .i64 a0),.lit (.string a1),.sl .eVal a2,.lit (.int .i64 a3),.lit (.int .i64 a4),.lit (.string a5)]=>some ⟨a0,⟨a1,a2⟩,a3,a4,a5⟩
 |_=>none
theorem ok_eEffect(cs:List CC)(x:DEffect)(h:dec_eEffect cs=some x):enc_eEffect x=cs:=by
 unfold dec_eEffect at h;split at h<;>cases h;rfl
noncomputable def enc_lEffect(x:DEffect):List CC:=[.lit (.int .i64 x.Kind),.lit (.string x.F.Kind),.sl .lVal x.F.Fields,.lit (.int .i64 x.Id),.lit (.int .i64 x.N),.lit (.string x.Undo)]
noncomputable def dec_lEffect(cs:List CC):Option (DEffect):=match cs with
 |[.lit (.int .i64 a0),.lit (.string a1),.sl .lVal a2,.lit (.int .i64 a3),.lit (.int .i64 a4),.lit (.string a5)]=>some ⟨a0,⟨a1,a2⟩,a3,a4,a5⟩
 |_=>none
theorem ok_lEffect(cs:List CC)(x:DEffect)(h:dec_lEffect cs=some x):enc_lEffect x=cs:=by
 unfold dec_lEffect at h;split at h<;>cases h;rfl
noncomputable def enc_eTimer(x:DTimer):List CC:=[.lit (.int .i64 x.At),.lit (.string x.F.Kind),.sl .eVal x.F.Fields]
noncomputable def dec_eTimer(cs:List CC):Option (DTimer):=match cs with
 |[.lit (.int .i64 a0),.lit (.string a1),.sl .eVal a2]=>some ⟨a0,⟨a1,a2⟩⟩
 |_=>none
theorem ok_eTimer(cs:List CC)(x:DTimer)(h:dec_eTimer cs=some x):enc_eTimer x=cs:=by
 unfold dec_eTimer at h;split at h<;>cases h;rfl
noncomputable def enc_lTimer(x:DTimer):List CC:=[.lit (.int .i64 x.At),.lit (.string x.F.Kind),.sl .lVal x.F.Fields]
noncomputable def dec_lTimer(cs:List CC):Option (DTimer):=match cs with
 |[.lit (.int .i64 a0),.lit (.string a1),.sl .lVal a2]=>some ⟨a0,⟨a1,a2⟩⟩
 |_=>none
theorem ok_lTimer(cs:List CC)(x:DTimer)(h:dec_lTimer cs=some x):enc_lTimer x=cs:=by
 unfold dec_lTimer at h;split at h<;>cases h;rfl
noncomputable def enc_eTask(x:DTask):List CC:=[.lit (.string x.F.Kind),.sl .eVal x.F.Fields,.lit (.string x.Undo),.lit (.int .i64 x.State),.lit (.int .i64 x.Tries),.lit (.int .i64 x.Due),.lit (.int .i64 x.V.K),.lit (.int .i64 x.V.N),.lit (.string x.V.S)]
noncomputable def dec_eTask(cs:List CC):Option (DTask):=match cs with
 |[.lit (.string a0),.sl .eVal a1,.lit (.string a2),.lit (.int .i64 a3),.lit (.int .i64 a4),.lit (.int .i64 a5),.lit (.int .i64 a6),.lit (.int .i64 a7),.lit (.string a8)]=>some ⟨⟨a0,a1⟩,a2,a3,a4,a5,⟨a6,a7,a8⟩⟩
 |_=>none
theorem ok_eTask(cs:List CC)(x:DTask)(h:dec_eTask cs=some x):enc_eTask x=cs:=by
 unfold dec_eTask at h;split at h<;>cases h;rfl
noncomputable def enc_lTask(x:DTask):List CC:=[.lit (.string x.F.Kind),.sl .lVal x.F.Fields,.lit (.string x.Undo),.lit (.int .i64 x.State),.lit (.int .i64 x.Tries),.lit (.int .i64 x.Due),.lit (.int .i64 x.V.K),.lit (.int .i64 x.V.N),.lit (.string x.V.S)]
noncomputable def dec_lTask(cs:List CC):Option (DTask):=match cs with
 |[.lit (.string a0),.sl .lVal a1,.lit (.string a2),.lit (.int .i64 a3),.lit (.int .i64 a4),.lit (.int .i64 a5),.lit (.int .i64 a6),.lit (.int .i64 a7),.lit (.string a8)]=>some ⟨⟨a0,a1⟩,a2,a3,a4,a5,⟨a6,a7,a8⟩⟩
 |_=>none
theorem ok_lTask(cs:List CC)(x:DTask)(h:dec_lTask cs=some x):enc_lTask x=cs:=by
 unfold dec_lTask at h;split at h<;>cases h;rfl
noncomputable def enc_eCall(x:DCall):List CC:=[.lit (.string x.Key),.lit (.string x.F.Kind),.sl .eVal x.F.Fields,.lit (.int .i64 x.Try)]
noncomputable def dec_eCall(cs:List CC):Option (DCall):=match cs with
 |[.lit (.string a0),.lit (.string a1),.sl .eVal a2,.lit (.int .i64 a3)]=>some ⟨a0,⟨a1,a2⟩,a3⟩
 |_=>none
theorem ok_eCall(cs:List CC)(x:DCall)(h:dec_eCall cs=some x):enc_eCall x=cs:=by
 unfold dec_eCall at h;split at h<;>cases h;rfl
noncomputable def enc_lCall(x:DCall):List CC:=[.lit (.string x.Key),.lit (.string x.F.Kind),.sl .lVal x.F.Fields,.lit (.int .i64 x.Try)]
noncomputable def dec_lCall(cs:List CC):Option (DCall):=match cs with
 |[.lit (.string a0),.lit (.string a1),.sl .lVal a2,.lit (.int .i64 a3)]=>some ⟨a0,⟨a1,a2⟩,a3⟩
 |_=>none
theorem ok_lCall(cs:List CC)(x:DCall)(h:dec_lCall cs=some x):enc_lCall x=cs:=by
 unfold dec_lCall at h;split at h<;>cases h;rfl
noncomputable def enc_eUndo(x:DUndo):List CC:=[.lit (.string x.Key),.lit (.string x.F.Kind),.sl .eVal x.F.Fields]
noncomputable def dec_eUndo(cs:List CC):Option (DUndo):=match cs with
 |[.lit (.string a0),.lit (.string a1),.sl .eVal a2]=>some ⟨a0,⟨a1,a2⟩⟩
 |_=>none
theorem ok_eUndo(cs:List CC)(x:DUndo)(h:dec_eUndo cs=some x):enc_eUndo x=cs:=by
 unfold dec_eUndo at h;split at h<;>cases h;rfl
noncomputable def enc_lUndo(x:DUndo):List CC:=[.lit (.string x.Key),.lit (.string x.F.Kind),.sl .lVal x.F.Fields]
noncomputable def dec_lUndo(cs:List CC):Option (DUndo):=match cs with
 |[.lit (.string a0),.lit (.string a1),.sl .lVal a2]=>some ⟨a0,⟨a1,a2⟩⟩
 |_=>none
theorem ok_lUndo(cs:List CC)(x:DUndo)(h:dec_lUndo cs=some x):enc_lUndo x=cs:=by
 unfold dec_lUndo at h;split at h<;>cases h;rfl
noncomputable def enc_eInst(x:DInst):List CC:=[.sl .eItem x.S.Items,.lit (.int .i64 x.S.Next),.sl .eMatch x.Fired,.sl .eTask x.Tasks,.sl .eTimer x.Timers,.sl .eUndo x.Undos,.lit (.int .i64 x.State),.lit (.int .i64 x.Now)]
noncomputable def dec_eInst(cs:List CC):Option (DInst):=match cs with
 |[.sl .eItem a0,.lit (.int .i64 a1),.sl .eMatch a2,.sl .eTask a3,.sl .eTimer a4,.sl .eUndo a5,.lit (.int .i64 a6),.lit (.int .i64 a7)]=>some ⟨⟨a0,a1⟩,a2,a3,a4,a5,a6,a7⟩
 |_=>none
theorem ok_eInst(cs:List CC)(x:DInst)(h:dec_eInst cs=some x):enc_eInst x=cs:=by
 unfold dec_eInst at h;split at h<;>cases h;rfl
noncomputable def enc_lInst(x:DInst):List CC:=[.sl .lItem x.S.Items,.lit (.int .i64 x.S.Next),.sl .lMatch x.Fired,.sl .lTask x.Tasks,.sl .lTimer x.Timers,.sl .lUndo x.Undos,.lit (.int .i64 x.State),.lit (.int .i64 x.Now)]
noncomputable def dec_lInst(cs:List CC):Option (DInst):=match cs with
 |[.sl .lItem a0,.lit (.int .i64 a1),.sl .lMatch a2,.sl .lTask a3,.sl .lTimer a4,.sl .lUndo a5,.lit (.int .i64 a6),.lit (.int .i64 a7)]=>some ⟨⟨a0,a1⟩,a2,a3,a4,a5,a6,a7⟩
 |_=>none
theorem ok_lInst(cs:List CC)(x:DInst)(h:dec_lInst cs=some x):enc_lInst x=cs:=by
 unfold dec_lInst at h;split at h<;>cases h;rfl
noncomputable def enc_eRun(x:DRun):List CC:=[.sl .eItem x.X.S.Items,.lit (.int .i64 x.X.S.Next),.sl .eMatch x.X.Fired,.sl .eTask x.X.Tasks,.sl .eTimer x.X.Timers,.sl .eUndo x.X.Undos,.lit (.int .i64 x.X.State),.lit (.int .i64 x.X.Now),.sl .eIds x.M.Alphas,.sl .eRow x.M.Rules]
noncomputable def dec_eRun(cs:List CC):Option (DRun):=match cs with
 |[.sl .eItem a0,.lit (.int .i64 a1),.sl .eMatch a2,.sl .eTask a3,.sl .eTimer a4,.sl .eUndo a5,.lit (.int .i64 a6),.lit (.int .i64 a7),.sl .eIds a8,.sl .eRow a9]=>some ⟨⟨⟨a0,a1⟩,a2,a3,a4,a5,a6,a7⟩,⟨a8,a9⟩⟩
 |_=>none
theorem ok_eRun(cs:List CC)(x:DRun)(h:dec_eRun cs=some x):enc_eRun x=cs:=by
 unfold dec_eRun at h;split at h<;>cases h;rfl
noncomputable def enc_lRun(x:DRun):List CC:=[.sl .lItem x.X.S.Items,.lit (.int .i64 x.X.S.Next),.sl .lMatch x.X.Fired,.sl .lTask x.X.Tasks,.sl .lTimer x.X.Timers,.sl .lUndo x.X.Undos,.lit (.int .i64 x.X.State),.lit (.int .i64 x.X.Now),.sl .lIds x.M.Alphas,.sl .lRow x.M.Rules]
noncomputable def dec_lRun(cs:List CC):Option (DRun):=match cs with
 |[.sl .lItem a0,.lit (.int .i64 a1),.sl .lMatch a2,.sl .lTask a3,.sl .lTimer a4,.sl .lUndo a5,.lit (.int .i64 a6),.lit (.int .i64 a7),.sl .lIds a8,.sl .lRow a9]=>some ⟨⟨⟨a0,a1⟩,a2,a3,a4,a5,a6,a7⟩,⟨a8,a9⟩⟩
 |_=>none
theorem ok_lRun(cs:List CC)(x:DRun)(h:dec_lRun cs=some x):enc_lRun x=cs:=by
 unfold dec_lRun at h;split at h<;>cases h;rfl
noncomputable def enc_eOp(x:DOp):List CC:=[.lit (.int .i64 x.Kind),.lit (.string x.Name),.lit (.string x.Text),.lit (.string x.F.Kind),.sl .eVal x.F.Fields,.lit (.string x.Key),.lit (.bool x.Ok),.lit (.int .i64 x.V.K),.lit (.int .i64 x.V.N),.lit (.string x.V.S),.lit (.int .i64 x.N)]
noncomputable def dec_eOp(cs:List CC):Option (DOp):=match cs with
 |[.lit (.int .i64 a0),.lit (.string a1),.lit (.string a2),.lit (.string a3),.sl .eVal a4,.lit (.string a5),.lit (.bool a6),.lit (.int .i64 a7),.lit (.int .i64 a8),.lit (.string a9),.lit (.int .i64 a10)]=>some ⟨a0,a1,a2,⟨a3,a4⟩,a5,a6,⟨a7,a8,a9⟩,a10⟩
 |_=>none
theorem ok_eOp(cs:List CC)(x:DOp)(h:dec_eOp cs=some x):enc_eOp x=cs:=by
 unfold dec_eOp at h;split at h<;>cases h;rfl
noncomputable def enc_lOp(x:DOp):List CC:=[.lit (.int .i64 x.Kind),.lit (.string x.Name),.lit (.string x.Text),.lit (.string x.F.Kind),.sl .lVal x.F.Fields,.lit (.string x.Key),.lit (.bool x.Ok),.lit (.int .i64 x.V.K),.lit (.int .i64 x.V.N),.lit (.string x.V.S),.lit (.int .i64 x.N)]
noncomputable def dec_lOp(cs:List CC):Option (DOp):=match cs with
 |[.lit (.int .i64 a0),.lit (.string a1),.lit (.string a2),.lit (.string a3),.sl .lVal a4,.lit (.string a5),.lit (.bool a6),.lit (.int .i64 a7),.lit (.int .i64 a8),.lit (.string a9),.lit (.int .i64 a10)]=>some ⟨a0,a1,a2,⟨a3,a4⟩,a5,a6,⟨a7,a8,a9⟩,a10⟩
 |_=>none
theorem ok_lOp(cs:List CC)(x:DOp)(h:dec_lOp cs=some x):enc_lOp x=cs:=by
 unfold dec_lOp at h;split at h<;>cases h;rfl
noncomputable def enc_eWork(x:DWork):List CC:=[.lit (.string x.Name),.lit (.string x.Def),.sl .eItem x.X.S.Items,.lit (.int .i64 x.X.S.Next),.sl .eMatch x.X.Fired,.sl .eTask x.X.Tasks,.sl .eTimer x.X.Timers,.sl .eUndo x.X.Undos,.lit (.int .i64 x.X.State),.lit (.int .i64 x.X.Now)]
noncomputable def dec_eWork(cs:List CC):Option (DWork):=match cs with
 |[.lit (.string a0),.lit (.string a1),.sl .eItem a2,.lit (.int .i64 a3),.sl .eMatch a4,.sl .eTask a5,.sl .eTimer a6,.sl .eUndo a7,.lit (.int .i64 a8),.lit (.int .i64 a9)]=>some ⟨a0,a1,⟨⟨a2,a3⟩,a4,a5,a6,a7,a8,a9⟩⟩
 |_=>none
theorem ok_eWork(cs:List CC)(x:DWork)(h:dec_eWork cs=some x):enc_eWork x=cs:=by
 unfold dec_eWork at h;split at h<;>cases h;rfl
noncomputable def enc_lWork(x:DWork):List CC:=[.lit (.string x.Name),.lit (.string x.Def),.sl .lItem x.X.S.Items,.lit (.int .i64 x.X.S.Next),.sl .lMatch x.X.Fired,.sl .lTask x.X.Tasks,.sl .lTimer x.X.Timers,.sl .lUndo x.X.Undos,.lit (.int .i64 x.X.State),.lit (.int .i64 x.X.Now)]
noncomputable def dec_lWork(cs:List CC):Option (DWork):=match cs with
 |[.lit (.string a0),.lit (.string a1),.sl .lItem a2,.lit (.int .i64 a3),.sl .lMatch a4,.sl .lTask a5,.sl .lTimer a6,.sl .lUndo a7,.lit (.int .i64 a8),.lit (.int .i64 a9)]=>some ⟨a0,a1,⟨⟨a2,a3⟩,a4,a5,a6,a7,a8,a9⟩⟩
 |_=>none
theorem ok_lWork(cs:List CC)(x:DWork)(h:dec_lWork cs=some x):enc_lWork x=cs:=by
 unfold dec_lWork at h;split at h<;>cases h;rfl
noncomputable def enc_eBook(x:DBook):List CC:=[.sl .eDef x.Defs,.sl .eWork x.Works,.lit (.int .i64 x.Now),.lit (.int .i64 x.Ring)]
noncomputable def dec_eBook(cs:List CC):Option (DBook):=match cs with
 |[.sl .eDef a0,.sl .eWork a1,.lit (.int .i64 a2),.lit (.int .i64 a3)]=>some ⟨a0,a1,a2,a3⟩
 |_=>none
theorem ok_eBook(cs:List CC)(x:DBook)(h:dec_eBook cs=some x):enc_eBook x=cs:=by
 unfold dec_eBook at h;split at h<;>cases h;rfl
noncomputable def enc_lBook(x:DBook):List CC:=[.sl .lDef x.Defs,.sl .lWork x.Works,.lit (.int .i64 x.Now),.lit (.int .i64 x.Ring)]
noncomputable def dec_lBook(cs:List CC):Option (DBook):=match cs with
 |[.sl .lDef a0,.sl .lWork a1,.lit (.int .i64 a2),.lit (.int .i64 a3)]=>some ⟨a0,a1,a2,a3⟩
 |_=>none
theorem ok_lBook(cs:List CC)(x:DBook)(h:dec_lBook cs=some x):enc_lBook x=cs:=by
 unfold dec_lBook at h;split at h<;>cases h;rfl
noncomputable def enc_eSent(x:DSent):List CC:=[.lit (.string x.Name),.lit (.string x.C.Key),.lit (.string x.C.F.Kind),.sl .eVal x.C.F.Fields,.lit (.int .i64 x.C.Try)]
noncomputable def dec_eSent(cs:List CC):Option (DSent):=match cs with
 |[.lit (.string a0),.lit (.string a1),.lit (.string a2),.sl .eVal a3,.lit (.int .i64 a4)]=>some ⟨a0,⟨a1,⟨a2,a3⟩,a4⟩⟩
 |_=>none
theorem ok_eSent(cs:List CC)(x:DSent)(h:dec_eSent cs=some x):enc_eSent x=cs:=by
 unfold dec_eSent at h;split at h<;>cases h;rfl
noncomputable def enc_lSent(x:DSent):List CC:=[.lit (.string x.Name),.lit (.string x.C.Key),.lit (.string x.C.F.Kind),.sl .lVal x.C.F.Fields,.lit (.int .i64 x.C.Try)]
noncomputable def dec_lSent(cs:List CC):Option (DSent):=match cs with
 |[.lit (.string a0),.lit (.string a1),.lit (.string a2),.sl .lVal a3,.lit (.int .i64 a4)]=>some ⟨a0,⟨a1,⟨a2,a3⟩,a4⟩⟩
 |_=>none
theorem ok_lSent(cs:List CC)(x:DSent)(h:dec_lSent cs=some x):enc_lSent x=cs:=by
 unfold dec_lSent at h;split at h<;>cases h;rfl
noncomputable def Cd.enc:(τ:Cd)→τ.T→List CC
 | .int,x=>enc_int x
 | .byte,x=>enc_byte x
 | .str,x=>enc_str x
 | .eVal,x=>enc_eVal x
 | .lVal,x=>enc_lVal x
 | .eFact,x=>enc_eFact x
 | .lFact,x=>enc_lFact x
 | .eItem,x=>enc_eItem x
 | .lItem,x=>enc_lItem x
 | .eStore,x=>enc_eStore x
 | .lStore,x=>enc_lStore x
 | .eToken,x=>enc_eToken x
 | .lToken,x=>enc_lToken x
 | .eArg,x=>enc_eArg x
 | .lArg,x=>enc_lArg x
 | .ePat,x=>enc_ePat x
 | .lPat,x=>enc_lPat x
 | .eBind,x=>enc_eBind x
 | .lBind,x=>enc_lBind x
 | .eCond,x=>enc_eCond x
 | .lCond,x=>enc_lCond x
 | .eExpr,x=>enc_eExpr x
 | .lExpr,x=>enc_lExpr x
 | .eAct,x=>enc_eAct x
 | .lAct,x=>enc_lAct x
 | .eRule,x=>enc_eRule x
 | .lRule,x=>enc_lRule x
 | .eDef,x=>enc_eDef x
 | .lDef,x=>enc_lDef x
 | .eMatch,x=>enc_eMatch x
 | .lMatch,x=>enc_lMatch x
 | .eAlpha,x=>enc_eAlpha x
 | .lAlpha,x=>enc_lAlpha x
 | .eChain,x=>enc_eChain x
 | .lChain,x=>enc_lChain x
 | .eNet,x=>enc_eNet x
 | .lNet,x=>enc_lNet x
 | .eIds,x=>enc_eIds x
 | .lIds,x=>enc_lIds x
 | .eTok,x=>enc_eTok x
 | .lTok,x=>enc_lTok x
 | .eLevel,x=>enc_eLevel x
 | .lLevel,x=>enc_lLevel x
 | .eRow,x=>enc_eRow x
 | .lRow,x=>enc_lRow x
 | .eMem,x=>enc_eMem x
 | .lMem,x=>enc_lMem x
 | .eEffect,x=>enc_eEffect x
 | .lEffect,x=>enc_lEffect x
 | .eTimer,x=>enc_eTimer x
 | .lTimer,x=>enc_lTimer x
 | .eTask,x=>enc_eTask x
 | .lTask,x=>enc_lTask x
 | .eCall,x=>enc_eCall x
 | .lCall,x=>enc_lCall x
 | .eUndo,x=>enc_eUndo x
 | .lUndo,x=>enc_lUndo x
 | .eInst,x=>enc_eInst x
 | .lInst,x=>enc_lInst x
 | .eRun,x=>enc_eRun x
 | .lRun,x=>enc_lRun x
 | .eOp,x=>enc_eOp x
 | .lOp,x=>enc_lOp x
 | .eWork,x=>enc_eWork x
 | .lWork,x=>enc_lWork x
 | .eBook,x=>enc_eBook x
 | .lBook,x=>enc_lBook x
 | .eSent,x=>enc_eSent x
 | .lSent,x=>enc_lSent x
noncomputable def Cd.dec:(τ:Cd)→List CC→Option τ.T
 | .int,cs=>dec_int cs
 | .byte,cs=>dec_byte cs
 | .str,cs=>dec_str cs
 | .eVal,cs=>dec_eVal cs
 | .lVal,cs=>dec_lVal cs
 | .eFact,cs=>dec_eFact cs
 | .lFact,cs=>dec_lFact cs
 | .eItem,cs=>dec_eItem cs
 | .lItem,cs=>dec_lItem cs
 | .eStore,cs=>dec_eStore cs
 | .lStore,cs=>dec_lStore cs
 | .eToken,cs=>dec_eToken cs
 | .lToken,cs=>dec_lToken cs
 | .eArg,cs=>dec_eArg cs
 | .lArg,cs=>dec_lArg cs
 | .ePat,cs=>dec_ePat cs
 | .lPat,cs=>dec_lPat cs
 | .eBind,cs=>dec_eBind cs
 | .lBind,cs=>dec_lBind cs
 | .eCond,cs=>dec_eCond cs
 | .lCond,cs=>dec_lCond cs
 | .eExpr,cs=>dec_eExpr cs
 | .lExpr,cs=>dec_lExpr cs
 | .eAct,cs=>dec_eAct cs
 | .lAct,cs=>dec_lAct cs
 | .eRule,cs=>dec_eRule cs
 | .lRule,cs=>dec_lRule cs
 | .eDef,cs=>dec_eDef cs
 | .lDef,cs=>dec_lDef cs
 | .eMatch,cs=>dec_eMatch cs
 | .lMatch,cs=>dec_lMatch cs
 | .eAlpha,cs=>dec_eAlpha cs
 | .lAlpha,cs=>dec_lAlpha cs
 | .eChain,cs=>dec_eChain cs
 | .lChain,cs=>dec_lChain cs
 | .eNet,cs=>dec_eNet cs
 | .lNet,cs=>dec_lNet cs
 | .eIds,cs=>dec_eIds cs
 | .lIds,cs=>dec_lIds cs
 | .eTok,cs=>dec_eTok cs
 | .lTok,cs=>dec_lTok cs
 | .eLevel,cs=>dec_eLevel cs
 | .lLevel,cs=>dec_lLevel cs
 | .eRow,cs=>dec_eRow cs
 | .lRow,cs=>dec_lRow cs
 | .eMem,cs=>dec_eMem cs
 | .lMem,cs=>dec_lMem cs
 | .eEffect,cs=>dec_eEffect cs
 | .lEffect,cs=>dec_lEffect cs
 | .eTimer,cs=>dec_eTimer cs
 | .lTimer,cs=>dec_lTimer cs
 | .eTask,cs=>dec_eTask cs
 | .lTask,cs=>dec_lTask cs
 | .eCall,cs=>dec_eCall cs
 | .lCall,cs=>dec_lCall cs
 | .eUndo,cs=>dec_eUndo cs
 | .lUndo,cs=>dec_lUndo cs
 | .eInst,cs=>dec_eInst cs
 | .lInst,cs=>dec_lInst cs
 | .eRun,cs=>dec_eRun cs
 | .lRun,cs=>dec_lRun cs
 | .eOp,cs=>dec_eOp cs
 | .lOp,cs=>dec_lOp cs
 | .eWork,cs=>dec_eWork cs
 | .lWork,cs=>dec_lWork cs
 | .eBook,cs=>dec_eBook cs
 | .lBook,cs=>dec_lBook cs
 | .eSent,cs=>dec_eSent cs
 | .lSent,cs=>dec_lSent cs
noncomputable def zVal:DVal:=⟨0,0,noBytes⟩
noncomputable def zFact:DFact:=⟨noBytes,[]⟩
noncomputable def zItem:DItem:=⟨0,⟨noBytes,[]⟩⟩
noncomputable def zStore:DStore:=⟨[],0⟩
noncomputable def zToken:DToken:=⟨0,0,noBytes⟩
noncomputable def zArg:DArg:=⟨0,noBytes,⟨0,0,noBytes⟩⟩
noncomputable def zPat:DPat:=⟨noBytes,[],false⟩
noncomputable def zBind:DBind:=⟨noBytes,⟨0,0,noBytes⟩⟩
noncomputable def zCond:DCond:=⟨0,⟨0,noBytes,⟨0,0,noBytes⟩⟩,⟨0,noBytes,⟨0,0,noBytes⟩⟩⟩
noncomputable def zExpr:DExpr:=⟨noBytes,⟨0,noBytes,⟨0,0,noBytes⟩⟩,⟨0,noBytes,⟨0,0,noBytes⟩⟩⟩
noncomputable def zAct:DAct:=⟨0,noBytes,[],0,noBytes⟩
noncomputable def zRule:DRule:=⟨noBytes,0,[],[],[]⟩
noncomputable def zDef:DDef:=⟨noBytes,[]⟩
noncomputable def zMatch:DMatch:=⟨0,[],[]⟩
noncomputable def zAlpha:DAlpha:=⟨noBytes,0,[],[]⟩
noncomputable def zChain:DChain:=⟨[],[]⟩
noncomputable def zNet:DNet:=⟨[],[]⟩
noncomputable def zIds:DIds:=⟨[]⟩
noncomputable def zTok:DTok:=⟨[],[]⟩
noncomputable def zLevel:DLevel:=⟨[]⟩
noncomputable def zRow:DRow:=⟨[]⟩
noncomputable def zMem:DMem:=⟨[],[]⟩
noncomputable def zEffect:DEffect:=⟨0,⟨noBytes,[]⟩,0,0,noBytes⟩
noncomputable def zTimer:DTimer:=⟨0,⟨noBytes,[]⟩⟩
noncomputable def zTask:DTask:=⟨⟨noBytes,[]⟩,noBytes,0,0,0,⟨0,0,noBytes⟩⟩
noncomputable def zCall:DCall:=⟨noBytes,⟨noBytes,[]⟩,0⟩
noncomputable def zUndo:DUndo:=⟨noBytes,⟨noBytes,[]⟩⟩
noncomputable def zInst:DInst:=⟨⟨[],0⟩,[],[],[],[],0,0⟩
noncomputable def zRun:DRun:=⟨⟨⟨[],0⟩,[],[],[],[],0,0⟩,⟨[],[]⟩⟩
noncomputable def zOp:DOp:=⟨0,noBytes,noBytes,⟨noBytes,[]⟩,noBytes,false,⟨0,0,noBytes⟩,0⟩
noncomputable def zWork:DWork:=⟨noBytes,noBytes,⟨⟨[],0⟩,[],[],[],[],0,0⟩⟩
noncomputable def zBook:DBook:=⟨[],[],0,0⟩
noncomputable def zSent:DSent:=⟨noBytes,⟨noBytes,⟨noBytes,[]⟩,0⟩⟩
noncomputable def Cd.dflt:(τ:Cd)→τ.T
 | .int=>(0:Int)
 | .byte=>(0:Int)
 | .str=>(noBytes:ByteArray)
 | .eVal=>zVal
 | .lVal=>zVal
 | .eFact=>zFact
 | .lFact=>zFact
 | .eItem=>zItem
 | .lItem=>zItem
 | .eStore=>zStore
 | .lStore=>zStore
 | .eToken=>zToken
 | .lToken=>zToken
 | .eArg=>zArg
 | .lArg=>zArg
 | .ePat=>zPat
 | .lPat=>zPat
 | .eBind=>zBind
 | .lBind=>zBind
 | .eCond=>zCond
 | .lCond=>zCond
 | .eExpr=>zExpr
 | .lExpr=>zExpr
 | .eAct=>zAct
 | .lAct=>zAct
 | .eRule=>zRule
 | .lRule=>zRule
 | .eDef=>zDef
 | .lDef=>zDef
 | .eMatch=>zMatch
 | .lMatch=>zMatch
 | .eAlpha=>zAlpha
 | .lAlpha=>zAlpha
 | .eChain=>zChain
 | .lChain=>zChain
 | .eNet=>zNet
 | .lNet=>zNet
 | .eIds=>zIds
 | .lIds=>zIds
 | .eTok=>zTok
 | .lTok=>zTok
 | .eLevel=>zLevel
 | .lLevel=>zLevel
 | .eRow=>zRow
 | .lRow=>zRow
 | .eMem=>zMem
 | .lMem=>zMem
 | .eEffect=>zEffect
 | .lEffect=>zEffect
 | .eTimer=>zTimer
 | .lTimer=>zTimer
 | .eTask=>zTask
 | .lTask=>zTask
 | .eCall=>zCall
 | .lCall=>zCall
 | .eUndo=>zUndo
 | .lUndo=>zUndo
 | .eInst=>zInst
 | .lInst=>zInst
 | .eRun=>zRun
 | .lRun=>zRun
 | .eOp=>zOp
 | .lOp=>zOp
 | .eWork=>zWork
 | .lWork=>zWork
 | .eBook=>zBook
 | .lBook=>zBook
 | .eSent=>zSent
 | .lSent=>zSent
noncomputable def Cd.flat:Cd→Bool
 | .int=>true
 | .byte=>true
 | .str=>true
 | .eVal=>true
 | .lVal=>true
 | .eFact=>false
 | .lFact=>false
 | .eItem=>false
 | .lItem=>false
 | .eStore=>false
 | .lStore=>false
 | .eToken=>true
 | .lToken=>true
 | .eArg=>true
 | .lArg=>true
 | .ePat=>false
 | .lPat=>false
 | .eBind=>true
 | .lBind=>true
 | .eCond=>true
 | .lCond=>true
 | .eExpr=>true
 | .lExpr=>true
 | .eAct=>false
 | .lAct=>false
 | .eRule=>false
 | .lRule=>false
 | .eDef=>false
 | .lDef=>false
 | .eMatch=>false
 | .lMatch=>false
 | .eAlpha=>false
 | .lAlpha=>false
 | .eChain=>false
 | .lChain=>false
 | .eNet=>false
 | .lNet=>false
 | .eIds=>false
 | .lIds=>false
 | .eTok=>false
 | .lTok=>false
 | .eLevel=>false
 | .lLevel=>false
 | .eRow=>false
 | .lRow=>false
 | .eMem=>false
 | .lMem=>false
 | .eEffect=>false
 | .lEffect=>false
 | .eTimer=>false
 | .lTimer=>false
 | .eTask=>false
 | .lTask=>false
 | .eCall=>false
 | .lCall=>false
 | .eUndo=>false
 | .lUndo=>false
 | .eInst=>false
 | .lInst=>false
 | .eRun=>false
 | .lRun=>false
 | .eOp=>false
 | .lOp=>false
 | .eWork=>false
 | .lWork=>false
 | .eBook=>false
 | .lBook=>false
 | .eSent=>false
 | .lSent=>false
theorem fl_int(x:Int)(c:CC)(h:c∈enc_int x):∃v,c=.lit v:=by
 simp only[enc_int,List.mem_cons,List.not_mem_nil,or_false] at h
 rcases h with rfl<;>exact⟨_,rfl⟩
theorem fl_byte(x:Int)(c:CC)(h:c∈enc_byte x):∃v,c=.lit v:=by
 simp only[enc_byte,List.mem_cons,List.not_mem_nil,or_false] at h
 rcases h with rfl<;>exact⟨_,rfl⟩
theorem fl_str(x:ByteArray)(c:CC)(h:c∈enc_str x):∃v,c=.lit v:=by
 simp only[enc_str,List.mem_cons,List.not_mem_nil,or_false] at h
 rcases h with rfl<;>exact⟨_,rfl⟩
theorem fl_eVal(x:DVal)(c:CC)(h:c∈enc_eVal x):∃v,c=.lit v:=by
 simp only[enc_eVal,List.mem_cons,List.not_mem_nil,or_false] at h
 rcases h with rfl|rfl|rfl<;>exact⟨_,rfl⟩
theorem fl_lVal(x:DVal)(c:CC)(h:c∈enc_lVal x):∃v,c=.lit v:=by
 simp only[enc_lVal,List.mem_cons,List.not_mem_nil,or_false] at h
 rcases h with rfl|rfl|rfl<;>exact⟨_,rfl⟩
theorem fl_eToken(x:DToken)(c:CC)(h:c∈enc_eToken x):∃v,c=.lit v:=by
 simp only[enc_eToken,List.mem_cons,List.not_mem_nil,or_false] at h
 rcases h with rfl|rfl|rfl<;>exact⟨_,rfl⟩
theorem fl_lToken(x:DToken)(c:CC)(h:c∈enc_lToken x):∃v,c=.lit v:=by
 simp only[enc_lToken,List.mem_cons,List.not_mem_nil,or_false] at h
 rcases h with rfl|rfl|rfl<;>exact⟨_,rfl⟩
theorem fl_eArg(x:DArg)(c:CC)(h:c∈enc_eArg x):∃v,c=.lit v:=by
 simp only[enc_eArg,List.mem_cons,List.not_mem_nil,or_false] at h
 rcases h with rfl|rfl|rfl|rfl|rfl<;>exact⟨_,rfl⟩
theorem fl_lArg(x:DArg)(c:CC)(h:c∈enc_lArg x):∃v,c=.lit v:=by
 simp only[enc_lArg,List.mem_cons,List.not_mem_nil,or_false] at h
 rcases h with rfl|rfl|rfl|rfl|rfl<;>exact⟨_,rfl⟩
theorem fl_eBind(x:DBind)(c:CC)(h:c∈enc_eBind x):∃v,c=.lit v:=by
 simp only[enc_eBind,List.mem_cons,List.not_mem_nil,or_false] at h
 rcases h with rfl|rfl|rfl|rfl<;>exact⟨_,rfl⟩
theorem fl_lBind(x:DBind)(c:CC)(h:c∈enc_lBind x):∃v,c=.lit v:=by
 simp only[enc_lBind,List.mem_cons,List.not_mem_nil,or_false] at h
 rcases h with rfl|rfl|rfl|rfl<;>exact⟨_,rfl⟩
theorem fl_eCond(x:DCond)(c:CC)(h:c∈enc_eCond x):∃v,c=.lit v:=by
 simp only[enc_eCond,List.mem_cons,List.not_mem_nil,or_false] at h
 rcases h with rfl|rfl|rfl|rfl|rfl|rfl|rfl|rfl|rfl|rfl|rfl<;>exact⟨_,rfl⟩
theorem fl_lCond(x:DCond)(c:CC)(h:c∈enc_lCond x):∃v,c=.lit v:=by
 simp only[enc_lCond,List.mem_cons,List.not_mem_nil,or_false] at h
 rcases h with rfl|rfl|rfl|rfl|rfl|rfl|rfl|rfl|rfl|rfl|rfl<;>exact⟨_,rfl⟩
theorem fl_eExpr(x:DExpr)(c:CC)(h:c∈enc_eExpr x):∃v,c=.lit v:=by
 simp only[enc_eExpr,List.mem_cons,List.not_mem_nil,or_false] at h
 rcases h with rfl|rfl|rfl|rfl|rfl|rfl|rfl|rfl|rfl|rfl|rfl<;>exact⟨_,rfl⟩
theorem fl_lExpr(x:DExpr)(c:CC)(h:c∈enc_lExpr x):∃v,c=.lit v:=by
 simp only[enc_lExpr,List.mem_cons,List.not_mem_nil,or_false] at h
 rcases h with rfl|rfl|rfl|rfl|rfl|rfl|rfl|rfl|rfl|rfl|rfl<;>exact⟨_,rfl⟩
noncomputable abbrev UU:Uni where
 Ty:=Cd
 T:=Cd.T
 deq:=inferInstance
 wd:=Cd.wd
 enc:=Cd.enc
 dec:=Cd.dec
 dflt:=Cd.dflt
 flat:=Cd.flat
 flat_ok:=by
  intro τ h x c hc
  cases τ
  case int=>exact fl_int x c hc
  case byte=>exact fl_byte x c hc
  case str=>exact fl_str x c hc
  case eVal=>exact fl_eVal x c hc
  case lVal=>exact fl_lVal x c hc
  case eFact=>cases h
  case lFact=>cases h
  case eItem=>cases h
  case lItem=>cases h
  case eStore=>cases h
  case lStore=>cases h
  case eToken=>exact fl_eToken x c hc
  case lToken=>exact fl_lToken x c hc
  case eArg=>exact fl_eArg x c hc
  case lArg=>exact fl_lArg x c hc
  case ePat=>cases h
  case lPat=>cases h
  case eBind=>exact fl_eBind x c hc
  case lBind=>exact fl_lBind x c hc
  case eCond=>exact fl_eCond x c hc
  case lCond=>exact fl_lCond x c hc
  case eExpr=>exact fl_eExpr x c hc
  case lExpr=>exact fl_lExpr x c hc
  case eAct=>cases h
  case lAct=>cases h
  case eRule=>cases h
  case lRule=>cases h
  case eDef=>cases h
  case lDef=>cases h
  case eMatch=>cases h
  case lMatch=>cases h
  case eAlpha=>cases h
  case lAlpha=>cases h
  case eChain=>cases h
  case lChain=>cases h
  case eNet=>cases h
  case lNet=>cases h
  case eIds=>cases h
  case lIds=>cases h
  case eTok=>cases h
  case lTok=>cases h
  case eLevel=>cases h
  case lLevel=>cases h
  case eRow=>cases h
  case lRow=>cases h
  case eMem=>cases h
  case lMem=>cases h
  case eEffect=>cases h
  case lEffect=>cases h
  case eTimer=>cases h
  case lTimer=>cases h
  case eTask=>cases h
  case lTask=>cases h
  case eCall=>cases h
  case lCall=>cases h
  case eUndo=>cases h
  case lUndo=>cases h
  case eInst=>cases h
  case lInst=>cases h
  case eRun=>cases h
  case lRun=>cases h
  case eOp=>cases h
  case lOp=>cases h
  case eWork=>cases h
  case lWork=>cases h
  case eBook=>cases h
  case lBook=>cases h
  case eSent=>cases h
  case lSent=>cases h
 bcode:=.byte
 toB:=fun x=>x
 ofB:=fun x=>x
 toB_ofB:=fun _=>rfl
 enc_b:=fun _=>rfl
 wd_pos:=by intro τ;cases τ<;>decide
 enc_len:=by intro τ x;cases τ<;>rfl
 enc_dec:=by
  intro τ cs x h
  cases τ
  case int=>exact ok_int cs x h
  case byte=>exact ok_byte cs x h
  case str=>exact ok_str cs x h
  case eVal=>exact ok_eVal cs x h
  case lVal=>exact ok_lVal cs x h
  case eFact=>exact ok_eFact cs x h
  case lFact=>exact ok_lFact cs x h
  case eItem=>exact ok_eItem cs x h
  case lItem=>exact ok_lItem cs x h
  case eStore=>exact ok_eStore cs x h
  case lStore=>exact ok_lStore cs x h
  case eToken=>exact ok_eToken cs x h
  case lToken=>exact ok_lToken cs x h
  case eArg=>exact ok_eArg cs x h
  case lArg=>exact ok_lArg cs x h
  case ePat=>exact ok_ePat cs x h
  case lPat=>exact ok_lPat cs x h
  case eBind=>exact ok_eBind cs x h
  case lBind=>exact ok_lBind cs x h
  case eCond=>exact ok_eCond cs x h
  case lCond=>exact ok_lCond cs x h
  case eExpr=>exact ok_eExpr cs x h
  case lExpr=>exact ok_lExpr cs x h
  case eAct=>exact ok_eAct cs x h
  case lAct=>exact ok_lAct cs x h
  case eRule=>exact ok_eRule cs x h
  case lRule=>exact ok_lRule cs x h
  case eDef=>exact ok_eDef cs x h
  case lDef=>exact ok_lDef cs x h
  case eMatch=>exact ok_eMatch cs x h
  case lMatch=>exact ok_lMatch cs x h
  case eAlpha=>exact ok_eAlpha cs x h
  case lAlpha=>exact ok_lAlpha cs x h
  case eChain=>exact ok_eChain cs x h
  case lChain=>exact ok_lChain cs x h
  case eNet=>exact ok_eNet cs x h
  case lNet=>exact ok_lNet cs x h
  case eIds=>exact ok_eIds cs x h
  case lIds=>exact ok_lIds cs x h
  case eTok=>exact ok_eTok cs x h
  case lTok=>exact ok_lTok cs x h
  case eLevel=>exact ok_eLevel cs x h
  case lLevel=>exact ok_lLevel cs x h
  case eRow=>exact ok_eRow cs x h
  case lRow=>exact ok_lRow cs x h
  case eMem=>exact ok_eMem cs x h
  case lMem=>exact ok_lMem cs x h
  case eEffect=>exact ok_eEffect cs x h
  case lEffect=>exact ok_lEffect cs x h
  case eTimer=>exact ok_eTimer cs x h
  case lTimer=>exact ok_lTimer cs x h
  case eTask=>exact ok_eTask cs x h
  case lTask=>exact ok_lTask cs x h
  case eCall=>exact ok_eCall cs x h
  case lCall=>exact ok_lCall cs x h
  case eUndo=>exact ok_eUndo cs x h
  case lUndo=>exact ok_lUndo cs x h
  case eInst=>exact ok_eInst cs x h
  case lInst=>exact ok_lInst cs x h
  case eRun=>exact ok_eRun cs x h
  case lRun=>exact ok_lRun cs x h
  case eOp=>exact ok_eOp cs x h
  case lOp=>exact ok_lOp cs x h
  case eWork=>exact ok_eWork cs x h
  case lWork=>exact ok_lWork cs x h
  case eBook=>exact ok_eBook cs x h
  case lBook=>exact ok_lBook cs x h
  case eSent=>exact ok_eSent cs x h
  case lSent=>exact ok_lSent cs x h
abbrev asD(l:List (DV UU)):List (DV UU):=l
def Lf(a b:List (DV UU)):Prop:=a=b∧asD []=asD []
theorem Lf_iff{a b:List (DV UU)}:Lf a b↔a=b:=⟨fun h=>h.1,fun h=>⟨h,rfl⟩⟩
end
end AM
