/- THE DATA TYPES OF THE PROGRAM: written by gen/types.py. A code with an l ahead is the mirror type of the package laws. -/
import Derived.Test.YtceiiofmelhipaaGreatAmCore
namespace AM
open Go
noncomputable section
structure DVal where
 K:Int
 N:Int
 S:ByteArray
structure DFact where
 Kind:ByteArray
 Fields:List DVal
structure DItem where
 Id:Int
 F:DFact
structure DStore where
 Items:List DItem
 Next:Int
structure DArg where
 K:Int
 S:ByteArray
 V:DVal
structure DPat where
 Kind:ByteArray
 Args:List DArg
 Not:Bool
structure DBind where
 Name:ByteArray
 V:DVal
structure DCond where
 Op:Int
 L:DArg
 R:DArg
structure DExpr where
 Op:ByteArray
 L:DArg
 R:DArg
structure DAct where
 Kind:Int
 Name:ByteArray
 Args:List DExpr
 N:Int
 Undo:ByteArray
structure DRule where
 Name:ByteArray
 Sal:Int
 Pats:List DPat
 Conds:List DCond
 Acts:List DAct
structure DDef where
 Name:ByteArray
 Rules:List DRule
structure DMatch where
 Rule:Int
 Ids:List Int
 Binds:List DBind
structure DEffect where
 Kind:Int
 F:DFact
 Id:Int
 N:Int
 Undo:ByteArray
structure DTimer where
 At:Int
 F:DFact
structure DTask where
 F:DFact
 Undo:ByteArray
 State:Int
 Tries:Int
 Due:Int
 V:DVal
structure DUndo where
 Key:ByteArray
 F:DFact
structure DInst where
 S:DStore
 Fired:List DMatch
 Tasks:List DTask
 Timers:List DTimer
 Undos:List DUndo
 State:Int
 Now:Int
inductive Cd where
 |int|byte|str|eVal|lVal|eFact|lFact|eItem|lItem|eStore|lStore|eArg|lArg|ePat|lPat|eBind|lBind|eCond|lCond|eExpr|lExpr|eAct|lAct|eRule|lRule|eDef|lDef|eMatch|lMatch|eEffect|lEffect|eTimer|lTimer|eTask|lTask|eUndo|lUndo|eInst|lInst
 deriving DecidableEq
noncomputable def Cd.T:Cd→Type
 | .int=>Int
 | .byte=>Int
 | .str=>ByteArray
 | .eVal=>DVal
 | .lVal=>DVal
 | .eFact=>DFact
 | .lFact=>DFact
 | .eItem=>DItem
 | .lItem=>DItem
 | .eStore=>DStore
 | .lStore=>DStore
 | .eArg=>DArg
 | .lArg=>DArg
 | .ePat=>DPat
 | .lPat=>DPat
 | .eBind=>DBind
 | .lBind=>DBind
 | .eCond=>DCond
 | .lCond=>DCond
 | .eExpr=>DExpr
 | .lExpr=>DExpr
 | .eAct=>DAct
 | .lAct=>DAct
 | .eRule=>DRule
 | .lRule=>DRule
 | .eDef=>DDef
 | .lDef=>DDef
 | .eMatch=>DMatch
 | .lMatch=>DMatch
 | .eEffect=>DEffect
 | .lEffect=>DEffect
 | .eTimer=>DTimer
 | .lTimer=>DTimer
 | .eTask=>DTask
 | .lTask=>DTask
 | .eUndo=>DUndo
 | .lUndo=>DUndo
 | .eInst=>DInst
 | .lInst=>DInst
abbrev CC:=Cell Cd Cd.T
noncomputable def noBytes:ByteArray:=ByteArray.empty
noncomputable def Cd.wd:Cd→Nat
 | .int=>1
 | .byte=>1
 | .str=>1
 | .eVal=>3
 | .lVal=>3
 | .eFact=>2
 | .lFact=>2
 | .eItem=>3
 | .lItem=>3
 | .eStore=>2
 | .lStore=>2
 | .eArg=>5
 | .lArg=>5
 | .ePat=>3
 | .lPat=>3
 | .eBind=>4
 | .lBind=>4
 | .eCond=>11
 | .lCond=>11
 | .eExpr=>11
 | .lExpr=>11
 | .eAct=>5
 | .lAct=>5
 | .eRule=>5
 | .lRule=>5
 | .eDef=>2
 | .lDef=>2
 | .eMatch=>3
 | .lMatch=>3
 | .eEffect=>6
 | .lEffect=>6
 | .eTimer=>3
 | .lTimer=>3
 | .eTask=>9
 | .lTask=>9
 | .eUndo=>3
 | .lUndo=>3
 | .eInst=>8
 | .lInst=>8
noncomputable def enc_int(x:Int):List CC:=[.lit (.int .i64 x)]
noncomputable def dec_int(cs:List CC):Option (Int):=match cs with
 |[.lit (.int .i64 a0)]=>some a0
 |_=>none
theorem ok_int(cs:List CC)(x:Int)(h:dec_int cs=some x):enc_int x=cs:=by
 unfold dec_int at h;split at h<;>cases h;rfl
noncomputable def enc_byte(x:Int):List CC:=[.lit (.int .u8 x)]
noncomputable def dec_byte(cs:List CC):Option (Int):=match cs with
 |[.lit (.int .u8 a0)]=>some a0
 |_=>none
theorem ok_byte(cs:List CC)(x:Int)(h:dec_byte cs=some x):enc_byte x=cs:=by
 unfold dec_byte at h;split at h<;>cases h;rfl
noncomputable def enc_str(x:ByteArray):List CC:=[.lit (.string x)]
noncomputable def dec_str(cs:List CC):Option (ByteArray):=match cs with
 |[.lit (.string a0)]=>some a0
 |_=>none
theorem ok_str(cs:List CC)(x:ByteArray)(h:dec_str cs=some x):enc_str x=cs:=by
 unfold dec_str at h;split at h<;>cases h;rfl
noncomputable def enc_eVal(x:DVal):List CC:=[.lit (.int .i64 x.K),.lit (.int .i64 x.N),.lit (.string x.S)]
noncomputable def dec_eVal(cs:List CC):Option (DVal):=match cs with
 |[.lit (.int .i64 a0),.lit (.int .i64 a1),.lit (.string a2)]=>some ⟨a0,a1,a2⟩
 |_=>none
theorem ok_eVal(cs:List CC)(x:DVal)(h:dec_eVal cs=some x):enc_eVal x=cs:=by
 unfold dec_eVal at h;split at h<;>cases h;rfl
noncomputable def enc_lVal(x:DVal):List CC:=[.lit (.int .i64 x.K),.lit (.int .i64 x.N),.lit (.string x.S)]
noncomputable def dec_lVal(cs:List CC):Option (DVal):=match cs with
 |[.lit (.int .i64 a0),.lit (.int .i64 a1),.lit (.string a2)]=>some ⟨a0,a1,a2⟩
 |_=>none
theorem ok_lVal(cs:List CC)(x:DVal)(h:dec_lVal cs=some x):enc_lVal x=cs:=by
 unfold dec_lVal at h;split at h<;>cases h;rfl
noncomputable def enc_eFact(x:DFact):List CC:=[.lit (.string x.Kind),.sl .eVal x.Fields]
noncomputable def dec_eFact(cs:List CC):Option (DFact):=match cs with
 |[.lit (.string a0),.sl .eVal a1]=>some ⟨a0,a1⟩
 |_=>none
theorem ok_eFact(cs:List CC)(x:DFact)(h:dec_eFact cs=some x):enc_eFact x=cs:=by
 unfold dec_eFact at h;split at h<;>cases h;rfl
noncomputable def enc_lFact(x:DFact):List CC:=[.lit (.string x.Kind),.sl .lVal x.Fields]
noncomputable def dec_lFact(cs:List CC):Option (DFact):=match cs with
 |[.lit (.string a0),.sl .lVal a1]=>some ⟨a0,a1⟩
 |_=>none
theorem ok_lFact(cs:List CC)(x:DFact)(h:dec_lFact cs=some x):enc_lFact x=cs:=by
 unfold dec_lFact at h;split at h<;>cases h;rfl
noncomputable def enc_eItem(x:DItem):List CC:=[.lit (.int .i64 x.Id),.lit (.string x.F.Kind),.sl .eVal x.F.Fields]
noncomputable def dec_eItem(cs:List CC):Option (DItem):=match cs with
 |[.lit (.int .i64 a0),.lit (.string a1),.sl .eVal a2]=>some ⟨a0,⟨a1,a2⟩⟩
 |_=>none
theorem ok_eItem(cs:List CC)(x:DItem)(h:dec_eItem cs=some x):enc_eItem x=cs:=by
 unfold dec_eItem at h;split at h<;>cases h;rfl
noncomputable def enc_lItem(x:DItem):List CC:=[.lit (.int .i64 x.Id),.lit (.string x.F.Kind),.sl .lVal x.F.Fields]
noncomputable def dec_lItem(cs:List CC):Option (DItem):=match cs with
 |[.lit (.int .i64 a0),.lit (.string a1),.sl .lVal a2]=>some ⟨a0,⟨a1,a2⟩⟩
 |_=>none
theorem ok_lItem(cs:List CC)(x:DItem)(h:dec_lItem cs=some x):enc_lItem x=cs:=by
 unfold dec_lItem at h;split at h<;>cases h;rfl
noncomputable def enc_eStore(x:DStore):List CC:=[.sl .eItem x.Items,.lit (.int .i64 x.Next)]
noncomputable def dec_eStore(cs:List CC):Option (DStore):=match cs with
 |[.sl .eItem a0,.lit (.int .i64 a1)]=>some ⟨a0,a1⟩
 |_=>none
theorem ok_eStore(cs:List CC)(x:DStore)(h:dec_eStore cs=some x):enc_eStore x=cs:=by
 unfold dec_eStore at h;split at h<;>cases h;rfl
noncomputable def enc_lStore(x:DStore):List CC:=[.sl .lItem x.Items,.lit (.int .i64 x.Next)]
noncomputable def dec_lStore(cs:List CC):Option (DStore):=match cs with
 |[.sl .lItem a0,.lit (.int .i64 a1)]=>some ⟨a0,a1⟩
 |_=>none
theorem ok_lStore(cs:List CC)(x:DStore)(h:dec_lStore cs=some x):enc_lStore x=cs:=by
 unfold dec_lStore at h;split at h<;>cases h;rfl
noncomputable def enc_eArg(x:DArg):List CC:=[.lit (.int .i64 x.K),.lit (.string x.S),.lit (.int .i64 x.V.K),.lit (.int .i64 x.V.N),.lit (.string x.V.S)]
noncomputable def dec_eArg(cs:List CC):Option (DArg):=match cs with
 |[.lit (.int .i64 a0),.lit (.string a1),.lit (.int .i64 a2),.lit (.int .i64 a3),.lit (.string a4)]=>some ⟨a0,a1,⟨a2,a3,a4⟩⟩
 |_=>none
theorem ok_eArg(cs:List CC)(x:DArg)(h:dec_eArg cs=some x):enc_eArg x=cs:=by
 unfold dec_eArg at h;split at h<;>cases h;rfl
noncomputable def enc_lArg(x:DArg):List CC:=[.lit (.int .i64 x.K),.lit (.string x.S),.lit (.int .i64 x.V.K),.lit (.int .i64 x.V.N),.lit (.string x.V.S)]
noncomputable def dec_lArg(cs:List CC):Option (DArg):=match cs with
 |[.lit (.int .i64 a0),.lit (.string a1),.lit (.int .i64 a2),.lit (.int .i64 a3),.lit (.string a4)]=>some ⟨a0,a1,⟨a2,a3,a4⟩⟩
 |_=>none
theorem ok_lArg(cs:List CC)(x:DArg)(h:dec_lArg cs=some x):enc_lArg x=cs:=by
 unfold dec_lArg at h;split at h<;>cases h;rfl
noncomputable def enc_ePat(x:DPat):List CC:=[.lit (.string x.Kind),.sl .eArg x.Args,.lit (.bool x.Not)]
noncomputable def dec_ePat(cs:List CC):Option (DPat):=match cs with
 |[.lit (.string a0),.sl .eArg a1,.lit (.bool a2)]=>some ⟨a0,a1,a2⟩
 |_=>none
theorem ok_ePat(cs:List CC)(x:DPat)(h:dec_ePat cs=some x):enc_ePat x=cs:=by
 unfold dec_ePat at h;split at h<;>cases h;rfl
noncomputable def enc_lPat(x:DPat):List CC:=[.lit (.string x.Kind),.sl .lArg x.Args,.lit (.bool x.Not)]
noncomputable def dec_lPat(cs:List CC):Option (DPat):=match cs with
 |[.lit (.string a0),.sl .lArg a1,.lit (.bool a2)]=>some ⟨a0,a1,a2⟩
 |_=>none
theorem ok_lPat(cs:List CC)(x:DPat)(h:dec_lPat cs=some x):enc_lPat x=cs:=by
 unfold dec_lPat at h;split at h<;>cases h;rfl
noncomputable def enc_eBind(x:DBind):List CC:=[.lit (.string x.Name),.lit (.int .i64 x.V.K),.lit (.int .i64 x.V.N),.lit (.string x.V.S)]
noncomputable def dec_eBind(cs:List CC):Option (DBind):=match cs with
 |[.lit (.string a0),.lit (.int .i64 a1),.lit (.int .i64 a2),.lit (.string a3)]=>some ⟨a0,⟨a1,a2,a3⟩⟩
 |_=>none
theorem ok_eBind(cs:List CC)(x:DBind)(h:dec_eBind cs=some x):enc_eBind x=cs:=by
 unfold dec_eBind at h;split at h<;>cases h;rfl
noncomputable def enc_lBind(x:DBind):List CC:=[.lit (.string x.Name),.lit (.int .i64 x.V.K),.lit (.int .i64 x.V.N),.lit (.string x.V.S)]
noncomputable def dec_lBind(cs:List CC):Option (DBind):=match cs with
 |[.lit (.string a0),.lit (.int .i64 a1),.lit (.int .i64 a2),.lit (.string a3)]=>some ⟨a0,⟨a1,a2,a3⟩⟩
 |_=>none
theorem ok_lBind(cs:List CC)(x:DBind)(h:dec_lBind cs=some x):enc_lBind x=cs:=by
 unfold dec_lBind at h;split at h<;>cases h;rfl
noncomputable def enc_eCond(x:DCond):List CC:=[.lit (.int .i64 x.Op),.lit (.int .i64 x.L.K),.lit (.string x.L.S),.lit (.int .i64 x.L.V.K),.lit (.int .i64 x.L.V.N),.lit (.string x.L.V.S),.lit (.int .i64 x.R.K),.lit (.string x.R.S),.lit (.int .i64 x.R.V.K),.lit (.int .i64 x.R.V.N),.lit (.string x.R.V.S)]
noncomputable def dec_eCond(cs:List CC):Option (DCond):=match cs with
 |[.lit (.int .i64 a0),.lit (.int .i64 a1),.lit (.string a2),.lit (.int .i64 a3),.lit (.int .i64 a4),.lit (.string a5),.lit (.int .i64 a6),.lit (.string a7),.lit (.int .i64 a8),.lit (.int .i64 a9),.lit (.string a10)]=>some ⟨a0,⟨a1,a2,⟨a3,a4,a5⟩⟩,⟨a6,a7,⟨a8,a9,a10⟩⟩⟩
 |_=>none
theorem ok_eCond(cs:List CC)(x:DCond)(h:dec_eCond cs=some x):enc_eCond x=cs:=by
 unfold dec_eCond at h;split at h<;>cases h;rfl
noncomputable def enc_lCond(x:DCond):List CC:=[.lit (.int .i64 x.Op),.lit (.int .i64 x.L.K),.lit (.string x.L.S),.lit (.int .i64 x.L.V.K),.lit (.int .i64 x.L.V.N),.lit (.string x.L.V.S),.lit (.int .i64 x.R.K),.lit (.string x.R.S),.lit (.int .i64 x.R.V.K),.lit (.int .i64 x.R.V.N),.lit (.string x.R.V.S)]
noncomputable def dec_lCond(cs:List CC):Option (DCond):=match cs with
 |[.lit (.int .i64 a0),.lit (.int .i64 a1),.lit (.string a2),.lit (.int .i64 a3),.lit (.int .i64 a4),.lit (.string a5),.lit (.int .i64 a6),.lit (.string a7),.lit (.int .i64 a8),.lit (.int .i64 a9),.lit (.string a10)]=>some ⟨a0,⟨a1,a2,⟨a3,a4,a5⟩⟩,⟨a6,a7,⟨a8,a9,a10⟩⟩⟩
 |_=>none
theorem ok_lCond(cs:List CC)(x:DCond)(h:dec_lCond cs=some x):enc_lCond x=cs:=by
 unfold dec_lCond at h;split at h<;>cases h;rfl
noncomputable def enc_eExpr(x:DExpr):List CC:=[.lit (.string x.Op),.lit (.int .i64 x.L.K),.lit (.string x.L.S),.lit (.int .i64 x.L.V.K),.lit (.int .i64 x.L.V.N),.lit (.string x.L.V.S),.lit (.int .i64 x.R.K),.lit (.string x.R.S),.lit (.int .i64 x.R.V.K),.lit (.int .i64 x.R.V.N),.lit (.string x.R.V.S)]
noncomputable def dec_eExpr(cs:List CC):Option (DExpr):=match cs with
 |[.lit (.string a0),.lit (.int .i64 a1),.lit (.string a2),.lit (.int .i64 a3),.lit (.int .i64 a4),.lit (.string a5),.lit (.int .i64 a6),.lit (.string a7),.lit (.int .i64 a8),.lit (.int .i64 a9),.lit (.string a10)]=>some ⟨a0,⟨a1,a2,⟨a3,a4,a5⟩⟩,⟨a6,a7,⟨a8,a9,a10⟩⟩⟩
 |_=>none
theorem ok_eExpr(cs:List CC)(x:DExpr)(h:dec_eExpr cs=some x):enc_eExpr x=cs:=by
 unfold dec_eExpr at h;split at h<;>cases h;rfl
noncomputable def enc_lExpr(x:DExpr):List CC:=[.lit (.string x.Op),.lit (.int .i64 x.L.K),.lit (.string x.L.S),.lit (.int .i64 x.L.V.K),.lit (.int .i64 x.L.V.N),.lit (.string x.L.V.S),.lit (.int .i64 x.R.K),.lit (.string x.R.S),.lit (.int .i64 x.R.V.K),.lit (.int .i64 x.R.V.N),.lit (.string x.R.V.S)]
noncomputable def dec_lExpr(cs:List CC):Option (DExpr):=match cs with
 |[.lit (.string a0),.lit (.int .i64 a1),.lit (.string a2),.lit (.int .i64 a3),.lit (.int .i64 a4),.lit (.string a5),.lit (.int .i64 a6),.lit (.string a7),.lit (.int .i64 a8),.lit (.int .i64 a9),.lit (.string a10)]=>some ⟨a0,⟨a1,a2,⟨a3,a4,a5⟩⟩,⟨a6,a7,⟨a8,a9,a10⟩⟩⟩
 |_=>none
theorem ok_lExpr(cs:List CC)(x:DExpr)(h:dec_lExpr cs=some x):enc_lExpr x=cs:=by
 unfold dec_lExpr at h;split at h<;>cases h;rfl
noncomputable def enc_eAct(x:DAct):List CC:=[.lit (.int .i64 x.Kind),.lit (.string x.Name),.sl .eExpr x.Args,.lit (.int .i64 x.N),.lit (.string x.Undo)]
noncomputable def dec_eAct(cs:List CC):Option (DAct):=match cs with
 |[.lit (.int .i64 a0),.lit (.string a1),.sl .eExpr a2,.lit (.int .i64 a3),.lit (.string a4)]=>some ⟨a0,a1,a2,a3,a4⟩
 |_=>none
theorem ok_eAct(cs:List CC)(x:DAct)(h:dec_eAct cs=some x):enc_eAct x=cs:=by
 unfold dec_eAct at h;split at h<;>cases h;rfl
noncomputable def enc_lAct(x:DAct):List CC:=[.lit (.int .i64 x.Kind),.lit (.string x.Name),.sl .lExpr x.Args,.lit (.int .i64 x.N),.lit (.string x.Undo)]
noncomputable def dec_lAct(cs:List CC):Option (DAct):=match cs with
 |[.lit (.int .i64 a0),.lit (.string a1),.sl .lExpr a2,.lit (.int .i64 a3),.lit (.string a4)]=>some ⟨a0,a1,a2,a3,a4⟩
 |_=>none
theorem ok_lAct(cs:List CC)(x:DAct)(h:dec_lAct cs=some x):enc_lAct x=cs:=by
 unfold dec_lAct at h;split at h<;>cases h;rfl
noncomputable def enc_eRule(x:DRule):List CC:=[.lit (.string x.Name),.lit (.int .i64 x.Sal),.sl .ePat x.Pats,.sl .eCond x.Conds,.sl .eAct x.Acts]
noncomputable def dec_eRule(cs:List CC):Option (DRule):=match cs with
 |[.lit (.string a0),.lit (.int .i64 a1),.sl .ePat a2,.sl .eCond a3,.sl .eAct a4]=>some ⟨a0,a1,a2,a3,a4⟩
 |_=>none
theorem ok_eRule(cs:List CC)(x:DRule)(h:dec_eRule cs=some x):enc_eRule x=cs:=by
 unfold dec_eRule at h;split at h<;>cases h;rfl
noncomputable def enc_lRule(x:DRule):List CC:=[.lit (.string x.Name),.lit (.int .i64 x.Sal),.sl .lPat x.Pats,.sl .lCond x.Conds,.sl .lAct x.Acts]
noncomputable def dec_lRule(cs:List CC):Option (DRule):=match cs with
 |[.lit (.string a0),.lit (.int .i64 a1),.sl .lPat a2,.sl .lCond a3,.sl .lAct a4]=>some ⟨a0,a1,a2,a3,a4⟩
 |_=>none
theorem ok_lRule(cs:List CC)(x:DRule)(h:dec_lRule cs=some x):enc_lRule x=cs:=by
 unfold dec_lRule at h;split at h<;>cases h;rfl
noncomputable def enc_eDef(x:DDef):List CC:=[.lit (.string x.Name),.sl .eRule x.Rules]
noncomputable def dec_eDef(cs:List CC):Option (DDef):=match cs with
 |[.lit (.string a0),.sl .eRule a1]=>some ⟨a0,a1⟩
 |_=>none
theorem ok_eDef(cs:List CC)(x:DDef)(h:dec_eDef cs=some x):enc_eDef x=cs:=by
 unfold dec_eDef at h;split at h<;>cases h;rfl
noncomputable def enc_lDef(x:DDef):List CC:=[.lit (.string x.Name),.sl .lRule x.Rules]
noncomputable def dec_lDef(cs:List CC):Option (DDef):=match cs with
 |[.lit (.string a0),.sl .lRule a1]=>some ⟨a0,a1⟩
 |_=>none
theorem ok_lDef(cs:List CC)(x:DDef)(h:dec_lDef cs=some x):enc_lDef x=cs:=by
 unfold dec_lDef at h;split at h<;>cases h;rfl
noncomputable def enc_eMatch(x:DMatch):List CC:=[.lit (.int .i64 x.Rule),.sl .int x.Ids,.sl .eBind x.Binds]
noncomputable def dec_eMatch(cs:List CC):Option (DMatch):=match cs with
 |[.lit (.int .i64 a0),.sl .int a1,.sl .eBind a2]=>some ⟨a0,a1,a2⟩
 |_=>none
theorem ok_eMatch(cs:List CC)(x:DMatch)(h:dec_eMatch cs=some x):enc_eMatch x=cs:=by
 unfold dec_eMatch at h;split at h<;>cases h;rfl
noncomputable def enc_lMatch(x:DMatch):List CC:=[.lit (.int .i64 x.Rule),.sl .int x.Ids,.sl .lBind x.Binds]
noncomputable def dec_lMatch(cs:List CC):Option (DMatch):=match cs with
 |[.lit (.int .i64 a0),.sl .int a1,.sl .lBind a2]=>some ⟨a0,a1,a2⟩
 |_=>none
theorem ok_lMatch(cs:List CC)(x:DMatch)(h:dec_lMatch cs=some x):enc_lMatch x=cs:=by
 unfold dec_lMatch at h;split at h<;>cases h;rfl
noncomputable def enc_eEffect(x:DEffect):List CC:=[.lit (.int .i64 x.Kind),.lit (.string x.F.Kind),.sl .eVal x.F.Fields,.lit (.int .i64 x.Id),.lit (.int .i64 x.N),.lit (.string x.Undo)]
noncomputable def dec_eEffect(cs:List CC):Option (DEffect):=match cs with
 |[.lit (.int .i64 a0),.lit (.string a1),.sl .eVal a2,.lit (.int .i64 a3),.lit (.int .i64 a4),.lit (.string a5)]=>some ⟨a0,⟨a1,a2⟩,a3,a4,a5⟩
 |_=>none
theorem ok_eEffect(cs:List CC)(x:DEffect)(h:dec_eEffect cs=some x):enc_eEffect x=cs:=by
 unfold dec_eEffect at h;split at h<;>cases h;rfl
noncomputable def enc_lEffect(x:DEffect):List CC:=[.lit (.int .i64 x.Kind),.lit (.string x.F.Kind),.sl .lVal x.F.Fields,.lit (.int .i64 x.Id),.lit (.int .i64 x.N),.lit (.string x.Undo)]
noncomputable def dec_lEffect(cs:List CC):Option (DEffect):=match cs with
 |[.lit (.int .i64 a0),.lit (.string a1),.sl .lVal a2,.lit (.int .i64 a3),.lit (.int .i64 a4),.lit (.string a5)]=>some ⟨a0,⟨a1,a2⟩,a3,a4,a5⟩
 |_=>none
theorem ok_lEffect(cs:List CC)(x:DEffect)(h:dec_lEffect cs=some x):enc_lEffect x=cs:=by
 unfold dec_lEffect at h;split at h<;>cases h;rfl
noncomputable def enc_eTimer(x:DTimer):List CC:=[.lit (.int .i64 x.At),.lit (.string x.F.Kind),.sl .eVal x.F.Fields]
noncomputable def dec_eTimer(cs:List CC):Option (DTimer):=match cs with
 |[.lit (.int .i64 a0),.lit (.string a1),.sl .eVal a2]=>some ⟨a0,⟨a1,a2⟩⟩
 |_=>none
theorem ok_eTimer(cs:List CC)(x:DTimer)(h:dec_eTimer cs=some x):enc_eTimer x=cs:=by
 unfold dec_eTimer at h;split at h<;>cases h;rfl
noncomputable def enc_lTimer(x:DTimer):List CC:=[.lit (.int .i64 x.At),.lit (.string x.F.Kind),.sl .lVal x.F.Fields]
noncomputable def dec_lTimer(cs:List CC):Option (DTimer):=match cs with
 |[.lit (.int .i64 a0),.lit (.string a1),.sl .lVal a2]=>some ⟨a0,⟨a1,a2⟩⟩
 |_=>none
theorem ok_lTimer(cs:List CC)(x:DTimer)(h:dec_lTimer cs=some x):enc_lTimer x=cs:=by
 unfold dec_lTimer at h;split at h<;>cases h;rfl
noncomputable def enc_eTask(x:DTask):List CC:=[.lit (.string x.F.Kind),.sl .eVal x.F.Fields,.lit (.string x.Undo),.lit (.int .i64 x.State),.lit (.int .i64 x.Tries),.lit (.int .i64 x.Due),.lit (.int .i64 x.V.K),.lit (.int .i64 x.V.N),.lit (.string x.V.S)]
noncomputable def dec_eTask(cs:List CC):Option (DTask):=match cs with
 |[.lit (.string a0),.sl .eVal a1,.lit (.string a2),.lit (.int .i64 a3),.lit (.int .i64 a4),.lit (.int .i64 a5),.lit (.int .i64 a6),.lit (.int .i64 a7),.lit (.string a8)]=>some ⟨⟨a0,a1⟩,a2,a3,a4,a5,⟨a6,a7,a8⟩⟩
 |_=>none
theorem ok_eTask(cs:List CC)(x:DTask)(h:dec_eTask cs=some x):enc_eTask x=cs:=by
 unfold dec_eTask at h;split at h<;>cases h;rfl
noncomputable def enc_lTask(x:DTask):List CC:=[.lit (.string x.F.Kind),.sl .lVal x.F.Fields,.lit (.string x.Undo),.lit (.int .i64 x.State),.lit (.int .i64 x.Tries),.lit (.int .i64 x.Due),.lit (.int .i64 x.V.K),.lit (.int .i64 x.V.N),.lit (.string x.V.S)]
noncomputable def dec_lTask(cs:List CC):Option (DTask):=match cs with
 |[.lit (.string a0),.sl .lVal a1,.lit (.string a2),.lit (.int .i64 a3),.lit (.int .i64 a4),.lit (.int .i64 a5),.lit (.int .i64 a6),.lit (.int .i64 a7),.lit (.string a8)]=>some ⟨⟨a0,a1⟩,a2,a3,a4,a5,⟨a6,a7,a8⟩⟩
 |_=>none
theorem ok_lTask(cs:List CC)(x:DTask)(h:dec_lTask cs=some x):enc_lTask x=cs:=by
 unfold dec_lTask at h;split at h<;>cases h;rfl
noncomputable def enc_eUndo(x:DUndo):List CC:=[.lit (.string x.Key),.lit (.string x.F.Kind),.sl .eVal x.F.Fields]
noncomputable def dec_eUndo(cs:List CC):Option (DUndo):=match cs with
 |[.lit (.string a0),.lit (.string a1),.sl .eVal a2]=>some ⟨a0,⟨a1,a2⟩⟩
 |_=>none
theorem ok_eUndo(cs:List CC)(x:DUndo)(h:dec_eUndo cs=some x):enc_eUndo x=cs:=by
 unfold dec_eUndo at h;split at h<;>cases h;rfl
noncomputable def enc_lUndo(x:DUndo):List CC:=[.lit (.string x.Key),.lit (.string x.F.Kind),.sl .lVal x.F.Fields]
noncomputable def dec_lUndo(cs:List CC):Option (DUndo):=match cs with
 |[.lit (.string a0),.lit (.string a1),.sl .lVal a2]=>some ⟨a0,⟨a1,a2⟩⟩
 |_=>none
theorem ok_lUndo(cs:List CC)(x:DUndo)(h:dec_lUndo cs=some x):enc_lUndo x=cs:=by
 unfold dec_lUndo at h;split at h<;>cases h;rfl
noncomputable def enc_eInst(x:DInst):List CC:=[.sl .eItem x.S.Items,.lit (.int .i64 x.S.Next),.sl .eMatch x.Fired,.sl .eTask x.Tasks,.sl .eTimer x.Timers,.sl .eUndo x.Undos,.lit (.int .i64 x.State),.lit (.int .i64 x.Now)]
noncomputable def dec_eInst(cs:List CC):Option (DInst):=match cs with
 |[.sl .eItem a0,.lit (.int .i64 a1),.sl .eMatch a2,.sl .eTask a3,.sl .eTimer a4,.sl .eUndo a5,.lit (.int .i64 a6),.lit (.int .i64 a7)]=>some ⟨⟨a0,a1⟩,a2,a3,a4,a5,a6,a7⟩
 |_=>none
theorem ok_eInst(cs:List CC)(x:DInst)(h:dec_eInst cs=some x):enc_eInst x=cs:=by
 unfold dec_eInst at h;split at h<;>cases h;rfl
noncomputable def enc_lInst(x:DInst):List CC:=[.sl .lItem x.S.Items,.lit (.int .i64 x.S.Next),.sl .lMatch x.Fired,.sl .lTask x.Tasks,.sl .lTimer x.Timers,.sl .lUndo x.Undos,.lit (.int .i64 x.State),.lit (.int .i64 x.Now)]
noncomputable def dec_lInst(cs:List CC):Option (DInst):=match cs with
 |[.sl .lItem a0,.lit (.int .i64 a1),.sl .lMatch a2,.sl .lTask a3,.sl .lTimer a4,.sl .lUndo a5,.lit (.int .i64 a6),.lit (.int .i64 a7)]=>some ⟨⟨a0,a1⟩,a2,a3,a4,a5,a6,a7⟩
 |_=>none
theorem ok_lInst(cs:List CC)(x:DInst)(h:dec_lInst cs=some x):enc_lInst x=cs:=by
 unfold dec_lInst at h;split at h<;>cases h;rfl
noncomputable def Cd.enc:(τ:Cd)→τ.T→List CC
 | .int,x=>enc_int x
 | .byte,x=>enc_byte x
 | .str,x=>enc_str x
 | .eVal,x=>enc_eVal x
 | .lVal,x=>enc_lVal x
 | .eFact,x=>enc_eFact x
 | .lFact,x=>enc_lFact x
 | .eItem,x=>enc_eItem x
 | .lItem,x=>enc_lItem x
 | .eStore,x=>enc_eStore x
 | .lStore,x=>enc_lStore x
 | .eArg,x=>enc_eArg x
 | .lArg,x=>enc_lArg x
 | .ePat,x=>enc_ePat x
 | .lPat,x=>enc_lPat x
 | .eBind,x=>enc_eBind x
 | .lBind,x=>enc_lBind x
 | .eCond,x=>enc_eCond x
 | .lCond,x=>enc_lCond x
 | .eExpr,x=>enc_eExpr x
 | .lExpr,x=>enc_lExpr x
 | .eAct,x=>enc_eAct x
 | .lAct,x=>enc_lAct x
 | .eRule,x=>enc_eRule x
 | .lRule,x=>enc_lRule x
 | .eDef,x=>enc_eDef x
 | .lDef,x=>enc_lDef x
 | .eMatch,x=>enc_eMatch x
 | .lMatch,x=>enc_lMatch x
 | .eEffect,x=>enc_eEffect x
 | .lEffect,x=>enc_lEffect x
 | .eTimer,x=>enc_eTimer x
 | .lTimer,x=>enc_lTimer x
 | .eTask,x=>enc_eTask x
 | .lTask,x=>enc_lTask x
 | .eUndo,x=>enc_eUndo x
 | .lUndo,x=>enc_lUndo x
 | .eInst,x=>enc_eInst x
 | .lInst,x=>enc_lInst x
noncomputable def Cd.dec:(τ:Cd)→List CC→Option τ.T
 | .int,cs=>dec_int cs
 | .byte,cs=>dec_byte cs
 | .str,cs=>dec_str cs
 | .eVal,cs=>dec_eVal cs
 | .lVal,cs=>dec_lVal cs
 | .eFact,cs=>dec_eFact cs
 | .lFact,cs=>dec_lFact cs
 | .eItem,cs=>dec_eItem cs
 | .lItem,cs=>dec_lItem cs
 | .eStore,cs=>dec_eStore cs
 | .lStore,cs=>dec_lStore cs
 | .eArg,cs=>dec_eArg cs
 | .lArg,cs=>dec_lArg cs
 | .ePat,cs=>dec_ePat cs
 | .lPat,cs=>dec_lPat cs
 | .eBind,cs=>dec_eBind cs
 | .lBind,cs=>dec_lBind cs
 | .eCond,cs=>dec_eCond cs
 | .lCond,cs=>dec_lCond cs
 | .eExpr,cs=>dec_eExpr cs
 | .lExpr,cs=>dec_lExpr cs
 | .eAct,cs=>dec_eAct cs
 | .lAct,cs=>dec_lAct cs
 | .eRule,cs=>dec_eRule cs
 | .lRule,cs=>dec_lRule cs
 | .eDef,cs=>dec_eDef cs
 | .lDef,cs=>dec_lDef cs
 | .eMatch,cs=>dec_eMatch cs
 | .lMatch,cs=>dec_lMatch cs
 | .eEffect,cs=>dec_eEffect cs
 | .lEffect,cs=>dec_lEffect cs
 | .eTimer,cs=>dec_eTimer cs
 | .lTimer,cs=>dec_lTimer cs
 | .eTask,cs=>dec_eTask cs
 | .lTask,cs=>dec_lTask cs
 | .eUndo,cs=>dec_eUndo cs
 | .lUndo,cs=>dec_lUndo cs
 | .eInst,cs=>dec_eInst cs
 | .lInst,cs=>dec_lInst cs
noncomputable def zVal:DVal:=⟨0,0,noBytes⟩
noncomputable def zFact:DFact:=⟨noBytes,[]⟩
noncomputable def zItem:DItem:=⟨0,⟨noBytes,[]⟩⟩
noncomputable def zStore:DStore:=⟨[],0⟩
noncomputable def zArg:DArg:=⟨0,noBytes,⟨0,0,noBytes⟩⟩
noncomputable def zPat:DPat:=⟨noBytes,[],false⟩
noncomputable def zBind:DBind:=⟨noBytes,⟨0,0,noBytes⟩⟩
noncomputable def zCond:DCond:=⟨0,⟨0,noBytes,⟨0,0,noBytes⟩⟩,⟨0,noBytes,⟨0,0,noBytes⟩⟩⟩
noncomputable def zExpr:DExpr:=⟨noBytes,⟨0,noBytes,⟨0,0,noBytes⟩⟩,⟨0,noBytes,⟨0,0,noBytes⟩⟩⟩
noncomputable def zAct:DAct:=⟨0,noBytes,[],0,noBytes⟩
noncomputable def zRule:DRule:=⟨noBytes,0,[],[],[]⟩
noncomputable def zDef:DDef:=⟨noBytes,[]⟩
noncomputable def zMatch:DMatch:=⟨0,[],[]⟩
noncomputable def zEffect:DEffect:=⟨0,⟨noBytes,[]⟩,0,0,noBytes⟩
noncomputable def zTimer:DTimer:=⟨0,⟨noBytes,[]⟩⟩
noncomputable def zTask:DTask:=⟨⟨noBytes,[]⟩,noBytes,0,0,0,⟨0,0,noBytes⟩⟩
noncomputable def zUndo:DUndo:=⟨noBytes,⟨noBytes,[]⟩⟩
noncomputable def zInst:DInst:=⟨⟨[],0⟩,[],[],[],[],0,0⟩
noncomputable def Cd.dflt:(τ:Cd)→τ.T
 | .int=>(0:Int)
 | .byte=>(0:Int)
 | .str=>(noBytes:ByteArray)
 | .eVal=>zVal
 | .lVal=>zVal
 | .eFact=>zFact
 | .lFact=>zFact
 | .eItem=>zItem
 | .lItem=>zItem
 | .eStore=>zStore
 | .lStore=>zStore
 | .eArg=>zArg
 | .lArg=>zArg
 | .ePat=>zPat
 | .lPat=>zPat
 | .eBind=>zBind
 | .lBind=>zBind
 | .eCond=>zCond
 | .lCond=>zCond
 | .eExpr=>zExpr
 | .lExpr=>zExpr
 | .eAct=>zAct
 | .lAct=>zAct
 | .eRule=>zRule
 | .lRule=>zRule
 | .eDef=>zDef
 | .lDef=>zDef
 | .eMatch=>zMatch
 | .lMatch=>zMatch
 | .eEffect=>zEffect
 | .lEffect=>zEffect
 | .eTimer=>zTimer
 | .lTimer=>zTimer
 | .eTask=>zTask
 | .lTask=>zTask
 | .eUndo=>zUndo
 | .lUndo=>zUndo
 | .eInst=>zInst
 | .lInst=>zInst
noncomputable def Cd.flat:Cd→Bool
 | .int=>true
 | .byte=>true
 | .str=>true
 | .eVal=>true
 | .lVal=>true
 | .eFact=>false
 | .lFact=>false
 | .eItem=>false
 | .lItem=>false
 | .eStore=>false
 | .lStore=>false
 | .eArg=>true
 | .lArg=>true
 | .ePat=>false
 | .lPat=>false
 | .eBind=>true
 | .lBind=>true
 | .eCond=>true
 | .lCond=>true
 | .eExpr=>true
 | .lExpr=>true
 | .eAct=>false
 | .lAct=>false
 | .eRule=>false
 | .lRule=>false
 | .eDef=>false
 | .lDef=>false
 | .eMatch=>false
 | .lMatch=>false
 | .eEffect=>false
 | .lEffect=>false
 | .eTimer=>false
 | .lTimer=>false
 | .eTask=>false
 | .lTask=>false
 | .eUndo=>false
 | .lUndo=>false
 | .eInst=>false
 | .lInst=>false
theorem fl_int(x:Int)(c:CC)(h:c∈enc_int x):∃v,c=.lit v:=by
 simp only[enc_int,zak,zcf,or_false] at h
 rcases h with rfl<;>exact⟨_,rfl⟩
theorem fl_byte(x:Int)(c:CC)(h:c∈enc_byte x):∃v,c=.lit v:=by
 simp only[enc_byte,zak,zcf,or_false] at h
 rcases h with rfl<;>exact⟨_,rfl⟩
theorem fl_str(x:ByteArray)(c:CC)(h:c∈enc_str x):∃v,c=.lit v:=by
 simp only[enc_str,zak,zcf,or_false] at h
 rcases h with rfl<;>exact⟨_,rfl⟩
theorem fl_eVal(x:DVal)(c:CC)(h:c∈enc_eVal x):∃v,c=.lit v:=by
 simp only[enc_eVal,zak,zcf,or_false] at h
 rcases h with rfl|rfl|rfl<;>exact⟨_,rfl⟩
theorem fl_lVal(x:DVal)(c:CC)(h:c∈enc_lVal x):∃v,c=.lit v:=by
 simp only[enc_lVal,zak,zcf,or_false] at h
 rcases h with rfl|rfl|rfl<;>exact⟨_,rfl⟩
theorem fl_eArg(x:DArg)(c:CC)(h:c∈enc_eArg x):∃v,c=.lit v:=by
 simp only[enc_eArg,zak,zcf,or_false] at h
 rcases h with rfl|rfl|rfl|rfl|rfl<;>exact⟨_,rfl⟩
theorem fl_lArg(x:DArg)(c:CC)(h:c∈enc_lArg x):∃v,c=.lit v:=by
 simp only[enc_lArg,zak,zcf,or_false] at h
 rcases h with rfl|rfl|rfl|rfl|rfl<;>exact⟨_,rfl⟩
theorem fl_eBind(x:DBind)(c:CC)(h:c∈enc_eBind x):∃v,c=.lit v:=by
 simp only[enc_eBind,zak,zcf,or_false] at h
 rcases h with rfl|rfl|rfl|rfl<;>exact⟨_,rfl⟩
theorem fl_lBind(x:DBind)(c:CC)(h:c∈enc_lBind x):∃v,c=.lit v:=by
 simp only[enc_lBind,zak,zcf,or_false] at h
 rcases h with rfl|rfl|rfl|rfl<;>exact⟨_,rfl⟩
theorem fl_eCond(x:DCond)(c:CC)(h:c∈enc_eCond x):∃v,c=.lit v:=by
 simp only[enc_eCond,zak,zcf,or_false] at h
 rcases h with rfl|rfl|rfl|rfl|rfl|rfl|rfl|rfl|rfl|rfl|rfl<;>exact⟨_,rfl⟩
theorem fl_lCond(x:DCond)(c:CC)(h:c∈enc_lCond x):∃v,c=.lit v:=by
 simp only[enc_lCond,zak,zcf,or_false] at h
 rcases h with rfl|rfl|rfl|rfl|rfl|rfl|rfl|rfl|rfl|rfl|rfl<;>exact⟨_,rfl⟩
theorem fl_eExpr(x:DExpr)(c:CC)(h:c∈enc_eExpr x):∃v,c=.lit v:=by
 simp only[enc_eExpr,zak,zcf,or_false] at h
 rcases h with rfl|rfl|rfl|rfl|rfl|rfl|rfl|rfl|rfl|rfl|rfl<;>exact⟨_,rfl⟩
theorem fl_lExpr(x:DExpr)(c:CC)(h:c∈enc_lExpr x):∃v,c=.lit v:=by
 simp only[enc_lExpr,zak,zcf,or_false] at h
 rcases h with rfl|rfl|rfl|rfl|rfl|rfl|rfl|rfl|rfl|rfl|rfl<;>exact⟨_,rfl⟩
noncomputable abbrev UU:Uni where
 Ty:=Cd
 T:=Cd.T
 deq:=inferInstance
 wd:=Cd.wd
 enc:=Cd.enc
 dec:=Cd.dec
 dflt:=Cd.dflt
 flat:=Cd.flat
 flat_ok:=by
  intro τ h x c hc
  cases τ
  case int=>exact fl_int x c hc
  case byte=>exact fl_byte x c hc
  case str=>exact fl_str x c hc
  case eVal=>exact fl_eVal x c hc
  case lVal=>exact fl_lVal x c hc
  case eFact=>cases h
  case lFact=>cases h
  case eItem=>cases h
  case lItem=>cases h
  case eStore=>cases h
  case lStore=>cases h
  case eArg=>exact fl_eArg x c hc
  case lArg=>exact fl_lArg x c hc
  case ePat=>cases h
  case lPat=>cases h
  case eBind=>exact fl_eBind x c hc
  case lBind=>exact fl_lBind x c hc
  case eCond=>exact fl_eCond x c hc
  case lCond=>exact fl_lCond x c hc
  case eExpr=>exact fl_eExpr x c hc
  case lExpr=>exact fl_lExpr x c hc
  case eAct=>cases h
  case lAct=>cases h
  case eRule=>cases h
  case lRule=>cases h
  case eDef=>cases h
  case lDef=>cases h
  case eMatch=>cases h
  case lMatch=>cases h
  case eEffect=>cases h
  case lEffect=>cases h
  case eTimer=>cases h
  case lTimer=>cases h
  case eTask=>cases h
  case lTask=>cases h
  case eUndo=>cases h
  case lUndo=>cases h
  case eInst=>cases h
  case lInst=>cases h
 bcode:=.byte
 toB:=fun x=>x
 ofB:=fun x=>x
 toB_ofB:=fun _=>rfl
 enc_b:=fun _=>rfl
 wd_pos:=by intro τ;cases τ<;>decide
 enc_len:=by intro τ x;cases τ<;>rfl
 enc_dec:=by
  intro τ cs x h
  cases τ
  case int=>exact ok_int cs x h
  case byte=>exact ok_byte cs x h
  case str=>exact ok_str cs x h
  case eVal=>exact ok_eVal cs x h
  case lVal=>exact ok_lVal cs x h
  case eFact=>exact ok_eFact cs x h
  case lFact=>exact ok_lFact cs x h
  case eItem=>exact ok_eItem cs x h
  case lItem=>exact ok_lItem cs x h
  case eStore=>exact ok_eStore cs x h
  case lStore=>exact ok_lStore cs x h
  case eArg=>exact ok_eArg cs x h
  case lArg=>exact ok_lArg cs x h
  case ePat=>exact ok_ePat cs x h
  case lPat=>exact ok_lPat cs x h
  case eBind=>exact ok_eBind cs x h
  case lBind=>exact ok_lBind cs x h
  case eCond=>exact ok_eCond cs x h
  case lCond=>exact ok_lCond cs x h
  case eExpr=>exact ok_eExpr cs x h
  case lExpr=>exact ok_lExpr cs x h
  case eAct=>exact ok_eAct cs x h
  case lAct=>exact ok_lAct cs x h
  case eRule=>exact ok_eRule cs x h
  case lRule=>exact ok_lRule cs x h
  case eDef=>exact ok_eDef cs x h
  case lDef=>exact ok_lDef cs x h
  case eMatch=>exact ok_eMatch cs x h
  case lMatch=>exact ok_lMatch cs x h
  case eEffect=>exact ok_eEffect cs x h
  case lEffect=>exact ok_lEffect cs x h
  case eTimer=>exact ok_eTimer cs x h
  case lTimer=>exact ok_lTimer cs x h
  case eTask=>exact ok_eTask cs x h
  case lTask=>exact ok_lTask cs x h
  case eUndo=>exact ok_eUndo cs x h
  case lUndo=>exact ok_lUndo cs x h
  case eInst=>exact ok_eInst cs x h
  case lInst=>exact ok_lInst cs x h
abbrev asD(l:List (DV UU)):List (DV UU):=l
def Lf(a b:List (DV UU)):Prop:=a=b∧asD []=asD []
theorem Lf_iff{a b:List (DV UU)}:Lf a b↔a=b:=⟨fun h=>h.1,fun h=>⟨h,rfl⟩⟩
end
end AM
