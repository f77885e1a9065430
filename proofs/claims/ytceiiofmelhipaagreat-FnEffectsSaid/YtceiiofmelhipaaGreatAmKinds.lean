/- The kinds of the data types' cells: written by gen/types.py. -/
import Derived.Test.YtceiiofmelhipaaGreatAmTypes
import Derived.Test.YtceiiofmelhipaaGreatAmLaw
namespace AM
open Go
noncomputable section
def Cd.kinds:Cd→List (K1 UU)
 | .int=>[.int .i64]
 | .byte=>[.int .u8]
 | .str=>[.str]
 | .eVal=>[.int .i64,.int .i64,.str]
 | .lVal=>[.int .i64,.int .i64,.str]
 | .eFact=>[.str,.sl .eVal]
 | .lFact=>[.str,.sl .lVal]
 | .eItem=>[.int .i64,.str,.sl .eVal]
 | .lItem=>[.int .i64,.str,.sl .lVal]
 | .eStore=>[.sl .eItem,.int .i64]
 | .lStore=>[.sl .lItem,.int .i64]
 | .eArg=>[.int .i64,.str,.int .i64,.int .i64,.str]
 | .lArg=>[.int .i64,.str,.int .i64,.int .i64,.str]
 | .ePat=>[.str,.sl .eArg,.bool]
 | .lPat=>[.str,.sl .lArg,.bool]
 | .eBind=>[.str,.int .i64,.int .i64,.str]
 | .lBind=>[.str,.int .i64,.int .i64,.str]
 | .eCond=>[.int .i64,.int .i64,.str,.int .i64,.int .i64,.str,.int .i64,.str,.int .i64,.int .i64,.str]
 | .lCond=>[.int .i64,.int .i64,.str,.int .i64,.int .i64,.str,.int .i64,.str,.int .i64,.int .i64,.str]
 | .eExpr=>[.str,.int .i64,.str,.int .i64,.int .i64,.str,.int .i64,.str,.int .i64,.int .i64,.str]
 | .lExpr=>[.str,.int .i64,.str,.int .i64,.int .i64,.str,.int .i64,.str,.int .i64,.int .i64,.str]
 | .eAct=>[.int .i64,.str,.sl .eExpr,.int .i64,.str]
 | .lAct=>[.int .i64,.str,.sl .lExpr,.int .i64,.str]
 | .eRule=>[.str,.int .i64,.sl .ePat,.sl .eCond,.sl .eAct]
 | .lRule=>[.str,.int .i64,.sl .lPat,.sl .lCond,.sl .lAct]
 | .eDef=>[.str,.sl .eRule]
 | .lDef=>[.str,.sl .lRule]
 | .eMatch=>[.int .i64,.sl .int,.sl .eBind]
 | .lMatch=>[.int .i64,.sl .int,.sl .lBind]
 | .eEffect=>[.int .i64,.str,.sl .eVal,.int .i64,.int .i64,.str]
 | .lEffect=>[.int .i64,.str,.sl .lVal,.int .i64,.int .i64,.str]
 | .eTimer=>[.int .i64,.str,.sl .eVal]
 | .lTimer=>[.int .i64,.str,.sl .lVal]
 | .eTask=>[.str,.sl .eVal,.str,.int .i64,.int .i64,.int .i64,.int .i64,.int .i64,.str]
 | .lTask=>[.str,.sl .lVal,.str,.int .i64,.int .i64,.int .i64,.int .i64,.int .i64,.str]
 | .eUndo=>[.str,.str,.sl .eVal]
 | .lUndo=>[.str,.str,.sl .lVal]
 | .eInst=>[.sl .eItem,.int .i64,.sl .eMatch,.sl .eTask,.sl .eTimer,.sl .eUndo,.int .i64,.int .i64]
 | .lInst=>[.sl .lItem,.int .i64,.sl .lMatch,.sl .lTask,.sl .lTimer,.sl .lUndo,.int .i64,.int .i64]
theorem kd_int(cs:List UU.C)(h:KM (U:=UU) [.int .i64] cs):∃x,dec_int cs=some x:=by
 obtain⟨c0,r0,rfl,⟨a0,rfl⟩,h0⟩:=KM.inv h
 obtain rfl:=KM.inv0 h0
 exact⟨_,rfl⟩
theorem kd_byte(cs:List UU.C)(h:KM (U:=UU) [.int .u8] cs):∃x,dec_byte cs=some x:=by
 obtain⟨c0,r0,rfl,⟨a0,rfl⟩,h0⟩:=KM.inv h
 obtain rfl:=KM.inv0 h0
 exact⟨_,rfl⟩
theorem kd_str(cs:List UU.C)(h:KM (U:=UU) [.str] cs):∃x,dec_str cs=some x:=by
 obtain⟨c0,r0,rfl,⟨a0,rfl⟩,h0⟩:=KM.inv h
 obtain rfl:=KM.inv0 h0
 exact⟨_,rfl⟩
theorem kd_eVal(cs:List UU.C)(h:KM (U:=UU) [.int .i64,.int .i64,.str] cs):∃x,dec_eVal cs=some x:=by
 obtain⟨c0,r0,rfl,⟨a0,rfl⟩,h0⟩:=KM.inv h
 obtain⟨c1,r1,rfl,⟨a1,rfl⟩,h1⟩:=KM.inv h0
 obtain⟨c2,r2,rfl,⟨a2,rfl⟩,h2⟩:=KM.inv h1
 obtain rfl:=KM.inv0 h2
 exact⟨_,rfl⟩
theorem kd_lVal(cs:List UU.C)(h:KM (U:=UU) [.int .i64,.int .i64,.str] cs):∃x,dec_lVal cs=some x:=by
 obtain⟨c0,r0,rfl,⟨a0,rfl⟩,h0⟩:=KM.inv h
 obtain⟨c1,r1,rfl,⟨a1,rfl⟩,h1⟩:=KM.inv h0
 obtain⟨c2,r2,rfl,⟨a2,rfl⟩,h2⟩:=KM.inv h1
 obtain rfl:=KM.inv0 h2
 exact⟨_,rfl⟩
theorem kd_eFact(cs:List UU.C)(h:KM (U:=UU) [.str,.sl .eVal] cs):∃x,dec_eFact cs=some x:=by
 obtain⟨c0,r0,rfl,⟨a0,rfl⟩,h0⟩:=KM.inv h
 obtain⟨c1,r1,rfl,⟨a1,rfl⟩,h1⟩:=KM.inv h0
 obtain rfl:=KM.inv0 h1
 exact⟨_,rfl⟩
theorem kd_lFact(cs:List UU.C)(h:KM (U:=UU) [.str,.sl .lVal] cs):∃x,dec_lFact cs=some x:=by
 obtain⟨c0,r0,rfl,⟨a0,rfl⟩,h0⟩:=KM.inv h
 obtain⟨c1,r1,rfl,⟨a1,rfl⟩,h1⟩:=KM.inv h0
 obtain rfl:=KM.inv0 h1
 exact⟨_,rfl⟩
theorem kd_eItem(cs:List UU.C)(h:KM (U:=UU) [.int .i64,.str,.sl .eVal] cs):∃x,dec_eItem cs=some x:=by
 obtain⟨c0,r0,rfl,⟨a0,rfl⟩,h0⟩:=KM.inv h
 obtain⟨c1,r1,rfl,⟨a1,rfl⟩,h1⟩:=KM.inv h0
 obtain⟨c2,r2,rfl,⟨a2,rfl⟩,h2⟩:=KM.inv h1
 obtain rfl:=KM.inv0 h2
 exact⟨_,rfl⟩
theorem kd_lItem(cs:List UU.C)(h:KM (U:=UU) [.int .i64,.str,.sl .lVal] cs):∃x,dec_lItem cs=some x:=by
 obtain⟨c0,r0,rfl,⟨a0,rfl⟩,h0⟩:=KM.inv h
 obtain⟨c1,r1,rfl,⟨a1,rfl⟩,h1⟩:=KM.inv h0
 obtain⟨c2,r2,rfl,⟨a2,rfl⟩,h2⟩:=KM.inv h1
 obtain rfl:=KM.inv0 h2
 exact⟨_,rfl⟩
theorem kd_eStore(cs:List UU.C)(h:KM (U:=UU) [.sl .eItem,.int .i64] cs):∃x,dec_eStore cs=some x:=by
 obtain⟨c0,r0,rfl,⟨a0,rfl⟩,h0⟩:=KM.inv h
 obtain⟨c1,r1,rfl,⟨a1,rfl⟩,h1⟩:=KM.inv h0
 obtain rfl:=KM.inv0 h1
 exact⟨_,rfl⟩
theorem kd_lStore(cs:List UU.C)(h:KM (U:=UU) [.sl .lItem,.int .i64] cs):∃x,dec_lStore cs=some x:=by
 obtain⟨c0,r0,rfl,⟨a0,rfl⟩,h0⟩:=KM.inv h
 obtain⟨c1,r1,rfl,⟨a1,rfl⟩,h1⟩:=KM.inv h0
 obtain rfl:=KM.inv0 h1
 exact⟨_,rfl⟩
theorem kd_eArg(cs:List UU.C)(h:KM (U:=UU) [.int .i64,.str,.int .i64,.int .i64,.str] cs):∃x,dec_eArg cs=some x:=by
 obtain⟨c0,r0,rfl,⟨a0,rfl⟩,h0⟩:=KM.inv h
 obtain⟨c1,r1,rfl,⟨a1,rfl⟩,h1⟩:=KM.inv h0
 obtain⟨c2,r2,rfl,⟨a2,rfl⟩,h2⟩:=KM.inv h1
 obtain⟨c3,r3,rfl,⟨a3,rfl⟩,h3⟩:=KM.inv h2
 obtain⟨c4,r4,rfl,⟨a4,rfl⟩,h4⟩:=KM.inv h3
 obtain rfl:=KM.inv0 h4
 exact⟨_,rfl⟩
theorem kd_lArg(cs:List UU.C)(h:KM (U:=UU) [.int .i64,.str,.int .i64,.int .i64,.str] cs):∃x,dec_lArg cs=some x:=by
 obtain⟨c0,r0,rfl,⟨a0,rfl⟩,h0⟩:=KM.inv h
 obtain⟨c1,r1,rfl,⟨a1,rfl⟩,h1⟩:=KM.inv h0
 obtain⟨c2,r2,rfl,⟨a2,rfl⟩,h2⟩:=KM.inv h1
 obtain⟨c3,r3,rfl,⟨a3,rfl⟩,h3⟩:=KM.inv h2
 obtain⟨c4,r4,rfl,⟨a4,rfl⟩,h4⟩:=KM.inv h3
 obtain rfl:=KM.inv0 h4
 exact⟨_,rfl⟩
theorem kd_ePat(cs:List UU.C)(h:KM (U:=UU) [.str,.sl .eArg,.bool] cs):∃x,dec_ePat cs=some x:=by
 obtain⟨c0,r0,rfl,⟨a0,rfl⟩,h0⟩:=KM.inv h
 obtain⟨c1,r1,rfl,⟨a1,rfl⟩,h1⟩:=KM.inv h0
 obtain⟨c2,r2,rfl,⟨a2,rfl⟩,h2⟩:=KM.inv h1
 obtain rfl:=KM.inv0 h2
 exact⟨_,rfl⟩
theorem kd_lPat(cs:List UU.C)(h:KM (U:=UU) [.str,.sl .lArg,.bool] cs):∃x,dec_lPat cs=some x:=by
 obtain⟨c0,r0,rfl,⟨a0,rfl⟩,h0⟩:=KM.inv h
 obtain⟨c1,r1,rfl,⟨a1,rfl⟩,h1⟩:=KM.inv h0
 obtain⟨c2,r2,rfl,⟨a2,rfl⟩,h2⟩:=KM.inv h1
 obtain rfl:=KM.inv0 h2
 exact⟨_,rfl⟩
theorem kd_eBind(cs:List UU.C)(h:KM (U:=UU) [.str,.int .i64,.int .i64,.str] cs):∃x,dec_eBind cs=some x:=by
 obtain⟨c0,r0,rfl,⟨a0,rfl⟩,h0⟩:=KM.inv h
 obtain⟨c1,r1,rfl,⟨a1,rfl⟩,h1⟩:=KM.inv h0
 obtain⟨c2,r2,rfl,⟨a2,rfl⟩,h2⟩:=KM.inv h1
 obtain⟨c3,r3,rfl,⟨a3,rfl⟩,h3⟩:=KM.inv h2
 obtain rfl:=KM.inv0 h3
 exact⟨_,rfl⟩
theorem kd_lBind(cs:List UU.C)(h:KM (U:=UU) [.str,.int .i64,.int .i64,.str] cs):∃x,dec_lBind cs=some x:=by
 obtain⟨c0,r0,rfl,⟨a0,rfl⟩,h0⟩:=KM.inv h
 obtain⟨c1,r1,rfl,⟨a1,rfl⟩,h1⟩:=KM.inv h0
 obtain⟨c2,r2,rfl,⟨a2,rfl⟩,h2⟩:=KM.inv h1
 obtain⟨c3,r3,rfl,⟨a3,rfl⟩,h3⟩:=KM.inv h2
 obtain rfl:=KM.inv0 h3
 exact⟨_,rfl⟩
theorem kd_eCond(cs:List UU.C)(h:KM (U:=UU) [.int .i64,.int .i64,.str,.int .i64,.int .i64,.str,.int .i64,.str,.int .i64,.int .i64,.str] cs):∃x,dec_eCond cs=some x:=by
 obtain⟨c0,r0,rfl,⟨a0,rfl⟩,h0⟩:=KM.inv h
 obtain⟨c1,r1,rfl,⟨a1,rfl⟩,h1⟩:=KM.inv h0
 obtain⟨c2,r2,rfl,⟨a2,rfl⟩,h2⟩:=KM.inv h1
 obtain⟨c3,r3,rfl,⟨a3,rfl⟩,h3⟩:=KM.inv h2
 obtain⟨c4,r4,rfl,⟨a4,rfl⟩,h4⟩:=KM.inv h3
 obtain⟨c5,r5,rfl,⟨a5,rfl⟩,h5⟩:=KM.inv h4
 obtain⟨c6,r6,rfl,⟨a6,rfl⟩,h6⟩:=KM.inv h5
 obtain⟨c7,r7,rfl,⟨a7,rfl⟩,h7⟩:=KM.inv h6
 obtain⟨c8,r8,rfl,⟨a8,rfl⟩,h8⟩:=KM.inv h7
 obtain⟨c9,r9,rfl,⟨a9,rfl⟩,h9⟩:=KM.inv h8
 obtain⟨c10,r10,rfl,⟨a10,rfl⟩,h10⟩:=KM.inv h9
 obtain rfl:=KM.inv0 h10
 exact⟨_,rfl⟩
theorem kd_lCond(cs:List UU.C)(h:KM (U:=UU) [.int .i64,.int .i64,.str,.int .i64,.int .i64,.str,.int .i64,.str,.int .i64,.int .i64,.str] cs):∃x,dec_lCond cs=some x:=by
 obtain⟨c0,r0,rfl,⟨a0,rfl⟩,h0⟩:=KM.inv h
 obtain⟨c1,r1,rfl,⟨a1,rfl⟩,h1⟩:=KM.inv h0
 obtain⟨c2,r2,rfl,⟨a2,rfl⟩,h2⟩:=KM.inv h1
 obtain⟨c3,r3,rfl,⟨a3,rfl⟩,h3⟩:=KM.inv h2
 obtain⟨c4,r4,rfl,⟨a4,rfl⟩,h4⟩:=KM.inv h3
 obtain⟨c5,r5,rfl,⟨a5,rfl⟩,h5⟩:=KM.inv h4
 obtain⟨c6,r6,rfl,⟨a6,rfl⟩,h6⟩:=KM.inv h5
 obtain⟨c7,r7,rfl,⟨a7,rfl⟩,h7⟩:=KM.inv h6
 obtain⟨c8,r8,rfl,⟨a8,rfl⟩,h8⟩:=KM.inv h7
 obtain⟨c9,r9,rfl,⟨a9,rfl⟩,h9⟩:=KM.inv h8
 obtain⟨c10,r10,rfl,⟨a10,rfl⟩,h10⟩:=KM.inv h9
 obtain rfl:=KM.inv0 h10
 exact⟨_,rfl⟩
theorem kd_eExpr(cs:List UU.C)(h:KM (U:=UU) [.str,.int .i64,.str,.int .i64,.int .i64,.str,.int .i64,.str,.int .i64,.int .i64,.str] cs):∃x,dec_eExpr cs=some x:=by
 obtain⟨c0,r0,rfl,⟨a0,rfl⟩,h0⟩:=KM.inv h
 obtain⟨c1,r1,rfl,⟨a1,rfl⟩,h1⟩:=KM.inv h0
 obtain⟨c2,r2,rfl,⟨a2,rfl⟩,h2⟩:=KM.inv h1
 obtain⟨c3,r3,rfl,⟨a3,rfl⟩,h3⟩:=KM.inv h2
 obtain⟨c4,r4,rfl,⟨a4,rfl⟩,h4⟩:=KM.inv h3
 obtain⟨c5,r5,rfl,⟨a5,rfl⟩,h5⟩:=KM.inv h4
 obtain⟨c6,r6,rfl,⟨a6,rfl⟩,h6⟩:=KM.inv h5
 obtain⟨c7,r7,rfl,⟨a7,rfl⟩,h7⟩:=KM.inv h6
 obtain⟨c8,r8,rfl,⟨a8,rfl⟩,h8⟩:=KM.inv h7
 obtain⟨c9,r9,rfl,⟨a9,rfl⟩,h9⟩:=KM.inv h8
 obtain⟨c10,r10,rfl,⟨a10,rfl⟩,h10⟩:=KM.inv h9
 obtain rfl:=KM.inv0 h10
 exact⟨_,rfl⟩
theorem kd_lExpr(cs:List UU.C)(h:KM (U:=UU) [.str,.int .i64,.str,.int .i64,.int .i64,.str,.int .i64,.str,.int .i64,.int .i64,.str] cs):∃x,dec_lExpr cs=some x:=by
 obtain⟨c0,r0,rfl,⟨a0,rfl⟩,h0⟩:=KM.inv h
 obtain⟨c1,r1,rfl,⟨a1,rfl⟩,h1⟩:=KM.inv h0
 obtain⟨c2,r2,rfl,⟨a2,rfl⟩,h2⟩:=KM.inv h1
 obtain⟨c3,r3,rfl,⟨a3,rfl⟩,h3⟩:=KM.inv h2
 obtain⟨c4,r4,rfl,⟨a4,rfl⟩,h4⟩:=KM.inv h3
 obtain⟨c5,r5,rfl,⟨a5,rfl⟩,h5⟩:=KM.inv h4
 obtain⟨c6,r6,rfl,⟨a6,rfl⟩,h6⟩:=KM.inv h5
 obtain⟨c7,r7,rfl,⟨a7,rfl⟩,h7⟩:=KM.inv h6
 obtain⟨c8,r8,rfl,⟨a8,rfl⟩,h8⟩:=KM.inv h7
 obtain⟨c9,r9,rfl,⟨a9,rfl⟩,h9⟩:=KM.inv h8
 obtain⟨c10,r10,rfl,⟨a10,rfl⟩,h10⟩:=KM.inv h9
 obtain rfl:=KM.inv0 h10
 exact⟨_,rfl⟩
theorem kd_eAct(cs:List UU.C)(h:KM (U:=UU) [.int .i64,.str,.sl .eExpr,.int .i64,.str] cs):∃x,dec_eAct cs=some x:=by
 obtain⟨c0,r0,rfl,⟨a0,rfl⟩,h0⟩:=KM.inv h
 obtain⟨c1,r1,rfl,⟨a1,rfl⟩,h1⟩:=KM.inv h0
 obtain⟨c2,r2,rfl,⟨a2,rfl⟩,h2⟩:=KM.inv h1
 obtain⟨c3,r3,rfl,⟨a3,rfl⟩,h3⟩:=KM.inv h2
 obtain⟨c4,r4,rfl,⟨a4,rfl⟩,h4⟩:=KM.inv h3
 obtain rfl:=KM.inv0 h4
 exact⟨_,rfl⟩
theorem kd_lAct(cs:List UU.C)(h:KM (U:=UU) [.int .i64,.str,.sl .lExpr,.int .i64,.str] cs):∃x,dec_lAct cs=some x:=by
 obtain⟨c0,r0,rfl,⟨a0,rfl⟩,h0⟩:=KM.inv h
 obtain⟨c1,r1,rfl,⟨a1,rfl⟩,h1⟩:=KM.inv h0
 obtain⟨c2,r2,rfl,⟨a2,rfl⟩,h2⟩:=KM.inv h1
 obtain⟨c3,r3,rfl,⟨a3,rfl⟩,h3⟩:=KM.inv h2
 obtain⟨c4,r4,rfl,⟨a4,rfl⟩,h4⟩:=KM.inv h3
 obtain rfl:=KM.inv0 h4
 exact⟨_,rfl⟩
theorem kd_eRule(cs:List UU.C)(h:KM (U:=UU) [.str,.int .i64,.sl .ePat,.sl .eCond,.sl .eAct] cs):∃x,dec_eRule cs=some x:=by
 obtain⟨c0,r0,rfl,⟨a0,rfl⟩,h0⟩:=KM.inv h
 obtain⟨c1,r1,rfl,⟨a1,rfl⟩,h1⟩:=KM.inv h0
 obtain⟨c2,r2,rfl,⟨a2,rfl⟩,h2⟩:=KM.inv h1
 obtain⟨c3,r3,rfl,⟨a3,rfl⟩,h3⟩:=KM.inv h2
 obtain⟨c4,r4,rfl,⟨a4,rfl⟩,h4⟩:=KM.inv h3
 obtain rfl:=KM.inv0 h4
 exact⟨_,rfl⟩
theorem kd_lRule(cs:List UU.C)(h:KM (U:=UU) [.str,.int .i64,.sl .lPat,.sl .lCond,.sl .lAct] cs):∃x,dec_lRule cs=some x:=by
 obtain⟨c0,r0,rfl,⟨a0,rfl⟩,h0⟩:=KM.inv h
 obtain⟨c1,r1,rfl,⟨a1,rfl⟩,h1⟩:=KM.inv h0
 obtain⟨c2,r2,rfl,⟨a2,rfl⟩,h2⟩:=KM.inv h1
 obtain⟨c3,r3,rfl,⟨a3,rfl⟩,h3⟩:=KM.inv h2
 obtain⟨c4,r4,rfl,⟨a4,rfl⟩,h4⟩:=KM.inv h3
 obtain rfl:=KM.inv0 h4
 exact⟨_,rfl⟩
theorem kd_eDef(cs:List UU.C)(h:KM (U:=UU) [.str,.sl .eRule] cs):∃x,dec_eDef cs=some x:=by
 obtain⟨c0,r0,rfl,⟨a0,rfl⟩,h0⟩:=KM.inv h
 obtain⟨c1,r1,rfl,⟨a1,rfl⟩,h1⟩:=KM.inv h0
 obtain rfl:=KM.inv0 h1
 exact⟨_,rfl⟩
theorem kd_lDef(cs:List UU.C)(h:KM (U:=UU) [.str,.sl .lRule] cs):∃x,dec_lDef cs=some x:=by
 obtain⟨c0,r0,rfl,⟨a0,rfl⟩,h0⟩:=KM.inv h
 obtain⟨c1,r1,rfl,⟨a1,rfl⟩,h1⟩:=KM.inv h0
 obtain rfl:=KM.inv0 h1
 exact⟨_,rfl⟩
theorem kd_eMatch(cs:List UU.C)(h:KM (U:=UU) [.int .i64,.sl .int,.sl .eBind] cs):∃x,dec_eMatch cs=some x:=by
 obtain⟨c0,r0,rfl,⟨a0,rfl⟩,h0⟩:=KM.inv h
 obtain⟨c1,r1,rfl,⟨a1,rfl⟩,h1⟩:=KM.inv h0
 obtain⟨c2,r2,rfl,⟨a2,rfl⟩,h2⟩:=KM.inv h1
 obtain rfl:=KM.inv0 h2
 exact⟨_,rfl⟩
theorem kd_lMatch(cs:List UU.C)(h:KM (U:=UU) [.int .i64,.sl .int,.sl .lBind] cs):∃x,dec_lMatch cs=some x:=by
 obtain⟨c0,r0,rfl,⟨a0,rfl⟩,h0⟩:=KM.inv h
 obtain⟨c1,r1,rfl,⟨a1,rfl⟩,h1⟩:=KM.inv h0
 obtain⟨c2,r2,rfl,⟨a2,rfl⟩,h2⟩:=KM.inv h1
 obtain rfl:=KM.inv0 h2
 exact⟨_,rfl⟩
theorem kd_eEffect(cs:List UU.C)(h:KM (U:=UU) [.int .i64,.str,.sl .eVal,.int .i64,.int .i64,.str] cs):∃x,dec_eEffect cs=some x:=by
 obtain⟨c0,r0,rfl,⟨a0,rfl⟩,h0⟩:=KM.inv h
 obtain⟨c1,r1,rfl,⟨a1,rfl⟩,h1⟩:=KM.inv h0
 obtain⟨c2,r2,rfl,⟨a2,rfl⟩,h2⟩:=KM.inv h1
 obtain⟨c3,r3,rfl,⟨a3,rfl⟩,h3⟩:=KM.inv h2
 obtain⟨c4,r4,rfl,⟨a4,rfl⟩,h4⟩:=KM.inv h3
 obtain⟨c5,r5,rfl,⟨a5,rfl⟩,h5⟩:=KM.inv h4
 obtain rfl:=KM.inv0 h5
 exact⟨_,rfl⟩
theorem kd_lEffect(cs:List UU.C)(h:KM (U:=UU) [.int .i64,.str,.sl .lVal,.int .i64,.int .i64,.str] cs):∃x,dec_lEffect cs=some x:=by
 obtain⟨c0,r0,rfl,⟨a0,rfl⟩,h0⟩:=KM.inv h
 obtain⟨c1,r1,rfl,⟨a1,rfl⟩,h1⟩:=KM.inv h0
 obtain⟨c2,r2,rfl,⟨a2,rfl⟩,h2⟩:=KM.inv h1
 obtain⟨c3,r3,rfl,⟨a3,rfl⟩,h3⟩:=KM.inv h2
 obtain⟨c4,r4,rfl,⟨a4,rfl⟩,h4⟩:=KM.inv h3
 obtain⟨c5,r5,rfl,⟨a5,rfl⟩,h5⟩:=KM.inv h4
 obtain rfl:=KM.inv0 h5
 exact⟨_,rfl⟩
theorem kd_eTimer(cs:List UU.C)(h:KM (U:=UU) [.int .i64,.str,.sl .eVal] cs):∃x,dec_eTimer cs=some x:=by
 obtain⟨c0,r0,rfl,⟨a0,rfl⟩,h0⟩:=KM.inv h
 obtain⟨c1,r1,rfl,⟨a1,rfl⟩,h1⟩:=KM.inv h0
 obtain⟨c2,r2,rfl,⟨a2,rfl⟩,h2⟩:=KM.inv h1
 obtain rfl:=KM.inv0 h2
 exact⟨_,rfl⟩
theorem kd_lTimer(cs:List UU.C)(h:KM (U:=UU) [.int .i64,.str,.sl .lVal] cs):∃x,dec_lTimer cs=some x:=by
 obtain⟨c0,r0,rfl,⟨a0,rfl⟩,h0⟩:=KM.inv h
 obtain⟨c1,r1,rfl,⟨a1,rfl⟩,h1⟩:=KM.inv h0
 obtain⟨c2,r2,rfl,⟨a2,rfl⟩,h2⟩:=KM.inv h1
 obtain rfl:=KM.inv0 h2
 exact⟨_,rfl⟩
theorem kd_eTask(cs:List UU.C)(h:KM (U:=UU) [.str,.sl .eVal,.str,.int .i64,.int .i64,.int .i64,.int .i64,.int .i64,.str] cs):∃x,dec_eTask cs=some x:=by
 obtain⟨c0,r0,rfl,⟨a0,rfl⟩,h0⟩:=KM.inv h
 obtain⟨c1,r1,rfl,⟨a1,rfl⟩,h1⟩:=KM.inv h0
 obtain⟨c2,r2,rfl,⟨a2,rfl⟩,h2⟩:=KM.inv h1
 obtain⟨c3,r3,rfl,⟨a3,rfl⟩,h3⟩:=KM.inv h2
 obtain⟨c4,r4,rfl,⟨a4,rfl⟩,h4⟩:=KM.inv h3
 obtain⟨c5,r5,rfl,⟨a5,rfl⟩,h5⟩:=KM.inv h4
 obtain⟨c6,r6,rfl,⟨a6,rfl⟩,h6⟩:=KM.inv h5
 obtain⟨c7,r7,rfl,⟨a7,rfl⟩,h7⟩:=KM.inv h6
 obtain⟨c8,r8,rfl,⟨a8,rfl⟩,h8⟩:=KM.inv h7
 obtain rfl:=KM.inv0 h8
 exact⟨_,rfl⟩
theorem kd_lTask(cs:List UU.C)(h:KM (U:=UU) [.str,.sl .lVal,.str,.int .i64,.int .i64,.int .i64,.int .i64,.int .i64,.str] cs):∃x,dec_lTask cs=some x:=by
 obtain⟨c0,r0,rfl,⟨a0,rfl⟩,h0⟩:=KM.inv h
 obtain⟨c1,r1,rfl,⟨a1,rfl⟩,h1⟩:=KM.inv h0
 obtain⟨c2,r2,rfl,⟨a2,rfl⟩,h2⟩:=KM.inv h1
 obtain⟨c3,r3,rfl,⟨a3,rfl⟩,h3⟩:=KM.inv h2
 obtain⟨c4,r4,rfl,⟨a4,rfl⟩,h4⟩:=KM.inv h3
 obtain⟨c5,r5,rfl,⟨a5,rfl⟩,h5⟩:=KM.inv h4
 obtain⟨c6,r6,rfl,⟨a6,rfl⟩,h6⟩:=KM.inv h5
 obtain⟨c7,r7,rfl,⟨a7,rfl⟩,h7⟩:=KM.inv h6
 obtain⟨c8,r8,rfl,⟨a8,rfl⟩,h8⟩:=KM.inv h7
 obtain rfl:=KM.inv0 h8
 exact⟨_,rfl⟩
theorem kd_eUndo(cs:List UU.C)(h:KM (U:=UU) [.str,.str,.sl .eVal] cs):∃x,dec_eUndo cs=some x:=by
 obtain⟨c0,r0,rfl,⟨a0,rfl⟩,h0⟩:=KM.inv h
 obtain⟨c1,r1,rfl,⟨a1,rfl⟩,h1⟩:=KM.inv h0
 obtain⟨c2,r2,rfl,⟨a2,rfl⟩,h2⟩:=KM.inv h1
 obtain rfl:=KM.inv0 h2
 exact⟨_,rfl⟩
theorem kd_lUndo(cs:List UU.C)(h:KM (U:=UU) [.str,.str,.sl .lVal] cs):∃x,dec_lUndo cs=some x:=by
 obtain⟨c0,r0,rfl,⟨a0,rfl⟩,h0⟩:=KM.inv h
 obtain⟨c1,r1,rfl,⟨a1,rfl⟩,h1⟩:=KM.inv h0
 obtain⟨c2,r2,rfl,⟨a2,rfl⟩,h2⟩:=KM.inv h1
 obtain rfl:=KM.inv0 h2
 exact⟨_,rfl⟩
theorem kd_eInst(cs:List UU.C)(h:KM (U:=UU) [.sl .eItem,.int .i64,.sl .eMatch,.sl .eTask,.sl .eTimer,.sl .eUndo,.int .i64,.int .i64] cs):∃x,dec_eInst cs=some x:=by
 obtain⟨c0,r0,rfl,⟨a0,rfl⟩,h0⟩:=KM.inv h
 obtain⟨c1,r1,rfl,⟨a1,rfl⟩,h1⟩:=KM.inv h0
 obtain⟨c2,r2,rfl,⟨a2,rfl⟩,h2⟩:=KM.inv h1
 obtain⟨c3,r3,rfl,⟨a3,rfl⟩,h3⟩:=KM.inv h2
 obtain⟨c4,r4,rfl,⟨a4,rfl⟩,h4⟩:=KM.inv h3
 obtain⟨c5,r5,rfl,⟨a5,rfl⟩,h5⟩:=KM.inv h4
 obtain⟨c6,r6,rfl,⟨a6,rfl⟩,h6⟩:=KM.inv h5
 obtain⟨c7,r7,rfl,⟨a7,rfl⟩,h7⟩:=KM.inv h6
 obtain rfl:=KM.inv0 h7
 exact⟨_,rfl⟩
theorem kd_lInst(cs:List UU.C)(h:KM (U:=UU) [.sl .lItem,.int .i64,.sl .lMatch,.sl .lTask,.sl .lTimer,.sl .lUndo,.int .i64,.int .i64] cs):∃x,dec_lInst cs=some x:=by
 obtain⟨c0,r0,rfl,⟨a0,rfl⟩,h0⟩:=KM.inv h
 obtain⟨c1,r1,rfl,⟨a1,rfl⟩,h1⟩:=KM.inv h0
 obtain⟨c2,r2,rfl,⟨a2,rfl⟩,h2⟩:=KM.inv h1
 obtain⟨c3,r3,rfl,⟨a3,rfl⟩,h3⟩:=KM.inv h2
 obtain⟨c4,r4,rfl,⟨a4,rfl⟩,h4⟩:=KM.inv h3
 obtain⟨c5,r5,rfl,⟨a5,rfl⟩,h5⟩:=KM.inv h4
 obtain⟨c6,r6,rfl,⟨a6,rfl⟩,h6⟩:=KM.inv h5
 obtain⟨c7,r7,rfl,⟨a7,rfl⟩,h7⟩:=KM.inv h6
 obtain rfl:=KM.inv0 h7
 exact⟨_,rfl⟩
theorem kinds_dec(τ:Cd)(cs:List UU.C)(h:KM (Cd.kinds τ) cs):∃x,UU.dec τ cs=some x:=by
 cases τ
 case int=>exact kd_int cs h
 case byte=>exact kd_byte cs h
 case str=>exact kd_str cs h
 case eVal=>exact kd_eVal cs h
 case lVal=>exact kd_lVal cs h
 case eFact=>exact kd_eFact cs h
 case lFact=>exact kd_lFact cs h
 case eItem=>exact kd_eItem cs h
 case lItem=>exact kd_lItem cs h
 case eStore=>exact kd_eStore cs h
 case lStore=>exact kd_lStore cs h
 case eArg=>exact kd_eArg cs h
 case lArg=>exact kd_lArg cs h
 case ePat=>exact kd_ePat cs h
 case lPat=>exact kd_lPat cs h
 case eBind=>exact kd_eBind cs h
 case lBind=>exact kd_lBind cs h
 case eCond=>exact kd_eCond cs h
 case lCond=>exact kd_lCond cs h
 case eExpr=>exact kd_eExpr cs h
 case lExpr=>exact kd_lExpr cs h
 case eAct=>exact kd_eAct cs h
 case lAct=>exact kd_lAct cs h
 case eRule=>exact kd_eRule cs h
 case lRule=>exact kd_lRule cs h
 case eDef=>exact kd_eDef cs h
 case lDef=>exact kd_lDef cs h
 case eMatch=>exact kd_eMatch cs h
 case lMatch=>exact kd_lMatch cs h
 case eEffect=>exact kd_eEffect cs h
 case lEffect=>exact kd_lEffect cs h
 case eTimer=>exact kd_eTimer cs h
 case lTimer=>exact kd_lTimer cs h
 case eTask=>exact kd_eTask cs h
 case lTask=>exact kd_lTask cs h
 case eUndo=>exact kd_eUndo cs h
 case lUndo=>exact kd_lUndo cs h
 case eInst=>exact kd_eInst cs h
 case lInst=>exact kd_lInst cs h
end
end AM
