/- The program, as the abstract machine sees it: written by gen/env.py. -/
import Derived.Test.YtmkeifamnehobaaGreatAmAnn
import Derived.Test.YtmkeifamnehobaaGreatAmTypes
import Derived.Test.YtmkeifamnehobaaGreatProg
import Derived.Lib.LaidTab
import Derived.Lib.ItoaNum
import Derived.KernelRfl
namespace AM
open Go
noncomputable section
def tyl:List (TypeId×Cd):=[(3,.int),(5,.byte),(9,.str),(152,.eVal),(119,.lVal),(64,.eFact),(59,.lFact),(196,.eItem),(193,.lItem),(38,.eStore),(27,.lStore),(232,.eArg),(249,.lArg),(229,.ePat),(246,.lPat),(240,.eBind),(258,.lBind),(234,.eCond),(251,.lCond),(281,.eExpr),(300,.lExpr),(237,.eAct),(255,.lAct),(145,.eRule),(110,.lRule),(49,.eDef),(24,.lDef),(150,.eMatch),(116,.lMatch),(157,.eTimer),(124,.lTimer),(154,.eTask),(121,.lTask),(160,.eUndo),(127,.lUndo),(44,.eInst),(33,.lInst)]
def ttid:Cd→TypeId
  | .int=>3
  | .byte=>5
  | .str=>9
  | .eVal=>152
  | .lVal=>119
  | .eFact=>64
  | .lFact=>59
  | .eItem=>196
  | .lItem=>193
  | .eStore=>38
  | .lStore=>27
  | .eArg=>232
  | .lArg=>249
  | .ePat=>229
  | .lPat=>246
  | .eBind=>240
  | .lBind=>258
  | .eCond=>234
  | .lCond=>251
  | .eExpr=>281
  | .lExpr=>300
  | .eAct=>237
  | .lAct=>255
  | .eRule=>145
  | .lRule=>110
  | .eDef=>49
  | .lDef=>24
  | .eMatch=>150
  | .lMatch=>116
  | .eTimer=>157
  | .lTimer=>124
  | .eTask=>154
  | .lTask=>121
  | .eUndo=>160
  | .lUndo=>127
  | .eInst=>44
  | .lInst=>33
def EE:Env UU:={P:=Go.Proofs.Tryz.prog,tid:=ttid,code:=codeOf tyl,con:=fun _=>none}
theorem EE_ok:EE.Ok:=env_ok (by kernel_rfl) (by kernel_rfl)
end
end AM
