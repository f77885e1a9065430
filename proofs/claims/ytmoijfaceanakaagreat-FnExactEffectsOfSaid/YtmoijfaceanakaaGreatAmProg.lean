/- The program, as the abstract machine sees it: written by gen/env.py. -/
import Derived.Test.YtmoijfaceanakaaGreatAmAnn
import Derived.Test.YtmoijfaceanakaaGreatAmTypes
import Derived.Test.YtmoijfaceanakaaGreatProg
import Derived.Lib.LaidTab
import Derived.Lib.ItoaNum
import Derived.KernelRfl
namespace AM
open Go
noncomputable section
def tyl:List (TypeId×Cd):=[(3,.int),(5,.byte),(9,.str),(110,.eVal),(166,.lVal),(108,.eFact),(165,.lFact),(178,.eItem),(234,.lItem),(43,.eStore),(27,.lStore),(253,.eArg),(279,.lArg),(217,.ePat),(276,.lPat),(222,.eBind),(214,.lBind),(255,.eCond),(281,.lCond),(270,.eExpr),(320,.lExpr),(145,.eAct),(285,.lAct),(138,.eRule),(160,.lRule),(39,.eDef),(24,.lDef),(77,.eMatch),(70,.lMatch),(140,.eEffect),(184,.eTimer),(171,.lTimer),(112,.eTask),(168,.lTask),(186,.eUndo),(174,.lUndo),(49,.eInst),(33,.lInst),(124,.eWork),(204,.lWork),(63,.eBook),(57,.lBook)]
def ttid:Cd→TypeId
  | .int=>3
  | .byte=>5
  | .str=>9
  | .eVal=>110
  | .lVal=>166
  | .eFact=>108
  | .lFact=>165
  | .eItem=>178
  | .lItem=>234
  | .eStore=>43
  | .lStore=>27
  | .eArg=>253
  | .lArg=>279
  | .ePat=>217
  | .lPat=>276
  | .eBind=>222
  | .lBind=>214
  | .eCond=>255
  | .lCond=>281
  | .eExpr=>270
  | .lExpr=>320
  | .eAct=>145
  | .lAct=>285
  | .eRule=>138
  | .lRule=>160
  | .eDef=>39
  | .lDef=>24
  | .eMatch=>77
  | .lMatch=>70
  | .eEffect=>140
  | .eTimer=>184
  | .lTimer=>171
  | .eTask=>112
  | .lTask=>168
  | .eUndo=>186
  | .lUndo=>174
  | .eInst=>49
  | .lInst=>33
  | .eWork=>124
  | .lWork=>204
  | .eBook=>63
  | .lBook=>57
  |_=>0
def EE:Env UU:={P:=Go.Proofs.Tryz.prog,tid:=ttid,code:=codeOf tyl,con:=fun _=>none}
theorem EE_ok:EE.Ok:=env_ok (by kernel_rfl) (by kernel_rfl)
end
end AM
