/- The program, as the abstract machine sees it: written by gen/env.py. -/
import Derived.Test.YtdbaggndanpjkaaGreatAmAnn
import Derived.Test.YtdbaggndanpjkaaGreatAmTypes
import Derived.Test.YtdbaggndanpjkaaGreatProg
import Derived.Lib.LaidTab
import Derived.Lib.ItoaNum
import Derived.KernelRfl
namespace AM
open Go
noncomputable section
def tyl:List (TypeId×Cd):=[(3,.int),(5,.byte),(9,.str),(139,.eVal),(173,.lVal),(137,.eFact),(200,.eItem),(28,.eStore),(156,.eArg),(175,.lArg),(119,.ePat),(171,.lPat),(212,.eBind),(158,.eCond),(177,.lCond),(210,.eExpr),(237,.lExpr),(161,.eAct),(181,.lAct),(89,.eRule),(71,.lRule),(44,.eDef),(24,.lDef),(134,.eMatch),(124,.eAlpha),(80,.eChain),(57,.eNet),(75,.eIds),(233,.eTok),(83,.eLevel),(78,.eRow),(38,.eMem),(144,.eTimer),(141,.eTask),(147,.eUndo),(34,.eInst),(40,.eRun)]
def ttid:Cd→TypeId
  | .int=>3
  | .byte=>5
  | .str=>9
  | .eVal=>139
  | .lVal=>173
  | .eFact=>137
  | .eItem=>200
  | .eStore=>28
  | .eArg=>156
  | .lArg=>175
  | .ePat=>119
  | .lPat=>171
  | .eBind=>212
  | .eCond=>158
  | .lCond=>177
  | .eExpr=>210
  | .lExpr=>237
  | .eAct=>161
  | .lAct=>181
  | .eRule=>89
  | .lRule=>71
  | .eDef=>44
  | .lDef=>24
  | .eMatch=>134
  | .eAlpha=>124
  | .eChain=>80
  | .eNet=>57
  | .eIds=>75
  | .eTok=>233
  | .eLevel=>83
  | .eRow=>78
  | .eMem=>38
  | .eTimer=>144
  | .eTask=>141
  | .eUndo=>147
  | .eInst=>34
  | .eRun=>40
  |_=>0
def EE:Env UU:={P:=Go.Proofs.Tryz.prog,tid:=ttid,code:=codeOf tyl,con:=fun _=>none}
theorem EE_ok:EE.Ok:=env_ok (by kernel_rfl) (by kernel_rfl)
end
end AM
