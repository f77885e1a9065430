/- The program, as the abstract machine sees it: written by gen/env.py. -/
import Derived.Test.YtceiiofmelhipaaGreatAmAnn
import Derived.Test.YtceiiofmelhipaaGreatAmTypes
import Derived.Test.YtceiiofmelhipaaGreatProg
import Derived.Lib.LaidTab
import Derived.Lib.ItoaNum
import Derived.KernelRfl
namespace AM
open Go
noncomputable section
def tyl:List (TypeId×Cd):=[(3,.int),(5,.byte),(9,.str),(150,.eVal),(181,.lVal),(50,.eFact),(180,.lFact),(141,.eItem),(254,.lItem),(29,.eStore),(62,.lStore),(152,.eArg),(304,.lArg),(162,.ePat),(301,.lPat),(214,.eBind),(313,.lBind),(154,.eCond),(306,.lCond),(232,.eExpr),(349,.lExpr),(55,.eAct),(310,.lAct),(46,.eRule),(171,.lRule),(26,.eDef),(59,.lDef),(33,.eMatch),(176,.lMatch),(52,.eEffect),(201,.eTimer),(186,.lTimer),(198,.eTask),(183,.lTask),(204,.eUndo),(189,.lUndo),(78,.eInst),(68,.lInst)]
def ttid:Cd→TypeId
  | .int=>3
  | .byte=>5
  | .str=>9
  | .eVal=>150
  | .lVal=>181
  | .eFact=>50
  | .lFact=>180
  | .eItem=>141
  | .lItem=>254
  | .eStore=>29
  | .lStore=>62
  | .eArg=>152
  | .lArg=>304
  | .ePat=>162
  | .lPat=>301
  | .eBind=>214
  | .lBind=>313
  | .eCond=>154
  | .lCond=>306
  | .eExpr=>232
  | .lExpr=>349
  | .eAct=>55
  | .lAct=>310
  | .eRule=>46
  | .lRule=>171
  | .eDef=>26
  | .lDef=>59
  | .eMatch=>33
  | .lMatch=>176
  | .eEffect=>52
  | .eTimer=>201
  | .lTimer=>186
  | .eTask=>198
  | .lTask=>183
  | .eUndo=>204
  | .lUndo=>189
  | .eInst=>78
  | .lInst=>68
  |_=>0
def EE:Env UU:={P:=Go.Proofs.Tryz.prog,tid:=ttid,code:=codeOf tyl,con:=fun _=>none}
theorem EE_ok:EE.Ok:=env_ok (by kernel_rfl) (by kernel_rfl)
end
end AM
