/- The program, as the abstract machine sees it: written by gen/env.py. -/
import Derived.Test.YtmkiahpojiomiaaGreatDoorAmAnn
import Derived.Test.YtmkiahpojiomiaaGreatDoorAmTypes
import Derived.Test.YtmkiahpojiomiaaGreatDoorProg
import Derived.Lib.LaidTab
import Derived.Lib.ItoaNum
import Derived.KernelRfl
namespace AM
open Go
noncomputable section
def tyl:List (TypeId×Cd):=[(3,.int),(5,.byte),(9,.str),(55,.eVal),(35,.lVal),(145,.eFact),(107,.lFact),(187,.eItem),(183,.lItem),(41,.eStore),(27,.lStore),(233,.eArg),(248,.lArg),(230,.ePat),(245,.lPat),(241,.eBind),(257,.lBind),(235,.eCond),(250,.lCond),(290,.eExpr),(312,.lExpr),(238,.eAct),(254,.lAct),(136,.eRule),(97,.lRule),(52,.eDef),(24,.lDef),(141,.eMatch),(103,.lMatch),(150,.eTimer),(112,.lTimer),(147,.eTask),(109,.lTask),(153,.eUndo),(115,.lUndo),(47,.eInst),(33,.lInst)]
def ttid:Cd→TypeId
  | .int=>3
  | .byte=>5
  | .str=>9
  | .eVal=>55
  | .lVal=>35
  | .eFact=>145
  | .lFact=>107
  | .eItem=>187
  | .lItem=>183
  | .eStore=>41
  | .lStore=>27
  | .eArg=>233
  | .lArg=>248
  | .ePat=>230
  | .lPat=>245
  | .eBind=>241
  | .lBind=>257
  | .eCond=>235
  | .lCond=>250
  | .eExpr=>290
  | .lExpr=>312
  | .eAct=>238
  | .lAct=>254
  | .eRule=>136
  | .lRule=>97
  | .eDef=>52
  | .lDef=>24
  | .eMatch=>141
  | .lMatch=>103
  | .eTimer=>150
  | .lTimer=>112
  | .eTask=>147
  | .lTask=>109
  | .eUndo=>153
  | .lUndo=>115
  | .eInst=>47
  | .lInst=>33
  |_=>0
def EE0:Env UU:={P:=Go.Proofs.Tryz.prog,tid:=ttid,code:=codeOf tyl,con:=fun _=>none}
theorem EE0_ok:EE0.Ok:=env_ok (by kernel_rfl) (by kernel_rfl)
def pow10Cells:Array Value:=(Go.Lib.pow10Tab.map fun z=>Value.int .u64 z).toArray
def EE:Env UU:={EE0 with tabs:=[(1,pow10Cells)]}
theorem EE_ok:EE.Ok:=⟨EE0_ok.code,EE0_ok.mixed⟩
theorem tab_is{w:World}{F:Nat→Prop}(h:Lay EE w F):Go.Lib.TabIs EE.P w "internal/strconv.uint64pow10" .u64 Go.Lib.pow10Tab:=by
  obtain⟨_,e,r,h2⟩:=h _ (zau.2 rfl)
  have hg:EE.P.globalNamed "internal/strconv.uint64pow10" =some 1:=by kernel_rfl
  have h2:w.heap[1]? =some (.cells pow10Cells e r):=h2
  simp only[Go.Lib.TabIs,World.var?,hg,Option.bind_some,h2]
  rfl
end
end AM
