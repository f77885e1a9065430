/- The program, as the abstract machine sees it: written by gen/env.py. -/
import Derived.Test.YtceiiofmelhipaaGreatDoorAmAnn
import Derived.Test.YtceiiofmelhipaaGreatDoorAmTypes
import Derived.Test.YtceiiofmelhipaaGreatDoorProg
import Derived.Lib.LaidTab
import Derived.Lib.ItoaNum
import Derived.KernelRfl
namespace AM
open Go
noncomputable section
def tyl:List (TypeId×Cd):=[(3,.int),(5,.byte),(9,.str),(81,.eVal),(38,.eFact),(89,.eItem),(54,.eStore),(108,.eArg),(96,.ePat),(161,.eBind),(110,.eCond),(115,.eExpr),(71,.eAct),(66,.eRule),(26,.eDef),(30,.eMatch),(40,.eEffect)]
def ttid:Cd→TypeId
  | .int=>3
  | .byte=>5
  | .str=>9
  | .eVal=>81
  | .eFact=>38
  | .eItem=>89
  | .eStore=>54
  | .eArg=>108
  | .ePat=>96
  | .eBind=>161
  | .eCond=>110
  | .eExpr=>115
  | .eAct=>71
  | .eRule=>66
  | .eDef=>26
  | .eMatch=>30
  | .eEffect=>40
  |_=>0
def EE0:Env UU:={P:=Go.Proofs.Tryz.prog,tid:=ttid,code:=codeOf tyl,con:=fun _=>none}
theorem EE0_ok:EE0.Ok:=env_ok (by kernel_rfl) (by kernel_rfl)
def pow10Cells:Array Value:=(Go.Lib.pow10Tab.map fun z=>Value.int .u64 z).toArray
def EE:Env UU:={EE0 with tabs:=[(1,pow10Cells)]}
theorem EE_ok:EE.Ok:=⟨EE0_ok.code,EE0_ok.mixed⟩
theorem tab_is{w:World}{F:Nat→Prop}(h:Lay EE w F):Go.Lib.TabIs EE.P w "internal/strconv.uint64pow10" .u64 Go.Lib.pow10Tab:=by
  obtain⟨_,e,r,h2⟩:=h _ (zau.2 rfl)
  have hg:EE.P.globalNamed "internal/strconv.uint64pow10" =some 1:=by kernel_rfl
  have h2:w.heap[1]? =some (.cells pow10Cells e r):=h2
  simp only[Go.Lib.TabIs,World.var?,hg,Option.bind_some,h2]
  rfl
end
end AM
