/- The program, as the abstract machine sees it: written by gen/env.py. -/
import Derived.Test.YtignnkcjolobgaaAmAnn
import Derived.Test.YtignnkcjolobgaaAmTypes
import Derived.Test.YtignnkcjolobgaaProg
import Derived.Lib.LaidTab
import Derived.Lib.ItoaNum
import Derived.KernelRfl
namespace AM
open Go
noncomputable section
def tyl : List (TypeId × Cd) := [(3, .int), (5, .byte), (9, .str), (41, .eVal), (192, .lVal), (30, .eFact), (67, .lFact), (217, .eItem), (100, .eStore), (211, .eArg), (227, .ePat), (223, .eBind), (213, .eCond), (232, .eExpr), (230, .eAct), (205, .eRule), (189, .eDef), (221, .eMatch), (74, .eTimer), (69, .lTimer), (43, .eTask), (198, .eCall), (32, .eUndo), (103, .eInst), (48, .eOp), (153, .eWork), (157, .eBook)]
def ttid : Cd → TypeId
  | .int => 3
  | .byte => 5
  | .str => 9
  | .eVal => 41
  | .lVal => 192
  | .eFact => 30
  | .lFact => 67
  | .eItem => 217
  | .eStore => 100
  | .eArg => 211
  | .ePat => 227
  | .eBind => 223
  | .eCond => 213
  | .eExpr => 232
  | .eAct => 230
  | .eRule => 205
  | .eDef => 189
  | .eMatch => 221
  | .eTimer => 74
  | .lTimer => 69
  | .eTask => 43
  | .eCall => 198
  | .eUndo => 32
  | .eInst => 103
  | .eOp => 48
  | .eWork => 153
  | .eBook => 157
  | _ => 0
def EE : Env UU := { P := Go.Proofs.Try.prog, tid := ttid, code := codeOf tyl, con := fun _ => none }
theorem EE_ok : EE.Ok := env_ok (by kernel_rfl) (by kernel_rfl)
end
end AM
