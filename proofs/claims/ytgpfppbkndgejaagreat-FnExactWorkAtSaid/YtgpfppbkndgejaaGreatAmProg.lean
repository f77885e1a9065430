/- The program, as the abstract machine sees it: written by gen/env.py. -/
import Derived.Test.YtgpfppbkndgejaaGreatAmAnn
import Derived.Test.YtgpfppbkndgejaaGreatAmTypes
import Derived.Test.YtgpfppbkndgejaaGreatProg
import Derived.Lib.LaidTab
import Derived.Lib.ItoaNum
import Derived.KernelRfl
namespace AM
open Go
noncomputable section
def tyl : List (TypeId × Cd) := [(3, .int), (5, .byte), (9, .str), (111, .eVal), (183, .lVal), (94, .eFact), (182, .lFact), (103, .eItem), (216, .lItem), (49, .eStore), (72, .lStore), (121, .eArg), (207, .lArg), (138, .ePat), (204, .lPat), (132, .eBind), (236, .lBind), (123, .eCond), (209, .lCond), (167, .eExpr), (247, .lExpr), (143, .eAct), (213, .lAct), (88, .eRule), (152, .lRule), (40, .eDef), (68, .lDef), (130, .eMatch), (178, .lMatch), (96, .eTimer), (188, .lTimer), (113, .eTask), (185, .lTask), (99, .eUndo), (191, .lUndo), (55, .eInst), (78, .lInst), (57, .eWork), (80, .lWork), (31, .eBook), (25, .lBook)]
def ttid : Cd → TypeId
  | .int => 3
  | .byte => 5
  | .str => 9
  | .eVal => 111
  | .lVal => 183
  | .eFact => 94
  | .lFact => 182
  | .eItem => 103
  | .lItem => 216
  | .eStore => 49
  | .lStore => 72
  | .eArg => 121
  | .lArg => 207
  | .ePat => 138
  | .lPat => 204
  | .eBind => 132
  | .lBind => 236
  | .eCond => 123
  | .lCond => 209
  | .eExpr => 167
  | .lExpr => 247
  | .eAct => 143
  | .lAct => 213
  | .eRule => 88
  | .lRule => 152
  | .eDef => 40
  | .lDef => 68
  | .eMatch => 130
  | .lMatch => 178
  | .eTimer => 96
  | .lTimer => 188
  | .eTask => 113
  | .lTask => 185
  | .eUndo => 99
  | .lUndo => 191
  | .eInst => 55
  | .lInst => 78
  | .eWork => 57
  | .lWork => 80
  | .eBook => 31
  | .lBook => 25
  | _ => 0
def EE : Env UU := { P := Go.Proofs.Tryz.prog, tid := ttid, code := codeOf tyl, con := fun _ => none }
theorem EE_ok : EE.Ok := env_ok (by kernel_rfl) (by kernel_rfl)
end
end AM
