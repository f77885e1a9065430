/- The program, as the abstract machine sees it: written by gen/env.py. -/
import Derived.Test.YtmmjiddbjaodlaaGreatAmAnn
import Derived.Test.YtmmjiddbjaodlaaGreatAmTypes
import Derived.Test.YtmmjiddbjaodlaaGreatProg
import Derived.Lib.LaidTab
import Derived.Lib.ItoaNum
import Derived.KernelRfl
namespace AM
open Go
noncomputable section
def tyl : List (TypeId × Cd) := [(3, .int), (5, .byte), (9, .str), (105, .eVal), (177, .lVal), (86, .eFact), (176, .lFact), (97, .eItem), (210, .lItem), (42, .eStore), (66, .lStore), (112, .eArg), (201, .lArg), (131, .ePat), (198, .lPat), (123, .eBind), (230, .lBind), (114, .eCond), (203, .lCond), (153, .eExpr), (241, .lExpr), (136, .eAct), (207, .lAct), (80, .eRule), (146, .lRule), (39, .eDef), (62, .lDef), (121, .eMatch), (172, .lMatch), (88, .eTimer), (182, .lTimer), (107, .eTask), (179, .lTask), (91, .eUndo), (185, .lUndo), (48, .eInst), (72, .lInst), (50, .eWork), (74, .lWork), (31, .eBook), (25, .lBook)]
def ttid : Cd → TypeId
  | .int => 3
  | .byte => 5
  | .str => 9
  | .eVal => 105
  | .lVal => 177
  | .eFact => 86
  | .lFact => 176
  | .eItem => 97
  | .lItem => 210
  | .eStore => 42
  | .lStore => 66
  | .eArg => 112
  | .lArg => 201
  | .ePat => 131
  | .lPat => 198
  | .eBind => 123
  | .lBind => 230
  | .eCond => 114
  | .lCond => 203
  | .eExpr => 153
  | .lExpr => 241
  | .eAct => 136
  | .lAct => 207
  | .eRule => 80
  | .lRule => 146
  | .eDef => 39
  | .lDef => 62
  | .eMatch => 121
  | .lMatch => 172
  | .eTimer => 88
  | .lTimer => 182
  | .eTask => 107
  | .lTask => 179
  | .eUndo => 91
  | .lUndo => 185
  | .eInst => 48
  | .lInst => 72
  | .eWork => 50
  | .lWork => 74
  | .eBook => 31
  | .lBook => 25
  | _ => 0
def EE : Env UU := { P := Go.Proofs.Tryz.prog, tid := ttid, code := codeOf tyl, con := fun _ => none }
theorem EE_ok : EE.Ok := env_ok (by kernel_rfl) (by kernel_rfl)
end
end AM
