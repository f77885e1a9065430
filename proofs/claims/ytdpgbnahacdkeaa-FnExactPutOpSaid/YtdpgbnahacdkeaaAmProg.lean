/- The program, as the abstract machine sees it: written by gen/env.py. -/
import Derived.Test.YtdpgbnahacdkeaaAmAnn
import Derived.Test.YtdpgbnahacdkeaaAmTypes
import Derived.Test.YtdpgbnahacdkeaaProg
import Derived.Lib.LaidTab
import Derived.Lib.ItoaNum
import Derived.KernelRfl
namespace AM
open Go
noncomputable section
def tyl : List (TypeId × Cd) := [(3, .int), (5, .byte), (9, .str), (41, .eVal), (33, .lVal), (40, .eFact), (31, .lFact), (209, .eItem), (216, .lItem), (87, .eStore), (97, .lStore), (213, .eBind), (225, .lBind), (187, .eMatch), (195, .lMatch), (71, .eTimer), (63, .lTimer), (129, .eTask), (127, .lTask), (114, .eUndo), (111, .lUndo), (90, .eInst), (100, .lInst), (43, .eOp), (35, .lOp)]
def ttid : Cd → TypeId
  | .int => 3
  | .byte => 5
  | .str => 9
  | .eVal => 41
  | .lVal => 33
  | .eFact => 40
  | .lFact => 31
  | .eItem => 209
  | .lItem => 216
  | .eStore => 87
  | .lStore => 97
  | .eBind => 213
  | .lBind => 225
  | .eMatch => 187
  | .lMatch => 195
  | .eTimer => 71
  | .lTimer => 63
  | .eTask => 129
  | .lTask => 127
  | .eUndo => 114
  | .lUndo => 111
  | .eInst => 90
  | .lInst => 100
  | .eOp => 43
  | .lOp => 35
  | _ => 0
def EE : Env UU := { P := Go.Proofs.Try.prog, tid := ttid, code := codeOf tyl, con := fun _ => none }
theorem EE_ok : EE.Ok := env_ok (by kernel_rfl) (by kernel_rfl)
end
end AM
