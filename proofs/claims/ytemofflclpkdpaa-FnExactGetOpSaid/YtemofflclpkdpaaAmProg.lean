/- The program, as the abstract machine sees it: written by gen/env.py. -/
import Derived.Test.YtemofflclpkdpaaAmAnn
import Derived.Test.YtemofflclpkdpaaAmTypes
import Derived.Test.YtemofflclpkdpaaProg
import Derived.Lib.LaidTab
import Derived.Lib.ItoaNum
import Derived.KernelRfl
namespace AM
open Go
noncomputable section
def tyl : List (TypeId × Cd) := [(3, .int), (5, .byte), (9, .str), (27, .eVal), (25, .eFact), (29, .eOp)]
def ttid : Cd → TypeId
  | .int => 3
  | .byte => 5
  | .str => 9
  | .eVal => 27
  | .eFact => 25
  | .eOp => 29
  | _ => 0
def EE : Env UU := { P := Go.Proofs.Try.prog, tid := ttid, code := codeOf tyl, con := fun _ => none }
theorem EE_ok : EE.Ok := env_ok (by kernel_rfl) (by kernel_rfl)
end
end AM
