/- The program, as the abstract machine sees it: written by gen/env.py. -/
import Derived.Test.YtmoijfaceanakaaAmAnn
import Derived.Test.YtmoijfaceanakaaAmTypes
import Derived.Test.YtmoijfaceanakaaProg
import Derived.Lib.LaidTab
import Derived.Lib.ItoaNum
import Derived.KernelRfl
namespace AM
open Go
noncomputable section
def tyl : List (TypeId × Cd) := [(3, .int), (5, .byte), (9, .str), (28, .eVal), (139, .lVal), (26, .eFact), (49, .lFact), (56, .eTimer), (51, .lTimer), (30, .eOp)]
def ttid : Cd → TypeId
  | .int => 3
  | .byte => 5
  | .str => 9
  | .eVal => 28
  | .lVal => 139
  | .eFact => 26
  | .lFact => 49
  | .eTimer => 56
  | .lTimer => 51
  | .eOp => 30
  | _ => 0
def EE : Env UU := { P := Go.Proofs.Try.prog, tid := ttid, code := codeOf tyl, con := fun _ => none }
theorem EE_ok : EE.Ok := env_ok (by kernel_rfl) (by kernel_rfl)
end
end AM
