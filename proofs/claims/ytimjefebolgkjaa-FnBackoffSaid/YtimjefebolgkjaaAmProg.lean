/- The program, as the abstract machine sees it: written by gen/env.py. -/
import Derived.Test.YtimjefebolgkjaaAmAnn
import Derived.Test.YtimjefebolgkjaaAmTypes
import Derived.Test.YtimjefebolgkjaaProg
import Derived.Lib.LaidTab
import Derived.Lib.ItoaNum
import Derived.KernelRfl
namespace AM
open Go
noncomputable section
def tyl : List (TypeId × Cd) := [(3, .int), (5, .byte), (9, .str), (94, .eVal), (106, .lVal), (41, .eFact), (67, .lFact), (83, .eTimer), (80, .lTimer), (71, .eUndo), (69, .lUndo)]
def ttid : Cd → TypeId
  | .int => 3
  | .byte => 5
  | .str => 9
  | .eVal => 94
  | .lVal => 106
  | .eFact => 41
  | .lFact => 67
  | .eTimer => 83
  | .lTimer => 80
  | .eUndo => 71
  | .lUndo => 69
  | _ => 0
def EE : Env UU := { P := Go.Proofs.Try.prog, tid := ttid, code := codeOf tyl, con := fun _ => none }
theorem EE_ok : EE.Ok := env_ok (by kernel_rfl) (by kernel_rfl)
end
end AM
