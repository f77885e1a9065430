/- The program, as the abstract machine sees it: written by gen/env.py. -/
import Derived.Test.YtmoijfaceanakaaAmAnn
import Derived.Test.YtmoijfaceanakaaAmTypes
import Derived.Test.YtmoijfaceanakaaProg
import Derived.Lib.LaidTab
import Derived.Lib.ItoaNum
import Derived.KernelRfl
namespace AM
open Go
noncomputable section
def tyl : List (TypeId × Cd) := [(3, .int), (5, .byte), (9, .str), (28, .eVal), (139, .lVal), (26, .eFact), (49, .lFact), (56, .eTimer), (51, .lTimer), (30, .eOp)]
def ttid : Cd → TypeId
  | .int => 3
  | .byte => 5
  | .str => 9
  | .eVal => 28
  | .lVal => 139
  | .eFact => 26
  | .lFact => 49
  | .eTimer => 56
  | .lTimer => 51
  | .eOp => 30
  | _ => 0
/-- spec.AddTimer appends its own timer, and lays it in again behind its loop: the new row leaves it to the variable. -/
def keepF (t : TypeId) (d : Nat) (ks : List Key) : Bool := Nat.beq t 40 && Nat.beq d 32 && ks.all fun k => Nat.beq k.1 3
def EE0 : Env UU := { P := Go.Proofs.Try.prog, tid := ttid, code := codeOf tyl, con := fun _ => none }
theorem EE0_ok : EE0.Ok := env_ok (by kernel_rfl) (by kernel_rfl)
def EE : Env UU := { EE0 with keep := keepF }
theorem EE_ok : EE.Ok := ⟨EE0_ok.code, EE0_ok.mixed⟩
end
end AM
