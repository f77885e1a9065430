/- The program, as the abstract machine sees it: written by gen/env.py. -/
import Derived.Test.YtlachfpabecaeaaQAmAnn
import Derived.Test.YtlachfpabecaeaaQAmTypes
import Derived.Test.YtlachfpabecaeaaProg
import Derived.Lib.LaidTab
import Derived.Lib.ItoaNum
import Derived.KernelRfl
namespace AM
open Go
noncomputable section
def CQ:List (TypeId×Cd):=[(3,.int),(5,.byte),(9,.str),(66,.aH),(82,.ej),(36,.cN),(25,.ga),(38,.aj),(27,.et)]
def Hw:Cd->TypeId
  | .int=>3
  | .byte=>5
  | .str=>9
  | .aH=>66
  | .ej=>82
  | .cN=>36
  | .ga=>25
  | .aj=>38
  | .et=>27
  |_=>0
/-- spec.AddTimer appends its own timer, and lays it in again behind its loop: the new row leaves it to the variable. -/
def Ew(t:TypeId)(d:Nat)(ks:List Key):Bool:=Nat.beq t 30&&Nat.beq d 32&&ks.all fun k=>Nat.beq k.1 3
def NN:Env UU:={P:=Go.Proofs.Try.prog,tid:=Hw,code:=jX CQ,ul:=fun _=>none}
theorem wA:NN.Ok:=BN (by kernel_rfl) (by kernel_rfl)
def EE:Env UU:={NN with bu:=Ew}
theorem tf:EE.Ok:=⟨wA.code,wA.mixed⟩
end
end AM
