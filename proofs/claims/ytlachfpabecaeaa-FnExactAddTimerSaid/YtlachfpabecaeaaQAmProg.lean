/- The program, as the abstract machine sees it: written by gen/env.py. -/
import Derived.Test.YtlachfpabecaeaaQAmAnn
import Derived.Test.YtlachfpabecaeaaQAmTypes
import Derived.Test.YtlachfpabecaeaaProg
import Derived.Lib.LaidTab
import Derived.Lib.ItoaNum
import Derived.KernelRfl
namespace AM
open Go
noncomputable section
def Cw:List (TypeId×Cd):=[(3,.int),(5,.byte),(9,.str),(66,.aE),(82,.cm),(36,.br),(25,.dl),(38,.af),(27,.aU)]
def G8:Cd->TypeId
  | .int=>3
  | .byte=>5
  | .str=>9
  | .aE=>66
  | .cm=>82
  | .br=>36
  | .dl=>25
  | .af=>38
  | .aU=>27
  |_=>0
/-- spec.AddTimer appends its own timer, and lays it in again behind its loop: the new row leaves it to the variable. -/
def Ee(t:TypeId)(d:Nat)(ks:List Key):Bool:=Nat.beq t 30&&Nat.beq d 32&&ks.all fun k=>Nat.beq k.1 3
def O4:Env UU:={P:=Go.Proofs.Try.prog,tid:=G8,code:=ju Cw,s3:=fun _=>none}
theorem vm:O4.Ok:=AF (by kernel_rfl) (by kernel_rfl)
def EE:Env UU:={O4 with bD:=Ee}
theorem aP:EE.Ok:=⟨vm.code,vm.mixed⟩
end
end AM
