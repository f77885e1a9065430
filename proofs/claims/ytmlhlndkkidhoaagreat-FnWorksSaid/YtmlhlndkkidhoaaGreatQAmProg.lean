/- The program, as the abstract machine sees it: written by gen/env.py. -/
import Derived.Test.YtmlhlndkkidhoaaGreatQAmAnn
import Derived.Test.YtmlhlndkkidhoaaGreatQAmTypes
import Derived.Test.YtmlhlndkkidhoaaGreatProg
import Derived.Lib.LaidTab
import Derived.Lib.ItoaNum
import Derived.KernelRfl
namespace AM
open Go
noncomputable section
def tyl:List (TypeId×Cd):=[(3,.int),(5,.byte),(9,.str),(57,.aM),(55,.bP),(87,.aX),(29,.bV),(127,.er),(144,.cU),(233,.b_),(129,.bL),(155,.bq),(133,.cV),(83,.a_),(26,.dZ),(76,.az),(164,.dc),(92,.aH),(59,.aA),(207,.kH),(95,.aT),(35,.bD)]
def alh:Cd->TypeId
  | .int=>3
  | .byte=>5
  | .str=>9
  | .aM=>57
  | .bP=>55
  | .aX=>87
  | .bV=>29
  | .er=>127
  | .cU=>144
  | .b_=>233
  | .bL=>129
  | .bq=>155
  | .cV=>133
  | .a_=>83
  | .dZ=>26
  | .az=>76
  | .dc=>164
  | .aH=>92
  | .aA=>59
  | .kH=>207
  | .aT=>95
  | .bD=>35
/-- spec.AddTimer appends its own timer, and lays it in again behind its loop: the new row leaves it to the variable. -/
def adg(t:TypeId)(d:Nat)(ks:List Key):Bool:=Nat.beq t 32&&Nat.beq d 32&&ks.all fun k=>Nat.beq k.1 3
def EE0:Env UU:={P:=Go.Proofs.Tryz.prog,tid:=alh,code:=v8 tyl,NY:=fun _=>none}
theorem S5:EE0.Ok:=Zt (by kernel_rfl) (by kernel_rfl)
def EE:Env UU:={EE0 with f_:=adg,shl:=fun t=>Nat.beq t 83}
theorem ax:EE.Ok:=⟨S5.code,S5.mixed⟩
end
end AM
