/- The program, as the abstract machine sees it: written by gen/env.py. -/
import Derived.Test.YtjlajhgabffmpaaGreatQAmAnn
import Derived.Test.YtjlajhgabffmpaaGreatQAmTypes
import Derived.Test.YtjlajhgabffmpaaGreatProg
import Derived.Lib.LaidTab
import Derived.Lib.ItoaNum
import Derived.KernelRfl
namespace AM
open Go
noncomputable section
def tyl:List (TypeId×Cd):=[(3,.int),(5,.byte),(9,.str),(74,.bc),(38,.dk),(79,.aH),(29,.c_),(149,.gH),(164,.dE),(189,.cv),(151,.bT),(201,.bG),(155,.dG),(115,.bz),(26,.h_),(91,.aB),(214,.eD),(120,.aI),(76,.az),(224,.k8),(123,.aW),(35,.ct),(58,.kZ),(62,.oi)]
def ajy:Cd->TypeId
  | .int=>3
  | .byte=>5
  | .str=>9
  | .bc=>74
  | .dk=>38
  | .aH=>79
  | .c_=>29
  | .gH=>149
  | .dE=>164
  | .cv=>189
  | .bT=>151
  | .bG=>201
  | .dG=>155
  | .bz=>115
  | .h_=>26
  | .aB=>91
  | .eD=>214
  | .aI=>120
  | .az=>76
  | .k8=>224
  | .aW=>123
  | .ct=>35
  | .kZ=>58
  | .oi=>62
/-- spec.AddTimer appends its own timer, and lays it in again behind its loop: the new row leaves it to the variable. -/
def adz(t:TypeId)(d:Nat)(ks:List Key):Bool:=Nat.beq t 32&&Nat.beq d 32&&ks.all fun k=>Nat.beq k.1 3
def EE0:Env UU:={P:=Go.Proofs.Tryz.prog,tid:=ajy,code:=xb tyl,Qu:=fun _=>none}
theorem Ug:EE0.Ok:=abb (by kernel_rfl) (by kernel_rfl)
def EE:Env UU:={EE0 with gx:=adz,shl:=fun t=>Nat.beq t 115}
theorem qZ:EE.Ok:=⟨Ug.code,Ug.mixed⟩
end
end AM
