import Derived.Test.YtknfcngfhlpaeaaGreatDoorQAmAnn
import Derived.Test.YtknfcngfhlpaeaaGreatDoorQAmTypes
import Derived.Test.YtknfcngfhlpaeaaGreatDoorProg
import Derived.Lib.LaidTab
import Derived.Lib.ItoaNum
import Derived.KernelRfl
namespace AM
open Go
noncomputable section
def ZX:List (TypeId×Cd):=[(3,.int),(5,.byte),(9,.str),(55,.bf),(45,.cU),(132,.aK),(29,.dD),(181,.im),(197,.ey),(224,.cw),(183,.cM),(203,.bN),(187,.eJ),(128,.cv),(26,.gJ),(139,.av),(214,.dz),(110,.ax),(87,.aq),(57,.dw),(59,.aI),(35,.bY),(69,.kk),(73,.ny)]
def ahi:Cd->TypeId
  | .int=>3
  | .byte=>5
  | .str=>9
  | .bf=>55
  | .cU=>45
  | .aK=>132
  | .dD=>29
  | .im=>181
  | .ey=>197
  | .cw=>224
  | .cM=>183
  | .bN=>203
  | .eJ=>187
  | .cv=>128
  | .gJ=>26
  | .av=>139
  | .dz=>214
  | .ax=>110
  | .aq=>87
  | .dw=>57
  | .aI=>59
  | .bY=>35
  | .kk=>69
  | .ny=>73
/-- spec.AddTimer appends its own timer, and lays it in again behind its loop: the new row leaves it to the variable. -/
def abx(t:TypeId)(d:Nat)(ks:List Key):Bool:=Nat.beq t 32&&Nat.beq d 32&&ks.all fun k=>Nat.beq k.1 3
def EE0:Env UU:={P:=Go.Proofs.Tryz.prog,tid:=ahi,code:=vM ZX,Na:=fun _=>none}
theorem QK:EE0.Ok:=YH (by kernel_rfl) (by kernel_rfl)
def CK:Array Value:=(Go.Lib.pow10Tab.map fun z=>Value.int .u64 z).toArray
def EE:Env UU:={EE0 with Rd:=[(1,CK)],fC:=abx}
theorem pM:EE.Ok:=⟨QK.code,QK.mixed⟩
theorem Wl{w:World}{F:Nat->Prop}(h:Ns EE w F):Go.Lib.TabIs EE.P w "internal/strconv.uint64pow10" .u64 Go.Lib.pow10Tab:=by
  obtain⟨_,e,r,h2⟩:=h _ (mb.2 rfl)
  have hg:EE.P.globalNamed "internal/strconv.uint64pow10" =some 1:=by kernel_rfl
  have h2:w.heap[1]? =some (.cells CK e r):=h2
  simp only[Go.Lib.TabIs,World.var?,hg,Option.bind_some,h2]
  rfl
end
end AM
