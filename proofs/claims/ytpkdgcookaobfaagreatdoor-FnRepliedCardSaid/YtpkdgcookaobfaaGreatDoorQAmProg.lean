/- The program, as the abstract machine sees it: written by gen/env.py. -/
import Derived.Test.YtpkdgcookaobfaaGreatDoorQAmAnn
import Derived.Test.YtpkdgcookaobfaaGreatDoorQAmTypes
import Derived.Test.YtpkdgcookaobfaaGreatDoorProg
import Derived.Lib.LaidTab
import Derived.Lib.ItoaNum
import Derived.KernelRfl
namespace AM
open Go
noncomputable section
def tyl:List (TypeId×Cd):=[(3,.int),(5,.byte),(9,.str),(37,.bc),(47,.dc),(84,.aJ),(29,.cT),(162,.gB),(177,.du),(198,.cv),(164,.ca),(212,.bJ),(168,.dx),(121,.bE),(26,.hH),(96,.aE),(234,.eo),(127,.aI),(49,.ax),(242,.k8),(130,.aL),(35,.cf),(65,.kZ),(69,.oz)]
def akl:Cd->TypeId
  | .int=>3
  | .byte=>5
  | .str=>9
  | .bc=>37
  | .dc=>47
  | .aJ=>84
  | .cT=>29
  | .gB=>162
  | .du=>177
  | .cv=>198
  | .ca=>164
  | .bJ=>212
  | .dx=>168
  | .bE=>121
  | .hH=>26
  | .aE=>96
  | .eo=>234
  | .aI=>127
  | .ax=>49
  | .k8=>242
  | .aL=>130
  | .cf=>35
  | .kZ=>65
  | .oz=>69
/-- spec.AddTimer appends its own timer, and lays it in again behind its loop: the new row leaves it to the variable. -/
def ad0(t:TypeId)(d:Nat)(ks:List Key):Bool:=Nat.beq t 32&&Nat.beq d 32&&ks.all fun k=>Nat.beq k.1 3
def EE0:Env UU:={P:=Go.Proofs.Tryz.prog,tid:=akl,code:=xc tyl,Ql:=fun _=>none}
theorem Uf:EE0.Ok:=abB (by kernel_rfl) (by kernel_rfl)
def Ek:Array Value:=(Go.Lib.pow10Tab.map fun z=>Value.int .u64 z).toArray
def EE:Env UU:={EE0 with UJ:=[(1,Ek)],gg:=ad0,shl:=fun t=>Nat.beq t 121}
theorem rm:EE.Ok:=⟨Uf.code,Uf.mixed⟩
theorem ZG{w:World}{F:Nat->Prop}(h:QH EE w F):Go.Lib.TabIs EE.P w "internal/strconv.uint64pow10" .u64 Go.Lib.pow10Tab:=by
  obtain⟨_,e,r,h2⟩:=h _ (mI.2 rfl)
  have hg:EE.P.globalNamed "internal/strconv.uint64pow10" =some 1:=by kernel_rfl
  have h2:w.heap[1]? =some (.cells Ek e r):=h2
  simp only[Go.Lib.TabIs,World.var?,hg,Option.bind_some,h2]
  rfl
end
end AM
