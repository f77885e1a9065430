import Derived.Test.YtmcepppejchhkaaGreatDoorQAmAnn
import Derived.Test.YtmcepppejchhkaaGreatDoorQAmTypes
import Derived.Test.YtmcepppejchhkaaGreatDoorProg
import Derived.Lib.LaidTab
import Derived.Lib.ItoaNum
import Derived.KernelRfl
namespace AM
open Go
noncomputable section
def tyl:List (TypeId×Cd):=[(3,.int),(5,.byte),(9,.str),(80,.bf),(47,.db),(125,.aJ),(29,.cQ),(174,.gM),(171,.dB),(205,.cw),(176,.ca),(216,.bI),(180,.dE),(121,.bB),(26,.h_),(92,.aB),(231,.eD),(49,.aE),(82,.az),(70,.dw),(130,.aQ),(35,.cp),(63,.lm),(67,.oN)]
def akM:Cd->TypeId
  | .int=>3
  | .byte=>5
  | .str=>9
  | .bf=>80
  | .db=>47
  | .aJ=>125
  | .cQ=>29
  | .gM=>174
  | .dB=>171
  | .cw=>205
  | .ca=>176
  | .bI=>216
  | .dE=>180
  | .bB=>121
  | .h_=>26
  | .aB=>92
  | .eD=>231
  | .aE=>49
  | .az=>82
  | .dw=>70
  | .aQ=>130
  | .cp=>35
  | .lm=>63
  | .oN=>67
/-- spec.AddTimer appends its own timer, and lays it in again behind its loop: the new row leaves it to the variable. -/
def aei(t:TypeId)(d:Nat)(ks:List Key):Bool:=Nat.beq t 32&&Nat.beq d 32&&ks.all fun k=>Nat.beq k.1 3
def EE0:Env UU:={P:=Go.Proofs.Tryz.prog,tid:=akM,code:=xy tyl,Qw:=fun _=>none}
theorem Up:EE0.Ok:=abU (by kernel_rfl) (by kernel_rfl)
def EI:Array Value:=(Go.Lib.pow10Tab.map fun z=>Value.int .u64 z).toArray
def EE:Env UU:={EE0 with UT:=[(1,EI)],gv:=aei,shl:=fun t=>Nat.beq t 121}
theorem pD:EE.Ok:=⟨Up.code,Up.mixed⟩
theorem Z1{w:World}{F:Nat->Prop}(h:QR EE w F):Go.Lib.TabIs EE.P w "internal/strconv.uint64pow10" .u64 Go.Lib.pow10Tab:=by
  obtain⟨_,e,r,h2⟩:=h _ (mW.2 rfl)
  have hg:EE.P.globalNamed "internal/strconv.uint64pow10" =some 1:=by kernel_rfl
  have h2:w.heap[1]? =some (.cells EI e r):=h2
  simp only[Go.Lib.TabIs,World.var?,hg,Option.bind_some,h2]
  rfl
end
end AM
