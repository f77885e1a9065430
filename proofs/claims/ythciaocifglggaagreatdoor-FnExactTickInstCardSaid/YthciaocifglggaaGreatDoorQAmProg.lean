import Derived.Test.YthciaocifglggaaGreatDoorQAmAnn
import Derived.Test.YthciaocifglggaaGreatDoorQAmTypes
import Derived.Test.YthciaocifglggaaGreatDoorProg
import Derived.Lib.LaidTab
import Derived.Lib.ItoaNum
import Derived.KernelRfl
namespace AM
open Go
noncomputable section
def ZV:List (TypeId×Cd):=[(3,.int),(5,.byte),(9,.str),(145,.bm),(116,.gJ),(87,.cP),(114,.mL),(197,.aP),(192,.iQ),(38,.di),(27,.jO),(243,.iy),(258,.nQ),(240,.fU),(255,.nP),(251,.dG),(267,.jS),(245,.de),(260,.jR),(300,.fc),(322,.jQ),(248,.fV),(264,.nR),(154,.cy),(104,.jP),(50,.kN),(24,.pd),(159,.aI),(110,.gL),(139,.ax),(121,.gK),(147,.aw),(118,.jN),(89,.cu),(164,.aW),(124,.jM),(44,.cz),(33,.kG)]
def ajo:Cd->TypeId
  | .int=>3
  | .byte=>5
  | .str=>9
  | .bm=>145
  | .gJ=>116
  | .cP=>87
  | .mL=>114
  | .aP=>197
  | .iQ=>192
  | .di=>38
  | .jO=>27
  | .iy=>243
  | .nQ=>258
  | .fU=>240
  | .nP=>255
  | .dG=>251
  | .jS=>267
  | .de=>245
  | .jR=>260
  | .fc=>300
  | .jQ=>322
  | .fV=>248
  | .nR=>264
  | .cy=>154
  | .jP=>104
  | .kN=>50
  | .pd=>24
  | .aI=>159
  | .gL=>110
  | .ax=>139
  | .gK=>121
  | .aw=>147
  | .jN=>118
  | .cu=>89
  | .aW=>164
  | .jM=>124
  | .cz=>44
  | .kG=>33
  |_=>0
def EE0:Env UU:={P:=Go.Proofs.Tryz.prog,tid:=ajo,code:=uy ZV,K3:=fun _=>none}
theorem OJ:EE0.Ok:=Yc (by kernel_rfl) (by kernel_rfl)
def AO:Array Value:=(Go.Lib.pow10Tab.map fun z=>Value.int .u64 z).toArray
def EE:Env UU:={EE0 with O':=[(1,AO)]}
theorem sw:EE.Ok:=⟨OJ.code,OJ.mixed⟩
theorem VQ{w:World}{F:Nat->Prop}(h:Lj EE w F):Go.Lib.TabIs EE.P w "internal/strconv.uint64pow10" .u64 Go.Lib.pow10Tab:=by
  obtain⟨_,e,r,h2⟩:=h _ (oa.2 rfl)
  have hg:EE.P.globalNamed "internal/strconv.uint64pow10" =some 1:=by kernel_rfl
  have h2:w.heap[1]? =some (.cells AO e r):=h2
  simp only[Go.Lib.TabIs,World.var?,hg,Option.bind_some,h2]
  rfl
end
end AM
