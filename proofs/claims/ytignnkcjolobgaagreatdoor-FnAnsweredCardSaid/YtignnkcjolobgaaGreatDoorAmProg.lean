/- The program, as the abstract machine sees it: written by gen/env.py. -/
import Derived.Test.YtignnkcjolobgaaGreatDoorAmAnn
import Derived.Test.YtignnkcjolobgaaGreatDoorAmTypes
import Derived.Test.YtignnkcjolobgaaGreatDoorProg
import Derived.Lib.LaidTab
import Derived.Lib.ItoaNum
import Derived.KernelRfl
namespace AM
open Go
noncomputable section
def tyl : List (TypeId × Cd) := [(3, .int), (5, .byte), (9, .str), (37, .eVal), (27, .eFact), (143, .eItem), (72, .eStore), (137, .eArg), (156, .ePat), (149, .eBind), (139, .eCond), (161, .eExpr), (159, .eAct), (127, .eRule), (111, .eDef), (147, .eMatch), (131, .eTimer), (39, .eTask), (52, .eCall), (133, .eUndo), (77, .eInst), (95, .eWork), (99, .eBook)]
def ttid : Cd → TypeId
  | .int => 3
  | .byte => 5
  | .str => 9
  | .eVal => 37
  | .eFact => 27
  | .eItem => 143
  | .eStore => 72
  | .eArg => 137
  | .ePat => 156
  | .eBind => 149
  | .eCond => 139
  | .eExpr => 161
  | .eAct => 159
  | .eRule => 127
  | .eDef => 111
  | .eMatch => 147
  | .eTimer => 131
  | .eTask => 39
  | .eCall => 52
  | .eUndo => 133
  | .eInst => 77
  | .eWork => 95
  | .eBook => 99
  | _ => 0
def EE0 : Env UU := { P := Go.Proofs.Tryz.prog, tid := ttid, code := codeOf tyl, con := fun _ => none }
theorem EE0_ok : EE0.Ok := env_ok (by kernel_rfl) (by kernel_rfl)
def pow10Cells : Array Value := (Go.Lib.pow10Tab.map fun z => Value.int .u64 z).toArray
def EE : Env UU := { EE0 with tabs := [(1, pow10Cells)] }
theorem EE_ok : EE.Ok := ⟨EE0_ok.code, EE0_ok.mixed⟩
theorem tab_is {w : World} {F : Nat → Prop} (h : Lay EE w F) : Go.Lib.TabIs EE.P w "internal/strconv.uint64pow10" .u64 Go.Lib.pow10Tab := by
  obtain ⟨_, e, r, h2⟩ := h _ (List.mem_singleton.2 rfl)
  have hg : EE.P.globalNamed "internal/strconv.uint64pow10" = some 1 := by kernel_rfl
  have h2 : w.heap[1]? = some (.cells pow10Cells e r) := h2
  simp only [Go.Lib.TabIs, World.var?, hg, Option.bind_some, h2]
  rfl
end
end AM
