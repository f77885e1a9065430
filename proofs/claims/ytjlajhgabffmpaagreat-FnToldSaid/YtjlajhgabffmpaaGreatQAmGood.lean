/- The frame's facts on the program's types: written by gen/env.py. -/
import Derived.Test.YtjlajhgabffmpaaGreatQAmProg
import Derived.Test.YtjlajhgabffmpaaGreatQAmKinds
import Derived.KernelRfl
namespace AM
open Go
set_option maxRecDepth 100000
theorem ajB : tk EE 8 3 = some (Cd.kinds .int) := by kernel_rfl
theorem ajA : tk EE 8 5 = some (Cd.kinds .byte) := by kernel_rfl
theorem ajz : tk EE 8 9 = some (Cd.kinds .str) := by kernel_rfl
theorem abZ : tk EE 8 74 = some (Cd.kinds .bc) := by kernel_rfl
theorem ab2 : tk EE 8 38 = some (Cd.kinds .dk) := by kernel_rfl
theorem abX : tk EE 8 79 = some (Cd.kinds .aH) := by kernel_rfl
theorem ab4 : tk EE 8 29 = some (Cd.kinds .c_) := by kernel_rfl
theorem Zl : tk EE 8 149 = some (Cd.kinds .gH) := by kernel_rfl
theorem Zi : tk EE 8 164 = some (Cd.kinds .dE) := by kernel_rfl
theorem Zh : tk EE 8 189 = some (Cd.kinds .cv) := by kernel_rfl
theorem Zk : tk EE 8 151 = some (Cd.kinds .bT) := by kernel_rfl
theorem Zg : tk EE 8 201 = some (Cd.kinds .bG) := by kernel_rfl
theorem Zj : tk EE 8 155 = some (Cd.kinds .dG) := by kernel_rfl
theorem Zo : tk EE 8 115 = some (Cd.kinds .bz) := by kernel_rfl
theorem ab5 : tk EE 8 26 = some (Cd.kinds .h_) := by kernel_rfl
theorem abW : tk EE 8 91 = some (Cd.kinds .aB) := by kernel_rfl
theorem Zf : tk EE 8 214 = some (Cd.kinds .eD) := by kernel_rfl
theorem Zn : tk EE 8 120 = some (Cd.kinds .aI) := by kernel_rfl
theorem abY : tk EE 8 76 = some (Cd.kinds .az) := by kernel_rfl
theorem Ze : tk EE 8 224 = some (Cd.kinds .k8) := by kernel_rfl
theorem Zm : tk EE 8 123 = some (Cd.kinds .aW) := by kernel_rfl
theorem ab3 : tk EE 8 35 = some (Cd.kinds .ct) := by kernel_rfl
theorem ab1 : tk EE 8 58 = some (Cd.kinds .kZ) := by kernel_rfl
theorem ab0 : tk EE 8 62 = some (Cd.kinds .oi) := by kernel_rfl
theorem ajv : EE.P.cellsOf 3 = UU.wd .int := by kernel_rfl
theorem aju : EE.P.cellsOf 5 = UU.wd .byte := by kernel_rfl
theorem ajt : EE.P.cellsOf 9 = UU.wd .str := by kernel_rfl
theorem abN : EE.P.cellsOf 74 = UU.wd .bc := by kernel_rfl
theorem abQ : EE.P.cellsOf 38 = UU.wd .dk := by kernel_rfl
theorem abL : EE.P.cellsOf 79 = UU.wd .aH := by kernel_rfl
theorem abS : EE.P.cellsOf 29 = UU.wd .c_ := by kernel_rfl
theorem Y9 : EE.P.cellsOf 149 = UU.wd .gH := by kernel_rfl
theorem Y6 : EE.P.cellsOf 164 = UU.wd .dE := by kernel_rfl
theorem Y5 : EE.P.cellsOf 189 = UU.wd .cv := by kernel_rfl
theorem Y8 : EE.P.cellsOf 151 = UU.wd .bT := by kernel_rfl
theorem Y4 : EE.P.cellsOf 201 = UU.wd .bG := by kernel_rfl
theorem Y7 : EE.P.cellsOf 155 = UU.wd .dG := by kernel_rfl
theorem Za : EE.P.cellsOf 115 = UU.wd .bz := by kernel_rfl
theorem abT : EE.P.cellsOf 26 = UU.wd .h_ := by kernel_rfl
theorem abK : EE.P.cellsOf 91 = UU.wd .aB := by kernel_rfl
theorem Y3 : EE.P.cellsOf 214 = UU.wd .eD := by kernel_rfl
theorem Y_ : EE.P.cellsOf 120 = UU.wd .aI := by kernel_rfl
theorem abM : EE.P.cellsOf 76 = UU.wd .az := by kernel_rfl
theorem Y2 : EE.P.cellsOf 224 = UU.wd .k8 := by kernel_rfl
theorem Y' : EE.P.cellsOf 123 = UU.wd .aW := by kernel_rfl
theorem abR : EE.P.cellsOf 35 = UU.wd .ct := by kernel_rfl
theorem abP : EE.P.cellsOf 58 = UU.wd .kZ := by kernel_rfl
theorem abO : EE.P.cellsOf 62 = UU.wd .oi := by kernel_rfl
theorem LH {l : List (TypeId × Cd)} {e : TypeId} {τ : Cd} (h : xb (U := UU) l e = some τ) : (e, τ) ∈ l := by
  induction l with
  | nil => cases h
  | cons p l ih =>
    obtain ⟨a, b⟩ := p
    simp only [xb] at h
    cases hb : Nat.beq a e <;> rw [hb] at h <;> simp only [cond_true, cond_false] at h
    · exact List.mem_cons_of_mem _ (ih h)
    · cases h
      rw [Nat.eq_of_beq_eq_true hb]
      exact List.mem_cons_self
theorem ady : Hs EE Cd.kinds := by
  refine ⟨fun e τ h => ?_, fun e τ h => ?_, PJ⟩
  · have := LH (l := tyl) h
    simp only [tyl, List.mem_cons, Prod.mk.injEq, List.not_mem_nil, or_false] at this
    rcases this with ⟨rfl, rfl⟩ | ⟨rfl, rfl⟩ | ⟨rfl, rfl⟩ | ⟨rfl, rfl⟩ | ⟨rfl, rfl⟩ | ⟨rfl, rfl⟩ | ⟨rfl, rfl⟩ | ⟨rfl, rfl⟩ | ⟨rfl, rfl⟩ | ⟨rfl, rfl⟩ | ⟨rfl, rfl⟩ | ⟨rfl, rfl⟩ | ⟨rfl, rfl⟩ | ⟨rfl, rfl⟩ | ⟨rfl, rfl⟩ | ⟨rfl, rfl⟩ | ⟨rfl, rfl⟩ | ⟨rfl, rfl⟩ | ⟨rfl, rfl⟩ | ⟨rfl, rfl⟩ | ⟨rfl, rfl⟩ | ⟨rfl, rfl⟩ | ⟨rfl, rfl⟩ | ⟨rfl, rfl⟩
    · exact ajB
    · exact ajA
    · exact ajz
    · exact abZ
    · exact ab2
    · exact abX
    · exact ab4
    · exact Zl
    · exact Zi
    · exact Zh
    · exact Zk
    · exact Zg
    · exact Zj
    · exact Zo
    · exact ab5
    · exact abW
    · exact Zf
    · exact Zn
    · exact abY
    · exact Ze
    · exact Zm
    · exact ab3
    · exact ab1
    · exact ab0
  · have := LH (l := tyl) h
    simp only [tyl, List.mem_cons, Prod.mk.injEq, List.not_mem_nil, or_false] at this
    rcases this with ⟨rfl, rfl⟩ | ⟨rfl, rfl⟩ | ⟨rfl, rfl⟩ | ⟨rfl, rfl⟩ | ⟨rfl, rfl⟩ | ⟨rfl, rfl⟩ | ⟨rfl, rfl⟩ | ⟨rfl, rfl⟩ | ⟨rfl, rfl⟩ | ⟨rfl, rfl⟩ | ⟨rfl, rfl⟩ | ⟨rfl, rfl⟩ | ⟨rfl, rfl⟩ | ⟨rfl, rfl⟩ | ⟨rfl, rfl⟩ | ⟨rfl, rfl⟩ | ⟨rfl, rfl⟩ | ⟨rfl, rfl⟩ | ⟨rfl, rfl⟩ | ⟨rfl, rfl⟩ | ⟨rfl, rfl⟩ | ⟨rfl, rfl⟩ | ⟨rfl, rfl⟩ | ⟨rfl, rfl⟩
    · exact ajv
    · exact aju
    · exact ajt
    · exact abN
    · exact abQ
    · exact abL
    · exact abS
    · exact Y9
    · exact Y6
    · exact Y5
    · exact Y8
    · exact Y4
    · exact Y7
    · exact Za
    · exact abT
    · exact abK
    · exact Y3
    · exact Y_
    · exact abM
    · exact Y2
    · exact Y'
    · exact abR
    · exact abP
    · exact abO
theorem laid : laidOutB EE.P = true := by kernel_rfl
theorem aac : mapsRowed EE.P = true := by kernel_rfl
theorem sized : ((List.range EE.P.types.size).all fun t => match EE.P.underlying t with | some (.slice e) => decide (0 < EE.P.cellsOf e) | _ => true) = true := by kernel_rfl
theorem own : ownKnob EE.P.godebug = none := by kernel_rfl
end AM
