/- The frame's facts on the program's types: written by gen/env.py. -/
import Derived.Test.YtmlhlndkkidhoaaGreatQAmProg
import Derived.Test.YtmlhlndkkidhoaaGreatQAmKinds
import Derived.KernelRfl
namespace AM
open Go
set_option maxRecDepth 100000
theorem alk : tk EE 8 3 = some (Cd.kinds .int) := by kernel_rfl
theorem alj : tk EE 8 5 = some (Cd.kinds .byte) := by kernel_rfl
theorem ali : tk EE 8 9 = some (Cd.kinds .str) := by kernel_rfl
theorem abF : tk EE 8 57 = some (Cd.kinds .aM) := by kernel_rfl
theorem abG : tk EE 8 55 = some (Cd.kinds .bP) := by kernel_rfl
theorem abB : tk EE 8 87 = some (Cd.kinds .aX) := by kernel_rfl
theorem abI : tk EE 8 29 = some (Cd.kinds .bV) := by kernel_rfl
theorem Xq : tk EE 8 127 = some (Cd.kinds .er) := by kernel_rfl
theorem Xn : tk EE 8 144 = some (Cd.kinds .cU) := by kernel_rfl
theorem Xj : tk EE 8 233 = some (Cd.kinds .b_) := by kernel_rfl
theorem Xp : tk EE 8 129 = some (Cd.kinds .bL) := by kernel_rfl
theorem Xm : tk EE 8 155 = some (Cd.kinds .bq) := by kernel_rfl
theorem Xo : tk EE 8 133 = some (Cd.kinds .cV) := by kernel_rfl
theorem abC : tk EE 8 83 = some (Cd.kinds .a_) := by kernel_rfl
theorem abJ : tk EE 8 26 = some (Cd.kinds .dZ) := by kernel_rfl
theorem abD : tk EE 8 76 = some (Cd.kinds .az) := by kernel_rfl
theorem Xl : tk EE 8 164 = some (Cd.kinds .dc) := by kernel_rfl
theorem abA : tk EE 8 92 = some (Cd.kinds .aH) := by kernel_rfl
theorem abE : tk EE 8 59 = some (Cd.kinds .aA) := by kernel_rfl
theorem Xk : tk EE 8 207 = some (Cd.kinds .kH) := by kernel_rfl
theorem abz : tk EE 8 95 = some (Cd.kinds .aT) := by kernel_rfl
theorem abH : tk EE 8 35 = some (Cd.kinds .bD) := by kernel_rfl
theorem ale : EE.P.cellsOf 3 = UU.wd .int := by kernel_rfl
theorem ald : EE.P.cellsOf 5 = UU.wd .byte := by kernel_rfl
theorem alc : EE.P.cellsOf 9 = UU.wd .str := by kernel_rfl
theorem abr : EE.P.cellsOf 57 = UU.wd .aM := by kernel_rfl
theorem abt : EE.P.cellsOf 55 = UU.wd .bP := by kernel_rfl
theorem abn : EE.P.cellsOf 87 = UU.wd .aX := by kernel_rfl
theorem abv : EE.P.cellsOf 29 = UU.wd .bV := by kernel_rfl
theorem Xd : EE.P.cellsOf 127 = UU.wd .er := by kernel_rfl
theorem Xa : EE.P.cellsOf 144 = UU.wd .cU := by kernel_rfl
theorem W7 : EE.P.cellsOf 233 = UU.wd .b_ := by kernel_rfl
theorem Xc : EE.P.cellsOf 129 = UU.wd .bL := by kernel_rfl
theorem W_ : EE.P.cellsOf 155 = UU.wd .bq := by kernel_rfl
theorem Xb : EE.P.cellsOf 133 = UU.wd .cV := by kernel_rfl
theorem abo : EE.P.cellsOf 83 = UU.wd .a_ := by kernel_rfl
theorem abw : EE.P.cellsOf 26 = UU.wd .dZ := by kernel_rfl
theorem abp : EE.P.cellsOf 76 = UU.wd .az := by kernel_rfl
theorem W9 : EE.P.cellsOf 164 = UU.wd .dc := by kernel_rfl
theorem abm : EE.P.cellsOf 92 = UU.wd .aH := by kernel_rfl
theorem abq : EE.P.cellsOf 59 = UU.wd .aA := by kernel_rfl
theorem W8 : EE.P.cellsOf 207 = UU.wd .kH := by kernel_rfl
theorem abl : EE.P.cellsOf 95 = UU.wd .aT := by kernel_rfl
theorem abu : EE.P.cellsOf 35 = UU.wd .bD := by kernel_rfl
theorem JI {l : List (TypeId × Cd)} {e : TypeId} {τ : Cd} (h : v8 (U := UU) l e = some τ) : (e, τ) ∈ l := by
  induction l with
  | nil => cases h
  | cons p l ih =>
    obtain ⟨a, b⟩ := p
    simp only [v8] at h
    cases hb : Nat.beq a e <;> rw [hb] at h <;> simp only [cond_true, cond_false] at h
    · exact List.mem_cons_of_mem _ (ih h)
    · cases h
      rw [Nat.eq_of_beq_eq_true hb]
      exact List.mem_cons_self
theorem adf : vB EE Cd.kinds := by
  refine ⟨fun e τ h => ?_, fun e τ h => ?_, Nd⟩
  · have := JI (l := tyl) h
    simp only [tyl, List.mem_cons, Prod.mk.injEq, List.not_mem_nil, or_false] at this
    rcases this with ⟨rfl, rfl⟩ | ⟨rfl, rfl⟩ | ⟨rfl, rfl⟩ | ⟨rfl, rfl⟩ | ⟨rfl, rfl⟩ | ⟨rfl, rfl⟩ | ⟨rfl, rfl⟩ | ⟨rfl, rfl⟩ | ⟨rfl, rfl⟩ | ⟨rfl, rfl⟩ | ⟨rfl, rfl⟩ | ⟨rfl, rfl⟩ | ⟨rfl, rfl⟩ | ⟨rfl, rfl⟩ | ⟨rfl, rfl⟩ | ⟨rfl, rfl⟩ | ⟨rfl, rfl⟩ | ⟨rfl, rfl⟩ | ⟨rfl, rfl⟩ | ⟨rfl, rfl⟩ | ⟨rfl, rfl⟩ | ⟨rfl, rfl⟩
    · exact alk
    · exact alj
    · exact ali
    · exact abF
    · exact abG
    · exact abB
    · exact abI
    · exact Xq
    · exact Xn
    · exact Xj
    · exact Xp
    · exact Xm
    · exact Xo
    · exact abC
    · exact abJ
    · exact abD
    · exact Xl
    · exact abA
    · exact abE
    · exact Xk
    · exact abz
    · exact abH
  · have := JI (l := tyl) h
    simp only [tyl, List.mem_cons, Prod.mk.injEq, List.not_mem_nil, or_false] at this
    rcases this with ⟨rfl, rfl⟩ | ⟨rfl, rfl⟩ | ⟨rfl, rfl⟩ | ⟨rfl, rfl⟩ | ⟨rfl, rfl⟩ | ⟨rfl, rfl⟩ | ⟨rfl, rfl⟩ | ⟨rfl, rfl⟩ | ⟨rfl, rfl⟩ | ⟨rfl, rfl⟩ | ⟨rfl, rfl⟩ | ⟨rfl, rfl⟩ | ⟨rfl, rfl⟩ | ⟨rfl, rfl⟩ | ⟨rfl, rfl⟩ | ⟨rfl, rfl⟩ | ⟨rfl, rfl⟩ | ⟨rfl, rfl⟩ | ⟨rfl, rfl⟩ | ⟨rfl, rfl⟩ | ⟨rfl, rfl⟩ | ⟨rfl, rfl⟩
    · exact ale
    · exact ald
    · exact alc
    · exact abr
    · exact abt
    · exact abn
    · exact abv
    · exact Xd
    · exact Xa
    · exact W7
    · exact Xc
    · exact W_
    · exact Xb
    · exact abo
    · exact abw
    · exact abp
    · exact W9
    · exact abm
    · exact abq
    · exact W8
    · exact abl
    · exact abu
theorem laid : laidOutB EE.P = true := by kernel_rfl
theorem Yf : mapsRowed EE.P = true := by kernel_rfl
theorem sized : ((List.range EE.P.types.size).all fun t => match EE.P.underlying t with | some (.slice e) => decide (0 < EE.P.cellsOf e) | _ => true) = true := by kernel_rfl
theorem own : ownKnob EE.P.godebug = none := by kernel_rfl
end AM
