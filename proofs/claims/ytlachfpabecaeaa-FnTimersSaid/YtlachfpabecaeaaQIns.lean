import Derived.Test.YtlachfpabecaeaaProg
import Derived.Shelf.RegionOpenPlain
import Derived.WalkKit
import Derived.Lib.Walk
import Derived.Lib.SliceRun
import Derived.Lib.JoinLaws
import Derived.Lib.AppendZerosOnto
import Derived.Lib.Overlaps
import Derived.Laws.Externs
import Derived.Laws.CopyRow
import Derived.Laws.NewBlocks
import Derived.Laws.IdiomCopy
namespace AM
open Go Go.RowKit Go.Proofs
set_option linter.unusedVariables false
set_option linter.unusedSimpArgs false
theorem s0 {P : Program} (w : World) (dT sT ty elem : TypeId) (i : TypeInfo) (g o FH LI : Nat) (a : Addr) (eX jK n : Nat) (cur : Array Value) (t : TypeId) (cs : List Value)
    (hu : P.underlying dT = some (.slice elem)) (hi : P.info? elem = some i)
    (hg : w.heap[g]? = some (.cells cur t (0, 0))) (hn : Nat.min eX FH = n) (ck : cs.length = n * i.size)
    (en : ∀ j v, cs[j]? = some v → w.cell? (a.add j) = some v) (re : o + cs.length ≤ cur.size) (h1 : ∀ v ∈ cs, v.oneCell' = true) :
    (Builtin.copy_ #[dT, sT] ty #[.slice (some ⟨g, o, none⟩) FH LI, .slice (some a) eX jK]).run P w =
      .ok (goInt n) (w.setRow g (cur.toList.take o ++ cs ++ cur.toList.drop (o + cs.length)).toArray) := by
  have hl := run_firstCells_some (P := P) w i.size n a eX jK cs ck en
  have io := run_storeCells_at P g o t cs 0 cur w hg (by simpa using re) h1
  simp [Builtin.copy_, run_underlying hu, Builtin.lenOf, Go.sizeOf, typeInfo, hi, hn, hl, io]
theorem mG {P : Program} (w : World) {ops : Array Oper} {rest : List Oper} {o : Oper} {a : Act} {Q : Exit → Act → World → Prop} (nF : o.guard = none) (d s : Operand) (t t' : TypeId)
    (ho : o.op = .call { callee := .builtin .copy, args := #[d, s], argTypes := #[t, t'] }) (v u : Value) (hd : a.eval d = v) (hs : a.eval s = u) {v' : Value} {w' : World}
    (hr : (Builtin.copy_ #[t, t'] o.type #[v, u]).run P w = .ok v' w') (h : wpList P ops Q rest (a.put o.dst v') w') : wpList P ops Q (o :: rest) a w := by
  refine wpList_plain nF fun _ hK => ?_
  unfold Oper.wp execOp
  simp only [ho, resolve, invoke, builtin, Sem.run_bind, Sem.run_pure, Result.andThen_ok, List.map_toArray, List.map_cons, List.map_nil, hd, hs, hr]
  exact hK _ _ h
theorem mH {P : Program} {ops : Array Oper} {o : Oper} {a : Act} {w : World} {K : Act → World → Prop} {Q : Exit → Act → World → Prop} {E : Prop}
    (hg : o.guard = none) (d x : Operand) (dT sT : TypeId) (gy : o.op = Op.call { callee := Callee.builtin Builtin.copy, args := #[d, x], argTypes := #[dT, sT] })
    (v u : Value) (hd : a.eval d = v) (hx : a.eval x = u) {v' : Value} {w' : World} (hr : (Builtin.copy_ #[dT, sT] o.type #[v, u]).run P w = .ok v' w') (hK : K (a.put o.dst v') w') :
    if Region.wanted o (yielded ops a.tmps) = true then Oper.wp P o a w K Q else E := by
  have hw : Region.wanted o (yielded ops a.tmps) = true := by simp [Region.wanted, hg]
  rw [if_pos hw]
  unfold Oper.wp
  simp [execOp, gy, resolve, invoke, builtin, hd, hx, hr, Result.andThen]
  exact hK

theorem tp {A D us xs : List Value} {n m i cap : Nat} (hA : A.length = cap * 3) (hx : A.take (n * 3) = xs) (hi : i ≤ n) (hc : n + m ≤ cap) (hu : us.length = m * 3) (hD : D = xs.drop (i * 3)) :
    ((((A.take ((i + m) * 3) ++ D ++ A.drop ((i + m) * 3 + D.length)).take (i * 3) ++ us ++ (A.take ((i + m) * 3) ++ D ++ A.drop ((i + m) * 3 + D.length)).drop (i * 3 + us.length)).take ((n + m) * 3)) = xs.take (i * 3) ++ us ++ xs.drop (i * 3)) ∧
    ((A.take ((i + m) * 3) ++ D ++ A.drop ((i + m) * 3 + D.length)).take (i * 3) ++ us ++ (A.take ((i + m) * 3) ++ D ++ A.drop ((i + m) * 3 + D.length)).drop (i * 3 + us.length)).length = A.length := by
  have rD : xs.length = n * 3 := by rw [← hx, List.length_take]; omega
  have Fu : D.length = n * 3 - i * 3 := by rw [hD, List.length_drop, rD]
  have e1 : (A.take ((i + m) * 3) ++ D ++ A.drop ((i + m) * 3 + D.length)).take (i * 3) = xs.take (i * 3) := by
    rw [List.append_assoc, List.take_append_of_le_length (by rw [List.length_take]; omega), List.take_take, ← hx, List.take_take, show min (i * 3) ((i + m) * 3) = i * 3 by omega, show min (i * 3) (n * 3) = i * 3 by omega]
  have e2 : (A.take ((i + m) * 3) ++ D ++ A.drop ((i + m) * 3 + D.length)).drop (i * 3 + us.length) = D ++ A.drop ((i + m) * 3 + D.length) := by
    rw [List.append_assoc, List.drop_append_of_le_length (by rw [List.length_take]; omega), List.drop_eq_nil_of_le (by rw [List.length_take]; omega), List.nil_append]
  rw [e1, e2]
  refine ⟨?_, ?_⟩
  · rw [← List.append_assoc, ← hD]
    rw [List.take_append_of_le_length (by simp only [List.length_append, List.length_take]; omega), List.take_of_length_le (by simp only [List.length_append, List.length_take]; omega)]
  · simp only [List.length_append, List.length_take, List.length_drop]; omega
set_option maxHeartbeats 4000000 in
set_option maxRecDepth 100000 in
theorem tK (i0 : TypeInfo) (hi : Try.prog.info? 38 = some i0) (l_ : i0.size = 3) (w : World) (g cap n i : Nat) (cur : Array Value) (xs : List Value) (ub : w.heap[g]? = some (.cells cur 38 (0, 0))) (kx : cap ≤ 9223372036854775807) (ik : cur.size = cap * 3) (gY : cur.toList.take (n * 3) = xs)
    (vb m vc : Nat) (wS : Array Value) (us : List Value) (ux : w.heap[vb]? = some (.cells wS 38 (0, 0))) (aX : vb ≠ g) (hm : 0 < m) (lh : us.length = m * 3) (fS : ∀ j u, us[j]? = some u → w.cell? ⟨vb, j, none⟩ = some u) (h1 : ∀ u ∈ us, u.oneCell' = true) (h2 : ∀ u ∈ xs, u.oneCell' = true) (fy : i < n) (eu : n + m ≤ cap) :
    Calls Try.prog 28 #[.slice (some ⟨g, 0, none⟩) n cap, .int .i64 i, .slice (some ⟨vb, 0, none⟩) m vc] w fun e w' => e = .returned (.slice (some ⟨g, 0, none⟩) (n + m) cap) ∧
      ∃ cur' : Array Value, cur'.size = cur.size ∧ cur'.toList.take ((n + m) * 3) = xs.take (i * 3) ++ us ++ xs.drop (i * 3) ∧ w' = w.drew.setRow g cur' := by
  have mn : ¬ ((m : Int) = 0) := by omega
  have nN : ¬ ((i : Int) = (n : Int)) := by omega
  have On : ∀ lb cb o, (callFunc 45 #[.slice (some ⟨vb, 0, none⟩) m vc, .slice (some ⟨g, o, none⟩) lb cb]).run Try.prog w = .ok (.value (.bool false)) w := fun lb cb o => by
    rw [run_callFunc_extern Try.func45 (by kernel_rfl) (by kernel_rfl) (by kernel_rfl) (e := Extern.SlicesOverlaps.overlaps #[30, 30] #[4]) (by kernel_rfl),
      Lib.run_overlaps_apart w 30 4 38 Try.underlying30 3 (fun w => by simp [Go.sizeOf, typeInfo, hi, l_]) ⟨vb, 0, none⟩ ⟨g, o, none⟩ m vc lb cb aX 38 38 wS.size cur.size (by simp [World.shape?, ux]) (by simp [World.shape?, ub]) (by omega) (by simp [World.frozen?, ux]) (by simp [World.frozen?, ux])]
    rfl
  have mixed : Try.prog.follows .mixedOrders = true := by kernel_rfl
  have kq : IntKind.i64.wrap ((i : Int) + (m : Int)) = (i : Int) + (m : Int) := by rw [IntKind.wrap_i64]; omega
  have hM : (0 : Int) ≤ (i : Int) + (m : Int) := by omega
  have B7 : ((i : Int) + (m : Int)).toNat = i + m := by omega
  have il : ¬ (cap = i + m) := by omega
  have Lm : (i : Int) ≤ (n : Int) + (m : Int) := by omega
  have PX : ¬ (cap = i) := by omega
  have KU : i ≤ n := by omega
  have rD : xs.length = n * 3 := by rw [← gY, List.length_take, Array.length_toList]; omega
  have Fu : (xs.drop (i * 3)).length = (n - i) * 3 := by rw [List.length_drop, rD]; omega
  obtain ⟨q1, q2⟩ := tp (A := cur.toList) (us := us) (m := m) (by rw [Array.length_toList]; exact ik) gY (Nat.le_of_lt fy) eu lh rfl
  obtain ⟨C1, G4⟩ : ∃ C1, C1 = cur.toList.take ((i + m) * 3) ++ xs.drop (i * 3) ++ cur.toList.drop ((i + m) * 3 + (xs.drop (i * 3)).length) := ⟨_, rfl⟩
  have Fx : C1.length = cap * 3 := by rw [G4]; simp only [List.length_append, List.length_take, List.length_drop, Array.length_toList]; omega
  rw [← G4] at q1 q2
  have nF : w.drew.heap[g]? = some (.cells cur 38 (0, 0)) := ub
  have Fk : ∀ ty dc sc, (Builtin.copy_ #[30, 30] ty #[.slice (some ⟨g, (i + m) * 3, none⟩) (n + m - (i + m)) dc, .slice (some ⟨g, i * 3, none⟩) (n + m - i) sc]).run Try.prog w.drew = .ok (goInt (n - i : Nat)) (w.drew.setRow g C1.toArray) := fun ty dc sc => by
    have h := s0 (P := Try.prog) w.drew 30 30 ty 38 i0 g ((i + m) * 3) (n + m - (i + m)) dc ⟨g, i * 3, none⟩ (n + m - i) sc (n - i) cur 38 (xs.drop (i * 3)) Try.underlying30 hi nF (by simp only [Nat.min_def]; split <;> omega) (by rw [Fu, l_])
      (fun j v hj => by
        rw [Addr.add_lit]
        rw [List.getElem?_drop, ← gY, List.getElem?_take] at hj
        split at hj
        · simp only [World.cell?, nF]; simpa using hj
        · cases hj) (by omega) (fun v hv => h2 v (List.mem_of_mem_drop hv))
    rw [← G4] at h
    exact h
  obtain ⟨W1, Fo⟩ : ∃ W1, W1 = w.drew.setRow g C1.toArray := ⟨_, rfl⟩
  have Nu : W1.heap[g]? = some (.cells C1.toArray 38 (0, 0)) := by rw [Fo]; exact setRow_heap _ _ _ _ _ _ nF
  rw [← Fo] at Fk
  have K9 : ∀ ty dc, (Builtin.copy_ #[30, 30] ty #[.slice (some ⟨g, i * 3, none⟩) (n + m - i) dc, .slice (some ⟨vb, 0, none⟩) m vc]).run Try.prog W1 = .ok (goInt m) (W1.setRow g (C1.take (i * 3) ++ us ++ C1.drop (i * 3 + us.length)).toArray) := fun ty dc => by
    have h := s0 (P := Try.prog) W1 30 30 ty 38 i0 g (i * 3) (n + m - i) dc ⟨vb, 0, none⟩ m vc m C1.toArray 38 us Try.underlying30 hi Nu (by simp only [Nat.min_def]; split <;> omega) (by rw [lh, l_])
      (fun j v hj => by
        rw [Addr.add_lit, Nat.zero_add, Fo, cell_setRow_other _ _ _ _ aX]; exact fS j v hj) (by simp only [List.size_toArray, Fx]; omega) h1
    exact h
  have q3 : ∀ X, W1.setRow g X = w.drew.setRow g X := fun X => by rw [Fo, setRow_setRow]
  clear Fo Nu G4 Fx
  go_enter Try.func28, Try.ntmps28
  go_wp2_with (simp only [On])
  go_region_law_o (refine mH rfl _ _ 30 30 rfl _ _ (by simp [Act.eval, Act.put]) (by simp [Act.eval, Act.put]) (Fk _ _ _) ?_)
  go_wp2_with (at_builtin; refine mG _ rfl _ _ 30 30 rfl _ _ rfl rfl (K9 _ _) ?_)
  go_ret
  refine ⟨rfl, _, ?_, ?_, rfl⟩
  · simpa [lh] using q2
  · simpa [lh] using q1

theorem ui {R us xs D : List Value} {n m i G : Nat} (hR : R.length = G * 3) (hG : n + m ≤ G) (hx : xs.length = n * 3) (hi : i ≤ n) (Fp : R.take (i * 3) = xs.take (i * 3)) (hu : us.length = m * 3) (hD : D = xs.drop (i * 3)) :
    (((R.take (i * 3) ++ us ++ R.drop (i * 3 + us.length)).take ((i + m) * 3) ++ D ++ (R.take (i * 3) ++ us ++ R.drop (i * 3 + us.length)).drop ((i + m) * 3 + D.length)).take ((n + m) * 3) = xs.take (i * 3) ++ us ++ xs.drop (i * 3)) ∧
    ((R.take (i * 3) ++ us ++ R.drop (i * 3 + us.length)).take ((i + m) * 3) ++ D ++ (R.take (i * 3) ++ us ++ R.drop (i * 3 + us.length)).drop ((i + m) * 3 + D.length)).length = R.length := by
  have Fu : D.length = n * 3 - i * 3 := by rw [hD, List.length_drop, hx]
  have hl : (R.take (i * 3) ++ us).length = (i + m) * 3 := by simp only [List.length_append, List.length_take]; omega
  have e1 : (R.take (i * 3) ++ us ++ R.drop (i * 3 + us.length)).take ((i + m) * 3) = R.take (i * 3) ++ us := by
    rw [List.take_append_of_le_length (by omega), List.take_of_length_le (by omega)]
  rw [e1, Fp]
  rw [Fp] at hl
  refine ⟨?_, ?_⟩
  · rw [← hD, List.take_append_of_le_length (by rw [List.length_append]; omega), List.take_of_length_le (by rw [List.length_append]; omega)]
  · simp only [List.length_append, List.length_take, List.length_drop] at hl ⊢; omega
set_option maxHeartbeats 4000000 in
set_option maxRecDepth 100000 in
theorem vo (i0 : TypeInfo) (z0 : Value) (hi : Try.prog.info? 38 = some i0) (hz : i0.zero = some z0) (l_ : i0.size = 3) (lg : z0.cells.size = 3) (qg : i0.bytes ≤ 4096) (w : World) (g cap n i : Nat) (cur : Array Value) (xs : List Value) (ub : w.heap[g]? = some (.cells cur 38 (0, 0))) (kx : cap ≤ 9223372036854775807) (Ou : n ≤ cap) (ik : cur.size = cap * 3) (gY : cur.toList.take (n * 3) = xs)
    (vb m vc : Nat) (us : List Value) (AB : vb < w.heap.size) (hm : 0 < m) (lh : us.length = m * 3) (fS : ∀ j u, us[j]? = some u → w.cell? ⟨vb, j, none⟩ = some u) (h1 : ∀ u ∈ us, u.oneCell' = true) (h2 : ∀ u ∈ xs, u.oneCell' = true) (fy : i < n) (eu : cap < n + m) (gR : n + m ≤ 4294967296) :
    Calls Try.prog 28 #[.slice (some ⟨g, 0, none⟩) n cap, .int .i64 i, .slice (some ⟨vb, 0, none⟩) m vc] w fun e w' => ∃ G, e = .returned (.slice (some ⟨w.heap.size, 0, none⟩) (n + m) G) ∧ n + m ≤ G ∧ G ≤ maxLen ∧
      (∃ C : List Value, C.length = G * 3 ∧ C.take ((n + m) * 3) = xs.take (i * 3) ++ us ++ xs.drop (i * 3) ∧ w'.heap[w.heap.size]? = some (.cells C.toArray 38 (0, 0))) ∧ w'.os = w.os ∧ w'.tape = w.tape ∧ w'.output = w.output ∧ w'.heap.size = w.heap.size + 1 ∧ ∀ k, k < w.heap.size → w'.heap[k]? = w.heap[k]? := by
  have mn : ¬ ((m : Int) = 0) := by omega
  have nN : ¬ ((i : Int) = (n : Int)) := by omega
  have PP : (cap : Int) < (n : Int) + (m : Int) := by omega
  have mixed : Try.prog.follows .mixedOrders = true := by kernel_rfl
  have rD : xs.length = n * 3 := by rw [← gY, List.length_take, Array.length_toList]; omega
  have Fu : (xs.drop (i * 3)).length = (n - i) * 3 := by rw [List.length_drop, rD]; omega
  have GX : g < w.heap.size := (Array.getElem?_eq_some_iff.1 ub).1
  have lV : (n : Int) + (m : Int) - (i : Int) = ((n + m - i : Nat) : Int) := by omega
  have Ch : i + (n + m - i) = n + m := by omega
  have en : ∀ j v, xs[j]? = some v → w.cell? ⟨g, j, none⟩ = some v := fun j v hj => by
    rw [← gY, List.getElem?_take] at hj
    split at hj
    · simp only [World.cell?, ub]; simpa using hj
    · cases hj
  have Cl : (n + m) * i0.bytes ≤ 4294967296 * 4096 := Nat.mul_le_mul gR qg
  have hold : (Builtin.firstCells i0.size i (.slice (some ⟨g, 0, none⟩) i cap)).run Try.prog w.drew = .ok (xs.take (i * 3)).toArray w.drew :=
    run_firstCells_some w.drew i0.size i ⟨g, 0, none⟩ i cap (xs.take (i * 3)) (by rw [List.length_take, l_, rD]; omega) (fun j v hj => by
      rw [Addr.add_lit, Nat.zero_add]
      rw [List.getElem?_take] at hj
      split at hj
      · exact en j v hj
      · cases hj)
  have Kw : ∀ ty, (Builtin.append_ #[30, 3] ty #[.slice (some ⟨g, 0, none⟩) i cap, .int .i64 ((n : Int) + (m : Int) - (i : Int))]).run Try.prog w =
      .ok (.slice (some ⟨w.heap.size, 0, none⟩) (n + m) (grownCap w (n + m) cap 38)) (w.drew.alloc (.cells ((xs.take (i * 3)).toArray ++ Builtin.zeroCells z0.cells (n + m - i) ++ Builtin.zeroCells z0.cells (grownCap w (n + m) cap 38 - (n + m))) 38)) := fun ty => by
    have h := Lib.run_append_grow_zeros w 30 3 ty 38 i0 z0 .i64 .i64 Try.underlying30 Try.underlying3 hi hz (some ⟨g, 0, none⟩) i cap (xs.take (i * 3)) hold (n + m - i) (by omega) (by omega) (by omega) (by omega) (by have : (n + m - i) * i0.bytes ≤ (n + m) * i0.bytes := Nat.mul_le_mul_right _ (by omega); omega) (by rw [Ch]; exact growslice_fits eu (by omega))
    rw [Ch] at h
    rw [lV]
    exact h
  have wL : n + m ≤ grownCap w (n + m) cap 38 := grownCap_ge w _ _ _
  have wM := grownCap_le_maxLen w (n + m) cap 38 (by unfold maxLen; omega)
  obtain ⟨G, hG⟩ : ∃ G, G = grownCap w (n + m) cap 38 := ⟨_, rfl⟩
  obtain ⟨p9, x9⟩ : ∃ p9 : Array Value, p9 = (xs.take (i * 3)).toArray ++ Builtin.zeroCells z0.cells (n + m - i) ++ Builtin.zeroCells z0.cells (G - (n + m)) := ⟨_, rfl⟩
  rw [← hG] at Kw wL wM
  rw [← x9] at Kw
  have G1 : p9.size = G * 3 := by
    rw [x9]
    simp [Builtin.zeroCells, lg, List.length_take, rD]
    omega
  have Fp : p9.toList.take (i * 3) = xs.take (i * 3) := by
    rw [x9, Array.toList_append, Array.toList_append, List.append_assoc, List.take_append_of_le_length (by simp [rD]; omega)]
    simp [List.take_take]
  have O9 : G ≤ 9223372036854775807 := by unfold maxLen at wM; omega
  have P0 : ¬ (G = i) := by omega
  have O8 : ¬ (G = i + m) := by omega
  have zd : ¬ (cap = i) := by omega
  obtain ⟨q1, q2⟩ := ui (R := p9.toList) (us := us) (m := m) (n := n) (G := G) (by rw [Array.length_toList]; exact G1) wL rD (Nat.le_of_lt fy) Fp lh rfl
  obtain ⟨C2, G3⟩ : ∃ C2, C2 = p9.toList.take (i * 3) ++ us ++ p9.toList.drop (i * 3 + us.length) := ⟨_, rfl⟩
  have Fw : C2.length = G * 3 := by rw [G3]; simp only [List.length_append, List.length_take, List.length_drop, Array.length_toList]; omega
  rw [← G3] at q1 q2
  obtain ⟨C3, Lw⟩ : ∃ C3, C3 = C2.take ((i + m) * 3) ++ xs.drop (i * 3) ++ C2.drop ((i + m) * 3 + (xs.drop (i * 3)).length) := ⟨_, rfl⟩
  rw [← Lw] at q1 q2
  have hA : (w.drew.alloc (.cells p9 38)).heap[w.heap.size]? = some (.cells p9 38 (0, 0)) := heap_alloc_new w.drew _
  have G5 : ∀ k, k < w.heap.size → (w.drew.alloc (.cells p9 38)).heap[k]? = w.heap[k]? := fun k hk => by show (w.heap.push _)[k]? = _; rw [Array.getElem?_push_lt hk, Array.getElem?_eq_getElem hk]
  have K8 : ∀ (W : World), W.heap = (w.drew.alloc (.cells p9 38)).heap → ∀ ty dc, (Builtin.copy_ #[30, 30] ty #[.slice (some ⟨w.heap.size, i * 3, none⟩) (n + m - i) dc, .slice (some ⟨vb, 0, none⟩) m vc]).run Try.prog W = .ok (goInt m) (W.setRow w.heap.size C2.toArray) := fun W hW ty dc => by
    have h := s0 (P := Try.prog) W 30 30 ty 38 i0 w.heap.size (i * 3) (n + m - i) dc ⟨vb, 0, none⟩ m vc m p9 38 us Try.underlying30 hi (by rw [hW]; exact hA) (by simp only [Nat.min_def]; split <;> omega) (by rw [lh, l_])
      (fun j v hj => by
        rw [Addr.add_lit, Nat.zero_add, World.cell?_of_block (w := w) (by rw [hW]; exact G5 _ AB)]; exact fS j v hj) (by rw [G1, lh]; omega) h1
    rw [← G3] at h
    exact h
  have Fj : ∀ (W : World), W.heap = ((w.drew.alloc (.cells p9 38)).setRow w.heap.size C2.toArray).heap → ∀ ty dc sc, (Builtin.copy_ #[30, 30] ty #[.slice (some ⟨w.heap.size, (i + m) * 3, none⟩) (n + m - (i + m)) dc, .slice (some ⟨g, i * 3, none⟩) (n - i) sc]).run Try.prog W = .ok (goInt (n - i : Nat)) (W.setRow w.heap.size C3.toArray) := fun W hW ty dc sc => by
    have h := s0 (P := Try.prog) W 30 30 ty 38 i0 w.heap.size ((i + m) * 3) (n + m - (i + m)) dc ⟨g, i * 3, none⟩ (n - i) sc (n - i) C2.toArray 38 (xs.drop (i * 3)) Try.underlying30 hi (by rw [hW]; exact setRow_heap _ _ _ _ _ _ hA) (by simp only [Nat.min_def]; split <;> omega) (by rw [Fu, l_])
      (fun j v hj => by
        rw [Addr.add_lit, World.cell?_of_block (w := w) (by rw [hW, setRow_other _ _ _ _ (show g ≠ w.heap.size from Nat.ne_of_lt GX)]; exact G5 _ GX)]
        exact en _ v (by rwa [List.getElem?_drop] at hj)) (by simp only [List.size_toArray, Fw]; omega) (fun v hv => h2 v (List.mem_of_mem_drop hv))
    rw [← Lw] at h
    exact h
  have fin : ∀ W : World, W.heap = ((w.drew.alloc (.cells p9 38)).setRow w.heap.size C2.toArray).heap → (W.setRow w.heap.size C3.toArray).heap[w.heap.size]? = some (.cells C3.toArray 38 (0, 0)) ∧ (W.setRow w.heap.size C3.toArray).heap.size = w.heap.size + 1 ∧ ∀ k, k < w.heap.size → (W.setRow w.heap.size C3.toArray).heap[k]? = w.heap[k]? := fun W hW => by
    refine ⟨setRow_heap _ _ _ _ _ _ (by rw [hW]; exact setRow_heap _ _ _ _ _ _ hA), ?_, fun k hk => ?_⟩
    · rw [setRow_size, hW, setRow_size]; simp
    · rw [setRow_other _ _ _ _ (by omega), hW, setRow_other _ _ _ _ (by omega)]; exact G5 k hk
  have hE : ((w.alloc (.cells p9 38)).drew).heap = (w.drew.alloc (.cells p9 38)).heap := rfl
  have hF : (((w.alloc (.cells p9 38)).drew.setRow w.heap.size C2.toArray).drew).heap = ((w.drew.alloc (.cells p9 38)).setRow w.heap.size C2.toArray).heap := rfl
  have Lv : C3.length = G * 3 := by rw [q2]; rw [Array.length_toList]; exact G1
  clear q2 hA G5 hold x9 hG G1 Fp G3 Lw Fw lV Ch
  have kq : IntKind.i64.wrap ((i : Int) + (m : Int)) = (i : Int) + (m : Int) := by rw [IntKind.wrap_i64]; omega
  have hM : (0 : Int) ≤ (i : Int) + (m : Int) := by omega
  have KU : i ≤ n := by omega
  have B7 : ((i : Int) + (m : Int)).toNat = i + m := by omega
  have Lm : (i : Int) ≤ (n : Int) := by omega
  go_enter Try.func28, Try.ntmps28
  go_wp2_with (first
    | (at_builtin; refine Lib.wpList_append_run _ rfl _ _ _ _ rfl _ _ rfl rfl _ _ (Kw _) ?_)
    | (at_builtin; refine mG _ rfl _ _ 30 30 rfl _ _ rfl rfl (K8 _ hE _ _) ?_)
    | (at_builtin; refine mG _ rfl _ _ 30 30 rfl _ _ rfl rfl (Fj _ hF _ _ _) ?_))
  go_region_law_o (refine mH rfl _ _ 30 30 rfl (.slice (some ⟨w.heap.size, (i + m) * 3, none⟩) (n + m - (i + m)) (G - (i + m))) (.slice (some ⟨g, i * 3, none⟩) (n - i) (cap - i)) (by simp [Act.eval, Act.put]) (by simp [Act.eval, Act.put]) (Fj _ hF 3 (G - (i + m)) (cap - i)) ?_)
  go_wp2
  go_ret
  refine ⟨G, rfl, wL, wM, ⟨C3, Lv, q1, (fin _ hF).1⟩, rfl, rfl, rfl, (fin _ hF).2.1, (fin _ hF).2.2⟩

set_option maxHeartbeats 4000000 in
set_option maxRecDepth 100000 in
theorem tM (i0 : TypeInfo) (z0 : Value) (hi : Try.prog.info? 38 = some i0) (hz : i0.zero = some z0) (l_ : i0.size = 3) (lg : z0.cells.size = 3) (qg : i0.bytes ≤ 4096) (w : World) (ad : Option Addr)
    (vb m vc : Nat) (us : List Value) (hm : 0 < m) (lh : us.length = m * 3) (fS : ∀ j u, us[j]? = some u → w.cell? ⟨vb, j, none⟩ = some u) (h1 : ∀ u ∈ us, u.oneCell' = true) (gR : m ≤ 4294967296) :
    Calls Try.prog 28 #[.slice ad 0 0, .int .i64 0, .slice (some ⟨vb, 0, none⟩) m vc] w fun e w' => ∃ G, e = .returned (.slice (some ⟨w.heap.size, 0, none⟩) m G) ∧ m ≤ G ∧ G ≤ maxLen ∧
      (∃ C : List Value, C.length = G * 3 ∧ C.take (m * 3) = us ∧ w'.heap[w.heap.size]? = some (.cells C.toArray 38 (0, 0))) ∧ w'.os = w.os ∧ w'.tape = w.tape ∧ w'.output = w.output ∧ w'.heap.size = w.heap.size + 1 ∧ ∀ k, k < w.heap.size → w'.heap[k]? = w.heap[k]? := by
  have en : Src Try.prog i0.size 30 (.slice (some ⟨vb, 0, none⟩) m vc) m us w := Src.ofSlice w Try.underlying30 ⟨vb, 0, none⟩ m vc us (by rw [lh, l_]) (fun j u hj => by rw [Addr.add_lit, Nat.zero_add]; exact fS j u hj) h1
  have Cl : m * i0.bytes ≤ 4294967296 * 4096 := Nat.mul_le_mul gR qg
  have hold : (Builtin.firstCells i0.size 0 (.slice ad 0 0)).run Try.prog w.drew = .ok ([] : List Value).toArray w.drew := by
    cases ad with
    | none => exact run_firstCells_none w.drew i0.size 0 0 0
    | some a => exact run_firstCells_some w.drew i0.size 0 a 0 0 [] (by simp) (fun j v hj => by simp at hj)
  have hr := fun ty => run_append_grow_src w 30 30 ty 38 i0 z0 Try.underlying30 hi hz ad 0 0 [] hold (.slice (some ⟨vb, 0, none⟩) m vc) m us en (by omega) (by omega) (growslice_fits (by omega) (by rw [Nat.zero_add]; omega))
  simp only [Nat.zero_add, List.nil_append] at hr
  have wL : m ≤ grownCap w m 0 38 := grownCap_ge w _ _ _
  have wM := grownCap_le_maxLen w m 0 38 (by unfold maxLen; omega)
  generalize grownCap w m 0 38 = G at hr wL wM
  generalize z0.cells = zc at hr lg
  clear hz z0
  have mn : ¬ ((m : Int) = 0) := by omega
  have fin : ∃ C : List Value, C.length = G * 3 ∧ C.take (m * 3) = us ∧ (w.drew.alloc (.cells (us.toArray ++ Builtin.zeroCells zc (G - m)) 38)).heap[w.heap.size]? = some (.cells C.toArray 38 (0, 0)) := by
    refine ⟨us ++ (Builtin.zeroCells zc (G - m)).toList, ?_, ?_, ?_⟩
    · simp [Builtin.zeroCells, lg, lh]; omega
    · rw [← lh]; simp
    · have := heap_alloc_new w.drew (.cells (us.toArray ++ Builtin.zeroCells zc (G - m)) 38)
      rw [show (us ++ (Builtin.zeroCells zc (G - m)).toList).toArray = us.toArray ++ Builtin.zeroCells zc (G - m) by apply Array.ext'; simp]
      exact this
  clear hold en Cl
  go_enter Try.func28, Try.ntmps28
  cases ad with
  | none =>
    go_wp2_with (at_builtin; refine Lib.wpList_append_run _ rfl _ _ _ _ rfl _ _ rfl rfl _ _ (hr _) ?_)
    go_ret
    exact ⟨G, rfl, wL, wM, fin, rfl, rfl, rfl, Array.size_push .., fun k hk => by show (w.heap.push _)[k]? = _; rw [Array.getElem?_push_lt hk, Array.getElem?_eq_getElem hk]⟩
  | some a =>
    obtain ⟨ab, ao, P7⟩ := a
    go_wp2_with (at_builtin; refine Lib.wpList_append_run _ rfl _ _ _ _ rfl _ _ rfl rfl _ _ (hr _) ?_)
    all_goals (go_ret; exact ⟨G, rfl, wL, wM, fin, rfl, rfl, rfl, Array.size_push .., fun k hk => by show (w.heap.push _)[k]? = _; rw [Array.getElem?_push_lt hk, Array.getElem?_eq_getElem hk]⟩)

set_option maxHeartbeats 4000000 in
set_option maxRecDepth 100000 in
theorem vn (i0 : TypeInfo) (z0 : Value) (hi : Try.prog.info? 38 = some i0) (hz : i0.zero = some z0) (l_ : i0.size = 3) (lg : z0.cells.size = 3) (qg : i0.bytes ≤ 4096) (w : World) (g cap n : Nat) (cur : Array Value) (xs : List Value) (ub : w.heap[g]? = some (.cells cur 38 (0, 0))) (kx : cap ≤ 9223372036854775807) (Ou : n ≤ cap) (ik : cur.size = cap * 3) (gY : cur.toList.take (n * 3) = xs)
    (vb m vc : Nat) (us : List Value) (hm : 0 < m) (lh : us.length = m * 3) (fS : ∀ j u, us[j]? = some u → w.cell? ⟨vb, j, none⟩ = some u) (h1 : ∀ u ∈ us, u.oneCell' = true) (gR : n + m ≤ 4294967296) :
    Calls Try.prog 28 #[.slice (some ⟨g, 0, none⟩) n cap, .int .i64 n, .slice (some ⟨vb, 0, none⟩) m vc] w fun e w' =>
      (∃ cur' : Array Value, e = .returned (.slice (some ⟨g, 0, none⟩) (n + m) cap) ∧ n + m ≤ cap ∧ cur'.size = cur.size ∧ cur'.toList.take ((n + m) * 3) = xs ++ us ∧ w' = w.setRow g cur') ∨
      (∃ G, e = .returned (.slice (some ⟨w.heap.size, 0, none⟩) (n + m) G) ∧ n + m ≤ G ∧ G ≤ maxLen ∧
        (∃ C : List Value, C.length = G * 3 ∧ C.take ((n + m) * 3) = xs ++ us ∧ w'.heap[w.heap.size]? = some (.cells C.toArray 38 (0, 0))) ∧ w'.os = w.os ∧ w'.tape = w.tape ∧ w'.output = w.output ∧ w'.heap.size = w.heap.size + 1 ∧ ∀ k, k < w.heap.size → w'.heap[k]? = w.heap[k]?) := by
  have mn : ¬ ((m : Int) = 0) := by omega
  have xR : ((n : Int) == (n : Int)) = true := by simp
  have rD : xs.length = n * 3 := by rw [← gY, List.length_take, Array.length_toList]; omega
  by_cases eu : n + m ≤ cap
  · have hr := fun ty => run_append_room w 30 ty 38 i0 Try.underlying30 hi g n cap cur ub ⟨vb, 0, none⟩ m vc us (by rw [lh, l_]) (fun j u hj => by rw [Addr.add_lit, Nat.zero_add]; exact fS j u hj) h1 eu (by rw [l_, lh]; omega)
    rw [l_] at hr
    have fin : ∃ cur' : Array Value, cur'.size = cur.size ∧ cur'.toList.take ((n + m) * 3) = xs ++ us ∧ cur' = (cur.toList.take (n * 3) ++ us ++ cur.toList.drop (n * 3 + us.length)).toArray := by
      refine ⟨_, ?_, ?_, rfl⟩
      · simp only [List.size_toArray, List.length_append, List.length_take, List.length_drop, Array.length_toList]; omega
      · rw [gY]
        rw [List.take_append_of_le_length (by rw [List.length_append]; omega), List.take_of_length_le (by rw [List.length_append]; omega)]
    obtain ⟨cur', f1, f2, f3⟩ := fin
    rw [← f3] at hr
    clear f3
    go_enter Try.func28, Try.ntmps28
    go_wp2_with (at_builtin; refine Lib.wpList_append_run _ rfl _ _ _ _ rfl _ _ rfl rfl _ _ (hr _) ?_)
    all_goals (go_ret; (first | refine Or.inl ?_ | skip); exact ⟨cur', rfl, eu, f1, f2, rfl⟩)
  · have EN : ∀ j v, xs[j]? = some v → w.cell? ⟨g, j, none⟩ = some v := fun j v hj => by
      rw [← gY, List.getElem?_take] at hj
      split at hj
      · simp only [World.cell?, ub]; simpa using hj
      · cases hj
    have en : Src Try.prog i0.size 30 (.slice (some ⟨vb, 0, none⟩) m vc) m us w := Src.ofSlice w Try.underlying30 ⟨vb, 0, none⟩ m vc us (by rw [lh, l_]) (fun j u hj => by rw [Addr.add_lit, Nat.zero_add]; exact fS j u hj) h1
    have Cl : (n + m) * i0.bytes ≤ 4294967296 * 4096 := Nat.mul_le_mul gR qg
    have hold : (Builtin.firstCells i0.size n (.slice (some ⟨g, 0, none⟩) n cap)).run Try.prog w.drew = .ok xs.toArray w.drew :=
      run_firstCells_some w.drew i0.size n ⟨g, 0, none⟩ n cap xs (by rw [l_]; exact rD) (fun j v hj => by rw [Addr.add_lit, Nat.zero_add]; exact EN j v hj)
    have hr := fun ty => run_append_grow_src w 30 30 ty 38 i0 z0 Try.underlying30 hi hz (some ⟨g, 0, none⟩) n cap xs hold (.slice (some ⟨vb, 0, none⟩) m vc) m us en (by omega) (by omega) (growslice_fits (by omega) (by omega))
    have wL : n + m ≤ grownCap w (n + m) cap 38 := grownCap_ge w _ _ _
    have wM := grownCap_le_maxLen w (n + m) cap 38 (by unfold maxLen; omega)
    generalize grownCap w (n + m) cap 38 = G at hr wL wM
    generalize z0.cells = zc at hr lg
    have fin : ∃ C : List Value, C.length = G * 3 ∧ C.take ((n + m) * 3) = xs ++ us ∧ (w.drew.alloc (.cells ((xs ++ us).toArray ++ Builtin.zeroCells zc (G - (n + m))) 38)).heap[w.heap.size]? = some (.cells C.toArray 38 (0, 0)) := by
      refine ⟨xs ++ us ++ (Builtin.zeroCells zc (G - (n + m))).toList, ?_, ?_, ?_⟩
      · simp [Builtin.zeroCells, lg, lh, rD]; omega
      · rw [List.take_append_of_le_length (by rw [List.length_append]; omega), List.take_of_length_le (by rw [List.length_append]; omega)]
      · have := heap_alloc_new w.drew (.cells ((xs ++ us).toArray ++ Builtin.zeroCells zc (G - (n + m))) 38)
        rw [show (xs ++ us ++ (Builtin.zeroCells zc (G - (n + m))).toList).toArray = (xs ++ us).toArray ++ Builtin.zeroCells zc (G - (n + m)) by apply Array.ext'; simp]
        exact this
    generalize (xs ++ us).toArray ++ Builtin.zeroCells zc (G - (n + m)) = p9 at fin hr
    clear hold en Cl hz
    go_enter Try.func28, Try.ntmps28
    go_wp2_with (at_builtin; refine Lib.wpList_append_run _ rfl _ _ _ _ rfl _ _ rfl rfl _ _ (hr _) ?_)
    all_goals (go_ret; (first | refine Or.inr ?_ | skip); exact ⟨G, rfl, wL, wM, fin, rfl, rfl, rfl, Array.size_push .., fun k hk => by show (w.heap.push _)[k]? = _; rw [Array.getElem?_push_lt hk, Array.getElem?_eq_getElem hk]⟩)
end AM
