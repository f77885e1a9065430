import Derived.Test.YtlachfpabecaeaaProg
import Derived.Shelf.RegionOpenPlain
import Derived.WalkKit
import Derived.Lib.Walk
import Derived.Lib.SliceRun
import Derived.Lib.JoinLaws
import Derived.Lib.AppendZerosOnto
import Derived.Lib.Overlaps
import Derived.Laws.Externs
import Derived.Laws.CopyRow
import Derived.Laws.NewBlocks
import Derived.Laws.IdiomCopy
namespace AM
open Go Go.RowKit Go.Proofs
set_option linter.unusedVariables false
set_option linter.unusedSimpArgs false
theorem rQ {P : Program} (w : World) (dT sT ty elem : TypeId) (i : TypeInfo) (g o Fp Lk : Nat) (a : Addr) (eE ji n : Nat) (cur : Array Value) (t : TypeId) (cs : List Value)
    (hu : P.underlying dT = some (.slice elem)) (hi : P.info? elem = some i)
    (hg : w.heap[g]? = some (.cells cur t (0, 0))) (hn : Nat.min eE Fp = n) (cp : cs.length = n * i.size)
    (dU : ∀ j v, cs[j]? = some v → w.cell? (a.add j) = some v) (p7 : o + cs.length ≤ cur.size) (h1 : ∀ v ∈ cs, v.oneCell' = true) :
    (Builtin.copy_ #[dT, sT] ty #[.slice (some ⟨g, o, none⟩) Fp Lk, .slice (some a) eE ji]).run P w =
      .ok (goInt n) (w.setRow g (cur.toList.take o ++ cs ++ cur.toList.drop (o + cs.length)).toArray) := by
  have hl := run_firstCells_some (P := P) w i.size n a eE ji cs cp dU
  have gW := run_storeCells_at P g o t cs 0 cur w hg (by simpa using p7) h1
  simp [Builtin.copy_, run_underlying hu, Builtin.lenOf, Go.sizeOf, typeInfo, hi, hn, hl, gW]
theorem lR {P : Program} (w : World) {ops : Array Oper} {rest : List Oper} {o : Oper} {a : Act} {Q : Exit → Act → World → Prop} (mN : o.guard = none) (d s : Operand) (t t' : TypeId)
    (ho : o.op = .call { callee := .builtin .copy, args := #[d, s], argTypes := #[t, t'] }) (v u : Value) (hd : a.eval d = v) (hs : a.eval s = u) {v' : Value} {w' : World}
    (hr : (Builtin.copy_ #[t, t'] o.type #[v, u]).run P w = .ok v' w') (h : wpList P ops Q rest (a.put o.dst v') w') : wpList P ops Q (o :: rest) a w := by
  refine wpList_plain mN fun _ hK => ?_
  unfold Oper.wp execOp
  simp only [ho, resolve, invoke, builtin, Sem.run_bind, Sem.run_pure, Result.andThen_ok, List.map_toArray, List.map_cons, List.map_nil, hd, hs, hr]
  exact hK _ _ h
theorem lT {P : Program} {ops : Array Oper} {o : Oper} {a : Act} {w : World} {K : Act → World → Prop} {Q : Exit → Act → World → Prop} {E : Prop}
    (hg : o.guard = none) (d x : Operand) (dT sT : TypeId) (fV : o.op = Op.call { callee := Callee.builtin Builtin.copy, args := #[d, x], argTypes := #[dT, sT] })
    (v u : Value) (hd : a.eval d = v) (hx : a.eval x = u) {v' : Value} {w' : World} (hr : (Builtin.copy_ #[dT, sT] o.type #[v, u]).run P w = .ok v' w') (hK : K (a.put o.dst v') w') :
    if Region.wanted o (yielded ops a.tmps) = true then Oper.wp P o a w K Q else E := by
  have hw : Region.wanted o (yielded ops a.tmps) = true := by simp [Region.wanted, hg]
  rw [if_pos hw]
  unfold Oper.wp
  simp [execOp, fV, resolve, invoke, builtin, hd, hx, hr, Result.andThen]
  exact hK

theorem sb {A D us xs : List Value} {n m i cap : Nat} (hA : A.length = cap * 3) (hx : A.take (n * 3) = xs) (hi : i ≤ n) (hc : n + m ≤ cap) (hu : us.length = m * 3) (hD : D = xs.drop (i * 3)) :
    ((((A.take ((i + m) * 3) ++ D ++ A.drop ((i + m) * 3 + D.length)).take (i * 3) ++ us ++ (A.take ((i + m) * 3) ++ D ++ A.drop ((i + m) * 3 + D.length)).drop (i * 3 + us.length)).take ((n + m) * 3)) = xs.take (i * 3) ++ us ++ xs.drop (i * 3)) ∧
    ((A.take ((i + m) * 3) ++ D ++ A.drop ((i + m) * 3 + D.length)).take (i * 3) ++ us ++ (A.take ((i + m) * 3) ++ D ++ A.drop ((i + m) * 3 + D.length)).drop (i * 3 + us.length)).length = A.length := by
  have qi : xs.length = n * 3 := by rw [← hx, List.length_take]; omega
  have Fa : D.length = n * 3 - i * 3 := by rw [hD, List.length_drop, qi]
  have e1 : (A.take ((i + m) * 3) ++ D ++ A.drop ((i + m) * 3 + D.length)).take (i * 3) = xs.take (i * 3) := by
    rw [List.append_assoc, List.take_append_of_le_length (by rw [List.length_take]; omega), List.take_take, ← hx, List.take_take, show min (i * 3) ((i + m) * 3) = i * 3 by omega, show min (i * 3) (n * 3) = i * 3 by omega]
  have e2 : (A.take ((i + m) * 3) ++ D ++ A.drop ((i + m) * 3 + D.length)).drop (i * 3 + us.length) = D ++ A.drop ((i + m) * 3 + D.length) := by
    rw [List.append_assoc, List.drop_append_of_le_length (by rw [List.length_take]; omega), List.drop_eq_nil_of_le (by rw [List.length_take]; omega), List.nil_append]
  rw [e1, e2]
  refine ⟨?_, ?_⟩
  · rw [← List.append_assoc, ← hD]
    rw [List.take_append_of_le_length (by simp only [List.length_append, List.length_take]; omega), List.take_of_length_le (by simp only [List.length_append, List.length_take]; omega)]
  · simp only [List.length_append, List.length_take, List.length_drop]; omega
set_option maxHeartbeats 4000000 in
set_option maxRecDepth 100000 in
theorem sC (i0 : TypeInfo) (hi : Try.prog.info? 38 = some i0) (lh : i0.size = 3) (w : World) (g cap n i : Nat) (cur : Array Value) (xs : List Value) (sS : w.heap[g]? = some (.cells cur 38 (0, 0))) (jR : cap ≤ 9223372036854775807) (gS : cur.size = cap * 3) (gy : cur.toList.take (n * 3) = xs)
    (vb m vc : Nat) (vJ : Array Value) (us : List Value) (s9 : w.heap[vb]? = some (.cells vJ 38 (0, 0))) (a_ : vb ≠ g) (hm : 0 < m) (kA : us.length = m * 3) (fv : ∀ j u, us[j]? = some u → w.cell? ⟨vb, j, none⟩ = some u) (h1 : ∀ u ∈ us, u.oneCell' = true) (h2 : ∀ u ∈ xs, u.oneCell' = true) (eU : i < n) (ea : n + m ≤ cap) :
    Calls Try.prog 28 #[.slice (some ⟨g, 0, none⟩) n cap, .int .i64 i, .slice (some ⟨vb, 0, none⟩) m vc] w fun e w' => e = .returned (.slice (some ⟨g, 0, none⟩) (n + m) cap) ∧
      ∃ cur' : Array Value, cur'.size = cur.size ∧ cur'.toList.take ((n + m) * 3) = xs.take (i * 3) ++ us ++ xs.drop (i * 3) ∧ w' = w.drew.setRow g cur' := by
  have jy : ¬ ((m : Int) = 0) := by omega
  have mY : ¬ ((i : Int) = (n : Int)) := by omega
  have PC : ∀ lb cb o, (callFunc 45 #[.slice (some ⟨vb, 0, none⟩) m vc, .slice (some ⟨g, o, none⟩) lb cb]).run Try.prog w = .ok (.value (.bool false)) w := fun lb cb o => by
    rw [run_callFunc_extern Try.func45 (by kernel_rfl) (by kernel_rfl) (by kernel_rfl) (e := Extern.SlicesOverlaps.overlaps #[30, 30] #[4]) (by kernel_rfl),
      Lib.run_overlaps_apart w 30 4 38 Try.underlying30 3 (fun w => by simp [Go.sizeOf, typeInfo, hi, lh]) ⟨vb, 0, none⟩ ⟨g, o, none⟩ m vc lb cb a_ 38 38 vJ.size cur.size (by simp [World.shape?, s9]) (by simp [World.shape?, sS]) (by omega) (by simp [World.frozen?, s9]) (by simp [World.frozen?, s9])]
    rfl
  have mixed : Try.prog.follows .mixedOrders = true := by kernel_rfl
  have jL : IntKind.i64.wrap ((i : Int) + (m : Int)) = (i : Int) + (m : Int) := by rw [IntKind.wrap_i64]; omega
  have gE : (0 : Int) ≤ (i : Int) + (m : Int) := by omega
  have BO : ((i : Int) + (m : Int)).toNat = i + m := by omega
  have gT : ¬ (cap = i + m) := by omega
  have KW : (i : Int) ≤ (n : Int) + (m : Int) := by omega
  have Ri : ¬ (cap = i) := by omega
  have Kx : i ≤ n := by omega
  have qi : xs.length = n * 3 := by rw [← gy, List.length_take, Array.length_toList]; omega
  have Fa : (xs.drop (i * 3)).length = (n - i) * 3 := by rw [List.length_drop, qi]; omega
  obtain ⟨q1, q2⟩ := sb (A := cur.toList) (us := us) (m := m) (by rw [Array.length_toList]; exact gS) gy (Nat.le_of_lt eU) ea kA rfl
  obtain ⟨C1, GA⟩ : ∃ C1, C1 = cur.toList.take ((i + m) * 3) ++ xs.drop (i * 3) ++ cur.toList.drop ((i + m) * 3 + (xs.drop (i * 3)).length) := ⟨_, rfl⟩
  have Ff : C1.length = cap * 3 := by rw [GA]; simp only [List.length_append, List.length_take, List.length_drop, Array.length_toList]; omega
  rw [← GA] at q1 q2
  have mN : w.drew.heap[g]? = some (.cells cur 38 (0, 0)) := sS
  have E2 : ∀ ty dc sc, (Builtin.copy_ #[30, 30] ty #[.slice (some ⟨g, (i + m) * 3, none⟩) (n + m - (i + m)) dc, .slice (some ⟨g, i * 3, none⟩) (n + m - i) sc]).run Try.prog w.drew = .ok (goInt (n - i : Nat)) (w.drew.setRow g C1.toArray) := fun ty dc sc => by
    have h := rQ (P := Try.prog) w.drew 30 30 ty 38 i0 g ((i + m) * 3) (n + m - (i + m)) dc ⟨g, i * 3, none⟩ (n + m - i) sc (n - i) cur 38 (xs.drop (i * 3)) Try.underlying30 hi mN (by simp only [Nat.min_def]; split <;> omega) (by rw [Fa, lh])
      (fun j v hj => by
        rw [Addr.add_lit]
        rw [List.getElem?_drop, ← gy, List.getElem?_take] at hj
        split at hj
        · simp only [World.cell?, mN]; simpa using hj
        · cases hj) (by omega) (fun v hv => h2 v (List.mem_of_mem_drop hv))
    rw [← GA] at h
    exact h
  obtain ⟨W1, E6⟩ : ∃ W1, W1 = w.drew.setRow g C1.toArray := ⟨_, rfl⟩
  have OJ : W1.heap[g]? = some (.cells C1.toArray 38 (0, 0)) := by rw [E6]; exact setRow_heap _ _ _ _ _ _ mN
  rw [← E6] at E2
  have KL : ∀ ty dc, (Builtin.copy_ #[30, 30] ty #[.slice (some ⟨g, i * 3, none⟩) (n + m - i) dc, .slice (some ⟨vb, 0, none⟩) m vc]).run Try.prog W1 = .ok (goInt m) (W1.setRow g (C1.take (i * 3) ++ us ++ C1.drop (i * 3 + us.length)).toArray) := fun ty dc => by
    have h := rQ (P := Try.prog) W1 30 30 ty 38 i0 g (i * 3) (n + m - i) dc ⟨vb, 0, none⟩ m vc m C1.toArray 38 us Try.underlying30 hi OJ (by simp only [Nat.min_def]; split <;> omega) (by rw [kA, lh])
      (fun j v hj => by
        rw [Addr.add_lit, Nat.zero_add, E6, cell_setRow_other _ _ _ _ a_]; exact fv j v hj) (by simp only [List.size_toArray, Ff]; omega) h1
    exact h
  have q3 : ∀ X, W1.setRow g X = w.drew.setRow g X := fun X => by rw [E6, setRow_setRow]
  clear E6 OJ GA Ff
  go_enter Try.func28, Try.ntmps28
  go_wp2_with (simp only [PC])
  go_region_law_o (refine lT rfl _ _ 30 30 rfl _ _ (by simp [Act.eval, Act.put]) (by simp [Act.eval, Act.put]) (E2 _ _ _) ?_)
  go_wp2_with (at_builtin; refine lR _ rfl _ _ 30 30 rfl _ _ rfl rfl (KL _ _) ?_)
  go_ret
  refine ⟨rfl, _, ?_, ?_, rfl⟩
  · simpa [kA] using q2
  · simpa [kA] using q1

theorem sY {R us xs D : List Value} {n m i G : Nat} (hR : R.length = G * 3) (hG : n + m ≤ G) (hx : xs.length = n * 3) (hi : i ≤ n) (E7 : R.take (i * 3) = xs.take (i * 3)) (hu : us.length = m * 3) (hD : D = xs.drop (i * 3)) :
    (((R.take (i * 3) ++ us ++ R.drop (i * 3 + us.length)).take ((i + m) * 3) ++ D ++ (R.take (i * 3) ++ us ++ R.drop (i * 3 + us.length)).drop ((i + m) * 3 + D.length)).take ((n + m) * 3) = xs.take (i * 3) ++ us ++ xs.drop (i * 3)) ∧
    ((R.take (i * 3) ++ us ++ R.drop (i * 3 + us.length)).take ((i + m) * 3) ++ D ++ (R.take (i * 3) ++ us ++ R.drop (i * 3 + us.length)).drop ((i + m) * 3 + D.length)).length = R.length := by
  have Fa : D.length = n * 3 - i * 3 := by rw [hD, List.length_drop, hx]
  have hl : (R.take (i * 3) ++ us).length = (i + m) * 3 := by simp only [List.length_append, List.length_take]; omega
  have e1 : (R.take (i * 3) ++ us ++ R.drop (i * 3 + us.length)).take ((i + m) * 3) = R.take (i * 3) ++ us := by
    rw [List.take_append_of_le_length (by omega), List.take_of_length_le (by omega)]
  rw [e1, E7]
  rw [E7] at hl
  refine ⟨?_, ?_⟩
  · rw [← hD, List.take_append_of_le_length (by rw [List.length_append]; omega), List.take_of_length_le (by rw [List.length_append]; omega)]
  · simp only [List.length_append, List.length_take, List.length_drop] at hl ⊢; omega
set_option maxHeartbeats 4000000 in
set_option maxRecDepth 100000 in
theorem uf (i0 : TypeInfo) (z0 : Value) (hi : Try.prog.info? 38 = some i0) (hz : i0.zero = some z0) (lh : i0.size = 3) (kz : z0.cells.size = 3) (pu : i0.bytes ≤ 4096) (w : World) (g cap n i : Nat) (cur : Array Value) (xs : List Value) (sS : w.heap[g]? = some (.cells cur 38 (0, 0))) (jR : cap ≤ 9223372036854775807) (PG : n ≤ cap) (gS : cur.size = cap * 3) (gy : cur.toList.take (n * 3) = xs)
    (vb m vc : Nat) (us : List Value) (zp : vb < w.heap.size) (hm : 0 < m) (kA : us.length = m * 3) (fv : ∀ j u, us[j]? = some u → w.cell? ⟨vb, j, none⟩ = some u) (h1 : ∀ u ∈ us, u.oneCell' = true) (h2 : ∀ u ∈ xs, u.oneCell' = true) (eU : i < n) (ea : cap < n + m) (gi : n + m ≤ 4294967296) :
    Calls Try.prog 28 #[.slice (some ⟨g, 0, none⟩) n cap, .int .i64 i, .slice (some ⟨vb, 0, none⟩) m vc] w fun e w' => ∃ G, e = .returned (.slice (some ⟨w.heap.size, 0, none⟩) (n + m) G) ∧ n + m ≤ G ∧ G ≤ maxLen ∧
      (∃ C : List Value, C.length = G * 3 ∧ C.take ((n + m) * 3) = xs.take (i * 3) ++ us ++ xs.drop (i * 3) ∧ w'.heap[w.heap.size]? = some (.cells C.toArray 38 (0, 0))) ∧ w'.os = w.os ∧ w'.tape = w.tape ∧ w'.output = w.output ∧ w'.heap.size = w.heap.size + 1 ∧ ∀ k, k < w.heap.size → w'.heap[k]? = w.heap[k]? := by
  have jy : ¬ ((m : Int) = 0) := by omega
  have mY : ¬ ((i : Int) = (n : Int)) := by omega
  have Rb : (cap : Int) < (n : Int) + (m : Int) := by omega
  have mixed : Try.prog.follows .mixedOrders = true := by kernel_rfl
  have qi : xs.length = n * 3 := by rw [← gy, List.length_take, Array.length_toList]; omega
  have Fa : (xs.drop (i * 3)).length = (n - i) * 3 := by rw [List.length_drop, qi]; omega
  have Gt : g < w.heap.size := (Array.getElem?_eq_some_iff.1 sS).1
  have i_ : (n : Int) + (m : Int) - (i : Int) = ((n + m - i : Nat) : Int) := by omega
  have B0 : i + (n + m - i) = n + m := by omega
  have dU : ∀ j v, xs[j]? = some v → w.cell? ⟨g, j, none⟩ = some v := fun j v hj => by
    rw [← gy, List.getElem?_take] at hj
    split at hj
    · simp only [World.cell?, sS]; simpa using hj
    · cases hj
  have B6 : (n + m) * i0.bytes ≤ 4294967296 * 4096 := Nat.mul_le_mul gi pu
  have hold : (Builtin.firstCells i0.size i (.slice (some ⟨g, 0, none⟩) i cap)).run Try.prog w.drew = .ok (xs.take (i * 3)).toArray w.drew :=
    run_firstCells_some w.drew i0.size i ⟨g, 0, none⟩ i cap (xs.take (i * 3)) (by rw [List.length_take, lh, qi]; omega) (fun j v hj => by
      rw [Addr.add_lit, Nat.zero_add]
      rw [List.getElem?_take] at hj
      split at hj
      · exact dU j v hj
      · cases hj)
  have J9 : ∀ ty, (Builtin.append_ #[30, 3] ty #[.slice (some ⟨g, 0, none⟩) i cap, .int .i64 ((n : Int) + (m : Int) - (i : Int))]).run Try.prog w =
      .ok (.slice (some ⟨w.heap.size, 0, none⟩) (n + m) (grownCap w (n + m) cap 38)) (w.drew.alloc (.cells ((xs.take (i * 3)).toArray ++ Builtin.zeroCells z0.cells (n + m - i) ++ Builtin.zeroCells z0.cells (grownCap w (n + m) cap 38 - (n + m))) 38)) := fun ty => by
    have h := Lib.run_append_grow_zeros w 30 3 ty 38 i0 z0 .i64 .i64 Try.underlying30 Try.underlying3 hi hz (some ⟨g, 0, none⟩) i cap (xs.take (i * 3)) hold (n + m - i) (by omega) (by omega) (by omega) (by omega) (by have : (n + m - i) * i0.bytes ≤ (n + m) * i0.bytes := Nat.mul_le_mul_right _ (by omega); omega) (by rw [B0]; exact growslice_fits ea (by omega))
    rw [B0] at h
    rw [i_]
    exact h
  have vE : n + m ≤ grownCap w (n + m) cap 38 := grownCap_ge w _ _ _
  have vF := grownCap_le_maxLen w (n + m) cap 38 (by unfold maxLen; omega)
  obtain ⟨G, hG⟩ : ∃ G, G = grownCap w (n + m) cap 38 := ⟨_, rfl⟩
  obtain ⟨pj, wY⟩ : ∃ pj : Array Value, pj = (xs.take (i * 3)).toArray ++ Builtin.zeroCells z0.cells (n + m - i) ++ Builtin.zeroCells z0.cells (G - (n + m)) := ⟨_, rfl⟩
  rw [← hG] at J9 vE vF
  rw [← wY] at J9
  have Gx : pj.size = G * 3 := by
    rw [wY]
    simp [Builtin.zeroCells, kz, List.length_take, qi]
    omega
  have E7 : pj.toList.take (i * 3) = xs.take (i * 3) := by
    rw [wY, Array.toList_append, Array.toList_append, List.append_assoc, List.take_append_of_le_length (by simp [qi]; omega)]
    simp [List.take_take]
  have Qh : G ≤ 9223372036854775807 := by unfold maxLen at vF; omega
  have Rl : ¬ (G = i) := by omega
  have Qg : ¬ (G = i + m) := by omega
  have Gu : ¬ (cap = i) := by omega
  obtain ⟨q1, q2⟩ := sY (R := pj.toList) (us := us) (m := m) (n := n) (G := G) (by rw [Array.length_toList]; exact Gx) vE qi (Nat.le_of_lt eU) E7 kA rfl
  obtain ⟨C2, Gz⟩ : ∃ C2, C2 = pj.toList.take (i * 3) ++ us ++ pj.toList.drop (i * 3 + us.length) := ⟨_, rfl⟩
  have Fe : C2.length = G * 3 := by rw [Gz]; simp only [List.length_append, List.length_take, List.length_drop, Array.length_toList]; omega
  rw [← Gz] at q1 q2
  obtain ⟨C3, K7⟩ : ∃ C3, C3 = C2.take ((i + m) * 3) ++ xs.drop (i * 3) ++ C2.drop ((i + m) * 3 + (xs.drop (i * 3)).length) := ⟨_, rfl⟩
  rw [← K7] at q1 q2
  have hA : (w.drew.alloc (.cells pj 38)).heap[w.heap.size]? = some (.cells pj 38 (0, 0)) := heap_alloc_new w.drew _
  have GB : ∀ k, k < w.heap.size → (w.drew.alloc (.cells pj 38)).heap[k]? = w.heap[k]? := fun k hk => by show (w.heap.push _)[k]? = _; rw [Array.getElem?_push_lt hk, Array.getElem?_eq_getElem hk]
  have KK : ∀ (W : World), W.heap = (w.drew.alloc (.cells pj 38)).heap → ∀ ty dc, (Builtin.copy_ #[30, 30] ty #[.slice (some ⟨w.heap.size, i * 3, none⟩) (n + m - i) dc, .slice (some ⟨vb, 0, none⟩) m vc]).run Try.prog W = .ok (goInt m) (W.setRow w.heap.size C2.toArray) := fun W hW ty dc => by
    have h := rQ (P := Try.prog) W 30 30 ty 38 i0 w.heap.size (i * 3) (n + m - i) dc ⟨vb, 0, none⟩ m vc m pj 38 us Try.underlying30 hi (by rw [hW]; exact hA) (by simp only [Nat.min_def]; split <;> omega) (by rw [kA, lh])
      (fun j v hj => by
        rw [Addr.add_lit, Nat.zero_add, World.cell?_of_block (w := w) (by rw [hW]; exact GB _ zp)]; exact fv j v hj) (by rw [Gx, kA]; omega) h1
    rw [← Gz] at h
    exact h
  have E1 : ∀ (W : World), W.heap = ((w.drew.alloc (.cells pj 38)).setRow w.heap.size C2.toArray).heap → ∀ ty dc sc, (Builtin.copy_ #[30, 30] ty #[.slice (some ⟨w.heap.size, (i + m) * 3, none⟩) (n + m - (i + m)) dc, .slice (some ⟨g, i * 3, none⟩) (n - i) sc]).run Try.prog W = .ok (goInt (n - i : Nat)) (W.setRow w.heap.size C3.toArray) := fun W hW ty dc sc => by
    have h := rQ (P := Try.prog) W 30 30 ty 38 i0 w.heap.size ((i + m) * 3) (n + m - (i + m)) dc ⟨g, i * 3, none⟩ (n - i) sc (n - i) C2.toArray 38 (xs.drop (i * 3)) Try.underlying30 hi (by rw [hW]; exact setRow_heap _ _ _ _ _ _ hA) (by simp only [Nat.min_def]; split <;> omega) (by rw [Fa, lh])
      (fun j v hj => by
        rw [Addr.add_lit, World.cell?_of_block (w := w) (by rw [hW, setRow_other _ _ _ _ (show g ≠ w.heap.size from Nat.ne_of_lt Gt)]; exact GB _ Gt)]
        exact dU _ v (by rwa [List.getElem?_drop] at hj)) (by simp only [List.size_toArray, Fe]; omega) (fun v hv => h2 v (List.mem_of_mem_drop hv))
    rw [← K7] at h
    exact h
  have fin : ∀ W : World, W.heap = ((w.drew.alloc (.cells pj 38)).setRow w.heap.size C2.toArray).heap → (W.setRow w.heap.size C3.toArray).heap[w.heap.size]? = some (.cells C3.toArray 38 (0, 0)) ∧ (W.setRow w.heap.size C3.toArray).heap.size = w.heap.size + 1 ∧ ∀ k, k < w.heap.size → (W.setRow w.heap.size C3.toArray).heap[k]? = w.heap[k]? := fun W hW => by
    refine ⟨setRow_heap _ _ _ _ _ _ (by rw [hW]; exact setRow_heap _ _ _ _ _ _ hA), ?_, fun k hk => ?_⟩
    · rw [setRow_size, hW, setRow_size]; simp
    · rw [setRow_other _ _ _ _ (by omega), hW, setRow_other _ _ _ _ (by omega)]; exact GB k hk
  have hE : ((w.alloc (.cells pj 38)).drew).heap = (w.drew.alloc (.cells pj 38)).heap := rfl
  have hF : (((w.alloc (.cells pj 38)).drew.setRow w.heap.size C2.toArray).drew).heap = ((w.drew.alloc (.cells pj 38)).setRow w.heap.size C2.toArray).heap := rfl
  have K6 : C3.length = G * 3 := by rw [q2]; rw [Array.length_toList]; exact Gx
  clear q2 hA GB hold wY hG Gx E7 Gz K7 Fe i_ B0
  have jL : IntKind.i64.wrap ((i : Int) + (m : Int)) = (i : Int) + (m : Int) := by rw [IntKind.wrap_i64]; omega
  have gE : (0 : Int) ≤ (i : Int) + (m : Int) := by omega
  have Kx : i ≤ n := by omega
  have BO : ((i : Int) + (m : Int)).toNat = i + m := by omega
  have KW : (i : Int) ≤ (n : Int) := by omega
  go_enter Try.func28, Try.ntmps28
  go_wp2_with (first
    | (at_builtin; refine Lib.wpList_append_run _ rfl _ _ _ _ rfl _ _ rfl rfl _ _ (J9 _) ?_)
    | (at_builtin; refine lR _ rfl _ _ 30 30 rfl _ _ rfl rfl (KK _ hE _ _) ?_)
    | (at_builtin; refine lR _ rfl _ _ 30 30 rfl _ _ rfl rfl (E1 _ hF _ _ _) ?_))
  go_region_law_o (refine lT rfl _ _ 30 30 rfl (.slice (some ⟨w.heap.size, (i + m) * 3, none⟩) (n + m - (i + m)) (G - (i + m))) (.slice (some ⟨g, i * 3, none⟩) (n - i) (cap - i)) (by simp [Act.eval, Act.put]) (by simp [Act.eval, Act.put]) (E1 _ hF 3 (G - (i + m)) (cap - i)) ?_)
  go_wp2
  go_ret
  refine ⟨G, rfl, vE, vF, ⟨C3, K6, q1, (fin _ hF).1⟩, rfl, rfl, rfl, (fin _ hF).2.1, (fin _ hF).2.2⟩

set_option maxHeartbeats 4000000 in
set_option maxRecDepth 100000 in
theorem sE (i0 : TypeInfo) (z0 : Value) (hi : Try.prog.info? 38 = some i0) (hz : i0.zero = some z0) (lh : i0.size = 3) (kz : z0.cells.size = 3) (pu : i0.bytes ≤ 4096) (w : World) (ad : Option Addr)
    (vb m vc : Nat) (us : List Value) (hm : 0 < m) (kA : us.length = m * 3) (fv : ∀ j u, us[j]? = some u → w.cell? ⟨vb, j, none⟩ = some u) (h1 : ∀ u ∈ us, u.oneCell' = true) (gi : m ≤ 4294967296) :
    Calls Try.prog 28 #[.slice ad 0 0, .int .i64 0, .slice (some ⟨vb, 0, none⟩) m vc] w fun e w' => ∃ G, e = .returned (.slice (some ⟨w.heap.size, 0, none⟩) m G) ∧ m ≤ G ∧ G ≤ maxLen ∧
      (∃ C : List Value, C.length = G * 3 ∧ C.take (m * 3) = us ∧ w'.heap[w.heap.size]? = some (.cells C.toArray 38 (0, 0))) ∧ w'.os = w.os ∧ w'.tape = w.tape ∧ w'.output = w.output ∧ w'.heap.size = w.heap.size + 1 ∧ ∀ k, k < w.heap.size → w'.heap[k]? = w.heap[k]? := by
  have dU : Src Try.prog i0.size 30 (.slice (some ⟨vb, 0, none⟩) m vc) m us w := Src.ofSlice w Try.underlying30 ⟨vb, 0, none⟩ m vc us (by rw [kA, lh]) (fun j u hj => by rw [Addr.add_lit, Nat.zero_add]; exact fv j u hj) h1
  have B6 : m * i0.bytes ≤ 4294967296 * 4096 := Nat.mul_le_mul gi pu
  have hold : (Builtin.firstCells i0.size 0 (.slice ad 0 0)).run Try.prog w.drew = .ok ([] : List Value).toArray w.drew := by
    cases ad with
    | none => exact run_firstCells_none w.drew i0.size 0 0 0
    | some a => exact run_firstCells_some w.drew i0.size 0 a 0 0 [] (by simp) (fun j v hj => by simp at hj)
  have hr := fun ty => run_append_grow_src w 30 30 ty 38 i0 z0 Try.underlying30 hi hz ad 0 0 [] hold (.slice (some ⟨vb, 0, none⟩) m vc) m us dU (by omega) (by omega) (growslice_fits (by omega) (by rw [Nat.zero_add]; omega))
  simp only [Nat.zero_add, List.nil_append] at hr
  have vE : m ≤ grownCap w m 0 38 := grownCap_ge w _ _ _
  have vF := grownCap_le_maxLen w m 0 38 (by unfold maxLen; omega)
  generalize grownCap w m 0 38 = G at hr vE vF
  generalize z0.cells = zc at hr kz
  clear hz z0
  have jy : ¬ ((m : Int) = 0) := by omega
  have fin : ∃ C : List Value, C.length = G * 3 ∧ C.take (m * 3) = us ∧ (w.drew.alloc (.cells (us.toArray ++ Builtin.zeroCells zc (G - m)) 38)).heap[w.heap.size]? = some (.cells C.toArray 38 (0, 0)) := by
    refine ⟨us ++ (Builtin.zeroCells zc (G - m)).toList, ?_, ?_, ?_⟩
    · simp [Builtin.zeroCells, kz, kA]; omega
    · rw [← kA]; simp
    · have := heap_alloc_new w.drew (.cells (us.toArray ++ Builtin.zeroCells zc (G - m)) 38)
      rw [show (us ++ (Builtin.zeroCells zc (G - m)).toList).toArray = us.toArray ++ Builtin.zeroCells zc (G - m) by apply Array.ext'; simp]
      exact this
  clear hold dU B6
  go_enter Try.func28, Try.ntmps28
  cases ad with
  | none =>
    go_wp2_with (at_builtin; refine Lib.wpList_append_run _ rfl _ _ _ _ rfl _ _ rfl rfl _ _ (hr _) ?_)
    go_ret
    exact ⟨G, rfl, vE, vF, fin, rfl, rfl, rfl, Array.size_push .., fun k hk => by show (w.heap.push _)[k]? = _; rw [Array.getElem?_push_lt hk, Array.getElem?_eq_getElem hk]⟩
  | some a =>
    obtain ⟨ab, ao, Rt⟩ := a
    go_wp2_with (at_builtin; refine Lib.wpList_append_run _ rfl _ _ _ _ rfl _ _ rfl rfl _ _ (hr _) ?_)
    all_goals (go_ret; exact ⟨G, rfl, vE, vF, fin, rfl, rfl, rfl, Array.size_push .., fun k hk => by show (w.heap.push _)[k]? = _; rw [Array.getElem?_push_lt hk, Array.getElem?_eq_getElem hk]⟩)

set_option maxHeartbeats 4000000 in
set_option maxRecDepth 100000 in
theorem ue (i0 : TypeInfo) (z0 : Value) (hi : Try.prog.info? 38 = some i0) (hz : i0.zero = some z0) (lh : i0.size = 3) (kz : z0.cells.size = 3) (pu : i0.bytes ≤ 4096) (w : World) (g cap n : Nat) (cur : Array Value) (xs : List Value) (sS : w.heap[g]? = some (.cells cur 38 (0, 0))) (jR : cap ≤ 9223372036854775807) (PG : n ≤ cap) (gS : cur.size = cap * 3) (gy : cur.toList.take (n * 3) = xs)
    (vb m vc : Nat) (us : List Value) (hm : 0 < m) (kA : us.length = m * 3) (fv : ∀ j u, us[j]? = some u → w.cell? ⟨vb, j, none⟩ = some u) (h1 : ∀ u ∈ us, u.oneCell' = true) (gi : n + m ≤ 4294967296) :
    Calls Try.prog 28 #[.slice (some ⟨g, 0, none⟩) n cap, .int .i64 n, .slice (some ⟨vb, 0, none⟩) m vc] w fun e w' =>
      (∃ cur' : Array Value, e = .returned (.slice (some ⟨g, 0, none⟩) (n + m) cap) ∧ n + m ≤ cap ∧ cur'.size = cur.size ∧ cur'.toList.take ((n + m) * 3) = xs ++ us ∧ w' = w.setRow g cur') ∨
      (∃ G, e = .returned (.slice (some ⟨w.heap.size, 0, none⟩) (n + m) G) ∧ n + m ≤ G ∧ G ≤ maxLen ∧
        (∃ C : List Value, C.length = G * 3 ∧ C.take ((n + m) * 3) = xs ++ us ∧ w'.heap[w.heap.size]? = some (.cells C.toArray 38 (0, 0))) ∧ w'.os = w.os ∧ w'.tape = w.tape ∧ w'.output = w.output ∧ w'.heap.size = w.heap.size + 1 ∧ ∀ k, k < w.heap.size → w'.heap[k]? = w.heap[k]?) := by
  have jy : ¬ ((m : Int) = 0) := by omega
  have wL : ((n : Int) == (n : Int)) = true := by simp
  have qi : xs.length = n * 3 := by rw [← gy, List.length_take, Array.length_toList]; omega
  by_cases ea : n + m ≤ cap
  · have hr := fun ty => run_append_room w 30 ty 38 i0 Try.underlying30 hi g n cap cur sS ⟨vb, 0, none⟩ m vc us (by rw [kA, lh]) (fun j u hj => by rw [Addr.add_lit, Nat.zero_add]; exact fv j u hj) h1 ea (by rw [lh, kA]; omega)
    rw [lh] at hr
    have fin : ∃ cur' : Array Value, cur'.size = cur.size ∧ cur'.toList.take ((n + m) * 3) = xs ++ us ∧ cur' = (cur.toList.take (n * 3) ++ us ++ cur.toList.drop (n * 3 + us.length)).toArray := by
      refine ⟨_, ?_, ?_, rfl⟩
      · simp only [List.size_toArray, List.length_append, List.length_take, List.length_drop, Array.length_toList]; omega
      · rw [gy]
        rw [List.take_append_of_le_length (by rw [List.length_append]; omega), List.take_of_length_le (by rw [List.length_append]; omega)]
    obtain ⟨cur', f1, f2, f3⟩ := fin
    rw [← f3] at hr
    clear f3
    go_enter Try.func28, Try.ntmps28
    go_wp2_with (at_builtin; refine Lib.wpList_append_run _ rfl _ _ _ _ rfl _ _ rfl rfl _ _ (hr _) ?_)
    all_goals (go_ret; (first | refine Or.inl ?_ | skip); exact ⟨cur', rfl, ea, f1, f2, rfl⟩)
  · have Ev : ∀ j v, xs[j]? = some v → w.cell? ⟨g, j, none⟩ = some v := fun j v hj => by
      rw [← gy, List.getElem?_take] at hj
      split at hj
      · simp only [World.cell?, sS]; simpa using hj
      · cases hj
    have dU : Src Try.prog i0.size 30 (.slice (some ⟨vb, 0, none⟩) m vc) m us w := Src.ofSlice w Try.underlying30 ⟨vb, 0, none⟩ m vc us (by rw [kA, lh]) (fun j u hj => by rw [Addr.add_lit, Nat.zero_add]; exact fv j u hj) h1
    have B6 : (n + m) * i0.bytes ≤ 4294967296 * 4096 := Nat.mul_le_mul gi pu
    have hold : (Builtin.firstCells i0.size n (.slice (some ⟨g, 0, none⟩) n cap)).run Try.prog w.drew = .ok xs.toArray w.drew :=
      run_firstCells_some w.drew i0.size n ⟨g, 0, none⟩ n cap xs (by rw [lh]; exact qi) (fun j v hj => by rw [Addr.add_lit, Nat.zero_add]; exact Ev j v hj)
    have hr := fun ty => run_append_grow_src w 30 30 ty 38 i0 z0 Try.underlying30 hi hz (some ⟨g, 0, none⟩) n cap xs hold (.slice (some ⟨vb, 0, none⟩) m vc) m us dU (by omega) (by omega) (growslice_fits (by omega) (by omega))
    have vE : n + m ≤ grownCap w (n + m) cap 38 := grownCap_ge w _ _ _
    have vF := grownCap_le_maxLen w (n + m) cap 38 (by unfold maxLen; omega)
    generalize grownCap w (n + m) cap 38 = G at hr vE vF
    generalize z0.cells = zc at hr kz
    have fin : ∃ C : List Value, C.length = G * 3 ∧ C.take ((n + m) * 3) = xs ++ us ∧ (w.drew.alloc (.cells ((xs ++ us).toArray ++ Builtin.zeroCells zc (G - (n + m))) 38)).heap[w.heap.size]? = some (.cells C.toArray 38 (0, 0)) := by
      refine ⟨xs ++ us ++ (Builtin.zeroCells zc (G - (n + m))).toList, ?_, ?_, ?_⟩
      · simp [Builtin.zeroCells, kz, kA, qi]; omega
      · rw [List.take_append_of_le_length (by rw [List.length_append]; omega), List.take_of_length_le (by rw [List.length_append]; omega)]
      · have := heap_alloc_new w.drew (.cells ((xs ++ us).toArray ++ Builtin.zeroCells zc (G - (n + m))) 38)
        rw [show (xs ++ us ++ (Builtin.zeroCells zc (G - (n + m))).toList).toArray = (xs ++ us).toArray ++ Builtin.zeroCells zc (G - (n + m)) by apply Array.ext'; simp]
        exact this
    generalize (xs ++ us).toArray ++ Builtin.zeroCells zc (G - (n + m)) = pj at fin hr
    clear hold dU B6 hz
    go_enter Try.func28, Try.ntmps28
    go_wp2_with (at_builtin; refine Lib.wpList_append_run _ rfl _ _ _ _ rfl _ _ rfl rfl _ _ (hr _) ?_)
    all_goals (go_ret; (first | refine Or.inr ?_ | skip); exact ⟨G, rfl, vE, vF, fin, rfl, rfl, rfl, Array.size_push .., fun k hk => by show (w.heap.push _)[k]? = _; rw [Array.getElem?_push_lt hk, Array.getElem?_eq_getElem hk]⟩)
end AM
