/- THE ABSTRACT MACHINE: new names for entries. -/
import Derived.Test.YtignnkcjolobgaaDoorAmSettle
namespace AM
set_option linter.unusedVariables false
open Go
variable {U : Uni} {E : Env U} {pm : Pm}
variable {F F' : Nat → Prop} {kv kv' : Key → Value} {fp fp' : Key → List Nat} {σ τ : AState U} {a : Act} {w w' : World}

/-- Nothing stale is held. -/
structure Strong (E : Env U) (w : World) (F : Nat → Prop) (kv : Key → Value) (fp : Key → List Nat) (σ : AState U) (a : Act) : Prop where
  slots : ∀ s x, σ.get s = some x → RS E w F kv fp (fun _ => false) x (a.tmps.getD s undef)
  ents : ∀ k e, σ.ent k = some e → REnt E w F kv fp (fun _ => false) e (kv k) (fp k)
theorem badAC_of {bad : Key → Bool} {x : AC U} (h : ∀ k ∈ x.keys, bad k = false) : badAC bad x = false := by
  cases x with
  | ref k p => simp [badAC, h k (by simp [AC.keys])]
  | eptr k p i wd off => simp [badAC, h k (by simp [AC.keys])]
  | _ => rfl

/-- The same cell under other names. -/
theorem RA.ren {f : Key → Key} {x : AC U} {v : Value} (hk : ∀ k ∈ x.keys, kv' (f k) = kv k ∧ fp' (f k) = fp k) (h : RA E w F kv fp x v) : RA E w F kv' fp' (x.ren f) v := by
  cases x with
  | c x => exact h
  | e0 => exact h
  | kn b τ xs => exact h
  | ia cs => exact h
  | ref k p =>
    obtain ⟨h1, h2⟩ := hk k (by simp [AC.keys])
    simp only [AC.ren, RA] at h ⊢
    rw [h1, h2]; exact h
  | sub k wd lo hi =>
    obtain ⟨h1, h2⟩ := hk k (by simp [AC.keys])
    simp only [AC.ren, RA] at h ⊢
    rw [h1]; exact h
  | eptr k p i wd off =>
    obtain ⟨h1, h2⟩ := hk k (by simp [AC.keys])
    simp only [AC.ren, RA] at h ⊢
    rw [h1, h2]; exact h
  | bptr k off =>
    obtain ⟨h1, h2⟩ := hk k (by simp [AC.keys])
    simp only [AC.ren, RA] at h ⊢
    rw [h1]; exact h
theorem RDs.ren {f : Key → Key} {bad bad' : Key → Bool} {xs : List (AC U)} {vs : List Value} (hb : ∀ y ∈ xs, ∀ k ∈ y.keys, bad k = false) (hk : ∀ y ∈ xs, ∀ k ∈ y.keys, kv' (f k) = kv k ∧ fp' (f k) = fp k)
    (h : RDs E w F kv fp bad xs vs) : RDs E w F kv' fp' bad' (xs.map (AC.ren f)) vs := by
  refine ⟨by simpa using h.1, fun i x v hx hv => ?_⟩
  rw [List.getElem?_map] at hx
  cases hy : xs[i]? with
  | none => rw [hy] at hx; cases hx
  | some y =>
    rw [hy] at hx; cases hx
    have hm := List.mem_of_getElem? hy
    have := h.2 i y v hy hv
    exact ⟨this.1, .inr ((RA_of this (badAC_of (hb y hm))).ren (hk y hm))⟩
theorem RS.ren {f : Key → Key} {bad bad' : Key → Bool} {x : SV U} {v : Value} (hb : ∀ k ∈ x.keys, bad k = false) (hk : ∀ k ∈ x.keys, kv' (f k) = kv k ∧ fp' (f k) = fp k)
    (h : RS E w F kv fp bad x v) : RS E w F kv' fp' bad' (x.ren f) v := by
  cases x with
  | v x =>
    obtain ⟨vs, h1, h2⟩ := h
    exact ⟨vs, h1.ren (fun y hy k hky => hb k (SV.mem_keys.2 ⟨y, hy, hky⟩)) (fun y hy k hky => hk k (SV.mem_keys.2 ⟨y, hy, hky⟩)), h2⟩
  | tup xs =>
    obtain ⟨vs, h1, h2, h3⟩ := h
    refine ⟨vs, h1, by simpa using h2, fun i x u hx hu => ?_⟩
    rw [List.getElem?_map] at hx
    cases hy : xs[i]? with
    | none => rw [hy] at hx; cases hx
    | some y =>
      rw [hy] at hx; cases hx
      have hm := List.mem_of_getElem? hy
      obtain ⟨us, g1, g2⟩ := h3 i y u hy hu
      exact ⟨us, g1.ren (fun z hz k hkz => hb k (SV.mem_keys.2 ⟨z, List.mem_flatMap.2 ⟨y, hm, hz⟩, hkz⟩)) (fun z hz k hkz => hk k (SV.mem_keys.2 ⟨z, List.mem_flatMap.2 ⟨y, hm, hz⟩, hkz⟩)), g2⟩
  | fn p => exact h
  | clo g xs =>
    obtain ⟨vs, h1, h2, h3⟩ := h
    refine ⟨vs, h1, by simpa using h2, fun i x u hx hu => ?_⟩
    rw [List.getElem?_map] at hx
    cases hy : xs[i]? with
    | none => rw [hy] at hx; cases hx
    | some y =>
      rw [hy] at hx; cases hx
      have hm := List.mem_of_getElem? hy
      obtain ⟨us, g1, g2⟩ := h3 i y u hy hu
      exact ⟨us, g1.ren (fun z hz k hkz => hb k (SV.mem_keys.2 ⟨z, List.mem_flatMap.2 ⟨y, hm, hz⟩, hkz⟩)) (fun z hz k hkz => hk k (SV.mem_keys.2 ⟨z, List.mem_flatMap.2 ⟨y, hm, hz⟩, hkz⟩)), g2⟩

theorem look_map {β γ : Type} {g : β → γ} : ∀ {l : List (Nat × Option β)} {s : Nat}, look (l.map fun p => (p.1, p.2.map g)) s = (look l s).map g
  | [], s => rfl
  | (t, v) :: r, s => by
    simp only [List.map_cons, look]
    cases Nat.beq t s
    · exact look_map
    · rfl

theorem rename_sound (h : Sim E pm F kv fp σ a w) (hc : Strong E w F kv fp σ a) (hn : (σ.tab.map (·.1)).Nodup) (hsome : ∀ p ∈ σ.tab, p.2.isSome = true) {l : List (Key × Key)} {S : Key → Prop}
    (hSn : ∀ k, Names σ k → S k) (hSl : ∀ k, (σ.ent k).isSome = true → S k) (hinj : ∀ k k', S k → S k' → renF l k = renF l k' → k = k') (hpin : ∀ k, 2000000 ≤ k.1 → k.2 < 1024 → ∀ k0, renF l k0 = k → k0 = k) :
    ∃ kv' fp', Sim E pm F kv' fp' (rename l σ) a w := by
  classical
  generalize hf : renF l = f at hinj hpin
  have hlive : ∀ p ∈ σ.tab, (σ.ent p.1).isSome = true := by
    rintro ⟨k, v⟩ hp
    have := hsome _ hp
    cases v with
    | none => cases this
    | some e => unfold AState.ent; rw [mem_lookK hn hp]; rfl
  have htab : (rename l σ).tab = σ.tab.map fun (k, e) => (f k, e.map (Ent.ren f)) := by rw [← hf]; rfl
  have hslots : (rename l σ).slots = σ.slots.map fun (s, v) => (s, v.map (SV.ren f)) := by rw [← hf]; rfl
  have hn' : ((rename l σ).tab.map (·.1)).Nodup := by
    rw [htab, List.map_map]
    have : (σ.tab.map ((·.1) ∘ fun ((k, e) : Key × Option (Ent U)) => (f k, e.map (Ent.ren f)))) = (σ.tab.map (·.1)).map f := by
      rw [List.map_map]; rfl
    rw [this]
    rw [List.nodup_iff_pairwise_ne, List.pairwise_map]
    rw [List.nodup_iff_pairwise_ne] at hn
    refine List.Pairwise.imp_of_mem (fun {k k'} hk hk' hne he => hne ?_) hn
    obtain ⟨p, hp, rfl⟩ := List.mem_map.1 hk
    obtain ⟨p', hp', rfl⟩ := List.mem_map.1 hk'
    exact hinj _ _ (hSl _ (hlive p hp)) (hSl _ (hlive p' hp')) he
  have hent : ∀ k' e', (rename l σ).ent k' = some e' ↔ ∃ k e, σ.ent k = some e ∧ k' = f k ∧ e' = e.ren f := by
    intro k' e'
    constructor
    · intro he
      have hm := lookK_mem he
      rw [htab] at hm
      obtain ⟨⟨k, v⟩, hp, hx⟩ := List.mem_map.1 hm
      simp only [Prod.mk.injEq] at hx
      obtain ⟨h1, h2⟩ := hx
      cases v with
      | none => cases h2
      | some e => cases h2; exact ⟨k, e, mem_lookK hn hp, h1.symm, rfl⟩
    · rintro ⟨k, e, he, rfl, rfl⟩
      refine mem_lookK hn' ?_
      rw [htab]
      exact List.mem_map.2 ⟨(k, some e), lookK_mem he, rfl⟩
  have hget : ∀ s, (rename l σ).get s = (σ.get s).map (SV.ren f) := by
    intro s
    show look (rename l σ).slots s = _
    rw [hslots]
    exact look_map
  -- back again
  let g : Key → Key := fun k' => if h : ∃ k, S k ∧ f k = k' then h.choose else k'
  have hg : ∀ k, S k → g (f k) = k := by
    intro k hk
    have hx : ∃ k1, S k1 ∧ f k1 = f k := ⟨k, hk, rfl⟩
    have : g (f k) = hx.choose := by simp only [g]; rw [dif_pos hx]
    rw [this]
    exact hinj _ _ hx.choose_spec.1 hk hx.choose_spec.2
  have hback : ∀ k, Names σ k → (fun k' => kv (g k')) (f k) = kv k ∧ (fun k' => fp (g k')) (f k) = fp k := by
    intro k hk
    simp only
    rw [hg k (hSn k hk)]
    exact ⟨rfl, rfl⟩
  have hgl : ∀ {k : Key} {e : Ent U}, σ.ent k = some e → g (f k) = k := fun he => hg _ (hSl _ (by rw [he]; rfl))
  refine ⟨fun k' => kv (g k'), fun k' => fp (g k'), ?_⟩
  · refine ⟨h.size, h.defers, fun s x' hs => ?_, fun k' e' he => ?_, fun k1 k2 e1 e2 b hne h1 h2 => ?_, fun k' e' he => ?_, fun k' e' b he => ?_, h.Flt, h.Fsub, h.upto, fun k v hpk => ?_, h.lay⟩
    · rw [hget] at hs
      cases hx : σ.get s with
      | none => rw [hx] at hs; cases hs
      | some x =>
        rw [hx] at hs; cases hs
        exact (hc.slots s x hx).ren (fun k hk => rfl) (fun k hk => hback k (.inl ⟨s, x, hx, hk⟩))
    · obtain ⟨k, e, h1, rfl, rfl⟩ := (hent k' e').1 he
      have h0 := hc.ents k e h1
      simp only [hgl h1]
      cases e with
      | arr x deep => exact h0
      | box cs =>
        obtain ⟨b, cur, e', g1, g2, g3, g4⟩ := h0
        exact ⟨b, cur, e', g1, g2, g3, g4.ren (fun y hy k' hk' => rfl) (fun y hy k' hk' => hback k' (.inr ⟨k, cs, h1, y, hy, hk'⟩))⟩
    · obtain ⟨k, e, g1, rfl, rfl⟩ := (hent k1 e1).1 h1
      obtain ⟨k', e', g2, rfl, rfl⟩ := (hent k2 e2).1 h2
      simp only [hgl g1, hgl g2]
      exact h.apart k k' e e' b (fun e => hne (by rw [e])) g1 g2
    · obtain ⟨k, e, g1, rfl, rfl⟩ := (hent k' e').1 he
      simp only [hgl g1]
      exact h.nodup k e g1
    · obtain ⟨k, e, g1, rfl, rfl⟩ := (hent k' e').1 he
      simp only [hgl g1]
      exact h.mine k e b g1
    · obtain ⟨p1, p2, p3, p4⟩ := h.pin k v hpk
      have : g k = k := by
        by_cases hx : ∃ k1, S k1 ∧ f k1 = k
        · have e : g k = hx.choose := by simp only [g]; rw [dif_pos hx]
          rw [e]
          exact hpin k p1 p2 _ hx.choose_spec.2
        · simp only [g]; rw [dif_neg hx]
      exact ⟨p1, p2, p3, by simp only [this]; exact p4⟩

theorem purge_tab (bad : Key → Bool) (σ : AState U) : ((purge bad σ).tab.map (·.1)).Nodup ∧ ∀ p ∈ (purge bad σ).tab, p.2.isSome = true := by
  refine ⟨nodup_filter_map tidyK_nodup.1, fun p hp => ?_⟩
  have hm := (List.mem_filter.1 hp).1
  have : ∀ {l : List (Key × Option (Ent U))} {seen : List Key}, ∀ p ∈ tidyK seen l, p.2.isSome = true := by
    intro l
    induction l with
    | nil => intro seen p hp; simp [tidyK] at hp
    | cons q l ih =>
      obtain ⟨k, v⟩ := q
      intro seen p hp
      simp only [tidyK] at hp
      cases hs : seen.any (keq k) <;> rw [hs] at hp <;> simp only [cond_true, cond_false] at hp
      · cases v with
        | none => exact ih p hp
        | some x =>
          rcases List.mem_cons.1 hp with rfl | hp
          · rfl
          · exact ih p hp
      · exact ih p hp
  exact this p hm
/-- A state behind forgetting: what is named is there still. -/
theorem purge_ent_keep {bad : Key → Bool} {k : Key} {e : Ent U} (h : σ.ent k = some e) (hb : bad k = false) (hbox : ∀ cs, e = .box cs → okV bad σ (.v ⟨true, cs⟩) = true) : (purge bad σ).ent k = some e := by
  refine mem_lookK (purge_tab bad σ).1 (List.mem_filter.2 ⟨lookK_mem (by rw [tidyK_look (by simp)]; exact h), ?_⟩)
  simp only [hb, Bool.not_false, Bool.true_and]
  cases e with
  | arr a d => rfl
  | box cs => exact hbox cs rfl

theorem purge_strong (h : Sim E pm F kv fp σ a w) (bad : Key → Bool) : Strong E w F kv fp (purge bad σ) a := by
  refine ⟨fun s x hs => ?_, fun k e he => ?_⟩
  · obtain ⟨h1, h2, _⟩ := purge_get.1 hs
    exact (h.slots s x h1).clean (fun y hy => (okV_cell h2 hy).1)
  · obtain ⟨h1, h2, h3⟩ := purge_ent he
    have h0 := h.ents k e h1
    cases e with
    | arr x deep => exact h0
    | box cs =>
      obtain ⟨b, cur, e', g1, g2, g3, g4⟩ := h0
      exact ⟨b, cur, e', g1, g2, g3, g4.clean (fun y hy => (okV_cell (h3 cs rfl) (x := .v ⟨true, cs⟩) hy).1)⟩

theorem renF_in : ∀ {l : List (Key × Key)} {k : Key}, (∃ b, (k, b) ∈ l ∧ renF l k = b) ∨ ((∀ b, (k, b) ∉ l) ∧ renF l k = k)
  | [], k => .inr ⟨fun b hb => (List.not_mem_nil hb).elim, rfl⟩
  | (a, b) :: r, k => by
    simp only [renF]
    cases h : keq a k
    · simp only [cond_false]
      rcases renF_in (l := r) (k := k) with ⟨c, h1, h2⟩ | ⟨h1, h2⟩
      · exact .inl ⟨c, List.mem_cons_of_mem _ h1, h2⟩
      · refine .inr ⟨fun c hc => ?_, h2⟩
        rcases List.mem_cons.1 hc with hc | hc
        · cases hc; rw [keq_refl] at h; cases h
        · exact h1 c hc
    · have := keq_iff.1 h
      subst this
      exact .inl ⟨b, List.mem_cons_self, rfl⟩

theorem settleBy_sound (h : ∃ kv fp, Sim E pm F kv fp σ a w) (l0 : List (Key × Key)) : ∃ kv fp, Sim E pm F kv fp (settleBy l0 σ) a w := by
  unfold settleBy
  simp only
  rw [Bool.cond_eq_ite]
  split
  · exact h
  · rename_i hcond
    generalize hl : (l0.filter fun (a, b) => !(keq a b) && !(Nat.ble 2000000 a.1 && Nat.blt a.2 1024)) = l at hcond ⊢
    simp only [Bool.or_eq_true, not_or, Bool.not_eq_true, Bool.not_eq_false'] at hcond
    obtain ⟨⟨⟨h1, h2⟩, h3⟩, h4⟩ := hcond
    obtain ⟨kv, fp, hs⟩ := h
    have htn : (l.map (·.2)).Nodup := distinct_iff.1 h3
    have han : (l.map (·.1)).Nodup := distinct_iff.1 h2
    obtain ⟨t1, t2⟩ := purge_tab (fun k => (l.map (·.2)).any (keq k)) σ
    refine rename_sound (purge_sound hs _) (purge_strong hs _) t1 t2 (S := fun k => k ∉ l.map (·.2)) (fun k hk => ?_) (fun k hk => ?_) (fun k k' hk hk' he => ?_) (fun k p1 p2 k0 he => ?_)
    · have := (purge_names hk).1
      exact fun hm => by rw [any_keq.2 hm] at this; cases this
    · obtain ⟨e, he⟩ := Option.isSome_iff_exists.1 hk
      have := (purge_ent he).2.1
      exact fun hm => by rw [any_keq.2 hm] at this; cases this
    · rcases renF_in (l := l) (k := k) with ⟨b, g1, g2⟩ | ⟨g1, g2⟩ <;> rcases renF_in (l := l) (k := k') with ⟨b', g1', g2'⟩ | ⟨g1', g2'⟩
      · rw [g2, g2'] at he
        subst he
        -- one target, one source
        obtain ⟨i, hi, hi'⟩ := List.getElem_of_mem g1
        obtain ⟨j, hj, hj'⟩ := List.getElem_of_mem g1'
        have hij : i = j := by
          refine (List.getElem_inj (h₀ := by simpa using hi) (h₁ := by simpa using hj) htn).1 ?_
          simp [hi', hj']
        subst hij
        rw [hi'] at hj'
        exact (Prod.mk.inj hj').1
      · rw [g2, g2'] at he
        subst he
        exact absurd (List.mem_map.2 ⟨_, g1, rfl⟩) hk'
      · rw [g2, g2'] at he
        subst he
        exact absurd (List.mem_map.2 ⟨_, g1', rfl⟩) hk
      · rw [g2, g2'] at he
        exact he
    · rcases renF_in (l := l) (k := k0) with ⟨b, g1, g2⟩ | ⟨g1, g2⟩
      · exfalso
        have := List.all_eq_true.1 h4 _ g1
        simp only [Nat.ble_eq] at this
        rw [g2] at he
        subst he
        omega
      · rw [g2] at he; exact he
theorem settle1_sound (h : ∃ kv fp, Sim E pm F kv fp σ a w) (d : Nat) : ∃ kv fp, Sim E pm F kv fp (settle1 d σ) a w := by
  unfold settle1
  split
  · exact settleBy_sound h _
  · exact h
theorem settleB_sound (h : ∃ kv fp, Sim E pm F kv fp σ a w) (k : Key) : ∃ kv fp, Sim E pm F kv fp (settleB k σ) a w := by
  unfold settleB
  split
  · exact settleBy_sound h _
  · exact h

theorem settleBs_sound : ∀ {l : List Key} {τ : AState U}, (∃ kv fp, Sim E pm F kv fp τ a w) → ∃ kv fp, Sim E pm F kv fp (settleBs l τ) a w
  | [], τ, h => h
  | k :: l, τ, h => settleBs_sound (l := l) (settleB_sound h k)
theorem settle_sound (h : Sim E pm F kv fp σ a w) (ops : List Oper) : ∃ kv fp, Sim E pm F kv fp (settle ops σ) a w := by
  unfold settle
  simp only
  refine settleBs_sound ?_
  have h0 : ∃ kv fp, Sim E pm F kv fp (purge0 σ) a w := ⟨kv, fp, purge_sound h _⟩
  generalize purge0 σ = τ at h0
  generalize assigned ops = l
  induction l generalizing τ with
  | nil => exact h0
  | cons d l ih => exact ih _ (settle1_sound h0 d)
end AM
