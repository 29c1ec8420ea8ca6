/- Regions whose order is open: every order comes to the same, the proof. -/
import Derived.Test.YtjoffbhfcajcgaaDoorSim19
set_option linter.unusedVariables false
set_option linter.unusedSimpArgs false
namespace Go.Sim
open Go.RowKit
variable {P : Program} {ρ ρ' : Ren} {H H' : SHeap} {w w' : World}
/- what the looks tell: the value is the same at the heap of any other point that an order may come to -/
def LooksOk (sos : List SOper) (b : List Nat) (eS : Nat → Env) (hS : Nat → SHeap) (vS : Nat → SV) : Prop :=
  ∀ (j k : Nat) (so : SOper), sos[j]? = some so → so.op.cls = .look → k ≤ sos.length → (k = 0 ∨ isAct sos (k - 1)) →
    (∀ e, isAct sos e → if e < k then ¬ B b e j else ¬ B b j e) → (∃ e, isAct sos e ∧ decide (e < k) ≠ decide (e < j)) →
    ∃ H2, sStep noCall so (eS j) (hS k) = some (vS j, H2)
theorem actB_iff {sos : List SOper} {j : Nat} : actB sos j = true ↔ isAct sos j := by
  unfold actB isAct
  cases h : sos[j]? with
  | none => simp
  | some o => simp [SOp.isAct_iff]
theorem looksOf_ok {call : Caller} {sos : List SOper} {b : List Nat} {eS : Nat → Env} {hS : Nat → SHeap} {vS : Nat → SV} {tr : List (Env × SHeap × SV)} {H' : SHeap}
    (ht : ∀ j, j < sos.length → tr[j]? = some (eS j, hS j, vS j)) (hlen : tr.length = sos.length) (hH : hS sos.length = H') (h : (looksOf sos b).all (lookOk sos tr H') = true) : LooksOk sos b eS hS vS := by
  intro j k so hso hcls hk hk0 hfree hdiff
  have hj : j < sos.length := (List.getElem?_eq_some_iff.1 hso).1
  have hmem : ∀ e, isAct sos e → e ∈ (List.range sos.length).filter (actB sos) := by
    intro e he
    refine List.mem_filter.2 ⟨List.mem_range.2 ?_, actB_iff.2 he⟩
    obtain ⟨o, ho, _⟩ := he
    exact (List.getElem?_eq_some_iff.1 ho).1
  have hkin : k ∈ ptsOf ((List.range sos.length).filter (actB sos)) b j := by
    refine List.mem_filter.2 ⟨?_, ?_⟩
    · rcases hk0 with h | h
      · rw [h]; exact List.mem_cons_self ..
      · by_cases h0 : k = 0
        · rw [h0]; exact List.mem_cons_self ..
        · exact List.mem_cons_of_mem _ (List.mem_map.2 ⟨k - 1, hmem _ h, by omega⟩)
    · unfold ptOk
      rw [Bool.and_eq_true]
      refine ⟨List.all_eq_true.2 fun e he => ?_, ?_⟩
      · have ha := actB_iff.1 (List.mem_filter.1 he).2
        have hf := hfree e ha
        by_cases hek : e < k
        · rw [if_pos hek] at hf
          have : Nat.blt e k = true := Nat.ble_eq_true_of_le hek
          rw [this]
          simp only [cond_true]
          cases hq : bitB j (b.getD e 0) with
          | false => rfl
          | true => exact absurd hq hf
        · rw [if_neg hek] at hf
          have : Nat.blt e k = false := by rw [Bool.eq_false_iff]; exact fun h => hek (Nat.le_of_ble_eq_true h)
          rw [this]
          simp only [cond_false]
          cases hq : bitB e (b.getD j 0) with
          | false => rfl
          | true => exact absurd hq hf
      · obtain ⟨e, ha, hne⟩ := hdiff
        refine List.any_eq_true.2 ⟨e, hmem e ha, ?_⟩
        have hblt : ∀ a c : Nat, Nat.blt a c = decide (a < c) := fun a c => by
          by_cases h : a < c
          · rw [decide_eq_true h]; exact Nat.ble_eq_true_of_le h
          · rw [decide_eq_false h, Bool.eq_false_iff]; exact fun h' => h (Nat.le_of_ble_eq_true h')
        rw [hblt, hblt]
        revert hne
        cases decide (e < k) <;> cases decide (e < j) <;> simp
  have hin : (j, ptsOf ((List.range sos.length).filter (actB sos)) b j) ∈ looksOf sos b := by
    unfold looksOf
    refine List.mem_filterMap.2 ⟨j, List.mem_range.2 hj, ?_⟩
    have : lookB sos j = true := by unfold lookB; rw [hso]; exact SOp.isLook_iff.2 hcls
    rw [this, cond_true]
    revert hkin
    cases ptsOf ((List.range sos.length).filter (actB sos)) b j with
    | nil => intro h; cases h
    | cons p ps => intro _; rfl
  have h1 := List.all_eq_true.1 h _ hin
  unfold lookOk at h1
  simp only at h1
  rw [hso, ht j hj] at h1
  simp only at h1
  have h2 := List.all_eq_true.1 h1 k hkin
  have hh : heapAt tr H' k = hS k := by
    unfold heapAt
    by_cases hkl : k < sos.length
    · rw [ht k hkl]
    · have : k = sos.length := by omega
      subst this
      rw [List.getElem?_eq_none (by omega)]
      exact hH.symm
  rw [hh] at h2
  unfold sameLook at h2
  split at h2
  · rename_i v' H2 hst
    rw [← SV.eq_of_beq _ _ h2] at hst
    exact ⟨H2, hst⟩
  · cases h2
section
variable {call : Caller} {ops : Array Oper} {sos : List SOper} {b : List Nat} {eS : Nat → Env} {hS : Nat → SHeap} {vS : Nat → SV}
def L (listed : Array Bool) (j : Nat) : Prop := listed[j]? = some true
structure Inv (P : Program) (n : Nat) (sos : List SOper) (b : List Nat) (eS : Nat → Env) (hS : Nat → SHeap) (vS : Nat → SV) (ρ0 : Ren) (w0 : World) (listed : Array Bool) (ρ : Ren) (w : World) (a : Act) : Prop where
  size : listed.size = sos.length
  closed : ∀ j, L listed j → ∀ i, B b j i → L listed i
  heap : ∃ k, k ≤ sos.length ∧ (k = 0 ∨ isAct sos (k - 1)) ∧ (∀ j, isAct sos j → (L listed j ↔ j < k)) ∧ Rel P.globals.size ρ (hS k) w ∧ Later ρ0 (hS 0) w0 ρ (hS k) w
  env : ∃ c, EnvR ρ n c a ∧ (∀ j x t, L listed j → sos[j]? = some x → x.dst = some t → c.at t = vS j) ∧ ∀ t, (∀ j x, L listed j → sos[j]? = some x → x.dst ≠ some t) → c.at t = (eS 0).at t
theorem L_set {listed : Array Bool} {i j : Nat} (hi : i < listed.size) : L (listed.setIfInBounds i true) j ↔ L listed j ∨ j = i := by
  unfold L
  by_cases h : i = j
  · subst h; simp [hi]
  · rw [Array.getElem?_setIfInBounds_ne h]
    constructor
    · exact fun h => .inl h
    · rintro (h1 | h1)
      · exact h1
      · exact absurd h1.symm h
theorem ready_iff {listed : Array Bool} {i : Nat} (hs : listed.size = ops.size) : i ∈ Region.ready .any ops listed ↔ i < ops.size ∧ ¬ L listed i ∧ ∃ o, ops[i]? = some o ∧ ∀ e ∈ o.after, Region.binds .any e = true → L listed e.on := by
  unfold Region.ready L
  rw [List.mem_filter, List.mem_range]
  constructor
  · rintro ⟨h1, h2⟩
    simp only [Bool.and_eq_true, Bool.not_eq_true'] at h2
    refine ⟨h1, ?_, ops[i], by simp [h1], ?_⟩
    · intro h
      have := h2.1
      rw [Array.getD_eq_getD_getElem?, h] at this
      simp at this
    · intro e he hb
      have h3 := h2.2
      rw [Array.getElem?_eq_getElem h1] at h3
      simp only [Option.map_some, Option.getD_some] at h3
      have h4 := Array.all_eq_true_iff_forall_mem.1 h3 e he
      rw [hb, Array.getD_eq_getD_getElem?] at h4
      cases hq : listed[e.on]? with
      | none => rw [hq] at h4; simp at h4
      | some v => rw [hq] at h4; simp at h4; rw [h4]
  · rintro ⟨h1, h2, o, ho, h3⟩
    refine ⟨h1, ?_⟩
    simp only [Bool.and_eq_true, Bool.not_eq_true']
    refine ⟨?_, ?_⟩
    · rw [Array.getD_eq_getD_getElem?, Array.getElem?_eq_getElem (by omega)]
      rw [Array.getElem?_eq_getElem (by omega)] at h2
      simpa using h2
    · rw [ho]
      simp only [Option.map_some, Option.getD_some]
      refine Array.all_eq_true_iff_forall_mem.2 fun e he => ?_
      cases hb : Region.binds .any e with
      | false => rfl
      | true =>
        have := h3 e he hb
        rw [Array.getD_eq_getD_getElem?, this]
        rfl
theorem inv_step (hc : compOpers P ops ops.toList = some sos) (hcall : CallsOk P call) (ht : Trace call sos eS hS vS) (hd : DrawSpec ops sos b) (hlk : LooksOk sos b eS hS vS) {n : Nat} (hb : dstsBelow n sos = true) {ρ0 : Ren} {w0 : World} {listed : Array Bool} {a : Act} (hinv : Inv P n sos b eS hS vS ρ0 w0 listed ρ w a)
    {i : Nat} (hi : i ∈ Region.ready .any ops listed) {K : Act → World → Prop} {Q : Exit → Act → World → Prop} (hk : ∀ ρ' w' a', Inv P n sos b eS hS vS ρ0 w0 (listed.setIfInBounds i true) ρ' w' a' → K a' w') : wpOp P ops Q i K a w := by
  obtain ⟨hlen, hget⟩ := compOpers_get hc
  have hlen' : sos.length = ops.size := by simpa using hlen
  obtain ⟨hi1, hi2, o, ho, hi3⟩ := (ready_iff (by rw [hinv.size, hlen'])).1 hi
  obtain ⟨so, hso, hco⟩ := hget i o (by simpa using ho)
  have hil : i < sos.length := by omega
  have hahead : ∀ j, B b i j → j < i ∧ L listed j := by
    intro j hj
    obtain ⟨h1, o', ho', e, he, hbe, h2⟩ := hd.via i hil j hj
    rw [ho] at ho'
    cases ho'
    refine ⟨h1, ?_⟩
    rcases h2 with h2 | h2
    · rw [← h2]; exact hi3 e he hbe
    · exact hinv.closed _ (hi3 e he hbe) j h2
  have hlater : ∀ j, B b j i → ¬ L listed j := fun j hj h => hi2 (hinv.closed j h i hj)
  have hlaterlt : ∀ j, j < sos.length → B b j i → i < j := fun j hj h => (hd.via j hj i h).1
  obtain ⟨k, hk1, hk2, hk3, hrel, hlat⟩ := hinv.heap
  obtain ⟨c, hcr, hc1, hc2⟩ := hinv.env
  obtain ⟨hst, _⟩ := ht.step i so hso
  /- operands -/
  have hag : ∀ t ∈ so.reads, c.at t = (eS i).at t := by
    intro t htr
    obtain ⟨he1, he2⟩ := env_at ht hd t i (by omega)
    by_cases hex : ∃ (j : Nat) (x : SOper), sos[j]? = some x ∧ x.dst = some t
    · obtain ⟨j, x, hx, hxt⟩ := hex
      have huniq : ∀ j' x', sos[j']? = some x' → x'.dst = some t → j' = j := fun j' x' h1 h2 => hd.dst j' j x' x t h1 hx h2 hxt
      have hjl : j < sos.length := (List.getElem?_eq_some_iff.1 hx).1
      by_cases hji : j = i
      · rw [hc2 t fun j' x' h1 h2 h3 => hi2 (hji ▸ huniq j' x' h2 h3 ▸ h1), he2 fun j' x' h1 h2 h3 => by have := huniq j' x' h2 h3; omega]
      · rcases hd.reads j i x so t hji hx hso hxt htr with h | h
        · obtain ⟨h1, h2⟩ := hahead j h
          rw [hc1 j x t h2 hx hxt, he1 j x h1 hx hxt]
        · have h1 := hlaterlt j hjl h
          have h2 := hlater j h
          rw [hc2 t fun j' x' h3 h4 h5 => h2 (huniq j' x' h4 h5 ▸ h3), he2 fun j' x' h3 h4 h5 => by have := huniq j' x' h4 h5; omega]
    · rw [hc2 t fun j x _ h1 h2 => hex ⟨j, x, h1, h2⟩, he2 fun j x _ h1 h2 => hex ⟨j, x, h1, h2⟩]
  have hcl : ∀ j, L (listed.setIfInBounds i true) j → ∀ i', B b j i' → L (listed.setIfInBounds i true) i' := by
    intro j hj i' hi'
    rw [L_set (by rw [hinv.size]; omega)] at hj ⊢
    rcases hj with hj | hj
    · exact .inl (hinv.closed j hj i' hi')
    · subst hj; exact .inl (hahead i' hi').2
  have henv : ∀ ρ' (v : Value), ρ.le ρ' → VR ρ' (vS i) v → ∃ c', EnvR ρ' n c' (a.put so.dst v) ∧ (∀ j x t, L (listed.setIfInBounds i true) j → sos[j]? = some x → x.dst = some t → c'.at t = vS j) ∧ ∀ t, (∀ j x, L (listed.setIfInBounds i true) j → sos[j]? = some x → x.dst ≠ some t) → c'.at t = (eS 0).at t := by
    intro ρ' v hle hv
    have hput : ∀ t, (c.put so.dst (vS i)).at t = if so.dst = some t then vS i else c.at t := by
      intro t
      cases hq : so.dst with
      | none => simp [Env.put]
      | some d =>
        rw [Env.at_put]
        by_cases h : t = d
        · simp [h]
        · rw [if_neg h, if_neg (fun h' => h (Option.some.inj h').symm)]
    refine ⟨c.put so.dst (vS i), EnvR.put (hcr.mono hle) (dstsBelow_get hb hso) hv, ?_, ?_⟩
    · intro j x t hj hx hxt
      rw [hput]
      rw [L_set (by rw [hinv.size]; omega)] at hj
      by_cases hji : j = i
      · subst hji
        rw [hso] at hx
        cases hx
        rw [if_pos hxt]
      · rw [if_neg (fun h => hji (hd.dst j i x so t hx hso hxt h))]
        exact hc1 j x t (hj.resolve_right hji) hx hxt
    · intro t hno
      rw [hput, if_neg (hno i so (by rw [L_set (by rw [hinv.size]; omega)]; exact .inr rfl) hso)]
      exact hc2 t fun j x hj => hno j x (by rw [L_set (by rw [hinv.size]; omega)]; exact .inl hj)
  have hsz : (listed.setIfInBounds i true).size = sos.length := by simpa using hinv.size
  by_cases hact : so.op.cls = .act
  · have hsame : hS k = hS i := by
      refine heap_same ht hk1 (by omega) fun j hj => ?_
      by_cases hji : j = i
      · subst hji
        exact ⟨fun h => absurd ((hk3 j hj).2 h) hi2, fun h => absurd h (by omega)⟩
      · have hjl : j < sos.length := by obtain ⟨x, hx, _⟩ := hj; exact (List.getElem?_eq_some_iff.1 hx).1
        rcases hd.acts j i hji hj ⟨so, hso, hact⟩ with h | h
        · obtain ⟨h1, h2⟩ := hahead j h
          exact ⟨fun _ => h1, fun _ => (hk3 j hj).1 h2⟩
        · have h1 := hlaterlt j hjl h
          have h2 := hlater j h
          exact ⟨fun h3 => absurd ((hk3 j hj).2 h3) h2, fun h3 => absurd h3 (by omega)⟩
    have hs : sStep call so c (hS k) = some (vS i, hS (i + 1)) := by rw [sStep_congr hag, hsame]; exact hst
    refine wpOp_ok hcall ho hco (dstsBelow_get hb hso) hcr hrel hs ?_
    intro ρ' w' v hr' hl' hv
    refine hk ρ' w' _ ⟨hsz, hcl, ⟨i + 1, by omega, .inr ⟨so, by simpa using hso, hact⟩, ?_, hr', hlat.trans hl'⟩, henv ρ' v hl'.le hv⟩
    intro j hj
    rw [L_set (by rw [hinv.size]; omega)]
    by_cases hji : j = i
    · subst hji; exact ⟨fun _ => by omega, fun _ => .inr rfl⟩
    · have hjl : j < sos.length := by obtain ⟨x, hx, _⟩ := hj; exact (List.getElem?_eq_some_iff.1 hx).1
      rcases hd.acts j i hji hj ⟨so, hso, hact⟩ with h | h
      · obtain ⟨h1, h2⟩ := hahead j h
        exact ⟨fun _ => by omega, fun _ => .inl h2⟩
      · have h1 := hlaterlt j hjl h
        have h2 := hlater j h
        exact ⟨fun h3 => (h3.elim (fun h => absurd h h2) (fun h => absurd h hji)), fun h3 => by omega⟩
  · have hs : sStep call so c (hS k) = some (vS i, hS k) := by
      rw [sStep_congr hag]
      obtain ⟨hstill, hst'⟩ := sStep_still (call' := call) hact hst
      cases hcls : so.op.cls with
      | act => exact absurd hcls hact
      | pure => exact sStep_pure hcls hst (hS k)
      | look =>
        by_cases hsame : ∀ j, isAct sos j → (j < k ↔ j < i)
        · rw [heap_same ht hk1 (by omega) hsame]; exact hst'
        · have hdiff : ∃ e, isAct sos e ∧ decide (e < k) ≠ decide (e < i) := by
            apply Classical.byContradiction
            intro hno
            apply hsame
            intro j hj
            have : decide (j < k) = decide (j < i) := Classical.byContradiction fun h => hno ⟨j, hj, h⟩
            simpa using this
          obtain ⟨H2, h2⟩ := hlk i k so hso hcls hk1 hk2 (fun e he => by
            by_cases hek : e < k
            · rw [if_pos hek]; exact fun h => hlater e h ((hk3 e he).2 hek)
            · rw [if_neg hek]; exact fun h => hek ((hk3 e he).1 (hahead e h).2)) hdiff
          have h3 := sStep_still (call' := call) hact h2
          exact h3.2
    refine wpOp_ok hcall ho hco (dstsBelow_get hb hso) hcr hrel hs ?_
    intro ρ' w' v hr' hl' hv
    refine hk ρ' w' _ ⟨hsz, hcl, ⟨k, hk1, hk2, ?_, hr', hlat.trans hl'⟩, henv ρ' v hl'.le hv⟩
    intro j hj
    rw [L_set (by rw [hinv.size]; omega), ← hk3 j hj]
    have hji : j ≠ i := by rintro rfl; obtain ⟨x, hx, hxa⟩ := hj; rw [hso] at hx; cases hx; exact hact hxa
    exact ⟨fun h => h.resolve_right hji, fun h => .inl h⟩
theorem inv_end (hc : compOpers P ops ops.toList = some sos) (ht : Trace call sos eS hS vS) (hd : DrawSpec ops sos b) {n : Nat} {ρ0 : Ren} {w0 : World} {listed : Array Bool} {a : Act} (hinv : Inv P n sos b eS hS vS ρ0 w0 listed ρ w a) (hend : Region.ready .any ops listed = []) :
    EnvR ρ n (eS sos.length) a ∧ Rel P.globals.size ρ (hS sos.length) w ∧ Later ρ0 (hS 0) w0 ρ (hS sos.length) w := by
  obtain ⟨hlen, hget⟩ := compOpers_get hc
  have hlen' : sos.length = ops.size := by simpa using hlen
  have hall : ∀ j, j < sos.length → L listed j := by
    intro j
    induction j using Nat.strongRecOn with
    | _ j ih =>
      intro hj
      apply Classical.byContradiction
      intro hno
      have : j ∈ Region.ready .any ops listed := by
        rw [ready_iff (by rw [hinv.size, hlen'])]
        refine ⟨by omega, hno, ops[j]'(by omega), by simp [show j < ops.size by omega], fun e he hb => ?_⟩
        have := hd.edge j _ (by simp [show j < ops.size by omega]) e he hb
        exact ih _ this (by omega)
      rw [hend] at this
      cases this
  obtain ⟨k, hk1, hk2, hk3, hrel, hlat⟩ := hinv.heap
  have hsame : hS k = hS sos.length := by
    refine heap_same ht hk1 (Nat.le_refl _) fun j hj => ?_
    have hjl : j < sos.length := by obtain ⟨x, hx, _⟩ := hj; exact (List.getElem?_eq_some_iff.1 hx).1
    exact ⟨fun _ => hjl, fun _ => (hk3 j hj).1 (hall j hjl)⟩
  rw [hsame] at hrel hlat
  obtain ⟨c, hcr, hc1, hc2⟩ := hinv.env
  refine ⟨⟨hcr.size, hcr.defers, fun t => ?_⟩, hrel, hlat⟩
  have hv := hcr.vals t
  obtain ⟨he1, he2⟩ := env_at ht hd t sos.length (Nat.le_refl _)
  by_cases hex : ∃ (j : Nat) (x : SOper), sos[j]? = some x ∧ x.dst = some t
  · obtain ⟨j, x, hx, hxt⟩ := hex
    have hjl : j < sos.length := (List.getElem?_eq_some_iff.1 hx).1
    rw [hc1 j x t (hall j hjl) hx hxt] at hv
    rw [he1 j x hjl hx hxt]
    exact hv
  · rw [hc2 t fun j x _ h1 h2 => hex ⟨j, x, h1, h2⟩] at hv
    rw [he2 fun j x _ h1 h2 => hex ⟨j, x, h1, h2⟩]
    exact hv
theorem count_set {l : List Bool} {i : Nat} (h : l[i]? = some false) : (l.set i true).count false + 1 = l.count false := by
  induction l generalizing i with
  | nil => simp at h
  | cons x xs ih =>
    cases i with
    | zero => simp at h; subst h; simp
    | succ i =>
      simp at h
      have := ih h
      rw [List.set_cons_succ, List.count_cons, List.count_cons]
      omega
theorem wpAny_ok (hc : compOpers P ops ops.toList = some sos) (hcall : CallsOk P call) (ht : Trace call sos eS hS vS) (hd : DrawSpec ops sos b) (hlk : LooksOk sos b eS hS vS) {n : Nat} (hb : dstsBelow n sos = true) {ρ0 : Ren} {w0 : World} {Q : Exit → Act → World → Prop}
    (hq : ∀ ρ w a, EnvR ρ n (eS sos.length) a → Rel P.globals.size ρ (hS sos.length) w → Later ρ0 (hS 0) w0 ρ (hS sos.length) w → Q .normal a w) :
    ∀ (fuel : Nat) (listed : Array Bool) (ρ : Ren) (w : World) (a : Act), listed.toList.count false ≤ fuel → Inv P n sos b eS hS vS ρ0 w0 listed ρ w a → wpAny P .any ops Q fuel listed a w
  | 0, listed, ρ, w, a, hf, hinv => by
    obtain ⟨hlen, hget⟩ := compOpers_get hc
    have hlen' : sos.length = ops.size := by simpa using hlen
    have hend : Region.ready .any ops listed = [] := by
      apply List.eq_nil_iff_forall_not_mem.2
      intro i hi
      obtain ⟨h1, h2, _⟩ := (ready_iff (by rw [hinv.size, hlen'])).1 hi
      have hi' : i < listed.size := by rw [hinv.size]; omega
      have : listed.toList[i]? = some false := by
        unfold L at h2
        rw [Array.getElem?_eq_getElem hi'] at h2
        rw [Array.getElem?_toList, Array.getElem?_eq_getElem hi']
        cases hx : listed[i] with
        | false => rfl
        | true => rw [hx] at h2; exact absurd rfl h2
      have := count_set this
      omega
    obtain ⟨h1, h2, h3⟩ := inv_end hc ht hd hinv hend
    exact ⟨hend, hq ρ w a h1 h2 h3⟩
  | fuel + 1, listed, ρ, w, a, hf, hinv => by
    obtain ⟨hlen, hget⟩ := compOpers_get hc
    have hlen' : sos.length = ops.size := by simpa using hlen
    refine ⟨fun hend => ?_, fun i hi => ?_⟩
    · obtain ⟨h1, h2, h3⟩ := inv_end hc ht hd hinv hend
      exact hq ρ w a h1 h2 h3
    · refine inv_step hc hcall ht hd hlk hb hinv hi ?_
      intro ρ' w' a' hinv'
      refine wpAny_ok hc hcall ht hd hlk hb hq fuel _ ρ' w' a' ?_ hinv'
      obtain ⟨h1, h2, _⟩ := (ready_iff (by rw [hinv.size, hlen'])).1 hi
      have hi' : i < listed.size := by rw [hinv.size]; omega
      have : listed.toList[i]? = some false := by
        unfold L at h2
        rw [Array.getElem?_eq_getElem hi'] at h2
        rw [Array.getElem?_toList, Array.getElem?_eq_getElem hi']
        cases hx : listed[i] with
        | false => rfl
        | true => rw [hx] at h2; exact absurd rfl h2
      have := count_set this
      rw [Array.toList_setIfInBounds]
      omega
end
end Go.Sim
