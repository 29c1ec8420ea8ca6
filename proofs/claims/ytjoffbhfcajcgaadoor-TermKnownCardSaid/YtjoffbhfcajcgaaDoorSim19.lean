/- Regions whose order is open: every order comes to the same. -/
import Derived.Test.YtjoffbhfcajcgaaDoorSim18
set_option linter.unusedVariables false
set_option linter.unusedSimpArgs false
namespace Go.Sim
open Go.RowKit
variable {P : Program} {ρ ρ' : Ren} {H H' : SHeap} {w w' : World}
def isAct (sos : List SOper) (j : Nat) : Prop := ∃ so, sos[j]? = some so ∧ so.op.cls = .act
def B (b : List Nat) (j i : Nat) : Prop := bitB i (b.getD j 0) = true
theorem bitB_eq (i m : Nat) : bitB i m = m.testBit i := by
  unfold bitB
  rw [beq_iff]
  show decide (((m >>> i) &&& 1) = 1) = _
  rw [Nat.and_one_is_mod, Nat.testBit_eq_decide_div_mod_eq, Nat.shiftRight_eq_div_pow]
theorem bit_orEdges {b : List Nat} {i : Nat} : ∀ {es : List Edge}, bitB i (orEdges b es) = true → ∃ e ∈ es, Region.binds .any e = true ∧ (e.on = i ∨ B b e.on i)
  | [], h => by rw [bitB_eq] at h; simp [orEdges] at h
  | e :: es, h => by
    unfold orEdges at h
    cases hb : Region.binds .any e with
    | false =>
      rw [hb] at h
      obtain ⟨e', h1, h2⟩ := bit_orEdges (es := es) h
      exact ⟨e', List.mem_cons_of_mem _ h1, h2⟩
    | true =>
      rw [hb] at h
      simp only [cond_true] at h
      rw [bitB_eq] at h
      have h' : ((1 <<< e.on ||| b.getD e.on 0) ||| orEdges b es).testBit i = true := h
      rw [Nat.testBit_or, Nat.testBit_or, Bool.or_eq_true, Bool.or_eq_true] at h'
      rcases h' with (h' | h') | h'
      · rw [Nat.one_shiftLeft, Nat.testBit_two_pow] at h'
        exact ⟨e, List.mem_cons_self .., hb, .inl (by simpa using h')⟩
      · exact ⟨e, List.mem_cons_self .., hb, .inr (by unfold B; rw [bitB_eq]; exact h')⟩
      · obtain ⟨e', h1, h2⟩ := bit_orEdges (es := es) (by rw [bitB_eq]; exact h')
        exact ⟨e', List.mem_cons_of_mem _ h1, h2⟩
theorem forceN_eq {α : Type} (n : Nat) (k : Nat → α) : forceN n k = k n := by cases n <;> rfl
theorem memN_iff {n : Nat} : ∀ {l : List Nat}, memN n l = true ↔ n ∈ l
  | [] => by simp [memN]
  | m :: r => by
    unfold memN
    rw [beq_iff]
    by_cases h : n = m
    · simp [h]
    · simp [h, memN_iff (l := r)]
theorem SOp.isAct_iff {o : SOp} : o.isAct = true ↔ o.cls = .act := by unfold SOp.isAct; cases o.cls <;> simp
theorem SOp.isLook_iff {o : SOp} : o.isLook = true ↔ o.cls = .look := by unfold SOp.isLook; cases o.cls <;> simp
theorem cond_true_iff {a b : Bool} : (bif a then b else false) = true ↔ a = true ∧ b = true := by cases a <;> simp
theorem pairOk_spec {o' o : SOper} {x : Bool} (h : pairOk o' o x = true) : apartDst o'.dst o.dst = true ∧ (x = true ∨ (apartRead o.reads o'.dst = true ∧ apartRead o'.reads o.dst = true ∧ ¬ (o'.op.cls = .act ∧ o.op.cls = .act))) := by
  unfold pairOk at h
  rw [cond_true_iff] at h
  refine ⟨h.1, ?_⟩
  cases x with
  | true => exact .inl rfl
  | false =>
    have h2 := h.2
    simp only [cond_false] at h2
    rw [cond_true_iff, cond_true_iff] at h2
    refine .inr ⟨h2.1, h2.2.1, ?_⟩
    rintro ⟨h3, h4⟩
    have := h2.2.2
    rw [SOp.isAct_iff.2 h3, SOp.isAct_iff.2 h4] at this
    cases this
theorem apartRead_not {r : List Nat} {d : Option Nat} {t : Nat} (h : apartRead r d = true) (hd : d = some t) : t ∉ r := by
  subst hd
  have h' : (!memN t r) = true := h
  intro hm
  rw [memN_iff.2 hm] at h'
  cases h'
/- what drawOk tells -/
structure DrawSpec (ops : Array Oper) (sos : List SOper) (b : List Nat) : Prop where
  edge : ∀ (j : Nat) (o : Oper), ops[j]? = some o → ∀ e ∈ o.after, Region.binds .any e = true → e.on < j
  via : ∀ (j : Nat), j < sos.length → ∀ i, B b j i → i < j ∧ ∃ o, ops[j]? = some o ∧ ∃ e ∈ o.after, Region.binds .any e = true ∧ (e.on = i ∨ B b e.on i)
  dst : ∀ (i j : Nat) (x y : SOper) (t : Nat), sos[i]? = some x → sos[j]? = some y → x.dst = some t → y.dst = some t → i = j
  reads : ∀ (i j : Nat) (x y : SOper) (t : Nat), i ≠ j → sos[i]? = some x → sos[j]? = some y → x.dst = some t → t ∈ y.reads → B b j i ∨ B b i j
  acts : ∀ (i j : Nat), i ≠ j → isAct sos i → isAct sos j → B b j i ∨ B b i j
theorem drawOk_spec {ops : Array Oper} {sos : List SOper} {b : List Nat} (hl : sos.length = ops.size) (h : drawOk ops sos b = true) : DrawSpec ops sos b := by
  unfold drawOk at h
  simp only [List.all_eq_true, List.mem_range, Bool.and_eq_true] at h
  have hpair : ∀ (i j : Nat) (x y : SOper), i < j → sos[i]? = some x → sos[j]? = some y → pairOk x y (bitB i (b.getD j 0)) = true := by
    intro i j x y hij hx hy
    have hj : j < sos.length := (List.getElem?_eq_some_iff.1 hy).1
    have h3 := (h j hj).2
    rw [hy] at h3
    simp only [forceN_eq, List.all_eq_true, List.mem_range] at h3
    have h4 := h3 i hij
    unfold pairsOk at h4
    rw [hx] at h4
    exact h4
  have hedge : ∀ j, j < sos.length → ∃ o, ops[j]? = some o ∧ (∀ e ∈ o.after, Region.binds .any e = true → e.on < j) ∧ ∀ i, B b j i → ∃ e ∈ o.after, Region.binds .any e = true ∧ (e.on = i ∨ B b e.on i) := by
    intro j hj
    have h1 := (h j hj).1
    unfold edgesOk at h1
    cases ho : ops[j]? with
    | none => rw [ho] at h1; cases h1
    | some o =>
      rw [ho] at h1
      simp only [Bool.and_eq_true] at h1
      refine ⟨o, rfl, ?_, ?_⟩
      · intro e he hb
        have h2 := List.all_eq_true.1 h1.1 e (Array.mem_toList_iff.2 he)
        rw [hb] at h2
        exact Nat.le_of_ble_eq_true h2
      · intro i hi
        have h2 := Nat.eq_of_beq_eq_true h1.2
        unfold B at hi
        rw [h2] at hi
        obtain ⟨e, he, h3⟩ := bit_orEdges hi
        exact ⟨e, Array.mem_toList_iff.1 he, h3⟩
  have hlt : ∀ j, j < sos.length → ∀ i, B b j i → i < j := by
    intro j
    induction j using Nat.strongRecOn with
    | _ j ih =>
      intro hj i hi
      obtain ⟨o, ho, h1, h2⟩ := hedge j hj
      obtain ⟨e, he, hb, h3⟩ := h2 i hi
      have h4 := h1 e he hb
      rcases h3 with h3 | h3
      · omega
      · have := ih _ h4 (by omega) i h3; omega
  refine ⟨?_, ?_, ?_, ?_, ?_⟩
  · intro j o ho e he hb
    have hj : j < sos.length := by rw [hl]; exact (Array.getElem?_eq_some_iff.1 ho).1
    obtain ⟨o', ho', h1, _⟩ := hedge j hj
    rw [ho] at ho'
    cases ho'
    exact h1 e he hb
  · intro j hj i hi
    obtain ⟨o, ho, _, h1⟩ := hedge j hj
    exact ⟨hlt j hj i hi, o, ho, h1 i hi⟩
  · intro i j x y t hx hy hxt hyt
    have key : ∀ (i j : Nat) (x y : SOper), i < j → sos[i]? = some x → sos[j]? = some y → x.dst = some t → y.dst = some t → False := by
      intro i j x y hij hx hy hxt hyt
      have := (pairOk_spec (hpair i j x y hij hx hy)).1
      rw [hxt, hyt] at this
      simp only [apartDst, beq_iff, decide_true] at this
      cases this
    rcases Nat.lt_trichotomy i j with h1 | h1 | h1
    · exact (key i j x y h1 hx hy hxt hyt).elim
    · exact h1
    · exact (key j i y x h1 hy hx hyt hxt).elim
  · intro i j x y t hij hx hy hxt ht
    rcases Nat.lt_or_gt_of_ne hij with h1 | h1
    · rcases (pairOk_spec (hpair i j x y h1 hx hy)).2 with h2 | ⟨h2, _, _⟩
      · exact .inl h2
      · exact absurd ht (apartRead_not h2 hxt)
    · rcases (pairOk_spec (hpair j i y x h1 hy hx)).2 with h2 | ⟨_, h2, _⟩
      · exact .inr h2
      · exact absurd ht (apartRead_not h2 hxt)
  · rintro i j hij ⟨x, hx, hxa⟩ ⟨y, hy, hya⟩
    rcases Nat.lt_or_gt_of_ne hij with h1 | h1
    · rcases (pairOk_spec (hpair i j x y h1 hx hy)).2 with h2 | ⟨_, _, h2⟩
      · exact .inl h2
      · exact absurd ⟨hxa, hya⟩ h2
    · rcases (pairOk_spec (hpair j i y x h1 hy hx)).2 with h2 | ⟨_, _, h2⟩
      · exact .inr h2
      · exact absurd ⟨hya, hxa⟩ h2
/- a run in text order, place by place -/
structure Trace (call : Caller) (sos : List SOper) (eS : Nat → Env) (hS : Nat → SHeap) (vS : Nat → SV) : Prop where
  step : ∀ (j : Nat) (so : SOper), sos[j]? = some so → sStep call so (eS j) (hS j) = some (vS j, hS (j + 1)) ∧ eS (j + 1) = (eS j).put so.dst (vS j)
theorem trace_of_ops {call : Caller} : ∀ {sos : List SOper} {e : Env} {H : SHeap} {e' : Env} {H' : SHeap}, runOps call sos e H = some (e', H') → ∃ tr, traceOps call sos e H = some (tr, e', H')
  | [], e, H, e', H', h => by simp only [runOps, Option.some.injEq, Prod.mk.injEq] at h; obtain ⟨rfl, rfl⟩ := h; exact ⟨[], rfl⟩
  | o :: os, e, H, e', H', h => by
    simp only [runOps] at h
    split at h
    · rename_i v H1 hst
      obtain ⟨tr, htr⟩ := trace_of_ops h
      exact ⟨(e, H, v) :: tr, by simp only [traceOps, hst, htr]⟩
    · cases h
theorem trace_ok {call : Caller} : ∀ {sos : List SOper} {e : Env} {H : SHeap} {tr : List (Env × SHeap × SV)} {e' : Env} {H' : SHeap}, traceOps call sos e H = some (tr, e', H') →
    ∃ eS hS vS, Trace call sos eS hS vS ∧ eS 0 = e ∧ hS 0 = H ∧ eS sos.length = e' ∧ hS sos.length = H' ∧ (∀ j, j < sos.length → tr[j]? = some (eS j, hS j, vS j)) ∧ tr.length = sos.length
  | [], e, H, tr, e', H', h => by
    simp only [traceOps, Option.some.injEq, Prod.mk.injEq] at h
    obtain ⟨rfl, rfl, rfl⟩ := h
    exact ⟨fun _ => e, fun _ => H, fun _ => .nilp, ⟨fun j so h => by simp at h⟩, rfl, rfl, rfl, rfl, fun j h => by simp at h, rfl⟩
  | o :: os, e, H, tr, e', H', h => by
    simp only [traceOps] at h
    split at h
    · rename_i v H1 hst
      split at h
      · rename_i tr1 r htr
        obtain ⟨e2, H2⟩ := r
        simp only [Option.some.injEq, Prod.mk.injEq] at h
        obtain ⟨rfl, rfl, rfl⟩ := h
        obtain ⟨eS, hS, vS, h1, h2, h3, h4, h5, h6, h7⟩ := trace_ok htr
        refine ⟨fun j => match j with | 0 => e | j + 1 => eS j, fun j => match j with | 0 => H | j + 1 => hS j, fun j => match j with | 0 => v | j + 1 => vS j, ⟨?_⟩, rfl, rfl, h4, h5, ?_, by simp [h7]⟩
        · intro j so hj
          cases j with
          | zero => simp at hj; subst hj; simp only; rw [h2, h3]; exact ⟨hst, rfl⟩
          | succ j => simp at hj; exact h1.step j so hj
        · intro j hj
          cases j with
          | zero => rfl
          | succ j => simpa using h6 j (by simpa using hj)
      · cases h
    · cases h
section
variable {call : Caller} {ops : Array Oper} {sos : List SOper} {b : List Nat} {eS : Nat → Env} {hS : Nat → SHeap} {vS : Nat → SV}
theorem env_at (ht : Trace call sos eS hS vS) (hd : DrawSpec ops sos b) (t : Nat) : ∀ j, j ≤ sos.length →
    (∀ i x, i < j → sos[i]? = some x → x.dst = some t → (eS j).at t = vS i) ∧ ((∀ i x, i < j → sos[i]? = some x → x.dst ≠ some t) → (eS j).at t = (eS 0).at t)
  | 0, _ => ⟨fun i x h => absurd h (by omega), fun _ => rfl⟩
  | j + 1, hj => by
    obtain ⟨h1, h2⟩ := env_at ht hd t j (by omega)
    have hlt : j < sos.length := by omega
    have hso : sos[j]? = some sos[j] := List.getElem?_eq_getElem hlt
    obtain ⟨_, he⟩ := ht.step j _ hso
    have hput : ((eS j).put sos[j].dst (vS j)).at t = if sos[j].dst = some t then vS j else (eS j).at t := by
      cases hq : sos[j].dst with
      | none => simp [Env.put]
      | some d =>
        rw [Env.at_put]
        by_cases h : t = d
        · simp [h]
        · rw [if_neg h, if_neg (fun h' => h (Option.some.inj h').symm)]
    rw [he, hput]
    constructor
    · intro i x hi hx hxt
      by_cases hij : i = j
      · subst hij
        rw [hso] at hx
        cases hx
        rw [if_pos hxt]
      · rw [if_neg (fun h => hij (hd.dst i j x _ t hx hso hxt h))]
        exact h1 i x (by omega) hx hxt
    · intro hno
      rw [if_neg (hno j _ (by omega) hso)]
      exact h2 fun i x hi hx => hno i x (by omega) hx
theorem heap_still (ht : Trace call sos eS hS vS) : ∀ (m p : Nat), p + m ≤ sos.length → (∀ j, p ≤ j → j < p + m → ¬ isAct sos j) → hS (p + m) = hS p
  | 0, p, _, _ => rfl
  | m + 1, p, hle, hno => by
    have hlt : p + m < sos.length := by omega
    have hso : sos[p + m]? = some sos[p + m] := List.getElem?_eq_getElem hlt
    obtain ⟨hst, _⟩ := ht.step _ _ hso
    have := (sStep_still (call' := call) (fun h => hno (p + m) (by omega) (by omega) ⟨_, hso, h⟩) hst).1
    rw [← Nat.add_assoc, this]
    exact heap_still ht m p (by omega) fun j h1 h2 => hno j h1 (by omega)
theorem heap_same (ht : Trace call sos eS hS vS) {p q : Nat} (hp : p ≤ sos.length) (hq : q ≤ sos.length) (h : ∀ j, isAct sos j → (j < p ↔ j < q)) : hS p = hS q := by
  rcases Nat.le_total p q with hle | hle
  · obtain ⟨m, rfl⟩ := Nat.le.dest hle
    exact (heap_still ht m p hq fun j h1 h2 ha => by have := (h j ha).2 h2; omega).symm
  · obtain ⟨m, rfl⟩ := Nat.le.dest hle
    exact heap_still ht m q hp fun j h1 h2 ha => by have := (h j ha).1 h2; omega
end
end Go.Sim
