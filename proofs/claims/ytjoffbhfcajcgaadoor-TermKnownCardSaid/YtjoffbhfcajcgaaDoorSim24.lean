/- What the laid variables' condition says of memory. -/
import Derived.Test.YtjoffbhfcajcgaaDoorSim23
import GoSem.ClaimJoined
import Derived.Handed
import Derived.LaidHandle
import Derived.FnData
set_option linter.unusedVariables false
set_option linter.unusedSimpArgs false
namespace Go.Sim
open Go.RowKit
variable {P : Program}
section
variable {K : Type}
mutual
def dvals : DataW K → List Value
  | .lit (.int k n) => [.int k n]
  | .lit (.bool b) => [.bool b]
  | .agg l => dvalsL l
  | _ => []
def dvalsL : List (DataW K) → List Value
  | [] => []
  | d :: ds => dvals d ++ dvalsL ds
end
def flatTy (P : Program) : Nat → TypeId → Bool
  | 0, _ => false
  | f + 1, t => match P.underlying t with
    | some (.int _) => true
    | some .bool => true
    | some (.array n e) => Nat.beq (P.cellsOf t) (n * P.cellsOf e) && flatTy P f e
    | _ => false
theorem pieces_flat {g : Nat → Option (DataW K × List MemPlace)} {cs : List Value} {ce : Nat} (hg : ∀ i d p, g i = some (d, p) → (cs.drop (i * ce)).take ce = dvals d) : ∀ (m i : Nat) (xs : List (DataW K × List MemPlace)), (List.range' i m).mapM g = some xs → (cs.drop (i * ce)).take (m * ce) = dvalsL (xs.map (·.1))
  | 0, i, xs, h => by
    simp at h
    subst h
    simp [dvalsL]
  | m + 1, i, xs, h => by
    rw [List.range'_succ, List.mapM_cons] at h
    simp only [Option.bind_eq_bind, Option.pure_def, Option.bind_eq_some_iff, Option.some.injEq] at h
    obtain ⟨⟨d, p⟩, h1, ys, h2, rfl⟩ := h
    have h3 := hg i d p h1
    have h4 := pieces_flat hg m (i + 1) ys h2
    simp only [List.map_cons, dvalsL]
    rw [← h3, ← h4, show (m + 1) * ce = ce + m * ce from by rw [Nat.add_mul]; omega, List.take_add, List.drop_drop]
    congr 3
    rw [Nat.add_mul]; omega
theorem trod_flat {enc : TypeId × Value → K} {w : World} {base : Nat} {spare : Nat → Bool} {held : Bool} : ∀ (fuel f : Nat) (t : TypeId) (cs : List Value) (d : DataW K) (p : List MemPlace), DataW.trod enc P w base spare held fuel t cs = some (d, p) → flatTy P f t = true → cs = dvals d
  | 0, f, t, cs, d, p, h, hf => by cases h
  | fuel + 1, 0, t, cs, d, p, h, hf => by cases hf
  | fuel + 1, f + 1, t, cs, d, p, h, hf => by
    unfold flatTy at hf
    unfold DataW.trod at h
    cases hu : P.underlying t with
    | none => rw [hu] at hf; cases hf
    | some ty =>
      rw [hu] at hf h
      cases ty <;> (try simp only at hf) <;> (try (cases hf; done))
      case bool =>
        split at h <;> simp_all [dvals]
        obtain ⟨rfl, rfl⟩ := h
        rfl
      case int k =>
        split at h <;> simp_all [dvals]
        obtain ⟨⟨rfl, _⟩, rfl, rfl⟩ := h
        rfl
      case array n e =>
        simp only [Bool.and_eq_true] at hf
        have hn := Nat.eq_of_beq_eq_true hf.1
        have h' : (if cs.length = P.cellsOf t then ((List.range n).mapM fun i => DataW.trod enc P w base spare held fuel e ((cs.drop (i * P.cellsOf e)).take (P.cellsOf e))).map fun xs => (DataW.agg (xs.map (·.1)), xs.flatMap (·.2)) else none) = some (d, p) := by
          have : ∀ l : List Value, (match (some (TypeDesc.array n e), l) with | _ => l) = l := fun _ => rfl
          cases cs with
          | nil => exact h
          | cons c cs =>
            cases cs with
            | nil => cases c <;> exact h
            | cons c' cs => exact h
        split at h'
        · rename_i hl
          simp only [Option.map_eq_some_iff] at h'
          obtain ⟨xs, h1, h2⟩ := h'
          cases h2
          rw [List.range_eq_range'] at h1
          have := pieces_flat (cs := cs) (ce := P.cellsOf e) (fun i d p h => trod_flat fuel f e _ d p h hf.2) n 0 xs h1
          simp only [dvals]
          rw [← this]
          simp only [Nat.zero_mul, List.drop_zero]
          rw [List.take_of_length_le (Nat.le_of_eq (hl.trans hn))]
        · cases h'
end
/- a laid variable's block -/
theorem laid_row {l : List (String × DataW Unit)} {w : World} (h : laidMet P l w) {n : String} {d : DataW Unit} (hm : (n, d) ∈ l) {g : Nat} (hg : P.globalNamed n = some g) {t : TypeId} (ht : (P.globals[g]?).map (·.type) = some t) {f : Nat} (hf : flatTy P f t = true) (hne : dvals d ≠ []) :
    ∃ c e, w.heap[g]? = some (.cells c e (0, 0)) ∧ c.toList = dvals d := by
  obtain ⟨ps, hv, _, hb⟩ := h
  have key : ∀ (l : List (String × DataW Unit)) (ps : List MemPlace), DataW.LaidVars P w l ps → (n, d) ∈ l → ∃ cs : Array Value, w.var? P n = some cs ∧ cs.toList = dvals d ∧ ∀ x ∈ MemPlace.row ⟨g, 0, none⟩ cs.size, x ∈ ps := by
    intro l
    induction l with
    | nil => intro ps _ hm; cases hm
    | cons x r ih =>
      intro ps hv hm
      obtain ⟨n', d'⟩ := x
      obtain ⟨g', t', cs, fuel, p, q, h1, h2, h3, h4, h5, rfl⟩ := hv
      cases hm with
      | head =>
        rw [hg] at h1; cases h1
        rw [ht] at h2; cases h2
        exact ⟨cs, h3, trod_flat fuel f t _ _ _ h4 hf, fun x hx => List.mem_append.2 (.inl (List.mem_append.2 (.inl hx)))⟩
      | tail _ hm =>
        obtain ⟨cs', h6, h7, h8⟩ := ih q h5 hm
        exact ⟨cs', h6, h7, fun x hx => List.mem_append.2 (.inr (h8 x hx))⟩
  obtain ⟨cs, h1, h2, h3⟩ := key l ps hv hm
  have hpos : 0 < cs.size := by
    rcases Nat.eq_zero_or_pos cs.size with h0 | h0
    · rw [Array.eq_empty_of_size_eq_zero h0] at h2
      exact absurd h2.symm hne
    · exact h0
  obtain ⟨⟨c, e, hc⟩, _⟩ := hb g 0 (h3 _ (List.mem_map.2 ⟨0, List.mem_range.2 hpos, rfl⟩))
  refine ⟨c, e, hc, ?_⟩
  simp only [World.var?, hg, Option.bind_some, hc, Option.some.injEq] at h1
  rw [h1]
  exact h2
end Go.Sim
