/- From a run of the reduced machine to what the program does. -/
import Derived.Test.YtjoffbhfcajcgaaDoorSim22
set_option linter.unusedVariables false
set_option linter.unusedSimpArgs false
namespace Go.Sim
open Go.RowKit
variable {P : Program} {ρ ρ' : Ren} {H H' : SHeap} {w w' : World}
/- a table out of a list -/
noncomputable def treeOf (l : List (Nat × SFunc)) : Tr SFunc := l.foldl (fun t p => t.set p.1 p.2) .lf
theorem tree_get : ∀ (l : List (Nat × SFunc)) (t : Tr SFunc) (k : Nat) (a : SFunc), (l.foldl (fun t p => t.set p.1 p.2) t).get k = some a → (k, a) ∈ l ∨ t.get k = some a
  | [], t, k, a, h => .inr h
  | p :: l, t, k, a, h => by
    rcases tree_get l _ k a h with h1 | h1
    · exact .inl (List.mem_cons_of_mem _ h1)
    · rw [Tr.get_set] at h1
      split at h1
      · rename_i hk
        cases h1
        subst hk
        exact .inl (List.mem_cons_self ..)
      · exact .inr h1
def FnOk (P : Program) (p : Nat × SFunc) : Prop := ∃ fn, P.funcs[p.1]? = some fn ∧ compFunc P fn = some p.2
inductive AllOk (P : Program) : List (Nat × SFunc) → Prop
  | nil : AllOk P []
  | cons {n : Nat} {c : SFunc} {fn : Func} {l : List (Nat × SFunc)} (h1 : P.funcs[n]? = some fn) (h2 : compFunc P fn = some c) (h : AllOk P l) : AllOk P ((n, c) :: l)
theorem AllOk.get {l : List (Nat × SFunc)} (h : AllOk P l) : ∀ p ∈ l, FnOk P p := by
  induction h with
  | nil => intro p hp; cases hp
  | cons h1 h2 h ih =>
    intro p hp
    cases hp with
    | head => exact ⟨_, h1, h2⟩
    | tail _ hp => exact ih p hp
theorem AllOk.append {l l' : List (Nat × SFunc)} (h : AllOk P l) (h' : AllOk P l') : AllOk P (l ++ l') := by
  induction h with
  | nil => exact h'
  | cons h1 h2 h ih => exact .cons h1 h2 ih
theorem tableOk_of {F : Table} {l : List (Nat × SFunc)} (hmx : P.follows .mixedOrders = true) (hl : AllOk P l) (hF : F.fn = fun i => (treeOf l).get i) (hlib : ∀ f p, F.lib f = some p → LibOk P f p) : TableOk P F := by
  refine ⟨hmx, fun f sfn h => ?_, hlib⟩
  rw [hF] at h
  rcases tree_get l .lf f sfn h with h1 | h1
  · exact hl.get _ h1
  · cases h1
/- what the reduced machine gives back is what the program gives back; memory as it was -/
theorem law_of_run {F : Table} (hF : TableOk P F) {n f : Nat} {xs : List SV} {vs : Array Value} (hno : ∀ b o, H.get b = some o → o.writable = false) (hr : Rel P.globals.size ρ H w) (hv : VRs ρ xs vs.toList) {t : Bool} (h : runCall F n f xs H = some (.bool t, H')) :
    Calls P f vs w fun e w' => e = .returned (.bool t) ∧ Below w.heap.size w w' := by
  refine Calls.mono ((calls_ok hF n f xs H _ _ h).2 ρ w vs hr hv) ?_
  rintro e w' ⟨v, ρ', rfl, h1, h2, h3⟩
  rw [VR_bool.1 h1]
  exact ⟨rfl, h3.below hno⟩
end Go.Sim
