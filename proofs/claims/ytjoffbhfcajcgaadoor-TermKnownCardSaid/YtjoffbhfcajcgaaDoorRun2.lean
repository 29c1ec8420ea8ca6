/- The direct style: a table of functions, run to a depth. -/
import Derived.Test.YtjoffbhfcajcgaaDoorRun1
set_option linter.unusedVariables false
set_option linter.unusedSimpArgs false
namespace Go.Sim
noncomputable section
variable {c d : Caller}
theorem bnd_mono {r r' : Res} {k k' : SV → SHeap → Res} {x : SV × SHeap} (h : ∀ y, r = some y → r' = some y) (hk : ∀ v H y, k v H = some y → k' v H = some y) (e : bnd r k = some x) : bnd r' k' = some x := by
  obtain ⟨v, H, h1, h2⟩ := bnd_inv e
  rw [h _ h1]
  exact hk _ _ _ h2
def KLe (k k' : Env → SHeap → Res) : Prop := ∀ e H y, k e H = some y → k' e H = some y
theorem runOpsK_mono (h : CLe c d) : ∀ (ops : List SOper) {e : Env} {H : SHeap} {k k' : Env → SHeap → Res} (hk : KLe k k') {r : SV × SHeap}, runOpsK c ops e H k = some r → runOpsK d ops e H k' = some r
  | [], e, H, k, k', hk, r, hr => hk _ _ _ hr
  | o :: os, e, H, k, k', hk, r, hr => by
    unfold runOpsK at hr ⊢
    exact bnd_mono (fun y hy => sStep_mono h hy) (fun v H' y hy => runOpsK_mono h os hk hy) hr
theorem runK_mono (h : CLe c d) (n : Nat) : ∀ (k : SCode) {e : Env} {H : SHeap} {kn kn' : Env → SHeap → Res} {kx kx' : Nat → Env → SHeap → Res} {kr kr' : Env → SHeap → Res}, KLe kn kn' → (∀ i, KLe (kx i) (kx' i)) → KLe kr kr' → ∀ {r : SV × SHeap}, runK c n k e H kn kx kr = some r → runK d n k e H kn' kx' kr' = some r := by
  intro k
  induction k with
  | skip => intro e H kn kn' kx kx' kr kr' h1 h2 h3 r hr; exact h1 _ _ _ hr
  | exit i => intro e H kn kn' kx kx' kr kr' h1 h2 h3 r hr; exact h2 i _ _ _ hr
  | ret => intro e H kn kn' kx kx' kr kr' h1 h2 h3 r hr; exact h3 _ _ _ hr
  | reg ops => intro e H kn kn' kx kx' kr kr' h1 h2 h3 r hr; exact runOpsK_mono h ops h1 hr
  | draw ops looks =>
    intro e H kn kn' kx kx' kr kr' h1 h2 h3 r hr
    simp only [runK] at hr ⊢
    cases hd : runDraw c ops looks e H with
    | none => rw [hd] at hr; cases hr
    | some p => rw [hd] at hr; rw [runDraw_mono h hd]; exact h1 _ _ _ hr
  | seq a b iha ihb =>
    intro e H kn kn' kx kx' kr kr' h1 h2 h3 r hr
    exact iha (fun e H y hy => ihb h1 h2 h3 hy) h2 h3 hr
  | cond x a b iha ihb =>
    intro e H kn kn' kx kx' kr kr' h1 h2 h3 r hr
    simp only [runK] at hr ⊢
    cases hx : e.ev x <;> rw [hx] at hr <;> first | (cases hr; done) | skip
    rename_i t
    cases t
    · exact ihb h1 h2 h3 hr
    · exact iha h1 h2 h3 hr
  | block id b ihb =>
    intro e H kn kn' kx kx' kr kr' h1 h2 h3 r hr
    refine ihb h1 (fun i e H y hy => ?_) h3 hr
    by_cases hi : i = id
    · rw [if_pos hi] at hy ⊢; exact h1 _ _ _ hy
    · rw [if_neg hi] at hy ⊢; exact h2 i _ _ _ hy
  | loop b ihb =>
    intro e H kn kn' kx kx' kr kr' h1 h2 h3 r hr
    simp only [runK] at hr ⊢
    suffices hs : ∀ (j : Nat), KLe (iterK (fun k e H => runK c n b e H k kx kr) j) (iterK (fun k e H => runK d n b e H k kx' kr') j) from hs n _ _ _ hr
    intro j
    induction j with
    | zero => intro e H y hy; cases hy
    | succ j ihj => intro e H y hy; exact ihb ihj h2 h3 hy
theorem KLe.refl (k : Env → SHeap → Res) : KLe k k := fun _ _ _ h => h
theorem runBodyK_mono (h : CLe c d) {n : Nat} {fn : SFunc} {xs : List SV} {H : SHeap} {r : SV × SHeap} (hr : runBodyK c n fn xs H = some r) : runBodyK d n fn xs H = some r := by
  unfold runBodyK at hr ⊢
  cases hq : Nat.beq xs.length fn.np <;> rw [hq] at hr <;> simp only [cond_true, cond_false] at hr ⊢
  · cases hr
  · exact runK_mono h n _ (.refl _) (fun _ => .refl _) (.refl _) hr
abbrev GFun := Caller → Nat → List SV → SHeap → Res
def stepG (g : Option GFun) (call : Caller) (n : Nat) (xs : List SV) (H : SHeap) : Res :=
  Option.rec (motive := fun _ => Res) none (fun g => g call n xs H) g
/- a table's run to a depth -/
def runG (T : Tr GFun) (n d : Nat) : Caller :=
  Nat.rec (motive := fun _ => Caller) (fun _ _ _ => none) (fun _ ih f xs H => stepG (T.get f) ih n xs H) d
def GOk (fn : SFunc) (g : GFun) : Prop := ∀ call n xs H r, g call n xs H = some r → runBodyK call n fn xs H = some r
inductive GAll (F : Table) : List (Nat × GFun) → Prop
  | nil : GAll F []
  | cons {f : Nat} {fn : SFunc} {g : GFun} {l : List (Nat × GFun)} (h1 : F.fn f = some fn) (h2 : F.lib f = none) (h3 : GOk fn g) (h : GAll F l) : GAll F ((f, g) :: l)
def treeG (l : List (Nat × GFun)) : Tr GFun := l.foldl (fun t p => t.set p.1 p.2) .lf
theorem treeG_get : ∀ (l : List (Nat × GFun)) (t : Tr GFun) (k : Nat) (a : GFun), (l.foldl (fun t p => t.set p.1 p.2) t).get k = some a → (k, a) ∈ l ∨ t.get k = some a
  | [], t, k, a, h => .inr h
  | p :: l, t, k, a, h => by
    rcases treeG_get l _ k a h with h1 | h1
    · exact .inl (List.mem_cons_of_mem _ h1)
    · rw [Tr.get_set] at h1
      split at h1
      · rename_i hk
        cases h1
        subst hk
        exact .inl (List.mem_cons_self ..)
      · exact .inr h1
theorem GAll.get {F : Table} {l : List (Nat × GFun)} (h : GAll F l) : ∀ p ∈ l, ∃ fn, F.fn p.1 = some fn ∧ F.lib p.1 = none ∧ GOk fn p.2 := by
  induction h with
  | nil => intro p hp; cases hp
  | cons h1 h2 h3 h ih =>
    intro p hp
    cases hp with
    | head => exact ⟨_, h1, h2, h3⟩
    | tail _ hp => exact ih p hp
/- what the table comes to, all runs come to -/
theorem runG_le {F : Table} {l : List (Nat × GFun)} {T : Tr GFun} (h : GAll F l) (hT : treeG l = T) (n : Nat) : ∀ d, CLe (runG T n d) (callC F)
  | 0, f, xs, H, r, e => by cases e
  | d + 1, f, xs, H, r, e => by
    have e' : stepG (T.get f) (runG T n d) n xs H = some r := e
    cases hg : T.get f with
    | none => rw [hg] at e'; cases e'
    | some g =>
      rw [hg] at e'
      rw [← hT] at hg
      rcases treeG_get l .lf f g hg with hm | hm
      · obtain ⟨fn, h1, h2, h3⟩ := h.get _ hm
        exact callC_body h2 h1 (runBodyK_mono (runG_le h hT n d) (h3 _ _ _ _ _ e'))
      · cases hm
 end
end Go.Sim
