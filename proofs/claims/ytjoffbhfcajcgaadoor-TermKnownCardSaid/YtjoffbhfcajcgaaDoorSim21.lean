/- Code and calls: what the reduced machine comes to, the model comes to. -/
import Derived.Test.YtjoffbhfcajcgaaDoorSim20
set_option linter.unusedVariables false
set_option linter.unusedSimpArgs false
namespace Go.Sim
open Go.RowKit
variable {P : Program} {ρ ρ' : Ren} {H H' : SHeap} {w w' : World}
def toExit : SExit → Exit
  | .normal => .normal
  | .exit i => .exit i
  | .ret => .ret
def Goes (P : Program) (call : Caller) (n : Nat) (c : Code) (fuel : Nat) (sc : SCode) : Prop :=
  ∀ (ρ : Ren) (H : SHeap) (w : World) (e : Env) (a : Act), EnvR ρ n e a → Rel P.globals.size ρ H w → ∀ (x : SExit) (e' : Env) (H' : SHeap), runCode call fuel sc e H = some (x, e', H') →
    ∀ (Q : Exit → Act → World → Prop), (∀ ρ' w' a', Rel P.globals.size ρ' H' w' → Later ρ H w ρ' H' w' → EnvR ρ' n e' a' → Q (toExit x) a' w') → c.wp P Q a w
theorem draw_ok {call : Caller} (hcall : CallsOk P call) (hmx : P.follows .mixedOrders = true) {n : Nat} {id : Nat} {ops : Array Oper} {so : List SOper} (hc : compOpers P ops ops.toList = some so) {b : List Nat} (hd : drawOk ops so b = true) (hb : dstsBelow n so = true)
    {e : Env} {a : Act} (he : EnvR ρ n e a) (hr : Rel P.globals.size ρ H w) {e' : Env} (h : runDraw call so (looksOf so b) e H = some (e', H')) {Q : Exit → Act → World → Prop} (hk : ∀ ρ' w' a', Rel P.globals.size ρ' H' w' → Later ρ H w ρ' H' w' → EnvR ρ' n e' a' → Q .normal a' w') : (Code.region id ops true).wp P Q a w := by
  obtain ⟨hlen, _⟩ := compOpers_get hc
  have hlen' : so.length = ops.size := by simpa using hlen
  have htr : ∃ tr, traceOps call so e H = some (tr, e', H') ∧ (looksOf so b).all (lookOk so tr H') = true := by
    unfold runDraw at h
    cases hl : looksOf so b with
    | nil =>
      rw [hl] at h
      obtain ⟨tr, htr⟩ := trace_of_ops h
      exact ⟨tr, htr, rfl⟩
    | cons p ps =>
      rw [hl] at h
      simp only at h
      split at h
      · rename_i tr e2 H2 htr
        cases hq : (p :: ps).all (lookOk so tr H2) with
        | false => rw [hq] at h; cases h
        | true =>
          rw [hq] at h
          simp only [cond_true, Option.some.injEq, Prod.mk.injEq] at h
          obtain ⟨rfl, rfl⟩ := h
          exact ⟨tr, htr, hq⟩
      · cases h
  obtain ⟨tr, htr, hlk⟩ := htr
  obtain ⟨eS, hS, vS, h1, h2, h3, h4, h5, h6, h7⟩ := trace_ok htr
  have hds := drawOk_spec hlen' hd
  have hlooks := looksOf_ok (call := call) h6 h7 h5 hlk
  refine wp_region_any hmx ?_
  have hL : ∀ j, ¬ L (Array.replicate ops.size false) j := by
    intro j hj
    unfold L at hj
    rw [Array.getElem?_replicate] at hj
    split at hj <;> cases hj
  have hlat : Later ρ H w ρ H { w with drawn := w.drawn + 1 } := Later.drew ρ H w _
  refine wpAny_ok hc hcall h1 hds hlooks hb (ρ0 := ρ) (w0 := w) ?_ ops.size _ ρ _ a (by simp) ⟨by simp [hlen'], fun j hj => absurd hj (hL j), ⟨0, by omega, .inl rfl, fun j _ => ⟨fun hj => absurd hj (hL j), fun h => absurd h (by omega)⟩, by rw [h3]; exact hr.drew _, by rw [h3]; exact hlat⟩, ⟨e, he, fun j x t hj => absurd hj (hL j), fun t _ => by rw [h2]⟩⟩
  intro ρ' w' a' he' hr' hl'
  rw [h4] at he'
  rw [h5] at hr' hl'
  rw [h3] at hl'
  exact hk ρ' w' a' hr' hl' he'
theorem stuck_none (call : Caller) (fuel : Nat) (e : Env) (H : SHeap) {r : SExit × Env × SHeap} : ¬ runCode call fuel stuckCode e H = some r := by
  intro h
  cases fuel with
  | zero => cases h
  | succ n => cases h
theorem code_ok {call : Caller} (hcall : CallsOk P call) (hmx : P.follows .mixedOrders = true) {n : Nat} : ∀ (fuel : Nat) (c : Code) (sc : SCode), compCode P c = sc → codeBelow n sc = true → Goes P call n c fuel sc
  | 0, c, sc, hc, hb => by
    intro ρ H w e a he hr x e' H' h Q hk
    cases h
  | fuel + 1, c, sc, hc, hb => by
    intro ρ H w e a he hr x e' H' h Q hk
    cases c
    case skip =>
      subst hc
      simp only [compCode, runCode, Option.some.injEq, Prod.mk.injEq] at h
      obtain ⟨rfl, rfl, rfl⟩ := h
      exact wp_skip (hk ρ w a hr (Later.refl ρ _ w) he)
    case exit id =>
      subst hc
      simp only [compCode, runCode, Option.some.injEq, Prod.mk.injEq] at h
      obtain ⟨rfl, rfl, rfl⟩ := h
      exact wp_exit (hk ρ w a hr (Later.refl ρ _ w) he)
    case ret =>
      subst hc
      simp only [compCode, runCode, Option.some.injEq, Prod.mk.injEq] at h
      obtain ⟨rfl, rfl, rfl⟩ := h
      exact wp_ret (hk ρ w a hr (Later.refl ρ _ w) he)
    case seq c1 c2 =>
      simp only [compCode] at hc
      obtain ⟨s1, hs1⟩ : ∃ s1, compCode P c1 = s1 := ⟨_, rfl⟩
      obtain ⟨s2, hs2⟩ : ∃ s2, compCode P c2 = s2 := ⟨_, rfl⟩
      rw [hs1, hs2] at hc
      subst hc
      simp only [codeBelow, Bool.and_eq_true] at hb
      simp only [runCode] at h
      cases h1 : runCode call fuel s1 e H with
      | none => rw [h1] at h; cases h
      | some r =>
        obtain ⟨x1, e1, H1⟩ := r
        rw [h1] at h
        refine wp_seq (code_ok hcall hmx fuel c1 s1 hs1 hb.1 _ _ _ _ _ he hr _ _ _ h1 _ ?_)
        intro ρ1 w1 a1 hr1 hl1 he1
        cases x1 with
        | normal =>
          simp only [outSeq] at h
          exact code_ok hcall hmx fuel c2 s2 hs2 hb.2 _ _ _ _ _ he1 hr1 _ _ _ h _ fun ρ' w' a' h2 h3 h4 => hk ρ' w' a' h2 (hl1.trans h3) h4
        | exit i =>
          simp only [outSeq, Option.some.injEq, Prod.mk.injEq] at h
          obtain ⟨rfl, rfl, rfl⟩ := h
          exact hk ρ1 w1 a1 hr1 hl1 he1
        | ret =>
          simp only [outSeq, Option.some.injEq, Prod.mk.injEq] at h
          obtain ⟨rfl, rfl, rfl⟩ := h
          exact hk ρ1 w1 a1 hr1 hl1 he1
    case cond y c1 c2 =>
      simp only [compCode] at hc
      obtain ⟨s1, hs1⟩ : ∃ s1, compCode P c1 = s1 := ⟨_, rfl⟩
      obtain ⟨s2, hs2⟩ : ∃ s2, compCode P c2 = s2 := ⟨_, rfl⟩
      rw [hs1, hs2] at hc
      obtain ⟨y', hy⟩ : ∃ y', toOpd P y = some y' := by
        cases hq : toOpd P y with
        | none => rw [hq] at hc; subst hc; exact absurd h (stuck_none _ _ _ _)
        | some y' => exact ⟨y', rfl⟩
      rw [hy] at hc
      simp only [compCond] at hc
      subst hc
      simp only [codeBelow, Bool.and_eq_true] at hb
      simp only [runCode] at h
      have hv := he.ev hr _ _ hy
      cases hx : e.ev y' <;> rw [hx] at h hv <;> simp only [outCond] at h <;> (try cases h)
      rename_i t
      refine wp_cond (VR_bool.1 hv) ?_
      cases t with
      | true => exact code_ok hcall hmx fuel c1 s1 hs1 hb.1 _ _ _ _ _ he hr _ _ _ h _ hk
      | false => exact code_ok hcall hmx fuel c2 s2 hs2 hb.2 _ _ _ _ _ he hr _ _ _ h _ hk
    case block id c1 =>
      simp only [compCode] at hc
      obtain ⟨s1, hs1⟩ : ∃ s1, compCode P c1 = s1 := ⟨_, rfl⟩
      rw [hs1] at hc
      subst hc
      simp only [codeBelow] at hb
      simp only [runCode] at h
      cases h1 : runCode call fuel s1 e H with
      | none => rw [h1] at h; cases h
      | some r =>
        obtain ⟨x1, e1, H1⟩ := r
        rw [h1] at h
        refine wp_block (code_ok hcall hmx fuel c1 s1 hs1 hb _ _ _ _ _ he hr _ _ _ h1 _ ?_)
        intro ρ1 w1 a1 hr1 hl1 he1
        cases x1 with
        | normal =>
          simp only [outBlock, Option.some.injEq, Prod.mk.injEq] at h
          obtain ⟨rfl, rfl, rfl⟩ := h
          exact hk ρ1 w1 a1 hr1 hl1 he1
        | exit i =>
          simp only [outBlock, Option.some.injEq, Prod.mk.injEq] at h
          obtain ⟨rfl, rfl, rfl⟩ := h
          have := hk ρ1 w1 a1 hr1 hl1 he1
          show (if i = id then Q .normal a1 w1 else Q (.exit i) a1 w1)
          rw [beq_iff] at this
          by_cases hi : i = id
          · rw [if_pos hi]; rw [decide_eq_true hi] at this; exact this
          · rw [if_neg hi]; rw [decide_eq_false hi] at this; exact this
        | ret =>
          simp only [outBlock, Option.some.injEq, Prod.mk.injEq] at h
          obtain ⟨rfl, rfl, rfl⟩ := h
          exact hk ρ1 w1 a1 hr1 hl1 he1
    case loop c1 =>
      simp only [compCode] at hc
      obtain ⟨s1, hs1⟩ : ∃ s1, compCode P c1 = s1 := ⟨_, rfl⟩
      rw [hs1] at hc
      subst hc
      simp only [codeBelow] at hb
      let J : Nat → Act → World → Prop := fun m a1 w1 => m ≤ fuel + 1 ∧ ∃ e1 H1 ρ1, EnvR ρ1 n e1 a1 ∧ Rel P.globals.size ρ1 H1 w1 ∧ Later ρ H w ρ1 H1 w1 ∧ runCode call m (.loop s1) e1 H1 = some (x, e', H')
      have hμ : ∀ a1 w1, ∃ k, ((∃ m, J m a1 w1) → J k a1 w1) ∧ ∀ m, J m a1 w1 → k ≤ m := by
        intro a1 w1
        by_cases hex : ∃ m, J m a1 w1
        · obtain ⟨m, hm⟩ := hex
          have : ∀ m, J m a1 w1 → ∃ k, J k a1 w1 ∧ ∀ m', J m' a1 w1 → k ≤ m' := by
            intro m
            induction m using Nat.strongRecOn with
            | _ m ih =>
              intro hm
              by_cases hlt : ∃ m', m' < m ∧ J m' a1 w1
              · obtain ⟨m', h1, h2⟩ := hlt
                exact ih m' h1 h2
              · exact ⟨m, hm, fun m' h' => Nat.not_lt.1 fun h1 => hlt ⟨m', h1, h'⟩⟩
          obtain ⟨k, h1, h2⟩ := this m hm
          exact ⟨k, fun _ => h1, h2⟩
        · exact ⟨0, fun h => absurd h hex, fun m hm => absurd ⟨m, hm⟩ hex⟩
      refine wp_loop (I := fun a1 w1 => ∃ m, J m a1 w1) (μ := fun a1 w1 => Classical.choose (hμ a1 w1)) ⟨fuel + 1, Nat.le_refl _, e, H, ρ, he, hr, Later.refl ρ H w, h⟩ ?_
      intro a1 w1 hI
      obtain ⟨hk1, hk2⟩ := Classical.choose_spec (hμ a1 w1)
      obtain ⟨hle, e1, H1, ρ1, he1, hr1, hl1, hrun⟩ := hk1 hI
      revert hle hrun
      generalize Classical.choose (hμ a1 w1) = m
      intro hle hrun
      cases m with
      | zero => cases hrun
      | succ m =>
        simp only [runCode] at hrun
        cases h1 : runCode call m s1 e1 H1 with
        | none => rw [h1] at hrun; cases hrun
        | some r =>
          obtain ⟨x2, e2, H2⟩ := r
          rw [h1] at hrun
          have hmono : m ≤ fuel := by omega
          refine code_ok hcall hmx m c1 s1 hs1 hb _ _ _ _ _ he1 hr1 _ _ _ h1 _ ?_
          intro ρ2 w2 a2 hr2 hl2 he2
          cases x2 with
          | normal =>
            simp only [outSeq] at hrun
            have hJ : J m a2 w2 := ⟨by omega, e2, H2, ρ2, he2, hr2, hl1.trans hl2, hrun⟩
            refine ⟨⟨m, hJ⟩, ?_⟩
            have := (Classical.choose_spec (hμ a2 w2)).2 m hJ
            show Classical.choose (hμ a2 w2) < m + 1
            omega
          | exit i =>
            simp only [outSeq, Option.some.injEq, Prod.mk.injEq] at hrun
            obtain ⟨rfl, rfl, rfl⟩ := hrun
            exact hk ρ2 w2 a2 hr2 (hl1.trans hl2) he2
          | ret =>
            simp only [outSeq, Option.some.injEq, Prod.mk.injEq] at hrun
            obtain ⟨rfl, rfl, rfl⟩ := hrun
            exact hk ρ2 w2 a2 hr2 (hl1.trans hl2) he2
    case region id ops draw =>
      simp only [compCode, compRegion] at hc
      split at hc
      · subst hc; exact absurd h (stuck_none _ _ _ _)
      · rename_i so hso
        cases draw with
        | false =>
          simp only [cond_false] at hc
          subst hc
          simp only [codeBelow] at hb
          simp only [runCode] at h
          cases h1 : runOps call so e H with
          | none => rw [h1] at h; cases h
          | some r =>
            obtain ⟨e1, H1⟩ := r
            rw [h1] at h
            simp only [outNormal, Option.some.injEq, Prod.mk.injEq] at h
            obtain ⟨rfl, rfl, rfl⟩ := h
            refine wp_region ?_
            rw [List.range_eq_range']
            exact wpOps_text hcall hso hb ops.size 0 (by omega) he hr (by simpa using h1) hk
        | true =>
          simp only [cond_true] at hc
          cases hd : drawOk ops so (aheadOf ops.toList []) with
          | false =>
            rw [hd] at hc
            simp only [cond_false] at hc
            subst hc; exact absurd h (stuck_none _ _ _ _)
          | true =>
            rw [hd] at hc
            simp only [cond_true] at hc
            subst hc
            simp only [codeBelow] at hb
            simp only [runCode] at h
            cases h1 : runDraw call so (looksOf so (aheadOf ops.toList [])) e H with
            | none => rw [h1] at h; cases h
            | some r =>
              obtain ⟨e1, H1⟩ := r
              rw [h1] at h
              simp only [outNormal, Option.some.injEq, Prod.mk.injEq] at h
              obtain ⟨rfl, rfl, rfl⟩ := h
              exact draw_ok hcall hmx hso hd hb he hr h1 hk
    all_goals
      simp only [compCode] at hc
      subst hc
      exact absurd h (stuck_none _ _ _ _)
termination_by fuel => fuel
end Go.Sim
