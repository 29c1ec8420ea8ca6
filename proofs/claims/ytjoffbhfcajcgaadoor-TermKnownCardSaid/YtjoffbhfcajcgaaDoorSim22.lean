/- Calls: what the reduced machine comes to, the model comes to. -/
import Derived.Test.YtjoffbhfcajcgaaDoorSim21
set_option linter.unusedVariables false
set_option linter.unusedSimpArgs false
namespace Go.Sim
open Go.RowKit
variable {P : Program} {ρ ρ' : Ren} {H H' : SHeap} {w w' : World}
theorem compFunc_spec {fn : Func} {sfn : SFunc} (h : compFunc P fn = some sfn) : ∃ c sc rs, fn.body = some c ∧ compCode P c = sc ∧ compResults P fn.results.toList = some rs ∧ codeBelow fn.ntmps sc = true ∧ (fn.name == "runtime.NumGoroutine") = false ∧ sfn = ⟨fn.params.size + fn.nfree, rs, sc⟩ := by
  simp only [compFunc, Option.bind_eq_some_iff] at h
  obtain ⟨c, hc, rs, hrs, h⟩ := h
  split at h
  · rename_i hb
    cases h
    exact ⟨c, _, rs, hc, rfl, hrs, hb.1, hb.2, rfl⟩
  · cases h
def oneRes (tmps : Array Value) : ResultVar → Sem Value
  | .tmp t => pure (tmps.getD t undef)
  | .cell a t => do loadVar t (← asAddr (tmps.getD a undef))
theorem results_all {n : Nat} {e : Env} {a : Act} (he : EnvR ρ n e a) (hr : Rel P.globals.size ρ H w) : ∀ {l : List ResultVar} {rs : List SResult} {vs : List SV}, compResults P l = some rs → allResults rs e H = some vs →
    ∃ ws, (l.mapM (oneRes a.tmps)).run P w = .ok ws w ∧ VRs ρ vs ws
  | [], rs, vs, hc, h => by
    simp only [compResults, Option.some.injEq] at hc
    subst hc
    simp only [allResults, Option.some.injEq] at h
    subst h
    exact ⟨[], rfl, VRs_nil ρ⟩
  | .tmp t :: l, rs, vs, hc, h => by
    simp only [compResults, Option.map_eq_some_iff] at hc
    obtain ⟨rs', hc, rfl⟩ := hc
    simp only [allResults, oneResult] at h
    cases h1 : allResults rs' e H with
    | none => rw [h1] at h; cases h
    | some vs' =>
      rw [h1] at h
      cases h
      obtain ⟨ws, h2, h3⟩ := results_all he hr hc h1
      exact ⟨a.tmps.getD t undef :: ws, by simp [List.mapM_cons, oneRes, Sem.run_bind, h2], VRs_cons (he.vals t) h3⟩
  | .cell b t :: l, rs, vs, hc, h => by
    simp only [compResults, Option.bind_eq_some_iff, Option.map_eq_some_iff] at hc
    obtain ⟨y, hy, rs', hc, rfl⟩ := hc
    simp only [allResults] at h
    cases h0 : oneResult (.c b y) e H with
    | none => rw [h0] at h; cases h
    | some v =>
      rw [h0] at h
      simp only at h
      cases h1 : allResults rs' e H with
      | none => rw [h1] at h; cases h
      | some vs' =>
        rw [h1] at h
        cases h
        obtain ⟨ws, h2, h3⟩ := results_all he hr hc h1
        simp only [oneResult] at h0
        have hv := he.vals b
        cases hb : e.at b <;> rw [hb] at h0 hv <;> simp only at h0 <;> (try cases h0)
        rename_i b' q r
        have hx : xLoad y (.ptr b' q r) H = some (v, H) := by simp only [xLoad, h0]; rfl
        obtain ⟨_, u, h4, h5⟩ := load_ok (layOf_ok hy) hr hv hx
        simp only [VR] at hv
        obtain ⟨m, hm, hav⟩ := hv
        rw [hav] at h4
        have h6 : (loadVar t ⟨m.blk, m.d + q * m.esz + r, none⟩).run P w = .ok u w := by
          rw [← h4]
          simp [Instr.loadAt, Instr.sureAddr]
        refine ⟨u :: ws, ?_, VRs_cons h5 h3⟩
        simp [List.mapM_cons, oneRes, Sem.run_bind, h2, hav, asAddr, h6]
theorem results_ok {fn : Func} {n : Nat} {e : Env} {a : Act} (he : EnvR ρ n e a) (hr : Rel P.globals.size ρ H w) {rs : List SResult} {vs : List SV} (hc : compResults P fn.results.toList = some rs) (h : allResults rs e H = some vs) :
    ∃ v, (results fn a.tmps).run P w = .ok v w ∧ VR ρ (tupled vs) v := by
  obtain ⟨ws, h1, h2⟩ := results_all he hr hc h
  have hrun : (results fn a.tmps).run P w = .ok (if h : ws.toArray.size = 1 then ws.toArray[0] else .tuple ws.toArray) w := by
    have : results fn a.tmps = (do let vs ← fn.results.mapM (oneRes a.tmps); pure (if h : vs.size = 1 then vs[0] else .tuple vs)) := by
      unfold results
      rfl
    rw [this, Array.mapM_eq_mapM_toList]
    simp [Sem.run_bind, h1]
  rw [hrun]
  refine ⟨_, rfl, ?_⟩
  have hlen := VRs_length h2
  cases vs with
  | nil =>
    have : ws = [] := by simpa using hlen
    subst this
    simp only [tupled]
    rw [dif_neg (by simp)]
    simp only [VR]
    exact ⟨_, rfl, h2⟩
  | cons v vs =>
    cases vs with
    | nil =>
      obtain ⟨u, rfl, hu⟩ := VRs_one h2
      simpa [tupled] using hu
    | cons v2 vs =>
      simp only [tupled]
      rw [dif_neg (by simp [hlen])]
      simp only [VR]
      exact ⟨_, rfl, h2⟩
theorem ofList_at : ∀ (l : List SV) (i : Nat) (e : Env) (t : Nat), (Env.ofList l i e).at t = if h : i ≤ t ∧ t - i < l.length then l[t - i]'h.2 else e.at t
  | [], i, e, t => by rw [dif_neg (by simp)]; rfl
  | v :: l, i, e, t => by
    have h := ofList_at l (i + 1) (Tr.set e i v) t
    have hput : Env.at (Tr.set e i v) t = if t = i then v else e.at t := Env.at_put e i v t
    show Env.at (Env.ofList l (i + 1) (Tr.set e i v)) t = _
    rw [h, hput]
    by_cases h1 : t = i
    · subst h1
      rw [dif_neg (by omega), if_pos rfl, dif_pos (by simp)]
      simp
    · rw [if_neg h1]
      by_cases h2 : i + 1 ≤ t ∧ t - (i + 1) < l.length
      · rw [dif_pos h2, dif_pos (by simp; omega)]
        have : t - i = (t - (i + 1)) + 1 := by omega
        simp only [this, List.getElem_cons_succ]
      · rw [dif_neg h2, dif_neg (by simp; omega)]
theorem lf_at (t : Nat) : Env.at Tr.lf t = SV.undef := rfl
theorem env_start {args : List SV} {vs : Array Value} (h : VRs ρ args vs.toList) (n : Nat) : EnvR ρ n (Env.ofList args 0 .lf) { tmps := vs ++ Array.replicate (n - vs.size) undef, defers := [] } := by
  refine ⟨by simp; omega, rfl, fun t => ?_⟩
  have hlen : vs.size = args.length := by simpa using VRs_length h
  rw [ofList_at]
  by_cases ht : t < args.length
  · rw [dif_pos ⟨by omega, by simpa using ht⟩]
    obtain ⟨y, hy, hv⟩ := VRs_get h (i := t) (List.getElem?_eq_getElem ht)
    have : (vs ++ Array.replicate (n - vs.size) undef).getD t undef = y := by
      rw [Array.getD_eq_getD_getElem?, Array.getElem?_append_left (by omega)]
      rw [Array.getElem?_toList] at hy
      rw [hy]
      rfl
    simp only [Nat.sub_zero]
    rw [this]
    exact hv
  · rw [dif_neg (by omega), lf_at]
    have : (vs ++ Array.replicate (n - vs.size) undef).getD t undef = undef := by
      rw [Array.getD_eq_getD_getElem?, Array.getElem?_append_right (by omega), Array.getElem?_replicate]
      split <;> rfl
    rw [this]
    exact VR_undef
def LibOk (P : Program) (f : Nat) (p : List SV → SHeap → Res) : Prop := ∀ xs H x H', p xs H = some (x, H') →
  Bodied P f ∧ ∀ ρ w (vs : Array Value), Rel P.globals.size ρ H w → VRs ρ xs vs.toList → Calls P f vs w (RetPost P ρ H w x H')
structure TableOk (P : Program) (F : Table) : Prop where
  mixed : P.follows .mixedOrders = true
  fn : ∀ f sfn, F.fn f = some sfn → ∃ fn, P.funcs[f]? = some fn ∧ compFunc P fn = some sfn
  lib : ∀ f p, F.lib f = some p → LibOk P f p
/- what the reduced machine's call comes to, the model's comes to -/
theorem calls_ok {F : Table} (hF : TableOk P F) : ∀ n, CallsOk P (runCall F n)
  | 0 => fun f xs H x H' h => by cases h
  | n + 1 => fun f xs H x H' h => by
    have ih := calls_ok hF n
    simp only [runCall] at h
    cases hl : F.lib f with
    | some p => rw [hl] at h; exact hF.lib f p hl xs H x H' h
    | none =>
      rw [hl] at h
      simp only at h
      cases hf : F.fn f with
      | none => rw [hf] at h; cases h
      | some sfn =>
        rw [hf] at h
        simp only at h
        obtain ⟨fn, hfn, hcf⟩ := hF.fn f sfn hf
        obtain ⟨c, sc, rs, hbody, hcc, hcr, hbelow, hname, rfl⟩ := compFunc_spec hcf
        refine ⟨⟨fn, hfn, hname, by rw [hbody]; rfl⟩, ?_⟩
        intro ρ w vs hr hvs
        unfold runBody at h
        cases hq : Nat.beq xs.length (fn.params.size + fn.nfree) with
        | false => rw [hq] at h; cases h
        | true =>
          rw [hq] at h
          simp only [cond_true] at h
          cases hrun : runCode (runCall F n) n sc (Env.ofList xs 0 .lf) H with
          | none => rw [hrun] at h; cases h
          | some r =>
            obtain ⟨x1, e1, H1⟩ := r
            rw [hrun] at h
            refine calls_of_wp hfn hbody (code_ok ih hF.mixed n c sc hcc hbelow _ _ _ _ _ (env_start hvs fn.ntmps) hr _ _ _ hrun _ ?_)
            intro ρ' w' a' hr' hl' he'
            cases x1 with
            | exit i => simp only [giveBack] at h; cases h
            | normal =>
              simp only [giveBack] at h
              cases hv : allResults rs e1 H1 with
              | none => rw [hv] at h; cases h
              | some us =>
                rw [hv] at h
                cases h
                obtain ⟨v, h1, h2⟩ := results_ok he' hr' hcr hv
                exact ⟨he'.defers, v, h1, v, ρ', rfl, h2, hr', hl'⟩
            | ret =>
              simp only [giveBack] at h
              cases hv : allResults rs e1 H1 with
              | none => rw [hv] at h; cases h
              | some us =>
                rw [hv] at h
                cases h
                obtain ⟨v, h1, h2⟩ := results_ok he' hr' hcr hv
                exact ⟨he'.defers, v, h1, v, ρ', rfl, h2, hr', hl'⟩
end Go.Sim
