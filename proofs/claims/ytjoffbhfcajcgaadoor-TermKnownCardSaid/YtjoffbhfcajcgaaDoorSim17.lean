/- One operation in its frame; a region in text order. -/
import Derived.Test.YtjoffbhfcajcgaaDoorSim16
import Derived.Orders
set_option linter.unusedVariables false
set_option linter.unusedSimpArgs false
namespace Go.Sim
open Go.RowKit
variable {P : Program} {G : Nat} {ρ ρ' : Ren} {H H' : SHeap} {w w' : World}
structure EnvR (ρ : Ren) (n : Nat) (e : Env) (a : Act) : Prop where
  size : n ≤ a.tmps.size
  defers : a.defers = []
  vals : ∀ i, VR ρ (e.at i) (a.tmps.getD i undef)
theorem EnvR.mono {n : Nat} {e : Env} {a : Act} (h : EnvR ρ n e a) (hle : ρ.le ρ') : EnvR ρ' n e a :=
  ⟨h.size, h.defers, fun i => VR_mono hle _ (h.vals i)⟩
theorem VR_undef : VR ρ SV.undef undef := by simp only [SV.undef, VR]; exact ⟨#[], rfl, VRs_nil ρ⟩
theorem Env.at_put (e : Env) (d : Nat) (v : SV) (i : Nat) : (e.put (some d) v).at i = if i = d then v else e.at i := by
  simp only [Env.put, Env.at, Tr.get_set]
  by_cases h : i = d <;> simp [h]
theorem Act.put_defers (a : Act) (d : Option Tmp) (v : Value) : (a.put d v).defers = a.defers := by cases d <;> rfl
theorem EnvR.put {n : Nat} {e : Env} {a : Act} (h : EnvR ρ n e a) {d : Option Nat} (hd : ∀ i, d = some i → i < n) {x : SV} {v : Value} (hx : VR ρ x v) : EnvR ρ n (e.put d x) (a.put d v) := by
  cases d with
  | none => exact h
  | some d =>
    refine ⟨by simpa [Act.put] using h.size, h.defers, fun i => ?_⟩
    have hlt : d < a.tmps.size := Nat.lt_of_lt_of_le (hd d rfl) h.size
    rw [Env.at_put]
    by_cases hi : i = d
    · subst hi
      simp only [if_pos rfl, Act.put]
      rw [Array.getD_eq_getD_getElem?, Array.getElem?_setIfInBounds_self_of_lt hlt]
      exact hx
    · rw [if_neg hi]
      have := h.vals i
      simp only [Act.put]
      rw [Array.getD_eq_getD_getElem?, Array.getElem?_setIfInBounds_ne (fun h => hi h.symm), ← Array.getD_eq_getD_getElem?]
      exact this
theorem EnvR.ev {n : Nat} {e : Env} {a : Act} (hr : Rel P.globals.size ρ H w) (h : EnvR ρ n e a) : EvOk P ρ e.ev a.eval := by
  intro x s hs
  cases x with
  | tmp t => simp only [toOpd, Option.some.injEq] at hs; subst hs; exact h.vals t
  | const v =>
    simp only [toOpd, Option.map_eq_some_iff] at hs
    obtain ⟨y, hy, rfl⟩ := hs
    exact toSV_ok hy
  | global g =>
    simp only [toOpd] at hs
    split at hs
    · rename_i hg
      cases hs
      obtain ⟨m, hm, hb, hd⟩ := hr.glob g hg
      show VR ρ (.ptr g 0 0) (.pointer (some ⟨g, 0, none⟩))
      simp only [VR]
      exact ⟨m, hm, by rw [hb, hd]; simp⟩
    · cases hs
  | func f =>
    simp only [toOpd, Option.some.injEq] at hs
    subst hs
    show VR ρ (.fn f [] []) (.func (.func f) #[] #[])
    simp only [VR]
    exact ⟨#[], #[], rfl, VRs_nil ρ, VRs_nil ρ⟩
def RetPost (P : Program) (ρ : Ren) (H : SHeap) (w : World) (x : SV) (H' : SHeap) : Ending → World → Prop :=
  fun e w' => ∃ v ρ', e = .returned v ∧ VR ρ' x v ∧ Rel P.globals.size ρ' H' w' ∧ Later ρ H w ρ' H' w'
def CallsOk (P : Program) (call : Caller) : Prop := ∀ f xs H x H', call f xs H = some (x, H') →
  Bodied P f ∧ ∀ ρ w (vs : Array Value), Rel P.globals.size ρ H w → VRs ρ xs vs.toList → Calls P f vs w (RetPost P ρ H w x H')
theorem wanted_ok {n : Nat} {e : Env} {a : Act} (he : EnvR ρ n e a) {ops : Array Oper} {o : Oper} {so : SOper} (hso : compOper P ops o = some so) : Region.wanted o (yielded ops a.tmps) = so.wanted e := by
  simp only [compOper] at hso
  unfold Region.wanted SOper.wanted
  split at hso
  · rename_i hg
    cases hso
    rw [hg]
  · rename_i j want hg
    simp only [Option.map_eq_some_iff] at hso
    obtain ⟨t, ht, rfl⟩ := hso
    rw [hg]
    simp only [yielded, ht, Option.bind_some, wantedAt]
    have hv := he.vals t
    rw [Array.getD_eq_getD_getElem?] at hv
    cases hx : e.at t with
    | bool b =>
      rw [hx] at hv
      have hv' := VR_bool.1 hv
      cases hq : a.tmps[t]? with
      | none => rw [hq] at hv'; simp [undef] at hv'
      | some y => rw [hq] at hv'; simp only [Option.getD_some] at hv'; subst hv'; simp only; cases b <;> cases want <;> rfl
    | _ =>
      rw [hx] at hv
      cases hq : a.tmps[t]? with
      | none => simp
      | some y =>
        rw [hq] at hv
        simp only [Option.getD_some] at hv
        cases y with
        | bool b => simp only [VR] at hv; first | (exact absurd hv (by simp)) | (obtain ⟨_, h, _⟩ := hv; exact absurd h (by simp)) | (obtain ⟨_, _, h, _⟩ := hv; exact absurd h (by simp)) | (obtain ⟨_, _, _, _, h, _⟩ := hv; exact absurd h (by simp)) | (obtain ⟨_, _, h⟩ := hv; exact absurd h (by simp))
        | _ => simp
theorem wpOp_ok {call : Caller} (hcall : CallsOk P call) {n : Nat} {ops : Array Oper} {i : Nat} {o : Oper} (ho : ops[i]? = some o) {so : SOper} (hso : compOper P ops o = some so) (hdst : ∀ d, so.dst = some d → d < n) {e : Env} {a : Act} (he : EnvR ρ n e a) (hr : Rel P.globals.size ρ H w) {x : SV} (hs : sStep call so e H = some (x, H')) {K : Act → World → Prop} {Q : Exit → Act → World → Prop}
    (hk : ∀ ρ' w' v, Rel P.globals.size ρ' H' w' → Later ρ H w ρ' H' w' → VR ρ' x v → K (a.put so.dst v) w') : wpOp P ops Q i K a w := by
  unfold wpOp
  rw [ho]
  simp only
  rw [wanted_ok he hso]
  have hboth : so.dst = o.dst ∧ so.op = (compOp P o.op).getD .stop := by
    simp only [compOper] at hso
    split at hso
    · cases hso; exact ⟨rfl, rfl⟩
    · simp only [Option.map_eq_some_iff] at hso; obtain ⟨t, ht, rfl⟩ := hso; exact ⟨rfl, rfl⟩
  obtain ⟨hd, hop⟩ := hboth
  rw [hd] at hk
  unfold sStep at hs
  cases hw : so.wanted e with
  | false =>
    rw [hw] at hs
    simp only [cond_false, Option.some.injEq, Prod.mk.injEq] at hs
    obtain ⟨rfl, rfl⟩ := hs
    exact hk ρ w undef hr (Later.refl ρ _ w) VR_undef
  | true =>
    rw [hw] at hs
    simp only [cond_true] at hs
    simp only [if_true]
    have hop : compOp P o.op = some so.op := by
      cases hq : compOp P o.op with
      | none => rw [hq] at hop; rw [hop] at hs; cases hs
      | some q => rw [hq] at hop; rw [hop]; rfl
    refine .inl ?_
    unfold Oper.wp
    rcases exec_ok (he.ev hr) (fun _ => rfl) hr (fun f xs H r h => (hcall f xs H r.1 r.2 h).1) o hop hs with ⟨ρ', w', h1, h2, ⟨v, h3, h4⟩ | ⟨h3, rfl⟩⟩ | ⟨f, xs, vs, h1, h2, h3⟩
    · rw [h3]; exact hk ρ' w' v h1 h2 h4
    · rw [h3]; exact hk ρ' w' undef h1 h2 VR_undef
    · rw [h2]
      refine Calls.mono ((hcall _ _ _ _ _ h1).2 ρ w vs hr h3) ?_
      rintro e' w' ⟨v, ρ', rfl, h4, h5, h6⟩
      exact hk ρ' w' v h5 h6 h4
/- a region in text order -/
theorem compOpers_get {ops : Array Oper} : ∀ {os : List Oper} {sos : List SOper}, compOpers P ops os = some sos → sos.length = os.length ∧ ∀ (i : Nat) (o : Oper), os[i]? = some o → ∃ so, sos[i]? = some so ∧ compOper P ops o = some so
  | [], sos, h => by simp [compOpers] at h; subst h; exact ⟨rfl, fun i o h => by simp at h⟩
  | o :: os, sos, h => by
    simp only [compOpers, Option.bind_eq_some_iff, Option.map_eq_some_iff] at h
    obtain ⟨x, hx, xs, hxs, rfl⟩ := h
    obtain ⟨h1, h2⟩ := compOpers_get hxs
    refine ⟨by simp [h1], fun i o' hi => ?_⟩
    cases i with
    | zero => simp at hi; subst hi; exact ⟨x, by simp, hx⟩
    | succ i => simp at hi; obtain ⟨so, h3, h4⟩ := h2 i o' hi; exact ⟨so, by simpa using h3, h4⟩
theorem dstsBelow_get {n : Nat} {os : List SOper} (h : dstsBelow n os = true) {i : Nat} {o : SOper} (ho : os[i]? = some o) : ∀ d, o.dst = some d → d < n := by
  intro d hd
  have := List.all_eq_true.1 h o (List.mem_of_getElem? ho)
  rw [hd] at this
  exact Nat.le_of_ble_eq_true this
theorem wpOps_text {call : Caller} (hcall : CallsOk P call) {n : Nat} {ops : Array Oper} {sos : List SOper} (hc : compOpers P ops ops.toList = some sos) (hb : dstsBelow n sos = true) {Q : Exit → Act → World → Prop} :
    ∀ (m i : Nat), i + m = ops.size → ∀ {ρ : Ren} {H : SHeap} {w : World} {e : Env} {a : Act}, EnvR ρ n e a → Rel P.globals.size ρ H w → ∀ {e' : Env} {H' : SHeap}, runOps call (sos.drop i) e H = some (e', H') →
    (∀ ρ' w' a', Rel P.globals.size ρ' H' w' → Later ρ H w ρ' H' w' → EnvR ρ' n e' a' → Q .normal a' w') → wpOps P ops Q (List.range' i m) a w
  | 0, i, him, ρ, H, w, e, a, he, hr, e', H', h, hk => by
    obtain ⟨hl, _⟩ := compOpers_get hc
    have hd : sos.drop i = [] := List.drop_eq_nil_of_le (by rw [hl]; simp; omega)
    rw [hd] at h
    simp only [runOps, Option.some.injEq, Prod.mk.injEq] at h
    obtain ⟨rfl, rfl⟩ := h
    exact hk ρ w a hr (Later.refl ρ H w) he
  | m + 1, i, him, ρ, H, w, e, a, he, hr, e', H', h, hk => by
    obtain ⟨hl, hg⟩ := compOpers_get hc
    have hi : i < ops.size := by omega
    obtain ⟨so, hso, hco⟩ := hg i ops[i] (by simp [hi])
    have hlt : i < sos.length := by rw [hl]; simpa using hi
    have hdrop : sos.drop i = so :: sos.drop (i + 1) := by
      rw [List.drop_eq_getElem_cons hlt]
      congr 1
      rw [List.getElem?_eq_getElem hlt] at hso
      exact Option.some.inj hso
    rw [hdrop] at h
    simp only [runOps] at h
    split at h
    · rename_i v H1 hst
      rw [List.range'_succ, wpOps_cons]
      refine wpOp_ok hcall (by simp [hi]) hco (dstsBelow_get hb hso) he hr hst ?_
      intro ρ1 w1 v1 hr1 hl1 hv1
      refine wpOps_text hcall hc hb m (i + 1) (by omega) (EnvR.put (he.mono hl1.le) (dstsBelow_get hb hso) hv1) hr1 h ?_
      exact fun ρ' w' a' h1 h2 h3 => hk ρ' w' a' h1 (hl1.trans h2) h3
    · cases h
end Go.Sim
