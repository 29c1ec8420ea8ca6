/- Each operation of the reduced machine, as it was made out of the model's, does what that one does. -/
import Derived.Test.YtjoffbhfcajcgaaDoorSim13
set_option linter.unusedVariables false
set_option linter.unusedSimpArgs false
namespace Go.Sim
open Go.RowKit
variable {P : Program} {G : Nat} {ρ : Ren} {H : SHeap} {w w' : World}

def OpDoes (P : Program) (G : Nat) (ρ : Ren) (H : SHeap) (w : World) (s : Sem Next) (x : SV) (H' : SHeap) : Prop :=
  ∃ ρ' w', Rel G ρ' H' w' ∧ Later ρ H w ρ' H' w' ∧ ((∃ v, s.run P w = .ok (.value v) w' ∧ VR ρ' x v) ∨ (s.run P w = .ok .skip w' ∧ x = SV.undef))
theorem Does.op {s : Sem Value} {x : SV} {H' : SHeap} (h : Does P G ρ H w s x H') : OpDoes P G ρ H w (do pure (Next.value (← s))) x H' :=
  let ⟨v, ρ', w', h1, h2, h3, h4⟩ := h
  ⟨ρ', w', h3, h4, .inl ⟨v, by simp [Sem.run_bind, h1], h2⟩⟩
theorem Gives.op {s : Sem Value} {x : SV} {H' : SHeap} (hr : Rel G ρ H w) (h : H' = H ∧ Gives P ρ w s x) : OpDoes P G ρ H w (do pure (Next.value (← s))) x H' := by
  obtain ⟨rfl, h⟩ := h
  exact (Gives.does hr h).op
theorem DoesU.op {s : Sem Unit} {H' : SHeap} (h : DoesU P G ρ H w s H') : OpDoes P G ρ H w (do s; pure Next.skip) SV.undef H' :=
  let ⟨ρ', w', h1, h3, h4⟩ := h
  ⟨ρ', w', h3, h4, .inr ⟨by simp [Sem.run_bind, h1], rfl⟩⟩
theorem OpDoes.same {x : SV} {v : Value} (hr : Rel G ρ H w) (hv : VR ρ x v) : OpDoes P G ρ H w (pure (Next.value v)) x H :=
  ⟨ρ, w, hr, Later.refl ρ H w, .inl ⟨v, rfl, hv⟩⟩

/- operands -/
def EvOk (P : Program) (ρ : Ren) (ev : Ev) (mev : Operand → Value) : Prop := ∀ x s, toOpd P x = some s → VR ρ (ev s) (mev x)
theorem toOpds_ok {ev : Ev} {mev : Operand → Value} (hev : EvOk P ρ ev mev) : ∀ {xs : List Operand} {ys : List SOpd}, toOpds P xs = some ys → VRs ρ (evAll ev ys) (xs.map mev)
  | [], ys, h => by simp [toOpds] at h; subst h; exact VRs_nil ρ
  | x :: xs, ys, h => by
    simp only [toOpds] at h
    cases h1 : toOpd P x with
    | none => rw [h1] at h; cases h
    | some y =>
      cases h2 : toOpds P xs with
      | none => rw [h1, h2] at h; cases h
      | some zs => rw [h1, h2] at h; cases h; exact VRs_cons (hev _ _ h1) (toOpds_ok hev h2)
theorem toOpt_ok {ev : Ev} {mev : Operand → Value} (hev : EvOk P ρ ev mev) {x : Option Operand} {y : Option SOpd} (h : toOpt P x = some y) : VRo ρ (y.map ev) (x.map mev) := by
  cases x with
  | none => simp [toOpt] at h; subst h; trivial
  | some x =>
    simp only [toOpt, Option.map_eq_some_iff] at h
    obtain ⟨s, h1, rfl⟩ := h
    exact hev _ _ h1
theorem toOpt_some {x : Option Operand} {y : Option SOpd} (h : toOpt P x = some y) : y.isSome = x.isSome := by
  cases x with
  | none => simp [toOpt] at h; subst h; rfl
  | some x => simp only [toOpt, Option.map_eq_some_iff] at h; obtain ⟨s, h1, rfl⟩ := h; rfl

def SOp.isCall : SOp → Bool
  | .call _ _ => true
  | .callv _ _ => true
  | _ => false

theorem only_inv {v : Option SV} {x : SV} {H' : SHeap} (h : only H v = some (x, H')) : v = some x ∧ H' = H := by
  simp only [only, Option.map_eq_some_iff, Prod.mk.injEq] at h
  obtain ⟨a, h1, rfl, rfl⟩ := h
  exact ⟨h1, rfl⟩
theorem none2_inv {v : Option SHeap} {x : SV} {H' : SHeap} (h : none2 v = some (x, H')) : v = some H' ∧ x = SV.undef := by
  simp only [none2, Option.map_eq_some_iff, Prod.mk.injEq] at h
  obtain ⟨a, h1, rfl, rfl⟩ := h
  exact ⟨h1, rfl⟩

/- the built-in functions -/
theorem VRs_one {x : SV} {vs : List Value} (h : VRs ρ [x] vs) : ∃ v, vs = [v] ∧ VR ρ x v := by
  simp only [VRs] at h
  obtain ⟨y, ys, rfl, h1, rfl⟩ := h
  exact ⟨y, rfl, h1⟩
theorem VRs_two {x y : SV} {vs : List Value} (h : VRs ρ [x, y] vs) : ∃ v u, vs = [v, u] ∧ VR ρ x v ∧ VR ρ y u := by
  simp only [VRs] at h
  obtain ⟨a, as, rfl, h1, b, bs, rfl, h2, rfl⟩ := h
  exact ⟨a, b, rfl, h1, h2⟩
theorem arr_of_list {α : Type} {a : Array α} {l : List α} (h : a.toList = l) : a = l.toArray := by rw [← h]

theorem len_ok (hr : Rel G ρ H w) {ev : Ev} {ys : List SOpd} {ts : List TypeId} {vs : List Value} (hvs : VRs ρ (evAll ev ys) vs) {sop : SOp} (hc : compLen P ys ts = some sop) {call : Caller} {x : SV} {H' : SHeap} (h : sExec call sop ev H = some (x, H')) (ty : TypeId) :
    H' = H ∧ Gives P ρ w (Builtin.len_ ts.toArray ty vs.toArray) x := by
  unfold compLen at hc
  split at hc
  · rename_i y t
    obtain ⟨v, rfl, hv⟩ := VRs_one hvs
    split at hc <;> (try cases hc)
    · rename_i hu; exact lenS_ok hu hv h
    · rename_i hu; exact lenL_ok hu hv h
    · rename_i hu
      simp only [sExec, Option.some.injEq, Prod.mk.injEq] at h
      obtain ⟨rfl, rfl⟩ := h
      exact ⟨rfl, lenA_ok hu v⟩
    · rename_i hu; exact lenM_ok hu hr hv h
  · cases hc
theorem append_comp_ok (hr : Rel G ρ H w) {ev : Ev} {ys : List SOpd} {ts : List TypeId} {vs : List Value} (hvs : VRs ρ (evAll ev ys) vs) {sop : SOp} (hc : compAppend P ys ts = some sop) {call : Caller} {x : SV} {H' : SHeap} (h : sExec call sop ev H = some (x, H')) (ty : TypeId) :
    Does P G ρ H w (Builtin.append_ ts.toArray ty vs.toArray) x H' := by
  unfold compAppend at hc
  split at hc
  · rename_i s y t u
    obtain ⟨v, v2, rfl, hv, hv2⟩ := VRs_two hvs
    split at hc
    · rename_i e hu
      split at hc
      · rename_i i hi
        split at hc
        · rename_i e2 hu2
          split at hc
          · rename_i hrow
            cases hc
            exact append_ok (rowsOk_ok hu hi hrow) ⟨_, hu2, fun k => by simp⟩ hr hv hv2 h
          · cases hc
        · rename_i hu2
          split at hc
          · rename_i hrow
            cases hc
            exact append_ok (rowsOk_ok hu hi hrow) ⟨_, hu2, fun k => by simp⟩ hr hv hv2 h
          · cases hc
        · cases hc
      · cases hc
    · cases hc
  · cases hc
theorem copy_comp_ok (hr : Rel G ρ H w) {ev : Ev} {ys : List SOpd} {ts : List TypeId} {vs : List Value} (hvs : VRs ρ (evAll ev ys) vs) {sop : SOp} (hc : compCopy P ys ts = some sop) {call : Caller} {x : SV} {H' : SHeap} (h : sExec call sop ev H = some (x, H')) (ty : TypeId) :
    Does P G ρ H w (Builtin.copy_ ts.toArray ty vs.toArray) x H' := by
  unfold compCopy at hc
  split at hc
  · rename_i s y t u
    obtain ⟨v, v2, rfl, hv, hv2⟩ := VRs_two hvs
    split at hc
    · rename_i e hu
      split at hc
      · rename_i i hi
        split at hc
        · rename_i h0
          cases hc
          exact copy_ok hu hi h0 hr hv hv2 h
        · cases hc
      · cases hc
    · cases hc
  · cases hc
theorem delete_comp_ok (hr : Rel G ρ H w) {ev : Ev} {ys : List SOpd} {ts : List TypeId} {vs : List Value} (hvs : VRs ρ (evAll ev ys) vs) {sop : SOp} (hc : compDelete P ys ts = some sop) {call : Caller} {x : SV} {H' : SHeap} (h : sExec call sop ev H = some (x, H')) (ty : TypeId) :
    Does P G ρ H w (Builtin.delete_ ts.toArray ty vs.toArray) x H' := by
  unfold compDelete at hc
  split at hc
  · rename_i s y t u
    obtain ⟨v, v2, rfl, hv, hv2⟩ := VRs_two hvs
    split at hc
    · rename_i kt et hu
      simp only [Option.map_eq_some_iff] at hc
      obtain ⟨kk, hk, rfl⟩ := hc
      exact delete_ok hu (keyT_ok hk) hr hv hv2 h
    · cases hc
  · cases hc

theorem builtin_ok {ev : Ev} {mev : Operand → Value} (hr : Rel G ρ H w) {b : Builtin} {ys : List SOpd} {args : Array Operand} {ts : Array TypeId} (hvs : VRs ρ (evAll ev ys) (args.toList.map mev)) {sop : SOp} (hc : compBuiltin P b ys ts.toList = some sop) {call : Caller} {x : SV} {H' : SHeap}
    (h : sExec call sop ev H = some (x, H')) (ty : TypeId) : OpDoes P G ρ H w (do let d ← resolve mev ⟨.builtin b, args, ts⟩ ty; invoke d.target d.args) x H' := by
  have hrun : (do let d ← resolve mev ⟨.builtin b, args, ts⟩ ty; invoke d.target d.args : Sem Next) = builtin b ts ty (args.map fun | .const _ => true | _ => false) (args.map mev) := rfl
  rw [hrun]
  have ha : args.map mev = (args.toList.map mev).toArray := arr_of_list (by simp)
  rw [ha]
  generalize (args.toList.map mev) = vs at hvs
  cases b <;> simp only [compBuiltin] at hc <;> first
    | (cases hc; done)
    | exact Gives.op hr (len_ok hr hvs hc h ty)
    | exact (append_comp_ok hr hvs hc h ty).op
    | exact (copy_comp_ok hr hvs hc h ty).op
    | exact (delete_comp_ok hr hvs hc h ty).op
    | skip
  · -- max
    cases hc
    simp only [sExec, xMax] at h
    cases hy : evAll ev ys with
    | nil => rw [hy] at h; cases h
    | cons a r =>
      rw [hy] at h hvs
      simp only at h
      cases a <;> simp only at h <;> (try cases h)
      obtain ⟨h9, rfl⟩ := only_inv h
      simp only [VRs] at hvs
      obtain ⟨y, zs, rfl, h1, h2⟩ := hvs
      obtain ⟨v, hv, hrv⟩ := max_ok (P := P) (w := w) (ts := ts) (u := ty) h2 h9
      rw [VR_int.1 h1]
      exact Gives.op hr ⟨rfl, .of hv hrv⟩
  · -- min
    cases hc
    simp only [sExec, xMin] at h
    cases hy : evAll ev ys with
    | nil => rw [hy] at h; cases h
    | cons a r =>
      rw [hy] at h hvs
      simp only at h
      cases a <;> simp only at h <;> (try cases h)
      obtain ⟨h9, rfl⟩ := only_inv h
      simp only [VRs] at hvs
      obtain ⟨y, zs, rfl, h1, h2⟩ := hvs
      obtain ⟨v, hv, hrv⟩ := min_ok (P := P) (w := w) (ts := ts) (u := ty) h2 h9
      rw [VR_int.1 h1]
      exact Gives.op hr ⟨rfl, .of hv hrv⟩

end Go.Sim
