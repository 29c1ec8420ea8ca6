/- The reduced machine in direct style: what stands behind an operation is a function; and the machine of all runs, without a bound. -/
import Derived.Test.YtjoffbhfcajcgaaDoorFast
set_option linter.unusedVariables false
set_option linter.unusedSimpArgs false
namespace Go.Sim
noncomputable section

def bnd (r : Res) (k : SV → SHeap → Res) : Res :=
  Option.rec (motive := fun _ => Res) none (fun p => Prod.rec (motive := fun _ => Res) k p) r
theorem bnd_some (v : SV) (H : SHeap) (k : SV → SHeap → Res) : bnd (some (v, H)) k = k v H := rfl
theorem bnd_none (k : SV → SHeap → Res) : bnd none k = none := rfl
theorem bnd_inv {r : Res} {k : SV → SHeap → Res} {x : SV × SHeap} (h : bnd r k = some x) : ∃ v H, r = some (v, H) ∧ k v H = some x := by
  cases r with
  | none => cases h
  | some p => exact ⟨p.1, p.2, rfl, h⟩

def runOpsK (call : Caller) : List SOper → Env → SHeap → (Env → SHeap → Res) → Res
  | [], e, H, k => k e H
  | o :: os, e, H, k => bnd (sStep call o e H) fun v H' => runOpsK call os (e.put o.dst v) H' k

def iterK (body : (Env → SHeap → Res) → Env → SHeap → Res) : Nat → Env → SHeap → Res
  | 0, _, _ => none
  | n + 1, e, H => body (iterK body n) e H

def condK (c : SV) (a b : Res) : Res := asBool c fun t => ifR t a b
def drawK (r : Option (Env × SHeap)) (k : Env → SHeap → Res) : Res :=
  match r with
  | some (e, H) => k e H
  | none => none

def runK (call : Caller) (n : Nat) : SCode → Env → SHeap → (Env → SHeap → Res) → (Nat → Env → SHeap → Res) → (Env → SHeap → Res) → Res
  | .skip, e, H, kn, kx, kr => kn e H
  | .reg ops, e, H, kn, kx, kr => runOpsK call ops e H kn
  | .draw ops looks, e, H, kn, kx, kr => drawK (runDraw call ops looks e H) kn
  | .seq a b, e, H, kn, kx, kr => runK call n a e H (fun e H => runK call n b e H kn kx kr) kx kr
  | .cond x a b, e, H, kn, kx, kr => condK (e.ev x) (runK call n a e H kn kx kr) (runK call n b e H kn kx kr)
  | .block id b, e, H, kn, kx, kr => runK call n b e H kn (fun i e H => if i = id then kn e H else kx i e H) kr
  | .loop b, e, H, kn, kx, kr => iterK (fun k e H => runK call n b e H k kx kr) n e H
  | .exit id, e, H, kn, kx, kr => kx id e H
  | .ret, e, H, kn, kx, kr => kr e H

def oneK (r : SResult) (e : Env) (H : SHeap) : Res :=
  match r with
  | .t i => some (e.at i, H)
  | .c i y => xLoad y (e.at i) H
def resGo : List SResult → Env → SHeap → List SV → Res
  | [], e, H, acc => some (tupled acc, H)
  | r :: rs, e, H, acc => bnd (oneK r e H) fun v H' => resGo rs e H' (acc ++ [v])
def resK (rs : List SResult) (e : Env) (H : SHeap) : Res := resGo rs e H []

def runBodyK (call : Caller) (n : Nat) (fn : SFunc) (args : List SV) (H : SHeap) : Res :=
  bif Nat.beq args.length fn.np then runK call n fn.body (Env.ofList args 0 .lf) H (resK fn.results) (fun _ _ _ => none) (resK fn.results) else none

/- ---------- more is not less ---------- -/
def CLe (c d : Caller) : Prop := ∀ f xs H r, c f xs H = some r → d f xs H = some r
variable {c d : Caller}
theorem sExec_mono (h : CLe c d) {op : SOp} {ev : Ev} {H : SHeap} {r : SV × SHeap} (e : sExec c op ev H = some r) : sExec d op ev H = some r := by
  cases op
  case call f xs => exact h _ _ _ _ e
  case callv x xs =>
    simp only [sExec] at e ⊢
    cases hx : ev x <;> rw [hx] at e <;> first | (exact h _ _ _ _ e) | (cases e; done)
  all_goals exact e
theorem sStep_mono (h : CLe c d) {o : SOper} {v : Env} {H : SHeap} {r : SV × SHeap} (e : sStep c o v H = some r) : sStep d o v H = some r := by
  unfold sStep at e ⊢
  cases hw : o.wanted v <;> rw [hw] at e <;> simp only [cond_true, cond_false] at e ⊢
  · exact e
  · exact sExec_mono h e
theorem runOps_mono (h : CLe c d) : ∀ (ops : List SOper) {v : Env} {H : SHeap} {r : Env × SHeap}, runOps c ops v H = some r → runOps d ops v H = some r
  | [], v, H, r, e => e
  | o :: os, v, H, r, e => by
    unfold runOps at e ⊢
    cases hs : sStep c o v H with
    | none => rw [hs] at e; cases e
    | some p =>
      rw [hs] at e
      rw [sStep_mono h hs]
      exact runOps_mono h os e
theorem traceOps_mono (h : CLe c d) : ∀ (ops : List SOper) {v : Env} {H : SHeap} {r : List (Env × SHeap × SV) × Env × SHeap}, traceOps c ops v H = some r → traceOps d ops v H = some r
  | [], v, H, r, e => e
  | o :: os, v, H, r, e => by
    unfold traceOps at e ⊢
    cases hs : sStep c o v H with
    | none => rw [hs] at e; cases e
    | some p =>
      rw [hs] at e
      rw [sStep_mono h hs]
      simp only at e ⊢
      cases ht : traceOps c os (v.put o.dst p.1) p.2 with
      | none => rw [ht] at e; cases e
      | some q =>
        rw [ht] at e
        rw [traceOps_mono h os ht]
        exact e
theorem runDraw_mono (h : CLe c d) {ops : List SOper} {looks : List (Nat × List Nat)} {v : Env} {H : SHeap} {r : Env × SHeap} (e : runDraw c ops looks v H = some r) : runDraw d ops looks v H = some r := by
  cases looks with
  | nil => exact runOps_mono h ops e
  | cons p ps =>
    unfold runDraw at e ⊢
    simp only at e ⊢
    cases ht : traceOps c ops v H with
    | none => rw [ht] at e; cases e
    | some q => rw [ht] at e; rw [traceOps_mono h ops ht]; exact e
theorem outSeq_inv {r : Out} {k : Env → SHeap → Out} {x : SExit × Env × SHeap} (h : outSeq r k = some x) : ∃ y e H, r = some (y, e, H) ∧ ((y = .normal ∧ k e H = some x) ∨ (y ≠ .normal ∧ x = (y, e, H))) := by
  cases r with
  | none => cases h
  | some p =>
    obtain ⟨y, e, H⟩ := p
    cases y with
    | normal => exact ⟨_, _, _, rfl, .inl ⟨rfl, h⟩⟩
    | exit i => exact ⟨_, _, _, rfl, .inr ⟨(by intro h; cases h), (Option.some.inj h).symm⟩⟩
    | ret => exact ⟨_, _, _, rfl, .inr ⟨(by intro h; cases h), (Option.some.inj h).symm⟩⟩
theorem outSeq_normal {k : Env → SHeap → Out} {e : Env} {H : SHeap} : outSeq (some (.normal, e, H)) k = k e H := rfl
theorem outSeq_other {k : Env → SHeap → Out} {y : SExit} {e : Env} {H : SHeap} (h : y ≠ .normal) : outSeq (some (y, e, H)) k = some (y, e, H) := by
  cases y
  · exact absurd rfl h
  · rfl
  · rfl
theorem runCode_mono (h : CLe c d) : ∀ (n m : Nat) (k : SCode) {e : Env} {H : SHeap} {r : SExit × Env × SHeap}, n ≤ m → runCode c n k e H = some r → runCode d m k e H = some r
  | 0, m, k, e, H, r, hm, hr => by cases hr
  | n + 1, 0, k, e, H, r, hm, hr => by omega
  | n + 1, m + 1, k, e, H, r, hm, hr => by
    have ih := fun k e H r => @runCode_mono h n m k e H r (by omega)
    cases k with
    | skip => exact hr
    | exit i => exact hr
    | ret => exact hr
    | reg ops =>
      simp only [runCode] at hr ⊢
      cases ho : runOps c ops e H with
      | none => rw [ho] at hr; cases hr
      | some p => rw [ho] at hr; rw [runOps_mono h ops ho]; exact hr
    | draw ops looks =>
      simp only [runCode] at hr ⊢
      cases ho : runDraw c ops looks e H with
      | none => rw [ho] at hr; cases hr
      | some p => rw [ho] at hr; rw [runDraw_mono h ho]; exact hr
    | seq a b =>
      simp only [runCode] at hr ⊢
      obtain ⟨y, e', H', h1, h2⟩ := outSeq_inv hr
      rw [ih _ _ _ _ h1]
      rcases h2 with ⟨rfl, h2⟩ | ⟨hy, rfl⟩
      · rw [outSeq_normal]; exact ih _ _ _ _ h2
      · exact outSeq_other hy
    | cond x a b =>
      simp only [runCode] at hr ⊢
      cases hx : e.ev x <;> rw [hx] at hr <;> first | (cases hr; done) | skip
      rename_i t
      cases t
      · exact ih _ _ _ _ hr
      · exact ih _ _ _ _ hr
    | block id b =>
      simp only [runCode] at hr ⊢
      cases ho : runCode c n b e H with
      | none => rw [ho] at hr; cases hr
      | some p => rw [ho] at hr; rw [ih _ _ _ _ ho]; exact hr
    | loop b =>
      simp only [runCode] at hr ⊢
      obtain ⟨y, e', H', h1, h2⟩ := outSeq_inv hr
      rw [ih _ _ _ _ h1]
      rcases h2 with ⟨rfl, h2⟩ | ⟨hy, rfl⟩
      · rw [outSeq_normal]; exact ih _ _ _ _ h2
      · exact outSeq_other hy
theorem runBody_mono (h : CLe c d) {n m : Nat} (hm : n ≤ m) {fn : SFunc} {xs : List SV} {H : SHeap} {r : SV × SHeap} (e : runBody c n fn xs H = some r) : runBody d m fn xs H = some r := by
  unfold runBody at e ⊢
  cases hl : Nat.beq xs.length fn.np <;> rw [hl] at e <;> simp only [cond_true, cond_false] at e ⊢
  · cases e
  · cases hr : runCode c n fn.body (Env.ofList xs 0 .lf) H with
    | none => rw [hr] at e; cases e
    | some p => rw [hr] at e; rw [runCode_mono h n m _ hm hr]; exact e
theorem runCall_mono (F : Table) : ∀ (n m : Nat), n ≤ m → CLe (runCall F n) (runCall F m)
  | 0, m, hm, f, xs, H, r, hr => by cases hr
  | n + 1, 0, hm, f, xs, H, r, hr => by omega
  | n + 1, m + 1, hm, f, xs, H, r, hr => by
    simp only [runCall] at hr ⊢
    cases hl : F.lib f with
    | some p => rw [hl] at hr; exact hr
    | none =>
      rw [hl] at hr
      simp only at hr ⊢
      cases hf : F.fn f with
      | none => rw [hf] at hr; cases hr
      | some fn => rw [hf] at hr; exact runBody_mono (runCall_mono F n m (by omega)) (by omega) hr

/- ---------- all runs ---------- -/
open Classical in
def callC (F : Table) : Caller := fun f xs H => if h : ∃ r n, runCall F n f xs H = some r then some (Classical.choose h) else none
variable {F : Table}
theorem callC_of {n f : Nat} {xs : List SV} {H : SHeap} {r : SV × SHeap} (h : runCall F n f xs H = some r) : callC F f xs H = some r := by
  unfold callC
  have hx : ∃ r n, runCall F n f xs H = some r := ⟨r, n, h⟩
  rw [dif_pos hx]
  obtain ⟨m, hm⟩ := Classical.choose_spec hx
  have h1 := runCall_mono F n (max n m) (Nat.le_max_left ..) _ _ _ _ h
  have h2 := runCall_mono F m (max n m) (Nat.le_max_right ..) _ _ _ _ hm
  rw [h1] at h2
  exact h2.symm
theorem callC_inv {f : Nat} {xs : List SV} {H : SHeap} {r : SV × SHeap} (h : callC F f xs H = some r) : ∃ n, runCall F n f xs H = some r := by
  unfold callC at h
  split at h
  · rename_i hx
    obtain ⟨m, hm⟩ := Classical.choose_spec hx
    exact ⟨m, by rw [hm]; exact h⟩
  · cases h
theorem callC_lib {f : Nat} {p : List SV → SHeap → Res} {xs : List SV} {H : SHeap} {r : SV × SHeap} (hl : F.lib f = some p) (h : p xs H = some r) : callC F f xs H = some r :=
  callC_of (n := 1) (by simp only [runCall, hl]; exact h)
theorem sStep_C {o : SOper} {e : Env} {H : SHeap} {r : SV × SHeap} (h : sStep (callC F) o e H = some r) : ∃ n, sStep (runCall F n) o e H = some r := by
  unfold sStep at h
  cases hw : o.wanted e <;> rw [hw] at h <;> simp only [cond_true, cond_false] at h
  · exact ⟨0, by unfold sStep; rw [hw]; exact h⟩
  · suffices hs : ∃ n, sExec (runCall F n) o.op e.ev H = some r by
      obtain ⟨n, hn⟩ := hs
      exact ⟨n, by unfold sStep; rw [hw]; exact hn⟩
    revert h
    cases o.op
    case call f xs => intro h; exact callC_inv h
    case callv x xs =>
      intro h
      simp only [sExec] at h ⊢
      cases hx : Env.ev e x <;> rw [hx] at h <;> first | (cases h; done) | exact callC_inv h
    all_goals intro h; exact ⟨0, h⟩
theorem up {n m : Nat} (h : n ≤ m) : CLe (runCall F n) (runCall F m) := runCall_mono F n m h
theorem runOps_C : ∀ (ops : List SOper) {e : Env} {H : SHeap} {r : Env × SHeap}, runOps (callC F) ops e H = some r → ∃ n, runOps (runCall F n) ops e H = some r
  | [], e, H, r, h => ⟨0, h⟩
  | o :: os, e, H, r, h => by
    unfold runOps at h
    cases hs : sStep (callC F) o e H with
    | none => rw [hs] at h; cases h
    | some p =>
      rw [hs] at h
      obtain ⟨n, hn⟩ := sStep_C hs
      obtain ⟨m, hm⟩ := runOps_C os h
      refine ⟨max n m, ?_⟩
      unfold runOps
      rw [sStep_mono (up (Nat.le_max_left n m)) hn]
      exact runOps_mono (up (Nat.le_max_right n m)) os hm
theorem traceOps_C : ∀ (ops : List SOper) {e : Env} {H : SHeap} {r : List (Env × SHeap × SV) × Env × SHeap}, traceOps (callC F) ops e H = some r → ∃ n, traceOps (runCall F n) ops e H = some r
  | [], e, H, r, h => ⟨0, h⟩
  | o :: os, e, H, r, h => by
    unfold traceOps at h
    cases hs : sStep (callC F) o e H with
    | none => rw [hs] at h; cases h
    | some p =>
      rw [hs] at h
      simp only at h
      cases ht : traceOps (callC F) os (e.put o.dst p.1) p.2 with
      | none => rw [ht] at h; cases h
      | some q =>
        rw [ht] at h
        obtain ⟨n, hn⟩ := sStep_C hs
        obtain ⟨m, hm⟩ := traceOps_C os ht
        refine ⟨max n m, ?_⟩
        unfold traceOps
        rw [sStep_mono (up (Nat.le_max_left n m)) hn]
        simp only
        rw [traceOps_mono (up (Nat.le_max_right n m)) os hm]
        exact h
theorem runDraw_C {ops : List SOper} {looks : List (Nat × List Nat)} {e : Env} {H : SHeap} {r : Env × SHeap} (h : runDraw (callC F) ops looks e H = some r) : ∃ n, runDraw (runCall F n) ops looks e H = some r := by
  cases looks with
  | nil => exact runOps_C ops h
  | cons p ps =>
    unfold runDraw at h
    simp only at h
    cases ht : traceOps (callC F) ops e H with
    | none => rw [ht] at h; cases h
    | some q =>
      rw [ht] at h
      obtain ⟨n, hn⟩ := traceOps_C ops ht
      refine ⟨n, ?_⟩
      unfold runDraw
      simp only
      rw [hn]
      exact h
theorem runOpsK_inv : ∀ (ops : List SOper) {e : Env} {H : SHeap} {k : Env → SHeap → Res} {r : SV × SHeap}, runOpsK c ops e H k = some r → ∃ e' H', runOps c ops e H = some (e', H') ∧ k e' H' = some r
  | [], e, H, k, r, h => ⟨e, H, rfl, h⟩
  | o :: os, e, H, k, r, h => by
    unfold runOpsK at h
    obtain ⟨v, H', h1, h2⟩ := bnd_inv h
    obtain ⟨e2, H2, h3, h4⟩ := runOpsK_inv os h2
    exact ⟨e2, H2, by unfold runOps; rw [h1]; exact h3, h4⟩
/- what stands behind, by how the code is left -/
def outK (x : SExit) (e : Env) (H : SHeap) (kn : Env → SHeap → Res) (kx : Nat → Env → SHeap → Res) (kr : Env → SHeap → Res) : Res :=
  match x with
  | .normal => kn e H
  | .exit i => kx i e H
  | .ret => kr e H
def RunsTo (F : Table) (k : SCode) (e : Env) (H : SHeap) (kn : Env → SHeap → Res) (kx : Nat → Env → SHeap → Res) (kr : Env → SHeap → Res) (r : SV × SHeap) : Prop :=
  ∃ m x e' H', runCode (runCall F m) m k e H = some (x, e', H') ∧ outK x e' H' kn kx kr = some r
theorem runK_C (n : Nat) : ∀ (k : SCode) {e : Env} {H : SHeap} {kn : Env → SHeap → Res} {kx : Nat → Env → SHeap → Res} {kr : Env → SHeap → Res} {r : SV × SHeap}, runK (callC F) n k e H kn kx kr = some r → RunsTo F k e H kn kx kr r := by
  intro k
  induction k with
  | skip => intro e H kn kx kr r h; exact ⟨1, .normal, e, H, rfl, h⟩
  | exit i => intro e H kn kx kr r h; exact ⟨1, .exit i, e, H, rfl, h⟩
  | ret => intro e H kn kx kr r h; exact ⟨1, .ret, e, H, rfl, h⟩
  | reg ops =>
    intro e H kn kx kr r h
    obtain ⟨e', H', h1, h2⟩ := runOpsK_inv ops h
    obtain ⟨m, hm⟩ := runOps_C ops h1
    refine ⟨m + 1, .normal, e', H', ?_, h2⟩
    simp only [runCode]
    rw [runOps_mono (up (Nat.le_succ m)) ops hm]; rfl
  | draw ops looks =>
    intro e H kn kx kr r h
    simp only [runK] at h
    cases h1 : runDraw (callC F) ops looks e H with
    | none => rw [h1] at h; cases h
    | some p =>
      rw [h1] at h
      obtain ⟨m, hm⟩ := runDraw_C h1
      refine ⟨m + 1, .normal, p.1, p.2, ?_, h⟩
      simp only [runCode]
      rw [runDraw_mono (up (Nat.le_succ m)) hm]; rfl
  | seq a b iha ihb =>
    intro e H kn kx kr r h
    simp only [runK] at h
    obtain ⟨m, x, e', H', h1, h2⟩ := iha h
    cases x with
    | normal =>
      obtain ⟨m', x', e2, H2, h3, h4⟩ := ihb h2
      refine ⟨max m m' + 1, x', e2, H2, ?_, h4⟩
      simp only [runCode]
      rw [runCode_mono (up (by omega)) m (max m m') a (by omega) h1, outSeq_normal]
      exact runCode_mono (up (by omega)) m' (max m m') b (by omega) h3
    | exit i =>
      refine ⟨m + 1, .exit i, e', H', ?_, h2⟩
      simp only [runCode]
      rw [runCode_mono (up (Nat.le_succ m)) m m a (Nat.le_refl _) h1]; rfl
    | ret =>
      refine ⟨m + 1, .ret, e', H', ?_, h2⟩
      simp only [runCode]
      rw [runCode_mono (up (Nat.le_succ m)) m m a (Nat.le_refl _) h1]; rfl
  | cond x a b iha ihb =>
    intro e H kn kx kr r h
    simp only [runK] at h
    cases hx : e.ev x <;> rw [hx] at h <;> first | (cases h; done) | skip
    rename_i t
    cases t with
    | true =>
      obtain ⟨m, x', e', H', h1, h2⟩ := iha h
      refine ⟨m + 1, x', e', H', ?_, h2⟩
      simp only [runCode, hx, outCond, cond_true]
      exact runCode_mono (up (Nat.le_succ m)) m m a (Nat.le_refl _) h1
    | false =>
      obtain ⟨m, x', e', H', h1, h2⟩ := ihb h
      refine ⟨m + 1, x', e', H', ?_, h2⟩
      simp only [runCode, hx, outCond, cond_false]
      exact runCode_mono (up (Nat.le_succ m)) m m b (Nat.le_refl _) h1
  | block id b ihb =>
    intro e H kn kx kr r h
    simp only [runK] at h
    obtain ⟨m, x, e', H', h1, h2⟩ := ihb h
    have h3 := runCode_mono (up (Nat.le_succ m)) m m b (Nat.le_refl _) h1
    cases x with
    | normal =>
      refine ⟨m + 1, .normal, e', H', ?_, h2⟩
      simp only [runCode]; rw [h3]; rfl
    | ret =>
      refine ⟨m + 1, .ret, e', H', ?_, h2⟩
      simp only [runCode]; rw [h3]; rfl
    | exit i =>
      simp only [outK] at h2
      by_cases hi : i = id
      · rw [if_pos hi] at h2
        refine ⟨m + 1, .normal, e', H', ?_, h2⟩
        simp only [runCode]; rw [h3]
        simp [outBlock, hi]
      · rw [if_neg hi] at h2
        refine ⟨m + 1, .exit i, e', H', ?_, h2⟩
        simp only [runCode]; rw [h3]
        have : Nat.beq i id = false := by rw [Bool.eq_false_iff]; intro hb; exact hi (Nat.eq_of_beq_eq_true hb)
        simp [outBlock, this]
  | loop b ihb =>
    intro e H kn kx kr r h
    simp only [runK] at h
    suffices hs : ∀ (j : Nat) (e : Env) (H : SHeap), iterK (fun k e H => runK (callC F) n b e H k kx kr) j e H = some r → RunsTo F (.loop b) e H kn kx kr r from hs n e H h
    intro j
    induction j with
    | zero => intro e H h; cases h
    | succ j ihj =>
      intro e H h
      simp only [iterK] at h
      obtain ⟨m, x, e', H', h1, h2⟩ := ihb h
      cases x with
      | normal =>
        obtain ⟨m', x', e2, H2, h3, h4⟩ := ihj _ _ h2
        refine ⟨max m m' + 1, x', e2, H2, ?_, h4⟩
        simp only [runCode]
        rw [runCode_mono (up (by omega)) m (max m m') b (by omega) h1, outSeq_normal]
        exact runCode_mono (up (by omega)) m' (max m m') (.loop b) (by omega) h3
      | exit i =>
        refine ⟨m + 1, .exit i, e', H', ?_, h2⟩
        simp only [runCode]
        rw [runCode_mono (up (Nat.le_succ m)) m m b (Nat.le_refl _) h1]; rfl
      | ret =>
        refine ⟨m + 1, .ret, e', H', ?_, h2⟩
        simp only [runCode]
        rw [runCode_mono (up (Nat.le_succ m)) m m b (Nat.le_refl _) h1]; rfl
theorem resGo_eq : ∀ (rs : List SResult) (e : Env) (H : SHeap) (acc : List SV), resGo rs e H acc = (match allResults rs e H with
    | some vs => some (tupled (acc ++ vs), H)
    | none => none)
  | [], e, H, acc => by simp [resGo, allResults]
  | .t i :: rs, e, H, acc => by
    simp only [resGo, oneK, bnd_some, allResults, oneResult]
    rw [resGo_eq rs]
    cases allResults rs e H with
    | none => rfl
    | some vs => simp
  | .c i y :: rs, e, H, acc => by
    simp only [resGo, oneK, allResults, oneResult]
    cases e.at i <;> try rfl
    rename_i b q r
    show bnd ((sLoad y H b q r).map (·, H)) _ = (match (match sLoad y H b q r with
        | some v => (match allResults rs e H with
          | some vs => some (v :: vs)
          | none => none)
        | none => none) with
      | some vs => some (tupled (acc ++ vs), H)
      | none => none)
    cases sLoad y H b q r with
    | none => rfl
    | some v =>
      show resGo rs e H (acc ++ [v]) = _
      rw [resGo_eq rs]
      cases allResults rs e H with
      | none => rfl
      | some vs => simp
theorem resK_eq (rs : List SResult) (e : Env) (H : SHeap) : resK rs e H = (match allResults rs e H with
    | some vs => some (tupled vs, H)
    | none => none) := by
  unfold resK
  rw [resGo_eq]
  simp
/- a body's run is a call's -/
theorem callC_body {f n : Nat} {fn : SFunc} {xs : List SV} {H : SHeap} {r : SV × SHeap} (hl : F.lib f = none) (hf : F.fn f = some fn) (h : runBodyK (callC F) n fn xs H = some r) : callC F f xs H = some r := by
  unfold runBodyK at h
  cases hq : Nat.beq xs.length fn.np <;> rw [hq] at h <;> simp only [cond_true, cond_false] at h
  · cases h
  · obtain ⟨m, x, e', H', h1, h2⟩ := runK_C n _ h
    refine callC_of (n := m + 1) ?_
    simp only [runCall, hl, hf, runBody, hq, cond_true]
    rw [h1]
    cases x with
    | exit i => cases h2
    | normal =>
      simp only [outK, resK_eq] at h2
      exact h2
    | ret =>
      simp only [outK, resK_eq] at h2
      exact h2
 end
end Go.Sim
