/- Regions whose order is open: what the reduced machine's text order has to do with any other. -/
import Derived.Test.YtjoffbhfcajcgaaDoorSim17
set_option linter.unusedVariables false
set_option linter.unusedSimpArgs false
namespace Go.Sim
open Go.RowKit
variable {P : Program} {ρ ρ' : Ren} {H H' : SHeap} {w w' : World}
mutual
theorem SV.eq_of_beq : ∀ (a b : SV), SV.beq a b = true → a = b
  | .bool a, b, h => by cases b <;> simp_all [SV.beq]
  | .int j a, b, h => by cases b <;> simp_all [SV.beq]
  | .str a, b, h => by cases b <;> simp_all [SV.beq]
  | .nilp, b, h => by cases b <;> simp_all [SV.beq]
  | .ptr a q c, b, h => by cases b <;> simp_all [SV.beq]
  | .nils, b, h => by cases b <;> simp_all [SV.beq]
  | .slice a q c d, b, h => by cases b <;> simp_all [SV.beq]
  | .agg a, b, h => by
    cases b <;> simp [SV.beq] at h
    rw [SV.eqs_of_beqs a _ h]
  | .tup a, b, h => by
    cases b <;> simp [SV.beq] at h
    rw [SV.eqs_of_beqs a _ h]
  | .fn f a c, b, h => by
    cases b <;> simp [SV.beq] at h
    rw [h.1.1, SV.eqs_of_beqs a _ h.1.2, SV.eqs_of_beqs c _ h.2]
  | .nilf, b, h => by cases b <;> simp_all [SV.beq]
  | .iface t v, b, h => by
    cases b <;> simp [SV.beq] at h
    rw [h.1, SV.eq_of_beq v _ h.2]
  | .nili, b, h => by cases b <;> simp_all [SV.beq]
  | .mp a, b, h => by cases b <;> simp_all [SV.beq]
  | .nilm, b, h => by cases b <;> simp_all [SV.beq]
theorem SV.eqs_of_beqs : ∀ (a b : List SV), SV.beqs a b = true → a = b
  | [], b, h => by cases b <;> simp_all [SV.beqs]
  | x :: xs, b, h => by
    cases b <;> simp [SV.beqs] at h
    rw [SV.eq_of_beq x _ h.1, SV.eqs_of_beqs xs _ h.2]
end
theorem ev_congr {e e' : Env} {x : SOpd} (h : ∀ t ∈ opdTmp x, e.at t = e'.at t) : e.ev x = e'.ev x := by
  cases x with
  | t i => exact h i (by simp [opdTmp])
  | _ => rfl
theorem evo_congr {e e' : Env} {x : Option SOpd} (h : ∀ t ∈ optTmp x, e.at t = e'.at t) : x.map e.ev = x.map e'.ev := by
  cases x with
  | none => rfl
  | some x =>
    have : e.ev x = e'.ev x := by
      cases x with
      | t i => exact h i (by simp [optTmp])
      | _ => rfl
    simp [this]
theorem evs_congr {e e' : Env} {xs : List SOpd} (h : ∀ t ∈ xs.flatMap opdTmp, e.at t = e'.at t) : evAll e.ev xs = evAll e'.ev xs :=
  List.map_congr_left fun x hx => ev_congr fun t ht => h t (List.mem_flatMap.2 ⟨x, hx, ht⟩)
theorem sExec_congr {call : Caller} {op : SOp} {e e' : Env} {H : SHeap} (h : ∀ t ∈ op.reads, e.at t = e'.at t) : sExec call op e.ev H = sExec call op e'.ev H := by
  cases op <;> simp only [SOp.reads, List.mem_append] at h <;> simp only [sExec]
  case pick c a b => rw [ev_congr (fun t ht => h t (.inl (.inl ht))), ev_congr (x := a) (fun t ht => h t (.inl (.inr ht))), ev_congr (x := b) (fun t ht => h t (.inr ht))]
  case build z ps =>
    have : evParts e.ev ps = evParts e'.ev ps := List.map_congr_left fun p hp => by rw [ev_congr fun t ht => h t (List.mem_flatMap.2 ⟨p, hp, ht⟩)]
    rw [this]
  case buildSlice y z n ps =>
    have : evNumbered e.ev ps = evNumbered e'.ev ps := List.map_congr_left fun p hp => by rw [ev_congr fun t ht => h t (List.mem_flatMap.2 ⟨p, hp, ht⟩)]
    rw [this]
  case mkFunc f a b => rw [evs_congr (fun t ht => h t (.inl ht)), evs_congr (xs := b) (fun t ht => h t (.inr ht))]
  case slS x lo hi => rw [ev_congr (fun t ht => h t (.inl (.inl ht))), evo_congr (x := lo) (fun t ht => h t (.inl (.inr ht))), evo_congr (x := hi) (fun t ht => h t (.inr ht))]
  case slL n x lo hi mx => rw [ev_congr (fun t ht => h t (.inl (.inl (.inl ht)))), evo_congr (x := lo) (fun t ht => h t (.inl (.inl (.inr ht)))), evo_congr (x := hi) (fun t ht => h t (.inl (.inr ht))), evo_congr (x := mx) (fun t ht => h t (.inr ht))]
  case slA n m x lo hi mx => rw [ev_congr (fun t ht => h t (.inl (.inl (.inl ht)))), evo_congr (x := lo) (fun t ht => h t (.inl (.inl (.inr ht)))), evo_congr (x := hi) (fun t ht => h t (.inl (.inr ht))), evo_congr (x := mx) (fun t ht => h t (.inr ht))]
  case mapUpdate kk m k v => rw [ev_congr (fun t ht => h t (.inl (.inl ht))), ev_congr (x := k) (fun t ht => h t (.inl (.inr ht))), ev_congr (x := v) (fun t ht => h t (.inr ht))]
  case callv x xs => rw [ev_congr (fun t ht => h t (.inl ht)), evs_congr (xs := xs) (fun t ht => h t (.inr ht))]
  all_goals first
    | rw [ev_congr h]
    | rw [evs_congr h]
    | (rename_i x y; rw [ev_congr (x := x) (fun t ht => h t (.inl ht)), ev_congr (x := y) (fun t ht => h t (.inr ht))])
theorem SOper.reads_op {o : SOper} {t : Nat} (h : t ∈ o.op.reads) : t ∈ o.reads := List.mem_append.2 (.inl h)
theorem wanted_congr {o : SOper} {e e' : Env} (h : ∀ t ∈ o.reads, e.at t = e'.at t) : o.wanted e = o.wanted e' := by
  unfold SOper.wanted
  split
  · rfl
  · rename_i t want hg
    unfold wantedAt
    rw [h t (by unfold SOper.reads; rw [hg]; simp)]
theorem sStep_congr {call : Caller} {o : SOper} {e e' : Env} {H : SHeap} (h : ∀ t ∈ o.reads, e.at t = e'.at t) : sStep call o e H = sStep call o e' H := by
  unfold sStep
  rw [wanted_congr h, sExec_congr (fun t ht => h t (SOper.reads_op ht))]
theorem only_some {v : Option SV} {H : SHeap} {x : SV} {H' : SHeap} (h : only H v = some (x, H')) : H' = H ∧ ∀ H2, only H2 v = some (x, H2) := by
  obtain ⟨rfl, rfl⟩ := only_inv h
  exact ⟨rfl, fun _ => rfl⟩
def OnlyRes (f : SHeap → Res) : Prop := ∃ v, ∀ H, f H = only H v
theorem OnlyRes.none : OnlyRes fun _ => Option.none := ⟨Option.none, fun _ => rfl⟩
theorem OnlyRes.some (v : SV) : OnlyRes fun H => Option.some (v, H) := ⟨Option.some v, fun _ => rfl⟩
theorem or_pick (c a b : SV) : OnlyRes (xPick c a b) := by cases c <;> first | exact .none | exact .some _
theorem or_build (z : List SV) (ps : List (Nat × Nat × SV)) : OnlyRes (xBuild z ps) := by unfold xBuild; cases sFill z ps <;> first | exact .none | exact .some _
theorem or_nilCheck (x : SV) : OnlyRes (xNilCheck x) := by cases x <;> first | exact .none | exact .some _
theorem or_isNil (b : Bool) (x : SV) : OnlyRes (xIsNil b x) := by cases x <;> first | exact .none | exact .some _
theorem or_samePtr (b : Bool) (x y : SV) : OnlyRes (xSamePtr b x y) := by unfold xSamePtr; cases eqPtr2 x y <;> first | exact .none | exact .some _
theorem or_toInt (k : IntKind) (x : SV) : OnlyRes (xToInt k x) := by cases x <;> first | exact .none | exact .some _
theorem or_sToS (x : SV) : OnlyRes (xSToS x) := by cases x <;> first | exact .none | exact .some _
theorem or_iToS (x : SV) : OnlyRes (xIToS x) := by cases x <;> first | exact .none | exact .some _
theorem or_fieldAddr (n : Nat) (x : SV) : OnlyRes (xFieldAddr n x) := by cases x <;> first | exact .none | exact .some _
theorem or_field (n m : Nat) (b : Bool) (x : SV) : OnlyRes (xField n m b x) := by cases x <;> first | exact .none | exact ⟨_, fun _ => rfl⟩
theorem or_idxS (x i : SV) : OnlyRes (xIdxS x i) := by
  cases x <;> first | exact .none | skip
  rename_i l
  cases h : sNat i with
  | none => exact ⟨Option.none, fun _ => by simp [xIdxS, h, only]⟩
  | some k =>
    cases h2 : l[k]? with
    | none => exact ⟨Option.none, fun _ => by simp [xIdxS, h, h2, only]⟩
    | some n => exact ⟨Option.some (.int .u8 (.ofNat n)), fun _ => by simp [xIdxS, h, h2, only]⟩
theorem or_idxA (n m : Nat) (b : Bool) (x i : SV) : OnlyRes (xIdxA n m b x i) := by
  cases x <;> first | exact .none | skip
  rename_i l
  cases h : sNat i with
  | none => exact ⟨Option.none, fun _ => by simp [xIdxA, h, only]⟩
  | some k =>
    cases h2 : Nat.ble (k + 1) n with
    | false => exact ⟨Option.none, fun _ => by simp only [xIdxA, h, h2, cond_false]; rfl⟩
    | true => exact ⟨sPart (k * m) m b l, fun _ => by simp only [xIdxA, h, h2, cond_true]⟩
theorem or_extract (n : Nat) (x : SV) : OnlyRes (xExtract n x) := by cases x <;> first | exact .none | exact ⟨_, fun _ => rfl⟩
theorem or_lenS (x : SV) : OnlyRes (xLenS x) := by cases x <;> first | exact .none | exact .some _
theorem or_lenL (x : SV) : OnlyRes (xLenL x) := by cases x <;> first | exact .none | exact .some _
theorem or_min (xs : List SV) : OnlyRes (xMin xs) := by
  cases xs with
  | nil => exact .none
  | cons v r => cases v <;> first | exact .none | exact ⟨_, fun _ => rfl⟩
theorem or_max (xs : List SV) : OnlyRes (xMax xs) := by
  cases xs with
  | nil => exact .none
  | cons v r => cases v <;> first | exact .none | exact ⟨_, fun _ => rfl⟩
theorem or_asType (t : Nat) (z : SV) (ok : Bool) (x : SV) : OnlyRes (xAsType t z ok x) := by
  cases x <;> first | exact .none | skip
  · rename_i u v
    cases h : Nat.beq u t
    · cases ok
      · exact ⟨Option.none, fun _ => by simp only [xAsType, h, cond_false]; rfl⟩
      · exact ⟨Option.some (.tup [z, .bool false]), fun _ => by simp only [xAsType, h, cond_false, cond_true]; rfl⟩
    · exact ⟨Option.some (found ok v true), fun _ => by simp only [xAsType, h, cond_true]; rfl⟩
  · cases ok
    · exact .none
    · exact .some _
theorem OnlyRes.use {f : SHeap → Res} (hf : OnlyRes f) {x : SV} (h : f H = Option.some (x, H')) : H' = H ∧ ∀ H2, f H2 = Option.some (x, H2) := by
  obtain ⟨v, hv⟩ := hf
  rw [hv] at h
  obtain ⟨rfl, rfl⟩ := only_inv h
  exact ⟨rfl, fun H2 => by rw [hv]; rfl⟩
theorem sExec_pure {call call' : Caller} {op : SOp} {ev : Ev} {x : SV} (hp : op.cls = .pure) (h : sExec call op ev H = some (x, H')) : H' = H ∧ ∀ H2, sExec call' op ev H2 = some (x, H2) := by
  cases op <;> simp only [SOp.cls] at hp <;> (try cases hp) <;> simp only [sExec] at h ⊢
  all_goals first
    | (cases h; done)
    | exact only_some h
    | exact (OnlyRes.some _).use h
    | exact (or_pick _ _ _).use h
    | exact (or_build _ _).use h
    | exact (or_nilCheck _).use h
    | exact (or_toInt _ _).use h
    | exact (or_samePtr _ _ _).use h
    | exact (or_isNil _ _).use h
    | exact (or_sToS _).use h
    | exact (or_iToS _).use h
    | exact (or_fieldAddr _ _).use h
    | exact (or_field _ _ _ _).use h
    | exact (or_idxS _ _).use h
    | exact (or_idxA _ _ _ _ _).use h
    | exact (or_extract _ _).use h
    | exact (or_lenS _).use h
    | exact (or_lenL _).use h
    | exact (or_min _).use h
    | exact (or_max _).use h
    | exact (or_asType _ _ _ _).use h
theorem sExec_look {call call' : Caller} {op : SOp} {ev : Ev} {x : SV} (hp : op.cls = .look) (h : sExec call op ev H = some (x, H')) : H' = H ∧ sExec call' op ev H = some (x, H) := by
  cases op <;> simp only [SOp.cls] at hp <;> (try cases hp) <;> simp only [sExec] at h ⊢
  case load y a =>
    cases hx : ev a <;> rw [hx] at h <;> simp only [xLoad] at h ⊢ <;> (try cases h)
    obtain ⟨rfl, _⟩ := only_some h; exact ⟨rfl, h⟩
  case bToS a =>
    have : H' = H := by
      unfold xBToS at h
      cases h1 : isSlice (ev a) <;> rw [h1] at h <;> simp only [cond_true, cond_false] at h <;> (try cases h)
      cases h2 : sElems 1 H (ev a) with
      | none => rw [h2] at h; cases h
      | some l =>
        rw [h2] at h
        simp only at h
        cases h3 : sBytes l with
        | none => rw [h3] at h; cases h
        | some s => rw [h3] at h; cases h; rfl
    subst this
    exact ⟨rfl, h⟩
  case slL => obtain ⟨rfl, _⟩ := only_some h; exact ⟨rfl, h⟩
  case slA => obtain ⟨rfl, _⟩ := only_some h; exact ⟨rfl, h⟩
  case lookup => obtain ⟨rfl, _⟩ := only_some h; exact ⟨rfl, h⟩
  case idxAddrL n a b =>
    have : H' = H := by
      cases hx : ev a <;> rw [hx] at h <;> simp only [xIdxAddrL] at h <;> (try cases h)
      cases h2 : sNat (ev b) with
      | none => rw [h2] at h; cases h
      | some k =>
        rw [h2] at h
        simp only at h
        rename_i b q len c
        cases h3 : (Nat.ble (k + 1) len && hasEsz H b n) <;> rw [h3] at h <;> cases h
        rfl
    subst this
    exact ⟨rfl, h⟩
  case idxAddrA n m a b =>
    have : H' = H := by
      cases hx : ev a <;> rw [hx] at h <;> simp only [xIdxAddrA] at h <;> (try cases h)
      cases h2 : sNat (ev b) with
      | none => rw [h2] at h; cases h
      | some k =>
        rw [h2] at h
        simp only at h
        cases h3 : Nat.ble (k + 1) n <;> rw [h3] at h <;> cases h
        rfl
    subst this
    exact ⟨rfl, h⟩
  case lenM a =>
    have : H' = H := by
      cases hx : ev a <;> rw [hx] at h <;> simp only [xLenM] at h <;> (try cases h)
      · rename_i r
        unfold mapAt at h
        split at h
        · split at h
          · cases h; rfl
          · cases h
        · cases h
      · rfl
    subst this
    exact ⟨rfl, h⟩
theorem sStep_still {call call' : Caller} {o : SOper} {e : Env} {x : SV} (hp : o.op.cls ≠ .act) (h : sStep call o e H = some (x, H')) : H' = H ∧ sStep call' o e H = some (x, H) := by
  unfold sStep at h ⊢
  cases hw : o.wanted e <;> rw [hw] at h <;> simp only [cond_true, cond_false] at h ⊢
  · cases h; exact ⟨rfl, rfl⟩
  · cases hc : o.op.cls with
    | act => exact absurd hc hp
    | pure => obtain ⟨h1, h2⟩ := sExec_pure (call' := call') hc h; exact ⟨h1, h2 H⟩
    | look => exact sExec_look hc h
theorem sStep_pure {call : Caller} {o : SOper} {e : Env} {x : SV} (hp : o.op.cls = .pure) (h : sStep call o e H = some (x, H')) (H2 : SHeap) : sStep call o e H2 = some (x, H2) := by
  unfold sStep at h ⊢
  cases hw : o.wanted e <;> rw [hw] at h <;> simp only [cond_true, cond_false] at h ⊢
  · cases h; rfl
  · exact (sExec_pure hp h).2 H2
end Go.Sim
