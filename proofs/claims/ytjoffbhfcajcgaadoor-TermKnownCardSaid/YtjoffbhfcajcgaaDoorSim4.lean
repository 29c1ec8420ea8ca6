/- The reduced machine's operations on two values, and on one, do what the model's do. -/
import Derived.Test.YtjoffbhfcajcgaaDoorSim3
set_option linter.unusedVariables false
set_option linter.unusedSimpArgs false
namespace Go.Sim
open Go.RowKit
variable {P : Program}

theorem ints2_inv {x y : SV} {f : IntKind → Int → Int → Option SV} {r : SV} (h : ints2 x y f = some r) : ∃ k a b, x = .int k a ∧ y = .int k b ∧ f k a b = some r := by
  cases x <;> simp only [ints2] at h <;> (try cases h)
  cases y <;> simp only at h <;> (try cases h)
  rename_i k a j b
  rw [kEq_iff] at h
  by_cases e : k = j
  · subst e; simp at h; exact ⟨k, a, b, rfl, rfl, h⟩
  · simp [e] at h
theorem nums2_inv {x y : SV} {f : IntKind → Int → Int → Option SV} {g : List Nat → List Nat → Option SV} {r : SV} (h : nums2 x y f g = some r) :
    (∃ k a b, x = .int k a ∧ y = .int k b ∧ f k a b = some r) ∨ ∃ s t, x = .str s ∧ y = .str t ∧ g s t = some r := by
  cases x <;> simp only [nums2] at h <;> (try cases h)
  · cases y <;> simp only at h <;> (try cases h)
    rename_i k a j b
    rw [kEq_iff] at h
    by_cases e : k = j
    · subst e; simp at h; exact .inl ⟨k, a, b, rfl, rfl, h⟩
    · simp [e] at h
  · cases y <;> simp only at h <;> (try cases h)
    exact .inr ⟨_, _, rfl, rfl, h⟩
theorem shift2_inv {x y : SV} {f : IntKind → Int → Nat → Option SV} {r : SV} (h : shift2 x y f = some r) : ∃ k a j n, x = .int k a ∧ y = .int j (Int.ofNat n) ∧ f k a (min n k.bits) = some r := by
  cases x <;> simp only [shift2] at h <;> (try cases h)
  cases y <;> simp only at h <;> (try cases h)
  rename_i k a j b
  cases b with
  | ofNat n => exact ⟨k, a, j, n, rfl, rfl, h⟩
  | negSucc n => cases h

theorem eqGuard_plain (op : BinOp) (t : TypeId) (x y : Operand) (a b : Value) (w : World) (h : ¬ (a = .nilIface ∧ b = .nilIface)) (h2 : ¬ ((∃ c, a = .agg c) ∧ ∃ c, b = .agg c)) :
    (eqGuard op t x y a b).run P w = .ok () w := by
  unfold eqGuard
  cases op <;> simp <;> (cases a <;> cases b <;> simp_all)

def binSem (op : BinOp) (t : TypeId) (x y : Operand) (a b : Value) : Sem Value := do eqGuard op t x y a b; binOp op t a b

theorem binSem_int (op : BinOp) (t : TypeId) (x y : Operand) (k j : IntKind) (a b : Int) (w : World) : (binSem op t x y (.int k a) (.int j b)).run P w = (binOp op t (.int k a) (.int j b)).run P w := by
  unfold binSem
  rw [Sem.run_bind, eqGuard_plain _ _ _ _ _ _ _ (by simp) (by simp)]; rfl
theorem binSem_str (op : BinOp) (t : TypeId) (x y : Operand) (a b : ByteArray) (w : World) : (binSem op t x y (.string a) (.string b)).run P w = (binOp op t (.string a) (.string b)).run P w := by
  unfold binSem
  rw [Sem.run_bind, eqGuard_plain _ _ _ _ _ _ _ (by simp) (by simp)]; rfl

theorem append_toNat (s t : ByteArray) : (s ++ t).data.toList.map (·.toNat) = s.data.toList.map (·.toNat) ++ t.data.toList.map (·.toNat) := by
  simp

theorem eqKind_agg {t : TypeId} {sh : List LeafK} (h : eqKind P t = .agg sh) : ∃ fs, P.underlying t = some (.struct fs) ∧ P.eqGuardType P.depth t = false ∧ shapeT P 20 t = some sh := by
  unfold eqKind at h
  cases hu : P.underlying t with
  | none => rw [hu] at h; cases h
  | some e =>
    rw [hu] at h
    cases e <;> simp at h
    rename_i fs
    split at h
    · rename_i hg
      cases hs : shapeT P 20 t with
      | none => rw [hs] at h; cases h
      | some s => rw [hs] at h; cases h; exact ⟨fs, rfl, hg, rfl⟩
    · cases h
theorem eqKind_bool {t : TypeId} (h : eqKind P t = .bool) : P.underlying t = some .bool := by
  unfold eqKind at h
  cases hu : P.underlying t with
  | none => rw [hu] at h; cases h
  | some e =>
    rw [hu] at h
    cases e <;> simp at h
    · rfl
    · split at h
      · cases hs : shapeT P 20 t <;> rw [hs] at h <;> cases h
      · cases h
theorem eqKind_ptr {t : TypeId} (h : eqKind P t = .ptr) : ∃ e, P.underlying t = some (.pointer e) := by
  unfold eqKind at h
  cases hu : P.underlying t with
  | none => rw [hu] at h; cases h
  | some e =>
    rw [hu] at h
    cases e <;> simp at h
    · exact ⟨_, rfl⟩
    · split at h
      · cases hs : shapeT P 20 t <;> rw [hs] at h <;> cases h
      · cases h
theorem eqKind_slice {t : TypeId} (h : eqKind P t = .slice) : ∃ e, P.underlying t = some (.slice e) := by
  unfold eqKind at h
  cases hu : P.underlying t with
  | none => rw [hu] at h; cases h
  | some e =>
    rw [hu] at h
    cases e <;> simp at h
    · exact ⟨_, rfl⟩
    · split at h
      · cases hs : shapeT P 20 t <;> rw [hs] at h <;> cases h
      · cases h
theorem eqKind_map {t : TypeId} (h : eqKind P t = .map) : ∃ k e, P.underlying t = some (.map k e) := by
  unfold eqKind at h
  cases hu : P.underlying t with
  | none => rw [hu] at h; cases h
  | some e =>
    rw [hu] at h
    cases e <;> simp at h
    · exact ⟨_, _, rfl⟩
    · split at h
      · cases hs : shapeT P 20 t <;> rw [hs] at h <;> cases h
      · cases h
theorem eqKind_func {t : TypeId} (h : eqKind P t = .func) : ∃ a b c, P.underlying t = some (.func a b c) := by
  unfold eqKind at h
  cases hu : P.underlying t with
  | none => rw [hu] at h; cases h
  | some e =>
    rw [hu] at h
    cases e <;> simp at h
    · split at h
      · cases hs : shapeT P 20 t <;> rw [hs] at h <;> cases h
      · cases h
    · exact ⟨_, _, _, rfl⟩
theorem eqKind_iface {t : TypeId} (h : eqKind P t = .iface) : ∃ a, P.underlying t = some (.interface a) := by
  unfold eqKind at h
  cases hu : P.underlying t with
  | none => rw [hu] at h; cases h
  | some e =>
    rw [hu] at h
    cases e <;> simp at h
    · split at h
      · cases hs : shapeT P 20 t <;> rw [hs] at h <;> cases h
      · cases h
    · exact ⟨_, rfl⟩

section
variable {w : World} {t : TypeId} (d : Nat)
theorem eq_ptr0 {e : TypeId} (hu : P.underlying t = some (.pointer e)) (b : Option Addr) : (Op.equalIn (d + 1) t (.pointer none) (.pointer b)).run P w = .ok b.isNone w := by simp [Op.equalIn, run_underlying hu]
theorem eq_ptr1 {e : TypeId} (hu : P.underlying t = some (.pointer e)) (b : Addr) : (Op.equalIn (d + 1) t (.pointer (some b)) (.pointer none)).run P w = .ok false w := by simp [Op.equalIn, run_underlying hu]
theorem eq_sl0 {e : TypeId} (hu : P.underlying t = some (.slice e)) (b : Option Addr) (i j k l : Nat) : (Op.equalIn (d + 1) t (.slice none i j) (.slice b k l)).run P w = .ok b.isNone w := by simp [Op.equalIn, run_underlying hu]
theorem eq_sl1 {e : TypeId} (hu : P.underlying t = some (.slice e)) (b : Addr) (i j k l : Nat) : (Op.equalIn (d + 1) t (.slice (some b) i j) (.slice none k l)).run P w = .ok false w := by simp [Op.equalIn, run_underlying hu]
theorem eq_mp0 {k e : TypeId} (hu : P.underlying t = some (.map k e)) (b : Option Nat) : (Op.equalIn (d + 1) t (.map none) (.map b)).run P w = .ok b.isNone w := by simp [Op.equalIn, run_underlying hu]
theorem eq_mp1 {k e : TypeId} (hu : P.underlying t = some (.map k e)) (b : Nat) : (Op.equalIn (d + 1) t (.map (some b)) (.map none)).run P w = .ok false w := by simp [Op.equalIn, run_underlying hu]
theorem eq_fn0 {a b : Array TypeId} {c : Bool} (hu : P.underlying t = some (.func a b c)) : (Op.equalIn (d + 1) t .nilFunc .nilFunc).run P w = .ok true w := by simp [Op.equalIn, run_underlying hu]
theorem eq_fn1 {a b : Array TypeId} {c : Bool} (hu : P.underlying t = some (.func a b c)) (f : Fn) (x y : Array Value) : (Op.equalIn (d + 1) t .nilFunc (.func f x y)).run P w = .ok false w := by simp [Op.equalIn, run_underlying hu]
theorem eq_fn2 {a b : Array TypeId} {c : Bool} (hu : P.underlying t = some (.func a b c)) (f : Fn) (x y : Array Value) : (Op.equalIn (d + 1) t (.func f x y) .nilFunc).run P w = .ok false w := by simp [Op.equalIn, run_underlying hu]
theorem eq_if0 {a : Array (String × TypeId)} (hu : P.underlying t = some (.interface a)) (u : TypeId) (x : Value) : (Op.equalIn (d + 1) t .nilIface (.iface u x)).run P w = .ok false w := by simp [Op.equalIn, run_underlying hu]
theorem eq_if1 {a : Array (String × TypeId)} (hu : P.underlying t = some (.interface a)) (u : TypeId) (x : Value) : (Op.equalIn (d + 1) t (.iface u x) .nilIface).run P w = .ok false w := by simp [Op.equalIn, run_underlying hu]
 end

theorem eqOther_run {ρ : Ren} {w : World} {t : TypeId} {x y : SV} {a b : Value} {c : Bool} (hx : VR ρ x a) (hy : VR ρ y b) (h : eqOther (eqKind P t) x y = some c) :
    (Op.equal t a b).run P w = .ok c w ∧ (∀ op ox oy, (eqGuard op t ox oy a b).run P w = .ok () w) ∧ (∀ k n, a ≠ .int k n) ∧ (∀ k n, a ≠ .float k n) ∧ (∀ k n m, a ≠ .complex k n m) ∧ (∀ s, a ≠ .string s) := by
  have hd : Op.maxDepth = 9999 + 1 := rfl
  cases hk : eqKind P t with
  | no => rw [hk] at h; cases h
  | bool =>
    rw [hk] at h
    have hu := eqKind_bool hk
    cases x <;> simp only [eqOther, eqBool] at h <;> (try cases h)
    cases y <;> simp only at h <;> (try cases h)
    rw [VR_bool.1 hx, VR_bool.1 hy]
    refine ⟨?_, fun op ox oy => eqGuard_plain _ _ _ _ _ _ _ (by simp) (by simp), by simp, by simp, by simp, by simp⟩
    exact run_equalIn_bool' w 9999 t _ _ hu
  | ptr =>
    rw [hk] at h
    obtain ⟨e, hu⟩ := eqKind_ptr hk
    cases x <;> simp only [eqOther, eqPtr] at h <;> (try cases h) <;> cases y <;> simp only at h <;> (try cases h) <;> simp only [VR] at hx hy
    · subst hx; subst hy
      refine ⟨by rw [Op.equal, hd]; first | exact eq_ptr0 9999 hu _ | exact eq_ptr1 9999 hu _ | exact eq_sl0 9999 hu _ _ _ _ _ | exact eq_sl1 9999 hu _ _ _ _ _ | exact eq_mp0 9999 hu _ | exact eq_mp1 9999 hu _ | exact eq_fn0 9999 hu | exact eq_fn1 9999 hu _ _ _ | exact eq_fn2 9999 hu _ _ _ | exact eq_if0 9999 hu _ _ | exact eq_if1 9999 hu _ _, fun op ox oy => eqGuard_plain _ _ _ _ _ _ _ (by simp) (by simp), by simp, by simp, by simp, by simp⟩
    · subst hx; obtain ⟨m, hm, rfl⟩ := hy
      refine ⟨by rw [Op.equal, hd]; first | exact eq_ptr0 9999 hu _ | exact eq_ptr1 9999 hu _ | exact eq_sl0 9999 hu _ _ _ _ _ | exact eq_sl1 9999 hu _ _ _ _ _ | exact eq_mp0 9999 hu _ | exact eq_mp1 9999 hu _ | exact eq_fn0 9999 hu | exact eq_fn1 9999 hu _ _ _ | exact eq_fn2 9999 hu _ _ _ | exact eq_if0 9999 hu _ _ | exact eq_if1 9999 hu _ _, fun op ox oy => eqGuard_plain _ _ _ _ _ _ _ (by simp) (by simp), by simp, by simp, by simp, by simp⟩
    · subst hy; obtain ⟨m, hm, rfl⟩ := hx
      refine ⟨by rw [Op.equal, hd]; first | exact eq_ptr0 9999 hu _ | exact eq_ptr1 9999 hu _ | exact eq_sl0 9999 hu _ _ _ _ _ | exact eq_sl1 9999 hu _ _ _ _ _ | exact eq_mp0 9999 hu _ | exact eq_mp1 9999 hu _ | exact eq_fn0 9999 hu | exact eq_fn1 9999 hu _ _ _ | exact eq_fn2 9999 hu _ _ _ | exact eq_if0 9999 hu _ _ | exact eq_if1 9999 hu _ _, fun op ox oy => eqGuard_plain _ _ _ _ _ _ _ (by simp) (by simp), by simp, by simp, by simp, by simp⟩
  | slice =>
    rw [hk] at h
    obtain ⟨e, hu⟩ := eqKind_slice hk
    cases x <;> simp only [eqOther, eqSlice] at h <;> (try cases h) <;> cases y <;> simp only at h <;> (try cases h) <;> simp only [VR] at hx hy
    · subst hx; subst hy
      refine ⟨by rw [Op.equal, hd]; first | exact eq_ptr0 9999 hu _ | exact eq_ptr1 9999 hu _ | exact eq_sl0 9999 hu _ _ _ _ _ | exact eq_sl1 9999 hu _ _ _ _ _ | exact eq_mp0 9999 hu _ | exact eq_mp1 9999 hu _ | exact eq_fn0 9999 hu | exact eq_fn1 9999 hu _ _ _ | exact eq_fn2 9999 hu _ _ _ | exact eq_if0 9999 hu _ _ | exact eq_if1 9999 hu _ _, fun op ox oy => eqGuard_plain _ _ _ _ _ _ _ (by simp) (by simp), by simp, by simp, by simp, by simp⟩
    · subst hx; obtain ⟨m, a1, c1, hm, rfl, rest⟩ := hy
      refine ⟨by rw [Op.equal, hd]; first | exact eq_ptr0 9999 hu _ | exact eq_ptr1 9999 hu _ | exact eq_sl0 9999 hu _ _ _ _ _ | exact eq_sl1 9999 hu _ _ _ _ _ | exact eq_mp0 9999 hu _ | exact eq_mp1 9999 hu _ | exact eq_fn0 9999 hu | exact eq_fn1 9999 hu _ _ _ | exact eq_fn2 9999 hu _ _ _ | exact eq_if0 9999 hu _ _ | exact eq_if1 9999 hu _ _, fun op ox oy => eqGuard_plain _ _ _ _ _ _ _ (by simp) (by simp), by simp, by simp, by simp, by simp⟩
    · subst hy; obtain ⟨m, a1, c1, hm, rfl, rest⟩ := hx
      refine ⟨by rw [Op.equal, hd]; first | exact eq_ptr0 9999 hu _ | exact eq_ptr1 9999 hu _ | exact eq_sl0 9999 hu _ _ _ _ _ | exact eq_sl1 9999 hu _ _ _ _ _ | exact eq_mp0 9999 hu _ | exact eq_mp1 9999 hu _ | exact eq_fn0 9999 hu | exact eq_fn1 9999 hu _ _ _ | exact eq_fn2 9999 hu _ _ _ | exact eq_if0 9999 hu _ _ | exact eq_if1 9999 hu _ _, fun op ox oy => eqGuard_plain _ _ _ _ _ _ _ (by simp) (by simp), by simp, by simp, by simp, by simp⟩
  | map =>
    rw [hk] at h
    obtain ⟨k, e, hu⟩ := eqKind_map hk
    cases x <;> simp only [eqOther, eqMap] at h <;> (try cases h) <;> cases y <;> simp only at h <;> (try cases h) <;> simp only [VR] at hx hy
    · obtain ⟨m, hm, rfl⟩ := hx; subst hy
      refine ⟨by rw [Op.equal, hd]; first | exact eq_ptr0 9999 hu _ | exact eq_ptr1 9999 hu _ | exact eq_sl0 9999 hu _ _ _ _ _ | exact eq_sl1 9999 hu _ _ _ _ _ | exact eq_mp0 9999 hu _ | exact eq_mp1 9999 hu _ | exact eq_fn0 9999 hu | exact eq_fn1 9999 hu _ _ _ | exact eq_fn2 9999 hu _ _ _ | exact eq_if0 9999 hu _ _ | exact eq_if1 9999 hu _ _, fun op ox oy => eqGuard_plain _ _ _ _ _ _ _ (by simp) (by simp), by simp, by simp, by simp, by simp⟩
    · obtain ⟨m, hm, rfl⟩ := hy; subst hx
      refine ⟨by rw [Op.equal, hd]; first | exact eq_ptr0 9999 hu _ | exact eq_ptr1 9999 hu _ | exact eq_sl0 9999 hu _ _ _ _ _ | exact eq_sl1 9999 hu _ _ _ _ _ | exact eq_mp0 9999 hu _ | exact eq_mp1 9999 hu _ | exact eq_fn0 9999 hu | exact eq_fn1 9999 hu _ _ _ | exact eq_fn2 9999 hu _ _ _ | exact eq_if0 9999 hu _ _ | exact eq_if1 9999 hu _ _, fun op ox oy => eqGuard_plain _ _ _ _ _ _ _ (by simp) (by simp), by simp, by simp, by simp, by simp⟩
    · subst hx; subst hy
      refine ⟨by rw [Op.equal, hd]; first | exact eq_ptr0 9999 hu _ | exact eq_ptr1 9999 hu _ | exact eq_sl0 9999 hu _ _ _ _ _ | exact eq_sl1 9999 hu _ _ _ _ _ | exact eq_mp0 9999 hu _ | exact eq_mp1 9999 hu _ | exact eq_fn0 9999 hu | exact eq_fn1 9999 hu _ _ _ | exact eq_fn2 9999 hu _ _ _ | exact eq_if0 9999 hu _ _ | exact eq_if1 9999 hu _ _, fun op ox oy => eqGuard_plain _ _ _ _ _ _ _ (by simp) (by simp), by simp, by simp, by simp, by simp⟩
  | func =>
    rw [hk] at h
    obtain ⟨f1, f2, f3, hu⟩ := eqKind_func hk
    cases x <;> simp only [eqOther, eqFunc] at h <;> (try cases h) <;> cases y <;> simp only at h <;> (try cases h) <;> simp only [VR] at hx hy
    · obtain ⟨xs, ys, rfl, rest⟩ := hx; subst hy
      refine ⟨by rw [Op.equal, hd]; first | exact eq_ptr0 9999 hu _ | exact eq_ptr1 9999 hu _ | exact eq_sl0 9999 hu _ _ _ _ _ | exact eq_sl1 9999 hu _ _ _ _ _ | exact eq_mp0 9999 hu _ | exact eq_mp1 9999 hu _ | exact eq_fn0 9999 hu | exact eq_fn1 9999 hu _ _ _ | exact eq_fn2 9999 hu _ _ _ | exact eq_if0 9999 hu _ _ | exact eq_if1 9999 hu _ _, fun op ox oy => eqGuard_plain _ _ _ _ _ _ _ (by simp) (by simp), by simp, by simp, by simp, by simp⟩
    · obtain ⟨xs, ys, rfl, rest⟩ := hy; subst hx
      refine ⟨by rw [Op.equal, hd]; first | exact eq_ptr0 9999 hu _ | exact eq_ptr1 9999 hu _ | exact eq_sl0 9999 hu _ _ _ _ _ | exact eq_sl1 9999 hu _ _ _ _ _ | exact eq_mp0 9999 hu _ | exact eq_mp1 9999 hu _ | exact eq_fn0 9999 hu | exact eq_fn1 9999 hu _ _ _ | exact eq_fn2 9999 hu _ _ _ | exact eq_if0 9999 hu _ _ | exact eq_if1 9999 hu _ _, fun op ox oy => eqGuard_plain _ _ _ _ _ _ _ (by simp) (by simp), by simp, by simp, by simp, by simp⟩
    · subst hx; subst hy
      refine ⟨by rw [Op.equal, hd]; first | exact eq_ptr0 9999 hu _ | exact eq_ptr1 9999 hu _ | exact eq_sl0 9999 hu _ _ _ _ _ | exact eq_sl1 9999 hu _ _ _ _ _ | exact eq_mp0 9999 hu _ | exact eq_mp1 9999 hu _ | exact eq_fn0 9999 hu | exact eq_fn1 9999 hu _ _ _ | exact eq_fn2 9999 hu _ _ _ | exact eq_if0 9999 hu _ _ | exact eq_if1 9999 hu _ _, fun op ox oy => eqGuard_plain _ _ _ _ _ _ _ (by simp) (by simp), by simp, by simp, by simp, by simp⟩
  | iface =>
    rw [hk] at h
    obtain ⟨f1, hu⟩ := eqKind_iface hk
    cases x <;> simp only [eqOther, eqIface] at h <;> (try cases h) <;> cases y <;> simp only at h <;> (try cases h) <;> simp only [VR] at hx hy
    · obtain ⟨z, rfl, rest⟩ := hx; subst hy
      refine ⟨by rw [Op.equal, hd]; first | exact eq_ptr0 9999 hu _ | exact eq_ptr1 9999 hu _ | exact eq_sl0 9999 hu _ _ _ _ _ | exact eq_sl1 9999 hu _ _ _ _ _ | exact eq_mp0 9999 hu _ | exact eq_mp1 9999 hu _ | exact eq_fn0 9999 hu | exact eq_fn1 9999 hu _ _ _ | exact eq_fn2 9999 hu _ _ _ | exact eq_if0 9999 hu _ _ | exact eq_if1 9999 hu _ _, fun op ox oy => eqGuard_plain _ _ _ _ _ _ _ (by simp) (by simp), by simp, by simp, by simp, by simp⟩
    · obtain ⟨z, rfl, rest⟩ := hy; subst hx
      refine ⟨by rw [Op.equal, hd]; first | exact eq_ptr0 9999 hu _ | exact eq_ptr1 9999 hu _ | exact eq_sl0 9999 hu _ _ _ _ _ | exact eq_sl1 9999 hu _ _ _ _ _ | exact eq_mp0 9999 hu _ | exact eq_mp1 9999 hu _ | exact eq_fn0 9999 hu | exact eq_fn1 9999 hu _ _ _ | exact eq_fn2 9999 hu _ _ _ | exact eq_if0 9999 hu _ _ | exact eq_if1 9999 hu _ _, fun op ox oy => eqGuard_plain _ _ _ _ _ _ _ (by simp) (by simp), by simp, by simp, by simp, by simp⟩
  | agg sh =>
    rw [hk] at h
    obtain ⟨fs, hu, hg, hs⟩ := eqKind_agg hk
    cases x <;> simp only [eqOther, eqAgg] at h <;> (try cases h) <;> cases y <;> simp only at h <;> (try cases h)
    have hrun := shapeT_run (P := P) 9980 (w := w) 20 t sh _ _ a b c hs (by unfold isAggB; rw [hu]) hx hy h
    simp only [VR] at hx hy
    obtain ⟨as, rfl, hx⟩ := hx
    obtain ⟨bs, rfl, hy⟩ := hy
    exact ⟨hrun, fun op ox oy => run_eqGuard_agg w op t ox oy as bs hg, by simp, by simp, by simp, by simp⟩

theorem binOp_other (op : BinOp) (t : TypeId) (a b : Value) (c : Bool) (w : World) (ho : op = .eql ∨ op = .neq) (h1 : ∀ k n, a ≠ .int k n) (h2 : ∀ k n, a ≠ .float k n) (h3 : ∀ k n m, a ≠ .complex k n m) (h4 : ∀ s, a ≠ .string s)
    (h : (Op.equal t a b).run P w = .ok c w) : (binOp op t a b).run P w = .ok (.bool (if op = .eql then c else !c)) w := by
  rcases ho with rfl | rfl
  · have : binOp .eql t a b = (do pure (.bool (← Op.equal t a b)) : Sem Value) := by
      cases a <;> simp_all [binOp]
    rw [this, Sem.run_bind, h]; simp
  · have : binOp .neq t a b = (do pure (.bool (!(← Op.equal t a b))) : Sem Value) := by
      cases a <;> simp_all [binOp]
    rw [this, Sem.run_bind, h]; simp

theorem sEq_run {ρ : Ren} {w : World} {op : BinOp} {t : TypeId} {ox oy : Operand} {x y : SV} {a b : Value} {c : Bool} (ho : op = .eql ∨ op = .neq) (hx : VR ρ x a) (hy : VR ρ y b) (h : sEq (eqKind P t) x y = some c) :
    (binSem op t ox oy a b).run P w = .ok (.bool (if op = .eql then c else !c)) w := by
  by_cases hi : ∃ k n, x = .int k n
  · obtain ⟨k, n, rfl⟩ := hi
    cases y <;> simp only [sEq] at h <;> (try cases h)
    rename_i j m
    rw [kEq_iff] at h
    by_cases e : k = j
    · subst e
      simp at h
      rw [VR_int.1 hx, VR_int.1 hy, binSem_int]
      rcases ho with rfl | rfl <;> simp [binOp, Op.intCmp, ← h, iEq_iff]
      rfl
    · simp [e] at h
  · by_cases hs : ∃ l, x = .str l
    · obtain ⟨l, rfl⟩ := hs
      cases y <;> simp only [sEq] at h <;> (try cases h)
      obtain ⟨s1, rfl, rfl⟩ := VR_str.1 hx
      obtain ⟨s2, rfl, rfl⟩ := VR_str.1 hy
      rw [binSem_str, str_eq]
      rcases ho with rfl | rfl <;> simp [binOp, Op.stringOp]
    · have h' : eqOther (eqKind P t) x y = some c := by
        cases x <;> simp_all [sEq]
      obtain ⟨h1, h2, h3, h4, h5, h6⟩ := eqOther_run (w := w) hx hy h'
      unfold binSem
      rw [Sem.run_bind, h2]
      simp only [Result.andThen_ok]
      exact binOp_other op t a b c w ho h3 h4 h5 h6 h1

theorem bits2_run (k : IntKind) (f : BitVec k.bits → BitVec k.bits → BitVec k.bits) (a b : Int) : bits2 k f a b = some (.int k (k.wrap (f (BitVec.ofInt k.bits a) (BitVec.ofInt k.bits b)).toNat)) := by
  unfold bits2; rw [wrapQ_eq]

theorem bin_ok {ρ : Ren} {w : World} {op : BinOp} {t : TypeId} {ox oy : Operand} {x y r : SV} {a b : Value} (h : sBin op (eqKind P t) x y = some r) (hx : VR ρ x a) (hy : VR ρ y b) :
    Gives P ρ w (binSem op t ox oy a b) r := by
  cases op <;> simp only [sBin] at h
  case add =>
    rcases nums2_inv h with ⟨k, m, n, rfl, rfl, h'⟩ | ⟨s, u, rfl, rfl, h'⟩
    · simp at h'; subst h'
      rw [VR_int.1 hx, VR_int.1 hy]
      exact .of (v := .int k (k.wrap (m + n))) (by rw [binSem_int]; simp [binOp, Op.intArith]) (by rw [wrapQ_eq]; simp only [VR])
    · unfold bJoin at h'
      rw [ble_iff] at h'
      obtain ⟨s1, rfl, rfl⟩ := VR_str.1 hx
      obtain ⟨s2, rfl, rfl⟩ := VR_str.1 hy
      by_cases hl : (s1.data.toList.map (·.toNat)).length + (s2.data.toList.map (·.toNat)).length ≤ 1099511627776
      · simp only [hl, decide_true, cond_true, Option.some.injEq] at h'
        subst h'
        simp at hl
        refine .of (v := .string (s1 ++ s2)) ?_ (by simp only [VR]; exact ⟨_, rfl, append_toNat s1 s2⟩)
        rw [binSem_str]
        have hsz : ¬ ((s1.size + s2.size : Nat) : Int) > IntKind.i64.max := by
          simp only [IntKind.max, IntKind.signed, IntKind.bits, if_true]
          have h1 : s1.size = s1.data.size := rfl
          have h2 : s2.size = s2.data.size := rfl
          rw [h1, h2]
          omega
        simp only [binOp, Op.stringOp]
        rw [if_neg hsz]; rfl
      · simp only [hl, decide_false, cond_false] at h'; cases h'
  case sub =>
    obtain ⟨k, m, n, rfl, rfl, h'⟩ := ints2_inv h
    simp at h'; subst h'
    rw [VR_int.1 hx, VR_int.1 hy]
    exact .of (v := .int k (k.wrap (m - n))) (by rw [binSem_int]; simp [binOp, Op.intArith]) (by rw [wrapQ_eq]; simp only [VR])
  case mul =>
    obtain ⟨k, m, n, rfl, rfl, h'⟩ := ints2_inv h
    simp at h'; subst h'
    rw [VR_int.1 hx, VR_int.1 hy]
    exact .of (v := .int k (k.wrap (m * n))) (by rw [binSem_int]; simp [binOp, Op.intArith]) (by rw [wrapQ_eq]; simp only [VR])
  case quo =>
    obtain ⟨k, m, n, rfl, rfl, h'⟩ := ints2_inv h
    unfold bQuo at h'
    rw [iEq_iff] at h'
    by_cases hn : n = 0
    · simp [hn] at h'
    · have e : (n == Int.ofNat 0) = false := by simpa using hn
      rw [e] at h'; simp at h'; subst h'
      rw [VR_int.1 hx, VR_int.1 hy]
      exact .of (v := .int k (k.wrap (m.tdiv n))) (by rw [binSem_int]; simp [binOp, Op.intDiv, hn]) (by rw [wrapQ_eq]; simp only [VR])
  case rem =>
    obtain ⟨k, m, n, rfl, rfl, h'⟩ := ints2_inv h
    unfold bRem at h'
    rw [iEq_iff] at h'
    by_cases hn : n = 0
    · simp [hn] at h'
    · have e : (n == Int.ofNat 0) = false := by simpa using hn
      rw [e] at h'; simp at h'; subst h'
      rw [VR_int.1 hx, VR_int.1 hy]
      exact .of (v := .int k (m.tmod n)) (by rw [binSem_int]; simp [binOp, Op.intDiv, hn]) (by simp only [VR])
  case and =>
    obtain ⟨k, m, n, rfl, rfl, h'⟩ := ints2_inv h
    rw [bAnd, bits2_run] at h'; simp at h'; subst h'
    rw [VR_int.1 hx, VR_int.1 hy]
    exact .of (by rw [binSem_int]; simp [binOp, Op.intBits]; rfl) (by simp only [VR])
  case or =>
    obtain ⟨k, m, n, rfl, rfl, h'⟩ := ints2_inv h
    rw [bOr, bits2_run] at h'; simp at h'; subst h'
    rw [VR_int.1 hx, VR_int.1 hy]
    exact .of (by rw [binSem_int]; simp [binOp, Op.intBits]; rfl) (by simp only [VR])
  case xor =>
    obtain ⟨k, m, n, rfl, rfl, h'⟩ := ints2_inv h
    rw [bXor, bits2_run] at h'; simp at h'; subst h'
    rw [VR_int.1 hx, VR_int.1 hy]
    exact .of (by rw [binSem_int]; simp [binOp, Op.intBits]; rfl) (by simp only [VR])
  case andNot =>
    obtain ⟨k, m, n, rfl, rfl, h'⟩ := ints2_inv h
    rw [bAndNot, bits2_run] at h'; simp at h'; subst h'
    rw [VR_int.1 hx, VR_int.1 hy]
    exact .of (by rw [binSem_int]; simp [binOp, Op.intBits]; rfl) (by simp only [VR])
  case shl =>
    obtain ⟨k, m, j, n, rfl, rfl, h'⟩ := shift2_inv h
    rw [VR_int.1 hx, VR_int.1 hy]
    have hr : r = .int k (k.wrap (m * 2 ^ (min n k.bits))) := by
      cases m <;> simp only [bShl, Option.some.injEq] at h' <;> rw [← h', wrapQ_eq] <;> simp
    subst hr
    refine .of (v := .int k (k.wrap (m * 2 ^ (min n k.bits)))) ?_ (by simp only [VR])
    rw [binSem_int]
    have : ¬ (Int.ofNat n < 0) := by simp
    simp only [binOp, Op.shift, if_neg this]
    simp
  case shr =>
    obtain ⟨k, m, j, n, rfl, rfl, h'⟩ := shift2_inv h
    rw [VR_int.1 hx, VR_int.1 hy]
    have hr : r = .int k (m.fdiv (2 ^ (min n k.bits))) := by
      cases m with
      | ofNat m =>
        simp only [bShr, Option.some.injEq] at h'
        rw [← h']
        congr 1
        rw [Int.fdiv_eq_ediv_of_nonneg _ (by exact Int.pow_nonneg (by omega))]
        simp
      | negSucc m => simp only [bShr, Option.some.injEq] at h'; rw [← h']
    subst hr
    refine .of (v := .int k (m.fdiv (2 ^ (min n k.bits)))) ?_ (by simp only [VR])
    rw [binSem_int]
    have : ¬ (Int.ofNat n < 0) := by simp
    simp only [binOp, Op.shift, if_neg this]
    simp
  case eql =>
    cases hs : sEq (eqKind P t) x y with
    | none => rw [hs] at h; cases h
    | some c =>
      rw [hs] at h
      simp at h; subst h
      exact .of (sEq_run (.inl rfl) hx hy hs) (by simp only [VR]; simp)
  case neq =>
    cases hs : sEq (eqKind P t) x y with
    | none => rw [hs] at h; cases h
    | some c =>
      rw [hs] at h
      simp at h; subst h
      exact .of (sEq_run (.inr rfl) hx hy hs) (by simp only [VR]; simp)
  all_goals
    rcases nums2_inv h with ⟨k, m, n, rfl, rfl, h'⟩ | ⟨s, u, rfl, rfl, h'⟩
    · simp only [Option.some.injEq] at h'; subst h'
      rw [VR_int.1 hx, VR_int.1 hy]
      refine .of (by rw [binSem_int]; simp [binOp, Op.intCmp]; rfl) (by simp only [VR, iLt_iff, iLe_iff]; try simp)
    · simp only [Option.some.injEq] at h'; subst h'
      obtain ⟨s1, rfl, rfl⟩ := VR_str.1 hx
      obtain ⟨s2, rfl, rfl⟩ := VR_str.1 hy
      refine .of (by rw [binSem_str]; simp [binOp, Op.stringOp]; rfl) (by simp only [VR, str_less, str_eq]; try simp)

theorem un_ok {ρ : Ren} {w : World} {op : UnOp} {x r : SV} {a : Value} (h : sUn op x = some r) (hx : VR ρ x a) : Gives P ρ w (Op.unary op a) r := by
  cases op <;> simp only [sUn] at h <;> (try cases h) <;> cases x <;> simp only at h <;> cases h
  · rw [VR_int.1 hx]
    exact .of (by simp [Op.unary, Op.intArith]; rfl) (by rw [wrapQ_eq]; simp [VR])
  · rw [VR_int.1 hx]
    exact .of (v := .int _ _) rfl (by simp only [VR])
  · rw [VR_bool.1 hx]
    exact .of (by simp [Op.unary]; rfl) (by simp only [VR])
end Go.Sim
