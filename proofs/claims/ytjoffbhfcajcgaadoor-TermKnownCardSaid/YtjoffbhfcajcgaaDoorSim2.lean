/- How the reduced machine's memory stands to the model's: the relation, and what keeps it. -/
import Derived.Test.YtjoffbhfcajcgaaDoorSim1
import Derived.Laws.IdiomCopy
import Derived.Below
set_option linter.unusedVariables false
set_option linter.unusedSimpArgs false
namespace Go.Sim
open Go.RowKit

/- ---------- the store keyed by numbers ---------- -/
theorem Tr.get_lf {α : Type} (k : Nat) : (Tr.lf : Tr α).get k = none := rfl
theorem Tr.get_zero {α : Type} (l r : Tr α) (v : Option α) : (Tr.nd l v r).get 0 = v := rfl
theorem Tr.get_succ {α : Type} (l r : Tr α) (v : Option α) (k : Nat) :
    (Tr.nd l v r).get (k + 1) = if k % 2 = 0 then l.get (k / 2) else r.get (k / 2) := by
  have h : (Tr.nd l v r).get (k + 1) = Bool.rec (motive := fun _ => Option α) (r.get (Nat.div k 2)) (l.get (Nat.div k 2)) (Nat.beq (Nat.mod k 2) 0) := rfl
  rw [h]
  by_cases e : k % 2 = 0
  · rw [if_pos e]
    have : Nat.beq (Nat.mod k 2) 0 = true := by rw [Nat.beq_eq]; exact e
    rw [this]; rfl
  · rw [if_neg e]
    have : Nat.beq (Nat.mod k 2) 0 = false := by
      rw [Bool.eq_false_iff]; intro h2; rw [Nat.beq_eq] at h2; exact e h2
    rw [this]; rfl
theorem Tr.setF_zero {α : Type} (a : α) (t : Tr α) (k : Nat) : Tr.setF a 0 t k = t := rfl
theorem Tr.setF_lf_zero {α : Type} (a : α) (f : Nat) : Tr.setF a (f + 1) .lf 0 = .nd .lf (some a) .lf := rfl
theorem Tr.setF_nd_zero {α : Type} (a : α) (f : Nat) (l r : Tr α) (v : Option α) : Tr.setF a (f + 1) (.nd l v r) 0 = .nd l (some a) r := rfl
theorem Tr.setF_lf_succ {α : Type} (a : α) (f k : Nat) :
    Tr.setF a (f + 1) .lf (k + 1) = if k % 2 = 0 then .nd (Tr.setF a f .lf (k / 2)) none .lf else .nd .lf none (Tr.setF a f .lf (k / 2)) := by
  have h : Tr.setF a (f + 1) .lf (k + 1) = Bool.rec (motive := fun _ => Tr α) (.nd .lf none (Tr.setF a f .lf (Nat.div k 2))) (.nd (Tr.setF a f .lf (Nat.div k 2)) none .lf) (Nat.beq (Nat.mod k 2) 0) := rfl
  rw [h]
  by_cases e : k % 2 = 0
  · rw [if_pos e]
    have : Nat.beq (Nat.mod k 2) 0 = true := by rw [Nat.beq_eq]; exact e
    rw [this]; rfl
  · rw [if_neg e]
    have : Nat.beq (Nat.mod k 2) 0 = false := by
      rw [Bool.eq_false_iff]; intro h2; rw [Nat.beq_eq] at h2; exact e h2
    rw [this]; rfl
theorem Tr.setF_nd_succ {α : Type} (a : α) (f k : Nat) (l r : Tr α) (v : Option α) :
    Tr.setF a (f + 1) (.nd l v r) (k + 1) = if k % 2 = 0 then .nd (Tr.setF a f l (k / 2)) v r else .nd l v (Tr.setF a f r (k / 2)) := by
  have h : Tr.setF a (f + 1) (.nd l v r) (k + 1) = Bool.rec (motive := fun _ => Tr α) (.nd l v (Tr.setF a f r (Nat.div k 2))) (.nd (Tr.setF a f l (Nat.div k 2)) v r) (Nat.beq (Nat.mod k 2) 0) := rfl
  rw [h]
  by_cases e : k % 2 = 0
  · rw [if_pos e]
    have : Nat.beq (Nat.mod k 2) 0 = true := by rw [Nat.beq_eq]; exact e
    rw [this]; rfl
  · rw [if_neg e]
    have : Nat.beq (Nat.mod k 2) 0 = false := by
      rw [Bool.eq_false_iff]; intro h2; rw [Nat.beq_eq] at h2; exact e h2
    rw [this]; rfl

theorem Tr.get_setF {α : Type} (a : α) : ∀ (f : Nat) (t : Tr α) (k j : Nat), k < f →
    (Tr.setF a f t k).get j = if j = k then some a else t.get j := by
  intro f
  induction f with
  | zero => intro t k j h; omega
  | succ f ih =>
    intro t k j h
    cases t with
    | lf =>
      cases k with
      | zero =>
        rw [Tr.setF_lf_zero]
        cases j with
        | zero => simp [Tr.get_zero]
        | succ j => simp [Tr.get_succ, Tr.get_lf]
      | succ k =>
        rw [Tr.setF_lf_succ]
        have hk : k / 2 < f := by omega
        cases j with
        | zero => split <;> simp [Tr.get_zero, Tr.get_lf]
        | succ j =>
          split <;> rename_i e <;> rw [Tr.get_succ] <;> split <;> rename_i e2 <;> (try rw [ih _ _ _ hk]) <;> simp only [Tr.get_lf, Nat.add_right_cancel_iff] <;>
            (by_cases e3 : j / 2 = k / 2 <;> by_cases e4 : j = k <;> simp [e3, e4] <;> omega)
    | nd l v r =>
      cases k with
      | zero =>
        rw [Tr.setF_nd_zero]
        cases j with
        | zero => simp [Tr.get_zero]
        | succ j => simp [Tr.get_succ]
      | succ k =>
        rw [Tr.setF_nd_succ]
        have hk : k / 2 < f := by omega
        cases j with
        | zero => split <;> simp [Tr.get_zero]
        | succ j =>
          split <;> rename_i e <;> rw [Tr.get_succ, Tr.get_succ] <;> split <;> rename_i e2 <;> (try rw [ih _ _ _ hk]) <;> simp only [Nat.add_right_cancel_iff] <;>
            (by_cases e3 : j / 2 = k / 2 <;> by_cases e4 : j = k <;> simp [e3, e4] <;> omega)

theorem Tr.get_set {α : Type} (t : Tr α) (k j : Nat) (a : α) : (t.set k a).get j = if j = k then some a else t.get j :=
  Tr.get_setF a (k + 1) t k j (Nat.lt_succ_self k)

/- ---------- the heap ---------- -/
theorem ble_iff (a b : Nat) : Nat.ble a b = decide (a ≤ b) := by
  by_cases h : a ≤ b
  · simp [h]
  · rw [decide_eq_false h, Bool.eq_false_iff]; exact fun h2 => h (Nat.le_of_ble_eq_true h2)
theorem beq_iff (a b : Nat) : Nat.beq a b = decide (a = b) := by
  by_cases h : a = b
  · simp [h]
  · rw [decide_eq_false h, Bool.eq_false_iff]; exact fun h2 => h (Nat.eq_of_beq_eq_true h2)
theorem SHeap.get_eq (H : SHeap) (b : Nat) : H.get b = if b < H.next then H.tr.get b else none := by
  unfold SHeap.get
  by_cases h : b < H.next
  · have : Nat.ble (b + 1) H.next = true := by rw [ble_iff]; simp; omega
    rw [this, if_pos h]; rfl
  · have : Nat.ble (b + 1) H.next = false := by rw [ble_iff]; simp; omega
    rw [this, if_neg h]; rfl
theorem SHeap.lt_of_get {H : SHeap} {b : Nat} {o : SObj} (h : H.get b = some o) : b < H.next := by
  rw [SHeap.get_eq] at h
  by_cases hb : b < H.next
  · exact hb
  · rw [if_neg hb] at h; cases h
theorem SHeap.get_ge {H : SHeap} {b : Nat} (h : H.next ≤ b) : H.get b = none := by rw [SHeap.get_eq, if_neg (by omega)]
theorem SHeap.get_set (H : SHeap) (b j : Nat) (o : SObj) (hb : b < H.next) : (H.set b o).get j = if j = b then some o else H.get j := by
  rw [SHeap.get_eq, SHeap.get_eq]
  simp only [SHeap.set, Tr.get_set]
  by_cases e : j = b
  · subst e; simp [hb]
  · simp [e]
theorem SHeap.get_alloc (H : SHeap) (j : Nat) (o : SObj) : (H.alloc o).get j = if j = H.next then some o else H.get j := by
  rw [SHeap.get_eq, SHeap.get_eq]
  simp only [SHeap.alloc, Tr.get_set]
  by_cases e : j = H.next
  · subst e; simp
  · by_cases h : j < H.next
    · have : j < H.next + 1 := by omega
      simp [e, h, this]
    · have : ¬ j < H.next + 1 := by omega
      simp [e, h, this]
theorem SHeap.next_set (H : SHeap) (b : Nat) (o : SObj) : (H.set b o).next = H.next := rfl
theorem SHeap.next_alloc (H : SHeap) (o : SObj) : (H.alloc o).next = H.next + 1 := rfl

/- ---------- values ---------- -/
structure Img where
  blk : Nat
  d : Nat
  esz : Nat
  msz : Nat
abbrev Ren := Nat → Option Img

def capOk (cap c : Nat) : Prop := cap / 2 ≤ c ∧ (cap % 2 = 0 → c = cap / 2)

mutual
def VR (ρ : Ren) : SV → Value → Prop
  | .bool b, v => v = .bool b
  | .int k n, v => v = .int k n
  | .str l, v => ∃ s : ByteArray, v = .string s ∧ s.data.toList.map (·.toNat) = l
  | .nilp, v => v = .pointer none
  | .ptr b q r, v => ∃ m, ρ b = some m ∧ v = .pointer (some ⟨m.blk, m.d + q * m.esz + r, none⟩)
  | .nils, v => v = .slice none 0 0
  | .slice b q len cap, v => ∃ m a c, ρ b = some m ∧ v = .slice (some a) len c ∧ capOk cap c ∧ len ≤ c ∧
      (c ≠ 0 → a = ⟨m.blk, m.d + q * m.esz, none⟩ ∧ m.d + q * m.esz + c * m.esz ≤ m.msz)
  | .agg l, v => ∃ vs : Array Value, v = .agg vs ∧ VRs ρ l vs.toList
  | .tup l, v => ∃ vs : Array Value, v = .tuple vs ∧ VRs ρ l vs.toList
  | .fn f a b, v => ∃ xs ys : Array Value, v = .func (.func f) xs ys ∧ VRs ρ a xs.toList ∧ VRs ρ b ys.toList
  | .nilf, v => v = .nilFunc
  | .iface t x, v => ∃ y, v = .iface t y ∧ VR ρ x y
  | .nili, v => v = .nilIface
  | .mp r, v => ∃ m, ρ r = some m ∧ v = .map (some m.blk)
  | .nilm, v => v = .map none
def VRs (ρ : Ren) : List SV → List Value → Prop
  | [], l => l = []
  | x :: xs, l => ∃ y ys, l = y :: ys ∧ VR ρ x y ∧ VRs ρ xs ys
 end

theorem VRs_nil (ρ : Ren) : VRs ρ [] [] := by simp [VRs]
theorem VRs_cons {ρ : Ren} {x : SV} {y : Value} {xs : List SV} {ys : List Value} (h : VR ρ x y) (hs : VRs ρ xs ys) : VRs ρ (x :: xs) (y :: ys) := by
  simp only [VRs]; exact ⟨y, ys, rfl, h, hs⟩
theorem VRs_cons_inv {ρ : Ren} {x : SV} {y : Value} {xs : List SV} {ys : List Value} (h : VRs ρ (x :: xs) (y :: ys)) : VR ρ x y ∧ VRs ρ xs ys := by
  simp only [VRs] at h
  obtain ⟨a, as, he, h1, h2⟩ := h
  cases he
  exact ⟨h1, h2⟩
theorem VRs_length {ρ : Ren} : ∀ {xs : List SV} {ys : List Value}, VRs ρ xs ys → ys.length = xs.length
  | [], ys, h => by simp only [VRs] at h; simp [h]
  | x :: xs, ys, h => by
    simp only [VRs] at h
    obtain ⟨a, as, rfl, h1, h2⟩ := h
    simp [VRs_length h2]
theorem VRs_get {ρ : Ren} : ∀ {xs : List SV} {ys : List Value}, VRs ρ xs ys → ∀ {i : Nat} {x : SV}, xs[i]? = some x → ∃ y, ys[i]? = some y ∧ VR ρ x y
  | [], ys, h, i, x, hx => by simp at hx
  | a :: xs, ys, h, i, x, hx => by
    simp only [VRs] at h
    obtain ⟨b, bs, rfl, h1, h2⟩ := h
    cases i with
    | zero => simp at hx; subst hx; exact ⟨b, by simp, h1⟩
    | succ i =>
      simp at hx
      obtain ⟨y, hy, hr⟩ := VRs_get h2 hx
      exact ⟨y, by simpa using hy, hr⟩
theorem VRs_of_get {ρ : Ren} : ∀ {xs : List SV} {ys : List Value}, ys.length = xs.length → (∀ (i : Nat) (x : SV), xs[i]? = some x → ∃ y, ys[i]? = some y ∧ VR ρ x y) → VRs ρ xs ys
  | [], ys, hl, h => by simp only [VRs]; exact List.length_eq_zero_iff.1 (by simpa using hl)
  | a :: xs, [], hl, h => by simp at hl
  | a :: xs, b :: bs, hl, h => by
    refine VRs_cons ?_ (VRs_of_get (by simpa using hl) fun i x hx => ?_)
    · obtain ⟨y, hy, hr⟩ := h 0 a (by simp)
      simp at hy; subst hy; exact hr
    · obtain ⟨y, hy, hr⟩ := h (i + 1) x (by simpa using hx)
      exact ⟨y, by simpa using hy, hr⟩
theorem VRs_append {ρ : Ren} {xs xs' : List SV} {ys ys' : List Value} (h : VRs ρ xs ys) (h' : VRs ρ xs' ys') : VRs ρ (xs ++ xs') (ys ++ ys') := by
  induction xs generalizing ys with
  | nil => simp only [VRs] at h; subst h; simpa using h'
  | cons a xs ih =>
    simp only [VRs] at h
    obtain ⟨b, bs, rfl, h1, h2⟩ := h
    exact VRs_cons h1 (ih h2)
theorem VRs_take {ρ : Ren} (n : Nat) {xs : List SV} {ys : List Value} (h : VRs ρ xs ys) : VRs ρ (xs.take n) (ys.take n) := by
  refine VRs_of_get (by simp [VRs_length h]) fun i x hx => ?_
  rw [List.getElem?_take] at hx ⊢
  split at hx
  · rename_i hlt
    obtain ⟨y, hy, hr⟩ := VRs_get h hx
    exact ⟨y, by rw [if_pos hlt]; exact hy, hr⟩
  · cases hx
theorem VRs_drop {ρ : Ren} (n : Nat) {xs : List SV} {ys : List Value} (h : VRs ρ xs ys) : VRs ρ (xs.drop n) (ys.drop n) := by
  refine VRs_of_get (by simp [VRs_length h]) fun i x hx => ?_
  rw [List.getElem?_drop] at hx ⊢
  exact VRs_get h hx
theorem VRs_set {ρ : Ren} {xs : List SV} {ys : List Value} (h : VRs ρ xs ys) (i : Nat) {x : SV} {y : Value} (hx : VR ρ x y) : VRs ρ (xs.set i x) (ys.set i y) := by
  refine VRs_of_get (by simp [VRs_length h]) fun j z hz => ?_
  rw [List.getElem?_set] at hz ⊢
  have hl := VRs_length h
  split at hz
  · rename_i e; subst e
    split at hz
    · rename_i hlt
      cases hz
      exact ⟨y, by rw [if_pos rfl, if_pos (by omega)], hx⟩
    · cases hz
  · rename_i e
    obtain ⟨w, hw, hr⟩ := VRs_get h hz
    exact ⟨w, by rw [if_neg e]; exact hw, hr⟩

/- ---------- more is known ---------- -/
def Ren.le (ρ ρ' : Ren) : Prop := ∀ b m, ρ b = some m → ρ' b = some m
theorem Ren.le_refl (ρ : Ren) : ρ.le ρ := fun _ _ h => h
theorem Ren.le_trans {a b c : Ren} (h : a.le b) (h' : b.le c) : a.le c := fun x m hm => h' x m (h x m hm)

mutual
theorem VR_mono {ρ ρ' : Ren} (h : ρ.le ρ') : ∀ (x : SV) {v : Value}, VR ρ x v → VR ρ' x v
  | .bool _, _, hv => by simpa only [VR] using hv
  | .int _ _, _, hv => by simpa only [VR] using hv
  | .str _, _, hv => by simpa only [VR] using hv
  | .nilp, _, hv => by simpa only [VR] using hv
  | .ptr _ _ _, _, hv => by
    simp only [VR] at hv ⊢
    obtain ⟨m, hm, rfl⟩ := hv
    exact ⟨m, h _ _ hm, rfl⟩
  | .nils, _, hv => by simpa only [VR] using hv
  | .slice _ _ _ _, _, hv => by
    simp only [VR] at hv ⊢
    obtain ⟨m, a, c, hm, rest⟩ := hv
    exact ⟨m, a, c, h _ _ hm, rest⟩
  | .agg l, _, hv => by
    simp only [VR] at hv ⊢
    obtain ⟨vs, rfl, hl⟩ := hv
    exact ⟨vs, rfl, VRs_mono h l hl⟩
  | .tup l, _, hv => by
    simp only [VR] at hv ⊢
    obtain ⟨vs, rfl, hl⟩ := hv
    exact ⟨vs, rfl, VRs_mono h l hl⟩
  | .fn _ a b, _, hv => by
    simp only [VR] at hv ⊢
    obtain ⟨xs, ys, rfl, ha, hb⟩ := hv
    exact ⟨xs, ys, rfl, VRs_mono h a ha, VRs_mono h b hb⟩
  | .nilf, _, hv => by simpa only [VR] using hv
  | .iface _ x, _, hv => by
    simp only [VR] at hv ⊢
    obtain ⟨y, rfl, hy⟩ := hv
    exact ⟨y, rfl, VR_mono h x hy⟩
  | .nili, _, hv => by simpa only [VR] using hv
  | .mp _, _, hv => by
    simp only [VR] at hv ⊢
    obtain ⟨m, hm, rfl⟩ := hv
    exact ⟨m, h _ _ hm, rfl⟩
  | .nilm, _, hv => by simpa only [VR] using hv
theorem VRs_mono {ρ ρ' : Ren} (h : ρ.le ρ') : ∀ (xs : List SV) {vs : List Value}, VRs ρ xs vs → VRs ρ' xs vs
  | [], _, hv => by simpa only [VRs] using hv
  | x :: xs, _, hv => by
    simp only [VRs] at hv ⊢
    obtain ⟨y, ys, rfl, hy, hys⟩ := hv
    exact ⟨y, ys, rfl, VR_mono h x hy, VRs_mono h xs hys⟩
 end

/- a value's cells are related cell by cell -/
theorem VR_cells {ρ : Ren} {x : SV} {v : Value} (h : VR ρ x v) : VRs ρ x.cells v.cells.toList := by
  cases x <;> simp only [VR] at h <;> first
    | (obtain ⟨vs, rfl, hl⟩ := h; simpa [SV.cells, Value.cells] using hl)
    | (obtain ⟨s, rfl, hl⟩ := h; exact VRs_cons (by simp only [VR]; exact ⟨s, rfl, hl⟩) (VRs_nil ρ))
    | (obtain ⟨m, hm, rfl⟩ := h; exact VRs_cons (by simp only [VR]; exact ⟨m, hm, rfl⟩) (VRs_nil ρ))
    | (obtain ⟨m, a, c, hm, rfl, rest⟩ := h; exact VRs_cons (by simp only [VR]; exact ⟨m, a, c, hm, rfl, rest⟩) (VRs_nil ρ))
    | (obtain ⟨xs, ys, rfl, ha, hb⟩ := h; exact VRs_cons (by simp only [VR]; exact ⟨xs, ys, rfl, ha, hb⟩) (VRs_nil ρ))
    | (obtain ⟨y, rfl, hy⟩ := h; exact VRs_cons (by simp only [VR]; exact ⟨y, rfl, hy⟩) (VRs_nil ρ))
    | (subst h; exact VRs_cons (by simp only [VR]) (VRs_nil ρ))

theorem VR_cell {ρ : Ren} {x : SV} {v : Value} (h : VR ρ x v) (hc : x.cell = true) : v.oneCell' = true := by
  cases x <;> simp only [VR] at h <;> first
    | (simp [SV.cell] at hc; done)
    | (obtain ⟨s, rfl, hl⟩ := h; rfl)
    | (obtain ⟨m, hm, rfl⟩ := h; rfl)
    | (obtain ⟨m, a, c, hm, rfl, rest⟩ := h; rfl)
    | (obtain ⟨xs, ys, rfl, ha, hb⟩ := h; rfl)
    | (obtain ⟨y, rfl, hy⟩ := h; rfl)
    | (subst h; rfl)
theorem VRs_cell {ρ : Ren} {xs : List SV} {vs : List Value} (h : VRs ρ xs vs) (hc : xs.all SV.cell = true) : ∀ v ∈ vs, v.oneCell' = true := by
  induction xs generalizing vs with
  | nil => simp only [VRs] at h; subst h; simp
  | cons a xs ih =>
    simp only [VRs] at h
    obtain ⟨b, bs, rfl, h1, h2⟩ := h
    simp only [List.all_cons, Bool.and_eq_true] at hc
    intro v hv
    rcases List.mem_cons.1 hv with rfl | hv
    · exact VR_cell h1 hc.1
    · exact ih h2 hc.2 v hv

/- ---------- cells of a row of elements ---------- -/
def cellOf (l : List SV) (esz j : Nat) : Option SV := (l[j / esz]?).bind fun v => v.cells[j % esz]?
def Even (esz : Nat) (l : List SV) : Prop := ∀ x ∈ l, x.cells.length = esz ∧ x.cells.all SV.cell = true

theorem cellOf_at {l : List SV} {esz q r : Nat} {x y : SV} (h0 : r < esz) (hq : l[q]? = some x) (hr : x.cells[r]? = some y) : cellOf l esz (q * esz + r) = some y := by
  unfold cellOf
  have h1 : (q * esz + r) / esz = q := by rw [Nat.mul_comm, Nat.mul_add_div (by omega), Nat.div_eq_of_lt h0]; omega
  have h2 : (q * esz + r) % esz = r := by rw [Nat.mul_comm, Nat.mul_add_mod, Nat.mod_eq_of_lt h0]
  rw [h1, h2, hq]; exact hr
theorem cellOf_lt {l : List SV} {esz j : Nat} {y : SV} (h : cellOf l esz j = some y) (h0 : 0 < esz) : j < l.length * esz := by
  unfold cellOf at h
  cases hq : l[j / esz]? with
  | none => rw [hq] at h; cases h
  | some x =>
    have := (List.getElem?_eq_some_iff.1 hq).1
    have h3 : esz * (j / esz) + j % esz = j := Nat.div_add_mod j esz
    have h4 := Nat.mod_lt j h0
    calc j = esz * (j / esz) + j % esz := h3.symm
      _ < esz * (j / esz) + esz := by omega
      _ = (j / esz + 1) * esz := by rw [Nat.add_mul, Nat.mul_comm]; omega
      _ ≤ l.length * esz := Nat.mul_le_mul_right _ this
theorem Even.cellOf {l : List SV} {esz : Nat} (he : Even esz l) (h0 : 0 < esz) {j : Nat} (hj : j < l.length * esz) : ∃ y, cellOf l esz j = some y ∧ y.cell = true := by
  have hq : j / esz < l.length := (Nat.div_lt_iff_lt_mul h0).2 hj
  have hx := he l[j / esz] (List.getElem_mem hq)
  have hr : j % esz < l[j / esz].cells.length := by rw [hx.1]; exact Nat.mod_lt _ h0
  refine ⟨l[j / esz].cells[j % esz], ?_, ?_⟩
  · unfold Go.Sim.cellOf; simp [hq, hr]
  · exact List.all_eq_true.1 hx.2 _ (List.getElem_mem hr)
theorem flat_get {esz : Nat} (h0 : 0 < esz) : ∀ (l : List SV), Even esz l → ∀ j, (l.flatMap SV.cells)[j]? = cellOf l esz j
  | [], _, j => by simp [cellOf]
  | x :: l, he, j => by
    have hx := (he x (by simp)).1
    rw [List.flatMap_cons, List.getElem?_append]
    by_cases hj : j < esz
    · rw [if_pos (by omega)]
      unfold cellOf
      simp [Nat.div_eq_of_lt hj, Nat.mod_eq_of_lt hj]
    · rw [if_neg (by omega), hx, flat_get h0 l (fun y hy => he y (by simp [hy])) (j - esz)]
      unfold cellOf
      have h1 : j / esz = (j - esz) / esz + 1 := by
        have := Nat.sub_add_cancel (Nat.not_lt.1 hj)
        rw [← this, Nat.add_div_right _ h0]; simp
      have h2 : j % esz = (j - esz) % esz := by
        have := Nat.sub_add_cancel (Nat.not_lt.1 hj)
        rw [← this, Nat.add_mod_right]; simp
      rw [h1, h2]; simp
theorem flat_length {esz : Nat} : ∀ (l : List SV), Even esz l → (l.flatMap SV.cells).length = l.length * esz
  | [], _ => by simp
  | x :: l, he => by
    rw [List.flatMap_cons, List.length_append, (he x (by simp)).1, flat_length l (fun y hy => he y (by simp [hy]))]
    simp [Nat.add_mul]; omega

/- ---------- the relation ---------- -/
inductive EsR (ρ : Ren) : List (SV × SV) → List MapEntry → Prop
  | nil : EsR ρ [] []
  | cons {k v : SV} {e : MapEntry} {es : List (SV × SV)} {es' : List MapEntry} : VR ρ k e.key → VR ρ v e.val → EsR ρ es es' → EsR ρ ((k, v) :: es) (e :: es')

def notFrozen (c : Array Value) (fr : Nat × Nat) : Prop := fr.1 = fr.2 ∨ c.size ≤ fr.1

def RowR (ρ : Ren) (b esz : Nat) (l : List SV) (w : World) : Prop :=
  0 < esz ∧ Even esz l ∧ ∃ m c e fr, ρ b = some m ∧ m.esz = esz ∧ w.heap[m.blk]? = some (.cells c e fr) ∧ c.size = m.msz ∧ m.d + l.length * esz ≤ m.msz ∧ notFrozen c fr ∧
    ∀ j y, cellOf l esz j = some y → ∃ v, c[m.d + j]? = some v ∧ VR ρ y v
def MapR (ρ : Ren) (b : Nat) (es : List (SV × SV)) (w : World) : Prop :=
  ∃ m es' clock, ρ b = some m ∧ w.heap[m.blk]? = some (.map es' clock) ∧ EsR ρ es es'.toList
def ObjR (ρ : Ren) (b : Nat) (w : World) : SObj → Prop
  | .dead => True
  | .cells _ esz _ l => RowR ρ b esz l w
  | .map _ es => MapR ρ b es w
  | .iter l pos => ∃ m s, ρ b = some m ∧ m.d = 0 ∧ w.heap[m.blk]? = some (.stringIter s pos) ∧ s.data.toList.map (·.toNat) = l

def SObj.live : SObj → Bool
  | .dead => false
  | _ => true
def SObj.writable : SObj → Bool
  | .cells false _ _ _ => true
  | .map false _ => true
  | .iter _ _ => true
  | _ => false

structure Rel (G : Nat) (ρ : Ren) (H : SHeap) (w : World) : Prop where
  obj : ∀ b o, H.get b = some o → ObjR ρ b w o
  inj : ∀ b1 b2 o1 o2 m1 m2, H.get b1 = some o1 → H.get b2 = some o2 → o1.live = true → o2.live = true → ρ b1 = some m1 → ρ b2 = some m2 → m1.blk = m2.blk → b1 = b2
  dom : ∀ b m, ρ b = some m → b < H.next ∧ m.blk < w.heap.size
  glob : ∀ b, b < G → ∃ m, ρ b = some m ∧ m.blk = b ∧ m.d = 0

/- from one state to a later one -/
structure Later (ρ : Ren) (H : SHeap) (w : World) (ρ' : Ren) (H' : SHeap) (w' : World) : Prop where
  le : ρ.le ρ'
  os : w'.os = w.os
  tape : w'.tape = w.tape
  output : w'.output = w.output
  size : w.heap.size ≤ w'.heap.size
  keep : ∀ B, B < w.heap.size → (∀ b o m, H.get b = some o → o.writable = true → ρ b = some m → m.blk ≠ B) → w'.heap[B]? = w.heap[B]?
  wr : ∀ b o m, H'.get b = some o → o.writable = true → ρ' b = some m → w.heap.size ≤ m.blk ∨ ∃ b0 o0 m0, H.get b0 = some o0 ∧ o0.writable = true ∧ ρ b0 = some m0 ∧ m0.blk = m.blk

theorem Later.refl (ρ : Ren) (H : SHeap) (w : World) : Later ρ H w ρ H w :=
  ⟨Ren.le_refl ρ, rfl, rfl, rfl, Nat.le_refl _, fun _ _ _ => rfl, fun b o m hb hw hm => .inr ⟨b, o, m, hb, hw, hm, rfl⟩⟩
theorem Later.trans {ρ ρ' ρ'' : Ren} {H H' H'' : SHeap} {w w' w'' : World} (h : Later ρ H w ρ' H' w') (k : Later ρ' H' w' ρ'' H'' w'') : Later ρ H w ρ'' H'' w'' where
  le := Ren.le_trans h.le k.le
  os := k.os.trans h.os
  tape := k.tape.trans h.tape
  output := k.output.trans h.output
  size := Nat.le_trans h.size k.size
  keep := fun B hB hno => by
    rw [k.keep B (Nat.lt_of_lt_of_le hB h.size) ?_, h.keep B hB hno]
    intro b o m hb hw hm he
    rcases h.wr b o m hb hw hm with h1 | ⟨b0, o0, m0, h1, h2, h3, h4⟩
    · omega
    · exact hno b0 o0 m0 h1 h2 h3 (h4.trans he)
  wr := fun b o m hb hw hm => by
    rcases k.wr b o m hb hw hm with h1 | ⟨b0, o0, m0, h1, h2, h3, h4⟩
    · exact .inl (Nat.le_trans h.size h1)
    · rcases h.wr b0 o0 m0 h1 h2 h3 with h5 | ⟨b1, o1, m1, h5, h6, h7, h8⟩
      · exact .inl (by omega)
      · exact .inr ⟨b1, o1, m1, h5, h6, h7, h8.trans h4⟩

/- with nothing that may be written at first, memory stays as it was -/
theorem Later.below {ρ ρ' : Ren} {H H' : SHeap} {w w' : World} (h : Later ρ H w ρ' H' w') (hno : ∀ b o, H.get b = some o → o.writable = false) : Below w.heap.size w w' :=
  ⟨h.os, h.tape, h.output, h.size, fun k hk => h.keep k hk fun b o m hb hw => by rw [hno b o hb] at hw; cases hw⟩

/- the same memory, another count of draws -/
theorem Rel.drew {G : Nat} {ρ : Ren} {H : SHeap} {w : World} (h : Rel G ρ H w) (n : Nat) : Rel G ρ H { w with drawn := n } :=
  ⟨fun b o hb => by
    have := h.obj b o hb
    cases o <;> exact this, h.inj, h.dom, h.glob⟩
theorem Later.drew (ρ : Ren) (H : SHeap) (w : World) (n : Nat) : Later ρ H w ρ H { w with drawn := n } :=
  ⟨Ren.le_refl ρ, rfl, rfl, rfl, Nat.le_refl _, fun _ _ _ => rfl, fun b o m hb hw hm => .inr ⟨b, o, m, hb, hw, hm, rfl⟩⟩
end Go.Sim
