/- A call's contract may leave out what nobody can reach: blocks are dropped and numbered anew. -/
import Derived.Test.YtjoffbhfcajcgaaDoorSim23
import Derived.Test.YtjoffbhfcajcgaaDoorRun2
set_option linter.unusedVariables false
set_option linter.unusedSimpArgs false
namespace Go.Sim
open Go.RowKit

mutual
def SV.ren (σ : Nat → Nat) : SV → SV
  | .ptr b q r => .ptr (σ b) q r
  | .slice b q l c => .slice (σ b) q l c
  | .mp b => .mp (σ b)
  | .agg l => .agg (SV.rens σ l)
  | .tup l => .tup (SV.rens σ l)
  | .fn f a b => .fn f (SV.rens σ a) (SV.rens σ b)
  | .iface t v => .iface t (SV.ren σ v)
  | .bool b => .bool b
  | .int k n => .int k n
  | .str s => .str s
  | .nilp => .nilp
  | .nils => .nils
  | .nilf => .nilf
  | .nili => .nili
  | .nilm => .nilm
def SV.rens (σ : Nat → Nat) : List SV → List SV
  | [] => []
  | x :: xs => SV.ren σ x :: SV.rens σ xs
 end
mutual
/- it points below n -/
def SV.und (n : Nat) : SV → Prop
  | .ptr b _ _ => b < n
  | .slice b _ _ _ => b < n
  | .mp b => b < n
  | .agg l => SV.unds n l
  | .tup l => SV.unds n l
  | .fn _ a b => SV.unds n a ∧ SV.unds n b
  | .iface _ v => SV.und n v
  | _ => True
def SV.unds (n : Nat) : List SV → Prop
  | [] => True
  | x :: xs => SV.und n x ∧ SV.unds n xs
 end
theorem belows_iff (n : Nat) : ∀ (l : List SV), SV.unds n l ↔ ∀ x ∈ l, SV.und n x
  | [] => by simp [SV.unds]
  | x :: l => by simp [SV.unds, belows_iff n l]
theorem rens_eq (σ : Nat → Nat) : ∀ (l : List SV), SV.rens σ l = l.map (SV.ren σ)
  | [] => rfl
  | x :: l => by simp [SV.rens, rens_eq σ l]
mutual
theorem below_mono {n m : Nat} (h : n ≤ m) : ∀ (x : SV), SV.und n x → SV.und m x
  | .ptr _ _ _, hx => by simp only [SV.und] at hx ⊢; omega
  | .slice _ _ _ _, hx => by simp only [SV.und] at hx ⊢; omega
  | .mp _, hx => by simp only [SV.und] at hx ⊢; omega
  | .agg l, hx => by simp only [SV.und] at hx ⊢; exact belows_mono h l hx
  | .tup l, hx => by simp only [SV.und] at hx ⊢; exact belows_mono h l hx
  | .fn _ a b, hx => by simp only [SV.und] at hx ⊢; exact ⟨belows_mono h a hx.1, belows_mono h b hx.2⟩
  | .iface _ v, hx => by simp only [SV.und] at hx ⊢; exact below_mono h v hx
  | .bool _, _ => trivial
  | .int _ _, _ => trivial
  | .str _, _ => trivial
  | .nilp, _ => trivial
  | .nils, _ => trivial
  | .nilf, _ => trivial
  | .nili, _ => trivial
  | .nilm, _ => trivial
theorem belows_mono {n m : Nat} (h : n ≤ m) : ∀ (l : List SV), SV.unds n l → SV.unds m l
  | [], _ => trivial
  | x :: l, hx => by simp only [SV.unds] at hx ⊢; exact ⟨below_mono h x hx.1, belows_mono h l hx.2⟩
 end
mutual
theorem ren_id {n : Nat} {σ : Nat → Nat} (h : ∀ b, b < n → σ b = b) : ∀ (x : SV), SV.und n x → SV.ren σ x = x
  | .ptr b _ _, hx => by simp only [SV.und] at hx; simp [SV.ren, h b hx]
  | .slice b _ _ _, hx => by simp only [SV.und] at hx; simp [SV.ren, h b hx]
  | .mp b, hx => by simp only [SV.und] at hx; simp [SV.ren, h b hx]
  | .agg l, hx => by simp only [SV.und] at hx; simp [SV.ren, rens_id h l hx]
  | .tup l, hx => by simp only [SV.und] at hx; simp [SV.ren, rens_id h l hx]
  | .fn _ a b, hx => by simp only [SV.und] at hx; simp [SV.ren, rens_id h a hx.1, rens_id h b hx.2]
  | .iface _ v, hx => by simp only [SV.und] at hx; simp [SV.ren, ren_id h v hx]
  | .bool _, _ => rfl
  | .int _ _, _ => rfl
  | .str _, _ => rfl
  | .nilp, _ => rfl
  | .nils, _ => rfl
  | .nilf, _ => rfl
  | .nili, _ => rfl
  | .nilm, _ => rfl
theorem rens_id {n : Nat} {σ : Nat → Nat} (h : ∀ b, b < n → σ b = b) : ∀ (l : List SV), SV.unds n l → SV.rens σ l = l
  | [], _ => rfl
  | x :: l, hx => by simp only [SV.unds] at hx; simp [SV.rens, ren_id h x hx.1, rens_id h l hx.2]
 end
/- the renaming that goes through σ -/
def renVia (ρ : Ren) (σ : Nat → Nat) (n : Nat) : Ren := fun b => if b < n then ρ (σ b) else none
mutual
theorem VR_ren {ρ : Ren} {σ : Nat → Nat} {n : Nat} : ∀ (x : SV) {v : Value}, SV.und n x → VR ρ (SV.ren σ x) v → VR (renVia ρ σ n) x v
  | .ptr b _ _, v, hx, h => by
    simp only [SV.und] at hx; simp only [SV.ren, VR, renVia, hx, if_true] at h ⊢; exact h
  | .slice b _ _ _, v, hx, h => by
    simp only [SV.und] at hx; simp only [SV.ren, VR, renVia, hx, if_true] at h ⊢; exact h
  | .mp b, v, hx, h => by
    simp only [SV.und] at hx; simp only [SV.ren, VR, renVia, hx, if_true] at h ⊢; exact h
  | .agg l, v, hx, h => by
    simp only [SV.und] at hx; simp only [SV.ren, VR] at h ⊢
    obtain ⟨vs, rfl, h⟩ := h
    exact ⟨vs, rfl, VRs_ren l hx h⟩
  | .tup l, v, hx, h => by
    simp only [SV.und] at hx; simp only [SV.ren, VR] at h ⊢
    obtain ⟨vs, rfl, h⟩ := h
    exact ⟨vs, rfl, VRs_ren l hx h⟩
  | .fn _ a b, v, hx, h => by
    simp only [SV.und] at hx; simp only [SV.ren, VR] at h ⊢
    obtain ⟨xs, ys, rfl, h1, h2⟩ := h
    exact ⟨xs, ys, rfl, VRs_ren a hx.1 h1, VRs_ren b hx.2 h2⟩
  | .iface _ y, v, hx, h => by
    simp only [SV.und] at hx; simp only [SV.ren, VR] at h ⊢
    obtain ⟨z, rfl, h⟩ := h
    exact ⟨z, rfl, VR_ren y hx h⟩
  | .bool _, v, hx, h => by simpa only [SV.ren, VR] using h
  | .int _ _, v, hx, h => by simpa only [SV.ren, VR] using h
  | .str _, v, hx, h => by simpa only [SV.ren, VR] using h
  | .nilp, v, hx, h => by simpa only [SV.ren, VR] using h
  | .nils, v, hx, h => by simpa only [SV.ren, VR] using h
  | .nilf, v, hx, h => by simpa only [SV.ren, VR] using h
  | .nili, v, hx, h => by simpa only [SV.ren, VR] using h
  | .nilm, v, hx, h => by simpa only [SV.ren, VR] using h
theorem VRs_ren {ρ : Ren} {σ : Nat → Nat} {n : Nat} : ∀ (l : List SV) {vs : List Value}, SV.unds n l → VRs ρ (SV.rens σ l) vs → VRs (renVia ρ σ n) l vs
  | [], vs, hx, h => by simpa only [SV.rens, VRs] using h
  | x :: l, vs, hx, h => by
    simp only [SV.unds] at hx; simp only [SV.rens, VRs] at h ⊢
    obtain ⟨y, ys, rfl, h1, h2⟩ := h
    exact ⟨y, ys, rfl, VR_ren x hx.1 h1, VRs_ren l hx.2 h2⟩
 end
mutual
theorem VR_below {ρ : Ren} {n : Nat} (hd : ∀ b m, ρ b = some m → b < n) : ∀ (x : SV) {v : Value}, VR ρ x v → SV.und n x
  | .ptr b _ _, v, h => by simp only [VR] at h; obtain ⟨m, hm, _⟩ := h; exact hd _ _ hm
  | .slice b _ _ _, v, h => by simp only [VR] at h; obtain ⟨m, a, c, hm, _⟩ := h; exact hd _ _ hm
  | .mp b, v, h => by simp only [VR] at h; obtain ⟨m, hm, _⟩ := h; exact hd _ _ hm
  | .agg l, v, h => by simp only [VR] at h; obtain ⟨vs, _, h⟩ := h; exact VRs_below hd l h
  | .tup l, v, h => by simp only [VR] at h; obtain ⟨vs, _, h⟩ := h; exact VRs_below hd l h
  | .fn _ a b, v, h => by simp only [VR] at h; obtain ⟨xs, ys, _, h1, h2⟩ := h; exact ⟨VRs_below hd a h1, VRs_below hd b h2⟩
  | .iface _ y, v, h => by simp only [VR] at h; obtain ⟨z, _, h⟩ := h; exact VR_below hd y h
  | .bool _, _, _ => trivial
  | .int _ _, _, _ => trivial
  | .str _, _, _ => trivial
  | .nilp, _, _ => trivial
  | .nils, _, _ => trivial
  | .nilf, _, _ => trivial
  | .nili, _, _ => trivial
  | .nilm, _, _ => trivial
theorem VRs_below {ρ : Ren} {n : Nat} (hd : ∀ b m, ρ b = some m → b < n) : ∀ (l : List SV) {vs : List Value}, VRs ρ l vs → SV.unds n l
  | [], vs, h => trivial
  | x :: l, vs, h => by
    simp only [VRs] at h
    obtain ⟨y, ys, _, h1, h2⟩ := h
    exact ⟨VR_below hd x h1, VRs_below hd l h2⟩
 end
/- objects -/
def SObj.ren (σ : Nat → Nat) : SObj → SObj
  | .dead => .dead
  | .cells ro e t l => .cells ro e t (SV.rens σ l)
  | .map ro es => .map ro (es.map fun p => (SV.ren σ p.1, SV.ren σ p.2))
  | .iter l p => .iter l p
def SObj.und (n : Nat) : SObj → Prop
  | .dead => True
  | .cells _ _ _ l => SV.unds n l
  | .map _ es => ∀ p ∈ es, SV.und n p.1 ∧ SV.und n p.2
  | .iter _ _ => True
theorem SObj.und_mono {n m : Nat} (h : n ≤ m) : ∀ (o : SObj), o.und n → o.und m
  | .dead, _ => trivial
  | .cells _ _ _ l, hx => belows_mono h l hx
  | .map _ es, hx => fun p hp => ⟨Go.Sim.below_mono h _ (hx p hp).1, Go.Sim.below_mono h _ (hx p hp).2⟩
  | .iter _ _, _ => trivial
theorem SObj.ren_id {n : Nat} {σ : Nat → Nat} (h : ∀ b, b < n → σ b = b) : ∀ (o : SObj), o.und n → o.ren σ = o
  | .dead, _ => rfl
  | .cells _ _ _ l, hx => by simp [SObj.ren, rens_id h l hx]
  | .map _ es, hx => by
    simp only [SObj.ren, SObj.map.injEq, true_and]
    have : es.map (fun p => (SV.ren σ p.1, SV.ren σ p.2)) = es.map id := List.map_congr_left fun p hp => by
      rw [Go.Sim.ren_id h _ (hx p hp).1, Go.Sim.ren_id h _ (hx p hp).2]; rfl
    rw [this, List.map_id]
  | .iter _ _, _ => rfl
theorem ren_cell (σ : Nat → Nat) (x : SV) : (SV.ren σ x).cell = x.cell := by cases x <;> rfl
theorem ren_cells (σ : Nat → Nat) (x : SV) : (SV.ren σ x).cells = x.cells.map (SV.ren σ) := by cases x <;> simp [SV.ren, SV.cells, rens_eq]
theorem below_cells {n : Nat} {x : SV} (h : SV.und n x) : SV.unds n x.cells := by
  cases x <;> simp only [SV.cells, SV.unds] <;> first | exact h | exact ⟨h, trivial⟩
theorem cells_below {n : Nat} {x : SV} (h : SV.unds n x.cells) (ht : x.cell = true ∨ ∃ l, x = .agg l) : SV.und n x := by
  cases x <;> first
    | exact h
    | exact h.1
theorem cellOf_ren (σ : Nat → Nat) (l : List SV) (esz j : Nat) : cellOf (SV.rens σ l) esz j = (cellOf l esz j).map (SV.ren σ) := by
  unfold cellOf
  rw [rens_eq, List.getElem?_map]
  cases l[j / esz]? with
  | none => rfl
  | some x =>
    simp only [Option.map_some, Option.bind_some]
    rw [ren_cells, List.getElem?_map]
theorem even_ren {σ : Nat → Nat} {esz : Nat} {l : List SV} (h : Even esz (SV.rens σ l)) : Even esz l := by
  intro x hx
  have := h (SV.ren σ x) (by rw [rens_eq]; exact List.mem_map_of_mem hx)
  rw [ren_cells, List.length_map] at this
  refine ⟨this.1, ?_⟩
  have h2 := this.2
  rw [List.all_map] at h2
  rw [← h2]
  congr 1
  funext y
  simp [ren_cell]
theorem cellOf_below {n : Nat} {l : List SV} (h : SV.unds n l) {esz j : Nat} {y : SV} (hy : cellOf l esz j = some y) : SV.und n y := by
  unfold cellOf at hy
  cases hq : l[j / esz]? with
  | none => rw [hq] at hy; cases hy
  | some x =>
    rw [hq] at hy
    have h1 := (belows_iff n l).1 h x (List.mem_of_getElem? hq)
    exact (belows_iff n _).1 (below_cells h1) y (List.mem_of_getElem? hy)
theorem ObjR_ren {ρ : Ren} {σ : Nat → Nat} {n b : Nat} {w : World} (hb : b < n) : ∀ (o : SObj), o.und n → ObjR ρ (σ b) w (o.ren σ) → ObjR (renVia ρ σ n) b w o
  | .dead, _, _ => trivial
  | .cells ro e t l, hx, h => by
    obtain ⟨h0, he, m, c, el, fr, h1, h2, h3, h4, h5, h6, h7⟩ := h
    refine ⟨h0, even_ren he, m, c, el, fr, by simp only [renVia, hb, if_true]; exact h1, h2, h3, h4, ?_, h6, ?_⟩
    · rw [rens_eq, List.length_map] at h5; exact h5
    · intro j y hy
      obtain ⟨v, hv, hr⟩ := h7 j (SV.ren σ y) (by rw [cellOf_ren, hy]; rfl)
      exact ⟨v, hv, VR_ren y (cellOf_below hx hy) hr⟩
  | .map ro es, hx, h => by
    obtain ⟨m, es', clock, h1, h2, h3⟩ := h
    refine ⟨m, es', clock, by simp only [renVia, hb, if_true]; exact h1, h2, ?_⟩
    have key : ∀ (es : List (SV × SV)) (l : List MapEntry), (∀ p ∈ es, SV.und n p.1 ∧ SV.und n p.2) → EsR ρ (es.map fun p => (SV.ren σ p.1, SV.ren σ p.2)) l → EsR (renVia ρ σ n) es l := by
      intro es
      induction es with
      | nil => intro l _ h; cases h; exact .nil
      | cons p es ih =>
        intro l hp h
        cases h with
        | cons a b c => exact .cons (VR_ren _ (hp p (by simp)).1 a) (VR_ren _ (hp p (by simp)).2 b) (ih _ (fun q hq => hp q (by simp [hq])) c)
    exact key es _ hx h3
  | .iter l p, _, h => by
    obtain ⟨m, s, h1, h2⟩ := h
    exact ⟨m, s, by simp only [renVia, hb, if_true]; exact h1, h2⟩
def SHeap.Closed (H : SHeap) : Prop := ∀ b o, H.get b = some o → o.und H.next
theorem cells_below_of {ρ : Ren} {n : Nat} (hd : ∀ b m, ρ b = some m → b < n) {esz : Nat} {l : List SV} (h0 : 0 < esz) (he : Even esz l) (h : ∀ j y, cellOf l esz j = some y → ∃ v, VR ρ y v) : SV.unds n l := by
  rw [belows_iff]
  intro x hx
  obtain ⟨q, hq⟩ := List.mem_iff_getElem?.1 hx
  have hxe := he x hx
  have hall : SV.unds n x.cells := by
    rw [belows_iff]
    intro y hy
    obtain ⟨r, hr⟩ := List.mem_iff_getElem?.1 hy
    have hlt : r < esz := by
      have := (List.getElem?_eq_some_iff.1 hr).1
      omega
    obtain ⟨v, hv⟩ := h (q * esz + r) y (cellOf_at hlt hq hr)
    exact VR_below hd y hv
  cases x <;> first
    | exact hall
    | exact hall.1
theorem Rel.closed {G : Nat} {ρ : Ren} {H : SHeap} {w : World} (h : Rel G ρ H w) : H.Closed := by
  intro b o ho
  have hd : ∀ b m, ρ b = some m → b < H.next := fun b m hm => (h.dom b m hm).1
  have := h.obj b o ho
  cases o with
  | dead => trivial
  | iter _ _ => trivial
  | cells ro e t l =>
    obtain ⟨h0, he, m, c, el, fr, h1, h2, h3, h4, h5, h6, h7⟩ := this
    exact cells_below_of hd h0 he fun j y hy => let ⟨v, _, hv⟩ := h7 j y hy; ⟨v, hv⟩
  | map ro es =>
    obtain ⟨m, es', clock, h1, h2, h3⟩ := this
    have key : ∀ (es : List (SV × SV)) (l : List MapEntry), EsR ρ es l → ∀ p ∈ es, SV.und H.next p.1 ∧ SV.und H.next p.2 := by
      intro es l h
      induction h with
      | nil => intro p hp; cases hp
      | cons a b c ih =>
        intro p hp
        cases hp with
        | head => exact ⟨VR_below hd _ a, VR_below hd _ b⟩
        | tail _ hp => exact ih p hp
    exact key es _ h3
/- H1, x1: what a run came to from H on; H2, x2: what is told of it -/
structure Gc (H H1 : SHeap) (x1 : SV) (H2 : SHeap) (x2 : SV) (σ : Nat → Nat) : Prop where
  id : ∀ b, b < H.next → σ b = b
  inj : ∀ b c, b < H2.next → c < H2.next → σ b = σ c → b = c
  size : H.next ≤ H2.next
  val : x1 = SV.ren σ x2
  below : SV.und H2.next x2
  obj : ∀ b o, H2.get b = some o → o.und H2.next ∧ (o.live = true → H1.get (σ b) = some (o.ren σ))
def CleanOk (F : Table) (f : Nat) (p : List SV → SHeap → Res) : Prop := ∀ xs H x2 H2, H.Closed → SV.unds H.next xs → p xs H = some (x2, H2) →
  ∃ x1 H1 σ, callC F f xs H = some (x1, H1) ∧ Gc H H1 x1 H2 x2 σ
theorem live_ren (σ : Nat → Nat) (o : SObj) : (o.ren σ).live = o.live := by cases o <;> rfl
theorem writable_ren (σ : Nat → Nat) (o : SObj) : (o.ren σ).writable = o.writable := by cases o <;> first | rfl | (rename_i ro _ _ _; cases ro <;> rfl) | (rename_i ro _; cases ro <;> rfl)
theorem live_of_writable {o : SObj} (h : o.writable = true) : o.live = true := by cases o <;> first | rfl | (cases h; done)
theorem retPost_gc {P : Program} {ρ : Ren} {H H1 H2 : SHeap} {w : World} {x1 x2 : SV} {σ : Nat → Nat} (hr : Rel P.globals.size ρ H w) (g : Gc H H1 x1 H2 x2 σ) {e : Ending} {w' : World} (h : RetPost P ρ H w x1 H1 e w') : RetPost P ρ H w x2 H2 e w' := by
  obtain ⟨v, ρ', rfl, hv, hr', hl⟩ := h
  refine ⟨v, renVia ρ' σ H2.next, rfl, VR_ren x2 g.below (by rw [← g.val]; exact hv), ?_, ?_⟩
  · refine ⟨?_, ?_, ?_, ?_⟩
    · intro b o ho
      obtain ⟨h1, h2⟩ := g.obj b o ho
      cases o with
      | dead => trivial
      | _ => exact ObjR_ren (SHeap.lt_of_get ho) _ h1 (hr'.obj _ _ (h2 rfl))
    · intro b1 b2 o1 o2 m1 m2 e1 e2 l1 l2 r1 r2 hm
      have h1 := SHeap.lt_of_get e1
      have h2 := SHeap.lt_of_get e2
      simp only [renVia, h1, h2, if_true] at r1 r2
      exact g.inj _ _ h1 h2 (hr'.inj _ _ _ _ _ _ ((g.obj b1 o1 e1).2 l1) ((g.obj b2 o2 e2).2 l2) (by rw [live_ren]; exact l1) (by rw [live_ren]; exact l2) r1 r2 hm)
    · intro b m hm
      unfold renVia at hm
      split at hm
      · rename_i hb; exact ⟨hb, (hr'.dom _ _ hm).2⟩
      · cases hm
    · intro b hb
      obtain ⟨m, hm, hm2, hm3⟩ := hr.glob b hb
      have hb' := (hr.dom b m hm).1
      have h1 := hl.le b m hm
      have h2 := g.size
      refine ⟨m, ?_, hm2, hm3⟩
      unfold renVia
      rw [if_pos (by omega), g.id b hb']
      exact h1
  · refine ⟨?_, hl.os, hl.tape, hl.output, hl.size, hl.keep, ?_⟩
    · intro b m hm
      have hb := (hr.dom b m hm).1
      have h2 := g.size
      unfold renVia
      rw [if_pos (by omega), g.id b hb]
      exact hl.le b m hm
    · intro b o m ho hw hm
      have hb := SHeap.lt_of_get ho
      simp only [renVia, hb, if_true] at hm
      exact hl.wr _ _ m ((g.obj b o ho).2 (live_of_writable hw)) (by rw [writable_ren]; exact hw) hm
/- a clean contract holds on the model -/
theorem libOk_of_clean {P : Program} {F : Table} (hF : TableOk P F) {f : Nat} {p : List SV → SHeap → Res} (hc : CleanOk F f p) (hb : Bodied P f) : LibOk P f p := by
  intro xs H x2 H2 hp
  refine ⟨hb, fun ρ w vs hr hvs => ?_⟩
  have hd : ∀ b m, ρ b = some m → b < H.next := fun b m hm => (hr.dom b m hm).1
  obtain ⟨x1, H1, σ, h1, g⟩ := hc xs H x2 H2 hr.closed (VRs_below hd xs hvs) hp
  obtain ⟨n, hn⟩ := callC_inv h1
  exact Calls.mono ((calls_ok hF n f xs H _ _ hn).2 ρ w vs hr hvs) fun e w' he => retPost_gc hr g he
/- the whole table with clean contracts -/
def Table.with (F : Table) (f : Nat) (p : List SV → SHeap → Res) : Table := { fn := F.fn, lib := fun g => if g = f then some p else F.lib g }
theorem TableOk.with {P : Program} {F : Table} (hF : TableOk P F) {f : Nat} {p : List SV → SHeap → Res} (h : LibOk P f p) : TableOk P (F.with f p) :=
  ⟨hF.mixed, hF.fn, fun g q hq => by
    unfold Table.with at hq
    simp only at hq
    split at hq
    · rename_i e; subst e; cases hq; exact h
    · exact hF.lib g q hq⟩
end Go.Sim
