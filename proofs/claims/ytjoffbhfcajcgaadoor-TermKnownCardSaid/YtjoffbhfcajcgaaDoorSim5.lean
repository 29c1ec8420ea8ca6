/- What keeps the relation of the two memories: a new row, a row written, a row given up, a map. -/
import Derived.Test.YtjoffbhfcajcgaaDoorSim4
set_option linter.unusedVariables false
set_option linter.unusedSimpArgs false
namespace Go.Sim
open Go.RowKit
variable {P : Program} {G : Nat} {ρ : Ren} {H : SHeap} {w w' : World}

def Ren.upd (ρ : Ren) (b : Nat) (m : Img) : Ren := fun x => if x = b then some m else ρ x
theorem Ren.upd_same (ρ : Ren) (b : Nat) (m : Img) : ρ.upd b m b = some m := by simp [Ren.upd]
theorem Ren.upd_other (ρ : Ren) {b x : Nat} (m : Img) (h : x ≠ b) : ρ.upd b m x = ρ x := by simp [Ren.upd, h]
theorem Rel.fresh (h : Rel G ρ H w) : ρ H.next = none := by
  cases e : ρ H.next with
  | none => rfl
  | some m => have := (h.dom _ _ e).1; omega
theorem Ren.le_upd {b : Nat} (m : Img) (h : ρ b = none) : ρ.le (ρ.upd b m) := by
  intro x y hy
  have : x ≠ b := fun e => by rw [e, h] at hy; cases hy
  rw [Ren.upd_other ρ m this]; exact hy

theorem EsR_mono {ρ' : Ren} (hl : ρ.le ρ') {es : List (SV × SV)} {es' : List MapEntry} (h : EsR ρ es es') : EsR ρ' es es' := by
  induction h with
  | nil => exact .nil
  | cons hk hv _ ih => exact .cons (VR_mono hl _ hk) (VR_mono hl _ hv) ih

/- an object whose block is as it was -/
theorem ObjR.keep {ρ' : Ren} {b : Nat} {o : SObj} (hl : ρ.le ρ') (h : ObjR ρ b w o) (hs : ∀ m, o.live = true → ρ b = some m → w'.heap[m.blk]? = w.heap[m.blk]?) : ObjR ρ' b w' o := by
  cases o with
  | dead => trivial
  | cells ro esz elem l =>
    obtain ⟨h0, hev, m, c, e, fr, hm, he, hw, hc, hlen, hfr, hcells⟩ := h
    refine ⟨h0, hev, m, c, e, fr, hl _ _ hm, he, by rw [hs m rfl hm]; exact hw, hc, hlen, hfr, fun j y hj => ?_⟩
    obtain ⟨v, hv, hr⟩ := hcells j y hj
    exact ⟨v, hv, VR_mono hl _ hr⟩
  | map ro es =>
    obtain ⟨m, es', clock, hm, hw, hes⟩ := h
    exact ⟨m, es', clock, hl _ _ hm, by rw [hs m rfl hm]; exact hw, EsR_mono hl hes⟩
  | iter l pos =>
    obtain ⟨m, s, hm, hd, hw, hl'⟩ := h
    exact ⟨m, s, hl _ _ hm, hd, by rw [hs m rfl hm]; exact hw, hl'⟩

/- a new object, at a block that no living one has -/
theorem rel_alloc (h : Rel G ρ H w) (o : SObj) (m' : Img) (hobj : ObjR (ρ.upd H.next m') H.next w' o)
    (hsame : ∀ B, B ≠ m'.blk → B < w.heap.size → w'.heap[B]? = w.heap[B]?) (hsz : w.heap.size ≤ w'.heap.size) (hlt : m'.blk < w'.heap.size)
    (hno : ∀ b o m, H.get b = some o → o.live = true → ρ b = some m → m.blk ≠ m'.blk) :
    Rel G (ρ.upd H.next m') (H.alloc o) w' where
  obj := fun b o' hb => by
    rw [SHeap.get_alloc] at hb
    split at hb
    · rename_i e; cases hb; rw [e]; exact hobj
    · refine (h.obj b o' hb).keep (Ren.le_upd m' h.fresh) fun m hlive hm => ?_
      exact hsame _ (hno b o' m hb hlive hm) (h.dom b m hm).2
  inj := fun b1 b2 o1 o2 m1 m2 h1 h2 l1 l2 e1 e2 heq => by
    rw [SHeap.get_alloc] at h1 h2
    by_cases c1 : b1 = H.next <;> by_cases c2 : b2 = H.next
    · rw [c1, c2]
    · rw [if_neg c2] at h2
      rw [c1, Ren.upd_same] at e1
      rw [Ren.upd_other ρ m' c2] at e2
      cases e1
      exact absurd heq.symm (hno b2 o2 m2 h2 l2 e2)
    · rw [if_neg c1] at h1
      rw [c2, Ren.upd_same] at e2
      rw [Ren.upd_other ρ m' c1] at e1
      cases e2
      exact absurd heq (hno b1 o1 m1 h1 l1 e1)
    · rw [if_neg c1] at h1
      rw [if_neg c2] at h2
      rw [Ren.upd_other ρ m' c1] at e1
      rw [Ren.upd_other ρ m' c2] at e2
      exact h.inj b1 b2 o1 o2 m1 m2 h1 h2 l1 l2 e1 e2 heq
  dom := fun b m hb => by
    rw [SHeap.next_alloc]
    by_cases e : b = H.next
    · rw [e, Ren.upd_same] at hb
      cases hb
      exact ⟨by omega, hlt⟩
    · rw [Ren.upd_other ρ m' e] at hb
      have := h.dom b m hb
      exact ⟨by omega, by omega⟩
  glob := fun b hb => by
    obtain ⟨m, hm, h1, h2⟩ := h.glob b hb
    exact ⟨m, Ren.le_upd m' h.fresh _ _ hm, h1, h2⟩

/- an object is another one, in the same block -/
theorem rel_set (h : Rel G ρ H w) {b : Nat} {o o' : SObj} {m : Img} (hb : H.get b = some o) (hlive : o.live = true) (hm : ρ b = some m) (hobj : ObjR ρ b w' o')
    (hsame : ∀ B, B ≠ m.blk → B < w.heap.size → w'.heap[B]? = w.heap[B]?) (hsz : w.heap.size ≤ w'.heap.size) : Rel G ρ (H.set b o') w' where
  obj := fun x ox hx => by
    rw [SHeap.get_set _ _ _ _ (SHeap.lt_of_get hb)] at hx
    split at hx
    · rename_i e; cases hx; rw [e]; exact hobj
    · rename_i e
      refine (h.obj x ox hx).keep (Ren.le_refl ρ) fun mx lx hmx => hsame _ (fun heq => ?_) (h.dom x mx hmx).2
      exact e (h.inj x b ox o mx m hx hb lx hlive hmx hm heq)
  inj := fun b1 b2 o1 o2 m1 m2 h1 h2 l1 l2 e1 e2 heq => by
    rw [SHeap.get_set _ _ _ _ (SHeap.lt_of_get hb)] at h1 h2
    have f1 : ∃ q, H.get b1 = some q ∧ q.live = true := by
      split at h1
      · rename_i e; rw [e]; exact ⟨o, hb, hlive⟩
      · exact ⟨o1, h1, l1⟩
    have f2 : ∃ q, H.get b2 = some q ∧ q.live = true := by
      split at h2
      · rename_i e; rw [e]; exact ⟨o, hb, hlive⟩
      · exact ⟨o2, h2, l2⟩
    obtain ⟨q1, g1, k1⟩ := f1
    obtain ⟨q2, g2, k2⟩ := f2
    exact h.inj b1 b2 q1 q2 m1 m2 g1 g2 k1 k2 e1 e2 heq
  dom := fun x mx hx => by
    have := h.dom x mx hx
    exact ⟨this.1, by omega⟩
  glob := h.glob

theorem rel_kill (h : Rel G ρ H w) {b : Nat} {o : SObj} (hb : H.get b = some o) : Rel G ρ (H.set b .dead) w where
  obj := fun x ox hx => by
    rw [SHeap.get_set _ _ _ _ (SHeap.lt_of_get hb)] at hx
    split at hx
    · cases hx; trivial
    · exact h.obj x ox hx
  inj := fun b1 b2 o1 o2 m1 m2 h1 h2 l1 l2 e1 e2 heq => by
    rw [SHeap.get_set _ _ _ _ (SHeap.lt_of_get hb)] at h1 h2
    split at h1
    · cases h1; cases l1
    · split at h2
      · cases h2; cases l2
      · exact h.inj b1 b2 o1 o2 m1 m2 h1 h2 l1 l2 e1 e2 heq
  dom := fun x mx hx => h.dom x mx hx
  glob := h.glob

/- how far the later state is -/
theorem later_alloc (h : Rel G ρ H w) (o : SObj) (m' : Img) (hos : w'.os = w.os) (htape : w'.tape = w.tape) (hout : w'.output = w.output) (hsz : w.heap.size ≤ w'.heap.size)
    (hsame : ∀ B, B < w.heap.size → w'.heap[B]? = w.heap[B]?) (hnew : w.heap.size ≤ m'.blk) : Later ρ H w (ρ.upd H.next m') (H.alloc o) w' where
  le := Ren.le_upd m' h.fresh
  os := hos
  tape := htape
  output := hout
  size := hsz
  keep := fun B hB _ => hsame B hB
  wr := fun b o' m hb hw hm => by
    rw [SHeap.get_alloc] at hb
    by_cases e : b = H.next
    · rw [e, Ren.upd_same] at hm; cases hm; exact .inl hnew
    · rw [if_neg e] at hb
      rw [Ren.upd_other ρ m' e] at hm
      exact .inr ⟨b, o', m, hb, hw, hm, rfl⟩
theorem later_set {b : Nat} {o o' : SObj} {m : Img} (hb : H.get b = some o) (hwr : o.writable = true) (hm : ρ b = some m) (hos : w'.os = w.os) (htape : w'.tape = w.tape) (hout : w'.output = w.output) (hsz : w.heap.size ≤ w'.heap.size)
    (hsame : ∀ B, B ≠ m.blk → B < w.heap.size → w'.heap[B]? = w.heap[B]?) : Later ρ H w ρ (H.set b o') w' where
  le := Ren.le_refl ρ
  os := hos
  tape := htape
  output := hout
  size := hsz
  keep := fun B hB hno => hsame B (fun e => hno b o m hb hwr hm e.symm) hB
  wr := fun x ox mx hx hw hmx => by
    rw [SHeap.get_set _ _ _ _ (SHeap.lt_of_get hb)] at hx
    split at hx
    · rename_i e; subst e; exact .inr ⟨x, o, mx, hb, hwr, hmx, rfl⟩
    · exact .inr ⟨x, ox, mx, hx, hw, hmx, rfl⟩
theorem later_kill {b : Nat} {o : SObj} (hb : H.get b = some o) : Later ρ H w ρ (H.set b .dead) w where
  le := Ren.le_refl ρ
  os := rfl
  tape := rfl
  output := rfl
  size := Nat.le_refl _
  keep := fun _ _ _ => rfl
  wr := fun x ox mx hx hw hmx => by
    rw [SHeap.get_set _ _ _ _ (SHeap.lt_of_get hb)] at hx
    split at hx
    · cases hx; cases hw
    · exact .inr ⟨x, ox, mx, hx, hw, hmx, rfl⟩
/- a row given up, and a new one in its block -/
theorem later_move (h : Rel G ρ H w) {b : Nat} {o o' : SObj} {m m' : Img} (hb : H.get b = some o) (hwr : o.writable = true) (hm : ρ b = some m) (hblk : m'.blk = m.blk) (hos : w'.os = w.os) (htape : w'.tape = w.tape) (hout : w'.output = w.output)
    (hsz : w.heap.size ≤ w'.heap.size) (hsame : ∀ B, B ≠ m.blk → B < w.heap.size → w'.heap[B]? = w.heap[B]?) :
    Later ρ H w (ρ.upd H.next m') ((H.set b .dead).alloc o') w' where
  le := Ren.le_upd m' h.fresh
  os := hos
  tape := htape
  output := hout
  size := hsz
  keep := fun B hB hno => hsame B (fun e => hno b o m hb hwr hm e.symm) hB
  wr := fun x ox mx hx hw hmx => by
    rw [SHeap.get_alloc, SHeap.next_set] at hx
    by_cases e : x = H.next
    · rw [e, Ren.upd_same] at hmx
      cases hmx
      exact .inr ⟨b, o, m, hb, hwr, hm, hblk.symm⟩
    · rw [if_neg e, SHeap.get_set _ _ _ _ (SHeap.lt_of_get hb)] at hx
      rw [Ren.upd_other ρ m' e] at hmx
      split at hx
      · cases hx; cases hw
      · exact .inr ⟨x, ox, mx, hx, hw, hmx, rfl⟩

/- ---------- the model's stores ---------- -/
def arrPut (c : Array Value) : Nat → List Value → Array Value
  | _, [] => c
  | o, v :: r => arrPut (c.setIfInBounds o v) (o + 1) r
theorem arrPut_size : ∀ (vs : List Value) (c : Array Value) (o : Nat), (arrPut c o vs).size = c.size
  | [], c, o => rfl
  | v :: r, c, o => by rw [arrPut, arrPut_size r]; simp
theorem arrPut_get : ∀ (vs : List Value) (c : Array Value) (o j : Nat), (arrPut c o vs)[j]? = if o ≤ j ∧ j < o + vs.length ∧ j < c.size then vs[j - o]? else c[j]?
  | [], c, o, j => by rw [arrPut, if_neg (by simp; omega)]
  | v :: r, c, o, j => by
    rw [arrPut, arrPut_get r]
    simp only [Array.size_setIfInBounds, List.length_cons]
    by_cases h1 : o + 1 ≤ j ∧ j < o + 1 + r.length ∧ j < c.size
    · rw [if_pos h1, if_pos (by omega)]
      rw [show j - o = (j - (o + 1)) + 1 by omega]; simp
    · rw [if_neg h1, Array.getElem?_setIfInBounds]
      by_cases h2 : o = j
      · subst h2
        by_cases h3 : o < c.size
        · rw [if_pos rfl, if_pos h3, if_pos (by omega)]; simp
        · rw [if_pos rfl, if_neg h3, if_neg (by omega)]
          rw [Array.getElem?_eq_none (by omega)]
      · rw [if_neg h2, if_neg (by omega)]
theorem setCells_heap (b : Nat) : ∀ (vs : List Value) (o : Nat) (w : World) (c : Array Value) (e : TypeId) (fr : Nat × Nat), w.heap[b]? = some (.cells c e fr) →
    (w.setCells b o vs).heap[b]? = some (.cells (arrPut c o vs) e fr) ∧ (∀ B, B ≠ b → (w.setCells b o vs).heap[B]? = w.heap[B]?) ∧ (w.setCells b o vs).heap.size = w.heap.size ∧
      (w.setCells b o vs).os = w.os ∧ (w.setCells b o vs).tape = w.tape ∧ (w.setCells b o vs).output = w.output
  | [], o, w, c, e, fr, h => ⟨h, fun _ _ => rfl, rfl, rfl, rfl, rfl⟩
  | v :: r, o, w, c, e, fr, h => by
    have h1 : (w.setCell ⟨b, o, none⟩ v).heap[b]? = some (.cells (c.setIfInBounds o v) e fr) := by
      simp only [World.setCell, Array.getElem?_modify, h]; simp
    obtain ⟨k1, k2, k3, k4, k5, k6⟩ := setCells_heap b r (o + 1) (w.setCell ⟨b, o, none⟩ v) _ e fr h1
    refine ⟨k1, fun B hB => ?_, ?_, k4, k5, k6⟩
    · show ((w.setCell ⟨b, o, none⟩ v).setCells b (o + 1) r).heap[B]? = _
      rw [k2 B hB]
      simp only [World.setCell, Array.getElem?_modify]
      rw [if_neg (fun e => hB e.symm)]
    · show ((w.setCell ⟨b, o, none⟩ v).setCells b (o + 1) r).heap.size = _
      rw [k3]; simp [World.setCell]
theorem cell_of_heap {b o : Nat} {c : Array Value} {e : TypeId} {fr : Nat × Nat} (h : w.heap[b]? = some (.cells c e fr)) : w.cell? ⟨b, o, none⟩ = c[o]? := by
  simp [World.cell?, h]
theorem frozen_of_heap {b o : Nat} {c : Array Value} {e : TypeId} {fr : Nat × Nat} (h : w.heap[b]? = some (.cells c e fr)) (hf : notFrozen c fr) (ho : o < c.size) : w.frozen? ⟨b, o, none⟩ = false := by
  simp only [World.frozen?, h]
  unfold notFrozen at hf
  have : ¬ (fr.1 ≤ o ∧ o < fr.2) := by omega
  simpa using this
theorem addr_add (b o n : Nat) : (⟨b, o, none⟩ : Addr).add n = ⟨b, o + n, none⟩ := by
  unfold Addr.add; split <;> simp_all

/- storing related cells into a row of the model's -/
theorem run_storeRow {b : Nat} {c : Array Value} {e : TypeId} {fr : Nat × Nat} (h : w.heap[b]? = some (.cells c e fr)) (hf : notFrozen c fr) (o : Nat) (vs : List Value) (hlen : o + vs.length ≤ c.size) (h1 : ∀ v ∈ vs, v.oneCell' = true) :
    (storeCells ⟨b, o, none⟩ vs).run P w = .ok () (w.setCells b o vs) := by
  have := run_storeCells_cells (P := P) b o vs 0 w (fun j hj => by
    rw [cell_of_heap h]; simp; omega) (fun j hj => frozen_of_heap h hf (by omega)) h1
  simpa using this
theorem run_loadRow {b : Nat} {c : Array Value} {e : TypeId} {fr : Nat × Nat} (h : w.heap[b]? = some (.cells c e fr)) (o n : Nat) (hlen : o + n ≤ c.size) :
    (loadCells ⟨b, o, none⟩ n).run P w = .ok ((c.toList.drop o).take n).toArray w := by
  have := run_loadCells_list (P := P) w ⟨b, o, none⟩ ((c.toList.drop o).take n) (fun j v hj => by
    rw [addr_add, cell_of_heap h]
    rw [List.getElem?_take] at hj
    split at hj
    · rw [List.getElem?_drop] at hj; simpa using hj
    · cases hj)
  rw [List.length_take, List.length_drop] at this
  rw [show min n (c.toList.length - o) = n by simp; omega] at this
  exact this
end Go.Sim
