/- Loads, stores, new variables. -/
import Derived.Test.YtjoffbhfcajcgaaDoorSim5
set_option linter.unusedVariables false
set_option linter.unusedSimpArgs false
namespace Go.Sim
open Go.RowKit
variable {P : Program} {G : Nat} {ρ : Ren} {H : SHeap} {w w' : World}

def Does (P : Program) (G : Nat) (ρ : Ren) (H : SHeap) (w : World) (s : Sem Value) (x : SV) (H' : SHeap) : Prop :=
  ∃ v ρ' w', s.run P w = .ok v w' ∧ VR ρ' x v ∧ Rel G ρ' H' w' ∧ Later ρ H w ρ' H' w'
theorem Gives.does {s : Sem Value} {x : SV} (hr : Rel G ρ H w) (h : Gives P ρ w s x) : Does P G ρ H w s x H :=
  let ⟨v, h1, h2⟩ := h; ⟨v, ρ, w, h1, h2, hr, Later.refl ρ H w⟩
/- a store: no value -/
def DoesU (P : Program) (G : Nat) (ρ : Ren) (H : SHeap) (w : World) (s : Sem Unit) (H' : SHeap) : Prop :=
  ∃ ρ' w', s.run P w = .ok () w' ∧ Rel G ρ' H' w' ∧ Later ρ H w ρ' H' w'

structure LayOk (P : Program) (t : TypeId) (y : Lay) : Prop where
  info : ∃ i d, P.info? t = some i ∧ P.underlying t = some d ∧ i.size = y.n * y.esz
  pos : 0 < y.esz
  npos : 0 < y.n
  agg : y.agg = isAggB P t
  scal : y.agg = false → y.n = 1 ∧ y.esz = 1 ∧ y.arr = false
  one : y.arr = false → y.n = 1
  sc : y.arr = true → y.sc = true → y.esz = 1

def aggD : TypeDesc → Bool
  | .struct _ => true
  | .array _ _ => true
  | _ => false
theorem isAggB_eq {t : TypeId} {d : TypeDesc} (h : P.underlying t = some d) : isAggB P t = aggD d := by
  unfold isAggB; rw [h]; cases d <;> rfl
theorem layOf_ok {t : TypeId} {y : Lay} (h : layOf P t = some y) : LayOk P t y := by
  unfold layOf at h
  cases hi : P.info? t with
  | none => rw [hi] at h; cases h
  | some i =>
    cases hu : P.underlying t with
    | none => rw [hi, hu] at h; cases h
    | some d =>
      rw [hi, hu] at h
      have hb : isAggB P t = aggD d := isAggB_eq hu
      cases d <;> simp only [aggD] at h hb
      case array n e =>
        cases hj : P.info? e with
        | none => rw [hj] at h; cases h
        | some j =>
          rw [hj] at h
          simp only at h
          split at h
          · rename_i hc
            obtain ⟨h1, h2, h3, h4⟩ := hc
            cases h
            exact ⟨⟨i, _, hi, hu, h3⟩, h2, h1, hb.symm, by simp, by simp, fun _ hs => by
              simp at hs; rcases h4 with h4 | h4
              · rw [hs] at h4; cases h4
              · exact h4⟩
          · cases h
      case struct fs =>
        split at h
        · rename_i hc
          cases h
          exact ⟨⟨i, _, hi, hu, by simp⟩, hc, by simp, hb.symm, by simp, by simp, by simp⟩
        · cases h
      all_goals
        split at h
        · rename_i hc
          cases h
          exact ⟨⟨i, _, hi, hu, by simpa using hc⟩, by simp, by simp, hb.symm, by simp, by simp, by simp⟩
        · cases h
theorem layElem_ok {t : TypeId} {y : Lay} {d : TypeDesc} (hu : P.underlying t = some d) (h : layElem P t = some y) : LayOk P t y ∧ y.arr = false ∧ y.n = 1 ∧ y.sc = !(isAggB P t) := by
  unfold layElem at h
  cases hi : P.info? t with
  | none => rw [hi] at h; cases h
  | some i =>
    rw [hi] at h
    simp only at h
    split at h
    · rename_i hc
      cases h
      refine ⟨⟨⟨i, d, hi, hu, by simp⟩, hc.1, by simp, rfl, fun hs => ?_, by simp, by simp⟩, rfl, rfl, rfl⟩
      rcases hc.2.1 with h2 | h2
      · simp only at hs; rw [h2] at hs; cases hs
      · exact ⟨rfl, h2, rfl⟩
    · cases h

theorem layElem_und {e : TypeId} {y : Lay} (h : layElem P e = some y) : ∃ d, P.underlying e = some d := by
  unfold layElem at h
  cases hi : P.info? e with
  | none => rw [hi] at h; cases h
  | some i =>
    rw [hi] at h
    simp only at h
    split at h
    · rename_i hc; exact Option.isSome_iff_exists.1 hc.2.2
    · cases h

theorem VRs_seg {zs : List SV} {c : Array Value} {o : Nat} (hlen : o + zs.length ≤ c.size) (h : ∀ i z, zs[i]? = some z → ∃ v, c[o + i]? = some v ∧ VR ρ z v) : VRs ρ zs ((c.toList.drop o).take zs.length) := by
  refine VRs_of_get (by simp; omega) fun i z hz => ?_
  obtain ⟨v, hv, hr⟩ := h i z hz
  have hi := (List.getElem?_eq_some_iff.1 hz).1
  refine ⟨v, ?_, hr⟩
  rw [List.getElem?_take, if_pos hi, List.getElem?_drop]
  simpa using hv

theorem elemGet_spec {t r : Nat} {x z : SV} (h : elemGet t r x = some z) : ∃ zs, z = .agg zs ∧ zs.length = t ∧ ∀ i y, zs[i]? = some y → x.cells[r + i]? = some y := by
  have scal : ∀ v : SV, v.cells = [v] → (bif Nat.beq r 0 && Nat.beq t 1 then some (SV.agg [v]) else none) = some z → ∃ zs, z = .agg zs ∧ zs.length = t ∧ ∀ i y, zs[i]? = some y → v.cells[r + i]? = some y := by
    intro v hv h
    rw [beq_iff, beq_iff] at h
    by_cases h1 : r = 0 <;> by_cases h2 : t = 1 <;> simp [h1, h2] at h
    subst h
    exact ⟨[v], rfl, by simp [h2], fun i y hy => by rw [hv, h1]; simpa using hy⟩
  cases x with
  | agg cs =>
    simp only [elemGet, beq_iff, ble_iff] at h
    by_cases h1 : r = 0 ∧ cs.length = t
    · simp [h1.1, h1.2] at h
      subst h
      exact ⟨cs, rfl, h1.2, fun i y hy => by simpa [SV.cells, h1.1] using hy⟩
    · have h2 : (decide (r = 0) && decide (cs.length = t)) = false := by
        rw [Bool.eq_false_iff]; intro hh; simp at hh; exact h1 hh
      rw [h2] at h
      by_cases h3 : r + t ≤ cs.length
      · simp [h3] at h
        subst h
        refine ⟨_, rfl, by simp; omega, fun i y hy => ?_⟩
        rw [List.getElem?_take] at hy
        split at hy
        · rw [List.getElem?_drop] at hy; exact hy
        · cases hy
      · simp [h3] at h
  | bool b => exact scal _ rfl h
  | int k n => exact scal _ rfl h
  | str l => exact scal _ rfl h
  | nilp => exact scal _ rfl h
  | ptr a b c => exact scal _ rfl h
  | nils => exact scal _ rfl h
  | slice a b c d => exact scal _ rfl h
  | tup l => exact scal _ rfl h
  | fn f a b => exact scal _ rfl h
  | nilf => exact scal _ rfl h
  | iface t v => exact scal _ rfl h
  | nili => exact scal _ rfl h
  | mp r' => exact scal _ rfl h
  | nilm => exact scal _ rfl h

theorem Even.sub {esz : Nat} {l : List SV} (h : Even esz l) (q n : Nat) : Even esz ((l.drop q).take n) := fun x hx => h x (List.mem_of_mem_drop (List.mem_of_mem_take hx))
theorem cellOf_sub {esz : Nat} (h0 : 0 < esz) (l : List SV) (q n i : Nat) {y : SV} (h : cellOf ((l.drop q).take n) esz i = some y) : cellOf l esz (q * esz + i) = some y := by
  unfold cellOf at h ⊢
  have h1 : (q * esz + i) / esz = q + i / esz := by rw [Nat.mul_comm, Nat.mul_add_div h0]
  have h2 : (q * esz + i) % esz = i % esz := by rw [Nat.mul_comm, Nat.mul_add_mod]
  rw [h1, h2]
  rw [List.getElem?_take] at h
  split at h
  · rw [List.getElem?_drop] at h; exact h
  · cases h

theorem sLoad_spec {y : Lay} {b q r : Nat} {x : SV} (h : sLoad y H b q r = some x) : ∃ ro esz elem l, H.get b = some (.cells ro esz elem l) ∧ loadIn y q r esz l = some x := by
  unfold sLoad cellsAt at h
  cases hg : H.get b with
  | none => rw [hg] at h; cases h
  | some o =>
    rw [hg] at h
    cases o with
    | cells ro esz elem l => exact ⟨ro, esz, elem, l, rfl, h⟩
    | dead => cases h
    | map _ _ => cases h
    | iter _ _ => cases h

theorem load_ok {t : TypeId} {y : Lay} (hy : LayOk P t y) (hr : Rel G ρ H w) {p x : SV} {a : Value} (hp : VR ρ p a) {H' : SHeap} (h : xLoad y p H = some (x, H')) : H' = H ∧ Gives P ρ w (Instr.loadAt t a) x := by
  cases p <;> simp only [xLoad] at h <;> (try cases h)
  rename_i b q r
  simp only [only, Option.map_eq_some_iff] at h
  obtain ⟨x', h, he⟩ := h
  cases he
  refine ⟨rfl, ?_⟩
  obtain ⟨ro, esz, elem, l, hg, hl⟩ := sLoad_spec h
  obtain ⟨h0, hev, m, c, e, fr, hm, hme, hw, hc, hlen, hfr, hcells⟩ := hr.obj b _ hg
  simp only [VR] at hp
  obtain ⟨m', hm', rfl⟩ := hp
  rw [hm] at hm'; cases hm'
  obtain ⟨i, d, hi, hu, hsz⟩ := hy.info
  unfold loadIn at hl
  rw [hme]
  have haddr : (Instr.loadAt t (.pointer (some ⟨m.blk, m.d + q * esz + r, none⟩))).run P w = (loadVar t ⟨m.blk, m.d + q * esz + r, none⟩).run P w := by
    simp [Instr.loadAt, Instr.sureAddr]
  unfold Gives
  rw [haddr]
  have hagg := run_isAgg_eq t d hu w
  cases ha : y.agg with
  | false =>
    rw [ha] at hl
    simp only [cond_false] at hl
    rw [← hy.agg, ha] at hagg
    cases hq : l[q]? with
    | none => rw [hq] at hl; cases hl
    | some z =>
      rw [hq] at hl
      simp only [Option.bind_some] at hl
      have hz : z.cells.length = esz := (hev z (List.mem_of_getElem? hq)).1
      have hr' : r < esz := by have := (List.getElem?_eq_some_iff.1 hl).1; omega
      obtain ⟨v, hv, hrv⟩ := hcells _ _ (cellOf_at hr' hq hl)
      refine ⟨v, ?_, hrv⟩
      unfold loadVar
      rw [Sem.run_bind, hagg]
      simp only [Result.andThen_ok, Bool.false_eq_true, if_false, run_load, cell_of_heap hw]
      rw [show m.d + q * esz + r = m.d + (q * esz + r) by omega, hv]
  | true =>
    rw [ha] at hl
    simp only [cond_true] at hl
    rw [← hy.agg, ha] at hagg
    have fin : ∀ zs : List SV, x = .agg zs → zs.length = y.total → (∀ k z, zs[k]? = some z → cellOf l esz (q * esz + r + k) = some z) → ∃ v, (loadVar t ⟨m.blk, m.d + q * esz + r, none⟩).run P w = .ok v w ∧ VR ρ x v := by
      intro zs hx hzl hzs
      have hbd : m.d + q * esz + r + zs.length ≤ c.size := by
        rw [hc]
        cases hz : zs.length with
        | zero => 
          exfalso
          rw [hzl] at hz
          unfold Lay.total at hz
          have hn : y.n = 0 := by
            rcases Nat.mul_eq_zero.1 hz with h | h
            · exact h
            · have := hy.pos; omega
          have := hy.npos
          omega
        | succ k =>
          have := hzs k zs[k] (by simp [hz])
          have := cellOf_lt this h0
          omega
      refine ⟨.agg ((c.toList.drop (m.d + q * esz + r)).take zs.length).toArray, ?_, ?_⟩
      · unfold loadVar
        rw [Sem.run_bind, hagg]
        simp only [Result.andThen_ok, if_true, Sem.run_bind, run_sizeOf_eq hi, hsz]
        rw [show y.n * y.esz = zs.length from hzl.symm, run_loadRow hw _ _ hbd]; rfl
      · subst hx
        simp only [VR]
        refine ⟨_, rfl, ?_⟩
        simp only [List.toList_toArray]
        refine VRs_seg hbd fun k z hz => ?_
        have := hcells _ _ (hzs k z hz)
        rwa [show m.d + (q * esz + r + k) = m.d + q * esz + r + k by omega] at this
    rw [ble_iff] at hl
    by_cases hin : r + y.total ≤ esz
    · simp only [hin, decide_true, cond_true] at hl
      cases hq : l[q]? with
      | none => rw [hq] at hl; cases hl
      | some z =>
        rw [hq] at hl
        simp only [Option.bind_some] at hl
        obtain ⟨zs, hx, hzl, hzs⟩ := elemGet_spec hl
        refine fin zs hx hzl fun k u hu' => ?_
        have hk := (List.getElem?_eq_some_iff.1 hu').1
        rw [show q * esz + r + k = q * esz + (r + k) by omega]
        exact cellOf_at (by omega) hq (hzs k u hu')
    · simp only [hin, decide_false, cond_false, beq_iff, ble_iff] at hl
      by_cases hc3 : r = 0 ∧ y.esz = esz ∧ q + y.n ≤ l.length
      · obtain ⟨e1, e2, e3⟩ := hc3
        simp [e1, e2, e3] at hl
        have hsub := hev.sub q y.n
        refine fin _ hl.symm ?_ fun k u hu' => ?_
        · rw [flat_length _ hsub]
          unfold Lay.total
          rw [e2]; congr 1
          simp; omega
        · rw [flat_get h0 _ hsub] at hu'
          rw [e1]
          exact cellOf_sub h0 l q y.n k hu'
      · have : (decide (r = 0) && decide (y.esz = esz) && decide (q + y.n ≤ l.length)) = false := by
          rw [Bool.eq_false_iff]; intro hh; simp at hh; exact hc3 ⟨hh.1.1, hh.1.2, hh.2⟩
        rw [this] at hl; cases hl

/- ---------- stores ---------- -/
theorem isN_iff {n : Nat} {x : SV} : isN n x = true ↔ x.cells.length = n ∧ x.cells.all SV.cell = true := by
  unfold isN; rw [beq_iff]; simp

theorem putAll_get : ∀ (vs cs : List SV) (i j : Nat), i + vs.length ≤ cs.length → (putAll cs i vs)[j]? = if i ≤ j ∧ j < i + vs.length then vs[j - i]? else cs[j]?
  | [], cs, i, j, h => by rw [putAll, if_neg (by simp <;> omega)]
  | v :: r, cs, i, j, h => by
    simp only [List.length_cons] at h
    rw [putAll, putAll_get r (cs.set i v) (i + 1) j (by simp; omega)]
    simp only [List.length_cons]
    by_cases h1 : i + 1 ≤ j ∧ j < i + 1 + r.length
    · rw [if_pos h1, if_pos (by omega), show j - i = (j - (i + 1)) + 1 by omega]; simp
    · rw [if_neg h1, List.getElem?_set]
      by_cases h2 : i = j
      · subst h2; rw [if_pos rfl, if_pos (by omega), if_pos (by omega)]; simp
      · rw [if_neg h2, if_neg (by omega)]
theorem putAll_length : ∀ (vs cs : List SV) (i : Nat), (putAll cs i vs).length = cs.length
  | [], cs, i => rfl
  | v :: r, cs, i => by rw [putAll, putAll_length r]; simp
theorem putAll_mem {y : SV} : ∀ (vs cs : List SV) (i : Nat), y ∈ putAll cs i vs → y ∈ cs ∨ y ∈ vs
  | [], cs, i, h => .inl h
  | v :: r, cs, i, h => by
    rcases putAll_mem r (cs.set i v) (i + 1) h with h | h
    · rcases List.mem_or_eq_of_mem_set h with h | h
      · exact .inl h
      · exact .inr (by simp [h])
    · exact .inr (by simp [h])
theorem putAll_all {vs cs : List SV} (i : Nat) (h1 : cs.all SV.cell = true) (h2 : vs.all SV.cell = true) : (putAll cs i vs).all SV.cell = true := by
  rw [List.all_eq_true] at *
  intro y hy
  rcases putAll_mem vs cs i hy with h | h
  · exact h1 y h
  · exact h2 y h

theorem elemPut_spec {v v' : SV} {r : Nat} {cs : List SV} (h : elemPut v r cs = some v') (hv : v.cells.all SV.cell = true) (hcs : cs.all SV.cell = true) :
    v'.cells.length = v.cells.length ∧ v'.cells.all SV.cell = true ∧ r + cs.length ≤ v.cells.length ∧ ∀ i, v'.cells[i]? = if r ≤ i ∧ i < r + cs.length then cs[i - r]? else v.cells[i]? := by
  have scal : ∀ v : SV, v.cells = [v] → elemPut1 r cs = some v' →
      v'.cells.length = v.cells.length ∧ v'.cells.all SV.cell = true ∧ r + cs.length ≤ v.cells.length ∧ ∀ i, v'.cells[i]? = if r ≤ i ∧ i < r + cs.length then cs[i - r]? else v.cells[i]? := by
    intro v hv h
    cases r with
    | succ r => cases h
    | zero =>
      cases cs with
      | nil => cases h
      | cons c cs =>
        cases cs with
        | cons _ _ => cases h
        | nil =>
          simp only [elemPut1, Option.some.injEq] at h
          subst h
          simp at hcs
          have hc : c.cells = [c] := by cases c <;> first | rfl | (simp [SV.cell] at hcs; done)
          refine ⟨by rw [hc, hv]; rfl, by rw [hc]; simpa using hcs, by rw [hv]; simp, fun i => ?_⟩
          rw [hc, hv]
          cases i with
          | zero => simp
          | succ i => simp
  cases v with
  | agg xs =>
    simp only [elemPut, ble_iff] at h
    by_cases hl : r + cs.length ≤ xs.length
    · simp [hl] at h
      subst h
      exact ⟨putAll_length _ _ _, putAll_all r hv hcs, hl, fun i => putAll_get cs xs r i hl⟩
    · simp [hl] at h
  | bool b => exact scal _ rfl h
  | int k n => exact scal _ rfl h
  | str l => exact scal _ rfl h
  | nilp => exact scal _ rfl h
  | ptr a b c => exact scal _ rfl h
  | nils => exact scal _ rfl h
  | slice a b c d => exact scal _ rfl h
  | tup l => exact scal _ rfl h
  | fn f a b => exact scal _ rfl h
  | nilf => exact scal _ rfl h
  | iface t v => exact scal _ rfl h
  | nili => exact scal _ rfl h
  | mp r' => exact scal _ rfl h
  | nilm => exact scal _ rfl h

theorem elemSet_spec {t r : Nat} {x v v' : SV} (h : elemSet t r x v = some v') (hv : v.cells.all SV.cell = true) (hx : x.cells.length = t) (hcs : x.cells.all SV.cell = true) :
    v'.cells.length = v.cells.length ∧ v'.cells.all SV.cell = true ∧ r + t ≤ v.cells.length ∧ ∀ i, v'.cells[i]? = if r ≤ i ∧ i < r + t then x.cells[i - r]? else v.cells[i]? := by
  have put : elemPut v r x.cells = some v' → _ := fun h => elemPut_spec h hv hcs
  rw [hx] at put
  cases v with
  | agg xs =>
    simp only [elemSet, beq_iff] at h
    by_cases hc : r = 0 ∧ xs.length = t
    · simp [hc.1, hc.2] at h
      subst h
      refine ⟨(show x.cells.length = xs.length by rw [hx, hc.2]), hcs, (show r + t ≤ xs.length by omega), fun i => ?_⟩
      rw [hc.1]
      by_cases hi : i < t
      · rw [if_pos (by omega)]; rfl
      · rw [if_neg (by omega)]
        show x.cells[i]? = xs[i]?
        rw [List.getElem?_eq_none (by omega), List.getElem?_eq_none (by omega)]
    · have : (decide (r = 0) && decide (xs.length = t)) = false := by
        rw [Bool.eq_false_iff]; intro hh; simp at hh; exact hc hh
      rw [this] at h
      exact put h
  | bool b => exact put h
  | int k n => exact put h
  | str l => exact put h
  | nilp => exact put h
  | ptr a b c => exact put h
  | nils => exact put h
  | slice a b c d => exact put h
  | tup l => exact put h
  | fn f a b => exact put h
  | nilf => exact put h
  | iface t v => exact put h
  | nili => exact put h
  | mp r' => exact put h
  | nilm => exact put h

theorem setAt_get : ∀ (vs l : List SV) (q j : Nat), q + vs.length ≤ l.length → (setAt l q vs)[j]? = if q ≤ j ∧ j < q + vs.length then vs[j - q]? else l[j]?
  | [], l, q, j, h => by rw [setAt, if_neg (by simp <;> omega)]
  | v :: r, l, q, j, h => by
    simp only [List.length_cons] at h
    rw [setAt, setAt_get r (l.set q v) (q + 1) j (by simp; omega)]
    simp only [List.length_cons]
    by_cases h1 : q + 1 ≤ j ∧ j < q + 1 + r.length
    · rw [if_pos h1, if_pos (by omega), show j - q = (j - (q + 1)) + 1 by omega]; simp
    · rw [if_neg h1, List.getElem?_set]
      by_cases h2 : q = j
      · subst h2; rw [if_pos rfl, if_pos (by omega), if_pos (by omega)]; simp
      · rw [if_neg h2, if_neg (by omega)]
theorem setAt_length : ∀ (vs l : List SV) (q : Nat), (setAt l q vs).length = l.length
  | [], l, q => rfl
  | v :: r, l, q => by rw [setAt, setAt_length r]; simp
theorem setAt_mem {y : SV} : ∀ (vs l : List SV) (q : Nat), y ∈ setAt l q vs → y ∈ l ∨ y ∈ vs
  | [], l, q, h => .inl h
  | v :: r, l, q, h => by
    rcases setAt_mem r (l.set q v) (q + 1) h with h | h
    · rcases List.mem_or_eq_of_mem_set h with h | h
      · exact .inl h
      · exact .inr (by simp [h])
    · exact .inr (by simp [h])
theorem setAt_even {esz : Nat} {l vs : List SV} (q : Nat) (h1 : Even esz l) (h2 : Even esz vs) : Even esz (setAt l q vs) := fun y hy => by
  rcases setAt_mem vs l q hy with h | h
  · exact h1 y h
  · exact h2 y h
theorem cellOf_setAt {esz : Nat} (h0 : 0 < esz) (vs l : List SV) (q j : Nat) (h : q + vs.length ≤ l.length) :
    cellOf (setAt l q vs) esz j = if q * esz ≤ j ∧ j < (q + vs.length) * esz then cellOf vs esz (j - q * esz) else cellOf l esz j := by
  unfold cellOf
  rw [setAt_get vs l q _ h]
  have e1 : q ≤ j / esz ↔ q * esz ≤ j := Nat.le_div_iff_mul_le h0
  have e2 : j / esz < q + vs.length ↔ j < (q + vs.length) * esz := Nat.div_lt_iff_lt_mul h0
  by_cases hc : q * esz ≤ j ∧ j < (q + vs.length) * esz
  · rw [if_pos ⟨e1.2 hc.1, e2.2 hc.2⟩, if_pos hc]
    have h1 : (j - q * esz) / esz = j / esz - q := by
      obtain ⟨k, hk⟩ := Nat.exists_eq_add_of_le hc.1
      rw [hk, Nat.add_sub_cancel_left, Nat.mul_comm q esz, Nat.mul_add_div h0, Nat.add_sub_cancel_left]
    have h2 : (j - q * esz) % esz = j % esz := by
      obtain ⟨k, hk⟩ := Nat.exists_eq_add_of_le hc.1
      rw [hk, Nat.add_sub_cancel_left, Nat.mul_comm q esz, Nat.mul_add_mod]
    rw [h1, h2]
  · rw [if_neg (fun hh => hc ⟨e1.1 hh.1, e2.1 hh.2⟩), if_neg hc]

/- how the elements of a variable lie -/
structure Laid (esz : Nat) (l cs : List SV) : Prop where
  even : Even esz l
  len : l.length * esz = cs.length
  at_ : ∀ j, cellOf l esz j = cs[j]?
theorem laid_one {v : SV} {esz : Nat} (h0 : 0 < esz) (hl : v.cells.length = esz) (ha : v.cells.all SV.cell = true) : Laid esz [v] v.cells :=
  ⟨fun x hx => by simp at hx; subst hx; exact ⟨hl, ha⟩, by simp [hl], fun j => by
    unfold cellOf
    by_cases h : j < esz
    · simp [Nat.div_eq_of_lt h, Nat.mod_eq_of_lt h]
    · have : 1 ≤ j / esz := (Nat.le_div_iff_mul_le h0).2 (by omega)
      rw [List.getElem?_eq_none (by simpa using this), List.getElem?_eq_none (by omega)]; rfl⟩
theorem laid_chunks {esz : Nat} (h0 : 0 < esz) (sc : Bool) (hsc : sc = true → esz = 1) : ∀ (n : Nat) (cs : List SV), cs.length = n * esz → cs.all SV.cell = true → Laid esz (chunks esz sc n cs) cs
  | 0, cs, hl, ha => by
    have : cs = [] := List.length_eq_zero_iff.1 (by simpa using hl)
    subst this
    exact ⟨fun x hx => by simp [chunks] at hx, by simp [chunks], fun j => by simp [chunks, cellOf]⟩
  | n + 1, cs, hl, ha => by
    have hl' : cs.length = n * esz + esz := by rw [hl, Nat.add_mul]; omega
    have ih := laid_chunks h0 sc hsc n (cs.drop esz) (by simp; omega) (by
      rw [List.all_eq_true] at *
      exact fun x hx => ha x (List.mem_of_mem_drop hx))
    -- the first element
    have hx : ∃ x, chunks esz sc (n + 1) cs = x :: chunks esz sc n (cs.drop esz) ∧ x.cells = cs.take esz := by
      rw [chunks]
      cases hs : sc with
      | false => exact ⟨_, rfl, rfl⟩
      | true =>
        have h1 := hsc hs
        subst h1
        cases cs with
        | nil => simp at hl'
        | cons c cs =>
          refine ⟨_, rfl, ?_⟩
          simp at ha
          simp
          cases c <;> first | rfl | (simp [SV.cell] at ha; done)
    obtain ⟨x, hx1, hx2⟩ := hx
    rw [hx1]
    have hxl : x.cells.length = esz := by rw [hx2]; simp; omega
    refine ⟨fun y hy => ?_, ?_, fun j => ?_⟩
    · rcases List.mem_cons.1 hy with rfl | hy
      · refine ⟨hxl, ?_⟩
        rw [hx2, List.all_eq_true] at *
        exact fun z hz => ha z (List.mem_of_mem_take hz)
      · exact ih.even y hy
    · simp only [List.length_cons, Nat.add_mul, ih.len, List.length_drop]; omega
    · by_cases hj : j < esz
      · unfold cellOf
        simp only [Nat.div_eq_of_lt hj, Nat.mod_eq_of_lt hj, List.getElem?_cons_zero, Option.bind_some, hx2]
        rw [List.getElem?_take, if_pos hj]
      · have := ih.at_ (j - esz)
        rw [List.getElem?_drop, show esz + (j - esz) = j by omega] at this
        rw [← this]
        unfold cellOf
        have e1 : j / esz = (j - esz) / esz + 1 := by
          have := Nat.sub_add_cancel (Nat.not_lt.1 hj)
          rw [← this, Nat.add_div_right _ h0]; simp
        have e2 : j % esz = (j - esz) % esz := by
          have := Nat.sub_add_cancel (Nat.not_lt.1 hj)
          rw [← this, Nat.add_mod_right]; simp
        rw [e1, e2]; simp
theorem laid_elems {t : TypeId} {y : Lay} (hy : LayOk P t y) {v : SV} (hl : v.cells.length = y.total) (ha : v.cells.all SV.cell = true) : Laid y.esz (y.elems v) v.cells := by
  unfold Lay.elems
  cases harr : y.arr with
  | true =>
    simp only [cond_true]
    exact laid_chunks hy.pos y.sc (hy.sc harr) y.n v.cells hl ha
  | false =>
    simp only [cond_false]
    refine laid_one hy.pos ?_ ha
    rw [hl, Lay.total, hy.one harr, Nat.one_mul]
theorem chunks_length (esz : Nat) (sc : Bool) : ∀ (n : Nat) (cs : List SV), (chunks esz sc n cs).length = n
  | 0, cs => rfl
  | n + 1, cs => by rw [chunks, List.length_cons, chunks_length esz sc n]

/- a row of the model's that holds what a list of related cells says -/
theorem rowR_put {b esz : Nat} {l l' : List SV} (h0 : 0 < esz) (hev : Even esz l') {m : Img} {c : Array Value} {e : TypeId} {fr : Nat × Nat} (hm : ρ b = some m) (hme : m.esz = esz) (hc : c.size = m.msz) (hlen : m.d + l.length * esz ≤ m.msz) (hll : l'.length = l.length) (hfr : notFrozen c fr)
    (hcells : ∀ j y, cellOf l esz j = some y → ∃ v, c[m.d + j]? = some v ∧ VR ρ y v) {o : Nat} {xs : List SV} {vs : List Value} (hx : VRs ρ xs vs) (hob : o + xs.length ≤ l.length * esz)
    (hput : ∀ j, cellOf l' esz j = if o ≤ j ∧ j < o + xs.length then xs[j - o]? else cellOf l esz j) (hblk : w'.heap[m.blk]? = some (.cells (arrPut c (m.d + o) vs) e fr)) : RowR ρ b esz l' w' := by
  refine ⟨h0, hev, m, arrPut c (m.d + o) vs, e, fr, hm, hme, hblk, by rw [arrPut_size]; exact hc, by rw [hll]; exact hlen, ?_, fun j y hy => ?_⟩
  · unfold notFrozen; rw [arrPut_size]; exact hfr
  · rw [hput j] at hy
    rw [arrPut_get]
    have hvl := VRs_length hx
    by_cases hj : o ≤ j ∧ j < o + xs.length
    · rw [if_pos hj] at hy
      rw [if_pos (by omega)]
      obtain ⟨v, hv, hr⟩ := VRs_get hx hy
      exact ⟨v, by rw [show m.d + j - (m.d + o) = j - o by omega]; exact hv, hr⟩
    · rw [if_neg hj] at hy
      rw [if_neg (by omega)]
      exact hcells j y hy

theorem store_ok {t : TypeId} {y : Lay} (hy : LayOk P t y) (hr : Rel G ρ H w) {p x u : SV} {a v : Value} (hp : VR ρ p a) (hx : VR ρ x v) {H' : SHeap} (h : xStore y p x H = some (u, H')) :
    u = SV.undef ∧ DoesU P G ρ H w (Instr.storeAt t a v) H' := by
  cases p <;> simp only [xStore] at h <;> (try cases h)
  rename_i b q r
  simp only [none2, Option.map_eq_some_iff] at h
  obtain ⟨H1, h, he⟩ := h
  cases he
  refine ⟨rfl, ?_⟩
  unfold sStore at h
  cases hg : H.get b with
  | none => rw [hg] at h; cases h
  | some ob =>
    rw [hg] at h
    cases ob with
    | dead => cases h
    | map _ _ => cases h
    | iter _ _ => cases h
    | cells ro esz elem l =>
      cases ro with
      | true => cases h
      | false =>
        simp only [cond_false, Option.map_eq_some_iff] at h
        obtain ⟨l', hl, rfl⟩ := h
        obtain ⟨h0, hev, m, c, e, fr, hm, hme, hw, hc, hlen, hfr, hcells⟩ := hr.obj b _ hg
        simp only [VR] at hp
        obtain ⟨m', hm', rfl⟩ := hp
        rw [hm] at hm'; cases hm'
        obtain ⟨i, d, hi, hu, hsz⟩ := hy.info
        unfold storeIn at hl
        cases hn : isN y.total x with
        | false => rw [hn] at hl; cases hl
        | true =>
          rw [hn] at hl
          simp only [cond_true] at hl
          obtain ⟨hxl, hxa⟩ := isN_iff.1 hn
          have hxc := VR_cells hx
          have hvl := VRs_length hxc
          -- what the new elements are
          have key : Even esz l' ∧ l'.length = l.length ∧ q * esz + r + y.total ≤ l.length * esz ∧ ∀ j, cellOf l' esz j = if q * esz + r ≤ j ∧ j < q * esz + r + x.cells.length then x.cells[j - (q * esz + r)]? else cellOf l esz j := by
            rw [ble_iff] at hl
            by_cases hin : r + y.total ≤ esz
            · simp only [hin, decide_true, cond_true] at hl
              cases hq : l[q]? with
              | none => rw [hq] at hl; cases hl
              | some z =>
                rw [hq] at hl
                simp only [Option.bind_some, Option.map_eq_some_iff] at hl
                obtain ⟨v', hv', rfl⟩ := hl
                have hz := hev z (List.mem_of_getElem? hq)
                obtain ⟨k1, k2, k3, k4⟩ := elemSet_spec hv' hz.2 hxl hxa
                have hql := (List.getElem?_eq_some_iff.1 hq).1
                refine ⟨fun a ha => ?_, by simp, ?_, fun j => ?_⟩
                · rcases List.mem_or_eq_of_mem_set ha with ha | ha
                  · exact hev a ha
                  · subst ha; exact ⟨by rw [k1]; exact hz.1, k2⟩
                · calc q * esz + r + y.total ≤ q * esz + esz := by omega
                    _ = (q + 1) * esz := by rw [Nat.add_mul]; omega
                    _ ≤ l.length * esz := Nat.mul_le_mul_right _ hql
                · unfold cellOf
                  rw [List.getElem?_set]
                  have hdm : esz * (j / esz) + j % esz = j := Nat.div_add_mod j esz
                  have hmod := Nat.mod_lt j h0
                  by_cases e1 : q = j / esz
                  · rw [if_pos e1, if_pos hql]
                    simp only [Option.bind_some]
                    rw [k4, hxl]
                    have e3 : q * esz = esz * (j / esz) := by rw [e1, Nat.mul_comm]
                    by_cases e2 : r ≤ j % esz ∧ j % esz < r + y.total
                    · rw [if_pos e2, if_pos (by omega)]
                      congr 1; omega
                    · rw [if_neg e2, if_neg (by omega), ← e1, hq]; rfl
                  · rw [if_neg e1, if_neg]
                    rw [hxl]
                    intro hh
                    apply e1
                    have : j / esz = q := by
                      rw [Nat.div_eq_iff h0]
                      rw [Nat.mul_comm] 
                      constructor <;> (try rw [Nat.mul_comm q esz] at hh) <;> (try rw [Nat.mul_comm esz q]) <;> (try rw [Nat.mul_comm q esz]) <;> omega
                    exact this.symm
            · simp only [hin, decide_false, cond_false, beq_iff, ble_iff] at hl
              by_cases hc3 : r = 0 ∧ y.esz = esz ∧ y.arr = true ∧ q + y.n ≤ l.length
              · obtain ⟨e1, e2, e3, e4⟩ := hc3
                simp [e1, e2, e3, e4] at hl
                subst hl
                have hld := laid_chunks h0 y.sc (fun hs => by rw [← e2]; exact hy.sc e3 hs) y.n x.cells (by rw [hxl, Lay.total, e2]) hxa
                have hcl := chunks_length esz y.sc y.n x.cells
                have htot : y.total = y.n * esz := by rw [Lay.total, e2]
                refine ⟨setAt_even q hev hld.even, setAt_length _ _ _, ?_, fun j => ?_⟩
                · rw [e1, htot, Nat.add_zero, ← Nat.add_mul]; exact Nat.mul_le_mul_right _ e4
                · rw [cellOf_setAt h0 _ _ _ _ (by rw [hcl]; exact e4), hcl, hxl, htot, e1]
                  rw [Nat.add_zero, ← Nat.add_mul, hld.at_]
              · have : (decide (r = 0) && decide (y.esz = esz) && y.arr && decide (q + y.n ≤ l.length)) = false := by
                  rw [Bool.eq_false_iff]; intro hh; simp at hh; exact hc3 ⟨hh.1.1.1, hh.1.1.2, hh.1.2, hh.2⟩
                rw [this] at hl; cases hl
          obtain ⟨k1, k2, k3, k4⟩ := key
          rw [hme]
          have hst := run_storeRow (P := P) hw hfr (m.d + q * esz + r) v.cells.toList (by rw [hvl, hxl, hc]; omega) (VRs_cell hxc hxa)
          obtain ⟨s1, s2, s3, s4, s5, s6⟩ := setCells_heap m.blk v.cells.toList (m.d + q * esz + r) w c e fr hw
          refine ⟨ρ, w.setCells m.blk (m.d + q * esz + r) v.cells.toList, ?_, ?_, ?_⟩
          · have hvs : v.cells.size = i.size := by rw [hsz, ← Lay.total, ← hxl, ← hvl]; simp
            simp only [Instr.storeAt, Instr.sureAddr, storeVar, Sem.run_bind, Sem.run_pure, Result.andThen_ok, run_sizeOf_eq hi]
            simp [hvs, hst]
          · refine rel_set hr hg rfl hm ?_ (fun B hB _ => s2 B hB) (by omega)
            exact rowR_put h0 k1 hm hme hc hlen k2 hfr hcells hxc (o := q * esz + r) (by rw [hxl]; exact k3) k4 (by rw [show m.d + (q * esz + r) = m.d + q * esz + r by omega]; exact s1)
          · exact later_set hg rfl hm s4 s5 s6 (by omega) (fun B hB _ => s2 B hB)
end Go.Sim
