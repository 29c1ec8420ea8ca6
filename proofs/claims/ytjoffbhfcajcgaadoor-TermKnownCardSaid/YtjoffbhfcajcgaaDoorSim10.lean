/- append and copy as the reduced machine has them. -/
import Derived.Test.YtjoffbhfcajcgaaDoorSim9
set_option linter.unusedVariables false
set_option linter.unusedSimpArgs false
namespace Go.Sim
open Go.RowKit
variable {P : Program} {G : Nat} {ρ : Ren} {H H1 : SHeap} {w w' : World}

def plainArg (P : Program) (u : TypeId) : Prop := ∃ d, P.underlying u = some d ∧ (∀ k, d ≠ .int k)

theorem Even.append {esz : Nat} {a b : List SV} (h : Even esz a) (k : Even esz b) : Even esz (a ++ b) := fun x hx => by
  rcases List.mem_append.1 hx with hx | hx
  · exact h x hx
  · exact k x hx

/- a new row, behind a draw -/
theorem grow_row (hr : Rel G ρ H1 w) {esz : Nat} (h0 : 0 < esz) {oldE new : List SV} (ho : Even esz oldE) (hn : Even esz new) {ov nv : List Value} (hov : VRs ρ (oldE.flatMap SV.cells) ov) (hnv : VRs ρ (new.flatMap SV.cells) nv) (elem te newCap : Nat) (extra : Array Value)
    (hcap : oldE.length + new.length ≤ newCap) (hex : extra.size = (newCap - (oldE.length + new.length)) * esz) :
    ∃ ρ', let w' : World := { ({ w with drawn := w.drawn + 1 } : World) with heap := w.heap.push (.cells (ov.toArray ++ nv.toArray ++ extra) te) }
      Rel G ρ' (H1.alloc (.cells false esz elem (oldE ++ new))) w' ∧ Later ρ H1 w ρ' (H1.alloc (.cells false esz elem (oldE ++ new))) w' ∧
        VR ρ' (.slice H1.next 0 (oldE.length + new.length) (2 * (oldE.length + new.length) + 1)) (.slice (some ⟨w.heap.size, 0, none⟩) (oldE.length + new.length) newCap) := by
  have hld := laid_flat h0 (ho.append hn)
  have hvs : VRs ρ ((oldE ++ new).flatMap SV.cells) (ov ++ nv) := by rw [List.flatMap_append]; exact VRs_append hov hnv
  have hlen := VRs_flat_len (ho.append hn) hvs
  obtain ⟨h1, h2⟩ := new_row (hr.drew (w.drawn + 1)) h0 hld hvs extra.toList elem te false
  have harr : (ov.toArray ++ nv.toArray ++ extra) = (ov ++ nv ++ extra.toList).toArray := by apply Array.ext'; simp
  refine ⟨_, by rw [harr]; exact h1, by rw [harr]; exact (Later.drew ρ H1 w (w.drawn + 1)).trans h2, ?_⟩
  simp only [VR]
  refine ⟨_, _, _, Ren.upd_same _ _ _, rfl, ⟨by omega, fun hp => by omega⟩, hcap, fun _ => ⟨by simp, ?_⟩⟩
  show 0 + 0 * esz + newCap * esz ≤ (ov ++ nv).length + extra.toList.length
  have e1 := Array.length_toList (xs := extra)
  rw [hlen, List.length_append, e1, hex, ← Nat.add_mul]
  rw [show oldE.length + new.length + (newCap - (oldE.length + new.length)) = newCap by omega]
  omega

theorem VRs_take_all {xs : List SV} {vs : List Value} {n : Nat} (h : VRs ρ xs vs) (hn : xs.length = n) : vs.take n = vs := List.take_of_length_le (by rw [VRs_length h, hn]; exact Nat.le_refl _)

theorem append_ok {t u e ty el : TypeId} {i : TypeInfo} (hrt : RowTy P t e i) (hu2 : plainArg P u) (hr : Rel G ρ H w) {s x r : SV} {sv xv : Value} (hs : VR ρ s sv) (hx : VR ρ x xv) {H' : SHeap} (h : sAppend el i.size i.bytes H s x = some (r, H')) :
    Does P G ρ H w (Builtin.append_ #[t, u] ty #[sv, xv]) r H' := by
  have h0 := hrt.pos
  unfold sAppend at h
  rw [beq_iff] at h
  have hne : ¬ i.size = 0 := by omega
  simp only [hne, decide_false, cond_false] at h
  cases hnew : sElems i.size H x with
  | none => rw [hnew] at h; cases h
  | some new =>
    rw [hnew] at h
    simp only [Option.bind_some] at h
    obtain ⟨hev, hlen, nv, hnv, hfirst⟩ := elems_ok hr h0 hx hnew
    have hnl := VRs_flat_len hev hnv
    have hfull : nv.take (new.length * i.size) = nv := List.take_of_length_le (by omega)
    have hfn : ∀ w1 : World, w1.heap = w.heap → (Builtin.firstCells i.size new.length xv).run P w1 = .ok nv.toArray w1 := fun w1 hw1 => by
      have := hfirst new.length (Nat.le_refl _) w1 hw1
      rwa [hfull] at this
    cases hn : new with
    | nil =>
      rw [hn] at h
      simp only [appendAll] at h
      cases hsl : isSlice s with
      | false => rw [hsl] at h; cases h
      | true =>
        rw [hsl] at h
        simp only [cond_true, Option.some.injEq, Prod.mk.injEq] at h
        obtain ⟨rfl, rfl⟩ := h
        have hb : ∃ base sLen sCap, sv = .slice base sLen sCap ∧ sLen ≤ sCap := by
          cases s <;> simp only [isSlice] at hsl <;> (try cases hsl) <;> simp only [VR] at hs
          · exact ⟨none, 0, 0, hs, Nat.le_refl _⟩
          · obtain ⟨m, a, c, _, rfl, _, hl, _⟩ := hs; exact ⟨_, _, _, rfl, hl⟩
        obtain ⟨base, sLen, sCap, rfl, hle⟩ := hb
        rw [hn] at hlen hfn hnv
        have hnv0 : nv = [] := by simpa [VRs] using hnv
        have hrun := run_append_in (P := P) (w := w) (ty := ty) hrt hu2 rfl (n := 0) hlen (by omega) (vs := nv.toArray) (w1 := w) (hfn w rfl) (base := base) (fun a _ => by rw [hnv0]; rfl) (fun _ => rfl)
        exact ⟨_, ρ, w, hrun, by simpa using hs, hr, Later.refl ρ H w⟩
    | cons n0 nr =>
      have hk : new.length = nr.length + 1 := by rw [hn]; rfl
      have hall : appendAll el i.size i.bytes H s new = appendSome el i.size i.bytes H s new new.length := by rw [hn]; rfl
      rw [hn] at hall
      rw [hn, hall, ← hn] at h
      cases s <;> simp only [appendSome] at h <;> (try cases h)
      case nils =>
        cases hg : great new.length i.bytes i.size with
        | true => rw [hg] at h; cases h
        | false =>
          rw [hg] at h
          simp only [cond_false, newRow, Option.some.injEq, Prod.mk.injEq] at h
          obtain ⟨rfl, rfl⟩ := h
          have hgr := great_ok hg
          simp only [VR] at hs
          subst hs
          obtain ⟨newCap, extra, hc1, hc2, hrun⟩ := run_append_grow (P := P) (w := w) (ty := ty) hrt hu2 rfl hlen (base := none) (sLen := 0) (sCap := 0) (by omega) (by
              calc (0 + new.length) * i.bytes ≤ new.length * (i.bytes + i.size) := by rw [Nat.zero_add]; exact Nat.mul_le_mul_left _ (by omega)
                _ ≤ _ := hgr) (by
              calc 0 + new.length = new.length * 1 := by omega
                _ ≤ new.length * (i.bytes + i.size) := Nat.mul_le_mul_left _ (by omega)
                _ ≤ _ := hgr) (old := #[]) (fun w1 _ => by simp [Builtin.firstCells]) hfn
          obtain ⟨ρ', k1, k2, k3⟩ := grow_row hr h0 (oldE := []) (fun x hx => by cases hx) hev (ov := []) (VRs_nil ρ) hnv el e newCap extra (by simpa using hc1) (by simpa using hc2)
          simp only [List.length_nil, Nat.zero_add, List.nil_append] at k1 k2 k3 hrun
          exact ⟨_, ρ', _, hrun, k3, k1, k2⟩
      case slice b q len cap =>
        cases hg : great (len + new.length) i.bytes i.size with
        | true => rw [hg] at h; cases h
        | false =>
          rw [hg] at h
          simp only [cond_false] at h
          have hgr := great_ok hg
          have hby : (len + new.length) * i.bytes ≤ 1099511627776 := Nat.le_trans (Nat.mul_le_mul_left _ (by omega)) hgr
          have hnd : len + new.length ≤ 1099511627776 := by
            calc len + new.length = (len + new.length) * 1 := by omega
              _ ≤ (len + new.length) * (i.bytes + i.size) := Nat.mul_le_mul_left _ (by omega)
              _ ≤ _ := hgr
          cases hgb : H.get b with
          | none => rw [hgb] at h; cases h
          | some o =>
            rw [hgb] at h
            cases o with
            | dead => cases h
            | map _ _ => cases h
            | iter _ _ => cases h
            | cells ro es el' l =>
              simp only [appendTo, beq_iff, ble_iff] at h
              by_cases hc : es = i.size ∧ q + len ≤ l.length
              · obtain ⟨c1, c2⟩ := hc
                subst c1
                simp only [c2, decide_true, Bool.and_self, cond_true] at h
                -- what is there already
                have hold : sElems i.size H (.slice b q len cap) = some ((l.drop q).take len) := by
                  simp [sElems, hgb, elemsIn, c2, beq_iff, ble_iff]
                obtain ⟨hoe, holen, ov, hov, hof⟩ := elems_ok hr h0 hs hold
                have hol : ((l.drop q).take len).length = len := by simp; omega
                have hovl := VRs_flat_len hoe hov
                rw [hol] at hovl hof
                have hofull : ∀ w1 : World, w1.heap = w.heap → (Builtin.firstCells i.size len sv).run P w1 = .ok ov.toArray w1 := fun w1 hw1 => by
                  have := hof len (Nat.le_refl _) w1 hw1
                  rwa [List.take_of_length_le (by omega)] at this
                obtain ⟨_, hevl, m, c, e', fr, hm, hme, hw, hcs, hlenl, hfr, hcells⟩ := hr.obj b _ hgb
                have hs0 := hs
                simp only [VR] at hs0
                obtain ⟨m', a, cc, hm', rfl, hcap, hlc, hexact⟩ := hs0
                rw [hm] at hm'; cases hm'
                obtain ⟨hcap1, hcap2⟩ := hcap
                -- the model's store behind what is there
                have inplace : len + new.length ≤ cc → ∃ w1, (Builtin.append_ #[t, u] ty #[.slice (some a) len cc, xv]).run P w = .ok (.slice (some a) (len + new.length) cc) w1 ∧ a = ⟨m.blk, m.d + q * m.esz, none⟩ ∧
                    w1 = w.setCells m.blk (m.d + q * i.size + len * i.size) nv ∧ m.d + q * i.size + cc * i.size ≤ c.size := by
                  intro hle
                  obtain ⟨ha, hbd⟩ := hexact (by omega)
                  have hbd' : m.d + q * i.size + cc * i.size ≤ c.size := by rw [hcs, ← hme]; exact hbd
                  have hbd2 : (len + new.length) * i.size ≤ cc * i.size := Nat.mul_le_mul_right _ hle
                  rw [Nat.add_mul] at hbd2
                  refine ⟨_, ?_, ha, rfl, hbd'⟩
                  have hst := run_storeRow (P := P) hw hfr (m.d + q * i.size + len * i.size) nv (by omega) (VRs_cell hnv (by
                    rw [List.all_eq_true]
                    intro y hy
                    obtain ⟨z, hz, hyz⟩ := List.mem_flatMap.1 hy
                    exact List.all_eq_true.1 (hev z hz).2 y hyz))
                  exact run_append_in (P := P) (w := w) (ty := ty) hrt hu2 rfl hlen hle (vs := nv.toArray) (w1 := _) (hfn w rfl) (base := some a) (fun a' ha' => by
                    cases ha'
                    rw [ha, addr_add, hme]
                    exact hst) (fun hnone => by cases hnone)
                by_cases hin : len + new.length ≤ cap / 2
                · -- surely in place
                  simp only [hin, decide_true, cond_true] at h
                  cases ro with
                  | true => cases h
                  | false =>
                    by_cases hfit : q + len + new.length ≤ l.length
                    · simp only [hfit, decide_true, Bool.not_false, Bool.and_self, cond_true, Option.some.injEq, Prod.mk.injEq] at h
                      obtain ⟨rfl, rfl⟩ := h
                      obtain ⟨w1, hrun, ha, hw1, hbd⟩ := inplace (by omega)
                      obtain ⟨s1, s2, s3, s4, s5, s6⟩ := setCells_heap m.blk nv (m.d + q * i.size + len * i.size) w c e' fr hw
                      have hset : Even i.size (setAt l (q + len) new) := setAt_even _ hevl hev
                      refine ⟨_, ρ, w1, hrun, ?_, ?_, ?_⟩
                      · simp only [VR]
                        exact ⟨m, a, cc, hm, rfl, ⟨hcap1, hcap2⟩, by omega, hexact⟩
                      · subst hw1
                        refine rel_set hr hgb rfl hm ?_ (fun B hB _ => s2 B hB) (by omega)
                        have hflat := flat_length _ hev
                        refine rowR_put h0 hset hm hme hcs hlenl (setAt_length _ _ _) hfr hcells hnv (o := (q + len) * i.size) ?_ (fun j => ?_) (by rw [show m.d + (q + len) * i.size = m.d + q * i.size + len * i.size by rw [Nat.add_mul]; omega]; exact s1)
                        · rw [hflat, ← Nat.add_mul]; exact Nat.mul_le_mul_right _ hfit
                        · rw [cellOf_setAt h0 _ _ _ _ hfit, hflat, ← Nat.add_mul]
                          by_cases hj : (q + len) * i.size ≤ j ∧ j < (q + len + new.length) * i.size
                          · rw [if_pos hj, if_pos hj, flat_get h0 _ hev]
                          · rw [if_neg hj, if_neg hj]
                      · subst hw1
                        exact later_set hgb rfl hm s4 s5 s6 (by omega) (fun B hB _ => s2 B hB)
                    · simp only [hfit, decide_false, Bool.and_false, cond_false] at h; cases h
                · simp only [hin, decide_false, cond_false] at h
                  have growWith : ∀ (H1 : SHeap), Rel G ρ H1 w → Later ρ H w ρ H1 w → ¬ len + new.length ≤ cc → ∀ r H', newRow H1 i.size el (len + new.length) ((l.drop q).take len ++ new) = some (r, H') → Does P G ρ H w (Builtin.append_ #[t, u] ty #[.slice (some a) len cc, xv]) r H' := by
                    intro H1 hr1 hl1 hnle r H' hnr
                    simp only [newRow, Option.some.injEq, Prod.mk.injEq] at hnr
                    obtain ⟨rfl, rfl⟩ := hnr
                    obtain ⟨newCap, extra, hc1, hc2, hrun⟩ := run_append_grow (P := P) (w := w) (ty := ty) hrt hu2 rfl hlen hnle hby hnd (old := ov.toArray) hofull hfn
                    obtain ⟨ρ', k1, k2, k3⟩ := grow_row hr1 h0 hoe hev hov hnv el e newCap extra (by rw [hol]; exact hc1) (by rw [hol]; exact hc2)
                    rw [hol] at k3
                    exact ⟨_, ρ', _, hrun, k3, k1, hl1.trans k2⟩
                  by_cases hpar : cap % 2 = 0
                  · simp only [hpar, decide_true, cond_true] at h
                    exact growWith H hr (Later.refl ρ H w) (by have := hcap2 hpar; omega) r H' h
                  · simp only [hpar, decide_false, cond_false] at h
                    cases ro with
                    | true => cases h
                    | false =>
                      simp only [cond_false] at h
                      have hk1 := rel_kill hr hgb
                      by_cases hle : len + new.length ≤ cc
                      · -- the model writes behind; the reduced machine has another row
                        simp only [newRow, Option.some.injEq, Prod.mk.injEq] at h
                        obtain ⟨rfl, rfl⟩ := h
                        obtain ⟨w1, hrun, ha, hw1, hbd⟩ := inplace hle
                        obtain ⟨s1, s2, s3, s4, s5, s6⟩ := setCells_heap m.blk nv (m.d + q * i.size + len * i.size) w c e' fr hw
                        subst hw1
                        have hmb := (hr.dom b m hm).2
                        have hle2 : (len + new.length) * i.size ≤ cc * i.size := Nat.mul_le_mul_right _ hle
                        have hn2 := Nat.add_mul len new.length i.size
                        refine ⟨_, ρ.upd H.next ⟨m.blk, m.d + q * i.size, i.size, m.msz⟩, _, hrun, ?_, ?_, ?_⟩
                        · simp only [VR, SHeap.next_set]
                          refine ⟨_, a, cc, Ren.upd_same _ _ _, rfl, ⟨by omega, fun hp => by omega⟩, hle, fun _ => ⟨by rw [ha, hme]; simp, ?_⟩⟩
                          show m.d + q * i.size + 0 * i.size + cc * i.size ≤ m.msz
                          rw [← hcs]; omega
                        · have := rel_alloc (w' := w.setCells m.blk (m.d + q * i.size + len * i.size) nv) hk1 (.cells false i.size el ((l.drop q).take len ++ new)) ⟨m.blk, m.d + q * i.size, i.size, m.msz⟩ ?_ (fun B hB _ => s2 B hB) (by omega) (by rw [s3]; exact hmb) (fun b1 o1 m1 hb1 hl1 hm1 => ?_)
                          · exact this
                          · refine ⟨h0, hoe.append hev, _, arrPut c (m.d + q * i.size + len * i.size) nv, e', fr, Ren.upd_same _ _ _, rfl, s1, by rw [arrPut_size]; exact hcs, ?_, ?_, fun j y hy => ?_⟩
                            · show m.d + q * i.size + ((l.drop q).take len ++ new).length * i.size ≤ m.msz
                              rw [List.length_append, hol, hn2, ← hcs]; omega
                            · unfold notFrozen; rw [arrPut_size]; exact hfr
                            · show ∃ v, (arrPut c (m.d + q * i.size + len * i.size) nv)[m.d + q * i.size + j]? = some v ∧ _
                              have hmono := Ren.le_upd (ρ := ρ) (b := (H.set b .dead).next) (⟨m.blk, m.d + q * i.size, i.size, m.msz⟩ : Img) hk1.fresh
                              rw [← flat_get h0 _ (hoe.append hev), List.flatMap_append, List.getElem?_append, flat_length _ hoe, hol] at hy
                              rw [arrPut_get]
                              by_cases hj : j < len * i.size
                              · rw [if_pos hj, flat_get h0 _ hoe] at hy
                                rw [if_neg (by omega)]
                                obtain ⟨v, hv, hrv⟩ := hcells _ _ (cellOf_sub h0 l q len j hy)
                                exact ⟨v, by rw [show m.d + q * i.size + j = m.d + (q * i.size + j) by omega]; exact hv, VR_mono hmono _ hrv⟩
                              · rw [if_neg hj] at hy
                                obtain ⟨v, hv, hrv⟩ := VRs_get hnv hy
                                have hjl := (List.getElem?_eq_some_iff.1 hv).1
                                rw [if_pos (by omega)]
                                exact ⟨v, by rw [show m.d + q * i.size + j - (m.d + q * i.size + len * i.size) = j - len * i.size by omega]; exact hv, VR_mono hmono _ hrv⟩
                          · intro heq
                            have hne1 : b1 ≠ b := fun e1 => by
                              rw [e1, SHeap.get_set _ _ _ _ (SHeap.lt_of_get hgb), if_pos rfl] at hb1
                              cases hb1; cases hl1
                            rw [SHeap.get_set _ _ _ _ (SHeap.lt_of_get hgb), if_neg hne1] at hb1
                            exact hne1 (hr.inj b1 b o1 _ m1 m hb1 hgb hl1 rfl hm1 hm heq)
                        · exact later_move hr hgb rfl hm rfl s4 s5 s6 (by omega) (fun B hB _ => s2 B hB)
                      · exact growWith (H.set b .dead) hk1 (later_kill hgb) hle r H' h
              · have : (decide (es = i.size) && decide (q + len ≤ l.length)) = false := by
                  rw [Bool.eq_false_iff]; intro hh; simp at hh; exact hc hh
                rw [this] at h; cases h
end Go.Sim
