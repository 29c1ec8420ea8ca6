/- The other operations that make rows; strings; lengths; tables. -/
import Derived.Test.YtjoffbhfcajcgaaDoorSim10
import Derived.Laws.BytesString
import Derived.Laws.IdiomStrings
set_option linter.unusedVariables false
set_option linter.unusedSimpArgs false
namespace Go.Sim
open Go.RowKit
variable {P : Program} {G : Nat} {ρ : Ren} {H : SHeap} {w w' : World}

theorem Later.frozenRow {m : Img} {b : Nat} {o : SObj} (hb : H.get b = some o) (hwr : o.writable = true) (hm : ρ b = some m) (hos : w'.os = w.os) (htape : w'.tape = w.tape) (hout : w'.output = w.output) (hsz : w'.heap.size = w.heap.size)
    (hsame : ∀ B, B ≠ m.blk → w'.heap[B]? = w.heap[B]?) : Later ρ H w ρ H w' where
  le := Ren.le_refl ρ
  os := hos
  tape := htape
  output := hout
  size := by omega
  keep := fun B hB hno => hsame B (fun e => hno b o m hb hwr hm e.symm)
  wr := fun x ox mx hx hw hmx => .inr ⟨x, ox, mx, hx, hw, hmx, rfl⟩

theorem copy_ok {t u e ty : TypeId} {i : TypeInfo} (hu : P.underlying t = some (.slice e)) (hi : P.info? e = some i) (h0 : 0 < i.size) (hr : Rel G ρ H w) {d s r : SV} {dv sv : Value} (hd : VR ρ d dv) (hs : VR ρ s sv) {H' : SHeap} (h : sCopy i.size H d s = some (r, H')) :
    Does P G ρ H w (Builtin.copy_ #[t, u] ty #[dv, sv]) r H' := by
  unfold sCopy at h
  cases hnew : sElems i.size H s with
  | none => rw [hnew] at h; cases h
  | some new =>
    rw [hnew] at h
    simp only [Option.bind_some] at h
    obtain ⟨hev, hlen, nv, hnv, hfirst⟩ := elems_ok (P := P) hr h0 hs hnew
    cases d <;> simp only at h <;> (try cases h)
    case some.nils.refl =>
      simp only [VR] at hd
      subst hd
      refine ⟨_, ρ, w, ?_, (show VR ρ (goInt 0) (.int .i64 0) by simp only [goInt, VR]; first | done | rfl), hr, Later.refl ρ H w⟩
      have hf := hfirst 0 (by omega) w rfl
      simp only [Builtin.copy_, List.getElem?_toArray, List.getElem?_cons_zero, List.getElem?_cons_succ, Sem.run_bind, run_underlying hu, Result.andThen_ok, hlen, run_sizeOf_eq hi]
      rw [show Nat.min new.length 0 = 0 from Nat.min_zero _, hf]
      rfl
    case some.slice b q len cap =>
      cases hg : H.get b with
      | none => rw [hg] at h; cases h
      | some o =>
        rw [hg] at h
        cases o with
        | dead => cases h
        | map _ _ => cases h
        | iter _ _ => cases h
        | cells ro es el l =>
          simp only [copyIn, beq_iff, ble_iff] at h
          by_cases hc : ro = false ∧ es = i.size ∧ q + len ≤ l.length
          · obtain ⟨rfl, c1, c2⟩ := hc
            subst c1
            simp only [Bool.not_false, decide_true, c2, Bool.and_self, cond_true, Option.some.injEq, Prod.mk.injEq] at h
            obtain ⟨rfl, rfl⟩ := h
            obtain ⟨_, hevl, m, c, e', fr, hm, hme, hw, hcs, hlenl, hfr, hcells⟩ := hr.obj b _ hg
            simp only [VR] at hd
            obtain ⟨m', a, cc, hm', rfl, hcap, hlc, hex⟩ := hd
            rw [hm] at hm'; cases hm'
            have hf := hfirst (Nat.min new.length len) (Nat.min_le_left _ _) w rfl
            have htk : Even i.size (new.take len) := fun x hx => hev x (List.mem_of_mem_take hx)
            have htl : (new.take len).length = Nat.min new.length len := by rw [List.length_take, Nat.min_comm]
            have hfl := flat_length _ htk
            have hVt : VRs ρ ((new.take len).flatMap SV.cells) (nv.take (Nat.min new.length len * i.size)) := by
              have hsplit : new.flatMap SV.cells = (new.take len).flatMap SV.cells ++ (new.drop len).flatMap SV.cells := by rw [← List.flatMap_append, List.take_append_drop]
              have := VRs_take (Nat.min new.length len * i.size) hnv
              rwa [hsplit, List.take_append_of_le_length (by rw [hfl, htl]; exact Nat.le_refl _), List.take_of_length_le (by rw [hfl, htl]; exact Nat.le_refl _)] at this
            have hvl := VRs_length hVt
            rw [hfl, htl] at hvl
            by_cases hz : Nat.min new.length len = 0
            · -- nothing goes over
              have htn : new.take len = [] := List.length_eq_zero_iff.1 (by rw [htl]; exact hz)
              have hnil : nv.take (Nat.min new.length len * i.size) = [] := List.length_eq_zero_iff.1 (by rw [hvl, hz, Nat.zero_mul])
              rw [htn]
              refine ⟨_, ρ, w, ?_, (show VR ρ (goInt (min new.length len)) (.int .i64 ((Nat.min new.length len : Nat) : Int)) by simp only [goInt, VR]; first | done | rfl), ?_, ?_⟩
              · simp only [Builtin.copy_, List.getElem?_toArray, List.getElem?_cons_zero, List.getElem?_cons_succ, Sem.run_bind, run_underlying hu, Result.andThen_ok, hlen, run_sizeOf_eq hi]
                rw [hf, hnil]
                rfl
              · refine rel_set hr hg rfl hm ?_ (fun _ _ _ => rfl) (Nat.le_refl _)
                exact hr.obj b _ hg
              · exact later_set hg rfl hm rfl rfl rfl (Nat.le_refl _) (fun _ _ _ => rfl)
            · have hcn : cc ≠ 0 := by
                have : Nat.min new.length len ≤ len := Nat.min_le_right _ _
                omega
              obtain ⟨ha, hbd⟩ := hex hcn
              subst ha
              have hml : Nat.min new.length len ≤ len := Nat.min_le_right _ _
              have hmul : Nat.min new.length len * i.size ≤ len * i.size := Nat.mul_le_mul_right _ hml
              have hq : q * i.size + len * i.size = (q + len) * i.size := (Nat.add_mul _ _ _).symm
              have hq2 : (q + len) * i.size ≤ l.length * i.size := Nat.mul_le_mul_right _ c2
              have hst := run_storeRow (P := P) hw hfr (m.d + q * i.size) (nv.take (Nat.min new.length len * i.size)) (by rw [hvl, hcs]; omega) (VRs_cell hVt (by
                rw [List.all_eq_true]
                intro y hy
                obtain ⟨z, hz, hyz⟩ := List.mem_flatMap.1 hy
                exact List.all_eq_true.1 (htk z hz).2 y hyz))
              obtain ⟨s1, s2, s3, s4, s5, s6⟩ := setCells_heap m.blk (nv.take (Nat.min new.length len * i.size)) (m.d + q * i.size) w c e' fr hw
              refine ⟨_, ρ, w.setCells m.blk (m.d + q * i.size) (nv.take (Nat.min new.length len * i.size)), ?_, (show VR ρ (goInt (min new.length len)) (.int .i64 ((Nat.min new.length len : Nat) : Int)) by simp only [goInt, VR]; first | done | rfl), ?_, ?_⟩
              · simp only [Builtin.copy_, List.getElem?_toArray, List.getElem?_cons_zero, List.getElem?_cons_succ, Sem.run_bind, run_underlying hu, Result.andThen_ok, hlen, run_sizeOf_eq hi]
                rw [hf]
                simp only [Result.andThen_ok, Sem.run_bind, hme, hst, Sem.run_pure]
                rfl
              · refine rel_set hr hg rfl hm ?_ (fun B hB _ => s2 B hB) (by omega)
                refine rowR_put h0 (setAt_even q hevl htk) hm hme hcs hlenl (setAt_length _ _ _) hfr hcells hVt (o := q * i.size) ?_ (fun j => ?_) s1
                · rw [hfl, htl]; omega
                · rw [cellOf_setAt h0 _ _ _ _ (by rw [htl]; omega), hfl, htl, ← Nat.add_mul]
                  by_cases hj : q * i.size ≤ j ∧ j < (q + Nat.min new.length len) * i.size
                  · rw [if_pos hj, if_pos hj, flat_get h0 _ htk]
                  · rw [if_neg hj, if_neg hj]
              · exact later_set hg rfl hm s4 s5 s6 (by omega) (fun B hB _ => s2 B hB)
          · have : (!ro && decide (es = i.size) && decide (q + len ≤ l.length)) = false := by
              rw [Bool.eq_false_iff]; intro hh; simp at hh; exact hc ⟨hh.1.1, hh.1.2, hh.2⟩
            rw [this] at h; cases h

/- ---------- rows of zeros ---------- -/
theorem replicate_even {esz : Nat} {z : SV} (h : z.cells.length = esz) (ha : z.cells.all SV.cell = true) (n : Nat) : Even esz (List.replicate n z) := fun x hx => by
  rw [List.eq_of_mem_replicate hx]; exact ⟨h, ha⟩
theorem zerosArr {z : Array Value} {n : Nat} (hz : 0 < z.size) : (Array.range (n * z.size)).map (fun i => z[i % z.size]!) = Builtin.zeroCells z n := rfl
theorem zeros_VRs {z : SV} {zv : Value} {esz : Nat} (hv : VR ρ z zv) (h0 : 0 < esz) (h : z.cells.length = esz) (ha : z.cells.all SV.cell = true) (n : Nat) : VRs ρ ((List.replicate n z).flatMap SV.cells) (Builtin.zeroCells zv.cells n).toList := by
  have hc := VR_cells hv
  have hl := VRs_length hc
  have hs : zv.cells.size = esz := by rw [← h, ← hl]; simp
  have hev := replicate_even h ha n
  refine VRs_of_get (by rw [Array.length_toList, zeroCells_size, flat_length _ hev, hs]; simp) fun i x hx => ?_
  rw [flat_get h0 _ hev] at hx
  have hlt := cellOf_lt hx h0
  unfold cellOf at hx
  have hq : (List.replicate n z)[i / esz]? = some z := by
    rw [List.getElem?_replicate, if_pos]
    rw [List.length_replicate] at hlt
    exact (Nat.div_lt_iff_lt_mul h0).2 hlt
  rw [hq] at hx
  simp only [Option.bind_some] at hx
  obtain ⟨v, hv', hr⟩ := VRs_get hc hx
  refine ⟨v, ?_, hr⟩
  rw [Array.getElem?_toList]
  simp only [Builtin.zeroCells, Array.getElem?_map]
  rw [List.length_replicate] at hlt
  rw [Array.getElem?_range, if_pos (by rw [hs]; exact hlt)]
  simp only [Option.map_some, hs]
  have : zv.cells[i % esz]? = some v := by simpa using hv'
  rw [Option.some.injEq]
  rw [getElem!_def, this]

theorem mkSlice_ok {t e : TypeId} {i : TypeInfo} {y : Lay} {z : SV} (hu : P.underlying t = some (.slice e)) (hi : P.info? e = some i) (hy : LayOk P e y) (hy1 : y.n = 1) (hz : zeroSV P e = some z) (hzl : z.cells.length = y.esz) (hza : z.cells.all SV.cell = true) (hsm : i.bytes ≤ 1048576)
    (hr : Rel G ρ H w) {ln cp r : SV} {lv cv : Value} (hl : VR ρ ln lv) (hc : VR ρ cp cv) {H' : SHeap} (h : xMkSlice y z i.bytes ln cp H = some (r, H')) : Does P G ρ H w (Instr.makeSlice t lv cv) r H' := by
  unfold xMkSlice at h
  cases h1 : sNat ln with
  | none => rw [h1] at h; cases h
  | some n =>
    cases h2 : sNat cp with
    | none => rw [h1, h2] at h; cases h
    | some c =>
      rw [h1, h2] at h
      simp only [Option.bind_some, ble_iff] at h
      cases hg : great c i.bytes y.esz with
      | true => rw [hg] at h; simp at h
      | false =>
        by_cases hle : n ≤ c
        · simp only [hle, decide_true, hg, Bool.not_false, Bool.and_self, cond_true, Option.some.injEq, Prod.mk.injEq] at h
          obtain ⟨rfl, rfl⟩ := h
          have hgr := great_ok hg
          have hpos := hy.pos
          obtain ⟨k1, rfl⟩ := sNat_ok hl h1
          obtain ⟨k2, rfl⟩ := sNat_ok hc h2
          obtain ⟨zv, hzr, hzv⟩ := zeroSV_ok hz
          obtain ⟨i', d', hi', hu', hsz⟩ := hy.info
          rw [hi] at hi'; cases hi'
          have hisz : i.size = y.esz := by rw [hsz, hy1, Nat.one_mul]
          have hb1 : c * i.bytes ≤ 1099511627776 := Nat.le_trans (Nat.mul_le_mul_left _ (by omega)) hgr
          have hb2 : c ≤ 1099511627776 := by
            calc c = c * 1 := by omega
              _ ≤ c * (i.bytes + y.esz) := Nat.mul_le_mul_left _ (by omega)
              _ ≤ _ := hgr
          have hbn : n * i.bytes ≤ c * i.bytes := Nat.mul_le_mul_right _ hle
          have wr : ∀ k : Nat, k ≤ 1099511627776 → IntKind.i64.wrap (k : Int) = (k : Int) := fun k hk => wrap_id .i64 _ (by simp only [IntKind.min, IntKind.max, IntKind.signed, IntKind.bits, if_true]; omega)
          have hzs : zv.cells.size = y.esz := by
            have := VRs_length (VR_cells (hzv ρ))
            rw [← hzl, ← this]; simp
          have hti : (typeInfo e).run P w = .ok i w := by simp [typeInfo, Sem.run_bind, hi]
          have hVz := zeros_VRs (ρ := ρ) (hzv ρ) hpos hzl hza c
          have hld := laid_flat hpos (replicate_even hzl hza c)
          obtain ⟨k3, k4⟩ := new_row hr hpos hld hVz [] y.elem e false
          refine ⟨.slice (some ⟨w.heap.size, 0, none⟩) n c, _, _, ?_, ?_, k3, k4⟩
          · have hnt : ∀ k : Nat, k * i.bytes ≤ 1099511627776 → (decide ((k : Int) < 0) || decide ((i.bytes : Int) * (k : Int) > 2 ^ 48)) = false := by
              intro k hk
              have h1 : (i.bytes : Int) * (k : Int) = ((k * i.bytes : Nat) : Int) := by push_cast; rw [Int.mul_comm]
              rw [h1]
              simp; omega
            have t1 := hnt c hb1
            simp only [Instr.makeSlice, Sem.run_bind, run_underlying hu, Result.andThen_ok, asInt, asIntOf, Sem.run_pure, hti]
            rw [wr c hb2, wr n (by omega)]
            have hcond : (decide ((c : Int) < 0) || decide ((i.bytes : Int) * (c : Int) > 2 ^ 48) || decide ((n : Int) < 0) || decide ((n : Int) > (c : Int))) = false := by
              rw [t1]; simp; omega
            simp only [hcond, Bool.false_eq_true, if_false, Sem.run_bind, run_askRoom, Result.andThen_ok, run_sizeOf_eq hi, Int.toNat_natCast]
            by_cases hc0 : c * i.size = 0
            · have hc00 : c = 0 := by
                rcases Nat.mul_eq_zero.1 hc0 with h | h
                · exact h
                · omega
              subst hc00
              simp only [Nat.zero_mul, if_true, Sem.run_pure, Result.andThen_ok, Go.newRow, Sem.run_bind, run_newObj]
              congr 4
              apply Array.ext'
              simp [Builtin.zeroCells, List.range_zero, Array.toList_range]
            · simp only [hc0, if_false, Sem.run_bind, hzr, Result.andThen_ok, Sem.run_pure, Go.newRow, run_newObj]
              congr 2
              simp only [List.append_nil, Array.toArray_toList, Builtin.zeroCells, hzs, hisz]
          · simp only [VR]
            refine ⟨_, _, _, Ren.upd_same _ _ _, rfl, ⟨by omega, fun _ => by omega⟩, hle, fun _ => ⟨by simp, ?_⟩⟩
            show 0 + 0 * y.esz + c * y.esz ≤ (Builtin.zeroCells zv.cells c).toList.length + [].length
            rw [Array.length_toList, zeroCells_size, hzs]; simp
        · simp [hle] at h
end Go.Sim
