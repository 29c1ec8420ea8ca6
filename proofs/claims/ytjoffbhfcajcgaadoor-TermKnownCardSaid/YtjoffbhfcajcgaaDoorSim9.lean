/- append, copy, rows that are made. -/
import Derived.Test.YtjoffbhfcajcgaaDoorSim8
set_option linter.unusedVariables false
set_option linter.unusedSimpArgs false
namespace Go.Sim
open Go.RowKit
variable {P : Program} {G : Nat} {ρ : Ren} {H : SHeap} {w w' : World}

theorem lenOf_slice (a : Option Addr) (n c : Nat) (w : World) : (Builtin.lenOf (.slice a n c)).run P w = .ok n w := rfl

theorem bytes_even (s : List Nat) : Even 1 (bytesSV s) := fun x hx => by
  unfold bytesSV at hx
  obtain ⟨n, _, rfl⟩ := List.mem_map.1 hx
  exact ⟨rfl, rfl⟩
theorem bytes_flat (s : List Nat) : (bytesSV s).flatMap SV.cells = bytesSV s := by
  unfold bytesSV
  induction s with
  | nil => rfl
  | cons n s ih => simp [SV.cells] at ih ⊢; exact ih
theorem bytes_VRs (s : ByteArray) : VRs ρ (bytesSV (s.data.toList.map (·.toNat))) (s.data.toList.map fun b => Value.int .u8 b.toNat) := by
  unfold bytesSV
  generalize s.data.toList = l
  induction l with
  | nil => exact VRs_nil ρ
  | cons b l ih => exact VRs_cons (by simp only [VR]; rfl) ih

/- the cells that are appended or copied -/
theorem elems_ok (hr : Rel G ρ H w) {esz : Nat} (h0 : 0 < esz) {x : SV} {v : Value} (hx : VR ρ x v) {new : List SV} (h : sElems esz H x = some new) :
    Even esz new ∧ (∀ w1 : World, (Builtin.lenOf v).run P w1 = .ok new.length w1) ∧
      ∃ vs, VRs ρ (new.flatMap SV.cells) vs ∧ ∀ n, n ≤ new.length → ∀ w1 : World, w1.heap = w.heap → (Builtin.firstCells esz n v).run P w1 = .ok (vs.take (n * esz)).toArray w1 := by
  cases x <;> simp only [sElems] at h <;> (try cases h)
  case nils =>
    simp only [VR] at hx
    subst hx
    refine ⟨(fun y hy => (by cases hy)), (fun w1 => rfl), [], VRs_nil ρ, fun n hn w1 _ => ?_⟩
    simp [Builtin.firstCells]
  case slice b q len cap =>
    cases hg : H.get b with
    | none => rw [hg] at h; cases h
    | some o =>
      rw [hg] at h
      cases o with
      | dead => cases h
      | map _ _ => cases h
      | iter _ _ => cases h
      | cells ro e el l =>
        simp only [elemsIn, beq_iff, ble_iff] at h
        by_cases hc : e = esz ∧ q + len ≤ l.length
        · obtain ⟨c1, c2⟩ := hc
          subst c1
          simp [c2] at h
          subst h
          obtain ⟨_, hev, m, c, e', fr, hm, hme, hw, hcs, hlen, hfr, hcells⟩ := hr.obj b _ hg
          simp only [VR] at hx
          obtain ⟨m', a, cc, hm', rfl, hcap, hlc, hex⟩ := hx
          rw [hm] at hm'; cases hm'
          have hsub := hev.sub q len
          have hnl : ((l.drop q).take len).length = len := by simp; omega
          have hfl := flat_length _ hsub
          rw [hnl] at hfl
          have hbd : m.d + q * e + len * e ≤ c.size := by
            have e1 : q * e + len * e = (q + len) * e := (Nat.add_mul _ _ _).symm
            have e2 : (q + len) * e ≤ l.length * e := Nat.mul_le_mul_right _ c2
            omega
          refine ⟨hsub, fun w1 => by rw [hnl]; rfl, (c.toList.drop (m.d + q * e)).take (len * e), ?_, fun n hn w1 hw1 => ?_⟩
          · have := VRs_seg (ρ := ρ) (zs := ((l.drop q).take len).flatMap SV.cells) (c := c) (o := m.d + q * e) (by rw [hfl]; exact hbd) (fun i z hz => by
              rw [flat_get h0 _ hsub] at hz
              obtain ⟨v, hv, hrv⟩ := hcells _ _ (cellOf_sub h0 l q len i hz)
              exact ⟨v, by rw [show m.d + q * e + i = m.d + (q * e + i) by omega]; exact hv, hrv⟩)
            rwa [hfl] at this
          · rw [hnl] at hn
            by_cases hcc : cc = 0
            · have : n = 0 := by omega
              subst this
              simp only [Nat.zero_mul, List.take_zero, Builtin.firstCells]
              rfl
            · obtain ⟨ha, _⟩ := hex hcc
              subst ha
              have hle : n * e ≤ len * e := Nat.mul_le_mul_right _ hn
              have := run_loadRow (P := P) (w := w1) (b := m.blk) (c := c) (e := e') (fr := fr) (by rw [hw1]; exact hw) (m.d + q * e) (n * e) (by omega)
              simp only [Builtin.firstCells, hme]
              rw [this, List.take_take, Nat.min_eq_left hle]
        · have : (decide (e = esz) && decide (q + len ≤ l.length)) = false := by
            rw [Bool.eq_false_iff]; intro hh; simp at hh; exact hc hh
          rw [this] at h; cases h
  case str s =>
    simp only [beq_iff] at h
    by_cases h1 : esz = 1
    · subst h1
      simp at h
      subst h
      obtain ⟨t, rfl, rfl⟩ := VR_str.1 hx
      refine ⟨bytes_even _, fun w1 => ?_, t.data.toList.map fun b => Value.int .u8 b.toNat, ?_, fun n hn w1 _ => ?_⟩
      · simp [Builtin.lenOf, bytesSV]
      · rw [bytes_flat]; exact bytes_VRs t
      · simp only [Builtin.firstCells, Sem.run_pure, Nat.mul_one]
        congr 1
        apply Array.ext'
        rw [← List.map_take]
        simp only [List.toList_toArray, Array.toList_map]
        congr 1
        first | done | simp [ByteArray.data_extract]
    · simp [h1] at h

theorem VRs_flat_len {esz : Nat} {new : List SV} (he : Even esz new) {vs : List Value} (h : VRs ρ (new.flatMap SV.cells) vs) : vs.length = new.length * esz := by
  rw [VRs_length h, flat_length _ he]
theorem laid_flat {esz : Nat} (h0 : 0 < esz) {l : List SV} (he : Even esz l) : Laid esz l (l.flatMap SV.cells) :=
  ⟨he, by rw [flat_length _ he], fun j => (flat_get h0 l he j).symm⟩

/- how great append's growth asks for -/
theorem growBy_le (newLen : Nat) : ∀ (r c : Nat), r ≤ 4 → Builtin.growBy newLen r c ≤ if r = 0 then c else if r = 1 then 2 * c + 200 else if r = 2 then 2 * c + 600 else if r = 3 then 2 * c + 1200 else 3 * c + 2000 := by
  intro r c hr
  have g0 : ∀ c, Builtin.growBy newLen 0 c = c := fun c => rfl
  have gs : ∀ r c, Builtin.growBy newLen (r + 1) c = if c ≥ newLen then c else Builtin.growBy newLen r (c + (c + 768) / 4) := fun r c => rfl
  rcases r with _ | _ | _ | _ | _ | r
  · simp [g0]
  · simp only [gs, g0]; split <;> simp <;> omega
  · simp only [gs, g0]; (repeat' split) <;> simp <;> omega
  · simp only [gs, g0]; (repeat' split) <;> simp <;> omega
  · simp only [gs, g0]; (repeat' split) <;> simp <;> omega
  · omega
theorem nextcap_le {need cap : Nat} (h : cap < need) : Builtin.nextslicecap need cap ≤ 3 * need + 2000 := by
  unfold Builtin.nextslicecap
  split
  · omega
  · split
    · omega
    · have := growBy_le need 4 cap (by omega)
      simp at this
      omega

structure RowTy (P : Program) (t e : TypeId) (i : TypeInfo) : Prop where
  sl : P.underlying t = some (.slice e)
  inf : P.info? e = some i
  pos : 0 < i.size
  small : i.bytes ≤ 1048576
  zero : ∃ z, zeroSV P e = some z ∧ z.cells.length = i.size

theorem rowsOk_ok {t e : TypeId} {i : TypeInfo} (hu : P.underlying t = some (.slice e)) (hi : P.info? e = some i) (h : rowsOk P e i = true) : RowTy P t e i := by
  unfold rowsOk at h
  cases hz : zeroSV P e with
  | none => rw [hz] at h; cases h
  | some z =>
    rw [hz] at h
    simp at h
    exact ⟨hu, hi, h.2, h.1.2, z, hz, h.1.1⟩

/- ---------- the model's append, both ways ---------- -/
theorem great_ok {n bytes esz : Nat} (h : great n bytes esz = false) : n * (bytes + esz) ≤ 1099511627776 := by
  unfold great at h
  rw [ble_iff] at h
  simpa using h

theorem run_append_in {t u e ty : TypeId} {i : TypeInfo} (hrt : RowTy P t e i) (hu2 : ∃ d, P.underlying u = some d ∧ (∀ k, d ≠ .int k)) {s x : Value} {base : Option Addr} {sLen sCap n : Nat} (hs : s = .slice base sLen sCap) (hlen : ∀ w1, (Builtin.lenOf x).run P w1 = .ok n w1) (hcap : sLen + n ≤ sCap)
    {vs : Array Value} {w1 : World} (hnew : (Builtin.firstCells i.size n x).run P w = .ok vs w) (hst1 : ∀ a, base = some a → (storeCells (a.add (sLen * i.size)) vs.toList).run P w = .ok () w1) (hst2 : base = none → w1 = w) :
    (Builtin.append_ #[t, u] ty #[s, x]).run P w = .ok (.slice base (sLen + n) sCap) w1 := by
  subst hs
  obtain ⟨d, hd, hdi⟩ := hu2
  unfold Builtin.append_
  simp only [List.getElem?_toArray, List.getElem?_cons_zero, List.getElem?_cons_succ, Sem.run_bind, run_underlying hrt.sl, Result.andThen_ok, run_sizeOf_eq hrt.inf, run_underlying hd, Sem.run_pure]
  cases d <;> first
    | (exact absurd rfl (hdi _))
    | (simp only [Result.andThen_ok, Bool.false_eq_true, if_false, Sem.run_bind, hlen, hcap, if_true, Bool.not_false, hnew]
       cases base with
       | none => rw [hst2 rfl]; rfl
       | some a => simp only [Sem.run_bind, hst1 a rfl, Result.andThen_ok, Sem.run_pure])

def ρ0 : Ren := fun _ => none
theorem zeroCells_size (z : Array Value) (n : Nat) : (Builtin.zeroCells z n).size = n * z.size := by simp [Builtin.zeroCells]

/- where there is no room: a new row, whatever its capacity -/
theorem run_append_grow {t u e ty : TypeId} {i : TypeInfo} (hrt : RowTy P t e i) (hu2 : ∃ d, P.underlying u = some d ∧ (∀ k, d ≠ .int k)) {s x : Value} {base : Option Addr} {sLen sCap n : Nat} (hs : s = .slice base sLen sCap) (hlen : ∀ w1, (Builtin.lenOf x).run P w1 = .ok n w1) (hcap : ¬ sLen + n ≤ sCap)
    (hbytes : (sLen + n) * i.bytes ≤ 1099511627776) (hneed : sLen + n ≤ 1099511627776)
    {old vs : Array Value} (hold : ∀ w1 : World, w1.heap = w.heap → (Builtin.firstCells i.size sLen s).run P w1 = .ok old w1) (hnew : ∀ w1 : World, w1.heap = w.heap → (Builtin.firstCells i.size n x).run P w1 = .ok vs w1) :
    ∃ (newCap : Nat) (extra : Array Value), sLen + n ≤ newCap ∧ extra.size = (newCap - (sLen + n)) * i.size ∧
      (Builtin.append_ #[t, u] ty #[s, x]).run P w = .ok (.slice (some ⟨w.heap.size, 0, none⟩) (sLen + n) newCap) { ({ w with drawn := w.drawn + 1 } : World) with heap := w.heap.push (.cells (old ++ vs ++ extra) e) } := by
  subst hs
  obtain ⟨d, hd, hdi⟩ := hu2
  obtain ⟨z, hz, hzl⟩ := hrt.zero
  obtain ⟨zv, hzrun, hzv⟩ := zeroSV_ok hz
  have hzs : zv.cells.size = i.size := by
    have := VRs_length (VR_cells (hzv ρ0))
    rw [← hzl, ← this]; simp
  have hnc : Builtin.nextslicecap (sLen + n) sCap * i.bytes ≤ 2 ^ 48 := by
    have h1 := nextcap_le (need := sLen + n) (cap := sCap) (by omega)
    have h2 := hrt.small
    calc Builtin.nextslicecap (sLen + n) sCap * i.bytes ≤ (3 * (sLen + n) + 2000) * i.bytes := Nat.mul_le_mul_right _ h1
      _ = 3 * ((sLen + n) * i.bytes) + 2000 * i.bytes := by rw [Nat.add_mul, Nat.mul_assoc]
      _ ≤ 2 ^ 48 := by omega
  refine ⟨(Question.appendCap (sLen + n) sCap e).cut (w.tape w.drawn (.appendCap (sLen + n) sCap e)), Builtin.zeroCells zv.cells ((Question.appendCap (sLen + n) sCap e).cut (w.tape w.drawn (.appendCap (sLen + n) sCap e)) - (sLen + n)), ?_, by rw [zeroCells_size, hzs], ?_⟩
  · simp only [Question.cut]; omega
  · generalize hcut : (Question.appendCap (sLen + n) sCap e).cut (w.tape w.drawn (.appendCap (sLen + n) sCap e)) = newCap
    have hbig : ¬ (((sLen + n : Nat) : Int) > IntKind.i64.max) := by
      simp only [IntKind.max, IntKind.signed, IntKind.bits, if_true]; omega
    have hnc' : ¬ (Builtin.nextslicecap (sLen + n) sCap * i.bytes > 2 ^ 48) := by omega
    have hforced : (Question.appendCap (sLen + n) sCap e).forced = false := rfl
    have hti : ∀ w1 : World, (typeInfo e).run P w1 = .ok i w1 := fun w1 => by simp [typeInfo, Sem.run_bind, hrt.inf]
    have ho := hold { w with drawn := w.drawn + 1 } rfl
    have hn := hnew { w with drawn := w.drawn + 1 } rfl
    unfold Builtin.append_
    simp only [List.getElem?_toArray, List.getElem?_cons_zero, List.getElem?_cons_succ, Sem.run_bind, run_underlying hrt.sl, Result.andThen_ok, run_sizeOf_eq hrt.inf, run_underlying hd, Sem.run_pure]
    cases d <;> first
      | (exact absurd rfl (hdi _))
      | (simp only [Result.andThen_ok, Bool.false_eq_true, if_false, Sem.run_bind, hlen, hcap, if_true, Bool.not_false, hti, hbig, false_and, hnc', run_choose, hforced, hcut, run_askRoom, ho, hn, hzrun, Go.newRow, run_newObj, Sem.run_pure])
end Go.Sim
