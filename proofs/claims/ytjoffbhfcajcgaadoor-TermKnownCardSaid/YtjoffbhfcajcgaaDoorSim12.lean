/- Slices that are written out; conversions; strings; lengths; tables. -/
import Derived.Test.YtjoffbhfcajcgaaDoorSim11
set_option linter.unusedVariables false
set_option linter.unusedSimpArgs false
namespace Go.Sim
open Go.RowKit
variable {P : Program} {G : Nat} {ρ : Ren} {H : SHeap} {w w' : World}

theorem setAt_one (l : List SV) (i : Nat) (x : SV) : setAt l i [x] = l.set i x := rfl
theorem setParts_length : ∀ (ps : List (Nat × SV)) (l : List SV), (setParts l ps).length = l.length
  | [], l => rfl
  | p :: ps, l => by rw [setParts, setParts_length ps]; simp
theorem parts_fill {esz : Nat} (h0 : 0 < esz) : ∀ (ps : List (Nat × SV)) (l : List SV), Even esz l → (∀ p ∈ ps, p.1 < l.length ∧ p.2.cells.length = esz ∧ p.2.cells.all SV.cell = true) →
    Even esz (setParts l ps) ∧ sFill (l.flatMap SV.cells) (ps.map fun p => (p.1 * esz, esz, p.2)) = some ((setParts l ps).flatMap SV.cells)
  | [], l, he, _ => ⟨he, rfl⟩
  | p :: ps, l, he, hp => by
    obtain ⟨h1, h2, h3⟩ := hp p (by simp)
    have hx : Even esz [p.2] := fun x hx => by simp at hx; subst hx; exact ⟨h2, h3⟩
    have he2 : Even esz (l.set p.1 p.2) := by rw [← setAt_one]; exact setAt_even _ he hx
    obtain ⟨k1, k2⟩ := parts_fill h0 ps (l.set p.1 p.2) he2 (fun q hq => by have := hp q (by simp [hq]); simpa using this)
    refine ⟨by rw [setParts]; exact k1, ?_⟩
    simp only [List.map_cons, sFill]
    have hn : isN esz p.2 = true := isN_iff.2 ⟨h2, h3⟩
    have hle : p.1 * esz + esz ≤ (l.flatMap SV.cells).length := by
      rw [flat_length _ he]
      calc p.1 * esz + esz = (p.1 + 1) * esz := by rw [Nat.add_mul]; omega
        _ ≤ l.length * esz := Nat.mul_le_mul_right _ h1
    rw [hn, ble_iff]
    simp only [hle, decide_true, Bool.and_self, cond_true]
    have hput : putAll (l.flatMap SV.cells) (p.1 * esz) p.2.cells = (l.set p.1 p.2).flatMap SV.cells := by
      apply List.ext_getElem?
      intro j
      rw [putAll_get _ _ _ _ (by rw [h2]; exact hle), flat_get h0 _ he2, ← setAt_one, cellOf_setAt h0 _ _ _ _ (by simp; omega), h2]
      simp only [List.length_singleton]
      have e1 : (p.1 + 1) * esz = p.1 * esz + esz := by rw [Nat.add_mul]; omega
      by_cases hj : p.1 * esz ≤ j ∧ j < p.1 * esz + esz
      · rw [if_pos hj, if_pos ⟨hj.1, by rw [e1]; exact hj.2⟩, (laid_one h0 h2 h3).at_]
      · rw [if_neg hj, if_neg (fun hh => hj ⟨hh.1, by rw [← e1]; exact hh.2⟩), flat_get h0 _ he]
    rw [hput, k2, setParts]

theorem toNumbered_ok (ev : Ev) (mev : Operand → Value) (hev : ∀ x s, toOpd P x = some s → VR ρ (ev s) (mev x)) (esz : Nat) : ∀ (parts : List (Nat × Operand)) (ps : List (Nat × SOpd)), toNumbered P parts = some ps →
    All2 (fun (p : Nat × Value) (s : Nat × Nat × SV) => some (p.1 * esz, esz) = some (s.1, s.2.1) ∧ VR ρ s.2.2 p.2) (parts.map fun p => (p.1, mev p.2)) ((evNumbered ev ps).map fun p => (p.1 * esz, esz, p.2))
  | [], ps, h => by simp [toNumbered] at h; subst h; exact .nil
  | (i, x) :: parts, ps, h => by
    simp only [toNumbered] at h
    cases h2 : toOpd P x with
    | none => rw [h2] at h; cases h
    | some y =>
      cases h3 : toNumbered P parts with
      | none => rw [h2, h3] at h; cases h
      | some ys =>
        rw [h2, h3] at h
        cases h
        exact .cons ⟨rfl, hev x y h2⟩ (toNumbered_ok ev mev hev esz parts ys h3)

theorem buildSlice_ok {t e : TypeId} {i : TypeInfo} {y : Lay} {z : SV} (hu : P.underlying t = some (.slice e)) (hy : LayOk P e y) (hy1 : y.n = 1) (hz : zeroSV P e = some z) (hzl : z.cells.length = y.esz) (hza : z.cells.all SV.cell = true) {len : Nat} (hsm : len * y.esz ≤ 2 ^ 24)
    (hr : Rel G ρ H w) {parts : List (Nat × Value)} {sps : List (Nat × SV)} (hp : All2 (fun (p : Nat × Value) (s : Nat × Nat × SV) => some (p.1 * y.esz, y.esz) = some (s.1, s.2.1) ∧ VR ρ s.2.2 p.2) parts (sps.map fun p => (p.1 * y.esz, y.esz, p.2)))
    {r : SV} {H' : SHeap} (h : xBuildSlice y z len sps H = some (r, H')) : Does P G ρ H w (Instr.buildSlice t len parts.toArray) r H' := by
  unfold xBuildSlice at h
  cases hall : sps.all (partOk y len) with
  | false => rw [hall] at h; cases h
  | true =>
    rw [hall] at h
    simp only [cond_true, Option.some.injEq, Prod.mk.injEq] at h
    obtain ⟨rfl, rfl⟩ := h
    have hpos := hy.pos
    obtain ⟨zv, hzr, hzv⟩ := zeroSV_ok hz
    obtain ⟨i, d', hi, hu', hsz⟩ := hy.info
    have hisz : i.size = y.esz := by rw [hsz, hy1, Nat.one_mul]
    have hzs : zv.cells.size = y.esz := by
      have := VRs_length (VR_cells (hzv ρ))
      rw [← hzl, ← this]; simp
    have hps : ∀ p ∈ sps, p.1 < (List.replicate len z).length ∧ p.2.cells.length = y.esz ∧ p.2.cells.all SV.cell = true := fun p hp' => by
      have := List.all_eq_true.1 hall p hp'
      unfold partOk at this
      rw [ble_iff] at this
      simp only [Bool.and_eq_true, decide_eq_true_eq] at this
      obtain ⟨⟨h1, h2⟩, _⟩ := this
      have := isN_iff.1 h2
      exact ⟨by simp; omega, this.1, this.2⟩
    obtain ⟨k1, k2⟩ := parts_fill hpos sps (List.replicate len z) (replicate_even hzl hza len) hps
    obtain ⟨cs', f1, f2⟩ := fill_ok (ρ := ρ) (fun i => some (i * y.esz, y.esz)) parts _ _ _ (Builtin.zeroCells zv.cells len) (zeros_VRs (hzv ρ) hpos hzl hza len) hp k2
    have hld := laid_flat hpos k1
    obtain ⟨k3, k4⟩ := new_row hr hpos hld f2 [] y.elem e false
    have hcl := VRs_flat_len k1 f2
    rw [setParts_length, List.length_replicate] at hcl
    refine ⟨.slice (some ⟨w.heap.size, 0, none⟩) len len, _, _, ?_, ?_, k3, k4⟩
    · have hng : ¬ (len * y.esz > 2 ^ 24) := by omega
      simp only [Instr.buildSlice, Sem.run_bind, run_underlying hu, Result.andThen_ok, run_sizeOf_eq hi, hisz]
      simp only [hng, if_false]
      by_cases h00 : len * y.esz = 0
      · have hl0 : len = 0 := by
          rcases Nat.mul_eq_zero.1 h00 with h | h
          · exact h
          · omega
        subst hl0
        have e1 : Builtin.zeroCells zv.cells 0 = (Array.range (0 * y.esz)).map ((#[] : Array Value)[· % (#[] : Array Value).size]!) := by
          apply Array.ext'
          simp [Builtin.zeroCells, Array.toList_range]
        rw [e1] at f1
        rw [if_pos h00]
        simp only [Sem.run_bind, Sem.run_pure, Result.andThen_ok]
        rw [f1]
        simp only [Go.newRow, Sem.run_bind, run_newObj, Result.andThen_ok, Sem.run_pure, List.append_nil, Array.toArray_toList]
      · have e1 : Builtin.zeroCells zv.cells len = (Array.range (len * y.esz)).map (zv.cells[· % zv.cells.size]!) := by simp only [Builtin.zeroCells, hzs]
        rw [e1] at f1
        rw [if_neg h00]
        simp only [Sem.run_bind, hzr, Result.andThen_ok, Sem.run_pure]
        rw [f1]
        simp only [Go.newRow, Sem.run_bind, run_newObj, Result.andThen_ok, Sem.run_pure, List.append_nil, Array.toArray_toList]
    · simp only [VR]
      refine ⟨_, _, _, Ren.upd_same _ _ _, rfl, ⟨by omega, fun _ => by omega⟩, Nat.le_refl _, fun _ => ⟨by simp, ?_⟩⟩
      show 0 + 0 * y.esz + len * y.esz ≤ cs'.toList.length + [].length
      rw [hcl]; simp

/- ---------- conversions ---------- -/
theorem toInt_ok {src dst : TypeId} {k0 k : IntKind} (hs : P.underlying src = some (.int k0)) (hd : P.underlying dst = some (.int k)) {x r : SV} {v : Value} (hx : VR ρ x v) {H' : SHeap} (h : xToInt k x H = some (r, H')) : H' = H ∧ Gives P ρ w (convert src dst v) r := by
  cases x <;> simp only [xToInt] at h <;> (try cases h)
  refine ⟨rfl, ?_⟩
  rw [VR_int.1 hx, wrapQ_eq]
  exact .of (v := .int k (k.wrap _)) (by simp [convert, run_underlying hs, run_underlying hd, Conv.intToInt]; rfl) (by simp only [VR])
theorem iToS_ok {src dst : TypeId} {k0 : IntKind} (hs : P.underlying src = some (.int k0)) (hd : P.underlying dst = some .string) {x r : SV} {v : Value} (hx : VR ρ x v) {H' : SHeap} (h : xIToS x H = some (r, H')) : H' = H ∧ Gives P ρ w (convert src dst v) r := by
  cases x <;> simp only [xIToS] at h <;> (try cases h)
  refine ⟨rfl, ?_⟩
  rw [VR_int.1 hx]
  exact .of (v := .string (Utf8.encode _)) (by simp [convert, run_underlying hs, run_underlying hd, Conv.intToString]; rfl) (by simp only [VR]; exact ⟨_, rfl, rfl⟩)
theorem sToS_ok {src dst : TypeId} (hs : P.underlying src = some .string) (hd : P.underlying dst = some .string) {x r : SV} {v : Value} (hx : VR ρ x v) {H' : SHeap} (h : xSToS x H = some (r, H')) : H' = H ∧ Gives P ρ w (convert src dst v) r := by
  cases x <;> simp only [xSToS] at h <;> (try cases h)
  refine ⟨rfl, ?_⟩
  obtain ⟨s, rfl, hs'⟩ := VR_str.1 hx
  exact .of (v := .string s) (by simp [convert, run_underlying hs, run_underlying hd]) hx

theorem sBytes_spec : ∀ {l : List SV} {s : List Nat}, sBytes l = some s → l = bytesSV s ∧ ∀ n ∈ s, n < 256
  | [], s, h => by simp [sBytes] at h; subst h; exact ⟨rfl, fun n hn => by cases hn⟩
  | v :: r, s, h => by
    simp only [sBytes] at h
    cases hb : sByte v with
    | none => rw [hb] at h; cases h
    | some m =>
      rw [hb] at h
      simp only at h
      cases hr : sBytes r with
      | none => rw [hr] at h; cases h
      | some s' =>
        rw [hr] at h
        cases h
        obtain ⟨h1, h2⟩ := sBytes_spec hr
        have hv : v = .int .u8 (.ofNat m) ∧ m < 256 := by
          cases v <;> simp only [sByte] at hb <;> (try cases hb)
          rename_i k n
          cases k <;> simp only at hb <;> (try cases hb)
          cases n with
          | negSucc n => cases hb
          | ofNat n =>
            simp only [ble_iff] at hb
            by_cases hle : n ≤ 255
            · simp only [hle, decide_true, cond_true, Option.some.injEq] at hb; subst hb; exact ⟨rfl, by omega⟩
            · simp only [hle, decide_false, cond_false] at hb; cases hb
        refine ⟨by rw [hv.1, h1]; rfl, fun n hn => ?_⟩
        rcases List.mem_cons.1 hn with rfl | hn
        · exact hv.2
        · exact h2 n hn

theorem VRs_bytes : ∀ {s : List Nat} {vs : List Value}, VRs ρ (bytesSV s) vs → vs = s.map fun (n : Nat) => Value.int .u8 (n : Int)
  | [], vs, h => by simpa [bytesSV, VRs] using h
  | n :: s, vs, h => by
    simp only [bytesSV, List.map_cons, VRs] at h
    obtain ⟨y, ys, rfl, h1, h2⟩ := h
    rw [VR_int.1 h1, VRs_bytes h2]; rfl

theorem bToS_ok {src dst e : TypeId} (hs : P.underlying src = some (.slice e)) (he : P.underlying e = some (.int .u8)) (hd : P.underlying dst = some .string) (hr : Rel G ρ H w) {x r : SV} {v : Value} (hx : VR ρ x v) {H' : SHeap} (h : xBToS x H = some (r, H')) : H' = H ∧ Gives P ρ w (convert src dst v) r := by
  unfold xBToS at h
  cases hsl : isSlice x with
  | false => rw [hsl] at h; cases h
  | true =>
    rw [hsl] at h
    simp only [cond_true] at h
    cases hl : sElems 1 H x with
    | none => rw [hl] at h; cases h
    | some l =>
      rw [hl] at h
      simp only at h
      cases hb : sBytes l with
      | none => rw [hb] at h; cases h
      | some s =>
        rw [hb] at h
        cases h
        refine ⟨rfl, ?_⟩
        obtain ⟨rfl, hlt⟩ := sBytes_spec hb
        obtain ⟨hev, hlen, nv, hnv, hf⟩ := elems_ok (P := P) hr (by omega) hx hl
        rw [bytes_flat] at hnv
        have hnv' := VRs_bytes hnv
        have hbl : (bytesSV s).length = s.length := by simp [bytesSV]
        let bs : List UInt8 := s.map fun n => UInt8.ofNat n
        have hbs : bs.map (·.toNat) = s := by
          show (s.map fun n => UInt8.ofNat n).map (·.toNat) = s
          rw [List.map_map]
          conv => rhs; rw [← List.map_id s]
          exact List.map_congr_left fun n hn => by
            have := hlt n hn
            simp [UInt8.toNat_ofNat']; omega
        have hnv2 : nv = (bs.map fun b => (b.toNat : Int)).map (Value.int .u8) := by
          rw [hnv']
          have : s = bs.map (·.toNat) := hbs.symm
          conv => lhs; rw [this]
          simp
        cases x <;> simp only [isSlice] at hsl <;> (try cases hsl)
        · simp only [VR] at hx
          subst hx
          simp only [sElems, Option.some.injEq] at hl
          have : s = [] := by
            cases s with
            | nil => rfl
            | cons a s => simp [bytesSV] at hl
          subst this
          refine .of (v := .string .empty) ?_ (by simp only [VR]; exact ⟨_, rfl, rfl⟩)
          rw [run_convert_bytes_string w src dst e none 0 0 hs he hd]
          rfl
        · have hx0 := hx
          simp only [VR] at hx
          obtain ⟨m, a, c, hm, rfl, _⟩ := hx
          have hlen' := hlen w
          simp only [Builtin.lenOf, Sem.run_pure, Result.ok.injEq] at hlen'
          rename_i ll cp hrest
          have hll : ll = s.length := by rw [hlen'.1, hbl]
          refine .of (v := .string ⟨bs.toArray⟩) ?_ (by simp only [VR]; exact ⟨_, rfl, by simpa using hbs⟩)
          rw [run_convert_bytes_string w src dst e (some a) ll c hs he hd]
          have hload := hf (bytesSV s).length (Nat.le_refl _) w rfl
          simp only [Builtin.firstCells, hbl, Nat.mul_one] at hload
          rw [List.take_of_length_le (by rw [hnv']; simp), hnv2] at hload
          rw [run_bytesToString w a ll c (bs.map fun b => (b.toNat : Int)) (by rw [hll]; exact hload), foldl_push_byteCells]
          have he0 : ByteArray.empty.data = #[] := rfl
          rw [he0]; simp

theorem sToB_ok {src dst e : TypeId} (hs : P.underlying src = some .string) (hd : P.underlying dst = some (.slice e)) (he : P.underlying e = some (.int .u8)) (hr : Rel G ρ H w) {x r : SV} {v : Value} (hx : VR ρ x v) {H' : SHeap} {el : Nat} (h : xSToB el x H = some (r, H')) :
    Does P G ρ H w (convert src dst v) r H' := by
  cases x <;> simp only [xSToB] at h <;> (try cases h)
  rename_i l
  rw [ble_iff] at h
  by_cases hle : l.length ≤ 1099511627776
  · simp only [hle, decide_true, cond_true, newRow, Option.some.injEq, Prod.mk.injEq] at h
    obtain ⟨rfl, rfl⟩ := h
    obtain ⟨s, rfl, rfl⟩ := VR_str.1 hx
    have hrun := run_bytes_of_string w src dst e s hs hd he
    have hgc : s.size ≤ grownCap w s.size 0 e := by unfold grownCap; simp only [Question.cut]; omega
    have hV := bytes_VRs (ρ := ρ) s
    have hld : Laid 1 (bytesSV (s.data.toList.map (·.toNat))) (bytesSV (s.data.toList.map (·.toNat))) := by
      have := laid_flat (esz := 1) (by omega) (bytes_even (s.data.toList.map (·.toNat)))
      rwa [bytes_flat] at this
    have hrow : bytesRow s (grownCap w s.size 0 e) = ((s.data.toList.map fun b => Value.int .u8 b.toNat) ++ List.replicate (grownCap w s.size 0 e - s.size) (Value.int .u8 0)).toArray := by
      apply Array.ext'
      simp [bytesRow]
    obtain ⟨k3, k4⟩ := new_row_fr (hr.drew (w.drawn + 1)) (by omega) hld hV (List.replicate (grownCap w s.size 0 e - s.size) (Value.int .u8 0)) el e false ((bytesRow s (grownCap w s.size 0 e)).size, (bytesRow s (grownCap w s.size 0 e)).size + 1) (by rw [hrow]; exact .inr (Nat.le_refl _))
    refine ⟨_, _, _, hrun, ?_, by rw [hrow]; rw [hrow] at k3; exact k3, by rw [hrow]; rw [hrow] at k4; exact (Later.drew ρ H w (w.drawn + 1)).trans k4⟩
    have hsz : s.size = (s.data.toList.map (·.toNat)).length := by simp
    rw [← hsz]
    simp only [VR]
    refine ⟨_, _, _, Ren.upd_same _ _ _, rfl, ⟨by omega, fun hp => by omega⟩, hgc, fun _ => ⟨by simp, ?_⟩⟩
    show 0 + 0 * 1 + grownCap w s.size 0 e * 1 ≤ (s.data.toList.map fun b => Value.int .u8 b.toNat).length + (List.replicate (grownCap w s.size 0 e - s.size) (Value.int .u8 0)).length
    have : s.data.toList.length = s.size := by simp
    simp only [List.length_map, List.length_replicate, this]
    omega
  · simp only [hle, decide_false, cond_false] at h; cases h

theorem markB_ok {src e : TypeId} (hs : P.underlying src = some (.slice e)) (he : P.underlying e = some (.int .u8)) (hr : Rel G ρ H w) {x r : SV} {v : Value} (hx : VR ρ x v) {H' : SHeap} (h : xMarkB x H = some (r, H')) :
    Does P G ρ H w (convert src src v) r H' := by
  cases x <;> simp only [xMarkB] at h <;> (try cases h)
  rename_i b q len cap
  rw [ble_iff] at h
  by_cases hl1 : 1 ≤ len
  · cases hl : liveRow H b with
    | false => rw [hl] at h; simp at h
    | true =>
      rw [hl] at h
      simp only [hl1, decide_true, Bool.and_self, cond_true, Option.some.injEq, Prod.mk.injEq] at h
      obtain ⟨rfl, rfl⟩ := h
      have hx0 := hx
      simp only [VR] at hx
      obtain ⟨m, a, c, hm, rfl, hcap, hlc, hex⟩ := hx
      unfold liveRow at hl
      cases hg : H.get b with
      | none => rw [hg] at hl; cases hl
      | some o =>
        rw [hg] at hl
        cases o with
        | dead => cases hl
        | map _ _ => cases hl
        | iter _ _ => cases hl
        | cells ro es el l =>
          cases ro with
          | true => cases hl
          | false =>
            obtain ⟨h0, hev, m', c', e', fr, hm', hme, hw, hcs, hlen, hfr, hcells⟩ := hr.obj b _ hg
            rw [hm] at hm'; cases hm'
            obtain ⟨ha, _⟩ := hex (by omega)
            subst ha
            -- the mark stands behind the block's last cell
            let fr' : Nat × Nat := if fr.1 == fr.2 then (c'.size, c'.size + 1) else (min fr.1 c'.size, max fr.2 (c'.size + 1))
            have hfr' : notFrozen c' fr' := by
              unfold notFrozen at hfr ⊢
              by_cases he' : fr.1 = fr.2
              · have : fr' = (c'.size, c'.size + 1) := by show (if fr.1 == fr.2 then _ else _) = _; rw [if_pos (by simpa using he')]
                rw [this]; exact .inr (Nat.le_refl _)
              · have : fr' = (min fr.1 c'.size, max fr.2 (c'.size + 1)) := by show (if fr.1 == fr.2 then _ else _) = _; rw [if_neg (by simpa using he')]
                rw [this]
                rcases hfr with hfr | hfr
                · exact absurd hfr he'
                · right; show c'.size ≤ min fr.1 c'.size; omega
            let w1 : World := w.freeze { block := m.blk, off := c'.size } 1
            have hwm : w1.heap[m.blk]? = some (.cells c' e' fr') := by
              show (w.freeze _ 1).heap[m.blk]? = _
              unfold World.freeze
              rw [if_neg (by omega)]
              simp only [Array.getElem?_modify, if_true, hw]
              rfl
            have hwo : ∀ B, B ≠ m.blk → w1.heap[B]? = w.heap[B]? := fun B hB => by
              show (w.freeze _ 1).heap[B]? = _
              unfold World.freeze
              rw [if_neg (by omega)]
              simp only [Array.getElem?_modify]
              rw [if_neg (fun e => hB e.symm)]
            have hws : w1.heap.size = w.heap.size := by
              show (w.freeze _ 1).heap.size = _
              unfold World.freeze
              rw [if_neg (by omega)]
              simp
            have hos : w1.os = w.os ∧ w1.tape = w.tape ∧ w1.output = w.output := by
              show (w.freeze _ 1).os = _ ∧ (w.freeze _ 1).tape = _ ∧ (w.freeze _ 1).output = _
              unfold World.freeze
              rw [if_neg (by omega)]
              exact ⟨rfl, rfl, rfl⟩
            refine ⟨.slice (some ⟨m.blk, m.d + q * m.esz, none⟩) len c, ρ, w1, ?_, hx0, ?_, Later.frozenRow hg rfl hm hos.1 hos.2.1 hos.2.2 hws hwo⟩
            · have hsh : w.shape? m.blk = some (e', c'.size) := by simp [World.shape?, hw]
              simp [convert, run_underlying hs, run_underlying he, markStringish, hsh, w1]
            · refine ⟨fun x ox hx => ?_, hr.inj, fun x mx hx => ?_, hr.glob⟩
              · by_cases hxb : x = b
                · subst hxb
                  rw [hg] at hx; cases hx
                  exact ⟨h0, hev, m, c', e', fr', hm, hme, hwm, hcs, hlen, hfr', hcells⟩
                · refine (hr.obj x ox hx).keep (Ren.le_refl ρ) fun mx lx hmx => hwo _ (fun heq => hxb (hr.inj x b ox _ mx m hx hg lx rfl hmx hm heq))
              · have := hr.dom x mx hx
                exact ⟨this.1, by omega⟩
  · simp [hl1] at h
end Go.Sim
