/- New variables, aggregates, parts, strings, conversions. -/
import Derived.Test.YtjoffbhfcajcgaaDoorSim6
set_option linter.unusedVariables false
set_option linter.unusedSimpArgs false
namespace Go.Sim
open Go.RowKit
variable {P : Program} {G : Nat} {ρ : Ren} {H : SHeap} {w w' : World}

theorem toCell_ok {v : Value} {x : SV} (h : toCell v = some x) : VR ρ x v := by
  unfold toCell at h
  split at h <;> first
    | (cases h; simp only [VR]; done)
    | (cases h; simp only [VR]; exact ⟨_, rfl, rfl⟩)
    | cases h
theorem toCells_ok : ∀ {vs : List Value} {xs : List SV}, toCells vs = some xs → VRs ρ xs vs
  | [], xs, h => by simp [toCells] at h; subst h; exact VRs_nil ρ
  | v :: vs, xs, h => by
    simp only [toCells] at h
    cases h1 : toCell v with
    | none => rw [h1] at h; cases h
    | some x =>
      cases h2 : toCells vs with
      | none => rw [h1, h2] at h; cases h
      | some ys => rw [h1, h2] at h; cases h; exact VRs_cons (toCell_ok h1) (toCells_ok h2)
theorem toSV_ok {v : Value} {x : SV} (h : toSV v = some x) : VR ρ x v := by
  unfold toSV at h
  split at h
  · rename_i cs
    cases h1 : toCells cs.toList with
    | none => rw [h1] at h; cases h
    | some xs => rw [h1] at h; cases h; simp only [VR]; exact ⟨_, rfl, toCells_ok h1⟩
  · rename_i cs
    cases h1 : toCells cs.toList with
    | none => rw [h1] at h; cases h
    | some xs => rw [h1] at h; cases h; simp only [VR]; exact ⟨_, rfl, toCells_ok h1⟩
  · exact toCell_ok h
theorem zeroSV_ok {t : TypeId} {z : SV} (h : zeroSV P t = some z) : ∃ v, (∀ w, (zeroValue t).run P w = .ok v w) ∧ ∀ ρ, VR ρ z v := by
  unfold zeroSV at h
  cases hi : P.info? t with
  | none => rw [hi] at h; cases h
  | some i =>
    rw [hi] at h
    simp only [Option.bind_some] at h
    cases hz : i.zero with
    | none => rw [hz] at h; cases h
    | some v =>
      rw [hz] at h
      simp only [Option.bind_some] at h
      exact ⟨v, fun w => by simp [zeroValue, typeInfo, Sem.run_bind, hi, hz], fun ρ => toSV_ok h⟩

/- a new row of the model's with related cells -/
theorem new_row_fr (hr : Rel G ρ H w) {esz : Nat} {l cs : List SV} (h0 : 0 < esz) (hl : Laid esz l cs) {vs : List Value} (hv : VRs ρ cs vs) (extra : List Value) (elem te : Nat) (ro : Bool) (fr : Nat × Nat) (hfr : notFrozen (vs ++ extra).toArray fr) :
    let m : Img := ⟨w.heap.size, 0, esz, vs.length + extra.length⟩
    let w' : World := { w with heap := w.heap.push (.cells (vs ++ extra).toArray te fr) }
    Rel G (ρ.upd H.next m) (H.alloc (.cells ro esz elem l)) w' ∧ Later ρ H w (ρ.upd H.next m) (H.alloc (.cells ro esz elem l)) w' := by
  intro m w'
  have hvl := VRs_length hv
  have hsame : ∀ B, B < w.heap.size → w'.heap[B]? = w.heap[B]? := fun B hB => by
    show (w.heap.push _)[B]? = _
    rw [Array.getElem?_push, if_neg (by omega)]
  refine ⟨rel_alloc hr _ m ?_ (fun B _ hB => hsame B hB) (by simp [w']) (by simp [w', m]) (fun b o m1 hb _ hm => ?_), later_alloc hr _ m rfl rfl rfl (by simp [w']) hsame (Nat.le_refl _)⟩
  · refine ⟨h0, hl.even, m, (vs ++ extra).toArray, te, fr, Ren.upd_same _ _ _, rfl, ?_, by simp [m], ?_, hfr, fun j y hy => ?_⟩
    · show (w.heap.push _)[w.heap.size]? = _
      simp
    · show 0 + l.length * esz ≤ vs.length + extra.length
      rw [hl.len]; omega
    · rw [hl.at_] at hy
      obtain ⟨v, hv', hrv⟩ := VRs_get hv hy
      refine ⟨v, ?_, VR_mono (Ren.le_upd m hr.fresh) _ hrv⟩
      show (vs ++ extra).toArray[0 + j]? = some v
      simp only [Nat.zero_add, List.getElem?_toArray]
      rw [List.getElem?_append_left (List.getElem?_eq_some_iff.1 hv').1]
      exact hv'
  · have := (hr.dom b m1 hm).2
    show m1.blk ≠ w.heap.size
    omega

theorem new_row (hr : Rel G ρ H w) {esz : Nat} {l cs : List SV} (h0 : 0 < esz) (hl : Laid esz l cs) {vs : List Value} (hv : VRs ρ cs vs) (extra : List Value) (elem te : Nat) (ro : Bool) :
    let m : Img := ⟨w.heap.size, 0, esz, vs.length + extra.length⟩
    let w' : World := { w with heap := w.heap.push (.cells (vs ++ extra).toArray te) }
    Rel G (ρ.upd H.next m) (H.alloc (.cells ro esz elem l)) w' ∧ Later ρ H w (ρ.upd H.next m) (H.alloc (.cells ro esz elem l)) w' :=
  new_row_fr hr h0 hl hv extra elem te ro (0, 0) (.inl rfl)

theorem VR_new (hr : Rel G ρ H w) (m : Img) (hd : m.d = 0) : VR (ρ.upd H.next m) (.ptr H.next 0 0) (.pointer (some ⟨m.blk, 0, none⟩)) := by
  simp only [VR]
  exact ⟨m, Ren.upd_same _ _ _, by rw [hd]; simp⟩

theorem alloc_ok {t : TypeId} {y : Lay} (hy : LayOk P t y) {z : SV} (hz : zeroSV P t = some z) (hl : z.cells.length = y.total) (ha : z.cells.all SV.cell = true) (hr : Rel G ρ H w) (old : Value) (hold : old = .tuple #[]) {x : SV} {H' : SHeap} (h : xAlloc y z H = some (x, H')) :
    Does P G ρ H w (Instr.alloc t true old) x H' := by
  unfold xAlloc at h
  cases h
  obtain ⟨v, hrun, hv⟩ := zeroSV_ok hz
  have hld := laid_elems hy hl ha
  have := new_row hr hy.pos hld (VR_cells (hv ρ)) [] y.elem t false
  obtain ⟨h1, h2⟩ := this
  refine ⟨_, _, _, ?_, VR_new hr _ rfl, h1, h2⟩
  subst hold
  simp [Instr.alloc, hrun, newVar, Go.newRow]
theorem box_ok {t : TypeId} {y : Lay} (hy : LayOk P t y) (hr : Rel G ρ H w) {x r : SV} {v : Value} (hx : VR ρ x v) {H' : SHeap} (h : xBox y x H = some (r, H')) :
    Does P G ρ H w (Instr.box t v) r H' := by
  unfold xBox at h
  cases hn : isN y.total x with
  | false => rw [hn] at h; cases h
  | true =>
    rw [hn] at h
    cases h
    obtain ⟨hl, ha⟩ := isN_iff.1 hn
    have hld := laid_elems hy hl ha
    obtain ⟨h1, h2⟩ := new_row hr hy.pos hld (VR_cells hx) [] y.elem t false
    refine ⟨_, _, _, ?_, VR_new hr _ rfl, h1, h2⟩
    simp [Instr.box, newVar, Go.newRow]

inductive All2 {α β : Type} (R : α → β → Prop) : List α → List β → Prop
  | nil : All2 R [] []
  | cons {a : α} {b : β} {as : List α} {bs : List β} : R a b → All2 R as bs → All2 R (a :: as) (b :: bs)
theorem All2.imp {α β : Type} {R S : α → β → Prop} {as : List α} {bs : List β} (h : All2 R as bs) (k : ∀ a b, R a b → S a b) : All2 S as bs := by
  induction h with
  | nil => exact .nil
  | cons h1 _ ih => exact .cons (k _ _ h1) ih

/- ---------- aggregates ---------- -/
theorem foldl_put (vs : List Value) : ∀ (cs : Array Value) (off k : Nat), (vs.zipIdx k).foldl (fun (cs : Array Value) (p : Value × Nat) => cs.setIfInBounds (off + p.2) p.1) cs = arrPut cs (off + k) vs := by
  induction vs with
  | nil => intro cs off k; rfl
  | cons v vs ih =>
    intro cs off k
    rw [List.zipIdx_cons, List.foldl_cons, ih]
    rw [arrPut, Nat.add_assoc]
theorem foldl_put' (vs cs : Array Value) (off : Nat) : vs.zipIdx.foldl (fun (cs : Array Value) (p : Value × Nat) => cs.setIfInBounds (off + p.2) p.1) cs = arrPut cs off vs.toList := by
  have := foldl_put vs.toList cs off 0
  rw [Nat.add_zero] at this
  rw [← this, ← Array.foldl_toList, Array.toList_zipIdx]
theorem VRs_put {xs ys : List SV} {cs : Array Value} {vs : List Value} (h : VRs ρ xs cs.toList) (hv : VRs ρ ys vs) (off : Nat) (hle : off + ys.length ≤ xs.length) : VRs ρ (putAll xs off ys) (arrPut cs off vs).toList := by
  have h1 := VRs_length h
  have h2 := VRs_length hv
  refine VRs_of_get (by rw [Array.length_toList, arrPut_size, putAll_length]; simpa using h1) fun i x hx => ?_
  rw [putAll_get _ _ _ _ hle] at hx
  rw [Array.getElem?_toList, arrPut_get]
  have hsz : cs.size = xs.length := by simpa using h1
  by_cases hc : off ≤ i ∧ i < off + ys.length
  · rw [if_pos hc] at hx
    rw [if_pos (by omega)]
    exact VRs_get hv hx
  · rw [if_neg hc] at hx
    rw [if_neg (by omega)]
    have := VRs_get h hx
    simpa using this
theorem fill_ok (place : Nat → Option (Nat × Nat)) : ∀ (parts : List (Nat × Value)) (sparts : List (Nat × Nat × SV)) (xs r : List SV) (cs : Array Value), VRs ρ xs cs.toList →
    All2 (fun (p : Nat × Value) (s : Nat × Nat × SV) => place p.1 = some (s.1, s.2.1) ∧ VR ρ s.2.2 p.2) parts sparts → sFill xs sparts = some r → ∃ cs', Instr.fill place cs parts = some cs' ∧ VRs ρ r cs'.toList
  | [], sparts, xs, r, cs, h, hp, hf => by
    cases hp
    simp [sFill] at hf; subst hf
    exact ⟨cs, rfl, h⟩
  | p :: parts, sparts, xs, r, cs, h, hp, hf => by
    cases hp with
    | cons hd tl =>
      rename_i s ss
      obtain ⟨off, sz, x⟩ := s
      simp only [sFill] at hf
      rw [ble_iff] at hf
      cases hn : isN sz x with
      | false => rw [hn] at hf; cases hf
      | true =>
        rw [hn] at hf
        by_cases hle : off + sz ≤ xs.length
        · simp only [hle, decide_true, Bool.and_self, cond_true] at hf
          obtain ⟨hl, ha⟩ := isN_iff.1 hn
          have hd2 : VR ρ x p.2 := hd.2
          have hc := VR_cells hd2
          have hcl := VRs_length hc
          have hxl := VRs_length h
          obtain ⟨cs', h1, h2⟩ := fill_ok place parts ss _ r _ (VRs_put h hc off (by omega)) tl hf
          refine ⟨cs', ?_, h2⟩
          obtain ⟨i, v⟩ := p
          simp only at hd hcl hc h1
          have hsz : v.cells.size = sz := by rw [← hl, ← hcl]; simp
          simp only [Instr.fill, hd.1]
          rw [if_neg (by
            have : cs.size = xs.length := by simpa using hxl
            simp [hsz]; omega)]
          rw [← foldl_put'] at h1
          exact h1
        · simp only [hle, decide_false, Bool.and_false, cond_false] at hf; cases hf

theorem run_sizeOf_cells {t : TypeId} {i : TypeInfo} (h : P.info? t = some i) (w : World) : (sizeOf t).run P w = .ok i.size w := run_sizeOf_eq h w

/- what toParts P says -/
theorem toParts_ok (place : Nat → Option (Nat × Nat)) (ev : Ev) (mev : Operand → Value) (hev : ∀ x s, toOpd P x = some s → VR ρ (ev s) (mev x)) : ∀ (parts : List (Nat × Operand)) (ps : List (Nat × Nat × SOpd)), toParts P place parts = some ps →
    All2 (fun (p : Nat × Value) (s : Nat × Nat × SV) => place p.1 = some (s.1, s.2.1) ∧ VR ρ s.2.2 p.2) (parts.map fun p => (p.1, mev p.2)) (evParts ev ps)
  | [], ps, h => by simp [toParts] at h; subst h; exact .nil
  | (i, x) :: parts, ps, h => by
    simp only [toParts] at h
    cases h1 : place i with
    | none => rw [h1] at h; cases h
    | some pl =>
      cases h2 : toOpd P x with
      | none => rw [h1, h2] at h; cases h
      | some y =>
        cases h3 : toParts P place parts with
        | none => rw [h1, h2, h3] at h; cases h
        | some ys =>
          rw [h1, h2, h3] at h
          cases h
          exact .cons ⟨h1, hev x y h2⟩ (toParts_ok place ev mev hev parts ys h3)

theorem mapM_places (fields : List Field) (hin : ∀ f ∈ fields, ∃ j, P.info? f.type = some j) (w : World) :
    (fields.mapM (m := Sem) fun f => do pure (f.offset, ← sizeOf f.type)).run P w = .ok (fields.map fun f => (f.offset, P.cellsOf f.type)) w := by
  induction fields with
  | nil => rfl
  | cons f fs ih =>
    obtain ⟨j, hj⟩ := hin f (by simp)
    simp only [List.mapM_cons, Sem.run_bind, run_sizeOf_eq hj, Result.andThen_ok, Sem.run_pure, ih (fun g hg => hin g (by simp [hg])), List.map_cons, cellsOf_eq hj]

theorem build_struct_ok {t : TypeId} {fs : Array Field} {z : SV} (hu : P.underlying t = some (.struct fs)) (hinf : ∀ f ∈ fs.toList, ∃ j, P.info? f.type = some j) (hz : zeroSV P t = some z)
    {parts : List (Nat × Value)} {sparts : List (Nat × Nat × SV)} (hp : All2 (fun (p : Nat × Value) (s : Nat × Nat × SV) => ((fs[p.1]?).bind fun f => (P.info? f.type).map fun j => (f.offset, j.size)) = some (s.1, s.2.1) ∧ VR ρ s.2.2 p.2) parts sparts)
    {x : SV} {H' : SHeap} (h : xBuild z.cells sparts H = some (x, H')) : H' = H ∧ Gives P ρ w (Instr.build t parts.toArray) x := by
  unfold xBuild at h
  cases hf : sFill z.cells sparts with
  | none => rw [hf] at h; cases h
  | some r =>
    rw [hf] at h
    cases h
    refine ⟨rfl, ?_⟩
    obtain ⟨v, hrun, hv⟩ := zeroSV_ok hz
    have hm := mapM_places fs.toList hinf w
    have hm' : (fs.mapM (m := Sem) fun f => do pure (f.offset, ← sizeOf f.type)).run P w = .ok (fs.map fun f => (f.offset, P.cellsOf f.type)) w := by
      rw [Array.mapM_eq_mapM_toList]
      simp only [Sem.run_map, hm, Result.andThen_ok]
      congr 1
      apply Array.ext'
      simp
    obtain ⟨cs', h1, h2⟩ := fill_ok (ρ := ρ) ((fs.map fun f => (f.offset, P.cellsOf f.type))[·]?) parts sparts z.cells r v.cells (VR_cells (hv ρ)) (by
      refine hp.imp fun p s hps => ⟨?_, hps.2⟩
      have := hps.1
      simp only [Array.getElem?_map]
      cases hfi : fs[p.1]? with
      | none => rw [hfi] at this; cases this
      | some f =>
        rw [hfi] at this
        simp only [Option.bind_some] at this
        cases hj : P.info? f.type with
        | none => rw [hj] at this; cases this
        | some j =>
          rw [hj] at this
          simp only [Option.map_some] at this ⊢
          rw [cellsOf_eq hj]; exact this) hf
    refine .of (v := .agg cs') ?_ (by simp only [VR]; exact ⟨_, rfl, h2⟩)
    simp only [Instr.build, Sem.run_bind, hrun, Result.andThen_ok, run_underlying hu, hm']
    simp only [h1]
    rfl
theorem build_array_ok {t e : TypeId} {n : Nat} {j : TypeInfo} {z : SV} (hu : P.underlying t = some (.array n e)) (hj : P.info? e = some j) (hz : zeroSV P t = some z)
    {parts : List (Nat × Value)} {sparts : List (Nat × Nat × SV)} (hp : All2 (fun (p : Nat × Value) (s : Nat × Nat × SV) => some (p.1 * j.size, j.size) = some (s.1, s.2.1) ∧ VR ρ s.2.2 p.2) parts sparts)
    {x : SV} {H' : SHeap} (h : xBuild z.cells sparts H = some (x, H')) : H' = H ∧ Gives P ρ w (Instr.build t parts.toArray) x := by
  unfold xBuild at h
  cases hf : sFill z.cells sparts with
  | none => rw [hf] at h; cases h
  | some r =>
    rw [hf] at h
    cases h
    refine ⟨rfl, ?_⟩
    obtain ⟨v, hrun, hv⟩ := zeroSV_ok hz
    obtain ⟨cs', h1, h2⟩ := fill_ok (ρ := ρ) (fun i => some (i * j.size, j.size)) parts sparts z.cells r v.cells (VR_cells (hv ρ)) hp hf
    refine .of (v := .agg cs') ?_ (by simp only [VR]; exact ⟨_, rfl, h2⟩)
    simp only [Instr.build, Sem.run_bind, hrun, Result.andThen_ok, run_underlying hu, run_sizeOf_eq hj]
    simp only [h1]
    rfl

/- ---------- parts of aggregates ---------- -/
theorem part_ok {t : TypeId} {i : TypeInfo} {d : TypeDesc} (hu : P.underlying t = some d) (hi : P.info? t = some i) {xs : List SV} {cs : Array Value} (hx : VRs ρ xs cs.toList) {off : Nat} {r : SV} (h : sPart off i.size (isAggB P t) xs = some r) :
    Gives P ρ w (part t cs off) r := by
  unfold sPart at h
  cases hb : isAggB P t with
  | true =>
    rw [hb, ble_iff] at h
    simp only [cond_true] at h
    by_cases hl : off + i.size ≤ xs.length
    · simp only [hl, decide_true, cond_true, Option.some.injEq] at h
      subst h
      refine .of (run_part hu hi cs off w (by rw [hb]; simp; rfl)) ?_
      simp only [VR]
      refine ⟨_, rfl, ?_⟩
      rw [extract_toList]
      exact VRs_take _ (VRs_drop _ hx)
    · simp only [hl, decide_false, cond_false] at h; cases h
  | false =>
    rw [hb] at h
    simp only [cond_false] at h
    obtain ⟨v, hv, hr⟩ := VRs_get hx h
    exact .of (run_part hu hi cs off w (by rw [hb]; simpa using hv)) hr

theorem field_ok {t : TypeId} {fs : Array Field} {f : Field} {n : Nat} {i : TypeInfo} {d : TypeDesc} (hut : P.underlying t = some (.struct fs)) (hf : fs[n]? = some f) (hu : P.underlying f.type = some d) (hi : P.info? f.type = some i)
    {x r : SV} {v : Value} (hx : VR ρ x v) {H' : SHeap} (h : xField f.offset i.size (isAggB P f.type) x H = some (r, H')) : H' = H ∧ Gives P ρ w (Instr.field t v n) r := by
  cases x <;> simp only [xField] at h <;> (try cases h)
  simp only [only, Option.map_eq_some_iff] at h
  obtain ⟨r', h, he⟩ := h
  cases he
  refine ⟨rfl, ?_⟩
  simp only [VR] at hx
  obtain ⟨cs, rfl, hl⟩ := hx
  obtain ⟨v, h1, h2⟩ := part_ok (w := w) hu hi hl h
  refine .of ?_ h2
  simp only [Instr.field, Sem.run_bind, run_underlying hut, Result.andThen_ok, hf, asAgg, Sem.run_pure]
  exact h1
theorem sNat_ok {x : SV} {n : Nat} {v : Value} (hx : VR ρ x v) (h : sNat x = some n) : ∃ k, v = .int k (n : Int) := by
  cases x <;> simp only [sNat] at h <;> (try cases h)
  rename_i k m
  cases m with
  | ofNat m => cases h; exact ⟨k, by rw [VR_int.1 hx]; rfl⟩
  | negSucc m => cases h
theorem idxA_ok {t e : TypeId} {n : Nat} {i : TypeInfo} {d : TypeDesc} (hut : P.underlying t = some (.array n e)) (hu : P.underlying e = some d) (hi : P.info? e = some i)
    {x ix r : SV} {v u : Value} (hx : VR ρ x v) (hix : VR ρ ix u) {H' : SHeap} (h : xIdxA n i.size (isAggB P e) x ix H = some (r, H')) : H' = H ∧ Gives P ρ w (Instr.index t v u) r := by
  cases x <;> simp only [xIdxA] at h <;> (try cases h)
  cases hk : sNat ix with
  | none => rw [hk] at h; cases h
  | some k =>
    rw [hk] at h
    simp only [ble_iff] at h
    by_cases hlt : k + 1 ≤ n
    · simp only [hlt, decide_true, cond_true, only, Option.map_eq_some_iff] at h
      obtain ⟨r', h, he⟩ := h
      cases he
      refine ⟨rfl, ?_⟩
      simp only [VR] at hx
      obtain ⟨cs, rfl, hl⟩ := hx
      obtain ⟨j, rfl⟩ := sNat_ok hix hk
      obtain ⟨v, h1, h2⟩ := part_ok (w := w) hu hi hl h
      refine .of ?_ h2
      have hc : (0 : Int) ≤ (k : Int) ∧ (k : Int) < (n : Int) := by omega
      simp only [Instr.index, asIntOf, Sem.run_bind, Sem.run_pure, Result.andThen_ok, run_underlying hut]
      rw [if_pos hc]
      simp only [Sem.run_bind, run_sizeOf_eq hi, Result.andThen_ok, Int.toNat_natCast]
      exact h1
    · simp only [hlt, decide_false, cond_false] at h; cases h
theorem idxS_ok {t : TypeId} (hut : P.underlying t = some .string) {x ix r : SV} {v u : Value} (hx : VR ρ x v) (hix : VR ρ ix u) {H' : SHeap} (h : xIdxS x ix H = some (r, H')) : H' = H ∧ Gives P ρ w (Instr.index t v u) r := by
  cases x <;> simp only [xIdxS] at h <;> (try cases h)
  rename_i l
  cases hk : sNat ix with
  | none => rw [hk] at h; cases h
  | some k =>
    rw [hk] at h
    simp only at h
    cases hn : l[k]? with
    | none => rw [hn] at h; cases h
    | some n =>
      rw [hn] at h
      cases h
      refine ⟨rfl, ?_⟩
      obtain ⟨s, rfl, hs⟩ := VR_str.1 hx
      obtain ⟨j, rfl⟩ := sNat_ok hix hk
      rw [← hs, List.getElem?_map] at hn
      cases hb : s.data.toList[k]? with
      | none => rw [hb] at hn; cases hn
      | some b =>
        rw [hb] at hn
        simp at hn
        have hsk : s[k]? = some b := by
          have : s.data[k]? = some b := by simpa using hb
          have hlt := (Array.getElem?_eq_some_iff.1 this).1
          rw [getElem?_pos s k hlt]
          have := (Array.getElem?_eq_some_iff.1 this).2
          rw [← this]; rfl
        refine .of (v := .int .u8 b.toNat) ?_ (by simp only [VR]; rw [← hn]; rfl)
        have hc : (0 : Int) ≤ (k : Int) := by omega
        simp only [Instr.index, asIntOf, Sem.run_bind, Sem.run_pure, Result.andThen_ok, run_underlying hut]
        rw [if_pos hc, Int.toNat_natCast, hsk]
        rfl
    
theorem extract_ok {n : Nat} {x r : SV} {v : Value} (hx : VR ρ x v) {H' : SHeap} (h : xExtract n x H = some (r, H')) : H' = H ∧ Gives P ρ w (Instr.extract v n) r := by
  cases x <;> simp only [xExtract] at h <;> (try cases h)
  simp only [only, Option.map_eq_some_iff] at h
  obtain ⟨r', h, he⟩ := h
  cases he
  refine ⟨rfl, ?_⟩
  simp only [VR] at hx
  obtain ⟨vs, rfl, hl⟩ := hx
  obtain ⟨y, hy, hr⟩ := VRs_get hl h
  have : vs[n]? = some y := by simpa using hy
  exact .of (v := y) (by simp [Instr.extract, this]) hr
end Go.Sim
