/- Each operation of the reduced machine, as it was made out of the model's, does what that one does. -/
import Derived.Test.YtjoffbhfcajcgaaDoorSim14
set_option linter.unusedVariables false
set_option linter.unusedSimpArgs false
namespace Go.Sim
open Go.RowKit
variable {P : Program} {G : Nat} {ρ : Ren} {H : SHeap} {w w' : World}
def nilSem (v : Value) : Sem Next :=
  match v with
  | .pointer none | .nilIface | .nilFunc => runtimePanic .nilDeref
  | .func (.method name) first captured =>
    match (first[0]? : Option Value) with
    | some .nilIface => runtimePanic .nilDeref
    | some (.iface t w) => do
      if (← nilAhead ((← program).types.size + Made.depth) t w name) != some false then
        unsupported (.noEntry "op/nilCheck.the method's receiver behind this interface value is a nil pointer, or cannot be seen to be none, and the arguments act or may panic (ledger 612)")
      pure (.value (.func (.method name) first captured))
    | _ => pure (.value (.func (.method name) first captured))
  | x => pure (.value x)
theorem ex_move {ev : Ev} {mev : Operand → Value} (hev : EvOk P ρ ev mev) (hr : Rel G ρ H w) {call : Caller} {x : SV} {H' : SHeap} {sop : SOp} {a : Operand} (hc : compOp P (.move a) = some sop) (h : sExec call sop ev H = some (x, H')) :
    OpDoes P G ρ H w (pure (Next.value (mev a))) x H' := by
  simp only [compOp] at hc
  simp only [Option.map_eq_some_iff] at hc
  obtain ⟨y, hy, rfl⟩ := hc
  simp only [sExec, Option.some.injEq, Prod.mk.injEq] at h
  obtain ⟨rfl, rfl⟩ := h
  exact OpDoes.same hr (hev _ _ hy)
theorem ex_assign {ev : Ev} {mev : Operand → Value} (hev : EvOk P ρ ev mev) (hr : Rel G ρ H w) {call : Caller} {x : SV} {H' : SHeap} {sop : SOp} {a : Operand} (hc : compOp P (.assign a) = some sop) (h : sExec call sop ev H = some (x, H')) :
    OpDoes P G ρ H w (pure (Next.value (mev a))) x H' := by
  simp only [compOp] at hc
  simp only [Option.map_eq_some_iff] at hc
  obtain ⟨y, hy, rfl⟩ := hc
  simp only [sExec, Option.some.injEq, Prod.mk.injEq] at h
  obtain ⟨rfl, rfl⟩ := h
  exact OpDoes.same hr (hev _ _ hy)
theorem ex_pick {ev : Ev} {mev : Operand → Value} (hev : EvOk P ρ ev mev) (hr : Rel G ρ H w) {call : Caller} {x : SV} {H' : SHeap} {sop : SOp} {c a b : Operand} (hc : compOp P (.pick c a b) = some sop) (h : sExec call sop ev H = some (x, H')) :
    OpDoes P G ρ H w (do pure (Next.value (if (← asBool (mev c)) then mev a else mev b))) x H' := by
  simp only [compOp] at hc
  simp only [Option.bind_eq_some_iff, Option.map_eq_some_iff] at hc
  obtain ⟨c', hc', a', ha', b', hb', rfl⟩ := hc
  simp only [sExec, xPick] at h
  have hcv := hev _ _ hc'
  cases hcc : ev c' <;> rw [hcc] at h hcv <;> simp only at h <;> (try cases h)
  rename_i t
  show OpDoes P G ρ _ w (do pure (Next.value (if (← asBool (mev c)) then mev a else mev b))) _ _
  rw [VR_bool.1 hcv]
  refine ⟨ρ, w, hr, Later.refl ρ _ w, .inl ⟨if t then mev a else mev b, by simp [asBool], ?_⟩⟩
  cases t
  · exact hev _ _ hb'
  · exact hev _ _ ha'
theorem ex_alloc {ev : Ev} {mev : Operand → Value} (hev : EvOk P ρ ev mev) (hr : Rel G ρ H w) {call : Caller} {x : SV} {H' : SHeap} {sop : SOp} {t : TypeId} (hc : compOp P (.alloc t) = some sop) (h : sExec call sop ev H = some (x, H')) :
    OpDoes P G ρ H w (do pure (Next.value (← Instr.alloc t true (.tuple #[])))) x H' := by
  simp only [compOp] at hc
  simp only [Option.bind_eq_some_iff] at hc
  obtain ⟨y, hy, z, hz, hc⟩ := hc
  split at hc
  · rename_i hl
    cases hc
    exact (alloc_ok (layOf_ok hy) hz hl.1 hl.2 hr _ rfl h).op
  · cases hc
theorem ex_box {ev : Ev} {mev : Operand → Value} (hev : EvOk P ρ ev mev) (hr : Rel G ρ H w) {call : Caller} {x : SV} {H' : SHeap} {sop : SOp} {t : TypeId} {a : Operand} (hc : compOp P (.box t a) = some sop) (h : sExec call sop ev H = some (x, H')) :
    OpDoes P G ρ H w (do pure (Next.value (← Instr.box t (mev a)))) x H' := by
  simp only [compOp] at hc
  simp only [Option.bind_eq_some_iff, Option.map_eq_some_iff] at hc
  obtain ⟨y, hy, a', ha, rfl⟩ := hc
  exact (box_ok (layOf_ok hy) hr (hev _ _ ha) h).op
theorem ex_build {ev : Ev} {mev : Operand → Value} (hev : EvOk P ρ ev mev) (hr : Rel G ρ H w) {call : Caller} {x : SV} {H' : SHeap} {sop : SOp} {t : TypeId} {parts : Array (Nat × Operand)} (hc : compOp P (.build t parts) = some sop) (h : sExec call sop ev H = some (x, H')) :
    OpDoes P G ρ H w (do pure (Next.value (← Instr.build t (parts.map fun p => (p.1, mev p.2))))) x H' := by
  simp only [compOp] at hc
  simp only [Option.bind_eq_some_iff] at hc
  obtain ⟨z, hz, hc⟩ := hc
  have hpe : (parts.map fun p => (p.1, mev p.2)) = (parts.toList.map fun p => (p.1, mev p.2)).toArray := by apply Array.ext'; simp
  split at hc
  · rename_i fs hu
    split at hc
    · rename_i hall
      simp only [Option.map_eq_some_iff] at hc
      obtain ⟨ps, hps, rfl⟩ := hc
      have := toParts_ok (ρ := ρ) _ ev mev hev _ _ hps
      show OpDoes P G ρ H w (do pure (Next.value (← Instr.build t (parts.map fun p => (p.1, mev p.2))))) x H'
      rw [hpe]
      exact Gives.op hr (build_struct_ok hu (fun f hf => Option.isSome_iff_exists.1 (List.all_eq_true.1 hall f hf)) hz this h)
    · cases hc
  · rename_i n e hu
    simp only [Option.bind_eq_some_iff, Option.map_eq_some_iff] at hc
    obtain ⟨j, hj, ps, hps, rfl⟩ := hc
    have := toParts_ok (ρ := ρ) _ ev mev hev _ _ hps
    show OpDoes P G ρ H w (do pure (Next.value (← Instr.build t (parts.map fun p => (p.1, mev p.2))))) x H'
    rw [hpe]
    exact Gives.op hr (build_array_ok hu hj hz this h)
  · cases hc
theorem ex_buildSlice_aux {ev : Ev} {mev : Operand → Value} (hev : EvOk P ρ ev mev) (hr : Rel G ρ H w) {x : SV} {H' : SHeap} {t e : TypeId} {y : Lay} {z : SV} {len : Nat} {parts : Array (Nat × Operand)} {ps : List (Nat × SOpd)}
    (hu : P.underlying t = some (.slice e)) (hy : layElem P e = some y) (hz : zeroSV P e = some z) (hle : len * y.esz ≤ 16777216) (h1 : z.cells.length = y.esz) (h2 : z.cells.all SV.cell = true)
    (hps : toNumbered P parts.toList = some ps) (h : xBuildSlice y z len (evNumbered ev ps) H = some (x, H')) :
    OpDoes P G ρ H w (do pure (Next.value (← Instr.buildSlice t len (parts.map fun p => (p.1, mev p.2))))) x H' := by
  obtain ⟨d, hd⟩ := layElem_und hy
  obtain ⟨k1, k2, k3, k4⟩ := layElem_ok hd hy
  have hpe : (parts.map fun p => (p.1, mev p.2)) = (parts.toList.map fun p => (p.1, mev p.2)).toArray := by apply Array.ext'; simp
  have hn := toNumbered_ok (ρ := ρ) ev mev hev y.esz _ _ hps
  have hle' : len * y.esz ≤ 2 ^ 24 := by rw [show (2:Nat) ^ 24 = 16777216 from by decide]; exact hle
  have hb := buildSlice_ok (i := default) hu k1 k3 hz h1 h2 hle' hr hn h
  rw [hpe]
  exact hb.op
theorem ex_buildSlice {ev : Ev} {mev : Operand → Value} (hev : EvOk P ρ ev mev) (hr : Rel G ρ H w) {call : Caller} {x : SV} {H' : SHeap} {sop : SOp} {t : TypeId} {len : Nat} {parts : Array (Nat × Operand)} (hc : compOp P (.buildSlice t len parts) = some sop) (h : sExec call sop ev H = some (x, H')) :
    OpDoes P G ρ H w (do pure (Next.value (← Instr.buildSlice t len (parts.map fun p => (p.1, mev p.2))))) x H' := by
  simp only [compOp] at hc
  split at hc
  · rename_i e hu
    simp only [Option.bind_eq_some_iff] at hc
    obtain ⟨y, hy, z, hz, ps, hps, hc⟩ := hc
    split at hc
    · rename_i hl
      have hc := Option.some.inj hc
      subst hc
      exact ex_buildSlice_aux hev hr hu hy hz hl.1 hl.2.1 hl.2.2 hps h
    · exact absurd hc (by simp)
  · exact absurd hc (by simp)
theorem ex_load {ev : Ev} {mev : Operand → Value} (hev : EvOk P ρ ev mev) (hr : Rel G ρ H w) {call : Caller} {x : SV} {H' : SHeap} {sop : SOp} {t : TypeId} {a : Operand} (hc : compOp P (.load t a) = some sop) (h : sExec call sop ev H = some (x, H')) :
    OpDoes P G ρ H w (do pure (Next.value (← Instr.loadAt t (mev a)))) x H' := by
  simp only [compOp] at hc
  simp only [Option.bind_eq_some_iff, Option.map_eq_some_iff] at hc
  obtain ⟨y, hy, a', ha, rfl⟩ := hc
  exact Gives.op hr (load_ok (layOf_ok hy) hr (hev _ _ ha) h)
theorem ex_store {ev : Ev} {mev : Operand → Value} (hev : EvOk P ρ ev mev) (hr : Rel G ρ H w) {call : Caller} {x : SV} {H' : SHeap} {sop : SOp} {t : TypeId} {a v : Operand} (hc : compOp P (.store t a v) = some sop) (h : sExec call sop ev H = some (x, H')) :
    OpDoes P G ρ H w (do Instr.storeAt t (mev a) (mev v); pure Next.skip) x H' := by
  simp only [compOp] at hc
  simp only [Option.bind_eq_some_iff, Option.map_eq_some_iff] at hc
  obtain ⟨y, hy, a', ha, v', hv, rfl⟩ := hc
  obtain ⟨rfl, hst⟩ := store_ok (layOf_ok hy) hr (hev _ _ ha) (hev _ _ hv) h
  exact hst.op
theorem ex_nilCheck {ev : Ev} {mev : Operand → Value} (hev : EvOk P ρ ev mev) (hr : Rel G ρ H w) {call : Caller} {x : SV} {H' : SHeap} {sop : SOp} {a : Operand} (hc : compOp P (.nilCheck a) = some sop) (h : sExec call sop ev H = some (x, H')) :
    OpDoes P G ρ H w (nilSem (mev a)) x H' := by
  simp only [compOp] at hc
  simp only [Option.map_eq_some_iff] at hc
  obtain ⟨a', ha, rfl⟩ := hc
  simp only [sExec, xNilCheck] at h
  have hav := hev _ _ ha
  cases hcc : ev a' <;> rw [hcc] at h hav <;> simp only at h <;> (try cases h)
  have hav0 := hav
  simp only [VR] at hav
  obtain ⟨m, hm, hmv⟩ := hav
  refine ⟨ρ, w, hr, Later.refl ρ _ w, .inl ⟨_, ?_, hav0⟩⟩
  simp only [hmv]
  rfl
theorem eq_if2 (d : Nat) {t : TypeId} {a : Array (String × TypeId)} (hu : P.underlying t = some (.interface a)) : (Op.equalIn (d + 1) t .nilIface .nilIface).run P w = .ok true w := by simp [Op.equalIn, run_underlying hu]
theorem nil_ok {t : TypeId} {ms : Array (String × TypeId)} (hu : P.underlying t = some (.interface ms)) {op : BinOp} {neg : Bool} (ho : negOf op = some neg) {ox oy : Operand} (hoy : isNilK oy = true) {x r : SV} {v : Value} (hx : VR ρ x v) {H' : SHeap} (h : xIsNil neg x H = some (r, H')) : H' = H ∧ Gives P ρ w (binSem op t ox oy v .nilIface) r := by
  have hd : Op.maxDepth = 9999 + 1 := rfl
  have hg : v = .nilIface → (eqGuard op t ox oy v .nilIface).run P w = .ok () w := by
    intro hv
    subst hv
    cases oy <;> simp only [isNilK] at hoy <;> (try (cases hoy; done))
    unfold eqGuard
    cases op <;> simp [negOf] at ho ⊢
  have hneg : (op = .eql ∧ neg = false) ∨ (op = .neq ∧ neg = true) := by cases op <;> simp [negOf] at ho <;> simp [ho]
  have hop : op = .eql ∨ op = .neq := hneg.elim (fun h => .inl h.1) (fun h => .inr h.1)
  cases x <;> simp only [xIsNil] at h <;> (try (cases h; done))
  · rename_i u y
    simp only [Option.some.injEq, Prod.mk.injEq] at h
    obtain ⟨rfl, rfl⟩ := h
    simp only [VR] at hx
    obtain ⟨z, rfl, _⟩ := hx
    refine ⟨rfl, .of (v := .bool neg) ?_ (by simp only [VR])⟩
    unfold binSem
    rw [Sem.run_bind, eqGuard_plain _ _ _ _ _ _ _ (by simp) (by simp), Result.andThen_ok, binOp_other op t _ _ false w hop (by simp) (by simp) (by simp) (by simp) (by rw [Op.equal, hd]; exact eq_if1 9999 hu _ _)]
    rcases hneg with ⟨rfl, rfl⟩ | ⟨rfl, rfl⟩ <;> simp
  · simp only [Option.some.injEq, Prod.mk.injEq] at h
    obtain ⟨rfl, rfl⟩ := h
    have hv : v = .nilIface := by simpa only [VR] using hx
    refine ⟨rfl, .of (v := .bool (!neg)) ?_ (by simp only [VR])⟩
    unfold binSem
    rw [Sem.run_bind, hg hv, Result.andThen_ok, hv, binOp_other op t _ _ true w hop (by simp) (by simp) (by simp) (by simp) (by rw [Op.equal, hd]; exact eq_if2 9999 hu)]
    rcases hneg with ⟨rfl, rfl⟩ | ⟨rfl, rfl⟩ <;> simp
theorem eq_ptr2 (d : Nat) {t e : TypeId} {j : TypeInfo} (hu : P.underlying t = some (.pointer e)) (hj : P.info? e = some j) (a : Addr) : (Op.equalIn (d + 1) t (.pointer (some a)) (.pointer (some a))).run P w = .ok true w := by
  simp only [Op.equalIn, Sem.run_bind, run_underlying hu, Result.andThen_ok, run_sizeOf_eq hj]
  by_cases h : j.size = 0
  · simp [h]
  · simp [h, sameAddr]
theorem eqPtr2_run {t e : TypeId} {j : TypeInfo} (hu : P.underlying t = some (.pointer e)) (hj : P.info? e = some j) {x y : SV} {a b : Value} {c : Bool} (hx : VR ρ x a) (hy : VR ρ y b) (h : eqPtr2 x y = some c) :
    (Op.equal t a b).run P w = .ok c w ∧ ∃ p q, a = .pointer p ∧ b = .pointer q := by
  have hd : Op.maxDepth = 9999 + 1 := rfl
  cases x <;> simp only [eqPtr2] at h <;> (try (cases h; done)) <;> cases y <;> simp only at h <;> (try (cases h; done)) <;> simp only [VR] at hx hy
  · cases h; subst hx; subst hy
    exact ⟨by rw [Op.equal, hd]; exact eq_ptr0 9999 hu _, _, _, rfl, rfl⟩
  · cases h; subst hx; obtain ⟨m, hm, rfl⟩ := hy
    exact ⟨by rw [Op.equal, hd]; exact eq_ptr0 9999 hu _, _, _, rfl, rfl⟩
  · cases h; subst hy; obtain ⟨m, hm, rfl⟩ := hx
    exact ⟨by rw [Op.equal, hd]; exact eq_ptr1 9999 hu _, _, _, rfl, rfl⟩
  · rename_i b1 q1 r1 b2 q2 r2
    obtain ⟨m, hm, rfl⟩ := hx
    obtain ⟨m', hm', rfl⟩ := hy
    cases hq : (Nat.beq b1 b2 && Nat.beq q1 q2 && Nat.beq r1 r2) with
    | false => rw [hq] at h; cases h
    | true =>
      rw [hq] at h
      simp only [cond_true, Option.some.injEq] at h
      subst h
      simp only [Bool.and_eq_true] at hq
      obtain rfl := Nat.eq_of_beq_eq_true hq.1.1
      obtain rfl := Nat.eq_of_beq_eq_true hq.1.2
      obtain rfl := Nat.eq_of_beq_eq_true hq.2
      rw [hm] at hm'; cases hm'
      exact ⟨by rw [Op.equal, hd]; exact eq_ptr2 9999 hu hj _, _, _, rfl, rfl⟩
theorem samePtr_ok {t e : TypeId} {j : TypeInfo} (hu : P.underlying t = some (.pointer e)) (hj : P.info? e = some j) {op : BinOp} {neg : Bool} (ho : negOf op = some neg) {ox oy : Operand} {x y r : SV} {a b : Value} (hx : VR ρ x a) (hy : VR ρ y b) {H' : SHeap} (h : xSamePtr neg x y H = some (r, H')) : H' = H ∧ Gives P ρ w (binSem op t ox oy a b) r := by
  have hneg : (op = .eql ∧ neg = false) ∨ (op = .neq ∧ neg = true) := by cases op <;> simp [negOf] at ho <;> simp [ho]
  have hop : op = .eql ∨ op = .neq := hneg.elim (fun h => .inl h.1) (fun h => .inr h.1)
  unfold xSamePtr at h
  cases hc : eqPtr2 x y with
  | none => rw [hc] at h; cases h
  | some c =>
    rw [hc] at h
    simp only [Option.some.injEq, Prod.mk.injEq] at h
    obtain ⟨rfl, rfl⟩ := h
    obtain ⟨h1, p, q, rfl, rfl⟩ := eqPtr2_run (w := w) hu hj hx hy hc
    refine ⟨rfl, .of (v := .bool (bif neg then !c else c)) ?_ (by simp only [VR])⟩
    unfold binSem
    rw [Sem.run_bind, eqGuard_plain _ _ _ _ _ _ _ (by simp) (by simp), Result.andThen_ok, binOp_other op t _ _ c w hop (by simp) (by simp) (by simp) (by simp) h1]
    rcases hneg with ⟨rfl, rfl⟩ | ⟨rfl, rfl⟩ <;> simp
theorem ex_binOp {ev : Ev} {mev : Operand → Value} (hev : EvOk P ρ ev mev) (hec : ∀ v, ev (.c v) = v) (hr : Rel G ρ H w) {call : Caller} {x : SV} {H' : SHeap} {sop : SOp} {op : BinOp} {t t2 : TypeId} {a b : Operand} (hc : compOp P (.binOp op t a b t2) = some sop) (h : sExec call sop ev H = some (x, H')) :
    OpDoes P G ρ H w (do pure (Next.value (← binSem op t a b (mev a) (mev b)))) x H' := by
  simp only [compOp] at hc
  split at hc
  · rename_i s hn
    cases hc
    unfold compNil at hn
    split at hn
    · cases hn
    · rename_i neg hneg
      split at hn
      · rename_i ms hu
        cases hb : isNilK b with
        | false => rw [hb] at hn; cases hn
        | true =>
          rw [hb] at hn
          simp only [cond_true, Option.map_eq_some_iff] at hn
          obtain ⟨a', ha, rfl⟩ := hn
          have hbv : mev b = .nilIface := by
            have hb' : toOpd P b = some (.c .nili) := by
              cases b <;> simp only [isNilK] at hb <;> (try (cases hb; done))
              rename_i v
              cases v <;> simp only at hb <;> (try (cases hb; done))
              rfl
            have := hev _ _ hb'
            rw [hec] at this
            simpa only [VR] using this
          rw [hbv]
          exact Gives.op hr (nil_ok hu hneg hb (hev _ _ ha) h)
      · cases hn
  · split at hc
    · rename_i s hn
      cases hc
      unfold compPtr at hn
      split at hn
      · cases hn
      · rename_i neg hneg
        split at hn
        · rename_i e hu
          cases hj : P.info? e with
          | none => rw [hj] at hn; cases hn
          | some j =>
            rw [hj] at hn
            simp only [Option.isSome_some, cond_true, Option.bind_eq_some_iff, Option.map_eq_some_iff] at hn
            obtain ⟨a', ha, b', hb, rfl⟩ := hn
            exact Gives.op hr (samePtr_ok hu hj hneg (hev _ _ ha) (hev _ _ hb) h)
        · cases hn
    · simp only [Option.bind_eq_some_iff, Option.map_eq_some_iff] at hc
      obtain ⟨a', ha, b', hb, rfl⟩ := hc
      obtain ⟨h1, rfl⟩ := only_inv h
      exact Gives.op hr ⟨rfl, bin_ok h1 (hev _ _ ha) (hev _ _ hb)⟩
theorem ex_unOp {ev : Ev} {mev : Operand → Value} (hev : EvOk P ρ ev mev) (hr : Rel G ρ H w) {call : Caller} {x : SV} {H' : SHeap} {sop : SOp} {op : UnOp} {t : TypeId} {a : Operand} (hc : compOp P (.unOp op t a) = some sop) (h : sExec call sop ev H = some (x, H')) :
    OpDoes P G ρ H w (do pure (Next.value (← Op.unary op (mev a)))) x H' := by
  simp only [compOp] at hc
  simp only [Option.map_eq_some_iff] at hc
  obtain ⟨a', ha, rfl⟩ := hc
  obtain ⟨h1, rfl⟩ := only_inv h
  exact Gives.op hr ⟨rfl, un_ok h1 (hev _ _ ha)⟩
theorem ex_convert {ev : Ev} {mev : Operand → Value} (hev : EvOk P ρ ev mev) (hr : Rel G ρ H w) {call : Caller} {x : SV} {H' : SHeap} {sop : SOp} {src dst : TypeId} {a : Operand} (hc : compOp P (.convert src dst a) = some sop) (h : sExec call sop ev H = some (x, H')) :
    OpDoes P G ρ H w (do pure (Next.value (← convert src dst (mev a)))) x H' := by
  simp only [compOp] at hc
  simp only [Option.bind_eq_some_iff] at hc
  obtain ⟨a', ha, hc⟩ := hc
  have hav := hev _ _ ha
  split at hc
  · rename_i k0 k hs hd; cases hc; exact Gives.op hr (toInt_ok hs hd hav h)
  · rename_i k0 hs hd; cases hc; exact Gives.op hr (iToS_ok hs hd hav h)
  · rename_i hs hd; cases hc; exact Gives.op hr (sToS_ok hs hd hav h)
  · rename_i e hs hd
    split at hc
    · rename_i he; cases hc; exact (sToB_ok hs hd he hr hav h).op
    · cases hc
  · rename_i e hs hd
    split at hc
    · rename_i he; cases hc; exact Gives.op hr (bToS_ok hs he hd hr hav h)
    · cases hc
  · rename_i e0 e hs hd
    split at hc
    · rename_i he
      split at hc
      · rename_i heq
        cases hc
        subst heq
        exact (markB_ok hd he hr hav h).op
      · cases hc
    · cases hc
  · cases hc
theorem ex_makeInterface {ev : Ev} {mev : Operand → Value} (hev : EvOk P ρ ev mev) (hr : Rel G ρ H w) {call : Caller} {x : SV} {H' : SHeap} {sop : SOp} {t : TypeId} {a : Operand} (hc : compOp P (.makeInterface t a) = some sop) (h : sExec call sop ev H = some (x, H')) :
    OpDoes P G ρ H w (do pure (Next.value (← Instr.makeInterface t (mev a)))) x H' := by
  simp only [compOp] at hc
  split at hc
  · cases hc
  · rename_i d hni hu
    simp only [Option.map_eq_some_iff] at hc
    obtain ⟨a', ha, rfl⟩ := hc
    simp only [sExec, Option.some.injEq, Prod.mk.injEq] at h
    obtain ⟨rfl, rfl⟩ := h
    refine Gives.op hr ⟨rfl, .of (v := .iface t (mev a)) ?_ (by simp only [VR]; exact ⟨_, rfl, hev _ _ ha⟩)⟩
    simp only [Instr.makeInterface, Sem.run_bind, run_underlying hu, Result.andThen_ok]
    cases d <;> first | rfl | (exact absurd rfl (hni _))
  · cases hc
theorem ex_makeFunc {ev : Ev} {mev : Operand → Value} (hev : EvOk P ρ ev mev) (hr : Rel G ρ H w) {call : Caller} {x : SV} {H' : SHeap} {sop : SOp} {fn : Fn} {a b : Array Operand} (hc : compOp P (.makeFunc fn a b) = some sop) (h : sExec call sop ev H = some (x, H')) :
    OpDoes P G ρ H w (do pure (Next.value (← Instr.makeFunc fn (a.map mev) (b.map mev)))) x H' := by
  simp only [compOp] at hc
  have hvs2 : ∀ {xs : Array Operand} {ys : List SOpd}, toOpds P xs.toList = some ys → VRs ρ (evAll ev ys) (xs.map mev).toList := fun {xs ys} h => by
    have := toOpds_ok hev h
    simpa using this
  cases fn <;> simp only at hc <;> (try (cases hc; done))
  simp only [Option.bind_eq_some_iff, Option.map_eq_some_iff] at hc
  obtain ⟨a', ha, b', hb, rfl⟩ := hc
  simp only [sExec, Option.some.injEq, Prod.mk.injEq] at h
  obtain ⟨rfl, rfl⟩ := h
  exact Gives.op hr ⟨rfl, .of (v := .func (.func _) (a.map mev) (b.map mev)) rfl (by simp only [VR]; exact ⟨_, _, rfl, hvs2 ha, hvs2 hb⟩)⟩
theorem ex_makeMap {ev : Ev} {mev : Operand → Value} (hev : EvOk P ρ ev mev) (hr : Rel G ρ H w) {call : Caller} {x : SV} {H' : SHeap} {sop : SOp} {t : TypeId} {r : Option Operand} (hc : compOp P (.makeMap t r) = some sop) (h : sExec call sop ev H = some (x, H')) :
    OpDoes P G ρ H w (do pure (Next.value (← Instr.makeMap t (r.map mev)))) x H' := by
  simp only [compOp] at hc
  cases r <;> simp only at hc <;> (try (cases hc; done))
  cases hc
  exact (mkMap_ok hr h).op
theorem ex_makeSlice {ev : Ev} {mev : Operand → Value} (hev : EvOk P ρ ev mev) (hr : Rel G ρ H w) {call : Caller} {x : SV} {H' : SHeap} {sop : SOp} {t : TypeId} {l c : Operand} (hc : compOp P (.makeSlice t l c) = some sop) (h : sExec call sop ev H = some (x, H')) :
    OpDoes P G ρ H w (do pure (Next.value (← Instr.makeSlice t (mev l) (mev c)))) x H' := by
  simp only [compOp] at hc
  split at hc
  · rename_i e hu
    simp only [Option.bind_eq_some_iff] at hc
    obtain ⟨y, hy, z, hz, i, hi, l', hl, c', hc', hc⟩ := hc
    split at hc
    · rename_i hcon
      cases hc
      obtain ⟨d, hd⟩ := layElem_und hy
      obtain ⟨k1, k2, k3, k4⟩ := layElem_ok hd hy
      exact (mkSlice_ok hu hi k1 k3 hz hcon.1 hcon.2.1 hcon.2.2 hr (hev _ _ hl) (hev _ _ hc') h).op
    · cases hc
  · cases hc
theorem ex_slice {ev : Ev} {mev : Operand → Value} (hev : EvOk P ρ ev mev) (hr : Rel G ρ H w) {call : Caller} {x : SV} {H' : SHeap} {sop : SOp} {t : TypeId} {a : Operand} {lo hi mx : Option Operand} (hc : compOp P (.slice t a lo hi mx) = some sop) (h : sExec call sop ev H = some (x, H')) :
    OpDoes P G ρ H w (do pure (Next.value (← Instr.sliceAt t (mev a) (lo.map mev) (hi.map mev) (mx.map mev)))) x H' := by
  simp only [compOp] at hc
  simp only [Option.bind_eq_some_iff] at hc
  obtain ⟨a', ha, lo', hlo, hi', hhi, mx', hmx, hc⟩ := hc
  have hlo2 := toOpt_ok hev hlo
  have hhi2 := toOpt_ok hev hhi
  have hmx2 := toOpt_ok hev hmx
  split at hc
  · rename_i n e hu
    simp only [Option.map_eq_some_iff] at hc
    obtain ⟨j, hj, rfl⟩ := hc
    obtain ⟨h1, rfl⟩ := only_inv h
    exact Gives.op hr ⟨rfl, slA_ok hu hj hr (hev _ _ ha) hlo2 hhi2 hmx2 h1⟩
  · rename_i hu
    cases mx' with
    | some _ => cases hc
    | none =>
      cases hc
      have hmn : mx = none := by
        have := toOpt_some hmx
        cases mx with
        | none => rfl
        | some _ => cases this
      subst hmn
      obtain ⟨h1, rfl⟩ := only_inv h
      exact Gives.op hr ⟨rfl, slS_ok hu (hev _ _ ha) hlo2 hhi2 h1⟩
  · rename_i e hu
    split at hc
    · cases hc
    · rename_i hsm
      simp only [Option.map_eq_some_iff] at hc
      obtain ⟨j, hj, rfl⟩ := hc
      obtain ⟨h1, rfl⟩ := only_inv h
      refine Gives.op hr ⟨rfl, slL_ok hu hj hr (hev _ _ ha) hlo2 hhi2 hmx2 (fun hs => ?_) h1⟩
      cases hi' with
      | some _ => rfl
      | none => exact absurd ⟨by simpa using hs, rfl⟩ hsm
  · cases hc
theorem ex_fieldAddr {ev : Ev} {mev : Operand → Value} (hev : EvOk P ρ ev mev) (hr : Rel G ρ H w) {call : Caller} {x : SV} {H' : SHeap} {sop : SOp} {t : TypeId} {a : Operand} {i : Nat} (hc : compOp P (.fieldAddr t a i) = some sop) (h : sExec call sop ev H = some (x, H')) :
    OpDoes P G ρ H w (do pure (Next.value (← Instr.fieldAt t (mev a) i))) x H' := by
  simp only [compOp] at hc
  split at hc
  · rename_i fs hu
    simp only [Option.bind_eq_some_iff] at hc
    obtain ⟨f, hf, j, hj, hc⟩ := hc
    split at hc
    · rename_i hpos
      simp only [Option.map_eq_some_iff] at hc
      obtain ⟨a', ha, rfl⟩ := hc
      exact Gives.op hr (fieldAddr_ok hu hf hj hpos (hev _ _ ha) h)
    · cases hc
  · cases hc
theorem ex_field {ev : Ev} {mev : Operand → Value} (hev : EvOk P ρ ev mev) (hr : Rel G ρ H w) {call : Caller} {x : SV} {H' : SHeap} {sop : SOp} {t : TypeId} {a : Operand} {i : Nat} (hc : compOp P (.field t a i) = some sop) (h : sExec call sop ev H = some (x, H')) :
    OpDoes P G ρ H w (do pure (Next.value (← Instr.field t (mev a) i))) x H' := by
  simp only [compOp] at hc
  split at hc
  · rename_i fs hu
    simp only [Option.bind_eq_some_iff, Option.map_eq_some_iff] at hc
    obtain ⟨f, hf, j, hj, hc⟩ := hc
    split at hc
    · rename_i hund
      simp only [Option.map_eq_some_iff] at hc
      obtain ⟨a', ha, rfl⟩ := hc
      obtain ⟨d, hd⟩ := Option.isSome_iff_exists.1 hund
      exact Gives.op hr (field_ok hu hf hd hj (hev _ _ ha) h)
    · cases hc
  · cases hc
end Go.Sim
