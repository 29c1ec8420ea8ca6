/- Each operation of the reduced machine, as it was made out of the model's, does what that one does: the rest, and all of them. -/
import Derived.Test.YtjoffbhfcajcgaaDoorSim15
set_option linter.unusedVariables false
set_option linter.unusedSimpArgs false
namespace Go.Sim
open Go.RowKit
variable {P : Program} {G : Nat} {ρ : Ren} {H : SHeap} {w w' : World}
theorem ex_indexAddr {ev : Ev} {mev : Operand → Value} (hev : EvOk P ρ ev mev) (hr : Rel G ρ H w) {call : Caller} {x : SV} {H' : SHeap} {sop : SOp} {t : TypeId} {a b : Operand} (hc : compOp P (.indexAddr t a b) = some sop) (h : sExec call sop ev H = some (x, H')) :
    OpDoes P G ρ H w (do pure (Next.value (← Instr.indexAt t (mev a) (mev b)))) x H' := by
  simp only [compOp, Option.bind_eq_some_iff] at hc
  obtain ⟨a', ha, b', hb, hc⟩ := hc
  split at hc
  · rename_i e hu
    simp only [Option.map_eq_some_iff] at hc
    obtain ⟨j, hj, rfl⟩ := hc
    exact Gives.op hr (idxAddrL_ok hu hj hr (hev _ _ ha) (hev _ _ hb) h)
  · rename_i n e hu
    simp only [Option.map_eq_some_iff] at hc
    obtain ⟨j, hj, rfl⟩ := hc
    exact Gives.op hr (idxAddrA_ok hu hj hr (hev _ _ ha) (hev _ _ hb) h)
  · cases hc
theorem ex_index {ev : Ev} {mev : Operand → Value} (hev : EvOk P ρ ev mev) (hr : Rel G ρ H w) {call : Caller} {x : SV} {H' : SHeap} {sop : SOp} {t : TypeId} {a b : Operand} (hc : compOp P (.index t a b) = some sop) (h : sExec call sop ev H = some (x, H')) :
    OpDoes P G ρ H w (do pure (Next.value (← Instr.index t (mev a) (mev b)))) x H' := by
  simp only [compOp, Option.bind_eq_some_iff] at hc
  obtain ⟨a', ha, b', hb, hc⟩ := hc
  split at hc
  · rename_i n e hu
    split at hc
    · rename_i hund
      simp only [Option.map_eq_some_iff] at hc
      obtain ⟨j, hj, rfl⟩ := hc
      obtain ⟨d, hd⟩ := Option.isSome_iff_exists.1 hund
      exact Gives.op hr (idxA_ok hu hd hj (hev _ _ ha) (hev _ _ hb) h)
    · cases hc
  · rename_i hu
    cases hc
    exact Gives.op hr (idxS_ok hu (hev _ _ ha) (hev _ _ hb) h)
  · cases hc
theorem ex_lookup {ev : Ev} {mev : Operand → Value} (hev : EvOk P ρ ev mev) (hr : Rel G ρ H w) {call : Caller} {x : SV} {H' : SHeap} {sop : SOp} {t : TypeId} {a b : Operand} {ok : Bool} (hc : compOp P (.lookup t a b ok) = some sop) (h : sExec call sop ev H = some (x, H')) :
    OpDoes P G ρ H w (do pure (Next.value (← Instr.lookup t (mev a) (mev b) ok))) x H' := by
  simp only [compOp] at hc
  split at hc
  · rename_i k e hu
    simp only [Option.bind_eq_some_iff, Option.map_eq_some_iff] at hc
    obtain ⟨kk, hk, z, hz, a', ha, b', hb, rfl⟩ := hc
    obtain ⟨h1, rfl⟩ := only_inv h
    exact Gives.op hr ⟨rfl, lookup_ok hu (keyT_ok hk) hz hr (hev _ _ ha) (hev _ _ hb) h1⟩
  · cases hc
theorem ex_mapUpdate_aux {ev : Ev} {mev : Operand → Value} (hev : EvOk P ρ ev mev) (hr : Rel G ρ H w) {call : Caller} {x : SV} {H' : SHeap} {t kt et : TypeId} {kk : LeafK} {m k v : Operand} {m' k' v' : SOpd} (hu : P.underlying t = some (.map kt et)) (hk : keyT P kt = some kk)
    (hm : toOpd P m = some m') (hkk : toOpd P k = some k') (hv : toOpd P v = some v') (h : sExec call (.mapUpdate kk m' k' v') ev H = some (x, H')) :
    OpDoes P G ρ H w (do Instr.mapUpdate t (mev m) (mev k) (mev v); pure Next.skip) x H' := by
  obtain ⟨h1, rfl⟩ := none2_inv h
  exact (mapUpdate_ok hu (keyT_ok hk) hr (hev _ _ hm) (hev _ _ hkk) (hev _ _ hv) h1).op
theorem ex_mapUpdate {ev : Ev} {mev : Operand → Value} (hev : EvOk P ρ ev mev) (hr : Rel G ρ H w) {call : Caller} {x : SV} {H' : SHeap} {sop : SOp} {t : TypeId} {m k v : Operand} (hc : compOp P (.mapUpdate t m k v) = some sop) (h : sExec call sop ev H = some (x, H')) :
    OpDoes P G ρ H w (do Instr.mapUpdate t (mev m) (mev k) (mev v); pure Next.skip) x H' := by
  simp only [compOp] at hc
  split at hc
  · rename_i kt e hu
    simp only [Option.bind_eq_some_iff, Option.map_eq_some_iff] at hc
    obtain ⟨kk, hk, m', hm, k', hkk, v', hv, rfl⟩ := hc
    exact ex_mapUpdate_aux hev hr hu hk hm hkk hv h
  · cases hc
theorem ex_insert {ev : Ev} {mev : Operand → Value} (hev : EvOk P ρ ev mev) (hr : Rel G ρ H w) {call : Caller} {x : SV} {H' : SHeap} {sop : SOp} {t : TypeId} {m k v : Operand} (hc : compOp P (.insert t m k v) = some sop) (h : sExec call sop ev H = some (x, H')) :
    OpDoes P G ρ H w (do Instr.mapUpdate t (mev m) (mev k) (mev v); pure Next.skip) x H' := by
  simp only [compOp] at hc
  split at hc
  · rename_i kt e hu
    simp only [Option.bind_eq_some_iff, Option.map_eq_some_iff] at hc
    obtain ⟨kk, hk, m', hm, k', hkk, v', hv, rfl⟩ := hc
    exact ex_mapUpdate_aux hev hr hu hk hm hkk hv h
  · cases hc
theorem ex_extract {ev : Ev} {mev : Operand → Value} (hev : EvOk P ρ ev mev) (hr : Rel G ρ H w) {call : Caller} {x : SV} {H' : SHeap} {sop : SOp} {a : Operand} {i : Nat} (hc : compOp P (.extract a i) = some sop) (h : sExec call sop ev H = some (x, H')) :
    OpDoes P G ρ H w (do pure (Next.value (← Instr.extract (mev a) i))) x H' := by
  simp only [compOp, Option.map_eq_some_iff] at hc
  obtain ⟨a', ha, rfl⟩ := hc
  exact Gives.op hr (extract_ok (hev _ _ ha) h)
theorem asType_ok {xt t : TypeId} {d : TypeDesc} (hd : P.underlying t = some d) (hni : ∀ ms, d ≠ .interface ms) {z : SV} (hz : zeroSV P t = some z) {ok : Bool} {x r : SV} {v : Value} (hx : VR ρ x v) {H' : SHeap} (h : xAsType t z ok x H = some (r, H')) : H' = H ∧ Gives P ρ w (Instr.typeAssert v xt t ok) r := by
  obtain ⟨zv, hzr, hzv⟩ := zeroSV_ok hz
  cases x <;> simp only [xAsType] at h <;> (try cases h)
  · rename_i u y
    simp only [VR] at hx
    obtain ⟨y', rfl, hy⟩ := hx
    rw [beq_iff] at h
    by_cases hut : u = t
    · subst hut
      simp only [decide_true, cond_true, Option.some.injEq, Prod.mk.injEq] at h
      obtain ⟨rfl, rfl⟩ := h
      refine ⟨rfl, .of ?_ (found_ok hy true)⟩
      cases d <;> first | exact absurd rfl (hni _) | simp [Instr.typeAssert, Sem.run_bind, run_underlying hd]
    · rw [decide_eq_false hut] at h
      simp only [cond_false] at h
      cases ok with
      | false => cases h
      | true =>
        simp only [cond_true, Option.some.injEq, Prod.mk.injEq] at h
        obtain ⟨rfl, rfl⟩ := h
        refine ⟨rfl, .of (v := .tuple #[zv, .bool false]) ?_ (by simp only [VR]; exact ⟨_, rfl, VRs_cons (hzv _) (VRs_cons (by simp only [VR]) (VRs_nil _))⟩)⟩
        cases d <;> first | exact absurd rfl (hni _) | simp [Instr.typeAssert, Sem.run_bind, run_underlying hd, hut, hzr]
  · have hv : v = .nilIface := by simpa only [VR] using hx
    subst hv
    cases ok with
    | false => cases h
    | true =>
      simp only [cond_true, Option.some.injEq, Prod.mk.injEq] at h
      obtain ⟨rfl, rfl⟩ := h
      refine ⟨rfl, .of (v := .tuple #[zv, .bool false]) ?_ (by simp only [VR]; exact ⟨_, rfl, VRs_cons (hzv _) (VRs_cons (by simp only [VR]) (VRs_nil _))⟩)⟩
      cases d <;> first | exact absurd rfl (hni _) | simp [Instr.typeAssert, Sem.run_bind, run_underlying hd, hzr]
theorem ex_typeAssert {ev : Ev} {mev : Operand → Value} (hev : EvOk P ρ ev mev) (hr : Rel G ρ H w) {call : Caller} {x : SV} {H' : SHeap} {sop : SOp} {a : Operand} {xt t : TypeId} {ok : Bool} (hc : compOp P (.typeAssert a xt t ok) = some sop) (h : sExec call sop ev H = some (x, H')) :
    OpDoes P G ρ H w (do pure (Next.value (← Instr.typeAssert (mev a) xt t ok))) x H' := by
  simp only [compOp] at hc
  split at hc
  · cases hc
  · rename_i d hni hd
    simp only [Option.bind_eq_some_iff, Option.map_eq_some_iff] at hc
    obtain ⟨z, hz, a', ha, rfl⟩ := hc
    exact Gives.op hr (asType_ok hd (fun ms e => hni ms e) hz (hev _ _ ha) h)
  · cases hc

/- ---------- strings, letter by letter ---------- -/
theorem toBA_eq {s : ByteArray} {l : List Nat} (h : s.data.toList.map (·.toNat) = l) : toBA l = s := by
  subst h
  have : (s.data.toList.map (·.toNat)).map UInt8.ofNat = s.data.toList := by
    rw [List.map_map]
    have : (UInt8.ofNat ∘ fun (x : UInt8) => x.toNat) = id := by funext x; simp
    rw [this, List.map_id]
  unfold toBA
  rw [this]
theorem range_ok {t : TypeId} (hut : P.underlying t = some .string) (hr : Rel G ρ H w) {x r : SV} {v : Value} (hx : VR ρ x v) {H' : SHeap} (h : xRange x H = some (r, H')) : Does P G ρ H w (Instr.range t v) r H' := by
  cases x <;> simp only [xRange] at h <;> (try (cases h; done))
  rename_i l
  cases h
  simp only [VR] at hx
  obtain ⟨s, rfl, hs⟩ := hx
  let m : Img := ⟨w.heap.size, 0, 0, 0⟩
  have hsame : ∀ B, B < w.heap.size → (w.heap.push (.stringIter s 0))[B]? = w.heap[B]? := fun B hB => by rw [Array.getElem?_push, if_neg (by omega)]
  refine ⟨.pointer (some ⟨w.heap.size, 0, none⟩), ρ.upd H.next m, { w with heap := w.heap.push (.stringIter s 0) }, ?_, by simp only [VR]; exact ⟨m, Ren.upd_same _ _ _, by simp [m]⟩, ?_, ?_⟩
  · simp only [Instr.range, Sem.run_bind, run_underlying hut, Result.andThen_ok]; rfl
  · refine rel_alloc hr _ m ⟨m, s, Ren.upd_same _ _ _, rfl, ?_, hs⟩ (fun B _ hB => hsame B hB) (by simp) (by simp [m]) (fun b o m1 hb _ hm => ?_)
    · show (w.heap.push _)[w.heap.size]? = _; simp
    · have := (hr.dom b m1 hm).2
      show m1.blk ≠ w.heap.size
      omega
  · exact later_alloc hr _ m rfl rfl rfl (by simp) hsame (Nat.le_refl _)
theorem next_ok {t : TypeId} (hr : Rel G ρ H w) {x r : SV} {v : Value} (hx : VR ρ x v) {H' : SHeap} (h : xNext x H = some (r, H')) : Does P G ρ H w (Instr.next v true t) r H' := by
  cases x <;> simp only [xNext] at h <;> (try (cases h; done))
  rename_i b q0 r0
  cases hz : (Nat.beq q0 0 && Nat.beq r0 0) with
  | false => rw [hz] at h; cases h
  | true =>
    rw [hz] at h
    simp only [Bool.and_eq_true] at hz
    obtain rfl := Nat.eq_of_beq_eq_true hz.1
    obtain rfl := Nat.eq_of_beq_eq_true hz.2
    simp only [cond_true] at h
    cases hg : H.get b with
    | none => rw [hg] at h; cases h
    | some o =>
      rw [hg] at h
      cases o <;> simp only at h <;> (try (cases h; done))
      rename_i l pos
      obtain ⟨m, s, hm, hd, hw, hs⟩ := hr.obj b _ hg
      simp only [VR] at hx
      obtain ⟨m', hm', rfl⟩ := hx
      rw [hm] at hm'; cases hm'
      have haddr : m.d + 0 * m.esz + 0 = 0 := by rw [hd]; simp
      rw [haddr]
      have hget : ∀ P, (getObj m.blk).run P w = .ok (.stringIter s pos) w := fun P => by simp [getObj, Sem.run, hw]
      have hsz : l.length = s.size := by rw [← hs, List.length_map, Array.length_toList]; rfl
      cases hlt : Nat.ble (pos + 1) l.length with
      | false =>
        rw [hlt] at h
        simp only [cond_false, Option.some.injEq, Prod.mk.injEq] at h
        obtain ⟨rfl, rfl⟩ := h
        have hge : ¬ pos < s.size := by
          intro h'
          rw [Bool.eq_false_iff] at hlt
          exact hlt (Nat.ble_eq_true_of_le (by omega))
        refine ⟨.tuple #[.bool false], ρ, w, ?_, by simp only [VR]; exact ⟨_, rfl, VRs_cons (by simp only [VR]) (VRs_nil _)⟩, hr, Later.refl ρ _ w⟩
        simp only [Instr.next, Sem.run_bind, hget, Result.andThen_ok]
        rw [if_neg hge]; rfl
      | true =>
        rw [hlt] at h
        simp only [cond_true] at h
        have hlt' : pos < s.size := by have := Nat.le_of_ble_eq_true hlt; omega
        rw [toBA_eq hs] at h
        unfold nextIn at h
        simp only [Option.some.injEq, Prod.mk.injEq] at h
        obtain ⟨rfl, rfl⟩ := h
        have hltb := (Array.getElem?_eq_some_iff.1 hw).1
        generalize hdc : Utf8.decode s pos = dc
        obtain ⟨c, wd⟩ := dc
        have hsame : ∀ B, B ≠ m.blk → (w.heap.setIfInBounds m.blk (.stringIter s (pos + wd)))[B]? = w.heap[B]? := fun B hB => Array.getElem?_setIfInBounds_ne (fun e => hB e.symm)
        refine ⟨.tuple #[.bool true, Go.goInt pos, .int .i32 c], ρ, { w with heap := w.heap.setIfInBounds m.blk (.stringIter s (pos + wd)) }, ?_, ?_, ?_, ?_⟩
        · simp only [Instr.next, Sem.run_bind, hget, Result.andThen_ok]
          rw [if_pos hlt', hdc]
          simp [setObj, Sem.run, hw]
        · simp only [VR]
          exact ⟨_, rfl, VRs_cons (by simp only [VR]) (VRs_cons (by show VR ρ (.int .i64 _) _; unfold VR; rfl) (VRs_cons (by unfold VR; rfl) (VRs_nil _)))⟩
        · refine rel_set hr hg rfl hm ⟨m, s, hm, hd, ?_, hs⟩ (fun B hB _ => hsame B hB) (by simp)
          show (w.heap.setIfInBounds m.blk _)[m.blk]? = _
          rw [Array.getElem?_setIfInBounds]; simp [hltb]
        · exact later_set hg rfl hm rfl rfl rfl (by simp) (fun B hB _ => hsame B hB)
theorem ex_range {ev : Ev} {mev : Operand → Value} (hev : EvOk P ρ ev mev) (hr : Rel G ρ H w) {call : Caller} {x : SV} {H' : SHeap} {sop : SOp} {t : TypeId} {a : Operand} (hc : compOp P (.range t a) = some sop) (h : sExec call sop ev H = some (x, H')) :
    OpDoes P G ρ H w (do pure (Next.value (← Instr.range t (mev a)))) x H' := by
  simp only [compOp] at hc
  split at hc
  · rename_i hu
    simp only [Option.map_eq_some_iff] at hc
    obtain ⟨a', ha, rfl⟩ := hc
    exact (range_ok hu hr (hev _ _ ha) h).op
  · cases hc
theorem ex_next {ev : Ev} {mev : Operand → Value} (hev : EvOk P ρ ev mev) (hr : Rel G ρ H w) {call : Caller} {x : SV} {H' : SHeap} {sop : SOp} {t : TypeId} {a : Operand} {s : Bool} (hc : compOp P (.next a s) = some sop) (h : sExec call sop ev H = some (x, H')) :
    OpDoes P G ρ H w (do pure (Next.value (← Instr.next (mev a) s t))) x H' := by
  simp only [compOp] at hc
  cases s with
  | false => cases hc
  | true =>
    simp only [cond_true, Option.map_eq_some_iff] at hc
    obtain ⟨a', ha, rfl⟩ := hc
    exact (next_ok hr (hev _ _ ha) h).op

/- ---------- calls ---------- -/
structure Bodied (P : Program) (f : Nat) : Prop where
  fn : ∃ fn, P.funcs[f]? = some fn ∧ (fn.name == "runtime.NumGoroutine") = false ∧ fn.body.isNone = false
theorem callFunc_enter {f : Nat} (hb : Bodied P f) (args : Array Value) (w : World) : (callFunc f args).run P w = .ok (.enter f args) w := by
  obtain ⟨fn, h1, h2, h3⟩ := hb.fn
  have hp : ∀ w, (program).run P w = .ok P w := fun _ => rfl
  unfold callFunc
  simp only [Sem.run_bind, hp, Result.andThen, h1, h2, h3]
  rfl
def CallDoes (P : Program) (ρ : Ren) (H : SHeap) (w : World) (call : Caller) (s : Sem Next) (x : SV) (H' : SHeap) : Prop :=
  ∃ (f : Nat) (xs : List SV) (vs : Array Value), call f xs H = some (x, H') ∧ s.run P w = .ok (.enter f vs) w ∧ VRs ρ xs vs.toList
theorem ex_call {ev : Ev} {mev : Operand → Value} (hev : EvOk P ρ ev mev) (hec : ∀ v, ev (.c v) = v) (hr : Rel G ρ H w) {call : Caller} (hcall : ∀ f xs H r, call f xs H = some r → Bodied P f) {x : SV} {H' : SHeap} {sop : SOp} {c : Call} (hc : compCall P c = some sop) (h : sExec call sop ev H = some (x, H')) (ty : TypeId) :
    OpDoes P G ρ H w (do let d ← resolve mev c ty; invoke d.target d.args) x H' ∨ CallDoes P ρ H w call (do let d ← resolve mev c ty; invoke d.target d.args) x H' := by
  obtain ⟨callee, args, ts⟩ := c
  unfold compCall at hc
  split at hc
  · cases hc
  · rename_i ys hys
    have hvs := toOpds_ok hev hys
    split at hc
    · rename_i y hcal
      simp only at hcal
      subst hcal
      have hrun : (do let d ← resolve mev ⟨.value y, args, ts⟩ ty; invoke d.target d.args : Sem Next) = (do let d ← Deferred.ofValue (mev y) (args.map mev); invoke d.target d.args) := rfl
      have ha : (args.map mev).toList = args.toList.map mev := by simp
      split at hc
      · rename_i f hy
        cases hc
        have hv := hev _ _ hy
        rw [hec] at hv
        simp only [VR] at hv
        obtain ⟨as, bs, hv, has, hbs⟩ := hv
        have has' : as = #[] := by
          have : as.toList = [] := by simpa [VRs] using has
          exact Array.toList_eq_nil_iff.1 this
        have hbs' : bs = #[] := by
          have : bs.toList = [] := by simpa [VRs] using hbs
          exact Array.toList_eq_nil_iff.1 this
        subst has' hbs'
        refine .inr ⟨f, evAll ev ys, args.map mev, h, ?_, by rw [ha]; exact hvs⟩
        rw [hrun, hv]
        have := callFunc_enter (w := w) (hcall _ _ _ _ h) (args.map mev)
        simp only [Deferred.ofValue, pure_bind, invoke]
        simpa using this
      · rename_i x' hx' hy
        cases hc
        have hv := hev _ _ hy
        simp only [sExec] at h
        cases hx : ev x' <;> rw [hx] at h <;> simp only [xCallv] at h <;> (try cases h)
        rename_i f fs cs
        rw [hx] at hv
        simp only [VR] at hv
        obtain ⟨as, bs, hv, has, hbs⟩ := hv
        refine .inr ⟨f, fs ++ evAll ev ys ++ cs, as ++ args.map mev ++ bs, h, ?_, by simp only [Array.toList_append, ha]; exact VRs_append (VRs_append has hvs) hbs⟩
        rw [hrun, hv]
        have := callFunc_enter (w := w) (hcall _ _ _ _ h) (as ++ args.map mev ++ bs)
        simp only [Deferred.ofValue, pure_bind, invoke]
        exact this
      · cases hc
    · cases hc
    · rename_i b hcal
      simp only at hcal
      subst hcal
      exact .inl (builtin_ok hr hvs hc h ty)
theorem exec_ok {ev : Ev} {mev : Operand → Value} (hev : EvOk P ρ ev mev) (hec : ∀ v, ev (.c v) = v) (hr : Rel G ρ H w) {call : Caller} (hcall : ∀ f xs H r, call f xs H = some r → Bodied P f) {x : SV} {H' : SHeap} {sop : SOp} (o : Oper) (hc : compOp P o.op = some sop) (h : sExec call sop ev H = some (x, H')) :
    OpDoes P G ρ H w (execOp mev o) x H' ∨ CallDoes P ρ H w call (execOp mev o) x H' := by
  obtain ⟨dst, op, ty, guard, after, pos⟩ := o
  cases op with
  | move a => exact .inl (ex_move hev hr hc h)
  | assign a => exact .inl (ex_assign hev hr hc h)
  | pick c a b => exact .inl (ex_pick hev hr hc h)
  | alloc t => exact .inl (ex_alloc hev hr hc h)
  | box t a => exact .inl (ex_box hev hr hc h)
  | build t ps => exact .inl (ex_build hev hr hc h)
  | buildSlice t n ps => exact .inl (ex_buildSlice hev hr hc h)
  | load t a => exact .inl (ex_load hev hr hc h)
  | store t a v => exact .inl (ex_store hev hr hc h)
  | nilCheck a => exact .inl (ex_nilCheck hev hr hc h)
  | binOp op t a b i => exact .inl (ex_binOp hev hec hr hc h)
  | unOp op t a => exact .inl (ex_unOp hev hr hc h)
  | convert s d a => exact .inl (ex_convert hev hr hc h)
  | makeInterface t a => exact .inl (ex_makeInterface hev hr hc h)
  | makeFunc f a b => exact .inl (ex_makeFunc hev hr hc h)
  | makeMap t r => exact .inl (ex_makeMap hev hr hc h)
  | makeSlice t l c => exact .inl (ex_makeSlice hev hr hc h)
  | slice t a lo hi mx => exact .inl (ex_slice hev hr hc h)
  | fieldAddr t a i => exact .inl (ex_fieldAddr hev hr hc h)
  | field t a i => exact .inl (ex_field hev hr hc h)
  | indexAddr t a i => exact .inl (ex_indexAddr hev hr hc h)
  | index t a i => exact .inl (ex_index hev hr hc h)
  | lookup t a i ok => exact .inl (ex_lookup hev hr hc h)
  | mapUpdate t m k v => exact .inl (ex_mapUpdate hev hr hc h)
  | insert t m k v => exact .inl (ex_insert hev hr hc h)
  | extract a i => exact .inl (ex_extract hev hr hc h)
  | typeAssert a xt t ok => exact .inl (ex_typeAssert hev hr hc h)
  | call c => exact ex_call hev hec hr hcall hc h ty
  | range t a => exact .inl (ex_range hev hr hc h)
  | next a s => exact .inl (ex_next hev hr hc h)
  | _ => simp [compOp] at hc
end Go.Sim
