/- Strings cut, lengths, tables, and small ones. -/
import Derived.Test.YtjoffbhfcajcgaaDoorSim12
set_option linter.unusedVariables false
set_option linter.unusedSimpArgs false
namespace Go.Sim
open Go.RowKit
variable {P : Program} {G : Nat} {ρ : Ren} {H : SHeap} {w w' : World}

theorem slS_ok {t : TypeId} (hut : P.underlying t = some .string) {x r : SV} {v : Value} (hx : VR ρ x v) {lo hi' : Option SV} {vlo vhi : Option Value} (hlo : VRo ρ lo vlo) (hhi : VRo ρ hi' vhi) (h : sSliceS x lo hi' = some r) : Gives P ρ w (Instr.sliceAt t v vlo vhi none) r := by
  cases x <;> simp only [sSliceS] at h <;> (try cases h)
  rename_i s
  obtain ⟨l, k, h1, h2, h3⟩ := bounds2_inv h
  simp only [ble_iff] at h3
  by_cases hz : l ≤ k ∧ k ≤ s.length
  · obtain ⟨z1, z2⟩ := hz
    simp [z1, z2] at h3; subst h3
    obtain ⟨b, rfl, rfl⟩ := VR_str.1 hx
    have hl : (b.data.toList.map (·.toNat)).length = b.size := by simp
    rw [hl] at h1 z2
    have hb := run_bounds (P := P) (w := w) hlo hhi h1 h2 z1 z2 false
    refine .of (v := .string (b.extract l k)) ?_ (by
      simp only [VR]
      refine ⟨_, rfl, ?_⟩
      simp [ByteArray.data_extract])
    simp only [Instr.sliceAt, Instr.slice, Sem.run_bind, run_underlying hut, Result.andThen_ok, Option.isSome_none, Bool.false_eq_true, if_false, hb, Sem.run_pure]
  · have : (decide (l ≤ k) && decide (k ≤ s.length)) = false := by
      rw [Bool.eq_false_iff]; intro hh; simp at hh; exact hz ⟨hh.1, hh.2⟩
    rw [this] at h3; cases h3

/- ---------- lengths ---------- -/
theorem lenS_ok {t u : TypeId} (hut : P.underlying t = some .string) {x r : SV} {v : Value} (hx : VR ρ x v) {H' : SHeap} (h : xLenS x H = some (r, H')) : H' = H ∧ Gives P ρ w (Builtin.len_ #[t] u #[v]) r := by
  cases x <;> simp only [xLenS] at h <;> (try cases h)
  refine ⟨rfl, ?_⟩
  obtain ⟨s, rfl, rfl⟩ := VR_str.1 hx
  exact .of (v := .int .i64 (s.size : Int)) (by simp [Builtin.len_, run_underlying hut]; rfl) (by simp only [goInt, VR]; simp)
theorem lenL_ok {t u e : TypeId} (hut : P.underlying t = some (.slice e)) {x r : SV} {v : Value} (hx : VR ρ x v) {H' : SHeap} (h : xLenL x H = some (r, H')) : H' = H ∧ Gives P ρ w (Builtin.len_ #[t] u #[v]) r := by
  cases x <;> simp only [xLenL] at h <;> (try cases h) <;> refine ⟨rfl, ?_⟩ <;> simp only [VR] at hx
  · subst hx
    exact .of (v := .int .i64 0) (by simp [Builtin.len_, run_underlying hut]; rfl) (by simp [goInt, VR])
  · obtain ⟨m, a, c, _, rfl, _⟩ := hx
    exact .of (v := .int .i64 (_ : Nat)) (by simp [Builtin.len_, run_underlying hut]; rfl) (by simp [goInt, VR])
theorem lenA_ok {t u e : TypeId} {n : Nat} (hut : P.underlying t = some (.array n e)) (v : Value) : Gives P ρ w (Builtin.len_ #[t] u #[v]) (goInt n) :=
  .of (v := .int .i64 (n : Int)) (by simp [Builtin.len_, run_underlying hut]; cases v <;> rfl) (by simp [goInt, VR])

/- ---------- tables ---------- -/
def KeyT (P : Program) (t : TypeId) (k : LeafK) : Prop := LeafT P t k
theorem keyT_ok {t : TypeId} {k : LeafK} (h : keyT P t = some k) : LeafT P t k := by
  unfold keyT at h
  cases hu : P.underlying t with
  | none => rw [hu] at h; cases h
  | some d =>
    rw [hu] at h
    cases d <;> simp at h <;> subst h
    · exact hu
    · exact ⟨_, hu⟩
    · exact hu
theorem EsR_length {es : List (SV × SV)} {es' : List MapEntry} (h : EsR ρ es es') : es'.length = es.length := by
  induction h with
  | nil => rfl
  | cons _ _ _ ih => simp [ih]
theorem EsR_get {es : List (SV × SV)} {es' : List MapEntry} (h : EsR ρ es es') : ∀ {i : Nat} {p : SV × SV}, es[i]? = some p → ∃ e, es'[i]? = some e ∧ VR ρ p.1 e.key ∧ VR ρ p.2 e.val := by
  induction h with
  | nil => intro i p hp; simp at hp
  | cons hk hv _ ih =>
    intro i p hp
    cases i with
    | zero => simp at hp; subst hp; exact ⟨_, by simp, hk, hv⟩
    | succ i => simp at hp; obtain ⟨e, he, h1⟩ := ih hp; exact ⟨e, by simpa using he, h1⟩
theorem EsR_append {es fs : List (SV × SV)} {es' fs' : List MapEntry} (h : EsR ρ es es') (k : EsR ρ fs fs') : EsR ρ (es ++ fs) (es' ++ fs') := by
  induction h with
  | nil => exact k
  | cons hk hv _ ih => exact .cons hk hv ih
theorem EsR_set {es : List (SV × SV)} {es' : List MapEntry} (h : EsR ρ es es') (i : Nat) {k v : SV} (f : MapEntry → MapEntry) (hf : ∀ e, VR ρ k (f e).key ∧ VR ρ v (f e).val) : EsR ρ (es.set i (k, v)) (es'.modify i f) := by
  induction h generalizing i with
  | nil => cases i <;> exact .nil
  | cons hk hv ht ih =>
    cases i with
    | zero => exact .cons (hf _).1 (hf _).2 ht
    | succ i => exact .cons hk hv (ih i)
theorem EsR_erase {es : List (SV × SV)} {es' : List MapEntry} (h : EsR ρ es es') (i : Nat) : EsR ρ (es.eraseIdx i) (es'.eraseIdx i) := by
  induction h generalizing i with
  | nil => exact .nil
  | cons hk hv ht ih =>
    cases i with
    | zero => exact ht
    | succ i => exact .cons hk hv (ih i)

/- the kinds of keys: what is told of two keys is what the model tells -/
theorem sameNow_ok {t : TypeId} {kk : LeafK} (ht : LeafT P t kk) {k k' : SV} {a b : Value} (hs : sKey kk k = true) (ha : VR ρ k a) (hb : VR ρ k' b) {c : Bool} (h : sEqCell k k' = some c) {d : TypeDesc} (hd : P.underlying t = some d) :
    Instr.sameNow d a b = some c ∧ (c = true → Instr.sameBits 10000 b a = true) := by
  cases kk <;> cases k <;> simp only [sKey] at hs <;> (try cases hs) <;> cases k' <;> simp only [sEqCell] at h <;> (try cases h)
  · simp only [LeafT] at ht; rw [ht] at hd; cases hd
    rw [VR_bool.1 ha, VR_bool.1 hb]
    refine ⟨rfl, fun hc => ?_⟩
    simp at hc
    subst hc
    simp [Instr.sameBits]
  · rename_i j x k y
    obtain ⟨q, ht⟩ := ht
    rw [ht] at hd; cases hd
    rw [kEq_iff] at h
    by_cases e : j = k
    · subst e
      simp only [decide_true, cond_true, Option.some.injEq, iEq_iff] at h
      rw [VR_int.1 ha, VR_int.1 hb]
      refine ⟨by simp [Instr.sameNow, h], fun hc => ?_⟩
      subst hc
      simp at h; subst h
      simp [Instr.sameBits]
    · simp [e] at h
  · simp only [LeafT] at ht; rw [ht] at hd; cases hd
    obtain ⟨s1, rfl, rfl⟩ := VR_str.1 ha
    obtain ⟨s2, rfl, rfl⟩ := VR_str.1 hb
    refine ⟨?_, fun hc => ?_⟩
    · simp only [Instr.sameNow]
      rw [beq_toListBytes, str_eq]
    · simp only [Instr.sameBits]
      rw [str_eq] at hc
      rw [beq_toListBytes]
      simp at hc ⊢
      exact hc.symm
theorem findNow_ok {t : TypeId} {kk : LeafK} (ht : LeafT P t kk) {k : SV} {a : Value} (hs : sKey kk k = true) (ha : VR ρ k a) {d : TypeDesc} (hd : P.underlying t = some d) {es : List (SV × SV)} {es' : List MapEntry} (he : EsR ρ es es') :
    ∀ (n : Nat) (f : Option (Nat × SV)), sFind k es n = some f → ∃ f', Instr.findNow d a es' n = some f' ∧ (match f with
      | none => f' = none
      | some (i, v) => ∃ u, f' = some (i, u) ∧ VR ρ v u ∧ n ≤ i ∧ ∃ e, es'[i - n]? = some e ∧ Instr.sameBits 10000 e.key a = true) := by
  induction he with
  | nil => intro n f h; simp [sFind] at h; subst h; exact ⟨none, rfl, rfl⟩
  | cons hk hv hrest ih =>
    rename_i k' v' e es es'
    intro n f h
    simp only [sFind] at h
    cases hc : sEqCell k k' with
    | none => rw [hc] at h; cases h
    | some c =>
      rw [hc] at h
      obtain ⟨h1, h2⟩ := sameNow_ok ht hs ha hk hc hd
      cases c with
      | true =>
        cases h
        exact ⟨some (n, e.val), by simp [Instr.findNow, h1], e.val, rfl, hv, Nat.le_refl _, e, by simp, h2 rfl⟩
      | false =>
        obtain ⟨f', h3, h4⟩ := ih (n + 1) f h
        refine ⟨f', by simp [Instr.findNow, h1, h3], ?_⟩
        cases f with
        | none => exact h4
        | some p =>
          obtain ⟨i, v⟩ := p
          obtain ⟨u, hu1, hu2, hle, e2, he2, hsb⟩ := h4
          exact ⟨u, hu1, hu2, by omega, e2, by rw [show i - n = (i - (n + 1)) + 1 by omega]; simpa using he2, hsb⟩
theorem checkKey_ok {t : TypeId} {kk : LeafK} (ht : LeafT P t kk) (v : Value) (b : Bool) (w : World) : (Instr.checkKey b 10000 t v).run P w = .ok () w := by
  have h : ∀ n, (Instr.checkKey b (n + 1) t v).run P w = .ok () w := by
    intro n
    cases kk
    · simp only [LeafT] at ht; simp [Instr.checkKey, run_underlying ht]
    · obtain ⟨j, ht⟩ := ht; simp [Instr.checkKey, run_underlying ht]
    · simp only [LeafT] at ht; simp [Instr.checkKey, run_underlying ht]
  exact h 9999
theorem LeafT.und {t : TypeId} {kk : LeafK} (ht : LeafT P t kk) : ∃ d, P.underlying t = some d := by
  cases kk
  · exact ⟨_, ht⟩
  · obtain ⟨j, ht⟩ := ht; exact ⟨_, ht⟩
  · exact ⟨_, ht⟩

theorem found_ok {ok : Bool} {v : SV} {u : Value} (hv : VR ρ v u) (b : Bool) : VR ρ (found ok v b) (if ok then .tuple #[u, .bool b] else u) := by
  cases ok with
  | false => exact hv
  | true =>
    simp only [found, cond_true, if_true, VR]
    exact ⟨_, rfl, VRs_cons hv (VRs_cons (by simp only [VR]) (VRs_nil ρ))⟩

theorem lookup_ok {t kt et : TypeId} {kk : LeafK} {z : SV} {ok : Bool} (hut : P.underlying t = some (.map kt et)) (hk : LeafT P kt kk) (hz : zeroSV P et = some z) (hr : Rel G ρ H w) {m k r : SV} {mv kv : Value} (hm : VR ρ m mv) (hkv : VR ρ k kv) (h : sLookup kk z ok H m k = some r) :
    Gives P ρ w (Instr.lookup t mv kv ok) r := by
  obtain ⟨zv, hzr, hzv⟩ := zeroSV_ok hz
  obtain ⟨d, hd⟩ := hk.und
  unfold sLookup at h
  cases hs : sKey kk k with
  | false => rw [hs] at h; cases h
  | true =>
    rw [hs] at h
    simp only [cond_true] at h
    cases m <;> simp only at h <;> (try cases h)
    case mp r0 =>
      unfold mapAt at h
      cases hg : H.get r0 with
      | none => rw [hg] at h; cases h
      | some o =>
        rw [hg] at h
        cases o with
        | dead => cases h
        | iter _ _ => cases h
        | cells _ _ _ _ => cases h
        | map ro es =>
          simp only [lookIn] at h
          obtain ⟨mi, es', clock, hmi, hw, hes⟩ := hr.obj r0 _ hg
          simp only [VR] at hm
          obtain ⟨mi', hmi', rfl⟩ := hm
          rw [hmi] at hmi'; cases hmi'
          cases hf : sFind k es 0 with
          | none => rw [hf] at h; cases h
          | some f =>
            rw [hf] at h
            obtain ⟨f', h1, h2⟩ := findNow_ok hk hs hkv hd hes 0 f hf
            have hgo : (getObj mi.blk).run P w = .ok (.map es' clock) w := by simp [getObj, Sem.run, hw]
            cases f with
            | none =>
              simp only at h h2
              cases h
              subst h2
              refine .of (v := if ok then .tuple #[zv, .bool false] else zv) ?_ (found_ok (hzv ρ) false)
              simp only [Instr.lookup, Sem.run_bind, run_underlying hut, Result.andThen_ok, hgo, Sem.run_pure, checkKey_ok hk, Instr.findKey, run_underlying hd, h1, hzr]
            | some p =>
              obtain ⟨i, v⟩ := p
              simp only at h h2
              cases h
              obtain ⟨u, rfl, hu, _⟩ := h2
              refine .of (v := if ok then .tuple #[u, .bool true] else u) ?_ (found_ok hu true)
              simp only [Instr.lookup, Sem.run_bind, run_underlying hut, Result.andThen_ok, hgo, Sem.run_pure, checkKey_ok hk, Instr.findKey, run_underlying hd, h1]
    all_goals
      simp only [VR] at hm
      subst hm
      refine .of (v := if ok then .tuple #[zv, .bool false] else zv) ?_ (found_ok (hzv ρ) false)
      simp only [Instr.lookup, Sem.run_bind, run_underlying hut, Result.andThen_ok, Sem.run_pure, checkKey_ok hk, Instr.findKey, run_underlying hd, Instr.findNow, hzr]

theorem mkMap_ok {t : TypeId} (hr : Rel G ρ H w) {r : SV} {H' : SHeap} (h : some (SV.mp H.next, H.alloc (.map false [])) = some (r, H')) : Does P G ρ H w (Instr.makeMap t none) r H' := by
  cases h
  let m : Img := ⟨w.heap.size, 0, 0, 0⟩
  have hsame : ∀ B, B < w.heap.size → (w.heap.push (.map #[] 0))[B]? = w.heap[B]? := fun B hB => by rw [Array.getElem?_push, if_neg (by omega)]
  refine ⟨.map (some w.heap.size), ρ.upd H.next m, { w with heap := w.heap.push (.map #[] 0) }, rfl, by simp only [VR]; exact ⟨m, Ren.upd_same _ _ _, rfl⟩, ?_, ?_⟩
  · refine rel_alloc hr _ m ⟨m, #[], 0, Ren.upd_same _ _ _, ?_, .nil⟩ (fun B _ hB => hsame B hB) (by simp) (by simp [m]) (fun b o m1 hb _ hm => ?_)
    · show (w.heap.push _)[w.heap.size]? = _; simp
    · have := (hr.dom b m1 hm).2
      show m1.blk ≠ w.heap.size
      omega
  · exact later_alloc hr _ m rfl rfl rfl (by simp) hsame (Nat.le_refl _)

/- a table's object written -/
theorem map_set (hr : Rel G ρ H w) {r0 : Nat} {es es2 : List (SV × SV)} (hg : H.get r0 = some (.map false es)) {mi : Img} (hmi : ρ r0 = some mi) {es' : Array MapEntry} {clock : Nat} (hw : w.heap[mi.blk]? = some (.map es' clock)) (es2' : Array MapEntry) (clock2 : Nat) (hes : EsR ρ es2 es2'.toList) :
    (setObj mi.blk (.map es2' clock2)).run P w = .ok () { w with heap := w.heap.setIfInBounds mi.blk (.map es2' clock2) } ∧
      Rel G ρ (H.set r0 (.map false es2)) { w with heap := w.heap.setIfInBounds mi.blk (.map es2' clock2) } ∧ Later ρ H w ρ (H.set r0 (.map false es2)) { w with heap := w.heap.setIfInBounds mi.blk (.map es2' clock2) } := by
  have hlt := (Array.getElem?_eq_some_iff.1 hw).1
  have hsame : ∀ B, B ≠ mi.blk → (w.heap.setIfInBounds mi.blk (.map es2' clock2))[B]? = w.heap[B]? := fun B hB => Array.getElem?_setIfInBounds_ne (fun e => hB e.symm)
  refine ⟨by simp [setObj, Sem.run, hw], ?_, ?_⟩
  · refine rel_set hr hg rfl hmi ⟨mi, es2', clock2, hmi, ?_, hes⟩ (fun B hB _ => hsame B hB) (by simp)
    show (w.heap.setIfInBounds mi.blk _)[mi.blk]? = _
    rw [Array.getElem?_setIfInBounds]; simp [hlt]
  · exact later_set hg rfl hmi rfl rfl rfl (by simp) (fun B hB _ => hsame B hB)

theorem mapUpdate_ok {t kt et : TypeId} {kk : LeafK} (hut : P.underlying t = some (.map kt et)) (hk : LeafT P kt kk) (hr : Rel G ρ H w) {m k x : SV} {mv kv xv : Value} (hm : VR ρ m mv) (hkv : VR ρ k kv) (hx : VR ρ x xv) {H' : SHeap} (h : sMapUpdate kk H m k x = some H') :
    DoesU P G ρ H w (Instr.mapUpdate t mv kv xv) H' := by
  obtain ⟨d, hd⟩ := hk.und
  unfold sMapUpdate at h
  cases hs : sKey kk k with
  | false => rw [hs] at h; cases h
  | true =>
    rw [hs] at h
    simp only [cond_true] at h
    cases m <;> simp only at h <;> (try cases h)
    rename_i r0
    unfold mapAt at h
    cases hg : H.get r0 with
    | none => rw [hg] at h; cases h
    | some o =>
      rw [hg] at h
      cases o with
      | dead => cases h
      | iter _ _ => cases h
      | cells _ _ _ _ => cases h
      | map ro es =>
        simp only [updateIn] at h
        cases ro with
        | true => cases h
        | false =>
          simp only [cond_false] at h
          obtain ⟨mi, es', clock, hmi, hw, hes⟩ := hr.obj r0 _ hg
          simp only [VR] at hm
          obtain ⟨mi', hmi', rfl⟩ := hm
          rw [hmi] at hmi'; cases hmi'
          have hgo : (getObj mi.blk).run P w = .ok (.map es' clock) w := by simp [getObj, Sem.run, hw]
          cases hf : sFind k es 0 with
          | none => rw [hf] at h; cases h
          | some f =>
            rw [hf] at h
            obtain ⟨f', h1, h2⟩ := findNow_ok hk hs hkv hd hes 0 f hf
            cases f with
            | none =>
              simp only at h h2
              cases h
              subst h2
              obtain ⟨k1, k2, k3⟩ := map_set (P := P) (es2 := es ++ [(k, x)]) hr hg hmi hw (es'.push { key := kv, val := xv, born := clock }) (clock + 1) (by
                rw [Array.toList_push]; exact EsR_append hes (.cons hkv hx .nil))
              refine ⟨ρ, _, ?_, k2, k3⟩
              simp only [Instr.mapUpdate, Sem.run_bind, run_underlying hut, Result.andThen_ok, hgo, checkKey_ok hk, Instr.findKey, run_underlying hd, h1, Sem.run_pure]
              exact k1
            | some p =>
              obtain ⟨i, v⟩ := p
              simp only at h h2
              cases h
              obtain ⟨u, rfl, hu, _, e, hge, hsb⟩ := h2
              have hei : es'[i]? = some e := by simpa using hge
              obtain ⟨k1, k2, k3⟩ := map_set (P := P) (es2 := es.set i (k, x)) hr hg hmi hw (es'.modify i fun e => { e with key := kv, val := xv }) clock (by
                rw [Array.toList_modify]; exact EsR_set hes i _ (fun e => ⟨hkv, hx⟩))
              refine ⟨ρ, _, ?_, k2, k3⟩
              simp only [Instr.mapUpdate, Sem.run_bind, run_underlying hut, Result.andThen_ok, hgo, checkKey_ok hk, Instr.findKey, run_underlying hd, h1, Sem.run_pure, Instr.keyThatStays, hei, Option.map_some, Option.getD_some, hsb, if_true]
              exact k1

theorem delete_ok {t u ty kt et : TypeId} {kk : LeafK} (hut : P.underlying t = some (.map kt et)) (hk : LeafT P kt kk) (hr : Rel G ρ H w) {m k r : SV} {mv kv : Value} (hm : VR ρ m mv) (hkv : VR ρ k kv) {H' : SHeap} (h : xDelete kk m k H = some (r, H')) :
    Does P G ρ H w (Builtin.delete_ #[t, u] ty #[mv, kv]) r H' := by
  obtain ⟨d, hd⟩ := hk.und
  unfold xDelete sDelete at h
  have hT : VR ρ (SV.tup []) (.tuple #[]) := by simp only [VR]; exact ⟨#[], rfl, VRs_nil ρ⟩
  cases hs : sKey kk k with
  | false => rw [hs] at h; cases h
  | true =>
    rw [hs] at h
    simp only [cond_true, Option.map_eq_some_iff, Prod.mk.injEq] at h
    obtain ⟨H1, h, rfl, rfl⟩ := h
    cases m <;> simp only at h <;> (try cases h)
    case mp r0 =>
      unfold mapAt at h
      cases hg : H.get r0 with
      | none => rw [hg] at h; cases h
      | some o =>
        rw [hg] at h
        cases o with
        | dead => cases h
        | iter _ _ => cases h
        | cells _ _ _ _ => cases h
        | map ro es =>
          simp only [deleteIn] at h
          cases ro with
          | true => cases h
          | false =>
            simp only [cond_false] at h
            obtain ⟨mi, es', clock, hmi, hw, hes⟩ := hr.obj r0 _ hg
            simp only [VR] at hm
            obtain ⟨mi', hmi', rfl⟩ := hm
            rw [hmi] at hmi'; cases hmi'
            have hgo : (getObj mi.blk).run P w = .ok (.map es' clock) w := by simp [getObj, Sem.run, hw]
            cases hf : sFind k es 0 with
            | none => rw [hf] at h; cases h
            | some f =>
              rw [hf] at h
              obtain ⟨f', h1, h2⟩ := findNow_ok hk hs hkv hd hes 0 f hf
              cases f with
              | none =>
                simp only at h h2
                cases h
                subst h2
                obtain ⟨k1, k2, k3⟩ := map_set (P := P) hr hg hmi hw es' clock hes
                refine ⟨_, ρ, { w with heap := w.heap.setIfInBounds mi.blk (.map es' clock) }, ?_, hT, ?_, ?_⟩
                · simp only [Builtin.delete_, List.getElem?_toArray, List.getElem?_cons_zero, List.getElem?_cons_succ, Sem.run_bind, run_underlying hut, Result.andThen_ok, hgo, checkKey_ok hk, Instr.findKey, run_underlying hd, h1, Sem.run_pure, k1]
                · have hwe : ({ w with heap := w.heap.setIfInBounds mi.blk (.map es' clock) } : World) = w := by
                    have : w.heap.setIfInBounds mi.blk (.map es' clock) = w.heap := by
                      apply Array.ext_getElem?
                      intro B
                      by_cases hB : B = mi.blk
                      · subst hB; rw [Array.getElem?_setIfInBounds]; simp [(Array.getElem?_eq_some_iff.1 hw).1, hw]
                        exact (Array.getElem?_eq_some_iff.1 hw).2.symm
                      · exact Array.getElem?_setIfInBounds_ne (fun e => hB e.symm)
                    rw [this]
                  rw [hwe]; exact hr
                · have hwe : ({ w with heap := w.heap.setIfInBounds mi.blk (.map es' clock) } : World) = w := by
                    have : w.heap.setIfInBounds mi.blk (.map es' clock) = w.heap := by
                      apply Array.ext_getElem?
                      intro B
                      by_cases hB : B = mi.blk
                      · subst hB; rw [Array.getElem?_setIfInBounds]; simp [(Array.getElem?_eq_some_iff.1 hw).1, hw]
                        exact (Array.getElem?_eq_some_iff.1 hw).2.symm
                      · exact Array.getElem?_setIfInBounds_ne (fun e => hB e.symm)
                    rw [this]
                  rw [hwe]; exact Later.refl ρ H w
              | some p =>
                obtain ⟨i, v⟩ := p
                simp only at h h2
                cases h
                obtain ⟨u', rfl, hu, _, e, hge, hsb⟩ := h2
                obtain ⟨k1, k2, k3⟩ := map_set (P := P) (es2 := es.eraseIdx i) hr hg hmi hw (es'.eraseIdxIfInBounds i) clock (by
                  rw [Array.toList_eraseIdxIfInBounds]; exact EsR_erase hes i)
                refine ⟨_, ρ, _, ?_, hT, k2, k3⟩
                simp only [Builtin.delete_, List.getElem?_toArray, List.getElem?_cons_zero, List.getElem?_cons_succ, Sem.run_bind, run_underlying hut, Result.andThen_ok, hgo, checkKey_ok hk, Instr.findKey, run_underlying hd, h1, Sem.run_pure, k1]
    all_goals
      simp only [VR] at hm
      subst hm
      refine ⟨_, ρ, w, ?_, hT, hr, Later.refl ρ H w⟩
      simp only [Builtin.delete_, List.getElem?_toArray, List.getElem?_cons_zero, List.getElem?_cons_succ, Sem.run_bind, run_underlying hut, Result.andThen_ok, checkKey_ok hk, Sem.run_pure]

theorem lenM_ok {t u kt et : TypeId} (hut : P.underlying t = some (.map kt et)) (hr : Rel G ρ H w) {x r : SV} {v : Value} (hx : VR ρ x v) {H' : SHeap} (h : xLenM x H = some (r, H')) : H' = H ∧ Gives P ρ w (Builtin.len_ #[t] u #[v]) r := by
  cases x <;> simp only [xLenM] at h <;> (try cases h)
  case mp r0 =>
    unfold mapAt at h
    cases hg : H.get r0 with
    | none => rw [hg] at h; cases h
    | some o =>
      rw [hg] at h
      cases o with
      | dead => cases h
      | iter _ _ => cases h
      | cells _ _ _ _ => cases h
      | map ro es =>
        cases h
        refine ⟨rfl, ?_⟩
        obtain ⟨mi, es', clock, hmi, hw, hes⟩ := hr.obj r0 _ hg
        simp only [VR] at hx
        obtain ⟨mi', hmi', rfl⟩ := hx
        rw [hmi] at hmi'; cases hmi'
        have hgo : (getObj mi.blk).run P w = .ok (.map es' clock) w := by simp [getObj, Sem.run, hw]
        have hl := EsR_length hes
        refine .of (v := .int .i64 (es'.size : Int)) ?_ (by simp only [goInt, VR]; rw [← hl]; simp)
        simp only [Builtin.len_, List.getElem?_toArray, List.getElem?_cons_zero, Sem.run_bind, run_underlying hut, Result.andThen_ok, hgo]
        rfl
  all_goals
    refine ⟨rfl, ?_⟩
    simp only [VR] at hx
    subst hx
    exact .of (v := .int .i64 0) (by simp [Builtin.len_, run_underlying hut]; rfl) (by simp [goInt, VR])

/- ---------- the least and the greatest ---------- -/
theorem min_ok {ts : Array TypeId} {u : TypeId} : ∀ {xs : List SV} {vs : List Value} {n : Int} {k : IntKind} {r : SV}, VRs ρ xs vs → sMin n k xs = some r → ∃ v, (vs.foldlM Builtin.min2 (Value.int k n)).run P w = .ok v w ∧ VR ρ r v
  | [], vs, n, k, r, hv, h => by
    simp only [VRs] at hv; subst hv
    simp [sMin] at h; subst h
    exact ⟨.int k n, rfl, by simp only [VR]⟩
  | x :: xs, vs, n, k, r, hv, h => by
    simp only [VRs] at hv
    obtain ⟨y, ys, rfl, h1, h2⟩ := hv
    simp only [sMin] at h
    cases x <;> simp only at h <;> (try cases h)
    rename_i j m
    rw [VR_int.1 h1]
    rw [iLt_iff] at h
    have := min_ok (ts := ts) (u := u) h2 h
    obtain ⟨v, hv, hr⟩ := this
    refine ⟨v, ?_, hr⟩
    simp only [List.foldlM_cons, Builtin.min2, Sem.run_bind, Sem.run_pure, Result.andThen_ok]
    rw [← hv]
    congr 2
    by_cases hmn : m < n <;> simp [hmn]
theorem max_ok {ts : Array TypeId} {u : TypeId} : ∀ {xs : List SV} {vs : List Value} {n : Int} {k : IntKind} {r : SV}, VRs ρ xs vs → sMax n k xs = some r → ∃ v, (vs.foldlM Builtin.max2 (Value.int k n)).run P w = .ok v w ∧ VR ρ r v
  | [], vs, n, k, r, hv, h => by
    simp only [VRs] at hv; subst hv
    simp [sMax] at h; subst h
    exact ⟨.int k n, rfl, by simp only [VR]⟩
  | x :: xs, vs, n, k, r, hv, h => by
    simp only [VRs] at hv
    obtain ⟨y, ys, rfl, h1, h2⟩ := hv
    simp only [sMax] at h
    cases x <;> simp only at h <;> (try cases h)
    rename_i j m
    rw [VR_int.1 h1]
    rw [iLt_iff] at h
    have := max_ok (ts := ts) (u := u) h2 h
    obtain ⟨v, hv, hr⟩ := this
    refine ⟨v, ?_, hr⟩
    simp only [List.foldlM_cons, Builtin.max2, Sem.run_bind, Sem.run_pure, Result.andThen_ok]
    rw [← hv]
    congr 2
    by_cases hmn : n < m <;> simp [hmn]
end Go.Sim
