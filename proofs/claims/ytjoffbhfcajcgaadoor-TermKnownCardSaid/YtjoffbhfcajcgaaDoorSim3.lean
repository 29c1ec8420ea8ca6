/- The reduced machine's operations on values do what the model's do. -/
import Derived.Test.YtjoffbhfcajcgaaDoorSim2
import Derived.Laws.StructEq
set_option linter.unusedVariables false
set_option linter.unusedSimpArgs false
namespace Go.Sim
open Go.RowKit
variable {P : Program}

theorem wrap_id (k : IntKind) (n : Int) (h : k.min ≤ n ∧ n ≤ k.max) : k.wrap n = n := by
  cases k <;> simp only [IntKind.min, IntKind.max, IntKind.bits, IntKind.signed, if_true, Bool.false_eq_true, if_false] at h <;>
    simp only [IntKind.wrap, IntKind.bits, IntKind.signed, Bool.true_and, Bool.false_and, decide_eq_true_eq, Bool.false_eq_true, if_false, ge_iff_le] <;> first | omega | (split <;> rename_i hh <;> (try simp at hh) <;> omega)
theorem fits_wrap (k : IntKind) (n : Int) (h : fits k n = true) : k.wrap n = n := by
  refine wrap_id k n ?_
  cases k <;> cases n <;> simp only [fits, ble_iff, decide_eq_true_eq, Bool.false_eq_true] at h <;> simp only [IntKind.min, IntKind.max, IntKind.bits, IntKind.signed, if_true, Bool.false_eq_true, if_false, Int.ofNat_eq_natCast] <;> omega
theorem wrapQ_eq (k : IntKind) (n : Int) : wrapQ k n = k.wrap n := by
  unfold wrapQ
  cases h : fits k n
  · rfl
  · simp [fits_wrap k n h]
theorem kEq_iff (j k : IntKind) : kEq j k = decide (j = k) := by cases j <;> cases k <;> rfl
theorem iLe_iff (a b : Int) : iLe a b = decide (a ≤ b) := by
  cases a <;> cases b <;> simp [iLe, ble_iff] <;> omega
theorem iLt_iff (a b : Int) : iLt a b = decide (a < b) := by
  rw [Bool.eq_iff_iff]; simp [iLt, iLe_iff]
theorem iEq_iff (a b : Int) : iEq a b = (a == b) := by
  cases a <;> cases b <;> rw [Bool.eq_iff_iff] <;> simp [iEq, beq_iff] <;> omega
theorem lEq_iff : ∀ a b : List Nat, lEq a b = (a == b)
  | [], [] => rfl
  | [], _ :: _ => rfl
  | _ :: _, [] => rfl
  | a :: as, b :: bs => by
    simp only [lEq, beq_iff, lEq_iff as bs]
    rw [Bool.eq_iff_iff]
    by_cases h : a = b <;> simp [h]
theorem bytesLess_iff : ∀ a b : List UInt8, bytesLess (a.map (·.toNat)) (b.map (·.toNat)) = Op.bytesLess a b
  | a, [] => by cases a <;> simp [bytesLess, Op.bytesLess]
  | [], b :: bs => by simp [bytesLess, Op.bytesLess]
  | a :: as, b :: bs => by
    simp only [List.map_cons, bytesLess, Op.bytesLess, bytesLess_iff as bs, ble_iff, beq_iff]
    rw [Bool.eq_iff_iff]
    have h1 : (a < b) ↔ a.toNat + 1 ≤ b.toNat := by rw [UInt8.lt_iff_toNat_lt]; omega
    have h2 : (a = b) ↔ a.toNat = b.toNat := UInt8.toNat_inj.symm
    by_cases e : a.toNat + 1 ≤ b.toNat <;> by_cases e2 : a.toNat = b.toNat <;> simp [e, e2, h1, h2]
theorem map_toNat_inj {a b : List UInt8} (h : a.map (·.toNat) = b.map (·.toNat)) : a = b := by
  induction a generalizing b with
  | nil => cases b <;> simp at h; rfl
  | cons x a ih =>
    cases b with
    | nil => simp at h
    | cons y b => simp at h; rw [ih h.2, UInt8.toNat_inj.1 h.1]
theorem str_eq (s t : ByteArray) : lEq (s.data.toList.map (·.toNat)) (t.data.toList.map (·.toNat)) = (s.toList == t.toList) := by
  rw [lEq_iff, ByteArray.toList_eq, ByteArray.toList_eq, Bool.eq_iff_iff]
  simp only [beq_iff_eq]
  exact ⟨map_toNat_inj, fun h => by rw [h]⟩
theorem str_less (s t : ByteArray) : bytesLess (s.data.toList.map (·.toNat)) (t.data.toList.map (·.toNat)) = Op.bytesLess s.toList t.toList := by
  rw [bytesLess_iff, ByteArray.toList_eq, ByteArray.toList_eq]

/- a value of the reduced machine, of the model's, and nothing else turns -/
def Gives (P : Program) (ρ : Ren) (w : World) (s : Sem Value) (x : SV) : Prop := ∃ v, s.run P w = .ok v w ∧ VR ρ x v
theorem Gives.of {ρ : Ren} {w : World} {s : Sem Value} {x : SV} {v : Value} (h : s.run P w = .ok v w) (hv : VR ρ x v) : Gives P ρ w s x := ⟨v, h, hv⟩

theorem VR_int {ρ : Ren} {k : IntKind} {n : Int} {v : Value} : VR ρ (.int k n) v ↔ v = .int k n := by simp only [VR]
theorem VR_bool {ρ : Ren} {b : Bool} {v : Value} : VR ρ (.bool b) v ↔ v = .bool b := by simp only [VR]
theorem VR_str {ρ : Ren} {l : List Nat} {v : Value} : VR ρ (.str l) v ↔ ∃ s : ByteArray, v = .string s ∧ s.data.toList.map (·.toNat) = l := by simp only [VR]

/- equality of plain cells -/
theorem sEqCell_run {ρ : Ren} {w : World} {x y : SV} {a b : Value} {r : Bool} (hx : VR ρ x a) (hy : VR ρ y b) (h : sEqCell x y = some r) (k : LeafK) (d : Nat) (t : TypeId)
    (hk : match k with
      | .b => P.underlying t = some .bool ∧ ∃ c, x = .bool c
      | .i => (∃ j, P.underlying t = some (.int j)) ∧ ∃ j c, x = .int j c
      | .s => P.underlying t = some .string ∧ ∃ c, x = .str c) : (Op.equalIn (d + 1) t a b).run P w = .ok r w := by
  cases k with
  | b =>
    obtain ⟨ht, c, rfl⟩ := hk
    cases y <;> simp [sEqCell] at h
    rename_i e
    rw [VR_bool.1 hx, VR_bool.1 hy, run_equalIn_bool' w d t c e ht, ← h]
  | i =>
    obtain ⟨⟨j, ht⟩, j', c, rfl⟩ := hk
    cases y <;> simp [sEqCell, kEq_iff] at h
    rename_i k' e
    by_cases hjk : j' = k'
    · subst hjk
      simp at h
      rw [VR_int.1 hx, VR_int.1 hy, run_equalIn_int w d t j' j c e ht, ← h, iEq_iff]
    · simp [hjk] at h
  | s =>
    obtain ⟨ht, c, rfl⟩ := hk
    cases y <;> simp [sEqCell] at h
    rename_i e
    obtain ⟨s1, rfl, rfl⟩ := VR_str.1 hx
    obtain ⟨s2, rfl, rfl⟩ := VR_str.1 hy
    rw [run_equalIn_string w d t s1 s2 ht, ← h, str_eq]

theorem sEqCells_split (n : Nat) : ∀ (s1 s2 : List LeafK) (a b : List SV) (r : Bool), s1.length = n → sEqCells (s1 ++ s2) a b = some r →
    (sEqCells s1 (a.take n) (b.take n) = some false ∧ r = false) ∨ (sEqCells s1 (a.take n) (b.take n) = some true ∧ n ≤ a.length ∧ n ≤ b.length ∧ sEqCells s2 (a.drop n) (b.drop n) = some r) := by
  induction n with
  | zero =>
    intro s1 s2 a b r h1 h
    have : s1 = [] := List.length_eq_zero_iff.1 h1
    subst this
    right
    exact ⟨by simp [sEqCells], by omega, by omega, by simpa using h⟩
  | succ n ih =>
    intro s1 s2 a b r h1 h
    cases s1 with
    | nil => simp at h1
    | cons k s1 =>
      cases a with
      | nil => simp [sEqCells] at h
      | cons x a =>
        cases b with
        | nil => simp [sEqCells] at h
        | cons y b =>
          simp only [List.cons_append, sEqCells] at h
          simp only [List.take_succ_cons, sEqCells, List.drop_succ_cons, List.length_cons]
          cases hl : sLeaf k x y with
          | none => rw [hl] at h; cases h
          | some c =>
            rw [hl] at h
            cases c with
            | false => left; simp at h; exact ⟨rfl, h⟩
            | true =>
              simp only at h ⊢
              rcases ih s1 s2 a b r (by simpa using h1) h with h2 | ⟨h2, h3, h4, h5⟩
              · exact .inl h2
              · exact .inr ⟨h2, by omega, by omega, h5⟩

theorem cellsOf_eq {t : TypeId} {i : TypeInfo} (h : P.info? t = some i) : P.cellsOf t = i.size := by simp [Program.cellsOf, h]
theorem run_isAgg_eq (t : TypeId) (d : TypeDesc) (h : P.underlying t = some d) (w : World) : (isAgg t).run P w = .ok (isAggB P t) w := by
  unfold isAgg isAggB
  rw [Sem.run_bind, run_underlying h]
  cases d <;> simp [h]
theorem info_of_underlying {t : TypeId} {d : TypeDesc} (h : P.underlying t = some d) : ∃ i, P.info? t = some i := by
  unfold Program.underlying at h
  cases hi : P.info? t with
  | none => rw [hi] at h; cases h
  | some i => exact ⟨i, rfl⟩
theorem run_sizeOf_eq {t : TypeId} {i : TypeInfo} (h : P.info? t = some i) (w : World) : (sizeOf t).run P w = .ok i.size w := by
  simp [sizeOf, typeInfo, Sem.run_bind, h]

theorem run_part {t : TypeId} {d : TypeDesc} {i : TypeInfo} (hu : P.underlying t = some d) (hi : P.info? t = some i) (cs : Array Value) (off : Nat) (w : World) {v : Value}
    (h : if isAggB P t then v = .agg (cs.extract off (off + i.size)) else cs[off]? = some v) : (part t cs off).run P w = .ok v w := by
  unfold part
  rw [Sem.run_bind, run_isAgg_eq t d hu]
  simp only [Result.andThen_ok]
  cases hb : isAggB P t with
  | true => rw [hb] at h; simp at h; simp [run_sizeOf_eq hi, h]
  | false => rw [hb] at h; simp at h; simp [h]

/- of a leaf's type -/
def LeafT (P : Program) (t : TypeId) : LeafK → Prop
  | .b => P.underlying t = some .bool
  | .i => ∃ j, P.underlying t = some (.int j)
  | .s => P.underlying t = some .string

theorem sLeaf_run {ρ : Ren} {w : World} {x y : SV} {a b : Value} {r : Bool} {k : LeafK} {t : TypeId} (d : Nat) (hx : VR ρ x a) (hy : VR ρ y b) (ht : LeafT P t k) (h : sLeaf k x y = some r) :
    (Op.equalIn (d + 1) t a b).run P w = .ok r w := by
  cases k <;> cases x <;> simp only [sLeaf] at h <;> first
    | exact sEqCell_run hx hy h .b d t ⟨ht, _, rfl⟩
    | exact sEqCell_run hx hy h .i d t ⟨ht, _, _, rfl⟩
    | exact sEqCell_run hx hy h .s d t ⟨ht, _, rfl⟩
    | cases h

theorem extract_toList (cs : Array Value) (off n : Nat) : (cs.extract off (off + n)).toList = (cs.toList.drop off).take n := by
  rw [Array.toList_extract]; simp [List.extract]

theorem shapeFs_run (d : Nat) (rec : TypeId → Option (List LeafK)) {ρ : Ren} {w : World} {xs ys : List SV} {as bs : Array Value} (hx : VRs ρ xs as.toList) (hy : VRs ρ ys bs.toList)
    (hagg : ∀ (t : TypeId) (sh : List LeafK) (l m : List SV) (a b : Value) (r : Bool), rec t = some sh → isAggB P t = true → VR ρ (.agg l) a → VR ρ (.agg m) b →
      sEqCells sh l m = some r → (Op.equalIn (d + 1) t a b).run P w = .ok r w)
    (hinf : ∀ t sh, rec t = some sh → (∃ i e, P.info? t = some i ∧ P.underlying t = some e) ∧ (isAggB P t = false → ∃ k, sh = [k] ∧ LeafT P t k)) :
    ∀ (fs : List Field) (at_ : Nat) (sh : List LeafK) (r : Bool), shapeFs P rec fs at_ = some sh → sEqCells sh (xs.drop at_) (ys.drop at_) = some r →
      (Op.eqFields (d + 1) as bs fs).run P w = .ok r w
  | [], at_, sh, r, h, he => by
    simp [shapeFs] at h; subst h
    simp [sEqCells] at he; subst he
    simp [Op.eqFields]
  | f :: fs, at_, sh, r, h, he => by
    simp only [shapeFs] at h
    cases hs : rec f.type with
    | none => rw [hs] at h; cases h
    | some s1 =>
      rw [hs] at h
      simp only at h
      split at h
      · rename_i hc
        obtain ⟨hn, ho, hsz⟩ := hc
        cases h2 : shapeFs P rec fs (at_ + s1.length) with
        | none => rw [h2] at h; cases h
        | some s2 =>
          rw [h2] at h
          simp at h; subst h
          obtain ⟨⟨i, e, hi, hu⟩, hone⟩ := hinf _ _ hs
          have hsize : i.size = s1.length := by rw [← cellsOf_eq hi]; exact hsz
          have key : ∃ a b : Value, (part f.type as f.offset).run P w = .ok a w ∧ (part f.type bs f.offset).run P w = .ok b w ∧
              ∀ c, sEqCells s1 ((xs.drop at_).take s1.length) ((ys.drop at_).take s1.length) = some c → (Op.equalIn (d + 1) f.type a b).run P w = .ok c w := by
            cases hb : isAggB P f.type with
            | true =>
              refine ⟨.agg (as.extract f.offset (f.offset + i.size)), .agg (bs.extract f.offset (f.offset + i.size)), run_part hu hi as _ w (by rw [hb]; simp), run_part hu hi bs _ w (by rw [hb]; simp), fun c hc => ?_⟩
              refine hagg f.type s1 _ _ _ _ c hs hb ?_ ?_ hc
              · simp only [VR]; refine ⟨_, rfl, ?_⟩; rw [extract_toList, ho, hsize]; exact VRs_take _ (VRs_drop _ hx)
              · simp only [VR]; refine ⟨_, rfl, ?_⟩; rw [extract_toList, ho, hsize]; exact VRs_take _ (VRs_drop _ hy)
            | false =>
              obtain ⟨k, hk, hl⟩ := hone hb
              subst hk
              have hcl : at_ < xs.length ∧ at_ < ys.length := by
                rcases sEqCells_split 1 [k] s2 (xs.drop at_) (ys.drop at_) r rfl he with ⟨h3, _⟩ | ⟨h3, h4, h5, _⟩
                · cases hx1 : xs.drop at_ with
                  | nil => rw [hx1] at h3; simp [sEqCells] at h3
                  | cons x1 x2 =>
                    cases hy1 : ys.drop at_ with
                    | nil => rw [hx1, hy1] at h3; simp [sEqCells] at h3
                    | cons y1 y2 =>
                      have e1 := congrArg List.length hx1
                      have e2 := congrArg List.length hy1
                      simp at e1 e2
                      omega
                · simp at h4 h5; omega
              obtain ⟨a, ha, hra⟩ := VRs_get hx (i := at_) (x := xs[at_]'hcl.1) (by simp [hcl.1])
              obtain ⟨b, hb', hrb⟩ := VRs_get hy (i := at_) (x := ys[at_]'hcl.2) (by simp [hcl.2])
              refine ⟨a, b, run_part hu hi as _ w (by rw [hb, ho]; simpa using ha), run_part hu hi bs _ w (by rw [hb, ho]; simpa using hb'), fun c hc => ?_⟩
              have e1 : (xs.drop at_).take 1 = [xs[at_]'hcl.1] := by rw [List.drop_eq_getElem_cons hcl.1]; rfl
              have e2 : (ys.drop at_).take 1 = [ys[at_]'hcl.2] := by rw [List.drop_eq_getElem_cons hcl.2]; rfl
              simp only [List.length_singleton] at hc
              rw [e1, e2] at hc
              simp only [sEqCells] at hc
              cases hl2 : sLeaf k (xs[at_]'hcl.1) (ys[at_]'hcl.2) with
              | none => rw [hl2] at hc; cases hc
              | some c' =>
                rw [hl2] at hc
                have : c' = c := by cases c' <;> simpa using hc
                subst this
                exact sLeaf_run d hra hrb hl hl2
          obtain ⟨a, b, hpa, hpb, hq⟩ := key
          have hn' : f.name ≠ "_" := hn
          simp only [Op.eqFields, if_pos hn', Sem.run_bind, hpa, hpb, Result.andThen_ok]
          rcases sEqCells_split s1.length s1 s2 (xs.drop at_) (ys.drop at_) r rfl he with ⟨h3, rfl⟩ | ⟨h3, h4, h5, h6⟩
          · rw [hq false h3]; simp
          · rw [hq true h3]
            simp only [Result.andThen_ok, Bool.not_true, Bool.false_eq_true, if_false]
            refine shapeFs_run d rec hx hy hagg hinf fs (at_ + s1.length) s2 r h2 ?_
            rwa [List.drop_drop, List.drop_drop] at h6
      · cases h

theorem shapeT_inf (d : Nat) (t : TypeId) (sh : List LeafK) (h : shapeT P d t = some sh) : (∃ i e, P.info? t = some i ∧ P.underlying t = some e) ∧ (isAggB P t = false → ∃ k, sh = [k] ∧ LeafT P t k) := by
  cases d with
  | zero => simp [shapeT] at h
  | succ d =>
    simp only [shapeT] at h
    cases hu : P.underlying t with
    | none => rw [hu] at h; cases h
    | some e =>
      obtain ⟨i, hi⟩ := info_of_underlying hu
      refine ⟨⟨i, e, hi, rfl⟩, fun hb => ?_⟩
      rw [hu] at h
      unfold isAggB at hb
      rw [hu] at hb
      cases e <;> simp at h hb
      · exact ⟨.b, h.symm, hu⟩
      · exact ⟨.i, h.symm, _, hu⟩
      · exact ⟨.s, h.symm, hu⟩

theorem shapeT_run (k : Nat) {ρ : Ren} {w : World} : ∀ (d : Nat) (t : TypeId) (sh : List LeafK) (l m : List SV) (a b : Value) (r : Bool), shapeT P d t = some sh → isAggB P t = true →
    VR ρ (.agg l) a → VR ρ (.agg m) b → sEqCells sh l m = some r → (Op.equalIn (d + k) t a b).run P w = .ok r w
  | 0, t, sh, l, m, a, b, r, h, _, _, _, _ => by simp [shapeT] at h
  | d + 1, t, sh, l, m, a, b, r, h, hagg, ha, hb, he => by
    simp only [shapeT] at h
    cases hu : P.underlying t with
    | none => rw [hu] at h; cases h
    | some e =>
      rw [hu] at h
      unfold isAggB at hagg
      rw [hu] at hagg
      cases e <;> simp at h hagg
      rename_i fs
      obtain ⟨hst, hsh⟩ := h
      simp only [VR] at ha hb
      obtain ⟨as, rfl, hx⟩ := ha
      obtain ⟨bs, rfl, hy⟩ := hb
      have hf : P.fieldsOf t = fs := by simp [Program.fieldsOf, hu]
      rw [show d + 1 + k = (d + k) + 1 by omega, run_equalIn_agg w (d + k) t as bs (by rw [hf]; exact hu) hst, hf]
      cases d with
      | zero =>
        -- no field has a shape at depth 0
        cases hfs : fs.toList with
        | nil => rw [hfs] at hsh; simp [shapeFs] at hsh; subst hsh; simp [sEqCells] at he; subst he; simp [Op.eqFields]
        | cons f fs' => rw [hfs] at hsh; simp [shapeFs, shapeT] at hsh
      | succ d =>
        rw [show d + 1 + k = (d + k) + 1 by omega]
        refine shapeFs_run (d + k) (shapeT P (d + 1)) hx hy (fun t' sh' l' m' a' b' r' h1 h2 h3 h4 h5 => ?_) (fun t' sh' h1 => shapeT_inf _ _ _ h1) fs.toList 0 sh r hsh (by simpa using he)
        have := shapeT_run k (w := w) (d + 1) t' sh' l' m' a' b' r' h1 h2 h3 h4 h5
        rwa [show d + 1 + k = (d + k) + 1 by omega] at this
end Go.Sim
