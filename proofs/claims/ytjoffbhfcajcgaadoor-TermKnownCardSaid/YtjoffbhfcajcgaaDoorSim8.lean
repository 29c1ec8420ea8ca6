/- Addresses, slices, lengths. -/
import Derived.Test.YtjoffbhfcajcgaaDoorSim7
set_option linter.unusedVariables false
set_option linter.unusedSimpArgs false
namespace Go.Sim
open Go.RowKit
variable {P : Program} {G : Nat} {ρ : Ren} {H : SHeap} {w w' : World}

theorem fieldAddr_ok {t : TypeId} {fs : Array Field} {f : Field} {n : Nat} {j : TypeInfo} (hut : P.underlying t = some (.struct fs)) (hf : fs[n]? = some f) (hj : P.info? f.type = some j) (hpos : 0 < j.size)
    {x r : SV} {v : Value} (hx : VR ρ x v) {H' : SHeap} (h : xFieldAddr f.offset x H = some (r, H')) : H' = H ∧ Gives P ρ w (Instr.fieldAt t v n) r := by
  cases x <;> simp only [xFieldAddr] at h <;> (try cases h)
  refine ⟨rfl, ?_⟩
  simp only [VR] at hx
  obtain ⟨m, hm, rfl⟩ := hx
  refine .of (v := .pointer (some ⟨m.blk, m.d + _ * m.esz + _ + f.offset, none⟩)) ?_ (by simp only [VR]; exact ⟨m, hm, by rw [Nat.add_assoc]⟩)
  have hne : ¬ j.size = 0 := by omega
  simp only [Instr.fieldAt, Sem.run_bind, run_underlying hut, Result.andThen_ok, hf, Instr.sureAddr, Sem.run_pure, fieldPlace, run_sizeOf_eq hj]
  simp only [hne, if_false, Sem.run_pure, Result.andThen_ok, addr_add]

theorem hasEsz_ok (hr : Rel G ρ H w) {b esz : Nat} (h : hasEsz H b esz = true) : ∃ m, ρ b = some m ∧ m.esz = esz := by
  unfold hasEsz at h
  cases hg : H.get b with
  | none => rw [hg] at h; cases h
  | some o =>
    rw [hg] at h
    cases o with
    | dead => cases h
    | map _ _ => cases h
    | iter _ _ => cases h
    | cells ro e el l =>
      simp only [beq_iff, decide_eq_true_eq] at h
      obtain ⟨h0, hev, m, c, e', fr, hm, hme, _⟩ := hr.obj b _ hg
      exact ⟨m, hm, by rw [hme, h]⟩

theorem idxAddrL_ok {t e : TypeId} {i : TypeInfo} (hut : P.underlying t = some (.slice e)) (hi : P.info? e = some i) (hr : Rel G ρ H w) {x ix r : SV} {v u : Value} (hx : VR ρ x v) (hix : VR ρ ix u) {H' : SHeap}
    (h : xIdxAddrL i.size x ix H = some (r, H')) : H' = H ∧ Gives P ρ w (Instr.indexAt t v u) r := by
  cases x <;> simp only [xIdxAddrL] at h <;> (try cases h)
  rename_i b q len cap
  cases hk : sNat ix with
  | none => rw [hk] at h; cases h
  | some k =>
    rw [hk] at h
    simp only [ble_iff] at h
    by_cases hlt : k + 1 ≤ len
    · cases he : hasEsz H b i.size with
      | false => rw [he] at h; simp at h
      | true =>
        simp only [hlt, decide_true, he, Bool.and_self, cond_true, Option.some.injEq, Prod.mk.injEq] at h
        obtain ⟨rfl, rfl⟩ := h
        refine ⟨rfl, ?_⟩
        obtain ⟨m', hm', hme⟩ := hasEsz_ok hr he
        simp only [VR] at hx
        obtain ⟨m, a, c, hm, rfl, hcap, hlen, hex⟩ := hx
        rw [hm] at hm'; cases hm'
        obtain ⟨ha, _⟩ := hex (by omega)
        subst ha
        obtain ⟨j, rfl⟩ := sNat_ok hix hk
        have hc : (0 : Int) ≤ (k : Int) ∧ (k : Int) < (len : Int) := by omega
        refine .of (v := .pointer (some ⟨m'.blk, m'.d + q * m'.esz + k * i.size, none⟩)) ?_ (by simp only [VR]; exact ⟨m', hm, by rw [hme, Nat.add_mul]; congr 3; omega⟩)
        simp only [Instr.indexAt, asIntOf, Sem.run_bind, Sem.run_pure, Result.andThen_ok, run_underlying hut]
        rw [if_pos hc]
        simp only [Sem.run_bind, run_sizeOf_eq hi, Result.andThen_ok, Sem.run_pure, addr_add, Int.toNat_natCast]
    · simp [hlt] at h
theorem idxAddrA_ok {t e : TypeId} {n : Nat} {i : TypeInfo} (hut : P.underlying t = some (.array n e)) (hi : P.info? e = some i) (hr : Rel G ρ H w) {x ix r : SV} {v u : Value} (hx : VR ρ x v) (hix : VR ρ ix u) {H' : SHeap}
    (h : xIdxAddrA n i.size x ix H = some (r, H')) : H' = H ∧ Gives P ρ w (Instr.indexAt t v u) r := by
  cases x <;> simp only [xIdxAddrA] at h <;> (try cases h)
  rename_i b q r0
  cases hk : sNat ix with
  | none => rw [hk] at h; cases h
  | some k =>
    rw [hk] at h
    simp only [ble_iff] at h
    by_cases hlt : k + 1 ≤ n
    · simp only [hlt, decide_true, cond_true, Option.some.injEq, Prod.mk.injEq] at h
      obtain ⟨h1, rfl⟩ := h
      refine ⟨rfl, ?_⟩
      simp only [VR] at hx
      obtain ⟨m, hm, rfl⟩ := hx
      obtain ⟨j, rfl⟩ := sNat_ok hix hk
      have hc : (0 : Int) ≤ (k : Int) ∧ (k : Int) < (n : Int) := by omega
      refine .of (v := .pointer (some ⟨m.blk, m.d + q * m.esz + r0 + k * i.size, none⟩)) ?_ ?_
      · simp only [Instr.indexAt, asIntOf, Sem.run_bind, Sem.run_pure, Result.andThen_ok, run_underlying hut, Instr.sureAddr]
        rw [if_pos hc]
        simp only [Sem.run_bind, run_sizeOf_eq hi, Result.andThen_ok, Sem.run_pure, addr_add, Int.toNat_natCast]
      · rw [beq_iff] at h1
        by_cases h0 : r0 = 0
        · cases he : hasEsz H b i.size with
          | true =>
            obtain ⟨m', hm', hme⟩ := hasEsz_ok hr he
            rw [hm] at hm'; cases hm'
            simp only [h0, decide_true, he, Bool.and_self, cond_true] at h1
            subst h1
            simp only [VR]
            exact ⟨m, hm, by rw [hme, Nat.add_mul, h0]; congr 3; omega⟩
          | false =>
            simp only [he, Bool.and_false, cond_false] at h1
            subst h1
            simp only [VR]
            exact ⟨m, hm, by rw [Nat.add_assoc (m.d + q * m.esz)]⟩
        · simp only [h0, decide_false, Bool.false_and, cond_false] at h1
          subst h1
          simp only [VR]
          exact ⟨m, hm, by rw [Nat.add_assoc (m.d + q * m.esz)]⟩
    · simp [hlt] at h

/- ---------- slicing ---------- -/
theorem run_bound {x : SV} {v : Value} (hx : VR ρ x v) {n y : Nat} (h : sNat x = some n) (hle : n ≤ y) (code : BoundsCode) : (Instr.sliceBound v y code).run P w = .ok n w := by
  obtain ⟨k, rfl⟩ := sNat_ok hx h
  have hc : (0 : Int) ≤ (n : Int) ∧ (n : Int) ≤ (y : Int) := by omega
  simp only [Instr.sliceBound, asIntOf, Sem.run_bind, Sem.run_pure, Result.andThen_ok]
  rw [if_pos hc, Sem.run_pure, Int.toNat_natCast]

/- operands that may be left out -/
def VRo (ρ : Ren) : Option SV → Option Value → Prop
  | none, none => True
  | some x, some v => VR ρ x v
  | _, _ => False

theorem run_bounds {lo hi : Option SV} {vlo vhi : Option Value} (hlo : VRo ρ lo vlo) (hhi : VRo ρ hi vhi) {l h len cap : Nat} (h1 : sBound hi len = some h) (h2 : sBound lo 0 = some l) (hlh : l ≤ h) (hc : h ≤ cap) (isS : Bool) :
    (Instr.sliceBounds isS len cap vlo vhi none).run P w = .ok (l, h, cap) w := by
  unfold Instr.sliceBounds
  simp only [Sem.run_bind, Sem.run_pure, Result.andThen_ok]
  cases hi with
  | none => cases vhi with
    | some v => cases hhi
    | none =>
      simp [sBound] at h1; subst h1
      cases lo with
      | none => cases vlo with
        | none => simp [sBound] at h2; subst h2; rfl
        | some v => cases hlo
      | some x => cases vlo with
        | none => cases hlo
        | some v => simp only [Sem.run_bind, Sem.run_pure, Result.andThen_ok, run_bound hlo h2 hlh]
  | some x => cases vhi with
    | none => cases hhi
    | some v =>
      simp only [Sem.run_bind, run_bound hhi h1 hc, Result.andThen_ok]
      cases lo with
      | none => cases vlo with
        | none => simp [sBound] at h2; subst h2; rfl
        | some v => cases hlo
      | some x => cases vlo with
        | none => cases hlo
        | some v => simp only [Sem.run_bind, Sem.run_pure, Result.andThen_ok, run_bound hlo h2 hlh]
theorem run_bounds3 {lo hi : Option SV} {vlo vhi : Option Value} {mx : SV} {vmx : Value} (hlo : VRo ρ lo vlo) (hhi : VRo ρ hi vhi) (hsome : hi.isSome = true) (hmx : VR ρ mx vmx) {l h m len cap : Nat} (h0 : sNat mx = some m) (h1 : sBound hi len = some h) (h2 : sBound lo 0 = some l) (hlh : l ≤ h) (hhm : h ≤ m) (hc : m ≤ cap) (isS : Bool) :
    (Instr.sliceBounds isS len cap vlo vhi (some vmx)).run P w = .ok (l, h, m) w := by
  unfold Instr.sliceBounds
  simp only [Sem.run_bind, Sem.run_pure, Result.andThen_ok]
  rw [run_bound hmx h0 hc]
  simp only [Result.andThen_ok]
  cases hi with
  | none => cases hsome
  | some x => cases vhi with
    | none => cases hhi
    | some v =>
      simp only [Sem.run_bind, run_bound hhi h1 hhm, Result.andThen_ok]
      cases lo with
      | none => cases vlo with
        | none => simp [sBound] at h2; subst h2; rfl
        | some v => cases hlo
      | some x => cases vlo with
        | none => cases hlo
        | some v => simp only [Sem.run_bind, Sem.run_pure, Result.andThen_ok, run_bound hlo h2 hlh]
theorem bounds2_inv {lo hi : Option SV} {d : Nat} {f : Nat → Nat → Option SV} {r : SV} (h : bounds2 lo hi d f = some r) : ∃ l k, sBound hi d = some k ∧ sBound lo 0 = some l ∧ f l k = some r := by
  unfold bounds2 at h
  cases h1 : sBound hi d with
  | none => rw [h1] at h; cases h
  | some k =>
    cases h2 : sBound lo 0 with
    | none => rw [h1, h2] at h; cases h
    | some l => rw [h1, h2] at h; exact ⟨l, k, rfl, rfl, h⟩

theorem slL_ok {t e : TypeId} {i : TypeInfo} (hut : P.underlying t = some (.slice e)) (hi : P.info? e = some i) (hr : Rel G ρ H w) {x r : SV} {v : Value} (hx : VR ρ x v) {lo hi' mx : Option SV} {vlo vhi vmx : Option Value} (hlo : VRo ρ lo vlo) (hhi : VRo ρ hi' vhi) (hmx : VRo ρ mx vmx)
    (hsome : mx.isSome = true → hi'.isSome = true) (h : sSliceL i.size H x lo hi' mx = some r) : Gives P ρ w (Instr.sliceAt t v vlo vhi vmx) r := by
  have hto : Instr.sliceAt t v vlo vhi vmx = (do match ← underlying t with
    | .array n elem => (do
      let a ← Instr.sureAddr v
      let (l, h, m) ← Instr.sliceBounds false n n vlo vhi vmx
      let size ← sizeOf elem
      pure (.slice (some (if m = l then a else a.add (l * size))) (h - l) (m - l)))
    | _ => Instr.slice t v vlo vhi vmx : Sem Value) := rfl
  unfold Gives
  rw [hto, Sem.run_bind, run_underlying hut]
  simp only [Result.andThen_ok]
  cases x <;> simp only [sSliceL] at h <;> (try cases h)
  case nils =>
    cases hm0 : sBound mx 0 with
    | none => rw [hm0] at h; cases h
    | some m =>
      rw [hm0] at h
      simp only [Option.bind_some] at h
      obtain ⟨l, k, h1, h2, h3⟩ := bounds2_inv h
      unfold cutNil at h3
      simp only [beq_iff] at h3
      by_cases hz : l = 0 ∧ k = 0 ∧ m = 0
      · obtain ⟨rfl, rfl, rfl⟩ := hz
        simp at h3; subst h3
        simp only [VR] at hx
        subst hx
        have hb : (Instr.sliceBounds true 0 0 vlo vhi vmx).run P w = .ok (0, 0, 0) w := by
          cases mx with
          | none => cases vmx with
            | none => exact run_bounds hlo hhi h1 h2 (Nat.le_refl _) (Nat.le_refl _) true
            | some _ => cases hmx
          | some mx => cases vmx with
            | none => cases hmx
            | some vm => exact run_bounds3 hlo hhi (hsome rfl) hmx hm0 h1 h2 (Nat.le_refl _) (Nat.le_refl _) (Nat.le_refl _) true
        refine ⟨.slice none 0 0, ?_, by simp only [VR]⟩
        simp only [Instr.slice, Sem.run_bind, run_underlying hut, Result.andThen_ok, hb, run_sizeOf_eq hi]
        rfl
      · have : (decide (l = 0) && decide (k = 0) && decide (m = 0)) = false := by
          rw [Bool.eq_false_iff]; intro hh; simp at hh; exact hz ⟨hh.1.1, hh.1.2, hh.2⟩
        rw [this] at h3; cases h3
  case slice b q len cap =>
    cases he : hasEsz H b i.size with
    | false => rw [he] at h; cases h
    | true =>
      rw [he] at h
      simp only [cond_true] at h
      obtain ⟨m', hm', hme⟩ := hasEsz_ok hr he
      simp only [VR] at hx
      obtain ⟨m, a, c, hm, rfl, hcap, hlen, hex⟩ := hx
      rw [hm] at hm'; cases hm'
      obtain ⟨hcap1, hcap2⟩ := hcap
      have fin : ∀ (l k mm cap' : Nat), (Instr.sliceBounds true len c vlo vhi vmx).run P w = .ok (l, k, mm) w → l ≤ k → k ≤ mm → mm ≤ c → capOk cap' (mm - l) →
          ∃ u, (Instr.slice t (.slice (some a) len c) vlo vhi vmx).run P w = .ok u w ∧ VR ρ (.slice b (q + l) (k - l) cap') u := by
        intro l k mm cap' hb hlk hkm hmc hco
        refine ⟨.slice (if mm = l then some a else (some a).map (·.add (l * i.size))) (k - l) (mm - l), ?_, ?_⟩
        · simp only [Instr.slice, Sem.run_bind, run_underlying hut, Result.andThen_ok, hb, run_sizeOf_eq hi]
          rfl
        · simp only [VR]
          by_cases hml : mm = l
          · rw [if_pos hml]
            exact ⟨m', a, mm - l, hm, rfl, hco, by omega, fun hne => absurd (by omega) hne⟩
          · rw [if_neg hml]
            obtain ⟨ha, hbd⟩ := hex (by omega)
            subst ha
            refine ⟨m', ⟨m'.blk, m'.d + (q + l) * m'.esz, none⟩, mm - l, hm, ?_, hco, by omega, fun _ => ⟨rfl, ?_⟩⟩
            · simp only [Option.map_some, addr_add]
              rw [hme, Nat.add_mul, Nat.add_assoc]
            · have e1 : (q + l) * m'.esz + (mm - l) * m'.esz = (q + mm) * m'.esz := by rw [← Nat.add_mul]; congr 1; omega
              have e2 : (q + mm) * m'.esz ≤ (q + c) * m'.esz := Nat.mul_le_mul_right _ (by omega)
              have e3 : (q + c) * m'.esz = q * m'.esz + c * m'.esz := Nat.add_mul _ _ _
              omega
      cases mx with
      | none =>
        cases vmx with
        | some _ => cases hmx
        | none =>
          simp only at h
          obtain ⟨l, k, h1, h2, h3⟩ := bounds2_inv h
          unfold cutTo at h3
          simp only [ble_iff] at h3
          by_cases hz : l ≤ k ∧ k ≤ cap / 2
          · obtain ⟨z1, z2⟩ := hz
            simp [z1, z2] at h3; subst h3
            refine fin l k c (cap - 2 * l) (run_bounds hlo hhi h1 h2 z1 (by omega) true) z1 (by omega) (Nat.le_refl _) ⟨by omega, fun hpar => ?_⟩
            have := hcap2 (by omega)
            omega
          · have : (decide (l ≤ k) && decide (k ≤ cap / 2)) = false := by
              rw [Bool.eq_false_iff]; intro hh; simp at hh; exact hz ⟨hh.1, hh.2⟩
            rw [this] at h3; cases h3
      | some mx =>
        cases vmx with
        | none => cases hmx
        | some vm =>
          cases hi' with
          | none => cases h
          | some hx' =>
            simp only at h
            cases hm0 : sBound (some mx) 0 with
            | none => rw [hm0] at h; cases h
            | some mm =>
              rw [hm0] at h
              simp only [Option.bind_some] at h
              obtain ⟨l, k, h1, h2, h3⟩ := bounds2_inv h
              unfold cutMax at h3
              simp only [ble_iff] at h3
              by_cases hz : l ≤ k ∧ k ≤ mm ∧ mm ≤ cap / 2
              · obtain ⟨z1, z2, z3⟩ := hz
                simp [z1, z2, z3] at h3; subst h3
                exact fin l k mm (2 * (mm - l)) (run_bounds3 hlo hhi rfl hmx hm0 h1 h2 z1 z2 (by omega) true) z1 z2 (by omega) ⟨by omega, fun _ => by omega⟩
              · have : (decide (l ≤ k) && decide (k ≤ mm) && decide (mm ≤ cap / 2)) = false := by
                  rw [Bool.eq_false_iff]; intro hh; simp at hh; exact hz ⟨hh.1.1, hh.1.2, hh.2⟩
                rw [this] at h3; cases h3

theorem slA_ok {t e : TypeId} {n : Nat} {i : TypeInfo} (hut : P.underlying t = some (.array n e)) (hi : P.info? e = some i) (hr : Rel G ρ H w) {x r : SV} {v : Value} (hx : VR ρ x v) {lo hi' mx : Option SV} {vlo vhi vmx : Option Value} (hlo : VRo ρ lo vlo) (hhi : VRo ρ hi' vhi) (hmx : VRo ρ mx vmx)
    (h : sSliceA n i.size H x lo hi' mx = some r) : Gives P ρ w (Instr.sliceAt t v vlo vhi vmx) r := by
  cases x <;> simp only [sSliceA] at h <;> (try cases h)
  rename_i b q r0
  cases r0 with
  | succ r0 => cases h
  | zero =>
    simp only [cellsAt] at h
    cases hg : H.get b with
    | none => rw [hg] at h; cases h
    | some o =>
      rw [hg] at h
      cases o with
      | dead => cases h
      | map _ _ => cases h
      | iter _ _ => cases h
      | cells ro es el l' =>
        simp only [beq_iff, ble_iff] at h
        by_cases hc : es = i.size ∧ q + n ≤ l'.length
        · obtain ⟨c1, c2⟩ := hc
          simp only [c1, c2, decide_true, Bool.and_self, cond_true] at h
          cases mx with
          | some _ => cases h
          | none =>
            cases vmx with
            | some _ => cases hmx
            | none =>
              obtain ⟨l, k, h1, h2, h3⟩ := bounds2_inv h
              unfold cutArr at h3
              simp only [ble_iff] at h3
              by_cases hz : l ≤ k ∧ k ≤ n
              · obtain ⟨z1, z2⟩ := hz
                simp [z1, z2] at h3; subst h3
                obtain ⟨h0, hev, m, c, e', fr, hm, hme, hw, hcs, hlen, hfr, hcells⟩ := hr.obj b _ hg
                simp only [VR] at hx
                obtain ⟨m', hm', rfl⟩ := hx
                rw [hm] at hm'; cases hm'
                refine .of (v := .slice (some (if n = l then ⟨m.blk, m.d + q * m.esz + 0, none⟩ else (⟨m.blk, m.d + q * m.esz + 0, none⟩ : Addr).add (l * i.size))) (k - l) (n - l)) ?_ ?_
                · have hb := run_bounds (P := P) (w := w) hlo hhi h1 h2 z1 z2 false
                  simp only [Instr.sliceAt, Sem.run_bind, run_underlying hut, Result.andThen_ok, Instr.sureAddr, Sem.run_pure, hb, run_sizeOf_eq hi]
                · simp only [VR]
                  refine ⟨m, _, n - l, hm, rfl, ⟨by omega, fun _ => by omega⟩, by omega, fun hne => ?_⟩
                  rw [if_neg (by omega), addr_add, hme, c1]
                  refine ⟨by rw [Nat.add_mul]; congr 1; omega, ?_⟩
                  have e1 : (q + l) * i.size + (n - l) * i.size = (q + n) * i.size := by rw [← Nat.add_mul]; congr 1; omega
                  have e2 : (q + n) * i.size ≤ l'.length * i.size := Nat.mul_le_mul_right _ c2
                  rw [c1] at hlen
                  omega
              · have : (decide (l ≤ k) && decide (k ≤ n)) = false := by
                  rw [Bool.eq_false_iff]; intro hh; simp at hh; exact hz ⟨hh.1, hh.2⟩
                rw [this] at h3; cases h3
        · have : (decide (es = i.size) && decide (q + n ≤ l'.length)) = false := by
            rw [Bool.eq_false_iff]; intro hh; simp at hh; exact hc hh
          rw [this] at h; cases h
end Go.Sim
