/- Contracts: what a terminal shows. -/
import Derived.Test.YtjoffbhfcajcgaaDoorTerm2
set_option maxRecDepth 100000
set_option linter.unusedVariables false
set_option linter.unusedSimpArgs false
namespace Go.Proofs.YtjoffbhfcajcgaaDoor.Code
open Go Go.Sim
/- the cells of rows -/
noncomputable def rowsOf (H : SHeap) : List SV → Option (List SV)
  | [] => some []
  | r :: rs => match sElems 7 H r with
    | some l => match rowsOf H rs with
      | some m => some (l ++ m)
      | none => none
    | none => none
theorem rowsOf_old {H H' : SHeap} : ∀ {rs : List SV} {m : List SV}, rowsOf H rs = some m → (∀ s ∈ rs, ∀ j o, H.get j = some o → SV.at? s j → H'.get j = some o) → rowsOf H' rs = some m
  | [], m, h, ho => h
  | r :: rs, m, h, ho => by
    unfold rowsOf at h ⊢
    cases hl : sElems 7 H r with
    | none => rw [hl] at h; cases h
    | some l =>
      rw [hl] at h
      rw [sElems_old hl (ho r (by simp))]
      simp only at h ⊢
      cases hm : rowsOf H rs with
      | none => rw [hm] at h; cases h
      | some k =>
        rw [hm] at h
        rw [rowsOf_old hm fun s hs => ho s (by simp [hs])]
        exact h
theorem rowsOf_drop {H : SHeap} : ∀ {rs : List SV} {m : List SV} (i : Nat) {r : SV}, rowsOf H (rs.drop i) = some m → rs[i]? = some r → ∃ l k, sElems 7 H r = some l ∧ rowsOf H (rs.drop (i + 1)) = some k ∧ m = l ++ k := by
  intro rs m i r h hr
  have hlt := (List.getElem?_eq_some_iff.1 hr).1
  rw [List.drop_eq_getElem_cons hlt] at h
  have : rs[i] = r := (List.getElem?_eq_some_iff.1 hr).2
  rw [this] at h
  unfold rowsOf at h
  cases hl : sElems 7 H r with
  | none => rw [hl] at h; cases h
  | some l =>
    rw [hl] at h
    simp only at h
    cases hm : rowsOf H (rs.drop (i + 1)) with
    | none => rw [hm] at h; cases h
    | some k => rw [hm] at h; cases h; exact ⟨l, k, rfl, rfl, rfl⟩
theorem add_null (i : Nat) : 0 + i = i := Nat.zero_add i
/- the loop of Matrix: rows from i on are put behind -/
theorem matrix_loop {K : Caller} {n : Nat} {x0 : SV} {t2 mb br qr len cap : Nat} {W Hh : SV} {rl : List SV} {ro : Bool} {elr : Nat} {Q : SV → SHeap → Prop} {f1 f2 f3 : SV} (hflat : isFlat W = true) (hl : len ≤ 100000) :
    ∀ (d m i : Nat) (acc rest : List SV) (s : SV) (H : SHeap), i + d = len → d < m → H.get br = some (.cells ro 1 elr rl) → qr + len ≤ rl.length → H.get mb = some (.cells false 6 29 [.agg [W, Hh, s, f1, f2, f3]]) → isFlat s = true →
      rowsOf H ((rl.drop (qr + i)).take d) = some rest → OpenL H s 7 39 acc → (acc.length + rest.length) ≤ 10000000 → br ≠ mb → ¬ SV.at? s br → ¬ SV.at? s mb → (∀ r ∈ rl, ¬ SV.at? r mb) → (∀ r ∈ rl, ∀ j, SV.at? r j → j < H.next ∧ ¬ SV.at? s j) →
      (∀ s' H', H.next ≤ H'.next → OpenL H' s' 7 39 (acc ++ rest) → isFlat s' = true → H'.get mb = some (.cells false 6 29 [.agg [W, Hh, s', f1, f2, f3]]) → (∀ j o, H.get j = some o → j ≠ mb → ¬ SV.at? s j → H'.get j = some o) → ¬ SV.at? s' mb → (∀ j, SV.at? s' j → SV.at? s j ∨ H.next ≤ j) → Ok (g10_2 K n x0 (.ptr t2 0 0) (.ptr mb 0 0) H') Q) →
      Ok (g10_13 K n m x0 (.ptr t2 0 0) (.ptr mb 0 0) (.slice br qr len cap) (.int .i64 len) (.int .i64 i) H) Q
  | 0, m + 1, i, acc, rest, s, H, hi, hm, hbr, hq, hmb, hfs, hrest, hs, hbig, hne, hns, hnm, hrm, hrows, hk => by
    show Ok (g10_7 K n (g10_13 K n m) _ _ _ _ _ _ H) _
    unfold g10_7
    refine ok_lss ?_
    refine ok_else (by omega) ?_
    simp only [List.take_zero, rowsOf, Option.some.injEq] at hrest
    subst hrest
    refine hk s H (Nat.le_refl _) (by rw [List.append_nil]; exact hs) hfs hmb (fun j o hj _ _ => hj) hnm (fun j hj => .inl hj)
  | d + 1, m + 1, i, acc, rest, s, H, hi, hm, hbr, hq, hmb, hfs, hrest, hs, hbig, hne, hns, hnm, hrm, hrows, hk => by
    show Ok (g10_7 K n (g10_13 K n m) _ _ _ _ _ _ H) _
    unfold g10_7
    refine ok_lss ?_
    refine ok_then (by omega) ?_
    unfold g10_8
    have hr : rl[qr + i]? = some rl[qr + i] := List.getElem?_eq_getElem (by omega)
    have hrmem : rl[qr + i] ∈ rl := List.getElem_mem _
    have e1 : (rl.drop (qr + i)).take (d + 1) = rl[qr + i] :: (rl.drop (qr + (i + 1))).take d := by
      rw [List.drop_eq_getElem_cons (by omega), List.take_succ_cons]; rfl
    rw [e1] at hrest
    unfold rowsOf at hrest
    cases hl1 : sElems 7 H rl[qr + i] with
    | none => rw [hl1] at hrest; cases hrest
    | some l =>
      rw [hl1] at hrest
      simp only at hrest
      cases hk1 : rowsOf H ((rl.drop (qr + (i + 1))).take d) with
      | none => rw [hk1] at hrest; cases hrest
      | some k1 =>
        rw [hk1] at hrest
        cases hrest
        rw [List.length_append] at hbig
        have hrfl : (rl[qr + i]).cells = [rl[qr + i]] := by
          revert hl1
          cases rl[qr + i] <;> intro h <;> first | rfl | (cases h; done)
        refine ok_idxL hbr i rfl (by omega) ?_
        refine ok_load_sc (v := rl[qr + i]) (c := rl[qr + i]) hbr rfl hr (by rw [hrfl]; rfl) ?_
        refine ok_fieldAddr ?_
        refine ok_load_sc hmb rfl rfl rfl ?_
        refine ok_append (by omega) hs hl1 (by omega) fun s' H1 ho1 ha1 => ?_
        have hfs' : isFlat s' = true := by rcases ho1 with ⟨rfl, _⟩ | ⟨b, rfl, _, _⟩ <;> rfl
        have hmb1 := ha1.old mb _ hmb hnm
        have hbr1 := ha1.old br _ hbr hns
        refine ok_fieldAddr ?_
        refine ok_store_sc hmb1 rfl hfs' (by omega) rfl (by simp) fun H2 u2 => ?_
        unfold g10_9
        refine ok_inc (by omega) ?_
        have hns' : ∀ j, SV.at? s' j → SV.at? s j ∨ H.next ≤ j := by
          rcases ha1.new with ⟨rfl, _⟩ | ⟨n1, c1, rfl, _⟩
          · exact fun j h => .inl h
          · rintro j ⟨q, l, c, e⟩; cases e; exact .inr (Nat.le_refl _)
        have hmlt := SHeap.lt_of_get hmb
        have hblt := SHeap.lt_of_get hbr
        have hn1 : H.next ≤ H1.next := ha1.next
        have hold : ∀ j o, H.get j = some o → j ≠ mb → ¬ SV.at? s j → H2.get j = some o := fun j o hj h1 h2 => u2.old (ha1.old j o hj h2) h1
        have hnm' : ¬ SV.at? s' mb := fun h => by rcases hns' _ h with h | h; exact hnm h; omega
        refine matrix_loop hflat hl d m (i + 1) (acc ++ l) k1 s' H2 (by omega) (by omega) (u2.old hbr1 hne) hq u2.at hfs' ?_ ?_ (by rw [List.length_append]; omega) hne ?_ hnm' hrm ?_ ?_
        · refine rowsOf_old hk1 fun r hr j o hj hrj => ?_
          have hrm' : r ∈ rl := List.mem_of_mem_drop (List.mem_of_mem_take hr)
          exact hold j o hj (fun e => hrm r hrm' (e ▸ hrj)) (hrows r hrm' j hrj).2
        · rcases ho1 with ⟨rfl, h⟩ | ⟨b, rfl, hb, hne'⟩
          · exact .inl ⟨rfl, h⟩
          · exact .inr ⟨b, rfl, u2.old hb fun e => hnm' ⟨_, _, _, by rw [e]⟩, hne'⟩
        · intro h; rcases hns' _ h with h | h; exact hns h; omega
        · intro r hr j hj
          obtain ⟨h1, h2⟩ := hrows r hr j hj
          refine ⟨by rw [u2.next]; omega, fun h => ?_⟩
          rcases hns' _ h with h | h; exact h2 h; omega
        · intro s2 H3 a1 a2 a3 a4 a5 a6 a7
          refine hk s2 H3 (by rw [u2.next] at a1; omega) (by rw [← List.append_assoc]; exact a2) a3 a4 (fun j o hj h1 h2 => a5 j o (hold j o hj h1 h2) h1 ?_) a6 (fun j hj => ?_)
          · intro h; rcases hns' _ h with h | h
            · exact h2 h
            · have := SHeap.lt_of_get hj; omega
          · rcases a7 j hj with h | h
            · exact hns' j h
            · rw [u2.next] at h; exact .inr (by omega)
end Go.Proofs.YtjoffbhfcajcgaaDoor.Code
