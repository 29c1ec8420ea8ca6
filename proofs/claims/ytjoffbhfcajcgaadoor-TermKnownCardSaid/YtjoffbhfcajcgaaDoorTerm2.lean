/- Contracts: a row of blanks. -/
import Derived.Test.YtjoffbhfcajcgaaDoorTerm1
set_option maxRecDepth 100000
set_option linter.unusedVariables false
set_option linter.unusedSimpArgs false
namespace Go.Proofs.YtjoffbhfcajcgaaDoor.Code
open Go Go.Sim
noncomputable def F1 : Table := F.with 104 p104
theorem call104 (H : SHeap) {a b c d e : SV} (ha : isFlat a = true) (hb : isFlat b = true) (hc : isFlat c = true) (hd : isFlat d = true) (he : isFlat e = true) : callC F1 104 [.agg [a, b, c, d, e]] H = some (bcell a b c d e, H) := by
  refine callC_lib (p := p104) rfl ?_
  unfold p104
  simp only [ha, hb, hc, hd, he]; rfl
theorem fill_loop {n q len cap b xb el : Nat} (hlen : len ≤ 1000000) {a1 a2 a3 a4 a5 : SV} (h1 : isFlat a1 = true) (h2 : isFlat a2 = true) (h3 : isFlat a3 = true) (h4 : isFlat a4 = true) (h5 : isFlat a5 = true) (hne : xb ≠ b) :
    ∀ (d m i : Nat) (l : List SV) (H : SHeap), i + d = len → d < m → H.get b = some (.cells false 7 el l) → q + len ≤ l.length → (∀ j, q ≤ j → j < q + len → ∃ cs, l[j]? = some (.agg cs) ∧ cs.length = 7) → H.get xb = some (.cells false 5 37 [.agg [a1, a2, a3, a4, a5]]) →
    Ok (g91_8 (callC F1) n m (.slice b q len cap) (.ptr xb 0 0) (.int .i64 len) (.int .i64 i) H) fun v H' => v = .tup [] ∧ Upd H H' b (.cells false 7 el (setAt l (q + i) (List.replicate d (bcell a1 a2 a3 a4 a5))))
  | 0, m + 1, i, l, H, hi, hm, hb, hq, hall, hx => by
    show Ok (g91_2 (callC F1) n (g91_8 (callC F1) n m) _ _ _ _ H) _
    unfold g91_2
    refine ok_lss ?_
    refine ok_else (by omega) ?_
    refine ok_ret ⟨rfl, rfl, fun j => ?_⟩
    by_cases hj : j = b
    · subst hj; rw [if_pos rfl, hb]; rfl
    · rw [if_neg hj]
  | d + 1, m + 1, i, l, H, hi, hm, hb, hq, hall, hx => by
    obtain ⟨cs, hcs, hcl⟩ := hall (q + i) (by omega) (by omega)
    have hcell : [(.int .i32 (.ofNat 32)), (.int .u8 (.ofNat 0)), a1, a2, a3, a4, a5].all SV.cell = true := by
      simp only [List.all_cons, List.all_nil, flat_cell h1, flat_cell h2, flat_cell h3, flat_cell h4, flat_cell h5]; rfl
    show Ok (g91_2 (callC F1) n (g91_8 (callC F1) n m) _ _ _ _ H) _
    unfold g91_2
    refine ok_lss ?_
    refine ok_then (by omega) ?_
    refine ok_load_agg hx rfl rfl rfl rfl ?_
    refine ok_eq (call104 H h1 h2 h3 h4 h5) ?_
    refine ok_idxL hb i rfl (by omega) ?_
    refine ok_store_agg hb rfl rfl hcell hcs hcl fun H3 u3 => ?_
    refine ok_inc (by omega) ?_
    have hxs := u3.old hx hne
    have hl : (l.set (q + i) (bcell a1 a2 a3 a4 a5)).length = l.length := List.length_set
    have ih := fill_loop (n := n) (cap := cap) hlen h1 h2 h3 h4 h5 hne d m (i + 1) _ H3 (by omega) (by omega) u3.at (by rw [List.length_set]; exact hq) (fun j hj1 hj2 => by
      rw [List.getElem?_set]
      by_cases hj : q + i = j
      · subst hj
        rw [if_pos rfl, if_pos (by omega)]
        exact ⟨_, rfl, rfl⟩
      · rw [if_neg hj]; exact hall j hj1 hj2) hxs
    refine Ok.mono ih ?_
    rintro v H' ⟨rfl, u⟩
    refine ⟨rfl, by rw [u.next, u3.next], fun j => ?_⟩
    rw [u.get, u3.get]
    by_cases hj : j = b
    · subst hj; simp only [if_true]; rfl
    · simp only [hj, if_false]
theorem setAt_all (x : SV) : ∀ (n : Nat) (l : List SV) (q : Nat), q + n = l.length → setAt l q (List.replicate n x) = l.take q ++ List.replicate n x
  | 0, l, q, h => by
    rw [List.take_of_length_le (by omega)]; simp [setAt]
  | n + 1, l, q, h => by
    rw [List.replicate_succ, setAt, setAt_all x n _ (q + 1) (by rw [List.length_set]; omega)]
    have h2 : (l.set q x).take (q + 1) = l.take q ++ [x] := by
      rw [List.take_set, List.take_succ_eq_append_getElem (by omega), List.set_append, if_neg (by rw [List.length_take]; omega)]
      have : q - (l.take q).length = 0 := by rw [List.length_take]; omega
      rw [this]
      rfl
    rw [h2, List.append_assoc]
    rfl
noncomputable def p62 (xs : List SV) (H : SHeap) : Res :=
  match xs with
  | [.int .i64 w, .agg [a, b, c, d, e]] => bif isFlat a && isFlat b && isFlat c && isFlat d && isFlat e then
      (bif iLt w 1 || iLt 400 w then some (.nils, H) else some (.slice H.next 0 w.toNat (2 * w.toNat), H.alloc (.cells false 7 39 (List.replicate w.toNat (bcell a b c d e))))) else none
  | _ => none
theorem p62_inv {xs : List SV} {H H2 : SHeap} {x : SV} (h : p62 xs H = some (x, H2)) : ∃ w a b c d e, xs = [.int .i64 w, .agg [a, b, c, d, e]] ∧ isFlat a = true ∧ isFlat b = true ∧ isFlat c = true ∧ isFlat d = true ∧ isFlat e = true ∧
    ((w < 1 ∨ 400 < w) ∧ x = .nils ∧ H2 = H ∨ (1 ≤ w ∧ w ≤ 400) ∧ x = .slice H.next 0 w.toNat (2 * w.toNat) ∧ H2 = H.alloc (.cells false 7 39 (List.replicate w.toNat (bcell a b c d e)))) := by
  unfold p62 at h
  split at h
  · rename_i w a b c d e
    cases hf : (isFlat a && isFlat b && isFlat c && isFlat d && isFlat e) with
    | false => rw [hf] at h; cases h
    | true =>
      rw [hf] at h
      simp only [Bool.and_eq_true] at hf
      refine ⟨w, a, b, c, d, e, rfl, hf.1.1.1.1, hf.1.1.1.2, hf.1.1.2, hf.1.2, hf.2, ?_⟩
      rw [iLt_eq, iLt_eq] at h
      by_cases hw : w < 1 ∨ 400 < w
      · have : (decide (w < 1) || decide (400 < w)) = true := by simpa using hw
        rw [this] at h
        cases h
        exact .inl ⟨hw, rfl, rfl⟩
      · have : (decide (w < 1) || decide (400 < w)) = false := by simpa using hw
        rw [this] at h
        cases h
        exact .inr ⟨by omega, rfl, rfl⟩
  · cases h
theorem run62 (n : Nat) (H : SHeap) {w : Int} {a b c d e : SV} (ha : isFlat a = true) (hb : isFlat b = true) (hc : isFlat c = true) (hd : isFlat d = true) (he : isFlat e = true) :
    Ok (g62 (callC F1) n (.int .i64 w) (.agg [a, b, c, d, e]) H) fun v H1 => More H H1 ∧
      ((w < 1 ∨ 400 < w) ∧ v = .nils ∨ (1 ≤ w ∧ w ≤ 400) ∧ v = .slice (H.next + 1) 0 w.toNat (2 * w.toNat) ∧ H1.get (H.next + 1) = some (.cells false 7 39 (List.replicate w.toNat (bcell a b c d e)))) := by
  have hall : [a, b, c, d, e].all SV.cell = true := by
    simp only [List.all_cons, List.all_nil, flat_cell ha, flat_cell hb, flat_cell hc, flat_cell hd, flat_cell he]; rfl
  have h5 : isN 5 (.agg [a, b, c, d, e]) = true := isN_agg rfl hall
  refine ok_box h5 fun H1 n1 => ?_
  refine ok_lss ?_
  by_cases h1 : w < 1
  · have e1 : decide (w < .ofNat 1) = true := decide_eq_true (by simpa using h1)
    rw [e1]
    refine ok_guard (fun h => by cases h) fun _ => ?_
    refine ok_guard (fun h => by cases h) fun _ => ?_
    refine ok_pickT ?_
    exact ok_cond (fun _ => ok_ret ⟨n1.more, .inl ⟨.inl h1, rfl⟩⟩) fun h => by cases h
  · have e1 : decide (w < .ofNat 1) = false := decide_eq_false (by simpa using h1)
    rw [e1]
    refine ok_guard (fun _ => ?_) (fun h => absurd rfl h)
    refine ok_some ?_
    refine ok_guard (fun _ => ?_) (fun h => absurd rfl h)
    have e2 : sBin .gtr .no (.int .i64 w) (.int .i64 (.ofNat 400)) = some (.bool (decide (400 < w))) := by
      show some (SV.bool (iLt (.ofNat 400) w)) = _
      rw [iLt_eq]; rfl
    rw [e2]
    refine ok_some ?_
    refine ok_pickF ?_
    refine ok_if (fun h => ok_ret ⟨n1.more, .inl ⟨.inr h, rfl⟩⟩) fun h2 => ?_
    obtain ⟨k, rfl⟩ : ∃ k : Nat, w = k := ⟨w.toNat, by omega⟩
    have hk : k ≤ 400 := by omega
    have hmk : xMkSlice y39 zcell 28 (.int .i64 (k : Int)) (.int .i64 (k : Int)) H1 = some (.slice H1.next 0 k (2 * k), H1.alloc (.cells false 7 39 (List.replicate k zcell))) := by
      show (bif Nat.ble k k && !(great k 28 7) then _ else none) = _
      have hg : great k 28 7 = false := by unfold great; rw [ble_iff]; simp; omega
      rw [ble_iff, decide_eq_true (Nat.le_refl k), hg]; rfl
    refine ok_eq hmk ?_
    have n2 := New.of_alloc H1 (.cells false 7 39 (List.replicate k zcell))
    generalize H1.alloc (.cells false 7 39 (List.replicate k zcell)) = H2 at n2
    refine ok_load_agg (n2.old n1.at) rfl rfl rfl rfl ?_
    have h91 : Ok (callC F1 91 [.slice H1.next 0 k (2 * k), .agg [a, b, c, d, e]] H2) fun v H' => v = .tup [] ∧ More H H' ∧ H'.get H1.next = some (.cells false 7 39 (List.replicate k (bcell a b c d e))) := by
      refine callC_ok (n := 401) (fn := c91) rfl rfl ?_
      rw [e91]
      refine ok_box h5 fun H3 n3 => ?_
      have hz := n3.old n2.at
      have := fill_loop (n := 401) (q := 0) (len := k) (cap := 2 * k) (b := H1.next) (xb := H2.next) (by omega) ha hb hc hd he (by rw [n2.next]; omega) k 401 0 _ H3 (by omega) (by omega) hz (by simp) (fun j _ hj => by
        rw [List.getElem?_replicate, if_pos (by omega)]; exact ⟨_, rfl, rfl⟩) n3.at
      refine Ok.mono this ?_
      rintro v H4 ⟨rfl, u⟩
      refine ⟨rfl, ((n1.more.trans n2.more).trans n3.more).of_upd u (by rw [n1.next]; omega), ?_⟩
      rw [u.at, setAt_all _ _ _ _ (by simp)]
      rfl
    refine ok_bnd (Ok.mono h91 ?_)
    rintro v H' ⟨rfl, hm, hg⟩
    have hn1 := n1.next
    exact ok_ret ⟨hm, .inr ⟨by omega, by rw [← hn1]; rfl, by rw [← hn1]; exact hg⟩⟩
theorem clean62 : CleanOk F1 62 p62 := by
  intro xs H x2 H2 hc hx hp
  obtain ⟨w, a, b, c, d, e, rfl, ha, hb, hc', hd, he, hcase⟩ := p62_inv hp
  obtain ⟨v, H1, h1, hm, hv⟩ := run62 0 H (w := w) ha hb hc' hd he
  simp only [SV.unds, SV.und] at hx
  have hcall := callC_body (F := F1) (f := 62) (n := 0) (fn := c62) rfl rfl ((e62 (callC F1) 0 _ _ H).trans h1)
  rcases hcase with ⟨hw, rfl, rfl⟩ | ⟨hw, rfl, rfl⟩
  · rcases hv with ⟨_, rfl⟩ | ⟨hw', _⟩
    · exact ⟨_, H1, _, hcall, Gc.pure hc hm trivial⟩
    · omega
  · rcases hv with ⟨hw', _⟩ | ⟨_, rfl, hg⟩
    · omega
    · have hb' : SV.und H.next (bcell a b c d e) := by
        simp only [bcell, SV.und, SV.unds]; exact ⟨trivial, trivial, hx.2.1⟩
      have hrep : SV.unds H.next (List.replicate w.toNat (bcell a b c d e)) := (belows_iff _ _).2 fun y hy => by rw [List.eq_of_mem_replicate hy]; exact hb'
      refine ⟨_, H1, _, hcall, Gc.one hc hm (Nat.le_succ H.next) ?_ (belows_mono (Nat.le_succ _) _ hrep) (by simp [SV.und]) ?_⟩
      · rw [hg, SObj.ren_id (n := H.next) (fun b hb => by simp only [hb, if_true]) (.cells false 7 39 _) hrep]
      · simp only [SV.ren, Nat.lt_irrefl, if_false]
end Go.Proofs.YtjoffbhfcajcgaaDoor.Code
