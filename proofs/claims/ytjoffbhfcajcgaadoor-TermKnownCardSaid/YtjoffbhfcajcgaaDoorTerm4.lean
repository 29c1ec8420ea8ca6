/- Contracts: what a terminal shows, whole. -/
import Derived.Test.YtjoffbhfcajcgaaDoorTerm3
set_option maxRecDepth 100000
set_option linter.unusedVariables false
set_option linter.unusedSimpArgs false
namespace Go.Proofs.YtjoffbhfcajcgaaDoor.Code
open Go Go.Sim
def lenOf : SV → Nat
  | .slice _ _ l _ => l
  | _ => 0
def rowsLen : List SV → Nat
  | [] => 0
  | r :: rs => lenOf r + rowsLen rs
theorem elems_len {H : SHeap} {r : SV} {l : List SV} (h : sElems 7 H r = some l) : l.length = lenOf r := by
  unfold sElems at h
  cases r <;> try (cases h; done)
  · cases h; rfl
  · rename_i b q len cap
    simp only at h
    cases hb : H.get b with
    | none => rw [hb] at h; cases h
    | some o =>
      rw [hb] at h
      cases o <;> try (cases h; done)
      rename_i ro e el m
      simp only [elemsIn] at h
      cases hc : (Nat.beq e 7 && Nat.ble (q + len) m.length) with
      | false => rw [hc] at h; cases h
      | true =>
        rw [hc] at h
        cases h
        simp only [Bool.and_eq_true, ble_iff, decide_eq_true_eq] at hc
        show ((m.drop q).take len).length = len
        rw [List.length_take, List.length_drop]; omega
theorem rowsLen_eq {H : SHeap} : ∀ {rs m : List SV}, rowsOf H rs = some m → m.length = rowsLen rs
  | [], m, h => by cases h; rfl
  | r :: rs, m, h => by
    unfold rowsOf at h
    cases hl : sElems 7 H r with
    | none => rw [hl] at h; cases h
    | some l =>
      rw [hl] at h
      simp only at h
      cases hm : rowsOf H rs with
      | none => rw [hm] at h; cases h
      | some k =>
        rw [hm] at h; cases h
        rw [List.length_append, elems_len hl, rowsLen_eq hm]; rfl
theorem elems_und {H : SHeap} (hc : H.Closed) {r : SV} {l : List SV} (h : sElems 7 H r = some l) : SV.unds H.next l := by
  unfold sElems at h
  cases r <;> try (cases h; done)
  · cases h; trivial
  · rename_i b q len cap
    simp only at h
    cases hb : H.get b with
    | none => rw [hb] at h; cases h
    | some o =>
      rw [hb] at h
      cases o <;> try (cases h; done)
      rename_i ro e el m
      simp only [elemsIn] at h
      cases hcc : (Nat.beq e 7 && Nat.ble (q + len) m.length) with
      | false => rw [hcc] at h; cases h
      | true =>
        rw [hcc] at h
        cases h
        have := hc b _ hb
        exact (belows_iff _ _).2 fun y hy => (belows_iff _ _).1 this y (List.mem_of_mem_drop (List.mem_of_mem_take hy))
theorem rowsOf_und {H : SHeap} (hc : H.Closed) : ∀ {rs m : List SV}, rowsOf H rs = some m → SV.unds H.next m
  | [], m, h => by cases h; trivial
  | r :: rs, m, h => by
    unfold rowsOf at h
    cases hl : sElems 7 H r with
    | none => rw [hl] at h; cases h
    | some l =>
      rw [hl] at h
      simp only at h
      cases hm : rowsOf H rs with
      | none => rw [hm] at h; cases h
      | some k =>
        rw [hm] at h; cases h
        exact (belows_iff _ _).2 fun y hy => by
          rcases List.mem_append.1 hy with h | h
          · exact (belows_iff _ _).1 (elems_und hc hl) y h
          · exact (belows_iff _ _).1 (rowsOf_und hc hm) y h
def curX (hid : Bool) (x w : Int) : Int := bif hid then 0 else min x (w - 1)
def curY (hid : Bool) (y : Int) : Int := bif hid then 0 else y
/- the cells' slice, and the memory with them -/
noncomputable def matrixAt (H : SHeap) (w h x y : Int) (hid : Bool) (all : List SV) (n : Nat) : Res :=
  bif Nat.beq n 0 then some (.agg [.int .i64 w, .int .i64 h, .nils, .int .i64 (curX hid x w), .int .i64 (curY hid y), .bool (!hid)], H)
  else some (.agg [.int .i64 w, .int .i64 h, .slice H.next 0 n (2 * n + 1), .int .i64 (curX hid x w), .int .i64 (curY hid y), .bool (!hid)], H.alloc (.cells false 7 39 all))
def smallI (w : Int) : Bool := iLt (-1000000) w && iLt w 1000000
noncomputable def rowsAt (H : SHeap) (rows : SV) : Option (List SV) :=
  match rows with
  | .nils => some []
  | .slice br q len _ => match H.get br with
    | some (.cells _ 1 _ rl) => bif Nat.ble (q + len) rl.length && Nat.ble len 100000 then some ((rl.drop q).take len) else none
    | _ => none
  | _ => none
noncomputable def p10 (xs : List SV) (H : SHeap) : Res :=
  match xs with
  | [.ptr bt 0 0] => match H.get bt with
    | some (.cells _ 12 _ [.agg [.int .i64 w, .int .i64 h, rows, .int .i64 x, .int .i64 y, _, _, _, _, _, .bool hid, .ptr _ _ _]]) =>
      match rowsAt H rows with
      | some rl => bif smallI w && Nat.ble (rowsLen rl) 10000000 then (match rowsOf H rl with
        | some all => matrixAt H w h x y hid all (rowsLen rl)
        | none => none) else none
      | none => none
    | _ => none
  | _ => none
structure TermAt (H : SHeap) (bt : Nat) (w h x y : Int) (hid : Bool) (rows : SV) : Prop where
  at_ : ∃ ro el a1 a2 a3 a4 a5 pb pq pr, H.get bt = some (.cells ro 12 el [.agg [.int .i64 w, .int .i64 h, rows, .int .i64 x, .int .i64 y, a1, a2, a3, a4, a5, .bool hid, .ptr pb pq pr]])
theorem p10_inv {xs : List SV} {H H2 : SHeap} {v : SV} (hp : p10 xs H = some (v, H2)) : ∃ bt w h x y hid rows rl all, xs = [.ptr bt 0 0] ∧ TermAt H bt w h x y hid rows ∧ rowsAt H rows = some rl ∧ smallI w = true ∧ rowsLen rl ≤ 10000000 ∧ rowsOf H rl = some all ∧ matrixAt H w h x y hid all (rowsLen rl) = some (v, H2) := by
  unfold p10 at hp
  split at hp
  · rename_i bt
    split at hp
    · rename_i ro el w h rows x y a1 a2 a3 a4 a5 hid pb pq pr hb
      split at hp
      · rename_i rl hrl
        cases hc : (smallI w && Nat.ble (rowsLen rl) 10000000) with
        | false => rw [hc] at hp; cases hp
        | true =>
          rw [hc] at hp
          simp only [cond_true] at hp
          simp only [Bool.and_eq_true, ble_iff, decide_eq_true_eq] at hc
          split at hp
          · rename_i all hall
            exact ⟨bt, w, h, x, y, hid, rows, rl, all, rfl, ⟨_, _, _, _, _, _, _, _, _, _, hb⟩, hrl, hc.1, hc.2, hall, hp⟩
          · cases hp
      · cases hp
    · cases hp
  · cases hp
theorem ok_notB {b : Bool} {f : K1} {Q : SV → SHeap → Prop} (h : Ok (f (.bool (!b))) Q) : Ok (pUn .not (.bool b) f) Q := h
theorem run10 {K : Caller} {n : Nat} {H : SHeap} {bt : Nat} {w h x y : Int} {hid : Bool} {rows : SV} {rl all : List SV} (ht : TermAt H bt w h x y hid rows) (hrl : rowsAt H rows = some rl) (hw : smallI w = true) (hlen : rowsLen rl ≤ 10000000) (hall : rowsOf H rl = some all) (hc : H.Closed) (hn : 100000 < n) :
    Ok (g10 K n (.ptr bt 0 0) H) fun v H1 => More H H1 ∧ ((all = [] ∧ v = .agg [.int .i64 w, .int .i64 h, .nils, .int .i64 (curX hid x w), .int .i64 (curY hid y), .bool (!hid)]) ∨
      (all ≠ [] ∧ ∃ nb, H.next ≤ nb ∧ v = .agg [.int .i64 w, .int .i64 h, .slice nb 0 all.length (2 * all.length + 1), .int .i64 (curX hid x w), .int .i64 (curY hid y), .bool (!hid)] ∧ H1.get nb = some (.cells false 7 39 all))) := by
  obtain ⟨ro, el, a1, a2, a3, a4, a5, pb, pq, pr, hb⟩ := ht.at_
  have hblt := SHeap.lt_of_get hb
  have hwr : -1000000 < w ∧ w < 1000000 := by
    unfold smallI at hw
    rw [iLt_eq, iLt_eq] at hw
    simpa using hw
  refine ok_alloc fun H1 n1 => ?_
  have hb1 := n1.old hb
  refine ok_eq (v := .bool false) (H := H1) rfl ?_
  refine ok_guard (fun _ => ?_) (fun h => absurd rfl h)
  refine ok_some ?_
  refine ok_guard (fun _ => ?_) (fun h => absurd rfl h)
  refine ok_eq (v := .ptr bt 0 0) (H := H1) rfl ?_
  refine ok_guard (fun _ => ?_) (fun h => absurd rfl h)
  refine ok_eq (v := .ptr bt 0 11) (H := H1) rfl ?_
  refine ok_guard (fun _ => ?_) (fun h => absurd rfl h)
  refine ok_eq (xLoad_sc (v := _) (c := .ptr pb pq pr) hb1 rfl rfl rfl) ?_
  refine ok_guard (fun _ => ?_) (fun h => absurd rfl h)
  refine ok_eq (v := .bool false) (H := H1) rfl ?_
  refine ok_pickF ?_
  refine ok_cond (fun h => by cases h) fun _ => ?_
  unfold g10_1
  rw [pNilCheck_ptr]
  refine ok_fieldAddr ?_
  refine ok_load_sc (c := .int .i64 w) hb1 rfl rfl rfl ?_
  rw [pNilCheck_ptr]
  refine ok_fieldAddr ?_
  refine ok_load_sc (c := .int .i64 h) hb1 rfl rfl rfl ?_
  refine ok_build (cs := [.int .i64 w, .int .i64 h, .nils, .int .i64 0, .int .i64 0, .bool false]) rfl ?_
  refine ok_alloc fun H2 n2 => ?_
  have hb2 := n2.old hb1
  refine ok_store_agg n2.at rfl rfl rfl rfl rfl fun H3 u3 => ?_
  have hb3 := u3.old hb2 (by rw [n1.next]; omega)
  refine ok_same (xLoad_sc hb2 rfl rfl rfl) ?_
  refine ok_same (xLoad_sc hb2 rfl rfl rfl) ?_
  rw [pNilCheck_ptr]
  refine ok_fieldAddr ?_
  refine ok_load_sc (c := rows) hb3 rfl rfl rfl ?_
  have hm3 : More H H3 := (n1.more.trans n2.more).of_upd u3 (by rw [n1.next]; omega)
  have hn3 : H3.next = H.next + 2 := by rw [u3.next, n2.next, n1.next]
  have hn1 := n1.next
  -- behind the rows
  have hend : ∀ (s' : SV) (Hl : SHeap), H3.next ≤ Hl.next → More H Hl → OpenL Hl s' 7 39 all → isFlat s' = true → Hl.get H1.next = some (.cells false 6 29 [.agg [.int .i64 w, .int .i64 h, s', .int .i64 0, .int .i64 0, .bool false]]) →
      Hl.get H.next = some (.cells false 6 29 [.agg [.int .i64 0, .int .i64 0, .nils, .int .i64 0, .int .i64 0, .bool false]]) → (∀ j, SV.at? s' j → H3.next ≤ j) →
      Ok (g10_2 K n (.ptr bt 0 0) (.ptr H.next 0 0) (.ptr H1.next 0 0) Hl) fun v H1 => More H H1 ∧ ((all = [] ∧ v = .agg [.int .i64 w, .int .i64 h, .nils, .int .i64 (curX hid x w), .int .i64 (curY hid y), .bool (!hid)]) ∨
      (all ≠ [] ∧ ∃ nb, H.next ≤ nb ∧ v = .agg [.int .i64 w, .int .i64 h, .slice nb 0 all.length (2 * all.length + 1), .int .i64 (curX hid x w), .int .i64 (curY hid y), .bool (!hid)] ∧ H1.get nb = some (.cells false 7 39 all))) := by
    intro s' Hl hnl hml hol hfl hmb hres hat
    have hbl := hml.old hb
    unfold g10_2
    rw [pNilCheck_ptr]
    refine ok_fieldAddr ?_
    refine ok_load_sc (c := .bool hid) hbl rfl rfl rfl ?_
    refine ok_notB ?_
    -- the last part, of whatever cursor
    have hlast : ∀ (X Y : Int) (vis : Bool) (Hz : SHeap), More H Hz → Hl.next ≤ Hz.next → Hz.get H1.next = some (.cells false 6 29 [.agg [.int .i64 w, .int .i64 h, s', .int .i64 X, .int .i64 Y, .bool vis]]) → Hz.get H.next = some (.cells false 6 29 [.agg [.int .i64 0, .int .i64 0, .nils, .int .i64 0, .int .i64 0, .bool false]]) →
        (∀ j o, Hl.get j = some o → j ≠ H1.next → Hz.get j = some o) → X = curX hid x w → Y = curY hid y → vis = !hid → Ok (g10_3 K n (.ptr H.next 0 0) (.ptr H1.next 0 0) Hz) fun v H1 => More H H1 ∧ ((all = [] ∧ v = .agg [.int .i64 w, .int .i64 h, .nils, .int .i64 (curX hid x w), .int .i64 (curY hid y), .bool (!hid)]) ∨
      (all ≠ [] ∧ ∃ nb, H.next ≤ nb ∧ v = .agg [.int .i64 w, .int .i64 h, .slice nb 0 all.length (2 * all.length + 1), .int .i64 (curX hid x w), .int .i64 (curY hid y), .bool (!hid)] ∧ H1.get nb = some (.cells false 7 39 all))) := by
      intro X Y vis Hz hmz hnz hzm hzr hzo e1 e2 e3
      subst e1 e2 e3
      unfold g10_3
      refine ok_load_agg hzm rfl rfl rfl rfl ?_
      have hcell : [SV.int .i64 w, .int .i64 h, s', .int .i64 (curX hid x w), .int .i64 (curY hid y), .bool (!hid)].all SV.cell = true := by
        simp only [List.all_cons, List.all_nil, flat_cell hfl]; rfl
      refine ok_store_agg hzr rfl rfl hcell rfl rfl fun Hy uy => ?_
      refine ok_load_agg uy.at rfl rfl rfl rfl ?_
      refine ok_ret ⟨hmz.of_upd uy (Nat.le_refl _), ?_⟩
      rcases hol with ⟨rfl, h0⟩ | ⟨nb, rfl, hnb, hne⟩
      · exact .inl ⟨h0, rfl⟩
      · have hge := hat nb ⟨_, _, _, rfl⟩
        refine .inr ⟨hne, nb, by omega, rfl, ?_⟩
        exact uy.old (hzo nb _ hnb (by omega)) (by omega)
    cases hid with
    | true =>
      refine ok_cond (fun h => by cases h) fun _ => ?_
      exact hlast 0 0 false Hl hml (Nat.le_refl _) hmb hres (fun j o hj _ => hj) rfl rfl rfl
    | false =>
      refine ok_cond (fun _ => ?_) fun h => by cases h
      rw [pNilCheck_ptr]
      refine ok_fieldAddr ?_
      refine ok_load_sc (c := .int .i64 x) hbl rfl rfl rfl ?_
      rw [pNilCheck_ptr]
      refine ok_fieldAddr ?_
      refine ok_load_sc (c := .int .i64 w) hbl rfl rfl rfl ?_
      refine ok_sub64 (by show (-9223372036854775808 : Int) ≤ w - 1; omega) (by show w - 1 ≤ 9223372036854775807; omega) ?_
      refine ok_eq (xMin2 x (w - 1) Hl) ?_
      rw [pNilCheck_ptr]
      refine ok_fieldAddr ?_
      refine ok_load_sc (c := .int .i64 y) hbl rfl rfl rfl ?_
      refine ok_fieldAddr ?_
      refine ok_store_sc hmb rfl rfl (by omega) rfl (by simp) fun Ha ua => ?_
      refine ok_fieldAddr ?_
      refine ok_store_sc ua.at rfl rfl (by omega) rfl (by simp) fun Hb ub => ?_
      refine ok_fieldAddr ?_
      refine ok_store_sc ub.at rfl rfl (by omega) rfl (by simp) fun Hc uc => ?_
      refine ok_same (xLoad_sc (ua.old hbl (by omega)) rfl rfl rfl) ?_
      refine hlast (min x (w - 1)) y true Hc (((hml.of_upd ua (by omega)).of_upd ub (by omega)).of_upd uc (by omega)) (by rw [uc.next, ub.next, ua.next]; exact Nat.le_refl _) uc.at ?_ ?_ rfl rfl rfl
      · exact uc.old (ub.old (ua.old hres (by omega)) (by omega)) (by omega)
      · exact fun j o hj hne => uc.old (ub.old (ua.old hj hne) hne) hne
  have hres3 : H3.get H.next = some (.cells false 6 29 [.agg [.int .i64 0, .int .i64 0, .nils, .int .i64 0, .int .i64 0, .bool false]]) := u3.old (n2.old n1.at) (by omega)
  have hzero : ∀ j, SV.at? SV.nils j → H3.next ≤ j := fun j ⟨_, _, _, e⟩ => by cases e
  unfold rowsAt at hrl
  cases rows <;> simp only at hrl <;> try (cases hrl; done)
  · -- no rows
    cases hrl
    rw [pLenL_nils]
    obtain ⟨m, rfl⟩ : ∃ m, n = m + 1 := ⟨n - 1, by omega⟩
    show Ok (g10_7 K (m + 1) (g10_13 K (m + 1) m) _ _ _ _ _ _ H3) _
    unfold g10_7
    refine ok_lss ?_
    refine ok_else (by decide) ?_
    simp only [rowsOf, Option.some.injEq] at hall
    subst hall
    exact hend .nils H3 (Nat.le_refl _) hm3 (.inl ⟨rfl, rfl⟩) rfl u3.at hres3 hzero
  · rename_i br q len cap
    cases hbr : H.get br with
    | none => rw [hbr] at hrl; cases hrl
    | some o =>
      rw [hbr] at hrl
      cases o <;> try (cases hrl; done)
      rename_i ro2 esz el2 rl0
      split at hrl <;> try (cases hrl; done)
      rename_i ro3 el3 rl1 heq
      cases heq
      cases hcc : (Nat.ble (q + len) rl0.length && Nat.ble len 100000) with
      | false => rw [hcc] at hrl; cases hrl
      | true =>
        rw [hcc] at hrl
        cases hrl
        simp only [Bool.and_eq_true, ble_iff, decide_eq_true_eq] at hcc
        have hbr3 := hm3.old hbr
        have hbrlt := SHeap.lt_of_get hbr
        have hund := (belows_iff _ _).1 (hc br _ hbr)
        have hrlt : ∀ r ∈ rl0, ∀ j, SV.at? r j → j < H.next := by
          rintro r hr j ⟨a, b, c, rfl⟩
          exact hund _ hr
        rw [pLenL_slice]
        have hall3 : rowsOf H3 ((rl0.drop (q + 0)).take len) = some all := rowsOf_old hall fun s _ j o hj _ => hm3.old hj
        refine matrix_loop (acc := []) (rest := all) (f1 := .int .i64 0) (f2 := .int .i64 0) (f3 := .bool false) (W := .int .i64 w) (Hh := .int .i64 h) rfl hcc.2 len n 0 .nils H3 (by omega) (by omega) hbr3 hcc.1 u3.at rfl hall3 (.inl ⟨rfl, rfl⟩) ?_ (by omega) (fun ⟨_, _, _, e⟩ => by cases e) (fun ⟨_, _, _, e⟩ => by cases e) ?_ ?_ ?_
        · have := rowsLen_eq hall; simp only [List.length_nil]; omega
        · intro r hr hj
          have := hrlt r hr _ hj; omega
        · intro r hr j hj
          exact ⟨by have := hrlt r hr j hj; omega, fun ⟨_, _, _, e⟩ => by cases e⟩
        · intro s' Hl h1 h2 h3 h4 h5 h6 h7
          refine hend s' Hl h1 ⟨by omega, fun {j o} hj => h5 j o (hm3.old hj) (by have := SHeap.lt_of_get hj; omega) fun ⟨_, _, _, e⟩ => by cases e⟩ (by simpa using h2) h3 h4 (h5 _ _ hres3 (by omega) fun ⟨_, _, _, e⟩ => by cases e) ?_
          · intro j hj
            rcases h7 j hj with ⟨_, _, _, e⟩ | h
            · cases e
            · exact h
end Go.Proofs.YtjoffbhfcajcgaaDoor.Code
