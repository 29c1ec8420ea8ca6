/- Contracts: a blank cell, a blank row. -/
import Derived.Test.YtjoffbhfcajcgaaDoorKT
import Derived.Test.YtjoffbhfcajcgaaDoorSym
set_option maxRecDepth 100000
set_option linter.unusedVariables false
set_option linter.unusedSimpArgs false
namespace Go.Proofs.YtjoffbhfcajcgaaDoor.Code
open Go Go.Sim
def zcell : SV := .agg [(.int .i32 (.ofNat 0)), (.int .u8 (.ofNat 0)), (.int .u16 (.ofNat 0)), (.int .u8 (.ofNat 0)), (.int .u32 (.ofNat 0)), (.int .u8 (.ofNat 0)), (.int .u32 (.ofNat 0))]
def bcell (a b c d e : SV) : SV := .agg [(.int .i32 (.ofNat 32)), (.int .u8 (.ofNat 0)), a, b, c, d, e]
noncomputable def p104 (xs : List SV) (H : SHeap) : Res :=
  match xs with
  | [.agg [a, b, c, d, e]] => bif isFlat a && isFlat b && isFlat c && isFlat d && isFlat e then some (bcell a b c d e, H) else none
  | _ => none
theorem flat_cell {x : SV} (h : isFlat x = true) : x.cell = true := (flat_cells h).2
theorem p104_inv {xs : List SV} {H H2 : SHeap} {x : SV} (h : p104 xs H = some (x, H2)) : ∃ a b c d e, xs = [.agg [a, b, c, d, e]] ∧ isFlat a = true ∧ isFlat b = true ∧ isFlat c = true ∧ isFlat d = true ∧ isFlat e = true ∧ x = bcell a b c d e ∧ H2 = H := by
  unfold p104 at h
  split at h
  · rename_i a b c d e
    cases hf : (isFlat a && isFlat b && isFlat c && isFlat d && isFlat e) with
    | false => rw [hf] at h; cases h
    | true =>
      rw [hf] at h
      cases h
      simp only [Bool.and_eq_true] at hf
      exact ⟨a, b, c, d, e, rfl, hf.1.1.1.1, hf.1.1.1.2, hf.1.1.2, hf.1.2, hf.2, rfl, rfl⟩
  · cases h
theorem run104 (call : Caller) (n : Nat) (H : SHeap) {a b c d e : SV} (ha : isFlat a = true) (hb : isFlat b = true) (hc : isFlat c = true) (hd : isFlat d = true) (he : isFlat e = true) :
    Ok (g104 call n (.agg [a, b, c, d, e]) H) fun v H1 => v = bcell a b c d e ∧ More H H1 := by
  have hall : [a, b, c, d, e].all SV.cell = true := by simp [flat_cell ha, flat_cell hb, flat_cell hc, flat_cell hd, flat_cell he]
  have hbc : [(.int .i32 (.ofNat 32)), (.int .u8 (.ofNat 0)), a, b, c, d, e].all SV.cell = true := by
    simp only [List.all_cons, List.all_nil, flat_cell ha, flat_cell hb, flat_cell hc, flat_cell hd, flat_cell he]; rfl
  have h5 : isN 5 (.agg [a, b, c, d, e]) = true := isN_agg rfl hall
  refine ok_box h5 fun H1 n1 => ok_alloc fun H2 n2 => ?_
  refine ok_load_agg (n2.old n1.at) rfl rfl rfl rfl ?_
  refine ok_build (cs := [(.int .i32 (.ofNat 32)), (.int .u8 (.ofNat 0)), a, b, c, d, e]) (by simp only [sFill, h5]; rfl) ?_
  refine ok_store_agg n2.at rfl rfl hbc rfl rfl fun H3 u3 => ?_
  refine ok_load_agg u3.at rfl rfl rfl rfl ?_
  exact ok_ret ⟨rfl, (n1.more.trans n2.more).of_upd u3 (by rw [n1.next]; omega)⟩
theorem clean104 : CleanOk F 104 p104 := by
  intro xs H x2 H2 hc hx hp
  obtain ⟨a, b, c, d, e, rfl, ha, hb, hc', hd, he, rfl, rfl⟩ := p104_inv hp
  obtain ⟨v, H1, h1, rfl, h2⟩ := run104 (callC F) 0 H2 ha hb hc' hd he
  refine ⟨_, H1, _, callC_body (n := 0) rfl rfl ((e104 ..).trans h1), Gc.pure hc h2 ?_⟩
  simp only [SV.unds, SV.und, bcell] at hx ⊢
  exact ⟨trivial, trivial, hx.1⟩
end Go.Proofs.YtjoffbhfcajcgaaDoor.Code
