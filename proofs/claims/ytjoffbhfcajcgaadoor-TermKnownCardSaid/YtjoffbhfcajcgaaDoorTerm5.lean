/- The contract of Matrix, clean; the table with the contracts. -/
import Derived.Test.YtjoffbhfcajcgaaDoorTerm4
set_option maxRecDepth 100000
set_option linter.unusedVariables false
set_option linter.unusedSimpArgs false
namespace Go.Proofs.YtjoffbhfcajcgaaDoor.Code
open Go Go.Sim
theorem clean10 {F : Table} (hl : F.lib 10 = none) (hf : F.fn 10 = some c10) : CleanOk F 10 p10 := by
  intro xs H x2 H2 hc hx hp
  obtain ⟨bt, w, h, x, y, hid, rows, rl, all, rfl, ht, hrl, hw, hlen, hall, hm⟩ := p10_inv hp
  obtain ⟨v, H1, h1, hmore, hv⟩ := run10 (K := callC F) (n := 200000) ht hrl hw hlen hall hc (by omega)
  have hcall := callC_body (n := 200000) hl hf ((e10 (callC F) 200000 _ H).trans h1)
  have hn := rowsLen_eq hall
  rw [← hn] at hm
  unfold matrixAt at hm
  rcases hv with ⟨h0, rfl⟩ | ⟨hne, nb, hnb, rfl, hg⟩
  · subst h0
    cases hm
    exact ⟨_, H1, _, hcall, Gc.pure hc hmore (by simp [SV.und, SV.unds])⟩
  · have hpos : Nat.beq all.length 0 = false := by
      rw [beq_iff, decide_eq_false (by simpa using hne)]
    rw [hpos] at hm
    cases hm
    have hu := rowsOf_und hc hall
    refine ⟨_, H1, _, hcall, Gc.one hc hmore hnb ?_ (belows_mono (Nat.le_succ _) _ hu) (by simp [SV.und, SV.unds]) ?_⟩
    · rw [hg, SObj.ren_id (n := H.next) (fun b hb => by simp only [hb, if_true]) (.cells false 7 39 _) hu]
    · simp [SV.ren, SV.rens]
end Go.Proofs.YtjoffbhfcajcgaaDoor.Code
