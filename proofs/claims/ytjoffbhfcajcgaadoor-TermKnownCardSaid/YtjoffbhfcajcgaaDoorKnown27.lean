/- TermKnown's run: the chapter's wake by its own run, the great terminal by contracts, the rest step by step. -/
import Derived.Test.YtjoffbhfcajcgaaDoorTerm5
import Derived.Test.YtjoffbhfcajcgaaDoorFrame
import Derived.Test.YtjoffbhfcajcgaaDoorStart27
set_option maxRecDepth 100000
set_option linter.unusedVariables false
set_option linter.unusedSimpArgs false
namespace Go.Proofs.YtjoffbhfcajcgaaDoor.Code
open Go Go.Sim Go.RowKit Go.Proofs.YtjoffbhfcajcgaaDoor
theorem ground : Sim.Ground Tryd.prog.globals.size H0 where
  next := by rw [globals_size]; rfl
  ro := H0_ro
  und := fun b o h => by
    rcases H0_get b o h with ⟨rfl, rfl⟩ | ⟨rfl, rfl⟩
    · simp [SObj.und, flags, SV.unds, SV.und]
    · simp [SObj.und, bounds, SV.unds, SV.und]
theorem awake_yes : yes (runG TG 3000 60 11 [] H0) = true := by kernel_rfl
theorem yes_inv {r : Option (SV × SHeap)} (h : yes r = true) : ∃ H, r = some (.bool true, H) := by
  cases r with
  | none => cases h
  | some p =>
    obtain ⟨v, H⟩ := p
    cases v <;> first | (rename_i b; cases b <;> first | (cases h; done) | exact ⟨H, rfl⟩) | (cases h; done)
noncomputable def p11 (xs : List SV) (H : SHeap) : Res :=
  match xs with
  | [] => bif roAt H 0 1 0 flags && roAt H 1 2 0 bounds then some (.bool true, H) else none
  | _ => none
theorem p11_ok : LibOk Tryd.prog 11 p11 := by
  obtain ⟨H1, h⟩ := yes_inv awake_yes
  obtain ⟨n, hn⟩ := callC_inv (runG_le lG_ok TG_eq 3000 60 _ _ _ _ h)
  refine libOk_ground tableOk ground hn (by trivial) (by trivial) ?_
  intro xs H y H' hp
  unfold p11 at hp
  split at hp
  · cases hc : (roAt H 0 1 0 flags && roAt H 1 2 0 bounds) with
    | false => rw [hc] at hp; cases hp
    | true =>
      rw [hc] at hp
      cases hp
      simp only [Bool.and_eq_true] at hc
      refine ⟨rfl, rfl, rfl, fun b o h => ?_⟩
      rcases H0_get b o h with ⟨rfl, rfl⟩ | ⟨rfl, rfl⟩
      · exact roAt_eq hc.1
      · exact roAt_eq hc.2
  · cases hp
theorem bodied_of {P : Program} {f : Nat} {fn : Func} {c : SFunc} (h1 : P.funcs[f]? = some fn) (h2 : compFunc P fn = some c) : Bodied P f := by
  obtain ⟨_, _, _, hbody, _, _, _, hname, _⟩ := compFunc_spec h2
  exact ⟨fn, h1, hname, by rw [hbody]; rfl⟩
noncomputable def F2 : Table := F1.with 62 p62
noncomputable def F3 : Table := F2.with 10 p10
noncomputable def F4 : Table := F3.with 11 p11
theorem tableOk1 : TableOk Tryd.prog F1 := tableOk.with (libOk_of_clean tableOk clean104 (bodied_of Tryd.func104 t104))
theorem tableOk2 : TableOk Tryd.prog F2 := tableOk1.with (libOk_of_clean tableOk1 clean62 (bodied_of Tryd.func62 t62))
theorem tableOk3 : TableOk Tryd.prog F3 := tableOk2.with (libOk_of_clean tableOk2 (clean10 rfl rfl) (bodied_of Tryd.func10 t10))
theorem tableOk4 : TableOk Tryd.prog F4 := tableOk3.with p11_ok
noncomputable def lG4 : List (Nat × GFun) := [(3, G3), (8, G8), (9, G9), (10, fun _ _ => p10), (11, fun _ _ => p11), (16, G16), (20, G20), (26, G26), (27, G27), (28, G28), (29, G29), (30, G30), (34, G34), (35, G35), (39, G39), (40, G40), (41, G41), (42, G42), (43, G43), (44, G44), (45, G45), (46, G46), (47, G47), (48, G48), (49, G49), (50, G50), (51, G51), (62, fun _ _ => p62), (63, G63), (66, G66), (67, G67), (68, G68), (69, G69), (70, G70), (71, G71), (72, G72), (73, G73), (74, G74), (75, G75), (76, G76), (77, G77), (78, G78), (79, G79), (80, G80), (81, G81), (82, G82), (83, G83), (91, G91), (96, G96), (97, G97), (98, G98), (99, G99), (100, G100), (101, G101), (104, fun _ _ => p104), (111, G111)]
theorem lG4_ok : GLib F4 lG4 := .fn rfl rfl G3_ok (.fn rfl rfl G8_ok (.fn rfl rfl G9_ok (.lib rfl (.lib rfl (.fn rfl rfl G16_ok (.fn rfl rfl G20_ok (.fn rfl rfl G26_ok (.fn rfl rfl G27_ok (.fn rfl rfl G28_ok (.fn rfl rfl G29_ok (.fn rfl rfl G30_ok (.fn rfl rfl G34_ok (.fn rfl rfl G35_ok (.fn rfl rfl G39_ok (.fn rfl rfl G40_ok (.fn rfl rfl G41_ok (.fn rfl rfl G42_ok (.fn rfl rfl G43_ok (.fn rfl rfl G44_ok (.fn rfl rfl G45_ok (.fn rfl rfl G46_ok (.fn rfl rfl G47_ok (.fn rfl rfl G48_ok (.fn rfl rfl G49_ok (.fn rfl rfl G50_ok (.fn rfl rfl G51_ok (.lib rfl (.fn rfl rfl G63_ok (.fn rfl rfl G66_ok (.fn rfl rfl G67_ok (.fn rfl rfl G68_ok (.fn rfl rfl G69_ok (.fn rfl rfl G70_ok (.fn rfl rfl G71_ok (.fn rfl rfl G72_ok (.fn rfl rfl G73_ok (.fn rfl rfl G74_ok (.fn rfl rfl G75_ok (.fn rfl rfl G76_ok (.fn rfl rfl G77_ok (.fn rfl rfl G78_ok (.fn rfl rfl G79_ok (.fn rfl rfl G80_ok (.fn rfl rfl G81_ok (.fn rfl rfl G82_ok (.fn rfl rfl G83_ok (.fn rfl rfl G91_ok (.fn rfl rfl G96_ok (.fn rfl rfl G97_ok (.fn rfl rfl G98_ok (.fn rfl rfl G99_ok (.fn rfl rfl G100_ok (.fn rfl rfl G101_ok (.lib rfl (.fn rfl rfl G111_ok (.nil))))))))))))))))))))))))))))))))))))))))))))))))))))))))
noncomputable def TG4 : Tr GFun := (.nd (.nd (.nd (.nd (.nd (.nd (.nd .lf (some (G63)) .lf) none .lf) none (.nd (.nd .lf (some (G79)) .lf) (some (G47)) (.nd .lf (some (G111)) .lf))) none (.nd (.nd (.nd .lf (some (G71)) .lf) (some (G39)) .lf) none .lf)) (some (G3)) (.nd (.nd (.nd (.nd .lf (some (G67)) .lf) (some (G35)) (.nd .lf (some (G99)) .lf)) none (.nd (.nd .lf (some (G83)) .lf) (some (G51)) .lf)) (some (fun _ _ => p11)) (.nd (.nd (.nd .lf (some (G75)) .lf) (some (G43)) .lf) (some (G27)) (.nd (.nd .lf (some (G91)) .lf) none .lf)))) none (.nd (.nd (.nd (.nd .lf none (.nd .lf (some (G97)) .lf)) none (.nd (.nd .lf (some (G81)) .lf) (some (G49)) .lf)) (some (G9)) (.nd (.nd (.nd .lf (some (G73)) .lf) (some (G41)) .lf) none .lf)) none (.nd (.nd (.nd (.nd .lf (some (G69)) .lf) none (.nd .lf (some (G101)) .lf)) none .lf) none (.nd (.nd (.nd .lf (some (G77)) .lf) (some (G45)) .lf) (some (G29)) .lf)))) none (.nd (.nd (.nd (.nd (.nd .lf none (.nd .lf (some (G96)) .lf)) (some (G16)) (.nd (.nd .lf (some (G80)) .lf) (some (G48)) .lf)) (some (G8)) (.nd (.nd (.nd .lf (some (G72)) .lf) (some (G40)) (.nd .lf (some (fun _ _ => p104)) .lf)) none .lf)) none (.nd (.nd (.nd (.nd .lf (some (G68)) .lf) none (.nd .lf (some (G100)) .lf)) (some (G20)) .lf) none (.nd (.nd (.nd .lf (some (G76)) .lf) (some (G44)) .lf) (some (G28)) .lf))) none (.nd (.nd (.nd (.nd (.nd .lf (some (G66)) .lf) (some (G34)) (.nd .lf (some (G98)) .lf)) none (.nd (.nd .lf (some (G82)) .lf) (some (G50)) .lf)) (some (fun _ _ => p10)) (.nd (.nd (.nd .lf (some (G74)) .lf) (some (G42)) .lf) (some (G26)) .lf)) none (.nd (.nd (.nd (.nd .lf (some (G70)) .lf) none .lf) none .lf) none (.nd (.nd (.nd .lf (some (G78)) .lf) (some (G46)) .lf) (some (G30)) (.nd .lf (some (fun _ _ => p62)) .lf))))))
theorem TG4_eq : treeG lG4 = TG4 := by kernel_rfl
theorem known_yes : yes (runG TG4 3000 60 3 [] H0) = true := by kernel_rfl
theorem known_calls {W : World} (hL : laidMet Tryd.prog laid2 W) (hS : W.ShapedOpen Tryd.prog) : Calls Tryd.prog 3 #[] W fun e W' => e = .returned (.bool true) ∧ Below W.heap.size W W' := by
  obtain ⟨H', h⟩ := yes_inv known_yes
  obtain ⟨n, hn⟩ := callC_inv (runG_lib lG4_ok TG4_eq 3000 60 _ _ _ _ h)
  exact law_of_run (xs := []) (vs := #[]) tableOk4 H0_ro (start hL hS) (VRs_nil _) hn
#print axioms known_calls
end Go.Proofs.YtjoffbhfcajcgaaDoor.Code
