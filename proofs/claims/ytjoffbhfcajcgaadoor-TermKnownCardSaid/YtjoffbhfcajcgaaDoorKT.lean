/- The functions in direct style as a table. -/
import Derived.Test.YtjoffbhfcajcgaaDoorKR0
import Derived.Test.YtjoffbhfcajcgaaDoorKR1
import Derived.Test.YtjoffbhfcajcgaaDoorKR2
import Derived.Test.YtjoffbhfcajcgaaDoorRun2
import Derived.KernelRfl
set_option maxRecDepth 100000
set_option linter.unusedVariables false
set_option linter.unusedSimpArgs false
namespace Go.Proofs.YtjoffbhfcajcgaaDoor.Code
open Go Go.Sim
noncomputable section
def G3 : GFun := fun call n xs H => match xs with
  | [] => g3 call n H
  | _ => none
theorem G3_ok : GOk c3 G3 := by
  intro call n xs H r h
  unfold G3 at h
  split at h
  · rw [e3]; exact h
  · cases h
def G8 : GFun := fun call n xs H => match xs with
  | [x0, x1] => g8 call n x0 x1 H
  | _ => none
theorem G8_ok : GOk c8 G8 := by
  intro call n xs H r h
  unfold G8 at h
  split at h
  · rw [e8]; exact h
  · cases h
def G9 : GFun := fun call n xs H => match xs with
  | [x0, x1] => g9 call n x0 x1 H
  | _ => none
theorem G9_ok : GOk c9 G9 := by
  intro call n xs H r h
  unfold G9 at h
  split at h
  · rw [e9]; exact h
  · cases h
def G10 : GFun := fun call n xs H => match xs with
  | [x0] => g10 call n x0 H
  | _ => none
theorem G10_ok : GOk c10 G10 := by
  intro call n xs H r h
  unfold G10 at h
  split at h
  · rw [e10]; exact h
  · cases h
def G11 : GFun := fun call n xs H => match xs with
  | [] => g11 call n H
  | _ => none
theorem G11_ok : GOk c11 G11 := by
  intro call n xs H r h
  unfold G11 at h
  split at h
  · rw [e11]; exact h
  · cases h
def G16 : GFun := fun call n xs H => match xs with
  | [x0, x1, x2] => g16 call n x0 x1 x2 H
  | _ => none
theorem G16_ok : GOk c16 G16 := by
  intro call n xs H r h
  unfold G16 at h
  split at h
  · rw [e16]; exact h
  · cases h
def G20 : GFun := fun call n xs H => match xs with
  | [x0] => g20 call n x0 H
  | _ => none
theorem G20_ok : GOk c20 G20 := by
  intro call n xs H r h
  unfold G20 at h
  split at h
  · rw [e20]; exact h
  · cases h
def G26 : GFun := fun call n xs H => match xs with
  | [x0, x1] => g26 call n x0 x1 H
  | _ => none
theorem G26_ok : GOk c26 G26 := by
  intro call n xs H r h
  unfold G26 at h
  split at h
  · rw [e26]; exact h
  · cases h
def G27 : GFun := fun call n xs H => match xs with
  | [] => g27 call n H
  | _ => none
theorem G27_ok : GOk c27 G27 := by
  intro call n xs H r h
  unfold G27 at h
  split at h
  · rw [e27]; exact h
  · cases h
def G28 : GFun := fun call n xs H => match xs with
  | [x0, x1] => g28 call n x0 x1 H
  | _ => none
theorem G28_ok : GOk c28 G28 := by
  intro call n xs H r h
  unfold G28 at h
  split at h
  · rw [e28]; exact h
  · cases h
def G29 : GFun := fun call n xs H => match xs with
  | [x0] => g29 call n x0 H
  | _ => none
theorem G29_ok : GOk c29 G29 := by
  intro call n xs H r h
  unfold G29 at h
  split at h
  · rw [e29]; exact h
  · cases h
def G30 : GFun := fun call n xs H => match xs with
  | [x0, x1] => g30 call n x0 x1 H
  | _ => none
theorem G30_ok : GOk c30 G30 := by
  intro call n xs H r h
  unfold G30 at h
  split at h
  · rw [e30]; exact h
  · cases h
def G34 : GFun := fun call n xs H => match xs with
  | [x0] => g34 call n x0 H
  | _ => none
theorem G34_ok : GOk c34 G34 := by
  intro call n xs H r h
  unfold G34 at h
  split at h
  · rw [e34]; exact h
  · cases h
def G35 : GFun := fun call n xs H => match xs with
  | [x0] => g35 call n x0 H
  | _ => none
theorem G35_ok : GOk c35 G35 := by
  intro call n xs H r h
  unfold G35 at h
  split at h
  · rw [e35]; exact h
  · cases h
def G39 : GFun := fun call n xs H => match xs with
  | [x0] => g39 call n x0 H
  | _ => none
theorem G39_ok : GOk c39 G39 := by
  intro call n xs H r h
  unfold G39 at h
  split at h
  · rw [e39]; exact h
  · cases h
def G40 : GFun := fun call n xs H => match xs with
  | [x0] => g40 call n x0 H
  | _ => none
theorem G40_ok : GOk c40 G40 := by
  intro call n xs H r h
  unfold G40 at h
  split at h
  · rw [e40]; exact h
  · cases h
def G41 : GFun := fun call n xs H => match xs with
  | [x0, x1, x2] => g41 call n x0 x1 x2 H
  | _ => none
theorem G41_ok : GOk c41 G41 := by
  intro call n xs H r h
  unfold G41 at h
  split at h
  · rw [e41]; exact h
  · cases h
def G42 : GFun := fun call n xs H => match xs with
  | [x0, x1] => g42 call n x0 x1 H
  | _ => none
theorem G42_ok : GOk c42 G42 := by
  intro call n xs H r h
  unfold G42 at h
  split at h
  · rw [e42]; exact h
  · cases h
def G43 : GFun := fun call n xs H => match xs with
  | [x0, x1] => g43 call n x0 x1 H
  | _ => none
theorem G43_ok : GOk c43 G43 := by
  intro call n xs H r h
  unfold G43 at h
  split at h
  · rw [e43]; exact h
  · cases h
def G44 : GFun := fun call n xs H => match xs with
  | [x0] => g44 call n x0 H
  | _ => none
theorem G44_ok : GOk c44 G44 := by
  intro call n xs H r h
  unfold G44 at h
  split at h
  · rw [e44]; exact h
  · cases h
def G45 : GFun := fun call n xs H => match xs with
  | [x0, x1] => g45 call n x0 x1 H
  | _ => none
theorem G45_ok : GOk c45 G45 := by
  intro call n xs H r h
  unfold G45 at h
  split at h
  · rw [e45]; exact h
  · cases h
def G46 : GFun := fun call n xs H => match xs with
  | [x0, x1] => g46 call n x0 x1 H
  | _ => none
theorem G46_ok : GOk c46 G46 := by
  intro call n xs H r h
  unfold G46 at h
  split at h
  · rw [e46]; exact h
  · cases h
def G47 : GFun := fun call n xs H => match xs with
  | [x0, x1] => g47 call n x0 x1 H
  | _ => none
theorem G47_ok : GOk c47 G47 := by
  intro call n xs H r h
  unfold G47 at h
  split at h
  · rw [e47]; exact h
  · cases h
def G48 : GFun := fun call n xs H => match xs with
  | [x0] => g48 call n x0 H
  | _ => none
theorem G48_ok : GOk c48 G48 := by
  intro call n xs H r h
  unfold G48 at h
  split at h
  · rw [e48]; exact h
  · cases h
def G49 : GFun := fun call n xs H => match xs with
  | [x0, x1, x2] => g49 call n x0 x1 x2 H
  | _ => none
theorem G49_ok : GOk c49 G49 := by
  intro call n xs H r h
  unfold G49 at h
  split at h
  · rw [e49]; exact h
  · cases h
def G50 : GFun := fun call n xs H => match xs with
  | [x0, x1] => g50 call n x0 x1 H
  | _ => none
theorem G50_ok : GOk c50 G50 := by
  intro call n xs H r h
  unfold G50 at h
  split at h
  · rw [e50]; exact h
  · cases h
def G51 : GFun := fun call n xs H => match xs with
  | [x0, x1] => g51 call n x0 x1 H
  | _ => none
theorem G51_ok : GOk c51 G51 := by
  intro call n xs H r h
  unfold G51 at h
  split at h
  · rw [e51]; exact h
  · cases h
def G62 : GFun := fun call n xs H => match xs with
  | [x0, x1] => g62 call n x0 x1 H
  | _ => none
theorem G62_ok : GOk c62 G62 := by
  intro call n xs H r h
  unfold G62 at h
  split at h
  · rw [e62]; exact h
  · cases h
def G63 : GFun := fun call n xs H => match xs with
  | [x0] => g63 call n x0 H
  | _ => none
theorem G63_ok : GOk c63 G63 := by
  intro call n xs H r h
  unfold G63 at h
  split at h
  · rw [e63]; exact h
  · cases h
def G66 : GFun := fun call n xs H => match xs with
  | [x0] => g66 call n x0 H
  | _ => none
theorem G66_ok : GOk c66 G66 := by
  intro call n xs H r h
  unfold G66 at h
  split at h
  · rw [e66]; exact h
  · cases h
def G67 : GFun := fun call n xs H => match xs with
  | [x0] => g67 call n x0 H
  | _ => none
theorem G67_ok : GOk c67 G67 := by
  intro call n xs H r h
  unfold G67 at h
  split at h
  · rw [e67]; exact h
  · cases h
def G68 : GFun := fun call n xs H => match xs with
  | [x0] => g68 call n x0 H
  | _ => none
theorem G68_ok : GOk c68 G68 := by
  intro call n xs H r h
  unfold G68 at h
  split at h
  · rw [e68]; exact h
  · cases h
def G69 : GFun := fun call n xs H => match xs with
  | [x0, x1, x2, x3, x4, x5] => g69 call n x0 x1 x2 x3 x4 x5 H
  | _ => none
theorem G69_ok : GOk c69 G69 := by
  intro call n xs H r h
  unfold G69 at h
  split at h
  · rw [e69]; exact h
  · cases h
def G70 : GFun := fun call n xs H => match xs with
  | [x0] => g70 call n x0 H
  | _ => none
theorem G70_ok : GOk c70 G70 := by
  intro call n xs H r h
  unfold G70 at h
  split at h
  · rw [e70]; exact h
  · cases h
def G71 : GFun := fun call n xs H => match xs with
  | [x0, x1] => g71 call n x0 x1 H
  | _ => none
theorem G71_ok : GOk c71 G71 := by
  intro call n xs H r h
  unfold G71 at h
  split at h
  · rw [e71]; exact h
  · cases h
def G72 : GFun := fun call n xs H => match xs with
  | [x0] => g72 call n x0 H
  | _ => none
theorem G72_ok : GOk c72 G72 := by
  intro call n xs H r h
  unfold G72 at h
  split at h
  · rw [e72]; exact h
  · cases h
def G73 : GFun := fun call n xs H => match xs with
  | [x0] => g73 call n x0 H
  | _ => none
theorem G73_ok : GOk c73 G73 := by
  intro call n xs H r h
  unfold G73 at h
  split at h
  · rw [e73]; exact h
  · cases h
def G74 : GFun := fun call n xs H => match xs with
  | [x0, x1] => g74 call n x0 x1 H
  | _ => none
theorem G74_ok : GOk c74 G74 := by
  intro call n xs H r h
  unfold G74 at h
  split at h
  · rw [e74]; exact h
  · cases h
def G75 : GFun := fun call n xs H => match xs with
  | [x0, x1] => g75 call n x0 x1 H
  | _ => none
theorem G75_ok : GOk c75 G75 := by
  intro call n xs H r h
  unfold G75 at h
  split at h
  · rw [e75]; exact h
  · cases h
def G76 : GFun := fun call n xs H => match xs with
  | [x0] => g76 call n x0 H
  | _ => none
theorem G76_ok : GOk c76 G76 := by
  intro call n xs H r h
  unfold G76 at h
  split at h
  · rw [e76]; exact h
  · cases h
def G77 : GFun := fun call n xs H => match xs with
  | [x0, x1] => g77 call n x0 x1 H
  | _ => none
theorem G77_ok : GOk c77 G77 := by
  intro call n xs H r h
  unfold G77 at h
  split at h
  · rw [e77]; exact h
  · cases h
def G78 : GFun := fun call n xs H => match xs with
  | [x0, x1] => g78 call n x0 x1 H
  | _ => none
theorem G78_ok : GOk c78 G78 := by
  intro call n xs H r h
  unfold G78 at h
  split at h
  · rw [e78]; exact h
  · cases h
def G79 : GFun := fun call n xs H => match xs with
  | [x0, x1, x2] => g79 call n x0 x1 x2 H
  | _ => none
theorem G79_ok : GOk c79 G79 := by
  intro call n xs H r h
  unfold G79 at h
  split at h
  · rw [e79]; exact h
  · cases h
def G80 : GFun := fun call n xs H => match xs with
  | [x0, x1] => g80 call n x0 x1 H
  | _ => none
theorem G80_ok : GOk c80 G80 := by
  intro call n xs H r h
  unfold G80 at h
  split at h
  · rw [e80]; exact h
  · cases h
def G81 : GFun := fun call n xs H => match xs with
  | [x0] => g81 call n x0 H
  | _ => none
theorem G81_ok : GOk c81 G81 := by
  intro call n xs H r h
  unfold G81 at h
  split at h
  · rw [e81]; exact h
  · cases h
def G82 : GFun := fun call n xs H => match xs with
  | [x0, x1, x2, x3, x4] => g82 call n x0 x1 x2 x3 x4 H
  | _ => none
theorem G82_ok : GOk c82 G82 := by
  intro call n xs H r h
  unfold G82 at h
  split at h
  · rw [e82]; exact h
  · cases h
def G83 : GFun := fun call n xs H => match xs with
  | [x0, x1, x2] => g83 call n x0 x1 x2 H
  | _ => none
theorem G83_ok : GOk c83 G83 := by
  intro call n xs H r h
  unfold G83 at h
  split at h
  · rw [e83]; exact h
  · cases h
def G91 : GFun := fun call n xs H => match xs with
  | [x0, x1] => g91 call n x0 x1 H
  | _ => none
theorem G91_ok : GOk c91 G91 := by
  intro call n xs H r h
  unfold G91 at h
  split at h
  · rw [e91]; exact h
  · cases h
def G96 : GFun := fun call n xs H => match xs with
  | [x0] => g96 call n x0 H
  | _ => none
theorem G96_ok : GOk c96 G96 := by
  intro call n xs H r h
  unfold G96 at h
  split at h
  · rw [e96]; exact h
  · cases h
def G97 : GFun := fun call n xs H => match xs with
  | [x0, x1] => g97 call n x0 x1 H
  | _ => none
theorem G97_ok : GOk c97 G97 := by
  intro call n xs H r h
  unfold G97 at h
  split at h
  · rw [e97]; exact h
  · cases h
def G98 : GFun := fun call n xs H => match xs with
  | [x0] => g98 call n x0 H
  | _ => none
theorem G98_ok : GOk c98 G98 := by
  intro call n xs H r h
  unfold G98 at h
  split at h
  · rw [e98]; exact h
  · cases h
def G99 : GFun := fun call n xs H => match xs with
  | [x0, x1] => g99 call n x0 x1 H
  | _ => none
theorem G99_ok : GOk c99 G99 := by
  intro call n xs H r h
  unfold G99 at h
  split at h
  · rw [e99]; exact h
  · cases h
def G100 : GFun := fun call n xs H => match xs with
  | [x0] => g100 call n x0 H
  | _ => none
theorem G100_ok : GOk c100 G100 := by
  intro call n xs H r h
  unfold G100 at h
  split at h
  · rw [e100]; exact h
  · cases h
def G101 : GFun := fun call n xs H => match xs with
  | [x0, x1] => g101 call n x0 x1 H
  | _ => none
theorem G101_ok : GOk c101 G101 := by
  intro call n xs H r h
  unfold G101 at h
  split at h
  · rw [e101]; exact h
  · cases h
def G104 : GFun := fun call n xs H => match xs with
  | [x0] => g104 call n x0 H
  | _ => none
theorem G104_ok : GOk c104 G104 := by
  intro call n xs H r h
  unfold G104 at h
  split at h
  · rw [e104]; exact h
  · cases h
def G111 : GFun := fun call n xs H => match xs with
  | [x0] => g111 call n x0 H
  | _ => none
theorem G111_ok : GOk c111 G111 := by
  intro call n xs H r h
  unfold G111 at h
  split at h
  · rw [e111]; exact h
  · cases h
def TG : Tr GFun := (.nd (.nd (.nd (.nd (.nd (.nd (.nd .lf (some G63) .lf) none .lf) none (.nd (.nd .lf (some G79) .lf) (some G47) (.nd .lf (some G111) .lf))) none (.nd (.nd (.nd .lf (some G71) .lf) (some G39) .lf) none .lf)) (some G3) (.nd (.nd (.nd (.nd .lf (some G67) .lf) (some G35) (.nd .lf (some G99) .lf)) none (.nd (.nd .lf (some G83) .lf) (some G51) .lf)) (some G11) (.nd (.nd (.nd .lf (some G75) .lf) (some G43) .lf) (some G27) (.nd (.nd .lf (some G91) .lf) none .lf)))) none (.nd (.nd (.nd (.nd .lf none (.nd .lf (some G97) .lf)) none (.nd (.nd .lf (some G81) .lf) (some G49) .lf)) (some G9) (.nd (.nd (.nd .lf (some G73) .lf) (some G41) .lf) none .lf)) none (.nd (.nd (.nd (.nd .lf (some G69) .lf) none (.nd .lf (some G101) .lf)) none .lf) none (.nd (.nd (.nd .lf (some G77) .lf) (some G45) .lf) (some G29) .lf)))) none (.nd (.nd (.nd (.nd (.nd .lf none (.nd .lf (some G96) .lf)) (some G16) (.nd (.nd .lf (some G80) .lf) (some G48) .lf)) (some G8) (.nd (.nd (.nd .lf (some G72) .lf) (some G40) (.nd .lf (some G104) .lf)) none .lf)) none (.nd (.nd (.nd (.nd .lf (some G68) .lf) none (.nd .lf (some G100) .lf)) (some G20) .lf) none (.nd (.nd (.nd .lf (some G76) .lf) (some G44) .lf) (some G28) .lf))) none (.nd (.nd (.nd (.nd (.nd .lf (some G66) .lf) (some G34) (.nd .lf (some G98) .lf)) none (.nd (.nd .lf (some G82) .lf) (some G50) .lf)) (some G10) (.nd (.nd (.nd .lf (some G74) .lf) (some G42) .lf) (some G26) .lf)) none (.nd (.nd (.nd (.nd .lf (some G70) .lf) none .lf) none .lf) none (.nd (.nd (.nd .lf (some G78) .lf) (some G46) .lf) (some G30) (.nd .lf (some G62) .lf))))))
def TF : Tr SFunc := (.nd (.nd (.nd (.nd (.nd (.nd (.nd .lf (some c63) .lf) none .lf) none (.nd (.nd .lf (some c79) .lf) (some c47) (.nd .lf (some c111) .lf))) none (.nd (.nd (.nd .lf (some c71) .lf) (some c39) .lf) none .lf)) (some c3) (.nd (.nd (.nd (.nd .lf (some c67) .lf) (some c35) (.nd .lf (some c99) .lf)) none (.nd (.nd .lf (some c83) .lf) (some c51) .lf)) (some c11) (.nd (.nd (.nd .lf (some c75) .lf) (some c43) .lf) (some c27) (.nd (.nd .lf (some c91) .lf) none .lf)))) none (.nd (.nd (.nd (.nd .lf none (.nd .lf (some c97) .lf)) none (.nd (.nd .lf (some c81) .lf) (some c49) .lf)) (some c9) (.nd (.nd (.nd .lf (some c73) .lf) (some c41) .lf) none .lf)) none (.nd (.nd (.nd (.nd .lf (some c69) .lf) none (.nd .lf (some c101) .lf)) none .lf) none (.nd (.nd (.nd .lf (some c77) .lf) (some c45) .lf) (some c29) .lf)))) none (.nd (.nd (.nd (.nd (.nd .lf none (.nd .lf (some c96) .lf)) (some c16) (.nd (.nd .lf (some c80) .lf) (some c48) .lf)) (some c8) (.nd (.nd (.nd .lf (some c72) .lf) (some c40) (.nd .lf (some c104) .lf)) none .lf)) none (.nd (.nd (.nd (.nd .lf (some c68) .lf) none (.nd .lf (some c100) .lf)) (some c20) .lf) none (.nd (.nd (.nd .lf (some c76) .lf) (some c44) .lf) (some c28) .lf))) none (.nd (.nd (.nd (.nd (.nd .lf (some c66) .lf) (some c34) (.nd .lf (some c98) .lf)) none (.nd (.nd .lf (some c82) .lf) (some c50) .lf)) (some c10) (.nd (.nd (.nd .lf (some c74) .lf) (some c42) .lf) (some c26) .lf)) none (.nd (.nd (.nd (.nd .lf (some c70) .lf) none .lf) none .lf) none (.nd (.nd (.nd .lf (some c78) .lf) (some c46) .lf) (some c30) (.nd .lf (some c62) .lf))))))
def F : Table := { fn := fun i => TF.get i, lib := fun _ => none }
def lG : List (Nat × GFun) := [(3, G3), (8, G8), (9, G9), (10, G10), (11, G11), (16, G16), (20, G20), (26, G26), (27, G27), (28, G28), (29, G29), (30, G30), (34, G34), (35, G35), (39, G39), (40, G40), (41, G41), (42, G42), (43, G43), (44, G44), (45, G45), (46, G46), (47, G47), (48, G48), (49, G49), (50, G50), (51, G51), (62, G62), (63, G63), (66, G66), (67, G67), (68, G68), (69, G69), (70, G70), (71, G71), (72, G72), (73, G73), (74, G74), (75, G75), (76, G76), (77, G77), (78, G78), (79, G79), (80, G80), (81, G81), (82, G82), (83, G83), (91, G91), (96, G96), (97, G97), (98, G98), (99, G99), (100, G100), (101, G101), (104, G104), (111, G111)]
theorem lG_ok : GAll F lG := .cons rfl rfl G3_ok (.cons rfl rfl G8_ok (.cons rfl rfl G9_ok (.cons rfl rfl G10_ok (.cons rfl rfl G11_ok (.cons rfl rfl G16_ok (.cons rfl rfl G20_ok (.cons rfl rfl G26_ok (.cons rfl rfl G27_ok (.cons rfl rfl G28_ok (.cons rfl rfl G29_ok (.cons rfl rfl G30_ok (.cons rfl rfl G34_ok (.cons rfl rfl G35_ok (.cons rfl rfl G39_ok (.cons rfl rfl G40_ok (.cons rfl rfl G41_ok (.cons rfl rfl G42_ok (.cons rfl rfl G43_ok (.cons rfl rfl G44_ok (.cons rfl rfl G45_ok (.cons rfl rfl G46_ok (.cons rfl rfl G47_ok (.cons rfl rfl G48_ok (.cons rfl rfl G49_ok (.cons rfl rfl G50_ok (.cons rfl rfl G51_ok (.cons rfl rfl G62_ok (.cons rfl rfl G63_ok (.cons rfl rfl G66_ok (.cons rfl rfl G67_ok (.cons rfl rfl G68_ok (.cons rfl rfl G69_ok (.cons rfl rfl G70_ok (.cons rfl rfl G71_ok (.cons rfl rfl G72_ok (.cons rfl rfl G73_ok (.cons rfl rfl G74_ok (.cons rfl rfl G75_ok (.cons rfl rfl G76_ok (.cons rfl rfl G77_ok (.cons rfl rfl G78_ok (.cons rfl rfl G79_ok (.cons rfl rfl G80_ok (.cons rfl rfl G81_ok (.cons rfl rfl G82_ok (.cons rfl rfl G83_ok (.cons rfl rfl G91_ok (.cons rfl rfl G96_ok (.cons rfl rfl G97_ok (.cons rfl rfl G98_ok (.cons rfl rfl G99_ok (.cons rfl rfl G100_ok (.cons rfl rfl G101_ok (.cons rfl rfl G104_ok (.cons rfl rfl G111_ok (.nil))))))))))))))))))))))))))))))))))))))))))))))))))))))))
theorem TG_eq : treeG lG = TG := by kernel_rfl
 end
end Go.Proofs.YtjoffbhfcajcgaaDoor.Code
