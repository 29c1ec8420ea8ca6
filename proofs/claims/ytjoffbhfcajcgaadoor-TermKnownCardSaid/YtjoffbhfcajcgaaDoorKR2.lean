/- The code in direct style, going on. -/
import Derived.Test.YtjoffbhfcajcgaaDoorKC0
import Derived.Test.YtjoffbhfcajcgaaDoorRun1
set_option maxRecDepth 100000
set_option linter.unusedVariables false
set_option linter.unusedSimpArgs false
namespace Go.Proofs.YtjoffbhfcajcgaaDoor.Code
open Go Go.Sim
noncomputable section
theorem rr96 (e : Env) (H : SHeap) : resK r96 e H = some ((e.at 2), H) := by
  simp only [r96, kitR, kit, Nat.reduceEqDiff, ↓reduceIte, Nat.reduceAdd]
def g96_1 (call : Caller) (n : Nat) (t0 : SV) (H : SHeap) : Res :=
  bnd (xBuildSlice y3 (.int .i64 (.ofNat 0)) 0 [] H) fun t5 H1 =>
  pAppend 3 1 8 H1 t5 t0 fun t7 H2 =>
  some (t7, H2)
theorem e96_1 (call : Caller) (n : Nat) (e : Env) (H : SHeap) : runK call n c96_2 e H (resK r96) (fun _ _ _ => none) (resK r96) = g96_1 call n (e.at 0) H := by
  simp only [c96_2, g96_1, rr96, kit, Nat.reduceEqDiff, ↓reduceIte, Nat.reduceAdd]
/- slices.Clone[[]int,int] -/
def g96 (call : Caller) (n : Nat) (x0 : SV) (H : SHeap) : Res :=
  pEql .slice x0 .nils fun t4 =>
  condK t4 (
   some (.nils, H)) (
   g96_1 call n x0 H)
theorem e96 (call : Caller) (n : Nat) (x0 : SV) (H : SHeap) : runBodyK call n c96 [x0] H = g96 call n x0 H :=
  (bodyK_eq call n H 1 r96 b96 [x0] rfl).trans (by simp only [b96, rr96, g96, e96_1, kit, Nat.reduceEqDiff, ↓reduceIte, Nat.reduceAdd])
theorem rr97 (e : Env) (H : SHeap) : resK r97 e H = some (.tup [(e.at 4), (e.at 5)], H) := by
  simp only [r97, kitR, kit, Nat.reduceEqDiff, ↓reduceIte, Nat.reduceAdd]
def g97_1 (call : Caller) (n : Nat) (t0 t6 t7 t8 t9 : SV) (H : SHeap) : Res :=
  bnd (xBuild [(.int .i64 (.ofNat 0)), (.int .i64 (.ofNat 0)), (.int .u8 (.ofNat 0)), (.int .u8 (.ofNat 0)), (.int .i32 (.ofNat 0))] [(0, 1, (.int .i64 (.ofNat 1))), (1, 1, t6), (2, 1, t7), (3, 1, t8), (4, 1, t9)] H) fun t29 H2 =>
  pNilCheck t0 fun t30 =>
  pStore y94 t30 t29 H2 fun H3 =>
  some (.tup [(.int .i32 (.ofNat 0)), (.bool false)], H3)
theorem e97_1 (call : Caller) (n : Nat) (e : Env) (H : SHeap) : runK call n c97_2 e H (resK r97) (fun _ _ _ => none) (resK r97) = g97_1 call n (e.at 0) (e.at 6) (e.at 7) (e.at 8) (e.at 9) H := by
  simp only [c97_2, g97_1, rr97, kit, Nat.reduceEqDiff, ↓reduceIte, Nat.reduceAdd]
/- (*jalousie/decode.Decoder).first -/
def g97 (call : Caller) (n : Nat) (x0 x1 : SV) (H : SHeap) : Res :=
  bnd (call 111 [x1] H) fun t12 H1 =>
  pExtract 0 t12 fun t13 =>
  pExtract 1 t12 fun t14 =>
  pExtract 2 t12 fun t15 =>
  pExtract 3 t12 fun t16 =>
  pLss t13 (.int .i64 (.ofNat 0)) fun t19 =>
  condK t19 (
   some (.tup [(.int .i32 (.ofNat 65533)), (.bool true)], H1)) (
   pEql .no t13 (.int .i64 (.ofNat 0)) fun t22 =>
   condK t22 (
    some (.tup [t16, (.bool true)], H1)) (
    g97_1 call n x0 t13 t14 t15 t16 H1))
theorem e97 (call : Caller) (n : Nat) (x0 x1 : SV) (H : SHeap) : runBodyK call n c97 [x0, x1] H = g97 call n x0 x1 H :=
  (bodyK_eq call n H 2 r97 b97 [x0, x1] rfl).trans (by simp only [b97, rr97, g97, e97_1, kit, Nat.reduceEqDiff, ↓reduceIte, Nat.reduceAdd])
theorem rr98 (e : Env) (H : SHeap) : resK r98 e H = some (.tup [], H) := by
  simp only [r98, kitR, kit, Nat.reduceEqDiff, ↓reduceIte, Nat.reduceAdd]
/- (*jalousie/params.List).begins -/
def g98 (call : Caller) (n : Nat) (x0 : SV) (H : SHeap) : Res :=
  pNilCheck x0 fun t3 =>
  pFieldAddr 2 t3 fun t4 =>
  pStore y4 t4 (.bool false) H fun H1 =>
  pNilCheck x0 fun t7 =>
  pFieldAddr 0 t7 fun t8 =>
  pLoad y63 t8 H1 fun t9 =>
  pLenL t9 fun t10 =>
  pEql .no t10 (.int .i64 (.ofNat 16)) fun t11 =>
  pNilCheck x0 fun t12 =>
  pFieldAddr 1 t12 fun t13 =>
  pStore y4 t13 t11 H1 fun H2 =>
  pNilCheck x0 fun t15 =>
  pFieldAddr 1 t15 fun t16 =>
  pLoad y4 t16 H2 fun t17 =>
  pUn .not t17 fun t18 =>
  condK t18 (
   pNilCheck x0 fun t21 =>
   pFieldAddr 0 t21 fun t22 =>
   pLoad y63 t22 H2 fun t23 =>
   bnd (xBuildSlice y3 (.int .i64 (.ofNat 0)) 1 [(0, (.int .i64 (.ofNat 0)))] H2) fun t24 H3 =>
   bnd (xBuildSlice y81 .nils 1 [(0, t24)] H3) fun t25 H4 =>
   pAppend 81 1 24 H4 t23 t25 fun t26 H5 =>
   pNilCheck x0 fun t27 =>
   pFieldAddr 0 t27 fun t28 =>
   pStore y63 t28 t26 H5 fun H6 =>
   some (.tup [], H6)) (
   some (.tup [], H2))
theorem e98 (call : Caller) (n : Nat) (x0 : SV) (H : SHeap) : runBodyK call n c98 [x0] H = g98 call n x0 H :=
  (bodyK_eq call n H 1 r98 b98 [x0] rfl).trans (by simp only [b98, rr98, g98, kit, Nat.reduceEqDiff, ↓reduceIte, Nat.reduceAdd])
theorem rr99 (e : Env) (H : SHeap) : resK r99 e H = some ((e.at 4), H) := by
  simp only [r99, kitR, kit, Nat.reduceEqDiff, ↓reduceIte, Nat.reduceAdd]
/- jalousie/row.is -/
def g99 (call : Caller) (n : Nat) (x0 x1 : SV) (H : SHeap) : Res :=
  pGeq x1 (.int .i64 (.ofNat 0)) fun t6 =>
  bnd (guardR t6 true (some (x1, H)) H) fun t8 H1 =>
  bnd (guardR t6 true (some (x0, H1)) H1) fun t9 H2 =>
  bnd (guardR t6 true (xLenL t9 H2) H2) fun t10 H3 =>
  bnd (guardR t6 true (only H3 (sBin .lss .no t8 t10)) H3) fun t11 H4 =>
  pPick t6 t11 (.bool false) fun t12 =>
  some (t12, H4)
theorem e99 (call : Caller) (n : Nat) (x0 x1 : SV) (H : SHeap) : runBodyK call n c99 [x0, x1] H = g99 call n x0 x1 H :=
  (bodyK_eq call n H 2 r99 b99 [x0, x1] rfl).trans (by simp only [b99, rr99, g99, kit, Nat.reduceEqDiff, ↓reduceIte, Nat.reduceAdd])
theorem rr100 (e : Env) (H : SHeap) : resK r100 e H = some ((e.at 2), H) := by
  simp only [r100, kitR, kit, Nat.reduceEqDiff, ↓reduceIte, Nat.reduceAdd]
def g100_1 (call : Caller) (n : Nat) (t0 : SV) (H : SHeap) : Res :=
  bnd (xBuildSlice y39 (.agg [(.int .i32 (.ofNat 0)), (.int .u8 (.ofNat 0)), (.int .u16 (.ofNat 0)), (.int .u8 (.ofNat 0)), (.int .u32 (.ofNat 0)), (.int .u8 (.ofNat 0)), (.int .u32 (.ofNat 0))]) 0 [] H) fun t5 H1 =>
  pAppend 39 7 28 H1 t5 t0 fun t7 H2 =>
  some (t7, H2)
theorem e100_1 (call : Caller) (n : Nat) (e : Env) (H : SHeap) : runK call n c100_2 e H (resK r100) (fun _ _ _ => none) (resK r100) = g100_1 call n (e.at 0) H := by
  simp only [c100_2, g100_1, rr100, kit, Nat.reduceEqDiff, ↓reduceIte, Nat.reduceAdd]
/- slices.Clone[[]jalousie/api.Cell,jalousie/api.Cell] -/
def g100 (call : Caller) (n : Nat) (x0 : SV) (H : SHeap) : Res :=
  pEql .slice x0 .nils fun t4 =>
  condK t4 (
   some (.nils, H)) (
   g100_1 call n x0 H)
theorem e100 (call : Caller) (n : Nat) (x0 : SV) (H : SHeap) : runBodyK call n c100 [x0] H = g100 call n x0 H :=
  (bodyK_eq call n H 1 r100 b100 [x0] rfl).trans (by simp only [b100, rr100, g100, e100_1, kit, Nat.reduceEqDiff, ↓reduceIte, Nat.reduceAdd])
theorem rr101 (e : Env) (H : SHeap) : resK r101 e H = some (.tup [], H) := by
  simp only [r101, kitR, kit, Nat.reduceEqDiff, ↓reduceIte, Nat.reduceAdd]
def g101_1 (call : Caller) (n : Nat) (t0 t1 t19 : SV) (H : SHeap) : Res :=
  condK t19 (
   pSub t1 (.int .i64 (.ofNat 1)) fun t22 =>
   pSub t1 (.int .i64 (.ofNat 1)) fun t27 =>
   pIdxAddrL 7 t0 t27 H fun t28 =>
   pFieldAddr 2 t28 fun t29 =>
   pLoad y37 t29 H fun t30 =>
   bnd (call 104 [t30] H) fun t31 H6 =>
   pIdxAddrL 7 t0 t1 H6 fun t34 =>
   pFieldAddr 2 t34 fun t35 =>
   pLoad y37 t35 H6 fun t36 =>
   bnd (call 104 [t36] H6) fun t37 H7 =>
   pIdxAddrL 7 t0 t22 H7 fun t38 =>
   pStore y39 t38 t31 H7 fun H8 =>
   pIdxAddrL 7 t0 t1 H8 fun t39 =>
   pStore y39 t39 t37 H8 fun H9 =>
   lookK t34 (xIdxAddrL 7 t0 t1 H) <|
   lookK t36 (xLoad y37 t35 H) <|
   some (.tup [], H9)) (
   some (.tup [], H))
theorem e101_1 (call : Caller) (n : Nat) (e : Env) (H : SHeap) : runK call n c101_2 e H (resK r101) (fun _ _ _ => none) (resK r101) = g101_1 call n (e.at 0) (e.at 1) (e.at 19) H := by
  simp only [c101_2, g101_1, rr101, kit, Nat.reduceEqDiff, ↓reduceIte, Nat.reduceAdd]
def g101_3 (call : Caller) (n : Nat) (t0 t1 t12 t13 : SV) (H : SHeap) : Res :=
  bnd (guardR t12 true (some (t1, H)) H) fun t14 H10 =>
  bnd (guardR t12 true (xIdxAddrL 7 t13 t14 H10) H10) fun t15 H11 =>
  bnd (guardR t12 true (xFieldAddr 1 t15 H11) H11) fun t16 H12 =>
  bnd (guardR t12 true (xLoad y5 t16 H12) H12) fun t17 H13 =>
  bnd (guardR t12 true (only H13 (sBin .eql .no t17 (.int .u8 (.ofNat 2)))) H13) fun t18 H14 =>
  pPick t12 t18 (.bool false) fun t19 =>
  g101_1 call n t0 t1 t19 H14
theorem e101_3 (call : Caller) (n : Nat) (e : Env) (H : SHeap) : runOpsK call o101_4 e H (fun e H => g101_1 call n (e.at 0) (e.at 1) (e.at 19) H) = g101_3 call n (e.at 0) (e.at 1) (e.at 12) (e.at 13) H := by
  simp only [o101_4, g101_3, rr101, e101_1, kit, Nat.reduceEqDiff, ↓reduceIte, Nat.reduceAdd]
/- jalousie/row.parts -/
def g101 (call : Caller) (n : Nat) (x0 x1 : SV) (H : SHeap) : Res :=
  pGtr x1 (.int .i64 (.ofNat 0)) fun t5 =>
  bnd (guardR t5 true (some (x1, H)) H) fun t7 H1 =>
  bnd (guardR t5 true (some (x0, H1)) H1) fun t8 H2 =>
  bnd (guardR t5 true (xLenL t8 H2) H2) fun t9 H3 =>
  bnd (guardR t5 true (only H3 (sBin .lss .no t7 t9)) H3) fun t10 H4 =>
  pPick t5 t10 (.bool false) fun t11 =>
  bnd (guardR t11 true (some (x0, H4)) H4) fun t13 H5 =>
  g101_3 call n x0 x1 t11 t13 H5
theorem e101 (call : Caller) (n : Nat) (x0 x1 : SV) (H : SHeap) : runBodyK call n c101 [x0, x1] H = g101 call n x0 x1 H :=
  (bodyK_eq call n H 2 r101 b101 [x0, x1] rfl).trans (by simp only [b101, rr101, g101, e101_1, e101_3, kit, Nat.reduceEqDiff, ↓reduceIte, Nat.reduceAdd])
theorem rr104 (e : Env) (H : SHeap) : resK r104 e H = pLoad y39 (e.at 2) H fun w0 => some (w0, H) := by
  simp only [r104, kitR, kit, Nat.reduceEqDiff, ↓reduceIte, Nat.reduceAdd]
/- jalousie/row.blank -/
def g104 (call : Caller) (n : Nat) (x0 : SV) (H : SHeap) : Res :=
  bnd (xBox y37 x0 H) fun t1 H1 =>
  pAlloc y39 (.agg [(.int .i32 (.ofNat 0)), (.int .u8 (.ofNat 0)), (.int .u16 (.ofNat 0)), (.int .u8 (.ofNat 0)), (.int .u32 (.ofNat 0)), (.int .u8 (.ofNat 0)), (.int .u32 (.ofNat 0))]) H1 fun t2 H2 =>
  pLoad y37 t1 H2 fun t3 =>
  bnd (xBuild [(.int .i32 (.ofNat 0)), (.int .u8 (.ofNat 0)), (.int .u16 (.ofNat 0)), (.int .u8 (.ofNat 0)), (.int .u32 (.ofNat 0)), (.int .u8 (.ofNat 0)), (.int .u32 (.ofNat 0))] [(0, 1, (.int .i32 (.ofNat 32))), (2, 5, t3)] H2) fun t4 H3 =>
  pStore y39 t2 t4 H3 fun H4 =>
  pLoad y39 t2 H4 fun w1 =>
  some (w1, H4)
theorem e104 (call : Caller) (n : Nat) (x0 : SV) (H : SHeap) : runBodyK call n c104 [x0] H = g104 call n x0 H :=
  (bodyK_eq call n H 1 r104 b104 [x0] rfl).trans (by simp only [b104, rr104, g104, kit, Nat.reduceEqDiff, ↓reduceIte, Nat.reduceAdd])
theorem rr111 (e : Env) (H : SHeap) : resK r111 e H = some (.tup [(e.at 2), (e.at 3), (e.at 4), (e.at 5)], H) := by
  simp only [r111, kitR, kit, Nat.reduceEqDiff, ↓reduceIte, Nat.reduceAdd]
def g111_1 (call : Caller) (n : Nat) (t0 : SV) (H : SHeap) : Res :=
  pBin .and t0 (.int .u8 (.ofNat 7)) fun t49 =>
  pToInt .i32 t49 fun t50 =>
  some (.tup [(.int .i64 (.ofNat 3)), (.int .u8 (.ofNat 128)), (.int .u8 (.ofNat 191)), t50], H)
theorem e111_1 (call : Caller) (n : Nat) (e : Env) (H : SHeap) : runK call n c111_2 e H (resK r111) (fun _ _ _ => none) (resK r111) = g111_1 call n (e.at 0) H := by
  simp only [c111_2, g111_1, rr111, kit, Nat.reduceEqDiff, ↓reduceIte, Nat.reduceAdd]
/- jalousie/decode.begins -/
def g111 (call : Caller) (n : Nat) (x0 : SV) (H : SHeap) : Res :=
  pLss x0 (.int .u8 (.ofNat 128)) fun t8 =>
  condK t8 (
   pToInt .i32 x0 fun t10 =>
   some (.tup [(.int .i64 (.ofNat 0)), (.int .u8 (.ofNat 0)), (.int .u8 (.ofNat 0)), t10], H)) (
   pLss x0 (.int .u8 (.ofNat 194)) fun t13 =>
   bnd (guardR t13 false (some (x0, H)) H) fun t15 H1 =>
   bnd (guardR t13 false (only H1 (sBin .gtr .no t15 (.int .u8 (.ofNat 244)))) H1) fun t16 H2 =>
   pPick t13 (.bool true) t16 fun t17 =>
   condK t17 (
    some (.tup [(.int .i64 (.negSucc 0)), (.int .u8 (.ofNat 0)), (.int .u8 (.ofNat 0)), (.int .i32 (.ofNat 0))], H2)) (
    pLss x0 (.int .u8 (.ofNat 224)) fun t20 =>
    condK t20 (
     pBin .and x0 (.int .u8 (.ofNat 31)) fun t22 =>
     pToInt .i32 t22 fun t23 =>
     some (.tup [(.int .i64 (.ofNat 1)), (.int .u8 (.ofNat 128)), (.int .u8 (.ofNat 191)), t23], H2)) (
     pEql .no x0 (.int .u8 (.ofNat 224)) fun t26 =>
     condK t26 (
      some (.tup [(.int .i64 (.ofNat 2)), (.int .u8 (.ofNat 160)), (.int .u8 (.ofNat 191)), (.int .i32 (.ofNat 0))], H2)) (
      pEql .no x0 (.int .u8 (.ofNat 237)) fun t29 =>
      condK t29 (
       pBin .and x0 (.int .u8 (.ofNat 15)) fun t31 =>
       pToInt .i32 t31 fun t32 =>
       some (.tup [(.int .i64 (.ofNat 2)), (.int .u8 (.ofNat 128)), (.int .u8 (.ofNat 159)), t32], H2)) (
       pLss x0 (.int .u8 (.ofNat 240)) fun t35 =>
       condK t35 (
        pBin .and x0 (.int .u8 (.ofNat 15)) fun t37 =>
        pToInt .i32 t37 fun t38 =>
        some (.tup [(.int .i64 (.ofNat 2)), (.int .u8 (.ofNat 128)), (.int .u8 (.ofNat 191)), t38], H2)) (
        pEql .no x0 (.int .u8 (.ofNat 240)) fun t41 =>
        condK t41 (
         some (.tup [(.int .i64 (.ofNat 3)), (.int .u8 (.ofNat 144)), (.int .u8 (.ofNat 191)), (.int .i32 (.ofNat 0))], H2)) (
         pEql .no x0 (.int .u8 (.ofNat 244)) fun t44 =>
         condK t44 (
          pBin .and x0 (.int .u8 (.ofNat 7)) fun t46 =>
          pToInt .i32 t46 fun t47 =>
          some (.tup [(.int .i64 (.ofNat 3)), (.int .u8 (.ofNat 128)), (.int .u8 (.ofNat 143)), t47], H2)) (
          g111_1 call n x0 H2))))))))
theorem e111 (call : Caller) (n : Nat) (x0 : SV) (H : SHeap) : runBodyK call n c111 [x0] H = g111 call n x0 H :=
  (bodyK_eq call n H 1 r111 b111 [x0] rfl).trans (by simp only [b111, rr111, g111, e111_1, kit, Nat.reduceEqDiff, ↓reduceIte, Nat.reduceAdd])
 end
end Go.Proofs.YtjoffbhfcajcgaaDoor.Code
