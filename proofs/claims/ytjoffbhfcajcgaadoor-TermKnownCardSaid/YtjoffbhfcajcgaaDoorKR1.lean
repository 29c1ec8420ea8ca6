/- The code in direct style, going on. -/
import Derived.Test.YtjoffbhfcajcgaaDoorKC0
import Derived.Test.YtjoffbhfcajcgaaDoorRun1
set_option maxRecDepth 100000
set_option linter.unusedVariables false
set_option linter.unusedSimpArgs false
namespace Go.Proofs.YtjoffbhfcajcgaaDoor.Code
open Go Go.Sim
noncomputable section
theorem rr44 (e : Env) (H : SHeap) : resK r44 e H = some (.tup [], H) := by
  simp only [r44, kitR, kit, Nat.reduceEqDiff, ↓reduceIte, Nat.reduceAdd]
def g44_1 (call : Caller) (n : Nat) (t0 : SV) (H : SHeap) : Res :=
  pNilCheck t0 fun t8 =>
  pFieldAddr 0 t8 fun t9 =>
  bnd (call 73 [t9] H) fun t10 H2 =>
  pExtract 0 t10 fun t11 =>
  pExtract 1 t10 fun t12 =>
  condK t12 (
   bnd (xBuildSlice y21 (.int .i32 (.ofNat 0)) 1 [(0, t11)] H2) fun t16 H3 =>
   bnd (call 74 [t0, t16] H3) fun t17 H4 =>
   some (.tup [], H4)) (
   some (.tup [], H2))
theorem e44_1 (call : Caller) (n : Nat) (e : Env) (H : SHeap) : runK call n c44_2 e H (resK r44) (fun _ _ _ => none) (resK r44) = g44_1 call n (e.at 0) H := by
  simp only [c44_2, g44_1, rr44, kit, Nat.reduceEqDiff, ↓reduceIte, Nat.reduceAdd]
/- (*jalousie/events.Parser).End -/
def g44 (call : Caller) (n : Nat) (x0 : SV) (H : SHeap) : Res :=
  bnd (xSamePtr false x0 .nilp H) fun t5 H1 =>
  condK t5 (
   some (.tup [], H1)) (
   g44_1 call n x0 H1)
theorem e44 (call : Caller) (n : Nat) (x0 : SV) (H : SHeap) : runBodyK call n c44 [x0] H = g44 call n x0 H :=
  (bodyK_eq call n H 1 r44 b44 [x0] rfl).trans (by simp only [b44, rr44, g44, e44_1, kit, Nat.reduceEqDiff, ↓reduceIte, Nat.reduceAdd])
theorem rr45 (e : Env) (H : SHeap) : resK r45 e H = some ((e.at 4), H) := by
  simp only [r45, kitR, kit, Nat.reduceEqDiff, ↓reduceIte, Nat.reduceAdd]
/- jalousie/states.Ends -/
def g45 (call : Caller) (n : Nat) (x0 x1 : SV) (H : SHeap) : Res :=
  pNeq .no x1 x0 fun t7 =>
  bnd (guardR t7 true (some (x0, H)) H) fun t9 H1 =>
  bnd (guardR t7 true (only H1 (sBin .eql .no t9 (.int .i64 (.ofNat 10)))) H1) fun t10 H2 =>
  bnd (guardR t7 true (some (t10, H2)) H2) fun t11 H3 =>
  bnd (guardR t11 false (some (x0, H3)) H3) fun t12 H4 =>
  bnd (guardR t11 false (only H4 (sBin .eql .no t12 (.int .i64 (.ofNat 12)))) H4) fun t13 H5 =>
  bnd (guardR t7 true (xPick t11 (.bool true) t13 H5) H5) fun t14 H6 =>
  pPick t7 t14 (.bool false) fun t15 =>
  some (t15, H6)
theorem e45 (call : Caller) (n : Nat) (x0 x1 : SV) (H : SHeap) : runBodyK call n c45 [x0, x1] H = g45 call n x0 x1 H :=
  (bodyK_eq call n H 2 r45 b45 [x0, x1] rfl).trans (by simp only [b45, rr45, g45, kit, Nat.reduceEqDiff, ↓reduceIte, Nat.reduceAdd])
theorem rr46 (e : Env) (H : SHeap) : resK r46 e H = some (.tup [], H) := by
  simp only [r46, kitR, kit, Nat.reduceEqDiff, ↓reduceIte, Nat.reduceAdd]
def g46_1 (call : Caller) (n : Nat) (t0 t4 : SV) (H : SHeap) : Res :=
  condK t4 (
   some (.tup [], H)) (
   pNilCheck t0 fun t19 =>
   pFieldAddr 5 t19 fun t20 =>
   pLoad y3 t20 H fun t21 =>
   pEql .no t21 (.int .i64 (.ofNat 12)) fun t22 =>
   condK t22 (
    pNilCheck t0 fun t25 =>
    pFieldAddr 12 t25 fun t26 =>
    pLoad y58 t26 H fun t27 =>
    bnd (xBToS t27 H) fun t28 H6 =>
    bnd (xBuild [(.int .i64 (.ofNat 0)), (.int .i32 (.ofNat 0)), (.int .u8 (.ofNat 0)), (.str []), .nils, (.str [])] [(0, 1, (.int .i64 (.ofNat 5))), (5, 1, t28)] H6) fun t29 H7 =>
    bnd (call 75 [t0, t29] H7) fun t30 H8 =>
    some (.tup [], H8)) (
    pNilCheck t0 fun t33 =>
    pFieldAddr 10 t33 fun t34 =>
    pLoad y4 t34 H fun t35 =>
    pUn .not t35 fun t36 =>
    condK t36 (
     pNilCheck t0 fun t39 =>
     pFieldAddr 11 t39 fun t40 =>
     pLoad y5 t40 H fun t41 =>
     pNilCheck t0 fun t43 =>
     pFieldAddr 9 t43 fun t44 =>
     pLoad y9 t44 H fun t45 =>
     pNilCheck t0 fun t47 =>
     pFieldAddr 6 t47 fun t48 =>
     bnd (call 76 [t48] H) fun t49 H9 =>
     pNilCheck t0 fun t51 =>
     pFieldAddr 12 t51 fun t52 =>
     pLoad y58 t52 H9 fun t53 =>
     bnd (xBToS t53 H9) fun t54 H10 =>
     bnd (xBuild [(.int .i64 (.ofNat 0)), (.int .i32 (.ofNat 0)), (.int .u8 (.ofNat 0)), (.str []), .nils, (.str [])] [(0, 1, (.int .i64 (.ofNat 6))), (2, 1, t41), (3, 1, t45), (4, 1, t49), (5, 1, t54)] H10) fun t55 H11 =>
     bnd (call 75 [t0, t55] H11) fun t56 H12 =>
     lookK t41 (xLoad y5 t40 H9) <|
     lookK t45 (xLoad y9 t44 H9) <|
     lookK t53 (xLoad y58 t52 H) <|
     lookK t54 (xBToS t53 H) <|
     some (.tup [], H12)) (
     some (.tup [], H))))
theorem e46_1 (call : Caller) (n : Nat) (e : Env) (H : SHeap) : runK call n c46_2 e H (resK r46) (fun i e H => if i = 0 then (some (.tup [], H)) else none) (resK r46) = g46_1 call n (e.at 0) (e.at 4) H := by
  simp only [c46_2, g46_1, rr46, kit, Nat.reduceEqDiff, ↓reduceIte, Nat.reduceAdd]
def g46_3 (call : Caller) (n : Nat) (t0 t11 t14 : SV) (H : SHeap) : Res :=
  bnd (guardR t11 false (xLoad y4 t14 H) H) fun t15 H13 =>
  pPick t11 (.bool true) t15 fun t16 =>
  g46_1 call n t0 t16 H13
theorem e46_3 (call : Caller) (n : Nat) (e : Env) (H : SHeap) : runOpsK call o46_4 e H (fun e H => g46_1 call n (e.at 0) (e.at 4) H) = g46_3 call n (e.at 0) (e.at 11) (e.at 14) H := by
  simp only [o46_4, g46_3, rr46, e46_1, kit, Nat.reduceEqDiff, ↓reduceIte, Nat.reduceAdd]
/- (*jalousie/events.Parser).ends -/
def g46 (call : Caller) (n : Nat) (x0 x1 : SV) (H : SHeap) : Res :=
  pEql .no x1 (.int .u8 (.ofNat 24)) fun t6 =>
  bnd (guardR t6 false (some (x1, H)) H) fun t8 H1 =>
  bnd (guardR t6 false (only H1 (sBin .eql .no t8 (.int .u8 (.ofNat 26)))) H1) fun t9 H2 =>
  pPick t6 (.bool true) t9 fun t10 =>
  bnd (guardR t10 false (some (x0, H2)) H2) fun t12 H3 =>
  bnd (guardR t10 false (xNilCheck t12 H3) H3) fun t13 H4 =>
  bnd (guardR t10 false (xFieldAddr 13 t13 H4) H4) fun t14 H5 =>
  g46_3 call n x0 t10 t14 H5
theorem e46 (call : Caller) (n : Nat) (x0 x1 : SV) (H : SHeap) : runBodyK call n c46 [x0, x1] H = g46 call n x0 x1 H :=
  (bodyK_eq call n H 2 r46 b46 [x0, x1] rfl).trans (by simp only [b46, rr46, g46, e46_1, e46_3, kit, Nat.reduceEqDiff, ↓reduceIte, Nat.reduceAdd])
theorem rr47 (e : Env) (H : SHeap) : resK r47 e H = some ((e.at 4), H) := by
  simp only [r47, kitR, kit, Nat.reduceEqDiff, ↓reduceIte, Nat.reduceAdd]
def g47_1 (call : Caller) (n : Nat) (t4 : SV) (H : SHeap) : Res :=
  some (t4, H)
theorem e47_1 (call : Caller) (n : Nat) (e : Env) (H : SHeap) : runK call n c47_2 e H (resK r47) (fun _ _ _ => none) (resK r47) = g47_1 call n (e.at 4) H := by
  simp only [c47_2, g47_1, rr47, kit, Nat.reduceEqDiff, ↓reduceIte, Nat.reduceAdd]
def g47_3 (call : Caller) (n : Nat) (t1 t8 t14 : SV) (H : SHeap) : Res :=
  bnd (guardR t8 true (some (t14, H)) H) fun t15 H7 =>
  bnd (guardR t15 false (some (t1, H7)) H7) fun t16 H8 =>
  bnd (guardR t15 false (only H8 (sBin .eql .no t16 (.int .i64 (.ofNat 7)))) H8) fun t17 H9 =>
  bnd (guardR t8 true (xPick t15 (.bool true) t17 H9) H9) fun t18 H10 =>
  bnd (guardR t8 true (some (t18, H10)) H10) fun t19 H11 =>
  bnd (guardR t19 false (some (t1, H11)) H11) fun t20 H12 =>
  bnd (guardR t19 false (only H12 (sBin .eql .no t20 (.int .i64 (.ofNat 12)))) H12) fun t21 H13 =>
  bnd (guardR t8 true (xPick t19 (.bool true) t21 H13) H13) fun t22 H14 =>
  pPick t8 t22 (.bool false) fun t23 =>
  g47_1 call n t23 H14
theorem e47_3 (call : Caller) (n : Nat) (e : Env) (H : SHeap) : runOpsK call o47_4 e H (fun e H => g47_1 call n (e.at 4) H) = g47_3 call n (e.at 1) (e.at 8) (e.at 14) H := by
  simp only [o47_4, g47_3, rr47, e47_1, kit, Nat.reduceEqDiff, ↓reduceIte, Nat.reduceAdd]
/- jalousie/states.Clears -/
def g47 (call : Caller) (n : Nat) (x0 x1 : SV) (H : SHeap) : Res :=
  pNeq .no x1 x0 fun t7 =>
  bnd (guardR t7 true (some (x1, H)) H) fun t9 H1 =>
  bnd (guardR t7 true (only H1 (sBin .eql .no t9 (.int .i64 (.ofNat 1)))) H1) fun t10 H2 =>
  bnd (guardR t7 true (some (t10, H2)) H2) fun t11 H3 =>
  bnd (guardR t11 false (some (x1, H3)) H3) fun t12 H4 =>
  bnd (guardR t11 false (only H4 (sBin .eql .no t12 (.int .i64 (.ofNat 3)))) H4) fun t13 H5 =>
  bnd (guardR t7 true (xPick t11 (.bool true) t13 H5) H5) fun t14 H6 =>
  g47_3 call n x1 t7 t14 H6
theorem e47 (call : Caller) (n : Nat) (x0 x1 : SV) (H : SHeap) : runBodyK call n c47 [x0, x1] H = g47 call n x0 x1 H :=
  (bodyK_eq call n H 2 r47 b47 [x0, x1] rfl).trans (by simp only [b47, rr47, g47, e47_1, e47_3, kit, Nat.reduceEqDiff, ↓reduceIte, Nat.reduceAdd])
theorem rr48 (e : Env) (H : SHeap) : resK r48 e H = some (.tup [], H) := by
  simp only [r48, kitR, kit, Nat.reduceEqDiff, ↓reduceIte, Nat.reduceAdd]
/- (*jalousie/params.List).Clear -/
def g48 (call : Caller) (n : Nat) (x0 : SV) (H : SHeap) : Res :=
  bnd (xSamePtr true x0 .nilp H) fun t3 H1 =>
  condK t3 (
   bnd (xBuild [.nils, (.bool false), (.bool false)] [] H1) fun t5 H2 =>
   pNilCheck x0 fun t6 =>
   pStore y96 t6 t5 H2 fun H3 =>
   some (.tup [], H3)) (
   some (.tup [], H1))
theorem e48 (call : Caller) (n : Nat) (x0 : SV) (H : SHeap) : runBodyK call n c48 [x0] H = g48 call n x0 H :=
  (bodyK_eq call n H 1 r48 b48 [x0] rfl).trans (by simp only [b48, rr48, g48, kit, Nat.reduceEqDiff, ↓reduceIte, Nat.reduceAdd])
theorem rr49 (e : Env) (H : SHeap) : resK r49 e H = some (.tup [], H) := by
  simp only [r49, kitR, kit, Nat.reduceEqDiff, ↓reduceIte, Nat.reduceAdd]
def g49_1 (call : Caller) (n : Nat) (t0 t2 : SV) (H : SHeap) : Res :=
  pNilCheck t0 fun t47 =>
  pFieldAddr 10 t47 fun t48 =>
  pLoad y4 t48 H fun t49 =>
  pUn .not t49 fun t50 =>
  condK t50 (
   pNilCheck t0 fun t52 =>
   pFieldAddr 9 t52 fun t53 =>
   pLoad y9 t53 H fun t54 =>
   bnd (xBuildSlice y5 (.int .u8 (.ofNat 0)) 1 [(0, t2)] H) fun t56 H12 =>
   bnd (xBToS t56 H12) fun t57 H13 =>
   pAdd t54 t57 fun t58 =>
   pNilCheck t0 fun t59 =>
   pFieldAddr 9 t59 fun t60 =>
   pStore y9 t60 t58 H13 fun H14 =>
   lookK t54 (xLoad y9 t53 H12) <|
   some (.tup [], H14)) (
   some (.tup [], H))
theorem e49_1 (call : Caller) (n : Nat) (e : Env) (H : SHeap) : runK call n c49_2 e H (resK r49) (fun i e H => if i = 0 then (some (.tup [], H)) else none) (resK r49) = g49_1 call n (e.at 0) (e.at 2) H := by
  simp only [c49_2, g49_1, rr49, kit, Nat.reduceEqDiff, ↓reduceIte, Nat.reduceAdd]
def g49_3 (call : Caller) (n : Nat) (t0 t2 t31 t36 t40 : SV) (H : SHeap) : Res :=
  bnd (guardR t36 false (xLenS t40 H) H) fun t41 H15 =>
  bnd (guardR t36 false (only H15 (sBin .eql .no t41 (.int .i64 (.ofNat 2)))) H15) fun t42 H16 =>
  pPick t36 (.bool true) t42 fun t43 =>
  pNilCheck t31 fun t44 =>
  pFieldAddr 10 t44 fun t45 =>
  pStore y4 t45 t43 H16 fun H17 =>
  g49_1 call n t0 t2 H17
theorem e49_3 (call : Caller) (n : Nat) (e : Env) (H : SHeap) : runOpsK call o49_4 e H (fun e H => g49_1 call n (e.at 0) (e.at 2) H) = g49_3 call n (e.at 0) (e.at 2) (e.at 31) (e.at 36) (e.at 40) H := by
  simp only [o49_4, g49_3, rr49, e49_1, kit, Nat.reduceEqDiff, ↓reduceIte, Nat.reduceAdd]
def g49_5 (call : Caller) (n : Nat) (t0 t1 t2 t8 t68 : SV) (H : SHeap) : Res :=
  condK t68 (
   bnd (call 79 [t0, t1, t2] H) fun t74 H19 =>
   some (.tup [], H19)) (
   pEql .no t8 (.int .i64 (.ofNat 7)) fun t76 =>
   condK t76 (
    pNilCheck t0 fun t79 =>
    pFieldAddr 11 t79 fun t80 =>
    pStore y5 t80 t2 H fun H20 =>
    some (.tup [], H20)) (
    pEql .no t8 (.int .i64 (.ofNat 8)) fun t82 =>
    condK t82 (
     bnd (call 80 [t0, t2] H) fun t85 H21 =>
     some (.tup [], H21)) (
     some (.tup [], H))))
theorem e49_5 (call : Caller) (n : Nat) (e : Env) (H : SHeap) : runK call n c49_6 e H (resK r49) (fun i e H => if i = 0 then (some (.tup [], H)) else none) (resK r49) = g49_5 call n (e.at 0) (e.at 1) (e.at 2) (e.at 8) (e.at 68) H := by
  simp only [c49_6, g49_5, rr49, e49_1, e49_3, kit, Nat.reduceEqDiff, ↓reduceIte, Nat.reduceAdd]
/- (*jalousie/events.Parser).does -/
def g49 (call : Caller) (n : Nat) (x0 x1 x2 : SV) (H : SHeap) : Res :=
  pEql .no x1 (.int .i64 (.ofNat 1)) fun t10 =>
  condK t10 (
   pNilCheck x0 fun t13 =>
   pFieldAddr 0 t13 fun t14 =>
   bnd (call 77 [t14, x2] H) fun t16 H1 =>
   pExtract 0 t16 fun t17 =>
   pExtract 1 t16 fun t18 =>
   pAlloc y125 (.agg [(.int .i32 (.ofNat 0)), (.int .i32 (.ofNat 0))]) H1 fun t6 H2 =>
   pStore y125 t6 t17 H2 fun H3 =>
   bnd (only H3 (sSliceA 2 1 H3 t6 none (some t18) none)) fun t21 H4 =>
   bnd (call 74 [x0, t21] H4) fun t22 H5 =>
   some (.tup [], H5)) (
   pEql .no x1 (.int .i64 (.ofNat 2)) fun t24 =>
   condK t24 (
    bnd (xBuild [(.int .i64 (.ofNat 0)), (.int .i32 (.ofNat 0)), (.int .u8 (.ofNat 0)), (.str []), .nils, (.str [])] [(0, 1, (.int .i64 (.ofNat 2))), (2, 1, x2)] H) fun t27 H6 =>
    bnd (call 75 [x0, t27] H6) fun t28 H7 =>
    some (.tup [], H7)) (
    pEql .no x1 (.int .i64 (.ofNat 3)) fun t30 =>
    condK t30 (
     pNilCheck x0 fun t33 =>
     pFieldAddr 10 t33 fun t34 =>
     pLoad y4 t34 H fun t35 =>
     bnd (guardR t35 false (some (x0, H)) H) fun t37 H8 =>
     bnd (guardR t35 false (xNilCheck t37 H8) H8) fun t38 H9 =>
     bnd (guardR t35 false (xFieldAddr 9 t38 H9) H9) fun t39 H10 =>
     bnd (guardR t35 false (xLoad y9 t39 H10) H10) fun t40 H11 =>
     g49_3 call n x0 x2 x0 t35 t40 H11) (
     pEql .no x1 (.int .i64 (.ofNat 4)) fun t62 =>
     condK t62 (
      pNilCheck x0 fun t64 =>
      pFieldAddr 6 t64 fun t65 =>
      bnd (call 78 [t65, x2] H) fun t67 H18 =>
      some (.tup [], H18)) (
      pEql .no x1 (.int .i64 (.ofNat 5)) fun t69 =>
      condK t69 (
       g49_5 call n x0 x1 x2 x1 t69 H) (
       pEql .no x1 (.int .i64 (.ofNat 6)) fun t70 =>
       g49_5 call n x0 x1 x2 x1 t70 H)))))
theorem e49 (call : Caller) (n : Nat) (x0 x1 x2 : SV) (H : SHeap) : runBodyK call n c49 [x0, x1, x2] H = g49 call n x0 x1 x2 H :=
  (bodyK_eq call n H 3 r49 b49 [x0, x1, x2] rfl).trans (by simp only [b49, rr49, g49, e49_1, e49_3, e49_5, kit, Nat.reduceEqDiff, ↓reduceIte, Nat.reduceAdd])
theorem rr50 (e : Env) (H : SHeap) : resK r50 e H = some (.tup [], H) := by
  simp only [r50, kitR, kit, Nat.reduceEqDiff, ↓reduceIte, Nat.reduceAdd]
def g50_1 (call : Caller) (n : Nat) (t0 t1 t4 : SV) (H : SHeap) : Res :=
  pNilCheck t0 fun t24 =>
  pFieldAddr 2 t24 fun t25 =>
  pLoad y70 t25 H fun t26 =>
  pNilCheck t0 fun t28 =>
  pFieldAddr 4 t28 fun t29 =>
  pLoad y3 t29 H fun t30 =>
  pNilCheck t0 fun t32 =>
  pFieldAddr 2 t32 fun t33 =>
  pLoad y70 t33 H fun t34 =>
  pNilCheck t0 fun t36 =>
  pFieldAddr 4 t36 fun t37 =>
  pLoad y3 t37 H fun t38 =>
  pIdxAddrL 1 t34 t38 H fun t39 =>
  pLoad y27 t39 H fun t40 =>
  pNilCheck t0 fun t42 =>
  pFieldAddr 3 t42 fun t43 =>
  pLoad y3 t43 H fun t44 =>
  pEql .no t4 (.int .i64 (.ofNat 2)) fun t47 =>
  pNilCheck t0 fun t49 =>
  pFieldAddr 5 t49 fun t50 =>
  pLoad y37 t50 H fun t51 =>
  bnd (call 82 [t40, t44, t1, t47, t51] H) fun t52 H13 =>
  pExtract 0 t52 fun t53 =>
  pExtract 1 t52 fun t54 =>
  pIdxAddrL 1 t26 t30 H13 fun t55 =>
  pStore y27 t55 t53 H13 fun H14 =>
  lookK t26 (xLoad y70 t25 H13) <|
  lookK t30 (xLoad y3 t29 H13) <|
  pNilCheck t0 fun t57 =>
  pFieldAddr 3 t57 fun t58 =>
  pLoad y3 t58 H14 fun t59 =>
  pAdd t59 t4 fun t61 =>
  pNilCheck t0 fun t62 =>
  pFieldAddr 3 t62 fun t63 =>
  pStore y3 t63 t61 H14 fun H15 =>
  some (.tup [], H15)
theorem e50_1 (call : Caller) (n : Nat) (e : Env) (H : SHeap) : runK call n c50_2 e H (resK r50) (fun _ _ _ => none) (resK r50) = g50_1 call n (e.at 0) (e.at 1) (e.at 4) H := by
  simp only [c50_2, g50_1, rr50, kit, Nat.reduceEqDiff, ↓reduceIte, Nat.reduceAdd]
/- (*jalousie/term.Term).prints -/
def g50 (call : Caller) (n : Nat) (x0 x1 : SV) (H : SHeap) : Res :=
  bnd (call 81 [x1] H) fun t6 H1 =>
  pEql .no t6 (.int .i64 (.ofNat 0)) fun t8 =>
  bnd (guardR t8 false (some (x0, H1)) H1) fun t10 H2 =>
  bnd (guardR t8 false (xNilCheck t10 H2) H2) fun t11 H3 =>
  bnd (guardR t8 false (xFieldAddr 3 t11 H3) H3) fun t12 H4 =>
  bnd (guardR t8 false (xLoad y3 t12 H4) H4) fun t13 H5 =>
  bnd (guardR t8 false (some (t6, H5)) H5) fun t14 H6 =>
  bnd (guardR t8 false (only H6 (sBin .add .no t13 t14)) H6) fun t15 H7 =>
  bnd (guardR t8 false (some (x0, H7)) H7) fun t16 H8 =>
  bnd (guardR t8 false (xNilCheck t16 H8) H8) fun t17 H9 =>
  bnd (guardR t8 false (xFieldAddr 0 t17 H9) H9) fun t18 H10 =>
  bnd (guardR t8 false (xLoad y3 t18 H10) H10) fun t19 H11 =>
  bnd (guardR t8 false (only H11 (sBin .gtr .no t15 t19)) H11) fun t20 H12 =>
  pPick t8 (.bool true) t20 fun t21 =>
  condK t21 (
   some (.tup [], H12)) (
   g50_1 call n x0 x1 t6 H12)
theorem e50 (call : Caller) (n : Nat) (x0 x1 : SV) (H : SHeap) : runBodyK call n c50 [x0, x1] H = g50 call n x0 x1 H :=
  (bodyK_eq call n H 2 r50 b50 [x0, x1] rfl).trans (by simp only [b50, rr50, g50, e50_1, kit, Nat.reduceEqDiff, ↓reduceIte, Nat.reduceAdd])
theorem rr51 (e : Env) (H : SHeap) : resK r51 e H = some (.tup [], H) := by
  simp only [r51, kitR, kit, Nat.reduceEqDiff, ↓reduceIte, Nat.reduceAdd]
def g51_2 (call : Caller) (n : Nat) (t0 t3 t80 : SV) (H : SHeap) : Res :=
  condK t80 (
   pFieldAddr 2 t3 fun t82 =>
   pLoad y5 t82 H fun t83 =>
   pEql .no t83 (.int .u8 (.ofNat 108)) fun t84 =>
   pNilCheck t0 fun t85 =>
   pFieldAddr 10 t85 fun t86 =>
   pStore y4 t86 t84 H fun H19 =>
   some (.tup [], H19)) (
   some (.tup [], H))
theorem e51_2 (call : Caller) (n : Nat) (e : Env) (H : SHeap) : runK call n c51_3 e H (resK r51) (fun i e H => if i = 0 then (some (.tup [], H)) else none) (resK r51) = g51_2 call n (e.at 0) (e.at 3) (e.at 80) H := by
  simp only [c51_3, g51_2, rr51, kit, Nat.reduceEqDiff, ↓reduceIte, Nat.reduceAdd]
def g51_4 (call : Caller) (n : Nat) (t0 t3 t64 t69 : SV) (H : SHeap) : Res :=
  bnd (guardR t64 true (only H (sBin .eql .no t69 (.int .i64 (.ofNat 1)))) H) fun t70 H20 =>
  pPick t64 t70 (.bool false) fun t71 =>
  bnd (guardR t71 true (xFieldAddr 4 t3 H20) H20) fun t73 H21 =>
  bnd (guardR t71 true (xLoad y63 t73 H21) H21) fun t74 H22 =>
  bnd (guardR t71 true (xIdxAddrL 1 t74 (.int .i64 (.ofNat 0)) H22) H22) fun t75 H23 =>
  bnd (guardR t71 true (xLoad y81 t75 H23) H23) fun t76 H24 =>
  bnd (guardR t71 true (xIdxAddrL 1 t76 (.int .i64 (.ofNat 0)) H24) H24) fun t77 H25 =>
  bnd (guardR t71 true (xLoad y3 t77 H25) H25) fun t78 H26 =>
  bnd (guardR t71 true (only H26 (sBin .eql .no t78 (.int .i64 (.ofNat 25)))) H26) fun t79 H27 =>
  pPick t71 t79 (.bool false) fun t80 =>
  g51_2 call n t0 t3 t80 H27
theorem e51_4 (call : Caller) (n : Nat) (e : Env) (H : SHeap) : runOpsK call o51_5 e H (fun e H => g51_2 call n (e.at 0) (e.at 3) (e.at 80) H) = g51_4 call n (e.at 0) (e.at 3) (e.at 64) (e.at 69) H := by
  simp only [o51_5, g51_4, rr51, e51_2, kit, Nat.reduceEqDiff, ↓reduceIte, Nat.reduceAdd]
def g51_1 (call : Caller) (n : Nat) (t0 t3 t57 : SV) (H : SHeap) : Res :=
  condK t57 (
   pFieldAddr 4 t3 fun t60 =>
   pLoad y63 t60 H fun t61 =>
   pLenL t61 fun t62 =>
   pEql .no t62 (.int .i64 (.ofNat 1)) fun t63 =>
   bnd (guardR t63 true (xFieldAddr 4 t3 H) H) fun t65 H14 =>
   bnd (guardR t63 true (xLoad y63 t65 H14) H14) fun t66 H15 =>
   bnd (guardR t63 true (xIdxAddrL 1 t66 (.int .i64 (.ofNat 0)) H15) H15) fun t67 H16 =>
   bnd (guardR t63 true (xLoad y81 t67 H16) H16) fun t68 H17 =>
   bnd (guardR t63 true (xLenL t68 H17) H17) fun t69 H18 =>
   g51_4 call n t0 t3 t63 t69 H18) (
   some (.tup [], H))
theorem e51_1 (call : Caller) (n : Nat) (e : Env) (H : SHeap) : runK call n c51_6 e H (resK r51) (fun i e H => if i = 0 then (some (.tup [], H)) else none) (resK r51) = g51_1 call n (e.at 0) (e.at 3) (e.at 57) H := by
  simp only [c51_6, g51_1, rr51, e51_2, e51_4, kit, Nat.reduceEqDiff, ↓reduceIte, Nat.reduceAdd]
/- (*jalousie/term.Term).csi -/
def g51 (call : Caller) (n : Nat) (x0 x1 : SV) (H : SHeap) : Res :=
  bnd (xBox y74 x1 H) fun t3 H1 =>
  pFieldAddr 3 t3 fun t4 =>
  pLoad y9 t4 H1 fun t5 =>
  pFieldAddr 2 t3 fun t6 =>
  pLoad y5 t6 H1 fun t7 =>
  bnd (xBuildSlice y5 (.int .u8 (.ofNat 0)) 1 [(0, t7)] H1) fun t8 H2 =>
  bnd (xBToS t8 H2) fun t9 H3 =>
  pAdd t5 t9 fun t10 =>
  pEql .no t10 (.str [72]) fun t12 =>
  condK t12 (
   pFieldAddr 4 t3 fun t14 =>
   pLoad y63 t14 H3 fun t15 =>
   bnd (call 83 [t15, (.int .i64 (.ofNat 0)), (.int .i64 (.ofNat 1))] H3) fun t16 H4 =>
   pNilCheck x0 fun t18 =>
   pFieldAddr 1 t18 fun t19 =>
   pLoad y3 t19 H4 fun t20 =>
   bnd (xMin [t16, t20] H4) fun t21 H5 =>
   pSub t21 (.int .i64 (.ofNat 1)) fun t22 =>
   pNilCheck x0 fun t23 =>
   pFieldAddr 4 t23 fun t24 =>
   pStore y3 t24 t22 H5 fun H6 =>
   lookK t20 (xLoad y3 t19 H3) <|
   pFieldAddr 4 t3 fun t26 =>
   pLoad y63 t26 H6 fun t27 =>
   bnd (call 83 [t27, (.int .i64 (.ofNat 1)), (.int .i64 (.ofNat 1))] H6) fun t28 H7 =>
   pNilCheck x0 fun t30 =>
   pFieldAddr 0 t30 fun t31 =>
   pLoad y3 t31 H7 fun t32 =>
   bnd (xMin [t28, t32] H7) fun t33 H8 =>
   pSub t33 (.int .i64 (.ofNat 1)) fun t34 =>
   pNilCheck x0 fun t35 =>
   pFieldAddr 3 t35 fun t36 =>
   pStore y3 t36 t34 H8 fun H9 =>
   lookK t32 (xLoad y3 t31 H6) <|
   some (.tup [], H9)) (
   pEql .no t10 (.str [109]) fun t38 =>
   condK t38 (
    pNilCheck x0 fun t41 =>
    pFieldAddr 5 t41 fun t42 =>
    pLoad y37 t42 H3 fun t43 =>
    pFieldAddr 4 t3 fun t44 =>
    pLoad y63 t44 H3 fun t45 =>
    bnd (call 26 [t43, t45] H3) fun t46 H10 =>
    pNilCheck x0 fun t47 =>
    pFieldAddr 5 t47 fun t48 =>
    pStore y37 t48 t46 H10 fun H11 =>
    some (.tup [], H11)) (
    pEql .no t10 (.str [74]) fun t50 =>
    condK t50 (
     pFieldAddr 4 t3 fun t51 =>
     pLoad y63 t51 H3 fun t52 =>
     bnd (call 83 [t52, (.int .i64 (.ofNat 0)), (.int .i64 (.ofNat 0))] H3) fun t53 H12 =>
     pEql .no t53 (.int .i64 (.ofNat 2)) fun t54 =>
     condK t54 (
      bnd (call 34 [x0] H12) fun t56 H13 =>
      some (.tup [], H13)) (
      some (.tup [], H12))) (
     pEql .no t10 (.str [63, 104]) fun t58 =>
     condK t58 (
      g51_1 call n x0 t3 t58 H3) (
      pEql .no t10 (.str [63, 108]) fun t59 =>
      g51_1 call n x0 t3 t59 H3))))
theorem e51 (call : Caller) (n : Nat) (x0 x1 : SV) (H : SHeap) : runBodyK call n c51 [x0, x1] H = g51 call n x0 x1 H :=
  (bodyK_eq call n H 2 r51 b51 [x0, x1] rfl).trans (by simp only [b51, rr51, g51, e51_2, e51_4, e51_1, kit, Nat.reduceEqDiff, ↓reduceIte, Nat.reduceAdd])
theorem rr62 (e : Env) (H : SHeap) : resK r62 e H = some ((e.at 4), H) := by
  simp only [r62, kitR, kit, Nat.reduceEqDiff, ↓reduceIte, Nat.reduceAdd]
def g62_1 (call : Caller) (n : Nat) (t0 t3 : SV) (H : SHeap) : Res :=
  bnd (xMkSlice y39 (.agg [(.int .i32 (.ofNat 0)), (.int .u8 (.ofNat 0)), (.int .u16 (.ofNat 0)), (.int .u8 (.ofNat 0)), (.int .u32 (.ofNat 0)), (.int .u8 (.ofNat 0)), (.int .u32 (.ofNat 0))]) 28 t0 t0 H) fun t13 H4 =>
  pLoad y37 t3 H4 fun t15 =>
  bnd (call 91 [t13, t15] H4) fun t16 H5 =>
  some (t13, H5)
theorem e62_1 (call : Caller) (n : Nat) (e : Env) (H : SHeap) : runK call n c62_2 e H (resK r62) (fun _ _ _ => none) (resK r62) = g62_1 call n (e.at 0) (e.at 3) H := by
  simp only [c62_2, g62_1, rr62, kit, Nat.reduceEqDiff, ↓reduceIte, Nat.reduceAdd]
/- jalousie/row.Blank -/
def g62 (call : Caller) (n : Nat) (x0 x1 : SV) (H : SHeap) : Res :=
  bnd (xBox y37 x1 H) fun t3 H1 =>
  pLss x0 (.int .i64 (.ofNat 1)) fun t7 =>
  bnd (guardR t7 false (some (x0, H1)) H1) fun t9 H2 =>
  bnd (guardR t7 false (only H2 (sBin .gtr .no t9 (.int .i64 (.ofNat 400)))) H2) fun t10 H3 =>
  pPick t7 (.bool true) t10 fun t11 =>
  condK t11 (
   some (.nils, H3)) (
   g62_1 call n x0 t3 H3)
theorem e62 (call : Caller) (n : Nat) (x0 x1 : SV) (H : SHeap) : runBodyK call n c62 [x0, x1] H = g62 call n x0 x1 H :=
  (bodyK_eq call n H 2 r62 b62 [x0, x1] rfl).trans (by simp only [b62, rr62, g62, e62_1, kit, Nat.reduceEqDiff, ↓reduceIte, Nat.reduceAdd])
theorem rr63 (e : Env) (H : SHeap) : resK r63 e H = some ((e.at 2), H) := by
  simp only [r63, kitR, kit, Nat.reduceEqDiff, ↓reduceIte, Nat.reduceAdd]
def g63_1 (call : Caller) (n : Nat) (t0 : SV) (H : SHeap) : Res :=
  pNilCheck t0 fun t6 =>
  pFieldAddr 0 t6 fun t7 =>
  pLoad y3 t7 H fun t8 =>
  some (t8, H)
theorem e63_1 (call : Caller) (n : Nat) (e : Env) (H : SHeap) : runK call n c63_2 e H (resK r63) (fun _ _ _ => none) (resK r63) = g63_1 call n (e.at 0) H := by
  simp only [c63_2, g63_1, rr63, kit, Nat.reduceEqDiff, ↓reduceIte, Nat.reduceAdd]
/- (*jalousie/decode.Decoder).Waits -/
def g63 (call : Caller) (n : Nat) (x0 : SV) (H : SHeap) : Res :=
  bnd (xSamePtr false x0 .nilp H) fun t4 H1 =>
  condK t4 (
   some ((.int .i64 (.ofNat 0)), H1)) (
   g63_1 call n x0 H1)
theorem e63 (call : Caller) (n : Nat) (x0 : SV) (H : SHeap) : runBodyK call n c63 [x0] H = g63 call n x0 H :=
  (bodyK_eq call n H 1 r63 b63 [x0] rfl).trans (by simp only [b63, rr63, g63, e63_1, kit, Nat.reduceEqDiff, ↓reduceIte, Nat.reduceAdd])
theorem rr66 (e : Env) (H : SHeap) : resK r66 e H = pLoad y35 (e.at 2) H fun w0 => some (.tup [w0, (e.at 3)], H) := by
  simp only [r66, kitR, kit, Nat.reduceEqDiff, ↓reduceIte, Nat.reduceAdd]
def g66_3 (call : Caller) (n : Nat) (t2 t5 : SV) (H : SHeap) : Res :=
  pLoad y35 t5 H fun t65 =>
  pStore y35 t2 t65 H fun H16 =>
  pLoad y35 t2 H16 fun w1 =>
  some (.tup [w1, (.bool true)], H16)
theorem e66_3 (call : Caller) (n : Nat) (e : Env) (H : SHeap) : runK call n c66_4 e H (resK r66) (fun _ _ _ => none) (resK r66) = g66_3 call n (e.at 2) (e.at 5) H := by
  simp only [c66_4, g66_3, rr66, kit, Nat.reduceEqDiff, ↓reduceIte, Nat.reduceAdd]
def g66_8 (call : Caller) (n : Nat) (ih5 : SV → SV → SV → SV → SV → SHeap → Res) (t2 t5 t44 t45 t46 : SV) (H : SHeap) : Res :=
  pAdd t46 (.int .i64 (.ofNat 1)) fun t64 =>
  ih5 t2 t5 t44 t45 t64 H
theorem e66_8 (call : Caller) (n : Nat) (ih5 : SV → SV → SV → SV → SV → SHeap → Res) (e : Env) (H : SHeap) : runK call n c66_9 e H (fun e H => ih5 (e.at 2) (e.at 5) (e.at 44) (e.at 45) (e.at 46) H) (fun i e H => if i = 0 then g66_3 call n (e.at 2) (e.at 5) H else none) (resK r66) = g66_8 call n ih5 (e.at 2) (e.at 5) (e.at 44) (e.at 45) (e.at 46) H := by
  simp only [c66_9, g66_8, rr66, e66_3, kit, Nat.reduceEqDiff, ↓reduceIte, Nat.reduceAdd]
def g66_10 (call : Caller) (n : Nat) (ih5 : SV → SV → SV → SV → SV → SHeap → Res) (t2 t5 t7 t44 t45 t46 : SV) (H : SHeap) : Res :=
  pFieldAddr 1 t5 fun t57 =>
  pLoad y33 t57 H fun t58 =>
  pBin .shl t58 (.int .u64 (.ofNat 8)) fun t59 =>
  pToInt .u32 t7 fun t61 =>
  pBin .or t59 t61 fun t62 =>
  pFieldAddr 1 t5 fun t63 =>
  pStore y33 t63 t62 H fun H19 =>
  g66_8 call n ih5 t2 t5 t44 t45 t46 H19
theorem e66_10 (call : Caller) (n : Nat) (ih5 : SV → SV → SV → SV → SV → SHeap → Res) (e : Env) (H : SHeap) : runK call n c66_11 e H (fun e H => g66_8 call n ih5 (e.at 2) (e.at 5) (e.at 44) (e.at 45) (e.at 46) H) (fun i e H => if i = 1 then g66_8 call n ih5 (e.at 2) (e.at 5) (e.at 44) (e.at 45) (e.at 46) H else if i = 0 then g66_3 call n (e.at 2) (e.at 5) H else none) (resK r66) = g66_10 call n ih5 (e.at 2) (e.at 5) (e.at 7) (e.at 44) (e.at 45) (e.at 46) H := by
  simp only [c66_11, g66_10, rr66, e66_3, e66_8, kit, Nat.reduceEqDiff, ↓reduceIte, Nat.reduceAdd]
def g66_7 (call : Caller) (n : Nat) (ih5 : SV → SV → SV → SV → SV → SHeap → Res) (t2 t5 t44 t45 t46 : SV) (H : SHeap) : Res :=
  pIdxAddrL 1 t44 t46 H fun t48 =>
  pLoad y3 t48 H fun t49 =>
  pLss t49 (.int .i64 (.ofNat 0)) fun t51 =>
  bnd (guardR t51 false (some (t49, H)) H) fun t53 H17 =>
  bnd (guardR t51 false (only H17 (sBin .gtr .no t53 (.int .i64 (.ofNat 255)))) H17) fun t54 H18 =>
  pPick t51 (.bool true) t54 fun t55 =>
  condK t55 (
   bnd (xBuild [(.int .u8 (.ofNat 0)), (.int .u32 (.ofNat 0))] [] H18) fun t56 H20 =>
   pStore y35 t2 t56 H20 fun H21 =>
   pLoad y35 t2 H21 fun w1 =>
   some (.tup [w1, (.bool false)], H21)) (
   g66_10 call n ih5 t2 t5 t49 t44 t45 t46 H18)
theorem e66_7 (call : Caller) (n : Nat) (ih5 : SV → SV → SV → SV → SV → SHeap → Res) (e : Env) (H : SHeap) : runK call n c66_12 e H (fun e H => ih5 (e.at 2) (e.at 5) (e.at 44) (e.at 45) (e.at 46) H) (fun i e H => if i = 0 then g66_3 call n (e.at 2) (e.at 5) H else none) (resK r66) = g66_7 call n ih5 (e.at 2) (e.at 5) (e.at 44) (e.at 45) (e.at 46) H := by
  simp only [c66_12, g66_7, rr66, e66_3, e66_8, e66_10, kit, Nat.reduceEqDiff, ↓reduceIte, Nat.reduceAdd]
def g66_6 (call : Caller) (n : Nat) (ih5 : SV → SV → SV → SV → SV → SHeap → Res) (t2 t5 t44 t45 t46 : SV) (H : SHeap) : Res :=
  pLss t46 t45 fun t47 =>
  condK t47 (
   g66_7 call n ih5 t2 t5 t44 t45 t46 H) (
   g66_3 call n t2 t5 H)
theorem e66_6 (call : Caller) (n : Nat) (ih5 : SV → SV → SV → SV → SV → SHeap → Res) (e : Env) (H : SHeap) : runK call n c66_13 e H (fun e H => ih5 (e.at 2) (e.at 5) (e.at 44) (e.at 45) (e.at 46) H) (fun i e H => if i = 0 then g66_3 call n (e.at 2) (e.at 5) H else none) (resK r66) = g66_6 call n ih5 (e.at 2) (e.at 5) (e.at 44) (e.at 45) (e.at 46) H := by
  simp only [c66_13, g66_6, rr66, e66_3, e66_8, e66_10, e66_7, kit, Nat.reduceEqDiff, ↓reduceIte, Nat.reduceAdd]
def g66_14 (call : Caller) (n : Nat) (m : Nat) : SV → SV → SV → SV → SV → SHeap → Res :=
  Nat.rec (motive := fun _ => SV → SV → SV → SV → SV → SHeap → Res) (fun _ _ _ _ _ _ => none) (fun _ ih5 t2 t5 t44 t45 t46 H => g66_6 call n ih5 t2 t5 t44 t45 t46 H) m
theorem e66_14 (call : Caller) (n : Nat) (m : Nat) (e : Env) (H : SHeap) : iterK (fun k e H => runK call n c66_13 e H k (fun i e H => if i = 0 then g66_3 call n (e.at 2) (e.at 5) H else none) (resK r66)) m e H = g66_14 call n m (e.at 2) (e.at 5) (e.at 44) (e.at 45) (e.at 46) H := by
  induction m generalizing e H with
  | zero => rfl
  | succ m ihm =>
    show runK call n c66_13 e H (iterK (fun k e H => runK call n c66_13 e H k (fun i e H => if i = 0 then g66_3 call n (e.at 2) (e.at 5) H else none) (resK r66)) m) (fun i e H => if i = 0 then g66_3 call n (e.at 2) (e.at 5) H else none) (resK r66) = g66_6 call n (g66_14 call n m) (e.at 2) (e.at 5) (e.at 44) (e.at 45) (e.at 46) H
    rw [show iterK (fun k e H => runK call n c66_13 e H k (fun i e H => if i = 0 then g66_3 call n (e.at 2) (e.at 5) H else none) (resK r66)) m = (fun e H => g66_14 call n m (e.at 2) (e.at 5) (e.at 44) (e.at 45) (e.at 46) H) from funext fun e => funext fun H => ihm e H]
    exact e66_6 call n (g66_14 call n m) e H
def g66_2 (call : Caller) (n : Nat) (t0 t2 t4 t5 : SV) (H : SHeap) : Res :=
  pIdxAddrL 1 t0 (.int .i64 (.ofNat 0)) H fun t41 =>
  pLoad y3 t41 H fun t42 =>
  bnd (only H (sLookup .i (.int .i64 (.ofNat 0)) false H t4 t42)) fun t43 H14 =>
  bnd (only H14 (sSliceL 1 H14 t0 (some (.int .i64 (.ofNat 1))) (some t43) none)) fun t44 H15 =>
  pLenL t44 fun t45 =>
  g66_14 call n n t2 t5 t44 t45 (.int .i64 (.ofNat 0)) H15
theorem e66_2 (call : Caller) (n : Nat) (e : Env) (H : SHeap) : runK call n c66_15 e H (resK r66) (fun _ _ _ => none) (resK r66) = g66_2 call n (e.at 0) (e.at 2) (e.at 4) (e.at 5) H := by
  simp only [c66_15, g66_2, rr66, e66_3, e66_8, e66_10, e66_7, e66_6, e66_14, kit, Nat.reduceEqDiff, ↓reduceIte, Nat.reduceAdd]
def g66_1 (call : Caller) (n : Nat) (t0 t2 t4 : SV) (H : SHeap) : Res :=
  bnd (xBuild [(.int .u8 (.ofNat 0)), (.int .u32 (.ofNat 0))] [(0, 1, (.int .u8 (.ofNat 1)))] H) fun t32 H11 =>
  pAlloc y35 (.agg [(.int .u8 (.ofNat 0)), (.int .u32 (.ofNat 0))]) H11 fun t5 H12 =>
  pStore y35 t5 t32 H12 fun H13 =>
  pIdxAddrL 1 t0 (.int .i64 (.ofNat 0)) H13 fun t34 =>
  pLoad y3 t34 H13 fun t35 =>
  pEql .no t35 (.int .i64 (.ofNat 2)) fun t36 =>
  condK t36 (
   pFieldAddr 0 t5 fun t37 =>
   pStore y5 t37 (.int .u8 (.ofNat 2)) H13 fun H22 =>
   g66_2 call n t0 t2 t4 t5 H22) (
   g66_2 call n t0 t2 t4 t5 H13)
theorem e66_1 (call : Caller) (n : Nat) (e : Env) (H : SHeap) : runK call n c66_16 e H (resK r66) (fun _ _ _ => none) (resK r66) = g66_1 call n (e.at 0) (e.at 2) (e.at 4) H := by
  simp only [c66_16, g66_1, rr66, e66_3, e66_8, e66_10, e66_7, e66_6, e66_14, e66_2, kit, Nat.reduceEqDiff, ↓reduceIte, Nat.reduceAdd]
def g66_17 (call : Caller) (n : Nat) (t0 t2 t4 t30 : SV) (H : SHeap) : Res :=
  condK t30 (
   bnd (xBuild [(.int .u8 (.ofNat 0)), (.int .u32 (.ofNat 0))] [] H) fun t31 H23 =>
   pStore y35 t2 t31 H23 fun H24 =>
   pLoad y35 t2 H24 fun w1 =>
   some (.tup [w1, (.bool false)], H24)) (
   g66_1 call n t0 t2 t4 H)
theorem e66_17 (call : Caller) (n : Nat) (e : Env) (H : SHeap) : runK call n c66_18 e H (fun e H => g66_1 call n (e.at 0) (e.at 2) (e.at 4) H) (fun _ _ _ => none) (resK r66) = g66_17 call n (e.at 0) (e.at 2) (e.at 4) (e.at 30) H := by
  simp only [c66_18, g66_17, rr66, e66_3, e66_8, e66_10, e66_7, e66_6, e66_14, e66_2, e66_1, kit, Nat.reduceEqDiff, ↓reduceIte, Nat.reduceAdd]
def g66_19 (call : Caller) (n : Nat) (t0 t2 t4 t13 t15 t16 t19 : SV) (H : SHeap) : Res :=
  bnd (guardR t13 false (only H (sLookup .i (.int .i64 (.ofNat 0)) false H t16 t19)) H) fun t20 H25 =>
  bnd (guardR t13 false (only H25 (sBin .lss .no t15 t20)) H25) fun t21 H26 =>
  pPick t13 (.bool true) t21 fun t22 =>
  bnd (guardR t22 false (some (t4, H26)) H26) fun t24 H27 =>
  bnd (guardR t22 false (some (t0, H27)) H27) fun t25 H28 =>
  bnd (guardR t22 false (xIdxAddrL 1 t25 (.int .i64 (.ofNat 0)) H28) H28) fun t26 H29 =>
  bnd (guardR t22 false (xLoad y3 t26 H29) H29) fun t27 H30 =>
  bnd (guardR t22 false (only H30 (sLookup .i (.int .i64 (.ofNat 0)) false H30 t24 t27)) H30) fun t28 H31 =>
  bnd (guardR t22 false (only H31 (sBin .eql .no t28 (.int .i64 (.ofNat 0)))) H31) fun t29 H32 =>
  pPick t22 (.bool true) t29 fun t30 =>
  g66_17 call n t0 t2 t4 t30 H32
theorem e66_19 (call : Caller) (n : Nat) (e : Env) (H : SHeap) : runOpsK call o66_20 e H (fun e H => g66_17 call n (e.at 0) (e.at 2) (e.at 4) (e.at 30) H) = g66_19 call n (e.at 0) (e.at 2) (e.at 4) (e.at 13) (e.at 15) (e.at 16) (e.at 19) H := by
  simp only [o66_20, g66_19, rr66, e66_3, e66_8, e66_10, e66_7, e66_6, e66_14, e66_2, e66_1, e66_17, kit, Nat.reduceEqDiff, ↓reduceIte, Nat.reduceAdd]
/- jalousie/attr.paint -/
def g66 (call : Caller) (n : Nat) (x0 : SV) (H : SHeap) : Res :=
  pAlloc y35 (.agg [(.int .u8 (.ofNat 0)), (.int .u32 (.ofNat 0))]) H fun t2 H1 =>
  bnd (some (.mp H1.next, H1.alloc (.map false []))) fun t8 H2 =>
  bnd (none2 (sMapUpdate .i H2 t8 (.int .i64 (.ofNat 5)) (.int .i64 (.ofNat 2)))) fun _ H3 =>
  bnd (none2 (sMapUpdate .i H3 t8 (.int .i64 (.ofNat 2)) (.int .i64 (.ofNat 4)))) fun _ H4 =>
  pLenL x0 fun t11 =>
  pEql .no t11 (.int .i64 (.ofNat 0)) fun t12 =>
  bnd (guardR t12 false (some (x0, H4)) H4) fun t14 H5 =>
  bnd (guardR t12 false (xLenL t14 H5) H5) fun t15 H6 =>
  bnd (guardR t12 false (some (t8, H6)) H6) fun t16 H7 =>
  bnd (guardR t12 false (some (x0, H7)) H7) fun t17 H8 =>
  bnd (guardR t12 false (xIdxAddrL 1 t17 (.int .i64 (.ofNat 0)) H8) H8) fun t18 H9 =>
  bnd (guardR t12 false (xLoad y3 t18 H9) H9) fun t19 H10 =>
  g66_19 call n x0 t2 t8 t12 t15 t16 t19 H10
theorem e66 (call : Caller) (n : Nat) (x0 : SV) (H : SHeap) : runBodyK call n c66 [x0] H = g66 call n x0 H :=
  (bodyK_eq call n H 1 r66 b66 [x0] rfl).trans (by simp only [b66, rr66, g66, e66_3, e66_8, e66_10, e66_7, e66_6, e66_14, e66_2, e66_1, e66_17, e66_19, kit, Nat.reduceEqDiff, ↓reduceIte, Nat.reduceAdd])
theorem rr67 (e : Env) (H : SHeap) : resK r67 e H = some (.tup [(e.at 2), (e.at 3)], H) := by
  simp only [r67, kitR, kit, Nat.reduceEqDiff, ↓reduceIte, Nat.reduceAdd]
def g67_1 (call : Caller) (n : Nat) (H : SHeap) : Res :=
  some (.tup [(.int .i64 (.ofNat 0)), (.int .i64 (.ofNat 1))], H)
theorem e67_1 (call : Caller) (n : Nat) (e : Env) (H : SHeap) : runK call n c67_2 e H (resK r67) (fun _ _ _ => none) (resK r67) = g67_1 call n H := by
  simp only [c67_2, g67_1, rr67, kit, Nat.reduceEqDiff, ↓reduceIte, Nat.reduceAdd]
/- jalousie/states.escape -/
def g67 (call : Caller) (n : Nat) (x0 : SV) (H : SHeap) : Res :=
  pLss x0 (.int .u8 (.ofNat 32)) fun t6 =>
  condK t6 (
   some (.tup [(.int .i64 (.ofNat 2)), (.int .i64 (.ofNat 1))], H)) (
   pLss x0 (.int .u8 (.ofNat 48)) fun t9 =>
   condK t9 (
    some (.tup [(.int .i64 (.ofNat 3)), (.int .i64 (.ofNat 2))], H)) (
    pEql .no x0 (.int .u8 (.ofNat 80)) fun t12 =>
    condK t12 (
     some (.tup [(.int .i64 (.ofNat 0)), (.int .i64 (.ofNat 7))], H)) (
     pEql .no x0 (.int .u8 (.ofNat 91)) fun t15 =>
     condK t15 (
      some (.tup [(.int .i64 (.ofNat 0)), (.int .i64 (.ofNat 3))], H)) (
      pEql .no x0 (.int .u8 (.ofNat 93)) fun t18 =>
      condK t18 (
       some (.tup [(.int .i64 (.ofNat 0)), (.int .i64 (.ofNat 12))], H)) (
       pEql .no x0 (.int .u8 (.ofNat 88)) fun t21 =>
       bnd (guardR t21 false (some (x0, H)) H) fun t23 H1 =>
       bnd (guardR t21 false (only H1 (sBin .eql .no t23 (.int .u8 (.ofNat 94)))) H1) fun t24 H2 =>
       pPick t21 (.bool true) t24 fun t25 =>
       bnd (guardR t25 false (some (x0, H2)) H2) fun t27 H3 =>
       bnd (guardR t25 false (only H3 (sBin .eql .no t27 (.int .u8 (.ofNat 95)))) H3) fun t28 H4 =>
       pPick t25 (.bool true) t28 fun t29 =>
       condK t29 (
        some (.tup [(.int .i64 (.ofNat 0)), (.int .i64 (.ofNat 13))], H4)) (
        pLss x0 (.int .u8 (.ofNat 127)) fun t32 =>
        condK t32 (
         some (.tup [(.int .i64 (.ofNat 5)), (.int .i64 (.ofNat 0))], H4)) (
         g67_1 call n H4)))))))
theorem e67 (call : Caller) (n : Nat) (x0 : SV) (H : SHeap) : runBodyK call n c67 [x0] H = g67 call n x0 H :=
  (bodyK_eq call n H 1 r67 b67 [x0] rfl).trans (by simp only [b67, rr67, g67, e67_1, kit, Nat.reduceEqDiff, ↓reduceIte, Nat.reduceAdd])
theorem rr68 (e : Env) (H : SHeap) : resK r68 e H = some (.tup [(e.at 2), (e.at 3)], H) := by
  simp only [r68, kitR, kit, Nat.reduceEqDiff, ↓reduceIte, Nat.reduceAdd]
def g68_1 (call : Caller) (n : Nat) (H : SHeap) : Res :=
  some (.tup [(.int .i64 (.ofNat 0)), (.int .i64 (.ofNat 2))], H)
theorem e68_1 (call : Caller) (n : Nat) (e : Env) (H : SHeap) : runK call n c68_2 e H (resK r68) (fun _ _ _ => none) (resK r68) = g68_1 call n H := by
  simp only [c68_2, g68_1, rr68, kit, Nat.reduceEqDiff, ↓reduceIte, Nat.reduceAdd]
/- jalousie/states.inter -/
def g68 (call : Caller) (n : Nat) (x0 : SV) (H : SHeap) : Res :=
  pLss x0 (.int .u8 (.ofNat 32)) fun t6 =>
  condK t6 (
   some (.tup [(.int .i64 (.ofNat 2)), (.int .i64 (.ofNat 2))], H)) (
   pLss x0 (.int .u8 (.ofNat 48)) fun t9 =>
   condK t9 (
    some (.tup [(.int .i64 (.ofNat 3)), (.int .i64 (.ofNat 2))], H)) (
    pLss x0 (.int .u8 (.ofNat 127)) fun t12 =>
    condK t12 (
     some (.tup [(.int .i64 (.ofNat 5)), (.int .i64 (.ofNat 0))], H)) (
     g68_1 call n H)))
theorem e68 (call : Caller) (n : Nat) (x0 : SV) (H : SHeap) : runBodyK call n c68 [x0] H = g68 call n x0 H :=
  (bodyK_eq call n H 1 r68 b68 [x0] rfl).trans (by simp only [b68, rr68, g68, e68_1, kit, Nat.reduceEqDiff, ↓reduceIte, Nat.reduceAdd])
theorem rr69 (e : Env) (H : SHeap) : resK r69 e H = some (.tup [(e.at 12), (e.at 13)], H) := by
  simp only [r69, kitR, kit, Nat.reduceEqDiff, ↓reduceIte, Nat.reduceAdd]
def g69_1 (call : Caller) (n : Nat) (H : SHeap) : Res :=
  some (.tup [(.int .i64 (.ofNat 7)), (.int .i64 (.ofNat 10))], H)
theorem e69_1 (call : Caller) (n : Nat) (e : Env) (H : SHeap) : runK call n c69_2 e H (resK r69) (fun _ _ _ => none) (resK r69) = g69_1 call n H := by
  simp only [c69_2, g69_1, rr69, kit, Nat.reduceEqDiff, ↓reduceIte, Nat.reduceAdd]
/- jalousie/states.sequence -/
def g69 (call : Caller) (n : Nat) (x0 x1 x2 x3 x4 x5 : SV) (H : SHeap) : Res :=
  pEql .no x1 (.int .i64 (.ofNat 3)) fun t16 =>
  bnd (guardR t16 false (some (x1, H)) H) fun t18 H1 =>
  bnd (guardR t16 false (only H1 (sBin .eql .no t18 (.int .i64 (.ofNat 7)))) H1) fun t19 H2 =>
  pPick t16 (.bool true) t19 fun t20 =>
  pLss x0 (.int .u8 (.ofNat 32)) fun t23 =>
  bnd (guardR t23 true (some (x5, H2)) H2) fun t25 H3 =>
  bnd (guardR t23 true (only H3 (sBin .eql .no t25 (.int .i64 (.ofNat 6)))) H3) fun t26 H4 =>
  pPick t23 t26 (.bool false) fun t27 =>
  condK t27 (
   some (.tup [(.int .i64 (.ofNat 2)), x1], H4)) (
   pLss x0 (.int .u8 (.ofNat 32)) fun t31 =>
   bnd (guardR t31 false (some (x0, H4)) H4) fun t33 H5 =>
   bnd (guardR t31 false (only H5 (sBin .geq .no t33 (.int .u8 (.ofNat 127)))) H5) fun t34 H6 =>
   pPick t31 (.bool true) t34 fun t35 =>
   condK t35 (
    some (.tup [(.int .i64 (.ofNat 0)), x1], H6)) (
    pLss x0 (.int .u8 (.ofNat 48)) fun t39 =>
    condK t39 (
     some (.tup [(.int .i64 (.ofNat 3)), x2], H6)) (
     pLss x0 (.int .u8 (.ofNat 64)) fun t43 =>
     bnd (guardR t43 true (some (x1, H6)) H6) fun t45 H7 =>
     bnd (guardR t43 true (some (x2, H7)) H7) fun t46 H8 =>
     bnd (guardR t43 true (only H8 (sBin .eql .no t45 t46)) H8) fun t47 H9 =>
     pPick t43 t47 (.bool false) fun t48 =>
     condK t48 (
      some (.tup [(.int .i64 (.ofNat 0)), x4], H9)) (
      pLss x0 (.int .u8 (.ofNat 60)) fun t52 =>
      condK t52 (
       some (.tup [(.int .i64 (.ofNat 4)), x3], H9)) (
       pLss x0 (.int .u8 (.ofNat 64)) fun t56 =>
       bnd (guardR t56 true (some (t20, H9)) H9) fun t58 H10 =>
       pPick t56 t58 (.bool false) fun t59 =>
       condK t59 (
        some (.tup [(.int .i64 (.ofNat 3)), x3], H10)) (
        pLss x0 (.int .u8 (.ofNat 64)) fun t63 =>
        condK t63 (
         some (.tup [(.int .i64 (.ofNat 0)), x4], H10)) (
         pEql .no x5 (.int .i64 (.ofNat 6)) fun t67 =>
         condK t67 (
          some (.tup [(.int .i64 (.ofNat 6)), (.int .i64 (.ofNat 0))], H10)) (
          g69_1 call n H10))))))))
theorem e69 (call : Caller) (n : Nat) (x0 x1 x2 x3 x4 x5 : SV) (H : SHeap) : runBodyK call n c69 [x0, x1, x2, x3, x4, x5] H = g69 call n x0 x1 x2 x3 x4 x5 H :=
  (bodyK_eq call n H 6 r69 b69 [x0, x1, x2, x3, x4, x5] rfl).trans (by simp only [b69, rr69, g69, e69_1, kit, Nat.reduceEqDiff, ↓reduceIte, Nat.reduceAdd])
theorem rr70 (e : Env) (H : SHeap) : resK r70 e H = some (.tup [(e.at 2), (e.at 3)], H) := by
  simp only [r70, kitR, kit, Nat.reduceEqDiff, ↓reduceIte, Nat.reduceAdd]
def g70_1 (call : Caller) (n : Nat) (H : SHeap) : Res :=
  some (.tup [(.int .i64 (.ofNat 0)), (.int .i64 (.ofNat 6))], H)
theorem e70_1 (call : Caller) (n : Nat) (e : Env) (H : SHeap) : runK call n c70_2 e H (resK r70) (fun _ _ _ => none) (resK r70) = g70_1 call n H := by
  simp only [c70_2, g70_1, rr70, kit, Nat.reduceEqDiff, ↓reduceIte, Nat.reduceAdd]
/- jalousie/states.let -/
def g70 (call : Caller) (n : Nat) (x0 : SV) (H : SHeap) : Res :=
  pLss x0 (.int .u8 (.ofNat 32)) fun t6 =>
  condK t6 (
   some (.tup [(.int .i64 (.ofNat 2)), (.int .i64 (.ofNat 6))], H)) (
   pGeq x0 (.int .u8 (.ofNat 64)) fun t9 =>
   bnd (guardR t9 true (some (x0, H)) H) fun t11 H1 =>
   bnd (guardR t9 true (only H1 (sBin .lss .no t11 (.int .u8 (.ofNat 127)))) H1) fun t12 H2 =>
   pPick t9 t12 (.bool false) fun t13 =>
   condK t13 (
    some (.tup [(.int .i64 (.ofNat 0)), (.int .i64 (.ofNat 0))], H2)) (
    g70_1 call n H2))
theorem e70 (call : Caller) (n : Nat) (x0 : SV) (H : SHeap) : runBodyK call n c70 [x0] H = g70 call n x0 H :=
  (bodyK_eq call n H 1 r70 b70 [x0] rfl).trans (by simp only [b70, rr70, g70, e70_1, kit, Nat.reduceEqDiff, ↓reduceIte, Nat.reduceAdd])
theorem rr71 (e : Env) (H : SHeap) : resK r71 e H = some (.tup [(e.at 4), (e.at 5)], H) := by
  simp only [r71, kitR, kit, Nat.reduceEqDiff, ↓reduceIte, Nat.reduceAdd]
def g71_1 (call : Caller) (n : Nat) (t0 : SV) (H : SHeap) : Res :=
  some (.tup [(.int .i64 (.ofNat 0)), t0], H)
theorem e71_1 (call : Caller) (n : Nat) (e : Env) (H : SHeap) : runK call n c71_2 e H (resK r71) (fun _ _ _ => none) (resK r71) = g71_1 call n (e.at 0) H := by
  simp only [c71_2, g71_1, rr71, kit, Nat.reduceEqDiff, ↓reduceIte, Nat.reduceAdd]
def g71_3 (call : Caller) (n : Nat) (t0 t1 t6 : SV) (H : SHeap) : Res :=
  condK t6 (
   some (.tup [(.int .i64 (.ofNat 8)), t0], H)) (
   pEql .no t0 (.int .i64 (.ofNat 12)) fun t22 =>
   bnd (guardR t22 true (some (t1, H)) H) fun t24 H3 =>
   bnd (guardR t22 true (only H3 (sBin .eql .no t24 (.int .u8 (.ofNat 7)))) H3) fun t25 H4 =>
   pPick t22 t25 (.bool false) fun t26 =>
   condK t26 (
    some (.tup [(.int .i64 (.ofNat 0)), (.int .i64 (.ofNat 0))], H4)) (
    g71_1 call n t0 H4))
theorem e71_3 (call : Caller) (n : Nat) (e : Env) (H : SHeap) : runK call n c71_4 e H (fun e H => g71_1 call n (e.at 0) H) (fun i e H => if i = 0 then g71_1 call n (e.at 0) H else none) (resK r71) = g71_3 call n (e.at 0) (e.at 1) (e.at 6) H := by
  simp only [c71_4, g71_3, rr71, e71_1, kit, Nat.reduceEqDiff, ↓reduceIte, Nat.reduceAdd]
/- jalousie/states.text -/
def g71 (call : Caller) (n : Nat) (x0 x1 : SV) (H : SHeap) : Res :=
  pEql .no x0 (.int .i64 (.ofNat 10)) fun t8 =>
  bnd (guardR t8 true (some (x1, H)) H) fun t10 H1 =>
  bnd (guardR t8 true (only H1 (sBin .neq .no t10 (.int .u8 (.ofNat 127)))) H1) fun t11 H2 =>
  pPick t8 t11 (.bool false) fun t12 =>
  condK t12 (
   g71_3 call n x0 x1 t12 H2) (
   pEql .no x0 (.int .i64 (.ofNat 12)) fun t14 =>
   bnd (guardR t14 true (some (x1, H2)) H2) fun t16 H5 =>
   bnd (guardR t14 true (only H5 (sBin .geq .no t16 (.int .u8 (.ofNat 32)))) H5) fun t17 H6 =>
   pPick t14 t17 (.bool false) fun t18 =>
   g71_3 call n x0 x1 t18 H6)
theorem e71 (call : Caller) (n : Nat) (x0 x1 : SV) (H : SHeap) : runBodyK call n c71 [x0, x1] H = g71 call n x0 x1 H :=
  (bodyK_eq call n H 2 r71 b71 [x0, x1] rfl).trans (by simp only [b71, rr71, g71, e71_1, e71_3, kit, Nat.reduceEqDiff, ↓reduceIte, Nat.reduceAdd])
theorem rr72 (e : Env) (H : SHeap) : resK r72 e H = some (.tup [(e.at 2), (e.at 3)], H) := by
  simp only [r72, kitR, kit, Nat.reduceEqDiff, ↓reduceIte, Nat.reduceAdd]
def g72_1 (call : Caller) (n : Nat) (H : SHeap) : Res :=
  some (.tup [(.int .i64 (.ofNat 1)), (.int .i64 (.ofNat 0))], H)
theorem e72_1 (call : Caller) (n : Nat) (e : Env) (H : SHeap) : runK call n c72_2 e H (resK r72) (fun _ _ _ => none) (resK r72) = g72_1 call n H := by
  simp only [c72_2, g72_1, rr72, kit, Nat.reduceEqDiff, ↓reduceIte, Nat.reduceAdd]
/- jalousie/states.ground -/
def g72 (call : Caller) (n : Nat) (x0 : SV) (H : SHeap) : Res :=
  pLss x0 (.int .u8 (.ofNat 32)) fun t6 =>
  condK t6 (
   some (.tup [(.int .i64 (.ofNat 2)), (.int .i64 (.ofNat 0))], H)) (
   pEql .no x0 (.int .u8 (.ofNat 127)) fun t9 =>
   condK t9 (
    some (.tup [(.int .i64 (.ofNat 0)), (.int .i64 (.ofNat 0))], H)) (
    g72_1 call n H))
theorem e72 (call : Caller) (n : Nat) (x0 : SV) (H : SHeap) : runBodyK call n c72 [x0] H = g72 call n x0 H :=
  (bodyK_eq call n H 1 r72 b72 [x0] rfl).trans (by simp only [b72, rr72, g72, e72_1, kit, Nat.reduceEqDiff, ↓reduceIte, Nat.reduceAdd])
theorem rr73 (e : Env) (H : SHeap) : resK r73 e H = some (.tup [(e.at 2), (e.at 3)], H) := by
  simp only [r73, kitR, kit, Nat.reduceEqDiff, ↓reduceIte, Nat.reduceAdd]
def g73_1 (call : Caller) (n : Nat) (t0 : SV) (H : SHeap) : Res :=
  bnd (xBuild [(.int .i64 (.ofNat 0)), (.int .i64 (.ofNat 0)), (.int .u8 (.ofNat 0)), (.int .u8 (.ofNat 0)), (.int .i32 (.ofNat 0))] [] H) fun t8 H2 =>
  pNilCheck t0 fun t9 =>
  pStore y94 t9 t8 H2 fun H3 =>
  some (.tup [(.int .i32 (.ofNat 65533)), (.bool true)], H3)
theorem e73_1 (call : Caller) (n : Nat) (e : Env) (H : SHeap) : runK call n c73_2 e H (resK r73) (fun _ _ _ => none) (resK r73) = g73_1 call n (e.at 0) H := by
  simp only [c73_2, g73_1, rr73, kit, Nat.reduceEqDiff, ↓reduceIte, Nat.reduceAdd]
/- (*jalousie/decode.Decoder).End -/
def g73 (call : Caller) (n : Nat) (x0 : SV) (H : SHeap) : Res :=
  bnd (call 63 [x0] H) fun t5 H1 =>
  pEql .no t5 (.int .i64 (.ofNat 0)) fun t6 =>
  condK t6 (
   some (.tup [(.int .i32 (.ofNat 0)), (.bool false)], H1)) (
   g73_1 call n x0 H1)
theorem e73 (call : Caller) (n : Nat) (x0 : SV) (H : SHeap) : runBodyK call n c73 [x0] H = g73 call n x0 H :=
  (bodyK_eq call n H 1 r73 b73 [x0] rfl).trans (by simp only [b73, rr73, g73, e73_1, kit, Nat.reduceEqDiff, ↓reduceIte, Nat.reduceAdd])
theorem rr74 (e : Env) (H : SHeap) : resK r74 e H = some (.tup [], H) := by
  simp only [r74, kitR, kit, Nat.reduceEqDiff, ↓reduceIte, Nat.reduceAdd]
def g74_4 (call : Caller) (n : Nat) (ih1 : SV → SV → SV → SV → SHeap → Res) (t0 t6 t7 t8 : SV) (H : SHeap) : Res :=
  pAdd t8 (.int .i64 (.ofNat 1)) fun t16 =>
  ih1 t0 t6 t7 t16 H
theorem e74_4 (call : Caller) (n : Nat) (ih1 : SV → SV → SV → SV → SHeap → Res) (e : Env) (H : SHeap) : runK call n c74_5 e H (fun e H => ih1 (e.at 0) (e.at 6) (e.at 7) (e.at 8) H) (fun i e H => if i = 0 then (some (.tup [], H)) else none) (resK r74) = g74_4 call n ih1 (e.at 0) (e.at 6) (e.at 7) (e.at 8) H := by
  simp only [c74_5, g74_4, rr74, kit, Nat.reduceEqDiff, ↓reduceIte, Nat.reduceAdd]
def g74_3 (call : Caller) (n : Nat) (ih1 : SV → SV → SV → SV → SHeap → Res) (t0 t6 t7 t8 : SV) (H : SHeap) : Res :=
  pIdxAddrL 1 t6 t8 H fun t10 =>
  pLoad y21 t10 H fun t11 =>
  bnd (xBuild [(.int .i64 (.ofNat 0)), (.int .i32 (.ofNat 0)), (.int .u8 (.ofNat 0)), (.str []), .nils, (.str [])] [(0, 1, (.int .i64 (.ofNat 1))), (1, 1, t11)] H) fun t14 H1 =>
  bnd (call 75 [t0, t14] H1) fun t15 H2 =>
  g74_4 call n ih1 t0 t6 t7 t8 H2
theorem e74_3 (call : Caller) (n : Nat) (ih1 : SV → SV → SV → SV → SHeap → Res) (e : Env) (H : SHeap) : runK call n c74_6 e H (fun e H => ih1 (e.at 0) (e.at 6) (e.at 7) (e.at 8) H) (fun i e H => if i = 0 then (some (.tup [], H)) else none) (resK r74) = g74_3 call n ih1 (e.at 0) (e.at 6) (e.at 7) (e.at 8) H := by
  simp only [c74_6, g74_3, rr74, e74_4, kit, Nat.reduceEqDiff, ↓reduceIte, Nat.reduceAdd]
def g74_2 (call : Caller) (n : Nat) (ih1 : SV → SV → SV → SV → SHeap → Res) (t0 t6 t7 t8 : SV) (H : SHeap) : Res :=
  pLss t8 t7 fun t9 =>
  condK t9 (
   g74_3 call n ih1 t0 t6 t7 t8 H) (
   some (.tup [], H))
theorem e74_2 (call : Caller) (n : Nat) (ih1 : SV → SV → SV → SV → SHeap → Res) (e : Env) (H : SHeap) : runK call n c74_7 e H (fun e H => ih1 (e.at 0) (e.at 6) (e.at 7) (e.at 8) H) (fun i e H => if i = 0 then (some (.tup [], H)) else none) (resK r74) = g74_2 call n ih1 (e.at 0) (e.at 6) (e.at 7) (e.at 8) H := by
  simp only [c74_7, g74_2, rr74, e74_4, e74_3, kit, Nat.reduceEqDiff, ↓reduceIte, Nat.reduceAdd]
def g74_8 (call : Caller) (n : Nat) (m : Nat) : SV → SV → SV → SV → SHeap → Res :=
  Nat.rec (motive := fun _ => SV → SV → SV → SV → SHeap → Res) (fun _ _ _ _ _ => none) (fun _ ih1 t0 t6 t7 t8 H => g74_2 call n ih1 t0 t6 t7 t8 H) m
theorem e74_8 (call : Caller) (n : Nat) (m : Nat) (e : Env) (H : SHeap) : iterK (fun k e H => runK call n c74_7 e H k (fun i e H => if i = 0 then (some (.tup [], H)) else none) (resK r74)) m e H = g74_8 call n m (e.at 0) (e.at 6) (e.at 7) (e.at 8) H := by
  induction m generalizing e H with
  | zero => rfl
  | succ m ihm =>
    show runK call n c74_7 e H (iterK (fun k e H => runK call n c74_7 e H k (fun i e H => if i = 0 then (some (.tup [], H)) else none) (resK r74)) m) (fun i e H => if i = 0 then (some (.tup [], H)) else none) (resK r74) = g74_2 call n (g74_8 call n m) (e.at 0) (e.at 6) (e.at 7) (e.at 8) H
    rw [show iterK (fun k e H => runK call n c74_7 e H k (fun i e H => if i = 0 then (some (.tup [], H)) else none) (resK r74)) m = (fun e H => g74_8 call n m (e.at 0) (e.at 6) (e.at 7) (e.at 8) H) from funext fun e => funext fun H => ihm e H]
    exact e74_2 call n (g74_8 call n m) e H
/- (*jalousie/events.Parser).prints -/
def g74 (call : Caller) (n : Nat) (x0 x1 : SV) (H : SHeap) : Res :=
  pLenL x1 fun t7 =>
  g74_8 call n n x0 x1 t7 (.int .i64 (.ofNat 0)) H
theorem e74 (call : Caller) (n : Nat) (x0 x1 : SV) (H : SHeap) : runBodyK call n c74 [x0, x1] H = g74 call n x0 x1 H :=
  (bodyK_eq call n H 2 r74 b74 [x0, x1] rfl).trans (by simp only [b74, rr74, g74, e74_4, e74_3, e74_2, e74_8, kit, Nat.reduceEqDiff, ↓reduceIte, Nat.reduceAdd])
theorem rr75 (e : Env) (H : SHeap) : resK r75 e H = some (.tup [], H) := by
  simp only [r75, kitR, kit, Nat.reduceEqDiff, ↓reduceIte, Nat.reduceAdd]
/- (*jalousie/events.Parser).tells -/
def g75 (call : Caller) (n : Nat) (x0 x1 : SV) (H : SHeap) : Res :=
  bnd (xBox y74 x1 H) fun t3 H1 =>
  pNilCheck x0 fun t6 =>
  pFieldAddr 14 t6 fun t7 =>
  pLoad y97 t7 H1 fun t8 =>
  pLoad y74 t3 H1 fun t9 =>
  bnd (xBuildSlice y74 (.agg [(.int .i64 (.ofNat 0)), (.int .i32 (.ofNat 0)), (.int .u8 (.ofNat 0)), (.str []), .nils, (.str [])]) 1 [(0, t9)] H1) fun t10 H2 =>
  pAppend 74 6 72 H2 t8 t10 fun t11 H3 =>
  pNilCheck x0 fun t12 =>
  pFieldAddr 14 t12 fun t13 =>
  pStore y97 t13 t11 H3 fun H4 =>
  lookK t8 (xLoad y97 t7 H2) <|
  some (.tup [], H4)
theorem e75 (call : Caller) (n : Nat) (x0 x1 : SV) (H : SHeap) : runBodyK call n c75 [x0, x1] H = g75 call n x0 x1 H :=
  (bodyK_eq call n H 2 r75 b75 [x0, x1] rfl).trans (by simp only [b75, rr75, g75, kit, Nat.reduceEqDiff, ↓reduceIte, Nat.reduceAdd])
theorem rr76 (e : Env) (H : SHeap) : resK r76 e H = some ((e.at 2), H) := by
  simp only [r76, kitR, kit, Nat.reduceEqDiff, ↓reduceIte, Nat.reduceAdd]
def g76_2 (call : Caller) (n : Nat) (t3 : SV) (H : SHeap) : Res :=
  some (t3, H)
theorem e76_2 (call : Caller) (n : Nat) (e : Env) (H : SHeap) : runK call n c76_3 e H (resK r76) (fun _ _ _ => none) (resK r76) = g76_2 call n (e.at 3) H := by
  simp only [c76_3, g76_2, rr76, kit, Nat.reduceEqDiff, ↓reduceIte, Nat.reduceAdd]
def g76_7 (call : Caller) (n : Nat) (ih4 : SV → SV → SV → SV → SHeap → Res) (t3 t11 t12 t13 : SV) (H : SHeap) : Res :=
  pAdd t13 (.int .i64 (.ofNat 1)) fun t22 =>
  ih4 t3 t11 t12 t22 H
theorem e76_7 (call : Caller) (n : Nat) (ih4 : SV → SV → SV → SV → SHeap → Res) (e : Env) (H : SHeap) : runK call n c76_8 e H (fun e H => ih4 (e.at 3) (e.at 11) (e.at 12) (e.at 13) H) (fun i e H => if i = 0 then g76_2 call n (e.at 3) H else none) (resK r76) = g76_7 call n ih4 (e.at 3) (e.at 11) (e.at 12) (e.at 13) H := by
  simp only [c76_8, g76_7, rr76, e76_2, kit, Nat.reduceEqDiff, ↓reduceIte, Nat.reduceAdd]
def g76_6 (call : Caller) (n : Nat) (ih4 : SV → SV → SV → SV → SHeap → Res) (t3 t11 t12 t13 : SV) (H : SHeap) : Res :=
  pIdxAddrL 1 t11 t13 H fun t15 =>
  pLoad y81 t15 H fun t16 =>
  bnd (call 96 [t16] H) fun t19 H2 =>
  bnd (xBuildSlice y81 .nils 1 [(0, t19)] H2) fun t20 H3 =>
  pAppend 81 1 24 H3 t3 t20 fun t21 H4 =>
  g76_7 call n ih4 t21 t11 t12 t13 H4
theorem e76_6 (call : Caller) (n : Nat) (ih4 : SV → SV → SV → SV → SHeap → Res) (e : Env) (H : SHeap) : runK call n c76_9 e H (fun e H => ih4 (e.at 3) (e.at 11) (e.at 12) (e.at 13) H) (fun i e H => if i = 0 then g76_2 call n (e.at 3) H else none) (resK r76) = g76_6 call n ih4 (e.at 3) (e.at 11) (e.at 12) (e.at 13) H := by
  simp only [c76_9, g76_6, rr76, e76_2, e76_7, kit, Nat.reduceEqDiff, ↓reduceIte, Nat.reduceAdd]
def g76_5 (call : Caller) (n : Nat) (ih4 : SV → SV → SV → SV → SHeap → Res) (t3 t11 t12 t13 : SV) (H : SHeap) : Res :=
  pLss t13 t12 fun t14 =>
  condK t14 (
   g76_6 call n ih4 t3 t11 t12 t13 H) (
   g76_2 call n t3 H)
theorem e76_5 (call : Caller) (n : Nat) (ih4 : SV → SV → SV → SV → SHeap → Res) (e : Env) (H : SHeap) : runK call n c76_10 e H (fun e H => ih4 (e.at 3) (e.at 11) (e.at 12) (e.at 13) H) (fun i e H => if i = 0 then g76_2 call n (e.at 3) H else none) (resK r76) = g76_5 call n ih4 (e.at 3) (e.at 11) (e.at 12) (e.at 13) H := by
  simp only [c76_10, g76_5, rr76, e76_2, e76_7, e76_6, kit, Nat.reduceEqDiff, ↓reduceIte, Nat.reduceAdd]
def g76_11 (call : Caller) (n : Nat) (m : Nat) : SV → SV → SV → SV → SHeap → Res :=
  Nat.rec (motive := fun _ => SV → SV → SV → SV → SHeap → Res) (fun _ _ _ _ _ => none) (fun _ ih4 t3 t11 t12 t13 H => g76_5 call n ih4 t3 t11 t12 t13 H) m
theorem e76_11 (call : Caller) (n : Nat) (m : Nat) (e : Env) (H : SHeap) : iterK (fun k e H => runK call n c76_10 e H k (fun i e H => if i = 0 then g76_2 call n (e.at 3) H else none) (resK r76)) m e H = g76_11 call n m (e.at 3) (e.at 11) (e.at 12) (e.at 13) H := by
  induction m generalizing e H with
  | zero => rfl
  | succ m ihm =>
    show runK call n c76_10 e H (iterK (fun k e H => runK call n c76_10 e H k (fun i e H => if i = 0 then g76_2 call n (e.at 3) H else none) (resK r76)) m) (fun i e H => if i = 0 then g76_2 call n (e.at 3) H else none) (resK r76) = g76_5 call n (g76_11 call n m) (e.at 3) (e.at 11) (e.at 12) (e.at 13) H
    rw [show iterK (fun k e H => runK call n c76_10 e H k (fun i e H => if i = 0 then g76_2 call n (e.at 3) H else none) (resK r76)) m = (fun e H => g76_11 call n m (e.at 3) (e.at 11) (e.at 12) (e.at 13) H) from funext fun e => funext fun H => ihm e H]
    exact e76_5 call n (g76_11 call n m) e H
def g76_1 (call : Caller) (n : Nat) (t0 : SV) (H : SHeap) : Res :=
  pNilCheck t0 fun t9 =>
  pFieldAddr 0 t9 fun t10 =>
  pLoad y63 t10 H fun t11 =>
  pLenL t11 fun t12 =>
  g76_11 call n n .nils t11 t12 (.int .i64 (.ofNat 0)) H
theorem e76_1 (call : Caller) (n : Nat) (e : Env) (H : SHeap) : runK call n c76_12 e H (resK r76) (fun _ _ _ => none) (resK r76) = g76_1 call n (e.at 0) H := by
  simp only [c76_12, g76_1, rr76, e76_2, e76_7, e76_6, e76_5, e76_11, kit, Nat.reduceEqDiff, ↓reduceIte, Nat.reduceAdd]
/- (*jalousie/params.List).All -/
def g76 (call : Caller) (n : Nat) (x0 : SV) (H : SHeap) : Res :=
  bnd (xSamePtr false x0 .nilp H) fun t7 H1 =>
  condK t7 (
   some (.nils, H1)) (
   g76_1 call n x0 H1)
theorem e76 (call : Caller) (n : Nat) (x0 : SV) (H : SHeap) : runBodyK call n c76 [x0] H = g76 call n x0 H :=
  (bodyK_eq call n H 1 r76 b76 [x0] rfl).trans (by simp only [b76, rr76, g76, e76_2, e76_7, e76_6, e76_5, e76_11, e76_1, kit, Nat.reduceEqDiff, ↓reduceIte, Nat.reduceAdd])
theorem rr77 (e : Env) (H : SHeap) : resK r77 e H = pLoad y125 (e.at 4) H fun w0 => some (.tup [w0, (e.at 5)], H) := by
  simp only [r77, kitR, kit, Nat.reduceEqDiff, ↓reduceIte, Nat.reduceAdd]
def g77_4 (call : Caller) (n : Nat) (t4 t5 : SV) (H : SHeap) : Res :=
  pLoad y125 t4 H fun t90 =>
  pStore y125 t4 t90 H fun H8 =>
  pLoad y125 t4 H8 fun w1 =>
  some (.tup [w1, t5], H8)
theorem e77_4 (call : Caller) (n : Nat) (e : Env) (H : SHeap) : runK call n c77_5 e H (resK r77) (fun _ _ _ => none) (resK r77) = g77_4 call n (e.at 4) (e.at 5) H := by
  simp only [c77_5, g77_4, rr77, kit, Nat.reduceEqDiff, ↓reduceIte, Nat.reduceAdd]
def g77_3 (call : Caller) (n : Nat) (t0 t1 t4 t5 : SV) (H : SHeap) : Res :=
  bnd (call 97 [t0, t1] H) fun t81 H7 =>
  pExtract 0 t81 fun t82 =>
  pExtract 1 t81 fun t83 =>
  condK t83 (
   pIdxAddrA 2 1 t4 t5 H7 fun t87 =>
   pStore y21 t87 t82 H7 fun H9 =>
   pAdd t5 (.int .i64 (.ofNat 1)) fun t89 =>
   g77_4 call n t4 t89 H9) (
   g77_4 call n t4 t5 H7)
theorem e77_3 (call : Caller) (n : Nat) (e : Env) (H : SHeap) : runK call n c77_6 e H (resK r77) (fun _ _ _ => none) (resK r77) = g77_3 call n (e.at 0) (e.at 1) (e.at 4) (e.at 5) H := by
  simp only [c77_6, g77_3, rr77, e77_4, kit, Nat.reduceEqDiff, ↓reduceIte, Nat.reduceAdd]
def g77_2 (call : Caller) (n : Nat) (t0 t1 t4 t5 : SV) (H : SHeap) : Res :=
  pNilCheck t0 fun t70 =>
  pFieldAddr 0 t70 fun t71 =>
  pLoad y3 t71 H fun t72 =>
  pGtr t72 (.int .i64 (.ofNat 0)) fun t73 =>
  condK t73 (
   bnd (xBuild [(.int .i64 (.ofNat 0)), (.int .i64 (.ofNat 0)), (.int .u8 (.ofNat 0)), (.int .u8 (.ofNat 0)), (.int .i32 (.ofNat 0))] [] H) fun t75 H10 =>
   pNilCheck t0 fun t76 =>
   pStore y94 t76 t75 H10 fun H11 =>
   pIdxAddrA 2 1 t4 (.int .i64 (.ofNat 0)) H11 fun t77 =>
   pStore y21 t77 (.int .i32 (.ofNat 65533)) H11 fun H12 =>
   g77_3 call n t0 t1 t4 (.int .i64 (.ofNat 1)) H12) (
   g77_3 call n t0 t1 t4 t5 H)
theorem e77_2 (call : Caller) (n : Nat) (e : Env) (H : SHeap) : runK call n c77_7 e H (resK r77) (fun _ _ _ => none) (resK r77) = g77_2 call n (e.at 0) (e.at 1) (e.at 4) (e.at 5) H := by
  simp only [c77_7, g77_2, rr77, e77_4, e77_3, kit, Nat.reduceEqDiff, ↓reduceIte, Nat.reduceAdd]
def g77_9 (call : Caller) (n : Nat) (t4 t5 : SV) (H : SHeap) : Res :=
  pLoad y125 t4 H fun t67 =>
  pStore y125 t4 t67 H fun H15 =>
  pLoad y125 t4 H15 fun w1 =>
  some (.tup [w1, t5], H15)
theorem e77_9 (call : Caller) (n : Nat) (e : Env) (H : SHeap) : runK call n c77_10 e H (fun e H => g77_2 call n (e.at 0) (e.at 1) (e.at 4) (e.at 5) H) (fun _ _ _ => none) (resK r77) = g77_9 call n (e.at 4) (e.at 5) H := by
  simp only [c77_10, g77_9, rr77, e77_4, e77_3, e77_2, kit, Nat.reduceEqDiff, ↓reduceIte, Nat.reduceAdd]
def g77_8 (call : Caller) (n : Nat) (t0 t1 t4 t5 t31 : SV) (H : SHeap) : Res :=
  condK t31 (
   pNilCheck t0 fun t34 =>
   pFieldAddr 0 t34 fun t35 =>
   pLoad y3 t35 H fun t36 =>
   pAdd t36 (.int .i64 (.ofNat 1)) fun t37 =>
   pNilCheck t0 fun t39 =>
   pFieldAddr 1 t39 fun t40 =>
   pLoad y3 t40 H fun t41 =>
   pSub t41 (.int .i64 (.ofNat 1)) fun t42 =>
   pNilCheck t0 fun t44 =>
   pFieldAddr 4 t44 fun t45 =>
   pLoad y21 t45 H fun t46 =>
   pBin .shl t46 (.int .u64 (.ofNat 6)) fun t47 =>
   pBin .and t1 (.int .u8 (.ofNat 63)) fun t49 =>
   pToInt .i32 t49 fun t50 =>
   pBin .or t47 t50 fun t51 =>
   bnd (xBuild [(.int .i64 (.ofNat 0)), (.int .i64 (.ofNat 0)), (.int .u8 (.ofNat 0)), (.int .u8 (.ofNat 0)), (.int .i32 (.ofNat 0))] [(0, 1, t37), (1, 1, t42), (2, 1, (.int .u8 (.ofNat 128))), (3, 1, (.int .u8 (.ofNat 191))), (4, 1, t51)] H) fun t52 H13 =>
   pNilCheck t0 fun t53 =>
   pStore y94 t53 t52 H13 fun H14 =>
   pNilCheck t0 fun t55 =>
   pFieldAddr 1 t55 fun t56 =>
   pLoad y3 t56 H14 fun t57 =>
   pEql .no t57 (.int .i64 (.ofNat 0)) fun t58 =>
   condK t58 (
    pNilCheck t0 fun t60 =>
    pFieldAddr 4 t60 fun t61 =>
    pLoad y21 t61 H14 fun t62 =>
    pIdxAddrA 2 1 t4 (.int .i64 (.ofNat 0)) H14 fun t63 =>
    pStore y21 t63 t62 H14 fun H16 =>
    bnd (xBuild [(.int .i64 (.ofNat 0)), (.int .i64 (.ofNat 0)), (.int .u8 (.ofNat 0)), (.int .u8 (.ofNat 0)), (.int .i32 (.ofNat 0))] [] H16) fun t65 H17 =>
    pNilCheck t0 fun t66 =>
    pStore y94 t66 t65 H17 fun H18 =>
    g77_9 call n t4 (.int .i64 (.ofNat 1)) H18) (
    g77_9 call n t4 t5 H14)) (
   g77_2 call n t0 t1 t4 t5 H)
theorem e77_8 (call : Caller) (n : Nat) (e : Env) (H : SHeap) : runK call n c77_11 e H (fun e H => g77_2 call n (e.at 0) (e.at 1) (e.at 4) (e.at 5) H) (fun _ _ _ => none) (resK r77) = g77_8 call n (e.at 0) (e.at 1) (e.at 4) (e.at 5) (e.at 31) H := by
  simp only [c77_11, g77_8, rr77, e77_4, e77_3, e77_2, e77_9, kit, Nat.reduceEqDiff, ↓reduceIte, Nat.reduceAdd]
def g77_12 (call : Caller) (n : Nat) (t0 t1 t4 t5 t16 t17 t20 : SV) (H : SHeap) : Res :=
  bnd (guardR t16 true (xLoad y5 t20 H) H) fun t21 H19 =>
  bnd (guardR t16 true (only H19 (sBin .geq .no t17 t21)) H19) fun t22 H20 =>
  pPick t16 t22 (.bool false) fun t23 =>
  bnd (guardR t23 true (some (t1, H20)) H20) fun t25 H21 =>
  bnd (guardR t23 true (some (t0, H21)) H21) fun t26 H22 =>
  bnd (guardR t23 true (xNilCheck t26 H22) H22) fun t27 H23 =>
  bnd (guardR t23 true (xFieldAddr 3 t27 H23) H23) fun t28 H24 =>
  bnd (guardR t23 true (xLoad y5 t28 H24) H24) fun t29 H25 =>
  bnd (guardR t23 true (only H25 (sBin .leq .no t25 t29)) H25) fun t30 H26 =>
  pPick t23 t30 (.bool false) fun t31 =>
  g77_8 call n t0 t1 t4 t5 t31 H26
theorem e77_12 (call : Caller) (n : Nat) (e : Env) (H : SHeap) : runOpsK call o77_13 e H (fun e H => g77_8 call n (e.at 0) (e.at 1) (e.at 4) (e.at 5) (e.at 31) H) = g77_12 call n (e.at 0) (e.at 1) (e.at 4) (e.at 5) (e.at 16) (e.at 17) (e.at 20) H := by
  simp only [o77_13, g77_12, rr77, e77_4, e77_3, e77_2, e77_9, e77_8, kit, Nat.reduceEqDiff, ↓reduceIte, Nat.reduceAdd]
def g77_1 (call : Caller) (n : Nat) (t0 t1 t4 t5 : SV) (H : SHeap) : Res :=
  pNilCheck t0 fun t12 =>
  pFieldAddr 0 t12 fun t13 =>
  pLoad y3 t13 H fun t14 =>
  pGtr t14 (.int .i64 (.ofNat 0)) fun t15 =>
  bnd (guardR t15 true (some (t1, H)) H) fun t17 H3 =>
  bnd (guardR t15 true (some (t0, H3)) H3) fun t18 H4 =>
  bnd (guardR t15 true (xNilCheck t18 H4) H4) fun t19 H5 =>
  bnd (guardR t15 true (xFieldAddr 2 t19 H5) H5) fun t20 H6 =>
  g77_12 call n t0 t1 t4 t5 t15 t17 t20 H6
theorem e77_1 (call : Caller) (n : Nat) (e : Env) (H : SHeap) : runK call n c77_14 e H (resK r77) (fun _ _ _ => none) (resK r77) = g77_1 call n (e.at 0) (e.at 1) (e.at 4) (e.at 5) H := by
  simp only [c77_14, g77_1, rr77, e77_4, e77_3, e77_2, e77_9, e77_8, e77_12, kit, Nat.reduceEqDiff, ↓reduceIte, Nat.reduceAdd]
/- (*jalousie/decode.Decoder).Byte -/
def g77 (call : Caller) (n : Nat) (x0 x1 : SV) (H : SHeap) : Res :=
  pAlloc y125 (.agg [(.int .i32 (.ofNat 0)), (.int .i32 (.ofNat 0))]) H fun t4 H1 =>
  bnd (xSamePtr false x0 .nilp H1) fun t9 H2 =>
  condK t9 (
   pLoad y125 t4 H2 fun t10 =>
   pStore y125 t4 t10 H2 fun H27 =>
   pLoad y125 t4 H27 fun w1 =>
   some (.tup [w1, (.int .i64 (.ofNat 0))], H27)) (
   g77_1 call n x0 x1 t4 (.int .i64 (.ofNat 0)) H2)
theorem e77 (call : Caller) (n : Nat) (x0 x1 : SV) (H : SHeap) : runBodyK call n c77 [x0, x1] H = g77 call n x0 x1 H :=
  (bodyK_eq call n H 2 r77 b77 [x0, x1] rfl).trans (by simp only [b77, rr77, g77, e77_4, e77_3, e77_2, e77_9, e77_8, e77_12, e77_1, kit, Nat.reduceEqDiff, ↓reduceIte, Nat.reduceAdd])
theorem rr78 (e : Env) (H : SHeap) : resK r78 e H = some (.tup [], H) := by
  simp only [r78, kitR, kit, Nat.reduceEqDiff, ↓reduceIte, Nat.reduceAdd]
def g78_2 (call : Caller) (n : Nat) (t0 t1 : SV) (H : SHeap) : Res :=
  pNilCheck t0 fun t31 =>
  pFieldAddr 0 t31 fun t32 =>
  pLoad y63 t32 H fun t33 =>
  pNilCheck t0 fun t35 =>
  pFieldAddr 0 t35 fun t36 =>
  pLoad y63 t36 H fun t37 =>
  pLenL t37 fun t38 =>
  pSub t38 (.int .i64 (.ofNat 1)) fun t39 =>
  pIdxAddrL 1 t33 t39 H fun t40 =>
  pNilCheck t40 fun t42 =>
  pLoad y81 t42 H fun t43 =>
  pLenL t43 fun t44 =>
  pSub t44 (.int .i64 (.ofNat 1)) fun t45 =>
  pEql .no t1 (.int .u8 (.ofNat 59)) fun t55 =>
  condK t55 (
   bnd (call 98 [t0] H) fun t57 H7 =>
   some (.tup [], H7)) (
   pNilCheck t0 fun t60 =>
   pFieldAddr 2 t60 fun t61 =>
   pLoad y4 t61 H fun t62 =>
   condK t62 (
    some (.tup [], H)) (
    pNeq .no t1 (.int .u8 (.ofNat 58)) fun t65 =>
    condK t65 (
     pNilCheck t40 fun t67 =>
     pLoad y81 t67 H fun t68 =>
     pNilCheck t40 fun t71 =>
     pLoad y81 t71 H fun t72 =>
     pIdxAddrL 1 t72 t45 H fun t74 =>
     pLoad y3 t74 H fun t75 =>
     pBin .mul (.int .i64 (.ofNat 10)) t75 fun t76 =>
     pSub t1 (.int .u8 (.ofNat 48)) fun t78 =>
     pToInt .i64 t78 fun t79 =>
     pAdd t76 t79 fun t80 =>
     bnd (xMin [t80, (.int .i64 (.ofNat 9999))] H) fun t81 H8 =>
     pIdxAddrL 1 t68 t45 H8 fun t82 =>
     pStore y3 t82 t81 H8 fun H9 =>
     some (.tup [], H9)) (
     pAdd t45 (.int .i64 (.ofNat 1)) fun t85 =>
     pEql .no t85 (.int .i64 (.ofNat 8)) fun t86 =>
     condK t86 (
      pNilCheck t0 fun t88 =>
      pFieldAddr 2 t88 fun t89 =>
      pStore y4 t89 (.bool true) H fun H10 =>
      some (.tup [], H10)) (
      pNilCheck t40 fun t48 =>
      pLoad y81 t48 H fun t49 =>
      bnd (xBuildSlice y3 (.int .i64 (.ofNat 0)) 1 [(0, (.int .i64 (.ofNat 0)))] H) fun t50 H11 =>
      pAppend 3 1 8 H11 t49 t50 fun t51 H12 =>
      pNilCheck t40 fun t52 =>
      pStore y81 t52 t51 H12 fun H13 =>
      some (.tup [], H13)))))
theorem e78_2 (call : Caller) (n : Nat) (e : Env) (H : SHeap) : runK call n c78_3 e H (resK r78) (fun _ _ _ => none) (resK r78) = g78_2 call n (e.at 0) (e.at 1) H := by
  simp only [c78_3, g78_2, rr78, kit, Nat.reduceEqDiff, ↓reduceIte, Nat.reduceAdd]
def g78_1 (call : Caller) (n : Nat) (t0 t1 : SV) (H : SHeap) : Res :=
  pNilCheck t0 fun t23 =>
  pFieldAddr 0 t23 fun t24 =>
  pLoad y63 t24 H fun t25 =>
  pLenL t25 fun t26 =>
  pEql .no t26 (.int .i64 (.ofNat 0)) fun t27 =>
  condK t27 (
   bnd (call 98 [t0] H) fun t29 H14 =>
   g78_2 call n t0 t1 H14) (
   g78_2 call n t0 t1 H)
theorem e78_1 (call : Caller) (n : Nat) (e : Env) (H : SHeap) : runK call n c78_4 e H (resK r78) (fun _ _ _ => none) (resK r78) = g78_1 call n (e.at 0) (e.at 1) H := by
  simp only [c78_4, g78_1, rr78, e78_2, kit, Nat.reduceEqDiff, ↓reduceIte, Nat.reduceAdd]
def g78_5 (call : Caller) (n : Nat) (t0 t1 t21 : SV) (H : SHeap) : Res :=
  condK t21 (
   some (.tup [], H)) (
   g78_1 call n t0 t1 H)
theorem e78_5 (call : Caller) (n : Nat) (e : Env) (H : SHeap) : runK call n c78_6 e H (fun e H => g78_1 call n (e.at 0) (e.at 1) H) (fun _ _ _ => none) (resK r78) = g78_5 call n (e.at 0) (e.at 1) (e.at 21) H := by
  simp only [c78_6, g78_5, rr78, e78_2, e78_1, kit, Nat.reduceEqDiff, ↓reduceIte, Nat.reduceAdd]
def g78_7 (call : Caller) (n : Nat) (t0 t1 t14 t15 : SV) (H : SHeap) : Res :=
  bnd (guardR t14 false (only H (sBin .lss .no t15 (.int .u8 (.ofNat 48)))) H) fun t16 H15 =>
  pPick t14 (.bool true) t16 fun t17 =>
  bnd (guardR t17 false (some (t1, H15)) H15) fun t19 H16 =>
  bnd (guardR t17 false (only H16 (sBin .gtr .no t19 (.int .u8 (.ofNat 59)))) H16) fun t20 H17 =>
  pPick t17 (.bool true) t20 fun t21 =>
  g78_5 call n t0 t1 t21 H17
theorem e78_7 (call : Caller) (n : Nat) (e : Env) (H : SHeap) : runOpsK call o78_8 e H (fun e H => g78_5 call n (e.at 0) (e.at 1) (e.at 21) H) = g78_7 call n (e.at 0) (e.at 1) (e.at 14) (e.at 15) H := by
  simp only [o78_8, g78_7, rr78, e78_2, e78_1, e78_5, kit, Nat.reduceEqDiff, ↓reduceIte, Nat.reduceAdd]
/- (*jalousie/params.List).Byte -/
def g78 (call : Caller) (n : Nat) (x0 x1 : SV) (H : SHeap) : Res :=
  bnd (xSamePtr false x0 .nilp H) fun t7 H1 =>
  bnd (guardR t7 false (some (x0, H1)) H1) fun t9 H2 =>
  bnd (guardR t7 false (xNilCheck t9 H2) H2) fun t10 H3 =>
  bnd (guardR t7 false (xFieldAddr 1 t10 H3) H3) fun t11 H4 =>
  bnd (guardR t7 false (xLoad y4 t11 H4) H4) fun t12 H5 =>
  pPick t7 (.bool true) t12 fun t13 =>
  bnd (guardR t13 false (some (x1, H5)) H5) fun t15 H6 =>
  g78_7 call n x0 x1 t13 t15 H6
theorem e78 (call : Caller) (n : Nat) (x0 x1 : SV) (H : SHeap) : runBodyK call n c78 [x0, x1] H = g78 call n x0 x1 H :=
  (bodyK_eq call n H 2 r78 b78 [x0, x1] rfl).trans (by simp only [b78, rr78, g78, e78_2, e78_1, e78_5, e78_7, kit, Nat.reduceEqDiff, ↓reduceIte, Nat.reduceAdd])
theorem rr79 (e : Env) (H : SHeap) : resK r79 e H = some (.tup [], H) := by
  simp only [r79, kitR, kit, Nat.reduceEqDiff, ↓reduceIte, Nat.reduceAdd]
def g79_1 (call : Caller) (n : Nat) (t0 t1 t2 t18 : SV) (H : SHeap) : Res :=
  condK t18 (
   some (.tup [], H)) (
   pEql .no t1 (.int .i64 (.ofNat 5)) fun t40 =>
   condK t40 (
    pNilCheck t0 fun t44 =>
    pFieldAddr 9 t44 fun t45 =>
    pLoad y9 t45 H fun t46 =>
    bnd (xBuild [(.int .i64 (.ofNat 0)), (.int .i32 (.ofNat 0)), (.int .u8 (.ofNat 0)), (.str []), .nils, (.str [])] [(0, 1, (.int .i64 (.ofNat 3))), (2, 1, t2), (3, 1, t46)] H) fun t47 H6 =>
    bnd (call 75 [t0, t47] H6) fun t48 H7 =>
    some (.tup [], H7)) (
    pNilCheck t0 fun t9 =>
    pFieldAddr 9 t9 fun t10 =>
    pLoad y9 t10 H fun t11 =>
    pNilCheck t0 fun t13 =>
    pFieldAddr 6 t13 fun t14 =>
    bnd (call 76 [t14] H) fun t15 H8 =>
    bnd (xBuild [(.int .i64 (.ofNat 0)), (.int .i32 (.ofNat 0)), (.int .u8 (.ofNat 0)), (.str []), .nils, (.str [])] [(0, 1, (.int .i64 (.ofNat 4))), (2, 1, t2), (3, 1, t11), (4, 1, t15)] H8) fun t16 H9 =>
    bnd (call 75 [t0, t16] H9) fun t17 H10 =>
    lookK t11 (xLoad y9 t10 H8) <|
    some (.tup [], H10)))
theorem e79_1 (call : Caller) (n : Nat) (e : Env) (H : SHeap) : runK call n c79_2 e H (resK r79) (fun i e H => if i = 0 then (some (.tup [], H)) else none) (resK r79) = g79_1 call n (e.at 0) (e.at 1) (e.at 2) (e.at 18) H := by
  simp only [c79_2, g79_1, rr79, kit, Nat.reduceEqDiff, ↓reduceIte, Nat.reduceAdd]
def g79_3 (call : Caller) (n : Nat) (t0 t1 t2 t23 t26 t28 : SV) (H : SHeap) : Res :=
  bnd (guardR t23 false (xPick t26 t28 (.bool false) H) H) fun t29 H11 =>
  bnd (guardR t23 false (some (t29, H11)) H11) fun t30 H12 =>
  bnd (guardR t30 true (some (t0, H12)) H12) fun t31 H13 =>
  bnd (guardR t30 true (xNilCheck t31 H13) H13) fun t32 H14 =>
  bnd (guardR t30 true (xFieldAddr 9 t32 H14) H14) fun t33 H15 =>
  bnd (guardR t30 true (xLoad y9 t33 H15) H15) fun t34 H16 =>
  bnd (guardR t30 true (only H16 (sBin .eql .no t34 (.str []))) H16) fun t35 H17 =>
  bnd (guardR t23 false (xPick t30 t35 (.bool false) H17) H17) fun t36 H18 =>
  pPick t23 (.bool true) t36 fun t37 =>
  g79_1 call n t0 t1 t2 t37 H18
theorem e79_3 (call : Caller) (n : Nat) (e : Env) (H : SHeap) : runOpsK call o79_4 e H (fun e H => g79_1 call n (e.at 0) (e.at 1) (e.at 2) (e.at 18) H) = g79_3 call n (e.at 0) (e.at 1) (e.at 2) (e.at 23) (e.at 26) (e.at 28) H := by
  simp only [o79_4, g79_3, rr79, e79_1, kit, Nat.reduceEqDiff, ↓reduceIte, Nat.reduceAdd]
/- (*jalousie/events.Parser).over -/
def g79 (call : Caller) (n : Nat) (x0 x1 x2 : SV) (H : SHeap) : Res :=
  pNilCheck x0 fun t20 =>
  pFieldAddr 10 t20 fun t21 =>
  pLoad y4 t21 H fun t22 =>
  bnd (guardR t22 false (some (x1, H)) H) fun t24 H1 =>
  bnd (guardR t22 false (only H1 (sBin .eql .no t24 (.int .i64 (.ofNat 5)))) H1) fun t25 H2 =>
  bnd (guardR t22 false (some (t25, H2)) H2) fun t26 H3 =>
  bnd (guardR t26 true (some (x2, H3)) H3) fun t27 H4 =>
  bnd (guardR t26 true (only H4 (sBin .eql .no t27 (.int .u8 (.ofNat 92)))) H4) fun t28 H5 =>
  g79_3 call n x0 x1 x2 t22 t26 t28 H5
theorem e79 (call : Caller) (n : Nat) (x0 x1 x2 : SV) (H : SHeap) : runBodyK call n c79 [x0, x1, x2] H = g79 call n x0 x1 x2 H :=
  (bodyK_eq call n H 3 r79 b79 [x0, x1, x2] rfl).trans (by simp only [b79, rr79, g79, e79_1, e79_3, kit, Nat.reduceEqDiff, ↓reduceIte, Nat.reduceAdd])
theorem rr80 (e : Env) (H : SHeap) : resK r80 e H = some (.tup [], H) := by
  simp only [r80, kitR, kit, Nat.reduceEqDiff, ↓reduceIte, Nat.reduceAdd]
def g80_2 (call : Caller) (n : Nat) (t0 t1 : SV) (H : SHeap) : Res :=
  pNilCheck t0 fun t27 =>
  pFieldAddr 13 t27 fun t28 =>
  pLoad y4 t28 H fun t29 =>
  pUn .not t29 fun t30 =>
  condK t30 (
   pNilCheck t0 fun t33 =>
   pFieldAddr 12 t33 fun t34 =>
   pLoad y58 t34 H fun t35 =>
   bnd (xBuildSlice y5 (.int .u8 (.ofNat 0)) 1 [(0, t1)] H) fun t37 H5 =>
   pAppend 5 1 1 H5 t35 t37 fun t38 H6 =>
   pNilCheck t0 fun t39 =>
   pFieldAddr 12 t39 fun t40 =>
   pStore y58 t40 t38 H6 fun H7 =>
   some (.tup [], H7)) (
   some (.tup [], H))
theorem e80_2 (call : Caller) (n : Nat) (e : Env) (H : SHeap) : runK call n c80_3 e H (resK r80) (fun _ _ _ => none) (resK r80) = g80_2 call n (e.at 0) (e.at 1) H := by
  simp only [c80_3, g80_2, rr80, kit, Nat.reduceEqDiff, ↓reduceIte, Nat.reduceAdd]
def g80_4 (call : Caller) (n : Nat) (t0 t1 t4 t10 t15 t19 : SV) (H : SHeap) : Res :=
  bnd (guardR t15 false (xLenL t19 H) H) fun t20 H8 =>
  bnd (guardR t15 false (some (t4, H8)) H8) fun t21 H9 =>
  bnd (guardR t15 false (only H9 (sBin .eql .no t20 t21)) H9) fun t22 H10 =>
  pPick t15 (.bool true) t22 fun t23 =>
  pNilCheck t10 fun t24 =>
  pFieldAddr 13 t24 fun t25 =>
  pStore y4 t25 t23 H10 fun H11 =>
  g80_2 call n t0 t1 H11
theorem e80_4 (call : Caller) (n : Nat) (e : Env) (H : SHeap) : runOpsK call o80_5 e H (fun e H => g80_2 call n (e.at 0) (e.at 1) H) = g80_4 call n (e.at 0) (e.at 1) (e.at 4) (e.at 10) (e.at 15) (e.at 19) H := by
  simp only [o80_5, g80_4, rr80, e80_2, kit, Nat.reduceEqDiff, ↓reduceIte, Nat.reduceAdd]
def g80_1 (call : Caller) (n : Nat) (t0 t1 t4 : SV) (H : SHeap) : Res :=
  pNilCheck t0 fun t12 =>
  pFieldAddr 13 t12 fun t13 =>
  pLoad y4 t13 H fun t14 =>
  bnd (guardR t14 false (some (t0, H)) H) fun t16 H1 =>
  bnd (guardR t14 false (xNilCheck t16 H1) H1) fun t17 H2 =>
  bnd (guardR t14 false (xFieldAddr 12 t17 H2) H2) fun t18 H3 =>
  bnd (guardR t14 false (xLoad y58 t18 H3) H3) fun t19 H4 =>
  g80_4 call n t0 t1 t4 t0 t14 t19 H4
theorem e80_1 (call : Caller) (n : Nat) (e : Env) (H : SHeap) : runK call n c80_6 e H (resK r80) (fun _ _ _ => none) (resK r80) = g80_1 call n (e.at 0) (e.at 1) (e.at 4) H := by
  simp only [c80_6, g80_1, rr80, e80_2, e80_4, kit, Nat.reduceEqDiff, ↓reduceIte, Nat.reduceAdd]
/- (*jalousie/events.Parser).put -/
def g80 (call : Caller) (n : Nat) (x0 x1 : SV) (H : SHeap) : Res :=
  pNilCheck x0 fun t6 =>
  pFieldAddr 5 t6 fun t7 =>
  pLoad y3 t7 H fun t8 =>
  pEql .no t8 (.int .i64 (.ofNat 12)) fun t9 =>
  condK t9 (
   g80_1 call n x0 x1 (.int .i64 (.ofNat 1024)) H) (
   g80_1 call n x0 x1 (.int .i64 (.ofNat 256)) H)
theorem e80 (call : Caller) (n : Nat) (x0 x1 : SV) (H : SHeap) : runBodyK call n c80 [x0, x1] H = g80 call n x0 x1 H :=
  (bodyK_eq call n H 2 r80 b80 [x0, x1] rfl).trans (by simp only [b80, rr80, g80, e80_2, e80_4, e80_1, kit, Nat.reduceEqDiff, ↓reduceIte, Nat.reduceAdd])
theorem rr81 (e : Env) (H : SHeap) : resK r81 e H = some ((e.at 2), H) := by
  simp only [r81, kitR, kit, Nat.reduceEqDiff, ↓reduceIte, Nat.reduceAdd]
def g81_1 (call : Caller) (n : Nat) (H : SHeap) : Res :=
  some ((.int .i64 (.ofNat 1)), H)
theorem e81_1 (call : Caller) (n : Nat) (e : Env) (H : SHeap) : runK call n c81_2 e H (resK r81) (fun _ _ _ => none) (resK r81) = g81_1 call n H := by
  simp only [c81_2, g81_1, rr81, kit, Nat.reduceEqDiff, ↓reduceIte, Nat.reduceAdd]
def g81_5 (call : Caller) (n : Nat) (ih3 : SV → SV → SV → SHeap → Res) (t0 t3 t4 : SV) (H : SHeap) : Res :=
  pAdd t3 t4 fun t11 =>
  pBin .quo t11 (.int .i64 (.ofNat 2)) fun t12 =>
  pIdxAddrA 26 2 (.ptr 1 0 0) t12 H fun t16 =>
  pIdxAddrA 2 1 t16 (.int .i64 (.ofNat 0)) H fun t17 =>
  pLoad y21 t17 H fun t18 =>
  pLss t0 t18 fun t19 =>
  condK t19 (
   ih3 t0 t3 t12 H) (
   pIdxAddrA 26 2 (.ptr 1 0 0) t12 H fun t24 =>
   pIdxAddrA 2 1 t24 (.int .i64 (.ofNat 1)) H fun t25 =>
   pLoad y21 t25 H fun t26 =>
   pGtr t0 t26 fun t27 =>
   condK t27 (
    pAdd t12 (.int .i64 (.ofNat 1)) fun t29 =>
    ih3 t0 t29 t4 H) (
    pBin .shr (.int .i64 (.ofNat 33948543)) t12 fun t32 =>
    pBin .and t32 (.int .i64 (.ofNat 1)) fun t33 =>
    pEql .no t33 (.int .i64 (.ofNat 1)) fun t34 =>
    condK t34 (
     some ((.int .i64 (.ofNat 0)), H)) (
     some ((.int .i64 (.ofNat 2)), H))))
theorem e81_5 (call : Caller) (n : Nat) (ih3 : SV → SV → SV → SHeap → Res) (e : Env) (H : SHeap) : runK call n c81_6 e H (fun e H => ih3 (e.at 0) (e.at 3) (e.at 4) H) (fun i e H => if i = 0 then g81_1 call n H else none) (resK r81) = g81_5 call n ih3 (e.at 0) (e.at 3) (e.at 4) H := by
  simp only [c81_6, g81_5, rr81, e81_1, kit, Nat.reduceEqDiff, ↓reduceIte, Nat.reduceAdd]
def g81_4 (call : Caller) (n : Nat) (ih3 : SV → SV → SV → SHeap → Res) (t0 t3 t4 : SV) (H : SHeap) : Res :=
  pLss t3 t4 fun t8 =>
  condK t8 (
   g81_5 call n ih3 t0 t3 t4 H) (
   g81_1 call n H)
theorem e81_4 (call : Caller) (n : Nat) (ih3 : SV → SV → SV → SHeap → Res) (e : Env) (H : SHeap) : runK call n c81_7 e H (fun e H => ih3 (e.at 0) (e.at 3) (e.at 4) H) (fun i e H => if i = 0 then g81_1 call n H else none) (resK r81) = g81_4 call n ih3 (e.at 0) (e.at 3) (e.at 4) H := by
  simp only [c81_7, g81_4, rr81, e81_1, e81_5, kit, Nat.reduceEqDiff, ↓reduceIte, Nat.reduceAdd]
def g81_8 (call : Caller) (n : Nat) (m : Nat) : SV → SV → SV → SHeap → Res :=
  Nat.rec (motive := fun _ => SV → SV → SV → SHeap → Res) (fun _ _ _ _ => none) (fun _ ih3 t0 t3 t4 H => g81_4 call n ih3 t0 t3 t4 H) m
theorem e81_8 (call : Caller) (n : Nat) (m : Nat) (e : Env) (H : SHeap) : iterK (fun k e H => runK call n c81_7 e H k (fun i e H => if i = 0 then g81_1 call n H else none) (resK r81)) m e H = g81_8 call n m (e.at 0) (e.at 3) (e.at 4) H := by
  induction m generalizing e H with
  | zero => rfl
  | succ m ihm =>
    show runK call n c81_7 e H (iterK (fun k e H => runK call n c81_7 e H k (fun i e H => if i = 0 then g81_1 call n H else none) (resK r81)) m) (fun i e H => if i = 0 then g81_1 call n H else none) (resK r81) = g81_4 call n (g81_8 call n m) (e.at 0) (e.at 3) (e.at 4) H
    rw [show iterK (fun k e H => runK call n c81_7 e H k (fun i e H => if i = 0 then g81_1 call n H else none) (resK r81)) m = (fun e H => g81_8 call n m (e.at 0) (e.at 3) (e.at 4) H) from funext fun e => funext fun H => ihm e H]
    exact e81_4 call n (g81_8 call n m) e H
/- jalousie/width.Of -/
def g81 (call : Caller) (n : Nat) (x0 : SV) (H : SHeap) : Res :=
  g81_8 call n n x0 (.int .i64 (.ofNat 0)) (.int .i64 (.ofNat 26)) H
theorem e81 (call : Caller) (n : Nat) (x0 : SV) (H : SHeap) : runBodyK call n c81 [x0] H = g81 call n x0 H :=
  (bodyK_eq call n H 1 r81 b81 [x0] rfl).trans (by simp only [b81, rr81, g81, e81_1, e81_5, e81_4, e81_8, kit, Nat.reduceEqDiff, ↓reduceIte, Nat.reduceAdd])
theorem rr82 (e : Env) (H : SHeap) : resK r82 e H = some (.tup [(e.at 10), (e.at 11)], H) := by
  simp only [r82, kitR, kit, Nat.reduceEqDiff, ↓reduceIte, Nat.reduceAdd]
def g82_3 (call : Caller) (n : Nat) (t0 : SV) (H : SHeap) : Res :=
  some (.tup [t0, (.bool true)], H)
theorem e82_3 (call : Caller) (n : Nat) (e : Env) (H : SHeap) : runK call n c82_4 e H (resK r82) (fun _ _ _ => none) (resK r82) = g82_3 call n (e.at 0) H := by
  simp only [c82_4, g82_3, rr82, kit, Nat.reduceEqDiff, ↓reduceIte, Nat.reduceAdd]
def g82_2 (call : Caller) (n : Nat) (t0 t1 t2 t3 t9 t12 : SV) (H : SHeap) : Res :=
  bnd (call 100 [t0] H) fun t28 H8 =>
  bnd (call 101 [t28, t1] H8) fun t31 H9 =>
  pAdd t1 t12 fun t35 =>
  bnd (call 101 [t28, t35] H9) fun t36 H10 =>
  pLoad y37 t9 H10 fun t40 =>
  bnd (xBuild [(.int .i32 (.ofNat 0)), (.int .u8 (.ofNat 0)), (.int .u16 (.ofNat 0)), (.int .u8 (.ofNat 0)), (.int .u32 (.ofNat 0)), (.int .u8 (.ofNat 0)), (.int .u32 (.ofNat 0))] [(0, 1, t2), (2, 5, t40)] H10) fun t41 H11 =>
  pIdxAddrL 7 t28 t1 H11 fun t42 =>
  pStore y39 t42 t41 H11 fun H12 =>
  condK t3 (
   pIdxAddrL 7 t28 t1 H12 fun t46 =>
   pFieldAddr 1 t46 fun t47 =>
   pStore y5 t47 (.int .u8 (.ofNat 1)) H12 fun H13 =>
   pAdd t1 (.int .i64 (.ofNat 1)) fun t50 =>
   pLoad y37 t9 H13 fun t52 =>
   bnd (xBuild [(.int .i32 (.ofNat 0)), (.int .u8 (.ofNat 0)), (.int .u16 (.ofNat 0)), (.int .u8 (.ofNat 0)), (.int .u32 (.ofNat 0)), (.int .u8 (.ofNat 0)), (.int .u32 (.ofNat 0))] [(0, 1, t2), (1, 1, (.int .u8 (.ofNat 2))), (2, 5, t52)] H13) fun t53 H14 =>
   pIdxAddrL 7 t28 t50 H14 fun t54 =>
   pStore y39 t54 t53 H14 fun H15 =>
   g82_3 call n t28 H15) (
   g82_3 call n t28 H12)
theorem e82_2 (call : Caller) (n : Nat) (e : Env) (H : SHeap) : runK call n c82_5 e H (resK r82) (fun _ _ _ => none) (resK r82) = g82_2 call n (e.at 0) (e.at 1) (e.at 2) (e.at 3) (e.at 9) (e.at 12) H := by
  simp only [c82_5, g82_2, rr82, e82_3, kit, Nat.reduceEqDiff, ↓reduceIte, Nat.reduceAdd]
def g82_6 (call : Caller) (n : Nat) (t0 t1 t2 t3 t9 t12 t26 : SV) (H : SHeap) : Res :=
  condK t26 (
   some (.tup [.nils, (.bool false)], H)) (
   g82_2 call n t0 t1 t2 t3 t9 t12 H)
theorem e82_6 (call : Caller) (n : Nat) (e : Env) (H : SHeap) : runK call n c82_7 e H (fun e H => g82_2 call n (e.at 0) (e.at 1) (e.at 2) (e.at 3) (e.at 9) (e.at 12) H) (fun _ _ _ => none) (resK r82) = g82_6 call n (e.at 0) (e.at 1) (e.at 2) (e.at 3) (e.at 9) (e.at 12) (e.at 26) H := by
  simp only [c82_7, g82_6, rr82, e82_3, e82_2, kit, Nat.reduceEqDiff, ↓reduceIte, Nat.reduceAdd]
def g82_8 (call : Caller) (n : Nat) (t0 t1 t2 t3 t9 t12 t18 t19 t23 : SV) (H : SHeap) : Res :=
  bnd (guardR t18 false (call 99 [t19, t23] H) H) fun t24 H16 =>
  bnd (guardR t18 false (only H16 (sUn .not t24)) H16) fun t25 H17 =>
  pPick t18 (.bool true) t25 fun t26 =>
  g82_6 call n t0 t1 t2 t3 t9 t12 t26 H17
theorem e82_8 (call : Caller) (n : Nat) (e : Env) (H : SHeap) : runOpsK call o82_9 e H (fun e H => g82_6 call n (e.at 0) (e.at 1) (e.at 2) (e.at 3) (e.at 9) (e.at 12) (e.at 26) H) = g82_8 call n (e.at 0) (e.at 1) (e.at 2) (e.at 3) (e.at 9) (e.at 12) (e.at 18) (e.at 19) (e.at 23) H := by
  simp only [o82_9, g82_8, rr82, e82_3, e82_2, e82_6, kit, Nat.reduceEqDiff, ↓reduceIte, Nat.reduceAdd]
def g82_1 (call : Caller) (n : Nat) (t0 t1 t2 t3 t9 t12 : SV) (H : SHeap) : Res :=
  bnd (call 99 [t0, t1] H) fun t16 H2 =>
  pUn .not t16 fun t17 =>
  bnd (guardR t17 false (some (t0, H2)) H2) fun t19 H3 =>
  bnd (guardR t17 false (some (t1, H3)) H3) fun t20 H4 =>
  bnd (guardR t17 false (some (t12, H4)) H4) fun t21 H5 =>
  bnd (guardR t17 false (only H5 (sBin .add .no t20 t21)) H5) fun t22 H6 =>
  bnd (guardR t17 false (only H6 (sBin .sub .no t22 (.int .i64 (.ofNat 1)))) H6) fun t23 H7 =>
  g82_8 call n t0 t1 t2 t3 t9 t12 t17 t19 t23 H7
theorem e82_1 (call : Caller) (n : Nat) (e : Env) (H : SHeap) : runK call n c82_10 e H (resK r82) (fun _ _ _ => none) (resK r82) = g82_1 call n (e.at 0) (e.at 1) (e.at 2) (e.at 3) (e.at 9) (e.at 12) H := by
  simp only [c82_10, g82_1, rr82, e82_3, e82_2, e82_6, e82_8, kit, Nat.reduceEqDiff, ↓reduceIte, Nat.reduceAdd]
/- jalousie/row.Write -/
def g82 (call : Caller) (n : Nat) (x0 x1 x2 x3 x4 : SV) (H : SHeap) : Res :=
  bnd (xBox y37 x4 H) fun t9 H1 =>
  condK x3 (
   g82_1 call n x0 x1 x2 x3 t9 (.int .i64 (.ofNat 2)) H1) (
   g82_1 call n x0 x1 x2 x3 t9 (.int .i64 (.ofNat 1)) H1)
theorem e82 (call : Caller) (n : Nat) (x0 x1 x2 x3 x4 : SV) (H : SHeap) : runBodyK call n c82 [x0, x1, x2, x3, x4] H = g82 call n x0 x1 x2 x3 x4 H :=
  (bodyK_eq call n H 5 r82 b82 [x0, x1, x2, x3, x4] rfl).trans (by simp only [b82, rr82, g82, e82_3, e82_2, e82_6, e82_8, e82_1, kit, Nat.reduceEqDiff, ↓reduceIte, Nat.reduceAdd])
theorem rr83 (e : Env) (H : SHeap) : resK r83 e H = some ((e.at 6), H) := by
  simp only [r83, kitR, kit, Nat.reduceEqDiff, ↓reduceIte, Nat.reduceAdd]
def g83_1 (call : Caller) (n : Nat) (t0 t1 : SV) (H : SHeap) : Res :=
  pIdxAddrL 1 t0 t1 H fun t35 =>
  pLoad y81 t35 H fun t36 =>
  pIdxAddrL 1 t36 (.int .i64 (.ofNat 0)) H fun t37 =>
  pLoad y3 t37 H fun t38 =>
  some (t38, H)
theorem e83_1 (call : Caller) (n : Nat) (e : Env) (H : SHeap) : runK call n c83_2 e H (resK r83) (fun _ _ _ => none) (resK r83) = g83_1 call n (e.at 0) (e.at 1) H := by
  simp only [c83_2, g83_1, rr83, kit, Nat.reduceEqDiff, ↓reduceIte, Nat.reduceAdd]
def g83_3 (call : Caller) (n : Nat) (t0 t1 t2 t31 : SV) (H : SHeap) : Res :=
  condK t31 (
   some (t2, H)) (
   g83_1 call n t0 t1 H)
theorem e83_3 (call : Caller) (n : Nat) (e : Env) (H : SHeap) : runK call n c83_4 e H (fun e H => g83_1 call n (e.at 0) (e.at 1) H) (fun _ _ _ => none) (resK r83) = g83_3 call n (e.at 0) (e.at 1) (e.at 2) (e.at 31) H := by
  simp only [c83_4, g83_3, rr83, e83_1, kit, Nat.reduceEqDiff, ↓reduceIte, Nat.reduceAdd]
def g83_6 (call : Caller) (n : Nat) (t0 t1 t2 t23 t26 : SV) (H : SHeap) : Res :=
  bnd (guardR t23 false (xLoad y81 t26 H) H) fun t27 H14 =>
  bnd (guardR t23 false (xIdxAddrL 1 t27 (.int .i64 (.ofNat 0)) H14) H14) fun t28 H15 =>
  bnd (guardR t23 false (xLoad y3 t28 H15) H15) fun t29 H16 =>
  bnd (guardR t23 false (only H16 (sBin .eql .no t29 (.int .i64 (.ofNat 0)))) H16) fun t30 H17 =>
  pPick t23 (.bool true) t30 fun t31 =>
  g83_3 call n t0 t1 t2 t31 H17
theorem e83_6 (call : Caller) (n : Nat) (e : Env) (H : SHeap) : runOpsK call o83_7 e H (fun e H => g83_3 call n (e.at 0) (e.at 1) (e.at 2) (e.at 31) H) = g83_6 call n (e.at 0) (e.at 1) (e.at 2) (e.at 23) (e.at 26) H := by
  simp only [o83_7, g83_6, rr83, e83_1, e83_3, kit, Nat.reduceEqDiff, ↓reduceIte, Nat.reduceAdd]
def g83_5 (call : Caller) (n : Nat) (t0 t1 t2 t15 t16 : SV) (H : SHeap) : Res :=
  bnd (guardR t15 false (some (t1, H)) H) fun t17 H6 =>
  bnd (guardR t15 false (xIdxAddrL 1 t16 t17 H6) H6) fun t18 H7 =>
  bnd (guardR t15 false (xLoad y81 t18 H7) H7) fun t19 H8 =>
  bnd (guardR t15 false (xLenL t19 H8) H8) fun t20 H9 =>
  bnd (guardR t15 false (only H9 (sBin .eql .no t20 (.int .i64 (.ofNat 0)))) H9) fun t21 H10 =>
  pPick t15 (.bool true) t21 fun t22 =>
  bnd (guardR t22 false (some (t0, H10)) H10) fun t24 H11 =>
  bnd (guardR t22 false (some (t1, H11)) H11) fun t25 H12 =>
  bnd (guardR t22 false (xIdxAddrL 1 t24 t25 H12) H12) fun t26 H13 =>
  g83_6 call n t0 t1 t2 t22 t26 H13
theorem e83_5 (call : Caller) (n : Nat) (e : Env) (H : SHeap) : runOpsK call o83_8 e H (fun e H => g83_3 call n (e.at 0) (e.at 1) (e.at 2) (e.at 31) H) = g83_5 call n (e.at 0) (e.at 1) (e.at 2) (e.at 15) (e.at 16) H := by
  simp only [o83_8, g83_5, rr83, e83_1, e83_3, e83_6, kit, Nat.reduceEqDiff, ↓reduceIte, Nat.reduceAdd]
/- jalousie/params.One -/
def g83 (call : Caller) (n : Nat) (x0 x1 x2 : SV) (H : SHeap) : Res :=
  pLss x1 (.int .i64 (.ofNat 0)) fun t8 =>
  bnd (guardR t8 false (some (x1, H)) H) fun t10 H1 =>
  bnd (guardR t8 false (some (x0, H1)) H1) fun t11 H2 =>
  bnd (guardR t8 false (xLenL t11 H2) H2) fun t12 H3 =>
  bnd (guardR t8 false (only H3 (sBin .geq .no t10 t12)) H3) fun t13 H4 =>
  pPick t8 (.bool true) t13 fun t14 =>
  bnd (guardR t14 false (some (x0, H4)) H4) fun t16 H5 =>
  g83_5 call n x0 x1 x2 t14 t16 H5
theorem e83 (call : Caller) (n : Nat) (x0 x1 x2 : SV) (H : SHeap) : runBodyK call n c83 [x0, x1, x2] H = g83 call n x0 x1 x2 H :=
  (bodyK_eq call n H 3 r83 b83 [x0, x1, x2] rfl).trans (by simp only [b83, rr83, g83, e83_1, e83_3, e83_6, e83_5, kit, Nat.reduceEqDiff, ↓reduceIte, Nat.reduceAdd])
theorem rr91 (e : Env) (H : SHeap) : resK r91 e H = some (.tup [], H) := by
  simp only [r91, kitR, kit, Nat.reduceEqDiff, ↓reduceIte, Nat.reduceAdd]
def g91_4 (call : Caller) (n : Nat) (ih1 : SV → SV → SV → SV → SHeap → Res) (t0 t3 t6 t7 : SV) (H : SHeap) : Res :=
  pAdd t7 (.int .i64 (.ofNat 1)) fun t15 =>
  ih1 t0 t3 t6 t15 H
theorem e91_4 (call : Caller) (n : Nat) (ih1 : SV → SV → SV → SV → SHeap → Res) (e : Env) (H : SHeap) : runK call n c91_5 e H (fun e H => ih1 (e.at 0) (e.at 3) (e.at 6) (e.at 7) H) (fun i e H => if i = 0 then (some (.tup [], H)) else none) (resK r91) = g91_4 call n ih1 (e.at 0) (e.at 3) (e.at 6) (e.at 7) H := by
  simp only [c91_5, g91_4, rr91, kit, Nat.reduceEqDiff, ↓reduceIte, Nat.reduceAdd]
def g91_3 (call : Caller) (n : Nat) (ih1 : SV → SV → SV → SV → SHeap → Res) (t0 t3 t6 t7 : SV) (H : SHeap) : Res :=
  pLoad y37 t3 H fun t12 =>
  bnd (call 104 [t12] H) fun t13 H2 =>
  pIdxAddrL 7 t0 t7 H2 fun t14 =>
  pStore y39 t14 t13 H2 fun H3 =>
  g91_4 call n ih1 t0 t3 t6 t7 H3
theorem e91_3 (call : Caller) (n : Nat) (ih1 : SV → SV → SV → SV → SHeap → Res) (e : Env) (H : SHeap) : runK call n c91_6 e H (fun e H => ih1 (e.at 0) (e.at 3) (e.at 6) (e.at 7) H) (fun i e H => if i = 0 then (some (.tup [], H)) else none) (resK r91) = g91_3 call n ih1 (e.at 0) (e.at 3) (e.at 6) (e.at 7) H := by
  simp only [c91_6, g91_3, rr91, e91_4, kit, Nat.reduceEqDiff, ↓reduceIte, Nat.reduceAdd]
def g91_2 (call : Caller) (n : Nat) (ih1 : SV → SV → SV → SV → SHeap → Res) (t0 t3 t6 t7 : SV) (H : SHeap) : Res :=
  pLss t7 t6 fun t8 =>
  condK t8 (
   g91_3 call n ih1 t0 t3 t6 t7 H) (
   some (.tup [], H))
theorem e91_2 (call : Caller) (n : Nat) (ih1 : SV → SV → SV → SV → SHeap → Res) (e : Env) (H : SHeap) : runK call n c91_7 e H (fun e H => ih1 (e.at 0) (e.at 3) (e.at 6) (e.at 7) H) (fun i e H => if i = 0 then (some (.tup [], H)) else none) (resK r91) = g91_2 call n ih1 (e.at 0) (e.at 3) (e.at 6) (e.at 7) H := by
  simp only [c91_7, g91_2, rr91, e91_4, e91_3, kit, Nat.reduceEqDiff, ↓reduceIte, Nat.reduceAdd]
def g91_8 (call : Caller) (n : Nat) (m : Nat) : SV → SV → SV → SV → SHeap → Res :=
  Nat.rec (motive := fun _ => SV → SV → SV → SV → SHeap → Res) (fun _ _ _ _ _ => none) (fun _ ih1 t0 t3 t6 t7 H => g91_2 call n ih1 t0 t3 t6 t7 H) m
theorem e91_8 (call : Caller) (n : Nat) (m : Nat) (e : Env) (H : SHeap) : iterK (fun k e H => runK call n c91_7 e H k (fun i e H => if i = 0 then (some (.tup [], H)) else none) (resK r91)) m e H = g91_8 call n m (e.at 0) (e.at 3) (e.at 6) (e.at 7) H := by
  induction m generalizing e H with
  | zero => rfl
  | succ m ihm =>
    show runK call n c91_7 e H (iterK (fun k e H => runK call n c91_7 e H k (fun i e H => if i = 0 then (some (.tup [], H)) else none) (resK r91)) m) (fun i e H => if i = 0 then (some (.tup [], H)) else none) (resK r91) = g91_2 call n (g91_8 call n m) (e.at 0) (e.at 3) (e.at 6) (e.at 7) H
    rw [show iterK (fun k e H => runK call n c91_7 e H k (fun i e H => if i = 0 then (some (.tup [], H)) else none) (resK r91)) m = (fun e H => g91_8 call n m (e.at 0) (e.at 3) (e.at 6) (e.at 7) H) from funext fun e => funext fun H => ihm e H]
    exact e91_2 call n (g91_8 call n m) e H
/- jalousie/row.fill -/
def g91 (call : Caller) (n : Nat) (x0 x1 : SV) (H : SHeap) : Res :=
  bnd (xBox y37 x1 H) fun t3 H1 =>
  pLenL x0 fun t6 =>
  g91_8 call n n x0 t3 t6 (.int .i64 (.ofNat 0)) H1
theorem e91 (call : Caller) (n : Nat) (x0 x1 : SV) (H : SHeap) : runBodyK call n c91 [x0, x1] H = g91 call n x0 x1 H :=
  (bodyK_eq call n H 2 r91 b91 [x0, x1] rfl).trans (by simp only [b91, rr91, g91, e91_4, e91_3, e91_2, e91_8, kit, Nat.reduceEqDiff, ↓reduceIte, Nat.reduceAdd])
 end
end Go.Proofs.YtjoffbhfcajcgaaDoor.Code
