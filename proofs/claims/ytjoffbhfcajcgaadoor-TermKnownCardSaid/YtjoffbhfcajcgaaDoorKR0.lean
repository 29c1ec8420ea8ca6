/- The code in direct style: each part is the same as the code. -/
import Derived.Test.YtjoffbhfcajcgaaDoorKC0
import Derived.Test.YtjoffbhfcajcgaaDoorRun1
set_option maxRecDepth 100000
set_option linter.unusedVariables false
set_option linter.unusedSimpArgs false
namespace Go.Proofs.YtjoffbhfcajcgaaDoor.Code
open Go Go.Sim
noncomputable section
theorem rr3 (e : Env) (H : SHeap) : resK r3 e H = some ((e.at 0), H) := by
  simp only [r3, kitR, kit, Nat.reduceEqDiff, ↓reduceIte, Nat.reduceAdd]
def g3_1 (call : Caller) (n : Nat) (t0 : SV) (H : SHeap) : Res :=
  some (t0, H)
theorem e3_1 (call : Caller) (n : Nat) (e : Env) (H : SHeap) : runK call n c3_2 e H (resK r3) (fun _ _ _ => none) (resK r3) = g3_1 call n (e.at 0) H := by
  simp only [c3_2, g3_1, rr3, kit, Nat.reduceEqDiff, ↓reduceIte, Nat.reduceAdd]
def g3_9 (call : Caller) (n : Nat) (t8 t99 : SV) (H : SHeap) : Res :=
  bnd (guardR t99 true (some (t8, H)) H) fun t100 H56 =>
  bnd (guardR t99 true (call 10 [t100] H56) H56) fun t101 H57 =>
  bnd (guardR t99 true (xField 2 1 false t101 H57) H57) fun t102 H58 =>
  bnd (guardR t99 true (xLenL t102 H58) H58) fun t103 H59 =>
  bnd (guardR t99 true (only H59 (sBin .eql .no t103 (.int .i64 (.ofNat 160000)))) H59) fun t104 H60 =>
  pPick t99 t104 (.bool false) fun t105 =>
  g3_1 call n t105 H60
theorem e3_9 (call : Caller) (n : Nat) (e : Env) (H : SHeap) : runOpsK call o3_10 e H (fun e H => g3_1 call n (e.at 0) H) = g3_9 call n (e.at 8) (e.at 99) H := by
  simp only [o3_10, g3_9, rr3, e3_1, kit, Nat.reduceEqDiff, ↓reduceIte, Nat.reduceAdd]
def g3_8 (call : Caller) (n : Nat) (t7 t8 t9 t87 t89 : SV) (H : SHeap) : Res :=
  pPick t87 t89 (.bool false) fun t90 =>
  bnd (guardR t90 true (some (t7, H)) H) fun t92 H52 =>
  bnd (guardR t90 true (only H52 (sBin .eql .no t92 (.int .i64 (.ofNat 1)))) H52) fun t93 H53 =>
  pPick t90 t93 (.bool false) fun t94 =>
  bnd (guardR t94 true (some (t9, H53)) H53) fun t96 H54 =>
  bnd (guardR t94 true (only H54 (sBin .eql .no t96 (.int .i64 (.ofNat 0)))) H54) fun t97 H55 =>
  pPick t94 t97 (.bool false) fun t98 =>
  g3_9 call n t8 t98 H55
theorem e3_8 (call : Caller) (n : Nat) (e : Env) (H : SHeap) : runOpsK call o3_11 e H (fun e H => g3_1 call n (e.at 0) H) = g3_8 call n (e.at 7) (e.at 8) (e.at 9) (e.at 87) (e.at 89) H := by
  simp only [o3_11, g3_8, rr3, e3_1, e3_9, kit, Nat.reduceEqDiff, ↓reduceIte, Nat.reduceAdd]
def g3_7 (call : Caller) (n : Nat) (t3 t5 t7 t8 t9 t77 t79 : SV) (H : SHeap) : Res :=
  bnd (guardR t77 true (only H (sBin .eql .no t79 (.int .i64 (.ofNat 3)))) H) fun t80 H46 =>
  pPick t77 t80 (.bool false) fun t81 =>
  bnd (guardR t81 true (xFieldAddr 4 t3 H46) H46) fun t83 H47 =>
  bnd (guardR t81 true (xLoad y3 t83 H47) H47) fun t84 H48 =>
  bnd (guardR t81 true (only H48 (sBin .eql .no t84 (.int .i64 (.ofNat 0)))) H48) fun t85 H49 =>
  pPick t81 t85 (.bool false) fun t86 =>
  bnd (guardR t86 true (some (t5, H49)) H49) fun t88 H50 =>
  bnd (guardR t86 true (only H50 (sBin .eql .no t88 (.int .i64 (.ofNat 1)))) H50) fun t89 H51 =>
  g3_8 call n t7 t8 t9 t86 t89 H51
theorem e3_7 (call : Caller) (n : Nat) (e : Env) (H : SHeap) : runOpsK call o3_12 e H (fun e H => g3_1 call n (e.at 0) H) = g3_7 call n (e.at 3) (e.at 5) (e.at 7) (e.at 8) (e.at 9) (e.at 77) (e.at 79) H := by
  simp only [o3_12, g3_7, rr3, e3_1, e3_9, e3_8, kit, Nat.reduceEqDiff, ↓reduceIte, Nat.reduceAdd]
def g3_6 (call : Caller) (n : Nat) (t3 t5 t7 t8 t9 t69 : SV) (H : SHeap) : Res :=
  bnd (guardR t69 true (xFieldAddr 2 t3 H) H) fun t70 H38 =>
  bnd (guardR t69 true (xLoad y27 t70 H38) H38) fun t71 H39 =>
  bnd (guardR t69 true (xIdxAddrL 7 t71 (.int .i64 (.ofNat 3)) H39) H39) fun t72 H40 =>
  bnd (guardR t69 true (xFieldAddr 1 t72 H40) H40) fun t73 H41 =>
  bnd (guardR t69 true (xLoad y5 t73 H41) H41) fun t74 H42 =>
  bnd (guardR t69 true (only H42 (sBin .eql .no t74 (.int .u8 (.ofNat 2)))) H42) fun t75 H43 =>
  pPick t69 t75 (.bool false) fun t76 =>
  bnd (guardR t76 true (xFieldAddr 3 t3 H43) H43) fun t78 H44 =>
  bnd (guardR t76 true (xLoad y3 t78 H44) H44) fun t79 H45 =>
  g3_7 call n t3 t5 t7 t8 t9 t76 t79 H45
theorem e3_6 (call : Caller) (n : Nat) (e : Env) (H : SHeap) : runOpsK call o3_13 e H (fun e H => g3_1 call n (e.at 0) H) = g3_6 call n (e.at 3) (e.at 5) (e.at 7) (e.at 8) (e.at 9) (e.at 69) H := by
  simp only [o3_13, g3_6, rr3, e3_1, e3_9, e3_8, e3_7, kit, Nat.reduceEqDiff, ↓reduceIte, Nat.reduceAdd]
def g3_5 (call : Caller) (n : Nat) (t3 t5 t7 t8 t9 t53 t59 : SV) (H : SHeap) : Res :=
  pPick t53 t59 (.bool false) fun t60 =>
  bnd (guardR t60 true (xFieldAddr 2 t3 H) H) fun t62 H32 =>
  bnd (guardR t60 true (xLoad y27 t62 H32) H32) fun t63 H33 =>
  bnd (guardR t60 true (xIdxAddrL 7 t63 (.int .i64 (.ofNat 2)) H33) H33) fun t64 H34 =>
  bnd (guardR t60 true (xFieldAddr 1 t64 H34) H34) fun t65 H35 =>
  bnd (guardR t60 true (xLoad y5 t65 H35) H35) fun t66 H36 =>
  bnd (guardR t60 true (only H36 (sBin .eql .no t66 (.int .u8 (.ofNat 1)))) H36) fun t67 H37 =>
  pPick t60 t67 (.bool false) fun t68 =>
  g3_6 call n t3 t5 t7 t8 t9 t68 H37
theorem e3_5 (call : Caller) (n : Nat) (e : Env) (H : SHeap) : runOpsK call o3_14 e H (fun e H => g3_1 call n (e.at 0) H) = g3_5 call n (e.at 3) (e.at 5) (e.at 7) (e.at 8) (e.at 9) (e.at 53) (e.at 59) H := by
  simp only [o3_14, g3_5, rr3, e3_1, e3_9, e3_8, e3_7, e3_6, kit, Nat.reduceEqDiff, ↓reduceIte, Nat.reduceAdd]
def g3_4 (call : Caller) (n : Nat) (t3 t5 t7 t8 t9 t45 t49 : SV) (H : SHeap) : Res :=
  bnd (guardR t45 true (xBuild [(.int .i32 (.ofNat 0)), (.int .u8 (.ofNat 0)), (.int .u16 (.ofNat 0)), (.int .u8 (.ofNat 0)), (.int .u32 (.ofNat 0)), (.int .u8 (.ofNat 0)), (.int .u32 (.ofNat 0))] [(0, 1, (.int .i32 (.ofNat 32)))] H) H) fun t50 H24 =>
  bnd (guardR t45 true (only H24 (sBin .eql (.agg [.i, .i, .i, .i, .i, .i, .i]) t49 t50)) H24) fun t51 H25 =>
  pPick t45 t51 (.bool false) fun t52 =>
  bnd (guardR t52 true (xFieldAddr 2 t3 H25) H25) fun t54 H26 =>
  bnd (guardR t52 true (xLoad y27 t54 H26) H26) fun t55 H27 =>
  bnd (guardR t52 true (xIdxAddrL 7 t55 (.int .i64 (.ofNat 1)) H27) H27) fun t56 H28 =>
  bnd (guardR t52 true (xFieldAddr 0 t56 H28) H28) fun t57 H29 =>
  bnd (guardR t52 true (xLoad y21 t57 H29) H29) fun t58 H30 =>
  bnd (guardR t52 true (only H30 (sBin .eql .no t58 (.int .i32 (.ofNat 120)))) H30) fun t59 H31 =>
  g3_5 call n t3 t5 t7 t8 t9 t52 t59 H31
theorem e3_4 (call : Caller) (n : Nat) (e : Env) (H : SHeap) : runOpsK call o3_15 e H (fun e H => g3_1 call n (e.at 0) H) = g3_4 call n (e.at 3) (e.at 5) (e.at 7) (e.at 8) (e.at 9) (e.at 45) (e.at 49) H := by
  simp only [o3_15, g3_4, rr3, e3_1, e3_9, e3_8, e3_7, e3_6, e3_5, kit, Nat.reduceEqDiff, ↓reduceIte, Nat.reduceAdd]
def g3_3 (call : Caller) (n : Nat) (t3 t5 t7 t8 t9 t37 t39 : SV) (H : SHeap) : Res :=
  bnd (guardR t37 true (xIdxAddrL 7 t39 (.int .i64 (.ofNat 7)) H) H) fun t40 H16 =>
  bnd (guardR t37 true (xFieldAddr 0 t40 H16) H16) fun t41 H17 =>
  bnd (guardR t37 true (xLoad y21 t41 H17) H17) fun t42 H18 =>
  bnd (guardR t37 true (only H18 (sBin .eql .no t42 (.int .i32 (.ofNat 122)))) H18) fun t43 H19 =>
  pPick t37 t43 (.bool false) fun t44 =>
  bnd (guardR t44 true (xFieldAddr 2 t3 H19) H19) fun t46 H20 =>
  bnd (guardR t44 true (xLoad y27 t46 H20) H20) fun t47 H21 =>
  bnd (guardR t44 true (xIdxAddrL 7 t47 (.int .i64 (.ofNat 0)) H21) H21) fun t48 H22 =>
  bnd (guardR t44 true (xLoad y39 t48 H22) H22) fun t49 H23 =>
  g3_4 call n t3 t5 t7 t8 t9 t44 t49 H23
theorem e3_3 (call : Caller) (n : Nat) (e : Env) (H : SHeap) : runOpsK call o3_16 e H (fun e H => g3_1 call n (e.at 0) H) = g3_3 call n (e.at 3) (e.at 5) (e.at 7) (e.at 8) (e.at 9) (e.at 37) (e.at 39) H := by
  simp only [o3_16, g3_3, rr3, e3_1, e3_9, e3_8, e3_7, e3_6, e3_5, e3_4, kit, Nat.reduceEqDiff, ↓reduceIte, Nat.reduceAdd]
/- jalousie/jalousielaw27.TermKnown -/
def g3 (call : Caller) (n : Nat) (H : SHeap) : Res :=
  bnd (call 8 [(.int .i64 (.ofNat 4)), (.int .i64 (.ofNat 2))] H) fun t11 H1 =>
  pExtract 0 t11 fun t12 =>
  pExtract 1 t11 fun t13 =>
  bnd (call 9 [t12, (.str [27, 91, 49, 59, 52, 72, 228, 184, 173, 27, 91, 57, 59, 57, 72, 122, 27, 91, 49, 59, 49, 72, 228, 184, 173, 228, 184, 173, 27, 91, 49, 59, 50, 72, 120, 27, 91, 49, 59, 52, 72])] H1) fun t15 H2 =>
  bnd (call 10 [t12] H2) fun t17 H3 =>
  pAlloc y29 (.agg [(.int .i64 (.ofNat 0)), (.int .i64 (.ofNat 0)), .nils, (.int .i64 (.ofNat 0)), (.int .i64 (.ofNat 0)), (.bool false)]) H3 fun t3 H4 =>
  pStore y29 t3 t17 H4 fun H5 =>
  bnd (call 8 [(.int .i64 (.ofNat 0)), (.int .i64 (.ofNat 1))] H5) fun t19 H6 =>
  pExtract 0 t19 fun t20 =>
  pExtract 1 t19 fun t21 =>
  bnd (call 8 [(.int .i64 (.ofNat 1)), (.int .i64 (.ofNat 401))] H6) fun t23 H7 =>
  pExtract 0 t23 fun t24 =>
  pExtract 1 t23 fun t25 =>
  bnd (call 8 [(.int .i64 (.ofNat 400)), (.int .i64 (.ofNat 400))] H7) fun t27 H8 =>
  pExtract 0 t27 fun t28 =>
  pExtract 1 t27 fun t29 =>
  bnd (call 11 [] H8) fun t30 H9 =>
  bnd (guardR t30 true (xFieldAddr 2 t3 H9) H9) fun t32 H10 =>
  bnd (guardR t30 true (xLoad y27 t32 H10) H10) fun t33 H11 =>
  bnd (guardR t30 true (xLenL t33 H11) H11) fun t34 H12 =>
  bnd (guardR t30 true (only H12 (sBin .eql .no t34 (.int .i64 (.ofNat 8)))) H12) fun t35 H13 =>
  pPick t30 t35 (.bool false) fun t36 =>
  bnd (guardR t36 true (xFieldAddr 2 t3 H13) H13) fun t38 H14 =>
  bnd (guardR t36 true (xLoad y27 t38 H14) H14) fun t39 H15 =>
  g3_3 call n t3 t21 t25 t28 t29 t36 t39 H15
theorem e3 (call : Caller) (n : Nat) (H : SHeap) : runBodyK call n c3 [] H = g3 call n H :=
  (bodyK_eq call n H 0 r3 b3 [] rfl).trans (by simp only [b3, rr3, g3, e3_1, e3_9, e3_8, e3_7, e3_6, e3_5, e3_4, e3_3, kit, Nat.reduceEqDiff, ↓reduceIte, Nat.reduceAdd])
theorem rr8 (e : Env) (H : SHeap) : resK r8 e H = some (.tup [(e.at 4), (e.at 5)], H) := by
  simp only [r8, kitR, kit, Nat.reduceEqDiff, ↓reduceIte, Nat.reduceAdd]
def g8_1 (call : Caller) (n : Nat) (t6 : SV) (H : SHeap) : Res :=
  some (.tup [t6, (.int .i64 (.ofNat 0))], H)
theorem e8_1 (call : Caller) (n : Nat) (e : Env) (H : SHeap) : runK call n c8_2 e H (resK r8) (fun _ _ _ => none) (resK r8) = g8_1 call n (e.at 6) H := by
  simp only [c8_2, g8_1, rr8, kit, Nat.reduceEqDiff, ↓reduceIte, Nat.reduceAdd]
/- jalousie/term.New -/
def g8 (call : Caller) (n : Nat) (x0 x1 : SV) (H : SHeap) : Res :=
  bnd (call 27 [] H) fun t8 H1 =>
  bnd (xBuild [(.int .i64 (.ofNat 0)), (.int .i64 (.ofNat 0)), .nils, (.int .i64 (.ofNat 0)), (.int .i64 (.ofNat 0)), (.int .u16 (.ofNat 0)), (.int .u8 (.ofNat 0)), (.int .u32 (.ofNat 0)), (.int .u8 (.ofNat 0)), (.int .u32 (.ofNat 0)), (.bool false), .nilp] [(11, 1, t8)] H1) fun t9 H2 =>
  bnd (xBox y72 t9 H2) fun t10 H3 =>
  bnd (call 16 [t10, x0, x1] H3) fun t14 H4 =>
  pNeq .no t14 (.int .i64 (.ofNat 0)) fun t16 =>
  condK t16 (
   some (.tup [.nilp, t14], H4)) (
   g8_1 call n t10 H4)
theorem e8 (call : Caller) (n : Nat) (x0 x1 : SV) (H : SHeap) : runBodyK call n c8 [x0, x1] H = g8 call n x0 x1 H :=
  (bodyK_eq call n H 2 r8 b8 [x0, x1] rfl).trans (by simp only [b8, rr8, g8, e8_1, kit, Nat.reduceEqDiff, ↓reduceIte, Nat.reduceAdd])
theorem rr9 (e : Env) (H : SHeap) : resK r9 e H = some (.tup [], H) := by
  simp only [r9, kitR, kit, Nat.reduceEqDiff, ↓reduceIte, Nat.reduceAdd]
def g9_5 (call : Caller) (n : Nat) (ih2 : SV → SV → SV → SHeap → Res) (t0 t4 : SV) (H : SHeap) : Res :=
  pLoad y74 t4 H fun t41 =>
  pAlloc y74 (.agg [(.int .i64 (.ofNat 0)), (.int .i32 (.ofNat 0)), (.int .u8 (.ofNat 0)), (.str []), .nils, (.str [])]) H fun t4_1 H11 =>
  pStore y74 t4_1 t41 H11 fun H12 =>
  pNilCheck t0 fun t32 =>
  pFieldAddr 11 t32 fun t33 =>
  pLoad y68 t33 H12 fun t34 =>
  bnd (call 29 [t34] H12) fun t35 H13 =>
  pExtract 0 t35 fun t36 =>
  pExtract 1 t35 fun t37 =>
  pStore y74 t4_1 t36 H13 fun H14 =>
  ih2 t0 t4_1 t37 H14
theorem e9_5 (call : Caller) (n : Nat) (ih2 : SV → SV → SV → SHeap → Res) (e : Env) (H : SHeap) : runK call n c9_6 e H (fun e H => ih2 (e.at 0) (e.at 4) (e.at 5) H) (fun i e H => if i = 0 then (some (.tup [], H)) else none) (resK r9) = g9_5 call n ih2 (e.at 0) (e.at 4) H := by
  simp only [c9_6, g9_5, rr9, kit, Nat.reduceEqDiff, ↓reduceIte, Nat.reduceAdd]
def g9_4 (call : Caller) (n : Nat) (ih2 : SV → SV → SV → SHeap → Res) (t0 t4 : SV) (H : SHeap) : Res :=
  pLoad y74 t4 H fun t39 =>
  bnd (call 30 [t0, t39] H) fun t40 H15 =>
  g9_5 call n ih2 t0 t4 H15
theorem e9_4 (call : Caller) (n : Nat) (ih2 : SV → SV → SV → SHeap → Res) (e : Env) (H : SHeap) : runK call n c9_7 e H (fun e H => ih2 (e.at 0) (e.at 4) (e.at 5) H) (fun i e H => if i = 0 then (some (.tup [], H)) else none) (resK r9) = g9_4 call n ih2 (e.at 0) (e.at 4) H := by
  simp only [c9_7, g9_4, rr9, e9_5, kit, Nat.reduceEqDiff, ↓reduceIte, Nat.reduceAdd]
def g9_3 (call : Caller) (n : Nat) (ih2 : SV → SV → SV → SHeap → Res) (t0 t4 t5 : SV) (H : SHeap) : Res :=
  condK t5 (
   g9_4 call n ih2 t0 t4 H) (
   some (.tup [], H))
theorem e9_3 (call : Caller) (n : Nat) (ih2 : SV → SV → SV → SHeap → Res) (e : Env) (H : SHeap) : runK call n c9_8 e H (fun e H => ih2 (e.at 0) (e.at 4) (e.at 5) H) (fun i e H => if i = 0 then (some (.tup [], H)) else none) (resK r9) = g9_3 call n ih2 (e.at 0) (e.at 4) (e.at 5) H := by
  simp only [c9_8, g9_3, rr9, e9_5, e9_4, kit, Nat.reduceEqDiff, ↓reduceIte, Nat.reduceAdd]
def g9_9 (call : Caller) (n : Nat) (m : Nat) : SV → SV → SV → SHeap → Res :=
  Nat.rec (motive := fun _ => SV → SV → SV → SHeap → Res) (fun _ _ _ _ => none) (fun _ ih2 t0 t4 t5 H => g9_3 call n ih2 t0 t4 t5 H) m
theorem e9_9 (call : Caller) (n : Nat) (m : Nat) (e : Env) (H : SHeap) : iterK (fun k e H => runK call n c9_8 e H k (fun i e H => if i = 0 then (some (.tup [], H)) else none) (resK r9)) m e H = g9_9 call n m (e.at 0) (e.at 4) (e.at 5) H := by
  induction m generalizing e H with
  | zero => rfl
  | succ m ihm =>
    show runK call n c9_8 e H (iterK (fun k e H => runK call n c9_8 e H k (fun i e H => if i = 0 then (some (.tup [], H)) else none) (resK r9)) m) (fun i e H => if i = 0 then (some (.tup [], H)) else none) (resK r9) = g9_3 call n (g9_9 call n m) (e.at 0) (e.at 4) (e.at 5) H
    rw [show iterK (fun k e H => runK call n c9_8 e H k (fun i e H => if i = 0 then (some (.tup [], H)) else none) (resK r9)) m = (fun e H => g9_9 call n m (e.at 0) (e.at 4) (e.at 5) H) from funext fun e => funext fun H => ihm e H]
    exact e9_3 call n (g9_9 call n m) e H
def g9_1 (call : Caller) (n : Nat) (t0 t1 : SV) (H : SHeap) : Res :=
  pNilCheck t0 fun t16 =>
  pFieldAddr 11 t16 fun t17 =>
  pLoad y68 t17 H fun t18 =>
  bnd (call 28 [t18, t1] H) fun t20 H7 =>
  pNilCheck t0 fun t23 =>
  pFieldAddr 11 t23 fun t24 =>
  pLoad y68 t24 H7 fun t25 =>
  bnd (call 29 [t25] H7) fun t26 H8 =>
  pExtract 0 t26 fun t27 =>
  pExtract 1 t26 fun t28 =>
  pAlloc y74 (.agg [(.int .i64 (.ofNat 0)), (.int .i32 (.ofNat 0)), (.int .u8 (.ofNat 0)), (.str []), .nils, (.str [])]) H8 fun t4 H9 =>
  pStore y74 t4 t27 H9 fun H10 =>
  g9_9 call n n t0 t4 t28 H10
theorem e9_1 (call : Caller) (n : Nat) (e : Env) (H : SHeap) : runK call n c9_10 e H (resK r9) (fun _ _ _ => none) (resK r9) = g9_1 call n (e.at 0) (e.at 1) H := by
  simp only [c9_10, g9_1, rr9, e9_5, e9_4, e9_3, e9_9, kit, Nat.reduceEqDiff, ↓reduceIte, Nat.reduceAdd]
/- (*jalousie/term.Term).Feed -/
def g9 (call : Caller) (n : Nat) (x0 x1 : SV) (H : SHeap) : Res :=
  bnd (xSamePtr false x0 .nilp H) fun t7 H1 =>
  bnd (guardR t7 false (some (x0, H1)) H1) fun t9 H2 =>
  bnd (guardR t7 false (xNilCheck t9 H2) H2) fun t10 H3 =>
  bnd (guardR t7 false (xFieldAddr 11 t10 H3) H3) fun t11 H4 =>
  bnd (guardR t7 false (xLoad y68 t11 H4) H4) fun t12 H5 =>
  bnd (guardR t7 false (xSamePtr false t12 .nilp H5) H5) fun t13 H6 =>
  pPick t7 (.bool true) t13 fun t14 =>
  condK t14 (
   some (.tup [], H6)) (
   g9_1 call n x0 x1 H6)
theorem e9 (call : Caller) (n : Nat) (x0 x1 : SV) (H : SHeap) : runBodyK call n c9 [x0, x1] H = g9 call n x0 x1 H :=
  (bodyK_eq call n H 2 r9 b9 [x0, x1] rfl).trans (by simp only [b9, rr9, g9, e9_5, e9_4, e9_3, e9_9, e9_1, kit, Nat.reduceEqDiff, ↓reduceIte, Nat.reduceAdd])
theorem rr10 (e : Env) (H : SHeap) : resK r10 e H = pLoad y29 (e.at 2) H fun w0 => some (w0, H) := by
  simp only [r10, kitR, kit, Nat.reduceEqDiff, ↓reduceIte, Nat.reduceAdd]
def g10_3 (call : Caller) (n : Nat) (t2 t3 : SV) (H : SHeap) : Res :=
  pLoad y29 t3 H fun t62 =>
  pStore y29 t2 t62 H fun H11 =>
  pLoad y29 t2 H11 fun w1 =>
  some (w1, H11)
theorem e10_3 (call : Caller) (n : Nat) (e : Env) (H : SHeap) : runK call n c10_4 e H (resK r10) (fun _ _ _ => none) (resK r10) = g10_3 call n (e.at 2) (e.at 3) H := by
  simp only [c10_4, g10_3, rr10, kit, Nat.reduceEqDiff, ↓reduceIte, Nat.reduceAdd]
def g10_2 (call : Caller) (n : Nat) (t0 t2 t3 : SV) (H : SHeap) : Res :=
  pNilCheck t0 fun t41 =>
  pFieldAddr 10 t41 fun t42 =>
  pLoad y4 t42 H fun t43 =>
  pUn .not t43 fun t44 =>
  condK t44 (
   pNilCheck t0 fun t46 =>
   pFieldAddr 3 t46 fun t47 =>
   pLoad y3 t47 H fun t48 =>
   pNilCheck t0 fun t50 =>
   pFieldAddr 0 t50 fun t51 =>
   pLoad y3 t51 H fun t52 =>
   pSub t52 (.int .i64 (.ofNat 1)) fun t53 =>
   bnd (xMin [t48, t53] H) fun t54 H12 =>
   pNilCheck t0 fun t56 =>
   pFieldAddr 4 t56 fun t57 =>
   pLoad y3 t57 H12 fun t58 =>
   pFieldAddr 3 t3 fun t59 =>
   pStore y3 t59 t54 H12 fun H13 =>
   pFieldAddr 4 t3 fun t60 =>
   pStore y3 t60 t58 H13 fun H14 =>
   pFieldAddr 5 t3 fun t61 =>
   pStore y4 t61 (.bool true) H14 fun H15 =>
   lookK t58 (xLoad y3 t57 H13) <|
   g10_3 call n t2 t3 H15) (
   g10_3 call n t2 t3 H)
theorem e10_2 (call : Caller) (n : Nat) (e : Env) (H : SHeap) : runK call n c10_5 e H (resK r10) (fun _ _ _ => none) (resK r10) = g10_2 call n (e.at 0) (e.at 2) (e.at 3) H := by
  simp only [c10_5, g10_2, rr10, e10_3, kit, Nat.reduceEqDiff, ↓reduceIte, Nat.reduceAdd]
def g10_9 (call : Caller) (n : Nat) (ih6 : SV → SV → SV → SV → SV → SV → SHeap → Res) (t0 t2 t3 t28 t29 t30 : SV) (H : SHeap) : Res :=
  pAdd t30 (.int .i64 (.ofNat 1)) fun t39 =>
  ih6 t0 t2 t3 t28 t29 t39 H
theorem e10_9 (call : Caller) (n : Nat) (ih6 : SV → SV → SV → SV → SV → SV → SHeap → Res) (e : Env) (H : SHeap) : runK call n c10_10 e H (fun e H => ih6 (e.at 0) (e.at 2) (e.at 3) (e.at 28) (e.at 29) (e.at 30) H) (fun i e H => if i = 0 then g10_2 call n (e.at 0) (e.at 2) (e.at 3) H else none) (resK r10) = g10_9 call n ih6 (e.at 0) (e.at 2) (e.at 3) (e.at 28) (e.at 29) (e.at 30) H := by
  simp only [c10_10, g10_9, rr10, e10_3, e10_2, kit, Nat.reduceEqDiff, ↓reduceIte, Nat.reduceAdd]
def g10_8 (call : Caller) (n : Nat) (ih6 : SV → SV → SV → SV → SV → SV → SHeap → Res) (t0 t2 t3 t28 t29 t30 : SV) (H : SHeap) : Res :=
  pIdxAddrL 1 t28 t30 H fun t32 =>
  pLoad y27 t32 H fun t33 =>
  pFieldAddr 2 t3 fun t34 =>
  pLoad y27 t34 H fun t35 =>
  pAppend 39 7 28 H t35 t33 fun t37 H16 =>
  pFieldAddr 2 t3 fun t38 =>
  pStore y27 t38 t37 H16 fun H17 =>
  g10_9 call n ih6 t0 t2 t3 t28 t29 t30 H17
theorem e10_8 (call : Caller) (n : Nat) (ih6 : SV → SV → SV → SV → SV → SV → SHeap → Res) (e : Env) (H : SHeap) : runK call n c10_11 e H (fun e H => ih6 (e.at 0) (e.at 2) (e.at 3) (e.at 28) (e.at 29) (e.at 30) H) (fun i e H => if i = 0 then g10_2 call n (e.at 0) (e.at 2) (e.at 3) H else none) (resK r10) = g10_8 call n ih6 (e.at 0) (e.at 2) (e.at 3) (e.at 28) (e.at 29) (e.at 30) H := by
  simp only [c10_11, g10_8, rr10, e10_3, e10_2, e10_9, kit, Nat.reduceEqDiff, ↓reduceIte, Nat.reduceAdd]
def g10_7 (call : Caller) (n : Nat) (ih6 : SV → SV → SV → SV → SV → SV → SHeap → Res) (t0 t2 t3 t28 t29 t30 : SV) (H : SHeap) : Res :=
  pLss t30 t29 fun t31 =>
  condK t31 (
   g10_8 call n ih6 t0 t2 t3 t28 t29 t30 H) (
   g10_2 call n t0 t2 t3 H)
theorem e10_7 (call : Caller) (n : Nat) (ih6 : SV → SV → SV → SV → SV → SV → SHeap → Res) (e : Env) (H : SHeap) : runK call n c10_12 e H (fun e H => ih6 (e.at 0) (e.at 2) (e.at 3) (e.at 28) (e.at 29) (e.at 30) H) (fun i e H => if i = 0 then g10_2 call n (e.at 0) (e.at 2) (e.at 3) H else none) (resK r10) = g10_7 call n ih6 (e.at 0) (e.at 2) (e.at 3) (e.at 28) (e.at 29) (e.at 30) H := by
  simp only [c10_12, g10_7, rr10, e10_3, e10_2, e10_9, e10_8, kit, Nat.reduceEqDiff, ↓reduceIte, Nat.reduceAdd]
def g10_13 (call : Caller) (n : Nat) (m : Nat) : SV → SV → SV → SV → SV → SV → SHeap → Res :=
  Nat.rec (motive := fun _ => SV → SV → SV → SV → SV → SV → SHeap → Res) (fun _ _ _ _ _ _ _ => none) (fun _ ih6 t0 t2 t3 t28 t29 t30 H => g10_7 call n ih6 t0 t2 t3 t28 t29 t30 H) m
theorem e10_13 (call : Caller) (n : Nat) (m : Nat) (e : Env) (H : SHeap) : iterK (fun k e H => runK call n c10_12 e H k (fun i e H => if i = 0 then g10_2 call n (e.at 0) (e.at 2) (e.at 3) H else none) (resK r10)) m e H = g10_13 call n m (e.at 0) (e.at 2) (e.at 3) (e.at 28) (e.at 29) (e.at 30) H := by
  induction m generalizing e H with
  | zero => rfl
  | succ m ihm =>
    show runK call n c10_12 e H (iterK (fun k e H => runK call n c10_12 e H k (fun i e H => if i = 0 then g10_2 call n (e.at 0) (e.at 2) (e.at 3) H else none) (resK r10)) m) (fun i e H => if i = 0 then g10_2 call n (e.at 0) (e.at 2) (e.at 3) H else none) (resK r10) = g10_7 call n (g10_13 call n m) (e.at 0) (e.at 2) (e.at 3) (e.at 28) (e.at 29) (e.at 30) H
    rw [show iterK (fun k e H => runK call n c10_12 e H k (fun i e H => if i = 0 then g10_2 call n (e.at 0) (e.at 2) (e.at 3) H else none) (resK r10)) m = (fun e H => g10_13 call n m (e.at 0) (e.at 2) (e.at 3) (e.at 28) (e.at 29) (e.at 30) H) from funext fun e => funext fun H => ihm e H]
    exact e10_7 call n (g10_13 call n m) e H
def g10_1 (call : Caller) (n : Nat) (t0 t2 : SV) (H : SHeap) : Res :=
  pNilCheck t0 fun t17 =>
  pFieldAddr 0 t17 fun t18 =>
  pLoad y3 t18 H fun t19 =>
  pNilCheck t0 fun t21 =>
  pFieldAddr 1 t21 fun t22 =>
  pLoad y3 t22 H fun t23 =>
  bnd (xBuild [(.int .i64 (.ofNat 0)), (.int .i64 (.ofNat 0)), .nils, (.int .i64 (.ofNat 0)), (.int .i64 (.ofNat 0)), (.bool false)] [(0, 1, t19), (1, 1, t23)] H) fun t24 H8 =>
  pAlloc y29 (.agg [(.int .i64 (.ofNat 0)), (.int .i64 (.ofNat 0)), .nils, (.int .i64 (.ofNat 0)), (.int .i64 (.ofNat 0)), (.bool false)]) H8 fun t3 H9 =>
  pStore y29 t3 t24 H9 fun H10 =>
  lookK t19 (xLoad y3 t18 H9) <|
  lookK t23 (xLoad y3 t22 H9) <|
  pNilCheck t0 fun t26 =>
  pFieldAddr 2 t26 fun t27 =>
  pLoad y70 t27 H10 fun t28 =>
  pLenL t28 fun t29 =>
  g10_13 call n n t0 t2 t3 t28 t29 (.int .i64 (.ofNat 0)) H10
theorem e10_1 (call : Caller) (n : Nat) (e : Env) (H : SHeap) : runK call n c10_14 e H (resK r10) (fun _ _ _ => none) (resK r10) = g10_1 call n (e.at 0) (e.at 2) H := by
  simp only [c10_14, g10_1, rr10, e10_3, e10_2, e10_9, e10_8, e10_7, e10_13, kit, Nat.reduceEqDiff, ↓reduceIte, Nat.reduceAdd]
/- (*jalousie/term.Term).Matrix -/
def g10 (call : Caller) (n : Nat) (x0 : SV) (H : SHeap) : Res :=
  pAlloc y29 (.agg [(.int .i64 (.ofNat 0)), (.int .i64 (.ofNat 0)), .nils, (.int .i64 (.ofNat 0)), (.int .i64 (.ofNat 0)), (.bool false)]) H fun t2 H1 =>
  bnd (xSamePtr false x0 .nilp H1) fun t7 H2 =>
  bnd (guardR t7 false (some (x0, H2)) H2) fun t9 H3 =>
  bnd (guardR t7 false (xNilCheck t9 H3) H3) fun t10 H4 =>
  bnd (guardR t7 false (xFieldAddr 11 t10 H4) H4) fun t11 H5 =>
  bnd (guardR t7 false (xLoad y68 t11 H5) H5) fun t12 H6 =>
  bnd (guardR t7 false (xSamePtr false t12 .nilp H6) H6) fun t13 H7 =>
  pPick t7 (.bool true) t13 fun t14 =>
  condK t14 (
   bnd (xBuild [(.int .i64 (.ofNat 0)), (.int .i64 (.ofNat 0)), .nils, (.int .i64 (.ofNat 0)), (.int .i64 (.ofNat 0)), (.bool false)] [] H7) fun t15 H18 =>
   pStore y29 t2 t15 H18 fun H19 =>
   pLoad y29 t2 H19 fun w1 =>
   some (w1, H19)) (
   g10_1 call n x0 t2 H7)
theorem e10 (call : Caller) (n : Nat) (x0 : SV) (H : SHeap) : runBodyK call n c10 [x0] H = g10 call n x0 H :=
  (bodyK_eq call n H 1 r10 b10 [x0] rfl).trans (by simp only [b10, rr10, g10, e10_3, e10_2, e10_9, e10_8, e10_7, e10_13, e10_1, kit, Nat.reduceEqDiff, ↓reduceIte, Nat.reduceAdd])
theorem rr11 (e : Env) (H : SHeap) : resK r11 e H = some ((e.at 0), H) := by
  simp only [r11, kitR, kit, Nat.reduceEqDiff, ↓reduceIte, Nat.reduceAdd]
def g11_2 (call : Caller) (n : Nat) (t0 : SV) (H : SHeap) : Res :=
  some (t0, H)
theorem e11_2 (call : Caller) (n : Nat) (e : Env) (H : SHeap) : runK call n c11_3 e H (resK r11) (fun _ _ _ => none) (resK r11) = g11_2 call n (e.at 0) H := by
  simp only [c11_3, g11_2, rr11, kit, Nat.reduceEqDiff, ↓reduceIte, Nat.reduceAdd]
def g11_8 (call : Caller) (n : Nat) (t6 t74 t76 : SV) (H : SHeap) : Res :=
  pPick t74 t76 (.bool false) fun t77 =>
  bnd (guardR t77 true (xFieldAddr 2 t6 H) H) fun t79 H47 =>
  bnd (guardR t77 true (xLoad y27 t79 H47) H47) fun t80 H48 =>
  bnd (guardR t77 true (xIdxAddrL 7 t80 (.int .i64 (.ofNat 0)) H48) H48) fun t81 H49 =>
  bnd (guardR t77 true (xFieldAddr 0 t81 H49) H49) fun t82 H50 =>
  bnd (guardR t77 true (xLoad y21 t82 H50) H50) fun t83 H51 =>
  bnd (guardR t77 true (only H51 (sBin .eql .no t83 (.int .i32 (.ofNat 32)))) H51) fun t84 H52 =>
  pPick t77 t84 (.bool false) fun t85 =>
  g11_2 call n t85 H52
theorem e11_8 (call : Caller) (n : Nat) (e : Env) (H : SHeap) : runOpsK call o11_9 e H (fun e H => g11_2 call n (e.at 0) H) = g11_8 call n (e.at 6) (e.at 74) (e.at 76) H := by
  simp only [o11_9, g11_8, rr11, e11_2, kit, Nat.reduceEqDiff, ↓reduceIte, Nat.reduceAdd]
def g11_7 (call : Caller) (n : Nat) (t6 t64 t66 : SV) (H : SHeap) : Res :=
  pPick t64 t66 (.bool false) fun t67 =>
  bnd (guardR t67 true (xFieldAddr 2 t6 H) H) fun t69 H41 =>
  bnd (guardR t67 true (xLoad y27 t69 H41) H41) fun t70 H42 =>
  bnd (guardR t67 true (xLenL t70 H42) H42) fun t71 H43 =>
  bnd (guardR t67 true (only H43 (sBin .eql .no t71 (.int .i64 (.ofNat 3)))) H43) fun t72 H44 =>
  pPick t67 t72 (.bool false) fun t73 =>
  bnd (guardR t73 true (xFieldAddr 5 t6 H44) H44) fun t75 H45 =>
  bnd (guardR t73 true (xLoad y4 t75 H45) H45) fun t76 H46 =>
  g11_8 call n t6 t73 t76 H46
theorem e11_7 (call : Caller) (n : Nat) (e : Env) (H : SHeap) : runOpsK call o11_10 e H (fun e H => g11_2 call n (e.at 0) H) = g11_7 call n (e.at 6) (e.at 64) (e.at 66) H := by
  simp only [o11_10, g11_7, rr11, e11_2, e11_8, kit, Nat.reduceEqDiff, ↓reduceIte, Nat.reduceAdd]
def g11_6 (call : Caller) (n : Nat) (t3 t5 t6 t50 t54 t56 : SV) (H : SHeap) : Res :=
  bnd (guardR t50 true (only H (sBin .eql (.agg [.i, .i, .i, .i, .i, .i, .i]) t54 t56)) H) fun t57 H35 =>
  pPick t50 t57 (.bool false) fun t58 =>
  bnd (guardR t58 true (xFieldAddr 5 t3 H35) H35) fun t60 H36 =>
  bnd (guardR t58 true (xLoad y4 t60 H36) H36) fun t61 H37 =>
  bnd (guardR t58 true (only H37 (sUn .not t61)) H37) fun t62 H38 =>
  pPick t58 t62 (.bool false) fun t63 =>
  bnd (guardR t63 true (some (t5, H38)) H38) fun t65 H39 =>
  bnd (guardR t63 true (only H39 (sBin .eql .no t65 (.int .i64 (.ofNat 0)))) H39) fun t66 H40 =>
  g11_7 call n t6 t63 t66 H40
theorem e11_6 (call : Caller) (n : Nat) (e : Env) (H : SHeap) : runOpsK call o11_11 e H (fun e H => g11_2 call n (e.at 0) H) = g11_6 call n (e.at 3) (e.at 5) (e.at 6) (e.at 50) (e.at 54) (e.at 56) H := by
  simp only [o11_11, g11_6, rr11, e11_2, e11_8, e11_7, kit, Nat.reduceEqDiff, ↓reduceIte, Nat.reduceAdd]
def g11_5 (call : Caller) (n : Nat) (t3 t5 t6 t42 t46 : SV) (H : SHeap) : Res :=
  bnd (guardR t42 true (xLoad y21 t46 H) H) fun t47 H27 =>
  bnd (guardR t42 true (only H27 (sBin .eql .no t47 (.int .i32 (.ofNat 120)))) H27) fun t48 H28 =>
  pPick t42 t48 (.bool false) fun t49 =>
  bnd (guardR t49 true (xFieldAddr 2 t3 H28) H28) fun t51 H29 =>
  bnd (guardR t49 true (xLoad y27 t51 H29) H29) fun t52 H30 =>
  bnd (guardR t49 true (xIdxAddrL 7 t52 (.int .i64 (.ofNat 6)) H30) H30) fun t53 H31 =>
  bnd (guardR t49 true (xLoad y39 t53 H31) H31) fun t54 H32 =>
  bnd (guardR t49 true (xBuild [(.int .u16 (.ofNat 0)), (.int .u8 (.ofNat 0)), (.int .u32 (.ofNat 0)), (.int .u8 (.ofNat 0)), (.int .u32 (.ofNat 0))] [(0, 1, (.int .u16 (.ofNat 1)))] H32) H32) fun t55 H33 =>
  bnd (guardR t49 true (xBuild [(.int .i32 (.ofNat 0)), (.int .u8 (.ofNat 0)), (.int .u16 (.ofNat 0)), (.int .u8 (.ofNat 0)), (.int .u32 (.ofNat 0)), (.int .u8 (.ofNat 0)), (.int .u32 (.ofNat 0))] [(0, 1, (.int .i32 (.ofNat 89))), (2, 5, t55)] H33) H33) fun t56 H34 =>
  g11_6 call n t3 t5 t6 t49 t54 t56 H34
theorem e11_5 (call : Caller) (n : Nat) (e : Env) (H : SHeap) : runOpsK call o11_12 e H (fun e H => g11_2 call n (e.at 0) H) = g11_5 call n (e.at 3) (e.at 5) (e.at 6) (e.at 42) (e.at 46) H := by
  simp only [o11_12, g11_5, rr11, e11_2, e11_8, e11_7, e11_6, kit, Nat.reduceEqDiff, ↓reduceIte, Nat.reduceAdd]
def g11_4 (call : Caller) (n : Nat) (t3 t5 t6 t34 t36 : SV) (H : SHeap) : Res :=
  bnd (guardR t34 true (xIdxAddrL 7 t36 (.int .i64 (.ofNat 3)) H) H) fun t37 H19 =>
  bnd (guardR t34 true (xFieldAddr 0 t37 H19) H19) fun t38 H20 =>
  bnd (guardR t34 true (xLoad y21 t38 H20) H20) fun t39 H21 =>
  bnd (guardR t34 true (only H21 (sBin .eql .no t39 (.int .i32 (.ofNat 100)))) H21) fun t40 H22 =>
  pPick t34 t40 (.bool false) fun t41 =>
  bnd (guardR t41 true (xFieldAddr 2 t3 H22) H22) fun t43 H23 =>
  bnd (guardR t41 true (xLoad y27 t43 H23) H23) fun t44 H24 =>
  bnd (guardR t41 true (xIdxAddrL 7 t44 (.int .i64 (.ofNat 5)) H24) H24) fun t45 H25 =>
  bnd (guardR t41 true (xFieldAddr 0 t45 H25) H25) fun t46 H26 =>
  g11_5 call n t3 t5 t6 t41 t46 H26
theorem e11_4 (call : Caller) (n : Nat) (e : Env) (H : SHeap) : runOpsK call o11_13 e H (fun e H => g11_2 call n (e.at 0) H) = g11_4 call n (e.at 3) (e.at 5) (e.at 6) (e.at 34) (e.at 36) H := by
  simp only [o11_13, g11_4, rr11, e11_2, e11_8, e11_7, e11_6, e11_5, kit, Nat.reduceEqDiff, ↓reduceIte, Nat.reduceAdd]
def g11_1 (call : Caller) (n : Nat) (t1 : SV) (H : SHeap) : Res :=
  bnd (call 9 [t1, (.str [97, 98, 99, 100, 101, 102, 27, 91, 50, 59, 50, 72, 120, 27, 91, 49, 109, 89, 27, 91, 63, 50, 53, 108, 27])] H) fun t18 H4 =>
  bnd (call 10 [t1] H4) fun t20 H5 =>
  pAlloc y29 (.agg [(.int .i64 (.ofNat 0)), (.int .i64 (.ofNat 0)), .nils, (.int .i64 (.ofNat 0)), (.int .i64 (.ofNat 0)), (.bool false)]) H5 fun t3 H6 =>
  pStore y29 t3 t20 H6 fun H7 =>
  bnd (call 20 [t1] H7) fun t22 H8 =>
  bnd (call 16 [t1, (.int .i64 (.ofNat 3)), (.int .i64 (.ofNat 1))] H8) fun t24 H9 =>
  bnd (call 10 [t1] H9) fun t26 H10 =>
  pAlloc y29 (.agg [(.int .i64 (.ofNat 0)), (.int .i64 (.ofNat 0)), .nils, (.int .i64 (.ofNat 0)), (.int .i64 (.ofNat 0)), (.bool false)]) H10 fun t6 H11 =>
  pStore y29 t6 t26 H11 fun H12 =>
  bnd (guardR t22 true (xFieldAddr 2 t3 H12) H12) fun t29 H13 =>
  bnd (guardR t22 true (xLoad y27 t29 H13) H13) fun t30 H14 =>
  bnd (guardR t22 true (xLenL t30 H14) H14) fun t31 H15 =>
  bnd (guardR t22 true (only H15 (sBin .eql .no t31 (.int .i64 (.ofNat 8)))) H15) fun t32 H16 =>
  pPick t22 t32 (.bool false) fun t33 =>
  bnd (guardR t33 true (xFieldAddr 2 t3 H16) H16) fun t35 H17 =>
  bnd (guardR t33 true (xLoad y27 t35 H17) H17) fun t36 H18 =>
  g11_4 call n t3 t24 t6 t33 t36 H18
theorem e11_1 (call : Caller) (n : Nat) (e : Env) (H : SHeap) : runK call n c11_14 e H (resK r11) (fun _ _ _ => none) (resK r11) = g11_1 call n (e.at 1) H := by
  simp only [c11_14, g11_1, rr11, e11_2, e11_8, e11_7, e11_6, e11_5, e11_4, kit, Nat.reduceEqDiff, ↓reduceIte, Nat.reduceAdd]
/- jalousie/jalousielaw27.awake -/
def g11 (call : Caller) (n : Nat) (H : SHeap) : Res :=
  bnd (call 8 [(.int .i64 (.ofNat 4)), (.int .i64 (.ofNat 2))] H) fun t8 H1 =>
  pExtract 0 t8 fun t9 =>
  pExtract 1 t8 fun t10 =>
  pNeq .no t10 (.int .i64 (.ofNat 0)) fun t12 =>
  bnd (guardR t12 false (some (t9, H1)) H1) fun t14 H2 =>
  bnd (guardR t12 false (xSamePtr false t14 .nilp H2) H2) fun t15 H3 =>
  pPick t12 (.bool true) t15 fun t16 =>
  condK t16 (
   some ((.bool false), H3)) (
   g11_1 call n t9 H3)
theorem e11 (call : Caller) (n : Nat) (H : SHeap) : runBodyK call n c11 [] H = g11 call n H :=
  (bodyK_eq call n H 0 r11 b11 [] rfl).trans (by simp only [b11, rr11, g11, e11_2, e11_8, e11_7, e11_6, e11_5, e11_4, e11_1, kit, Nat.reduceEqDiff, ↓reduceIte, Nat.reduceAdd])
theorem rr16 (e : Env) (H : SHeap) : resK r16 e H = some ((e.at 6), H) := by
  simp only [r16, kitR, kit, Nat.reduceEqDiff, ↓reduceIte, Nat.reduceAdd]
def g16_1 (call : Caller) (n : Nat) (t0 t1 t2 : SV) (H : SHeap) : Res :=
  pNilCheck t0 fun t32 =>
  pFieldAddr 11 t32 fun t33 =>
  pLoad y68 t33 H fun t34 =>
  bnd (xBuild [(.int .i64 (.ofNat 0)), (.int .i64 (.ofNat 0)), .nils, (.int .i64 (.ofNat 0)), (.int .i64 (.ofNat 0)), (.int .u16 (.ofNat 0)), (.int .u8 (.ofNat 0)), (.int .u32 (.ofNat 0)), (.int .u8 (.ofNat 0)), (.int .u32 (.ofNat 0)), (.bool false), .nilp] [(0, 1, t1), (1, 1, t2), (11, 1, t34)] H) fun t35 H7 =>
  pNilCheck t0 fun t36 =>
  pStore y72 t36 t35 H7 fun H8 =>
  bnd (call 34 [t0] H8) fun t38 H9 =>
  some ((.int .i64 (.ofNat 0)), H9)
theorem e16_1 (call : Caller) (n : Nat) (e : Env) (H : SHeap) : runK call n c16_2 e H (resK r16) (fun _ _ _ => none) (resK r16) = g16_1 call n (e.at 0) (e.at 1) (e.at 2) H := by
  simp only [c16_2, g16_1, rr16, kit, Nat.reduceEqDiff, ↓reduceIte, Nat.reduceAdd]
def g16_3 (call : Caller) (n : Nat) (t0 t1 t2 t27 : SV) (H : SHeap) : Res :=
  condK t27 (
   some ((.int .i64 (.ofNat 1)), H)) (
   g16_1 call n t0 t1 t2 H)
theorem e16_3 (call : Caller) (n : Nat) (e : Env) (H : SHeap) : runK call n c16_4 e H (fun e H => g16_1 call n (e.at 0) (e.at 1) (e.at 2) H) (fun _ _ _ => none) (resK r16) = g16_3 call n (e.at 0) (e.at 1) (e.at 2) (e.at 27) H := by
  simp only [c16_4, g16_3, rr16, e16_1, kit, Nat.reduceEqDiff, ↓reduceIte, Nat.reduceAdd]
def g16_5 (call : Caller) (n : Nat) (t0 t1 t2 t16 : SV) (H : SHeap) : Res :=
  bnd (guardR t16 false (some (t1, H)) H) fun t17 H10 =>
  bnd (guardR t16 false (some (t2, H10)) H10) fun t18 H11 =>
  bnd (guardR t16 false (xMin [t17, t18] H11) H11) fun t19 H12 =>
  bnd (guardR t16 false (only H12 (sBin .lss .no t19 (.int .i64 (.ofNat 1)))) H12) fun t20 H13 =>
  pPick t16 (.bool true) t20 fun t21 =>
  bnd (guardR t21 false (some (t1, H13)) H13) fun t23 H14 =>
  bnd (guardR t21 false (some (t2, H14)) H14) fun t24 H15 =>
  bnd (guardR t21 false (xMax [t23, t24] H15) H15) fun t25 H16 =>
  bnd (guardR t21 false (only H16 (sBin .gtr .no t25 (.int .i64 (.ofNat 400)))) H16) fun t26 H17 =>
  pPick t21 (.bool true) t26 fun t27 =>
  g16_3 call n t0 t1 t2 t27 H17
theorem e16_5 (call : Caller) (n : Nat) (e : Env) (H : SHeap) : runOpsK call o16_6 e H (fun e H => g16_3 call n (e.at 0) (e.at 1) (e.at 2) (e.at 27) H) = g16_5 call n (e.at 0) (e.at 1) (e.at 2) (e.at 16) H := by
  simp only [o16_6, g16_5, rr16, e16_1, e16_3, kit, Nat.reduceEqDiff, ↓reduceIte, Nat.reduceAdd]
/- (*jalousie/term.Term).Resize -/
def g16 (call : Caller) (n : Nat) (x0 x1 x2 : SV) (H : SHeap) : Res :=
  bnd (xSamePtr false x0 .nilp H) fun t8 H1 =>
  bnd (guardR t8 false (some (x0, H1)) H1) fun t10 H2 =>
  bnd (guardR t8 false (xNilCheck t10 H2) H2) fun t11 H3 =>
  bnd (guardR t8 false (xFieldAddr 11 t11 H3) H3) fun t12 H4 =>
  bnd (guardR t8 false (xLoad y68 t12 H4) H4) fun t13 H5 =>
  bnd (guardR t8 false (xSamePtr false t13 .nilp H5) H5) fun t14 H6 =>
  pPick t8 (.bool true) t14 fun t15 =>
  g16_5 call n x0 x1 x2 t15 H6
theorem e16 (call : Caller) (n : Nat) (x0 x1 x2 : SV) (H : SHeap) : runBodyK call n c16 [x0, x1, x2] H = g16 call n x0 x1 x2 H :=
  (bodyK_eq call n H 3 r16 b16 [x0, x1, x2] rfl).trans (by simp only [b16, rr16, g16, e16_1, e16_3, e16_5, kit, Nat.reduceEqDiff, ↓reduceIte, Nat.reduceAdd])
theorem rr20 (e : Env) (H : SHeap) : resK r20 e H = some ((e.at 2), H) := by
  simp only [r20, kitR, kit, Nat.reduceEqDiff, ↓reduceIte, Nat.reduceAdd]
/- (*jalousie/term.Term).Waits -/
def g20 (call : Caller) (n : Nat) (x0 : SV) (H : SHeap) : Res :=
  bnd (xSamePtr true x0 .nilp H) fun t4 H1 =>
  bnd (guardR t4 true (some (x0, H1)) H1) fun t6 H2 =>
  bnd (guardR t4 true (xNilCheck t6 H2) H2) fun t7 H3 =>
  bnd (guardR t4 true (xFieldAddr 11 t7 H3) H3) fun t8 H4 =>
  bnd (guardR t4 true (xLoad y68 t8 H4) H4) fun t9 H5 =>
  bnd (guardR t4 true (call 35 [t9] H5) H5) fun t10 H6 =>
  pPick t4 t10 (.bool false) fun t11 =>
  some (t11, H6)
theorem e20 (call : Caller) (n : Nat) (x0 : SV) (H : SHeap) : runBodyK call n c20 [x0] H = g20 call n x0 H :=
  (bodyK_eq call n H 1 r20 b20 [x0] rfl).trans (by simp only [b20, rr20, g20, kit, Nat.reduceEqDiff, ↓reduceIte, Nat.reduceAdd])
theorem rr26 (e : Env) (H : SHeap) : resK r26 e H = pLoad y37 (e.at 4) H fun w0 => some (w0, H) := by
  simp only [r26, kitR, kit, Nat.reduceEqDiff, ↓reduceIte, Nat.reduceAdd]
def g26_2 (call : Caller) (n : Nat) (t2 t4 : SV) (H : SHeap) : Res :=
  pLoad y37 t2 H fun t85 =>
  pStore y37 t4 t85 H fun H4 =>
  pLoad y37 t4 H4 fun w1 =>
  some (w1, H4)
theorem e26_2 (call : Caller) (n : Nat) (e : Env) (H : SHeap) : runK call n c26_3 e H (resK r26) (fun _ _ _ => none) (resK r26) = g26_2 call n (e.at 2) (e.at 4) H := by
  simp only [c26_3, g26_2, rr26, kit, Nat.reduceEqDiff, ↓reduceIte, Nat.reduceAdd]
def g26_7 (call : Caller) (n : Nat) (ih4 : SV → SV → SV → SV → SV → SHeap → Res) (t1 t2 t4 t5 t6 : SV) (H : SHeap) : Res :=
  pAdd t6 (.int .i64 (.ofNat 1)) fun t22 =>
  ih4 t1 t2 t4 t5 t22 H
theorem e26_7 (call : Caller) (n : Nat) (ih4 : SV → SV → SV → SV → SV → SHeap → Res) (e : Env) (H : SHeap) : runK call n c26_8 e H (fun e H => ih4 (e.at 1) (e.at 2) (e.at 4) (e.at 5) (e.at 6) H) (fun i e H => if i = 0 then g26_2 call n (e.at 2) (e.at 4) H else none) (resK r26) = g26_7 call n ih4 (e.at 1) (e.at 2) (e.at 4) (e.at 5) (e.at 6) H := by
  simp only [c26_8, g26_7, rr26, e26_2, kit, Nat.reduceEqDiff, ↓reduceIte, Nat.reduceAdd]
def g26_9 (call : Caller) (n : Nat) (ih4 : SV → SV → SV → SV → SV → SHeap → Res) (t1 t2 t4 t5 t6 t7 t59 : SV) (H : SHeap) : Res :=
  condK t59 (
   pFieldAddr 1 t2 fun t78 =>
   bnd (call 42 [t78, t7] H) fun t80 H19 =>
   pFieldAddr 3 t2 fun t81 =>
   pSub t7 (.int .i64 (.ofNat 10)) fun t83 =>
   bnd (call 42 [t81, t83] H19) fun t84 H20 =>
   g26_7 call n ih4 t1 t2 t4 t5 t6 H20) (
   g26_7 call n ih4 t1 t2 t4 t5 t6 H)
theorem e26_9 (call : Caller) (n : Nat) (ih4 : SV → SV → SV → SV → SV → SHeap → Res) (e : Env) (H : SHeap) : runK call n c26_10 e H (fun e H => g26_7 call n ih4 (e.at 1) (e.at 2) (e.at 4) (e.at 5) (e.at 6) H) (fun i e H => if i = 2 then g26_7 call n ih4 (e.at 1) (e.at 2) (e.at 4) (e.at 5) (e.at 6) H else if i = 1 then g26_7 call n ih4 (e.at 1) (e.at 2) (e.at 4) (e.at 5) (e.at 6) H else if i = 0 then g26_2 call n (e.at 2) (e.at 4) H else none) (resK r26) = g26_9 call n ih4 (e.at 1) (e.at 2) (e.at 4) (e.at 5) (e.at 6) (e.at 7) (e.at 59) H := by
  simp only [c26_10, g26_9, rr26, e26_2, e26_7, kit, Nat.reduceEqDiff, ↓reduceIte, Nat.reduceAdd]
def g26_11 (call : Caller) (n : Nat) (ih4 : SV → SV → SV → SV → SV → SHeap → Res) (t1 t2 t4 t5 t6 t7 t60 t67 t68 t69 : SV) (H : SHeap) : Res :=
  bnd (guardR t67 true (xIdxAddrL 1 t68 t69 H) H) fun t70 H21 =>
  bnd (guardR t67 true (xLoad y81 t70 H21) H21) fun t71 H22 =>
  bnd (guardR t67 true (xIdxAddrL 1 t71 (.int .i64 (.ofNat 1)) H22) H22) fun t72 H23 =>
  bnd (guardR t67 true (xLoad y3 t72 H23) H23) fun t73 H24 =>
  bnd (guardR t67 true (only H24 (sBin .eql .no t73 (.int .i64 (.ofNat 0)))) H24) fun t74 H25 =>
  pPick t67 t74 (.bool false) fun t75 =>
  bnd (call 41 [t2, t60, t75] H25) fun t76 H26 =>
  pUn .not t76 fun t77 =>
  g26_9 call n ih4 t1 t2 t4 t5 t6 t7 t77 H26
theorem e26_11 (call : Caller) (n : Nat) (ih4 : SV → SV → SV → SV → SV → SHeap → Res) (e : Env) (H : SHeap) : runOpsK call o26_12 e H (fun e H => g26_9 call n ih4 (e.at 1) (e.at 2) (e.at 4) (e.at 5) (e.at 6) (e.at 7) (e.at 59) H) = g26_11 call n ih4 (e.at 1) (e.at 2) (e.at 4) (e.at 5) (e.at 6) (e.at 7) (e.at 60) (e.at 67) (e.at 68) (e.at 69) H := by
  simp only [o26_12, g26_11, rr26, e26_2, e26_7, e26_9, kit, Nat.reduceEqDiff, ↓reduceIte, Nat.reduceAdd]
def g26_6 (call : Caller) (n : Nat) (ih4 : SV → SV → SV → SV → SV → SHeap → Res) (t1 t2 t4 t5 t6 : SV) (H : SHeap) : Res :=
  pIdxAddrL 1 t5 t6 H fun t25 =>
  pLoad y3 t25 H fun t26 =>
  pEql .no t26 (.int .i64 (.ofNat 0)) fun t29 =>
  condK t29 (
   bnd (xBuild [(.int .u16 (.ofNat 0)), (.int .u8 (.ofNat 0)), (.int .u32 (.ofNat 0)), (.int .u8 (.ofNat 0)), (.int .u32 (.ofNat 0))] [] H) fun t30 H5 =>
   pStore y37 t2 t30 H5 fun H6 =>
   g26_7 call n ih4 t1 t2 t4 t5 t6 H6) (
   pEql .no t26 (.int .i64 (.ofNat 38)) fun t33 =>
   bnd (guardR t33 false (some (t26, H)) H) fun t35 H7 =>
   bnd (guardR t33 false (only H7 (sBin .eql .no t35 (.int .i64 (.ofNat 48)))) H7) fun t36 H8 =>
   pPick t33 (.bool true) t36 fun t37 =>
   condK t37 (
    bnd (only H8 (sSliceL 1 H8 t1 (some t6) none none)) fun t41 H9 =>
    bnd (call 40 [t41] H9) fun t42 H10 =>
    pExtract 0 t42 fun t43 =>
    pExtract 1 t42 fun t44 =>
    pExtract 2 t42 fun t45 =>
    pAlloc y35 (.agg [(.int .u8 (.ofNat 0)), (.int .u32 (.ofNat 0))]) H10 fun t8 H11 =>
    pStore y35 t8 t43 H11 fun H12 =>
    pAdd t6 t44 fun t48 =>
    bnd (guardR t45 true (some (t26, H12)) H12) fun t51 H13 =>
    bnd (guardR t45 true (only H13 (sBin .eql .no t51 (.int .i64 (.ofNat 38)))) H13) fun t52 H14 =>
    pPick t45 t52 (.bool false) fun t53 =>
    condK t53 (
     pLoad y35 t8 H14 fun t54 =>
     pFieldAddr 1 t2 fun t55 =>
     pStore y35 t55 t54 H14 fun H15 =>
     g26_7 call n ih4 t1 t2 t4 t5 t48 H15) (
     condK t45 (
      pLoad y35 t8 H14 fun t57 =>
      pFieldAddr 3 t2 fun t58 =>
      pStore y35 t58 t57 H14 fun H16 =>
      g26_7 call n ih4 t1 t2 t4 t5 t48 H16) (
      g26_7 call n ih4 t1 t2 t4 t5 t48 H14))) (
    pIdxAddrL 1 t1 t6 H8 fun t63 =>
    pLoad y81 t63 H8 fun t64 =>
    pLenL t64 fun t65 =>
    pGtr t65 (.int .i64 (.ofNat 1)) fun t66 =>
    bnd (guardR t66 true (some (t1, H8)) H8) fun t68 H17 =>
    bnd (guardR t66 true (some (t6, H17)) H17) fun t69 H18 =>
    g26_11 call n ih4 t1 t2 t4 t5 t6 t26 t26 t66 t68 t69 H18))
theorem e26_6 (call : Caller) (n : Nat) (ih4 : SV → SV → SV → SV → SV → SHeap → Res) (e : Env) (H : SHeap) : runK call n c26_13 e H (fun e H => ih4 (e.at 1) (e.at 2) (e.at 4) (e.at 5) (e.at 6) H) (fun i e H => if i = 0 then g26_2 call n (e.at 2) (e.at 4) H else none) (resK r26) = g26_6 call n ih4 (e.at 1) (e.at 2) (e.at 4) (e.at 5) (e.at 6) H := by
  simp only [c26_13, g26_6, rr26, e26_2, e26_7, e26_9, e26_11, kit, Nat.reduceEqDiff, ↓reduceIte, Nat.reduceAdd]
def g26_5 (call : Caller) (n : Nat) (ih4 : SV → SV → SV → SV → SV → SHeap → Res) (t1 t2 t4 t5 t6 : SV) (H : SHeap) : Res :=
  pLenL t5 fun t19 =>
  pLss t6 t19 fun t20 =>
  condK t20 (
   g26_6 call n ih4 t1 t2 t4 t5 t6 H) (
   g26_2 call n t2 t4 H)
theorem e26_5 (call : Caller) (n : Nat) (ih4 : SV → SV → SV → SV → SV → SHeap → Res) (e : Env) (H : SHeap) : runK call n c26_14 e H (fun e H => ih4 (e.at 1) (e.at 2) (e.at 4) (e.at 5) (e.at 6) H) (fun i e H => if i = 0 then g26_2 call n (e.at 2) (e.at 4) H else none) (resK r26) = g26_5 call n ih4 (e.at 1) (e.at 2) (e.at 4) (e.at 5) (e.at 6) H := by
  simp only [c26_14, g26_5, rr26, e26_2, e26_7, e26_9, e26_11, e26_6, kit, Nat.reduceEqDiff, ↓reduceIte, Nat.reduceAdd]
def g26_15 (call : Caller) (n : Nat) (m : Nat) : SV → SV → SV → SV → SV → SHeap → Res :=
  Nat.rec (motive := fun _ => SV → SV → SV → SV → SV → SHeap → Res) (fun _ _ _ _ _ _ => none) (fun _ ih4 t1 t2 t4 t5 t6 H => g26_5 call n ih4 t1 t2 t4 t5 t6 H) m
theorem e26_15 (call : Caller) (n : Nat) (m : Nat) (e : Env) (H : SHeap) : iterK (fun k e H => runK call n c26_14 e H k (fun i e H => if i = 0 then g26_2 call n (e.at 2) (e.at 4) H else none) (resK r26)) m e H = g26_15 call n m (e.at 1) (e.at 2) (e.at 4) (e.at 5) (e.at 6) H := by
  induction m generalizing e H with
  | zero => rfl
  | succ m ihm =>
    show runK call n c26_14 e H (iterK (fun k e H => runK call n c26_14 e H k (fun i e H => if i = 0 then g26_2 call n (e.at 2) (e.at 4) H else none) (resK r26)) m) (fun i e H => if i = 0 then g26_2 call n (e.at 2) (e.at 4) H else none) (resK r26) = g26_5 call n (g26_15 call n m) (e.at 1) (e.at 2) (e.at 4) (e.at 5) (e.at 6) H
    rw [show iterK (fun k e H => runK call n c26_14 e H k (fun i e H => if i = 0 then g26_2 call n (e.at 2) (e.at 4) H else none) (resK r26)) m = (fun e H => g26_15 call n m (e.at 1) (e.at 2) (e.at 4) (e.at 5) (e.at 6) H) from funext fun e => funext fun H => ihm e H]
    exact e26_5 call n (g26_15 call n m) e H
def g26_1 (call : Caller) (n : Nat) (t1 t2 t4 : SV) (H : SHeap) : Res :=
  bnd (call 39 [t1] H) fun t16 H3 =>
  g26_15 call n n t1 t2 t4 t16 (.int .i64 (.ofNat 0)) H3
theorem e26_1 (call : Caller) (n : Nat) (e : Env) (H : SHeap) : runK call n c26_16 e H (resK r26) (fun _ _ _ => none) (resK r26) = g26_1 call n (e.at 1) (e.at 2) (e.at 4) H := by
  simp only [c26_16, g26_1, rr26, e26_2, e26_7, e26_9, e26_11, e26_6, e26_5, e26_15, kit, Nat.reduceEqDiff, ↓reduceIte, Nat.reduceAdd]
/- jalousie/attr.Apply -/
def g26 (call : Caller) (n : Nat) (x0 x1 : SV) (H : SHeap) : Res :=
  bnd (xBox y37 x0 H) fun t2 H1 =>
  pAlloc y37 (.agg [(.int .u16 (.ofNat 0)), (.int .u8 (.ofNat 0)), (.int .u32 (.ofNat 0)), (.int .u8 (.ofNat 0)), (.int .u32 (.ofNat 0))]) H1 fun t4 H2 =>
  pLenL x1 fun t12 =>
  pEql .no t12 (.int .i64 (.ofNat 0)) fun t13 =>
  condK t13 (
   bnd (xBuild [(.int .u16 (.ofNat 0)), (.int .u8 (.ofNat 0)), (.int .u32 (.ofNat 0)), (.int .u8 (.ofNat 0)), (.int .u32 (.ofNat 0))] [] H2) fun t14 H27 =>
   pStore y37 t4 t14 H27 fun H28 =>
   pLoad y37 t4 H28 fun w1 =>
   some (w1, H28)) (
   g26_1 call n x1 t2 t4 H2)
theorem e26 (call : Caller) (n : Nat) (x0 x1 : SV) (H : SHeap) : runBodyK call n c26 [x0, x1] H = g26 call n x0 x1 H :=
  (bodyK_eq call n H 2 r26 b26 [x0, x1] rfl).trans (by simp only [b26, rr26, g26, e26_2, e26_7, e26_9, e26_11, e26_6, e26_5, e26_15, e26_1, kit, Nat.reduceEqDiff, ↓reduceIte, Nat.reduceAdd])
theorem rr27 (e : Env) (H : SHeap) : resK r27 e H = some ((e.at 0), H) := by
  simp only [r27, kitR, kit, Nat.reduceEqDiff, ↓reduceIte, Nat.reduceAdd]
/- jalousie/events.New -/
def g27 (call : Caller) (n : Nat) (H : SHeap) : Res :=
  bnd (xBuild [(.int .i64 (.ofNat 0)), (.int .i64 (.ofNat 0)), (.int .u8 (.ofNat 0)), (.int .u8 (.ofNat 0)), (.int .i32 (.ofNat 0)), (.int .i64 (.ofNat 0)), .nils, (.bool false), (.bool false), (.str []), (.bool false), (.int .u8 (.ofNat 0)), .nils, (.bool false), .nils] [] H) fun t1 H1 =>
  bnd (xBox y99 t1 H1) fun t2 H2 =>
  some (t2, H2)
theorem e27 (call : Caller) (n : Nat) (H : SHeap) : runBodyK call n c27 [] H = g27 call n H :=
  (bodyK_eq call n H 0 r27 b27 [] rfl).trans (by simp only [b27, rr27, g27, kit, Nat.reduceEqDiff, ↓reduceIte, Nat.reduceAdd])
theorem rr28 (e : Env) (H : SHeap) : resK r28 e H = some (.tup [], H) := by
  simp only [r28, kitR, kit, Nat.reduceEqDiff, ↓reduceIte, Nat.reduceAdd]
def g28_5 (call : Caller) (n : Nat) (ih2 : SV → SV → SV → SV → SHeap → Res) (t0 t1 t10 t11 : SV) (H : SHeap) : Res :=
  pAdd t11 (.int .i64 (.ofNat 1)) fun t72 =>
  ih2 t0 t1 t10 t72 H
theorem e28_5 (call : Caller) (n : Nat) (ih2 : SV → SV → SV → SV → SHeap → Res) (e : Env) (H : SHeap) : runK call n c28_6 e H (fun e H => ih2 (e.at 0) (e.at 1) (e.at 10) (e.at 11) H) (fun i e H => if i = 0 then (some (.tup [], H)) else none) (resK r28) = g28_5 call n ih2 (e.at 0) (e.at 1) (e.at 10) (e.at 11) H := by
  simp only [c28_6, g28_5, rr28, kit, Nat.reduceEqDiff, ↓reduceIte, Nat.reduceAdd]
def g28_9 (call : Caller) (n : Nat) (ih2 : SV → SV → SV → SV → SHeap → Res) (t0 t1 t4 t5 t6 t10 t11 : SV) (H : SHeap) : Res :=
  pIdxS t1 t4 fun t66 =>
  bnd (call 49 [t0, t5, t66] H) fun t67 H5 =>
  pNilCheck t0 fun t70 =>
  pFieldAddr 5 t70 fun t71 =>
  pStore y3 t71 t6 H5 fun H6 =>
  g28_5 call n ih2 t0 t1 t10 t11 H6
theorem e28_9 (call : Caller) (n : Nat) (ih2 : SV → SV → SV → SV → SHeap → Res) (e : Env) (H : SHeap) : runK call n c28_10 e H (fun e H => g28_5 call n ih2 (e.at 0) (e.at 1) (e.at 10) (e.at 11) H) (fun i e H => if i = 1 then g28_5 call n ih2 (e.at 0) (e.at 1) (e.at 10) (e.at 11) H else if i = 0 then (some (.tup [], H)) else none) (resK r28) = g28_9 call n ih2 (e.at 0) (e.at 1) (e.at 4) (e.at 5) (e.at 6) (e.at 10) (e.at 11) H := by
  simp only [c28_10, g28_9, rr28, e28_5, kit, Nat.reduceEqDiff, ↓reduceIte, Nat.reduceAdd]
def g28_11 (call : Caller) (n : Nat) (ih2 : SV → SV → SV → SV → SHeap → Res) (t0 t1 t4 t5 t6 t10 t11 t52 t53 : SV) (H : SHeap) : Res :=
  pNilCheck t52 fun t58 =>
  pFieldAddr 12 t58 fun t59 =>
  pStore y58 t59 .nils H fun H10 =>
  pNilCheck t53 fun t60 =>
  pFieldAddr 13 t60 fun t61 =>
  pStore y4 t61 (.bool false) H10 fun H11 =>
  g28_9 call n ih2 t0 t1 t4 t5 t6 t10 t11 H11
theorem e28_11 (call : Caller) (n : Nat) (ih2 : SV → SV → SV → SV → SHeap → Res) (e : Env) (H : SHeap) : runOpsK call o28_12 e H (fun e H => g28_9 call n ih2 (e.at 0) (e.at 1) (e.at 4) (e.at 5) (e.at 6) (e.at 10) (e.at 11) H) = g28_11 call n ih2 (e.at 0) (e.at 1) (e.at 4) (e.at 5) (e.at 6) (e.at 10) (e.at 11) (e.at 52) (e.at 53) H := by
  simp only [o28_12, g28_11, rr28, e28_5, e28_9, kit, Nat.reduceEqDiff, ↓reduceIte, Nat.reduceAdd]
def g28_8 (call : Caller) (n : Nat) (ih2 : SV → SV → SV → SV → SHeap → Res) (t0 t1 t4 t5 t6 t10 t11 : SV) (H : SHeap) : Res :=
  pNilCheck t0 fun t41 =>
  pFieldAddr 5 t41 fun t42 =>
  pLoad y3 t42 H fun t43 =>
  bnd (call 47 [t43, t6] H) fun t45 H4 =>
  condK t45 (
   pNilCheck t0 fun t47 =>
   pFieldAddr 6 t47 fun t48 =>
   bnd (call 48 [t48] H4) fun t49 H7 =>
   pNilCheck t0 fun t54 =>
   pFieldAddr 9 t54 fun t55 =>
   pStore y9 t55 (.str []) H7 fun H8 =>
   pNilCheck t0 fun t56 =>
   pFieldAddr 10 t56 fun t57 =>
   pStore y4 t57 (.bool false) H8 fun H9 =>
   g28_11 call n ih2 t0 t1 t4 t5 t6 t10 t11 t0 t0 H9) (
   g28_9 call n ih2 t0 t1 t4 t5 t6 t10 t11 H4)
theorem e28_8 (call : Caller) (n : Nat) (ih2 : SV → SV → SV → SV → SHeap → Res) (e : Env) (H : SHeap) : runK call n c28_13 e H (fun e H => g28_5 call n ih2 (e.at 0) (e.at 1) (e.at 10) (e.at 11) H) (fun i e H => if i = 1 then g28_5 call n ih2 (e.at 0) (e.at 1) (e.at 10) (e.at 11) H else if i = 0 then (some (.tup [], H)) else none) (resK r28) = g28_8 call n ih2 (e.at 0) (e.at 1) (e.at 4) (e.at 5) (e.at 6) (e.at 10) (e.at 11) H := by
  simp only [c28_13, g28_8, rr28, e28_5, e28_9, e28_11, kit, Nat.reduceEqDiff, ↓reduceIte, Nat.reduceAdd]
def g28_7 (call : Caller) (n : Nat) (ih2 : SV → SV → SV → SV → SHeap → Res) (t0 t1 t4 t5 t6 t10 t11 : SV) (H : SHeap) : Res :=
  pNilCheck t0 fun t30 =>
  pFieldAddr 5 t30 fun t31 =>
  pLoad y3 t31 H fun t32 =>
  bnd (call 45 [t32, t6] H) fun t34 H3 =>
  condK t34 (
   pIdxS t1 t4 fun t38 =>
   bnd (call 46 [t0, t38] H3) fun t39 H12 =>
   g28_8 call n ih2 t0 t1 t4 t5 t6 t10 t11 H12) (
   g28_8 call n ih2 t0 t1 t4 t5 t6 t10 t11 H3)
theorem e28_7 (call : Caller) (n : Nat) (ih2 : SV → SV → SV → SV → SHeap → Res) (e : Env) (H : SHeap) : runK call n c28_14 e H (fun e H => g28_5 call n ih2 (e.at 0) (e.at 1) (e.at 10) (e.at 11) H) (fun i e H => if i = 1 then g28_5 call n ih2 (e.at 0) (e.at 1) (e.at 10) (e.at 11) H else if i = 0 then (some (.tup [], H)) else none) (resK r28) = g28_7 call n ih2 (e.at 0) (e.at 1) (e.at 4) (e.at 5) (e.at 6) (e.at 10) (e.at 11) H := by
  simp only [c28_14, g28_7, rr28, e28_5, e28_9, e28_11, e28_8, kit, Nat.reduceEqDiff, ↓reduceIte, Nat.reduceAdd]
def g28_4 (call : Caller) (n : Nat) (ih2 : SV → SV → SV → SV → SHeap → Res) (t0 t1 t10 t11 : SV) (H : SHeap) : Res :=
  pNilCheck t0 fun t16 =>
  pFieldAddr 5 t16 fun t17 =>
  pLoad y3 t17 H fun t18 =>
  pIdxS t1 t11 fun t21 =>
  bnd (call 43 [t18, t21] H) fun t22 H2 =>
  pExtract 0 t22 fun t23 =>
  pExtract 1 t22 fun t24 =>
  pNeq .no t23 (.int .i64 (.ofNat 1)) fun t26 =>
  condK t26 (
   bnd (call 44 [t0] H2) fun t28 H13 =>
   g28_7 call n ih2 t0 t1 t11 t23 t24 t10 t11 H13) (
   g28_7 call n ih2 t0 t1 t11 t23 t24 t10 t11 H2)
theorem e28_4 (call : Caller) (n : Nat) (ih2 : SV → SV → SV → SV → SHeap → Res) (e : Env) (H : SHeap) : runK call n c28_15 e H (fun e H => ih2 (e.at 0) (e.at 1) (e.at 10) (e.at 11) H) (fun i e H => if i = 0 then (some (.tup [], H)) else none) (resK r28) = g28_4 call n ih2 (e.at 0) (e.at 1) (e.at 10) (e.at 11) H := by
  simp only [c28_15, g28_4, rr28, e28_5, e28_9, e28_11, e28_8, e28_7, kit, Nat.reduceEqDiff, ↓reduceIte, Nat.reduceAdd]
def g28_3 (call : Caller) (n : Nat) (ih2 : SV → SV → SV → SV → SHeap → Res) (t0 t1 t10 t11 : SV) (H : SHeap) : Res :=
  pLss t11 t10 fun t12 =>
  condK t12 (
   g28_4 call n ih2 t0 t1 t10 t11 H) (
   some (.tup [], H))
theorem e28_3 (call : Caller) (n : Nat) (ih2 : SV → SV → SV → SV → SHeap → Res) (e : Env) (H : SHeap) : runK call n c28_16 e H (fun e H => ih2 (e.at 0) (e.at 1) (e.at 10) (e.at 11) H) (fun i e H => if i = 0 then (some (.tup [], H)) else none) (resK r28) = g28_3 call n ih2 (e.at 0) (e.at 1) (e.at 10) (e.at 11) H := by
  simp only [c28_16, g28_3, rr28, e28_5, e28_9, e28_11, e28_8, e28_7, e28_4, kit, Nat.reduceEqDiff, ↓reduceIte, Nat.reduceAdd]
def g28_17 (call : Caller) (n : Nat) (m : Nat) : SV → SV → SV → SV → SHeap → Res :=
  Nat.rec (motive := fun _ => SV → SV → SV → SV → SHeap → Res) (fun _ _ _ _ _ => none) (fun _ ih2 t0 t1 t10 t11 H => g28_3 call n ih2 t0 t1 t10 t11 H) m
theorem e28_17 (call : Caller) (n : Nat) (m : Nat) (e : Env) (H : SHeap) : iterK (fun k e H => runK call n c28_16 e H k (fun i e H => if i = 0 then (some (.tup [], H)) else none) (resK r28)) m e H = g28_17 call n m (e.at 0) (e.at 1) (e.at 10) (e.at 11) H := by
  induction m generalizing e H with
  | zero => rfl
  | succ m ihm =>
    show runK call n c28_16 e H (iterK (fun k e H => runK call n c28_16 e H k (fun i e H => if i = 0 then (some (.tup [], H)) else none) (resK r28)) m) (fun i e H => if i = 0 then (some (.tup [], H)) else none) (resK r28) = g28_3 call n (g28_17 call n m) (e.at 0) (e.at 1) (e.at 10) (e.at 11) H
    rw [show iterK (fun k e H => runK call n c28_16 e H k (fun i e H => if i = 0 then (some (.tup [], H)) else none) (resK r28)) m = (fun e H => g28_17 call n m (e.at 0) (e.at 1) (e.at 10) (e.at 11) H) from funext fun e => funext fun H => ihm e H]
    exact e28_3 call n (g28_17 call n m) e H
def g28_1 (call : Caller) (n : Nat) (t0 t1 : SV) (H : SHeap) : Res :=
  pLenS t1 fun t10 =>
  g28_17 call n n t0 t1 t10 (.int .i64 (.ofNat 0)) H
theorem e28_1 (call : Caller) (n : Nat) (e : Env) (H : SHeap) : runK call n c28_18 e H (resK r28) (fun _ _ _ => none) (resK r28) = g28_1 call n (e.at 0) (e.at 1) H := by
  simp only [c28_18, g28_1, rr28, e28_5, e28_9, e28_11, e28_8, e28_7, e28_4, e28_3, e28_17, kit, Nat.reduceEqDiff, ↓reduceIte, Nat.reduceAdd]
/- (*jalousie/events.Parser).Feed -/
def g28 (call : Caller) (n : Nat) (x0 x1 : SV) (H : SHeap) : Res :=
  bnd (xSamePtr false x0 .nilp H) fun t8 H1 =>
  condK t8 (
   some (.tup [], H1)) (
   g28_1 call n x0 x1 H1)
theorem e28 (call : Caller) (n : Nat) (x0 x1 : SV) (H : SHeap) : runBodyK call n c28 [x0, x1] H = g28 call n x0 x1 H :=
  (bodyK_eq call n H 2 r28 b28 [x0, x1] rfl).trans (by simp only [b28, rr28, g28, e28_5, e28_9, e28_11, e28_8, e28_7, e28_4, e28_3, e28_17, e28_1, kit, Nat.reduceEqDiff, ↓reduceIte, Nat.reduceAdd])
theorem rr29 (e : Env) (H : SHeap) : resK r29 e H = pLoad y74 (e.at 2) H fun w0 => some (.tup [w0, (e.at 3)], H) := by
  simp only [r29, kitR, kit, Nat.reduceEqDiff, ↓reduceIte, Nat.reduceAdd]
def g29_1 (call : Caller) (n : Nat) (t0 t2 : SV) (H : SHeap) : Res :=
  pNilCheck t0 fun t17 =>
  pFieldAddr 14 t17 fun t18 =>
  pLoad y97 t18 H fun t19 =>
  pIdxAddrL 6 t19 (.int .i64 (.ofNat 0)) H fun t20 =>
  pLoad y74 t20 H fun t21 =>
  pAlloc y74 (.agg [(.int .i64 (.ofNat 0)), (.int .i32 (.ofNat 0)), (.int .u8 (.ofNat 0)), (.str []), .nils, (.str [])]) H fun t4 H9 =>
  pStore y74 t4 t21 H9 fun H10 =>
  pNilCheck t0 fun t24 =>
  pFieldAddr 14 t24 fun t25 =>
  pLoad y97 t25 H10 fun t26 =>
  bnd (only H10 (sSliceL 6 H10 t26 (some (.int .i64 (.ofNat 1))) none none)) fun t27 H11 =>
  pNilCheck t0 fun t28 =>
  pFieldAddr 14 t28 fun t29 =>
  pStore y97 t29 t27 H11 fun H12 =>
  pLoad y74 t4 H12 fun t30 =>
  pStore y74 t2 t30 H12 fun H13 =>
  pLoad y74 t2 H13 fun w1 =>
  some (.tup [w1, (.bool true)], H13)
theorem e29_1 (call : Caller) (n : Nat) (e : Env) (H : SHeap) : runK call n c29_2 e H (resK r29) (fun _ _ _ => none) (resK r29) = g29_1 call n (e.at 0) (e.at 2) H := by
  simp only [c29_2, g29_1, rr29, kit, Nat.reduceEqDiff, ↓reduceIte, Nat.reduceAdd]
/- (*jalousie/events.Parser).Next -/
def g29 (call : Caller) (n : Nat) (x0 : SV) (H : SHeap) : Res :=
  pAlloc y74 (.agg [(.int .i64 (.ofNat 0)), (.int .i32 (.ofNat 0)), (.int .u8 (.ofNat 0)), (.str []), .nils, (.str [])]) H fun t2 H1 =>
  bnd (xSamePtr false x0 .nilp H1) fun t6 H2 =>
  bnd (guardR t6 false (some (x0, H2)) H2) fun t8 H3 =>
  bnd (guardR t6 false (xNilCheck t8 H3) H3) fun t9 H4 =>
  bnd (guardR t6 false (xFieldAddr 14 t9 H4) H4) fun t10 H5 =>
  bnd (guardR t6 false (xLoad y97 t10 H5) H5) fun t11 H6 =>
  bnd (guardR t6 false (xLenL t11 H6) H6) fun t12 H7 =>
  bnd (guardR t6 false (only H7 (sBin .eql .no t12 (.int .i64 (.ofNat 0)))) H7) fun t13 H8 =>
  pPick t6 (.bool true) t13 fun t14 =>
  condK t14 (
   bnd (xBuild [(.int .i64 (.ofNat 0)), (.int .i32 (.ofNat 0)), (.int .u8 (.ofNat 0)), (.str []), .nils, (.str [])] [] H8) fun t15 H14 =>
   pStore y74 t2 t15 H14 fun H15 =>
   pLoad y74 t2 H15 fun w1 =>
   some (.tup [w1, (.bool false)], H15)) (
   g29_1 call n x0 t2 H8)
theorem e29 (call : Caller) (n : Nat) (x0 : SV) (H : SHeap) : runBodyK call n c29 [x0] H = g29 call n x0 H :=
  (bodyK_eq call n H 1 r29 b29 [x0] rfl).trans (by simp only [b29, rr29, g29, e29_1, kit, Nat.reduceEqDiff, ↓reduceIte, Nat.reduceAdd])
theorem rr30 (e : Env) (H : SHeap) : resK r30 e H = some (.tup [], H) := by
  simp only [r30, kitR, kit, Nat.reduceEqDiff, ↓reduceIte, Nat.reduceAdd]
/- (*jalousie/term.Term).does -/
def g30 (call : Caller) (n : Nat) (x0 x1 : SV) (H : SHeap) : Res :=
  bnd (xBox y74 x1 H) fun t3 H1 =>
  pFieldAddr 0 t3 fun t5 =>
  pLoad y3 t5 H1 fun t6 =>
  pEql .no t6 (.int .i64 (.ofNat 1)) fun t7 =>
  condK t7 (
   pFieldAddr 1 t3 fun t9 =>
   pLoad y21 t9 H1 fun t10 =>
   bnd (call 50 [x0, t10] H1) fun t11 H2 =>
   some (.tup [], H2)) (
   pFieldAddr 0 t3 fun t13 =>
   pLoad y3 t13 H1 fun t14 =>
   pEql .no t14 (.int .i64 (.ofNat 4)) fun t15 =>
   condK t15 (
    pLoad y74 t3 H1 fun t17 =>
    bnd (call 51 [x0, t17] H1) fun t18 H3 =>
    some (.tup [], H3)) (
    pFieldAddr 0 t3 fun t20 =>
    pLoad y3 t20 H1 fun t21 =>
    pEql .no t21 (.int .i64 (.ofNat 2)) fun t22 =>
    bnd (guardR t22 true (xFieldAddr 2 t3 H1) H1) fun t24 H4 =>
    bnd (guardR t22 true (xLoad y5 t24 H4) H4) fun t25 H5 =>
    bnd (guardR t22 true (only H5 (sBin .eql .no t25 (.int .u8 (.ofNat 13)))) H5) fun t26 H6 =>
    pPick t22 t26 (.bool false) fun t27 =>
    condK t27 (
     pNilCheck x0 fun t29 =>
     pFieldAddr 3 t29 fun t30 =>
     pStore y3 t30 (.int .i64 (.ofNat 0)) H6 fun H7 =>
     some (.tup [], H7)) (
     pFieldAddr 0 t3 fun t32 =>
     pLoad y3 t32 H6 fun t33 =>
     pEql .no t33 (.int .i64 (.ofNat 2)) fun t34 =>
     bnd (guardR t34 true (xFieldAddr 2 t3 H6) H6) fun t36 H8 =>
     bnd (guardR t34 true (xLoad y5 t36 H8) H8) fun t37 H9 =>
     bnd (guardR t34 true (only H9 (sBin .eql .no t37 (.int .u8 (.ofNat 10)))) H9) fun t38 H10 =>
     pPick t34 t38 (.bool false) fun t39 =>
     condK t39 (
      pNilCheck x0 fun t42 =>
      pFieldAddr 4 t42 fun t43 =>
      pLoad y3 t43 H10 fun t44 =>
      pAdd t44 (.int .i64 (.ofNat 1)) fun t45 =>
      pNilCheck x0 fun t47 =>
      pFieldAddr 1 t47 fun t48 =>
      pLoad y3 t48 H10 fun t49 =>
      pSub t49 (.int .i64 (.ofNat 1)) fun t50 =>
      bnd (xMin [t45, t50] H10) fun t51 H11 =>
      pNilCheck x0 fun t52 =>
      pFieldAddr 4 t52 fun t53 =>
      pStore y3 t53 t51 H11 fun H12 =>
      some (.tup [], H12)) (
      some (.tup [], H10)))))
theorem e30 (call : Caller) (n : Nat) (x0 x1 : SV) (H : SHeap) : runBodyK call n c30 [x0, x1] H = g30 call n x0 x1 H :=
  (bodyK_eq call n H 2 r30 b30 [x0, x1] rfl).trans (by simp only [b30, rr30, g30, kit, Nat.reduceEqDiff, ↓reduceIte, Nat.reduceAdd])
theorem rr34 (e : Env) (H : SHeap) : resK r34 e H = some (.tup [], H) := by
  simp only [r34, kitR, kit, Nat.reduceEqDiff, ↓reduceIte, Nat.reduceAdd]
def g34_4 (call : Caller) (n : Nat) (ih1 : SV → SV → SV → SHeap → Res) (t0 t8 t9 : SV) (H : SHeap) : Res :=
  pAdd t9 (.int .i64 (.ofNat 1)) fun t26 =>
  ih1 t0 t8 t26 H
theorem e34_4 (call : Caller) (n : Nat) (ih1 : SV → SV → SV → SHeap → Res) (e : Env) (H : SHeap) : runK call n c34_5 e H (fun e H => ih1 (e.at 0) (e.at 8) (e.at 9) H) (fun i e H => if i = 0 then (some (.tup [], H)) else none) (resK r34) = g34_4 call n ih1 (e.at 0) (e.at 8) (e.at 9) H := by
  simp only [c34_5, g34_4, rr34, kit, Nat.reduceEqDiff, ↓reduceIte, Nat.reduceAdd]
def g34_3 (call : Caller) (n : Nat) (ih1 : SV → SV → SV → SHeap → Res) (t0 t8 t9 : SV) (H : SHeap) : Res :=
  pNilCheck t0 fun t13 =>
  pFieldAddr 2 t13 fun t14 =>
  pLoad y70 t14 H fun t15 =>
  pNilCheck t0 fun t17 =>
  pFieldAddr 0 t17 fun t18 =>
  pLoad y3 t18 H fun t19 =>
  bnd (xBuild [(.int .u16 (.ofNat 0)), (.int .u8 (.ofNat 0)), (.int .u32 (.ofNat 0)), (.int .u8 (.ofNat 0)), (.int .u32 (.ofNat 0))] [] H) fun t20 H2 =>
  bnd (call 62 [t19, t20] H2) fun t21 H3 =>
  bnd (xBuildSlice y27 .nils 1 [(0, t21)] H3) fun t22 H4 =>
  pAppend 27 1 24 H4 t15 t22 fun t23 H5 =>
  pNilCheck t0 fun t24 =>
  pFieldAddr 2 t24 fun t25 =>
  pStore y70 t25 t23 H5 fun H6 =>
  lookK t15 (xLoad y70 t14 H3) <|
  lookK t15 (xLoad y70 t14 H4) <|
  g34_4 call n ih1 t0 t8 t9 H6
theorem e34_3 (call : Caller) (n : Nat) (ih1 : SV → SV → SV → SHeap → Res) (e : Env) (H : SHeap) : runK call n c34_6 e H (fun e H => ih1 (e.at 0) (e.at 8) (e.at 9) H) (fun i e H => if i = 0 then (some (.tup [], H)) else none) (resK r34) = g34_3 call n ih1 (e.at 0) (e.at 8) (e.at 9) H := by
  simp only [c34_6, g34_3, rr34, e34_4, kit, Nat.reduceEqDiff, ↓reduceIte, Nat.reduceAdd]
def g34_2 (call : Caller) (n : Nat) (ih1 : SV → SV → SV → SHeap → Res) (t0 t8 t9 : SV) (H : SHeap) : Res :=
  pLss t9 t8 fun t10 =>
  condK t10 (
   g34_3 call n ih1 t0 t8 t9 H) (
   some (.tup [], H))
theorem e34_2 (call : Caller) (n : Nat) (ih1 : SV → SV → SV → SHeap → Res) (e : Env) (H : SHeap) : runK call n c34_7 e H (fun e H => ih1 (e.at 0) (e.at 8) (e.at 9) H) (fun i e H => if i = 0 then (some (.tup [], H)) else none) (resK r34) = g34_2 call n ih1 (e.at 0) (e.at 8) (e.at 9) H := by
  simp only [c34_7, g34_2, rr34, e34_4, e34_3, kit, Nat.reduceEqDiff, ↓reduceIte, Nat.reduceAdd]
def g34_8 (call : Caller) (n : Nat) (m : Nat) : SV → SV → SV → SHeap → Res :=
  Nat.rec (motive := fun _ => SV → SV → SV → SHeap → Res) (fun _ _ _ _ => none) (fun _ ih1 t0 t8 t9 H => g34_2 call n ih1 t0 t8 t9 H) m
theorem e34_8 (call : Caller) (n : Nat) (m : Nat) (e : Env) (H : SHeap) : iterK (fun k e H => runK call n c34_7 e H k (fun i e H => if i = 0 then (some (.tup [], H)) else none) (resK r34)) m e H = g34_8 call n m (e.at 0) (e.at 8) (e.at 9) H := by
  induction m generalizing e H with
  | zero => rfl
  | succ m ihm =>
    show runK call n c34_7 e H (iterK (fun k e H => runK call n c34_7 e H k (fun i e H => if i = 0 then (some (.tup [], H)) else none) (resK r34)) m) (fun i e H => if i = 0 then (some (.tup [], H)) else none) (resK r34) = g34_2 call n (g34_8 call n m) (e.at 0) (e.at 8) (e.at 9) H
    rw [show iterK (fun k e H => runK call n c34_7 e H k (fun i e H => if i = 0 then (some (.tup [], H)) else none) (resK r34)) m = (fun e H => g34_8 call n m (e.at 0) (e.at 8) (e.at 9) H) from funext fun e => funext fun H => ihm e H]
    exact e34_2 call n (g34_8 call n m) e H
/- (*jalousie/term.Term).blank -/
def g34 (call : Caller) (n : Nat) (x0 : SV) (H : SHeap) : Res :=
  pNilCheck x0 fun t3 =>
  pFieldAddr 2 t3 fun t4 =>
  pStore y70 t4 .nils H fun H1 =>
  pNilCheck x0 fun t6 =>
  pFieldAddr 1 t6 fun t7 =>
  pLoad y3 t7 H1 fun t8 =>
  g34_8 call n n x0 t8 (.int .i64 (.ofNat 0)) H1
theorem e34 (call : Caller) (n : Nat) (x0 : SV) (H : SHeap) : runBodyK call n c34 [x0] H = g34 call n x0 H :=
  (bodyK_eq call n H 1 r34 b34 [x0] rfl).trans (by simp only [b34, rr34, g34, e34_4, e34_3, e34_2, e34_8, kit, Nat.reduceEqDiff, ↓reduceIte, Nat.reduceAdd])
theorem rr35 (e : Env) (H : SHeap) : resK r35 e H = some ((e.at 2), H) := by
  simp only [r35, kitR, kit, Nat.reduceEqDiff, ↓reduceIte, Nat.reduceAdd]
def g35_1 (call : Caller) (n : Nat) (t2 : SV) (H : SHeap) : Res :=
  some (t2, H)
theorem e35_1 (call : Caller) (n : Nat) (e : Env) (H : SHeap) : runK call n c35_2 e H (resK r35) (fun _ _ _ => none) (resK r35) = g35_1 call n (e.at 2) H := by
  simp only [c35_2, g35_1, rr35, kit, Nat.reduceEqDiff, ↓reduceIte, Nat.reduceAdd]
def g35_3 (call : Caller) (n : Nat) (t5 t11 t12 : SV) (H : SHeap) : Res :=
  bnd (guardR t11 false (xNilCheck t12 H) H) fun t13 H9 =>
  bnd (guardR t11 false (xFieldAddr 0 t13 H9) H9) fun t14 H10 =>
  bnd (guardR t11 false (call 63 [t14] H10) H10) fun t15 H11 =>
  bnd (guardR t11 false (only H11 (sBin .gtr .no t15 (.int .i64 (.ofNat 0)))) H11) fun t16 H12 =>
  bnd (guardR t5 true (xPick t11 (.bool true) t16 H12) H12) fun t17 H13 =>
  pPick t5 t17 (.bool false) fun t18 =>
  g35_1 call n t18 H13
theorem e35_3 (call : Caller) (n : Nat) (e : Env) (H : SHeap) : runOpsK call o35_4 e H (fun e H => g35_1 call n (e.at 2) H) = g35_3 call n (e.at 5) (e.at 11) (e.at 12) H := by
  simp only [o35_4, g35_3, rr35, e35_1, kit, Nat.reduceEqDiff, ↓reduceIte, Nat.reduceAdd]
/- (*jalousie/events.Parser).Waits -/
def g35 (call : Caller) (n : Nat) (x0 : SV) (H : SHeap) : Res :=
  bnd (xSamePtr true x0 .nilp H) fun t4 H1 =>
  bnd (guardR t4 true (some (x0, H1)) H1) fun t6 H2 =>
  bnd (guardR t4 true (xNilCheck t6 H2) H2) fun t7 H3 =>
  bnd (guardR t4 true (xFieldAddr 5 t7 H3) H3) fun t8 H4 =>
  bnd (guardR t4 true (xLoad y3 t8 H4) H4) fun t9 H5 =>
  bnd (guardR t4 true (only H5 (sBin .neq .no t9 (.int .i64 (.ofNat 0)))) H5) fun t10 H6 =>
  bnd (guardR t4 true (some (t10, H6)) H6) fun t11 H7 =>
  bnd (guardR t11 false (some (x0, H7)) H7) fun t12 H8 =>
  g35_3 call n t4 t11 t12 H8
theorem e35 (call : Caller) (n : Nat) (x0 : SV) (H : SHeap) : runBodyK call n c35 [x0] H = g35 call n x0 H :=
  (bodyK_eq call n H 1 r35 b35 [x0] rfl).trans (by simp only [b35, rr35, g35, e35_1, e35_3, kit, Nat.reduceEqDiff, ↓reduceIte, Nat.reduceAdd])
theorem rr39 (e : Env) (H : SHeap) : resK r39 e H = some ((e.at 2), H) := by
  simp only [r39, kitR, kit, Nat.reduceEqDiff, ↓reduceIte, Nat.reduceAdd]
def g39_1 (call : Caller) (n : Nat) (t3 : SV) (H : SHeap) : Res :=
  some (t3, H)
theorem e39_1 (call : Caller) (n : Nat) (e : Env) (H : SHeap) : runK call n c39_2 e H (resK r39) (fun _ _ _ => none) (resK r39) = g39_1 call n (e.at 3) H := by
  simp only [c39_2, g39_1, rr39, kit, Nat.reduceEqDiff, ↓reduceIte, Nat.reduceAdd]
def g39_6 (call : Caller) (n : Nat) (ih3 : SV → SV → SV → SV → SHeap → Res) (t3 t7 t8 t9 : SV) (H : SHeap) : Res :=
  pAdd t9 (.int .i64 (.ofNat 1)) fun t23 =>
  ih3 t3 t7 t8 t23 H
theorem e39_6 (call : Caller) (n : Nat) (ih3 : SV → SV → SV → SV → SHeap → Res) (e : Env) (H : SHeap) : runK call n c39_7 e H (fun e H => ih3 (e.at 3) (e.at 7) (e.at 8) (e.at 9) H) (fun i e H => if i = 0 then g39_1 call n (e.at 3) H else none) (resK r39) = g39_6 call n ih3 (e.at 3) (e.at 7) (e.at 8) (e.at 9) H := by
  simp only [c39_7, g39_6, rr39, e39_1, kit, Nat.reduceEqDiff, ↓reduceIte, Nat.reduceAdd]
def g39_8 (call : Caller) (n : Nat) (ih3 : SV → SV → SV → SV → SHeap → Res) (t3 t6 t7 t8 t9 : SV) (H : SHeap) : Res :=
  bnd (xBuildSlice y3 (.int .i64 (.ofNat 0)) 1 [(0, t6)] H) fun t21 H1 =>
  pAppend 3 1 8 H1 t3 t21 fun t22 H2 =>
  g39_6 call n ih3 t22 t7 t8 t9 H2
theorem e39_8 (call : Caller) (n : Nat) (ih3 : SV → SV → SV → SV → SHeap → Res) (e : Env) (H : SHeap) : runK call n c39_9 e H (fun e H => g39_6 call n ih3 (e.at 3) (e.at 7) (e.at 8) (e.at 9) H) (fun i e H => if i = 1 then g39_6 call n ih3 (e.at 3) (e.at 7) (e.at 8) (e.at 9) H else if i = 0 then g39_1 call n (e.at 3) H else none) (resK r39) = g39_8 call n ih3 (e.at 3) (e.at 6) (e.at 7) (e.at 8) (e.at 9) H := by
  simp only [c39_9, g39_8, rr39, e39_1, e39_6, kit, Nat.reduceEqDiff, ↓reduceIte, Nat.reduceAdd]
def g39_5 (call : Caller) (n : Nat) (ih3 : SV → SV → SV → SV → SHeap → Res) (t3 t7 t8 t9 : SV) (H : SHeap) : Res :=
  pIdxAddrL 1 t7 t9 H fun t11 =>
  pLoad y81 t11 H fun t12 =>
  pLenL t12 fun t14 =>
  pGtr t14 (.int .i64 (.ofNat 0)) fun t15 =>
  condK t15 (
   pIdxAddrL 1 t12 (.int .i64 (.ofNat 0)) H fun t17 =>
   pLoad y3 t17 H fun t18 =>
   g39_8 call n ih3 t3 t18 t7 t8 t9 H) (
   g39_8 call n ih3 t3 (.int .i64 (.ofNat 0)) t7 t8 t9 H)
theorem e39_5 (call : Caller) (n : Nat) (ih3 : SV → SV → SV → SV → SHeap → Res) (e : Env) (H : SHeap) : runK call n c39_10 e H (fun e H => ih3 (e.at 3) (e.at 7) (e.at 8) (e.at 9) H) (fun i e H => if i = 0 then g39_1 call n (e.at 3) H else none) (resK r39) = g39_5 call n ih3 (e.at 3) (e.at 7) (e.at 8) (e.at 9) H := by
  simp only [c39_10, g39_5, rr39, e39_1, e39_6, e39_8, kit, Nat.reduceEqDiff, ↓reduceIte, Nat.reduceAdd]
def g39_4 (call : Caller) (n : Nat) (ih3 : SV → SV → SV → SV → SHeap → Res) (t3 t7 t8 t9 : SV) (H : SHeap) : Res :=
  pLss t9 t8 fun t10 =>
  condK t10 (
   g39_5 call n ih3 t3 t7 t8 t9 H) (
   g39_1 call n t3 H)
theorem e39_4 (call : Caller) (n : Nat) (ih3 : SV → SV → SV → SV → SHeap → Res) (e : Env) (H : SHeap) : runK call n c39_11 e H (fun e H => ih3 (e.at 3) (e.at 7) (e.at 8) (e.at 9) H) (fun i e H => if i = 0 then g39_1 call n (e.at 3) H else none) (resK r39) = g39_4 call n ih3 (e.at 3) (e.at 7) (e.at 8) (e.at 9) H := by
  simp only [c39_11, g39_4, rr39, e39_1, e39_6, e39_8, e39_5, kit, Nat.reduceEqDiff, ↓reduceIte, Nat.reduceAdd]
def g39_12 (call : Caller) (n : Nat) (m : Nat) : SV → SV → SV → SV → SHeap → Res :=
  Nat.rec (motive := fun _ => SV → SV → SV → SV → SHeap → Res) (fun _ _ _ _ _ => none) (fun _ ih3 t3 t7 t8 t9 H => g39_4 call n ih3 t3 t7 t8 t9 H) m
theorem e39_12 (call : Caller) (n : Nat) (m : Nat) (e : Env) (H : SHeap) : iterK (fun k e H => runK call n c39_11 e H k (fun i e H => if i = 0 then g39_1 call n (e.at 3) H else none) (resK r39)) m e H = g39_12 call n m (e.at 3) (e.at 7) (e.at 8) (e.at 9) H := by
  induction m generalizing e H with
  | zero => rfl
  | succ m ihm =>
    show runK call n c39_11 e H (iterK (fun k e H => runK call n c39_11 e H k (fun i e H => if i = 0 then g39_1 call n (e.at 3) H else none) (resK r39)) m) (fun i e H => if i = 0 then g39_1 call n (e.at 3) H else none) (resK r39) = g39_4 call n (g39_12 call n m) (e.at 3) (e.at 7) (e.at 8) (e.at 9) H
    rw [show iterK (fun k e H => runK call n c39_11 e H k (fun i e H => if i = 0 then g39_1 call n (e.at 3) H else none) (resK r39)) m = (fun e H => g39_12 call n m (e.at 3) (e.at 7) (e.at 8) (e.at 9) H) from funext fun e => funext fun H => ihm e H]
    exact e39_4 call n (g39_12 call n m) e H
/- jalousie/attr.firsts -/
def g39 (call : Caller) (n : Nat) (x0 : SV) (H : SHeap) : Res :=
  pLenL x0 fun t8 =>
  g39_12 call n n .nils x0 t8 (.int .i64 (.ofNat 0)) H
theorem e39 (call : Caller) (n : Nat) (x0 : SV) (H : SHeap) : runBodyK call n c39 [x0] H = g39 call n x0 H :=
  (bodyK_eq call n H 1 r39 b39 [x0] rfl).trans (by simp only [b39, rr39, g39, e39_1, e39_6, e39_8, e39_5, e39_4, e39_12, kit, Nat.reduceEqDiff, ↓reduceIte, Nat.reduceAdd])
theorem rr40 (e : Env) (H : SHeap) : resK r40 e H = pLoad y35 (e.at 2) H fun w0 => some (.tup [w0, (e.at 3), (e.at 4)], H) := by
  simp only [r40, kitR, kit, Nat.reduceEqDiff, ↓reduceIte, Nat.reduceAdd]
def g40_2 (call : Caller) (n : Nat) (t2 t3 t4 t6 : SV) (H : SHeap) : Res :=
  pLoad y35 t2 H fun t67 =>
  pLenL t6 fun t70 =>
  bnd (xMin [t3, t70] H) fun t71 H6 =>
  pStore y35 t2 t67 H6 fun H7 =>
  pLoad y35 t2 H7 fun w1 =>
  some (.tup [w1, t71, t4], H7)
theorem e40_2 (call : Caller) (n : Nat) (e : Env) (H : SHeap) : runK call n c40_3 e H (resK r40) (fun _ _ _ => none) (resK r40) = g40_2 call n (e.at 2) (e.at 3) (e.at 4) (e.at 6) H := by
  simp only [c40_3, g40_2, rr40, kit, Nat.reduceEqDiff, ↓reduceIte, Nat.reduceAdd]
def g40_1 (call : Caller) (n : Nat) (t0 t2 t3 : SV) (H : SHeap) : Res :=
  bnd (only H (sSliceL 1 H t0 (some (.int .i64 (.ofNat 1))) none none)) fun t36 H2 =>
  bnd (call 39 [t36] H2) fun t37 H3 =>
  bnd (call 66 [t37] H3) fun t40 H4 =>
  pExtract 0 t40 fun t41 =>
  pExtract 1 t40 fun t42 =>
  pStore y35 t2 t41 H4 fun H5 =>
  pLenL t37 fun t45 =>
  pGtr t45 (.int .i64 (.ofNat 0)) fun t46 =>
  bnd (guardR t46 true (some (t37, H5)) H5) fun t48 H8 =>
  bnd (guardR t46 true (xIdxAddrL 1 t48 (.int .i64 (.ofNat 0)) H8) H8) fun t49 H9 =>
  bnd (guardR t46 true (xLoad y3 t49 H9) H9) fun t50 H10 =>
  bnd (guardR t46 true (only H10 (sBin .eql .no t50 (.int .i64 (.ofNat 5)))) H10) fun t51 H11 =>
  pPick t46 t51 (.bool false) fun t52 =>
  condK t52 (
   g40_2 call n t2 (.int .i64 (.ofNat 2)) t42 t37 H11) (
   pLenL t37 fun t55 =>
   pGtr t55 (.int .i64 (.ofNat 0)) fun t56 =>
   bnd (guardR t56 true (some (t37, H11)) H11) fun t58 H12 =>
   bnd (guardR t56 true (xIdxAddrL 1 t58 (.int .i64 (.ofNat 0)) H12) H12) fun t59 H13 =>
   bnd (guardR t56 true (xLoad y3 t59 H13) H13) fun t60 H14 =>
   bnd (guardR t56 true (only H14 (sBin .eql .no t60 (.int .i64 (.ofNat 2)))) H14) fun t61 H15 =>
   pPick t56 t61 (.bool false) fun t62 =>
   condK t62 (
    g40_2 call n t2 (.int .i64 (.ofNat 4)) t42 t37 H15) (
    pLenL t37 fun t65 =>
    pGtr t65 (.int .i64 (.ofNat 0)) fun t66 =>
    condK t66 (
     g40_2 call n t2 (.int .i64 (.ofNat 1)) t42 t37 H15) (
     g40_2 call n t2 t3 t42 t37 H15)))
theorem e40_1 (call : Caller) (n : Nat) (e : Env) (H : SHeap) : runK call n c40_4 e H (resK r40) (fun _ _ _ => none) (resK r40) = g40_1 call n (e.at 0) (e.at 2) (e.at 3) H := by
  simp only [c40_4, g40_1, rr40, e40_2, kit, Nat.reduceEqDiff, ↓reduceIte, Nat.reduceAdd]
def g40_5 (call : Caller) (n : Nat) (t2 t5 : SV) (H : SHeap) : Res :=
  bnd (call 66 [t5] H) fun t30 H21 =>
  pExtract 0 t30 fun t31 =>
  pExtract 1 t30 fun t32 =>
  pStore y35 t2 t31 H21 fun H22 =>
  pLoad y35 t2 H22 fun t33 =>
  pStore y35 t2 t33 H22 fun H23 =>
  pLoad y35 t2 H23 fun w1 =>
  some (.tup [w1, (.int .i64 (.ofNat 0)), t32], H23)
theorem e40_5 (call : Caller) (n : Nat) (e : Env) (H : SHeap) : runK call n c40_6 e H (fun e H => g40_1 call n (e.at 0) (e.at 2) (e.at 3) H) (fun _ _ _ => none) (resK r40) = g40_5 call n (e.at 2) (e.at 5) H := by
  simp only [c40_6, g40_5, rr40, e40_2, e40_1, kit, Nat.reduceEqDiff, ↓reduceIte, Nat.reduceAdd]
/- jalousie/attr.long -/
def g40 (call : Caller) (n : Nat) (x0 : SV) (H : SHeap) : Res :=
  pAlloc y35 (.agg [(.int .u8 (.ofNat 0)), (.int .u32 (.ofNat 0))]) H fun t2 H1 =>
  pIdxAddrL 1 x0 (.int .i64 (.ofNat 0)) H1 fun t8 =>
  pLoad y81 t8 H1 fun t9 =>
  pLenL t9 fun t11 =>
  pGtr t11 (.int .i64 (.ofNat 1)) fun t12 =>
  condK t12 (
   bnd (only H1 (sSliceL 1 H1 t9 (some (.int .i64 (.ofNat 1))) none none)) fun t14 H16 =>
   pLenL t14 fun t16 =>
   pGtr t16 (.int .i64 (.ofNat 4)) fun t17 =>
   bnd (guardR t17 true (some (t14, H16)) H16) fun t19 H17 =>
   bnd (guardR t17 true (xIdxAddrL 1 t19 (.int .i64 (.ofNat 0)) H17) H17) fun t20 H18 =>
   bnd (guardR t17 true (xLoad y3 t20 H18) H18) fun t21 H19 =>
   bnd (guardR t17 true (only H19 (sBin .eql .no t21 (.int .i64 (.ofNat 2)))) H19) fun t22 H20 =>
   pPick t17 t22 (.bool false) fun t23 =>
   condK t23 (
    bnd (xBuildSlice y3 (.int .i64 (.ofNat 0)) 1 [(0, (.int .i64 (.ofNat 2)))] H20) fun t24 H24 =>
    bnd (only H24 (sSliceL 1 H24 t14 (some (.int .i64 (.ofNat 2))) none none)) fun t26 H25 =>
    pAppend 3 1 8 H25 t24 t26 fun t27 H26 =>
    g40_5 call n t2 t27 H26) (
    g40_5 call n t2 t14 H20)) (
   g40_1 call n x0 t2 (.int .i64 (.ofNat 0)) H1)
theorem e40 (call : Caller) (n : Nat) (x0 : SV) (H : SHeap) : runBodyK call n c40 [x0] H = g40 call n x0 H :=
  (bodyK_eq call n H 1 r40 b40 [x0] rfl).trans (by simp only [b40, rr40, g40, e40_2, e40_1, e40_5, kit, Nat.reduceEqDiff, ↓reduceIte, Nat.reduceAdd])
theorem rr41 (e : Env) (H : SHeap) : resK r41 e H = some ((e.at 6), H) := by
  simp only [r41, kitR, kit, Nat.reduceEqDiff, ↓reduceIte, Nat.reduceAdd]
def g41_1 (call : Caller) (n : Nat) (H : SHeap) : Res :=
  some ((.bool false), H)
theorem e41_1 (call : Caller) (n : Nat) (e : Env) (H : SHeap) : runK call n c41_2 e H (resK r41) (fun _ _ _ => none) (resK r41) = g41_1 call n H := by
  simp only [c41_2, g41_1, rr41, kit, Nat.reduceEqDiff, ↓reduceIte, Nat.reduceAdd]
def g41_6 (call : Caller) (n : Nat) (ih3 : SV → SV → SV → SV → SV → SHeap → Res) (t0 t1 t2 t9 t10 : SV) (H : SHeap) : Res :=
  pAdd t10 (.int .i64 (.ofNat 1)) fun t64 =>
  ih3 t0 t1 t2 t9 t64 H
theorem e41_6 (call : Caller) (n : Nat) (ih3 : SV → SV → SV → SV → SV → SHeap → Res) (e : Env) (H : SHeap) : runK call n c41_7 e H (fun e H => ih3 (e.at 0) (e.at 1) (e.at 2) (e.at 9) (e.at 10) H) (fun i e H => if i = 0 then g41_1 call n H else none) (resK r41) = g41_6 call n ih3 (e.at 0) (e.at 1) (e.at 2) (e.at 9) (e.at 10) H := by
  simp only [c41_7, g41_6, rr41, e41_1, kit, Nat.reduceEqDiff, ↓reduceIte, Nat.reduceAdd]
def g41_9 (call : Caller) (n : Nat) (ih3 : SV → SV → SV → SV → SV → SHeap → Res) (H : SHeap) : Res :=
  some ((.bool true), H)
theorem e41_9 (call : Caller) (n : Nat) (ih3 : SV → SV → SV → SV → SV → SHeap → Res) (e : Env) (H : SHeap) : runK call n c41_10 e H (fun e H => g41_6 call n ih3 (e.at 0) (e.at 1) (e.at 2) (e.at 9) (e.at 10) H) (fun i e H => if i = 1 then g41_6 call n ih3 (e.at 0) (e.at 1) (e.at 2) (e.at 9) (e.at 10) H else if i = 0 then g41_1 call n H else none) (resK r41) = g41_9 call n ih3 H := by
  simp only [c41_10, g41_9, rr41, e41_1, e41_6, kit, Nat.reduceEqDiff, ↓reduceIte, Nat.reduceAdd]
def g41_8 (call : Caller) (n : Nat) (ih3 : SV → SV → SV → SV → SV → SHeap → Res) (t0 t1 : SV) (H : SHeap) : Res :=
  pEql .no t1 (.int .i64 (.ofNat 22)) fun t56 =>
  condK t56 (
   pNilCheck t0 fun t58 =>
   pFieldAddr 0 t58 fun t59 =>
   pLoad y32 t59 H fun t60 =>
   pBin .andNot t60 (.int .u16 (.ofNat 1)) fun t61 =>
   pNilCheck t0 fun t62 =>
   pFieldAddr 0 t62 fun t63 =>
   pStore y32 t63 t61 H fun H2 =>
   g41_9 call n ih3 H2) (
   g41_9 call n ih3 H)
theorem e41_8 (call : Caller) (n : Nat) (ih3 : SV → SV → SV → SV → SV → SHeap → Res) (e : Env) (H : SHeap) : runK call n c41_11 e H (fun e H => g41_6 call n ih3 (e.at 0) (e.at 1) (e.at 2) (e.at 9) (e.at 10) H) (fun i e H => if i = 1 then g41_6 call n ih3 (e.at 0) (e.at 1) (e.at 2) (e.at 9) (e.at 10) H else if i = 0 then g41_1 call n H else none) (resK r41) = g41_8 call n ih3 (e.at 0) (e.at 1) H := by
  simp only [c41_11, g41_8, rr41, e41_1, e41_6, e41_9, kit, Nat.reduceEqDiff, ↓reduceIte, Nat.reduceAdd]
def g41_12 (call : Caller) (n : Nat) (ih3 : SV → SV → SV → SV → SV → SHeap → Res) (t0 t1 t2 t7 t8 t9 t10 t14 : SV) (H : SHeap) : Res :=
  condK t14 (
   pNilCheck t0 fun t34 =>
   pFieldAddr 0 t34 fun t35 =>
   pLoad y32 t35 H fun t36 =>
   pBin .shl (.int .u16 (.ofNat 1)) t7 fun t38 =>
   pBin .andNot t36 t38 fun t39 =>
   pNilCheck t0 fun t40 =>
   pFieldAddr 0 t40 fun t41 =>
   pStore y32 t41 t39 H fun H6 =>
   g41_8 call n ih3 t0 t1 H6) (
   pEql .no t1 t8 fun t45 =>
   condK t45 (
    pNilCheck t0 fun t47 =>
    pFieldAddr 0 t47 fun t48 =>
    pLoad y32 t48 H fun t49 =>
    pBin .shl (.int .u16 (.ofNat 1)) t7 fun t51 =>
    pBin .or t49 t51 fun t52 =>
    pNilCheck t0 fun t53 =>
    pFieldAddr 0 t53 fun t54 =>
    pStore y32 t54 t52 H fun H7 =>
    g41_8 call n ih3 t0 t1 H7) (
    g41_6 call n ih3 t0 t1 t2 t9 t10 H))
theorem e41_12 (call : Caller) (n : Nat) (ih3 : SV → SV → SV → SV → SV → SHeap → Res) (e : Env) (H : SHeap) : runK call n c41_13 e H (fun e H => g41_8 call n ih3 (e.at 0) (e.at 1) H) (fun i e H => if i = 2 then g41_8 call n ih3 (e.at 0) (e.at 1) H else if i = 1 then g41_6 call n ih3 (e.at 0) (e.at 1) (e.at 2) (e.at 9) (e.at 10) H else if i = 0 then g41_1 call n H else none) (resK r41) = g41_12 call n ih3 (e.at 0) (e.at 1) (e.at 2) (e.at 7) (e.at 8) (e.at 9) (e.at 10) (e.at 14) H := by
  simp only [c41_13, g41_12, rr41, e41_1, e41_6, e41_9, e41_8, kit, Nat.reduceEqDiff, ↓reduceIte, Nat.reduceAdd]
def g41_5 (call : Caller) (n : Nat) (ih3 : SV → SV → SV → SV → SV → SHeap → Res) (t0 t1 t2 t9 t10 : SV) (H : SHeap) : Res :=
  bnd (xIdxA 8 1 false t9 t10 H) fun t13 H1 =>
  pEql .no t1 t13 fun t17 =>
  bnd (guardR t17 true (some (t2, H1)) H1) fun t19 H3 =>
  pPick t17 t19 (.bool false) fun t20 =>
  bnd (guardR t20 true (some (t1, H3)) H3) fun t22 H4 =>
  bnd (guardR t20 true (only H4 (sBin .eql .no t22 (.int .i64 (.ofNat 4)))) H4) fun t23 H5 =>
  pPick t20 t23 (.bool false) fun t24 =>
  condK t24 (
   g41_12 call n ih3 t0 t1 t2 t10 t13 t9 t10 t24 H5) (
   pAdd t13 (.int .i64 (.ofNat 20)) fun t27 =>
   pEql .no t1 t27 fun t28 =>
   bnd (guardR t28 true (some (t1, H5)) H5) fun t30 H8 =>
   bnd (guardR t28 true (only H8 (sBin .neq .no t30 (.int .i64 (.ofNat 21)))) H8) fun t31 H9 =>
   pPick t28 t31 (.bool false) fun t32 =>
   g41_12 call n ih3 t0 t1 t2 t10 t13 t9 t10 t32 H9)
theorem e41_5 (call : Caller) (n : Nat) (ih3 : SV → SV → SV → SV → SV → SHeap → Res) (e : Env) (H : SHeap) : runK call n c41_14 e H (fun e H => ih3 (e.at 0) (e.at 1) (e.at 2) (e.at 9) (e.at 10) H) (fun i e H => if i = 0 then g41_1 call n H else none) (resK r41) = g41_5 call n ih3 (e.at 0) (e.at 1) (e.at 2) (e.at 9) (e.at 10) H := by
  simp only [c41_14, g41_5, rr41, e41_1, e41_6, e41_9, e41_8, e41_12, kit, Nat.reduceEqDiff, ↓reduceIte, Nat.reduceAdd]
def g41_4 (call : Caller) (n : Nat) (ih3 : SV → SV → SV → SV → SV → SHeap → Res) (t0 t1 t2 t9 t10 : SV) (H : SHeap) : Res :=
  pLss t10 (.int .i64 (.ofNat 8)) fun t11 =>
  condK t11 (
   g41_5 call n ih3 t0 t1 t2 t9 t10 H) (
   g41_1 call n H)
theorem e41_4 (call : Caller) (n : Nat) (ih3 : SV → SV → SV → SV → SV → SHeap → Res) (e : Env) (H : SHeap) : runK call n c41_15 e H (fun e H => ih3 (e.at 0) (e.at 1) (e.at 2) (e.at 9) (e.at 10) H) (fun i e H => if i = 0 then g41_1 call n H else none) (resK r41) = g41_4 call n ih3 (e.at 0) (e.at 1) (e.at 2) (e.at 9) (e.at 10) H := by
  simp only [c41_15, g41_4, rr41, e41_1, e41_6, e41_9, e41_8, e41_12, e41_5, kit, Nat.reduceEqDiff, ↓reduceIte, Nat.reduceAdd]
def g41_16 (call : Caller) (n : Nat) (m : Nat) : SV → SV → SV → SV → SV → SHeap → Res :=
  Nat.rec (motive := fun _ => SV → SV → SV → SV → SV → SHeap → Res) (fun _ _ _ _ _ _ => none) (fun _ ih3 t0 t1 t2 t9 t10 H => g41_4 call n ih3 t0 t1 t2 t9 t10 H) m
theorem e41_16 (call : Caller) (n : Nat) (m : Nat) (e : Env) (H : SHeap) : iterK (fun k e H => runK call n c41_15 e H k (fun i e H => if i = 0 then g41_1 call n H else none) (resK r41)) m e H = g41_16 call n m (e.at 0) (e.at 1) (e.at 2) (e.at 9) (e.at 10) H := by
  induction m generalizing e H with
  | zero => rfl
  | succ m ihm =>
    show runK call n c41_15 e H (iterK (fun k e H => runK call n c41_15 e H k (fun i e H => if i = 0 then g41_1 call n H else none) (resK r41)) m) (fun i e H => if i = 0 then g41_1 call n H else none) (resK r41) = g41_4 call n (g41_16 call n m) (e.at 0) (e.at 1) (e.at 2) (e.at 9) (e.at 10) H
    rw [show iterK (fun k e H => runK call n c41_15 e H k (fun i e H => if i = 0 then g41_1 call n H else none) (resK r41)) m = (fun e H => g41_16 call n m (e.at 0) (e.at 1) (e.at 2) (e.at 9) (e.at 10) H) from funext fun e => funext fun H => ihm e H]
    exact e41_4 call n (g41_16 call n m) e H
/- jalousie/attr.flag -/
def g41 (call : Caller) (n : Nat) (x0 x1 x2 : SV) (H : SHeap) : Res :=
  pLoad y82 (.ptr 0 0 0) H fun t9 =>
  g41_16 call n n x0 x1 x2 t9 (.int .i64 (.ofNat 0)) H
theorem e41 (call : Caller) (n : Nat) (x0 x1 x2 : SV) (H : SHeap) : runBodyK call n c41 [x0, x1, x2] H = g41 call n x0 x1 x2 H :=
  (bodyK_eq call n H 3 r41 b41 [x0, x1, x2] rfl).trans (by simp only [b41, rr41, g41, e41_1, e41_6, e41_9, e41_8, e41_12, e41_5, e41_4, e41_16, kit, Nat.reduceEqDiff, ↓reduceIte, Nat.reduceAdd])
theorem rr42 (e : Env) (H : SHeap) : resK r42 e H = some (.tup [], H) := by
  simp only [r42, kitR, kit, Nat.reduceEqDiff, ↓reduceIte, Nat.reduceAdd]
/- jalousie/attr.short -/
def g42 (call : Caller) (n : Nat) (x0 x1 : SV) (H : SHeap) : Res :=
  pGeq x1 (.int .i64 (.ofNat 30)) fun t6 =>
  bnd (guardR t6 true (some (x1, H)) H) fun t8 H1 =>
  bnd (guardR t6 true (only H1 (sBin .leq .no t8 (.int .i64 (.ofNat 37)))) H1) fun t9 H2 =>
  pPick t6 t9 (.bool false) fun t10 =>
  condK t10 (
   pSub x1 (.int .i64 (.ofNat 30)) fun t13 =>
   pToInt .u32 t13 fun t14 =>
   bnd (xBuild [(.int .u8 (.ofNat 0)), (.int .u32 (.ofNat 0))] [(0, 1, (.int .u8 (.ofNat 1))), (1, 1, t14)] H2) fun t15 H3 =>
   pNilCheck x0 fun t16 =>
   pStore y35 t16 t15 H3 fun H4 =>
   some (.tup [], H4)) (
   pGeq x1 (.int .i64 (.ofNat 90)) fun t19 =>
   bnd (guardR t19 true (some (x1, H2)) H2) fun t21 H5 =>
   bnd (guardR t19 true (only H5 (sBin .leq .no t21 (.int .i64 (.ofNat 97)))) H5) fun t22 H6 =>
   pPick t19 t22 (.bool false) fun t23 =>
   condK t23 (
    pSub x1 (.int .i64 (.ofNat 82)) fun t26 =>
    pToInt .u32 t26 fun t27 =>
    bnd (xBuild [(.int .u8 (.ofNat 0)), (.int .u32 (.ofNat 0))] [(0, 1, (.int .u8 (.ofNat 1))), (1, 1, t27)] H6) fun t28 H7 =>
    pNilCheck x0 fun t29 =>
    pStore y35 t29 t28 H7 fun H8 =>
    some (.tup [], H8)) (
    pEql .no x1 (.int .i64 (.ofNat 39)) fun t32 =>
    condK t32 (
     bnd (xBuild [(.int .u8 (.ofNat 0)), (.int .u32 (.ofNat 0))] [] H6) fun t34 H9 =>
     pNilCheck x0 fun t35 =>
     pStore y35 t35 t34 H9 fun H10 =>
     some (.tup [], H10)) (
     some (.tup [], H6))))
theorem e42 (call : Caller) (n : Nat) (x0 x1 : SV) (H : SHeap) : runBodyK call n c42 [x0, x1] H = g42 call n x0 x1 H :=
  (bodyK_eq call n H 2 r42 b42 [x0, x1] rfl).trans (by simp only [b42, rr42, g42, kit, Nat.reduceEqDiff, ↓reduceIte, Nat.reduceAdd])
theorem rr43 (e : Env) (H : SHeap) : resK r43 e H = some (.tup [(e.at 4), (e.at 5)], H) := by
  simp only [r43, kitR, kit, Nat.reduceEqDiff, ↓reduceIte, Nat.reduceAdd]
def g43_2 (call : Caller) (n : Nat) (t1 : SV) (H : SHeap) : Res :=
  bnd (call 72 [t1] H) fun t60 H1 =>
  pExtract 0 t60 fun t61 =>
  pExtract 1 t60 fun t62 =>
  some (.tup [t61, t62], H1)
theorem e43_2 (call : Caller) (n : Nat) (e : Env) (H : SHeap) : runK call n c43_3 e H (resK r43) (fun _ _ _ => none) (resK r43) = g43_2 call n (e.at 1) H := by
  simp only [c43_3, g43_2, rr43, kit, Nat.reduceEqDiff, ↓reduceIte, Nat.reduceAdd]
def g43_6 (call : Caller) (n : Nat) (t0 t1 t49 : SV) (H : SHeap) : Res :=
  condK t49 (
   bnd (call 71 [t0, t1] H) fun t56 H7 =>
   pExtract 0 t56 fun t57 =>
   pExtract 1 t56 fun t58 =>
   some (.tup [t57, t58], H7)) (
   g43_2 call n t1 H)
theorem e43_6 (call : Caller) (n : Nat) (e : Env) (H : SHeap) : runK call n c43_7 e H (fun e H => g43_2 call n (e.at 1) H) (fun i e H => if i = 1 then g43_2 call n (e.at 1) H else none) (resK r43) = g43_6 call n (e.at 0) (e.at 1) (e.at 49) H := by
  simp only [c43_7, g43_6, rr43, e43_2, kit, Nat.reduceEqDiff, ↓reduceIte, Nat.reduceAdd]
def g43_5 (call : Caller) (n : Nat) (t0 t1 t12 t40 : SV) (H : SHeap) : Res :=
  condK t40 (
   bnd (call 69 [t1, t0, (.int .i64 (.ofNat 9)), (.int .i64 (.ofNat 8)), (.int .i64 (.ofNat 11)), (.int .i64 (.ofNat 7))] H) fun t46 H6 =>
   pExtract 0 t46 fun t47 =>
   pExtract 1 t46 fun t48 =>
   some (.tup [t47, t48], H6)) (
   pEql .no t12 (.int .i64 (.ofNat 10)) fun t50 =>
   condK t50 (
    g43_6 call n t0 t1 t50 H) (
    pEql .no t12 (.int .i64 (.ofNat 11)) fun t51 =>
    condK t51 (
     g43_6 call n t0 t1 t51 H) (
     pEql .no t12 (.int .i64 (.ofNat 12)) fun t52 =>
     condK t52 (
      g43_6 call n t0 t1 t52 H) (
      pEql .no t12 (.int .i64 (.ofNat 13)) fun t53 =>
      g43_6 call n t0 t1 t53 H))))
theorem e43_5 (call : Caller) (n : Nat) (e : Env) (H : SHeap) : runK call n c43_8 e H (fun e H => g43_2 call n (e.at 1) H) (fun i e H => if i = 1 then g43_2 call n (e.at 1) H else none) (resK r43) = g43_5 call n (e.at 0) (e.at 1) (e.at 12) (e.at 40) H := by
  simp only [c43_8, g43_5, rr43, e43_2, e43_6, kit, Nat.reduceEqDiff, ↓reduceIte, Nat.reduceAdd]
def g43_4 (call : Caller) (n : Nat) (t0 t1 t12 t25 : SV) (H : SHeap) : Res :=
  condK t25 (
   bnd (call 69 [t1, t0, (.int .i64 (.ofNat 5)), (.int .i64 (.ofNat 4)), (.int .i64 (.ofNat 6)), (.int .i64 (.ofNat 6))] H) fun t31 H4 =>
   pExtract 0 t31 fun t32 =>
   pExtract 1 t31 fun t33 =>
   some (.tup [t32, t33], H4)) (
   pEql .no t12 (.int .i64 (.ofNat 6)) fun t35 =>
   condK t35 (
    bnd (call 70 [t1] H) fun t37 H5 =>
    pExtract 0 t37 fun t38 =>
    pExtract 1 t37 fun t39 =>
    some (.tup [t38, t39], H5)) (
    pEql .no t12 (.int .i64 (.ofNat 7)) fun t41 =>
    condK t41 (
     g43_5 call n t0 t1 t12 t41 H) (
     pEql .no t12 (.int .i64 (.ofNat 8)) fun t42 =>
     condK t42 (
      g43_5 call n t0 t1 t12 t42 H) (
      pEql .no t12 (.int .i64 (.ofNat 9)) fun t43 =>
      g43_5 call n t0 t1 t12 t43 H))))
theorem e43_4 (call : Caller) (n : Nat) (e : Env) (H : SHeap) : runK call n c43_9 e H (fun e H => g43_2 call n (e.at 1) H) (fun i e H => if i = 1 then g43_2 call n (e.at 1) H else none) (resK r43) = g43_4 call n (e.at 0) (e.at 1) (e.at 12) (e.at 25) H := by
  simp only [c43_9, g43_4, rr43, e43_2, e43_6, e43_5, kit, Nat.reduceEqDiff, ↓reduceIte, Nat.reduceAdd]
def g43_1 (call : Caller) (n : Nat) (t0 t1 : SV) (H : SHeap) : Res :=
  pEql .no t0 (.int .i64 (.ofNat 1)) fun t14 =>
  condK t14 (
   bnd (call 67 [t1] H) fun t16 H2 =>
   pExtract 0 t16 fun t17 =>
   pExtract 1 t16 fun t18 =>
   some (.tup [t17, t18], H2)) (
   pEql .no t0 (.int .i64 (.ofNat 2)) fun t20 =>
   condK t20 (
    bnd (call 68 [t1] H) fun t22 H3 =>
    pExtract 0 t22 fun t23 =>
    pExtract 1 t22 fun t24 =>
    some (.tup [t23, t24], H3)) (
    pEql .no t0 (.int .i64 (.ofNat 3)) fun t26 =>
    condK t26 (
     g43_4 call n t0 t1 t0 t26 H) (
     pEql .no t0 (.int .i64 (.ofNat 4)) fun t27 =>
     condK t27 (
      g43_4 call n t0 t1 t0 t27 H) (
      pEql .no t0 (.int .i64 (.ofNat 5)) fun t28 =>
      g43_4 call n t0 t1 t0 t28 H))))
theorem e43_1 (call : Caller) (n : Nat) (e : Env) (H : SHeap) : runK call n c43_10 e H (resK r43) (fun _ _ _ => none) (resK r43) = g43_1 call n (e.at 0) (e.at 1) H := by
  simp only [c43_10, g43_1, rr43, e43_2, e43_6, e43_5, e43_4, kit, Nat.reduceEqDiff, ↓reduceIte, Nat.reduceAdd]
def g43_11 (call : Caller) (n : Nat) (t0 t1 t6 t7 : SV) (H : SHeap) : Res :=
  condK t7 (
   some (.tup [(.int .i64 (.ofNat 2)), (.int .i64 (.ofNat 0))], H)) (
   pEql .no t6 (.int .u8 (.ofNat 27)) fun t11 =>
   condK t11 (
    some (.tup [(.int .i64 (.ofNat 0)), (.int .i64 (.ofNat 1))], H)) (
    g43_1 call n t0 t1 H))
theorem e43_11 (call : Caller) (n : Nat) (e : Env) (H : SHeap) : runK call n c43_12 e H (fun e H => g43_1 call n (e.at 0) (e.at 1) H) (fun i e H => if i = 0 then g43_1 call n (e.at 0) (e.at 1) H else none) (resK r43) = g43_11 call n (e.at 0) (e.at 1) (e.at 6) (e.at 7) H := by
  simp only [c43_12, g43_11, rr43, e43_2, e43_6, e43_5, e43_4, e43_1, kit, Nat.reduceEqDiff, ↓reduceIte, Nat.reduceAdd]
/- jalousie/states.Next -/
def g43 (call : Caller) (n : Nat) (x0 x1 : SV) (H : SHeap) : Res :=
  pEql .no x1 (.int .u8 (.ofNat 24)) fun t8 =>
  condK t8 (
   g43_11 call n x0 x1 x1 t8 H) (
   pEql .no x1 (.int .u8 (.ofNat 26)) fun t9 =>
   g43_11 call n x0 x1 x1 t9 H)
theorem e43 (call : Caller) (n : Nat) (x0 x1 : SV) (H : SHeap) : runBodyK call n c43 [x0, x1] H = g43 call n x0 x1 H :=
  (bodyK_eq call n H 2 r43 b43 [x0, x1] rfl).trans (by simp only [b43, rr43, g43, e43_2, e43_6, e43_5, e43_4, e43_1, e43_11, kit, Nat.reduceEqDiff, ↓reduceIte, Nat.reduceAdd])
 end
end Go.Proofs.YtjoffbhfcajcgaaDoor.Code
