/- Each function's reduced code is what the model's code gives. -/
import Derived.Test.YtjoffbhfcajcgaaDoorKT
import Derived.Test.YtjoffbhfcajcgaaDoorSim23
import Derived.Test.YtjoffbhfcajcgaaDoorProg
import Derived.KernelRfl
set_option maxRecDepth 100000
set_option linter.unusedVariables false
set_option linter.unusedSimpArgs false
namespace Go.Proofs.YtjoffbhfcajcgaaDoor.Code
open Go Go.Sim Go.Proofs.YtjoffbhfcajcgaaDoor
theorem t3 : compFunc Tryd.prog Tryd.f3 = some c3 := by kernel_rfl
theorem t8 : compFunc Tryd.prog Tryd.f8 = some c8 := by kernel_rfl
theorem t9 : compFunc Tryd.prog Tryd.f9 = some c9 := by kernel_rfl
theorem t10 : compFunc Tryd.prog Tryd.f10 = some c10 := by kernel_rfl
theorem t11 : compFunc Tryd.prog Tryd.f11 = some c11 := by kernel_rfl
theorem t16 : compFunc Tryd.prog Tryd.f16 = some c16 := by kernel_rfl
theorem t20 : compFunc Tryd.prog Tryd.f20 = some c20 := by kernel_rfl
theorem t26 : compFunc Tryd.prog Tryd.f26 = some c26 := by kernel_rfl
theorem t27 : compFunc Tryd.prog Tryd.f27 = some c27 := by kernel_rfl
theorem t28 : compFunc Tryd.prog Tryd.f28 = some c28 := by kernel_rfl
theorem t29 : compFunc Tryd.prog Tryd.f29 = some c29 := by kernel_rfl
theorem t30 : compFunc Tryd.prog Tryd.f30 = some c30 := by kernel_rfl
theorem t34 : compFunc Tryd.prog Tryd.f34 = some c34 := by kernel_rfl
theorem t35 : compFunc Tryd.prog Tryd.f35 = some c35 := by kernel_rfl
theorem t39 : compFunc Tryd.prog Tryd.f39 = some c39 := by kernel_rfl
theorem t40 : compFunc Tryd.prog Tryd.f40 = some c40 := by kernel_rfl
theorem t41 : compFunc Tryd.prog Tryd.f41 = some c41 := by kernel_rfl
theorem t42 : compFunc Tryd.prog Tryd.f42 = some c42 := by kernel_rfl
theorem t43 : compFunc Tryd.prog Tryd.f43 = some c43 := by kernel_rfl
theorem t44 : compFunc Tryd.prog Tryd.f44 = some c44 := by kernel_rfl
theorem t45 : compFunc Tryd.prog Tryd.f45 = some c45 := by kernel_rfl
theorem t46 : compFunc Tryd.prog Tryd.f46 = some c46 := by kernel_rfl
theorem t47 : compFunc Tryd.prog Tryd.f47 = some c47 := by kernel_rfl
theorem t48 : compFunc Tryd.prog Tryd.f48 = some c48 := by kernel_rfl
theorem t49 : compFunc Tryd.prog Tryd.f49 = some c49 := by kernel_rfl
theorem t50 : compFunc Tryd.prog Tryd.f50 = some c50 := by kernel_rfl
theorem t51 : compFunc Tryd.prog Tryd.f51 = some c51 := by kernel_rfl
theorem t62 : compFunc Tryd.prog Tryd.f62 = some c62 := by kernel_rfl
theorem t63 : compFunc Tryd.prog Tryd.f63 = some c63 := by kernel_rfl
theorem t66 : compFunc Tryd.prog Tryd.f66 = some c66 := by kernel_rfl
theorem t67 : compFunc Tryd.prog Tryd.f67 = some c67 := by kernel_rfl
theorem t68 : compFunc Tryd.prog Tryd.f68 = some c68 := by kernel_rfl
theorem t69 : compFunc Tryd.prog Tryd.f69 = some c69 := by kernel_rfl
theorem t70 : compFunc Tryd.prog Tryd.f70 = some c70 := by kernel_rfl
theorem t71 : compFunc Tryd.prog Tryd.f71 = some c71 := by kernel_rfl
theorem t72 : compFunc Tryd.prog Tryd.f72 = some c72 := by kernel_rfl
theorem t73 : compFunc Tryd.prog Tryd.f73 = some c73 := by kernel_rfl
theorem t74 : compFunc Tryd.prog Tryd.f74 = some c74 := by kernel_rfl
theorem t75 : compFunc Tryd.prog Tryd.f75 = some c75 := by kernel_rfl
theorem t76 : compFunc Tryd.prog Tryd.f76 = some c76 := by kernel_rfl
theorem t77 : compFunc Tryd.prog Tryd.f77 = some c77 := by kernel_rfl
theorem t78 : compFunc Tryd.prog Tryd.f78 = some c78 := by kernel_rfl
theorem t79 : compFunc Tryd.prog Tryd.f79 = some c79 := by kernel_rfl
theorem t80 : compFunc Tryd.prog Tryd.f80 = some c80 := by kernel_rfl
theorem t81 : compFunc Tryd.prog Tryd.f81 = some c81 := by kernel_rfl
theorem t82 : compFunc Tryd.prog Tryd.f82 = some c82 := by kernel_rfl
theorem t83 : compFunc Tryd.prog Tryd.f83 = some c83 := by kernel_rfl
theorem t91 : compFunc Tryd.prog Tryd.f91 = some c91 := by kernel_rfl
theorem t96 : compFunc Tryd.prog Tryd.f96 = some c96 := by kernel_rfl
theorem t97 : compFunc Tryd.prog Tryd.f97 = some c97 := by kernel_rfl
theorem t98 : compFunc Tryd.prog Tryd.f98 = some c98 := by kernel_rfl
theorem t99 : compFunc Tryd.prog Tryd.f99 = some c99 := by kernel_rfl
theorem t100 : compFunc Tryd.prog Tryd.f100 = some c100 := by kernel_rfl
theorem t101 : compFunc Tryd.prog Tryd.f101 = some c101 := by kernel_rfl
theorem t104 : compFunc Tryd.prog Tryd.f104 = some c104 := by kernel_rfl
theorem t111 : compFunc Tryd.prog Tryd.f111 = some c111 := by kernel_rfl
def lF : List (Nat × SFunc) := [(3, c3), (8, c8), (9, c9), (10, c10), (11, c11), (16, c16), (20, c20), (26, c26), (27, c27), (28, c28), (29, c29), (30, c30), (34, c34), (35, c35), (39, c39), (40, c40), (41, c41), (42, c42), (43, c43), (44, c44), (45, c45), (46, c46), (47, c47), (48, c48), (49, c49), (50, c50), (51, c51), (62, c62), (63, c63), (66, c66), (67, c67), (68, c68), (69, c69), (70, c70), (71, c71), (72, c72), (73, c73), (74, c74), (75, c75), (76, c76), (77, c77), (78, c78), (79, c79), (80, c80), (81, c81), (82, c82), (83, c83), (91, c91), (96, c96), (97, c97), (98, c98), (99, c99), (100, c100), (101, c101), (104, c104), (111, c111)]
theorem lF_ok : AllOk Tryd.prog lF := .cons Tryd.func3 t3 (.cons Tryd.func8 t8 (.cons Tryd.func9 t9 (.cons Tryd.func10 t10 (.cons Tryd.func11 t11 (.cons Tryd.func16 t16 (.cons Tryd.func20 t20 (.cons Tryd.func26 t26 (.cons Tryd.func27 t27 (.cons Tryd.func28 t28 (.cons Tryd.func29 t29 (.cons Tryd.func30 t30 (.cons Tryd.func34 t34 (.cons Tryd.func35 t35 (.cons Tryd.func39 t39 (.cons Tryd.func40 t40 (.cons Tryd.func41 t41 (.cons Tryd.func42 t42 (.cons Tryd.func43 t43 (.cons Tryd.func44 t44 (.cons Tryd.func45 t45 (.cons Tryd.func46 t46 (.cons Tryd.func47 t47 (.cons Tryd.func48 t48 (.cons Tryd.func49 t49 (.cons Tryd.func50 t50 (.cons Tryd.func51 t51 (.cons Tryd.func62 t62 (.cons Tryd.func63 t63 (.cons Tryd.func66 t66 (.cons Tryd.func67 t67 (.cons Tryd.func68 t68 (.cons Tryd.func69 t69 (.cons Tryd.func70 t70 (.cons Tryd.func71 t71 (.cons Tryd.func72 t72 (.cons Tryd.func73 t73 (.cons Tryd.func74 t74 (.cons Tryd.func75 t75 (.cons Tryd.func76 t76 (.cons Tryd.func77 t77 (.cons Tryd.func78 t78 (.cons Tryd.func79 t79 (.cons Tryd.func80 t80 (.cons Tryd.func81 t81 (.cons Tryd.func82 t82 (.cons Tryd.func83 t83 (.cons Tryd.func91 t91 (.cons Tryd.func96 t96 (.cons Tryd.func97 t97 (.cons Tryd.func98 t98 (.cons Tryd.func99 t99 (.cons Tryd.func100 t100 (.cons Tryd.func101 t101 (.cons Tryd.func104 t104 (.cons Tryd.func111 t111 (.nil))))))))))))))))))))))))))))))))))))))))))))))))))))))))
theorem TF_eq : treeOf lF = TF := by kernel_rfl
theorem tableOk : TableOk Tryd.prog F := tableOk_of (by kernel_rfl) lF_ok (by rw [TF_eq]; rfl) (fun f p h => by cases h)
end Go.Proofs.YtjoffbhfcajcgaaDoor.Code
