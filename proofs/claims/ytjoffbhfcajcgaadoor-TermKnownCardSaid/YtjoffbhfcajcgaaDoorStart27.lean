/- The start of this seat's rows: the two listed variables; the chapter's own wake. -/
import Derived.Test.YtjoffbhfcajcgaaDoorKTab
import Derived.Test.YtjoffbhfcajcgaaDoorSim25
import Derived.Test.YtjoffbhfcajcgaaDoorRows
import Derived.KernelRfl
set_option maxRecDepth 100000
set_option linter.unusedSimpArgs false
namespace Go.Proofs.YtjoffbhfcajcgaaDoor.Code
open Go Go.Sim Go.Proofs.YtjoffbhfcajcgaaDoor
def bounds : List SV := [.agg [.int .i32 (.ofNat 0), .int .i32 (.ofNat 31)], .agg [.int .i32 (.ofNat 127), .int .i32 (.ofNat 159)], .agg [.int .i32 (.ofNat 768), .int .i32 (.ofNat 879)], .agg [.int .i32 (.ofNat 1155), .int .i32 (.ofNat 1161)], .agg [.int .i32 (.ofNat 1425), .int .i32 (.ofNat 1469)], .agg [.int .i32 (.ofNat 1552), .int .i32 (.ofNat 1562)], .agg [.int .i32 (.ofNat 1611), .int .i32 (.ofNat 1631)], .agg [.int .i32 (.ofNat 4352), .int .i32 (.ofNat 4447)], .agg [.int .i32 (.ofNat 8203), .int .i32 (.ofNat 8207)], .agg [.int .i32 (.ofNat 8400), .int .i32 (.ofNat 8447)], .agg [.int .i32 (.ofNat 11904), .int .i32 (.ofNat 12350)], .agg [.int .i32 (.ofNat 12353), .int .i32 (.ofNat 13311)], .agg [.int .i32 (.ofNat 13312), .int .i32 (.ofNat 19903)], .agg [.int .i32 (.ofNat 19968), .int .i32 (.ofNat 40959)], .agg [.int .i32 (.ofNat 40960), .int .i32 (.ofNat 42191)], .agg [.int .i32 (.ofNat 44032), .int .i32 (.ofNat 55203)], .agg [.int .i32 (.ofNat 63744), .int .i32 (.ofNat 64255)], .agg [.int .i32 (.ofNat 65024), .int .i32 (.ofNat 65039)], .agg [.int .i32 (.ofNat 65056), .int .i32 (.ofNat 65071)], .agg [.int .i32 (.ofNat 65072), .int .i32 (.ofNat 65135)], .agg [.int .i32 (.ofNat 65280), .int .i32 (.ofNat 65376)], .agg [.int .i32 (.ofNat 65504), .int .i32 (.ofNat 65510)], .agg [.int .i32 (.ofNat 127744), .int .i32 (.ofNat 128591)], .agg [.int .i32 (.ofNat 129280), .int .i32 (.ofNat 129535)], .agg [.int .i32 (.ofNat 131072), .int .i32 (.ofNat 262141)], .agg [.int .i32 (.ofNat 917760), .int .i32 (.ofNat 917999)]]
def flags : List SV := [.int .i64 (.ofNat 1), .int .i64 (.ofNat 2), .int .i64 (.ofNat 3), .int .i64 (.ofNat 4), .int .i64 (.ofNat 5), .int .i64 (.ofNat 7), .int .i64 (.ofNat 8), .int .i64 (.ofNat 9)]
noncomputable def H0 : SHeap := { tr := (.nd (.nd .lf (some (.cells true 2 0 bounds)) .lf) (some (.cells true 1 0 flags)) .lf), next := 6 }
def yes : Option (SV × SHeap) → Bool
  | some (.bool true, _) => true
  | _ => false
def es : Nat → Nat
  | 0 => 1
  | _ => 2
theorem g_bounds : Tryd.prog.globalNamed "jalousie/width.bounds" = some 1 := by kernel_rfl
theorem g_flags : Tryd.prog.globalNamed "jalousie/attr.flags" = some 0 := by kernel_rfl
theorem ty_bounds : (Tryd.prog.globals[1]?).map (·.type) = some (((Tryd.prog.globals[1]?).map (·.type)).getD 0) := by kernel_rfl
theorem ty_flags : (Tryd.prog.globals[0]?).map (·.type) = some (((Tryd.prog.globals[0]?).map (·.type)).getD 0) := by kernel_rfl
theorem flat_bounds : flatTy Tryd.prog 4 (((Tryd.prog.globals[1]?).map (·.type)).getD 0) = true := by kernel_rfl
theorem flat_flags : flatTy Tryd.prog 4 (((Tryd.prog.globals[0]?).map (·.type)).getD 0) = true := by kernel_rfl
theorem vals_bounds : dvals (K := Unit) Rows.laid_jalousie_width_bounds = (bounds.flatMap SV.cells).map pv := by kernel_rfl
theorem vals_flags : dvals (K := Unit) Rows.laid_jalousie_attr_flags = (flags.flatMap SV.cells).map pv := by kernel_rfl
theorem plain_bounds : (bounds.flatMap SV.cells).all isPlain = true := by kernel_rfl
theorem plain_flags : (flags.flatMap SV.cells).all isPlain = true := by kernel_rfl
theorem even_bounds : evenB 2 bounds = true := by kernel_rfl
theorem even_flags : evenB 1 flags = true := by kernel_rfl
theorem globals_size : Tryd.prog.globals.size = 6 := by kernel_rfl
theorem last_zero : ((((begin Tryd.prog (fun _ _ => 0) default).world).heap[5]?).bind Obj.row?).isSome = true := by kernel_rfl
theorem H0_get (b : Nat) (o : SObj) (h : H0.get b = some o) : (b = 0 ∧ o = .cells true 1 0 flags) ∨ (b = 1 ∧ o = .cells true 2 0 bounds) := by
  have hb : b < 6 := SHeap.lt_of_get h
  have h0 : H0.get 0 = some (.cells true 1 0 flags) := by kernel_rfl
  have h1 : H0.get 1 = some (.cells true 2 0 bounds) := by kernel_rfl
  have h2 : H0.get 2 = none := by kernel_rfl
  have h3 : H0.get 3 = none := by kernel_rfl
  have h4 : H0.get 4 = none := by kernel_rfl
  have h5 : H0.get 5 = none := by kernel_rfl
  rcases b with _ | _ | _ | _ | _ | _ | b
  · rw [h0] at h; cases h; exact .inl ⟨rfl, rfl⟩
  · rw [h1] at h; cases h; exact .inr ⟨rfl, rfl⟩
  · rw [h2] at h; cases h
  · rw [h3] at h; cases h
  · rw [h4] at h; cases h
  · rw [h5] at h; cases h
  · omega
def laid2 : List (String × DataW Unit) := [("jalousie/width.bounds", Rows.laid_jalousie_width_bounds), ("jalousie/attr.flags", Rows.laid_jalousie_attr_flags)]
theorem start {W : World} (hL : laidMet Tryd.prog laid2 W) (hS : W.ShapedOpen Tryd.prog) : Rel Tryd.prog.globals.size (startRen Tryd.prog.globals.size W es) H0 W := by
  refine rel_start (Nat.succ_le_of_lt (shaped_size hS (g := 5) (by rw [globals_size]; decide) last_zero)) (by rw [globals_size]; rfl) ?_
  intro b o h
  rcases H0_get b o h with ⟨rfl, rfl⟩ | ⟨rfl, rfl⟩
  · refine ⟨_, _, rfl, by decide, even_flags, plain_flags, ?_⟩
    obtain ⟨c, e, h1, h2⟩ := laid_row hL (n := "jalousie/attr.flags") (d := Rows.laid_jalousie_attr_flags) (by simp [laid2]) g_flags ty_flags flat_flags (by rw [vals_flags]; simp [flags, SV.cells])
    exact ⟨c, e, h1, by rw [h2, vals_flags]⟩
  · refine ⟨_, _, rfl, by decide, even_bounds, plain_bounds, ?_⟩
    obtain ⟨c, e, h1, h2⟩ := laid_row hL (n := "jalousie/width.bounds") (d := Rows.laid_jalousie_width_bounds) (by simp [laid2]) g_bounds ty_bounds flat_bounds (by rw [vals_bounds]; simp [bounds, SV.cells])
    exact ⟨c, e, h1, by rw [h2, vals_bounds]⟩
theorem H0_ro (b : Nat) (o : SObj) (h : H0.get b = some o) : o.writable = false := by
  rcases H0_get b o h with ⟨_, rfl⟩ | ⟨_, rfl⟩ <;> rfl
end Go.Proofs.YtjoffbhfcajcgaaDoor.Code
