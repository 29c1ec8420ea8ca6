/- A function that is called on no more than read-only variables, and answers with plain data: its call leaves memory as it was. -/
import Derived.Test.YtjoffbhfcajcgaaDoorGc
set_option linter.unusedVariables false
set_option linter.unusedSimpArgs false
namespace Go.Sim
open Go.RowKit
variable {P : Program}
mutual
theorem VR_plain {ρ ρ' : Ren} : ∀ (x : SV) {v : Value}, SV.und 0 x → VR ρ x v → VR ρ' x v
  | .ptr _ _ _, _, hx, _ => by simp only [SV.und] at hx; omega
  | .slice _ _ _ _, _, hx, _ => by simp only [SV.und] at hx; omega
  | .mp _, _, hx, _ => by simp only [SV.und] at hx; omega
  | .agg l, _, hx, h => by
    simp only [SV.und, VR] at hx h ⊢
    obtain ⟨vs, rfl, h⟩ := h
    exact ⟨vs, rfl, VRs_plain0 l hx h⟩
  | .tup l, _, hx, h => by
    simp only [SV.und, VR] at hx h ⊢
    obtain ⟨vs, rfl, h⟩ := h
    exact ⟨vs, rfl, VRs_plain0 l hx h⟩
  | .fn _ a b, _, hx, h => by
    simp only [SV.und, VR] at hx h ⊢
    obtain ⟨xs, ys, rfl, h1, h2⟩ := h
    exact ⟨xs, ys, rfl, VRs_plain0 a hx.1 h1, VRs_plain0 b hx.2 h2⟩
  | .iface _ y, _, hx, h => by
    simp only [SV.und, VR] at hx h ⊢
    obtain ⟨z, rfl, h⟩ := h
    exact ⟨z, rfl, VR_plain y hx h⟩
  | .bool _, _, _, h => by simpa only [VR] using h
  | .int _ _, _, _, h => by simpa only [VR] using h
  | .str _, _, _, h => by simpa only [VR] using h
  | .nilp, _, _, h => by simpa only [VR] using h
  | .nils, _, _, h => by simpa only [VR] using h
  | .nilf, _, _, h => by simpa only [VR] using h
  | .nili, _, _, h => by simpa only [VR] using h
  | .nilm, _, _, h => by simpa only [VR] using h
theorem VRs_plain0 {ρ ρ' : Ren} : ∀ (l : List SV) {vs : List Value}, SV.unds 0 l → VRs ρ l vs → VRs ρ' l vs
  | [], _, _, h => by simpa only [VRs] using h
  | x :: l, _, hx, h => by
    simp only [SV.unds, VRs] at hx h ⊢
    obtain ⟨y, ys, rfl, h1, h2⟩ := h
    exact ⟨y, ys, rfl, VR_plain x hx.1 h1, VRs_plain0 l hx.2 h2⟩
 end
/- the same renaming, of the first variables alone -/
def renCut (ρ : Ren) (n : Nat) : Ren := fun b => if b < n then ρ b else none
theorem ObjR_cut {ρ : Ren} {n b : Nat} {w : World} (hb : b < n) (o : SObj) (hu : o.und n) (h : ObjR ρ b w o) : ObjR (renCut ρ n) b w o := by
  have hid : ∀ b, b < n → (fun b : Nat => b) b = b := fun _ _ => rfl
  have := ObjR_ren (ρ := ρ) (σ := fun b => b) (n := n) (b := b) (w := w) hb o hu (by rw [SObj.ren_id hid o hu]; exact h)
  exact this
/- what stood in memory stands in it still, as long as nothing below was turned -/
theorem ObjR_stay {ρ : Ren} {b : Nat} {w w' : World} (hs : ∀ m, ρ b = some m → w'.heap[m.blk]? = w.heap[m.blk]?) (o : SObj) (h : ObjR ρ b w o) : ObjR ρ b w' o := by
  cases o with
  | dead => trivial
  | cells ro e t l =>
    obtain ⟨h0, he, m, c, el, fr, h1, h2, h3, h4⟩ := h
    exact ⟨h0, he, m, c, el, fr, h1, h2, by rw [hs m h1]; exact h3, h4⟩
  | map ro es =>
    obtain ⟨m, es', clock, h1, h2, h3⟩ := h
    exact ⟨m, es', clock, h1, by rw [hs m h1]; exact h2, h3⟩
  | iter l p =>
    obtain ⟨m, s, h1, h2, h3, h4⟩ := h
    exact ⟨m, s, h1, h2, by rw [hs m h1]; exact h3, h4⟩
/- H0: no more than variables that nobody writes -/
structure Ground (G : Nat) (H0 : SHeap) : Prop where
  next : H0.next = G
  ro : ∀ b o, H0.get b = some o → o.writable = false
  und : ∀ b o, H0.get b = some o → o.und G
theorem rel_ground {ρ : Ren} {H H0 : SHeap} {w : World} {G : Nat} (hr : Rel G ρ H w) (hg : Ground G H0) (hs : ∀ b o, H0.get b = some o → H.get b = some o) : Rel G (renCut ρ G) H0 w := by
  refine ⟨?_, ?_, ?_, ?_⟩
  · intro b o ho
    exact ObjR_cut (by have := SHeap.lt_of_get ho; rw [hg.next] at this; exact this) o (hg.und b o ho) (hr.obj b o (hs b o ho))
  · intro b1 b2 o1 o2 m1 m2 e1 e2 l1 l2 r1 r2 hm
    have h1 := SHeap.lt_of_get e1
    have h2 := SHeap.lt_of_get e2
    rw [hg.next] at h1 h2
    simp only [renCut, h1, h2, if_true] at r1 r2
    exact hr.inj _ _ _ _ _ _ (hs _ _ e1) (hs _ _ e2) l1 l2 r1 r2 hm
  · intro b m hm
    unfold renCut at hm
    split at hm
    · rename_i hb; exact ⟨by rw [hg.next]; exact hb, (hr.dom b m hm).2⟩
    · cases hm
  · intro b hb
    obtain ⟨m, h1, h2⟩ := hr.glob b hb
    exact ⟨m, by simp only [renCut, hb, if_true]; exact h1, h2⟩
/- a function's call on ground, wherever it is called -/
theorem libOk_ground {F : Table} (hF : TableOk P F) {f n : Nat} {H0 H1 : SHeap} {ys : List SV} {x : SV} (hg : Ground P.globals.size H0) (hrun : runCall F n f ys H0 = some (x, H1)) (hx : SV.und 0 x) (hy : SV.unds 0 ys) {p : List SV → SHeap → Res}
    (hp : ∀ xs H y H', p xs H = some (y, H') → xs = ys ∧ y = x ∧ H' = H ∧ ∀ b o, H0.get b = some o → H.get b = some o) : LibOk P f p := by
  intro xs H y H' h
  obtain ⟨rfl, rfl, rfl, hs⟩ := hp xs H y H' h
  refine ⟨(calls_ok hF n f _ H0 _ _ hrun).1, fun ρ w vs hr hvs => ?_⟩
  have hr0 := rel_ground hr hg hs
  refine Calls.mono ((calls_ok hF n f _ H0 _ _ hrun).2 _ w vs hr0 (VRs_plain0 _ hy hvs)) ?_
  rintro e w' ⟨v, ρ', rfl, h1, h2, h3⟩
  have hb := h3.below hg.ro
  have hstay : ∀ b m, ρ b = some m → w'.heap[m.blk]? = w.heap[m.blk]? := fun b m hm => hb.block _ (hr.dom b m hm).2
  refine ⟨v, ρ, rfl, VR_plain _ hx h1, ⟨?_, hr.inj, ?_, hr.glob⟩, ⟨Ren.le_refl ρ, hb.os, hb.tape, hb.output, hb.size, fun B hB _ => hb.block B hB, fun b o m ho hw hm => .inr ⟨b, o, m, ho, hw, hm, rfl⟩⟩⟩
  · intro b o ho
    exact ObjR_stay (hstay b) o (hr.obj b o ho)
  · intro b m hm
    have := hr.dom b m hm
    exact ⟨this.1, Nat.lt_of_lt_of_le this.2 hb.size⟩
/- tables with functions that have a contract -/
inductive GLib (F : Table) : List (Nat × GFun) → Prop
  | nil : GLib F []
  | fn {f : Nat} {sf : SFunc} {g : GFun} {l : List (Nat × GFun)} (h1 : F.fn f = some sf) (h2 : F.lib f = none) (h3 : GOk sf g) (h : GLib F l) : GLib F ((f, g) :: l)
  | lib {f : Nat} {p : List SV → SHeap → Res} {l : List (Nat × GFun)} (h1 : F.lib f = some p) (h : GLib F l) : GLib F ((f, fun _ _ => p) :: l)
theorem GLib.get {F : Table} {l : List (Nat × GFun)} (h : GLib F l) : ∀ q ∈ l, (∃ fn, F.fn q.1 = some fn ∧ F.lib q.1 = none ∧ GOk fn q.2) ∨ ∃ p, F.lib q.1 = some p ∧ q.2 = fun _ _ => p := by
  induction h with
  | nil => intro q hq; cases hq
  | fn h1 h2 h3 h ih =>
    intro q hq
    cases hq with
    | head => exact .inl ⟨_, h1, h2, h3⟩
    | tail _ hq => exact ih q hq
  | lib h1 h ih =>
    intro q hq
    cases hq with
    | head => exact .inr ⟨_, h1, rfl⟩
    | tail _ hq => exact ih q hq
theorem runG_lib {F : Table} {l : List (Nat × GFun)} {T : Tr GFun} (h : GLib F l) (hT : treeG l = T) (n : Nat) : ∀ d, CLe (runG T n d) (callC F)
  | 0, f, xs, H, r, e => by cases e
  | d + 1, f, xs, H, r, e => by
    have e' : stepG (T.get f) (runG T n d) n xs H = some r := e
    cases hg : T.get f with
    | none => rw [hg] at e'; cases e'
    | some g =>
      rw [hg] at e'
      rw [← hT] at hg
      rcases treeG_get l .lf f g hg with hm | hm
      · rcases h.get _ hm with ⟨fn, h1, h2, h3⟩ | ⟨p, h1, h2⟩
        · exact callC_body h2 h1 (runBodyK_mono (runG_lib h hT n d) (h3 _ _ _ _ _ e'))
        · simp only at h2
          subst h2
          exact callC_lib h1 e'
      · cases hm
/- is it the same list of values? -/
mutual
theorem SV.beq_eq : ∀ (x y : SV), SV.beq x y = true → x = y
  | .bool a, y, h => by cases y <;> simp_all [SV.beq]
  | .int k n, y, h => by cases y <;> simp_all [SV.beq]
  | .str l, y, h => by cases y <;> simp_all [SV.beq]
  | .nilp, y, h => by cases y <;> simp_all [SV.beq]
  | .ptr a b c, y, h => by cases y <;> simp_all [SV.beq]
  | .nils, y, h => by cases y <;> simp_all [SV.beq]
  | .slice a b c d, y, h => by cases y <;> simp_all [SV.beq]
  | .agg l, y, h => by
    cases y <;> simp only [SV.beq] at h <;> first | (cases h; done) | skip
    rw [SV.beqs_eq l _ h]
  | .tup l, y, h => by
    cases y <;> simp only [SV.beq] at h <;> first | (cases h; done) | skip
    rw [SV.beqs_eq l _ h]
  | .fn f a b, y, h => by
    cases y <;> simp only [SV.beq, Bool.and_eq_true, beq_iff_eq] at h <;> first | (cases h; done) | skip
    rw [h.1.1, SV.beqs_eq a _ h.1.2, SV.beqs_eq b _ h.2]
  | .nilf, y, h => by cases y <;> simp_all [SV.beq]
  | .iface t v, y, h => by
    cases y <;> simp only [SV.beq, Bool.and_eq_true, beq_iff_eq] at h <;> first | (cases h; done) | skip
    rw [h.1, SV.beq_eq v _ h.2]
  | .nili, y, h => by cases y <;> simp_all [SV.beq]
  | .mp a, y, h => by cases y <;> simp_all [SV.beq]
  | .nilm, y, h => by cases y <;> simp_all [SV.beq]
theorem SV.beqs_eq : ∀ (l m : List SV), SV.beqs l m = true → l = m
  | [], m, h => by cases m <;> simp_all [SV.beqs]
  | x :: l, m, h => by
    cases m with
    | nil => simp [SV.beqs] at h
    | cons y m =>
      simp only [SV.beqs, Bool.and_eq_true] at h
      rw [SV.beq_eq x y h.1, SV.beqs_eq l m h.2]
 end
/- does memory hold this list there, as nobody writes it? -/
noncomputable def roAt (H : SHeap) (b esz el : Nat) (l : List SV) : Bool :=
  match H.get b with
  | some (.cells true e t m) => Nat.beq e esz && Nat.beq t el && SV.beqs m l
  | _ => false
theorem roAt_eq {H : SHeap} {b esz el : Nat} {l : List SV} (h : roAt H b esz el l = true) : H.get b = some (.cells true esz el l) := by
  unfold roAt at h
  split at h
  · rename_i e t m hb
    simp only [Bool.and_eq_true, beq_iff, decide_eq_true_eq] at h
    rw [hb, h.1.1, h.1.2, SV.beqs_eq m l h.2]
  · cases h
end Go.Sim
