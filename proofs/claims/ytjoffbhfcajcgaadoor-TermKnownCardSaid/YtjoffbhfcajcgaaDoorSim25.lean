/- The start: the listed variables as read-only rows; the row's wrap with the world's shape. -/
import Derived.Test.YtjoffbhfcajcgaaDoorSim24
set_option linter.unusedVariables false
set_option linter.unusedSimpArgs false
namespace Go.Sim
open Go.RowKit
variable {P : Program} {ρ : Ren}
def pv : SV → Value
  | .int k n => .int k n
  | .bool b => .bool b
  | _ => undef
def isPlain : SV → Bool
  | .int _ _ | .bool _ => true
  | _ => false
theorem VRs_plain : ∀ (xs : List SV), xs.all isPlain = true → VRs ρ xs (xs.map pv)
  | [], _ => VRs_nil ρ
  | x :: xs, h => by
    simp only [List.all_cons, Bool.and_eq_true] at h
    refine VRs_cons ?_ (VRs_plain xs h.2)
    cases x <;> simp only [isPlain] at h <;> first | (simp only [VR, pv]; done) | (exact absurd h.1 (by simp))
def evenB (esz : Nat) (l : List SV) : Bool := l.all fun x => Nat.beq x.cells.length esz && x.cells.all SV.cell
theorem Even_of {esz : Nat} {l : List SV} (h : evenB esz l = true) : Even esz l := by
  intro x hx
  have := List.all_eq_true.1 h x hx
  simp only [Bool.and_eq_true] at this
  exact ⟨Nat.eq_of_beq_eq_true this.1, this.2⟩
theorem row_start {b esz : Nat} {l : List SV} {W : World} {c : Array Value} {e : TypeId} (hm : ρ b = some ⟨b, 0, esz, c.size⟩) (hw : W.heap[b]? = some (.cells c e (0, 0))) (h0 : 0 < esz) (hev : evenB esz l = true) (hv : VRs ρ (l.flatMap SV.cells) c.toList) : RowR ρ b esz l W := by
  have hev := Even_of hev
  refine ⟨h0, hev, ⟨b, 0, esz, c.size⟩, c, e, (0, 0), hm, rfl, hw, rfl, ?_, .inl rfl, ?_⟩
  · have h1 := VRs_length hv
    rw [flat_length l hev] at h1
    simp only [Array.length_toList] at h1
    simp only [Nat.zero_add]
    omega
  · intro j y hj
    rw [← flat_get h0 l hev] at hj
    obtain ⟨v, h1, h2⟩ := VRs_get hv hj
    exact ⟨v, by simpa using h1, h2⟩
/- a start with nothing but read-only globals -/
noncomputable def startRen (G : Nat) (W : World) (es : Nat → Nat) : Ren := fun b => if b < G then some ⟨b, 0, es b, (match W.heap[b]? with | some (.cells c _ _) => c.size | _ => 0)⟩ else none
structure LaidAt (W : World) (es : Nat → Nat) (b : Nat) (l : List SV) : Prop where
  pos : 0 < es b
  even : evenB (es b) l = true
  plain : (l.flatMap SV.cells).all isPlain = true
  row : ∃ c e, W.heap[b]? = some (.cells c e (0, 0)) ∧ c.toList = (l.flatMap SV.cells).map pv
theorem rel_start {W : World} {G : Nat} {es : Nat → Nat} {H : SHeap} (hG : G ≤ W.heap.size) (hn : H.next = G) (h : ∀ b o, H.get b = some o → ∃ t l, o = .cells true (es b) t l ∧ LaidAt W es b l) : Rel G (startRen G W es) H W := by
  have hρ : ∀ b, b < G → ∃ sz, startRen G W es b = some ⟨b, 0, es b, sz⟩ := fun b hb => ⟨_, by unfold startRen; rw [if_pos hb]⟩
  refine ⟨?_, ?_, ?_, ?_⟩
  · intro b o ho
    obtain ⟨t, l, rfl, hl⟩ := h b o ho
    obtain ⟨c, e, h1, h2⟩ := hl.row
    have hb : b < G := hn ▸ SHeap.lt_of_get ho
    refine row_start (c := c) (e := e) ?_ h1 hl.pos hl.even (by rw [h2]; exact VRs_plain _ hl.plain)
    unfold startRen
    rw [if_pos hb, h1]
  · intro b1 b2 o1 o2 m1 m2 h1 h2 _ _ h3 h4 h5
    obtain ⟨s1, e1⟩ := hρ b1 (hn ▸ SHeap.lt_of_get h1)
    obtain ⟨s2, e2⟩ := hρ b2 (hn ▸ SHeap.lt_of_get h2)
    rw [e1] at h3; rw [e2] at h4
    cases h3; cases h4
    exact h5
  · intro b m hm
    unfold startRen at hm
    by_cases hb : b < G
    · rw [if_pos hb] at hm
      cases hm
      exact ⟨hn ▸ hb, Nat.lt_of_lt_of_le hb hG⟩
    · rw [if_neg hb] at hm; cases hm
  · intro b hb
    obtain ⟨sz, e⟩ := hρ b hb
    exact ⟨_, e, rfl, rfl⟩
theorem shaped_size {W : World} (h : W.ShapedOpen P) {g : Nat} (hg : g < P.globals.size) (hz : ((((begin P (fun _ _ => 0) default).world).heap[g]?).bind Obj.row?).isSome = true) : g < W.heap.size := by
  obtain ⟨⟨zero, t⟩, hz⟩ := Option.isSome_iff_exists.1 hz
  obtain ⟨cs, h1, _⟩ := h.1 g zero t hg hz
  exact (Array.getElem?_eq_some_iff.1 h1).1
/- the wrap of a row with listed variables, the world's shape handed on -/
theorem returnsInHanded_shaped_and {H : Type} {enc : TypeId × Value → H} {a : Assume} {C : Checked} {os : Os} {f : FuncId} {fn : Func} {s : ChangeSpec} {conds : List PathCond} {apart fresh handsOn again : Bool} {X : World → Array Value → Prop}
    (hX : ∀ (w w' : World) (args : Array Value), w.heap = w'.heap → X w args → X w' args)
    (own : ownKnob C.prog.godebug = none) (started : os.Started) (noInit : C.prog.inits.idxOf? f = none) (hfn : C.prog.funcs[f]? = some fn)
    (witness : ∃ (w : World) (tape : Tape) (i : Input), w.os = os ∧ (w.forCall tape i).Shaped C.prog ∧ i.vars = [] ∧ Input.okWide C.prog (w.forCall tape i) .any w.heap.size f i ∧
      ((s.pre enc C.prog fn conds apart (w.forCall tape i).memory i.args ∧ X (w.forCall tape i).memory i.args) ∧ sizedMet enc C.prog fn (OpenSpec.ofChange s) apart (w.forCall tape i).memory i.args) ∧ a.holds C.prog (lone (Frame.enter C.prog f i.args .normal) [] (w.forCall tape i)))
    (contract : ∀ (W : World) (base : Nat) (args : Array Value) (ds gs : List (DataW H)) (before : List MemPlace),
      (∀ (j : Nat) t v, fn.params[j]? = some t → args[j]? = some v → Value.okWide C.prog W .any base t v) →
      DataW.Whole enc C.prog fn.params.toList s.vars apart W args.toList ds gs before →
      conds.all (PathCond.test C.prog ⟨fn.params.toList, ds, s.plain.varTypes C.prog, gs⟩) = true →
      (DataW.weightsEach C.prog (fn.params.toList ++ s.plain.varTypes C.prog) (ds ++ gs)).all (· ≤ reachBytes) = true → X W args → W.ShapedOpen C.prog →
      a.holds C.prog (lone (Frame.enter C.prog f args .normal) [] W) →
      Calls C.prog f args W fun e W' => ∃ v, e = .returned v ∧ s.post enc C.prog fn apart fresh handsOn again W args v W') :
    ReturnsInHanded a C os f .any (fun w args => (s.pre enc C.prog fn conds apart w args ∧ X w args) ∧ sizedMet enc C.prog fn (OpenSpec.ofChange s) apart w args) (s.post enc C.prog fn apart fresh handsOn again) := by
  refine returnsInHanded_of_calls own started noInit witness ?_
  intro w tape i _ hsh _ hok hpre hholds
  obtain ⟨_, _, _, fn', hfn', _, _, _, _, hval⟩ := hok
  have e : fn' = fn := Option.some.inj (hfn'.symm.trans hfn)
  subst e
  obtain ⟨⟨⟨ds, gs, before, hw, hc⟩, hx⟩, hz⟩ := hpre
  have hw' := DataW.Whole.of_heap (w' := w.forCall tape i) (by rfl) hw
  refine (contract (w.forCall tape i) w.heap.size i.args ds gs before hval hw' hc (hz.weights hw) (hX _ _ _ (by rfl) hx) hsh hholds).mono fun e W' ⟨v, he, hp⟩ => ?_
  subst he
  exact ChangeSpec.post_blind hp
end Go.Sim
