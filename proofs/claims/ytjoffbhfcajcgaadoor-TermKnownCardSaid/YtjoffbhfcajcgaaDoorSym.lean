/- What the short forms come to at known values and known memory: for proofs over all inputs. -/
import Derived.Test.YtjoffbhfcajcgaaDoorGc
set_option linter.unusedVariables false
set_option linter.unusedSimpArgs false
namespace Go.Sim
/- small things -/
theorem ifR_true {α : Type} (a b : α) : ifR true a b = a := rfl
theorem ifR_false {α : Type} (a b : α) : ifR false a b = b := rfl
theorem optR_some {α : Type} (a : α) (k : α → Res) : optR (some a) k = k a := rfl
theorem optR_none {α : Type} (k : α → Res) : optR (none : Option α) k = none := rfl
theorem nthR_zero {α : Type} (a : α) (l : List α) : nthR (a :: l) 0 = some a := rfl
theorem nthR_succ {α : Type} (a : α) (l : List α) (n : Nat) : nthR (a :: l) (n + 1) = nthR l n := rfl
theorem iLe_eq (a b : Int) : iLe a b = decide (a ≤ b) := by
  cases a with
  | ofNat m =>
    cases b with
    | ofNat n => show Nat.ble m n = _; rw [ble_iff]; congr 1; simp only [Int.ofNat_eq_natCast, eq_iff_iff]; omega
    | negSucc n => show false = _; symm; rw [decide_eq_false_iff_not, Int.ofNat_eq_natCast, Int.negSucc_eq]; omega
  | negSucc m =>
    cases b with
    | ofNat n => show true = _; symm; rw [decide_eq_true_iff, Int.ofNat_eq_natCast, Int.negSucc_eq]; omega
    | negSucc n => show Nat.ble n m = _; rw [ble_iff]; congr 1; simp only [Int.negSucc_eq, eq_iff_iff]; omega
theorem iLt_eq (a b : Int) : iLt a b = decide (a < b) := by
  unfold iLt
  rw [iLe_eq]
  by_cases h : a < b
  · rw [decide_eq_true h, decide_eq_false (by omega)]; rfl
  · rw [decide_eq_false h, decide_eq_true (by omega)]; rfl
theorem iEq_eq (a b : Int) : iEq a b = decide (a = b) := by
  cases a with
  | ofNat m =>
    cases b with
    | ofNat n => show Nat.beq m n = _; rw [beq_iff]; congr 1; simp only [Int.ofNat_eq_natCast, eq_iff_iff]; omega
    | negSucc n => show false = _; symm; rw [decide_eq_false_iff_not, Int.ofNat_eq_natCast, Int.negSucc_eq]; omega
  | negSucc m =>
    cases b with
    | ofNat n => show false = _; symm; rw [decide_eq_false_iff_not, Int.ofNat_eq_natCast, Int.negSucc_eq]; omega
    | negSucc n => show Nat.beq m n = _; rw [beq_iff]; congr 1; simp only [Int.negSucc_eq, eq_iff_iff]; omega
theorem kEq_self (k : IntKind) : kEq k k = true := by cases k <;> rfl
theorem lEq_eq : ∀ (a b : List Nat), lEq a b = decide (a = b)
  | [], [] => rfl
  | [], _ :: _ => rfl
  | _ :: _, [] => rfl
  | x :: a, y :: b => by
    simp only [lEq, lEq_eq a b, beq_iff]
    by_cases h : x = y
    · by_cases h2 : a = b <;> simp [h, h2]
    · simp [h]
/- ranges -/
theorem wrapQ_i64 {n : Int} (h1 : -9223372036854775808 ≤ n) (h2 : n ≤ 9223372036854775807) : wrapQ .i64 n = n := by
  unfold wrapQ
  have : fits .i64 n = true := by
    cases n with
    | ofNat m =>
      rw [fits_ofNat]
      show Nat.ble m 9223372036854775807 = true
      rw [Int.ofNat_eq_natCast] at h2
      exact Nat.ble_eq_true_of_le (by omega)
    | negSucc m =>
      rw [fits_negSucc]
      show Nat.ble (m + 1) 9223372036854775808 = true
      rw [Int.negSucc_eq] at h1
      exact Nat.ble_eq_true_of_le (by omega)
  rw [this]; rfl
theorem wrapQ_fits {k : IntKind} {n : Int} (h : fits k n = true) : wrapQ k n = n := by unfold wrapQ; rw [h]; rfl
/- the forms -/
theorem pAdd_int (k : IntKind) (a b : Int) (f : K1) : pAdd (.int k a) (.int k b) f = f (.int k (wrapQ k (a + b))) := by
  show ifR (kEqR k k) (wrapK k (addI a b) f) none = _
  rw [kEqR_eq, kEq_self, wrapK_eq, addI_eq]; rfl
theorem pSub_int (k : IntKind) (a b : Int) (f : K1) : pSub (.int k a) (.int k b) f = f (.int k (wrapQ k (a - b))) := by
  show ifR (kEqR k k) (wrapK k (subI a b) f) none = _
  rw [kEqR_eq, kEq_self, wrapK_eq, subI_eq]; rfl
theorem pAdd_str (a b : List Nat) (f : K1) : pAdd (.str a) (.str b) f = optR (bJoin a b) f := rfl
theorem cmpK_int (k : IntKind) (a b : Int) (f : Int → Int → Bool) (g : List Nat → List Nat → Bool) (h : K1) : cmpK (.int k a) (.int k b) f g h = h (.bool (f a b)) := by
  show ifR (kEqR k k) (boolK (f a b) h) none = _
  rw [kEqR_eq, kEq_self, boolK_eq]; rfl
theorem pLss_int (k : IntKind) (a b : Int) (f : K1) : pLss (.int k a) (.int k b) f = f (.bool (decide (a < b))) := by
  unfold pLss; rw [cmpK_int, notR_eq, leI_eq, ← iLt_eq]; rfl
theorem pLeq_int (k : IntKind) (a b : Int) (f : K1) : pLeq (.int k a) (.int k b) f = f (.bool (decide (a ≤ b))) := by
  unfold pLeq; rw [cmpK_int, leI_eq, iLe_eq]
theorem pGtr_int (k : IntKind) (a b : Int) (f : K1) : pGtr (.int k a) (.int k b) f = f (.bool (decide (b < a))) := by
  unfold pGtr; rw [cmpK_int, notR_eq, leI_eq, ← iLt_eq]; rfl
theorem pGeq_int (k : IntKind) (a b : Int) (f : K1) : pGeq (.int k a) (.int k b) f = f (.bool (decide (b ≤ a))) := by
  unfold pGeq; rw [cmpK_int, leI_eq, iLe_eq]
theorem pEql_int (e : EqK) (k : IntKind) (a b : Int) (f : K1) : pEql e (.int k a) (.int k b) f = f (.bool (decide (a = b))) := by
  show ifR (kEqR k k) (boolK (eqI a b) f) none = _
  rw [kEqR_eq, kEq_self, boolK_eq, eqI_eq, iEq_eq]; rfl
theorem pNeq_int (e : EqK) (k : IntKind) (a b : Int) (f : K1) : pNeq e (.int k a) (.int k b) f = f (.bool (!decide (a = b))) := by
  show ifR (kEqR k k) (boolK (notR (eqI a b)) f) none = _
  rw [kEqR_eq, kEq_self, boolK_eq, notR_eq, eqI_eq, iEq_eq]; rfl
theorem pEql_str (e : EqK) (a b : List Nat) (f : K1) : pEql e (.str a) (.str b) f = f (.bool (decide (a = b))) := by
  show boolK (strEq a b) f = _
  rw [boolK_eq, strEq_eq, lEq_eq]
theorem pNeq_str (e : EqK) (a b : List Nat) (f : K1) : pNeq e (.str a) (.str b) f = f (.bool (!decide (a = b))) := by
  show boolK (notR (strEq a b)) f = _
  rw [boolK_eq, notR_eq, strEq_eq, lEq_eq]
theorem condK_bool (t : Bool) (a b : Res) : condK (.bool t) a b = bif t then a else b := by cases t <;> rfl
theorem pPick_bool (t : Bool) (a b : SV) (k : K1) : pPick (.bool t) a b k = bif t then k a else k b := by cases t <;> rfl
theorem guardR_bool (t w : Bool) (r : Res) (H : SHeap) : guardR (.bool t) w r H = bif t == w then r else some (SV.undef, H) := by cases t <;> cases w <;> rfl
theorem pToInt_int (k j : IntKind) (n : Int) (f : K1) : pToInt k (.int j n) f = f (.int k (wrapQ k n)) := wrapK_eq k n f
theorem pNilCheck_ptr (b q r : Nat) (f : K1) : pNilCheck (.ptr b q r) f = f (.ptr b q r) := rfl
theorem pLenS_str (s : List Nat) (f : K1) : pLenS (.str s) f = f (.int .i64 s.length) := by
  show natK (lenR s) (fun n => f (.int .i64 (.ofNat n))) = _
  rw [natK_eq, lenR_eq]; rfl
theorem pLenL_nils (f : K1) : pLenL .nils f = f (.int .i64 0) := rfl
theorem pLenL_slice (b q l c : Nat) (f : K1) : pLenL (.slice b q l c) f = f (.int .i64 l) := rfl
theorem pFieldAddr_ptr (o b q r : Nat) (f : K1) : pFieldAddr o (.ptr b q r) f = f (.ptr b q (r + o)) := natK_eq (Nat.add r o) fun r' => f (.ptr b q r')
theorem pExtract_tup (i : Nat) (l : List SV) (f : K1) : pExtract i (.tup l) f = optR (l[i]?) f := by
  show optR (nthR l i) f = _
  rw [nthR_eq]
theorem pField_agg (o s : Nat) (l : List SV) (f : K1) : pField o s false (.agg l) f = optR (l[o]?) f := by
  show optR (nthR l o) f = _
  rw [nthR_eq]
theorem pField_agg2 (o s : Nat) (l : List SV) (f : K1) (h : o + s ≤ l.length) : pField o s true (.agg l) f = f (.agg ((l.drop o).take s)) := by
  show optR (sPart o s true l) f = _
  unfold sPart
  have : Nat.ble (o + s) l.length = true := by rw [ble_iff]; simp [h]
  rw [this]; rfl
theorem pLoad_sc {y : Lay} {b q r : Nat} {H : SHeap} {ro : Bool} {esz el : Nat} {l : List SV} {v c : SV} (hb : H.get b = some (.cells ro esz el l)) (hy : y.agg = false) (hq : l[q]? = some v) (hc : v.cells[r]? = some c) (f : K1) : pLoad y (.ptr b q r) H f = f c := by
  show asCells (getR H b) _ = _
  rw [getR_eq, hb]
  show loadK y q r esz l f = _
  rw [loadK_eq]
  unfold loadIn
  rw [hy, hq]
  show optR (v.cells[r]?) f = _
  rw [hc]; rfl
theorem pLoad_agg {y : Lay} {b q : Nat} {H : SHeap} {ro : Bool} {esz el : Nat} {l : List SV} {cs : List SV} (hb : H.get b = some (.cells ro esz el l)) (hy : y.agg = true) (ht : y.total = esz) (hq : l[q]? = some (.agg cs)) (hc : cs.length = esz) (f : K1) : pLoad y (.ptr b q 0) H f = f (.agg cs) := by
  show asCells (getR H b) _ = _
  rw [getR_eq, hb]
  show loadK y q 0 esz l f = _
  rw [loadK_eq]
  unfold loadIn
  rw [hy, ht]
  have h1 : Nat.ble (0 + esz) esz = true := by rw [ble_iff]; simp
  rw [h1, hq]
  show optR (bif Nat.beq 0 0 && Nat.beq cs.length esz then some (.agg cs) else bif Nat.ble (0 + esz) cs.length then some (.agg ((cs.drop 0).take esz)) else none) f = _
  rw [hc]
  have h2 : (Nat.beq 0 0 && Nat.beq esz esz) = true := by rw [beq_iff, beq_iff]; simp
  rw [h2]; rfl
theorem pLoad_part {y : Lay} {b q r : Nat} {H : SHeap} {ro : Bool} {esz el : Nat} {l : List SV} {cs : List SV} (hb : H.get b = some (.cells ro esz el l)) (hy : y.agg = true) (ht : r + y.total ≤ esz) (hq : l[q]? = some (.agg cs)) (hc : cs.length = esz) (hn : y.total < esz) (f : K1) : pLoad y (.ptr b q r) H f = f (.agg ((cs.drop r).take y.total)) := by
  show asCells (getR H b) _ = _
  rw [getR_eq, hb]
  show loadK y q r esz l f = _
  rw [loadK_eq]
  unfold loadIn
  rw [hy]
  have h1 : Nat.ble (r + y.total) esz = true := by rw [ble_iff]; simp [ht]
  rw [h1, hq]
  show optR (bif Nat.beq r 0 && Nat.beq cs.length y.total then some (.agg cs) else bif Nat.ble (r + y.total) cs.length then some (.agg ((cs.drop r).take y.total)) else none) f = _
  rw [hc]
  have h2 : (Nat.beq r 0 && Nat.beq esz y.total) = false := by
    rw [beq_iff esz]
    have : decide (esz = y.total) = false := by simp; omega
    rw [this, Bool.and_false]
  rw [h2, h1]; rfl
theorem pStore_sc {y : Lay} {b q r : Nat} {x : SV} {H : SHeap} {esz el : Nat} {l cs : List SV} (hb : H.get b = some (.cells false esz el l)) (hy : y.flat = true) (hx : isFlat x = true) (hr : r < esz) (hq : l[q]? = some (.agg cs)) (hc : r < cs.length) (f : SHeap → Res) : pStore y (.ptr b q r) x H f = f (H.set b (.cells false esz el (l.set q (.agg (cs.set r x))))) := by
  show asCells (getR H b) _ = _
  rw [getR_eq, hb]
  show ifR false none (storeK y q r x esz l _) = _
  rw [ifR_false]
  unfold storeK
  rw [hx, hy, ifR_true, ifR_true]
  have h1 : Nat.ble (Nat.succ r) esz = true := by rw [ble_iff]; simp; omega
  rw [h1, ifR_true, nthR_eq, hq, optR_some]
  show optR (nthR cs r) _ = _
  rw [nthR_eq, List.getElem?_eq_getElem hc, optR_some, setK_eq]
  show setK l q (.agg (cs.set r x)) (fun l' => heapSetK H b (SObj.cells false esz el l') f) = _
  rw [setK_eq, heapSetK_eq]
theorem pStore_one {y : Lay} {b q : Nat} {x v : SV} {H : SHeap} {esz el : Nat} {l : List SV} (hb : H.get b = some (.cells false esz el l)) (hy : y.flat = true) (hx : isFlat x = true) (hr : 0 < esz) (hq : l[q]? = some v) (hv : isFlat v = true) (f : SHeap → Res) : pStore y (.ptr b q 0) x H f = f (H.set b (.cells false esz el (l.set q x))) := by
  show asCells (getR H b) _ = _
  rw [getR_eq, hb]
  show ifR false none (storeK y q 0 x esz l _) = _
  rw [ifR_false]
  unfold storeK
  rw [hx, hy, ifR_true, ifR_true]
  have h1 : Nat.ble (Nat.succ 0) esz = true := by rw [ble_iff]; simp; omega
  rw [h1, ifR_true, nthR_eq, hq, optR_some]
  have : ∀ k : K1, elemK v 0 x k = k x := by intro k; cases v <;> first | rfl | (cases hv; done)
  rw [this, setK_eq, heapSetK_eq]
theorem isN_agg {n : Nat} {cs : List SV} (h1 : cs.length = n) (h2 : cs.all SV.cell = true) : isN n (.agg cs) = true := by
  unfold isN
  simp only [SV.cells, h1, h2, Bool.and_true, beq_iff, decide_true]
theorem pStore_agg {y : Lay} {b q : Nat} {xs cs : List SV} {H : SHeap} {esz el : Nat} {l : List SV} (hb : H.get b = some (.cells false esz el l)) (ht : y.total = esz) (hx : xs.length = esz) (hc : xs.all SV.cell = true) (hq : l[q]? = some (.agg cs)) (hcs : cs.length = esz) (f : SHeap → Res) : pStore y (.ptr b q 0) (.agg xs) H f = f (H.set b (.cells false esz el (l.set q (.agg xs)))) := by
  show asCells (getR H b) _ = _
  rw [getR_eq, hb]
  show ifR false none (storeK y q 0 (.agg xs) esz l _) = _
  rw [ifR_false, storeK_eq]
  unfold storeIn
  rw [isN_agg (hx.trans ht.symm) hc, ht]
  have h1 : Nat.ble (0 + esz) esz = true := by rw [ble_iff]; simp
  rw [h1, hq]
  have h2 : elemSet esz 0 (.agg xs) (.agg cs) = some (.agg xs) := by
    unfold elemSet
    have h2 : (Nat.beq 0 0 && Nat.beq cs.length esz) = true := by rw [beq_iff, beq_iff]; simp [hcs]
    simp only [h2]; rfl
  simp only [cond_true, Option.bind_some, h2, Option.map_some, optR_some, heapSetK_eq]
theorem pIdxAddrL_at {esz b q len cap : Nat} {i : Int} {H : SHeap} {ro : Bool} {el : Nat} {l : List SV} (hb : H.get b = some (.cells ro esz el l)) {j : Nat} (hi : i = j) (hj : j < len) (f : K1) : pIdxAddrL esz (.slice b q len cap) (.int .i64 i) H f = f (.ptr b (q + j) 0) := by
  subst hi
  show ifR (Nat.ble (Nat.succ j) len) _ none = _
  have h1 : Nat.ble (Nat.succ j) len = true := by rw [ble_iff]; simp; omega
  rw [h1, ifR_true, getR_eq, hb]
  show ifR (Nat.beq esz esz) _ none = _
  rw [beq_iff, decide_eq_true rfl, ifR_true, natK_eq]; rfl
theorem pIdxS_at {s : List Nat} {i : Int} {j : Nat} (hi : i = j) {n : Nat} (hn : s[j]? = some n) (f : K1) : pIdxS (.str s) (.int .i64 i) f = f (.int .u8 (.ofNat n)) := by
  subst hi
  show optR (nthR s j) _ = _
  rw [nthR_eq, hn]; rfl
theorem pAlloc_eq (y : Lay) (z : SV) (H : SHeap) (k : SV → SHeap → Res) : pAlloc y z H k = k (.ptr H.next 0 0) (H.alloc (.cells false y.esz y.elem (y.elems z))) := (bnd_alloc y z H k).symm
theorem pAppend_eq (elem esz bytes : Nat) (H : SHeap) (s x : SV) (k : SV → SHeap → Res) : pAppend elem esz bytes H s x k = bnd (sAppend elem esz bytes H s x) k := (bnd_append ..).symm
/- memory that is H with one block turned -/
structure Upd (H H' : SHeap) (b : Nat) (o : SObj) : Prop where
  next : H'.next = H.next
  get : ∀ j, H'.get j = if j = b then some o else H.get j
theorem Upd.of_set {H : SHeap} {b : Nat} (o : SObj) (hb : b < H.next) : Upd H (H.set b o) b o := ⟨rfl, fun j => SHeap.get_set H b j o hb⟩
theorem Upd.set {H H' : SHeap} {b : Nat} {o : SObj} (h : Upd H H' b o) (o' : SObj) (hb : b < H.next) : Upd H (H'.set b o') b o' := by
  refine ⟨h.next, fun j => ?_⟩
  rw [SHeap.get_set _ _ _ _ (by rw [h.next]; exact hb), h.get]
  split <;> rfl
theorem Upd.at {H H' : SHeap} {b : Nat} {o : SObj} (h : Upd H H' b o) : H'.get b = some o := by rw [h.get, if_pos rfl]
theorem Upd.other {H H' : SHeap} {b : Nat} {o : SObj} (h : Upd H H' b o) {j : Nat} (hj : j ≠ b) : H'.get j = H.get j := by rw [h.get, if_neg hj]
/- H' is H and more -/
structure More (H H' : SHeap) : Prop where
  next : H.next ≤ H'.next
  old : ∀ {j : Nat} {o : SObj}, H.get j = some o → H'.get j = some o
theorem More.refl (H : SHeap) : More H H := ⟨Nat.le_refl _, fun h => h⟩
theorem More.trans {H H' H'' : SHeap} (h : More H H') (k : More H' H'') : More H H'' := ⟨Nat.le_trans h.next k.next, fun hj => k.old (h.old hj)⟩
theorem More.alloc {H H' : SHeap} (h : More H H') (o : SObj) : More H (H'.alloc o) := by
  refine ⟨Nat.le_trans h.next (Nat.le_succ _), fun {j x} hj => ?_⟩
  rw [SHeap.get_alloc, if_neg (by have := h.next; have := SHeap.lt_of_get hj; omega), h.old hj]
theorem More.set {H H' : SHeap} (h : More H H') {b : Nat} (o : SObj) (hb : H.next ≤ b) (hb2 : b < H'.next) : More H (H'.set b o) := by
  refine ⟨h.next, fun {j x} hj => ?_⟩
  rw [SHeap.get_set _ _ _ _ hb2, if_neg (by have := SHeap.lt_of_get hj; omega), h.old hj]
theorem More.of_upd {H H' H'' : SHeap} {b : Nat} {o : SObj} (h : More H H') (u : Upd H' H'' b o) (hb : H.next ≤ b) : More H H'' :=
  ⟨by rw [u.next]; exact h.next, fun {j x} hj => by rw [u.other (by have := SHeap.lt_of_get hj; omega), h.old hj]⟩
/- nothing but garbage was made -/
theorem Gc.pure {H H1 : SHeap} {x : SV} (hc : H.Closed) (h : More H H1) (hx : SV.und H.next x) : Gc H H1 x H x (fun b => b) where
  id := fun _ _ => rfl
  inj := fun _ _ _ _ h => h
  size := Nat.le_refl _
  val := (ren_id (fun _ _ => rfl) x hx).symm
  below := hx
  obj := fun b o ho => ⟨hc b o ho, fun _ => by rw [h.old ho, SObj.ren_id (fun _ _ => rfl) o (hc b o ho)]⟩
/- one block stays of what was made -/
theorem Gc.one {H H1 : SHeap} {x1 x2 : SV} {nb : Nat} {o : SObj} (hc : H.Closed) (h : More H H1) (hnb : H.next ≤ nb) (ho : H1.get nb = some (o.ren fun b => if b < H.next then b else nb)) (hou : o.und (H.next + 1)) (hx : SV.und (H.next + 1) x2) (hv : x1 = SV.ren (fun b => if b < H.next then b else nb) x2) :
    Gc H H1 x1 (H.alloc o) x2 (fun b => if b < H.next then b else nb) where
  id := fun b hb => by simp only [hb, if_true]
  inj := fun b c hb hc e => by
    rw [SHeap.next_alloc] at hb hc
    split at e <;> split at e <;> omega
  size := Nat.le_succ _
  val := hv
  below := hx
  obj := fun b ob hob => by
    rw [SHeap.get_alloc] at hob
    split at hob
    · rename_i e
      cases hob
      subst e
      refine ⟨hou, fun _ => ?_⟩
      rw [if_neg (Nat.lt_irrefl _)]
      exact ho
    · have hlt := SHeap.lt_of_get hob
      have hu := hc b ob hob
      refine ⟨SObj.und_mono (Nat.le_succ _) ob hu, fun _ => ?_⟩
      simp only [hlt, if_true]
      rw [h.old hob, SObj.ren_id (fun b hb => by simp only [hb, if_true]) ob hu]

/- ---------- a run step by step: what it comes to meets Q ---------- -/
def Ok (r : Res) (Q : SV → SHeap → Prop) : Prop := ∃ v H, r = some (v, H) ∧ Q v H
variable {Q : SV → SHeap → Prop}
theorem Ok.mono {r : Res} {Q' : SV → SHeap → Prop} (h : Ok r Q) (hq : ∀ v H, Q v H → Q' v H) : Ok r Q' := let ⟨v, H, h1, h2⟩ := h; ⟨v, H, h1, hq _ _ h2⟩
theorem ok_ret {v : SV} {H : SHeap} (h : Q v H) : Ok (some (v, H)) Q := ⟨v, H, rfl, h⟩
theorem ok_bnd {r : Res} {k : SV → SHeap → Res} (h : Ok r fun v H => Ok (k v H) Q) : Ok (bnd r k) Q := by
  obtain ⟨v, H, rfl, h⟩ := h; exact h
theorem ok_some {v : SV} {H : SHeap} {k : SV → SHeap → Res} (h : Ok (k v H) Q) : Ok (bnd (some (v, H)) k) Q := h
theorem ok_eq {r : Res} {v : SV} {H : SHeap} {k : SV → SHeap → Res} (e : r = some (v, H)) (h : Ok (k v H) Q) : Ok (bnd r k) Q := by rw [e]; exact h
/- H' is H with a new block o -/
structure New (H H' : SHeap) (o : SObj) : Prop where
  next : H'.next = H.next + 1
  get : ∀ j, H'.get j = if j = H.next then some o else H.get j
theorem New.of_alloc (H : SHeap) (o : SObj) : New H (H.alloc o) o := ⟨rfl, fun j => SHeap.get_alloc H j o⟩
theorem New.at {H H' : SHeap} {o : SObj} (h : New H H' o) : H'.get H.next = some o := by rw [h.get, if_pos rfl]
theorem New.old {H H' : SHeap} {o : SObj} (h : New H H' o) {j : Nat} {x : SObj} (hj : H.get j = some x) : H'.get j = some x := by
  rw [h.get, if_neg (Nat.ne_of_lt (SHeap.lt_of_get hj)), hj]
theorem New.more {H H' : SHeap} {o : SObj} (h : New H H' o) : More H H' := ⟨by rw [h.next]; omega, fun hj => h.old hj⟩
theorem Upd.old {H H' : SHeap} {b : Nat} {o : SObj} (h : Upd H H' b o) {j : Nat} {x : SObj} (hj : H.get j = some x) (hne : j ≠ b) : H'.get j = some x := by rw [h.other hne, hj]
theorem ok_alloc {y : Lay} {z : SV} {H : SHeap} {k : SV → SHeap → Res} (h : ∀ H', New H H' (.cells false y.esz y.elem (y.elems z)) → Ok (k (.ptr H.next 0 0) H') Q) : Ok (pAlloc y z H k) Q := by
  rw [pAlloc_eq]; exact h _ (New.of_alloc ..)
theorem ok_box {y : Lay} {x : SV} {H : SHeap} {k : SV → SHeap → Res} (hn : isN y.total x = true) (h : ∀ H', New H H' (.cells false y.esz y.elem (y.elems x)) → Ok (k (.ptr H.next 0 0) H') Q) : Ok (bnd (xBox y x H) k) Q := by
  unfold xBox; rw [hn]; exact h _ (New.of_alloc ..)
theorem ok_build {z : List SV} {ps : List (Nat × Nat × SV)} {cs : List SV} {H : SHeap} {k : SV → SHeap → Res} (hf : sFill z ps = some cs) (h : Ok (k (.agg cs) H) Q) : Ok (bnd (xBuild z ps H) k) Q := by
  unfold xBuild; rw [hf]; exact h
theorem ok_load_sc {y : Lay} {b q r : Nat} {H : SHeap} {ro : Bool} {esz el : Nat} {l : List SV} {v c : SV} {f : K1} (hb : H.get b = some (.cells ro esz el l)) (hy : y.agg = false) (hq : l[q]? = some v) (hc : v.cells[r]? = some c) (h : Ok (f c) Q) : Ok (pLoad y (.ptr b q r) H f) Q := by
  rw [pLoad_sc hb hy hq hc]; exact h
theorem ok_load_agg {y : Lay} {b q : Nat} {H : SHeap} {ro : Bool} {esz el : Nat} {l : List SV} {cs : List SV} {f : K1} (hb : H.get b = some (.cells ro esz el l)) (hy : y.agg = true) (ht : y.total = esz) (hq : l[q]? = some (.agg cs)) (hc : cs.length = esz) (h : Ok (f (.agg cs)) Q) : Ok (pLoad y (.ptr b q 0) H f) Q := by
  rw [pLoad_agg hb hy ht hq hc]; exact h
theorem ok_load_part {y : Lay} {b q r : Nat} {H : SHeap} {ro : Bool} {esz el : Nat} {l : List SV} {cs : List SV} {f : K1} (hb : H.get b = some (.cells ro esz el l)) (hy : y.agg = true) (ht : r + y.total ≤ esz) (hq : l[q]? = some (.agg cs)) (hc : cs.length = esz) (hn : y.total < esz) (h : Ok (f (.agg ((cs.drop r).take y.total))) Q) : Ok (pLoad y (.ptr b q r) H f) Q := by
  rw [pLoad_part hb hy ht hq hc hn]; exact h
theorem ok_store_sc {y : Lay} {b q r : Nat} {x : SV} {H : SHeap} {esz el : Nat} {l cs : List SV} {f : SHeap → Res} (hb : H.get b = some (.cells false esz el l)) (hy : y.flat = true) (hx : isFlat x = true) (hr : r < esz) (hq : l[q]? = some (.agg cs)) (hc : r < cs.length) (h : ∀ H', Upd H H' b (.cells false esz el (l.set q (.agg (cs.set r x)))) → Ok (f H') Q) : Ok (pStore y (.ptr b q r) x H f) Q := by
  rw [pStore_sc hb hy hx hr hq hc]; exact h _ (Upd.of_set _ (SHeap.lt_of_get hb))
theorem ok_store_one {y : Lay} {b q : Nat} {x v : SV} {H : SHeap} {esz el : Nat} {l : List SV} {f : SHeap → Res} (hb : H.get b = some (.cells false esz el l)) (hy : y.flat = true) (hx : isFlat x = true) (hr : 0 < esz) (hq : l[q]? = some v) (hv : isFlat v = true) (h : ∀ H', Upd H H' b (.cells false esz el (l.set q x)) → Ok (f H') Q) : Ok (pStore y (.ptr b q 0) x H f) Q := by
  rw [pStore_one hb hy hx hr hq hv]; exact h _ (Upd.of_set _ (SHeap.lt_of_get hb))
theorem ok_store_agg {y : Lay} {b q : Nat} {xs cs : List SV} {H : SHeap} {esz el : Nat} {l : List SV} {f : SHeap → Res} (hb : H.get b = some (.cells false esz el l)) (ht : y.total = esz) (hx : xs.length = esz) (hc : xs.all SV.cell = true) (hq : l[q]? = some (.agg cs)) (hcs : cs.length = esz) (h : ∀ H', Upd H H' b (.cells false esz el (l.set q (.agg xs))) → Ok (f H') Q) : Ok (pStore y (.ptr b q 0) (.agg xs) H f) Q := by
  rw [pStore_agg hb ht hx hc hq hcs]; exact h _ (Upd.of_set _ (SHeap.lt_of_get hb))
theorem ok_idxL {esz b q len cap : Nat} {i : Int} {H : SHeap} {ro : Bool} {el : Nat} {l : List SV} {f : K1} (hb : H.get b = some (.cells ro esz el l)) (j : Nat) (hi : i = j) (hj : j < len) (h : Ok (f (.ptr b (q + j) 0)) Q) : Ok (pIdxAddrL esz (.slice b q len cap) (.int .i64 i) H f) Q := by
  rw [pIdxAddrL_at hb hi hj]; exact h
theorem ok_idxS {s : List Nat} {i : Int} {f : K1} (j : Nat) (hi : i = j) {n : Nat} (hn : s[j]? = some n) (h : Ok (f (.int .u8 (.ofNat n))) Q) : Ok (pIdxS (.str s) (.int .i64 i) f) Q := by
  rw [pIdxS_at hi hn]; exact h
theorem ok_field {o s : Nat} {l : List SV} {f : K1} {c : SV} (hc : l[o]? = some c) (h : Ok (f c) Q) : Ok (pField o s false (.agg l) f) Q := by
  rw [pField_agg, hc]; exact h
theorem ok_extract {i : Nat} {l : List SV} {f : K1} {c : SV} (hc : l[i]? = some c) (h : Ok (f c) Q) : Ok (pExtract i (.tup l) f) Q := by
  rw [pExtract_tup, hc]; exact h
theorem ok_add {k : IntKind} {a b : Int} {f : K1} (h : Ok (f (.int k (wrapQ k (a + b)))) Q) : Ok (pAdd (.int k a) (.int k b) f) Q := by rw [pAdd_int]; exact h
theorem ok_sub {k : IntKind} {a b : Int} {f : K1} (h : Ok (f (.int k (wrapQ k (a - b)))) Q) : Ok (pSub (.int k a) (.int k b) f) Q := by rw [pSub_int]; exact h
/- whole numbers of 64 bits that stay in range -/
theorem ok_add64 {a b : Int} {f : K1} (h1 : -9223372036854775808 ≤ a + b) (h2 : a + b ≤ 9223372036854775807) (h : Ok (f (.int .i64 (a + b))) Q) : Ok (pAdd (.int .i64 a) (.int .i64 b) f) Q := by rw [pAdd_int, wrapQ_i64 h1 h2]; exact h
theorem ok_sub64 {a b : Int} {f : K1} (h1 : -9223372036854775808 ≤ a - b) (h2 : a - b ≤ 9223372036854775807) (h : Ok (f (.int .i64 (a - b))) Q) : Ok (pSub (.int .i64 a) (.int .i64 b) f) Q := by rw [pSub_int, wrapQ_i64 h1 h2]; exact h
theorem ok_lss {k : IntKind} {a b : Int} {f : K1} (h : Ok (f (.bool (decide (a < b)))) Q) : Ok (pLss (.int k a) (.int k b) f) Q := by rw [pLss_int]; exact h
theorem ok_leq {k : IntKind} {a b : Int} {f : K1} (h : Ok (f (.bool (decide (a ≤ b)))) Q) : Ok (pLeq (.int k a) (.int k b) f) Q := by rw [pLeq_int]; exact h
theorem ok_gtr {k : IntKind} {a b : Int} {f : K1} (h : Ok (f (.bool (decide (b < a)))) Q) : Ok (pGtr (.int k a) (.int k b) f) Q := by rw [pGtr_int]; exact h
theorem ok_geq {k : IntKind} {a b : Int} {f : K1} (h : Ok (f (.bool (decide (b ≤ a)))) Q) : Ok (pGeq (.int k a) (.int k b) f) Q := by rw [pGeq_int]; exact h
theorem ok_eql {k : IntKind} {a b : Int} {e : EqK} {f : K1} (h : Ok (f (.bool (decide (a = b)))) Q) : Ok (pEql e (.int k a) (.int k b) f) Q := by rw [pEql_int]; exact h
theorem ok_neq {k : IntKind} {a b : Int} {e : EqK} {f : K1} (h : Ok (f (.bool (!decide (a = b)))) Q) : Ok (pNeq e (.int k a) (.int k b) f) Q := by rw [pNeq_int]; exact h
theorem ok_cond {t : Bool} {a b : Res} (h1 : t = true → Ok a Q) (h2 : t = false → Ok b Q) : Ok (condK (.bool t) a b) Q := by
  cases t
  · exact h2 rfl
  · exact h1 rfl
/- a test of a proposition -/
theorem ok_if {p : Prop} [Decidable p] {a b : Res} (h1 : p → Ok a Q) (h2 : ¬ p → Ok b Q) : Ok (condK (.bool (decide p)) a b) Q :=
  ok_cond (fun h => h1 (of_decide_eq_true h)) (fun h => h2 (of_decide_eq_false h))
theorem ok_then {p : Prop} [Decidable p] {a b : Res} (hp : p) (h : Ok a Q) : Ok (condK (.bool (decide p)) a b) Q := ok_if (fun _ => h) (fun hn => absurd hp hn)
theorem ok_else {p : Prop} [Decidable p] {a b : Res} (hp : ¬ p) (h : Ok b Q) : Ok (condK (.bool (decide p)) a b) Q := ok_if (fun hn => absurd hn hp) (fun _ => h)
theorem ok_pick {t : Bool} {a b : SV} {k : K1} (h1 : t = true → Ok (k a) Q) (h2 : t = false → Ok (k b) Q) : Ok (pPick (.bool t) a b k) Q := by
  cases t
  · exact h2 rfl
  · exact h1 rfl
theorem ok_pickT {a b : SV} {k : K1} (h : Ok (k a) Q) : Ok (pPick (.bool true) a b k) Q := h
theorem ok_pickF {a b : SV} {k : K1} (h : Ok (k b) Q) : Ok (pPick (.bool false) a b k) Q := h
theorem ok_guard {t w : Bool} {r : Res} {H : SHeap} {k : SV → SHeap → Res} (h1 : t = w → Ok (bnd r k) Q) (h2 : t ≠ w → Ok (k SV.undef H) Q) : Ok (bnd (guardR (.bool t) w r H) k) Q := by
  rw [guardR_bool]
  by_cases h : t = w
  · subst h; simpa using h1 rfl
  · have : (t == w) = false := by simpa using h
    rw [this]; exact h2 h
theorem ok_len {s : List Nat} {f : K1} (h : Ok (f (.int .i64 s.length)) Q) : Ok (pLenS (.str s) f) Q := by rw [pLenS_str]; exact h
theorem ok_look {v : SV} {r : Res} {v' : SV} {H' : SHeap} {k : Res} (e : r = some (v', H')) (hb : SV.beq v v' = true) (h : Ok k Q) : Ok (lookK v r k) Q := by
  unfold lookK; rw [e]; simp only [hb, cond_true]; exact h
theorem ok_fieldAddr {o b q r : Nat} {f : K1} (h : Ok (f (.ptr b q (r + o))) Q) : Ok (pFieldAddr o (.ptr b q r) f) Q := by rw [pFieldAddr_ptr]; exact h
theorem ok_toInt {k j : IntKind} {n : Int} {f : K1} (h : Ok (f (.int k (wrapQ k n))) Q) : Ok (pToInt k (.int j n) f) Q := by rw [pToInt_int]; exact h
theorem ok_inc {i : Nat} {f : K1} (hi : i < 4611686018427387904) (h : Ok (f (.int .i64 ((i + 1 : Nat) : Int))) Q) : Ok (pAdd (.int .i64 (i : Int)) (.int .i64 (.ofNat 1)) f) Q := by
  rw [pAdd_int, show (Int.ofNat 1) = (1 : Int) from rfl, wrapQ_i64 (by omega) (by omega)]
  exact h
theorem callC_ok {F : Table} {f n : Nat} {fn : SFunc} {xs : List SV} {H : SHeap} (hl : F.lib f = none) (hf : F.fn f = some fn) (h : Ok (runBodyK (callC F) n fn xs H) Q) : Ok (callC F f xs H) Q := by
  obtain ⟨v, H', h1, h2⟩ := h
  exact ⟨v, H', callC_body hl hf h1, h2⟩

theorem xLoad_sc {y : Lay} {b q r : Nat} {H : SHeap} {ro : Bool} {esz el : Nat} {l : List SV} {v c : SV} (hb : H.get b = some (.cells ro esz el l)) (hy : y.agg = false) (hq : l[q]? = some v) (hc : v.cells[r]? = some c) : xLoad y (.ptr b q r) H = some (c, H) := by
  show only H (cellsAt H b _) = _
  unfold cellsAt
  rw [hb]
  show only H (loadIn y q r esz l) = _
  unfold loadIn
  rw [hy, hq]
  show only H (v.cells[r]?) = _
  rw [hc]; rfl
mutual
theorem SV.beq_refl : ∀ (x : SV), SV.beq x x = true
  | .bool b => by cases b <;> rfl
  | .int k n => by simp [SV.beq]
  | .str l => by simp [SV.beq]
  | .nilp => rfl
  | .ptr a b c => by simp [SV.beq]
  | .nils => rfl
  | .slice a b c d => by simp [SV.beq]
  | .agg l => by simp only [SV.beq]; exact SV.beqs_refl l
  | .tup l => by simp only [SV.beq]; exact SV.beqs_refl l
  | .fn f a b => by simp only [SV.beq, SV.beqs_refl a, SV.beqs_refl b]; simp
  | .nilf => rfl
  | .iface t v => by simp only [SV.beq, SV.beq_refl v]; simp
  | .nili => rfl
  | .mp a => by simp [SV.beq]
  | .nilm => rfl
theorem SV.beqs_refl : ∀ (l : List SV), SV.beqs l l = true
  | [] => rfl
  | x :: l => by simp only [SV.beqs, SV.beq_refl x, SV.beqs_refl l]; rfl
 end
theorem ok_same {v : SV} {r : Res} {H' : SHeap} {k : Res} (e : r = some (v, H')) (h : Ok k Q) : Ok (lookK v r k) Q := ok_look e (SV.beq_refl v) h
/- a list that only this slice reaches, with room that nobody knows -/
def OpenL (H : SHeap) (s : SV) (esz el : Nat) (l : List SV) : Prop := (s = .nils ∧ l = []) ∨ ∃ b, s = .slice b 0 l.length (2 * l.length + 1) ∧ H.get b = some (.cells false esz el l) ∧ l ≠ []
def SV.at? (s : SV) (j : Nat) : Prop := ∃ q l c, s = .slice j q l c
/- memory behind an append: all else is there still -/
structure AppH (H H' : SHeap) (s s' : SV) : Prop where
  next : H.next ≤ H'.next
  old : ∀ j o, H.get j = some o → ¬ SV.at? s j → H'.get j = some o
  new : (s' = s ∧ H' = H) ∨ (∃ n c, s' = .slice H.next 0 n c ∧ H'.next = H.next + 1)
theorem newRow_eq (H : SHeap) (esz elem n : Nat) (l : List SV) : newRow H esz elem n l = some (.slice H.next 0 n (2 * n + 1), H.alloc (.cells false esz elem l)) := rfl
theorem ok_append {elem esz bytes : Nat} {H : SHeap} {s x : SV} {k : SV → SHeap → Res} {acc new : List SV} (he : 0 < esz) (hs : OpenL H s esz elem acc) (hx : sElems esz H x = some new) (hg : (acc.length + new.length) * (bytes + esz) ≤ 1099511627776)
    (h : ∀ s' H', OpenL H' s' esz elem (acc ++ new) → AppH H H' s s' → Ok (k s' H') Q) : Ok (pAppend elem esz bytes H s x k) Q := by
  rw [pAppend_eq]
  have hz : Nat.beq esz 0 = false := by rw [beq_iff]; simp; omega
  unfold sAppend
  rw [hz, hx]
  show Ok (bnd (appendAll elem esz bytes H s new) k) Q
  cases new with
  | nil =>
    have hsl : isSlice s = true := by rcases hs with ⟨rfl, _⟩ | ⟨b, rfl, _, _⟩ <;> rfl
    show Ok (bnd (bif isSlice s then some (s, H) else none) k) Q
    rw [hsl]
    refine h s H (by rw [List.append_nil]; exact hs) ⟨Nat.le_refl _, fun j o hj _ => hj, .inl ⟨rfl, rfl⟩⟩
  | cons a t =>
    have hgr : great (acc.length + (a :: t).length) bytes esz = false := by unfold great; rw [ble_iff, decide_eq_true hg]; rfl
    show Ok (bnd (appendSome elem esz bytes H s (a :: t) (a :: t).length) k) Q
    rcases hs with ⟨rfl, rfl⟩ | ⟨b, rfl, hb, _⟩
    · have hgr' : great (a :: t).length bytes esz = false := by simpa using hgr
      show Ok (bnd (bif great (a :: t).length bytes esz then none else newRow H esz elem (a :: t).length (a :: t)) k) Q
      rw [hgr']
      refine h _ _ (.inr ⟨H.next, rfl, (New.of_alloc _ _).at, by simp⟩) ⟨Nat.le_succ _, fun j o hj _ => (New.of_alloc H _).old hj, .inr ⟨_, _, rfl, rfl⟩⟩
    · show Ok (bnd (bif great (acc.length + (a :: t).length) bytes esz then none else match H.get b with
        | some o => match o with
          | .cells ro e el l => appendTo elem esz H b 0 acc.length (2 * acc.length + 1) (a :: t) (a :: t).length ro e el l
          | _ => none
        | none => none) k) Q
      rw [hgr, hb]
      show Ok (bnd (appendTo elem esz H b 0 acc.length (2 * acc.length + 1) (a :: t) (a :: t).length false esz elem acc) k) Q
      unfold appendTo
      have h1 : Nat.beq esz esz = true := by rw [beq_iff]; simp
      have h2 : Nat.ble (0 + acc.length) acc.length = true := by rw [ble_iff]; simp
      have h3 : Nat.ble (acc.length + (a :: t).length) ((2 * acc.length + 1) / 2) = false := by rw [ble_iff]; simp; omega
      have h4 : Nat.beq ((2 * acc.length + 1) % 2) 0 = false := by rw [beq_iff, decide_eq_false (by omega)]
      rw [h1, h2, h3, h4]
      show Ok (bnd (newRow (H.set b .dead) esz elem (acc.length + (a :: t).length) ((acc.drop 0).take acc.length ++ (a :: t))) k) Q
      rw [List.drop_zero, List.take_length, newRow_eq]
      have hlt := SHeap.lt_of_get hb
      refine h _ _ (.inr ⟨H.next, by rw [List.length_append]; rfl, (New.of_alloc (H.set b .dead) _).at, by simp⟩) ⟨Nat.le_succ _, fun j o hj hn => (New.of_alloc (H.set b .dead) _).old ?_, .inr ⟨_, _, rfl, rfl⟩⟩
      rw [SHeap.get_set _ _ _ _ hlt, if_neg (fun e => hn ⟨0, acc.length, _, by rw [e]⟩), hj]
theorem OpenL.elems {H : SHeap} {s : SV} {esz el : Nat} {l : List SV} (h : OpenL H s esz el l) : sElems esz H s = some l := by
  rcases h with ⟨rfl, rfl⟩ | ⟨b, rfl, hb, _⟩
  · rfl
  · show (match H.get b with
      | some o => match o with
        | .cells _ e _ m => elemsIn esz 0 l.length e m
        | _ => none
      | none => none) = _
    rw [hb]
    show elemsIn esz 0 l.length esz l = _
    unfold elemsIn
    have h1 : Nat.beq esz esz = true := by rw [beq_iff]; simp
    have h2 : Nat.ble (0 + l.length) l.length = true := by rw [ble_iff]; simp
    rw [h1, h2]
    simp
theorem sElems_old {esz : Nat} {H H' : SHeap} {s : SV} {l : List SV} (h : sElems esz H s = some l) (ho : ∀ j o, H.get j = some o → SV.at? s j → H'.get j = some o) : sElems esz H' s = some l := by
  unfold sElems at h ⊢
  cases s <;> try exact h
  rename_i b q len cap
  simp only at h ⊢
  cases hb : H.get b with
  | none => rw [hb] at h; cases h
  | some o =>
    rw [hb] at h
    rw [ho b o hb ⟨_, _, _, rfl⟩]
    exact h
theorem sMin2 (a b : Int) : sMin a .i64 [.int .i64 b] = some (.int .i64 (min a b)) := by
  show some (SV.int .i64 (bif iLt b a then b else a)) = _
  rw [iLt_eq]
  by_cases h : b < a
  · rw [decide_eq_true h, cond_true, Int.min_eq_right (by omega)]
  · rw [decide_eq_false h, cond_false, Int.min_eq_left (by omega)]
theorem xMin2 (a b : Int) (H : SHeap) : xMin [.int .i64 a, .int .i64 b] H = some (.int .i64 (min a b), H) := by
  show only H (sMin a .i64 [.int .i64 b]) = _
  rw [sMin2]; rfl
theorem sMax2 (a b : Int) : sMax a .i64 [.int .i64 b] = some (.int .i64 (max a b)) := by
  show some (SV.int .i64 (bif iLt a b then b else a)) = _
  rw [iLt_eq]
  by_cases h : a < b
  · rw [decide_eq_true h, cond_true, Int.max_eq_right (by omega)]
  · rw [decide_eq_false h, cond_false, Int.max_eq_left (by omega)]
theorem xMax2 (a b : Int) (H : SHeap) : xMax [.int .i64 a, .int .i64 b] H = some (.int .i64 (max a b), H) := by
  show only H (sMax a .i64 [.int .i64 b]) = _
  rw [sMax2]; rfl
end Go.Sim
