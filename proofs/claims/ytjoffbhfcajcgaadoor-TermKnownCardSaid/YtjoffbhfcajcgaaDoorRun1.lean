/- The direct style: short forms of the operations, and the rules that lead from the code to them. -/
import Derived.Test.YtjoffbhfcajcgaaDoorRun0
import Derived.Test.YtjoffbhfcajcgaaDoorSim2
set_option linter.unusedVariables false
set_option linter.unusedSimpArgs false
namespace Go.Sim
noncomputable section

/- a guarded operation -/
def wants (v : SV) (w : Bool) : Bool :=
  @SV.rec (fun _ => Bool → Bool) (fun _ => PUnit) (fun b w => ifR b w (notR w)) (fun _ _ _ => false) (fun _ _ => false) (fun _ => false) (fun _ _ _ _ => false) (fun _ => false) (fun _ _ _ _ _ => false) (fun _ _ _ => false) (fun _ _ _ => false) (fun _ _ _ _ _ _ => false) (fun _ => false) (fun _ _ _ _ => false) (fun _ => false) (fun _ _ => false) (fun _ => false) PUnit.unit (fun _ _ _ _ => PUnit.unit) v w
theorem wants_eq (e : Env) (t : Nat) (w : Bool) : wants (e.at t) w = wantedAt e t w := by
  unfold wantedAt
  cases e.at t <;> try rfl
  rename_i b; cases b <;> cases w <;> rfl
def guardR (v : SV) (w : Bool) (r : Res) (H : SHeap) : Res := ifR (wants v w) r (some (SV.undef, H))
def lookK (v : SV) (r : Res) (k : Res) : Res :=
  match r with
  | some (v', _) => bif SV.beq v v' then k else none
  | none => none
abbrev K1 := SV → Res
def pPick (c a b : SV) (k : K1) : Res := asBool c fun t => ifR t (k a) (k b)
def loadK (y : Lay) (q r esz : Nat) (l : List SV) (k : K1) : Res :=
  ifR y.agg (ifR (Nat.ble (r + y.total) esz) (optR (nthR l q) fun v => optR (elemGet y.total r v) k) (optR (loadIn y q r esz l) k))
    (optR (nthR l q) fun v => optR (nthR (cellR v r v) r) k)
def pLoad (y : Lay) (p : SV) (H : SHeap) (k : K1) : Res := asPtr p fun b q r => asCells (getR H b) fun _ esz _ l => loadK y q r esz l k
/- the value v with its cell r set to x -/
def elemK (v : SV) (r : Nat) (x : SV) (k : K1) : Res :=
  @SV.rec (fun _ => Nat → SV → K1 → Res) (fun _ => PUnit) (fun _ r x k => Nat.rec (motive := fun _ => Res) (k x) (fun _ _ => none) r) (fun _ _ r x k => Nat.rec (motive := fun _ => Res) (k x) (fun _ _ => none) r) (fun _ r x k => Nat.rec (motive := fun _ => Res) (k x) (fun _ _ => none) r) (fun r x k => Nat.rec (motive := fun _ => Res) (k x) (fun _ _ => none) r) (fun _ _ _ r x k => Nat.rec (motive := fun _ => Res) (k x) (fun _ _ => none) r) (fun r x k => Nat.rec (motive := fun _ => Res) (k x) (fun _ _ => none) r) (fun _ _ _ _ r x k => Nat.rec (motive := fun _ => Res) (k x) (fun _ _ => none) r)
    (fun xs _ r x k => optR (nthR xs r) fun _ => setK xs r x fun xs' => k (.agg xs')) (fun _ _ r x k => Nat.rec (motive := fun _ => Res) (k x) (fun _ _ => none) r) (fun _ _ _ _ _ r x k => Nat.rec (motive := fun _ => Res) (k x) (fun _ _ => none) r) (fun r x k => Nat.rec (motive := fun _ => Res) (k x) (fun _ _ => none) r) (fun _ _ _ r x k => Nat.rec (motive := fun _ => Res) (k x) (fun _ _ => none) r) (fun r x k => Nat.rec (motive := fun _ => Res) (k x) (fun _ _ => none) r) (fun _ r x k => Nat.rec (motive := fun _ => Res) (k x) (fun _ _ => none) r) (fun r x k => Nat.rec (motive := fun _ => Res) (k x) (fun _ _ => none) r) PUnit.unit (fun _ _ _ _ => PUnit.unit) v r x k
def storeK (y : Lay) (q r : Nat) (x : SV) (esz : Nat) (l : List SV) (k : List SV → Res) : Res :=
  ifR (ifR (isFlat x) y.flat false) (ifR (Nat.ble (Nat.succ r) esz) (optR (nthR l q) fun v => elemK v r x fun v' => setK l q v' k) none) (optR (storeIn y q r x esz l) fun l' => listK l' k)
def pStore (y : Lay) (p v : SV) (H : SHeap) (k : SHeap → Res) : Res :=
  asPtr p fun b q r => asCells (getR H b) fun ro esz el l => ifR ro none (storeK y q r v esz l fun l' => heapSetK H b (.cells false esz el l') k)
def pBin (op : BinOp) (x y : SV) (k : K1) : Res := optR (sBin op .no x y) k
def pAdd (x y : SV) (k : K1) : Res := byNum x (fun j a => asInt y fun j' b => ifR (kEqR j j') (wrapK j (addI a b) k) none) (fun s => asStr y fun t => optR (bJoin s t) k) none
def pSub (x y : SV) (k : K1) : Res := int2 x y fun j a b => wrapK j (subI a b) k
def cmpK (x y : SV) (f : Int → Int → Bool) (g : List Nat → List Nat → Bool) (k : K1) : Res :=
  byNum x (fun j a => asInt y fun j' b => ifR (kEqR j j') (boolK (f a b) k) none) (fun s => asStr y fun t => boolK (g s t) k) none
def pLss (x y : SV) (k : K1) : Res := cmpK x y (fun a b => notR (leI b a)) bytesLess k
def pLeq (x y : SV) (k : K1) : Res := cmpK x y leI (fun a b => bytesLess a b || lEq a b) k
def pGtr (x y : SV) (k : K1) : Res := cmpK x y (fun a b => notR (leI a b)) (fun a b => !(bytesLess a b || lEq a b)) k
def pGeq (x y : SV) (k : K1) : Res := cmpK x y (fun a b => leI b a) (fun a b => !(bytesLess a b)) k
def pEql (e : EqK) (x y : SV) (k : K1) : Res :=
  byNum x (fun j a => asInt y fun j' b => ifR (kEqR j j') (boolK (eqI a b) k) none) (fun s => asStr y fun t => boolK (strEq s t) k) (optR (eqOther e x y) fun b => boolK b k)
def pNeq (e : EqK) (x y : SV) (k : K1) : Res :=
  byNum x (fun j a => asInt y fun j' b => ifR (kEqR j j') (boolK (notR (eqI a b)) k) none) (fun s => asStr y fun t => boolK (notR (strEq s t)) k) (optR (eqOther e x y) fun b => boolK (notR b) k)
def pUn (op : UnOp) (x : SV) (k : K1) : Res := optR (sUn op x) k
def pToInt (kd : IntKind) (x : SV) (k : K1) : Res := asInt x fun _ n => wrapK kd n k
def pNilCheck (x : SV) (k : K1) : Res := asPtr x fun b q r => k (.ptr b q r)
def pLenS (x : SV) (k : K1) : Res := asStr x fun s => natK (lenR s) fun n => k (.int .i64 (.ofNat n))
def pLenL (x : SV) (k : K1) : Res := asSlice x (k (.int .i64 (.ofNat 0))) fun _ _ len _ => k (.int .i64 (.ofNat len))
def pFieldAddr (off : Nat) (x : SV) (k : K1) : Res := asPtr x fun b q r => natK (Nat.add r off) fun r' => k (.ptr b q r')
def pExtract (i : Nat) (x : SV) (k : K1) : Res := asTup x fun vs => optR (nthR vs i) k
def pIdxAddrL (esz : Nat) (x i : SV) (H : SHeap) (k : K1) : Res :=
  asSlice x none fun b q len _ => asNat i fun j => ifR (Nat.ble (Nat.succ j) len) (asCells (getR H b) fun _ e _ _ => ifR (Nat.beq e esz) (natK (Nat.add q j) fun q' => k (.ptr b q' 0)) none) none
def hasR (H : SHeap) (b esz : Nat) : Bool := Option.rec (motive := fun _ => Bool) false (fun o => SObj.rec (motive := fun _ => Bool) false (fun _ e _ _ => Nat.beq e esz) (fun _ _ => false) (fun _ _ => false) o) (getR H b)
def pIdxAddrA (n esz : Nat) (x i : SV) (H : SHeap) (k : K1) : Res :=
  asPtr x fun b q r => asNat i fun j => ifR (Nat.ble (Nat.succ j) n) (ifR (ifR (Nat.beq r 0) (hasR H b esz) false) (natK (Nat.add q j) fun q' => k (.ptr b q' 0)) (natK (Nat.add r (Nat.mul j esz)) fun r' => k (.ptr b q r'))) none
def pField (off sz : Nat) (agg : Bool) (x : SV) (k : K1) : Res := asAgg x fun cs => ifR agg (optR (sPart off sz agg cs) k) (optR (nthR cs off) k)
def pIdxS (x i : SV) (k : K1) : Res := asStr x fun s => asNat i fun j => optR (nthR s j) fun n => k (.int .u8 (.ofNat n))
def pAlloc (y : Lay) (zero : SV) (H : SHeap) (k : SV → SHeap → Res) : Res :=
  natK y.esz fun es => natK y.elem fun el => listK (y.elems zero) fun l => natK H.2 fun b => heapNewK H (.cells false es el l) fun H' => k (.ptr b 0 0) H'
def newRowK (H : SHeap) (esz elem n : Nat) (l : List SV) (k : SV → SHeap → Res) : Res :=
  natK n fun n => listK l fun l => natK H.2 fun b => natK (2 * n + 1) fun c => heapNewK H (.cells false esz elem l) fun H' => k (.slice b 0 n c) H'
def appK (elem esz : Nat) (H : SHeap) (b q len cap : Nat) (new : List SV) (m : Nat) (k : SV → SHeap → Res) (ro : Bool) (e el : Nat) (l : List SV) : Res :=
  ifR (ifR (Nat.beq e esz) (Nat.ble (q + len) (lenR l)) false)
    (ifR (Nat.ble (len + m) (cap / 2))
      (ifR (ifR (notR ro) (Nat.ble (q + len + m) (lenR l)) false) (setAtK new l (q + len) fun l' => natK (len + m) fun n => heapSetK H b (.cells false e el l') fun H' => k (.slice b q n cap) H') none)
      (ifR (Nat.beq (cap % 2) 0) (newRowK H esz elem (len + m) ((l.drop q).take len ++ new) k) (ifR ro none (heapSetK H b .dead fun H' => newRowK H' esz elem (len + m) ((l.drop q).take len ++ new) k)))) none
def pAppend (elem esz bytes : Nat) (H : SHeap) (s x : SV) (k : SV → SHeap → Res) : Res :=
  ifR (Nat.beq esz 0) none (optR (sElems esz H x) fun new => listK new fun new =>
    List.rec (motive := fun _ => Res) (ifR (isSlice s) (k s H) none)
      (fun _ _ _ => natK (lenR new) fun m => asSlice s (ifR (great m bytes esz) none (newRowK H esz elem m new k)) fun b q len cap =>
        ifR (great (len + m) bytes esz) none (asCells (getR H b) (appK elem esz H b q len cap new m k))) new)

theorem asPtr_eq (p : SV) (k : Nat → Nat → Nat → Res) : asPtr p k = (match p with
    | .ptr b q r => k b q r
    | _ => none) := by cases p <;> rfl
theorem optR_eq {α : Type} (r : Option α) (k : α → Res) : optR r k = (match r with
    | some a => k a
    | none => none) := by cases r <;> rfl
theorem asCells_eq (o : Option SObj) (k : Bool → Nat → Nat → List SV → Res) : asCells o k = (match o with
    | some (.cells a b c d) => k a b c d
    | _ => none) := by
  cases o with
  | none => rfl
  | some o => cases o <;> rfl
theorem bnd_only (H : SHeap) (v : Option SV) (k : SV → SHeap → Res) : bnd (only H v) k = optR v (fun v => k v H) := by cases v <;> rfl
theorem bnd_pick (c a b : SV) (H : SHeap) (k : SV → SHeap → Res) : bnd (xPick c a b H) k = pPick c a b (fun v => k v H) := by
  cases c <;> try rfl
  rename_i t; cases t <;> rfl
theorem optR_bind {α β : Type} (r : Option α) (f : α → Option β) (k : β → Res) : optR (r.bind f) k = optR r fun a => optR (f a) k := by cases r <;> rfl
theorem optR_map {α β : Type} (r : Option α) (f : α → β) (k : β → Res) : optR (r.map f) k = optR r fun a => k (f a) := by cases r <;> rfl
theorem loadK_eq (y : Lay) (q r esz : Nat) (l : List SV) (k : K1) : loadK y q r esz l k = optR (loadIn y q r esz l) k := by
  unfold loadK
  simp only [ifR_eq, nthR_eq, cellR_eq]
  unfold loadIn
  cases y.agg with
  | true =>
    simp only [cond_true]
    cases Nat.ble (r + y.total) esz
    · simp only [cond_false]
    · simp only [cond_true, optR_bind]
  | false =>
    simp only [cond_false, optR_bind]
theorem bnd_load (y : Lay) (p : SV) (H : SHeap) (k : SV → SHeap → Res) : bnd (xLoad y p H) k = pLoad y p H (fun v => k v H) := by
  cases p <;> try rfl
  rename_i b q r
  show bnd (only H (sLoad y H b q r)) k = asCells (getR H b) fun _ esz _ l => loadK y q r esz l fun v => k v H
  rw [bnd_only, getR_eq]
  unfold sLoad cellsAt
  cases H.get b with
  | none => rfl
  | some o =>
    cases o <;> try rfl
    exact (loadK_eq ..).symm
theorem elemK_eq (v : SV) (r : Nat) (x : SV) (hx : x.cells = [x]) (k : K1) : elemK v r x k = optR (elemSet 1 r x v) k := by
  cases v
  case agg xs =>
    show optR (nthR xs r) (fun _ => setK xs r x fun xs' => k (.agg xs')) = _
    rw [nthR_eq]
    simp only [setK_eq]
    unfold elemSet
    simp only [hx]
    by_cases h1 : (Nat.beq r 0 && Nat.beq xs.length 1) = true
    · rw [h1]
      simp only [Bool.and_eq_true] at h1
      have hr := Nat.eq_of_beq_eq_true h1.1
      have hl := Nat.eq_of_beq_eq_true h1.2
      subst hr
      match xs, hl with
      | [a], _ => rfl
    · rw [Bool.eq_false_iff.2 h1]
      simp only [cond_false, elemPut, List.length_cons, List.length_nil, Nat.zero_add, putAll]
      by_cases h2 : r + 1 ≤ xs.length
      · have : Nat.ble (r + 1) xs.length = true := by rw [ble_iff]; simp [h2]
        rw [this, List.getElem?_eq_getElem (by omega)]
        rfl
      · have : Nat.ble (r + 1) xs.length = false := by rw [ble_iff]; simp; omega
        rw [this, List.getElem?_eq_none (by omega)]
        rfl
  all_goals (show Nat.rec (motive := fun _ => Res) (k x) (fun _ _ => none) r = optR (elemPut1 r x.cells) k; rw [hx]; cases r <;> rfl)
theorem flat_cells {x : SV} (h : isFlat x = true) : x.cells = [x] ∧ x.cell = true := by cases x <;> first | (cases h; done) | exact ⟨rfl, rfl⟩
theorem storeK_eq (y : Lay) (q r : Nat) (x : SV) (esz : Nat) (l : List SV) (k : List SV → Res) : storeK y q r x esz l k = optR (storeIn y q r x esz l) k := by
  unfold storeK
  simp only [ifR_eq, listK_eq]
  cases hf : isFlat x with
  | false => simp only [cond_false]
  | true =>
    obtain ⟨h1, h2⟩ := flat_cells hf
    cases hy : y.flat with
    | false => simp only [cond_true, cond_false]
    | true =>
      simp only [cond_true]
      have hy' : y.agg = false ∧ y.arr = false ∧ y.total = 1 := by
        obtain ⟨n, es, sc, agg, arr, el⟩ := y
        unfold Lay.flat at hy
        simp only [ifR_eq] at hy
        cases agg <;> cases arr <;> simp only [cond_true, cond_false] at hy <;> first | (cases hy; done) | exact ⟨rfl, rfl, Nat.eq_of_beq_eq_true hy⟩
      have hn : isN y.total x = true := by unfold isN; rw [hy'.2.2, h1]; simp [h2]
      unfold storeIn
      rw [hn, hy'.2.2, hy'.2.1]
      simp only [cond_true, Nat.succ_eq_add_one]
      cases hb : Nat.ble (r + 1) esz with
      | true =>
        simp only [cond_true, nthR_eq, optR_bind, optR_map, setK_eq]
        cases l[q]? with
        | none => rfl
        | some v => exact elemK_eq v r x h1 _
      | false => simp [optR]
theorem bnd_store (y : Lay) (p v : SV) (H : SHeap) (k : SV → SHeap → Res) : bnd (xStore y p v H) k = pStore y p v H (fun H' => k SV.undef H') := by
  cases p <;> try rfl
  rename_i b q r
  show bnd (none2 (sStore y H b q r v)) k = asCells (getR H b) fun ro esz el l => ifR ro none (storeK y q r v esz l fun l' => heapSetK H b (.cells false esz el l') fun H' => k SV.undef H')
  rw [getR_eq]
  unfold sStore
  cases H.get b with
  | none => rfl
  | some o =>
    cases o <;> try rfl
    rename_i ro esz el l
    show _ = ifR ro none (storeK y q r v esz l fun l' => heapSetK H b (.cells false esz el l') fun H' => k SV.undef H')
    rw [storeK_eq]
    simp only [heapSetK_eq]
    cases ro
    · show bnd (none2 ((storeIn y q r v esz l).map fun l' => H.set b (.cells false esz el l'))) k = _
      cases storeIn y q r v esz l <;> rfl
    · rfl
theorem byNum_eq (x : SV) (f : IntKind → Int → Res) (g : List Nat → Res) (z : Res) : byNum x f g z = (match x with
    | .int k n => f k n
    | .str s => g s
    | _ => z) := by cases x <;> rfl
theorem bnd_add (x y : SV) (e : EqK) (H : SHeap) (k : SV → SHeap → Res) : bnd (only H (sBin .add e x y)) k = pAdd x y (fun v => k v H) := by
  rw [bnd_only]
  cases x <;> try rfl
  · rename_i j a
    cases y <;> try rfl
    rename_i j' b
    show optR (bif kEq j j' then some (SV.int j (wrapQ j (a + b))) else none) _ = ifR (kEqR j j') (wrapK j (addI a b) _) none
    rw [ifR_eq, kEqR_eq, wrapK_eq, addI_eq]
    cases kEq j j' <;> rfl
  · cases y <;> rfl
theorem bnd_sub (x y : SV) (e : EqK) (H : SHeap) (k : SV → SHeap → Res) : bnd (only H (sBin .sub e x y)) k = pSub x y (fun v => k v H) := by
  rw [bnd_only]
  cases x <;> try rfl
  rename_i j a
  cases y <;> try rfl
  rename_i j' b
  show optR (bif kEq j j' then some (SV.int j (wrapQ j (a - b))) else none) _ = ifR (kEqR j j') (wrapK j (subI a b) _) none
  rw [ifR_eq, kEqR_eq, wrapK_eq, subI_eq]
  cases kEq j j' <;> rfl
theorem cmp_eq (x y : SV) (f : IntKind → Int → Int → Option SV) (g : List Nat → List Nat → Option SV) (f' : Int → Int → Bool) (g' : List Nat → List Nat → Bool) (hf : ∀ k a b, f k a b = some (.bool (f' a b))) (hg : ∀ a b, g a b = some (.bool (g' a b))) (k : K1) : optR (nums2 x y f g) k = cmpK x y f' g' k := by
  cases x <;> try rfl
  · rename_i j a
    cases y <;> try rfl
    rename_i j' b
    show optR (bif kEq j j' then f j a b else none) k = ifR (kEqR j j') (boolK (f' a b) k) none
    rw [ifR_eq, kEqR_eq, boolK_eq, hf]
    cases kEq j j' <;> rfl
  · rename_i s
    cases y <;> try rfl
    rename_i t
    show optR (g s t) k = boolK (g' s t) k
    rw [hg, boolK_eq]; rfl
theorem bnd_lss (x y : SV) (e : EqK) (H : SHeap) (k : SV → SHeap → Res) : bnd (only H (sBin .lss e x y)) k = pLss x y (fun v => k v H) := by
  rw [bnd_only]; exact cmp_eq x y _ _ _ _ (fun _ a b => by rw [notR_eq, leI_eq]; rfl) (fun _ _ => rfl) _
theorem bnd_leq (x y : SV) (e : EqK) (H : SHeap) (k : SV → SHeap → Res) : bnd (only H (sBin .leq e x y)) k = pLeq x y (fun v => k v H) := by
  rw [bnd_only]; exact cmp_eq x y _ _ _ _ (fun _ a b => by rw [leI_eq]) (fun _ _ => rfl) _
theorem bnd_gtr (x y : SV) (e : EqK) (H : SHeap) (k : SV → SHeap → Res) : bnd (only H (sBin .gtr e x y)) k = pGtr x y (fun v => k v H) := by
  rw [bnd_only]; exact cmp_eq x y _ _ _ _ (fun _ a b => by rw [notR_eq, leI_eq]; rfl) (fun _ _ => rfl) _
theorem bnd_geq (x y : SV) (e : EqK) (H : SHeap) (k : SV → SHeap → Res) : bnd (only H (sBin .geq e x y)) k = pGeq x y (fun v => k v H) := by
  rw [bnd_only]; exact cmp_eq x y _ _ _ _ (fun _ a b => by rw [leI_eq]) (fun _ _ => rfl) _
theorem bnd_eql (x y : SV) (e : EqK) (H : SHeap) (k : SV → SHeap → Res) : bnd (only H (sBin .eql e x y)) k = pEql e x y (fun v => k v H) := by
  rw [bnd_only]
  show optR ((sEq e x y).map SV.bool) (fun v => k v H) = _
  rw [optR_map]
  unfold pEql
  simp only [boolK_eq, ifR_eq, kEqR_eq, eqI_eq, strEq_eq]
  cases x <;> try rfl
  · rename_i j a
    cases y <;> try rfl
    rename_i j' b
    show optR (bif kEq j j' then some (iEq a b) else none) _ = (bif kEq j j' then _ else none)
    cases kEq j j' <;> rfl
  · cases y <;> rfl
theorem bnd_neq (x y : SV) (e : EqK) (H : SHeap) (k : SV → SHeap → Res) : bnd (only H (sBin .neq e x y)) k = pNeq e x y (fun v => k v H) := by
  rw [bnd_only]
  show optR ((sEq e x y).map fun b => SV.bool (!b)) (fun v => k v H) = _
  rw [optR_map]
  unfold pNeq
  simp only [boolK_eq, ifR_eq, kEqR_eq, eqI_eq, strEq_eq, notR_eq]
  cases x <;> try rfl
  · rename_i j a
    cases y <;> try rfl
    rename_i j' b
    show optR (bif kEq j j' then some (iEq a b) else none) _ = (bif kEq j j' then _ else none)
    cases kEq j j' <;> rfl
  · cases y <;> rfl
theorem bnd_bin (op : BinOp) (h1 : op ≠ .eql) (h2 : op ≠ .neq) (x y : SV) (e : EqK) (H : SHeap) (k : SV → SHeap → Res) : bnd (only H (sBin op e x y)) k = pBin op x y (fun v => k v H) := by
  rw [bnd_only]
  cases op <;> first | rfl | (exact absurd rfl h1) | (exact absurd rfl h2)
theorem bnd_toInt (kd : IntKind) (x : SV) (H : SHeap) (k : SV → SHeap → Res) : bnd (xToInt kd x H) k = pToInt kd x (fun v => k v H) := by
  cases x <;> try rfl
  rename_i j n
  show k (.int kd (wrapQ kd n)) H = wrapK kd n (fun v => k v H)
  rw [wrapK_eq]
theorem bnd_nilCheck (x : SV) (H : SHeap) (k : SV → SHeap → Res) : bnd (xNilCheck x H) k = pNilCheck x (fun v => k v H) := by cases x <;> rfl
theorem bnd_lenS (x : SV) (H : SHeap) (k : SV → SHeap → Res) : bnd (xLenS x H) k = pLenS x (fun v => k v H) := by
  cases x <;> try rfl
  rename_i s
  show k (.int .i64 (.ofNat s.length)) H = natK (lenR s) fun n => k (.int .i64 (.ofNat n)) H
  rw [natK_eq, lenR_eq]
theorem bnd_lenL (x : SV) (H : SHeap) (k : SV → SHeap → Res) : bnd (xLenL x H) k = pLenL x (fun v => k v H) := by cases x <;> rfl
theorem bnd_fieldAddr (o : Nat) (x : SV) (H : SHeap) (k : SV → SHeap → Res) : bnd (xFieldAddr o x H) k = pFieldAddr o x (fun v => k v H) := by
  cases x <;> try rfl
  rename_i b q r
  show k (.ptr b q (r + o)) H = natK (Nat.add r o) fun r' => k (.ptr b q r') H
  rw [natK_eq]; rfl
theorem bnd_extract (i : Nat) (x : SV) (H : SHeap) (k : SV → SHeap → Res) : bnd (xExtract i x H) k = pExtract i x (fun v => k v H) := by
  cases x <;> try rfl
  show bnd (only H _) k = optR (nthR _ _) _
  rw [bnd_only, nthR_eq]
theorem bnd_field (a b : Nat) (c : Bool) (x : SV) (H : SHeap) (k : SV → SHeap → Res) : bnd (xField a b c x H) k = pField a b c x (fun v => k v H) := by
  cases x <;> try rfl
  show bnd (only H _) k = ifR c _ _
  rw [bnd_only, nthR_eq, ifR_eq]
  cases c <;> rfl
theorem hasR_eq (H : SHeap) (b esz : Nat) : hasR H b esz = hasEsz H b esz := by
  unfold hasR hasEsz
  rw [getR_eq]
  cases H.get b with
  | none => rfl
  | some o => cases o <;> rfl
theorem bnd_idxAddrL (esz : Nat) (x i : SV) (H : SHeap) (k : SV → SHeap → Res) : bnd (xIdxAddrL esz x i H) k = pIdxAddrL esz x i H (fun v => k v H) := by
  cases x <;> try rfl
  rename_i b q len cap
  show bnd (match sNat i with
    | some k => bif Nat.ble (k + 1) len && hasEsz H b esz then some (.ptr b (q + k) 0, H) else none
    | none => none) k = asNat i _
  rw [asNat_eq]
  cases sNat i with
  | none => rfl
  | some j =>
    simp only [ifR_eq, natK_eq, getR_eq]
    unfold hasEsz
    show bnd (bif Nat.ble (j + 1) len && _ then _ else none) k = bif Nat.ble (j + 1) len then _ else none
    cases Nat.ble (j + 1) len
    · rfl
    · simp only [Bool.true_and, cond_true]
      cases H.get b with
      | none => rfl
      | some o =>
        cases o <;> try rfl
        rename_i ro e el l
        show bnd (bif Nat.beq e esz then _ else none) k = (bif Nat.beq e esz then _ else none)
        cases Nat.beq e esz <;> rfl
theorem bnd_idxAddrA (n esz : Nat) (x i : SV) (H : SHeap) (k : SV → SHeap → Res) : bnd (xIdxAddrA n esz x i H) k = pIdxAddrA n esz x i H (fun v => k v H) := by
  cases x <;> try rfl
  rename_i b q r
  show bnd (match sNat i with
    | some k => bif Nat.ble (k + 1) n then some (bif Nat.beq r 0 && hasEsz H b esz then .ptr b (q + k) 0 else .ptr b q (r + k * esz), H) else none
    | none => none) k = asNat i _
  rw [asNat_eq]
  cases sNat i with
  | none => rfl
  | some j =>
    simp only [ifR_eq, natK_eq, hasR_eq]
    show bnd (bif Nat.ble (j + 1) n then _ else none) k = bif Nat.ble (j + 1) n then _ else none
    cases Nat.ble (j + 1) n
    · rfl
    · simp only [cond_true, bnd_some]
      cases Nat.beq r 0 <;> cases hasEsz H b esz <;> rfl
theorem bnd_idxS (x i : SV) (H : SHeap) (k : SV → SHeap → Res) : bnd (xIdxS x i H) k = pIdxS x i (fun v => k v H) := by
  cases x <;> try rfl
  rename_i s
  show bnd (match sNat i with
    | some k => match s[k]? with
      | some n => some (SV.int .u8 (.ofNat n), H)
      | none => none
    | none => none) k = asNat i _
  rw [asNat_eq]
  cases sNat i with
  | none => rfl
  | some j =>
    simp only [nthR_eq]
    cases s[j]? <;> rfl
theorem bnd_alloc (y : Lay) (z : SV) (H : SHeap) (k : SV → SHeap → Res) : bnd (xAlloc y z H) k = pAlloc y z H k := by
  unfold pAlloc
  simp only [natK_eq, listK_eq, heapNewK_eq]
  rfl
theorem newRowK_eq (H : SHeap) (esz elem n : Nat) (l : List SV) (k : SV → SHeap → Res) : newRowK H esz elem n l k = bnd (newRow H esz elem n l) k := by
  unfold newRowK
  simp only [natK_eq, listK_eq, heapNewK_eq]
  rfl
theorem appK_eq (elem esz : Nat) (H : SHeap) (b q len cap : Nat) (new : List SV) (m : Nat) (k : SV → SHeap → Res) (ro : Bool) (e el : Nat) (l : List SV) : appK elem esz H b q len cap new m k ro e el l = bnd (appendTo elem esz H b q len cap new m ro e el l) k := by
  unfold appK appendTo
  simp only [ifR_eq, lenR_eq, setAtK_eq, natK_eq, heapSetK_eq, newRowK_eq, notR_eq]
  cases Nat.beq e esz <;> cases Nat.ble (q + len) l.length <;> simp only [cond_true, cond_false, Bool.and_true, Bool.and_false, Bool.true_and, Bool.false_and] <;> try rfl
  cases Nat.ble (len + m) (cap / 2) <;> simp only [cond_true, cond_false]
  · cases Nat.beq (cap % 2) 0 <;> simp only [cond_true, cond_false]
    cases ro <;> rfl
  · cases ro <;> cases Nat.ble (q + len + m) l.length <;> rfl
theorem bnd_append (elem esz bytes : Nat) (H : SHeap) (s x : SV) (k : SV → SHeap → Res) : bnd (sAppend elem esz bytes H s x) k = pAppend elem esz bytes H s x k := by
  unfold sAppend pAppend
  rw [ifR_eq]
  cases Nat.beq esz 0
  · simp only [cond_false]
    cases sElems esz H x with
    | none => rfl
    | some new =>
      show bnd (appendAll elem esz bytes H s new) k = listK new _
      rw [listK_eq]
      cases new with
      | nil =>
        show bnd (bif isSlice s then some (s, H) else none) k = ifR (isSlice s) (k s H) none
        rw [ifR_eq]
        cases isSlice s <;> rfl
      | cons a t =>
        show bnd (appendSome elem esz bytes H s (a :: t) (a :: t).length) k = natK (lenR (a :: t)) _
        rw [natK_eq, lenR_eq]
        cases s <;> try rfl
        · show bnd (bif great _ bytes esz then none else _) k = ifR _ none _
          rw [ifR_eq, newRowK_eq]
          cases great (a :: t).length bytes esz <;> rfl
        · rename_i b q len cap
          show bnd (bif great _ bytes esz then none else _) k = ifR _ none _
          rw [ifR_eq, getR_eq]
          cases great (len + (a :: t).length) bytes esz
          · simp only [cond_false]
            cases H.get b with
            | none => rfl
            | some o =>
              cases o <;> try rfl
              exact (appK_eq ..).symm
          · rfl
  · rfl

/- draws with looks -/
def nth {α : Type} : List α → Nat → Option α
  | [], _ => none
  | a :: _, 0 => some a
  | _ :: l, k + 1 => nth l k
theorem nth_eq {α : Type} : ∀ (l : List α) (k : Nat), nth l k = l[k]?
  | [], k => rfl
  | a :: l, 0 => rfl
  | a :: l, k + 1 => by simp [nth, nth_eq l k]
theorem nth_zero {α : Type} (a : α) (l : List α) : nth (a :: l) 0 = some a := rfl
theorem nth_succ {α : Type} (a : α) (l : List α) (k : Nat) : nth (a :: l) (k + 1) = nth l k := rfl
theorem nth_nil {α : Type} (k : Nat) : nth ([] : List α) k = none := rfl
abbrev Tail := List (Env × SHeap × SV)
def traceK (call : Caller) : List SOper → Env → SHeap → Tail → (Tail → Env → SHeap → Res) → Res
  | [], e, H, tr, k => k tr e H
  | o :: os, e, H, tr, k => bnd (sStep call o e H) fun v H' => traceK call os (e.put o.dst v) H' (tr ++ [(e, H, v)]) k
def heapK (t : Option (Env × SHeap × SV)) (last : SHeap) : SHeap :=
  match t with
  | some (_, h, _) => h
  | none => last
def lookPts (o : SOper) (e : Env) (v : SV) (tr : Tail) (last : SHeap) : List Nat → Res → Res
  | [], r => r
  | i :: is, r => lookK v (sStep noCall o e (heapK (nth tr i) last)) (lookPts o e v tr last is r)
def lookOne (o : Option SOper) (t : Option (Env × SHeap × SV)) (tr : Tail) (last : SHeap) (is : List Nat) (r : Res) : Res :=
  match o with
  | some o => match t with
    | some (e, _, v) => lookPts o e v tr last is r
    | none => none
  | none => none
def looksK (ops : List SOper) (tr : Tail) (last : SHeap) : List (Nat × List Nat) → Res → Res
  | [], r => r
  | (j, is) :: ps, r => lookOne (nth ops j) (nth tr j) tr last is (looksK ops tr last ps r)
theorem traceK_eq (call : Caller) : ∀ (ops : List SOper) (e : Env) (H : SHeap) (acc : Tail) (k : Tail → Env → SHeap → Res), traceK call ops e H acc k = (match traceOps call ops e H with
    | some (tr, e', H') => k (acc ++ tr) e' H'
    | none => none)
  | [], e, H, acc, k => by simp [traceK, traceOps]
  | o :: os, e, H, acc, k => by
    simp only [traceK, traceOps]
    cases sStep call o e H with
    | none => rfl
    | some p =>
      obtain ⟨v, H'⟩ := p
      simp only [bnd_some]
      rw [traceK_eq call os]
      cases traceOps call os (e.put o.dst v) H' with
      | none => rfl
      | some q => simp
theorem lookPts_eq (o : SOper) (e : Env) (v : SV) (tr : Tail) (last : SHeap) : ∀ (is : List Nat) (r : Res), lookPts o e v tr last is r = bif is.all (fun i => sameLook o e v (heapAt tr last i)) then r else none
  | [], r => rfl
  | i :: is, r => by
    simp only [lookPts, List.all_cons]
    rw [lookPts_eq o e v tr last is]
    have : heapK (nth tr i) last = heapAt tr last i := by rw [nth_eq]; unfold heapK heapAt; cases tr[i]? <;> rfl
    rw [this]
    unfold sameLook lookK
    cases sStep noCall o e (heapAt tr last i) with
    | none => rfl
    | some p => obtain ⟨v', _⟩ := p; simp only; cases SV.beq v v' <;> rfl
theorem looksK_eq (ops : List SOper) (tr : Tail) (last : SHeap) : ∀ (ps : List (Nat × List Nat)) (r : Res), looksK ops tr last ps r = bif ps.all (lookOk ops tr last) then r else none
  | [], r => rfl
  | (j, is) :: ps, r => by
    simp only [looksK, List.all_cons]
    rw [looksK_eq ops tr last ps]
    unfold lookOne lookOk
    rw [nth_eq, nth_eq]
    simp only
    cases ops[j]? with
    | none => rfl
    | some o =>
      simp only
      cases tr[j]? with
      | none => rfl
      | some q =>
        obtain ⟨e, h, v⟩ := q
        simp only
        rw [lookPts_eq]
        cases is.all (fun i => sameLook o e v (heapAt tr last i)) <;> cases ps.all (lookOk ops tr last) <;> rfl
theorem drawK_eq (call : Caller) : ∀ (ops : List SOper) (e : Env) (H : SHeap) (k : Env → SHeap → Res), drawK (runOps call ops e H) k = runOpsK call ops e H k
  | [], e, H, k => rfl
  | o :: os, e, H, k => by
    unfold runOps runOpsK
    cases sStep call o e H with
    | none => rfl
    | some p => exact drawK_eq call os _ _ k
variable (call : Caller) (n : Nat) (e : Env) (H : SHeap) (kn : Env → SHeap → Res) (kx : Nat → Env → SHeap → Res) (kr : Env → SHeap → Res)
theorem runK_draw0 (ops : List SOper) : runK call n (.draw ops []) e H kn kx kr = runOpsK call ops e H kn := drawK_eq call ops e H kn
theorem runK_draw1 (ops : List SOper) (p : Nat × List Nat) (ps : List (Nat × List Nat)) : runK call n (.draw ops (p :: ps)) e H kn kx kr = traceK call ops e H [] fun tr e' H' => looksK ops tr H' (p :: ps) (kn e' H') := by
  rw [traceK_eq]
  simp only [runK, runDraw]
  cases traceOps call ops e H with
  | none => rfl
  | some q =>
    obtain ⟨tr, e', H'⟩ := q
    simp only [List.nil_append]
    rw [looksK_eq]
    cases (p :: ps).all (lookOk ops tr H') <;> rfl
theorem step_plain (d : Option Nat) (op : SOp) : sStep call ⟨d, op, none⟩ e H = sExec call op (Env.ev e) H := rfl
theorem step_guard (d : Option Nat) (op : SOp) (t : Nat) (w : Bool) : sStep call ⟨d, op, some (t, w)⟩ e H = guardR (e.at t) w (sExec call op (Env.ev e) H) H := by
  unfold sStep SOper.wanted guardR
  simp only
  rw [ifR_eq, wants_eq]
theorem at_put (d t : Nat) (v : SV) : Env.at (Env.put e (some d) v) t = if t = d then v else Env.at e t := by
  unfold Env.at Env.put
  simp only
  rw [Tr.get_set]
  split <;> rfl
theorem at_lf (t : Nat) : Env.at .lf t = SV.undef := rfl
theorem ofList_cons (v : SV) (vs : List SV) (i : Nat) : Env.ofList (v :: vs) i e = Env.ofList vs (i + 1) (Env.put e (some i) v) := rfl
theorem bodyK_eq (np : Nat) (rs : List SResult) (b : SCode) (args : List SV) (h : args.length = np) : runBodyK call n ⟨np, rs, b⟩ args H = runK call n b (Env.ofList args 0 .lf) H (resK rs) (fun _ _ _ => none) (resK rs) := by
  unfold runBodyK
  simp only [h, Nat.beq_refl, cond_true]
theorem bodyK (fn : SFunc) (args : List SV) : runBodyK call n fn args H = bif Nat.beq args.length fn.np then runK call n fn.body (Env.ofList args 0 .lf) H (resK fn.results) (fun _ _ _ => none) (resK fn.results) else none := rfl

abbrev Kit1 : Prop :=
    (∀ (call : Caller) (n : Nat) (e : Env) (H : SHeap) (kn : Env → SHeap → Res) (kx : Nat → Env → SHeap → Res) (kr : Env → SHeap → Res), runK call n .skip e H kn kx kr = kn e H) ∧
    (∀ (call : Caller) (n : Nat) (e : Env) (H : SHeap) (kn : Env → SHeap → Res) (kx : Nat → Env → SHeap → Res) (kr : Env → SHeap → Res) (ops : List SOper), runK call n (.reg ops) e H kn kx kr = runOpsK call ops e H kn) ∧
    (∀ (call : Caller) (n : Nat) (e : Env) (H : SHeap) (kn : Env → SHeap → Res) (kx : Nat → Env → SHeap → Res) (kr : Env → SHeap → Res) (a b : SCode), runK call n (.seq a b) e H kn kx kr = runK call n a e H (fun e H => runK call n b e H kn kx kr) kx kr) ∧
    (∀ (call : Caller) (n : Nat) (e : Env) (H : SHeap) (kn : Env → SHeap → Res) (kx : Nat → Env → SHeap → Res) (kr : Env → SHeap → Res) (x : SOpd) (a b : SCode), runK call n (.cond x a b) e H kn kx kr = condK (e.ev x) (runK call n a e H kn kx kr) (runK call n b e H kn kx kr)) ∧
    (∀ (call : Caller) (n : Nat) (e : Env) (H : SHeap) (kn : Env → SHeap → Res) (kx : Nat → Env → SHeap → Res) (kr : Env → SHeap → Res) (id : Nat) (b : SCode), runK call n (.block id b) e H kn kx kr = runK call n b e H kn (fun i e H => if i = id then kn e H else kx i e H) kr) ∧
    (∀ (call : Caller) (n : Nat) (e : Env) (H : SHeap) (kn : Env → SHeap → Res) (kx : Nat → Env → SHeap → Res) (kr : Env → SHeap → Res) (b : SCode), runK call n (.loop b) e H kn kx kr = iterK (fun k e H => runK call n b e H k kx kr) n e H) ∧
    (∀ (call : Caller) (n : Nat) (e : Env) (H : SHeap) (kn : Env → SHeap → Res) (kx : Nat → Env → SHeap → Res) (kr : Env → SHeap → Res) (id : Nat), runK call n (.exit id) e H kn kx kr = kx id e H) ∧
    (∀ (call : Caller) (n : Nat) (e : Env) (H : SHeap) (kn : Env → SHeap → Res) (kx : Nat → Env → SHeap → Res) (kr : Env → SHeap → Res), runK call n .ret e H kn kx kr = kr e H) ∧
    (∀ (call : Caller) (e : Env) (H : SHeap) (kn : Env → SHeap → Res), runOpsK call [] e H kn = kn e H) ∧
    (∀ (call : Caller) (e : Env) (H : SHeap) (kn : Env → SHeap → Res) (d : Option Nat) (op : SOp) (os : List SOper), runOpsK call (⟨d, op, none⟩ :: os) e H kn = bnd (sExec call op (Env.ev e) H) fun v H' => runOpsK call os (e.put d v) H' kn) ∧
    (∀ (call : Caller) (e : Env) (H : SHeap) (kn : Env → SHeap → Res) (d : Option Nat) (op : SOp) (t : Nat) (w : Bool) (os : List SOper), runOpsK call (⟨d, op, some (t, w)⟩ :: os) e H kn = bnd (guardR (e.at t) w (sExec call op (Env.ev e) H) H) fun v H' => runOpsK call os (e.put d v) H' kn)
theorem kit1 : Kit1 := by
  refine ⟨?_, ?_, ?_, ?_, ?_, ?_, ?_, ?_, ?_, ?_, ?_⟩ <;> intros <;> first | rfl | (rw [← step_guard]; rfl)
abbrev Kit2 : Prop :=
    (∀ (e : Env) (i : Nat), Env.ev e (.t i) = e.at i) ∧ (∀ (e : Env) (v : SV), Env.ev e (.c v) = v) ∧ (∀ (e : Env) (g : Nat), Env.ev e (.g g) = .ptr g 0 0) ∧
    (∀ (e : Env) (v : SV), Env.put e none v = e) ∧ (∀ (t : Nat), Env.at .lf t = SV.undef) ∧ (∀ (e : Env) (i : Nat), Env.ofList [] i e = e) ∧
    (∀ (e : Env) (v : SV) (vs : List SV) (i : Nat), Env.ofList (v :: vs) i e = Env.ofList vs (i + 1) (Env.put e (some i) v)) ∧
    (∀ (e : Env) (H : SHeap) (v : SV), resGo [] e H [v] = some (v, H)) ∧ (∀ (e : Env) (H : SHeap), resGo [] e H [] = some (.tup [], H)) ∧
    (∀ (e : Env) (H : SHeap) (a b : SV) (c : List SV), resGo [] e H (a :: b :: c) = some (.tup (a :: b :: c), H)) ∧
    (∀ (e : Env) (H : SHeap) (i : Nat) (rs : List SResult) (acc : List SV), resGo (.t i :: rs) e H acc = resGo rs e H (acc ++ [e.at i])) ∧
    (∀ (e : Env) (H : SHeap) (i : Nat) (y : Lay) (rs : List SResult) (acc : List SV), resGo (.c i y :: rs) e H acc = bnd (xLoad y (e.at i) H) fun v H' => resGo rs e H' (acc ++ [v])) ∧
    (∀ (ev : Ev), evAll ev [] = []) ∧ (∀ (ev : Ev) (x : SOpd) (xs : List SOpd), evAll ev (x :: xs) = ev x :: evAll ev xs) ∧
    (∀ (ev : Ev), evParts ev [] = []) ∧ (∀ (ev : Ev) (i s : Nat) (x : SOpd) (xs : List (Nat × Nat × SOpd)), evParts ev ((i, s, x) :: xs) = (i, s, ev x) :: evParts ev xs) ∧
    (∀ (ev : Ev), evNumbered ev [] = []) ∧ (∀ (ev : Ev) (i : Nat) (x : SOpd) (xs : List (Nat × SOpd)), evNumbered ev ((i, x) :: xs) = (i, ev x) :: evNumbered ev xs) ∧
    (∀ (call : Caller) (e : Env) (H : SHeap) (tr : Tail) (k : Tail → Env → SHeap → Res), traceK call [] e H tr k = k tr e H) ∧
    (∀ (call : Caller) (o : SOper) (os : List SOper) (e : Env) (H : SHeap) (tr : Tail) (k : Tail → Env → SHeap → Res), traceK call (o :: os) e H tr k = bnd (sStep call o e H) fun v H' => traceK call os (e.put o.dst v) H' (tr ++ [(e, H, v)]) k) ∧
    (∀ (e : Env) (h : SHeap) (v : SV) (last : SHeap), heapK (some (e, h, v)) last = h) ∧ (∀ (last : SHeap), heapK none last = last) ∧
    (∀ (o : SOper) (e : Env) (v : SV) (tr : Tail) (last : SHeap) (r : Res), lookPts o e v tr last [] r = r) ∧
    (∀ (o : SOper) (e : Env) (v : SV) (tr : Tail) (last : SHeap) (i : Nat) (is : List Nat) (r : Res), lookPts o e v tr last (i :: is) r = lookK v (sStep noCall o e (heapK (nth tr i) last)) (lookPts o e v tr last is r)) ∧
    (∀ (o : SOper) (e : Env) (h : SHeap) (v : SV) (tr : Tail) (last : SHeap) (is : List Nat) (r : Res), lookOne (some o) (some (e, h, v)) tr last is r = lookPts o e v tr last is r) ∧
    (∀ (ops : List SOper) (tr : Tail) (last : SHeap) (r : Res), looksK ops tr last [] r = r) ∧
    (∀ (ops : List SOper) (tr : Tail) (last : SHeap) (j : Nat) (is : List Nat) (ps : List (Nat × List Nat)) (r : Res), looksK ops tr last ((j, is) :: ps) r = lookOne (nth ops j) (nth tr j) tr last is (looksK ops tr last ps r))
theorem kit2 : Kit2 := by
  refine ⟨?_, ?_, ?_, ?_, ?_, ?_, ?_, ?_, ?_, ?_, ?_, ?_, ?_, ?_, ?_, ?_, ?_, ?_, ?_, ?_, ?_, ?_, ?_, ?_, ?_, ?_, ?_⟩ <;> intros <;> rfl
theorem kitR (e : Env) (H : SHeap) (rs : List SResult) : resK rs e H = resGo rs e H [] := rfl
abbrev Kit3 : Prop :=
    (∀ (c : Caller) (ev : Ev) (H : SHeap) (x : SOpd), sExec c (.mov x) ev H = some (ev x, H)) ∧ (∀ (c : Caller) (ev : Ev) (H : SHeap) (x a b : SOpd), sExec c (.pick x a b) ev H = xPick (ev x) (ev a) (ev b) H) ∧
    (∀ (c : Caller) (ev : Ev) (H : SHeap) (y : Lay) (z : SV), sExec c (.alloc y z) ev H = xAlloc y z H) ∧ (∀ (c : Caller) (ev : Ev) (H : SHeap) (y : Lay) (x : SOpd), sExec c (.box y x) ev H = xBox y (ev x) H) ∧
    (∀ (c : Caller) (ev : Ev) (H : SHeap) (z : List SV) (ps : List (Nat × Nat × SOpd)), sExec c (.build z ps) ev H = xBuild z (evParts ev ps) H) ∧
    (∀ (c : Caller) (ev : Ev) (H : SHeap) (y : Lay) (z : SV) (l : Nat) (ps : List (Nat × SOpd)), sExec c (.buildSlice y z l ps) ev H = xBuildSlice y z l (evNumbered ev ps) H) ∧
    (∀ (c : Caller) (ev : Ev) (H : SHeap) (y : Lay) (x : SOpd), sExec c (.load y x) ev H = xLoad y (ev x) H) ∧ (∀ (c : Caller) (ev : Ev) (H : SHeap) (y : Lay) (x v : SOpd), sExec c (.store y x v) ev H = xStore y (ev x) (ev v) H) ∧
    (∀ (c : Caller) (ev : Ev) (H : SHeap) (x : SOpd), sExec c (.nilCheck x) ev H = xNilCheck (ev x) H) ∧ (∀ (c : Caller) (ev : Ev) (H : SHeap) (op : BinOp) (eq : EqK) (x y : SOpd), sExec c (.bin op eq x y) ev H = only H (sBin op eq (ev x) (ev y))) ∧
    (∀ (c : Caller) (ev : Ev) (H : SHeap) (op : UnOp) (x : SOpd), sExec c (.un op x) ev H = only H (sUn op (ev x))) ∧ (∀ (c : Caller) (ev : Ev) (H : SHeap) (k : IntKind) (x : SOpd), sExec c (.toInt k x) ev H = xToInt k (ev x) H) ∧
    (∀ (c : Caller) (ev : Ev) (H : SHeap) (x : SOpd), sExec c (.sToS x) ev H = xSToS (ev x) H) ∧ (∀ (c : Caller) (ev : Ev) (H : SHeap) (x : SOpd), sExec c (.iToS x) ev H = xIToS (ev x) H) ∧
    (∀ (c : Caller) (ev : Ev) (H : SHeap) (el : Nat) (x : SOpd), sExec c (.sToB el x) ev H = xSToB el (ev x) H) ∧ (∀ (c : Caller) (ev : Ev) (H : SHeap) (x : SOpd), sExec c (.bToS x) ev H = xBToS (ev x) H) ∧
    (∀ (c : Caller) (ev : Ev) (H : SHeap) (x : SOpd), sExec c (.markB x) ev H = xMarkB (ev x) H) ∧ (∀ (c : Caller) (ev : Ev) (H : SHeap) (t : Nat) (x : SOpd), sExec c (.mkIface t x) ev H = some (.iface t (ev x), H)) ∧
    (∀ (c : Caller) (ev : Ev) (H : SHeap) (f : Nat) (a b : List SOpd), sExec c (.mkFunc f a b) ev H = some (.fn f (evAll ev a) (evAll ev b), H)) ∧ (∀ (c : Caller) (ev : Ev) (H : SHeap), sExec c .mkMap ev H = some (.mp H.next, H.alloc (.map false []))) ∧
    (∀ (c : Caller) (ev : Ev) (H : SHeap) (y : Lay) (z : SV) (b : Nat) (l cp : SOpd), sExec c (.mkSlice y z b l cp) ev H = xMkSlice y z b (ev l) (ev cp) H) ∧
    (∀ (c : Caller) (ev : Ev) (H : SHeap) (x : SOpd) (lo hi : Option SOpd), sExec c (.slS x lo hi) ev H = only H (sSliceS (ev x) (lo.map ev) (hi.map ev))) ∧
    (∀ (c : Caller) (ev : Ev) (H : SHeap) (es : Nat) (x : SOpd) (lo hi mx : Option SOpd), sExec c (.slL es x lo hi mx) ev H = only H (sSliceL es H (ev x) (lo.map ev) (hi.map ev) (mx.map ev))) ∧
    (∀ (c : Caller) (ev : Ev) (H : SHeap) (n es : Nat) (x : SOpd) (lo hi mx : Option SOpd), sExec c (.slA n es x lo hi mx) ev H = only H (sSliceA n es H (ev x) (lo.map ev) (hi.map ev) (mx.map ev))) ∧
    (∀ (c : Caller) (ev : Ev) (H : SHeap) (o : Nat) (x : SOpd), sExec c (.fieldAddr o x) ev H = xFieldAddr o (ev x) H) ∧ (∀ (c : Caller) (ev : Ev) (H : SHeap) (es : Nat) (x i : SOpd), sExec c (.idxAddrL es x i) ev H = xIdxAddrL es (ev x) (ev i) H) ∧
    (∀ (c : Caller) (ev : Ev) (H : SHeap) (n es : Nat) (x i : SOpd), sExec c (.idxAddrA n es x i) ev H = xIdxAddrA n es (ev x) (ev i) H) ∧ (∀ (c : Caller) (ev : Ev) (H : SHeap) (a b : Nat) (g : Bool) (x : SOpd), sExec c (.field a b g x) ev H = xField a b g (ev x) H) ∧
    (∀ (c : Caller) (ev : Ev) (H : SHeap) (x i : SOpd), sExec c (.idxS x i) ev H = xIdxS (ev x) (ev i) H) ∧ (∀ (c : Caller) (ev : Ev) (H : SHeap) (n es : Nat) (g : Bool) (x i : SOpd), sExec c (.idxA n es g x i) ev H = xIdxA n es g (ev x) (ev i) H) ∧
    (∀ (c : Caller) (ev : Ev) (H : SHeap) (kk : LeafK) (z : SV) (ok : Bool) (m k : SOpd), sExec c (.lookup kk z ok m k) ev H = only H (sLookup kk z ok H (ev m) (ev k))) ∧
    (∀ (c : Caller) (ev : Ev) (H : SHeap) (kk : LeafK) (m k v : SOpd), sExec c (.mapUpdate kk m k v) ev H = none2 (sMapUpdate kk H (ev m) (ev k) (ev v))) ∧
    (∀ (c : Caller) (ev : Ev) (H : SHeap) (i : Nat) (x : SOpd), sExec c (.extract i x) ev H = xExtract i (ev x) H) ∧ (∀ (c : Caller) (ev : Ev) (H : SHeap) (x : SOpd), sExec c (.lenS x) ev H = xLenS (ev x) H) ∧
    (∀ (c : Caller) (ev : Ev) (H : SHeap) (x : SOpd), sExec c (.lenL x) ev H = xLenL (ev x) H) ∧ (∀ (c : Caller) (ev : Ev) (H : SHeap) (n : Nat), sExec c (.lenA n) ev H = some (goInt n, H)) ∧ (∀ (c : Caller) (ev : Ev) (H : SHeap) (x : SOpd), sExec c (.lenM x) ev H = xLenM (ev x) H) ∧
    (∀ (c : Caller) (ev : Ev) (H : SHeap) (a b d : Nat) (s x : SOpd), sExec c (.append a b d s x) ev H = sAppend a b d H (ev s) (ev x)) ∧ (∀ (c : Caller) (ev : Ev) (H : SHeap) (es : Nat) (d s : SOpd), sExec c (.copy es d s) ev H = sCopy es H (ev d) (ev s)) ∧
    (∀ (c : Caller) (ev : Ev) (H : SHeap) (xs : List SOpd), sExec c (.mini xs) ev H = xMin (evAll ev xs) H) ∧ (∀ (c : Caller) (ev : Ev) (H : SHeap) (xs : List SOpd), sExec c (.maxi xs) ev H = xMax (evAll ev xs) H) ∧
    (∀ (c : Caller) (ev : Ev) (H : SHeap) (kk : LeafK) (m k : SOpd), sExec c (.delete kk m k) ev H = xDelete kk (ev m) (ev k) H) ∧ (∀ (c : Caller) (ev : Ev) (H : SHeap) (t : Nat) (z : SV) (ok : Bool) (x : SOpd), sExec c (.asType t z ok x) ev H = xAsType t z ok (ev x) H) ∧
    (∀ (c : Caller) (ev : Ev) (H : SHeap) (f : Nat) (xs : List SOpd), sExec c (.call f xs) ev H = c f (evAll ev xs) H) ∧ (∀ (c : Caller) (ev : Ev) (H : SHeap) (x : SOpd) (xs : List SOpd), sExec c (.callv x xs) ev H = xCallv c (ev x) (evAll ev xs) H) ∧
    (∀ (c : Caller) (ev : Ev) (H : SHeap) (g : Bool) (x : SOpd), sExec c (.isNil g x) ev H = xIsNil g (ev x) H) ∧ (∀ (c : Caller) (ev : Ev) (H : SHeap) (g : Bool) (x y : SOpd), sExec c (.samePtr g x y) ev H = xSamePtr g (ev x) (ev y) H) ∧
    (∀ (c : Caller) (ev : Ev) (H : SHeap) (x : SOpd), sExec c (.range x) ev H = xRange (ev x) H) ∧ (∀ (c : Caller) (ev : Ev) (H : SHeap) (x : SOpd), sExec c (.next x) ev H = xNext (ev x) H) ∧ (∀ (c : Caller) (ev : Ev) (H : SHeap), sExec c .stop ev H = none)
theorem kit3 : Kit3 := by
  refine ⟨?_, ?_, ?_, ?_, ?_, ?_, ?_, ?_, ?_, ?_, ?_, ?_, ?_, ?_, ?_, ?_, ?_, ?_, ?_, ?_, ?_, ?_, ?_, ?_, ?_, ?_, ?_, ?_, ?_, ?_, ?_, ?_, ?_, ?_, ?_, ?_, ?_, ?_, ?_, ?_, ?_, ?_, ?_, ?_, ?_, ?_, ?_, ?_, ?_, ?_⟩ <;> intros <;> rfl
abbrev Kit4 : Prop :=
    (∀ (v : SV) (H : SHeap) (k : SV → SHeap → Res), bnd (some (v, H)) k = k v H) ∧ (∀ (c a b : SV) (H : SHeap) (k : SV → SHeap → Res), bnd (xPick c a b H) k = pPick c a b (fun v => k v H)) ∧
    (∀ (y : Lay) (p : SV) (H : SHeap) (k : SV → SHeap → Res), bnd (xLoad y p H) k = pLoad y p H (fun v => k v H)) ∧ (∀ (y : Lay) (p v : SV) (H : SHeap) (k : SV → SHeap → Res), bnd (xStore y p v H) k = pStore y p v H (fun H' => k SV.undef H')) ∧
    (∀ (kd : IntKind) (x : SV) (H : SHeap) (k : SV → SHeap → Res), bnd (xToInt kd x H) k = pToInt kd x (fun v => k v H)) ∧ (∀ (x : SV) (H : SHeap) (k : SV → SHeap → Res), bnd (xNilCheck x H) k = pNilCheck x (fun v => k v H)) ∧
    (∀ (x : SV) (H : SHeap) (k : SV → SHeap → Res), bnd (xLenS x H) k = pLenS x (fun v => k v H)) ∧ (∀ (x : SV) (H : SHeap) (k : SV → SHeap → Res), bnd (xLenL x H) k = pLenL x (fun v => k v H)) ∧
    (∀ (o : Nat) (x : SV) (H : SHeap) (k : SV → SHeap → Res), bnd (xFieldAddr o x H) k = pFieldAddr o x (fun v => k v H)) ∧ (∀ (i : Nat) (x : SV) (H : SHeap) (k : SV → SHeap → Res), bnd (xExtract i x H) k = pExtract i x (fun v => k v H)) ∧
    (∀ (a b : Nat) (c : Bool) (x : SV) (H : SHeap) (k : SV → SHeap → Res), bnd (xField a b c x H) k = pField a b c x (fun v => k v H)) ∧ (∀ (es : Nat) (x i : SV) (H : SHeap) (k : SV → SHeap → Res), bnd (xIdxAddrL es x i H) k = pIdxAddrL es x i H (fun v => k v H)) ∧
    (∀ (n es : Nat) (x i : SV) (H : SHeap) (k : SV → SHeap → Res), bnd (xIdxAddrA n es x i H) k = pIdxAddrA n es x i H (fun v => k v H)) ∧ (∀ (x i : SV) (H : SHeap) (k : SV → SHeap → Res), bnd (xIdxS x i H) k = pIdxS x i (fun v => k v H)) ∧
    (∀ (y : Lay) (z : SV) (H : SHeap) (k : SV → SHeap → Res), bnd (xAlloc y z H) k = pAlloc y z H k) ∧ (∀ (elem esz bytes : Nat) (H : SHeap) (s x : SV) (k : SV → SHeap → Res), bnd (sAppend elem esz bytes H s x) k = pAppend elem esz bytes H s x k) ∧
    (∀ (op : UnOp) (x : SV) (H : SHeap) (k : SV → SHeap → Res), bnd (only H (sUn op x)) k = pUn op x (fun v => k v H)) ∧
    (∀ (x y : SV) (e : EqK) (H : SHeap) (k : SV → SHeap → Res), bnd (only H (sBin .eql e x y)) k = pEql e x y (fun v => k v H)) ∧ (∀ (x y : SV) (e : EqK) (H : SHeap) (k : SV → SHeap → Res), bnd (only H (sBin .neq e x y)) k = pNeq e x y (fun v => k v H)) ∧
    (∀ (x y : SV) (e : EqK) (H : SHeap) (k : SV → SHeap → Res), bnd (only H (sBin .add e x y)) k = pAdd x y (fun v => k v H)) ∧ (∀ (x y : SV) (e : EqK) (H : SHeap) (k : SV → SHeap → Res), bnd (only H (sBin .sub e x y)) k = pSub x y (fun v => k v H)) ∧
    (∀ (x y : SV) (e : EqK) (H : SHeap) (k : SV → SHeap → Res), bnd (only H (sBin .lss e x y)) k = pLss x y (fun v => k v H)) ∧ (∀ (x y : SV) (e : EqK) (H : SHeap) (k : SV → SHeap → Res), bnd (only H (sBin .leq e x y)) k = pLeq x y (fun v => k v H)) ∧
    (∀ (x y : SV) (e : EqK) (H : SHeap) (k : SV → SHeap → Res), bnd (only H (sBin .gtr e x y)) k = pGtr x y (fun v => k v H)) ∧ (∀ (x y : SV) (e : EqK) (H : SHeap) (k : SV → SHeap → Res), bnd (only H (sBin .geq e x y)) k = pGeq x y (fun v => k v H)) ∧
    (∀ (x y : SV) (e : EqK) (H : SHeap) (k : SV → SHeap → Res), bnd (only H (sBin .mul e x y)) k = pBin .mul x y (fun v => k v H)) ∧ (∀ (x y : SV) (e : EqK) (H : SHeap) (k : SV → SHeap → Res), bnd (only H (sBin .quo e x y)) k = pBin .quo x y (fun v => k v H)) ∧
    (∀ (x y : SV) (e : EqK) (H : SHeap) (k : SV → SHeap → Res), bnd (only H (sBin .rem e x y)) k = pBin .rem x y (fun v => k v H)) ∧ (∀ (x y : SV) (e : EqK) (H : SHeap) (k : SV → SHeap → Res), bnd (only H (sBin .and e x y)) k = pBin .and x y (fun v => k v H)) ∧
    (∀ (x y : SV) (e : EqK) (H : SHeap) (k : SV → SHeap → Res), bnd (only H (sBin .or e x y)) k = pBin .or x y (fun v => k v H)) ∧ (∀ (x y : SV) (e : EqK) (H : SHeap) (k : SV → SHeap → Res), bnd (only H (sBin .xor e x y)) k = pBin .xor x y (fun v => k v H)) ∧
    (∀ (x y : SV) (e : EqK) (H : SHeap) (k : SV → SHeap → Res), bnd (only H (sBin .shl e x y)) k = pBin .shl x y (fun v => k v H)) ∧ (∀ (x y : SV) (e : EqK) (H : SHeap) (k : SV → SHeap → Res), bnd (only H (sBin .shr e x y)) k = pBin .shr x y (fun v => k v H)) ∧
    (∀ (x y : SV) (e : EqK) (H : SHeap) (k : SV → SHeap → Res), bnd (only H (sBin .andNot e x y)) k = pBin .andNot x y (fun v => k v H))
theorem kit4 : Kit4 := by
  refine ⟨bnd_some, bnd_pick, bnd_load, bnd_store, bnd_toInt, bnd_nilCheck, bnd_lenS, bnd_lenL, bnd_fieldAddr, bnd_extract, bnd_field, bnd_idxAddrL, bnd_idxAddrA, bnd_idxS, bnd_alloc, bnd_append, ?_, bnd_eql, bnd_neq, bnd_add, bnd_sub, bnd_lss, bnd_leq, bnd_gtr, bnd_geq, ?_, ?_, ?_, ?_, ?_, ?_, ?_, ?_, ?_⟩
  · intros; exact bnd_only _ _ _
  all_goals (intros; exact bnd_bin _ (by intro h; cases h) (by intro h; cases h) _ _ _ _ _)
abbrev Kit5 : Prop := (∀ (e : Env) (d t : Nat) (v : SV), Env.at (Env.put e (some d) v) t = if t = d then v else Env.at e t) ∧ (∀ (l : List SV), [] ++ l = l) ∧ (∀ (x : SV) (l m : List SV), (x :: l) ++ m = x :: (l ++ m)) ∧ (∀ (l : Tail), [] ++ l = l) ∧ (∀ (x : Env × SHeap × SV) (l m : Tail), (x :: l) ++ m = x :: (l ++ m)) ∧
    (∀ (f : SOpd → SV), Option.map f none = none) ∧ (∀ (f : SOpd → SV) (x : SOpd), Option.map f (some x) = some (f x)) ∧
    (∀ (call : Caller) (n : Nat) (e : Env) (H : SHeap) (kn : Env → SHeap → Res) (kx : Nat → Env → SHeap → Res) (kr : Env → SHeap → Res) (ops : List SOper), runK call n (.draw ops []) e H kn kx kr = runOpsK call ops e H kn) ∧
    (∀ (call : Caller) (n : Nat) (e : Env) (H : SHeap) (kn : Env → SHeap → Res) (kx : Nat → Env → SHeap → Res) (kr : Env → SHeap → Res) (ops : List SOper) (p : Nat × List Nat) (ps : List (Nat × List Nat)), runK call n (.draw ops (p :: ps)) e H kn kx kr = traceK call ops e H [] fun tr e' H' => looksK ops tr H' (p :: ps) (kn e' H')) ∧
    (∀ (a : SOper) (l : List SOper), nth (a :: l) 0 = some a) ∧ (∀ (a : SOper) (l : List SOper) (k : Nat), nth (a :: l) (k + 1) = nth l k) ∧ (∀ (k : Nat), nth ([] : List SOper) k = none) ∧
    (∀ (a : Env × SHeap × SV) (l : Tail), nth (a :: l) 0 = some a) ∧ (∀ (a : Env × SHeap × SV) (l : Tail) (k : Nat), nth (a :: l) (k + 1) = nth l k) ∧ (∀ (k : Nat), nth ([] : Tail) k = none) ∧
    (∀ (call : Caller) (e : Env) (H : SHeap) (d : Option Nat) (op : SOp), sStep call ⟨d, op, none⟩ e H = sExec call op (Env.ev e) H) ∧
    (∀ (call : Caller) (e : Env) (H : SHeap) (d : Option Nat) (op : SOp) (t : Nat) (w : Bool), sStep call ⟨d, op, some (t, w)⟩ e H = guardR (e.at t) w (sExec call op (Env.ev e) H) H)
theorem kit5 : Kit5 :=
  ⟨fun e d t v => at_put e d t v, fun _ => rfl, fun _ _ _ => rfl, fun _ => rfl, fun _ _ _ => rfl, fun _ => rfl, fun _ _ => rfl, runK_draw0, runK_draw1, fun _ _ => rfl, fun _ _ _ => rfl, fun _ => rfl, fun _ _ => rfl, fun _ _ _ => rfl, fun _ => rfl, fun _ _ _ _ _ => rfl, step_guard⟩
theorem kit : Kit1 ∧ Kit2 ∧ Kit3 ∧ Kit4 ∧ Kit5 := And.intro kit1 (And.intro kit2 (And.intro kit3 (And.intro kit4 kit5)))
 end
end Go.Sim
