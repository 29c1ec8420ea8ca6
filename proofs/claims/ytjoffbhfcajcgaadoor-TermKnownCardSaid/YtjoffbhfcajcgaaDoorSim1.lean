/- From the model's code to the reduced machine's: a plain total function. -/
import Derived.Test.YtjoffbhfcajcgaaDoorSim0
import GoSem.Core.Region
set_option linter.unusedVariables false
namespace Go.Sim

def toCell : Value → Option SV
  | .bool b => some (.bool b)
  | .int k n => some (.int k n)
  | .string s => some (.str (s.data.toList.map (·.toNat)))
  | .pointer none => some .nilp
  | .slice none 0 0 => some .nils
  | .nilFunc => some .nilf
  | .nilIface => some .nili
  | .map none => some .nilm
  | _ => none
def toCells : List Value → Option (List SV)
  | [] => some []
  | v :: vs => match toCell v with
    | some x => match toCells vs with
      | some xs => some (x :: xs)
      | none => none
    | none => none
def toSV (v : Value) : Option SV :=
  match v with
  | .agg cs => match toCells cs.toList with
    | some xs => some (.agg xs)
    | none => none
  | .tuple vs => match toCells vs.toList with
    | some xs => some (.tup xs)
    | none => none
  | v => toCell v

def isAggB (P : Program) (t : TypeId) : Bool :=
  match P.underlying t with
  | some (.struct _) | some (.array _ _) => true
  | _ => false

def zeroSV (P : Program) (t : TypeId) : Option SV := (P.info? t).bind fun i => i.zero.bind toSV

/- a variable of the type t -/
def layOf (P : Program) (t : TypeId) : Option Lay :=
  match P.info? t, P.underlying t with
  | some i, some (.struct _) => if 0 < i.size then some ⟨1, i.size, false, true, false, t⟩ else none
  | some i, some (.array n e) =>
    match P.info? e with
    | some j => if 0 < n ∧ 0 < j.size ∧ i.size = n * j.size ∧ (isAggB P e = true ∨ j.size = 1) then some ⟨n, j.size, !isAggB P e, true, true, t⟩ else none
    | none => none
  | some i, some _ => if i.size = 1 then some ⟨1, 1, true, false, false, t⟩ else none
  | _, _ => none

/- an element of the type e in a row -/
def layElem (P : Program) (e : TypeId) : Option Lay :=
  match P.info? e with
  | some i => if 0 < i.size ∧ (isAggB P e = true ∨ i.size = 1) ∧ (P.underlying e).isSome = true then some ⟨1, i.size, !isAggB P e, isAggB P e, false, e⟩ else none
  | none => none

def toOpd (P : Program) (x : Operand) : Option SOpd :=
  match x with
  | .tmp t => some (.t t)
  | .const v => (toSV v).map .c
  | .global g => if g < P.globals.size then some (.g g) else none
  | .func f => some (.c (.fn f [] []))

def toOpds (P : Program) : List Operand → Option (List SOpd)
  | [] => some []
  | x :: xs => (toOpd P x).bind fun y => (toOpds P xs).map (y :: ·)

def toOpt (P : Program) : Option Operand → Option (Option SOpd)
  | none => some none
  | some x => (toOpd P x).map some

/- the cells of a type whose values are equal if their cells are: bools, whole numbers, strings, and structs of such -/
def shapeFs (P : Program) (rec : TypeId → Option (List LeafK)) : List Field → Nat → Option (List LeafK)
  | [], _ => some []
  | f :: fs, at_ => match rec f.type with
    | none => none
    | some sh => if f.name ≠ "_" ∧ f.offset = at_ ∧ P.cellsOf f.type = sh.length then (match shapeFs P rec fs (at_ + sh.length) with
      | none => none
      | some r => some (sh ++ r)) else none
def shapeT (P : Program) : Nat → TypeId → Option (List LeafK)
  | 0, _ => none
  | d + 1, t => match P.underlying t with
    | some .bool => some [.b]
    | some (.int _) => some [.i]
    | some .string => some [.s]
    | some (.struct fs) => if P.stoodInHeld t = false then shapeFs P (shapeT P d) fs.toList 0 else none
    | _ => none

def eqKind (P : Program) (t : TypeId) : EqK :=
  match P.underlying t with
  | some .bool => .bool
  | some (.pointer _) => .ptr
  | some (.slice _) => .slice
  | some (.map _ _) => .map
  | some (.func _ _ _) => .func
  | some (.interface _) => .iface
  | some (.struct _) => if P.eqGuardType P.depth t = false then (match shapeT P 20 t with
    | some sh => .agg sh
    | none => .no) else .no
  | _ => .no

def keyT (P : Program) (t : TypeId) : Option LeafK :=
  match P.underlying t with
  | some .bool => some .b
  | some (.int _) => some .i
  | some .string => some .s
  | _ => none

def toParts (P : Program) (place : Nat → Option (Nat × Nat)) : List (Nat × Operand) → Option (List (Nat × Nat × SOpd))
  | [] => some []
  | (i, x) :: r => (place i).bind fun p => (toOpd P x).bind fun y => (toParts P place r).map ((p.1, p.2, y) :: ·)

def toNumbered (P : Program) : List (Nat × Operand) → Option (List (Nat × SOpd))
  | [] => some []
  | (i, x) :: r => (toOpd P x).bind fun y => (toNumbered P r).map ((i, y) :: ·)

/- may rows of such elements be appended to? -/
def rowsOk (P : Program) (e : TypeId) (i : TypeInfo) : Bool :=
  match zeroSV P e with
  | some z => decide (z.cells.length = i.size) && decide (i.bytes ≤ 1048576) && decide (0 < i.size)
  | none => false

def compLen (P : Program) : List SOpd → List TypeId → Option SOp
  | [x], [t] => match P.underlying t with
    | some .string => some (.lenS x)
    | some (.slice _) => some (.lenL x)
    | some (.array n _) => some (.lenA n)
    | some (.map _ _) => some (.lenM x)
    | _ => none
  | _, _ => none
def compAppend (P : Program) : List SOpd → List TypeId → Option SOp
  | [s, x], [t, u] => match P.underlying t with
    | some (.slice e) => match P.info? e with
      | some i => match P.underlying u with
        | some (.slice _) => if rowsOk P e i = true then some (.append e i.size i.bytes s x) else none
        | some .string => if rowsOk P e i = true then some (.append e i.size i.bytes s x) else none
        | _ => none
      | none => none
    | _ => none
  | _, _ => none
def compCopy (P : Program) : List SOpd → List TypeId → Option SOp
  | [d, s], [t, _] => match P.underlying t with
    | some (.slice e) => match P.info? e with
      | some i => if 0 < i.size then some (.copy i.size d s) else none
      | none => none
    | _ => none
  | _, _ => none
def compDelete (P : Program) : List SOpd → List TypeId → Option SOp
  | [m, k], [t, _] => match P.underlying t with
    | some (.map kt _) => (keyT P kt).map fun kk => .delete kk m k
    | _ => none
  | _, _ => none
def compBuiltin (P : Program) (b : Builtin) (args : List SOpd) (ts : List TypeId) : Option SOp :=
  match b with
  | .len => compLen P args ts
  | .append => compAppend P args ts
  | .copy => compCopy P args ts
  | .min => some (.mini args)
  | .max => some (.maxi args)
  | .delete => compDelete P args ts
  | _ => none
def compCall (P : Program) (c : Call) : Option SOp :=
  match toOpds P c.args.toList with
  | none => none
  | some args =>
    match c.callee with
    | .value x => match toOpd P x with
      | some (.c (.fn f [] [])) => some (.call f args)
      | some x => some (.callv x args)
      | none => none
    | .invoke _ _ => none
    | .builtin b => compBuiltin P b args c.argTypes.toList

def isNilK (x : Operand) : Bool :=
  match x with
  | .const .nilIface => true
  | _ => false
def negOf (op : BinOp) : Option Bool :=
  match op with
  | .eql => some false
  | .neq => some true
  | _ => none
/- an interface value against the literal nil -/
def compNil (P : Program) (op : BinOp) (t : TypeId) (x y : Operand) : Option SOp :=
  match negOf op with
  | none => none
  | some neg => match P.underlying t with
    | some (.interface _) => bif isNilK y then (toOpd P x).map (.isNil neg) else none
    | _ => none
def compPtr (P : Program) (op : BinOp) (t : TypeId) (x y : Operand) : Option SOp :=
  match negOf op with
  | none => none
  | some neg => match P.underlying t with
    | some (.pointer e) => bif (P.info? e).isSome then (toOpd P x).bind fun x => (toOpd P y).map fun y => .samePtr neg x y else none
    | _ => none
def compOp (P : Program) (op : Op) : Option SOp :=
  match op with
  | .move x | .assign x => (toOpd P x).map .mov
  | .pick c a b => (toOpd P c).bind fun c => (toOpd P a).bind fun a => (toOpd P b).map fun b => .pick c a b
  | .alloc t => (layOf P t).bind fun y => (zeroSV P t).bind fun z => if z.cells.length = y.total ∧ z.cells.all SV.cell then some (.alloc y z) else none
  | .box t x => (layOf P t).bind fun y => (toOpd P x).map fun x => .box y x
  | .build t parts => (zeroSV P t).bind fun z =>
    match P.underlying t with
    | some (.struct fs) => if fs.toList.all (fun f => (P.info? f.type).isSome) = true then (toParts P (fun i => (fs[i]?).bind fun f => (P.info? f.type).map fun j => (f.offset, j.size)) parts.toList).map fun ps => .build z.cells ps else none
    | some (.array _ e) => (P.info? e).bind fun j => (toParts P (fun i => some (i * j.size, j.size)) parts.toList).map fun ps => .build z.cells ps
    | _ => none
  | .buildSlice t len parts => match P.underlying t with
    | some (.slice e) => (layElem P e).bind fun y => (zeroSV P e).bind fun z => (toNumbered P parts.toList).bind fun ps =>
      if len * y.esz ≤ 16777216 ∧ z.cells.length = y.esz ∧ z.cells.all SV.cell then some (.buildSlice y z len ps) else none
    | _ => none
  | .load t a => (layOf P t).bind fun y => (toOpd P a).map fun a => .load y a
  | .store t a x => (layOf P t).bind fun y => (toOpd P a).bind fun a => (toOpd P x).map fun x => .store y a x
  | .nilCheck x => (toOpd P x).map .nilCheck
  | .binOp op t x y _ => match compNil P op t x y with
    | some s => some s
    | none => match compPtr P op t x y with
      | some s => some s
      | none => (toOpd P x).bind fun x => (toOpd P y).map fun y => .bin op (eqKind P t) x y
  | .unOp op _ x => (toOpd P x).map fun x => .un op x
  | .convert src dst x => (toOpd P x).bind fun x =>
    match P.underlying src, P.underlying dst with
    | some (.int _), some (.int k) => some (.toInt k x)
    | some (.int _), some .string => some (.iToS x)
    | some .string, some .string => some (.sToS x)
    | some .string, some (.slice e) => match P.underlying e with
      | some (.int .u8) => some (.sToB e x)
      | _ => none
    | some (.slice e), some .string => match P.underlying e with
      | some (.int .u8) => some (.bToS x)
      | _ => none
    | some (.slice _), some (.slice e) => match P.underlying e with
      | some (.int .u8) => if src = dst then some (.markB x) else none
      | _ => none
    | _, _ => none
  | .makeInterface t x => match P.underlying t with
    | some (.interface _) => none
    | some _ => (toOpd P x).map fun x => .mkIface t x
    | none => none
  | .makeFunc (.func f) a b => (toOpds P a.toList).bind fun a => (toOpds P b.toList).map fun b => .mkFunc f a b
  | .makeMap _ none => some .mkMap
  | .makeSlice t l c => match P.underlying t with
    | some (.slice e) => (layElem P e).bind fun y => (zeroSV P e).bind fun z => (P.info? e).bind fun i => (toOpd P l).bind fun l => (toOpd P c).bind fun c =>
      if z.cells.length = y.esz ∧ z.cells.all SV.cell ∧ i.bytes ≤ 1048576 then some (.mkSlice y z i.bytes l c) else none
    | _ => none
  | .slice t x lo hi mx => (toOpd P x).bind fun x => (toOpt P lo).bind fun lo => (toOpt P hi).bind fun hi => (toOpt P mx).bind fun mx =>
    match P.underlying t with
    | some (.array n e) => (P.info? e).map fun j => .slA n j.size x lo hi mx
    | some .string => match mx with
      | none => some (.slS x lo hi)
      | some _ => none
    | some (.slice e) => if mx.isSome = true ∧ hi.isNone = true then none else (P.info? e).map fun j => .slL j.size x lo hi mx
    | _ => none
  | .fieldAddr t x i => match P.underlying t with
    | some (.struct fs) => (fs[i]?).bind fun f => (P.info? f.type).bind fun j => if 0 < j.size then (toOpd P x).map fun x => .fieldAddr f.offset x else none
    | _ => none
  | .indexAddr t x i => (toOpd P x).bind fun x => (toOpd P i).bind fun i =>
    match P.underlying t with
    | some (.slice e) => (P.info? e).map fun j => .idxAddrL j.size x i
    | some (.array n e) => (P.info? e).map fun j => .idxAddrA n j.size x i
    | _ => none
  | .field t x i => match P.underlying t with
    | some (.struct fs) => (fs[i]?).bind fun f => (P.info? f.type).bind fun j => if (P.underlying f.type).isSome = true then (toOpd P x).map fun x => .field f.offset j.size (isAggB P f.type) x else none
    | _ => none
  | .index t x i => (toOpd P x).bind fun x => (toOpd P i).bind fun i =>
    match P.underlying t with
    | some (.array n e) => if (P.underlying e).isSome = true then (P.info? e).map fun j => .idxA n j.size (isAggB P e) x i else none
    | some .string => some (.idxS x i)
    | _ => none
  | .lookup t x i ok => match P.underlying t with
    | some (.map k e) => (keyT P k).bind fun kk => (zeroSV P e).bind fun z => (toOpd P x).bind fun x => (toOpd P i).map fun i => .lookup kk z ok x i
    | _ => none
  | .mapUpdate t m k x | .insert t m k x => match P.underlying t with
    | some (.map kt _) => (keyT P kt).bind fun kk => (toOpd P m).bind fun m => (toOpd P k).bind fun k => (toOpd P x).map fun x => .mapUpdate kk m k x
    | _ => none
  | .extract x i => (toOpd P x).map fun x => .extract i x
  | .typeAssert x _ t ok => match P.underlying t with
    | some (.interface _) => none
    | some _ => (zeroSV P t).bind fun z => (toOpd P x).map fun x => .asType t z ok x
    | none => none
  | .call c => compCall P c
  | .range t x => match P.underlying t with
    | some .string => (toOpd P x).map .range
    | _ => none
  | .next x isString => bif isString then (toOpd P x).map .next else none
  | _ => none

def compOper (P : Program) (ops : Array Oper) (o : Oper) : Option SOper :=
  match o.guard with
  | none => some ⟨o.dst, (compOp P o.op).getD .stop, none⟩
  | some (j, want) => ((ops[j]?).bind (·.dst)).map fun t => ⟨o.dst, (compOp P o.op).getD .stop, some (t, want)⟩

def compOpers (P : Program) (ops : Array Oper) : List Oper → Option (List SOper)
  | [] => some []
  | o :: os => (compOper P ops o).bind fun x => (compOpers P ops os).map (x :: ·)

/- regions whose order is open -/
inductive Cls where
  | pure
  | look
  | act
  deriving DecidableEq

def SOp.cls : SOp → Cls
  | .alloc _ _ | .box _ _ | .buildSlice _ _ _ _ | .store _ _ _ | .mkMap | .mkSlice _ _ _ _ _ | .mapUpdate _ _ _ _ | .append _ _ _ _ _ | .copy _ _ _ | .delete _ _ _
  | .call _ _ | .callv _ _ | .sToB _ _ | .markB _ | .range _ | .next _ => .act
  | .load _ _ | .lookup _ _ _ _ _ | .lenM _ | .slL _ _ _ _ _ | .slA _ _ _ _ _ _ | .idxAddrL _ _ _ | .idxAddrA _ _ _ _ | .bToS _ => .look
  | _ => .pure

def optTmp : Option SOpd → List Nat
  | some (.t i) => [i]
  | _ => []
def opdTmp : SOpd → List Nat
  | .t i => [i]
  | _ => []

def SOp.reads : SOp → List Nat
  | .isNil _ x | .range x | .next x | .mov x | .load _ x | .nilCheck x | .un _ x | .toInt _ x | .sToS x | .iToS x | .sToB _ x | .bToS x | .markB x | .mkIface _ x | .fieldAddr _ x | .field _ _ _ x
  | .extract _ x | .lenS x | .lenL x | .lenM x | .asType _ _ _ x | .box _ x => opdTmp x
  | .pick c a b => opdTmp c ++ opdTmp a ++ opdTmp b
  | .alloc _ _ | .mkMap | .lenA _ | .stop => []
  | .build _ ps => ps.flatMap fun p => opdTmp p.2.2
  | .buildSlice _ _ _ ps => ps.flatMap fun p => opdTmp p.2
  | .store _ x v => opdTmp x ++ opdTmp v
  | .samePtr _ x y | .bin _ _ x y | .idxAddrL _ x y | .idxAddrA _ _ x y | .idxS x y | .idxA _ _ _ x y | .lookup _ _ _ x y | .append _ _ _ x y | .copy _ x y | .delete _ x y => opdTmp x ++ opdTmp y
  | .mkFunc _ a b => a.flatMap opdTmp ++ b.flatMap opdTmp
  | .mkSlice _ _ _ a b => opdTmp a ++ opdTmp b
  | .slS x lo hi => opdTmp x ++ optTmp lo ++ optTmp hi
  | .slL _ x lo hi mx | .slA _ _ x lo hi mx => opdTmp x ++ optTmp lo ++ optTmp hi ++ optTmp mx
  | .mapUpdate _ m k v => opdTmp m ++ opdTmp k ++ opdTmp v
  | .mini xs | .maxi xs => xs.flatMap opdTmp
  | .call _ xs => xs.flatMap opdTmp
  | .callv x xs => opdTmp x ++ xs.flatMap opdTmp

def SOper.reads (o : SOper) : List Nat :=
  o.op.reads ++ (match o.guard with
    | some (t, _) => [t]
    | none => [])

/- who must come ahead of each: in order, a mask each -/
def bitB (i m : Nat) : Bool := Nat.beq (Nat.land (Nat.shiftRight m i) 1) 1
def orEdges (b : List Nat) : List Edge → Nat
  | [] => 0
  | e :: es => bif Region.binds .any e then Nat.lor (Nat.lor (Nat.shiftLeft 1 e.on) (b.getD e.on 0)) (orEdges b es) else orEdges b es
def forceN {α : Type} (n : Nat) (k : Nat → α) : α :=
  match n with
  | 0 => k 0
  | m + 1 => k (m + 1)
def aheadOf : List Oper → List Nat → List Nat
  | [], acc => acc
  | o :: os, acc => forceN (orEdges acc o.after.toList) fun m => aheadOf os (acc ++ [m])
def apartDst (a b : Option Nat) : Bool :=
  match a, b with
  | some d, some d' => !Nat.beq d d'
  | _, _ => true
def memN (n : Nat) : List Nat → Bool
  | [] => false
  | m :: r => bif Nat.beq n m then true else memN n r
def apartRead (r : List Nat) (d : Option Nat) : Bool :=
  match d with
  | some d' => !memN d' r
  | none => true
def SOp.isAct (o : SOp) : Bool :=
  match o.cls with
  | .act => true
  | _ => false
def SOp.isLook (o : SOp) : Bool :=
  match o.cls with
  | .look => true
  | _ => false
/- two operations, the first ahead in the text; x: must it be? -/
def pairOk (o' o : SOper) (x : Bool) : Bool :=
  bif apartDst o'.dst o.dst then (bif x then true else bif apartRead o.reads o'.dst then (bif apartRead o'.reads o.dst then !(bif o'.op.isAct then o.op.isAct else false) else false) else false) else false
def edgesOk (ops : Array Oper) (b : List Nat) (j : Nat) : Bool :=
  match ops[j]? with
  | some o => (o.after.toList.all fun e => bif Region.binds .any e then Nat.blt e.on j else true) && Nat.beq (b.getD j 0) (orEdges b o.after.toList)
  | none => false
def pairsOk (so : List SOper) (m : Nat) (o : SOper) (i : Nat) : Bool :=
  match so[i]? with
    | some o' => pairOk o' o (bitB i m)
    | none => false
def drawOk (ops : Array Oper) (so : List SOper) (b : List Nat) : Bool :=
  (List.range so.length).all fun j => edgesOk ops b j &&
    (match so[j]? with
    | none => false
    | some o => forceN (b.getD j 0) fun m => (List.range j).all (pairsOk so m o))

def actB (so : List SOper) (e : Nat) : Bool :=
  match so[e]? with
  | some o => o.op.isAct
  | none => false
def ptOk (acts : List Nat) (b : List Nat) (j i : Nat) : Bool :=
  (acts.all fun e => bif Nat.blt e i then !bitB j (b.getD e 0) else !bitB e (b.getD j 0)) &&
  (acts.any fun e => bif Nat.blt e i then !Nat.blt e j else Nat.blt e j)
def ptsOf (acts : List Nat) (b : List Nat) (j : Nat) : List Nat := (0 :: acts.map (· + 1)).filter (ptOk acts b j)
def lookB (so : List SOper) (e : Nat) : Bool :=
  match so[e]? with
  | some o => o.op.isLook
  | none => false
def looksOf (so : List SOper) (b : List Nat) : List (Nat × List Nat) :=
  (List.range so.length).filterMap fun j =>
    bif lookB so j then
      (match ptsOf ((List.range so.length).filter (actB so)) b j with
      | [] => none
      | p :: ps => some (j, p :: ps))
    else none

/- code that the reduced machine does not take: it comes to nothing there -/
def stuckCode : SCode := .reg [⟨none, .stop, none⟩]
def compRegion (P : Program) (ops : Array Oper) (draw : Bool) : SCode :=
  match compOpers P ops ops.toList with
  | none => stuckCode
  | some so => bif draw then (bif drawOk ops so (aheadOf ops.toList []) then .draw so (looksOf so (aheadOf ops.toList [])) else stuckCode) else .reg so
def compCond (x : Option SOpd) (a b : SCode) : SCode :=
  match x with
  | none => stuckCode
  | some x => .cond x a b
def compCode (P : Program) : Code → SCode
  | .skip => .skip
  | .region _ ops draw => compRegion P ops draw
  | .seq a b => .seq (compCode P a) (compCode P b)
  | .cond x a b => compCond (toOpd P x) (compCode P a) (compCode P b)
  | .block id a => .block id (compCode P a)
  | .loop a => .loop (compCode P a)
  | .exit id => .exit id
  | .ret => .ret
  | _ => stuckCode

def compResults (P : Program) : List ResultVar → Option (List SResult)
  | [] => some []
  | .tmp t :: r => (compResults P r).map (.t t :: ·)
  | .cell a t :: r => (layOf P t).bind fun y => (compResults P r).map (.c a y :: ·)

def dstsBelow (n : Nat) (os : List SOper) : Bool := os.all fun o => match o.dst with
  | some d => Nat.blt d n
  | none => true
def codeBelow (n : Nat) : SCode → Bool
  | .skip | .exit _ | .ret => true
  | .reg ops | .draw ops _ => dstsBelow n ops
  | .seq a b | .cond _ a b => codeBelow n a && codeBelow n b
  | .block _ a | .loop a => codeBelow n a
def compFunc (P : Program) (f : Func) : Option SFunc :=
  f.body.bind fun c => (compResults P f.results.toList).bind fun rs =>
    if codeBelow f.ntmps (compCode P c) = true ∧ (f.name == "runtime.NumGoroutine") = false then some ⟨f.params.size + f.nfree, rs, compCode P c⟩ else none

end Go.Sim
