/- AM: the model's code as abstract code. -/
import Derived.Test.YtmbnakinhnkabaaAmI
namespace Go.AM

/-- A value that names no memory. -/
def cvOf : Value → Option CV
  | .bool b => some (.bool b)
  | .int k n => some (.int k n)
  | .string s => some (.str s)
  | .pointer none => some .nilp
  | .slice none 0 0 => some .nils
  | .map none => some .nilm
  | .nilFunc => some .nilfn
  | .nilIface => some .nilif
  | .func (.func f) a b => (match a.toList, b.toList with | [], [] => some (.fn f [] []) | _, _ => none)
  | _ => none

def cvsOf : List Value → Option (List CV)
  | [] => some []
  | v :: r => match cvOf v, cvsOf r with
    | some c, some l => some (c :: l)
    | _, _ => none

/-- The shape of a type in cells: none: one cell; some n: a row of n cells. -/
def shapeOf (P : Program) : Nat → TypeId → Option (List (Option Nat))
  | 0, _ => none
  | d + 1, t => match P.underlying t with
    | some (.struct fs) => fs.toList.foldl (fun acc f => match acc, shapeOf P d f.type with
        | some l, some m => some (l ++ m)
        | _, _ => none) (some [])
    | some (.array n e) => (match shapeOf P d e with
        | some [none] => some [some n]
        | _ => none)
    | some _ => some [none]
    | none => none

/-- Cells laid out by a shape. A row must be of one cell's copies. -/
def layOut : List (Option Nat) → List CV → Option (List Seg)
  | [], [] => some []
  | none :: r, v :: l => (layOut r l).map (Seg.c v :: ·)
  | some n :: r, l =>
    match l with
    | v :: _ => (layOut r (l.drop n)).map (Seg.a n (fun _ => v) :: ·)
    | [] => if n = 0 then (layOut r []).map (Seg.a 0 (fun _ => .nilp) :: ·) else none
  | _, _ => none

/-- Two values that are one, for certain. -/
def eqCV : CV → CV → Bool
  | .bool a, .bool b => a == b
  | .int j a, .int k b => sameK j k && a == b
  | .str a, .str b => decide (a = b)
  | .nilp, .nilp => true
  | .nils, .nils => true
  | .nilm, .nilm => true
  | .nilfn, .nilfn => true
  | .nilif, .nilif => true
  | _, _ => false
theorem eqCV_eq {a b : CV} (h : eqCV a b = true) : a = b := by
  cases a <;> cases b <;> simp [eqCV] at h <;> first | rfl | (subst h; rfl) | (obtain ⟨h1, h2⟩ := h; rw [sameK_eq h1, h2])
def eqL : List CV → List CV → Bool
  | [], [] => true
  | a :: l, b :: m => eqCV a b && eqL l m
  | _, _ => false
theorem eqL_eq : ∀ {l m : List CV}, eqL l m = true → l = m
  | [], [], _ => rfl
  | [], _ :: _, h => by simp [eqL] at h
  | _ :: _, [], h => by simp [eqL] at h
  | a :: l, b :: m, h => by
    simp only [eqL, Bool.and_eq_true] at h
    rw [eqCV_eq h.1, eqL_eq h.2]

def zeroOf (P : Program) (t : TypeId) : Option (List Seg) :=
  match P.info? t with
  | some i => match i.zero with
    | some z => (match shapeOf P 8 t, cvsOf z.cells.toList with
      | some sh, some cs => (match layOut sh cs with
        | some l => if eqL (flat l) cs = true then some l else none
        | none => none)
      | _, _ => none)
    | none => none
  | none => none

def aggT (P : Program) (t : TypeId) : Option Bool :=
  match P.underlying t with
  | some (.struct _) => some true
  | some (.array _ _) => some true
  | some _ => some false
  | none => none

def sizeT (P : Program) (t : TypeId) : Option Nat := (P.info? t).map (·.size)
def bytesT (P : Program) (t : TypeId) : Option Nat := (P.info? t).map (·.bytes)

def opd : Operand → Option Opd
  | .tmp t => some (.t t)
  | .const (.agg cs) => (cvsOf cs.toList).map fun l => .k (.agg (l.map Seg.c))
  | .const v => (cvOf v).map fun c => .k (.c c)
  | .func f => some (.k (.c (.fn f [] [])))
  | .global _ => none

def opds : List Operand → Option (List Opd)
  | [] => some []
  | x :: r => match opd x, opds r with
    | some y, some l => some (y :: l)
    | _, _ => none

def opdO : Option Operand → Option (Option Opd)
  | none => some none
  | some x => (opd x).map some

def fieldAt (P : Program) (s : TypeId) (f : Nat) : Option Field :=
  match P.underlying s with
  | some (.struct fs) => fs[f]?
  | _ => none

def placesT (P : Program) (fs : Array Field) : Option (List (Nat × Nat)) := fs.toList.mapM (fun f => (P.info? f.type).map fun i => (f.offset, i.size))

def partsT (place : Nat → Option (Nat × Nat)) : List (Nat × Operand) → Option (List (Nat × Nat × Opd))
  | [] => some []
  | (i, x) :: r => match place i, opd x, partsT place r with
    | some (o, n), some y, some l => some ((o, n, y) :: l)
    | _, _, _ => none

/-- The fields of a struct, as they are held against one another. -/
def flatK (P : Program) : List Field → Nat → Option (List FK)
  | [], _ => some []
  | f :: fs, i => if f.name ≠ "_" ∧ f.offset = i then
    (match P.underlying f.type with
    | some .bool => (flatK P fs (i + 1)).map (FK.one false :: ·)
    | some (.int _) => (flatK P fs (i + 1)).map (FK.one true :: ·)
    | some (.array n e) => if P.cellsOf f.type = n ∧ P.cellsOf e = 1 ∧ (P.info? e).isSome = true ∧ (P.info? f.type).isSome = true then
        (match P.underlying e with
        | some .bool => (flatK P fs (i + n)).map (FK.arr n false :: ·)
        | some (.int _) => (flatK P fs (i + n)).map (FK.arr n true :: ·)
        | _ => none)
      else none
    | _ => none) else none

def eqOp (op : BinOp) : Option Bool := match op with | .eql => some false | .neq => some true | _ => none

def stripOp (P : Program) (o : Op) : Option AOp :=
  match o with
  | .move x | .assign x => (opd x).map .mv
  | .pick (.tmp c) a b => match opd a, opd b with
    | some x, some y => some (.pick c x y)
    | _, _ => none
  | .alloc t => (zeroOf P t).map fun z => .alloc t z
  | .box t x => (opd x).map (.box t ·)
  | .build t ps => match P.underlying t with
    | some (.struct fs) => (match zeroOf P t, placesT P fs with
      | some z, some places => (partsT (fun i => places.toArray[i]?) ps.toList).map fun l => .build z l
      | _, _ => none)
    | some (.array _ e) => (match zeroOf P t, sizeT P e with
      | some z, some k => (partsT (fun i => some (i * k, k)) ps.toList).map fun l => .build z l
      | _, _ => none)
    | _ => none
  | .buildSlice t n ps => match P.underlying t with
    | some (.slice e) => (match zeroOf P e, sizeT P e with
      | some z, some k => if n * k ≤ 16777216 ∧ k ≠ 0 ∧ sizes z = k then (partsT (fun i => some (i * k, k)) ps.toList).map fun l => .bslice e k z n l else none
      | _, _ => none)
    | _ => none
  | .load t a => match aggT P t, sizeT P t, opd a with
    | some false, _, some x => some (.ld1 x)
    | some true, some n, some x => some (.ldn n x)
    | _, _, _ => none
  | .store t a v => match aggT P t, sizeT P t, opd a, opd v with
    | some false, some 1, some x, some y => some (.st1 x y)
    | some true, some n, some x, some y => some (.stn n x y)
    | _, _, _, _ => none
  | .nilCheck x => (opd x).map .nilchk
  | .binOp op t x y _ => match P.underlying t, opd x, opd y with
    | some (.int _), some x, some y => some (.bin op x y)
    | some .bool, some x, some y => (match op with | .eql => some (.eqB false x y) | .neq => some (.eqB true x y) | _ => none)
    | some (.struct fs), some x, some y => (match eqOp op, flatK P fs.toList 0 with
      | some neq, some ks => if P.stoodInHeld t = false ∧ P.eqGuardType P.depth t = false then some (.eqS neq ks x y) else none
      | _, _ => none)
    | some (.pointer _), some x, some y => (eqOp op).map fun neq => .nilq .ptr neq x y
    | some (.func _ _ _), some x, some y => (eqOp op).map fun neq => .nilq .fn neq x y
    | some (.slice _), some x, some y => (eqOp op).map fun neq => .nilq .sl neq x y
    | some (.map _ _), some x, some y => (eqOp op).map fun neq => .nilq .map neq x y
    | some .string, some x, some y => (match op with | .add => some (.cat x y) | .eql => some (.eqT false x y) | .neq => some (.eqT true x y) | _ => none)
    | _, _, _ => none
  | .unOp op _ x => (opd x).map (.un op ·)
  | .convert src dst x => match P.underlying src, P.underlying dst, opd x with
    | some _, some (.int k), some y => some (.conv k y)
    | some .string, some (.slice e), some y => (match P.underlying e with | some (.int .u8) => some (.tob e y) | _ => none)
    | _, _, _ => none
  | .makeFunc (.func f) first caps => match opds first.toList, opds caps.toList with
    | some l, some m => some (.mkfn f l m)
    | _, _ => none
  | .makeSlice t len cap => match P.underlying t with
    | some (.slice e) => (match zeroOf P e, sizeT P e, bytesT P e, opd len, opd cap with
      | some z, some k, some b, some x, some y => if k ≠ 0 ∧ b ≠ 0 ∧ sizes z = k then some (.mkslice e k b z x y) else none
      | _, _, _, _, _ => none)
    | _ => none
  | .slice t x lo hi none => match P.underlying t, opd x, opdO lo, opdO hi with
    | some (.slice e), some x, some lo, some hi => (sizeT P e).map fun k => .slc k x lo hi
    | some (.pointer arr), some x, some lo, some hi => (match P.underlying arr with
      | some (.array n e) => if sizeT P e = some 1 then some (.slcA n x lo hi) else none
      | _ => none)
    | some (.array n e), some x, some lo, some hi => if sizeT P e = some 1 then some (.slcA n x lo hi) else none
    | _, _, _, _ => none
  | .fieldAddr t x f => match fieldAt P t f, opd x with
    | some f, some y => (match sizeT P f.type with
      | some (_ + 1) => some (.faddr y f.offset)
      | _ => none)
    | _, _ => none
  | .field t x f => match fieldAt P t f, opd x with
    | some f, some y => (match aggT P f.type, sizeT P f.type with
      | some true, some n => some (.fld y f.offset (some n))
      | some false, _ => some (.fld y f.offset none)
      | _, _ => none)
    | _, _ => none
  | .indexAddr t x i => match P.underlying t, opd x, opd i with
    | some (.slice e), some x, some i => (sizeT P e).map fun k => .iaddr k x i
    | some (.array n e), some x, some i => if sizeT P e = some 1 then some (.iaddrA n x i) else none
    | _, _, _ => none
  | .index t x i => match P.underlying t, opd x, opd i with
    | some .string, some x, some i => some (.idxT x i)
    | _, _, _ => none
  | .extract x i => (opd x).map (.ext · i)
  | .call { callee := .value f, args := args, argTypes := _ } => match opd f, opds args.toList with
    | some f, some l => some (.call f l)
    | _, _ => none
  | .call { callee := .builtin .len, args := args, argTypes := ts } => match args.toList, ts.toList with
    | [x], [t] => (match P.underlying t, opd x with
      | some (.slice _), some y => some (.len false y)
      | some .string, some y => some (.len true y)
      | some (.array n _), _ => some (.mv (.k (.c (.int .i64 n))))
      | _, _ => none)
    | _, _ => none
  | .call { callee := .builtin .copy, args := args, argTypes := ts } => match args.toList, ts.toList with
    | [x, y], [t, _] => (match P.underlying t, opd x, opd y with
      | some (.slice e), some x, some y => (sizeT P e).map fun k => .cpy k x y
      | _, _, _ => none)
    | _, _ => none
  | .call { callee := .builtin .clear, args := args, argTypes := ts } => match args.toList, ts.toList with
    | [x], [t] => (match P.underlying t, opd x with
      | some (.slice e), some x => (match zeroOf P e, sizeT P e with
        | some z, some k => if k ≠ 0 ∧ sizes z = k then some (.clr k z x) else none
        | _, _ => none)
      | _, _ => none)
    | _, _ => none
  | .call { callee := .builtin .append, args := args, argTypes := ts } => match args.toList, ts.toList with
    | [x, y], [t, u] => (match P.underlying t, opd x, opd y with
      | some (.slice e), some x, some y => (match sizeT P e, bytesT P e, zeroOf P e with
        | some k, some b, some z => if t = u ∧ k ≠ 0 ∧ b ≠ 0 ∧ sizes z = k then some (.app k b e x y) else none
        | _, _, _ => none)
      | _, _, _ => none)
    | _, _ => none
  | _ => none

def dstOf (ops : Array Oper) (j : Nat) : Option Nat := (ops[j]?).bind (·.dst)

/-- Does operation 'o' wait for number 'j'? -/
def waits (o : Oper) (j : Nat) : Bool := o.after.toList.any fun e => Region.binds .any e && e.on == j

def readsA (o : AOper) : List Nat :=
  (match o.guard with
   | some (d, _) => [d]
   | none => []) ++ aSlots o.op

/-- May the operations of a region that draws be told in the order of the text? -/
def drawOk (ops : Array Oper) (al : List AOper) : Bool :=
  (List.range ops.size).all fun i => match ops[i]?, al[i]? with
    | some o, some ao =>
      (o.after.toList.all fun e => !Region.binds .any e || decide (e.on < i)) &&
      (List.range ops.size).all fun j => (i == j) || (match ops[j]? with
        | none => false
        | some x => match x.dst with
          | none => true
          | some d => (o.dst != some d) && (!(readsA ao).contains d || (if j < i then waits o j else waits x i)))
    | _, _ => false

/-- For whom an operation waits, through others too: bits. -/
def maskE (ms : List Nat) : List Edge → Nat → Nat
  | [], acc => acc
  | e :: r, acc => maskE ms r (if Region.binds .any e = true then acc ||| (1 <<< e.on) ||| ms.getD e.on 0 else acc)
def masks : List Oper → List Nat → List Nat
  | [], ms => ms
  | o :: r, ms => masks r (ms ++ [maskE ms o.after.toList 0])
/-- Operation 'i' and all behind it wait for all ahead of them. -/
def tailAt (ops : Array Oper) (i : Nat) : Bool :=
  let ms := masks ops.toList []
  (List.range ops.size).all fun k => decide (k < i) || ((List.range k).all fun j => (ms.getD k 0).testBit j)

/-- Operation 'i' and all behind it wait for all ahead of it. -/
def cutAt (ops : Array Oper) (i : Nat) : Bool :=
  let ms := masks ops.toList []
  (List.range ops.size).all fun k => decide (k < i) || ((List.range i).all fun j => (ms.getD k 0).testBit j)
/-- All ahead of operation 'i' come ahead of it, all behind it behind it. -/
def soloAt (ops : Array Oper) (i : Nat) : Bool := cutAt ops i && cutAt ops (i + 1)

/-- The slot of the address that a load reads. -/
def addrOf : AOp → Option Nat
  | .ld1 (.t a) => some a
  | .ldn _ (.t a) => some a
  | _ => none
/-- append to nil -/
def appNil : AOp → Bool
  | .app _ _ _ (.k (.c .nils)) _ => true
  | _ => false
def stripD (P : Program) (o : Oper) : AOp := (stripOp P o.op).getD .other
/-- The addresses of loads ahead that are not in the text's order with number j. -/
def exAt (P : Program) (ops : Array Oper) (j : Nat) : List Nat :=
  let ms := masks ops.toList []
  (List.range j).filterMap fun i => match ops[i]? with
    | some o => if (ms.getD j 0).testBit i then none else addrOf (stripD P o)
    | none => none
/-- An operation that may turn the heap, with whom all that look at the heap are in the order of the text, but loads from elsewhere. -/
def midAt (P : Program) (ops : Array Oper) (j : Nat) : Bool :=
  match ops[j]? with
  | none => false
  | some o => chgOp (stripD P o) && (let ms := masks ops.toList []
    (List.range ops.size).all fun i => (i == j) || (match ops[i]? with
      | none => true
      | some x => quietOp (stripD P x) || (if i < j then (ms.getD j 0).testBit i else (ms.getD i 0).testBit j) ||
        (match addrOf (stripD P x) with
        | none => false
        | some a => appNil (stripD P o) || (stOp (stripD P o) && decide (i < j) && (List.range ops.size).all fun k => decide (k < i) || (match ops[k]? with
          | some y => y.dst != some a
          | none => true)))))

def stripOper (P : Program) (N : Nat) (ops : Array Oper) (draw : Bool) (i : Nat) (o : Oper) : AOper :=
  let ok := o.dst.all (· < N) && (match o.guard with | none => true | some (j, _) => (dstOf ops j).isSome)
  { dst := o.dst
    op := if ok then (stripOp P o.op).getD .other else .other
    guard := match o.guard with
      | none => none
      | some (j, w) => (dstOf ops j).map fun d => (d, w)
    tl := !draw || soloAt ops i || midAt P ops i
    ex := if !draw || soloAt ops i || !midAt P ops i || appNil (stripD P o) then [] else exAt P ops i }

/-- No range over a function stands in it. -/
def noRange : Code → Bool
  | .rangeFunc _ _ _ _ => false
  | .seq a b => noRange a && noRange b
  | .cond _ a b => noRange a && noRange b
  | .block _ a => noRange a
  | .loop a => noRange a
  | _ => true
def strip (P : Program) (N : Nat) : Code → ACode
  | .rangeFunc g ps a b => match opd g with
    | some g' => if (ps.toList.all (· < N) && (noRange a && noRange b)) = true then .range (IterC P) LeS g' ps.toList (strip P N a) (strip P N b) else .other
    | none => .other
  | .skip => .skip
  | .region _ ops draw =>
    let l := ops.toList.zipIdx.map fun (o, i) => stripOper P N ops draw i o
    if okG l && (!draw || drawOk ops l) then .region l else .other
  | .seq a b => .seq (strip P N a) (strip P N b)
  | .cond c t e => match opd c with
    | some x => .cond x (strip P N t) (strip P N e)
    | none => .other
  | .block id b => .block id (strip P N b)
  | .loop b => .loop (strip P N b)
  | .exit id => .exit id
  | .ret => .ret
  | _ => .other

def stripF (P : Program) (fn : Func) : Option ACode :=
  match fn.body with
  | some c => some (strip P fn.ntmps c)
  | none => none

def stripRes (P : Program) : List ResultVar → Option (List ARes)
  | [] => some []
  | .tmp t :: r => (stripRes P r).map (ARes.tmp t :: ·)
  | .cell a t :: r => match aggT P t, sizeT P t, stripRes P r with
    | some false, _, some l => some (ARes.c1 a :: l)
    | some true, some n, some l => some (ARes.cn n a :: l)
    | _, _, _ => none

end Go.AM
