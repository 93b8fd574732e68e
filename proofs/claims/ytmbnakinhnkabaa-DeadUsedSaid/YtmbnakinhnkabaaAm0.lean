/- AM: an abstract machine over the model: definitions. Abstract values with abstract block ids; a weakest precondition over abstract code that the kernel can evaluate. -/
import Derived.Calls
import Derived.Orders
import Derived.Laws.World
import Derived.Laws.Sem
import Derived.Tactics
import Derived.KernelRfl
import Derived.Laws.StructEq
import Derived.ChangeKeysEq
namespace Go.AM
set_option linter.unusedVariables false

structure AA where
  id : Nat
  idx : Nat
  off : Nat
  sub : Nat

inductive CV where
  | bool (b : Bool)
  | int (k : IntKind) (n : Int)
  | str (s : ByteArray)
  | nilp
  | ptr (a : AA)
  | nils
  | slice (a : AA) (inner : Bool) (len : Nat)
  | nilm
  | map (id : Nat)
  | fn (f : FuncId) (first caps : List AA)
  | nilfn
  | nilif
  | iface (t : TypeId) (k : IntKind) (n : Int)

inductive Seg where
  | c (v : CV)
  | a (n : Nat) (f : Nat → CV)

inductive AV where
  | bot
  | c (v : CV)
  | agg (l : List Seg)
  | tup (l : List AV)

/-- A block of rows. 'sz = none': one row. -/
structure Blk where
  str : Nat
  sz : Option Nat
  row : Nat → List Seg
  elem : TypeId
  wr : Bool

def Blk.n (B : Blk) : Nat := B.sz.getD 1

structure Heap where
  next : Nat
  blks : List (Nat × Blk)

def getB : List (Nat × Blk) → Nat → Option Blk
  | [], _ => none
  | (j, B) :: r, i => match Nat.beq j i with | true => some B | false => getB r i

def setB : List (Nat × Blk) → Nat → Blk → List (Nat × Blk)
  | [], _, _ => []
  | (j, C) :: r, i, B => match Nat.beq j i with | true => (j, B) :: r | false => (j, C) :: setB r i B

def delB : List (Nat × Blk) → Nat → List (Nat × Blk)
  | [], _ => []
  | (j, C) :: r, i => match Nat.beq j i with | true => delB r i | false => (j, C) :: delB r i

/-- Conditions under which a slot holds its value: the guard's slot, what is wanted of it, what it holds. -/
abbrev Path := List (Nat × Bool × Bool)

def beqb : Bool → Bool → Bool
  | true, true => true
  | false, false => true
  | _, _ => false

def eqP : Path → Path → Bool
  | [], [] => true
  | (s, w, _) :: p, (s', w', _) :: q => match Nat.beq s s' with | true => (match beqb w w' with | true => eqP p q | false => false) | false => false
  | _, _ => false

def sfx (p : Path) : Path → Bool
  | [] => eqP p []
  | x :: q => match eqP p (x :: q) with | true => true | false => sfx p q

def conds : Path → Prop
  | [] => True
  | (_, w, b) :: r => b = w ∧ conds r

def imp : Path → Prop → Prop
  | [], p => p
  | (_, w, b) :: r, p => b = w → imp r p

/-- A slot: its number, when it holds, what. The first of a number counts. -/
structure Slot where
  n : Nat
  path : Path
  v : AV

structure St where
  tmps : List Slot
  heap : Heap

inductive Opd where
  | t (n : Nat)
  | k (v : AV)

/-! ### Kinds -/
def sameK : IntKind → IntKind → Bool
  | .i8, .i8 => true | .i16, .i16 => true | .i32, .i32 => true | .i64, .i64 => true
  | .u8, .u8 => true | .u16, .u16 => true | .u32, .u32 => true | .u64, .u64 => true
  | _, _ => false

theorem sameK_eq {j k : IntKind} (h : sameK j k = true) : j = k := by cases j <;> cases k <;> first | rfl | cases h

def addN : Nat → Nat → Nat
  | 0, b => b
  | a + 1, b => (a + 1) + b
theorem addN_eq (a b : Nat) : addN a b = a + b := by cases a <;> simp [addN]

/-! ### Segments -/
def Seg.size : Seg → Nat
  | .c _ => 1
  | .a n _ => n
def Seg.flat : Seg → List CV
  | .c v => [v]
  | .a n f => (List.range n).map f
def flat : List Seg → List CV
  | [] => []
  | s :: r => s.flat ++ flat r
def sizes : List Seg → Nat
  | [] => 0
  | s :: r => s.size + sizes r

def nsub : Nat → Nat → Option Nat
  | a, 0 => some a
  | 0, _ + 1 => none
  | a + 1, b + 1 => nsub a b
theorem nsub_eq {a b c : Nat} (h : nsub a b = some c) : a = b + c := by
  induction a generalizing b with
  | zero => cases b <;> simp [nsub] at h; omega
  | succ a ih => cases b with
    | zero => simp [nsub] at h; omega
    | succ b => simp only [nsub] at h; have := ih h; omega

/-- The segment that begins at an offset. -/
def segAt : List Seg → Nat → Option Seg
  | [], _ => none
  | s :: _, 0 => some s
  | s :: r, o + 1 => match nsub (o + 1) s.size with | some o' => segAt r o' | none => none

/-- 'm' cells from the beginning. -/
def takeS : List Seg → Nat → Option (List Seg)
  | _, 0 => some []
  | [], _ + 1 => none
  | s :: r, m + 1 => match nsub (m + 1) s.size with
    | some m' => (match takeS r m' with | some l => some (s :: l) | none => none)
    | none => none
def dropS : List Seg → Nat → Option (List Seg)
  | l, 0 => some l
  | [], _ + 1 => none
  | s :: r, m + 1 => match nsub (m + 1) s.size with | some m' => dropS r m' | none => none
/-- 'm' cells at an offset. -/
def cut (l : List Seg) (o m : Nat) : Option (List Seg) := match dropS l o with | some r => takeS r m | none => none
/-- The cells from an offset on replaced by 'x', of as many cells. -/
def putS (l : List Seg) (o : Nat) (x : List Seg) : Option (List Seg) :=
  match takeS l o, dropS l (o + sizes x) with
  | some a, some b => some (a ++ (x ++ b))
  | _, _ => none

inductive Res where
  /-- a value; what must hold; a block that is made -/
  | p (need : Option Prop) (v : AV) (B : Option Blk)
  /-- the heap is changed -/
  | t (need : Option Prop) (v : AV) (H : Heap)
  | call (f : FuncId) (args : List AV)
  | bad

/-! ### Slots -/
def slotAt : List Slot → Nat → Option Slot
  | [], _ => none
  | ⟨k, p, v⟩ :: r, n => match Nat.beq k n with | true => some ⟨k, p, v⟩ | false => slotAt r n

def St.get (s : St) (π : Path) : Opd → AV
  | .t n => match slotAt s.tmps n with
    | some ⟨_, p, v⟩ => (match sfx p π with | true => v | false => .bot)
    | none => .bot
  | .k v => v
def St.put (s : St) (dst : Option Nat) (π : Path) (v : AV) : St :=
  match dst with
  | some d => ⟨⟨d, π, v⟩ :: s.tmps, s.heap⟩
  | none => s

/-! ### Operations -/
/-- A field of a struct that is held against another one: a cell, or a row of cells; of integers? -/
inductive FK where
  | one (int : Bool)
  | arr (n : Nat) (int : Bool)
/-- What may be held against nil. -/
inductive NK where
  | ptr
  | fn
  | sl
  | map
inductive AOp where
  | mv (x : Opd)
  | pick (cs : Nat) (a b : Opd)
  | alloc (t : TypeId) (zero : List Seg)
  | box (t : TypeId) (x : Opd)
  | build (zero : List Seg) (parts : List (Nat × Nat × Opd))
  | bslice (t : TypeId) (str : Nat) (zero : List Seg) (n : Nat) (parts : List (Nat × Nat × Opd))
  | ld1 (a : Opd)
  | ldn (n : Nat) (a : Opd)
  | st1 (a x : Opd)
  | stn (n : Nat) (a x : Opd)
  | nilchk (x : Opd)
  | bin (op : BinOp) (x y : Opd)
  | eqB (neq : Bool) (x y : Opd)
  | eqS (neq : Bool) (ks : List FK) (x y : Opd)
  | nilq (kd : NK) (neq : Bool) (x y : Opd)
  | un (op : UnOp) (x : Opd)
  | conv (k : IntKind) (x : Opd)
  | mkfn (f : FuncId) (first caps : List Opd)
  | mkslice (t : TypeId) (str bytes : Nat) (zero : List Seg) (len cap : Opd)
  | slc (str : Nat) (x : Opd) (lo hi : Option Opd)
  | slcA (n : Nat) (x : Opd) (lo hi : Option Opd)
  | faddr (x : Opd) (off : Nat)
  | fld (x : Opd) (off : Nat) (n : Option Nat)
  | iaddr (str : Nat) (x i : Opd)
  | iaddrA (n : Nat) (x i : Opd)
  | ext (x : Opd) (i : Nat)
  | call (f : Opd) (args : List Opd)
  | len (str : Bool) (x : Opd)
  | app (str bytes : Nat) (t : TypeId) (x y : Opd)
  | eqT (neq : Bool) (x y : Opd)
  | idxT (x i : Opd)
  | cat (x y : Opd)
  | cpy (str : Nat) (x y : Opd)
  | tob (t : TypeId) (x : Opd)
  | clr (str : Nat) (zero : List Seg) (x : Opd)
  | other

def oSl : Opd → List Nat
  | .t n => [n]
  | .k _ => []
def oSlO : Option Opd → List Nat
  | none => []
  | some x => oSl x
def oSlL : List Opd → List Nat
  | [] => []
  | x :: r => oSl x ++ oSlL r
def oSlP : List (Nat × Nat × Opd) → List Nat
  | [] => []
  | (_, _, x) :: r => oSl x ++ oSlP r
/-- The slots that an operation reads. -/
def aSlots : AOp → List Nat
  | .mv x => oSl x
  | .pick cs a b => cs :: (oSl a ++ oSl b)
  | .alloc _ _ => []
  | .box _ x => oSl x
  | .build _ ps => oSlP ps
  | .bslice _ _ _ _ ps => oSlP ps
  | .ld1 a => oSl a
  | .ldn _ a => oSl a
  | .st1 a x => oSl a ++ oSl x
  | .stn _ a x => oSl a ++ oSl x
  | .nilchk x => oSl x
  | .bin _ x y => oSl x ++ oSl y
  | .eqB _ x y => oSl x ++ oSl y
  | .eqS _ _ x y => oSl x ++ oSl y
  | .nilq _ _ x y => oSl x ++ oSl y
  | .un _ x => oSl x
  | .conv _ x => oSl x
  | .mkfn _ a b => oSlL a ++ oSlL b
  | .mkslice _ _ _ _ a b => oSl a ++ oSl b
  | .slc _ x a b => oSl x ++ (oSlO a ++ oSlO b)
  | .slcA _ x a b => oSl x ++ (oSlO a ++ oSlO b)
  | .faddr x _ => oSl x
  | .fld x _ _ => oSl x
  | .iaddr _ x i => oSl x ++ oSl i
  | .iaddrA _ x i => oSl x ++ oSl i
  | .ext x _ => oSl x
  | .call f as => oSl f ++ oSlL as
  | .len _ x => oSl x
  | .app _ _ _ x y => oSl x ++ oSl y
  | .eqT _ x y => oSl x ++ oSl y
  | .idxT x i => oSl x ++ oSl i
  | .cat x y => oSl x ++ oSl y
  | .cpy _ x y => oSl x ++ oSl y
  | .tob _ x => oSl x
  | .clr _ _ x => oSl x
  | .other => []

/-- Operations that look at no heap. -/
def quietOp : AOp → Bool
  | .mv _ => true
  | .pick _ _ _ => true
  | .build _ _ => true
  | .nilchk _ => true
  | .bin _ _ _ => true
  | .eqB _ _ _ => true
  | .eqS _ _ _ _ => true
  | .nilq _ _ _ _ => true
  | .un _ _ => true
  | .conv _ _ => true
  | .mkfn _ _ _ => true
  | .slcA _ _ _ _ => true
  | .faddr _ _ => true
  | .fld _ _ _ => true
  | .iaddrA _ _ _ => true
  | .ext _ _ => true
  | .len _ _ => true
  | .eqT _ _ _ => true
  | .idxT _ _ => true
  | .cat _ _ => true
  | _ => false
/-- Operations that may turn the heap. -/
def chgOp : AOp → Bool
  | .st1 _ _ => true
  | .stn _ _ _ => true
  | .app _ _ _ _ _ => true
  | _ => false

def stOp : AOp → Bool
  | .st1 _ _ => true
  | .stn _ _ _ => true
  | _ => false

structure AOper where
  dst : Option Nat
  op : AOp
  guard : Option (Nat × Bool)
  tl : Bool
  /-- slots with addresses that must not be of the block that is written -/
  ex : List Nat

/-- What an iterator promises: the function, what it has caught, the blocks that it reads, the number of rounds, what each is handed. (Its meaning: AmI) -/
abbrev IterT := FuncId → List AA → Heap → Nat → (Nat → List AV) → Prop
/-- A state is what another one says, under other ids, with less known. (Its meaning: AmI) -/
abbrev LeT := St → St → Prop

inductive ACode where
  | range (it : IterT) (le : Nat → LeT) (g : Opd) (ps : List Nat) (a b : ACode)
  | skip
  | region (ops : List AOper)
  | seq (a b : ACode)
  | cond (c : Opd) (t e : ACode)
  | block (id : Nat) (b : ACode)
  | loop (b : ACode)
  | exit (id : Nat)
  | ret
  | other

inductive AEx where
  | normal
  | exit (id : Nat)
  | ret

def arith (op : BinOp) (k : IntKind) (a b : Int) : Res :=
  match op with
  | .add => .p none (.c (.int k (k.wrap (a + b)))) none
  | .sub => .p none (.c (.int k (k.wrap (a - b)))) none
  | .mul => .p none (.c (.int k (k.wrap (a * b)))) none
  | .quo => .p (some (b ≠ 0)) (.c (.int k (k.wrap (a.tdiv b)))) none
  | .rem => .p (some (b ≠ 0)) (.c (.int k (a.tmod b))) none
  | .and => .p none (.c (.int k (k.wrap (BitVec.ofInt k.bits a &&& BitVec.ofInt k.bits b).toNat))) none
  | .or => .p none (.c (.int k (k.wrap (BitVec.ofInt k.bits a ||| BitVec.ofInt k.bits b).toNat))) none
  | .xor => .p none (.c (.int k (k.wrap (BitVec.ofInt k.bits a ^^^ BitVec.ofInt k.bits b).toNat))) none
  | .andNot => .p none (.c (.int k (k.wrap (BitVec.ofInt k.bits a &&& ~~~ BitVec.ofInt k.bits b).toNat))) none
  | .eql => .p none (.c (.bool (a == b))) none
  | .neq => .p none (.c (.bool (a != b))) none
  | .lss => .p none (.c (.bool (decide (a < b)))) none
  | .leq => .p none (.c (.bool (decide (a ≤ b)))) none
  | .gtr => .p none (.c (.bool (decide (a > b)))) none
  | .geq => .p none (.c (.bool (decide (a ≥ b)))) none
  | _ => .bad

def shiftR (op : BinOp) (k : IntKind) (a b : Int) : Res :=
  match op with
  | .shl => .p (some (0 ≤ b)) (.c (.int k (k.wrap (a * 2 ^ (min b.toNat k.bits))))) none
  | .shr => .p (some (0 ≤ b)) (.c (.int k (a.fdiv (2 ^ (min b.toNat k.bits))))) none
  | _ => .bad

def isShift : BinOp → Bool
  | .shl => true
  | .shr => true
  | _ => false

def bin (op : BinOp) (x y : AV) : Res :=
  match x, y with
  | .c (.int k a), .c (.int k' b) =>
    match isShift op with
    | true => shiftR op k a b
    | false => (match sameK k k' with | true => arith op k a b | false => .bad)
  | _, _ => .bad

def eqB (neq : Bool) (x y : AV) : Res :=
  match x, y with
  | .c (.bool a), .c (.bool b) => (match neq with
    | false => .p none (.c (.bool (a == b))) none
    | true => .p none (.c (.bool (!(a == b)))) none)
  | _, _ => .bad

def negIf (neq r : Bool) : Bool := match neq with | true => !r | false => r
def eqS1 : Bool → CV → CV → Option Bool
  | true, .int j a, .int k b => (match sameK j k with | true => some (a == b) | false => none)
  | false, .bool a, .bool b => some (a == b)
  | _, _, _ => none
def kin : Bool → CV → CV → Prop
  | true, .int j _, .int k _ => sameK j k = true
  | false, .bool _, .bool _ => True
  | _, _, _ => False
def eqCb : CV → CV → Bool
  | .int _ a, .int _ b => a == b
  | .bool a, .bool b => a == b
  | _, _ => false
def andP : Option Prop → Option Prop → Option Prop
  | none, q => q
  | some p, none => some p
  | some p, some q => some (p ∧ q)
def eqF : List FK → List Seg → List Seg → Option (Option Prop × Bool)
  | [], [], [] => some (none, true)
  | .one k :: r, .c x :: l, .c y :: m => (match eqS1 k x y, eqF r l m with
    | some b, some (p, c) => some (p, b && c)
    | _, _ => none)
  | .arr n k :: r, .a i f :: l, .a j g :: m => (match Nat.beq n i, Nat.beq n j, eqF r l m with
    | true, true, some (p, c) => some (andP (some (∀ z, z < n → kin k (f z) (g z))) p, (List.range n).all (fun z => eqCb (f z) (g z)) && c)
    | _, _, _ => none)
  | _, _, _ => none
def eqS (neq : Bool) (ks : List FK) (x y : AV) : Res :=
  match x, y with
  | .agg l, .agg m => (match eqF ks l m with
    | some (p, r) => .p p (.c (.bool (negIf neq r))) none
    | none => .bad)
  | _, _ => .bad
def nilB : NK → CV → CV → Option (Option Prop × Bool)
  | .ptr, .nilp, .nilp => some (none, true)
  | .ptr, .nilp, .ptr _ => some (none, false)
  | .ptr, .ptr _, .nilp => some (none, false)
  | .fn, .nilfn, .nilfn => some (none, true)
  | .fn, .nilfn, .fn _ _ _ => some (none, false)
  | .fn, .fn _ _ _, .nilfn => some (none, false)
  | .sl, .nils, .nils => some (none, true)
  | .sl, .nils, .slice _ _ n => some (some (0 < n), false)
  | .sl, .slice _ _ n, .nils => some (some (0 < n), false)
  | .map, .nilm, .nilm => some (none, true)
  | .map, .nilm, .map _ => some (none, false)
  | .map, .map _, .nilm => some (none, false)
  | _, _, _ => none
def nilq (kd : NK) (neq : Bool) (x y : AV) : Res :=
  match x, y with
  | .c a, .c b => (match nilB kd a b with
    | some (p, r) => .p p (.c (.bool (negIf neq r))) none
    | none => .bad)
  | _, _ => .bad

def un (op : UnOp) (x : AV) : Res :=
  match op, x with
  | .not, .c (.bool b) => .p none (.c (.bool (!b))) none
  | .neg, .c (.int k a) => .p none (.c (.int k (k.wrap (0 - a)))) none
  | .xor, .c (.int k a) => .p none (.c (.int k (k.wrap (BitVec.ofInt k.bits (if k.signed then -1 else k.max) ^^^ BitVec.ofInt k.bits a).toNat))) none
  | _, _ => .bad

/-- What a single-cell load or a load of 'n' cells asks of its row. -/
def rowNeed (B : Blk) (i : Nat) : Option (Option Prop) :=
  match B.sz with
  | none => (match Nat.beq i 0 with | true => some none | false => none)
  | some n => some (some (i < n))

def andN : Option Prop → Option Prop → Option Prop
  | none, q => q
  | some p, none => some p
  | some p, some q => some (p ∧ q)

def ld1 (H : Heap) (a : AA) : Res :=
  match getB H.blks a.id with
  | none => .bad
  | some B => match rowNeed B a.idx with
    | none => .bad
    | some need => match segAt (B.row a.idx) a.off with
      | some (.c v) => (match Nat.beq a.sub 0 with | true => .p need (.c v) none | false => .bad)
      | some (.a n f) => .p (andN need (some (a.sub < n))) (.c (f a.sub)) none
      | none => .bad

def ldn (H : Heap) (m : Nat) (a : AA) : Res :=
  match getB H.blks a.id with
  | none => .bad
  | some B => match rowNeed B a.idx with
    | none => .bad
    | some need => match Nat.beq a.sub 0 with
      | false => .bad
      | true => match cut (B.row a.idx) a.off m with
        | some l => .p need (.agg l) none
        | none => .bad

def setRow (B : Blk) (i : Nat) (l : List Seg) : Blk :=
  match B.sz with
  | none => ⟨B.str, none, fun _ => l, B.elem, B.wr⟩
  | some n => ⟨B.str, some n, fun j => if j = i then l else B.row j, B.elem, B.wr⟩

def st1 (H : Heap) (a : AA) (x : CV) : Res :=
  match getB H.blks a.id with
  | none => .bad
  | some B => match B.wr with
    | false => .bad
    | true => match rowNeed B a.idx with
      | none => .bad
      | some need => match segAt (B.row a.idx) a.off with
        | some (.c _) => (match Nat.beq a.sub 0 with
          | true => (match putS (B.row a.idx) a.off [.c x] with
            | some l => .t need .bot ⟨H.next, setB H.blks a.id (setRow B a.idx l)⟩
            | none => .bad)
          | false => .bad)
        | some (.a n f) => (match putS (B.row a.idx) a.off [.a n (fun j => if j = a.sub then x else f j)] with
            | some l => .t (andN need (some (a.sub < n))) .bot ⟨H.next, setB H.blks a.id (setRow B a.idx l)⟩
            | none => .bad)
        | none => .bad

def stn (H : Heap) (m : Nat) (a : AA) (x : List Seg) : Res :=
  match getB H.blks a.id with
  | none => .bad
  | some B => match B.wr with
    | false => .bad
    | true => match rowNeed B a.idx with
      | none => .bad
      | some need => match Nat.beq a.sub 0 with
        | false => .bad
        | true => match Nat.beq (sizes x) m with
          | false => .bad
          | true => match putS (B.row a.idx) a.off x with
            | some l => .t need .bot ⟨H.next, setB H.blks a.id (setRow B a.idx l)⟩
            | none => .bad

/-- The cells of a value, as segments. -/
def segsOf : AV → Option (List Seg)
  | .c v => some [.c v]
  | .agg l => some l
  | _ => none

def fillS : List Seg → List (Nat × Nat × List Seg) → Option (List Seg)
  | l, [] => some l
  | l, (o, n, x) :: r => match Nat.beq (sizes x) n with
    | true => (match putS l o x with | some l' => fillS l' r | none => none)
    | false => none

def partsOf (g : Opd → AV) : List (Nat × Nat × Opd) → Option (List (Nat × Nat × List Seg))
  | [] => some []
  | (o, n, x) :: r => match segsOf (g x) with
    | some l => (match partsOf g r with | some t => some ((o, n, l) :: t) | none => none)
    | none => none

/-- The rows of a slice literal: laid one behind the other, then taken apart. -/
def repl : Nat → List Seg → List Seg
  | 0, _ => []
  | n + 1, x => x ++ repl n x
def cutD (l : List Seg) (o m : Nat) : List Seg := match cut l o m with | some x => x | none => []
def rowsFit (l : List Seg) (k : Nat) : Nat → Bool
  | 0 => true
  | n + 1 => match cut l (n * k) k with | some _ => rowsFit l k n | none => false
def rowFn (l : List Seg) (k n : Nat) : Nat → List Seg :=
  match n with
  | 1 => fun _ => l
  | _ => fun j => cutD l (j * k) k

def aasOf (g : Opd → AV) : List Opd → Option (List AA)
  | [] => some []
  | x :: r => match g x with
    | .c (.ptr a) => (match aasOf g r with | some l => some (a :: l) | none => none)
    | _ => none

def argsOf (g : Opd → AV) : List Opd → List AV
  | [] => []
  | x :: r => g x :: argsOf g r

def ptrsOf : List AA → List AV
  | [] => []
  | a :: r => .c (.ptr a) :: ptrsOf r
def appL : List AV → List AV → List AV
  | [], l => l
  | a :: r, l => a :: appL r l

def nthA : List AV → Nat → AV
  | [], _ => .bot
  | v :: _, 0 => v
  | _ :: r, n + 1 => nthA r n

def fieldOf (x : AV) (off : Nat) (n : Option Nat) : Res :=
  match x with
  | .agg l => (match n with
    | some m => (match cut l off m with | some l' => .p none (.agg l') none | none => .bad)
    | none => (match segAt l off with | some (.c v) => .p none (.c v) none | _ => .bad))
  | _ => .bad

/-- Bounds of a slice expression, over 0 .. top. -/
def bndHi (x : Option AV) (dflt : Nat) : Option (Option Int × Nat) :=
  match x with
  | none => some (none, dflt)
  | some (.c (.int _ n)) => some (some n, n.toNat)
  | some _ => none

def leN (x : Option Int) (top : Nat) : Option Prop :=
  match x with
  | none => none
  | some n => some (0 ≤ n ∧ n ≤ (top : Int))

/-- Is the slice's memory one of rows of so many cells? -/
def strOk (H : Heap) (k : Nat) (a : AA) (inner : Bool) : Bool :=
  match inner with
  | true => Nat.beq k 1
  | false => (match getB H.blks a.id with | some B => Nat.beq B.str k | none => false)

def plusA (a : AA) (inner : Bool) (n : Nat) : AA :=
  match inner with
  | true => ⟨a.id, a.idx, a.off, addN a.sub n⟩
  | false => ⟨a.id, addN a.idx n, a.off, a.sub⟩

def slcS (H : Heap) (k : Nat) (x : AV) (lo hi : Option AV) : Res :=
  match x with
  | .c (.slice a inner len) => (match strOk H k a inner, bndHi lo 0, bndHi hi len with
    | true, some (l, ln), some (h, hn) => .p (andN (leN h len) (leN l hn)) (.c (.slice (plusA a inner ln) inner (hn - ln))) none
    | _, _, _ => .bad)
  | .c .nils => (match bndHi lo 0, bndHi hi 0 with
    | some (l, ln), some (h, hn) => .p (andN (leN h 0) (leN l hn)) (.c .nils) none
    | _, _ => .bad)
  | _ => .bad

def optG (g : Opd → AV) : Option Opd → Option AV
  | none => none
  | some x => some (g x)

def rowsApp (B : Blk) (n : Nat) (C : Blk) (i : Nat) : Nat → List Seg :=
  fun j => if j < n then B.row j else C.row (addN i (j - n))

/-- append(x, y...): 'x' nil, or the whole of a block of our own. -/
def app (H : Heap) (bytes : Nat) (t : TypeId) (str : Nat) (x y : AV) : Res :=
  match y with
  | .c (.slice b false m) => (match getB H.blks b.id with
    | none => .bad
    | some C => (match C.sz, Nat.beq C.str str with
      | some c, true => (match x with
        | .c .nils =>
          .t (some (b.idx + m ≤ c ∧ m * bytes ≤ 140737488355328)) (.c (.slice ⟨H.next, 0, 0, 0⟩ false m))
            ⟨H.next + 1, (H.next, ⟨str, some m, fun j => C.row (addN b.idx j), t, true⟩) :: H.blks⟩
        | .c (.slice a false n) => (match getB H.blks a.id with
          | none => .bad
          | some B => (match B.wr, B.sz, Nat.beq a.idx 0, Nat.beq a.id b.id, Nat.beq B.str str, Nat.beq B.elem t with
            | true, some k, true, false, true, true =>
              .t (some (n = k ∧ b.idx + m ≤ c ∧ (n + m) * bytes ≤ 140737488355328)) (.c (.slice ⟨H.next, 0, 0, 0⟩ false (n + m)))
                ⟨H.next + 1, (H.next, ⟨str, some (n + m), rowsApp B n C b.idx, t, true⟩) :: delB H.blks a.id⟩
            | _, _, _, _, _, _ => .bad))
        | _ => .bad)
      | _, _ => .bad))
  | .c .nils => (match x with
      | .c .nils => .p none (.c .nils) none
      | _ => .bad)
  | _ => .bad

/-- Two strings are one. -/
def eqTb (a b : ByteArray) : Bool := a.data.toList == b.data.toList
/-- A string's byte. -/
def byteAt (t : ByteArray) (n : Nat) : Int :=
  match t[n]? with
  | some b => (b.toNat : Int)
  | none => 0
def eqT (neq : Bool) (x y : AV) : Res :=
  match x, y with
  | .c (.str a), .c (.str b) => .p none (.c (.bool (negIf neq (eqTb a b)))) none
  | _, _ => .bad
def idxT (x i : AV) : Res :=
  match x, i with
  | .c (.str t), .c (.int _ n) => .p (some (0 ≤ n ∧ n < (t.size : Int))) (.c (.int .u8 (byteAt t n.toNat))) none
  | _, _ => .bad
def cat (x y : AV) : Res :=
  match x, y with
  | .c (.str a), .c (.str b) => .p (some (a.size + b.size ≤ 9223372036854775807)) (.c (.str (a ++ b))) none
  | _, _ => .bad

def rowsCpy (B : Blk) (i : Nat) (C : Blk) (j k : Nat) : Nat → List Seg :=
  fun x => if i ≤ x ∧ x < addN i k then C.row (addN j (x - i)) else B.row x
/-- copy(x, y): slices of whole rows, 'x' of a block of our own. -/
def cpy (H : Heap) (str : Nat) (x y : AV) : Res :=
  match x, y with
  | .c (.slice a false n), .c (.slice b false m) => (match getB H.blks a.id, getB H.blks b.id with
    | some B, some C => (match B.wr, B.sz, C.sz, Nat.beq B.str str, Nat.beq C.str str with
      | true, some p, some q, true, true =>
        .t (some (a.idx + min m n ≤ p ∧ b.idx + min m n ≤ q)) (.c (.int .i64 ((min m n : Nat) : Int)))
          ⟨H.next, setB H.blks a.id ⟨B.str, some p, rowsCpy B a.idx C b.idx (min m n), B.elem, true⟩⟩
      | _, _, _, _, _ => .bad)
    | _, _ => .bad)
  | _, _ => .bad

def rowsClr (B : Blk) (i k : Nat) (z : List Seg) : Nat → List Seg :=
  fun x => if i ≤ x ∧ x < addN i k then z else B.row x
/-- clear(x): a slice of whole rows, of a block of our own. -/
def clr (H : Heap) (str : Nat) (z : List Seg) (x : AV) : Res :=
  match x with
  | .c (.slice a false n) => (match getB H.blks a.id with
    | some B => (match B.wr, B.sz, Nat.beq B.str str with
      | true, some p, true =>
        .t (some (a.idx + n ≤ p)) (.tup []) ⟨H.next, setB H.blks a.id ⟨B.str, some p, rowsClr B a.idx n z, B.elem, true⟩⟩
      | _, _, _ => .bad)
    | none => .bad)
  | _ => .bad

/-- A string's bytes, in a row of their own (which is only read). -/
def tob (H : Heap) (t : TypeId) (x : AV) : Res :=
  match x with
  | .c (.str b) => .t none (.c (.slice ⟨H.next, 0, 0, 0⟩ false b.size)) ⟨H.next + 1, (H.next, ⟨1, some b.size, fun i => [.c (.int .u8 (byteAt b i))], t, false⟩) :: H.blks⟩
  | _ => .bad

/-- 'c && x', 'c || y'. -/
def selB (c x y : Bool) : Bool := match c with | true => x | false => y
theorem selB_or (c y : Bool) : selB c true y = (c || y) := by cases c <;> rfl
theorem selB_and (c x : Bool) : selB c x false = (c && x) := by cases c <;> rfl

def getsl (s : St) (π : Path) (cs : Nat) (x : Opd) (want : Bool) : AV :=
  match x with
  | .t n => (match slotAt s.tmps n with
    | some ⟨_, q, v⟩ => (match sfx q π with
      | true => v
      | false => (match q with
        | (j, w, _) :: p => (match Nat.beq j cs with
          | true => (match beqb w want with | true => (match sfx p π with | true => v | false => .bot) | false => .bot)
          | false => .bot)
        | [] => .bot))
    | none => .bot)
  | .k v => v

def aop (s : St) (π : Path) (o : AOp) : Res :=
  match o with
  | .mv x => (match s.get π x with | .bot => .bad | v => .p none v none)
  | .pick cs a b => (match s.get π (.t cs) with
    | .c (.bool c) => (match getsl s π cs a true, getsl s π cs b false with
      | .c (.bool x), .c (.bool y) => .p none (.c (.bool (selB c x y))) none
      | _, _ => .bad)
    | _ => .bad)
  | .alloc t z => .p none (.c (.ptr ⟨s.heap.next, 0, 0, 0⟩)) (some ⟨sizes z, none, fun _ => z, t, true⟩)
  | .box t x => (match segsOf (s.get π x) with
    | some l => .p none (.c (.ptr ⟨s.heap.next, 0, 0, 0⟩)) (some ⟨sizes l, none, fun _ => l, t, true⟩)
    | none => .bad)
  | .build z ps => (match partsOf (s.get π) ps with
    | some q => (match fillS z q with | some l => .p none (.agg l) none | none => .bad)
    | none => .bad)
  | .bslice t k z n ps => (match partsOf (s.get π) ps with
    | some q => (match fillS (repl n z) q with
      | some l => (match rowsFit l k n with
        | true => .p none (.c (.slice ⟨s.heap.next, 0, 0, 0⟩ false n)) (some ⟨k, some n, rowFn l k n, t, true⟩)
        | false => .bad)
      | none => .bad)
    | none => .bad)
  | .ld1 a => (match s.get π a with | .c (.ptr p) => ld1 s.heap p | _ => .bad)
  | .ldn n a => (match s.get π a with | .c (.ptr p) => ldn s.heap n p | _ => .bad)
  | .st1 a x => (match s.get π a, s.get π x with | .c (.ptr p), .c v => st1 s.heap p v | _, _ => .bad)
  | .stn n a x => (match s.get π a, s.get π x with | .c (.ptr p), .agg l => stn s.heap n p l | _, _ => .bad)
  | .nilchk x => (match s.get π x with
    | .c (.ptr a) => .p none (.c (.ptr a)) none
    | .c (.fn f a b) => .p none (.c (.fn f a b)) none
    | _ => .bad)
  | .bin op x y => bin op (s.get π x) (s.get π y)
  | .eqB neq x y => eqB neq (s.get π x) (s.get π y)
  | .eqS neq ks x y => eqS neq ks (s.get π x) (s.get π y)
  | .nilq kd neq x y => nilq kd neq (s.get π x) (s.get π y)
  | .un op x => un op (s.get π x)
  | .conv k x => (match s.get π x with | .c (.int _ n) => .p none (.c (.int k (k.wrap n))) none | _ => .bad)
  | .mkfn f a b => (match aasOf (s.get π) a, aasOf (s.get π) b with
    | some l, some m => .p none (.c (.fn f l m)) none
    | _, _ => .bad)
  | .mkslice t str bytes z len cap => (match s.get π len, s.get π cap with
    | .c (.int _ n), .c (.int _ c) =>
      .p (some (0 ≤ n ∧ n ≤ c ∧ c * bytes ≤ 140737488355328)) (.c (.slice ⟨s.heap.next, 0, 0, 0⟩ false n.toNat))
        (some ⟨str, some n.toNat, fun _ => z, t, true⟩)
    | _, _ => .bad)
  | .slc k x lo hi => slcS s.heap k (s.get π x) (optG (s.get π) lo) (optG (s.get π) hi)
  | .slcA n x lo hi => (match s.get π x with
    | .c (.ptr a) => (match bndHi (optG (s.get π) lo) 0, bndHi (optG (s.get π) hi) n with
      | some (l, ln), some (h, hn) => .p (andN (leN h n) (leN l hn)) (.c (.slice ⟨a.id, a.idx, a.off, addN a.sub ln⟩ true (hn - ln))) none
      | _, _ => .bad)
    | _ => .bad)
  | .faddr x off => (match s.get π x with
    | .c (.ptr a) => (match Nat.beq a.sub 0 with | true => .p none (.c (.ptr ⟨a.id, a.idx, addN a.off off, a.sub⟩)) none | false => .bad)
    | _ => .bad)
  | .fld x off n => fieldOf (s.get π x) off n
  | .iaddr k x i => (match s.get π x, s.get π i with
    | .c (.slice a inner len), .c (.int _ n) => (match strOk s.heap k a inner with
      | true => .p (some (0 ≤ n ∧ n < (len : Int))) (.c (.ptr (plusA a inner n.toNat))) none
      | false => .bad)
    | _, _ => .bad)
  | .iaddrA m x i => (match s.get π x, s.get π i with
    | .c (.ptr a), .c (.int _ n) =>
      .p (some (0 ≤ n ∧ n < (m : Int))) (.c (.ptr ⟨a.id, a.idx, a.off, addN a.sub n.toNat⟩)) none
    | _, _ => .bad)
  | .ext x i => (match s.get π x with
    | .tup l => (match nthA l i with | .bot => .bad | v => .p none v none)
    | _ => .bad)
  | .call f args => (match s.get π f with
    | .c (.fn g a b) => .call g (appL (ptrsOf a) (appL (argsOf (s.get π) args) (ptrsOf b)))
    | .c .nilfn => .p (some False) (.c (.bool false)) none
    | _ => .bad)
  | .len str x => (match str, s.get π x with
    | false, .c (.slice _ _ n) => .p none (.c (.int .i64 (n : Int))) none
    | false, .c .nils => .p none (.c (.int .i64 0)) none
    | true, .c (.str t) => .p none (.c (.int .i64 (t.size : Int))) none
    | _, _ => .bad)
  | .app str bytes t x y => app s.heap bytes t str (s.get π x) (s.get π y)
  | .eqT neq x y => eqT neq (s.get π x) (s.get π y)
  | .idxT x i => idxT (s.get π x) (s.get π i)
  | .cat x y => cat (s.get π x) (s.get π y)
  | .cpy str x y => cpy s.heap str (s.get π x) (s.get π y)
  | .tob t x => tob s.heap t (s.get π x)
  | .clr str z x => clr s.heap str z (s.get π x)
  | .other => .bad

def addBlk (H : Heap) : Option Blk → Heap
  | none => H
  | some B => ⟨H.next + 1, (H.next, B) :: H.blks⟩

def needP : Option Prop → Prop
  | none => True
  | some p => p

def gpath (s : St) : Option (Nat × Bool) → Option Path
  | none => some []
  | some (d, w) => match slotAt s.tmps d with
    | some ⟨_, p, .c (.bool b)⟩ => some ((d, w, b) :: p)
    | _ => none

/-- No operation writes a slot that a guard ahead of it has asked. -/
def noDst (d : Nat) : List AOper → Bool
  | [] => true
  | o :: r => match o.dst with
    | some e => (match Nat.beq e d with | true => false | false => noDst d r)
    | none => noDst d r
def okG : List AOper → Bool
  | [] => true
  | o :: r => match o.guard with
    | some (d, _) => noDst d (o :: r) && okG r
    | none => okG r

/-- What a call may end in. -/
abbrev Post := AV → Heap → Prop
/-- The contract of a call, as the program logic takes it (its meaning: Am1). -/
abbrev ConT := FuncId → List AV → Heap → Post → Prop

/-- The same heap, of which nothing may be written. -/
def roL : List (Nat × Blk) → List (Nat × Blk)
  | [] => []
  | (i, ⟨s, n, r, e, _⟩) :: l => (i, ⟨s, n, r, e, false⟩) :: roL l
def roH (H : Heap) : Heap := ⟨H.next, roL H.blks⟩

/-- New blocks, one behind the other. -/
def addBs (H : Heap) : List Blk → Heap
  | [] => H
  | B :: N => addBs ⟨H.next + 1, (H.next, B) :: H.blks⟩ N
def allW : List Blk → Bool
  | [] => true
  | B :: N => match B.wr with | true => allW N | false => false
/-- A call: its contract is asked for here; 'k': what follows. -/
def callW (Con : ConT) (f : FuncId) (args : List AV) (s : St) (π : Path) (dst : Option Nat) (tl : Bool) (k : St → (St → Prop) → Prop) (Q : St → Prop) : Prop :=
  match tl, π with
  | true, [] => ∃ R, Con f args s.heap R ∧ ∀ v H, R v H → k (St.put ⟨s.tmps, H⟩ dst [] v) Q
  | true, e :: π => (∃ v N, allW N = true ∧ imp (e :: π) (Con f args (roH s.heap) (fun v' H' => v' = v ∧ H' = addBs (roH s.heap) N)) ∧ k (St.put ⟨s.tmps, addBs s.heap N⟩ dst (e :: π) v) Q) ∨
      (conds (e :: π) ∧ ∃ R, Con f args s.heap R ∧ ∀ v H, R v H → k (St.put ⟨s.tmps, H⟩ dst (e :: π) v) Q)
  | false, π => ∃ v N, allW N = true ∧ imp π (Con f args (roH s.heap) (fun v' H' => v' = v ∧ H' = addBs (roH s.heap) N)) ∧ k (St.put ⟨s.tmps, addBs s.heap N⟩ dst π v) Q

def exAll (l : List Slot) (id : Nat) : List Nat → Bool
  | [] => true
  | a :: r => match slotAt l a with
    | some ⟨_, _, .c (.ptr q)⟩ => (match Nat.beq q.id id with | true => false | false => exAll l id r)
    | _ => false
def wrAddr (s : St) : AOp → Option Nat
  | .st1 a _ => (match s.get [] a with | .c (.ptr p) => some p.id | _ => none)
  | .stn _ a _ => (match s.get [] a with | .c (.ptr p) => some p.id | _ => none)
  | _ => none
def exOk (s : St) (o : AOper) : Bool :=
  match o.ex with
  | [] => true
  | a :: r => match wrAddr s o.op with
    | some id => exAll s.tmps id (a :: r)
    | none => false

def rwp (Con : ConT) : List AOper → St → (St → Prop) → Prop
  | [], s, Q => Q s
  | o :: r, s, Q =>
    match gpath s o.guard with
    | none => False
    | some π => match aop s π o.op with
      | .p none v B => rwp Con r (St.put ⟨s.tmps, addBlk s.heap B⟩ o.dst π v) Q
      | .p (some p) v B => imp π p ∧ rwp Con r (St.put ⟨s.tmps, addBlk s.heap B⟩ o.dst π v) Q
      | .t none v H => (match o.tl, π, exOk s o with
        | true, [], true => rwp Con r (St.put ⟨s.tmps, H⟩ o.dst [] v) Q
        | _, _, _ => False)
      | .t (some p) v H => (match o.tl, π, exOk s o with
        | true, [], true => p ∧ rwp Con r (St.put ⟨s.tmps, H⟩ o.dst [] v) Q
        | _, _, _ => False)
      | .call f args => callW Con f args s π o.dst o.tl (rwp Con r) Q
      | .bad => False

/-- Behind a region: what a guard may have left out is forgotten. -/
def shed : List Slot → List Slot
  | [] => []
  | ⟨n, [], v⟩ :: r => ⟨n, [], v⟩ :: shed r
  | ⟨n, _ :: _, _⟩ :: r => ⟨n, [], .bot⟩ :: shed r

/-- The blocks of one heap, of which nothing is written, stand in another one. -/
def subH (K H : Heap) (n : Nat) : Prop := ∀ i B, getB K.blks i = some B → i < n ∧ B.wr = false ∧ ∃ C, getB H.blks i = some C ∧ B.str = C.str ∧ B.sz = C.sz ∧ B.elem = C.elem ∧ ∀ j, B.row j = C.row j
def putL : List Nat → List AV → List Slot → List Slot
  | p :: ps, v :: vs, l => putL ps vs (⟨p, [], v⟩ :: l)
  | _, _, l => l
/-- Behind the body of a round. -/
def rngQ (Le : LeT) (l : List Slot) (I : Heap → Prop) (Q : AEx → St → Prop) : AEx → St → Prop := fun e s => match e with
  | .normal => ∃ s', Le s s' ∧ I s'.heap
  | .exit id => ∃ s', Le s s' ∧ Q (.exit id) ⟨l, s'.heap⟩
  | .ret => ∃ s', Le s s' ∧ Q .ret ⟨l, s'.heap⟩

def awp (Con : ConT) (Le : LeT) : ACode → St → (AEx → St → Prop) → Prop
  | .range it le g ps a b, s, Q => ∃ gf caps K N x, ∃ I : Nat → Heap → Prop, s.get [] g = .c (.fn gf [] caps) ∧ it gf caps K N x ∧ (∀ j, (x j).length = ps.length) ∧ I 0 s.heap ∧
      (∀ j H, I j H → subH K H s.heap.next) ∧
      (∀ j H, j < N → I j H → awp Con (le s.heap.next) a ⟨putL ps (x j) s.tmps, H⟩ fun e s1 => match e with
        | .normal => awp Con (le s.heap.next) b s1 (rngQ (le s.heap.next) s.tmps (I (j + 1)) Q)
        | _ => False) ∧
      ∀ H, I N H → Q .normal ⟨s.tmps, H⟩
  | .skip, s, Q => Q .normal s
  | .region ops, s, Q => rwp Con ops s fun s' => ∃ s'', Le ⟨shed s'.tmps, s'.heap⟩ s'' ∧ Q .normal s''
  | .seq a b, s, Q => awp Con Le a s fun e s' => match e with
    | .normal => awp Con Le b s' Q
    | .exit id => Q (.exit id) s'
    | .ret => Q .ret s'
  | .cond c t e, s, Q => match s.get [] c with
    | .c (.bool b) => (match b with | true => awp Con Le t s Q | false => awp Con Le e s Q)
    | _ => False
  | .block id b, s, Q => awp Con Le b s fun e s' => match e with
    | .normal => Q .normal s'
    | .exit j => (match Nat.beq j id with | true => Q .normal s' | false => Q (.exit j) s')
    | .ret => Q .ret s'
  | .loop b, s, Q => ∃ (I : Nat → St → Prop) (n : Nat), I n s ∧ ∀ n s, I n s → awp Con Le b s fun e s' => match e with
    | .normal => ∃ n' s'', n' < n ∧ Le s' s'' ∧ I n' s''
    | .exit id => Q (.exit id) s'
    | .ret => Q .ret s'
  | .exit id, s, Q => Q (.exit id) s
  | .ret, s, Q => Q .ret s
  | .other, _, _ => False

/-! ### Functions -/
inductive ARes where
  | tmp (t : Nat)
  | c1 (a : Nat)
  | cn (n a : Nat)

def resA (s : St) : ARes → Option AV
  | .tmp t => some (s.get [] (.t t))
  | .c1 a => match s.get [] (.t a) with
    | .c (.ptr p) => (match ld1 s.heap p with | .p none v none => some v | _ => none)
    | _ => none
  | .cn n a => match s.get [] (.t a) with
    | .c (.ptr p) => (match ldn s.heap n p with | .p none v none => some v | _ => none)
    | _ => none
def noTup : AV → Bool
  | .tup _ => false
  | _ => true
def resL (s : St) : List ARes → Option (List AV)
  | [] => some []
  | r :: l => match resA s r with
    | some v => (match noTup v with
      | true => (match resL s l with | some t => some (v :: t) | none => none)
      | false => none)
    | none => none
def resV : List AV → AV
  | [x] => x
  | l => .tup l
def initT : List AV → Nat → List Slot
  | [], _ => []
  | v :: r, n => ⟨n, [], v⟩ :: initT r (n + 1)
/-- Where a function ends: its results, and the heap that it leaves. -/
def endF (rs : List ARes) (R : Post) (s : St) : Prop :=
  match resL s rs with
  | some l => R (resV l) s.heap
  | none => False
def endQ (Le : LeT) (rs : List ARes) (R : Post) : AEx → St → Prop := fun e s =>
  match e with
  | .exit _ => False
  | _ => ∃ s', Le s s' ∧ endF rs R s'

theorem endQ_exit {Le : LeT} {rs : List ARes} {R : Post} {i : Nat} {s : St} (h : endQ Le rs R (.exit i) s) : False := h
theorem endQ_of {Le : LeT} {rs : List ARes} {R : Post} {e : AEx} {s : St} (he : ∀ i, e ≠ .exit i) : endQ Le rs R e s ↔ ∃ s', Le s s' ∧ endF rs R s' := by
  cases e with
  | exit i => exact absurd rfl (he i)
  | _ => exact Iff.rfl
attribute [irreducible] endQ

end Go.AM
