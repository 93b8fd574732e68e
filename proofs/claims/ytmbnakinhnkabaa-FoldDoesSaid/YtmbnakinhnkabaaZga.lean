/- Parts of the proof of foldDoes_holds, joined and cut by a program: Am0, Am1, AmI, AmS, Code19, Am2, Am3, Am4, Am5, Am6, AmE, Am7, Am8. No condition. -/
import Derived.Calls
import Derived.Orders
import Derived.Laws.World
import Derived.Laws.Sem
import Derived.Tactics
import Derived.KernelRfl
import Derived.Laws.StructEq
import Derived.ChangeKeysEq
import Derived.Laws.CopyRow
import Derived.Laws.Cells
import Derived.OrdersIn
import Derived.TacticsIn
import Derived.Deep.LoopGhost
import Derived.RangeFuncLeaves
import Derived.RangeFuncSeq
import Derived.Test.YtmbnakinhnkabaaProg
import Derived.Laws.Tables
import Derived.Laws.Small
import Derived.Laws.MakeOwn
import Derived.Laws.Concat
namespace Go.AM
set_option linter.unusedVariables false

structure AA where
  id : Nat
  idx : Nat
  off : Nat
  sub : Nat

inductive CV where
  | bool (b : Bool)
  | int (k : IntKind) (n : Int)
  | str (s : ByteArray)
  | nilp
  | ptr (a : AA)
  | nils
  | slice (a : AA) (inner : Bool) (len : Nat)
  | full (a : AA) (len top : Nat)
  | nilm
  | map (id : Nat)
  | fn (f : FuncId) (first caps : List AA)
  | nilfn
  | nilif
  | iface (t : TypeId) (k : IntKind) (n : Int)

inductive Seg where
  | c (v : CV)
  | a (n : Nat) (f : Nat → CV)

inductive AV where
  | bot
  | c (v : CV)
  | agg (l : List Seg)
  | tup (l : List AV)

structure Blk where
  str : Nat
  sz : Option Nat
  row : Nat → List Seg
  elem : TypeId
  wr : Bool

def Blk.n (B : Blk) : Nat := B.sz.getD 1

structure Heap where
  next : Nat
  blks : List (Nat × Blk)

def getB : List (Nat × Blk) → Nat → Option Blk
  | [], _ => none
  | (j, B) :: r, i => match Nat.beq j i with | true => some B | false => getB r i

def setB : List (Nat × Blk) → Nat → Blk → List (Nat × Blk)
  | [], _, _ => []
  | (j, C) :: r, i, B => match Nat.beq j i with | true => (j, B) :: r | false => (j, C) :: setB r i B

def delB : List (Nat × Blk) → Nat → List (Nat × Blk)
  | [], _ => []
  | (j, C) :: r, i => match Nat.beq j i with | true => delB r i | false => (j, C) :: delB r i

abbrev Path := List (Nat × Bool × Bool)

def beqb : Bool → Bool → Bool
  | true, true => true
  | false, false => true
  | _, _ => false

def eqP : Path → Path → Bool
  | [], [] => true
  | (s, w, _) :: p, (s', w', _) :: q => match Nat.beq s s' with | true => (match beqb w w' with | true => eqP p q | false => false) | false => false
  | _, _ => false

def sfx (p : Path) : Path → Bool
  | [] => eqP p []
  | x :: q => match eqP p (x :: q) with | true => true | false => sfx p q

def conds : Path → Prop
  | [] => True
  | (_, w, b) :: r => b = w ∧ conds r

def imp : Path → Prop → Prop
  | [], p => p
  | (_, w, b) :: r, p => b = w → imp r p

structure Slot where
  n : Nat
  path : Path
  v : AV

structure St where
  tmps : List Slot
  heap : Heap

inductive Opd where
  | t (n : Nat)
  | k (v : AV)

def sameK : IntKind → IntKind → Bool
  | .i8, .i8 => true | .i16, .i16 => true | .i32, .i32 => true | .i64, .i64 => true
  | .u8, .u8 => true | .u16, .u16 => true | .u32, .u32 => true | .u64, .u64 => true
  | _, _ => false

theorem sameK_eq {j k : IntKind} (h : sameK j k = true) : j = k := by cases j <;> cases k <;> first | rfl | cases h

def addN : Nat → Nat → Nat
  | 0, b => b
  | a + 1, b => (a + 1) + b
theorem addN_eq (a b : Nat) : addN a b = a + b := by cases a <;> simp [addN]

def Seg.size : Seg → Nat
  | .c _ => 1
  | .a n _ => n
def Seg.flat : Seg → List CV
  | .c v => [v]
  | .a n f => (List.range n).map f
def flat : List Seg → List CV
  | [] => []
  | s :: r => s.flat ++ flat r
def sizes : List Seg → Nat
  | [] => 0
  | s :: r => s.size + sizes r

def nsub : Nat → Nat → Option Nat
  | a, 0 => some a
  | 0, _ + 1 => none
  | a + 1, b + 1 => nsub a b
theorem nsub_eq {a b c : Nat} (h : nsub a b = some c) : a = b + c := by
  induction a generalizing b with
  | zero => cases b <;> simp [nsub] at h; omega
  | succ a ih => cases b with
    | zero => simp [nsub] at h; omega
    | succ b => simp only [nsub] at h; have := ih h; omega

def segAt : List Seg → Nat → Option Seg
  | [], _ => none
  | s :: _, 0 => some s
  | s :: r, o + 1 => match nsub (o + 1) s.size with | some o' => segAt r o' | none => none

def takeS : List Seg → Nat → Option (List Seg)
  | _, 0 => some []
  | [], _ + 1 => none
  | s :: r, m + 1 => match nsub (m + 1) s.size with
    | some m' => (match takeS r m' with | some l => some (s :: l) | none => none)
    | none => none
def dropS : List Seg → Nat → Option (List Seg)
  | l, 0 => some l
  | [], _ + 1 => none
  | s :: r, m + 1 => match nsub (m + 1) s.size with | some m' => dropS r m' | none => none
def cut (l : List Seg) (o m : Nat) : Option (List Seg) := match dropS l o with | some r => takeS r m | none => none
def putS (l : List Seg) (o : Nat) (x : List Seg) : Option (List Seg) :=
  match takeS l o, dropS l (o + sizes x) with
  | some a, some b => some (a ++ (x ++ b))
  | _, _ => none

inductive Res where
  /-- a value; what must hold; a block that is made -/
  | p (need : Option Prop) (v : AV) (B : Option Blk)
  /-- the heap is changed -/
  | t (need : Option Prop) (v : AV) (H : Heap)
  | call (f : FuncId) (args : List AV)
  | bad

def slotAt : List Slot → Nat → Option Slot
  | [], _ => none
  | ⟨k, p, v⟩ :: r, n => match Nat.beq k n with | true => some ⟨k, p, v⟩ | false => slotAt r n

def St.get (s : St) (π : Path) : Opd → AV
  | .t n => match slotAt s.tmps n with
    | some ⟨_, p, v⟩ => (match sfx p π with | true => v | false => .bot)
    | none => .bot
  | .k v => v
def St.put (s : St) (dst : Option Nat) (π : Path) (v : AV) : St :=
  match dst with
  | some d => ⟨⟨d, π, v⟩ :: s.tmps, s.heap⟩
  | none => s

inductive FK where
  | one (int : Bool)
  | arr (n : Nat) (int : Bool)
inductive NK where
  | ptr
  | fn
  | sl
  | map
inductive MK where
  | make
  | look
  | look1
  | put
  | del
inductive AOp where
  | mv (x : Opd)
  | pick (cs : Nat) (a b : Opd)
  | alloc (t : TypeId) (zero : List Seg)
  | box (t : TypeId) (x : Opd)
  | build (zero : List Seg) (parts : List (Nat × Nat × Opd))
  | bslice (t : TypeId) (str : Nat) (zero : List Seg) (n : Nat) (parts : List (Nat × Nat × Opd))
  | ld1 (a : Opd)
  | ldn (n : Nat) (a : Opd)
  | st1 (a x : Opd)
  | stn (n : Nat) (a x : Opd)
  | nilchk (x : Opd)
  | bin (op : BinOp) (x y : Opd)
  | eqB (neq : Bool) (x y : Opd)
  | eqS (neq : Bool) (ks : List FK) (x y : Opd)
  | nilq (kd : NK) (neq : Bool) (x y : Opd)
  | un (op : UnOp) (x : Opd)
  | conv (k : IntKind) (x : Opd)
  | mkfn (f : FuncId) (first caps : List Opd)
  | mkslice (t : TypeId) (str bytes : Nat) (zero : List Seg) (len cap : Opd)
  | slc (str : Nat) (x : Opd) (lo hi : Option Opd)
  | slcA (n : Nat) (x : Opd) (lo hi : Option Opd)
  | faddr (x : Opd) (off : Nat)
  | fld (x : Opd) (off : Nat) (n : Option Nat)
  | iaddr (str : Nat) (x i : Opd)
  | iaddrA (n : Nat) (x i : Opd)
  | ext (x : Opd) (i : Nat)
  | call (f : Opd) (args : List Opd)
  | len (str : Bool) (x : Opd)
  | app (str bytes : Nat) (t : TypeId) (x y : Opd)
  | eqT (neq : Bool) (x y : Opd)
  | idxT (x i : Opd)
  | cat (x y : Opd)
  | cpy (str : Nat) (x y : Opd)
  | tob (t : TypeId) (x : Opd)
  | clr (str : Nat) (zero : List Seg) (x : Opd)
  /-- on maps; 'ks': the key's cells: integers? 'z': a zero value -/
  | mp (k : MK) (ks : List Bool) (z : CV) (x y v : Opd)
  | other

def oSl : Opd → List Nat
  | .t n => [n]
  | .k _ => []
def oSlO : Option Opd → List Nat
  | none => []
  | some x => oSl x
def oSlL : List Opd → List Nat
  | [] => []
  | x :: r => oSl x ++ oSlL r
def oSlP : List (Nat × Nat × Opd) → List Nat
  | [] => []
  | (_, _, x) :: r => oSl x ++ oSlP r
def aSlots : AOp → List Nat
  | .mv x => oSl x
  | .pick cs a b => cs :: (oSl a ++ oSl b)
  | .alloc _ _ => []
  | .box _ x => oSl x
  | .build _ ps => oSlP ps
  | .bslice _ _ _ _ ps => oSlP ps
  | .ld1 a => oSl a
  | .ldn _ a => oSl a
  | .st1 a x => oSl a ++ oSl x
  | .stn _ a x => oSl a ++ oSl x
  | .nilchk x => oSl x
  | .bin _ x y => oSl x ++ oSl y
  | .eqB _ x y => oSl x ++ oSl y
  | .eqS _ _ x y => oSl x ++ oSl y
  | .nilq _ _ x y => oSl x ++ oSl y
  | .un _ x => oSl x
  | .conv _ x => oSl x
  | .mkfn _ a b => oSlL a ++ oSlL b
  | .mkslice _ _ _ _ a b => oSl a ++ oSl b
  | .slc _ x a b => oSl x ++ (oSlO a ++ oSlO b)
  | .slcA _ x a b => oSl x ++ (oSlO a ++ oSlO b)
  | .faddr x _ => oSl x
  | .fld x _ _ => oSl x
  | .iaddr _ x i => oSl x ++ oSl i
  | .iaddrA _ x i => oSl x ++ oSl i
  | .ext x _ => oSl x
  | .call f aq => oSl f ++ oSlL aq
  | .len _ x => oSl x
  | .app _ _ _ x y => oSl x ++ oSl y
  | .eqT _ x y => oSl x ++ oSl y
  | .idxT x i => oSl x ++ oSl i
  | .cat x y => oSl x ++ oSl y
  | .cpy _ x y => oSl x ++ oSl y
  | .tob _ x => oSl x
  | .clr _ _ x => oSl x
  | .mp _ _ _ x y v => oSl x ++ (oSl y ++ oSl v)
  | .other => []

def quietOp : AOp → Bool
  | .mv _ => true
  | .pick _ _ _ => true
  | .build _ _ => true
  | .nilchk _ => true
  | .bin _ _ _ => true
  | .eqB _ _ _ => true
  | .eqS _ _ _ _ => true
  | .nilq _ _ _ _ => true
  | .un _ _ => true
  | .conv _ _ => true
  | .mkfn _ _ _ => true
  | .slcA _ _ _ _ => true
  | .faddr _ _ => true
  | .fld _ _ _ => true
  | .iaddrA _ _ _ => true
  | .ext _ _ => true
  | .len _ _ => true
  | .eqT _ _ _ => true
  | .idxT _ _ => true
  | .cat _ _ => true
  | _ => false
def chgOp : AOp → Bool
  | .st1 _ _ => true
  | .stn _ _ _ => true
  | .app _ _ _ _ _ => true
  | _ => false

def stOp : AOp → Bool
  | .st1 _ _ => true
  | .stn _ _ _ => true
  | _ => false

structure AOper where
  dst : Option Nat
  op : AOp
  guard : Option (Nat × Bool)
  tl : Bool
  /-- slots with addresses that must not be of the block that is written -/
  ex : List Nat

abbrev IterT := FuncId → List AA → Heap → Nat → (Nat → List AV) → Prop
abbrev LeT := St → St → Prop

inductive ACode where
  | range (it : IterT) (le : Nat → LeT) (g : Opd) (ps : List Nat) (a b : ACode)
  | skip
  | region (ops : List AOper)
  | seq (a b : ACode)
  | cond (c : Opd) (t e : ACode)
  | block (id : Nat) (b : ACode)
  | loop (b : ACode)
  | exit (id : Nat)
  | ret
  | other

inductive AEx where
  | normal
  | exit (id : Nat)
  | ret

def arith (op : BinOp) (k : IntKind) (a b : Int) : Res :=
  match op with
  | .add => .p none (.c (.int k (k.wrap (a + b)))) none
  | .sub => .p none (.c (.int k (k.wrap (a - b)))) none
  | .mul => .p none (.c (.int k (k.wrap (a * b)))) none
  | .quo => .p (some (b ≠ 0)) (.c (.int k (k.wrap (a.tdiv b)))) none
  | .rem => .p (some (b ≠ 0)) (.c (.int k (a.tmod b))) none
  | .and => .p none (.c (.int k (k.wrap (BitVec.ofInt k.bits a &&& BitVec.ofInt k.bits b).toNat))) none
  | .or => .p none (.c (.int k (k.wrap (BitVec.ofInt k.bits a ||| BitVec.ofInt k.bits b).toNat))) none
  | .xor => .p none (.c (.int k (k.wrap (BitVec.ofInt k.bits a ^^^ BitVec.ofInt k.bits b).toNat))) none
  | .andNot => .p none (.c (.int k (k.wrap (BitVec.ofInt k.bits a &&& ~~~ BitVec.ofInt k.bits b).toNat))) none
  | .eql => .p none (.c (.bool (a == b))) none
  | .neq => .p none (.c (.bool (a != b))) none
  | .lss => .p none (.c (.bool (decide (a < b)))) none
  | .leq => .p none (.c (.bool (decide (a ≤ b)))) none
  | .gtr => .p none (.c (.bool (decide (a > b)))) none
  | .geq => .p none (.c (.bool (decide (a ≥ b)))) none
  | _ => .bad

def shiftR (op : BinOp) (k : IntKind) (a b : Int) : Res :=
  match op with
  | .shl => .p (some (0 ≤ b)) (.c (.int k (k.wrap (a * 2 ^ (min b.toNat k.bits))))) none
  | .shr => .p (some (0 ≤ b)) (.c (.int k (a.fdiv (2 ^ (min b.toNat k.bits))))) none
  | _ => .bad

def isShift : BinOp → Bool
  | .shl => true
  | .shr => true
  | _ => false

def bin (op : BinOp) (x y : AV) : Res :=
  match x, y with
  | .c (.int k a), .c (.int k' b) =>
    match isShift op with
    | true => shiftR op k a b
    | false => (match sameK k k' with | true => arith op k a b | false => .bad)
  | _, _ => .bad

def eqB (neq : Bool) (x y : AV) : Res :=
  match x, y with
  | .c (.bool a), .c (.bool b) => (match neq with
    | false => .p none (.c (.bool (a == b))) none
    | true => .p none (.c (.bool (!(a == b)))) none)
  | _, _ => .bad

def negIf (neq r : Bool) : Bool := match neq with | true => !r | false => r
def eqS1 : Bool → CV → CV → Option Bool
  | true, .int j a, .int k b => (match sameK j k with | true => some (a == b) | false => none)
  | false, .bool a, .bool b => some (a == b)
  | _, _, _ => none
def kin : Bool → CV → CV → Prop
  | true, .int j _, .int k _ => sameK j k = true
  | false, .bool _, .bool _ => True
  | _, _, _ => False
def eqCb : CV → CV → Bool
  | .int _ a, .int _ b => a == b
  | .bool a, .bool b => a == b
  | _, _ => false
def andP : Option Prop → Option Prop → Option Prop
  | none, q => q
  | some p, none => some p
  | some p, some q => some (p ∧ q)
def eqF : List FK → List Seg → List Seg → Option (Option Prop × Bool)
  | [], [], [] => some (none, true)
  | .one k :: r, .c x :: l, .c y :: m => (match eqS1 k x y, eqF r l m with
    | some b, some (p, c) => some (p, b && c)
    | _, _ => none)
  | .arr n k :: r, .a i f :: l, .a j g :: m => (match Nat.beq n i, Nat.beq n j, eqF r l m with
    | true, true, some (p, c) => some (andP (some (∀ z, z < n → kin k (f z) (g z))) p, (List.range n).all (fun z => eqCb (f z) (g z)) && c)
    | _, _, _ => none)
  | _, _, _ => none
def eqS (neq : Bool) (ks : List FK) (x y : AV) : Res :=
  match x, y with
  | .agg l, .agg m => (match eqF ks l m with
    | some (p, r) => .p p (.c (.bool (negIf neq r))) none
    | none => .bad)
  | _, _ => .bad
def nilB : NK → CV → CV → Option (Option Prop × Bool)
  | .ptr, .nilp, .nilp => some (none, true)
  | .ptr, .nilp, .ptr _ => some (none, false)
  | .ptr, .ptr _, .nilp => some (none, false)
  | .fn, .nilfn, .nilfn => some (none, true)
  | .fn, .nilfn, .fn _ _ _ => some (none, false)
  | .fn, .fn _ _ _, .nilfn => some (none, false)
  | .sl, .nils, .nils => some (none, true)
  | .sl, .nils, .slice _ _ n => some (some (0 < n), false)
  | .sl, .slice _ _ n, .nils => some (some (0 < n), false)
  | .map, .nilm, .nilm => some (none, true)
  | .map, .nilm, .map _ => some (none, false)
  | .map, .map _, .nilm => some (none, false)
  | _, _, _ => none
def nilq (kd : NK) (neq : Bool) (x y : AV) : Res :=
  match x, y with
  | .c a, .c b => (match nilB kd a b with
    | some (p, r) => .p p (.c (.bool (negIf neq r))) none
    | none => .bad)
  | _, _ => .bad

def un (op : UnOp) (x : AV) : Res :=
  match op, x with
  | .not, .c (.bool b) => .p none (.c (.bool (!b))) none
  | .neg, .c (.int k a) => .p none (.c (.int k (k.wrap (0 - a)))) none
  | .xor, .c (.int k a) => .p none (.c (.int k (k.wrap (BitVec.ofInt k.bits (if k.signed then -1 else k.max) ^^^ BitVec.ofInt k.bits a).toNat))) none
  | _, _ => .bad

def rowNeed (B : Blk) (i : Nat) : Option (Option Prop) :=
  match B.sz with
  | none => (match Nat.beq i 0 with | true => some none | false => none)
  | some n => some (some (i < n))

def andN : Option Prop → Option Prop → Option Prop
  | none, q => q
  | some p, none => some p
  | some p, some q => some (p ∧ q)

def ld1 (H : Heap) (a : AA) : Res :=
  match getB H.blks a.id with
  | none => .bad
  | some B => match rowNeed B a.idx with
    | none => .bad
    | some need => match segAt (B.row a.idx) a.off with
      | some (.c v) => (match Nat.beq a.sub 0 with | true => .p need (.c v) none | false => .bad)
      | some (.a n f) => .p (andN need (some (a.sub < n))) (.c (f a.sub)) none
      | none => .bad

def ldn (H : Heap) (m : Nat) (a : AA) : Res :=
  match getB H.blks a.id with
  | none => .bad
  | some B => match rowNeed B a.idx with
    | none => .bad
    | some need => match Nat.beq a.sub 0 with
      | false => .bad
      | true => match cut (B.row a.idx) a.off m with
        | some l => .p need (.agg l) none
        | none => .bad

def setRow (B : Blk) (i : Nat) (l : List Seg) : Blk :=
  match B.sz with
  | none => ⟨B.str, none, fun _ => l, B.elem, B.wr⟩
  | some n => ⟨B.str, some n, fun j => if j = i then l else B.row j, B.elem, B.wr⟩

def st1 (H : Heap) (a : AA) (x : CV) : Res :=
  match getB H.blks a.id with
  | none => .bad
  | some B => match B.wr with
    | false => .bad
    | true => match rowNeed B a.idx with
      | none => .bad
      | some need => match segAt (B.row a.idx) a.off with
        | some (.c _) => (match Nat.beq a.sub 0 with
          | true => (match putS (B.row a.idx) a.off [.c x] with
            | some l => .t need .bot ⟨H.next, setB H.blks a.id (setRow B a.idx l)⟩
            | none => .bad)
          | false => .bad)
        | some (.a n f) => (match putS (B.row a.idx) a.off [.a n (fun j => if j = a.sub then x else f j)] with
            | some l => .t (andN need (some (a.sub < n))) .bot ⟨H.next, setB H.blks a.id (setRow B a.idx l)⟩
            | none => .bad)
        | none => .bad

def stn (H : Heap) (m : Nat) (a : AA) (x : List Seg) : Res :=
  match getB H.blks a.id with
  | none => .bad
  | some B => match B.wr with
    | false => .bad
    | true => match rowNeed B a.idx with
      | none => .bad
      | some need => match Nat.beq a.sub 0 with
        | false => .bad
        | true => match Nat.beq (sizes x) m with
          | false => .bad
          | true => match putS (B.row a.idx) a.off x with
            | some l => .t need .bot ⟨H.next, setB H.blks a.id (setRow B a.idx l)⟩
            | none => .bad

def segsOf : AV → Option (List Seg)
  | .c v => some [.c v]
  | .agg l => some l
  | _ => none

def fillS : List Seg → List (Nat × Nat × List Seg) → Option (List Seg)
  | l, [] => some l
  | l, (o, n, x) :: r => match Nat.beq (sizes x) n with
    | true => (match putS l o x with | some l' => fillS l' r | none => none)
    | false => none

def partsOf (g : Opd → AV) : List (Nat × Nat × Opd) → Option (List (Nat × Nat × List Seg))
  | [] => some []
  | (o, n, x) :: r => match segsOf (g x) with
    | some l => (match partsOf g r with | some t => some ((o, n, l) :: t) | none => none)
    | none => none

def repl : Nat → List Seg → List Seg
  | 0, _ => []
  | n + 1, x => x ++ repl n x
def cutD (l : List Seg) (o m : Nat) : List Seg := match cut l o m with | some x => x | none => []
def rowsFit (l : List Seg) (k : Nat) : Nat → Bool
  | 0 => true
  | n + 1 => match cut l (n * k) k with | some _ => rowsFit l k n | none => false
def rowFn (l : List Seg) (k n : Nat) : Nat → List Seg :=
  match n with
  | 1 => fun _ => l
  | _ => fun j => cutD l (j * k) k

def aasOf (g : Opd → AV) : List Opd → Option (List AA)
  | [] => some []
  | x :: r => match g x with
    | .c (.ptr a) => (match aasOf g r with | some l => some (a :: l) | none => none)
    | _ => none

def argsOf (g : Opd → AV) : List Opd → List AV
  | [] => []
  | x :: r => g x :: argsOf g r

def ptrsOf : List AA → List AV
  | [] => []
  | a :: r => .c (.ptr a) :: ptrsOf r
def appL : List AV → List AV → List AV
  | [], l => l
  | a :: r, l => a :: appL r l

def nthA : List AV → Nat → AV
  | [], _ => .bot
  | v :: _, 0 => v
  | _ :: r, n + 1 => nthA r n

def fieldOf (x : AV) (off : Nat) (n : Option Nat) : Res :=
  match x with
  | .agg l => (match n with
    | some m => (match cut l off m with | some l' => .p none (.agg l') none | none => .bad)
    | none => (match segAt l off with | some (.c v) => .p none (.c v) none | _ => .bad))
  | _ => .bad

def bndHi (x : Option AV) (dflt : Nat) : Option (Option Int × Nat) :=
  match x with
  | none => some (none, dflt)
  | some (.c (.int _ n)) => some (some n, n.toNat)
  | some _ => none

def leN (x : Option Int) (top : Nat) : Option Prop :=
  match x with
  | none => none
  | some n => some (0 ≤ n ∧ n ≤ (top : Int))

def strOk (H : Heap) (k : Nat) (a : AA) (inner : Bool) : Bool :=
  match inner with
  | true => Nat.beq k 1
  | false => (match getB H.blks a.id with | some B => Nat.beq B.str k | none => false)

def plusA (a : AA) (inner : Bool) (n : Nat) : AA :=
  match inner with
  | true => ⟨a.id, a.idx, a.off, addN a.sub n⟩
  | false => ⟨a.id, addN a.idx n, a.off, a.sub⟩

def slcS (H : Heap) (k : Nat) (x : AV) (lo hi : Option AV) : Res :=
  match x with
  | .c (.slice a inner len) => (match strOk H k a inner, bndHi lo 0, bndHi hi len with
    | true, some (l, ln), some (h, hn) => .p (andN (leN h len) (leN l hn)) (.c (.slice (plusA a inner ln) inner (hn - ln))) none
    | _, _, _ => .bad)
  | .c .nils => (match bndHi lo 0, bndHi hi 0 with
    | some (l, ln), some (h, hn) => .p (andN (leN h 0) (leN l hn)) (.c .nils) none
    | _, _ => .bad)
  | .c (.full a len top) => (match lo, bndHi hi len with
    | none, some (h, hn) => .p (leN h top) (.c (.full a hn top)) none
    | _, _ => .bad)
  | _ => .bad

def optG (g : Opd → AV) : Option Opd → Option AV
  | none => none
  | some x => some (g x)

def rowsApp (B : Blk) (n : Nat) (C : Blk) (i : Nat) : Nat → List Seg :=
  fun j => if j < n then B.row j else C.row (addN i (j - n))

def app (H : Heap) (bytes : Nat) (t : TypeId) (str : Nat) (x y : AV) : Res :=
  match y with
  | .c (.slice b false m) => (match getB H.blks b.id with
    | none => .bad
    | some C => (match C.sz, Nat.beq C.str str with
      | some c, true => (match x with
        | .c .nils =>
          .t (some (b.idx + m ≤ c ∧ m * bytes ≤ 140737488355328)) (.c (.slice ⟨H.next, 0, 0, 0⟩ false m))
            ⟨H.next + 1, (H.next, ⟨str, some m, fun j => C.row (addN b.idx j), t, true⟩) :: H.blks⟩
        | .c (.slice a false n) => (match getB H.blks a.id with
          | none => .bad
          | some B => (match B.wr, B.sz, Nat.beq a.idx 0, Nat.beq a.id b.id, Nat.beq B.str str, Nat.beq B.elem t with
            | true, some k, true, false, true, true =>
              .t (some (n = k ∧ b.idx + m ≤ c ∧ (n + m) * bytes ≤ 140737488355328)) (.c (.slice ⟨H.next, 0, 0, 0⟩ false (n + m)))
                ⟨H.next + 1, (H.next, ⟨str, some (n + m), rowsApp B n C b.idx, t, true⟩) :: delB H.blks a.id⟩
            | _, _, _, _, _, _ => .bad))
        | _ => .bad)
      | _, _ => .bad))
  | .c .nils => (match x with
      | .c .nils => .p none (.c .nils) none
      | _ => .bad)
  | _ => .bad

def eqTb (a b : ByteArray) : Bool := a.data.toList == b.data.toList
def byteAt (t : ByteArray) (n : Nat) : Int :=
  match t[n]? with
  | some b => (b.toNat : Int)
  | none => 0
def eqT (neq : Bool) (x y : AV) : Res :=
  match x, y with
  | .c (.str a), .c (.str b) => .p none (.c (.bool (negIf neq (eqTb a b)))) none
  | _, _ => .bad
def idxT (x i : AV) : Res :=
  match x, i with
  | .c (.str t), .c (.int _ n) => .p (some (0 ≤ n ∧ n < (t.size : Int))) (.c (.int .u8 (byteAt t n.toNat))) none
  | _, _ => .bad
def cat (x y : AV) : Res :=
  match x, y with
  | .c (.str a), .c (.str b) => .p (some (a.size + b.size ≤ 9223372036854775807)) (.c (.str (a ++ b))) none
  | _, _ => .bad

def rowsCpy (B : Blk) (i : Nat) (C : Blk) (j k : Nat) : Nat → List Seg :=
  fun x => if i ≤ x ∧ x < addN i k then C.row (addN j (x - i)) else B.row x
def cpy (H : Heap) (str : Nat) (x y : AV) : Res :=
  match x, y with
  | .c (.slice a false n), .c (.slice b false m) => (match getB H.blks a.id, getB H.blks b.id with
    | some B, some C => (match B.wr, B.sz, C.sz, Nat.beq B.str str, Nat.beq C.str str with
      | true, some p, some q, true, true =>
        .t (some (a.idx + min m n ≤ p ∧ b.idx + min m n ≤ q)) (.c (.int .i64 ((min m n : Nat) : Int)))
          ⟨H.next, setB H.blks a.id ⟨B.str, some p, rowsCpy B a.idx C b.idx (min m n), B.elem, true⟩⟩
      | _, _, _, _, _ => .bad)
    | _, _ => .bad)
  | _, _ => .bad

def rowsClr (B : Blk) (i k : Nat) (z : List Seg) : Nat → List Seg :=
  fun x => if i ≤ x ∧ x < addN i k then z else B.row x
def clr (H : Heap) (str : Nat) (z : List Seg) (x : AV) : Res :=
  match x with
  | .c (.slice a false n) => (match getB H.blks a.id with
    | some B => (match B.wr, B.sz, Nat.beq B.str str with
      | true, some p, true =>
        .t (some (a.idx + n ≤ p)) (.tup []) ⟨H.next, setB H.blks a.id ⟨B.str, some p, rowsClr B a.idx n z, B.elem, true⟩⟩
      | _, _, _ => .bad)
    | none => .bad)
  | _ => .bad

def keyOk : List Bool → List Seg → Bool
  | [], [] => true
  | true :: ks, .c (.int _ _) :: l => keyOk ks l
  | false :: ks, .c (.bool _) :: l => keyOk ks l
  | _, _ => false
def keyP : List Bool → List Seg → List Seg → Nat → Prop
  | [], [], [], _ => True
  | b :: ks, .c x :: l, .a _ f :: K, N => (∀ i, i < N → kin b x (f i)) ∧ keyP ks l K N
  | _, _, _, _ => False
def keyEq : List Seg → List Seg → Nat → Bool
  | .c x :: l, .a _ f :: K, i => eqCb x (f i) && keyEq l K i
  | _, _, _ => true
def findI (p : Nat → Bool) : Nat → Nat
  | 0 => 0
  | n + 1 => if findI p n < n then findI p n else if p n = true then n else n + 1
def zcols : List Bool → List Seg
  | [] => []
  | true :: ks => .a 0 (fun _ => .int .i64 0) :: zcols ks
  | false :: ks => .a 0 (fun _ => .bool false) :: zcols ks
def colsPut : List Seg → List Seg → Nat → Nat → List Seg
  | .c x :: l, .a _ f :: K, n, j => .a n (fun i => if i = j then x else f i) :: colsPut l K n j
  | _, _, _, _ => []
def colsDel : List Seg → Nat → Nat → List Seg
  | .a _ f :: K, n, j => .a n (fun i => if i < j then f i else f (i + 1)) :: colsDel K n j
  | _, _, _ => []
def mapR1 (k : MK) (ks : List Bool) (z : CV) (H : Heap) (id : Nat) (B : Blk) (N : Nat) (f : Nat → CV) (K l : List Seg) (v : AV) (j : Nat) : Res :=
  match k with
  | .look => .t (some (keyP ks l K N)) (.tup [.c (if j < N then f j else z), .c (.bool (decide (j < N)))]) H
  | .look1 => .t (some (keyP ks l K N)) (.c (if j < N then f j else z)) H
  | .put => (match v with
    | .c c => .t (some (keyP ks l K N)) .bot ⟨H.next, setB H.blks id ⟨0, some 0, fun _ => .a (max N (j + 1)) (fun i => if i = j then c else f i) :: colsPut l K (max N (j + 1)) j, B.elem, true⟩⟩
    | _ => .bad)
  | .del => .t (some (keyP ks l K N)) (.tup []) ⟨H.next, setB H.blks id ⟨0, some 0, fun _ => .a (if j < N then N - 1 else N) (fun i => if i < j then f i else f (i + 1)) :: colsDel K (if j < N then N - 1 else N) j, B.elem, true⟩⟩
  | .make => .bad
def keyL : List Bool → AV → Option (List Seg)
  | [_], .c v => some [.c v]
  | _ :: _ :: _, .agg l => some l
  | _, _ => none
def mapR (k : MK) (ks : List Bool) (z : CV) (H : Heap) (x y v : AV) : Res :=
  match k with
  | .make => .t none (.c (.map H.next)) ⟨H.next + 1, (H.next, ⟨0, some 0, fun _ => .a 0 (fun _ => z) :: zcols ks, 0, true⟩) :: H.blks⟩
  | k => (match x with
    | .c (.map id) => (match getB H.blks id, keyL ks y with
      | some B, some l => (match Nat.beq B.str 0, B.sz, B.wr, B.row 0, keyOk ks l with
        | true, some 0, true, .a N f :: K, true => mapR1 k ks z H id B N f K l v (findI (keyEq l K) N)
        | _, _, _, _, _ => .bad)
      | _, _ => .bad)
    | _ => .bad)

def tob (H : Heap) (t : TypeId) (x : AV) : Res :=
  match x with
  | .c (.str b) => .t none (.c (.slice ⟨H.next, 0, 0, 0⟩ false b.size)) ⟨H.next + 1, (H.next, ⟨1, some b.size, fun i => [.c (.int .u8 (byteAt b i))], t, false⟩) :: H.blks⟩
  | _ => .bad

def selB (c x y : Bool) : Bool := match c with | true => x | false => y
theorem selB_or (c y : Bool) : selB c true y = (c || y) := by cases c <;> rfl
theorem selB_and (c x : Bool) : selB c x false = (c && x) := by cases c <;> rfl

def getsl (s : St) (π : Path) (cs : Nat) (x : Opd) (want : Bool) : AV :=
  match x with
  | .t n => (match slotAt s.tmps n with
    | some ⟨_, q, v⟩ => (match sfx q π with
      | true => v
      | false => (match q with
        | (j, w, _) :: p => (match Nat.beq j cs with
          | true => (match beqb w want with | true => (match sfx p π with | true => v | false => .bot) | false => .bot)
          | false => .bot)
        | [] => .bot))
    | none => .bot)
  | .k v => v

def aop (s : St) (π : Path) (o : AOp) : Res :=
  match o with
  | .mv x => (match s.get π x with | .bot => .bad | v => .p none v none)
  | .pick cs a b => (match s.get π (.t cs) with
    | .c (.bool c) => (match getsl s π cs a true, getsl s π cs b false with
      | .c (.bool x), .c (.bool y) => .p none (.c (.bool (selB c x y))) none
      | _, _ => .bad)
    | _ => .bad)
  | .alloc t z => .p none (.c (.ptr ⟨s.heap.next, 0, 0, 0⟩)) (some ⟨sizes z, none, fun _ => z, t, true⟩)
  | .box t x => (match segsOf (s.get π x) with
    | some l => .p none (.c (.ptr ⟨s.heap.next, 0, 0, 0⟩)) (some ⟨sizes l, none, fun _ => l, t, true⟩)
    | none => .bad)
  | .build z ps => (match partsOf (s.get π) ps with
    | some q => (match fillS z q with | some l => .p none (.agg l) none | none => .bad)
    | none => .bad)
  | .bslice t k z n ps => (match partsOf (s.get π) ps with
    | some q => (match fillS (repl n z) q with
      | some l => (match rowsFit l k n with
        | true => .p none (.c (.slice ⟨s.heap.next, 0, 0, 0⟩ false n)) (some ⟨k, some n, rowFn l k n, t, true⟩)
        | false => .bad)
      | none => .bad)
    | none => .bad)
  | .ld1 a => (match s.get π a with | .c (.ptr p) => ld1 s.heap p | _ => .bad)
  | .ldn n a => (match s.get π a with | .c (.ptr p) => ldn s.heap n p | _ => .bad)
  | .st1 a x => (match s.get π a, s.get π x with | .c (.ptr p), .c v => st1 s.heap p v | _, _ => .bad)
  | .stn n a x => (match s.get π a, s.get π x with | .c (.ptr p), .agg l => stn s.heap n p l | _, _ => .bad)
  | .nilchk x => (match s.get π x with
    | .c (.ptr a) => .p none (.c (.ptr a)) none
    | .c (.fn f a b) => .p none (.c (.fn f a b)) none
    | _ => .bad)
  | .bin op x y => bin op (s.get π x) (s.get π y)
  | .eqB neq x y => eqB neq (s.get π x) (s.get π y)
  | .eqS neq ks x y => eqS neq ks (s.get π x) (s.get π y)
  | .nilq kd neq x y => nilq kd neq (s.get π x) (s.get π y)
  | .un op x => un op (s.get π x)
  | .conv k x => (match s.get π x with | .c (.int _ n) => .p none (.c (.int k (k.wrap n))) none | _ => .bad)
  | .mkfn f a b => (match aasOf (s.get π) a, aasOf (s.get π) b with
    | some l, some m => .p none (.c (.fn f l m)) none
    | _, _ => .bad)
  | .mkslice t str bytes z len cap => (match s.get π len, s.get π cap with
    | .c (.int _ n), .c (.int _ c) =>
      .p (some (0 ≤ n ∧ n ≤ c ∧ c * bytes ≤ 140737488355328)) (.c (.slice ⟨s.heap.next, 0, 0, 0⟩ false n.toNat))
        (some ⟨str, some n.toNat, fun _ => z, t, true⟩)
    | _, _ => .bad)
  | .slc k x lo hi => slcS s.heap k (s.get π x) (optG (s.get π) lo) (optG (s.get π) hi)
  | .slcA n x lo hi => (match s.get π x with
    | .c (.ptr a) => (match bndHi (optG (s.get π) lo) 0, bndHi (optG (s.get π) hi) n with
      | some (l, ln), some (h, hn) => .p (andN (leN h n) (leN l hn)) (.c (.slice ⟨a.id, a.idx, a.off, addN a.sub ln⟩ true (hn - ln))) none
      | _, _ => .bad)
    | _ => .bad)
  | .faddr x off => (match s.get π x with
    | .c (.ptr a) => (match Nat.beq a.sub 0 with | true => .p none (.c (.ptr ⟨a.id, a.idx, addN a.off off, a.sub⟩)) none | false => .bad)
    | _ => .bad)
  | .fld x off n => fieldOf (s.get π x) off n
  | .iaddr k x i => (match s.get π x, s.get π i with
    | .c (.slice a inner len), .c (.int _ n) => (match strOk s.heap k a inner with
      | true => .p (some (0 ≤ n ∧ n < (len : Int))) (.c (.ptr (plusA a inner n.toNat))) none
      | false => .bad)
    | .c (.full a len top), .c (.int _ n) => (match strOk s.heap k a false with
      | true => .p (some (0 ≤ n ∧ n < (len : Int))) (.c (.ptr (plusA a false n.toNat))) none
      | false => .bad)
    | _, _ => .bad)
  | .iaddrA m x i => (match s.get π x, s.get π i with
    | .c (.ptr a), .c (.int _ n) =>
      .p (some (0 ≤ n ∧ n < (m : Int))) (.c (.ptr ⟨a.id, a.idx, a.off, addN a.sub n.toNat⟩)) none
    | _, _ => .bad)
  | .ext x i => (match s.get π x with
    | .tup l => (match nthA l i with | .bot => .bad | v => .p none v none)
    | _ => .bad)
  | .call f args => (match s.get π f with
    | .c (.fn g a b) => .call g (appL (ptrsOf a) (appL (argsOf (s.get π) args) (ptrsOf b)))
    | .c .nilfn => .p (some False) (.c (.bool false)) none
    | _ => .bad)
  | .len str x => (match str, s.get π x with
    | false, .c (.slice _ _ n) => .p none (.c (.int .i64 (n : Int))) none
    | false, .c .nils => .p none (.c (.int .i64 0)) none
    | true, .c (.str t) => .p none (.c (.int .i64 (t.size : Int))) none
    | _, _ => .bad)
  | .app str bytes t x y => app s.heap bytes t str (s.get π x) (s.get π y)
  | .eqT neq x y => eqT neq (s.get π x) (s.get π y)
  | .idxT x i => idxT (s.get π x) (s.get π i)
  | .cat x y => cat (s.get π x) (s.get π y)
  | .cpy str x y => cpy s.heap str (s.get π x) (s.get π y)
  | .tob t x => tob s.heap t (s.get π x)
  | .clr str z x => clr s.heap str z (s.get π x)
  | .mp k ks z x y v => mapR k ks z s.heap (s.get π x) (s.get π y) (s.get π v)
  | .other => .bad

def addBlk (H : Heap) : Option Blk → Heap
  | none => H
  | some B => ⟨H.next + 1, (H.next, B) :: H.blks⟩

def needP : Option Prop → Prop
  | none => True
  | some p => p

def gpath (s : St) : Option (Nat × Bool) → Option Path
  | none => some []
  | some (d, w) => match slotAt s.tmps d with
    | some ⟨_, p, .c (.bool b)⟩ => some ((d, w, b) :: p)
    | _ => none

def noDst (d : Nat) : List AOper → Bool
  | [] => true
  | o :: r => match o.dst with
    | some e => (match Nat.beq e d with | true => false | false => noDst d r)
    | none => noDst d r
def okG : List AOper → Bool
  | [] => true
  | o :: r => match o.guard with
    | some (d, _) => noDst d (o :: r) && okG r
    | none => okG r

abbrev Post := AV → Heap → Prop
abbrev ConT := FuncId → List AV → Heap → Post → Prop

def roL : List (Nat × Blk) → List (Nat × Blk)
  | [] => []
  | (i, ⟨s, n, r, e, _⟩) :: l => (i, ⟨s, n, r, e, false⟩) :: roL l
def roH (H : Heap) : Heap := ⟨H.next, roL H.blks⟩

def addBs (H : Heap) : List Blk → Heap
  | [] => H
  | B :: N => addBs ⟨H.next + 1, (H.next, B) :: H.blks⟩ N
def allW : List Blk → Bool
  | [] => true
  | B :: N => match B.wr with | true => allW N | false => false
def callW (Con : ConT) (f : FuncId) (args : List AV) (s : St) (π : Path) (dst : Option Nat) (tl : Bool) (k : St → (St → Prop) → Prop) (Q : St → Prop) : Prop :=
  match tl, π with
  | true, [] => ∃ R, Con f args s.heap R ∧ ∀ v H, R v H → k (St.put ⟨s.tmps, H⟩ dst [] v) Q
  | true, e :: π => (∃ v N, allW N = true ∧ imp (e :: π) (Con f args (roH s.heap) (fun v' H' => v' = v ∧ H' = addBs (roH s.heap) N)) ∧ k (St.put ⟨s.tmps, addBs s.heap N⟩ dst (e :: π) v) Q) ∨
      (conds (e :: π) ∧ ∃ R, Con f args s.heap R ∧ ∀ v H, R v H → k (St.put ⟨s.tmps, H⟩ dst (e :: π) v) Q)
  | false, π => ∃ v N, allW N = true ∧ imp π (Con f args (roH s.heap) (fun v' H' => v' = v ∧ H' = addBs (roH s.heap) N)) ∧ k (St.put ⟨s.tmps, addBs s.heap N⟩ dst π v) Q

def exAll (l : List Slot) (id : Nat) : List Nat → Bool
  | [] => true
  | a :: r => match slotAt l a with
    | some ⟨_, _, .c (.ptr q)⟩ => (match Nat.beq q.id id with | true => false | false => exAll l id r)
    | _ => false
def wrAddr (s : St) : AOp → Option Nat
  | .st1 a _ => (match s.get [] a with | .c (.ptr p) => some p.id | _ => none)
  | .stn _ a _ => (match s.get [] a with | .c (.ptr p) => some p.id | _ => none)
  | _ => none
def exOk (s : St) (o : AOper) : Bool :=
  match o.ex with
  | [] => true
  | a :: r => match wrAddr s o.op with
    | some id => exAll s.tmps id (a :: r)
    | none => false

def rwp (Con : ConT) : List AOper → St → (St → Prop) → Prop
  | [], s, Q => Q s
  | o :: r, s, Q =>
    match gpath s o.guard with
    | none => False
    | some π => match aop s π o.op with
      | .p none v B => rwp Con r (St.put ⟨s.tmps, addBlk s.heap B⟩ o.dst π v) Q
      | .p (some p) v B => imp π p ∧ rwp Con r (St.put ⟨s.tmps, addBlk s.heap B⟩ o.dst π v) Q
      | .t none v H => (match o.tl, π, exOk s o with
        | true, [], true => rwp Con r (St.put ⟨s.tmps, H⟩ o.dst [] v) Q
        | _, _, _ => False)
      | .t (some p) v H => (match o.tl, π, exOk s o with
        | true, [], true => p ∧ rwp Con r (St.put ⟨s.tmps, H⟩ o.dst [] v) Q
        | _, _, _ => False)
      | .call f args => callW Con f args s π o.dst o.tl (rwp Con r) Q
      | .bad => False

def shed : List Slot → List Slot
  | [] => []
  | ⟨n, [], v⟩ :: r => ⟨n, [], v⟩ :: shed r
  | ⟨n, _ :: _, _⟩ :: r => ⟨n, [], .bot⟩ :: shed r

def subH (K H : Heap) (n : Nat) : Prop := ∀ i B, getB K.blks i = some B → i < n ∧ B.wr = false ∧ ∃ C, getB H.blks i = some C ∧ B.str = C.str ∧ B.sz = C.sz ∧ B.elem = C.elem ∧ ∀ j, B.row j = C.row j
def putL : List Nat → List AV → List Slot → List Slot
  | p :: ps, v :: vs, l => putL ps vs (⟨p, [], v⟩ :: l)
  | _, _, l => l
def rngQ (Le : LeT) (l : List Slot) (I : Heap → Prop) (Q : AEx → St → Prop) : AEx → St → Prop := fun e s => match e with
  | .normal => ∃ s', Le s s' ∧ I s'.heap
  | .exit id => ∃ s', Le s s' ∧ Q (.exit id) ⟨l, s'.heap⟩
  | .ret => ∃ s', Le s s' ∧ Q .ret ⟨l, s'.heap⟩

def awp (Con : ConT) (Le : LeT) : ACode → St → (AEx → St → Prop) → Prop
  | .range it le g ps a b, s, Q => ∃ gf caps K N x, ∃ I : Nat → Heap → Prop, s.get [] g = .c (.fn gf [] caps) ∧ it gf caps K N x ∧ (∀ j, (x j).length = ps.length) ∧ I 0 s.heap ∧
      (∀ j H, I j H → subH K H s.heap.next) ∧
      (∀ j H, j < N → I j H → awp Con (le s.heap.next) a ⟨putL ps (x j) s.tmps, H⟩ fun e s1 => match e with
        | .normal => awp Con (le s.heap.next) b s1 (rngQ (le s.heap.next) s.tmps (I (j + 1)) Q)
        | _ => False) ∧
      ∀ H, I N H → Q .normal ⟨s.tmps, H⟩
  | .skip, s, Q => Q .normal s
  | .region ops, s, Q => rwp Con ops s fun s' => ∃ s'', Le ⟨shed s'.tmps, s'.heap⟩ s'' ∧ Q .normal s''
  | .seq a b, s, Q => awp Con Le a s fun e s' => match e with
    | .normal => awp Con Le b s' Q
    | .exit id => Q (.exit id) s'
    | .ret => Q .ret s'
  | .cond c t e, s, Q => match s.get [] c with
    | .c (.bool b) => (match b with | true => awp Con Le t s Q | false => awp Con Le e s Q)
    | _ => False
  | .block id b, s, Q => awp Con Le b s fun e s' => match e with
    | .normal => Q .normal s'
    | .exit j => (match Nat.beq j id with | true => Q .normal s' | false => Q (.exit j) s')
    | .ret => Q .ret s'
  | .loop b, s, Q => ∃ (I : Nat → St → Prop) (n : Nat), I n s ∧ ∀ n s, I n s → awp Con Le b s fun e s' => match e with
    | .normal => ∃ n' s'', n' < n ∧ Le s' s'' ∧ I n' s''
    | .exit id => Q (.exit id) s'
    | .ret => Q .ret s'
  | .exit id, s, Q => Q (.exit id) s
  | .ret, s, Q => Q .ret s
  | .other, _, _ => False

inductive ARes where
  | tmp (t : Nat)
  | c1 (a : Nat)
  | cn (n a : Nat)

def resA (s : St) : ARes → Option AV
  | .tmp t => some (s.get [] (.t t))
  | .c1 a => match s.get [] (.t a) with
    | .c (.ptr p) => (match ld1 s.heap p with | .p none v none => some v | _ => none)
    | _ => none
  | .cn n a => match s.get [] (.t a) with
    | .c (.ptr p) => (match ldn s.heap n p with | .p none v none => some v | _ => none)
    | _ => none
def noTup : AV → Bool
  | .tup _ => false
  | _ => true
def resL (s : St) : List ARes → Option (List AV)
  | [] => some []
  | r :: l => match resA s r with
    | some v => (match noTup v with
      | true => (match resL s l with | some t => some (v :: t) | none => none)
      | false => none)
    | none => none
def resV : List AV → AV
  | [x] => x
  | l => .tup l
def initT : List AV → Nat → List Slot
  | [], _ => []
  | v :: r, n => ⟨n, [], v⟩ :: initT r (n + 1)
def endF (rs : List ARes) (R : Post) (s : St) : Prop :=
  match resL s rs with
  | some l => R (resV l) s.heap
  | none => False
def endQ (Le : LeT) (rs : List ARes) (R : Post) : AEx → St → Prop := fun e s =>
  match e with
  | .exit _ => False
  | _ => ∃ s', Le s s' ∧ endF rs R s'

theorem endQ_exit {Le : LeT} {rs : List ARes} {R : Post} {i : Nat} {s : St} (h : endQ Le rs R (.exit i) s) : False := h
theorem endQ_of {Le : LeT} {rs : List ARes} {R : Post} {e : AEx} {s : St} (he : ∀ i, e ≠ .exit i) : endQ Le rs R e s ↔ ∃ s', Le s s' ∧ endF rs R s' := by
  cases e with
  | exit i => exact absurd rfl (he i)
  | _ => exact Iff.rfl
attribute [irreducible] endQ

end Go.AM

namespace Go.AM
set_option linter.unusedVariables false
set_option linter.unusedSimpArgs false

structure Place where
  blk : Nat
  base : Nat
  str : Nat
  cap : Nat

def Place.at (p : Place) (a : AA) : Addr := ⟨p.blk, p.base + p.str * a.idx + a.off + a.sub, none⟩
abbrev Emb := Nat → Option Place
def Emb.le (φ ψ : Emb) : Prop := ∀ i p, φ i = some p → ψ i = some p
theorem Emb.le_refl (φ : Emb) : φ.le φ := fun _ _ h => h
theorem Emb.le_trans {φ ψ χ : Emb} (h : φ.le ψ) (k : ψ.le χ) : φ.le χ := fun _ _ e => k _ _ (h _ _ e)

inductive F2 {α β : Type} (R : α → β → Prop) : List α → List β → Prop
  | nil : F2 R [] []
  | cons {a b l m} : R a b → F2 R l m → F2 R (a :: l) (b :: m)

theorem F2.length {α β : Type} {R : α → β → Prop} {l : List α} {m : List β} (h : F2 R l m) : l.length = m.length := by
  induction h <;> simp_all
theorem F2.mono {α β : Type} {R S : α → β → Prop} (hRS : ∀ a b, R a b → S a b) {l : List α} {m : List β} (h : F2 R l m) : F2 S l m := by
  induction h with
  | nil => exact .nil
  | cons h _ ih => exact .cons (hRS _ _ h) ih
theorem F2.append {α β : Type} {R : α → β → Prop} {l l' : List α} {m m' : List β} (h : F2 R l m) (h' : F2 R l' m') : F2 R (l ++ l') (m ++ m') := by
  induction h with
  | nil => exact h'
  | cons h _ ih => exact .cons h ih
theorem F2.get {α β : Type} {R : α → β → Prop} {l : List α} {m : List β} (h : F2 R l m) : ∀ {i : Nat} {a : α}, l[i]? = some a → ∃ b, m[i]? = some b ∧ R a b := by
  induction h with
  | nil => intro i a h; simp at h
  | cons hab _ ih =>
    intro i a h
    cases i with
    | zero => simp at h; subst h; exact ⟨_, rfl, hab⟩
    | succ i => exact ih (by simpa using h)
theorem F2.take {α β : Type} {R : α → β → Prop} {l : List α} {m : List β} (h : F2 R l m) : ∀ n, F2 R (l.take n) (m.take n) := by
  induction h with
  | nil => intro n; simp; exact .nil
  | cons hab _ ih => intro n; cases n with
    | zero => exact .nil
    | succ n => exact .cons hab (ih n)
theorem F2.drop {α β : Type} {R : α → β → Prop} {l : List α} {m : List β} (h : F2 R l m) : ∀ n, F2 R (l.drop n) (m.drop n) := by
  induction h with
  | nil => intro n; simp; exact .nil
  | cons hab hr ih => intro n; cases n with
    | zero => exact .cons hab hr
    | succ n => exact ih n
theorem F2.nil_left {α β : Type} {R : α → β → Prop} {m : List β} (h : F2 R [] m) : m = [] := by cases h; rfl
theorem F2.cons_left {α β : Type} {R : α → β → Prop} {a : α} {l : List α} {m : List β} (h : F2 R (a :: l) m) : ∃ b r, m = b :: r ∧ R a b ∧ F2 R l r := by
  cases h with | cons h h' => exact ⟨_, _, rfl, h, h'⟩

def relP (φ : Emb) (a : AA) (x : Value) : Prop := ∃ p, φ a.id = some p ∧ x = .pointer (some (p.at a))

def rel (φ : Emb) : CV → Value → Prop
  | .bool b, x => x = .bool b
  | .int k n, x => x = .int k n
  | .str s, x => x = .string s
  | .nilp, x => x = .pointer none
  | .ptr a, x => relP φ a x
  | .nils, x => x = .slice none 0 0
  | .slice a inner len, x => ∃ r cap, x = .slice r len cap ∧ len ≤ cap ∧
      ((len = 0 ∧ cap = 0 ∧ (r = none ∨ a.idx ≠ 0 ∨ inner = true)) ∨ ∃ p, φ a.id = some p ∧ r = some (p.at a) ∧ (inner = false → a.off = 0 ∧ a.sub = 0 ∧ a.idx + cap = p.cap))
  | .full a len top, x => ∃ p cap, φ a.id = some p ∧ x = .slice (some (p.at a)) len cap ∧ len ≤ top ∧ top ≤ cap ∧ a.off = 0 ∧ a.sub = 0 ∧ a.idx + cap = p.cap
  | .nilm, x => x = .map none
  | .map i, x => ∃ p, φ i = some p ∧ x = .map (some p.blk)
  | .fn f first caps, x => ∃ l m, x = .func (.func f) l m ∧ F2 (relP φ) first l.toList ∧ F2 (relP φ) caps m.toList
  | .nilfn, x => x = .nilFunc
  | .nilif, x => x = .nilIface
  | .iface t k n, x => x = .iface t (.int k n)

theorem relP_mono {φ ψ : Emb} (h : φ.le ψ) {a : AA} {x : Value} (r : relP φ a x) : relP ψ a x :=
  let ⟨p, hp, hx⟩ := r; ⟨p, h _ _ hp, hx⟩

theorem rel_mono {φ ψ : Emb} (h : φ.le ψ) {v : CV} {x : Value} (r : rel φ v x) : rel ψ v x := by
  cases v with
  | ptr a => exact relP_mono h r
  | slice a inner len =>
    obtain ⟨r, cap, e, hl, k⟩ := r
    exact ⟨r, cap, e, hl, k.imp id fun ⟨p, hp, k⟩ => ⟨p, h _ _ hp, k⟩⟩
  | full a len top => obtain ⟨p, cap, hp, k⟩ := r; exact ⟨p, cap, h _ _ hp, k⟩
  | map i => obtain ⟨p, hp, k⟩ := r; exact ⟨p, h _ _ hp, k⟩
  | fn f a b => obtain ⟨l, m, e, h1, h2⟩ := r; exact ⟨l, m, e, h1.mono fun _ _ => relP_mono h, h2.mono fun _ _ => relP_mono h⟩
  | _ => exact r

theorem rel_full {φ : Emb} {a : AA} {len top : Nat} {x : Value} (r : rel φ (.full a len top) x) : rel φ (.slice a false len) x := by
  obtain ⟨p, cap, hp, rfl, h1, h2, h3, h4, h5⟩ := r
  exact ⟨_, cap, rfl, by omega, .inr ⟨p, hp, rfl, fun _ => ⟨h3, h4, h5⟩⟩⟩
theorem rel_oneCell {φ : Emb} {v : CV} {x : Value} (r : rel φ v x) : x.oneCell' = true := by
  cases v with
  | ptr a => obtain ⟨_, _, rfl⟩ := r; rfl
  | slice => obtain ⟨_, _, rfl, _⟩ := r; rfl
  | full => obtain ⟨_, _, _, rfl, _⟩ := r; rfl
  | map => obtain ⟨_, _, rfl⟩ := r; rfl
  | fn => obtain ⟨_, _, rfl, _⟩ := r; rfl
  | _ => cases r; rfl

theorem rel_cells {φ : Emb} {v : CV} {x : Value} (r : rel φ v x) : x.cells = #[x] := by
  cases v with
  | ptr a => obtain ⟨_, _, rfl⟩ := r; rfl
  | slice => obtain ⟨_, _, rfl, _⟩ := r; rfl
  | full => obtain ⟨_, _, _, rfl, _⟩ := r; rfl
  | map => obtain ⟨_, _, rfl⟩ := r; rfl
  | fn => obtain ⟨_, _, rfl, _⟩ := r; rfl
  | _ => cases r; rfl

def rel1 (φ : Emb) : AV → Value → Prop
  | .bot, _ => True
  | .c v, x => rel φ v x
  | .agg l, x => ∃ cs, x = .agg cs ∧ F2 (rel φ) (flat l) cs.toList
  | .tup _, _ => False

def relA (φ : Emb) : AV → Value → Prop
  | .bot, _ => True
  | .c v, x => rel φ v x
  | .agg l, x => ∃ cs, x = .agg cs ∧ F2 (rel φ) (flat l) cs.toList
  | .tup l, x => ∃ xs, x = .tuple xs ∧ F2 (rel1 φ) l xs.toList

theorem relA_of_rel1 {φ : Emb} {v : AV} {x : Value} (h : rel1 φ v x) : relA φ v x := by
  cases v <;> first | exact h | exact h.elim

theorem rel1_mono {φ ψ : Emb} (h : φ.le ψ) {v : AV} {x : Value} (r : rel1 φ v x) : rel1 ψ v x := by
  cases v with
  | bot => trivial
  | c v => exact rel_mono h r
  | agg l => obtain ⟨cs, e, k⟩ := r; exact ⟨cs, e, k.mono fun _ _ => rel_mono h⟩
  | tup l => exact r

theorem relA_mono {φ ψ : Emb} (h : φ.le ψ) {v : AV} {x : Value} (r : relA φ v x) : relA ψ v x := by
  cases v with
  | bot => trivial
  | c v => exact rel_mono h r
  | agg l => obtain ⟨cs, e, k⟩ := r; exact ⟨cs, e, k.mono fun _ _ => rel_mono h⟩
  | tup l => obtain ⟨xs, e, k⟩ := r; exact ⟨xs, e, k.mono fun _ _ => rel1_mono h⟩

theorem segsOf_cells {φ : Emb} {v : AV} {x : Value} {l : List Seg} (hs : segsOf v = some l) (r : relA φ v x) : F2 (rel φ) (flat l) x.cells.toList := by
  cases v with
  | c v => simp only [segsOf, Option.some.injEq] at hs; subst hs; rw [rel_cells r]; exact .cons r .nil
  | agg m => simp only [segsOf, Option.some.injEq] at hs; subst hs; obtain ⟨cs, rfl, k⟩ := r; exact k
  | _ => simp [segsOf] at hs

theorem Seg.flat_length (s : Seg) : s.flat.length = s.size := by cases s <;> simp [Seg.flat, Seg.size]
theorem flat_length (l : List Seg) : (flat l).length = sizes l := by
  induction l with
  | nil => rfl
  | cons s r ih => simp [flat, sizes, Seg.flat_length, ih]
theorem flat_append (l m : List Seg) : flat (l ++ m) = flat l ++ flat m := by
  induction l with
  | nil => rfl
  | cons s r ih => simp [flat, ih]

theorem takeS_flat (l : List Seg) : ∀ (m : Nat) (l' : List Seg), takeS l m = some l' → flat l' = (flat l).take m ∧ sizes l' = m := by
  induction l with
  | nil => intro m l' h; cases m <;> simp [takeS] at h; subst h; simp [flat, sizes]
  | cons s r ih =>
    intro m l' h
    cases m with
    | zero => simp [takeS] at h; subst h; simp [flat, sizes]
    | succ m =>
      simp only [takeS] at h
      cases hn : nsub (m + 1) s.size with
      | none => simp [hn] at h
      | some m' =>
        simp only [hn] at h
        cases ht : takeS r m' with
        | none => simp [ht] at h
        | some t =>
          simp only [ht, Option.some.injEq] at h
          subst h
          have e := nsub_eq hn
          have k := ih m' t ht
          refine ⟨?_, by simp only [sizes]; rw [k.2]; omega⟩
          simp only [flat]
          rw [List.take_append, Seg.flat_length, k.1, List.take_of_length_le (l := s.flat) (by rw [Seg.flat_length]; omega), show m + 1 - s.size = m' by omega]

theorem dropS_flat (l : List Seg) : ∀ (m : Nat) (l' : List Seg), dropS l m = some l' → flat l' = (flat l).drop m ∧ m ≤ (flat l).length := by
  induction l with
  | nil => intro m l' h; cases m <;> simp [dropS] at h; subst h; simp [flat]
  | cons s r ih =>
    intro m l' h
    cases m with
    | zero => simp [dropS] at h; subst h; simp
    | succ m =>
      simp only [dropS] at h
      cases hn : nsub (m + 1) s.size with
      | none => simp [hn] at h
      | some m' =>
        simp only [hn] at h
        have e := nsub_eq hn
        have k := ih m' l' h
        refine ⟨?_, by simp only [flat, List.length_append, Seg.flat_length]; omega⟩
        simp only [flat]
        rw [List.drop_append, Seg.flat_length, k.1, List.drop_of_length_le (l := s.flat) (by rw [Seg.flat_length]; omega), show m + 1 - s.size = m' by omega, List.nil_append]

theorem cut_flat {l l' : List Seg} {o m : Nat} (h : cut l o m = some l') : flat l' = ((flat l).drop o).take m ∧ sizes l' = m := by
  unfold cut at h
  cases hd : dropS l o with
  | none => simp [hd] at h
  | some r =>
    simp only [hd] at h
    have k := takeS_flat r m l' h
    rw [(dropS_flat l o r hd).1] at k
    exact k

theorem putS_flat {l l' x : List Seg} {o : Nat} (h : putS l o x = some l') : flat l' = (flat l).take o ++ flat x ++ (flat l).drop (o + sizes x) ∧ o + sizes x ≤ (flat l).length := by
  unfold putS at h
  cases ht : takeS l o with
  | none => simp [ht] at h
  | some a =>
    cases hd : dropS l (o + sizes x) with
    | none => simp [ht, hd] at h
    | some b =>
      simp only [ht, hd, Option.some.injEq] at h
      subst h
      rw [flat_append, flat_append, (takeS_flat l o a ht).1, (dropS_flat l _ b hd).1]
      exact ⟨by simp, (dropS_flat l _ b hd).2⟩

theorem segAt_flat (l : List Seg) : ∀ (o : Nat) (s : Seg), segAt l o = some s → ∀ j, j < s.size → (flat l)[o + j]? = s.flat[j]? := by
  induction l with
  | nil => intro o s h; simp [segAt] at h
  | cons t r ih =>
    intro o s h j hj
    cases o with
    | zero =>
      simp only [segAt, Option.some.injEq] at h
      subst h
      simp only [flat, Nat.zero_add]
      rw [List.getElem?_append_left (by rw [Seg.flat_length]; exact hj)]
    | succ o =>
      simp only [segAt] at h
      cases hn : nsub (o + 1) t.size with
      | none => simp [hn] at h
      | some o' =>
        simp only [hn] at h
        have e := nsub_eq hn
        have k := ih o' s h j hj
        simp only [flat]
        rw [List.getElem?_append_right (by rw [Seg.flat_length]; omega), Seg.flat_length, show o + 1 + j - t.size = o' + j by omega, k]

def cellAt (i : Nat) : Seg → CV
  | .c v => v
  | .a _ f => f i
def keyAV : List CV → AV
  | [x] => .c x
  | l => .agg (l.map Seg.c)
def MapE (φ : Emb) (v : Nat → CV) (K : List Seg) (es : Array MapEntry) : Prop := ∀ i e, es[i]? = some e → rel φ (v i) e.val ∧ relA φ (keyAV (K.map (cellAt i))) e.key
def MapB (φ : Emb) (B : Blk) (p : Place) (w : World) : Prop :=
  B.str = 0 ∧ B.sz = some 0 ∧ ∃ (N : Nat) (v : Nat → CV) (K : List Seg) (es : Array MapEntry) (clock : Nat), B.row 0 = .a N v :: K ∧ (∀ s ∈ K, ∃ f, s = .a N f) ∧ w.heap[p.blk]? = some (.map es clock) ∧ es.size = N ∧ MapE φ v K es
def isMapB (B : Blk) : Prop := B.str = 0 ∧ B.sz = some 0
def CellsB (B : Blk) (p : Place) (w : World) : Prop := p.base = 0 ∧ B.n ≤ p.cap ∧ p.cap ≤ 9223372036854775807 ∧ ∃ cs, w.heap[p.blk]? = some (.cells cs B.elem (0, 0)) ∧ cs.size = p.str * p.cap
def OwnB (φ : Emb) (B : Blk) (p : Place) (w : World) : Prop := (CellsB B p w ∧ ¬ isMapB B) ∨ MapB φ B p w
structure BRel (φ : Emb) (B : Blk) (p : Place) (w : World) : Prop where
  str : p.str = B.str
  rows : ∀ i, i < B.n → ∃ xs, F2 (rel φ) (flat (B.row i)) xs ∧ xs.length = B.str ∧ ∀ j x, xs[j]? = some x → w.cell? ⟨p.blk, p.base + p.str * i + j, none⟩ = some x
  own : B.wr = true → OwnB φ B p w

theorem MapE.mono {φ ψ : Emb} (h : φ.le ψ) {v : Nat → CV} {K : List Seg} {es : Array MapEntry} (r : MapE φ v K es) : MapE ψ v K es := fun i e he => ⟨rel_mono h (r i e he).1, relA_mono h (r i e he).2⟩
theorem MapB.mono {φ ψ : Emb} (h : φ.le ψ) {B : Blk} {p : Place} {w : World} (r : MapB φ B p w) : MapB ψ B p w :=
  let ⟨a, b, N, v, K, es, c, h1, h2, h3, h4, h5⟩ := r; ⟨a, b, N, v, K, es, c, h1, h2, h3, h4, h5.mono h⟩
theorem MapB.keep {φ : Emb} {B : Blk} {p : Place} {w w' : World} (hb : w'.heap[p.blk]? = w.heap[p.blk]?) (r : MapB φ B p w) : MapB φ B p w' :=
  let ⟨a, b, N, v, K, es, c, h1, h2, h3, h4, h5⟩ := r; ⟨a, b, N, v, K, es, c, h1, h2, by rw [hb]; exact h3, h4, h5⟩
theorem CellsB.keep {B : Blk} {p : Place} {w w' : World} (hb : w'.heap[p.blk]? = w.heap[p.blk]?) (r : CellsB B p w) : CellsB B p w' :=
  let ⟨a, b, c, cs, h1, h2⟩ := r; ⟨a, b, c, cs, by rw [hb]; exact h1, h2⟩
theorem own_keep {φ : Emb} {B : Blk} {p : Place} {w w' : World} (hb : w'.heap[p.blk]? = w.heap[p.blk]?) (r : OwnB φ B p w) : OwnB φ B p w' := r.imp (fun h => ⟨h.1.keep hb, h.2⟩) (MapB.keep hb)
theorem own_mono {φ ψ : Emb} (h : φ.le ψ) {B : Blk} {p : Place} {w : World} (r : OwnB φ B p w) : OwnB ψ B p w := r.imp id (MapB.mono h)
theorem own_cells {φ : Emb} {B : Blk} {p : Place} {w : World} (r : CellsB B p w) (h : 0 < B.n ∨ B.str ≠ 0) : OwnB φ B p w := .inl ⟨r, fun hm => by
  rcases h with h | h
  · simp [Blk.n, hm.2] at h
  · exact h hm.1⟩
theorem MapB.zero {φ : Emb} {B : Blk} {p : Place} {w : World} (h : MapB φ B p w) : B.n = 0 := by simp [Blk.n, h.2.1]
theorem BRel.cells {φ : Emb} {B : Blk} {p : Place} {w : World} (h : BRel φ B p w) (hw : B.wr = true) (hn : 0 < B.n ∨ B.str ≠ 0) : CellsB B p w := ((h.own hw).resolve_right fun hm => by
  rcases hn with h' | h'
  · rw [hm.zero] at h'; omega
  · exact h' hm.1).1

structure HRel (φ : Emb) (H : Heap) (w : World) : Prop where
  blk : ∀ i B p, getB H.blks i = some B → φ i = some p → BRel φ B p w
  inj : ∀ i j B C p q, getB H.blks i = some B → getB H.blks j = some C → φ i = some p → φ j = some q → i ≠ j → B.wr = true → p.blk ≠ q.blk
  fresh : ∀ i, H.next ≤ i → φ i = none
  lt : ∀ i p, φ i = some p → p.blk < w.heap.size

structure Fr (φ : Emb) (H : Heap) (w : World) (ψ : Emb) (K : Heap) (v : World) : Prop where
  le : φ.le ψ
  same : ∀ i, i < H.next → ψ i = φ i
  nx : H.next ≤ K.next
  size : w.heap.size ≤ v.heap.size
  os : v.os = w.os
  tape : v.tape = w.tape
  output : v.output = w.output
  old : ∀ b, b < w.heap.size → (∀ i B p, getB H.blks i = some B → B.wr = true → φ i = some p → p.blk ≠ b) → v.heap[b]? = w.heap[b]?
  own : ∀ i B p, getB K.blks i = some B → B.wr = true → ψ i = some p → w.heap.size ≤ p.blk ∨ ∃ j C q, getB H.blks j = some C ∧ C.wr = true ∧ φ j = some q ∧ q.blk = p.blk

theorem Fr.refl (φ : Emb) (H : Heap) (w : World) : Fr φ H w φ H w :=
  ⟨φ.le_refl, fun _ _ => rfl, Nat.le_refl _, Nat.le_refl _, rfl, rfl, rfl, fun _ _ _ => rfl, fun i B p h1 h2 h3 => .inr ⟨i, B, p, h1, h2, h3, rfl⟩⟩

theorem Fr.trans {φ ψ χ : Emb} {H K L : Heap} {w v u : World} (h : Fr φ H w ψ K v) (k : Fr ψ K v χ L u) : Fr φ H w χ L u where
  le := Emb.le_trans h.le k.le
  same := fun i hi => (k.same i (Nat.lt_of_lt_of_le hi h.nx)).trans (h.same i hi)
  nx := Nat.le_trans h.nx k.nx
  size := Nat.le_trans h.size k.size
  os := k.os.trans h.os
  tape := k.tape.trans h.tape
  output := k.output.trans h.output
  old := fun b hb hno => by
    rw [k.old b (Nat.lt_of_lt_of_le hb h.size) ?_, h.old b hb hno]
    intro i B p h1 h2 h3 e
    rcases h.own i B p h1 h2 h3 with hw | ⟨j, C, q, g1, g2, g3, g4⟩
    · omega
    · exact hno j C q g1 g2 g3 (g4.trans e)
  own := fun i B p h1 h2 h3 => by
    rcases k.own i B p h1 h2 h3 with hw | ⟨j, C, q, g1, g2, g3, g4⟩
    · exact .inl (Nat.le_trans h.size hw)
    · rw [← g4]; exact h.own j C q g1 g2 g3

theorem BRel.cell {φ : Emb} {B : Blk} {p : Place} {w : World} (h : BRel φ B p w) {i : Nat} (hi : i < B.n) {o : Nat} {v : CV} (hv : (flat (B.row i))[o]? = some v) :
    ∃ x, w.cell? ⟨p.blk, p.base + p.str * i + o, none⟩ = some x ∧ rel φ v x := by
  obtain ⟨xs, h1, _, h3⟩ := h.rows i hi
  obtain ⟨x, hx, hr⟩ := h1.get hv
  exact ⟨x, h3 _ _ hx, hr⟩

theorem rowNeed_lt {B : Blk} {i : Nat} {need : Option Prop} (h : rowNeed B i = some need) (hn : needP need) : i < B.n := by
  unfold rowNeed at h
  unfold Blk.n
  cases hs : B.sz with
  | none =>
    simp only [hs] at h
    cases hb : Nat.beq i 0 with
    | false => simp [hb] at h
    | true => have := Nat.eq_of_beq_eq_true hb; simp [this]
  | some n =>
    simp only [hs, Option.some.injEq] at h
    subst h
    exact hn

theorem andN_left {a b : Option Prop} (h : needP (andN a b)) : needP a := by
  cases a <;> cases b <;> simp_all [andN, needP]
theorem andN_right {a b : Option Prop} (h : needP (andN a b)) : needP b := by
  cases a <;> cases b <;> simp_all [andN, needP]

end Go.AM

namespace Go.AM
set_option linter.unusedVariables false
set_option linter.unusedSimpArgs false

class Wide (F : Fence) : Prop where
  fn : ∀ f, F.fn f
  depth : F.depth = none
  alive : F.alive = false
instance : Wide Fence.wide := ⟨fun _ => trivial, rfl, rfl⟩
instance {F : Fence} [h : Wide F] (l : Nat) : Wide (F.inRound l) := ⟨h.fn, h.depth, h.alive⟩
theorem Wide.fenced {F : Fence} (h : Wide F) (P : Program) (m : Machine) : m.fenced P F := fun g _ =>
  ⟨fun e => (by rw [h.alive] at e; cases e), .inl (h.fn _), fun _ _ => h.fn _, fun d e => (by rw [h.depth] at e; cases e)⟩
theorem Wide.fenced_eq {F : Fence} (h : Wide F) (P : Program) : Machine.fenced P F = Machine.fenced P Fence.wide := by
  funext m; exact propext ⟨fun _ => fenced_wide P m, fun _ => h.fenced P m⟩
theorem Wide.room {F : Fence} (h : Wide F) (n : Nat) : F.room n := fun d e => by rw [h.depth] at e; cases e
theorem Wide.calls {F : Fence} [h : Wide F] {n : Nat} {P : Program} {f : FuncId} {args : Array Value} {w : World} {R : Ending → World → Prop} : CallsIn F n P f args w R ↔ Calls P f args w R := by
  rw [← callsIn_wide (n := n)]
  unfold CallsIn
  rw [h.fenced_eq P]
  exact ⟨fun g => ⟨trivial, fun cs _ => g.2 cs (h.room _)⟩, fun g => ⟨h.fn _, fun cs _ => g.2 cs (room_wide _)⟩⟩

def pathOk (l : List Slot) : Path → Prop
  | [] => True
  | (d, _, b) :: r => slotAt l d = some ⟨d, r, .c (.bool b)⟩ ∧ pathOk l r
def keysIn (K : List Nat) (p : Path) : Prop := ∀ e ∈ p, e.1 ∈ K

structure SlotOk (φ : Emb) (a : Act) (l : List Slot) (K : List Nat) (n : Nat) (sl : Slot) : Prop where
  num : sl.n = n
  on : conds sl.path → relA φ sl.v (a.tmps.getD n undef)
  off : ¬ conds sl.path → a.tmps.getD n undef = undef
  path : pathOk l sl.path
  keys : keysIn K sl.path

def SOk (φ : Emb) (l : List Slot) (a : Act) (K : List Nat) : Prop := ∀ n sl, slotAt l n = some sl → SlotOk φ a l K n sl

def noCells (o : Obj) : Prop := (∀ cs t x, o ≠ .cells cs t x) ∧ ∀ es c, o ≠ .map es c
structure Oth (w w' : World) : Prop where
  size : w.heap.size ≤ w'.heap.size
  same : ∀ (k : Nat) (o : Obj), w.heap[k]? = some o → noCells o → w'.heap[k]? = some o
theorem Oth.refl (w : World) : Oth w w := ⟨Nat.le_refl _, fun _ _ h _ => h⟩
theorem Oth.trans {a b c : World} (h : Oth a b) (k : Oth b c) : Oth a c := ⟨Nat.le_trans h.size k.size, fun i o hi ho => k.same i o (h.same i o hi ho) ho⟩
theorem Oth.of {φ ψ : Emb} {H K : Heap} {w v : World} (hH : HRel φ H w) (hF : Fr φ H w ψ K v) : Oth w v :=
  ⟨hF.size, fun k o hk ho => by
    have hlt := (Array.getElem?_eq_some_iff.1 hk).1
    rw [hF.old k hlt fun i B p hB hw hp e => ?_]
    · exact hk
    · rcases (hH.blk i B p hB hp).own hw with ⟨⟨_, _, _, cs, hcs, _⟩, _⟩ | ⟨_, _, _, _, _, es, c, _, _, hcs, _⟩
      · rw [e, hk] at hcs
        cases hcs
        exact ho.1 _ _ _ rfl
      · rw [e, hk] at hcs
        cases hcs
        exact ho.2 _ _ rfl⟩

def Marks (n : Nat) (w : World) : List Deferred → Prop
  | [] => True
  | d :: r => (∃ D, d = { target := .collected D, args := #[] } ∧ n ≤ D ∧ w.heap[D]? = some (.deferred (some [])) ∧ ∀ e ∈ r, e.target ≠ .collected D) ∧ Marks n w r
theorem Marks.keep {n : Nat} {w w' : World} (h : Oth w w') : ∀ {l : List Deferred}, Marks n w l → Marks n w' l
  | [], _ => trivial
  | d :: r, ⟨⟨D, e, hn, hD, hne⟩, hr⟩ => ⟨⟨D, e, hn, h.same D _ hD ⟨fun _ _ _ h => (by cases h), fun _ _ h => (by cases h)⟩, hne⟩, hr.keep h⟩

structure Env where
  n : Nat
  b : World

structure Inv (φ₀ : Emb) (H₀ : Heap) (w₀ : World) (N : Env) (φ : Emb) (s : St) (a : Act) (w : World) (K : List Nat) : Prop where
  sok : SOk φ s.tmps a K
  heap : HRel φ s.heap w
  fr : Fr φ₀ H₀ w₀ φ s.heap w
  defers : Marks w₀.heap.size w a.defers
  size : a.tmps.size = N.n
  oth : Oth N.b w

def LeS (n : Nat) : LeT := fun s s' => ∀ φ₀ H₀ w₀ N φ a w, H₀.next ≤ n → (∀ i, H₀.next ≤ i → φ₀ i = none) → Inv φ₀ H₀ w₀ N φ s a w [] → ∃ φ', Inv φ₀ H₀ w₀ N φ' s' a w []

def IterC (P : Program) : IterT := fun gf caps K N x => ∀ (φ : Emb) (w : World) (lb : Array Value) (l : Nat), F2 (relP φ) caps lb.toList →
  (∃ fn, P.funcs[gf]? = some fn ∧ (fn.name == "runtime.NumGoroutine") = false ∧ fn.body.isNone = false) ∧
  ∀ (J : Nat → Emb → World → Prop) (Jx : World → Prop), (∀ j ψ W, J j ψ W → φ.le ψ ∧ (∃ n, ψ n = none) ∧ ∀ i B, getB K.blks i = some B → ψ i = φ i ∧ ∀ p, φ i = some p → BRel ψ B p W) →
    (∀ j ψ W, j < N → J j ψ W → ∀ vs : Array Value, F2 (relA ψ) (x j) vs.toList → YieldAt Fence.wide 0 P l vs W fun e W' =>
      (e = .returned (.bool true) ∧ ∃ ψ', J (j + 1) ψ' W') ∨ (e = .returned (.bool false) ∧ Jx W')) →
    ∀ ψ, J 0 ψ w → CallsIn Fence.wide 0 P gf (#[.func (.yield l) #[] #[]] ++ lb) w fun e W' => (∃ v, e = .returned v) ∧ ((∃ ψ', J N ψ' W') ∨ Jx W')

end Go.AM

namespace Go.AM

def cvOf : Value → Option CV
  | .bool b => some (.bool b)
  | .int k n => some (.int k n)
  | .string s => some (.str s)
  | .pointer none => some .nilp
  | .slice none 0 0 => some .nils
  | .map none => some .nilm
  | .nilFunc => some .nilfn
  | .nilIface => some .nilif
  | .func (.func f) a b => (match a.toList, b.toList with | [], [] => some (.fn f [] []) | _, _ => none)
  | _ => none

def cvsOf : List Value → Option (List CV)
  | [] => some []
  | v :: r => match cvOf v, cvsOf r with
    | some c, some l => some (c :: l)
    | _, _ => none

def shapeOf (P : Program) : Nat → TypeId → Option (List (Option Nat))
  | 0, _ => none
  | d + 1, t => match P.underlying t with
    | some (.struct fs) => fs.toList.foldl (fun acc f => match acc, shapeOf P d f.type with
        | some l, some m => some (l ++ m)
        | _, _ => none) (some [])
    | some (.array n e) => (match shapeOf P d e with
        | some [none] => some [some n]
        | _ => none)
    | some _ => some [none]
    | none => none

def layOut : List (Option Nat) → List CV → Option (List Seg)
  | [], [] => some []
  | none :: r, v :: l => (layOut r l).map (Seg.c v :: ·)
  | some n :: r, l =>
    match l with
    | v :: _ => (layOut r (l.drop n)).map (Seg.a n (fun _ => v) :: ·)
    | [] => if n = 0 then (layOut r []).map (Seg.a 0 (fun _ => .nilp) :: ·) else none
  | _, _ => none

def eqCV : CV → CV → Bool
  | .bool a, .bool b => a == b
  | .int j a, .int k b => sameK j k && a == b
  | .str a, .str b => decide (a = b)
  | .nilp, .nilp => true
  | .nils, .nils => true
  | .nilm, .nilm => true
  | .nilfn, .nilfn => true
  | .nilif, .nilif => true
  | _, _ => false
theorem eqCV_eq {a b : CV} (h : eqCV a b = true) : a = b := by
  cases a <;> cases b <;> simp [eqCV] at h <;> first | rfl | (subst h; rfl) | (obtain ⟨h1, h2⟩ := h; rw [sameK_eq h1, h2])
def eqL : List CV → List CV → Bool
  | [], [] => true
  | a :: l, b :: m => eqCV a b && eqL l m
  | _, _ => false
theorem eqL_eq : ∀ {l m : List CV}, eqL l m = true → l = m
  | [], [], _ => rfl
  | [], _ :: _, h => by simp [eqL] at h
  | _ :: _, [], h => by simp [eqL] at h
  | a :: l, b :: m, h => by
    simp only [eqL, Bool.and_eq_true] at h
    rw [eqCV_eq h.1, eqL_eq h.2]

def zeroOf (P : Program) (t : TypeId) : Option (List Seg) :=
  match P.info? t with
  | some i => match i.zero with
    | some z => (match shapeOf P 8 t, cvsOf z.cells.toList with
      | some sh, some cs => (match layOut sh cs with
        | some l => if eqL (flat l) cs = true then some l else none
        | none => none)
      | _, _ => none)
    | none => none
  | none => none

def aggT (P : Program) (t : TypeId) : Option Bool :=
  match P.underlying t with
  | some (.struct _) => some true
  | some (.array _ _) => some true
  | some _ => some false
  | none => none

def sizeT (P : Program) (t : TypeId) : Option Nat := (P.info? t).map (·.size)
def bytesT (P : Program) (t : TypeId) : Option Nat := (P.info? t).map (·.bytes)

def opd : Operand → Option Opd
  | .tmp t => some (.t t)
  | .const (.agg cs) => (cvsOf cs.toList).map fun l => .k (.agg (l.map Seg.c))
  | .const v => (cvOf v).map fun c => .k (.c c)
  | .func f => some (.k (.c (.fn f [] [])))
  | .global _ => none

def opds : List Operand → Option (List Opd)
  | [] => some []
  | x :: r => match opd x, opds r with
    | some y, some l => some (y :: l)
    | _, _ => none

def opdO : Option Operand → Option (Option Opd)
  | none => some none
  | some x => (opd x).map some

def fieldAt (P : Program) (s : TypeId) (f : Nat) : Option Field :=
  match P.underlying s with
  | some (.struct fs) => fs[f]?
  | _ => none

def placesT (P : Program) (fs : Array Field) : Option (List (Nat × Nat)) := fs.toList.mapM (fun f => (P.info? f.type).map fun i => (f.offset, i.size))

def partsT (place : Nat → Option (Nat × Nat)) : List (Nat × Operand) → Option (List (Nat × Nat × Opd))
  | [] => some []
  | (i, x) :: r => match place i, opd x, partsT place r with
    | some (o, n), some y, some l => some ((o, n, y) :: l)
    | _, _, _ => none

def flatK (P : Program) : List Field → Nat → Option (List FK)
  | [], _ => some []
  | f :: fs, i => if f.name ≠ "_" ∧ f.offset = i then
    (match P.underlying f.type with
    | some .bool => (flatK P fs (i + 1)).map (FK.one false :: ·)
    | some (.int _) => (flatK P fs (i + 1)).map (FK.one true :: ·)
    | some (.array n e) => if P.cellsOf f.type = n ∧ P.cellsOf e = 1 ∧ (P.info? e).isSome = true ∧ (P.info? f.type).isSome = true then
        (match P.underlying e with
        | some .bool => (flatK P fs (i + n)).map (FK.arr n false :: ·)
        | some (.int _) => (flatK P fs (i + n)).map (FK.arr n true :: ·)
        | _ => none)
      else none
    | _ => none) else none

def eqOp (op : BinOp) : Option Bool := match op with | .eql => some false | .neq => some true | _ => none

def onesK : List FK → Option (List Bool)
  | [] => some []
  | .one b :: r => (onesK r).map (b :: ·)
  | .arr _ _ :: _ => none
def keyKs (P : Program) (t : TypeId) : Option (List Bool) :=
  match P.underlying t with
  | some (.int _) => some [true]
  | some (.struct fs) => (match flatK P fs.toList 0 with
    | some ks => (match onesK ks with
      | some l => if 2 ≤ l.length ∧ P.stoodInHeld t = false then some l else none
      | none => none)
    | none => none)
  | _ => none
def zero1 (P : Program) (t : TypeId) : Option CV :=
  match P.info? t with
  | some i => (match i.zero with | some v => cvOf v | none => none)
  | none => none
def mapKs (P : Program) (t : TypeId) : Option (List Bool × CV) :=
  match P.underlying t with
  | some (.map k e) => (match keyKs P k, zero1 P e with
    | some ks, some z => some (ks, z)
    | _, _ => none)
  | _ => none

def stripOp (P : Program) (o : Op) : Option AOp :=
  match o with
  | .move x | .assign x => (opd x).map .mv
  | .pick (.tmp c) a b => match opd a, opd b with
    | some x, some y => some (.pick c x y)
    | _, _ => none
  | .alloc t => (zeroOf P t).map fun z => .alloc t z
  | .box t x => (opd x).map (.box t ·)
  | .build t ps => match P.underlying t with
    | some (.struct fs) => (match zeroOf P t, placesT P fs with
      | some z, some places => (partsT (fun i => places.toArray[i]?) ps.toList).map fun l => .build z l
      | _, _ => none)
    | some (.array _ e) => (match zeroOf P t, sizeT P e with
      | some z, some k => (partsT (fun i => some (i * k, k)) ps.toList).map fun l => .build z l
      | _, _ => none)
    | _ => none
  | .buildSlice t n ps => match P.underlying t with
    | some (.slice e) => (match zeroOf P e, sizeT P e with
      | some z, some k => if n * k ≤ 16777216 ∧ k ≠ 0 ∧ sizes z = k then (partsT (fun i => some (i * k, k)) ps.toList).map fun l => .bslice e k z n l else none
      | _, _ => none)
    | _ => none
  | .load t a => match aggT P t, sizeT P t, opd a with
    | some false, _, some x => some (.ld1 x)
    | some true, some n, some x => some (.ldn n x)
    | _, _, _ => none
  | .store t a v => match aggT P t, sizeT P t, opd a, opd v with
    | some false, some 1, some x, some y => some (.st1 x y)
    | some true, some n, some x, some y => some (.stn n x y)
    | _, _, _, _ => none
  | .nilCheck x => (opd x).map .nilchk
  | .binOp op t x y _ => match P.underlying t, opd x, opd y with
    | some (.int _), some x, some y => some (.bin op x y)
    | some .bool, some x, some y => (match op with | .eql => some (.eqB false x y) | .neq => some (.eqB true x y) | _ => none)
    | some (.struct fs), some x, some y => (match eqOp op, flatK P fs.toList 0 with
      | some neq, some ks => if P.stoodInHeld t = false ∧ P.eqGuardType P.depth t = false then some (.eqS neq ks x y) else none
      | _, _ => none)
    | some (.pointer _), some x, some y => (eqOp op).map fun neq => .nilq .ptr neq x y
    | some (.func _ _ _), some x, some y => (eqOp op).map fun neq => .nilq .fn neq x y
    | some (.slice _), some x, some y => (eqOp op).map fun neq => .nilq .sl neq x y
    | some (.map _ _), some x, some y => (eqOp op).map fun neq => .nilq .map neq x y
    | some .string, some x, some y => (match op with | .add => some (.cat x y) | .eql => some (.eqT false x y) | .neq => some (.eqT true x y) | _ => none)
    | _, _, _ => none
  | .unOp op _ x => (opd x).map (.un op ·)
  | .convert src dst x => match P.underlying src, P.underlying dst, opd x with
    | some _, some (.int k), some y => some (.conv k y)
    | some .string, some (.slice e), some y => (match P.underlying e with | some (.int .u8) => some (.tob e y) | _ => none)
    | _, _, _ => none
  | .makeFunc (.func f) first caps => match opds first.toList, opds caps.toList with
    | some l, some m => some (.mkfn f l m)
    | _, _ => none
  | .makeSlice t len cap => match P.underlying t with
    | some (.slice e) => (match zeroOf P e, sizeT P e, bytesT P e, opd len, opd cap with
      | some z, some k, some b, some x, some y => if k ≠ 0 ∧ b ≠ 0 ∧ sizes z = k then some (.mkslice e k b z x y) else none
      | _, _, _, _, _ => none)
    | _ => none
  | .slice t x lo hi none => match P.underlying t, opd x, opdO lo, opdO hi with
    | some (.slice e), some x, some lo, some hi => (sizeT P e).map fun k => .slc k x lo hi
    | some (.pointer arr), some x, some lo, some hi => (match P.underlying arr with
      | some (.array n e) => if sizeT P e = some 1 then some (.slcA n x lo hi) else none
      | _ => none)
    | some (.array n e), some x, some lo, some hi => if sizeT P e = some 1 then some (.slcA n x lo hi) else none
    | _, _, _, _ => none
  | .fieldAddr t x f => match fieldAt P t f, opd x with
    | some f, some y => (match sizeT P f.type with
      | some (_ + 1) => some (.faddr y f.offset)
      | _ => none)
    | _, _ => none
  | .field t x f => match fieldAt P t f, opd x with
    | some f, some y => (match aggT P f.type, sizeT P f.type with
      | some true, some n => some (.fld y f.offset (some n))
      | some false, _ => some (.fld y f.offset none)
      | _, _ => none)
    | _, _ => none
  | .indexAddr t x i => match P.underlying t, opd x, opd i with
    | some (.slice e), some x, some i => (sizeT P e).map fun k => .iaddr k x i
    | some (.array n e), some x, some i => if sizeT P e = some 1 then some (.iaddrA n x i) else none
    | _, _, _ => none
  | .index t x i => match P.underlying t, opd x, opd i with
    | some .string, some x, some i => some (.idxT x i)
    | _, _, _ => none
  | .extract x i => (opd x).map (.ext · i)
  | .makeMap t none => (mapKs P t).map fun (ks, z) => .mp .make ks z (.k .bot) (.k .bot) (.k .bot)
  | .lookup t x i ok => match mapKs P t, opd x, opd i with
    | some (ks, z), some x, some y => some (.mp (if ok then .look else .look1) ks z x y (.k .bot))
    | _, _, _ => none
  | .mapUpdate t m k v => match mapKs P t, opd m, opd k, opd v with
    | some (ks, z), some x, some y, some v => some (.mp .put ks z x y v)
    | _, _, _, _ => none
  | .call { callee := .value f, args := args, argTypes := _ } => match opd f, opds args.toList with
    | some f, some l => some (.call f l)
    | _, _ => none
  | .call { callee := .builtin .len, args := args, argTypes := ts } => match args.toList, ts.toList with
    | [x], [t] => (match P.underlying t, opd x with
      | some (.slice _), some y => some (.len false y)
      | some .string, some y => some (.len true y)
      | some (.array n _), _ => some (.mv (.k (.c (.int .i64 n))))
      | _, _ => none)
    | _, _ => none
  | .call { callee := .builtin .copy, args := args, argTypes := ts } => match args.toList, ts.toList with
    | [x, y], [t, _] => (match P.underlying t, opd x, opd y with
      | some (.slice e), some x, some y => (sizeT P e).map fun k => .cpy k x y
      | _, _, _ => none)
    | _, _ => none
  | .call { callee := .builtin .clear, args := args, argTypes := ts } => match args.toList, ts.toList with
    | [x], [t] => (match P.underlying t, opd x with
      | some (.slice e), some x => (match zeroOf P e, sizeT P e with
        | some z, some k => if k ≠ 0 ∧ sizes z = k then some (.clr k z x) else none
        | _, _ => none)
      | _, _ => none)
    | _, _ => none
  | .call { callee := .builtin .delete, args := args, argTypes := ts } => match args.toList, ts.toList with
    | [x, y], [t, _] => (match mapKs P t, opd x, opd y with
      | some (ks, z), some x, some y => some (.mp .del ks z x y (.k .bot))
      | _, _, _ => none)
    | _, _ => none
  | .call { callee := .builtin .append, args := args, argTypes := ts } => match args.toList, ts.toList with
    | [x, y], [t, u] => (match P.underlying t, opd x, opd y with
      | some (.slice e), some x, some y => (match sizeT P e, bytesT P e, zeroOf P e with
        | some k, some b, some z => if t = u ∧ k ≠ 0 ∧ b ≠ 0 ∧ sizes z = k then some (.app k b e x y) else none
        | _, _, _ => none)
      | _, _, _ => none)
    | _, _ => none
  | _ => none

def dstOf (ops : Array Oper) (j : Nat) : Option Nat := (ops[j]?).bind (·.dst)

def waits (o : Oper) (j : Nat) : Bool := o.after.toList.any fun e => Region.binds .any e && e.on == j

def readsA (o : AOper) : List Nat :=
  (match o.guard with
   | some (d, _) => [d]
   | none => []) ++ aSlots o.op

def drawOk (ops : Array Oper) (al : List AOper) : Bool :=
  (List.range ops.size).all fun i => match ops[i]?, al[i]? with
    | some o, some ao =>
      (o.after.toList.all fun e => !Region.binds .any e || decide (e.on < i)) &&
      (List.range ops.size).all fun j => (i == j) || (match ops[j]? with
        | none => false
        | some x => match x.dst with
          | none => true
          | some d => (o.dst != some d) && (!(readsA ao).contains d || (if j < i then waits o j else waits x i)))
    | _, _ => false

def maskE (ms : List Nat) : List Edge → Nat → Nat
  | [], acc => acc
  | e :: r, acc => maskE ms r (if Region.binds .any e = true then acc ||| (1 <<< e.on) ||| ms.getD e.on 0 else acc)
def masks : List Oper → List Nat → List Nat
  | [], ms => ms
  | o :: r, ms => masks r (ms ++ [maskE ms o.after.toList 0])
def cutAt (ops : Array Oper) (i : Nat) : Bool :=
  let ms := masks ops.toList []
  (List.range ops.size).all fun k => decide (k < i) || ((List.range i).all fun j => (ms.getD k 0).testBit j)
def soloAt (ops : Array Oper) (i : Nat) : Bool := cutAt ops i && cutAt ops (i + 1)

def addrOf : AOp → Option Nat
  | .ld1 (.t a) => some a
  | .ldn _ (.t a) => some a
  | _ => none
def appNil : AOp → Bool
  | .app _ _ _ (.k (.c .nils)) _ => true
  | _ => false
def stripD (P : Program) (o : Oper) : AOp := (stripOp P o.op).getD .other
def exAt (P : Program) (ops : Array Oper) (j : Nat) : List Nat :=
  let ms := masks ops.toList []
  (List.range j).filterMap fun i => match ops[i]? with
    | some o => if (ms.getD j 0).testBit i then none else addrOf (stripD P o)
    | none => none
def midAt (P : Program) (ops : Array Oper) (j : Nat) : Bool :=
  match ops[j]? with
  | none => false
  | some o => chgOp (stripD P o) && (let ms := masks ops.toList []
    (List.range ops.size).all fun i => (i == j) || (match ops[i]? with
      | none => true
      | some x => quietOp (stripD P x) || (if i < j then (ms.getD j 0).testBit i else (ms.getD i 0).testBit j) ||
        (match addrOf (stripD P x) with
        | none => false
        | some a => appNil (stripD P o) || (stOp (stripD P o) && decide (i < j) && (List.range ops.size).all fun k => decide (k < i) || (match ops[k]? with
          | some y => y.dst != some a
          | none => true)))))

def stripOper (P : Program) (N : Nat) (ops : Array Oper) (draw : Bool) (i : Nat) (o : Oper) : AOper :=
  let ok := o.dst.all (· < N) && (match o.guard with | none => true | some (j, _) => (dstOf ops j).isSome)
  { dst := o.dst
    op := if ok then (stripOp P o.op).getD .other else .other
    guard := match o.guard with
      | none => none
      | some (j, w) => (dstOf ops j).map fun d => (d, w)
    tl := !draw || soloAt ops i || midAt P ops i
    ex := if !draw || soloAt ops i || !midAt P ops i || appNil (stripD P o) then [] else exAt P ops i }

def noRange : Code → Bool
  | .rangeFunc _ _ _ _ => false
  | .seq a b => noRange a && noRange b
  | .cond _ a b => noRange a && noRange b
  | .block _ a => noRange a
  | .loop a => noRange a
  | _ => true
def strip (P : Program) (N : Nat) : Code → ACode
  | .rangeFunc g ps a b => match opd g with
    | some g' => if (ps.toList.all (· < N) && (noRange a && noRange b)) = true then .range (IterC P) LeS g' ps.toList (strip P N a) (strip P N b) else .other
    | none => .other
  | .skip => .skip
  | .region _ ops draw =>
    let l := ops.toList.zipIdx.map fun (o, i) => stripOper P N ops draw i o
    if okG l && (!draw || drawOk ops l) then .region l else .other
  | .seq a b => .seq (strip P N a) (strip P N b)
  | .cond c t e => match opd c with
    | some x => .cond x (strip P N t) (strip P N e)
    | none => .other
  | .block id b => .block id (strip P N b)
  | .loop b => .loop (strip P N b)
  | .exit id => .exit id
  | .ret => .ret
  | _ => .other

def stripF (P : Program) (fn : Func) : Option ACode :=
  match fn.body with
  | some c => some (strip P fn.ntmps c)
  | none => none

def stripRes (P : Program) : List ResultVar → Option (List ARes)
  | [] => some []
  | .tmp t :: r => (stripRes P r).map (ARes.tmp t :: ·)
  | .cell a t :: r => match aggT P t, sizeT P t, stripRes P r with
    | some false, _, some l => some (ARes.c1 a :: l)
    | some true, some n, some l => some (ARes.cn n a :: l)
    | _, _, _ => none

end Go.AM

set_option linter.unusedVariables false
namespace Go.Proofs.Ytmbnakinhnkabaa
open Go.AM
def C21r0 : List AOper := [⟨some 1, .box 39 (.t 0), none, true, []⟩,
 ⟨some 2, .mv (.k (.c (.nils))), none, true, []⟩]
def C21r1 : List AOper := [⟨some 6, .faddr (.t 1) 0, none, true, []⟩,
 ⟨some 7, .ld1 (.t 6), none, true, []⟩,
 ⟨some 8, .call (.k (.c (.fn 46 [] []))) [(.t 7)], none, true, []⟩,
 ⟨some 5, .mv (.t 8), none, true, []⟩,
 ⟨some 9, .ext (.t 5) 0, none, true, []⟩,
 ⟨some 10, .ext (.t 5) 1, none, true, []⟩,
 ⟨some 3, .alloc 79 [.c (.str ⟨#[]⟩), .c (.bool false), .c (.bool false), .c (.bool false), .c (.int .i64 0), .c (.bool false), .c (.bool false), .c (.bool false), .c (.nilfn)], none, true, []⟩,
 ⟨none, .stn 9 (.t 3) (.t 9), none, true, []⟩,
 ⟨some 4, .mv (.t 10), none, true, []⟩]
def C21r2 : List AOper := [⟨some 11, .faddr (.t 1) 2, none, true, []⟩,
 ⟨some 12, .ld1 (.t 11), none, true, []⟩,
 ⟨some 13, .faddr (.t 1) 3, none, true, []⟩,
 ⟨some 14, .ld1 (.t 13), none, true, []⟩,
 ⟨some 15, .bslice 3 1 [.c (.int .i64 0)] 2 [(0, 1, (.t 12)), (1, 1, (.t 14))], none, true, []⟩,
 ⟨some 16, .faddr (.t 3) 4, none, true, []⟩,
 ⟨some 17, .ld1 (.t 16), none, true, []⟩,
 ⟨some 18, .slc 1 (.t 15) none (some (.t 17)), none, true, []⟩,
 ⟨some 19, .app 1 8 3 (.k (.c (.nils))) (.t 18), none, true, []⟩,
 ⟨some 2, .mv (.t 19), none, true, []⟩]
def C21 : ACode :=
 .seq (.region C21r0)
 (.seq (.region C21r1)
 (.seq (.region C21r2)
 (.ret)))
theorem C21_ok : stripF Try.prog Try.f21 = some C21 := by kernel_rfl
def C37r0 : List AOper := [⟨some 1, .box 25 (.t 0), none, true, []⟩,
 ⟨some 2, .mv (.k (.c (.bool false))), none, true, []⟩]
def C37r1 : List AOper := [⟨some 8, .faddr (.t 1) 3, none, true, []⟩,
 ⟨some 9, .ld1 (.t 8), none, true, []⟩,
 ⟨some 10, .len false (.t 9), none, true, []⟩,
 ⟨some 3, .mv (.t 10), none, true, []⟩]
def C37r2 : List AOper := [⟨some 11, .faddr (.t 1) 0, none, true, []⟩,
 ⟨some 12, .ld1 (.t 11), none, true, []⟩,
 ⟨some 13, .bin .and (.t 12) (.k (.c (.int .u64 3))), none, true, []⟩,
 ⟨some 14, .bin .neq (.t 13) (.k (.c (.int .u64 0))), none, true, []⟩,
 ⟨some 15, .mv (.t 14), none, true, []⟩,
 ⟨some 16, .faddr (.t 1) 1, some (15, false), true, []⟩,
 ⟨some 17, .ld1 (.t 16), some (15, false), true, []⟩,
 ⟨some 18, .bin .lss (.t 17) (.k (.c (.int .i64 1))), some (15, false), true, []⟩,
 ⟨some 19, .pick 15 (.k (.c (.bool true))) (.t 18), none, true, []⟩,
 ⟨some 20, .mv (.t 19), none, true, []⟩,
 ⟨some 21, .faddr (.t 1) 1, some (20, false), true, []⟩,
 ⟨some 22, .ld1 (.t 21), some (20, false), true, []⟩,
 ⟨some 23, .bin .gtr (.t 22) (.k (.c (.int .i64 16))), some (20, false), true, []⟩,
 ⟨some 24, .pick 20 (.k (.c (.bool true))) (.t 23), none, true, []⟩,
 ⟨some 25, .mv (.t 24), none, true, []⟩,
 ⟨some 26, .faddr (.t 1) 2, some (25, false), true, []⟩,
 ⟨some 27, .ld1 (.t 26), some (25, false), true, []⟩,
 ⟨some 28, .bin .lss (.t 27) (.k (.c (.int .i64 0))), some (25, false), true, []⟩,
 ⟨some 29, .pick 25 (.k (.c (.bool true))) (.t 28), none, true, []⟩,
 ⟨some 30, .mv (.t 29), none, true, []⟩,
 ⟨some 31, .faddr (.t 1) 2, some (30, false), true, []⟩,
 ⟨some 32, .ld1 (.t 31), some (30, false), true, []⟩,
 ⟨some 33, .bin .gtr (.t 32) (.k (.c (.int .i64 1))), some (30, false), true, []⟩,
 ⟨some 34, .pick 30 (.k (.c (.bool true))) (.t 33), none, true, []⟩,
 ⟨some 35, .mv (.t 34), none, true, []⟩,
 ⟨some 36, .mv (.t 3), some (35, false), true, []⟩,
 ⟨some 37, .bin .lss (.t 36) (.k (.c (.int .i64 1))), some (35, false), true, []⟩,
 ⟨some 38, .pick 35 (.k (.c (.bool true))) (.t 37), none, true, []⟩,
 ⟨some 39, .mv (.t 38), none, true, []⟩,
 ⟨some 40, .mv (.t 3), some (39, false), true, []⟩,
 ⟨some 41, .bin .gtr (.t 40) (.k (.c (.int .i64 512))), some (39, false), true, []⟩,
 ⟨some 42, .pick 39 (.k (.c (.bool true))) (.t 41), none, true, []⟩]
def C37r3 : List AOper := [⟨some 2, .mv (.k (.c (.bool false))), none, true, []⟩]
def C37r4 : List AOper := [⟨some 43, .faddr (.t 1) 3, none, true, []⟩,
 ⟨some 44, .ld1 (.t 43), none, true, []⟩,
 ⟨some 45, .iaddr 6 (.t 44) (.k (.c (.int .i64 0))), none, true, []⟩,
 ⟨some 46, .faddr (.t 45) 0, none, true, []⟩,
 ⟨some 47, .ld1 (.t 46), none, true, []⟩,
 ⟨some 48, .bin .neq (.t 47) (.k (.c (.int .i64 14))), none, true, []⟩,
 ⟨some 49, .mv (.t 48), none, true, []⟩,
 ⟨some 50, .faddr (.t 1) 3, some (49, false), false, []⟩,
 ⟨some 51, .ld1 (.t 50), some (49, false), false, []⟩,
 ⟨some 52, .iaddr 6 (.t 51) (.k (.c (.int .i64 0))), some (49, false), false, []⟩,
 ⟨some 53, .faddr (.t 52) 5, some (49, false), false, []⟩,
 ⟨some 54, .ld1 (.t 53), some (49, false), false, []⟩,
 ⟨some 55, .faddr (.t 1) 0, some (49, false), false, []⟩,
 ⟨some 56, .ld1 (.t 55), some (49, false), false, []⟩,
 ⟨some 57, .bin .neq (.t 54) (.t 56), some (49, false), true, []⟩,
 ⟨some 58, .pick 49 (.k (.c (.bool true))) (.t 57), none, true, []⟩]
def C37r5 : List AOper := [⟨some 2, .mv (.k (.c (.bool false))), none, true, []⟩]
def C37r6 : List AOper := [⟨some 59, .faddr (.t 1) 3, none, true, []⟩,
 ⟨some 60, .ld1 (.t 59), none, true, []⟩,
 ⟨some 61, .len false (.t 60), none, true, []⟩,
 ⟨some 62, .mv (.k (.c (.int .i64 0))), none, true, []⟩]
def C37r7 : List AOper := [⟨some 63, .bin .lss (.t 62) (.t 61), none, true, []⟩]
def C37r8 : List AOper := [⟨some 64, .mv (.t 62), none, true, []⟩,
 ⟨some 65, .iaddr 6 (.t 60) (.t 62), none, true, []⟩,
 ⟨some 66, .ldn 6 (.t 65), none, true, []⟩,
 ⟨some 5, .alloc 39 [.c (.int .i64 0), .c (.int .i64 0), .c (.int .i64 0), .c (.int .i64 0), .c (.int .i64 0), .c (.int .u64 0)], none, true, []⟩,
 ⟨some 4, .mv (.t 64), none, true, []⟩,
 ⟨none, .stn 6 (.t 5) (.t 66), none, true, []⟩]
def C37r9 : List AOper := [⟨some 68, .faddr (.t 5) 0, none, true, []⟩,
 ⟨some 69, .ld1 (.t 68), none, true, []⟩,
 ⟨some 70, .call (.k (.c (.fn 46 [] []))) [(.t 69)], none, true, []⟩,
 ⟨some 67, .mv (.t 70), none, true, []⟩,
 ⟨some 71, .ext (.t 67) 0, none, true, []⟩,
 ⟨some 72, .ext (.t 67) 1, none, true, []⟩,
 ⟨some 6, .alloc 79 [.c (.str ⟨#[]⟩), .c (.bool false), .c (.bool false), .c (.bool false), .c (.int .i64 0), .c (.bool false), .c (.bool false), .c (.bool false), .c (.nilfn)], none, true, []⟩,
 ⟨none, .stn 9 (.t 6) (.t 71), none, true, []⟩,
 ⟨some 7, .mv (.t 72), none, true, []⟩]
def C37r10 : List AOper := [⟨some 73, .ldn 6 (.t 5), none, false, []⟩,
 ⟨some 74, .faddr (.t 1) 3, none, false, []⟩,
 ⟨some 75, .ld1 (.t 74), none, false, []⟩,
 ⟨some 76, .mv (.t 4), none, false, []⟩,
 ⟨some 77, .slc 6 (.t 75) none (some (.t 76)), none, false, []⟩,
 ⟨some 78, .call (.k (.c (.fn 54 [] []))) [(.t 73), (.t 77)], none, true, []⟩,
 ⟨some 79, .un .not (.t 78), none, true, []⟩,
 ⟨some 80, .mv (.t 79), none, true, []⟩,
 ⟨some 81, .faddr (.t 6) 6, some (80, false), false, []⟩,
 ⟨some 82, .ld1 (.t 81), some (80, false), false, []⟩,
 ⟨some 83, .mv (.t 4), some (80, false), false, []⟩,
 ⟨some 84, .mv (.t 3), some (80, false), false, []⟩,
 ⟨some 85, .bin .sub (.t 84) (.k (.c (.int .i64 1))), some (80, false), false, []⟩,
 ⟨some 86, .bin .eql (.t 83) (.t 85), some (80, false), false, []⟩,
 ⟨some 87, .eqB true (.t 82) (.t 86), some (80, false), true, []⟩,
 ⟨some 88, .pick 80 (.k (.c (.bool true))) (.t 87), none, true, []⟩]
def C37r11 : List AOper := [⟨some 2, .mv (.k (.c (.bool false))), none, true, []⟩]
def C37r12 : List AOper := [⟨some 89, .bin .add (.t 62) (.k (.c (.int .i64 1))), none, true, []⟩,
 ⟨some 62, .mv (.t 89), none, true, []⟩]
def C37r13 : List AOper := [⟨some 2, .mv (.k (.c (.bool true))), none, true, []⟩]
def C37 : ACode :=
 .seq (.region C37r0)
 (.seq (.region C37r1)
 (.seq (.seq (.region C37r2)
 (.cond (.t 42)
 (.seq (.region C37r3)
 (.ret))
 (.skip)))
 (.seq (.seq (.region C37r4)
 (.cond (.t 58)
 (.seq (.region C37r5)
 (.ret))
 (.skip)))
 (.seq (.seq (.region C37r6)
 (.block 0
 (.loop
 (.seq (.region C37r7)
 (.seq (.cond (.t 63)
 (.skip)
 (.exit 0))
 (.seq (.block 1
 (.seq (.region C37r8)
 (.seq (.region C37r9)
 (.seq (.region C37r10)
 (.cond (.t 88)
 (.seq (.region C37r11)
 (.ret))
 (.skip))))))
 (.region C37r12)))))))
 (.seq (.region C37r13)
 (.ret))))))
theorem C37_ok : stripF Try.prog Try.f37 = some C37 := by kernel_rfl
def C46r0 : List AOper := [⟨some 2, .alloc 79 [.c (.str ⟨#[]⟩), .c (.bool false), .c (.bool false), .c (.bool false), .c (.int .i64 0), .c (.bool false), .c (.bool false), .c (.bool false), .c (.nilfn)], none, true, []⟩,
 ⟨some 3, .mv (.k (.c (.bool false))), none, true, []⟩]
def C46r1 : List AOper := [⟨some 4, .mv (.t 0), none, true, []⟩]
def C46r2 : List AOper := [⟨some 6, .bin .eql (.t 4) (.k (.c (.int .i64 1))), none, true, []⟩,
 ⟨some 5, .mv (.t 6), none, true, []⟩]
def C46r3 : List AOper := [⟨some 7, .build [.c (.str ⟨#[]⟩), .c (.bool false), .c (.bool false), .c (.bool false), .c (.int .i64 0), .c (.bool false), .c (.bool false), .c (.bool false), .c (.nilfn)] [(0, 1, (.k (.c (.str ⟨#[99, 111, 110, 115, 116]⟩)))), (2, 1, (.k (.c (.bool true)))), (5, 1, (.k (.c (.bool true)))), (8, 1, (.k (.c (.fn 66 [] []))))], none, true, []⟩,
 ⟨none, .stn 9 (.t 2) (.t 7), none, true, []⟩,
 ⟨some 3, .mv (.k (.c (.bool true))), none, true, []⟩]
def C46r4 : List AOper := [⟨some 9, .bin .eql (.t 4) (.k (.c (.int .i64 2))), none, true, []⟩,
 ⟨some 8, .mv (.t 9), none, true, []⟩]
def C46r5 : List AOper := [⟨some 10, .call (.k (.c (.fn 67 [] []))) [(.k (.c (.int .i64 30)))], none, true, []⟩,
 ⟨some 11, .build [.c (.str ⟨#[]⟩), .c (.bool false), .c (.bool false), .c (.bool false), .c (.int .i64 0), .c (.bool false), .c (.bool false), .c (.bool false), .c (.nilfn)] [(0, 1, (.k (.c (.str ⟨#[103, 101, 116, 120]⟩)))), (1, 1, (.k (.c (.bool true)))), (5, 1, (.k (.c (.bool true)))), (8, 1, (.t 10))], none, true, []⟩,
 ⟨none, .stn 9 (.t 2) (.t 11), none, true, []⟩,
 ⟨some 3, .mv (.k (.c (.bool true))), none, true, []⟩]
def C46r6 : List AOper := [⟨some 13, .bin .eql (.t 4) (.k (.c (.int .i64 3))), none, true, []⟩,
 ⟨some 12, .mv (.t 13), none, true, []⟩]
def C46r7 : List AOper := [⟨some 14, .call (.k (.c (.fn 67 [] []))) [(.k (.c (.int .i64 30)))], none, true, []⟩,
 ⟨some 15, .build [.c (.str ⟨#[]⟩), .c (.bool false), .c (.bool false), .c (.bool false), .c (.int .i64 0), .c (.bool false), .c (.bool false), .c (.bool false), .c (.nilfn)] [(0, 1, (.k (.c (.str ⟨#[115, 101, 116, 120]⟩)))), (1, 1, (.k (.c (.bool true)))), (4, 1, (.k (.c (.int .i64 1)))), (8, 1, (.t 14))], none, true, []⟩,
 ⟨none, .stn 9 (.t 2) (.t 15), none, true, []⟩,
 ⟨some 3, .mv (.k (.c (.bool true))), none, true, []⟩]
def C46r8 : List AOper := [⟨some 17, .bin .eql (.t 4) (.k (.c (.int .i64 4))), none, true, []⟩,
 ⟨some 16, .mv (.t 17), none, true, []⟩]
def C46r9 : List AOper := [⟨some 18, .build [.c (.str ⟨#[]⟩), .c (.bool false), .c (.bool false), .c (.bool false), .c (.int .i64 0), .c (.bool false), .c (.bool false), .c (.bool false), .c (.nilfn)] [(0, 1, (.k (.c (.str ⟨#[103, 101, 116, 115, 112]⟩)))), (5, 1, (.k (.c (.bool true)))), (8, 1, (.k (.c (.fn 66 [] []))))], none, true, []⟩,
 ⟨none, .stn 9 (.t 2) (.t 18), none, true, []⟩,
 ⟨some 3, .mv (.k (.c (.bool true))), none, true, []⟩]
def C46r10 : List AOper := [⟨some 20, .bin .eql (.t 4) (.k (.c (.int .i64 5))), none, true, []⟩,
 ⟨some 19, .mv (.t 20), none, true, []⟩]
def C46r11 : List AOper := [⟨some 21, .build [.c (.str ⟨#[]⟩), .c (.bool false), .c (.bool false), .c (.bool false), .c (.int .i64 0), .c (.bool false), .c (.bool false), .c (.bool false), .c (.nilfn)] [(0, 1, (.k (.c (.str ⟨#[115, 101, 116, 115, 112]⟩)))), (4, 1, (.k (.c (.int .i64 1)))), (8, 1, (.k (.c (.fn 66 [] []))))], none, true, []⟩,
 ⟨none, .stn 9 (.t 2) (.t 21), none, true, []⟩,
 ⟨some 3, .mv (.k (.c (.bool true))), none, true, []⟩]
def C46r12 : List AOper := [⟨some 23, .bin .eql (.t 4) (.k (.c (.int .i64 6))), none, true, []⟩,
 ⟨some 22, .mv (.t 23), none, true, []⟩]
def C46r13 : List AOper := [⟨some 24, .call (.k (.c (.fn 67 [] []))) [(.k (.c (.int .i64 3)))], none, true, []⟩,
 ⟨some 25, .build [.c (.str ⟨#[]⟩), .c (.bool false), .c (.bool false), .c (.bool false), .c (.int .i64 0), .c (.bool false), .c (.bool false), .c (.bool false), .c (.nilfn)] [(0, 1, (.k (.c (.str ⟨#[103, 101, 116, 102]⟩)))), (1, 1, (.k (.c (.bool true)))), (5, 1, (.k (.c (.bool true)))), (8, 1, (.t 24))], none, true, []⟩,
 ⟨none, .stn 9 (.t 2) (.t 25), none, true, []⟩,
 ⟨some 3, .mv (.k (.c (.bool true))), none, true, []⟩]
def C46r14 : List AOper := [⟨some 27, .bin .eql (.t 4) (.k (.c (.int .i64 7))), none, true, []⟩,
 ⟨some 26, .mv (.t 27), none, true, []⟩]
def C46r15 : List AOper := [⟨some 28, .call (.k (.c (.fn 67 [] []))) [(.k (.c (.int .i64 3)))], none, true, []⟩,
 ⟨some 29, .build [.c (.str ⟨#[]⟩), .c (.bool false), .c (.bool false), .c (.bool false), .c (.int .i64 0), .c (.bool false), .c (.bool false), .c (.bool false), .c (.nilfn)] [(0, 1, (.k (.c (.str ⟨#[115, 101, 116, 102]⟩)))), (1, 1, (.k (.c (.bool true)))), (4, 1, (.k (.c (.int .i64 1)))), (8, 1, (.t 28))], none, true, []⟩,
 ⟨none, .stn 9 (.t 2) (.t 29), none, true, []⟩,
 ⟨some 3, .mv (.k (.c (.bool true))), none, true, []⟩]
def C46r16 : List AOper := [⟨some 31, .bin .eql (.t 4) (.k (.c (.int .i64 8))), none, true, []⟩,
 ⟨some 30, .mv (.t 31), none, true, []⟩]
def C46r17 : List AOper := [⟨some 32, .build [.c (.str ⟨#[]⟩), .c (.bool false), .c (.bool false), .c (.bool false), .c (.int .i64 0), .c (.bool false), .c (.bool false), .c (.bool false), .c (.nilfn)] [(0, 1, (.k (.c (.str ⟨#[97, 108, 117]⟩)))), (1, 1, (.k (.c (.bool true)))), (4, 1, (.k (.c (.int .i64 2)))), (5, 1, (.k (.c (.bool true)))), (8, 1, (.k (.c (.fn 68 [] []))))], none, true, []⟩,
 ⟨none, .stn 9 (.t 2) (.t 32), none, true, []⟩,
 ⟨some 3, .mv (.k (.c (.bool true))), none, true, []⟩]
def C46r18 : List AOper := [⟨some 34, .bin .eql (.t 4) (.k (.c (.int .i64 9))), none, true, []⟩,
 ⟨some 33, .mv (.t 34), none, true, []⟩]
def C46r19 : List AOper := [⟨some 35, .bslice 3 1 [.c (.int .i64 0)] 3 [(0, 1, (.k (.c (.int .i64 0)))), (1, 1, (.k (.c (.int .i64 1)))), (2, 1, (.k (.c (.int .i64 2))))], none, true, []⟩,
 ⟨some 36, .call (.k (.c (.fn 69 [] []))) [(.t 35)], none, true, []⟩,
 ⟨some 37, .build [.c (.str ⟨#[]⟩), .c (.bool false), .c (.bool false), .c (.bool false), .c (.int .i64 0), .c (.bool false), .c (.bool false), .c (.bool false), .c (.nilfn)] [(0, 1, (.k (.c (.str ⟨#[108, 111, 97, 100]⟩)))), (3, 1, (.k (.c (.bool true)))), (4, 1, (.k (.c (.int .i64 1)))), (5, 1, (.k (.c (.bool true)))), (7, 1, (.k (.c (.bool true)))), (8, 1, (.t 36))], none, true, []⟩,
 ⟨none, .stn 9 (.t 2) (.t 37), none, true, []⟩,
 ⟨some 3, .mv (.k (.c (.bool true))), none, true, []⟩]
def C46r20 : List AOper := [⟨some 39, .bin .eql (.t 4) (.k (.c (.int .i64 10))), none, true, []⟩,
 ⟨some 38, .mv (.t 39), none, true, []⟩]
def C46r21 : List AOper := [⟨some 40, .bslice 3 1 [.c (.int .i64 0)] 2 [(0, 1, (.k (.c (.int .i64 0)))), (1, 1, (.k (.c (.int .i64 4))))], none, true, []⟩,
 ⟨some 41, .call (.k (.c (.fn 69 [] []))) [(.t 40)], none, true, []⟩,
 ⟨some 42, .build [.c (.str ⟨#[]⟩), .c (.bool false), .c (.bool false), .c (.bool false), .c (.int .i64 0), .c (.bool false), .c (.bool false), .c (.bool false), .c (.nilfn)] [(0, 1, (.k (.c (.str ⟨#[115, 116, 111, 114, 101]⟩)))), (3, 1, (.k (.c (.bool true)))), (4, 1, (.k (.c (.int .i64 2)))), (7, 1, (.k (.c (.bool true)))), (8, 1, (.t 41))], none, true, []⟩,
 ⟨none, .stn 9 (.t 2) (.t 42), none, true, []⟩,
 ⟨some 3, .mv (.k (.c (.bool true))), none, true, []⟩]
def C46r22 : List AOper := [⟨some 44, .bin .eql (.t 4) (.k (.c (.int .i64 11))), none, true, []⟩,
 ⟨some 43, .mv (.t 44), none, true, []⟩]
def C46r23 : List AOper := [⟨some 45, .bslice 3 1 [.c (.int .i64 0)] 2 [(0, 1, (.k (.c (.int .i64 0)))), (1, 1, (.k (.c (.int .i64 2))))], none, true, []⟩,
 ⟨some 46, .call (.k (.c (.fn 69 [] []))) [(.t 45)], none, true, []⟩,
 ⟨some 47, .build [.c (.str ⟨#[]⟩), .c (.bool false), .c (.bool false), .c (.bool false), .c (.int .i64 0), .c (.bool false), .c (.bool false), .c (.bool false), .c (.nilfn)] [(0, 1, (.k (.c (.str ⟨#[108, 111, 97, 100, 101, 120]⟩)))), (3, 1, (.k (.c (.bool true)))), (4, 1, (.k (.c (.int .i64 1)))), (5, 1, (.k (.c (.bool true)))), (7, 1, (.k (.c (.bool true)))), (8, 1, (.t 46))], none, true, []⟩,
 ⟨none, .stn 9 (.t 2) (.t 47), none, true, []⟩,
 ⟨some 3, .mv (.k (.c (.bool true))), none, true, []⟩]
def C46r24 : List AOper := [⟨some 49, .bin .eql (.t 4) (.k (.c (.int .i64 12))), none, true, []⟩,
 ⟨some 48, .mv (.t 49), none, true, []⟩]
def C46r25 : List AOper := [⟨some 50, .bslice 3 1 [.c (.int .i64 0)] 2 [(0, 1, (.k (.c (.int .i64 0)))), (1, 1, (.k (.c (.int .i64 4))))], none, true, []⟩,
 ⟨some 51, .call (.k (.c (.fn 69 [] []))) [(.t 50)], none, true, []⟩,
 ⟨some 52, .build [.c (.str ⟨#[]⟩), .c (.bool false), .c (.bool false), .c (.bool false), .c (.int .i64 0), .c (.bool false), .c (.bool false), .c (.bool false), .c (.nilfn)] [(0, 1, (.k (.c (.str ⟨#[115, 116, 111, 114, 101, 101, 120]⟩)))), (3, 1, (.k (.c (.bool true)))), (4, 1, (.k (.c (.int .i64 2)))), (5, 1, (.k (.c (.bool true)))), (7, 1, (.k (.c (.bool true)))), (8, 1, (.t 51))], none, true, []⟩,
 ⟨none, .stn 9 (.t 2) (.t 52), none, true, []⟩,
 ⟨some 3, .mv (.k (.c (.bool true))), none, true, []⟩]
def C46r26 : List AOper := [⟨some 54, .bin .eql (.t 4) (.k (.c (.int .i64 13))), none, true, []⟩,
 ⟨some 53, .mv (.t 54), none, true, []⟩]
def C46r27 : List AOper := [⟨some 55, .build [.c (.str ⟨#[]⟩), .c (.bool false), .c (.bool false), .c (.bool false), .c (.int .i64 0), .c (.bool false), .c (.bool false), .c (.bool false), .c (.nilfn)] [(0, 1, (.k (.c (.str ⟨#[102, 101, 110, 99, 101]⟩)))), (1, 1, (.k (.c (.bool true)))), (8, 1, (.k (.c (.fn 70 [] []))))], none, true, []⟩,
 ⟨none, .stn 9 (.t 2) (.t 55), none, true, []⟩,
 ⟨some 3, .mv (.k (.c (.bool true))), none, true, []⟩]
def C46r28 : List AOper := [⟨some 57, .bin .eql (.t 4) (.k (.c (.int .i64 14))), none, true, []⟩,
 ⟨some 56, .mv (.t 57), none, true, []⟩]
def C46r29 : List AOper := [⟨some 58, .build [.c (.str ⟨#[]⟩), .c (.bool false), .c (.bool false), .c (.bool false), .c (.int .i64 0), .c (.bool false), .c (.bool false), .c (.bool false), .c (.nilfn)] [(0, 1, (.k (.c (.str ⟨#[97, 116]⟩)))), (2, 1, (.k (.c (.bool true)))), (8, 1, (.k (.c (.fn 71 [] []))))], none, true, []⟩,
 ⟨none, .stn 9 (.t 2) (.t 58), none, true, []⟩,
 ⟨some 3, .mv (.k (.c (.bool true))), none, true, []⟩]
def C46r30 : List AOper := [⟨some 60, .bin .eql (.t 4) (.k (.c (.int .i64 15))), none, true, []⟩,
 ⟨some 59, .mv (.t 60), none, true, []⟩]
def C46r31 : List AOper := [⟨some 61, .build [.c (.str ⟨#[]⟩), .c (.bool false), .c (.bool false), .c (.bool false), .c (.int .i64 0), .c (.bool false), .c (.bool false), .c (.bool false), .c (.nilfn)] [(0, 1, (.k (.c (.str ⟨#[101, 120, 105, 116, 105, 102]⟩)))), (2, 1, (.k (.c (.bool true)))), (4, 1, (.k (.c (.int .i64 1)))), (8, 1, (.k (.c (.fn 66 [] []))))], none, true, []⟩,
 ⟨none, .stn 9 (.t 2) (.t 61), none, true, []⟩,
 ⟨some 3, .mv (.k (.c (.bool true))), none, true, []⟩]
def C46r32 : List AOper := [⟨some 63, .bin .eql (.t 4) (.k (.c (.int .i64 16))), none, true, []⟩,
 ⟨some 62, .mv (.t 63), none, true, []⟩]
def C46r33 : List AOper := [⟨some 64, .build [.c (.str ⟨#[]⟩), .c (.bool false), .c (.bool false), .c (.bool false), .c (.int .i64 0), .c (.bool false), .c (.bool false), .c (.bool false), .c (.nilfn)] [(0, 1, (.k (.c (.str ⟨#[101, 120, 105, 116]⟩)))), (2, 1, (.k (.c (.bool true)))), (6, 1, (.k (.c (.bool true)))), (8, 1, (.k (.c (.fn 66 [] []))))], none, true, []⟩,
 ⟨none, .stn 9 (.t 2) (.t 64), none, true, []⟩,
 ⟨some 3, .mv (.k (.c (.bool true))), none, true, []⟩]
def C46r34 : List AOper := [⟨some 66, .bin .eql (.t 4) (.k (.c (.int .i64 17))), none, true, []⟩,
 ⟨some 65, .mv (.t 66), none, true, []⟩]
def C46r35 : List AOper := [⟨some 67, .build [.c (.str ⟨#[]⟩), .c (.bool false), .c (.bool false), .c (.bool false), .c (.int .i64 0), .c (.bool false), .c (.bool false), .c (.bool false), .c (.nilfn)] [(0, 1, (.k (.c (.str ⟨#[101, 120, 105, 116, 116, 111]⟩)))), (4, 1, (.k (.c (.int .i64 1)))), (6, 1, (.k (.c (.bool true)))), (8, 1, (.k (.c (.fn 66 [] []))))], none, true, []⟩,
 ⟨none, .stn 9 (.t 2) (.t 67), none, true, []⟩,
 ⟨some 3, .mv (.k (.c (.bool true))), none, true, []⟩]
def C46r36 : List AOper := [⟨some 69, .bin .eql (.t 4) (.k (.c (.int .i64 18))), none, true, []⟩,
 ⟨some 68, .mv (.t 69), none, true, []⟩]
def C46r37 : List AOper := [⟨some 70, .build [.c (.str ⟨#[]⟩), .c (.bool false), .c (.bool false), .c (.bool false), .c (.int .i64 0), .c (.bool false), .c (.bool false), .c (.bool false), .c (.nilfn)] [(0, 1, (.k (.c (.str ⟨#[103, 117, 101, 115, 116]⟩)))), (2, 1, (.k (.c (.bool true)))), (6, 1, (.k (.c (.bool true)))), (8, 1, (.k (.c (.fn 72 [] []))))], none, true, []⟩,
 ⟨none, .stn 9 (.t 2) (.t 70), none, true, []⟩,
 ⟨some 3, .mv (.k (.c (.bool true))), none, true, []⟩]
def C46r38 : List AOper := [⟨some 71, .build [.c (.str ⟨#[]⟩), .c (.bool false), .c (.bool false), .c (.bool false), .c (.int .i64 0), .c (.bool false), .c (.bool false), .c (.bool false), .c (.nilfn)] [], none, true, []⟩,
 ⟨none, .stn 9 (.t 2) (.t 71), none, true, []⟩,
 ⟨some 3, .mv (.k (.c (.bool false))), none, true, []⟩]
def C46 : ACode :=
 .seq (.region C46r0)
 (.seq (.seq (.region C46r1)
 (.block 0
 (.seq (.region C46r2)
 (.cond (.t 5)
 (.seq (.region C46r3)
 (.ret))
 (.seq (.region C46r4)
 (.cond (.t 8)
 (.seq (.region C46r5)
 (.ret))
 (.seq (.region C46r6)
 (.cond (.t 12)
 (.seq (.region C46r7)
 (.ret))
 (.seq (.region C46r8)
 (.cond (.t 16)
 (.seq (.region C46r9)
 (.ret))
 (.seq (.region C46r10)
 (.cond (.t 19)
 (.seq (.region C46r11)
 (.ret))
 (.seq (.region C46r12)
 (.cond (.t 22)
 (.seq (.region C46r13)
 (.ret))
 (.seq (.region C46r14)
 (.cond (.t 26)
 (.seq (.region C46r15)
 (.ret))
 (.seq (.region C46r16)
 (.cond (.t 30)
 (.seq (.region C46r17)
 (.ret))
 (.seq (.region C46r18)
 (.cond (.t 33)
 (.seq (.region C46r19)
 (.ret))
 (.seq (.region C46r20)
 (.cond (.t 38)
 (.seq (.region C46r21)
 (.ret))
 (.seq (.region C46r22)
 (.cond (.t 43)
 (.seq (.region C46r23)
 (.ret))
 (.seq (.region C46r24)
 (.cond (.t 48)
 (.seq (.region C46r25)
 (.ret))
 (.seq (.region C46r26)
 (.cond (.t 53)
 (.seq (.region C46r27)
 (.ret))
 (.seq (.region C46r28)
 (.cond (.t 56)
 (.seq (.region C46r29)
 (.ret))
 (.seq (.region C46r30)
 (.cond (.t 59)
 (.seq (.region C46r31)
 (.ret))
 (.seq (.region C46r32)
 (.cond (.t 62)
 (.seq (.region C46r33)
 (.ret))
 (.seq (.region C46r34)
 (.cond (.t 65)
 (.seq (.region C46r35)
 (.ret))
 (.seq (.region C46r36)
 (.cond (.t 68)
 (.seq (.region C46r37)
 (.ret))
 (.skip)))))))))))))))))))))))))))))))))))))))
 (.seq (.region C46r38)
 (.ret)))
theorem C46_ok : stripF Try.prog Try.f46 = some C46 := by kernel_rfl
def C54r0 : List AOper := [⟨some 2, .box 39 (.t 0), none, true, []⟩,
 ⟨some 4, .mv (.k (.c (.bool false))), none, true, []⟩]
def C54r1 : List AOper := [⟨some 10, .faddr (.t 2) 0, none, true, []⟩,
 ⟨some 11, .ld1 (.t 10), none, true, []⟩,
 ⟨some 12, .call (.k (.c (.fn 46 [] []))) [(.t 11)], none, true, []⟩,
 ⟨some 9, .mv (.t 12), none, true, []⟩,
 ⟨some 13, .ext (.t 9) 0, none, true, []⟩,
 ⟨some 14, .ext (.t 9) 1, none, true, []⟩,
 ⟨some 5, .alloc 79 [.c (.str ⟨#[]⟩), .c (.bool false), .c (.bool false), .c (.bool false), .c (.int .i64 0), .c (.bool false), .c (.bool false), .c (.bool false), .c (.nilfn)], none, true, []⟩,
 ⟨none, .stn 9 (.t 5) (.t 13), none, true, []⟩,
 ⟨some 6, .mv (.t 14), none, true, []⟩]
def C54r2 : List AOper := [⟨some 15, .mv (.t 6), none, true, []⟩,
 ⟨some 16, .un .not (.t 15), none, true, []⟩,
 ⟨some 17, .mv (.t 16), none, true, []⟩,
 ⟨some 18, .faddr (.t 5) 8, some (17, false), true, []⟩,
 ⟨some 19, .ld1 (.t 18), some (17, false), true, []⟩,
 ⟨some 20, .ldn 6 (.t 2), some (17, false), true, []⟩,
 ⟨some 21, .call (.t 19) [(.t 20)], some (17, false), true, []⟩,
 ⟨some 22, .un .not (.t 21), some (17, false), true, []⟩,
 ⟨some 23, .pick 17 (.k (.c (.bool true))) (.t 22), none, true, []⟩,
 ⟨some 24, .mv (.t 23), none, true, []⟩,
 ⟨some 25, .faddr (.t 5) 1, some (24, false), true, []⟩,
 ⟨some 26, .ld1 (.t 25), some (24, false), true, []⟩,
 ⟨some 27, .un .not (.t 26), some (24, false), true, []⟩,
 ⟨some 28, .mv (.t 27), some (24, false), true, []⟩,
 ⟨some 29, .faddr (.t 2) 1, some (28, true), true, []⟩,
 ⟨some 30, .ld1 (.t 29), some (28, true), true, []⟩,
 ⟨some 31, .bin .neq (.t 30) (.k (.c (.int .i64 0))), some (28, true), true, []⟩,
 ⟨some 32, .pick 28 (.t 31) (.k (.c (.bool false))), some (24, false), true, []⟩,
 ⟨some 33, .pick 24 (.k (.c (.bool true))) (.t 32), none, true, []⟩,
 ⟨some 34, .mv (.t 33), none, true, []⟩,
 ⟨some 35, .faddr (.t 5) 2, some (34, false), true, []⟩,
 ⟨some 36, .ld1 (.t 35), some (34, false), true, []⟩,
 ⟨some 37, .un .not (.t 36), some (34, false), true, []⟩,
 ⟨some 38, .mv (.t 37), some (34, false), true, []⟩,
 ⟨some 39, .faddr (.t 2) 5, some (38, true), true, []⟩,
 ⟨some 40, .ld1 (.t 39), some (38, true), true, []⟩,
 ⟨some 41, .bin .neq (.t 40) (.k (.c (.int .u64 0))), some (38, true), true, []⟩,
 ⟨some 42, .pick 38 (.t 41) (.k (.c (.bool false))), some (34, false), true, []⟩,
 ⟨some 43, .pick 34 (.k (.c (.bool true))) (.t 42), none, true, []⟩,
 ⟨some 44, .mv (.t 43), none, true, []⟩,
 ⟨some 45, .faddr (.t 5) 3, some (44, false), true, []⟩,
 ⟨some 46, .ld1 (.t 45), some (44, false), true, []⟩,
 ⟨some 47, .un .not (.t 46), some (44, false), true, []⟩,
 ⟨some 48, .mv (.t 47), some (44, false), true, []⟩,
 ⟨some 49, .faddr (.t 2) 4, some (48, true), true, []⟩,
 ⟨some 50, .ld1 (.t 49), some (48, true), true, []⟩,
 ⟨some 51, .bin .neq (.t 50) (.k (.c (.int .i64 0))), some (48, true), true, []⟩,
 ⟨some 52, .pick 48 (.t 51) (.k (.c (.bool false))), some (44, false), true, []⟩,
 ⟨some 53, .pick 44 (.k (.c (.bool true))) (.t 52), none, true, []⟩,
 ⟨some 54, .mv (.t 53), none, true, []⟩,
 ⟨some 55, .faddr (.t 5) 4, some (54, false), true, []⟩,
 ⟨some 56, .ld1 (.t 55), some (54, false), true, []⟩,
 ⟨some 57, .bin .lss (.t 56) (.k (.c (.int .i64 1))), some (54, false), true, []⟩,
 ⟨some 58, .mv (.t 57), some (54, false), true, []⟩,
 ⟨some 59, .faddr (.t 2) 2, some (58, true), true, []⟩,
 ⟨some 60, .ld1 (.t 59), some (58, true), true, []⟩,
 ⟨some 61, .bin .neq (.t 60) (.k (.c (.int .i64 0))), some (58, true), true, []⟩,
 ⟨some 62, .pick 58 (.t 61) (.k (.c (.bool false))), some (54, false), true, []⟩,
 ⟨some 63, .pick 54 (.k (.c (.bool true))) (.t 62), none, true, []⟩,
 ⟨some 64, .mv (.t 63), none, true, []⟩,
 ⟨some 65, .faddr (.t 5) 4, some (64, false), true, []⟩,
 ⟨some 66, .ld1 (.t 65), some (64, false), true, []⟩,
 ⟨some 67, .bin .lss (.t 66) (.k (.c (.int .i64 2))), some (64, false), true, []⟩,
 ⟨some 68, .mv (.t 67), some (64, false), true, []⟩,
 ⟨some 69, .faddr (.t 2) 3, some (68, true), true, []⟩,
 ⟨some 70, .ld1 (.t 69), some (68, true), true, []⟩,
 ⟨some 71, .bin .neq (.t 70) (.k (.c (.int .i64 0))), some (68, true), true, []⟩,
 ⟨some 72, .pick 68 (.t 71) (.k (.c (.bool false))), some (64, false), true, []⟩,
 ⟨some 73, .pick 64 (.k (.c (.bool true))) (.t 72), none, true, []⟩]
def C54r3 : List AOper := [⟨some 4, .mv (.k (.c (.bool false))), none, true, []⟩]
def C54r4 : List AOper := [⟨some 74, .ldn 6 (.t 2), none, true, []⟩,
 ⟨some 75, .call (.k (.c (.fn 21 [] []))) [(.t 74)], none, true, []⟩,
 ⟨some 76, .len false (.t 75), none, true, []⟩,
 ⟨some 77, .mv (.k (.c (.int .i64 0))), none, true, []⟩]
def C54r5 : List AOper := [⟨some 78, .bin .lss (.t 77) (.t 76), none, true, []⟩]
def C54r6 : List AOper := [⟨some 79, .iaddr 1 (.t 75) (.t 77), none, true, []⟩,
 ⟨some 80, .ld1 (.t 79), none, true, []⟩,
 ⟨some 8, .mv (.t 80), none, true, []⟩]
def C54r7 : List AOper := [⟨some 81, .mv (.t 8), none, true, []⟩,
 ⟨some 82, .bin .lss (.t 81) (.k (.c (.int .i64 0))), none, true, []⟩,
 ⟨some 83, .mv (.t 82), none, true, []⟩,
 ⟨some 84, .mv (.t 8), some (83, false), true, []⟩,
 ⟨some 85, .mv (.t 1), some (83, false), true, []⟩,
 ⟨some 86, .len false (.t 85), some (83, false), true, []⟩,
 ⟨some 87, .bin .geq (.t 84) (.t 86), some (83, false), true, []⟩,
 ⟨some 88, .pick 83 (.k (.c (.bool true))) (.t 87), none, true, []⟩,
 ⟨some 89, .mv (.t 88), none, true, []⟩,
 ⟨some 90, .mv (.t 1), some (89, false), true, []⟩,
 ⟨some 91, .mv (.t 8), some (89, false), true, []⟩,
 ⟨some 92, .iaddr 6 (.t 90) (.t 91), some (89, false), true, []⟩,
 ⟨some 93, .ldn 6 (.t 92), some (89, false), true, []⟩,
 ⟨some 94, .call (.k (.c (.fn 57 [] []))) [(.t 93)], some (89, false), true, []⟩,
 ⟨some 95, .un .not (.t 94), some (89, false), true, []⟩,
 ⟨some 96, .pick 89 (.k (.c (.bool true))) (.t 95), none, true, []⟩]
def C54r8 : List AOper := [⟨some 4, .mv (.k (.c (.bool false))), none, true, []⟩]
def C54r9 : List AOper := [⟨some 97, .bin .add (.t 77) (.k (.c (.int .i64 1))), none, true, []⟩,
 ⟨some 77, .mv (.t 97), none, true, []⟩]
def C54r10 : List AOper := [⟨some 4, .mv (.k (.c (.bool true))), none, true, []⟩]
def C54 : ACode :=
 .seq (.region C54r0)
 (.seq (.region C54r1)
 (.seq (.seq (.region C54r2)
 (.cond (.t 73)
 (.seq (.region C54r3)
 (.ret))
 (.skip)))
 (.seq (.seq (.region C54r4)
 (.block 0
 (.loop
 (.seq (.region C54r5)
 (.seq (.cond (.t 78)
 (.skip)
 (.exit 0))
 (.seq (.block 1
 (.seq (.region C54r6)
 (.seq (.region C54r7)
 (.cond (.t 96)
 (.seq (.region C54r8)
 (.ret))
 (.skip)))))
 (.region C54r9)))))))
 (.seq (.region C54r10)
 (.ret)))))
theorem C54_ok : stripF Try.prog Try.f54 = some C54 := by kernel_rfl
def C57r0 : List AOper := [⟨some 1, .box 39 (.t 0), none, true, []⟩,
 ⟨some 2, .mv (.k (.c (.bool false))), none, true, []⟩]
def C57r1 : List AOper := [⟨some 6, .faddr (.t 1) 0, none, true, []⟩,
 ⟨some 7, .ld1 (.t 6), none, true, []⟩,
 ⟨some 8, .call (.k (.c (.fn 46 [] []))) [(.t 7)], none, true, []⟩,
 ⟨some 5, .mv (.t 8), none, true, []⟩,
 ⟨some 9, .ext (.t 5) 0, none, true, []⟩,
 ⟨some 10, .ext (.t 5) 1, none, true, []⟩,
 ⟨some 3, .alloc 79 [.c (.str ⟨#[]⟩), .c (.bool false), .c (.bool false), .c (.bool false), .c (.int .i64 0), .c (.bool false), .c (.bool false), .c (.bool false), .c (.nilfn)], none, true, []⟩,
 ⟨none, .stn 9 (.t 3) (.t 9), none, true, []⟩,
 ⟨some 4, .mv (.t 10), none, true, []⟩]
def C57r2 : List AOper := [⟨some 11, .faddr (.t 3) 5, none, true, []⟩,
 ⟨some 12, .ld1 (.t 11), none, true, []⟩,
 ⟨some 2, .mv (.t 12), none, true, []⟩]
def C57 : ACode :=
 .seq (.region C57r0)
 (.seq (.region C57r1)
 (.seq (.region C57r2)
 (.ret)))
theorem C57_ok : stripF Try.prog Try.f57 = some C57 := by kernel_rfl
def C66r0 : List AOper := [⟨some 1, .box 39 (.t 0), none, true, []⟩,
 ⟨some 2, .mv (.k (.c (.bool false))), none, true, []⟩]
def C66r1 : List AOper := [⟨some 2, .mv (.k (.c (.bool true))), none, true, []⟩]
def C66 : ACode :=
 .seq (.region C66r0)
 (.seq (.region C66r1)
 (.ret))
theorem C66_ok : stripF Try.prog Try.f66 = some C66 := by kernel_rfl
def C67r0 : List AOper := [⟨some 1, .box 3 (.t 0), none, true, []⟩,
 ⟨some 2, .mv (.k (.c (.nilfn))), none, true, []⟩]
def C67r1 : List AOper := [⟨some 3, .mkfn 98 [] [(.t 1)], none, true, []⟩,
 ⟨some 2, .mv (.t 3), none, true, []⟩]
def C67 : ACode :=
 .seq (.region C67r0)
 (.seq (.region C67r1)
 (.ret))
theorem C67_ok : stripF Try.prog Try.f67 = some C67 := by kernel_rfl
def C68r0 : List AOper := [⟨some 1, .box 39 (.t 0), none, true, []⟩,
 ⟨some 2, .mv (.k (.c (.bool false))), none, true, []⟩]
def C68r1 : List AOper := [⟨some 3, .faddr (.t 1) 1, none, true, []⟩,
 ⟨some 4, .ld1 (.t 3), none, true, []⟩,
 ⟨some 5, .bin .geq (.t 4) (.k (.c (.int .i64 1))), none, true, []⟩,
 ⟨some 6, .mv (.t 5), none, true, []⟩,
 ⟨some 7, .faddr (.t 1) 1, some (6, true), true, []⟩,
 ⟨some 8, .ld1 (.t 7), some (6, true), true, []⟩,
 ⟨some 9, .bin .leq (.t 8) (.k (.c (.int .i64 15))), some (6, true), true, []⟩,
 ⟨some 10, .pick 6 (.t 9) (.k (.c (.bool false))), none, true, []⟩,
 ⟨some 2, .mv (.t 10), none, true, []⟩]
def C68 : ACode :=
 .seq (.region C68r0)
 (.seq (.region C68r1)
 (.ret))
theorem C68_ok : stripF Try.prog Try.f68 = some C68 := by kernel_rfl
def C69r0 : List AOper := [⟨some 1, .box 59 (.t 0), none, true, []⟩,
 ⟨some 2, .mv (.k (.c (.nilfn))), none, true, []⟩]
def C69r1 : List AOper := [⟨some 3, .mkfn 99 [] [(.t 1)], none, true, []⟩,
 ⟨some 2, .mv (.t 3), none, true, []⟩]
def C69 : ACode :=
 .seq (.region C69r0)
 (.seq (.region C69r1)
 (.ret))
theorem C69_ok : stripF Try.prog Try.f69 = some C69 := by kernel_rfl
def C70r0 : List AOper := [⟨some 1, .box 39 (.t 0), none, true, []⟩,
 ⟨some 2, .mv (.k (.c (.bool false))), none, true, []⟩]
def C70r1 : List AOper := [⟨some 3, .faddr (.t 1) 1, none, true, []⟩,
 ⟨some 4, .ld1 (.t 3), none, true, []⟩,
 ⟨some 5, .bin .eql (.t 4) (.k (.c (.int .i64 13))), none, true, []⟩,
 ⟨some 6, .mv (.t 5), none, true, []⟩,
 ⟨some 7, .faddr (.t 1) 1, some (6, false), true, []⟩,
 ⟨some 8, .ld1 (.t 7), some (6, false), true, []⟩,
 ⟨some 9, .bin .eql (.t 8) (.k (.c (.int .i64 10))), some (6, false), true, []⟩,
 ⟨some 10, .pick 6 (.k (.c (.bool true))) (.t 9), none, true, []⟩,
 ⟨some 11, .mv (.t 10), none, true, []⟩,
 ⟨some 12, .faddr (.t 1) 1, some (11, false), true, []⟩,
 ⟨some 13, .ld1 (.t 12), some (11, false), true, []⟩,
 ⟨some 14, .bin .eql (.t 13) (.k (.c (.int .i64 15))), some (11, false), true, []⟩,
 ⟨some 15, .pick 11 (.k (.c (.bool true))) (.t 14), none, true, []⟩,
 ⟨some 2, .mv (.t 15), none, true, []⟩]
def C70 : ACode :=
 .seq (.region C70r0)
 (.seq (.region C70r1)
 (.ret))
theorem C70_ok : stripF Try.prog Try.f70 = some C70 := by kernel_rfl
def C71r0 : List AOper := [⟨some 1, .box 39 (.t 0), none, true, []⟩,
 ⟨some 2, .mv (.k (.c (.bool false))), none, true, []⟩]
def C71r1 : List AOper := [⟨some 3, .faddr (.t 1) 5, none, true, []⟩,
 ⟨some 4, .ld1 (.t 3), none, true, []⟩,
 ⟨some 5, .bin .and (.t 4) (.k (.c (.int .u64 3))), none, true, []⟩,
 ⟨some 6, .bin .eql (.t 5) (.k (.c (.int .u64 0))), none, true, []⟩,
 ⟨some 2, .mv (.t 6), none, true, []⟩]
def C71 : ACode :=
 .seq (.region C71r0)
 (.seq (.region C71r1)
 (.ret))
theorem C71_ok : stripF Try.prog Try.f71 = some C71 := by kernel_rfl
def C72r0 : List AOper := [⟨some 1, .box 39 (.t 0), none, true, []⟩,
 ⟨some 2, .mv (.k (.c (.bool false))), none, true, []⟩]
def C72r1 : List AOper := [⟨some 3, .faddr (.t 1) 5, none, true, []⟩,
 ⟨some 4, .ld1 (.t 3), none, true, []⟩,
 ⟨some 5, .bin .shr (.t 4) (.k (.c (.int .u64 32))), none, true, []⟩,
 ⟨some 6, .bin .eql (.t 5) (.k (.c (.int .u64 0))), none, true, []⟩,
 ⟨some 2, .mv (.t 6), none, true, []⟩]
def C72 : ACode :=
 .seq (.region C72r0)
 (.seq (.region C72r1)
 (.ret))
theorem C72_ok : stripF Try.prog Try.f72 = some C72 := by kernel_rfl
def C98r0 : List AOper := [⟨some 2, .box 39 (.t 0), none, true, []⟩,
 ⟨some 3, .mv (.k (.c (.bool false))), none, true, []⟩]
def C98r1 : List AOper := [⟨some 4, .faddr (.t 2) 1, none, true, []⟩,
 ⟨some 5, .ld1 (.t 4), none, true, []⟩,
 ⟨some 6, .bin .geq (.t 5) (.k (.c (.int .i64 0))), none, true, []⟩,
 ⟨some 7, .mv (.t 6), none, true, []⟩,
 ⟨some 8, .faddr (.t 2) 1, some (7, true), true, []⟩,
 ⟨some 9, .ld1 (.t 8), some (7, true), true, []⟩,
 ⟨some 10, .ld1 (.t 1), some (7, true), true, []⟩,
 ⟨some 11, .bin .leq (.t 9) (.t 10), some (7, true), true, []⟩,
 ⟨some 12, .pick 7 (.t 11) (.k (.c (.bool false))), none, true, []⟩,
 ⟨some 3, .mv (.t 12), none, true, []⟩]
def C98 : ACode :=
 .seq (.region C98r0)
 (.seq (.region C98r1)
 (.ret))
theorem C98_ok : stripF Try.prog Try.f98 = some C98 := by kernel_rfl
def C99r0 : List AOper := [⟨some 2, .box 39 (.t 0), none, true, []⟩,
 ⟨some 3, .mv (.k (.c (.bool false))), none, true, []⟩]
def C99r1 : List AOper := [⟨some 6, .ld1 (.t 1), none, true, []⟩,
 ⟨some 7, .len false (.t 6), none, true, []⟩,
 ⟨some 8, .mv (.k (.c (.int .i64 0))), none, true, []⟩]
def C99r2 : List AOper := [⟨some 9, .bin .lss (.t 8) (.t 7), none, true, []⟩]
def C99r3 : List AOper := [⟨some 10, .iaddr 1 (.t 6) (.t 8), none, true, []⟩,
 ⟨some 11, .ld1 (.t 10), none, true, []⟩,
 ⟨some 5, .mv (.t 11), none, true, []⟩]
def C99r4 : List AOper := [⟨some 12, .faddr (.t 2) 4, none, true, []⟩,
 ⟨some 13, .ld1 (.t 12), none, true, []⟩,
 ⟨some 14, .mv (.t 5), none, true, []⟩,
 ⟨some 15, .bin .eql (.t 13) (.t 14), none, true, []⟩]
def C99r5 : List AOper := [⟨some 3, .mv (.k (.c (.bool true))), none, true, []⟩]
def C99r6 : List AOper := [⟨some 16, .bin .add (.t 8) (.k (.c (.int .i64 1))), none, true, []⟩,
 ⟨some 8, .mv (.t 16), none, true, []⟩]
def C99r7 : List AOper := [⟨some 3, .mv (.k (.c (.bool false))), none, true, []⟩]
def C99 : ACode :=
 .seq (.region C99r0)
 (.seq (.seq (.region C99r1)
 (.block 0
 (.loop
 (.seq (.region C99r2)
 (.seq (.cond (.t 9)
 (.skip)
 (.exit 0))
 (.seq (.block 1
 (.seq (.region C99r3)
 (.seq (.region C99r4)
 (.cond (.t 15)
 (.seq (.region C99r5)
 (.ret))
 (.skip)))))
 (.region C99r6)))))))
 (.seq (.region C99r7)
 (.ret)))
theorem C99_ok : stripF Try.prog Try.f99 = some C99 := by kernel_rfl
end Go.Proofs.Ytmbnakinhnkabaa

namespace Go.AM
set_option linter.unusedVariables false
set_option linter.unusedSimpArgs false
variable {P : Program}

def Emb.ins (φ : Emb) (n : Nat) (p : Place) : Emb := fun i => if i = n then some p else φ i
theorem Emb.le_ins {φ : Emb} {n : Nat} {p : Place} (h : φ n = none) : φ.le (φ.ins n p) := fun i q hq => by
  unfold Emb.ins
  split
  · rename_i e; subst e; rw [h] at hq; cases hq
  · exact hq
theorem Emb.ins_self (φ : Emb) (n : Nat) (p : Place) : φ.ins n p n = some p := by simp [Emb.ins]

structure Gets (φ : Emb) (s : St) (π : Path) (a : Act) : Prop where
  get : ∀ x y, opd x = some y → relA φ (s.get π y) (a.eval x)
  sel : ∀ cs x y want c, opd x = some y → s.get π (.t cs) = .c (.bool c) → c = want → relA φ (getsl s π cs y want) (a.eval x)
  cs : ∀ cs, relA φ (s.get π (.t cs)) (a.tmps.getD cs undef)

abbrev Reads (φ : Emb) (H : Heap) (w : World) : Prop := ∀ i B p, getB H.blks i = some B → φ i = some p → BRel φ B p w

theorem cvOf_rel (φ : Emb) {v : Value} {c : CV} (h : cvOf v = some c) : rel φ c v := by
  unfold cvOf at h
  split at h
  case h_9 f a b =>
    split at h
    · rename_i h1 h2
      simp only [Option.some.injEq] at h
      subst h
      exact ⟨a, b, rfl, by rw [h1]; exact .nil, by rw [h2]; exact .nil⟩
    · simp at h
  all_goals (simp only [Option.some.injEq, reduceCtorEq] at h)
  all_goals (subst h; rfl)

theorem cvsOf_rel (φ : Emb) : ∀ (l : List Value) (m : List CV), cvsOf l = some m → F2 (rel φ) m l
  | [], m, h => by simp [cvsOf] at h; subst h; exact .nil
  | v :: r, m, h => by
    simp only [cvsOf] at h
    cases h1 : cvOf v with
    | none => simp [h1] at h
    | some c =>
      cases h2 : cvsOf r with
      | none => simp [h1, h2] at h
      | some l =>
        simp only [h1, h2, Option.some.injEq] at h
        subst h
        exact .cons (cvOf_rel φ h1) (cvsOf_rel φ r l h2)

theorem flat_map_c (l : List CV) : flat (l.map Seg.c) = l := by
  induction l with
  | nil => rfl
  | cons v r ih => simp [flat, Seg.flat, ih]

theorem opd_const (φ : Emb) {v : Value} {y : Opd} (h : opd (.const v) = some y) : ∃ u, y = .k u ∧ relA φ u v := by
  unfold opd at h
  split at h
  · simp at *
  · rename_i cs heq
    simp only [Operand.const.injEq] at heq
    subst heq
    cases hc : cvsOf cs.toList with
    | none => simp [hc] at h
    | some l =>
      simp only [hc, Option.map_some, Option.some.injEq] at h
      exact ⟨_, h.symm, cs, rfl, by rw [flat_map_c]; exact cvsOf_rel φ _ _ hc⟩
  · rename_i v' _ heq
    simp only [Operand.const.injEq] at heq
    subst heq
    cases hc : cvOf v with
    | none => simp [hc] at h
    | some c =>
      simp only [hc, Option.map_some, Option.some.injEq] at h
      exact ⟨_, h.symm, cvOf_rel φ hc⟩
  · simp at *
  · simp at *

theorem opd_func (φ : Emb) {f : FuncId} {y : Opd} (h : opd (.func f) = some y) : ∃ u, y = .k u ∧ relA φ u (.func (.func f) #[] #[]) := by
  simp only [opd, Option.some.injEq] at h
  exact ⟨_, h.symm, ⟨#[], #[], rfl, .nil, .nil⟩⟩

theorem zeroOf_rel (φ : Emb) {t : TypeId} {l : List Seg} (h : zeroOf P t = some l) :
    ∃ i z, P.info? t = some i ∧ i.zero = some z ∧ F2 (rel φ) (flat l) z.cells.toList := by
  unfold zeroOf at h
  split at h
  · rename_i i hi
    split at h
    · rename_i z hz
      split at h
      · rename_i sh cs _ hc
        split at h
        · rename_i l' _
          split at h
          · rename_i he
            simp only [Option.some.injEq] at h
            subst h
            exact ⟨i, z, hi, hz, by rw [eqL_eq he]; exact cvsOf_rel φ _ _ hc⟩
          · simp at h
        · simp at h
      · simp at h
    · simp at h
  · simp at h

theorem run_zeroValue {t : TypeId} {i : TypeInfo} {z : Value} (hi : P.info? t = some i) (hz : i.zero = some z) (w : World) : (zeroValue t).run P w = .ok z w := by
  simp [zeroValue, typeInfo, hi, hz, go_sem]
theorem run_underlying' {t : TypeId} {d : TypeDesc} (h : P.underlying t = some d) (w : World) : (underlying t).run P w = .ok d w := by
  simp [underlying, h, go_sem]
theorem run_sizeOf {t : TypeId} {n : Nat} (h : sizeT P t = some n) (w : World) : (sizeOf t).run P w = .ok n w := by
  unfold sizeT at h
  simp only [Option.map_eq_some_iff] at h
  obtain ⟨i, hi, rfl⟩ := h
  simp [sizeOf, typeInfo, hi, go_sem]
theorem run_isAgg {t : TypeId} {b : Bool} (h : aggT P t = some b) (w : World) : (isAgg t).run P w = .ok b w := by
  unfold aggT at h
  unfold isAgg
  split at h <;> simp only [Option.some.injEq, reduceCtorEq] at h <;> subst h <;> rename_i hu
  · simp [go_sem, run_underlying' hu]
  · simp [go_sem, run_underlying' hu]
  · rename_i d _ _
    cases d <;> simp_all [go_sem, run_underlying' hu]

end Go.AM

namespace Go.AM
set_option linter.unusedVariables false
set_option linter.unusedSimpArgs false
variable {P : Program} {φ : Emb} {H : Heap} {w : World}

theorem ld1_ok (hR : Reads φ H w) {a : AA} {need : Option Prop} {v : AV} {B' : Option Blk} (h : ld1 H a = .p need v B') (hn : needP need) {p : Place} (hp : φ a.id = some p) :
    B' = none ∧ ∃ x, w.cell? (p.at a) = some x ∧ relA φ v x := by
  unfold ld1 at h
  cases hB : getB H.blks a.id with
  | none => simp [hB] at h
  | some B =>
    simp only [hB] at h
    cases hr : rowNeed B a.idx with
    | none => simp [hr] at h
    | some nd =>
      simp only [hr] at h
      have hb := hR _ _ _ hB hp
      cases hs : segAt (B.row a.idx) a.off with
      | none => simp [hs] at h
      | some sg =>
        simp only [hs] at h
        cases sg with
        | c cv =>
          simp only at h
          cases hz : Nat.beq a.sub 0 with
          | false => simp [hz] at h
          | true =>
            simp only [hz, Res.p.injEq] at h
            obtain ⟨rfl, rfl, rfl⟩ := h
            refine ⟨rfl, ?_⟩
            have hsub := Nat.eq_of_beq_eq_true hz
            have hi := rowNeed_lt hr hn
            have hf := segAt_flat _ _ _ hs 0 (by simp [Seg.size])
            obtain ⟨x, hx, hrel⟩ := hb.cell hi (o := a.off) (v := cv) (by simpa [Seg.flat] using hf)
            exact ⟨x, by simpa [Place.at, hsub] using hx, hrel⟩
        | a n f =>
          simp only [Res.p.injEq] at h
          obtain ⟨rfl, rfl, rfl⟩ := h
          refine ⟨rfl, ?_⟩
          have hi := rowNeed_lt hr (andN_left hn)
          have hlt : a.sub < n := andN_right hn
          have hf := segAt_flat _ _ _ hs a.sub (by simpa [Seg.size] using hlt)
          obtain ⟨x, hx, hrel⟩ := hb.cell hi (o := a.off + a.sub) (v := f a.sub) (by rw [hf]; simp [Seg.flat, hlt])
          exact ⟨x, by simpa [Place.at, Nat.add_assoc] using hx, hrel⟩

theorem ldn_ok (hR : Reads φ H w) {a : AA} {m : Nat} {need : Option Prop} {v : AV} {B' : Option Blk} (h : ldn H m a = .p need v B') (hn : needP need) {p : Place} (hp : φ a.id = some p) :
    B' = none ∧ ∃ xs : List Value, xs.length = m ∧ (∀ j x, xs[j]? = some x → w.cell? ((p.at a).add j) = some x) ∧ ∃ l, v = .agg l ∧ F2 (rel φ) (flat l) xs := by
  unfold ldn at h
  cases hB : getB H.blks a.id with
  | none => simp [hB] at h
  | some B =>
    simp only [hB] at h
    cases hr : rowNeed B a.idx with
    | none => simp [hr] at h
    | some nd =>
      simp only [hr] at h
      have hb := hR _ _ _ hB hp
      cases hz : Nat.beq a.sub 0 with
      | false => simp [hz] at h
      | true =>
        simp only [hz] at h
        cases hc : cut (B.row a.idx) a.off m with
        | none => simp [hc] at h
        | some l =>
          simp only [hc, Res.p.injEq] at h
          obtain ⟨rfl, rfl, rfl⟩ := h
          have hsub := Nat.eq_of_beq_eq_true hz
          have hi := rowNeed_lt hr hn
          obtain ⟨xs, h1, h2, h3⟩ := hb.rows _ hi
          obtain ⟨hf, hsz⟩ := cut_flat hc
          have hF := (h1.drop a.off).take m
          rw [← hf] at hF
          refine ⟨rfl, (xs.drop a.off).take m, by rw [← hF.length, flat_length, hsz], fun j x hx => ?_, l, rfl, hF⟩
          rw [List.getElem?_take] at hx
          split at hx
          · rename_i hj
            rw [List.getElem?_drop] at hx
            have := h3 _ _ hx
            have he : (p.at a).add j = ⟨p.blk, p.base + p.str * a.idx + (a.off + j), none⟩ := by
              unfold Addr.add Place.at
              split
              · rename_i h0; subst h0; simp [hsub]
              · simp [hsub, Nat.add_assoc]
            rw [he]; exact this
          · simp at hx

theorem run_ld1 {t : TypeId} (ht : aggT P t = some false) {a : Addr} {x : Value} (h : w.cell? a = some x) : (Instr.loadAt t (.pointer (some a))).run P w = .ok x w := by
  simp [Instr.loadAt, Instr.sureAddr, loadVar, go_sem, run_isAgg ht, h]
theorem run_ldn {t : TypeId} (ht : aggT P t = some true) {n : Nat} (hs : sizeT P t = some n) {a : Addr} {xs : List Value} (hl : xs.length = n) (h : ∀ j x, xs[j]? = some x → w.cell? (a.add j) = some x) :
    (Instr.loadAt t (.pointer (some a))).run P w = .ok (.agg xs.toArray) w := by
  subst hl
  simp only [Instr.loadAt, Instr.sureAddr, loadVar, Sem.run_bind, Sem.run_pure, Result.andThen_ok, run_isAgg ht, if_true, run_sizeOf hs, run_loadCells_list w a xs h]

theorem eqGuard_int (op : BinOp) (t : TypeId) (x y : Operand) (k : IntKind) (m : Int) (b : Value) : (eqGuard op t x y (.int k m) b).run P w = .ok () w := by
  cases op <;> simp [eqGuard, go_sem]
theorem eqGuard_bool (op : BinOp) (t : TypeId) (x y : Operand) (m : Bool) (b : Value) : (eqGuard op t x y (.bool m) b).run P w = .ok () w := by
  cases op <;> simp [eqGuard, go_sem]

theorem eqGuard_str (op : BinOp) (t : TypeId) (x y : Operand) (m : ByteArray) (b : Value) : (eqGuard op t x y (.string m) b).run P w = .ok () w := by
  cases op <;> simp [eqGuard, go_sem]

theorem bin_int (t : TypeId) (op : BinOp) (k k' : IntKind) (m n : Int) {need : Option Prop} {v : AV} {B : Option Blk} (h : bin op (.c (.int k m)) (.c (.int k' n)) = .p need v B) (hn : needP need) :
    B = none ∧ ∃ x, (binOp op t (.int k m) (.int k' n)).run P w = .ok x w ∧ relA φ v x := by
  have hs : ∀ op', (op' = .shl ∨ op' = .shr) → ∀ need v B, shiftR op' k m n = .p need v B → needP need → B = none ∧ ∃ x, (binOp op' t (.int k m) (.int k' n)).run P w = .ok x w ∧ relA φ v x := by
    intro op' ho need v B h hn
    rcases ho with rfl | rfl <;> simp only [shiftR, Res.p.injEq] at h <;> obtain ⟨rfl, rfl, rfl⟩ := h <;> refine ⟨rfl, _, ?_, rfl⟩ <;>
      (have h0 : ¬ n < 0 := by simp only [needP] at hn; omega) <;> simp [binOp, Op.shift, h0, go_sem]
  cases op <;> simp only [bin, isShift] at h
  case shl => exact hs _ (.inl rfl) _ _ _ h hn
  case shr => exact hs _ (.inr rfl) _ _ _ h hn
  all_goals
    cases hk : sameK k k' with
    | false => simp [hk] at h
    | true =>
      have := sameK_eq hk
      subst this
      simp only [hk, arith, Res.p.injEq, reduceCtorEq] at h
      try (obtain ⟨rfl, rfl, rfl⟩ := h; refine ⟨rfl, _, ?_, rfl⟩)
      try (simp only [needP] at hn)
      first
        | (simp [binOp, Op.intArith, Op.intBits, Op.intCmp, go_sem]; done)
        | (simp [binOp, Op.intDiv, hn, go_sem]; done)
        | skip

end Go.AM

namespace Go.AM
set_option linter.unusedVariables false
set_option linter.unusedSimpArgs false
variable {P : Program} {φ : Emb} {H : Heap} {w : World}

theorem heap_alloc_self (w : World) (o : Obj) : (w.alloc o).heap[w.heap.size]? = some o := by
  show (w.heap.push o)[w.heap.size]? = some o
  simp
theorem heap_alloc_lt (w : World) (o : Obj) {b : Nat} (h : b < w.heap.size) : (w.alloc o).heap[b]? = w.heap[b]? := by
  show (w.heap.push o)[b]? = w.heap[b]?
  simp [Array.getElem?_push, Nat.ne_of_lt h]
theorem cell_alloc_new (w : World) (cs : Array Value) (t : TypeId) (i : Nat) : (w.alloc (.cells cs t)).cell? ⟨w.heap.size, i, none⟩ = cs[i]? := by
  unfold World.cell?
  rw [heap_alloc_self]
  simp

theorem brel_new {B : Blk} {cs : Array Value} {c : Nat} (hm : 0 < B.n ∨ B.str ≠ 0) (hn : B.n ≤ c) (hc : c ≤ 9223372036854775807) (hsz : cs.size = B.str * c)
    (hrows : ∀ i, i < B.n → ∃ xs, F2 (rel φ) (flat (B.row i)) xs ∧ xs.length = B.str ∧ ∀ j x, xs[j]? = some x → cs[B.str * i + j]? = some x) :
    BRel φ B ⟨w.heap.size, 0, B.str, c⟩ (w.alloc (.cells cs B.elem)) where
  str := rfl
  rows := fun i hi => by
    obtain ⟨xs, h1, h2, h3⟩ := hrows i hi
    exact ⟨xs, h1, h2, fun j x hx => by rw [Nat.zero_add, cell_alloc_new]; exact h3 j x hx⟩
  own := fun _ => own_cells ⟨rfl, hn, hc, cs, heap_alloc_self _ _, hsz⟩ hm

theorem brel_box {l : List Seg} {t : TypeId} {cs : Array Value} (h : F2 (rel φ) (flat l) cs.toList) :
    BRel φ ⟨sizes l, none, fun _ => l, t, true⟩ ⟨w.heap.size, 0, sizes l, 1⟩ (w.alloc (.cells cs t)) := by
  have hl : cs.size = sizes l := by rw [← flat_length, h.length]; simp
  refine brel_new (B := ⟨sizes l, none, fun _ => l, t, true⟩) (.inl (by simp [Blk.n])) (by simp [Blk.n]) (by omega) (by simpa using hl) fun i hi => ⟨cs.toList, h, by simp [hl], fun j x hx => ?_⟩
  have : i = 0 := by simp [Blk.n] at hi; exact hi
  subst this
  simpa using hx

theorem foldl_splice (v : List Value) : ∀ (off k : Nat) (cells : Array Value), off + k + v.length ≤ cells.size →
    ((v.zipIdx k).foldl (fun cs (c, j) => cs.setIfInBounds (off + j) c) cells).toList = cells.toList.take (off + k) ++ v ++ cells.toList.drop (off + k + v.length) := by
  induction v with
  | nil => intro off k cells h; simp
  | cons x r ih =>
    intro off k cells h
    simp only [List.zipIdx_cons, List.foldl_cons]
    rw [ih off (k + 1) _ (by simp at h ⊢; omega)]
    simp only [Array.toList_setIfInBounds, List.length_cons] at *
    have hlt : off + k < cells.toList.length := by simp; omega
    rw [show off + (k + 1) = off + k + 1 by omega, List.take_succ_eq_append_getElem (by simpa using hlt)]
    rw [List.take_set_of_le (by omega), List.getElem_set_self, List.drop_set_of_lt (by omega)]
    simp [List.append_assoc, Nat.add_assoc, Nat.add_comm 1]

theorem zipIdx_toList (v : Array Value) : v.zipIdx.toList = v.toList.zipIdx := by simp [Array.toList_zipIdx]

theorem fill_step {φ : Emb} {place : Nat → Option (Nat × Nat)} {cells : Array Value} {l l' x : List Seg} {o i : Nat} {v : Value} {rest : List (Nat × Value)}
    (hl : F2 (rel φ) (flat l) cells.toList) (hx : F2 (rel φ) (flat x) v.cells.toList) (hp : place i = some (o, sizes x)) (h : putS l o x = some l') :
    ∃ cells', Instr.fill place cells ((i, v) :: rest) = Instr.fill place cells' rest ∧ F2 (rel φ) (flat l') cells'.toList := by
  obtain ⟨h1, h2⟩ := putS_flat h
  have hsx : v.cells.size = sizes x := by rw [← flat_length, hx.length]; simp
  have hle : o + v.cells.size ≤ cells.size := by rw [hsx]; have := hl.length; simp at this; omega
  refine ⟨v.cells.zipIdx.foldl (fun cs (c, j) => cs.setIfInBounds (o + j) c) cells, ?_, ?_⟩
  · simp [Instr.fill, hp, hsx]
    intro hlt
    omega
  · have := foldl_splice v.cells.toList o 0 cells (by simpa using hle)
    rw [← Array.foldl_toList, zipIdx_toList]
    rw [this, h1]
    simp only [Nat.add_zero]
    have e : v.cells.toList.length = sizes x := by simpa using hsx
    rw [e]
    exact ((hl.take o).append hx).append (hl.drop _)

end Go.AM

namespace Go.AM
set_option linter.unusedVariables false
set_option linter.unusedSimpArgs false
variable {P : Program} {φ : Emb} {H : Heap} {w : World}

def Yld (P : Program) (φ : Emb) (n : Nat) (m : Sem Value) (w : World) (v : AV) : Option Blk → Prop
  | none => ∃ x, m.run P w = .ok x w ∧ relA φ v x
  | some B => ∃ x cs c, m.run P w = .ok x (w.alloc (.cells cs B.elem)) ∧ relA (φ.ins n ⟨w.heap.size, 0, B.str, c⟩) v x ∧ BRel (φ.ins n ⟨w.heap.size, 0, B.str, c⟩) B ⟨w.heap.size, 0, B.str, c⟩ (w.alloc (.cells cs B.elem))

theorem relP_ins (φ : Emb) (n : Nat) (p : Place) : relP (φ.ins n p) ⟨n, 0, 0, 0⟩ (.pointer (some ⟨p.blk, p.base, none⟩)) :=
  ⟨p, φ.ins_self n p, by simp [Place.at]⟩

theorem yld_box {n : Nat} (hf : φ n = none) {t : TypeId} {l : List Seg} {x : Value} (h : F2 (rel φ) (flat l) x.cells.toList) :
    Yld P φ n (Instr.box t x) w (.c (.ptr ⟨n, 0, 0, 0⟩)) (some ⟨sizes l, none, fun _ => l, t, true⟩) := by
  refine ⟨.pointer (some ⟨w.heap.size, 0, none⟩), x.cells, 1, ?_, relP_ins _ _ _, brel_box (h.mono fun _ _ => rel_mono (Emb.le_ins hf))⟩
  simp [Instr.box, newVar, newRow, go_sem]

theorem yld_alloc {n : Nat} (hf : φ n = none) {t : TypeId} {l : List Seg} (h : zeroOf P t = some l) :
    Yld P φ n (Instr.alloc t true (.tuple #[])) w (.c (.ptr ⟨n, 0, 0, 0⟩)) (some ⟨sizes l, none, fun _ => l, t, true⟩) := by
  obtain ⟨i, z, hi, hz, hF⟩ := zeroOf_rel φ h
  refine ⟨.pointer (some ⟨w.heap.size, 0, none⟩), z.cells, 1, ?_, relP_ins _ _ _, brel_box (hF.mono fun _ _ => rel_mono (Emb.le_ins hf))⟩
  simp [Instr.alloc, newVar, newRow, go_sem, run_zeroValue hi hz]

theorem fill_parts {place : Nat → Option (Nat × Nat)} {g : Opd → AV} {ρ : Operand → Value} (hg : ∀ x y, opd x = some y → relA φ (g y) (ρ x)) :
    ∀ (ps : List (Nat × Operand)) (qs : List (Nat × Nat × Opd)) (ls : List (Nat × Nat × List Seg)) (l l' : List Seg) (cells : Array Value),
      partsT place ps = some qs → partsOf g qs = some ls → F2 (rel φ) (flat l) cells.toList → fillS l ls = some l' →
      ∃ cells', Instr.fill place cells (ps.map fun (i, x) => (i, ρ x)) = some cells' ∧ F2 (rel φ) (flat l') cells'.toList
  | [], qs, ls, l, l', cells, h1, h2, hF, h3 => by
    simp only [partsT, Option.some.injEq] at h1
    subst h1
    simp only [partsOf, Option.some.injEq] at h2
    subst h2
    simp only [fillS, Option.some.injEq] at h3
    subst h3
    exact ⟨cells, rfl, hF⟩
  | (i, x) :: r, qs, ls, l, l', cells, h1, h2, hF, h3 => by
    simp only [partsT] at h1
    split at h1
    · rename_i o n y rest hp hy hr
      simp only [Option.some.injEq] at h1
      subst h1
      simp only [partsOf] at h2
      split at h2
      · rename_i m hm
        split at h2
        · rename_i t ht
          simp only [Option.some.injEq] at h2
          subst h2
          simp only [fillS] at h3
          split at h3
          · rename_i hb
            have hsz := Nat.eq_of_beq_eq_true hb
            subst hsz
            split at h3
            · rename_i l1 hl1
              have hx := segsOf_cells hm (hg x y hy)
              obtain ⟨c1, hc1, hF1⟩ := fill_step (rest := r.map fun (i, x) => (i, ρ x)) (i := i) hF hx hp hl1
              obtain ⟨c2, hc2, hF2⟩ := fill_parts hg r rest t l1 l' c1 hr ht hF1 h3
              exact ⟨c2, by simp only [List.map_cons]; rw [hc1, hc2], hF2⟩
            · simp at h3
          · simp at h3
        · simp at h2
      · simp at h2
    · simp at h1

theorem yld_build {t : TypeId} {ps : Array (Nat × Operand)} {z l : List Seg} {qs : List (Nat × Nat × Opd)} {ls : List (Nat × Nat × List Seg)} {g : Opd → AV} {ρ : Operand → Value}
    (hg : ∀ x y, opd x = some y → relA φ (g y) (ρ x)) (hs : stripOp P (.build t ps) = some (.build z qs)) (hq : partsOf g qs = some ls) (hl : fillS z ls = some l) :
    ∃ x, (Instr.build t (ps.map fun (i, x) => (i, ρ x))).run P w = .ok x w ∧ relA φ (.agg l) x := by
  simp only [stripOp] at hs
  split at hs
  · rename_i fs hu
    split at hs
    · rename_i z' places hz hp
      simp only [Option.map_eq_some_iff, AOp.build.injEq] at hs
      obtain ⟨qs', hqs, rfl, rfl⟩ := hs
      obtain ⟨i, zv, hi, hzv, hF⟩ := zeroOf_rel φ hz
      obtain ⟨cells, hc, hF'⟩ := fill_parts hg _ _ _ _ _ _ hqs hq hF hl
      refine ⟨.agg cells, run_build w t _ cells ?_, cells, rfl, hF'⟩
      unfold placesT at hp
      simp only [Program.built, hi, hu, hzv, hp]
      rw [← hc]
      simp
    · simp at hs
  · rename_i n e hu
    split at hs
    · rename_i z' k hz hk
      simp only [Option.map_eq_some_iff, AOp.build.injEq] at hs
      obtain ⟨qs', hqs, rfl, rfl⟩ := hs
      obtain ⟨i, zv, hi, hzv, hF⟩ := zeroOf_rel φ hz
      obtain ⟨cells, hc, hF'⟩ := fill_parts hg _ _ _ _ _ _ hqs hq hF hl
      refine ⟨.agg cells, run_build w t _ cells ?_, cells, rfl, hF'⟩
      unfold sizeT at hk
      simp only [Option.map_eq_some_iff] at hk
      obtain ⟨ie, hie, rfl⟩ := hk
      simp only [Program.built, hi, hu, hzv, hie]
      rw [← hc]
      simp
    · simp at hs
  · simp at hs

theorem F2.of_get {α β : Type} {R : α → β → Prop} : ∀ {l : List α} {m : List β}, l.length = m.length → (∀ (i : Nat) (a : α) (b : β), l[i]? = some a → m[i]? = some b → R a b) → F2 R l m
  | [], [], _, _ => .nil
  | [], _ :: _, h, _ => by simp at h
  | _ :: _, [], h, _ => by simp at h
  | a :: l, b :: m, h, k => .cons (k 0 a b rfl rfl) (F2.of_get (by simpa using h) fun i x y hx hy => k (i + 1) x y (by simpa using hx) (by simpa using hy))

theorem F2.get' {α β : Type} {R : α → β → Prop} {l : List α} {m : List β} (h : F2 R l m) {i : Nat} {a : α} {b : β} (ha : l[i]? = some a) (hb : m[i]? = some b) : R a b := by
  obtain ⟨b', hb', r⟩ := h.get ha
  rw [hb] at hb'
  cases hb'
  exact r

theorem repl_flat_length (n : Nat) (z : List Seg) : (flat (repl n z)).length = n * sizes z := by
  induction n with
  | zero => simp [repl, flat]
  | succ n ih => simp [repl, flat_append, ih, flat_length, Nat.add_mul, Nat.add_comm]
theorem repl_flat_get (n : Nat) (z : List Seg) : ∀ i, i < n * sizes z → (flat (repl n z))[i]? = (flat z)[i % sizes z]? := by
  induction n with
  | zero => intro i h; omega
  | succ n ih =>
    intro i h
    simp only [repl, flat_append]
    by_cases hi : i < sizes z
    · rw [List.getElem?_append_left (by rw [flat_length]; exact hi), Nat.mod_eq_of_lt hi]
    · rw [List.getElem?_append_right (by rw [flat_length]; omega), flat_length, ih _ (by rw [Nat.add_mul, Nat.one_mul] at h; omega)]
      rw [Nat.mod_eq_sub_mod (a := i) (by omega)]

theorem F2_repl {n k : Nat} {z : List Seg} {zs : Array Value} (h : F2 (rel φ) (flat z) zs.toList) (hk : sizes z = k) (hk0 : k ≠ 0) :
    F2 (rel φ) (flat (repl n z)) ((Array.range (n * k)).map (zs[· % zs.size]!)).toList := by
  have hz : zs.size = k := by rw [← hk, ← flat_length, h.length]; simp
  refine F2.of_get (by simp [repl_flat_length, hk]) fun i a b ha hb => ?_
  have hi : i < n * k := by
    have := (List.getElem?_eq_some_iff.1 ha).1
    rw [repl_flat_length, hk] at this
    exact this
  rw [repl_flat_get _ _ _ (by rw [hk]; exact hi), hk] at ha
  simp only [Array.toList_map, Array.toList_range, List.getElem?_map, List.getElem?_range hi, Option.map_some, Option.some.injEq] at hb
  refine h.get' ha ?_
  subst hb
  have hm : i % k < zs.size := by rw [hz]; exact Nat.mod_lt _ (by omega)
  simp [hz, Array.getElem!_eq_getD, Array.getD_eq_getD_getElem?, Array.getElem?_eq_getElem hm]

theorem rowsFit_lt {l : List Seg} {k : Nat} : ∀ {n : Nat}, rowsFit l k n = true → ∀ i, i < n → ∃ x, cut l (i * k) k = some x
  | 0, _, i, h => by omega
  | n + 1, hf, i, h => by
    simp only [rowsFit] at hf
    split at hf
    · rename_i x hx
      by_cases he : i = n
      · subst he; exact ⟨x, hx⟩
      · exact rowsFit_lt hf i (by omega)
    · simp at hf

theorem rowFn_flat {l : List Seg} {k n : Nat} (hf : rowsFit l k n = true) (hl : sizes l = n * k) {i : Nat} (hi : i < n) : flat (rowFn l k n i) = ((flat l).drop (i * k)).take k ∧ sizes (rowFn l k n i) = k := by
  obtain ⟨x, hx⟩ := rowsFit_lt hf i hi
  unfold rowFn
  split
  · have : i = 0 := by omega
    subst this
    simp only [Nat.one_mul] at hl
    simp only [Nat.zero_mul, List.drop_zero]
    rw [List.take_of_length_le (by rw [flat_length, hl]; exact Nat.le_refl _)]
    exact ⟨rfl, hl⟩
  · simp only [cutD, hx]
    exact cut_flat hx

theorem fillS_sizes : ∀ (ls : List (Nat × Nat × List Seg)) (l l' : List Seg), fillS l ls = some l' → sizes l' = sizes l
  | [], l, l', h => by simp [fillS] at h; rw [h]
  | (o, n, x) :: r, l, l', h => by
    simp only [fillS] at h
    split at h
    · split at h
      · rename_i l1 h1
        rw [fillS_sizes r l1 l' h]
        obtain ⟨e, hle⟩ := putS_flat h1
        have := congrArg List.length e
        simp only [List.length_append, List.length_take, List.length_drop, flat_length] at this
        rw [flat_length] at hle
        omega
      · simp at h
    · simp at h

theorem repl_sizes (n : Nat) (z : List Seg) : sizes (repl n z) = n * sizes z := by rw [← flat_length, repl_flat_length]

theorem yld_bslice {t : TypeId} {m : Nat} {ps : Array (Nat × Operand)} {e k n id : Nat} {z l : List Seg} {qs : List (Nat × Nat × Opd)} {ls : List (Nat × Nat × List Seg)} {g : Opd → AV} {ρ : Operand → Value}
    (hf : φ id = none) (hg : ∀ x y, opd x = some y → relA φ (g y) (ρ x)) (hs : stripOp P (.buildSlice t m ps) = some (.bslice e k z n qs)) (hq : partsOf g qs = some ls) (hl : fillS (repl n z) ls = some l) (hr : rowsFit l k n = true) :
    Yld P φ id (Instr.buildSlice t m (ps.map fun (i, x) => (i, ρ x))) w (.c (.slice ⟨id, 0, 0, 0⟩ false n)) (some ⟨k, some n, rowFn l k n, e, true⟩) := by
  simp only [stripOp] at hs
  split at hs
  · rename_i e' hu
    split at hs
    · rename_i z' k' hz hk
      split at hs
      · rename_i hc
        obtain ⟨h24, hk0, hzk⟩ := hc
        simp only [Option.map_eq_some_iff, AOp.bslice.injEq] at hs
        obtain ⟨qs', hqs, rfl, rfl, rfl, rfl, rfl⟩ := hs
        obtain ⟨i, zv, hi, hzv, hF⟩ := zeroOf_rel φ hz
        obtain ⟨cells, hcc, hF'⟩ := fill_parts hg _ _ _ _ _ _ hqs hq (F2_repl (n := m) hF hzk hk0) hl
        have hsz : sizes l = m * k' := by rw [fillS_sizes _ _ _ hl, repl_sizes, hzk]
        have hcs : cells.size = m * k' := by rw [← hsz, ← flat_length, hF'.length]; simp
        have hmk : ¬ m * k' > 2 ^ 24 := by omega
        refine ⟨.slice (some ⟨w.heap.size, 0, none⟩) m m, cells, m, ?_, ?_, ?_⟩
        · have hcc' : Instr.fill (fun i => some (i * k', k')) ((Array.range (m * k')).map (zv.cells[· % zv.cells.size]!)) (ps.map fun (i, x) => (i, ρ x)).toList = some cells := by rw [← hcc]; simp
          by_cases hm0 : m = 0
          · subst hm0
            have hr0 : ∀ (zs : Array Value), (Array.range (0 * k')).map (zs[· % zs.size]!) = #[] := fun zs => by simp
            rw [hr0] at hcc'
            simp only [Instr.buildSlice, Sem.run_bind, run_underlying' hu, Result.andThen_ok, run_sizeOf hk, if_neg hmk, Sem.run_pure, if_pos (Nat.zero_mul k')]
            rw [hr0, hcc']
            simp [newRow, go_sem]
          · have hmk0 : m * k' ≠ 0 := Nat.mul_ne_zero hm0 hk0
            simp only [Instr.buildSlice, Sem.run_bind, run_underlying' hu, Result.andThen_ok, run_sizeOf hk, if_neg hmk, Sem.run_pure, if_neg hmk0, run_zeroValue hi hzv]
            rw [hcc']
            simp [newRow, go_sem]
        · exact ⟨_, m, rfl, Nat.le_refl _, .inr ⟨_, φ.ins_self _ _, by simp [Place.at], fun _ => ⟨rfl, rfl, by simp⟩⟩⟩
        · refine brel_new (B := ⟨k', some m, rowFn l k' m, e', true⟩) (.inr hk0) (by simp [Blk.n]) (by have : m * 1 ≤ m * k' := Nat.mul_le_mul_left _ (by omega); omega) (by simp [hcs, Nat.mul_comm]) fun i hi => ?_
          have hi' : i < m := by simpa [Blk.n] using hi
          obtain ⟨e1, e2⟩ := rowFn_flat hr hsz hi'
          refine ⟨(cells.toList.drop (i * k')).take k', ?_, ?_, fun j x hx => ?_⟩
          · show F2 _ (flat (rowFn l k' m i)) _
            rw [e1]
            exact (((hF'.mono fun _ _ => rel_mono (Emb.le_ins hf)).drop _).take _)
          · have : i * k' + k' ≤ m * k' := by rw [← Nat.succ_mul]; exact Nat.mul_le_mul_right _ hi'
            simp [hcs]; omega
          · rw [List.getElem?_take] at hx
            split at hx
            · rw [List.getElem?_drop] at hx
              simpa [Nat.mul_comm] using hx
            · simp at hx
      · simp at hs
    · simp at hs
  · simp at hs

end Go.AM

namespace Go.AM
set_option linter.unusedVariables false
set_option linter.unusedSimpArgs false
variable {P : Program} {φ : Emb} {w : World}

theorem yld_faddr {t : TypeId} {fi : Nat} {x : Value} {f : Field} {m : Nat} (hf : fieldAt P t fi = some f) (hs : sizeT P f.type = some (m + 1)) {a : AA} (hx : relP φ a x) (hsub : a.sub = 0) :
    ∃ y, (Instr.fieldAt t x fi).run P w = .ok y w ∧ relP φ ⟨a.id, a.idx, addN a.off f.offset, a.sub⟩ y := by
  obtain ⟨p, hp, rfl⟩ := hx
  unfold fieldAt at hf
  split at hf
  · rename_i fs hu
    refine ⟨.pointer (some ((p.at a).add f.offset)), ?_, p, hp, ?_⟩
    · simp [Instr.fieldAt, run_underlying' hu, hf, Instr.sureAddr, fieldPlace, run_sizeOf hs, go_sem]
    · unfold Addr.add Place.at
      rw [addN_eq, hsub]
      split
      · rename_i h0; simp [h0]
      · simp [Nat.add_assoc]
  · simp at hf

theorem add_place (p : Place) (a : AA) (inner : Bool) (n k : Nat) (hi : inner = true → k = 1) (ho : inner = false → p.str = k) : (p.at a).add (n * k) = p.at (plusA a inner n) := by
  cases inner with
  | true =>
    have := hi rfl
    subst this
    unfold plusA Addr.add Place.at
    simp only [addN_eq]
    split
    · rename_i h0; simp at h0; simp [h0]
    · simp [Nat.add_assoc]
  | false =>
    have := ho rfl
    subst this
    unfold plusA Addr.add Place.at
    simp only [addN_eq]
    split
    · rename_i h0
      rcases Nat.mul_eq_zero.1 h0 with h | h
      · simp [h]
      · simp [h]
    · simp [Nat.mul_add, Nat.mul_comm]; omega

theorem strOk_spec {H : Heap} (hR : Reads φ H w) {k : Nat} {a : AA} {inner : Bool} (h : strOk H k a inner = true) {p : Place} (hp : φ a.id = some p) : (inner = true → k = 1) ∧ (inner = false → p.str = k) := by
  unfold strOk at h
  split at h
  · exact ⟨fun _ => Nat.eq_of_beq_eq_true h, (fun e => by cases e)⟩
  · refine ⟨(fun e => by cases e), fun _ => ?_⟩
    split at h
    · rename_i B hB
      rw [(hR _ _ _ hB hp).str]
      exact Nat.eq_of_beq_eq_true h
    · cases h

theorem yld_iaddr {t e : TypeId} {k : Nat} (hu : P.underlying t = some (.slice e)) (hk : sizeT P e = some k) {H : Heap} (hR : Reads φ H w) {a : AA} {inner : Bool} {len : Nat} {x : Value} (hx : relA φ (.c (.slice a inner len)) x)
    (hst : strOk H k a inner = true) {ki : IntKind} {n : Int} (h0 : 0 ≤ n) (hl : n < (len : Int)) :
    ∃ y, (Instr.indexAt t x (.int ki n)).run P w = .ok y w ∧ relP φ (plusA a inner n.toNat) y := by
  obtain ⟨r, cap, rfl, hle, hc⟩ := hx
  rcases hc with ⟨rfl, _, _⟩ | ⟨p, hp, rfl, hcap⟩
  · omega
  obtain ⟨h1, h2⟩ := strOk_spec hR hst hp
  refine ⟨.pointer (some ((p.at a).add (n.toNat * k))), ?_, p, by cases inner <;> exact hp, by rw [add_place p a inner _ _ h1 h2]⟩
  simp [Instr.indexAt, asIntOf, run_underlying' hu, run_sizeOf hk, go_sem, h0, hl]

theorem yld_iaddrA {t e : TypeId} {m : Nat} (hu : P.underlying t = some (.array m e)) (hk : sizeT P e = some 1) {a : AA} {x : Value} (hx : relP φ a x)
    {ki : IntKind} {n : Int} (h0 : 0 ≤ n) (hl : n < (m : Int)) :
    ∃ y, (Instr.indexAt t x (.int ki n)).run P w = .ok y w ∧ relP φ ⟨a.id, a.idx, a.off, addN a.sub n.toNat⟩ y := by
  obtain ⟨p, hp, rfl⟩ := hx
  refine ⟨.pointer (some ((p.at a).add (n.toNat * 1))), ?_, p, hp, by rw [add_place p a true n.toNat 1 (fun _ => rfl) (fun e => by cases e)]; rfl⟩
  simp [Instr.indexAt, asIntOf, run_underlying' hu, run_sizeOf hk, Instr.sureAddr, go_sem, h0, hl]

theorem run_sliceBounds {b : Bool} {lo hi : Option Value} {len cap l h : Nat} (hh : hi = none ∧ h = len ∨ ∃ k n, hi = some (.int k n) ∧ 0 ≤ n ∧ n ≤ (cap : Int) ∧ h = n.toNat)
    (hl : lo = none ∧ l = 0 ∨ ∃ k n, lo = some (.int k n) ∧ 0 ≤ n ∧ n ≤ (h : Int) ∧ l = n.toNat) : (Instr.sliceBounds b len cap lo hi none).run P w = .ok (l, h, cap) w := by
  rcases hh with ⟨rfl, rfl⟩ | ⟨k, n, rfl, h1, h2, rfl⟩ <;> rcases hl with ⟨rfl, rfl⟩ | ⟨k', n', rfl, h1', h2', rfl⟩
  · simp [Instr.sliceBounds, go_sem]
  · simp [Instr.sliceBounds, Instr.sliceBound, asIntOf, go_sem, h1', h2']
  · simp [Instr.sliceBounds, Instr.sliceBound, asIntOf, go_sem, h1, h2]
  · have h3 : n' ≤ n := by omega
    simp [Instr.sliceBounds, Instr.sliceBound, asIntOf, go_sem, h1, h2, h1', h3]
    omega

def Opt (φ : Emb) (x : Option AV) (y : Option Value) : Prop := match x, y with
  | none, none => True
  | some u, some v => relA φ u v
  | _, _ => False

theorem bnd_of {x : Option AV} {y : Option Value} {dflt top : Nat} {l : Option Int} {ln : Nat} (hxy : Opt φ x y) (h : bndHi x dflt = some (l, ln)) (hn : needP (leN l top)) :
    y = none ∧ ln = dflt ∨ ∃ k n, y = some (.int k n) ∧ 0 ≤ n ∧ n ≤ (top : Int) ∧ ln = n.toNat := by
  unfold bndHi at h
  split at h
  · simp only [Option.some.injEq, Prod.mk.injEq] at h
    obtain ⟨rfl, rfl⟩ := h
    cases y with
    | none => exact .inl ⟨rfl, rfl⟩
    | some v => exact hxy.elim
  · rename_i k n
    simp only [Option.some.injEq, Prod.mk.injEq] at h
    obtain ⟨rfl, rfl⟩ := h
    cases y with
    | none => exact hxy.elim
    | some v =>
      have e : v = .int k n := hxy
      subst e
      exact .inr ⟨_, _, rfl, hn.1, hn.2, rfl⟩
  · simp at h

theorem yld_slc {t e : TypeId} {k : Nat} (hu : P.underlying t = some (.slice e)) (hk : sizeT P e = some k) {H : Heap} (hR : Reads φ H w) {x : AV} {y : Value} (hx : relA φ x y) {lo hi : Option AV} {lo' hi' : Option Value}
    (hlo : Opt φ lo lo') (hhi : Opt φ hi hi') {need : Option Prop} {v : AV} {B : Option Blk} (h : slcS H k x lo hi = .p need v B) (hn : needP need) :
    B = none ∧ ∃ z, (Instr.sliceAt t y lo' hi' none).run P w = .ok z w ∧ relA φ v z := by
  unfold slcS at h
  split at h
  · rename_i a inner len
    split at h
    · rename_i l ln hh hhn hst hl1 hh1
      simp only [Res.p.injEq] at h
      obtain ⟨rfl, rfl, rfl⟩ := h
      refine ⟨rfl, ?_⟩
      obtain ⟨r, cap, rfl, hle, hc⟩ := hx
      have b1 := bnd_of hhi hh1 (andN_left hn)
      have b2 := bnd_of hlo hl1 (andN_right hn)
      have c1 : hi' = none ∧ hhn = len ∨ ∃ k n, hi' = some (.int k n) ∧ 0 ≤ n ∧ n ≤ (cap : Int) ∧ hhn = n.toNat := b1.imp id fun ⟨k, n, e1, e2, e3, e4⟩ => ⟨k, n, e1, e2, by omega, e4⟩
      have hs := run_sliceBounds (P := P) (w := w) (b := true) (len := len) (cap := cap) c1 b2
      have hln : ln ≤ hhn := by rcases b2 with ⟨_, rfl⟩ | ⟨_, _, _, _, _, rfl⟩ <;> omega
      have hhl : hhn ≤ len := by rcases b1 with ⟨_, rfl⟩ | ⟨_, _, _, _, _, rfl⟩ <;> omega
      refine ⟨.slice (if cap = ln then r else r.map (·.add (ln * k))) (hhn - ln) (cap - ln), ?_, ?_⟩
      · simp only [Instr.sliceAt, Instr.slice, Sem.run_bind, run_underlying' hu, Result.andThen_ok, hs, run_sizeOf hk, Sem.run_pure]
      · refine ⟨_, _, rfl, by omega, ?_⟩
        rcases hc with ⟨rfl, rfl, hr⟩ | ⟨p, hp, rfl, hcap⟩
        · have : ln = 0 := by omega
          subst this
          refine .inl ⟨by omega, by omega, ?_⟩
          rw [if_pos rfl]
          cases inner <;> simp_all [plusA, addN_eq]
        · obtain ⟨h1, h2⟩ := strOk_spec hR hst hp
          by_cases hcl : cap = ln
          · cases inner with
            | true => exact .inl ⟨by omega, by omega, by simp⟩
            | false =>
              by_cases hl0 : ln = 0
              · subst hl0
                refine .inr ⟨p, hp, by rw [if_pos hcl]; simp [plusA, addN_eq], fun _ => ?_⟩
                obtain ⟨g1, g2, g3⟩ := hcap rfl
                simp only [plusA, addN_eq]
                exact ⟨g1, g2, by omega⟩
              · exact .inl ⟨by omega, by omega, .inr (.inl (by simp only [plusA, addN_eq]; omega))⟩
          ·
            refine .inr ⟨p, by cases inner <;> exact hp, ?_, fun hi => ?_⟩
            · rw [if_neg hcl, Option.map_some, add_place p a inner _ _ h1 h2]
            · subst hi
              obtain ⟨g1, g2, g3⟩ := hcap rfl
              simp only [plusA, addN_eq]
              exact ⟨g1, g2, by omega⟩
    · simp at h
  · split at h
    · rename_i l ln hh hhn hl1 hh1
      simp only [Res.p.injEq] at h
      obtain ⟨rfl, rfl, rfl⟩ := h
      refine ⟨rfl, ?_⟩
      have hx' : y = .slice none 0 0 := hx
      subst hx'
      have b1 := bnd_of hhi hh1 (andN_left hn)
      have b2 := bnd_of hlo hl1 (andN_right hn)
      have hs := run_sliceBounds (P := P) (w := w) (b := true) (len := 0) (cap := 0) b1 b2
      have hln : ln = 0 := by rcases b2 with ⟨_, rfl⟩ | ⟨_, _, _, _, _, rfl⟩ <;> rcases b1 with ⟨_, rfl⟩ | ⟨_, _, _, _, _, rfl⟩ <;> omega
      have hhn0 : hhn = 0 := by rcases b1 with ⟨_, rfl⟩ | ⟨_, _, _, _, _, rfl⟩ <;> omega
      subst hln
      subst hhn0
      refine ⟨.slice none 0 0, ?_, rfl⟩
      simp only [Instr.sliceAt, Instr.slice, Sem.run_bind, run_underlying' hu, Result.andThen_ok, hs, run_sizeOf hk, Sem.run_pure]
      simp
    · simp at h
  · rename_i a len top
    split at h
    · rename_i hh hhn hh1
      simp only [Res.p.injEq] at h
      obtain ⟨rfl, rfl, rfl⟩ := h
      refine ⟨rfl, ?_⟩
      obtain ⟨p, cap, hp, rfl, q1, q2, q3, q4, q5⟩ := hx
      have b1 := bnd_of hhi hh1 hn
      have hlo' : lo' = none := by
        cases lo' with
        | none => rfl
        | some v => exact hlo.elim
      subst hlo'
      have c1 : hi' = none ∧ hhn = len ∨ ∃ k n, hi' = some (.int k n) ∧ 0 ≤ n ∧ n ≤ (cap : Int) ∧ hhn = n.toNat := b1.imp id fun ⟨k, n, e1, e2, e3, e4⟩ => ⟨k, n, e1, e2, by omega, e4⟩
      have hs := run_sliceBounds (P := P) (w := w) (b := true) (len := len) (cap := cap) c1 (.inl ⟨rfl, rfl⟩ : (none : Option Value) = none ∧ 0 = 0 ∨ _)
      have hht : hhn ≤ top := by rcases b1 with ⟨_, rfl⟩ | ⟨_, _, _, _, _, rfl⟩ <;> omega
      refine ⟨.slice (if cap = 0 then some (p.at a) else (some (p.at a)).map (·.add (0 * k))) (hhn - 0) (cap - 0), ?_, ?_⟩
      · simp only [Instr.sliceAt, Instr.slice, Sem.run_bind, run_underlying' hu, Result.andThen_ok, hs, run_sizeOf hk, Sem.run_pure]
      · refine ⟨p, cap, hp, ?_, hht, q2, q3, q4, q5⟩
        have e : (some (p.at a)).map (·.add (0 * k)) = some (p.at a) := by
          simp only [Option.map_some, Nat.zero_mul]
          rfl
        rw [e]
        split <;> rfl
    · simp at h
  · simp at h

theorem yld_slcA {t e : TypeId} {m : Nat} (hu : P.underlying t = some (.array m e) ∨ ∃ arr, P.underlying t = some (.pointer arr) ∧ P.underlying arr = some (.array m e)) (hk : sizeT P e = some 1) {a : AA} {y : Value} (hx : relP φ a y) {lo hi : Option AV} {lo' hi' : Option Value}
    (hlo : Opt φ lo lo') (hhi : Opt φ hi hi') {l h : Option Int} {ln hn : Nat} (h1 : bndHi lo 0 = some (l, ln)) (h2 : bndHi hi m = some (h, hn)) (hnd : needP (andN (leN h m) (leN l hn))) :
    ∃ z, (Instr.sliceAt t y lo' hi' none).run P w = .ok z w ∧ relA φ (.c (.slice ⟨a.id, a.idx, a.off, addN a.sub ln⟩ true (hn - ln))) z := by
  obtain ⟨p, hp, rfl⟩ := hx
  have b1 := bnd_of hhi h2 (andN_left hnd)
  have b2 := bnd_of hlo h1 (andN_right hnd)
  have hs := run_sliceBounds (P := P) (w := w) (b := false) (len := m) (cap := m) b1 b2
  have hln : ln ≤ hn := by rcases b2 with ⟨_, rfl⟩ | ⟨_, _, _, _, _, rfl⟩ <;> omega
  have hhl : hn ≤ m := by rcases b1 with ⟨_, rfl⟩ | ⟨_, _, _, _, _, rfl⟩ <;> omega
  refine ⟨.slice (some (if m = ln then p.at a else (p.at a).add (ln * 1))) (hn - ln) (m - ln), ?_, _, _, rfl, by omega, ?_⟩
  · rcases hu with hu | ⟨arr, hu, hua⟩
    · simp only [Instr.sliceAt, Sem.run_bind, run_underlying' hu, Result.andThen_ok, Instr.sureAddr, Sem.run_pure, hs, run_sizeOf hk]
    · simp only [Instr.sliceAt, Instr.slice, Sem.run_bind, run_underlying' hu, run_underlying' hua, Result.andThen_ok, asAddr, Sem.run_pure, hs, run_sizeOf hk]
  · by_cases hcl : m = ln
    · exact .inl ⟨by omega, by omega, by simp⟩
    · exact .inr ⟨p, hp, by rw [if_neg hcl, add_place p a true _ _ (fun _ => rfl) (fun e => by cases e)]; rfl, fun e => by cases e⟩

end Go.AM

namespace Go.AM
set_option linter.unusedVariables false
set_option linter.unusedSimpArgs false
variable {P : Program} {φ : Emb} {w : World}

def scal (P : Program) (t : TypeId) : Bool → Prop
  | true => ∃ k, P.underlying t = some (.int k)
  | false => P.underlying t = some .bool

theorem run_part_scal {t : TypeId} {b : Bool} (h : scal P t b) {xs : Array Value} {o : Nat} {x : Value} (hx : xs[o]? = some x) : (part t xs o).run P w = .ok x w := by
  cases b with
  | true => obtain ⟨k, hu⟩ := h; simp [part, isAgg, run_underlying hu, hx]
  | false => have hu : P.underlying t = some .bool := h; simp [part, isAgg, run_underlying hu, hx]

theorem run_eq_scal {t : TypeId} {b : Bool} (h : scal P t b) {a c : CV} {x y : Value} (hx : rel φ a x) (hy : rel φ c y) (d : Nat) :
    (∀ r, eqS1 b a c = some r → (Op.equalIn (d + 1) t x y).run P w = .ok r w) ∧ (kin b a c → (Op.equalIn (d + 1) t x y).run P w = .ok (eqCb a c) w) := by
  cases b with
  | true =>
    obtain ⟨k, hu⟩ := h
    cases a <;> cases c <;> simp only [eqS1, kin, reduceCtorEq, false_implies, implies_true, and_self, eqCb]
    rename_i j m k' n
    have e1 : x = .int j m := hx
    have e2 : y = .int k' n := hy
    subst e1; subst e2
    refine ⟨fun r hr => ?_, fun hk => ?_⟩
    · split at hr
      · rename_i hk
        have := sameK_eq hk; subst this
        simp only [Option.some.injEq] at hr
        subst hr
        exact run_equalIn_int w d t j k m n hu
      · simp at hr
    · have := sameK_eq hk; subst this
      exact run_equalIn_int w d t j k m n hu
  | false =>
    have hu : P.underlying t = some .bool := h
    cases a <;> cases c <;> simp only [eqS1, kin, reduceCtorEq, false_implies, implies_true, and_self, eqCb]
    rename_i m n
    have e1 : x = .bool m := hx
    have e2 : y = .bool n := hy
    subst e1; subst e2
    refine ⟨fun r hr => ?_, fun _ => ?_⟩
    · simp only [Option.some.injEq] at hr; subst hr; exact run_equalIn_bool' w d t m n hu
    · exact run_equalIn_bool' w d t m n hu

theorem run_eqItems_scal {e : TypeId} {b : Bool} (h : scal P e b) (f g : Nat → CV) (xs ys : Array Value) (d : Nat) : ∀ (is : List Nat),
    (∀ i ∈ is, kin b (f i) (g i) ∧ (∃ x, xs[i]? = some x ∧ rel φ (f i) x) ∧ ∃ y, ys[i]? = some y ∧ rel φ (g i) y) →
    (Op.eqItems (d + 1) e 1 xs ys is).run P w = .ok (is.all fun z => eqCb (f z) (g z)) w
  | [], _ => by simp [Op.eqItems]
  | i :: is, hh => by
    obtain ⟨h1, ⟨x, h2, h3⟩, y, h4, h5⟩ := hh i (by simp)
    have ih := run_eqItems_scal h f g xs ys d is fun j hj => hh j (by simp [hj])
    simp only [Op.eqItems, Nat.mul_one, Sem.run_bind, run_part_scal h h2, run_part_scal h h4, Result.andThen_ok, (run_eq_scal (w := w) h h3 h5 d).2 h1, List.all_cons]
    cases eqCb (f i) (g i) with
    | false => simp
    | true => simpa using ih

theorem F2.split {α β : Type} {R : α → β → Prop} : ∀ {l m : List α} {xs : List β}, F2 R (l ++ m) xs → ∃ a b, xs = a ++ b ∧ F2 R l a ∧ F2 R m b
  | [], _, xs, h => ⟨[], xs, rfl, .nil, h⟩
  | _ :: _, _, _, .cons h1 h2 => let ⟨a, b, e, k1, k2⟩ := F2.split h2; ⟨_ :: a, b, by rw [e]; rfl, .cons h1 k1, k2⟩
theorem andP_both {a b : Option Prop} (h : needP (andP a b)) : needP a ∧ needP b := by
  cases a <;> cases b <;> simp_all [andP, needP]

theorem flat_arr_get {n : Nat} {f : Nat → CV} {r : List Seg} {xs : List Value} (h : F2 (rel φ) (flat (Seg.a n f :: r)) xs) {i : Nat} (hi : i < n) : ∃ x, xs[i]? = some x ∧ rel φ (f i) x := by
  refine h.get (i := i) ?_
  simp only [flat, Seg.flat]
  rw [List.getElem?_append_left (by simpa using hi)]
  simp [hi]

theorem eqF_ok : ∀ (fs : List Field) (i : Nat) (ks : List FK) (l m : List Seg) (need : Option Prop) (r : Bool) (xs ys : Array Value), flatK P fs i = some ks → eqF ks l m = some (need, r) → needP need →
    F2 (rel φ) (flat l) (xs.toList.drop i) → F2 (rel φ) (flat m) (ys.toList.drop i) → (Op.eqFields 9999 xs ys fs).run P w = .ok r w
  | [], i, ks, l, m, need, r, xs, ys, hk, he, hn, hx, hy => by
    simp only [flatK, Option.some.injEq] at hk
    subst hk
    cases l <;> cases m <;> simp [eqF] at he
    rw [he.2]
    simp [Op.eqFields]
  | f :: fs, i, ks, l, m, need, r, xs, ys, hk, he, hn, hx, hy => by
    simp only [flatK] at hk
    split at hk
    · rename_i hf
      obtain ⟨hname, hoff⟩ := hf
      have one : ∀ b, scal P f.type b → (flatK P fs (i + 1)).map (FK.one b :: ·) = some ks → (Op.eqFields 9999 xs ys (f :: fs)).run P w = .ok r w := by
        intro b hb hk
        simp only [Option.map_eq_some_iff] at hk
        obtain ⟨ks', hk', rfl⟩ := hk
        cases l with
        | nil => simp [eqF] at he
        | cons s l =>
          cases m with
          | nil => cases s <;> simp [eqF] at he
          | cons t m =>
            cases s <;> cases t <;> simp only [eqF, reduceCtorEq] at he
            rename_i a c
            split at he
            · rename_i b' p c' h1 h2
              simp only [Option.some.injEq, Prod.mk.injEq] at he
              obtain ⟨rfl, rfl⟩ := he
              obtain ⟨x, xr, hxe, hx1, hx2⟩ := F2.cons_left (l := flat l) hx
              obtain ⟨y, yr, hye, hy1, hy2⟩ := F2.cons_left (l := flat m) hy
              have gx : xs[i]? = some x := by
                have : (xs.toList.drop i)[0]? = some x := by rw [hxe]; rfl
                simpa using this
              have gy : ys[i]? = some y := by
                have : (ys.toList.drop i)[0]? = some y := by rw [hye]; rfl
                simpa using this
              have dx : xs.toList.drop (i + 1) = xr := by rw [← List.drop_drop, hxe]; rfl
              have dy : ys.toList.drop (i + 1) = yr := by rw [← List.drop_drop, hye]; rfl
              have ih := eqF_ok fs (i + 1) ks' l m p c' xs ys hk' h2 hn (by rw [dx]; exact hx2) (by rw [dy]; exact hy2)
              simp only [Op.eqFields, hname, ne_eq, not_false_eq_true, if_true, hoff, Sem.run_bind, run_part_scal hb gx, run_part_scal hb gy, Result.andThen_ok, (run_eq_scal (w := w) hb hx1 hy1 9998).1 _ h1]
              cases b' with
              | false => simp
              | true => simpa using ih
            · simp at he
      have arr : ∀ b n e, P.underlying f.type = some (.array n e) → P.cellsOf f.type = n → P.cellsOf e = 1 → (P.info? e).isSome = true → (P.info? f.type).isSome = true → scal P e b → (flatK P fs (i + n)).map (FK.arr n b :: ·) = some ks → (Op.eqFields 9999 xs ys (f :: fs)).run P w = .ok r w := by
        intro b n e hu hc1 hc2 hi1 hi2 hb hk
        simp only [Option.map_eq_some_iff] at hk
        obtain ⟨ks', hk', rfl⟩ := hk
        cases l with
        | nil => simp [eqF] at he
        | cons s l =>
          cases m with
          | nil => cases s <;> simp [eqF] at he
          | cons t m =>
            cases s <;> cases t <;> simp only [eqF, reduceCtorEq] at he
            rename_i n1 fx n2 fy
            split at he
            · rename_i p c' e1 e2 h2
              have e1 := Nat.eq_of_beq_eq_true e1
              have e2 := Nat.eq_of_beq_eq_true e2
              subst e1; subst e2
              simp only [Option.some.injEq, Prod.mk.injEq] at he
              obtain ⟨rfl, rfl⟩ := he
              obtain ⟨hn1, hn2⟩ := andP_both hn
              have hn1 : ∀ z, z < n → kin b (fx z) (fy z) := hn1
              obtain ⟨xa, xr, hxe, hx1, hx2⟩ := F2.split (l := (Seg.a n fx).flat) (m := flat l) hx
              obtain ⟨ya, yr, hye, hy1, hy2⟩ := F2.split (l := (Seg.a n fy).flat) (m := flat m) hy
              have lx : xa.length = n := by rw [← hx1.length, Seg.flat_length]; rfl
              have ly : ya.length = n := by rw [← hy1.length, Seg.flat_length]; rfl
              have dx : xs.toList.drop (i + n) = xr := by rw [← List.drop_drop, hxe, ← lx, List.drop_left]
              have dy : ys.toList.drop (i + n) = yr := by rw [← List.drop_drop, hye, ← ly, List.drop_left]
              have ih := eqF_ok fs (i + n) ks' l m p c' xs ys hk' h2 hn2 (by rw [dx]; exact hx2) (by rw [dy]; exact hy2)
              obtain ⟨ie, hie⟩ := Option.isSome_iff_exists.1 hi1
              obtain ⟨it, hit⟩ := Option.isSome_iff_exists.1 hi2
              have hp : ∀ zs : Array Value, (part f.type zs i).run P w = .ok (.agg (zs.extract i (i + n))) w := fun zs => by
                simp only [part, isAgg, Sem.run_bind, run_underlying hu, Result.andThen_ok, Sem.run_pure, if_true, Go.run_sizeOf w hit, hc1]
              have gx : ∀ z, z < n → ∃ x, (xs.extract i (i + n))[z]? = some x ∧ rel φ (fx z) x := fun z hz => by
                obtain ⟨x, h1, h2⟩ := flat_arr_get hx hz
                exact ⟨x, by rw [Array.getElem?_extract]; rw [if_pos (by
                  have : z < (xs.toList.drop i).length := (List.getElem?_eq_some_iff.1 h1).1
                  simp at this; omega)]; simpa using h1, h2⟩
              have gy : ∀ z, z < n → ∃ x, (ys.extract i (i + n))[z]? = some x ∧ rel φ (fy z) x := fun z hz => by
                obtain ⟨x, h1, h2⟩ := flat_arr_get hy hz
                exact ⟨x, by rw [Array.getElem?_extract]; rw [if_pos (by
                  have : z < (ys.toList.drop i).length := (List.getElem?_eq_some_iff.1 h1).1
                  simp at this; omega)]; simpa using h1, h2⟩
              have hitems := run_eqItems_scal (w := w) (φ := φ) hb fx fy (xs.extract i (i + n)) (ys.extract i (i + n)) 9997 (List.range n) fun z hz => by
                have hz : z < n := by simpa using hz
                exact ⟨hn1 z hz, gx z hz, gy z hz⟩
              have harr := run_equalIn_array (P := P) w 9998 (xs.extract i (i + n)) (ys.extract i (i + n)) hu hie
              rw [hc2, hitems] at harr
              simp only [Op.eqFields, hname, ne_eq, not_false_eq_true, if_true, hoff, Sem.run_bind, hp, Result.andThen_ok, harr]
              cases (List.range n).all fun z => eqCb (fx z) (fy z) with
              | false => simp
              | true => simpa using ih
            · simp at he
      split at hk
      · rename_i hu; exact one false hu hk
      · rename_i q hu; exact one true ⟨q, hu⟩ hk
      · rename_i n e hu
        split at hk
        · rename_i hc
          obtain ⟨c1, c2, c3, c4⟩ := hc
          split at hk
          · rename_i hue; exact arr false n e hu c1 c2 c3 c4 hue hk
          · rename_i q hue; exact arr true n e hu c1 c2 c3 c4 ⟨q, hue⟩ hk
          · simp at hk
        · simp at hk
      · simp at hk
    · simp at hk

def nkT (P : Program) (t : TypeId) : NK → Prop
  | .ptr => ∃ e, P.underlying t = some (.pointer e)
  | .fn => ∃ a b c, P.underlying t = some (.func a b c)
  | .sl => ∃ e, P.underlying t = some (.slice e)
  | .map => ∃ a b, P.underlying t = some (.map a b)

theorem nilB_ok {t : TypeId} {kd : NK} (ht : nkT P t kd) {a b : CV} {need : Option Prop} {r : Bool} (h : nilB kd a b = some (need, r)) (hn : needP need) {x y : Value} (hx : rel φ a x) (hy : rel φ b y) (d : Nat) :
    (Op.equalIn (d + 1) t x y).run P w = .ok r w ∧ (∀ op x' y', (eqGuard op t x' y' x y).run P w = .ok () w) ∧ binOp .eql t x y = (do pure (.bool (← Op.equal t x y))) ∧ binOp .neq t x y = (do pure (.bool (!(← Op.equal t x y)))) := by
  cases kd
  case ptr =>
    obtain ⟨e, hu⟩ := ht
    cases a <;> cases b <;> simp only [nilB, reduceCtorEq, Option.some.injEq, Prod.mk.injEq] at h
    all_goals obtain ⟨rfl, rfl⟩ := h
    case nilp.nilp => cases hx; cases hy; exact ⟨by simp [Op.equalIn, run_underlying hu], fun op _ _ => by cases op <;> rfl, rfl, rfl⟩
    case nilp.ptr => obtain ⟨p, _, rfl⟩ := hy; cases hx; exact ⟨by simp [Op.equalIn, run_underlying hu], fun op _ _ => by cases op <;> rfl, rfl, rfl⟩
    case ptr.nilp => obtain ⟨p, _, rfl⟩ := hx; cases hy; exact ⟨by simp [Op.equalIn, run_underlying hu], fun op _ _ => by cases op <;> rfl, rfl, rfl⟩
  case fn =>
    obtain ⟨e1, e2, e3, hu⟩ := ht
    cases a <;> cases b <;> simp only [nilB, reduceCtorEq, Option.some.injEq, Prod.mk.injEq] at h
    all_goals obtain ⟨rfl, rfl⟩ := h
    case nilfn.nilfn => cases hx; cases hy; exact ⟨by simp [Op.equalIn, run_underlying hu], fun op _ _ => by cases op <;> rfl, rfl, rfl⟩
    case nilfn.fn => obtain ⟨l, m, rfl, _⟩ := hy; cases hx; exact ⟨by simp [Op.equalIn, run_underlying hu], fun op _ _ => by cases op <;> rfl, rfl, rfl⟩
    case fn.nilfn => obtain ⟨l, m, rfl, _⟩ := hx; cases hy; exact ⟨by simp [Op.equalIn, run_underlying hu], fun op _ _ => by cases op <;> rfl, rfl, rfl⟩
  case sl =>
    obtain ⟨e, hu⟩ := ht
    cases a <;> cases b <;> simp only [nilB, reduceCtorEq, Option.some.injEq, Prod.mk.injEq] at h
    all_goals obtain ⟨rfl, rfl⟩ := h
    case nils.nils => cases hx; cases hy; exact ⟨by simp [Op.equalIn, run_underlying hu], fun op _ _ => by cases op <;> rfl, rfl, rfl⟩
    case nils.slice a i n =>
      have hn : 0 < n := hn
      obtain ⟨r, cap, rfl, hl, k⟩ := hy
      rcases k with ⟨h0, _⟩ | ⟨p, _, rfl, _⟩
      · omega
      cases hx
      exact ⟨by simp [Op.equalIn, run_underlying hu], fun op _ _ => by cases op <;> rfl, rfl, rfl⟩
    case slice.nils a i n =>
      have hn : 0 < n := hn
      obtain ⟨r, cap, rfl, hl, k⟩ := hx
      rcases k with ⟨h0, _⟩ | ⟨p, _, rfl, _⟩
      · omega
      cases hy
      exact ⟨by simp [Op.equalIn, run_underlying hu], fun op _ _ => by cases op <;> rfl, rfl, rfl⟩
  case map =>
    obtain ⟨e1, e2, hu⟩ := ht
    cases a <;> cases b <;> simp only [nilB, reduceCtorEq, Option.some.injEq, Prod.mk.injEq] at h
    all_goals obtain ⟨rfl, rfl⟩ := h
    case nilm.nilm => cases hx; cases hy; exact ⟨by simp [Op.equalIn, run_underlying hu], fun op _ _ => by cases op <;> rfl, rfl, rfl⟩
    case nilm.map => obtain ⟨p, _, rfl⟩ := hy; cases hx; exact ⟨by simp [Op.equalIn, run_underlying hu], fun op _ _ => by cases op <;> rfl, rfl, rfl⟩
    case map.nilm => obtain ⟨p, _, rfl⟩ := hx; cases hy; exact ⟨by simp [Op.equalIn, run_underlying hu], fun op _ _ => by cases op <;> rfl, rfl, rfl⟩

end Go.AM

namespace Go.AM
set_option linter.unusedVariables false
set_option linter.unusedSimpArgs false
variable {P : Program} {φ : Emb} {w : World}

def YldN (P : Program) (φ : Emb) (n : Nat) (m : Sem Next) (w : World) (v : AV) : Option Blk → Prop
  | none => ∃ x, m.run P w = .ok (.value x) w ∧ relA φ v x
  | some B => ∃ x cs c, m.run P w = .ok (.value x) (w.alloc (.cells cs B.elem)) ∧ relA (φ.ins n ⟨w.heap.size, 0, B.str, c⟩) v x ∧ BRel (φ.ins n ⟨w.heap.size, 0, B.str, c⟩) B ⟨w.heap.size, 0, B.str, c⟩ (w.alloc (.cells cs B.elem))

theorem Yld.next {n : Nat} {m : Sem Value} {v : AV} {B : Option Blk} (h : Yld P φ n m w v B) : YldN P φ n (do pure (Next.value (← m))) w v B := by
  cases B with
  | none => obtain ⟨x, h1, h2⟩ := h; exact ⟨x, by simp [Sem.run_bind, h1, go_sem], h2⟩
  | some B => obtain ⟨x, cs, c, h1, h2⟩ := h; exact ⟨x, cs, c, by simp [Sem.run_bind, h1, go_sem], h2⟩

theorem aasOf_rel {g : Opd → AV} {ρ : Operand → Value} (hg : ∀ x y, opd x = some y → relA φ (g y) (ρ x)) : ∀ (l : List Operand) (m : List Opd) (aq : List AA), opds l = some m → aasOf g m = some aq → F2 (relP φ) aq (l.map ρ)
  | [], m, aq, h1, h2 => by
    simp only [opds, Option.some.injEq] at h1
    subst h1
    simp only [aasOf, Option.some.injEq] at h2
    subst h2
    exact .nil
  | x :: r, m, aq, h1, h2 => by
    simp only [opds] at h1
    split at h1
    · rename_i y l hy hl
      simp only [Option.some.injEq] at h1
      subst h1
      simp only [aasOf] at h2
      split at h2
      · rename_i a ha
        split at h2
        · rename_i t ht
          simp only [Option.some.injEq] at h2
          subst h2
          have := hg x y hy
          rw [ha] at this
          exact .cons this (aasOf_rel hg r l t hl ht)
        · simp at h2
      · simp at h2
    · simp at h1

theorem optG_rel {g : Opd → AV} {ρ : Operand → Value} (hg : ∀ x y, opd x = some y → relA φ (g y) (ρ x)) {x : Option Operand} {y : Option Opd} (h : opdO x = some y) : Opt φ (optG g y) (x.map ρ) := by
  cases x with
  | none => simp only [opdO, Option.some.injEq] at h; subst h; trivial
  | some x =>
    simp only [opdO, Option.map_eq_some_iff] at h
    obtain ⟨z, hz, rfl⟩ := h
    exact hg x z hz

theorem nthA_get {R : AV → Value → Prop} : ∀ {l : List AV} {m : List Value} (i : Nat), F2 R l m → nthA l i ≠ .bot → ∃ x, m[i]? = some x ∧ R (nthA l i) x
  | [], _, i, h, hb => by simp [nthA] at hb
  | _ :: _, _, 0, .cons h _, hb => ⟨_, rfl, h⟩
  | _ :: _, _, i + 1, .cons _ h, hb => by simpa [nthA] using nthA_get i h (by simpa [nthA] using hb)

theorem repl_row {z : List Seg} {zs : Array Value} {k m : Nat} (h : F2 (rel φ) (flat z) zs.toList) (hk : sizes z = k) {cells : Array Value} (hc : cells.toList = ((Array.range (m * k)).map (zs[· % zs.size]!)).toList) {i : Nat} (hi : i < m) :
    ∀ j x, zs.toList[j]? = some x → cells[k * i + j]? = some x := by
  intro j x hx
  have hz : zs.size = k := by rw [← hk, ← flat_length, h.length]; simp
  have hj : j < k := by have := (List.getElem?_eq_some_iff.1 hx).1; simpa [hz] using this
  have hlt : k * i + j < m * k := by
    have : k * i + k ≤ m * k := by rw [Nat.mul_comm m k, ← Nat.mul_succ]; exact Nat.mul_le_mul_left _ hi
    omega
  have e : cells[k * i + j]? = cells.toList[k * i + j]? := by simp
  rw [e, hc]
  simp only [Array.toList_map, Array.toList_range, List.getElem?_map, List.getElem?_range hlt, Option.map_some]
  rw [hz, Nat.mul_add_mod, Nat.mod_eq_of_lt hj]
  have hj' : j < zs.size := by omega
  have : zs[j]? = some x := by simpa using hx
  rw [Array.getElem!_eq_getD, Array.getD_eq_getD_getElem?, this]
  rfl

theorem wrap64_id {n : Int} (h0 : 0 ≤ n) (h1 : n ≤ 140737488355328) : IntKind.i64.wrap n = n := by
  rw [IntKind.wrap_i64]; omega

theorem yld_mkslice {t e : TypeId} {k b id : Nat} {z : List Seg} {len cap : Value} {k1 k2 : IntKind} {n c : Int}
    (hz : ∃ i zv, P.info? e = some i ∧ i.zero = some zv ∧ F2 (rel φ) (flat z) zv.cells.toList) (hf : φ id = none) (hu : P.underlying t = some (.slice e)) (hk : sizeT P e = some k) (hb : bytesT P e = some b) (hk0 : k ≠ 0) (hb0 : b ≠ 0) (hzk : sizes z = k)
    (g1 : len = .int k1 n) (g2 : cap = .int k2 c) (hn : 0 ≤ n ∧ n ≤ c ∧ c * (b : Int) ≤ 140737488355328) {o : Oper} {ρ : Operand → Value} {x y : Operand} (ho : o.op = .makeSlice t x y) (hx : ρ x = len) (hy : ρ y = cap) :
    YldN P φ id (execOp ρ o) w (.c (.slice ⟨id, 0, 0, 0⟩ false n.toNat)) (some ⟨k, some n.toNat, fun _ => z, e, true⟩) := by
  obtain ⟨i, zv, hi, hzv, hF⟩ := hz
  obtain ⟨h0, hnc, hcb⟩ := hn
  have hk' : i.size = k := by unfold sizeT at hk; rw [hi] at hk; simpa using hk
  have hb' : i.bytes = b := by unfold bytesT at hb; rw [hi] at hb; simpa using hb
  have hc0 : 0 ≤ c := by omega
  have hcle : c ≤ 140737488355328 := by
    have : c * 1 ≤ c * (b : Int) := Int.mul_le_mul_of_nonneg_left (by omega) hc0
    omega
  obtain ⟨m, rfl⟩ := Int.eq_ofNat_of_zero_le hc0
  have hwn : IntKind.i64.wrap n = n := wrap64_id h0 (by omega)
  have hwc : IntKind.i64.wrap (m : Int) = m := wrap64_id hc0 hcle
  have hF0 := hF
  let cells := (Array.range (m * k)).map (zv.cells[· % zv.cells.size]!)
  have hsz : cells.size = k * m := by simp [cells, Nat.mul_comm]
  have hzc : zv.cells.size = k := by rw [← hzk, ← flat_length, hF.length]; simp
  have hnl : ¬ ((b : Int) * (m : Int) > 281474976710656) := by rw [Int.mul_comm]; omega
  refine ⟨.slice (some ⟨w.heap.size, 0, none⟩) n.toNat m, cells, m, ?_, ?_, ?_⟩
  · subst g1 g2
    simp only [execOp, ho, hx, hy]
    have hti : (typeInfo e).run P w = .ok i w := by simp [typeInfo, hi, go_sem]
    simp only [Instr.makeSlice, Sem.run_bind, run_underlying' hu, Result.andThen_ok, asInt, asIntOf, Sem.run_pure, hti, hwn, hwc, hb', run_askRoom, run_sizeOf hk, Int.toNat_natCast]
    rw [if_neg (by simp; omega)]
    simp only [Sem.run_bind, Sem.run_pure, Result.andThen_ok, run_askRoom, run_sizeOf hk]
    by_cases hm : m * k = 0
    · rw [if_pos hm]
      have : cells = #[] := by have : cells.size = 0 := by rw [hsz, Nat.mul_comm]; exact hm
                               exact Array.eq_empty_of_size_eq_zero this
      simp [newRow, go_sem, this, hm]
    · rw [if_neg hm]
      simp [newRow, go_sem, run_zeroValue hi hzv, cells]
  · refine ⟨_, m, rfl, by omega, .inr ⟨_, φ.ins_self _ _, by simp [Place.at], fun _ => ⟨rfl, rfl, by simp⟩⟩⟩
  · refine brel_new (B := ⟨k, some n.toNat, fun _ => z, e, true⟩) (.inr hk0) (by simp [Blk.n]; omega) (by omega) hsz fun i' hi' => ?_
    have hi2 : i' < m := by simp [Blk.n] at hi'; omega
    exact ⟨zv.cells.toList, hF.mono fun _ _ => rel_mono (Emb.le_ins hf), by simp [hzc], repl_row hF hzk (by rfl) hi2⟩

theorem st1_no_p {H : Heap} {a : AA} {x : CV} {need : Option Prop} {v : AV} {B : Option Blk} (h : st1 H a x = .p need v B) : False := by
  unfold st1 at h
  repeat' (split at h)
  all_goals simp at h
theorem tob_no_p {H : Heap} {t : TypeId} {x : AV} {need : Option Prop} {v : AV} {B : Option Blk} (h : tob H t x = .p need v B) : False := by
  unfold tob at h
  split at h <;> simp at h
theorem mapR_no_p {k : MK} {ks : List Bool} {z : CV} {H : Heap} {x y u : AV} {need : Option Prop} {v : AV} {B : Option Blk} (h : mapR k ks z H x y u = .p need v B) : False := by
  unfold mapR mapR1 at h
  repeat' (split at h)
  all_goals simp at h
theorem clr_no_p {H : Heap} {k : Nat} {z : List Seg} {x : AV} {need : Option Prop} {v : AV} {B : Option Blk} (h : clr H k z x = .p need v B) : False := by
  unfold clr at h
  repeat' (split at h)
  all_goals simp at h
theorem cpy_no_p {H : Heap} {k : Nat} {x y : AV} {need : Option Prop} {v : AV} {B : Option Blk} (h : cpy H k x y = .p need v B) : False := by
  unfold cpy at h
  repeat' (split at h)
  all_goals simp at h
theorem stn_no_p {H : Heap} {m : Nat} {a : AA} {x : List Seg} {need : Option Prop} {v : AV} {B : Option Blk} (h : stn H m a x = .p need v B) : False := by
  unfold stn at h
  repeat' (split at h)
  all_goals simp at h

theorem run_builtin {b : Builtin} {args : Array Operand} {ts : Array TypeId} {ρ : Operand → Value} {o : Oper} (ho : o.op = .call { callee := .builtin b, args := args, argTypes := ts }) :
    ∃ cs, ∀ w, (execOp ρ o).run P w = (builtin b ts o.type cs (args.map ρ)).run P w := by
  refine ⟨args.map fun x => match x with | .const _ => true | _ => false, fun w => ?_⟩
  simp only [execOp, ho, resolve, Sem.run_bind, Sem.run_pure, Result.andThen_ok, invoke]
  rfl

theorem app_p {H : Heap} {bytes : Nat} {t : TypeId} {k : Nat} {x y : AV} {need : Option Prop} {v : AV} {B : Option Blk} (h : app H bytes t k x y = .p need v B) : x = .c .nils ∧ y = .c .nils ∧ v = .c .nils ∧ B = none := by
  unfold app at h
  split at h
  · repeat' (split at h)
    all_goals simp at h
  · split at h
    · simp only [Res.p.injEq] at h
      exact ⟨rfl, rfl, h.2.1.symm, h.2.2.symm⟩
    · simp at h
  · simp at h

set_option maxHeartbeats 1000000 in
theorem op_p {o : Oper} {ao : AOp} (hs : stripOp P o.op = some ao) {s : St} {π : Path} {a : Act} (hg : Gets φ s π a) (hR : Reads φ s.heap w) (hf : φ s.heap.next = none)
    {need : Option Prop} {v : AV} {B : Option Blk} (h : aop s π ao = .p need v B) (hn : needP need) : YldN P φ s.heap.next (execOp a.eval o) w v B := by
  obtain ⟨dst, op, type, pos, after, guard⟩ := o
  simp only at hs
  have hmv : ∀ x y, opd x = some y → aop s π (.mv y) = .p need v B → YldN P φ s.heap.next (pure (.value (a.eval x))) w v B := by
    intro x y hy h
    have := hg.get x y hy
    simp only [aop] at h
    split at h
    · simp at h
    · simp only [Res.p.injEq] at h
      obtain ⟨rfl, rfl, rfl⟩ := h
      exact ⟨_, rfl, this⟩
  cases op
  case makeMap t r =>
    cases r with
    | some x => simp [stripOp] at hs
    | none =>
      simp only [stripOp, Option.map_eq_some_iff] at hs
      obtain ⟨⟨ks, z⟩, _, rfl⟩ := hs
      simp only [aop] at h
      exact (mapR_no_p h).elim
  case lookup t x i ok =>
    simp only [stripOp] at hs
    split at hs
    · simp only [Option.some.injEq] at hs
      subst hs
      simp only [aop] at h
      exact (mapR_no_p h).elim
    · simp at hs
  case mapUpdate t m k' v' =>
    simp only [stripOp] at hs
    split at hs
    · simp only [Option.some.injEq] at hs
      subst hs
      simp only [aop] at h
      exact (mapR_no_p h).elim
    · simp at hs
  case move x =>
    simp only [stripOp, Option.map_eq_some_iff] at hs
    obtain ⟨y, hy, rfl⟩ := hs
    exact hmv x y hy h
  case assign x =>
    simp only [stripOp, Option.map_eq_some_iff] at hs
    obtain ⟨y, hy, rfl⟩ := hs
    exact hmv x y hy h
  case pick c x y =>
    cases c <;> simp only [stripOp, reduceCtorEq] at hs
    rename_i cs
    split at hs
    · rename_i x' y' hx hy
      simp only [Option.some.injEq] at hs
      subst hs
      simp only [aop] at h
      split at h
      · rename_i c hc
        split at h
        · rename_i bx b_y h1 h2
          simp only [Res.p.injEq] at h
          obtain ⟨rfl, rfl, rfl⟩ := h
          have hcv := hg.cs cs
          rw [hc] at hcv
          have hcv' : a.tmps.getD cs undef = .bool c := hcv
          refine ⟨.bool (selB c bx b_y), ?_, rfl⟩
          have hev : a.eval (.tmp cs) = .bool c := hcv'
          cases c with
          | true =>
            have := hg.sel cs x x' true true hx hc rfl
            rw [h1] at this
            have e : a.eval x = .bool bx := this
            simp only [execOp, hev, asBool, Sem.run_bind, Sem.run_pure, Result.andThen_ok, if_true, e, selB]
          | false =>
            have := hg.sel cs y y' false false hy hc rfl
            rw [h2] at this
            have e : a.eval y = .bool b_y := this
            simp only [execOp, hev, asBool, Sem.run_bind, Sem.run_pure, Result.andThen_ok, Bool.false_eq_true, if_false, e, selB]
        · simp at h
      · simp at h
    · simp at hs
  case alloc t =>
    simp only [stripOp, Option.map_eq_some_iff] at hs
    obtain ⟨z, hz, rfl⟩ := hs
    simp only [aop, Res.p.injEq] at h
    obtain ⟨rfl, rfl, rfl⟩ := h
    exact (yld_alloc hf hz).next
  case box t x =>
    simp only [stripOp, Option.map_eq_some_iff] at hs
    obtain ⟨y, hy, rfl⟩ := hs
    simp only [aop] at h
    split at h
    · rename_i l hl
      simp only [Res.p.injEq] at h
      obtain ⟨rfl, rfl, rfl⟩ := h
      exact (yld_box hf (segsOf_cells hl (hg.get x y hy))).next
    · simp at h
  case build t ps =>
    have hs0 := hs
    simp only [stripOp] at hs
    have key : ∀ z qs, stripOp P (.build t ps) = some (.build z qs) → aop s π (.build z qs) = .p need v B → YldN P φ s.heap.next (execOp a.eval ⟨dst, .build t ps, type, pos, after, guard⟩) w v B := by
      intro z qs hs h
      simp only [aop] at h
      split at h
      · rename_i ls hls
        split at h
        · rename_i l hl
          simp only [Res.p.injEq] at h
          obtain ⟨rfl, rfl, rfl⟩ := h
          obtain ⟨x, h1, h2⟩ := yld_build (w := w) hg.get hs hls hl
          exact Yld.next (B := none) ⟨x, h1, h2⟩
        · simp at h
      · simp at h
    split at hs
    · split at hs
      · simp only [Option.map_eq_some_iff] at hs
        obtain ⟨qs, _, rfl⟩ := hs
        exact key _ _ hs0 h
      · simp at hs
    · split at hs
      · simp only [Option.map_eq_some_iff] at hs
        obtain ⟨qs, _, rfl⟩ := hs
        exact key _ _ hs0 h
      · simp at hs
    · simp at hs
  case buildSlice t m ps =>
    have hs0 := hs
    simp only [stripOp] at hs
    split at hs
    · split at hs
      · split at hs
        · simp only [Option.map_eq_some_iff] at hs
          obtain ⟨qs, _, rfl⟩ := hs
          simp only [aop] at h
          split at h
          · rename_i ls hls
            split at h
            · rename_i l hl
              split at h
              · rename_i hr
                simp only [Res.p.injEq] at h
                obtain ⟨rfl, rfl, rfl⟩ := h
                exact (yld_bslice hf hg.get hs0 hls hl hr).next
              · simp at h
            · simp at h
          · simp at h
        · simp at hs
      · simp at hs
    · simp at hs
  case load t x =>
    simp only [stripOp] at hs
    split at hs
    · rename_i x' ht hx
      simp only [Option.some.injEq] at hs
      subst hs
      simp only [aop] at h
      split at h
      · rename_i p hp
        have hpt := hg.get x x' hx
        rw [hp] at hpt
        obtain ⟨pl, hpl, hev⟩ := hpt
        obtain ⟨rfl, y, hy, hr⟩ := ld1_ok hR h hn hpl
        exact Yld.next (B := none) ⟨y, by rw [hev]; exact run_ld1 ht hy, hr⟩
      · simp at h
    · rename_i n x' ht hsz hx
      simp only [Option.some.injEq] at hs
      subst hs
      simp only [aop] at h
      split at h
      · rename_i p hp
        have hpt := hg.get x x' hx
        rw [hp] at hpt
        obtain ⟨pl, hpl, hev⟩ := hpt
        obtain ⟨rfl, xs, hl, hc, l, rfl, hF⟩ := ldn_ok hR h hn hpl
        exact Yld.next (B := none) ⟨.agg xs.toArray, by rw [hev]; exact run_ldn ht hsz hl hc, xs.toArray, rfl, hF⟩
      · simp at h
    · simp at hs
  case nilCheck x =>
    simp only [stripOp, Option.map_eq_some_iff] at hs
    obtain ⟨y, hy, rfl⟩ := hs
    simp only [aop] at h
    have hv := hg.get x y hy
    split at h
    · rename_i p hp
      rw [hp] at hv
      simp only [Res.p.injEq] at h
      obtain ⟨rfl, rfl, rfl⟩ := h
      have hv0 := hv
      obtain ⟨pl, hpl, hev⟩ := hv
      refine ⟨a.eval x, ?_, hv0⟩
      simp only [execOp, hev]
      rfl
    · rename_i f a1 a2 hp
      rw [hp] at hv
      simp only [Res.p.injEq] at h
      obtain ⟨rfl, rfl, rfl⟩ := h
      have hv0 := hv
      obtain ⟨l, m, hev, _⟩ := hv
      refine ⟨a.eval x, ?_, hv0⟩
      simp only [execOp, hev]
      rfl
    · simp at h
  case binOp op t x y yt =>
    simp only [stripOp] at hs
    split at hs
    · rename_i k x' y' hu hx hy
      simp only [Option.some.injEq] at hs
      subst hs
      simp only [aop] at h
      have h1 := hg.get x x' hx
      have h2 := hg.get y y' hy
      have hb := h
      unfold bin at h
      split at h
      · rename_i k1 m k2 n e1 e2
        rw [e1] at h1 hb
        rw [e2] at h2 hb
        have g1 : a.eval x = .int k1 m := h1
        have g2 : a.eval y = .int k2 n := h2
        obtain ⟨rfl, z, hz, hr⟩ := bin_int (w := w) (P := P) t op k1 k2 m n hb hn
        refine ⟨z, ?_, hr⟩
        simp only [execOp, g1, g2, Sem.run_bind, eqGuard_int, Result.andThen_ok, hz, Sem.run_pure]
      · simp at h
    · rename_i x' y' hu hx hy
      have h1 := hg.get x x' hx
      have h2 := hg.get y y' hy
      have key : ∀ neg, op = (if neg then .neq else .eql) → aop s π (.eqB neg x' y') = .p need v B → YldN P φ s.heap.next (execOp a.eval ⟨dst, .binOp op t x y yt, type, pos, after, guard⟩) w v B := by
        intro neg ho h
        simp only [aop] at h
        unfold eqB at h
        split at h
        · rename_i b1 b2 e1 e2
          rw [e1] at h1
          rw [e2] at h2
          have g1 : a.eval x = .bool b1 := h1
          have g2 : a.eval y = .bool b2 := h2
          have he : (Op.equal t (.bool b1) (.bool b2)).run P w = .ok (b1 == b2) w := by
            simp only [Op.equal, Op.maxDepth]
            exact run_equalIn_bool w 9999 t b1 b2 hu
          cases neg <;> simp only [Res.p.injEq] at h <;> obtain ⟨rfl, rfl, rfl⟩ := h <;> subst ho <;> refine ⟨_, ?_, rfl⟩ <;>
            simp [execOp, g1, g2, Sem.run_bind, eqGuard_bool, Result.andThen_ok, binOp, he, Sem.run_pure]
        · simp at h
      split at hs
      · simp only [Option.some.injEq] at hs
        subst hs
        exact key false rfl h
      · simp only [Option.some.injEq] at hs
        subst hs
        exact key true rfl h
      · simp at hs
    · rename_i fs x' y' hu hx hy
      have h1 := hg.get x x' hx
      have h2 := hg.get y y' hy
      split at hs
      · rename_i neg ks ho hk
        split at hs
        · rename_i hg12
          obtain ⟨g1, g2⟩ := hg12
          simp only [Option.some.injEq] at hs
          subst hs
          simp only [aop] at h
          unfold eqS at h
          split at h
          · rename_i l m e1 e2
            split at h
            · rename_i p r he
              simp only [Res.p.injEq] at h
              obtain ⟨rfl, rfl, rfl⟩ := h
              rw [e1] at h1
              rw [e2] at h2
              obtain ⟨xs, ex, hx2⟩ := h1
              obtain ⟨ys, ey, hy2⟩ := h2
              have hfs : P.fieldsOf t = fs := by simp [Program.fieldsOf, hu]
              have hq := eqF_ok (w := w) fs.toList 0 ks l m p r xs ys hk he hn (by simpa using hx2) (by simpa using hy2)
              have heq : (Op.equalIn 10000 t (.agg xs) (.agg ys)).run P w = .ok r w := by
                rw [run_equalIn_struct w 9999 t xs ys (by rw [hfs]; exact hu) g1, hfs]; exact hq
              refine ⟨.bool (negIf neg r), ?_, rfl⟩
              simp only [execOp, ex, ey, Sem.run_bind, run_eqGuard_agg w op t x y xs ys g2, Result.andThen_ok]
              cases op <;> simp only [eqOp, reduceCtorEq, Option.some.injEq] at ho <;> subst ho
              · rw [run_eql_struct, heq]; rfl
              · rw [run_neq_struct, heq]; rfl
            · simp at h
          · simp at h
        · simp at hs
      · simp at hs
    all_goals first
      | (rename_i x' y' hu hx hy
         have h1 := hg.get x x' hx
         have h2 := hg.get y y' hy
         simp only [Option.map_eq_some_iff] at hs
         obtain ⟨neg, ho, rfl⟩ := hs
         simp only [aop] at h
         unfold nilq at h
         split at h
         · rename_i c1 c2 e1 e2
           split at h
           · rename_i p r he
             simp only [Res.p.injEq] at h
             obtain ⟨rfl, rfl, rfl⟩ := h
             rw [e1] at h1
             rw [e2] at h2
             obtain ⟨k1, k2, k3, k4⟩ := nilB_ok (w := w) (P := P) (t := t) (by first | exact ⟨_, hu⟩ | exact ⟨_, _, hu⟩ | exact ⟨_, _, _, hu⟩) he hn h1 h2 9999
             refine ⟨.bool (negIf neg r), ?_, rfl⟩
             have k1' : (Op.equal t (a.eval x) (a.eval y)).run P w = .ok r w := k1
             simp only [execOp, Sem.run_bind, k2, Result.andThen_ok]
             cases op <;> simp only [eqOp, reduceCtorEq, Option.some.injEq] at ho <;> subst ho
             · simp only [k3, Sem.run_bind, k1', Result.andThen_ok, Sem.run_pure, negIf]
             · simp only [k4, Sem.run_bind, k1', Result.andThen_ok, Sem.run_pure, negIf]
           · simp at h
         · simp at h)
      | (simp at hs; done)
      | skip
    · rename_i x' y' hu hx hy
      have h1 := hg.get x x' hx
      have h2 := hg.get y y' hy
      have key : ∀ neg, op = (if neg then .neq else .eql) → aop s π (.eqT neg x' y') = .p need v B → YldN P φ s.heap.next (execOp a.eval ⟨dst, .binOp op t x y yt, type, pos, after, guard⟩) w v B := by
        intro neg ho h
        simp only [aop] at h
        unfold eqT at h
        split at h
        · rename_i b1 b2 e1 e2
          rw [e1] at h1
          rw [e2] at h2
          have g1 : a.eval x = .string b1 := h1
          have g2 : a.eval y = .string b2 := h2
          cases neg <;> simp only [Res.p.injEq] at h <;> obtain ⟨rfl, rfl, rfl⟩ := h <;> subst ho <;> refine ⟨_, ?_, rfl⟩ <;>
            simp only [execOp, g1, g2, Sem.run_bind, eqGuard_str, Result.andThen_ok, binOp_string_eql, binOp_string_neq, ByteArray.toList_eq, Sem.run_pure, eqTb, negIf, if_true, if_false, Bool.false_eq_true]
        · simp at h
      split at hs
      · simp only [Option.some.injEq] at hs
        subst hs
        simp only [aop] at h
        unfold cat at h
        split at h
        · rename_i b1 b2 e1 e2
          rw [e1] at h1
          rw [e2] at h2
          have g1 : a.eval x = .string b1 := h1
          have g2 : a.eval y = .string b2 := h2
          simp only [Res.p.injEq] at h
          obtain ⟨rfl, rfl, rfl⟩ := h
          refine ⟨.string (b1 ++ b2), ?_, rfl⟩
          simp only [execOp, g1, g2, Sem.run_bind, eqGuard_str, Result.andThen_ok, binOp_string_add, run_string_add_sum w b1 b2 hn, Sem.run_pure]
        · simp at h
      · simp only [Option.some.injEq] at hs
        subst hs
        exact key false rfl h
      · simp only [Option.some.injEq] at hs
        subst hs
        exact key true rfl h
      · simp at hs
  case unOp op t x =>
    simp only [stripOp, Option.map_eq_some_iff] at hs
    obtain ⟨y, hy, rfl⟩ := hs
    simp only [aop] at h
    have hv := hg.get x y hy
    unfold un at h
    split at h
    · rename_i b e
      rw [e] at hv
      have g : a.eval x = .bool b := hv
      simp only [Res.p.injEq] at h
      obtain ⟨rfl, rfl, rfl⟩ := h
      exact ⟨_, by simp only [execOp, g, Op.unary, Sem.run_bind, Sem.run_pure, Result.andThen_ok], rfl⟩
    · rename_i k n e
      rw [e] at hv
      have g : a.eval x = .int k n := hv
      simp only [Res.p.injEq] at h
      obtain ⟨rfl, rfl, rfl⟩ := h
      exact ⟨_, by simp only [execOp, g, Op.unary, Op.intArith, Sem.run_bind, Sem.run_pure, Result.andThen_ok], rfl⟩
    · rename_i k n e
      rw [e] at hv
      have g : a.eval x = .int k n := hv
      simp only [Res.p.injEq] at h
      obtain ⟨rfl, rfl, rfl⟩ := h
      exact ⟨_, by simp only [execOp, g, Op.unary, Op.intBits, Sem.run_bind, Sem.run_pure, Result.andThen_ok], rfl⟩
    · simp at h
  case convert src dt x =>
    simp only [stripOp] at hs
    split at hs
    · rename_i d k y hu1 hu2 hy
      simp only [Option.some.injEq] at hs
      subst hs
      simp only [aop] at h
      have hv := hg.get x y hy
      split at h
      · rename_i k' n e
        rw [e] at hv
        have g : a.eval x = .int k' n := hv
        simp only [Res.p.injEq] at h
        obtain ⟨rfl, rfl, rfl⟩ := h
        refine ⟨.int k (k.wrap n), ?_, rfl⟩
        simp only [execOp, g, convert, Sem.run_bind, run_underlying' hu1, run_underlying' hu2, Result.andThen_ok, Conv.intToInt, Sem.run_pure]
      · simp at h
    · split at hs
      · simp only [Option.some.injEq] at hs
        subst hs
        simp only [aop] at h
        exact (tob_no_p h).elim
      · simp at hs
    · simp at hs
  case makeFunc fn first caps =>
    cases fn <;> simp only [stripOp, reduceCtorEq] at hs
    rename_i f
    split at hs
    · rename_i l m hl hm
      simp only [Option.some.injEq] at hs
      subst hs
      simp only [aop] at h
      split at h
      · rename_i l' m' hl' hm'
        simp only [Res.p.injEq] at h
        obtain ⟨rfl, rfl, rfl⟩ := h
        refine ⟨.func (.func f) (first.map a.eval) (caps.map a.eval), ?_, _, _, rfl, ?_, ?_⟩
        · simp only [execOp, Instr.makeFunc, Sem.run_bind, Sem.run_pure, Result.andThen_ok]
        · rw [Array.toList_map]; exact aasOf_rel hg.get _ _ _ hl hl'
        · rw [Array.toList_map]; exact aasOf_rel hg.get _ _ _ hm hm'
      · simp at h
    · simp at hs
  case makeSlice t len cap =>
    simp only [stripOp] at hs
    split at hs
    · rename_i e hu
      split at hs
      · rename_i z k b x y hz hk hb hx hy
        split at hs
        · rename_i hk0
          obtain ⟨hk0, hb0, hzk⟩ := hk0
          simp only [Option.some.injEq] at hs
          subst hs
          simp only [aop] at h
          split at h
          · rename_i k1 n k2 c e1 e2
            have g1 := hg.get len x hx
            have g2 := hg.get cap y hy
            rw [e1] at g1
            rw [e2] at g2
            have g1' : a.eval len = .int k1 n := g1
            have g2' : a.eval cap = .int k2 c := g2
            simp only [Res.p.injEq] at h
            obtain ⟨rfl, rfl, rfl⟩ := h
            exact yld_mkslice (zeroOf_rel φ hz) hf hu hk hb hk0 hb0 hzk g1' g2' hn rfl rfl rfl
          · simp at h
        · simp at hs
      · simp at hs
    · simp at hs
  case slice t x lo hi mx =>
    cases mx with
    | some m => simp [stripOp] at hs
    | none =>
      simp only [stripOp] at hs
      split at hs
      · rename_i e x' lo' hi' hu hx hlo hhi
        simp only [Option.map_eq_some_iff] at hs
        obtain ⟨k, hk, rfl⟩ := hs
        simp only [aop] at h
        obtain ⟨rfl, z, hz, hr⟩ := yld_slc (P := P) hu hk hR (hg.get x x' hx) (optG_rel hg.get hlo) (optG_rel hg.get hhi) h hn
        exact Yld.next (B := none) ⟨z, hz, hr⟩
      · rename_i arr x' lo' hi' hu hx hlo hhi
        split at hs
        · rename_i n e hua
          split at hs
          · rename_i hk
            simp only [Option.some.injEq] at hs
            subst hs
            simp only [aop] at h
            split at h
            · rename_i p hp
              split at h
              · rename_i l ln hh hhn h1 h2
                simp only [Res.p.injEq] at h
                obtain ⟨rfl, rfl, rfl⟩ := h
                have hv := hg.get x x' hx
                rw [hp] at hv
                obtain ⟨z, hz, hr⟩ := yld_slcA (P := P) (w := w) (.inr ⟨arr, hu, hua⟩) hk hv (optG_rel hg.get hlo) (optG_rel hg.get hhi) h1 h2 hn
                exact Yld.next (B := none) ⟨z, hz, hr⟩
              · simp at h
            · simp at h
          · simp at hs
        · simp at hs
      · rename_i n e x' lo' hi' hu hx hlo hhi
        split at hs
        · rename_i hk
          simp only [Option.some.injEq] at hs
          subst hs
          simp only [aop] at h
          split at h
          · rename_i p hp
            split at h
            · rename_i l ln hh hhn h1 h2
              simp only [Res.p.injEq] at h
              obtain ⟨rfl, rfl, rfl⟩ := h
              have hv := hg.get x x' hx
              rw [hp] at hv
              obtain ⟨z, hz, hr⟩ := yld_slcA (P := P) (w := w) (.inl hu) hk hv (optG_rel hg.get hlo) (optG_rel hg.get hhi) h1 h2 hn
              exact Yld.next (B := none) ⟨z, hz, hr⟩
            · simp at h
          · simp at h
        · simp at hs
      · simp at hs
  case fieldAddr t x fi =>
    simp only [stripOp] at hs
    split at hs
    · rename_i f y hf' hy
      split at hs
      · rename_i m hm
        simp only [Option.some.injEq] at hs
        subst hs
        simp only [aop] at h
        split at h
        · rename_i p hp
          split at h
          · rename_i hz
            simp only [Res.p.injEq] at h
            obtain ⟨rfl, rfl, rfl⟩ := h
            have hv := hg.get x y hy
            rw [hp] at hv
            obtain ⟨z, h1, h2⟩ := yld_faddr (w := w) hf' hm hv (Nat.eq_of_beq_eq_true hz)
            exact Yld.next (B := none) ⟨z, h1, h2⟩
          · simp at h
        · simp at h
      · simp at hs
    · simp at hs
  case field t x fi =>
    simp only [stripOp] at hs
    split at hs
    · rename_i f y hf' hy
      have hv := hg.get x y hy
      unfold fieldAt at hf'
      split at hf'
      · rename_i fs hu
        split at hs
        · rename_i n ht hsz
          simp only [Option.some.injEq] at hs
          subst hs
          simp only [aop] at h
          unfold fieldOf at h
          split at h
          · rename_i l e
            rw [e] at hv
            obtain ⟨cs, g, hF⟩ := hv
            simp only at h
            split at h
            · rename_i l' hl'
              simp only [Res.p.injEq] at h
              obtain ⟨rfl, rfl, rfl⟩ := h
              obtain ⟨e1, e2⟩ := cut_flat hl'
              refine ⟨.agg (cs.extract f.offset (f.offset + n)), ?_, _, rfl, ?_⟩
              · simp only [execOp, g, Instr.field, Sem.run_bind, run_underlying' hu, Result.andThen_ok, hf', asAgg, Sem.run_pure, part, run_isAgg ht, if_true, run_sizeOf hsz]
              · rw [e1, Array.toList_extract]
                simpa using (hF.drop _).take _
            · simp at h
          · simp at h
        · rename_i ht
          simp only [Option.some.injEq] at hs
          subst hs
          simp only [aop] at h
          unfold fieldOf at h
          split at h
          · rename_i l e
            rw [e] at hv
            obtain ⟨cs, g, hF⟩ := hv
            simp only at h
            split at h
            · rename_i cv hcv
              simp only [Res.p.injEq] at h
              obtain ⟨rfl, rfl, rfl⟩ := h
              have hfl := segAt_flat _ _ _ hcv 0 (by simp [Seg.size])
              obtain ⟨z, hz, hr⟩ := hF.get (i := f.offset) (a := cv) (by simpa [Seg.flat] using hfl)
              have hz' : cs[f.offset]? = some z := by simpa using hz
              refine ⟨z, ?_, hr⟩
              simp only [execOp, g, Instr.field, Sem.run_bind, run_underlying' hu, Result.andThen_ok, hf', asAgg, Sem.run_pure, part, run_isAgg ht, Bool.false_eq_true, if_false, hz']
            · simp at h
          · simp at h
        · simp at hs
      · simp at hf'
    · simp at hs
  case indexAddr t x i =>
    simp only [stripOp] at hs
    split at hs
    · rename_i e x' i' hu hx hi
      simp only [Option.map_eq_some_iff] at hs
      obtain ⟨k, hk, rfl⟩ := hs
      simp only [aop] at h
      split at h
      · rename_i p inner len ki n e1 e2
        split at h
        · rename_i hst
          simp only [Res.p.injEq] at h
          obtain ⟨rfl, rfl, rfl⟩ := h
          have h1 := hg.get x x' hx
          have h2 := hg.get i i' hi
          rw [e1] at h1
          rw [e2] at h2
          have g2 : a.eval i = .int ki n := h2
          obtain ⟨z, hz, hr⟩ := yld_iaddr (ki := ki) hu hk hR h1 hst hn.1 hn.2
          exact Yld.next (B := none) ⟨z, by rw [g2]; exact hz, hr⟩
        · simp at h
      · rename_i p len top ki n e1 e2
        split at h
        · rename_i hst
          simp only [Res.p.injEq] at h
          obtain ⟨rfl, rfl, rfl⟩ := h
          have h1 := hg.get x x' hx
          have h2 := hg.get i i' hi
          rw [e1] at h1
          rw [e2] at h2
          have g2 : a.eval i = .int ki n := h2
          obtain ⟨z, hz, hr⟩ := yld_iaddr (ki := ki) hu hk hR (show relA _ (.c (.slice p false len)) _ from rel_full h1) hst hn.1 hn.2
          exact Yld.next (B := none) ⟨z, by rw [g2]; exact hz, hr⟩
        · simp at h
      · simp at h
    · rename_i m e x' i' hu hx hi
      split at hs
      · rename_i hk
        simp only [Option.some.injEq] at hs
        subst hs
        simp only [aop] at h
        split at h
        · rename_i p ki n e1 e2
          simp only [Res.p.injEq] at h
          obtain ⟨rfl, rfl, rfl⟩ := h
          have h1 := hg.get x x' hx
          have h2 := hg.get i i' hi
          rw [e1] at h1
          rw [e2] at h2
          have g2 : a.eval i = .int ki n := h2
          obtain ⟨z, hz, hr⟩ := yld_iaddrA (ki := ki) (w := w) hu hk h1 hn.1 hn.2
          exact Yld.next (B := none) ⟨z, by rw [g2]; exact hz, hr⟩
        · simp at h
      · simp at hs
    · simp at hs
  case index t x i =>
    simp only [stripOp] at hs
    split at hs
    · rename_i x' i' hu hx hi
      have h1 := hg.get x x' hx
      have h2 := hg.get i i' hi
      simp only [Option.some.injEq] at hs
      subst hs
      simp only [aop] at h
      unfold idxT at h
      split at h
      · rename_i b1 k n e1 e2
        rw [e1] at h1
        rw [e2] at h2
        have g1 : a.eval x = .string b1 := h1
        have g2 : a.eval i = .int k n := h2
        simp only [Res.p.injEq] at h
        obtain ⟨rfl, rfl, rfl⟩ := h
        have hn' : 0 ≤ n ∧ n < (b1.size : Int) := hn
        refine ⟨.int .u8 (byteAt b1 n.toNat), ?_, rfl⟩
        have hlt : n.toNat < b1.size := by omega
        simp only [execOp, g1, g2, Sem.run_bind, run_index_string _ t b1 k n hu, dif_pos hn', Result.andThen_ok, Sem.run_pure, byteAt, ByteArray.getElem?_lt' b1 _ hlt]
      · simp at h
    · simp at hs
  case extract x i =>
    simp only [stripOp, Option.map_eq_some_iff] at hs
    obtain ⟨y, hy, rfl⟩ := hs
    simp only [aop] at h
    have hv := hg.get x y hy
    split at h
    · rename_i l e
      rw [e] at hv
      obtain ⟨xs, g, hF⟩ := hv
      split at h
      · simp at h
      · rename_i hne
        simp only [Res.p.injEq] at h
        obtain ⟨rfl, rfl, rfl⟩ := h
        obtain ⟨z, hz, hr⟩ := nthA_get i hF hne
        have hz' : xs[i]? = some z := by simpa using hz
        refine ⟨z, ?_, relA_of_rel1 hr⟩
        simp only [execOp, g, Instr.extract, hz', Sem.run_bind, Sem.run_pure, Result.andThen_ok]
    · simp at h
  case store t x y =>
    simp only [stripOp] at hs
    split at hs
    · simp only [Option.some.injEq] at hs
      subst hs
      simp only [aop] at h
      split at h
      · exact (st1_no_p h).elim
      · simp at h
    · simp only [Option.some.injEq] at hs
      subst hs
      simp only [aop] at h
      split at h
      · exact (stn_no_p h).elim
      · simp at h
    · simp at hs
  case call c =>
    obtain ⟨callee, args, ts⟩ := c
    cases callee with
    | invoke r m => simp [stripOp] at hs
    | value f =>
      simp only [stripOp] at hs
      split at hs
      · simp only [Option.some.injEq] at hs
        subst hs
        simp only [aop] at h
        split at h
        · simp at h
        · simp only [Res.p.injEq] at h
          obtain ⟨rfl, _, _⟩ := h
          exact (show False from hn).elim
        · simp at h
      · simp at hs
    | builtin b =>
      cases b <;> try (simp [stripOp] at hs; done)
      case copy =>
        simp only [stripOp] at hs
        split at hs
        · split at hs
          · simp only [Option.map_eq_some_iff] at hs
            obtain ⟨k, _, rfl⟩ := hs
            simp only [aop] at h
            exact (cpy_no_p h).elim
          · simp at hs
        · simp at hs
      case delete =>
        simp only [stripOp] at hs
        split at hs
        · split at hs
          · simp only [Option.some.injEq] at hs
            subst hs
            simp only [aop] at h
            exact (mapR_no_p h).elim
          · simp at hs
        · simp at hs
      case clear =>
        simp only [stripOp] at hs
        split at hs
        · split at hs
          · split at hs
            · split at hs
              · simp only [Option.some.injEq] at hs
                subst hs
                simp only [aop] at h
                exact (clr_no_p h).elim
              · simp at hs
            · simp at hs
          · simp at hs
        · simp at hs
      case append =>
        simp only [stripOp] at hs
        split at hs
        · rename_i x y t u hargs hts
          split at hs
          · rename_i e x' y' hu1 hx hy
            split at hs
            · rename_i k b z hk hb hz
              split at hs
              · rename_i hc
                obtain ⟨rfl, hk0, hb0, hzk⟩ := hc
                simp only [Option.some.injEq] at hs
                subst hs
                simp only [aop] at h
                obtain ⟨h1, h2, rfl, rfl⟩ := app_p h
                have g1 := hg.get x x' hx
                have g2 := hg.get y y' hy
                rw [h1] at g1
                rw [h2] at g2
                have g1' : a.eval x = .slice none 0 0 := g1
                have g2' : a.eval y = .slice none 0 0 := g2
                have ha : args.map a.eval = #[.slice none 0 0, .slice none 0 0] := by
                  have : args = #[x, y] := by rw [← hargs]
                  subst this
                  simp only [List.map_toArray, List.map_cons, List.map_nil, g1', g2']
                have ht : ts = #[t, t] := by rw [← hts]
                refine ⟨.slice none 0 0, ?_, rfl⟩
                obtain ⟨cs, hcs⟩ := run_builtin (P := P) (ρ := a.eval) (o := ⟨dst, _, type, pos, after, guard⟩) rfl
                rw [hcs, ha, ht]
                simp [builtin, Builtin.append_, run_underlying' hu1, run_sizeOf hk, Builtin.lenOf, Builtin.firstCells, Sem.run_bind, Result.andThen_ok, Sem.run_pure]
              · simp at hs
            · simp at hs
          · simp at hs
        · simp at hs
      case len =>
        simp only [stripOp] at hs
        split at hs
        · rename_i x t hargs hts
          have ht : ts = #[t] := by rw [← hts]
          have hax : args = #[x] := by rw [← hargs]
          have ha : args.map a.eval = #[a.eval x] := by subst hax; simp only [List.map_toArray, List.map_cons, List.map_nil]
          have key : ∀ y b, opd x = some y → (b = false ∧ (∃ e, P.underlying t = some (.slice e)) ∨ b = true ∧ P.underlying t = some .string) → aop s π (.len b y) = .p need v B →
              YldN P φ s.heap.next (execOp a.eval ⟨dst, .call { callee := .builtin .len, args := args, argTypes := ts }, type, pos, after, guard⟩) w v B := by
            intro y b hy hu h
            have hv := hg.get x y hy
            simp only [aop] at h
            rcases hu with ⟨rfl, e, hu⟩ | ⟨rfl, hu⟩
            · split at h
              · rename_i p inner n _ e1
                rw [e1] at hv
                obtain ⟨r, cap, g, _⟩ := hv
                simp only [Res.p.injEq] at h
                obtain ⟨rfl, rfl, rfl⟩ := h
                refine ⟨.int .i64 (n : Int), ?_, rfl⟩
                obtain ⟨cs, hcs⟩ := run_builtin (P := P) (ρ := a.eval) (o := ⟨dst, _, type, pos, after, guard⟩) rfl
                rw [hcs, ha, ht, g]
                simp [builtin, Builtin.len_, run_underlying' hu, Sem.run_bind, Result.andThen_ok, Sem.run_pure, goInt]
              · rename_i e1
                rw [e1] at hv
                have g : a.eval x = .slice none 0 0 := hv
                simp only [Res.p.injEq] at h
                obtain ⟨rfl, rfl, rfl⟩ := h
                refine ⟨.int .i64 0, ?_, rfl⟩
                obtain ⟨cs, hcs⟩ := run_builtin (P := P) (ρ := a.eval) (o := ⟨dst, _, type, pos, after, guard⟩) rfl
                rw [hcs, ha, ht, g]
                simp [builtin, Builtin.len_, run_underlying' hu, Sem.run_bind, Result.andThen_ok, Sem.run_pure, goInt]
              · simp at *
              · simp at h
            · split at h
              · simp at *
              · simp at *
              · rename_i st _ e1
                rw [e1] at hv
                have g : a.eval x = .string st := hv
                simp only [Res.p.injEq] at h
                obtain ⟨rfl, rfl, rfl⟩ := h
                refine ⟨.int .i64 (st.size : Int), ?_, rfl⟩
                obtain ⟨cs, hcs⟩ := run_builtin (P := P) (ρ := a.eval) (o := ⟨dst, _, type, pos, after, guard⟩) rfl
                rw [hcs, ha, ht, g]
                simp [builtin, Builtin.len_, run_underlying' hu, Sem.run_bind, Result.andThen_ok, Sem.run_pure, goInt]
              · simp at h
          split at hs
          · rename_i e y hu hy
            simp only [Option.some.injEq] at hs
            subst hs
            exact key y false hy (.inl ⟨rfl, e, hu⟩) h
          · rename_i y hu hy
            simp only [Option.some.injEq] at hs
            subst hs
            exact key y true hy (.inr ⟨rfl, hu⟩) h
          · rename_i n el hu
            simp only [Option.some.injEq] at hs
            subst hs
            simp only [aop, St.get, Res.p.injEq] at h
            obtain ⟨rfl, rfl, rfl⟩ := h
            refine ⟨.int .i64 (n : Int), ?_, rfl⟩
            obtain ⟨cs, hcs⟩ := run_builtin (P := P) (ρ := a.eval) (o := ⟨dst, _, type, pos, after, guard⟩) rfl
            rw [hcs, ha, ht]
            simp [builtin, Builtin.len_, run_underlying' hu, Sem.run_bind, Result.andThen_ok, Sem.run_pure, goInt]
          · simp at hs
        · simp at hs
  all_goals (simp [stripOp] at hs)

end Go.AM

namespace Go.AM
set_option linter.unusedVariables false
set_option linter.unusedSimpArgs false
variable {P : Program} {φ : Emb} {w : World}

theorem getB_setB_self {l : List (Nat × Blk)} {i : Nat} {B C : Blk} (h : getB l i = some B) : getB (setB l i C) i = some C := by
  induction l with
  | nil => simp [getB] at h
  | cons p r ih =>
    obtain ⟨j, D⟩ := p
    simp only [getB, setB] at h ⊢
    cases hb : Nat.beq j i with
    | true => simp [getB, hb]
    | false => simp only [hb] at h ⊢; simp only [getB, hb]; exact ih h
theorem getB_setB_ne {l : List (Nat × Blk)} {i j : Nat} {C : Blk} (h : j ≠ i) : getB (setB l i C) j = getB l j := by
  induction l with
  | nil => rfl
  | cons p r ih =>
    obtain ⟨k, D⟩ := p
    simp only [setB]
    cases hb : Nat.beq k i with
    | true =>
      have := Nat.eq_of_beq_eq_true hb
      subst this
      simp only [getB]
      have : Nat.beq k j = false := by
        cases hk : Nat.beq k j with
        | false => rfl
        | true => exact absurd (Nat.eq_of_beq_eq_true hk).symm h
      simp [this]
    | false => simp only [getB, ih]

theorem HRel.update {H : Heap} (h : HRel φ H w) {i : Nat} {B C : Blk} {p : Place} (hB : getB H.blks i = some B) (hw : B.wr = true) (hp : φ i = some p) (hC : C.wr = true) {w' : World}
    (hsz : w'.heap.size = w.heap.size) (ho : w'.os = w.os) (ht : w'.tape = w.tape) (hu : w'.output = w.output) (hother : ∀ b, b ≠ p.blk → w'.heap[b]? = w.heap[b]?) (hnew : BRel φ C p w') :
    HRel φ ⟨H.next, setB H.blks i C⟩ w' ∧ Fr φ H w φ ⟨H.next, setB H.blks i C⟩ w' := by
  have hcell : ∀ a : Addr, a.block ≠ p.blk → w'.cell? a = w.cell? a := fun a ha => by unfold World.cell?; rw [hother _ ha]
  have hget : ∀ j D, getB (setB H.blks i C) j = some D → j ≠ i → getB H.blks j = some D := fun j D hj hne => by rwa [getB_setB_ne hne] at hj
  refine ⟨⟨fun j D q hj hq => ?_, fun j k D E q r hj hk hq hr hne hDw => ?_, h.fresh, fun j q hq => by rw [hsz]; exact h.lt j q hq⟩, ?_⟩
  · by_cases hji : j = i
    · subst hji
      rw [getB_setB_self hB] at hj
      cases hj
      rw [hp] at hq
      cases hq
      exact hnew
    · have hj' := hget j D hj hji
      have hb := h.blk j D q hj' hq
      have hne : q.blk ≠ p.blk := fun e => h.inj i j B D p q hB hj' hp hq (Ne.symm hji) hw e.symm
      refine ⟨hb.str, fun i' hi' => ?_, fun hw' => ?_⟩
      · obtain ⟨xs, h1, h2, h3⟩ := hb.rows i' hi'
        exact ⟨xs, h1, h2, fun j' x hx => by rw [hcell _ hne]; exact h3 _ _ hx⟩
      · exact own_keep (hother _ hne) (hb.own hw')
  · by_cases hji : j = i
    · subst hji
      rw [hp] at hq
      cases hq
      have hk' := hget k E hk (Ne.symm hne)
      exact h.inj j k B E p r hB hk' hp hr hne hw
    · have hj' := hget j D hj hji
      by_cases hki : k = i
      · subst hki
        rw [hp] at hr
        cases hr
        exact h.inj j k D B q p hj' hB hq hp hne hDw
      · exact h.inj j k D E q r hj' (hget k E hk hki) hq hr hne hDw
  · refine ⟨φ.le_refl, fun _ _ => rfl, Nat.le_refl _, Nat.le_of_eq hsz.symm, ho, ht, hu, fun b hb hno => hother b fun e => hno i B p hB hw hp e.symm, fun j D q hj hDw hq => .inr ?_⟩
    by_cases hji : j = i
    · subst hji
      rw [hp] at hq
      cases hq
      exact ⟨j, B, p, hB, hw, hp, rfl⟩
    · exact ⟨j, D, q, hget j D hj hji, hDw, hq, rfl⟩

theorem splice_get {α : Type} (l vs : List α) (o k : Nat) (h : o + vs.length ≤ l.length) :
    (l.take o ++ vs ++ l.drop (o + vs.length))[k]? = if k < o then l[k]? else if k < o + vs.length then vs[k - o]? else l[k]? := by
  split
  · rename_i hk
    rw [List.append_assoc, List.getElem?_append_left (by simp; omega), List.getElem?_take_of_lt hk]
  · rename_i hk
    split
    · rename_i hk2
      rw [List.append_assoc, List.getElem?_append_right (by simp; omega)]
      simp only [List.length_take]
      rw [Nat.min_eq_left (by omega), List.getElem?_append_left (by omega)]
    · rename_i hk2
      rw [List.getElem?_append_right (by simp; omega), List.getElem?_drop]
      simp only [List.length_append, List.length_take]
      rw [Nat.min_eq_left (by omega)]
      congr 1
      omega

theorem store_row {H : Heap} (h : HRel φ H w) {i : Nat} {B : Blk} {p : Place} (hB : getB H.blks i = some B) (hw : B.wr = true) (hp : φ i = some p) {ix o : Nat} (hix : ix < B.n) {vs : List Value} {l' : List Seg}
    (hone : ∀ v ∈ vs, v.oneCell' = true) (hle : o + vs.length ≤ B.str)
    (hl : ∀ xs, F2 (rel φ) (flat (B.row ix)) xs → F2 (rel φ) (flat l') (xs.take o ++ vs ++ xs.drop (o + vs.length))) :
    ∃ w', (storeCells ⟨p.blk, p.base + p.str * ix + o, none⟩ vs).run P w = .ok () w' ∧ HRel φ ⟨H.next, setB H.blks i (setRow B ix l')⟩ w' ∧ Fr φ H w φ ⟨H.next, setB H.blks i (setRow B ix l')⟩ w' := by
  have hb := h.blk i B p hB hp
  obtain ⟨e1, e2, e5, cs, e3, e4⟩ := hb.cells hw (.inl (by omega))
  have hstr := hb.str
  have hrow : p.str * ix + B.str ≤ cs.size := by
    rw [e4, ← hstr, ← Nat.mul_succ]
    exact Nat.mul_le_mul_left _ (by omega)
  have hst := run_storeCells_at P p.blk (p.base + p.str * ix + o) B.elem vs 0 cs w e3 (by omega) hone
  refine ⟨_, hst, ?_⟩
  simp only [Nat.add_zero, e1, Nat.zero_add]
  let cs' : Array Value := (cs.toList.take (p.str * ix + o) ++ vs ++ cs.toList.drop (p.str * ix + o + vs.length)).toArray
  have hcs' : ∀ k, cs'[k]? = if k < p.str * ix + o then cs[k]? else if k < p.str * ix + o + vs.length then vs[k - (p.str * ix + o)]? else cs[k]? := fun k => by
    have := splice_get cs.toList vs (p.str * ix + o) k (by simp; omega)
    simpa [cs'] using this
  have hcsz : cs'.size = cs.size := by simp [cs']; omega
  have hheap : (w.setRow p.blk cs').heap[p.blk]? = some (.cells cs' B.elem (0, 0)) := setRow_heap w p.blk cs cs' B.elem (0, 0) e3
  have hcell : ∀ k, (w.setRow p.blk cs').cell? ⟨p.blk, k, none⟩ = cs'[k]? := fun k => by unfold World.cell?; rw [hheap]; simp
  have hcell0 : ∀ k, w.cell? ⟨p.blk, k, none⟩ = cs[k]? := fun k => by unfold World.cell?; rw [e3]; simp
  have hn' : (setRow B ix l').n = B.n := by unfold setRow; cases hs : B.sz <;> simp [Blk.n, hs]
  have hstr' : (setRow B ix l').str = B.str := by unfold setRow; cases hs : B.sz <;> rfl
  have helem' : (setRow B ix l').elem = B.elem := by unfold setRow; cases hs : B.sz <;> rfl
  have hwr' : (setRow B ix l').wr = true := by unfold setRow; cases hs : B.sz <;> exact hw
  have hrow' : ∀ j, j < B.n → (setRow B ix l').row j = if j = ix then l' else B.row j := fun j hj => by
    unfold setRow
    cases hs : B.sz with
    | none =>
      have : j = ix := by simp [Blk.n, hs] at hj hix; omega
      simp [this]
    | some n => rfl
  refine h.update hB hw hp hwr' (setRow_size _ _ _) rfl rfl rfl (fun b hne => setRow_other _ _ _ _ hne) ⟨by rw [hstr', hstr], fun j hj => ?_, fun _ => own_cells ⟨e1, by rw [hn']; exact e2, e5, cs', by rw [helem']; exact hheap, by rw [hcsz, e4]⟩ (.inl (by rw [hn']; omega))⟩
  rw [hn'] at hj
  obtain ⟨xs, h1, h2, h3⟩ := hb.rows j hj
  have h3' : ∀ j' x, xs[j']? = some x → cs[p.str * j + j']? = some x := fun j' x hx => by
    have := h3 j' x hx
    rw [hcell0, e1, Nat.zero_add] at this
    exact this
  rw [hrow' j hj]
  by_cases hji : j = ix
  · subst hji
    rw [if_pos rfl]
    refine ⟨_, hl xs h1, by simp only [List.length_append, List.length_take, List.length_drop]; rw [hstr']; omega, fun j' x hx => ?_⟩
    rw [hcell, e1, Nat.zero_add, hcs']
    rw [splice_get xs vs o j' (by omega)] at hx
    by_cases c1 : j' < o
    · rw [if_pos c1] at hx
      rw [if_pos (by omega)]
      exact h3' _ _ hx
    · rw [if_neg c1] at hx
      rw [if_neg (by omega)]
      by_cases c2 : j' < o + vs.length
      · rw [if_pos c2] at hx
        rw [if_pos (by omega), show p.str * j + j' - (p.str * j + o) = j' - o by omega]
        exact hx
      · rw [if_neg c2] at hx
        rw [if_neg (by omega)]
        exact h3' _ _ hx
  · rw [if_neg hji]
    refine ⟨xs, h1, by rw [hstr']; exact h2, fun j' x hx => ?_⟩
    rw [hcell, e1, Nat.zero_add, hcs']
    have hj' : j' < B.str := by rw [← h2]; exact (List.getElem?_eq_some_iff.1 hx).1
    rcases Nat.lt_or_gt_of_ne hji with c | c
    · have : p.str * j + p.str ≤ p.str * ix := by rw [← Nat.mul_succ]; exact Nat.mul_le_mul_left _ c
      rw [if_pos (by omega)]
      exact h3' _ _ hx
    · have : p.str * ix + p.str ≤ p.str * j := by rw [← Nat.mul_succ]; exact Nat.mul_le_mul_left _ c
      rw [if_neg (by omega), if_neg (by omega)]
      exact h3' _ _ hx

def Trn (P : Program) (φ : Emb) (H : Heap) (m : Sem Next) (w : World) (v : AV) (H' : Heap) : Prop :=
  ∃ φ' w', ((∃ x, m.run P w = .ok (.value x) w' ∧ relA φ' v x) ∨ (m.run P w = .ok .skip w' ∧ v = .bot)) ∧ HRel φ' H' w' ∧ Fr φ H w φ' H' w'

theorem F2_oneCell {l : List CV} {vs : List Value} (h : F2 (rel φ) l vs) : ∀ v ∈ vs, v.oneCell' = true := by
  induction h with
  | nil => intro v hv; cases hv
  | cons hr _ ih => intro v hv; cases hv with
    | head => exact rel_oneCell hr
    | tail _ hv => exact ih v hv

theorem run_storeAt {t : TypeId} {n : Nat} (hs : sizeT P t = some n) {x : Value} (hx : x.cells.size = n) {a : Addr} {w' : World} (h : (storeCells a x.cells.toList).run P w = .ok () w') :
    (Instr.storeAt t (.pointer (some a)) x).run P w = .ok () w' := by
  simp only [Instr.storeAt, Instr.sureAddr, Sem.run_bind, Sem.run_pure, Result.andThen_ok, storeVar, run_sizeOf hs]
  rw [if_neg (by simp [hx])]
  exact h

theorem stn_ok {H : Heap} (h : HRel φ H w) {t : TypeId} {m : Nat} (hs : sizeT P t = some m) {a : AA} {l : List Seg} {need : Option Prop} {v : AV} {H' : Heap} (hst : stn H m a l = .t need v H') (hn : needP need)
    {x y : Value} (hx : relP φ a x) (hy : relA φ (.agg l) y) : v = .bot ∧ ∃ w', (Instr.storeAt t x y).run P w = .ok () w' ∧ HRel φ H' w' ∧ Fr φ H w φ H' w' := by
  obtain ⟨p, hp, rfl⟩ := hx
  obtain ⟨cs, rfl, hF⟩ := hy
  unfold stn at hst
  split at hst
  · simp at hst
  · rename_i B hB
    split at hst
    · simp at hst
    · rename_i hw
      split at hst
      · simp at hst
      · rename_i nd hr
        split at hst
        · simp at hst
        · rename_i hz
          split at hst
          · simp at hst
          · rename_i hm
            split at hst
            · rename_i l' hl'
              simp only [Res.t.injEq] at hst
              obtain ⟨rfl, rfl, rfl⟩ := hst
              refine ⟨rfl, ?_⟩
              have hsub := Nat.eq_of_beq_eq_true hz
              have hm' := Nat.eq_of_beq_eq_true hm
              have hix := rowNeed_lt hr hn
              obtain ⟨e1, e2⟩ := putS_flat hl'
              have hlen : cs.toList.length = sizes l := by rw [← hF.length, flat_length]
              obtain ⟨xs, h1, h2, _⟩ := (h.blk _ _ _ hB hp).rows _ hix
              obtain ⟨w', hrun, hH, hFr⟩ := store_row (P := P) h hB hw hp hix (o := a.off) (vs := cs.toList) (l' := l') (F2_oneCell hF) (by rw [hlen, ← h2, ← h1.length]; exact e2) fun xs hxs => by
                rw [e1, hlen]
                exact ((hxs.take _).append hF).append (hxs.drop _)
              refine ⟨w', run_storeAt hs (by simp [Value.cells]; rw [← hm', ← hlen]; simp) ?_, hH, hFr⟩
              have : p.at a = ⟨p.blk, p.base + p.str * a.idx + a.off, none⟩ := by simp [Place.at, hsub]
              rw [this]
              exact hrun
            · simp at hst

theorem set_splice {α : Type} (l : List α) (o : Nat) (x : α) (h : o < l.length) : l.set o x = l.take o ++ [x] ++ l.drop (o + 1) := by
  rw [List.set_eq_take_append_cons_drop, if_pos h]; simp

theorem st1_flat {B : Blk} {a : AA} {x : CV} {need : Option Prop} {v : AV} {H H' : Heap} (hst : st1 H a x = .t need v H') (hn : needP need) (hB : getB H.blks a.id = some B) :
    v = .bot ∧ B.wr = true ∧ a.idx < B.n ∧ ∃ l', H' = ⟨H.next, setB H.blks a.id (setRow B a.idx l')⟩ ∧ flat l' = (flat (B.row a.idx)).set (a.off + a.sub) x ∧ a.off + a.sub < (flat (B.row a.idx)).length := by
  unfold st1 at hst
  simp only [hB] at hst
  split at hst
  · simp at hst
  · rename_i hw
    split at hst
    · simp at hst
    · rename_i nd hr
      split at hst
      · rename_i cv hsg
        split at hst
        · rename_i hz
          split at hst
          · rename_i l' hl'
            simp only [Res.t.injEq] at hst
            obtain ⟨rfl, rfl, rfl⟩ := hst
            have hsub := Nat.eq_of_beq_eq_true hz
            obtain ⟨e1, e2⟩ := putS_flat hl'
            simp only [flat, Seg.flat, List.append_nil, sizes, Seg.size] at e1 e2
            refine ⟨rfl, hw, rowNeed_lt hr hn, l', rfl, ?_, by omega⟩
            rw [e1, set_splice _ _ _ (by omega)]
            simp only [hsub, Nat.add_zero]
          · simp at hst
        · simp at hst
      · rename_i n f hsg
        split at hst
        · rename_i l' hl'
          simp only [Res.t.injEq] at hst
          obtain ⟨rfl, rfl, rfl⟩ := hst
          have hlt : a.sub < n := andN_right hn
          obtain ⟨e1, e2⟩ := putS_flat hl'
          simp only [flat, Seg.flat, List.append_nil, sizes, Seg.size, Nat.add_zero] at e1 e2
          refine ⟨rfl, hw, rowNeed_lt hr (andN_left hn), l', rfl, ?_, by omega⟩
          rw [e1]
          have hg : ∀ j, j < n → (flat (B.row a.idx))[a.off + j]? = some (f j) := fun j hj => by
            rw [segAt_flat _ _ _ hsg j (by simpa [Seg.size] using hj)]
            simp [Seg.flat, hj]
          refine List.ext_getElem? fun k => ?_
          have hk := splice_get (flat (B.row a.idx)) ((List.range n).map fun j => if j = a.sub then x else f j) a.off k (by simpa using e2)
          simp only [List.length_map, List.length_range] at hk
          rw [hk, List.getElem?_set]
          by_cases c1 : k < a.off
          · rw [if_pos c1, if_neg (by omega)]
          · rw [if_neg c1]
            by_cases c2 : k < a.off + n
            · rw [if_pos c2]
              have hkn : k - a.off < n := by omega
              simp only [List.getElem?_map, List.getElem?_range hkn, Option.map_some]
              by_cases c3 : k = a.off + a.sub
              · rw [if_pos c3.symm, if_pos (by omega), if_pos (by omega)]
              · rw [if_neg (Ne.symm c3), if_neg (by omega)]
                have := hg (k - a.off) hkn
                rw [show a.off + (k - a.off) = k by omega] at this
                exact this.symm
            · rw [if_neg c2, if_neg (by omega)]
        · simp at hst
      · simp at hst

theorem st1_ok {H : Heap} (h : HRel φ H w) {t : TypeId} (hs : sizeT P t = some 1) {a : AA} {c : CV} {need : Option Prop} {v : AV} {H' : Heap} (hst : st1 H a c = .t need v H') (hn : needP need)
    {x y : Value} (hx : relP φ a x) (hy : rel φ c y) : v = .bot ∧ ∃ w', (Instr.storeAt t x y).run P w = .ok () w' ∧ HRel φ H' w' ∧ Fr φ H w φ H' w' := by
  obtain ⟨p, hp, rfl⟩ := hx
  cases hB : getB H.blks a.id with
  | none => simp [st1, hB] at hst
  | some B =>
    obtain ⟨rfl, hw, hix, l', rfl, e1, e2⟩ := st1_flat hst hn hB
    refine ⟨rfl, ?_⟩
    obtain ⟨xs, h1, h2, _⟩ := (h.blk _ _ _ hB hp).rows _ hix
    obtain ⟨w', hrun, hH, hFr⟩ := store_row (P := P) h hB hw hp hix (o := a.off + a.sub) (vs := [y]) (l' := l') (by simp [rel_oneCell hy]) (by simp; rw [← h2, ← h1.length]; omega) fun xs hxs => by
      have hlt : a.off + a.sub < xs.length := by rw [← hxs.length]; exact e2
      rw [e1, set_splice _ _ _ e2]
      simp only [List.length_singleton]
      exact ((hxs.take _).append (.cons hy .nil)).append (hxs.drop _)
    refine ⟨w', run_storeAt hs (by simp [rel_cells hy]) ?_, hH, hFr⟩
    rw [rel_cells hy]
    have : p.at a = ⟨p.blk, p.base + p.str * a.idx + (a.off + a.sub), none⟩ := by simp [Place.at, Nat.add_assoc]
    rw [this]
    exact hrun

end Go.AM

