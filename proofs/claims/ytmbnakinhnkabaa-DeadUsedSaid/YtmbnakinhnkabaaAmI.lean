/- AM: what a frame's state says (definitions); iterators. -/
import Derived.Test.YtmbnakinhnkabaaAm1
import Derived.OrdersIn
import Derived.TacticsIn
import Derived.Deep.LoopGhost
import Derived.RangeFuncLeaves
import Derived.RangeFuncSeq
namespace Go.AM
set_option linter.unusedVariables false
set_option linter.unusedSimpArgs false

/-! ### Fences that let everything in -/
class Wide (F : Fence) : Prop where
  fn : ∀ f, F.fn f
  depth : F.depth = none
  alive : F.alive = false
instance : Wide Fence.wide := ⟨fun _ => trivial, rfl, rfl⟩
instance {F : Fence} [h : Wide F] (l : Nat) : Wide (F.inRound l) := ⟨h.fn, h.depth, h.alive⟩
theorem Wide.fenced {F : Fence} (h : Wide F) (P : Program) (m : Machine) : m.fenced P F := fun g _ =>
  ⟨fun e => (by rw [h.alive] at e; cases e), .inl (h.fn _), fun _ _ => h.fn _, fun d e => (by rw [h.depth] at e; cases e)⟩
theorem Wide.fenced_eq {F : Fence} (h : Wide F) (P : Program) : Machine.fenced P F = Machine.fenced P Fence.wide := by
  funext m; exact propext ⟨fun _ => fenced_wide P m, fun _ => h.fenced P m⟩
theorem Wide.room {F : Fence} (h : Wide F) (n : Nat) : F.room n := fun d e => by rw [h.depth] at e; cases e
theorem Wide.calls {F : Fence} [h : Wide F] {n : Nat} {P : Program} {f : FuncId} {args : Array Value} {w : World} {R : Ending → World → Prop} : CallsIn F n P f args w R ↔ Calls P f args w R := by
  rw [← callsIn_wide (n := n)]
  unfold CallsIn
  rw [h.fenced_eq P]
  exact ⟨fun g => ⟨trivial, fun cs _ => g.2 cs (h.room _)⟩, fun g => ⟨h.fn _, fun cs _ => g.2 cs (room_wide _)⟩⟩

/-! ### Slots -/
def pathOk (l : List Slot) : Path → Prop
  | [] => True
  | (d, _, b) :: r => slotAt l d = some ⟨d, r, .c (.bool b)⟩ ∧ pathOk l r
def keysIn (K : List Nat) (p : Path) : Prop := ∀ e ∈ p, e.1 ∈ K

structure SlotOk (φ : Emb) (a : Act) (l : List Slot) (K : List Nat) (n : Nat) (sl : Slot) : Prop where
  num : sl.n = n
  on : conds sl.path → relA φ sl.v (a.tmps.getD n undef)
  off : ¬ conds sl.path → a.tmps.getD n undef = undef
  path : pathOk l sl.path
  keys : keysIn K sl.path

/-- The slots of a frame are as the state says; K: slots that guards have asked. -/
def SOk (φ : Emb) (l : List Slot) (a : Act) (K : List Nat) : Prop := ∀ n sl, slotAt l n = some sl → SlotOk φ a l K n sl

/-- Whatever is no cells lies as it lay. -/
structure Oth (w w' : World) : Prop where
  size : w.heap.size ≤ w'.heap.size
  same : ∀ (k : Nat) (o : Obj), w.heap[k]? = some o → (∀ cs t x, o ≠ .cells cs t x) → w'.heap[k]? = some o
theorem Oth.refl (w : World) : Oth w w := ⟨Nat.le_refl _, fun _ _ h _ => h⟩
theorem Oth.trans {a b c : World} (h : Oth a b) (k : Oth b c) : Oth a c := ⟨Nat.le_trans h.size k.size, fun i o hi ho => k.same i o (h.same i o hi ho) ho⟩
theorem Oth.of {φ ψ : Emb} {H K : Heap} {w v : World} (hH : HRel φ H w) (hF : Fr φ H w ψ K v) : Oth w v :=
  ⟨hF.size, fun k o hk ho => by
    have hlt := (Array.getElem?_eq_some_iff.1 hk).1
    rw [hF.old k hlt fun i B p hB hw hp e => ?_]
    · exact hk
    · obtain ⟨_, _, _, cs, hcs, _⟩ := (hH.blk i B p hB hp).own hw
      rw [e, hk] at hcs
      cases hcs
      exact ho _ _ _ rfl⟩

/-- The marks that ranges over functions have left. -/
def Marks (n : Nat) (w : World) : List Deferred → Prop
  | [] => True
  | d :: r => (∃ D, d = { target := .collected D, args := #[] } ∧ n ≤ D ∧ w.heap[D]? = some (.deferred (some [])) ∧ ∀ e ∈ r, e.target ≠ .collected D) ∧ Marks n w r
theorem Marks.keep {n : Nat} {w w' : World} (h : Oth w w') : ∀ {l : List Deferred}, Marks n w l → Marks n w' l
  | [], _ => trivial
  | d :: r, ⟨⟨D, e, hn, hD, hne⟩, hr⟩ => ⟨⟨D, e, hn, h.same D _ hD (fun _ _ _ h => by cases h), hne⟩, hr.keep h⟩

/-- The number of slots; a world since which nothing but cells has been turned. -/
structure Env where
  n : Nat
  b : World

/-- Everything that a state says, from an entry on. -/
structure Inv (φ₀ : Emb) (H₀ : Heap) (w₀ : World) (N : Env) (φ : Emb) (s : St) (a : Act) (w : World) (K : List Nat) : Prop where
  sok : SOk φ s.tmps a K
  heap : HRel φ s.heap w
  fr : Fr φ₀ H₀ w₀ φ s.heap w
  defers : Marks w₀.heap.size w a.defers
  size : a.tmps.size = N.n
  oth : Oth N.b w

/-- The second state says no more than the first one; ids below n stay. -/
def LeS (n : Nat) : LeT := fun s s' => ∀ φ₀ H₀ w₀ N φ a w, H₀.next ≤ n → (∀ i, H₀.next ≤ i → φ₀ i = none) → Inv φ₀ H₀ w₀ N φ s a w [] → ∃ φ', Inv φ₀ H₀ w₀ N φ' s' a w []

/-- An iterator: it calls what it is handed N times, with what x tells, as long as it is told to go on. -/
def IterC (P : Program) : IterT := fun gf caps K N x => ∀ (φ : Emb) (w : World) (lb : Array Value) (l : Nat), F2 (relP φ) caps lb.toList →
  (∃ fn, P.funcs[gf]? = some fn ∧ (fn.name == "runtime.NumGoroutine") = false ∧ fn.body.isNone = false) ∧
  ∀ (J : Nat → Emb → World → Prop) (Jx : World → Prop), (∀ j ψ W, J j ψ W → φ.le ψ ∧ (∃ n, ψ n = none) ∧ ∀ i B, getB K.blks i = some B → ψ i = φ i ∧ ∀ p, φ i = some p → BRel ψ B p W) →
    (∀ j ψ W, j < N → J j ψ W → ∀ vs : Array Value, F2 (relA ψ) (x j) vs.toList → YieldAt Fence.wide 0 P l vs W fun e W' =>
      (e = .returned (.bool true) ∧ ∃ ψ', J (j + 1) ψ' W') ∨ (e = .returned (.bool false) ∧ Jx W')) →
    ∀ ψ, J 0 ψ w → CallsIn Fence.wide 0 P gf (#[.func (.yield l) #[] #[]] ++ lb) w fun e W' => (∃ v, e = .returned v) ∧ ((∃ ψ', J N ψ' W') ∨ Jx W')

end Go.AM
