/- AM: operations that make a block. -/
import Derived.Test.YtmbnakinhnkabaaAm3
namespace Go.AM
set_option linter.unusedVariables false
set_option linter.unusedSimpArgs false
variable {P : Program} {φ : Emb} {H : Heap} {w : World}

theorem heap_alloc_self (w : World) (o : Obj) : (w.alloc o).heap[w.heap.size]? = some o := by
  show (w.heap.push o)[w.heap.size]? = some o
  simp
theorem heap_alloc_lt (w : World) (o : Obj) {b : Nat} (h : b < w.heap.size) : (w.alloc o).heap[b]? = w.heap[b]? := by
  show (w.heap.push o)[b]? = w.heap[b]?
  simp [Array.getElem?_push, Nat.ne_of_lt h]
theorem cell_alloc_new (w : World) (cs : Array Value) (t : TypeId) (i : Nat) : (w.alloc (.cells cs t)).cell? ⟨w.heap.size, i, none⟩ = cs[i]? := by
  unfold World.cell?
  rw [heap_alloc_self]
  simp

/-- A block that was just made. -/
theorem brel_new {B : Blk} {cs : Array Value} {c : Nat} (hn : B.n ≤ c) (hc : c ≤ 9223372036854775807) (hsz : cs.size = B.str * c)
    (hrows : ∀ i, i < B.n → ∃ xs, F2 (rel φ) (flat (B.row i)) xs ∧ xs.length = B.str ∧ ∀ j x, xs[j]? = some x → cs[B.str * i + j]? = some x) :
    BRel φ B ⟨w.heap.size, 0, B.str, c⟩ (w.alloc (.cells cs B.elem)) where
  str := rfl
  rows := fun i hi => by
    obtain ⟨xs, h1, h2, h3⟩ := hrows i hi
    exact ⟨xs, h1, h2, fun j x hx => by rw [Nat.zero_add, cell_alloc_new]; exact h3 j x hx⟩
  own := fun _ => ⟨rfl, hn, hc, cs, heap_alloc_self _ _, hsz⟩

theorem brel_box {l : List Seg} {t : TypeId} {cs : Array Value} (h : F2 (rel φ) (flat l) cs.toList) :
    BRel φ ⟨sizes l, none, fun _ => l, t, true⟩ ⟨w.heap.size, 0, sizes l, 1⟩ (w.alloc (.cells cs t)) := by
  have hl : cs.size = sizes l := by rw [← flat_length, h.length]; simp
  refine brel_new (B := ⟨sizes l, none, fun _ => l, t, true⟩) (by simp [Blk.n]) (by omega) (by simpa using hl) fun i hi => ⟨cs.toList, h, by simp [hl], fun j x hx => ?_⟩
  have : i = 0 := by simp [Blk.n] at hi; exact hi
  subst this
  simpa using hx

/-! ### Parts laid into a row -/
theorem foldl_splice (v : List Value) : ∀ (off k : Nat) (cells : Array Value), off + k + v.length ≤ cells.size →
    ((v.zipIdx k).foldl (fun cs (c, j) => cs.setIfInBounds (off + j) c) cells).toList = cells.toList.take (off + k) ++ v ++ cells.toList.drop (off + k + v.length) := by
  induction v with
  | nil => intro off k cells h; simp
  | cons x r ih =>
    intro off k cells h
    simp only [List.zipIdx_cons, List.foldl_cons]
    rw [ih off (k + 1) _ (by simp at h ⊢; omega)]
    simp only [Array.toList_setIfInBounds, List.length_cons] at *
    have hlt : off + k < cells.toList.length := by simp; omega
    rw [show off + (k + 1) = off + k + 1 by omega, List.take_succ_eq_append_getElem (by simpa using hlt)]
    rw [List.take_set_of_le (by omega), List.getElem_set_self, List.drop_set_of_lt (by omega)]
    simp [List.append_assoc, Nat.add_assoc, Nat.add_comm 1]

theorem zipIdx_toList (v : Array Value) : v.zipIdx.toList = v.toList.zipIdx := by simp [Array.toList_zipIdx]

theorem fill_step {φ : Emb} {place : Nat → Option (Nat × Nat)} {cells : Array Value} {l l' x : List Seg} {o i : Nat} {v : Value} {rest : List (Nat × Value)}
    (hl : F2 (rel φ) (flat l) cells.toList) (hx : F2 (rel φ) (flat x) v.cells.toList) (hp : place i = some (o, sizes x)) (h : putS l o x = some l') :
    ∃ cells', Instr.fill place cells ((i, v) :: rest) = Instr.fill place cells' rest ∧ F2 (rel φ) (flat l') cells'.toList := by
  obtain ⟨h1, h2⟩ := putS_flat h
  have hsx : v.cells.size = sizes x := by rw [← flat_length, hx.length]; simp
  have hle : o + v.cells.size ≤ cells.size := by rw [hsx]; have := hl.length; simp at this; omega
  refine ⟨v.cells.zipIdx.foldl (fun cs (c, j) => cs.setIfInBounds (o + j) c) cells, ?_, ?_⟩
  · simp [Instr.fill, hp, hsx]
    intro hlt
    omega
  · have := foldl_splice v.cells.toList o 0 cells (by simpa using hle)
    rw [← Array.foldl_toList, zipIdx_toList]
    rw [this, h1]
    simp only [Nat.add_zero]
    have e : v.cells.toList.length = sizes x := by simpa using hsx
    rw [e]
    exact ((hl.take o).append hx).append (hl.drop _)

end Go.AM
