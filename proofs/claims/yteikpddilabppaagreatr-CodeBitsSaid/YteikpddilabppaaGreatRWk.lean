/- code: the forms behind another block. -/
import Derived.Test.YteikpddilabppaaGreatRWc
import Derived.Test.YteikpddilabppaaGreatRWj
namespace Go.Proofs.YteikpddilabppaaGreatR
open Go.AM
set_option maxRecDepth 100000
set_option linter.unusedSimpArgs false
set_option linter.unusedVariables false
def formRow1 (i : Nat) : List Seg := [.c (.int .i64 (fOp i)), .c (.int .i64 (fSub i)), .c (.int .u32 (fMask i)), .c (.int .u32 (fBase i)), .c (.fn (fPut i) [] (mapAL (gId [] 1) (fPutC i))), .c (.fn (fTake i) [] (mapAL (gId [] 1) (fTakeC i)))]
def formB1 : Blk := ⟨6, some 40, formRow1, 42, true⟩
def Y1 (B0 : Blk) : List (Nat × Blk) := (63, formB1) :: [(62, boxW (boxV 61)), (61, boxW (boxV 60)), (60, boxW (boxV 59)), (59, boxW (boxV 58)), (58, boxW (boxV 57)), (57, boxW (boxV 56)), (56, boxW (boxV 55)), (55, boxW (boxV 54)), (54, boxW (boxV 53)), (53, boxW (boxV 52)), (52, boxW (boxV 51)), (51, boxW (boxV 50)), (50, boxW (boxV 49)), (49, boxW (boxV 48)), (48, boxW (boxV 47)), (47, boxW (boxV 46)), (46, boxW (boxV 45)), (45, boxW (boxV 44)), (44, boxW (boxV 43)), (43, boxW (boxV 42)), (42, boxW (boxV 41)), (41, boxW (boxV 40)), (40, boxW (boxV 39)), (39, boxW (boxV 38)), (38, boxW (boxV 37)), (37, boxW (boxV 36)), (36, boxW (boxV 35)), (35, boxW (boxV 34)), (34, boxW (boxV 33)), (33, boxW (boxV 32)), (32, boxW (boxV 31)), (31, boxW (boxV 30)), (30, boxW (boxV 29)), (29, boxW (boxV 28)), (28, boxW (boxV 27)), (27, boxW (boxV 26)), (26, boxW (boxV 25)), (25, boxW (boxV 24)), (24, boxW (boxV 23)), (23, boxW (boxV 22)), (22, boxW (boxV 21)), (21, boxW (boxV 20)), (20, boxW (boxV 19)), (19, boxW (boxV 18)), (18, boxW (boxV 17)), (17, boxW (boxV 16)), (16, boxW (boxV 15)), (15, boxW (boxV 14)), (14, boxW (boxV 13)), (13, boxW (boxV 12)), (12, boxW (boxV 11)), (11, boxW (boxV 10)), (10, boxW (boxV 9)), (9, boxW (boxV 8)), (8, boxW (boxV 7)), (7, boxW (boxV 6)), (6, boxW (boxV 5)), (5, boxW (boxV 4)), (4, boxW (boxV 3)), (3, boxW (boxV 2)), (2, boxW (boxV 1)), (1, boxW (boxV 0)), (0, B0)]
theorem framed_Y1 (B0 : Blk) : framed ⟨0, []⟩ ⟨1, [(0, B0)]⟩ [] ⟨63, formsW⟩ = ⟨64, Y1 B0⟩ := rfl
theorem con12_1 (B0 : Blk) : Con Tryz.prog 12 [] ⟨1, [(0, B0)]⟩ (fun v H' => v = .c (.slice ⟨63, 0, 0, 0⟩ false 40) ∧ H' = ⟨64, Y1 B0⟩) := by
  refine (con12.frame (H := ⟨1, [(0, B0)]⟩) (args := []) [] rfl trivial trivial ⟨Nat.zero_lt_one, trivial⟩ trivial (by simp only [leArgs])).weaken ?_
  rintro v H' ⟨v0, H0', ⟨rfl, rfl⟩, rfl, rfl⟩
  exact ⟨rfl, framed_Y1 B0⟩
theorem Y1_forms (B0 : Blk) : getB (Y1 B0) 63 = some formB1 := rfl
theorem Y1_0 (B0 : Blk) : getB (Y1 B0) 0 = some B0 := rfl
theorem Y1_box (B0 : Blk) : ∀ k, k < 62 → getB (Y1 B0) (k + 1) = some (boxW (boxV k))
  | 0, _ => rfl
  | 1, _ => rfl
  | 2, _ => rfl
  | 3, _ => rfl
  | 4, _ => rfl
  | 5, _ => rfl
  | 6, _ => rfl
  | 7, _ => rfl
  | 8, _ => rfl
  | 9, _ => rfl
  | 10, _ => rfl
  | 11, _ => rfl
  | 12, _ => rfl
  | 13, _ => rfl
  | 14, _ => rfl
  | 15, _ => rfl
  | 16, _ => rfl
  | 17, _ => rfl
  | 18, _ => rfl
  | 19, _ => rfl
  | 20, _ => rfl
  | 21, _ => rfl
  | 22, _ => rfl
  | 23, _ => rfl
  | 24, _ => rfl
  | 25, _ => rfl
  | 26, _ => rfl
  | 27, _ => rfl
  | 28, _ => rfl
  | 29, _ => rfl
  | 30, _ => rfl
  | 31, _ => rfl
  | 32, _ => rfl
  | 33, _ => rfl
  | 34, _ => rfl
  | 35, _ => rfl
  | 36, _ => rfl
  | 37, _ => rfl
  | 38, _ => rfl
  | 39, _ => rfl
  | 40, _ => rfl
  | 41, _ => rfl
  | 42, _ => rfl
  | 43, _ => rfl
  | 44, _ => rfl
  | 45, _ => rfl
  | 46, _ => rfl
  | 47, _ => rfl
  | 48, _ => rfl
  | 49, _ => rfl
  | 50, _ => rfl
  | 51, _ => rfl
  | 52, _ => rfl
  | 53, _ => rfl
  | 54, _ => rfl
  | 55, _ => rfl
  | 56, _ => rfl
  | 57, _ => rfl
  | 58, _ => rfl
  | 59, _ => rfl
  | 60, _ => rfl
  | 61, _ => rfl
  | n + 62, h => absurd h (by omega)
theorem Y1_keys (B0 : Blk) : keysLt (Y1 B0) 64 := by simp [Y1, keysLt]
def ids64 : List Nat := [0, 1, 2, 3, 4, 5, 6, 7, 8, 9, 10, 11, 12, 13, 14, 15, 16, 17, 18, 19, 20, 21, 22, 23, 24, 25, 26, 27, 28, 29, 30, 31, 32, 33, 34, 35, 36, 37, 38, 39, 40, 41, 42, 43, 44, 45, 46, 47, 48, 49, 50, 51, 52, 53, 54, 55, 56, 57, 58, 59, 60, 61, 62, 63]
theorem diff64 : diff ids64 := by simp only [ids64, diff, notIn, Nat.beq, and_self]
theorem ids64_fin : ∀ i : Fin 64, nthO ids64 i.val = some i.val := by decide
theorem ids64_at (i : Nat) (h : i < 64) : nthO ids64 i = some i := ids64_fin ⟨i, h⟩
theorem ids64_lt : ∀ {i j : Nat}, nthO ids64 i = some j → j < 64 := fun {i j} => allLt_get (l := ids64) (n := 64) (by simp only [ids64, allLt]; simp)
theorem form_ids1 : ∀ i : Fin 40, ((mapAL (gId [] 1) (fPutC i.val)).all fun a => decide (a.id < 63)) = true ∧ ((mapAL (gId [] 1) (fTakeC i.val)).all fun a => decide (a.id < 63)) = true := by decide
theorem form_leSegs1 (i : Nat) (h : i < 40) : leSegs ids64 (formRow1 i) (formRow1 i) := by
  obtain ⟨h1, h2⟩ := form_ids1 ⟨i, h⟩
  have q1 : leAL ids64 (mapAL (gId [] 1) (fPutC i)) (mapAL (gId [] 1) (fPutC i)) := leAL_refl fun a ha => ids64_at _ (by have := of_decide_eq_true (List.all_eq_true.1 h1 a ha); omega)
  have q2 : leAL ids64 (mapAL (gId [] 1) (fTakeC i)) (mapAL (gId [] 1) (fTakeC i)) := leAL_refl fun a ha => ids64_at _ (by have := of_decide_eq_true (List.all_eq_true.1 h2 a ha); omega)
  exact ⟨⟨rfl, rfl⟩, ⟨rfl, rfl⟩, ⟨rfl, rfl⟩, ⟨rfl, rfl⟩, ⟨rfl, trivial, q1⟩, ⟨rfl, trivial, q2⟩, trivial⟩
theorem Y1_le (B0 : Blk) (h0 : leB ids64 B0 B0) : leBlks ids64 (Y1 B0) (Y1 B0) := by
  unfold Y1
  simp only [leBlks, ids64, nthO, getB]
  refine ⟨⟨rfl, rfl, id, Nat.le_refl _, fun i hi => form_leSegs1 i hi⟩, ?_⟩
  repeat' (first | exact trivial | exact ⟨h0, trivial⟩ | refine And.intro (box_leW _ _ _ (.inr rfl) rfl) ?_)
theorem leBlks_more {H : List (Nat × Blk)} {i : Nat} {C : Blk} (hi : 64 ≤ i) : ∀ {B : List (Nat × Blk)}, leBlks ids64 H B → leBlks ids64 ((i, C) :: H) B
  | [], _ => trivial
  | (k, B') :: r, h => by
    refine ⟨?_, leBlks_more hi h.2⟩
    have h1 := h.1
    cases hn : nthO ids64 k with
    | none => trivial
    | some j =>
      simp only [hn] at h1
      have hj := ids64_lt hn
      have hb : Nat.beq i j = false := by
        cases hb : Nat.beq i j with
        | false => rfl
        | true => exact absurd (Nat.eq_of_beq_eq_true hb) (by omega)
      simp only [getB, hb]
      exact h1
end Go.Proofs.YteikpddilabppaaGreatR
