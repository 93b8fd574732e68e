/- code: what the forms put and take. -/
import Derived.Test.YteikpddilabppaaGreatRWk
namespace Go.Proofs.YteikpddilabppaaGreatR
open Go.AM
set_option maxRecDepth 100000
set_option linter.unusedSimpArgs false
set_option linter.unusedVariables false
def takeI : Nat → Int → InsnS
  | 0, w => addImmS w
  | 1, w => addRegS w
  | 2, w => logRegS w
  | 3, w => logImmS w
  | 4, w => movWideS w
  | 5, w => bitfieldS w
  | 6, w => shiftRegS w
  | 7, w => mulIS w
  | 8, w => divIS w
  | 9, w => selS w
  | 10, w => adrS w
  | 11, w => bS w
  | 12, w => bCondS w
  | 13, w => cbzS w
  | 14, w => tbzS w
  | 15, w => brS w
  | 16, w => accI 17 w
  | 17, w => accI 18 w
  | 18, w => accRegI 19 w
  | 19, w => accRegI 20 w
  | 20, w => twoI 21 0 w
  | 21, w => twoI 21 1 w
  | 22, w => twoI 22 0 w
  | 23, w => exclI 23 w
  | 24, w => exclI 24 w
  | 25, w => plainI 25 w
  | 26, w => numberI 26 0 8 2 w
  | 27, w => numberI 26 1 8 2 w
  | 28, w => plainI 27 w
  | 29, w => targetI 28 w
  | 30, w => targetI 30 w
  | 31, w => plainI 29 w
  | 32, w => systemI 31 w
  | 33, w => systemI 32 w
  | 34, w => numberI 33 0 8 4 w
  | 35, w => numberI 33 1 8 4 w
  | 36, w => numberI 34 0 5 16 w
  | 37, w => numberI 35 0 5 16 w
  | 38, w => plainI 36 w
  | 39, w => numberI 37 0 5 3 w
  | _, _ => nilI
def putI : Nat → Int → InsnS → Int
  | 0, w, x => putAddImmS w x
  | 1, w, x => putAddRegS w x
  | 2, w, x => putLogRegS w x
  | 3, w, x => putLogImmS w x
  | 4, w, x => putMovWideS w x
  | 5, w, x => putBitfieldS w x
  | 6, w, x => putSub10S w x
  | 7, w, x => putMulS w x
  | 8, w, x => putSub10S w x
  | 9, w, x => putSelS w x
  | 10, w, x => putAdrS w x
  | 11, w, x => putBS w x
  | 12, w, x => putBCondS w x
  | 13, w, x => putCbzS w x
  | 14, w, x => putTbzS w x
  | 15, w, x => putBrS w x
  | 16, w, x => putAccessS w x
  | 17, w, x => putAccessS w x
  | 18, w, x => putAccessRegS w x
  | 19, w, x => putAccessRegS w x
  | 20, w, x => regsS w x
  | 21, w, x => regsS w x
  | 22, w, x => regsS w x
  | 23, w, x => putExclusiveS w x
  | 24, w, x => putExclusiveS w x
  | 25, w, x => regsS w x
  | 26, w, x => layS w x.imm 8 2
  | 27, w, x => layS w x.imm 8 2
  | 28, w, x => regsS w x
  | 29, w, x => regsS w x
  | 30, w, x => regsS w x
  | 31, w, x => regsS w x
  | 32, w, x => putSystemS w x
  | 33, w, x => putSystemS w x
  | 34, w, x => layS w x.imm 8 4
  | 35, w, x => layS w x.imm 8 4
  | 36, w, x => layS w x.imm 5 16
  | 37, w, x => layS w x.imm 5 16
  | 38, w, x => regsS w x
  | 39, w, x => layS w x.imm 5 3
  | _, _, _ => 0
theorem take_con (w : Int) (n : Nat) (X : List (Nat × Blk)) (hX : ∀ k, k < 62 → getB X (k + 1) = some (boxW (boxV k))) (hn : 63 ≤ n) (hkl : keysLt X n) : ∀ i, i < 40 → Con Tryz.prog (fTake i) (.c (.int .u32 w) :: ptrsOf (mapAL (gId [] 1) (fTakeC i))) ⟨n, X⟩ (fun v H' => v = .agg (insnL (takeI i w)) ∧ H' = ⟨n, X⟩)
  | 0, _ => con20 w ⟨n, X⟩
  | 1, _ => con22 w ⟨n, X⟩
  | 2, _ => con24 w ⟨n, X⟩
  | 3, _ => con26 w ⟨n, X⟩
  | 4, _ => con28 w ⟨n, X⟩
  | 5, _ => con30 w ⟨n, X⟩
  | 6, _ => con32 w ⟨n, X⟩
  | 7, _ => con34 w ⟨n, X⟩
  | 8, _ => con35 w ⟨n, X⟩
  | 9, _ => con37 w ⟨n, X⟩
  | 10, _ => con39 w ⟨n, X⟩
  | 11, _ => con41 w ⟨n, X⟩
  | 12, _ => con43 w ⟨n, X⟩
  | 13, _ => con45 w ⟨n, X⟩
  | 14, _ => con47 w ⟨n, X⟩
  | 15, _ => con49 w ⟨n, X⟩
  | 16, _ => by
    have e0 : getB X 1 = some (boxW 17) := hX 0 (by decide)
    exact ro_gen (con96 17 w) [1] n X rfl (by simp only [diff, notIn, and_self]) ⟨by omega, trivial⟩ hkl (by simp only [boxH1, leBlks, nthO, e0]; exact ⟨box_le _ _, trivial⟩) (by simp only [leArgs, ptrsOf, mapAL, mapA, gId, fTakeC, leV, leV1, leC, leA, nthO, and_self]) rfl (fun _ => rfl) rfl rfl
  | 17, _ => by
    have e1 : getB X 2 = some (boxW 18) := hX 1 (by decide)
    exact ro_gen (con96 18 w) [2] n X rfl (by simp only [diff, notIn, and_self]) ⟨by omega, trivial⟩ hkl (by simp only [boxH1, leBlks, nthO, e1]; exact ⟨box_le _ _, trivial⟩) (by simp only [leArgs, ptrsOf, mapAL, mapA, gId, fTakeC, leV, leV1, leC, leA, nthO, and_self]) rfl (fun _ => rfl) rfl rfl
  | 18, _ => by
    have e2 : getB X 3 = some (boxW 19) := hX 2 (by decide)
    exact ro_gen (con97 19 w) [3] n X rfl (by simp only [diff, notIn, and_self]) ⟨by omega, trivial⟩ hkl (by simp only [boxH1, leBlks, nthO, e2]; exact ⟨box_le _ _, trivial⟩) (by simp only [leArgs, ptrsOf, mapAL, mapA, gId, fTakeC, leV, leV1, leC, leA, nthO, and_self]) rfl (fun _ => rfl) rfl rfl
  | 19, _ => by
    have e3 : getB X 4 = some (boxW 20) := hX 3 (by decide)
    exact ro_gen (con97 20 w) [4] n X rfl (by simp only [diff, notIn, and_self]) ⟨by omega, trivial⟩ hkl (by simp only [boxH1, leBlks, nthO, e3]; exact ⟨box_le _ _, trivial⟩) (by simp only [leArgs, ptrsOf, mapAL, mapA, gId, fTakeC, leV, leV1, leC, leA, nthO, and_self]) rfl (fun _ => rfl) rfl rfl
  | 20, _ => by
    have e4 : getB X 5 = some (boxW 21) := hX 4 (by decide); have e5 : getB X 6 = some (boxW 0) := hX 5 (by decide)
    exact ro_gen (con98 21 0 w) [5, 6] n X rfl (by simp only [diff, notIn, Nat.beq, and_self]) ⟨by omega, by omega, trivial⟩ hkl (by simp only [boxH2, leBlks, nthO, e4, e5]; exact ⟨box_le _ _, box_le _ _, trivial⟩) (by simp only [leArgs, ptrsOf, mapAL, mapA, gId, fTakeC, leV, leV1, leC, leA, nthO, and_self]) rfl (fun _ => rfl) rfl rfl
  | 21, _ => by
    have e6 : getB X 7 = some (boxW 21) := hX 6 (by decide); have e7 : getB X 8 = some (boxW 1) := hX 7 (by decide)
    exact ro_gen (con98 21 1 w) [7, 8] n X rfl (by simp only [diff, notIn, Nat.beq, and_self]) ⟨by omega, by omega, trivial⟩ hkl (by simp only [boxH2, leBlks, nthO, e6, e7]; exact ⟨box_le _ _, box_le _ _, trivial⟩) (by simp only [leArgs, ptrsOf, mapAL, mapA, gId, fTakeC, leV, leV1, leC, leA, nthO, and_self]) rfl (fun _ => rfl) rfl rfl
  | 22, _ => by
    have e8 : getB X 9 = some (boxW 22) := hX 8 (by decide); have e9 : getB X 10 = some (boxW 0) := hX 9 (by decide)
    exact ro_gen (con98 22 0 w) [9, 10] n X rfl (by simp only [diff, notIn, Nat.beq, and_self]) ⟨by omega, by omega, trivial⟩ hkl (by simp only [boxH2, leBlks, nthO, e8, e9]; exact ⟨box_le _ _, box_le _ _, trivial⟩) (by simp only [leArgs, ptrsOf, mapAL, mapA, gId, fTakeC, leV, leV1, leC, leA, nthO, and_self]) rfl (fun _ => rfl) rfl rfl
  | 23, _ => by
    have e10 : getB X 11 = some (boxW 23) := hX 10 (by decide)
    exact ro_gen (con99 23 w) [11] n X rfl (by simp only [diff, notIn, and_self]) ⟨by omega, trivial⟩ hkl (by simp only [boxH1, leBlks, nthO, e10]; exact ⟨box_le _ _, trivial⟩) (by simp only [leArgs, ptrsOf, mapAL, mapA, gId, fTakeC, leV, leV1, leC, leA, nthO, and_self]) rfl (fun _ => rfl) rfl rfl
  | 24, _ => by
    have e11 : getB X 12 = some (boxW 24) := hX 11 (by decide)
    exact ro_gen (con99 24 w) [12] n X rfl (by simp only [diff, notIn, and_self]) ⟨by omega, trivial⟩ hkl (by simp only [boxH1, leBlks, nthO, e11]; exact ⟨box_le _ _, trivial⟩) (by simp only [leArgs, ptrsOf, mapAL, mapA, gId, fTakeC, leV, leV1, leC, leA, nthO, and_self]) rfl (fun _ => rfl) rfl rfl
  | 25, _ => by
    have e12 : getB X 13 = some (boxW 25) := hX 12 (by decide)
    exact ro_gen (con100 25 w) [13] n X rfl (by simp only [diff, notIn, and_self]) ⟨by omega, trivial⟩ hkl (by simp only [boxH1, leBlks, nthO, e12]; exact ⟨box_le _ _, trivial⟩) (by simp only [leArgs, ptrsOf, mapAL, mapA, gId, fTakeC, leV, leV1, leC, leA, nthO, and_self]) rfl (fun _ => rfl) rfl rfl
  | 26, _ => by
    have e15 : getB X 16 = some (boxW 26) := hX 15 (by decide); have e16 : getB X 17 = some (boxW 0) := hX 16 (by decide); have e17 : getB X 18 = some (boxW 8) := hX 17 (by decide); have e18 : getB X 19 = some (boxW 2) := hX 18 (by decide)
    exact ro_gen (con102 26 0 8 2 w (by decide) (by decide)) [16, 17, 18, 19] n X rfl (by simp only [diff, notIn, Nat.beq, and_self]) ⟨by omega, by omega, by omega, by omega, trivial⟩ hkl (by simp only [boxH4, leBlks, nthO, e15, e16, e17, e18]; exact ⟨box_le _ _, box_le _ _, box_le _ _, box_le _ _, trivial⟩) (by simp only [leArgs, ptrsOf, mapAL, mapA, gId, fTakeC, leV, leV1, leC, leA, nthO, and_self]) rfl (fun _ => rfl) rfl rfl
  | 27, _ => by
    have e21 : getB X 22 = some (boxW 26) := hX 21 (by decide); have e22 : getB X 23 = some (boxW 1) := hX 22 (by decide); have e23 : getB X 24 = some (boxW 8) := hX 23 (by decide); have e24 : getB X 25 = some (boxW 2) := hX 24 (by decide)
    exact ro_gen (con102 26 1 8 2 w (by decide) (by decide)) [22, 23, 24, 25] n X rfl (by simp only [diff, notIn, Nat.beq, and_self]) ⟨by omega, by omega, by omega, by omega, trivial⟩ hkl (by simp only [boxH4, leBlks, nthO, e21, e22, e23, e24]; exact ⟨box_le _ _, box_le _ _, box_le _ _, box_le _ _, trivial⟩) (by simp only [leArgs, ptrsOf, mapAL, mapA, gId, fTakeC, leV, leV1, leC, leA, nthO, and_self]) rfl (fun _ => rfl) rfl rfl
  | 28, _ => by
    have e25 : getB X 26 = some (boxW 27) := hX 25 (by decide)
    exact ro_gen (con100 27 w) [26] n X rfl (by simp only [diff, notIn, and_self]) ⟨by omega, trivial⟩ hkl (by simp only [boxH1, leBlks, nthO, e25]; exact ⟨box_le _ _, trivial⟩) (by simp only [leArgs, ptrsOf, mapAL, mapA, gId, fTakeC, leV, leV1, leC, leA, nthO, and_self]) rfl (fun _ => rfl) rfl rfl
  | 29, _ => by
    have e26 : getB X 27 = some (boxW 28) := hX 26 (by decide)
    exact ro_gen (con103 28 w) [27] n X rfl (by simp only [diff, notIn, and_self]) ⟨by omega, trivial⟩ hkl (by simp only [boxH1, leBlks, nthO, e26]; exact ⟨box_le _ _, trivial⟩) (by simp only [leArgs, ptrsOf, mapAL, mapA, gId, fTakeC, leV, leV1, leC, leA, nthO, and_self]) rfl (fun _ => rfl) rfl rfl
  | 30, _ => by
    have e27 : getB X 28 = some (boxW 30) := hX 27 (by decide)
    exact ro_gen (con103 30 w) [28] n X rfl (by simp only [diff, notIn, and_self]) ⟨by omega, trivial⟩ hkl (by simp only [boxH1, leBlks, nthO, e27]; exact ⟨box_le _ _, trivial⟩) (by simp only [leArgs, ptrsOf, mapAL, mapA, gId, fTakeC, leV, leV1, leC, leA, nthO, and_self]) rfl (fun _ => rfl) rfl rfl
  | 31, _ => by
    have e28 : getB X 29 = some (boxW 29) := hX 28 (by decide)
    exact ro_gen (con100 29 w) [29] n X rfl (by simp only [diff, notIn, and_self]) ⟨by omega, trivial⟩ hkl (by simp only [boxH1, leBlks, nthO, e28]; exact ⟨box_le _ _, trivial⟩) (by simp only [leArgs, ptrsOf, mapAL, mapA, gId, fTakeC, leV, leV1, leC, leA, nthO, and_self]) rfl (fun _ => rfl) rfl rfl
  | 32, _ => by
    have e29 : getB X 30 = some (boxW 31) := hX 29 (by decide)
    exact ro_gen (con104 31 w) [30] n X rfl (by simp only [diff, notIn, and_self]) ⟨by omega, trivial⟩ hkl (by simp only [boxH1, leBlks, nthO, e29]; exact ⟨box_le _ _, trivial⟩) (by simp only [leArgs, ptrsOf, mapAL, mapA, gId, fTakeC, leV, leV1, leC, leA, nthO, and_self]) rfl (fun _ => rfl) rfl rfl
  | 33, _ => by
    have e30 : getB X 31 = some (boxW 32) := hX 30 (by decide)
    exact ro_gen (con104 32 w) [31] n X rfl (by simp only [diff, notIn, and_self]) ⟨by omega, trivial⟩ hkl (by simp only [boxH1, leBlks, nthO, e30]; exact ⟨box_le _ _, trivial⟩) (by simp only [leArgs, ptrsOf, mapAL, mapA, gId, fTakeC, leV, leV1, leC, leA, nthO, and_self]) rfl (fun _ => rfl) rfl rfl
  | 34, _ => by
    have e33 : getB X 34 = some (boxW 33) := hX 33 (by decide); have e34 : getB X 35 = some (boxW 0) := hX 34 (by decide); have e35 : getB X 36 = some (boxW 8) := hX 35 (by decide); have e36 : getB X 37 = some (boxW 4) := hX 36 (by decide)
    exact ro_gen (con102 33 0 8 4 w (by decide) (by decide)) [34, 35, 36, 37] n X rfl (by simp only [diff, notIn, Nat.beq, and_self]) ⟨by omega, by omega, by omega, by omega, trivial⟩ hkl (by simp only [boxH4, leBlks, nthO, e33, e34, e35, e36]; exact ⟨box_le _ _, box_le _ _, box_le _ _, box_le _ _, trivial⟩) (by simp only [leArgs, ptrsOf, mapAL, mapA, gId, fTakeC, leV, leV1, leC, leA, nthO, and_self]) rfl (fun _ => rfl) rfl rfl
  | 35, _ => by
    have e39 : getB X 40 = some (boxW 33) := hX 39 (by decide); have e40 : getB X 41 = some (boxW 1) := hX 40 (by decide); have e41 : getB X 42 = some (boxW 8) := hX 41 (by decide); have e42 : getB X 43 = some (boxW 4) := hX 42 (by decide)
    exact ro_gen (con102 33 1 8 4 w (by decide) (by decide)) [40, 41, 42, 43] n X rfl (by simp only [diff, notIn, Nat.beq, and_self]) ⟨by omega, by omega, by omega, by omega, trivial⟩ hkl (by simp only [boxH4, leBlks, nthO, e39, e40, e41, e42]; exact ⟨box_le _ _, box_le _ _, box_le _ _, box_le _ _, trivial⟩) (by simp only [leArgs, ptrsOf, mapAL, mapA, gId, fTakeC, leV, leV1, leC, leA, nthO, and_self]) rfl (fun _ => rfl) rfl rfl
  | 36, _ => by
    have e45 : getB X 46 = some (boxW 34) := hX 45 (by decide); have e46 : getB X 47 = some (boxW 0) := hX 46 (by decide); have e47 : getB X 48 = some (boxW 5) := hX 47 (by decide); have e48 : getB X 49 = some (boxW 16) := hX 48 (by decide)
    exact ro_gen (con102 34 0 5 16 w (by decide) (by decide)) [46, 47, 48, 49] n X rfl (by simp only [diff, notIn, Nat.beq, and_self]) ⟨by omega, by omega, by omega, by omega, trivial⟩ hkl (by simp only [boxH4, leBlks, nthO, e45, e46, e47, e48]; exact ⟨box_le _ _, box_le _ _, box_le _ _, box_le _ _, trivial⟩) (by simp only [leArgs, ptrsOf, mapAL, mapA, gId, fTakeC, leV, leV1, leC, leA, nthO, and_self]) rfl (fun _ => rfl) rfl rfl
  | 37, _ => by
    have e51 : getB X 52 = some (boxW 35) := hX 51 (by decide); have e52 : getB X 53 = some (boxW 0) := hX 52 (by decide); have e53 : getB X 54 = some (boxW 5) := hX 53 (by decide); have e54 : getB X 55 = some (boxW 16) := hX 54 (by decide)
    exact ro_gen (con102 35 0 5 16 w (by decide) (by decide)) [52, 53, 54, 55] n X rfl (by simp only [diff, notIn, Nat.beq, and_self]) ⟨by omega, by omega, by omega, by omega, trivial⟩ hkl (by simp only [boxH4, leBlks, nthO, e51, e52, e53, e54]; exact ⟨box_le _ _, box_le _ _, box_le _ _, box_le _ _, trivial⟩) (by simp only [leArgs, ptrsOf, mapAL, mapA, gId, fTakeC, leV, leV1, leC, leA, nthO, and_self]) rfl (fun _ => rfl) rfl rfl
  | 38, _ => by
    have e55 : getB X 56 = some (boxW 36) := hX 55 (by decide)
    exact ro_gen (con100 36 w) [56] n X rfl (by simp only [diff, notIn, and_self]) ⟨by omega, trivial⟩ hkl (by simp only [boxH1, leBlks, nthO, e55]; exact ⟨box_le _ _, trivial⟩) (by simp only [leArgs, ptrsOf, mapAL, mapA, gId, fTakeC, leV, leV1, leC, leA, nthO, and_self]) rfl (fun _ => rfl) rfl rfl
  | 39, _ => by
    have e58 : getB X 59 = some (boxW 37) := hX 58 (by decide); have e59 : getB X 60 = some (boxW 0) := hX 59 (by decide); have e60 : getB X 61 = some (boxW 5) := hX 60 (by decide); have e61 : getB X 62 = some (boxW 3) := hX 61 (by decide)
    exact ro_gen (con102 37 0 5 3 w (by decide) (by decide)) [59, 60, 61, 62] n X rfl (by simp only [diff, notIn, Nat.beq, and_self]) ⟨by omega, by omega, by omega, by omega, trivial⟩ hkl (by simp only [boxH4, leBlks, nthO, e58, e59, e60, e61]; exact ⟨box_le _ _, box_le _ _, box_le _ _, box_le _ _, trivial⟩) (by simp only [leArgs, ptrsOf, mapAL, mapA, gId, fTakeC, leV, leV1, leC, leA, nthO, and_self]) rfl (fun _ => rfl) rfl rfl
  | n + 40, h => absurd h (by omega)
theorem put_con (w : Int) (x : InsnS) (n : Nat) (X : List (Nat × Blk)) (hX : ∀ k, k < 62 → getB X (k + 1) = some (boxW (boxV k))) (hn : 63 ≤ n) (hkl : keysLt X n) : ∀ i, i < 40 → Con Tryz.prog (fPut i) (.c (.int .u32 w) :: .agg (insnL x) :: ptrsOf (mapAL (gId [] 1) (fPutC i))) ⟨n, X⟩ (fun v H' => v = .c (.int .u32 (putI i w x)) ∧ H' = ⟨n, X⟩)
  | 0, _ => con19 w x ⟨n, X⟩
  | 1, _ => con21 w x ⟨n, X⟩
  | 2, _ => con23 w x ⟨n, X⟩
  | 3, _ => con25 w x ⟨n, X⟩
  | 4, _ => con27 w x ⟨n, X⟩
  | 5, _ => con29 w x ⟨n, X⟩
  | 6, _ => con31 w x ⟨n, X⟩
  | 7, _ => con33 w x ⟨n, X⟩
  | 8, _ => con31 w x ⟨n, X⟩
  | 9, _ => con36 w x ⟨n, X⟩
  | 10, _ => con38 w x ⟨n, X⟩
  | 11, _ => con40 w x ⟨n, X⟩
  | 12, _ => con42 w x ⟨n, X⟩
  | 13, _ => con44 w x ⟨n, X⟩
  | 14, _ => con46 w x ⟨n, X⟩
  | 15, _ => con48 w x ⟨n, X⟩
  | 16, _ => con50 w x ⟨n, X⟩
  | 17, _ => con50 w x ⟨n, X⟩
  | 18, _ => con52 w x ⟨n, X⟩
  | 19, _ => con52 w x ⟨n, X⟩
  | 20, _ => con54 w x ⟨n, X⟩
  | 21, _ => con54 w x ⟨n, X⟩
  | 22, _ => con54 w x ⟨n, X⟩
  | 23, _ => con56 w x ⟨n, X⟩
  | 24, _ => con56 w x ⟨n, X⟩
  | 25, _ => con54 w x ⟨n, X⟩
  | 26, _ => by
    have e13 : getB X 14 = some (boxW 8) := hX 13 (by decide); have e14 : getB X 15 = some (boxW 2) := hX 14 (by decide)
    exact ro_gen (con101 8 2 w x (by decide) (by decide)) [14, 15] n X rfl (by simp only [diff, notIn, Nat.beq, and_self]) ⟨by omega, by omega, trivial⟩ hkl (by simp only [boxH2, leBlks, nthO, e13, e14]; exact ⟨box_le _ _, box_le _ _, trivial⟩) (by simp only [leArgs, ptrsOf, mapAL, mapA, gId, fPutC, leV, leV1, insnL, leSegs, leSeg, leC, leA, nthO, and_self]) rfl (fun _ => rfl) rfl rfl
  | 27, _ => by
    have e19 : getB X 20 = some (boxW 8) := hX 19 (by decide); have e20 : getB X 21 = some (boxW 2) := hX 20 (by decide)
    exact ro_gen (con101 8 2 w x (by decide) (by decide)) [20, 21] n X rfl (by simp only [diff, notIn, Nat.beq, and_self]) ⟨by omega, by omega, trivial⟩ hkl (by simp only [boxH2, leBlks, nthO, e19, e20]; exact ⟨box_le _ _, box_le _ _, trivial⟩) (by simp only [leArgs, ptrsOf, mapAL, mapA, gId, fPutC, leV, leV1, insnL, leSegs, leSeg, leC, leA, nthO, and_self]) rfl (fun _ => rfl) rfl rfl
  | 28, _ => con54 w x ⟨n, X⟩
  | 29, _ => con54 w x ⟨n, X⟩
  | 30, _ => con54 w x ⟨n, X⟩
  | 31, _ => con54 w x ⟨n, X⟩
  | 32, _ => con62 w x ⟨n, X⟩
  | 33, _ => con62 w x ⟨n, X⟩
  | 34, _ => by
    have e31 : getB X 32 = some (boxW 8) := hX 31 (by decide); have e32 : getB X 33 = some (boxW 4) := hX 32 (by decide)
    exact ro_gen (con101 8 4 w x (by decide) (by decide)) [32, 33] n X rfl (by simp only [diff, notIn, Nat.beq, and_self]) ⟨by omega, by omega, trivial⟩ hkl (by simp only [boxH2, leBlks, nthO, e31, e32]; exact ⟨box_le _ _, box_le _ _, trivial⟩) (by simp only [leArgs, ptrsOf, mapAL, mapA, gId, fPutC, leV, leV1, insnL, leSegs, leSeg, leC, leA, nthO, and_self]) rfl (fun _ => rfl) rfl rfl
  | 35, _ => by
    have e37 : getB X 38 = some (boxW 8) := hX 37 (by decide); have e38 : getB X 39 = some (boxW 4) := hX 38 (by decide)
    exact ro_gen (con101 8 4 w x (by decide) (by decide)) [38, 39] n X rfl (by simp only [diff, notIn, Nat.beq, and_self]) ⟨by omega, by omega, trivial⟩ hkl (by simp only [boxH2, leBlks, nthO, e37, e38]; exact ⟨box_le _ _, box_le _ _, trivial⟩) (by simp only [leArgs, ptrsOf, mapAL, mapA, gId, fPutC, leV, leV1, insnL, leSegs, leSeg, leC, leA, nthO, and_self]) rfl (fun _ => rfl) rfl rfl
  | 36, _ => by
    have e43 : getB X 44 = some (boxW 5) := hX 43 (by decide); have e44 : getB X 45 = some (boxW 16) := hX 44 (by decide)
    exact ro_gen (con101 5 16 w x (by decide) (by decide)) [44, 45] n X rfl (by simp only [diff, notIn, Nat.beq, and_self]) ⟨by omega, by omega, trivial⟩ hkl (by simp only [boxH2, leBlks, nthO, e43, e44]; exact ⟨box_le _ _, box_le _ _, trivial⟩) (by simp only [leArgs, ptrsOf, mapAL, mapA, gId, fPutC, leV, leV1, insnL, leSegs, leSeg, leC, leA, nthO, and_self]) rfl (fun _ => rfl) rfl rfl
  | 37, _ => by
    have e49 : getB X 50 = some (boxW 5) := hX 49 (by decide); have e50 : getB X 51 = some (boxW 16) := hX 50 (by decide)
    exact ro_gen (con101 5 16 w x (by decide) (by decide)) [50, 51] n X rfl (by simp only [diff, notIn, Nat.beq, and_self]) ⟨by omega, by omega, trivial⟩ hkl (by simp only [boxH2, leBlks, nthO, e49, e50]; exact ⟨box_le _ _, box_le _ _, trivial⟩) (by simp only [leArgs, ptrsOf, mapAL, mapA, gId, fPutC, leV, leV1, insnL, leSegs, leSeg, leC, leA, nthO, and_self]) rfl (fun _ => rfl) rfl rfl
  | 38, _ => con54 w x ⟨n, X⟩
  | 39, _ => by
    have e56 : getB X 57 = some (boxW 5) := hX 56 (by decide); have e57 : getB X 58 = some (boxW 3) := hX 57 (by decide)
    exact ro_gen (con101 5 3 w x (by decide) (by decide)) [57, 58] n X rfl (by simp only [diff, notIn, Nat.beq, and_self]) ⟨by omega, by omega, trivial⟩ hkl (by simp only [boxH2, leBlks, nthO, e56, e57]; exact ⟨box_le _ _, box_le _ _, trivial⟩) (by simp only [leArgs, ptrsOf, mapAL, mapA, gId, fPutC, leV, leV1, insnL, leSegs, leSeg, leC, leA, nthO, and_self]) rfl (fun _ => rfl) rfl rfl
  | n + 40, h => absurd h (by omega)
end Go.Proofs.YteikpddilabppaaGreatR
