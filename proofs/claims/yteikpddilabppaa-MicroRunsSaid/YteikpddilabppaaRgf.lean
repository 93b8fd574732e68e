/- the reference of chapter 22 and the run: what the law needs besides. -/
import Derived.Test.YteikpddilabppaaRge
namespace Go.Proofs.Yteikpddilabppaa
open Go.AM
set_option maxRecDepth 100000
set_option linter.unusedSimpArgs false
set_option linter.unusedVariables false
theorem con14r (s : RunS) (g : GotS) (hw : s.waits = .none) : Con Try.prog 14 [me, .agg (gotL g)] (roR s) (fun v H' => v = .c (.int .i64 1) ∧ H' = roR s) := by
  (refine con_of_run mixed (fn := Try.f14) (by kernel_rfl) (by kernel_rfl) C14_ok (rs := [.tmp 4]) (by kernel_rfl) (Nat.le_of_ble_eq_true (by kernel_rfl)) ?_; unfold C14; simp only [initT, Nat.reduceAdd])
  generalize hR : (fun (v : AV) (H' : Heap) => v = AV.c (CV.int .i64 1) ∧ H' = roR s) = R
  simp only [me, roR, roB, runL, gotL, hw, waitV]
  repeat' (first
    | refine run_seq ?_
    | refine run_skip ?_
    | (refine run_region fun K hK => ?_; (try (simp (maxSteps := 10000000) only [microL, C14r0, C14r1, C14r2, C14r3, C14r4, C14r5, C14r6, C14r7, C14r8, C14r9, C14r10, rwp_nil, rwp_cons, rwpK_app, aop, gpath, St.get, slotAt, sfx, eqP, segsOf, St.put, addBlk, getB, setB, delB, ld1, ldn, st1, stn, setRow, rowNeed, segAt, nsub, bin, un, eqB, isShift, sameK, arith, shiftR, getsl, selB_or, selB_and, beqb, shed, addN, Nat.beq, Seg.size, sizes, imp, needP, andN, appL, argsOf, ptrsOf, aasOf, cut, takeS, dropS, putS, partsOf, fillS, fieldOf, nthA, negIf, nilq, nilB, eqS, eqF, eqS1, andP, kin, slcS, strOk, plusA, bndHi, leN, optG, roH, roL, initT, exOk, exAll, wrAddr, Nat.reduceAdd, Nat.reduceSub, Nat.reduceMul, Int.reduceToNat, List.append_nil, List.nil_append, List.cons_append, eqT, idxT, cat, cpy, ite_int, ite_bool, ite_seg, ite_segs, ite_nil, ite_twice, Int.toNat_natCast, app, addBs])); (repeat (first | (refine And.intro ?_ ?_; · first | trivial | assumption | omega))); with_reducible refine hK _ ?_; clear hK K)
    | (refine run_cond rfl (fun hc => ?_) (fun hc => ?_) <;> try (simp only [*, Bool.true_eq_false, Bool.false_eq_true, Bool.not_true, Bool.not_false, Bool.true_or, Bool.or_true, Bool.false_or, Bool.or_false, Bool.false_and, Bool.and_false, bne_self_eq_false, beq_self_eq_true] at hc; done))
    | refine run_block ?_
    | refine run_ret ?_
    | refine run_nil ?_
    | refine run_exit ?_
    | refine blk_normal ?_
    | refine blk_ret ?_
    | refine blk_here ?_
    | refine blk_there rfl ?_
    | refine loop_exit ?_
    | refine loop_ret ?_
    | refine un_exit ?_
    | refine un_ret ?_
    | refine unE_exit ?_
    | refine unE_ret ?_
    | refine un_normal ?_)
  subst hR
  exact end_ro s [⟨4, [], .c (.int .i64 1)⟩] (by simp only [roB, runL, hw, waitV]; rfl) ⟨⟨rfl, rfl⟩, trivial⟩ ⟨rfl, rfl⟩
theorem op_R {c : CodeS} {i : Int} {m : MicroS} (hA : opA c i m = false) (himm : U m.imm) : OpR m := by
  have hf : fitsS m c.slots = true := by
    simp only [opA, Bool.or_eq_false_iff, Bool.not_eq_false'] at hA
    exact hA.2
  refine ⟨himm, fun h => ?_, fun h => ?_⟩
  · rcases h with h | h
    · simp only [fitsS, h, Int.reduceEq, if_true, if_false, reduceIte, or_self, Bool.and_eq_true, decide_eq_true_eq] at hf
      unfold acqS
      split
      · omega
      · split <;> omega
    · simp only [fitsS, h, Int.reduceEq, if_true, if_false, reduceIte, or_self, Bool.or_eq_true, beq_iff_eq] at hf
      unfold acqS
      split
      · omega
      · split <;> omega
  · simp only [fitsS, h, Int.reduceEq, if_true, if_false, reduceIte, or_self, decide_eq_true_eq] at hf
    exact hf
theorem new_fine {c : CodeS} {k : CoreS} (h : rightS c = true) (himm : ∀ i, i < c.nops → U (c.ops i).imm) (hx : ∀ i, i < 31 → U (k.x i)) (hsp : ∀ i, i < 2 → U (k.sp i)) : FineS (newS c k) := by
  have hr : rightL c c.nops 0 (fun _ => false) (fun _ => false) = true := by
    simp only [rightS, Bool.and_eq_true] at h
    exact h.2
  refine ⟨⟨fun _ _ => U0, fun _ _ => U0, hx, hsp, U0⟩, fun i hi => ?_, fun _ => rfl, fun h => (by cases h)⟩
  obtain ⟨hA, set, slot, hB⟩ := rightL_all _ _ _ _ hr i (by omega) (by have : i < c.nops := hi; omega)
  exact op_R hA (himm i hi)
theorem next_next {s : RunS} (hg : GoodS s) : nextR (nextR s) = nextR s := by
  obtain ⟨_, h, _⟩ := nextR_good hg
  refine nextS_stop ?_ _
  cases hx : isN (nextR s).waits with
  | true => exact .inl (h hx)
  | false => exact .inr rfl
theorem nextS_ops : ∀ (n : Nat) (s : RunS), (nextS n s).ops = s.ops
  | 0, s => rfl
  | n + 1, s => by
    unfold nextS
    split
    · split
      · rename_i ht
        obtain ⟨_, ⟨a, w, k, e, _⟩ | ⟨w, k, e, _⟩⟩ := world_cases ht
        · rw [e]; unfold accS; split <;> rfl
        · rw [e]
      · rw [nextS_ops n]
        exact (local_same s _).ops
    · rfl
theorem nextR_ops (s : RunS) : (nextR s).ops = s.ops := nextS_ops _ s
theorem took_ops (s : RunS) (g : GotS) : (tookS s g).ops = s.ops := (goS_same s g).1
theorem core_eq (k : CoreS) : (List.range 31).all (fun z => eqCb (.int .u64 (k.x z)) (.int .u64 (k.x z))) = true := by
  rw [List.all_eq_true]; intro z _; simp [eqCb]
theorem sp_eq (k : CoreS) : (List.range 2).all (fun z => eqCb (.int .u64 (k.sp z)) (.int .u64 (k.sp z))) = true := by
  rw [List.all_eq_true]; intro z _; simp [eqCb]
theorem guest_wrap {x : Int} (h : U x) : IntKind.u64.wrap x = x := by
  rw [uwrap]; obtain ⟨h0, h1⟩ := h; omega
end Go.Proofs.Yteikpddilabppaa
