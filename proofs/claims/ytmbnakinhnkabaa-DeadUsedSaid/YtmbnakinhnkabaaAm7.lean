/- AM: 'op_p': an operation that does not turn the heap. -/
import Derived.Test.YtmbnakinhnkabaaAm6
import Derived.Test.YtmbnakinhnkabaaAmE
import Derived.Laws.Small
import Derived.Laws.MakeOwn
import Derived.Laws.Concat
namespace Go.AM
set_option linter.unusedVariables false
set_option linter.unusedSimpArgs false
variable {P : Program} {φ : Emb} {w : World}

/-- As 'Yld', of an operation. -/
def YldN (P : Program) (φ : Emb) (n : Nat) (m : Sem Next) (w : World) (v : AV) : Option Blk → Prop
  | none => ∃ x, m.run P w = .ok (.value x) w ∧ relA φ v x
  | some B => ∃ x cs c, m.run P w = .ok (.value x) (w.alloc (.cells cs B.elem)) ∧ relA (φ.ins n ⟨w.heap.size, 0, B.str, c⟩) v x ∧ BRel (φ.ins n ⟨w.heap.size, 0, B.str, c⟩) B ⟨w.heap.size, 0, B.str, c⟩ (w.alloc (.cells cs B.elem))

theorem Yld.next {n : Nat} {m : Sem Value} {v : AV} {B : Option Blk} (h : Yld P φ n m w v B) : YldN P φ n (do pure (Next.value (← m))) w v B := by
  cases B with
  | none => obtain ⟨x, h1, h2⟩ := h; exact ⟨x, by simp [Sem.run_bind, h1, go_sem], h2⟩
  | some B => obtain ⟨x, cs, c, h1, h2⟩ := h; exact ⟨x, cs, c, by simp [Sem.run_bind, h1, go_sem], h2⟩

theorem aasOf_rel {g : Opd → AV} {ρ : Operand → Value} (hg : ∀ x y, opd x = some y → relA φ (g y) (ρ x)) : ∀ (l : List Operand) (m : List Opd) (as : List AA), opds l = some m → aasOf g m = some as → F2 (relP φ) as (l.map ρ)
  | [], m, as, h1, h2 => by
    simp only [opds, Option.some.injEq] at h1
    subst h1
    simp only [aasOf, Option.some.injEq] at h2
    subst h2
    exact .nil
  | x :: r, m, as, h1, h2 => by
    simp only [opds] at h1
    split at h1
    · rename_i y l hy hl
      simp only [Option.some.injEq] at h1
      subst h1
      simp only [aasOf] at h2
      split at h2
      · rename_i a ha
        split at h2
        · rename_i t ht
          simp only [Option.some.injEq] at h2
          subst h2
          have := hg x y hy
          rw [ha] at this
          exact .cons this (aasOf_rel hg r l t hl ht)
        · simp at h2
      · simp at h2
    · simp at h1

theorem optG_rel {g : Opd → AV} {ρ : Operand → Value} (hg : ∀ x y, opd x = some y → relA φ (g y) (ρ x)) {x : Option Operand} {y : Option Opd} (h : opdO x = some y) : Opt φ (optG g y) (x.map ρ) := by
  cases x with
  | none => simp only [opdO, Option.some.injEq] at h; subst h; trivial
  | some x =>
    simp only [opdO, Option.map_eq_some_iff] at h
    obtain ⟨z, hz, rfl⟩ := h
    exact hg x z hz

theorem nthA_get {R : AV → Value → Prop} : ∀ {l : List AV} {m : List Value} (i : Nat), F2 R l m → nthA l i ≠ .bot → ∃ x, m[i]? = some x ∧ R (nthA l i) x
  | [], _, i, h, hb => by simp [nthA] at hb
  | _ :: _, _, 0, .cons h _, hb => ⟨_, rfl, h⟩
  | _ :: _, _, i + 1, .cons _ h, hb => by simpa [nthA] using nthA_get i h (by simpa [nthA] using hb)

theorem repl_row {z : List Seg} {zs : Array Value} {k m : Nat} (h : F2 (rel φ) (flat z) zs.toList) (hk : sizes z = k) {cells : Array Value} (hc : cells.toList = ((Array.range (m * k)).map (zs[· % zs.size]!)).toList) {i : Nat} (hi : i < m) :
    ∀ j x, zs.toList[j]? = some x → cells[k * i + j]? = some x := by
  intro j x hx
  have hz : zs.size = k := by rw [← hk, ← flat_length, h.length]; simp
  have hj : j < k := by have := (List.getElem?_eq_some_iff.1 hx).1; simpa [hz] using this
  have hlt : k * i + j < m * k := by
    have : k * i + k ≤ m * k := by rw [Nat.mul_comm m k, ← Nat.mul_succ]; exact Nat.mul_le_mul_left _ hi
    omega
  have e : cells[k * i + j]? = cells.toList[k * i + j]? := by simp
  rw [e, hc]
  simp only [Array.toList_map, Array.toList_range, List.getElem?_map, List.getElem?_range hlt, Option.map_some]
  rw [hz, Nat.mul_add_mod, Nat.mod_eq_of_lt hj]
  have hj' : j < zs.size := by omega
  have : zs[j]? = some x := by simpa using hx
  rw [Array.getElem!_eq_getD, Array.getD_eq_getD_getElem?, this]
  rfl

theorem wrap64_id {n : Int} (h0 : 0 ≤ n) (h1 : n ≤ 140737488355328) : IntKind.i64.wrap n = n := by
  rw [IntKind.wrap_i64]; omega

theorem yld_mkslice {t e : TypeId} {k b id : Nat} {z : List Seg} {len cap : Value} {k1 k2 : IntKind} {n c : Int}
    (hz : ∃ i zv, P.info? e = some i ∧ i.zero = some zv ∧ F2 (rel φ) (flat z) zv.cells.toList) (hf : φ id = none) (hu : P.underlying t = some (.slice e)) (hk : sizeT P e = some k) (hb : bytesT P e = some b) (hk0 : k ≠ 0) (hb0 : b ≠ 0) (hzk : sizes z = k)
    (g1 : len = .int k1 n) (g2 : cap = .int k2 c) (hn : 0 ≤ n ∧ n ≤ c ∧ c * (b : Int) ≤ 140737488355328) {o : Oper} {ρ : Operand → Value} {x y : Operand} (ho : o.op = .makeSlice t x y) (hx : ρ x = len) (hy : ρ y = cap) :
    YldN P φ id (execOp ρ o) w (.c (.slice ⟨id, 0, 0, 0⟩ false n.toNat)) (some ⟨k, some n.toNat, fun _ => z, e, true⟩) := by
  obtain ⟨i, zv, hi, hzv, hF⟩ := hz
  obtain ⟨h0, hnc, hcb⟩ := hn
  have hk' : i.size = k := by unfold sizeT at hk; rw [hi] at hk; simpa using hk
  have hb' : i.bytes = b := by unfold bytesT at hb; rw [hi] at hb; simpa using hb
  have hc0 : 0 ≤ c := by omega
  have hcle : c ≤ 140737488355328 := by
    have : c * 1 ≤ c * (b : Int) := Int.mul_le_mul_of_nonneg_left (by omega) hc0
    omega
  obtain ⟨m, rfl⟩ := Int.eq_ofNat_of_zero_le hc0
  have hwn : IntKind.i64.wrap n = n := wrap64_id h0 (by omega)
  have hwc : IntKind.i64.wrap (m : Int) = m := wrap64_id hc0 hcle
  have hF0 := hF
  let cells := (Array.range (m * k)).map (zv.cells[· % zv.cells.size]!)
  have hsz : cells.size = k * m := by simp [cells, Nat.mul_comm]
  have hzc : zv.cells.size = k := by rw [← hzk, ← flat_length, hF.length]; simp
  have hnl : ¬ ((b : Int) * (m : Int) > 281474976710656) := by rw [Int.mul_comm]; omega
  refine ⟨.slice (some ⟨w.heap.size, 0, none⟩) n.toNat m, cells, m, ?_, ?_, ?_⟩
  · subst g1 g2
    simp only [execOp, ho, hx, hy]
    have hti : (typeInfo e).run P w = .ok i w := by simp [typeInfo, hi, go_sem]
    simp only [Instr.makeSlice, Sem.run_bind, run_underlying' hu, Result.andThen_ok, asInt, asIntOf, Sem.run_pure, hti, hwn, hwc, hb', run_askRoom, run_sizeOf hk, Int.toNat_natCast]
    rw [if_neg (by simp; omega)]
    simp only [Sem.run_bind, Sem.run_pure, Result.andThen_ok, run_askRoom, run_sizeOf hk]
    by_cases hm : m * k = 0
    · rw [if_pos hm]
      have : cells = #[] := by have : cells.size = 0 := by rw [hsz, Nat.mul_comm]; exact hm
                               exact Array.eq_empty_of_size_eq_zero this
      simp [newRow, go_sem, this, hm]
    · rw [if_neg hm]
      simp [newRow, go_sem, run_zeroValue hi hzv, cells]
  · refine ⟨_, m, rfl, by omega, .inr ⟨_, φ.ins_self _ _, by simp [Place.at], fun _ => ⟨rfl, rfl, by simp⟩⟩⟩
  · refine brel_new (B := ⟨k, some n.toNat, fun _ => z, e, true⟩) (by simp [Blk.n]; omega) (by omega) hsz fun i' hi' => ?_
    have hi2 : i' < m := by simp [Blk.n] at hi'; omega
    exact ⟨zv.cells.toList, hF.mono fun _ _ => rel_mono (Emb.le_ins hf), by simp [hzc], repl_row hF hzk (by rfl) hi2⟩

theorem st1_no_p {H : Heap} {a : AA} {x : CV} {need : Option Prop} {v : AV} {B : Option Blk} (h : st1 H a x = .p need v B) : False := by
  unfold st1 at h
  repeat' (split at h)
  all_goals simp at h
theorem tob_no_p {H : Heap} {t : TypeId} {x : AV} {need : Option Prop} {v : AV} {B : Option Blk} (h : tob H t x = .p need v B) : False := by
  unfold tob at h
  split at h <;> simp at h
theorem clr_no_p {H : Heap} {k : Nat} {z : List Seg} {x : AV} {need : Option Prop} {v : AV} {B : Option Blk} (h : clr H k z x = .p need v B) : False := by
  unfold clr at h
  repeat' (split at h)
  all_goals simp at h
theorem cpy_no_p {H : Heap} {k : Nat} {x y : AV} {need : Option Prop} {v : AV} {B : Option Blk} (h : cpy H k x y = .p need v B) : False := by
  unfold cpy at h
  repeat' (split at h)
  all_goals simp at h
theorem stn_no_p {H : Heap} {m : Nat} {a : AA} {x : List Seg} {need : Option Prop} {v : AV} {B : Option Blk} (h : stn H m a x = .p need v B) : False := by
  unfold stn at h
  repeat' (split at h)
  all_goals simp at h

theorem run_builtin {b : Builtin} {args : Array Operand} {ts : Array TypeId} {ρ : Operand → Value} {o : Oper} (ho : o.op = .call { callee := .builtin b, args := args, argTypes := ts }) :
    ∃ cs, ∀ w, (execOp ρ o).run P w = (builtin b ts o.type cs (args.map ρ)).run P w := by
  refine ⟨args.map fun x => match x with | .const _ => true | _ => false, fun w => ?_⟩
  simp only [execOp, ho, resolve, Sem.run_bind, Sem.run_pure, Result.andThen_ok, invoke]
  rfl

theorem app_p {H : Heap} {bytes : Nat} {t : TypeId} {k : Nat} {x y : AV} {need : Option Prop} {v : AV} {B : Option Blk} (h : app H bytes t k x y = .p need v B) : x = .c .nils ∧ y = .c .nils ∧ v = .c .nils ∧ B = none := by
  unfold app at h
  split at h
  · repeat' (split at h)
    all_goals simp at h
  · split at h
    · simp only [Res.p.injEq] at h
      exact ⟨rfl, rfl, h.2.1.symm, h.2.2.symm⟩
    · simp at h
  · simp at h

set_option maxHeartbeats 1000000 in
theorem op_p {o : Oper} {ao : AOp} (hs : stripOp P o.op = some ao) {s : St} {π : Path} {a : Act} (hg : Gets φ s π a) (hR : Reads φ s.heap w) (hf : φ s.heap.next = none)
    {need : Option Prop} {v : AV} {B : Option Blk} (h : aop s π ao = .p need v B) (hn : needP need) : YldN P φ s.heap.next (execOp a.eval o) w v B := by
  obtain ⟨dst, op, type, pos, after, guard⟩ := o
  simp only at hs
  have hmv : ∀ x y, opd x = some y → aop s π (.mv y) = .p need v B → YldN P φ s.heap.next (pure (.value (a.eval x))) w v B := by
    intro x y hy h
    have := hg.get x y hy
    simp only [aop] at h
    split at h
    · simp at h
    · simp only [Res.p.injEq] at h
      obtain ⟨rfl, rfl, rfl⟩ := h
      exact ⟨_, rfl, this⟩
  cases op
  case move x =>
    simp only [stripOp, Option.map_eq_some_iff] at hs
    obtain ⟨y, hy, rfl⟩ := hs
    exact hmv x y hy h
  case assign x =>
    simp only [stripOp, Option.map_eq_some_iff] at hs
    obtain ⟨y, hy, rfl⟩ := hs
    exact hmv x y hy h
  case pick c x y =>
    cases c <;> simp only [stripOp, reduceCtorEq] at hs
    rename_i cs
    split at hs
    · rename_i x' y' hx hy
      simp only [Option.some.injEq] at hs
      subst hs
      simp only [aop] at h
      split at h
      · rename_i c hc
        split at h
        · rename_i bx b_y h1 h2
          simp only [Res.p.injEq] at h
          obtain ⟨rfl, rfl, rfl⟩ := h
          have hcv := hg.cs cs
          rw [hc] at hcv
          have hcv' : a.tmps.getD cs undef = .bool c := hcv
          refine ⟨.bool (selB c bx b_y), ?_, rfl⟩
          have hev : a.eval (.tmp cs) = .bool c := hcv'
          cases c with
          | true =>
            have := hg.sel cs x x' true true hx hc rfl
            rw [h1] at this
            have e : a.eval x = .bool bx := this
            simp only [execOp, hev, asBool, Sem.run_bind, Sem.run_pure, Result.andThen_ok, if_true, e, selB]
          | false =>
            have := hg.sel cs y y' false false hy hc rfl
            rw [h2] at this
            have e : a.eval y = .bool b_y := this
            simp only [execOp, hev, asBool, Sem.run_bind, Sem.run_pure, Result.andThen_ok, Bool.false_eq_true, if_false, e, selB]
        · simp at h
      · simp at h
    · simp at hs
  case alloc t =>
    simp only [stripOp, Option.map_eq_some_iff] at hs
    obtain ⟨z, hz, rfl⟩ := hs
    simp only [aop, Res.p.injEq] at h
    obtain ⟨rfl, rfl, rfl⟩ := h
    exact (yld_alloc hf hz).next
  case box t x =>
    simp only [stripOp, Option.map_eq_some_iff] at hs
    obtain ⟨y, hy, rfl⟩ := hs
    simp only [aop] at h
    split at h
    · rename_i l hl
      simp only [Res.p.injEq] at h
      obtain ⟨rfl, rfl, rfl⟩ := h
      exact (yld_box hf (segsOf_cells hl (hg.get x y hy))).next
    · simp at h
  case build t ps =>
    have hs0 := hs
    simp only [stripOp] at hs
    have key : ∀ z qs, stripOp P (.build t ps) = some (.build z qs) → aop s π (.build z qs) = .p need v B → YldN P φ s.heap.next (execOp a.eval ⟨dst, .build t ps, type, pos, after, guard⟩) w v B := by
      intro z qs hs h
      simp only [aop] at h
      split at h
      · rename_i ls hls
        split at h
        · rename_i l hl
          simp only [Res.p.injEq] at h
          obtain ⟨rfl, rfl, rfl⟩ := h
          obtain ⟨x, h1, h2⟩ := yld_build (w := w) hg.get hs hls hl
          exact Yld.next (B := none) ⟨x, h1, h2⟩
        · simp at h
      · simp at h
    split at hs
    · split at hs
      · simp only [Option.map_eq_some_iff] at hs
        obtain ⟨qs, _, rfl⟩ := hs
        exact key _ _ hs0 h
      · simp at hs
    · split at hs
      · simp only [Option.map_eq_some_iff] at hs
        obtain ⟨qs, _, rfl⟩ := hs
        exact key _ _ hs0 h
      · simp at hs
    · simp at hs
  case buildSlice t m ps =>
    have hs0 := hs
    simp only [stripOp] at hs
    split at hs
    · split at hs
      · split at hs
        · simp only [Option.map_eq_some_iff] at hs
          obtain ⟨qs, _, rfl⟩ := hs
          simp only [aop] at h
          split at h
          · rename_i ls hls
            split at h
            · rename_i l hl
              split at h
              · rename_i hr
                simp only [Res.p.injEq] at h
                obtain ⟨rfl, rfl, rfl⟩ := h
                exact (yld_bslice hf hg.get hs0 hls hl hr).next
              · simp at h
            · simp at h
          · simp at h
        · simp at hs
      · simp at hs
    · simp at hs
  case load t x =>
    simp only [stripOp] at hs
    split at hs
    · rename_i x' ht hx
      simp only [Option.some.injEq] at hs
      subst hs
      simp only [aop] at h
      split at h
      · rename_i p hp
        have hpt := hg.get x x' hx
        rw [hp] at hpt
        obtain ⟨pl, hpl, hev⟩ := hpt
        obtain ⟨rfl, y, hy, hr⟩ := ld1_ok hR h hn hpl
        exact Yld.next (B := none) ⟨y, by rw [hev]; exact run_ld1 ht hy, hr⟩
      · simp at h
    · rename_i n x' ht hsz hx
      simp only [Option.some.injEq] at hs
      subst hs
      simp only [aop] at h
      split at h
      · rename_i p hp
        have hpt := hg.get x x' hx
        rw [hp] at hpt
        obtain ⟨pl, hpl, hev⟩ := hpt
        obtain ⟨rfl, xs, hl, hc, l, rfl, hF⟩ := ldn_ok hR h hn hpl
        exact Yld.next (B := none) ⟨.agg xs.toArray, by rw [hev]; exact run_ldn ht hsz hl hc, xs.toArray, rfl, hF⟩
      · simp at h
    · simp at hs
  case nilCheck x =>
    simp only [stripOp, Option.map_eq_some_iff] at hs
    obtain ⟨y, hy, rfl⟩ := hs
    simp only [aop] at h
    have hv := hg.get x y hy
    split at h
    · rename_i p hp
      rw [hp] at hv
      simp only [Res.p.injEq] at h
      obtain ⟨rfl, rfl, rfl⟩ := h
      have hv0 := hv
      obtain ⟨pl, hpl, hev⟩ := hv
      refine ⟨a.eval x, ?_, hv0⟩
      simp only [execOp, hev]
      rfl
    · rename_i f a1 a2 hp
      rw [hp] at hv
      simp only [Res.p.injEq] at h
      obtain ⟨rfl, rfl, rfl⟩ := h
      have hv0 := hv
      obtain ⟨l, m, hev, _⟩ := hv
      refine ⟨a.eval x, ?_, hv0⟩
      simp only [execOp, hev]
      rfl
    · simp at h
  case binOp op t x y yt =>
    simp only [stripOp] at hs
    split at hs
    · rename_i k x' y' hu hx hy
      simp only [Option.some.injEq] at hs
      subst hs
      simp only [aop] at h
      have h1 := hg.get x x' hx
      have h2 := hg.get y y' hy
      have hb := h
      unfold bin at h
      split at h
      · rename_i k1 m k2 n e1 e2
        rw [e1] at h1 hb
        rw [e2] at h2 hb
        have g1 : a.eval x = .int k1 m := h1
        have g2 : a.eval y = .int k2 n := h2
        obtain ⟨rfl, z, hz, hr⟩ := bin_int (w := w) (P := P) t op k1 k2 m n hb hn
        refine ⟨z, ?_, hr⟩
        simp only [execOp, g1, g2, Sem.run_bind, eqGuard_int, Result.andThen_ok, hz, Sem.run_pure]
      · simp at h
    · rename_i x' y' hu hx hy
      have h1 := hg.get x x' hx
      have h2 := hg.get y y' hy
      have key : ∀ neg, op = (if neg then .neq else .eql) → aop s π (.eqB neg x' y') = .p need v B → YldN P φ s.heap.next (execOp a.eval ⟨dst, .binOp op t x y yt, type, pos, after, guard⟩) w v B := by
        intro neg ho h
        simp only [aop] at h
        unfold eqB at h
        split at h
        · rename_i b1 b2 e1 e2
          rw [e1] at h1
          rw [e2] at h2
          have g1 : a.eval x = .bool b1 := h1
          have g2 : a.eval y = .bool b2 := h2
          have he : (Op.equal t (.bool b1) (.bool b2)).run P w = .ok (b1 == b2) w := by
            simp only [Op.equal, Op.maxDepth]
            exact run_equalIn_bool w 9999 t b1 b2 hu
          cases neg <;> simp only [Res.p.injEq] at h <;> obtain ⟨rfl, rfl, rfl⟩ := h <;> subst ho <;> refine ⟨_, ?_, rfl⟩ <;>
            simp [execOp, g1, g2, Sem.run_bind, eqGuard_bool, Result.andThen_ok, binOp, he, Sem.run_pure]
        · simp at h
      split at hs
      · simp only [Option.some.injEq] at hs
        subst hs
        exact key false rfl h
      · simp only [Option.some.injEq] at hs
        subst hs
        exact key true rfl h
      · simp at hs
    · rename_i fs x' y' hu hx hy
      have h1 := hg.get x x' hx
      have h2 := hg.get y y' hy
      split at hs
      · rename_i neg ks ho hk
        split at hs
        · rename_i hg12
          obtain ⟨g1, g2⟩ := hg12
          simp only [Option.some.injEq] at hs
          subst hs
          simp only [aop] at h
          unfold eqS at h
          split at h
          · rename_i l m e1 e2
            split at h
            · rename_i p r he
              simp only [Res.p.injEq] at h
              obtain ⟨rfl, rfl, rfl⟩ := h
              rw [e1] at h1
              rw [e2] at h2
              obtain ⟨xs, ex, hx2⟩ := h1
              obtain ⟨ys, ey, hy2⟩ := h2
              have hfs : P.fieldsOf t = fs := by simp [Program.fieldsOf, hu]
              have hq := eqF_ok (w := w) fs.toList 0 ks l m p r xs ys hk he hn (by simpa using hx2) (by simpa using hy2)
              have heq : (Op.equalIn 10000 t (.agg xs) (.agg ys)).run P w = .ok r w := by
                rw [run_equalIn_struct w 9999 t xs ys (by rw [hfs]; exact hu) g1, hfs]; exact hq
              refine ⟨.bool (negIf neg r), ?_, rfl⟩
              simp only [execOp, ex, ey, Sem.run_bind, run_eqGuard_agg w op t x y xs ys g2, Result.andThen_ok]
              cases op <;> simp only [eqOp, reduceCtorEq, Option.some.injEq] at ho <;> subst ho
              · rw [run_eql_struct, heq]; rfl
              · rw [run_neq_struct, heq]; rfl
            · simp at h
          · simp at h
        · simp at hs
      · simp at hs
    all_goals first
      | (rename_i x' y' hu hx hy
         have h1 := hg.get x x' hx
         have h2 := hg.get y y' hy
         simp only [Option.map_eq_some_iff] at hs
         obtain ⟨neg, ho, rfl⟩ := hs
         simp only [aop] at h
         unfold nilq at h
         split at h
         · rename_i c1 c2 e1 e2
           split at h
           · rename_i p r he
             simp only [Res.p.injEq] at h
             obtain ⟨rfl, rfl, rfl⟩ := h
             rw [e1] at h1
             rw [e2] at h2
             obtain ⟨k1, k2, k3, k4⟩ := nilB_ok (w := w) (P := P) (t := t) (by first | exact ⟨_, hu⟩ | exact ⟨_, _, hu⟩ | exact ⟨_, _, _, hu⟩) he hn h1 h2 9999
             refine ⟨.bool (negIf neg r), ?_, rfl⟩
             have k1' : (Op.equal t (a.eval x) (a.eval y)).run P w = .ok r w := k1
             simp only [execOp, Sem.run_bind, k2, Result.andThen_ok]
             cases op <;> simp only [eqOp, reduceCtorEq, Option.some.injEq] at ho <;> subst ho
             · simp only [k3, Sem.run_bind, k1', Result.andThen_ok, Sem.run_pure, negIf]
             · simp only [k4, Sem.run_bind, k1', Result.andThen_ok, Sem.run_pure, negIf]
           · simp at h
         · simp at h)
      | (simp at hs; done)
      | skip
    · rename_i x' y' hu hx hy
      have h1 := hg.get x x' hx
      have h2 := hg.get y y' hy
      have key : ∀ neg, op = (if neg then .neq else .eql) → aop s π (.eqT neg x' y') = .p need v B → YldN P φ s.heap.next (execOp a.eval ⟨dst, .binOp op t x y yt, type, pos, after, guard⟩) w v B := by
        intro neg ho h
        simp only [aop] at h
        unfold eqT at h
        split at h
        · rename_i b1 b2 e1 e2
          rw [e1] at h1
          rw [e2] at h2
          have g1 : a.eval x = .string b1 := h1
          have g2 : a.eval y = .string b2 := h2
          cases neg <;> simp only [Res.p.injEq] at h <;> obtain ⟨rfl, rfl, rfl⟩ := h <;> subst ho <;> refine ⟨_, ?_, rfl⟩ <;>
            simp only [execOp, g1, g2, Sem.run_bind, eqGuard_str, Result.andThen_ok, binOp_string_eql, binOp_string_neq, ByteArray.toList_eq, Sem.run_pure, eqTb, negIf, if_true, if_false, Bool.false_eq_true]
        · simp at h
      split at hs
      · simp only [Option.some.injEq] at hs
        subst hs
        simp only [aop] at h
        unfold cat at h
        split at h
        · rename_i b1 b2 e1 e2
          rw [e1] at h1
          rw [e2] at h2
          have g1 : a.eval x = .string b1 := h1
          have g2 : a.eval y = .string b2 := h2
          simp only [Res.p.injEq] at h
          obtain ⟨rfl, rfl, rfl⟩ := h
          refine ⟨.string (b1 ++ b2), ?_, rfl⟩
          simp only [execOp, g1, g2, Sem.run_bind, eqGuard_str, Result.andThen_ok, binOp_string_add, run_string_add_sum w b1 b2 hn, Sem.run_pure]
        · simp at h
      · simp only [Option.some.injEq] at hs
        subst hs
        exact key false rfl h
      · simp only [Option.some.injEq] at hs
        subst hs
        exact key true rfl h
      · simp at hs
  case unOp op t x =>
    simp only [stripOp, Option.map_eq_some_iff] at hs
    obtain ⟨y, hy, rfl⟩ := hs
    simp only [aop] at h
    have hv := hg.get x y hy
    unfold un at h
    split at h
    · rename_i b e
      rw [e] at hv
      have g : a.eval x = .bool b := hv
      simp only [Res.p.injEq] at h
      obtain ⟨rfl, rfl, rfl⟩ := h
      exact ⟨_, by simp only [execOp, g, Op.unary, Sem.run_bind, Sem.run_pure, Result.andThen_ok], rfl⟩
    · rename_i k n e
      rw [e] at hv
      have g : a.eval x = .int k n := hv
      simp only [Res.p.injEq] at h
      obtain ⟨rfl, rfl, rfl⟩ := h
      exact ⟨_, by simp only [execOp, g, Op.unary, Op.intArith, Sem.run_bind, Sem.run_pure, Result.andThen_ok], rfl⟩
    · rename_i k n e
      rw [e] at hv
      have g : a.eval x = .int k n := hv
      simp only [Res.p.injEq] at h
      obtain ⟨rfl, rfl, rfl⟩ := h
      exact ⟨_, by simp only [execOp, g, Op.unary, Op.intBits, Sem.run_bind, Sem.run_pure, Result.andThen_ok], rfl⟩
    · simp at h
  case convert src dt x =>
    simp only [stripOp] at hs
    split at hs
    · rename_i d k y hu1 hu2 hy
      simp only [Option.some.injEq] at hs
      subst hs
      simp only [aop] at h
      have hv := hg.get x y hy
      split at h
      · rename_i k' n e
        rw [e] at hv
        have g : a.eval x = .int k' n := hv
        simp only [Res.p.injEq] at h
        obtain ⟨rfl, rfl, rfl⟩ := h
        refine ⟨.int k (k.wrap n), ?_, rfl⟩
        simp only [execOp, g, convert, Sem.run_bind, run_underlying' hu1, run_underlying' hu2, Result.andThen_ok, Conv.intToInt, Sem.run_pure]
      · simp at h
    · split at hs
      · simp only [Option.some.injEq] at hs
        subst hs
        simp only [aop] at h
        exact (tob_no_p h).elim
      · simp at hs
    · simp at hs
  case makeFunc fn first caps =>
    cases fn <;> simp only [stripOp, reduceCtorEq] at hs
    rename_i f
    split at hs
    · rename_i l m hl hm
      simp only [Option.some.injEq] at hs
      subst hs
      simp only [aop] at h
      split at h
      · rename_i l' m' hl' hm'
        simp only [Res.p.injEq] at h
        obtain ⟨rfl, rfl, rfl⟩ := h
        refine ⟨.func (.func f) (first.map a.eval) (caps.map a.eval), ?_, _, _, rfl, ?_, ?_⟩
        · simp only [execOp, Instr.makeFunc, Sem.run_bind, Sem.run_pure, Result.andThen_ok]
        · rw [Array.toList_map]; exact aasOf_rel hg.get _ _ _ hl hl'
        · rw [Array.toList_map]; exact aasOf_rel hg.get _ _ _ hm hm'
      · simp at h
    · simp at hs
  case makeSlice t len cap =>
    simp only [stripOp] at hs
    split at hs
    · rename_i e hu
      split at hs
      · rename_i z k b x y hz hk hb hx hy
        split at hs
        · rename_i hk0
          obtain ⟨hk0, hb0, hzk⟩ := hk0
          simp only [Option.some.injEq] at hs
          subst hs
          simp only [aop] at h
          split at h
          · rename_i k1 n k2 c e1 e2
            have g1 := hg.get len x hx
            have g2 := hg.get cap y hy
            rw [e1] at g1
            rw [e2] at g2
            have g1' : a.eval len = .int k1 n := g1
            have g2' : a.eval cap = .int k2 c := g2
            simp only [Res.p.injEq] at h
            obtain ⟨rfl, rfl, rfl⟩ := h
            exact yld_mkslice (zeroOf_rel φ hz) hf hu hk hb hk0 hb0 hzk g1' g2' hn rfl rfl rfl
          · simp at h
        · simp at hs
      · simp at hs
    · simp at hs
  case slice t x lo hi mx =>
    cases mx with
    | some m => simp [stripOp] at hs
    | none =>
      simp only [stripOp] at hs
      split at hs
      · rename_i e x' lo' hi' hu hx hlo hhi
        simp only [Option.map_eq_some_iff] at hs
        obtain ⟨k, hk, rfl⟩ := hs
        simp only [aop] at h
        obtain ⟨rfl, z, hz, hr⟩ := yld_slc (P := P) hu hk hR (hg.get x x' hx) (optG_rel hg.get hlo) (optG_rel hg.get hhi) h hn
        exact Yld.next (B := none) ⟨z, hz, hr⟩
      · rename_i arr x' lo' hi' hu hx hlo hhi
        split at hs
        · rename_i n e hua
          split at hs
          · rename_i hk
            simp only [Option.some.injEq] at hs
            subst hs
            simp only [aop] at h
            split at h
            · rename_i p hp
              split at h
              · rename_i l ln hh hhn h1 h2
                simp only [Res.p.injEq] at h
                obtain ⟨rfl, rfl, rfl⟩ := h
                have hv := hg.get x x' hx
                rw [hp] at hv
                obtain ⟨z, hz, hr⟩ := yld_slcA (P := P) (w := w) (.inr ⟨arr, hu, hua⟩) hk hv (optG_rel hg.get hlo) (optG_rel hg.get hhi) h1 h2 hn
                exact Yld.next (B := none) ⟨z, hz, hr⟩
              · simp at h
            · simp at h
          · simp at hs
        · simp at hs
      · rename_i n e x' lo' hi' hu hx hlo hhi
        split at hs
        · rename_i hk
          simp only [Option.some.injEq] at hs
          subst hs
          simp only [aop] at h
          split at h
          · rename_i p hp
            split at h
            · rename_i l ln hh hhn h1 h2
              simp only [Res.p.injEq] at h
              obtain ⟨rfl, rfl, rfl⟩ := h
              have hv := hg.get x x' hx
              rw [hp] at hv
              obtain ⟨z, hz, hr⟩ := yld_slcA (P := P) (w := w) (.inl hu) hk hv (optG_rel hg.get hlo) (optG_rel hg.get hhi) h1 h2 hn
              exact Yld.next (B := none) ⟨z, hz, hr⟩
            · simp at h
          · simp at h
        · simp at hs
      · simp at hs
  case fieldAddr t x fi =>
    simp only [stripOp] at hs
    split at hs
    · rename_i f y hf' hy
      split at hs
      · rename_i m hm
        simp only [Option.some.injEq] at hs
        subst hs
        simp only [aop] at h
        split at h
        · rename_i p hp
          split at h
          · rename_i hz
            simp only [Res.p.injEq] at h
            obtain ⟨rfl, rfl, rfl⟩ := h
            have hv := hg.get x y hy
            rw [hp] at hv
            obtain ⟨z, h1, h2⟩ := yld_faddr (w := w) hf' hm hv (Nat.eq_of_beq_eq_true hz)
            exact Yld.next (B := none) ⟨z, h1, h2⟩
          · simp at h
        · simp at h
      · simp at hs
    · simp at hs
  case field t x fi =>
    simp only [stripOp] at hs
    split at hs
    · rename_i f y hf' hy
      have hv := hg.get x y hy
      unfold fieldAt at hf'
      split at hf'
      · rename_i fs hu
        split at hs
        · rename_i n ht hsz
          simp only [Option.some.injEq] at hs
          subst hs
          simp only [aop] at h
          unfold fieldOf at h
          split at h
          · rename_i l e
            rw [e] at hv
            obtain ⟨cs, g, hF⟩ := hv
            simp only at h
            split at h
            · rename_i l' hl'
              simp only [Res.p.injEq] at h
              obtain ⟨rfl, rfl, rfl⟩ := h
              obtain ⟨e1, e2⟩ := cut_flat hl'
              refine ⟨.agg (cs.extract f.offset (f.offset + n)), ?_, _, rfl, ?_⟩
              · simp only [execOp, g, Instr.field, Sem.run_bind, run_underlying' hu, Result.andThen_ok, hf', asAgg, Sem.run_pure, part, run_isAgg ht, if_true, run_sizeOf hsz]
              · rw [e1, Array.toList_extract]
                simpa using (hF.drop _).take _
            · simp at h
          · simp at h
        · rename_i ht
          simp only [Option.some.injEq] at hs
          subst hs
          simp only [aop] at h
          unfold fieldOf at h
          split at h
          · rename_i l e
            rw [e] at hv
            obtain ⟨cs, g, hF⟩ := hv
            simp only at h
            split at h
            · rename_i cv hcv
              simp only [Res.p.injEq] at h
              obtain ⟨rfl, rfl, rfl⟩ := h
              have hfl := segAt_flat _ _ _ hcv 0 (by simp [Seg.size])
              obtain ⟨z, hz, hr⟩ := hF.get (i := f.offset) (a := cv) (by simpa [Seg.flat] using hfl)
              have hz' : cs[f.offset]? = some z := by simpa using hz
              refine ⟨z, ?_, hr⟩
              simp only [execOp, g, Instr.field, Sem.run_bind, run_underlying' hu, Result.andThen_ok, hf', asAgg, Sem.run_pure, part, run_isAgg ht, Bool.false_eq_true, if_false, hz']
            · simp at h
          · simp at h
        · simp at hs
      · simp at hf'
    · simp at hs
  case indexAddr t x i =>
    simp only [stripOp] at hs
    split at hs
    · rename_i e x' i' hu hx hi
      simp only [Option.map_eq_some_iff] at hs
      obtain ⟨k, hk, rfl⟩ := hs
      simp only [aop] at h
      split at h
      · rename_i p inner len ki n e1 e2
        split at h
        · rename_i hst
          simp only [Res.p.injEq] at h
          obtain ⟨rfl, rfl, rfl⟩ := h
          have h1 := hg.get x x' hx
          have h2 := hg.get i i' hi
          rw [e1] at h1
          rw [e2] at h2
          have g2 : a.eval i = .int ki n := h2
          obtain ⟨z, hz, hr⟩ := yld_iaddr (ki := ki) hu hk hR h1 hst hn.1 hn.2
          exact Yld.next (B := none) ⟨z, by rw [g2]; exact hz, hr⟩
        · simp at h
      · simp at h
    · rename_i m e x' i' hu hx hi
      split at hs
      · rename_i hk
        simp only [Option.some.injEq] at hs
        subst hs
        simp only [aop] at h
        split at h
        · rename_i p ki n e1 e2
          simp only [Res.p.injEq] at h
          obtain ⟨rfl, rfl, rfl⟩ := h
          have h1 := hg.get x x' hx
          have h2 := hg.get i i' hi
          rw [e1] at h1
          rw [e2] at h2
          have g2 : a.eval i = .int ki n := h2
          obtain ⟨z, hz, hr⟩ := yld_iaddrA (ki := ki) (w := w) hu hk h1 hn.1 hn.2
          exact Yld.next (B := none) ⟨z, by rw [g2]; exact hz, hr⟩
        · simp at h
      · simp at hs
    · simp at hs
  case index t x i =>
    simp only [stripOp] at hs
    split at hs
    · rename_i x' i' hu hx hi
      have h1 := hg.get x x' hx
      have h2 := hg.get i i' hi
      simp only [Option.some.injEq] at hs
      subst hs
      simp only [aop] at h
      unfold idxT at h
      split at h
      · rename_i b1 k n e1 e2
        rw [e1] at h1
        rw [e2] at h2
        have g1 : a.eval x = .string b1 := h1
        have g2 : a.eval i = .int k n := h2
        simp only [Res.p.injEq] at h
        obtain ⟨rfl, rfl, rfl⟩ := h
        have hn' : 0 ≤ n ∧ n < (b1.size : Int) := hn
        refine ⟨.int .u8 (byteAt b1 n.toNat), ?_, rfl⟩
        have hlt : n.toNat < b1.size := by omega
        simp only [execOp, g1, g2, Sem.run_bind, run_index_string _ t b1 k n hu, dif_pos hn', Result.andThen_ok, Sem.run_pure, byteAt, ByteArray.getElem?_lt' b1 _ hlt]
      · simp at h
    · simp at hs
  case extract x i =>
    simp only [stripOp, Option.map_eq_some_iff] at hs
    obtain ⟨y, hy, rfl⟩ := hs
    simp only [aop] at h
    have hv := hg.get x y hy
    split at h
    · rename_i l e
      rw [e] at hv
      obtain ⟨xs, g, hF⟩ := hv
      split at h
      · simp at h
      · rename_i hne
        simp only [Res.p.injEq] at h
        obtain ⟨rfl, rfl, rfl⟩ := h
        obtain ⟨z, hz, hr⟩ := nthA_get i hF hne
        have hz' : xs[i]? = some z := by simpa using hz
        refine ⟨z, ?_, relA_of_rel1 hr⟩
        simp only [execOp, g, Instr.extract, hz', Sem.run_bind, Sem.run_pure, Result.andThen_ok]
    · simp at h
  case store t x y =>
    simp only [stripOp] at hs
    split at hs
    · simp only [Option.some.injEq] at hs
      subst hs
      simp only [aop] at h
      split at h
      · exact (st1_no_p h).elim
      · simp at h
    · simp only [Option.some.injEq] at hs
      subst hs
      simp only [aop] at h
      split at h
      · exact (stn_no_p h).elim
      · simp at h
    · simp at hs
  case call c =>
    obtain ⟨callee, args, ts⟩ := c
    cases callee with
    | invoke r m => simp [stripOp] at hs
    | value f =>
      simp only [stripOp] at hs
      split at hs
      · simp only [Option.some.injEq] at hs
        subst hs
        simp only [aop] at h
        split at h
        · simp at h
        · simp only [Res.p.injEq] at h
          obtain ⟨rfl, _, _⟩ := h
          exact (show False from hn).elim
        · simp at h
      · simp at hs
    | builtin b =>
      cases b <;> try (simp [stripOp] at hs; done)
      case copy =>
        simp only [stripOp] at hs
        split at hs
        · split at hs
          · simp only [Option.map_eq_some_iff] at hs
            obtain ⟨k, _, rfl⟩ := hs
            simp only [aop] at h
            exact (cpy_no_p h).elim
          · simp at hs
        · simp at hs
      case clear =>
        simp only [stripOp] at hs
        split at hs
        · split at hs
          · split at hs
            · split at hs
              · simp only [Option.some.injEq] at hs
                subst hs
                simp only [aop] at h
                exact (clr_no_p h).elim
              · simp at hs
            · simp at hs
          · simp at hs
        · simp at hs
      case append =>
        simp only [stripOp] at hs
        split at hs
        · rename_i x y t u hargs hts
          split at hs
          · rename_i e x' y' hu1 hx hy
            split at hs
            · rename_i k b z hk hb hz
              split at hs
              · rename_i hc
                obtain ⟨rfl, hk0, hb0, hzk⟩ := hc
                simp only [Option.some.injEq] at hs
                subst hs
                simp only [aop] at h
                obtain ⟨h1, h2, rfl, rfl⟩ := app_p h
                have g1 := hg.get x x' hx
                have g2 := hg.get y y' hy
                rw [h1] at g1
                rw [h2] at g2
                have g1' : a.eval x = .slice none 0 0 := g1
                have g2' : a.eval y = .slice none 0 0 := g2
                have ha : args.map a.eval = #[.slice none 0 0, .slice none 0 0] := by
                  have : args = #[x, y] := by rw [← hargs]
                  subst this
                  simp only [List.map_toArray, List.map_cons, List.map_nil, g1', g2']
                have ht : ts = #[t, t] := by rw [← hts]
                refine ⟨.slice none 0 0, ?_, rfl⟩
                obtain ⟨cs, hcs⟩ := run_builtin (P := P) (ρ := a.eval) (o := ⟨dst, _, type, pos, after, guard⟩) rfl
                rw [hcs, ha, ht]
                simp [builtin, Builtin.append_, run_underlying' hu1, run_sizeOf hk, Builtin.lenOf, Builtin.firstCells, Sem.run_bind, Result.andThen_ok, Sem.run_pure]
              · simp at hs
            · simp at hs
          · simp at hs
        · simp at hs
      case len =>
        simp only [stripOp] at hs
        split at hs
        · rename_i x t hargs hts
          have ht : ts = #[t] := by rw [← hts]
          have hax : args = #[x] := by rw [← hargs]
          have ha : args.map a.eval = #[a.eval x] := by subst hax; simp only [List.map_toArray, List.map_cons, List.map_nil]
          have key : ∀ y b, opd x = some y → (b = false ∧ (∃ e, P.underlying t = some (.slice e)) ∨ b = true ∧ P.underlying t = some .string) → aop s π (.len b y) = .p need v B →
              YldN P φ s.heap.next (execOp a.eval ⟨dst, .call { callee := .builtin .len, args := args, argTypes := ts }, type, pos, after, guard⟩) w v B := by
            intro y b hy hu h
            have hv := hg.get x y hy
            simp only [aop] at h
            rcases hu with ⟨rfl, e, hu⟩ | ⟨rfl, hu⟩
            · split at h
              · rename_i p inner n _ e1
                rw [e1] at hv
                obtain ⟨r, cap, g, _⟩ := hv
                simp only [Res.p.injEq] at h
                obtain ⟨rfl, rfl, rfl⟩ := h
                refine ⟨.int .i64 (n : Int), ?_, rfl⟩
                obtain ⟨cs, hcs⟩ := run_builtin (P := P) (ρ := a.eval) (o := ⟨dst, _, type, pos, after, guard⟩) rfl
                rw [hcs, ha, ht, g]
                simp [builtin, Builtin.len_, run_underlying' hu, Sem.run_bind, Result.andThen_ok, Sem.run_pure, goInt]
              · rename_i e1
                rw [e1] at hv
                have g : a.eval x = .slice none 0 0 := hv
                simp only [Res.p.injEq] at h
                obtain ⟨rfl, rfl, rfl⟩ := h
                refine ⟨.int .i64 0, ?_, rfl⟩
                obtain ⟨cs, hcs⟩ := run_builtin (P := P) (ρ := a.eval) (o := ⟨dst, _, type, pos, after, guard⟩) rfl
                rw [hcs, ha, ht, g]
                simp [builtin, Builtin.len_, run_underlying' hu, Sem.run_bind, Result.andThen_ok, Sem.run_pure, goInt]
              · simp at *
              · simp at h
            · split at h
              · simp at *
              · simp at *
              · rename_i st _ e1
                rw [e1] at hv
                have g : a.eval x = .string st := hv
                simp only [Res.p.injEq] at h
                obtain ⟨rfl, rfl, rfl⟩ := h
                refine ⟨.int .i64 (st.size : Int), ?_, rfl⟩
                obtain ⟨cs, hcs⟩ := run_builtin (P := P) (ρ := a.eval) (o := ⟨dst, _, type, pos, after, guard⟩) rfl
                rw [hcs, ha, ht, g]
                simp [builtin, Builtin.len_, run_underlying' hu, Sem.run_bind, Result.andThen_ok, Sem.run_pure, goInt]
              · simp at h
          split at hs
          · rename_i e y hu hy
            simp only [Option.some.injEq] at hs
            subst hs
            exact key y false hy (.inl ⟨rfl, e, hu⟩) h
          · rename_i y hu hy
            simp only [Option.some.injEq] at hs
            subst hs
            exact key y true hy (.inr ⟨rfl, hu⟩) h
          · rename_i n el hu
            simp only [Option.some.injEq] at hs
            subst hs
            simp only [aop, St.get, Res.p.injEq] at h
            obtain ⟨rfl, rfl, rfl⟩ := h
            refine ⟨.int .i64 (n : Int), ?_, rfl⟩
            obtain ⟨cs, hcs⟩ := run_builtin (P := P) (ρ := a.eval) (o := ⟨dst, _, type, pos, after, guard⟩) rfl
            rw [hcs, ha, ht]
            simp [builtin, Builtin.len_, run_underlying' hu, Sem.run_bind, Result.andThen_ok, Sem.run_pure, goInt]
          · simp at hs
        · simp at hs
  all_goals (simp [stripOp] at hs)

end Go.AM
