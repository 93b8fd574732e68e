/- AM: code as a stack; steps for proofs; contracts of functions that leave nothing behind. -/
import Derived.Test.YtmbnakinhnkabaaAm19
namespace Go.AM
set_option linter.unusedVariables false
set_option linter.unusedSimpArgs false
variable {P : Program} {Con' : ConT} {Le : LeT}

def runA (Con : ConT) (Le : LeT) : List ACode → St → (AEx → St → Prop) → Prop
  | [], s, Q => Q .normal s
  | a :: k, s, Q => awp Con Le a s fun e s' => match e with
    | .normal => runA Con Le k s' Q
    | .exit id => Q (.exit id) s'
    | .ret => Q .ret s'

theorem run_start {a : ACode} {s : St} {Q : AEx → St → Prop} (h : runA Con' Le [a] s Q) : awp Con' Le a s Q := by
  have e : Q = fun e s' => match e with
    | .normal => runA Con' Le [] s' Q
    | .exit id => Q (.exit id) s'
    | .ret => Q .ret s' := by
    funext e s'; cases e <;> simp [runA]
  rw [e]
  simpa only [runA] using h
theorem run_nil {s : St} {Q : AEx → St → Prop} (h : Q .normal s) : runA Con' Le [] s Q := by simpa only [runA] using h
theorem run_seq {a b : ACode} {k : List ACode} {s : St} {Q : AEx → St → Prop} (h : runA Con' Le (a :: b :: k) s Q) : runA Con' Le (.seq a b :: k) s Q := by
  simp only [runA, awp] at h ⊢
  have e : (fun (e : AEx) (s' : St) => (match e with
      | .normal => awp Con' Le b s' fun e s' => match e with
        | .normal => runA Con' Le k s' Q
        | .exit id => Q (.exit id) s'
        | .ret => Q .ret s'
      | .exit id => Q (.exit id) s'
      | .ret => Q .ret s' : Prop)) = fun (e : AEx) (s' : St) => match e with
      | .normal => awp Con' Le b s' fun e s' => match e with
        | .normal => runA Con' Le k s' Q
        | .exit id => Q (.exit id) s'
        | .ret => Q .ret s'
      | .exit id => (match AEx.exit id with
        | .normal => runA Con' Le k s' Q
        | .exit id => Q (.exit id) s'
        | .ret => Q .ret s')
      | .ret => (match AEx.ret with
        | .normal => runA Con' Le k s' Q
        | .exit id => Q (.exit id) s'
        | .ret => Q .ret s') := by
    funext e s'; cases e <;> rfl
  exact e ▸ h
theorem run_skip {k : List ACode} {s : St} {Q : AEx → St → Prop} (h : runA Con' Le k s Q) : runA Con' Le (.skip :: k) s Q := by simpa only [runA, awp] using h
theorem run_ret {k : List ACode} {s : St} {Q : AEx → St → Prop} (h : Q .ret s) : runA Con' Le (.ret :: k) s Q := by simpa only [runA, awp] using h
theorem run_exit {i : Nat} {k : List ACode} {s : St} {Q : AEx → St → Prop} (h : Q (.exit i) s) : runA Con' Le (.exit i :: k) s Q := by simpa only [runA, awp] using h
theorem LeS.refl (n : Nat) (s : St) : LeS n s s := fun φ₀ H₀ w₀ N φ a w _ _ h => ⟨φ, h⟩
/-- Behind a region, less may be known. -/
theorem run_regionL {ops : List AOper} {k : List ACode} {s : St} {Q : AEx → St → Prop} (h : ∀ K : St → Prop, (∀ s' s'', Le s' s'' → runA Con' Le k s'' Q → K s') → rwp Con' ops s fun s' => K ⟨shed s'.tmps, s'.heap⟩) : runA Con' Le (.region ops :: k) s Q := by
  simp only [runA, awp]
  exact h (fun s' => ∃ s'', Le s' s'' ∧ runA Con' Le k s'' Q) fun _ s'' hl h => ⟨s'', hl, h⟩
theorem run_region {m : Nat} {ops : List AOper} {k : List ACode} {s : St} {Q : AEx → St → Prop} (h : ∀ K : St → Prop, (∀ s', runA Con' (LeS m) k s' Q → K s') → rwp Con' ops s fun s' => K ⟨shed s'.tmps, s'.heap⟩) : runA Con' (LeS m) (.region ops :: k) s Q :=
  run_regionL fun K hK => h K fun s' => hK s' s' (LeS.refl m s')
theorem run_cond {c : Opd} {v : Bool} {t e : ACode} {k : List ACode} {s : St} {Q : AEx → St → Prop} (hc : s.get [] c = .c (.bool v)) (h1 : v = true → runA Con' Le (t :: k) s Q) (h2 : v = false → runA Con' Le (e :: k) s Q) : runA Con' Le (.cond c t e :: k) s Q := by
  simp only [runA, awp, hc] at h1 h2 ⊢
  cases v with
  | true => exact h1 rfl
  | false => exact h2 rfl
/-- Behind a block. -/
def blkQ (Con : ConT) (Le : LeT) (id : Nat) (k : List ACode) (Q : AEx → St → Prop) : AEx → St → Prop := fun e s => match e with
  | .normal => runA Con Le k s Q
  | .exit j => (match Nat.beq j id with | true => runA Con Le k s Q | false => Q (.exit j) s)
  | .ret => Q .ret s
theorem run_block {id : Nat} {a : ACode} {k : List ACode} {s : St} {Q : AEx → St → Prop} (h : runA Con' Le [a] s (blkQ Con' Le id k Q)) : runA Con' Le (.block id a :: k) s Q := by
  have h := run_start' h
  simp only [runA, awp]
  refine (congrArg (awp Con' Le a s) ?_).mp h
  funext e s'
  cases e with
  | normal => rfl
  | ret => rfl
  | exit j => simp only [blkQ]; cases Nat.beq j id <;> rfl
where run_start' {a : ACode} {s : St} {Q : AEx → St → Prop} (h : runA Con' Le [a] s Q) : awp Con' Le a s Q := run_start h
theorem blk_normal {id : Nat} {k : List ACode} {s : St} {Q : AEx → St → Prop} (h : runA Con' Le k s Q) : blkQ Con' Le id k Q .normal s := h
theorem blk_ret {id : Nat} {k : List ACode} {s : St} {Q : AEx → St → Prop} (h : Q .ret s) : blkQ Con' Le id k Q .ret s := h
theorem blk_here {id : Nat} {k : List ACode} {s : St} {Q : AEx → St → Prop} (h : runA Con' Le k s Q) : blkQ Con' Le id k Q (.exit id) s := by
  unfold blkQ
  simp only [Nat.beq_refl]
  exact h
theorem blk_there {id j : Nat} {k : List ACode} {s : St} {Q : AEx → St → Prop} (hj : Nat.beq j id = false) (h : Q (.exit j) s) : blkQ Con' Le id k Q (.exit j) s := by
  unfold blkQ
  simp only [hj]
  exact h
/-- Behind a round of a loop. -/
def loopQ (Le : LeT) (I : Nat → St → Prop) (n : Nat) (Q : AEx → St → Prop) : AEx → St → Prop := fun e s => match e with
  | .normal => ∃ n' s'', n' < n ∧ Le s s'' ∧ I n' s''
  | .exit id => Q (.exit id) s
  | .ret => Q .ret s
theorem run_loop {a : ACode} {k : List ACode} {s : St} {Q : AEx → St → Prop} (I : Nat → St → Prop) (n : Nat) (h0 : I n s) (h : ∀ n s, I n s → runA Con' Le [a] s (loopQ Le I n Q)) : runA Con' Le (.loop a :: k) s Q := by
  simp only [runA, awp]
  refine ⟨I, n, h0, fun n s hI => ?_⟩
  refine (congrArg (awp Con' Le a s) ?_).mp (run_start (h n s hI))
  funext e s'
  cases e <;> rfl
theorem loop_normal {I : Nat → St → Prop} {n : Nat} {Q : AEx → St → Prop} {s : St} (n' : Nat) (s'' : St) (hn : n' < n) (hle : Le s s'') (hI : I n' s'') : loopQ Le I n Q .normal s := ⟨n', s'', hn, hle, hI⟩
theorem loop_exit {I : Nat → St → Prop} {n id : Nat} {Q : AEx → St → Prop} {s : St} (h : Q (.exit id) s) : loopQ Le I n Q (.exit id) s := h
theorem loop_ret {I : Nat → St → Prop} {n : Nat} {Q : AEx → St → Prop} {s : St} (h : Q .ret s) : loopQ Le I n Q .ret s := h

theorem end_of {rs : List ARes} {R : Post} {s : St} (s' : St) (hle : Le s s') (h : endF rs R s') : endQ Le rs R .ret s := (endQ_of (e := .ret) nofun).2 ⟨s', hle, h⟩
theorem end_of' {rs : List ARes} {R : Post} {s : St} (s' : St) (hle : Le s s') (h : endF rs R s') : endQ Le rs R .normal s := (endQ_of (e := .normal) nofun).2 ⟨s', hle, h⟩

theorem call_t {f : FuncId} {args : List AV} {s : St} {dst : Option Nat} {k : St → (St → Prop) → Prop} {Q : St → Prop} (R : Post) (h : Con' f args s.heap R) (hk : ∀ v H, R v H → k (St.put ⟨s.tmps, H⟩ dst [] v) Q) : callW Con' f args s [] dst true k Q := ⟨R, h, hk⟩
theorem call_n {f : FuncId} {args : List AV} {s : St} {π : Path} {dst : Option Nat} {k : St → (St → Prop) → Prop} {Q : St → Prop} (v : AV) (N : List Blk) (hN : allW N = true) (h : imp π (Con' f args (roH s.heap) fun v' H' => v' = v ∧ H' = addBs (roH s.heap) N)) (hk : k (St.put ⟨s.tmps, addBs s.heap N⟩ dst π v) Q) : callW Con' f args s π dst false k Q := by
  cases π <;> exact ⟨v, N, hN, h, hk⟩
theorem call_q {f : FuncId} {args : List AV} {s : St} {π : Path} {dst : Option Nat} {k : St → (St → Prop) → Prop} {Q : St → Prop} (v : AV) (h : imp π (Con' f args (roH s.heap) fun v' H' => v' = v ∧ H' = roH s.heap)) (hk : k (St.put s dst π v) Q) : callW Con' f args s π dst false k Q :=
  call_n v [] rfl h hk
theorem call_g {f : FuncId} {args : List AV} {s : St} {e : Nat × Bool × Bool} {π : Path} {dst : Option Nat} {tl : Bool} {k : St → (St → Prop) → Prop} {Q : St → Prop} (v : AV) (h : imp (e :: π) (Con' f args (roH s.heap) fun v' H' => v' = v ∧ H' = roH s.heap)) (hk : k (St.put s dst (e :: π) v) Q) : callW Con' f args s (e :: π) dst tl k Q := by
  cases tl
  · exact ⟨v, [], rfl, h, hk⟩
  · exact .inl ⟨v, [], rfl, h, hk⟩
/-- A call that is sure to be made. -/
theorem call_c {f : FuncId} {args : List AV} {s : St} {e : Nat × Bool × Bool} {π : Path} {dst : Option Nat} {k : St → (St → Prop) → Prop} {Q : St → Prop} (R : Post) (hcd : conds (e :: π)) (h : Con' f args s.heap R) (hk : ∀ v H, R v H → k (St.put ⟨s.tmps, H⟩ dst (e :: π) v) Q) : callW Con' f args s (e :: π) dst true k Q := .inr ⟨hcd, R, h, hk⟩

theorem leArgs_nil_rel {φ : Emb} {args : List AV} (h : leArgs [] args args) {xs : List Value} (r : F2 (relA φ) args xs) : F2 (relA (ren φ [])) args xs := leArgs_rel h r

/-- A function that leaves nothing behind and answers what names no memory. -/
theorem Con.pure {f : FuncId} {args : List AV} {X : AV} (h : Con P f args ⟨0, []⟩ fun v H' => v = X ∧ H' = ⟨0, []⟩) (ha : leArgs [] args args) (hX : mapV (fun i => i) X = X) (H : Heap) : Con P f args H fun v H' => v = X ∧ H' = H := by
  refine ⟨h.1, fun φ w xs hF hH => ?_⟩
  have h0 : HRel (ren φ []) ⟨0, []⟩ w := ⟨fun i B p hB => by simp [getB] at hB, fun i j B C p q hB => by simp [getB] at hB, fun i _ => rfl, fun i p hp => by simp [ren, nthO] at hp⟩
  refine (h.2 (ren φ []) w xs (leArgs_rel ha hF) h0).mono fun e w' ⟨φ0', v0, x, H0', he, ⟨hv0, hH0⟩, hv, hh, hfr⟩ => ?_
  subst hv0; subst hH0; subst he
  have hold : ∀ b, b < w.heap.size → w'.heap[b]? = w.heap[b]? := fun b hb => hfr.old b hb fun i B p hB => by simp [getB] at hB
  obtain ⟨g1, g2⟩ := hH.grown hfr.os hfr.tape hfr.output hfr.size hold (K := H) (Nat.le_refl _) (fun _ _ h _ => h)
  refine ⟨φ, v0, x, H, rfl, ⟨rfl, rfl⟩, ?_, g1, g2⟩
  rw [← hX]
  exact mapV_rel (fun i p hp => by rw [hh.fresh i (Nat.zero_le _)] at hp; cases hp) hv

/-- What follows a call; not looked into before its state is there. -/
def rwpK (Con : ConT) (r : List AOper) (s : St) (Q : St → Prop) : Prop := rwp Con r s Q
theorem rwpK_app {r : List AOper} {s : St} {Q : St → Prop} : rwpK Con' r s Q = rwp Con' r s Q := rfl
theorem rwp_nil {s : St} {Q : St → Prop} : rwp Con' [] s Q = Q s := rfl
theorem rwp_cons {o : AOper} {r : List AOper} {s : St} {Q : St → Prop} : rwp Con' (o :: r) s Q = (match gpath s o.guard with
    | none => False
    | some π => match aop s π o.op with
      | .p none v B => rwp Con' r (St.put ⟨s.tmps, addBlk s.heap B⟩ o.dst π v) Q
      | .p (some p) v B => imp π p ∧ rwp Con' r (St.put ⟨s.tmps, addBlk s.heap B⟩ o.dst π v) Q
      | .t none v H => (match o.tl, π, exOk s o with
        | true, [], true => rwp Con' r (St.put ⟨s.tmps, H⟩ o.dst [] v) Q
        | _, _, _ => False)
      | .t (some p) v H => (match o.tl, π, exOk s o with
        | true, [], true => p ∧ rwp Con' r (St.put ⟨s.tmps, H⟩ o.dst [] v) Q
        | _, _, _ => False)
      | .call f args => callW Con' f args s π o.dst o.tl (rwpK Con' r) Q
      | .bad => False) := rfl
theorem slotsOf {l : List Nat} {tmps : List Slot} {t : Nat} {v : AV} (hv : slotAt tmps t = some ⟨t, [], v⟩) (hid : leV l v v) {r : List Slot} (h : slotsLe l tmps r) : slotsLe l tmps (⟨t, [], v⟩ :: r) := by
  cases v with
  | bot => exact ⟨trivial, h⟩
  | _ => simp only [slotsLe, hv]; exact ⟨hid, h⟩
theorem end_tmp1 {t : Nat} {v : AV} {R : Post} {tmps : List Slot} {H : Heap} (hv : slotAt tmps t = some ⟨t, [], v⟩) (hid : leV [] v v) (hn : noTup v = true) (hR : R v ⟨0, []⟩) : endQ (LeS 0) [.tmp t] R .ret ⟨tmps, H⟩ := by
  refine end_of ⟨[⟨t, [], v⟩], ⟨0, []⟩⟩ (LeS.intro [] (fun i h => absurd h (Nat.not_lt_zero i)) trivial rfl (slotsOf hv hid trivial) trivial) ?_
  have hg : St.get ⟨[⟨t, [], v⟩], ⟨0, []⟩⟩ [] (.t t) = v := by simp [St.get, slotAt, Nat.beq_refl, sfx, eqP]
  simp only [endF, resL, resA, hg, hn, resV]
  exact hR
theorem end_tmp2 {t u : Nat} {v x : AV} {R : Post} {tmps : List Slot} {H : Heap} (hne : Nat.beq t u = false) (hv : slotAt tmps t = some ⟨t, [], v⟩) (hx : slotAt tmps u = some ⟨u, [], x⟩) (hid : leV [] v v) (hidx : leV [] x x) (hn : noTup v = true) (hnx : noTup x = true) (hR : R (.tup [v, x]) ⟨0, []⟩) : endQ (LeS 0) [.tmp t, .tmp u] R .ret ⟨tmps, H⟩ := by
  refine end_of ⟨[⟨t, [], v⟩, ⟨u, [], x⟩], ⟨0, []⟩⟩ (LeS.intro [] (fun i h => absurd h (Nat.not_lt_zero i)) trivial rfl (slotsOf hv hid (slotsOf hx hidx trivial)) trivial) ?_
  have hg : St.get ⟨[⟨t, [], v⟩, ⟨u, [], x⟩], ⟨0, []⟩⟩ [] (.t t) = v := by simp [St.get, slotAt, Nat.beq_refl, sfx, eqP]
  have hg2 : St.get ⟨[⟨t, [], v⟩, ⟨u, [], x⟩], ⟨0, []⟩⟩ [] (.t u) = x := by simp [St.get, slotAt, Nat.beq_refl, sfx, eqP, hne]
  simp only [endF, resL, resA, hg, hg2, hn, hnx, resV]
  exact hR

attribute [irreducible] runA blkQ loopQ

end Go.AM
