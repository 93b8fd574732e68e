/-
  No cell of these rows narrows 'for every input' (looked for: loops, veiled, ifaces, maps, wideKeys, modest, calm, conditions, laid).
  DERIVED. THE GIVEN ROWS OF THIS SEAT. 6 by the template 'for every input the law returns true; each argument reads behind the call as it read before'; 0 by the template 'total and deterministic' (their statements: YtmbnakinhnkabaaTotals.lean).
  GIVEN WITH THE SEED: the statements are not yours to turn. If you find one false, say at which input.
  Laid BY PROGRAM, IN A SANDBOX (cutbox-rows.mjs): the forced cells as the released guide's own fill.sh prints them over the translation a52414f2ca7be4b8… (all of the seat's roots in one cut). By AI agents, Wed Nov 11 2026. No macro, syntax, notation, axiom, sorry.
-/
import Derived.Test.YtmbnakinhnkabaaChecked
import GoSem.Claim
import GoSem.ClaimJoined
import GoSem.ClaimMapViews
import Derived.JoinedTies
import Derived.KernelRfl
namespace Go.Proofs.Ytmbnakinhnkabaa
/- THE CELL 'sum', in the pinned program and in every row, IS THE sha256 OF THE DUMP (.gsa) THAT YtmbnakinhnkabaaProg.lean LOADS. Nothing in Lean hashes anything: it is a label: what it is worth is what the hold of that sum in a sandbox is worth. -/
noncomputable def Try.pinned : Pinned := { name := "ytmbnakinhnkabaa", sum := "a52414f2ca7be4b840b2256346b641fbe295a52fa771e1a4b8701e39a4ff2656", checked := Try.checked }
namespace Rows
def none {H : Type} : Left H := { results := [], args := [] }

/-- 'understudylaw19.DeadSees': WHATEVER THE INPUT: true; the input reads as it did. -/
def deadSeesSpec : ChangeSpec := { name := "deadSees", fn := fun _ => fun
  | [d] => { results := [.lit (.bool true)], args := [d] }
  | _ => none }
def deadSeesRow : OpenClaim := { program := "ytmbnakinhnkabaa", sum := "a52414f2ca7be4b840b2256346b641fbe295a52fa771e1a4b8701e39a4ff2656", func := "understudy/understudylaw19.DeadSees", spec := "deadSees", unfollowed := true, recurses := true, plainKeys := false, apart := false }
def DeadSeesSaid : Prop := deadSeesRow.holds Try.pinned (OpenSpec.ofChange deadSeesSpec)

/-- ITS FALSE NEIGHBOUR: 'it returns false'. Refute it at one input. -/
def deadSeesWrong : ChangeSpec := { name := "deadSees", fn := fun _ => fun
  | [d] => { results := [.lit (.bool false)], args := [d] }
  | _ => none }
def DeadSeesWrongFalsely : Prop := deadSeesRow.holds Try.pinned (OpenSpec.ofChange deadSeesWrong)

/-- 'understudylaw19.DeadDoes': WHATEVER THE INPUT: true; the input reads as it did. -/
def deadDoesSpec : ChangeSpec := { name := "deadDoes", fn := fun _ => fun
  | [d1, d2, d3] => { results := [.lit (.bool true)], args := [d1, d2, d3] }
  | _ => none }
def deadDoesRow : OpenClaim := { program := "ytmbnakinhnkabaa", sum := "a52414f2ca7be4b840b2256346b641fbe295a52fa771e1a4b8701e39a4ff2656", func := "understudy/understudylaw19.DeadDoes", spec := "deadDoes", unfollowed := true, recurses := true, plainKeys := false, apart := false }
def DeadDoesSaid : Prop := deadDoesRow.holds Try.pinned (OpenSpec.ofChange deadDoesSpec)

/-- ITS FALSE NEIGHBOUR: 'it returns false'. Refute it at one input. -/
def deadDoesWrong : ChangeSpec := { name := "deadDoes", fn := fun _ => fun
  | [d1, d2, d3] => { results := [.lit (.bool false)], args := [d1, d2, d3] }
  | _ => none }
def DeadDoesWrongFalsely : Prop := deadDoesRow.holds Try.pinned (OpenSpec.ofChange deadDoesWrong)

/-- 'understudylaw19.DeadUsed': WHATEVER THE INPUT: true; the input reads as it did. -/
def deadUsedSpec : ChangeSpec := { name := "deadUsed", fn := fun _ => fun
  | [d] => { results := [.lit (.bool true)], args := [d] }
  | _ => none }
def deadUsedRow : OpenClaim := { program := "ytmbnakinhnkabaa", sum := "a52414f2ca7be4b840b2256346b641fbe295a52fa771e1a4b8701e39a4ff2656", func := "understudy/understudylaw19.DeadUsed", spec := "deadUsed", unfollowed := true, recurses := true, plainKeys := false, apart := false }
def DeadUsedSaid : Prop := deadUsedRow.holds Try.pinned (OpenSpec.ofChange deadUsedSpec)

/-- ITS FALSE NEIGHBOUR: 'it returns false'. Refute it at one input. -/
def deadUsedWrong : ChangeSpec := { name := "deadUsed", fn := fun _ => fun
  | [d] => { results := [.lit (.bool false)], args := [d] }
  | _ => none }
def DeadUsedWrongFalsely : Prop := deadUsedRow.holds Try.pinned (OpenSpec.ofChange deadUsedWrong)

/-- 'understudylaw18.FoldDoes': WHATEVER THE INPUT: true; the input reads as it did. -/
def foldDoesSpec : ChangeSpec := { name := "foldDoes", fn := fun _ => fun
  | [d1, d2, d3] => { results := [.lit (.bool true)], args := [d1, d2, d3] }
  | _ => none }
def foldDoesRow : OpenClaim := { program := "ytmbnakinhnkabaa", sum := "a52414f2ca7be4b840b2256346b641fbe295a52fa771e1a4b8701e39a4ff2656", func := "understudy/understudylaw18.FoldDoes", spec := "foldDoes", unfollowed := true, recurses := true, plainKeys := false, apart := false }
def FoldDoesSaid : Prop := foldDoesRow.holds Try.pinned (OpenSpec.ofChange foldDoesSpec)

/-- ITS FALSE NEIGHBOUR: 'it returns false'. Refute it at one input. -/
def foldDoesWrong : ChangeSpec := { name := "foldDoes", fn := fun _ => fun
  | [d1, d2, d3] => { results := [.lit (.bool false)], args := [d1, d2, d3] }
  | _ => none }
def FoldDoesWrongFalsely : Prop := foldDoesRow.holds Try.pinned (OpenSpec.ofChange foldDoesWrong)

/-- 'understudylaw18.FoldSimple': WHATEVER THE INPUT: true; the input reads as it did. -/
def foldSimpleSpec : ChangeSpec := { name := "foldSimple", fn := fun _ => fun
  | [d] => { results := [.lit (.bool true)], args := [d] }
  | _ => none }
def foldSimpleRow : OpenClaim := { program := "ytmbnakinhnkabaa", sum := "a52414f2ca7be4b840b2256346b641fbe295a52fa771e1a4b8701e39a4ff2656", func := "understudy/understudylaw18.FoldSimple", spec := "foldSimple", unfollowed := true, recurses := true, plainKeys := false, apart := false }
def FoldSimpleSaid : Prop := foldSimpleRow.holds Try.pinned (OpenSpec.ofChange foldSimpleSpec)

/-- ITS FALSE NEIGHBOUR: 'it returns false'. Refute it at one input. -/
def foldSimpleWrong : ChangeSpec := { name := "foldSimple", fn := fun _ => fun
  | [d] => { results := [.lit (.bool false)], args := [d] }
  | _ => none }
def FoldSimpleWrongFalsely : Prop := foldSimpleRow.holds Try.pinned (OpenSpec.ofChange foldSimpleWrong)

/-- 'understudylaw18.FoldKnown': WHATEVER THE INPUT: true; the input reads as it did. -/
def foldKnownSpec : ChangeSpec := { name := "foldKnown", fn := fun _ => fun
  | [d1, d2, d3, d4] => { results := [.lit (.bool true)], args := [d1, d2, d3, d4] }
  | _ => none }
def foldKnownRow : OpenClaim := { program := "ytmbnakinhnkabaa", sum := "a52414f2ca7be4b840b2256346b641fbe295a52fa771e1a4b8701e39a4ff2656", func := "understudy/understudylaw18.FoldKnown", spec := "foldKnown", unfollowed := true, recurses := true, plainKeys := false, apart := false }
def FoldKnownSaid : Prop := foldKnownRow.holds Try.pinned (OpenSpec.ofChange foldKnownSpec)

/-- ITS FALSE NEIGHBOUR: 'it returns false'. Refute it at one input. -/
def foldKnownWrong : ChangeSpec := { name := "foldKnown", fn := fun _ => fun
  | [d1, d2, d3, d4] => { results := [.lit (.bool false)], args := [d1, d2, d3, d4] }
  | _ => none }
def FoldKnownWrongFalsely : Prop := foldKnownRow.holds Try.pinned (OpenSpec.ofChange foldKnownWrong)

/- THE SECOND FORM. 'bulk': how many values and letters a reading holds, each counted each time it is reached (what is shared counts as often as it is met; a slice's spare places count too). A statement '..UptoSaid' is the law's where the arguments, and the package variables that the reading takes, are together of bulk at most 1048576: NARROWER than '..Said'. Prove '..Said' where nothing that the law and all that it calls make is longer than what came in: it says more and counts as full. Else prove '..UptoSaid'. A law counts once. -/
mutual
def uptoBulk {H : Type} : DataW H → Nat
  | .lit (.string bytes) => bytes.length + 1
  | .lit _ => 1
  | .nil => 1
  | .ptr d => uptoBulk d + 1
  | .slice elems spare => uptoBulkAll elems + uptoBulkAll spare + 1
  | .agg parts => uptoBulkAll parts + 1
  | .iface _ d => uptoBulk d + 1
  | .map entries => uptoBulkEntries entries + 1
  | .held _ => 1
def uptoBulkAll {H : Type} : List (DataW H) → Nat
  | [] => 0
  | d :: r => uptoBulk d + uptoBulkAll r
def uptoBulkEntries {H : Type} : List (Lit × DataW H) → Nat
  | [] => 0
  | x :: r => uptoBulkEntry x + uptoBulkEntries r
def uptoBulkEntry {H : Type} : Lit × DataW H → Nat
  | (.string bytes, d) => bytes.length + uptoBulk d + 1
  | (_, d) => uptoBulk d + 1
 end
def uptoSmall : (H : Type) → List (DataW H) → Bool := fun _ ds => decide (uptoBulkAll ds ≤ 1048576)
def OpenSpec.upto (s : _root_.Go.ChangeSpec) : _root_.Go.OpenSpec := { _root_.Go.OpenSpec.ofChange s with cond := some uptoSmall }

/-- 'understudylaw19.DeadSees', WHERE WHAT IT READS IS OF BULK AT MOST 1048576: true; the input reads as it did. -/
def deadSeesUptoRow : OpenClaim := { program := "ytmbnakinhnkabaa", sum := "a52414f2ca7be4b840b2256346b641fbe295a52fa771e1a4b8701e39a4ff2656", func := "understudy/understudylaw19.DeadSees", spec := "deadSees", unfollowed := true, recurses := true, plainKeys := false, apart := false, narrowed := true }
def DeadSeesUptoSaid : Prop := deadSeesUptoRow.holds Try.pinned (OpenSpec.upto deadSeesSpec)

/-- 'understudylaw19.DeadDoes', WHERE WHAT IT READS IS OF BULK AT MOST 1048576: true; the input reads as it did. -/
def deadDoesUptoRow : OpenClaim := { program := "ytmbnakinhnkabaa", sum := "a52414f2ca7be4b840b2256346b641fbe295a52fa771e1a4b8701e39a4ff2656", func := "understudy/understudylaw19.DeadDoes", spec := "deadDoes", unfollowed := true, recurses := true, plainKeys := false, apart := false, narrowed := true }
def DeadDoesUptoSaid : Prop := deadDoesUptoRow.holds Try.pinned (OpenSpec.upto deadDoesSpec)

/-- 'understudylaw19.DeadUsed', WHERE WHAT IT READS IS OF BULK AT MOST 1048576: true; the input reads as it did. -/
def deadUsedUptoRow : OpenClaim := { program := "ytmbnakinhnkabaa", sum := "a52414f2ca7be4b840b2256346b641fbe295a52fa771e1a4b8701e39a4ff2656", func := "understudy/understudylaw19.DeadUsed", spec := "deadUsed", unfollowed := true, recurses := true, plainKeys := false, apart := false, narrowed := true }
def DeadUsedUptoSaid : Prop := deadUsedUptoRow.holds Try.pinned (OpenSpec.upto deadUsedSpec)

/-- 'understudylaw18.FoldDoes', WHERE WHAT IT READS IS OF BULK AT MOST 1048576: true; the input reads as it did. -/
def foldDoesUptoRow : OpenClaim := { program := "ytmbnakinhnkabaa", sum := "a52414f2ca7be4b840b2256346b641fbe295a52fa771e1a4b8701e39a4ff2656", func := "understudy/understudylaw18.FoldDoes", spec := "foldDoes", unfollowed := true, recurses := true, plainKeys := false, apart := false, narrowed := true }
def FoldDoesUptoSaid : Prop := foldDoesUptoRow.holds Try.pinned (OpenSpec.upto foldDoesSpec)

/-- 'understudylaw18.FoldSimple', WHERE WHAT IT READS IS OF BULK AT MOST 1048576: true; the input reads as it did. -/
def foldSimpleUptoRow : OpenClaim := { program := "ytmbnakinhnkabaa", sum := "a52414f2ca7be4b840b2256346b641fbe295a52fa771e1a4b8701e39a4ff2656", func := "understudy/understudylaw18.FoldSimple", spec := "foldSimple", unfollowed := true, recurses := true, plainKeys := false, apart := false, narrowed := true }
def FoldSimpleUptoSaid : Prop := foldSimpleUptoRow.holds Try.pinned (OpenSpec.upto foldSimpleSpec)

/-- 'understudylaw18.FoldKnown', WHERE WHAT IT READS IS OF BULK AT MOST 1048576: true; the input reads as it did. -/
def foldKnownUptoRow : OpenClaim := { program := "ytmbnakinhnkabaa", sum := "a52414f2ca7be4b840b2256346b641fbe295a52fa771e1a4b8701e39a4ff2656", func := "understudy/understudylaw18.FoldKnown", spec := "foldKnown", unfollowed := true, recurses := true, plainKeys := false, apart := false, narrowed := true }
def FoldKnownUptoSaid : Prop := foldKnownUptoRow.holds Try.pinned (OpenSpec.upto foldKnownSpec)

end Rows
end Go.Proofs.Ytmbnakinhnkabaa
