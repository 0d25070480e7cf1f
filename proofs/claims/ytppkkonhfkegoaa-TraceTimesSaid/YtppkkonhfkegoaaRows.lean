/-
  No cell of these rows narrows 'for every input' (looked for: loops, veiled, ifaces, maps, wideKeys, modest, calm, conditions, laid).
  DERIVED. THE GIVEN ROWS OF THIS SEAT. 5 by the template 'for every input the law returns true; each argument reads behind the call as it read before'; 0 by the template 'total and deterministic' (their statements: YtppkkonhfkegoaaTotals.lean).
  GIVEN WITH THE SEED: the statements are not yours to turn. If you find one false, say at which input.
  Laid BY PROGRAM, IN A SANDBOX (cutbox-rows.mjs): the forced cells as the released guide's own fill.sh prints them over the translation c7e1cf688aaea3dc… (all of the seat's roots in one cut). By AI agents, Wed Nov 11 2026. No macro, syntax, notation, axiom, sorry.
-/
import Derived.Test.YtppkkonhfkegoaaChecked
import GoSem.Claim
import GoSem.ClaimJoined
import GoSem.ClaimMapViews
import Derived.JoinedTies
import Derived.KernelRfl
namespace Go.Proofs.Ytppkkonhfkegoaa
/- THE CELL 'sum', in the pinned program and in every row, IS THE sha256 OF THE DUMP (.gsa) THAT YtppkkonhfkegoaaProg.lean LOADS. Nothing in Lean hashes anything: it is a label: what it is worth is what the hold of that sum in a sandbox is worth. -/
noncomputable def Try.pinned : Pinned := { name := "ytppkkonhfkegoaa", sum := "c7e1cf688aaea3dc829dc115da2f63c9e8321ee37bed45f08b74463b5b38b957", checked := Try.checked }
namespace Rows
def none {H : Type} : Left H := { results := [], args := [] }

/-- 'faaslaw51.TraceChecks': WHATEVER THE INPUT: true; the input reads as it did. -/
def traceChecksSpec : ChangeSpec := { name := "traceChecks", fn := fun _ => fun
  | [d1, d2] => { results := [.lit (.bool true)], args := [d1, d2] }
  | _ => none }
def traceChecksRow : OpenClaim := { program := "ytppkkonhfkegoaa", sum := "c7e1cf688aaea3dc829dc115da2f63c9e8321ee37bed45f08b74463b5b38b957", func := "faas/faaslaw51.TraceChecks", spec := "traceChecks", unfollowed := true, recurses := true, apart := false }
def TraceChecksSaid : Prop := traceChecksRow.holds Try.pinned (OpenSpec.ofChange traceChecksSpec)

/-- ITS FALSE NEIGHBOUR: 'it returns false'. Refute it at one input. -/
def traceChecksWrong : ChangeSpec := { name := "traceChecks", fn := fun _ => fun
  | [d1, d2] => { results := [.lit (.bool false)], args := [d1, d2] }
  | _ => none }
def TraceChecksWrongFalsely : Prop := traceChecksRow.holds Try.pinned (OpenSpec.ofChange traceChecksWrong)

/-- 'faaslaw51.TraceWays': WHATEVER THE INPUT: true; the input reads as it did. -/
def traceWaysSpec : ChangeSpec := { name := "traceWays", fn := fun _ => fun
  | [d1, d2] => { results := [.lit (.bool true)], args := [d1, d2] }
  | _ => none }
def traceWaysRow : OpenClaim := { program := "ytppkkonhfkegoaa", sum := "c7e1cf688aaea3dc829dc115da2f63c9e8321ee37bed45f08b74463b5b38b957", func := "faas/faaslaw51.TraceWays", spec := "traceWays", unfollowed := true, recurses := true, apart := false }
def TraceWaysSaid : Prop := traceWaysRow.holds Try.pinned (OpenSpec.ofChange traceWaysSpec)

/-- ITS FALSE NEIGHBOUR: 'it returns false'. Refute it at one input. -/
def traceWaysWrong : ChangeSpec := { name := "traceWays", fn := fun _ => fun
  | [d1, d2] => { results := [.lit (.bool false)], args := [d1, d2] }
  | _ => none }
def TraceWaysWrongFalsely : Prop := traceWaysRow.holds Try.pinned (OpenSpec.ofChange traceWaysWrong)

/-- 'faaslaw51.TraceSampled': WHATEVER THE INPUT: true; the input reads as it did. -/
def traceSampledSpec : ChangeSpec := { name := "traceSampled", fn := fun _ => fun
  | [d1, d2, d3] => { results := [.lit (.bool true)], args := [d1, d2, d3] }
  | _ => none }
def traceSampledRow : OpenClaim := { program := "ytppkkonhfkegoaa", sum := "c7e1cf688aaea3dc829dc115da2f63c9e8321ee37bed45f08b74463b5b38b957", func := "faas/faaslaw51.TraceSampled", spec := "traceSampled", unfollowed := true, recurses := true, apart := false }
def TraceSampledSaid : Prop := traceSampledRow.holds Try.pinned (OpenSpec.ofChange traceSampledSpec)

/-- ITS FALSE NEIGHBOUR: 'it returns false'. Refute it at one input. -/
def traceSampledWrong : ChangeSpec := { name := "traceSampled", fn := fun _ => fun
  | [d1, d2, d3] => { results := [.lit (.bool false)], args := [d1, d2, d3] }
  | _ => none }
def TraceSampledWrongFalsely : Prop := traceSampledRow.holds Try.pinned (OpenSpec.ofChange traceSampledWrong)

/-- 'faaslaw51.TraceCausesAcyclic': WHATEVER THE INPUT: true; the input reads as it did. -/
def traceCausesAcyclicSpec : ChangeSpec := { name := "traceCausesAcyclic", fn := fun _ => fun
  | [d1, d2] => { results := [.lit (.bool true)], args := [d1, d2] }
  | _ => none }
def traceCausesAcyclicRow : OpenClaim := { program := "ytppkkonhfkegoaa", sum := "c7e1cf688aaea3dc829dc115da2f63c9e8321ee37bed45f08b74463b5b38b957", func := "faas/faaslaw51.TraceCausesAcyclic", spec := "traceCausesAcyclic", unfollowed := true, recurses := true, apart := false }
def TraceCausesAcyclicSaid : Prop := traceCausesAcyclicRow.holds Try.pinned (OpenSpec.ofChange traceCausesAcyclicSpec)

/-- ITS FALSE NEIGHBOUR: 'it returns false'. Refute it at one input. -/
def traceCausesAcyclicWrong : ChangeSpec := { name := "traceCausesAcyclic", fn := fun _ => fun
  | [d1, d2] => { results := [.lit (.bool false)], args := [d1, d2] }
  | _ => none }
def TraceCausesAcyclicWrongFalsely : Prop := traceCausesAcyclicRow.holds Try.pinned (OpenSpec.ofChange traceCausesAcyclicWrong)

/-- 'faaslaw51.TraceTimes': WHATEVER THE INPUT: true; the input reads as it did. -/
def traceTimesSpec : ChangeSpec := { name := "traceTimes", fn := fun _ => fun
  | [d1, d2] => { results := [.lit (.bool true)], args := [d1, d2] }
  | _ => none }
def traceTimesRow : OpenClaim := { program := "ytppkkonhfkegoaa", sum := "c7e1cf688aaea3dc829dc115da2f63c9e8321ee37bed45f08b74463b5b38b957", func := "faas/faaslaw51.TraceTimes", spec := "traceTimes", unfollowed := true, recurses := true, apart := false }
def TraceTimesSaid : Prop := traceTimesRow.holds Try.pinned (OpenSpec.ofChange traceTimesSpec)

/-- ITS FALSE NEIGHBOUR: 'it returns false'. Refute it at one input. -/
def traceTimesWrong : ChangeSpec := { name := "traceTimes", fn := fun _ => fun
  | [d1, d2] => { results := [.lit (.bool false)], args := [d1, d2] }
  | _ => none }
def TraceTimesWrongFalsely : Prop := traceTimesRow.holds Try.pinned (OpenSpec.ofChange traceTimesWrong)

/- THE SECOND FORM. 'bulk': how many values and letters a reading holds, each counted each time it is reached (what is shared counts as often as it is met; a slice's spare places count too). A statement '..UptoSaid' is the law's where the arguments, and the package variables that the reading takes, are together of bulk at most 1048576: NARROWER than '..Said'. Prove '..Said' where nothing that the law and all that it calls make is longer than what came in: it says more and counts as full. Else prove '..UptoSaid'. A law counts once. -/
mutual
def uptoBulk {H : Type} : DataW H → Nat
  | .lit (.string bytes) => bytes.length + 1
  | .lit _ => 1
  | .nil => 1
  | .ptr d => uptoBulk d + 1
  | .slice elems spare => uptoBulkAll elems + uptoBulkAll spare + 1
  | .agg parts => uptoBulkAll parts + 1
  | .iface _ d => uptoBulk d + 1
  | .map entries => uptoBulkEntries entries + 1
  | .held _ => 1
def uptoBulkAll {H : Type} : List (DataW H) → Nat
  | [] => 0
  | d :: r => uptoBulk d + uptoBulkAll r
def uptoBulkEntries {H : Type} : List (Lit × DataW H) → Nat
  | [] => 0
  | x :: r => uptoBulkEntry x + uptoBulkEntries r
def uptoBulkEntry {H : Type} : Lit × DataW H → Nat
  | (.string bytes, d) => bytes.length + uptoBulk d + 1
  | (_, d) => uptoBulk d + 1
 end
def uptoSmall : (H : Type) → List (DataW H) → Bool := fun _ ds => decide (uptoBulkAll ds ≤ 1048576)
def OpenSpec.upto (s : _root_.Go.ChangeSpec) : _root_.Go.OpenSpec := { _root_.Go.OpenSpec.ofChange s with cond := some uptoSmall }

/-- 'faaslaw51.TraceChecks', WHERE WHAT IT READS IS OF BULK AT MOST 1048576: true; the input reads as it did. -/
def traceChecksUptoRow : OpenClaim := { program := "ytppkkonhfkegoaa", sum := "c7e1cf688aaea3dc829dc115da2f63c9e8321ee37bed45f08b74463b5b38b957", func := "faas/faaslaw51.TraceChecks", spec := "traceChecks", unfollowed := true, recurses := true, apart := false, narrowed := true }
def TraceChecksUptoSaid : Prop := traceChecksUptoRow.holds Try.pinned (OpenSpec.upto traceChecksSpec)

/-- 'faaslaw51.TraceWays', WHERE WHAT IT READS IS OF BULK AT MOST 1048576: true; the input reads as it did. -/
def traceWaysUptoRow : OpenClaim := { program := "ytppkkonhfkegoaa", sum := "c7e1cf688aaea3dc829dc115da2f63c9e8321ee37bed45f08b74463b5b38b957", func := "faas/faaslaw51.TraceWays", spec := "traceWays", unfollowed := true, recurses := true, apart := false, narrowed := true }
def TraceWaysUptoSaid : Prop := traceWaysUptoRow.holds Try.pinned (OpenSpec.upto traceWaysSpec)

/-- 'faaslaw51.TraceSampled', WHERE WHAT IT READS IS OF BULK AT MOST 1048576: true; the input reads as it did. -/
def traceSampledUptoRow : OpenClaim := { program := "ytppkkonhfkegoaa", sum := "c7e1cf688aaea3dc829dc115da2f63c9e8321ee37bed45f08b74463b5b38b957", func := "faas/faaslaw51.TraceSampled", spec := "traceSampled", unfollowed := true, recurses := true, apart := false, narrowed := true }
def TraceSampledUptoSaid : Prop := traceSampledUptoRow.holds Try.pinned (OpenSpec.upto traceSampledSpec)

/-- 'faaslaw51.TraceCausesAcyclic', WHERE WHAT IT READS IS OF BULK AT MOST 1048576: true; the input reads as it did. -/
def traceCausesAcyclicUptoRow : OpenClaim := { program := "ytppkkonhfkegoaa", sum := "c7e1cf688aaea3dc829dc115da2f63c9e8321ee37bed45f08b74463b5b38b957", func := "faas/faaslaw51.TraceCausesAcyclic", spec := "traceCausesAcyclic", unfollowed := true, recurses := true, apart := false, narrowed := true }
def TraceCausesAcyclicUptoSaid : Prop := traceCausesAcyclicUptoRow.holds Try.pinned (OpenSpec.upto traceCausesAcyclicSpec)

/-- 'faaslaw51.TraceTimes', WHERE WHAT IT READS IS OF BULK AT MOST 1048576: true; the input reads as it did. -/
def traceTimesUptoRow : OpenClaim := { program := "ytppkkonhfkegoaa", sum := "c7e1cf688aaea3dc829dc115da2f63c9e8321ee37bed45f08b74463b5b38b957", func := "faas/faaslaw51.TraceTimes", spec := "traceTimes", unfollowed := true, recurses := true, apart := false, narrowed := true }
def TraceTimesUptoSaid : Prop := traceTimesUptoRow.holds Try.pinned (OpenSpec.upto traceTimesSpec)

end Rows
end Go.Proofs.Ytppkkonhfkegoaa
