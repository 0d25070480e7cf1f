/-
  No cell of these rows narrows 'for every input' (looked for: loops, veiled, ifaces, maps, wideKeys, modest, calm, conditions, laid).
  DERIVED. THE GIVEN ROWS OF THIS SEAT. 5 by the template 'for every input the law returns true; each argument reads behind the call as it read before'; 0 by the template 'total and deterministic' (their statements: YtejjemeaponbaaaTotals.lean).
  GIVEN WITH THE SEED: the statements are not yours to turn. If you find one false, say at which input.
  Laid BY PROGRAM, IN A SANDBOX (cutbox-rows.mjs): the forced cells as the released guide's own fill.sh prints them over the translation a194fb32e90cfc5e… (all of the seat's roots in one cut). By AI agents, Wed Nov 11 2026. No macro, syntax, notation, axiom, sorry.
-/
import Derived.Test.YtejjemeaponbaaaChecked
import GoSem.Claim
import GoSem.ClaimJoined
import GoSem.ClaimMapViews
import Derived.JoinedTies
import Derived.KernelRfl
namespace Go.Proofs.Ytejjemeaponbaaa
/- THE CELL 'sum', in the pinned program and in every row, IS THE sha256 OF THE DUMP (.gsa) THAT YtejjemeaponbaaaProg.lean LOADS. Nothing in Lean hashes anything: it is a label: what it is worth is what the hold of that sum in a sandbox is worth. -/
noncomputable def Try.pinned : Pinned := { name := "ytejjemeaponbaaa", sum := "a194fb32e90cfc5e98cdfc264cc0ce118fa058e0d347316da2aef26c5cc59975", checked := Try.checked }
namespace Rows
def none {H : Type} : Left H := { results := [], args := [] }

/-- 'faaslaw20.RolloutStarts': WHATEVER THE INPUT: true; the input reads as it did. -/
def rolloutStartsSpec : ChangeSpec := { name := "rolloutStarts", fn := fun _ => fun
  | [d1, d2, d3, d4] => { results := [.lit (.bool true)], args := [d1, d2, d3, d4] }
  | _ => none }
def rolloutStartsRow : OpenClaim := { program := "ytejjemeaponbaaa", sum := "a194fb32e90cfc5e98cdfc264cc0ce118fa058e0d347316da2aef26c5cc59975", func := "faas/faaslaw20.RolloutStarts", spec := "rolloutStarts", unfollowed := true, recurses := true, apart := false }
def RolloutStartsSaid : Prop := rolloutStartsRow.holds Try.pinned (OpenSpec.ofChange rolloutStartsSpec)

/-- ITS FALSE NEIGHBOUR: 'it returns false'. Refute it at one input. -/
def rolloutStartsWrong : ChangeSpec := { name := "rolloutStarts", fn := fun _ => fun
  | [d1, d2, d3, d4] => { results := [.lit (.bool false)], args := [d1, d2, d3, d4] }
  | _ => none }
def RolloutStartsWrongFalsely : Prop := rolloutStartsRow.holds Try.pinned (OpenSpec.ofChange rolloutStartsWrong)

/-- 'faaslaw20.RolloutNext': WHATEVER THE INPUT: true; the input reads as it did. -/
def rolloutNextSpec : ChangeSpec := { name := "rolloutNext", fn := fun _ => fun
  | [d1, d2, d3] => { results := [.lit (.bool true)], args := [d1, d2, d3] }
  | _ => none }
def rolloutNextRow : OpenClaim := { program := "ytejjemeaponbaaa", sum := "a194fb32e90cfc5e98cdfc264cc0ce118fa058e0d347316da2aef26c5cc59975", func := "faas/faaslaw20.RolloutNext", spec := "rolloutNext", unfollowed := true, recurses := true, apart := false }
def RolloutNextSaid : Prop := rolloutNextRow.holds Try.pinned (OpenSpec.ofChange rolloutNextSpec)

/-- ITS FALSE NEIGHBOUR: 'it returns false'. Refute it at one input. -/
def rolloutNextWrong : ChangeSpec := { name := "rolloutNext", fn := fun _ => fun
  | [d1, d2, d3] => { results := [.lit (.bool false)], args := [d1, d2, d3] }
  | _ => none }
def RolloutNextWrongFalsely : Prop := rolloutNextRow.holds Try.pinned (OpenSpec.ofChange rolloutNextWrong)

/-- 'faaslaw20.RolloutAlarms': WHATEVER THE INPUT: true; the input reads as it did. -/
def rolloutAlarmsSpec : ChangeSpec := { name := "rolloutAlarms", fn := fun _ => fun
  | [d1, d2, d3] => { results := [.lit (.bool true)], args := [d1, d2, d3] }
  | _ => none }
def rolloutAlarmsRow : OpenClaim := { program := "ytejjemeaponbaaa", sum := "a194fb32e90cfc5e98cdfc264cc0ce118fa058e0d347316da2aef26c5cc59975", func := "faas/faaslaw20.RolloutAlarms", spec := "rolloutAlarms", unfollowed := true, recurses := true, apart := false }
def RolloutAlarmsSaid : Prop := rolloutAlarmsRow.holds Try.pinned (OpenSpec.ofChange rolloutAlarmsSpec)

/-- ITS FALSE NEIGHBOUR: 'it returns false'. Refute it at one input. -/
def rolloutAlarmsWrong : ChangeSpec := { name := "rolloutAlarms", fn := fun _ => fun
  | [d1, d2, d3] => { results := [.lit (.bool false)], args := [d1, d2, d3] }
  | _ => none }
def RolloutAlarmsWrongFalsely : Prop := rolloutAlarmsRow.holds Try.pinned (OpenSpec.ofChange rolloutAlarmsWrong)

/-- 'faaslaw20.RolloutEnds': WHATEVER THE INPUT: true; the input reads as it did. -/
def rolloutEndsSpec : ChangeSpec := { name := "rolloutEnds", fn := fun _ => fun
  | [d1, d2, d3, d4] => { results := [.lit (.bool true)], args := [d1, d2, d3, d4] }
  | _ => none }
def rolloutEndsRow : OpenClaim := { program := "ytejjemeaponbaaa", sum := "a194fb32e90cfc5e98cdfc264cc0ce118fa058e0d347316da2aef26c5cc59975", func := "faas/faaslaw20.RolloutEnds", spec := "rolloutEnds", unfollowed := true, recurses := true, apart := false }
def RolloutEndsSaid : Prop := rolloutEndsRow.holds Try.pinned (OpenSpec.ofChange rolloutEndsSpec)

/-- ITS FALSE NEIGHBOUR: 'it returns false'. Refute it at one input. -/
def rolloutEndsWrong : ChangeSpec := { name := "rolloutEnds", fn := fun _ => fun
  | [d1, d2, d3, d4] => { results := [.lit (.bool false)], args := [d1, d2, d3, d4] }
  | _ => none }
def RolloutEndsWrongFalsely : Prop := rolloutEndsRow.holds Try.pinned (OpenSpec.ofChange rolloutEndsWrong)

/-- 'faaslaw20.RolloutStaysValid': WHATEVER THE INPUT: true; the input reads as it did. -/
def rolloutStaysValidSpec : ChangeSpec := { name := "rolloutStaysValid", fn := fun _ => fun
  | [d1, d2, d3, d4] => { results := [.lit (.bool true)], args := [d1, d2, d3, d4] }
  | _ => none }
def rolloutStaysValidRow : OpenClaim := { program := "ytejjemeaponbaaa", sum := "a194fb32e90cfc5e98cdfc264cc0ce118fa058e0d347316da2aef26c5cc59975", func := "faas/faaslaw20.RolloutStaysValid", spec := "rolloutStaysValid", unfollowed := true, recurses := true, apart := false }
def RolloutStaysValidSaid : Prop := rolloutStaysValidRow.holds Try.pinned (OpenSpec.ofChange rolloutStaysValidSpec)

/-- ITS FALSE NEIGHBOUR: 'it returns false'. Refute it at one input. -/
def rolloutStaysValidWrong : ChangeSpec := { name := "rolloutStaysValid", fn := fun _ => fun
  | [d1, d2, d3, d4] => { results := [.lit (.bool false)], args := [d1, d2, d3, d4] }
  | _ => none }
def RolloutStaysValidWrongFalsely : Prop := rolloutStaysValidRow.holds Try.pinned (OpenSpec.ofChange rolloutStaysValidWrong)

/- THE SECOND FORM. 'bulk': how many values and letters a reading holds, each counted each time it is reached (what is shared counts as often as it is met; a slice's spare places count too). A statement '..UptoSaid' is the law's where the arguments, and the package variables that the reading takes, are together of bulk at most 1048576: NARROWER than '..Said'. Prove '..Said' where nothing that the law and all that it calls make is longer than what came in: it says more and counts as full. Else prove '..UptoSaid'. A law counts once. -/
mutual
def uptoBulk {H : Type} : DataW H → Nat
  | .lit (.string bytes) => bytes.length + 1
  | .lit _ => 1
  | .nil => 1
  | .ptr d => uptoBulk d + 1
  | .slice elems spare => uptoBulkAll elems + uptoBulkAll spare + 1
  | .agg parts => uptoBulkAll parts + 1
  | .iface _ d => uptoBulk d + 1
  | .map entries => uptoBulkEntries entries + 1
  | .held _ => 1
def uptoBulkAll {H : Type} : List (DataW H) → Nat
  | [] => 0
  | d :: r => uptoBulk d + uptoBulkAll r
def uptoBulkEntries {H : Type} : List (Lit × DataW H) → Nat
  | [] => 0
  | x :: r => uptoBulkEntry x + uptoBulkEntries r
def uptoBulkEntry {H : Type} : Lit × DataW H → Nat
  | (.string bytes, d) => bytes.length + uptoBulk d + 1
  | (_, d) => uptoBulk d + 1
 end
def uptoSmall : (H : Type) → List (DataW H) → Bool := fun _ ds => decide (uptoBulkAll ds ≤ 1048576)
def OpenSpec.upto (s : _root_.Go.ChangeSpec) : _root_.Go.OpenSpec := { _root_.Go.OpenSpec.ofChange s with cond := some uptoSmall }

/-- 'faaslaw20.RolloutStarts', WHERE WHAT IT READS IS OF BULK AT MOST 1048576: true; the input reads as it did. -/
def rolloutStartsUptoRow : OpenClaim := { program := "ytejjemeaponbaaa", sum := "a194fb32e90cfc5e98cdfc264cc0ce118fa058e0d347316da2aef26c5cc59975", func := "faas/faaslaw20.RolloutStarts", spec := "rolloutStarts", unfollowed := true, recurses := true, apart := false, narrowed := true }
def RolloutStartsUptoSaid : Prop := rolloutStartsUptoRow.holds Try.pinned (OpenSpec.upto rolloutStartsSpec)

/-- 'faaslaw20.RolloutNext', WHERE WHAT IT READS IS OF BULK AT MOST 1048576: true; the input reads as it did. -/
def rolloutNextUptoRow : OpenClaim := { program := "ytejjemeaponbaaa", sum := "a194fb32e90cfc5e98cdfc264cc0ce118fa058e0d347316da2aef26c5cc59975", func := "faas/faaslaw20.RolloutNext", spec := "rolloutNext", unfollowed := true, recurses := true, apart := false, narrowed := true }
def RolloutNextUptoSaid : Prop := rolloutNextUptoRow.holds Try.pinned (OpenSpec.upto rolloutNextSpec)

/-- 'faaslaw20.RolloutAlarms', WHERE WHAT IT READS IS OF BULK AT MOST 1048576: true; the input reads as it did. -/
def rolloutAlarmsUptoRow : OpenClaim := { program := "ytejjemeaponbaaa", sum := "a194fb32e90cfc5e98cdfc264cc0ce118fa058e0d347316da2aef26c5cc59975", func := "faas/faaslaw20.RolloutAlarms", spec := "rolloutAlarms", unfollowed := true, recurses := true, apart := false, narrowed := true }
def RolloutAlarmsUptoSaid : Prop := rolloutAlarmsUptoRow.holds Try.pinned (OpenSpec.upto rolloutAlarmsSpec)

/-- 'faaslaw20.RolloutEnds', WHERE WHAT IT READS IS OF BULK AT MOST 1048576: true; the input reads as it did. -/
def rolloutEndsUptoRow : OpenClaim := { program := "ytejjemeaponbaaa", sum := "a194fb32e90cfc5e98cdfc264cc0ce118fa058e0d347316da2aef26c5cc59975", func := "faas/faaslaw20.RolloutEnds", spec := "rolloutEnds", unfollowed := true, recurses := true, apart := false, narrowed := true }
def RolloutEndsUptoSaid : Prop := rolloutEndsUptoRow.holds Try.pinned (OpenSpec.upto rolloutEndsSpec)

/-- 'faaslaw20.RolloutStaysValid', WHERE WHAT IT READS IS OF BULK AT MOST 1048576: true; the input reads as it did. -/
def rolloutStaysValidUptoRow : OpenClaim := { program := "ytejjemeaponbaaa", sum := "a194fb32e90cfc5e98cdfc264cc0ce118fa058e0d347316da2aef26c5cc59975", func := "faas/faaslaw20.RolloutStaysValid", spec := "rolloutStaysValid", unfollowed := true, recurses := true, apart := false, narrowed := true }
def RolloutStaysValidUptoSaid : Prop := rolloutStaysValidUptoRow.holds Try.pinned (OpenSpec.upto rolloutStaysValidSpec)

end Rows
end Go.Proofs.Ytejjemeaponbaaa
