/-
  No cell of these rows narrows 'for every input' (looked for: loops, veiled, ifaces, maps, wideKeys, modest, calm, conditions, laid).
  DERIVED. THE GIVEN ROWS OF THIS SEAT. 5 by the template 'for every input the law returns true; each argument reads behind the call as it read before'; 0 by the template 'total and deterministic' (their statements: YtffecbepmlaekaaTotals.lean).
  GIVEN WITH THE SEED: the statements are not yours to turn. If you find one false, say at which input.
  Laid BY PROGRAM, IN A SANDBOX (cutbox-rows.mjs): the forced cells as the released guide's own fill.sh prints them over the translation 96ce9a061f4bdb37… (all of the seat's roots in one cut). By AI agents, Wed Nov 11 2026. No macro, syntax, notation, axiom, sorry.
-/
import Derived.Test.YtffecbepmlaekaaChecked
import GoSem.Claim
import GoSem.ClaimJoined
import GoSem.ClaimMapViews
import Derived.JoinedTies
import Derived.KernelRfl
namespace Go.Proofs.Ytffecbepmlaekaa
/- THE CELL 'sum', in the pinned program and in every row, IS THE sha256 OF THE DUMP (.gsa) THAT YtffecbepmlaekaaProg.lean LOADS. Nothing in Lean hashes anything: it is a label: what it is worth is what the hold of that sum in a sandbox is worth. -/
noncomputable def Try.pinned : Pinned := { name := "ytffecbepmlaekaa", sum := "96ce9a061f4bdb3706aa392e2ee059126fe55f40162da4c98bc4fad079b2a182", checked := Try.checked }
namespace Rows
def none {H : Type} : Left H := { results := [], args := [] }

/-- 'faaslaw17.AliasChecks': WHATEVER THE INPUT: true; the input reads as it did. -/
def aliasChecksSpec : ChangeSpec := { name := "aliasChecks", fn := fun _ => fun
  | [d1, d2] => { results := [.lit (.bool true)], args := [d1, d2] }
  | _ => none }
def aliasChecksRow : OpenClaim := { program := "ytffecbepmlaekaa", sum := "96ce9a061f4bdb3706aa392e2ee059126fe55f40162da4c98bc4fad079b2a182", func := "faas/faaslaw17.AliasChecks", spec := "aliasChecks", unfollowed := true, recurses := true, apart := false }
def AliasChecksSaid : Prop := aliasChecksRow.holds Try.pinned (OpenSpec.ofChange aliasChecksSpec)

/-- ITS FALSE NEIGHBOUR: 'it returns false'. Refute it at one input. -/
def aliasChecksWrong : ChangeSpec := { name := "aliasChecks", fn := fun _ => fun
  | [d1, d2] => { results := [.lit (.bool false)], args := [d1, d2] }
  | _ => none }
def AliasChecksWrongFalsely : Prop := aliasChecksRow.holds Try.pinned (OpenSpec.ofChange aliasChecksWrong)

/-- 'faaslaw17.AliasPicks': WHATEVER THE INPUT: true; the input reads as it did. -/
def aliasPicksSpec : ChangeSpec := { name := "aliasPicks", fn := fun _ => fun
  | [d1, d2] => { results := [.lit (.bool true)], args := [d1, d2] }
  | _ => none }
def aliasPicksRow : OpenClaim := { program := "ytffecbepmlaekaa", sum := "96ce9a061f4bdb3706aa392e2ee059126fe55f40162da4c98bc4fad079b2a182", func := "faas/faaslaw17.AliasPicks", spec := "aliasPicks", unfollowed := true, recurses := true, apart := false }
def AliasPicksSaid : Prop := aliasPicksRow.holds Try.pinned (OpenSpec.ofChange aliasPicksSpec)

/-- ITS FALSE NEIGHBOUR: 'it returns false'. Refute it at one input. -/
def aliasPicksWrong : ChangeSpec := { name := "aliasPicks", fn := fun _ => fun
  | [d1, d2] => { results := [.lit (.bool false)], args := [d1, d2] }
  | _ => none }
def AliasPicksWrongFalsely : Prop := aliasPicksRow.holds Try.pinned (OpenSpec.ofChange aliasPicksWrong)

/-- 'faaslaw17.AliasMoves': WHATEVER THE INPUT: true; the input reads as it did. -/
def aliasMovesSpec : ChangeSpec := { name := "aliasMoves", fn := fun _ => fun
  | [d1, d2, d3] => { results := [.lit (.bool true)], args := [d1, d2, d3] }
  | _ => none }
def aliasMovesRow : OpenClaim := { program := "ytffecbepmlaekaa", sum := "96ce9a061f4bdb3706aa392e2ee059126fe55f40162da4c98bc4fad079b2a182", func := "faas/faaslaw17.AliasMoves", spec := "aliasMoves", unfollowed := true, recurses := true, apart := false }
def AliasMovesSaid : Prop := aliasMovesRow.holds Try.pinned (OpenSpec.ofChange aliasMovesSpec)

/-- ITS FALSE NEIGHBOUR: 'it returns false'. Refute it at one input. -/
def aliasMovesWrong : ChangeSpec := { name := "aliasMoves", fn := fun _ => fun
  | [d1, d2, d3] => { results := [.lit (.bool false)], args := [d1, d2, d3] }
  | _ => none }
def AliasMovesWrongFalsely : Prop := aliasMovesRow.holds Try.pinned (OpenSpec.ofChange aliasMovesWrong)

/-- 'faaslaw17.AliasShiftsMonotonically': WHATEVER THE INPUT: true; the input reads as it did. -/
def aliasShiftsMonotonicallySpec : ChangeSpec := { name := "aliasShiftsMonotonically", fn := fun _ => fun
  | [d1, d2, d3, d4] => { results := [.lit (.bool true)], args := [d1, d2, d3, d4] }
  | _ => none }
def aliasShiftsMonotonicallyRow : OpenClaim := { program := "ytffecbepmlaekaa", sum := "96ce9a061f4bdb3706aa392e2ee059126fe55f40162da4c98bc4fad079b2a182", func := "faas/faaslaw17.AliasShiftsMonotonically", spec := "aliasShiftsMonotonically", unfollowed := true, recurses := true, apart := false }
def AliasShiftsMonotonicallySaid : Prop := aliasShiftsMonotonicallyRow.holds Try.pinned (OpenSpec.ofChange aliasShiftsMonotonicallySpec)

/-- ITS FALSE NEIGHBOUR: 'it returns false'. Refute it at one input. -/
def aliasShiftsMonotonicallyWrong : ChangeSpec := { name := "aliasShiftsMonotonically", fn := fun _ => fun
  | [d1, d2, d3, d4] => { results := [.lit (.bool false)], args := [d1, d2, d3, d4] }
  | _ => none }
def AliasShiftsMonotonicallyWrongFalsely : Prop := aliasShiftsMonotonicallyRow.holds Try.pinned (OpenSpec.ofChange aliasShiftsMonotonicallyWrong)

/-- 'faaslaw17.AliasEnds': WHATEVER THE INPUT: true; the input reads as it did. -/
def aliasEndsSpec : ChangeSpec := { name := "aliasEnds", fn := fun _ => fun
  | [d1, d2, d3] => { results := [.lit (.bool true)], args := [d1, d2, d3] }
  | _ => none }
def aliasEndsRow : OpenClaim := { program := "ytffecbepmlaekaa", sum := "96ce9a061f4bdb3706aa392e2ee059126fe55f40162da4c98bc4fad079b2a182", func := "faas/faaslaw17.AliasEnds", spec := "aliasEnds", unfollowed := true, recurses := true, apart := false }
def AliasEndsSaid : Prop := aliasEndsRow.holds Try.pinned (OpenSpec.ofChange aliasEndsSpec)

/-- ITS FALSE NEIGHBOUR: 'it returns false'. Refute it at one input. -/
def aliasEndsWrong : ChangeSpec := { name := "aliasEnds", fn := fun _ => fun
  | [d1, d2, d3] => { results := [.lit (.bool false)], args := [d1, d2, d3] }
  | _ => none }
def AliasEndsWrongFalsely : Prop := aliasEndsRow.holds Try.pinned (OpenSpec.ofChange aliasEndsWrong)

/- THE SECOND FORM. 'bulk': how many values and letters a reading holds, each counted each time it is reached (what is shared counts as often as it is met; a slice's spare places count too). A statement '..UptoSaid' is the law's where the arguments, and the package variables that the reading takes, are together of bulk at most 1048576: NARROWER than '..Said'. Prove '..Said' where nothing that the law and all that it calls make is longer than what came in: it says more and counts as full. Else prove '..UptoSaid'. A law counts once. -/
mutual
def uptoBulk {H : Type} : DataW H → Nat
  | .lit (.string bytes) => bytes.length + 1
  | .lit _ => 1
  | .nil => 1
  | .ptr d => uptoBulk d + 1
  | .slice elems spare => uptoBulkAll elems + uptoBulkAll spare + 1
  | .agg parts => uptoBulkAll parts + 1
  | .iface _ d => uptoBulk d + 1
  | .map entries => uptoBulkEntries entries + 1
  | .held _ => 1
def uptoBulkAll {H : Type} : List (DataW H) → Nat
  | [] => 0
  | d :: r => uptoBulk d + uptoBulkAll r
def uptoBulkEntries {H : Type} : List (Lit × DataW H) → Nat
  | [] => 0
  | x :: r => uptoBulkEntry x + uptoBulkEntries r
def uptoBulkEntry {H : Type} : Lit × DataW H → Nat
  | (.string bytes, d) => bytes.length + uptoBulk d + 1
  | (_, d) => uptoBulk d + 1
 end
def uptoSmall : (H : Type) → List (DataW H) → Bool := fun _ ds => decide (uptoBulkAll ds ≤ 1048576)
def OpenSpec.upto (s : _root_.Go.ChangeSpec) : _root_.Go.OpenSpec := { _root_.Go.OpenSpec.ofChange s with cond := some uptoSmall }

/-- 'faaslaw17.AliasChecks', WHERE WHAT IT READS IS OF BULK AT MOST 1048576: true; the input reads as it did. -/
def aliasChecksUptoRow : OpenClaim := { program := "ytffecbepmlaekaa", sum := "96ce9a061f4bdb3706aa392e2ee059126fe55f40162da4c98bc4fad079b2a182", func := "faas/faaslaw17.AliasChecks", spec := "aliasChecks", unfollowed := true, recurses := true, apart := false, narrowed := true }
def AliasChecksUptoSaid : Prop := aliasChecksUptoRow.holds Try.pinned (OpenSpec.upto aliasChecksSpec)

/-- 'faaslaw17.AliasPicks', WHERE WHAT IT READS IS OF BULK AT MOST 1048576: true; the input reads as it did. -/
def aliasPicksUptoRow : OpenClaim := { program := "ytffecbepmlaekaa", sum := "96ce9a061f4bdb3706aa392e2ee059126fe55f40162da4c98bc4fad079b2a182", func := "faas/faaslaw17.AliasPicks", spec := "aliasPicks", unfollowed := true, recurses := true, apart := false, narrowed := true }
def AliasPicksUptoSaid : Prop := aliasPicksUptoRow.holds Try.pinned (OpenSpec.upto aliasPicksSpec)

/-- 'faaslaw17.AliasMoves', WHERE WHAT IT READS IS OF BULK AT MOST 1048576: true; the input reads as it did. -/
def aliasMovesUptoRow : OpenClaim := { program := "ytffecbepmlaekaa", sum := "96ce9a061f4bdb3706aa392e2ee059126fe55f40162da4c98bc4fad079b2a182", func := "faas/faaslaw17.AliasMoves", spec := "aliasMoves", unfollowed := true, recurses := true, apart := false, narrowed := true }
def AliasMovesUptoSaid : Prop := aliasMovesUptoRow.holds Try.pinned (OpenSpec.upto aliasMovesSpec)

/-- 'faaslaw17.AliasShiftsMonotonically', WHERE WHAT IT READS IS OF BULK AT MOST 1048576: true; the input reads as it did. -/
def aliasShiftsMonotonicallyUptoRow : OpenClaim := { program := "ytffecbepmlaekaa", sum := "96ce9a061f4bdb3706aa392e2ee059126fe55f40162da4c98bc4fad079b2a182", func := "faas/faaslaw17.AliasShiftsMonotonically", spec := "aliasShiftsMonotonically", unfollowed := true, recurses := true, apart := false, narrowed := true }
def AliasShiftsMonotonicallyUptoSaid : Prop := aliasShiftsMonotonicallyUptoRow.holds Try.pinned (OpenSpec.upto aliasShiftsMonotonicallySpec)

/-- 'faaslaw17.AliasEnds', WHERE WHAT IT READS IS OF BULK AT MOST 1048576: true; the input reads as it did. -/
def aliasEndsUptoRow : OpenClaim := { program := "ytffecbepmlaekaa", sum := "96ce9a061f4bdb3706aa392e2ee059126fe55f40162da4c98bc4fad079b2a182", func := "faas/faaslaw17.AliasEnds", spec := "aliasEnds", unfollowed := true, recurses := true, apart := false, narrowed := true }
def AliasEndsUptoSaid : Prop := aliasEndsUptoRow.holds Try.pinned (OpenSpec.upto aliasEndsSpec)

end Rows
end Go.Proofs.Ytffecbepmlaekaa
