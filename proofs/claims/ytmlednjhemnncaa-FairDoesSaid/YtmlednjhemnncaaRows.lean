/-
  No cell of these rows narrows 'for every input' (looked for: loops, veiled, ifaces, maps, wideKeys, modest, calm, conditions, laid).
  DERIVED. THE GIVEN ROWS OF THIS SEAT. 4 by the template 'for every input the law returns true; each argument reads behind the call as it read before'; 0 by the template 'total and deterministic' (their statements: YtmlednjhemnncaaTotals.lean).
  GIVEN WITH THE SEED: the statements are not yours to turn. If you find one false, say at which input.
  Laid BY PROGRAM, IN A SANDBOX (cutbox-rows.mjs): the forced cells as the released guide's own fill.sh prints them over the translation 016ab7fd246127b9… (all of the seat's roots in one cut). By AI agents, Wed Nov 11 2026. No macro, syntax, notation, axiom, sorry.
-/
import Derived.Test.YtmlednjhemnncaaChecked
import GoSem.Claim
import GoSem.ClaimJoined
import GoSem.ClaimMapViews
import Derived.JoinedTies
import Derived.KernelRfl
namespace Go.Proofs.Ytmlednjhemnncaa
/- THE CELL 'sum', in the pinned program and in every row, IS THE sha256 OF THE DUMP (.gsa) THAT YtmlednjhemnncaaProg.lean LOADS. Nothing in Lean hashes anything: it is a label: what it is worth is what the hold of that sum in a sandbox is worth. -/
noncomputable def Try.pinned : Pinned := { name := "ytmlednjhemnncaa", sum := "016ab7fd246127b988675d66a0a4331afa532f7163b6cfc7456e0a74e37ad257", checked := Try.checked }
namespace Rows
def none {H : Type} : Left H := { results := [], args := [] }

/-- 'faaslaw41.FairDoes': WHATEVER THE INPUT: true; the input reads as it did. -/
def fairDoesSpec : ChangeSpec := { name := "fairDoes", fn := fun _ => fun
  | [d] => { results := [.lit (.bool true)], args := [d] }
  | _ => none }
def fairDoesRow : OpenClaim := { program := "ytmlednjhemnncaa", sum := "016ab7fd246127b988675d66a0a4331afa532f7163b6cfc7456e0a74e37ad257", func := "faas/faaslaw41.FairDoes", spec := "fairDoes", unfollowed := true, recurses := true, apart := false }
def FairDoesSaid : Prop := fairDoesRow.holds Try.pinned (OpenSpec.ofChange fairDoesSpec)

/-- ITS FALSE NEIGHBOUR: 'it returns false'. Refute it at one input. -/
def fairDoesWrong : ChangeSpec := { name := "fairDoes", fn := fun _ => fun
  | [d] => { results := [.lit (.bool false)], args := [d] }
  | _ => none }
def FairDoesWrongFalsely : Prop := fairDoesRow.holds Try.pinned (OpenSpec.ofChange fairDoesWrong)

/-- 'faaslaw41.FairNone': WHATEVER THE INPUT: true; the input reads as it did. -/
def fairNoneSpec : ChangeSpec := { name := "fairNone", fn := fun _ => fun
  | [d1, d2] => { results := [.lit (.bool true)], args := [d1, d2] }
  | _ => none }
def fairNoneRow : OpenClaim := { program := "ytmlednjhemnncaa", sum := "016ab7fd246127b988675d66a0a4331afa532f7163b6cfc7456e0a74e37ad257", func := "faas/faaslaw41.FairNone", spec := "fairNone", unfollowed := true, recurses := true, apart := false }
def FairNoneSaid : Prop := fairNoneRow.holds Try.pinned (OpenSpec.ofChange fairNoneSpec)

/-- ITS FALSE NEIGHBOUR: 'it returns false'. Refute it at one input. -/
def fairNoneWrong : ChangeSpec := { name := "fairNone", fn := fun _ => fun
  | [d1, d2] => { results := [.lit (.bool false)], args := [d1, d2] }
  | _ => none }
def FairNoneWrongFalsely : Prop := fairNoneRow.holds Try.pinned (OpenSpec.ofChange fairNoneWrong)

/-- 'faaslaw41.FairBounds': WHATEVER THE INPUT: true; the input reads as it did. -/
def fairBoundsSpec : ChangeSpec := { name := "fairBounds", fn := fun _ => fun
  | [d] => { results := [.lit (.bool true)], args := [d] }
  | _ => none }
def fairBoundsRow : OpenClaim := { program := "ytmlednjhemnncaa", sum := "016ab7fd246127b988675d66a0a4331afa532f7163b6cfc7456e0a74e37ad257", func := "faas/faaslaw41.FairBounds", spec := "fairBounds", unfollowed := true, recurses := true, apart := false }
def FairBoundsSaid : Prop := fairBoundsRow.holds Try.pinned (OpenSpec.ofChange fairBoundsSpec)

/-- ITS FALSE NEIGHBOUR: 'it returns false'. Refute it at one input. -/
def fairBoundsWrong : ChangeSpec := { name := "fairBounds", fn := fun _ => fun
  | [d] => { results := [.lit (.bool false)], args := [d] }
  | _ => none }
def FairBoundsWrongFalsely : Prop := fairBoundsRow.holds Try.pinned (OpenSpec.ofChange fairBoundsWrong)

/-- 'faaslaw41.FairKeeps': WHATEVER THE INPUT: true; the input reads as it did. -/
def fairKeepsSpec : ChangeSpec := { name := "fairKeeps", fn := fun _ => fun
  | [d] => { results := [.lit (.bool true)], args := [d] }
  | _ => none }
def fairKeepsRow : OpenClaim := { program := "ytmlednjhemnncaa", sum := "016ab7fd246127b988675d66a0a4331afa532f7163b6cfc7456e0a74e37ad257", func := "faas/faaslaw41.FairKeeps", spec := "fairKeeps", unfollowed := true, recurses := true, apart := false }
def FairKeepsSaid : Prop := fairKeepsRow.holds Try.pinned (OpenSpec.ofChange fairKeepsSpec)

/-- ITS FALSE NEIGHBOUR: 'it returns false'. Refute it at one input. -/
def fairKeepsWrong : ChangeSpec := { name := "fairKeeps", fn := fun _ => fun
  | [d] => { results := [.lit (.bool false)], args := [d] }
  | _ => none }
def FairKeepsWrongFalsely : Prop := fairKeepsRow.holds Try.pinned (OpenSpec.ofChange fairKeepsWrong)

/- THE SECOND FORM. 'bulk': how many values and letters a reading holds, each counted each time it is reached (what is shared counts as often as it is met; a slice's spare places count too). A statement '..UptoSaid' is the law's where the arguments, and the package variables that the reading takes, are together of bulk at most 1048576: NARROWER than '..Said'. Prove '..Said' where nothing that the law and all that it calls make is longer than what came in: it says more and counts as full. Else prove '..UptoSaid'. A law counts once. -/
mutual
def uptoBulk {H : Type} : DataW H → Nat
  | .lit (.string bytes) => bytes.length + 1
  | .lit _ => 1
  | .nil => 1
  | .ptr d => uptoBulk d + 1
  | .slice elems spare => uptoBulkAll elems + uptoBulkAll spare + 1
  | .agg parts => uptoBulkAll parts + 1
  | .iface _ d => uptoBulk d + 1
  | .map entries => uptoBulkEntries entries + 1
  | .held _ => 1
def uptoBulkAll {H : Type} : List (DataW H) → Nat
  | [] => 0
  | d :: r => uptoBulk d + uptoBulkAll r
def uptoBulkEntries {H : Type} : List (Lit × DataW H) → Nat
  | [] => 0
  | x :: r => uptoBulkEntry x + uptoBulkEntries r
def uptoBulkEntry {H : Type} : Lit × DataW H → Nat
  | (.string bytes, d) => bytes.length + uptoBulk d + 1
  | (_, d) => uptoBulk d + 1
 end
def uptoSmall : (H : Type) → List (DataW H) → Bool := fun _ ds => decide (uptoBulkAll ds ≤ 1048576)
def OpenSpec.upto (s : _root_.Go.ChangeSpec) : _root_.Go.OpenSpec := { _root_.Go.OpenSpec.ofChange s with cond := some uptoSmall }

/-- 'faaslaw41.FairDoes', WHERE WHAT IT READS IS OF BULK AT MOST 1048576: true; the input reads as it did. -/
def fairDoesUptoRow : OpenClaim := { program := "ytmlednjhemnncaa", sum := "016ab7fd246127b988675d66a0a4331afa532f7163b6cfc7456e0a74e37ad257", func := "faas/faaslaw41.FairDoes", spec := "fairDoes", unfollowed := true, recurses := true, apart := false, narrowed := true }
def FairDoesUptoSaid : Prop := fairDoesUptoRow.holds Try.pinned (OpenSpec.upto fairDoesSpec)

/-- 'faaslaw41.FairNone', WHERE WHAT IT READS IS OF BULK AT MOST 1048576: true; the input reads as it did. -/
def fairNoneUptoRow : OpenClaim := { program := "ytmlednjhemnncaa", sum := "016ab7fd246127b988675d66a0a4331afa532f7163b6cfc7456e0a74e37ad257", func := "faas/faaslaw41.FairNone", spec := "fairNone", unfollowed := true, recurses := true, apart := false, narrowed := true }
def FairNoneUptoSaid : Prop := fairNoneUptoRow.holds Try.pinned (OpenSpec.upto fairNoneSpec)

/-- 'faaslaw41.FairBounds', WHERE WHAT IT READS IS OF BULK AT MOST 1048576: true; the input reads as it did. -/
def fairBoundsUptoRow : OpenClaim := { program := "ytmlednjhemnncaa", sum := "016ab7fd246127b988675d66a0a4331afa532f7163b6cfc7456e0a74e37ad257", func := "faas/faaslaw41.FairBounds", spec := "fairBounds", unfollowed := true, recurses := true, apart := false, narrowed := true }
def FairBoundsUptoSaid : Prop := fairBoundsUptoRow.holds Try.pinned (OpenSpec.upto fairBoundsSpec)

/-- 'faaslaw41.FairKeeps', WHERE WHAT IT READS IS OF BULK AT MOST 1048576: true; the input reads as it did. -/
def fairKeepsUptoRow : OpenClaim := { program := "ytmlednjhemnncaa", sum := "016ab7fd246127b988675d66a0a4331afa532f7163b6cfc7456e0a74e37ad257", func := "faas/faaslaw41.FairKeeps", spec := "fairKeeps", unfollowed := true, recurses := true, apart := false, narrowed := true }
def FairKeepsUptoSaid : Prop := fairKeepsUptoRow.holds Try.pinned (OpenSpec.upto fairKeepsSpec)

end Rows
end Go.Proofs.Ytmlednjhemnncaa
