/-
  DERIVED. GIVEN WITH THE SEED: THE CARDS: each row of YtdccglkagfdooaaGreatDoorRows.lean that lists a variable, with what it lists TIED to the program's text (the seventh form; the later family's looks); each row that meets fmt, with fmt's text TOLD by the authors' own Lean function (tested against real Go, not proved from fmt's source: count such statements apart). THE CARD IS WHAT COUNTS. Prove the row's statement (the work); the ties are given (YtdccglkagfdooaaGreatDoorTie.lean); close each card by the builder's one call (the guide's Derived/Test/ToyasCard.lean, 'card_holds'). Laid BY PROGRAM, IN A SANDBOX (cutbox-door.mjs). By AI agents, Wed Nov 11 2026. No macro, syntax, notation, axiom, sorry.
-/
import Derived.Test.YtdccglkagfdooaaGreatDoorRows
import GoSem.ClaimSeven
namespace Go.Proofs.YtdccglkagfdooaaGreatDoor
namespace Rows

/-- THE TIED CARD OF 'faaslaw15.BundleDiffers'. -/
def bundleDiffersCard : Claim7 := { stood := { row := bundleDiffersRow, standIns := [], harness := (true, "6477fd8880cf0ce72dccf9602b033691b47bad80e0901d023cb934d9486f3711"), looks := true }, kinds := [], alts := [], laidByText := true, laidKinds := [.data, .data, .data, .data, .sentinel, .sentinel, .data, .pinned], laidTests := true, laidLooks := .later }
def BundleDiffersCardSaid : Prop := Claim7.holds Tryz.pinned (.plain (OpenSpec.ofChange bundleDiffersSpec)) bundleDiffersCard

/-- THE SECOND FORM's CARD OF 'faaslaw15.BundleDiffers'. -/
def bundleDiffersUptoCard : Claim7 := { stood := { row := bundleDiffersUptoRow, standIns := [], harness := (true, "6477fd8880cf0ce72dccf9602b033691b47bad80e0901d023cb934d9486f3711"), looks := true }, kinds := [], alts := [], laidByText := true, laidKinds := [.data, .data, .data, .data, .sentinel, .sentinel, .data, .pinned], laidTests := true, laidLooks := .later }
def BundleDiffersUptoCardSaid : Prop := Claim7.holds Tryz.pinned (.plain (OpenSpec.upto bundleDiffersSpec)) bundleDiffersUptoCard
end Rows
end Go.Proofs.YtdccglkagfdooaaGreatDoor
