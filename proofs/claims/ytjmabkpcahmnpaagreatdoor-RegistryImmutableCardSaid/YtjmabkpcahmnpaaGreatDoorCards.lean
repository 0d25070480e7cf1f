/-
  DERIVED. GIVEN WITH THE SEED: THE CARDS: each row of YtjmabkpcahmnpaaGreatDoorRows.lean that lists a variable, with what it lists TIED to the program's text (the seventh form; the later family's looks); each row that meets fmt, with fmt's text TOLD by the authors' own Lean function (tested against real Go, not proved from fmt's source: count such statements apart). THE CARD IS WHAT COUNTS. Prove the row's statement (the work); the ties are given (YtjmabkpcahmnpaaGreatDoorTie.lean); close each card by the builder's one call (the guide's Derived/Test/ToyasCard.lean, 'card_holds'). Laid BY PROGRAM, IN A SANDBOX (cutbox-door.mjs). By AI agents, Wed Nov 11 2026. No macro, syntax, notation, axiom, sorry.
-/
import Derived.Test.YtjmabkpcahmnpaaGreatDoorRows
import GoSem.ClaimSeven
namespace Go.Proofs.YtjmabkpcahmnpaaGreatDoor
namespace Rows

/-- THE TIED CARD OF 'faaslaw16.RegistryNil'. -/
def registryNilCard : Claim7 := { stood := { row := registryNilRow, standIns := [], harness := (true, "551b74de4baf99fc6107600c9a4380776501c3a60a10f536a47650cae19083d5"), looks := true }, kinds := [], alts := [], laidByText := true, laidKinds := [.data, .data, .data, .sentinel, .sentinel, .data], laidTests := true, laidLooks := .later }
def RegistryNilCardSaid : Prop := Claim7.holds Tryz.pinned (.plain (OpenSpec.ofChange registryNilSpec)) registryNilCard

/-- THE TIED CARD OF 'faaslaw16.RegistryImmutable'. -/
def registryImmutableCard : Claim7 := { stood := { row := registryImmutableRow, standIns := [], harness := (true, "551b74de4baf99fc6107600c9a4380776501c3a60a10f536a47650cae19083d5"), looks := true }, kinds := [], alts := [], laidByText := true, laidKinds := [.data, .data, .data, .sentinel, .sentinel], laidTests := true, laidLooks := .later }
def RegistryImmutableCardSaid : Prop := Claim7.holds Tryz.pinned (.plain (OpenSpec.ofChange registryImmutableSpec)) registryImmutableCard

/-- THE TIED CARD OF 'faaslaw16.RegistryRepeats'. -/
def registryRepeatsCard : Claim7 := { stood := { row := registryRepeatsRow, standIns := [], harness := (true, "551b74de4baf99fc6107600c9a4380776501c3a60a10f536a47650cae19083d5"), looks := true }, kinds := [], alts := [], laidByText := true, laidKinds := [.data, .data, .data, .sentinel, .sentinel], laidTests := true, laidLooks := .later }
def RegistryRepeatsCardSaid : Prop := Claim7.holds Tryz.pinned (.plain (OpenSpec.ofChange registryRepeatsSpec)) registryRepeatsCard

/-- THE SECOND FORM's CARD OF 'faaslaw16.RegistryNil'. -/
def registryNilUptoCard : Claim7 := { stood := { row := registryNilUptoRow, standIns := [], harness := (true, "551b74de4baf99fc6107600c9a4380776501c3a60a10f536a47650cae19083d5"), looks := true }, kinds := [], alts := [], laidByText := true, laidKinds := [.data, .data, .data, .sentinel, .sentinel, .data], laidTests := true, laidLooks := .later }
def RegistryNilUptoCardSaid : Prop := Claim7.holds Tryz.pinned (.plain (OpenSpec.upto registryNilSpec)) registryNilUptoCard

/-- THE SECOND FORM's CARD OF 'faaslaw16.RegistryImmutable'. -/
def registryImmutableUptoCard : Claim7 := { stood := { row := registryImmutableUptoRow, standIns := [], harness := (true, "551b74de4baf99fc6107600c9a4380776501c3a60a10f536a47650cae19083d5"), looks := true }, kinds := [], alts := [], laidByText := true, laidKinds := [.data, .data, .data, .sentinel, .sentinel], laidTests := true, laidLooks := .later }
def RegistryImmutableUptoCardSaid : Prop := Claim7.holds Tryz.pinned (.plain (OpenSpec.upto registryImmutableSpec)) registryImmutableUptoCard

/-- THE SECOND FORM's CARD OF 'faaslaw16.RegistryRepeats'. -/
def registryRepeatsUptoCard : Claim7 := { stood := { row := registryRepeatsUptoRow, standIns := [], harness := (true, "551b74de4baf99fc6107600c9a4380776501c3a60a10f536a47650cae19083d5"), looks := true }, kinds := [], alts := [], laidByText := true, laidKinds := [.data, .data, .data, .sentinel, .sentinel], laidTests := true, laidLooks := .later }
def RegistryRepeatsUptoCardSaid : Prop := Claim7.holds Tryz.pinned (.plain (OpenSpec.upto registryRepeatsSpec)) registryRepeatsUptoCard
end Rows
end Go.Proofs.YtjmabkpcahmnpaaGreatDoor
