/-
  DERIVED. GIVEN WITH THE SEED: THE CARDS: each row of YtglndfgmlminpaaGreatDoorRows.lean that lists a variable, with what it lists TIED to the program's text (the seventh form; the later family's looks); each row that meets fmt, with fmt's text TOLD by the authors' own Lean function (tested against real Go, not proved from fmt's source: count such statements apart). THE CARD IS WHAT COUNTS. Prove the row's statement (the work); the ties are given (YtglndfgmlminpaaGreatDoorTie.lean); close each card by the builder's one call (the guide's Derived/Test/ToyasCard.lean, 'card_holds'). Laid BY PROGRAM, IN A SANDBOX (cutbox-door.mjs). By AI agents, Wed Nov 11 2026. No macro, syntax, notation, axiom, sorry.
-/
import Derived.Test.YtglndfgmlminpaaGreatDoorRows
import GoSem.ClaimSeven
namespace Go.Proofs.YtglndfgmlminpaaGreatDoor
namespace Rows

/-- THE TIED CARD OF 'faaslaw08.SyntaxParses'. -/
def syntaxParsesCard : Claim7 := { stood := { row := syntaxParsesRow, standIns := [], harness := (true, "a275d6d6ee98114fe4b24dba962c8fee46eee596be2dc1abf74dd6df2d2d3d6a"), looks := true }, kinds := [], alts := [], laidByText := true, laidKinds := [.data, .data, .data, .sentinel, .sentinel], laidTests := true, laidLooks := .later }
def SyntaxParsesCardSaid : Prop := Claim7.holds Tryz.pinned (.plain (OpenSpec.ofChange syntaxParsesSpec)) syntaxParsesCard

/-- THE TIED CARD OF 'faaslaw08.SyntaxPrints'. -/
def syntaxPrintsCard : Claim7 := { stood := { row := syntaxPrintsRow, standIns := [], harness := (true, "a275d6d6ee98114fe4b24dba962c8fee46eee596be2dc1abf74dd6df2d2d3d6a"), looks := true }, kinds := [], alts := [], laidByText := true, laidKinds := [.data, .data, .data, .sentinel, .sentinel], laidTests := true, laidLooks := .later }
def SyntaxPrintsCardSaid : Prop := Claim7.holds Tryz.pinned (.plain (OpenSpec.ofChange syntaxPrintsSpec)) syntaxPrintsCard

/-- THE TIED CARD OF 'faaslaw08.SyntaxLooks'. -/
def syntaxLooksCard : Claim7 := { stood := { row := syntaxLooksRow, standIns := [], harness := (true, "a275d6d6ee98114fe4b24dba962c8fee46eee596be2dc1abf74dd6df2d2d3d6a"), looks := true }, kinds := [], alts := [], laidByText := true, laidKinds := [.data, .data, .data, .sentinel, .sentinel], laidTests := true, laidLooks := .later }
def SyntaxLooksCardSaid : Prop := Claim7.holds Tryz.pinned (.plain (OpenSpec.ofChange syntaxLooksSpec)) syntaxLooksCard

/-- THE TIED CARD OF 'faaslaw08.SyntaxRoundTrips'. -/
def syntaxRoundTripsCard : Claim7 := { stood := { row := syntaxRoundTripsRow, standIns := [], harness := (true, "a275d6d6ee98114fe4b24dba962c8fee46eee596be2dc1abf74dd6df2d2d3d6a"), looks := true }, kinds := [], alts := [], laidByText := true, laidKinds := [.data, .data, .data, .sentinel, .sentinel], laidTests := true, laidLooks := .later }
def SyntaxRoundTripsCardSaid : Prop := Claim7.holds Tryz.pinned (.plain (OpenSpec.ofChange syntaxRoundTripsSpec)) syntaxRoundTripsCard

/-- THE TIED CARD OF 'faaslaw08.SyntaxNormal'. -/
def syntaxNormalCard : Claim7 := { stood := { row := syntaxNormalRow, standIns := [], harness := (true, "a275d6d6ee98114fe4b24dba962c8fee46eee596be2dc1abf74dd6df2d2d3d6a"), looks := true }, kinds := [], alts := [], laidByText := true, laidKinds := [.data, .data, .data, .sentinel, .sentinel], laidTests := true, laidLooks := .later }
def SyntaxNormalCardSaid : Prop := Claim7.holds Tryz.pinned (.plain (OpenSpec.ofChange syntaxNormalSpec)) syntaxNormalCard

/-- THE TIED CARD OF 'faaslaw08.SyntaxBlanks'. -/
def syntaxBlanksCard : Claim7 := { stood := { row := syntaxBlanksRow, standIns := [], harness := (true, "a275d6d6ee98114fe4b24dba962c8fee46eee596be2dc1abf74dd6df2d2d3d6a"), looks := true }, kinds := [], alts := [], laidByText := true, laidKinds := [.data, .data, .data, .sentinel, .sentinel], laidTests := true, laidLooks := .later }
def SyntaxBlanksCardSaid : Prop := Claim7.holds Tryz.pinned (.plain (OpenSpec.ofChange syntaxBlanksSpec)) syntaxBlanksCard

/-- THE SECOND FORM's CARD OF 'faaslaw08.SyntaxParses'. -/
def syntaxParsesUptoCard : Claim7 := { stood := { row := syntaxParsesUptoRow, standIns := [], harness := (true, "a275d6d6ee98114fe4b24dba962c8fee46eee596be2dc1abf74dd6df2d2d3d6a"), looks := true }, kinds := [], alts := [], laidByText := true, laidKinds := [.data, .data, .data, .sentinel, .sentinel], laidTests := true, laidLooks := .later }
def SyntaxParsesUptoCardSaid : Prop := Claim7.holds Tryz.pinned (.plain (OpenSpec.upto syntaxParsesSpec)) syntaxParsesUptoCard

/-- THE SECOND FORM's CARD OF 'faaslaw08.SyntaxPrints'. -/
def syntaxPrintsUptoCard : Claim7 := { stood := { row := syntaxPrintsUptoRow, standIns := [], harness := (true, "a275d6d6ee98114fe4b24dba962c8fee46eee596be2dc1abf74dd6df2d2d3d6a"), looks := true }, kinds := [], alts := [], laidByText := true, laidKinds := [.data, .data, .data, .sentinel, .sentinel], laidTests := true, laidLooks := .later }
def SyntaxPrintsUptoCardSaid : Prop := Claim7.holds Tryz.pinned (.plain (OpenSpec.upto syntaxPrintsSpec)) syntaxPrintsUptoCard

/-- THE SECOND FORM's CARD OF 'faaslaw08.SyntaxLooks'. -/
def syntaxLooksUptoCard : Claim7 := { stood := { row := syntaxLooksUptoRow, standIns := [], harness := (true, "a275d6d6ee98114fe4b24dba962c8fee46eee596be2dc1abf74dd6df2d2d3d6a"), looks := true }, kinds := [], alts := [], laidByText := true, laidKinds := [.data, .data, .data, .sentinel, .sentinel], laidTests := true, laidLooks := .later }
def SyntaxLooksUptoCardSaid : Prop := Claim7.holds Tryz.pinned (.plain (OpenSpec.upto syntaxLooksSpec)) syntaxLooksUptoCard

/-- THE SECOND FORM's CARD OF 'faaslaw08.SyntaxRoundTrips'. -/
def syntaxRoundTripsUptoCard : Claim7 := { stood := { row := syntaxRoundTripsUptoRow, standIns := [], harness := (true, "a275d6d6ee98114fe4b24dba962c8fee46eee596be2dc1abf74dd6df2d2d3d6a"), looks := true }, kinds := [], alts := [], laidByText := true, laidKinds := [.data, .data, .data, .sentinel, .sentinel], laidTests := true, laidLooks := .later }
def SyntaxRoundTripsUptoCardSaid : Prop := Claim7.holds Tryz.pinned (.plain (OpenSpec.upto syntaxRoundTripsSpec)) syntaxRoundTripsUptoCard

/-- THE SECOND FORM's CARD OF 'faaslaw08.SyntaxNormal'. -/
def syntaxNormalUptoCard : Claim7 := { stood := { row := syntaxNormalUptoRow, standIns := [], harness := (true, "a275d6d6ee98114fe4b24dba962c8fee46eee596be2dc1abf74dd6df2d2d3d6a"), looks := true }, kinds := [], alts := [], laidByText := true, laidKinds := [.data, .data, .data, .sentinel, .sentinel], laidTests := true, laidLooks := .later }
def SyntaxNormalUptoCardSaid : Prop := Claim7.holds Tryz.pinned (.plain (OpenSpec.upto syntaxNormalSpec)) syntaxNormalUptoCard

/-- THE SECOND FORM's CARD OF 'faaslaw08.SyntaxBlanks'. -/
def syntaxBlanksUptoCard : Claim7 := { stood := { row := syntaxBlanksUptoRow, standIns := [], harness := (true, "a275d6d6ee98114fe4b24dba962c8fee46eee596be2dc1abf74dd6df2d2d3d6a"), looks := true }, kinds := [], alts := [], laidByText := true, laidKinds := [.data, .data, .data, .sentinel, .sentinel], laidTests := true, laidLooks := .later }
def SyntaxBlanksUptoCardSaid : Prop := Claim7.holds Tryz.pinned (.plain (OpenSpec.upto syntaxBlanksSpec)) syntaxBlanksUptoCard
end Rows
end Go.Proofs.YtglndfgmlminpaaGreatDoor
