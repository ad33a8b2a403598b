/-
  DERIVED. GIVEN WITH THE SEED: THE CARDS: each row of YtnddfmbgbgiljaaDoorRows.lean that lists a variable, with what it lists TIED to the program's text (the seventh form; the later family's looks); each row that meets fmt, with fmt's text TOLD by the authors' own Lean function (tested against real Go, not proved from fmt's source: count such statements apart). THE CARD IS WHAT COUNTS. Prove the row's statement (the work); the ties are given (YtnddfmbgbgiljaaDoorTie.lean); close each card by the builder's one call (the guide's Derived/Test/ToyasCard.lean, 'card_holds'). Laid BY PROGRAM, IN A SANDBOX (cutbox-door.mjs). By AI agents, Wed Nov 11 2026. No macro, syntax, notation, axiom, sorry.
-/
import Derived.Test.YtnddfmbgbgiljaaDoorRows
import GoSem.ClaimSeven
namespace Go.Proofs.YtnddfmbgbgiljaaDoor
namespace Rows

/-- THE TIED CARD OF 'patchbaylaw03.NumtextFormats'. -/
def numtextFormatsCard : Claim7 := { stood := { row := numtextFormatsRow, standIns := [], harness := (true, "f079497c564837b49a4d06839c4a67673bf163ffe69121e911d36614f63c0fbf"), looks := false }, kinds := [], alts := [], laidByText := true, laidKinds := [.data, .data, .data], laidTests := true, laidLooks := .later }
def NumtextFormatsCardSaid : Prop := Claim7.holds Tryd.pinned (.plain (OpenSpec.ofChange numtextFormatsSpec)) numtextFormatsCard

/-- THE TIED CARD OF 'patchbaylaw03.NumtextParses'. -/
def numtextParsesCard : Claim7 := { stood := { row := numtextParsesRow, standIns := [], harness := (true, "f079497c564837b49a4d06839c4a67673bf163ffe69121e911d36614f63c0fbf"), looks := false }, kinds := [], alts := [], laidByText := true, laidKinds := [.data, .data, .data], laidTests := true, laidLooks := .later }
def NumtextParsesCardSaid : Prop := Claim7.holds Tryd.pinned (.plain (OpenSpec.ofChange numtextParsesSpec)) numtextParsesCard

/-- THE TIED CARD OF 'patchbaylaw03.NumtextInts'. -/
def numtextIntsCard : Claim7 := { stood := { row := numtextIntsRow, standIns := [], harness := (true, "f079497c564837b49a4d06839c4a67673bf163ffe69121e911d36614f63c0fbf"), looks := false }, kinds := [], alts := [], laidByText := true, laidKinds := [.data, .data, .data], laidTests := true, laidLooks := .later }
def NumtextIntsCardSaid : Prop := Claim7.holds Tryd.pinned (.plain (OpenSpec.ofChange numtextIntsSpec)) numtextIntsCard

/-- THE TIED CARD OF 'patchbaylaw03.NumtextUints'. -/
def numtextUintsCard : Claim7 := { stood := { row := numtextUintsRow, standIns := [], harness := (true, "f079497c564837b49a4d06839c4a67673bf163ffe69121e911d36614f63c0fbf"), looks := false }, kinds := [], alts := [], laidByText := true, laidKinds := [.data, .data, .data], laidTests := true, laidLooks := .later }
def NumtextUintsCardSaid : Prop := Claim7.holds Tryd.pinned (.plain (OpenSpec.ofChange numtextUintsSpec)) numtextUintsCard

/-- THE TIED CARD OF 'patchbaylaw03.NumtextHex'. -/
def numtextHexCard : Claim7 := { stood := { row := numtextHexRow, standIns := [], harness := (true, "f079497c564837b49a4d06839c4a67673bf163ffe69121e911d36614f63c0fbf"), looks := false }, kinds := [], alts := [], laidByText := true, laidKinds := [.data, .data, .data], laidTests := true, laidLooks := .later }
def NumtextHexCardSaid : Prop := Claim7.holds Tryd.pinned (.plain (OpenSpec.ofChange numtextHexSpec)) numtextHexCard

/-- THE TIED CARD OF 'patchbaylaw03.NumtextCanonical'. -/
def numtextCanonicalCard : Claim7 := { stood := { row := numtextCanonicalRow, standIns := [], harness := (true, "f079497c564837b49a4d06839c4a67673bf163ffe69121e911d36614f63c0fbf"), looks := false }, kinds := [], alts := [], laidByText := true, laidKinds := [.data, .data, .data], laidTests := true, laidLooks := .later }
def NumtextCanonicalCardSaid : Prop := Claim7.holds Tryd.pinned (.plain (OpenSpec.ofChange numtextCanonicalSpec)) numtextCanonicalCard

/-- THE SECOND FORM's CARD OF 'patchbaylaw03.NumtextFormats'. -/
def numtextFormatsUptoCard : Claim7 := { stood := { row := numtextFormatsUptoRow, standIns := [], harness := (true, "f079497c564837b49a4d06839c4a67673bf163ffe69121e911d36614f63c0fbf"), looks := false }, kinds := [], alts := [], laidByText := true, laidKinds := [.data, .data, .data], laidTests := true, laidLooks := .later }
def NumtextFormatsUptoCardSaid : Prop := Claim7.holds Tryd.pinned (.plain (OpenSpec.upto numtextFormatsSpec)) numtextFormatsUptoCard

/-- THE SECOND FORM's CARD OF 'patchbaylaw03.NumtextParses'. -/
def numtextParsesUptoCard : Claim7 := { stood := { row := numtextParsesUptoRow, standIns := [], harness := (true, "f079497c564837b49a4d06839c4a67673bf163ffe69121e911d36614f63c0fbf"), looks := false }, kinds := [], alts := [], laidByText := true, laidKinds := [.data, .data, .data], laidTests := true, laidLooks := .later }
def NumtextParsesUptoCardSaid : Prop := Claim7.holds Tryd.pinned (.plain (OpenSpec.upto numtextParsesSpec)) numtextParsesUptoCard

/-- THE SECOND FORM's CARD OF 'patchbaylaw03.NumtextInts'. -/
def numtextIntsUptoCard : Claim7 := { stood := { row := numtextIntsUptoRow, standIns := [], harness := (true, "f079497c564837b49a4d06839c4a67673bf163ffe69121e911d36614f63c0fbf"), looks := false }, kinds := [], alts := [], laidByText := true, laidKinds := [.data, .data, .data], laidTests := true, laidLooks := .later }
def NumtextIntsUptoCardSaid : Prop := Claim7.holds Tryd.pinned (.plain (OpenSpec.upto numtextIntsSpec)) numtextIntsUptoCard

/-- THE SECOND FORM's CARD OF 'patchbaylaw03.NumtextUints'. -/
def numtextUintsUptoCard : Claim7 := { stood := { row := numtextUintsUptoRow, standIns := [], harness := (true, "f079497c564837b49a4d06839c4a67673bf163ffe69121e911d36614f63c0fbf"), looks := false }, kinds := [], alts := [], laidByText := true, laidKinds := [.data, .data, .data], laidTests := true, laidLooks := .later }
def NumtextUintsUptoCardSaid : Prop := Claim7.holds Tryd.pinned (.plain (OpenSpec.upto numtextUintsSpec)) numtextUintsUptoCard

/-- THE SECOND FORM's CARD OF 'patchbaylaw03.NumtextHex'. -/
def numtextHexUptoCard : Claim7 := { stood := { row := numtextHexUptoRow, standIns := [], harness := (true, "f079497c564837b49a4d06839c4a67673bf163ffe69121e911d36614f63c0fbf"), looks := false }, kinds := [], alts := [], laidByText := true, laidKinds := [.data, .data, .data], laidTests := true, laidLooks := .later }
def NumtextHexUptoCardSaid : Prop := Claim7.holds Tryd.pinned (.plain (OpenSpec.upto numtextHexSpec)) numtextHexUptoCard

/-- THE SECOND FORM's CARD OF 'patchbaylaw03.NumtextCanonical'. -/
def numtextCanonicalUptoCard : Claim7 := { stood := { row := numtextCanonicalUptoRow, standIns := [], harness := (true, "f079497c564837b49a4d06839c4a67673bf163ffe69121e911d36614f63c0fbf"), looks := false }, kinds := [], alts := [], laidByText := true, laidKinds := [.data, .data, .data], laidTests := true, laidLooks := .later }
def NumtextCanonicalUptoCardSaid : Prop := Claim7.holds Tryd.pinned (.plain (OpenSpec.upto numtextCanonicalSpec)) numtextCanonicalUptoCard
end Rows
end Go.Proofs.YtnddfmbgbgiljaaDoor
