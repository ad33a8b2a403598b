/-
  DERIVED. GIVEN WITH THE SEED: THE CARDS: each row of YtofjapcgbajmiaaGreatDoorRows.lean that lists a variable, with what it lists TIED to the program's text (the seventh form; the later family's looks); each row that meets fmt, with fmt's text TOLD by the authors' own Lean function (tested against real Go, not proved from fmt's source: count such statements apart). THE CARD IS WHAT COUNTS. Prove the row's statement (the work); the ties are given (YtofjapcgbajmiaaGreatDoorTie.lean); close each card by the builder's one call (the guide's Derived/Test/ToyasCard.lean, 'card_holds'). Laid BY PROGRAM, IN A SANDBOX (cutbox-door.mjs). By AI agents, Wed Nov 11 2026. No macro, syntax, notation, axiom, sorry.
-/
import Derived.Test.YtofjapcgbajmiaaGreatDoorRows
import GoSem.ClaimSeven
namespace Go.Proofs.YtofjapcgbajmiaaGreatDoor
namespace Rows

/-- THE TIED CARD OF 'patchbaylaw29.OptextFormats'. -/
def optextFormatsCard : Claim7 := { stood := { row := optextFormatsRow, standIns := [], harness := (true, "7679cfe0a1a103e27664e3f1bb5b3a8b54c4c62041ff4b789dd0d4ff123c97fd"), looks := true }, kinds := [], alts := [], laidByText := true, laidKinds := [.data, .data, .data, .data, .pinned], laidTests := true, laidLooks := .later }
def OptextFormatsCardSaid : Prop := Claim7.holds Tryz.pinned (.plain (OpenSpec.ofChange optextFormatsSpec)) optextFormatsCard

/-- THE TIED CARD OF 'patchbaylaw29.OptextParses'. -/
def optextParsesCard : Claim7 := { stood := { row := optextParsesRow, standIns := [], harness := (true, "7679cfe0a1a103e27664e3f1bb5b3a8b54c4c62041ff4b789dd0d4ff123c97fd"), looks := true }, kinds := [], alts := [], laidByText := true, laidKinds := [.data, .data, .data, .data, .pinned], laidTests := true, laidLooks := .later }
def OptextParsesCardSaid : Prop := Claim7.holds Tryz.pinned (.plain (OpenSpec.ofChange optextParsesSpec)) optextParsesCard

/-- THE TIED CARD OF 'patchbaylaw29.OptextScripts'. -/
def optextScriptsCard : Claim7 := { stood := { row := optextScriptsRow, standIns := [], harness := (true, "7679cfe0a1a103e27664e3f1bb5b3a8b54c4c62041ff4b789dd0d4ff123c97fd"), looks := true }, kinds := [], alts := [], laidByText := true, laidKinds := [.data, .data, .data, .data, .pinned], laidTests := true, laidLooks := .later }
def OptextScriptsCardSaid : Prop := Claim7.holds Tryz.pinned (.plain (OpenSpec.ofChange optextScriptsSpec)) optextScriptsCard

/-- THE TIED CARD OF 'patchbaylaw29.OptextJoins'. -/
def optextJoinsCard : Claim7 := { stood := { row := optextJoinsRow, standIns := [], harness := (true, "7679cfe0a1a103e27664e3f1bb5b3a8b54c4c62041ff4b789dd0d4ff123c97fd"), looks := true }, kinds := [], alts := [], laidByText := true, laidKinds := [.data, .data, .data, .data, .pinned], laidTests := true, laidLooks := .later }
def OptextJoinsCardSaid : Prop := Claim7.holds Tryz.pinned (.plain (OpenSpec.ofChange optextJoinsSpec)) optextJoinsCard

/-- THE SECOND FORM's CARD OF 'patchbaylaw29.OptextFormats'. -/
def optextFormatsUptoCard : Claim7 := { stood := { row := optextFormatsUptoRow, standIns := [], harness := (true, "7679cfe0a1a103e27664e3f1bb5b3a8b54c4c62041ff4b789dd0d4ff123c97fd"), looks := true }, kinds := [], alts := [], laidByText := true, laidKinds := [.data, .data, .data, .data, .pinned], laidTests := true, laidLooks := .later }
def OptextFormatsUptoCardSaid : Prop := Claim7.holds Tryz.pinned (.plain (OpenSpec.upto optextFormatsSpec)) optextFormatsUptoCard

/-- THE SECOND FORM's CARD OF 'patchbaylaw29.OptextParses'. -/
def optextParsesUptoCard : Claim7 := { stood := { row := optextParsesUptoRow, standIns := [], harness := (true, "7679cfe0a1a103e27664e3f1bb5b3a8b54c4c62041ff4b789dd0d4ff123c97fd"), looks := true }, kinds := [], alts := [], laidByText := true, laidKinds := [.data, .data, .data, .data, .pinned], laidTests := true, laidLooks := .later }
def OptextParsesUptoCardSaid : Prop := Claim7.holds Tryz.pinned (.plain (OpenSpec.upto optextParsesSpec)) optextParsesUptoCard

/-- THE SECOND FORM's CARD OF 'patchbaylaw29.OptextScripts'. -/
def optextScriptsUptoCard : Claim7 := { stood := { row := optextScriptsUptoRow, standIns := [], harness := (true, "7679cfe0a1a103e27664e3f1bb5b3a8b54c4c62041ff4b789dd0d4ff123c97fd"), looks := true }, kinds := [], alts := [], laidByText := true, laidKinds := [.data, .data, .data, .data, .pinned], laidTests := true, laidLooks := .later }
def OptextScriptsUptoCardSaid : Prop := Claim7.holds Tryz.pinned (.plain (OpenSpec.upto optextScriptsSpec)) optextScriptsUptoCard

/-- THE SECOND FORM's CARD OF 'patchbaylaw29.OptextJoins'. -/
def optextJoinsUptoCard : Claim7 := { stood := { row := optextJoinsUptoRow, standIns := [], harness := (true, "7679cfe0a1a103e27664e3f1bb5b3a8b54c4c62041ff4b789dd0d4ff123c97fd"), looks := true }, kinds := [], alts := [], laidByText := true, laidKinds := [.data, .data, .data, .data, .pinned], laidTests := true, laidLooks := .later }
def OptextJoinsUptoCardSaid : Prop := Claim7.holds Tryz.pinned (.plain (OpenSpec.upto optextJoinsSpec)) optextJoinsUptoCard
end Rows
end Go.Proofs.YtofjapcgbajmiaaGreatDoor
