/-
  DERIVED. GIVEN WITH THE SEED: THE CARDS: each row of YtpomjcndeanjgaaGreatDoorRows.lean that lists a variable, with what it lists TIED to the program's text (the seventh form; the later family's looks); each row that meets fmt, with fmt's text TOLD by the authors' own Lean function (tested against real Go, not proved from fmt's source: count such statements apart). THE CARD IS WHAT COUNTS. Prove the row's statement (the work); the ties are given (YtpomjcndeanjgaaGreatDoorTie.lean); close each card by the builder's one call (the guide's Derived/Test/ToyasCard.lean, 'card_holds'). Laid BY PROGRAM, IN A SANDBOX (cutbox-door.mjs). By AI agents, Wed Nov 11 2026. No macro, syntax, notation, axiom, sorry.
-/
import Derived.Test.YtpomjcndeanjgaaGreatDoorRows
import GoSem.ClaimSeven
namespace Go.Proofs.YtpomjcndeanjgaaGreatDoor
namespace Rows

/-- THE TIED CARD OF 'patchbaylaw14.ExprtextFormats'. -/
def exprtextFormatsCard : Claim7 := { stood := { row := exprtextFormatsRow, standIns := [], harness := (true, "72370ee8070efb28217b76a05e78245f44c35022f61183619bd034a1cdbcf1d5"), looks := false }, kinds := [], alts := [], laidByText := true, laidKinds := [.data, .data, .data], laidTests := true, laidLooks := .later }
def ExprtextFormatsCardSaid : Prop := Claim7.holds Tryz.pinned (.plain (OpenSpec.ofChange exprtextFormatsSpec)) exprtextFormatsCard

/-- THE TIED CARD OF 'patchbaylaw14.ExprtextParses'. -/
def exprtextParsesCard : Claim7 := { stood := { row := exprtextParsesRow, standIns := [], harness := (true, "72370ee8070efb28217b76a05e78245f44c35022f61183619bd034a1cdbcf1d5"), looks := false }, kinds := [], alts := [], laidByText := true, laidKinds := [.data, .data, .data], laidTests := true, laidLooks := .later }
def ExprtextParsesCardSaid : Prop := Claim7.holds Tryz.pinned (.plain (OpenSpec.ofChange exprtextParsesSpec)) exprtextParsesCard

/-- THE SECOND FORM's CARD OF 'patchbaylaw14.ExprtextFormats'. -/
def exprtextFormatsUptoCard : Claim7 := { stood := { row := exprtextFormatsUptoRow, standIns := [], harness := (true, "72370ee8070efb28217b76a05e78245f44c35022f61183619bd034a1cdbcf1d5"), looks := false }, kinds := [], alts := [], laidByText := true, laidKinds := [.data, .data, .data], laidTests := true, laidLooks := .later }
def ExprtextFormatsUptoCardSaid : Prop := Claim7.holds Tryz.pinned (.plain (OpenSpec.upto exprtextFormatsSpec)) exprtextFormatsUptoCard

/-- THE SECOND FORM's CARD OF 'patchbaylaw14.ExprtextParses'. -/
def exprtextParsesUptoCard : Claim7 := { stood := { row := exprtextParsesUptoRow, standIns := [], harness := (true, "72370ee8070efb28217b76a05e78245f44c35022f61183619bd034a1cdbcf1d5"), looks := false }, kinds := [], alts := [], laidByText := true, laidKinds := [.data, .data, .data], laidTests := true, laidLooks := .later }
def ExprtextParsesUptoCardSaid : Prop := Claim7.holds Tryz.pinned (.plain (OpenSpec.upto exprtextParsesSpec)) exprtextParsesUptoCard
end Rows
end Go.Proofs.YtpomjcndeanjgaaGreatDoor
