/-
  No cell of these rows narrows 'for every input' (looked for: loops, veiled, ifaces, maps, wideKeys, modest, calm, conditions, laid).
  DERIVED. THE GIVEN ROWS OF THIS SEAT. 5 by the template 'for every input the law returns true; each argument reads behind the call as it read before'; 0 by the template 'total and deterministic' (their statements: YtnddfmbgbgiljaaTotals.lean).
  GIVEN WITH THE SEED: the statements are not yours to turn. If you find one false, say at which input.
  Laid BY PROGRAM, IN A SANDBOX (cutbox-rows.mjs): the forced cells as the released guide's own fill.sh prints them over the translation 8e5409148340affc… (all of the seat's roots in one cut). By AI agents, Wed Nov 11 2026. No macro, syntax, notation, axiom, sorry.
-/
import Derived.Test.YtnddfmbgbgiljaaChecked
import GoSem.Claim
import GoSem.ClaimJoined
import GoSem.ClaimMapViews
import Derived.JoinedTies
import Derived.KernelRfl
namespace Go.Proofs.Ytnddfmbgbgiljaa
/- THE CELL 'sum', in the pinned program and in every row, IS THE sha256 OF THE DUMP (.gsa) THAT YtnddfmbgbgiljaaProg.lean LOADS. Nothing in Lean hashes anything: it is a label: what it is worth is what the hold of that sum in a sandbox is worth. -/
noncomputable def Try.pinned : Pinned := { name := "ytnddfmbgbgiljaa", sum := "8e5409148340affcc0d16e16bf2cf0e2378b306c1c5732a49895269a4e25164e", checked := Try.checked }
namespace Rows
def none {H : Type} : Left H := { results := [], args := [] }

/-- 'patchbaylaw05.LexerTokenizes': WHATEVER THE INPUT: true; the input reads as it did. -/
def lexerTokenizesSpec : ChangeSpec := { name := "lexerTokenizes", fn := fun _ => fun
  | [d] => { results := [.lit (.bool true)], args := [d] }
  | _ => none }
def lexerTokenizesRow : OpenClaim := { program := "ytnddfmbgbgiljaa", sum := "8e5409148340affcc0d16e16bf2cf0e2378b306c1c5732a49895269a4e25164e", func := "patchbay/patchbaylaw05.LexerTokenizes", spec := "lexerTokenizes", inPlace := ["internal/bytealg.IndexByteString"], unfollowed := true, recurses := true, apart := false }
def LexerTokenizesSaid : Prop := lexerTokenizesRow.holds Try.pinned (OpenSpec.ofChange lexerTokenizesSpec)

/-- ITS FALSE NEIGHBOUR: 'it returns false'. Refute it at one input. -/
def lexerTokenizesWrong : ChangeSpec := { name := "lexerTokenizes", fn := fun _ => fun
  | [d] => { results := [.lit (.bool false)], args := [d] }
  | _ => none }
def LexerTokenizesWrongFalsely : Prop := lexerTokenizesRow.holds Try.pinned (OpenSpec.ofChange lexerTokenizesWrong)

/-- 'patchbaylaw05.LexerCovers': WHATEVER THE INPUT: true; the input reads as it did. -/
def lexerCoversSpec : ChangeSpec := { name := "lexerCovers", fn := fun _ => fun
  | [d] => { results := [.lit (.bool true)], args := [d] }
  | _ => none }
def lexerCoversRow : OpenClaim := { program := "ytnddfmbgbgiljaa", sum := "8e5409148340affcc0d16e16bf2cf0e2378b306c1c5732a49895269a4e25164e", func := "patchbay/patchbaylaw05.LexerCovers", spec := "lexerCovers", inPlace := ["internal/bytealg.IndexByteString"], unfollowed := true, recurses := true, apart := false }
def LexerCoversSaid : Prop := lexerCoversRow.holds Try.pinned (OpenSpec.ofChange lexerCoversSpec)

/-- ITS FALSE NEIGHBOUR: 'it returns false'. Refute it at one input. -/
def lexerCoversWrong : ChangeSpec := { name := "lexerCovers", fn := fun _ => fun
  | [d] => { results := [.lit (.bool false)], args := [d] }
  | _ => none }
def LexerCoversWrongFalsely : Prop := lexerCoversRow.holds Try.pinned (OpenSpec.ofChange lexerCoversWrong)

/-- 'patchbaylaw05.LexerLines': WHATEVER THE INPUT: true; the input reads as it did. -/
def lexerLinesSpec : ChangeSpec := { name := "lexerLines", fn := fun _ => fun
  | [d1, d2] => { results := [.lit (.bool true)], args := [d1, d2] }
  | _ => none }
def lexerLinesRow : OpenClaim := { program := "ytnddfmbgbgiljaa", sum := "8e5409148340affcc0d16e16bf2cf0e2378b306c1c5732a49895269a4e25164e", func := "patchbay/patchbaylaw05.LexerLines", spec := "lexerLines", inPlace := ["internal/bytealg.IndexByteString"], unfollowed := true, recurses := true, apart := false }
def LexerLinesSaid : Prop := lexerLinesRow.holds Try.pinned (OpenSpec.ofChange lexerLinesSpec)

/-- ITS FALSE NEIGHBOUR: 'it returns false'. Refute it at one input. -/
def lexerLinesWrong : ChangeSpec := { name := "lexerLines", fn := fun _ => fun
  | [d1, d2] => { results := [.lit (.bool false)], args := [d1, d2] }
  | _ => none }
def LexerLinesWrongFalsely : Prop := lexerLinesRow.holds Try.pinned (OpenSpec.ofChange lexerLinesWrong)

/-- 'patchbaylaw05.LexerLimits': WHATEVER THE INPUT: true; the input reads as it did. -/
def lexerLimitsSpec : ChangeSpec := { name := "lexerLimits", fn := fun _ => fun
  | [d1, d2] => { results := [.lit (.bool true)], args := [d1, d2] }
  | _ => none }
def lexerLimitsRow : OpenClaim := { program := "ytnddfmbgbgiljaa", sum := "8e5409148340affcc0d16e16bf2cf0e2378b306c1c5732a49895269a4e25164e", func := "patchbay/patchbaylaw05.LexerLimits", spec := "lexerLimits", inPlace := ["internal/bytealg.IndexByteString"], unfollowed := true, recurses := true, apart := false }
def LexerLimitsSaid : Prop := lexerLimitsRow.holds Try.pinned (OpenSpec.ofChange lexerLimitsSpec)

/-- ITS FALSE NEIGHBOUR: 'it returns false'. Refute it at one input. -/
def lexerLimitsWrong : ChangeSpec := { name := "lexerLimits", fn := fun _ => fun
  | [d1, d2] => { results := [.lit (.bool false)], args := [d1, d2] }
  | _ => none }
def LexerLimitsWrongFalsely : Prop := lexerLimitsRow.holds Try.pinned (OpenSpec.ofChange lexerLimitsWrong)

/-- 'patchbaylaw05.LexerIdentifies': WHATEVER THE INPUT: true; the input reads as it did. -/
def lexerIdentifiesSpec : ChangeSpec := { name := "lexerIdentifies", fn := fun _ => fun
  | [d] => { results := [.lit (.bool true)], args := [d] }
  | _ => none }
def lexerIdentifiesRow : OpenClaim := { program := "ytnddfmbgbgiljaa", sum := "8e5409148340affcc0d16e16bf2cf0e2378b306c1c5732a49895269a4e25164e", func := "patchbay/patchbaylaw05.LexerIdentifies", spec := "lexerIdentifies", inPlace := ["internal/bytealg.IndexByteString"], unfollowed := true, recurses := true, apart := false }
def LexerIdentifiesSaid : Prop := lexerIdentifiesRow.holds Try.pinned (OpenSpec.ofChange lexerIdentifiesSpec)

/-- ITS FALSE NEIGHBOUR: 'it returns false'. Refute it at one input. -/
def lexerIdentifiesWrong : ChangeSpec := { name := "lexerIdentifies", fn := fun _ => fun
  | [d] => { results := [.lit (.bool false)], args := [d] }
  | _ => none }
def LexerIdentifiesWrongFalsely : Prop := lexerIdentifiesRow.holds Try.pinned (OpenSpec.ofChange lexerIdentifiesWrong)

/- THE SECOND FORM. 'bulk': how many values and letters a reading holds, each counted each time it is reached (what is shared counts as often as it is met; a slice's spare places count too). A statement '..UptoSaid' is the law's where the arguments, and the package variables that the reading takes, are together of bulk at most 1048576: NARROWER than '..Said'. Prove '..Said' where nothing that the law and all that it calls make is longer than what came in: it says more and counts as full. Else prove '..UptoSaid'. A law counts once. -/
mutual
def uptoBulk {H : Type} : DataW H → Nat
  | .lit (.string bytes) => bytes.length + 1
  | .lit _ => 1
  | .nil => 1
  | .ptr d => uptoBulk d + 1
  | .slice elems spare => uptoBulkAll elems + uptoBulkAll spare + 1
  | .agg parts => uptoBulkAll parts + 1
  | .iface _ d => uptoBulk d + 1
  | .map entries => uptoBulkEntries entries + 1
  | .held _ => 1
def uptoBulkAll {H : Type} : List (DataW H) → Nat
  | [] => 0
  | d :: r => uptoBulk d + uptoBulkAll r
def uptoBulkEntries {H : Type} : List (Lit × DataW H) → Nat
  | [] => 0
  | x :: r => uptoBulkEntry x + uptoBulkEntries r
def uptoBulkEntry {H : Type} : Lit × DataW H → Nat
  | (.string bytes, d) => bytes.length + uptoBulk d + 1
  | (_, d) => uptoBulk d + 1
 end
def uptoSmall : (H : Type) → List (DataW H) → Bool := fun _ ds => decide (uptoBulkAll ds ≤ 1048576)
def OpenSpec.upto (s : _root_.Go.ChangeSpec) : _root_.Go.OpenSpec := { _root_.Go.OpenSpec.ofChange s with cond := some uptoSmall }

/-- 'patchbaylaw05.LexerTokenizes', WHERE WHAT IT READS IS OF BULK AT MOST 1048576: true; the input reads as it did. -/
def lexerTokenizesUptoRow : OpenClaim := { program := "ytnddfmbgbgiljaa", sum := "8e5409148340affcc0d16e16bf2cf0e2378b306c1c5732a49895269a4e25164e", func := "patchbay/patchbaylaw05.LexerTokenizes", spec := "lexerTokenizes", inPlace := ["internal/bytealg.IndexByteString"], unfollowed := true, recurses := true, apart := false, narrowed := true }
def LexerTokenizesUptoSaid : Prop := lexerTokenizesUptoRow.holds Try.pinned (OpenSpec.upto lexerTokenizesSpec)

/-- 'patchbaylaw05.LexerCovers', WHERE WHAT IT READS IS OF BULK AT MOST 1048576: true; the input reads as it did. -/
def lexerCoversUptoRow : OpenClaim := { program := "ytnddfmbgbgiljaa", sum := "8e5409148340affcc0d16e16bf2cf0e2378b306c1c5732a49895269a4e25164e", func := "patchbay/patchbaylaw05.LexerCovers", spec := "lexerCovers", inPlace := ["internal/bytealg.IndexByteString"], unfollowed := true, recurses := true, apart := false, narrowed := true }
def LexerCoversUptoSaid : Prop := lexerCoversUptoRow.holds Try.pinned (OpenSpec.upto lexerCoversSpec)

/-- 'patchbaylaw05.LexerLines', WHERE WHAT IT READS IS OF BULK AT MOST 1048576: true; the input reads as it did. -/
def lexerLinesUptoRow : OpenClaim := { program := "ytnddfmbgbgiljaa", sum := "8e5409148340affcc0d16e16bf2cf0e2378b306c1c5732a49895269a4e25164e", func := "patchbay/patchbaylaw05.LexerLines", spec := "lexerLines", inPlace := ["internal/bytealg.IndexByteString"], unfollowed := true, recurses := true, apart := false, narrowed := true }
def LexerLinesUptoSaid : Prop := lexerLinesUptoRow.holds Try.pinned (OpenSpec.upto lexerLinesSpec)

/-- 'patchbaylaw05.LexerLimits', WHERE WHAT IT READS IS OF BULK AT MOST 1048576: true; the input reads as it did. -/
def lexerLimitsUptoRow : OpenClaim := { program := "ytnddfmbgbgiljaa", sum := "8e5409148340affcc0d16e16bf2cf0e2378b306c1c5732a49895269a4e25164e", func := "patchbay/patchbaylaw05.LexerLimits", spec := "lexerLimits", inPlace := ["internal/bytealg.IndexByteString"], unfollowed := true, recurses := true, apart := false, narrowed := true }
def LexerLimitsUptoSaid : Prop := lexerLimitsUptoRow.holds Try.pinned (OpenSpec.upto lexerLimitsSpec)

/-- 'patchbaylaw05.LexerIdentifies', WHERE WHAT IT READS IS OF BULK AT MOST 1048576: true; the input reads as it did. -/
def lexerIdentifiesUptoRow : OpenClaim := { program := "ytnddfmbgbgiljaa", sum := "8e5409148340affcc0d16e16bf2cf0e2378b306c1c5732a49895269a4e25164e", func := "patchbay/patchbaylaw05.LexerIdentifies", spec := "lexerIdentifies", inPlace := ["internal/bytealg.IndexByteString"], unfollowed := true, recurses := true, apart := false, narrowed := true }
def LexerIdentifiesUptoSaid : Prop := lexerIdentifiesUptoRow.holds Try.pinned (OpenSpec.upto lexerIdentifiesSpec)

end Rows
end Go.Proofs.Ytnddfmbgbgiljaa
