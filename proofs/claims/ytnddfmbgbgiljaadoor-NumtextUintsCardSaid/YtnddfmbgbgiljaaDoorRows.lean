/-
  NARROWER THAN 'FOR EVERY INPUT', by the rows' own cells (each row's printed sentence says how): NumtextFormats: laid · NumtextParses: laid · NumtextInts: laid · NumtextUints: laid · NumtextHex: laid · NumtextCanonical: laid.
  DERIVED. THE GIVEN ROWS OF THIS SEAT. 6 by the template 'for every input the law returns true; each argument reads behind the call as it read before'; 0 by the template 'total and deterministic' (their statements: YtnddfmbgbgiljaaDoorTotals.lean).
  GIVEN WITH THE SEED: the statements are not yours to turn. If you find one false, say at which input.
  Laid BY PROGRAM, IN A SANDBOX (cutbox-rows.mjs): the forced cells as the released guide's own fill.sh prints them over the translation f33567934dfa6cc2… (all of the seat's roots in one cut). By AI agents, Wed Nov 11 2026. No macro, syntax, notation, axiom, sorry.
-/
import Derived.Test.YtnddfmbgbgiljaaDoorChecked
import GoSem.Claim
import GoSem.ClaimJoined
import GoSem.ClaimMapViews
import Derived.JoinedTies
import Derived.KernelRfl
namespace Go.Proofs.YtnddfmbgbgiljaaDoor
/- THE CELL 'sum', in the pinned program and in every row, IS THE sha256 OF THE DUMP (.gsa) THAT YtnddfmbgbgiljaaDoorProg.lean LOADS. Nothing in Lean hashes anything: it is a label: what it is worth is what the hold of that sum in a sandbox is worth. -/
noncomputable def Tryd.pinned : Pinned := { name := "ytnddfmbgbgiljaadoor", sum := "f33567934dfa6cc28918097e7bf320d0dd9c9b113e1733b7bf70330f1b234e6c", checked := Tryd.checked }
namespace Rows
def none {H : Type} : Left H := { results := [], args := [] }

/- WHAT THE LISTED PACKAGE-LEVEL VARIABLES READ AS WHEN THE CALL BEGINS. Each datum BY PROGRAM (the guide's laid-datum.mjs) off the statement by which the dump's own 'gosem.cut.vars' lays the variable. In a bare row this is a premise. The card (YtnddfmbgbgiljaaDoorCards.lean) ties it to the program's text. -/
def laid_math_bits_deBruijn32tab {H : Type} : DataW H := .agg [.lit (.int .u8 0), .lit (.int .u8 1), .lit (.int .u8 28), .lit (.int .u8 2), .lit (.int .u8 29), .lit (.int .u8 14), .lit (.int .u8 24), .lit (.int .u8 3), .lit (.int .u8 30), .lit (.int .u8 22), .lit (.int .u8 20), .lit (.int .u8 15), .lit (.int .u8 25), .lit (.int .u8 17), .lit (.int .u8 4), .lit (.int .u8 8), .lit (.int .u8 31), .lit (.int .u8 27), .lit (.int .u8 13), .lit (.int .u8 23), .lit (.int .u8 21), .lit (.int .u8 19), .lit (.int .u8 16), .lit (.int .u8 7), .lit (.int .u8 26), .lit (.int .u8 12), .lit (.int .u8 18), .lit (.int .u8 6), .lit (.int .u8 11), .lit (.int .u8 5), .lit (.int .u8 10), .lit (.int .u8 9)]
def laid_math_bits_deBruijn64tab {H : Type} : DataW H := .agg [.lit (.int .u8 0), .lit (.int .u8 1), .lit (.int .u8 56), .lit (.int .u8 2), .lit (.int .u8 57), .lit (.int .u8 49), .lit (.int .u8 28), .lit (.int .u8 3), .lit (.int .u8 61), .lit (.int .u8 58), .lit (.int .u8 42), .lit (.int .u8 50), .lit (.int .u8 38), .lit (.int .u8 29), .lit (.int .u8 17), .lit (.int .u8 4), .lit (.int .u8 62), .lit (.int .u8 47), .lit (.int .u8 59), .lit (.int .u8 36), .lit (.int .u8 45), .lit (.int .u8 43), .lit (.int .u8 51), .lit (.int .u8 22), .lit (.int .u8 53), .lit (.int .u8 39), .lit (.int .u8 33), .lit (.int .u8 30), .lit (.int .u8 24), .lit (.int .u8 18), .lit (.int .u8 12), .lit (.int .u8 5), .lit (.int .u8 63), .lit (.int .u8 55), .lit (.int .u8 48), .lit (.int .u8 27), .lit (.int .u8 60), .lit (.int .u8 41), .lit (.int .u8 37), .lit (.int .u8 16), .lit (.int .u8 46), .lit (.int .u8 35), .lit (.int .u8 44), .lit (.int .u8 21), .lit (.int .u8 52), .lit (.int .u8 32), .lit (.int .u8 23), .lit (.int .u8 11), .lit (.int .u8 54), .lit (.int .u8 26), .lit (.int .u8 40), .lit (.int .u8 15), .lit (.int .u8 34), .lit (.int .u8 20), .lit (.int .u8 31), .lit (.int .u8 10), .lit (.int .u8 25), .lit (.int .u8 14), .lit (.int .u8 19), .lit (.int .u8 9), .lit (.int .u8 13), .lit (.int .u8 8), .lit (.int .u8 7), .lit (.int .u8 6)]
def laid_internal_strconv_uint64pow10 {H : Type} : DataW H := .agg [.lit (.int .u64 1), .lit (.int .u64 10), .lit (.int .u64 100), .lit (.int .u64 1000), .lit (.int .u64 10000), .lit (.int .u64 100000), .lit (.int .u64 1000000), .lit (.int .u64 10000000), .lit (.int .u64 100000000), .lit (.int .u64 1000000000), .lit (.int .u64 10000000000), .lit (.int .u64 100000000000), .lit (.int .u64 1000000000000), .lit (.int .u64 10000000000000), .lit (.int .u64 100000000000000), .lit (.int .u64 1000000000000000), .lit (.int .u64 10000000000000000), .lit (.int .u64 100000000000000000), .lit (.int .u64 1000000000000000000), .lit (.int .u64 10000000000000000000)]

/-- 'patchbaylaw03.NumtextFormats': WHATEVER THE INPUT: true; the input reads as it did. -/
def numtextFormatsSpec : ChangeSpec := { name := "numtextFormats", fn := fun _ => fun
  | [d1, d2] => { results := [.lit (.bool true)], args := [d1, d2] }
  | _ => none }
def numtextFormatsRow : OpenClaim := { program := "ytnddfmbgbgiljaadoor", sum := "f33567934dfa6cc28918097e7bf320d0dd9c9b113e1733b7bf70330f1b234e6c", func := "patchbay/patchbaylaw03.NumtextFormats", spec := "numtextFormats", inPlace := ["internal/bytealg.IndexByteString", "internal/abi.NoEscape"], unfollowed := true, recurses := true, named := ["internal/strconv.uint64pow10", "math/bits.deBruijn32tab", "math/bits.deBruijn64tab"], apart := false, laid := [("math/bits.deBruijn32tab", laid_math_bits_deBruijn32tab), ("math/bits.deBruijn64tab", laid_math_bits_deBruijn64tab), ("internal/strconv.uint64pow10", laid_internal_strconv_uint64pow10)] }
def NumtextFormatsSaid : Prop := numtextFormatsRow.holds Tryd.pinned (OpenSpec.ofChange numtextFormatsSpec)

/-- ITS FALSE NEIGHBOUR: 'it returns false'. Refute it at one input. -/
def numtextFormatsWrong : ChangeSpec := { name := "numtextFormats", fn := fun _ => fun
  | [d1, d2] => { results := [.lit (.bool false)], args := [d1, d2] }
  | _ => none }
def NumtextFormatsWrongFalsely : Prop := numtextFormatsRow.holds Tryd.pinned (OpenSpec.ofChange numtextFormatsWrong)

/-- 'patchbaylaw03.NumtextParses': WHATEVER THE INPUT: true; the input reads as it did. -/
def numtextParsesSpec : ChangeSpec := { name := "numtextParses", fn := fun _ => fun
  | [d] => { results := [.lit (.bool true)], args := [d] }
  | _ => none }
def numtextParsesRow : OpenClaim := { program := "ytnddfmbgbgiljaadoor", sum := "f33567934dfa6cc28918097e7bf320d0dd9c9b113e1733b7bf70330f1b234e6c", func := "patchbay/patchbaylaw03.NumtextParses", spec := "numtextParses", inPlace := ["internal/bytealg.IndexByteString", "internal/abi.NoEscape"], unfollowed := true, recurses := true, named := ["internal/strconv.uint64pow10", "math/bits.deBruijn32tab", "math/bits.deBruijn64tab"], apart := false, laid := [("math/bits.deBruijn32tab", laid_math_bits_deBruijn32tab), ("math/bits.deBruijn64tab", laid_math_bits_deBruijn64tab), ("internal/strconv.uint64pow10", laid_internal_strconv_uint64pow10)] }
def NumtextParsesSaid : Prop := numtextParsesRow.holds Tryd.pinned (OpenSpec.ofChange numtextParsesSpec)

/-- ITS FALSE NEIGHBOUR: 'it returns false'. Refute it at one input. -/
def numtextParsesWrong : ChangeSpec := { name := "numtextParses", fn := fun _ => fun
  | [d] => { results := [.lit (.bool false)], args := [d] }
  | _ => none }
def NumtextParsesWrongFalsely : Prop := numtextParsesRow.holds Tryd.pinned (OpenSpec.ofChange numtextParsesWrong)

/-- 'patchbaylaw03.NumtextInts': WHATEVER THE INPUT: true; the input reads as it did. -/
def numtextIntsSpec : ChangeSpec := { name := "numtextInts", fn := fun _ => fun
  | [d] => { results := [.lit (.bool true)], args := [d] }
  | _ => none }
def numtextIntsRow : OpenClaim := { program := "ytnddfmbgbgiljaadoor", sum := "f33567934dfa6cc28918097e7bf320d0dd9c9b113e1733b7bf70330f1b234e6c", func := "patchbay/patchbaylaw03.NumtextInts", spec := "numtextInts", inPlace := ["internal/bytealg.IndexByteString", "internal/abi.NoEscape"], unfollowed := true, recurses := true, named := ["internal/strconv.uint64pow10", "math/bits.deBruijn32tab", "math/bits.deBruijn64tab"], apart := false, laid := [("math/bits.deBruijn32tab", laid_math_bits_deBruijn32tab), ("math/bits.deBruijn64tab", laid_math_bits_deBruijn64tab), ("internal/strconv.uint64pow10", laid_internal_strconv_uint64pow10)] }
def NumtextIntsSaid : Prop := numtextIntsRow.holds Tryd.pinned (OpenSpec.ofChange numtextIntsSpec)

/-- ITS FALSE NEIGHBOUR: 'it returns false'. Refute it at one input. -/
def numtextIntsWrong : ChangeSpec := { name := "numtextInts", fn := fun _ => fun
  | [d] => { results := [.lit (.bool false)], args := [d] }
  | _ => none }
def NumtextIntsWrongFalsely : Prop := numtextIntsRow.holds Tryd.pinned (OpenSpec.ofChange numtextIntsWrong)

/-- 'patchbaylaw03.NumtextUints': WHATEVER THE INPUT: true; the input reads as it did. -/
def numtextUintsSpec : ChangeSpec := { name := "numtextUints", fn := fun _ => fun
  | [d] => { results := [.lit (.bool true)], args := [d] }
  | _ => none }
def numtextUintsRow : OpenClaim := { program := "ytnddfmbgbgiljaadoor", sum := "f33567934dfa6cc28918097e7bf320d0dd9c9b113e1733b7bf70330f1b234e6c", func := "patchbay/patchbaylaw03.NumtextUints", spec := "numtextUints", inPlace := ["internal/bytealg.IndexByteString", "internal/abi.NoEscape"], unfollowed := true, recurses := true, named := ["internal/strconv.uint64pow10", "math/bits.deBruijn32tab", "math/bits.deBruijn64tab"], apart := false, laid := [("math/bits.deBruijn32tab", laid_math_bits_deBruijn32tab), ("math/bits.deBruijn64tab", laid_math_bits_deBruijn64tab), ("internal/strconv.uint64pow10", laid_internal_strconv_uint64pow10)] }
def NumtextUintsSaid : Prop := numtextUintsRow.holds Tryd.pinned (OpenSpec.ofChange numtextUintsSpec)

/-- ITS FALSE NEIGHBOUR: 'it returns false'. Refute it at one input. -/
def numtextUintsWrong : ChangeSpec := { name := "numtextUints", fn := fun _ => fun
  | [d] => { results := [.lit (.bool false)], args := [d] }
  | _ => none }
def NumtextUintsWrongFalsely : Prop := numtextUintsRow.holds Tryd.pinned (OpenSpec.ofChange numtextUintsWrong)

/-- 'patchbaylaw03.NumtextHex': WHATEVER THE INPUT: true; the input reads as it did. -/
def numtextHexSpec : ChangeSpec := { name := "numtextHex", fn := fun _ => fun
  | [d] => { results := [.lit (.bool true)], args := [d] }
  | _ => none }
def numtextHexRow : OpenClaim := { program := "ytnddfmbgbgiljaadoor", sum := "f33567934dfa6cc28918097e7bf320d0dd9c9b113e1733b7bf70330f1b234e6c", func := "patchbay/patchbaylaw03.NumtextHex", spec := "numtextHex", inPlace := ["internal/bytealg.IndexByteString", "internal/abi.NoEscape"], unfollowed := true, recurses := true, named := ["internal/strconv.uint64pow10", "math/bits.deBruijn32tab", "math/bits.deBruijn64tab"], apart := false, laid := [("math/bits.deBruijn32tab", laid_math_bits_deBruijn32tab), ("math/bits.deBruijn64tab", laid_math_bits_deBruijn64tab), ("internal/strconv.uint64pow10", laid_internal_strconv_uint64pow10)] }
def NumtextHexSaid : Prop := numtextHexRow.holds Tryd.pinned (OpenSpec.ofChange numtextHexSpec)

/-- ITS FALSE NEIGHBOUR: 'it returns false'. Refute it at one input. -/
def numtextHexWrong : ChangeSpec := { name := "numtextHex", fn := fun _ => fun
  | [d] => { results := [.lit (.bool false)], args := [d] }
  | _ => none }
def NumtextHexWrongFalsely : Prop := numtextHexRow.holds Tryd.pinned (OpenSpec.ofChange numtextHexWrong)

/-- 'patchbaylaw03.NumtextCanonical': WHATEVER THE INPUT: true; the input reads as it did. -/
def numtextCanonicalSpec : ChangeSpec := { name := "numtextCanonical", fn := fun _ => fun
  | [d] => { results := [.lit (.bool true)], args := [d] }
  | _ => none }
def numtextCanonicalRow : OpenClaim := { program := "ytnddfmbgbgiljaadoor", sum := "f33567934dfa6cc28918097e7bf320d0dd9c9b113e1733b7bf70330f1b234e6c", func := "patchbay/patchbaylaw03.NumtextCanonical", spec := "numtextCanonical", inPlace := ["internal/bytealg.IndexByteString", "internal/abi.NoEscape"], unfollowed := true, recurses := true, named := ["internal/strconv.uint64pow10", "math/bits.deBruijn32tab", "math/bits.deBruijn64tab"], apart := false, laid := [("math/bits.deBruijn32tab", laid_math_bits_deBruijn32tab), ("math/bits.deBruijn64tab", laid_math_bits_deBruijn64tab), ("internal/strconv.uint64pow10", laid_internal_strconv_uint64pow10)] }
def NumtextCanonicalSaid : Prop := numtextCanonicalRow.holds Tryd.pinned (OpenSpec.ofChange numtextCanonicalSpec)

/-- ITS FALSE NEIGHBOUR: 'it returns false'. Refute it at one input. -/
def numtextCanonicalWrong : ChangeSpec := { name := "numtextCanonical", fn := fun _ => fun
  | [d] => { results := [.lit (.bool false)], args := [d] }
  | _ => none }
def NumtextCanonicalWrongFalsely : Prop := numtextCanonicalRow.holds Tryd.pinned (OpenSpec.ofChange numtextCanonicalWrong)

/- THE SECOND FORM. 'bulk': how many values and letters a reading holds, each counted each time it is reached (what is shared counts as often as it is met; a slice's spare places count too). A statement '..UptoSaid' is the law's where the arguments, and the package variables that the reading takes, are together of bulk at most 1048576: NARROWER than '..Said'. Prove '..Said' where nothing that the law and all that it calls make is longer than what came in: it says more and counts as full. Else prove '..UptoSaid'. A law counts once. -/
mutual
def uptoBulk {H : Type} : DataW H → Nat
  | .lit (.string bytes) => bytes.length + 1
  | .lit _ => 1
  | .nil => 1
  | .ptr d => uptoBulk d + 1
  | .slice elems spare => uptoBulkAll elems + uptoBulkAll spare + 1
  | .agg parts => uptoBulkAll parts + 1
  | .iface _ d => uptoBulk d + 1
  | .map entries => uptoBulkEntries entries + 1
  | .held _ => 1
def uptoBulkAll {H : Type} : List (DataW H) → Nat
  | [] => 0
  | d :: r => uptoBulk d + uptoBulkAll r
def uptoBulkEntries {H : Type} : List (Lit × DataW H) → Nat
  | [] => 0
  | x :: r => uptoBulkEntry x + uptoBulkEntries r
def uptoBulkEntry {H : Type} : Lit × DataW H → Nat
  | (.string bytes, d) => bytes.length + uptoBulk d + 1
  | (_, d) => uptoBulk d + 1
 end
def uptoSmall : (H : Type) → List (DataW H) → Bool := fun _ ds => decide (uptoBulkAll ds ≤ 1048576)
def OpenSpec.upto (s : _root_.Go.ChangeSpec) : _root_.Go.OpenSpec := { _root_.Go.OpenSpec.ofChange s with cond := some uptoSmall }

/-- 'patchbaylaw03.NumtextFormats', WHERE WHAT IT READS IS OF BULK AT MOST 1048576: true; the input reads as it did. -/
def numtextFormatsUptoRow : OpenClaim := { program := "ytnddfmbgbgiljaadoor", sum := "f33567934dfa6cc28918097e7bf320d0dd9c9b113e1733b7bf70330f1b234e6c", func := "patchbay/patchbaylaw03.NumtextFormats", spec := "numtextFormats", inPlace := ["internal/bytealg.IndexByteString", "internal/abi.NoEscape"], unfollowed := true, recurses := true, named := ["internal/strconv.uint64pow10", "math/bits.deBruijn32tab", "math/bits.deBruijn64tab"], apart := false, laid := [("math/bits.deBruijn32tab", laid_math_bits_deBruijn32tab), ("math/bits.deBruijn64tab", laid_math_bits_deBruijn64tab), ("internal/strconv.uint64pow10", laid_internal_strconv_uint64pow10)], narrowed := true }
def NumtextFormatsUptoSaid : Prop := numtextFormatsUptoRow.holds Tryd.pinned (OpenSpec.upto numtextFormatsSpec)

/-- 'patchbaylaw03.NumtextParses', WHERE WHAT IT READS IS OF BULK AT MOST 1048576: true; the input reads as it did. -/
def numtextParsesUptoRow : OpenClaim := { program := "ytnddfmbgbgiljaadoor", sum := "f33567934dfa6cc28918097e7bf320d0dd9c9b113e1733b7bf70330f1b234e6c", func := "patchbay/patchbaylaw03.NumtextParses", spec := "numtextParses", inPlace := ["internal/bytealg.IndexByteString", "internal/abi.NoEscape"], unfollowed := true, recurses := true, named := ["internal/strconv.uint64pow10", "math/bits.deBruijn32tab", "math/bits.deBruijn64tab"], apart := false, laid := [("math/bits.deBruijn32tab", laid_math_bits_deBruijn32tab), ("math/bits.deBruijn64tab", laid_math_bits_deBruijn64tab), ("internal/strconv.uint64pow10", laid_internal_strconv_uint64pow10)], narrowed := true }
def NumtextParsesUptoSaid : Prop := numtextParsesUptoRow.holds Tryd.pinned (OpenSpec.upto numtextParsesSpec)

/-- 'patchbaylaw03.NumtextInts', WHERE WHAT IT READS IS OF BULK AT MOST 1048576: true; the input reads as it did. -/
def numtextIntsUptoRow : OpenClaim := { program := "ytnddfmbgbgiljaadoor", sum := "f33567934dfa6cc28918097e7bf320d0dd9c9b113e1733b7bf70330f1b234e6c", func := "patchbay/patchbaylaw03.NumtextInts", spec := "numtextInts", inPlace := ["internal/bytealg.IndexByteString", "internal/abi.NoEscape"], unfollowed := true, recurses := true, named := ["internal/strconv.uint64pow10", "math/bits.deBruijn32tab", "math/bits.deBruijn64tab"], apart := false, laid := [("math/bits.deBruijn32tab", laid_math_bits_deBruijn32tab), ("math/bits.deBruijn64tab", laid_math_bits_deBruijn64tab), ("internal/strconv.uint64pow10", laid_internal_strconv_uint64pow10)], narrowed := true }
def NumtextIntsUptoSaid : Prop := numtextIntsUptoRow.holds Tryd.pinned (OpenSpec.upto numtextIntsSpec)

/-- 'patchbaylaw03.NumtextUints', WHERE WHAT IT READS IS OF BULK AT MOST 1048576: true; the input reads as it did. -/
def numtextUintsUptoRow : OpenClaim := { program := "ytnddfmbgbgiljaadoor", sum := "f33567934dfa6cc28918097e7bf320d0dd9c9b113e1733b7bf70330f1b234e6c", func := "patchbay/patchbaylaw03.NumtextUints", spec := "numtextUints", inPlace := ["internal/bytealg.IndexByteString", "internal/abi.NoEscape"], unfollowed := true, recurses := true, named := ["internal/strconv.uint64pow10", "math/bits.deBruijn32tab", "math/bits.deBruijn64tab"], apart := false, laid := [("math/bits.deBruijn32tab", laid_math_bits_deBruijn32tab), ("math/bits.deBruijn64tab", laid_math_bits_deBruijn64tab), ("internal/strconv.uint64pow10", laid_internal_strconv_uint64pow10)], narrowed := true }
def NumtextUintsUptoSaid : Prop := numtextUintsUptoRow.holds Tryd.pinned (OpenSpec.upto numtextUintsSpec)

/-- 'patchbaylaw03.NumtextHex', WHERE WHAT IT READS IS OF BULK AT MOST 1048576: true; the input reads as it did. -/
def numtextHexUptoRow : OpenClaim := { program := "ytnddfmbgbgiljaadoor", sum := "f33567934dfa6cc28918097e7bf320d0dd9c9b113e1733b7bf70330f1b234e6c", func := "patchbay/patchbaylaw03.NumtextHex", spec := "numtextHex", inPlace := ["internal/bytealg.IndexByteString", "internal/abi.NoEscape"], unfollowed := true, recurses := true, named := ["internal/strconv.uint64pow10", "math/bits.deBruijn32tab", "math/bits.deBruijn64tab"], apart := false, laid := [("math/bits.deBruijn32tab", laid_math_bits_deBruijn32tab), ("math/bits.deBruijn64tab", laid_math_bits_deBruijn64tab), ("internal/strconv.uint64pow10", laid_internal_strconv_uint64pow10)], narrowed := true }
def NumtextHexUptoSaid : Prop := numtextHexUptoRow.holds Tryd.pinned (OpenSpec.upto numtextHexSpec)

/-- 'patchbaylaw03.NumtextCanonical', WHERE WHAT IT READS IS OF BULK AT MOST 1048576: true; the input reads as it did. -/
def numtextCanonicalUptoRow : OpenClaim := { program := "ytnddfmbgbgiljaadoor", sum := "f33567934dfa6cc28918097e7bf320d0dd9c9b113e1733b7bf70330f1b234e6c", func := "patchbay/patchbaylaw03.NumtextCanonical", spec := "numtextCanonical", inPlace := ["internal/bytealg.IndexByteString", "internal/abi.NoEscape"], unfollowed := true, recurses := true, named := ["internal/strconv.uint64pow10", "math/bits.deBruijn32tab", "math/bits.deBruijn64tab"], apart := false, laid := [("math/bits.deBruijn32tab", laid_math_bits_deBruijn32tab), ("math/bits.deBruijn64tab", laid_math_bits_deBruijn64tab), ("internal/strconv.uint64pow10", laid_internal_strconv_uint64pow10)], narrowed := true }
def NumtextCanonicalUptoSaid : Prop := numtextCanonicalUptoRow.holds Tryd.pinned (OpenSpec.upto numtextCanonicalSpec)

end Rows
end Go.Proofs.YtnddfmbgbgiljaaDoor
