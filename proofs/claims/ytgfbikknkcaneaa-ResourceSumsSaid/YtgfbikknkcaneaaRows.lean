/-
  No cell of these rows narrows 'for every input' (looked for: loops, veiled, ifaces, maps, wideKeys, modest, calm, conditions, laid).
  DERIVED. THE GIVEN ROWS OF THIS SEAT. 3 by the template 'for every input the law returns true; each argument reads behind the call as it read before'; 0 by the template 'total and deterministic' (their statements: YtgfbikknkcaneaaTotals.lean).
  GIVEN WITH THE SEED: the statements are not yours to turn. If you find one false, say at which input.
  Laid BY PROGRAM, IN A SANDBOX (cutbox-rows.mjs): the forced cells as the released guide's own fill.sh prints them over the translation a894573127226e4c… (all of the seat's roots in one cut). By AI agents, Wed Nov 11 2026. No macro, syntax, notation, axiom, sorry.
-/
import Derived.Test.YtgfbikknkcaneaaChecked
import GoSem.Claim
import GoSem.ClaimJoined
import GoSem.ClaimMapViews
import Derived.JoinedTies
import Derived.KernelRfl
namespace Go.Proofs.Ytgfbikknkcaneaa
/- THE CELL 'sum', in the pinned program and in every row, IS THE sha256 OF THE DUMP (.gsa) THAT YtgfbikknkcaneaaProg.lean LOADS. Nothing in Lean hashes anything: it is a label: what it is worth is what the hold of that sum in a sandbox is worth. -/
noncomputable def Try.pinned : Pinned := { name := "ytgfbikknkcaneaa", sum := "a894573127226e4cf3b906544bccdeb33dcf3b6a14e707c93b610b5dac2d7d71", checked := Try.checked }
namespace Rows
def none {H : Type} : Left H := { results := [], args := [] }

/-- 'patchbaylaw34.ResourceSums': WHATEVER THE INPUT: true; the input reads as it did. -/
def resourceSumsSpec : ChangeSpec := { name := "resourceSums", fn := fun _ => fun
  | [d1, d2] => { results := [.lit (.bool true)], args := [d1, d2] }
  | _ => none }
def resourceSumsRow : OpenClaim := { program := "ytgfbikknkcaneaa", sum := "a894573127226e4cf3b906544bccdeb33dcf3b6a14e707c93b610b5dac2d7d71", func := "patchbay/patchbaylaw34.ResourceSums", spec := "resourceSums", unfollowed := true, recurses := true, apart := false }
def ResourceSumsSaid : Prop := resourceSumsRow.holds Try.pinned (OpenSpec.ofChange resourceSumsSpec)

/-- ITS FALSE NEIGHBOUR: 'it returns false'. Refute it at one input. -/
def resourceSumsWrong : ChangeSpec := { name := "resourceSums", fn := fun _ => fun
  | [d1, d2] => { results := [.lit (.bool false)], args := [d1, d2] }
  | _ => none }
def ResourceSumsWrongFalsely : Prop := resourceSumsRow.holds Try.pinned (OpenSpec.ofChange resourceSumsWrong)

/-- 'patchbaylaw34.ResourceJoins': WHATEVER THE INPUT: true; the input reads as it did. -/
def resourceJoinsSpec : ChangeSpec := { name := "resourceJoins", fn := fun _ => fun
  | [d1, d2] => { results := [.lit (.bool true)], args := [d1, d2] }
  | _ => none }
def resourceJoinsRow : OpenClaim := { program := "ytgfbikknkcaneaa", sum := "a894573127226e4cf3b906544bccdeb33dcf3b6a14e707c93b610b5dac2d7d71", func := "patchbay/patchbaylaw34.ResourceJoins", spec := "resourceJoins", unfollowed := true, recurses := true, apart := false }
def ResourceJoinsSaid : Prop := resourceJoinsRow.holds Try.pinned (OpenSpec.ofChange resourceJoinsSpec)

/-- ITS FALSE NEIGHBOUR: 'it returns false'. Refute it at one input. -/
def resourceJoinsWrong : ChangeSpec := { name := "resourceJoins", fn := fun _ => fun
  | [d1, d2] => { results := [.lit (.bool false)], args := [d1, d2] }
  | _ => none }
def ResourceJoinsWrongFalsely : Prop := resourceJoinsRow.holds Try.pinned (OpenSpec.ofChange resourceJoinsWrong)

/-- 'patchbaylaw34.ResourceKinds': WHATEVER THE INPUT: true; the input reads as it did. -/
def resourceKindsSpec : ChangeSpec := { name := "resourceKinds", fn := fun _ => fun
  | [d1, d2, d3] => { results := [.lit (.bool true)], args := [d1, d2, d3] }
  | _ => none }
def resourceKindsRow : OpenClaim := { program := "ytgfbikknkcaneaa", sum := "a894573127226e4cf3b906544bccdeb33dcf3b6a14e707c93b610b5dac2d7d71", func := "patchbay/patchbaylaw34.ResourceKinds", spec := "resourceKinds", unfollowed := true, recurses := true, apart := false }
def ResourceKindsSaid : Prop := resourceKindsRow.holds Try.pinned (OpenSpec.ofChange resourceKindsSpec)

/-- ITS FALSE NEIGHBOUR: 'it returns false'. Refute it at one input. -/
def resourceKindsWrong : ChangeSpec := { name := "resourceKinds", fn := fun _ => fun
  | [d1, d2, d3] => { results := [.lit (.bool false)], args := [d1, d2, d3] }
  | _ => none }
def ResourceKindsWrongFalsely : Prop := resourceKindsRow.holds Try.pinned (OpenSpec.ofChange resourceKindsWrong)

/- THE SECOND FORM. 'bulk': how many values and letters a reading holds, each counted each time it is reached (what is shared counts as often as it is met; a slice's spare places count too). A statement '..UptoSaid' is the law's where the arguments, and the package variables that the reading takes, are together of bulk at most 1048576: NARROWER than '..Said'. Prove '..Said' where nothing that the law and all that it calls make is longer than what came in: it says more and counts as full. Else prove '..UptoSaid'. A law counts once. -/
mutual
def uptoBulk {H : Type} : DataW H → Nat
  | .lit (.string bytes) => bytes.length + 1
  | .lit _ => 1
  | .nil => 1
  | .ptr d => uptoBulk d + 1
  | .slice elems spare => uptoBulkAll elems + uptoBulkAll spare + 1
  | .agg parts => uptoBulkAll parts + 1
  | .iface _ d => uptoBulk d + 1
  | .map entries => uptoBulkEntries entries + 1
  | .held _ => 1
def uptoBulkAll {H : Type} : List (DataW H) → Nat
  | [] => 0
  | d :: r => uptoBulk d + uptoBulkAll r
def uptoBulkEntries {H : Type} : List (Lit × DataW H) → Nat
  | [] => 0
  | x :: r => uptoBulkEntry x + uptoBulkEntries r
def uptoBulkEntry {H : Type} : Lit × DataW H → Nat
  | (.string bytes, d) => bytes.length + uptoBulk d + 1
  | (_, d) => uptoBulk d + 1
 end
def uptoSmall : (H : Type) → List (DataW H) → Bool := fun _ ds => decide (uptoBulkAll ds ≤ 1048576)
def OpenSpec.upto (s : _root_.Go.ChangeSpec) : _root_.Go.OpenSpec := { _root_.Go.OpenSpec.ofChange s with cond := some uptoSmall }

/-- 'patchbaylaw34.ResourceSums', WHERE WHAT IT READS IS OF BULK AT MOST 1048576: true; the input reads as it did. -/
def resourceSumsUptoRow : OpenClaim := { program := "ytgfbikknkcaneaa", sum := "a894573127226e4cf3b906544bccdeb33dcf3b6a14e707c93b610b5dac2d7d71", func := "patchbay/patchbaylaw34.ResourceSums", spec := "resourceSums", unfollowed := true, recurses := true, apart := false, narrowed := true }
def ResourceSumsUptoSaid : Prop := resourceSumsUptoRow.holds Try.pinned (OpenSpec.upto resourceSumsSpec)

/-- 'patchbaylaw34.ResourceJoins', WHERE WHAT IT READS IS OF BULK AT MOST 1048576: true; the input reads as it did. -/
def resourceJoinsUptoRow : OpenClaim := { program := "ytgfbikknkcaneaa", sum := "a894573127226e4cf3b906544bccdeb33dcf3b6a14e707c93b610b5dac2d7d71", func := "patchbay/patchbaylaw34.ResourceJoins", spec := "resourceJoins", unfollowed := true, recurses := true, apart := false, narrowed := true }
def ResourceJoinsUptoSaid : Prop := resourceJoinsUptoRow.holds Try.pinned (OpenSpec.upto resourceJoinsSpec)

/-- 'patchbaylaw34.ResourceKinds', WHERE WHAT IT READS IS OF BULK AT MOST 1048576: true; the input reads as it did. -/
def resourceKindsUptoRow : OpenClaim := { program := "ytgfbikknkcaneaa", sum := "a894573127226e4cf3b906544bccdeb33dcf3b6a14e707c93b610b5dac2d7d71", func := "patchbay/patchbaylaw34.ResourceKinds", spec := "resourceKinds", unfollowed := true, recurses := true, apart := false, narrowed := true }
def ResourceKindsUptoSaid : Prop := resourceKindsUptoRow.holds Try.pinned (OpenSpec.upto resourceKindsSpec)

end Rows
end Go.Proofs.Ytgfbikknkcaneaa
