/-
  NARROWER THAN 'FOR EVERY INPUT', by the rows' own cells (each row's printed sentence says how): ResourceTables: loops · ResourceGrows: loops · ProgramChecks: loops · ProgramEqual: loops · ProgramLookup: loops · ProgramNames: loops · ProgramExtends: loops · ProgramClone: loops.
  DERIVED. THE GIVEN ROWS OF THIS SEAT. 8 by the template 'for every input the law returns true; each argument reads behind the call as it read before'; 0 by the template 'total and deterministic' (their statements: YtgfbikknkcaneaaGreatTotals.lean).
  GIVEN WITH THE SEED: the statements are not yours to turn. If you find one false, say at which input.
  Laid BY PROGRAM, IN A SANDBOX (cutbox-rows.mjs): the forced cells as the released guide's own fill.sh prints them over the translation a2e9fb09ea614410… (all of the seat's roots in one cut). By AI agents, Wed Nov 11 2026. No macro, syntax, notation, axiom, sorry.
-/
import Derived.Test.YtgfbikknkcaneaaGreatChecked
import GoSem.Claim
import GoSem.ClaimJoined
import GoSem.ClaimMapViews
import Derived.JoinedTies
import Derived.KernelRfl
namespace Go.Proofs.YtgfbikknkcaneaaGreat
/- THE CELL 'sum', in the pinned program and in every row, IS THE sha256 OF THE DUMP (.gsa) THAT YtgfbikknkcaneaaGreatProg.lean LOADS. Nothing in Lean hashes anything: it is a label: what it is worth is what the hold of that sum in a sandbox is worth. -/
noncomputable def Tryz.pinned : Pinned := { name := "ytgfbikknkcaneaagreat", sum := "a2e9fb09ea6144104a5fb639cd40bcbee74c84e26ab504a042ed440c2f0d0d83", checked := Tryz.checked }
namespace Rows
def none {H : Type} : Left H := { results := [], args := [] }

/-- 'patchbaylaw34.ResourceTables': WHATEVER THE INPUT: true; the input reads as it did. -/
def resourceTablesSpec : ChangeSpec := { name := "resourceTables", fn := fun _ => fun
  | [d1, d2, d3] => { results := [.lit (.bool true)], args := [d1, d2, d3] }
  | _ => none }
def resourceTablesRow : OpenClaim := { program := "ytgfbikknkcaneaagreat", sum := "a2e9fb09ea6144104a5fb639cd40bcbee74c84e26ab504a042ed440c2f0d0d83", func := "patchbay/patchbaylaw34.ResourceTables", spec := "resourceTables", unfollowed := true, recurses := true, loops := true, apart := false }
def ResourceTablesSaid : Prop := resourceTablesRow.holds Tryz.pinned (OpenSpec.ofChange resourceTablesSpec)

/-- ITS FALSE NEIGHBOUR: 'it returns false'. Refute it at one input. -/
def resourceTablesWrong : ChangeSpec := { name := "resourceTables", fn := fun _ => fun
  | [d1, d2, d3] => { results := [.lit (.bool false)], args := [d1, d2, d3] }
  | _ => none }
def ResourceTablesWrongFalsely : Prop := resourceTablesRow.holds Tryz.pinned (OpenSpec.ofChange resourceTablesWrong)

/-- 'patchbaylaw34.ResourceGrows': WHATEVER THE INPUT: true; the input reads as it did. -/
def resourceGrowsSpec : ChangeSpec := { name := "resourceGrows", fn := fun _ => fun
  | [d1, d2, d3] => { results := [.lit (.bool true)], args := [d1, d2, d3] }
  | _ => none }
def resourceGrowsRow : OpenClaim := { program := "ytgfbikknkcaneaagreat", sum := "a2e9fb09ea6144104a5fb639cd40bcbee74c84e26ab504a042ed440c2f0d0d83", func := "patchbay/patchbaylaw34.ResourceGrows", spec := "resourceGrows", unfollowed := true, recurses := true, loops := true, apart := false }
def ResourceGrowsSaid : Prop := resourceGrowsRow.holds Tryz.pinned (OpenSpec.ofChange resourceGrowsSpec)

/-- ITS FALSE NEIGHBOUR: 'it returns false'. Refute it at one input. -/
def resourceGrowsWrong : ChangeSpec := { name := "resourceGrows", fn := fun _ => fun
  | [d1, d2, d3] => { results := [.lit (.bool false)], args := [d1, d2, d3] }
  | _ => none }
def ResourceGrowsWrongFalsely : Prop := resourceGrowsRow.holds Tryz.pinned (OpenSpec.ofChange resourceGrowsWrong)

/-- 'patchbaylaw21.ProgramChecks': WHATEVER THE INPUT: true; the input reads as it did. -/
def programChecksSpec : ChangeSpec := { name := "programChecks", fn := fun _ => fun
  | [d] => { results := [.lit (.bool true)], args := [d] }
  | _ => none }
def programChecksRow : OpenClaim := { program := "ytgfbikknkcaneaagreat", sum := "a2e9fb09ea6144104a5fb639cd40bcbee74c84e26ab504a042ed440c2f0d0d83", func := "patchbay/patchbaylaw21.ProgramChecks", spec := "programChecks", unfollowed := true, recurses := true, loops := true, apart := false }
def ProgramChecksSaid : Prop := programChecksRow.holds Tryz.pinned (OpenSpec.ofChange programChecksSpec)

/-- ITS FALSE NEIGHBOUR: 'it returns false'. Refute it at one input. -/
def programChecksWrong : ChangeSpec := { name := "programChecks", fn := fun _ => fun
  | [d] => { results := [.lit (.bool false)], args := [d] }
  | _ => none }
def ProgramChecksWrongFalsely : Prop := programChecksRow.holds Tryz.pinned (OpenSpec.ofChange programChecksWrong)

/-- 'patchbaylaw21.ProgramEqual': WHATEVER THE INPUT: true; the input reads as it did. -/
def programEqualSpec : ChangeSpec := { name := "programEqual", fn := fun _ => fun
  | [d1, d2] => { results := [.lit (.bool true)], args := [d1, d2] }
  | _ => none }
def programEqualRow : OpenClaim := { program := "ytgfbikknkcaneaagreat", sum := "a2e9fb09ea6144104a5fb639cd40bcbee74c84e26ab504a042ed440c2f0d0d83", func := "patchbay/patchbaylaw21.ProgramEqual", spec := "programEqual", unfollowed := true, recurses := true, loops := true, apart := false }
def ProgramEqualSaid : Prop := programEqualRow.holds Tryz.pinned (OpenSpec.ofChange programEqualSpec)

/-- ITS FALSE NEIGHBOUR: 'it returns false'. Refute it at one input. -/
def programEqualWrong : ChangeSpec := { name := "programEqual", fn := fun _ => fun
  | [d1, d2] => { results := [.lit (.bool false)], args := [d1, d2] }
  | _ => none }
def ProgramEqualWrongFalsely : Prop := programEqualRow.holds Tryz.pinned (OpenSpec.ofChange programEqualWrong)

/-- 'patchbaylaw21.ProgramLookup': WHATEVER THE INPUT: true; the input reads as it did. -/
def programLookupSpec : ChangeSpec := { name := "programLookup", fn := fun _ => fun
  | [d1, d2, d3] => { results := [.lit (.bool true)], args := [d1, d2, d3] }
  | _ => none }
def programLookupRow : OpenClaim := { program := "ytgfbikknkcaneaagreat", sum := "a2e9fb09ea6144104a5fb639cd40bcbee74c84e26ab504a042ed440c2f0d0d83", func := "patchbay/patchbaylaw21.ProgramLookup", spec := "programLookup", unfollowed := true, recurses := true, loops := true, apart := false }
def ProgramLookupSaid : Prop := programLookupRow.holds Tryz.pinned (OpenSpec.ofChange programLookupSpec)

/-- ITS FALSE NEIGHBOUR: 'it returns false'. Refute it at one input. -/
def programLookupWrong : ChangeSpec := { name := "programLookup", fn := fun _ => fun
  | [d1, d2, d3] => { results := [.lit (.bool false)], args := [d1, d2, d3] }
  | _ => none }
def ProgramLookupWrongFalsely : Prop := programLookupRow.holds Tryz.pinned (OpenSpec.ofChange programLookupWrong)

/-- 'patchbaylaw21.ProgramNames': WHATEVER THE INPUT: true; the input reads as it did. -/
def programNamesSpec : ChangeSpec := { name := "programNames", fn := fun _ => fun
  | [d] => { results := [.lit (.bool true)], args := [d] }
  | _ => none }
def programNamesRow : OpenClaim := { program := "ytgfbikknkcaneaagreat", sum := "a2e9fb09ea6144104a5fb639cd40bcbee74c84e26ab504a042ed440c2f0d0d83", func := "patchbay/patchbaylaw21.ProgramNames", spec := "programNames", unfollowed := true, recurses := true, loops := true, apart := false }
def ProgramNamesSaid : Prop := programNamesRow.holds Tryz.pinned (OpenSpec.ofChange programNamesSpec)

/-- ITS FALSE NEIGHBOUR: 'it returns false'. Refute it at one input. -/
def programNamesWrong : ChangeSpec := { name := "programNames", fn := fun _ => fun
  | [d] => { results := [.lit (.bool false)], args := [d] }
  | _ => none }
def ProgramNamesWrongFalsely : Prop := programNamesRow.holds Tryz.pinned (OpenSpec.ofChange programNamesWrong)

/-- 'patchbaylaw21.ProgramExtends': WHATEVER THE INPUT: true; the input reads as it did. -/
def programExtendsSpec : ChangeSpec := { name := "programExtends", fn := fun _ => fun
  | [d1, d2] => { results := [.lit (.bool true)], args := [d1, d2] }
  | _ => none }
def programExtendsRow : OpenClaim := { program := "ytgfbikknkcaneaagreat", sum := "a2e9fb09ea6144104a5fb639cd40bcbee74c84e26ab504a042ed440c2f0d0d83", func := "patchbay/patchbaylaw21.ProgramExtends", spec := "programExtends", unfollowed := true, recurses := true, loops := true, apart := false }
def ProgramExtendsSaid : Prop := programExtendsRow.holds Tryz.pinned (OpenSpec.ofChange programExtendsSpec)

/-- ITS FALSE NEIGHBOUR: 'it returns false'. Refute it at one input. -/
def programExtendsWrong : ChangeSpec := { name := "programExtends", fn := fun _ => fun
  | [d1, d2] => { results := [.lit (.bool false)], args := [d1, d2] }
  | _ => none }
def ProgramExtendsWrongFalsely : Prop := programExtendsRow.holds Tryz.pinned (OpenSpec.ofChange programExtendsWrong)

/-- 'patchbaylaw21.ProgramClone': WHATEVER THE INPUT: true; the input reads as it did. -/
def programCloneSpec : ChangeSpec := { name := "programClone", fn := fun _ => fun
  | [d] => { results := [.lit (.bool true)], args := [d] }
  | _ => none }
def programCloneRow : OpenClaim := { program := "ytgfbikknkcaneaagreat", sum := "a2e9fb09ea6144104a5fb639cd40bcbee74c84e26ab504a042ed440c2f0d0d83", func := "patchbay/patchbaylaw21.ProgramClone", spec := "programClone", unfollowed := true, recurses := true, loops := true, apart := false }
def ProgramCloneSaid : Prop := programCloneRow.holds Tryz.pinned (OpenSpec.ofChange programCloneSpec)

/-- ITS FALSE NEIGHBOUR: 'it returns false'. Refute it at one input. -/
def programCloneWrong : ChangeSpec := { name := "programClone", fn := fun _ => fun
  | [d] => { results := [.lit (.bool false)], args := [d] }
  | _ => none }
def ProgramCloneWrongFalsely : Prop := programCloneRow.holds Tryz.pinned (OpenSpec.ofChange programCloneWrong)

/- THE SECOND FORM. 'bulk': how many values and letters a reading holds, each counted each time it is reached (what is shared counts as often as it is met; a slice's spare places count too). A statement '..UptoSaid' is the law's where the arguments, and the package variables that the reading takes, are together of bulk at most 1048576: NARROWER than '..Said'. Prove '..Said' where nothing that the law and all that it calls make is longer than what came in: it says more and counts as full. Else prove '..UptoSaid'. A law counts once. -/
mutual
def uptoBulk {H : Type} : DataW H → Nat
  | .lit (.string bytes) => bytes.length + 1
  | .lit _ => 1
  | .nil => 1
  | .ptr d => uptoBulk d + 1
  | .slice elems spare => uptoBulkAll elems + uptoBulkAll spare + 1
  | .agg parts => uptoBulkAll parts + 1
  | .iface _ d => uptoBulk d + 1
  | .map entries => uptoBulkEntries entries + 1
  | .held _ => 1
def uptoBulkAll {H : Type} : List (DataW H) → Nat
  | [] => 0
  | d :: r => uptoBulk d + uptoBulkAll r
def uptoBulkEntries {H : Type} : List (Lit × DataW H) → Nat
  | [] => 0
  | x :: r => uptoBulkEntry x + uptoBulkEntries r
def uptoBulkEntry {H : Type} : Lit × DataW H → Nat
  | (.string bytes, d) => bytes.length + uptoBulk d + 1
  | (_, d) => uptoBulk d + 1
 end
def uptoSmall : (H : Type) → List (DataW H) → Bool := fun _ ds => decide (uptoBulkAll ds ≤ 1048576)
def OpenSpec.upto (s : _root_.Go.ChangeSpec) : _root_.Go.OpenSpec := { _root_.Go.OpenSpec.ofChange s with cond := some uptoSmall }

/-- 'patchbaylaw34.ResourceTables', WHERE WHAT IT READS IS OF BULK AT MOST 1048576: true; the input reads as it did. -/
def resourceTablesUptoRow : OpenClaim := { program := "ytgfbikknkcaneaagreat", sum := "a2e9fb09ea6144104a5fb639cd40bcbee74c84e26ab504a042ed440c2f0d0d83", func := "patchbay/patchbaylaw34.ResourceTables", spec := "resourceTables", unfollowed := true, recurses := true, loops := true, apart := false, narrowed := true }
def ResourceTablesUptoSaid : Prop := resourceTablesUptoRow.holds Tryz.pinned (OpenSpec.upto resourceTablesSpec)

/-- 'patchbaylaw34.ResourceGrows', WHERE WHAT IT READS IS OF BULK AT MOST 1048576: true; the input reads as it did. -/
def resourceGrowsUptoRow : OpenClaim := { program := "ytgfbikknkcaneaagreat", sum := "a2e9fb09ea6144104a5fb639cd40bcbee74c84e26ab504a042ed440c2f0d0d83", func := "patchbay/patchbaylaw34.ResourceGrows", spec := "resourceGrows", unfollowed := true, recurses := true, loops := true, apart := false, narrowed := true }
def ResourceGrowsUptoSaid : Prop := resourceGrowsUptoRow.holds Tryz.pinned (OpenSpec.upto resourceGrowsSpec)

/-- 'patchbaylaw21.ProgramChecks', WHERE WHAT IT READS IS OF BULK AT MOST 1048576: true; the input reads as it did. -/
def programChecksUptoRow : OpenClaim := { program := "ytgfbikknkcaneaagreat", sum := "a2e9fb09ea6144104a5fb639cd40bcbee74c84e26ab504a042ed440c2f0d0d83", func := "patchbay/patchbaylaw21.ProgramChecks", spec := "programChecks", unfollowed := true, recurses := true, loops := true, apart := false, narrowed := true }
def ProgramChecksUptoSaid : Prop := programChecksUptoRow.holds Tryz.pinned (OpenSpec.upto programChecksSpec)

/-- 'patchbaylaw21.ProgramEqual', WHERE WHAT IT READS IS OF BULK AT MOST 1048576: true; the input reads as it did. -/
def programEqualUptoRow : OpenClaim := { program := "ytgfbikknkcaneaagreat", sum := "a2e9fb09ea6144104a5fb639cd40bcbee74c84e26ab504a042ed440c2f0d0d83", func := "patchbay/patchbaylaw21.ProgramEqual", spec := "programEqual", unfollowed := true, recurses := true, loops := true, apart := false, narrowed := true }
def ProgramEqualUptoSaid : Prop := programEqualUptoRow.holds Tryz.pinned (OpenSpec.upto programEqualSpec)

/-- 'patchbaylaw21.ProgramLookup', WHERE WHAT IT READS IS OF BULK AT MOST 1048576: true; the input reads as it did. -/
def programLookupUptoRow : OpenClaim := { program := "ytgfbikknkcaneaagreat", sum := "a2e9fb09ea6144104a5fb639cd40bcbee74c84e26ab504a042ed440c2f0d0d83", func := "patchbay/patchbaylaw21.ProgramLookup", spec := "programLookup", unfollowed := true, recurses := true, loops := true, apart := false, narrowed := true }
def ProgramLookupUptoSaid : Prop := programLookupUptoRow.holds Tryz.pinned (OpenSpec.upto programLookupSpec)

/-- 'patchbaylaw21.ProgramNames', WHERE WHAT IT READS IS OF BULK AT MOST 1048576: true; the input reads as it did. -/
def programNamesUptoRow : OpenClaim := { program := "ytgfbikknkcaneaagreat", sum := "a2e9fb09ea6144104a5fb639cd40bcbee74c84e26ab504a042ed440c2f0d0d83", func := "patchbay/patchbaylaw21.ProgramNames", spec := "programNames", unfollowed := true, recurses := true, loops := true, apart := false, narrowed := true }
def ProgramNamesUptoSaid : Prop := programNamesUptoRow.holds Tryz.pinned (OpenSpec.upto programNamesSpec)

/-- 'patchbaylaw21.ProgramExtends', WHERE WHAT IT READS IS OF BULK AT MOST 1048576: true; the input reads as it did. -/
def programExtendsUptoRow : OpenClaim := { program := "ytgfbikknkcaneaagreat", sum := "a2e9fb09ea6144104a5fb639cd40bcbee74c84e26ab504a042ed440c2f0d0d83", func := "patchbay/patchbaylaw21.ProgramExtends", spec := "programExtends", unfollowed := true, recurses := true, loops := true, apart := false, narrowed := true }
def ProgramExtendsUptoSaid : Prop := programExtendsUptoRow.holds Tryz.pinned (OpenSpec.upto programExtendsSpec)

/-- 'patchbaylaw21.ProgramClone', WHERE WHAT IT READS IS OF BULK AT MOST 1048576: true; the input reads as it did. -/
def programCloneUptoRow : OpenClaim := { program := "ytgfbikknkcaneaagreat", sum := "a2e9fb09ea6144104a5fb639cd40bcbee74c84e26ab504a042ed440c2f0d0d83", func := "patchbay/patchbaylaw21.ProgramClone", spec := "programClone", unfollowed := true, recurses := true, loops := true, apart := false, narrowed := true }
def ProgramCloneUptoSaid : Prop := programCloneUptoRow.holds Tryz.pinned (OpenSpec.upto programCloneSpec)

end Rows
end Go.Proofs.YtgfbikknkcaneaaGreat
