/-
  NARROWER THAN 'FOR EVERY INPUT', by the rows' own cells (each row's printed sentence says how): PhvAllocates: loops · PhvDisjoint: loops · PhvLoads: loops · PhvStores: loops · PhvRoundTrip: loops.
  DERIVED. THE GIVEN ROWS OF THIS SEAT. 6 by the template 'for every input the law returns true; each argument reads behind the call as it read before'; 0 by the template 'total and deterministic' (their statements: YtbfjknidinkafaaGreatTotals.lean).
  GIVEN WITH THE SEED: the statements are not yours to turn. If you find one false, say at which input.
  Laid BY PROGRAM, IN A SANDBOX (cutbox-rows.mjs): the forced cells as the released guide's own fill.sh prints them over the translation a36387458215d98b… (all of the seat's roots in one cut). By AI agents, Wed Nov 11 2026. No macro, syntax, notation, axiom, sorry.
-/
import Derived.Test.YtbfjknidinkafaaGreatChecked
import GoSem.Claim
import GoSem.ClaimJoined
import GoSem.ClaimMapViews
import Derived.JoinedTies
import Derived.KernelRfl
namespace Go.Proofs.YtbfjknidinkafaaGreat
/- THE CELL 'sum', in the pinned program and in every row, IS THE sha256 OF THE DUMP (.gsa) THAT YtbfjknidinkafaaGreatProg.lean LOADS. Nothing in Lean hashes anything: it is a label: what it is worth is what the hold of that sum in a sandbox is worth. -/
noncomputable def Tryz.pinned : Pinned := { name := "ytbfjknidinkafaagreat", sum := "a36387458215d98b616ec9fd9639b35be3c53bff9ddebac3e729394adad4bb2b", checked := Tryz.checked }
namespace Rows
def none {H : Type} : Left H := { results := [], args := [] }

/-- 'patchbaylaw36.PhvAllocates': WHATEVER THE INPUT: true; the input reads as it did. -/
def phvAllocatesSpec : ChangeSpec := { name := "phvAllocates", fn := fun _ => fun
  | [d1, d2, d3] => { results := [.lit (.bool true)], args := [d1, d2, d3] }
  | _ => none }
def phvAllocatesRow : OpenClaim := { program := "ytbfjknidinkafaagreat", sum := "a36387458215d98b616ec9fd9639b35be3c53bff9ddebac3e729394adad4bb2b", func := "patchbay/patchbaylaw36.PhvAllocates", spec := "phvAllocates", unfollowed := true, recurses := true, loops := true, apart := false }
def PhvAllocatesSaid : Prop := phvAllocatesRow.holds Tryz.pinned (OpenSpec.ofChange phvAllocatesSpec)

/-- ITS FALSE NEIGHBOUR: 'it returns false'. Refute it at one input. -/
def phvAllocatesWrong : ChangeSpec := { name := "phvAllocates", fn := fun _ => fun
  | [d1, d2, d3] => { results := [.lit (.bool false)], args := [d1, d2, d3] }
  | _ => none }
def PhvAllocatesWrongFalsely : Prop := phvAllocatesRow.holds Tryz.pinned (OpenSpec.ofChange phvAllocatesWrong)

/-- 'patchbaylaw36.PhvDisjoint': WHATEVER THE INPUT: true; the input reads as it did. -/
def phvDisjointSpec : ChangeSpec := { name := "phvDisjoint", fn := fun _ => fun
  | [d1, d2, d3] => { results := [.lit (.bool true)], args := [d1, d2, d3] }
  | _ => none }
def phvDisjointRow : OpenClaim := { program := "ytbfjknidinkafaagreat", sum := "a36387458215d98b616ec9fd9639b35be3c53bff9ddebac3e729394adad4bb2b", func := "patchbay/patchbaylaw36.PhvDisjoint", spec := "phvDisjoint", unfollowed := true, recurses := true, loops := true, apart := false }
def PhvDisjointSaid : Prop := phvDisjointRow.holds Tryz.pinned (OpenSpec.ofChange phvDisjointSpec)

/-- ITS FALSE NEIGHBOUR: 'it returns false'. Refute it at one input. -/
def phvDisjointWrong : ChangeSpec := { name := "phvDisjoint", fn := fun _ => fun
  | [d1, d2, d3] => { results := [.lit (.bool false)], args := [d1, d2, d3] }
  | _ => none }
def PhvDisjointWrongFalsely : Prop := phvDisjointRow.holds Tryz.pinned (OpenSpec.ofChange phvDisjointWrong)

/-- 'patchbaylaw36.PhvLoads': WHATEVER THE INPUT: true; the input reads as it did. -/
def phvLoadsSpec : ChangeSpec := { name := "phvLoads", fn := fun _ => fun
  | [d1, d2, d3] => { results := [.lit (.bool true)], args := [d1, d2, d3] }
  | _ => none }
def phvLoadsRow : OpenClaim := { program := "ytbfjknidinkafaagreat", sum := "a36387458215d98b616ec9fd9639b35be3c53bff9ddebac3e729394adad4bb2b", func := "patchbay/patchbaylaw36.PhvLoads", spec := "phvLoads", unfollowed := true, recurses := true, loops := true, apart := false }
def PhvLoadsSaid : Prop := phvLoadsRow.holds Tryz.pinned (OpenSpec.ofChange phvLoadsSpec)

/-- ITS FALSE NEIGHBOUR: 'it returns false'. Refute it at one input. -/
def phvLoadsWrong : ChangeSpec := { name := "phvLoads", fn := fun _ => fun
  | [d1, d2, d3] => { results := [.lit (.bool false)], args := [d1, d2, d3] }
  | _ => none }
def PhvLoadsWrongFalsely : Prop := phvLoadsRow.holds Tryz.pinned (OpenSpec.ofChange phvLoadsWrong)

/-- 'patchbaylaw36.PhvUsage': WHATEVER THE INPUT: true; the input reads as it did. -/
def phvUsageSpec : ChangeSpec := { name := "phvUsage", fn := fun _ => fun
  | [d] => { results := [.lit (.bool true)], args := [d] }
  | _ => none }
def phvUsageRow : OpenClaim := { program := "ytbfjknidinkafaagreat", sum := "a36387458215d98b616ec9fd9639b35be3c53bff9ddebac3e729394adad4bb2b", func := "patchbay/patchbaylaw36.PhvUsage", spec := "phvUsage", unfollowed := true, recurses := true, apart := false }
def PhvUsageSaid : Prop := phvUsageRow.holds Tryz.pinned (OpenSpec.ofChange phvUsageSpec)

/-- ITS FALSE NEIGHBOUR: 'it returns false'. Refute it at one input. -/
def phvUsageWrong : ChangeSpec := { name := "phvUsage", fn := fun _ => fun
  | [d] => { results := [.lit (.bool false)], args := [d] }
  | _ => none }
def PhvUsageWrongFalsely : Prop := phvUsageRow.holds Tryz.pinned (OpenSpec.ofChange phvUsageWrong)

/-- 'patchbaylaw36.PhvStores': WHATEVER THE INPUT: true; the input reads as it did. -/
def phvStoresSpec : ChangeSpec := { name := "phvStores", fn := fun _ => fun
  | [d1, d2, d3] => { results := [.lit (.bool true)], args := [d1, d2, d3] }
  | _ => none }
def phvStoresRow : OpenClaim := { program := "ytbfjknidinkafaagreat", sum := "a36387458215d98b616ec9fd9639b35be3c53bff9ddebac3e729394adad4bb2b", func := "patchbay/patchbaylaw36.PhvStores", spec := "phvStores", unfollowed := true, recurses := true, loops := true, apart := false }
def PhvStoresSaid : Prop := phvStoresRow.holds Tryz.pinned (OpenSpec.ofChange phvStoresSpec)

/-- ITS FALSE NEIGHBOUR: 'it returns false'. Refute it at one input. -/
def phvStoresWrong : ChangeSpec := { name := "phvStores", fn := fun _ => fun
  | [d1, d2, d3] => { results := [.lit (.bool false)], args := [d1, d2, d3] }
  | _ => none }
def PhvStoresWrongFalsely : Prop := phvStoresRow.holds Tryz.pinned (OpenSpec.ofChange phvStoresWrong)

/-- 'patchbaylaw36.PhvRoundTrip': WHATEVER THE INPUT: true; the input reads as it did. -/
def phvRoundTripSpec : ChangeSpec := { name := "phvRoundTrip", fn := fun _ => fun
  | [d1, d2, d3] => { results := [.lit (.bool true)], args := [d1, d2, d3] }
  | _ => none }
def phvRoundTripRow : OpenClaim := { program := "ytbfjknidinkafaagreat", sum := "a36387458215d98b616ec9fd9639b35be3c53bff9ddebac3e729394adad4bb2b", func := "patchbay/patchbaylaw36.PhvRoundTrip", spec := "phvRoundTrip", unfollowed := true, recurses := true, loops := true, apart := false }
def PhvRoundTripSaid : Prop := phvRoundTripRow.holds Tryz.pinned (OpenSpec.ofChange phvRoundTripSpec)

/-- ITS FALSE NEIGHBOUR: 'it returns false'. Refute it at one input. -/
def phvRoundTripWrong : ChangeSpec := { name := "phvRoundTrip", fn := fun _ => fun
  | [d1, d2, d3] => { results := [.lit (.bool false)], args := [d1, d2, d3] }
  | _ => none }
def PhvRoundTripWrongFalsely : Prop := phvRoundTripRow.holds Tryz.pinned (OpenSpec.ofChange phvRoundTripWrong)

/- THE SECOND FORM. 'bulk': how many values and letters a reading holds, each counted each time it is reached (what is shared counts as often as it is met; a slice's spare places count too). A statement '..UptoSaid' is the law's where the arguments, and the package variables that the reading takes, are together of bulk at most 1048576: NARROWER than '..Said'. Prove '..Said' where nothing that the law and all that it calls make is longer than what came in: it says more and counts as full. Else prove '..UptoSaid'. A law counts once. -/
mutual
def uptoBulk {H : Type} : DataW H → Nat
  | .lit (.string bytes) => bytes.length + 1
  | .lit _ => 1
  | .nil => 1
  | .ptr d => uptoBulk d + 1
  | .slice elems spare => uptoBulkAll elems + uptoBulkAll spare + 1
  | .agg parts => uptoBulkAll parts + 1
  | .iface _ d => uptoBulk d + 1
  | .map entries => uptoBulkEntries entries + 1
  | .held _ => 1
def uptoBulkAll {H : Type} : List (DataW H) → Nat
  | [] => 0
  | d :: r => uptoBulk d + uptoBulkAll r
def uptoBulkEntries {H : Type} : List (Lit × DataW H) → Nat
  | [] => 0
  | x :: r => uptoBulkEntry x + uptoBulkEntries r
def uptoBulkEntry {H : Type} : Lit × DataW H → Nat
  | (.string bytes, d) => bytes.length + uptoBulk d + 1
  | (_, d) => uptoBulk d + 1
 end
def uptoSmall : (H : Type) → List (DataW H) → Bool := fun _ ds => decide (uptoBulkAll ds ≤ 1048576)
def OpenSpec.upto (s : _root_.Go.ChangeSpec) : _root_.Go.OpenSpec := { _root_.Go.OpenSpec.ofChange s with cond := some uptoSmall }

/-- 'patchbaylaw36.PhvAllocates', WHERE WHAT IT READS IS OF BULK AT MOST 1048576: true; the input reads as it did. -/
def phvAllocatesUptoRow : OpenClaim := { program := "ytbfjknidinkafaagreat", sum := "a36387458215d98b616ec9fd9639b35be3c53bff9ddebac3e729394adad4bb2b", func := "patchbay/patchbaylaw36.PhvAllocates", spec := "phvAllocates", unfollowed := true, recurses := true, loops := true, apart := false, narrowed := true }
def PhvAllocatesUptoSaid : Prop := phvAllocatesUptoRow.holds Tryz.pinned (OpenSpec.upto phvAllocatesSpec)

/-- 'patchbaylaw36.PhvDisjoint', WHERE WHAT IT READS IS OF BULK AT MOST 1048576: true; the input reads as it did. -/
def phvDisjointUptoRow : OpenClaim := { program := "ytbfjknidinkafaagreat", sum := "a36387458215d98b616ec9fd9639b35be3c53bff9ddebac3e729394adad4bb2b", func := "patchbay/patchbaylaw36.PhvDisjoint", spec := "phvDisjoint", unfollowed := true, recurses := true, loops := true, apart := false, narrowed := true }
def PhvDisjointUptoSaid : Prop := phvDisjointUptoRow.holds Tryz.pinned (OpenSpec.upto phvDisjointSpec)

/-- 'patchbaylaw36.PhvLoads', WHERE WHAT IT READS IS OF BULK AT MOST 1048576: true; the input reads as it did. -/
def phvLoadsUptoRow : OpenClaim := { program := "ytbfjknidinkafaagreat", sum := "a36387458215d98b616ec9fd9639b35be3c53bff9ddebac3e729394adad4bb2b", func := "patchbay/patchbaylaw36.PhvLoads", spec := "phvLoads", unfollowed := true, recurses := true, loops := true, apart := false, narrowed := true }
def PhvLoadsUptoSaid : Prop := phvLoadsUptoRow.holds Tryz.pinned (OpenSpec.upto phvLoadsSpec)

/-- 'patchbaylaw36.PhvUsage', WHERE WHAT IT READS IS OF BULK AT MOST 1048576: true; the input reads as it did. -/
def phvUsageUptoRow : OpenClaim := { program := "ytbfjknidinkafaagreat", sum := "a36387458215d98b616ec9fd9639b35be3c53bff9ddebac3e729394adad4bb2b", func := "patchbay/patchbaylaw36.PhvUsage", spec := "phvUsage", unfollowed := true, recurses := true, apart := false, narrowed := true }
def PhvUsageUptoSaid : Prop := phvUsageUptoRow.holds Tryz.pinned (OpenSpec.upto phvUsageSpec)

/-- 'patchbaylaw36.PhvStores', WHERE WHAT IT READS IS OF BULK AT MOST 1048576: true; the input reads as it did. -/
def phvStoresUptoRow : OpenClaim := { program := "ytbfjknidinkafaagreat", sum := "a36387458215d98b616ec9fd9639b35be3c53bff9ddebac3e729394adad4bb2b", func := "patchbay/patchbaylaw36.PhvStores", spec := "phvStores", unfollowed := true, recurses := true, loops := true, apart := false, narrowed := true }
def PhvStoresUptoSaid : Prop := phvStoresUptoRow.holds Tryz.pinned (OpenSpec.upto phvStoresSpec)

/-- 'patchbaylaw36.PhvRoundTrip', WHERE WHAT IT READS IS OF BULK AT MOST 1048576: true; the input reads as it did. -/
def phvRoundTripUptoRow : OpenClaim := { program := "ytbfjknidinkafaagreat", sum := "a36387458215d98b616ec9fd9639b35be3c53bff9ddebac3e729394adad4bb2b", func := "patchbay/patchbaylaw36.PhvRoundTrip", spec := "phvRoundTrip", unfollowed := true, recurses := true, loops := true, apart := false, narrowed := true }
def PhvRoundTripUptoSaid : Prop := phvRoundTripUptoRow.holds Tryz.pinned (OpenSpec.upto phvRoundTripSpec)

end Rows
end Go.Proofs.YtbfjknidinkafaaGreat
