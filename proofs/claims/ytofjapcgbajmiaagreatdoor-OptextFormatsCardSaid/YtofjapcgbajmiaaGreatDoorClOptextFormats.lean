/- The closed facts of the row of the law OptextFormats, computed once, ahead of the proof. No condition. -/
import Derived.Test.YtofjapcgbajmiaaGreatDoorRows
import Derived.WalkKit
import Derived.ProofKit
import Derived.OpenShut
import Derived.ChangeSame
import Derived.ChangeVars
import Derived.Stop.Joined
import Derived.SevenTiedAt
namespace Go.Proofs.YtofjapcgbajmiaaGreatDoor.optextFormats
open Go.ChangeShapes Go.WideShapes Go.ChangeAt Go.RowKit
theorem closed : joinedFacts Tryz.pinned.checked.prog 3 Tryz.f3 Rows.optextFormatsSpec Rows.optextFormatsRow = true := by kernel_rfl
end Go.Proofs.YtofjapcgbajmiaaGreatDoor.optextFormats

