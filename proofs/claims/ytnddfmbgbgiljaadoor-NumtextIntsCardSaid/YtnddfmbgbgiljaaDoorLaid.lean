/- What the rows' listed tables give a walk, and a world that meets the condition. -/
import Derived.Test.YtnddfmbgbgiljaaDoorRows
import Derived.Test.YtnddfmbgbgiljaaDoorNumW
import Derived.ChangeSame
import Derived.ChangeVars
import Derived.LaidLaws
import Derived.LaidHandle
import Derived.Stop.Joined
import Derived.Stop.LaidErr
import Derived.Lib.LaidTab
namespace Go.Proofs.YtnddfmbgbgiljaaDoor
open Go.RowKit Go.ChangeShapes Go.WideShapes

def tables : List (String × DataW Unit) := [("math/bits.deBruijn32tab", Rows.laid_math_bits_deBruijn32tab), ("math/bits.deBruijn64tab", Rows.laid_math_bits_deBruijn64tab), ("internal/strconv.uint64pow10", Rows.laid_internal_strconv_uint64pow10)]
theorem gPow : Tryd.prog.globalNamed "internal/strconv.uint64pow10" = some 0 := by kernel_rfl
theorem powTab : (Rows.laid_internal_strconv_uint64pow10 : DataW Unit) = Lib.tabData .u64 Lib.pow10Tab := by kernel_rfl
theorem tab_of_laid {W : World} (h : laidMet Tryd.prog tables W) : Tab W := by
  have h2 : laidMet Tryd.prog [("internal/strconv.uint64pow10", Lib.tabData .u64 Lib.pow10Tab)] W := by
    rw [← powTab]
    exact laidMet.tail (laidMet.tail h)
  exact Lib.tabIs_of_head (t := 76) (e := 41) (n := 20) gPow (by kernel_rfl) Tryd.underlying76 Tryd.underlying41 (by kernel_rfl) (by kernel_rfl) h2
/-- A world that meets the condition: the settled one, the three tables laid. -/
noncomputable def laidWorld (os : Os) : World :=
  let w0 := World.holding Tryd.prog os ⟨#[], #[], []⟩
  { w0 with heap := ((w0.heap.modify 0 fun
      | .cells _ t frozen => .cells (match (Rows.laid_internal_strconv_uint64pow10 : DataW Unit) with | .agg ds => (ds.map fun | .lit (.int k n) => Value.int k n | _ => undef).toArray | _ => #[]) t frozen
      | o => o).modify 2 fun
      | .cells _ t frozen => .cells (match (Rows.laid_math_bits_deBruijn32tab : DataW Unit) with | .agg ds => (ds.map fun | .lit (.int k n) => Value.int k n | _ => undef).toArray | _ => #[]) t frozen
      | o => o).modify 3 fun
      | .cells _ t frozen => .cells (match (Rows.laid_math_bits_deBruijn64tab : DataW Unit) with | .agg ds => (ds.map fun | .lit (.int k n) => Value.int k n | _ => undef).toArray | _ => #[]) t frozen
      | o => o }
theorem laidWorld_met (os : Os) (args : Array Value) : laidMet Tryd.prog tables ((laidWorld os).forCall (fun _ _ => 0) ⟨#[], args, []⟩).memory :=
  laidMet_of_run' 8 (by kernel_rfl) (by kernel_rfl)
theorem wants_none (f : TypeId → Bool) {ps : Array TypeId} (h : (ps.all fun t => !f t) = true) (j : Nat) (t : TypeId) (ht : ps[j]? = some t) : f t = false := by
  obtain ⟨hj, rfl⟩ := Array.getElem?_eq_some_iff.1 ht
  have := Array.all_eq_true.1 h j hj
  simpa using this
end Go.Proofs.YtnddfmbgbgiljaaDoor
