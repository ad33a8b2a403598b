/- The walk of the laws' builder Plain. -/
import Derived.Test.YtgfbikknkcaneaaPgMa
namespace Go.Proofs.Ytgfbikknkcaneaa
open Go.RowKit

set_option maxRecDepth 100000 in
theorem plain_any (w : World) : Calls Try.prog 21 #[] w fun e w' => ∃ g1 g2,
    e = .returned (.agg #[.string ⟨#[112]⟩, .slice none 0 0, .slice (some ⟨g1, 0, none⟩) 3 3, .slice none 0 0, .slice none 0 0, .slice none 0 0, .slice (some ⟨g2, 0, none⟩) 1 1, .slice none 0 0, .slice none 0 0]) ∧
    Blk w' g1 72 metaCells ∧ Blk w' g2 81 stateCells ∧ Below w.heap.size w w' := by
  go_enter Try.func21, Try.ntmps21
  go_wp2
  refine bodyPost_ret (v := .agg #[.string ⟨#[112]⟩, .slice none 0 0, .slice (some ⟨w.heap.size + 1, 0, none⟩) 3 3, .slice none 0 0, .slice none 0 0, .slice none 0 0, .slice (some ⟨w.heap.size + 2, 0, none⟩) 1 1, .slice none 0 0, .slice none 0 0]) (by simp [results, Try.results21, go_sem]) rfl ⟨w.heap.size + 1, w.heap.size + 2, rfl, ?_, ?_, ?_⟩
  · exact (Blk.newAt _ (by simp) _ _).alloc _
  · exact Blk.newAt _ (by simp) _ _
  · exact below3 _ _ _ _

theorem Try.infoKey : (Try.prog.info? 67).map (fun i => (i.zero, i.size, i.bytes)) = some (some (.agg #[.int .i64 0, .int .i64 0, .int .i64 0]), 3, 24) := by kernel_rfl
theorem mk0 (w : World) : (Instr.makeSlice 56 (.int .i64 0) (.int .i64 0)).run Try.prog w = .ok (.slice (some ⟨w.heap.size, 0, none⟩) 0 0) (w.alloc (.cells #[] 114)) := by kernel_rfl
theorem mk1 (w : World) : (Instr.makeSlice 56 (.int .i64 1) (.int .i64 1)).run Try.prog w = .ok (.slice (some ⟨w.heap.size, 0, none⟩) 1 1) (w.alloc (.cells #[.int .u32 0] 114)) := by kernel_rfl

def Sm.cells9 (s : Sm) : Array Value := #[.string ⟨#[112]⟩, .slice s.hA 0 s.hc, .slice (some ⟨s.mg, s.mo, none⟩) 3 s.mc, .slice s.rA 0 s.rc, .slice (some ⟨s.ag, s.ao, none⟩) 1 s.ac, .slice (some ⟨s.tg, s.tof, none⟩) 1 s.tc, .slice (some ⟨s.sg, s.so, none⟩) 1 s.sc, .slice s.xA 0 s.xc, .slice s.yA 0 s.yc]
end Go.Proofs.Ytgfbikknkcaneaa

