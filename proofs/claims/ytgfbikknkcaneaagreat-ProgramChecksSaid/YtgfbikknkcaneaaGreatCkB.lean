/- The walk of program.checkLimits with its errors. No condition but the length of the name. -/
import Derived.Test.YtgfbikknkcaneaaGreatCkA
namespace Go.Proofs.YtgfbikknkcaneaaGreat
open Go.RowKit

set_option maxRecDepth 100000 in
set_option maxHeartbeats 4000000 in
theorem checkLimits_any (p : ProgD) (w : World) (hs : p.name.size ≤ maxLen) :
    Calls Tryz.prog 51 #[p.val] w fun e w' => e = outE (limM p) ∧ Below w.heap.size w w' := by
  have HS := Lib.hid hs
  clear hs
  obtain ⟨W, hW, hb, H0, hp⟩ := prog_box w p 31
  have HB := Lib.hid hb
  clear hb
  simp only [ProgD.val, L.v]
  go_enter Tryz.func51, Tryz.ntmps51
  go_wp2_with fail
  rw [← hW]
  clear hW
  refine (identifier_any p.name _ HS.out).mono ?_
  rintro e w' ⟨rfl, rfl⟩
  by_cases k1 : ident p.name = false
  · have HR := Lib.hid (show limM p = some ⟨6, 0, 0, 0⟩ by rw [limM, if_pos k1])
    rw [k1]
    go_wp2_with fail
    refine (when_true _ _ _ rfl).mono ?_
    rintro e w' ⟨rfl, rfl⟩
    go_wp2_with fail
    refine (require_bad 6 0 0 0 _ rfl).mono ?_
    rintro e w' ⟨rfl, rfl⟩
    go_wp2
    exact ⟨rfl, by rw [HR.out]; rfl, HB.out⟩
  have k1' : ident p.name = true := by simpa using k1
  rw [k1']
  go_wp2_with fail
  refine (when_false _ _ _ rfl).mono ?_
  rintro e w' ⟨rfl, rfl⟩
  go_wp2_with fail
  refine (require_ok _ _ _ _).mono ?_
  rintro e w' ⟨rfl, rfl⟩
  by_cases k2 : 8 < p.headers.l.length
  · have HR := Lib.hid (show limM p = some ⟨12, 0, 1, 0⟩ by rw [limM, if_neg k1, if_pos k2])
    go_wp2_with fail
    refine (when_true _ _ _ (by first | rfl | (simp; omega))).mono ?_
    rintro e w' ⟨rfl, rfl⟩
    go_wp2_with fail
    refine (require_bad 12 0 1 0 _ rfl).mono ?_
    rintro e w' ⟨rfl, rfl⟩
    go_wp2
    exact ⟨rfl, by rw [HR.out]; rfl, HB.out⟩
  go_wp2_with fail
  refine (when_false _ _ _ (by first | rfl | (simp; omega))).mono ?_
  rintro e w' ⟨rfl, rfl⟩
  go_wp2_with fail
  refine (require_ok _ _ _ _).mono ?_
  rintro e w' ⟨rfl, rfl⟩
  by_cases k3 : 4 < p.registers.l.length
  · have HR := Lib.hid (show limM p = some ⟨12, 0, 3, 0⟩ by rw [limM, if_neg k1, if_neg k2, if_pos k3])
    go_wp2_with fail
    refine (when_true _ _ _ (by first | rfl | (simp; omega))).mono ?_
    rintro e w' ⟨rfl, rfl⟩
    go_wp2_with fail
    refine (require_bad 12 0 3 0 _ rfl).mono ?_
    rintro e w' ⟨rfl, rfl⟩
    go_wp2
    exact ⟨rfl, by rw [HR.out]; rfl, HB.out⟩
  go_wp2_with fail
  refine (when_false _ _ _ (by first | rfl | (simp; omega))).mono ?_
  rintro e w' ⟨rfl, rfl⟩
  go_wp2_with fail
  refine (require_ok _ _ _ _).mono ?_
  rintro e w' ⟨rfl, rfl⟩
  by_cases k4 : 16 < p.actions.l.length
  · have HR := Lib.hid (show limM p = some ⟨12, 0, 4, 0⟩ by rw [limM, if_neg k1, if_neg k2, if_neg k3, if_pos k4])
    go_wp2_with fail
    refine (when_true _ _ _ (by first | rfl | (simp; omega))).mono ?_
    rintro e w' ⟨rfl, rfl⟩
    go_wp2_with fail
    refine (require_bad 12 0 4 0 _ rfl).mono ?_
    rintro e w' ⟨rfl, rfl⟩
    go_wp2
    exact ⟨rfl, by rw [HR.out]; rfl, HB.out⟩
  go_wp2_with fail
  refine (when_false _ _ _ (by first | rfl | (simp; omega))).mono ?_
  rintro e w' ⟨rfl, rfl⟩
  go_wp2_with fail
  refine (require_ok _ _ _ _).mono ?_
  rintro e w' ⟨rfl, rfl⟩
  by_cases k5 : 12 < p.tables.l.length
  · have HR := Lib.hid (show limM p = some ⟨12, 0, 5, 0⟩ by rw [limM, if_neg k1, if_neg k2, if_neg k3, if_neg k4, if_pos k5])
    go_wp2_with fail
    refine (when_true _ _ _ (by first | rfl | (simp; omega))).mono ?_
    rintro e w' ⟨rfl, rfl⟩
    go_wp2_with fail
    refine (require_bad 12 0 5 0 _ rfl).mono ?_
    rintro e w' ⟨rfl, rfl⟩
    go_wp2
    exact ⟨rfl, by rw [HR.out]; rfl, HB.out⟩
  have HR := Lib.hid (show limM p = none by rw [limM, if_neg k1, if_neg k2, if_neg k3, if_neg k4, if_neg k5])
  go_wp2_with fail
  refine (when_false _ _ _ (by first | rfl | (simp; omega))).mono ?_
  rintro e w' ⟨rfl, rfl⟩
  go_wp2_with fail
  refine (require_ok _ _ _ _).mono ?_
  rintro e w' ⟨rfl, rfl⟩
  go_wp2
  go_end0
  exact ⟨by rw [HR.out]; rfl, HB.out⟩
end Go.Proofs.YtgfbikknkcaneaaGreat

