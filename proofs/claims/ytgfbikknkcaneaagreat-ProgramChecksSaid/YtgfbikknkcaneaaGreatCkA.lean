/- Walks of small checks: register.Check. No condition but the lengths of texts. -/
import Derived.Test.YtgfbikknkcaneaaGreatCkK
namespace Go.Proofs.YtgfbikknkcaneaaGreat
open Go.RowKit

theorem sized_any (nm : ByteArray) (wd sz : Int) (w : World) :
    Calls Tryz.prog 166 #[.agg #[.string nm, .int .i64 wd, .int .i64 sz]] w fun e w' => e = .returned (.bool (decide (1 ≤ sz) && decide (sz ≤ 64))) ∧ Below w.heap.size w w' := by
  go_enter Tryz.func166, Tryz.ntmps166
  go_wp2
  all_goals (go_ret; exact ⟨ret_bool (by rw [Bool.eq_iff_iff]; simp; omega), below1 _ _⟩)

set_option maxRecDepth 100000 in
set_option maxHeartbeats 1000000 in
theorem registerCheck_any (r : RegD) (w : World) (hs : r.name.size ≤ maxLen) :
    Calls Tryz.prog 119 #[.agg #[.string r.name, .int .i64 r.width, .int .i64 r.size]] w fun e w' => e = .returned (.int .i64 (regM r)) ∧ Below w.heap.size w w' := by
  obtain ⟨nm, wd, sz⟩ := r
  have HS := Lib.hid hs
  obtain ⟨W, hW, hw, HB, hp⟩ := box1 w #[.string nm, .int .i64 wd, .int .i64 sz] 65
  have HW := Lib.hid hw
  clear hs hw
  have HR : Hid (regM ⟨nm, wd, sz⟩ = if ident nm = false then 6 else if okW wd = false then 10 else if sz < 1 ∨ 64 < sz then 9 else 0) := Lib.hid rfl
  have hz := mask_zero wd
  go_enter Tryz.func119, Tryz.ntmps119
  go_wp2_with fail
  rw [← hW]
  clear hW
  refine (isIdent_any nm _ HS.out).mono ?_
  rintro e w' ⟨rfl, rfl⟩
  cases h1 : identM nm.data.toList
  · replace HR := Lib.hid (HR.out.trans (if_pos (show ident nm = false from h1)))
    go_wp2
    go_ret
    exact ⟨by rw [HR.out]; rfl, below_step HW.out HB⟩
  replace HR := Lib.hid (HR.out.trans (if_neg (show ¬ ident nm = false by rw [show ident nm = true from h1]; simp)))
  go_wp2_with fail
  refine (mask_any wd _).mono ?_
  rintro e w1 ⟨rfl, hbN⟩
  replace HB := below_step (by first | exact HB | exact below_alloc HB _ | exact below_alloc (below_alloc HB _) _ | exact below_alloc (below_alloc (below_alloc HB _) _) _) hbN
  clear hbN
  cases h2 : okW wd
  · replace HR := Lib.hid (HR.out.trans (if_pos h2))
    rw [h2] at hz
    go_wp2
    go_ret
    exact ⟨by rw [HR.out]; rfl, below_step HW.out HB⟩
  replace HR := Lib.hid (HR.out.trans (if_neg (show ¬ okW wd = false by rw [h2]; simp)))
  rw [h2] at hz
  go_wp2_with fail
  refine (sized_any nm wd sz _).mono ?_
  rintro e w2 ⟨rfl, hbN⟩
  replace HB := below_step (by first | exact HB | exact below_alloc HB _ | exact below_alloc (below_alloc HB _) _ | exact below_alloc (below_alloc (below_alloc HB _) _) _) hbN
  clear hbN
  cases h3 : (decide (1 ≤ sz) && decide (sz ≤ 64))
  · replace HR := Lib.hid (HR.out.trans (if_pos (by simp at h3; omega)))
    go_wp2
    go_ret
    exact ⟨by rw [HR.out]; rfl, below_step HW.out HB⟩
  · replace HR := Lib.hid (HR.out.trans (if_neg (by simp at h3; omega)))
    go_wp2
    go_ret
    exact ⟨by rw [HR.out]; rfl, below_step HW.out HB⟩
end Go.Proofs.YtgfbikknkcaneaaGreat

