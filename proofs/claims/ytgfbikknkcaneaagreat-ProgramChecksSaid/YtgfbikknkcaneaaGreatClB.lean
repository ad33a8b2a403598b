/- The walk of package program's check of parser, control flow and deparser on any program, with its errors. No condition but that the program lies in memory, with at most ninety thousand control nodes. -/
import Derived.Test.YtgfbikknkcaneaaGreatClA
namespace Go.Proofs.YtgfbikknkcaneaaGreat
open Go.RowKit

set_option maxRecDepth 100000 in
set_option maxHeartbeats 4000000 in
theorem checkFlow_any (p : ProgD) (w : World) (o : ProgOk w p) (hc : ProgCap p) (hN : (presM p.control.l).length ≤ 90000) :
    Calls Tryz.prog 55 #[.agg (progCells p)] w fun e w' => e = outE (flowM p) ∧ Below w.heap.size w w' := by
  have HO := Lib.hid o
  have HC := Lib.hid hc
  have HN := Lib.hid hN
  have HR := Lib.hid (flowM.eq_1 p)
  obtain ⟨W, hW, hw, HB, hp⟩ := box1 w (progCells p) 31
  have HW := Lib.hid hw
  clear o hc hN hw
  go_enter Tryz.func55, Tryz.ntmps55
  go_upto_region 1 with fail
  rw [← hW]
  clear hW
  go_wp2_with fail
  refine (parserCheck_any p _ (HO.out.below (below_step HW.out (by first | exact HB | exact below_alloc HB _ | exact below_alloc (below_alloc HB _) _ | exact below_alloc (below_alloc (below_alloc HB _) _) _))) HC.out.cases).mono ?_
  rintro e w1 ⟨rfl, hbN⟩
  replace HB := below_step (by first | exact HB | exact below_alloc HB _ | exact below_alloc (below_alloc HB _) _ | exact below_alloc (below_alloc (below_alloc HB _) _) _) hbN
  clear hbN
  generalize parserM p = r at *
  obtain ⟨ri, rs, rc⟩ := r
  simp only at HR
  by_cases k1 : rc = 0
  case neg =>
    replace HR := Lib.hid (HR.out.trans (if_pos k1))
    go_wp2_with fail
    refine (require_bad rc 6 ri rs _ (beq_eq_false_iff_ne.2 k1)).mono ?_
    rintro e w' ⟨rfl, rfl⟩
    go_wp2
    exact ⟨rfl, by rw [HR.out]; rfl, below_step HW.out HB⟩
  subst k1
  replace HR := Lib.hid (HR.out.trans (if_neg (by simp)))
  go_wp2_with fail
  refine (require_ok _ _ _ _).mono ?_
  rintro e w' ⟨rfl, rfl⟩
  go_wp2_with fail
  refine (controlCheck_any p _ (HO.out.below (below_step HW.out (by first | exact HB | exact below_alloc HB _ | exact below_alloc (below_alloc HB _) _ | exact below_alloc (below_alloc (below_alloc HB _) _) _))) HN.out).mono ?_
  rintro e w2 ⟨rfl, hbN⟩
  replace HB := below_step (by first | exact HB | exact below_alloc HB _ | exact below_alloc (below_alloc HB _) _ | exact below_alloc (below_alloc (below_alloc HB _) _) _) hbN
  clear hbN
  generalize ctlM p = r at *
  obtain ⟨ri, rc⟩ := r
  simp only at HR
  by_cases k1 : rc = 0
  case neg =>
    replace HR := Lib.hid (HR.out.trans (if_pos k1))
    go_wp2_with fail
    refine (require_bad rc 7 ri 0 _ (beq_eq_false_iff_ne.2 k1)).mono ?_
    rintro e w' ⟨rfl, rfl⟩
    go_wp2
    exact ⟨rfl, by rw [HR.out]; rfl, below_step HW.out HB⟩
  subst k1
  replace HR := Lib.hid (HR.out.trans (if_neg (by simp)))
  go_wp2_with fail
  refine (require_ok _ _ _ _).mono ?_
  rintro e w' ⟨rfl, rfl⟩
  go_wp2_with fail
  refine (deparserCheck_any p _ (HO.out.below (below_step HW.out (by first | exact HB | exact below_alloc HB _ | exact below_alloc (below_alloc HB _) _ | exact below_alloc (below_alloc (below_alloc HB _) _) _))) HC.out.dep).mono ?_
  rintro e w3 ⟨rfl, hbN⟩
  replace HB := below_step (by first | exact HB | exact below_alloc HB _ | exact below_alloc (below_alloc HB _) _ | exact below_alloc (below_alloc (below_alloc HB _) _) _) hbN
  clear hbN
  generalize depM p = r at *
  obtain ⟨ri, rc⟩ := r
  simp only at HR
  by_cases k1 : rc = 0
  case neg =>
    replace HR := Lib.hid (HR.out.trans (if_pos k1))
    go_wp2_with fail
    refine (require_bad rc 8 ri 0 _ (beq_eq_false_iff_ne.2 k1)).mono ?_
    rintro e w' ⟨rfl, rfl⟩
    go_wp2
    exact ⟨rfl, by rw [HR.out]; rfl, below_step HW.out HB⟩
  subst k1
  replace HR := Lib.hid (HR.out.trans (if_neg (by simp)))
  go_wp2_with fail
  refine (require_ok _ _ _ _).mono ?_
  rintro e w' ⟨rfl, rfl⟩
  go_wp2
  go_end0
  exact ⟨by rw [HR.out]; rfl, below_step HW.out HB⟩
end Go.Proofs.YtgfbikknkcaneaaGreat

