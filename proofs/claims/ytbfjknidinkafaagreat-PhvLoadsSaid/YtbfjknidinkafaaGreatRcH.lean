/- The walk of the reference's check of a statement. No condition but that the program lies in memory. -/
import Derived.Test.YtbfjknidinkafaaGreatRcG
import Derived.Test.YtbfjknidinkafaaGreatCkJ
namespace Go.Proofs.YtbfjknidinkafaaGreat
open Go.RowKit

theorem rdecl_any (p : ProgD) (h f : Int) (w : World) (o : ProgOk w p) :
    Calls Tryz.prog 183 #[.agg (progCells p), .agg #[.int .i64 h, .int .i64 f]] w fun e w' => e = .returned (widthV (declM p h f)) ∧ Below w.heap.size w w' := by
  refine (rdeclared_any p h f w o).mono ?_
  rintro e w' ⟨rfl, hb⟩
  refine ⟨?_, hb⟩
  unfold declM
  cases declF p h f <;> rfl
set_option maxRecDepth 100000 in
set_option maxHeartbeats 8000000 in
theorem rst_assign (p : ProgD) (ps : L FieldD) (kind dh df rg hd : Int) (ix vl : L NodeD) (w : World) (o : ProgOk w p) (hps : LOk w 2 FieldD.cells ps) (os : StmtOk w ⟨kind, dh, df, rg, hd, ix, vl⟩) (hk : kind = 1) :
    Calls Tryz.prog 145 #[.agg (progCells p), .agg (stmtCells ⟨kind, dh, df, rg, hd, ix, vl⟩), .agg (scopeCells p ps)] w fun e w' => e = .returned (.int .i64 (stmtM p ps.l ⟨kind, dh, df, rg, hd, ix, vl⟩)) ∧ Below w.heap.size w w' := by
  have HO := Lib.hid o
  have HP := Lib.hid hps
  have HX := Lib.hid os.index
  have HV := Lib.hid os.value
  clear o hps os
  obtain ⟨W, hW, hw, HB, hp⟩ := box3 w (progCells p) 31 (stmtCells ⟨kind, dh, df, rg, hd, ix, vl⟩) 167 (scopeCells p ps) 196
  have HW := Lib.hid hw
  clear hw
  have HR := Lib.hid (stmtM.eq_1 p ps.l ⟨kind, dh, df, rg, hd, ix, vl⟩)
  simp only at HX HV
  subst hk
  replace HR := Lib.hid (HR.out.trans (if_pos rfl))
  have hr : rg < 0 ∨ (0 ≤ rg ∧ rg < p.registers.l.length) ∨ (0 ≤ rg ∧ ¬ rg < (p.registers.l.length : Int)) := by omega
  rcases hm : declM p dh df with _ | wd
  · replace HR : Hid (stmtM p ps.l ⟨1, dh, df, rg, hd, ix, vl⟩ = 8) := Lib.hid (by rw [HR.out]; simp only [hm])
    rcases hr with hr | ⟨hr, hr2⟩ | ⟨hr, hr2⟩
    all_goals
      go_enter Tryz.func145, Tryz.ntmps145
      go_upto_region 1 with fail
      rw [← hW]
      clear hW
      go_wp2_with fail
      refine (rdecl_any p dh df _ (HO.out.below (below_step HW.out (by first | exact HB | exact below_alloc HB _ | exact below_alloc (below_alloc HB _) _ | exact below_alloc (below_alloc (below_alloc HB _) _) _)))).mono ?_
      rintro e w1 ⟨rfl, hbN⟩
      replace HB := below_step (by first | exact HB | exact below_alloc HB _ | exact below_alloc (below_alloc HB _) _ | exact below_alloc (below_alloc (below_alloc HB _) _) _) hbN
      clear hbN
      rw [hm]
      simp only [widthV, Option.getD_none, Option.isSome_none]
      go_wp2
      go_ret
      exact ⟨by rw [HR.out]; rfl, below_step HW.out HB⟩
  · replace HR : Hid (stmtM p ps.l ⟨1, dh, df, rg, hd, ix, vl⟩ = sizedM p ps.l vl.l wd) := Lib.hid (by rw [HR.out]; simp only [hm])
    rcases hr with hr | ⟨hr, hr2⟩ | ⟨hr, hr2⟩
    all_goals
      go_enter Tryz.func145, Tryz.ntmps145
      go_upto_region 1 with fail
      rw [← hW]
      clear hW
      go_wp2_with fail
      refine (rdecl_any p dh df _ (HO.out.below (below_step HW.out (by first | exact HB | exact below_alloc HB _ | exact below_alloc (below_alloc HB _) _ | exact below_alloc (below_alloc (below_alloc HB _) _) _)))).mono ?_
      rintro e w1 ⟨rfl, hbN⟩
      replace HB := below_step (by first | exact HB | exact below_alloc HB _ | exact below_alloc (below_alloc HB _) _ | exact below_alloc (below_alloc (below_alloc HB _) _) _) hbN
      clear hbN
      rw [hm]
      simp only [widthV, Option.getD_some, Option.isSome_some]
      go_wp2_with fail
      refine (rsized_any p ps vl wd _ (HO.out.below (below_step HW.out (by first | exact HB | exact below_alloc HB _ | exact below_alloc (below_alloc HB _) _ | exact below_alloc (below_alloc (below_alloc HB _) _) _))) (HP.out.below (below_step HW.out (by first | exact HB | exact below_alloc HB _ | exact below_alloc (below_alloc HB _) _ | exact below_alloc (below_alloc (below_alloc HB _) _) _)) (Nat.le_refl _)) (HV.out.below (below_step HW.out (by first | exact HB | exact below_alloc HB _ | exact below_alloc (below_alloc HB _) _ | exact below_alloc (below_alloc (below_alloc HB _) _) _)) (Nat.le_refl _))).mono ?_
      rintro e w2 ⟨rfl, hbN⟩
      replace HB := below_step (by first | exact HB | exact below_alloc HB _ | exact below_alloc (below_alloc HB _) _ | exact below_alloc (below_alloc (below_alloc HB _) _) _) hbN
      clear hbN
      go_wp2
      go_ret
      exact ⟨by rw [HR.out]; rfl, below_step HW.out HB⟩
set_option maxRecDepth 100000 in
set_option maxHeartbeats 8000000 in
theorem rst_hdr (p : ProgD) (ps : L FieldD) (kind dh df rg hd : Int) (ix vl : L NodeD) (w : World) (o : ProgOk w p) (hps : LOk w 2 FieldD.cells ps) (os : StmtOk w ⟨kind, dh, df, rg, hd, ix, vl⟩) (hk : kind = 2 ∨ kind = 3) :
    Calls Tryz.prog 145 #[.agg (progCells p), .agg (stmtCells ⟨kind, dh, df, rg, hd, ix, vl⟩), .agg (scopeCells p ps)] w fun e w' => e = .returned (.int .i64 (stmtM p ps.l ⟨kind, dh, df, rg, hd, ix, vl⟩)) ∧ Below w.heap.size w w' := by
  have HO := Lib.hid o
  have HP := Lib.hid hps
  have HX := Lib.hid os.index
  have HV := Lib.hid os.value
  clear o hps os
  obtain ⟨W, hW, hw, HB, hp⟩ := box3 w (progCells p) 31 (stmtCells ⟨kind, dh, df, rg, hd, ix, vl⟩) 167 (scopeCells p ps) 196
  have HW := Lib.hid hw
  clear hw
  have HR := Lib.hid (stmtM.eq_1 p ps.l ⟨kind, dh, df, rg, hd, ix, vl⟩)
  simp only at HX HV
  have hr : rg < 0 ∨ (0 ≤ rg ∧ rg < p.registers.l.length) ∨ (0 ≤ rg ∧ ¬ rg < (p.registers.l.length : Int)) := by omega
  replace HR := Lib.hid (HR.out.trans ((if_neg (show ¬ kind = 1 by omega)).trans (if_pos hk)))
  have hh : hd < 0 ∨ (0 ≤ hd ∧ (p.headers.l.length : Int) ≤ hd) ∨ (0 ≤ hd ∧ hd < p.headers.l.length) := by omega
  rcases hh with hh | ⟨hh, hh2⟩ | ⟨hh, hh2⟩
  all_goals
    first
      | replace HR := Lib.hid (HR.out.trans (if_pos (Or.inl hh)))
      | replace HR := Lib.hid (HR.out.trans (if_pos (Or.inr hh2)))
      | replace HR := Lib.hid (HR.out.trans (if_neg (show ¬ (hd < 0 ∨ (p.headers.l.length : Int) ≤ hd) by omega)))
    rcases hk with rfl | rfl
    all_goals
      rcases hr with hr | ⟨hr, hr2⟩ | ⟨hr, hr2⟩
      all_goals
        go_enter Tryz.func145, Tryz.ntmps145
        go_upto_region 1 with fail
        rw [← hW]
        clear hW
        go_wp2_with fail
        refine (rdecl_any p dh df _ (HO.out.below (below_step HW.out (by first | exact HB | exact below_alloc HB _ | exact below_alloc (below_alloc HB _) _ | exact below_alloc (below_alloc (below_alloc HB _) _) _)))).mono ?_
        rintro e w1 ⟨rfl, hbN⟩
        replace HB := below_step (by first | exact HB | exact below_alloc HB _ | exact below_alloc (below_alloc HB _) _ | exact below_alloc (below_alloc (below_alloc HB _) _) _) hbN
        clear hbN
        simp only [widthV]
        go_wp2
        go_ret
        exact ⟨by rw [HR.out]; rfl, below_step HW.out HB⟩
set_option maxRecDepth 100000 in
set_option maxHeartbeats 8000000 in
theorem rst_other (p : ProgD) (ps : L FieldD) (kind dh df rg hd : Int) (ix vl : L NodeD) (w : World) (o : ProgOk w p) (hps : LOk w 2 FieldD.cells ps) (os : StmtOk w ⟨kind, dh, df, rg, hd, ix, vl⟩) (h1 : kind ≠ 1) (h2 : kind ≠ 2) (h3 : kind ≠ 3) (h4 : kind ≠ 4) (h5 : kind ≠ 5) :
    Calls Tryz.prog 145 #[.agg (progCells p), .agg (stmtCells ⟨kind, dh, df, rg, hd, ix, vl⟩), .agg (scopeCells p ps)] w fun e w' => e = .returned (.int .i64 (stmtM p ps.l ⟨kind, dh, df, rg, hd, ix, vl⟩)) ∧ Below w.heap.size w w' := by
  have HO := Lib.hid o
  have HP := Lib.hid hps
  have HX := Lib.hid os.index
  have HV := Lib.hid os.value
  clear o hps os
  obtain ⟨W, hW, hw, HB, hp⟩ := box3 w (progCells p) 31 (stmtCells ⟨kind, dh, df, rg, hd, ix, vl⟩) 167 (scopeCells p ps) 196
  have HW := Lib.hid hw
  clear hw
  have HR := Lib.hid (stmtM.eq_1 p ps.l ⟨kind, dh, df, rg, hd, ix, vl⟩)
  simp only at HX HV
  have hr : rg < 0 ∨ (0 ≤ rg ∧ rg < p.registers.l.length) ∨ (0 ≤ rg ∧ ¬ rg < (p.registers.l.length : Int)) := by omega
  replace HR := Lib.hid (HR.out.trans ((if_neg h1).trans ((if_neg (fun h => h.elim h2 h3)).trans ((if_neg h4).trans (if_neg h5)))))
  have k1 : (kind == 1) = false := beq_eq_false_iff_ne.2 h1
  have k2 : (kind == 2) = false := beq_eq_false_iff_ne.2 h2
  have k3 : (kind == 3) = false := beq_eq_false_iff_ne.2 h3
  have k4 : (kind == 4) = false := beq_eq_false_iff_ne.2 h4
  have k5 : (kind == 5) = false := beq_eq_false_iff_ne.2 h5
  clear h1 h2 h3 h4 h5
  rcases hr with hr | ⟨hr, hr2⟩ | ⟨hr, hr2⟩
  all_goals
    go_enter Tryz.func145, Tryz.ntmps145
    go_upto_region 1 with fail
    rw [← hW]
    clear hW
    go_wp2_with fail
    refine (rdecl_any p dh df _ (HO.out.below (below_step HW.out (by first | exact HB | exact below_alloc HB _ | exact below_alloc (below_alloc HB _) _ | exact below_alloc (below_alloc (below_alloc HB _) _) _)))).mono ?_
    rintro e w1 ⟨rfl, hbN⟩
    replace HB := below_step (by first | exact HB | exact below_alloc HB _ | exact below_alloc (below_alloc HB _) _ | exact below_alloc (below_alloc (below_alloc HB _) _) _) hbN
    clear hbN
    simp only [widthV]
    go_wp2
    go_ret
    exact ⟨by rw [HR.out]; rfl, below_step HW.out HB⟩
set_option maxRecDepth 100000 in
set_option maxHeartbeats 8000000 in
theorem rst_read (p : ProgD) (ps : L FieldD) (kind dh df rg hd : Int) (ix vl : L NodeD) (w : World) (o : ProgOk w p) (hps : LOk w 2 FieldD.cells ps) (os : StmtOk w ⟨kind, dh, df, rg, hd, ix, vl⟩) (hk : kind = 4) :
    Calls Tryz.prog 145 #[.agg (progCells p), .agg (stmtCells ⟨kind, dh, df, rg, hd, ix, vl⟩), .agg (scopeCells p ps)] w fun e w' => e = .returned (.int .i64 (stmtM p ps.l ⟨kind, dh, df, rg, hd, ix, vl⟩)) ∧ Below w.heap.size w w' := by
  have HO := Lib.hid o
  have HP := Lib.hid hps
  have HX := Lib.hid os.index
  have HV := Lib.hid os.value
  clear o hps os
  obtain ⟨W, hW, hw, HB, hp⟩ := box3 w (progCells p) 31 (stmtCells ⟨kind, dh, df, rg, hd, ix, vl⟩) 167 (scopeCells p ps) 196
  have HW := Lib.hid hw
  clear hw
  have HR := Lib.hid (stmtM.eq_1 p ps.l ⟨kind, dh, df, rg, hd, ix, vl⟩)
  simp only at HX HV
  subst hk
  replace HR := Lib.hid (HR.out.trans ((if_neg (show ¬ (4 : Int) = 1 by decide)).trans ((if_neg (show ¬ ((4 : Int) = 2 ∨ (4 : Int) = 3) by decide)).trans (if_pos rfl))))
  rcases regAt_cases p rg with ⟨hr, hn⟩ | ⟨k, hk, rfl, hn⟩
  · replace HR : Hid (stmtM p ps.l ⟨4, dh, df, rg, hd, ix, vl⟩ = 8) := Lib.hid (by rw [HR.out]; simp only [hn])
    clear hn
    have hr : rg < 0 ∨ (0 ≤ rg ∧ decide (rg < (p.registers.l.length : Int)) = false) := by rw [decide_eq_false_iff_not]; omega
    rcases hr with hr | ⟨hr, hr2⟩
    all_goals
      go_enter Tryz.func145, Tryz.ntmps145
      go_upto_region 1 with fail
      rw [← hW]
      clear hW
      go_wp2_with fail
      refine (rdecl_any p dh df _ (HO.out.below (below_step HW.out (by first | exact HB | exact below_alloc HB _ | exact below_alloc (below_alloc HB _) _ | exact below_alloc (below_alloc (below_alloc HB _) _) _)))).mono ?_
      rintro e w1 ⟨rfl, hbN⟩
      replace HB := below_step (by first | exact HB | exact below_alloc HB _ | exact below_alloc (below_alloc HB _) _ | exact below_alloc (below_alloc (below_alloc HB _) _) _) hbN
      clear hbN
      rcases hm : declM p dh df with _ | wd
      all_goals
        simp only [widthV, Option.getD_none, Option.isSome_none, Option.getD_some, Option.isSome_some]
        go_wp2
        go_ret
        exact ⟨by rw [HR.out]; rfl, below_step HW.out HB⟩
  rcases hm : declM p dh df with _ | wd
  · replace HR : Hid (stmtM p ps.l ⟨4, dh, df, k, hd, ix, vl⟩ = 8) := Lib.hid (by rw [HR.out]; simp only [hn, hm])
    go_enter Tryz.func145, Tryz.ntmps145
    go_upto_region 1 with fail
    rw [← hW]
    clear hW
    go_wp2_with fail
    refine (rdecl_any p dh df _ (HO.out.below (below_step HW.out (by first | exact HB | exact below_alloc HB _ | exact below_alloc (below_alloc HB _) _ | exact below_alloc (below_alloc (below_alloc HB _) _) _)))).mono ?_
    rintro e w1 ⟨rfl, hbN⟩
    replace HB := below_step (by first | exact HB | exact below_alloc HB _ | exact below_alloc (below_alloc HB _) _ | exact below_alloc (below_alloc (below_alloc HB _) _) _) hbN
    clear hbN
    rw [hm]
    simp only [widthV, Option.getD_none, Option.isSome_none]
    go_wp2
    go_ret
    exact ⟨by rw [HR.out]; rfl, below_step HW.out HB⟩
  obtain ⟨g, of, hA, hq⟩ := RegD.atA (HO.out.registers.below HW.out (Nat.le_refl _)) hk
  have HAA := Lib.hid hA
  clear hA
  replace HR : Hid (stmtM p ps.l ⟨4, dh, df, k, hd, ix, vl⟩ = if (exprM p ps.l ix.l).2 ≠ 0 then (exprM p ps.l ix.l).2 else if wd ≠ p.registers.l[k].width then 10 else 0) := Lib.hid (by rw [HR.out]; simp only [hn, hm])
  clear hn
  generalize p.registers.l[k] = y at *
  obtain ⟨yn, yw, ys⟩ := y
  simp only at HR hq
  have hbad : Hid (∀ r : Int × Int, r.2 ≠ 0 → exprM p ps.l ix.l = r → stmtM p ps.l ⟨4, dh, df, k, hd, ix, vl⟩ = r.2) := Lib.hid (by
    intro r h1 h2
    rw [HR.out, h2, if_pos h1])
  go_enter Tryz.func145, Tryz.ntmps145
  go_upto_region 1 with fail
  rw [← hW]
  clear hW
  go_wp2_with fail
  refine (rdecl_any p dh df _ (HO.out.below (below_step HW.out (by first | exact HB | exact below_alloc HB _ | exact below_alloc (below_alloc HB _) _ | exact below_alloc (below_alloc (below_alloc HB _) _) _)))).mono ?_
  rintro e w1 ⟨rfl, hbN⟩
  replace HB := below_step (by first | exact HB | exact below_alloc HB _ | exact below_alloc (below_alloc HB _) _ | exact below_alloc (below_alloc (below_alloc HB _) _) _) hbN
  clear hbN
  rw [hm]
  simp only [widthV, Option.getD_some, Option.isSome_some]
  go_wp2_with fail
  refine (rexprCheck_any p ps ix _ (HO.out.below (below_step HW.out (by first | exact HB | exact below_alloc HB _ | exact below_alloc (below_alloc HB _) _ | exact below_alloc (below_alloc (below_alloc HB _) _) _))) (HP.out.below (below_step HW.out (by first | exact HB | exact below_alloc HB _ | exact below_alloc (below_alloc HB _) _ | exact below_alloc (below_alloc (below_alloc HB _) _) _)) (Nat.le_refl _)) (HX.out.below (below_step HW.out (by first | exact HB | exact below_alloc HB _ | exact below_alloc (below_alloc HB _) _ | exact below_alloc (below_alloc (below_alloc HB _) _) _)) (Nat.le_refl _))).mono ?_
  rintro e w2 ⟨rfl, hbN⟩
  replace HB := below_step (by first | exact HB | exact below_alloc HB _ | exact below_alloc (below_alloc HB _) _ | exact below_alloc (below_alloc (below_alloc HB _) _) _) hbN
  clear hbN
  generalize hr : exprM p ps.l ix.l = r at *
  obtain ⟨a, c⟩ := r
  simp only at HR
  by_cases k5 : c = 0
  case neg =>
    have k5' : (c == 0) = false := beq_eq_false_iff_ne.2 k5
    have HR2 := Lib.hid (hbad.out _ k5 rfl)
    go_wp2
    go_ret
    exact ⟨by rw [HR2.out]; rfl, below_step HW.out HB⟩
  subst k5
  have hp2 := fun w' h => hp w' (below_step HB h)
  have hq2 := fun w' h => hq w' (below_step HB h)
  have HVV := Lib.hid HB
  have H0 := Lib.hid (Below.refl w2.heap.size w2)
  clear HB hq hp hbad
  have hp3 := hp2 w2 H0.out
  have hq3 := hq2 w2 H0.out
  simp only [progCells, HAA.out] at hp3
  by_cases k6 : wd = yw
  · subst k6
    replace HR := Lib.hid (HR.out.trans (by simp : _ = (0 : Int)))
    go_wp2
    go_ret
    exact ⟨by rw [HR.out]; rfl, below_step HW.out HVV.out⟩
  · have k6' : (wd == yw) = false := beq_eq_false_iff_ne.2 k6
    replace HR := Lib.hid (HR.out.trans (by simp [k6] : _ = (10 : Int)))
    go_wp2
    go_ret
    exact ⟨by rw [HR.out]; rfl, below_step HW.out HVV.out⟩
set_option maxRecDepth 100000 in
set_option maxHeartbeats 8000000 in
theorem rst_write (p : ProgD) (ps : L FieldD) (kind dh df rg hd : Int) (ix vl : L NodeD) (w : World) (o : ProgOk w p) (hps : LOk w 2 FieldD.cells ps) (os : StmtOk w ⟨kind, dh, df, rg, hd, ix, vl⟩) (hk : kind = 5) :
    Calls Tryz.prog 145 #[.agg (progCells p), .agg (stmtCells ⟨kind, dh, df, rg, hd, ix, vl⟩), .agg (scopeCells p ps)] w fun e w' => e = .returned (.int .i64 (stmtM p ps.l ⟨kind, dh, df, rg, hd, ix, vl⟩)) ∧ Below w.heap.size w w' := by
  have HO := Lib.hid o
  have HP := Lib.hid hps
  have HX := Lib.hid os.index
  have HV := Lib.hid os.value
  clear o hps os
  obtain ⟨W, hW, hw, HB, hp⟩ := box3 w (progCells p) 31 (stmtCells ⟨kind, dh, df, rg, hd, ix, vl⟩) 167 (scopeCells p ps) 196
  have HW := Lib.hid hw
  clear hw
  have HR := Lib.hid (stmtM.eq_1 p ps.l ⟨kind, dh, df, rg, hd, ix, vl⟩)
  simp only at HX HV
  subst hk
  replace HR := Lib.hid (HR.out.trans ((if_neg (show ¬ (5 : Int) = 1 by decide)).trans ((if_neg (show ¬ ((5 : Int) = 2 ∨ (5 : Int) = 3) by decide)).trans ((if_neg (show ¬ (5 : Int) = 4 by decide)).trans (if_pos rfl)))))
  rcases regAt_cases p rg with ⟨hr, hn⟩ | ⟨k, hk, rfl, hn⟩
  · replace HR : Hid (stmtM p ps.l ⟨5, dh, df, rg, hd, ix, vl⟩ = 8) := Lib.hid (by rw [HR.out]; simp only [hn])
    clear hn
    have hr : rg < 0 ∨ (0 ≤ rg ∧ decide (rg < (p.registers.l.length : Int)) = false) := by rw [decide_eq_false_iff_not]; omega
    rcases hr with hr | ⟨hr, hr2⟩
    all_goals
      go_enter Tryz.func145, Tryz.ntmps145
      go_upto_region 1 with fail
      rw [← hW]
      clear hW
      go_wp2_with fail
      refine (rdecl_any p dh df _ (HO.out.below (below_step HW.out (by first | exact HB | exact below_alloc HB _ | exact below_alloc (below_alloc HB _) _ | exact below_alloc (below_alloc (below_alloc HB _) _) _)))).mono ?_
      rintro e w1 ⟨rfl, hbN⟩
      replace HB := below_step (by first | exact HB | exact below_alloc HB _ | exact below_alloc (below_alloc HB _) _ | exact below_alloc (below_alloc (below_alloc HB _) _) _) hbN
      clear hbN
      simp only [widthV]
      go_wp2
      go_ret
      exact ⟨by rw [HR.out]; rfl, below_step HW.out HB⟩
  obtain ⟨g, of, hA, hq⟩ := RegD.atA (HO.out.registers.below HW.out (Nat.le_refl _)) hk
  have HAA := Lib.hid hA
  clear hA
  replace HR : Hid (stmtM p ps.l ⟨5, dh, df, k, hd, ix, vl⟩ = if (exprM p ps.l ix.l).2 ≠ 0 then (exprM p ps.l ix.l).2 else sizedM p ps.l vl.l p.registers.l[k].width) := Lib.hid (by rw [HR.out]; simp only [hn])
  clear hn
  generalize p.registers.l[k] = y at *
  obtain ⟨yn, yw, ys⟩ := y
  simp only at HR hq
  have hbad : Hid (∀ r : Int × Int, r.2 ≠ 0 → exprM p ps.l ix.l = r → stmtM p ps.l ⟨5, dh, df, k, hd, ix, vl⟩ = r.2) := Lib.hid (by
    intro r h1 h2
    rw [HR.out, h2, if_pos h1])
  go_enter Tryz.func145, Tryz.ntmps145
  go_upto_region 1 with fail
  rw [← hW]
  clear hW
  go_wp2_with fail
  refine (rdecl_any p dh df _ (HO.out.below (below_step HW.out (by first | exact HB | exact below_alloc HB _ | exact below_alloc (below_alloc HB _) _ | exact below_alloc (below_alloc (below_alloc HB _) _) _)))).mono ?_
  rintro e w1 ⟨rfl, hbN⟩
  replace HB := below_step (by first | exact HB | exact below_alloc HB _ | exact below_alloc (below_alloc HB _) _ | exact below_alloc (below_alloc (below_alloc HB _) _) _) hbN
  clear hbN
  simp only [widthV]
  go_wp2_with fail
  refine (rexprCheck_any p ps ix _ (HO.out.below (below_step HW.out (by first | exact HB | exact below_alloc HB _ | exact below_alloc (below_alloc HB _) _ | exact below_alloc (below_alloc (below_alloc HB _) _) _))) (HP.out.below (below_step HW.out (by first | exact HB | exact below_alloc HB _ | exact below_alloc (below_alloc HB _) _ | exact below_alloc (below_alloc (below_alloc HB _) _) _)) (Nat.le_refl _)) (HX.out.below (below_step HW.out (by first | exact HB | exact below_alloc HB _ | exact below_alloc (below_alloc HB _) _ | exact below_alloc (below_alloc (below_alloc HB _) _) _)) (Nat.le_refl _))).mono ?_
  rintro e w2 ⟨rfl, hbN⟩
  replace HB := below_step (by first | exact HB | exact below_alloc HB _ | exact below_alloc (below_alloc HB _) _ | exact below_alloc (below_alloc (below_alloc HB _) _) _) hbN
  clear hbN
  generalize hr : exprM p ps.l ix.l = r at *
  obtain ⟨a, c⟩ := r
  simp only at HR
  by_cases k5 : c = 0
  case neg =>
    have k5' : (c == 0) = false := beq_eq_false_iff_ne.2 k5
    have HR2 := Lib.hid (hbad.out _ k5 rfl)
    go_wp2
    go_ret
    exact ⟨by rw [HR2.out]; rfl, below_step HW.out HB⟩
  subst k5
  have hp2 := fun w' h => hp w' (below_step HB h)
  have hq2 := fun w' h => hq w' (below_step HB h)
  have HVV := Lib.hid HB
  have H0 := Lib.hid (Below.refl w2.heap.size w2)
  clear HB hq hp hbad
  replace HR := Lib.hid (HR.out.trans (by simp : _ = sizedM p ps.l vl.l yw))
  simp only [progCells, HAA.out] at hp2
  have hn1 : (k : Int) < (p.registers.l.length : Int) := by omega
  have hp3 := hp2 w2 H0.out
  go_wp2
  clear hp3
  go_region_held3 (fun w' => Below w2.heap.size w2 w') (first | exact H0.out | exact below_drew H0.out | (exact below_step (by assumption) (by assumption)) | assumption)
    (first | (go_at_call 184; refine (rsized_any p ps vl yw _ (HO.out.below (below_step HW.out (below_step HVV.out (by assumption)))) (HP.out.below (below_step HW.out (below_step HVV.out (by assumption))) (Nat.le_refl _)) (HV.out.below (below_step HW.out (below_step HVV.out (by assumption))) (Nat.le_refl _))).mono ?_; rintro e w1 ⟨rfl, hb1⟩))
  have HB5 : Hid (Below w2.heap.size w2 _) := Lib.hid (by assumption)
  go_wp2
  go_ret
  exact ⟨by rw [HR.out]; rfl, below_step HW.out (below_step HVV.out HB5.out)⟩
theorem rstatement_any (p : ProgD) (ps : L FieldD) (s : StmtD) (w : World) (o : ProgOk w p) (hps : LOk w 2 FieldD.cells ps) (os : StmtOk w s) :
    Calls Tryz.prog 145 #[.agg (progCells p), .agg (stmtCells s), .agg (scopeCells p ps)] w fun e w' => e = .returned (.int .i64 (stmtM p ps.l s)) ∧ Below w.heap.size w w' := by
  obtain ⟨kind, dh, df, rg, hd, ix, vl⟩ := s
  by_cases h1 : kind = 1
  · exact rst_assign p ps kind dh df rg hd ix vl w o hps os h1
  by_cases h2 : kind = 2
  · exact rst_hdr p ps kind dh df rg hd ix vl w o hps os (.inl h2)
  by_cases h3 : kind = 3
  · exact rst_hdr p ps kind dh df rg hd ix vl w o hps os (.inr h3)
  by_cases h4 : kind = 4
  · exact rst_read p ps kind dh df rg hd ix vl w o hps os h4
  by_cases h5 : kind = 5
  · exact rst_write p ps kind dh df rg hd ix vl w o hps os h5
  exact rst_other p ps kind dh df rg hd ix vl w o hps os h1 h2 h3 h4 h5
end Go.Proofs.YtbfjknidinkafaaGreat

