/- The walk of package action's check of a statement on any program. No condition but that the program lies in memory. -/
import Derived.Test.YtbfjknidinkafaaGreatCkI
namespace Go.Proofs.YtbfjknidinkafaaGreat
open Go.RowKit

theorem box3 (w : World) (cs : Array Value) (t : TypeId) (cs2 : Array Value) (t2 : TypeId) (cs3 : Array Value) (t3 : TypeId) : ∃ W, W = ((w.alloc (.cells cs t)).alloc (.cells cs2 t2)).alloc (.cells cs3 t3) ∧ Below w.heap.size w W ∧ Below W.heap.size W W ∧
    ∀ w', Below W.heap.size W w' → (∀ i, i < cs.size → w'.cell? ⟨w.heap.size, i, none⟩ = cs[i]?) ∧ (∀ i, i < cs2.size → w'.cell? ⟨w.heap.size + 1, i, none⟩ = cs2[i]?) ∧ ∀ i, i < cs3.size → w'.cell? ⟨w.heap.size + 1 + 1, i, none⟩ = cs3[i]? := by
  obtain ⟨W1, e1, b1, _, h1⟩ := box1 w cs t
  obtain ⟨W2, e2, b2, _, h2⟩ := box1 W1 cs2 t2
  obtain ⟨W3, e3, b3, _, h3⟩ := box1 W2 cs3 t3
  have s1 : W1.heap.size = w.heap.size + 1 := by rw [e1]; simp
  have s2 : W2.heap.size = w.heap.size + 1 + 1 := by rw [e2, World.size_alloc, s1]
  rw [s1] at h2
  rw [s2] at h3
  exact ⟨W3, by rw [e3, e2, e1], below_step b1 (below_step b2 b3), Below.refl _ _, fun w' hb => ⟨h1 w' (below_step b2 (below_step b3 hb)), h2 w' (below_step b3 hb), h3 w' hb⟩⟩

theorem regAt_cases (p : ProgD) (i : Int) : ((i < 0 ∨ (p.registers.l.length : Int) ≤ i) ∧ regAt p i = none) ∨ ∃ k : Nat, ∃ hk : k < p.registers.l.length, i = k ∧ regAt p i = some p.registers.l[k] := by
  by_cases h1 : i < 0
  · exact .inl ⟨.inl h1, by rw [regAt, if_pos h1]⟩
  · obtain ⟨k, rfl⟩ : ∃ k : Nat, i = k := ⟨i.toNat, by omega⟩
    by_cases h2 : k < p.registers.l.length
    · exact .inr ⟨k, h2, rfl, by rw [regAt, if_neg h1]; simp [h2]⟩
    · exact .inl ⟨.inr (by omega), by rw [regAt, if_neg h1]; simp [List.getElem?_eq_none (Nat.le_of_not_lt h2)]⟩
@[reducible] def stmtCells (s : StmtD) : Array Value := #[.int .i64 s.kind, .int .i64 s.dh, .int .i64 s.df, .int .i64 s.reg, .int .i64 s.hdr, .slice s.index.A s.index.l.length s.index.c, .slice s.value.A s.value.l.length s.value.c]

set_option maxRecDepth 100000 in
set_option maxHeartbeats 8000000 in
theorem st_assign (p : ProgD) (ps : L FieldD) (kind dh df rg hd : Int) (ix vl : L NodeD) (w : World) (o : ProgOk w p) (hps : LOk w 2 FieldD.cells ps) (os : StmtOk w ⟨kind, dh, df, rg, hd, ix, vl⟩) (hk : kind = 1) :
    Calls Tryz.prog 171 #[.agg (scopeCells p ps), .agg (stmtCells ⟨kind, dh, df, rg, hd, ix, vl⟩)] w fun e w' => e = .returned (.int .i64 (stmtM p ps.l ⟨kind, dh, df, rg, hd, ix, vl⟩)) ∧ Below w.heap.size w w' := by
  have HO := Lib.hid o
  have HP := Lib.hid hps
  have HX := Lib.hid os.index
  have HV := Lib.hid os.value
  clear o hps os
  obtain ⟨W, hW, hw, HB, hp⟩ := box3 w (scopeCells p ps) 219 (stmtCells ⟨kind, dh, df, rg, hd, ix, vl⟩) 167 (progCells p) 31
  have HW := Lib.hid hw
  clear hw
  have HR := Lib.hid (stmtM.eq_1 p ps.l ⟨kind, dh, df, rg, hd, ix, vl⟩)
  simp only at HX HV
  subst hk
  replace HR := Lib.hid (HR.out.trans (if_pos rfl))
  have hr : rg < 0 ∨ (0 ≤ rg ∧ rg < p.registers.l.length) ∨ (0 ≤ rg ∧ (p.registers.l.length : Int) ≤ rg) := by omega
  rcases hm : declM p dh df with _ | wd
  · replace HR : Hid (stmtM p ps.l ⟨1, dh, df, rg, hd, ix, vl⟩ = 8) := Lib.hid (by rw [HR.out]; simp only [hm])
    rcases hr with hr | ⟨hr, hr2⟩ | ⟨hr, hr2⟩
    all_goals
      go_enter Tryz.func171, Tryz.ntmps171
      go_upto_region 2 with fail
      rw [← hW]
      clear hW
      go_wp2_with fail
      refine (awidth_any p dh df _ (HO.out.below (below_step HW.out (by first | exact HB | exact below_alloc HB _ | exact below_alloc (below_alloc HB _) _ | exact below_alloc (below_alloc (below_alloc HB _) _) _)))).mono ?_
      rintro e w1 ⟨rfl, hbN⟩
      replace HB := below_step (by first | exact HB | exact below_alloc HB _ | exact below_alloc (below_alloc HB _) _ | exact below_alloc (below_alloc (below_alloc HB _) _) _) hbN
      clear hbN
      rw [hm]
      simp only [widthV, Option.getD_none, Option.isSome_none]
      go_wp2
      go_ret
      exact ⟨by rw [HR.out]; rfl, below_step HW.out HB⟩
  · replace HR : Hid (stmtM p ps.l ⟨1, dh, df, rg, hd, ix, vl⟩ = sizedM p ps.l vl.l wd) := Lib.hid (by rw [HR.out]; simp only [hm])
    rcases hr with hr | ⟨hr, hr2⟩ | ⟨hr, hr2⟩
    all_goals
      go_enter Tryz.func171, Tryz.ntmps171
      go_upto_region 2 with fail
      rw [← hW]
      clear hW
      go_wp2_with fail
      refine (awidth_any p dh df _ (HO.out.below (below_step HW.out (by first | exact HB | exact below_alloc HB _ | exact below_alloc (below_alloc HB _) _ | exact below_alloc (below_alloc (below_alloc HB _) _) _)))).mono ?_
      rintro e w1 ⟨rfl, hbN⟩
      replace HB := below_step (by first | exact HB | exact below_alloc HB _ | exact below_alloc (below_alloc HB _) _ | exact below_alloc (below_alloc (below_alloc HB _) _) _) hbN
      clear hbN
      rw [hm]
      simp only [widthV, Option.getD_some, Option.isSome_some]
      go_wp2_with fail
      refine (avalue_any p ps vl wd _ (HO.out.below (below_step HW.out (by first | exact HB | exact below_alloc HB _ | exact below_alloc (below_alloc HB _) _ | exact below_alloc (below_alloc (below_alloc HB _) _) _))) (HP.out.below (below_step HW.out (by first | exact HB | exact below_alloc HB _ | exact below_alloc (below_alloc HB _) _ | exact below_alloc (below_alloc (below_alloc HB _) _) _)) (Nat.le_refl _)) (HV.out.below (below_step HW.out (by first | exact HB | exact below_alloc HB _ | exact below_alloc (below_alloc HB _) _ | exact below_alloc (below_alloc (below_alloc HB _) _) _)) (Nat.le_refl _))).mono ?_
      rintro e w2 ⟨rfl, hbN⟩
      replace HB := below_step (by first | exact HB | exact below_alloc HB _ | exact below_alloc (below_alloc HB _) _ | exact below_alloc (below_alloc (below_alloc HB _) _) _) hbN
      clear hbN
      go_wp2
      go_ret
      exact ⟨by rw [HR.out]; rfl, below_step HW.out HB⟩
set_option maxRecDepth 100000 in
set_option maxHeartbeats 8000000 in
theorem st_hdr (p : ProgD) (ps : L FieldD) (kind dh df rg hd : Int) (ix vl : L NodeD) (w : World) (o : ProgOk w p) (hps : LOk w 2 FieldD.cells ps) (os : StmtOk w ⟨kind, dh, df, rg, hd, ix, vl⟩) (hk : kind = 2 ∨ kind = 3) :
    Calls Tryz.prog 171 #[.agg (scopeCells p ps), .agg (stmtCells ⟨kind, dh, df, rg, hd, ix, vl⟩)] w fun e w' => e = .returned (.int .i64 (stmtM p ps.l ⟨kind, dh, df, rg, hd, ix, vl⟩)) ∧ Below w.heap.size w w' := by
  have HO := Lib.hid o
  have HP := Lib.hid hps
  have HX := Lib.hid os.index
  have HV := Lib.hid os.value
  clear o hps os
  obtain ⟨W, hW, hw, HB, hp⟩ := box3 w (scopeCells p ps) 219 (stmtCells ⟨kind, dh, df, rg, hd, ix, vl⟩) 167 (progCells p) 31
  have HW := Lib.hid hw
  clear hw
  have HR := Lib.hid (stmtM.eq_1 p ps.l ⟨kind, dh, df, rg, hd, ix, vl⟩)
  simp only at HX HV
  have hr : rg < 0 ∨ (0 ≤ rg ∧ rg < p.registers.l.length) ∨ (0 ≤ rg ∧ (p.registers.l.length : Int) ≤ rg) := by omega
  replace HR := Lib.hid (HR.out.trans ((if_neg (show ¬ kind = 1 by omega)).trans (if_pos hk)))
  have hh : hd < 0 ∨ (0 ≤ hd ∧ (p.headers.l.length : Int) ≤ hd) ∨ (0 ≤ hd ∧ hd < p.headers.l.length) := by omega
  rcases hh with hh | ⟨hh, hh2⟩ | ⟨hh, hh2⟩
  all_goals
    first
      | replace HR := Lib.hid (HR.out.trans (if_pos (Or.inl hh)))
      | replace HR := Lib.hid (HR.out.trans (if_pos (Or.inr hh2)))
      | replace HR := Lib.hid (HR.out.trans (if_neg (show ¬ (hd < 0 ∨ (p.headers.l.length : Int) ≤ hd) by omega)))
    rcases hk with rfl | rfl
    all_goals
      rcases hr with hr | ⟨hr, hr2⟩ | ⟨hr, hr2⟩
      all_goals
        go_enter Tryz.func171, Tryz.ntmps171
        go_upto_region 2 with fail
        rw [← hW]
        clear hW
        go_wp2_with fail
        refine (awidth_any p dh df _ (HO.out.below (below_step HW.out (by first | exact HB | exact below_alloc HB _ | exact below_alloc (below_alloc HB _) _ | exact below_alloc (below_alloc (below_alloc HB _) _) _)))).mono ?_
        rintro e w1 ⟨rfl, hbN⟩
        replace HB := below_step (by first | exact HB | exact below_alloc HB _ | exact below_alloc (below_alloc HB _) _ | exact below_alloc (below_alloc (below_alloc HB _) _) _) hbN
        clear hbN
        simp only [widthV]
        go_wp2
        go_ret
        exact ⟨by rw [HR.out]; rfl, below_step HW.out HB⟩
set_option maxRecDepth 100000 in
set_option maxHeartbeats 8000000 in
theorem st_other (p : ProgD) (ps : L FieldD) (kind dh df rg hd : Int) (ix vl : L NodeD) (w : World) (o : ProgOk w p) (hps : LOk w 2 FieldD.cells ps) (os : StmtOk w ⟨kind, dh, df, rg, hd, ix, vl⟩) (h1 : kind ≠ 1) (h2 : kind ≠ 2) (h3 : kind ≠ 3) (h4 : kind ≠ 4) (h5 : kind ≠ 5) :
    Calls Tryz.prog 171 #[.agg (scopeCells p ps), .agg (stmtCells ⟨kind, dh, df, rg, hd, ix, vl⟩)] w fun e w' => e = .returned (.int .i64 (stmtM p ps.l ⟨kind, dh, df, rg, hd, ix, vl⟩)) ∧ Below w.heap.size w w' := by
  have HO := Lib.hid o
  have HP := Lib.hid hps
  have HX := Lib.hid os.index
  have HV := Lib.hid os.value
  clear o hps os
  obtain ⟨W, hW, hw, HB, hp⟩ := box3 w (scopeCells p ps) 219 (stmtCells ⟨kind, dh, df, rg, hd, ix, vl⟩) 167 (progCells p) 31
  have HW := Lib.hid hw
  clear hw
  have HR := Lib.hid (stmtM.eq_1 p ps.l ⟨kind, dh, df, rg, hd, ix, vl⟩)
  simp only at HX HV
  have hr : rg < 0 ∨ (0 ≤ rg ∧ rg < p.registers.l.length) ∨ (0 ≤ rg ∧ (p.registers.l.length : Int) ≤ rg) := by omega
  replace HR := Lib.hid (HR.out.trans ((if_neg h1).trans ((if_neg (fun h => h.elim h2 h3)).trans ((if_neg h4).trans (if_neg h5)))))
  have k1 : (kind == 1) = false := beq_eq_false_iff_ne.2 h1
  have k2 : (kind == 2) = false := beq_eq_false_iff_ne.2 h2
  have k3 : (kind == 3) = false := beq_eq_false_iff_ne.2 h3
  have k4 : (kind == 4) = false := beq_eq_false_iff_ne.2 h4
  have k5 : (kind == 5) = false := beq_eq_false_iff_ne.2 h5
  clear h1 h2 h3 h4 h5
  rcases hr with hr | ⟨hr, hr2⟩ | ⟨hr, hr2⟩
  all_goals
    go_enter Tryz.func171, Tryz.ntmps171
    go_upto_region 2 with fail
    rw [← hW]
    clear hW
    go_wp2_with fail
    refine (awidth_any p dh df _ (HO.out.below (below_step HW.out (by first | exact HB | exact below_alloc HB _ | exact below_alloc (below_alloc HB _) _ | exact below_alloc (below_alloc (below_alloc HB _) _) _)))).mono ?_
    rintro e w1 ⟨rfl, hbN⟩
    replace HB := below_step (by first | exact HB | exact below_alloc HB _ | exact below_alloc (below_alloc HB _) _ | exact below_alloc (below_alloc (below_alloc HB _) _) _) hbN
    clear hbN
    simp only [widthV]
    go_wp2
    go_ret
    exact ⟨by rw [HR.out]; rfl, below_step HW.out HB⟩
set_option maxRecDepth 100000 in
set_option maxHeartbeats 8000000 in
theorem st_read (p : ProgD) (ps : L FieldD) (kind dh df rg hd : Int) (ix vl : L NodeD) (w : World) (o : ProgOk w p) (hps : LOk w 2 FieldD.cells ps) (os : StmtOk w ⟨kind, dh, df, rg, hd, ix, vl⟩) (hk : kind = 4) :
    Calls Tryz.prog 171 #[.agg (scopeCells p ps), .agg (stmtCells ⟨kind, dh, df, rg, hd, ix, vl⟩)] w fun e w' => e = .returned (.int .i64 (stmtM p ps.l ⟨kind, dh, df, rg, hd, ix, vl⟩)) ∧ Below w.heap.size w w' := by
  have HO := Lib.hid o
  have HP := Lib.hid hps
  have HX := Lib.hid os.index
  have HV := Lib.hid os.value
  clear o hps os
  obtain ⟨W, hW, hw, HB, hp⟩ := box3 w (scopeCells p ps) 219 (stmtCells ⟨kind, dh, df, rg, hd, ix, vl⟩) 167 (progCells p) 31
  have HW := Lib.hid hw
  clear hw
  have HR := Lib.hid (stmtM.eq_1 p ps.l ⟨kind, dh, df, rg, hd, ix, vl⟩)
  simp only at HX HV
  subst hk
  replace HR := Lib.hid (HR.out.trans ((if_neg (show ¬ (4 : Int) = 1 by decide)).trans ((if_neg (show ¬ ((4 : Int) = 2 ∨ (4 : Int) = 3) by decide)).trans (if_pos rfl))))
  rcases regAt_cases p rg with ⟨hr, hn⟩ | ⟨k, hk, rfl, hn⟩
  · replace HR : Hid (stmtM p ps.l ⟨4, dh, df, rg, hd, ix, vl⟩ = 8) := Lib.hid (by rw [HR.out]; simp only [hn])
    clear hn
    have hr : rg < 0 ∨ (0 ≤ rg ∧ (p.registers.l.length : Int) ≤ rg) := by omega
    rcases hr with hr | ⟨hr, hr2⟩
    all_goals
      go_enter Tryz.func171, Tryz.ntmps171
      go_upto_region 2 with fail
      rw [← hW]
      clear hW
      go_wp2_with fail
      refine (awidth_any p dh df _ (HO.out.below (below_step HW.out (by first | exact HB | exact below_alloc HB _ | exact below_alloc (below_alloc HB _) _ | exact below_alloc (below_alloc (below_alloc HB _) _) _)))).mono ?_
      rintro e w1 ⟨rfl, hbN⟩
      replace HB := below_step (by first | exact HB | exact below_alloc HB _ | exact below_alloc (below_alloc HB _) _ | exact below_alloc (below_alloc (below_alloc HB _) _) _) hbN
      clear hbN
      simp only [widthV]
      go_wp2
      go_ret
      exact ⟨by rw [HR.out]; rfl, below_step HW.out HB⟩
  rcases hm : declM p dh df with _ | wd
  · replace HR : Hid (stmtM p ps.l ⟨4, dh, df, k, hd, ix, vl⟩ = 8) := Lib.hid (by rw [HR.out]; simp only [hn, hm])
    go_enter Tryz.func171, Tryz.ntmps171
    go_upto_region 2 with fail
    rw [← hW]
    clear hW
    go_wp2_with fail
    refine (awidth_any p dh df _ (HO.out.below (below_step HW.out (by first | exact HB | exact below_alloc HB _ | exact below_alloc (below_alloc HB _) _ | exact below_alloc (below_alloc (below_alloc HB _) _) _)))).mono ?_
    rintro e w1 ⟨rfl, hbN⟩
    replace HB := below_step (by first | exact HB | exact below_alloc HB _ | exact below_alloc (below_alloc HB _) _ | exact below_alloc (below_alloc (below_alloc HB _) _) _) hbN
    clear hbN
    rw [hm]
    simp only [widthV, Option.getD_none, Option.isSome_none]
    go_wp2
    go_ret
    exact ⟨by rw [HR.out]; rfl, below_step HW.out HB⟩
  obtain ⟨g, of, hA, hq⟩ := RegD.atA (HO.out.registers.below HW.out (Nat.le_refl _)) hk
  have HAA := Lib.hid hA
  clear hA
  replace HR : Hid (stmtM p ps.l ⟨4, dh, df, k, hd, ix, vl⟩ = if (exprM p ps.l ix.l).2 ≠ 0 then (exprM p ps.l ix.l).2 else if wd ≠ p.registers.l[k].width then 10 else 0) := Lib.hid (by rw [HR.out]; simp only [hn, hm])
  clear hn
  generalize p.registers.l[k] = y at *
  obtain ⟨yn, yw, ys⟩ := y
  simp only at HR hq
  have hbad : Hid (∀ r : Int × Int, r.2 ≠ 0 → exprM p ps.l ix.l = r → stmtM p ps.l ⟨4, dh, df, k, hd, ix, vl⟩ = r.2) := Lib.hid (by
    intro r h1 h2
    rw [HR.out, h2, if_pos h1])
  go_enter Tryz.func171, Tryz.ntmps171
  go_upto_region 2 with fail
  rw [← hW]
  clear hW
  go_wp2_with fail
  refine (awidth_any p dh df _ (HO.out.below (below_step HW.out (by first | exact HB | exact below_alloc HB _ | exact below_alloc (below_alloc HB _) _ | exact below_alloc (below_alloc (below_alloc HB _) _) _)))).mono ?_
  rintro e w1 ⟨rfl, hbN⟩
  replace HB := below_step (by first | exact HB | exact below_alloc HB _ | exact below_alloc (below_alloc HB _) _ | exact below_alloc (below_alloc (below_alloc HB _) _) _) hbN
  clear hbN
  rw [hm]
  simp only [widthV, Option.getD_some, Option.isSome_some]
  go_wp2_with fail
  refine (exprCheck_any p ps ix _ (HO.out.below (below_step HW.out (by first | exact HB | exact below_alloc HB _ | exact below_alloc (below_alloc HB _) _ | exact below_alloc (below_alloc (below_alloc HB _) _) _))) (HP.out.below (below_step HW.out (by first | exact HB | exact below_alloc HB _ | exact below_alloc (below_alloc HB _) _ | exact below_alloc (below_alloc (below_alloc HB _) _) _)) (Nat.le_refl _)) (HX.out.below (below_step HW.out (by first | exact HB | exact below_alloc HB _ | exact below_alloc (below_alloc HB _) _ | exact below_alloc (below_alloc (below_alloc HB _) _) _)) (Nat.le_refl _))).mono ?_
  rintro e w2 ⟨rfl, hbN⟩
  replace HB := below_step (by first | exact HB | exact below_alloc HB _ | exact below_alloc (below_alloc HB _) _ | exact below_alloc (below_alloc (below_alloc HB _) _) _) hbN
  clear hbN
  generalize hr : exprM p ps.l ix.l = r at *
  obtain ⟨a, c⟩ := r
  simp only at HR
  by_cases k5 : c = 0
  case neg =>
    have k5' : (c == 0) = false := beq_eq_false_iff_ne.2 k5
    have HR2 := Lib.hid (hbad.out _ k5 rfl)
    go_wp2
    go_ret
    exact ⟨by rw [HR2.out]; rfl, below_step HW.out HB⟩
  subst k5
  have hp2 := fun w' h => hp w' (below_step HB h)
  have hq2 := fun w' h => hq w' (below_step HB h)
  have HVV := Lib.hid HB
  have H0 := Lib.hid (Below.refl w2.heap.size w2)
  clear HB hq hp hbad
  have hp3 := hp2 w2 H0.out
  have hq3 := hq2 w2 H0.out
  simp only [progCells, HAA.out] at hp3
  by_cases k6 : wd = yw
  · subst k6
    replace HR := Lib.hid (HR.out.trans (by simp : _ = (0 : Int)))
    go_wp2
    go_ret
    exact ⟨by rw [HR.out]; rfl, below_step HW.out HVV.out⟩
  · have k6' : (wd == yw) = false := beq_eq_false_iff_ne.2 k6
    replace HR := Lib.hid (HR.out.trans (by simp [k6] : _ = (10 : Int)))
    go_wp2
    go_ret
    exact ⟨by rw [HR.out]; rfl, below_step HW.out HVV.out⟩
set_option maxRecDepth 100000 in
set_option maxHeartbeats 8000000 in
theorem st_write (p : ProgD) (ps : L FieldD) (kind dh df rg hd : Int) (ix vl : L NodeD) (w : World) (o : ProgOk w p) (hps : LOk w 2 FieldD.cells ps) (os : StmtOk w ⟨kind, dh, df, rg, hd, ix, vl⟩) (hk : kind = 5) :
    Calls Tryz.prog 171 #[.agg (scopeCells p ps), .agg (stmtCells ⟨kind, dh, df, rg, hd, ix, vl⟩)] w fun e w' => e = .returned (.int .i64 (stmtM p ps.l ⟨kind, dh, df, rg, hd, ix, vl⟩)) ∧ Below w.heap.size w w' := by
  have HO := Lib.hid o
  have HP := Lib.hid hps
  have HX := Lib.hid os.index
  have HV := Lib.hid os.value
  clear o hps os
  obtain ⟨W, hW, hw, HB, hp⟩ := box3 w (scopeCells p ps) 219 (stmtCells ⟨kind, dh, df, rg, hd, ix, vl⟩) 167 (progCells p) 31
  have HW := Lib.hid hw
  clear hw
  have HR := Lib.hid (stmtM.eq_1 p ps.l ⟨kind, dh, df, rg, hd, ix, vl⟩)
  simp only at HX HV
  subst hk
  replace HR := Lib.hid (HR.out.trans ((if_neg (show ¬ (5 : Int) = 1 by decide)).trans ((if_neg (show ¬ ((5 : Int) = 2 ∨ (5 : Int) = 3) by decide)).trans ((if_neg (show ¬ (5 : Int) = 4 by decide)).trans (if_pos rfl)))))
  rcases regAt_cases p rg with ⟨hr, hn⟩ | ⟨k, hk, rfl, hn⟩
  · replace HR : Hid (stmtM p ps.l ⟨5, dh, df, rg, hd, ix, vl⟩ = 8) := Lib.hid (by rw [HR.out]; simp only [hn])
    clear hn
    have hr : rg < 0 ∨ (0 ≤ rg ∧ (p.registers.l.length : Int) ≤ rg) := by omega
    rcases hr with hr | ⟨hr, hr2⟩
    all_goals
      go_enter Tryz.func171, Tryz.ntmps171
      go_upto_region 2 with fail
      rw [← hW]
      clear hW
      go_wp2_with fail
      refine (awidth_any p dh df _ (HO.out.below (below_step HW.out (by first | exact HB | exact below_alloc HB _ | exact below_alloc (below_alloc HB _) _ | exact below_alloc (below_alloc (below_alloc HB _) _) _)))).mono ?_
      rintro e w1 ⟨rfl, hbN⟩
      replace HB := below_step (by first | exact HB | exact below_alloc HB _ | exact below_alloc (below_alloc HB _) _ | exact below_alloc (below_alloc (below_alloc HB _) _) _) hbN
      clear hbN
      simp only [widthV]
      go_wp2
      go_ret
      exact ⟨by rw [HR.out]; rfl, below_step HW.out HB⟩
  obtain ⟨g, of, hA, hq⟩ := RegD.atA (HO.out.registers.below HW.out (Nat.le_refl _)) hk
  have HAA := Lib.hid hA
  clear hA
  replace HR : Hid (stmtM p ps.l ⟨5, dh, df, k, hd, ix, vl⟩ = if (exprM p ps.l ix.l).2 ≠ 0 then (exprM p ps.l ix.l).2 else sizedM p ps.l vl.l p.registers.l[k].width) := Lib.hid (by rw [HR.out]; simp only [hn])
  clear hn
  generalize p.registers.l[k] = y at *
  obtain ⟨yn, yw, ys⟩ := y
  simp only at HR hq
  have hbad : Hid (∀ r : Int × Int, r.2 ≠ 0 → exprM p ps.l ix.l = r → stmtM p ps.l ⟨5, dh, df, k, hd, ix, vl⟩ = r.2) := Lib.hid (by
    intro r h1 h2
    rw [HR.out, h2, if_pos h1])
  go_enter Tryz.func171, Tryz.ntmps171
  go_upto_region 2 with fail
  rw [← hW]
  clear hW
  go_wp2_with fail
  refine (awidth_any p dh df _ (HO.out.below (below_step HW.out (by first | exact HB | exact below_alloc HB _ | exact below_alloc (below_alloc HB _) _ | exact below_alloc (below_alloc (below_alloc HB _) _) _)))).mono ?_
  rintro e w1 ⟨rfl, hbN⟩
  replace HB := below_step (by first | exact HB | exact below_alloc HB _ | exact below_alloc (below_alloc HB _) _ | exact below_alloc (below_alloc (below_alloc HB _) _) _) hbN
  clear hbN
  simp only [widthV]
  go_wp2_with fail
  refine (exprCheck_any p ps ix _ (HO.out.below (below_step HW.out (by first | exact HB | exact below_alloc HB _ | exact below_alloc (below_alloc HB _) _ | exact below_alloc (below_alloc (below_alloc HB _) _) _))) (HP.out.below (below_step HW.out (by first | exact HB | exact below_alloc HB _ | exact below_alloc (below_alloc HB _) _ | exact below_alloc (below_alloc (below_alloc HB _) _) _)) (Nat.le_refl _)) (HX.out.below (below_step HW.out (by first | exact HB | exact below_alloc HB _ | exact below_alloc (below_alloc HB _) _ | exact below_alloc (below_alloc (below_alloc HB _) _) _)) (Nat.le_refl _))).mono ?_
  rintro e w2 ⟨rfl, hbN⟩
  replace HB := below_step (by first | exact HB | exact below_alloc HB _ | exact below_alloc (below_alloc HB _) _ | exact below_alloc (below_alloc (below_alloc HB _) _) _) hbN
  clear hbN
  generalize hr : exprM p ps.l ix.l = r at *
  obtain ⟨a, c⟩ := r
  simp only at HR
  by_cases k5 : c = 0
  case neg =>
    have k5' : (c == 0) = false := beq_eq_false_iff_ne.2 k5
    have HR2 := Lib.hid (hbad.out _ k5 rfl)
    go_wp2
    go_ret
    exact ⟨by rw [HR2.out]; rfl, below_step HW.out HB⟩
  subst k5
  have hp2 := fun w' h => hp w' (below_step HB h)
  have hq2 := fun w' h => hq w' (below_step HB h)
  have HVV := Lib.hid HB
  have H0 := Lib.hid (Below.refl w2.heap.size w2)
  clear HB hq hp hbad
  replace HR := Lib.hid (HR.out.trans (by simp : _ = sizedM p ps.l vl.l yw))
  simp only [progCells, HAA.out] at hp2
  have hn1 : (k : Int) < (p.registers.l.length : Int) := by omega
  have hp3 := hp2 w2 H0.out
  go_wp2
  clear hp3
  go_region_held3 (fun w' => Below w2.heap.size w2 w') (first | exact H0.out | exact below_drew H0.out | (exact below_step (by assumption) (by assumption)) | assumption)
    (first | (go_at_call 200; refine (avalue_any p ps vl yw _ (HO.out.below (below_step HW.out (below_step HVV.out (by assumption)))) (HP.out.below (below_step HW.out (below_step HVV.out (by assumption))) (Nat.le_refl _)) (HV.out.below (below_step HW.out (below_step HVV.out (by assumption))) (Nat.le_refl _))).mono ?_; rintro e w1 ⟨rfl, hb1⟩))
  have HB5 : Hid (Below w2.heap.size w2 _) := Lib.hid (by assumption)
  go_wp2
  go_ret
  exact ⟨by rw [HR.out]; rfl, below_step HW.out (below_step HVV.out HB5.out)⟩
theorem statement_any (p : ProgD) (ps : L FieldD) (s : StmtD) (w : World) (o : ProgOk w p) (hps : LOk w 2 FieldD.cells ps) (os : StmtOk w s) :
    Calls Tryz.prog 171 #[.agg (scopeCells p ps), .agg (stmtCells s)] w fun e w' => e = .returned (.int .i64 (stmtM p ps.l s)) ∧ Below w.heap.size w w' := by
  obtain ⟨kind, dh, df, rg, hd, ix, vl⟩ := s
  by_cases h1 : kind = 1
  · exact st_assign p ps kind dh df rg hd ix vl w o hps os h1
  by_cases h2 : kind = 2
  · exact st_hdr p ps kind dh df rg hd ix vl w o hps os (.inl h2)
  by_cases h3 : kind = 3
  · exact st_hdr p ps kind dh df rg hd ix vl w o hps os (.inr h3)
  by_cases h4 : kind = 4
  · exact st_read p ps kind dh df rg hd ix vl w o hps os h4
  by_cases h5 : kind = 5
  · exact st_write p ps kind dh df rg hd ix vl w o hps os h5
  exact st_other p ps kind dh df rg hd ix vl w o hps os h1 h2 h3 h4 h5
end Go.Proofs.YtbfjknidinkafaaGreat

