/- Walks of package expr's checks on any program: primary, combine. No condition but that the program lies in memory. -/
import Derived.Test.YtbfjknidinkafaaGreatCkE
import Derived.BigQuiet
namespace Go.Proofs.YtbfjknidinkafaaGreat
open Go.RowKit

theorem maskM_lt (n : Int) : (maskM n : Int) ≤ 4294967295 := by
  unfold maskM
  split
  · have h := okW_iff.1 (by assumption)
    have h2 : 2 ^ n.toNat ≤ 2 ^ 32 := Nat.pow_le_pow_right (by omega) (by omega)
    omega
  · simp
theorem ret_pp {a b : Int} {r : Int × Int} (h : r = (a, b)) : Ending.returned (.tuple #[.int .i64 a, .int .i64 b]) = .returned (.tuple #[.int .i64 r.1, .int .i64 r.2]) := by rw [h]

set_option maxRecDepth 100000 in
set_option maxHeartbeats 4000000 in
theorem primary_any (p : ProgD) (ps : L FieldD) (op n wd : Int) (w : World) (o : ProgOk w p) (hps : LOk w 2 FieldD.cells ps) :
    Calls Tryz.prog 217 #[.agg (scopeCells p ps), .agg #[.int .i64 op, .int .i64 n, .int .i64 wd]] w fun e w' =>
      e = .returned (.tuple #[.int .i64 (primM p ps.l ⟨op, n, wd⟩).1, .int .i64 (primM p ps.l ⟨op, n, wd⟩).2]) ∧ Below w.heap.size w w' := by
  have HO := Lib.hid o
  have HP := Lib.hid hps
  clear o hps
  obtain ⟨W, hW, hw, HB, hp⟩ := box2 w (scopeCells p ps) 217 #[.int .i64 op, .int .i64 n, .int .i64 wd] 252
  have HW := Lib.hid hw
  clear hw
  have HR := Lib.hid (primM.eq_1 p ps.l ⟨op, n, wd⟩)
  by_cases k1 : op = 1
  · subst k1
    replace HR := Lib.hid (HR.out.trans (if_pos rfl))
    have hm := maskM_lt wd
    have hwr : IntKind.i64.wrap (maskM wd : Int) = (maskM wd : Int) := IntWalk.i64_in _ (by omega)
    go_enter Tryz.func217, Tryz.ntmps217
    go_wp2_with fail
    rw [← hW]
    clear hW
    refine (wide_any wd _).mono ?_
    rintro e w' ⟨rfl, rfl⟩
    cases hv : okW wd
    · replace HR := Lib.hid (HR.out.trans (if_neg (show ¬ okW wd = true by rw [hv]; simp)))
      rw [wideM_bad hv]
      go_wp2
      go_quiet (fail)
      go_wp2
      go_ret2
      exact ⟨ret_pp HR.out, below_step HW.out (below_drewN HB _)⟩
    · replace HR := Lib.hid (HR.out.trans (if_pos hv))
      rw [wideM_ok hv]
      by_cases k2 : n < 0
      · replace HR := Lib.hid (HR.out.trans (if_pos (.inl k2)))
        have k2' : decide (n < 0) = true := decide_eq_true k2
        go_wp2
        go_quiet (fail)
        go_wp2
        go_ret2
        exact ⟨ret_pp HR.out, below_step HW.out (below_drewN HB _)⟩
      · have k2' : decide (n < 0) = false := decide_eq_false k2
        by_cases k3 : (maskM wd : Int) < n
        all_goals
          first
            | replace HR := Lib.hid (HR.out.trans (if_pos (Or.inr k3)))
            | replace HR := Lib.hid (HR.out.trans (if_neg (show ¬ (n < 0 ∨ (maskM wd : Int) < n) from fun h => h.elim k2 k3)))
          have H0 := Lib.hid HB
          clear HB
          go_wp2
          go_region_held3 (fun w' => Below W.heap.size W w') (first | exact H0.out | exact below_drew H0.out | (exact below_step (by assumption) (by assumption)) | assumption)
            (first | (go_at_call 110; refine (mask_any wd _).mono ?_; rintro e w1 ⟨rfl, hb1⟩))
          have HB5 : Hid (Below W.heap.size W _) := Lib.hid (by assumption)
          have HB := HB5.out
          go_wp2
          go_ret2
          exact ⟨ret_pp HR.out, below_step HW.out HB⟩
  replace HR := Lib.hid (HR.out.trans (if_neg k1))
  have k1' : (op == 1) = false := beq_eq_false_iff_ne.2 k1
  by_cases k2 : op = 2
  · subst k2
    replace HR := Lib.hid (HR.out.trans (if_pos rfl))
    have hca := @World.cell?_alloc_some
    go_enter Tryz.func217, Tryz.ntmps217
    go_wp2_with fail
    rw [← hW]
    clear hW
    refine (sfield_any p ps n wd _ (HO.out.below (below_step HW.out (by first | exact HB | exact below_alloc HB _ | exact below_alloc (below_alloc HB _) _ | exact below_alloc (below_alloc (below_alloc HB _) _) _)))).mono ?_
    rintro e w1 ⟨rfl, hbN⟩
    replace HB := below_step (by first | exact HB | exact below_alloc HB _ | exact below_alloc (below_alloc HB _) _ | exact below_alloc (below_alloc (below_alloc HB _) _) _) hbN
    clear hbN
    rcases hd : declF p n wd with _ | y
    · simp only [declM, hd, Option.map_none] at HR
      simp only [foundV, Option.getD_none, Option.isSome_none]
      go_wp2
      go_ret2
      exact ⟨ret_pp HR.out, below_step HW.out (by first | exact HB | exact below_alloc HB _ | exact below_alloc (below_alloc HB _) _ | exact below_alloc (below_alloc (below_alloc HB _) _) _)⟩
    · simp only [declM, hd, Option.map_some] at HR
      simp only [foundV, Option.getD_some, Option.isSome_some]
      go_wp2_with fail
      refine (wide_any y.width _).mono ?_
      rintro e w' ⟨rfl, rfl⟩
      go_wp2
      go_ret2
      exact ⟨ret_pp HR.out, below_step HW.out (by first | exact HB | exact below_alloc HB _ | exact below_alloc (below_alloc HB _) _ | exact below_alloc (below_alloc (below_alloc HB _) _) _)⟩
  replace HR := Lib.hid (HR.out.trans (if_neg k2))
  have k2' : (op == 2) = false := beq_eq_false_iff_ne.2 k2
  by_cases k3 : op = 3
  · subst k3
    replace HR := Lib.hid (HR.out.trans (if_pos rfl))
    by_cases k4 : n < 0
    · replace HR := Lib.hid (HR.out.trans (if_pos k4))
      go_enter Tryz.func217, Tryz.ntmps217
      go_wp2
      rw [← hW]
      go_ret2
      exact ⟨ret_pp HR.out, below_step HW.out HB⟩
    · replace HR := Lib.hid (HR.out.trans (if_neg k4))
      obtain ⟨k, rfl⟩ : ∃ k : Nat, n = k := ⟨n.toNat, by omega⟩
      by_cases k5 : k < ps.l.length
      · obtain ⟨g, of, hA, hq⟩ := FieldD.atA (HP.out.below HW.out (Nat.le_refl _)) k5
        have HR2 := Lib.hid (show primM p ps.l ⟨3, k, wd⟩ = wideM (ps.l[k]).width by rw [HR.out]; simp [k5])
        simp only [scopeCells, hA] at hW hp ⊢
        generalize ps.l[k] = y at *
        go_enter Tryz.func217, Tryz.ntmps217
        go_upto_region 1 with fail
        rw [← hW]
        clear hW
        go_wp2_with fail
        refine (wide_any y.width _).mono ?_
        rintro e w' ⟨rfl, rfl⟩
        go_wp2
        go_ret2
        exact ⟨ret_pp HR2.out, below_step HW.out HB⟩
      · have HR2 := Lib.hid (show primM p ps.l ⟨3, k, wd⟩ = (0, 8) by rw [HR.out]; simp [List.getElem?_eq_none (Nat.le_of_not_lt k5)])
        go_enter Tryz.func217, Tryz.ntmps217
        go_wp2
        rw [← hW]
        go_ret2
        exact ⟨ret_pp HR2.out, below_step HW.out HB⟩
  replace HR := Lib.hid (HR.out.trans (if_neg k3))
  have k3' : (op == 3) = false := beq_eq_false_iff_ne.2 k3
  by_cases k4 : n < 0 ∨ (p.headers.l.length : Int) ≤ n
  · replace HR := Lib.hid (HR.out.trans (if_pos k4))
    rcases k4 with k4 | k4
    all_goals
      go_enter Tryz.func217, Tryz.ntmps217
      go_wp2
      rw [← hW]
      go_ret2
      exact ⟨ret_pp HR.out, below_step HW.out HB⟩
  · replace HR := Lib.hid (HR.out.trans (if_neg k4))
    go_enter Tryz.func217, Tryz.ntmps217
    go_wp2
    rw [← hW]
    go_ret2
    exact ⟨ret_pp HR.out, below_step HW.out HB⟩
end Go.Proofs.YtbfjknidinkafaaGreat

