/- Walks and plain laws that the proof of the law OptextFormats stands on. No condition beyond those that each states. -/
import Derived.Test.YtofjapcgbajmiaaGreatDoorKFa
namespace Go.Proofs.YtofjapcgbajmiaaGreatDoor
open Go.RowKit
set_option maxRecDepth 100000
set_option maxHeartbeats 32000000
theorem st_other (p : ProgD) (ps : L FieldD) (kind dh df rg hd : Int) (ix vl : L NodeD) (w : World) (o : ProgOk w p) (hps : LOk w 2 FieldD.cells ps) (os : StmtOk w ⟨kind, dh, df, rg, hd, ix, vl⟩) (h1 : kind ≠ 1) (h2 : kind ≠ 2) (h3 : kind ≠ 3) (h4 : kind ≠ 4) (h5 : kind ≠ 5) :
  Calls Tryz.prog 156 #[.agg (scopeCells p ps), .agg (stmtCells ⟨kind, dh, df, rg, hd, ix, vl⟩)] w fun e w' => e = .returned (.int .i64 (stmtM p ps.l ⟨kind, dh, df, rg, hd, ix, vl⟩)) ∧ Below w.heap.size w w' := by
 have HO := hi_ o
 have HP := hi_ hps
 have HX := hi_ os.index
 have HV := hi_ os.value
 clear o hps os
 obtain ⟨W, hW, hw, HB, hp⟩ := box3 w (scopeCells p ps) 219 (stmtCells ⟨kind, dh, df, rg, hd, ix, vl⟩) 96 (progCells p) 31
 have HW := hi_ hw
 clear hw
 have HR := hi_ (stmtM.eq_1 p ps.l ⟨kind, dh, df, rg, hd, ix, vl⟩)
 simp only at HX HV
 have hr : rg < 0 ∨ (0 ≤ rg ∧ rg < p.registers.l.length) ∨ (0 ≤ rg ∧ (p.registers.l.length : Int) ≤ rg) := by omega
 replace HR := hi_ (HR.out.trans ((if_neg h1).trans ((if_neg (fun h => h.elim h2 h3)).trans ((if_neg h4).trans (if_neg h5)))))
 have k1 : (kind == 1) = false := bf_ h1
 have k2 : (kind == 2) = false := bf_ h2
 have k3 : (kind == 3) = false := bf_ h3
 have k4 : (kind == 4) = false := bf_ h4
 have k5 : (kind == 5) = false := bf_ h5
 clear h1 h2 h3 h4 h5
 rcases hr with hr | ⟨hr, hr2⟩ | ⟨hr, hr2⟩
 all_goals
  go_enter Tryz.func156, Tryz.ntmps156
  go_upto_region 2 with fail
  rw [← hW]
  clear hW
  go_wp2_with fail
  refine (awidth_any p dh df _ (HO.out.below (below_step HW.out (by first | exact HB | exact ba1 HB | exact ba2 HB | exact ba3 HB)))).mono ?_
  rintro e w1 ⟨rfl, hbN⟩
  replace HB := below_step (by first | exact HB | exact ba1 HB | exact ba2 HB | exact ba3 HB) hbN
  clear hbN
  simp only [widthV]
  go_wp2
  go_ret
  exact ⟨by rw [HR.out]; rfl, below_step HW.out HB⟩
theorem st_read (p : ProgD) (ps : L FieldD) (kind dh df rg hd : Int) (ix vl : L NodeD) (w : World) (o : ProgOk w p) (hps : LOk w 2 FieldD.cells ps) (os : StmtOk w ⟨kind, dh, df, rg, hd, ix, vl⟩) (hk : kind = 4) :
  Calls Tryz.prog 156 #[.agg (scopeCells p ps), .agg (stmtCells ⟨kind, dh, df, rg, hd, ix, vl⟩)] w fun e w' => e = .returned (.int .i64 (stmtM p ps.l ⟨kind, dh, df, rg, hd, ix, vl⟩)) ∧ Below w.heap.size w w' := by
 have HO := hi_ o
 have HP := hi_ hps
 have HX := hi_ os.index
 have HV := hi_ os.value
 clear o hps os
 obtain ⟨W, hW, hw, HB, hp⟩ := box3 w (scopeCells p ps) 219 (stmtCells ⟨kind, dh, df, rg, hd, ix, vl⟩) 96 (progCells p) 31
 have HW := hi_ hw
 clear hw
 have HR := hi_ (stmtM.eq_1 p ps.l ⟨kind, dh, df, rg, hd, ix, vl⟩)
 simp only at HX HV
 subst hk
 replace HR := hi_ (HR.out.trans ((if_neg (show ¬ (4 : Int) = 1 by decide)).trans ((if_neg (show ¬ ((4 : Int) = 2 ∨ (4 : Int) = 3) by decide)).trans (if_pos rfl))))
 rcases regAt_cases p rg with ⟨hr, hn⟩ | ⟨k, hk, rfl, hn⟩
 ·
  replace HR : Hid (stmtM p ps.l ⟨4, dh, df, rg, hd, ix, vl⟩ = 8) := hi_ (by rw [HR.out]; simp only [hn])
  clear hn
  have hr : rg < 0 ∨ (0 ≤ rg ∧ (p.registers.l.length : Int) ≤ rg) := by omega
  rcases hr with hr | ⟨hr, hr2⟩
  all_goals
   go_enter Tryz.func156, Tryz.ntmps156
   go_upto_region 2 with fail
   rw [← hW]
   clear hW
   go_wp2_with fail
   refine (awidth_any p dh df _ (HO.out.below (below_step HW.out (by first | exact HB | exact ba1 HB | exact ba2 HB | exact ba3 HB)))).mono ?_
   rintro e w1 ⟨rfl, hbN⟩
   replace HB := below_step (by first | exact HB | exact ba1 HB | exact ba2 HB | exact ba3 HB) hbN
   clear hbN
   simp only [widthV]
   go_wp2
   go_ret
   exact ⟨by rw [HR.out]; rfl, below_step HW.out HB⟩
 rcases hm : declM p dh df with _ | wd
 ·
  replace HR : Hid (stmtM p ps.l ⟨4, dh, df, k, hd, ix, vl⟩ = 8) := hi_ (by rw [HR.out]; simp only [hn, hm])
  go_enter Tryz.func156, Tryz.ntmps156
  go_upto_region 2 with fail
  rw [← hW]
  clear hW
  go_wp2_with fail
  refine (awidth_any p dh df _ (HO.out.below (below_step HW.out (by first | exact HB | exact ba1 HB | exact ba2 HB | exact ba3 HB)))).mono ?_
  rintro e w1 ⟨rfl, hbN⟩
  replace HB := below_step (by first | exact HB | exact ba1 HB | exact ba2 HB | exact ba3 HB) hbN
  clear hbN
  rw [hm]
  simp only [widthV, Option.getD_none, Option.isSome_none]
  go_wp2
  go_ret
  exact ⟨by rw [HR.out]; rfl, below_step HW.out HB⟩
 obtain ⟨g, of, hA, hq⟩ := RegD.atA (HO.out.registers.below HW.out (Nat.le_refl _)) hk
 have HAA := hi_ hA
 clear hA
 replace HR : Hid (stmtM p ps.l ⟨4, dh, df, k, hd, ix, vl⟩ = if (exprM p ps.l ix.l).2 ≠ 0 then (exprM p ps.l ix.l).2 else if wd ≠ p.registers.l[k].width then 10 else 0) := hi_ (by rw [HR.out]; simp only [hn, hm])
 clear hn
 generalize p.registers.l[k] = y at *
 obtain ⟨yn, yw, ys⟩ := y
 simp only at HR hq
 have hbad : Hid (∀ r : Int × Int, r.2 ≠ 0 → exprM p ps.l ix.l = r → stmtM p ps.l ⟨4, dh, df, k, hd, ix, vl⟩ = r.2) := hi_ (by
  intro r h1 h2
  rw [HR.out, h2, if_pos h1])
 go_enter Tryz.func156, Tryz.ntmps156
 go_upto_region 2 with fail
 rw [← hW]
 clear hW
 go_wp2_with fail
 refine (awidth_any p dh df _ (HO.out.below (below_step HW.out (by first | exact HB | exact ba1 HB | exact ba2 HB | exact ba3 HB)))).mono ?_
 rintro e w1 ⟨rfl, hbN⟩
 replace HB := below_step (by first | exact HB | exact ba1 HB | exact ba2 HB | exact ba3 HB) hbN
 clear hbN
 rw [hm]
 simp only [widthV, Option.getD_some, Option.isSome_some]
 go_wp2_with fail
 refine (exprCheck_any p ps ix _ (HO.out.below (below_step HW.out (by first | exact HB | exact ba1 HB | exact ba2 HB | exact ba3 HB))) (HP.out.below (below_step HW.out (by first | exact HB | exact ba1 HB | exact ba2 HB | exact ba3 HB)) (Nat.le_refl _)) (HX.out.below (below_step HW.out (by first | exact HB | exact ba1 HB | exact ba2 HB | exact ba3 HB)) (Nat.le_refl _))).mono ?_
 rintro e w2 ⟨rfl, hbN⟩
 replace HB := below_step (by first | exact HB | exact ba1 HB | exact ba2 HB | exact ba3 HB) hbN
 clear hbN
 generalize hr : exprM p ps.l ix.l = r at *
 obtain ⟨a, c⟩ := r
 simp only at HR
 by_cases k5 : c = 0
 case neg =>
  have k5' : (c == 0) = false := bf_ k5
  have HR2 := hi_ (hbad.out _ k5 rfl)
  go_wp2
  go_ret
  exact ⟨by rw [HR2.out]; rfl, below_step HW.out HB⟩
 subst k5
 have hp2 := fun w' h => hp w' (below_step HB h)
 have hq2 := fun w' h => hq w' (below_step HB h)
 have HVV := hi_ HB
 have H0 := hi_ (Below.refl w2.heap.size w2)
 clear HB hq hp hbad
 have hp3 := hp2 w2 H0.out
 have hq3 := hq2 w2 H0.out
 simp only [progCells, HAA.out] at hp3
 by_cases k6 : wd = yw
 ·
  subst k6
  replace HR := hi_ (HR.out.trans (by simp : _ = (0 : Int)))
  go_wp2
  go_ret
  exact ⟨by rw [HR.out]; rfl, below_step HW.out HVV.out⟩
 ·
  have k6' : (wd == yw) = false := bf_ k6
  replace HR := hi_ (HR.out.trans (by simp [k6] : _ = (10 : Int)))
  go_wp2
  go_ret
  exact ⟨by rw [HR.out]; rfl, below_step HW.out HVV.out⟩
theorem st_write (p : ProgD) (ps : L FieldD) (kind dh df rg hd : Int) (ix vl : L NodeD) (w : World) (o : ProgOk w p) (hps : LOk w 2 FieldD.cells ps) (os : StmtOk w ⟨kind, dh, df, rg, hd, ix, vl⟩) (hk : kind = 5) :
  Calls Tryz.prog 156 #[.agg (scopeCells p ps), .agg (stmtCells ⟨kind, dh, df, rg, hd, ix, vl⟩)] w fun e w' => e = .returned (.int .i64 (stmtM p ps.l ⟨kind, dh, df, rg, hd, ix, vl⟩)) ∧ Below w.heap.size w w' := by
 have HO := hi_ o
 have HP := hi_ hps
 have HX := hi_ os.index
 have HV := hi_ os.value
 clear o hps os
 obtain ⟨W, hW, hw, HB, hp⟩ := box3 w (scopeCells p ps) 219 (stmtCells ⟨kind, dh, df, rg, hd, ix, vl⟩) 96 (progCells p) 31
 have HW := hi_ hw
 clear hw
 have HR := hi_ (stmtM.eq_1 p ps.l ⟨kind, dh, df, rg, hd, ix, vl⟩)
 simp only at HX HV
 subst hk
 replace HR := hi_ (HR.out.trans ((if_neg (show ¬ (5 : Int) = 1 by decide)).trans ((if_neg (show ¬ ((5 : Int) = 2 ∨ (5 : Int) = 3) by decide)).trans ((if_neg (show ¬ (5 : Int) = 4 by decide)).trans (if_pos rfl)))))
 rcases regAt_cases p rg with ⟨hr, hn⟩ | ⟨k, hk, rfl, hn⟩
 ·
  replace HR : Hid (stmtM p ps.l ⟨5, dh, df, rg, hd, ix, vl⟩ = 8) := hi_ (by rw [HR.out]; simp only [hn])
  clear hn
  have hr : rg < 0 ∨ (0 ≤ rg ∧ (p.registers.l.length : Int) ≤ rg) := by omega
  rcases hr with hr | ⟨hr, hr2⟩
  all_goals
   go_enter Tryz.func156, Tryz.ntmps156
   go_upto_region 2 with fail
   rw [← hW]
   clear hW
   go_wp2_with fail
   refine (awidth_any p dh df _ (HO.out.below (below_step HW.out (by first | exact HB | exact ba1 HB | exact ba2 HB | exact ba3 HB)))).mono ?_
   rintro e w1 ⟨rfl, hbN⟩
   replace HB := below_step (by first | exact HB | exact ba1 HB | exact ba2 HB | exact ba3 HB) hbN
   clear hbN
   simp only [widthV]
   go_wp2
   go_ret
   exact ⟨by rw [HR.out]; rfl, below_step HW.out HB⟩
 obtain ⟨g, of, hA, hq⟩ := RegD.atA (HO.out.registers.below HW.out (Nat.le_refl _)) hk
 have HAA := hi_ hA
 clear hA
 replace HR : Hid (stmtM p ps.l ⟨5, dh, df, k, hd, ix, vl⟩ = if (exprM p ps.l ix.l).2 ≠ 0 then (exprM p ps.l ix.l).2 else sizedM p ps.l vl.l p.registers.l[k].width) := hi_ (by rw [HR.out]; simp only [hn])
 clear hn
 generalize p.registers.l[k] = y at *
 obtain ⟨yn, yw, ys⟩ := y
 simp only at HR hq
 have hbad : Hid (∀ r : Int × Int, r.2 ≠ 0 → exprM p ps.l ix.l = r → stmtM p ps.l ⟨5, dh, df, k, hd, ix, vl⟩ = r.2) := hi_ (by
  intro r h1 h2
  rw [HR.out, h2, if_pos h1])
 go_enter Tryz.func156, Tryz.ntmps156
 go_upto_region 2 with fail
 rw [← hW]
 clear hW
 go_wp2_with fail
 refine (awidth_any p dh df _ (HO.out.below (below_step HW.out (by first | exact HB | exact ba1 HB | exact ba2 HB | exact ba3 HB)))).mono ?_
 rintro e w1 ⟨rfl, hbN⟩
 replace HB := below_step (by first | exact HB | exact ba1 HB | exact ba2 HB | exact ba3 HB) hbN
 clear hbN
 simp only [widthV]
 go_wp2_with fail
 refine (exprCheck_any p ps ix _ (HO.out.below (below_step HW.out (by first | exact HB | exact ba1 HB | exact ba2 HB | exact ba3 HB))) (HP.out.below (below_step HW.out (by first | exact HB | exact ba1 HB | exact ba2 HB | exact ba3 HB)) (Nat.le_refl _)) (HX.out.below (below_step HW.out (by first | exact HB | exact ba1 HB | exact ba2 HB | exact ba3 HB)) (Nat.le_refl _))).mono ?_
 rintro e w2 ⟨rfl, hbN⟩
 replace HB := below_step (by first | exact HB | exact ba1 HB | exact ba2 HB | exact ba3 HB) hbN
 clear hbN
 generalize hr : exprM p ps.l ix.l = r at *
 obtain ⟨a, c⟩ := r
 simp only at HR
 by_cases k5 : c = 0
 case neg =>
  have k5' : (c == 0) = false := bf_ k5
  have HR2 := hi_ (hbad.out _ k5 rfl)
  go_wp2
  go_ret
  exact ⟨by rw [HR2.out]; rfl, below_step HW.out HB⟩
 subst k5
 have hp2 := fun w' h => hp w' (below_step HB h)
 have hq2 := fun w' h => hq w' (below_step HB h)
 have HVV := hi_ HB
 have H0 := hi_ (Below.refl w2.heap.size w2)
 clear HB hq hp hbad
 replace HR := hi_ (HR.out.trans (by simp : _ = sizedM p ps.l vl.l yw))
 simp only [progCells, HAA.out] at hp2
 have hn1 : (k : Int) < (p.registers.l.length : Int) := by omega
 have hp3 := hp2 w2 H0.out
 go_wp2
 clear hp3
 go_region_held3 (fun w' => Below w2.heap.size w2 w') (first | exact H0.out | exact below_drew H0.out | (exact below_step (by assumption) (by assumption)) | assumption)
  (first | (go_at_call 216; refine (avalue_any p ps vl yw _ (HO.out.below (below_step HW.out (below_step HVV.out (by assumption)))) (HP.out.below (below_step HW.out (below_step HVV.out (by assumption))) (Nat.le_refl _)) (HV.out.below (below_step HW.out (below_step HVV.out (by assumption))) (Nat.le_refl _))).mono ?_; rintro e w1 ⟨rfl, hb1⟩))
 have HB5 : Hid (Below w2.heap.size w2 _) := hi_ (by assumption)
 go_wp2
 go_ret
 exact ⟨by rw [HR.out]; rfl, below_step HW.out (below_step HVV.out HB5.out)⟩
theorem statement_any (p : ProgD) (ps : L FieldD) (s : StmtD) (w : World) (o : ProgOk w p) (hps : LOk w 2 FieldD.cells ps) (os : StmtOk w s) :
  Calls Tryz.prog 156 #[.agg (scopeCells p ps), .agg (stmtCells s)] w fun e w' => e = .returned (.int .i64 (stmtM p ps.l s)) ∧ Below w.heap.size w w' := by
 obtain ⟨kind, dh, df, rg, hd, ix, vl⟩ := s
 by_cases h1 : kind = 1
 · exact st_assign p ps kind dh df rg hd ix vl w o hps os h1
 by_cases h2 : kind = 2
 · exact st_hdr p ps kind dh df rg hd ix vl w o hps os (.inl h2)
 by_cases h3 : kind = 3
 · exact st_hdr p ps kind dh df rg hd ix vl w o hps os (.inr h3)
 by_cases h4 : kind = 4
 · exact st_read p ps kind dh df rg hd ix vl w o hps os h4
 by_cases h5 : kind = 5
 · exact st_write p ps kind dh df rg hd ix vl w o hps os h5
 exact st_other p ps kind dh df rg hd ix vl w o hps os h1 h2 h3 h4 h5
def stAtM (p : ProgD) (a : ActD) (k : Nat) : Option (Int × Int) := match a.body.l[k]? with
 | none => none
 | some s => if stmtM p a.params.l s ≠ 0 then some ((k : Int), stmtM p a.params.l s) else none
theorem actM_eq (p : ProgD) (a : ActD) : actM p a = if declarM a ≠ 0 then (-1, declarM a) else match firstE a.body.l.length (stAtM p a) with
  | some r => r
  | none => (0, 0) := rfl
theorem stAtM_at (p : ProgD) (a : ActD) (k : Nat) (h : k < a.body.l.length) : stAtM p a k = if stmtM p a.params.l a.body.l[k] ≠ 0 then some ((k : Int), stmtM p a.params.l a.body.l[k]) else none := by
 rw [stAtM, List.getElem?_eq_getElem h]
theorem actionCheck_any (p : ProgD) (i : Nat) (hi : i < p.actions.l.length) (w : World) (o : ProgOk w p) (hc : ∀ a ∈ p.actions.l, a.params.l.length ≤ a.params.c) :
  Calls Tryz.prog 95 #[.agg (progCells p), .int .i64 i] w fun e w' => e = .returned (.tuple #[.int .i64 (actM p p.actions.l[i]).1, .int .i64 (actM p p.actions.l[i]).2]) ∧ Below w.heap.size w w' := by
 have HO := hi_ o
 obtain ⟨W, hW, hw, HB, hp⟩ := box1 w (progCells p) 31
 have HW := hi_ hw
 have HA : Hid (ActOk W p.actions.l[i]) := hi_ ((o.act _ (List.getElem_mem hi)).below hw)
 have HC := hi_ (hc _ (List.getElem_mem hi))
 have HR := hi_ (actM_eq p p.actions.l[i])
 have HS := hi_ (stAtM_at p p.actions.l[i])
 obtain ⟨g, of, hA, hq⟩ := ActD.atA (o.actions.below hw (Nat.le_refl _)) hi
 have hn1 : (i : Int) < (p.actions.l.length : Int) := by omega
 clear o hw hc
 generalize p.actions.l[i] = a at *
 obtain ⟨an, ⟨pl, pA, pc⟩, ⟨bl, bA, bc⟩⟩ := a
 simp only at HR HS hq
 have HAA := hi_ hA
 simp only [progCells, hA] at hp hW ⊢
 clear hA
 go_enter Tryz.func95, Tryz.ntmps95
 go_upto_region 1 with fail
 rw [← hW]
 clear hW
 refine Exists.elim (box1 W #[.string an, .slice pA pl.length pc, .slice bA bl.length bc] 93) ?_
 rintro U ⟨hU, hu, hUU, hc⟩
 go_wp2_with fail
 rw [← hU]
 clear hU
 have HWU := hi_ (below_step HW.out hu)
 have HU := hi_ hu
 have hp2 := fun w' h => hp w' (below_step hu h)
 replace HB := hUU
 clear hp hUU hu
 refine (declaration_any ⟨an, ⟨pl, pA, pc⟩, ⟨bl, bA, bc⟩⟩ _ (HA.out.below (below_step HU.out (by first | exact HB | exact ba1 HB | exact ba2 HB | exact ba3 HB))) HC.out).mono ?_
 rintro e w1 ⟨rfl, hbN⟩
 replace HB := below_step (by first | exact HB | exact ba1 HB | exact ba2 HB | exact ba3 HB) hbN
 clear hbN
 generalize hdm : declarM ⟨an, ⟨pl, pA, pc⟩, ⟨bl, bA, bc⟩⟩ = dm at *
 by_cases k1 : dm = 0
 case neg =>
  have k1' : (dm == 0) = false := bf_ k1
  replace HR := tr_ HR (if_pos k1)
  go_wp2
  go_ret2
  exact ⟨ret_pp HR.out, below_step HWU.out HB⟩
 subst k1
 replace HR := tr_ HR (if_neg (by simp))
 refine Exists.elim (box1 w1 #[.string p.name, .slice p.headers.A p.headers.l.length p.headers.c, .slice p.metadata.A p.metadata.l.length p.metadata.c,
   .slice p.registers.A p.registers.l.length p.registers.c, .slice (some ⟨g, of, none⟩) p.actions.l.length p.actions.c, .slice p.tables.A p.tables.l.length p.tables.c,
   .slice p.states.A p.states.l.length p.states.c, .slice p.control.A p.control.l.length p.control.c, .slice p.deparser.A p.deparser.l.length p.deparser.c, .slice pA pl.length pc] 219) ?_
 rintro V ⟨hV, hv, hVV, hk⟩
 have hca := @World.cell?_alloc_some
 go_wp2
 rw [← hV]
 clear hV
 have HWV := hi_ (below_step HB hv)
 have hm := HA.out.body.1
 unfold maxLen at hm
 simp only at hm
 have HVV := hi_ hVV
 clear HB hVV hv hp2 hc hq
 go_loopw [5, 8, 9, 37] (fun _ _ _ iv wr => ∃ k : Nat, k ≤ bl.length ∧ iv = .int .i64 k ∧ (∀ j, j < k → stAtM p ⟨an, ⟨pl, pA, pc⟩, ⟨bl, bA, bc⟩⟩ j = none) ∧ Below V.heap.size V wr) (fun _ _ _ i _ => bl.length - (intOf i).toNat)
 case atStart => exact ⟨0, Nat.zero_le _, rfl, fun j h => absurd h (Nat.not_lt_zero _), HVV.out⟩
 case round =>
  obtain ⟨k, hk2, rfl, hpre, HB⟩ := hrel
  have HPre := hi_ hpre
  clear hpre
  have HX := fun w' (h : Below V.heap.size V w') => below_step HU.out (below_step HWV.out h)
  have HAct := HA.out.below (HX wr HB)
  by_cases hlt : k < bl.length
  ·
   obtain ⟨g2, of2, hB, d0, d1, d2, d3, d4, d5, d6⟩ := StmtD.at HAct.body hlt
   have HSO := HAct.stmts _ (List.getElem_mem hlt)
   have HS2 := HS.out k hlt
   simp only at hB HSO HS2 d0 d1 d2 d3 d4 d5 d6
   subst hB
   have HSt := hi_ HSO
   have HS3 := hi_ HS2
   clear HAct HSO HS2
   generalize bl[k] = s at *
   obtain ⟨kind, dh, df, rg, hd, ⟨il, iA, ic⟩, ⟨vl, vA, vc⟩⟩ := s
   simp only [L.v] at d0 d1 d2 d3 d4 d5 d6
   have hkv := hk wr HB
   go_wp2_with fail
   have HY := HX _ (below_alloc HB (.cells (stmtCells ⟨kind, dh, df, rg, hd, ⟨il, iA, ic⟩, ⟨vl, vA, vc⟩⟩) 96))
   have hCN := statement_any p ⟨pl, pA, pc⟩ ⟨kind, dh, df, rg, hd, ⟨il, iA, ic⟩, ⟨vl, vA, vc⟩⟩ (wr.alloc (.cells (stmtCells ⟨kind, dh, df, rg, hd, ⟨il, iA, ic⟩, ⟨vl, vA, vc⟩⟩) 96)) (HO.out.below (below_step HW.out HY)) ((HA.out.below HY).params) (HSt.out.below (below1 _ _))
   simp only [scopeCells, HAA.out] at hCN
   refine hCN.mono ?_
   clear hCN HY
   rintro e w3 ⟨rfl, hbN⟩
   replace HB := below_step (by first | exact HB | exact ba1 HB | exact ba2 HB | exact ba3 HB) hbN
   clear hbN
   generalize hst : stmtM p pl ⟨kind, dh, df, rg, hd, ⟨il, iA, ic⟩, ⟨vl, vA, vc⟩⟩ = sm at *
   by_cases k1 : sm = 0
   ·
    subst k1
    have HE := tr_ HS3 (if_neg (by simp))
    go_wp2
    go_roundw
    case rel => exact ⟨k + 1, by omega, by go_num, firstE_step HPre.out HE.out, HB⟩
    case measure => simp [intOf]; omega
   ·
    have k1' : (sm == 0) = false := bf_ k1
    have HE := tr_ HS3 (if_pos k1)
    have HR2 := hi_ (HR.out.trans (show _ = ((k : Int), sm) by rw [firstE_some hlt HPre.out HE.out]))
    go_wp2
    go_ret2
    exact ⟨ret_pp HR2.out, below_step HWU.out (below_step HWV.out HB)⟩
  ·
   have e : k = bl.length := by omega
   have HR2 : Hid (actM p ⟨an, ⟨pl, pA, pc⟩, ⟨bl, bA, bc⟩⟩ = (0, 0)) := hi_ (by rw [HR.out, firstE_none (by rw [← e]; exact HPre.out)])
   go_wp2
   go_ret2
   exact ⟨ret_pp HR2.out, below_step HWU.out (below_step HWV.out HB)⟩
def cAtM (ps : List FieldD) (args : List Int) (i : Nat) : Option Int := match args[i]?, ps[i]? with
 | some v, some f => if fitsM v f.width = false then some (9 : Int) else none
 | _, _ => none
theorem callM_eq (p : ProgD) (a : Int) (args : List Int) : callM p a args = if a < 0 then 8 else match p.actions.l[a.toNat]? with
 | none => 8
 | some x => if args.length ≠ x.params.l.length then 2 else match firstE args.length (cAtM x.params.l args) with
  | some e => e
  | none => 0 := rfl
theorem cAtM_at (ps : List FieldD) (args : List Int) (k : Nat) (h : k < args.length) (h2 : k < ps.length) : cAtM ps args k = if fitsM args[k] ps[k].width = false then some 9 else none := by
 rw [cAtM, List.getElem?_eq_getElem h, List.getElem?_eq_getElem h2]
theorem checkCall_any (p : ProgD) (ai : Int) (x : L Int) (w : World) (o : ProgOk w p) (hx : LOk w 1 ucell x) :
  Calls Tryz.prog 171 #[.agg (progCells p), .agg #[.int .i64 ai, .slice x.A x.l.length x.c]] w fun e w' => e = .returned (.int .i64 (callM p ai x.l)) ∧ Below w.heap.size w w' := by
 obtain ⟨xl, xA, xc⟩ := x
 simp only
 have HR := hi_ (callM_eq p ai xl)
 have hcase : ai < 0 ∨ (0 ≤ ai ∧ (p.actions.l.length : Int) ≤ ai) ∨ ∃ k : Nat, ai = k ∧ k < p.actions.l.length := by
  by_cases h : 0 ≤ ai ∧ ai < p.actions.l.length
  · exact .inr (.inr ⟨ai.toNat, by omega, by omega⟩)
  · omega
 rcases hcase with h1 | ⟨h1, h2⟩ | ⟨i, rfl, hi⟩
 ·
  replace HR := tr_ HR (if_pos h1)
  clear o hx
  go_enter Tryz.func171, Tryz.ntmps171
  go_wp2
  go_ret
  exact ⟨by rw [HR.out]; rfl, below2 _ _ _⟩
 ·
  replace HR : Hid (callM p ai xl = 8) := hi_ (by rw [HR.out, if_neg (by omega), List.getElem?_eq_none (by omega)])
  clear o hx
  go_enter Tryz.func171, Tryz.ntmps171
  go_wp2
  go_ret
  exact ⟨by rw [HR.out]; rfl, below2 _ _ _⟩
 have HO := hi_ o
 obtain ⟨W, hW, hw, HB, hp⟩ := box2 w (progCells p) 31 #[.int .i64 (i : Int), .slice xA xl.length xc] 35
 have HW := hi_ hw
 have HA : Hid (ActOk W p.actions.l[i]) := hi_ ((o.act _ (List.getElem_mem hi)).below hw)
 have HX := hi_ (hx.below hw (Nat.le_refl _))
 obtain ⟨g, of, hA, hq⟩ := ActD.atA (o.actions.below hw (Nat.le_refl _)) hi
 have hn1 : (i : Int) < (p.actions.l.length : Int) := by omega
 replace HR := hi_ (HR.out.trans ((if_neg (show ¬ (i : Int) < 0 by omega)).trans (by rw [Int.toNat_natCast, List.getElem?_eq_getElem hi])))
 clear o hw hx
 generalize p.actions.l[i] = a at *
 obtain ⟨an, ⟨pl, pA, pc⟩, ⟨bl, bA, bc⟩⟩ := a
 simp only at HR hq
 simp only [progCells, hA] at hp hW ⊢
 clear hA
 by_cases k1 : xl.length = pl.length
 case neg =>
  replace HR := tr_ HR (if_pos k1)
  have k1' : ((xl.length : Int) == (pl.length : Int)) = false := bf_ (by omega)
  go_enter Tryz.func171, Tryz.ntmps171
  go_upto_region 1 with fail
  rw [← hW]
  clear hW
  go_wp2
  go_ret
  exact ⟨by rw [HR.out]; rfl, below_step HW.out HB⟩
 replace HR := tr_ HR (if_neg (show ¬ xl.length ≠ pl.length from fun h => h k1))
 have k1' : ((xl.length : Int) == (pl.length : Int)) = true := by rw [k1]; simp
 have K1 := hi_ k1
 clear k1
 have hm := HX.out.1
 unfold maxLen at hm
 go_enter Tryz.func171, Tryz.ntmps171
 go_upto_region 1 with fail
 rw [← hW]
 clear hW
 have HW0 := hi_ HB
 go_wp2
 clear HB
 go_loopw [6, 7, 35] (fun _ _ iv wr => ∃ k : Nat, k ≤ xl.length ∧ iv = .int .i64 k ∧ (∀ j, j < k → cAtM pl xl j = none) ∧ Below W.heap.size W wr) (fun _ _ i _ => xl.length - (intOf i).toNat)
 case atStart => exact ⟨0, Nat.zero_le _, rfl, fun j h => absurd h (Nat.not_lt_zero _), HW0.out⟩
 case round =>
  obtain ⟨k, hk2, rfl, hpre, HB⟩ := hrel
  have HPre := hi_ hpre
  clear hpre
  by_cases hlt : k < xl.length
  ·
   have hlt2 : k < pl.length := by have := K1.out; omega
   obtain ⟨g2, of2, hA2, e0⟩ := ucell_at (HX.out.below HB (Nat.le_refl _)) hlt
   obtain ⟨g3, of3, hA3, f0, f1⟩ := FieldD.at (HA.out.params.below HB (Nat.le_refl _)) hlt2
   have HE := hi_ (cAtM_at pl xl k hlt hlt2)
   simp only at hA3 f0 f1
   have hj1 : (k : Int) < (pl.length : Int) := by omega
   simp only at hA2
   subst hA2 hA3
   generalize xl[k] = v at *
   generalize pl[k]'hlt2 = y at *
   obtain ⟨yn, yw⟩ := y
   simp only at HE f0 f1
   go_wp2_with fail
   refine (fits_any v yw _).mono ?_
   rintro e w2 ⟨rfl, hbN⟩
   replace HB := below_step (by first | exact HB | exact ba1 HB | exact ba2 HB | exact ba3 HB) hbN
   clear hbN
   cases hf : fitsM v yw
   ·
    replace HE := tr_ HE (if_pos hf)
    have HR2 := hi_ (HR.out.trans (show _ = (9 : Int) by rw [firstE_some hlt HPre.out HE.out]))
    go_wp2
    go_ret
    exact ⟨by rw [HR2.out]; rfl, below_step HW.out HB⟩
   ·
    replace HE := tr_ HE (if_neg (by rw [hf]; simp))
    go_wp2
    go_roundw
    case rel => exact ⟨k + 1, by omega, by go_num, firstE_step HPre.out HE.out, HB⟩
    case measure => simp [intOf]; omega
  ·
   have e : k = xl.length := by omega
   have HR2 := hi_ (HR.out.trans (show _ = (0 : Int) by rw [firstE_none (by rw [← e]; exact HPre.out)]))
   go_wp2
   go_ret
   exact ⟨by rw [HR2.out]; rfl, below_step HW.out HB⟩
section
open Go.RowKit Go.Maps
def setL (l : List Lit) : DataW Unit := l.foldl (fun D a => D.put a (.lit (.bool true))) (.map [])
theorem setL_snoc (l : List Lit) (a : Lit) : setL (l ++ [a]) = (setL l).put a (.lit (.bool true)) := by simp [setL, List.foldl_append]
theorem setL_at (x : Lit) : ∀ (l : List Lit) (D : DataW Unit), IsMap D → (∀ a ∈ l, WideAt.IsKeyLit a) →
  (x ∈ l → (l.foldl (fun D a => D.put a (.lit (.bool true))) D).atKey x (.lit (.bool false)) = .lit (.bool true)) ∧
  (x ∉ l → (l.foldl (fun D a => D.put a (.lit (.bool true))) D).atKey x (.lit (.bool false)) = D.atKey x (.lit (.bool false)))
 | [], _, _, _ => ⟨fun h => (by cases h), fun _ => rfl⟩
 | a :: l, D, hD, hk => by
  obtain ⟨h1, h2⟩ := setL_at x l (D.put a (.lit (.bool true))) (hD.put _ _) (fun b hb => hk b (List.mem_cons_of_mem _ hb))
  refine ⟨fun hx => ?_, fun hx => ?_⟩
  ·
   by_cases hxl : x ∈ l
   · exact h1 hxl
   ·
    have e : x = a := (List.mem_cons.1 hx).resolve_right hxl
    subst e
    exact (h2 hxl).trans (atKey_put_same hD (hk x (List.mem_cons_self)) _ _)
  ·
   have hn : x ≠ a ∧ x ∉ l := ⟨fun e => hx (e ▸ List.mem_cons_self), fun h => hx (List.mem_cons_of_mem _ h)⟩
   exact (h2 hn.2).trans (atKey_put_other hn.1 _ _)
theorem look_bool {P : Program} {w : World} {t k e : TypeId} {b n : Nat} {D : DataW Unit} (h : w.ownsMap P k (plainElem P e) b n D) (K : Keyed P k) (ht : P.underlying t = some (.map k e)) (he : P.underlying e = some .bool)
  (hz : (zeroValue e).run P w = .ok (.bool false) w) {key : Value} {kl : Lit} (hkey : keyOf P k key = some kl) (x : Bool) (hat : D.atKey kl (.lit (.bool false)) = .lit (.bool x)) :
  (Instr.lookup t (.map (some b)) key false).run P w = .ok (.bool x) w := by
 obtain ⟨v, ps, hrun, hv⟩ := h.lookup K ht hz (plainElem_bool he false) hkey
 rw [hat] at hv
 rw [hrun]
 cases v <;> simp_all [plainElem]
def ilit (a : Int) : Lit := .int .i64 a
theorem ilit_key (l : List Int) : ∀ a ∈ l.map ilit, WideAt.IsKeyLit a := by
 intro a ha
 obtain ⟨b, _, rfl⟩ := List.mem_map.1 ha
 trivial
theorem ilit_mem {l : List Int} {a : Int} : (ilit a ∈ l.map ilit) = (a ∈ l) := by
 rw [List.mem_map]
 apply propext
 constructor
 ·
  rintro ⟨b, hb, e⟩
  injection e with _ e
  subst e; exact hb
 · exact fun h => ⟨a, h, rfl⟩
theorem look_int {w : World} {b n : Nat} {l : List Int} (h : w.ownsMap Tryz.prog 3 (plainElem (H := Unit) Tryz.prog 4) b n (setL (l.map ilit))) (a : Int) (ha : (Lit.int .i64 a).wf = true) :
  (Instr.lookup 255 (.map (some b)) (.int .i64 a) false).run Tryz.prog w = .ok (.bool (decide (a ∈ l))) w := by
 refine look_bool h (int_keyed Tryz.underlying3) Tryz.underlying255 Tryz.underlying4 (by kernel_rfl) (keyOf_int_mk Tryz.underlying3 ha) _ ?_
 obtain ⟨h1, h2⟩ := setL_at (ilit a) (l.map ilit) (.map []) isMap_empty (ilit_key l)
 rw [ilit_mem] at h1 h2
 by_cases hm : a ∈ l
 · rw [decide_eq_true hm]; exact h1 hm
 · rw [decide_eq_false hm]; exact h2 hm
theorem widthAt_le (p : ProgD) (h f : Int) : 0 ≤ widthAt p h f ∧ widthAt p h f ≤ 32 := by
 unfold widthAt
 split
 ·
  have := okW_iff.1 (by assumption)
  omega
 · omega
@[reducible] def tabCells (t : TabD) : Array Value := #[.string t.name, .slice t.keys.A t.keys.l.length t.keys.c, .slice t.acts.A t.acts.l.length t.acts.c, .int .i64 t.defA, .slice t.args.A t.args.l.length t.args.c, .int .i64 t.size]
theorem lpmM_snoc (l : List KeyD) (x : KeyD) : lpmM (l ++ [x]) = lpmM l + if x.kind = 2 then 1 else 0 := by simp [lpmM, List.sum_append]
theorem bitsM_snoc (p : ProgD) (l : List KeyD) (x : KeyD) : bitsM p (l ++ [x]) = bitsM p l + widthAt p x.h x.f := by simp [bitsM, List.sum_append]
theorem lpmM_le (l : List KeyD) : 0 ≤ lpmM l ∧ lpmM l ≤ l.length := by
 induction l with
 | nil => exact ⟨Int.le_refl _, Int.le_refl _⟩
 | cons x l ih =>
  have : lpmM (x :: l) = (if x.kind = 2 then 1 else 0) + lpmM l := by simp [lpmM]
  rw [this, List.length_cons]
  split <;> omega
theorem bitsM_le (p : ProgD) (l : List KeyD) : 0 ≤ bitsM p l ∧ bitsM p l ≤ 32 * l.length := by
 induction l with
 | nil => exact ⟨Int.le_refl _, Int.le_refl _⟩
 | cons x l ih =>
  have : bitsM p (x :: l) = widthAt p x.h x.f + bitsM p l := by simp [bitsM]
  rw [this, List.length_cons]
  have := widthAt_le p x.h x.f
  omega
theorem keyAtM_at (p : ProgD) (l : List KeyD) (k : Nat) (h : k < l.length) : keyAtM p l k = if widthAt p l[k].h l[k].f = 0 then some ((k : Int), 8) else if ¬ (l[k].kind = 1 ∨ l[k].kind = 2 ∨ l[k].kind = 3) then some ((k : Int), 11) else none := by
 rw [keyAtM, List.getElem?_eq_getElem h]
theorem take_snoc {α : Type} (l : List α) (k : Nat) (h : k < l.length) : l.take (k + 1) = l.take k ++ [l[k]] := List.take_succ_eq_append_getElem h
theorem checkKeys_any (p : ProgD) (t : TabD) (w : World) (o : ProgOk w p) (ot : TabOk w t) (h6 : t.keys.l.length ≤ 6) :
  Calls Tryz.prog 157 #[.agg (progCells p), .agg (tabCells t)] w fun e w' => e = .returned (.tuple #[.int .i64 (keysM p t.keys.l).1, .int .i64 (keysM p t.keys.l).2]) ∧ Below w.heap.size w w' := by
 obtain ⟨tn, ⟨kl, kA, kc⟩, ta, td, tg, tz⟩ := t
 have HO := hi_ o
 have HK := hi_ ot.keys
 simp only at h6 HK
 obtain ⟨W, hW, hw, HB, hp⟩ := box2 w (progCells p) 31 (tabCells ⟨tn, ⟨kl, kA, kc⟩, ta, td, tg, tz⟩) 59
 have HW := hi_ hw
 have HW0 := hi_ HB
 have HR := hi_ (keysM.eq_1 p kl)
 have HS := hi_ (keyAtM_at p kl)
 have HT := hi_ (take_snoc kl)
 clear o ot hw
 go_enter Tryz.func157, Tryz.ntmps157
 go_upto_region 1 with fail
 rw [← hW]
 clear hW
 go_wp2
 clear HB
 go_loopw [6, 7, 8, 9, 10, 14] (fun lv bv _ _ _ iv wr => ∃ k : Nat, k ≤ kl.length ∧ iv = .int .i64 k ∧ lv = .int .i64 (lpmM (kl.take k)) ∧ bv = .int .i64 (bitsM p (kl.take k)) ∧ (∀ j, j < k → keyAtM p kl j = none) ∧ Below W.heap.size W wr) (fun _ _ _ _ _ i _ => kl.length - (intOf i).toNat)
 case atStart => exact ⟨0, Nat.zero_le _, rfl, rfl, rfl, fun j h => absurd h (Nat.not_lt_zero _), HW0.out⟩
 case round =>
  obtain ⟨k, hk, rfl, rfl, rfl, hpre, HB⟩ := hrel
  have HPre := hi_ hpre
  clear hpre
  have b1 := lpmM_le (kl.take k)
  have b2 := bitsM_le p (kl.take k)
  rw [List.length_take] at b1 b2
  obtain ⟨b11, b12⟩ := b1
  obtain ⟨b21, b22⟩ := b2
  by_cases hlt : k < kl.length
  ·
   obtain ⟨g, of, hA, d0, d1, d2⟩ := KeyD.at (HK.out.below (below_step HW.out HB) (Nat.le_refl _)) hlt
   have HE := hi_ (HS.out k hlt)
   have HL : Hid (lpmM (kl.take (k + 1)) = lpmM (kl.take k) + if kl[k].kind = 2 then 1 else 0) := hi_ (by rw [HT.out k hlt, lpmM_snoc])
   have HBt : Hid (bitsM p (kl.take (k + 1)) = bitsM p (kl.take k) + widthAt p kl[k].h kl[k].f) := hi_ (by rw [HT.out k hlt, bitsM_snoc])
   simp only at hA d0 d1 d2
   subst hA
   generalize kl[k] = y at *
   obtain ⟨yh, yf, yk⟩ := y
   simp only at HE HL HBt d0 d1 d2
   generalize lpmM (kl.take k) = lm at *
   generalize bitsM p (kl.take k) = bm at *
   have hp1 := hp wr HB
   have hca := @World.cell?_alloc_some
   go_wp2_with fail
   refine (width_any p yh yf (wr.alloc (.cells #[.int .i64 yh, .int .i64 yf, .int .i64 yk] 106)) (HO.out.below (below_step HW.out (by first | exact HB | exact ba1 HB | exact ba2 HB | exact ba3 HB)))).mono ?_
   rintro e w2 ⟨rfl, hbN⟩
   have hk2 : w2.cell? ⟨wr.heap.size, 2, none⟩ = some (.int .i64 yk) := below_cell hbN (by simp)
   replace HB := below_step (by first | exact HB | exact ba1 HB | exact ba2 HB | exact ba3 HB) hbN
   clear hbN d0 d1 d2 hp1
   have hwl := widthAt_le p yh yf
   generalize widthAt p yh yf = wd at *
   obtain ⟨wl1, wl2⟩ := hwl
   by_cases k1 : wd = 0
   ·
    subst k1
    have HE2 := tr_ HE (if_pos rfl)
    have HR2 := hi_ (HR.out.trans (show _ = ((k : Int), (8 : Int)) by rw [firstE_some hlt HPre.out HE2.out]))
    go_wp2
    go_ret2
    exact ⟨ret_pp HR2.out, below_step HW.out HB⟩
   have k1' : (wd == 0) = false := bf_ k1
   have HE2 := tr_ HE (if_neg k1)
   have hkind : yk = 2 ∨ yk = 1 ∨ yk = 3 ∨ (yk ≠ 1 ∧ yk ≠ 2 ∧ yk ≠ 3) := by omega
   rcases hkind with rfl | rfl | rfl | ⟨n1, n2, n3⟩
   ·
    have HE3 := tr_ HE2 (if_neg (by simp))
    have HL2 := hi_ (HL.out.trans (show _ = lm + 1 by simp))
    go_wp2
    go_roundw
    case rel => exact ⟨k + 1, by omega, by go_num, by rw [HL2.out], by rw [HBt.out], firstE_step HPre.out HE3.out, HB⟩
    case measure => simp [intOf]; omega
   ·
    have HE3 := tr_ HE2 (if_neg (by simp))
    have HL2 := hi_ (HL.out.trans (show _ = lm by simp))
    go_wp2
    go_roundw
    case rel => exact ⟨k + 1, by omega, by go_num, by rw [HL2.out], by rw [HBt.out], firstE_step HPre.out HE3.out, HB⟩
    case measure => simp [intOf]; omega
   ·
    have HE3 := tr_ HE2 (if_neg (by simp))
    have HL2 := hi_ (HL.out.trans (show _ = lm by simp))
    go_wp2
    go_roundw
    case rel => exact ⟨k + 1, by omega, by go_num, by rw [HL2.out], by rw [HBt.out], firstE_step HPre.out HE3.out, HB⟩
    case measure => simp [intOf]; omega
   ·
    have m1 : (yk == 1) = false := bf_ n1
    have m2 : (yk == 2) = false := bf_ n2
    have m3 : (yk == 3) = false := bf_ n3
    have HE3 := tr_ HE2 (if_pos (fun h => h.elim n1 (fun h => h.elim n2 n3)))
    have HR2 := hi_ (HR.out.trans (show _ = ((k : Int), (11 : Int)) by rw [firstE_some hlt HPre.out HE3.out]))
    go_wp2
    go_ret2
    exact ⟨ret_pp HR2.out, below_step HW.out HB⟩
  ·
   have e : k = kl.length := by omega
   have HR2 := hi_ (HR.out.trans (show _ = (if 1 < lpmM kl then ((-2 : Int), (7 : Int)) else if 64 < bitsM p kl then (-2, 10) else (0, 0)) by rw [firstE_none (by rw [← e]; exact HPre.out)]))
   have HL : Hid (lpmM (kl.take k) = lpmM kl) := hi_ (by rw [e, List.take_length])
   have HBt : Hid (bitsM p (kl.take k) = bitsM p kl) := hi_ (by rw [e, List.take_length])
   rw [HL.out] at b11 b12 ⊢
   rw [HBt.out] at b21 b22 ⊢
   generalize lpmM kl = lm at *
   generalize bitsM p kl = bm at *
   by_cases k1 : 1 < lm
   ·
    replace HR2 := tr_ HR2 (if_pos k1)
    go_wp2
    go_ret2
    exact ⟨ret_pp HR2.out, below_step HW.out HB⟩
   replace HR2 := tr_ HR2 (if_neg k1)
   by_cases k2 : 64 < bm
   ·
    replace HR2 := tr_ HR2 (if_pos k2)
    go_wp2
    go_ret2
    exact ⟨ret_pp HR2.out, below_step HW.out HB⟩
   ·
    replace HR2 := tr_ HR2 (if_neg k2)
    go_wp2
    go_ret2
    exact ⟨ret_pp HR2.out, below_step HW.out HB⟩
end
section
open Go.RowKit Go.Maps
theorem tactsM_eq (p : ProgD) (t : TabD) : tactsM p t = match firstE t.acts.l.length (tactAtM p t.acts.l) with
 | some e => e
 | none => if t.defA ∈ t.acts.l then callM p t.defA t.args.l else 8 := rfl
theorem tactAtM_at (p : ProgD) (l : List Int) (k : Nat) (h : k < l.length) : tactAtM p l k = if l[k] < 0 ∨ (p.actions.l.length : Int) ≤ l[k] then some 8 else if l[k] ∈ l.take k then some 7 else none := by
 rw [tactAtM, List.getElem?_eq_getElem h]
theorem wf_of {a : Int} (h1 : 0 ≤ a) (h2 : a ≤ 9223372036854775807) : (Lit.int .i64 a).wf = true := by
 have e1 : IntKind.i64.min = -9223372036854775808 := rfl
 have e2 : IntKind.i64.max = 9223372036854775807 := rfl
 simp only [Lit.wf, Bool.and_eq_true, decide_eq_true_eq]
 omega
theorem checkActions_any (p : ProgD) (t : TabD) (w : World) (o : ProgOk w p) (ot : TabOk w t) (hwf : (Lit.int .i64 t.defA).wf = true) :
  Calls Tryz.prog 158 #[.agg (progCells p), .agg (tabCells t)] w fun e w' => e = .returned (.int .i64 (tactsM p t)) ∧ Below w.heap.size w w' := by
 obtain ⟨tn, tk, ⟨al, aA, ac⟩, td, ⟨gl, gA, gc⟩, tz⟩ := t
 have HO := hi_ o
 have HK := hi_ ot.acts
 have HG := hi_ ot.args
 have HWF := hi_ hwf
 simp only at HK HG HWF
 obtain ⟨W, hW, hw, HB, hp⟩ := box2 w (progCells p) 31 (tabCells ⟨tn, tk, ⟨al, aA, ac⟩, td, ⟨gl, gA, gc⟩, tz⟩) 59
 have HW := hi_ hw
 have HR := hi_ (tactsM_eq p ⟨tn, tk, ⟨al, aA, ac⟩, td, ⟨gl, gA, gc⟩, tz⟩)
 have HS := hi_ (tactAtM_at p al)
 have HT := hi_ (take_snoc al)
 simp only at HR
 have hmm := @run_makeMap Tryz.prog
 have hm1 := HK.out.1
 have hm2 := o.actions.1
 unfold maxLen at hm1 hm2
 simp only at hm1
 have hHS : W.heap.size = W.heap.size := rfl
 obtain ⟨W1, hW1⟩ : ∃ W1, W1 = W.alloc (.map #[] 0) := ⟨_, rfl⟩
 have b1 : Below W.heap.size W W1 := by rw [hW1]; exact below1 _ _
 have hown : W1.ownsMap Tryz.prog 3 (plainElem (H := Unit) Tryz.prog 4) W.heap.size 0 (setL []) := by rw [hW1]; exact World.ownsMap_made _ _ _ _
 have HOW := hi_ hown
 have HB1 := hi_ b1
 clear o ot hw hown b1 hHS hwf
 go_enter Tryz.func158, Tryz.ntmps158
 go_upto_region 1 with fail
 rw [← hW]
 clear hW
 have hp1 := hp W HB
 have hca := @World.cell?_alloc_some
 go_wp2
 rw [← hW1]
 clear hW1 HB hmm hp1 hca
 go_loopw [7, 12] (fun _ iv wr => ∃ k : Nat, k ≤ al.length ∧ iv = .int .i64 k ∧ (∀ j, j < k → tactAtM p al j = none) ∧ Below W.heap.size W wr ∧ wr.ownsMap Tryz.prog 3 (plainElem (H := Unit) Tryz.prog 4) W.heap.size k (setL ((al.take k).map ilit))) (fun _ i _ => al.length - (intOf i).toNat)
 case atStart => exact ⟨0, Nat.zero_le _, rfl, fun j h => absurd h (Nat.not_lt_zero _), HB1.out, HOW.out⟩
 case round =>
  obtain ⟨k, hk, rfl, hpre, HB, hown⟩ := hrel
  have HPre := hi_ hpre
  have HOwn := hi_ hown
  clear hpre hown
  have hp1 := hp wr HB
  by_cases hlt : k < al.length
  ·
   obtain ⟨g, of, hA, d0⟩ := icell_at (HK.out.below (below_step HW.out HB) (Nat.le_refl _)) hlt
   have HE := hi_ (HS.out k hlt)
   have HTk : Hid ((al.take (k + 1)).map ilit = (al.take k).map ilit ++ [ilit al[k]]) := hi_ (by rw [HT.out k hlt, List.map_append]; rfl)
   simp only at hA d0
   subst hA
   generalize al[k] = a at *
   have hcase : a < 0 ∨ (0 ≤ a ∧ (p.actions.l.length : Int) ≤ a) ∨ (0 ≤ a ∧ a < (p.actions.l.length : Int)) := by omega
   rcases hcase with h1 | ⟨h1, h2⟩ | ⟨h1, h2⟩
   ·
    have HE2 := tr_ HE (if_pos (Or.inl h1))
    have HR2 := hi_ (HR.out.trans (show _ = (8 : Int) by rw [firstE_some hlt HPre.out HE2.out]))
    go_wp2
    go_ret
    exact ⟨by rw [HR2.out]; rfl, below_step HW.out HB⟩
   ·
    have HE2 := tr_ HE (if_pos (Or.inr h2))
    have HR2 := hi_ (HR.out.trans (show _ = (8 : Int) by rw [firstE_some hlt HPre.out HE2.out]))
    go_wp2
    go_ret
    exact ⟨by rw [HR2.out]; rfl, below_step HW.out HB⟩
   ·
    have HE2 := hi_ (HE.out.trans (if_neg (show ¬ (a < 0 ∨ (p.actions.l.length : Int) ≤ a) by omega)))
    have HWa := hi_ (wf_of h1 (show a ≤ 9223372036854775807 by omega))
    have hl := look_int HOwn.out a HWa.out
    by_cases hd : a ∈ al.take k
    ·
     have HE3 := tr_ HE2 (if_pos hd)
     have HR2 := hi_ (HR.out.trans (show _ = (7 : Int) by rw [firstE_some hlt HPre.out HE3.out]))
     rw [decide_eq_true hd] at hl
     clear hd
     go_wp2
     go_ret
     exact ⟨by rw [HR2.out]; rfl, below_step HW.out HB⟩
    ·
     have HE3 := tr_ HE2 (if_neg hd)
     rw [decide_eq_false hd] at hl
     clear hd
     go_wp2_with (first
      | (at_mapUpdate; refine wpList_mapUpdate_own _ rfl _ _ _ 255 rfl 3 4 (int_keyed Tryz.underlying3) Tryz.underlying255 (plainElem (H := Unit) Tryz.prog 4) W.heap.size k (setL ((al.take k).map ilit)) rfl HOwn.out ?m1 _ _ (ilit a) rfl rfl ?m2 (.lit (.bool true)) [] ?m3 ?_))
     case m1 => unfold maxLen; omega
     case m2 => exact keyOf_int_mk Tryz.underlying3 HWa.out
     case m3 => exact plainElem_bool Tryz.underlying4 true
     intro w2 hown2 hgrow2
     have hb2 : Below W.heap.size W w2 := HB.grown hgrow2 HB.size fun j hj => by simp at hj; omega
     have HO2 : Hid (w2.ownsMap Tryz.prog 3 (plainElem (H := Unit) Tryz.prog 4) W.heap.size (k + 1) (setL ((al.take (k + 1)).map ilit))) := hi_ (by rw [HTk.out, setL_snoc, List.map_take]; exact hown2)
     clear hown2 hgrow2 hl
     go_wp2
     go_roundw
     case rel => exact ⟨k + 1, by omega, by go_num, firstE_step HPre.out HE3.out, hb2, HO2.out⟩
     case measure => simp [intOf]; omega
  ·
   have e : k = al.length := by omega
   have HR2 := hi_ (HR.out.trans (show _ = (if td ∈ al then callM p td gl else 8) by rw [firstE_none (by rw [← e]; exact HPre.out)]))
   have hl := look_int HOwn.out td HWF.out
   rw [show al.take k = al by rw [e, List.take_length]] at hl
   by_cases hd : td ∈ al
   ·
    rw [decide_eq_true hd] at hl
    replace HR2 := tr_ HR2 (if_pos hd)
    clear hd
    go_wp2_with fail
    refine (checkCall_any p td ⟨gl, gA, gc⟩ _ (HO.out.below (below_step HW.out (by first | exact HB | exact ba1 HB | exact ba2 HB | exact ba3 HB))) (HG.out.below (below_step HW.out (by first | exact HB | exact ba1 HB | exact ba2 HB | exact ba3 HB)) (Nat.le_refl _))).mono ?_
    rintro e w2 ⟨rfl, hbN⟩
    replace HB := below_step (by first | exact HB | exact ba1 HB | exact ba2 HB | exact ba3 HB) hbN
    clear hbN
    go_wp2
    go_ret
    exact ⟨by rw [HR2.out]; rfl, below_step HW.out HB⟩
   ·
    rw [decide_eq_false hd] at hl
    replace HR2 := tr_ HR2 (if_neg hd)
    clear hd
    go_wp2
    go_ret
    exact ⟨by rw [HR2.out]; rfl, below_step HW.out HB⟩
theorem tableCheck_any (p : ProgD) (i : Nat) (hi : i < p.tables.l.length) (w : World) (o : ProgOk w p) (hc : ∀ t ∈ p.tables.l, (Lit.int .i64 t.defA).wf = true) :
  Calls Tryz.prog 98 #[.agg (progCells p), .int .i64 i] w fun e w' => e = .returned (.tuple #[.int .i64 (tabM p p.tables.l[i]).1, .int .i64 (tabM p p.tables.l[i]).2]) ∧ Below w.heap.size w w' := by
 have HO := hi_ o
 obtain ⟨W, hW, hw, HB, hp⟩ := box1 w (progCells p) 31
 have HW := hi_ hw
 have HA : Hid (TabOk W p.tables.l[i]) := hi_ ((o.tab _ (List.getElem_mem hi)).below hw)
 have HC := hi_ (hc _ (List.getElem_mem hi))
 have HR := hi_ (tabM.eq_1 p p.tables.l[i])
 obtain ⟨g, of, hA, hq⟩ := TabD.atA (o.tables.below hw (Nat.le_refl _)) hi
 have hn1 : (i : Int) < (p.tables.l.length : Int) := by omega
 clear o hw hc
 generalize p.tables.l[i] = t at *
 obtain ⟨tn, ⟨kl, kA, kc⟩, ⟨al, aA, ac⟩, td, ⟨gl, gA, gc⟩, tz⟩ := t
 simp only at HR hq
 have HAA := hi_ hA
 simp only [progCells, hA] at hp hW ⊢
 clear hA
 go_enter Tryz.func98, Tryz.ntmps98
 go_upto_region 1 with fail
 rw [← hW]
 clear hW
 refine Exists.elim (box1 W #[.string tn, .slice kA kl.length kc, .slice aA al.length ac, .int .i64 td, .slice gA gl.length gc, .int .i64 tz] 59) ?_
 rintro U ⟨hU, hu, hUU, hc⟩
 go_wp2_with fail
 rw [← hU]
 clear hU
 have HU := hi_ hu
 have hp2 := fun w' h => hp w' (below_step hu h)
 replace HB := hUU
 have HHS : Hid (tn.size ≤ maxLen) := hi_ HA.out.name
 clear hp hUU hu
 refine (isIdent_any tn _ HHS.out).mono ?_
 rintro e w' ⟨rfl, rfl⟩
 cases h1 : identM tn.data.toList
 ·
  replace HR := tr_ HR (if_pos (show ident tn = false from h1))
  go_wp2
  go_ret2
  exact ⟨ret_pp HR.out, below_step HW.out (below_step HU.out HB)⟩
 replace HR := tr_ HR (if_neg (show ¬ ident tn = false by rw [show ident tn = true from h1]; simp))
 clear h1
 by_cases h2 : 6 < kl.length ∨ 16 < al.length
 ·
  replace HR := tr_ HR (if_pos h2)
  have h2' : 6 < kl.length ∨ (kl.length ≤ 6 ∧ 16 < al.length) := by omega
  rcases h2' with h2 | ⟨h2, h3⟩
  all_goals
   go_wp2
   go_ret2
   exact ⟨ret_pp HR.out, below_step HW.out (below_step HU.out HB)⟩
 replace HR := tr_ HR (if_neg h2)
 have h3 : kl.length ≤ 6 := by omega
 have h4 : al.length ≤ 16 := by omega
 clear h2
 by_cases h2 : tz < 1 ∨ 256 < tz
 ·
  replace HR := tr_ HR (if_pos h2)
  have h2' : tz < 1 ∨ (1 ≤ tz ∧ 256 < tz) := by omega
  rcases h2' with h2 | ⟨h2, h5⟩
  all_goals
   go_wp2
   go_ret2
   exact ⟨ret_pp HR.out, below_step HW.out (below_step HU.out HB)⟩
 replace HR := tr_ HR (if_neg h2)
 have h5 : 1 ≤ tz := by omega
 have h6 : tz ≤ 256 := by omega
 clear h2
 go_wp2_with fail
 have hCN := checkKeys_any p ⟨tn, ⟨kl, kA, kc⟩, ⟨al, aA, ac⟩, td, ⟨gl, gA, gc⟩, tz⟩ U (HO.out.below (below_step HW.out (below_step HU.out (by first | exact HB | exact ba1 HB | exact ba2 HB | exact ba3 HB)))) (HA.out.below (below_step HU.out (by first | exact HB | exact ba1 HB | exact ba2 HB | exact ba3 HB))) h3
 simp only [progCells, HAA.out] at hCN
 refine hCN.mono ?_
 clear hCN
 rintro e w1 ⟨rfl, hbN⟩
 replace HB := below_step (by first | exact HB | exact ba1 HB | exact ba2 HB | exact ba3 HB) hbN
 clear hbN
 generalize keysM p kl = r at *
 obtain ⟨ka, kc2⟩ := r
 simp only at HR
 by_cases k1 : kc2 = 0
 case neg =>
  have k1' : (kc2 == 0) = false := bf_ k1
  replace HR := tr_ HR (if_pos k1)
  go_wp2
  go_ret2
  exact ⟨ret_pp HR.out, below_step HW.out (below_step HU.out HB)⟩
 subst k1
 replace HR := tr_ HR (if_neg (by simp))
 go_wp2_with fail
 have hCN := checkActions_any p ⟨tn, ⟨kl, kA, kc⟩, ⟨al, aA, ac⟩, td, ⟨gl, gA, gc⟩, tz⟩ w1 (HO.out.below (below_step HW.out (below_step HU.out (by first | exact HB | exact ba1 HB | exact ba2 HB | exact ba3 HB)))) (HA.out.below (below_step HU.out (by first | exact HB | exact ba1 HB | exact ba2 HB | exact ba3 HB))) HC.out
 simp only [progCells, HAA.out] at hCN
 refine hCN.mono ?_
 clear hCN
 rintro e w2 ⟨rfl, hbN⟩
 replace HB := below_step (by first | exact HB | exact ba1 HB | exact ba2 HB | exact ba3 HB) hbN
 clear hbN
 generalize tactsM p ⟨tn, ⟨kl, kA, kc⟩, ⟨al, aA, ac⟩, td, ⟨gl, gA, gc⟩, tz⟩ = tm at *
 by_cases k1 : tm = 0
 ·
  subst k1
  replace HR := tr_ HR (if_neg (by simp))
  go_wp2
  go_ret2
  exact ⟨ret_pp HR.out, below_step HW.out (below_step HU.out HB)⟩
 ·
  have k1' : (tm == 0) = false := bf_ k1
  replace HR := tr_ HR (if_pos k1)
  go_wp2
  go_ret2
  exact ⟨ret_pp HR.out, below_step HW.out (below_step HU.out HB)⟩
end
theorem leads_any (p : ProgD) (s : Nat) (n : Int) (w : World) :
  Calls Tryz.prog 220 #[.agg (progCells p), .int .i64 s, .int .i64 n] w fun e w' => e = .returned (.bool (leadsM p s n)) ∧ Below w.heap.size w w' := by
 by_cases h1 : n = -1
 ·
  subst h1
  have HR := hi_ (show leadsM p s (-1) = true by simp [leadsM])
  go_enter Tryz.func220, Tryz.ntmps220
  go_wp2
  go_ret
  exact ⟨by rw [HR.out]; rfl, below1 _ _⟩
 by_cases h2 : n = -2
 ·
  subst h2
  have HR := hi_ (show leadsM p s (-2) = true by simp [leadsM])
  go_enter Tryz.func220, Tryz.ntmps220
  go_wp2
  go_ret
  exact ⟨by rw [HR.out]; rfl, below1 _ _⟩
 have k1 : (n == -1) = false := bf_ h1
 have k2 : (n == -2) = false := bf_ h2
 have hc : n ≤ s ∨ ((s : Int) < n ∧ n < p.states.l.length) ∨ ((s : Int) < n ∧ (p.states.l.length : Int) ≤ n) := by omega
 rcases hc with h3 | ⟨h3, h4⟩ | ⟨h3, h4⟩
 ·
  have HR := hi_ (show leadsM p s n = false by simp [leadsM, h1, h2]; omega)
  clear h1 h2
  go_enter Tryz.func220, Tryz.ntmps220
  go_wp2
  go_ret
  exact ⟨by rw [HR.out]; rfl, below1 _ _⟩
 ·
  have HR := hi_ (show leadsM p s n = true by simp [leadsM, h1, h2]; omega)
  clear h1 h2
  go_enter Tryz.func220, Tryz.ntmps220
  go_wp2
  go_ret
  exact ⟨by rw [HR.out]; rfl, below1 _ _⟩
 ·
  have HR := hi_ (show leadsM p s n = false by simp [leadsM, h1, h2]; omega)
  clear h1 h2
  go_enter Tryz.func220, Tryz.ntmps220
  go_wp2
  go_ret
  exact ⟨ret_bool (by rw [HR.out]; exact decide_eq_false (by omega)), below1 _ _⟩
theorem pwidth_any (p : ProgD) (h f : Int) (w : World) (o : ProgOk w p) :
  Calls Tryz.prog 218 #[.agg (progCells p), .agg #[.int .i64 h, .int .i64 f]] w fun e w' => e = .returned (.int .i64 (widthAt p h f)) ∧ Below w.heap.size w w' := width_any p h f w o
theorem bv_within (x y : BitVec 32) : (x &&& ~~~y = 0#32) ↔ (x &&& y = x) := by
 constructor
 ·
  intro h
  ext i hi
  have h2 := congrArg (fun z : BitVec 32 => z[i]) h
  simp at h2 ⊢
  exact h2
 ·
  intro h
  ext i hi
  have h2 := congrArg (fun z : BitVec 32 => z[i]) h
  simp at h2 ⊢
  exact h2
theorem wf_u32 {a : Int} (h : (Lit.int .u32 a).wf = true) : ∃ n : Nat, a = n ∧ n < 4294967296 := by
 have e1 : IntKind.u32.min = 0 := rfl
 have e2 : IntKind.u32.max = 4294967295 := rfl
 simp only [Lit.wf, Bool.and_eq_true, decide_eq_true_eq] at h
 exact ⟨a.toNat, by omega, by omega⟩
theorem bits_and_u32 (a b : Nat) (ha : a < 4294967296) (hb : b < 4294967296) : bits .and .u32 (a : Int) (b : Int) = ((a &&& b : Nat) : Int) := by
 have hx : a &&& b < 2 ^ 32 := Nat.and_lt_two_pow _ (by omega)
 have h1 : (BitVec.ofInt 32 (a : Int)).toNat = a := by
  rw [BitVec.ofInt_natCast, BitVec.toNat_ofNat]; exact Nat.mod_eq_of_lt (by omega)
 have h2 : (BitVec.ofInt 32 (b : Int)).toNat = b := by
  rw [BitVec.ofInt_natCast, BitVec.toNat_ofNat]; exact Nat.mod_eq_of_lt (by omega)
 show IntKind.u32.wrap ((BitVec.ofInt 32 (a : Int) &&& BitVec.ofInt 32 (b : Int)).toNat : Int) = _
 rw [BitVec.toNat_and, h1, h2]
 exact IntWalk.u32_in _ (by omega)
theorem andNot_zero (a b : Nat) (ha : a < 4294967296) (hb : b < 4294967296) : (bits .andNot .u32 (a : Int) (b : Int) == 0) = within a b := by
 have h1 : (BitVec.ofInt 32 (a : Int)).toNat = a := by
  rw [BitVec.ofInt_natCast, BitVec.toNat_ofNat]; exact Nat.mod_eq_of_lt (by omega)
 have h2 : (BitVec.ofInt 32 (b : Int)).toNat = b := by
  rw [BitVec.ofInt_natCast, BitVec.toNat_ofNat]; exact Nat.mod_eq_of_lt (by omega)
 have h3 : bits .andNot .u32 (a : Int) (b : Int) = ((BitVec.ofInt 32 (a : Int) &&& ~~~ BitVec.ofInt 32 (b : Int)).toNat : Int) := by
  show IntKind.u32.wrap ((BitVec.ofInt 32 (a : Int) &&& ~~~ BitVec.ofInt 32 (b : Int)).toNat : Int) = _
  have := (BitVec.ofInt 32 (a : Int) &&& ~~~ BitVec.ofInt 32 (b : Int)).isLt
  exact IntWalk.u32_in _ (by omega)
 rw [h3, within, Bool.eq_iff_iff, beq_iff_eq, decide_eq_true_iff]
 simp only [Int.toNat_natCast]
 have h4 := bv_within (BitVec.ofInt 32 (a : Int)) (BitVec.ofInt 32 (b : Int))
 generalize BitVec.ofInt 32 (a : Int) = x at *
 generalize BitVec.ofInt 32 (b : Int) = y at *
 rw [← h1, ← h2, ← BitVec.toNat_and]
 constructor
 ·
  intro h
  rw [h4.1 (BitVec.eq_of_toNat_eq (by simpa using h))]
 ·
  intro h
  rw [h4.2 (BitVec.eq_of_toNat_eq h)]; rfl
@[reducible] def caseCells (c : CaseD) : Array Value := #[.int .u32 c.value, .int .u32 c.mask, .int .i64 c.next]
theorem checkCase_any (p : ProgD) (i : Nat) (hi : i < p.states.l.length) (c : CaseD) (w : World) (o : ProgOk w p) (hv : (Lit.int .u32 c.value).wf = true) (hm : (Lit.int .u32 c.mask).wf = true) :
  Calls Tryz.prog 219 #[.agg (progCells p), .int .i64 i, .agg (caseCells c)] w fun e w' => e = .returned (.int .i64 (caseM p i (widthAt p p.states.l[i].oh p.states.l[i].of) c)) ∧ Below w.heap.size w w' := by
 obtain ⟨cv, cm, cn⟩ := c
 have HO := hi_ o
 have hz : (bits BinOp.andNot IntKind.u32 cv cm == 0) = within cv cm := by
  obtain ⟨a, ea, la⟩ := wf_u32 hv
  obtain ⟨b, eb, lb⟩ := wf_u32 hm
  simp only at ea eb
  subst ea eb
  exact andNot_zero a b la lb
 clear hv hm
 obtain ⟨W, hW, hw, HB, hp⟩ := box2 w (progCells p) 31 (caseCells ⟨cv, cm, cn⟩) 257
 have HW := hi_ hw
 have HR := hi_ (caseM.eq_1 p i (widthAt p p.states.l[i].oh p.states.l[i].of) ⟨cv, cm, cn⟩)
 obtain ⟨g, of, hA, hq⟩ := StateD.atA (o.states.below hw (Nat.le_refl _)) hi
 have hn1 : (i : Int) < (p.states.l.length : Int) := by omega
 clear o hw
 generalize p.states.l[i] = s at *
 obtain ⟨sn, ⟨xl, xA, xc⟩, sel, oh, sf, ⟨cl, cA, cc⟩, df⟩ := s
 simp only at HR hq
 have HAA := hi_ hA
 simp only [progCells, hA] at hp hW ⊢
 clear hA
 have H0 := hi_ HB
 go_enter Tryz.func219, Tryz.ntmps219
 go_upto_region 1 with fail
 rw [← hW]
 clear hW HB
 go_region_held3 (fun w' => Below W.heap.size W w') (first | exact H0.out | exact below_drew H0.out | (exact below_step (by assumption) (by assumption)) | assumption)
  (first | (go_at_call 218; have hCN := pwidth_any p oh sf _ (HO.out.below (below_step HW.out (by assumption))); simp only [progCells, HAA.out] at hCN; refine hCN.mono ?_; clear hCN; rintro e w1 ⟨rfl, hb1⟩))
 have HB5 : Hid (Below W.heap.size W _) := hi_ (by assumption)
 have HB := HB5.out
 clear hq HB5
 go_wp2_with fail
 refine (fits_any cv (widthAt p oh sf) _).mono ?_
 rintro e w2 ⟨rfl, hbN⟩
 replace HB := below_step (by first | exact HB | exact ba1 HB | exact ba2 HB | exact ba3 HB) hbN
 clear hbN
 cases h1 : fitsM cv (widthAt p oh sf)
 ·
  replace HR := tr_ HR (if_pos (.inl h1))
  go_wp2
  go_ret
  exact ⟨by rw [HR.out]; rfl, below_step HW.out HB⟩
 go_wp2_with fail
 refine (fits_any cm (widthAt p oh sf) _).mono ?_
 rintro e w3 ⟨rfl, hbN⟩
 replace HB := below_step (by first | exact HB | exact ba1 HB | exact ba2 HB | exact ba3 HB) hbN
 clear hbN
 cases h2 : fitsM cm (widthAt p oh sf)
 ·
  replace HR := tr_ HR (if_pos (.inr h2))
  go_wp2
  go_ret
  exact ⟨by rw [HR.out]; rfl, below_step HW.out HB⟩
 replace HR := tr_ HR (if_neg (by rw [h1, h2]; simp))
 cases h3 : within cv cm
 ·
  replace HR := tr_ HR (if_pos h3)
  rw [h3] at hz
  have hz2 : (bits BinOp.andNot IntKind.u32 cv cm != 0) = true := by rw [bne, hz]; rfl
  go_wp2
  go_ret
  exact ⟨by rw [HR.out]; rfl, below_step HW.out HB⟩
 replace HR := tr_ HR (if_neg (by rw [h3]; simp))
 rw [h3] at hz
 have hz2 : (bits BinOp.andNot IntKind.u32 cv cm != 0) = false := by rw [bne, hz]; rfl
 go_wp2_with fail
 have hCN := leads_any p i cn w3
 simp only [progCells, HAA.out] at hCN
 refine hCN.mono ?_
 clear hCN
 rintro e w4 ⟨rfl, hbN⟩
 replace HB := below_step (by first | exact HB | exact ba1 HB | exact ba2 HB | exact ba3 HB) hbN
 clear hbN
 cases h4 : leadsM p i cn
 ·
  replace HR := tr_ HR (if_pos h4)
  go_wp2
  go_ret
  exact ⟨by rw [HR.out]; rfl, below_step HW.out HB⟩
 ·
  replace HR := tr_ HR (if_neg (by rw [h4]; simp))
  go_wp2
  go_ret
  exact ⟨by rw [HR.out]; rfl, below_step HW.out HB⟩
theorem any_yes {α : Type} {f : α → Bool} {l : List α} {k : Nat} (hk : k < l.length) (h : f l[k] = true) : l.any f = true := List.any_eq_true.2 ⟨_, List.getElem_mem hk, h⟩
theorem any_no {α : Type} {f : α → Bool} {l : List α} (h : ∀ j (hj : j < l.length), f l[j] = false) : l.any f = false := by
 rw [Bool.eq_false_iff]
 intro e
 obtain ⟨x, hx, hf⟩ := List.any_eq_true.1 e
 obtain ⟨j, hj, rfl⟩ := List.mem_iff_getElem.1 hx
 rw [h j hj] at hf
 cases hf
def badH (p : ProgD) (h : Int) : Bool := decide (h < 0) || decide ((p.headers.l.length : Int) ≤ h)
theorem stateM_eq (p : ProgD) (i : Nat) (s : StateD) : stateM p i s = if 4 < s.extract.l.length ∨ 8 < s.cases.l.length then (-1, 12)
 else if s.extract.l.any (badH p) = true then (-1, 8)
 else if s.sel = true ∧ widthAt p s.oh s.of = 0 then (-1, 8)
 else if s.sel = false ∧ 0 < s.cases.l.length then (-1, 11)
 else match firstE s.cases.l.length (caseAtM p i (widthAt p s.oh s.of) s.cases.l) with
  | some r => r
  | none => if leadsM p i s.dflt = false then (-1, 14) else (0, 0) := rfl
theorem caseAtM_at (p : ProgD) (i : Nat) (w : Int) (l : List CaseD) (k : Nat) (h : k < l.length) : caseAtM p i w l k = if caseM p i w l[k] ≠ 0 then some ((k : Int), caseM p i w l[k]) else none := by
 rw [caseAtM, List.getElem?_eq_getElem h]
theorem checkState_any (p : ProgD) (i : Nat) (hi : i < p.states.l.length) (w : World) (o : ProgOk w p) (hc : ∀ c ∈ p.states.l[i].cases.l, (Lit.int .u32 c.value).wf = true ∧ (Lit.int .u32 c.mask).wf = true) :
  Calls Tryz.prog 159 #[.agg (progCells p), .int .i64 i] w fun e w' => e = .returned (.tuple #[.int .i64 (stateM p i p.states.l[i]).1, .int .i64 (stateM p i p.states.l[i]).2]) ∧ Below w.heap.size w w' := by
 have HO := hi_ o
 have HC := hi_ hc
 obtain ⟨W, hW, hw, HB, hp⟩ := box1 w (progCells p) 31
 have HW := hi_ hw
 have HA : Hid (StateOk W p.states.l[i]) := hi_ ((o.state _ (List.getElem_mem hi)).below hw)
 have HR := hi_ (stateM_eq p i p.states.l[i])
 obtain ⟨g, of, hA, hq⟩ := StateD.atA (o.states.below hw (Nat.le_refl _)) hi
 have hn1 : (i : Int) < (p.states.l.length : Int) := by omega
 have HCC : Hid (∀ (c : CaseD) (w : World), c ∈ p.states.l[i].cases.l → ProgOk w p → Calls Tryz.prog 219 #[.agg (progCells p), .int .i64 i, .agg (caseCells c)] w fun e w' => e = .returned (.int .i64 (caseM p i (widthAt p p.states.l[i].oh p.states.l[i].of) c)) ∧ Below w.heap.size w w') :=
  hi_ (fun c w hm o => checkCase_any p i hi c w o (HC.out c hm).1 (HC.out c hm).2)
 clear o hw hc HC
 generalize p.states.l[i] = s at *
 obtain ⟨sn, ⟨xl, xA, xc⟩, sel, oh, sf, ⟨cl, cA, cc⟩, df⟩ := s
 simp only at HR hq HCC
 have HAA := hi_ hA
 simp only [progCells, hA] at hp hW ⊢
 clear hA
 have HX := hi_ HA.out.extract
 have HK := hi_ HA.out.cases
 simp only at HX HK
 have hm1 := HX.out.1
 have hm2 := HK.out.1
 unfold maxLen at hm1 hm2
 simp only at hm1 hm2
 have HS := hi_ (caseAtM_at p i (widthAt p oh sf) cl)
 go_enter Tryz.func159, Tryz.ntmps159
 go_upto_region 1 with fail
 rw [← hW]
 clear hW
 refine Exists.elim (box1 W #[.string sn, .slice xA xl.length xc, .bool sel, .int .i64 oh, .int .i64 sf, .slice cA cl.length cc, .int .i64 df] 64) ?_
 rintro U ⟨hU, hu, hUU, hc⟩
 go_upto_region 2 with fail
 rw [← hU]
 clear hU
 have HU := hi_ hu
 have hp2 := fun w' h => hp w' (below_step hu h)
 replace HB := hUU
 have HUU := hi_ hUU
 clear hp hUU hu hq
 by_cases h2 : 4 < xl.length ∨ 8 < cl.length
 ·
  replace HR := tr_ HR (if_pos h2)
  have h2' : 4 < xl.length ∨ (xl.length ≤ 4 ∧ 8 < cl.length) := by omega
  rcases h2' with h2 | ⟨h2, h3⟩
  all_goals
   go_wp2
   go_ret2
   exact ⟨ret_pp HR.out, below_step HW.out (below_step HU.out HB)⟩
 replace HR := tr_ HR (if_neg h2)
 have h3 : xl.length ≤ 4 := by omega
 have h4 : cl.length ≤ 8 := by omega
 clear h2
 go_wp2
 clear HB
 go_loopw [8, 30] (fun _ iv wr => ∃ k : Nat, k ≤ xl.length ∧ iv = .int .i64 k ∧ (∀ j (hj : j < xl.length), j < k → badH p xl[j] = false) ∧ Below U.heap.size U wr) (fun _ i _ => xl.length - (intOf i).toNat)
 case atStart => exact ⟨0, Nat.zero_le _, rfl, fun j _ h => absurd h (Nat.not_lt_zero _), HUU.out⟩
 case round =>
  obtain ⟨k, hk, rfl, hpre, HB⟩ := hrel
  have HPre := hi_ hpre
  clear hpre
  by_cases hlt : k < xl.length
  ·
   obtain ⟨g2, of2, hA, d0⟩ := icell_at (HX.out.below (below_step HU.out HB) (Nat.le_refl _)) hlt
   have HE := hi_ (any_yes (f := badH p) hlt)
   have HN : Hid (badH p xl[k] = false → ∀ j (hj : j < xl.length), j < k + 1 → badH p xl[j] = false) := hi_ (fun hf j hj h => by
    rcases Nat.lt_succ_iff_lt_or_eq.1 h with h1 | rfl
    · exact HPre.out j hj h1
    · exact hf)
   simp only at hA d0
   subst hA
   generalize xl[k] = x at *
   have hcase : x < 0 ∨ (0 ≤ x ∧ (p.headers.l.length : Int) ≤ x) ∨ (0 ≤ x ∧ x < (p.headers.l.length : Int)) := by omega
   rcases hcase with h1 | ⟨h1, h2⟩ | ⟨h1, h2⟩
   ·
    have HR2 := tr_ HR (if_pos (HE.out (by simp [badH, h1])))
    go_wp2
    go_ret2
    exact ⟨ret_pp HR2.out, below_step HW.out (below_step HU.out HB)⟩
   ·
    have HR2 := tr_ HR (if_pos (HE.out (by simp [badH, h2])))
    go_wp2
    go_ret2
    exact ⟨ret_pp HR2.out, below_step HW.out (below_step HU.out HB)⟩
   ·
    have HN2 := hi_ (HN.out (by simp [badH]; omega))
    go_wp2
    go_roundw
    case rel => exact ⟨k + 1, by omega, by go_num, HN2.out, HB⟩
    case measure => simp [intOf]; omega
  have e : k = xl.length := by omega
  have hno : Hid (¬ xl.any (badH p) = true) := hi_ (by rw [any_no (fun j hj => HPre.out j hj (by omega))]; simp)
  clear hlt
  replace HR := tr_ HR (if_neg hno.out)
  have hkx : ¬ ((k : Int) < (xl.length : Int)) := by omega
  subst e
  clear HPre hk
  cases sel
  ·
   replace HR := tr_ HR (if_neg (by simp))
   by_cases h5 : 0 < cl.length
   ·
    replace HR := tr_ HR (if_pos (by simp [h5]))
    go_wp2
    go_ret2
    exact ⟨ret_pp HR.out, below_step HW.out (below_step HU.out HB)⟩
   ·
    replace HR := tr_ HR (if_neg (fun h => h5 h.2))
    have h6 : cl.length = 0 := by omega
    have HR2 := hi_ (HR.out.trans (show _ = (if leadsM p i df = false then ((-1 : Int), (14 : Int)) else (0, 0)) by rw [h6]; rfl))
    have h7 : ¬ (0 : Int) < (cl.length : Int) := by omega
    have h8 : (cl.length : Int) ≤ 0 := by omega
    clear h5 h6
    go_wp2
    refine wp_loop_rounds 1 ?_
    rw [rounds_succ]
    go_wp2_with fail
    have hCN := leads_any p i df wr
    simp only [progCells, HAA.out] at hCN
    refine hCN.mono ?_
    clear hCN
    rintro e w4 ⟨rfl, hbN⟩
    replace HB := below_step (by first | exact HB | exact ba1 HB | exact ba2 HB | exact ba3 HB) hbN
    clear hbN
    cases h4 : leadsM p i df
    ·
     replace HR2 := tr_ HR2 (if_pos h4)
     go_wp2
     go_ret2
     exact ⟨ret_pp HR2.out, below_step HW.out (below_step HU.out HB)⟩
    ·
     replace HR2 := tr_ HR2 (if_neg (by rw [h4]; simp))
     go_wp2
     go_ret2
     exact ⟨ret_pp HR2.out, below_step HW.out (below_step HU.out HB)⟩
  ·
   go_wp2_with fail
   have hCN := pwidth_any p oh sf wr (HO.out.below (below_step HW.out (below_step HU.out HB)))
   simp only [progCells, HAA.out] at hCN
   refine hCN.mono ?_
   clear hCN
   rintro e w1 ⟨rfl, hbN⟩
   replace HB := below_step (by first | exact HB | exact ba1 HB | exact ba2 HB | exact ba3 HB) hbN
   clear hbN
   by_cases h5 : widthAt p oh sf = 0
   ·
    replace HR := tr_ HR (if_pos (by simp [h5]))
    have h5' : (widthAt p oh sf == 0) = true := beq_iff_eq.2 h5
    clear h5
    go_wp2
    go_ret2
    exact ⟨ret_pp HR.out, below_step HW.out (below_step HU.out HB)⟩
   ·
    replace HR := hi_ (HR.out.trans ((if_neg (fun h => h5 h.2)).trans (if_neg (by simp))))
    have h5' : (widthAt p oh sf == 0) = false := bf_ h5
    have HB0 := hi_ HB
    clear h5
    go_wp2
    clear HB
    go_loopw [9, 10, 11, 67] (fun _ _ _ iv wr => ∃ k : Nat, k ≤ cl.length ∧ iv = .int .i64 k ∧ (∀ j, j < k → caseAtM p i (widthAt p oh sf) cl j = none) ∧ Below U.heap.size U wr) (fun _ _ _ i _ => cl.length - (intOf i).toNat)
    case atStart => exact ⟨0, Nat.zero_le _, rfl, fun j h => absurd h (Nat.not_lt_zero _), HB0.out⟩
    case round =>
     obtain ⟨k, hk, rfl, hpre, HB⟩ := hrel
     have HPre := hi_ hpre
     clear hpre
     by_cases hlt : k < cl.length
     ·
      obtain ⟨g2, of2, hA, d0, d1, d2⟩ := CaseD.at (HK.out.below (below_step HU.out HB) (Nat.le_refl _)) hlt
      have HE := hi_ (HS.out k hlt)
      have HCk := hi_ (fun w o => HCC.out cl[k] w (List.getElem_mem hlt) o)
      simp only at hA d0 d1 d2
      subst hA
      generalize cl[k] = c at *
      obtain ⟨cv, cm, cn⟩ := c
      simp only at d0 d1 d2
      have hp3 := hp2 wr HB
      have hca := @World.cell?_alloc_some
      go_wp2_with fail
      have hCN := HCk.out (wr.alloc (.cells (caseCells ⟨cv, cm, cn⟩) 257)) (HO.out.below (below_step HW.out (below_step HU.out (by first | exact HB | exact ba1 HB | exact ba2 HB | exact ba3 HB))))
      simp only [progCells, HAA.out] at hCN
      refine hCN.mono ?_
      clear hCN
      rintro e w4 ⟨rfl, hbN⟩
      replace HB := below_step (by first | exact HB | exact ba1 HB | exact ba2 HB | exact ba3 HB) hbN
      clear hbN
      clear hp3
      generalize hcv : caseM p i (widthAt p oh sf) ⟨cv, cm, cn⟩ = ce at *
      by_cases k1 : ce = 0
      ·
       subst k1
       have HE2 := tr_ HE (if_neg (by simp))
       go_wp2
       go_roundw
       case rel => exact ⟨k + 1, by omega, by go_num, firstE_step HPre.out HE2.out, HB⟩
       case measure => simp [intOf]; omega
      ·
       have k1' : (ce == 0) = false := bf_ k1
       have HE2 := tr_ HE (if_pos k1)
       have HR2 := hi_ (HR.out.trans (show _ = ((k : Int), ce) by rw [firstE_some hlt HPre.out HE2.out]))
       go_wp2
       go_ret2
       exact ⟨ret_pp HR2.out, below_step HW.out (below_step HU.out HB)⟩
     ·
      have e : k = cl.length := by omega
      have HR2 := hi_ (HR.out.trans (show _ = (if leadsM p i df = false then ((-1 : Int), (14 : Int)) else (0, 0)) by rw [firstE_none (by rw [← e]; exact HPre.out)]))
      go_wp2_with fail
      have hCN := leads_any p i df wr
      simp only [progCells, HAA.out] at hCN
      refine hCN.mono ?_
      clear hCN
      rintro e w4 ⟨rfl, hbN⟩
      replace HB := below_step (by first | exact HB | exact ba1 HB | exact ba2 HB | exact ba3 HB) hbN
      clear hbN
      cases h4 : leadsM p i df
      ·
       replace HR2 := tr_ HR2 (if_pos h4)
       go_wp2
       go_ret2
       exact ⟨ret_pp HR2.out, below_step HW.out (below_step HU.out HB)⟩
      ·
       replace HR2 := tr_ HR2 (if_neg (by rw [h4]; simp))
       go_wp2
       go_ret2
       exact ⟨ret_pp HR2.out, below_step HW.out (below_step HU.out HB)⟩
section
open Go.RowKit Go.Maps
def slit (s : ByteArray) : Lit := .string s.data.toList
theorem slit_key (l : List ByteArray) : ∀ a ∈ l.map slit, WideAt.IsKeyLit a := by
 intro a ha
 obtain ⟨b, _, rfl⟩ := List.mem_map.1 ha
 trivial
theorem slit_mem {l : List ByteArray} {a : ByteArray} : (slit a ∈ l.map slit) = (a ∈ l) := by
 rw [List.mem_map]
 apply propext
 constructor
 ·
  rintro ⟨b, hb, e⟩
  injection e with e
  cases a; cases b
  simp only [Array.toList_inj] at e
  subst e; exact hb
 · exact fun h => ⟨a, h, rfl⟩
theorem look_str {w : World} {b n : Nat} {l : List ByteArray} (h : w.ownsMap Tryz.prog 9 (plainElem (H := Unit) Tryz.prog 4) b n (setL (l.map slit))) (a : ByteArray) (ha : a.size ≤ maxLen) :
  (Instr.lookup 223 (.map (some b)) (.string a) false).run Tryz.prog w = .ok (.bool (Lib.containsS l a)) w := by
 refine look_bool h (string_keyed Tryz.underlying9) Tryz.underlying223 Tryz.underlying4 (by kernel_rfl) (Go.WideMaps.keyOf_string_mk Tryz.underlying9 ha) _ ?_
 obtain ⟨h1, h2⟩ := setL_at (slit a) (l.map slit) (.map []) isMap_empty (slit_key l)
 rw [slit_mem] at h1 h2
 by_cases hm : a ∈ l
 · rw [(Lib.containsS_iff _ _).2 hm]; exact h1 hm
 · rw [show Lib.containsS l a = false by rw [Bool.eq_false_iff]; exact fun e => hm ((Lib.containsS_iff _ _).1 e)]; exact h2 hm
theorem stateAtM_at (p : ProgD) (k : Nat) (h : k < p.states.l.length) : stateAtM p k = if ident p.states.l[k].name = false then some ((k : Int), -1, 6) else if dupB (p.states.l.map StateD.name) k = true then some ((k : Int), -1, 7)
  else if (stateM p k p.states.l[k]).2 ≠ 0 then some ((k : Int), (stateM p k p.states.l[k]).1, (stateM p k p.states.l[k]).2) else none := by
 rw [stateAtM, List.getElem?_eq_getElem h]
theorem dup_of {l : List ByteArray} {i : Nat} (h : i < l.length) : Lib.containsS (l.take i) l[i] = dupB l i := by
 rw [dupB]; congr 1; simp [h]
theorem ret_3 {a b c : Int} {r : Int × Int × Int} (h : r = (a, b, c)) : Ending.returned (.tuple #[.int .i64 a, .int .i64 b, .int .i64 c]) = .returned (.tuple #[.int .i64 r.1, .int .i64 r.2.1, .int .i64 r.2.2]) := by rw [h]
theorem parserCheck_any (p : ProgD) (w : World) (o : ProgOk w p) (hc : ∀ s ∈ p.states.l, ∀ c ∈ s.cases.l, (Lit.int .u32 c.value).wf = true ∧ (Lit.int .u32 c.mask).wf = true) :
  Calls Tryz.prog 99 #[.agg (progCells p)] w fun e w' => e = .returned (.tuple #[.int .i64 (parserM p).1, .int .i64 (parserM p).2.1, .int .i64 (parserM p).2.2]) ∧ Below w.heap.size w w' := by
 have HO := hi_ o
 have HC := hi_ hc
 obtain ⟨W, hW, hw, HB, hp⟩ := box1 w (progCells p) 31
 have HW := hi_ hw
 have HOW := hi_ (o.below hw)
 have HR := hi_ (parserM.eq_1 p)
 have HS := hi_ (stateAtM_at p)
 have HT := hi_ (take_snoc (p.states.l.map StateD.name))
 have hmm := @run_makeMap Tryz.prog
 clear o hw hc
 by_cases h1 : p.states.l.length = 0
 ·
  replace HR := tr_ HR (if_pos h1)
  have h1' : ((p.states.l.length : Int) == 0) = true := by rw [beq_iff_eq]; omega
  clear h1
  go_enter Tryz.func99, Tryz.ntmps99
  go_wp2
  go_ret3
  exact ⟨ret_3 HR.out, below1 _ _⟩
 replace HR := tr_ HR (if_neg h1)
 have h1' : ((p.states.l.length : Int) == 0) = false := by rw [beq_eq_false_iff_ne]; omega
 clear h1
 by_cases h2 : 12 < p.states.l.length
 ·
  replace HR := tr_ HR (if_pos h2)
  go_enter Tryz.func99, Tryz.ntmps99
  go_wp2
  go_ret3
  exact ⟨ret_3 HR.out, below1 _ _⟩
 replace HR := tr_ HR (if_neg h2)
 have h3 : p.states.l.length ≤ 12 := by omega
 clear h2
 obtain ⟨g, of, hA, hall⟩ := StateD.allA HOW.out.states (show 0 < p.states.l.length by
  have := h1'
  rw [beq_eq_false_iff_ne] at this
  omega)
 have HAA := hi_ hA
 have HAL := hi_ hall
 simp only [progCells, hA] at hp hW ⊢
 clear hA hall
 obtain ⟨W1, hW1⟩ : ∃ W1, W1 = W.alloc (.map #[] 0) := ⟨_, rfl⟩
 have b1 : Below W.heap.size W W1 := by rw [hW1]; exact below1 _ _
 have hown : W1.ownsMap Tryz.prog 9 (plainElem (H := Unit) Tryz.prog 4) W.heap.size 0 (setL []) := by rw [hW1]; exact World.ownsMap_made _ _ _ _
 have HOM := hi_ hown
 have HB1 := hi_ b1
 clear hown b1
 go_enter Tryz.func99, Tryz.ntmps99
 go_upto_region 1 with fail
 rw [← hW]
 clear hW
 have hp1 := hp W HB
 have hca := @World.cell?_alloc_some
 go_wp2
 rw [← hW1]
 clear hW1 HB hmm hp1 hca
 go_loopw [6, 7, 8, 9, 24] (fun _ _ _ _ iv wr => ∃ k : Nat, k ≤ p.states.l.length ∧ iv = .int .i64 k ∧ (∀ j, j < k → stateAtM p j = none) ∧ Below W.heap.size W wr ∧ wr.ownsMap Tryz.prog 9 (plainElem (H := Unit) Tryz.prog 4) W.heap.size k (setL (((p.states.l.map StateD.name).take k).map slit)))
  (fun _ _ _ _ i _ => p.states.l.length - (intOf i).toNat)
 case atStart => exact ⟨0, Nat.zero_le _, rfl, fun j h => absurd h (Nat.not_lt_zero _), HB1.out, HOM.out⟩
 case round =>
  obtain ⟨k, hk, rfl, hpre, HB, hown⟩ := hrel
  have HPre := hi_ hpre
  have HOwn := hi_ hown
  clear hpre hown
  by_cases hlt : k < p.states.l.length
  ·
   obtain ⟨d0, d1, d2, d3, d4, d5, d6⟩ := HAL.out wr HB k hlt
   have HE := hi_ (HS.out k hlt)
   have HN : Hid (p.states.l[k].name.size ≤ maxLen) := hi_ (HOW.out.state _ (List.getElem_mem hlt)).name
   have HD : Hid (Lib.containsS ((p.states.l.map StateD.name).take k) p.states.l[k].name = dupB (p.states.l.map StateD.name) k) := hi_ (by
    have := dup_of (l := p.states.l.map StateD.name) (i := k) (by simpa using hlt)
    rwa [List.getElem_map] at this)
   have HTk : Hid (((p.states.l.map StateD.name).take (k + 1)).map slit = ((p.states.l.map StateD.name).take k).map slit ++ [slit p.states.l[k].name]) := hi_ (by
    rw [HT.out k (by simpa using hlt), List.map_append, List.getElem_map]; rfl)
   have HCS := hi_ (fun w o => checkState_any p k hlt w o (HC.out _ (List.getElem_mem hlt)))
   generalize p.states.l[k] = s at *
   obtain ⟨sn, ⟨xl, xA, xc⟩, sel, oh, sf, ⟨cl, cA, cc⟩, df⟩ := s
   simp only at HE HN HD HTk d0 d1 d2 d3 d4 d5 d6
   have hp1 := hp wr HB
   have hca := @World.cell?_alloc_some
   have HOwn2 := hi_ (HOwn.out.alloc (.cells #[.string sn, .slice xA xl.length xc, .bool sel, .int .i64 oh, .int .i64 sf, .slice cA cl.length cc, .int .i64 df] 64))
   have hl := look_str HOwn2.out sn HN.out
   go_wp2_with fail
   refine (isIdent_any sn _ HN.out).mono ?_
   rintro e w' ⟨rfl, rfl⟩
   cases h1 : identM sn.data.toList
   ·
    have HE2 := tr_ HE (if_pos (show ident sn = false from h1))
    have HR2 := hi_ (HR.out.trans (show _ = ((k : Int), (-1 : Int), (6 : Int)) by rw [firstE_some hlt HPre.out HE2.out]))
    go_wp2
    go_ret3
    exact ⟨ret_3 HR2.out, below_step HW.out (by first | exact HB | exact ba1 HB | exact ba2 HB | exact ba3 HB)⟩
   have HE2 := tr_ HE (if_neg (show ¬ ident sn = false by rw [show ident sn = true from h1]; simp))
   clear HE h1
   rw [HD.out] at hl
   cases h4 : dupB (p.states.l.map StateD.name) k
   case true =>
    have HE3 := tr_ HE2 (if_pos h4)
    have HR2 := hi_ (HR.out.trans (show _ = ((k : Int), (-1 : Int), (7 : Int)) by rw [firstE_some hlt HPre.out HE3.out]))
    rw [h4] at hl
    go_wp2
    go_ret3
    exact ⟨ret_3 HR2.out, below_step HW.out (by first | exact HB | exact ba1 HB | exact ba2 HB | exact ba3 HB)⟩
   have HE3 := tr_ HE2 (if_neg (by rw [h4]; simp))
   rw [h4] at hl
   have hbA := below_alloc HB (.cells #[.string sn, .slice xA xl.length xc, .bool sel, .int .i64 oh, .int .i64 sf, .slice cA cl.length cc, .int .i64 df] 64)
   go_wp2_with (first
    | (at_mapUpdate; refine wpList_mapUpdate_own _ rfl _ _ _ 223 rfl 9 4 (string_keyed Tryz.underlying9) Tryz.underlying223 (plainElem (H := Unit) Tryz.prog 4) W.heap.size k (setL (((p.states.l.map StateD.name).take k).map slit)) rfl HOwn2.out ?m1 _ _ (slit sn) rfl rfl ?m2 (.lit (.bool true)) [] ?m3 ?_))
   case m1 => unfold maxLen; omega
   case m2 => exact Go.WideMaps.keyOf_string_mk Tryz.underlying9 HN.out
   case m3 => exact plainElem_bool Tryz.underlying4 true
   intro w2 hown2 hgrow2
   replace HB : Below W.heap.size W w2 := hbA.grown hgrow2 hbA.size fun j hj => by simp at hj; omega
   have HO2 : Hid (w2.ownsMap Tryz.prog 9 (plainElem (H := Unit) Tryz.prog 4) W.heap.size (k + 1) (setL (((p.states.l.map StateD.name).take (k + 1)).map slit))) := hi_ (by rw [HTk.out, setL_snoc, List.map_take, List.map_map]; exact hown2)
   clear hown2 hgrow2 hl hbA HOwn2 d0 d1 d2 d3 d4 d5 d6 hp1 hca
   go_wp2_with fail
   have hCN := HCS.out w2 (HO.out.below (below_step HW.out HB))
   simp only [progCells, HAA.out] at hCN
   refine hCN.mono ?_
   clear hCN
   rintro e w3 ⟨rfl, hbN⟩
   have HO3 := hi_ (HO2.out.kept (only_of_below hbN none) (by simp))
   replace HB := below_step HB hbN
   clear hbN
   generalize hsm : stateM p k ⟨sn, ⟨xl, xA, xc⟩, sel, oh, sf, ⟨cl, cA, cc⟩, df⟩ = sm at *
   obtain ⟨sub, ec⟩ := sm
   simp only at HE3
   by_cases k1 : ec = 0
   ·
    subst k1
    have HE4 := tr_ HE3 (if_neg (by simp))
    go_wp2
    go_roundw
    case rel => exact ⟨k + 1, by omega, by go_num, firstE_step HPre.out HE4.out, HB, HO3.out⟩
    case measure => simp [intOf]; omega
   ·
    have k1' : (ec == 0) = false := bf_ k1
    have HE4 := tr_ HE3 (if_pos k1)
    have HR2 := hi_ (HR.out.trans (show _ = ((k : Int), sub, ec) by rw [firstE_some hlt HPre.out HE4.out]))
    go_wp2
    go_ret3
    exact ⟨ret_3 HR2.out, below_step HW.out HB⟩
  ·
   have e : k = p.states.l.length := by omega
   have HR2 := hi_ (HR.out.trans (show _ = ((0 : Int), (0 : Int), (0 : Int)) by rw [firstE_none (by rw [← e]; exact HPre.out)]))
   go_wp2
   go_ret3
   exact ⟨ret_3 HR2.out, below_step HW.out HB⟩
theorem depAtM_at (p : ProgD) (l : List Int) (k : Nat) (h : k < l.length) : depAtM p l k = if l[k] < 0 ∨ (p.headers.l.length : Int) ≤ l[k] then some ((k : Int), 8) else if l[k] ∈ l.take k then some ((k : Int), 7) else none := by
 rw [depAtM, List.getElem?_eq_getElem h]
theorem deparserCheck_any (p : ProgD) (w : World) (o : ProgOk w p) (hc : p.deparser.l.length ≤ p.deparser.c) :
  Calls Tryz.prog 101 #[.agg (progCells p)] w fun e w' => e = .returned (.tuple #[.int .i64 (depM p).1, .int .i64 (depM p).2]) ∧ Below w.heap.size w w' := by
 obtain ⟨W, hW, hw, HB, hp⟩ := box1 w (progCells p) 31
 have HW := hi_ hw
 have HOW := hi_ (o.below hw)
 have HR := hi_ (depM.eq_1 p)
 have HS := hi_ (depAtM_at p p.deparser.l)
 clear o hw
 by_cases h2 : 8 < p.deparser.l.length
 ·
  replace HR := tr_ HR (if_pos h2)
  go_enter Tryz.func101, Tryz.ntmps101
  go_wp2
  go_ret2
  exact ⟨ret_pp HR.out, below1 _ _⟩
 replace HR := tr_ HR (if_neg h2)
 have h3 : p.deparser.l.length ≤ 8 := by omega
 clear h2
 by_cases h1 : p.deparser.l.length = 0
 ·
  have HR2 := hi_ (HR.out.trans (show _ = ((0 : Int), (0 : Int)) by rw [h1]; rfl))
  have h4 : (p.deparser.l.length : Int) ≤ 0 := by omega
  have h5 : ¬ (0 : Int) < (p.deparser.l.length : Int) := by omega
  clear h1
  go_enter Tryz.func101, Tryz.ntmps101
  go_wp2
  refine wp_loop_rounds 1 ?_
  rw [rounds_succ]
  go_wp2
  go_ret2
  exact ⟨ret_pp HR2.out, below1 _ _⟩
 obtain ⟨g, of, hA, hall⟩ := icell_allA HOW.out.deparser (show 0 < p.deparser.l.length by omega)
 have HAL := hi_ hall
 simp only [progCells, hA] at hp hW ⊢
 clear hA hall h1
 have HB0 := hi_ HB
 go_enter Tryz.func101, Tryz.ntmps101
 go_upto_region 1 with fail
 rw [← hW]
 clear hW
 go_wp2
 clear HB
 go_loopw [4, 5, 13] (fun _ _ iv wr => ∃ k : Nat, k ≤ p.deparser.l.length ∧ iv = .int .i64 k ∧ (∀ j, j < k → depAtM p p.deparser.l j = none) ∧ Below W.heap.size W wr) (fun _ _ i _ => p.deparser.l.length - (intOf i).toNat)
 case atStart => exact ⟨0, Nat.zero_le _, rfl, fun j h => absurd h (Nat.not_lt_zero _), HB0.out⟩
 case round =>
  obtain ⟨k, hk, rfl, hpre, HB⟩ := hrel
  have HPre := hi_ hpre
  clear hpre
  by_cases hlt : k < p.deparser.l.length
  ·
   have d0 := HAL.out wr HB k hlt
   have HE := hi_ (HS.out k hlt)
   have HCn : Hid (Calls Tryz.prog 166 #[.slice (some ⟨g, of, none⟩) k p.deparser.c, .int .i64 p.deparser.l[k]] wr fun e w' => e = .returned (.bool ((p.deparser.l.take k).contains p.deparser.l[k])) ∧ w' = wr) :=
    hi_ (Tryz.slices_Contains_int g of k p.deparser.c p.deparser.l p.deparser.l[k] wr (by omega) (by omega) (fun j hj => by rw [HAL.out wr HB j hj]; simp [hj]))
   have hi1 : (k : Int) ≤ (p.deparser.l.length : Int) := by omega
   have hi2 : k ≤ p.deparser.c := by omega
   have HM : Hid ((p.deparser.l.take k).contains p.deparser.l[k] = decide (p.deparser.l[k] ∈ p.deparser.l.take k)) := hi_ (by rw [Bool.eq_iff_iff]; simp)
   generalize p.deparser.l[k] = h at *
   have hcase : h < 0 ∨ (0 ≤ h ∧ (p.headers.l.length : Int) ≤ h) ∨ (0 ≤ h ∧ h < (p.headers.l.length : Int)) := by omega
   rcases hcase with h1 | ⟨h1, h2⟩ | ⟨h1, h2⟩
   ·
    have HE2 := tr_ HE (if_pos (Or.inl h1))
    have HR2 := hi_ (HR.out.trans (show _ = ((k : Int), (8 : Int)) by rw [firstE_some hlt HPre.out HE2.out]))
    go_wp2
    go_ret2
    exact ⟨ret_pp HR2.out, below_step HW.out HB⟩
   ·
    have HE2 := tr_ HE (if_pos (Or.inr h2))
    have HR2 := hi_ (HR.out.trans (show _ = ((k : Int), (8 : Int)) by rw [firstE_some hlt HPre.out HE2.out]))
    go_wp2
    go_ret2
    exact ⟨ret_pp HR2.out, below_step HW.out HB⟩
   ·
    have HE2 := hi_ (HE.out.trans (if_neg (show ¬ (h < 0 ∨ (p.headers.l.length : Int) ≤ h) by omega)))
    go_wp2_with fail
    refine HCn.out.mono ?_
    rintro e w' ⟨rfl, rfl⟩
    rw [HM.out]
    by_cases h4 : h ∈ p.deparser.l.take k
    ·
     have HE3 := tr_ HE2 (if_pos h4)
     have HR2 := hi_ (HR.out.trans (show _ = ((k : Int), (7 : Int)) by rw [firstE_some hlt HPre.out HE3.out]))
     rw [decide_eq_true h4]
     clear h4
     go_wp2
     go_ret2
     exact ⟨ret_pp HR2.out, below_step HW.out HB⟩
    ·
     have HE3 := tr_ HE2 (if_neg h4)
     rw [decide_eq_false h4]
     clear h4
     go_wp2
     go_roundw
     case rel => exact ⟨k + 1, by omega, by go_num, firstE_step HPre.out HE3.out, HB⟩
     case measure => simp [intOf]; omega
  ·
   have e : k = p.deparser.l.length := by omega
   have HR2 := hi_ (HR.out.trans (show _ = ((0 : Int), (0 : Int)) by rw [firstE_none (by rw [← e]; exact HPre.out)]))
   go_wp2
   go_ret2
   exact ⟨ret_pp HR2.out, below_step HW.out HB⟩
end
theorem presM_append : ∀ (a b : List CtlD), presM (a ++ b) = presM a ++ presM b
 | [], b => by simp [presM]
 | x :: a, b => by rw [List.cons_append, presM, presM, presM_append a b, List.append_assoc]
theorem preM_eq (x : CtlD) : preM x = x :: (presM x.th.l ++ presM x.el.l) := by
 cases x; rw [preM]; rfl
theorem presM_snoc (l : List CtlD) (x : CtlD) : presM (l ++ [x]) = presM l ++ x :: (presM x.th.l ++ presM x.el.l) := by
 rw [presM_append, presM, presM, preM_eq]; simp
theorem nest_mem {x : CtlD} : ∀ {l : List CtlD}, x ∈ l → nestM x.th.l < nestM l ∧ nestM x.el.l < nestM l
 | y :: l, h => by
  rw [nestM]
  rcases List.mem_cons.1 h with rfl | h
  ·
   have e : nest1M x = max (nestM x.th.l) (nestM x.el.l) := by cases x; rw [nest1M]; rfl
   rw [e]
   omega
  ·
   have := nest_mem h
   omega
theorem ctls_mem {w : World} {x : CtlD} : ∀ {l : List CtlD}, CtlsOk w l → x ∈ l → CtlOk w x
 | y :: l, o, h => by
  rw [CtlsOk] at o
  rcases List.mem_cons.1 h with rfl | h
  · exact o.1
  · exact ctls_mem o.2 h
theorem ctl_parts {w : World} {x : CtlD} (o : CtlOk w x) : LOk w 3 NodeD.cells x.cond ∧ LOk w 5 CtlD.cells x.th ∧ LOk w 5 CtlD.cells x.el ∧ CtlsOk w x.th.l ∧ CtlsOk w x.el.l := by
 cases x; rw [CtlOk] at o; exact o
@[reducible] def ctlCells (x : CtlD) : Array Value := #[.int .i64 x.kind, .int .i64 x.table, .slice x.cond.A x.cond.l.length x.cond.c, .slice x.th.A x.th.l.length x.th.c, .slice x.el.A x.el.l.length x.el.c]
def runM (ok : List CtlD → CtlD → Bool) : List CtlD → List CtlD → Option (List CtlD × CtlD)
 | _, [] => none
 | l, x :: r => if ok l x = true then runM ok (l ++ [x]) r else some (l, x)
theorem runM_append (ok : List CtlD → CtlD → Bool) : ∀ (a b l : List CtlD), runM ok l (a ++ b) = match runM ok l a with | none => runM ok (l ++ a) b | some r => some r
 | [], b, l => by simp [runM]
 | x :: a, b, l => by
  rw [List.cons_append, runM, runM]
  split
  · rw [runM_append ok a b (l ++ [x]), List.append_assoc]; rfl
  · rfl
theorem runM_none {ok : List CtlD → CtlD → Bool} {a b l : List CtlD} (h : runM ok l a = none) : runM ok l (a ++ b) = runM ok (l ++ a) b := by rw [runM_append, h]
theorem runM_some {ok : List CtlD → CtlD → Bool} {a b l : List CtlD} {r : List CtlD × CtlD} (h : runM ok l a = some r) : runM ok l (a ++ b) = some r := by rw [runM_append, h]
structure Grow (w w' : World) : Prop where
 os : w'.os = w.os
 tape : w'.tape = w.tape
 output : w'.output = w.output
 size : w.heap.size ≤ w'.heap.size
 block : ∀ (b : Nat) (cs : Array Value) fr, w.heap[b]? = some (Obj.cells cs 102 fr) → w'.heap[b]? = w.heap[b]?
theorem Grow.trans {w w1 w2 : World} (h : Grow w w1) (h2 : Grow w1 w2) : Grow w w2 :=
 ⟨h2.os.trans h.os, h2.tape.trans h.tape, h2.output.trans h.output, Nat.le_trans h.size h2.size, fun b cs fr hb => (h2.block b cs fr ((h.block b cs fr hb).trans hb)).trans (h.block b cs fr hb)⟩
theorem Grow.of_below {w w' : World} (h : Below w.heap.size w w') : Grow w w' := ⟨h.os, h.tape, h.output, h.size, fun b _ _ hb => h.block b (by
 rcases Nat.lt_or_ge b w.heap.size with hlt | hge
 · exact hlt
 · rw [Array.getElem?_eq_none hge] at hb; cases hb)⟩
structure Visits (N : Nat) (B0 : World) (F : FuncId) (caps : Array Value) (ok : List CtlD → CtlD → Bool) (Inv : List CtlD → World → Prop) (Stop : List CtlD → CtlD → World → Prop) : Prop where
 visit : ∀ l x w, l.length + 1 + (presM x.th.l).length + (presM x.el.l).length ≤ N → CtlOk B0 x → Inv l w → Calls Tryz.prog F (#[.agg (ctlCells x)] ++ caps) w fun e w' => e = .returned (.bool (ok l x)) ∧ Grow w w' ∧ (ok l x = true → Inv (l ++ [x]) w') ∧ (ok l x = false → Stop l x w')
 base : ∀ l w, Inv l w → Below B0.heap.size B0 w
 more : ∀ l w o, Inv l w → Inv l (w.alloc o)
def preE (ok : List CtlD → CtlD → Bool) (Inv : List CtlD → World → Prop) (Stop : List CtlD → CtlD → World → Prop) (l c : List CtlD) (w : World) (e : Ending) (w' : World) : Prop :=
 Grow w w' ∧ match runM ok l c with
  | none => e = .returned (.bool true) ∧ Inv (l ++ c) w'
  | some (l', x) => e = .returned (.bool false) ∧ Stop l' x w'
theorem Blk.grow {w w' : World} {g : Nat} {cs : Array Value} (hb : Blk w g 102 cs) (h : Grow w w') : Blk w' g 102 cs := (h.block g cs (0, 0) hb).trans hb
theorem preorder_any (N : Nat) (B0 : World) (F : FuncId) (caps : Array Value) (ok : List CtlD → CtlD → Bool) (Inv : List CtlD → World → Prop) (Stop : List CtlD → CtlD → World → Prop)
  (V : Visits N B0 F caps ok Inv Stop) (hF : (F = 221 ∧ ∃ g, caps = #[.pointer (some ⟨g, 0, none⟩)]) ∨ (F = 163 ∧ ∃ g1 g2 g3 g4, caps = #[.pointer (some ⟨g1, 0, none⟩), .pointer (some ⟨g2, 0, none⟩), .pointer (some ⟨g3, 0, none⟩), .pointer (some ⟨g4, 0, none⟩)])) :
  ∀ (m : Nat) (c : L CtlD) (l : List CtlD) (w : World), nestM c.l < m → l.length + (presM c.l).length ≤ N → LOk B0 5 CtlD.cells c → CtlsOk B0 c.l → Inv l w →
  Calls Tryz.prog 162 #[.slice c.A c.l.length c.c, .func (.func F) #[] caps] w fun e w' => preE ok Inv Stop l (presM c.l) w e w'
 | 0, _, _, _, h, _, _, _, _ => absurd h (Nat.not_lt_zero _)
 | m + 1, ⟨cl, cA, cc⟩, l, w, hm, hNb, hc, hcs, hI => by
  have IH := hi_ (preorder_any N B0 F caps ok Inv Stop V hF m)
  have HV := hi_ V
  have HC := hi_ hc
  have HCS := hi_ hcs
  have HI := hi_ hI
  have HM := hi_ hm
  have HNb := hi_ hNb
  have hlen := hc.1
  unfold maxLen at hlen
  simp only at hlen HCS HM HNb
  clear V hc hcs hI hm hNb
  by_cases h0 : cl.length = 0
  ·
   have e0 : cl = [] := List.eq_nil_of_length_eq_zero h0
   have HE : Hid (presM cl = []) := hi_ (by rw [e0]; rfl)
   have h1 : ¬ ((0 : Int) < (cl.length : Int)) := by omega
   have h2 : (cl.length : Int) ≤ 0 := by omega
   clear h0 e0 HM HCS
   rcases hF with ⟨rfl, g, rfl⟩ | ⟨rfl, g1, g2, g3, g4, rfl⟩
   all_goals
    go_enter Tryz.func162, Tryz.ntmps162
    go_wp2
    refine wp_loop_rounds 1 ?_
    rw [rounds_succ]
    go_wp2
    go_ret
    refine ⟨Grow.of_below (Below.refl _ _), ?_⟩
    rw [HE.out]
    exact ⟨rfl, by rw [List.append_nil]; exact HI.out⟩
  obtain ⟨g0, of0, hA, hall⟩ := CtlD.allA HC.out (show 0 < cl.length by omega)
  have HAL := hi_ hall
  simp only at hA
  subst hA
  clear hall h0
  rcases hF with ⟨rfl, g, rfl⟩ | ⟨rfl, g1, g2, g3, g4, rfl⟩
  all_goals
   go_enter Tryz.func162, Tryz.ntmps162
   go_wp2
   go_loopw [6, 9] (fun _ iv wr => ∃ k : Nat, k ≤ cl.length ∧ iv = .int .i64 k ∧ Grow w wr ∧ runM ok l (presM (cl.take k)) = none ∧ Inv (l ++ presM (cl.take k)) wr) (fun _ i _ => cl.length - (intOf i).toNat)
   case atStart => exact ⟨0, Nat.zero_le _, rfl, Grow.of_below (Below.refl _ _), rfl, by rw [List.take_zero, presM, List.append_nil]; exact HI.out⟩
   case round =>
    obtain ⟨k, hk, rfl, hg, hrun, hinv⟩ := hrel
    have HG := hi_ hg
    have HRn := hi_ hrun
    have HIn := hi_ hinv
    clear hg hrun hinv
    by_cases hlt : k < cl.length
    ·
     obtain ⟨d0, d1, d2, d3, d4⟩ := HAL.out wr (HV.out.base _ _ HIn.out) k hlt
     have HX : Hid (CtlOk B0 cl[k]) := hi_ (ctls_mem HCS.out (List.getElem_mem hlt))
     have HNe : Hid (nestM cl[k].th.l < m ∧ nestM cl[k].el.l < m) := hi_ (by
      have := nest_mem (List.getElem_mem hlt)
      have := HM.out
      omega)
     have HP1 : Hid (presM (cl.take (k + 1)) = presM (cl.take k) ++ cl[k] :: (presM cl[k].th.l ++ presM cl[k].el.l)) := hi_ (by rw [take_snoc cl k hlt, presM_snoc])
     have HP : Hid (∃ rest, presM cl = presM (cl.take k) ++ cl[k] :: (presM cl[k].th.l ++ presM cl[k].el.l) ++ rest) := hi_ ⟨presM (cl.drop (k + 1)), by
      rw [← HP1.out, ← presM_append, List.take_append_drop]⟩
     generalize cl[k] = x at *
     have HLen : Hid ((l ++ presM (cl.take k)).length + 1 + (presM x.th.l).length + (presM x.el.l).length ≤ N ∧ (l ++ presM (cl.take k) ++ [x]).length + (presM x.th.l).length ≤ N ∧ (l ++ presM (cl.take k) ++ [x] ++ presM x.th.l).length + (presM x.el.l).length ≤ N) := hi_ (by
      obtain ⟨rest, hr⟩ := HP.out
      have h1 := congrArg List.length hr
      have h2 := HNb.out
      simp only [List.length_append, List.length_cons, List.length_nil] at h1 ⊢
      omega)
     refine Exists.elim (box1 wr (ctlCells x) 102) ?_
     rintro U ⟨hU, hu, hUU, hbx⟩
     have hinvU : Inv (l ++ presM (cl.take k)) U := by rw [hU]; exact HV.out.more _ _ _ HIn.out
     have hBlk : Blk U wr.heap.size 102 (ctlCells x) := by rw [hU]; exact Blk.new _ _ _
     go_wp2_with fail
     rw [← hU]
     clear hU d0 d1 d2 d3 d4
     have hvis := HV.out.visit _ x U HLen.out.1 HX.out hinvU
     simp only [List.append_toArray, List.cons_append, List.nil_append] at hvis
     refine hvis.mono ?_
     clear hvis
     rintro e w1 ⟨rfl, hg1, hi1, hs1⟩
     have HGa := hi_ ((HG.out.trans (Grow.of_below hu)).trans hg1)
     cases hok : ok (l ++ presM (cl.take k)) x
     ·
      have HSt := hi_ (hs1 hok)
      have HRr : Hid (runM ok l (presM cl) = some (l ++ presM (cl.take k), x)) := hi_ (by
       obtain ⟨rest, hr⟩ := HP.out
       rw [hr, List.append_assoc, runM_none HRn.out, List.cons_append, runM, if_neg (by rw [hok]; simp)])
      clear hi1 hs1 hok
      go_wp2
      go_ret
      refine ⟨HGa.out, ?_⟩
      rw [HRr.out]
      exact ⟨rfl, HSt.out⟩
     have HI1 := hi_ (hi1 hok)
     have HRx : Hid (∀ t, runM ok l (presM (cl.take k) ++ x :: t) = runM ok (l ++ presM (cl.take k) ++ [x]) t) := hi_ (fun t => by
      rw [runM_none HRn.out, runM, if_pos hok])
     have hB1 := hBlk.grow hg1
     have hth : w1.cell? ⟨wr.heap.size, 3, none⟩ = some (.slice x.th.A x.th.l.length x.th.c) := hB1.cell 3
     have HBl := hi_ hB1
     clear hi1 hs1 hok hg1 hbx hinvU hB1 hBlk
     go_wp2_with fail
     refine (IH.out x.th (l ++ presM (cl.take k) ++ [x]) w1 HNe.out.1 HLen.out.2.1 (ctl_parts HX.out).2.1 (ctl_parts HX.out).2.2.2.1 HI1.out).mono ?_
     rintro e w2 ⟨hg2, hm2⟩
     have HGb := hi_ (HGa.out.trans hg2)
     rcases hr2 : runM ok (l ++ presM (cl.take k) ++ [x]) (presM x.th.l) with _ | ⟨l', y⟩
     case some =>
      rw [hr2] at hm2
      obtain ⟨rfl, hst⟩ := hm2
      have HSt := hi_ hst
      have HRr : Hid (runM ok l (presM cl) = some (l', y)) := hi_ (by
       obtain ⟨rest, hr⟩ := HP.out
       rw [hr, List.append_assoc, List.cons_append, HRx.out, List.append_assoc (presM x.th.l), runM_some hr2])
      clear hst hr2 hg2
      go_wp2
      go_ret
      refine ⟨HGb.out, ?_⟩
      rw [HRr.out]
      exact ⟨rfl, HSt.out⟩
     rw [hr2] at hm2
     obtain ⟨rfl, hi2⟩ := hm2
     have HI2 := hi_ hi2
     have HR2 := hi_ hr2
     have hel : w2.cell? ⟨wr.heap.size, 4, none⟩ = some (.slice x.el.A x.el.l.length x.el.c) := (HBl.out.grow hg2).cell 4
     clear hi2 hr2 hg2 hth
     go_wp2_with fail
     refine (IH.out x.el (l ++ presM (cl.take k) ++ [x] ++ presM x.th.l) w2 HNe.out.2 HLen.out.2.2 (ctl_parts HX.out).2.2.1 (ctl_parts HX.out).2.2.2.2 HI2.out).mono ?_
     rintro e w3 ⟨hg3, hm3⟩
     have HGc := hi_ (HGb.out.trans hg3)
     rcases hr3 : runM ok (l ++ presM (cl.take k) ++ [x] ++ presM x.th.l) (presM x.el.l) with _ | ⟨l', y⟩
     case some =>
      rw [hr3] at hm3
      obtain ⟨rfl, hst⟩ := hm3
      have HSt := hi_ hst
      have HRr : Hid (runM ok l (presM cl) = some (l', y)) := hi_ (by
       obtain ⟨rest, hr⟩ := HP.out
       rw [hr, List.append_assoc, List.cons_append, HRx.out, List.append_assoc (presM x.th.l), runM_none HR2.out, runM_some hr3])
      clear hst hr3 hg3
      go_wp2
      go_ret
      refine ⟨HGc.out, ?_⟩
      rw [HRr.out]
      exact ⟨rfl, HSt.out⟩
     rw [hr3] at hm3
     obtain ⟨rfl, hi3⟩ := hm3
     have HI3 : Hid (Inv (l ++ presM (cl.take (k + 1))) w3) := hi_ (by
      rw [HP1.out]
      simp only [List.append_assoc, List.cons_append, List.nil_append] at hi3 ⊢
      exact hi3)
     have HR4 : Hid (runM ok l (presM (cl.take (k + 1))) = none) := hi_ (by rw [HP1.out, HRx.out, runM_none HR2.out, hr3])
     clear hi3 hr3 hg3
     go_wp2
     go_roundw
     case rel => exact ⟨k + 1, by omega, by go_num, HGc.out, HR4.out, HI3.out⟩
     case measure => simp [intOf]; omega
    ·
     have e : k = cl.length := by omega
     have HRr : Hid (runM ok l (presM cl) = none) := hi_ (by have := HRn.out; rwa [e, List.take_length] at this)
     have HIr : Hid (Inv (l ++ presM cl) wr) := hi_ (by have := HIn.out; rwa [e, List.take_length] at this)
     clear e
     go_wp2
     go_ret
     refine ⟨HG.out, ?_⟩
     rw [HRr.out]
     exact ⟨rfl, HIr.out⟩
theorem Grow.rfl' {w : World} : Grow w w := Grow.of_below (Below.refl _ _)
theorem Grow.alloc {w w' : World} (h : Grow w w') (o : Obj) : Grow w (w'.alloc o) := h.trans (Grow.of_below (below1 _ _))
theorem Grow.setCell {w w' : World} (h : Grow w w') {a : Addr} {t : TypeId} {cs : Array Value} (hb : Blk w' a.block t cs) (ht : t ≠ 102) (v : Value) : Grow w (w'.setCell a v) := by
 have h0 : Below 0 w' (w'.setCell a v) := (Below.refl 0 w').setCell (Nat.zero_le _) v
 refine h.trans ⟨h0.os, h0.tape, h0.output, h0.size, fun b cs2 fr h2 => Below.heap_setCell _ _ _ _ (fun e => ?_)⟩
 subst e
 unfold Blk at hb
 rw [hb] at h2
 injection h2 with h2
 injection h2 with _ h2 _
 exact ht h2
theorem Grow.append {w w' w2 : World} (h : Grow w w') {v : Value} {base size n : Nat} {t : TypeId} {xs : List Value} (ho : w'.ownsRow base t size v n xs) (ht : t ≠ 102) (hg : w'.grownBy w2 v.ownBlock) : Grow w w2 := by
 refine h.trans ⟨hg.os, hg.tape, hg.output, hg.size, fun b cs fr h2 => hg.block b (by
  rcases Nat.lt_or_ge b w'.heap.size with hlt | hge
  · exact hlt
  · rw [Array.getElem?_eq_none hge] at h2; cases h2) (fun e => ?_)⟩
 rcases ho.2 with ⟨rfl, _⟩ | ⟨g, cap, cur, rfl, _, hblk, _⟩
 · simp [Value.ownBlock] at e
 ·
  simp only [Value.ownBlock, Option.some.injEq] at e
  subst e
  rw [hblk] at h2
  injection h2 with h2
  injection h2 with _ h2 _
  exact ht h2
theorem count1_any (g : Nat) (x : CtlD) (w : World) (n : Nat) (hn : n < 100000) (hb : Blk w g 3 #[.int .i64 n]) :
  Calls Tryz.prog 221 #[.agg (ctlCells x), .pointer (some ⟨g, 0, none⟩)] w fun e w' => e = .returned (.bool true) ∧ ∃ o, w' = (w.setCell ⟨g, 0, none⟩ (.int .i64 ((n + 1 : Nat) : Int))).alloc o := by
 have hc : w.cell? ⟨g, 0, none⟩ = some (.int .i64 n) := hb.cell 0
 have hf : w.frozen? ⟨g, 0, none⟩ = false := hb.frozen 0
 have hl := hb.lt
 have hca := @World.cell?_alloc_some
 have hfl := @World.frozen?_alloc_old
 clear hb
 go_enter Tryz.func221, Tryz.ntmps221
 go_wp2
 go_ret
 exact ⟨rfl, _, by rw [show ((n + 1 : Nat) : Int) = (n : Int) + 1 by omega]⟩
theorem count_visits (w : World) : Visits 90000 w 221 #[.pointer (some ⟨w.heap.size, 0, none⟩)] (fun _ _ => true)
  (fun l w' => Below w.heap.size w w' ∧ Blk w' w.heap.size 3 #[.int .i64 l.length]) (fun _ _ _ => False) := by
 refine ⟨?_, fun l w' h => h.1, fun l w' o h => ⟨below_alloc h.1 o, h.2.alloc o⟩⟩
 rintro l x w' hl _ ⟨h1, h3⟩
 refine (count1_any w.heap.size x w' l.length (by omega) h3).mono ?_
 rintro e w2 ⟨rfl, o, rfl⟩
 refine ⟨rfl, (Grow.setCell (a := ⟨w.heap.size, 0, none⟩) Grow.rfl' h3 (by decide) _).alloc _, fun _ => ⟨below_alloc (h1.setCell (Nat.le_refl _) _) _, ?_⟩, fun h => by cases h⟩
 have h4 := (h3.set_ 0 (.int .i64 ((l.length + 1 : Nat) : Int))).alloc o
 rw [List.length_append]
 exact h4
theorem runM_true : ∀ (a l : List CtlD), runM (fun _ _ => true) l a = none
 | [], _ => rfl
 | x :: a, l => by rw [runM, if_pos rfl]; exact runM_true a _
theorem count_any (c : L CtlD) (w : World) (hc : LOk w 5 CtlD.cells c) (hcs : CtlsOk w c.l) (hn : (presM c.l).length ≤ 90000) :
  Calls Tryz.prog 160 #[.slice c.A c.l.length c.c] w fun e w' => e = .returned (.int .i64 ((presM c.l).length : Int)) ∧ Below w.heap.size w w' := by
 have HC := hi_ hc
 have HCS := hi_ hcs
 have HN := hi_ hn
 clear hc hcs hn
 have hmf : ∀ (fn : Fn) (first cap : Array Value) (w : World), (Instr.makeFunc fn first cap).run Tryz.prog w = .ok (.func fn first cap) w := fun _ _ _ _ => rfl
 go_enter Tryz.func160, Tryz.ntmps160
 go_wp2_with fail
 refine (preorder_any 90000 w 221 #[.pointer (some ⟨w.heap.size, 0, none⟩)] _ _ _ (count_visits w) (.inl ⟨rfl, _, rfl⟩) (nestM c.l + 1) c [] _ (Nat.lt_succ_self _) (by simpa using HN.out) HC.out HCS.out
  ⟨below1 _ _, Blk.new _ _ _⟩).mono ?_
 rintro e w1 ⟨hg, hm⟩
 rw [runM_true] at hm
 obtain ⟨rfl, hb1, hblk⟩ := hm
 have hz : w1.cell? ⟨w.heap.size, 0, none⟩ = some (.int .i64 ((presM c.l).length : Int)) := hblk.cell 0
 have HB := hi_ hb1
 clear hg hb1 hblk
 go_wp2
 go_ret
 exact ⟨rfl, HB.out⟩
theorem applies_any (x : CtlD) (w : World) : Calls Tryz.prog 165 #[.agg (ctlCells x)] w fun e w' => e = .returned (.bool (appliesM x)) ∧ Below w.heap.size w w' := by
 have HR := hi_ (appliesM.eq_1 x)
 by_cases h1 : x.kind = 1
 ·
  have HR2 : Hid (appliesM x = true) := hi_ (by rw [HR.out, h1]; rfl)
  have h1' : (x.kind == 1) = true := beq_iff_eq.2 h1
  clear h1
  go_enter Tryz.func165, Tryz.ntmps165
  go_wp2
  go_ret
  exact ⟨by rw [HR2.out]; rfl, below1 _ _⟩
 ·
  have h1' : (x.kind == 1) = false := bf_ h1
  by_cases h2 : x.kind = 3
  ·
   have HR2 : Hid (appliesM x = true) := hi_ (by rw [HR.out, h2]; rfl)
   have h2' : (x.kind == 3) = true := beq_iff_eq.2 h2
   clear h1 h2
   go_enter Tryz.func165, Tryz.ntmps165
   go_wp2
   go_ret
   exact ⟨by rw [HR2.out]; rfl, below1 _ _⟩
  ·
   have HR2 : Hid (appliesM x = false) := hi_ (by rw [HR.out]; simp [h1, h2])
   have h2' : (x.kind == 3) = false := bf_ h2
   clear h1 h2
   go_enter Tryz.func165, Tryz.ntmps165
   go_wp2
   go_ret
   exact ⟨by rw [HR2.out]; rfl, below1 _ _⟩
mutual
theorem nest1_le : ∀ (x : CtlD), nest1M x + 1 ≤ (preM x).length
 | .mk k t c th el tA eA tc ec => by
  have h1 := nest_le th
  have h2 := nest_le el
  rw [nest1M, preM, List.length_cons, List.length_append]
  omega
theorem nest_le : ∀ (l : List CtlD), nestM l ≤ (presM l).length
 | [] => by rw [nestM]; exact Nat.zero_le _
 | x :: l => by
  have h1 := nest1_le x
  have h2 := nest_le l
  rw [nestM, presM, List.length_append]
  omega
end
theorem nest_snoc (l : List CtlD) (x : CtlD) : nestM (l ++ [x]) = max (nestM l) (max (nestM x.th.l) (nestM x.el.l) + 1) := by
 induction l with
 | nil => cases x; simp [nestM, nest1M, CtlD.th, CtlD.el]
 | cons y l ih => rw [List.cons_append, nestM, ih, nestM]; omega
theorem nesting_any : ∀ (m : Nat) (c : L CtlD) (w : World), nestM c.l < m → nestM c.l ≤ 90000 → LOk w 5 CtlD.cells c → CtlsOk w c.l →
    Calls Tryz.prog 161 #[.slice c.A c.l.length c.c] w fun e w' => e = .returned (.int .i64 (nestM c.l : Int)) ∧ Below w.heap.size w w'
  | 0, _, _, h, _, _, _ => absurd h (Nat.not_lt_zero _)
  | m + 1, ⟨cl, cA, cc⟩, w, hm, hN, hc, hcs => by
    have IH := hi_ (nesting_any m)
    have HC := hi_ hc
    have HCS := hi_ hcs
    have HM := hi_ hm
    have HN := hi_ hN
    have hlen := hc.1
    unfold maxLen at hlen
    simp only at hlen HCS HM HN
    clear hc hcs hm hN
    by_cases h0 : cl.length = 0
    · have e0 : cl = [] := List.eq_nil_of_length_eq_zero h0
      have HE : Hid (nestM cl = 0) := hi_ (by rw [e0]; rfl)
      have h1 : ((cl.length : Int) == 0) = true := by rw [beq_iff_eq]; omega
      clear h0 e0 HM HCS
      go_enter Tryz.func161, Tryz.ntmps161
      go_wp2
      go_ret
      exact ⟨by rw [HE.out]; rfl, Below.refl _ _⟩
    have h1 : ((cl.length : Int) == 0) = false := by rw [beq_eq_false_iff_ne]; omega
    obtain ⟨g0, of0, hA, hall⟩ := CtlD.allA HC.out (show 0 < cl.length by omega)
    have HAL := hi_ hall
    simp only at hA
    subst hA
    clear hall h0
    go_enter Tryz.func161, Tryz.ntmps161
    go_wp2
    go_loopw [3, 5, 11] (fun nv _ iv wr => ∃ k : Nat, k ≤ cl.length ∧ iv = .int .i64 k ∧ nv = .int .i64 ((nestM (cl.take k) - 1 : Nat) : Int) ∧ (0 < k → 0 < nestM (cl.take k)) ∧ Below w.heap.size w wr) (fun _ _ i _ => cl.length - (intOf i).toNat)
    case atStart => exact ⟨0, Nat.zero_le _, rfl, rfl, fun h => absurd h (Nat.lt_irrefl _), Below.refl _ _⟩
    case round =>
      obtain ⟨k, hk, rfl, rfl, hpos, HB⟩ := hrel
      by_cases hlt : k < cl.length
      · obtain ⟨d0, d1, d2, d3, d4⟩ := HAL.out wr HB k hlt
        have HX : Hid (CtlOk w cl[k]) := hi_ (ctls_mem HCS.out (List.getElem_mem hlt))
        have hmem := nest_mem (List.getElem_mem hlt)
        have HNe : Hid (nestM cl[k].th.l < m ∧ nestM cl[k].el.l < m ∧ nestM cl[k].th.l ≤ 90000 ∧ nestM cl[k].el.l ≤ 90000) := hi_ (by
          have := HM.out
          have := HN.out
          omega)
        have HS : Hid (nestM (cl.take (k + 1)) = max (nestM (cl.take k)) (max (nestM cl[k].th.l) (nestM cl[k].el.l) + 1)) := hi_ (by rw [take_snoc cl k hlt, nest_snoc])
        clear hmem
        generalize cl[k] = x at *
        refine Exists.elim (box1 wr (ctlCells x) 102) ?_
        rintro U ⟨hU, hu, hUU, hbx⟩
        have HB0 := hi_ HB
        have HU := hi_ (below_step HB hu)
        have H0 := hi_ hUU
        have hca := @World.cell?_alloc_some
        go_upto_region 7 with fail
        rw [← hU]
        clear hU HB hUU hu d0 d1 d2 d3 d4 hca
        have hb3 : ∀ w', Below U.heap.size U w' → w'.cell? ⟨wr.heap.size, 3, none⟩ = some (.slice x.th.A x.th.l.length x.th.c) ∧ w'.cell? ⟨wr.heap.size, 4, none⟩ = some (.slice x.el.A x.el.l.length x.el.c) :=
          fun w' h => ⟨hbx w' h 3 (show 3 < 5 by decide), hbx w' h 4 (show 4 < 5 by decide)⟩
        clear hbx
        have HXt : Hid (LOk w 5 CtlD.cells x.th ∧ CtlsOk w x.th.l) := hi_ ⟨(ctl_parts HX.out).2.1, (ctl_parts HX.out).2.2.2.1⟩
        have HXe : Hid (LOk w 5 CtlD.cells x.el ∧ CtlsOk w x.el.l) := hi_ ⟨(ctl_parts HX.out).2.2.1, (ctl_parts HX.out).2.2.2.2⟩
        clear HX
        generalize x.kind = xk at *
        generalize x.table = xtb at *
        generalize x.cond = xcd at *
        generalize x.th = xt at *
        generalize x.el = xe at *
        obtain ⟨tl, tA, tc⟩ := xt
        obtain ⟨el, eA, ec⟩ := xe
        simp only at hb3 HXt HXe HNe HS
        have HCt : Hid (∀ w', Below U.heap.size U w' → Calls Tryz.prog 161 #[.slice tA tl.length tc] w' fun e w2 => e = .returned (.int .i64 (nestM tl : Int)) ∧ Below w'.heap.size w' w2) :=
          hi_ (fun w' h => IH.out ⟨tl, tA, tc⟩ w' HNe.out.1 HNe.out.2.2.1 (HXt.out.1.below (below_step HU.out h) (Nat.le_refl _)) (CtlsOk.below (below_step HU.out h) HXt.out.2))
        have HCe : Hid (∀ w', Below U.heap.size U w' → Calls Tryz.prog 161 #[.slice eA el.length ec] w' fun e w2 => e = .returned (.int .i64 (nestM el : Int)) ∧ Below w'.heap.size w' w2) :=
          hi_ (fun w' h => IH.out ⟨el, eA, ec⟩ w' HNe.out.2.1 HNe.out.2.2.2 (HXe.out.1.below (below_step HU.out h) (Nat.le_refl _)) (CtlsOk.below (below_step HU.out h) HXe.out.2))
        go_region_held3 (fun w' => Below U.heap.size U w') (first | exact H0.out | exact below_drew H0.out | (exact below_step (by assumption) (by assumption)) | assumption)
          (first | (go_at_call 161; refine (HCt.out _ (by assumption)).mono ?_; clear HCt; rintro e w1 ⟨rfl, hb1⟩)
                 | (go_at_call 161; refine (HCe.out _ (by assumption)).mono ?_; rintro e w1 ⟨rfl, hb1⟩))
        have HB5 : Hid (Below U.heap.size U _) := hi_ (by assumption)
        go_wp2
        go_roundw
        case rel => exact ⟨k + 1, by omega, by go_num, by (rw [HS.out]; congr 1; (repeat' split) <;> omega), fun _ => (by rw [HS.out]; omega), below_step HU.out HB5.out⟩
        case measure => simp [intOf]; omega
      · have e : k = cl.length := by omega
        have HR : Hid (nestM (cl.take k) = nestM cl) := hi_ (by rw [e, List.take_length])
        have hp : 0 < nestM (cl.take k) := hpos (by
          have := h1
          rw [beq_eq_false_iff_ne] at this
          omega)
        have hN2 := HN.out
        rw [HR.out] at hp ⊢
        go_wp2
        go_ret
        exact ⟨ret_int (by omega), HB⟩
theorem exprCheck_nil (p : ProgD) (x : L NodeD) (w : World) (o : ProgOk w p) (hx : LOk w 3 NodeD.cells x) :
  Calls Tryz.prog 217 #[.slice x.A x.l.length x.c, .agg (scopeCells p ⟨[], none, 0⟩)] w fun e w' => e = .returned (.tuple #[.int .i64 (exprM p [] x.l).1, .int .i64 (exprM p [] x.l).2]) ∧ Below w.heap.size w w' :=
 exprCheck_any p ⟨[], none, 0⟩ x w o ⟨Nat.zero_le _, .inl rfl⟩ hx
theorem nodeM_eq (p : ProgD) (used : List Int) (x : CtlD) : nodeM p used x = if x.kind = 1 ∨ x.kind = 3 then
  (if x.table < 0 ∨ (p.tables.l.length : Int) ≤ x.table then 8 else if x.table ∈ used then 7 else if x.kind = 1 ∧ 0 < x.th.l.length + x.el.l.length then 5 else 0)
 else if x.kind = 2 then (if (exprM p [] x.cond.l).2 ≠ 0 then (exprM p [] x.cond.l).2 else if (exprM p [] x.cond.l).1 ≠ 1 then 10 else 0)
 else 11 := rfl
theorem node_apply (p : ProgD) (kd tb : Int) (cd : L NodeD) (tl el : List CtlD) (tA eA : Option Addr) (tc ec : Nat) (ul : List Int) (uA : Option Addr) (uc : Nat) (w : World) (hk : kd = 1 ∨ kd = 3)
  (hu : LOk w 1 icell ⟨ul, uA, uc⟩) (hle : tl.length + el.length ≤ 90000) :
  Calls Tryz.prog 164 #[.agg (progCells p), .agg #[.int .i64 kd, .int .i64 tb, .slice cd.A cd.l.length cd.c, .slice tA tl.length tc, .slice eA el.length ec], .slice uA ul.length uc] w fun e w' => e = .returned (.int .i64 (nodeM p ul (.mk kd tb cd tl el tA eA tc ec))) ∧ Below w.heap.size w w' := by
 obtain ⟨W, hW, hw, HB, hp⟩ := box2 w (progCells p) 31 #[.int .i64 kd, .int .i64 tb, .slice cd.A cd.l.length cd.c, .slice tA tl.length tc, .slice eA el.length ec] 102
 have HW := hi_ hw
 have HU := hi_ (hu.below hw (Nat.le_refl _))
 have HB0 := hi_ HB
 have hlen := hu.1
 unfold maxLen at hlen
 simp only at hlen
 have HR := hi_ ((nodeM_eq p ul (.mk kd tb cd tl el tA eA tc ec)).trans (if_pos hk))
 simp only [CtlD.kind, CtlD.table, CtlD.th, CtlD.el] at HR
 clear hu hw
 have hcase : tb < 0 ∨ (0 ≤ tb ∧ (p.tables.l.length : Int) ≤ tb) ∨ (0 ≤ tb ∧ tb < (p.tables.l.length : Int)) := by omega
 rcases hcase with h1 | ⟨h1, h2⟩ | ⟨h1, h2⟩
 case inl =>
  replace HR := tr_ HR (if_pos (Or.inl h1))
  rcases hk with rfl | rfl
  all_goals
   go_enter Tryz.func164, Tryz.ntmps164
   go_upto_region 1 with fail
   rw [← hW]
   clear hW
   go_wp2
   go_ret
   exact ⟨by rw [HR.out]; rfl, below_step HW.out HB⟩
 case inr.inl =>
  replace HR := tr_ HR (if_pos (Or.inr h2))
  rcases hk with rfl | rfl
  all_goals
   go_enter Tryz.func164, Tryz.ntmps164
   go_upto_region 1 with fail
   rw [← hW]
   clear hW
   go_wp2
   go_ret
   exact ⟨by rw [HR.out]; rfl, below_step HW.out HB⟩
 replace HR := hi_ (HR.out.trans (if_neg (show ¬ (tb < 0 ∨ (p.tables.l.length : Int) ≤ tb) by omega)))
 by_cases hmem : tb ∈ ul
 ·
  replace HR := tr_ HR (if_pos hmem)
  have HMem := hi_ hmem
  clear hmem
  rcases hk with rfl | rfl
  all_goals
   go_enter Tryz.func164, Tryz.ntmps164
   go_upto_region 1 with fail
   rw [← hW]
   clear hW
   go_wp2
   clear HB
   go_loopw [8, 29] (fun _ iv wr => ∃ k : Nat, k ≤ ul.length ∧ iv = .int .i64 k ∧ (∀ j (hj : j < ul.length), j < k → ul[j] ≠ tb) ∧ W = wr) (fun _ i _ => ul.length - (intOf i).toNat)
   case atStart => exact ⟨0, Nat.zero_le _, rfl, fun j _ h => absurd h (Nat.not_lt_zero _), rfl⟩
   case round =>
    obtain ⟨k, hk2, rfl, hpre, rfl⟩ := hrel
    have HPre := hi_ hpre
    have HB := HB0.out
    clear hpre
    by_cases hlt : k < ul.length
    ·
     obtain ⟨g2, of2, hA, d0⟩ := icell_at HU.out hlt
     have HN : Hid (ul[k] ≠ tb → ∀ j (hj : j < ul.length), j < k + 1 → ul[j] ≠ tb) := hi_ (fun hf j hj h => by
      rcases Nat.lt_succ_iff_lt_or_eq.1 h with h1 | rfl
      · exact HPre.out j hj h1
      · exact hf)
     simp only at hA d0
     subst hA
     generalize ul[k] = u at *
     by_cases he : u = tb
     ·
      subst he
      go_wp2
      go_ret
      exact ⟨by rw [HR.out]; rfl, below_step HW.out HB⟩
     ·
      have HN2 := hi_ (HN.out he)
      have he' : (u == tb) = false := bf_ he
      go_wp2
      go_roundw
      case rel => exact ⟨k + 1, by omega, by go_num, HN2.out, by trivial⟩
      case measure => simp [intOf]; omega
    ·
     exfalso
     obtain ⟨j, hj, he⟩ := List.mem_iff_getElem.1 HMem.out
     exact HPre.out j hj (by omega) he
 replace HR := tr_ HR (if_neg hmem)
 have HMem := hi_ hmem
 clear hmem
 have hsum : ¬ ((0 : Int) < (tl.length : Int) + (el.length : Int)) ∨ (0 : Int) < (tl.length : Int) + (el.length : Int) := by omega
 rcases hk with rfl | rfl
 ·
  rcases hsum with hs | hs
  all_goals
   first
    | replace HR := hi_ (HR.out.trans (if_neg (show ¬ ((1 : Int) = 1 ∧ 0 < tl.length + el.length) by omega)))
    | replace HR := hi_ (HR.out.trans (if_pos (show ((1 : Int) = 1 ∧ 0 < tl.length + el.length) from ⟨rfl, by omega⟩)))
   go_enter Tryz.func164, Tryz.ntmps164
   go_upto_region 1 with fail
   rw [← hW]
   clear hW
   go_wp2
   clear HB
   go_loopw [8, 29] (fun _ iv wr => ∃ k : Nat, k ≤ ul.length ∧ iv = .int .i64 k ∧ W = wr) (fun _ i _ => ul.length - (intOf i).toNat)
   case atStart => exact ⟨0, Nat.zero_le _, rfl, rfl⟩
   case round =>
    obtain ⟨k, hk2, rfl, rfl⟩ := hrel
    have HB := HB0.out
    by_cases hlt : k < ul.length
    ·
     obtain ⟨g2, of2, hA, d0⟩ := icell_at HU.out hlt
     have HNe : Hid (ul[k] ≠ tb) := hi_ (fun e => HMem.out (e ▸ List.getElem_mem hlt))
     simp only at hA d0
     subst hA
     generalize ul[k] = u at *
     have he' : (u == tb) = false := bf_ HNe.out
     go_wp2
     go_roundw
     case rel => exact ⟨k + 1, by omega, by go_num, by trivial⟩
     case measure => simp [intOf]; omega
    ·
     go_wp2
     go_ret
     exact ⟨by rw [HR.out]; rfl, below_step HW.out HB⟩
 ·
  replace HR := hi_ (HR.out.trans (if_neg (show ¬ ((3 : Int) = 1 ∧ 0 < tl.length + el.length) by omega)))
  go_enter Tryz.func164, Tryz.ntmps164
  go_upto_region 1 with fail
  rw [← hW]
  clear hW
  go_wp2
  clear HB
  go_loopw [8, 29] (fun _ iv wr => ∃ k : Nat, k ≤ ul.length ∧ iv = .int .i64 k ∧ W = wr) (fun _ i _ => ul.length - (intOf i).toNat)
  case atStart => exact ⟨0, Nat.zero_le _, rfl, rfl⟩
  case round =>
   obtain ⟨k, hk2, rfl, rfl⟩ := hrel
   have HB := HB0.out
   by_cases hlt : k < ul.length
   ·
    obtain ⟨g2, of2, hA, d0⟩ := icell_at HU.out hlt
    have HNe : Hid (ul[k] ≠ tb) := hi_ (fun e => HMem.out (e ▸ List.getElem_mem hlt))
    simp only at hA d0
    subst hA
    generalize ul[k] = u at *
    have he' : (u == tb) = false := bf_ HNe.out
    go_wp2
    go_roundw
    case rel => exact ⟨k + 1, by omega, by go_num, by trivial⟩
    case measure => simp [intOf]; omega
   ·
    go_wp2
    go_ret
    exact ⟨by rw [HR.out]; rfl, below_step HW.out HB⟩
theorem node_other (p : ProgD) (kd tb : Int) (cd : L NodeD) (tl el : List CtlD) (tA eA : Option Addr) (tc ec : Nat) (ul : List Int) (uA : Option Addr) (uc : Nat) (w : World) (h1 : ¬ (kd = 1 ∨ kd = 3)) (o : ProgOk w p) (hx : LOk w 3 NodeD.cells cd) :
  Calls Tryz.prog 164 #[.agg (progCells p), .agg #[.int .i64 kd, .int .i64 tb, .slice cd.A cd.l.length cd.c, .slice tA tl.length tc, .slice eA el.length ec], .slice uA ul.length uc] w fun e w' => e = .returned (.int .i64 (nodeM p ul (.mk kd tb cd tl el tA eA tc ec))) ∧ Below w.heap.size w w' := by
 have HO := hi_ o
 have HX := hi_ hx
 obtain ⟨W, hW, hw, HB, hp⟩ := box2 w (progCells p) 31 #[.int .i64 kd, .int .i64 tb, .slice cd.A cd.l.length cd.c, .slice tA tl.length tc, .slice eA el.length ec] 102
 have HW := hi_ hw
 have HR := hi_ ((nodeM_eq p ul (.mk kd tb cd tl el tA eA tc ec)).trans (if_neg h1))
 simp only [CtlD.kind, CtlD.cond] at HR
 have k1 : (kd == 1) = false := bf_ (fun e => h1 (.inl e))
 have k3 : (kd == 3) = false := bf_ (fun e => h1 (.inr e))
 clear o hx hw h1
 by_cases h2 : kd = 2
 ·
  subst h2
  replace HR := tr_ HR (if_pos rfl)
  go_enter Tryz.func164, Tryz.ntmps164
  go_upto_region 1 with fail
  rw [← hW]
  clear hW
  go_wp2_with fail
  refine (exprCheck_nil p cd _ (HO.out.below (below_step HW.out (by first | exact HB | exact ba1 HB | exact ba2 HB | exact ba3 HB))) (HX.out.below (below_step HW.out (by first | exact HB | exact ba1 HB | exact ba2 HB | exact ba3 HB)) (Nat.le_refl _))).mono ?_
  rintro e w1 ⟨rfl, hbN⟩
  replace HB := below_step (by first | exact HB | exact ba1 HB | exact ba2 HB | exact ba3 HB) hbN
  clear hbN
  by_cases k5 : (exprM p [] cd.l).2 = 0
  ·
   replace HR := tr_ HR (if_neg (fun h => h k5))
   have k5' : ((exprM p [] cd.l).2 == 0) = true := beq_iff_eq.2 k5
   clear k5
   by_cases k6 : (exprM p [] cd.l).1 = 1
   ·
    replace HR := tr_ HR (if_neg (fun h => h k6))
    have k6' : ((exprM p [] cd.l).1 == 1) = true := beq_iff_eq.2 k6
    clear k6
    go_wp2
    go_ret
    exact ⟨by rw [HR.out]; rfl, below_step HW.out HB⟩
   ·
    have k6' : ((exprM p [] cd.l).1 == 1) = false := bf_ k6
    replace HR := tr_ HR (if_pos k6)
    clear k6
    go_wp2
    go_ret
    exact ⟨by rw [HR.out]; rfl, below_step HW.out HB⟩
  ·
   have k5' : ((exprM p [] cd.l).2 == 0) = false := bf_ k5
   replace HR := tr_ HR (if_pos k5)
   clear k5
   go_wp2
   go_ret
   exact ⟨by rw [HR.out]; rfl, below_step HW.out HB⟩
 ·
  replace HR := tr_ HR (if_neg h2)
  have k2 : (kd == 2) = false := bf_ h2
  go_enter Tryz.func164, Tryz.ntmps164
  go_upto_region 1 with fail
  rw [← hW]
  clear hW
  go_wp2
  go_ret
  exact ⟨by rw [HR.out]; rfl, below_step HW.out HB⟩
theorem checkNode_any (p : ProgD) (x : CtlD) (ul : List Int) (uA : Option Addr) (uc : Nat) (w : World) (o : ProgOk w p) (hx : LOk w 3 NodeD.cells x.cond) (hu : LOk w 1 icell ⟨ul, uA, uc⟩) (hle : x.th.l.length + x.el.l.length ≤ 90000) :
  Calls Tryz.prog 164 #[.agg (progCells p), .agg (ctlCells x), .slice uA ul.length uc] w fun e w' => e = .returned (.int .i64 (nodeM p ul x)) ∧ Below w.heap.size w w' := by
 obtain ⟨kd, tb, cd, tl, el, tA, eA, tc, ec⟩ := x
 by_cases h1 : kd = 1 ∨ kd = 3
 · exact node_apply p kd tb cd tl el tA eA tc ec ul uA uc w h1 hu hle
 · exact node_other p kd tb cd tl el tA eA tc ec ul uA uc w h1 o hx
def ints (l : List Int) : List Value := l.map (Value.int .i64)
theorem own_lok {w : World} {base : Nat} {A : Option Addr} {c : Nat} {l : List Int} (h : w.ownsRow base 3 1 (.slice A l.length c) l.length (ints l)) (hm : l.length ≤ maxLen) : LOk w 1 icell ⟨l, A, c⟩ := by
 refine ⟨hm, ?_⟩
 by_cases h0 : l = []
 · exact .inl h0
 ·
  have hpos : 0 < l.length := List.length_pos_iff.2 h0
  have h' := h
  rcases h'.2 with ⟨e, _⟩ | ⟨g, cap, cur, hv, _, hblk, hle, _, _, _⟩
  · exact absurd e (by intro e; injection e with _ e _; omega)
  ·
   have hA : A = some ⟨g, 0, none⟩ := by injection hv
   have hc : c = cap := by injection hv
   subst hA hc
   refine .inr ⟨g, 0, rfl, Blk.lt hblk, fun i hi j hj => ?_⟩
   have e : j = 0 := by omega
   subst e
   simp only at hi
   have := h.cellAt i (by omega)
   simp [ints, hi] at this
   simpa [icell] using this
theorem grown_setCell (w : World) (a : Addr) (v : Value) : w.grownBy (w.setCell a v) (some a.block) := by
 have h0 : Below 0 w (w.setCell a v) := (Below.refl 0 w).setCell (Nat.zero_le _) v
 exact ⟨h0.os, h0.tape, h0.output, h0.size, fun b _ hb => Below.heap_setCell _ _ _ _ (fun e => hb (by rw [e]))⟩
structure CkSt (B0 : World) (p : ProgD) (gP gE gN gU : Nat) (e : Int) (n : Nat) (us : List Int) (A : Option Addr) (c : Nat) (w : World) : Prop where
 base : Below B0.heap.size B0 w
 prog : Blk w gP 31 (progCells p)
 err : Blk w gE 43 #[.int .i64 e]
 cnt : Blk w gN 3 #[.int .i64 n]
 used : Blk w gU 29 #[.slice A us.length c]
 row : w.ownsRow (gU + 1) 3 1 (.slice A us.length c) us.length (ints us)
section
variable {B0 : World} {p : ProgD} {gP gE gN gU : Nat} {e : Int} {n : Nat} {us : List Int} {A : Option Addr} {c : Nat} {w w' : World}
theorem CkSt.below (h : CkSt B0 p gP gE gN gU e n us A c w) (hb : Below w.heap.size w w') : CkSt B0 p gP gE gN gU e n us A c w' :=
  ⟨⟨hb.os.trans h.base.os, hb.tape.trans h.base.tape, hb.output.trans h.base.output, Nat.le_trans h.base.size hb.size, fun b hk => (hb.block b (Nat.lt_of_lt_of_le hk h.base.size)).trans (h.base.block b hk)⟩,
    h.prog.below hb h.prog.lt, h.err.below hb h.err.lt, h.cnt.below hb h.cnt.lt, h.used.below hb h.used.lt, own_below h.row hb⟩
theorem CkSt.setErr (h : CkSt B0 p gP gE gN gU e n us A c w) (h0 : B0.heap.size ≤ gE) (h1 : gP < gE) (h2 : gE < gN) (h3 : gN < gU) (e' : Int) : CkSt B0 p gP gE gN gU e' n us A c (w.setCell ⟨gE, 0, none⟩ (.int .i64 e')) :=
 ⟨h.base.setCell h0 _, h.prog.far (by simp only; omega) _, h.err.set_ 0 _, h.cnt.far (by simp only; omega) _, h.used.far (by simp only; omega) _,
  h.row.kept (grown_setCell _ _ _) (.inr (fun e => by have := (h.row.lt _ e).1; simp only at this; omega))⟩
theorem CkSt.setCnt (h : CkSt B0 p gP gE gN gU e n us A c w) (h0 : B0.heap.size ≤ gN) (h1 : gP < gE) (h2 : gE < gN) (h3 : gN < gU) (n' : Nat) : CkSt B0 p gP gE gN gU e n' us A c (w.setCell ⟨gN, 0, none⟩ (.int .i64 n')) :=
 ⟨h.base.setCell h0 _, h.prog.far (by simp only; omega) _, h.err.far (by simp only; omega) _, h.cnt.set_ 0 _, h.used.far (by simp only; omega) _,
  h.row.kept (grown_setCell _ _ _) (.inr (fun e => by have := (h.row.lt _ e).1; simp only at this; omega))⟩
end
theorem used_snoc (l : List CtlD) (x : CtlD) : usedM (l ++ [x]) = usedM l ++ (if appliesM x = true then [x.table] else []) := by
 unfold usedM
 rw [List.filter_append, List.map_append]
 congr 1
 by_cases h : appliesM x = true
 · simp [h]
 · simp [h]
def usedN (us : List Int) (x : CtlD) : List Int := us ++ (if appliesM x = true then [x.table] else [])
theorem usedN_no {us : List Int} {x : CtlD} (h : appliesM x = false) : usedN us x = us := by rw [usedN, h]; simp
theorem usedN_yes {us : List Int} {x : CtlD} (h : appliesM x = true) : usedN us x = us ++ [x.table] := by rw [usedN, h]; simp
theorem used_len (l : List CtlD) : (usedM l).length ≤ l.length := by
 unfold usedM
 rw [List.length_map]
 exact List.length_filter_le _ _
theorem pres_len : ∀ (l : List CtlD), l.length ≤ (presM l).length
 | [] => Nat.le_refl _
 | x :: l => by
  have := pres_len l
  rw [presM, preM_eq, List.length_cons, List.length_append, List.length_cons]
  omega
theorem check1_any (B0 : World) (p : ProgD) (o : ProgOk B0 p) (gP gE gN gU : Nat) (h0 : B0.heap.size ≤ gP) (h1 : gP < gE) (h2 : gE < gN) (h3 : gN < gU) (x : CtlD) (n : Nat) (us : List Int) (A : Option Addr) (c : Nat) (w : World)
  (hx : CtlOk B0 x) (hl : x.th.l.length + x.el.l.length ≤ 90000) (hn : n < 90000) (hu : us.length ≤ n) (st : CkSt B0 p gP gE gN gU 0 n us A c w) :
  Calls Tryz.prog 163 #[.agg (ctlCells x), .pointer (some ⟨gP, 0, none⟩), .pointer (some ⟨gU, 0, none⟩), .pointer (some ⟨gE, 0, none⟩), .pointer (some ⟨gN, 0, none⟩)] w fun e w' =>
   e = .returned (.bool (nodeM p us x == 0)) ∧ Grow w w' ∧ ((nodeM p us x == 0) = true → ∃ A' c', CkSt B0 p gP gE gN gU 0 (n + 1) (usedN us x) A' c' w') ∧ ((nodeM p us x == 0) = false → CkSt B0 p gP gE gN gU (nodeM p us x) n us A c w') := by
 have HO := hi_ o
 have HX := hi_ hx
 have HST := hi_ st
 obtain ⟨U, hU, hu1, hUU, _⟩ := box1 w (ctlCells x) 102
 have hB : Blk U w.heap.size 102 (ctlCells x) := by rw [hU]; exact Blk.new _ _ _
 have HG := hi_ (Grow.of_below hu1)
 have st1 := st.below hu1
 have c0 : U.cell? ⟨gP, 0, none⟩ = some (.string p.name) := st1.prog.cell 0
 have c1 : U.cell? ⟨gP, 1, none⟩ = some (.slice p.headers.A p.headers.l.length p.headers.c) := st1.prog.cell 1
 have c2 : U.cell? ⟨gP, 2, none⟩ = some (.slice p.metadata.A p.metadata.l.length p.metadata.c) := st1.prog.cell 2
 have c3 : U.cell? ⟨gP, 3, none⟩ = some (.slice p.registers.A p.registers.l.length p.registers.c) := st1.prog.cell 3
 have c4 : U.cell? ⟨gP, 4, none⟩ = some (.slice p.actions.A p.actions.l.length p.actions.c) := st1.prog.cell 4
 have c5 : U.cell? ⟨gP, 5, none⟩ = some (.slice p.tables.A p.tables.l.length p.tables.c) := st1.prog.cell 5
 have c6 : U.cell? ⟨gP, 6, none⟩ = some (.slice p.states.A p.states.l.length p.states.c) := st1.prog.cell 6
 have c7 : U.cell? ⟨gP, 7, none⟩ = some (.slice p.control.A p.control.l.length p.control.c) := st1.prog.cell 7
 have c8 : U.cell? ⟨gP, 8, none⟩ = some (.slice p.deparser.A p.deparser.l.length p.deparser.c) := st1.prog.cell 8
 have cu : U.cell? ⟨gU, 0, none⟩ = some (.slice A us.length c) := st1.used.cell 0
 have d0 : U.cell? ⟨w.heap.size, 0, none⟩ = some (.int .i64 x.kind) := hB.cell 0
 have d1 : U.cell? ⟨w.heap.size, 1, none⟩ = some (.int .i64 x.table) := hB.cell 1
 have d2 : U.cell? ⟨w.heap.size, 2, none⟩ = some (.slice x.cond.A x.cond.l.length x.cond.c) := hB.cell 2
 have d3 : U.cell? ⟨w.heap.size, 3, none⟩ = some (.slice x.th.A x.th.l.length x.th.c) := hB.cell 3
 have d4 : U.cell? ⟨w.heap.size, 4, none⟩ = some (.slice x.el.A x.el.l.length x.el.c) := hB.cell 4
 have HB := hi_ hB
 have HS1 := hi_ st1
 have hul : us.length ≤ maxLen := by unfold maxLen; omega
 have HUl := hi_ hul
 clear o hx st hu1 hUU hB st1 hul
 go_enter Tryz.func163, Tryz.ntmps163
 go_upto_region 1 with fail
 rw [← hU]
 clear hU
 go_wp2_with fail
 refine (checkNode_any p x us A c U (HO.out.below HS1.out.base) ((ctl_parts HX.out).1.below HS1.out.base (Nat.le_refl _)) (own_lok HS1.out.row HUl.out) hl).mono ?_
 rintro e w1 ⟨rfl, hb1⟩
 have st2 := HS1.out.below hb1
 have hB2 := HB.out.below hb1 HB.out.lt
 have HG1 := hi_ (HG.out.trans (Grow.of_below hb1))
 clear c0 c1 c2 c3 c4 c5 c6 c7 c8 cu d0 d1 d2 d3 d4 hb1
 have ce : w1.cell? ⟨gE, 0, none⟩ = some (.int .i64 0) := st2.err.cell 0
 have cf : w1.frozen? ⟨gE, 0, none⟩ = false := st2.err.frozen 0
 refine Exists.elim (⟨_, rfl⟩ : ∃ V, V = w1.setCell ⟨gE, 0, none⟩ (.int .i64 (nodeM p us x))) fun V hV => ?_
 have st3 : CkSt B0 p gP gE gN gU (nodeM p us x) n us A c V := by rw [hV]; exact st2.setErr (by omega) h1 h2 h3 _
 have HG2 : Hid (Grow w V) := hi_ (by rw [hV]; exact HG1.out.setCell (a := ⟨gE, 0, none⟩) st2.err (by decide) _)
 have hB3 : Blk V w.heap.size 102 (ctlCells x) := by rw [hV]; exact hB2.far (by have := HST.out.err.lt; simp only; omega) _
 have HB3 := hi_ hB3
 have HS3 := hi_ st3
 have ce2 : V.cell? ⟨gE, 0, none⟩ = some (.int .i64 (nodeM p us x)) := st3.err.cell 0
 clear st2 st3 hB2 hB3
 go_upto_region 2 with fail
 rw [← hV]
 clear hV ce cf
 cases hok : nodeM p us x == 0
 ·
  go_wp2
  go_ret
  exact ⟨ret_bool hok.symm, HG2.out, fun h => absurd (hok.symm.trans h) (by simp), fun _ => HS3.out⟩
 have h00 : nodeM p us x = 0 := by simpa using hok
 rw [h00] at HS3 ce2
 have e0 : V.cell? ⟨w.heap.size, 0, none⟩ = some (.int .i64 x.kind) := HB3.out.cell 0
 have e1 : V.cell? ⟨w.heap.size, 1, none⟩ = some (.int .i64 x.table) := HB3.out.cell 1
 have e2 : V.cell? ⟨w.heap.size, 2, none⟩ = some (.slice x.cond.A x.cond.l.length x.cond.c) := HB3.out.cell 2
 have e3 : V.cell? ⟨w.heap.size, 3, none⟩ = some (.slice x.th.A x.th.l.length x.th.c) := HB3.out.cell 3
 have e4 : V.cell? ⟨w.heap.size, 4, none⟩ = some (.slice x.el.A x.el.l.length x.el.c) := HB3.out.cell 4
 clear h00
 go_wp2_with fail
 refine (applies_any x V).mono ?_
 rintro e w2 ⟨rfl, hb2⟩
 have st4 := HS3.out.below hb2
 have HG3 := hi_ (HG2.out.trans (Grow.of_below hb2))
 have hB4 := HB3.out.below hb2 HB3.out.lt
 have f1 : w2.cell? ⟨w.heap.size, 1, none⟩ = some (.int .i64 x.table) := hB4.cell 1
 clear e0 e1 e2 e3 e4 ce2 hb2
 cases hap : appliesM x
 ·
  have cn : w2.cell? ⟨gN, 0, none⟩ = some (.int .i64 n) := st4.cnt.cell 0
  have cf : w2.frozen? ⟨gN, 0, none⟩ = false := st4.cnt.frozen 0
  have HS5 := hi_ (st4.setCnt (by omega) h1 h2 h3 (n + 1))
  have HG5 := hi_ (HG3.out.setCell (a := ⟨gN, 0, none⟩) st4.cnt (by decide) (.int .i64 ((n + 1 : Nat) : Int)))
  rw [show ((n + 1 : Nat) : Int) = (n : Int) + 1 by omega] at HS5 HG5
  clear st4 hB4 f1
  go_wp2
  go_ret
  refine ⟨ret_bool hok.symm, HG5.out, fun _ => ⟨A, c, ?_⟩, fun h => absurd (hok.symm.trans h) (by simp)⟩
  rw [usedN_no hap]
  exact HS5.out
 ·
  obtain ⟨i0, hi, hz0, hz1, hz2⟩ := info_parts (show (Tryz.prog.info? 3).map (fun i => (i.zero, i.size, i.bytes)) = some (some (.int .i64 0), 1, 8) by kernel_rfl)
  have cu : w2.cell? ⟨gU, 0, none⟩ = some (.slice A us.length c) := st4.used.cell 0
  have HS4 := hi_ st4
  have hsz := st4.used.lt
  clear st4 hB4
  go_wp2_with (first
   | (at_builtin; refine wpList_append_own _ rfl _ _ 29 rfl (gU + 1) 3 i0 _ 1 8 Tryz.underlying29 hi hz0 hz1 hz2 rfl (by decide) _ us.length (ints us) rfl (HS4.out.row.alloc _) ⟨w2.heap.size, 0, none⟩ 1 1 [.int .i64 x.table] rfl rfl ?c1 ?c2 ?c3 ?c4 ?c5 ?_))
  case c1 =>
   intro j v hj
   match j, hj with
   | 0, hj => simp at hj; subst hj; simp [Addr.add]
  case c2 => intro u hu; simp at hu; subst hu; rfl
  case c3 => unfold maxLen; omega
  case c4 => omega
  case c5 => simp; omega
  intro v' w4 hown4 hgrow4 _
  obtain ⟨A', c', rfl⟩ : ∃ A' c', v' = .slice A' (us.length + 1) c' := by
   rcases hown4.2 with ⟨hv, h0⟩ | ⟨g', cap, cur, hv, _, _, _⟩
   · omega
   · exact ⟨_, _, hv⟩
  have hne : some gU ≠ (Value.slice A us.length c).ownBlock := fun e => by have := (HS4.out.row.lt _ e.symm).1; omega
  have hnN : some gN ≠ (Value.slice A us.length c).ownBlock := fun e => by have := (HS4.out.row.lt _ e.symm).1; omega
  have hnE : some gE ≠ (Value.slice A us.length c).ownBlock := fun e => by have := (HS4.out.row.lt _ e.symm).1; omega
  have hnP : some gP ≠ (Value.slice A us.length c).ownBlock := fun e => by have := (HS4.out.row.lt _ e.symm).1; omega
  have hbU := (HS4.out.used.alloc (.cells #[.int .i64 x.table] 3)).grown hgrow4 hne
  have hbN := (HS4.out.cnt.alloc (.cells #[.int .i64 x.table] 3)).grown hgrow4 hnN
  have hbE := (HS4.out.err.alloc (.cells #[.int .i64 x.table] 3)).grown hgrow4 hnE
  have hbP := (HS4.out.prog.alloc (.cells #[.int .i64 x.table] 3)).grown hgrow4 hnP
  have hbase := (below_alloc HS4.out.base (.cells #[.int .i64 x.table] 3)).grown hgrow4 (below_alloc HS4.out.base (.cells #[.int .i64 x.table] 3)).size fun j hj => by have := (HS4.out.row.lt _ hj).1; omega
  have HG4 := hi_ ((HG3.out.alloc (.cells #[.int .i64 x.table] 3)).append (HS4.out.row.alloc _) (by decide) hgrow4)
  have cu4 : w4.cell? ⟨gU, 0, none⟩ = some (.slice A us.length c) := hbU.cell 0
  have cf4 : w4.frozen? ⟨gU, 0, none⟩ = false := hbU.frozen 0
  refine Exists.elim (⟨_, rfl⟩ : ∃ V, V = w4.setCell ⟨gU, 0, none⟩ (.slice A' (us.length + 1) c')) fun V hV => ?_
  have hle : (usedN us x).length = us.length + 1 := by rw [usedN_yes hap, List.length_append]; rfl
  have st5 : CkSt B0 p gP gE gN gU 0 n (usedN us x) A' c' V := by
   rw [hV]
   refine ⟨hbase.setCell (by simp only; omega) _, hbP.far (by simp only; omega) _, hbE.far (by simp only; omega) _, hbN.far (by simp only; omega) _, ?_, ?_⟩
   · rw [hle]; exact hbU.set_ 0 _
   ·
    rw [hle, show ints (usedN us x) = ints us ++ [.int .i64 x.table] by rw [usedN_yes hap]; simp [ints]]
    exact hown4.kept (grown_setCell _ _ _) (.inr (fun e => by have := (hown4.lt _ e).1; simp only at this; omega))
  have HG5 : Hid (Grow w V) := hi_ (by rw [hV]; exact HG4.out.setCell (a := ⟨gU, 0, none⟩) hbU (by decide) _)
  have cn : V.cell? ⟨gN, 0, none⟩ = some (.int .i64 n) := st5.cnt.cell 0
  have cf : V.frozen? ⟨gN, 0, none⟩ = false := st5.cnt.frozen 0
  have HS6 := hi_ (st5.setCnt (by omega) h1 h2 h3 (n + 1))
  have HG6 := hi_ (HG5.out.setCell (a := ⟨gN, 0, none⟩) st5.cnt (by decide) (.int .i64 ((n + 1 : Nat) : Int)))
  rw [show ((n + 1 : Nat) : Int) = (n : Int) + 1 by omega] at HS6 HG6
  clear st5 hbU hbN hbE hbP hbase hne hnN hnE hnP hown4 hgrow4 hle f1 cu
  go_upto_region 6 with fail
  rw [← hV]
  clear hV cu4 cf4
  go_wp2
  go_ret
  exact ⟨ret_bool hok.symm, HG6.out, fun _ => ⟨A', c', HS6.out⟩, fun h => absurd (hok.symm.trans h) (by simp)⟩
def okN (p : ProgD) (l : List CtlD) (x : CtlD) : Bool := nodeM p (usedM l) x == 0
theorem nodeAtM_at (p : ProgD) (l : List CtlD) (i : Nat) (x : CtlD) (h : l[i]? = some x) : nodeAtM p l i = if nodeM p (usedM (l.take i)) x ≠ 0 then some ((i : Int), nodeM p (usedM (l.take i)) x) else none := by
 rw [nodeAtM, h]
theorem run_none (p : ProgD) : ∀ (post pre : List CtlD), runM (okN p) pre post = none → ∀ i, pre.length ≤ i → i < (pre ++ post).length → nodeAtM p (pre ++ post) i = none
 | [], pre, _, i, h1, h2 => by rw [List.append_nil] at h2; omega
 | x :: post, pre, h, i, h1, h2 => by
  rw [runM] at h
  by_cases hok : okN p pre x = true
  ·
   rw [if_pos hok] at h
   by_cases he : i = pre.length
   ·
    subst he
    rw [nodeAtM_at p _ _ x (by simp), List.take_left, if_neg]
    simpa [okN] using hok
   ·
    have := run_none p post (pre ++ [x]) h i (by simp; omega) (by simp at h2 ⊢; omega)
    simpa using this
  · rw [if_neg hok] at h; cases h
theorem run_some (p : ProgD) : ∀ (post pre l' : List CtlD) (y : CtlD), runM (okN p) pre post = some (l', y) → ∃ rest, pre ++ post = l' ++ y :: rest ∧ pre.length ≤ l'.length ∧ nodeM p (usedM l') y ≠ 0 ∧ ∀ i, pre.length ≤ i → i < l'.length → nodeAtM p (pre ++ post) i = none
 | [], pre, l', y, h => by rw [runM] at h; cases h
 | x :: post, pre, l', y, h => by
  rw [runM] at h
  by_cases hok : okN p pre x = true
  ·
   rw [if_pos hok] at h
   obtain ⟨rest, h1, h2, h3, h4⟩ := run_some p post (pre ++ [x]) l' y h
   refine ⟨rest, by simpa using h1, by simp at h2; omega, h3, fun i hi hi2 => ?_⟩
   by_cases he : i = pre.length
   ·
    subst he
    rw [nodeAtM_at p _ _ x (by simp), List.take_left, if_neg]
    simpa [okN] using hok
   ·
    have := h4 i (by simp; omega) hi2
    simpa using this
  ·
   rw [if_neg hok] at h
   injection h with h
   injection h with e1 e2
   subst e1 e2
   exact ⟨post, rfl, Nat.le_refl _, by simpa [okN] using hok, fun i h1 h2 => absurd h2 (by omega)⟩
theorem ctlM_eq (p : ProgD) : ctlM p = if 24 < (presM p.control.l).length then (-1, 12) else if 6 < nestM p.control.l then (-1, 14) else match runM (okN p) [] (presM p.control.l) with
  | some (l', y) => ((l'.length : Int), nodeM p (usedM l') y)
  | none => (0, 0) := by
 rw [ctlM]
 split
 · rfl
 split
 · rfl
 rcases h : runM (okN p) [] (presM p.control.l) with _ | ⟨l', y⟩
 · rw [firstE_none (fun j hj => by have := run_none p _ [] h j (Nat.zero_le _) hj; exact this)]
 ·
  obtain ⟨rest, h1, _, h3, h4⟩ := run_some p _ [] l' y h
  rw [List.nil_append] at h1 h4
  have hl : l'.length < (presM p.control.l).length := by rw [h1]; simp
  have hy : nodeAtM p (presM p.control.l) l'.length = some ((l'.length : Int), nodeM p (usedM l') y) := by
   rw [nodeAtM_at p _ _ y (by rw [h1]; simp), show (presM p.control.l).take l'.length = l' by rw [h1, List.take_left], if_pos h3]
  rw [firstE_some hl (fun j hj => h4 j (Nat.zero_le _) hj) hy]
theorem check_visits (B0 : World) (p : ProgD) (o : ProgOk B0 p) (gP gE gN gU : Nat) (h0 : B0.heap.size ≤ gP) (h1 : gP < gE) (h2 : gE < gN) (h3 : gN < gU) :
  Visits 90000 B0 163 #[.pointer (some ⟨gP, 0, none⟩), .pointer (some ⟨gU, 0, none⟩), .pointer (some ⟨gE, 0, none⟩), .pointer (some ⟨gN, 0, none⟩)] (okN p)
   (fun l w => ∃ A c, CkSt B0 p gP gE gN gU 0 l.length (usedM l) A c w) (fun l x w => ∃ A c, CkSt B0 p gP gE gN gU (nodeM p (usedM l) x) l.length (usedM l) A c w) := by
 refine ⟨?_, fun l w ⟨A, c, h⟩ => h.base, fun l w ob ⟨A, c, h⟩ => ⟨A, c, h.below (below1 _ _)⟩⟩
 rintro l x w hl hx ⟨A, c, st⟩
 have l1 := pres_len x.th.l
 have l2 := pres_len x.el.l
 refine (check1_any B0 p o gP gE gN gU h0 h1 h2 h3 x l.length (usedM l) A c w hx (by omega) (by omega) (used_len l) st).mono ?_
 rintro e w' ⟨rfl, hg, hy, hn⟩
 refine ⟨rfl, hg, fun h => ?_, fun h => ⟨A, c, hn h⟩⟩
 obtain ⟨A', c', h'⟩ := hy h
 refine ⟨A', c', ?_⟩
 rw [used_snoc, List.length_append]
 exact h'
theorem controlCheck_any (p : ProgD) (w : World) (o : ProgOk w p) (hN : (presM p.control.l).length ≤ 90000) :
  Calls Tryz.prog 100 #[.agg (progCells p)] w fun e w' => e = .returned (.tuple #[.int .i64 (ctlM p).1, .int .i64 (ctlM p).2]) ∧ Below w.heap.size w w' := by
 have hmf : ∀ (fn : Fn) (first cap : Array Value) (w : World), (Instr.makeFunc fn first cap).run Tryz.prog w = .ok (.func fn first cap) w := fun _ _ _ _ => rfl
 have HO := hi_ o
 have HN := hi_ hN
 have HR := hi_ (ctlM_eq p)
 obtain ⟨W, hW, hw, HB, hp⟩ := box2 w (progCells p) 31 #[.int .i64 0] 43
 have HW := hi_ hw
 have hbP : Blk W w.heap.size 31 (progCells p) := by rw [hW]; exact (Blk.new _ _ _).alloc _
 have hbE : Blk W (w.heap.size + 1) 43 #[.int .i64 0] := by rw [hW]; exact (by simpa using Blk.new (w.alloc (.cells (progCells p) 31)) 43 #[.int .i64 0])
 have HP := hi_ hbP
 have HE := hi_ hbE
 clear o hN hw hbP hbE
 go_enter Tryz.func100, Tryz.ntmps100
 go_upto_region 1 with fail
 rw [← hW]
 clear hW
 go_wp2_with fail
 refine (count_any p.control _ (HO.out.control.below (below_step HW.out HB) (Nat.le_refl _)) (CtlsOk.below (below_step HW.out HB) HO.out.ctl) HN.out).mono ?_
 rintro e w1 ⟨rfl, hbN⟩
 replace HB := below_step (by first | exact HB | exact ba1 HB | exact ba2 HB | exact ba3 HB) hbN
 clear hbN
 have hE1 := HE.out.below HB HE.out.lt
 have ce1 : w1.cell? ⟨w.heap.size + 1, 0, none⟩ = some (.int .i64 0) := hE1.cell 0
 have cf1 : w1.frozen? ⟨w.heap.size + 1, 0, none⟩ = false := hE1.frozen 0
 by_cases k1 : 24 < (presM p.control.l).length
 ·
  replace HR := tr_ HR (if_pos k1)
  have hcc : (w1.setCell ⟨w.heap.size + 1, 0, none⟩ (.int .i64 12)).cell? ⟨w.heap.size + 1, 0, none⟩ = some (.int .i64 12) := (hE1.set_ 0 _).cell 0
  have HF : Hid (Below w.heap.size w (w1.setCell ⟨w.heap.size + 1, 0, none⟩ (.int .i64 12))) := hi_ ((below_step HW.out HB).setCell (Nat.le_succ _) _)
  clear hE1
  go_wp2
  refine bodyPost_ret (v := .tuple #[.int .i64 (-1), .int .i64 12]) (by simp [results, Tryz.results100, go_sem, hcc]) rfl ⟨ret_pp HR.out, HF.out⟩
 replace HR := tr_ HR (if_neg k1)
 have k1' : (presM p.control.l).length ≤ 24 := by omega
 clear k1
 clear hE1
 go_wp2_with fail
 clear ce1 cf1
 have hnle := nest_le p.control.l
 have HNl : Hid (nestM p.control.l ≤ 90000) := hi_ (by omega)
 clear hnle
 refine (nesting_any (nestM p.control.l + 1) p.control _ (Nat.lt_succ_self _) HNl.out (HO.out.control.below (below_step HW.out HB) (Nat.le_refl _)) (CtlsOk.below (below_step HW.out HB) HO.out.ctl)).mono ?_
 rintro e w2 ⟨rfl, hbN⟩
 replace HB := below_step (by first | exact HB | exact ba1 HB | exact ba2 HB | exact ba3 HB) hbN
 clear hbN
 have hE1 := HE.out.below HB HE.out.lt
 have ce1 : w2.cell? ⟨w.heap.size + 1, 0, none⟩ = some (.int .i64 0) := hE1.cell 0
 have cf1 : w2.frozen? ⟨w.heap.size + 1, 0, none⟩ = false := hE1.frozen 0
 by_cases k2 : 6 < nestM p.control.l
 ·
  replace HR := tr_ HR (if_pos k2)
  have hcc : (w2.setCell ⟨w.heap.size + 1, 0, none⟩ (.int .i64 14)).cell? ⟨w.heap.size + 1, 0, none⟩ = some (.int .i64 14) := (hE1.set_ 0 _).cell 0
  have HF : Hid (Below w.heap.size w (w2.setCell ⟨w.heap.size + 1, 0, none⟩ (.int .i64 14))) := hi_ ((below_step HW.out HB).setCell (Nat.le_succ _) _)
  clear hE1
  go_wp2
  refine bodyPost_ret (v := .tuple #[.int .i64 (-1), .int .i64 14]) (by simp [results, Tryz.results100, go_sem, hcc]) rfl ⟨ret_pp HR.out, HF.out⟩
 replace HR := tr_ HR (if_neg k2)
 have k2' : nestM p.control.l ≤ 6 := by omega
 clear k2
 obtain ⟨V, hV, hv, _, _⟩ := box2 w2 #[.int .i64 0] 3 #[.slice none 0 0] 29
 have HBV := below_step HB hv
 have hsz : w.heap.size + 1 < w2.heap.size := hE1.lt
 have hst : CkSt w p w.heap.size (w.heap.size + 1) w2.heap.size (w2.heap.size + 1) 0 0 [] none 0 V := by
  refine ⟨below_step HW.out HBV, HP.out.below HBV HP.out.lt, HE.out.below HBV HE.out.lt, ?_, ?_, World.ownsRow_nil _ _ _ _⟩
  · rw [hV]; exact (Blk.new _ _ _).alloc _
  · rw [hV]; exact (by simpa using Blk.new (w2.alloc (.cells #[.int .i64 0] 3)) 29 #[.slice none 0 0])
 have HST := hi_ hst
 have HSZ := hi_ hsz
 have hca := @World.cell?_alloc_some
 have hp2 := (hp w2 HB).1 7 (show 7 < 9 by decide)
 clear hE1 hst hv HBV hsz
 go_wp2_with fail
 rw [← hV]
 clear hV hca ce1 cf1
 refine (preorder_any 90000 w 163 #[.pointer (some ⟨w.heap.size, 0, none⟩), .pointer (some ⟨w2.heap.size + 1, 0, none⟩), .pointer (some ⟨w.heap.size + 1, 0, none⟩), .pointer (some ⟨w2.heap.size, 0, none⟩)] _ _ _
  (check_visits w p HO.out w.heap.size (w.heap.size + 1) w2.heap.size (w2.heap.size + 1) (Nat.le_refl _) (by omega) HSZ.out (by omega)) (.inr ⟨rfl, _, _, _, _, rfl⟩) (nestM p.control.l + 1) p.control [] _ (Nat.lt_succ_self _) (by simpa using HN.out)
  HO.out.control HO.out.ctl ⟨none, 0, HST.out⟩).mono ?_
 rintro e w3 ⟨_, hm⟩
 rcases hrun : runM (okN p) [] (presM p.control.l) with _ | ⟨l', y⟩
 ·
  rw [hrun] at hm
  obtain ⟨rfl, A', c', st⟩ := hm
  have HR2 := hi_ (HR.out.trans (show _ = ((0 : Int), (0 : Int)) by rw [hrun]))
  have ce : w3.cell? ⟨w.heap.size + 1, 0, none⟩ = some (.int .i64 0) := st.err.cell 0
  have cf : w3.frozen? ⟨w.heap.size + 1, 0, none⟩ = false := st.err.frozen 0
  have hcc : (w3.setCell ⟨w.heap.size + 1, 0, none⟩ (.int .i64 0)).cell? ⟨w.heap.size + 1, 0, none⟩ = some (.int .i64 0) := (st.err.set_ 0 _).cell 0
  have HF : Hid (Below w.heap.size w (w3.setCell ⟨w.heap.size + 1, 0, none⟩ (.int .i64 0))) := hi_ (st.base.setCell (Nat.le_succ _) _)
  clear st hrun
  go_wp2
  refine bodyPost_ret (v := .tuple #[.int .i64 0, .int .i64 0]) (by simp [results, Tryz.results100, go_sem, hcc]) rfl ⟨ret_pp HR2.out, HF.out⟩
 ·
  have hne : nodeM p (usedM l') y ≠ 0 := (run_some p _ [] l' y hrun).choose_spec.2.2.1
  rw [hrun] at hm
  obtain ⟨rfl, A', c', st⟩ := hm
  have HR2 := hi_ (HR.out.trans (show _ = ((l'.length : Int), nodeM p (usedM l') y) by rw [hrun]))
  have hne' : (nodeM p (usedM l') y == 0) = false := bf_ hne
  generalize nodeM p (usedM l') y = ec at *
  have ce : w3.cell? ⟨w.heap.size + 1, 0, none⟩ = some (.int .i64 ec) := st.err.cell 0
  have cf : w3.frozen? ⟨w.heap.size + 1, 0, none⟩ = false := st.err.frozen 0
  have cn : w3.cell? ⟨w2.heap.size, 0, none⟩ = some (.int .i64 l'.length) := st.cnt.cell 0
  have hcc : (w3.setCell ⟨w.heap.size + 1, 0, none⟩ (.int .i64 ec)).cell? ⟨w.heap.size + 1, 0, none⟩ = some (.int .i64 ec) := (st.err.set_ 0 _).cell 0
  have HF : Hid (Below w.heap.size w (w3.setCell ⟨w.heap.size + 1, 0, none⟩ (.int .i64 ec))) := hi_ (st.base.setCell (Nat.le_succ _) _)
  clear st hrun hne
  go_wp2
  clear hp HST
  go_region
  all_goals
   go_wp2
   refine bodyPost_ret (v := .tuple #[.int .i64 l'.length, .int .i64 ec]) (by simp [results, Tryz.results100, go_sem, hcc]) rfl ⟨ret_pp HR2.out, HF.out.drew⟩
theorem boxC (w : World) (cs : Array Value) (t : TypeId) (cs2 : Array Value) (t2 : TypeId) : ∃ W, W = (w.alloc (.cells cs t)).alloc (.cells cs2 t2) ∧ Below w.heap.size w W ∧ Below W.heap.size W W ∧ W.heap.size = w.heap.size + 2 ∧
  ∀ w', Below W.heap.size W w' → (∀ i, i < cs.size → w'.cell? ⟨w.heap.size, i, none⟩ = cs[i]?) ∧ (∀ i, i < cs2.size → w'.cell? ⟨w.heap.size + 1, i, none⟩ = cs2[i]?) ∧ (∀ i, w'.frozen? ⟨w.heap.size, i, none⟩ = false) ∧ (∀ i, w'.frozen? ⟨w.heap.size + 1, i, none⟩ = false) ∧ Blk w' (w.heap.size + 1) t2 cs2 := by
 have h1 : Blk ((w.alloc (.cells cs t)).alloc (.cells cs2 t2)) w.heap.size t cs := (Blk.new _ _ _).alloc _
 have h2 : Blk ((w.alloc (.cells cs t)).alloc (.cells cs2 t2)) (w.heap.size + 1) t2 cs2 := by simpa using Blk.new (w.alloc (.cells cs t)) t2 cs2
 refine ⟨_, rfl, below2 _ _ _, Below.refl _ _, by simp, fun w' hb => ⟨fun i _ => (h1.below hb h1.lt).cell i, fun i _ => (h2.below hb h2.lt).cell i, fun i => (h1.below hb h1.lt).frozen i, fun i => (h2.below hb h2.lt).frozen i, h2.below hb h2.lt⟩⟩
inductive CtlCaps : List CtlD → Prop
 | nil : CtlCaps []
 | cons {k t : Int} {cond : L NodeD} {th el : List CtlD} {tA eA : Option Addr} {tc ec : Nat} {l : List CtlD} : th.length ≤ 4398046511104 → el.length ≤ 4398046511104 → CtlCaps th → CtlCaps el → CtlCaps l → cond.l.length ≤ 5864062014634 → CtlCaps (.mk k t cond th el tA eA tc ec :: l)
theorem CtlCaps.mem {x : CtlD} : ∀ {l : List CtlD}, CtlCaps l → x ∈ l → x.th.l.length ≤ 4398046511104 ∧ x.el.l.length ≤ 4398046511104 ∧ CtlCaps x.th.l ∧ CtlCaps x.el.l
 | _ :: l, .cons h1 h2 h3 h4 h5 _, hm => by
  rcases List.mem_cons.1 hm with rfl | hm
  · exact ⟨h1, h2, h3, h4⟩
  · exact h5.mem hm
theorem CtlCaps.memc {x : CtlD} : ∀ {l : List CtlD}, CtlCaps l → x ∈ l → x.cond.l.length ≤ 5864062014634
 | _ :: l, .cons _ _ _ _ h5 h6, hm => by
  rcases List.mem_cons.1 hm with rfl | hm
  · exact h6
  · exact h5.memc hm
theorem pres_sum : ∀ (l : List CtlD), (presM l).length = (l.map fun x => (preM x).length).sum
 | [] => rfl
 | x :: l => by rw [presM, List.length_append, pres_sum l]; rfl
theorem sum_mem {f : CtlD → Nat} : ∀ {l : List CtlD} {x : CtlD}, x ∈ l → f x ≤ (l.map f).sum
 | y :: l, x, h => by
  simp only [List.map_cons, List.sum_cons]
  rcases List.mem_cons.1 h with rfl | h
  · omega
  · have := sum_mem (f := f) h; omega
theorem pres_of {l : List CtlD} {y z : CtlD} (hy : y ∈ l) (hz : z ∈ preM y) : z ∈ presM l := by
 induction l with
 | nil => cases hy
 | cons x l ih =>
  rw [presM, List.mem_append]
  rcases List.mem_cons.1 hy with rfl | hy
  · exact .inl hz
  · exact .inr (ih hy)
theorem pres_th {l : List CtlD} {y : CtlD} (hy : y ∈ l) : (presM y.th.l).length < (presM l).length ∧ (∀ z ∈ presM y.th.l, z ∈ presM l) ∧ (presM y.el.l).length < (presM l).length ∧ (∀ z ∈ presM y.el.l, z ∈ presM l) ∧ y ∈ presM l := by
 have h1 := sum_mem (f := fun x => (preM x).length) hy
 rw [← pres_sum, preM_eq, List.length_cons, List.length_append] at h1
 refine ⟨by omega, fun z hz => pres_of hy ?_, by omega, fun z hz => pres_of hy ?_, pres_of hy ?_⟩
 all_goals rw [preM_eq]
 · exact List.mem_cons_of_mem _ (List.mem_append_left _ hz)
 · exact List.mem_cons_of_mem _ (List.mem_append_right _ hz)
 · exact List.mem_cons_self ..
theorem info_ctl : (Tryz.prog.info? 102).map (fun i => (i.zero, i.size, i.bytes)) = some (some (.agg #[.int .i64 0, .int .i64 0, .slice none 0 0, .slice none 0 0, .slice none 0 0]), 5, 88) := by kernel_rfl
theorem neq_field (x y : FieldD) : ∃ b : Bool, (b = false ↔ x = y) ∧ ∀ w, Sem.run Tryz.prog (binOp .neq 104 (.agg #[.string x.name, .int .i64 x.width]) (.agg #[.string y.name, .int .i64 y.width])) w = .ok (.bool b) w := by
 refine ⟨!((x.name.toList == y.name.toList) && (x.width == y.width)), ?_, fun w => ?_⟩
 ·
  obtain ⟨a0, a1⟩ := x
  obtain ⟨b0, b1⟩ := y
  simp [FieldD.mk.injEq, toList_inj]
 ·
  have hS : Tryz.prog.underlying 104 = some (.struct (Tryz.prog.fieldsOf 104)) := by kernel_rfl
  have hp : Tryz.prog.stoodInHeld 104 = false := by kernel_rfl
  have u0 := Tryz.underlying3
  have a0 := Tryz.isAgg3
  have z0 := Tryz.sizeOf3
  have u1 := Tryz.underlying9
  have a1 := Tryz.isAgg9
  have z1 := Tryz.sizeOf9
  rw [run_neq_struct, show (10000 : Nat) = 9999 + 1 from rfl, run_equalIn_agg w 9999 104 _ _ hS hp]
  simp only [Program.fieldsOf, Tryz.underlying104]
  go_simp
  repeat' split
  all_goals simp_all
section
open Go.RowKit Go.WideShapes Go.ChangeShapes
theorem cells_eq {cs ys : List Value} (h : cs.length = ys.length) (hi : ∀ i, i < ys.length → cs[i]? = ys[i]?) : cs = ys := by
 refine List.ext_getElem? fun i => ?_
 by_cases h1 : i < ys.length
 · exact hi i h1
 · rw [List.getElem?_eq_none (by omega), List.getElem?_eq_none (by omega)]
def IOk (z : Int) : Prop := (Lit.int .i64 z).wf = true
def UOk (z : Int) : Prop := (Lit.int .u32 z).wf = true
structure FldGood (f : FieldD) : Prop where
 name : NameOk f.name
 width : IOk f.width
structure HdrGood (w : World) (h : HeaderD) : Prop where
 name : NameOk h.name
 fields : ListOk w 2 24 FieldD.cells FldGood h.fields
structure RegGood (r : RegD) : Prop where
 name : NameOk r.name
 width : IOk r.width
 size : IOk r.size
structure NodeGood (x : NodeD) : Prop where
 op : IOk x.op
 n : IOk x.n
 w : IOk x.w
structure StmtGood (w : World) (s : StmtD) : Prop where
 kind : IOk s.kind
 index : ListOk w 3 24 NodeD.cells NodeGood s.index
 value : ListOk w 3 24 NodeD.cells NodeGood s.value
structure ActGood (w : World) (a : ActD) : Prop where
 name : NameOk a.name
 params : ListOk w 2 24 FieldD.cells FldGood a.params
 body : ListOk w 7 88 StmtD.cells (StmtGood w) a.body
structure KeyGood (k : KeyD) : Prop where
 h : IOk k.h
 f : IOk k.f
 kind : IOk k.kind
structure TabGood (w : World) (t : TabD) : Prop where
 name : NameOk t.name
 keys : ListOk w 3 24 KeyD.cells KeyGood t.keys
 acts : ListOk w 1 8 icell IOk t.acts
 defA : IOk t.defA
 args : ListOk w 1 4 ucell UOk t.args
 size : IOk t.size
structure CaseGood (c : CaseD) : Prop where
 value : UOk c.value
 mask : UOk c.mask
 next : IOk c.next
structure StateGood (w : World) (s : StateD) : Prop where
 name : NameOk s.name
 extract : ListOk w 1 8 icell IOk s.extract
 cases : ListOk w 3 16 CaseD.cells CaseGood s.cases
 dflt : IOk s.dflt
structure CtlGood (w : World) (x : CtlD) : Prop where
 ok : CtlOk w x
 caps : CtlCaps [x]
structure ProgGood (w : World) (p : ProgD) : Prop where
 name : NameOk p.name
 headers : ListOk w 2 40 HeaderD.cells (HdrGood w) p.headers
 metadata : ListOk w 2 24 FieldD.cells FldGood p.metadata
 registers : ListOk w 3 32 RegD.cells RegGood p.registers
 actions : ListOk w 3 64 ActD.cells (ActGood w) p.actions
 tables : ListOk w 6 104 TabD.cells (TabGood w) p.tables
 states : ListOk w 7 96 StateD.cells (StateGood w) p.states
 control : ListOk w 5 88 CtlD.cells (CtlGood w) p.control
 deparser : ListOk w 1 8 icell IOk p.deparser
theorem CtlCaps.all {l : List CtlD} (h : ∀ x ∈ l, CtlCaps [x]) : CtlCaps l := by
 induction l with
 | nil => exact .nil
 | cons x l ih =>
  cases h x (List.mem_cons_self ..) with
  | cons a b c d _ e => exact .cons a b c d (ih fun y hy => h y (List.mem_cons_of_mem _ hy)) e
theorem ctls_of {w : World} : ∀ {l : List CtlD}, (∀ x ∈ l, CtlOk w x) → CtlsOk w l
 | [], _ => by rw [CtlsOk]; trivial
 | x :: l, h => by
  rw [CtlsOk]
  exact ⟨h x (List.mem_cons_self ..), ctls_of fun y hy => h y (List.mem_cons_of_mem _ hy)⟩
theorem ProgGood.ok {w : World} {p : ProgD} (h : ProgGood w p) : ProgOk w p :=
  ⟨h.name, h.headers.lok, fun x hx => ⟨(h.headers.all x hx).name, (h.headers.all x hx).fields.lok, fun f hf => ((h.headers.all x hx).fields.all f hf).name⟩,
   h.metadata.lok, fun f hf => (h.metadata.all f hf).name, h.registers.lok, fun r hr => (h.registers.all r hr).name,
   h.actions.lok, fun a ha => ⟨(h.actions.all a ha).name, (h.actions.all a ha).params.lok, fun f hf => ((h.actions.all a ha).params.all f hf).name, (h.actions.all a ha).body.lok,
     fun s hs => ⟨((h.actions.all a ha).body.all s hs).index.lok, ((h.actions.all a ha).body.all s hs).value.lok⟩⟩,
   h.tables.lok, fun t ht => ⟨(h.tables.all t ht).name, (h.tables.all t ht).keys.lok, (h.tables.all t ht).acts.lok, (h.tables.all t ht).args.lok⟩,
   h.states.lok, fun s hs => ⟨(h.states.all s hs).name, (h.states.all s hs).extract.lok, (h.states.all s hs).cases.lok⟩,
   h.control.lok, ctls_of fun x hx => (h.control.all x hx).ok, h.deparser.lok⟩
theorem ProgGood.cap {w : World} {p : ProgD} (h : ProgGood w p) : ProgCap p :=
  ⟨fun x hx => (h.headers.all x hx).fields.le, fun a ha => (h.actions.all a ha).params.le, h.deparser.le, fun t ht => (h.tables.all t ht).defA, fun t ht v hv => (h.tables.all t ht).args.all v hv,
   fun s hs c hc => ⟨((h.states.all s hs).cases.all c hc).value, ((h.states.all s hs).cases.all c hc).mask⟩⟩
theorem len_cap {w : World} {k kb : Nat} {α : Type} {cells : α → List Value} {Ok : α → Prop} {y : L α} (h : ListOk w k kb cells Ok y) (hk : 32 ≤ kb) : y.l.length ≤ 4398046511104 := by
 have h1 := h.bytes
 have h2 := h.le
 have h3 : y.c * 32 ≤ y.c * kb := Nat.mul_le_mul_left _ hk
 have h4 : reachBytes = 140737488351232 := rfl
 omega
theorem len_cap24 {w : World} {k : Nat} {α : Type} {cells : α → List Value} {Ok : α → Prop} {y : L α} (h : ListOk w k 24 cells Ok y) : y.l.length ≤ 5864062014634 := by
 have h1 := h.bytes
 have h2 := h.le
 have h4 : reachBytes = 140737488351232 := rfl
 omega
theorem ProgGood.caps {w : World} {p : ProgD} (h : ProgGood w p) : CtlCaps p.control.l := CtlCaps.all fun x hx => (h.control.all x hx).caps
section
variable {H : Type} {enc : TypeId × Value → H} {w : World} {base : Nat} {held : Bool}
theorem rd_ints (N : Nat) : RdB enc Tryz.prog w base held N 29 (fun y : L Int => [y.v]) (ListOk w 1 8 icell IOk) :=
 (rd_list (N := N) (k := 1) (kb := 8) Tryz.underlying29 (by kernel_rfl) (by kernel_rfl) (by decide) (fun _ => rfl) (rd_int Tryz.underlying3)).mono (Nat.le_succ N)
theorem rd_u32s (N : Nat) : RdB enc Tryz.prog w base held N 33 (fun y : L Int => [y.v]) (ListOk w 1 4 ucell UOk) :=
 (rd_list (N := N) (k := 1) (kb := 4) Tryz.underlying33 (by kernel_rfl) (by kernel_rfl) (by decide) (fun _ => rfl) (rd_int Tryz.underlying66)).mono (Nat.le_succ N)
theorem rd_ref (N : Nat) : RdB enc Tryz.prog w base held N 61 (fun r : Int × Int => [.int .i64 r.1, .int .i64 r.2]) (fun r => IOk r.1 ∧ IOk r.2) := by
 intro m hm cs x h hw
 obtain ⟨xs, n, e1, hx, hlen, hl, hf⟩ := DataW.trod_struct Tryz.underlying61 h
 subst hx
 simp only [DataW.weights, Tryz.underlying61] at hw
 obtain ⟨d0, h0, w0⟩ := rd_field (N := N) 0 _ 0 1 hf hl hw rfl rfl rfl (by kernel_rfl) (rd_int Tryz.underlying3) (by omega)
 obtain ⟨d1, h1, w1⟩ := rd_field (N := N) 1 _ 1 1 hf hl hw rfl rfl rfl (by kernel_rfl) (rd_int Tryz.underlying3) (by omega)
 have e2 : cs.length = 2 := hlen.trans (by kernel_rfl)
 refine ⟨(d0, d1), cells_eq e2 fun i hi => ?_, ⟨w0, w1⟩⟩
 match i, hi with
 | 0, _ => exact cell_of_cut h0
 | 1, _ => exact cell_of_cut h1
theorem rd_call (N : Nat) : RdB enc Tryz.prog w base held N 35 (fun c : Int × L Int => [.int .i64 c.1, c.2.v]) (fun c => IOk c.1 ∧ ListOk w 1 4 ucell UOk c.2) := by
 intro m hm cs x h hw
 obtain ⟨xs, n, e1, hx, hlen, hl, hf⟩ := DataW.trod_struct Tryz.underlying35 h
 subst hx
 simp only [DataW.weights, Tryz.underlying35] at hw
 obtain ⟨d0, h0, w0⟩ := rd_field (N := N) 0 _ 0 1 hf hl hw rfl rfl rfl (by kernel_rfl) (rd_int Tryz.underlying3) (by omega)
 obtain ⟨d1, h1, w1⟩ := rd_field (N := N) 1 _ 1 1 hf hl hw rfl rfl rfl (by kernel_rfl) (rd_u32s N) (by omega)
 have e2 : cs.length = 2 := hlen.trans (by kernel_rfl)
 refine ⟨(d0, d1), cells_eq e2 fun i hi => ?_, ⟨w0, w1⟩⟩
 match i, hi with
 | 0, _ => exact cell_of_cut h0
 | 1, _ => exact cell_of_cut h1
theorem rd_fld (N : Nat) : RdB enc Tryz.prog w base held N 104 FieldD.cells FldGood := by
 intro m hm cs x h hw
 obtain ⟨xs, n, e1, hx, hlen, hl, hf⟩ := DataW.trod_struct Tryz.underlying104 h
 subst hx
 simp only [DataW.weights, Tryz.underlying104] at hw
 obtain ⟨d0, h0, w0⟩ := rd_field (N := N) 0 _ 0 1 hf hl hw rfl rfl rfl (by kernel_rfl) (rd_str Tryz.underlying9) (by omega)
 obtain ⟨d1, h1, w1⟩ := rd_field (N := N) 1 _ 1 1 hf hl hw rfl rfl rfl (by kernel_rfl) (rd_int Tryz.underlying3) (by omega)
 have e2 : cs.length = 2 := hlen.trans (by kernel_rfl)
 refine ⟨⟨d0, d1⟩, cells_eq e2 fun i hi => ?_, ⟨w0, w1⟩⟩
 match i, hi with
 | 0, _ => exact cell_of_cut h0
 | 1, _ => exact cell_of_cut h1
theorem rd_fields (N : Nat) : RdB enc Tryz.prog w base held N 23 (fun y : L FieldD => [y.v]) (ListOk w 2 24 FieldD.cells FldGood) :=
 (rd_list (N := N) (k := 2) (kb := 24) Tryz.underlying23 (by kernel_rfl) (by kernel_rfl) (by decide) (fun _ => rfl) (rd_fld N)).mono (Nat.le_succ N)
theorem rd_header (N : Nat) : RdB enc Tryz.prog w base held N 98 HeaderD.cells (HdrGood w) := by
 intro m hm cs x h hw
 obtain ⟨xs, n, e1, hx, hlen, hl, hf⟩ := DataW.trod_struct Tryz.underlying98 h
 subst hx
 simp only [DataW.weights, Tryz.underlying98] at hw
 obtain ⟨d0, h0, w0⟩ := rd_field (N := N) 0 _ 0 1 hf hl hw rfl rfl rfl (by kernel_rfl) (rd_str Tryz.underlying9) (by omega)
 obtain ⟨d1, h1, w1⟩ := rd_field (N := N) 1 _ 1 1 hf hl hw rfl rfl rfl (by kernel_rfl) (rd_fields N) (by omega)
 have e2 : cs.length = 2 := hlen.trans (by kernel_rfl)
 refine ⟨⟨d0, d1⟩, cells_eq e2 fun i hi => ?_, ⟨w0, w1⟩⟩
 match i, hi with
 | 0, _ => exact cell_of_cut h0
 | 1, _ => exact cell_of_cut h1
theorem rd_headers (N : Nat) : RdB enc Tryz.prog w base held N 22 (fun y : L HeaderD => [y.v]) (ListOk w 2 40 HeaderD.cells (HdrGood w)) :=
 (rd_list (N := N) (k := 2) (kb := 40) Tryz.underlying22 (by kernel_rfl) (by kernel_rfl) (by decide) (fun _ => rfl) (rd_header N)).mono (Nat.le_succ N)
theorem rd_reg (N : Nat) : RdB enc Tryz.prog w base held N 100 RegD.cells RegGood := by
 intro m hm cs x h hw
 obtain ⟨xs, n, e1, hx, hlen, hl, hf⟩ := DataW.trod_struct Tryz.underlying100 h
 subst hx
 simp only [DataW.weights, Tryz.underlying100] at hw
 obtain ⟨d0, h0, w0⟩ := rd_field (N := N) 0 _ 0 1 hf hl hw rfl rfl rfl (by kernel_rfl) (rd_str Tryz.underlying9) (by omega)
 obtain ⟨d1, h1, w1⟩ := rd_field (N := N) 1 _ 1 1 hf hl hw rfl rfl rfl (by kernel_rfl) (rd_int Tryz.underlying3) (by omega)
 obtain ⟨d2, h2, w2⟩ := rd_field (N := N) 2 _ 2 1 hf hl hw rfl rfl rfl (by kernel_rfl) (rd_int Tryz.underlying3) (by omega)
 have e2 : cs.length = 3 := hlen.trans (by kernel_rfl)
 refine ⟨⟨d0, d1, d2⟩, cells_eq e2 fun i hi => ?_, ⟨w0, w1, w2⟩⟩
 match i, hi with
 | 0, _ => exact cell_of_cut h0
 | 1, _ => exact cell_of_cut h1
 | 2, _ => exact cell_of_cut h2
theorem rd_regs (N : Nat) : RdB enc Tryz.prog w base held N 24 (fun y : L RegD => [y.v]) (ListOk w 3 32 RegD.cells RegGood) :=
 (rd_list (N := N) (k := 3) (kb := 32) Tryz.underlying24 (by kernel_rfl) (by kernel_rfl) (by decide) (fun _ => rfl) (rd_reg N)).mono (Nat.le_succ N)
theorem rd_node (N : Nat) : RdB enc Tryz.prog w base held N 302 NodeD.cells NodeGood := by
 intro m hm cs x h hw
 obtain ⟨xs, n, e1, hx, hlen, hl, hf⟩ := DataW.trod_struct Tryz.underlying302 h
 subst hx
 simp only [DataW.weights, Tryz.underlying302] at hw
 obtain ⟨d0, h0, w0⟩ := rd_field (N := N) 0 _ 0 1 hf hl hw rfl rfl rfl (by kernel_rfl) (rd_int Tryz.underlying3) (by omega)
 obtain ⟨d1, h1, w1⟩ := rd_field (N := N) 1 _ 1 1 hf hl hw rfl rfl rfl (by kernel_rfl) (rd_int Tryz.underlying3) (by omega)
 obtain ⟨d2, h2, w2⟩ := rd_field (N := N) 2 _ 2 1 hf hl hw rfl rfl rfl (by kernel_rfl) (rd_int Tryz.underlying3) (by omega)
 have e2 : cs.length = 3 := hlen.trans (by kernel_rfl)
 refine ⟨⟨d0, d1, d2⟩, cells_eq e2 fun i hi => ?_, ⟨w0, w1, w2⟩⟩
 match i, hi with
 | 0, _ => exact cell_of_cut h0
 | 1, _ => exact cell_of_cut h1
 | 2, _ => exact cell_of_cut h2
theorem rd_nodes (N : Nat) : RdB enc Tryz.prog w base held N 94 (fun y : L NodeD => [y.v]) (ListOk w 3 24 NodeD.cells NodeGood) :=
 (rd_list (N := N) (k := 3) (kb := 24) Tryz.underlying94 (by kernel_rfl) (by kernel_rfl) (by decide) (fun _ => rfl) (rd_node N)).mono (Nat.le_succ N)
theorem rd_stmt (N : Nat) : RdB enc Tryz.prog w base held N 96 StmtD.cells (StmtGood w) := by
 intro m hm cs x h hw
 obtain ⟨xs, n, e1, hx, hlen, hl, hf⟩ := DataW.trod_struct Tryz.underlying96 h
 subst hx
 simp only [DataW.weights, Tryz.underlying96] at hw
 obtain ⟨d0, h0, w0⟩ := rd_field (N := N) 0 _ 0 1 hf hl hw rfl rfl rfl (by kernel_rfl) (rd_int Tryz.underlying3) (by omega)
 obtain ⟨d1, h1, w1⟩ := rd_field (N := N) 1 _ 1 2 hf hl hw rfl rfl rfl (by kernel_rfl) (rd_ref N) (by omega)
 obtain ⟨d2, h2, w2⟩ := rd_field (N := N) 2 _ 3 1 hf hl hw rfl rfl rfl (by kernel_rfl) (rd_int Tryz.underlying3) (by omega)
 obtain ⟨d3, h3, w3⟩ := rd_field (N := N) 3 _ 4 1 hf hl hw rfl rfl rfl (by kernel_rfl) (rd_int Tryz.underlying3) (by omega)
 obtain ⟨d4, h4, w4⟩ := rd_field (N := N) 4 _ 5 1 hf hl hw rfl rfl rfl (by kernel_rfl) (rd_nodes N) (by omega)
 obtain ⟨d5, h5, w5⟩ := rd_field (N := N) 5 _ 6 1 hf hl hw rfl rfl rfl (by kernel_rfl) (rd_nodes N) (by omega)
 have e2 : cs.length = 7 := hlen.trans (by kernel_rfl)
 refine ⟨⟨d0, d1.1, d1.2, d2, d3, d4, d5⟩, cells_eq e2 fun i hi => ?_, ⟨w0, w4, w5⟩⟩
 match i, hi with
 | 0, _ => exact cell_of_cut h0
 | 1, _ => exact cut_get h1 0 (by simp)
 | 2, _ => exact cut_get h1 1 (by simp)
 | 3, _ => exact cell_of_cut h2
 | 4, _ => exact cell_of_cut h3
 | 5, _ => exact cell_of_cut h4
 | 6, _ => exact cell_of_cut h5
theorem rd_stmts (N : Nat) : RdB enc Tryz.prog w base held N 91 (fun y : L StmtD => [y.v]) (ListOk w 7 88 StmtD.cells (StmtGood w)) :=
 (rd_list (N := N) (k := 7) (kb := 88) Tryz.underlying91 (by kernel_rfl) (by kernel_rfl) (by decide) (fun _ => rfl) (rd_stmt N)).mono (Nat.le_succ N)
theorem rd_act (N : Nat) : RdB enc Tryz.prog w base held N 93 ActD.cells (ActGood w) := by
 intro m hm cs x h hw
 obtain ⟨xs, n, e1, hx, hlen, hl, hf⟩ := DataW.trod_struct Tryz.underlying93 h
 subst hx
 simp only [DataW.weights, Tryz.underlying93] at hw
 obtain ⟨d0, h0, w0⟩ := rd_field (N := N) 0 _ 0 1 hf hl hw rfl rfl rfl (by kernel_rfl) (rd_str Tryz.underlying9) (by omega)
 obtain ⟨d1, h1, w1⟩ := rd_field (N := N) 1 _ 1 1 hf hl hw rfl rfl rfl (by kernel_rfl) (rd_fields N) (by omega)
 obtain ⟨d2, h2, w2⟩ := rd_field (N := N) 2 _ 2 1 hf hl hw rfl rfl rfl (by kernel_rfl) (rd_stmts N) (by omega)
 have e2 : cs.length = 3 := hlen.trans (by kernel_rfl)
 refine ⟨⟨d0, d1, d2⟩, cells_eq e2 fun i hi => ?_, ⟨w0, w1, w2⟩⟩
 match i, hi with
 | 0, _ => exact cell_of_cut h0
 | 1, _ => exact cell_of_cut h1
 | 2, _ => exact cell_of_cut h2
theorem rd_acts (N : Nat) : RdB enc Tryz.prog w base held N 25 (fun y : L ActD => [y.v]) (ListOk w 3 64 ActD.cells (ActGood w)) :=
 (rd_list (N := N) (k := 3) (kb := 64) Tryz.underlying25 (by kernel_rfl) (by kernel_rfl) (by decide) (fun _ => rfl) (rd_act N)).mono (Nat.le_succ N)
theorem rd_key (N : Nat) : RdB enc Tryz.prog w base held N 106 KeyD.cells KeyGood := by
 intro m hm cs x h hw
 obtain ⟨xs, n, e1, hx, hlen, hl, hf⟩ := DataW.trod_struct Tryz.underlying106 h
 subst hx
 simp only [DataW.weights, Tryz.underlying106] at hw
 obtain ⟨d0, h0, w0⟩ := rd_field (N := N) 0 _ 0 2 hf hl hw rfl rfl rfl (by kernel_rfl) (rd_ref N) (by omega)
 obtain ⟨d1, h1, w1⟩ := rd_field (N := N) 1 _ 2 1 hf hl hw rfl rfl rfl (by kernel_rfl) (rd_int Tryz.underlying3) (by omega)
 have e2 : cs.length = 3 := hlen.trans (by kernel_rfl)
 refine ⟨⟨d0.1, d0.2, d1⟩, cells_eq e2 fun i hi => ?_, ⟨w0.1, w0.2, w1⟩⟩
 match i, hi with
 | 0, _ => exact cut_get h0 0 (by simp)
 | 1, _ => exact cut_get h0 1 (by simp)
 | 2, _ => exact cell_of_cut h1
theorem rd_keys (N : Nat) : RdB enc Tryz.prog w base held N 57 (fun y : L KeyD => [y.v]) (ListOk w 3 24 KeyD.cells KeyGood) :=
 (rd_list (N := N) (k := 3) (kb := 24) Tryz.underlying57 (by kernel_rfl) (by kernel_rfl) (by decide) (fun _ => rfl) (rd_key N)).mono (Nat.le_succ N)
theorem rd_tab (N : Nat) : RdB enc Tryz.prog w base held N 59 TabD.cells (TabGood w) := by
 intro m hm cs x h hw
 obtain ⟨xs, n, e1, hx, hlen, hl, hf⟩ := DataW.trod_struct Tryz.underlying59 h
 subst hx
 simp only [DataW.weights, Tryz.underlying59] at hw
 obtain ⟨d0, h0, w0⟩ := rd_field (N := N) 0 _ 0 1 hf hl hw rfl rfl rfl (by kernel_rfl) (rd_str Tryz.underlying9) (by omega)
 obtain ⟨d1, h1, w1⟩ := rd_field (N := N) 1 _ 1 1 hf hl hw rfl rfl rfl (by kernel_rfl) (rd_keys N) (by omega)
 obtain ⟨d2, h2, w2⟩ := rd_field (N := N) 2 _ 2 1 hf hl hw rfl rfl rfl (by kernel_rfl) (rd_ints N) (by omega)
 obtain ⟨d3, h3, w3⟩ := rd_field (N := N) 3 _ 3 2 hf hl hw rfl rfl rfl (by kernel_rfl) (rd_call N) (by omega)
 obtain ⟨d4, h4, w4⟩ := rd_field (N := N) 4 _ 5 1 hf hl hw rfl rfl rfl (by kernel_rfl) (rd_int Tryz.underlying3) (by omega)
 have e2 : cs.length = 6 := hlen.trans (by kernel_rfl)
 refine ⟨⟨d0, d1, d2, d3.1, d3.2, d4⟩, cells_eq e2 fun i hi => ?_, ⟨w0, w1, w2, w3.1, w3.2, w4⟩⟩
 match i, hi with
 | 0, _ => exact cell_of_cut h0
 | 1, _ => exact cell_of_cut h1
 | 2, _ => exact cell_of_cut h2
 | 3, _ => exact cut_get h3 0 (by simp)
 | 4, _ => exact cut_get h3 1 (by simp)
 | 5, _ => exact cell_of_cut h4
theorem rd_tabs (N : Nat) : RdB enc Tryz.prog w base held N 26 (fun y : L TabD => [y.v]) (ListOk w 6 104 TabD.cells (TabGood w)) :=
 (rd_list (N := N) (k := 6) (kb := 104) Tryz.underlying26 (by kernel_rfl) (by kernel_rfl) (by decide) (fun _ => rfl) (rd_tab N)).mono (Nat.le_succ N)
theorem rd_case (N : Nat) : RdB enc Tryz.prog w base held N 257 CaseD.cells CaseGood := by
 intro m hm cs x h hw
 obtain ⟨xs, n, e1, hx, hlen, hl, hf⟩ := DataW.trod_struct Tryz.underlying257 h
 subst hx
 simp only [DataW.weights, Tryz.underlying257] at hw
 obtain ⟨d0, h0, w0⟩ := rd_field (N := N) 0 _ 0 1 hf hl hw rfl rfl rfl (by kernel_rfl) (rd_int Tryz.underlying66) (by omega)
 obtain ⟨d1, h1, w1⟩ := rd_field (N := N) 1 _ 1 1 hf hl hw rfl rfl rfl (by kernel_rfl) (rd_int Tryz.underlying66) (by omega)
 obtain ⟨d2, h2, w2⟩ := rd_field (N := N) 2 _ 2 1 hf hl hw rfl rfl rfl (by kernel_rfl) (rd_int Tryz.underlying3) (by omega)
 have e2 : cs.length = 3 := hlen.trans (by kernel_rfl)
 refine ⟨⟨d0, d1, d2⟩, cells_eq e2 fun i hi => ?_, ⟨w0, w1, w2⟩⟩
 match i, hi with
 | 0, _ => exact cell_of_cut h0
 | 1, _ => exact cell_of_cut h1
 | 2, _ => exact cell_of_cut h2
theorem rd_cases (N : Nat) : RdB enc Tryz.prog w base held N 62 (fun y : L CaseD => [y.v]) (ListOk w 3 16 CaseD.cells CaseGood) :=
 (rd_list (N := N) (k := 3) (kb := 16) Tryz.underlying62 (by kernel_rfl) (by kernel_rfl) (by decide) (fun _ => rfl) (rd_case N)).mono (Nat.le_succ N)
theorem rd_state (N : Nat) : RdB enc Tryz.prog w base held N 64 StateD.cells (StateGood w) := by
 intro m hm cs x h hw
 obtain ⟨xs, n, e1, hx, hlen, hl, hf⟩ := DataW.trod_struct Tryz.underlying64 h
 subst hx
 simp only [DataW.weights, Tryz.underlying64] at hw
 obtain ⟨d0, h0, w0⟩ := rd_field (N := N) 0 _ 0 1 hf hl hw rfl rfl rfl (by kernel_rfl) (rd_str Tryz.underlying9) (by omega)
 obtain ⟨d1, h1, w1⟩ := rd_field (N := N) 1 _ 1 1 hf hl hw rfl rfl rfl (by kernel_rfl) (rd_ints N) (by omega)
 obtain ⟨d2, h2, w2⟩ := rd_field (N := N) 2 _ 2 1 hf hl hw rfl rfl rfl (by kernel_rfl) (rd_bool Tryz.underlying4) (by omega)
 obtain ⟨d3, h3, w3⟩ := rd_field (N := N) 3 _ 3 2 hf hl hw rfl rfl rfl (by kernel_rfl) (rd_ref N) (by omega)
 obtain ⟨d4, h4, w4⟩ := rd_field (N := N) 4 _ 5 1 hf hl hw rfl rfl rfl (by kernel_rfl) (rd_cases N) (by omega)
 obtain ⟨d5, h5, w5⟩ := rd_field (N := N) 5 _ 6 1 hf hl hw rfl rfl rfl (by kernel_rfl) (rd_int Tryz.underlying3) (by omega)
 have e2 : cs.length = 7 := hlen.trans (by kernel_rfl)
 refine ⟨⟨d0, d1, d2, d3.1, d3.2, d4, d5⟩, cells_eq e2 fun i hi => ?_, ⟨w0, w1, w4, w5⟩⟩
 match i, hi with
 | 0, _ => exact cell_of_cut h0
 | 1, _ => exact cell_of_cut h1
 | 2, _ => exact cell_of_cut h2
 | 3, _ => exact cut_get h3 0 (by simp)
 | 4, _ => exact cut_get h3 1 (by simp)
 | 5, _ => exact cell_of_cut h4
 | 6, _ => exact cell_of_cut h5
theorem rd_states (N : Nat) : RdB enc Tryz.prog w base held N 27 (fun y : L StateD => [y.v]) (ListOk w 7 96 StateD.cells (StateGood w)) :=
 (rd_list (N := N) (k := 7) (kb := 96) Tryz.underlying27 (by kernel_rfl) (by kernel_rfl) (by decide) (fun _ => rfl) (rd_state N)).mono (Nat.le_succ N)
theorem rd_ctl : ∀ N, RdB enc Tryz.prog w base held N 102 CtlD.cells (CtlGood w)
 | 0 => fun m hm => absurd hm (Nat.not_lt_zero _)
 | N + 1 => by
  have HL : RdB enc Tryz.prog w base held (N + 1) 28 (fun y : L CtlD => [y.v]) (ListOk w 5 88 CtlD.cells (CtlGood w)) :=
   rd_list (N := N) (k := 5) (kb := 88) Tryz.underlying28 (by kernel_rfl) (by kernel_rfl) (by decide) (fun _ => rfl) (rd_ctl N)
  intro m hm cs x h hw
  obtain ⟨xs, n, e1, hx, hlen, hl, hf⟩ := DataW.trod_struct Tryz.underlying102 h
  subst hx
  simp only [DataW.weights, Tryz.underlying102] at hw
  obtain ⟨d0, h0, w0⟩ := rd_field (N := N + 1) 0 _ 0 1 hf hl hw rfl rfl rfl (by kernel_rfl) (rd_int Tryz.underlying3) (by omega)
  obtain ⟨d1, h1, w1⟩ := rd_field (N := N + 1) 1 _ 1 1 hf hl hw rfl rfl rfl (by kernel_rfl) (rd_int Tryz.underlying3) (by omega)
  obtain ⟨d2, h2, w2⟩ := rd_field (N := N + 1) 2 _ 2 1 hf hl hw rfl rfl rfl (by kernel_rfl) (rd_nodes (N + 1)) (by omega)
  obtain ⟨d3, h3, w3⟩ := rd_field (N := N + 1) 3 _ 3 1 hf hl hw rfl rfl rfl (by kernel_rfl) HL (by omega)
  obtain ⟨d4, h4, w4⟩ := rd_field (N := N + 1) 4 _ 4 1 hf hl hw rfl rfl rfl (by kernel_rfl) HL (by omega)
  have e2 : cs.length = 5 := hlen.trans (by kernel_rfl)
  have hG : CtlGood w (.mk d0 d1 d2 d3.l d4.l d3.A d4.A d3.c d4.c) := by
   refine ⟨?_, .cons (len_cap w3 (by decide)) (len_cap w4 (by decide)) (CtlCaps.all fun y hy => (w3.all y hy).caps) (CtlCaps.all fun y hy => (w4.all y hy).caps) .nil (len_cap24 w2)⟩
   rw [CtlOk]
   exact ⟨w2.lok, w3.lok, w4.lok, ctls_of fun y hy => (w3.all y hy).ok, ctls_of fun y hy => (w4.all y hy).ok⟩
  refine ⟨.mk d0 d1 d2 d3.l d4.l d3.A d4.A d3.c d4.c, cells_eq e2 fun i hi => ?_, hG⟩
  match i, hi with
  | 0, _ => exact cell_of_cut h0
  | 1, _ => exact cell_of_cut h1
  | 2, _ => exact cell_of_cut h2
  | 3, _ => exact cell_of_cut h3
  | 4, _ => exact cell_of_cut h4
theorem rd_ctls (N : Nat) : RdB enc Tryz.prog w base held N 28 (fun y : L CtlD => [y.v]) (ListOk w 5 88 CtlD.cells (CtlGood w)) :=
 (rd_list (N := N) (k := 5) (kb := 88) Tryz.underlying28 (by kernel_rfl) (by kernel_rfl) (by decide) (fun _ => rfl) (rd_ctl N)).mono (Nat.le_succ N)
theorem rd_prog (N : Nat) : RdB enc Tryz.prog w base held N 31 (fun p : ProgD => (progCells p).toList) (ProgGood w) := by
 intro m hm cs x h hw
 obtain ⟨xs, n, e1, hx, hlen, hl, hf⟩ := DataW.trod_struct Tryz.underlying31 h
 subst hx
 simp only [DataW.weights, Tryz.underlying31] at hw
 obtain ⟨d0, h0, w0⟩ := rd_field (N := N) 0 _ 0 1 hf hl hw rfl rfl rfl (by kernel_rfl) (rd_str Tryz.underlying9) (by omega)
 obtain ⟨d1, h1, w1⟩ := rd_field (N := N) 1 _ 1 1 hf hl hw rfl rfl rfl (by kernel_rfl) (rd_headers N) (by omega)
 obtain ⟨d2, h2, w2⟩ := rd_field (N := N) 2 _ 2 1 hf hl hw rfl rfl rfl (by kernel_rfl) (rd_fields N) (by omega)
 obtain ⟨d3, h3, w3⟩ := rd_field (N := N) 3 _ 3 1 hf hl hw rfl rfl rfl (by kernel_rfl) (rd_regs N) (by omega)
 obtain ⟨d4, h4, w4⟩ := rd_field (N := N) 4 _ 4 1 hf hl hw rfl rfl rfl (by kernel_rfl) (rd_acts N) (by omega)
 obtain ⟨d5, h5, w5⟩ := rd_field (N := N) 5 _ 5 1 hf hl hw rfl rfl rfl (by kernel_rfl) (rd_tabs N) (by omega)
 obtain ⟨d6, h6, w6⟩ := rd_field (N := N) 6 _ 6 1 hf hl hw rfl rfl rfl (by kernel_rfl) (rd_states N) (by omega)
 obtain ⟨d7, h7, w7⟩ := rd_field (N := N) 7 _ 7 1 hf hl hw rfl rfl rfl (by kernel_rfl) (rd_ctls N) (by omega)
 obtain ⟨d8, h8, w8⟩ := rd_field (N := N) 8 _ 8 1 hf hl hw rfl rfl rfl (by kernel_rfl) (rd_ints N) (by omega)
 have e2 : cs.length = 9 := hlen.trans (by kernel_rfl)
 refine ⟨⟨d0, d1, d2, d3, d4, d5, d6, d7, d8⟩, cells_eq e2 fun i hi => ?_, ⟨w0, w1, w2, w3, w4, w5, w6, w7, w8⟩⟩
 match i, hi with
 | 0, _ => exact cell_of_cut h0
 | 1, _ => exact cell_of_cut h1
 | 2, _ => exact cell_of_cut h2
 | 3, _ => exact cell_of_cut h3
 | 4, _ => exact cell_of_cut h4
 | 5, _ => exact cell_of_cut h5
 | 6, _ => exact cell_of_cut h6
 | 7, _ => exact cell_of_cut h7
 | 8, _ => exact cell_of_cut h8
end
end
theorem Tryz.infoInt : (Tryz.prog.info? 3).map (fun i => (i.zero, i.size, i.bytes)) = some (some (.int .i64 0), 1, 8) := by kernel_rfl
theorem one_intw (w : World) (n : Int) (t : TypeId) : ∀ j v, [Value.int .i64 n][j]? = some v → (w.alloc (.cells #[.int .i64 n] t)).cell? ((⟨w.heap.size, 0, none⟩ : Addr).add j) = some v := by
 intro j v hj
 match j, hj with
 | 0, hj => simp at hj; subst hj; simp [Addr.add]
theorem own_weaken {w : World} {b b' : Nat} {e : TypeId} {size : Nat} {v : Value} {n : Nat} {xs : List Value} (hb : b' ≤ b) (h : w.ownsRow b e size v n xs) : w.ownsRow b' e size v n xs := by
 refine ⟨h.1, ?_⟩
 rcases h.2 with hn | ⟨g, cap, cur, hv, hg, rest⟩
 · exact .inl hn
 · exact .inr ⟨g, cap, cur, hv, Nat.le_trans hb hg, rest⟩
theorem rvalid_any (n : Int) (w : World) :
  Calls Tryz.prog 190 #[.int .i64 n] w fun e w' => e = .returned (.bool (okW n)) ∧ w = w' := by
 by_cases h1 : 1 ≤ n
 ·
  have HR := hi_ (show okW n = decide (n ≤ 32) by simp [okW, h1])
  by_cases h2 : n ≤ 32
  all_goals
   go_enter Tryz.func190, Tryz.ntmps190
   go_wp2
   go_ret
   exact ⟨by rw [HR.out]; simp [h2], rfl⟩
 ·
  have HR := hi_ (show okW n = false by simp [okW, h1])
  go_enter Tryz.func190, Tryz.ntmps190
  go_wp2
  go_ret
  exact ⟨by rw [HR.out]; rfl, rfl⟩
theorem pow_le40 {k : Nat} (h : k ≤ 40) : 2 ^ k ≤ 1099511627776 := Nat.pow_le_pow_right (by decide) h
theorem rpower_any (n : Nat) (hn : n ≤ 40) (w : World) :
  Calls Tryz.prog 191 #[.int .i64 n] w fun e w' => e = .returned (.int .u64 ((2 ^ n : Nat) : Int)) ∧ w = w' := by
 go_enter Tryz.func191, Tryz.ntmps191
 go_wp2
 go_loop [3, 4] (fun v i => ∃ k x : Nat, k ≤ n ∧ i = .int .i64 k ∧ v = .int .u64 x ∧ Hid (x = 2 ^ k)) (fun _ i => n - (intOf i).toNat)
 case atStart => exact ⟨0, 1, Nat.zero_le _, rfl, rfl, hi_ rfl⟩
 case round =>
 obtain ⟨k, x, hk, rfl, rfl, hx⟩ := hrel
 by_cases hlt : k < n
 ·
  have HX : Hid (2 * x = 2 ^ (k + 1) ∧ 2 * x ≤ 1099511627776) := hi_ (by
   have h1 : 2 * x = 2 ^ (k + 1) := by rw [hx.out, Nat.pow_succ, Nat.mul_comm]
   exact ⟨h1, by rw [h1]; exact pow_le40 (by omega)⟩)
  go_wp2
  go_round
  case rel => exact ⟨k + 1, 2 * x, by omega, by go_num, by
   have h2 := HX.out.2
   refine congrArg (Value.int .u64) ?_
   rw [IntWalk.u64_in _ (by omega)]; rfl, hi_ HX.out.1⟩
  case measure => simp [intOf]; omega
 ·
  have e : k = n := by omega
  subst e
  go_wp2
  go_ret
  exact ⟨by rw [hx.out]; simp, rfl⟩
theorem rmask_any (n : Int) (w : World) :
  Calls Tryz.prog 189 #[.int .i64 n] w fun e w' => e = .returned (.int .u32 (maskM n)) ∧ w = w' := by
 cases hv : okW n
 ·
  have HM := hi_ (show maskM n = 0 by rw [maskM, hv]; rfl)
  have HV := hi_ hv
  clear hv
  go_enter Tryz.func189, Tryz.ntmps189
  go_wp2_with fail
  refine (rvalid_any n _).mono ?_
  rintro e w1 ⟨rfl, rfl⟩
  rw [HV.out]
  go_wp2
  go_ret
  exact ⟨by rw [HM.out]; rfl, rfl⟩
 ·
  have HV := hi_ hv
  have hr : 1 ≤ n ∧ n ≤ 32 := okW_iff.1 hv
  obtain ⟨m, rfl⟩ : ∃ m : Nat, n = m := ⟨n.toNat, by omega⟩
  have HR := hi_ hr
  have HM : Hid (IntKind.u32.wrap (((2 ^ m : Nat) : Int) - 1) = (maskM m : Int)) := hi_ (by
   have h1 : maskM (m : Int) = 2 ^ m - 1 := by rw [maskM, hv]; rfl
   have h2 : 2 ^ m ≤ 2 ^ 32 := Nat.pow_le_pow_right (by decide) (by omega)
   have h3 : 0 < 2 ^ m := Nat.pow_pos (by decide)
   rw [h1, IntWalk.u32_in _ (by omega)]
   omega)
  have HP : Hid ((2 ^ m : Nat) ≤ 4294967296 ∧ 0 < 2 ^ m) := hi_ ⟨Nat.pow_le_pow_right (n := 2) (by decide) (show m ≤ 32 by omega), Nat.pow_pos (by decide)⟩
  clear hv hr
  go_enter Tryz.func189, Tryz.ntmps189
  go_wp2_with fail
  refine (rvalid_any m _).mono ?_
  rintro e w1 ⟨rfl, rfl⟩
  rw [HV.out]
  go_wp2_with fail
  refine (rpower_any m (by have := HR.out; omega) _).mono ?_
  rintro e w1 ⟨rfl, rfl⟩
  generalize hX : 2 ^ m = X at *
  have hX1 : 0 < (X : Int) := by have := HP.out; omega
  have hX2 : (X : Int) ≤ 4294967296 := by have := HP.out; omega
  clear hX
  go_wp2
  go_ret
  exact ⟨by rw [← HM.out, IntWalk.u32_in _ (by omega)]; rfl, rfl⟩
theorem pow_okW {n : Int} (hv : okW n = true) : ∃ m : Nat, n = m ∧ 1 ≤ m ∧ m ≤ 32 ∧ maskM n = 2 ^ m - 1 := by
 have hr := okW_iff.1 hv
 refine ⟨n.toNat, by omega, by omega, by omega, by rw [maskM, hv]; rfl⟩
theorem rfits_any (v n : Int) (hw : (Lit.int .u32 v).wf = true) (w : World) :
  Calls Tryz.prog 124 #[.int .u32 v, .int .i64 n] w fun e w' => e = .returned (.bool (fitsM v n)) ∧ w = w' := by
 have hv0 : 0 ≤ v ∧ v ≤ 4294967295 := by
  have e1 : IntKind.u32.min = 0 := rfl
  have e2 : IntKind.u32.max = 4294967295 := rfl
  simp only [Lit.wf, Bool.and_eq_true, decide_eq_true_eq] at hw
  omega
 clear hw
 cases hv : okW n
 ·
  have HM := hi_ (show fitsM v n = false by rw [fitsM, hv]; rfl)
  have HV := hi_ hv
  clear hv
  go_enter Tryz.func124, Tryz.ntmps124
  go_upto_region 1 with fail
  go_wp2_with fail
  refine (rvalid_any n _).mono ?_
  rintro e w1 ⟨rfl, rfl⟩
  rw [HV.out]
  go_wp2
  go_ret
  exact ⟨by rw [HM.out]; rfl, rfl⟩
 ·
  obtain ⟨m, rfl, h1, h2, h3⟩ := pow_okW hv
  have HM : Hid (fitsM v m = decide (v < ((2 ^ m : Nat) : Int))) := hi_ (by
   have h4 : 0 < 2 ^ m := Nat.pow_pos (by decide)
   rw [fitsM, hv, h3, Bool.true_and]
   exact decide_eq_decide.2 (by omega))
  have HV := hi_ hv
  clear hv h3
  go_enter Tryz.func124, Tryz.ntmps124
  go_wp2_with fail
  refine (rvalid_any m _).mono ?_
  rintro e w1 ⟨rfl, rfl⟩
  rw [HV.out]
  go_wp2_with fail
  refine (rpower_any m (by omega) _).mono ?_
  rintro e w1 ⟨rfl, rfl⟩
  generalize 2 ^ m = X at *
  go_wp2
  go_ret
  exact ⟨by rw [HM.out]; rfl, rfl⟩
theorem rfits12_any (v : Int) (n : Nat) (hn : n ≤ 32) (hw : (Lit.int .u32 v).wf = true) (w : World) :
  Calls Tryz.prog 263 #[.int .u32 v, .int .i64 n] w fun e w' => e = .returned (.bool (decide (v < ((2 ^ n : Nat) : Int)))) ∧ w = w' := by
 have hv0 : 0 ≤ v ∧ v ≤ 4294967295 := by
  have e1 : IntKind.u32.min = 0 := rfl
  have e2 : IntKind.u32.max = 4294967295 := rfl
  simp only [Lit.wf, Bool.and_eq_true, decide_eq_true_eq] at hw
  omega
 clear hw
 go_enter Tryz.func263, Tryz.ntmps263
 go_wp2
 go_loop [5, 6] (fun v i => ∃ k x : Nat, k ≤ n ∧ i = .int .i64 k ∧ v = .int .u64 x ∧ Hid (x = 2 ^ k)) (fun _ i => n - (intOf i).toNat)
 case atStart => exact ⟨0, 1, Nat.zero_le _, rfl, rfl, hi_ rfl⟩
 case round =>
 obtain ⟨k, x, hk, rfl, rfl, hx⟩ := hrel
 by_cases hlt : k < n
 ·
  have HX : Hid (2 * x = 2 ^ (k + 1) ∧ 2 * x ≤ 1099511627776) := hi_ (by
   have h1 : 2 * x = 2 ^ (k + 1) := by rw [hx.out, Nat.pow_succ, Nat.mul_comm]
   exact ⟨h1, by rw [h1]; exact pow_le40 (by omega)⟩)
  go_wp2
  go_round
  case rel => exact ⟨k + 1, 2 * x, by omega, by go_num, by
   have h2 := HX.out.2
   refine congrArg (Value.int .u64) ?_
   rw [IntWalk.u64_in _ (by omega)]; rfl, hi_ HX.out.1⟩
  case measure => simp [intOf]; omega
 ·
  have e : k = n := by omega
  subst e
  go_wp2
  go_ret
  have h := hx.out
  subst h
  exact ⟨by simp, rfl⟩
theorem fits12_eq {v n : Int} (hv : okW n = true) : fitsM v n = decide (v < ((2 ^ n.toNat : Nat) : Int)) := by
 obtain ⟨m, rfl, h1, h2, h3⟩ := pow_okW hv
 have h4 : 0 < 2 ^ m := Nat.pow_pos (by decide)
 rw [fitsM, hv, h3, Bool.true_and, Int.toNat_natCast]
 exact decide_eq_decide.2 (by omega)
theorem rarity_any (op : Int) (w : World) : Calls Tryz.prog 276 #[.int .i64 op] w fun e w' => e = .returned (.int .i64 (arityM op)) ∧ w = w' := by
 have hd : op < 1 ∨ (1 ≤ op ∧ op ≤ 4) ∨ (5 ≤ op ∧ op ≤ 8) ∨ (9 ≤ op ∧ op ≤ 16) ∨ op = 17 ∨ 17 < op := by omega
 rcases hd with h | ⟨h1, h2⟩ | ⟨h1, h2⟩ | ⟨h1, h2⟩ | h | h
 ·
  have HR := hi_ (show arityM op = -1 by unfold arityM; repeat' split <;> omega)
  have k1 : (op == 17) = false := bf_ (by omega)
  have k2 : ¬ 5 ≤ op := by omega
  have k3 : ¬ 9 ≤ op := by omega
  go_enter Tryz.func276, Tryz.ntmps276
  go_wp2
  go_ret
  exact ⟨by rw [HR.out]; rfl, rfl⟩
 ·
  have HR := hi_ (show arityM op = 0 by unfold arityM; repeat' split <;> omega)
  go_enter Tryz.func276, Tryz.ntmps276
  go_wp2
  go_ret
  exact ⟨by rw [HR.out]; rfl, rfl⟩
 ·
  have HR := hi_ (show arityM op = 1 by unfold arityM; repeat' split <;> omega)
  have k2 : 1 ≤ op := by omega
  have k3 : ¬ op ≤ 4 := by omega
  go_enter Tryz.func276, Tryz.ntmps276
  go_wp2
  go_ret
  exact ⟨by rw [HR.out]; rfl, rfl⟩
 ·
  have HR := hi_ (show arityM op = 2 by unfold arityM; repeat' split <;> omega)
  have k2 : 1 ≤ op := by omega
  have k3 : ¬ op ≤ 4 := by omega
  have k4 : 5 ≤ op := by omega
  have k5 : ¬ op ≤ 8 := by omega
  go_enter Tryz.func276, Tryz.ntmps276
  go_wp2
  go_ret
  exact ⟨by rw [HR.out]; rfl, rfl⟩
 ·
  subst h
  go_enter Tryz.func276, Tryz.ntmps276
  go_wp2
  go_ret
  exact ⟨rfl, rfl⟩
 ·
  have HR := hi_ (show arityM op = -1 by unfold arityM; repeat' split <;> omega)
  have k1 : (op == 17) = false := bf_ (by omega)
  have k2 : 1 ≤ op := by omega
  have k3 : ¬ op ≤ 4 := by omega
  have k4 : 5 ≤ op := by omega
  have k5 : ¬ op ≤ 8 := by omega
  have k6 : 9 ≤ op := by omega
  have k7 : ¬ op ≤ 16 := by omega
  go_enter Tryz.func276, Tryz.ntmps276
  go_wp2
  go_ret
  exact ⟨by rw [HR.out]; rfl, rfl⟩
theorem rwide_any (n : Int) (w : World) : Calls Tryz.prog 282 #[.int .i64 n] w fun e w' => e = .returned (.tuple #[.int .i64 (wideM n).1, .int .i64 (wideM n).2]) ∧ w = w' := by
 cases h : okW n
 ·
  have HR := hi_ (wideM_bad h)
  have h' := okW_not.1 h
  clear h
  by_cases h2 : n < 1
  ·
   go_enter Tryz.func282, Tryz.ntmps282
   go_wp2
   go_ret2
   exact ⟨by rw [HR.out]; rfl, rfl⟩
  ·
   have h1 : 32 < n := by omega
   go_enter Tryz.func282, Tryz.ntmps282
   go_wp2
   go_ret2
   exact ⟨by rw [HR.out]; rfl, rfl⟩
 ·
  have HR := hi_ (wideM_ok h)
  obtain ⟨h1, h2⟩ := okW_iff.1 h
  go_enter Tryz.func282, Tryz.ntmps282
  go_wp2
  go_ret2
  exact ⟨by rw [HR.out]; rfl, rfl⟩
theorem widthAt_decl (p : ProgD) (h f : Int) : widthAt p h f = match declF p h f with | some d => if okW d.width = true then d.width else 0 | none => 0 := by
 have hn : okW noField.width = false := rfl
 unfold widthAt fieldsM
 rcases fieldsOf_cases p h with ⟨rfl, hx⟩ | ⟨h1, h2, hx⟩ | ⟨k, hk, rfl, hx⟩
 ·
  rw [if_pos rfl]
  rcases declF_cases hx f with ⟨h3, hd⟩ | ⟨j, hj, rfl, hd⟩
  ·
   have e : fieldAt p.metadata f = noField := by
    unfold fieldAt
    split
    · rfl
    · rw [List.getElem?_eq_none (by omega)]; rfl
   rw [hd, e, hn]; rfl
  ·
   have e : fieldAt p.metadata j = p.metadata.l[j] := by rw [fieldAt, if_neg (by omega)]; simp [hj]
   rw [hd, e]
 ·
  have e : headerAt p.headers h = noHeader := by
   unfold headerAt
   split
   · rfl
   · rw [List.getElem?_eq_none (by omega)]; rfl
  have e2 : fieldAt noHeader.fields f = noField := by
   unfold fieldAt
   split <;> rfl
  rw [if_neg h1, declF_none hx f, e, e2, hn]; rfl
 ·
  have e0 : headerAt p.headers k = p.headers.l[k] := by rw [headerAt, if_neg (by omega)]; simp [hk]
  rw [if_neg (show ¬ ((k : Nat) : Int) = -1 by omega), e0]
  rcases declF_cases hx f with ⟨h3, hd⟩ | ⟨j, hj, rfl, hd⟩
  ·
   have e : fieldAt p.headers.l[k].fields f = noField := by
    unfold fieldAt
    split
    · rfl
    · rw [List.getElem?_eq_none (by omega)]; rfl
   rw [hd, e, hn]; rfl
  ·
   have e : fieldAt p.headers.l[k].fields j = p.headers.l[k].fields.l[j] := by rw [fieldAt, if_neg (by omega)]; simp [hj]
   rw [hd, e]
def declV (d : Option FieldD) : Value := .tuple #[.int .i64 (d.getD noField).width, .bool d.isSome]
theorem rdeclared_any (p : ProgD) (h f : Int) (w : World) (o : ProgOk w p) :
  Calls Tryz.prog 233 #[.agg (progCells p), .agg #[.int .i64 h, .int .i64 f]] w fun e w' => e = .returned (declV (declF p h f)) ∧ Below w.heap.size w w' := by
 have HO := hi_ o
 clear o
 have hca := @World.cell?_alloc_some
 rcases fieldsOf_cases p h with ⟨rfl, hx⟩ | ⟨h1, h2, hx⟩ | ⟨k, hk, rfl, hx⟩
 ·
  rcases declF_cases hx f with ⟨h3, hd⟩ | ⟨j, hj, rfl, hd⟩
  ·
   have HR := hi_ hd
   clear hd hx
   by_cases h4 : f < 0
   ·
    clear h3
    go_enter Tryz.func233, Tryz.ntmps233
    go_wp2
    go_ret2
    exact ⟨by rw [HR.out]; rfl, below2 _ _ _⟩
   ·
    have h5 : (p.metadata.l.length : Int) ≤ f := by omega
    clear h3
    go_enter Tryz.func233, Tryz.ntmps233
    go_wp2
    go_ret2
    exact ⟨by rw [HR.out]; rfl, below2 _ _ _⟩
  ·
   have HR := hi_ hd
   obtain ⟨g, of, hA, d0, d1⟩ := FieldD.at HO.out.metadata hj
   simp only [progCells, hA]
   clear hd hx hA
   generalize p.metadata.l[j] = y at *
   go_enter Tryz.func233, Tryz.ntmps233
   go_wp2
   go_ret2
   exact ⟨by rw [HR.out]; rfl, below2 _ _ _⟩
 ·
  have HR := hi_ (declF_none hx f)
  have h1' : (h == -1) = false := bf_ h1
  clear hx
  by_cases h4 : h < 0
  ·
   clear h2
   go_enter Tryz.func233, Tryz.ntmps233
   go_wp2
   go_ret2
   exact ⟨by rw [HR.out]; rfl, below2 _ _ _⟩
  ·
   have h5 : (p.headers.l.length : Int) ≤ h := by omega
   clear h2
   go_enter Tryz.func233, Tryz.ntmps233
   go_wp2
   go_ret2
   exact ⟨by rw [HR.out]; rfl, below2 _ _ _⟩
 ·
  obtain ⟨g, of, hA, d0, d1⟩ := HeaderD.at HO.out.headers hk
  have HF := hi_ (HO.out.hdr _ (List.getElem_mem hk)).fields
  have h1' : ((k : Int) == -1) = false := bf_ (by omega)
  simp only [progCells, hA]
  clear hA
  generalize p.headers.l[k] = x at *
  obtain ⟨xn, ⟨fl, fA, fc⟩⟩ := x
  simp only [L.v] at d1
  rcases declF_cases hx f with ⟨h3, hd⟩ | ⟨j, hj, rfl, hd⟩
  ·
   have HR := hi_ hd
   simp only at h3
   clear hd hx
   by_cases h4 : f < 0
   ·
    clear h3
    go_enter Tryz.func233, Tryz.ntmps233
    go_wp2
    go_ret2
    exact ⟨by rw [HR.out]; rfl, below2 _ _ _⟩
   ·
    have h5 : (fl.length : Int) ≤ f := by omega
    clear h3
    go_enter Tryz.func233, Tryz.ntmps233
    go_wp2
    go_ret2
    exact ⟨by rw [HR.out]; rfl, below2 _ _ _⟩
  ·
   have HR := hi_ hd
   simp only at hj
   obtain ⟨g2, of2, hA, e0, e1⟩ := FieldD.at HF.out hj
   simp only at hA e0 e1
   subst hA
   clear hd hx
   simp only at HR
   generalize fl[j] = y at *
   go_enter Tryz.func233, Tryz.ntmps233
   go_wp2
   go_ret2
   exact ⟨by rw [HR.out]; rfl, below2 _ _ _⟩
theorem rleaf_any (p : ProgD) (ps : L FieldD) (op n wd : Int) (w : World) (o : ProgOk w p) (hps : LOk w 2 FieldD.cells ps) :
  Calls Tryz.prog 277 #[.agg #[.int .i64 op, .int .i64 n, .int .i64 wd], .agg (scopeCells p ps)] w fun e w' =>
   e = .returned (.tuple #[.int .i64 (primM p ps.l ⟨op, n, wd⟩).1, .int .i64 (primM p ps.l ⟨op, n, wd⟩).2]) ∧ Below w.heap.size w w' := by
 have HO := hi_ o
 have HP := hi_ hps
 clear o hps
 obtain ⟨W, hW, hw, HB, hp⟩ := box2 w #[.int .i64 op, .int .i64 n, .int .i64 wd] 302 (scopeCells p ps) 233
 have HW := hi_ hw
 clear hw
 have HR := hi_ (primM.eq_1 p ps.l ⟨op, n, wd⟩)
 by_cases k1 : op = 1
 ·
  subst k1
  replace HR := tr_ HR (if_pos rfl)
  have hm := maskM_lt wd
  have hwr : IntKind.i64.wrap (maskM wd : Int) = (maskM wd : Int) := IntWalk.i64_in _ (by omega)
  go_enter Tryz.func277, Tryz.ntmps277
  go_upto_region 1 with fail
  rw [← hW]
  clear hW
  go_wp2_with fail
  refine (rwide_any wd _).mono ?_
  rintro e w' ⟨rfl, rfl⟩
  cases hv : okW wd
  ·
   replace HR := tr_ HR (if_neg (show ¬ okW wd = true by rw [hv]; simp))
   rw [wideM_bad hv]
   go_wp2
   go_quiet (fail)
   go_wp2
   go_ret2
   exact ⟨ret_pp HR.out, below_step HW.out (below_drewN HB _)⟩
  ·
   replace HR := tr_ HR (if_pos hv)
   rw [wideM_ok hv]
   by_cases k2 : n < 0
   ·
    replace HR := tr_ HR (if_pos (.inl k2))
    have k2' : decide (n < 0) = true := decide_eq_true k2
    go_wp2
    go_quiet (fail)
    go_wp2
    go_ret2
    exact ⟨ret_pp HR.out, below_step HW.out (below_drewN HB _)⟩
   ·
    have k2' : decide (n < 0) = false := decide_eq_false k2
    by_cases k3 : (maskM wd : Int) < n
    all_goals
     first
      | replace HR := tr_ HR (if_pos (Or.inr k3))
      | replace HR := hi_ (HR.out.trans (if_neg (show ¬ (n < 0 ∨ (maskM wd : Int) < n) from fun h => h.elim k2 k3)))
     have H0 := hi_ HB
     clear HB
     go_wp2
     go_region_held3 (fun w' => Below W.heap.size W w') (first | exact H0.out | exact below_drew H0.out | (exact below_step (by assumption) (by assumption)) | assumption)
      (first | (go_at_call 189; refine (rmask_any wd _).mono ?_; rintro e w1 ⟨rfl, rfl⟩))
     have HB5 : Hid (Below W.heap.size W _) := hi_ (by assumption)
     have HB := HB5.out
     go_wp2
     go_ret2
     exact ⟨ret_pp HR.out, below_step HW.out HB⟩
 replace HR := tr_ HR (if_neg k1)
 have k1' : (op == 1) = false := bf_ k1
 by_cases k2 : op = 2
 ·
  subst k2
  replace HR := tr_ HR (if_pos rfl)
  have hca := @World.cell?_alloc_some
  go_enter Tryz.func277, Tryz.ntmps277
  go_upto_region 1 with fail
  rw [← hW]
  clear hW
  go_wp2_with fail
  refine (rdeclared_any p n wd _ (HO.out.below (below_step HW.out (by first | exact HB | exact ba1 HB | exact ba2 HB | exact ba3 HB)))).mono ?_
  rintro e w1 ⟨rfl, hbN⟩
  replace HB := below_step (by first | exact HB | exact ba1 HB | exact ba2 HB | exact ba3 HB) hbN
  clear hbN
  rcases hd : declF p n wd with _ | y
  ·
   simp only [declM, hd, Option.map_none] at HR
   simp only [declV, Option.getD_none, Option.isSome_none]
   go_wp2
   go_ret2
   exact ⟨ret_pp HR.out, below_step HW.out (by first | exact HB | exact ba1 HB | exact ba2 HB | exact ba3 HB)⟩
  ·
   simp only [declM, hd, Option.map_some] at HR
   simp only [declV, Option.getD_some, Option.isSome_some]
   go_wp2_with fail
   refine (rwide_any y.width _).mono ?_
   rintro e w' ⟨rfl, rfl⟩
   go_wp2
   go_ret2
   exact ⟨ret_pp HR.out, below_step HW.out (by first | exact HB | exact ba1 HB | exact ba2 HB | exact ba3 HB)⟩
 replace HR := tr_ HR (if_neg k2)
 have k2' : (op == 2) = false := bf_ k2
 by_cases k3 : op = 3
 ·
  subst k3
  replace HR := tr_ HR (if_pos rfl)
  by_cases k4 : n < 0
  ·
   replace HR := tr_ HR (if_pos k4)
   go_enter Tryz.func277, Tryz.ntmps277
   go_upto_region 1 with fail
   rw [← hW]
   clear hW
   go_wp2
   go_ret2
   exact ⟨ret_pp HR.out, below_step HW.out HB⟩
  ·
   replace HR := tr_ HR (if_neg k4)
   obtain ⟨k, rfl⟩ : ∃ k : Nat, n = k := ⟨n.toNat, by omega⟩
   by_cases k5 : k < ps.l.length
   ·
    obtain ⟨g, of, hA, hq⟩ := FieldD.atA (HP.out.below HW.out (Nat.le_refl _)) k5
    have HR2 := hi_ (show primM p ps.l ⟨3, k, wd⟩ = wideM (ps.l[k]).width by rw [HR.out]; simp [k5])
    simp only [scopeCells, hA] at hW hp ⊢
    generalize ps.l[k] = y at *
    go_enter Tryz.func277, Tryz.ntmps277
    go_upto_region 1 with fail
    rw [← hW]
    clear hW
    go_wp2_with fail
    refine (rwide_any y.width _).mono ?_
    rintro e w' ⟨rfl, rfl⟩
    go_wp2
    go_ret2
    exact ⟨ret_pp HR2.out, below_step HW.out HB⟩
   ·
    have HR2 := hi_ (show primM p ps.l ⟨3, k, wd⟩ = (0, 8) by rw [HR.out]; simp [List.getElem?_eq_none (Nat.le_of_not_lt k5)])
    go_enter Tryz.func277, Tryz.ntmps277
    go_upto_region 1 with fail
    rw [← hW]
    clear hW
    go_wp2
    go_ret2
    exact ⟨ret_pp HR2.out, below_step HW.out HB⟩
 replace HR := tr_ HR (if_neg k3)
 have k3' : (op == 3) = false := bf_ k3
 by_cases k4 : n < 0
 ·
  replace HR := tr_ HR (if_pos (.inl k4))
  go_enter Tryz.func277, Tryz.ntmps277
  go_upto_region 1 with fail
  rw [← hW]
  clear hW
  go_wp2
  go_ret2
  exact ⟨ret_pp HR.out, below_step HW.out HB⟩
 by_cases k5 : (p.headers.l.length : Int) ≤ n
 ·
  replace HR := tr_ HR (if_pos (.inr k5))
  go_enter Tryz.func277, Tryz.ntmps277
  go_upto_region 1 with fail
  rw [← hW]
  clear hW
  go_wp2
  go_ret2
  exact ⟨ret_pp HR.out, below_step HW.out HB⟩
 ·
  replace HR := tr_ HR (if_neg (fun h => h.elim k4 k5))
  go_enter Tryz.func277, Tryz.ntmps277
  go_upto_region 1 with fail
  rw [← hW]
  clear hW
  go_wp2
  go_ret2
  exact ⟨ret_pp HR.out, below_step HW.out HB⟩
theorem ints1 {w : World} {A : Option Addr} {c : Nat} {a : Int} (h : LOk w 1 icell ⟨[a], A, c⟩) : ∃ g o, A = some ⟨g, o, none⟩ ∧ ∀ w', Below w.heap.size w w' → w'.cell? ⟨g, o, none⟩ = some (.int .i64 a) := by
 obtain ⟨g, o, e, hq⟩ := icell_allA h (by simp)
 exact ⟨g, o, e, fun w' hb => hq w' hb 0 (by simp)⟩
theorem ints2 {w : World} {A : Option Addr} {c : Nat} {a b : Int} (h : LOk w 1 icell ⟨[a, b], A, c⟩) : ∃ g o, A = some ⟨g, o, none⟩ ∧ ∀ w', Below w.heap.size w w' → w'.cell? ⟨g, o, none⟩ = some (.int .i64 a) ∧ w'.cell? ⟨g, o + 1, none⟩ = some (.int .i64 b) := by
 obtain ⟨g, o, e, hq⟩ := icell_allA h (by simp)
 exact ⟨g, o, e, fun w' hb => ⟨hq w' hb 0 (by simp), hq w' hb 1 (by simp)⟩⟩
theorem ints3 {w : World} {A : Option Addr} {c : Nat} {a b d : Int} (h : LOk w 1 icell ⟨[a, b, d], A, c⟩) : ∃ g o, A = some ⟨g, o, none⟩ ∧ ∀ w', Below w.heap.size w w' → w'.cell? ⟨g, o, none⟩ = some (.int .i64 a) ∧ w'.cell? ⟨g, o + 1, none⟩ = some (.int .i64 b) ∧ w'.cell? ⟨g, o + 2, none⟩ = some (.int .i64 d) := by
 obtain ⟨g, o, e, hq⟩ := icell_allA h (by simp)
 exact ⟨g, o, e, fun w' hb => ⟨hq w' hb 0 (by simp), hq w' hb 1 (by simp), hq w' hb 2 (by simp)⟩⟩
theorem roper1_any (op n wd a : Int) (A : Option Addr) (c : Nat) (w : World) (hop : 5 ≤ op ∧ op ≤ 8) (ha : 0 ≤ a ∧ a ≤ 32) (hok : LOk w 1 icell ⟨[a], A, c⟩) :
  Calls Tryz.prog 278 #[.agg #[.int .i64 op, .int .i64 n, .int .i64 wd], .slice A 1 c] w fun e w' =>
   e = .returned (.tuple #[.int .i64 (combM ⟨op, n, wd⟩ a 0 0).1, .int .i64 (combM ⟨op, n, wd⟩ a 0 0).2]) ∧ Below w.heap.size w w' := by
 obtain ⟨W, hW, hw, HB, hp⟩ := box1 w #[.int .i64 op, .int .i64 n, .int .i64 wd] 302
 have HW := hi_ hw
 obtain ⟨g, o, rfl, hq⟩ := ints1 (hok.below hw (Nat.le_refl _))
 clear hok hw
 have hq0 := hq _ HB
 have hp0 := hp _ HB
 obtain ⟨ha1, ha2⟩ := ha
 have hd : op = 5 ∨ (op = 6 ∨ op = 7) ∨ op = 8 := by omega
 clear hop
 rcases hd with rfl | h | rfl
 ·
  have HR : Hid (combM ⟨5, n, wd⟩ a 0 0 = (a, 0)) := hi_ (by simp [combM, arityM])
  go_enter Tryz.func278, Tryz.ntmps278
  go_upto_region 1 with fail
  rw [← hW]
  clear hW
  go_wp2
  go_ret2
  exact ⟨ret_pp HR.out, below_step HW.out (by first | exact HB | exact below_drewN HB _)⟩
 ·
  by_cases k : n < 0
  ·
   have HR : Hid (combM ⟨op, n, wd⟩ a 0 0 = (0, 9)) := hi_ (by simp [combM, h, k])
   rcases h with rfl | rfl
   all_goals
    go_enter Tryz.func278, Tryz.ntmps278
    go_upto_region 1 with fail
    rw [← hW]
    clear hW
    go_wp2
    go_ret2
    exact ⟨ret_pp HR.out, below_step HW.out (by first | exact HB | exact below_drewN HB _)⟩
  by_cases k2 : 31 < n
  ·
   have HR : Hid (combM ⟨op, n, wd⟩ a 0 0 = (0, 9)) := hi_ (by simp [combM, h, k2])
   rcases h with rfl | rfl
   all_goals
    go_enter Tryz.func278, Tryz.ntmps278
    go_upto_region 1 with fail
    rw [← hW]
    clear hW
    go_wp2
    go_ret2
    exact ⟨ret_pp HR.out, below_step HW.out (by first | exact HB | exact below_drewN HB _)⟩
  ·
   have HR : Hid (combM ⟨op, n, wd⟩ a 0 0 = (a, 0)) := hi_ (by simp only [combM, if_pos h]; rw [if_neg (by omega)])
   rcases h with rfl | rfl
   all_goals
    go_enter Tryz.func278, Tryz.ntmps278
    go_upto_region 1 with fail
    rw [← hW]
    clear hW
    go_wp2
    go_ret2
    exact ⟨ret_pp HR.out, below_step HW.out (by first | exact HB | exact below_drewN HB _)⟩
 ·
  by_cases k : n < 0
  ·
   have HR : Hid (combM ⟨8, n, wd⟩ a 0 0 = (0, 9)) := hi_ (by simp [combM, k])
   go_enter Tryz.func278, Tryz.ntmps278
   go_upto_region 1 with fail
   rw [← hW]
   clear hW
   go_wp2
   go_ret2
   exact ⟨ret_pp HR.out, below_step HW.out (by first | exact HB | exact below_drewN HB _)⟩
  have k' : 0 ≤ n := by omega
  by_cases k1 : wd < 1
  ·
   have k1' : decide (wd < 1) = true := decide_eq_true k1
   have HR : Hid (combM ⟨8, n, wd⟩ a 0 0 = (0, 10)) := hi_ (by simp [combM, k, okW_not.2 (.inl k1)])
   go_enter Tryz.func278, Tryz.ntmps278
   go_upto_region 1 with fail
   rw [← hW]
   clear hW
   go_wp2
   go_quiet (fail)
   go_wp2
   go_ret2
   exact ⟨ret_pp HR.out, below_step HW.out (by first | exact HB | exact below_drewN HB _)⟩
  have k1' : decide (wd < 1) = false := decide_eq_false k1
  by_cases k2 : 32 < wd
  ·
   have k2' : decide (32 < wd) = true := decide_eq_true k2
   have HR : Hid (combM ⟨8, n, wd⟩ a 0 0 = (0, 10)) := hi_ (by simp [combM, k, okW_not.2 (.inr k2)])
   go_enter Tryz.func278, Tryz.ntmps278
   go_upto_region 1 with fail
   rw [← hW]
   clear hW
   go_wp2
   go_quiet (fail)
   go_wp2
   go_ret2
   exact ⟨ret_pp HR.out, below_step HW.out (by first | exact HB | exact below_drewN HB _)⟩
  have k2' : decide (32 < wd) = false := decide_eq_false k2
  have hv : okW wd = true := okW_iff.2 ⟨by omega, by omega⟩
  have hwr : IntKind.i64.wrap (a - wd) = a - wd := IntWalk.i64_in _ (by omega)
  by_cases k3 : a - wd < n
  ·
   have HR : Hid (combM ⟨8, n, wd⟩ a 0 0 = (0, 10)) := hi_ (by simp [combM, k, k3])
   clear hv
   go_enter Tryz.func278, Tryz.ntmps278
   go_upto_region 1 with fail
   rw [← hW]
   clear hW
   go_wp2
   go_quiet (fail)
   go_wp2
   go_ret2
   exact ⟨ret_pp HR.out, below_step HW.out (by first | exact HB | exact below_drewN HB _)⟩
  ·
   have HR : Hid (combM ⟨8, n, wd⟩ a 0 0 = (wd, 0)) := hi_ (by simp [combM, k, k3, hv])
   clear hv
   go_enter Tryz.func278, Tryz.ntmps278
   go_upto_region 1 with fail
   rw [← hW]
   clear hW
   go_wp2
   go_quiet (fail)
   go_wp2
   go_ret2
   exact ⟨ret_pp HR.out, below_step HW.out (by first | exact HB | exact below_drewN HB _)⟩
theorem roper2_any (op n wd a b : Int) (A : Option Addr) (c : Nat) (w : World) (hop : 9 ≤ op ∧ op ≤ 16) (ha : 0 ≤ a ∧ a ≤ 32) (hb : 0 ≤ b ∧ b ≤ 32) (hok : LOk w 1 icell ⟨[a, b], A, c⟩) :
  Calls Tryz.prog 278 #[.agg #[.int .i64 op, .int .i64 n, .int .i64 wd], .slice A 2 c] w fun e w' =>
   e = .returned (.tuple #[.int .i64 (combM ⟨op, n, wd⟩ a b 0).1, .int .i64 (combM ⟨op, n, wd⟩ a b 0).2]) ∧ Below w.heap.size w w' := by
 obtain ⟨W, hW, hw, HB, hp⟩ := box1 w #[.int .i64 op, .int .i64 n, .int .i64 wd] 302
 have HW := hi_ hw
 obtain ⟨g, o, rfl, hq⟩ := ints2 (hok.below hw (Nat.le_refl _))
 clear hok hw
 have hq0 := hq _ HB
 have hp0 := hp _ HB
 obtain ⟨ha1, ha2⟩ := ha
 obtain ⟨hb1, hb2⟩ := hb
 have hd : op = 14 ∨ (op = 9 ∨ op = 10 ∨ op = 11 ∨ op = 12 ∨ op = 13) ∨ op = 15 ∨ op = 16 := by omega
 clear hop
 rcases hd with rfl | h | h
 ·
  have HR : Hid (combM ⟨14, n, wd⟩ a b 0 = wideM (a + b)) := hi_ (by simp [combM])
  have hwr : IntKind.i64.wrap (a + b) = a + b := IntWalk.i64_in _ (by omega)
  have H0 := hi_ HB
  clear HB hq0 hp0
  go_enter Tryz.func278, Tryz.ntmps278
  go_upto_region 1 with fail
  rw [← hW]
  clear hW
  have hp0 := hp _ H0.out
  go_upto_region 16 with fail
  clear hp0
  go_region_held3 (fun w' => Below W.heap.size W w') (first | exact H0.out | exact below_drew H0.out | (exact below_step (by assumption) (by assumption)) | assumption)
   (first | (go_at_call 282; refine (rwide_any (a + b) _).mono ?_; rintro e w1 ⟨rfl, rfl⟩))
  have HB5 : Hid (Below W.heap.size W _) := hi_ (by assumption)
  go_wp2
  go_ret2
  exact ⟨ret_pp HR.out, below_step HW.out HB5.out⟩
 ·
  have ho : arityM op = 2 := by unfold arityM; repeat' split <;> omega
  have h' : op ≠ 6 ∧ op ≠ 7 ∧ op ≠ 8 ∧ op ≠ 14 ∧ op ≠ 17 ∧ op ≠ 15 ∧ op ≠ 16 := by omega
  obtain ⟨n6, n7, n8, n14, n17, n15, n16⟩ := h'
  by_cases k : a = b
  ·
   have HR : Hid (combM ⟨op, n, wd⟩ a b 0 = (a, 0)) := hi_ (by simp [combM, n6, n7, n8, n14, n17, n15, n16, k])
   clear n6 n7 n8 n14 n17 n15 n16 ho
   subst k
   rcases h with rfl | rfl | rfl | rfl | rfl
   all_goals
    go_enter Tryz.func278, Tryz.ntmps278
    go_upto_region 1 with fail
    rw [← hW]
    clear hW
    go_wp2
    go_quiet (fail)
    go_wp2
    go_ret2
    exact ⟨ret_pp HR.out, below_step HW.out (by first | exact HB | exact below_drewN HB _)⟩
  ·
   have HR : Hid (combM ⟨op, n, wd⟩ a b 0 = (0, 10)) := hi_ (by simp [combM, n6, n7, n8, n14, n17, ho, k])
   have k' : (a == b) = false := bf_ k
   clear n6 n7 n8 n14 n17 n15 n16 ho
   rcases h with rfl | rfl | rfl | rfl | rfl
   all_goals
    go_enter Tryz.func278, Tryz.ntmps278
    go_upto_region 1 with fail
    rw [← hW]
    clear hW
    go_wp2
    go_quiet (fail)
    go_wp2
    go_ret2
    exact ⟨ret_pp HR.out, below_step HW.out (by first | exact HB | exact below_drewN HB _)⟩
 ·
  have ho : arityM op = 2 := by unfold arityM; repeat' split <;> omega
  have h' : op ≠ 6 ∧ op ≠ 7 ∧ op ≠ 8 ∧ op ≠ 14 ∧ op ≠ 17 := by omega
  obtain ⟨n6, n7, n8, n14, n17⟩ := h'
  by_cases k : a = b
  ·
   have HR : Hid (combM ⟨op, n, wd⟩ a b 0 = (1, 0)) := hi_ (by simp [combM, n6, n7, n8, n14, n17, h, k])
   clear n6 n7 n8 n14 n17 ho
   subst k
   rcases h with rfl | rfl
   all_goals
    go_enter Tryz.func278, Tryz.ntmps278
    go_upto_region 1 with fail
    rw [← hW]
    clear hW
    go_wp2
    go_quiet (fail)
    go_wp2
    go_ret2
    exact ⟨ret_pp HR.out, below_step HW.out (by first | exact HB | exact below_drewN HB _)⟩
  ·
   have HR : Hid (combM ⟨op, n, wd⟩ a b 0 = (0, 10)) := hi_ (by simp [combM, n6, n7, n8, n14, n17, ho, k])
   have k' : (a == b) = false := bf_ k
   clear n6 n7 n8 n14 n17 ho
   rcases h with rfl | rfl
   all_goals
    go_enter Tryz.func278, Tryz.ntmps278
    go_upto_region 1 with fail
    rw [← hW]
    clear hW
    go_wp2
    go_quiet (fail)
    go_wp2
    go_ret2
    exact ⟨ret_pp HR.out, below_step HW.out (by first | exact HB | exact below_drewN HB _)⟩
theorem roper3_any (op n wd a b d : Int) (A : Option Addr) (c : Nat) (w : World) (hop : op = 17) (ha : 0 ≤ a ∧ a ≤ 32) (hb : 0 ≤ b ∧ b ≤ 32) (hd : 0 ≤ d ∧ d ≤ 32) (hok : LOk w 1 icell ⟨[a, b, d], A, c⟩) :
  Calls Tryz.prog 278 #[.agg #[.int .i64 op, .int .i64 n, .int .i64 wd], .slice A 3 c] w fun e w' =>
   e = .returned (.tuple #[.int .i64 (combM ⟨op, n, wd⟩ a b d).1, .int .i64 (combM ⟨op, n, wd⟩ a b d).2]) ∧ Below w.heap.size w w' := by
 obtain ⟨W, hW, hw, HB, hp⟩ := box1 w #[.int .i64 op, .int .i64 n, .int .i64 wd] 302
 have HW := hi_ hw
 obtain ⟨g, o, rfl, hq⟩ := ints3 (hok.below hw (Nat.le_refl _))
 clear hok hw
 have hq0 := hq _ HB
 have hp0 := hp _ HB
 obtain ⟨ha1, ha2⟩ := ha
 obtain ⟨hb1, hb2⟩ := hb
 obtain ⟨hd1, hd2⟩ := hd
 subst hop
 by_cases k : a = 1
 ·
  by_cases k2 : b = d
  ·
   have HR : Hid (combM ⟨17, n, wd⟩ a b d = (b, 0)) := hi_ (by simp [combM, k, k2])
   subst k k2
   go_enter Tryz.func278, Tryz.ntmps278
   go_upto_region 1 with fail
   rw [← hW]
   clear hW
   go_wp2
   go_quiet (fail)
   go_wp2
   go_ret2
   exact ⟨ret_pp HR.out, below_step HW.out (by first | exact HB | exact below_drewN HB _)⟩
  ·
   have HR : Hid (combM ⟨17, n, wd⟩ a b d = (0, 10)) := hi_ (by simp [combM, k, k2])
   have k2' : (b == d) = false := bf_ k2
   subst k
   go_enter Tryz.func278, Tryz.ntmps278
   go_upto_region 1 with fail
   rw [← hW]
   clear hW
   go_wp2
   go_quiet (fail)
   go_wp2
   go_ret2
   exact ⟨ret_pp HR.out, below_step HW.out (by first | exact HB | exact below_drewN HB _)⟩
 ·
  have HR : Hid (combM ⟨17, n, wd⟩ a b d = (0, 10)) := hi_ (by simp [combM, k])
  have k' : (a == 1) = false := bf_ k
  go_enter Tryz.func278, Tryz.ntmps278
  go_upto_region 1 with fail
  rw [← hW]
  clear hW
  go_wp2
  go_quiet (fail)
  go_wp2
  go_ret2
  exact ⟨ret_pp HR.out, below_step HW.out (by first | exact HB | exact below_drewN HB _)⟩
theorem ret_i3 {a b c a' b' c' : Int} (h1 : a = a') (h2 : b = b') (h3 : c = c') : Ending.returned (.tuple #[.int .i64 a, .int .i64 b, .int .i64 c]) = .returned (.tuple #[.int .i64 a', .int .i64 b', .int .i64 c']) := by rw [h1, h2, h3]
theorem rchk_any (p : ProgD) (ps : L FieldD) (x : L NodeD) (hle : x.l.length ≤ 24) : ∀ (m i : Nat) (w : World), x.l.length < i + m → i ≤ x.l.length → ProgOk w p → LOk w 2 FieldD.cells ps → LOk w 3 NodeD.cells x →
  Calls Tryz.prog 262 #[.slice x.A x.l.length x.c, .int .i64 i, .agg (scopeCells p ps)] w fun e w' =>
   ∃ t : Int, e = .returned (.tuple #[.int .i64 (chkM p ps.l x.l m i).1, .int .i64 t, .int .i64 (chkM p ps.l x.l m i).2.2]) ∧ ((chkM p ps.l x.l m i).2.2 = 0 → t = ((chkM p ps.l x.l m i).2.1 : Int)) ∧ Below w.heap.size w w'
 | 0, i, w, h1, h2, _, _, _ => absurd h1 (by omega)
 | m + 1, i, w, h1, h2, o, hps, hx => by
  have IH := hi_ (rchk_any p ps x hle m)
  have HO := hi_ o
  have HP := hi_ hps
  have HX := hi_ hx
  have HC := hi_ (chkM.eq_2 p ps.l x.l i m)
  obtain ⟨i0, hi, hz0, hz1, hz2⟩ := info_parts (show (Tryz.prog.info? 3).map (fun i => (i.zero, i.size, i.bytes)) = some (some (.int .i64 0), 1, 8) by kernel_rfl)
  clear o hps hx
  obtain ⟨W, hW, hw, HB, hp⟩ := box1 w (scopeCells p ps) 233
  have HW := hi_ hw
  clear hw
  by_cases k0 : i < x.l.length
  case neg =>
   have HR : Hid (chkM p ps.l x.l (m + 1) i = (0, 0, 3)) := hi_ (by rw [HC.out, List.getElem?_eq_none (by omega)])
   have k0' : (x.l.length : Int) ≤ (i : Int) := by omega
   go_enter Tryz.func262, Tryz.ntmps262
   go_upto_region 1 with fail
   rw [← hW]
   clear hW
   go_wp2
   go_ret3
   exact ⟨_, ret_i3 (by rw [HR.out]) rfl (by rw [HR.out]), (by rw [HR.out]; intro h; cases h), below_step HW.out HB⟩
  case pos =>
   have HC2 := hi_ (show chkM p ps.l x.l (m + 1) i = _ by rw [HC.out, List.getElem?_eq_getElem k0])
   simp only at HC2
   obtain ⟨g, of, hA, hq⟩ := NodeD.atA (HX.out.below HW.out (Nat.le_refl _)) k0
   clear HC
   generalize x.l[i] = y at *
   obtain ⟨op, n, wd⟩ := y
   simp only at hq HC2
   simp only [hA]
   have IH2 : Hid (∀ (j : Nat) (w' : World), i < j → j ≤ x.l.length → Below W.heap.size W w' →
     Calls Tryz.prog 262 #[.slice (some ⟨g, of, none⟩) x.l.length x.c, .int .i64 j, .agg (scopeCells p ps)] w' fun e w2 =>
      ∃ t : Int, e = .returned (.tuple #[.int .i64 (chkM p ps.l x.l m j).1, .int .i64 t, .int .i64 (chkM p ps.l x.l m j).2.2]) ∧ ((chkM p ps.l x.l m j).2.2 = 0 → t = ((chkM p ps.l x.l m j).2.1 : Int)) ∧ Below w'.heap.size w' w2) :=
    hi_ (by
     intro j w' h3 h4 hb
     have := IH.out j w' (by omega) h4 (HO.out.below (below_step HW.out hb)) (HP.out.below (below_step HW.out hb) (Nat.le_refl _)) (HX.out.below (below_step HW.out hb) (Nat.le_refl _))
     rw [hA] at this
     exact this)
   have hn1 : (i : Int) < (x.l.length : Int) := by omega
   have hn2 : (i : Int) + 1 ≤ (x.l.length : Int) := by omega
   clear IH h1 h2 hA
   have hk := arityM_cases op
   have hp0 := hp _ HB
   have hq0 := hq _ HB
   go_enter Tryz.func262, Tryz.ntmps262
   go_upto_region 1 with fail
   rw [← hW]
   clear hW
   go_wp2_with fail
   refine (rarity_any op _).mono ?_
   rintro e w' ⟨rfl, rfl⟩
   generalize hko : arityM op = ko at *
   rcases hk with rfl | rfl | ⟨rfl, o1, o2⟩ | ⟨rfl, o1, o2⟩ | ⟨rfl, o1, o2⟩
   ·
    have HR : Hid (chkM p ps.l x.l (m + 1) i = (0, 0, 11)) := hi_ (by rw [HC2.out]; rfl)
    go_wp2
    go_ret3
    exact ⟨_, ret_i3 (by rw [HR.out]) rfl (by rw [HR.out]), (by rw [HR.out]; intro h; cases h), below_step HW.out HB⟩
   ·
    have HR : Hid (chkM p ps.l x.l (m + 1) i = ((primM p ps.l ⟨op, n, wd⟩).1, i + 1, (primM p ps.l ⟨op, n, wd⟩).2)) := hi_ (by rw [HC2.out]; rfl)
    have H0 := hi_ HB
    clear HB
    go_wp2
    clear hp0 hq0
    go_region_held3 (fun w' => Below W.heap.size W w') (first | exact H0.out | exact below_drew H0.out | (exact below_step (by assumption) (by assumption)) | assumption)
     (first | (go_at_call 277; refine (rleaf_any p ps op n wd _ (HO.out.below (below_step HW.out (by assumption))) (HP.out.below (below_step HW.out (by assumption)) (Nat.le_refl _))).mono ?_; rintro e w1 ⟨rfl, hb1⟩))
    have HB5 : Hid (Below W.heap.size W _) := hi_ (by assumption)
    have HB := HB5.out
    go_wp2
    go_ret3
    exact ⟨_, ret_i3 (by rw [HR.out]) rfl (by rw [HR.out]), (by rw [HR.out]; intro _; simp only; omega), below_step HW.out HB⟩
   ·
    have hopk : 5 ≤ op ∧ op ≤ 8 := by
     unfold arityM at hko
     repeat' split at hko
     all_goals omega
    have HOPK := hi_ hopk
    clear hopk o1 o2
    clear hp0 hq0
    have HOw : Hid (W.ownsRow W.heap.size 3 1 (.slice none 0 0) 0 (ints [])) := hi_ (World.ownsRow_nil _ _ _ _)
    have hp0 := hp _ HB
    have hq0 := hq _ HB
    go_wp2
    refine wp_loop_rounds 2 ?_
    rw [rounds_succ]
    have f1 := chkM_fine p ps.l x.l m (i + 1)
    go_wp2_with fail
    have hI := IH2.out (i + 1) _ (by omega) (by omega) HB
    rw [show ((i + 1 : Nat) : Int) = (i : Int) + 1 by omega] at hI
    refine hI.mono ?_
    clear hI
    rintro e v1 ⟨z1, rfl, hz1, hbN⟩
    replace HOw := hi_ (own_below HOw.out hbN)
    replace HB := below_step HB hbN
    clear hbN hp0 hq0
    generalize hr1 : chkM p ps.l x.l m (i + 1) = r1 at *
    obtain ⟨a1, t1, c1⟩ := r1
    simp only at f1 hz1
    have hp0 := hp _ HB
    have hq0 := hq _ HB
    by_cases kc : c1 = 0
    case neg =>
     have HR : Hid (chkM p ps.l x.l (m + 1) i = (0, 0, c1)) := hi_ (by rw [HC2.out]; simp [kc])
     have kc' : (c1 == 0) = false := bf_ kc
     have KC := hi_ kc
     clear kc
     go_wp2
     go_ret3
     exact ⟨_, ret_i3 (by rw [HR.out]) rfl (by rw [HR.out]), (by rw [HR.out]; intro h; exact absurd h KC.out), below_step HW.out HB⟩
    subst kc
    obtain ⟨p11, p12, p13, p14⟩ := f1 rfl
    obtain rfl := hz1 rfl
    clear f1 hz1
    have HBH := hi_ HB
    have hsz := HB.size
    go_wp2_with (first
     | (at_builtin; refine wpList_append_own _ rfl _ _ 29 rfl W.heap.size 3 i0 _ 1 8 Tryz.underlying29 hi hz0 hz1 hz2 rfl (by decide) _ 0 (ints []) rfl (HOw.out.alloc _) ⟨v1.heap.size, 0, none⟩ 1 1 [.int .i64 a1] rfl rfl ?c1 ?c2 ?c3 ?c4 ?c5 ?_))
    case c1 =>
     intro j v hj
     match j, hj with
     | 0, hj => simp at hj; subst hj; simp [Addr.add]
    case c2 => intro u hu; simp at hu; subst hu; rfl
    case c3 => unfold maxLen; omega
    case c4 => omega
    case c5 => simp; omega
    intro s1 y1 hown2 hgrow _
    have hb2 := below_alloc HBH.out (.cells #[.int .i64 a1] 3)
    have HB2 : Below W.heap.size W y1 := hb2.grown hgrow hb2.size fun j hj => (HOw.out.lt j hj).1
    obtain ⟨A1, q1, rfl⟩ : ∃ A' c', s1 = .slice A' 1 c' := by
     rcases hown2.2 with ⟨hv, h0⟩ | ⟨g', cap, cur, hv, _, _, _⟩
     · omega
     · exact ⟨_, _, hv⟩
    replace HOw := hi_ (show y1.ownsRow W.heap.size 3 1 (.slice A1 1 q1) 1 (ints [a1]) from hown2)
    replace HB := HB2
    clear hb2 HB2 HBH hsz hp0 hq0 hown2 hgrow
    have hp0 := hp _ HB
    have hq0 := hq _ HB
    go_wp2
    rw [rounds_succ]
    have HR : Hid (chkM p ps.l x.l (m + 1) i = ((combM ⟨op, n, wd⟩ a1 0 0).1, t1, (combM ⟨op, n, wd⟩ a1 0 0).2)) := hi_ (by rw [HC2.out]; simp)
    have HL := hi_ (own_lok (l := [a1]) HOw.out (by simp [maxLen]))
    go_wp2_with fail
    refine (roper1_any op n wd a1 A1 q1 _ HOPK.out (by omega) HL.out).mono ?_
    rintro e u ⟨rfl, hbN⟩
    replace HB := below_step HB hbN
    clear hbN hp0 hq0
    go_wp2
    go_ret3
    exact ⟨_, ret_i3 (by rw [HR.out]) rfl (by rw [HR.out]), (by rw [HR.out]; intro _; rfl), below_step HW.out HB⟩
   ·
    have hopk : 9 ≤ op ∧ op ≤ 16 := by
     unfold arityM at hko
     repeat' split at hko
     all_goals omega
    have HOPK := hi_ hopk
    clear hopk o1 o2
    clear hp0 hq0
    have HOw : Hid (W.ownsRow W.heap.size 3 1 (.slice none 0 0) 0 (ints [])) := hi_ (World.ownsRow_nil _ _ _ _)
    have hp0 := hp _ HB
    have hq0 := hq _ HB
    go_wp2
    refine wp_loop_rounds 3 ?_
    rw [rounds_succ]
    have f1 := chkM_fine p ps.l x.l m (i + 1)
    go_wp2_with fail
    have hI := IH2.out (i + 1) _ (by omega) (by omega) HB
    rw [show ((i + 1 : Nat) : Int) = (i : Int) + 1 by omega] at hI
    refine hI.mono ?_
    clear hI
    rintro e v1 ⟨z1, rfl, hz1, hbN⟩
    replace HOw := hi_ (own_below HOw.out hbN)
    replace HB := below_step HB hbN
    clear hbN hp0 hq0
    generalize hr1 : chkM p ps.l x.l m (i + 1) = r1 at *
    obtain ⟨a1, t1, c1⟩ := r1
    simp only at f1 hz1
    have hp0 := hp _ HB
    have hq0 := hq _ HB
    by_cases kc : c1 = 0
    case neg =>
     have HR : Hid (chkM p ps.l x.l (m + 1) i = (0, 0, c1)) := hi_ (by rw [HC2.out]; simp [kc])
     have kc' : (c1 == 0) = false := bf_ kc
     have KC := hi_ kc
     clear kc
     go_wp2
     go_ret3
     exact ⟨_, ret_i3 (by rw [HR.out]) rfl (by rw [HR.out]), (by rw [HR.out]; intro h; exact absurd h KC.out), below_step HW.out HB⟩
    subst kc
    obtain ⟨p11, p12, p13, p14⟩ := f1 rfl
    obtain rfl := hz1 rfl
    clear f1 hz1
    have HBH := hi_ HB
    have hsz := HB.size
    go_wp2_with (first
     | (at_builtin; refine wpList_append_own _ rfl _ _ 29 rfl W.heap.size 3 i0 _ 1 8 Tryz.underlying29 hi hz0 hz1 hz2 rfl (by decide) _ 0 (ints []) rfl (HOw.out.alloc _) ⟨v1.heap.size, 0, none⟩ 1 1 [.int .i64 a1] rfl rfl ?c1 ?c2 ?c3 ?c4 ?c5 ?_))
    case c1 =>
     intro j v hj
     match j, hj with
     | 0, hj => simp at hj; subst hj; simp [Addr.add]
    case c2 => intro u hu; simp at hu; subst hu; rfl
    case c3 => unfold maxLen; omega
    case c4 => omega
    case c5 => simp; omega
    intro s1 y1 hown2 hgrow _
    have hb2 := below_alloc HBH.out (.cells #[.int .i64 a1] 3)
    have HB2 : Below W.heap.size W y1 := hb2.grown hgrow hb2.size fun j hj => (HOw.out.lt j hj).1
    obtain ⟨A1, q1, rfl⟩ : ∃ A' c', s1 = .slice A' 1 c' := by
     rcases hown2.2 with ⟨hv, h0⟩ | ⟨g', cap, cur, hv, _, _, _⟩
     · omega
     · exact ⟨_, _, hv⟩
    replace HOw := hi_ (show y1.ownsRow W.heap.size 3 1 (.slice A1 1 q1) 1 (ints [a1]) from hown2)
    replace HB := HB2
    clear hb2 HB2 HBH hsz hp0 hq0 hown2 hgrow
    have hp0 := hp _ HB
    have hq0 := hq _ HB
    go_wp2
    rw [rounds_succ]
    have f2 := chkM_fine p ps.l x.l m t1
    go_wp2_with fail
    have hI := IH2.out t1 _ (by omega) (by omega) HB
    refine hI.mono ?_
    clear hI
    rintro e v2 ⟨z2, rfl, hz2, hbN⟩
    replace HOw := hi_ (own_below HOw.out hbN)
    replace HB := below_step HB hbN
    clear hbN hp0 hq0
    generalize hr2 : chkM p ps.l x.l m t1 = r2 at *
    obtain ⟨a2, t2, c2⟩ := r2
    simp only at f2 hz2
    have hp0 := hp _ HB
    have hq0 := hq _ HB
    by_cases kc : c2 = 0
    case neg =>
     have HR : Hid (chkM p ps.l x.l (m + 1) i = (0, 0, c2)) := hi_ (by rw [HC2.out]; simp [kc])
     have kc' : (c2 == 0) = false := bf_ kc
     have KC := hi_ kc
     clear kc
     go_wp2
     go_ret3
     exact ⟨_, ret_i3 (by rw [HR.out]) rfl (by rw [HR.out]), (by rw [HR.out]; intro h; exact absurd h KC.out), below_step HW.out HB⟩
    subst kc
    obtain ⟨p21, p22, p23, p24⟩ := f2 rfl
    obtain rfl := hz2 rfl
    clear f2 hz2
    have HBH := hi_ HB
    have hsz := HB.size
    go_wp2_with (first
     | (at_builtin; refine wpList_append_own _ rfl _ _ 29 rfl W.heap.size 3 i0 _ 1 8 Tryz.underlying29 hi hz0 hz1 hz2 rfl (by decide) _ 1 (ints [a1]) rfl (HOw.out.alloc _) ⟨v2.heap.size, 0, none⟩ 1 1 [.int .i64 a2] rfl rfl ?c1 ?c2 ?c3 ?c4 ?c5 ?_))
    case c1 =>
     intro j v hj
     match j, hj with
     | 0, hj => simp at hj; subst hj; simp [Addr.add]
    case c2 => intro u hu; simp at hu; subst hu; rfl
    case c3 => unfold maxLen; omega
    case c4 => omega
    case c5 => simp; omega
    intro s2 y2 hown2 hgrow _
    have hb2 := below_alloc HBH.out (.cells #[.int .i64 a2] 3)
    have HB2 : Below W.heap.size W y2 := hb2.grown hgrow hb2.size fun j hj => (HOw.out.lt j hj).1
    obtain ⟨A2, q2, rfl⟩ : ∃ A' c', s2 = .slice A' 2 c' := by
     rcases hown2.2 with ⟨hv, h0⟩ | ⟨g', cap, cur, hv, _, _, _⟩
     · omega
     · exact ⟨_, _, hv⟩
    replace HOw := hi_ (show y2.ownsRow W.heap.size 3 1 (.slice A2 2 q2) 2 (ints [a1, a2]) from hown2)
    replace HB := HB2
    clear hb2 HB2 HBH hsz hp0 hq0 hown2 hgrow
    have hp0 := hp _ HB
    have hq0 := hq _ HB
    go_wp2
    rw [rounds_succ]
    have HR : Hid (chkM p ps.l x.l (m + 1) i = ((combM ⟨op, n, wd⟩ a1 a2 0).1, t2, (combM ⟨op, n, wd⟩ a1 a2 0).2)) := hi_ (by rw [HC2.out]; simp)
    have HL := hi_ (own_lok (l := [a1, a2]) HOw.out (by simp [maxLen]))
    go_wp2_with fail
    refine (roper2_any op n wd a1 a2 A2 q2 _ HOPK.out (by omega) (by omega) HL.out).mono ?_
    rintro e u ⟨rfl, hbN⟩
    replace HB := below_step HB hbN
    clear hbN hp0 hq0
    go_wp2
    go_ret3
    exact ⟨_, ret_i3 (by rw [HR.out]) rfl (by rw [HR.out]), (by rw [HR.out]; intro _; rfl), below_step HW.out HB⟩
   ·
    have hopk : op = 17 := by
     unfold arityM at hko
     repeat' split at hko
     all_goals omega
    have HOPK := hi_ hopk
    clear hopk o1 o2
    clear hp0 hq0
    have HOw : Hid (W.ownsRow W.heap.size 3 1 (.slice none 0 0) 0 (ints [])) := hi_ (World.ownsRow_nil _ _ _ _)
    have hp0 := hp _ HB
    have hq0 := hq _ HB
    go_wp2
    refine wp_loop_rounds 4 ?_
    rw [rounds_succ]
    have f1 := chkM_fine p ps.l x.l m (i + 1)
    go_wp2_with fail
    have hI := IH2.out (i + 1) _ (by omega) (by omega) HB
    rw [show ((i + 1 : Nat) : Int) = (i : Int) + 1 by omega] at hI
    refine hI.mono ?_
    clear hI
    rintro e v1 ⟨z1, rfl, hz1, hbN⟩
    replace HOw := hi_ (own_below HOw.out hbN)
    replace HB := below_step HB hbN
    clear hbN hp0 hq0
    generalize hr1 : chkM p ps.l x.l m (i + 1) = r1 at *
    obtain ⟨a1, t1, c1⟩ := r1
    simp only at f1 hz1
    have hp0 := hp _ HB
    have hq0 := hq _ HB
    by_cases kc : c1 = 0
    case neg =>
     have HR : Hid (chkM p ps.l x.l (m + 1) i = (0, 0, c1)) := hi_ (by rw [HC2.out]; simp [kc])
     have kc' : (c1 == 0) = false := bf_ kc
     have KC := hi_ kc
     clear kc
     go_wp2
     go_ret3
     exact ⟨_, ret_i3 (by rw [HR.out]) rfl (by rw [HR.out]), (by rw [HR.out]; intro h; exact absurd h KC.out), below_step HW.out HB⟩
    subst kc
    obtain ⟨p11, p12, p13, p14⟩ := f1 rfl
    obtain rfl := hz1 rfl
    clear f1 hz1
    have HBH := hi_ HB
    have hsz := HB.size
    go_wp2_with (first
     | (at_builtin; refine wpList_append_own _ rfl _ _ 29 rfl W.heap.size 3 i0 _ 1 8 Tryz.underlying29 hi hz0 hz1 hz2 rfl (by decide) _ 0 (ints []) rfl (HOw.out.alloc _) ⟨v1.heap.size, 0, none⟩ 1 1 [.int .i64 a1] rfl rfl ?c1 ?c2 ?c3 ?c4 ?c5 ?_))
    case c1 =>
     intro j v hj
     match j, hj with
     | 0, hj => simp at hj; subst hj; simp [Addr.add]
    case c2 => intro u hu; simp at hu; subst hu; rfl
    case c3 => unfold maxLen; omega
    case c4 => omega
    case c5 => simp; omega
    intro s1 y1 hown2 hgrow _
    have hb2 := below_alloc HBH.out (.cells #[.int .i64 a1] 3)
    have HB2 : Below W.heap.size W y1 := hb2.grown hgrow hb2.size fun j hj => (HOw.out.lt j hj).1
    obtain ⟨A1, q1, rfl⟩ : ∃ A' c', s1 = .slice A' 1 c' := by
     rcases hown2.2 with ⟨hv, h0⟩ | ⟨g', cap, cur, hv, _, _, _⟩
     · omega
     · exact ⟨_, _, hv⟩
    replace HOw := hi_ (show y1.ownsRow W.heap.size 3 1 (.slice A1 1 q1) 1 (ints [a1]) from hown2)
    replace HB := HB2
    clear hb2 HB2 HBH hsz hp0 hq0 hown2 hgrow
    have hp0 := hp _ HB
    have hq0 := hq _ HB
    go_wp2
    rw [rounds_succ]
    have f2 := chkM_fine p ps.l x.l m t1
    go_wp2_with fail
    have hI := IH2.out t1 _ (by omega) (by omega) HB
    refine hI.mono ?_
    clear hI
    rintro e v2 ⟨z2, rfl, hz2, hbN⟩
    replace HOw := hi_ (own_below HOw.out hbN)
    replace HB := below_step HB hbN
    clear hbN hp0 hq0
    generalize hr2 : chkM p ps.l x.l m t1 = r2 at *
    obtain ⟨a2, t2, c2⟩ := r2
    simp only at f2 hz2
    have hp0 := hp _ HB
    have hq0 := hq _ HB
    by_cases kc : c2 = 0
    case neg =>
     have HR : Hid (chkM p ps.l x.l (m + 1) i = (0, 0, c2)) := hi_ (by rw [HC2.out]; simp [kc])
     have kc' : (c2 == 0) = false := bf_ kc
     have KC := hi_ kc
     clear kc
     go_wp2
     go_ret3
     exact ⟨_, ret_i3 (by rw [HR.out]) rfl (by rw [HR.out]), (by rw [HR.out]; intro h; exact absurd h KC.out), below_step HW.out HB⟩
    subst kc
    obtain ⟨p21, p22, p23, p24⟩ := f2 rfl
    obtain rfl := hz2 rfl
    clear f2 hz2
    have HBH := hi_ HB
    have hsz := HB.size
    go_wp2_with (first
     | (at_builtin; refine wpList_append_own _ rfl _ _ 29 rfl W.heap.size 3 i0 _ 1 8 Tryz.underlying29 hi hz0 hz1 hz2 rfl (by decide) _ 1 (ints [a1]) rfl (HOw.out.alloc _) ⟨v2.heap.size, 0, none⟩ 1 1 [.int .i64 a2] rfl rfl ?c1 ?c2 ?c3 ?c4 ?c5 ?_))
    case c1 =>
     intro j v hj
     match j, hj with
     | 0, hj => simp at hj; subst hj; simp [Addr.add]
    case c2 => intro u hu; simp at hu; subst hu; rfl
    case c3 => unfold maxLen; omega
    case c4 => omega
    case c5 => simp; omega
    intro s2 y2 hown2 hgrow _
    have hb2 := below_alloc HBH.out (.cells #[.int .i64 a2] 3)
    have HB2 : Below W.heap.size W y2 := hb2.grown hgrow hb2.size fun j hj => (HOw.out.lt j hj).1
    obtain ⟨A2, q2, rfl⟩ : ∃ A' c', s2 = .slice A' 2 c' := by
     rcases hown2.2 with ⟨hv, h0⟩ | ⟨g', cap, cur, hv, _, _, _⟩
     · omega
     · exact ⟨_, _, hv⟩
    replace HOw := hi_ (show y2.ownsRow W.heap.size 3 1 (.slice A2 2 q2) 2 (ints [a1, a2]) from hown2)
    replace HB := HB2
    clear hb2 HB2 HBH hsz hp0 hq0 hown2 hgrow
    have hp0 := hp _ HB
    have hq0 := hq _ HB
    go_wp2
    rw [rounds_succ]
    have f3 := chkM_fine p ps.l x.l m t2
    go_wp2_with fail
    have hI := IH2.out t2 _ (by omega) (by omega) HB
    refine hI.mono ?_
    clear hI
    rintro e v3 ⟨z3, rfl, hz3, hbN⟩
    replace HOw := hi_ (own_below HOw.out hbN)
    replace HB := below_step HB hbN
    clear hbN hp0 hq0
    generalize hr3 : chkM p ps.l x.l m t2 = r3 at *
    obtain ⟨a3, t3, c3⟩ := r3
    simp only at f3 hz3
    have hp0 := hp _ HB
    have hq0 := hq _ HB
    by_cases kc : c3 = 0
    case neg =>
     have HR : Hid (chkM p ps.l x.l (m + 1) i = (0, 0, c3)) := hi_ (by rw [HC2.out]; simp [kc])
     have kc' : (c3 == 0) = false := bf_ kc
     have KC := hi_ kc
     clear kc
     go_wp2
     go_ret3
     exact ⟨_, ret_i3 (by rw [HR.out]) rfl (by rw [HR.out]), (by rw [HR.out]; intro h; exact absurd h KC.out), below_step HW.out HB⟩
    subst kc
    obtain ⟨p31, p32, p33, p34⟩ := f3 rfl
    obtain rfl := hz3 rfl
    clear f3 hz3
    have HBH := hi_ HB
    have hsz := HB.size
    go_wp2_with (first
     | (at_builtin; refine wpList_append_own _ rfl _ _ 29 rfl W.heap.size 3 i0 _ 1 8 Tryz.underlying29 hi hz0 hz1 hz2 rfl (by decide) _ 2 (ints [a1, a2]) rfl (HOw.out.alloc _) ⟨v3.heap.size, 0, none⟩ 1 1 [.int .i64 a3] rfl rfl ?c1 ?c2 ?c3 ?c4 ?c5 ?_))
    case c1 =>
     intro j v hj
     match j, hj with
     | 0, hj => simp at hj; subst hj; simp [Addr.add]
    case c2 => intro u hu; simp at hu; subst hu; rfl
    case c3 => unfold maxLen; omega
    case c4 => omega
    case c5 => simp; omega
    intro s3 y3 hown2 hgrow _
    have hb2 := below_alloc HBH.out (.cells #[.int .i64 a3] 3)
    have HB2 : Below W.heap.size W y3 := hb2.grown hgrow hb2.size fun j hj => (HOw.out.lt j hj).1
    obtain ⟨A3, q3, rfl⟩ : ∃ A' c', s3 = .slice A' 3 c' := by
     rcases hown2.2 with ⟨hv, h0⟩ | ⟨g', cap, cur, hv, _, _, _⟩
     · omega
     · exact ⟨_, _, hv⟩
    replace HOw := hi_ (show y3.ownsRow W.heap.size 3 1 (.slice A3 3 q3) 3 (ints [a1, a2, a3]) from hown2)
    replace HB := HB2
    clear hb2 HB2 HBH hsz hp0 hq0 hown2 hgrow
    have hp0 := hp _ HB
    have hq0 := hq _ HB
    go_wp2
    rw [rounds_succ]
    have HR : Hid (chkM p ps.l x.l (m + 1) i = ((combM ⟨op, n, wd⟩ a1 a2 a3).1, t3, (combM ⟨op, n, wd⟩ a1 a2 a3).2)) := hi_ (by rw [HC2.out]; simp)
    have HL := hi_ (own_lok (l := [a1, a2, a3]) HOw.out (by simp [maxLen]))
    go_wp2_with fail
    refine (roper3_any op n wd a1 a2 a3 A3 q3 _ HOPK.out (by omega) (by omega) (by omega) HL.out).mono ?_
    rintro e u ⟨rfl, hbN⟩
    replace HB := below_step HB hbN
    clear hbN hp0 hq0
    go_wp2
    go_ret3
    exact ⟨_, ret_i3 (by rw [HR.out]) rfl (by rw [HR.out]), (by rw [HR.out]; intro _; rfl), below_step HW.out HB⟩
theorem rexprCheck_any (p : ProgD) (ps : L FieldD) (x : L NodeD) (w : World) (o : ProgOk w p) (hps : LOk w 2 FieldD.cells ps) (hx : LOk w 3 NodeD.cells x) :
  Calls Tryz.prog 235 #[.slice x.A x.l.length x.c, .agg (scopeCells p ps)] w fun e w' => e = .returned (.tuple #[.int .i64 (exprM p ps.l x.l).1, .int .i64 (exprM p ps.l x.l).2]) ∧ Below w.heap.size w w' := by
 have HO := hi_ o
 have HP := hi_ hps
 have HX := hi_ hx
 have hm := hx.1
 clear o hps hx
 obtain ⟨W, hW, hw, HB, hp⟩ := box1 w (scopeCells p ps) 233
 have HW := hi_ hw
 clear hw
 by_cases h1 : 24 < x.l.length
 ·
  have HR := hi_ (show exprM p ps.l x.l = (0, 12) by rw [exprM, if_pos h1])
  go_enter Tryz.func235, Tryz.ntmps235
  go_wp2
  go_ret2
  exact ⟨ret_pp HR.out, below1 _ _⟩
 have HR := hi_ (show exprM p ps.l x.l = _ by rw [exprM, if_neg h1])
 have hf := chkM_fine p ps.l x.l (x.l.length + 1) 0
 have hle : x.l.length ≤ 24 := by omega
 go_enter Tryz.func235, Tryz.ntmps235
 go_upto_region 1 with fail
 rw [← hW]
 clear hW
 go_wp2_with fail
 refine (rchk_any p ps x hle (x.l.length + 1) 0 _ (by omega) (by omega) (HO.out.below (below_step HW.out (by first | exact HB | exact ba1 HB | exact ba2 HB | exact ba3 HB))) (HP.out.below (below_step HW.out (by first | exact HB | exact ba1 HB | exact ba2 HB | exact ba3 HB)) (Nat.le_refl _)) (HX.out.below (below_step HW.out (by first | exact HB | exact ba1 HB | exact ba2 HB | exact ba3 HB)) (Nat.le_refl _))).mono ?_
 rintro e w1 ⟨z, rfl, hz, hbN⟩
 replace HB := below_step HB hbN
 clear hbN
 generalize chkM p ps.l x.l (x.l.length + 1) 0 = r at *
 obtain ⟨a, t, c⟩ := r
 simp only at HR hf hz
 by_cases k1 : c = 0
 ·
  subst k1
  obtain ⟨_, f2, _⟩ := hf rfl
  obtain rfl := hz rfl
  clear hz hf
  by_cases k2 : t < x.l.length
  ·
   replace HR : Hid (exprM p ps.l x.l = (0, 4)) := hi_ (by rw [HR.out]; simp [k2])
   go_wp2
   go_ret2
   exact ⟨ret_pp HR.out, below_step HW.out HB⟩
  ·
   replace HR : Hid (exprM p ps.l x.l = (a, 0)) := hi_ (by rw [HR.out]; simp [k2])
   go_wp2
   go_ret2
   exact ⟨ret_pp HR.out, below_step HW.out HB⟩
 ·
  have k1' : (c == 0) = false := bf_ k1
  replace HR : Hid (exprM p ps.l x.l = (0, c)) := hi_ (by rw [HR.out]; simp [k1])
  clear hz hf k1
  go_wp2
  go_ret2
  exact ⟨ret_pp HR.out, below_step HW.out HB⟩
theorem widths_any (h : HeaderD) (w : World) (o : LOk w 2 FieldD.cells h.fields) (hm : h.fields.l.length ≤ 1000) :
  Calls Tryz.prog 151 #[.agg #[.string h.name, .slice h.fields.A h.fields.l.length h.fields.c]] w fun e w' =>
   ∃ A c, e = .returned (.slice A h.fields.l.length c) ∧ LOk w' 1 icell ⟨h.fields.l.map FieldD.width, A, c⟩ ∧ Below w.heap.size w w' := by
 obtain ⟨nm, ⟨l, A0, c0⟩⟩ := h
 simp only at hm ⊢
 obtain ⟨W, hW, hw, HB, hp⟩ := box1 w #[.string nm, .slice A0 l.length c0] 98
 have HW := hi_ hw
 have HX := hi_ (o.below hw (Nat.le_refl _))
 have HB0 := hi_ HB
 obtain ⟨i0, hi, hz0, hz1, hz2⟩ := info_parts (show (Tryz.prog.info? 3).map (fun i => (i.zero, i.size, i.bytes)) = some (some (.int .i64 0), 1, 8) by kernel_rfl)
 clear o hw
 go_enter Tryz.func151, Tryz.ntmps151
 go_upto_region 1 with fail
 rw [← hW]
 clear hW
 go_wp2
 clear HB
 go_loopw [3, 5, 9] (fun ov _ iv wr => ∃ (k : Nat) (A : Option Addr) (c : Nat), k ≤ l.length ∧ iv = .int .i64 k ∧ ov = .slice A k c ∧ wr.ownsRow W.heap.size 3 1 (.slice A k c) k (ints ((l.take k).map FieldD.width)) ∧ Below W.heap.size W wr)
  (fun _ _ i _ => l.length - (intOf i).toNat)
 case atStart => exact ⟨0, none, 0, Nat.zero_le _, rfl, rfl, World.ownsRow_nil _ _ _ _, HB0.out⟩
 case round =>
  obtain ⟨k, A, c, hk, rfl, rfl, hown, HB⟩ := hrel
  by_cases hlt : k < l.length
  ·
   obtain ⟨g, of, hA, d0, d1⟩ := FieldD.at (HX.out.below HB (Nat.le_refl _)) hlt
   simp only at hA d0 d1
   subst hA
   have HT : Hid (l.take (k + 1) = l.take k ++ [l[k]]) := hi_ (take_snoc l k hlt)
   generalize l[k] = y at *
   have HO := hi_ hown
   have HBH := hi_ HB
   have hsz := HW.out.size
   have hsz2 := HB.size
   clear hown
   go_wp2_with (first
    | (at_builtin; refine wpList_append_own _ rfl _ _ 29 rfl W.heap.size 3 i0 _ 1 8 Tryz.underlying29 hi hz0 hz1 hz2 rfl (by decide) _ k (ints ((l.take k).map FieldD.width)) rfl ((HO.out.alloc _).alloc _) ⟨wr.heap.size + 1, 0, none⟩ 1 1 [.int .i64 y.width] rfl rfl ?c1 ?c2 ?c3 ?c4 ?c5 ?_))
   case c1 =>
    intro j v hj
    match j, hj with
    | 0, hj => simp at hj; subst hj; simp [Addr.add]
   case c2 => intro u hu; simp at hu; subst hu; rfl
   case c3 => unfold maxLen; omega
   case c4 => omega
   case c5 => simp; omega
   intro v' w2 hown2 hgrow _
   have hb2 := below_alloc (below_alloc HBH.out (.cells #[.string y.name, .int .i64 y.width] 104)) (.cells #[.int .i64 y.width] 3)
   have hbel2 : Below W.heap.size W w2 := hb2.grown hgrow hb2.size fun j hj => (HO.out.lt j hj).1
   obtain ⟨A', c', rfl⟩ : ∃ A' c', v' = .slice A' (k + 1) c' := by
    rcases hown2.2 with ⟨hv, h0⟩ | ⟨g', cap, cur, hv, _, _, _⟩
    · omega
    · exact ⟨_, _, hv⟩
   clear hb2
   go_wp2
   go_roundw
   case rel =>
    refine ⟨k + 1, A', c', by omega, by go_num, rfl, ?_, hbel2⟩
    rw [HT.out, List.map_append]
    simpa [ints] using hown2
   case measure => simp [intOf]; omega
  ·
   have hk' : k = l.length := by omega
   subst hk'
   rw [List.take_length] at hown
   have HL := hi_ (own_lok (l := l.map FieldD.width) (by simpa using hown) (by rw [List.length_map]; unfold maxLen; omega))
   clear hown
   go_wp2
   go_ret
   exact ⟨A, c, rfl, HL.out, below_step HW.out HB⟩
theorem sumI_snoc (l : List Int) (x : Int) : (l ++ [x]).sum = l.sum + x := by simp [List.sum_append]
theorem sumI_bound (l : List Int) (h : ∀ x ∈ l, 1 ≤ x ∧ x ≤ 32) : 0 ≤ l.sum ∧ l.sum ≤ 32 * l.length := by
 induction l with
 | nil => exact ⟨Int.le_refl _, Int.le_refl _⟩
 | cons x l ih =>
  have h1 := ih (fun y hy => h y (List.mem_cons_of_mem _ hy))
  have h2 := h x List.mem_cons_self
  rw [List.sum_cons, List.length_cons]
  omega
theorem hsum_any (x : L Int) (w : World) (o : LOk w 1 icell x) (hm : x.l.length ≤ 1000) (hx : ∀ v ∈ x.l, 1 ≤ v ∧ v ≤ 32) :
  Calls Tryz.prog 150 #[.slice x.A x.l.length x.c] w fun e w' => e = .returned (.int .i64 x.l.sum) ∧ w = w' := by
 obtain ⟨l, A, c⟩ := x
 have HO := hi_ o
 have HX := hi_ hx
 simp only at hm HX ⊢
 clear o hx
 go_enter Tryz.func150, Tryz.ntmps150
 go_wp2
 go_loopw [3, 5, 8] (fun nv _ iv wr => ∃ k : Nat, k ≤ l.length ∧ iv = .int .i64 k ∧ nv = .int .i64 (l.take k).sum ∧ w = wr) (fun _ _ i _ => l.length - (intOf i).toNat)
 case atStart => exact ⟨0, Nat.zero_le _, rfl, rfl, rfl⟩
 case round =>
  obtain ⟨k, hk, rfl, rfl, rfl⟩ := hrel
  by_cases hlt : k < l.length
  ·
   obtain ⟨g, of, hA, d0⟩ := icell_at HO.out hlt
   simp only at hA d0
   subst hA
   have HT : Hid ((l.take (k + 1)).sum = (l.take k).sum + l[k]) := hi_ (by rw [take_snoc l k hlt, sumI_snoc])
   have hb := sumI_bound (l.take k) (fun y hy => HX.out y (List.mem_of_mem_take hy))
   have hy := HX.out _ (List.getElem_mem hlt)
   rw [List.length_take] at hb
   obtain ⟨b1, b2⟩ := hb
   obtain ⟨y1, y2⟩ := hy
   generalize l[k] = y at *
   generalize (l.take k).sum = s at *
   go_wp2
   go_roundw
   case rel => exact ⟨k + 1, by omega, by go_num, by rw [HT.out], by trivial⟩
   case measure => simp [intOf]; omega
  ·
   have e : k = l.length := by omega
   have HT : Hid ((l.take k).sum = l.sum) := hi_ (by rw [e, List.take_length])
   go_wp2
   go_ret
   exact ⟨by rw [HT.out]; rfl, rfl⟩
theorem hdrM_eq (h : HeaderD) : hdrM h = if ident h.name = false then 6 else if h.fields.l.length = 0 then 8 else if 12 < h.fields.l.length then 12
 else match firstE h.fields.l.length (fldM h.fields.l) with
  | some e => e
  | none => if Int.tmod (widthSum h.fields.l) 8 ≠ 0 then 10 else 0 := rfl
theorem fld_fine {l : List FieldD} {i : Nat} (h : i < l.length) (hf : fldM l i = none) : okW l[i].width = true := by
 rw [fldM_at l i h] at hf
 split at hf
 · cases hf
 split at hf
 · cases hf
 ·
  rename_i h2
  simpa using h2
theorem dup_yes {l : List FieldD} {i j : Nat} (hi : i < l.length) (hj : j < i) (he : (l[j]'(by omega)).name = l[i].name) : dupB (l.map FieldD.name) i = true := by
 rw [dupB_iff (by simpa using hi)]
 exact ⟨j, by simp; omega, hj, by simpa using he⟩
theorem dup_no {l : List FieldD} {i : Nat} (hi : i < l.length) (h : ∀ j (hj : j < l.length), j < i → l[j].name ≠ l[i].name) : dupB (l.map FieldD.name) i = false := by
 rw [Bool.eq_false_iff]
 intro e
 rw [dupB_iff (by simpa using hi)] at e
 obtain ⟨k, hk, hki, he⟩ := e
 simp at hk he
 exact h k (by omega) hki he
theorem headerCheck_any (h : HeaderD) (w : World) (o : HeaderOk w h) (hc : h.fields.l.length ≤ h.fields.c) :
  Calls Tryz.prog 85 #[.agg #[.string h.name, .slice h.fields.A h.fields.l.length h.fields.c]] w fun e w' => e = .returned (.int .i64 (hdrM h)) ∧ Below w.heap.size w w' := by
 obtain ⟨nm, ⟨l, A0, c0⟩⟩ := h
 have HS : Hid (nm.size ≤ maxLen) := hi_ o.name
 have HN : Hid (∀ f ∈ l, f.name.size ≤ maxLen) := hi_ o.names
 have HR := hi_ (hdrM_eq ⟨nm, ⟨l, A0, c0⟩⟩)
 obtain ⟨W, hW, hw, HB, hp⟩ := box1 w #[.string nm, .slice A0 l.length c0] 98
 have HW := hi_ hw
 have HX := hi_ (o.fields.below hw (Nat.le_refl _))
 have HB0 := hi_ HB
 simp only at HR hc ⊢
 clear o hw
 by_cases h0 : l.length = 0
 ·
  have h0' : ((l.length : Int) == 0) = true := by rw [beq_iff_eq]; omega
  have HR2 : Hid (hdrM ⟨nm, ⟨l, A0, c0⟩⟩ = if ident nm = false then 6 else 8) := hi_ (by rw [HR.out, if_pos h0])
  clear h0
  go_enter Tryz.func85, Tryz.ntmps85
  go_upto_region 1 with fail
  rw [← hW]
  clear hW
  go_wp2_with fail
  refine (isIdent_any nm _ HS.out).mono ?_
  rintro e w' ⟨rfl, rfl⟩
  cases h1 : identM nm.data.toList
  ·
   have HR3 := tr_ HR2 (if_pos (show ident nm = false from h1))
   go_wp2
   go_ret
   exact ⟨by rw [HR3.out]; rfl, below_step HW.out HB⟩
  ·
   have HR3 := tr_ HR2 (if_neg (show ¬ ident nm = false by rw [show ident nm = true from h1]; simp))
   go_wp2
   go_ret
   exact ⟨by rw [HR3.out]; rfl, below_step HW.out HB⟩
 have h0' : ((l.length : Int) == 0) = false := by rw [beq_eq_false_iff_ne]; omega
 obtain ⟨g, of, hA, hall⟩ := FieldD.allA HX.out (show 0 < l.length by omega)
 have HAL := hi_ hall
 simp only at hA
 subst hA
 go_enter Tryz.func85, Tryz.ntmps85
 go_upto_region 1 with fail
 rw [← hW]
 clear hW hall
 go_wp2_with fail
 refine (isIdent_any nm _ HS.out).mono ?_
 rintro e w' ⟨rfl, rfl⟩
 cases h1 : identM nm.data.toList
 ·
  have HR3 := tr_ HR (if_pos (show ident nm = false from h1))
  go_wp2
  go_ret
  exact ⟨by rw [HR3.out]; rfl, below_step HW.out HB⟩
 replace HR := hi_ (HR.out.trans ((if_neg (show ¬ ident nm = false by rw [show ident nm = true from h1]; simp)).trans (if_neg h0)))
 clear h0 h1
 by_cases h12 : 12 < l.length
 ·
  have HR3 := tr_ HR (if_pos h12)
  go_wp2
  go_ret
  exact ⟨by rw [HR3.out]; rfl, below_step HW.out HB⟩
 replace HR := tr_ HR (if_neg h12)
 have h12' : l.length ≤ 12 := by omega
 clear h12
 go_wp2
 clear HB
 go_loopw [3, 4, 6, 25] (fun _ _ _ iv wr => ∃ k : Nat, k ≤ l.length ∧ iv = .int .i64 k ∧ (∀ j, j < k → fldM l j = none) ∧ Below W.heap.size W wr) (fun _ _ _ i _ => l.length - (intOf i).toNat)
 case atStart => exact ⟨0, Nat.zero_le _, rfl, fun j h => absurd h (Nat.not_lt_zero _), HB0.out⟩
 case round =>
  obtain ⟨k, hk, rfl, hpre, HB⟩ := hrel
  have HPre := hi_ hpre
  clear hpre
  by_cases hlt : k < l.length
  ·
   obtain ⟨d0, d1⟩ := HAL.out wr HB k hlt
   have HF := hi_ (fldM_at l k hlt)
   have HNk := hi_ (HN.out _ (List.getElem_mem hlt))
   have HDy : Hid (∀ j (hj : j < l.length), j < k → l[j].name = l[k].name → dupB (l.map FieldD.name) k = true) := hi_ (fun j _ hjk he => dup_yes hlt hjk he)
   have HDn : Hid ((∀ j (hj : j < l.length), j < k → l[j].name ≠ l[k].name) → dupB (l.map FieldD.name) k = false) := hi_ (dup_no hlt)
   have hca := @World.cell?_alloc_some
   generalize l[k] = y at *
   obtain ⟨yn, yw⟩ := y
   simp only at HF HNk HDy HDn d0 d1
   go_wp2_with fail
   refine (isIdent_any yn _ HNk.out).mono ?_
   rintro e w' ⟨rfl, rfl⟩
   cases h1 : identM yn.data.toList
   ·
    have HE := tr_ HF (if_pos (show ident yn = false from h1))
    have HR2 := hi_ (HR.out.trans (show _ = (6 : Int) by rw [firstE_some hlt HPre.out HE.out]))
    go_wp2
    go_ret
    exact ⟨by rw [HR2.out]; rfl, below_step HW.out (by first | exact HB | exact ba1 HB | exact ba2 HB | exact ba3 HB)⟩
   have HF1 := tr_ HF (if_neg (show ¬ ident yn = false by rw [show ident yn = true from h1]; simp))
   clear HF h1
   cases h2 : okW yw
   ·
    have HE := tr_ HF1 (if_pos h2)
    have HR2 := hi_ (HR.out.trans (show _ = (10 : Int) by rw [firstE_some hlt HPre.out HE.out]))
    have h3 : yw < 1 ∨ (1 ≤ yw ∧ 32 < yw) := by have := okW_not.1 h2; omega
    rcases h3 with h3 | ⟨h3, h4⟩
    all_goals
     go_wp2
     go_ret
     exact ⟨by rw [HR2.out]; rfl, below_step HW.out (by first | exact HB | exact ba1 HB | exact ba2 HB | exact ba3 HB)⟩
   have HF2 := tr_ HF1 (if_neg (by rw [h2]; simp))
   clear HF1
   obtain ⟨yw1, yw2⟩ := okW_iff.1 h2
   have hi1 : (k : Int) ≤ (l.length : Int) := by omega
   have hi2 : k ≤ c0 := by omega
   refine Exists.elim (box1 wr #[.string yn, .int .i64 yw] 104) ?_
   rintro U ⟨hU, hu, hUU, hbx⟩
   have HU := hi_ (below_step HB hu)
   have HUU := hi_ hUU
   have HSz : Hid (U.heap.size = wr.heap.size + 1) := hi_ (by rw [hU]; simp)
   go_wp2
   rw [← hU]
   clear hU hu hUU d0 d1 HB hca
   generalize wr.heap.size = gb at *
   go_loopw [6, 47] (fun _ iv wx => ∃ j : Nat, j ≤ k ∧ iv = .int .i64 j ∧ (∀ t (ht : t < l.length), t < j → l[t].name ≠ yn) ∧ Below U.heap.size U wx) (fun _ i _ => k - (intOf i).toNat)
   case atStart => exact ⟨0, Nat.zero_le _, rfl, fun t _ h => absurd h (Nat.not_lt_zero _), HUU.out⟩
   case round =>
    obtain ⟨j, hj, rfl, hpre2, HB⟩ := hrel
    have HPre2 := hi_ hpre2
    clear hpre2
    by_cases hlt2 : j < k
    ·
     obtain ⟨e0, e1⟩ := HAL.out wr (below_step HU.out HB) j (by omega)
     have f0 : wr.cell? ⟨gb, 0, none⟩ = some (.string yn) := hbx wr HB 0 (show 0 < 2 by decide)
     have f1 : wr.cell? ⟨gb, 1, none⟩ = some (.int .i64 yw) := hbx wr HB 1 (show 1 < 2 by decide)
     have HY := hi_ (HDy.out j (by omega) hlt2)
     have HNx : Hid (l[j].name ≠ yn → ∀ t (ht : t < l.length), t < j + 1 → l[t].name ≠ yn) := hi_ (fun hf t ht h => by
      rcases Nat.lt_succ_iff_lt_or_eq.1 h with h1 | rfl
      · exact HPre2.out t ht h1
      · exact hf)
     generalize l[j] = z at *
     obtain ⟨zn, zw⟩ := z
     simp only at e0 e1 HY HNx
     refine Exists.elim (⟨_, rfl⟩ : ∃ V, V = wr.alloc (.cells #[.string zn, .int .i64 yw] 104)) fun V hV => ?_
     have hBz : Blk V wr.heap.size 104 #[.string zn, .int .i64 yw] := by rw [hV]; exact Blk.new _ _ _
     have hBV : Below U.heap.size U V := by rw [hV]; exact below_alloc HB _
     have HBV := hi_ hBV
     have g0 : V.cell? ⟨wr.heap.size, 0, none⟩ = some (.string zn) := hBz.cell 0
     have g1 : V.cell? ⟨wr.heap.size, 1, none⟩ = some (.int .i64 yw) := hBz.cell 1
     have f2 : V.cell? ⟨gb, 0, none⟩ = some (.string yn) := hbx V hBV 0 (show 0 < 2 by decide)
     have f3 : V.cell? ⟨gb, 1, none⟩ = some (.int .i64 yw) := hbx V hBV 1 (show 1 < 2 by decide)
     have hca := @World.cell?_alloc_some
     clear hBz hBV
     go_upto_region 18 with fail
     rw [← hV]
     clear hV e0 e1 f0 f1 hca HB
     by_cases he : zn = yn
     ·
      have HE := tr_ HF2 (if_pos (HY.out he))
      have HR2 := hi_ (HR.out.trans (show _ = (7 : Int) by rw [firstE_some hlt HPre.out HE.out]))
      have he' := toList_true he
      clear he
      go_wp2
      go_ret
      exact ⟨by rw [HR2.out]; rfl, below_step HW.out (below_step HU.out HBV.out)⟩
     ·
      have he' := toList_false he
      have HN2 := hi_ (HNx.out he)
      clear he
      go_wp2
      go_roundw
      case rel => exact ⟨j + 1, by omega, by go_num, HN2.out, HBV.out⟩
      case measure => simp [intOf]; omega
    ·
     have HE := hi_ (HF2.out.trans (if_neg (by rw [HDn.out (fun t ht h => HPre2.out t ht (by omega))]; simp)))
     go_wp2
     go_roundw
     case rel => exact ⟨k + 1, by omega, by go_num, firstE_step HPre.out HE.out, below_step HU.out HB⟩
     case measure => simp [intOf]; omega
  ·
   have e : k = l.length := by omega
   have hpre := HPre.out
   rw [e] at hpre
   have HR2 := hi_ (HR.out.trans (show _ = (if Int.tmod (l.map FieldD.width).sum 8 ≠ 0 then (10 : Int) else 0) by rw [firstE_none hpre, widthSum]))
   have hfine : ∀ v ∈ l.map FieldD.width, 1 ≤ v ∧ v ≤ 32 := by
    intro v hv
    obtain ⟨f, hf, rfl⟩ := List.mem_map.1 hv
    obtain ⟨i, hi, rfl⟩ := List.mem_iff_getElem.1 hf
    exact okW_iff.1 (fld_fine hi (hpre i hi))
   have HFi := hi_ hfine
   clear e hpre hfine HPre
   go_wp2_with fail
   refine (widths_any ⟨nm, ⟨l, some ⟨g, of, none⟩, c0⟩⟩ wr (HX.out.below HB (Nat.le_refl _)) (by simp only; omega)).mono ?_
   rintro e w2 ⟨A, c, rfl, hl, hb2⟩
   replace HB := below_step HB hb2
   clear hb2
   go_wp2_with fail
   have hs := hsum_any ⟨l.map FieldD.width, A, c⟩ w2 hl (by simp only [List.length_map]; omega) HFi.out
   simp only [List.length_map] at hs
   refine hs.mono ?_
   rintro e w3 ⟨rfl, rfl⟩
   clear hs hl
   have hbd := sumI_bound _ HFi.out
   rw [List.length_map] at hbd
   obtain ⟨b1, b2⟩ := hbd
   generalize (l.map FieldD.width).sum = sm at *
   rw [Int.tmod_eq_emod_of_nonneg b1] at HR2
   by_cases h8 : sm % 8 = 0
   ·
    have HR3 := tr_ HR2 (if_neg (fun h => h h8))
    have h8' : (sm % 8 == 0) = true := beq_iff_eq.2 h8
    clear h8
    go_wp2
    go_ret
    exact ⟨by rw [HR3.out]; rfl, below_step HW.out HB⟩
   ·
    have HR3 := tr_ HR2 (if_pos h8)
    have h8' : (sm % 8 == 0) = false := bf_ h8
    clear h8
    go_wp2
    go_ret
    exact ⟨by rw [HR3.out]; rfl, below_step HW.out HB⟩
theorem rdig5R_any (c : Int) (w : World) :
  Calls Tryz.prog 137 #[.int .u8 c] w fun e w' => e = .returned (.bool (isDig c)) ∧ w = w' := by
 go_enter Tryz.func137, Tryz.ntmps137
 go_wp2
 all_goals (go_ret; exact ⟨ret_bool (by rw [Bool.eq_iff_iff]; simp [isDig]; omega), rfl⟩)
theorem isWord_letR {c : Int} (h : isLet c = true) : isWord c = true := by rw [isWord, h]; rfl
theorem ext_stepR {p : Int → Bool} {l : List UInt8} {k : Nat} (hk : k ≤ ext p l) (hlt : k < l.length) (hp : p ((l[k]'hlt).toNat : Nat) = true) : k + 1 ≤ ext p l := by
 rcases Nat.lt_or_ge k (ext p l) with h | h
 · exact h
 ·
  have e : ext p l = k := by omega
  have := ext_stop p l (by omega)
  simp only [e] at this
  rw [hp] at this
  cases this
theorem ext_endR {p : Int → Bool} {l : List UInt8} {k : Nat} (hk : k ≤ ext p l) (hlt : k < l.length) (hp : p ((l[k]'hlt).toNat : Nat) = false) : ext p l = k := by
 rcases Nat.lt_or_ge k (ext p l) with h | h
 ·
  have := ext_all p l k h
  rw [hp] at this; cases this
 · omega
end Go.Proofs.YtofjapcgbajmiaaGreatDoor
